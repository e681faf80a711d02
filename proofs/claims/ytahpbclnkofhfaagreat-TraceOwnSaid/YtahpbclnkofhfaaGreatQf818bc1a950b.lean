/- Part 1 of what the proofs of this seat rest on: see the last text of the claim. -/
import Derived.RangeFuncRecord
import Derived.RangeFuncIn
import Derived.OrdersIn
import Derived.KernelRfl
set_option linter.unusedSimpArgs false
set_option linter.unusedVariables false
set_option linter.ambiguousOpen false
set_option maxRecDepth 20000
namespace Go.Proofs.YtahpbclnkofhfaaGreat
section
abbrev Wa2:=Array Obj
abbrev Zd8 : Array Value := #[.int .i64 0,.int .i64 0,.int .i64 0,.int .i64 0,.int .i64 0,.int .i64 0,.int .i64 0]
abbrev Ws5 : Array Value := #[.int .i64 0,.int .i64 0,.int .i64 0,.int .i64 0,.int .i64 0,.int .i64 0,.int .i64 0,.int .i64 0,.int .i64 0,.int .i64 0,.int .i64 0,.int .i64 0,.int .i64 0,.int .i64 0,.int .i64 0]
abbrev kQ : Type := Value → Wa2 → Prop
abbrev aQ (b : Nat) : Addr := ⟨b, 0, none⟩
abbrev iQ (n : Int) : Value := .int .i64 n
abbrev uQ (n : Int) : Value := .int .u64 n
abbrev Env:=Nat->Value
def Wa1 (h:Wa2) (a:Addr):Option Value:=
 match h[a.block]? with
 | some (.cells c _ _)=>if a.spot.isSome then none else c[a.off]?
 | _=>none
def Ww1 (h:Wa2) (r:Nat):Option (TypeId × Nat):=
 match h[r]? with
 | some (.cells c elem _)=>some (elem,c.size)
 | _=>none
def Wx9 (h:Wa2) (a:Addr):Bool:=
 match h[a.block]? with
 | some (.cells _ _ (lo,hi))=>lo<=a.off && a.off < hi
 | _=>false
def freezeAt (h:Wa2) (a:Addr) (n:Nat):Wa2:=
 if n=0 then h else
 h.modify a.block fun
  | .cells c elem (lo,hi)=>.cells c elem (if lo == hi then (a.off,a.off+n) else (min lo a.off,max hi (a.off+n)))
  | o=>o
def ZC4 (a:Addr) (v:Value):Obj->Obj
 | .cells c elem frozen=>.cells (if a.spot.isSome then c else c.setIfInBounds a.off v) elem frozen
 | o=>o
def setC (h:Wa2) (a:Addr) (v:Value):Wa2:=h.modify a.block (ZC4 a v)
def Kd (h h':Wa2):Prop:=h.size<=h'.size/\∀D:Nat,h[D]? = some (.deferred (some []))->h'[D]? = some (.deferred (some []))
def Wi4 (v:Value) (X:Prop):Prop:=match v with | .agg _ | .tuple _=>False | _=>X
def hp {α:Type} (P:Program):Sem α->(α->Wa2->Prop)->Wa2->Prop
 | .pure a,K,h=>K a h
 | .load _ a k,K,h=>match Wa1 h a with | some v=>hp P (k v) K h | none=>False
 | .store _ a v k,K,h=>Wi4 v ((∃u,Wa1 h a=some u)/\Wx9 h a=false/\hp P k K (setC h a v))
 | .new o k,K,h=>hp P (k h.size) K (h.push o)
 | .shape r k,K,h=>hp P (k (Ww1 h r)) K h
 | .freeze a n k,K,h=>hp P k K (freezeAt h a n)
 | .frozen a k,K,h=>hp P (k (Wx9 h a)) K h
 | .getObj r k,K,h=>match h[r]? with
  | some (.cells ..)=>False
  | some o=>hp P (k o) K h
  | none=>False
 | .setObj r o k,K,h=>match h[r]? with
  | some (.map ..) | some (.mapIter ..) | some (.stringIter ..)=>hp P k K (h.setIfInBounds r o)
  | _=>False
 | .choose q k,K,h=>∀t,hp P (k (if q.forced then 0 else q.cut t)) K h
 | .sys ..,_,_=>False
 | .program k,K,h=>hp P (k P) K h
 | .mark _ k,K,h=>hp P k K h
 | .halt _,_,_=>False
def Kw (w w':World):Prop:=Kd w.heap w'.heap/\w'.os=w.os/\w'.output=w.output
def onH (w0:World) (K:kQ):Ending->World->Prop
 | .returned v,w=>K v w.heap/\Kw w0 w
 | _,_=>False
def Zr1 (P:Program) (f:FuncId) (args:Array Value) (h:Wa2) (K:kQ):Prop:=
 ∀w:World,w.heap=h->CallsIn Fence.wide 0 P f args w (onH w K)
def Zr2 (P:Program) (f:FuncId):Prop:=∀args (w:World),(callFunc f args).run P w=.ok (.enter f args) w
def Wa5 (P:Program) (f:FuncId) (args:Array Value) (h:Wa2) (K:kQ):Prop:=
 Zr2 P f/\Zr1 P f args h K
def ZC5 (P:Program) (l:Nat) (args:Array Value) (h:Wa2) (K:kQ):Prop:=
 ∀w:World,w.heap=h->∃fn tmps assign body,(Instr.yield l args).run P w=.ok (.round l fn tmps assign body) w /\
  RoundIn Fence.wide 0 P l fn tmps assign body w (onH w K)
def ZC6 (P:Program) (f:FuncId) (args:Array Value) (h:Wa2) (K:kQ):Prop:=
 hp P (callFunc f args) (λnx h'=>match nx with | .value v=>K v h' | _=>False) h
def Wv0 (P:Program) (v:Value) (args:Array Value) (h:Wa2) (K:kQ):Prop:=
 match v with
 | .func (.func f) first captured=>Wa5 P f (first ++ args ++ captured) h K
 | .func (.yield l) first _=>ZC5 P l (first ++ args) h K
 | _=>False
def YR8 (P:Program) (v:Value) (args:Array Value) (h:Wa2) (K:kQ):Prop:=
 match v with
 | .func (.func f) first captured=>ZC6 P f (first ++ args ++ captured) h K
 | _=>False
def ZR1 (P:Program) (f:Operand):Bool:=
 match f with
 | .func g=>(match P.funcs[g]? with | some fn=>fn.body.isNone | none=>false)
 | _=>false
def Wd2 (v:Value) (K:Addr->Prop):Prop:=match v with | .pointer (some a)=>K a | _=>False
def Wb2 (v:Value) (K:Option Addr->Prop):Prop:=match v with | .pointer a=>K a | _=>False
def asInt (k:IntKind) (v:Value) (K:Int->Prop):Prop:=match v with | .int k' n=>if k' = k then K n else False | _=>False
def asI (v:Value) (K:Int->Prop):Prop:=match v with | .int _ n=>K n | _=>False
def asBool (v:Value) (K:Bool->Prop):Prop:=match v with | .bool b=>K b | _=>False
def We4 (v:Value) (K:ByteArray->Prop):Prop:=match v with | .string s=>K s | _=>False
def Wb3 (v:Value) (K:Option Addr->Nat->Nat->Prop):Prop:=match v with | .slice a l c=>K a l c | _=>False
def asAgg (v:Value) (K:Array Value->Prop):Prop:=match v with | .agg cs=>K cs | _=>False
def Wh0 (v:Value) (K:Array Value->Prop):Prop:=match v with | .tuple cs=>K cs | _=>False
def W93 (v:Value) (K:Option Nat->Prop):Prop:=match v with | .map r=>K r | _=>False
def Wk1 (v:Value) (K:Bool->Prop):Prop:=match v with | .nilFunc=>K true | .func ..=>K false | _=>False
def Wb8 (v:Value) (X:Prop):Prop:=match v with | .pointer none | .nilIface | .nilFunc=>False | .func (.method _) _ _=>False | _=>X
def ifB (b:Bool) (X Y:Prop):Prop:=match b with | true=>X | false=>Y
def ldH (h:Wa2) (a:Addr) (K:Value->Prop):Prop:=match Wa1 h a with | some v=>K v | none=>False
def ldN (h:Wa2) (a:Addr) (i:Nat):Nat->List Value->(List Value->Prop)->Prop
 | 0,acc,K=>K acc.reverse
 | n+1,acc,K=>ldH h (a.add i) λv=>ldN h a (i+1) n (v :: acc) K
def stH (h:Wa2) (a:Addr) (v:Value) (K:Wa2->Prop):Prop:=Wi4 v ((∃u,Wa1 h a=some u)/\Wx9 h a=false/\K (setC h a v))
def stN (h:Wa2) (a:Addr) (i:Nat):List Value->(Wa2->Prop)->Prop
 | [],K=>K h
 | v :: vs,K=>stH h (a.add i) v λh'=>stN h' a (i+1) vs K
def und (P:Program) (t:TypeId):TypeDesc:=(P.underlying t).getD .invalid
def siz (P:Program) (t:TypeId):Nat:=match P.info? t with | some i=>i.size | none=>0
def byt (P:Program) (t:TypeId):Nat:=match P.info? t with | some i=>i.bytes | none=>0
def zer (P:Program) (t:TypeId):Option Value:=(P.info? t).bind (·.zero)
def Wf4 (P:Program) (t:TypeId):Bool:=(P.info? t).isSome && (P.underlying t).isSome
def Zd9 (P:Program) (t:TypeId):Bool:=match und P t with | .struct _ | .array _ _=>true | _=>false
def Wt8 (P:Program) (t:TypeId):List Value:=match zer P t with | some (.agg cs)=>cs.toList | some v=>[v] | none=>[]
def Wc2 (vs:Array Value) (i:Nat) (K:Value->Prop):Prop:=match vs[i]? with | some v=>K v | none=>False
def We2 (cs:Array Value) (n:Nat) (X:Prop):Prop:=match Nat.beq cs.size n with | true=>X | false=>False
def WA0 (cs:Array Value):Nat->Nat->List Value->(List Value->Prop)->Prop
 | 0,_,acc,F=>F acc.reverse
 | n+1,i,acc,F=>Wc2 cs i λv=>WA0 cs n (i+1) (v :: acc) F
def Zu3 (n:Nat) (v:Value) (K:Value->Prop):Prop:=match Nat.ble n 64 with
 | true=>asAgg v λcs=>We2 cs n (WA0 cs n 0 [] λus=>K (.agg us.toArray))
 | false=>K v
def WQ6 (P:Program) (t:TypeId) (v:Value) (K:Value->Prop):Prop:=
 match und P t with
 | .bool=>asBool v λb=>K (.bool b)
 | .int k=>asInt k v λn=>K (.int k n)
 | .string=>We4 v λs=>K (.string s)
 | .slice _=>Wb3 v λa l c=>K (.slice a l c)
 | .pointer _=>Wb2 v λa=>K (.pointer a)
 | .map _ _=>W93 v λr=>K (.map r)
 | .struct _=>Zu3 (siz P t) v K
 | .array _ _=>Zu3 (siz P t) v K
 | _=>K v
def Zu4 (n:Nat) (v:Value) (K:List Value->Prop):Prop:=match Nat.ble n 64 with
 | true=>asAgg v λcs=>We2 cs n (WA0 cs n 0 [] K)
 | false=>asAgg v λcs=>K cs.toList
def WA6 (P:Program) (t:TypeId) (v:Value) (K:List Value->Prop):Prop:=
 if Zd9 P t then Zu4 (siz P t) v K else Wi4 v (K [v])
def Yj9 (f:Operand->Value) (a:Array Operand):Array Value:=(a.toList.map f).toArray
def Ws6 (cs:List Value) (off:Nat):List Value->List Value
 | []=>cs
 | v :: vs=>Ws6 (cs.set off v) (off+1) vs
def WO5 (P:Program) (place:Nat->Option (Nat × TypeId)):List Value->List (Nat × Value)->(List Value->Prop)->Prop
 | cells,[],K=>K cells
 | cells,(i,v) :: rest,K=>
  match place i with
  | none=>False
  | some (off,t)=>WA6 P t v λcs=>
   if cs.length=siz P t/\off+siz P t<=cells.length then WO5 P place (Ws6 cells off cs) rest K else False
def YE2 (P:Program) (t:TypeId) (cs:Array Value) (off:Nat):Option Value:=
 if Zd9 P t then some (.agg (cs.extract off (off+siz P t))) else cs[off]?
def WL0 (P:Program) (t:TypeId) (cs:Array Value) (off:Nat) (K:Value->Prop):Prop:=match YE2 P t cs off with | some v=>K v | none=>False
def W01 (s:ByteArray) (i:Nat):Int:=((s[i]?).map (λb=>(b.toNat:Int))).getD 0
def WI2 (P:Program) (t:TypeId) (cs:Array Value) (off:Nat):Option Value:=if Wf4 P t then YE2 P t cs off else none
def Zr3:Option Bool->Option Bool->Option Bool
 | some b,some r=>some (b && r)
 | _,_=>none
def eqv (P:Program):(d:Nat)->TypeId->Value->Value->Option Bool
 | 0,_,_,_=>none
 | d+1,t,x,y=>
  match und P t,x,y with
  | .bool,.bool a,.bool b=>some (a == b)
  | .int _,.int k a,.int k' b=>if k=k' then some (a == b) else none
  | .string,.string a,.string b=>some (a == b)
  | .struct fields,.agg xs,.agg ys=>
   if P.stoodInHeld t then none else
   fields.toList.foldr (λf acc=>
    if f.name = "_" then none else
    match WI2 P f.type xs f.offset,WI2 P f.type ys f.offset with
    | some x,some y=>Zr3 (eqv P d f.type x y) acc
    | _,_=>none) (some true)
  | .array len elem,.agg xs,.agg ys=>
   if Wf4 P elem then
   (List.range' 0 len).foldr (λi acc=>
    match WI2 P elem xs (i*siz P elem),WI2 P elem ys (i*siz P elem) with
    | some x,some y=>Zr3 (eqv P d elem x y) acc
    | _,_=>none) (some true) else none
  | _,_,_=>none
def Yk0 (P:Program) (t:TypeId) (x y:Value) (K:Bool->Prop):Prop:=
 if P.eqGuardType P.depth t then False else
 asAgg x λ_=>
 match eqv P 10000 t x y with | some b=>K b | none=>False
def Ws2:Value:=.tuple #[]
def nxt (P:Program) (K:kQ):Next->Wa2->Prop
 | .value v,h=>K v h
 | .skip,h=>K Ws2 h
 | .enter f args,h=>Zr1 P f args h K
 | _,_=>False
def opH (P:Program) (ρ:Operand->Value) (o:Oper) (h:Wa2) (K:kQ):Prop:=hp P (execOp ρ o) (nxt P K) h
def Zd2 (P:Program) (src dst:TypeId) (v:Value) (h:Wa2) (K:kQ):Prop:=hp P (convert src dst v) K h
def Zr4 (P:Program) (op:BinOp) (t:TypeId) (a b:Option Addr) (h:Wa2) (K:kQ):Prop:=hp P (binOp op t (.pointer a) (.pointer b)) K h
def ZL2 (P:Program) (argTypes:Array TypeId) (t:TypeId) (args:Array Value) (h:Wa2) (K:kQ):Prop:=hp P (Builtin.unsafeSliceData_ argTypes t args) K h
def ZR2 (P:Program) (argTypes:Array TypeId) (t:TypeId) (args:Array Value) (h:Wa2) (K:kQ):Prop:=hp P (Builtin.clear_ argTypes t args) K h
def ZL3 (P:Program) (argTypes:Array TypeId) (t:TypeId) (args:Array Value) (h:Wa2) (K:kQ):Prop:=hp P (Builtin.unsafeString_ argTypes t args) K h
def ZK0:Operand->Bool | .const (.pointer none)=>true | _=>false
def ZK1:Operand->Bool | .const (.slice none _ _)=>true | _=>false
def ZL4:Operand->Bool | .const (.map none)=>true | _=>false
def ZK2:Operand->Bool | .const .nilFunc=>true | _=>false
def W94 (k:IntKind) (op:BinOp) (a b:Int) (K:Value->Prop):Prop:=
 match op with
 | .add=>K (.int k (k.wrap (a+b)))
 | .sub=>K (.int k (k.wrap (a - b)))
 | .mul=>K (.int k (k.wrap (a*b)))
 | .quo=>b≠0/\K (.int k (k.wrap (a.tdiv b)))
 | .rem=>b≠0/\K (.int k (a.tmod b))
 | .and=>K (.int k (k.wrap ((BitVec.ofInt k.bits a) &&& (BitVec.ofInt k.bits b)).toNat))
 | .or=>K (.int k (k.wrap ((BitVec.ofInt k.bits a) ||| (BitVec.ofInt k.bits b)).toNat))
 | .xor=>K (.int k (k.wrap ((BitVec.ofInt k.bits a) ^^^ (BitVec.ofInt k.bits b)).toNat))
 | .andNot=>K (.int k (k.wrap ((BitVec.ofInt k.bits a) &&& ~~~(BitVec.ofInt k.bits b)).toNat))
 | .eql=>K (.bool (a == b))
 | .neq=>K (.bool (a != b))
 | .lss=>K (.bool (decide (a < b)))
 | .leq=>K (.bool (decide (a<=b)))
 | .gtr=>K (.bool (decide (a > b)))
 | .geq=>K (.bool (decide (a >= b)))
 | _=>False
def Zr5 (k:IntKind) (op:BinOp) (a b:Int) (K:Value->Prop):Prop:=
 match op with
 | .shl=>0<=b/\K (.int k (k.wrap (a*2 ^ (min b.toNat k.bits))))
 | .shr=>0<=b/\K (.int k (a.fdiv (2 ^ (min b.toNat k.bits))))
 | _=>False
def Wt9 (P:Program) (t:TypeId):Option IntKind:=match und P t with | .int k=>some k | _=>none
def YR9 (P:Program) (op:BinOp) (xt yt:TypeId) (x y:Operand) (ρ:Operand->Value) (o:Oper) (h:Wa2) (K:kQ):Prop:=
 match und P xt with
 | .int k=>(match op with
  | .shl | .shr=>(match Wt9 P yt with
   | some k'=>asInt k (ρ x) λa=>asInt k' (ρ y) λb=>Zr5 k op a b λv=>K v h
   | none=>False)
  | _=>asInt k (ρ x) λa=>asInt k (ρ y) λb=>W94 k op a b λv=>K v h)
 | .bool=>(match op with
  | .eql=>asBool (ρ x) λa=>asBool (ρ y) λb=>K (.bool (a == b)) h
  | .neq=>asBool (ρ x) λa=>asBool (ρ y) λb=>K (.bool (!(a == b))) h
  | _=>False)
 | .string=>(match op with
  | .eql=>We4 (ρ x) λa=>We4 (ρ y) λb=>K (.bool (a.toList == b.toList)) h
  | .neq=>We4 (ρ x) λa=>We4 (ρ y) λb=>K (.bool (!(a.toList == b.toList))) h
  | .add=>We4 (ρ x) λa=>We4 (ρ y) λb=>((a.size+b.size:Nat):Int)<=9223372036854775807/\K (.string (a ++ b)) h
  | _=>opH P ρ o h K)
 | .pointer _=>(match op,ZK0 y with
  | .eql,true=>Wb2 (ρ x) λa=>K (.bool a.isNone) h
  | .neq,true=>Wb2 (ρ x) λa=>K (.bool (!a.isNone)) h
  | .eql,false=>Wb2 (ρ x) λa=>Wb2 (ρ y) λb=>Zr4 P .eql xt a b h K
  | .neq,false=>Wb2 (ρ x) λa=>Wb2 (ρ y) λb=>Zr4 P .neq xt a b h K
  | _,_=>opH P ρ o h K)
 | .slice _=>(match op,ZK1 y with
  | .eql,true=>Wb3 (ρ x) λa _ _=>K (.bool a.isNone) h
  | .neq,true=>Wb3 (ρ x) λa _ _=>K (.bool (!a.isNone)) h
  | _,_=>opH P ρ o h K)
 | .map _ _=>(match op,ZL4 y with
  | .eql,true=>W93 (ρ x) λa=>K (.bool a.isNone) h
  | .neq,true=>W93 (ρ x) λa=>K (.bool (!a.isNone)) h
  | _,_=>opH P ρ o h K)
 | .func _ _ _=>(match op,ZK2 y with
  | .eql,true=>Wk1 (ρ x) λb=>K (.bool b) h
  | .neq,true=>Wk1 (ρ x) λb=>K (.bool (!b)) h
  | _,_=>opH P ρ o h K)
 | .struct _ | .array _ _=>(match op with
  | .eql=>Yk0 P xt (ρ x) (ρ y) λb=>K (.bool b) h
  | .neq=>Yk0 P xt (ρ x) (ρ y) λb=>K (.bool (!b)) h
  | _=>False)
 | _=>opH P ρ o h K
def Wu0 (k:Option IntKind) (v:Option Value) (dflt most:Nat) (K:Nat->Prop):Prop:=
 match v with
 | none=>K dflt
 | some v=>match k with
  | none=>asI v λi=>0<=i/\i<=most/\K i.toNat
  | some k=>asInt k v λi=>0<=i/\i<=most/\K i.toNat
def W95 (a:Option Addr) (l m n:Nat):Option Addr:=if m=l then a else a.map (·.add (l*n))
def YE3 (a:Addr) (l m n:Nat):Addr:=if m=l then a else a.add (l*n)
def WN4 (P:Program) (t:TypeId) (x:Value) (lo hi mx:Option Value) (K:Value->Prop):Prop:=
 match und P t with
 | .string=>if mx.isSome then False else We4 x λs=>
  Wu0 none hi s.size s.size λh=>Wu0 none lo 0 h λl=>K (.string (s.extract l h))
 | .slice e=>if Wf4 P e then Wb3 x λa len cap=>
  Wu0 none mx cap cap λm=>Wu0 none hi len m λh=>Wu0 none lo 0 h λl=>
   K (.slice (W95 a l m (siz P e)) (h - l) (m - l)) else False
 | .array n e=>if Wf4 P e then Wd2 x λa=>
  Wu0 none mx n n λm=>Wu0 none hi n m λh=>Wu0 none lo 0 h λl=>
   K (.slice (some (YE3 a l m (siz P e))) (h - l) (m - l)) else False
 | _=>False
def Wr4 (P:Program) (elem:TypeId) (l c:Int) (h:Wa2) (K:kQ):Prop:=
 0<=l/\l<=c/\c<=9223372036854775807/\byt P elem*c<=2 ^ 48 /\
  K (.slice (some (aQ h.size)) l.toNat c.toNat) (h.push (.cells ((List.replicate c.toNat (Wt8 P elem)).flatten.toArray) elem))
def Wt2 (P:Program) (argTypes:Array TypeId) (t:TypeId) (args:Array Value) (h:Wa2) (K:kQ):Prop:=
 hp P (Builtin.append_ argTypes t args) K h
def W37 (P:Program) (argTypes:Array TypeId) (t:TypeId) (args:Array Value) (h:Wa2) (K:kQ):Prop:=
 hp P (Builtin.copy_ argTypes t args) K h
def Zu5 (h:Wa2) (r:Option Nat) (K:Array MapEntry->Nat->Prop):Prop:=
 match r with
 | none=>K #[] 0
 | some r=>match h[r]? with | some (.map es c)=>K es c | _=>False
def ZL5 (P:Program) (t:TypeId) (x i:Value) (ok:Bool) (h:Wa2) (K:kQ):Prop:=hp P (Instr.lookup t x i ok) K h
def ZL6 (P:Program) (t:TypeId) (x i v:Value) (h:Wa2) (K:Wa2->Prop):Prop:=hp P (Instr.mapUpdate t x i v) (λ_=>K) h
def ZL7 (P:Program) (argTypes:Array TypeId) (t:TypeId) (args:Array Value) (h:Wa2) (K:kQ):Prop:=
 hp P (Builtin.delete_ argTypes t args) K h
def Wh7 (f:Int->Int->Int) (P:Program) (t:TypeId):List Value->(Int->Prop)->Prop
 | [],_=>False
 | [x],K=>(match Wt9 P t with | some k=>asInt k x K | none=>False)
 | x :: xs,K=>(match Wt9 P t with | some k=>asInt k x λa=>go f k a xs K | none=>False)
where
 go (f:Int->Int->Int) (k:IntKind) (a:Int):List Value->(Int->Prop)->Prop
  | [],K=>K a
  | y :: ys,K=>asInt k y λb=>go f k (f a b) ys K
def WY5 (x y:Int):Int:=if y > x then y else x
def WY6 (x y:Int):Int:=if y < x then y else x
def Wn9 (P:Program) (b:Builtin) (argTypes:Array TypeId) (t:TypeId) (args:List Value) (ρ:Operand->Value) (o:Oper) (h:Wa2) (K:kQ):Prop:=
 match b,args with
 | .len,[x]=>(match argTypes[0]? with
  | some t0=>(match und P t0 with
   | .slice _=>Wb3 x λ_ n _=>K (.int .i64 n) h
   | .string=>We4 x λs=>K (.int .i64 s.size) h
   | .map _ _=>W93 x λr=>Zu5 h r λes _=>K (.int .i64 es.size) h
   | .array n _=>K (.int .i64 n) h
   | _=>False)
  | none=>False)
 | .cap,[x]=>(match argTypes[0]? with
  | some t0=>(match und P t0 with
   | .slice _=>Wb3 x λ_ _ n=>K (.int .i64 n) h
   | _=>False)
  | none=>False)
 | .append,args=>Wt2 P argTypes t args.toArray h K
 | .copy,args=>W37 P argTypes t args.toArray h K
 | .delete,args=>ZL7 P argTypes t args.toArray h K
 | .unsafeSliceData,args=>ZL2 P argTypes t args.toArray h K
 | .unsafeString,args=>ZL3 P argTypes t args.toArray h K
 | .clear,args=>ZR2 P argTypes t args.toArray h K
 | .max,args=>(match Wt9 P t with | some k=>Wh7 WY5 P t args λn=>K (.int k n) h | none=>opH P ρ o h K)
 | .min,args=>(match Wt9 P t with | some k=>Wh7 WY6 P t args λn=>K (.int k n) h | none=>opH P ρ o h K)
 | _,_=>opH P ρ o h K
def vop (P:Program) (ρ:Operand->Value) (o:Oper) (h:Wa2) (K:kQ):Prop:=
 match o.op with
 | .move x | .assign x=>K (ρ x) h
 | .pick c a b=>asBool (ρ c) λc=>ifB c (K (ρ a) h) (K (ρ b) h)
 | .alloc t=>(match zer P t with
  | some z=>K (.pointer (some ⟨h.size,0,none⟩)) (h.push (.cells z.cells t))
  | none=>False)
 | .box t x=>WA6 P t (ρ x) λcs=>K (.pointer (some ⟨h.size,0,none⟩)) (h.push (.cells cs.toArray t))
 | .build t parts=>if (zer P t).isSome then (match und P t with
  | .struct fields=>if fields.all (λf=>Wf4 P f.type)=false then False else WO5 P (λi=>(fields[i]?).map λf=>(f.offset,f.type)) (Wt8 P t) (parts.toList.map λp=>(p.1,ρ p.2)) λcs=>K (.agg cs.toArray) h
  | .array _ elem=>if Wf4 P elem=false then False else WO5 P (λi=>some (i*siz P elem,elem)) (Wt8 P t) (parts.toList.map λp=>(p.1,ρ p.2)) λcs=>K (.agg cs.toArray) h
  | _=>False) else False
 | .buildSlice t len parts=>(match und P t with
  | .slice elem=>if Wf4 P elem/\len*siz P elem<=16777216/\(zer P elem).isSome/\(Wt8 P elem).length=siz P elem/\0 < siz P elem then
    WO5 P (λi=>some (i*siz P elem,elem)) (List.replicate len (Wt8 P elem)).flatten (parts.toList.map λp=>(p.1,ρ p.2))
     λcs=>K (.slice (some (aQ h.size)) len len) (h.push (.cells cs.toArray elem)) else False
  | _=>False)
 | .load t x=>Wd2 (ρ x) λa=>if Wf4 P t then (if Zd9 P t then ldN h a 0 (siz P t) [] (λcs=>K (.agg cs.toArray) h) else ldH h a λv=>K v h) else False
 | .store t x y=>Wd2 (ρ x) λa=>WA6 P t (ρ y) λcs=>if Wf4 P t/\cs.length=siz P t then stN h a 0 cs λh'=>K Ws2 h' else False
 | .nilCheck x=>Wb8 (ρ x) (K (ρ x) h)
 | .binOp op xt x y yt=>YR9 P op xt yt x y ρ o h K
 | .unOp op xt x=>(match op,und P xt with
  | .not,.bool=>asBool (ρ x) λb=>K (.bool (!b)) h
  | .neg,.int k=>asInt k (ρ x) λn=>K (.int k (k.wrap (0 - n))) h
  | _,_=>opH P ρ o h K)
 | .convert src dst x=>(match und P src,und P dst with
  | .int ks,.int k=>asInt ks (ρ x) λn=>K (.int k (k.wrap n)) h
  | .string,.string=>We4 (ρ x) λs=>K (.string s) h
  | _,_=>Zd2 P src dst (ρ x) h K)
 | .makeInterface t x=>(match und P t with | .interface _=>False | .invalid=>False | _=>K (.iface t (ρ x)) h)
 | .makeFunc fn first captured=>K (.func fn (Yj9 ρ first) (Yj9 ρ captured)) h
 | .makeMap _ none=>K (.map (some h.size)) (h.push (.map #[] 0))
 | .makeSlice t l c=>(match und P t with
  | .slice elem=>asI (ρ l) λl=>asI (ρ c) λc=>if Wf4 P elem/\(zer P elem).isSome/\(Wt8 P elem).length=siz P elem/\0 < siz P elem then Wr4 P elem l c h K else False
  | _=>False)
 | .slice t x lo hi mx=>if mx.isSome && hi.isNone then False else WN4 P t (ρ x) (lo.map ρ) (hi.map ρ) (mx.map ρ) λv=>K v h
 | .fieldAddr s x f=>(match und P s with
  | .struct fields=>(match fields[f]? with
   | some fd=>if Wf4 P fd.type/\siz P fd.type≠0 then Wd2 (ρ x) λa=>K (.pointer (some (a.add fd.offset))) h else False
   | none=>False)
  | _=>False)
 | .field t x f=>(match und P t with
  | .struct fields=>(match fields[f]? with
   | some fd=>asAgg (ρ x) λcs=>WL0 P fd.type cs fd.offset λv=>if Wf4 P fd.type then K v h else False
   | none=>False)
  | _=>False)
 | .indexAddr t x i=>(match und P t with
  | .slice elem=>Wb3 (ρ x) λa len _=>asI (ρ i) λi=>0<=i/\i < len/\Wd2 (.pointer a) λa=>if Wf4 P elem then K (.pointer (some (a.add (i.toNat*siz P elem)))) h else False
  | .array len elem=>Wd2 (ρ x) λa=>asI (ρ i) λi=>0<=i/\i < len/\(if Wf4 P elem then K (.pointer (some (a.add (i.toNat*siz P elem)))) h else False)
  | _=>False)
 | .index t x i=>(match und P t with
  | .string=>We4 (ρ x) λs=>asI (ρ i) λi=>0<=i/\i < s.size/\K (.int .u8 (W01 s i.toNat)) h
  | .array len elem=>asAgg (ρ x) λcs=>asI (ρ i) λi=>0<=i/\i < len/\WL0 P elem cs (i.toNat*siz P elem) λv=>if Wf4 P elem then K v h else False
  | _=>False)
 | .lookup t x i ok=>ZL5 P t (ρ x) (ρ i) ok h K
 | .mapUpdate t m k x=>ZL6 P t (ρ m) (ρ k) (ρ x) h λh'=>K Ws2 h'
 | .extract x i=>Wh0 (ρ x) λvs=>Wc2 vs i λv=>K v h
 | .call { callee:=.builtin b,args,argTypes }=>Wn9 P b argTypes o.type (args.toList.map ρ) ρ o h K
 | .call { callee:=.value f,args,.. }=>(match ZR1 P f with
  | true=>YR8 P (ρ f) (Yj9 ρ args) h K
  | false=>Wv0 P (ρ f) (Yj9 ρ args) h K)
 | .panic _=>False
 | _=>opH P ρ o h K
theorem Wm0 {P:Prop} (h:P:=by (refine ⟨by ((with_reducible first | apply AdjR.pop | apply AdjR.allPc | apply AdjR.allS | apply AdjR.fin | apply AdjR.call | apply AdjR.all);(focus (refine Lo.adjR ?_ (by assumption);(with_reducible repeat' constructor)));try (first | decide | (refine .inr ?_;decide) | (refine .inl ?_;simp [fA];done) | (refine Lo.ne ?_ hne;(with_reducible repeat' constructor)))),?_⟩;first | (refine .inl ?_;(focus (refine Tch.act ?_;(with_reducible repeat' constructor)));done) | (refine .inr ?_;((with_reducible first | apply AdjR.ltCall r hne | apply AdjR.ltFin r hne | apply AdjR.ltPc r hne | apply AdjR.ltPop r hne);assumption;(focus (refine Lo.adjR ?_ (by assumption);(with_reducible repeat' constructor)));try (first | assumption | exact Ws1 _ _));simp +decide [fW,fA,hs];first | done | omega))):P:=h
theorem WY7 {P:Prop} (h:P:=by (refine ⟨by ((with_reducible first | apply AdjR.pop | apply AdjR.allPc | apply AdjR.allS | apply AdjR.fin | apply AdjR.call | apply AdjR.all);(focus (refine Lo.adjR ?_ (by assumption);(with_reducible repeat' constructor)));try (first | decide | (refine .inr ?_;decide) | (refine .inl ?_;simp [fA];done) | (refine Lo.ne ?_ hne;(with_reducible repeat' constructor)))),?_⟩;first | (refine .inl ?_;(focus (refine Tch.act ?_;(with_reducible repeat' constructor)));done) | (refine .inr ?_;((with_reducible first | apply AdjR.ltCall r hne | apply AdjR.ltFin r hne | apply AdjR.ltPc r hne | apply AdjR.ltPop r hne);assumption;(focus (refine Lo.adjR ?_ (by assumption);(with_reducible repeat' constructor)));try (first | assumption | exact Ws1 _ _));simp +decide [fW,fA,hs,ha];first | done | omega))):P:=h
theorem Yk1 {P:Prop} (h:P:=by ((with_reducible first | apply AdjR.pop | apply AdjR.allPc | apply AdjR.allS | apply AdjR.fin | apply AdjR.call | apply AdjR.all);(focus (refine Lo.adjR ?_ (by assumption);(with_reducible repeat' constructor)));try (first | decide | (refine .inr ?_;decide) | (refine .inl ?_;simp [fA];done) | (refine Lo.ne ?_ hne;(with_reducible repeat' constructor))))):P:=h
theorem W38 {P:Prop} (h:P:=by (focus (refine Lo.adjR ?_ (by assumption);(with_reducible repeat' constructor)))):P:=h
theorem YE4 {P:Prop} (h:P:=by ((try simp only [f_m,WF2,f_s,Wm4,Wo8,WJ9,WK0,YA6,Ww4,WH8,Wr3,Wz9,WH9]);refine .inr ⟨?_,?_⟩ <;> simp only [Wh4,Wj1,Wt0,WU3,Wz0,YI7,or_true,true_or,and_true,true_and] <;> omega)):P:=h
theorem YS3 {P:Prop} (h:P:=by ((try simp only [WF2,f_s,Wm4,Wo8,WJ9,WK0,YA6,Ww4,Wr3]);refine .inr ⟨(by simp only [Wh4,Wj1];omega),.inl ⟨?_,?_,?_,?_,?_⟩⟩ <;> intros <;> (try simp +decide (disch:=first | decide | assumption | (simp only [Wh4,Wj1];assumption)) only [Wt0,WU3,Wz0,YI7,WP0,Wa7,g_s,Wh4,Wj1] at *) <;> omega)):P:=h
theorem Ze0 {P:Prop} (h:P:=by ((try simp only [WF2,f_s,Wm4,Wo8,WJ9,WK0,YA6,Ww4,Wr3]);exact Y67 (by simp only [Wh4,Wj1];assumption) (by simp only [Wt0,WU3];assumption) (.inr rfl))):P:=h
theorem ZK3 {P:Prop} (h:P:=by ((try simp only [WF2,f_s,Wm4,Wo8,WJ9,WK0,YA6,Ww4,Wr3]);refine Y67 (by simp only [Wh4,Wj1];assumption) (by simp only [Wt0,WU3];assumption) (by simp only [Wz0,YI7];omega))):P:=h
theorem ZP8 {P:Prop} (h:P:=by ((try simp only [WF2,f_s,Wm4,Wo8,WJ9,WK0,YA6]);refine WX3 (by simp only [Wh4,Wj1];assumption) (by simp only [Wt0,WU3];assumption) (by simp only [Wz0,YI7];omega) ?_;first | assumption | (simp +decide (disch:=decide) only [WP0,Wa7];assumption))):P:=h
theorem W96 {P:Prop} (h:P:=by ((try simp only [f_m,WF2,f_s,Wm4,Wo8,WJ9,WK0,YA6,Ww4,WH8,Wr3,Wz9,WH9]);refine ZA0 (by simp only [Wh4,Wj1];assumption) (by simp only [Wt0,WU3];assumption) ?_ ?_ ?_ <;> intros <;> (try simp +decide (disch:=first | decide | assumption | (simp only [Wh4,Wj1];assumption)) only [Wt0,WU3,Wz0,YI7,WP0,Wa7,g_s,Wh4,Wj1] at *) <;> omega)):P:=h
theorem Ze1 {P:Prop} (h:P:=by ((try simp only [f_m,WF2,f_s,Wm4,Wo8,WJ9,WK0,YA6,Ww4,WH8,Wr3,Wz9,WH9]);refine ZA1 (by simp only [Wh4,Wj1];assumption) (by simp only [Wt0,WU3];assumption) (by simp only [Wz0,YI7,or_true];first | done | omega))):P:=h
theorem ZL8 {P:Prop} (h:P:=by ((try simp only [f_m,WF2,f_s,Wm4,Wo8,WJ9,WK0,YA6,Ww4,WH8,Wr3,Wz9,WH9]);refine ZA2 (by simp only [Wh4,Wj1];assumption) (by simp only [Wt0,WU3];assumption) (by simp only [Wz0,YI7,or_true];first | done | omega))):P:=h
theorem ZL9 {P:Prop} (h:P:=by ((try simp only [f_m,WF2,f_s,Wm4,Wo8,WJ9,WK0,YA6,Ww4,WH8,Wr3,Wz9,WH9]);refine ZA3 (by simp only [Wh4,Wj1];assumption) (by simp only [Wt0,WU3];assumption) (by simp only [Wz0,YI7,or_true];first | done | omega))):P:=h
theorem ZC7 {P:Prop} (h:P:=by ((try simp only [f_m,WF2,f_s,Wm4,Wo8,WJ9,WK0,YA6,Ww4,WH8,Wr3,Wz9,WH9]);refine ZA4 (by simp only [Wh4,Wj1];assumption) (by simp only [Wt0,WU3];assumption) (by simp only [Wz0,YI7,or_true];first | done | omega))):P:=h
theorem ZM0 {P:Prop} (h:P:=by ((try simp only [f_m,WF2,f_s,Wm4,Wo8,WJ9,WK0,YA6,Ww4,WH8,Wr3,Wz9,WH9]);refine W83 (by simp only [Wh4,Wj1];assumption) (by simp only [Wt0,WU3];assumption) (by simp only [Wz0,YI7];omega) ?_;first | assumption | (simp +decide (disch:=decide) only [WP0,Wa7];assumption))):P:=h
theorem ZB7 {P:Prop} (h:P:=by ((try simp only [WF2,f_s,Wm4,Wo8,WJ9,WK0,YA6]);unfold Wx8;(try simp only [Wt0,WU3,Wz0,YI7,Wh4,Wj1]);omega)):P:=h
theorem Wd0 {P:Prop} (h:P:=by (focus (refine Lo.rest ?_ (by assumption);(with_reducible repeat' constructor)))):P:=h
theorem Wf8 {P:Prop} (h:P:=by (with_reducible repeat' (first | apply St.refl | assumption | apply St.load | apply St.store | apply St.cas | apply St.add | apply St.swing | apply St.swingA | apply St.swingM | apply St.drop1 | apply St.guard | apply St.next | apply St.lvl | apply St.dcas | apply St.dcss | apply St.gh | apply St.call | apply St.fin | apply St.s | apply St.pc | apply St.push | apply St.pop))):P:=h
theorem Wm1 {P Q:Prop} (q:Q) (e:Q->P:=by intro q;(repeat (with_reducible first | apply AllF.load | apply AllF.store | apply AllF.cas | apply AllF.add | apply AllF.swing | apply AllF.swingA | apply AllF.swingM | apply AllF.drop1 | apply AllF.guard | apply AllF.gh | apply AllF.fo | apply AllF.re | apply AllF.setPl));exact q):P:=e q
theorem sb {P Q:Prop} (q:Q) (e:Q->P:=by intro q;try simp only [Wb8,bsx,Nat.reduceAdd,Int.reduceLE,Int.reduceLT,Int.reduceToNat];exact q):P:=e q
theorem sl {A P Q:Prop} (a:A) (q:Q) (e:A->Q->P:=by intro a q;try simp only [Wb8,bsx,Nat.reduceAdd,Int.reduceLE,Int.reduceLT,Int.reduceToNat,RunS.l a];exact q):P:=e a q
theorem ss {A P Q:Prop} (a:A) (q:Q) (e:A->Q->P:=by intro a q;try simp +decide only [Wb8,bsx,Nat.reduceAdd,Int.reduceLE,Int.reduceLT,Int.reduceToNat,rsx,g_s,Wa7,RunS.al a];exact q):P:=e a q
end
section
theorem Kd.refl (h:Wa2):Kd h h:=⟨Nat.le_refl _,λ_ x=>x⟩
theorem Kd.trans {h h' h'':Wa2} (a:Kd h h') (b:Kd h' h''):Kd h h'':=⟨Nat.le_trans a.1 b.1,λD x=>b.2 D (a.2 D x)⟩
theorem getElem?_setC (h:Wa2) (a:Addr) (v:Value) (b:Nat):(setC h a v)[b]? =
  if a.block=b then (h[b]?).map (ZC4 a v) else h[b]?:=by
 unfold setC;rw [Array.getElem?_modify]
theorem YS4 (h:Wa2) (a:Addr) (v:Value):(setC h a v).size=h.size:=by unfold setC;simp
theorem Kd.setC (h:Wa2) (a:Addr) (v:Value):Kd h (setC h a v):=⟨by rw [YS4];exact Nat.le_refl _,λD x=>by
 rw [getElem?_setC];split <;> simp [x,ZC4]⟩
theorem Kd.freezeAt (h:Wa2) (a:Addr) (n:Nat):Kd h (freezeAt h a n):=by
 unfold Proofs.YtahpbclnkofhfaaGreat.freezeAt;split
 ·exact Kd.refl _
 ·refine ⟨by simp,λD x=>?_⟩
  rw [Array.getElem?_modify];split <;> simp [x]
theorem Kd.push (h:Wa2) (o:Obj):Kd h (h.push o):=⟨by simp,λD x=>by
 have:D < h.size:=(Array.getElem?_eq_some_iff.1 x).1
 rw [Array.getElem?_push_lt this];exact x ▸ (Array.getElem?_eq_getElem this).symm⟩
theorem Kd.set {h:Wa2} {r:Nat} {o:Obj} (hr:h[r]?≠some (.deferred (some []))):Kd h (h.setIfInBounds r o):=⟨by simp,λD x=>by
 rw [Array.getElem?_setIfInBounds];split
 ·rename_i e;subst e;exact absurd x hr
 ·exact x⟩
section
variable {P:Program} {α β:Type}
theorem Ze2 (s:Sem α) (f:α->Sem β) (K:β->Wa2->Prop) (h:Wa2):hp P (s.bind f) K h=hp P s (λa=>hp P (f a) K) h:=by
 induction s generalizing h with
 | pure a=>rfl
 | load m a k ih=>simp only [Sem.bind,hp,ih]
 | store m a v k ih=>simp only [Sem.bind,hp,ih]
 | new o k ih=>simp only [Sem.bind,hp,ih]
 | shape r k ih=>simp only [Sem.bind,hp,ih]
 | freeze a n k ih=>simp only [Sem.bind,hp,ih]
 | frozen a k ih=>simp only [Sem.bind,hp,ih]
 | getObj r k ih=>simp only [Sem.bind,hp,ih]
 | setObj r o k ih=>simp only [Sem.bind,hp,ih]
 | choose q k ih=>simp only [Sem.bind,hp,ih]
 | sys c k ih=>simp only [Sem.bind,hp]
 | program k ih=>simp only [Sem.bind,hp,ih]
 | mark m k ih=>simp only [Sem.bind,hp,ih]
 | halt h=>simp only [Sem.bind,hp]
theorem Wa6 (s:Sem α) (f:α->Sem β) (K:β->Wa2->Prop) (h:Wa2):hp P (s >>= f) K h=hp P s (λa=>hp P (f a) K) h:=Ze2 s f K h
theorem Wc0 (a:α) (K:α->Wa2->Prop) (h:Wa2):hp P (pure a) K h=K a h:=rfl
theorem Ww6 {v:Value} {X Y:Prop} (hxy:X->Y) (hx:Wi4 v X):Wi4 v Y:=by
 unfold Wi4 at *;split <;> simp_all
theorem Yw8 {v:Value} {X:Prop} (hx:Wi4 v X):X:=by unfold Wi4 at hx;split at hx <;> simp_all
theorem Wk2 {s:Sem α} {K K':α->Wa2->Prop} (hk:∀a h,K a h->K' a h):∀ {h:Wa2},hp P s K h->hp P s K' h:=by
 induction s with
 | pure a=>intro h x;exact hk _ _ x
 | load m a k ih=>intro h x;simp only [hp] at x ⊢;split at x <;> simp_all
 | store m a v k ih=>intro h x;simp only [hp] at x ⊢;exact Ww6 (λ⟨a,b,c⟩=>⟨a,b,ih c⟩) x
 | new o k ih=>intro h x;exact ih _ x
 | shape r k ih=>intro h x;exact ih _ x
 | freeze a n k ih=>intro h x;exact ih x
 | frozen a k ih=>intro h x;exact ih _ x
 | getObj r k ih=>intro h x;simp only [hp] at x ⊢;split at x <;> simp_all
 | setObj r o k ih=>intro h x;simp only [hp] at x ⊢;split at x <;> simp_all
 | choose q k ih=>intro h x t;exact ih _ (x t)
 | sys c k ih=>intro h x;exact x.elim
 | program k ih=>intro h x;exact ih _ x
 | mark m k ih=>intro h x;exact ih x
 | halt h=>intro h x;exact x.elim
theorem Kw.refl (w:World):Kw w w:=⟨Kd.refl _,rfl,rfl⟩
theorem Kw.trans {a b c:World} (x:Kw a b) (y:Kw b c):Kw a c:=⟨x.1.trans y.1,y.2.1.trans x.2.1,y.2.2.trans x.2.2⟩
theorem ZC8 (s:Sem α):∀ {K:α->Wa2->Prop} {h:Wa2},hp P s K h->∀w:World,w.heap=h ->
  ∃a w',s.run P w=.ok a w'/\K a w'.heap/\Kw w w':=by
 induction s with
 | pure a=>intro K h x w hw;subst hw;exact ⟨a,w,rfl,x,Kw.refl _⟩
 | load m a k ih=>
  intro K h x w hw;subst hw;simp only [hp] at x
  split at x
  ·rename_i v hv
   obtain ⟨b,w',h1,h2⟩:=ih v x w rfl
   refine ⟨b,w',?_,h2⟩
   have hv':w.cell? a=some v:=hv
   simp only [Sem.run,hv',h1]
  ·exact x.elim
 | store m a v k ih=>
  intro K h x w hw;subst hw;simp only [hp] at x
  obtain ⟨⟨u,hu⟩,hf,hk⟩:=Yw8 x
  obtain ⟨b,w',h1,h2,h3⟩:=ih hk (w.setCell a v) rfl
  refine ⟨b,w',?_,h2,Kw.trans (b:=w.setCell a v) ⟨Kd.setC _ _ _,rfl,rfl⟩ h3⟩
  have hu':w.cell? a=some u:=hu
  have hf':w.frozen? a=false:=hf
  have e:(w.setCell a v).heap=Proofs.YtahpbclnkofhfaaGreat.setC w.heap a v:=rfl
  cases v <;> first | exact x.elim | simp only [Sem.run,hu',hf',h1];rfl
 | new o k ih=>
  intro K h x w hw;subst hw
  obtain ⟨b,w',h1,h2,h3⟩:=ih _ x { w with heap:=w.heap.push o } rfl
  exact ⟨b,w',h1,h2,Kw.trans (b:={ w with heap:=w.heap.push o }) ⟨Kd.push _ _,rfl,rfl⟩ h3⟩
 | shape r k ih=>intro K h x w hw;subst hw;exact ih _ x w rfl
 | freeze a n k ih=>
  intro K h x w hw;subst hw
  have e:(w.freeze a n).heap=freezeAt w.heap a n:=by unfold World.freeze freezeAt;split <;> rfl
  obtain ⟨b,w',h1,h2,h3⟩:=ih x (w.freeze a n) e
  exact ⟨b,w',h1,h2,Kw.trans (b:=w.freeze a n) ⟨by rw [e];exact Kd.freezeAt _ _ _,by unfold World.freeze;split <;> rfl,by unfold World.freeze;split <;> rfl⟩ h3⟩
 | frozen a k ih=>intro K h x w hw;subst hw;exact ih _ x w rfl
 | getObj r k ih=>
  intro K h x w hw;subst hw;simp only [hp] at x
  split at x
  ·exact x.elim
  ·rename_i o hne hv
   obtain ⟨b,w',h1,h2⟩:=ih o x w rfl
   refine ⟨b,w',?_,h2⟩
   simp only [Sem.run,hv]
   cases o <;> first | exact (hne _ _ _ rfl).elim | exact h1
  ·exact x.elim
 | setObj r o k ih=>
  intro K h x w hw;subst hw;simp only [hp] at x
  split at x
  all_goals first | exact x.elim | (
   rename_i hv
   obtain ⟨b,w',h1,h2,h3⟩:=ih x { w with heap:=w.heap.setIfInBounds r o } rfl
   refine ⟨b,w',?_,h2,Kw.trans (b:={ w with heap:=w.heap.setIfInBounds r o }) ⟨Kd.set (by rw [hv];simp),rfl,rfl⟩ h3⟩
   simp only [Sem.run,hv];exact h1)
 | choose q k ih=>
  intro K h x w hw;subst hw
  by_cases hq:q.forced=true
  ·have x0:=x 0
   simp only [hq,if_true] at x0
   obtain ⟨b,w',h1,h2⟩:=ih _ x0 w rfl
   exact ⟨b,w',by simp only [Sem.run,hq,if_true];exact h1,h2⟩
  ·have x0:=x (w.tape w.drawn q)
   simp only [hq] at x0
   obtain ⟨b,w',h1,h2⟩:=ih _ x0 { w with drawn:=w.drawn+1 } rfl
   exact ⟨b,w',by simp only [Sem.run,hq];exact h1,h2⟩
 | sys c k ih=>intro K h x w hw;exact x.elim
 | program k ih=>intro K h x w hw;exact ih _ x w hw
 | mark m k ih=>intro K h x w hw;exact ih x w hw
 | halt h=>intro K h x w hw;exact x.elim
theorem Wg1 {t:TypeId} {i:TypeInfo} (hi:P.info? t=some i) (K:TypeInfo->Wa2->Prop) (h:Wa2):hp P (typeInfo t) K h=K i h:=by
 simp only [typeInfo,Wa6];simp [program,hp,hi,Wc0]
theorem Wt3 {t:TypeId} (h:Wf4 P t=true):∃i,P.info? t=some i:=by
 unfold Wf4 at h;rw [Bool.and_eq_true] at h;exact Option.isSome_iff_exists.1 h.1
theorem W97 {t:TypeId} (h:Wf4 P t=true):P.underlying t=some (und P t):=by
 unfold Wf4 at h;rw [Bool.and_eq_true] at h;obtain ⟨d,hd⟩:=Option.isSome_iff_exists.1 h.2;unfold und;rw [hd];rfl
theorem Wd7 {t:TypeId} (ht:Wf4 P t=true) (K:Nat->Wa2->Prop) (h:Wa2):hp P (sizeOf t) K h=K (siz P t) h:=by
 obtain ⟨i,hi⟩:=Wt3 ht
 simp only [sizeOf,Wa6,Wg1 hi,siz,hi];rfl
theorem Wc6 {t:TypeId} {d:TypeDesc} (hd:und P t=d) (hn:d≠.invalid):P.underlying t=some d:=by
 unfold und at hd;cases hu:P.underlying t with
 | none=>rw [hu] at hd;exact absurd hd.symm hn
 | some e=>rw [hu] at hd;simp at hd;rw [hd]
theorem Wa8 {t:TypeId} {d:TypeDesc} (hd:P.underlying t=some d) (K:TypeDesc->Wa2->Prop) (h:Wa2):hp P (underlying t) K h=K d h:=by
 simp only [underlying,Wa6];simp [program,hp,hd,Wc0]
theorem Yw9 {t:TypeId} {d:TypeDesc} (hd:P.underlying t=some d) (K:Bool->Wa2->Prop) (h:Wa2):hp P (isAgg t) K h=K (Zd9 P t) h:=by
 have hu:und P t=d:=by unfold und;rw [hd];rfl
 simp only [isAgg,Wa6,Wa8 hd,Zd9,hu]
 cases d <;> rfl
theorem Wi5 {t:TypeId} {z:Value} (hz:zer P t=some z) (K:kQ) (h:Wa2):hp P (zeroValue t) K h=K z h:=by
 unfold zer at hz
 cases hi:P.info? t with
 | none=>rw [hi] at hz;cases hz
 | some i=>
  rw [hi] at hz;simp at hz
  simp only [zeroValue,Wa6,Wg1 hi,hz];rfl
end
end
section
section
variable {P:Program} {ρ:Operand->Value} {h:Wa2} {K:kQ}
theorem Wh8 {v:Value} {F:Addr->Prop} (H:Wd2 v F):∃a,v=.pointer (some a)/\F a:=by unfold Wd2 at H;split at H <;> first | exact ⟨_,rfl,H⟩ | exact H.elim
theorem Wj6 {v:Value} {F:Option Addr->Prop} (H:Wb2 v F):∃a,v=.pointer a/\F a:=by unfold Wb2 at H;split at H <;> first | exact ⟨_,rfl,H⟩ | exact H.elim
theorem We3 {k:IntKind} {v:Value} {F:Int->Prop} (H:asInt k v F):∃n,v=.int k n/\F n:=by
 unfold asInt at H;split at H
 ·split at H
  ·rename_i e;subst e;exact ⟨_,rfl,H⟩
  ·exact H.elim
 ·exact H.elim
theorem Wr8 {v:Value} {F:Int->Prop} (H:asI v F):∃k n,v=.int k n/\F n:=by unfold asI at H;split at H <;> first | exact ⟨_,_,rfl,H⟩ | exact H.elim
theorem Wf5 {v:Value} {F:Bool->Prop} (H:asBool v F):∃b,v=.bool b/\F b:=by unfold asBool at H;split at H <;> first | exact ⟨_,rfl,H⟩ | exact H.elim
theorem We1 {v:Value} {F:ByteArray->Prop} (H:We4 v F):∃s,v=.string s/\F s:=by unfold We4 at H;split at H <;> first | exact ⟨_,rfl,H⟩ | exact H.elim
theorem Wf6 {v:Value} {F:Option Addr->Nat->Nat->Prop} (H:Wb3 v F):∃a l c,v=.slice a l c/\F a l c:=by unfold Wb3 at H;split at H <;> first | exact ⟨_,_,_,rfl,H⟩ | exact H.elim
theorem Wm2 {v:Value} {F:Array Value->Prop} (H:asAgg v F):∃a,v=.agg a/\F a:=by unfold asAgg at H;split at H <;> first | exact ⟨_,rfl,H⟩ | exact H.elim
theorem WQ7 {v:Value} {F:Array Value->Prop} (H:Wh0 v F):∃a,v=.tuple a/\F a:=by unfold Wh0 at H;split at H <;> first | exact ⟨_,rfl,H⟩ | exact H.elim
theorem WA7 {v:Value} {F:Option Nat->Prop} (H:W93 v F):∃a,v=.map a/\F a:=by unfold W93 at H;split at H <;> first | exact ⟨_,rfl,H⟩ | exact H.elim
theorem Wy0 {v:Value} {F:Bool->Prop} (H:Wk1 v F):(v=.nilFunc/\F true)\/(∃f a b,v=.func f a b/\F false):=by
 unfold Wk1 at H;split at H
 ·exact .inl ⟨rfl,H⟩
 ·exact .inr ⟨_,_,_,rfl,H⟩
 ·exact H.elim
theorem WL1 {v:Value} {X:Prop} (H:Wi4 v X):v.cells=#[v]/\X:=by unfold Wi4 at H;split at H <;> simp_all [Value.cells]
theorem W02 {cs:Array Value} {F:List Value->Prop}:∀(n i:Nat) (acc:List Value),WA0 cs n i acc F->F (acc.reverse ++ (cs.toList.drop i).take n):=by
 intro n
 induction n with
 | zero=>intro i acc H;simpa using (show F acc.reverse from H)
 | succ n ih=>
  intro i acc H
  unfold WA0 Wc2 at H
  split at H
  ·rename_i v hv
   have:=ih _ _ H
   rw [<- Array.getElem?_toList] at hv
   obtain ⟨hlt,hv⟩:=List.getElem?_eq_some_iff.1 hv
   rw [List.drop_eq_getElem_cons hlt,hv]
   simpa using this
  ·exact H.elim
theorem YS5 {cs:Array Value} {F:List Value->Prop}:∀(n i:Nat) (acc:List Value),i+n<=cs.size->F (acc.reverse ++ (cs.toList.drop i).take n)->WA0 cs n i acc F:=by
 intro n
 induction n with
 | zero=>intro i acc _ H;show F acc.reverse;simpa using H
 | succ n ih=>
  intro i acc hi H
  have hlt:i < cs.toList.length:=by simp;omega
  show Wc2 cs i λv=>WA0 cs n (i+1) (v :: acc) F
  unfold Wc2
  rw [<- Array.getElem?_toList,List.getElem?_eq_getElem hlt]
  refine ih _ _ (by omega) ?_
  rw [List.drop_eq_getElem_cons hlt] at H
  simpa using H
theorem Yx0 {n:Nat} {v:Value} {F:List Value->Prop} (H:Zu4 n v F):F v.cells.toList/\∀F':List Value->Prop,F' v.cells.toList->Zu4 n v F':=by
 cases hb:Nat.ble n 64 with
 | true=>
  have e:∀F:List Value->Prop,Zu4 n v F=asAgg v λcs=>We2 cs n (WA0 cs n 0 [] F):=λF=>by unfold Zu4;rw [hb]
  rw [e] at H
  obtain ⟨cs,rfl,H1⟩:=Wm2 H
  unfold We2 at H1
  split at H1
  ·rename_i hn
   have hn':=Nat.eq_of_beq_eq_true hn
   have h1:=W02 _ _ _ H1
   have e2:(cs.toList.drop 0).take n=cs.toList:=by rw [List.drop_zero,List.take_of_length_le (by simp [hn'])]
   rw [e2] at h1
   refine ⟨h1,λF' x=>?_⟩
   rw [e]
   show We2 cs n _
   unfold We2
   rw [hn]
   refine YS5 n 0 [] (by omega) ?_
   rw [e2]
   exact x
  ·exact H1.elim
 | false=>
  have e:∀F:List Value->Prop,Zu4 n v F=asAgg v λcs=>F cs.toList:=λF=>by unfold Zu4;rw [hb]
  rw [e] at H
  obtain ⟨cs,rfl,H1⟩:=Wm2 H
  exact ⟨H1,λF' x=>by rw [e];exact x⟩
theorem WD5 {t:TypeId} {v:Value} {F:List Value->Prop} (H:WA6 P t v F):F v.cells.toList:=by
 unfold WA6 at H;split at H
 ·exact (Yx0 H).1
 ·obtain ⟨e,H⟩:=WL1 H;rw [e];exact H
theorem YS6 {b:Bool} {X Y:Prop} (H:ifB b X Y):if b then X else Y:=by cases b <;> exact H
theorem WQ8 {a:Addr} {F:Value->Prop} (H:ldH h a F):∃v,Wa1 h a=some v/\F v:=by unfold ldH at H;split at H <;> first | exact ⟨_,‹_›,H⟩ | exact H.elim
theorem WY4 (s:Sem Value):hp P (do let x <- s;pure (Next.value x)) (nxt P K) h=hp P s K h:=by rw [Wa6];rfl
theorem ZP9 (s:Sem Unit):hp P (do s;pure Next.skip) (nxt P K) h=hp P s (λ_=>K Ws2) h:=by rw [Wa6];rfl
theorem We5 (a:Addr) (n:Nat):∀(i:Nat) (acc:List Value) (F:Array Value->Wa2->Prop),ldN h a i n acc (λcs=>F cs.toArray h) ->
  hp P (loadCellsFrom a i n acc.reverse.toArray) F h:=by
 induction n with
 | zero=>intro i acc F H;exact H
 | succ n ih=>
  intro i acc F H
  obtain ⟨v,hv,H⟩:=WQ8 H
  have:=ih (i+1) (v :: acc) F H
  simp only [loadCellsFrom,Wa6,load,hp,hv]
  simpa using this
theorem Wi9 (a:Addr) (vs:List Value):∀(h:Wa2) (i:Nat) (F:Wa2->Prop),stN h a i vs F->hp P (storeCells a vs i) (λ_=>F) h:=by
 induction vs with
 | nil=>intro h i F H;exact H
 | cons v vs ih=>
  intro h i F H
  simp only [storeCells,Wa6,store,hp]
  exact Ww6 (λ⟨h1,h2,h3⟩=>⟨h1,h2,ih _ _ _ h3⟩) H
theorem W03 {t:TypeId} {a:Addr} (ht:Wf4 P t=true)
  (H:if Zd9 P t then ldN h a 0 (siz P t) [] (λcs=>K (.agg cs.toArray) h) else ldH h a λv=>K v h):hp P (loadVar t a) K h:=by
 simp only [loadVar,Wa6,Yw9 (W97 ht)]
 split at H
 ·simp only [*,if_true,Wa6,Wd7 ht]
  exact We5 a _ 0 [] (λcs h'=>K (.agg cs) h') H
 ·rename_i hn
  simp only [hn]
  obtain ⟨v,hv,H⟩:=WQ8 H
  simp only [load,hp,hv];simpa [load,hp,hv] using H
theorem Yk2 {t:TypeId} {a:Addr} {v:Value} {F:Wa2->Prop} (ht:Wf4 P t=true) (hs:v.cells.toList.length=siz P t)
  (H:stN h a 0 v.cells.toList F):hp P (storeVar t a v) (λ_=>F) h:=by
 simp only [storeVar,Wa6,Wd7 ht]
 rw [if_neg (by simpa using hs)]
 exact Wi9 a _ h 0 F H
theorem Yk3 {t:TypeId} {cs:Array Value} {off:Nat} {v:Value} (ht:Wf4 P t=true) (hv:YE2 P t cs off=some v) (F:kQ):hp P (part t cs off) F h=F v h:=by
 unfold YE2 at hv
 simp only [part,Wa6,Yw9 (W97 ht)]
 split at hv
 ·cases hv;simp only [*,if_true,Wa6,Wd7 ht];rfl
 ·rename_i hn;simp only [hn];simp [hv];rfl
theorem WF5 {α:Type} {c:Prop} [Decidable c] (a b:Sem α) (F:α->Wa2->Prop) (h:Wa2):hp P (if c then a else b) F h=if c then hp P a F h else hp P b F h:=by split <;> rfl
theorem Wp5 (F:Program->Wa2->Prop) (h:Wa2):hp P program F h=F P h:=rfl
theorem YS7 {x y:Option Bool} {b:Bool} (H:Zr3 x y=some b):∃p q,x=some p/\y=some q/\b=(p && q):=by
 unfold Zr3 at H;split at H
 ·simp at H;exact ⟨_,_,rfl,rfl,H.symm⟩
 ·cases H
theorem WP1 {t:TypeId} {cs:Array Value} {off:Nat} {v:Value} (hv:WI2 P t cs off=some v) (F:kQ) (h:Wa2):hp P (part t cs off) F h=F v h:=by
 unfold WI2 at hv;split at hv
 ·exact Yk3 ‹_› hv F
 ·cases hv
theorem W98 {ι:Type} (l:List ι) (ok:ι->Option Bool) (g:ι->Option Bool × Unit->Sem (ForInStep (Option Bool × Unit))) (G:Option Bool × Unit->Wa2->Prop) (h:Wa2) :
  ∀b,l.foldr (λi acc=>Zr3 (ok i) acc) (some true)=some b ->
  (∀i s c,ok i=some c->∀(F:ForInStep (Option Bool × Unit)->Wa2->Prop),hp P (g i s) F h=F (if c then .yield (none,()) else .done (some false,())) h) ->
  hp P (forIn l ((none,()):Option Bool × Unit) g) G h=if b then G (none,()) h else G (some false,()) h:=by
 induction l with
 | nil=>intro b H _;simp at H;subst H;simp [Wc0]
 | cons i l ih=>
  intro b H hf
  simp only [List.foldr_cons] at H
  obtain ⟨p,q,hp1,hq,rfl⟩:=YS7 H
  simp only [List.forIn_cons,Wa6,hf i _ p hp1]
  cases p
  ·simp [Wc0]
  ·simp only [Bool.true_and,if_true]
   exact ih q hq hf
theorem ZC9 (d:Nat):∀(t:TypeId) (x y:Value) (b:Bool),eqv P d t x y=some b->∀(F:Bool->Wa2->Prop) (h:Wa2),hp P (Op.equalIn d t x y) F h=F b h:=by
 induction d with
 | zero=>intro t x y b H;simp [eqv] at H
 | succ d ih=>
  intro t x y b H F h
  unfold eqv at H
  split at H
  ·rename_i hu;simp only [Op.equalIn,Wa6,Wa8 (Wc6 hu (by simp))];simp at H;subst H;rfl
  ·rename_i hu;simp only [Op.equalIn,Wa6,Wa8 (Wc6 hu (by simp))]
   split at H <;> simp at H
   subst H;simp only [*,if_true];rfl
  ·rename_i hu;simp only [Op.equalIn,Wa6,Wa8 (Wc6 hu (by simp))];simp at H;subst H;rfl
  ·rename_i fields xs ys hu
   simp only [Op.equalIn,Wa6,Wa8 (Wc6 hu (by simp)),Wp5]
   split at H
   ·cases H
   ·rename_i hst
    rw [if_neg hst]
    simp only [Wa6,<- Array.forIn_toList]
    refine (W98 (P:=P) fields.toList (λf=>if f.name = "_" then none else match WI2 P f.type xs f.offset,WI2 P f.type ys f.offset with | some x,some y=>eqv P d f.type x y | _,_=>none) _ _ h b ?_ ?_).trans ?_
    ·refine Eq.trans ?_ H
     congr 1
     funext f acc
     by_cases hn:f.name = "_"
     ·simp [hn,Zr3]
     ·cases h2:WI2 P f.type xs f.offset <;> cases h3:WI2 P f.type ys f.offset <;> simp [hn,Zr3]
    ·intro f s c hc F'
     split at hc
     ·cases hc
     ·rename_i hn
      split at hc
      ·rename_i a e h1 h2
       simp only [ne_eq,hn,not_false_eq_true,if_true,Wa6,WP1 h1,WP1 h2,ih _ _ _ _ hc,WF5]
       cases c <;> rfl
      ·cases hc
    ·cases b <;> rfl
  ·rename_i len elem xs ys hu
   split at H
   ·rename_i hth
    simp only [Op.equalIn,Wa6,Wa8 (Wc6 hu (by simp)),Wp5,Wd7 hth]
    rw [Std.Legacy.Range.forIn_eq_forIn_range']
    refine (W98 (P:=P) _ (λi=>match WI2 P elem xs (i*siz P elem),WI2 P elem ys (i*siz P elem) with | some x,some y=>eqv P d elem x y | _,_=>none) _ _ h b ?_ ?_).trans ?_
    ·refine Eq.trans ?_ H
     have e:(Std.Legacy.Range.size [:len])=len:=by simp [Std.Legacy.Range.size]
     rw [e]
     congr 1
     funext i acc
     cases h2:WI2 P elem xs (i*siz P elem) <;> cases h3:WI2 P elem ys (i*siz P elem) <;> simp [Zr3]
    ·intro i s c hc F'
     split at hc
     ·rename_i a e h1 h2
      simp only [Wa6,WP1 h1,WP1 h2,ih _ _ _ _ hc,WF5]
      cases c <;> rfl
     ·cases hc
    ·cases b <;> rfl
   ·cases H
  ·cases H
theorem Yx1 {t:TypeId} {x y:Value} {F:Bool->Prop} (H:Yk0 P t x y F):(∃b,hp P (Op.equal t x y)=(λG h=>G b h)/\F b)/\P.eqGuardType P.depth t=false/\∃xs,x=.agg xs:=by
 unfold Yk0 at H
 split at H
 ·exact H.elim
 ·rename_i hg
  obtain ⟨xs,rfl,H⟩:=Wm2 H
  split at H
  ·rename_i b hb
   exact ⟨⟨b,funext λG=>funext λh=>ZC9 10000 t _ y b hb G h,H⟩,by simpa using hg,_,rfl⟩
  ·exact H.elim
end
end
section
section
variable {P:Program} {ρ:Operand->Value} {h:Wa2} {K:kQ}
theorem Yk4 (vs:List Value):∀(cs:List Value) (off:Nat),
  (vs.zipIdx).foldl (λ(a:Array Value) (x:Value × Nat)=>a.setIfInBounds (off+x.2) x.1) cs.toArray=(Ws6 cs off vs).toArray:=by
 have key:∀(vs:List Value) (k:Nat) (cs:List Value) (off:Nat),
   (vs.zipIdx k).foldl (λ(a:Array Value) (x:Value × Nat)=>a.setIfInBounds (off+x.2) x.1) cs.toArray=(Ws6 cs (off+k) vs).toArray:=by
  intro vs
  induction vs with
  | nil=>intro k cs off;rfl
  | cons v vs ih=>
   intro k cs off
   simp only [List.zipIdx_cons,List.foldl_cons,Ws6,List.setIfInBounds_toArray]
   rw [ih (k+1)];rfl
 intro cs off;exact key vs 0 cs off
theorem WL2 {place:Nat->Option (Nat × TypeId)} (parts:List (Nat × Value)):∀(cells:List Value) (F:List Value->Prop),
  WO5 P place cells parts F->∃cs:List Value,Instr.fill (λi=>(place i).map λx=>(x.1,siz P x.2)) cells.toArray parts=some cs.toArray/\F cs:=by
 induction parts with
 | nil=>intro cells F H;exact ⟨cells,rfl,H⟩
 | cons p rest ih=>
  obtain ⟨i,v⟩:=p
  intro cells F H
  unfold WO5 at H
  split at H
  ·exact H.elim
  ·rename_i off t hp1
   have H:=WD5 H
   split at H
   ·rename_i hs
    obtain ⟨cs,h1,h2⟩:=ih _ _ H
    refine ⟨cs,?_,h2⟩
    unfold Instr.fill
    simp only [hp1,Option.map_some]
    have hs1:v.cells.size=siz P t:=by simpa using hs.1
    rw [if_neg (by simp [hs1];omega)]
    rw [<- h1]
    congr 1
    have:=Yk4 v.cells.toList cells off
    rw [<- this]
    rw [<- Array.foldl_toList]
    simp [Array.toList_zipIdx]
   ·exact H.elim
theorem WI3 {t:TypeId} {z:Value} (hz:zer P t=some z):(Wt8 P t).toArray=z.cells:=by
 unfold Wt8;rw [hz];cases z <;> simp [Value.cells]
theorem Zr6 (z:List Value) (n:Nat) (hz:0 < z.length) :
  (Array.range (n*z.length)).map (λi=>z.toArray[i % z.toArray.size]!)=((List.replicate n z).flatten).toArray:=by
 apply Array.toList_inj.1
 simp only [Array.toList_map,Array.toList_range,List.size_toArray]
 induction n with
 | zero=>simp
 | succ n ih=>
  rw [Nat.succ_mul,List.range_add,List.map_append,ih,List.replicate_succ',List.flatten_append]
  congr 1
  simp only [List.map_map,List.flatten_cons,List.flatten_nil,List.append_nil]
  apply List.ext_getElem (by simp)
  intro i h1 h2
  simp at h1
  simp [Nat.mul_add_mod_of_lt,Nat.mod_eq_of_lt h1,h1,Nat.mul_comm n]
theorem WP2 {t:TypeId} (hz:(zer P t).isSome=true):∃z,zer P t=some z:=Option.isSome_iff_exists.1 hz
theorem Ze3 {k:IntKind} {op:BinOp} {a b:Int} (H:W94 k op a b λv=>K v h) (hs:op≠.shl/\op≠.shr) :
  hp P (binOp op 0 (.int k a) (.int k b)) K h:=by
 cases op <;> simp only [W94,binOp,Op.intArith,Op.intDiv,Op.intBits,Op.intCmp,ne_eq,not_true,if_false] at H ⊢ <;> first
  | exact H
  | (rw [if_neg H.1];exact H.2)
  | exact H.elim
  | (exact absurd rfl hs.1)
  | (exact absurd rfl hs.2)
theorem YS8 {k:IntKind} {op:BinOp} {a b:Int} (t:TypeId) (hs:op≠.shl/\op≠.shr):binOp op t (.int k a) (.int k b)=binOp op 0 (.int k a) (.int k b):=by
 cases op <;> first | rfl | exact absurd rfl hs.1 | exact absurd rfl hs.2
end
end
section
section
variable {P:Program} {ρ:Operand->Value} {h:Wa2} {K:kQ}
theorem Wd4 {op:BinOp} {t:TypeId} {x y:Operand} {a b:Value} (F:Unit->Wa2->Prop)
  (hs:(op≠.eql/\op≠.neq)\/((∀xs,a≠.agg xs)/\a≠.nilIface)\/(P.eqGuardType P.depth t=false/\∃xs,a=.agg xs)):hp P (eqGuard op t x y a b) F h=F () h:=by
 unfold eqGuard
 rcases hs with ⟨h1,h2⟩ | ⟨h1,h2⟩ | ⟨h1,xs,rfl⟩
 ·cases op <;> first | rfl | exact absurd rfl h1 | exact absurd rfl h2
 ·cases op <;> first | rfl | (cases a <;> first | exact absurd rfl h2 | exact absurd rfl (h1 _) | rfl)
 ·cases op <;> first | rfl | (cases b <;> first | rfl | (simp [Wa6,Wp5,h1,Wc0]))
theorem Wh1 {t:TypeId} {a b:Value} (ha:∀k n,a≠.int k n) (ha2:∀s,a≠.string s) (ha3:∀k n,a≠.float k n) (ha4:∀k n m,a≠.complex k n m) (F:kQ) :
  hp P (binOp .eql t a b) F h=hp P (Op.equal t a b) (λr h=>F (.bool r) h) h:=by
 cases a <;> first | exact absurd rfl (ha _ _) | exact absurd rfl (ha2 _) | exact absurd rfl (ha3 _ _) | exact absurd rfl (ha4 _ _ _) | (cases b <;> simp only [binOp,Wa6] <;> rfl)
theorem Wh2 {t:TypeId} {a b:Value} (ha:∀k n,a≠.int k n) (ha2:∀s,a≠.string s) (ha3:∀k n,a≠.float k n) (ha4:∀k n m,a≠.complex k n m) (F:kQ) :
  hp P (binOp .neq t a b) F h=hp P (Op.equal t a b) (λr h=>F (.bool (!r)) h) h:=by
 cases a <;> first | exact absurd rfl (ha _ _) | exact absurd rfl (ha2 _) | exact absurd rfl (ha3 _ _) | exact absurd rfl (ha4 _ _ _) | (cases b <;> simp only [binOp,Wa6] <;> rfl)
theorem Yx2 {y:Operand} (hy:ZK0 y=true) (hc:∀v,ρ (.const v)=v):ρ y=.pointer none:=by
 unfold ZK0 at hy;split at hy <;> first | exact hc _ | cases hy
theorem Yx3 {y:Operand} (hy:ZK1 y=true) (hc:∀v,ρ (.const v)=v):∃l c,ρ y=.slice none l c:=by
 unfold ZK1 at hy;split at hy <;> first | exact ⟨_,_,hc _⟩ | cases hy
theorem Yx4 {y:Operand} (hy:ZL4 y=true) (hc:∀v,ρ (.const v)=v):ρ y=.map none:=by
 unfold ZL4 at hy;split at hy <;> first | exact hc _ | cases hy
theorem Yx5 {y:Operand} (hy:ZK2 y=true) (hc:∀v,ρ (.const v)=v):ρ y=.nilFunc:=by
 unfold ZK2 at hy;split at hy <;> first | exact hc _ | cases hy
theorem Wf9 (t:TypeId) (x y:Value):Op.equal t x y=Op.equalIn (9999+1) t x y:=rfl
theorem W99 (d:Nat) {t:TypeId} {a b:Bool} (hu:P.underlying t=some .bool) (F:Bool->Wa2->Prop) (h:Wa2):hp P (Op.equalIn (d+1) t (.bool a) (.bool b)) F h=F (a == b) h:=by
 simp only [Op.equalIn,Wa6,Wa8 hu];rfl
theorem Yx6 (d:Nat) {t e:TypeId} {a:Option Addr} (hu:P.underlying t=some (.pointer e)) (F:Bool->Wa2->Prop) (h:Wa2):hp P (Op.equalIn (d+1) t (.pointer a) (.pointer none)) F h=F a.isNone h:=by
 cases a <;> simp only [Op.equalIn,Wa6,Wa8 hu] <;> rfl
theorem W04 (d:Nat) {t e:TypeId} {a:Option Addr} {l c l' c':Nat} (hu:P.underlying t=some (.slice e)) (F:Bool->Wa2->Prop) (h:Wa2):hp P (Op.equalIn (d+1) t (.slice a l c) (.slice none l' c')) F h=F a.isNone h:=by
 cases a <;> simp only [Op.equalIn,Wa6,Wa8 hu] <;> rfl
theorem Yx7 (d:Nat) {t e e':TypeId} {a:Option Nat} (hu:P.underlying t=some (.map e e')) (F:Bool->Wa2->Prop) (h:Wa2):hp P (Op.equalIn (d+1) t (.map a) (.map none)) F h=F a.isNone h:=by
 cases a <;> simp only [Op.equalIn,Wa6,Wa8 hu] <;> rfl
theorem Yx8 (d:Nat) {t:TypeId} {a b:Array TypeId} {c:Bool} (hu:P.underlying t=some (.func a b c)) (F:Bool->Wa2->Prop) (h:Wa2):hp P (Op.equalIn (d+1) t .nilFunc .nilFunc) F h=F true h:=by
 simp only [Op.equalIn,Wa6,Wa8 hu];rfl
theorem Yx9 (d:Nat) {t:TypeId} {a b:Array TypeId} {c:Bool} {f:Fn} {x y:Array Value} (hu:P.underlying t=some (.func a b c)) (F:Bool->Wa2->Prop) (h:Wa2):hp P (Op.equalIn (d+1) t (.func f x y) .nilFunc) F h=F false h:=by
 simp only [Op.equalIn,Wa6,Wa8 hu];rfl
theorem YE5 {op:BinOp} {xt yt:TypeId} {x y:Operand} {o:Oper} (ho:o.op=.binOp op xt x y yt) (hc:∀v,ρ (.const v)=v)
  (H:YR9 P op xt yt x y ρ o h K):hp P (execOp ρ o) (nxt P K) h:=by
 have e:execOp ρ o=(do let r <- (do eqGuard op xt x y (ρ x) (ρ y);binOp op xt (ρ x) (ρ y));pure (Next.value r)):=by unfold execOp;rw [ho]
 have toh:hp P (do eqGuard op xt x y (ρ x) (ρ y);binOp op xt (ρ x) (ρ y)) K h->hp P (execOp ρ o) (nxt P K) h:=λq=>by rw [e,WY4];exact q
 have fall:opH P ρ o h K->hp P (execOp ρ o) (nxt P K) h:=id
 unfold YR9 at H
 split at H
 ·rename_i k hk
  split at H
  ·split at H
   ·obtain ⟨a,ha,H⟩:=We3 H
    obtain ⟨b,hb,H⟩:=We3 H
    apply toh
    rw [ha,hb]
    simp only [Wa6]
    rw [Wd4 _ (.inl ⟨by simp,by simp⟩)]
    simp only [Zr5,binOp,Op.shift] at H ⊢
    rw [if_neg (by have:=H.1;omega)]
    exact H.2
   ·exact H.elim
  ·split at H
   ·obtain ⟨a,ha,H⟩:=We3 H
    obtain ⟨b,hb,H⟩:=We3 H
    apply toh
    rw [ha,hb]
    simp only [Wa6]
    rw [Wd4 _ (.inl ⟨by simp,by simp⟩)]
    simp only [Zr5,binOp,Op.shift] at H ⊢
    rw [if_neg (by have:=H.1;omega)]
    exact H.2
   ·exact H.elim
  ·rename_i n1 n2
   obtain ⟨a,ha,H⟩:=We3 H
   obtain ⟨b,hb,H⟩:=We3 H
   have hs:op≠.shl/\op≠.shr:=⟨n1,n2⟩
   apply toh
   rw [ha,hb]
   simp only [Wa6]
   rw [Wd4 _ (.inr (.inl ⟨by simp,by simp⟩)),YS8 xt hs]
   exact Ze3 H hs
 ·rename_i hu
  split at H
  ·obtain ⟨a,ha,H⟩:=Wf5 H
   obtain ⟨b,hb,H⟩:=Wf5 H
   apply toh
   rw [ha,hb]
   simp only [Wa6]
   rw [Wd4 _ (.inr (.inl ⟨by simp,by simp⟩)),Wh1 (by simp) (by simp) (by simp) (by simp)]
   rw [Wf9,W99 _ (Wc6 hu (by simp))]
   exact H
  ·obtain ⟨a,ha,H⟩:=Wf5 H
   obtain ⟨b,hb,H⟩:=Wf5 H
   apply toh
   rw [ha,hb]
   simp only [Wa6]
   rw [Wd4 _ (.inr (.inl ⟨by simp,by simp⟩)),Wh2 (by simp) (by simp) (by simp) (by simp)]
   rw [Wf9,W99 _ (Wc6 hu (by simp))]
   exact H
  ·exact H.elim
 ·rename_i hu
  split at H
  ·obtain ⟨a,ha,H⟩:=We1 H
   obtain ⟨b,hb,H⟩:=We1 H
   apply toh
   rw [ha,hb]
   simp only [Wa6]
   rw [Wd4 _ (.inr (.inl ⟨by simp,by simp⟩))]
   exact H
  ·obtain ⟨a,ha,H⟩:=We1 H
   obtain ⟨b,hb,H⟩:=We1 H
   apply toh
   rw [ha,hb]
   simp only [Wa6]
   rw [Wd4 _ (.inr (.inl ⟨by simp,by simp⟩))]
   exact H
  ·obtain ⟨a,ha,H⟩:=We1 H
   obtain ⟨b,hb,H⟩:=We1 H
   apply toh
   rw [ha,hb]
   simp only [Wa6]
   rw [Wd4 _ (.inl ⟨by simp,by simp⟩)]
   simp only [binOp,Op.stringOp]
   rw [if_neg (by have:=H.1;have e:IntKind.i64.max=9223372036854775807:=(by decide);omega)]
   exact H.2
  ·exact fall H
 ·rename_i el hu
  split at H
  ·rename_i hn
   have hy:=Yx2 hn hc
   obtain ⟨a,ha,H⟩:=Wj6 H
   apply toh
   rw [ha,hy]
   simp only [Wa6]
   rw [Wd4 _ (.inr (.inl ⟨by simp,by simp⟩)),Wh1 (by simp) (by simp) (by simp) (by simp),Wf9,Yx6 _ (Wc6 hu (by simp))]
   exact H
  ·rename_i hn
   have hy:=Yx2 hn hc
   obtain ⟨a,ha,H⟩:=Wj6 H
   apply toh
   rw [ha,hy]
   simp only [Wa6]
   rw [Wd4 _ (.inr (.inl ⟨by simp,by simp⟩)),Wh2 (by simp) (by simp) (by simp) (by simp),Wf9,Yx6 _ (Wc6 hu (by simp))]
   exact H
  ·obtain ⟨a,ha,H⟩:=Wj6 H
   obtain ⟨b,hb,H⟩:=Wj6 H
   apply toh
   rw [ha,hb]
   simp only [Wa6]
   rw [Wd4 _ (.inr (.inl ⟨by simp,by simp⟩))]
   exact H
  ·obtain ⟨a,ha,H⟩:=Wj6 H
   obtain ⟨b,hb,H⟩:=Wj6 H
   apply toh
   rw [ha,hb]
   simp only [Wa6]
   rw [Wd4 _ (.inr (.inl ⟨by simp,by simp⟩))]
   exact H
  ·exact fall H
 ·rename_i el hu
  split at H
  ·rename_i hn
   obtain ⟨l0,c0,hy⟩:=Yx3 hn hc
   obtain ⟨a,l,c,ha,H⟩:=Wf6 H
   apply toh
   rw [ha,hy]
   simp only [Wa6]
   rw [Wd4 _ (.inr (.inl ⟨by simp,by simp⟩)),Wh1 (by simp) (by simp) (by simp) (by simp),Wf9,W04 _ (Wc6 hu (by simp))]
   exact H
  ·rename_i hn
   obtain ⟨l0,c0,hy⟩:=Yx3 hn hc
   obtain ⟨a,l,c,ha,H⟩:=Wf6 H
   apply toh
   rw [ha,hy]
   simp only [Wa6]
   rw [Wd4 _ (.inr (.inl ⟨by simp,by simp⟩)),Wh2 (by simp) (by simp) (by simp) (by simp),Wf9,W04 _ (Wc6 hu (by simp))]
   exact H
  ·exact fall H
 ·rename_i e1 e2 hu
  split at H
  ·rename_i hn
   have hy:=Yx4 hn hc
   obtain ⟨a,ha,H⟩:=WA7 H
   apply toh
   rw [ha,hy]
   simp only [Wa6]
   rw [Wd4 _ (.inr (.inl ⟨by simp,by simp⟩)),Wh1 (by simp) (by simp) (by simp) (by simp),Wf9,Yx7 _ (Wc6 hu (by simp))]
   exact H
  ·rename_i hn
   have hy:=Yx4 hn hc
   obtain ⟨a,ha,H⟩:=WA7 H
   apply toh
   rw [ha,hy]
   simp only [Wa6]
   rw [Wd4 _ (.inr (.inl ⟨by simp,by simp⟩)),Wh2 (by simp) (by simp) (by simp) (by simp),Wf9,Yx7 _ (Wc6 hu (by simp))]
   exact H
  ·exact fall H
 ·rename_i e1 e2 e3 hu
  split at H
  ·rename_i hn
   have hy:=Yx5 hn hc
   rcases Wy0 H with ⟨ha,H⟩ | ⟨f,a,b,ha,H⟩
   ·apply toh
    rw [ha,hy]
    simp only [Wa6]
    rw [Wd4 _ (.inr (.inl ⟨by simp,by simp⟩)),Wh1 (by simp) (by simp) (by simp) (by simp),Wf9,Yx8 _ (Wc6 hu (by simp))]
    exact H
   ·apply toh
    rw [ha,hy]
    simp only [Wa6]
    rw [Wd4 _ (.inr (.inl ⟨by simp,by simp⟩)),Wh1 (by simp) (by simp) (by simp) (by simp),Wf9,Yx9 _ (Wc6 hu (by simp))]
    exact H
  ·rename_i hn
   have hy:=Yx5 hn hc
   rcases Wy0 H with ⟨ha,H⟩ | ⟨f,a,b,ha,H⟩
   ·apply toh
    rw [ha,hy]
    simp only [Wa6]
    rw [Wd4 _ (.inr (.inl ⟨by simp,by simp⟩)),Wh2 (by simp) (by simp) (by simp) (by simp),Wf9,Yx8 _ (Wc6 hu (by simp))]
    exact H
   ·apply toh
    rw [ha,hy]
    simp only [Wa6]
    rw [Wd4 _ (.inr (.inl ⟨by simp,by simp⟩)),Wh2 (by simp) (by simp) (by simp) (by simp),Wf9,Yx9 _ (Wc6 hu (by simp))]
    exact H
  ·exact fall H
 ·rename_i hu
  split at H
  ·obtain ⟨⟨b,hb,H⟩,hg,xs,hx⟩:=Yx1 H
   apply toh
   rw [hx] at hb ⊢
   simp only [Wa6]
   rw [Wd4 _ (.inr (.inr ⟨hg,_,rfl⟩)),Wh1 (by simp) (by simp) (by simp) (by simp),hb]
   exact H
  ·obtain ⟨⟨b,hb,H⟩,hg,xs,hx⟩:=Yx1 H
   apply toh
   rw [hx] at hb ⊢
   simp only [Wa6]
   rw [Wd4 _ (.inr (.inr ⟨hg,_,rfl⟩)),Wh2 (by simp) (by simp) (by simp) (by simp),hb]
   exact H
  ·exact H.elim
 ·rename_i hu
  split at H
  ·obtain ⟨⟨b,hb,H⟩,hg,xs,hx⟩:=Yx1 H
   apply toh
   rw [hx] at hb ⊢
   simp only [Wa6]
   rw [Wd4 _ (.inr (.inr ⟨hg,_,rfl⟩)),Wh1 (by simp) (by simp) (by simp) (by simp),hb]
   exact H
  ·obtain ⟨⟨b,hb,H⟩,hg,xs,hx⟩:=Yx1 H
   apply toh
   rw [hx] at hb ⊢
   simp only [Wa6]
   rw [Wd4 _ (.inr (.inr ⟨hg,_,rfl⟩)),Wh2 (by simp) (by simp) (by simp) (by simp),hb]
   exact H
  ·exact H.elim
 ·exact fall H
end
end
section
section
variable {P:Program} {ρ:Operand->Value} {h:Wa2} {K:kQ}
theorem Ws7 {v:Value} {i:Int} {k:IntKind} {y:Nat} {code:BoundsCode} (hv:v=.int k i) (h0:0<=i) (h1:i<=y) (F:Nat->Wa2->Prop) :
  hp P (Instr.sliceBound v y code) F h=F i.toNat h:=by
 subst hv
 simp only [Instr.sliceBound,asIntOf,Wa6,Wc0]
 rw [if_pos ⟨h0,h1⟩];rfl
theorem Wp6 {v:Option Value} {d m:Nat} {F:Nat->Prop} (H:Wu0 none v d m F) :
  (v=none/\F d)\/∃k i,v=some (.int k i)/\0<=i/\i<=m/\F i.toNat:=by
 unfold Wu0 at H
 split at H
 ·exact .inl ⟨rfl,H⟩
 ·split at H
  ·obtain ⟨k,i,rfl,H⟩:=Wr8 H
   exact .inr ⟨_,_,rfl,H⟩
  ·cases ‹none=some _›
theorem Ww2 {isSlice:Bool} {len cap:Nat} {lo hi mx:Option Value} {F:Nat × Nat × Nat->Wa2->Prop} (hm:mx=none\/hi≠none)
  (H:Wu0 none mx cap cap λm=>Wu0 none hi len m λh'=>Wu0 none lo 0 h' λl=>F (l,h',m) h) :
  hp P (Instr.sliceBounds isSlice len cap lo hi mx) F h:=by
 rcases Wp6 H with ⟨rfl,H1⟩ | ⟨k,i,rfl,h0,h1,H1⟩
 ·rcases Wp6 H1 with ⟨rfl,H2⟩ | ⟨k,i,rfl,h0,h1,H2⟩
  ·rcases Wp6 H2 with ⟨rfl,H3⟩ | ⟨k,i,rfl,h0,h1,H3⟩
   ·exact H3
   ·simp only [Instr.sliceBounds,Wa6,Wc0,Ws7 rfl h0 h1];exact H3
  ·rcases Wp6 H2 with ⟨rfl,H3⟩ | ⟨k',i',rfl,h0',h1',H3⟩
   ·simp only [Instr.sliceBounds,Wa6,Wc0,Ws7 rfl h0 h1];exact H3
   ·simp only [Instr.sliceBounds,Wa6,Wc0,Ws7 rfl h0 h1,Ws7 rfl h0' h1'];exact H3
 ·rcases Wp6 H1 with ⟨rfl,H2⟩ | ⟨k2,i2,rfl,h02,h12,H2⟩
  ·rcases hm with hm | hm
   ·cases hm
   ·exact absurd rfl hm
  ·rcases Wp6 H2 with ⟨rfl,H3⟩ | ⟨k',i',rfl,h0',h1',H3⟩
   ·simp only [Instr.sliceBounds,Wa6,Wc0,Ws7 rfl h0 h1,Ws7 rfl h02 h12];exact H3
   ·simp only [Instr.sliceBounds,Wa6,Wc0,Ws7 rfl h0 h1,Ws7 rfl h02 h12,Ws7 rfl h0' h1'];exact H3
theorem YE6 {t:TypeId} {x:Value} {lo hi mx:Option Value} (hm:mx=none\/hi≠none) (H:WN4 P t x lo hi mx λv=>K v h) :
  hp P (Instr.sliceAt t x lo hi mx) K h:=by
 unfold WN4 at H
 split at H
 ·rename_i hu
  split at H
  ·exact H.elim
  ·rename_i hmx
   obtain ⟨s,rfl,H⟩:=We1 H
   simp only [Instr.sliceAt,Wa6,Wa8 (Wc6 hu (by simp)),Instr.slice]
   rw [if_neg hmx]
   simp only [Wa6,Wc0]
   refine Ww2 (.inl rfl) ?_
   exact H
 ·rename_i e hu
  split at H
  ·rename_i hth
   obtain ⟨a,len,cap,rfl,H⟩:=Wf6 H
   simp only [Instr.sliceAt,Wa6,Wa8 (Wc6 hu (by simp)),Instr.slice]
   refine Ww2 hm ?_
   simp only [Wa6,Wd7 hth,Wc0]
   exact H
  ·exact H.elim
 ·rename_i n e hu
  split at H
  ·rename_i hth
   obtain ⟨a,rfl,H⟩:=Wh8 H
   simp only [Instr.sliceAt,Wa6,Wa8 (Wc6 hu (by simp)),Instr.sureAddr,Wc0]
   refine Ww2 hm ?_
   simp only [Wa6,Wd7 hth,Wc0]
   exact H
  ·exact H.elim
 ·exact H.elim
theorem Wt4 (n:Nat) (F:Unit->Wa2->Prop):hp P (askRoom n) F h=F () h:=by unfold askRoom;split <;> rfl
theorem Wk5 {n:Int} (h0:0<=n) (h1:n<=9223372036854775807):IntKind.i64.wrap n=n:=by
 have e1:((2:Int) ^ IntKind.i64.bits)=18446744073709551616:=by decide
 have e2:((2:Int) ^ (IntKind.i64.bits - 1))=9223372036854775808:=by decide
 unfold IntKind.wrap
 rw [e1,e2]
 have:n % 18446744073709551616=n:=by omega
 simp only [this]
 rw [if_neg (by simp;omega)]
theorem Ya0 {t elem:TypeId} {k1 k2:IntKind} {l c:Int} (hu:P.underlying t=some (.slice elem)) (hth:Wf4 P elem=true) (hz:(zer P elem).isSome=true)
  (hs:(Wt8 P elem).length=siz P elem) (hp0:0 < siz P elem) (H:Wr4 P elem l c h K):hp P (Instr.makeSlice t (.int k1 l) (.int k2 c)) K h:=by
 obtain ⟨h1,h2,h3,h4,H⟩:=H
 obtain ⟨i,hi⟩:=Wt3 hth
 obtain ⟨z,hz⟩:=WP2 hz
 have hb:byt P elem=i.bytes:=by unfold byt;rw [hi]
 rw [hb] at h4
 have w1:IntKind.i64.wrap l=l:=Wk5 h1 (by omega)
 have w2:IntKind.i64.wrap c=c:=Wk5 (by omega) h3
 simp only [Instr.makeSlice,Wa6,Wa8 hu,asInt,Go.asInt,asIntOf,Wc0,Wg1 hi,w1,w2]
 rw [if_neg (by
  simp only [Bool.or_eq_true,decide_eq_true_eq,not_or]
  refine ⟨⟨⟨by omega,?_⟩,by omega⟩,by omega⟩
  have:((2:Int) ^ 48)=281474976710656:=by decide
  rw [this] at h4
  rw [this]
  omega)]
 simp only [Wa6,Wt4,Wd7 hth]
 by_cases hc0:c.toNat=0
 ·simp only [hc0,Nat.zero_mul,if_true,Wc0,newRow,newObj,Wa6,hp] at H ⊢
  have e:(Array.range 0).map (λx=>(#[]:Array Value)[x % (#[]:Array Value).size]!)=#[]:=by simp [Array.range]
  rw [e];simpa using H
 ·rw [if_neg (by intro e;rcases Nat.mul_eq_zero.1 e with e | e <;> omega)]
  simp only [Wa6,Wi5 hz,Wc0,<- WI3 hz,newRow,newObj,hp]
  have:=Zr6 (Wt8 P elem) c.toNat (by omega)
  rw [hs] at this
  rw [this];exact H
end
end
section
section
variable {P:Program} {ρ:Operand->Value} {h:Wa2} {K:kQ}
def ZR3 (P:Program) (K:kQ) (h0:World):Next->World->Prop
 | .value v,w=>K v w.heap/\Kw h0 w
 | .skip,w=>K Ws2 w.heap/\Kw h0 w
 | .enter f args,w=>CallsIn Fence.wide 0 P f args w (onH h0 K)
 | .round l f tmps assign body,w=>RoundIn Fence.wide 0 P l f tmps assign body w (onH h0 K)
 | _,_=>False
def OpS (P:Program) (ρ:Operand->Value) (o:Oper) (h:Wa2) (K:kQ):Prop:=
 ∀w:World,w.heap=h->∃nx w',(execOp ρ o).run P w=.ok nx w'/\ZR3 P K w nx w'
theorem Ze4 {h0 h1:World} (hk:Kw h0 h1):∀e w,onH h1 K e w->onH h0 K e w:=by
 intro e w x
 cases e <;> first | exact x | exact ⟨x.1,hk.trans x.2⟩
theorem Wd5 {o:Oper} (H:hp P (execOp ρ o) (nxt P K) h):OpS P ρ o h K:=by
 intro w hw
 obtain ⟨nx,w',h1,h2,h3⟩:=ZC8 _ H w hw
 refine ⟨nx,w',h1,?_⟩
 cases nx <;> first
  | exact ⟨h2,h3⟩
  | exact (h2 w' rfl).mono (Ze4 h3)
  | exact h2.elim
theorem Wj7 {o:Oper} {b:Builtin} {args:Array Operand} {argTypes:Array TypeId} (ho:o.op=.call { callee:=.builtin b,args,argTypes }) (s:Sem Value)
  (hb:∀consts,builtin b argTypes o.type consts (args.map ρ)=(do let x <- s;pure (Next.value x))) (H:hp P s K h):hp P (execOp ρ o) (nxt P K) h:=by
 unfold execOp;rw [ho]
 simp only [resolve,Wa6,Wc0,invoke,hb]
 exact H
theorem W39 (f:Operand->Value) (a:Array Operand):Yj9 f a=a.map f:=by unfold Yj9;apply Array.toList_inj.1;simp
theorem YS9 {f:Int->Int->Int} {m:Value->Value->Sem Value} (hm:∀k a b,m (.int k a) (.int k b)=pure (.int k (f a b))) {k:IntKind} (ys:List Value):∀(a:Int),
  Wh7.go f k a ys (λn=>K (.int k n) h)->hp P (ys.foldlM m (.int k a)) K h:=by
 induction ys with
 | nil=>intro a H;exact H
 | cons y ys ih=>
  intro a H
  obtain ⟨b,rfl,H2⟩:=We3 H
  simp only [List.foldlM_cons,Wa6,hm,Wc0]
  exact ih _ H2
theorem Ya1 {f:Int->Int->Int} {m:Value->Value->Sem Value} (hm:∀k a b,m (.int k a) (.int k b)=pure (.int k (f a b))) {t:TypeId} {k:IntKind} (hk:Wt9 P t=some k)
  (why:String) (xs:List Value) (H:Wh7 f P t xs λn=>K (.int k n) h):hp P (match xs with | []=>stuck why | x :: rest=>rest.foldlM m x) K h:=by
 cases xs with
 | nil=>exact H.elim
 | cons x xs=>cases xs with
  | nil=>
   simp only [Wh7,hk] at H
   obtain ⟨b,rfl,H2⟩:=We3 H
   exact H2
  | cons y ys=>
   simp only [Wh7,hk] at H
   obtain ⟨b,rfl,H2⟩:=We3 H
   exact YS9 hm _ _ H2
theorem WY8 {o:Oper} {b:Builtin} {args:Array Operand} {argTypes:Array TypeId} (ho:o.op=.call { callee:=.builtin b,args,argTypes })
  (H:Wn9 P b argTypes o.type (args.toList.map ρ) ρ o h K):hp P (execOp ρ o) (nxt P K) h:=by
 have ea:args.map ρ=(args.toList.map ρ).toArray:=by rw [<- W39];rfl
 unfold Wn9 at H
 split at H
 ·rename_i x hx
  refine Wj7 ho (Builtin.len_ argTypes o.type (args.map ρ)) (λ_=>rfl) ?_
  rw [ea,hx]
  split at H
  ·rename_i t0 h0
   simp only [Builtin.len_,h0]
   simp only [List.getElem?_toArray,List.getElem?_cons_zero]
   split at H
   ·rename_i e hu
    obtain ⟨a,n,c,rfl,H2⟩:=Wf6 H
    simp only [Wa6,Wa8 (Wc6 hu (by simp)),Wc0];exact H2
   ·rename_i hu
    obtain ⟨a,rfl,H2⟩:=We1 H
    simp only [Wa6,Wa8 (Wc6 hu (by simp)),Wc0];exact H2
   ·rename_i e1 e2 hu
    obtain ⟨r,rfl,H2⟩:=WA7 H
    simp only [Wa6,Wa8 (Wc6 hu (by simp)),Wc0]
    unfold Zu5 at H2
    cases r with
    | none=>exact H2
    | some r=>
     simp only at H2
     split at H2
     ·rename_i es c hr
      simp only [Wa6,getObj,hp,hr];exact H2
     ·exact H2.elim
   ·rename_i n e hu
    simp only [Wa6,Wa8 (Wc6 hu (by simp)),Wc0];exact H
   ·exact H.elim
  ·exact H.elim
 ·rename_i x hx
  refine Wj7 ho (Builtin.cap_ argTypes o.type (args.map ρ)) (λ_=>rfl) ?_
  rw [ea,hx]
  split at H
  ·rename_i t0 h0
   simp only [Builtin.cap_,h0]
   simp only [List.getElem?_toArray,List.getElem?_cons_zero]
   split at H
   ·rename_i e hu
    obtain ⟨a,n,c,rfl,H2⟩:=Wf6 H
    simp only [Wa6,Wa8 (Wc6 hu (by simp)),Wc0];exact H2
   ·exact H.elim
  ·exact H.elim
 ·rename_i xs
  refine Wj7 ho (Builtin.append_ argTypes o.type (args.map ρ)) (λ_=>rfl) ?_
  rw [ea];exact H
 ·refine Wj7 ho (Builtin.copy_ argTypes o.type (args.map ρ)) (λ_=>rfl) ?_
  rw [ea];exact H
 ·refine Wj7 ho (Builtin.delete_ argTypes o.type (args.map ρ)) (λ_=>rfl) ?_
  rw [ea];exact H
 ·refine Wj7 ho (Builtin.unsafeSliceData_ argTypes o.type (args.map ρ)) (λ_=>rfl) ?_
  rw [ea];exact H
 ·refine Wj7 ho (Builtin.unsafeString_ argTypes o.type (args.map ρ)) (λ_=>rfl) ?_
  rw [ea];exact H
 ·refine Wj7 ho (Builtin.clear_ argTypes o.type (args.map ρ)) (λ_=>rfl) ?_
  rw [ea];exact H
 ·split at H
  ·rename_i k hk
   refine Wj7 ho (Builtin.max_ argTypes o.type (args.map ρ)) (λ_=>rfl) ?_
   rw [ea]
   exact Ya1 (f:=WY5) (m:=Builtin.max2) (λ_ _ _=>rfl) hk _ _ H
  ·exact H
 ·split at H
  ·rename_i k hk
   refine Wj7 ho (Builtin.min_ argTypes o.type (args.map ρ)) (λ_=>rfl) ?_
   rw [ea]
   exact Ya1 (f:=WY6) (m:=Builtin.min2) (λ_ _ _=>rfl) hk _ _ H
  ·exact H
 ·exact H
end
end
section
section
variable {P:Program} {ρ:Operand->Value} {h:Wa2} {K:kQ}
theorem Yk5 {o:Oper} {f:Operand} {args:Array Operand} {argTypes:Array TypeId} (ho:o.op=.call { callee:=.value f,args,argTypes })
  (H:Wv0 P (ρ f) (args.map ρ) h K):OpS P ρ o h K:=by
 intro w hw
 have e:execOp ρ o=(do let d <- Deferred.ofValue (ρ f) (args.map ρ);invoke d.target d.args):=by
  unfold execOp;rw [ho];rfl
 rw [e]
 unfold Wv0 at H
 split at H
 ·rename_i g first captured hf
  rw [hf]
  obtain ⟨he,hcall⟩:=H
  have hr:(do let d <- Deferred.ofValue (.func (.func g) first captured) (args.map ρ);invoke d.target d.args).run P w=.ok (.enter g (first ++ args.map ρ ++ captured)) w:=he _ w
  exact ⟨_,w,hr,hcall w hw⟩
 ·rename_i l first captured hf
  rw [hf]
  obtain ⟨fn,tmps,assign,body,hr,hround⟩:=H w hw
  exact ⟨_,w,hr,hround⟩
 ·exact H.elim
theorem YE7 {o:Oper} {f:Operand} {args:Array Operand} {argTypes:Array TypeId} (ho:o.op=.call { callee:=.value f,args,argTypes })
  (H:YR8 P (ρ f) (args.map ρ) h K):OpS P ρ o h K:=by
 have e:execOp ρ o=(do let d <- Deferred.ofValue (ρ f) (args.map ρ);invoke d.target d.args):=by
  unfold execOp;rw [ho];rfl
 unfold YR8 at H
 split at H
 ·rename_i g first captured hf
  refine Wd5 ?_
  rw [e,hf]
  show hp P (callFunc g (first ++ args.map ρ ++ captured)) (nxt P K) h
  refine Wk2 ?_ H
  intro nx h' x
  cases nx <;> first | exact x | exact x.elim
 ·exact H.elim
theorem Ya2 (o:Oper) (hc:∀v,ρ (.const v)=v) (H:vop P ρ o h K):OpS P ρ o h K:=by
 unfold vop at H
 split at H
 case h_1 x hx | h_2 x hx=>exact Wd5 (by unfold execOp;rw [hx];exact H)
 case h_3 c a b hx=>
  obtain ⟨t,ht,H⟩:=Wf5 H
  refine Wd5 ?_
  unfold execOp;rw [hx]
  simp only [ht,Go.asBool,Wa6,Wc0,nxt]
  have:=YS6 H
  cases t <;> simpa using this
 case h_4 t hx=>
  refine Wd5 ?_
  unfold execOp;rw [hx]
  split at H
  ·rename_i z hz
   refine (WY4 _).mpr ?_
   simp only [Instr.alloc,Wa6,Wi5 hz,newVar,newRow,newObj,hp,Wc0]
   exact H
  ·exact H.elim
 case h_5 t x hx=>
  refine Wd5 ?_
  unfold execOp;rw [hx]
  have H:=WD5 H
  refine (WY4 _).mpr ?_
  simp only [Instr.box,newVar,newRow,newObj,Wa6,hp,Wc0]
  simpa using H
 case h_6 t parts hx=>
  refine Wd5 ?_
  unfold execOp;rw [hx]
  refine (WY4 _).mpr ?_
  split at H
  ·rename_i hz
   obtain ⟨z,hz⟩:=WP2 hz
   simp only [Instr.build,Wa6,Wi5 hz,<- WI3 hz]
   split at H
   ·rename_i fields hu
    split at H
    ·exact H.elim
    ·rename_i hall
     simp only [Wa8 (Wc6 hu (by simp))]
     obtain ⟨cs,h1,h2⟩:=WL2 _ _ _ H
     have hpl:∀(fs:List Field),(∀f ∈ fs,Wf4 P f.type=true)->∀(G:List (Nat × Nat)->Wa2->Prop),
       hp P (fs.mapM λf=>do pure (f.offset,<- sizeOf f.type)) G h=G (fs.map λf=>(f.offset,siz P f.type)) h:=by
      intro fs
      induction fs with
      | nil=>intro _ G;rfl
      | cons f fs ih=>
       intro hf G
       simp only [List.mapM_cons,Wa6,Wd7 (hf f (by simp)),Wc0,ih (λg hg=>hf g (by simp [hg])),List.map_cons]
     have hall2:∀f ∈ fields.toList,Wf4 P f.type=true:=by
      intro f hf
      have:fields.all (λf=>Wf4 P f.type)=true:=by simpa using hall
      rw [Array.all_eq_true'] at this
      exact this f (by simpa using hf)
     rw [Array.mapM_eq_mapM_toList]
     simp only [map_eq_pure_bind,Wa6,hpl fields.toList hall2,Wc0]
     have e:(λx:Nat=>((fields.toList.map λf=>(f.offset,siz P f.type)).toArray)[x]?)=(λi=>((fields[i]?).map λf=>(f.offset,f.type)).map λx=>(x.1,siz P x.2)):=by
      funext i;simp [Function.comp_def]
     have ep:(parts.map λx=>(x.1,ρ x.2)).toList=parts.toList.map λp=>(p.1,ρ p.2):=by simp
     rw [e,ep,h1]
     exact h2
   ·rename_i n elem hu
    split at H
    ·exact H.elim
    ·rename_i hth
     have hth:Wf4 P elem=true:=by simpa using hth
     simp only [Wa8 (Wc6 hu (by simp))]
     obtain ⟨cs,h1,h2⟩:=WL2 _ _ _ H
     simp only [Wa6,Wd7 hth]
     have ep:(parts.map λx=>(x.1,ρ x.2)).toList=parts.toList.map λp=>(p.1,ρ p.2):=by simp
     have e:(λi=>some (i*siz P elem,siz P elem))=(λi=>((λi=>some (i*siz P elem,elem)) i:Option (Nat × TypeId)).map λx=>(x.1,siz P x.2)):=by
      funext i;simp
     rw [e,ep,h1]
     exact h2
   ·exact H.elim
  ·exact H.elim
 case h_7 t len parts hx=>
  refine Wd5 ?_
  unfold execOp;rw [hx]
  refine (WY4 _).mpr ?_
  split at H
  ·rename_i elem hu
   split at H
   ·rename_i hh
    obtain ⟨hth,hle,hz,hl,h0⟩:=hh
    obtain ⟨z,hz⟩:=WP2 hz
    simp only [Instr.buildSlice,Wa6,Wa8 (Wc6 hu (by simp)),Wd7 hth]
    rw [if_neg (by omega)]
    obtain ⟨cs,h1,h2⟩:=WL2 _ _ _ H
    have ep:(parts.map λx=>(x.1,ρ x.2)).toList=parts.toList.map λp=>(p.1,ρ p.2):=by simp
    have e:(λi=>some (i*siz P elem,siz P elem))=(λi=>((λi=>some (i*siz P elem,elem)) i:Option (Nat × TypeId)).map λx=>(x.1,siz P x.2)):=by
     funext i;simp
    by_cases hl0:len=0
    ·subst hl0
     simp only [Nat.zero_mul,if_true,Wc0]
     have e0:∀zero:Array Value,(Array.range 0).map (λx=>zero[x % zero.size]!)=(([]:List Value)).toArray:=by intro z;simp [Array.range]
     simp only [List.replicate_zero,List.flatten_nil] at h1
     rw [Wa6,Wc0,e0,e,ep]
     simp only [Option.map_some] at h1 ⊢
     rw [h1]
     simp only [newRow,newObj,Wa6,hp,Wc0]
     exact h2
    ·rw [if_neg (by intro e;rcases Nat.mul_eq_zero.1 e with e | e <;> omega)]
     simp only [Wa6,Wi5 hz,Wc0,<- WI3 hz]
     have:=Zr6 (Wt8 P elem) len (by omega)
     rw [hl] at this
     rw [this,e,ep,h1]
     simp only [newRow,newObj,Wa6,hp,Wc0]
     exact h2
   ·exact H.elim
  ·exact H.elim
 case h_8 t x hx=>
  refine Wd5 ?_
  unfold execOp;rw [hx]
  refine (WY4 _).mpr ?_
  obtain ⟨a,ha,H⟩:=Wh8 H
  split at H
  ·rename_i hth
   simp only [Instr.loadAt,ha,Instr.sureAddr,Wa6,Wc0]
   exact W03 hth H
  ·exact H.elim
 case h_9 t x y hx=>
  refine Wd5 ?_
  unfold execOp;rw [hx]
  refine (ZP9 _).mpr ?_
  obtain ⟨a,ha,H⟩:=Wh8 H
  have H:=WD5 H
  split at H
  ·rename_i hth
   simp only [Instr.storeAt,ha,Instr.sureAddr,Wa6,Wc0]
   exact Yk2 hth.1 hth.2 H
  ·exact H.elim
 case h_10 x hx=>
  refine Wd5 ?_
  unfold execOp;rw [hx]
  unfold Wb8 at H
  generalize hv:ρ x=v at H ⊢
  split at H <;> first
   | exact H.elim
   | skip
  rename_i n1 n2 n3 n4
  dsimp only
  rw [hv]
  cases v with
  | pointer a=>cases a with
   | none=>exact absurd rfl n1
   | some a=>exact H
  | nilIface=>exact absurd rfl n2
  | nilFunc=>exact absurd rfl n3
  | func f a b=>cases f with
   | method m=>exact absurd rfl (n4 _ _ _)
   | _=>exact H
  | _=>exact H
 case h_11 op xt x y yt hx=>exact Wd5 (YE5 hx hc H)
 case h_12 op xt x hx=>
  refine Wd5 ?_
  split at H
  ·obtain ⟨b,hb,H⟩:=Wf5 H
   unfold execOp;rw [hx]
   refine (WY4 _).mpr ?_
   rw [hb];exact H
  ·obtain ⟨b,hb,H⟩:=We3 H
   unfold execOp;rw [hx]
   refine (WY4 _).mpr ?_
   rw [hb];exact H
  ·exact H
 case h_13 src dst x hx=>
  refine Wd5 ?_
  split at H
  ·rename_i hu1 hu2
   obtain ⟨b,hb,H⟩:=We3 H
   unfold execOp;rw [hx]
   refine (WY4 _).mpr ?_
   simp only [convert,Wa6,Wa8 (Wc6 hu1 (by simp)),Wa8 (Wc6 hu2 (by simp)),hb]
   exact H
  ·rename_i hu1 hu2
   obtain ⟨b,hb,H⟩:=We1 H
   unfold execOp;rw [hx]
   refine (WY4 _).mpr ?_
   simp only [convert,Wa6,Wa8 (Wc6 hu1 (by simp)),Wa8 (Wc6 hu2 (by simp)),hb]
   exact H
  ·unfold execOp;rw [hx]
   exact (WY4 _).mpr H
 case h_14 t x hx=>
  refine Wd5 ?_
  unfold execOp;rw [hx]
  refine (WY4 _).mpr ?_
  split at H
  ·exact H.elim
  ·exact H.elim
  ·rename_i n1 n2
   have hu:=Wc6 (P:=P) (t:=t) rfl n2
   simp only [Instr.makeInterface,Wa6,Wa8 hu]
   exact H
 case h_15 fn first captured hx=>
  refine Wd5 ?_
  unfold execOp;rw [hx]
  refine (WY4 _).mpr ?_
  rw [W39,W39] at H
  exact H
 case h_16 t hx=>
  refine Wd5 ?_
  unfold execOp;rw [hx]
  refine (WY4 _).mpr ?_
  exact H
 case h_17 t l c hx=>
  refine Wd5 ?_
  unfold execOp;rw [hx]
  refine (WY4 _).mpr ?_
  split at H
  ·rename_i elem hu
   obtain ⟨k1,l',hl,H⟩:=Wr8 H
   obtain ⟨k2,c',hc',H⟩:=Wr8 H
   rw [hl,hc']
   split at H
   ·rename_i hh
    exact Ya0 (Wc6 hu (by simp)) hh.1 hh.2.1 hh.2.2.1 hh.2.2.2 H
   ·exact H.elim
  ·exact H.elim
 case h_18 t x lo hi mx hx=>
  refine Wd5 ?_
  unfold execOp;rw [hx]
  refine (WY4 _).mpr ?_
  split at H
  ·exact H.elim
  ·rename_i hm
   refine YE6 ?_ H
   cases mx <;> cases hi <;> simp_all
 case h_19 t x f hx=>
  refine Wd5 ?_
  unfold execOp;rw [hx]
  refine (WY4 _).mpr ?_
  split at H
  ·rename_i fields hu
   split at H
   ·rename_i fd hf
    split at H
    ·rename_i hh
     obtain ⟨a,ha,H⟩:=Wh8 H
     simp only [Instr.fieldAt,Wa6,Wa8 (Wc6 hu (by simp)),hf,ha,Instr.sureAddr,Wc0,fieldPlace,Wd7 hh.1]
     rw [if_neg hh.2];exact H
    ·exact H.elim
   ·exact H.elim
  ·exact H.elim
 case h_20 t x f hx=>
  refine Wd5 ?_
  unfold execOp;rw [hx]
  refine (WY4 _).mpr ?_
  split at H
  ·rename_i fields hu
   split at H
   ·rename_i fd hf
    obtain ⟨cs,ha,H⟩:=Wm2 H
    unfold WL0 at H
    split at H
    ·rename_i v hv
     split at H
     ·rename_i hth
      simp only [Instr.field,Wa6,Wa8 (Wc6 hu (by simp)),hf,ha,Go.asAgg,Wc0]
      rw [Yk3 hth hv];exact H
     ·exact H.elim
    ·exact H.elim
   ·exact H.elim
  ·exact H.elim
 case h_21 t x i hx=>
  refine Wd5 ?_
  unfold execOp;rw [hx]
  refine (WY4 _).mpr ?_
  split at H
  ·rename_i elem hu
   obtain ⟨a,len,cap,ha,H⟩:=Wf6 H
   obtain ⟨k,n,hi,h0,h1,H⟩:=Wr8 H
   obtain ⟨ad,had,H⟩:=Wh8 H
   cases had
   split at H
   ·rename_i hth
    simp only [Instr.indexAt,hi,asIntOf,Wa6,Wc0,Wa8 (Wc6 hu (by simp)),ha]
    rw [if_pos ⟨h0,h1⟩]
    simp only [Wa6,Wd7 hth,Wc0];exact H
   ·exact H.elim
  ·rename_i len elem hu
   obtain ⟨a,ha,H⟩:=Wh8 H
   obtain ⟨k,n,hi,h0,h1,H⟩:=Wr8 H
   split at H
   ·rename_i hth
    simp only [Instr.indexAt,hi,asIntOf,Wa6,Wc0,Wa8 (Wc6 hu (by simp)),ha,Instr.sureAddr]
    rw [if_pos ⟨h0,h1⟩]
    simp only [Wa6,Wd7 hth,Wc0];exact H
   ·exact H.elim
  ·exact H.elim
 case h_22 t x i hx=>
  refine Wd5 ?_
  unfold execOp;rw [hx]
  refine (WY4 _).mpr ?_
  split at H
  ·rename_i hu
   obtain ⟨s,ha,H⟩:=We1 H
   obtain ⟨k,n,hi,h0,h1,H⟩:=Wr8 H
   simp only [Instr.index,hi,asIntOf,Wa6,Wc0,Wa8 (Wc6 hu (by simp)),ha]
   have hs:n.toNat < s.size:=by omega
   unfold W01 at H
   simp only [h0,if_true]
   rw [getElem?_pos s n.toNat hs] at H ⊢
   exact H
  ·rename_i len elem hu
   obtain ⟨cs,ha,H⟩:=Wm2 H
   obtain ⟨k,n,hi,h0,h1,H⟩:=Wr8 H
   unfold WL0 at H
   split at H
   ·rename_i v hv
    split at H
    ·rename_i hth
     simp only [Instr.index,hi,asIntOf,Wa6,Wc0,Wa8 (Wc6 hu (by simp)),ha]
     rw [if_pos ⟨h0,h1⟩]
     simp only [Wa6,Wd7 hth]
     rw [Yk3 hth hv];exact H
    ·exact H.elim
   ·exact H.elim
  ·exact H.elim
 case h_23 t x i ok hx=>
  refine Wd5 ?_
  unfold execOp;rw [hx]
  exact (WY4 _).mpr H
 case h_24 t m k x hx=>
  refine Wd5 ?_
  unfold execOp;rw [hx]
  exact (ZP9 _).mpr H
 case h_25 x i hx=>
  refine Wd5 ?_
  unfold execOp;rw [hx]
  refine (WY4 _).mpr ?_
  obtain ⟨vs,ha,H⟩:=WQ7 H
  unfold Wc2 at H
  split at H
  ·rename_i v hv
   simp only [Instr.extract,ha,hv];exact H
  ·exact H.elim
 case h_26 b args argTypes hx=>exact Wd5 (WY8 hx H)
 case h_27 f args argTypes hx=>
  rw [W39] at H
  split at H
  ·exact YE7 hx H
  ·exact Yk5 hx H
 case h_28=>exact H.elim
 case h_29=>exact Wd5 H
end
end
section
def upd (ρ:Env) (d:Nat) (v:Value):Env:=λj=>cond (Nat.beq j d) v (ρ j)
def WI1 (ρ:Env) (d:Option Nat) (v:Value):Env:=match d with | some d=>upd ρ d v | none=>ρ
def evo (ρ:Env):Operand->Value
 | .tmp j=>ρ j
 | .const v=>v
 | .global g=>.pointer (some ⟨g,0,none⟩)
 | .func f=>.func (.func f) #[] #[]
def YT0 (v:Value) (N:Prop) (F:Bool->Prop):Prop:=match v with | .bool b=>F b | _=>N
def WI4 (ops:Array Oper) (ρ:Env) (g:Option (Nat × Bool)) (yes no:Env->Prop):Prop:=
 match g with
 | none=>yes ρ
 | some (j,want)=>match (ops[j]?).bind (·.dst) with
  | none=>no ρ
  | some d=>YT0 (ρ d) (no ρ) λb=>ifB b (cond want (yes (upd ρ d (.bool true))) (no (upd ρ d (.bool true)))) (cond want (no (upd ρ d (.bool false))) (yes (upd ρ d (.bool false))))
def tyO (P:Program) (o:Oper) (v:Value) (K:Value->Prop):Prop:=
 match o.op with
 | .alloc _ | .store ..=>K v
 | _=>WQ6 P o.type v K
def WY9 (P:Program) (ops:Array Oper):List Oper->Env->Wa2->(Env->Wa2->Prop)->Prop
 | [],ρ,h,K=>K ρ h
 | o :: rest,ρ,h,K=>WI4 ops ρ o.guard
  (λρ=>vop P (evo ρ) o h λv h'=>tyO P o v λv=>WY9 P ops rest (WI1 ρ o.dst v) h' K)
  (λρ=>WY9 P ops rest (WI1 ρ o.dst Ws2) h K)
def Wo0 (P:Program) (o:Oper):Bool:=
 match o.op with
 | .move _ | .assign _ | .pick .. | .load .. | .nilCheck _ | .makeFunc .. | .fieldAddr .. | .field .. | .indexAddr .. | .index .. | .extract .. | .slice ..=>true
 | .binOp op xt _ y _=>(match und P xt with
  | .int _ | .bool=>true
  | .string=>(match op with | .eql | .neq | .add=>true | _=>false)
  | .pointer _=>(match op with | .eql | .neq=>ZK0 y | _=>false)
  | .slice _=>(match op with | .eql | .neq=>ZK1 y | _=>false)
  | .func _ _ _=>(match op with | .eql | .neq=>ZK2 y | _=>false)
  | .struct _ | .array _ _=>true
  | _=>false)
 | .unOp op xt _=>(match op,und P xt with | .not,.bool=>true | .neg,.int _=>true | _,_=>false)
 | .convert s d _=>(match und P s,und P d with | .int _,.int _=>true | .string,.string=>true | _,_=>false)
 | .build ..=>true
 | .call { callee:=.builtin .len,argTypes,args }=>(match argTypes[0]?,args.toList with
  | some t,[_]=>(match und P t with | .slice _ | .string | .array _ _=>true | _=>false)
  | _,_=>false)
 | _=>false
def Wh9 (ops:Array Oper):Nat->Nat->Nat->Bool
 | 0,_,_=>false
 | n+1,e,i=>match ops[e]? with
  | none=>false
  | some o=>o.after.any λed=>Region.binds .any ed && (ed.on == i || Wh9 ops n ed.on i)
def WL3 (o:Oper):List Nat:=o.after.toList.filterMap λed=>match Region.binds .any ed with | true=>some ed.on | false=>none
def WN5 (ops:Array Oper) (i:Nat):Nat->List Nat->Nat->Bool
 | 0,_,_=>false
 | _+1,[],_=>false
 | n+1,e :: st,vis=>match Nat.testBit vis e with
  | true=>WN5 ops i n st vis
  | false=>match ops[e]? with
   | none=>WN5 ops i n st vis
   | some o=>match (WL3 o).any (Nat.beq i) with
    | true=>true
    | false=>WN5 ops i n (WL3 o ++ st) (Nat.lor vis (Nat.shiftLeft 1 e))
def ZD0 (ops:Array Oper) (e i:Nat):Bool:=WN5 ops i ((ops.size+2)*(ops.size+2)) [e] 0
abbrev ZD1:=List (Nat × List (Addr × Value))
def YT1 (h:Wa2):List (Addr × Value)->Prop->Prop
 | [],X=>X
 | (a,u) :: L,X=>Wa1 h a=some u/\YT1 h L X
def W05 (ops:Array Oper) (e:Nat) (h:Wa2):ZD1->Prop->Prop
 | [],X=>X
 | (i,L) :: r,X=>match ZD0 ops e i with | true=>W05 ops e h r X | false=>YT1 h L (W05 ops e h r X)
def ZM1 (h:Wa2) (a:Addr) (i:Nat):Nat->List Value->List (Addr × Value)->(List Value->List (Addr × Value)->Prop)->Prop
 | 0,acc,L,K=>K acc.reverse L.reverse
 | n+1,acc,L,K=>ldH h (a.add i) λv=>ZM1 h a (i+1) n (v :: acc) ((a.add i,v) :: L) K
def ZM2 (P:Program) (ρ:Operand->Value) (o:Oper) (h:Wa2) (F:Value->List (Addr × Value)->Prop):Prop:=
 match o.op with
 | .load t x=>Wd2 (ρ x) λa=>if Wf4 P t then
  (if Zd9 P t then ZM1 h a 0 (siz P t) [] [] (λcs L=>F (.agg cs.toArray) L) else ldH h a λv=>F v [(a,v)]) else False
 | _=>vop P ρ o h λv _=>F v []
def Yy0 (P:Program) (ops:Array Oper) (listed:Array Bool):Option Nat:=
 (Region.ready .any ops listed).find? λi=>(match ops[i]? with | some o=>Wo0 P o | none=>false) && Region.free .any ops listed i
def ZM3 (l:List Nat) (F:Nat->Prop):Prop:=
 match l with
 | []=>True
 | [i]=>F i
 | i :: j :: l=>F i/\ZM3 (j :: l) F
def W40 (P:Program) (ops:Array Oper):Nat->Array Bool->ZD1->Env->Wa2->(Env->Wa2->Prop)->Prop
 | 0,listed,_,ρ,h,K=>match Region.ready .any ops listed with | []=>K ρ h | _=>False
 | n+1,listed,held,ρ,h,K=>
  match Yy0 P ops listed with
  | some i=>(match ops[i]? with
   | none=>False
   | some o=>WI4 ops ρ o.guard
    (λρ=>ZM2 P (evo ρ) o h λv L=>tyO P o v λv=>W40 P ops n (listed.setIfInBounds i true) (match L with | []=>held | _=>(i,L) :: held) (WI1 ρ o.dst v) h K)
    (λρ=>W40 P ops n (listed.setIfInBounds i true) held (WI1 ρ o.dst Ws2) h K))
  | none=>(match Region.ready .any ops listed with
   | []=>K ρ h
   | rs=>ZM3 rs λe=>(match ops[e]? with
    | none=>False
    | some o=>WI4 ops ρ o.guard
     (λρ=>vop P (evo ρ) o h λv h'=>tyO P o v λv=>W05 ops e h' held (W40 P ops n (listed.setIfInBounds e true) held (WI1 ρ o.dst v) h' K))
     (λρ=>W05 ops e h held (W40 P ops n (listed.setIfInBounds e true) held (WI1 ρ o.dst Ws2) h K))))
def WN6 (ops:Array Oper):List Nat:=ops.toList.filterMap (·.dst)
def ZM4 (o:Oper):Bool:=match o.op,o.dst with
 | .assign _,_=>true
 | .move (.tmp e),some d=>Nat.blt d e
 | _,_=>false
def Zu6 (ops:Array Oper):List Nat:=ops.toList.filterMap λo=>match ZM4 o with | true=>o.dst | false=>none
def Yk6 (ops:Array Oper):List Nat:=ops.toList.filterMap λo=>match o.op with | .pick ..=>o.dst | _=>none
def ZD2 (n:Nat):List Nat->List Nat
 | []=>[n]
 | m :: l=>if n < m then n :: m :: l else if n=m then m :: l else m :: ZD2 n l
def Wn2 (a b:List Nat):List Nat:=a.foldr ZD2 b
def WK9:Code->List Nat
 | .region _ ops _=>Wn2 (WN6 ops) []
 | .seq a b=>Wn2 (WK9 a) (WK9 b)
 | .cond c a b=>Wn2 (match c with | .tmp d=>[d] | _=>[]) (Wn2 (WK9 a) (WK9 b))
 | .block _ b | .loop b | .scope b=>WK9 b
 | .rangeFunc ..=>[]
 | _=>[]
def WP3:Code->List Nat
 | .region _ ops _=>Wn2 (Zu6 ops) []
 | .seq a b | .cond _ a b=>Wn2 (WP3 a) (WP3 b)
 | .block _ b | .loop b | .scope b=>WP3 b
 | _=>[]
def Wc3:Code->List Nat
 | .region _ ops _=>Wn2 (Yk6 ops) []
 | _=>[]
def Zu7 (ops:Array Oper):Bool:=ops.any λo=>o.guard.isSome
def ZD3 (id:Nat):Code->Nat
 | .seq a b | .cond _ a b=>ZD3 id a+ZD3 id b
 | .block _ b | .loop b | .scope b=>ZD3 id b
 | .rangeFunc _ _ _ b=>ZD3 id b
 | .exit j=>if j=id then 1 else 0
 | _=>0
def Zu8:Code->Nat
 | .region _ ops _=>if Zu7 ops then 2 else 1
 | .seq a b=>if Zu8 a=0 then 0 else Zu8 b
 | .cond _ a b=>Zu8 a+Zu8 b
 | .block id b=>Zu8 b+ZD3 id b
 | .loop _ | .exit _ | .ret | .goto _ | .refuse _=>0
 | .scope b=>Zu8 b
 | _=>1
def ZM5:Code->Bool
 | .skip | .exit _ | .ret=>true
 | .seq a b=>ZM5 a && ZM5 b
 | .region _ ops _=>ops.size<=2
 | _=>false
def Zu9 (K:Env->Wa2->Prop) (Q:Exit->Env->Wa2->Prop):Exit->Env->Wa2->Prop
 | .normal,ρ,h=>K ρ h
 | e,ρ,h=>Q e ρ h
def Zr7 (id:Nat) (Q:Exit->Env->Wa2->Prop):Exit->Env->Wa2->Prop
 | .exit j,ρ,h=>if j=id then Q .normal ρ h else Q (.exit j) ρ h
 | e,ρ,h=>Q e ρ h
def ZK4:Nat->(List Value->Prop)->Prop
 | 0,F=>F []
 | n+1,F=>∀v,ZK4 n λvs=>F (v :: vs)
def Ze5 (vars:List Nat) (vs:List Value) (j:Nat) (d:Value):Value:=
 match vars,vs with
 | x :: xs,v :: vs=>cond (Nat.beq j x) v (Ze5 xs vs j d)
 | _,_=>d
def ZK5 (j:Nat):List Nat->Bool
 | []=>false
 | x :: xs=>cond (Nat.beq j x) true (ZK5 j xs)
def Yy1 (ρ:Env) (ws vars:List Nat) (vs:List Value) (g:Env):Env:=λj=>Ze5 vars vs j (cond (ZK5 j ws) (g j) (ρ j))
def exI (F:(List Value->Wa2->Prop)->Prop):Prop:=∃I,F I
def exM (F:(List Value->Wa2->Nat)->Prop):Prop:=∃μ,F μ
def ZM6 (n:Nat) (A:(List Value->Wa2->Prop)->Prop) (B:List Value->Env->Wa2->Prop):Prop:=
 exI λJ=>A J/\ZK4 n λvs=>∀(g:Env) (h:Wa2),J vs h->B vs g h
def ZM7 (n:Nat) (vs0:List Value) (h0:Wa2) (B:(List Value->Wa2->Prop)->(List Value->Wa2->Nat)->List Value->Env->Wa2->Prop):Prop:=
 exI λI=>exM λμ=>I vs0 h0/\ZK4 n λvs=>∀(g:Env) (h:Wa2),I vs h->B I μ vs g h
def Yk7 (ρ:Env) (c:Operand) (b:Bool):Env:=match c with | .tmp d=>upd ρ d (.bool b) | _=>ρ
def Zd3 (N M:Nat) (h1 h2:Wa2):Prop:=h1.size<=h2.size/\∀b,b < h1.size->(b < N\/M<=b)->h2[b]? = h1[b]?
def KeepMid (N M:Nat) (h1 h2:Wa2):Prop:=h1.size<=h2.size/\∀b,N<=b->b < M->h2[b]? = h1[b]?
def SameD (N:Nat) (h h':Wa2):Prop:=h'.size=h.size/\∀b:Nat,(b < N\/∀x,h[b]?≠some (.deferred x))->h'[b]? = h[b]?
theorem SameD.mono {N M:Nat} {h h':Wa2} (H:SameD N h h') (hM:M<=N):SameD M h h':=⟨H.1,λb hb=>H.2 b (hb.imp (λx=>Nat.lt_of_lt_of_le x hM) id)⟩
structure RangeOk {ε:Type} (N:Nat) (h:Wa2) (Ev:Wa2->Prop) (I:Nat->Nat->Wa2->Prop) (X:Nat->ε->Wa2->Prop):Prop where
 env:∀M k h',N<=M->M<=h'.size->I M k h'->Ev h'
 keepI:∀M k h1 h2,N<=M->M<=h1.size->I M k h1->Zd3 N M h1 h2->I M k h2
 keepX:∀M e h1 h2,N<=M->M<=h1.size->X M e h1->Zd3 N M h1 h2->X M e h2
 dI:∀M k h1 h2,SameD N h1 h2->I M k h1->I M k h2
 dX:∀M e h1 h2,SameD N h1 h2->X M e h1->X M e h2
 start:∀h1,h.size<=h1.size->(∀b,b < N->h1[b]? = h[b]?)->I h1.size 0 h1
def Zr8 (P:Program) (g:Value) (n:Nat) (xs:Nat->Array Value) (Ev:Wa2->Prop):Prop:=
 ∀(yf:Fn) (y1 y2:Array Value) (h:Wa2) (N:Nat) (I:Nat->Nat->Wa2->Prop) (X:Nat->Unit->Wa2->Prop),N<=h.size->Ev h->RangeOk N h Ev I X ->
  (∀M k h',k < n->N<=M->h.size<=M->M<=h'.size->I M k h'->Wv0 P (.func yf y1 y2) (xs k) h' λv h''=>KeepMid N M h' h''/\((v=.bool true/\I M (k+1) h'')\/(v=.bool false/\X M () h''))) ->
  Wv0 P g #[.func yf y1 y2] h λ_ h'=>∃M,N<=M/\h.size<=M/\M<=h'.size/\(I M n h'\/X M () h')
def WI5 (h:Wa2):List Obj->Wa2
 | []=>h
 | o :: os=>WI5 (h.push o) os
def ZM8:List Value->Prop->Prop
 | [],X=>X
 | v :: vs,X=>Wi4 v (ZM8 vs X)
def Yy2 (P:Program):List Oper->Env->Nat->(Env->List Obj->Prop)->Prop
 | [],ρ,_,F=>F ρ []
 | { op:=.assign x,dst:=d,type:=ty,guard:=none,.. } :: rest,ρ,n,F=>WQ6 P ty (evo ρ x) λv=>Yy2 P rest (WI1 ρ d v) n F
 | { op:=.alloc t,dst:=some d,guard:=none,.. } :: { op:=.store t' (.tmp d') y,dst:=none,guard:=none,.. } :: rest,ρ,n,F=>
  if t=t'/\d=d'/\Wf4 P t/\(zer P t).isSome/\(Wt8 P t).length=siz P t then
   WA6 P t (evo (upd ρ d (.pointer (some (aQ n)))) y) λcs=>if cs.length=siz P t then
    ZM8 cs (Yy2 P rest (upd ρ d (.pointer (some (aQ n)))) (n+1) λρ' os=>F ρ' (.cells cs.toArray t :: os)) else False
  else False
 | _,_,_,_=>False
def Ya3:Code->Option (List Oper)
 | .skip=>some []
 | .region _ ops false=>some ops.toList
 | _=>none
def YE8 (ρ:Env) (vs:Array Value):List Nat->Nat->Env
 | [],_=>ρ
 | p :: ps,i=>YE8 (upd ρ p (vs.getD i Ws2)) vs ps (i+1)
def fnV (v:Value):Prop:=match v with | .func (.func _) _ _=>True | _=>False
def YT2 (P:Program) (g:Value) (np:Nat) (h:Wa2) (B:(Exit->Wa2->Prop)->Array Value->Wa2->Prop) (D:Wa2->Prop) (E:Exit->Wa2->Prop):Prop:=
 ∃(n:Nat) (xs:Nat->Array Value) (Ev:Wa2->Prop) (I:Nat->Nat->Wa2->Prop) (X:Nat->Exit->Wa2->Prop),
  fnV g/\Zr8 P g n xs Ev/\(∀k,k < n->(xs k).size=np)/\Ev h/\RangeOk h.size h Ev I X /\
  (∀M k h',k < n->h.size+2<=M->M<=h'.size->I M k h'->B (λe h''=>KeepMid h.size M h' h''/\(match e with | .normal=>I M (k+1) h'' | e=>X M e h'')) (xs k) h') /\
  (∀M h',h.size+2<=M->M<=h'.size->I M n h'->D h') /\
  (∀M e h',h.size+2<=M->M<=h'.size->X M e h'->E e h')
def eqE:Exit->Exit->Bool
 | .ret,.ret=>true
 | .exit i,.exit j=>Nat.beq i j
 | _,_=>false
def inE (e:Exit):List (Exit × (Wa2->Prop))->Prop
 | []=>False
 | p :: ps=>match eqE e p.1 with | true=>True | false=>inE e ps
def ZD4 (X:Exit->(Wa2->Prop)->Prop):List (Exit × (Wa2->Prop))->Prop
 | []=>True
 | p :: ps=>X p.1 p.2/\ZD4 X ps
def WQ9 (P:Program) (g:Value) (np:Nat) (h:Wa2) (B:(Exit->Wa2->Prop)->Array Value->Wa2->Prop) (D:Wa2->Prop) (Es:List (Exit × (Wa2->Prop))):Prop:=
 ∃(n:Nat) (xs:Nat->Array Value) (Ev:Wa2->Prop) (I:Nat->Nat->Wa2->Prop) (X:Nat->Exit->Wa2->Prop),
  fnV g/\Zr8 P g n xs Ev/\(∀k,k < n->(xs k).size=np)/\Ev h/\RangeOk h.size h Ev I X /\
  (∀M k h',k < n->h.size+2<=M->M<=h'.size->I M k h'->B (λe h''=>KeepMid h.size M h' h''/\(match e with | .normal=>I M (k+1) h'' | e=>inE e Es/\X M e h'')) (xs k) h') /\
  (∀M h',h.size+2<=M->M<=h'.size->I M n h'->D h') /\
  ZD4 (λe F=>∀M h',h.size+2<=M->M<=h'.size->X M e h'->F h') Es
theorem ZD5 {a b:Exit} (h:eqE a b=true):a=b:=by
 cases a <;> cases b <;> simp [eqE] at h <;> first | rfl | (subst h;rfl) | exact h.elim
theorem YE9 {P:Program} {g:Value} {np:Nat} {h:Wa2} {B:(Exit->Wa2->Prop)->Array Value->Wa2->Prop} {D:Wa2->Prop} {E:Exit->Wa2->Prop} {es:List Exit}
  (H:WQ9 P g np h B D (es.map λe=>(e,E e))):YT2 P g np h B D E:=by
 obtain ⟨n,xs,Ev,I,X,h1,h2,h3,h4,h5,h6,h7,h8⟩:=H
 refine ⟨n,xs,Ev,I,λM e h'=>inE e (es.map λe=>(e,E e))/\X M e h',h1,h2,h3,h4,?_,h6,h7,?_⟩
 ·exact { env:=h5.env,keepI:=h5.keepI,keepX:=λM e a b c d e f=>⟨e.1,h5.keepX M _ a b c d e.2 f⟩,dI:=h5.dI,dX:=λM e a b c d=>⟨d.1,h5.dX M _ a b c d.2⟩,start:=h5.start }
 ·rintro M e h' hM hM' ⟨hi,hx⟩
  clear h6
  induction es with
  | nil=>exact hi.elim
  | cons e0 es ih=>
   simp only [List.map,inE,ZD4] at hi h8
   cases hq:eqE e e0 with
   | true=>have:=ZD5 hq;subst this;exact h8.1 M h' hM hM' hx
   | false=>rw [hq] at hi;exact ih h8.2 hi
def Zr9 (e:Exit):List Exit->Bool
 | []=>false
 | x :: xs=>eqE e x || Zr9 e xs
def ZM9 (a b:List Exit):List Exit:=a.foldr (λe l=>if Zr9 e l then l else e :: l) b
def WL4:Code->List Exit
 | .seq a b | .cond _ a b=>ZM9 (WL4 a) (WL4 b)
 | .block id b=>(WL4 b).filter λe=>!(eqE e (.exit id))
 | .loop b | .scope b=>WL4 b
 | .rangeFunc _ _ _ b=>WL4 b
 | .exit id=>[.exit id]
 | .ret=>[.ret]
 | _=>[]
def vc (P:Program):Code->(Exit->Env->Wa2->Prop)->Env->Wa2->Prop
 | .skip,Q,ρ,h=>Q .normal ρ h
 | .region _ ops false,Q,ρ,h=>WY9 P ops ops.toList ρ h (Q .normal)
 | .region _ ops true,Q,ρ,h=>W40 P ops ops.size (Array.replicate ops.size false) [] ρ h (Q .normal)
 | .seq a b,Q,ρ,h=>
  if Zu8 a<=1 || ZM5 b then vc P a (Zu9 (vc P b Q) Q) ρ h else
  ZM6 (Wn2 (WP3 a) (Wc3 a)).length
   (λJ=>vc P a (Zu9 (λρ' h'=>J ((Wn2 (WP3 a) (Wc3 a)).map ρ') h') Q) ρ h)
   (λvs g h'=>vc P b Q (Yy1 ρ (WK9 a) (Wn2 (WP3 a) (Wc3 a)) vs g) h')
 | .cond c x y,Q,ρ,h=>asBool (evo ρ c) λb=>ifB b (vc P x Q (Yk7 ρ c true) h) (vc P y Q (Yk7 ρ c false) h)
 | .block id b,Q,ρ,h=>vc P b (Zr7 id Q) ρ h
 | .loop b,Q,ρ,h=>ZM7 (WP3 b).length ((WP3 b).map ρ) h λI μ vs g h'=>
   vc P b (Zu9 (λρ' h''=>I ((WP3 b).map ρ') h''/\μ ((WP3 b).map ρ') h'' < μ vs h') Q) (Yy1 ρ (WK9 b) (WP3 b) vs g) h'
 | .rangeFunc g ps assign body,Q,ρ,h=>
  WQ9 P (evo ρ g) ps.size h
   (λK vs h'=>match Ya3 assign with
    | some ops=>Yy2 P ops (YE8 ρ vs ps.toList 0) h'.size λρ1 os=>vc P body (λe _ h''=>K e h'') ρ1 (WI5 h' os)
    | none=>False)
   (λh'=>Q .normal ρ h') ((WL4 body).map λe=>(e,λh'=>Q e ρ h'))
 | .exit id,Q,ρ,h=>Q (.exit id) ρ h
 | .ret,Q,ρ,h=>Q .ret ρ h
 | .label _,Q,ρ,h=>Q .normal ρ h
 | .scope b,Q,ρ,h=>vc P b Q ρ h
 | .goto _,_,_,_=>False
 | .refuse _,_,_,_=>False
end
section
def FW (r:Option Nat):Fence:={ fn:=λ_=>True,depth:=none,alive:=false,round:=r }
theorem YF0 {r:Option Nat} {P:Program} {f:FuncId} {args:Array Value} {w:World} {R:Ending->World->Prop} (h:CallsIn Fence.wide 0 P f args w R):CallsIn (FW r) 0 P f args w R:=h
theorem YF1 {r:Option Nat} {P:Program} {l:Nat} {f:FuncId} {t:Array Value} {x y:Code} {w:World} {R:Ending->World->Prop} (h:RoundIn Fence.wide 0 P l f t x y w R):RoundIn (FW r) 0 P l f t x y w R:=h
structure Rl (n:Nat) (t:Array Value) (ρ:Env):Prop where
 size:t.size=n
 get:∀j,t.getD j undef=ρ j
theorem Wy1 (ρ:Env) (d:Nat) (v:Value):upd ρ d v d=v:=by simp [upd]
theorem WF6 (ρ:Env) {d j:Nat} (v:Value) (h:j≠d):upd ρ d v j=ρ j:=by
 have:Nat.beq j d=false:=Bool.eq_false_iff.2 λe=>h (Nat.eq_of_beq_eq_true e)
 simp [upd,this]
theorem Yy3 {ρ:Env} {d:Nat} {v:Value} (h:ρ d=v):upd ρ d v=ρ:=by
 funext j;by_cases e:j=d
 ·subst e;rw [Wy1,h]
 ·rw [WF6 _ _ e]
section
variable {n:Nat} {t:Array Value} {ρ:Env} {a:Act}
theorem Rl.eval (h:Rl n a.tmps ρ):a.eval=evo ρ:=by
 funext x;cases x with
 | tmp j=>exact h.get j
 | _=>rfl
theorem Rl.put (h:Rl n a.tmps ρ) {d:Option Nat} (v:Value) (hd:∀j,d=some j->j < n):Rl n (a.put d v).tmps (WI1 ρ d v):=by
 cases d with
 | none=>exact h
 | some d=>
  refine ⟨by simp [Act.put,h.size],λj=>?_⟩
  have hlt:d < a.tmps.size:=by rw [h.size];exact hd d rfl
  simp only [Act.put,WI1]
  by_cases e:j=d
  ·subst e;rw [Wy1];simp [Array.getD_eq_getD_getElem?,hlt]
  ·rw [WF6 _ _ e,<- h.get j]
   simp [Array.getD_eq_getD_getElem?,Array.getElem?_setIfInBounds_ne (Ne.symm e)]
theorem WD6 (d:Option Nat) (v:Value):(a.put d v).defers=a.defers:=by cases d <;> rfl
def WA1 (ops:Array Oper) (ρ:Env) (j:Nat):Option Bool:=
 match (ops[j]?).bind (·.dst) with
 | none=>none
 | some d=>match ρ d with | .bool b=>some b | _=>none
def WL5 (ops:Array Oper) (ρ:Env) (g:Option (Nat × Bool)):Bool:=
 match g with
 | none=>true
 | some (j,want)=>WA1 ops ρ j == some want
theorem YF2 {ops:Array Oper} (h:Rl n a.tmps ρ) (j:Nat):yielded ops a.tmps j=WA1 ops ρ j:=by
 unfold yielded WA1
 cases hd:(ops[j]?).bind (·.dst) with
 | none=>rfl
 | some d=>
  simp only [Option.bind_some]
  have:=h.get d
  cases hv:a.tmps[d]? with
  | none=>simp [Array.getD_eq_getD_getElem?,hv] at this;simp [<- this,undef]
  | some v=>simp [Array.getD_eq_getD_getElem?,hv] at this;subst this;cases ρ d <;> rfl
theorem Ya4 {ops:Array Oper} {o:Oper} (h:Rl n a.tmps ρ):Region.wanted o (yielded ops a.tmps)=WL5 ops ρ o.guard:=by
 unfold Region.wanted WL5
 cases o.guard with
 | none=>rfl
 | some g=>obtain ⟨j,want⟩:=g;simp only [YF2 h]
theorem WL6 {ops:Array Oper} {g:Option (Nat × Bool)} {yes no:Env->Prop} (H:WI4 ops ρ g yes no):if WL5 ops ρ g then yes ρ else no ρ:=by
 unfold WI4 at H
 cases g with
 | none=>exact H
 | some g=>
  obtain ⟨j,want⟩:=g
  simp only at H
  cases hd:(ops[j]?).bind (·.dst) with
  | none=>
   rw [hd] at H
   have hy:WA1 ops ρ j=none:=by unfold WA1;rw [hd]
   simp only [WL5,hy];exact H
  | some d=>
   rw [hd] at H;simp only at H
   unfold YT0 at H
   cases hv:ρ d with
   | bool b=>
    have hy:WA1 ops ρ j=some b:=by unfold WA1;rw [hd];simp only [hv]
    rw [hv] at H;simp only at H
    simp only [WL5,hy]
    cases b <;> cases want <;> simp [ifB] at H ⊢ <;> rw [Yy3 hv] at H <;> exact H
   | _=>
    have hy:WA1 ops ρ j=none:=by unfold WA1;rw [hd];simp only [hv]
    rw [hv] at H;simp only [WL5,hy];exact H
end
section
variable {P:Program} {n:Nat} {ρ:Env} {a:Act} {w:World} {h:Wa2} {K:kQ} {Q:Exit->Act->World->Prop} {r:Option Nat}
def Wp7 (o:Oper):Bool:=match o.op with | .defer _=>false | .select ..=>false | _=>true
def YF3 (n:Nat) (o:Oper):Bool:=Wp7 o && (match o.dst with | some d=>decide (d < n) | none=>true)
theorem WP4 {o:Oper} (ho:YF3 n o=true):∀d,o.dst=some d->d < n:=by
 intro d hd;unfold YF3 at ho;rw [hd] at ho;simp at ho;exact ho.2
theorem YF4 {o:Oper} (ho:YF3 n o=true):∀c,o.op≠.defer c:=by
 intro c hc;unfold YF3 Wp7 at ho;rw [hc] at ho;simp at ho
theorem YT3 {o:Oper} (H:OpS P (evo ρ) o h K) (hR:Rl n a.tmps ρ) (hw:w.heap=h) (ho:YF3 n o=true) {next:Act->World->Prop}
  (hnext:∀v w',K v w'.heap->Kw w w'->next (a.put o.dst v) w'):o.wpIn (FW r) 0 P a w next Q:=by
 refine ⟨λ_ _=>trivial,?_⟩
 rw [Oper.semAt_eq _ _ _ (YF4 ho),hR.eval]
 obtain ⟨nx,w',hrun,hn⟩:=H w hw
 rw [hrun]
 have hcall:∀ {e:Ending} {w'':World},onH w K e w''->(match e,w'' with
   | .returned v,w''=>next (a.put o.dst v) w''
   | .panicked chain,w''=>Q (.panic chain) a w''
   | .outgrown,_=>LetsOut Q):=by
  intro e w'' x
  cases e <;> first | exact hnext _ _ x.1 x.2 | exact x.elim
 cases nx <;> simp only [Oper.uponIn]
 case value v=>exact hnext _ _ hn.1 hn.2
 case skip=>exact hnext _ _ hn.1 hn.2
 case enter f args=>exact ⟨by simp [FW],(YF0 hn).mono λe w'' x=>hcall x⟩
 case round l f tmps assign body=>exact ⟨by simp [FW],(YF1 hn).mono λe w'' x=>hcall x⟩
 all_goals exact hn.elim
def SmT (ws:List Nat) (t t':Array Value):Prop:=∀j,j ∉ ws->t'.getD j undef=t.getD j undef
theorem SmT.refl (ws:List Nat) (t:Array Value):SmT ws t t:=λ_ _=>rfl
theorem SmT.trans {ws:List Nat} {a b c:Array Value} (h1:SmT ws a b) (h2:SmT ws b c):SmT ws a c:=λj hj=>(h2 j hj).trans (h1 j hj)
theorem SmT.mono {ws ws':List Nat} {a b:Array Value} (h:SmT ws a b) (hs:∀j ∈ ws,j ∈ ws'):SmT ws' a b:=λj hj=>h j (λx=>hj (hs j x))
theorem SmT.put {ws:List Nat} (a:Act) (d:Option Nat) (v:Value) (hd:∀j,d=some j->j ∈ ws):SmT ws a.tmps (a.put d v).tmps:=by
 intro j hj
 cases d with
 | none=>rfl
 | some d=>
  have:d≠j:=λe=>hj (by subst e;exact hd _ rfl)
  simp [Act.put,Array.getD_eq_getD_getElem?,Array.getElem?_setIfInBounds_ne this]
def pstep (P:Program) (ops:Array Oper) (i:Nat) (ρ:Env) (h:Wa2) (K:Env->Wa2->Prop):Prop:=
 match ops[i]? with
 | none=>K ρ h
 | some o=>if WL5 ops ρ o.guard then vop P (evo ρ) o h (λv h'=>K (WI1 ρ o.dst v) h') else K (WI1 ρ o.dst Ws2) h
theorem Ya5 {ops:Array Oper} {i:Nat} {K:Env->Wa2->Prop} (H:pstep P ops i ρ h K) (hR:Rl n a.tmps ρ) (hw:w.heap=h) (ho:∀o,ops[i]? = some o->YF3 n o=true)
  {ws:List Nat} (hws:∀o,ops[i]? = some o->∀d,o.dst=some d->d ∈ ws)
  {next:Act->World->Prop} (hnext:∀ρ' a' w',K ρ' w'.heap->Rl n a'.tmps ρ'->SmT ws a.tmps a'.tmps->a'.defers=a.defers->Kw w w'->next a' w'):wpOpIn (FW r) 0 P ops Q i next a w:=by
 unfold pstep at H
 unfold wpOpIn
 cases hi:ops[i]? with
 | none=>rw [hi] at H;subst hw;exact hnext ρ a w H hR (SmT.refl _ _) rfl (Kw.refl _)
 | some o=>
  rw [hi] at H
  simp only at H ⊢
  rw [Ya4 hR]
  split
  ·rename_i hwt
   rw [if_pos hwt] at H
   exact YT3 (Ya2 o (λ_=>rfl) H) hR hw (ho o hi) λv w' hk hkd=>hnext _ _ w' hk (hR.put v (WP4 (ho o hi))) (SmT.put _ _ _ (hws o hi)) (WD6 _ _) hkd
  ·rename_i hwt
   rw [if_neg hwt] at H
   subst hw
   exact ⟨λ_ _=>trivial,hnext _ _ w H (hR.put _ (WP4 (ho o hi))) (SmT.put _ _ _ (hws o hi)) (WD6 _ _) (Kw.refl _)⟩
theorem Yy4 {n:Nat} {v:Value} {F:Value->Prop} (H:Zu3 n v F):F v:=by
 unfold Zu3 at H
 split at H
 ·obtain ⟨cs,e,H⟩:=Wm2 H
  rw [e]
  unfold We2 at H
  split at H
  ·rename_i hn
   have:=W02 _ _ _ H
   have hn:=Nat.eq_of_beq_eq_true hn
   simp only [List.reverse_nil,List.nil_append,List.drop_zero] at this
   rw [List.take_of_length_le (by simp [hn])] at this
   exact this
  ·exact H.elim
 ·exact H
theorem YF5 {P:Program} {t:TypeId} {v:Value} {F:Value->Prop} (H:WQ6 P t v F):F v:=by
 unfold WQ6 at H
 split at H
 ·obtain ⟨_,e,H⟩:=Wf5 H;rw [e];exact H
 ·obtain ⟨_,e,H⟩:=We3 H;rw [e];exact H
 ·obtain ⟨_,e,H⟩:=We1 H;rw [e];exact H
 ·obtain ⟨_,_,_,e,H⟩:=Wf6 H;rw [e];exact H
 ·obtain ⟨_,e,H⟩:=Wj6 H;rw [e];exact H
 ·obtain ⟨_,e,H⟩:=WA7 H;rw [e];exact H
 ·exact Yy4 H
 ·exact Yy4 H
 ·exact H
theorem Yk8 {P:Program} {o:Oper} {v:Value} {F:Value->Prop} (H:tyO P o v F):F v:=by
 unfold tyO at H
 split at H
 ·exact H
 ·exact H
 ·exact YF5 H
def YT4 (P:Program) (ops:Array Oper) (i:Nat) (ρ:Env) (h:Wa2) (K:Env->Wa2->Prop):Prop:=
 match ops[i]? with
 | none=>K ρ h
 | some o=>if WL5 ops ρ o.guard then vop P (evo ρ) o h (λv h'=>tyO P o v λv=>K (WI1 ρ o.dst v) h') else K (WI1 ρ o.dst Ws2) h
theorem W41 {ops:Array Oper} {i:Nat} {K:Env->Wa2->Prop} (H:YT4 P ops i ρ h K) (hR:Rl n a.tmps ρ) (hw:w.heap=h) (ho:∀o,ops[i]? = some o->YF3 n o=true)
  {ws:List Nat} (hws:∀o,ops[i]? = some o->∀d,o.dst=some d->d ∈ ws)
  {next:Act->World->Prop} (hnext:∀ρ' a' w',K ρ' w'.heap->Rl n a'.tmps ρ'->SmT ws a.tmps a'.tmps->a'.defers=a.defers->Kw w w'->next a' w'):wpOpIn (FW r) 0 P ops Q i next a w:=by
 unfold YT4 at H
 unfold wpOpIn
 cases hi:ops[i]? with
 | none=>rw [hi] at H;subst hw;exact hnext ρ a w H hR (SmT.refl _ _) rfl (Kw.refl _)
 | some o=>
  rw [hi] at H
  simp only at H ⊢
  rw [Ya4 hR]
  split
  ·rename_i hwt
   rw [if_pos hwt] at H
   exact YT3 (Ya2 o (λ_=>rfl) H) hR hw (ho o hi) λv w' hk hkd=>hnext _ _ w' (Yk8 hk) (hR.put v (WP4 (ho o hi))) (SmT.put _ _ _ (hws o hi)) (WD6 _ _) hkd
  ·rename_i hwt
   rw [if_neg hwt] at H
   subst hw
   exact ⟨λ_ _=>trivial,hnext _ _ w H (hR.put _ (WP4 (ho o hi))) (SmT.put _ _ _ (hws o hi)) (WD6 _ _) (Kw.refl _)⟩
def Ya6 (n:Nat) (ops:Array Oper):Bool:=ops.toList.all (YF3 n)
theorem W42 {ops:Array Oper} (ho:Ya6 n ops=true) (i:Nat) (o:Oper) (hi:ops[i]? = some o):YF3 n o=true:=by
 unfold Ya6 at ho;rw [List.all_eq_true] at ho
 exact ho o (Array.mem_toList_iff.2 (Array.mem_of_getElem? hi))
theorem WI6 {ops:Array Oper} (ho:Ya6 n ops=true) {ws:List Nat} (hws:∀(i:Nat) (o:Oper),ops[i]? = some o->∀d,o.dst=some d->d ∈ ws) {K:Env->Wa2->Prop} (l:List Oper):∀(k:Nat),(∀j,l[j]? = ops[k+j]?)->∀(ρ:Env) (h:Wa2) (a:Act) (w:World),
  WY9 P ops l ρ h K->Rl n a.tmps ρ->w.heap=h ->
  (∀ρ' a' w',K ρ' w'.heap->Rl n a'.tmps ρ'->SmT ws a.tmps a'.tmps->a'.defers=a.defers->Kw w w'->Q .normal a' w')->wpOpsIn (FW r) 0 P ops Q (List.range' k l.length) a w:=by
 induction l with
 | nil=>intro k _ ρ h a w H hR hw hQ;subst hw;exact hQ ρ a w H hR (SmT.refl _ _) rfl (Kw.refl _)
 | cons o l ih=>
  intro k hk ρ h a w H hR hw hQ
  have h0:ops[k]? = some o:=by simpa using (hk 0).symm
  have ih':=ih (k+1) (λj=>by have:=hk (j+1);simpa [Nat.add_assoc,Nat.add_comm 1 j] using this)
  simp only [List.length_cons,List.range'_succ,wpOpsIn_cons]
  have H:=WL6 H
  refine W41 (n:=n) (K:=λρ' h'=>WY9 P ops l ρ' h' K) ?_ hR hw (λo' ho'=>W42 ho k o' ho') (hws k) ?_
  ·unfold YT4;rw [h0];exact H
  ·intro ρ' a' w' hl hR' hs hd hkd
   refine ih' ρ' _ a' w' hl hR' rfl ?_
   intro ρ'' a'' w'' hK hR'' hs' hd' hkd'
   exact hQ ρ'' a'' w'' hK hR'' (hs.trans hs') (hd'.trans hd) (hkd.trans hkd')
end
end
section
section
variable {P:Program} {h:Wa2} {K:kQ}
theorem YT5 {ρ ρ':Operand->Value} {o:Oper} (hp0:Wp7 o=true) (hh:∀x ∈ o.op.operands,ρ x=ρ' x):opH P ρ o h K=opH P ρ' o h K:=by
 unfold opH
 rw [execOp_congr o (λcs b e=>by unfold Wp7 at hp0;rw [e] at hp0;simp at hp0) hh]
theorem YF6 {ρ ρ':Operand->Value} {op:BinOp} {xt yt:TypeId} {x y:Operand} {o:Oper} (hx:ρ x=ρ' x) (hy:ρ y=ρ' y) (ho:opH P ρ o h K=opH P ρ' o h K) :
  YR9 P op xt yt x y ρ o h K=YR9 P op xt yt x y ρ' o h K:=by
 unfold YR9;simp only [hx,hy,ho]
theorem YT6 {ρ ρ':Operand->Value} {o:Oper} (hp0:Wp7 o=true) (hh:∀x ∈ o.op.operands,ρ x=ρ' x):vop P ρ o h K=vop P ρ' o h K:=by
 have ho:=YT5 (P:=P) (h:=h) (K:=K) hp0 hh
 unfold vop
 split
 case h_1 x hx | h_2 x hx | h_5 t x hx | h_8 t x hx | h_10 x hx | h_12 op xt x hx | h_13 s d x hx | h_14 t x hx | h_19 t x f hx | h_20 t x f hx | h_25 x i hx=>
  rw [hx] at hh
  have e:ρ x=ρ' x:=hh x (by simp [Op.operands])
  simp only [e,ho]
 case h_3 c a b hx=>
  rw [hx] at hh
  have e1:ρ c=ρ' c:=hh c (by simp [Op.operands])
  have e2:ρ a=ρ' a:=hh a (by simp [Op.operands])
  have e3:ρ b=ρ' b:=hh b (by simp [Op.operands])
  simp only [e1,e2,e3]
 case h_4 | h_16=>rfl
 case h_6 t parts hx=>
  rw [hx] at hh
  have e:(parts.toList.map λp=>(p.1,ρ p.2))=(parts.toList.map λp=>(p.1,ρ' p.2)):=by
   apply List.map_congr_left
   intro p hp1
   have:ρ p.2=ρ' p.2:=hh p.2 (by simp only [Op.operands];simp;exact ⟨p.1,by simpa using hp1⟩)
   rw [this]
  simp only [e]
 case h_7 t len parts hx=>
  rw [hx] at hh
  have e:(parts.toList.map λp=>(p.1,ρ p.2))=(parts.toList.map λp=>(p.1,ρ' p.2)):=by
   apply List.map_congr_left
   intro p hp1
   have:ρ p.2=ρ' p.2:=hh p.2 (by simp only [Op.operands];simp;exact ⟨p.1,by simpa using hp1⟩)
   rw [this]
  simp only [e]
 case h_9 t x y hx=>
  rw [hx] at hh
  have e1:ρ x=ρ' x:=hh x (by simp [Op.operands])
  have e2:ρ y=ρ' y:=hh y (by simp [Op.operands])
  simp only [e1,e2]
 case h_11 op xt x y yt hx=>
  rw [hx] at hh
  have e1:ρ x=ρ' x:=hh x (by simp [Op.operands])
  have e2:ρ y=ρ' y:=hh y (by simp [Op.operands])
  exact YF6 e1 e2 ho
 case h_15 fn first captured hx=>
  rw [hx] at hh
  have e1:Yj9 ρ first=Yj9 ρ' first:=by unfold Yj9;congr 1;apply List.map_congr_left;intro x hx1;exact hh x (by simp [Op.operands,(Array.mem_toList_iff.1 hx1)])
  have e2:Yj9 ρ captured=Yj9 ρ' captured:=by unfold Yj9;congr 1;apply List.map_congr_left;intro x hx1;exact hh x (by simp [Op.operands,(Array.mem_toList_iff.1 hx1)])
  simp only [e1,e2]
 case h_17 t x y hx | h_21 t x y hx | h_22 t x y hx | h_23 t x y ok hx=>
  rw [hx] at hh
  have e1:ρ x=ρ' x:=hh x (by simp [Op.operands])
  have e2:ρ y=ρ' y:=hh y (by simp [Op.operands])
  simp only [e1,e2]
 case h_18 t x lo hi mx hx=>
  rw [hx] at hh
  have e1:ρ x=ρ' x:=hh x (by simp [Op.operands])
  have e2:lo.map ρ=lo.map ρ':=by cases lo with | none=>rfl | some l=>simp only [Option.map_some];rw [hh l (by simp [Op.operands])]
  have e3:hi.map ρ=hi.map ρ':=by cases hi with | none=>rfl | some l=>simp only [Option.map_some];rw [hh l (by simp [Op.operands])]
  have e4:mx.map ρ=mx.map ρ':=by cases mx with | none=>rfl | some l=>simp only [Option.map_some];rw [hh l (by simp [Op.operands])]
  simp only [e1,e2,e3,e4]
 case h_24 t m k x hx=>
  rw [hx] at hh
  have e1:ρ m=ρ' m:=hh m (by simp [Op.operands])
  have e2:ρ k=ρ' k:=hh k (by simp [Op.operands])
  have e3:ρ x=ρ' x:=hh x (by simp [Op.operands])
  simp only [e1,e2,e3]
 case h_26 b args argTypes hx=>
  rw [hx] at hh
  have e1:args.toList.map ρ=args.toList.map ρ':=by apply List.map_congr_left;intro x hx1;exact hh x (by simp [Op.operands,Call.operands,(Array.mem_toList_iff.1 hx1)])
  unfold Wn9
  simp only [e1,ho]
 case h_27 f args argTypes hx=>
  rw [hx] at hh
  have e1:Yj9 ρ args=Yj9 ρ' args:=by unfold Yj9;congr 1;apply List.map_congr_left;intro x hx1;exact hh x (by simp [Op.operands,Call.operands,(Array.mem_toList_iff.1 hx1)])
  have e2:ρ f=ρ' f:=hh f (by simp [Op.operands,Call.operands])
  simp only [e1,e2]
 case h_28=>rfl
 case h_29=>exact ho
theorem Zv0 {ρ:Env} {d:Option Nat} {v:Value} {x:Operand} (hx:∀j,d=some j->x≠.tmp j):evo (WI1 ρ d v) x=evo ρ x:=by
 cases d with
 | none=>rfl
 | some d=>cases x with
  | tmp j=>exact WF6 _ _ (λe=>hx d rfl (by rw [e]))
  | _=>rfl
theorem YT7 {ρ:Env} {ops:Array Oper} {o:Oper} {d:Option Nat} {v:Value} (hp0:Wp7 o=true) (hd:∀j,d=some j->j ∉ o.looksAt ops) :
  vop P (evo (WI1 ρ d v)) o h K=vop P (evo ρ) o h K:=by
 refine YT6 hp0 λx hx=>Zv0 λj hj e=>hd j hj ?_
 subst e
 unfold Oper.looksAt
 exact List.mem_append.2 (.inl (List.mem_filterMap.2 ⟨_,Array.mem_toList_iff.2 hx,rfl⟩))
theorem Ya7 {ρ:Env} {ops:Array Oper} {o:Oper} {d:Option Nat} {v:Value} (hd:∀j,d=some j->j ∉ o.looksAt ops) :
  WL5 ops (WI1 ρ d v) o.guard=WL5 ops ρ o.guard:=by
 unfold WL5
 cases hg:o.guard with
 | none=>rfl
 | some g=>
  obtain ⟨j,want⟩:=g
  have e:WA1 ops (WI1 ρ d v) j=WA1 ops ρ j:=by
   unfold WA1
   cases hs:(ops[j]?).bind (·.dst) with
   | none=>rfl
   | some s=>
    simp only
    cases d with
    | none=>rfl
    | some d=>
     have:s≠d:=by
      intro e;subst e
      refine hd s rfl ?_
      unfold Oper.looksAt
      rw [hg];simp only [hs];simp
     rw [show WI1 ρ (some d) v s=ρ s from WF6 _ _ this]
  simp only [e]
theorem Ya8 (ρ:Env) {x y:Option Nat} (v u:Value) (hne:∀d,x=some d->y≠some d):WI1 (WI1 ρ x v) y u=WI1 (WI1 ρ y u) x v:=by
 cases x with
 | none=>rfl
 | some x=>cases y with
  | none=>rfl
  | some y=>
   have hxy:x≠y:=λe=>hne x rfl (by rw [e])
   funext j
   simp only [WI1]
   by_cases e1:j=x
   ·subst e1;rw [WF6 _ _ hxy,Wy1,Wy1]
   ·by_cases e2:j=y
    ·subst e2;rw [Wy1,WF6 _ _ e1,Wy1]
    ·rw [WF6 _ _ e2,WF6 _ _ e1,WF6 _ _ e1,WF6 _ _ e2]
end
end
section
section
variable {P:Program} {h:Wa2} {ρ:Operand->Value} {G:Value->Prop}
def RdAs (P:Program) (ρ:Operand->Value) (o:Oper) (L:List (Addr × Value)) (v:Value):Prop:=
 ∀h:Wa2,(∀x ∈ L,Wa1 h x.1=some x.2)->∀K:Value->Wa2->Prop,K v h->vop P ρ o h K
theorem W06 {k:IntKind} {op:BinOp} {a b:Int} (H:W94 k op a b G):∃v,G v/\∀G':Value->Prop,G' v->W94 k op a b G':=by
 cases op <;> simp only [W94] at H ⊢ <;> first
  | exact ⟨_,H,λ_ x=>x⟩
  | exact ⟨_,H.2,λ_ x=>⟨H.1,x⟩⟩
  | exact H.elim
theorem WR0 {k:IntKind} {op:BinOp} {a b:Int} (H:Zr5 k op a b G):∃v,G v/\∀G':Value->Prop,G' v->Zr5 k op a b G':=by
 cases op <;> simp only [Zr5] at H ⊢ <;> first
  | exact ⟨_,H.2,λ_ x=>⟨H.1,x⟩⟩
  | exact H.elim
theorem WA8 {t:TypeId} {x y:Value} {F:Bool->Prop} (H:Yk0 P t x y F):∃b,F b/\∀F':Bool->Prop,F' b->Yk0 P t x y F':=by
 unfold Yk0 at *
 split at H
 ·exact H.elim
 ·rename_i hg
  obtain ⟨a,rfl,H⟩:=Wm2 H
  split at H
  ·rename_i b hb
   exact ⟨b,H,λF' x=>by simp only [hg,asAgg,hb];simpa using x⟩
  ·exact H.elim
theorem Wn3 {v:Option Value} {d m:Nat} {F:Nat->Prop} (H:Wu0 none v d m F):∃n,F n/\∀F':Nat->Prop,F' n->Wu0 none v d m F':=by
 rcases Wp6 H with ⟨rfl,H1⟩ | ⟨k,i,rfl,h0,h1,H1⟩
 ·exact ⟨d,H1,λ_ x=>x⟩
 ·exact ⟨_,H1,λ_ x=>⟨h0,h1,x⟩⟩
theorem WR1 {t:TypeId} {x:Value} {lo hi mx:Option Value} (H:WN4 P t x lo hi mx G):∃v,G v/\∀G':Value->Prop,G' v->WN4 P t x lo hi mx G':=by
 unfold WN4 at *
 split at H
 ·split at H
  ·exact H.elim
  ·rename_i hm
   obtain ⟨s,rfl,H1⟩:=We1 H
   obtain ⟨a,H2,f1⟩:=Wn3 H1
   obtain ⟨b,H3,f2⟩:=Wn3 H2
   exact ⟨_,H3,λG' x=>by rw [if_neg hm];simp only [We4];apply f1;apply f2;exact x⟩
 ·split at H
  ·rename_i ht
   obtain ⟨a,len,cap,rfl,H1⟩:=Wf6 H
   obtain ⟨m,H2,f1⟩:=Wn3 H1
   obtain ⟨b,H3,f2⟩:=Wn3 H2
   obtain ⟨c,H4,f3⟩:=Wn3 H3
   exact ⟨_,H4,λG' x=>by simp only [ht,if_true,Wb3,Wd2];apply f1;apply f2;apply f3;exact x⟩
  ·exact H.elim
 ·split at H
  ·rename_i ht
   obtain ⟨a,rfl,H1⟩:=Wh8 H
   obtain ⟨m,H2,f1⟩:=Wn3 H1
   obtain ⟨b,H3,f2⟩:=Wn3 H2
   obtain ⟨c,H4,f3⟩:=Wn3 H3
   exact ⟨_,H4,λG' x=>by simp only [ht,if_true,Wb3,Wd2];apply f1;apply f2;apply f3;exact x⟩
  ·exact H.elim
 ·exact H.elim
theorem Wy2 {t:TypeId} {v:Value} {F:List Value->Prop} (H:WA6 P t v F):F v.cells.toList/\∀F':List Value->Prop,F' v.cells.toList->WA6 P t v F':=by
 refine ⟨WD5 H,λF' x=>?_⟩
 unfold WA6 at *
 split at H
 ·rename_i ht
  simp only [ht,if_true];exact (Yx0 H).2 _ x
 ·rename_i ht
  simp only [ht]
  have e:=(WL1 H).1
  rw [e] at x
  exact Ww6 (λ_=>by simpa using x) H
theorem WL7 {place:Nat->Option (Nat × TypeId)} (parts:List (Nat × Value)):∀(cells:List Value) (F:List Value->Prop),WO5 P place cells parts F ->
  ∃cs,F cs/\∀F':List Value->Prop,F' cs->WO5 P place cells parts F':=by
 induction parts with
 | nil=>intro cells F H;exact ⟨cells,H,λ_ x=>x⟩
 | cons p rest ih=>
  obtain ⟨i,v⟩:=p
  intro cells F H
  unfold WO5 at H
  split at H
  ·exact H.elim
  ·rename_i off t hp1
   obtain ⟨H,f1⟩:=Wy2 H
   split at H
   ·rename_i hs
    obtain ⟨cs,h1,h2⟩:=ih _ _ H
    refine ⟨cs,h1,λF' x=>?_⟩
    unfold WO5
    simp only [hp1]
    exact f1 _ (by rw [if_pos hs];exact h2 _ x)
   ·exact H.elim
theorem YT8 {op:BinOp} {xt yt:TypeId} {x y:Operand} {o:Oper} (hr:Wo0 P { o with op:=.binOp op xt x y yt }=true) (H:YR9 P op xt yt x y ρ o h (λv _=>G v)) :
  ∃v,G v/\∀(h':Wa2) (K':kQ),K' v h'->YR9 P op xt yt x y ρ o h' K':=by
 unfold Wo0 at hr
 simp only at hr
 unfold YR9 at *
 cases hu:und P xt with
 | int k=>
  rw [hu] at H hr
  simp only at H ⊢
  split at H
  ·split at H
   ·obtain ⟨a,ha,H⟩:=We3 H
    obtain ⟨b,hb,H⟩:=We3 H
    obtain ⟨v,H,f⟩:=WR0 H
    exact ⟨v,H,λh' K' x=>by simp only [ha,hb,asInt,if_true];exact f (λv=>K' v h') x⟩
   ·exact H.elim
  ·split at H
   ·obtain ⟨a,ha,H⟩:=We3 H
    obtain ⟨b,hb,H⟩:=We3 H
    obtain ⟨v,H,f⟩:=WR0 H
    exact ⟨v,H,λh' K' x=>by simp only [ha,hb,asInt,if_true];exact f (λv=>K' v h') x⟩
   ·exact H.elim
  ·obtain ⟨a,ha,H⟩:=We3 H
   obtain ⟨b,hb,H⟩:=We3 H
   obtain ⟨v,H,f⟩:=W06 H
   exact ⟨v,H,λh' K' x=>by simp only [ha,hb,asInt,if_true];exact f (λv=>K' v h') x⟩
 | bool=>
  rw [hu] at H hr
  simp only at H ⊢
  split at H
  ·obtain ⟨a,ha,H⟩:=Wf5 H
   obtain ⟨b,hb,H⟩:=Wf5 H
   exact ⟨_,H,λh' K' x=>by simp only [ha,hb,asBool];exact x⟩
  ·obtain ⟨a,ha,H⟩:=Wf5 H
   obtain ⟨b,hb,H⟩:=Wf5 H
   exact ⟨_,H,λh' K' x=>by simp only [ha,hb,asBool];exact x⟩
  ·exact H.elim
 | string=>
  rw [hu] at H hr
  simp only at H hr ⊢
  split at H
  ·obtain ⟨a,ha,H⟩:=We1 H
   obtain ⟨b,hb,H⟩:=We1 H
   exact ⟨_,H,λh' K' x=>by simp only [ha,hb,We4];exact x⟩
  ·obtain ⟨a,ha,H⟩:=We1 H
   obtain ⟨b,hb,H⟩:=We1 H
   exact ⟨_,H,λh' K' x=>by simp only [ha,hb,We4];exact x⟩
  ·obtain ⟨a,ha,H⟩:=We1 H
   obtain ⟨b,hb,H⟩:=We1 H
   exact ⟨_,H.2,λh' K' x=>by simp only [ha,hb,We4];exact ⟨H.1,x⟩⟩
  ·split at hr <;> simp_all
 | pointer e=>
  rw [hu] at H hr
  simp only at H hr ⊢
  split at H
  ·obtain ⟨a,ha,H⟩:=Wj6 H
   exact ⟨_,H,λh' K' x=>by simp only [ha,Wb2];exact x⟩
  ·obtain ⟨a,ha,H⟩:=Wj6 H
   exact ⟨_,H,λh' K' x=>by simp only [ha,Wb2];exact x⟩
  ·simp_all
  ·simp_all
  ·split at hr <;> simp_all
 | slice e=>
  rw [hu] at H hr
  simp only at H hr ⊢
  split at H
  ·obtain ⟨a,l,c,ha,H⟩:=Wf6 H
   exact ⟨_,H,λh' K' x=>by simp only [ha,Wb3];exact x⟩
  ·obtain ⟨a,l,c,ha,H⟩:=Wf6 H
   exact ⟨_,H,λh' K' x=>by simp only [ha,Wb3];exact x⟩
  ·split at hr <;> simp_all
 | func e1 e2 e3=>
  rw [hu] at H hr
  simp only at H hr ⊢
  split at H
  ·rcases Wy0 H with ⟨ha,H⟩ | ⟨f,a,b,ha,H⟩
   ·exact ⟨_,H,λh' K' x=>by simp only [ha,Wk1];exact x⟩
   ·exact ⟨_,H,λh' K' x=>by simp only [ha,Wk1];exact x⟩
  ·rcases Wy0 H with ⟨ha,H⟩ | ⟨f,a,b,ha,H⟩
   ·exact ⟨_,H,λh' K' x=>by simp only [ha,Wk1];exact x⟩
   ·exact ⟨_,H,λh' K' x=>by simp only [ha,Wk1];exact x⟩
  ·split at hr <;> simp_all
 | struct fs=>
  rw [hu] at H hr
  simp only at H hr ⊢
  split at H
  ·obtain ⟨b,H,f⟩:=WA8 H
   exact ⟨_,H,λh' K' x=>f (λb=>K' (.bool b) h') x⟩
  ·obtain ⟨b,H,f⟩:=WA8 H
   exact ⟨_,H,λh' K' x=>f (λb=>K' (.bool (!b)) h') x⟩
  ·exact H.elim
 | array n e=>
  rw [hu] at H hr
  simp only at H hr ⊢
  split at H
  ·obtain ⟨b,H,f⟩:=WA8 H
   exact ⟨_,H,λh' K' x=>f (λb=>K' (.bool b) h') x⟩
  ·obtain ⟨b,H,f⟩:=WA8 H
   exact ⟨_,H,λh' K' x=>f (λb=>K' (.bool (!b)) h') x⟩
  ·exact H.elim
 | _=>rw [hu] at hr;simp at hr
theorem Ze6 {o:Oper} (hr:Wo0 P o=true) (hn:∀t x,o.op≠.load t x) (H:vop P ρ o h (λv _=>G v)):∃v,G v/\RdAs P ρ o [] v:=by
 unfold vop at H
 unfold RdAs
 split at H
 case h_1 x hx | h_2 x hx=>exact ⟨_,H,λh' _ K' k=>by unfold vop;rw [hx];exact k⟩
 case h_3 c a b hx=>
  obtain ⟨t,ht,H⟩:=Wf5 H
  refine ⟨if t then ρ a else ρ b,?_,λh' _ K' k=>?_⟩
  ·cases t <;> exact H
  ·unfold vop;rw [hx];simp only [ht,asBool];cases t <;> exact k
 case h_4 t hx | h_16 t hx=>unfold Wo0 at hr;rw [hx] at hr;simp at hr
 case h_5 t x hx | h_24 t m k x hx=>unfold Wo0 at hr;rw [hx] at hr;simp at hr
 case h_6 t parts hx=>
  split at H
  ·rename_i hz
   split at H
   ·rename_i fields hu
    split at H
    ·exact H.elim
    ·rename_i hall
     obtain ⟨cs,H,f⟩:=WL7 _ _ _ H
     refine ⟨_,H,λh' _ K' k=>?_⟩
     unfold vop;rw [hx];simp only [hz,if_true,hu,if_neg hall]
     exact f (λcs=>K' (.agg cs.toArray) h') k
   ·rename_i n elem hu
    split at H
    ·exact H.elim
    ·rename_i hall
     obtain ⟨cs,H,f⟩:=WL7 _ _ _ H
     refine ⟨_,H,λh' _ K' k=>?_⟩
     unfold vop;rw [hx];simp only [hz,if_true,hu,if_neg hall]
     exact f (λcs=>K' (.agg cs.toArray) h') k
   ·exact H.elim
  ·exact H.elim
 case h_7 t len parts hx=>unfold Wo0 at hr;rw [hx] at hr;simp at hr
 case h_8 t x hx=>exact absurd hx (hn _ _)
 case h_9 t x y hx=>unfold Wo0 at hr;rw [hx] at hr;simp at hr
 case h_10 x hx=>
  have e:∀X Y:Prop,Wb8 (ρ x) X->(Y->Wb8 (ρ x) Y)/\X:=by
   intro X Y q;unfold Wb8 at *;split at q <;> first | exact q.elim | exact ⟨λy=>y,q⟩
  exact ⟨_,(e _ True H).2,λh' _ K' k=>by unfold vop;rw [hx];exact (e _ _ H).1 k⟩
 case h_11 op xt x y yt hx=>
  have hr':Wo0 P { o with op:=.binOp op xt x y yt }=true:=by rw [<- hx];exact hr
  obtain ⟨v,H,f⟩:=YT8 hr' H
  exact ⟨v,H,λh' _ K' k=>by unfold vop;rw [hx];exact f h' K' k⟩
 case h_12 op xt x hx=>
  split at H
  ·rename_i hu
   obtain ⟨b,hb,H⟩:=Wf5 H
   exact ⟨_,H,λh' _ K' k=>by unfold vop;rw [hx];simp only [hu,hb,asBool];exact k⟩
  ·rename_i hu
   obtain ⟨b,hb,H⟩:=We3 H
   exact ⟨_,H,λh' _ K' k=>by unfold vop;rw [hx];simp only [hu,hb,asInt,if_true];exact k⟩
  ·rename_i n1 n2
   unfold Wo0 at hr;rw [hx] at hr;simp only at hr
   exact absurd hr (by simp)
 case h_13 s d x hx=>
  split at H
  ·rename_i hu1 hu2
   obtain ⟨b,hb,H⟩:=We3 H
   exact ⟨_,H,λh' _ K' k=>by unfold vop;rw [hx];simp only [hu1,hu2,hb,asInt,if_true];exact k⟩
  ·rename_i hu1 hu2
   obtain ⟨b,hb,H⟩:=We1 H
   exact ⟨_,H,λh' _ K' k=>by unfold vop;rw [hx];simp only [hu1,hu2,hb,We4];exact k⟩
  ·rename_i n1 n2
   unfold Wo0 at hr;rw [hx] at hr;simp only at hr
   exact absurd hr (by simp)
 case h_14 t x hx=>unfold Wo0 at hr;rw [hx] at hr;simp at hr
 case h_15 fn first captured hx=>exact ⟨_,H,λh' _ K' k=>by unfold vop;rw [hx];exact k⟩
 case h_17 t l c hx=>unfold Wo0 at hr;rw [hx] at hr;simp at hr
 case h_18 t x lo hi mx hx=>
  split at H
  ·exact H.elim
  ·rename_i hm
   obtain ⟨v,H,f⟩:=WR1 H
   exact ⟨v,H,λh' _ K' k=>by unfold vop;rw [hx];simp only [hm];exact f (λv=>K' v h') k⟩
 case h_19 t x f hx=>
  split at H
  ·rename_i fields hu
   split at H
   ·rename_i fd hf
    split at H
    ·rename_i hh
     obtain ⟨a,ha,H⟩:=Wh8 H
     exact ⟨_,H,λh' _ K' k=>by unfold vop;rw [hx];simp only [hu,hf,if_pos hh,ha,Wd2];exact k⟩
    ·exact H.elim
   ·exact H.elim
  ·exact H.elim
 case h_20 t x f hx=>
  split at H
  ·rename_i fields hu
   split at H
   ·rename_i fd hf
    obtain ⟨cs,ha,H⟩:=Wm2 H
    unfold WL0 at H
    split at H
    ·rename_i v hv
     split at H
     ·rename_i hth
      exact ⟨_,H,λh' _ K' k=>by unfold vop;rw [hx];simp only [hu,hf,ha,asAgg,WL0,hv,if_pos hth];exact k⟩
     ·exact H.elim
    ·exact H.elim
   ·exact H.elim
  ·exact H.elim
 case h_21 t x i hx=>
  split at H
  ·rename_i elem hu
   obtain ⟨a,len,cap,ha,H⟩:=Wf6 H
   obtain ⟨k,n,hi,h0,h1,H⟩:=Wr8 H
   obtain ⟨ad,had,H⟩:=Wh8 H
   cases had
   split at H
   ·rename_i hth
    exact ⟨_,H,λh' _ K' k=>by unfold vop;rw [hx];simp only [hu,ha,Wb3,hi,asI,Wd2,if_pos hth];exact ⟨h0,h1,k⟩⟩
   ·exact H.elim
  ·rename_i len elem hu
   obtain ⟨a,ha,H⟩:=Wh8 H
   obtain ⟨k,n,hi,h0,h1,H⟩:=Wr8 H
   split at H
   ·rename_i hth
    exact ⟨_,H,λh' _ K' k=>by unfold vop;rw [hx];simp only [hu,ha,Wd2,hi,asI,if_pos hth];exact ⟨h0,h1,k⟩⟩
   ·exact H.elim
  ·exact H.elim
 case h_22 t x i hx=>
  split at H
  ·rename_i hu
   obtain ⟨s,ha,H⟩:=We1 H
   obtain ⟨k,n,hi,h0,h1,H⟩:=Wr8 H
   exact ⟨_,H,λh' _ K' k=>by unfold vop;rw [hx];simp only [hu,ha,We4,hi,asI];exact ⟨h0,h1,k⟩⟩
  ·rename_i len elem hu
   obtain ⟨cs,ha,H⟩:=Wm2 H
   obtain ⟨k,n,hi,h0,h1,H⟩:=Wr8 H
   unfold WL0 at H
   split at H
   ·rename_i v hv
    split at H
    ·rename_i hth
     exact ⟨_,H,λh' _ K' k=>by unfold vop;rw [hx];simp only [hu,ha,asAgg,hi,asI,WL0,hv,if_pos hth];exact ⟨h0,h1,k⟩⟩
    ·exact H.elim
   ·exact H.elim
  ·exact H.elim
 case h_23 t x i ok hx=>unfold Wo0 at hr;rw [hx] at hr;simp at hr
 case h_25 x i hx=>
  obtain ⟨vs,ha,H⟩:=WQ7 H
  unfold Wc2 at H
  split at H
  ·rename_i v hv
   exact ⟨_,H,λh' _ K' k=>by unfold vop;rw [hx];simp only [ha,Wh0,Wc2,hv];exact k⟩
  ·exact H.elim
 case h_26 b args argTypes hx=>
  have hb:b=.len:=by
   cases b <;> first | rfl | exact absurd hr (by unfold Wo0;rw [hx];simp)
  subst hb
  unfold Wo0 at hr;rw [hx] at hr;simp only at hr
  split at hr
  ·rename_i t x h1 h2
   unfold Wn9 at H
   rw [h2] at H
   simp only [List.map_cons,List.map_nil,h1] at H
   split at H
   ·rename_i e hu
    obtain ⟨a,n,c,ha,H⟩:=Wf6 H
    exact ⟨_,H,λh' _ K' k=>by unfold vop;rw [hx];simp only [Wn9,h2,List.map_cons,List.map_nil,h1,hu,ha,Wb3];exact k⟩
   ·rename_i hu
    obtain ⟨a,ha,H⟩:=We1 H
    exact ⟨_,H,λh' _ K' k=>by unfold vop;rw [hx];simp only [Wn9,h2,List.map_cons,List.map_nil,h1,hu,ha,We4];exact k⟩
   ·rename_i e1 e2 hu;rw [hu] at hr;simp at hr
   ·rename_i n e hu
    exact ⟨_,H,λh' _ K' k=>by unfold vop;rw [hx];simp only [Wn9,h2,List.map_cons,List.map_nil,h1,hu];exact k⟩
   ·exact H.elim
  ·exact absurd hr (by simp)
 case h_27 f args argTypes hx=>unfold Wo0 at hr;rw [hx] at hr;simp at hr
 case h_28=>exact H.elim
 case h_29=>
  exfalso
  unfold Wo0 at hr
  split at hr <;> rename_i hx <;> first
   | (exact absurd hr (by decide))
   | solve_by_elim
end
end
section
section
variable {P:Program} {ops:Array Oper}
theorem Wt5 {v:Value} {F F':Addr->Prop} (f:∀a,F a->F' a) (H:Wd2 v F):Wd2 v F':=by obtain ⟨a,rfl,H2⟩:=Wh8 H;exact f a H2
theorem Wm5 {v:Value} {F F':Option Addr->Prop} (f:∀a,F a->F' a) (H:Wb2 v F):Wb2 v F':=by obtain ⟨a,rfl,H2⟩:=Wj6 H;exact f a H2
theorem Wg7 {k:IntKind} {v:Value} {F F':Int->Prop} (f:∀a,F a->F' a) (H:asInt k v F):asInt k v F':=by obtain ⟨a,rfl,H2⟩:=We3 H;unfold asInt;simp only [if_true];exact f a H2
theorem WD7 {v:Value} {F F':Int->Prop} (f:∀a,F a->F' a) (H:asI v F):asI v F':=by obtain ⟨k,a,rfl,H2⟩:=Wr8 H;exact f a H2
theorem Wm6 {v:Value} {F F':Bool->Prop} (f:∀a,F a->F' a) (H:asBool v F):asBool v F':=by obtain ⟨a,rfl,H2⟩:=Wf5 H;exact f a H2
theorem Wj8 {v:Value} {F F':ByteArray->Prop} (f:∀a,F a->F' a) (H:We4 v F):We4 v F':=by obtain ⟨a,rfl,H2⟩:=We1 H;exact f a H2
theorem Wn4 {v:Value} {F F':Option Addr->Nat->Nat->Prop} (f:∀a b c,F a b c->F' a b c) (H:Wb3 v F):Wb3 v F':=by obtain ⟨a,b,c,rfl,H2⟩:=Wf6 H;exact f a b c H2
theorem WL8 {v:Value} {F F':Array Value->Prop} (f:∀a,F a->F' a) (H:asAgg v F):asAgg v F':=by obtain ⟨a,rfl,H2⟩:=Wm2 H;exact f a H2
theorem YF7 {v:Value} {F F':Array Value->Prop} (f:∀a,F a->F' a) (H:Wh0 v F):Wh0 v F':=by obtain ⟨a,rfl,H2⟩:=WQ7 H;exact f a H2
theorem WD8 {v:Value} {F F':Option Nat->Prop} (f:∀a,F a->F' a) (H:W93 v F):W93 v F':=by obtain ⟨a,rfl,H2⟩:=WA7 H;exact f a H2
theorem WN7 {v:Value} {F F':Bool->Prop} (f:∀a,F a->F' a) (H:Wk1 v F):Wk1 v F':=by unfold Wk1 at *;split at H <;> first | exact f _ H | exact H.elim
theorem Yy5 {b:Bool} {X Y X' Y':Prop} (f:X->X') (g:Y->Y') (H:ifB b X Y):ifB b X' Y':=by cases b <;> first | exact f H | exact g H
theorem Wo1 {c:Prop} [Decidable c] {X X':Prop} (f:c->X->X') (H:if c then X else False):if c then X' else False:=by split <;> simp_all
theorem WR2 {c:Prop} [Decidable c] {X X':Prop} (f:¬c->X->X') (H:if c then False else X):if c then False else X':=by split <;> simp_all
theorem WR3 {t:TypeId} {v:Value} {F F':List Value->Prop} (f:∀a,F a->F' a) (H:WA6 P t v F):WA6 P t v F':=(Wy2 H).2 _ (f _ (Wy2 H).1)
theorem WL9 {place:Nat->Option (Nat × TypeId)} {parts:List (Nat × Value)} {cells:List Value} {F F':List Value->Prop} (f:∀a,F a->F' a) (H:WO5 P place cells parts F):WO5 P place cells parts F':=by
 obtain ⟨cs,h1,h2⟩:=WL7 _ _ _ H;exact h2 _ (f _ h1)
theorem WI7 {h:Wa2} {a:Addr} {F F':Value->Prop} (f:∀v,F v->F' v) (H:ldH h a F):ldH h a F':=by unfold ldH at *;split <;> simp_all
theorem W43 {h:Wa2} {a:Addr} (n:Nat):∀ {i:Nat} {acc:List Value} {F F':List Value->Prop},(∀v,F v->F' v)->ldN h a i n acc F->ldN h a i n acc F':=by
 induction n with
 | zero=>intro i acc F F' f H;exact f _ H
 | succ n ih=>intro i acc F F' f H;exact WI7 (λv=>ih f) H
theorem Ze7 {a:Addr} (vs:List Value):∀ {h:Wa2} {i:Nat} {F F':Wa2->Prop},(∀v,F v->F' v)->stN h a i vs F->stN h a i vs F':=by
 induction vs with
 | nil=>intro h i F F' f H;exact f _ H
 | cons v vs ih=>intro h i F F' f H;exact Ww6 (λ⟨a,b,c⟩=>⟨a,b,ih f c⟩) H
theorem Yk9 {cs:Array Value} {F F':List Value->Prop} (f:∀v,F v->F' v):∀(n i:Nat) (acc:List Value),WA0 cs n i acc F->WA0 cs n i acc F':=by
 intro n
 induction n with
 | zero=>intro i acc H;exact f _ H
 | succ n ih=>
  intro i acc H
  have H':Wc2 cs i (λv=>WA0 cs n (i+1) (v :: acc) F):=H
  show Wc2 cs i (λv=>WA0 cs n (i+1) (v :: acc) F')
  unfold Wc2 at *
  split at H'
  ·exact ih _ _ H'
  ·exact H'.elim
theorem Ya9 {n:Nat} {v:Value} {F F':Value->Prop} (f:∀v,F v->F' v) (H:Zu3 n v F):Zu3 n v F':=by
 unfold Zu3 at *
 split at H
 ·refine WL8 (λcs H=>?_) H
  unfold We2 at *
  split at H
  ·exact Yk9 (λ_=>f _) _ _ _ H
  ·exact H.elim
 ·exact f _ H
theorem WR4 {P:Program} {t:TypeId} {v:Value} {F F':Value->Prop} (f:∀v,F v->F' v) (H:WQ6 P t v F):WQ6 P t v F':=by
 unfold WQ6 at *
 split
 ·exact Wm6 (λ_=>f _) (by simp_all)
 ·exact Wg7 (λ_=>f _) (by simp_all)
 ·exact Wj8 (λ_=>f _) (by simp_all)
 ·exact Wn4 (λ_ _ _=>f _) (by simp_all)
 ·exact Wm5 (λ_=>f _) (by simp_all)
 ·exact WD8 (λ_=>f _) (by simp_all)
 ·exact Ya9 f (by simp_all)
 ·exact Ya9 f (by simp_all)
 ·split at H <;> first | exact f _ H | simp_all
theorem Ze8 {P:Program} {o:Oper} {v:Value} {F F':Value->Prop} (f:∀v,F v->F' v) (H:tyO P o v F):tyO P o v F':=by
 unfold tyO at *
 split at H
 ·exact f _ H
 ·exact f _ H
 ·exact WR4 f H
theorem WM0 {v:Value} {args:Array Value} {h:Wa2} {K K':kQ} (hk:∀v h',K v h'->K' v h') (H:Wv0 P v args h K):Wv0 P v args h K':=by
 have ho:∀(w0:World) e w,onH w0 K e w->onH w0 K' e w:=by intro w0 e w x;cases e <;> first | exact x | exact ⟨hk _ _ x.1,x.2⟩
 unfold Wv0 at *
 split at H
 ·exact ⟨H.1,λw hw=>(H.2 w hw).mono (ho w)⟩
 ·intro w hw
  obtain ⟨fn,t,a,b,h1,h2⟩:=H w hw
  exact ⟨fn,t,a,b,h1,h2.mono (ho w)⟩
 ·exact H.elim
theorem YT9 {v:Value} {args:Array Value} {h:Wa2} {K K':kQ} (hk:∀v h',K v h'->K' v h') (H:YR8 P v args h K):YR8 P v args h K':=by
 unfold YR8 at *
 split at H
 ·exact Wk2 (λnx h' x=>by cases nx <;> first | exact hk _ _ x | exact x.elim) H
 ·exact H.elim
theorem WZ0 {f:Int->Int->Int} {k:IntKind} (ys:List Value):∀ {a:Int} {F F':Int->Prop},(∀n,F n->F' n)->Wh7.go f k a ys F->Wh7.go f k a ys F':=by
 induction ys with
 | nil=>intro a F F' g H;exact g _ H
 | cons y ys ih=>intro a F F' g H;exact Wg7 (λb x=>ih g x) H
theorem WR5 {f:Int->Int->Int} {t:TypeId} (xs:List Value) {F F':Int->Prop} (g:∀n,F n->F' n) (H:Wh7 f P t xs F):Wh7 f P t xs F':=by
 cases xs with
 | nil=>exact H
 | cons x xs=>cases xs with
  | nil=>
   simp only [Wh7] at *
   split <;> rename_i hk <;> rw [hk] at H
   ·exact Wg7 g H
   ·exact H
  | cons y ys=>
   simp only [Wh7] at *
   split <;> rename_i hk <;> rw [hk] at H
   ·exact Wg7 (λa x=>WZ0 _ g x) H
   ·exact H
theorem Wo2 {ρ:Operand->Value} {o:Oper} {h:Wa2} {K K':kQ} (hk:∀v h',K v h'->K' v h') (H:opH P ρ o h K):opH P ρ o h K':=by
 refine Wk2 ?_ H
 intro nx h' x
 cases nx <;> first
  | exact hk _ _ x
  | exact x
  | (intro w hw;refine (x w hw).mono ?_;intro e w y;cases e <;> first | exact y | exact ⟨hk _ _ y.1,y.2⟩)
theorem YF8 {k:IntKind} {op:BinOp} {a b:Int} {G G':Value->Prop} (g:∀v,G v->G' v) (H:W94 k op a b G):W94 k op a b G':=by
 obtain ⟨v,h1,h2⟩:=W06 H;exact h2 _ (g _ h1)
theorem Yb0 {k:IntKind} {op:BinOp} {a b:Int} {G G':Value->Prop} (g:∀v,G v->G' v) (H:Zr5 k op a b G):Zr5 k op a b G':=by
 obtain ⟨v,h1,h2⟩:=WR0 H;exact h2 _ (g _ h1)
theorem WI8 {t:TypeId} {x y:Value} {F F':Bool->Prop} (g:∀v,F v->F' v) (H:Yk0 P t x y F):Yk0 P t x y F':=by
 obtain ⟨v,h1,h2⟩:=WA8 H;exact h2 _ (g _ h1)
theorem YU0 {op:BinOp} {xt yt:TypeId} {x y:Operand} {ρ:Operand->Value} {o:Oper} {h:Wa2} {K K':kQ} (hk:∀v h',K v h'->K' v h')
  (H:YR9 P op xt yt x y ρ o h K):YR9 P op xt yt x y ρ o h K':=by
 unfold YR9 at *
 split at H
 ·split at H
  ·split at H
   ·exact Wg7 (λ_=>Wg7 λ_=>Yb0 λv=>hk v _) H
   ·exact H
  ·split at H
   ·exact Wg7 (λ_=>Wg7 λ_=>Yb0 λv=>hk v _) H
   ·exact H
  ·exact Wg7 (λ_=>Wg7 λ_=>YF8 λv=>hk v _) H
 ·split at H
  ·exact Wm6 (λ_=>Wm6 λ_=>hk _ _) H
  ·exact Wm6 (λ_=>Wm6 λ_=>hk _ _) H
  ·exact H
 ·split at H
  ·exact Wj8 (λ_=>Wj8 λ_=>hk _ _) H
  ·exact Wj8 (λ_=>Wj8 λ_=>hk _ _) H
  ·exact Wj8 (λ_=>Wj8 λ_ x=>⟨x.1,hk _ _ x.2⟩) H
  ·exact Wo2 hk H
 ·split at H
  ·exact Wm5 (λ_=>hk _ _) H
  ·exact Wm5 (λ_=>hk _ _) H
  ·exact Wm5 (λ_=>Wm5 λ_=>Wk2 hk) H
  ·exact Wm5 (λ_=>Wm5 λ_=>Wk2 hk) H
  ·exact Wo2 hk H
 ·split at H
  ·exact Wn4 (λ_ _ _=>hk _ _) H
  ·exact Wn4 (λ_ _ _=>hk _ _) H
  ·exact Wo2 hk H
 ·split at H
  ·exact WD8 (λ_=>hk _ _) H
  ·exact WD8 (λ_=>hk _ _) H
  ·exact Wo2 hk H
 ·split at H
  ·exact WN7 (λ_=>hk _ _) H
  ·exact WN7 (λ_=>hk _ _) H
  ·exact Wo2 hk H
 ·split at H
  ·exact WI8 (λ_=>hk _ _) H
  ·exact WI8 (λ_=>hk _ _) H
  ·exact H
 ·split at H
  ·exact WI8 (λ_=>hk _ _) H
  ·exact WI8 (λ_=>hk _ _) H
  ·exact H
 ·exact Wo2 hk H
theorem W44 {b:Builtin} {argTypes:Array TypeId} {t:TypeId} {args:List Value} {ρ:Operand->Value} {o:Oper} {h:Wa2} {K K':kQ} (hk:∀v h',K v h'->K' v h')
  (H:Wn9 P b argTypes t args ρ o h K):Wn9 P b argTypes t args ρ o h K':=by
 unfold Wn9 at *
 split at H
 ·split at H
  ·split at H
   ·exact Wn4 (λ_ _ _=>hk _ _) H
   ·exact Wj8 (λ_=>hk _ _) H
   ·refine WD8 (λr x=>?_) H
    unfold Zu5 at *
    cases r with
    | none=>exact hk _ _ x
    | some r=>simp only at *;split at x <;> first | exact hk _ _ x | exact x
   ·exact hk _ _ H
   ·exact H
  ·exact H
 ·split at H
  ·split at H
   ·exact Wn4 (λ_ _ _=>hk _ _) H
   ·exact H
  ·exact H
 ·exact Wk2 hk H
 ·exact Wk2 hk H
 ·exact Wk2 hk H
 ·exact Wk2 hk H
 ·exact Wk2 hk H
 ·exact Wk2 hk H
 ·split at H
  ·exact WR5 _ (λ_=>hk _ _) H
  ·exact Wo2 hk H
 ·split at H
  ·exact WR5 _ (λ_=>hk _ _) H
  ·exact Wo2 hk H
 ·exact Wo2 hk H
theorem Yl0 {t:TypeId} {x:Value} {lo hi mx:Option Value} {G G':Value->Prop} (g:∀v,G v->G' v) (H:WN4 P t x lo hi mx G):WN4 P t x lo hi mx G':=by
 obtain ⟨n,h1,h2⟩:=WR1 H;exact h2 _ (g _ h1)
theorem WP5 {ρ:Operand->Value} {o:Oper} {h:Wa2} {K K':kQ} (hk:∀v h',K v h'->K' v h') (H:vop P ρ o h K):vop P ρ o h K':=by
 unfold vop at *
 split at H
 case h_1 | h_2 | h_15 | h_16=>exact hk _ _ H
 case h_3=>exact Wm6 (λ_=>Yy5 (hk _ _) (hk _ _)) H
 case h_4=>split at H <;> first | exact hk _ _ H | exact H
 case h_5=>exact WR3 (λ_=>hk _ _) H
 case h_6=>
  refine Wo1 (λ_ x=>?_) H
  split at x
  ·exact WR2 (λ_=>WL9 λ_=>hk _ _) x
  ·exact WR2 (λ_=>WL9 λ_=>hk _ _) x
  ·exact x
 case h_7=>
  split at H
  ·exact Wo1 (λ_=>WL9 λ_=>hk _ _) H
  ·exact H
 case h_8=>
  refine Wt5 (λa=>Wo1 λ_ x=>?_) H
  split at x <;> rename_i ha
  ·rw [if_pos ha];exact W43 _ (λ_=>hk _ _) x
  ·rw [if_neg ha];exact WI7 (λ_=>hk _ _) x
 case h_9=>exact Wt5 (λa=>WR3 λcs=>Wo1 λ_=>Ze7 _ λ_=>hk _ _) H
 case h_10=>unfold Wb8 at *;split at H <;> first | exact H | exact hk _ _ H
 case h_11=>exact YU0 hk H
 case h_12=>
  split at H
  ·exact Wm6 (λ_=>hk _ _) H
  ·exact Wg7 (λ_=>hk _ _) H
  ·exact Wo2 hk H
 case h_13=>
  split at H
  ·exact Wg7 (λ_=>hk _ _) H
  ·exact Wj8 (λ_=>hk _ _) H
  ·exact Wk2 hk H
 case h_14=>split at H <;> first | exact H | exact hk _ _ H
 case h_17=>
  split at H
  ·exact WD7 (λ_=>WD7 λ_=>Wo1 λ_ x=>⟨x.1,x.2.1,x.2.2.1,x.2.2.2.1,hk _ _ x.2.2.2.2⟩) H
  ·exact H
 case h_18=>exact WR2 (λ_=>Yl0 λ_=>hk _ _) H
 case h_19=>
  split at H
  ·split at H
   ·exact Wo1 (λ_=>Wt5 λ_=>hk _ _) H
   ·exact H
  ·exact H
 case h_20=>
  split at H
  ·split at H
   ·refine WL8 (λcs x=>?_) H
    unfold WL0 at *
    split at x
    ·exact Wo1 (λ_=>hk _ _) x
    ·exact x
   ·exact H
  ·exact H
 case h_21=>
  split at H
  ·exact Wn4 (λa l c=>WD7 λn x=>⟨x.1,x.2.1,Wt5 (λ_=>Wo1 λ_=>hk _ _) x.2.2⟩) H
  ·exact Wt5 (λa=>WD7 λn x=>⟨x.1,x.2.1,Wo1 (λ_=>hk _ _) x.2.2⟩) H
  ·exact H
 case h_22=>
  split at H
  ·exact Wj8 (λa=>WD7 λn x=>⟨x.1,x.2.1,hk _ _ x.2.2⟩) H
  ·refine WL8 (λa=>WD7 λn x=>⟨x.1,x.2.1,?_⟩) H
   have y:=x.2.2
   unfold WL0 at *
   split at y
   ·exact Wo1 (λ_=>hk _ _) y
   ·exact y
  ·exact H
 case h_23=>exact Wk2 hk H
 case h_24=>exact Wk2 (λ_ h'=>hk _ _) H
 case h_25=>exact YF7 (λvs x=>by unfold Wc2 at *;split at x <;> first | exact hk _ _ x | exact x) H
 case h_26=>exact W44 hk H
 case h_27=>
  split at H
  ·exact YT9 hk H
  ·exact WM0 hk H
 case h_28=>exact H.elim
 case h_29=>exact Wo2 hk H
def Zv1 (P:Program) (ops:Array Oper) (K:Env->Wa2->Prop):Nat->(Nat->Wa2->Prop)->Array Bool->Env->Wa2->Prop
 | 0,_,listed,ρ,h=>Region.ready .any ops listed = []/\K ρ h
 | n+1,obl,listed,ρ,h=>(Region.ready .any ops listed = []->K ρ h) /\
  ∀i ∈ Region.ready .any ops listed,pstep P ops i ρ h λρ' h'=>(h' = h\/obl i h')/\Zv1 P ops K n obl (listed.setIfInBounds i true) ρ' h'
theorem W07 {i:Nat} {ρ:Env} {h:Wa2} {K K':Env->Wa2->Prop} (hk:∀ρ h,K ρ h->K' ρ h) (H:pstep P ops i ρ h K):pstep P ops i ρ h K':=by
 unfold pstep at *
 split
 ·simp_all
 ·rename_i o ho
  rw [ho] at H
  simp only at H
  split
  ·rename_i hw;rw [if_pos hw] at H;exact WP5 (λv h'=>hk _ _) H
  ·rename_i hw;rw [if_neg hw] at H;exact hk _ _ H
theorem WR6 {K:Env->Wa2->Prop} (n:Nat):∀ {obl obl':Nat->Wa2->Prop} {listed:Array Bool} {ρ:Env} {h:Wa2},(∀i h,obl i h->obl' i h)->Zv1 P ops K n obl listed ρ h->Zv1 P ops K n obl' listed ρ h:=by
 induction n with
 | zero=>intro _ _ _ _ _ _ H;exact H
 | succ n ih=>intro obl obl' listed ρ h hh H;exact ⟨H.1,λi hi=>W07 (λρ h x=>⟨x.1.imp id (hh _ _),ih hh x.2⟩) (H.2 i hi)⟩
def Closed (ops:Array Oper) (listed:Array Bool):Prop:=
 ∀k o,listed.getD k false=true->ops[k]? = some o->∀e ∈ o.after,Region.binds .any e=true->listed.getD e.on false=true
theorem Closed.set {listed:Array Bool} {i:Nat} (hc:Closed ops listed) (hi:i ∈ Region.ready .any ops listed):Closed ops (listed.setIfInBounds i true):=by
 intro k o hk ho e he hb
 by_cases hki:k=i
 ·subst hki
  obtain ⟨_,o',ho',hall⟩:=mem_ready.1 hi
  rw [ho] at ho';cases ho'
  exact getD_set_true (hall e he hb)
 ·rw [getD_set_ne false (Ne.symm hki)] at hk
  exact getD_set_true (hc k o hk ho e he hb)
theorem Yb1 {listed:Array Bool} (hc:Closed ops listed) (n:Nat):∀(k i:Nat),listed.getD k false=true->Wh9 ops n k i=true->listed.getD i false=true:=by
 induction n with
 | zero=>intro k i _ h;simp [Wh9] at h
 | succ n ih=>
  intro k i hk h
  unfold Wh9 at h
  split at h
  ·cases h
  ·rename_i o ho
   obtain ⟨e,he,hb⟩:=Array.any_eq_true'.1 h
   simp only [Bool.and_eq_true,Bool.or_eq_true,beq_iff_eq] at hb
   have h1:=hc k o hk ho e he hb.1
   rcases hb.2 with h2 | h2
   ·rw [<- h2];exact h1
   ·exact ih _ _ h1 h2
theorem Yl1 {listed:Array Bool} (hc:Closed ops listed) {n k i:Nat} (hk:k ∈ Region.ready .any ops listed) (hi:listed.getD i false=false):Wh9 ops n k i=false:=by
 cases hw:Wh9 ops n k i with
 | false=>rfl
 | true=>
  exfalso
  cases n with
  | zero=>simp [Wh9] at hw
  | succ n=>
   unfold Wh9 at hw
   split at hw
   ·cases hw
   ·rename_i o ho
    obtain ⟨_,o',ho',hall⟩:=mem_ready.1 hk
    rw [ho] at ho';cases ho'
    obtain ⟨e,he,hb⟩:=Array.any_eq_true'.1 hw
    simp only [Bool.and_eq_true,Bool.or_eq_true,beq_iff_eq] at hb
    have h1:=hall e he hb.1
    rcases hb.2 with h2 | h2
    ·rw [h2,hi] at h1;cases h1
    ·rw [Yb1 hc n _ _ h1 h2] at hi;cases hi
def Wy3 (L:List (Addr × Value)) (h:Wa2):Prop:=∀x ∈ L,Wa1 h x.1=some x.2
def YieldsL (P:Program) (ops:Array Oper) (L:List (Addr × Value)) (o:Oper) (v:Value) (ρ:Env):Prop:=
 (WL5 ops ρ o.guard=true/\RdAs P (evo ρ) o L v)\/(WL5 ops ρ o.guard=false/\v=Ws2)
theorem YieldsL.pstep {L:List (Addr × Value)} {o:Oper} {v:Value} {ρ:Env} {i:Nat} {h:Wa2} {K:Env->Wa2->Prop} (hy:YieldsL P ops L o v ρ) (hi:ops[i]? = some o) (hL:Wy3 L h)
  (H:K (WI1 ρ o.dst v) h):pstep P ops i ρ h K:=by
 unfold Proofs.YtahpbclnkofhfaaGreat.pstep;rw [hi];simp only
 rcases hy with ⟨hw,hr⟩ | ⟨hw,rfl⟩
 ·rw [if_pos hw];exact hr h hL _ H
 ·rw [if_neg (by simp [hw])];exact H
theorem RdAs.put {L:List (Addr × Value)} {o:Oper} {v:Value} {ρ:Env} {d:Option Nat} {u:Value} (hp0:Wp7 o=true) (hd:∀j,d=some j->j ∉ o.looksAt ops)
 (hr:RdAs P (evo ρ) o L v):RdAs P (evo (WI1 ρ d u)) o L v:=λh hL K hk=>by rw [YT7 (ops:=ops) hp0 hd];exact hr h hL K hk
theorem YieldsL.put {L:List (Addr × Value)} {o:Oper} {v:Value} {ρ:Env} {d:Option Nat} {u:Value} (hp0:Wp7 o=true) (hd:∀j,d=some j->j ∉ o.looksAt ops)
  (hy:YieldsL P ops L o v ρ):YieldsL P ops L o v (WI1 ρ d u):=by
 unfold YieldsL
 rw [Ya7 hd]
 exact hy.imp (λ⟨a,b⟩=>⟨a,b.put hp0 hd⟩) id
theorem YU1 {L:List (Addr × Value)} {oi oj:Oper} {v:Value} {ρ:Env} {j:Nat} {h:Wa2} {K:Env->Wa2->Prop} (hj:ops[j]? = some oj) (hap:oi.apart ops oj=true)
  (hpi:Wp7 oi=true) (hpj:Wp7 oj=true) (hy:YieldsL P ops L oi v ρ) (H:pstep P ops j (WI1 ρ oi.dst v) h K) :
  pstep P ops j ρ h λρ' h'=>YieldsL P ops L oi v ρ'/\K (WI1 ρ' oi.dst v) h':=by
 obtain ⟨h1,h2,h3⟩:=Oper.apart_spec hap
 unfold pstep at *
 rw [hj] at *
 simp only at H ⊢
 rw [Ya7 h1] at H
 split
 ·rename_i hw
  rw [if_pos hw,YT7 (ops:=ops) hpj h1] at H
  refine WP5 (λu h' x=>⟨hy.put hpi h3,?_⟩) H
  rw [Ya8 ρ v u h2] at x;exact x
 ·rename_i hw
  rw [if_neg hw] at H
  refine ⟨hy.put hpi h3,?_⟩
  rw [Ya8 ρ v Ws2 h2] at H;exact H
theorem W08 {K:Env->Wa2->Prop} {L:List (Addr × Value)} {i:Nat} {oi:Oper} {v:Value} (hi:ops[i]? = some oi) (hp0:∀(j:Nat) (o:Oper),ops[j]? = some o->Wp7 o=true) (fuel:Nat) :
  ∀(obl:Nat->Wa2->Prop) (listed:Array Bool) (ρ:Env) (h:Wa2),
   (∀j oj,ops[j]? = some oj->j≠i->listed.getD j true=false->(∀e ∈ oj.after,Region.binds .any e=true->e.on≠i)->oi.apart ops oj=true) ->
   Closed ops listed->i ∈ Region.ready .any ops listed->YieldsL P ops L oi v ρ->Wy3 L h ->
   Zv1 P ops K fuel (λe h'=>((∀m,Wh9 ops m e i=false)->Wy3 L h')/\obl e h') (listed.setIfInBounds i true) (WI1 ρ oi.dst v) h->Zv1 P ops K (fuel+1) obl listed ρ h:=by
 induction fuel with
 | zero=>
  intro obl listed ρ h _ hcl hr hy hL H
  refine ⟨λe=>(by rw [e] at hr;cases hr),λj hj=>?_⟩
  by_cases hji:j=i
  ·subst hji;exact hy.pstep hi hL ⟨.inl rfl,H⟩
  ·have:=ready_mono hj hji
   rw [H.1] at this
   cases this
 | succ fuel ih=>
  intro obl listed ρ h hfree hcl hr hy hL H
  refine ⟨λe=>(by rw [e] at hr;cases hr),λj hj=>?_⟩
  by_cases hji:j=i
  ·subst hji;exact hy.pstep hi hL ⟨.inl rfl,WR6 _ (λ_ _ x=>x.2) H⟩
  ·have h1:=H.2 j (ready_mono hj hji)
   obtain ⟨hjun,oj,hoj,hall⟩:=mem_ready.1 hj
   have hiun:listed.getD i false=false:=by
    have h0:=(mem_ready.1 hr).1
    rcases Nat.lt_or_ge i listed.size with h' | h'
    ·simp [h'] at h0 ⊢;exact h0
    ·simp [Array.getElem?_eq_none h']
   have hnot:∀e ∈ oj.after,Region.binds .any e=true->e.on≠i:=λe he hb heq=>by
    have h1:=hall e he hb
    rw [heq,hiun] at h1;cases h1
   have h2:=YU1 hoj (hfree j oj hoj hji hjun hnot) (hp0 i oi hi) (hp0 j oj hoj) hy h1
   have hfree':∀k ok,ops[k]? = some ok->k≠i->(listed.setIfInBounds j true).getD k true=false ->
     (∀e ∈ ok.after,Region.binds .any e=true->e.on≠i)->oi.apart ops ok=true:=λk ok hk hki hun hno=>by
    refine hfree k ok hk hki ?_ hno
    by_cases hjk:j=k
    ·subst hjk;exact hjun
    ·rw [getD_set_ne true hjk] at hun;exact hun
   refine W07 (λρ' h' x=>?_) h2
   obtain ⟨hy',hx,hany⟩:=x
   have hL':Wy3 L h':=by
    rcases hx with rfl | hx
    ·exact hL
    ·exact hx.1 (λm=>Yl1 hcl hj hiun)
   refine ⟨hx.imp id (λx=>x.2),ih obl (listed.setIfInBounds j true) ρ' h' hfree' (hcl.set hj) (ready_mono hr (Ne.symm hji)) hy' hL' ?_⟩
   rw [Array.setIfInBounds_comm _ _ hji]
   exact hany
end
end
section
section
variable {P:Program} {ops:Array Oper}
theorem Ze9 {h:Wa2} {a:Addr} (n:Nat):∀ {i:Nat} {acc:List Value} {L:List (Addr × Value)} {F:List Value->List (Addr × Value)->Prop},ZM1 h a i n acc L F ->
  ∃cs L',F cs (L.reverse ++ L')/\Wy3 L' h/\∀h2,Wy3 L' h2->∀G:List Value->Prop,G cs->ldN h2 a i n acc G:=by
 induction n with
 | zero=>
  intro i acc L F H
  refine ⟨acc.reverse,[],?_,λx hx=>(by cases hx),λh2 _ G g=>g⟩
  have H2:F acc.reverse L.reverse:=H
  simpa using H2
 | succ n ih=>
  intro i acc L F H
  obtain ⟨v,hv,H⟩:=WQ8 H
  obtain ⟨cs,L',h1,h2,h3⟩:=ih H
  refine ⟨cs,(a.add i,v) :: L',by simpa using h1,?_,?_⟩
  ·intro x hx
   rcases List.mem_cons.1 hx with rfl | hx
   ·exact hv
   ·exact h2 x hx
  ·intro h4 hL G g
   have e:Wa1 h4 (a.add i)=some v:=hL (a.add i,v) (by simp)
   show ldH h4 (a.add i) _
   unfold ldH;rw [e]
   exact h3 h4 (λx hx=>hL x (by simp [hx])) G g
theorem Zf0 {ρ:Operand->Value} {o:Oper} {h:Wa2} {F:Value->List (Addr × Value)->Prop} (hr:Wo0 P o=true) (H:ZM2 P ρ o h F) :
  ∃v L,RdAs P ρ o L v/\Wy3 L h/\F v L:=by
 unfold ZM2 at H
 split at H
 ·rename_i t x hx
  obtain ⟨a,ha,H⟩:=Wh8 H
  split at H
  ·rename_i hth
   split at H
   ·rename_i hagg
    obtain ⟨cs,L',h1,h2,h3⟩:=Ze9 _ H
    refine ⟨_,L',?_,h2,by simpa using h1⟩
    intro h4 hL K hk
    unfold vop;rw [hx];simp only [ha,Wd2,if_pos hth,if_pos hagg]
    exact h3 h4 hL _ hk
   ·rename_i hagg
    obtain ⟨v,hv,H⟩:=WQ8 H
    refine ⟨v,[(a,v)],?_,λx hx=>by simp at hx;subst hx;exact hv,H⟩
    intro h4 hL K hk
    have e:Wa1 h4 a=some v:=hL (a,v) (by simp)
    unfold vop;rw [hx];simp only [ha,Wd2,if_pos hth,if_neg hagg,ldH,e]
    exact hk
  ·exact H.elim
 ·rename_i hn
  obtain ⟨v,h1,h2⟩:=Ze6 (G:=λv=>F v []) hr (λt x e=>hn t x e) H
  exact ⟨v,[],h2,λx hx=>(by cases hx),h1⟩
def Zf1 (ops:Array Oper) (held:ZD1) (e:Nat) (h:Wa2):Prop:=∀x ∈ held,(∀m,Wh9 ops m e x.1=false)->Wy3 x.2 h
theorem YF9 {h:Wa2} {X:Prop} (L:List (Addr × Value)) (H:YT1 h L X):Wy3 L h/\X:=by
 induction L with
 | nil=>exact ⟨λx hx=>(by cases hx),H⟩
 | cons p L ih=>
  obtain ⟨h1,h2⟩:=ih H.2
  refine ⟨λx hx=>?_,h2⟩
  rcases List.mem_cons.1 hx with rfl | hx
  ·exact H.1
  ·exact h1 x hx
theorem YG0 {k j:Nat} {o:Oper} (ho:ops[k]? = some o) (hj:j ∈ WL3 o):∀(m e:Nat),Wh9 ops m e k=true->Wh9 ops (m+1) e j=true:=by
 have edge:Wh9 ops 1 k j=true:=by
  unfold WL3 at hj
  obtain ⟨ed,hed,he⟩:=List.mem_filterMap.1 hj
  unfold Wh9
  rw [ho]
  refine Array.any_eq_true'.2 ⟨ed,by simpa using hed,?_⟩
  cases hb:Region.binds .any ed with
  | false=>rw [hb] at he;cases he
  | true=>rw [hb] at he;cases he;simp
 have up:∀(m e i:Nat),Wh9 ops m e i=true->Wh9 ops (m+1) e i=true:=by
  intro m
  induction m with
  | zero=>intro e i h;simp [Wh9] at h
  | succ m ih=>
   intro e i h
   unfold Wh9 at h ⊢
   split at h
   ·cases h
   ·obtain ⟨ed,hed,hb⟩:=Array.any_eq_true'.1 h
    refine Array.any_eq_true'.2 ⟨ed,hed,?_⟩
    simp only [Bool.and_eq_true,Bool.or_eq_true] at hb ⊢
    exact ⟨hb.1,hb.2.imp id (ih _ _)⟩
 intro m
 induction m with
 | zero=>intro e h;simp [Wh9] at h
 | succ m ih=>
  intro e h
  unfold Wh9 at h ⊢
  split at h
  ·cases h
  ·obtain ⟨ed,hed,hb⟩:=Array.any_eq_true'.1 h
   refine Array.any_eq_true'.2 ⟨ed,hed,?_⟩
   simp only [Bool.and_eq_true,Bool.or_eq_true,beq_iff_eq] at hb ⊢
   refine ⟨hb.1,.inr ?_⟩
   rcases hb.2 with h2 | h2
   ·rw [h2]
    have:∀n,Wh9 ops (n+1) k j=true:=λn=>by
     induction n with
     | zero=>exact edge
     | succ n ih=>exact up _ _ _ ih
    exact this m
   ·exact ih _ h2
theorem W09 {e k j:Nat} {o:Oper} (ho:ops[k]? = some o) (hj:j ∈ WL3 o) (h:k=e\/∃m,Wh9 ops m e k=true):∃m,Wh9 ops m e j=true:=by
 rcases h with rfl | ⟨m,h⟩
 ·unfold WL3 at hj
  obtain ⟨ed,hed,he⟩:=List.mem_filterMap.1 hj
  refine ⟨1,?_⟩
  unfold Wh9
  rw [ho]
  refine Array.any_eq_true'.2 ⟨ed,by simpa using hed,?_⟩
  cases hb:Region.binds .any ed with
  | false=>rw [hb] at he;cases he
  | true=>rw [hb] at he;cases he;simp
 ·exact ⟨m+1,YG0 ho hj m e h⟩
theorem Yb2 {e i:Nat}:∀(n:Nat) (st:List Nat) (vis:Nat),(∀k ∈ st,k=e\/∃m,Wh9 ops m e k=true)->WN5 ops i n st vis=true->∃m,Wh9 ops m e i=true:=by
 intro n
 induction n with
 | zero=>intro st vis _ h;simp [WN5] at h
 | succ n ih=>
  intro st vis hst h
  cases st with
  | nil=>simp [WN5] at h
  | cons k st=>
   unfold WN5 at h
   have hst':∀k ∈ st,k=e\/∃m,Wh9 ops m e k=true:=λx hx=>hst x (by simp [hx])
   split at h
   ·exact ih _ _ hst' h
   ·split at h
    ·exact ih _ _ hst' h
    ·rename_i o ho
     have hk:=hst k (by simp)
     split at h
     ·rename_i ha
      obtain ⟨j,hj,hji⟩:=List.any_eq_true.1 ha
      obtain rfl:=Nat.eq_of_beq_eq_true hji
      exact W09 ho hj hk
     ·refine ih _ _ (λx hx=>?_) h
      rcases List.mem_append.1 hx with hx | hx
      ·exact .inr (W09 ho hx hk)
      ·exact hst' x hx
theorem W10 {e:Nat} {h:Wa2} {X:Prop} (held:ZD1) (H:W05 ops e h held X):Zf1 ops held e h/\X:=by
 induction held with
 | nil=>exact ⟨λx hx=>(by cases hx),H⟩
 | cons p held ih=>
  obtain ⟨i,L⟩:=p
  unfold W05 at H
  split at H
  ·rename_i hw
   obtain ⟨h1,h2⟩:=ih H
   refine ⟨λx hx hx2=>?_,h2⟩
   rcases List.mem_cons.1 hx with rfl | hx
   ·obtain ⟨m,hm⟩:=Yb2 _ _ _ (λk hk=>.inl (by simpa using hk)) hw
    rw [hx2 m] at hm;cases hm
   ·exact h1 x hx hx2
  ·obtain ⟨h0,H⟩:=YF9 _ H
   obtain ⟨h1,h2⟩:=ih H
   refine ⟨λx hx hx2=>?_,h2⟩
   rcases List.mem_cons.1 hx with rfl | hx
   ·exact h0
   ·exact h1 x hx hx2
theorem Yy6 {F:Nat->Prop}:∀(l:List Nat),ZM3 l F->∀i ∈ l,F i
 | [],_,i,hi=>by cases hi
 | [j],H,i,hi=>by simp at hi;subst hi;exact H
 | j :: k :: l,H,i,hi=>by
  rcases List.mem_cons.1 hi with rfl | hi
  ·exact H.1
  ·exact Yy6 (k :: l) H.2 i hi
theorem YG1 (hp0:∀(j:Nat) (o:Oper),ops[j]? = some o->Wp7 o=true) {K:Env->Wa2->Prop} (n:Nat):∀(listed:Array Bool) (held:ZD1) (ρ:Env) (h:Wa2),Closed ops listed ->
  W40 P ops n listed held ρ h K->Zv1 P ops K n (Zf1 ops held) listed ρ h:=by
 induction n with
 | zero=>
  intro listed held ρ h hcl H
  unfold W40 at H
  split at H
  ·exact ⟨‹_›,H⟩
  ·exact H.elim
 | succ n ih=>
  intro listed held ρ h hcl H
  unfold W40 at H
  split at H
  ·rename_i i hi
   split at H
   ·exact H.elim
   ·rename_i o ho
    unfold Yy0 at hi
    have hmem:=List.mem_of_find?_eq_some hi
    have hpr:=List.find?_some hi
    rw [ho] at hpr
    simp only [Bool.and_eq_true] at hpr
    have H:=WL6 H
    have hfr:=Region.free_spec ho hpr.2
    split at H
    ·rename_i hw
     obtain ⟨v,L,h1,h2,h3⟩:=Zf0 hpr.1 H
     refine W08 (L:=L) ho hp0 n (Zf1 ops held) listed ρ h hfr hcl hmem (.inl ⟨hw,h1⟩) h2 ?_
     refine WR6 _ ?_ (ih _ _ _ _ (hcl.set hmem) (Yk8 h3))
     intro e h' hob
     refine ⟨λhwt=>?_,λx hx hx2=>?_⟩
     ·cases L with
      | nil=>exact λx hx=>(by cases hx)
      | cons p L=>exact hob (i,p :: L) (by simp) hwt
     ·cases L with
      | nil=>exact hob x hx hx2
      | cons p L=>exact hob x (by simp [hx]) hx2
    ·rename_i hw
     refine W08 (L:=[]) ho hp0 n (Zf1 ops held) listed ρ h hfr hcl hmem (.inr ⟨by simpa using hw,rfl⟩) (λx hx=>by cases hx) ?_
     refine WR6 _ ?_ (ih _ _ _ _ (hcl.set hmem) H)
     intro e h' hob
     exact ⟨λ_ x hx=>(by cases hx),hob⟩
  ·split at H
   ·rename_i hr
    exact ⟨λ_=>H,λi hi=>by rw [hr] at hi;cases hi⟩
   ·rename_i hne
    refine ⟨λhr=>absurd hr (by simpa using hne),λe he=>?_⟩
    have H:=Yy6 _ H e he
    split at H
    ·exact H.elim
    ·rename_i o ho
     have H:=WL6 H
     unfold pstep;rw [ho];simp only
     split at H
     ·rename_i hw
      rw [if_pos hw]
      refine WP5 (λv h' x=>?_) H
      obtain ⟨h1,h2⟩:=W10 _ (Yk8 x)
      exact ⟨.inr h1,ih _ _ _ _ (hcl.set he) h2⟩
     ·rename_i hw
      rw [if_neg hw]
      obtain ⟨h1,h2⟩:=W10 _ H
      exact ⟨.inl trivial,ih _ _ _ _ (hcl.set he) h2⟩
theorem Yb3 {n:Nat} {r:Option Nat} {Q:Exit->Act->World->Prop} (ho:Ya6 n ops=true) {ws:List Nat} (hws:∀(i:Nat) (o:Oper),ops[i]? = some o->∀d,o.dst=some d->d ∈ ws) {K:Env->Wa2->Prop} (m:Nat):∀(obl:Nat->Wa2->Prop) (listed:Array Bool) (ρ:Env) (h:Wa2) (a:Act) (w:World),
  Zv1 P ops K m obl listed ρ h->Rl n a.tmps ρ->w.heap=h->(∀ρ' a' w',K ρ' w'.heap->Rl n a'.tmps ρ'->SmT ws a.tmps a'.tmps->a'.defers=a.defers->Kw w w'->Q .normal a' w') ->
  wpAnyIn (FW r) 0 P .any ops Q m listed a w:=by
 induction m with
 | zero=>intro obl listed ρ h a w H hR hw hQ;subst hw;exact ⟨H.1,hQ _ _ _ H.2 hR (SmT.refl _ _) rfl (Kw.refl _)⟩
 | succ m ih=>
  intro obl listed ρ h a w H hR hw hQ
  refine ⟨λhr=>by subst hw;exact hQ _ _ _ (H.1 hr) hR (SmT.refl _ _) rfl (Kw.refl _),λi hi=>?_⟩
  refine Ya5 (n:=n) (H.2 i hi) hR hw (λo' ho'=>W42 ho i o' ho') (hws i) ?_
  intro ρ' a' w' x hR' hs hd hkd
  exact ih _ _ ρ' _ a' w' x.2 hR' rfl λρ'' a'' w'' hK hR'' hs' hd' hkd'=>hQ ρ'' a'' w'' hK hR'' (hs.trans hs') (hd'.trans hd) (hkd.trans hkd')
theorem Yl2 {n:Nat} (ho:Ya6 n ops=true) (j:Nat) (o:Oper) (hj:ops[j]? = some o):Wp7 o=true:=by
 have:=W42 ho j o hj
 unfold YF3 at this;simp at this;exact this.1
theorem YG2 {n:Nat} {r:Option Nat} {id:Nat} {Q:Exit->Act->World->Prop} {ρ:Env} {h:Wa2} {a:Act} {w:World} (hm:P.follows .mixedOrders=true) (ho:Ya6 n ops=true) {ws:List Nat} (hws:∀(i:Nat) (o:Oper),ops[i]? = some o->∀d,o.dst=some d->d ∈ ws) {K:Env->Wa2->Prop}
  (H:W40 P ops ops.size (Array.replicate ops.size false) [] ρ h K) (hR:Rl n a.tmps ρ) (hw:w.heap=h)
  (hQ:∀ρ' a' w',K ρ' w'.heap->Rl n a'.tmps ρ'->SmT ws a.tmps a'.tmps->a'.defers=a.defers->Kw w w'->Q .normal a' w'):(Code.region id ops true).wpIn (FW r) 0 P Q a w:=by
 refine wpIn_region_any hm ?_
 have hcl:Closed ops (Array.replicate ops.size false):=by
  intro k o hk ho e he hb
  rw [getD_replicate_false'] at hk;cases hk
 exact Yb3 ho hws _ _ _ ρ h a _ (YG1 (Yl2 ho) _ _ _ _ _ hcl H) hR hw hQ
where
 getD_replicate_false' (m j:Nat):(Array.replicate m false).getD j false=false:=by
  simp [Array.getD_eq_getD_getElem?,Array.getElem?_replicate];split <;> rfl
end
end
end Go.Proofs.YtahpbclnkofhfaaGreat
