/- Part 1 of what the proofs of this seat rest on: see the last text of the claim. -/
import Derived.RangeFuncRecord
import Derived.RangeFuncIn
import Derived.OrdersIn
import Derived.KernelRfl
set_option linter.unusedSimpArgs false
set_option linter.unusedVariables false
set_option linter.ambiguousOpen false
set_option maxRecDepth 20000
namespace Go.Proofs.YtahpbclnkofhfaaGreat
section
abbrev Wa1:=Array Obj
abbrev YD9 : Array Value := #[.int .i64 0,.int .i64 0,.int .i64 0,.int .i64 0,.int .i64 0,.int .i64 0,.int .i64 0]
abbrev Wp0 : Array Value := #[.int .i64 0,.int .i64 0,.int .i64 0,.int .i64 0,.int .i64 0,.int .i64 0,.int .i64 0,.int .i64 0,.int .i64 0,.int .i64 0,.int .i64 0,.int .i64 0,.int .i64 0,.int .i64 0,.int .i64 0]
abbrev kQ : Type := Value → Wa1 → Prop
abbrev aQ (b : Nat) : Addr := ⟨b, 0, none⟩
abbrev iQ (n : Int) : Value := .int .i64 n
abbrev uQ (n : Int) : Value := .int .u64 n
abbrev Env:=Nat->Value
def Wa3 (h:Wa1) (a:Addr):Option Value:=
 match h[a.block]? with
 | some (.cells c _ _)=>if a.spot.isSome then none else c[a.off]?
 | _=>none
def Wp1 (h:Wa1) (r:Nat):Option (TypeId × Nat):=
 match h[r]? with
 | some (.cells c elem _)=>some (elem,c.size)
 | _=>none
def Wq3 (h:Wa1) (a:Addr):Bool:=
 match h[a.block]? with
 | some (.cells _ _ (lo,hi))=>lo<=a.off && a.off < hi
 | _=>false
def freezeAt (h:Wa1) (a:Addr) (n:Nat):Wa1:=
 if n=0 then h else
 h.modify a.block fun
  | .cells c elem (lo,hi)=>.cells c elem (if lo == hi then (a.off,a.off+n) else (min lo a.off,max hi (a.off+n)))
  | o=>o
def YX7 (a:Addr) (v:Value):Obj->Obj
 | .cells c elem frozen=>.cells (if a.spot.isSome then c else c.setIfInBounds a.off v) elem frozen
 | o=>o
def setC (h:Wa1) (a:Addr) (v:Value):Wa1:=h.modify a.block (YX7 a v)
def Kd (h h':Wa1):Prop:=h.size<=h'.size/\∀D:Nat,h[D]? = some (.deferred (some []))->h'[D]? = some (.deferred (some []))
def Wh0 (v:Value) (X:Prop):Prop:=match v with | .agg _ | .tuple _=>False | _=>X
def hp {α:Type} (P:Program):Sem α->(α->Wa1->Prop)->Wa1->Prop
 | .pure a,K,h=>K a h
 | .load _ a k,K,h=>match Wa3 h a with | some v=>hp P (k v) K h | none=>False
 | .store _ a v k,K,h=>Wh0 v ((∃u,Wa3 h a=some u)/\Wq3 h a=false/\hp P k K (setC h a v))
 | .new o k,K,h=>hp P (k h.size) K (h.push o)
 | .shape r k,K,h=>hp P (k (Wp1 h r)) K h
 | .freeze a n k,K,h=>hp P k K (freezeAt h a n)
 | .frozen a k,K,h=>hp P (k (Wq3 h a)) K h
 | .getObj r k,K,h=>match h[r]? with
  | some (.cells ..)=>False
  | some o=>hp P (k o) K h
  | none=>False
 | .setObj r o k,K,h=>match h[r]? with
  | some (.map ..) | some (.mapIter ..) | some (.stringIter ..)=>hp P k K (h.setIfInBounds r o)
  | _=>False
 | .choose q k,K,h=>∀t,hp P (k (if q.forced then 0 else q.cut t)) K h
 | .sys ..,_,_=>False
 | .program k,K,h=>hp P (k P) K h
 | .mark _ k,K,h=>hp P k K h
 | .halt _,_,_=>False
def Kw (w w':World):Prop:=Kd w.heap w'.heap/\w'.os=w.os/\w'.output=w.output
def onH (w0:World) (K:kQ):Ending->World->Prop
 | .returned v,w=>K v w.heap/\Kw w0 w
 | _,_=>False
def YO4 (P:Program) (f:FuncId) (args:Array Value) (h:Wa1) (K:kQ):Prop:=
 ∀w:World,w.heap=h->CallsIn Fence.wide 0 P f args w (onH w K)
def YO5 (P:Program) (f:FuncId):Prop:=∀args (w:World),(callFunc f args).run P w=.ok (.enter f args) w
def Wa4 (P:Program) (f:FuncId) (args:Array Value) (h:Wa1) (K:kQ):Prop:=
 YO5 P f/\YO4 P f args h K
def YX8 (P:Program) (l:Nat) (args:Array Value) (h:Wa1) (K:kQ):Prop:=
 ∀w:World,w.heap=h->∃fn tmps assign body,(Instr.yield l args).run P w=.ok (.round l fn tmps assign body) w /\
  RoundIn Fence.wide 0 P l fn tmps assign body w (onH w K)
def YX9 (P:Program) (f:FuncId) (args:Array Value) (h:Wa1) (K:kQ):Prop:=
 hp P (callFunc f args) (λnx h'=>match nx with | .value v=>K v h' | _=>False) h
def Wl3 (P:Program) (v:Value) (args:Array Value) (h:Wa1) (K:kQ):Prop:=
 match v with
 | .func (.func f) first captured=>Wa4 P f (first ++ args ++ captured) h K
 | .func (.yield l) first _=>YX8 P l (first ++ args) h K
 | _=>False
def Yp1 (P:Program) (v:Value) (args:Array Value) (h:Wa1) (K:kQ):Prop:=
 match v with
 | .func (.func f) first captured=>YX9 P f (first ++ args ++ captured) h K
 | _=>False
def Za5 (P:Program) (f:Operand):Bool:=
 match f with
 | .func g=>(match P.funcs[g]? with | some fn=>fn.body.isNone | none=>false)
 | _=>false
def Wd1 (v:Value) (K:Addr->Prop):Prop:=match v with | .pointer (some a)=>K a | _=>False
def Wc8 (v:Value) (K:Option Addr->Prop):Prop:=match v with | .pointer a=>K a | _=>False
def asInt (k:IntKind) (v:Value) (K:Int->Prop):Prop:=match v with | .int k' n=>if k' = k then K n else False | _=>False
def asI (v:Value) (K:Int->Prop):Prop:=match v with | .int _ n=>K n | _=>False
def asBool (v:Value) (K:Bool->Prop):Prop:=match v with | .bool b=>K b | _=>False
def Wd9 (v:Value) (K:ByteArray->Prop):Prop:=match v with | .string s=>K s | _=>False
def Wb3 (v:Value) (K:Option Addr->Nat->Nat->Prop):Prop:=match v with | .slice a l c=>K a l c | _=>False
def asAgg (v:Value) (K:Array Value->Prop):Prop:=match v with | .agg cs=>K cs | _=>False
def Wg5 (v:Value) (K:Array Value->Prop):Prop:=match v with | .tuple cs=>K cs | _=>False
def WU4 (v:Value) (K:Option Nat->Prop):Prop:=match v with | .map r=>K r | _=>False
def Wh7 (v:Value) (K:Bool->Prop):Prop:=match v with | .nilFunc=>K true | .func ..=>K false | _=>False
def Wc5 (v:Value) (X:Prop):Prop:=match v with | .pointer none | .nilIface | .nilFunc=>False | .func (.method _) _ _=>False | _=>X
def ifB (b:Bool) (X Y:Prop):Prop:=match b with | true=>X | false=>Y
def ldH (h:Wa1) (a:Addr) (K:Value->Prop):Prop:=match Wa3 h a with | some v=>K v | none=>False
def ldN (h:Wa1) (a:Addr) (i:Nat):Nat->List Value->(List Value->Prop)->Prop
 | 0,acc,K=>K acc.reverse
 | n+1,acc,K=>ldH h (a.add i) λv=>ldN h a (i+1) n (v :: acc) K
def stH (h:Wa1) (a:Addr) (v:Value) (K:Wa1->Prop):Prop:=Wh0 v ((∃u,Wa3 h a=some u)/\Wq3 h a=false/\K (setC h a v))
def stN (h:Wa1) (a:Addr) (i:Nat):List Value->(Wa1->Prop)->Prop
 | [],K=>K h
 | v :: vs,K=>stH h (a.add i) v λh'=>stN h' a (i+1) vs K
def und (P:Program) (t:TypeId):TypeDesc:=(P.underlying t).getD .invalid
def siz (P:Program) (t:TypeId):Nat:=match P.info? t with | some i=>i.size | none=>0
def byt (P:Program) (t:TypeId):Nat:=match P.info? t with | some i=>i.bytes | none=>0
def zer (P:Program) (t:TypeId):Option Value:=(P.info? t).bind (·.zero)
def We9 (P:Program) (t:TypeId):Bool:=(P.info? t).isSome && (P.underlying t).isSome
def YE0 (P:Program) (t:TypeId):Bool:=match und P t with | .struct _ | .array _ _=>true | _=>false
def Wn8 (P:Program) (t:TypeId):List Value:=match zer P t with | some (.agg cs)=>cs.toList | some v=>[v] | none=>[]
def Wc2 (vs:Array Value) (i:Nat) (K:Value->Prop):Prop:=match vs[i]? with | some v=>K v | none=>False
def Wg6 (cs:Array Value) (n:Nat) (X:Prop):Prop:=match Nat.beq cs.size n with | true=>X | false=>False
def Wr9 (cs:Array Value):Nat->Nat->List Value->(List Value->Prop)->Prop
 | 0,_,acc,F=>F acc.reverse
 | n+1,i,acc,F=>Wc2 cs i λv=>Wr9 cs n (i+1) (v :: acc) F
def YR1 (n:Nat) (v:Value) (K:Value->Prop):Prop:=match Nat.ble n 64 with
 | true=>asAgg v λcs=>Wg6 cs n (Wr9 cs n 0 [] λus=>K (.agg us.toArray))
 | false=>K v
def WE9 (P:Program) (t:TypeId) (v:Value) (K:Value->Prop):Prop:=
 match und P t with
 | .bool=>asBool v λb=>K (.bool b)
 | .int k=>asInt k v λn=>K (.int k n)
 | .string=>Wd9 v λs=>K (.string s)
 | .slice _=>Wb3 v λa l c=>K (.slice a l c)
 | .pointer _=>Wc8 v λa=>K (.pointer a)
 | .map _ _=>WU4 v λr=>K (.map r)
 | .struct _=>YR1 (siz P t) v K
 | .array _ _=>YR1 (siz P t) v K
 | _=>K v
def YR2 (n:Nat) (v:Value) (K:List Value->Prop):Prop:=match Nat.ble n 64 with
 | true=>asAgg v λcs=>Wg6 cs n (Wr9 cs n 0 [] K)
 | false=>asAgg v λcs=>K cs.toList
def Ws5 (P:Program) (t:TypeId) (v:Value) (K:List Value->Prop):Prop:=
 if YE0 P t then YR2 (siz P t) v K else Wh0 v (K [v])
def W18 (f:Operand->Value) (a:Array Operand):Array Value:=(a.toList.map f).toArray
def Wn3 (cs:List Value) (off:Nat):List Value->List Value
 | []=>cs
 | v :: vs=>Wn3 (cs.set off v) (off+1) vs
def WD2 (P:Program) (place:Nat->Option (Nat × TypeId)):List Value->List (Nat × Value)->(List Value->Prop)->Prop
 | cells,[],K=>K cells
 | cells,(i,v) :: rest,K=>
  match place i with
  | none=>False
  | some (off,t)=>Ws5 P t v λcs=>
   if cs.length=siz P t/\off+siz P t<=cells.length then WD2 P place (Wn3 cells off cs) rest K else False
def Yg3 (P:Program) (t:TypeId) (cs:Array Value) (off:Nat):Option Value:=
 if YE0 P t then some (.agg (cs.extract off (off+siz P t))) else cs[off]?
def Wz8 (P:Program) (t:TypeId) (cs:Array Value) (off:Nat) (K:Value->Prop):Prop:=match Yg3 P t cs off with | some v=>K v | none=>False
def WM8 (s:ByteArray) (i:Nat):Int:=((s[i]?).map (λb=>(b.toNat:Int))).getD 0
def Wx8 (P:Program) (t:TypeId) (cs:Array Value) (off:Nat):Option Value:=if We9 P t then Yg3 P t cs off else none
def YO6:Option Bool->Option Bool->Option Bool
 | some b,some r=>some (b && r)
 | _,_=>none
def eqv (P:Program):(d:Nat)->TypeId->Value->Value->Option Bool
 | 0,_,_,_=>none
 | d+1,t,x,y=>
  match und P t,x,y with
  | .bool,.bool a,.bool b=>some (a == b)
  | .int _,.int k a,.int k' b=>if k=k' then some (a == b) else none
  | .string,.string a,.string b=>some (a == b)
  | .struct fields,.agg xs,.agg ys=>
   if P.stoodInHeld t then none else
   fields.toList.foldr (λf acc=>
    if f.name = "_" then none else
    match Wx8 P f.type xs f.offset,Wx8 P f.type ys f.offset with
    | some x,some y=>YO6 (eqv P d f.type x y) acc
    | _,_=>none) (some true)
  | .array len elem,.agg xs,.agg ys=>
   if We9 P elem then
   (List.range' 0 len).foldr (λi acc=>
    match Wx8 P elem xs (i*siz P elem),Wx8 P elem ys (i*siz P elem) with
    | some x,some y=>YO6 (eqv P d elem x y) acc
    | _,_=>none) (some true) else none
  | _,_,_=>none
def WQ0 (P:Program) (t:TypeId) (x y:Value) (K:Bool->Prop):Prop:=
 if P.eqGuardType P.depth t then False else
 asAgg x λ_=>
 match eqv P 10000 t x y with | some b=>K b | none=>False
def Wn2:Value:=.tuple #[]
def nxt (P:Program) (K:kQ):Next->Wa1->Prop
 | .value v,h=>K v h
 | .skip,h=>K Wn2 h
 | .enter f args,h=>YO4 P f args h K
 | _,_=>False
def opH (P:Program) (ρ:Operand->Value) (o:Oper) (h:Wa1) (K:kQ):Prop:=hp P (execOp ρ o) (nxt P K) h
def YD3 (P:Program) (src dst:TypeId) (v:Value) (h:Wa1) (K:kQ):Prop:=hp P (convert src dst v) K h
def YO7 (P:Program) (op:BinOp) (t:TypeId) (a b:Option Addr) (h:Wa1) (K:kQ):Prop:=hp P (binOp op t (.pointer a) (.pointer b)) K h
def Y56 (P:Program) (argTypes:Array TypeId) (t:TypeId) (args:Array Value) (h:Wa1) (K:kQ):Prop:=hp P (Builtin.unsafeSliceData_ argTypes t args) K h
def Y44 (P:Program) (argTypes:Array TypeId) (t:TypeId) (args:Array Value) (h:Wa1) (K:kQ):Prop:=hp P (Builtin.clear_ argTypes t args) K h
def Y57 (P:Program) (argTypes:Array TypeId) (t:TypeId) (args:Array Value) (h:Wa1) (K:kQ):Prop:=hp P (Builtin.unsafeString_ argTypes t args) K h
def Y45:Operand->Bool | .const (.pointer none)=>true | _=>false
def Y46:Operand->Bool | .const (.slice none _ _)=>true | _=>false
def Y58:Operand->Bool | .const (.map none)=>true | _=>false
def Y47:Operand->Bool | .const .nilFunc=>true | _=>false
def WU5 (k:IntKind) (op:BinOp) (a b:Int) (K:Value->Prop):Prop:=
 match op with
 | .add=>K (.int k (k.wrap (a+b)))
 | .sub=>K (.int k (k.wrap (a - b)))
 | .mul=>K (.int k (k.wrap (a*b)))
 | .quo=>b≠0/\K (.int k (k.wrap (a.tdiv b)))
 | .rem=>b≠0/\K (.int k (a.tmod b))
 | .and=>K (.int k (k.wrap ((BitVec.ofInt k.bits a) &&& (BitVec.ofInt k.bits b)).toNat))
 | .or=>K (.int k (k.wrap ((BitVec.ofInt k.bits a) ||| (BitVec.ofInt k.bits b)).toNat))
 | .xor=>K (.int k (k.wrap ((BitVec.ofInt k.bits a) ^^^ (BitVec.ofInt k.bits b)).toNat))
 | .andNot=>K (.int k (k.wrap ((BitVec.ofInt k.bits a) &&& ~~~(BitVec.ofInt k.bits b)).toNat))
 | .eql=>K (.bool (a == b))
 | .neq=>K (.bool (a != b))
 | .lss=>K (.bool (decide (a < b)))
 | .leq=>K (.bool (decide (a<=b)))
 | .gtr=>K (.bool (decide (a > b)))
 | .geq=>K (.bool (decide (a >= b)))
 | _=>False
def YO8 (k:IntKind) (op:BinOp) (a b:Int) (K:Value->Prop):Prop:=
 match op with
 | .shl=>0<=b/\K (.int k (k.wrap (a*2 ^ (min b.toNat k.bits))))
 | .shr=>0<=b/\K (.int k (a.fdiv (2 ^ (min b.toNat k.bits))))
 | _=>False
def Wn9 (P:Program) (t:TypeId):Option IntKind:=match und P t with | .int k=>some k | _=>none
def Yp2 (P:Program) (op:BinOp) (xt yt:TypeId) (x y:Operand) (ρ:Operand->Value) (o:Oper) (h:Wa1) (K:kQ):Prop:=
 match und P xt with
 | .int k=>(match op with
  | .shl | .shr=>(match Wn9 P yt with
   | some k'=>asInt k (ρ x) λa=>asInt k' (ρ y) λb=>YO8 k op a b λv=>K v h
   | none=>False)
  | _=>asInt k (ρ x) λa=>asInt k (ρ y) λb=>WU5 k op a b λv=>K v h)
 | .bool=>(match op with
  | .eql=>asBool (ρ x) λa=>asBool (ρ y) λb=>K (.bool (a == b)) h
  | .neq=>asBool (ρ x) λa=>asBool (ρ y) λb=>K (.bool (!(a == b))) h
  | _=>False)
 | .string=>(match op with
  | .eql=>Wd9 (ρ x) λa=>Wd9 (ρ y) λb=>K (.bool (a.toList == b.toList)) h
  | .neq=>Wd9 (ρ x) λa=>Wd9 (ρ y) λb=>K (.bool (!(a.toList == b.toList))) h
  | .add=>Wd9 (ρ x) λa=>Wd9 (ρ y) λb=>((a.size+b.size:Nat):Int)<=9223372036854775807/\K (.string (a ++ b)) h
  | _=>opH P ρ o h K)
 | .pointer _=>(match op,Y45 y with
  | .eql,true=>Wc8 (ρ x) λa=>K (.bool a.isNone) h
  | .neq,true=>Wc8 (ρ x) λa=>K (.bool (!a.isNone)) h
  | .eql,false=>Wc8 (ρ x) λa=>Wc8 (ρ y) λb=>YO7 P .eql xt a b h K
  | .neq,false=>Wc8 (ρ x) λa=>Wc8 (ρ y) λb=>YO7 P .neq xt a b h K
  | _,_=>opH P ρ o h K)
 | .slice _=>(match op,Y46 y with
  | .eql,true=>Wb3 (ρ x) λa _ _=>K (.bool a.isNone) h
  | .neq,true=>Wb3 (ρ x) λa _ _=>K (.bool (!a.isNone)) h
  | _,_=>opH P ρ o h K)
 | .map _ _=>(match op,Y58 y with
  | .eql,true=>WU4 (ρ x) λa=>K (.bool a.isNone) h
  | .neq,true=>WU4 (ρ x) λa=>K (.bool (!a.isNone)) h
  | _,_=>opH P ρ o h K)
 | .func _ _ _=>(match op,Y47 y with
  | .eql,true=>Wh7 (ρ x) λb=>K (.bool b) h
  | .neq,true=>Wh7 (ρ x) λb=>K (.bool (!b)) h
  | _,_=>opH P ρ o h K)
 | .struct _ | .array _ _=>(match op with
  | .eql=>WQ0 P xt (ρ x) (ρ y) λb=>K (.bool b) h
  | .neq=>WQ0 P xt (ρ x) (ρ y) λb=>K (.bool (!b)) h
  | _=>False)
 | _=>opH P ρ o h K
def Wo0 (k:Option IntKind) (v:Option Value) (dflt most:Nat) (K:Nat->Prop):Prop:=
 match v with
 | none=>K dflt
 | some v=>match k with
  | none=>asI v λi=>0<=i/\i<=most/\K i.toNat
  | some k=>asInt k v λi=>0<=i/\i<=most/\K i.toNat
def WM9 (a:Option Addr) (l m n:Nat):Option Addr:=if m=l then a else a.map (·.add (l*n))
def Yg4 (a:Addr) (l m n:Nat):Addr:=if m=l then a else a.add (l*n)
def WC1 (P:Program) (t:TypeId) (x:Value) (lo hi mx:Option Value) (K:Value->Prop):Prop:=
 match und P t with
 | .string=>if mx.isSome then False else Wd9 x λs=>
  Wo0 none hi s.size s.size λh=>Wo0 none lo 0 h λl=>K (.string (s.extract l h))
 | .slice e=>if We9 P e then Wb3 x λa len cap=>
  Wo0 none mx cap cap λm=>Wo0 none hi len m λh=>Wo0 none lo 0 h λl=>
   K (.slice (WM9 a l m (siz P e)) (h - l) (m - l)) else False
 | .array n e=>if We9 P e then Wd1 x λa=>
  Wo0 none mx n n λm=>Wo0 none hi n m λh=>Wo0 none lo 0 h λl=>
   K (.slice (some (Yg4 a l m (siz P e))) (h - l) (m - l)) else False
 | _=>False
def Wm5 (P:Program) (elem:TypeId) (l c:Int) (h:Wa1) (K:kQ):Prop:=
 0<=l/\l<=c/\c<=9223372036854775807/\byt P elem*c<=2 ^ 48 /\
  K (.slice (some (aQ h.size)) l.toNat c.toNat) (h.push (.cells ((List.replicate c.toNat (Wn8 P elem)).flatten.toArray) elem))
def Wp5 (P:Program) (argTypes:Array TypeId) (t:TypeId) (args:Array Value) (h:Wa1) (K:kQ):Prop:=
 hp P (Builtin.append_ argTypes t args) K h
def WQ1 (P:Program) (argTypes:Array TypeId) (t:TypeId) (args:Array Value) (h:Wa1) (K:kQ):Prop:=
 hp P (Builtin.copy_ argTypes t args) K h
def YR3 (h:Wa1) (r:Option Nat) (K:Array MapEntry->Nat->Prop):Prop:=
 match r with
 | none=>K #[] 0
 | some r=>match h[r]? with | some (.map es c)=>K es c | _=>False
def Y59 (P:Program) (t:TypeId) (x i:Value) (ok:Bool) (h:Wa1) (K:kQ):Prop:=hp P (Instr.lookup t x i ok) K h
def Y60 (P:Program) (t:TypeId) (x i v:Value) (h:Wa1) (K:Wa1->Prop):Prop:=hp P (Instr.mapUpdate t x i v) (λ_=>K) h
def Y61 (P:Program) (argTypes:Array TypeId) (t:TypeId) (args:Array Value) (h:Wa1) (K:kQ):Prop:=
 hp P (Builtin.delete_ argTypes t args) K h
def Wg1 (f:Int->Int->Int) (P:Program) (t:TypeId):List Value->(Int->Prop)->Prop
 | [],_=>False
 | [x],K=>(match Wn9 P t with | some k=>asInt k x K | none=>False)
 | x :: xs,K=>(match Wn9 P t with | some k=>asInt k x λa=>go f k a xs K | none=>False)
where
 go (f:Int->Int->Int) (k:IntKind) (a:Int):List Value->(Int->Prop)->Prop
  | [],K=>K a
  | y :: ys,K=>asInt k y λb=>go f k (f a b) ys K
def WL6 (x y:Int):Int:=if y > x then y else x
def WL7 (x y:Int):Int:=if y < x then y else x
def Wk2 (P:Program) (b:Builtin) (argTypes:Array TypeId) (t:TypeId) (args:List Value) (ρ:Operand->Value) (o:Oper) (h:Wa1) (K:kQ):Prop:=
 match b,args with
 | .len,[x]=>(match argTypes[0]? with
  | some t0=>(match und P t0 with
   | .slice _=>Wb3 x λ_ n _=>K (.int .i64 n) h
   | .string=>Wd9 x λs=>K (.int .i64 s.size) h
   | .map _ _=>WU4 x λr=>YR3 h r λes _=>K (.int .i64 es.size) h
   | .array n _=>K (.int .i64 n) h
   | _=>False)
  | none=>False)
 | .cap,[x]=>(match argTypes[0]? with
  | some t0=>(match und P t0 with
   | .slice _=>Wb3 x λ_ _ n=>K (.int .i64 n) h
   | _=>False)
  | none=>False)
 | .append,args=>Wp5 P argTypes t args.toArray h K
 | .copy,args=>WQ1 P argTypes t args.toArray h K
 | .delete,args=>Y61 P argTypes t args.toArray h K
 | .unsafeSliceData,args=>Y56 P argTypes t args.toArray h K
 | .unsafeString,args=>Y57 P argTypes t args.toArray h K
 | .clear,args=>Y44 P argTypes t args.toArray h K
 | .max,args=>(match Wn9 P t with | some k=>Wg1 WL6 P t args λn=>K (.int k n) h | none=>opH P ρ o h K)
 | .min,args=>(match Wn9 P t with | some k=>Wg1 WL7 P t args λn=>K (.int k n) h | none=>opH P ρ o h K)
 | _,_=>opH P ρ o h K
def vop (P:Program) (ρ:Operand->Value) (o:Oper) (h:Wa1) (K:kQ):Prop:=
 match o.op with
 | .move x | .assign x=>K (ρ x) h
 | .pick c a b=>asBool (ρ c) λc=>ifB c (K (ρ a) h) (K (ρ b) h)
 | .alloc t=>(match zer P t with
  | some z=>K (.pointer (some ⟨h.size,0,none⟩)) (h.push (.cells z.cells t))
  | none=>False)
 | .box t x=>Ws5 P t (ρ x) λcs=>K (.pointer (some ⟨h.size,0,none⟩)) (h.push (.cells cs.toArray t))
 | .build t parts=>if (zer P t).isSome then (match und P t with
  | .struct fields=>if fields.all (λf=>We9 P f.type)=false then False else WD2 P (λi=>(fields[i]?).map λf=>(f.offset,f.type)) (Wn8 P t) (parts.toList.map λp=>(p.1,ρ p.2)) λcs=>K (.agg cs.toArray) h
  | .array _ elem=>if We9 P elem=false then False else WD2 P (λi=>some (i*siz P elem,elem)) (Wn8 P t) (parts.toList.map λp=>(p.1,ρ p.2)) λcs=>K (.agg cs.toArray) h
  | _=>False) else False
 | .buildSlice t len parts=>(match und P t with
  | .slice elem=>if We9 P elem/\len*siz P elem<=16777216/\(zer P elem).isSome/\(Wn8 P elem).length=siz P elem/\0 < siz P elem then
    WD2 P (λi=>some (i*siz P elem,elem)) (List.replicate len (Wn8 P elem)).flatten (parts.toList.map λp=>(p.1,ρ p.2))
     λcs=>K (.slice (some (aQ h.size)) len len) (h.push (.cells cs.toArray elem)) else False
  | _=>False)
 | .load t x=>Wd1 (ρ x) λa=>if We9 P t then (if YE0 P t then ldN h a 0 (siz P t) [] (λcs=>K (.agg cs.toArray) h) else ldH h a λv=>K v h) else False
 | .store t x y=>Wd1 (ρ x) λa=>Ws5 P t (ρ y) λcs=>if We9 P t/\cs.length=siz P t then stN h a 0 cs λh'=>K Wn2 h' else False
 | .nilCheck x=>Wc5 (ρ x) (K (ρ x) h)
 | .binOp op xt x y yt=>Yp2 P op xt yt x y ρ o h K
 | .unOp op xt x=>(match op,und P xt with
  | .not,.bool=>asBool (ρ x) λb=>K (.bool (!b)) h
  | .neg,.int k=>asInt k (ρ x) λn=>K (.int k (k.wrap (0 - n))) h
  | _,_=>opH P ρ o h K)
 | .convert src dst x=>(match und P src,und P dst with
  | .int ks,.int k=>asInt ks (ρ x) λn=>K (.int k (k.wrap n)) h
  | .string,.string=>Wd9 (ρ x) λs=>K (.string s) h
  | _,_=>YD3 P src dst (ρ x) h K)
 | .makeInterface t x=>(match und P t with | .interface _=>False | .invalid=>False | _=>K (.iface t (ρ x)) h)
 | .makeFunc fn first captured=>K (.func fn (W18 ρ first) (W18 ρ captured)) h
 | .makeMap _ none=>K (.map (some h.size)) (h.push (.map #[] 0))
 | .makeSlice t l c=>(match und P t with
  | .slice elem=>asI (ρ l) λl=>asI (ρ c) λc=>if We9 P elem/\(zer P elem).isSome/\(Wn8 P elem).length=siz P elem/\0 < siz P elem then Wm5 P elem l c h K else False
  | _=>False)
 | .slice t x lo hi mx=>if mx.isSome && hi.isNone then False else WC1 P t (ρ x) (lo.map ρ) (hi.map ρ) (mx.map ρ) λv=>K v h
 | .fieldAddr s x f=>(match und P s with
  | .struct fields=>(match fields[f]? with
   | some fd=>if We9 P fd.type/\siz P fd.type≠0 then Wd1 (ρ x) λa=>K (.pointer (some (a.add fd.offset))) h else False
   | none=>False)
  | _=>False)
 | .field t x f=>(match und P t with
  | .struct fields=>(match fields[f]? with
   | some fd=>asAgg (ρ x) λcs=>Wz8 P fd.type cs fd.offset λv=>if We9 P fd.type then K v h else False
   | none=>False)
  | _=>False)
 | .indexAddr t x i=>(match und P t with
  | .slice elem=>Wb3 (ρ x) λa len _=>asI (ρ i) λi=>0<=i/\i < len/\Wd1 (.pointer a) λa=>if We9 P elem then K (.pointer (some (a.add (i.toNat*siz P elem)))) h else False
  | .array len elem=>Wd1 (ρ x) λa=>asI (ρ i) λi=>0<=i/\i < len/\(if We9 P elem then K (.pointer (some (a.add (i.toNat*siz P elem)))) h else False)
  | _=>False)
 | .index t x i=>(match und P t with
  | .string=>Wd9 (ρ x) λs=>asI (ρ i) λi=>0<=i/\i < s.size/\K (.int .u8 (WM8 s i.toNat)) h
  | .array len elem=>asAgg (ρ x) λcs=>asI (ρ i) λi=>0<=i/\i < len/\Wz8 P elem cs (i.toNat*siz P elem) λv=>if We9 P elem then K v h else False
  | _=>False)
 | .lookup t x i ok=>Y59 P t (ρ x) (ρ i) ok h K
 | .mapUpdate t m k x=>Y60 P t (ρ m) (ρ k) (ρ x) h λh'=>K Wn2 h'
 | .extract x i=>Wg5 (ρ x) λvs=>Wc2 vs i λv=>K v h
 | .call { callee:=.builtin b,args,argTypes }=>Wk2 P b argTypes o.type (args.toList.map ρ) ρ o h K
 | .call { callee:=.value f,args,.. }=>(match Za5 P f with
  | true=>Yp1 P (ρ f) (W18 ρ args) h K
  | false=>Wl3 P (ρ f) (W18 ρ args) h K)
 | .panic _=>False
 | _=>opH P ρ o h K
theorem W19 {P:Prop} (h:P:=by (refine ⟨by ((with_reducible first | apply AdjR.pop | apply AdjR.allPc | apply AdjR.allS | apply AdjR.fin | apply AdjR.call | apply AdjR.all);(focus (refine Lo.adjR ?_ (by assumption);(with_reducible repeat' constructor)));try (first | decide | (refine .inr ?_;decide) | (refine .inl ?_;simp [fA];done) | (refine Lo.ne ?_ hne;(with_reducible repeat' constructor)))),?_⟩;first | (refine .inl ?_;(focus (refine Tch.act ?_;(with_reducible repeat' constructor)));done) | (refine .inr ?_;((with_reducible first | apply AdjR.ltCall r hne | apply AdjR.ltFin r hne | apply AdjR.ltPc r hne | apply AdjR.ltPop r hne);assumption;(focus (refine Lo.adjR ?_ (by assumption);(with_reducible repeat' constructor)));try (first | assumption | exact Wn1 _ _));simp +decide [fW,fA,hs];first | done | omega))):P:=h
theorem WU6 {P:Prop} (h:P:=by (refine ⟨by ((with_reducible first | apply AdjR.pop | apply AdjR.allPc | apply AdjR.allS | apply AdjR.fin | apply AdjR.call | apply AdjR.all);(focus (refine Lo.adjR ?_ (by assumption);(with_reducible repeat' constructor)));try (first | decide | (refine .inr ?_;decide) | (refine .inl ?_;simp [fA];done) | (refine Lo.ne ?_ hne;(with_reducible repeat' constructor)))),?_⟩;first | (refine .inl ?_;(focus (refine Tch.act ?_;(with_reducible repeat' constructor)));done) | (refine .inr ?_;((with_reducible first | apply AdjR.ltCall r hne | apply AdjR.ltFin r hne | apply AdjR.ltPc r hne | apply AdjR.ltPop r hne);assumption;(focus (refine Lo.adjR ?_ (by assumption);(with_reducible repeat' constructor)));try (first | assumption | exact Wn1 _ _));simp +decide [fW,fA,hs,ha];first | done | omega))):P:=h
theorem YY0 {P:Prop} (h:P:=by ((with_reducible first | apply AdjR.pop | apply AdjR.allPc | apply AdjR.allS | apply AdjR.fin | apply AdjR.call | apply AdjR.all);(focus (refine Lo.adjR ?_ (by assumption);(with_reducible repeat' constructor)));try (first | decide | (refine .inr ?_;decide) | (refine .inl ?_;simp [fA];done) | (refine Lo.ne ?_ hne;(with_reducible repeat' constructor))))):P:=h
theorem YY1 {P:Prop} (h:P:=by (focus (refine Lo.adjR ?_ (by assumption);(with_reducible repeat' constructor)))):P:=h
theorem Yg5 {P:Prop} (h:P:=by ((try simp only [f_m,YP8,f_s,Yd7,WS3,YI4,YI5,Y54,YW1,YW2,YL3,YL4,YW3]);refine .inr ⟨?_,?_⟩ <;> simp only [Yz3,Ym2,Yw3,Y53,Yw2,Y52,or_true,true_or,and_true,true_and] <;> omega)):P:=h
theorem YX4 {P:Prop} (h:P:=by ((try simp only [YP8,f_s,Yd7,WS3,YI4,YI5,Y54]);unfold Wz1;(try simp only [Yw3,Y53,Yw2,Y52,Yz3,Ym2]);omega)):P:=h
theorem Wh1 {P:Prop} (h:P:=by (focus (refine Lo.rest ?_ (by assumption);(with_reducible repeat' constructor)))):P:=h
theorem Wp2 {P:Prop} (h:P:=by (with_reducible repeat' (first | apply St.refl | assumption | apply St.load | apply St.store | apply St.cas | apply St.add | apply St.swing | apply St.swingA | apply St.swingM | apply St.drop1 | apply St.guard | apply St.next | apply St.lvl | apply St.dcas | apply St.dcss | apply St.gh | apply St.call | apply St.fin | apply St.s | apply St.pc | apply St.push | apply St.pop))):P:=h
theorem WN0 {P Q:Prop} (q:Q) (e:Q->P:=by intro q;(repeat (with_reducible first | apply AllF.load | apply AllF.store | apply AllF.cas | apply AllF.add | apply AllF.swing | apply AllF.swingA | apply AllF.swingM | apply AllF.drop1 | apply AllF.guard | apply AllF.gh | apply AllF.fo | apply AllF.re | apply AllF.setPl));exact q):P:=e q
theorem sb {P Q:Prop} (q:Q) (e:Q->P:=by intro q;try simp only [Wc5,bsx,Nat.reduceAdd,Int.reduceLE,Int.reduceLT,Int.reduceToNat];exact q):P:=e q
theorem sl {A P Q:Prop} (a:A) (q:Q) (e:A->Q->P:=by intro a q;try simp only [Wc5,bsx,Nat.reduceAdd,Int.reduceLE,Int.reduceLT,Int.reduceToNat,RunS.l a];exact q):P:=e a q
theorem ss {A P Q:Prop} (a:A) (q:Q) (e:A->Q->P:=by intro a q;try simp +decide only [Wc5,bsx,Nat.reduceAdd,Int.reduceLE,Int.reduceLT,Int.reduceToNat,rsx,g_s,Wc9,RunS.al a];exact q):P:=e a q
end
section
theorem Kd.refl (h:Wa1):Kd h h:=⟨Nat.le_refl _,λ_ x=>x⟩
theorem Kd.trans {h h' h'':Wa1} (a:Kd h h') (b:Kd h' h''):Kd h h'':=⟨Nat.le_trans a.1 b.1,λD x=>b.2 D (a.2 D x)⟩
theorem getElem?_setC (h:Wa1) (a:Addr) (v:Value) (b:Nat):(setC h a v)[b]? =
  if a.block=b then (h[b]?).map (YX7 a v) else h[b]?:=by
 unfold setC;rw [Array.getElem?_modify]
theorem Yp5 (h:Wa1) (a:Addr) (v:Value):(setC h a v).size=h.size:=by unfold setC;simp
theorem Kd.setC (h:Wa1) (a:Addr) (v:Value):Kd h (setC h a v):=⟨by rw [Yp5];exact Nat.le_refl _,λD x=>by
 rw [getElem?_setC];split <;> simp [x,YX7]⟩
theorem Kd.freezeAt (h:Wa1) (a:Addr) (n:Nat):Kd h (freezeAt h a n):=by
 unfold Proofs.YtahpbclnkofhfaaGreat.freezeAt;split
 ·exact Kd.refl _
 ·refine ⟨by simp,λD x=>?_⟩
  rw [Array.getElem?_modify];split <;> simp [x]
theorem Kd.push (h:Wa1) (o:Obj):Kd h (h.push o):=⟨by simp,λD x=>by
 have:D < h.size:=(Array.getElem?_eq_some_iff.1 x).1
 rw [Array.getElem?_push_lt this];exact x ▸ (Array.getElem?_eq_getElem this).symm⟩
theorem Kd.set {h:Wa1} {r:Nat} {o:Obj} (hr:h[r]?≠some (.deferred (some []))):Kd h (h.setIfInBounds r o):=⟨by simp,λD x=>by
 rw [Array.getElem?_setIfInBounds];split
 ·rename_i e;subst e;exact absurd x hr
 ·exact x⟩
section
variable {P:Program} {α β:Type}
theorem YE1 (s:Sem α) (f:α->Sem β) (K:β->Wa1->Prop) (h:Wa1):hp P (s.bind f) K h=hp P s (λa=>hp P (f a) K) h:=by
 induction s generalizing h with
 | pure a=>rfl
 | load m a k ih=>simp only [Sem.bind,hp,ih]
 | store m a v k ih=>simp only [Sem.bind,hp,ih]
 | new o k ih=>simp only [Sem.bind,hp,ih]
 | shape r k ih=>simp only [Sem.bind,hp,ih]
 | freeze a n k ih=>simp only [Sem.bind,hp,ih]
 | frozen a k ih=>simp only [Sem.bind,hp,ih]
 | getObj r k ih=>simp only [Sem.bind,hp,ih]
 | setObj r o k ih=>simp only [Sem.bind,hp,ih]
 | choose q k ih=>simp only [Sem.bind,hp,ih]
 | sys c k ih=>simp only [Sem.bind,hp]
 | program k ih=>simp only [Sem.bind,hp,ih]
 | mark m k ih=>simp only [Sem.bind,hp,ih]
 | halt h=>simp only [Sem.bind,hp]
theorem Wa5 (s:Sem α) (f:α->Sem β) (K:β->Wa1->Prop) (h:Wa1):hp P (s >>= f) K h=hp P s (λa=>hp P (f a) K) h:=YE1 s f K h
theorem Wb1 (a:α) (K:α->Wa1->Prop) (h:Wa1):hp P (pure a) K h=K a h:=rfl
theorem Wp6 {v:Value} {X Y:Prop} (hxy:X->Y) (hx:Wh0 v X):Wh0 v Y:=by
 unfold Wh0 at *;split <;> simp_all
theorem Ya1 {v:Value} {X:Prop} (hx:Wh0 v X):X:=by unfold Wh0 at hx;split at hx <;> simp_all
theorem Wh8 {s:Sem α} {K K':α->Wa1->Prop} (hk:∀a h,K a h->K' a h):∀ {h:Wa1},hp P s K h->hp P s K' h:=by
 induction s with
 | pure a=>intro h x;exact hk _ _ x
 | load m a k ih=>intro h x;simp only [hp] at x ⊢;split at x <;> simp_all
 | store m a v k ih=>intro h x;simp only [hp] at x ⊢;exact Wp6 (λ⟨a,b,c⟩=>⟨a,b,ih c⟩) x
 | new o k ih=>intro h x;exact ih _ x
 | shape r k ih=>intro h x;exact ih _ x
 | freeze a n k ih=>intro h x;exact ih x
 | frozen a k ih=>intro h x;exact ih _ x
 | getObj r k ih=>intro h x;simp only [hp] at x ⊢;split at x <;> simp_all
 | setObj r o k ih=>intro h x;simp only [hp] at x ⊢;split at x <;> simp_all
 | choose q k ih=>intro h x t;exact ih _ (x t)
 | sys c k ih=>intro h x;exact x.elim
 | program k ih=>intro h x;exact ih _ x
 | mark m k ih=>intro h x;exact ih x
 | halt h=>intro h x;exact x.elim
theorem Kw.refl (w:World):Kw w w:=⟨Kd.refl _,rfl,rfl⟩
theorem Kw.trans {a b c:World} (x:Kw a b) (y:Kw b c):Kw a c:=⟨x.1.trans y.1,y.2.1.trans x.2.1,y.2.2.trans x.2.2⟩
theorem YY2 (s:Sem α):∀ {K:α->Wa1->Prop} {h:Wa1},hp P s K h->∀w:World,w.heap=h ->
  ∃a w',s.run P w=.ok a w'/\K a w'.heap/\Kw w w':=by
 induction s with
 | pure a=>intro K h x w hw;subst hw;exact ⟨a,w,rfl,x,Kw.refl _⟩
 | load m a k ih=>
  intro K h x w hw;subst hw;simp only [hp] at x
  split at x
  ·rename_i v hv
   obtain ⟨b,w',h1,h2⟩:=ih v x w rfl
   refine ⟨b,w',?_,h2⟩
   have hv':w.cell? a=some v:=hv
   simp only [Sem.run,hv',h1]
  ·exact x.elim
 | store m a v k ih=>
  intro K h x w hw;subst hw;simp only [hp] at x
  obtain ⟨⟨u,hu⟩,hf,hk⟩:=Ya1 x
  obtain ⟨b,w',h1,h2,h3⟩:=ih hk (w.setCell a v) rfl
  refine ⟨b,w',?_,h2,Kw.trans (b:=w.setCell a v) ⟨Kd.setC _ _ _,rfl,rfl⟩ h3⟩
  have hu':w.cell? a=some u:=hu
  have hf':w.frozen? a=false:=hf
  have e:(w.setCell a v).heap=Proofs.YtahpbclnkofhfaaGreat.setC w.heap a v:=rfl
  cases v <;> first | exact x.elim | simp only [Sem.run,hu',hf',h1];rfl
 | new o k ih=>
  intro K h x w hw;subst hw
  obtain ⟨b,w',h1,h2,h3⟩:=ih _ x { w with heap:=w.heap.push o } rfl
  exact ⟨b,w',h1,h2,Kw.trans (b:={ w with heap:=w.heap.push o }) ⟨Kd.push _ _,rfl,rfl⟩ h3⟩
 | shape r k ih=>intro K h x w hw;subst hw;exact ih _ x w rfl
 | freeze a n k ih=>
  intro K h x w hw;subst hw
  have e:(w.freeze a n).heap=freezeAt w.heap a n:=by unfold World.freeze freezeAt;split <;> rfl
  obtain ⟨b,w',h1,h2,h3⟩:=ih x (w.freeze a n) e
  exact ⟨b,w',h1,h2,Kw.trans (b:=w.freeze a n) ⟨by rw [e];exact Kd.freezeAt _ _ _,by unfold World.freeze;split <;> rfl,by unfold World.freeze;split <;> rfl⟩ h3⟩
 | frozen a k ih=>intro K h x w hw;subst hw;exact ih _ x w rfl
 | getObj r k ih=>
  intro K h x w hw;subst hw;simp only [hp] at x
  split at x
  ·exact x.elim
  ·rename_i o hne hv
   obtain ⟨b,w',h1,h2⟩:=ih o x w rfl
   refine ⟨b,w',?_,h2⟩
   simp only [Sem.run,hv]
   cases o <;> first | exact (hne _ _ _ rfl).elim | exact h1
  ·exact x.elim
 | setObj r o k ih=>
  intro K h x w hw;subst hw;simp only [hp] at x
  split at x
  all_goals first | exact x.elim | (
   rename_i hv
   obtain ⟨b,w',h1,h2,h3⟩:=ih x { w with heap:=w.heap.setIfInBounds r o } rfl
   refine ⟨b,w',?_,h2,Kw.trans (b:={ w with heap:=w.heap.setIfInBounds r o }) ⟨Kd.set (by rw [hv];simp),rfl,rfl⟩ h3⟩
   simp only [Sem.run,hv];exact h1)
 | choose q k ih=>
  intro K h x w hw;subst hw
  by_cases hq:q.forced=true
  ·have x0:=x 0
   simp only [hq,if_true] at x0
   obtain ⟨b,w',h1,h2⟩:=ih _ x0 w rfl
   exact ⟨b,w',by simp only [Sem.run,hq,if_true];exact h1,h2⟩
  ·have x0:=x (w.tape w.drawn q)
   simp only [hq] at x0
   obtain ⟨b,w',h1,h2⟩:=ih _ x0 { w with drawn:=w.drawn+1 } rfl
   exact ⟨b,w',by simp only [Sem.run,hq];exact h1,h2⟩
 | sys c k ih=>intro K h x w hw;exact x.elim
 | program k ih=>intro K h x w hw;exact ih _ x w hw
 | mark m k ih=>intro K h x w hw;exact ih x w hw
 | halt h=>intro K h x w hw;exact x.elim
theorem Wf3 {t:TypeId} {i:TypeInfo} (hi:P.info? t=some i) (K:TypeInfo->Wa1->Prop) (h:Wa1):hp P (typeInfo t) K h=K i h:=by
 simp only [typeInfo,Wa5];simp [program,hp,hi,Wb1]
theorem Wn5 {t:TypeId} (h:We9 P t=true):∃i,P.info? t=some i:=by
 unfold We9 at h;rw [Bool.and_eq_true] at h;exact Option.isSome_iff_exists.1 h.1
theorem WU7 {t:TypeId} (h:We9 P t=true):P.underlying t=some (und P t):=by
 unfold We9 at h;rw [Bool.and_eq_true] at h;obtain ⟨d,hd⟩:=Option.isSome_iff_exists.1 h.2;unfold und;rw [hd];rfl
theorem Wd4 {t:TypeId} (ht:We9 P t=true) (K:Nat->Wa1->Prop) (h:Wa1):hp P (sizeOf t) K h=K (siz P t) h:=by
 obtain ⟨i,hi⟩:=Wn5 ht
 simp only [sizeOf,Wa5,Wf3 hi,siz,hi];rfl
theorem Wb9 {t:TypeId} {d:TypeDesc} (hd:und P t=d) (hn:d≠.invalid):P.underlying t=some d:=by
 unfold und at hd;cases hu:P.underlying t with
 | none=>rw [hu] at hd;exact absurd hd.symm hn
 | some e=>rw [hu] at hd;simp at hd;rw [hd]
theorem Wa8 {t:TypeId} {d:TypeDesc} (hd:P.underlying t=some d) (K:TypeDesc->Wa1->Prop) (h:Wa1):hp P (underlying t) K h=K d h:=by
 simp only [underlying,Wa5];simp [program,hp,hd,Wb1]
theorem Ya2 {t:TypeId} {d:TypeDesc} (hd:P.underlying t=some d) (K:Bool->Wa1->Prop) (h:Wa1):hp P (isAgg t) K h=K (YE0 P t) h:=by
 have hu:und P t=d:=by unfold und;rw [hd];rfl
 simp only [isAgg,Wa5,Wa8 hd,YE0,hu]
 cases d <;> rfl
theorem Wf6 {t:TypeId} {z:Value} (hz:zer P t=some z) (K:kQ) (h:Wa1):hp P (zeroValue t) K h=K z h:=by
 unfold zer at hz
 cases hi:P.info? t with
 | none=>rw [hi] at hz;cases hz
 | some i=>
  rw [hi] at hz;simp at hz
  simp only [zeroValue,Wa5,Wf3 hi,hz];rfl
end
end
section
section
variable {P:Program} {ρ:Operand->Value} {h:Wa1} {K:kQ}
theorem Wg2 {v:Value} {F:Addr->Prop} (H:Wd1 v F):∃a,v=.pointer (some a)/\F a:=by unfold Wd1 at H;split at H <;> first | exact ⟨_,rfl,H⟩ | exact H.elim
theorem Wh2 {v:Value} {F:Option Addr->Prop} (H:Wc8 v F):∃a,v=.pointer a/\F a:=by unfold Wc8 at H;split at H <;> first | exact ⟨_,rfl,H⟩ | exact H.elim
theorem Wd8 {k:IntKind} {v:Value} {F:Int->Prop} (H:asInt k v F):∃n,v=.int k n/\F n:=by
 unfold asInt at H;split at H
 ·split at H
  ·rename_i e;subst e;exact ⟨_,rfl,H⟩
  ·exact H.elim
 ·exact H.elim
theorem Wm8 {v:Value} {F:Int->Prop} (H:asI v F):∃k n,v=.int k n/\F n:=by unfold asI at H;split at H <;> first | exact ⟨_,_,rfl,H⟩ | exact H.elim
theorem We5 {v:Value} {F:Bool->Prop} (H:asBool v F):∃b,v=.bool b/\F b:=by unfold asBool at H;split at H <;> first | exact ⟨_,rfl,H⟩ | exact H.elim
theorem Wd6 {v:Value} {F:ByteArray->Prop} (H:Wd9 v F):∃s,v=.string s/\F s:=by unfold Wd9 at H;split at H <;> first | exact ⟨_,rfl,H⟩ | exact H.elim
theorem We6 {v:Value} {F:Option Addr->Nat->Nat->Prop} (H:Wb3 v F):∃a l c,v=.slice a l c/\F a l c:=by unfold Wb3 at H;split at H <;> first | exact ⟨_,_,_,rfl,H⟩ | exact H.elim
theorem Wj0 {v:Value} {F:Array Value->Prop} (H:asAgg v F):∃a,v=.agg a/\F a:=by unfold asAgg at H;split at H <;> first | exact ⟨_,rfl,H⟩ | exact H.elim
theorem WF0 {v:Value} {F:Array Value->Prop} (H:Wg5 v F):∃a,v=.tuple a/\F a:=by unfold Wg5 at H;split at H <;> first | exact ⟨_,rfl,H⟩ | exact H.elim
theorem Ws6 {v:Value} {F:Option Nat->Prop} (H:WU4 v F):∃a,v=.map a/\F a:=by unfold WU4 at H;split at H <;> first | exact ⟨_,rfl,H⟩ | exact H.elim
theorem Wq4 {v:Value} {F:Bool->Prop} (H:Wh7 v F):(v=.nilFunc/\F true)\/(∃f a b,v=.func f a b/\F false):=by
 unfold Wh7 at H;split at H
 ·exact .inl ⟨rfl,H⟩
 ·exact .inr ⟨_,_,_,rfl,H⟩
 ·exact H.elim
theorem Wz9 {v:Value} {X:Prop} (H:Wh0 v X):v.cells=#[v]/\X:=by unfold Wh0 at H;split at H <;> simp_all [Value.cells]
theorem WN1 {cs:Array Value} {F:List Value->Prop}:∀(n i:Nat) (acc:List Value),Wr9 cs n i acc F->F (acc.reverse ++ (cs.toList.drop i).take n):=by
 intro n
 induction n with
 | zero=>intro i acc H;simpa using (show F acc.reverse from H)
 | succ n ih=>
  intro i acc H
  unfold Wr9 Wc2 at H
  split at H
  ·rename_i v hv
   have:=ih _ _ H
   rw [<- Array.getElem?_toList] at hv
   obtain ⟨hlt,hv⟩:=List.getElem?_eq_some_iff.1 hv
   rw [List.drop_eq_getElem_cons hlt,hv]
   simpa using this
  ·exact H.elim
theorem Yp6 {cs:Array Value} {F:List Value->Prop}:∀(n i:Nat) (acc:List Value),i+n<=cs.size->F (acc.reverse ++ (cs.toList.drop i).take n)->Wr9 cs n i acc F:=by
 intro n
 induction n with
 | zero=>intro i acc _ H;show F acc.reverse;simpa using H
 | succ n ih=>
  intro i acc hi H
  have hlt:i < cs.toList.length:=by simp;omega
  show Wc2 cs i λv=>Wr9 cs n (i+1) (v :: acc) F
  unfold Wc2
  rw [<- Array.getElem?_toList,List.getElem?_eq_getElem hlt]
  refine ih _ _ (by omega) ?_
  rw [List.drop_eq_getElem_cons hlt] at H
  simpa using H
theorem Ya3 {n:Nat} {v:Value} {F:List Value->Prop} (H:YR2 n v F):F v.cells.toList/\∀F':List Value->Prop,F' v.cells.toList->YR2 n v F':=by
 cases hb:Nat.ble n 64 with
 | true=>
  have e:∀F:List Value->Prop,YR2 n v F=asAgg v λcs=>Wg6 cs n (Wr9 cs n 0 [] F):=λF=>by unfold YR2;rw [hb]
  rw [e] at H
  obtain ⟨cs,rfl,H1⟩:=Wj0 H
  unfold Wg6 at H1
  split at H1
  ·rename_i hn
   have hn':=Nat.eq_of_beq_eq_true hn
   have h1:=WN1 _ _ _ H1
   have e2:(cs.toList.drop 0).take n=cs.toList:=by rw [List.drop_zero,List.take_of_length_le (by simp [hn'])]
   rw [e2] at h1
   refine ⟨h1,λF' x=>?_⟩
   rw [e]
   show Wg6 cs n _
   unfold Wg6
   rw [hn]
   refine Yp6 n 0 [] (by omega) ?_
   rw [e2]
   exact x
  ·exact H1.elim
 | false=>
  have e:∀F:List Value->Prop,YR2 n v F=asAgg v λcs=>F cs.toList:=λF=>by unfold YR2;rw [hb]
  rw [e] at H
  obtain ⟨cs,rfl,H1⟩:=Wj0 H
  exact ⟨H1,λF' x=>by rw [e];exact x⟩
theorem Wt9 {t:TypeId} {v:Value} {F:List Value->Prop} (H:Ws5 P t v F):F v.cells.toList:=by
 unfold Ws5 at H;split at H
 ·exact (Ya3 H).1
 ·obtain ⟨e,H⟩:=Wz9 H;rw [e];exact H
theorem Yp7 {b:Bool} {X Y:Prop} (H:ifB b X Y):if b then X else Y:=by cases b <;> exact H
theorem WF1 {a:Addr} {F:Value->Prop} (H:ldH h a F):∃v,Wa3 h a=some v/\F v:=by unfold ldH at H;split at H <;> first | exact ⟨_,‹_›,H⟩ | exact H.elim
theorem WL3 (s:Sem Value):hp P (do let x <- s;pure (Next.value x)) (nxt P K) h=hp P s K h:=by rw [Wa5];rfl
theorem Y98 (s:Sem Unit):hp P (do s;pure Next.skip) (nxt P K) h=hp P s (λ_=>K Wn2) h:=by rw [Wa5];rfl
theorem We0 (a:Addr) (n:Nat):∀(i:Nat) (acc:List Value) (F:Array Value->Wa1->Prop),ldN h a i n acc (λcs=>F cs.toArray h) ->
  hp P (loadCellsFrom a i n acc.reverse.toArray) F h:=by
 induction n with
 | zero=>intro i acc F H;exact H
 | succ n ih=>
  intro i acc F H
  obtain ⟨v,hv,H⟩:=WF1 H
  have:=ih (i+1) (v :: acc) F H
  simp only [loadCellsFrom,Wa5,load,hp,hv]
  simpa using this
theorem Wf7 (a:Addr) (vs:List Value):∀(h:Wa1) (i:Nat) (F:Wa1->Prop),stN h a i vs F->hp P (storeCells a vs i) (λ_=>F) h:=by
 induction vs with
 | nil=>intro h i F H;exact H
 | cons v vs ih=>
  intro h i F H
  simp only [storeCells,Wa5,store,hp]
  exact Wp6 (λ⟨h1,h2,h3⟩=>⟨h1,h2,ih _ _ _ h3⟩) H
theorem WN2 {t:TypeId} {a:Addr} (ht:We9 P t=true)
  (H:if YE0 P t then ldN h a 0 (siz P t) [] (λcs=>K (.agg cs.toArray) h) else ldH h a λv=>K v h):hp P (loadVar t a) K h:=by
 simp only [loadVar,Wa5,Ya2 (WU7 ht)]
 split at H
 ·simp only [*,if_true,Wa5,Wd4 ht]
  exact We0 a _ 0 [] (λcs h'=>K (.agg cs) h') H
 ·rename_i hn
  simp only [hn]
  obtain ⟨v,hv,H⟩:=WF1 H
  simp only [load,hp,hv];simpa [load,hp,hv] using H
theorem W20 {t:TypeId} {a:Addr} {v:Value} {F:Wa1->Prop} (ht:We9 P t=true) (hs:v.cells.toList.length=siz P t)
  (H:stN h a 0 v.cells.toList F):hp P (storeVar t a v) (λ_=>F) h:=by
 simp only [storeVar,Wa5,Wd4 ht]
 rw [if_neg (by simpa using hs)]
 exact Wf7 a _ h 0 F H
theorem W21 {t:TypeId} {cs:Array Value} {off:Nat} {v:Value} (ht:We9 P t=true) (hv:Yg3 P t cs off=some v) (F:kQ):hp P (part t cs off) F h=F v h:=by
 unfold Yg3 at hv
 simp only [part,Wa5,Ya2 (WU7 ht)]
 split at hv
 ·cases hv;simp only [*,if_true,Wa5,Wd4 ht];rfl
 ·rename_i hn;simp only [hn];simp [hv];rfl
theorem Wv5 {α:Type} {c:Prop} [Decidable c] (a b:Sem α) (F:α->Wa1->Prop) (h:Wa1):hp P (if c then a else b) F h=if c then hp P a F h else hp P b F h:=by split <;> rfl
theorem Wl4 (F:Program->Wa1->Prop) (h:Wa1):hp P program F h=F P h:=rfl
theorem Yp8 {x y:Option Bool} {b:Bool} (H:YO6 x y=some b):∃p q,x=some p/\y=some q/\b=(p && q):=by
 unfold YO6 at H;split at H
 ·simp at H;exact ⟨_,_,rfl,rfl,H.symm⟩
 ·cases H
theorem WD8 {t:TypeId} {cs:Array Value} {off:Nat} {v:Value} (hv:Wx8 P t cs off=some v) (F:kQ) (h:Wa1):hp P (part t cs off) F h=F v h:=by
 unfold Wx8 at hv;split at hv
 ·exact W21 ‹_› hv F
 ·cases hv
theorem WU8 {ι:Type} (l:List ι) (ok:ι->Option Bool) (g:ι->Option Bool × Unit->Sem (ForInStep (Option Bool × Unit))) (G:Option Bool × Unit->Wa1->Prop) (h:Wa1) :
  ∀b,l.foldr (λi acc=>YO6 (ok i) acc) (some true)=some b ->
  (∀i s c,ok i=some c->∀(F:ForInStep (Option Bool × Unit)->Wa1->Prop),hp P (g i s) F h=F (if c then .yield (none,()) else .done (some false,())) h) ->
  hp P (forIn l ((none,()):Option Bool × Unit) g) G h=if b then G (none,()) h else G (some false,()) h:=by
 induction l with
 | nil=>intro b H _;simp at H;subst H;simp [Wb1]
 | cons i l ih=>
  intro b H hf
  simp only [List.foldr_cons] at H
  obtain ⟨p,q,hp1,hq,rfl⟩:=Yp8 H
  simp only [List.forIn_cons,Wa5,hf i _ p hp1]
  cases p
  ·simp [Wb1]
  ·simp only [Bool.true_and,if_true]
   exact ih q hq hf
theorem YY3 (d:Nat):∀(t:TypeId) (x y:Value) (b:Bool),eqv P d t x y=some b->∀(F:Bool->Wa1->Prop) (h:Wa1),hp P (Op.equalIn d t x y) F h=F b h:=by
 induction d with
 | zero=>intro t x y b H;simp [eqv] at H
 | succ d ih=>
  intro t x y b H F h
  unfold eqv at H
  split at H
  ·rename_i hu;simp only [Op.equalIn,Wa5,Wa8 (Wb9 hu (by simp))];simp at H;subst H;rfl
  ·rename_i hu;simp only [Op.equalIn,Wa5,Wa8 (Wb9 hu (by simp))]
   split at H <;> simp at H
   subst H;simp only [*,if_true];rfl
  ·rename_i hu;simp only [Op.equalIn,Wa5,Wa8 (Wb9 hu (by simp))];simp at H;subst H;rfl
  ·rename_i fields xs ys hu
   simp only [Op.equalIn,Wa5,Wa8 (Wb9 hu (by simp)),Wl4]
   split at H
   ·cases H
   ·rename_i hst
    rw [if_neg hst]
    simp only [Wa5,<- Array.forIn_toList]
    refine (WU8 (P:=P) fields.toList (λf=>if f.name = "_" then none else match Wx8 P f.type xs f.offset,Wx8 P f.type ys f.offset with | some x,some y=>eqv P d f.type x y | _,_=>none) _ _ h b ?_ ?_).trans ?_
    ·refine Eq.trans ?_ H
     congr 1
     funext f acc
     by_cases hn:f.name = "_"
     ·simp [hn,YO6]
     ·cases h2:Wx8 P f.type xs f.offset <;> cases h3:Wx8 P f.type ys f.offset <;> simp [hn,YO6]
    ·intro f s c hc F'
     split at hc
     ·cases hc
     ·rename_i hn
      split at hc
      ·rename_i a e h1 h2
       simp only [ne_eq,hn,not_false_eq_true,if_true,Wa5,WD8 h1,WD8 h2,ih _ _ _ _ hc,Wv5]
       cases c <;> rfl
      ·cases hc
    ·cases b <;> rfl
  ·rename_i len elem xs ys hu
   split at H
   ·rename_i hth
    simp only [Op.equalIn,Wa5,Wa8 (Wb9 hu (by simp)),Wl4,Wd4 hth]
    rw [Std.Legacy.Range.forIn_eq_forIn_range']
    refine (WU8 (P:=P) _ (λi=>match Wx8 P elem xs (i*siz P elem),Wx8 P elem ys (i*siz P elem) with | some x,some y=>eqv P d elem x y | _,_=>none) _ _ h b ?_ ?_).trans ?_
    ·refine Eq.trans ?_ H
     have e:(Std.Legacy.Range.size [:len])=len:=by simp [Std.Legacy.Range.size]
     rw [e]
     congr 1
     funext i acc
     cases h2:Wx8 P elem xs (i*siz P elem) <;> cases h3:Wx8 P elem ys (i*siz P elem) <;> simp [YO6]
    ·intro i s c hc F'
     split at hc
     ·rename_i a e h1 h2
      simp only [Wa5,WD8 h1,WD8 h2,ih _ _ _ _ hc,Wv5]
      cases c <;> rfl
     ·cases hc
    ·cases b <;> rfl
   ·cases H
  ·cases H
theorem Ya4 {t:TypeId} {x y:Value} {F:Bool->Prop} (H:WQ0 P t x y F):(∃b,hp P (Op.equal t x y)=(λG h=>G b h)/\F b)/\P.eqGuardType P.depth t=false/\∃xs,x=.agg xs:=by
 unfold WQ0 at H
 split at H
 ·exact H.elim
 ·rename_i hg
  obtain ⟨xs,rfl,H⟩:=Wj0 H
  split at H
  ·rename_i b hb
   exact ⟨⟨b,funext λG=>funext λh=>YY3 10000 t _ y b hb G h,H⟩,by simpa using hg,_,rfl⟩
  ·exact H.elim
end
end
section
section
variable {P:Program} {ρ:Operand->Value} {h:Wa1} {K:kQ}
theorem W22 (vs:List Value):∀(cs:List Value) (off:Nat),
  (vs.zipIdx).foldl (λ(a:Array Value) (x:Value × Nat)=>a.setIfInBounds (off+x.2) x.1) cs.toArray=(Wn3 cs off vs).toArray:=by
 have key:∀(vs:List Value) (k:Nat) (cs:List Value) (off:Nat),
   (vs.zipIdx k).foldl (λ(a:Array Value) (x:Value × Nat)=>a.setIfInBounds (off+x.2) x.1) cs.toArray=(Wn3 cs (off+k) vs).toArray:=by
  intro vs
  induction vs with
  | nil=>intro k cs off;rfl
  | cons v vs ih=>
   intro k cs off
   simp only [List.zipIdx_cons,List.foldl_cons,Wn3,List.setIfInBounds_toArray]
   rw [ih (k+1)];rfl
 intro cs off;exact key vs 0 cs off
theorem WA0 {place:Nat->Option (Nat × TypeId)} (parts:List (Nat × Value)):∀(cells:List Value) (F:List Value->Prop),
  WD2 P place cells parts F->∃cs:List Value,Instr.fill (λi=>(place i).map λx=>(x.1,siz P x.2)) cells.toArray parts=some cs.toArray/\F cs:=by
 induction parts with
 | nil=>intro cells F H;exact ⟨cells,rfl,H⟩
 | cons p rest ih=>
  obtain ⟨i,v⟩:=p
  intro cells F H
  unfold WD2 at H
  split at H
  ·exact H.elim
  ·rename_i off t hp1
   have H:=Wt9 H
   split at H
   ·rename_i hs
    obtain ⟨cs,h1,h2⟩:=ih _ _ H
    refine ⟨cs,?_,h2⟩
    unfold Instr.fill
    simp only [hp1,Option.map_some]
    have hs1:v.cells.size=siz P t:=by simpa using hs.1
    rw [if_neg (by simp [hs1];omega)]
    rw [<- h1]
    congr 1
    have:=W22 v.cells.toList cells off
    rw [<- this]
    rw [<- Array.foldl_toList]
    simp [Array.toList_zipIdx]
   ·exact H.elim
theorem Wx9 {t:TypeId} {z:Value} (hz:zer P t=some z):(Wn8 P t).toArray=z.cells:=by
 unfold Wn8;rw [hz];cases z <;> simp [Value.cells]
theorem YO9 (z:List Value) (n:Nat) (hz:0 < z.length) :
  (Array.range (n*z.length)).map (λi=>z.toArray[i % z.toArray.size]!)=((List.replicate n z).flatten).toArray:=by
 apply Array.toList_inj.1
 simp only [Array.toList_map,Array.toList_range,List.size_toArray]
 induction n with
 | zero=>simp
 | succ n ih=>
  rw [Nat.succ_mul,List.range_add,List.map_append,ih,List.replicate_succ',List.flatten_append]
  congr 1
  simp only [List.map_map,List.flatten_cons,List.flatten_nil,List.append_nil]
  apply List.ext_getElem (by simp)
  intro i h1 h2
  simp at h1
  simp [Nat.mul_add_mod_of_lt,Nat.mod_eq_of_lt h1,h1,Nat.mul_comm n]
theorem WD9 {t:TypeId} (hz:(zer P t).isSome=true):∃z,zer P t=some z:=Option.isSome_iff_exists.1 hz
theorem YE2 {k:IntKind} {op:BinOp} {a b:Int} (H:WU5 k op a b λv=>K v h) (hs:op≠.shl/\op≠.shr) :
  hp P (binOp op 0 (.int k a) (.int k b)) K h:=by
 cases op <;> simp only [WU5,binOp,Op.intArith,Op.intDiv,Op.intBits,Op.intCmp,ne_eq,not_true,if_false] at H ⊢ <;> first
  | exact H
  | (rw [if_neg H.1];exact H.2)
  | exact H.elim
  | (exact absurd rfl hs.1)
  | (exact absurd rfl hs.2)
theorem Yp9 {k:IntKind} {op:BinOp} {a b:Int} (t:TypeId) (hs:op≠.shl/\op≠.shr):binOp op t (.int k a) (.int k b)=binOp op 0 (.int k a) (.int k b):=by
 cases op <;> first | rfl | exact absurd rfl hs.1 | exact absurd rfl hs.2
end
end
section
section
variable {P:Program} {ρ:Operand->Value} {h:Wa1} {K:kQ}
theorem Wd0 {op:BinOp} {t:TypeId} {x y:Operand} {a b:Value} (F:Unit->Wa1->Prop)
  (hs:(op≠.eql/\op≠.neq)\/((∀xs,a≠.agg xs)/\a≠.nilIface)\/(P.eqGuardType P.depth t=false/\∃xs,a=.agg xs)):hp P (eqGuard op t x y a b) F h=F () h:=by
 unfold eqGuard
 rcases hs with ⟨h1,h2⟩ | ⟨h1,h2⟩ | ⟨h1,xs,rfl⟩
 ·cases op <;> first | rfl | exact absurd rfl h1 | exact absurd rfl h2
 ·cases op <;> first | rfl | (cases a <;> first | exact absurd rfl h2 | exact absurd rfl (h1 _) | rfl)
 ·cases op <;> first | rfl | (cases b <;> first | rfl | (simp [Wa5,Wl4,h1,Wb1]))
theorem Wf8 {t:TypeId} {a b:Value} (ha:∀k n,a≠.int k n) (ha2:∀s,a≠.string s) (ha3:∀k n,a≠.float k n) (ha4:∀k n m,a≠.complex k n m) (F:kQ) :
  hp P (binOp .eql t a b) F h=hp P (Op.equal t a b) (λr h=>F (.bool r) h) h:=by
 cases a <;> first | exact absurd rfl (ha _ _) | exact absurd rfl (ha2 _) | exact absurd rfl (ha3 _ _) | exact absurd rfl (ha4 _ _ _) | (cases b <;> simp only [binOp,Wa5] <;> rfl)
theorem Wf9 {t:TypeId} {a b:Value} (ha:∀k n,a≠.int k n) (ha2:∀s,a≠.string s) (ha3:∀k n,a≠.float k n) (ha4:∀k n m,a≠.complex k n m) (F:kQ) :
  hp P (binOp .neq t a b) F h=hp P (Op.equal t a b) (λr h=>F (.bool (!r)) h) h:=by
 cases a <;> first | exact absurd rfl (ha _ _) | exact absurd rfl (ha2 _) | exact absurd rfl (ha3 _ _) | exact absurd rfl (ha4 _ _ _) | (cases b <;> simp only [binOp,Wa5] <;> rfl)
theorem Ya5 {y:Operand} (hy:Y45 y=true) (hc:∀v,ρ (.const v)=v):ρ y=.pointer none:=by
 unfold Y45 at hy;split at hy <;> first | exact hc _ | cases hy
theorem Ya6 {y:Operand} (hy:Y46 y=true) (hc:∀v,ρ (.const v)=v):∃l c,ρ y=.slice none l c:=by
 unfold Y46 at hy;split at hy <;> first | exact ⟨_,_,hc _⟩ | cases hy
theorem Ya7 {y:Operand} (hy:Y58 y=true) (hc:∀v,ρ (.const v)=v):ρ y=.map none:=by
 unfold Y58 at hy;split at hy <;> first | exact hc _ | cases hy
theorem Ya8 {y:Operand} (hy:Y47 y=true) (hc:∀v,ρ (.const v)=v):ρ y=.nilFunc:=by
 unfold Y47 at hy;split at hy <;> first | exact hc _ | cases hy
theorem Wf0 (t:TypeId) (x y:Value):Op.equal t x y=Op.equalIn (9999+1) t x y:=rfl
theorem WU9 (d:Nat) {t:TypeId} {a b:Bool} (hu:P.underlying t=some .bool) (F:Bool->Wa1->Prop) (h:Wa1):hp P (Op.equalIn (d+1) t (.bool a) (.bool b)) F h=F (a == b) h:=by
 simp only [Op.equalIn,Wa5,Wa8 hu];rfl
theorem Ya9 (d:Nat) {t e:TypeId} {a:Option Addr} (hu:P.underlying t=some (.pointer e)) (F:Bool->Wa1->Prop) (h:Wa1):hp P (Op.equalIn (d+1) t (.pointer a) (.pointer none)) F h=F a.isNone h:=by
 cases a <;> simp only [Op.equalIn,Wa5,Wa8 hu] <;> rfl
theorem WN3 (d:Nat) {t e:TypeId} {a:Option Addr} {l c l' c':Nat} (hu:P.underlying t=some (.slice e)) (F:Bool->Wa1->Prop) (h:Wa1):hp P (Op.equalIn (d+1) t (.slice a l c) (.slice none l' c')) F h=F a.isNone h:=by
 cases a <;> simp only [Op.equalIn,Wa5,Wa8 hu] <;> rfl
theorem Yb0 (d:Nat) {t e e':TypeId} {a:Option Nat} (hu:P.underlying t=some (.map e e')) (F:Bool->Wa1->Prop) (h:Wa1):hp P (Op.equalIn (d+1) t (.map a) (.map none)) F h=F a.isNone h:=by
 cases a <;> simp only [Op.equalIn,Wa5,Wa8 hu] <;> rfl
theorem Yb1 (d:Nat) {t:TypeId} {a b:Array TypeId} {c:Bool} (hu:P.underlying t=some (.func a b c)) (F:Bool->Wa1->Prop) (h:Wa1):hp P (Op.equalIn (d+1) t .nilFunc .nilFunc) F h=F true h:=by
 simp only [Op.equalIn,Wa5,Wa8 hu];rfl
theorem Yb2 (d:Nat) {t:TypeId} {a b:Array TypeId} {c:Bool} {f:Fn} {x y:Array Value} (hu:P.underlying t=some (.func a b c)) (F:Bool->Wa1->Prop) (h:Wa1):hp P (Op.equalIn (d+1) t (.func f x y) .nilFunc) F h=F false h:=by
 simp only [Op.equalIn,Wa5,Wa8 hu];rfl
theorem Yg6 {op:BinOp} {xt yt:TypeId} {x y:Operand} {o:Oper} (ho:o.op=.binOp op xt x y yt) (hc:∀v,ρ (.const v)=v)
  (H:Yp2 P op xt yt x y ρ o h K):hp P (execOp ρ o) (nxt P K) h:=by
 have e:execOp ρ o=(do let r <- (do eqGuard op xt x y (ρ x) (ρ y);binOp op xt (ρ x) (ρ y));pure (Next.value r)):=by unfold execOp;rw [ho]
 have toh:hp P (do eqGuard op xt x y (ρ x) (ρ y);binOp op xt (ρ x) (ρ y)) K h->hp P (execOp ρ o) (nxt P K) h:=λq=>by rw [e,WL3];exact q
 have fall:opH P ρ o h K->hp P (execOp ρ o) (nxt P K) h:=id
 unfold Yp2 at H
 split at H
 ·rename_i k hk
  split at H
  ·split at H
   ·obtain ⟨a,ha,H⟩:=Wd8 H
    obtain ⟨b,hb,H⟩:=Wd8 H
    apply toh
    rw [ha,hb]
    simp only [Wa5]
    rw [Wd0 _ (.inl ⟨by simp,by simp⟩)]
    simp only [YO8,binOp,Op.shift] at H ⊢
    rw [if_neg (by have:=H.1;omega)]
    exact H.2
   ·exact H.elim
  ·split at H
   ·obtain ⟨a,ha,H⟩:=Wd8 H
    obtain ⟨b,hb,H⟩:=Wd8 H
    apply toh
    rw [ha,hb]
    simp only [Wa5]
    rw [Wd0 _ (.inl ⟨by simp,by simp⟩)]
    simp only [YO8,binOp,Op.shift] at H ⊢
    rw [if_neg (by have:=H.1;omega)]
    exact H.2
   ·exact H.elim
  ·rename_i n1 n2
   obtain ⟨a,ha,H⟩:=Wd8 H
   obtain ⟨b,hb,H⟩:=Wd8 H
   have hs:op≠.shl/\op≠.shr:=⟨n1,n2⟩
   apply toh
   rw [ha,hb]
   simp only [Wa5]
   rw [Wd0 _ (.inr (.inl ⟨by simp,by simp⟩)),Yp9 xt hs]
   exact YE2 H hs
 ·rename_i hu
  split at H
  ·obtain ⟨a,ha,H⟩:=We5 H
   obtain ⟨b,hb,H⟩:=We5 H
   apply toh
   rw [ha,hb]
   simp only [Wa5]
   rw [Wd0 _ (.inr (.inl ⟨by simp,by simp⟩)),Wf8 (by simp) (by simp) (by simp) (by simp)]
   rw [Wf0,WU9 _ (Wb9 hu (by simp))]
   exact H
  ·obtain ⟨a,ha,H⟩:=We5 H
   obtain ⟨b,hb,H⟩:=We5 H
   apply toh
   rw [ha,hb]
   simp only [Wa5]
   rw [Wd0 _ (.inr (.inl ⟨by simp,by simp⟩)),Wf9 (by simp) (by simp) (by simp) (by simp)]
   rw [Wf0,WU9 _ (Wb9 hu (by simp))]
   exact H
  ·exact H.elim
 ·rename_i hu
  split at H
  ·obtain ⟨a,ha,H⟩:=Wd6 H
   obtain ⟨b,hb,H⟩:=Wd6 H
   apply toh
   rw [ha,hb]
   simp only [Wa5]
   rw [Wd0 _ (.inr (.inl ⟨by simp,by simp⟩))]
   exact H
  ·obtain ⟨a,ha,H⟩:=Wd6 H
   obtain ⟨b,hb,H⟩:=Wd6 H
   apply toh
   rw [ha,hb]
   simp only [Wa5]
   rw [Wd0 _ (.inr (.inl ⟨by simp,by simp⟩))]
   exact H
  ·obtain ⟨a,ha,H⟩:=Wd6 H
   obtain ⟨b,hb,H⟩:=Wd6 H
   apply toh
   rw [ha,hb]
   simp only [Wa5]
   rw [Wd0 _ (.inl ⟨by simp,by simp⟩)]
   simp only [binOp,Op.stringOp]
   rw [if_neg (by have:=H.1;have e:IntKind.i64.max=9223372036854775807:=(by decide);omega)]
   exact H.2
  ·exact fall H
 ·rename_i el hu
  split at H
  ·rename_i hn
   have hy:=Ya5 hn hc
   obtain ⟨a,ha,H⟩:=Wh2 H
   apply toh
   rw [ha,hy]
   simp only [Wa5]
   rw [Wd0 _ (.inr (.inl ⟨by simp,by simp⟩)),Wf8 (by simp) (by simp) (by simp) (by simp),Wf0,Ya9 _ (Wb9 hu (by simp))]
   exact H
  ·rename_i hn
   have hy:=Ya5 hn hc
   obtain ⟨a,ha,H⟩:=Wh2 H
   apply toh
   rw [ha,hy]
   simp only [Wa5]
   rw [Wd0 _ (.inr (.inl ⟨by simp,by simp⟩)),Wf9 (by simp) (by simp) (by simp) (by simp),Wf0,Ya9 _ (Wb9 hu (by simp))]
   exact H
  ·obtain ⟨a,ha,H⟩:=Wh2 H
   obtain ⟨b,hb,H⟩:=Wh2 H
   apply toh
   rw [ha,hb]
   simp only [Wa5]
   rw [Wd0 _ (.inr (.inl ⟨by simp,by simp⟩))]
   exact H
  ·obtain ⟨a,ha,H⟩:=Wh2 H
   obtain ⟨b,hb,H⟩:=Wh2 H
   apply toh
   rw [ha,hb]
   simp only [Wa5]
   rw [Wd0 _ (.inr (.inl ⟨by simp,by simp⟩))]
   exact H
  ·exact fall H
 ·rename_i el hu
  split at H
  ·rename_i hn
   obtain ⟨l0,c0,hy⟩:=Ya6 hn hc
   obtain ⟨a,l,c,ha,H⟩:=We6 H
   apply toh
   rw [ha,hy]
   simp only [Wa5]
   rw [Wd0 _ (.inr (.inl ⟨by simp,by simp⟩)),Wf8 (by simp) (by simp) (by simp) (by simp),Wf0,WN3 _ (Wb9 hu (by simp))]
   exact H
  ·rename_i hn
   obtain ⟨l0,c0,hy⟩:=Ya6 hn hc
   obtain ⟨a,l,c,ha,H⟩:=We6 H
   apply toh
   rw [ha,hy]
   simp only [Wa5]
   rw [Wd0 _ (.inr (.inl ⟨by simp,by simp⟩)),Wf9 (by simp) (by simp) (by simp) (by simp),Wf0,WN3 _ (Wb9 hu (by simp))]
   exact H
  ·exact fall H
 ·rename_i e1 e2 hu
  split at H
  ·rename_i hn
   have hy:=Ya7 hn hc
   obtain ⟨a,ha,H⟩:=Ws6 H
   apply toh
   rw [ha,hy]
   simp only [Wa5]
   rw [Wd0 _ (.inr (.inl ⟨by simp,by simp⟩)),Wf8 (by simp) (by simp) (by simp) (by simp),Wf0,Yb0 _ (Wb9 hu (by simp))]
   exact H
  ·rename_i hn
   have hy:=Ya7 hn hc
   obtain ⟨a,ha,H⟩:=Ws6 H
   apply toh
   rw [ha,hy]
   simp only [Wa5]
   rw [Wd0 _ (.inr (.inl ⟨by simp,by simp⟩)),Wf9 (by simp) (by simp) (by simp) (by simp),Wf0,Yb0 _ (Wb9 hu (by simp))]
   exact H
  ·exact fall H
 ·rename_i e1 e2 e3 hu
  split at H
  ·rename_i hn
   have hy:=Ya8 hn hc
   rcases Wq4 H with ⟨ha,H⟩ | ⟨f,a,b,ha,H⟩
   ·apply toh
    rw [ha,hy]
    simp only [Wa5]
    rw [Wd0 _ (.inr (.inl ⟨by simp,by simp⟩)),Wf8 (by simp) (by simp) (by simp) (by simp),Wf0,Yb1 _ (Wb9 hu (by simp))]
    exact H
   ·apply toh
    rw [ha,hy]
    simp only [Wa5]
    rw [Wd0 _ (.inr (.inl ⟨by simp,by simp⟩)),Wf8 (by simp) (by simp) (by simp) (by simp),Wf0,Yb2 _ (Wb9 hu (by simp))]
    exact H
  ·rename_i hn
   have hy:=Ya8 hn hc
   rcases Wq4 H with ⟨ha,H⟩ | ⟨f,a,b,ha,H⟩
   ·apply toh
    rw [ha,hy]
    simp only [Wa5]
    rw [Wd0 _ (.inr (.inl ⟨by simp,by simp⟩)),Wf9 (by simp) (by simp) (by simp) (by simp),Wf0,Yb1 _ (Wb9 hu (by simp))]
    exact H
   ·apply toh
    rw [ha,hy]
    simp only [Wa5]
    rw [Wd0 _ (.inr (.inl ⟨by simp,by simp⟩)),Wf9 (by simp) (by simp) (by simp) (by simp),Wf0,Yb2 _ (Wb9 hu (by simp))]
    exact H
  ·exact fall H
 ·rename_i hu
  split at H
  ·obtain ⟨⟨b,hb,H⟩,hg,xs,hx⟩:=Ya4 H
   apply toh
   rw [hx] at hb ⊢
   simp only [Wa5]
   rw [Wd0 _ (.inr (.inr ⟨hg,_,rfl⟩)),Wf8 (by simp) (by simp) (by simp) (by simp),hb]
   exact H
  ·obtain ⟨⟨b,hb,H⟩,hg,xs,hx⟩:=Ya4 H
   apply toh
   rw [hx] at hb ⊢
   simp only [Wa5]
   rw [Wd0 _ (.inr (.inr ⟨hg,_,rfl⟩)),Wf9 (by simp) (by simp) (by simp) (by simp),hb]
   exact H
  ·exact H.elim
 ·rename_i hu
  split at H
  ·obtain ⟨⟨b,hb,H⟩,hg,xs,hx⟩:=Ya4 H
   apply toh
   rw [hx] at hb ⊢
   simp only [Wa5]
   rw [Wd0 _ (.inr (.inr ⟨hg,_,rfl⟩)),Wf8 (by simp) (by simp) (by simp) (by simp),hb]
   exact H
  ·obtain ⟨⟨b,hb,H⟩,hg,xs,hx⟩:=Ya4 H
   apply toh
   rw [hx] at hb ⊢
   simp only [Wa5]
   rw [Wd0 _ (.inr (.inr ⟨hg,_,rfl⟩)),Wf9 (by simp) (by simp) (by simp) (by simp),hb]
   exact H
  ·exact H.elim
 ·exact fall H
end
end
section
section
variable {P:Program} {ρ:Operand->Value} {h:Wa1} {K:kQ}
theorem Wn4 {v:Value} {i:Int} {k:IntKind} {y:Nat} {code:BoundsCode} (hv:v=.int k i) (h0:0<=i) (h1:i<=y) (F:Nat->Wa1->Prop) :
  hp P (Instr.sliceBound v y code) F h=F i.toNat h:=by
 subst hv
 simp only [Instr.sliceBound,asIntOf,Wa5,Wb1]
 rw [if_pos ⟨h0,h1⟩];rfl
theorem Wl5 {v:Option Value} {d m:Nat} {F:Nat->Prop} (H:Wo0 none v d m F) :
  (v=none/\F d)\/∃k i,v=some (.int k i)/\0<=i/\i<=m/\F i.toNat:=by
 unfold Wo0 at H
 split at H
 ·exact .inl ⟨rfl,H⟩
 ·split at H
  ·obtain ⟨k,i,rfl,H⟩:=Wm8 H
   exact .inr ⟨_,_,rfl,H⟩
  ·cases ‹none=some _›
theorem Wp3 {isSlice:Bool} {len cap:Nat} {lo hi mx:Option Value} {F:Nat × Nat × Nat->Wa1->Prop} (hm:mx=none\/hi≠none)
  (H:Wo0 none mx cap cap λm=>Wo0 none hi len m λh'=>Wo0 none lo 0 h' λl=>F (l,h',m) h) :
  hp P (Instr.sliceBounds isSlice len cap lo hi mx) F h:=by
 rcases Wl5 H with ⟨rfl,H1⟩ | ⟨k,i,rfl,h0,h1,H1⟩
 ·rcases Wl5 H1 with ⟨rfl,H2⟩ | ⟨k,i,rfl,h0,h1,H2⟩
  ·rcases Wl5 H2 with ⟨rfl,H3⟩ | ⟨k,i,rfl,h0,h1,H3⟩
   ·exact H3
   ·simp only [Instr.sliceBounds,Wa5,Wb1,Wn4 rfl h0 h1];exact H3
  ·rcases Wl5 H2 with ⟨rfl,H3⟩ | ⟨k',i',rfl,h0',h1',H3⟩
   ·simp only [Instr.sliceBounds,Wa5,Wb1,Wn4 rfl h0 h1];exact H3
   ·simp only [Instr.sliceBounds,Wa5,Wb1,Wn4 rfl h0 h1,Wn4 rfl h0' h1'];exact H3
 ·rcases Wl5 H1 with ⟨rfl,H2⟩ | ⟨k2,i2,rfl,h02,h12,H2⟩
  ·rcases hm with hm | hm
   ·cases hm
   ·exact absurd rfl hm
  ·rcases Wl5 H2 with ⟨rfl,H3⟩ | ⟨k',i',rfl,h0',h1',H3⟩
   ·simp only [Instr.sliceBounds,Wa5,Wb1,Wn4 rfl h0 h1,Wn4 rfl h02 h12];exact H3
   ·simp only [Instr.sliceBounds,Wa5,Wb1,Wn4 rfl h0 h1,Wn4 rfl h02 h12,Wn4 rfl h0' h1'];exact H3
theorem Yg7 {t:TypeId} {x:Value} {lo hi mx:Option Value} (hm:mx=none\/hi≠none) (H:WC1 P t x lo hi mx λv=>K v h) :
  hp P (Instr.sliceAt t x lo hi mx) K h:=by
 unfold WC1 at H
 split at H
 ·rename_i hu
  split at H
  ·exact H.elim
  ·rename_i hmx
   obtain ⟨s,rfl,H⟩:=Wd6 H
   simp only [Instr.sliceAt,Wa5,Wa8 (Wb9 hu (by simp)),Instr.slice]
   rw [if_neg hmx]
   simp only [Wa5,Wb1]
   refine Wp3 (.inl rfl) ?_
   exact H
 ·rename_i e hu
  split at H
  ·rename_i hth
   obtain ⟨a,len,cap,rfl,H⟩:=We6 H
   simp only [Instr.sliceAt,Wa5,Wa8 (Wb9 hu (by simp)),Instr.slice]
   refine Wp3 hm ?_
   simp only [Wa5,Wd4 hth,Wb1]
   exact H
  ·exact H.elim
 ·rename_i n e hu
  split at H
  ·rename_i hth
   obtain ⟨a,rfl,H⟩:=Wg2 H
   simp only [Instr.sliceAt,Wa5,Wa8 (Wb9 hu (by simp)),Instr.sureAddr,Wb1]
   refine Wp3 hm ?_
   simp only [Wa5,Wd4 hth,Wb1]
   exact H
  ·exact H.elim
 ·exact H.elim
theorem Wn6 (n:Nat) (F:Unit->Wa1->Prop):hp P (askRoom n) F h=F () h:=by unfold askRoom;split <;> rfl
theorem Wi0 {n:Int} (h0:0<=n) (h1:n<=9223372036854775807):IntKind.i64.wrap n=n:=by
 have e1:((2:Int) ^ IntKind.i64.bits)=18446744073709551616:=by decide
 have e2:((2:Int) ^ (IntKind.i64.bits - 1))=9223372036854775808:=by decide
 unfold IntKind.wrap
 rw [e1,e2]
 have:n % 18446744073709551616=n:=by omega
 simp only [this]
 rw [if_neg (by simp;omega)]
theorem WV0 {t elem:TypeId} {k1 k2:IntKind} {l c:Int} (hu:P.underlying t=some (.slice elem)) (hth:We9 P elem=true) (hz:(zer P elem).isSome=true)
  (hs:(Wn8 P elem).length=siz P elem) (hp0:0 < siz P elem) (H:Wm5 P elem l c h K):hp P (Instr.makeSlice t (.int k1 l) (.int k2 c)) K h:=by
 obtain ⟨h1,h2,h3,h4,H⟩:=H
 obtain ⟨i,hi⟩:=Wn5 hth
 obtain ⟨z,hz⟩:=WD9 hz
 have hb:byt P elem=i.bytes:=by unfold byt;rw [hi]
 rw [hb] at h4
 have w1:IntKind.i64.wrap l=l:=Wi0 h1 (by omega)
 have w2:IntKind.i64.wrap c=c:=Wi0 (by omega) h3
 simp only [Instr.makeSlice,Wa5,Wa8 hu,asInt,Go.asInt,asIntOf,Wb1,Wf3 hi,w1,w2]
 rw [if_neg (by
  simp only [Bool.or_eq_true,decide_eq_true_eq,not_or]
  refine ⟨⟨⟨by omega,?_⟩,by omega⟩,by omega⟩
  have:((2:Int) ^ 48)=281474976710656:=by decide
  rw [this] at h4
  rw [this]
  omega)]
 simp only [Wa5,Wn6,Wd4 hth]
 by_cases hc0:c.toNat=0
 ·simp only [hc0,Nat.zero_mul,if_true,Wb1,newRow,newObj,Wa5,hp] at H ⊢
  have e:(Array.range 0).map (λx=>(#[]:Array Value)[x % (#[]:Array Value).size]!)=#[]:=by simp [Array.range]
  rw [e];simpa using H
 ·rw [if_neg (by intro e;rcases Nat.mul_eq_zero.1 e with e | e <;> omega)]
  simp only [Wa5,Wf6 hz,Wb1,<- Wx9 hz,newRow,newObj,hp]
  have:=YO9 (Wn8 P elem) c.toNat (by omega)
  rw [hs] at this
  rw [this];exact H
end
end
section
section
variable {P:Program} {ρ:Operand->Value} {h:Wa1} {K:kQ}
def Za6 (P:Program) (K:kQ) (h0:World):Next->World->Prop
 | .value v,w=>K v w.heap/\Kw h0 w
 | .skip,w=>K Wn2 w.heap/\Kw h0 w
 | .enter f args,w=>CallsIn Fence.wide 0 P f args w (onH h0 K)
 | .round l f tmps assign body,w=>RoundIn Fence.wide 0 P l f tmps assign body w (onH h0 K)
 | _,_=>False
def OpS (P:Program) (ρ:Operand->Value) (o:Oper) (h:Wa1) (K:kQ):Prop:=
 ∀w:World,w.heap=h->∃nx w',(execOp ρ o).run P w=.ok nx w'/\Za6 P K w nx w'
theorem YE3 {h0 h1:World} (hk:Kw h0 h1):∀e w,onH h1 K e w->onH h0 K e w:=by
 intro e w x
 cases e <;> first | exact x | exact ⟨x.1,hk.trans x.2⟩
theorem Wd2 {o:Oper} (H:hp P (execOp ρ o) (nxt P K) h):OpS P ρ o h K:=by
 intro w hw
 obtain ⟨nx,w',h1,h2,h3⟩:=YY2 _ H w hw
 refine ⟨nx,w',h1,?_⟩
 cases nx <;> first
  | exact ⟨h2,h3⟩
  | exact (h2 w' rfl).mono (YE3 h3)
  | exact h2.elim
theorem Wh3 {o:Oper} {b:Builtin} {args:Array Operand} {argTypes:Array TypeId} (ho:o.op=.call { callee:=.builtin b,args,argTypes }) (s:Sem Value)
  (hb:∀consts,builtin b argTypes o.type consts (args.map ρ)=(do let x <- s;pure (Next.value x))) (H:hp P s K h):hp P (execOp ρ o) (nxt P K) h:=by
 unfold execOp;rw [ho]
 simp only [resolve,Wa5,Wb1,invoke,hb]
 exact H
theorem WQ2 (f:Operand->Value) (a:Array Operand):W18 f a=a.map f:=by unfold W18;apply Array.toList_inj.1;simp
theorem Yq0 {f:Int->Int->Int} {m:Value->Value->Sem Value} (hm:∀k a b,m (.int k a) (.int k b)=pure (.int k (f a b))) {k:IntKind} (ys:List Value):∀(a:Int),
  Wg1.go f k a ys (λn=>K (.int k n) h)->hp P (ys.foldlM m (.int k a)) K h:=by
 induction ys with
 | nil=>intro a H;exact H
 | cons y ys ih=>
  intro a H
  obtain ⟨b,rfl,H2⟩:=Wd8 H
  simp only [List.foldlM_cons,Wa5,hm,Wb1]
  exact ih _ H2
theorem WV1 {f:Int->Int->Int} {m:Value->Value->Sem Value} (hm:∀k a b,m (.int k a) (.int k b)=pure (.int k (f a b))) {t:TypeId} {k:IntKind} (hk:Wn9 P t=some k)
  (why:String) (xs:List Value) (H:Wg1 f P t xs λn=>K (.int k n) h):hp P (match xs with | []=>stuck why | x :: rest=>rest.foldlM m x) K h:=by
 cases xs with
 | nil=>exact H.elim
 | cons x xs=>cases xs with
  | nil=>
   simp only [Wg1,hk] at H
   obtain ⟨b,rfl,H2⟩:=Wd8 H
   exact H2
  | cons y ys=>
   simp only [Wg1,hk] at H
   obtain ⟨b,rfl,H2⟩:=Wd8 H
   exact Yq0 hm _ _ H2
theorem WL8 {o:Oper} {b:Builtin} {args:Array Operand} {argTypes:Array TypeId} (ho:o.op=.call { callee:=.builtin b,args,argTypes })
  (H:Wk2 P b argTypes o.type (args.toList.map ρ) ρ o h K):hp P (execOp ρ o) (nxt P K) h:=by
 have ea:args.map ρ=(args.toList.map ρ).toArray:=by rw [<- WQ2];rfl
 unfold Wk2 at H
 split at H
 ·rename_i x hx
  refine Wh3 ho (Builtin.len_ argTypes o.type (args.map ρ)) (λ_=>rfl) ?_
  rw [ea,hx]
  split at H
  ·rename_i t0 h0
   simp only [Builtin.len_,h0]
   simp only [List.getElem?_toArray,List.getElem?_cons_zero]
   split at H
   ·rename_i e hu
    obtain ⟨a,n,c,rfl,H2⟩:=We6 H
    simp only [Wa5,Wa8 (Wb9 hu (by simp)),Wb1];exact H2
   ·rename_i hu
    obtain ⟨a,rfl,H2⟩:=Wd6 H
    simp only [Wa5,Wa8 (Wb9 hu (by simp)),Wb1];exact H2
   ·rename_i e1 e2 hu
    obtain ⟨r,rfl,H2⟩:=Ws6 H
    simp only [Wa5,Wa8 (Wb9 hu (by simp)),Wb1]
    unfold YR3 at H2
    cases r with
    | none=>exact H2
    | some r=>
     simp only at H2
     split at H2
     ·rename_i es c hr
      simp only [Wa5,getObj,hp,hr];exact H2
     ·exact H2.elim
   ·rename_i n e hu
    simp only [Wa5,Wa8 (Wb9 hu (by simp)),Wb1];exact H
   ·exact H.elim
  ·exact H.elim
 ·rename_i x hx
  refine Wh3 ho (Builtin.cap_ argTypes o.type (args.map ρ)) (λ_=>rfl) ?_
  rw [ea,hx]
  split at H
  ·rename_i t0 h0
   simp only [Builtin.cap_,h0]
   simp only [List.getElem?_toArray,List.getElem?_cons_zero]
   split at H
   ·rename_i e hu
    obtain ⟨a,n,c,rfl,H2⟩:=We6 H
    simp only [Wa5,Wa8 (Wb9 hu (by simp)),Wb1];exact H2
   ·exact H.elim
  ·exact H.elim
 ·rename_i xs
  refine Wh3 ho (Builtin.append_ argTypes o.type (args.map ρ)) (λ_=>rfl) ?_
  rw [ea];exact H
 ·refine Wh3 ho (Builtin.copy_ argTypes o.type (args.map ρ)) (λ_=>rfl) ?_
  rw [ea];exact H
 ·refine Wh3 ho (Builtin.delete_ argTypes o.type (args.map ρ)) (λ_=>rfl) ?_
  rw [ea];exact H
 ·refine Wh3 ho (Builtin.unsafeSliceData_ argTypes o.type (args.map ρ)) (λ_=>rfl) ?_
  rw [ea];exact H
 ·refine Wh3 ho (Builtin.unsafeString_ argTypes o.type (args.map ρ)) (λ_=>rfl) ?_
  rw [ea];exact H
 ·refine Wh3 ho (Builtin.clear_ argTypes o.type (args.map ρ)) (λ_=>rfl) ?_
  rw [ea];exact H
 ·split at H
  ·rename_i k hk
   refine Wh3 ho (Builtin.max_ argTypes o.type (args.map ρ)) (λ_=>rfl) ?_
   rw [ea]
   exact WV1 (f:=WL6) (m:=Builtin.max2) (λ_ _ _=>rfl) hk _ _ H
  ·exact H
 ·split at H
  ·rename_i k hk
   refine Wh3 ho (Builtin.min_ argTypes o.type (args.map ρ)) (λ_=>rfl) ?_
   rw [ea]
   exact WV1 (f:=WL7) (m:=Builtin.min2) (λ_ _ _=>rfl) hk _ _ H
  ·exact H
 ·exact H
end
end
section
section
variable {P:Program} {ρ:Operand->Value} {h:Wa1} {K:kQ}
theorem W23 {o:Oper} {f:Operand} {args:Array Operand} {argTypes:Array TypeId} (ho:o.op=.call { callee:=.value f,args,argTypes })
  (H:Wl3 P (ρ f) (args.map ρ) h K):OpS P ρ o h K:=by
 intro w hw
 have e:execOp ρ o=(do let d <- Deferred.ofValue (ρ f) (args.map ρ);invoke d.target d.args):=by
  unfold execOp;rw [ho];rfl
 rw [e]
 unfold Wl3 at H
 split at H
 ·rename_i g first captured hf
  rw [hf]
  obtain ⟨he,hcall⟩:=H
  have hr:(do let d <- Deferred.ofValue (.func (.func g) first captured) (args.map ρ);invoke d.target d.args).run P w=.ok (.enter g (first ++ args.map ρ ++ captured)) w:=he _ w
  exact ⟨_,w,hr,hcall w hw⟩
 ·rename_i l first captured hf
  rw [hf]
  obtain ⟨fn,tmps,assign,body,hr,hround⟩:=H w hw
  exact ⟨_,w,hr,hround⟩
 ·exact H.elim
theorem Yg8 {o:Oper} {f:Operand} {args:Array Operand} {argTypes:Array TypeId} (ho:o.op=.call { callee:=.value f,args,argTypes })
  (H:Yp1 P (ρ f) (args.map ρ) h K):OpS P ρ o h K:=by
 have e:execOp ρ o=(do let d <- Deferred.ofValue (ρ f) (args.map ρ);invoke d.target d.args):=by
  unfold execOp;rw [ho];rfl
 unfold Yp1 at H
 split at H
 ·rename_i g first captured hf
  refine Wd2 ?_
  rw [e,hf]
  show hp P (callFunc g (first ++ args.map ρ ++ captured)) (nxt P K) h
  refine Wh8 ?_ H
  intro nx h' x
  cases nx <;> first | exact x | exact x.elim
 ·exact H.elim
theorem WV2 (o:Oper) (hc:∀v,ρ (.const v)=v) (H:vop P ρ o h K):OpS P ρ o h K:=by
 unfold vop at H
 split at H
 case h_1 x hx | h_2 x hx=>exact Wd2 (by unfold execOp;rw [hx];exact H)
 case h_3 c a b hx=>
  obtain ⟨t,ht,H⟩:=We5 H
  refine Wd2 ?_
  unfold execOp;rw [hx]
  simp only [ht,Go.asBool,Wa5,Wb1,nxt]
  have:=Yp7 H
  cases t <;> simpa using this
 case h_4 t hx=>
  refine Wd2 ?_
  unfold execOp;rw [hx]
  split at H
  ·rename_i z hz
   refine (WL3 _).mpr ?_
   simp only [Instr.alloc,Wa5,Wf6 hz,newVar,newRow,newObj,hp,Wb1]
   exact H
  ·exact H.elim
 case h_5 t x hx=>
  refine Wd2 ?_
  unfold execOp;rw [hx]
  have H:=Wt9 H
  refine (WL3 _).mpr ?_
  simp only [Instr.box,newVar,newRow,newObj,Wa5,hp,Wb1]
  simpa using H
 case h_6 t parts hx=>
  refine Wd2 ?_
  unfold execOp;rw [hx]
  refine (WL3 _).mpr ?_
  split at H
  ·rename_i hz
   obtain ⟨z,hz⟩:=WD9 hz
   simp only [Instr.build,Wa5,Wf6 hz,<- Wx9 hz]
   split at H
   ·rename_i fields hu
    split at H
    ·exact H.elim
    ·rename_i hall
     simp only [Wa8 (Wb9 hu (by simp))]
     obtain ⟨cs,h1,h2⟩:=WA0 _ _ _ H
     have hpl:∀(fs:List Field),(∀f ∈ fs,We9 P f.type=true)->∀(G:List (Nat × Nat)->Wa1->Prop),
       hp P (fs.mapM λf=>do pure (f.offset,<- sizeOf f.type)) G h=G (fs.map λf=>(f.offset,siz P f.type)) h:=by
      intro fs
      induction fs with
      | nil=>intro _ G;rfl
      | cons f fs ih=>
       intro hf G
       simp only [List.mapM_cons,Wa5,Wd4 (hf f (by simp)),Wb1,ih (λg hg=>hf g (by simp [hg])),List.map_cons]
     have hall2:∀f ∈ fields.toList,We9 P f.type=true:=by
      intro f hf
      have:fields.all (λf=>We9 P f.type)=true:=by simpa using hall
      rw [Array.all_eq_true'] at this
      exact this f (by simpa using hf)
     rw [Array.mapM_eq_mapM_toList]
     simp only [map_eq_pure_bind,Wa5,hpl fields.toList hall2,Wb1]
     have e:(λx:Nat=>((fields.toList.map λf=>(f.offset,siz P f.type)).toArray)[x]?)=(λi=>((fields[i]?).map λf=>(f.offset,f.type)).map λx=>(x.1,siz P x.2)):=by
      funext i;simp [Function.comp_def]
     have ep:(parts.map λx=>(x.1,ρ x.2)).toList=parts.toList.map λp=>(p.1,ρ p.2):=by simp
     rw [e,ep,h1]
     exact h2
   ·rename_i n elem hu
    split at H
    ·exact H.elim
    ·rename_i hth
     have hth:We9 P elem=true:=by simpa using hth
     simp only [Wa8 (Wb9 hu (by simp))]
     obtain ⟨cs,h1,h2⟩:=WA0 _ _ _ H
     simp only [Wa5,Wd4 hth]
     have ep:(parts.map λx=>(x.1,ρ x.2)).toList=parts.toList.map λp=>(p.1,ρ p.2):=by simp
     have e:(λi=>some (i*siz P elem,siz P elem))=(λi=>((λi=>some (i*siz P elem,elem)) i:Option (Nat × TypeId)).map λx=>(x.1,siz P x.2)):=by
      funext i;simp
     rw [e,ep,h1]
     exact h2
   ·exact H.elim
  ·exact H.elim
 case h_7 t len parts hx=>
  refine Wd2 ?_
  unfold execOp;rw [hx]
  refine (WL3 _).mpr ?_
  split at H
  ·rename_i elem hu
   split at H
   ·rename_i hh
    obtain ⟨hth,hle,hz,hl,h0⟩:=hh
    obtain ⟨z,hz⟩:=WD9 hz
    simp only [Instr.buildSlice,Wa5,Wa8 (Wb9 hu (by simp)),Wd4 hth]
    rw [if_neg (by omega)]
    obtain ⟨cs,h1,h2⟩:=WA0 _ _ _ H
    have ep:(parts.map λx=>(x.1,ρ x.2)).toList=parts.toList.map λp=>(p.1,ρ p.2):=by simp
    have e:(λi=>some (i*siz P elem,siz P elem))=(λi=>((λi=>some (i*siz P elem,elem)) i:Option (Nat × TypeId)).map λx=>(x.1,siz P x.2)):=by
     funext i;simp
    by_cases hl0:len=0
    ·subst hl0
     simp only [Nat.zero_mul,if_true,Wb1]
     have e0:∀zero:Array Value,(Array.range 0).map (λx=>zero[x % zero.size]!)=(([]:List Value)).toArray:=by intro z;simp [Array.range]
     simp only [List.replicate_zero,List.flatten_nil] at h1
     rw [Wa5,Wb1,e0,e,ep]
     simp only [Option.map_some] at h1 ⊢
     rw [h1]
     simp only [newRow,newObj,Wa5,hp,Wb1]
     exact h2
    ·rw [if_neg (by intro e;rcases Nat.mul_eq_zero.1 e with e | e <;> omega)]
     simp only [Wa5,Wf6 hz,Wb1,<- Wx9 hz]
     have:=YO9 (Wn8 P elem) len (by omega)
     rw [hl] at this
     rw [this,e,ep,h1]
     simp only [newRow,newObj,Wa5,hp,Wb1]
     exact h2
   ·exact H.elim
  ·exact H.elim
 case h_8 t x hx=>
  refine Wd2 ?_
  unfold execOp;rw [hx]
  refine (WL3 _).mpr ?_
  obtain ⟨a,ha,H⟩:=Wg2 H
  split at H
  ·rename_i hth
   simp only [Instr.loadAt,ha,Instr.sureAddr,Wa5,Wb1]
   exact WN2 hth H
  ·exact H.elim
 case h_9 t x y hx=>
  refine Wd2 ?_
  unfold execOp;rw [hx]
  refine (Y98 _).mpr ?_
  obtain ⟨a,ha,H⟩:=Wg2 H
  have H:=Wt9 H
  split at H
  ·rename_i hth
   simp only [Instr.storeAt,ha,Instr.sureAddr,Wa5,Wb1]
   exact W20 hth.1 hth.2 H
  ·exact H.elim
 case h_10 x hx=>
  refine Wd2 ?_
  unfold execOp;rw [hx]
  unfold Wc5 at H
  generalize hv:ρ x=v at H ⊢
  split at H <;> first
   | exact H.elim
   | skip
  rename_i n1 n2 n3 n4
  dsimp only
  rw [hv]
  cases v with
  | pointer a=>cases a with
   | none=>exact absurd rfl n1
   | some a=>exact H
  | nilIface=>exact absurd rfl n2
  | nilFunc=>exact absurd rfl n3
  | func f a b=>cases f with
   | method m=>exact absurd rfl (n4 _ _ _)
   | _=>exact H
  | _=>exact H
 case h_11 op xt x y yt hx=>exact Wd2 (Yg6 hx hc H)
 case h_12 op xt x hx=>
  refine Wd2 ?_
  split at H
  ·obtain ⟨b,hb,H⟩:=We5 H
   unfold execOp;rw [hx]
   refine (WL3 _).mpr ?_
   rw [hb];exact H
  ·obtain ⟨b,hb,H⟩:=Wd8 H
   unfold execOp;rw [hx]
   refine (WL3 _).mpr ?_
   rw [hb];exact H
  ·exact H
 case h_13 src dst x hx=>
  refine Wd2 ?_
  split at H
  ·rename_i hu1 hu2
   obtain ⟨b,hb,H⟩:=Wd8 H
   unfold execOp;rw [hx]
   refine (WL3 _).mpr ?_
   simp only [convert,Wa5,Wa8 (Wb9 hu1 (by simp)),Wa8 (Wb9 hu2 (by simp)),hb]
   exact H
  ·rename_i hu1 hu2
   obtain ⟨b,hb,H⟩:=Wd6 H
   unfold execOp;rw [hx]
   refine (WL3 _).mpr ?_
   simp only [convert,Wa5,Wa8 (Wb9 hu1 (by simp)),Wa8 (Wb9 hu2 (by simp)),hb]
   exact H
  ·unfold execOp;rw [hx]
   exact (WL3 _).mpr H
 case h_14 t x hx=>
  refine Wd2 ?_
  unfold execOp;rw [hx]
  refine (WL3 _).mpr ?_
  split at H
  ·exact H.elim
  ·exact H.elim
  ·rename_i n1 n2
   have hu:=Wb9 (P:=P) (t:=t) rfl n2
   simp only [Instr.makeInterface,Wa5,Wa8 hu]
   exact H
 case h_15 fn first captured hx=>
  refine Wd2 ?_
  unfold execOp;rw [hx]
  refine (WL3 _).mpr ?_
  rw [WQ2,WQ2] at H
  exact H
 case h_16 t hx=>
  refine Wd2 ?_
  unfold execOp;rw [hx]
  refine (WL3 _).mpr ?_
  exact H
 case h_17 t l c hx=>
  refine Wd2 ?_
  unfold execOp;rw [hx]
  refine (WL3 _).mpr ?_
  split at H
  ·rename_i elem hu
   obtain ⟨k1,l',hl,H⟩:=Wm8 H
   obtain ⟨k2,c',hc',H⟩:=Wm8 H
   rw [hl,hc']
   split at H
   ·rename_i hh
    exact WV0 (Wb9 hu (by simp)) hh.1 hh.2.1 hh.2.2.1 hh.2.2.2 H
   ·exact H.elim
  ·exact H.elim
 case h_18 t x lo hi mx hx=>
  refine Wd2 ?_
  unfold execOp;rw [hx]
  refine (WL3 _).mpr ?_
  split at H
  ·exact H.elim
  ·rename_i hm
   refine Yg7 ?_ H
   cases mx <;> cases hi <;> simp_all
 case h_19 t x f hx=>
  refine Wd2 ?_
  unfold execOp;rw [hx]
  refine (WL3 _).mpr ?_
  split at H
  ·rename_i fields hu
   split at H
   ·rename_i fd hf
    split at H
    ·rename_i hh
     obtain ⟨a,ha,H⟩:=Wg2 H
     simp only [Instr.fieldAt,Wa5,Wa8 (Wb9 hu (by simp)),hf,ha,Instr.sureAddr,Wb1,fieldPlace,Wd4 hh.1]
     rw [if_neg hh.2];exact H
    ·exact H.elim
   ·exact H.elim
  ·exact H.elim
 case h_20 t x f hx=>
  refine Wd2 ?_
  unfold execOp;rw [hx]
  refine (WL3 _).mpr ?_
  split at H
  ·rename_i fields hu
   split at H
   ·rename_i fd hf
    obtain ⟨cs,ha,H⟩:=Wj0 H
    unfold Wz8 at H
    split at H
    ·rename_i v hv
     split at H
     ·rename_i hth
      simp only [Instr.field,Wa5,Wa8 (Wb9 hu (by simp)),hf,ha,Go.asAgg,Wb1]
      rw [W21 hth hv];exact H
     ·exact H.elim
    ·exact H.elim
   ·exact H.elim
  ·exact H.elim
 case h_21 t x i hx=>
  refine Wd2 ?_
  unfold execOp;rw [hx]
  refine (WL3 _).mpr ?_
  split at H
  ·rename_i elem hu
   obtain ⟨a,len,cap,ha,H⟩:=We6 H
   obtain ⟨k,n,hi,h0,h1,H⟩:=Wm8 H
   obtain ⟨ad,had,H⟩:=Wg2 H
   cases had
   split at H
   ·rename_i hth
    simp only [Instr.indexAt,hi,asIntOf,Wa5,Wb1,Wa8 (Wb9 hu (by simp)),ha]
    rw [if_pos ⟨h0,h1⟩]
    simp only [Wa5,Wd4 hth,Wb1];exact H
   ·exact H.elim
  ·rename_i len elem hu
   obtain ⟨a,ha,H⟩:=Wg2 H
   obtain ⟨k,n,hi,h0,h1,H⟩:=Wm8 H
   split at H
   ·rename_i hth
    simp only [Instr.indexAt,hi,asIntOf,Wa5,Wb1,Wa8 (Wb9 hu (by simp)),ha,Instr.sureAddr]
    rw [if_pos ⟨h0,h1⟩]
    simp only [Wa5,Wd4 hth,Wb1];exact H
   ·exact H.elim
  ·exact H.elim
 case h_22 t x i hx=>
  refine Wd2 ?_
  unfold execOp;rw [hx]
  refine (WL3 _).mpr ?_
  split at H
  ·rename_i hu
   obtain ⟨s,ha,H⟩:=Wd6 H
   obtain ⟨k,n,hi,h0,h1,H⟩:=Wm8 H
   simp only [Instr.index,hi,asIntOf,Wa5,Wb1,Wa8 (Wb9 hu (by simp)),ha]
   have hs:n.toNat < s.size:=by omega
   unfold WM8 at H
   simp only [h0,if_true]
   rw [getElem?_pos s n.toNat hs] at H ⊢
   exact H
  ·rename_i len elem hu
   obtain ⟨cs,ha,H⟩:=Wj0 H
   obtain ⟨k,n,hi,h0,h1,H⟩:=Wm8 H
   unfold Wz8 at H
   split at H
   ·rename_i v hv
    split at H
    ·rename_i hth
     simp only [Instr.index,hi,asIntOf,Wa5,Wb1,Wa8 (Wb9 hu (by simp)),ha]
     rw [if_pos ⟨h0,h1⟩]
     simp only [Wa5,Wd4 hth]
     rw [W21 hth hv];exact H
    ·exact H.elim
   ·exact H.elim
  ·exact H.elim
 case h_23 t x i ok hx=>
  refine Wd2 ?_
  unfold execOp;rw [hx]
  exact (WL3 _).mpr H
 case h_24 t m k x hx=>
  refine Wd2 ?_
  unfold execOp;rw [hx]
  exact (Y98 _).mpr H
 case h_25 x i hx=>
  refine Wd2 ?_
  unfold execOp;rw [hx]
  refine (WL3 _).mpr ?_
  obtain ⟨vs,ha,H⟩:=WF0 H
  unfold Wc2 at H
  split at H
  ·rename_i v hv
   simp only [Instr.extract,ha,hv];exact H
  ·exact H.elim
 case h_26 b args argTypes hx=>exact Wd2 (WL8 hx H)
 case h_27 f args argTypes hx=>
  rw [WQ2] at H
  split at H
  ·exact Yg8 hx H
  ·exact W23 hx H
 case h_28=>exact H.elim
 case h_29=>exact Wd2 H
end
end
section
def upd (ρ:Env) (d:Nat) (v:Value):Env:=λj=>cond (Nat.beq j d) v (ρ j)
def Wx6 (ρ:Env) (d:Option Nat) (v:Value):Env:=match d with | some d=>upd ρ d v | none=>ρ
def evo (ρ:Env):Operand->Value
 | .tmp j=>ρ j
 | .const v=>v
 | .global g=>.pointer (some ⟨g,0,none⟩)
 | .func f=>.func (.func f) #[] #[]
def Yq1 (v:Value) (N:Prop) (F:Bool->Prop):Prop:=match v with | .bool b=>F b | _=>N
def Wy0 (ops:Array Oper) (ρ:Env) (g:Option (Nat × Bool)) (yes no:Env->Prop):Prop:=
 match g with
 | none=>yes ρ
 | some (j,want)=>match (ops[j]?).bind (·.dst) with
  | none=>no ρ
  | some d=>Yq1 (ρ d) (no ρ) λb=>ifB b (cond want (yes (upd ρ d (.bool true))) (no (upd ρ d (.bool true)))) (cond want (no (upd ρ d (.bool false))) (yes (upd ρ d (.bool false))))
def tyO (P:Program) (o:Oper) (v:Value) (K:Value->Prop):Prop:=
 match o.op with
 | .alloc _ | .store ..=>K v
 | _=>WE9 P o.type v K
def WL9 (P:Program) (ops:Array Oper):List Oper->Env->Wa1->(Env->Wa1->Prop)->Prop
 | [],ρ,h,K=>K ρ h
 | o :: rest,ρ,h,K=>Wy0 ops ρ o.guard
  (λρ=>vop P (evo ρ) o h λv h'=>tyO P o v λv=>WL9 P ops rest (Wx6 ρ o.dst v) h' K)
  (λρ=>WL9 P ops rest (Wx6 ρ o.dst Wn2) h K)
def Wk3 (P:Program) (o:Oper):Bool:=
 match o.op with
 | .move _ | .assign _ | .pick .. | .load .. | .nilCheck _ | .makeFunc .. | .fieldAddr .. | .field .. | .indexAddr .. | .index .. | .extract .. | .slice ..=>true
 | .binOp op xt _ y _=>(match und P xt with
  | .int _ | .bool=>true
  | .string=>(match op with | .eql | .neq | .add=>true | _=>false)
  | .pointer _=>(match op with | .eql | .neq=>Y45 y | _=>false)
  | .slice _=>(match op with | .eql | .neq=>Y46 y | _=>false)
  | .func _ _ _=>(match op with | .eql | .neq=>Y47 y | _=>false)
  | .struct _ | .array _ _=>true
  | _=>false)
 | .unOp op xt _=>(match op,und P xt with | .not,.bool=>true | .neg,.int _=>true | _,_=>false)
 | .convert s d _=>(match und P s,und P d with | .int _,.int _=>true | .string,.string=>true | _,_=>false)
 | .build ..=>true
 | .call { callee:=.builtin .len,argTypes,args }=>(match argTypes[0]?,args.toList with
  | some t,[_]=>(match und P t with | .slice _ | .string | .array _ _=>true | _=>false)
  | _,_=>false)
 | _=>false
def Wg3 (ops:Array Oper):Nat->Nat->Nat->Bool
 | 0,_,_=>false
 | n+1,e,i=>match ops[e]? with
  | none=>false
  | some o=>o.after.any λed=>Region.binds .any ed && (ed.on == i || Wg3 ops n ed.on i)
def WA1 (o:Oper):List Nat:=o.after.toList.filterMap λed=>match Region.binds .any ed with | true=>some ed.on | false=>none
def WC2 (ops:Array Oper) (i:Nat):Nat->List Nat->Nat->Bool
 | 0,_,_=>false
 | _+1,[],_=>false
 | n+1,e :: st,vis=>match Nat.testBit vis e with
  | true=>WC2 ops i n st vis
  | false=>match ops[e]? with
   | none=>WC2 ops i n st vis
   | some o=>match (WA1 o).any (Nat.beq i) with
    | true=>true
    | false=>WC2 ops i n (WA1 o ++ st) (Nat.lor vis (Nat.shiftLeft 1 e))
def YY4 (ops:Array Oper) (e i:Nat):Bool:=WC2 ops i ((ops.size+2)*(ops.size+2)) [e] 0
abbrev YY5:=List (Nat × List (Addr × Value))
def Yq2 (h:Wa1):List (Addr × Value)->Prop->Prop
 | [],X=>X
 | (a,u) :: L,X=>Wa3 h a=some u/\Yq2 h L X
def WN4 (ops:Array Oper) (e:Nat) (h:Wa1):YY5->Prop->Prop
 | [],X=>X
 | (i,L) :: r,X=>match YY4 ops e i with | true=>WN4 ops e h r X | false=>Yq2 h L (WN4 ops e h r X)
def Y62 (h:Wa1) (a:Addr) (i:Nat):Nat->List Value->List (Addr × Value)->(List Value->List (Addr × Value)->Prop)->Prop
 | 0,acc,L,K=>K acc.reverse L.reverse
 | n+1,acc,L,K=>ldH h (a.add i) λv=>Y62 h a (i+1) n (v :: acc) ((a.add i,v) :: L) K
def Y63 (P:Program) (ρ:Operand->Value) (o:Oper) (h:Wa1) (F:Value->List (Addr × Value)->Prop):Prop:=
 match o.op with
 | .load t x=>Wd1 (ρ x) λa=>if We9 P t then
  (if YE0 P t then Y62 h a 0 (siz P t) [] [] (λcs L=>F (.agg cs.toArray) L) else ldH h a λv=>F v [(a,v)]) else False
 | _=>vop P ρ o h λv _=>F v []
def Yb3 (P:Program) (ops:Array Oper) (listed:Array Bool):Option Nat:=
 (Region.ready .any ops listed).find? λi=>(match ops[i]? with | some o=>Wk3 P o | none=>false) && Region.free .any ops listed i
def Y64 (l:List Nat) (F:Nat->Prop):Prop:=
 match l with
 | []=>True
 | [i]=>F i
 | i :: j :: l=>F i/\Y64 (j :: l) F
def WQ3 (P:Program) (ops:Array Oper):Nat->Array Bool->YY5->Env->Wa1->(Env->Wa1->Prop)->Prop
 | 0,listed,_,ρ,h,K=>match Region.ready .any ops listed with | []=>K ρ h | _=>False
 | n+1,listed,held,ρ,h,K=>
  match Yb3 P ops listed with
  | some i=>(match ops[i]? with
   | none=>False
   | some o=>Wy0 ops ρ o.guard
    (λρ=>Y63 P (evo ρ) o h λv L=>tyO P o v λv=>WQ3 P ops n (listed.setIfInBounds i true) (match L with | []=>held | _=>(i,L) :: held) (Wx6 ρ o.dst v) h K)
    (λρ=>WQ3 P ops n (listed.setIfInBounds i true) held (Wx6 ρ o.dst Wn2) h K))
  | none=>(match Region.ready .any ops listed with
   | []=>K ρ h
   | rs=>Y64 rs λe=>(match ops[e]? with
    | none=>False
    | some o=>Wy0 ops ρ o.guard
     (λρ=>vop P (evo ρ) o h λv h'=>tyO P o v λv=>WN4 ops e h' held (WQ3 P ops n (listed.setIfInBounds e true) held (Wx6 ρ o.dst v) h' K))
     (λρ=>WN4 ops e h held (WQ3 P ops n (listed.setIfInBounds e true) held (Wx6 ρ o.dst Wn2) h K))))
def WC3 (ops:Array Oper):List Nat:=ops.toList.filterMap (·.dst)
def Y65 (o:Oper):Bool:=match o.op,o.dst with
 | .assign _,_=>true
 | .move (.tmp e),some d=>Nat.blt d e
 | _,_=>false
def YR4 (ops:Array Oper):List Nat:=ops.toList.filterMap λo=>match Y65 o with | true=>o.dst | false=>none
def W24 (ops:Array Oper):List Nat:=ops.toList.filterMap λo=>match o.op with | .pick ..=>o.dst | _=>none
def YY6 (n:Nat):List Nat->List Nat
 | []=>[n]
 | m :: l=>if n < m then n :: m :: l else if n=m then m :: l else m :: YY6 n l
def Wj9 (a b:List Nat):List Nat:=a.foldr YY6 b
def Wz5:Code->List Nat
 | .region _ ops _=>Wj9 (WC3 ops) []
 | .seq a b=>Wj9 (Wz5 a) (Wz5 b)
 | .cond c a b=>Wj9 (match c with | .tmp d=>[d] | _=>[]) (Wj9 (Wz5 a) (Wz5 b))
 | .block _ b | .loop b | .scope b=>Wz5 b
 | .rangeFunc ..=>[]
 | _=>[]
def WE0:Code->List Nat
 | .region _ ops _=>Wj9 (YR4 ops) []
 | .seq a b | .cond _ a b=>Wj9 (WE0 a) (WE0 b)
 | .block _ b | .loop b | .scope b=>WE0 b
 | _=>[]
def Wc6:Code->List Nat
 | .region _ ops _=>Wj9 (W24 ops) []
 | _=>[]
def YR5 (ops:Array Oper):Bool:=ops.any λo=>o.guard.isSome
def YY7 (id:Nat):Code->Nat
 | .seq a b | .cond _ a b=>YY7 id a+YY7 id b
 | .block _ b | .loop b | .scope b=>YY7 id b
 | .rangeFunc _ _ _ b=>YY7 id b
 | .exit j=>if j=id then 1 else 0
 | _=>0
def YR6:Code->Nat
 | .region _ ops _=>if YR5 ops then 2 else 1
 | .seq a b=>if YR6 a=0 then 0 else YR6 b
 | .cond _ a b=>YR6 a+YR6 b
 | .block id b=>YR6 b+YY7 id b
 | .loop _ | .exit _ | .ret | .goto _ | .refuse _=>0
 | .scope b=>YR6 b
 | _=>1
def Y66:Code->Bool
 | .skip | .exit _ | .ret=>true
 | .seq a b=>Y66 a && Y66 b
 | .region _ ops _=>ops.size<=2
 | _=>false
def YR7 (K:Env->Wa1->Prop) (Q:Exit->Env->Wa1->Prop):Exit->Env->Wa1->Prop
 | .normal,ρ,h=>K ρ h
 | e,ρ,h=>Q e ρ h
def YP0 (id:Nat) (Q:Exit->Env->Wa1->Prop):Exit->Env->Wa1->Prop
 | .exit j,ρ,h=>if j=id then Q .normal ρ h else Q (.exit j) ρ h
 | e,ρ,h=>Q e ρ h
def Y48:Nat->(List Value->Prop)->Prop
 | 0,F=>F []
 | n+1,F=>∀v,Y48 n λvs=>F (v :: vs)
def YE4 (vars:List Nat) (vs:List Value) (j:Nat) (d:Value):Value:=
 match vars,vs with
 | x :: xs,v :: vs=>cond (Nat.beq j x) v (YE4 xs vs j d)
 | _,_=>d
def Y49 (j:Nat):List Nat->Bool
 | []=>false
 | x :: xs=>cond (Nat.beq j x) true (Y49 j xs)
def Yb4 (ρ:Env) (ws vars:List Nat) (vs:List Value) (g:Env):Env:=λj=>YE4 vars vs j (cond (Y49 j ws) (g j) (ρ j))
def exI (F:(List Value->Wa1->Prop)->Prop):Prop:=∃I,F I
def exM (F:(List Value->Wa1->Nat)->Prop):Prop:=∃μ,F μ
def Y67 (n:Nat) (A:(List Value->Wa1->Prop)->Prop) (B:List Value->Env->Wa1->Prop):Prop:=
 exI λJ=>A J/\Y48 n λvs=>∀(g:Env) (h:Wa1),J vs h->B vs g h
def Y68 (n:Nat) (vs0:List Value) (h0:Wa1) (B:(List Value->Wa1->Prop)->(List Value->Wa1->Nat)->List Value->Env->Wa1->Prop):Prop:=
 exI λI=>exM λμ=>I vs0 h0/\Y48 n λvs=>∀(g:Env) (h:Wa1),I vs h->B I μ vs g h
def W25 (ρ:Env) (c:Operand) (b:Bool):Env:=match c with | .tmp d=>upd ρ d (.bool b) | _=>ρ
def YD4 (N M:Nat) (h1 h2:Wa1):Prop:=h1.size<=h2.size/\∀b,b < h1.size->(b < N\/M<=b)->h2[b]? = h1[b]?
def KeepMid (N M:Nat) (h1 h2:Wa1):Prop:=h1.size<=h2.size/\∀b,N<=b->b < M->h2[b]? = h1[b]?
def SameD (N:Nat) (h h':Wa1):Prop:=h'.size=h.size/\∀b:Nat,(b < N\/∀x,h[b]?≠some (.deferred x))->h'[b]? = h[b]?
theorem SameD.mono {N M:Nat} {h h':Wa1} (H:SameD N h h') (hM:M<=N):SameD M h h':=⟨H.1,λb hb=>H.2 b (hb.imp (λx=>Nat.lt_of_lt_of_le x hM) id)⟩
structure RangeOk {ε:Type} (N:Nat) (h:Wa1) (Ev:Wa1->Prop) (I:Nat->Nat->Wa1->Prop) (X:Nat->ε->Wa1->Prop):Prop where
 env:∀M k h',N<=M->M<=h'.size->I M k h'->Ev h'
 keepI:∀M k h1 h2,N<=M->M<=h1.size->I M k h1->YD4 N M h1 h2->I M k h2
 keepX:∀M e h1 h2,N<=M->M<=h1.size->X M e h1->YD4 N M h1 h2->X M e h2
 dI:∀M k h1 h2,SameD N h1 h2->I M k h1->I M k h2
 dX:∀M e h1 h2,SameD N h1 h2->X M e h1->X M e h2
 start:∀h1,h.size<=h1.size->(∀b,b < N->h1[b]? = h[b]?)->I h1.size 0 h1
def YP1 (P:Program) (g:Value) (n:Nat) (xs:Nat->Array Value) (Ev:Wa1->Prop):Prop:=
 ∀(yf:Fn) (y1 y2:Array Value) (h:Wa1) (N:Nat) (I:Nat->Nat->Wa1->Prop) (X:Nat->Unit->Wa1->Prop),N<=h.size->Ev h->RangeOk N h Ev I X ->
  (∀M k h',k < n->N<=M->h.size<=M->M<=h'.size->I M k h'->Wl3 P (.func yf y1 y2) (xs k) h' λv h''=>KeepMid N M h' h''/\((v=.bool true/\I M (k+1) h'')\/(v=.bool false/\X M () h''))) ->
  Wl3 P g #[.func yf y1 y2] h λ_ h'=>∃M,N<=M/\h.size<=M/\M<=h'.size/\(I M n h'\/X M () h')
def Wy1 (h:Wa1):List Obj->Wa1
 | []=>h
 | o :: os=>Wy1 (h.push o) os
def Y69:List Value->Prop->Prop
 | [],X=>X
 | v :: vs,X=>Wh0 v (Y69 vs X)
def Yb5 (P:Program):List Oper->Env->Nat->(Env->List Obj->Prop)->Prop
 | [],ρ,_,F=>F ρ []
 | { op:=.assign x,dst:=d,type:=ty,guard:=none,.. } :: rest,ρ,n,F=>WE9 P ty (evo ρ x) λv=>Yb5 P rest (Wx6 ρ d v) n F
 | { op:=.alloc t,dst:=some d,guard:=none,.. } :: { op:=.store t' (.tmp d') y,dst:=none,guard:=none,.. } :: rest,ρ,n,F=>
  if t=t'/\d=d'/\We9 P t/\(zer P t).isSome/\(Wn8 P t).length=siz P t then
   Ws5 P t (evo (upd ρ d (.pointer (some (aQ n)))) y) λcs=>if cs.length=siz P t then
    Y69 cs (Yb5 P rest (upd ρ d (.pointer (some (aQ n)))) (n+1) λρ' os=>F ρ' (.cells cs.toArray t :: os)) else False
  else False
 | _,_,_,_=>False
def WV3:Code->Option (List Oper)
 | .skip=>some []
 | .region _ ops false=>some ops.toList
 | _=>none
def Yg9 (ρ:Env) (vs:Array Value):List Nat->Nat->Env
 | [],_=>ρ
 | p :: ps,i=>Yg9 (upd ρ p (vs.getD i Wn2)) vs ps (i+1)
def fnV (v:Value):Prop:=match v with | .func (.func _) _ _=>True | _=>False
def Yq3 (P:Program) (g:Value) (np:Nat) (h:Wa1) (B:(Exit->Wa1->Prop)->Array Value->Wa1->Prop) (D:Wa1->Prop) (E:Exit->Wa1->Prop):Prop:=
 ∃(n:Nat) (xs:Nat->Array Value) (Ev:Wa1->Prop) (I:Nat->Nat->Wa1->Prop) (X:Nat->Exit->Wa1->Prop),
  fnV g/\YP1 P g n xs Ev/\(∀k,k < n->(xs k).size=np)/\Ev h/\RangeOk h.size h Ev I X /\
  (∀M k h',k < n->h.size+2<=M->M<=h'.size->I M k h'->B (λe h''=>KeepMid h.size M h' h''/\(match e with | .normal=>I M (k+1) h'' | e=>X M e h'')) (xs k) h') /\
  (∀M h',h.size+2<=M->M<=h'.size->I M n h'->D h') /\
  (∀M e h',h.size+2<=M->M<=h'.size->X M e h'->E e h')
def eqE:Exit->Exit->Bool
 | .ret,.ret=>true
 | .exit i,.exit j=>Nat.beq i j
 | _,_=>false
def inE (e:Exit):List (Exit × (Wa1->Prop))->Prop
 | []=>False
 | p :: ps=>match eqE e p.1 with | true=>True | false=>inE e ps
def YY8 (X:Exit->(Wa1->Prop)->Prop):List (Exit × (Wa1->Prop))->Prop
 | []=>True
 | p :: ps=>X p.1 p.2/\YY8 X ps
def WF2 (P:Program) (g:Value) (np:Nat) (h:Wa1) (B:(Exit->Wa1->Prop)->Array Value->Wa1->Prop) (D:Wa1->Prop) (Es:List (Exit × (Wa1->Prop))):Prop:=
 ∃(n:Nat) (xs:Nat->Array Value) (Ev:Wa1->Prop) (I:Nat->Nat->Wa1->Prop) (X:Nat->Exit->Wa1->Prop),
  fnV g/\YP1 P g n xs Ev/\(∀k,k < n->(xs k).size=np)/\Ev h/\RangeOk h.size h Ev I X /\
  (∀M k h',k < n->h.size+2<=M->M<=h'.size->I M k h'->B (λe h''=>KeepMid h.size M h' h''/\(match e with | .normal=>I M (k+1) h'' | e=>inE e Es/\X M e h'')) (xs k) h') /\
  (∀M h',h.size+2<=M->M<=h'.size->I M n h'->D h') /\
  YY8 (λe F=>∀M h',h.size+2<=M->M<=h'.size->X M e h'->F h') Es
theorem YY9 {a b:Exit} (h:eqE a b=true):a=b:=by
 cases a <;> cases b <;> simp [eqE] at h <;> first | rfl | (subst h;rfl) | exact h.elim
theorem Yh0 {P:Program} {g:Value} {np:Nat} {h:Wa1} {B:(Exit->Wa1->Prop)->Array Value->Wa1->Prop} {D:Wa1->Prop} {E:Exit->Wa1->Prop} {es:List Exit}
  (H:WF2 P g np h B D (es.map λe=>(e,E e))):Yq3 P g np h B D E:=by
 obtain ⟨n,xs,Ev,I,X,h1,h2,h3,h4,h5,h6,h7,h8⟩:=H
 refine ⟨n,xs,Ev,I,λM e h'=>inE e (es.map λe=>(e,E e))/\X M e h',h1,h2,h3,h4,?_,h6,h7,?_⟩
 ·exact { env:=h5.env,keepI:=h5.keepI,keepX:=λM e a b c d e f=>⟨e.1,h5.keepX M _ a b c d e.2 f⟩,dI:=h5.dI,dX:=λM e a b c d=>⟨d.1,h5.dX M _ a b c d.2⟩,start:=h5.start }
 ·rintro M e h' hM hM' ⟨hi,hx⟩
  clear h6
  induction es with
  | nil=>exact hi.elim
  | cons e0 es ih=>
   simp only [List.map,inE,YY8] at hi h8
   cases hq:eqE e e0 with
   | true=>have:=YY9 hq;subst this;exact h8.1 M h' hM hM' hx
   | false=>rw [hq] at hi;exact ih h8.2 hi
def YP2 (e:Exit):List Exit->Bool
 | []=>false
 | x :: xs=>eqE e x || YP2 e xs
def Y70 (a b:List Exit):List Exit:=a.foldr (λe l=>if YP2 e l then l else e :: l) b
def WA2:Code->List Exit
 | .seq a b | .cond _ a b=>Y70 (WA2 a) (WA2 b)
 | .block id b=>(WA2 b).filter λe=>!(eqE e (.exit id))
 | .loop b | .scope b=>WA2 b
 | .rangeFunc _ _ _ b=>WA2 b
 | .exit id=>[.exit id]
 | .ret=>[.ret]
 | _=>[]
def vc (P:Program):Code->(Exit->Env->Wa1->Prop)->Env->Wa1->Prop
 | .skip,Q,ρ,h=>Q .normal ρ h
 | .region _ ops false,Q,ρ,h=>WL9 P ops ops.toList ρ h (Q .normal)
 | .region _ ops true,Q,ρ,h=>WQ3 P ops ops.size (Array.replicate ops.size false) [] ρ h (Q .normal)
 | .seq a b,Q,ρ,h=>
  if YR6 a<=1 || Y66 b then vc P a (YR7 (vc P b Q) Q) ρ h else
  Y67 (Wj9 (WE0 a) (Wc6 a)).length
   (λJ=>vc P a (YR7 (λρ' h'=>J ((Wj9 (WE0 a) (Wc6 a)).map ρ') h') Q) ρ h)
   (λvs g h'=>vc P b Q (Yb4 ρ (Wz5 a) (Wj9 (WE0 a) (Wc6 a)) vs g) h')
 | .cond c x y,Q,ρ,h=>asBool (evo ρ c) λb=>ifB b (vc P x Q (W25 ρ c true) h) (vc P y Q (W25 ρ c false) h)
 | .block id b,Q,ρ,h=>vc P b (YP0 id Q) ρ h
 | .loop b,Q,ρ,h=>Y68 (WE0 b).length ((WE0 b).map ρ) h λI μ vs g h'=>
   vc P b (YR7 (λρ' h''=>I ((WE0 b).map ρ') h''/\μ ((WE0 b).map ρ') h'' < μ vs h') Q) (Yb4 ρ (Wz5 b) (WE0 b) vs g) h'
 | .rangeFunc g ps assign body,Q,ρ,h=>
  WF2 P (evo ρ g) ps.size h
   (λK vs h'=>match WV3 assign with
    | some ops=>Yb5 P ops (Yg9 ρ vs ps.toList 0) h'.size λρ1 os=>vc P body (λe _ h''=>K e h'') ρ1 (Wy1 h' os)
    | none=>False)
   (λh'=>Q .normal ρ h') ((WA2 body).map λe=>(e,λh'=>Q e ρ h'))
 | .exit id,Q,ρ,h=>Q (.exit id) ρ h
 | .ret,Q,ρ,h=>Q .ret ρ h
 | .label _,Q,ρ,h=>Q .normal ρ h
 | .scope b,Q,ρ,h=>vc P b Q ρ h
 | .goto _,_,_,_=>False
 | .refuse _,_,_,_=>False
end
section
def FW (r:Option Nat):Fence:={ fn:=λ_=>True,depth:=none,alive:=false,round:=r }
theorem Yh1 {r:Option Nat} {P:Program} {f:FuncId} {args:Array Value} {w:World} {R:Ending->World->Prop} (h:CallsIn Fence.wide 0 P f args w R):CallsIn (FW r) 0 P f args w R:=h
theorem Yh2 {r:Option Nat} {P:Program} {l:Nat} {f:FuncId} {t:Array Value} {x y:Code} {w:World} {R:Ending->World->Prop} (h:RoundIn Fence.wide 0 P l f t x y w R):RoundIn (FW r) 0 P l f t x y w R:=h
structure Rl (n:Nat) (t:Array Value) (ρ:Env):Prop where
 size:t.size=n
 get:∀j,t.getD j undef=ρ j
theorem Wq5 (ρ:Env) (d:Nat) (v:Value):upd ρ d v d=v:=by simp [upd]
theorem Wv6 (ρ:Env) {d j:Nat} (v:Value) (h:j≠d):upd ρ d v j=ρ j:=by
 have:Nat.beq j d=false:=Bool.eq_false_iff.2 λe=>h (Nat.eq_of_beq_eq_true e)
 simp [upd,this]
theorem Yb6 {ρ:Env} {d:Nat} {v:Value} (h:ρ d=v):upd ρ d v=ρ:=by
 funext j;by_cases e:j=d
 ·subst e;rw [Wq5,h]
 ·rw [Wv6 _ _ e]
section
variable {n:Nat} {t:Array Value} {ρ:Env} {a:Act}
theorem Rl.eval (h:Rl n a.tmps ρ):a.eval=evo ρ:=by
 funext x;cases x with
 | tmp j=>exact h.get j
 | _=>rfl
theorem Rl.put (h:Rl n a.tmps ρ) {d:Option Nat} (v:Value) (hd:∀j,d=some j->j < n):Rl n (a.put d v).tmps (Wx6 ρ d v):=by
 cases d with
 | none=>exact h
 | some d=>
  refine ⟨by simp [Act.put,h.size],λj=>?_⟩
  have hlt:d < a.tmps.size:=by rw [h.size];exact hd d rfl
  simp only [Act.put,Wx6]
  by_cases e:j=d
  ·subst e;rw [Wq5];simp [Array.getD_eq_getD_getElem?,hlt]
  ·rw [Wv6 _ _ e,<- h.get j]
   simp [Array.getD_eq_getD_getElem?,Array.getElem?_setIfInBounds_ne (Ne.symm e)]
theorem Wu0 (d:Option Nat) (v:Value):(a.put d v).defers=a.defers:=by cases d <;> rfl
def Ws0 (ops:Array Oper) (ρ:Env) (j:Nat):Option Bool:=
 match (ops[j]?).bind (·.dst) with
 | none=>none
 | some d=>match ρ d with | .bool b=>some b | _=>none
def WA3 (ops:Array Oper) (ρ:Env) (g:Option (Nat × Bool)):Bool:=
 match g with
 | none=>true
 | some (j,want)=>Ws0 ops ρ j == some want
theorem Yh3 {ops:Array Oper} (h:Rl n a.tmps ρ) (j:Nat):yielded ops a.tmps j=Ws0 ops ρ j:=by
 unfold yielded Ws0
 cases hd:(ops[j]?).bind (·.dst) with
 | none=>rfl
 | some d=>
  simp only [Option.bind_some]
  have:=h.get d
  cases hv:a.tmps[d]? with
  | none=>simp [Array.getD_eq_getD_getElem?,hv] at this;simp [<- this,undef]
  | some v=>simp [Array.getD_eq_getD_getElem?,hv] at this;subst this;cases ρ d <;> rfl
theorem WV4 {ops:Array Oper} {o:Oper} (h:Rl n a.tmps ρ):Region.wanted o (yielded ops a.tmps)=WA3 ops ρ o.guard:=by
 unfold Region.wanted WA3
 cases o.guard with
 | none=>rfl
 | some g=>obtain ⟨j,want⟩:=g;simp only [Yh3 h]
theorem WA4 {ops:Array Oper} {g:Option (Nat × Bool)} {yes no:Env->Prop} (H:Wy0 ops ρ g yes no):if WA3 ops ρ g then yes ρ else no ρ:=by
 unfold Wy0 at H
 cases g with
 | none=>exact H
 | some g=>
  obtain ⟨j,want⟩:=g
  simp only at H
  cases hd:(ops[j]?).bind (·.dst) with
  | none=>
   rw [hd] at H
   have hy:Ws0 ops ρ j=none:=by unfold Ws0;rw [hd]
   simp only [WA3,hy];exact H
  | some d=>
   rw [hd] at H;simp only at H
   unfold Yq1 at H
   cases hv:ρ d with
   | bool b=>
    have hy:Ws0 ops ρ j=some b:=by unfold Ws0;rw [hd];simp only [hv]
    rw [hv] at H;simp only at H
    simp only [WA3,hy]
    cases b <;> cases want <;> simp [ifB] at H ⊢ <;> rw [Yb6 hv] at H <;> exact H
   | _=>
    have hy:Ws0 ops ρ j=none:=by unfold Ws0;rw [hd];simp only [hv]
    rw [hv] at H;simp only [WA3,hy];exact H
end
section
variable {P:Program} {n:Nat} {ρ:Env} {a:Act} {w:World} {h:Wa1} {K:kQ} {Q:Exit->Act->World->Prop} {r:Option Nat}
def Wl6 (o:Oper):Bool:=match o.op with | .defer _=>false | .select ..=>false | _=>true
def Yh4 (n:Nat) (o:Oper):Bool:=Wl6 o && (match o.dst with | some d=>decide (d < n) | none=>true)
theorem WE1 {o:Oper} (ho:Yh4 n o=true):∀d,o.dst=some d->d < n:=by
 intro d hd;unfold Yh4 at ho;rw [hd] at ho;simp at ho;exact ho.2
theorem Yh5 {o:Oper} (ho:Yh4 n o=true):∀c,o.op≠.defer c:=by
 intro c hc;unfold Yh4 Wl6 at ho;rw [hc] at ho;simp at ho
theorem Yq4 {o:Oper} (H:OpS P (evo ρ) o h K) (hR:Rl n a.tmps ρ) (hw:w.heap=h) (ho:Yh4 n o=true) {next:Act->World->Prop}
  (hnext:∀v w',K v w'.heap->Kw w w'->next (a.put o.dst v) w'):o.wpIn (FW r) 0 P a w next Q:=by
 refine ⟨λ_ _=>trivial,?_⟩
 rw [Oper.semAt_eq _ _ _ (Yh5 ho),hR.eval]
 obtain ⟨nx,w',hrun,hn⟩:=H w hw
 rw [hrun]
 have hcall:∀ {e:Ending} {w'':World},onH w K e w''->(match e,w'' with
   | .returned v,w''=>next (a.put o.dst v) w''
   | .panicked chain,w''=>Q (.panic chain) a w''
   | .outgrown,_=>LetsOut Q):=by
  intro e w'' x
  cases e <;> first | exact hnext _ _ x.1 x.2 | exact x.elim
 cases nx <;> simp only [Oper.uponIn]
 case value v=>exact hnext _ _ hn.1 hn.2
 case skip=>exact hnext _ _ hn.1 hn.2
 case enter f args=>exact ⟨by simp [FW],(Yh1 hn).mono λe w'' x=>hcall x⟩
 case round l f tmps assign body=>exact ⟨by simp [FW],(Yh2 hn).mono λe w'' x=>hcall x⟩
 all_goals exact hn.elim
def SmT (ws:List Nat) (t t':Array Value):Prop:=∀j,j ∉ ws->t'.getD j undef=t.getD j undef
theorem SmT.refl (ws:List Nat) (t:Array Value):SmT ws t t:=λ_ _=>rfl
theorem SmT.trans {ws:List Nat} {a b c:Array Value} (h1:SmT ws a b) (h2:SmT ws b c):SmT ws a c:=λj hj=>(h2 j hj).trans (h1 j hj)
theorem SmT.mono {ws ws':List Nat} {a b:Array Value} (h:SmT ws a b) (hs:∀j ∈ ws,j ∈ ws'):SmT ws' a b:=λj hj=>h j (λx=>hj (hs j x))
theorem SmT.put {ws:List Nat} (a:Act) (d:Option Nat) (v:Value) (hd:∀j,d=some j->j ∈ ws):SmT ws a.tmps (a.put d v).tmps:=by
 intro j hj
 cases d with
 | none=>rfl
 | some d=>
  have:d≠j:=λe=>hj (by subst e;exact hd _ rfl)
  simp [Act.put,Array.getD_eq_getD_getElem?,Array.getElem?_setIfInBounds_ne this]
def pstep (P:Program) (ops:Array Oper) (i:Nat) (ρ:Env) (h:Wa1) (K:Env->Wa1->Prop):Prop:=
 match ops[i]? with
 | none=>K ρ h
 | some o=>if WA3 ops ρ o.guard then vop P (evo ρ) o h (λv h'=>K (Wx6 ρ o.dst v) h') else K (Wx6 ρ o.dst Wn2) h
theorem WV5 {ops:Array Oper} {i:Nat} {K:Env->Wa1->Prop} (H:pstep P ops i ρ h K) (hR:Rl n a.tmps ρ) (hw:w.heap=h) (ho:∀o,ops[i]? = some o->Yh4 n o=true)
  {ws:List Nat} (hws:∀o,ops[i]? = some o->∀d,o.dst=some d->d ∈ ws)
  {next:Act->World->Prop} (hnext:∀ρ' a' w',K ρ' w'.heap->Rl n a'.tmps ρ'->SmT ws a.tmps a'.tmps->a'.defers=a.defers->Kw w w'->next a' w'):wpOpIn (FW r) 0 P ops Q i next a w:=by
 unfold pstep at H
 unfold wpOpIn
 cases hi:ops[i]? with
 | none=>rw [hi] at H;subst hw;exact hnext ρ a w H hR (SmT.refl _ _) rfl (Kw.refl _)
 | some o=>
  rw [hi] at H
  simp only at H ⊢
  rw [WV4 hR]
  split
  ·rename_i hwt
   rw [if_pos hwt] at H
   exact Yq4 (WV2 o (λ_=>rfl) H) hR hw (ho o hi) λv w' hk hkd=>hnext _ _ w' hk (hR.put v (WE1 (ho o hi))) (SmT.put _ _ _ (hws o hi)) (Wu0 _ _) hkd
  ·rename_i hwt
   rw [if_neg hwt] at H
   subst hw
   exact ⟨λ_ _=>trivial,hnext _ _ w H (hR.put _ (WE1 (ho o hi))) (SmT.put _ _ _ (hws o hi)) (Wu0 _ _) (Kw.refl _)⟩
theorem Yb7 {n:Nat} {v:Value} {F:Value->Prop} (H:YR1 n v F):F v:=by
 unfold YR1 at H
 split at H
 ·obtain ⟨cs,e,H⟩:=Wj0 H
  rw [e]
  unfold Wg6 at H
  split at H
  ·rename_i hn
   have:=WN1 _ _ _ H
   have hn:=Nat.eq_of_beq_eq_true hn
   simp only [List.reverse_nil,List.nil_append,List.drop_zero] at this
   rw [List.take_of_length_le (by simp [hn])] at this
   exact this
  ·exact H.elim
 ·exact H
theorem Yh6 {P:Program} {t:TypeId} {v:Value} {F:Value->Prop} (H:WE9 P t v F):F v:=by
 unfold WE9 at H
 split at H
 ·obtain ⟨_,e,H⟩:=We5 H;rw [e];exact H
 ·obtain ⟨_,e,H⟩:=Wd8 H;rw [e];exact H
 ·obtain ⟨_,e,H⟩:=Wd6 H;rw [e];exact H
 ·obtain ⟨_,_,_,e,H⟩:=We6 H;rw [e];exact H
 ·obtain ⟨_,e,H⟩:=Wh2 H;rw [e];exact H
 ·obtain ⟨_,e,H⟩:=Ws6 H;rw [e];exact H
 ·exact Yb7 H
 ·exact Yb7 H
 ·exact H
theorem W26 {P:Program} {o:Oper} {v:Value} {F:Value->Prop} (H:tyO P o v F):F v:=by
 unfold tyO at H
 split at H
 ·exact H
 ·exact H
 ·exact Yh6 H
def Yq5 (P:Program) (ops:Array Oper) (i:Nat) (ρ:Env) (h:Wa1) (K:Env->Wa1->Prop):Prop:=
 match ops[i]? with
 | none=>K ρ h
 | some o=>if WA3 ops ρ o.guard then vop P (evo ρ) o h (λv h'=>tyO P o v λv=>K (Wx6 ρ o.dst v) h') else K (Wx6 ρ o.dst Wn2) h
theorem WQ4 {ops:Array Oper} {i:Nat} {K:Env->Wa1->Prop} (H:Yq5 P ops i ρ h K) (hR:Rl n a.tmps ρ) (hw:w.heap=h) (ho:∀o,ops[i]? = some o->Yh4 n o=true)
  {ws:List Nat} (hws:∀o,ops[i]? = some o->∀d,o.dst=some d->d ∈ ws)
  {next:Act->World->Prop} (hnext:∀ρ' a' w',K ρ' w'.heap->Rl n a'.tmps ρ'->SmT ws a.tmps a'.tmps->a'.defers=a.defers->Kw w w'->next a' w'):wpOpIn (FW r) 0 P ops Q i next a w:=by
 unfold Yq5 at H
 unfold wpOpIn
 cases hi:ops[i]? with
 | none=>rw [hi] at H;subst hw;exact hnext ρ a w H hR (SmT.refl _ _) rfl (Kw.refl _)
 | some o=>
  rw [hi] at H
  simp only at H ⊢
  rw [WV4 hR]
  split
  ·rename_i hwt
   rw [if_pos hwt] at H
   exact Yq4 (WV2 o (λ_=>rfl) H) hR hw (ho o hi) λv w' hk hkd=>hnext _ _ w' (W26 hk) (hR.put v (WE1 (ho o hi))) (SmT.put _ _ _ (hws o hi)) (Wu0 _ _) hkd
  ·rename_i hwt
   rw [if_neg hwt] at H
   subst hw
   exact ⟨λ_ _=>trivial,hnext _ _ w H (hR.put _ (WE1 (ho o hi))) (SmT.put _ _ _ (hws o hi)) (Wu0 _ _) (Kw.refl _)⟩
def WV6 (n:Nat) (ops:Array Oper):Bool:=ops.toList.all (Yh4 n)
theorem WQ5 {ops:Array Oper} (ho:WV6 n ops=true) (i:Nat) (o:Oper) (hi:ops[i]? = some o):Yh4 n o=true:=by
 unfold WV6 at ho;rw [List.all_eq_true] at ho
 exact ho o (Array.mem_toList_iff.2 (Array.mem_of_getElem? hi))
theorem Wy2 {ops:Array Oper} (ho:WV6 n ops=true) {ws:List Nat} (hws:∀(i:Nat) (o:Oper),ops[i]? = some o->∀d,o.dst=some d->d ∈ ws) {K:Env->Wa1->Prop} (l:List Oper):∀(k:Nat),(∀j,l[j]? = ops[k+j]?)->∀(ρ:Env) (h:Wa1) (a:Act) (w:World),
  WL9 P ops l ρ h K->Rl n a.tmps ρ->w.heap=h ->
  (∀ρ' a' w',K ρ' w'.heap->Rl n a'.tmps ρ'->SmT ws a.tmps a'.tmps->a'.defers=a.defers->Kw w w'->Q .normal a' w')->wpOpsIn (FW r) 0 P ops Q (List.range' k l.length) a w:=by
 induction l with
 | nil=>intro k _ ρ h a w H hR hw hQ;subst hw;exact hQ ρ a w H hR (SmT.refl _ _) rfl (Kw.refl _)
 | cons o l ih=>
  intro k hk ρ h a w H hR hw hQ
  have h0:ops[k]? = some o:=by simpa using (hk 0).symm
  have ih':=ih (k+1) (λj=>by have:=hk (j+1);simpa [Nat.add_assoc,Nat.add_comm 1 j] using this)
  simp only [List.length_cons,List.range'_succ,wpOpsIn_cons]
  have H:=WA4 H
  refine WQ4 (n:=n) (K:=λρ' h'=>WL9 P ops l ρ' h' K) ?_ hR hw (λo' ho'=>WQ5 ho k o' ho') (hws k) ?_
  ·unfold Yq5;rw [h0];exact H
  ·intro ρ' a' w' hl hR' hs hd hkd
   refine ih' ρ' _ a' w' hl hR' rfl ?_
   intro ρ'' a'' w'' hK hR'' hs' hd' hkd'
   exact hQ ρ'' a'' w'' hK hR'' (hs.trans hs') (hd'.trans hd) (hkd.trans hkd')
end
end
section
section
variable {P:Program} {h:Wa1} {K:kQ}
theorem Yq6 {ρ ρ':Operand->Value} {o:Oper} (hp0:Wl6 o=true) (hh:∀x ∈ o.op.operands,ρ x=ρ' x):opH P ρ o h K=opH P ρ' o h K:=by
 unfold opH
 rw [execOp_congr o (λcs b e=>by unfold Wl6 at hp0;rw [e] at hp0;simp at hp0) hh]
theorem Yh7 {ρ ρ':Operand->Value} {op:BinOp} {xt yt:TypeId} {x y:Operand} {o:Oper} (hx:ρ x=ρ' x) (hy:ρ y=ρ' y) (ho:opH P ρ o h K=opH P ρ' o h K) :
  Yp2 P op xt yt x y ρ o h K=Yp2 P op xt yt x y ρ' o h K:=by
 unfold Yp2;simp only [hx,hy,ho]
theorem Yq7 {ρ ρ':Operand->Value} {o:Oper} (hp0:Wl6 o=true) (hh:∀x ∈ o.op.operands,ρ x=ρ' x):vop P ρ o h K=vop P ρ' o h K:=by
 have ho:=Yq6 (P:=P) (h:=h) (K:=K) hp0 hh
 unfold vop
 split
 case h_1 x hx | h_2 x hx | h_5 t x hx | h_8 t x hx | h_10 x hx | h_12 op xt x hx | h_13 s d x hx | h_14 t x hx | h_19 t x f hx | h_20 t x f hx | h_25 x i hx=>
  rw [hx] at hh
  have e:ρ x=ρ' x:=hh x (by simp [Op.operands])
  simp only [e,ho]
 case h_3 c a b hx=>
  rw [hx] at hh
  have e1:ρ c=ρ' c:=hh c (by simp [Op.operands])
  have e2:ρ a=ρ' a:=hh a (by simp [Op.operands])
  have e3:ρ b=ρ' b:=hh b (by simp [Op.operands])
  simp only [e1,e2,e3]
 case h_4 | h_16=>rfl
 case h_6 t parts hx=>
  rw [hx] at hh
  have e:(parts.toList.map λp=>(p.1,ρ p.2))=(parts.toList.map λp=>(p.1,ρ' p.2)):=by
   apply List.map_congr_left
   intro p hp1
   have:ρ p.2=ρ' p.2:=hh p.2 (by simp only [Op.operands];simp;exact ⟨p.1,by simpa using hp1⟩)
   rw [this]
  simp only [e]
 case h_7 t len parts hx=>
  rw [hx] at hh
  have e:(parts.toList.map λp=>(p.1,ρ p.2))=(parts.toList.map λp=>(p.1,ρ' p.2)):=by
   apply List.map_congr_left
   intro p hp1
   have:ρ p.2=ρ' p.2:=hh p.2 (by simp only [Op.operands];simp;exact ⟨p.1,by simpa using hp1⟩)
   rw [this]
  simp only [e]
 case h_9 t x y hx=>
  rw [hx] at hh
  have e1:ρ x=ρ' x:=hh x (by simp [Op.operands])
  have e2:ρ y=ρ' y:=hh y (by simp [Op.operands])
  simp only [e1,e2]
 case h_11 op xt x y yt hx=>
  rw [hx] at hh
  have e1:ρ x=ρ' x:=hh x (by simp [Op.operands])
  have e2:ρ y=ρ' y:=hh y (by simp [Op.operands])
  exact Yh7 e1 e2 ho
 case h_15 fn first captured hx=>
  rw [hx] at hh
  have e1:W18 ρ first=W18 ρ' first:=by unfold W18;congr 1;apply List.map_congr_left;intro x hx1;exact hh x (by simp [Op.operands,(Array.mem_toList_iff.1 hx1)])
  have e2:W18 ρ captured=W18 ρ' captured:=by unfold W18;congr 1;apply List.map_congr_left;intro x hx1;exact hh x (by simp [Op.operands,(Array.mem_toList_iff.1 hx1)])
  simp only [e1,e2]
 case h_17 t x y hx | h_21 t x y hx | h_22 t x y hx | h_23 t x y ok hx=>
  rw [hx] at hh
  have e1:ρ x=ρ' x:=hh x (by simp [Op.operands])
  have e2:ρ y=ρ' y:=hh y (by simp [Op.operands])
  simp only [e1,e2]
 case h_18 t x lo hi mx hx=>
  rw [hx] at hh
  have e1:ρ x=ρ' x:=hh x (by simp [Op.operands])
  have e2:lo.map ρ=lo.map ρ':=by cases lo with | none=>rfl | some l=>simp only [Option.map_some];rw [hh l (by simp [Op.operands])]
  have e3:hi.map ρ=hi.map ρ':=by cases hi with | none=>rfl | some l=>simp only [Option.map_some];rw [hh l (by simp [Op.operands])]
  have e4:mx.map ρ=mx.map ρ':=by cases mx with | none=>rfl | some l=>simp only [Option.map_some];rw [hh l (by simp [Op.operands])]
  simp only [e1,e2,e3,e4]
 case h_24 t m k x hx=>
  rw [hx] at hh
  have e1:ρ m=ρ' m:=hh m (by simp [Op.operands])
  have e2:ρ k=ρ' k:=hh k (by simp [Op.operands])
  have e3:ρ x=ρ' x:=hh x (by simp [Op.operands])
  simp only [e1,e2,e3]
 case h_26 b args argTypes hx=>
  rw [hx] at hh
  have e1:args.toList.map ρ=args.toList.map ρ':=by apply List.map_congr_left;intro x hx1;exact hh x (by simp [Op.operands,Call.operands,(Array.mem_toList_iff.1 hx1)])
  unfold Wk2
  simp only [e1,ho]
 case h_27 f args argTypes hx=>
  rw [hx] at hh
  have e1:W18 ρ args=W18 ρ' args:=by unfold W18;congr 1;apply List.map_congr_left;intro x hx1;exact hh x (by simp [Op.operands,Call.operands,(Array.mem_toList_iff.1 hx1)])
  have e2:ρ f=ρ' f:=hh f (by simp [Op.operands,Call.operands])
  simp only [e1,e2]
 case h_28=>rfl
 case h_29=>exact ho
theorem YR8 {ρ:Env} {d:Option Nat} {v:Value} {x:Operand} (hx:∀j,d=some j->x≠.tmp j):evo (Wx6 ρ d v) x=evo ρ x:=by
 cases d with
 | none=>rfl
 | some d=>cases x with
  | tmp j=>exact Wv6 _ _ (λe=>hx d rfl (by rw [e]))
  | _=>rfl
theorem Yq8 {ρ:Env} {ops:Array Oper} {o:Oper} {d:Option Nat} {v:Value} (hp0:Wl6 o=true) (hd:∀j,d=some j->j ∉ o.looksAt ops) :
  vop P (evo (Wx6 ρ d v)) o h K=vop P (evo ρ) o h K:=by
 refine Yq7 hp0 λx hx=>YR8 λj hj e=>hd j hj ?_
 subst e
 unfold Oper.looksAt
 exact List.mem_append.2 (.inl (List.mem_filterMap.2 ⟨_,Array.mem_toList_iff.2 hx,rfl⟩))
theorem WV7 {ρ:Env} {ops:Array Oper} {o:Oper} {d:Option Nat} {v:Value} (hd:∀j,d=some j->j ∉ o.looksAt ops) :
  WA3 ops (Wx6 ρ d v) o.guard=WA3 ops ρ o.guard:=by
 unfold WA3
 cases hg:o.guard with
 | none=>rfl
 | some g=>
  obtain ⟨j,want⟩:=g
  have e:Ws0 ops (Wx6 ρ d v) j=Ws0 ops ρ j:=by
   unfold Ws0
   cases hs:(ops[j]?).bind (·.dst) with
   | none=>rfl
   | some s=>
    simp only
    cases d with
    | none=>rfl
    | some d=>
     have:s≠d:=by
      intro e;subst e
      refine hd s rfl ?_
      unfold Oper.looksAt
      rw [hg];simp only [hs];simp
     rw [show Wx6 ρ (some d) v s=ρ s from Wv6 _ _ this]
  simp only [e]
theorem WV8 (ρ:Env) {x y:Option Nat} (v u:Value) (hne:∀d,x=some d->y≠some d):Wx6 (Wx6 ρ x v) y u=Wx6 (Wx6 ρ y u) x v:=by
 cases x with
 | none=>rfl
 | some x=>cases y with
  | none=>rfl
  | some y=>
   have hxy:x≠y:=λe=>hne x rfl (by rw [e])
   funext j
   simp only [Wx6]
   by_cases e1:j=x
   ·subst e1;rw [Wv6 _ _ hxy,Wq5,Wq5]
   ·by_cases e2:j=y
    ·subst e2;rw [Wq5,Wv6 _ _ e1,Wq5]
    ·rw [Wv6 _ _ e2,Wv6 _ _ e1,Wv6 _ _ e1,Wv6 _ _ e2]
end
end
section
section
variable {P:Program} {h:Wa1} {ρ:Operand->Value} {G:Value->Prop}
def RdAs (P:Program) (ρ:Operand->Value) (o:Oper) (L:List (Addr × Value)) (v:Value):Prop:=
 ∀h:Wa1,(∀x ∈ L,Wa3 h x.1=some x.2)->∀K:Value->Wa1->Prop,K v h->vop P ρ o h K
theorem WN5 {k:IntKind} {op:BinOp} {a b:Int} (H:WU5 k op a b G):∃v,G v/\∀G':Value->Prop,G' v->WU5 k op a b G':=by
 cases op <;> simp only [WU5] at H ⊢ <;> first
  | exact ⟨_,H,λ_ x=>x⟩
  | exact ⟨_,H.2,λ_ x=>⟨H.1,x⟩⟩
  | exact H.elim
theorem WF3 {k:IntKind} {op:BinOp} {a b:Int} (H:YO8 k op a b G):∃v,G v/\∀G':Value->Prop,G' v->YO8 k op a b G':=by
 cases op <;> simp only [YO8] at H ⊢ <;> first
  | exact ⟨_,H.2,λ_ x=>⟨H.1,x⟩⟩
  | exact H.elim
theorem Ws7 {t:TypeId} {x y:Value} {F:Bool->Prop} (H:WQ0 P t x y F):∃b,F b/\∀F':Bool->Prop,F' b->WQ0 P t x y F':=by
 unfold WQ0 at *
 split at H
 ·exact H.elim
 ·rename_i hg
  obtain ⟨a,rfl,H⟩:=Wj0 H
  split at H
  ·rename_i b hb
   exact ⟨b,H,λF' x=>by simp only [hg,asAgg,hb];simpa using x⟩
  ·exact H.elim
theorem Wk0 {v:Option Value} {d m:Nat} {F:Nat->Prop} (H:Wo0 none v d m F):∃n,F n/\∀F':Nat->Prop,F' n->Wo0 none v d m F':=by
 rcases Wl5 H with ⟨rfl,H1⟩ | ⟨k,i,rfl,h0,h1,H1⟩
 ·exact ⟨d,H1,λ_ x=>x⟩
 ·exact ⟨_,H1,λ_ x=>⟨h0,h1,x⟩⟩
theorem WF4 {t:TypeId} {x:Value} {lo hi mx:Option Value} (H:WC1 P t x lo hi mx G):∃v,G v/\∀G':Value->Prop,G' v->WC1 P t x lo hi mx G':=by
 unfold WC1 at *
 split at H
 ·split at H
  ·exact H.elim
  ·rename_i hm
   obtain ⟨s,rfl,H1⟩:=Wd6 H
   obtain ⟨a,H2,f1⟩:=Wk0 H1
   obtain ⟨b,H3,f2⟩:=Wk0 H2
   exact ⟨_,H3,λG' x=>by rw [if_neg hm];simp only [Wd9];apply f1;apply f2;exact x⟩
 ·split at H
  ·rename_i ht
   obtain ⟨a,len,cap,rfl,H1⟩:=We6 H
   obtain ⟨m,H2,f1⟩:=Wk0 H1
   obtain ⟨b,H3,f2⟩:=Wk0 H2
   obtain ⟨c,H4,f3⟩:=Wk0 H3
   exact ⟨_,H4,λG' x=>by simp only [ht,if_true,Wb3,Wd1];apply f1;apply f2;apply f3;exact x⟩
  ·exact H.elim
 ·split at H
  ·rename_i ht
   obtain ⟨a,rfl,H1⟩:=Wg2 H
   obtain ⟨m,H2,f1⟩:=Wk0 H1
   obtain ⟨b,H3,f2⟩:=Wk0 H2
   obtain ⟨c,H4,f3⟩:=Wk0 H3
   exact ⟨_,H4,λG' x=>by simp only [ht,if_true,Wb3,Wd1];apply f1;apply f2;apply f3;exact x⟩
  ·exact H.elim
 ·exact H.elim
theorem Wq6 {t:TypeId} {v:Value} {F:List Value->Prop} (H:Ws5 P t v F):F v.cells.toList/\∀F':List Value->Prop,F' v.cells.toList->Ws5 P t v F':=by
 refine ⟨Wt9 H,λF' x=>?_⟩
 unfold Ws5 at *
 split at H
 ·rename_i ht
  simp only [ht,if_true];exact (Ya3 H).2 _ x
 ·rename_i ht
  simp only [ht]
  have e:=(Wz9 H).1
  rw [e] at x
  exact Wp6 (λ_=>by simpa using x) H
theorem WA5 {place:Nat->Option (Nat × TypeId)} (parts:List (Nat × Value)):∀(cells:List Value) (F:List Value->Prop),WD2 P place cells parts F ->
  ∃cs,F cs/\∀F':List Value->Prop,F' cs->WD2 P place cells parts F':=by
 induction parts with
 | nil=>intro cells F H;exact ⟨cells,H,λ_ x=>x⟩
 | cons p rest ih=>
  obtain ⟨i,v⟩:=p
  intro cells F H
  unfold WD2 at H
  split at H
  ·exact H.elim
  ·rename_i off t hp1
   obtain ⟨H,f1⟩:=Wq6 H
   split at H
   ·rename_i hs
    obtain ⟨cs,h1,h2⟩:=ih _ _ H
    refine ⟨cs,h1,λF' x=>?_⟩
    unfold WD2
    simp only [hp1]
    exact f1 _ (by rw [if_pos hs];exact h2 _ x)
   ·exact H.elim
theorem Yq9 {op:BinOp} {xt yt:TypeId} {x y:Operand} {o:Oper} (hr:Wk3 P { o with op:=.binOp op xt x y yt }=true) (H:Yp2 P op xt yt x y ρ o h (λv _=>G v)) :
  ∃v,G v/\∀(h':Wa1) (K':kQ),K' v h'->Yp2 P op xt yt x y ρ o h' K':=by
 unfold Wk3 at hr
 simp only at hr
 unfold Yp2 at *
 cases hu:und P xt with
 | int k=>
  rw [hu] at H hr
  simp only at H ⊢
  split at H
  ·split at H
   ·obtain ⟨a,ha,H⟩:=Wd8 H
    obtain ⟨b,hb,H⟩:=Wd8 H
    obtain ⟨v,H,f⟩:=WF3 H
    exact ⟨v,H,λh' K' x=>by simp only [ha,hb,asInt,if_true];exact f (λv=>K' v h') x⟩
   ·exact H.elim
  ·split at H
   ·obtain ⟨a,ha,H⟩:=Wd8 H
    obtain ⟨b,hb,H⟩:=Wd8 H
    obtain ⟨v,H,f⟩:=WF3 H
    exact ⟨v,H,λh' K' x=>by simp only [ha,hb,asInt,if_true];exact f (λv=>K' v h') x⟩
   ·exact H.elim
  ·obtain ⟨a,ha,H⟩:=Wd8 H
   obtain ⟨b,hb,H⟩:=Wd8 H
   obtain ⟨v,H,f⟩:=WN5 H
   exact ⟨v,H,λh' K' x=>by simp only [ha,hb,asInt,if_true];exact f (λv=>K' v h') x⟩
 | bool=>
  rw [hu] at H hr
  simp only at H ⊢
  split at H
  ·obtain ⟨a,ha,H⟩:=We5 H
   obtain ⟨b,hb,H⟩:=We5 H
   exact ⟨_,H,λh' K' x=>by simp only [ha,hb,asBool];exact x⟩
  ·obtain ⟨a,ha,H⟩:=We5 H
   obtain ⟨b,hb,H⟩:=We5 H
   exact ⟨_,H,λh' K' x=>by simp only [ha,hb,asBool];exact x⟩
  ·exact H.elim
 | string=>
  rw [hu] at H hr
  simp only at H hr ⊢
  split at H
  ·obtain ⟨a,ha,H⟩:=Wd6 H
   obtain ⟨b,hb,H⟩:=Wd6 H
   exact ⟨_,H,λh' K' x=>by simp only [ha,hb,Wd9];exact x⟩
  ·obtain ⟨a,ha,H⟩:=Wd6 H
   obtain ⟨b,hb,H⟩:=Wd6 H
   exact ⟨_,H,λh' K' x=>by simp only [ha,hb,Wd9];exact x⟩
  ·obtain ⟨a,ha,H⟩:=Wd6 H
   obtain ⟨b,hb,H⟩:=Wd6 H
   exact ⟨_,H.2,λh' K' x=>by simp only [ha,hb,Wd9];exact ⟨H.1,x⟩⟩
  ·split at hr <;> simp_all
 | pointer e=>
  rw [hu] at H hr
  simp only at H hr ⊢
  split at H
  ·obtain ⟨a,ha,H⟩:=Wh2 H
   exact ⟨_,H,λh' K' x=>by simp only [ha,Wc8];exact x⟩
  ·obtain ⟨a,ha,H⟩:=Wh2 H
   exact ⟨_,H,λh' K' x=>by simp only [ha,Wc8];exact x⟩
  ·simp_all
  ·simp_all
  ·split at hr <;> simp_all
 | slice e=>
  rw [hu] at H hr
  simp only at H hr ⊢
  split at H
  ·obtain ⟨a,l,c,ha,H⟩:=We6 H
   exact ⟨_,H,λh' K' x=>by simp only [ha,Wb3];exact x⟩
  ·obtain ⟨a,l,c,ha,H⟩:=We6 H
   exact ⟨_,H,λh' K' x=>by simp only [ha,Wb3];exact x⟩
  ·split at hr <;> simp_all
 | func e1 e2 e3=>
  rw [hu] at H hr
  simp only at H hr ⊢
  split at H
  ·rcases Wq4 H with ⟨ha,H⟩ | ⟨f,a,b,ha,H⟩
   ·exact ⟨_,H,λh' K' x=>by simp only [ha,Wh7];exact x⟩
   ·exact ⟨_,H,λh' K' x=>by simp only [ha,Wh7];exact x⟩
  ·rcases Wq4 H with ⟨ha,H⟩ | ⟨f,a,b,ha,H⟩
   ·exact ⟨_,H,λh' K' x=>by simp only [ha,Wh7];exact x⟩
   ·exact ⟨_,H,λh' K' x=>by simp only [ha,Wh7];exact x⟩
  ·split at hr <;> simp_all
 | struct fs=>
  rw [hu] at H hr
  simp only at H hr ⊢
  split at H
  ·obtain ⟨b,H,f⟩:=Ws7 H
   exact ⟨_,H,λh' K' x=>f (λb=>K' (.bool b) h') x⟩
  ·obtain ⟨b,H,f⟩:=Ws7 H
   exact ⟨_,H,λh' K' x=>f (λb=>K' (.bool (!b)) h') x⟩
  ·exact H.elim
 | array n e=>
  rw [hu] at H hr
  simp only at H hr ⊢
  split at H
  ·obtain ⟨b,H,f⟩:=Ws7 H
   exact ⟨_,H,λh' K' x=>f (λb=>K' (.bool b) h') x⟩
  ·obtain ⟨b,H,f⟩:=Ws7 H
   exact ⟨_,H,λh' K' x=>f (λb=>K' (.bool (!b)) h') x⟩
  ·exact H.elim
 | _=>rw [hu] at hr;simp at hr
theorem YE5 {o:Oper} (hr:Wk3 P o=true) (hn:∀t x,o.op≠.load t x) (H:vop P ρ o h (λv _=>G v)):∃v,G v/\RdAs P ρ o [] v:=by
 unfold vop at H
 unfold RdAs
 split at H
 case h_1 x hx | h_2 x hx=>exact ⟨_,H,λh' _ K' k=>by unfold vop;rw [hx];exact k⟩
 case h_3 c a b hx=>
  obtain ⟨t,ht,H⟩:=We5 H
  refine ⟨if t then ρ a else ρ b,?_,λh' _ K' k=>?_⟩
  ·cases t <;> exact H
  ·unfold vop;rw [hx];simp only [ht,asBool];cases t <;> exact k
 case h_4 t hx | h_16 t hx=>unfold Wk3 at hr;rw [hx] at hr;simp at hr
 case h_5 t x hx | h_24 t m k x hx=>unfold Wk3 at hr;rw [hx] at hr;simp at hr
 case h_6 t parts hx=>
  split at H
  ·rename_i hz
   split at H
   ·rename_i fields hu
    split at H
    ·exact H.elim
    ·rename_i hall
     obtain ⟨cs,H,f⟩:=WA5 _ _ _ H
     refine ⟨_,H,λh' _ K' k=>?_⟩
     unfold vop;rw [hx];simp only [hz,if_true,hu,if_neg hall]
     exact f (λcs=>K' (.agg cs.toArray) h') k
   ·rename_i n elem hu
    split at H
    ·exact H.elim
    ·rename_i hall
     obtain ⟨cs,H,f⟩:=WA5 _ _ _ H
     refine ⟨_,H,λh' _ K' k=>?_⟩
     unfold vop;rw [hx];simp only [hz,if_true,hu,if_neg hall]
     exact f (λcs=>K' (.agg cs.toArray) h') k
   ·exact H.elim
  ·exact H.elim
 case h_7 t len parts hx=>unfold Wk3 at hr;rw [hx] at hr;simp at hr
 case h_8 t x hx=>exact absurd hx (hn _ _)
 case h_9 t x y hx=>unfold Wk3 at hr;rw [hx] at hr;simp at hr
 case h_10 x hx=>
  have e:∀X Y:Prop,Wc5 (ρ x) X->(Y->Wc5 (ρ x) Y)/\X:=by
   intro X Y q;unfold Wc5 at *;split at q <;> first | exact q.elim | exact ⟨λy=>y,q⟩
  exact ⟨_,(e _ True H).2,λh' _ K' k=>by unfold vop;rw [hx];exact (e _ _ H).1 k⟩
 case h_11 op xt x y yt hx=>
  have hr':Wk3 P { o with op:=.binOp op xt x y yt }=true:=by rw [<- hx];exact hr
  obtain ⟨v,H,f⟩:=Yq9 hr' H
  exact ⟨v,H,λh' _ K' k=>by unfold vop;rw [hx];exact f h' K' k⟩
 case h_12 op xt x hx=>
  split at H
  ·rename_i hu
   obtain ⟨b,hb,H⟩:=We5 H
   exact ⟨_,H,λh' _ K' k=>by unfold vop;rw [hx];simp only [hu,hb,asBool];exact k⟩
  ·rename_i hu
   obtain ⟨b,hb,H⟩:=Wd8 H
   exact ⟨_,H,λh' _ K' k=>by unfold vop;rw [hx];simp only [hu,hb,asInt,if_true];exact k⟩
  ·rename_i n1 n2
   unfold Wk3 at hr;rw [hx] at hr;simp only at hr
   exact absurd hr (by simp)
 case h_13 s d x hx=>
  split at H
  ·rename_i hu1 hu2
   obtain ⟨b,hb,H⟩:=Wd8 H
   exact ⟨_,H,λh' _ K' k=>by unfold vop;rw [hx];simp only [hu1,hu2,hb,asInt,if_true];exact k⟩
  ·rename_i hu1 hu2
   obtain ⟨b,hb,H⟩:=Wd6 H
   exact ⟨_,H,λh' _ K' k=>by unfold vop;rw [hx];simp only [hu1,hu2,hb,Wd9];exact k⟩
  ·rename_i n1 n2
   unfold Wk3 at hr;rw [hx] at hr;simp only at hr
   exact absurd hr (by simp)
 case h_14 t x hx=>unfold Wk3 at hr;rw [hx] at hr;simp at hr
 case h_15 fn first captured hx=>exact ⟨_,H,λh' _ K' k=>by unfold vop;rw [hx];exact k⟩
 case h_17 t l c hx=>unfold Wk3 at hr;rw [hx] at hr;simp at hr
 case h_18 t x lo hi mx hx=>
  split at H
  ·exact H.elim
  ·rename_i hm
   obtain ⟨v,H,f⟩:=WF4 H
   exact ⟨v,H,λh' _ K' k=>by unfold vop;rw [hx];simp only [hm];exact f (λv=>K' v h') k⟩
 case h_19 t x f hx=>
  split at H
  ·rename_i fields hu
   split at H
   ·rename_i fd hf
    split at H
    ·rename_i hh
     obtain ⟨a,ha,H⟩:=Wg2 H
     exact ⟨_,H,λh' _ K' k=>by unfold vop;rw [hx];simp only [hu,hf,if_pos hh,ha,Wd1];exact k⟩
    ·exact H.elim
   ·exact H.elim
  ·exact H.elim
 case h_20 t x f hx=>
  split at H
  ·rename_i fields hu
   split at H
   ·rename_i fd hf
    obtain ⟨cs,ha,H⟩:=Wj0 H
    unfold Wz8 at H
    split at H
    ·rename_i v hv
     split at H
     ·rename_i hth
      exact ⟨_,H,λh' _ K' k=>by unfold vop;rw [hx];simp only [hu,hf,ha,asAgg,Wz8,hv,if_pos hth];exact k⟩
     ·exact H.elim
    ·exact H.elim
   ·exact H.elim
  ·exact H.elim
 case h_21 t x i hx=>
  split at H
  ·rename_i elem hu
   obtain ⟨a,len,cap,ha,H⟩:=We6 H
   obtain ⟨k,n,hi,h0,h1,H⟩:=Wm8 H
   obtain ⟨ad,had,H⟩:=Wg2 H
   cases had
   split at H
   ·rename_i hth
    exact ⟨_,H,λh' _ K' k=>by unfold vop;rw [hx];simp only [hu,ha,Wb3,hi,asI,Wd1,if_pos hth];exact ⟨h0,h1,k⟩⟩
   ·exact H.elim
  ·rename_i len elem hu
   obtain ⟨a,ha,H⟩:=Wg2 H
   obtain ⟨k,n,hi,h0,h1,H⟩:=Wm8 H
   split at H
   ·rename_i hth
    exact ⟨_,H,λh' _ K' k=>by unfold vop;rw [hx];simp only [hu,ha,Wd1,hi,asI,if_pos hth];exact ⟨h0,h1,k⟩⟩
   ·exact H.elim
  ·exact H.elim
 case h_22 t x i hx=>
  split at H
  ·rename_i hu
   obtain ⟨s,ha,H⟩:=Wd6 H
   obtain ⟨k,n,hi,h0,h1,H⟩:=Wm8 H
   exact ⟨_,H,λh' _ K' k=>by unfold vop;rw [hx];simp only [hu,ha,Wd9,hi,asI];exact ⟨h0,h1,k⟩⟩
  ·rename_i len elem hu
   obtain ⟨cs,ha,H⟩:=Wj0 H
   obtain ⟨k,n,hi,h0,h1,H⟩:=Wm8 H
   unfold Wz8 at H
   split at H
   ·rename_i v hv
    split at H
    ·rename_i hth
     exact ⟨_,H,λh' _ K' k=>by unfold vop;rw [hx];simp only [hu,ha,asAgg,hi,asI,Wz8,hv,if_pos hth];exact ⟨h0,h1,k⟩⟩
    ·exact H.elim
   ·exact H.elim
  ·exact H.elim
 case h_23 t x i ok hx=>unfold Wk3 at hr;rw [hx] at hr;simp at hr
 case h_25 x i hx=>
  obtain ⟨vs,ha,H⟩:=WF0 H
  unfold Wc2 at H
  split at H
  ·rename_i v hv
   exact ⟨_,H,λh' _ K' k=>by unfold vop;rw [hx];simp only [ha,Wg5,Wc2,hv];exact k⟩
  ·exact H.elim
 case h_26 b args argTypes hx=>
  have hb:b=.len:=by
   cases b <;> first | rfl | exact absurd hr (by unfold Wk3;rw [hx];simp)
  subst hb
  unfold Wk3 at hr;rw [hx] at hr;simp only at hr
  split at hr
  ·rename_i t x h1 h2
   unfold Wk2 at H
   rw [h2] at H
   simp only [List.map_cons,List.map_nil,h1] at H
   split at H
   ·rename_i e hu
    obtain ⟨a,n,c,ha,H⟩:=We6 H
    exact ⟨_,H,λh' _ K' k=>by unfold vop;rw [hx];simp only [Wk2,h2,List.map_cons,List.map_nil,h1,hu,ha,Wb3];exact k⟩
   ·rename_i hu
    obtain ⟨a,ha,H⟩:=Wd6 H
    exact ⟨_,H,λh' _ K' k=>by unfold vop;rw [hx];simp only [Wk2,h2,List.map_cons,List.map_nil,h1,hu,ha,Wd9];exact k⟩
   ·rename_i e1 e2 hu;rw [hu] at hr;simp at hr
   ·rename_i n e hu
    exact ⟨_,H,λh' _ K' k=>by unfold vop;rw [hx];simp only [Wk2,h2,List.map_cons,List.map_nil,h1,hu];exact k⟩
   ·exact H.elim
  ·exact absurd hr (by simp)
 case h_27 f args argTypes hx=>unfold Wk3 at hr;rw [hx] at hr;simp at hr
 case h_28=>exact H.elim
 case h_29=>
  exfalso
  unfold Wk3 at hr
  split at hr <;> rename_i hx <;> first
   | (exact absurd hr (by decide))
   | solve_by_elim
end
end
section
section
variable {P:Program} {ops:Array Oper}
theorem Wn7 {v:Value} {F F':Addr->Prop} (f:∀a,F a->F' a) (H:Wd1 v F):Wd1 v F':=by obtain ⟨a,rfl,H2⟩:=Wg2 H;exact f a H2
theorem Wj4 {v:Value} {F F':Option Addr->Prop} (f:∀a,F a->F' a) (H:Wc8 v F):Wc8 v F':=by obtain ⟨a,rfl,H2⟩:=Wh2 H;exact f a H2
theorem Wf5 {k:IntKind} {v:Value} {F F':Int->Prop} (f:∀a,F a->F' a) (H:asInt k v F):asInt k v F':=by obtain ⟨a,rfl,H2⟩:=Wd8 H;unfold asInt;simp only [if_true];exact f a H2
theorem Wu1 {v:Value} {F F':Int->Prop} (f:∀a,F a->F' a) (H:asI v F):asI v F':=by obtain ⟨k,a,rfl,H2⟩:=Wm8 H;exact f a H2
theorem Wj5 {v:Value} {F F':Bool->Prop} (f:∀a,F a->F' a) (H:asBool v F):asBool v F':=by obtain ⟨a,rfl,H2⟩:=We5 H;exact f a H2
theorem Wh4 {v:Value} {F F':ByteArray->Prop} (f:∀a,F a->F' a) (H:Wd9 v F):Wd9 v F':=by obtain ⟨a,rfl,H2⟩:=Wd6 H;exact f a H2
theorem Wk1 {v:Value} {F F':Option Addr->Nat->Nat->Prop} (f:∀a b c,F a b c->F' a b c) (H:Wb3 v F):Wb3 v F':=by obtain ⟨a,b,c,rfl,H2⟩:=We6 H;exact f a b c H2
theorem WA6 {v:Value} {F F':Array Value->Prop} (f:∀a,F a->F' a) (H:asAgg v F):asAgg v F':=by obtain ⟨a,rfl,H2⟩:=Wj0 H;exact f a H2
theorem Yh8 {v:Value} {F F':Array Value->Prop} (f:∀a,F a->F' a) (H:Wg5 v F):Wg5 v F':=by obtain ⟨a,rfl,H2⟩:=WF0 H;exact f a H2
theorem Wu2 {v:Value} {F F':Option Nat->Prop} (f:∀a,F a->F' a) (H:WU4 v F):WU4 v F':=by obtain ⟨a,rfl,H2⟩:=Ws6 H;exact f a H2
theorem WC4 {v:Value} {F F':Bool->Prop} (f:∀a,F a->F' a) (H:Wh7 v F):Wh7 v F':=by unfold Wh7 at *;split at H <;> first | exact f _ H | exact H.elim
theorem Yb8 {b:Bool} {X Y X' Y':Prop} (f:X->X') (g:Y->Y') (H:ifB b X Y):ifB b X' Y':=by cases b <;> first | exact f H | exact g H
theorem Wk4 {c:Prop} [Decidable c] {X X':Prop} (f:c->X->X') (H:if c then X else False):if c then X' else False:=by split <;> simp_all
theorem WF5 {c:Prop} [Decidable c] {X X':Prop} (f:¬c->X->X') (H:if c then False else X):if c then False else X':=by split <;> simp_all
theorem WF6 {t:TypeId} {v:Value} {F F':List Value->Prop} (f:∀a,F a->F' a) (H:Ws5 P t v F):Ws5 P t v F':=(Wq6 H).2 _ (f _ (Wq6 H).1)
theorem WA7 {place:Nat->Option (Nat × TypeId)} {parts:List (Nat × Value)} {cells:List Value} {F F':List Value->Prop} (f:∀a,F a->F' a) (H:WD2 P place cells parts F):WD2 P place cells parts F':=by
 obtain ⟨cs,h1,h2⟩:=WA5 _ _ _ H;exact h2 _ (f _ h1)
theorem Wy3 {h:Wa1} {a:Addr} {F F':Value->Prop} (f:∀v,F v->F' v) (H:ldH h a F):ldH h a F':=by unfold ldH at *;split <;> simp_all
theorem WQ6 {h:Wa1} {a:Addr} (n:Nat):∀ {i:Nat} {acc:List Value} {F F':List Value->Prop},(∀v,F v->F' v)->ldN h a i n acc F->ldN h a i n acc F':=by
 induction n with
 | zero=>intro i acc F F' f H;exact f _ H
 | succ n ih=>intro i acc F F' f H;exact Wy3 (λv=>ih f) H
theorem YE6 {a:Addr} (vs:List Value):∀ {h:Wa1} {i:Nat} {F F':Wa1->Prop},(∀v,F v->F' v)->stN h a i vs F->stN h a i vs F':=by
 induction vs with
 | nil=>intro h i F F' f H;exact f _ H
 | cons v vs ih=>intro h i F F' f H;exact Wp6 (λ⟨a,b,c⟩=>⟨a,b,ih f c⟩) H
theorem W27 {cs:Array Value} {F F':List Value->Prop} (f:∀v,F v->F' v):∀(n i:Nat) (acc:List Value),Wr9 cs n i acc F->Wr9 cs n i acc F':=by
 intro n
 induction n with
 | zero=>intro i acc H;exact f _ H
 | succ n ih=>
  intro i acc H
  have H':Wc2 cs i (λv=>Wr9 cs n (i+1) (v :: acc) F):=H
  show Wc2 cs i (λv=>Wr9 cs n (i+1) (v :: acc) F')
  unfold Wc2 at *
  split at H'
  ·exact ih _ _ H'
  ·exact H'.elim
theorem WV9 {n:Nat} {v:Value} {F F':Value->Prop} (f:∀v,F v->F' v) (H:YR1 n v F):YR1 n v F':=by
 unfold YR1 at *
 split at H
 ·refine WA6 (λcs H=>?_) H
  unfold Wg6 at *
  split at H
  ·exact W27 (λ_=>f _) _ _ _ H
  ·exact H.elim
 ·exact f _ H
theorem WF7 {P:Program} {t:TypeId} {v:Value} {F F':Value->Prop} (f:∀v,F v->F' v) (H:WE9 P t v F):WE9 P t v F':=by
 unfold WE9 at *
 split
 ·exact Wj5 (λ_=>f _) (by simp_all)
 ·exact Wf5 (λ_=>f _) (by simp_all)
 ·exact Wh4 (λ_=>f _) (by simp_all)
 ·exact Wk1 (λ_ _ _=>f _) (by simp_all)
 ·exact Wj4 (λ_=>f _) (by simp_all)
 ·exact Wu2 (λ_=>f _) (by simp_all)
 ·exact WV9 f (by simp_all)
 ·exact WV9 f (by simp_all)
 ·split at H <;> first | exact f _ H | simp_all
theorem YE7 {P:Program} {o:Oper} {v:Value} {F F':Value->Prop} (f:∀v,F v->F' v) (H:tyO P o v F):tyO P o v F':=by
 unfold tyO at *
 split at H
 ·exact f _ H
 ·exact f _ H
 ·exact WF7 f H
theorem WA8 {v:Value} {args:Array Value} {h:Wa1} {K K':kQ} (hk:∀v h',K v h'->K' v h') (H:Wl3 P v args h K):Wl3 P v args h K':=by
 have ho:∀(w0:World) e w,onH w0 K e w->onH w0 K' e w:=by intro w0 e w x;cases e <;> first | exact x | exact ⟨hk _ _ x.1,x.2⟩
 unfold Wl3 at *
 split at H
 ·exact ⟨H.1,λw hw=>(H.2 w hw).mono (ho w)⟩
 ·intro w hw
  obtain ⟨fn,t,a,b,h1,h2⟩:=H w hw
  exact ⟨fn,t,a,b,h1,h2.mono (ho w)⟩
 ·exact H.elim
theorem Yr0 {v:Value} {args:Array Value} {h:Wa1} {K K':kQ} (hk:∀v h',K v h'->K' v h') (H:Yp1 P v args h K):Yp1 P v args h K':=by
 unfold Yp1 at *
 split at H
 ·exact Wh8 (λnx h' x=>by cases nx <;> first | exact hk _ _ x | exact x.elim) H
 ·exact H.elim
theorem WM0 {f:Int->Int->Int} {k:IntKind} (ys:List Value):∀ {a:Int} {F F':Int->Prop},(∀n,F n->F' n)->Wg1.go f k a ys F->Wg1.go f k a ys F':=by
 induction ys with
 | nil=>intro a F F' g H;exact g _ H
 | cons y ys ih=>intro a F F' g H;exact Wf5 (λb x=>ih g x) H
theorem WF8 {f:Int->Int->Int} {t:TypeId} (xs:List Value) {F F':Int->Prop} (g:∀n,F n->F' n) (H:Wg1 f P t xs F):Wg1 f P t xs F':=by
 cases xs with
 | nil=>exact H
 | cons x xs=>cases xs with
  | nil=>
   simp only [Wg1] at *
   split <;> rename_i hk <;> rw [hk] at H
   ·exact Wf5 g H
   ·exact H
  | cons y ys=>
   simp only [Wg1] at *
   split <;> rename_i hk <;> rw [hk] at H
   ·exact Wf5 (λa x=>WM0 _ g x) H
   ·exact H
theorem Wk5 {ρ:Operand->Value} {o:Oper} {h:Wa1} {K K':kQ} (hk:∀v h',K v h'->K' v h') (H:opH P ρ o h K):opH P ρ o h K':=by
 refine Wh8 ?_ H
 intro nx h' x
 cases nx <;> first
  | exact hk _ _ x
  | exact x
  | (intro w hw;refine (x w hw).mono ?_;intro e w y;cases e <;> first | exact y | exact ⟨hk _ _ y.1,y.2⟩)
theorem Yh9 {k:IntKind} {op:BinOp} {a b:Int} {G G':Value->Prop} (g:∀v,G v->G' v) (H:WU5 k op a b G):WU5 k op a b G':=by
 obtain ⟨v,h1,h2⟩:=WN5 H;exact h2 _ (g _ h1)
theorem WW0 {k:IntKind} {op:BinOp} {a b:Int} {G G':Value->Prop} (g:∀v,G v->G' v) (H:YO8 k op a b G):YO8 k op a b G':=by
 obtain ⟨v,h1,h2⟩:=WF3 H;exact h2 _ (g _ h1)
theorem Wy4 {t:TypeId} {x y:Value} {F F':Bool->Prop} (g:∀v,F v->F' v) (H:WQ0 P t x y F):WQ0 P t x y F':=by
 obtain ⟨v,h1,h2⟩:=Ws7 H;exact h2 _ (g _ h1)
theorem Yr1 {op:BinOp} {xt yt:TypeId} {x y:Operand} {ρ:Operand->Value} {o:Oper} {h:Wa1} {K K':kQ} (hk:∀v h',K v h'->K' v h')
  (H:Yp2 P op xt yt x y ρ o h K):Yp2 P op xt yt x y ρ o h K':=by
 unfold Yp2 at *
 split at H
 ·split at H
  ·split at H
   ·exact Wf5 (λ_=>Wf5 λ_=>WW0 λv=>hk v _) H
   ·exact H
  ·split at H
   ·exact Wf5 (λ_=>Wf5 λ_=>WW0 λv=>hk v _) H
   ·exact H
  ·exact Wf5 (λ_=>Wf5 λ_=>Yh9 λv=>hk v _) H
 ·split at H
  ·exact Wj5 (λ_=>Wj5 λ_=>hk _ _) H
  ·exact Wj5 (λ_=>Wj5 λ_=>hk _ _) H
  ·exact H
 ·split at H
  ·exact Wh4 (λ_=>Wh4 λ_=>hk _ _) H
  ·exact Wh4 (λ_=>Wh4 λ_=>hk _ _) H
  ·exact Wh4 (λ_=>Wh4 λ_ x=>⟨x.1,hk _ _ x.2⟩) H
  ·exact Wk5 hk H
 ·split at H
  ·exact Wj4 (λ_=>hk _ _) H
  ·exact Wj4 (λ_=>hk _ _) H
  ·exact Wj4 (λ_=>Wj4 λ_=>Wh8 hk) H
  ·exact Wj4 (λ_=>Wj4 λ_=>Wh8 hk) H
  ·exact Wk5 hk H
 ·split at H
  ·exact Wk1 (λ_ _ _=>hk _ _) H
  ·exact Wk1 (λ_ _ _=>hk _ _) H
  ·exact Wk5 hk H
 ·split at H
  ·exact Wu2 (λ_=>hk _ _) H
  ·exact Wu2 (λ_=>hk _ _) H
  ·exact Wk5 hk H
 ·split at H
  ·exact WC4 (λ_=>hk _ _) H
  ·exact WC4 (λ_=>hk _ _) H
  ·exact Wk5 hk H
 ·split at H
  ·exact Wy4 (λ_=>hk _ _) H
  ·exact Wy4 (λ_=>hk _ _) H
  ·exact H
 ·split at H
  ·exact Wy4 (λ_=>hk _ _) H
  ·exact Wy4 (λ_=>hk _ _) H
  ·exact H
 ·exact Wk5 hk H
theorem WQ7 {b:Builtin} {argTypes:Array TypeId} {t:TypeId} {args:List Value} {ρ:Operand->Value} {o:Oper} {h:Wa1} {K K':kQ} (hk:∀v h',K v h'->K' v h')
  (H:Wk2 P b argTypes t args ρ o h K):Wk2 P b argTypes t args ρ o h K':=by
 unfold Wk2 at *
 split at H
 ·split at H
  ·split at H
   ·exact Wk1 (λ_ _ _=>hk _ _) H
   ·exact Wh4 (λ_=>hk _ _) H
   ·refine Wu2 (λr x=>?_) H
    unfold YR3 at *
    cases r with
    | none=>exact hk _ _ x
    | some r=>simp only at *;split at x <;> first | exact hk _ _ x | exact x
   ·exact hk _ _ H
   ·exact H
  ·exact H
 ·split at H
  ·split at H
   ·exact Wk1 (λ_ _ _=>hk _ _) H
   ·exact H
  ·exact H
 ·exact Wh8 hk H
 ·exact Wh8 hk H
 ·exact Wh8 hk H
 ·exact Wh8 hk H
 ·exact Wh8 hk H
 ·exact Wh8 hk H
 ·split at H
  ·exact WF8 _ (λ_=>hk _ _) H
  ·exact Wk5 hk H
 ·split at H
  ·exact WF8 _ (λ_=>hk _ _) H
  ·exact Wk5 hk H
 ·exact Wk5 hk H
theorem W28 {t:TypeId} {x:Value} {lo hi mx:Option Value} {G G':Value->Prop} (g:∀v,G v->G' v) (H:WC1 P t x lo hi mx G):WC1 P t x lo hi mx G':=by
 obtain ⟨n,h1,h2⟩:=WF4 H;exact h2 _ (g _ h1)
theorem WE2 {ρ:Operand->Value} {o:Oper} {h:Wa1} {K K':kQ} (hk:∀v h',K v h'->K' v h') (H:vop P ρ o h K):vop P ρ o h K':=by
 unfold vop at *
 split at H
 case h_1 | h_2 | h_15 | h_16=>exact hk _ _ H
 case h_3=>exact Wj5 (λ_=>Yb8 (hk _ _) (hk _ _)) H
 case h_4=>split at H <;> first | exact hk _ _ H | exact H
 case h_5=>exact WF6 (λ_=>hk _ _) H
 case h_6=>
  refine Wk4 (λ_ x=>?_) H
  split at x
  ·exact WF5 (λ_=>WA7 λ_=>hk _ _) x
  ·exact WF5 (λ_=>WA7 λ_=>hk _ _) x
  ·exact x
 case h_7=>
  split at H
  ·exact Wk4 (λ_=>WA7 λ_=>hk _ _) H
  ·exact H
 case h_8=>
  refine Wn7 (λa=>Wk4 λ_ x=>?_) H
  split at x <;> rename_i ha
  ·rw [if_pos ha];exact WQ6 _ (λ_=>hk _ _) x
  ·rw [if_neg ha];exact Wy3 (λ_=>hk _ _) x
 case h_9=>exact Wn7 (λa=>WF6 λcs=>Wk4 λ_=>YE6 _ λ_=>hk _ _) H
 case h_10=>unfold Wc5 at *;split at H <;> first | exact H | exact hk _ _ H
 case h_11=>exact Yr1 hk H
 case h_12=>
  split at H
  ·exact Wj5 (λ_=>hk _ _) H
  ·exact Wf5 (λ_=>hk _ _) H
  ·exact Wk5 hk H
 case h_13=>
  split at H
  ·exact Wf5 (λ_=>hk _ _) H
  ·exact Wh4 (λ_=>hk _ _) H
  ·exact Wh8 hk H
 case h_14=>split at H <;> first | exact H | exact hk _ _ H
 case h_17=>
  split at H
  ·exact Wu1 (λ_=>Wu1 λ_=>Wk4 λ_ x=>⟨x.1,x.2.1,x.2.2.1,x.2.2.2.1,hk _ _ x.2.2.2.2⟩) H
  ·exact H
 case h_18=>exact WF5 (λ_=>W28 λ_=>hk _ _) H
 case h_19=>
  split at H
  ·split at H
   ·exact Wk4 (λ_=>Wn7 λ_=>hk _ _) H
   ·exact H
  ·exact H
 case h_20=>
  split at H
  ·split at H
   ·refine WA6 (λcs x=>?_) H
    unfold Wz8 at *
    split at x
    ·exact Wk4 (λ_=>hk _ _) x
    ·exact x
   ·exact H
  ·exact H
 case h_21=>
  split at H
  ·exact Wk1 (λa l c=>Wu1 λn x=>⟨x.1,x.2.1,Wn7 (λ_=>Wk4 λ_=>hk _ _) x.2.2⟩) H
  ·exact Wn7 (λa=>Wu1 λn x=>⟨x.1,x.2.1,Wk4 (λ_=>hk _ _) x.2.2⟩) H
  ·exact H
 case h_22=>
  split at H
  ·exact Wh4 (λa=>Wu1 λn x=>⟨x.1,x.2.1,hk _ _ x.2.2⟩) H
  ·refine WA6 (λa=>Wu1 λn x=>⟨x.1,x.2.1,?_⟩) H
   have y:=x.2.2
   unfold Wz8 at *
   split at y
   ·exact Wk4 (λ_=>hk _ _) y
   ·exact y
  ·exact H
 case h_23=>exact Wh8 hk H
 case h_24=>exact Wh8 (λ_ h'=>hk _ _) H
 case h_25=>exact Yh8 (λvs x=>by unfold Wc2 at *;split at x <;> first | exact hk _ _ x | exact x) H
 case h_26=>exact WQ7 hk H
 case h_27=>
  split at H
  ·exact Yr0 hk H
  ·exact WA8 hk H
 case h_28=>exact H.elim
 case h_29=>exact Wk5 hk H
def YR9 (P:Program) (ops:Array Oper) (K:Env->Wa1->Prop):Nat->(Nat->Wa1->Prop)->Array Bool->Env->Wa1->Prop
 | 0,_,listed,ρ,h=>Region.ready .any ops listed = []/\K ρ h
 | n+1,obl,listed,ρ,h=>(Region.ready .any ops listed = []->K ρ h) /\
  ∀i ∈ Region.ready .any ops listed,pstep P ops i ρ h λρ' h'=>(h' = h\/obl i h')/\YR9 P ops K n obl (listed.setIfInBounds i true) ρ' h'
theorem WN6 {i:Nat} {ρ:Env} {h:Wa1} {K K':Env->Wa1->Prop} (hk:∀ρ h,K ρ h->K' ρ h) (H:pstep P ops i ρ h K):pstep P ops i ρ h K':=by
 unfold pstep at *
 split
 ·simp_all
 ·rename_i o ho
  rw [ho] at H
  simp only at H
  split
  ·rename_i hw;rw [if_pos hw] at H;exact WE2 (λv h'=>hk _ _) H
  ·rename_i hw;rw [if_neg hw] at H;exact hk _ _ H
theorem WF9 {K:Env->Wa1->Prop} (n:Nat):∀ {obl obl':Nat->Wa1->Prop} {listed:Array Bool} {ρ:Env} {h:Wa1},(∀i h,obl i h->obl' i h)->YR9 P ops K n obl listed ρ h->YR9 P ops K n obl' listed ρ h:=by
 induction n with
 | zero=>intro _ _ _ _ _ _ H;exact H
 | succ n ih=>intro obl obl' listed ρ h hh H;exact ⟨H.1,λi hi=>WN6 (λρ h x=>⟨x.1.imp id (hh _ _),ih hh x.2⟩) (H.2 i hi)⟩
def Closed (ops:Array Oper) (listed:Array Bool):Prop:=
 ∀k o,listed.getD k false=true->ops[k]? = some o->∀e ∈ o.after,Region.binds .any e=true->listed.getD e.on false=true
theorem Closed.set {listed:Array Bool} {i:Nat} (hc:Closed ops listed) (hi:i ∈ Region.ready .any ops listed):Closed ops (listed.setIfInBounds i true):=by
 intro k o hk ho e he hb
 by_cases hki:k=i
 ·subst hki
  obtain ⟨_,o',ho',hall⟩:=mem_ready.1 hi
  rw [ho] at ho';cases ho'
  exact getD_set_true (hall e he hb)
 ·rw [getD_set_ne false (Ne.symm hki)] at hk
  exact getD_set_true (hc k o hk ho e he hb)
theorem WW1 {listed:Array Bool} (hc:Closed ops listed) (n:Nat):∀(k i:Nat),listed.getD k false=true->Wg3 ops n k i=true->listed.getD i false=true:=by
 induction n with
 | zero=>intro k i _ h;simp [Wg3] at h
 | succ n ih=>
  intro k i hk h
  unfold Wg3 at h
  split at h
  ·cases h
  ·rename_i o ho
   obtain ⟨e,he,hb⟩:=Array.any_eq_true'.1 h
   simp only [Bool.and_eq_true,Bool.or_eq_true,beq_iff_eq] at hb
   have h1:=hc k o hk ho e he hb.1
   rcases hb.2 with h2 | h2
   ·rw [<- h2];exact h1
   ·exact ih _ _ h1 h2
theorem W29 {listed:Array Bool} (hc:Closed ops listed) {n k i:Nat} (hk:k ∈ Region.ready .any ops listed) (hi:listed.getD i false=false):Wg3 ops n k i=false:=by
 cases hw:Wg3 ops n k i with
 | false=>rfl
 | true=>
  exfalso
  cases n with
  | zero=>simp [Wg3] at hw
  | succ n=>
   unfold Wg3 at hw
   split at hw
   ·cases hw
   ·rename_i o ho
    obtain ⟨_,o',ho',hall⟩:=mem_ready.1 hk
    rw [ho] at ho';cases ho'
    obtain ⟨e,he,hb⟩:=Array.any_eq_true'.1 hw
    simp only [Bool.and_eq_true,Bool.or_eq_true,beq_iff_eq] at hb
    have h1:=hall e he hb.1
    rcases hb.2 with h2 | h2
    ·rw [h2,hi] at h1;cases h1
    ·rw [WW1 hc n _ _ h1 h2] at hi;cases hi
def Wq7 (L:List (Addr × Value)) (h:Wa1):Prop:=∀x ∈ L,Wa3 h x.1=some x.2
def YieldsL (P:Program) (ops:Array Oper) (L:List (Addr × Value)) (o:Oper) (v:Value) (ρ:Env):Prop:=
 (WA3 ops ρ o.guard=true/\RdAs P (evo ρ) o L v)\/(WA3 ops ρ o.guard=false/\v=Wn2)
theorem YieldsL.pstep {L:List (Addr × Value)} {o:Oper} {v:Value} {ρ:Env} {i:Nat} {h:Wa1} {K:Env->Wa1->Prop} (hy:YieldsL P ops L o v ρ) (hi:ops[i]? = some o) (hL:Wq7 L h)
  (H:K (Wx6 ρ o.dst v) h):pstep P ops i ρ h K:=by
 unfold Proofs.YtahpbclnkofhfaaGreat.pstep;rw [hi];simp only
 rcases hy with ⟨hw,hr⟩ | ⟨hw,rfl⟩
 ·rw [if_pos hw];exact hr h hL _ H
 ·rw [if_neg (by simp [hw])];exact H
theorem RdAs.put {L:List (Addr × Value)} {o:Oper} {v:Value} {ρ:Env} {d:Option Nat} {u:Value} (hp0:Wl6 o=true) (hd:∀j,d=some j->j ∉ o.looksAt ops)
 (hr:RdAs P (evo ρ) o L v):RdAs P (evo (Wx6 ρ d u)) o L v:=λh hL K hk=>by rw [Yq8 (ops:=ops) hp0 hd];exact hr h hL K hk
theorem YieldsL.put {L:List (Addr × Value)} {o:Oper} {v:Value} {ρ:Env} {d:Option Nat} {u:Value} (hp0:Wl6 o=true) (hd:∀j,d=some j->j ∉ o.looksAt ops)
  (hy:YieldsL P ops L o v ρ):YieldsL P ops L o v (Wx6 ρ d u):=by
 unfold YieldsL
 rw [WV7 hd]
 exact hy.imp (λ⟨a,b⟩=>⟨a,b.put hp0 hd⟩) id
theorem Yr2 {L:List (Addr × Value)} {oi oj:Oper} {v:Value} {ρ:Env} {j:Nat} {h:Wa1} {K:Env->Wa1->Prop} (hj:ops[j]? = some oj) (hap:oi.apart ops oj=true)
  (hpi:Wl6 oi=true) (hpj:Wl6 oj=true) (hy:YieldsL P ops L oi v ρ) (H:pstep P ops j (Wx6 ρ oi.dst v) h K) :
  pstep P ops j ρ h λρ' h'=>YieldsL P ops L oi v ρ'/\K (Wx6 ρ' oi.dst v) h':=by
 obtain ⟨h1,h2,h3⟩:=Oper.apart_spec hap
 unfold pstep at *
 rw [hj] at *
 simp only at H ⊢
 rw [WV7 h1] at H
 split
 ·rename_i hw
  rw [if_pos hw,Yq8 (ops:=ops) hpj h1] at H
  refine WE2 (λu h' x=>⟨hy.put hpi h3,?_⟩) H
  rw [WV8 ρ v u h2] at x;exact x
 ·rename_i hw
  rw [if_neg hw] at H
  refine ⟨hy.put hpi h3,?_⟩
  rw [WV8 ρ v Wn2 h2] at H;exact H
theorem WN7 {K:Env->Wa1->Prop} {L:List (Addr × Value)} {i:Nat} {oi:Oper} {v:Value} (hi:ops[i]? = some oi) (hp0:∀(j:Nat) (o:Oper),ops[j]? = some o->Wl6 o=true) (fuel:Nat) :
  ∀(obl:Nat->Wa1->Prop) (listed:Array Bool) (ρ:Env) (h:Wa1),
   (∀j oj,ops[j]? = some oj->j≠i->listed.getD j true=false->(∀e ∈ oj.after,Region.binds .any e=true->e.on≠i)->oi.apart ops oj=true) ->
   Closed ops listed->i ∈ Region.ready .any ops listed->YieldsL P ops L oi v ρ->Wq7 L h ->
   YR9 P ops K fuel (λe h'=>((∀m,Wg3 ops m e i=false)->Wq7 L h')/\obl e h') (listed.setIfInBounds i true) (Wx6 ρ oi.dst v) h->YR9 P ops K (fuel+1) obl listed ρ h:=by
 induction fuel with
 | zero=>
  intro obl listed ρ h _ hcl hr hy hL H
  refine ⟨λe=>(by rw [e] at hr;cases hr),λj hj=>?_⟩
  by_cases hji:j=i
  ·subst hji;exact hy.pstep hi hL ⟨.inl rfl,H⟩
  ·have:=ready_mono hj hji
   rw [H.1] at this
   cases this
 | succ fuel ih=>
  intro obl listed ρ h hfree hcl hr hy hL H
  refine ⟨λe=>(by rw [e] at hr;cases hr),λj hj=>?_⟩
  by_cases hji:j=i
  ·subst hji;exact hy.pstep hi hL ⟨.inl rfl,WF9 _ (λ_ _ x=>x.2) H⟩
  ·have h1:=H.2 j (ready_mono hj hji)
   obtain ⟨hjun,oj,hoj,hall⟩:=mem_ready.1 hj
   have hiun:listed.getD i false=false:=by
    have h0:=(mem_ready.1 hr).1
    rcases Nat.lt_or_ge i listed.size with h' | h'
    ·simp [h'] at h0 ⊢;exact h0
    ·simp [Array.getElem?_eq_none h']
   have hnot:∀e ∈ oj.after,Region.binds .any e=true->e.on≠i:=λe he hb heq=>by
    have h1:=hall e he hb
    rw [heq,hiun] at h1;cases h1
   have h2:=Yr2 hoj (hfree j oj hoj hji hjun hnot) (hp0 i oi hi) (hp0 j oj hoj) hy h1
   have hfree':∀k ok,ops[k]? = some ok->k≠i->(listed.setIfInBounds j true).getD k true=false ->
     (∀e ∈ ok.after,Region.binds .any e=true->e.on≠i)->oi.apart ops ok=true:=λk ok hk hki hun hno=>by
    refine hfree k ok hk hki ?_ hno
    by_cases hjk:j=k
    ·subst hjk;exact hjun
    ·rw [getD_set_ne true hjk] at hun;exact hun
   refine WN6 (λρ' h' x=>?_) h2
   obtain ⟨hy',hx,hany⟩:=x
   have hL':Wq7 L h':=by
    rcases hx with rfl | hx
    ·exact hL
    ·exact hx.1 (λm=>W29 hcl hj hiun)
   refine ⟨hx.imp id (λx=>x.2),ih obl (listed.setIfInBounds j true) ρ' h' hfree' (hcl.set hj) (ready_mono hr (Ne.symm hji)) hy' hL' ?_⟩
   rw [Array.setIfInBounds_comm _ _ hji]
   exact hany
end
end
section
section
variable {P:Program} {ops:Array Oper}
theorem YE8 {h:Wa1} {a:Addr} (n:Nat):∀ {i:Nat} {acc:List Value} {L:List (Addr × Value)} {F:List Value->List (Addr × Value)->Prop},Y62 h a i n acc L F ->
  ∃cs L',F cs (L.reverse ++ L')/\Wq7 L' h/\∀h2,Wq7 L' h2->∀G:List Value->Prop,G cs->ldN h2 a i n acc G:=by
 induction n with
 | zero=>
  intro i acc L F H
  refine ⟨acc.reverse,[],?_,λx hx=>(by cases hx),λh2 _ G g=>g⟩
  have H2:F acc.reverse L.reverse:=H
  simpa using H2
 | succ n ih=>
  intro i acc L F H
  obtain ⟨v,hv,H⟩:=WF1 H
  obtain ⟨cs,L',h1,h2,h3⟩:=ih H
  refine ⟨cs,(a.add i,v) :: L',by simpa using h1,?_,?_⟩
  ·intro x hx
   rcases List.mem_cons.1 hx with rfl | hx
   ·exact hv
   ·exact h2 x hx
  ·intro h4 hL G g
   have e:Wa3 h4 (a.add i)=some v:=hL (a.add i,v) (by simp)
   show ldH h4 (a.add i) _
   unfold ldH;rw [e]
   exact h3 h4 (λx hx=>hL x (by simp [hx])) G g
theorem YE9 {ρ:Operand->Value} {o:Oper} {h:Wa1} {F:Value->List (Addr × Value)->Prop} (hr:Wk3 P o=true) (H:Y63 P ρ o h F) :
  ∃v L,RdAs P ρ o L v/\Wq7 L h/\F v L:=by
 unfold Y63 at H
 split at H
 ·rename_i t x hx
  obtain ⟨a,ha,H⟩:=Wg2 H
  split at H
  ·rename_i hth
   split at H
   ·rename_i hagg
    obtain ⟨cs,L',h1,h2,h3⟩:=YE8 _ H
    refine ⟨_,L',?_,h2,by simpa using h1⟩
    intro h4 hL K hk
    unfold vop;rw [hx];simp only [ha,Wd1,if_pos hth,if_pos hagg]
    exact h3 h4 hL _ hk
   ·rename_i hagg
    obtain ⟨v,hv,H⟩:=WF1 H
    refine ⟨v,[(a,v)],?_,λx hx=>by simp at hx;subst hx;exact hv,H⟩
    intro h4 hL K hk
    have e:Wa3 h4 a=some v:=hL (a,v) (by simp)
    unfold vop;rw [hx];simp only [ha,Wd1,if_pos hth,if_neg hagg,ldH,e]
    exact hk
  ·exact H.elim
 ·rename_i hn
  obtain ⟨v,h1,h2⟩:=YE5 (G:=λv=>F v []) hr (λt x e=>hn t x e) H
  exact ⟨v,[],h2,λx hx=>(by cases hx),h1⟩
def YF0 (ops:Array Oper) (held:YY5) (e:Nat) (h:Wa1):Prop:=∀x ∈ held,(∀m,Wg3 ops m e x.1=false)->Wq7 x.2 h
theorem Yi0 {h:Wa1} {X:Prop} (L:List (Addr × Value)) (H:Yq2 h L X):Wq7 L h/\X:=by
 induction L with
 | nil=>exact ⟨λx hx=>(by cases hx),H⟩
 | cons p L ih=>
  obtain ⟨h1,h2⟩:=ih H.2
  refine ⟨λx hx=>?_,h2⟩
  rcases List.mem_cons.1 hx with rfl | hx
  ·exact H.1
  ·exact h1 x hx
theorem Yi1 {k j:Nat} {o:Oper} (ho:ops[k]? = some o) (hj:j ∈ WA1 o):∀(m e:Nat),Wg3 ops m e k=true->Wg3 ops (m+1) e j=true:=by
 have edge:Wg3 ops 1 k j=true:=by
  unfold WA1 at hj
  obtain ⟨ed,hed,he⟩:=List.mem_filterMap.1 hj
  unfold Wg3
  rw [ho]
  refine Array.any_eq_true'.2 ⟨ed,by simpa using hed,?_⟩
  cases hb:Region.binds .any ed with
  | false=>rw [hb] at he;cases he
  | true=>rw [hb] at he;cases he;simp
 have up:∀(m e i:Nat),Wg3 ops m e i=true->Wg3 ops (m+1) e i=true:=by
  intro m
  induction m with
  | zero=>intro e i h;simp [Wg3] at h
  | succ m ih=>
   intro e i h
   unfold Wg3 at h ⊢
   split at h
   ·cases h
   ·obtain ⟨ed,hed,hb⟩:=Array.any_eq_true'.1 h
    refine Array.any_eq_true'.2 ⟨ed,hed,?_⟩
    simp only [Bool.and_eq_true,Bool.or_eq_true] at hb ⊢
    exact ⟨hb.1,hb.2.imp id (ih _ _)⟩
 intro m
 induction m with
 | zero=>intro e h;simp [Wg3] at h
 | succ m ih=>
  intro e h
  unfold Wg3 at h ⊢
  split at h
  ·cases h
  ·obtain ⟨ed,hed,hb⟩:=Array.any_eq_true'.1 h
   refine Array.any_eq_true'.2 ⟨ed,hed,?_⟩
   simp only [Bool.and_eq_true,Bool.or_eq_true,beq_iff_eq] at hb ⊢
   refine ⟨hb.1,.inr ?_⟩
   rcases hb.2 with h2 | h2
   ·rw [h2]
    have:∀n,Wg3 ops (n+1) k j=true:=λn=>by
     induction n with
     | zero=>exact edge
     | succ n ih=>exact up _ _ _ ih
    exact this m
   ·exact ih _ h2
theorem WN8 {e k j:Nat} {o:Oper} (ho:ops[k]? = some o) (hj:j ∈ WA1 o) (h:k=e\/∃m,Wg3 ops m e k=true):∃m,Wg3 ops m e j=true:=by
 rcases h with rfl | ⟨m,h⟩
 ·unfold WA1 at hj
  obtain ⟨ed,hed,he⟩:=List.mem_filterMap.1 hj
  refine ⟨1,?_⟩
  unfold Wg3
  rw [ho]
  refine Array.any_eq_true'.2 ⟨ed,by simpa using hed,?_⟩
  cases hb:Region.binds .any ed with
  | false=>rw [hb] at he;cases he
  | true=>rw [hb] at he;cases he;simp
 ·exact ⟨m+1,Yi1 ho hj m e h⟩
theorem WW2 {e i:Nat}:∀(n:Nat) (st:List Nat) (vis:Nat),(∀k ∈ st,k=e\/∃m,Wg3 ops m e k=true)->WC2 ops i n st vis=true->∃m,Wg3 ops m e i=true:=by
 intro n
 induction n with
 | zero=>intro st vis _ h;simp [WC2] at h
 | succ n ih=>
  intro st vis hst h
  cases st with
  | nil=>simp [WC2] at h
  | cons k st=>
   unfold WC2 at h
   have hst':∀k ∈ st,k=e\/∃m,Wg3 ops m e k=true:=λx hx=>hst x (by simp [hx])
   split at h
   ·exact ih _ _ hst' h
   ·split at h
    ·exact ih _ _ hst' h
    ·rename_i o ho
     have hk:=hst k (by simp)
     split at h
     ·rename_i ha
      obtain ⟨j,hj,hji⟩:=List.any_eq_true.1 ha
      obtain rfl:=Nat.eq_of_beq_eq_true hji
      exact WN8 ho hj hk
     ·refine ih _ _ (λx hx=>?_) h
      rcases List.mem_append.1 hx with hx | hx
      ·exact .inr (WN8 ho hx hk)
      ·exact hst' x hx
theorem WN9 {e:Nat} {h:Wa1} {X:Prop} (held:YY5) (H:WN4 ops e h held X):YF0 ops held e h/\X:=by
 induction held with
 | nil=>exact ⟨λx hx=>(by cases hx),H⟩
 | cons p held ih=>
  obtain ⟨i,L⟩:=p
  unfold WN4 at H
  split at H
  ·rename_i hw
   obtain ⟨h1,h2⟩:=ih H
   refine ⟨λx hx hx2=>?_,h2⟩
   rcases List.mem_cons.1 hx with rfl | hx
   ·obtain ⟨m,hm⟩:=WW2 _ _ _ (λk hk=>.inl (by simpa using hk)) hw
    rw [hx2 m] at hm;cases hm
   ·exact h1 x hx hx2
  ·obtain ⟨h0,H⟩:=Yi0 _ H
   obtain ⟨h1,h2⟩:=ih H
   refine ⟨λx hx hx2=>?_,h2⟩
   rcases List.mem_cons.1 hx with rfl | hx
   ·exact h0
   ·exact h1 x hx hx2
theorem Yb9 {F:Nat->Prop}:∀(l:List Nat),Y64 l F->∀i ∈ l,F i
 | [],_,i,hi=>by cases hi
 | [j],H,i,hi=>by simp at hi;subst hi;exact H
 | j :: k :: l,H,i,hi=>by
  rcases List.mem_cons.1 hi with rfl | hi
  ·exact H.1
  ·exact Yb9 (k :: l) H.2 i hi
theorem Yi2 (hp0:∀(j:Nat) (o:Oper),ops[j]? = some o->Wl6 o=true) {K:Env->Wa1->Prop} (n:Nat):∀(listed:Array Bool) (held:YY5) (ρ:Env) (h:Wa1),Closed ops listed ->
  WQ3 P ops n listed held ρ h K->YR9 P ops K n (YF0 ops held) listed ρ h:=by
 induction n with
 | zero=>
  intro listed held ρ h hcl H
  unfold WQ3 at H
  split at H
  ·exact ⟨‹_›,H⟩
  ·exact H.elim
 | succ n ih=>
  intro listed held ρ h hcl H
  unfold WQ3 at H
  split at H
  ·rename_i i hi
   split at H
   ·exact H.elim
   ·rename_i o ho
    unfold Yb3 at hi
    have hmem:=List.mem_of_find?_eq_some hi
    have hpr:=List.find?_some hi
    rw [ho] at hpr
    simp only [Bool.and_eq_true] at hpr
    have H:=WA4 H
    have hfr:=Region.free_spec ho hpr.2
    split at H
    ·rename_i hw
     obtain ⟨v,L,h1,h2,h3⟩:=YE9 hpr.1 H
     refine WN7 (L:=L) ho hp0 n (YF0 ops held) listed ρ h hfr hcl hmem (.inl ⟨hw,h1⟩) h2 ?_
     refine WF9 _ ?_ (ih _ _ _ _ (hcl.set hmem) (W26 h3))
     intro e h' hob
     refine ⟨λhwt=>?_,λx hx hx2=>?_⟩
     ·cases L with
      | nil=>exact λx hx=>(by cases hx)
      | cons p L=>exact hob (i,p :: L) (by simp) hwt
     ·cases L with
      | nil=>exact hob x hx hx2
      | cons p L=>exact hob x (by simp [hx]) hx2
    ·rename_i hw
     refine WN7 (L:=[]) ho hp0 n (YF0 ops held) listed ρ h hfr hcl hmem (.inr ⟨by simpa using hw,rfl⟩) (λx hx=>by cases hx) ?_
     refine WF9 _ ?_ (ih _ _ _ _ (hcl.set hmem) H)
     intro e h' hob
     exact ⟨λ_ x hx=>(by cases hx),hob⟩
  ·split at H
   ·rename_i hr
    exact ⟨λ_=>H,λi hi=>by rw [hr] at hi;cases hi⟩
   ·rename_i hne
    refine ⟨λhr=>absurd hr (by simpa using hne),λe he=>?_⟩
    have H:=Yb9 _ H e he
    split at H
    ·exact H.elim
    ·rename_i o ho
     have H:=WA4 H
     unfold pstep;rw [ho];simp only
     split at H
     ·rename_i hw
      rw [if_pos hw]
      refine WE2 (λv h' x=>?_) H
      obtain ⟨h1,h2⟩:=WN9 _ (W26 x)
      exact ⟨.inr h1,ih _ _ _ _ (hcl.set he) h2⟩
     ·rename_i hw
      rw [if_neg hw]
      obtain ⟨h1,h2⟩:=WN9 _ H
      exact ⟨.inl trivial,ih _ _ _ _ (hcl.set he) h2⟩
theorem WW3 {n:Nat} {r:Option Nat} {Q:Exit->Act->World->Prop} (ho:WV6 n ops=true) {ws:List Nat} (hws:∀(i:Nat) (o:Oper),ops[i]? = some o->∀d,o.dst=some d->d ∈ ws) {K:Env->Wa1->Prop} (m:Nat):∀(obl:Nat->Wa1->Prop) (listed:Array Bool) (ρ:Env) (h:Wa1) (a:Act) (w:World),
  YR9 P ops K m obl listed ρ h->Rl n a.tmps ρ->w.heap=h->(∀ρ' a' w',K ρ' w'.heap->Rl n a'.tmps ρ'->SmT ws a.tmps a'.tmps->a'.defers=a.defers->Kw w w'->Q .normal a' w') ->
  wpAnyIn (FW r) 0 P .any ops Q m listed a w:=by
 induction m with
 | zero=>intro obl listed ρ h a w H hR hw hQ;subst hw;exact ⟨H.1,hQ _ _ _ H.2 hR (SmT.refl _ _) rfl (Kw.refl _)⟩
 | succ m ih=>
  intro obl listed ρ h a w H hR hw hQ
  refine ⟨λhr=>by subst hw;exact hQ _ _ _ (H.1 hr) hR (SmT.refl _ _) rfl (Kw.refl _),λi hi=>?_⟩
  refine WV5 (n:=n) (H.2 i hi) hR hw (λo' ho'=>WQ5 ho i o' ho') (hws i) ?_
  intro ρ' a' w' x hR' hs hd hkd
  exact ih _ _ ρ' _ a' w' x.2 hR' rfl λρ'' a'' w'' hK hR'' hs' hd' hkd'=>hQ ρ'' a'' w'' hK hR'' (hs.trans hs') (hd'.trans hd) (hkd.trans hkd')
theorem W30 {n:Nat} (ho:WV6 n ops=true) (j:Nat) (o:Oper) (hj:ops[j]? = some o):Wl6 o=true:=by
 have:=WQ5 ho j o hj
 unfold Yh4 at this;simp at this;exact this.1
theorem Yi3 {n:Nat} {r:Option Nat} {id:Nat} {Q:Exit->Act->World->Prop} {ρ:Env} {h:Wa1} {a:Act} {w:World} (hm:P.follows .mixedOrders=true) (ho:WV6 n ops=true) {ws:List Nat} (hws:∀(i:Nat) (o:Oper),ops[i]? = some o->∀d,o.dst=some d->d ∈ ws) {K:Env->Wa1->Prop}
  (H:WQ3 P ops ops.size (Array.replicate ops.size false) [] ρ h K) (hR:Rl n a.tmps ρ) (hw:w.heap=h)
  (hQ:∀ρ' a' w',K ρ' w'.heap->Rl n a'.tmps ρ'->SmT ws a.tmps a'.tmps->a'.defers=a.defers->Kw w w'->Q .normal a' w'):(Code.region id ops true).wpIn (FW r) 0 P Q a w:=by
 refine wpIn_region_any hm ?_
 have hcl:Closed ops (Array.replicate ops.size false):=by
  intro k o hk ho e he hb
  rw [getD_replicate_false'] at hk;cases hk
 exact WW3 ho hws _ _ _ ρ h a _ (Yi2 (W30 ho) _ _ _ _ _ hcl H) hR hw hQ
where
 getD_replicate_false' (m j:Nat):(Array.replicate m false).getD j false=false:=by
  simp [Array.getD_eq_getD_getElem?,Array.getElem?_replicate];split <;> rfl
end
end
end Go.Proofs.YtahpbclnkofhfaaGreat
