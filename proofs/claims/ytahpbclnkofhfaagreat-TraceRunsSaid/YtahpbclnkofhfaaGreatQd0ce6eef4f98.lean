/- Part 1 of what the proofs of this seat rest on: see the last text of the claim. -/
import Derived.RangeFuncRecord
import Derived.RangeFuncIn
import Derived.OrdersIn
import Derived.KernelRfl
set_option linter.unusedSimpArgs false
set_option linter.unusedVariables false
set_option linter.ambiguousOpen false
set_option maxRecDepth 20000
namespace Go.Proofs.YtahpbclnkofhfaaGreat
section
abbrev A2:=Array Obj
abbrev NW : Array Value := #[.int .i64 0,.int .i64 0,.int .i64 0,.int .i64 0,.int .i64 0,.int .i64 0,.int .i64 0]
abbrev Ae : Array Value := #[.int .i64 0,.int .i64 0,.int .i64 0,.int .i64 0,.int .i64 0,.int .i64 0,.int .i64 0,.int .i64 0,.int .i64 0,.int .i64 0,.int .i64 0,.int .i64 0,.int .i64 0,.int .i64 0,.int .i64 0]
abbrev kQ : Type := Value → A2 → Prop
abbrev aQ (b : Nat) : Addr := ⟨b, 0, none⟩
abbrev iQ (n : Int) : Value := .int .i64 n
abbrev uQ (n : Int) : Value := .int .u64 n
abbrev tQ : Value := .tuple #[]
abbrev pQ (a : Option Addr) : Value := .pointer a
abbrev oQ (v : Array Value) (t : TypeId) : Obj := .cells v t
abbrev lQ (a : Option Addr) (n m : Nat) : Value := .slice a n m
abbrev dQ (b : Bool) : Value := .bool b
abbrev F8:=Nat->Value
def A3 (h:A2) (a:Addr):Option Value:=
 match h[a.block]? with
 | some (.cells c _ _)=>if a.spot.isSome then none else c[a.off]?
 | _=>none
def Cw (h:A2) (r:Nat):Option (TypeId × Nat):=
 match h[r]? with
 | some (.cells c elem _)=>some (elem,c.size)
 | _=>none
def Dl (h:A2) (a:Addr):Bool:=
 match h[a.block]? with
 | some (.cells _ _ (lo,hi))=>lo<=a.off && a.off < hi
 | _=>false
def freezeAt (h:A2) (a:Addr) (n:Nat):A2:=
 if n=0 then h else
 h.modify a.block fun
  | .cells c elem (lo,hi)=>.cells c elem (if lo == hi then (a.off,a.off+n) else (min lo a.off,max hi (a.off+n)))
  | o=>o
def Sk2 (a:Addr) (v:Value):Obj->Obj
 | .cells c elem frozen=>.cells (if a.spot.isSome then c else c.setIfInBounds a.off v) elem frozen
 | o=>o
def setC (h:A2) (a:Addr) (v:Value):A2:=h.modify a.block (Sk2 a v)
def Kd (h h':A2):Prop:=h.size<=h'.size/\∀D:Nat,h[D]? = some (.deferred (some []))->h'[D]? = some (.deferred (some []))
def J3 (v:Value) (X:Prop):Prop:=match v with | .agg _ | .tuple _=>False | _=>X
def hp {α:Type} (P:Program):Sem α->(α->A2->Prop)->A2->Prop
 | .pure a,K,h=>K a h
 | .load _ a k,K,h=>match A3 h a with | some v=>hp P (k v) K h | none=>False
 | .store _ a v k,K,h=>J3 v ((∃u,A3 h a=some u)/\Dl h a=false/\hp P k K (setC h a v))
 | .new o k,K,h=>hp P (k h.size) K (h.push o)
 | .shape r k,K,h=>hp P (k (Cw h r)) K h
 | .freeze a n k,K,h=>hp P k K (freezeAt h a n)
 | .frozen a k,K,h=>hp P (k (Dl h a)) K h
 | .getObj r k,K,h=>match h[r]? with
  | some (.cells ..)=>False
  | some o=>hp P (k o) K h
  | none=>False
 | .setObj r o k,K,h=>match h[r]? with
  | some (.map ..) | some (.mapIter ..) | some (.stringIter ..)=>hp P k K (h.setIfInBounds r o)
  | _=>False
 | .choose q k,K,h=>∀t,hp P (k (if q.forced then 0 else q.cut t)) K h
 | .sys ..,_,_=>False
 | .program k,K,h=>hp P (k P) K h
 | .mark _ k,K,h=>hp P k K h
 | .halt _,_,_=>False
def Kw (w w':World):Prop:=Kd w.heap w'.heap/\w'.os=w.os/\w'.output=w.output
def Xz (w0:World) (K:kQ):Ending->World->Prop
 | .returned v,w=>K v w.heap/\Kw w0 w
 | _,_=>False
def Sk3 (P:Program) (f:FuncId) (args:Array Value) (h:A2) (K:kQ):Prop:=
 ∀w:World,w.heap=h->CallsIn Fence.wide 0 P f args w (Xz w K)
def Sk4 (P:Program) (f:FuncId):Prop:=∀args (w:World),(callFunc f args).run P w=.ok (.enter f args) w
def A5 (P:Program) (f:FuncId) (args:Array Value) (h:A2) (K:kQ):Prop:=
 Sk4 P f/\Sk3 P f args h K
def SO4 (P:Program) (l:Nat) (args:Array Value) (h:A2) (K:kQ):Prop:=
 ∀w:World,w.heap=h->∃fn tmps assign body,(Instr.yield l args).run P w=.ok (.round l fn tmps assign body) w /\
  RoundIn Fence.wide 0 P l fn tmps assign body w (Xz w K)
def Sk5 (P:Program) (f:FuncId) (args:Array Value) (h:A2) (K:kQ):Prop:=
 hp P (callFunc f args) (λnx h'=>match nx with | .value v=>K v h' | _=>False) h
def AQ (P:Program) (v:Value) (args:Array Value) (h:A2) (K:kQ):Prop:=
 match v with
 | .func (.func f) first captured=>A5 P f (first ++ args ++ captured) h K
 | .func (.yield l) first _=>SO4 P l (first ++ args) h K
 | _=>False
def Ke (P:Program) (v:Value) (args:Array Value) (h:A2) (K:kQ):Prop:=
 match v with
 | .func (.func f) first captured=>Sk5 P f (first ++ args ++ captured) h K
 | _=>False
def SY9 (P:Program) (f:Operand):Bool:=
 match f with
 | .func g=>(match P.funcs[g]? with | some fn=>fn.body.isNone | none=>false)
 | _=>false
def E5 (v:Value) (K:Addr->Prop):Prop:=match v with | .pointer (some a)=>K a | _=>False
def C2 (v:Value) (K:Option Addr->Prop):Prop:=match v with | .pointer a=>K a | _=>False
def asInt (k:IntKind) (v:Value) (K:Int->Prop):Prop:=match v with | .int k' n=>if k' = k then K n else False | _=>False
def Gv (v:Value) (K:Int->Prop):Prop:=match v with | .int _ n=>K n | _=>False
def asBool (v:Value) (K:Bool->Prop):Prop:=match v with | .bool b=>K b | _=>False
def G9 (v:Value) (K:ByteArray->Prop):Prop:=match v with | .string s=>K s | _=>False
def C8 (v:Value) (K:Option Addr->Nat->Nat->Prop):Prop:=match v with | .slice a l c=>K a l c | _=>False
def asAgg (v:Value) (K:Array Value->Prop):Prop:=match v with | .agg cs=>K cs | _=>False
def J6 (v:Value) (K:Array Value->Prop):Prop:=match v with | .tuple cs=>K cs | _=>False
def Cd (v:Value) (K:Option Nat->Prop):Prop:=match v with | .map r=>K r | _=>False
def V7 (v:Value) (K:Bool->Prop):Prop:=match v with | .nilFunc=>K true | .func ..=>K false | _=>False
def B4 (v:Value) (X:Prop):Prop:=match v with | .pointer none | .nilIface | .nilFunc=>False | .func (.method _) _ _=>False | _=>X
def D0 (b:Bool) (X Y:Prop):Prop:=match b with | true=>X | false=>Y
def D1 (h:A2) (a:Addr) (K:Value->Prop):Prop:=match A3 h a with | some v=>K v | none=>False
def XA (h:A2) (a:Addr) (i:Nat):Nat->List Value->(List Value->Prop)->Prop
 | 0,acc,K=>K acc.reverse
 | n+1,acc,K=>D1 h (a.add i) λv=>XA h a (i+1) n (v :: acc) K
def C4 (h:A2) (a:Addr) (v:Value) (K:A2->Prop):Prop:=J3 v ((∃u,A3 h a=some u)/\Dl h a=false/\K (setC h a v))
def NX (h:A2) (a:Addr) (i:Nat):List Value->(A2->Prop)->Prop
 | [],K=>K h
 | v :: vs,K=>C4 h (a.add i) v λh'=>NX h' a (i+1) vs K
def AH (P:Program) (t:TypeId):TypeDesc:=(P.underlying t).getD .invalid
def L7 (P:Program) (t:TypeId):Nat:=match P.info? t with | some i=>i.size | none=>0
def Eo (P:Program) (t:TypeId):Nat:=match P.info? t with | some i=>i.bytes | none=>0
def Gw (P:Program) (t:TypeId):Option Value:=(P.info? t).bind (·.zero)
def J7 (P:Program) (t:TypeId):Bool:=(P.info? t).isSome && (P.underlying t).isSome
def NY (P:Program) (t:TypeId):Bool:=match AH P t with | .struct _ | .array _ _=>true | _=>false
def Bo (P:Program) (t:TypeId):List Value:=match Gw P t with | some (.agg cs)=>cs.toList | some v=>[v] | none=>[]
def D2 (vs:Array Value) (i:Nat) (K:Value->Prop):Prop:=match vs[i]? with | some v=>K v | none=>False
def G0 (cs:Array Value) (n:Nat) (X:Prop):Prop:=match Nat.beq cs.size n with | true=>X | false=>False
def CH (cs:Array Value):Nat->Nat->List Value->(List Value->Prop)->Prop
 | 0,_,acc,F=>F acc.reverse
 | n+1,i,acc,F=>D2 cs i λv=>CH cs n (i+1) (v :: acc) F
def Ut (n:Nat) (v:Value) (K:Value->Prop):Prop:=match Nat.ble n 64 with
 | true=>asAgg v λcs=>G0 cs n (CH cs n 0 [] λus=>K (.agg us.toArray))
 | false=>K v
def Hc (P:Program) (t:TypeId) (v:Value) (K:Value->Prop):Prop:=
 match AH P t with
 | .bool=>asBool v λb=>K (.bool b)
 | .int k=>asInt k v λn=>K (.int k n)
 | .string=>G9 v λs=>K (.string s)
 | .slice _=>C8 v λa l c=>K (.slice a l c)
 | .pointer _=>C2 v λa=>K (.pointer a)
 | .map _ _=>Cd v λr=>K (.map r)
 | .struct _=>Ut (L7 P t) v K
 | .array _ _=>Ut (L7 P t) v K
 | _=>K v
def Uu (n:Nat) (v:Value) (K:List Value->Prop):Prop:=match Nat.ble n 64 with
 | true=>asAgg v λcs=>G0 cs n (CH cs n 0 [] K)
 | false=>asAgg v λcs=>K cs.toList
def Dm (P:Program) (t:TypeId) (v:Value) (K:List Value->Prop):Prop:=
 if NY P t then Uu (L7 P t) v K else J3 v (K [v])
def Hd (f:Operand->Value) (a:Array Operand):Array Value:=(a.toList.map f).toArray
def BF (cs:List Value) (off:Nat):List Value->List Value
 | []=>cs
 | v :: vs=>BF (cs.set off v) (off+1) vs
def Ft (P:Program) (place:Nat->Option (Nat × TypeId)):List Value->List (Nat × Value)->(List Value->Prop)->Prop
 | cells,[],K=>K cells
 | cells,(i,v) :: rest,K=>
  match place i with
  | none=>False
  | some (off,t)=>Dm P t v λcs=>
   if cs.length=L7 P t/\off+L7 P t<=cells.length then Ft P place (BF cells off cs) rest K else False
def MO (P:Program) (t:TypeId) (cs:Array Value) (off:Nat):Option Value:=
 if NY P t then some (.agg (cs.extract off (off+L7 P t))) else cs[off]?
def EB (P:Program) (t:TypeId) (cs:Array Value) (off:Nat) (K:Value->Prop):Prop:=match MO P t cs off with | some v=>K v | none=>False
def IG (s:ByteArray) (i:Nat):Int:=((s[i]?).map (λb=>(b.toNat:Int))).getD 0
def DI (P:Program) (t:TypeId) (cs:Array Value) (off:Nat):Option Value:=if J7 P t then MO P t cs off else none
def Qa:Option Bool->Option Bool->Option Bool
 | some b,some r=>some (b && r)
 | _,_=>none
def eqv (P:Program):(d:Nat)->TypeId->Value->Value->Option Bool
 | 0,_,_,_=>none
 | d+1,t,x,y=>
  match AH P t,x,y with
  | .bool,.bool a,.bool b=>some (a == b)
  | .int _,.int k a,.int k' b=>if k=k' then some (a == b) else none
  | .string,.string a,.string b=>some (a == b)
  | .struct fields,.agg xs,.agg ys=>
   if P.stoodInHeld t then none else
   fields.toList.foldr (λf acc=>
    if f.name = "_" then none else
    match DI P f.type xs f.offset,DI P f.type ys f.offset with
    | some x,some y=>Qa (eqv P d f.type x y) acc
    | _,_=>none) (some true)
  | .array len elem,.agg xs,.agg ys=>
   if J7 P elem then
   (List.range' 0 len).foldr (λi acc=>
    match DI P elem xs (i*L7 P elem),DI P elem ys (i*L7 P elem) with
    | some x,some y=>Qa (eqv P d elem x y) acc
    | _,_=>none) (some true) else none
  | _,_,_=>none
def GL (P:Program) (t:TypeId) (x y:Value) (K:Bool->Prop):Prop:=
 if P.eqGuardType P.depth t then False else
 asAgg x λ_=>
 match eqv P 10000 t x y with | some b=>K b | none=>False
def AR:Value:=.tuple #[]
def nxt (P:Program) (K:kQ):Next->A2->Prop
 | .value v,h=>K v h
 | .skip,h=>K AR h
 | .enter f args,h=>Sk3 P f args h K
 | _,_=>False
def NZ (P:Program) (ρ:Operand->Value) (o:Oper) (h:A2) (K:kQ):Prop:=hp P (execOp ρ o) (nxt P K) h
def Mf (P:Program) (src dst:TypeId) (v:Value) (h:A2) (K:kQ):Prop:=hp P (convert src dst v) K h
def Qb (P:Program) (op:BinOp) (t:TypeId) (a b:Option Addr) (h:A2) (K:kQ):Prop:=hp P (binOp op t (.pointer a) (.pointer b)) K h
def SO5 (P:Program) (argTypes:Array TypeId) (t:TypeId) (args:Array Value) (h:A2) (K:kQ):Prop:=hp P (Builtin.unsafeSliceData_ argTypes t args) K h
def SZ0 (P:Program) (argTypes:Array TypeId) (t:TypeId) (args:Array Value) (h:A2) (K:kQ):Prop:=hp P (Builtin.clear_ argTypes t args) K h
def SO6 (P:Program) (argTypes:Array TypeId) (t:TypeId) (args:Array Value) (h:A2) (K:kQ):Prop:=hp P (Builtin.unsafeString_ argTypes t args) K h
def SE2:Operand->Bool | .const (.pointer none)=>true | _=>false
def SE3:Operand->Bool | .const (.slice none _ _)=>true | _=>false
def SO7:Operand->Bool | .const (.map none)=>true | _=>false
def SE4:Operand->Bool | .const .nilFunc=>true | _=>false
def Jl (k:IntKind) (op:BinOp) (a b:Int) (K:Value->Prop):Prop:=
 match op with
 | .add=>K (.int k (k.wrap (a+b)))
 | .sub=>K (.int k (k.wrap (a - b)))
 | .mul=>K (.int k (k.wrap (a*b)))
 | .quo=>b≠0/\K (.int k (k.wrap (a.tdiv b)))
 | .rem=>b≠0/\K (.int k (a.tmod b))
 | .and=>K (.int k (k.wrap ((BitVec.ofInt k.bits a) &&& (BitVec.ofInt k.bits b)).toNat))
 | .or=>K (.int k (k.wrap ((BitVec.ofInt k.bits a) ||| (BitVec.ofInt k.bits b)).toNat))
 | .xor=>K (.int k (k.wrap ((BitVec.ofInt k.bits a) ^^^ (BitVec.ofInt k.bits b)).toNat))
 | .andNot=>K (.int k (k.wrap ((BitVec.ofInt k.bits a) &&& ~~~(BitVec.ofInt k.bits b)).toNat))
 | .eql=>K (.bool (a == b))
 | .neq=>K (.bool (a != b))
 | .lss=>K (.bool (decide (a < b)))
 | .leq=>K (.bool (decide (a<=b)))
 | .gtr=>K (.bool (decide (a > b)))
 | .geq=>K (.bool (decide (a >= b)))
 | _=>False
def Qc (k:IntKind) (op:BinOp) (a b:Int) (K:Value->Prop):Prop:=
 match op with
 | .shl=>0<=b/\K (.int k (k.wrap (a*2 ^ (min b.toNat k.bits))))
 | .shr=>0<=b/\K (.int k (a.fdiv (2 ^ (min b.toNat k.bits))))
 | _=>False
def Ci (P:Program) (t:TypeId):Option IntKind:=match AH P t with | .int k=>some k | _=>none
def Kf (P:Program) (op:BinOp) (xt yt:TypeId) (x y:Operand) (ρ:Operand->Value) (o:Oper) (h:A2) (K:kQ):Prop:=
 match AH P xt with
 | .int k=>(match op with
  | .shl | .shr=>(match Ci P yt with
   | some k'=>asInt k (ρ x) λa=>asInt k' (ρ y) λb=>Qc k op a b λv=>K v h
   | none=>False)
  | _=>asInt k (ρ x) λa=>asInt k (ρ y) λb=>Jl k op a b λv=>K v h)
 | .bool=>(match op with
  | .eql=>asBool (ρ x) λa=>asBool (ρ y) λb=>K (.bool (a == b)) h
  | .neq=>asBool (ρ x) λa=>asBool (ρ y) λb=>K (.bool (!(a == b))) h
  | _=>False)
 | .string=>(match op with
  | .eql=>G9 (ρ x) λa=>G9 (ρ y) λb=>K (.bool (a.toList == b.toList)) h
  | .neq=>G9 (ρ x) λa=>G9 (ρ y) λb=>K (.bool (!(a.toList == b.toList))) h
  | .add=>G9 (ρ x) λa=>G9 (ρ y) λb=>((a.size+b.size:Nat):Int)<=9223372036854775807/\K (.string (a ++ b)) h
  | _=>NZ P ρ o h K)
 | .pointer _=>(match op,SE2 y with
  | .eql,true=>C2 (ρ x) λa=>K (.bool a.isNone) h
  | .neq,true=>C2 (ρ x) λa=>K (.bool (!a.isNone)) h
  | .eql,false=>C2 (ρ x) λa=>C2 (ρ y) λb=>Qb P .eql xt a b h K
  | .neq,false=>C2 (ρ x) λa=>C2 (ρ y) λb=>Qb P .neq xt a b h K
  | _,_=>NZ P ρ o h K)
 | .slice _=>(match op,SE3 y with
  | .eql,true=>C8 (ρ x) λa _ _=>K (.bool a.isNone) h
  | .neq,true=>C8 (ρ x) λa _ _=>K (.bool (!a.isNone)) h
  | _,_=>NZ P ρ o h K)
 | .map _ _=>(match op,SO7 y with
  | .eql,true=>Cd (ρ x) λa=>K (.bool a.isNone) h
  | .neq,true=>Cd (ρ x) λa=>K (.bool (!a.isNone)) h
  | _,_=>NZ P ρ o h K)
 | .func _ _ _=>(match op,SE4 y with
  | .eql,true=>V7 (ρ x) λb=>K (.bool b) h
  | .neq,true=>V7 (ρ x) λb=>K (.bool (!b)) h
  | _,_=>NZ P ρ o h K)
 | .struct _ | .array _ _=>(match op with
  | .eql=>GL P xt (ρ x) (ρ y) λb=>K (.bool b) h
  | .neq=>GL P xt (ρ x) (ρ y) λb=>K (.bool (!b)) h
  | _=>False)
 | _=>NZ P ρ o h K
def Bp (k:Option IntKind) (v:Option Value) (dflt most:Nat) (K:Nat->Prop):Prop:=
 match v with
 | none=>K dflt
 | some v=>match k with
  | none=>Gv v λi=>0<=i/\i<=most/\K i.toNat
  | some k=>asInt k v λi=>0<=i/\i<=most/\K i.toNat
def FD (a:Option Addr) (l m n:Nat):Option Addr:=if m=l then a else a.map (·.add (l*n))
def MP (a:Addr) (l m n:Nat):Addr:=if m=l then a else a.add (l*n)
def FE (P:Program) (t:TypeId) (x:Value) (lo hi mx:Option Value) (K:Value->Prop):Prop:=
 match AH P t with
 | .string=>if mx.isSome then False else G9 x λs=>
  Bp none hi s.size s.size λh=>Bp none lo 0 h λl=>K (.string (s.extract l h))
 | .slice e=>if J7 P e then C8 x λa len cap=>
  Bp none mx cap cap λm=>Bp none hi len m λh=>Bp none lo 0 h λl=>
   K (.slice (FD a l m (L7 P e)) (h - l) (m - l)) else False
 | .array n e=>if J7 P e then E5 x λa=>
  Bp none mx n n λm=>Bp none hi n m λh=>Bp none lo 0 h λl=>
   K (.slice (some (MP a l m (L7 P e))) (h - l) (m - l)) else False
 | _=>False
def Y5 (P:Program) (elem:TypeId) (l c:Int) (h:A2) (K:kQ):Prop:=
 0<=l/\l<=c/\c<=9223372036854775807/\Eo P elem*c<=2 ^ 48 /\
  K (.slice (some (aQ h.size)) l.toNat c.toNat) (h.push (.cells ((List.replicate c.toNat (Bo P elem)).flatten.toArray) elem))
def T2 (P:Program) (argTypes:Array TypeId) (t:TypeId) (args:Array Value) (h:A2) (K:kQ):Prop:=
 hp P (Builtin.append_ argTypes t args) K h
def HO (P:Program) (argTypes:Array TypeId) (t:TypeId) (args:Array Value) (h:A2) (K:kQ):Prop:=
 hp P (Builtin.copy_ argTypes t args) K h
def Sk6 (h:A2) (r:Option Nat) (K:Array MapEntry->Nat->Prop):Prop:=
 match r with
 | none=>K #[] 0
 | some r=>match h[r]? with | some (.map es c)=>K es c | _=>False
def Jm (P:Program) (t:TypeId) (x i:Value) (ok:Bool) (h:A2) (K:kQ):Prop:=hp P (Instr.lookup t x i ok) K h
def XB (P:Program) (t:TypeId) (x i v:Value) (h:A2) (K:A2->Prop):Prop:=hp P (Instr.mapUpdate t x i v) (λ_=>K) h
def XC (P:Program) (argTypes:Array TypeId) (t:TypeId) (args:Array Value) (h:A2) (K:kQ):Prop:=
 hp P (Builtin.delete_ argTypes t args) K h
def O4 (f:Int->Int->Int) (P:Program) (t:TypeId):List Value->(Int->Prop)->Prop
 | [],_=>False
 | [x],K=>(match Ci P t with | some k=>asInt k x K | none=>False)
 | x :: xs,K=>(match Ci P t with | some k=>asInt k x λa=>go f k a xs K | none=>False)
where
 go (f:Int->Int->Int) (k:IntKind) (a:Int):List Value->(Int->Prop)->Prop
  | [],K=>K a
  | y :: ys,K=>asInt k y λb=>go f k (f a b) ys K
def FG (x y:Int):Int:=if y > x then y else x
def GR (x y:Int):Int:=if y < x then y else x
def Aq (P:Program) (b:Builtin) (argTypes:Array TypeId) (t:TypeId) (args:List Value) (ρ:Operand->Value) (o:Oper) (h:A2) (K:kQ):Prop:=
 match b,args with
 | .len,[x]=>(match argTypes[0]? with
  | some t0=>(match AH P t0 with
   | .slice _=>C8 x λ_ n _=>K (.int .i64 n) h
   | .string=>G9 x λs=>K (.int .i64 s.size) h
   | .map _ _=>Cd x λr=>Sk6 h r λes _=>K (.int .i64 es.size) h
   | .array n _=>K (.int .i64 n) h
   | _=>False)
  | none=>False)
 | .cap,[x]=>(match argTypes[0]? with
  | some t0=>(match AH P t0 with
   | .slice _=>C8 x λ_ _ n=>K (.int .i64 n) h
   | _=>False)
  | none=>False)
 | .append,args=>T2 P argTypes t args.toArray h K
 | .copy,args=>HO P argTypes t args.toArray h K
 | .delete,args=>XC P argTypes t args.toArray h K
 | .unsafeSliceData,args=>SO5 P argTypes t args.toArray h K
 | .unsafeString,args=>SO6 P argTypes t args.toArray h K
 | .clear,args=>SZ0 P argTypes t args.toArray h K
 | .max,args=>(match Ci P t with | some k=>O4 FG P t args λn=>K (.int k n) h | none=>NZ P ρ o h K)
 | .min,args=>(match Ci P t with | some k=>O4 GR P t args λn=>K (.int k n) h | none=>NZ P ρ o h K)
 | _,_=>NZ P ρ o h K
def Ep (P:Program) (ρ:Operand->Value) (o:Oper) (h:A2) (K:kQ):Prop:=
 match o.op with
 | .move x | .assign x=>K (ρ x) h
 | .pick c a b=>asBool (ρ c) λc=>D0 c (K (ρ a) h) (K (ρ b) h)
 | .alloc t=>(match Gw P t with
  | some z=>K (.pointer (some ⟨h.size,0,none⟩)) (h.push (.cells z.cells t))
  | none=>False)
 | .box t x=>Dm P t (ρ x) λcs=>K (.pointer (some ⟨h.size,0,none⟩)) (h.push (.cells cs.toArray t))
 | .build t parts=>if (Gw P t).isSome then (match AH P t with
  | .struct fields=>if fields.all (λf=>J7 P f.type)=false then False else Ft P (λi=>(fields[i]?).map λf=>(f.offset,f.type)) (Bo P t) (parts.toList.map λp=>(p.1,ρ p.2)) λcs=>K (.agg cs.toArray) h
  | .array _ elem=>if J7 P elem=false then False else Ft P (λi=>some (i*L7 P elem,elem)) (Bo P t) (parts.toList.map λp=>(p.1,ρ p.2)) λcs=>K (.agg cs.toArray) h
  | _=>False) else False
 | .buildSlice t len parts=>(match AH P t with
  | .slice elem=>if J7 P elem/\len*L7 P elem<=16777216/\(Gw P elem).isSome/\(Bo P elem).length=L7 P elem/\0 < L7 P elem then
    Ft P (λi=>some (i*L7 P elem,elem)) (List.replicate len (Bo P elem)).flatten (parts.toList.map λp=>(p.1,ρ p.2))
     λcs=>K (.slice (some (aQ h.size)) len len) (h.push (.cells cs.toArray elem)) else False
  | _=>False)
 | .load t x=>E5 (ρ x) λa=>if J7 P t then (if NY P t then XA h a 0 (L7 P t) [] (λcs=>K (.agg cs.toArray) h) else D1 h a λv=>K v h) else False
 | .store t x y=>E5 (ρ x) λa=>Dm P t (ρ y) λcs=>if J7 P t/\cs.length=L7 P t then NX h a 0 cs λh'=>K AR h' else False
 | .nilCheck x=>B4 (ρ x) (K (ρ x) h)
 | .binOp op xt x y yt=>Kf P op xt yt x y ρ o h K
 | .unOp op xt x=>(match op,AH P xt with
  | .not,.bool=>asBool (ρ x) λb=>K (.bool (!b)) h
  | .neg,.int k=>asInt k (ρ x) λn=>K (.int k (k.wrap (0 - n))) h
  | _,_=>NZ P ρ o h K)
 | .convert src dst x=>(match AH P src,AH P dst with
  | .int ks,.int k=>asInt ks (ρ x) λn=>K (.int k (k.wrap n)) h
  | .string,.string=>G9 (ρ x) λs=>K (.string s) h
  | _,_=>Mf P src dst (ρ x) h K)
 | .makeInterface t x=>(match AH P t with | .interface _=>False | .invalid=>False | _=>K (.iface t (ρ x)) h)
 | .makeFunc fn first captured=>K (.func fn (Hd ρ first) (Hd ρ captured)) h
 | .makeMap _ none=>K (.map (some h.size)) (h.push (.map #[] 0))
 | .makeSlice t l c=>(match AH P t with
  | .slice elem=>Gv (ρ l) λl=>Gv (ρ c) λc=>if J7 P elem/\(Gw P elem).isSome/\(Bo P elem).length=L7 P elem/\0 < L7 P elem then Y5 P elem l c h K else False
  | _=>False)
 | .slice t x lo hi mx=>if mx.isSome && hi.isNone then False else FE P t (ρ x) (lo.map ρ) (hi.map ρ) (mx.map ρ) λv=>K v h
 | .fieldAddr s x f=>(match AH P s with
  | .struct fields=>(match fields[f]? with
   | some fd=>if J7 P fd.type/\L7 P fd.type≠0 then E5 (ρ x) λa=>K (.pointer (some (a.add fd.offset))) h else False
   | none=>False)
  | _=>False)
 | .field t x f=>(match AH P t with
  | .struct fields=>(match fields[f]? with
   | some fd=>asAgg (ρ x) λcs=>EB P fd.type cs fd.offset λv=>if J7 P fd.type then K v h else False
   | none=>False)
  | _=>False)
 | .indexAddr t x i=>(match AH P t with
  | .slice elem=>C8 (ρ x) λa len _=>Gv (ρ i) λi=>0<=i/\i < len/\E5 (.pointer a) λa=>if J7 P elem then K (.pointer (some (a.add (i.toNat*L7 P elem)))) h else False
  | .array len elem=>E5 (ρ x) λa=>Gv (ρ i) λi=>0<=i/\i < len/\(if J7 P elem then K (.pointer (some (a.add (i.toNat*L7 P elem)))) h else False)
  | _=>False)
 | .index t x i=>(match AH P t with
  | .string=>G9 (ρ x) λs=>Gv (ρ i) λi=>0<=i/\i < s.size/\K (.int .u8 (IG s i.toNat)) h
  | .array len elem=>asAgg (ρ x) λcs=>Gv (ρ i) λi=>0<=i/\i < len/\EB P elem cs (i.toNat*L7 P elem) λv=>if J7 P elem then K v h else False
  | _=>False)
 | .lookup t x i ok=>Jm P t (ρ x) (ρ i) ok h K
 | .mapUpdate t m k x=>XB P t (ρ m) (ρ k) (ρ x) h λh'=>K AR h'
 | .extract x i=>J6 (ρ x) λvs=>D2 vs i λv=>K v h
 | .call { callee:=.builtin b,args,argTypes }=>Aq P b argTypes o.type (args.toList.map ρ) ρ o h K
 | .call { callee:=.value f,args,.. }=>(match SY9 P f with
  | true=>Ke P (ρ f) (Hd ρ args) h K
  | false=>AQ P (ρ f) (Hd ρ args) h K)
 | .panic _=>False
 | _=>NZ P ρ o h K
theorem t_nx {P:Prop} (h:P:=by (refine ⟨by ((with_reducible first | apply J1.pop | apply J1.allPc | apply J1.allS | apply J1.fin | apply J1.call | apply J1.all);(focus (refine Lo.adjR ?_ (by assumption);(with_reducible repeat' constructor)));try (first | decide | (refine .inr ?_;decide) | (refine .inl ?_;simp [fA];done) | (refine Lo.ne ?_ hne;(with_reducible repeat' constructor)))),?_⟩;first | (refine .inl ?_;(focus (refine Ch.act ?_;(with_reducible repeat' constructor)));done) | (refine .inr ?_;((with_reducible first | apply J1.ltCall r hne | apply J1.ltFin r hne | apply J1.ltPc r hne | apply J1.ltPop r hne);assumption;(focus (refine Lo.adjR ?_ (by assumption);(with_reducible repeat' constructor)));try (first | assumption | exact Bn _ _));simp +decide [fW,fA,hs];first | done | omega))):P:=h
theorem t_nxS {P:Prop} (h:P:=by (refine ⟨by ((with_reducible first | apply J1.pop | apply J1.allPc | apply J1.allS | apply J1.fin | apply J1.call | apply J1.all);(focus (refine Lo.adjR ?_ (by assumption);(with_reducible repeat' constructor)));try (first | decide | (refine .inr ?_;decide) | (refine .inl ?_;simp [fA];done) | (refine Lo.ne ?_ hne;(with_reducible repeat' constructor)))),?_⟩;first | (refine .inl ?_;(focus (refine Ch.act ?_;(with_reducible repeat' constructor)));done) | (refine .inr ?_;((with_reducible first | apply J1.ltCall r hne | apply J1.ltFin r hne | apply J1.ltPc r hne | apply J1.ltPop r hne);assumption;(focus (refine Lo.adjR ?_ (by assumption);(with_reducible repeat' constructor)));try (first | assumption | exact Bn _ _));simp +decide [fW,fA,hs,ha];first | done | omega))):P:=h
theorem t_adj {P:Prop} (h:P:=by ((with_reducible first | apply J1.pop | apply J1.allPc | apply J1.allS | apply J1.fin | apply J1.call | apply J1.all);(focus (refine Lo.adjR ?_ (by assumption);(with_reducible repeat' constructor)));try (first | decide | (refine .inr ?_;decide) | (refine .inl ?_;simp [fA];done) | (refine Lo.ne ?_ hne;(with_reducible repeat' constructor))))):P:=h
theorem t_adr {P:Prop} (h:P:=by (focus (refine Lo.adjR ?_ (by assumption);(with_reducible repeat' constructor)))):P:=h
theorem t_mo {P:Prop} (h:P:=by ((try simp only [f_m,AY,CM,X9,Ap,Eg,Eh,Il,Cy,Fp,Bh,DC,Fq]);refine .inr ⟨?_,?_⟩ <;> simp only [R0,R1,Ao,Du,BY,IY,or_true,true_or,and_true,true_and] <;> omega)):P:=h
theorem t_su {P:Prop} (h:P:=by ((try simp only [AY,CM,X9,Ap,Eg,Eh,Il,Cy,Bh]);refine .inr ⟨(by simp only [R0,R1];omega),.inl ⟨?_,?_,?_,?_,?_⟩⟩ <;> intros <;> (try simp +decide (disch:=first | decide | assumption | (simp only [R0,R1];assumption)) only [Ao,Du,BY,IY,CN,B0,G5,R0,R1] at *) <;> omega)):P:=h
theorem t_sr9 {P:Prop} (h:P:=by ((try simp only [AY,CM,X9,Ap,Eg,Eh,Il,Cy,Bh]);exact Yt (by simp only [R0,R1];assumption) (by simp only [Ao,Du];assumption) (.inr rfl))):P:=h
theorem t_sr {P:Prop} (h:P:=by ((try simp only [AY,CM,X9,Ap,Eg,Eh,Il,Cy,Bh]);refine Yt (by simp only [R0,R1];assumption) (by simp only [Ao,Du];assumption) (by simp only [BY,IY];omega))):P:=h
theorem t_sf {P:Prop} (h:P:=by ((try simp only [AY,CM,X9,Ap,Eg,Eh,Il]);refine Iz (by simp only [R0,R1];assumption) (by simp only [Ao,Du];assumption) (by simp only [BY,IY];omega) ?_;first | assumption | (simp +decide (disch:=decide) only [CN,B0];assumption))):P:=h
theorem t_l31 {P:Prop} (h:P:=by ((try simp only [f_m,AY,CM,X9,Ap,Eg,Eh,Il,Cy,Fp,Bh,DC,Fq]);refine SJ5 (by simp only [R0,R1];assumption) (by simp only [Ao,Du];assumption) ?_ ?_ ?_ <;> intros <;> (try simp +decide (disch:=first | decide | assumption | (simp only [R0,R1];assumption)) only [Ao,Du,BY,IY,CN,B0,G5,R0,R1] at *) <;> omega)):P:=h
theorem t_l32 {P:Prop} (h:P:=by ((try simp only [f_m,AY,CM,X9,Ap,Eg,Eh,Il,Cy,Fp,Bh,DC,Fq]);refine SJ6 (by simp only [R0,R1];assumption) (by simp only [Ao,Du];assumption) (by simp only [BY,IY,or_true];first | done | omega))):P:=h
theorem t_l34 {P:Prop} (h:P:=by ((try simp only [f_m,AY,CM,X9,Ap,Eg,Eh,Il,Cy,Fp,Bh,DC,Fq]);refine SJ7 (by simp only [R0,R1];assumption) (by simp only [Ao,Du];assumption) (by simp only [BY,IY,or_true];first | done | omega))):P:=h
theorem t_l35 {P:Prop} (h:P:=by ((try simp only [f_m,AY,CM,X9,Ap,Eg,Eh,Il,Cy,Fp,Bh,DC,Fq]);refine SJ8 (by simp only [R0,R1];assumption) (by simp only [Ao,Du];assumption) (by simp only [BY,IY,or_true];first | done | omega))):P:=h
theorem t_l36 {P:Prop} (h:P:=by ((try simp only [f_m,AY,CM,X9,Ap,Eg,Eh,Il,Cy,Fp,Bh,DC,Fq]);refine SJ9 (by simp only [R0,R1];assumption) (by simp only [Ao,Du];assumption) (by simp only [BY,IY,or_true];first | done | omega))):P:=h
theorem t_sg {P:Prop} (h:P:=by ((try simp only [f_m,AY,CM,X9,Ap,Eg,Eh,Il,Cy,Fp,Bh,DC,Fq]);refine Kx (by simp only [R0,R1];assumption) (by simp only [Ao,Du];assumption) (by simp only [BY,IY];omega) ?_;first | assumption | (simp +decide (disch:=decide) only [CN,B0];assumption))):P:=h
theorem t_hz {P:Prop} (h:P:=by ((try simp only [AY,CM,X9,Ap,Eg,Eh,Il]);unfold Z1;(try simp only [Ao,Du,BY,IY,R0,R1]);omega)):P:=h
theorem t_rest {P:Prop} (h:P:=by (focus (refine Lo.rest ?_ (by assumption);(with_reducible repeat' constructor)))):P:=h
theorem t_gro {P:Prop} (h:P:=by (with_reducible repeat' (first | apply St.refl | assumption | apply St.load | apply St.store | apply St.cas | apply St.add | apply St.swing | apply St.swingA | apply St.swingM | apply St.drop1 | apply St.guard | apply St.next | apply St.lvl | apply St.dcas | apply St.dcss | apply St.gh | apply St.call | apply St.fin | apply St.s | apply St.pc | apply St.push | apply St.pop))):P:=h
theorem t_st {P Q:Prop} (q:Q) (e:Q->P:=by intro q;(repeat (with_reducible first | apply E3.load | apply E3.store | apply E3.cas | apply E3.add | apply E3.swing | apply E3.swingA | apply E3.swingM | apply E3.drop1 | apply E3.guard | apply E3.gh | apply E3.fo | apply E3.re | apply E3.setPl));exact q):P:=e q
theorem sb {P Q:Prop} (q:Q) (e:Q->P:=by intro q;try simp only [B4,F2,Nat.reduceAdd,Int.reduceLE,Int.reduceLT,Int.reduceToNat];exact q):P:=e q
theorem sl {A P Q:Prop} (a:A) (q:Q) (e:A->Q->P:=by intro a q;try simp only [B4,F2,Nat.reduceAdd,Int.reduceLE,Int.reduceLT,Int.reduceToNat,A1.l a];exact q):P:=e a q
theorem ss {A P Q:Prop} (a:A) (q:Q) (e:A->Q->P:=by intro a q;try simp +decide only [B4,F2,Nat.reduceAdd,Int.reduceLE,Int.reduceLT,Int.reduceToNat,J0,G5,B0,A1.al a];exact q):P:=e a q
end
section
theorem Kd.refl (h:A2):Kd h h:=⟨Nat.le_refl _,λ_ x=>x⟩
theorem Kd.trans {h h' h'':A2} (a:Kd h h') (b:Kd h' h''):Kd h h'':=⟨Nat.le_trans a.1 b.1,λD x=>b.2 D (a.2 D x)⟩
theorem getElem?_setC (h:A2) (a:Addr) (v:Value) (b:Nat):(setC h a v)[b]? =
  if a.block=b then (h[b]?).map (Sk2 a v) else h[b]?:=by
 unfold setC;rw [Array.getElem?_modify]
theorem YF (h:A2) (a:Addr) (v:Value):(setC h a v).size=h.size:=by unfold setC;simp
theorem Kd.setC (h:A2) (a:Addr) (v:Value):Kd h (setC h a v):=⟨by rw [YF];exact Nat.le_refl _,λD x=>by
 rw [getElem?_setC];split <;> simp [x,Sk2]⟩
theorem Kd.freezeAt (h:A2) (a:Addr) (n:Nat):Kd h (freezeAt h a n):=by
 unfold Proofs.YtahpbclnkofhfaaGreat.freezeAt;split
 ·exact Kd.refl _
 ·refine ⟨by simp,λD x=>?_⟩
  rw [Array.getElem?_modify];split <;> simp [x]
theorem Kd.push (h:A2) (o:Obj):Kd h (h.push o):=⟨by simp,λD x=>by
 have:D < h.size:=(Array.getElem?_eq_some_iff.1 x).1
 rw [Array.getElem?_push_lt this];exact x ▸ (Array.getElem?_eq_getElem this).symm⟩
theorem Kd.set {h:A2} {r:Nat} {o:Obj} (hr:h[r]?≠some (.deferred (some []))):Kd h (h.setIfInBounds r o):=⟨by simp,λD x=>by
 rw [Array.getElem?_setIfInBounds];split
 ·rename_i e;subst e;exact absurd x hr
 ·exact x⟩
section
variable {P:Program} {α β:Type}
theorem Sk7 (s:Sem α) (f:α->Sem β) (K:β->A2->Prop) (h:A2):hp P (s.bind f) K h=hp P s (λa=>hp P (f a) K) h:=by
 induction s generalizing h with
 | pure a=>rfl
 | load m a k ih=>simp only [Sem.bind,hp,ih]
 | store m a v k ih=>simp only [Sem.bind,hp,ih]
 | new o k ih=>simp only [Sem.bind,hp,ih]
 | shape r k ih=>simp only [Sem.bind,hp,ih]
 | freeze a n k ih=>simp only [Sem.bind,hp,ih]
 | frozen a k ih=>simp only [Sem.bind,hp,ih]
 | getObj r k ih=>simp only [Sem.bind,hp,ih]
 | setObj r o k ih=>simp only [Sem.bind,hp,ih]
 | choose q k ih=>simp only [Sem.bind,hp,ih]
 | sys c k ih=>simp only [Sem.bind,hp]
 | program k ih=>simp only [Sem.bind,hp,ih]
 | mark m k ih=>simp only [Sem.bind,hp,ih]
 | halt h=>simp only [Sem.bind,hp]
theorem A8 (s:Sem α) (f:α->Sem β) (K:β->A2->Prop) (h:A2):hp P (s >>= f) K h=hp P s (λa=>hp P (f a) K) h:=Sk7 s f K h
theorem D6 (a:α) (K:α->A2->Prop) (h:A2):hp P (pure a) K h=K a h:=rfl
theorem Dg {v:Value} {X Y:Prop} (hxy:X->Y) (hx:J3 v X):J3 v Y:=by
 unfold J3 at *;split <;> simp_all
theorem Qd {v:Value} {X:Prop} (hx:J3 v X):X:=by unfold J3 at hx;split at hx <;> simp_all
theorem V8 {s:Sem α} {K K':α->A2->Prop} (hk:∀a h,K a h->K' a h):∀ {h:A2},hp P s K h->hp P s K' h:=by
 induction s with
 | pure a=>intro h x;exact hk _ _ x
 | load m a k ih=>intro h x;simp only [hp] at x ⊢;split at x <;> simp_all
 | store m a v k ih=>intro h x;simp only [hp] at x ⊢;exact Dg (λ⟨a,b,c⟩=>⟨a,b,ih c⟩) x
 | new o k ih=>intro h x;exact ih _ x
 | shape r k ih=>intro h x;exact ih _ x
 | freeze a n k ih=>intro h x;exact ih x
 | frozen a k ih=>intro h x;exact ih _ x
 | getObj r k ih=>intro h x;simp only [hp] at x ⊢;split at x <;> simp_all
 | setObj r o k ih=>intro h x;simp only [hp] at x ⊢;split at x <;> simp_all
 | choose q k ih=>intro h x t;exact ih _ (x t)
 | sys c k ih=>intro h x;exact x.elim
 | program k ih=>intro h x;exact ih _ x
 | mark m k ih=>intro h x;exact ih x
 | halt h=>intro h x;exact x.elim
theorem Kw.refl (w:World):Kw w w:=⟨Kd.refl _,rfl,rfl⟩
theorem Kw.trans {a b c:World} (x:Kw a b) (y:Kw b c):Kw a c:=⟨x.1.trans y.1,y.2.1.trans x.2.1,y.2.2.trans x.2.2⟩
theorem SO8 (s:Sem α):∀ {K:α->A2->Prop} {h:A2},hp P s K h->∀w:World,w.heap=h ->
  ∃a w',s.run P w=.ok a w'/\K a w'.heap/\Kw w w':=by
 induction s with
 | pure a=>intro K h x w hw;subst hw;exact ⟨a,w,rfl,x,Kw.refl _⟩
 | load m a k ih=>
  intro K h x w hw;subst hw;simp only [hp] at x
  split at x
  ·rename_i v hv
   obtain ⟨b,w',h1,h2⟩:=ih v x w rfl
   refine ⟨b,w',?_,h2⟩
   have hv':w.cell? a=some v:=hv
   simp only [Sem.run,hv',h1]
  ·exact x.elim
 | store m a v k ih=>
  intro K h x w hw;subst hw;simp only [hp] at x
  obtain ⟨⟨u,hu⟩,hf,hk⟩:=Qd x
  obtain ⟨b,w',h1,h2,h3⟩:=ih hk (w.setCell a v) rfl
  refine ⟨b,w',?_,h2,Kw.trans (b:=w.setCell a v) ⟨Kd.setC _ _ _,rfl,rfl⟩ h3⟩
  have hu':w.cell? a=some u:=hu
  have hf':w.frozen? a=false:=hf
  have e:(w.setCell a v).heap=Proofs.YtahpbclnkofhfaaGreat.setC w.heap a v:=rfl
  cases v <;> first | exact x.elim | simp only [Sem.run,hu',hf',h1];rfl
 | new o k ih=>
  intro K h x w hw;subst hw
  obtain ⟨b,w',h1,h2,h3⟩:=ih _ x { w with heap:=w.heap.push o } rfl
  exact ⟨b,w',h1,h2,Kw.trans (b:={ w with heap:=w.heap.push o }) ⟨Kd.push _ _,rfl,rfl⟩ h3⟩
 | shape r k ih=>intro K h x w hw;subst hw;exact ih _ x w rfl
 | freeze a n k ih=>
  intro K h x w hw;subst hw
  have e:(w.freeze a n).heap=freezeAt w.heap a n:=by unfold World.freeze freezeAt;split <;> rfl
  obtain ⟨b,w',h1,h2,h3⟩:=ih x (w.freeze a n) e
  exact ⟨b,w',h1,h2,Kw.trans (b:=w.freeze a n) ⟨by rw [e];exact Kd.freezeAt _ _ _,by unfold World.freeze;split <;> rfl,by unfold World.freeze;split <;> rfl⟩ h3⟩
 | frozen a k ih=>intro K h x w hw;subst hw;exact ih _ x w rfl
 | getObj r k ih=>
  intro K h x w hw;subst hw;simp only [hp] at x
  split at x
  ·exact x.elim
  ·rename_i o hne hv
   obtain ⟨b,w',h1,h2⟩:=ih o x w rfl
   refine ⟨b,w',?_,h2⟩
   simp only [Sem.run,hv]
   cases o <;> first | exact (hne _ _ _ rfl).elim | exact h1
  ·exact x.elim
 | setObj r o k ih=>
  intro K h x w hw;subst hw;simp only [hp] at x
  split at x
  all_goals first | exact x.elim | (
   rename_i hv
   obtain ⟨b,w',h1,h2,h3⟩:=ih x { w with heap:=w.heap.setIfInBounds r o } rfl
   refine ⟨b,w',?_,h2,Kw.trans (b:={ w with heap:=w.heap.setIfInBounds r o }) ⟨Kd.set (by rw [hv];simp),rfl,rfl⟩ h3⟩
   simp only [Sem.run,hv];exact h1)
 | choose q k ih=>
  intro K h x w hw;subst hw
  by_cases hq:q.forced=true
  ·have x0:=x 0
   simp only [hq,if_true] at x0
   obtain ⟨b,w',h1,h2⟩:=ih _ x0 w rfl
   exact ⟨b,w',by simp only [Sem.run,hq,if_true];exact h1,h2⟩
  ·have x0:=x (w.tape w.drawn q)
   simp only [hq] at x0
   obtain ⟨b,w',h1,h2⟩:=ih _ x0 { w with drawn:=w.drawn+1 } rfl
   exact ⟨b,w',by simp only [Sem.run,hq];exact h1,h2⟩
 | sys c k ih=>intro K h x w hw;exact x.elim
 | program k ih=>intro K h x w hw;exact ih _ x w hw
 | mark m k ih=>intro K h x w hw;exact ih x w hw
 | halt h=>intro K h x w hw;exact x.elim
theorem S3 {t:TypeId} {i:TypeInfo} (hi:P.info? t=some i) (K:TypeInfo->A2->Prop) (h:A2):hp P (typeInfo t) K h=K i h:=by
 simp only [typeInfo,A8];simp [program,hp,hi,D6]
theorem Cj {t:TypeId} (h:J7 P t=true):∃i,P.info? t=some i:=by
 unfold J7 at h;rw [Bool.and_eq_true] at h;exact Option.isSome_iff_exists.1 h.1
theorem MQ {t:TypeId} (h:J7 P t=true):P.underlying t=some (AH P t):=by
 unfold J7 at h;rw [Bool.and_eq_true] at h;obtain ⟨d,hd⟩:=Option.isSome_iff_exists.1 h.2;unfold AH;rw [hd];rfl
theorem I8 {t:TypeId} (ht:J7 P t=true) (K:Nat->A2->Prop) (h:A2):hp P (sizeOf t) K h=K (L7 P t) h:=by
 obtain ⟨i,hi⟩:=Cj ht
 simp only [sizeOf,A8,S3 hi,L7,hi];rfl
theorem D9 {t:TypeId} {d:TypeDesc} (hd:AH P t=d) (hn:d≠.invalid):P.underlying t=some d:=by
 unfold AH at hd;cases hu:P.underlying t with
 | none=>rw [hu] at hd;exact absurd hd.symm hn
 | some e=>rw [hu] at hd;simp at hd;rw [hd]
theorem C0 {t:TypeId} {d:TypeDesc} (hd:P.underlying t=some d) (K:TypeDesc->A2->Prop) (h:A2):hp P (underlying t) K h=K d h:=by
 simp only [underlying,A8];simp [program,hp,hd,D6]
theorem Qe {t:TypeId} {d:TypeDesc} (hd:P.underlying t=some d) (K:Bool->A2->Prop) (h:A2):hp P (isAgg t) K h=K (NY P t) h:=by
 have hu:AH P t=d:=by unfold AH;rw [hd];rfl
 simp only [isAgg,A8,C0 hd,NY,hu]
 cases d <;> rfl
theorem R9 {t:TypeId} {z:Value} (hz:Gw P t=some z) (K:kQ) (h:A2):hp P (zeroValue t) K h=K z h:=by
 unfold Gw at hz
 cases hi:P.info? t with
 | none=>rw [hi] at hz;cases hz
 | some i=>
  rw [hi] at hz;simp at hz
  simp only [zeroValue,A8,S3 hi,hz];rfl
end
end
section
section
variable {P:Program} {ρ:Operand->Value} {h:A2} {K:kQ}
theorem V1 {v:Value} {F:Addr->Prop} (H:E5 v F):∃a,v=.pointer (some a)/\F a:=by unfold E5 at H;split at H <;> first | exact ⟨_,rfl,H⟩ | exact H.elim
theorem X3 {v:Value} {F:Option Addr->Prop} (H:C2 v F):∃a,v=.pointer a/\F a:=by unfold C2 at H;split at H <;> first | exact ⟨_,rfl,H⟩ | exact H.elim
theorem L5 {k:IntKind} {v:Value} {F:Int->Prop} (H:asInt k v F):∃n,v=.int k n/\F n:=by
 unfold asInt at H;split at H
 ·split at H
  ·rename_i e;subst e;exact ⟨_,rfl,H⟩
  ·exact H.elim
 ·exact H.elim
theorem Bi {v:Value} {F:Int->Prop} (H:Gv v F):∃k n,v=.int k n/\F n:=by unfold Gv at H;split at H <;> first | exact ⟨_,_,rfl,H⟩ | exact H.elim
theorem M9 {v:Value} {F:Bool->Prop} (H:asBool v F):∃b,v=.bool b/\F b:=by unfold asBool at H;split at H <;> first | exact ⟨_,rfl,H⟩ | exact H.elim
theorem L0 {v:Value} {F:ByteArray->Prop} (H:G9 v F):∃s,v=.string s/\F s:=by unfold G9 at H;split at H <;> first | exact ⟨_,rfl,H⟩ | exact H.elim
theorem N1 {v:Value} {F:Option Addr->Nat->Nat->Prop} (H:C8 v F):∃a l c,v=.slice a l c/\F a l c:=by unfold C8 at H;split at H <;> first | exact ⟨_,_,_,rfl,H⟩ | exact H.elim
theorem Ab {v:Value} {F:Array Value->Prop} (H:asAgg v F):∃a,v=.agg a/\F a:=by unfold asAgg at H;split at H <;> first | exact ⟨_,rfl,H⟩ | exact H.elim
theorem IH {v:Value} {F:Array Value->Prop} (H:J6 v F):∃a,v=.tuple a/\F a:=by unfold J6 at H;split at H <;> first | exact ⟨_,rfl,H⟩ | exact H.elim
theorem EC {v:Value} {F:Option Nat->Prop} (H:Cd v F):∃a,v=.map a/\F a:=by unfold Cd at H;split at H <;> first | exact ⟨_,rfl,H⟩ | exact H.elim
theorem DK {v:Value} {F:Bool->Prop} (H:V7 v F):(v=.nilFunc/\F true)\/(∃f a b,v=.func f a b/\F false):=by
 unfold V7 at H;split at H
 ·exact .inl ⟨rfl,H⟩
 ·exact .inr ⟨_,_,_,rfl,H⟩
 ·exact H.elim
theorem He {v:Value} {X:Prop} (H:J3 v X):v.cells=#[v]/\X:=by unfold J3 at H;split at H <;> simp_all [Value.cells]
theorem Kz {cs:Array Value} {F:List Value->Prop}:∀(n i:Nat) (acc:List Value),CH cs n i acc F->F (acc.reverse ++ (cs.toList.drop i).take n):=by
 intro n
 induction n with
 | zero=>intro i acc H;simpa using (show F acc.reverse from H)
 | succ n ih=>
  intro i acc H
  unfold CH D2 at H
  split at H
  ·rename_i v hv
   have:=ih _ _ H
   rw [<- Array.getElem?_toList] at hv
   obtain ⟨hlt,hv⟩:=List.getElem?_eq_some_iff.1 hv
   rw [List.drop_eq_getElem_cons hlt,hv]
   simpa using this
  ·exact H.elim
theorem YG {cs:Array Value} {F:List Value->Prop}:∀(n i:Nat) (acc:List Value),i+n<=cs.size->F (acc.reverse ++ (cs.toList.drop i).take n)->CH cs n i acc F:=by
 intro n
 induction n with
 | zero=>intro i acc _ H;show F acc.reverse;simpa using H
 | succ n ih=>
  intro i acc hi H
  have hlt:i < cs.toList.length:=by simp;omega
  show D2 cs i λv=>CH cs n (i+1) (v :: acc) F
  unfold D2
  rw [<- Array.getElem?_toList,List.getElem?_eq_getElem hlt]
  refine ih _ _ (by omega) ?_
  rw [List.drop_eq_getElem_cons hlt] at H
  simpa using H
theorem Qf {n:Nat} {v:Value} {F:List Value->Prop} (H:Uu n v F):F v.cells.toList/\∀F':List Value->Prop,F' v.cells.toList->Uu n v F':=by
 cases hb:Nat.ble n 64 with
 | true=>
  have e:∀F:List Value->Prop,Uu n v F=asAgg v λcs=>G0 cs n (CH cs n 0 [] F):=λF=>by unfold Uu;rw [hb]
  rw [e] at H
  obtain ⟨cs,rfl,H1⟩:=Ab H
  unfold G0 at H1
  split at H1
  ·rename_i hn
   have hn':=Nat.eq_of_beq_eq_true hn
   have h1:=Kz _ _ _ H1
   have e2:(cs.toList.drop 0).take n=cs.toList:=by rw [List.drop_zero,List.take_of_length_le (by simp [hn'])]
   rw [e2] at h1
   refine ⟨h1,λF' x=>?_⟩
   rw [e]
   show G0 cs n _
   unfold G0
   rw [hn]
   refine YG n 0 [] (by omega) ?_
   rw [e2]
   exact x
  ·exact H1.elim
 | false=>
  have e:∀F:List Value->Prop,Uu n v F=asAgg v λcs=>F cs.toList:=λF=>by unfold Uu;rw [hb]
  rw [e] at H
  obtain ⟨cs,rfl,H1⟩:=Ab H
  exact ⟨H1,λF' x=>by rw [e];exact x⟩
theorem ER {t:TypeId} {v:Value} {F:List Value->Prop} (H:Dm P t v F):F v.cells.toList:=by
 unfold Dm at H;split at H
 ·exact (Qf H).1
 ·obtain ⟨e,H⟩:=He H;rw [e];exact H
theorem XD {b:Bool} {X Y:Prop} (H:D0 b X Y):if b then X else Y:=by cases b <;> exact H
theorem HS {a:Addr} {F:Value->Prop} (H:D1 h a F):∃v,A3 h a=some v/\F v:=by unfold D1 at H;split at H <;> first | exact ⟨_,‹_›,H⟩ | exact H.elim
theorem DE (s:Sem Value):hp P (do let x <- s;pure (Next.value x)) (nxt P K) h=hp P s K h:=by rw [A8];rfl
theorem SU4 (s:Sem Unit):hp P (do s;pure Next.skip) (nxt P K) h=hp P s (λ_=>K AR) h:=by rw [A8];rfl
theorem M2 (a:Addr) (n:Nat):∀(i:Nat) (acc:List Value) (F:Array Value->A2->Prop),XA h a i n acc (λcs=>F cs.toArray h) ->
  hp P (loadCellsFrom a i n acc.reverse.toArray) F h:=by
 induction n with
 | zero=>intro i acc F H;exact H
 | succ n ih=>
  intro i acc F H
  obtain ⟨v,hv,H⟩:=HS H
  have:=ih (i+1) (v :: acc) F H
  simp only [loadCellsFrom,A8,load,hp,hv]
  simpa using this
theorem X4 (a:Addr) (vs:List Value):∀(h:A2) (i:Nat) (F:A2->Prop),NX h a i vs F->hp P (storeCells a vs i) (λ_=>F) h:=by
 induction vs with
 | nil=>intro h i F H;exact H
 | cons v vs ih=>
  intro h i F H
  simp only [storeCells,A8,store,hp]
  exact Dg (λ⟨h1,h2,h3⟩=>⟨h1,h2,ih _ _ _ h3⟩) H
theorem KA {t:TypeId} {a:Addr} (ht:J7 P t=true)
  (H:if NY P t then XA h a 0 (L7 P t) [] (λcs=>K (.agg cs.toArray) h) else D1 h a λv=>K v h):hp P (loadVar t a) K h:=by
 simp only [loadVar,A8,Qe (MQ ht)]
 split at H
 ·simp only [*,if_true,A8,I8 ht]
  exact M2 a _ 0 [] (λcs h'=>K (.agg cs) h') H
 ·rename_i hn
  simp only [hn]
  obtain ⟨v,hv,H⟩:=HS H
  simp only [load,hp,hv];simpa [load,hp,hv] using H
theorem Qg {t:TypeId} {a:Addr} {v:Value} {F:A2->Prop} (ht:J7 P t=true) (hs:v.cells.toList.length=L7 P t)
  (H:NX h a 0 v.cells.toList F):hp P (storeVar t a v) (λ_=>F) h:=by
 simp only [storeVar,A8,I8 ht]
 rw [if_neg (by simpa using hs)]
 exact X4 a _ h 0 F H
theorem Oa {t:TypeId} {cs:Array Value} {off:Nat} {v:Value} (ht:J7 P t=true) (hv:MO P t cs off=some v) (F:kQ):hp P (part t cs off) F h=F v h:=by
 unfold MO at hv
 simp only [part,A8,Qe (MQ ht)]
 split at hv
 ·cases hv;simp only [*,if_true,A8,I8 ht];rfl
 ·rename_i hn;simp only [hn];simp [hv];rfl
theorem Er {α:Type} {c:Prop} [Decidable c] (a b:Sem α) (F:α->A2->Prop) (h:A2):hp P (if c then a else b) F h=if c then hp P a F h else hp P b F h:=by split <;> rfl
theorem Bq (F:Program->A2->Prop) (h:A2):hp P program F h=F P h:=rfl
theorem YH {x y:Option Bool} {b:Bool} (H:Qa x y=some b):∃p q,x=some p/\y=some q/\b=(p && q):=by
 unfold Qa at H;split at H
 ·simp at H;exact ⟨_,_,rfl,rfl,H.symm⟩
 ·cases H
theorem HU {t:TypeId} {cs:Array Value} {off:Nat} {v:Value} (hv:DI P t cs off=some v) (F:kQ) (h:A2):hp P (part t cs off) F h=F v h:=by
 unfold DI at hv;split at hv
 ·exact Oa ‹_› hv F
 ·cases hv
theorem MR {ι:Type} (l:List ι) (ok:ι->Option Bool) (g:ι->Option Bool × Unit->Sem (ForInStep (Option Bool × Unit))) (G:Option Bool × Unit->A2->Prop) (h:A2) :
  ∀b,l.foldr (λi acc=>Qa (ok i) acc) (some true)=some b ->
  (∀i s c,ok i=some c->∀(F:ForInStep (Option Bool × Unit)->A2->Prop),hp P (g i s) F h=F (if c then .yield (none,()) else .done (some false,())) h) ->
  hp P (forIn l ((none,()):Option Bool × Unit) g) G h=if b then G (none,()) h else G (some false,()) h:=by
 induction l with
 | nil=>intro b H _;simp at H;subst H;simp [D6]
 | cons i l ih=>
  intro b H hf
  simp only [List.foldr_cons] at H
  obtain ⟨p,q,hp1,hq,rfl⟩:=YH H
  simp only [List.forIn_cons,A8,hf i _ p hp1]
  cases p
  ·simp [D6]
  ·simp only [Bool.true_and,if_true]
   exact ih q hq hf
theorem SO9 (d:Nat):∀(t:TypeId) (x y:Value) (b:Bool),eqv P d t x y=some b->∀(F:Bool->A2->Prop) (h:A2),hp P (Op.equalIn d t x y) F h=F b h:=by
 induction d with
 | zero=>intro t x y b H;simp [eqv] at H
 | succ d ih=>
  intro t x y b H F h
  unfold eqv at H
  split at H
  ·rename_i hu;simp only [Op.equalIn,A8,C0 (D9 hu (by simp))];simp at H;subst H;rfl
  ·rename_i hu;simp only [Op.equalIn,A8,C0 (D9 hu (by simp))]
   split at H <;> simp at H
   subst H;simp only [*,if_true];rfl
  ·rename_i hu;simp only [Op.equalIn,A8,C0 (D9 hu (by simp))];simp at H;subst H;rfl
  ·rename_i fields xs ys hu
   simp only [Op.equalIn,A8,C0 (D9 hu (by simp)),Bq]
   split at H
   ·cases H
   ·rename_i hst
    rw [if_neg hst]
    simp only [A8,<- Array.forIn_toList]
    refine (MR (P:=P) fields.toList (λf=>if f.name = "_" then none else match DI P f.type xs f.offset,DI P f.type ys f.offset with | some x,some y=>eqv P d f.type x y | _,_=>none) _ _ h b ?_ ?_).trans ?_
    ·refine Eq.trans ?_ H
     congr 1
     funext f acc
     by_cases hn:f.name = "_"
     ·simp [hn,Qa]
     ·cases h2:DI P f.type xs f.offset <;> cases h3:DI P f.type ys f.offset <;> simp [hn,Qa]
    ·intro f s c hc F'
     split at hc
     ·cases hc
     ·rename_i hn
      split at hc
      ·rename_i a e h1 h2
       simp only [ne_eq,hn,not_false_eq_true,if_true,A8,HU h1,HU h2,ih _ _ _ _ hc,Er]
       cases c <;> rfl
      ·cases hc
    ·cases b <;> rfl
  ·rename_i len elem xs ys hu
   split at H
   ·rename_i hth
    simp only [Op.equalIn,A8,C0 (D9 hu (by simp)),Bq,I8 hth]
    rw [Std.Legacy.Range.forIn_eq_forIn_range']
    refine (MR (P:=P) _ (λi=>match DI P elem xs (i*L7 P elem),DI P elem ys (i*L7 P elem) with | some x,some y=>eqv P d elem x y | _,_=>none) _ _ h b ?_ ?_).trans ?_
    ·refine Eq.trans ?_ H
     have e:(Std.Legacy.Range.size [:len])=len:=by simp [Std.Legacy.Range.size]
     rw [e]
     congr 1
     funext i acc
     cases h2:DI P elem xs (i*L7 P elem) <;> cases h3:DI P elem ys (i*L7 P elem) <;> simp [Qa]
    ·intro i s c hc F'
     split at hc
     ·rename_i a e h1 h2
      simp only [A8,HU h1,HU h2,ih _ _ _ _ hc,Er]
      cases c <;> rfl
     ·cases hc
    ·cases b <;> rfl
   ·cases H
  ·cases H
theorem Oc {t:TypeId} {x y:Value} {F:Bool->Prop} (H:GL P t x y F):(∃b,hp P (Op.equal t x y)=(λG h=>G b h)/\F b)/\P.eqGuardType P.depth t=false/\∃xs,x=.agg xs:=by
 unfold GL at H
 split at H
 ·exact H.elim
 ·rename_i hg
  obtain ⟨xs,rfl,H⟩:=Ab H
  split at H
  ·rename_i b hb
   exact ⟨⟨b,funext λG=>funext λh=>SO9 10000 t _ y b hb G h,H⟩,by simpa using hg,_,rfl⟩
  ·exact H.elim
end
end
section
section
variable {P:Program} {ρ:Operand->Value} {h:A2} {K:kQ}
theorem Qh (vs:List Value):∀(cs:List Value) (off:Nat),
  (vs.zipIdx).foldl (λ(a:Array Value) (x:Value × Nat)=>a.setIfInBounds (off+x.2) x.1) cs.toArray=(BF cs off vs).toArray:=by
 have key:∀(vs:List Value) (k:Nat) (cs:List Value) (off:Nat),
   (vs.zipIdx k).foldl (λ(a:Array Value) (x:Value × Nat)=>a.setIfInBounds (off+x.2) x.1) cs.toArray=(BF cs (off+k) vs).toArray:=by
  intro vs
  induction vs with
  | nil=>intro k cs off;rfl
  | cons v vs ih=>
   intro k cs off
   simp only [List.zipIdx_cons,List.foldl_cons,BF,List.setIfInBounds_toArray]
   rw [ih (k+1)];rfl
 intro cs off;exact key vs 0 cs off
theorem Hf {place:Nat->Option (Nat × TypeId)} (parts:List (Nat × Value)):∀(cells:List Value) (F:List Value->Prop),
  Ft P place cells parts F->∃cs:List Value,Instr.fill (λi=>(place i).map λx=>(x.1,L7 P x.2)) cells.toArray parts=some cs.toArray/\F cs:=by
 induction parts with
 | nil=>intro cells F H;exact ⟨cells,rfl,H⟩
 | cons p rest ih=>
  obtain ⟨i,v⟩:=p
  intro cells F H
  unfold Ft at H
  split at H
  ·exact H.elim
  ·rename_i off t hp1
   have H:=ER H
   split at H
   ·rename_i hs
    obtain ⟨cs,h1,h2⟩:=ih _ _ H
    refine ⟨cs,?_,h2⟩
    unfold Instr.fill
    simp only [hp1,Option.map_some]
    have hs1:v.cells.size=L7 P t:=by simpa using hs.1
    rw [if_neg (by simp [hs1];omega)]
    rw [<- h1]
    congr 1
    have:=Qh v.cells.toList cells off
    rw [<- this]
    rw [<- Array.foldl_toList]
    simp [Array.toList_zipIdx]
   ·exact H.elim
theorem Gx {t:TypeId} {z:Value} (hz:Gw P t=some z):(Bo P t).toArray=z.cells:=by
 unfold Bo;rw [hz];cases z <;> simp [Value.cells]
theorem Sk8 (z:List Value) (n:Nat) (hz:0 < z.length) :
  (Array.range (n*z.length)).map (λi=>z.toArray[i % z.toArray.size]!)=((List.replicate n z).flatten).toArray:=by
 apply Array.toList_inj.1
 simp only [Array.toList_map,Array.toList_range,List.size_toArray]
 induction n with
 | zero=>simp
 | succ n ih=>
  rw [Nat.succ_mul,List.range_add,List.map_append,ih,List.replicate_succ',List.flatten_append]
  congr 1
  simp only [List.map_map,List.flatten_cons,List.flatten_nil,List.append_nil]
  apply List.ext_getElem (by simp)
  intro i h1 h2
  simp at h1
  simp [Nat.mul_add_mod_of_lt,Nat.mod_eq_of_lt h1,h1,Nat.mul_comm n]
theorem HV {t:TypeId} (hz:(Gw P t).isSome=true):∃z,Gw P t=some z:=Option.isSome_iff_exists.1 hz
theorem Sk9 {k:IntKind} {op:BinOp} {a b:Int} (H:Jl k op a b λv=>K v h) (hs:op≠.shl/\op≠.shr) :
  hp P (binOp op 0 (.int k a) (.int k b)) K h:=by
 cases op <;> simp only [Jl,binOp,Op.intArith,Op.intDiv,Op.intBits,Op.intCmp,ne_eq,not_true,if_false] at H ⊢ <;> first
  | exact H
  | (rw [if_neg H.1];exact H.2)
  | exact H.elim
  | (exact absurd rfl hs.1)
  | (exact absurd rfl hs.2)
theorem YI {k:IntKind} {op:BinOp} {a b:Int} (t:TypeId) (hs:op≠.shl/\op≠.shr):binOp op t (.int k a) (.int k b)=binOp op 0 (.int k a) (.int k b):=by
 cases op <;> first | rfl | exact absurd rfl hs.1 | exact absurd rfl hs.2
end
end
section
section
variable {P:Program} {ρ:Operand->Value} {h:A2} {K:kQ}
theorem G6 {op:BinOp} {t:TypeId} {x y:Operand} {a b:Value} (F:Unit->A2->Prop)
  (hs:(op≠.eql/\op≠.neq)\/((∀xs,a≠.agg xs)/\a≠.nilIface)\/(P.eqGuardType P.depth t=false/\∃xs,a=.agg xs)):hp P (eqGuard op t x y a b) F h=F () h:=by
 unfold eqGuard
 rcases hs with ⟨h1,h2⟩ | ⟨h1,h2⟩ | ⟨h1,xs,rfl⟩
 ·cases op <;> first | rfl | exact absurd rfl h1 | exact absurd rfl h2
 ·cases op <;> first | rfl | (cases a <;> first | exact absurd rfl h2 | exact absurd rfl (h1 _) | rfl)
 ·cases op <;> first | rfl | (cases b <;> first | rfl | (simp [A8,Bq,h1,D6]))
theorem U3 {t:TypeId} {a b:Value} (ha:∀k n,a≠.int k n) (ha2:∀s,a≠.string s) (ha3:∀k n,a≠.float k n) (ha4:∀k n m,a≠.complex k n m) (F:kQ) :
  hp P (binOp .eql t a b) F h=hp P (Op.equal t a b) (λr h=>F (.bool r) h) h:=by
 cases a <;> first | exact absurd rfl (ha _ _) | exact absurd rfl (ha2 _) | exact absurd rfl (ha3 _ _) | exact absurd rfl (ha4 _ _ _) | (cases b <;> simp only [binOp,A8] <;> rfl)
theorem U4 {t:TypeId} {a b:Value} (ha:∀k n,a≠.int k n) (ha2:∀s,a≠.string s) (ha3:∀k n,a≠.float k n) (ha4:∀k n m,a≠.complex k n m) (F:kQ) :
  hp P (binOp .neq t a b) F h=hp P (Op.equal t a b) (λr h=>F (.bool (!r)) h) h:=by
 cases a <;> first | exact absurd rfl (ha _ _) | exact absurd rfl (ha2 _) | exact absurd rfl (ha3 _ _) | exact absurd rfl (ha4 _ _ _) | (cases b <;> simp only [binOp,A8] <;> rfl)
theorem Qi {y:Operand} (hy:SE2 y=true) (hc:∀v,ρ (.const v)=v):ρ y=.pointer none:=by
 unfold SE2 at hy;split at hy <;> first | exact hc _ | cases hy
theorem Qj {y:Operand} (hy:SE3 y=true) (hc:∀v,ρ (.const v)=v):∃l c,ρ y=.slice none l c:=by
 unfold SE3 at hy;split at hy <;> first | exact ⟨_,_,hc _⟩ | cases hy
theorem Qk {y:Operand} (hy:SO7 y=true) (hc:∀v,ρ (.const v)=v):ρ y=.map none:=by
 unfold SO7 at hy;split at hy <;> first | exact hc _ | cases hy
theorem Ql {y:Operand} (hy:SE4 y=true) (hc:∀v,ρ (.const v)=v):ρ y=.nilFunc:=by
 unfold SE4 at hy;split at hy <;> first | exact hc _ | cases hy
theorem O8 (t:TypeId) (x y:Value):Op.equal t x y=Op.equalIn (9999+1) t x y:=rfl
theorem MS (d:Nat) {t:TypeId} {a b:Bool} (hu:P.underlying t=some .bool) (F:Bool->A2->Prop) (h:A2):hp P (Op.equalIn (d+1) t (.bool a) (.bool b)) F h=F (a == b) h:=by
 simp only [Op.equalIn,A8,C0 hu];rfl
theorem Qm (d:Nat) {t e:TypeId} {a:Option Addr} (hu:P.underlying t=some (.pointer e)) (F:Bool->A2->Prop) (h:A2):hp P (Op.equalIn (d+1) t (.pointer a) (.pointer none)) F h=F a.isNone h:=by
 cases a <;> simp only [Op.equalIn,A8,C0 hu] <;> rfl
theorem KB (d:Nat) {t e:TypeId} {a:Option Addr} {l c l' c':Nat} (hu:P.underlying t=some (.slice e)) (F:Bool->A2->Prop) (h:A2):hp P (Op.equalIn (d+1) t (.slice a l c) (.slice none l' c')) F h=F a.isNone h:=by
 cases a <;> simp only [Op.equalIn,A8,C0 hu] <;> rfl
theorem Qn (d:Nat) {t e e':TypeId} {a:Option Nat} (hu:P.underlying t=some (.map e e')) (F:Bool->A2->Prop) (h:A2):hp P (Op.equalIn (d+1) t (.map a) (.map none)) F h=F a.isNone h:=by
 cases a <;> simp only [Op.equalIn,A8,C0 hu] <;> rfl
theorem Qo (d:Nat) {t:TypeId} {a b:Array TypeId} {c:Bool} (hu:P.underlying t=some (.func a b c)) (F:Bool->A2->Prop) (h:A2):hp P (Op.equalIn (d+1) t .nilFunc .nilFunc) F h=F true h:=by
 simp only [Op.equalIn,A8,C0 hu];rfl
theorem Qp (d:Nat) {t:TypeId} {a b:Array TypeId} {c:Bool} {f:Fn} {x y:Array Value} (hu:P.underlying t=some (.func a b c)) (F:Bool->A2->Prop) (h:A2):hp P (Op.equalIn (d+1) t (.func f x y) .nilFunc) F h=F false h:=by
 simp only [Op.equalIn,A8,C0 hu];rfl
theorem Uv {op:BinOp} {xt yt:TypeId} {x y:Operand} {o:Oper} (ho:o.op=.binOp op xt x y yt) (hc:∀v,ρ (.const v)=v)
  (H:Kf P op xt yt x y ρ o h K):hp P (execOp ρ o) (nxt P K) h:=by
 have e:execOp ρ o=(do let r <- (do eqGuard op xt x y (ρ x) (ρ y);binOp op xt (ρ x) (ρ y));pure (Next.value r)):=by unfold execOp;rw [ho]
 have toh:hp P (do eqGuard op xt x y (ρ x) (ρ y);binOp op xt (ρ x) (ρ y)) K h->hp P (execOp ρ o) (nxt P K) h:=λq=>by rw [e,DE];exact q
 have fall:NZ P ρ o h K->hp P (execOp ρ o) (nxt P K) h:=id
 unfold Kf at H
 split at H
 ·rename_i k hk
  split at H
  ·split at H
   ·obtain ⟨a,ha,H⟩:=L5 H
    obtain ⟨b,hb,H⟩:=L5 H
    apply toh
    rw [ha,hb]
    simp only [A8]
    rw [G6 _ (.inl ⟨by simp,by simp⟩)]
    simp only [Qc,binOp,Op.shift] at H ⊢
    rw [if_neg (by have:=H.1;omega)]
    exact H.2
   ·exact H.elim
  ·split at H
   ·obtain ⟨a,ha,H⟩:=L5 H
    obtain ⟨b,hb,H⟩:=L5 H
    apply toh
    rw [ha,hb]
    simp only [A8]
    rw [G6 _ (.inl ⟨by simp,by simp⟩)]
    simp only [Qc,binOp,Op.shift] at H ⊢
    rw [if_neg (by have:=H.1;omega)]
    exact H.2
   ·exact H.elim
  ·rename_i n1 n2
   obtain ⟨a,ha,H⟩:=L5 H
   obtain ⟨b,hb,H⟩:=L5 H
   have hs:op≠.shl/\op≠.shr:=⟨n1,n2⟩
   apply toh
   rw [ha,hb]
   simp only [A8]
   rw [G6 _ (.inr (.inl ⟨by simp,by simp⟩)),YI xt hs]
   exact Sk9 H hs
 ·rename_i hu
  split at H
  ·obtain ⟨a,ha,H⟩:=M9 H
   obtain ⟨b,hb,H⟩:=M9 H
   apply toh
   rw [ha,hb]
   simp only [A8]
   rw [G6 _ (.inr (.inl ⟨by simp,by simp⟩)),U3 (by simp) (by simp) (by simp) (by simp)]
   rw [O8,MS _ (D9 hu (by simp))]
   exact H
  ·obtain ⟨a,ha,H⟩:=M9 H
   obtain ⟨b,hb,H⟩:=M9 H
   apply toh
   rw [ha,hb]
   simp only [A8]
   rw [G6 _ (.inr (.inl ⟨by simp,by simp⟩)),U4 (by simp) (by simp) (by simp) (by simp)]
   rw [O8,MS _ (D9 hu (by simp))]
   exact H
  ·exact H.elim
 ·rename_i hu
  split at H
  ·obtain ⟨a,ha,H⟩:=L0 H
   obtain ⟨b,hb,H⟩:=L0 H
   apply toh
   rw [ha,hb]
   simp only [A8]
   rw [G6 _ (.inr (.inl ⟨by simp,by simp⟩))]
   exact H
  ·obtain ⟨a,ha,H⟩:=L0 H
   obtain ⟨b,hb,H⟩:=L0 H
   apply toh
   rw [ha,hb]
   simp only [A8]
   rw [G6 _ (.inr (.inl ⟨by simp,by simp⟩))]
   exact H
  ·obtain ⟨a,ha,H⟩:=L0 H
   obtain ⟨b,hb,H⟩:=L0 H
   apply toh
   rw [ha,hb]
   simp only [A8]
   rw [G6 _ (.inl ⟨by simp,by simp⟩)]
   simp only [binOp,Op.stringOp]
   rw [if_neg (by have:=H.1;have e:IntKind.i64.max=9223372036854775807:=(by decide);omega)]
   exact H.2
  ·exact fall H
 ·rename_i el hu
  split at H
  ·rename_i hn
   have hy:=Qi hn hc
   obtain ⟨a,ha,H⟩:=X3 H
   apply toh
   rw [ha,hy]
   simp only [A8]
   rw [G6 _ (.inr (.inl ⟨by simp,by simp⟩)),U3 (by simp) (by simp) (by simp) (by simp),O8,Qm _ (D9 hu (by simp))]
   exact H
  ·rename_i hn
   have hy:=Qi hn hc
   obtain ⟨a,ha,H⟩:=X3 H
   apply toh
   rw [ha,hy]
   simp only [A8]
   rw [G6 _ (.inr (.inl ⟨by simp,by simp⟩)),U4 (by simp) (by simp) (by simp) (by simp),O8,Qm _ (D9 hu (by simp))]
   exact H
  ·obtain ⟨a,ha,H⟩:=X3 H
   obtain ⟨b,hb,H⟩:=X3 H
   apply toh
   rw [ha,hb]
   simp only [A8]
   rw [G6 _ (.inr (.inl ⟨by simp,by simp⟩))]
   exact H
  ·obtain ⟨a,ha,H⟩:=X3 H
   obtain ⟨b,hb,H⟩:=X3 H
   apply toh
   rw [ha,hb]
   simp only [A8]
   rw [G6 _ (.inr (.inl ⟨by simp,by simp⟩))]
   exact H
  ·exact fall H
 ·rename_i el hu
  split at H
  ·rename_i hn
   obtain ⟨l0,c0,hy⟩:=Qj hn hc
   obtain ⟨a,l,c,ha,H⟩:=N1 H
   apply toh
   rw [ha,hy]
   simp only [A8]
   rw [G6 _ (.inr (.inl ⟨by simp,by simp⟩)),U3 (by simp) (by simp) (by simp) (by simp),O8,KB _ (D9 hu (by simp))]
   exact H
  ·rename_i hn
   obtain ⟨l0,c0,hy⟩:=Qj hn hc
   obtain ⟨a,l,c,ha,H⟩:=N1 H
   apply toh
   rw [ha,hy]
   simp only [A8]
   rw [G6 _ (.inr (.inl ⟨by simp,by simp⟩)),U4 (by simp) (by simp) (by simp) (by simp),O8,KB _ (D9 hu (by simp))]
   exact H
  ·exact fall H
 ·rename_i e1 e2 hu
  split at H
  ·rename_i hn
   have hy:=Qk hn hc
   obtain ⟨a,ha,H⟩:=EC H
   apply toh
   rw [ha,hy]
   simp only [A8]
   rw [G6 _ (.inr (.inl ⟨by simp,by simp⟩)),U3 (by simp) (by simp) (by simp) (by simp),O8,Qn _ (D9 hu (by simp))]
   exact H
  ·rename_i hn
   have hy:=Qk hn hc
   obtain ⟨a,ha,H⟩:=EC H
   apply toh
   rw [ha,hy]
   simp only [A8]
   rw [G6 _ (.inr (.inl ⟨by simp,by simp⟩)),U4 (by simp) (by simp) (by simp) (by simp),O8,Qn _ (D9 hu (by simp))]
   exact H
  ·exact fall H
 ·rename_i e1 e2 e3 hu
  split at H
  ·rename_i hn
   have hy:=Ql hn hc
   rcases DK H with ⟨ha,H⟩ | ⟨f,a,b,ha,H⟩
   ·apply toh
    rw [ha,hy]
    simp only [A8]
    rw [G6 _ (.inr (.inl ⟨by simp,by simp⟩)),U3 (by simp) (by simp) (by simp) (by simp),O8,Qo _ (D9 hu (by simp))]
    exact H
   ·apply toh
    rw [ha,hy]
    simp only [A8]
    rw [G6 _ (.inr (.inl ⟨by simp,by simp⟩)),U3 (by simp) (by simp) (by simp) (by simp),O8,Qp _ (D9 hu (by simp))]
    exact H
  ·rename_i hn
   have hy:=Ql hn hc
   rcases DK H with ⟨ha,H⟩ | ⟨f,a,b,ha,H⟩
   ·apply toh
    rw [ha,hy]
    simp only [A8]
    rw [G6 _ (.inr (.inl ⟨by simp,by simp⟩)),U4 (by simp) (by simp) (by simp) (by simp),O8,Qo _ (D9 hu (by simp))]
    exact H
   ·apply toh
    rw [ha,hy]
    simp only [A8]
    rw [G6 _ (.inr (.inl ⟨by simp,by simp⟩)),U4 (by simp) (by simp) (by simp) (by simp),O8,Qp _ (D9 hu (by simp))]
    exact H
  ·exact fall H
 ·rename_i hu
  split at H
  ·obtain ⟨⟨b,hb,H⟩,hg,xs,hx⟩:=Oc H
   apply toh
   rw [hx] at hb ⊢
   simp only [A8]
   rw [G6 _ (.inr (.inr ⟨hg,_,rfl⟩)),U3 (by simp) (by simp) (by simp) (by simp),hb]
   exact H
  ·obtain ⟨⟨b,hb,H⟩,hg,xs,hx⟩:=Oc H
   apply toh
   rw [hx] at hb ⊢
   simp only [A8]
   rw [G6 _ (.inr (.inr ⟨hg,_,rfl⟩)),U4 (by simp) (by simp) (by simp) (by simp),hb]
   exact H
  ·exact H.elim
 ·rename_i hu
  split at H
  ·obtain ⟨⟨b,hb,H⟩,hg,xs,hx⟩:=Oc H
   apply toh
   rw [hx] at hb ⊢
   simp only [A8]
   rw [G6 _ (.inr (.inr ⟨hg,_,rfl⟩)),U3 (by simp) (by simp) (by simp) (by simp),hb]
   exact H
  ·obtain ⟨⟨b,hb,H⟩,hg,xs,hx⟩:=Oc H
   apply toh
   rw [hx] at hb ⊢
   simp only [A8]
   rw [G6 _ (.inr (.inr ⟨hg,_,rfl⟩)),U4 (by simp) (by simp) (by simp) (by simp),hb]
   exact H
  ·exact H.elim
 ·exact fall H
end
end
section
section
variable {P:Program} {ρ:Operand->Value} {h:A2} {K:kQ}
theorem BG {v:Value} {i:Int} {k:IntKind} {y:Nat} {code:BoundsCode} (hv:v=.int k i) (h0:0<=i) (h1:i<=y) (F:Nat->A2->Prop) :
  hp P (Instr.sliceBound v y code) F h=F i.toNat h:=by
 subst hv
 simp only [Instr.sliceBound,asIntOf,A8,D6]
 rw [if_pos ⟨h0,h1⟩];rfl
theorem Br {v:Option Value} {d m:Nat} {F:Nat->Prop} (H:Bp none v d m F) :
  (v=none/\F d)\/∃k i,v=some (.int k i)/\0<=i/\i<=m/\F i.toNat:=by
 unfold Bp at H
 split at H
 ·exact .inl ⟨rfl,H⟩
 ·split at H
  ·obtain ⟨k,i,rfl,H⟩:=Bi H
   exact .inr ⟨_,_,rfl,H⟩
  ·cases ‹none=some _›
theorem Dn {isSlice:Bool} {len cap:Nat} {lo hi mx:Option Value} {F:Nat × Nat × Nat->A2->Prop} (hm:mx=none\/hi≠none)
  (H:Bp none mx cap cap λm=>Bp none hi len m λh'=>Bp none lo 0 h' λl=>F (l,h',m) h) :
  hp P (Instr.sliceBounds isSlice len cap lo hi mx) F h:=by
 rcases Br H with ⟨rfl,H1⟩ | ⟨k,i,rfl,h0,h1,H1⟩
 ·rcases Br H1 with ⟨rfl,H2⟩ | ⟨k,i,rfl,h0,h1,H2⟩
  ·rcases Br H2 with ⟨rfl,H3⟩ | ⟨k,i,rfl,h0,h1,H3⟩
   ·exact H3
   ·simp only [Instr.sliceBounds,A8,D6,BG rfl h0 h1];exact H3
  ·rcases Br H2 with ⟨rfl,H3⟩ | ⟨k',i',rfl,h0',h1',H3⟩
   ·simp only [Instr.sliceBounds,A8,D6,BG rfl h0 h1];exact H3
   ·simp only [Instr.sliceBounds,A8,D6,BG rfl h0 h1,BG rfl h0' h1'];exact H3
 ·rcases Br H1 with ⟨rfl,H2⟩ | ⟨k2,i2,rfl,h02,h12,H2⟩
  ·rcases hm with hm | hm
   ·cases hm
   ·exact absurd rfl hm
  ·rcases Br H2 with ⟨rfl,H3⟩ | ⟨k',i',rfl,h0',h1',H3⟩
   ·simp only [Instr.sliceBounds,A8,D6,BG rfl h0 h1,BG rfl h02 h12];exact H3
   ·simp only [Instr.sliceBounds,A8,D6,BG rfl h0 h1,BG rfl h02 h12,BG rfl h0' h1'];exact H3
theorem Uw {t:TypeId} {x:Value} {lo hi mx:Option Value} (hm:mx=none\/hi≠none) (H:FE P t x lo hi mx λv=>K v h) :
  hp P (Instr.sliceAt t x lo hi mx) K h:=by
 unfold FE at H
 split at H
 ·rename_i hu
  split at H
  ·exact H.elim
  ·rename_i hmx
   obtain ⟨s,rfl,H⟩:=L0 H
   simp only [Instr.sliceAt,A8,C0 (D9 hu (by simp)),Instr.slice]
   rw [if_neg hmx]
   simp only [A8,D6]
   refine Dn (.inl rfl) ?_
   exact H
 ·rename_i e hu
  split at H
  ·rename_i hth
   obtain ⟨a,len,cap,rfl,H⟩:=N1 H
   simp only [Instr.sliceAt,A8,C0 (D9 hu (by simp)),Instr.slice]
   refine Dn hm ?_
   simp only [A8,I8 hth,D6]
   exact H
  ·exact H.elim
 ·rename_i n e hu
  split at H
  ·rename_i hth
   obtain ⟨a,rfl,H⟩:=V1 H
   simp only [Instr.sliceAt,A8,C0 (D9 hu (by simp)),Instr.sureAddr,D6]
   refine Dn hm ?_
   simp only [A8,I8 hth,D6]
   exact H
  ·exact H.elim
 ·exact H.elim
theorem Ck (n:Nat) (F:Unit->A2->Prop):hp P (askRoom n) F h=F () h:=by unfold askRoom;split <;> rfl
theorem Y6 {n:Int} (h0:0<=n) (h1:n<=9223372036854775807):IntKind.i64.wrap n=n:=by
 have e1:((2:Int) ^ IntKind.i64.bits)=18446744073709551616:=by decide
 have e2:((2:Int) ^ (IntKind.i64.bits - 1))=9223372036854775808:=by decide
 unfold IntKind.wrap
 rw [e1,e2]
 have:n % 18446744073709551616=n:=by omega
 simp only [this]
 rw [if_neg (by simp;omega)]
theorem Od {t elem:TypeId} {k1 k2:IntKind} {l c:Int} (hu:P.underlying t=some (.slice elem)) (hth:J7 P elem=true) (hz:(Gw P elem).isSome=true)
  (hs:(Bo P elem).length=L7 P elem) (hp0:0 < L7 P elem) (H:Y5 P elem l c h K):hp P (Instr.makeSlice t (.int k1 l) (.int k2 c)) K h:=by
 obtain ⟨h1,h2,h3,h4,H⟩:=H
 obtain ⟨i,hi⟩:=Cj hth
 obtain ⟨z,hz⟩:=HV hz
 have hb:Eo P elem=i.bytes:=by unfold Eo;rw [hi]
 rw [hb] at h4
 have w1:IntKind.i64.wrap l=l:=Y6 h1 (by omega)
 have w2:IntKind.i64.wrap c=c:=Y6 (by omega) h3
 simp only [Instr.makeSlice,A8,C0 hu,asInt,Go.asInt,asIntOf,D6,S3 hi,w1,w2]
 rw [if_neg (by
  simp only [Bool.or_eq_true,decide_eq_true_eq,not_or]
  refine ⟨⟨⟨by omega,?_⟩,by omega⟩,by omega⟩
  have:((2:Int) ^ 48)=281474976710656:=by decide
  rw [this] at h4
  rw [this]
  omega)]
 simp only [A8,Ck,I8 hth]
 by_cases hc0:c.toNat=0
 ·simp only [hc0,Nat.zero_mul,if_true,D6,newRow,newObj,A8,hp] at H ⊢
  have e:(Array.range 0).map (λx=>(#[]:Array Value)[x % (#[]:Array Value).size]!)=#[]:=by simp [Array.range]
  rw [e];simpa using H
 ·rw [if_neg (by intro e;rcases Nat.mul_eq_zero.1 e with e | e <;> omega)]
  simp only [A8,R9 hz,D6,<- Gx hz,newRow,newObj,hp]
  have:=Sk8 (Bo P elem) c.toNat (by omega)
  rw [hs] at this
  rw [this];exact H
end
end
section
section
variable {P:Program} {ρ:Operand->Value} {h:A2} {K:kQ}
def SZ1 (P:Program) (K:kQ) (h0:World):Next->World->Prop
 | .value v,w=>K v w.heap/\Kw h0 w
 | .skip,w=>K AR w.heap/\Kw h0 w
 | .enter f args,w=>CallsIn Fence.wide 0 P f args w (Xz h0 K)
 | .round l f tmps assign body,w=>RoundIn Fence.wide 0 P l f tmps assign body w (Xz h0 K)
 | _,_=>False
def OpS (P:Program) (ρ:Operand->Value) (o:Oper) (h:A2) (K:kQ):Prop:=
 ∀w:World,w.heap=h->∃nx w',(execOp ρ o).run P w=.ok nx w'/\SZ1 P K w nx w'
theorem Sl0 {h0 h1:World} (hk:Kw h0 h1):∀e w,Xz h1 K e w->Xz h0 K e w:=by
 intro e w x
 cases e <;> first | exact x | exact ⟨x.1,hk.trans x.2⟩
theorem G8 {o:Oper} (H:hp P (execOp ρ o) (nxt P K) h):OpS P ρ o h K:=by
 intro w hw
 obtain ⟨nx,w',h1,h2,h3⟩:=SO8 _ H w hw
 refine ⟨nx,w',h1,?_⟩
 cases nx <;> first
  | exact ⟨h2,h3⟩
  | exact (h2 w' rfl).mono (Sl0 h3)
  | exact h2.elim
theorem X5 {o:Oper} {b:Builtin} {args:Array Operand} {argTypes:Array TypeId} (ho:o.op=.call { callee:=.builtin b,args,argTypes }) (s:Sem Value)
  (hb:∀consts,builtin b argTypes o.type consts (args.map ρ)=(do let x <- s;pure (Next.value x))) (H:hp P s K h):hp P (execOp ρ o) (nxt P K) h:=by
 unfold execOp;rw [ho]
 simp only [resolve,A8,D6,invoke,hb]
 exact H
theorem Kl (f:Operand->Value) (a:Array Operand):Hd f a=a.map f:=by unfold Hd;apply Array.toList_inj.1;simp
theorem YJ {f:Int->Int->Int} {m:Value->Value->Sem Value} (hm:∀k a b,m (.int k a) (.int k b)=pure (.int k (f a b))) {k:IntKind} (ys:List Value):∀(a:Int),
  O4.go f k a ys (λn=>K (.int k n) h)->hp P (ys.foldlM m (.int k a)) K h:=by
 induction ys with
 | nil=>intro a H;exact H
 | cons y ys ih=>
  intro a H
  obtain ⟨b,rfl,H2⟩:=L5 H
  simp only [List.foldlM_cons,A8,hm,D6]
  exact ih _ H2
theorem MT {f:Int->Int->Int} {m:Value->Value->Sem Value} (hm:∀k a b,m (.int k a) (.int k b)=pure (.int k (f a b))) {t:TypeId} {k:IntKind} (hk:Ci P t=some k)
  (why:String) (xs:List Value) (H:O4 f P t xs λn=>K (.int k n) h):hp P (match xs with | []=>stuck why | x :: rest=>rest.foldlM m x) K h:=by
 cases xs with
 | nil=>exact H.elim
 | cons x xs=>cases xs with
  | nil=>
   simp only [O4,hk] at H
   obtain ⟨b,rfl,H2⟩:=L5 H
   exact H2
  | cons y ys=>
   simp only [O4,hk] at H
   obtain ⟨b,rfl,H2⟩:=L5 H
   exact YJ hm _ _ H2
theorem KC {o:Oper} {b:Builtin} {args:Array Operand} {argTypes:Array TypeId} (ho:o.op=.call { callee:=.builtin b,args,argTypes })
  (H:Aq P b argTypes o.type (args.toList.map ρ) ρ o h K):hp P (execOp ρ o) (nxt P K) h:=by
 have ea:args.map ρ=(args.toList.map ρ).toArray:=by rw [<- Kl];rfl
 unfold Aq at H
 split at H
 ·rename_i x hx
  refine X5 ho (Builtin.len_ argTypes o.type (args.map ρ)) (λ_=>rfl) ?_
  rw [ea,hx]
  split at H
  ·rename_i t0 h0
   simp only [Builtin.len_,h0]
   simp only [List.getElem?_toArray,List.getElem?_cons_zero]
   split at H
   ·rename_i e hu
    obtain ⟨a,n,c,rfl,H2⟩:=N1 H
    simp only [A8,C0 (D9 hu (by simp)),D6];exact H2
   ·rename_i hu
    obtain ⟨a,rfl,H2⟩:=L0 H
    simp only [A8,C0 (D9 hu (by simp)),D6];exact H2
   ·rename_i e1 e2 hu
    obtain ⟨r,rfl,H2⟩:=EC H
    simp only [A8,C0 (D9 hu (by simp)),D6]
    unfold Sk6 at H2
    cases r with
    | none=>exact H2
    | some r=>
     simp only at H2
     split at H2
     ·rename_i es c hr
      simp only [A8,getObj,hp,hr];exact H2
     ·exact H2.elim
   ·rename_i n e hu
    simp only [A8,C0 (D9 hu (by simp)),D6];exact H
   ·exact H.elim
  ·exact H.elim
 ·rename_i x hx
  refine X5 ho (Builtin.cap_ argTypes o.type (args.map ρ)) (λ_=>rfl) ?_
  rw [ea,hx]
  split at H
  ·rename_i t0 h0
   simp only [Builtin.cap_,h0]
   simp only [List.getElem?_toArray,List.getElem?_cons_zero]
   split at H
   ·rename_i e hu
    obtain ⟨a,n,c,rfl,H2⟩:=N1 H
    simp only [A8,C0 (D9 hu (by simp)),D6];exact H2
   ·exact H.elim
  ·exact H.elim
 ·rename_i xs
  refine X5 ho (Builtin.append_ argTypes o.type (args.map ρ)) (λ_=>rfl) ?_
  rw [ea];exact H
 ·refine X5 ho (Builtin.copy_ argTypes o.type (args.map ρ)) (λ_=>rfl) ?_
  rw [ea];exact H
 ·refine X5 ho (Builtin.delete_ argTypes o.type (args.map ρ)) (λ_=>rfl) ?_
  rw [ea];exact H
 ·refine X5 ho (Builtin.unsafeSliceData_ argTypes o.type (args.map ρ)) (λ_=>rfl) ?_
  rw [ea];exact H
 ·refine X5 ho (Builtin.unsafeString_ argTypes o.type (args.map ρ)) (λ_=>rfl) ?_
  rw [ea];exact H
 ·refine X5 ho (Builtin.clear_ argTypes o.type (args.map ρ)) (λ_=>rfl) ?_
  rw [ea];exact H
 ·split at H
  ·rename_i k hk
   refine X5 ho (Builtin.max_ argTypes o.type (args.map ρ)) (λ_=>rfl) ?_
   rw [ea]
   exact MT (f:=FG) (m:=Builtin.max2) (λ_ _ _=>rfl) hk _ _ H
  ·exact H
 ·split at H
  ·rename_i k hk
   refine X5 ho (Builtin.min_ argTypes o.type (args.map ρ)) (λ_=>rfl) ?_
   rw [ea]
   exact MT (f:=GR) (m:=Builtin.min2) (λ_ _ _=>rfl) hk _ _ H
  ·exact H
 ·exact H
end
end
section
section
variable {P:Program} {ρ:Operand->Value} {h:A2} {K:kQ}
theorem Qr {o:Oper} {f:Operand} {args:Array Operand} {argTypes:Array TypeId} (ho:o.op=.call { callee:=.value f,args,argTypes })
  (H:AQ P (ρ f) (args.map ρ) h K):OpS P ρ o h K:=by
 intro w hw
 have e:execOp ρ o=(do let d <- Deferred.ofValue (ρ f) (args.map ρ);invoke d.target d.args):=by
  unfold execOp;rw [ho];rfl
 rw [e]
 unfold AQ at H
 split at H
 ·rename_i g first captured hf
  rw [hf]
  obtain ⟨he,hcall⟩:=H
  have hr:(do let d <- Deferred.ofValue (.func (.func g) first captured) (args.map ρ);invoke d.target d.args).run P w=.ok (.enter g (first ++ args.map ρ ++ captured)) w:=he _ w
  exact ⟨_,w,hr,hcall w hw⟩
 ·rename_i l first captured hf
  rw [hf]
  obtain ⟨fn,tmps,assign,body,hr,hround⟩:=H w hw
  exact ⟨_,w,hr,hround⟩
 ·exact H.elim
theorem Ux {o:Oper} {f:Operand} {args:Array Operand} {argTypes:Array TypeId} (ho:o.op=.call { callee:=.value f,args,argTypes })
  (H:Ke P (ρ f) (args.map ρ) h K):OpS P ρ o h K:=by
 have e:execOp ρ o=(do let d <- Deferred.ofValue (ρ f) (args.map ρ);invoke d.target d.args):=by
  unfold execOp;rw [ho];rfl
 unfold Ke at H
 split at H
 ·rename_i g first captured hf
  refine G8 ?_
  rw [e,hf]
  show hp P (callFunc g (first ++ args.map ρ ++ captured)) (nxt P K) h
  refine V8 ?_ H
  intro nx h' x
  cases nx <;> first | exact x | exact x.elim
 ·exact H.elim
theorem MU (o:Oper) (hc:∀v,ρ (.const v)=v) (H:Ep P ρ o h K):OpS P ρ o h K:=by
 unfold Ep at H
 split at H
 case h_1 x hx | h_2 x hx=>exact G8 (by unfold execOp;rw [hx];exact H)
 case h_3 c a b hx=>
  obtain ⟨t,ht,H⟩:=M9 H
  refine G8 ?_
  unfold execOp;rw [hx]
  simp only [ht,Go.asBool,A8,D6,nxt]
  have:=XD H
  cases t <;> simpa using this
 case h_4 t hx=>
  refine G8 ?_
  unfold execOp;rw [hx]
  split at H
  ·rename_i z hz
   refine (DE _).mpr ?_
   simp only [Instr.alloc,A8,R9 hz,newVar,newRow,newObj,hp,D6]
   exact H
  ·exact H.elim
 case h_5 t x hx=>
  refine G8 ?_
  unfold execOp;rw [hx]
  have H:=ER H
  refine (DE _).mpr ?_
  simp only [Instr.box,newVar,newRow,newObj,A8,hp,D6]
  simpa using H
 case h_6 t parts hx=>
  refine G8 ?_
  unfold execOp;rw [hx]
  refine (DE _).mpr ?_
  split at H
  ·rename_i hz
   obtain ⟨z,hz⟩:=HV hz
   simp only [Instr.build,A8,R9 hz,<- Gx hz]
   split at H
   ·rename_i fields hu
    split at H
    ·exact H.elim
    ·rename_i hall
     simp only [C0 (D9 hu (by simp))]
     obtain ⟨cs,h1,h2⟩:=Hf _ _ _ H
     have hpl:∀(fs:List Field),(∀f ∈ fs,J7 P f.type=true)->∀(G:List (Nat × Nat)->A2->Prop),
       hp P (fs.mapM λf=>do pure (f.offset,<- sizeOf f.type)) G h=G (fs.map λf=>(f.offset,L7 P f.type)) h:=by
      intro fs
      induction fs with
      | nil=>intro _ G;rfl
      | cons f fs ih=>
       intro hf G
       simp only [List.mapM_cons,A8,I8 (hf f (by simp)),D6,ih (λg hg=>hf g (by simp [hg])),List.map_cons]
     have hall2:∀f ∈ fields.toList,J7 P f.type=true:=by
      intro f hf
      have:fields.all (λf=>J7 P f.type)=true:=by simpa using hall
      rw [Array.all_eq_true'] at this
      exact this f (by simpa using hf)
     rw [Array.mapM_eq_mapM_toList]
     simp only [map_eq_pure_bind,A8,hpl fields.toList hall2,D6]
     have e:(λx:Nat=>((fields.toList.map λf=>(f.offset,L7 P f.type)).toArray)[x]?)=(λi=>((fields[i]?).map λf=>(f.offset,f.type)).map λx=>(x.1,L7 P x.2)):=by
      funext i;simp [Function.comp_def]
     have ep:(parts.map λx=>(x.1,ρ x.2)).toList=parts.toList.map λp=>(p.1,ρ p.2):=by simp
     rw [e,ep,h1]
     exact h2
   ·rename_i n elem hu
    split at H
    ·exact H.elim
    ·rename_i hth
     have hth:J7 P elem=true:=by simpa using hth
     simp only [C0 (D9 hu (by simp))]
     obtain ⟨cs,h1,h2⟩:=Hf _ _ _ H
     simp only [A8,I8 hth]
     have ep:(parts.map λx=>(x.1,ρ x.2)).toList=parts.toList.map λp=>(p.1,ρ p.2):=by simp
     have e:(λi=>some (i*L7 P elem,L7 P elem))=(λi=>((λi=>some (i*L7 P elem,elem)) i:Option (Nat × TypeId)).map λx=>(x.1,L7 P x.2)):=by
      funext i;simp
     rw [e,ep,h1]
     exact h2
   ·exact H.elim
  ·exact H.elim
 case h_7 t len parts hx=>
  refine G8 ?_
  unfold execOp;rw [hx]
  refine (DE _).mpr ?_
  split at H
  ·rename_i elem hu
   split at H
   ·rename_i hh
    obtain ⟨hth,hle,hz,hl,h0⟩:=hh
    obtain ⟨z,hz⟩:=HV hz
    simp only [Instr.buildSlice,A8,C0 (D9 hu (by simp)),I8 hth]
    rw [if_neg (by omega)]
    obtain ⟨cs,h1,h2⟩:=Hf _ _ _ H
    have ep:(parts.map λx=>(x.1,ρ x.2)).toList=parts.toList.map λp=>(p.1,ρ p.2):=by simp
    have e:(λi=>some (i*L7 P elem,L7 P elem))=(λi=>((λi=>some (i*L7 P elem,elem)) i:Option (Nat × TypeId)).map λx=>(x.1,L7 P x.2)):=by
     funext i;simp
    by_cases hl0:len=0
    ·subst hl0
     simp only [Nat.zero_mul,if_true,D6]
     have e0:∀zero:Array Value,(Array.range 0).map (λx=>zero[x % zero.size]!)=(([]:List Value)).toArray:=by intro z;simp [Array.range]
     simp only [List.replicate_zero,List.flatten_nil] at h1
     rw [A8,D6,e0,e,ep]
     simp only [Option.map_some] at h1 ⊢
     rw [h1]
     simp only [newRow,newObj,A8,hp,D6]
     exact h2
    ·rw [if_neg (by intro e;rcases Nat.mul_eq_zero.1 e with e | e <;> omega)]
     simp only [A8,R9 hz,D6,<- Gx hz]
     have:=Sk8 (Bo P elem) len (by omega)
     rw [hl] at this
     rw [this,e,ep,h1]
     simp only [newRow,newObj,A8,hp,D6]
     exact h2
   ·exact H.elim
  ·exact H.elim
 case h_8 t x hx=>
  refine G8 ?_
  unfold execOp;rw [hx]
  refine (DE _).mpr ?_
  obtain ⟨a,ha,H⟩:=V1 H
  split at H
  ·rename_i hth
   simp only [Instr.loadAt,ha,Instr.sureAddr,A8,D6]
   exact KA hth H
  ·exact H.elim
 case h_9 t x y hx=>
  refine G8 ?_
  unfold execOp;rw [hx]
  refine (SU4 _).mpr ?_
  obtain ⟨a,ha,H⟩:=V1 H
  have H:=ER H
  split at H
  ·rename_i hth
   simp only [Instr.storeAt,ha,Instr.sureAddr,A8,D6]
   exact Qg hth.1 hth.2 H
  ·exact H.elim
 case h_10 x hx=>
  refine G8 ?_
  unfold execOp;rw [hx]
  unfold B4 at H
  generalize hv:ρ x=v at H ⊢
  split at H <;> first
   | exact H.elim
   | skip
  rename_i n1 n2 n3 n4
  dsimp only
  rw [hv]
  cases v with
  | pointer a=>cases a with
   | none=>exact absurd rfl n1
   | some a=>exact H
  | nilIface=>exact absurd rfl n2
  | nilFunc=>exact absurd rfl n3
  | func f a b=>cases f with
   | method m=>exact absurd rfl (n4 _ _ _)
   | _=>exact H
  | _=>exact H
 case h_11 op xt x y yt hx=>exact G8 (Uv hx hc H)
 case h_12 op xt x hx=>
  refine G8 ?_
  split at H
  ·obtain ⟨b,hb,H⟩:=M9 H
   unfold execOp;rw [hx]
   refine (DE _).mpr ?_
   rw [hb];exact H
  ·obtain ⟨b,hb,H⟩:=L5 H
   unfold execOp;rw [hx]
   refine (DE _).mpr ?_
   rw [hb];exact H
  ·exact H
 case h_13 src dst x hx=>
  refine G8 ?_
  split at H
  ·rename_i hu1 hu2
   obtain ⟨b,hb,H⟩:=L5 H
   unfold execOp;rw [hx]
   refine (DE _).mpr ?_
   simp only [convert,A8,C0 (D9 hu1 (by simp)),C0 (D9 hu2 (by simp)),hb]
   exact H
  ·rename_i hu1 hu2
   obtain ⟨b,hb,H⟩:=L0 H
   unfold execOp;rw [hx]
   refine (DE _).mpr ?_
   simp only [convert,A8,C0 (D9 hu1 (by simp)),C0 (D9 hu2 (by simp)),hb]
   exact H
  ·unfold execOp;rw [hx]
   exact (DE _).mpr H
 case h_14 t x hx=>
  refine G8 ?_
  unfold execOp;rw [hx]
  refine (DE _).mpr ?_
  split at H
  ·exact H.elim
  ·exact H.elim
  ·rename_i n1 n2
   have hu:=D9 (P:=P) (t:=t) rfl n2
   simp only [Instr.makeInterface,A8,C0 hu]
   exact H
 case h_15 fn first captured hx=>
  refine G8 ?_
  unfold execOp;rw [hx]
  refine (DE _).mpr ?_
  rw [Kl,Kl] at H
  exact H
 case h_16 t hx=>
  refine G8 ?_
  unfold execOp;rw [hx]
  refine (DE _).mpr ?_
  exact H
 case h_17 t l c hx=>
  refine G8 ?_
  unfold execOp;rw [hx]
  refine (DE _).mpr ?_
  split at H
  ·rename_i elem hu
   obtain ⟨k1,l',hl,H⟩:=Bi H
   obtain ⟨k2,c',hc',H⟩:=Bi H
   rw [hl,hc']
   split at H
   ·rename_i hh
    exact Od (D9 hu (by simp)) hh.1 hh.2.1 hh.2.2.1 hh.2.2.2 H
   ·exact H.elim
  ·exact H.elim
 case h_18 t x lo hi mx hx=>
  refine G8 ?_
  unfold execOp;rw [hx]
  refine (DE _).mpr ?_
  split at H
  ·exact H.elim
  ·rename_i hm
   refine Uw ?_ H
   cases mx <;> cases hi <;> simp_all
 case h_19 t x f hx=>
  refine G8 ?_
  unfold execOp;rw [hx]
  refine (DE _).mpr ?_
  split at H
  ·rename_i fields hu
   split at H
   ·rename_i fd hf
    split at H
    ·rename_i hh
     obtain ⟨a,ha,H⟩:=V1 H
     simp only [Instr.fieldAt,A8,C0 (D9 hu (by simp)),hf,ha,Instr.sureAddr,D6,fieldPlace,I8 hh.1]
     rw [if_neg hh.2];exact H
    ·exact H.elim
   ·exact H.elim
  ·exact H.elim
 case h_20 t x f hx=>
  refine G8 ?_
  unfold execOp;rw [hx]
  refine (DE _).mpr ?_
  split at H
  ·rename_i fields hu
   split at H
   ·rename_i fd hf
    obtain ⟨cs,ha,H⟩:=Ab H
    unfold EB at H
    split at H
    ·rename_i v hv
     split at H
     ·rename_i hth
      simp only [Instr.field,A8,C0 (D9 hu (by simp)),hf,ha,Go.asAgg,D6]
      rw [Oa hth hv];exact H
     ·exact H.elim
    ·exact H.elim
   ·exact H.elim
  ·exact H.elim
 case h_21 t x i hx=>
  refine G8 ?_
  unfold execOp;rw [hx]
  refine (DE _).mpr ?_
  split at H
  ·rename_i elem hu
   obtain ⟨a,len,cap,ha,H⟩:=N1 H
   obtain ⟨k,n,hi,h0,h1,H⟩:=Bi H
   obtain ⟨ad,had,H⟩:=V1 H
   cases had
   split at H
   ·rename_i hth
    simp only [Instr.indexAt,hi,asIntOf,A8,D6,C0 (D9 hu (by simp)),ha]
    rw [if_pos ⟨h0,h1⟩]
    simp only [A8,I8 hth,D6];exact H
   ·exact H.elim
  ·rename_i len elem hu
   obtain ⟨a,ha,H⟩:=V1 H
   obtain ⟨k,n,hi,h0,h1,H⟩:=Bi H
   split at H
   ·rename_i hth
    simp only [Instr.indexAt,hi,asIntOf,A8,D6,C0 (D9 hu (by simp)),ha,Instr.sureAddr]
    rw [if_pos ⟨h0,h1⟩]
    simp only [A8,I8 hth,D6];exact H
   ·exact H.elim
  ·exact H.elim
 case h_22 t x i hx=>
  refine G8 ?_
  unfold execOp;rw [hx]
  refine (DE _).mpr ?_
  split at H
  ·rename_i hu
   obtain ⟨s,ha,H⟩:=L0 H
   obtain ⟨k,n,hi,h0,h1,H⟩:=Bi H
   simp only [Instr.index,hi,asIntOf,A8,D6,C0 (D9 hu (by simp)),ha]
   have hs:n.toNat < s.size:=by omega
   unfold IG at H
   simp only [h0,if_true]
   rw [getElem?_pos s n.toNat hs] at H ⊢
   exact H
  ·rename_i len elem hu
   obtain ⟨cs,ha,H⟩:=Ab H
   obtain ⟨k,n,hi,h0,h1,H⟩:=Bi H
   unfold EB at H
   split at H
   ·rename_i v hv
    split at H
    ·rename_i hth
     simp only [Instr.index,hi,asIntOf,A8,D6,C0 (D9 hu (by simp)),ha]
     rw [if_pos ⟨h0,h1⟩]
     simp only [A8,I8 hth]
     rw [Oa hth hv];exact H
    ·exact H.elim
   ·exact H.elim
  ·exact H.elim
 case h_23 t x i ok hx=>
  refine G8 ?_
  unfold execOp;rw [hx]
  exact (DE _).mpr H
 case h_24 t m k x hx=>
  refine G8 ?_
  unfold execOp;rw [hx]
  exact (SU4 _).mpr H
 case h_25 x i hx=>
  refine G8 ?_
  unfold execOp;rw [hx]
  refine (DE _).mpr ?_
  obtain ⟨vs,ha,H⟩:=IH H
  unfold D2 at H
  split at H
  ·rename_i v hv
   simp only [Instr.extract,ha,hv];exact H
  ·exact H.elim
 case h_26 b args argTypes hx=>exact G8 (KC hx H)
 case h_27 f args argTypes hx=>
  rw [Kl] at H
  split at H
  ·exact Ux hx H
  ·exact Qr hx H
 case h_28=>exact H.elim
 case h_29=>exact G8 H
end
end
section
def Uq (ρ:F8) (d:Nat) (v:Value):F8:=λj=>cond (Nat.beq j d) v (ρ j)
def BD (ρ:F8) (d:Option Nat) (v:Value):F8:=match d with | some d=>Uq ρ d v | none=>ρ
def KD (ρ:F8):Operand->Value
 | .tmp j=>ρ j
 | .const v=>v
 | .global g=>.pointer (some ⟨g,0,none⟩)
 | .func f=>.func (.func f) #[] #[]
def Uy (v:Value) (N:Prop) (F:Bool->Prop):Prop:=match v with | .bool b=>F b | _=>N
def ES (ops:Array Oper) (ρ:F8) (g:Option (Nat × Bool)) (yes no:F8->Prop):Prop:=
 match g with
 | none=>yes ρ
 | some (j,want)=>match (ops[j]?).bind (·.dst) with
  | none=>no ρ
  | some d=>Uy (ρ d) (no ρ) λb=>D0 b (cond want (yes (Uq ρ d (.bool true))) (no (Uq ρ d (.bool true)))) (cond want (no (Uq ρ d (.bool false))) (yes (Uq ρ d (.bool false))))
def tyO (P:Program) (o:Oper) (v:Value) (K:Value->Prop):Prop:=
 match o.op with
 | .alloc _ | .store ..=>K v
 | _=>Hc P o.type v K
def GS (P:Program) (ops:Array Oper):List Oper->F8->A2->(F8->A2->Prop)->Prop
 | [],ρ,h,K=>K ρ h
 | o :: rest,ρ,h,K=>ES ops ρ o.guard
  (λρ=>Ep P (KD ρ) o h λv h'=>tyO P o v λv=>GS P ops rest (BD ρ o.dst v) h' K)
  (λρ=>GS P ops rest (BD ρ o.dst AR) h K)
def Z3 (P:Program) (o:Oper):Bool:=
 match o.op with
 | .move _ | .assign _ | .pick .. | .load .. | .nilCheck _ | .makeFunc .. | .fieldAddr .. | .field .. | .indexAddr .. | .index .. | .extract .. | .slice ..=>true
 | .binOp op xt _ y _=>(match AH P xt with
  | .int _ | .bool=>true
  | .string=>(match op with | .eql | .neq | .add=>true | _=>false)
  | .pointer _=>(match op with | .eql | .neq=>SE2 y | _=>false)
  | .slice _=>(match op with | .eql | .neq=>SE3 y | _=>false)
  | .func _ _ _=>(match op with | .eql | .neq=>SE4 y | _=>false)
  | .struct _ | .array _ _=>true
  | _=>false)
 | .unOp op xt _=>(match op,AH P xt with | .not,.bool=>true | .neg,.int _=>true | _,_=>false)
 | .convert s d _=>(match AH P s,AH P d with | .int _,.int _=>true | .string,.string=>true | _,_=>false)
 | .build ..=>true
 | .call { callee:=.builtin .len,argTypes,args }=>(match argTypes[0]?,args.toList with
  | some t,[_]=>(match AH P t with | .slice _ | .string | .array _ _=>true | _=>false)
  | _,_=>false)
 | _=>false
def R8 (ops:Array Oper):Nat->Nat->Nat->Bool
 | 0,_,_=>false
 | n+1,e,i=>match ops[e]? with
  | none=>false
  | some o=>o.after.any λed=>Region.binds .any ed && (ed.on == i || R8 ops n ed.on i)
def Gy (o:Oper):List Nat:=o.after.toList.filterMap λed=>match Region.binds .any ed with | true=>some ed.on | false=>none
def FH (ops:Array Oper) (i:Nat):Nat->List Nat->Nat->Bool
 | 0,_,_=>false
 | _+1,[],_=>false
 | n+1,e :: st,vis=>match Nat.testBit vis e with
  | true=>FH ops i n st vis
  | false=>match ops[e]? with
   | none=>FH ops i n st vis
   | some o=>match (Gy o).any (Nat.beq i) with
    | true=>true
    | false=>FH ops i n (Gy o ++ st) (Nat.lor vis (Nat.shiftLeft 1 e))
def SP0 (ops:Array Oper) (e i:Nat):Bool:=FH ops i ((ops.size+2)*(ops.size+2)) [e] 0
abbrev Sl1:=List (Nat × List (Addr × Value))
def Uz (h:A2):List (Addr × Value)->Prop->Prop
 | [],X=>X
 | (a,u) :: L,X=>A3 h a=some u/\Uz h L X
def II (ops:Array Oper) (e:Nat) (h:A2):Sl1->Prop->Prop
 | [],X=>X
 | (i,L) :: r,X=>match SP0 ops e i with | true=>II ops e h r X | false=>Uz h L (II ops e h r X)
def SP1 (h:A2) (a:Addr) (i:Nat):Nat->List Value->List (Addr × Value)->(List Value->List (Addr × Value)->Prop)->Prop
 | 0,acc,L,K=>K acc.reverse L.reverse
 | n+1,acc,L,K=>D1 h (a.add i) λv=>SP1 h a (i+1) n (v :: acc) ((a.add i,v) :: L) K
def SP2 (P:Program) (ρ:Operand->Value) (o:Oper) (h:A2) (F:Value->List (Addr × Value)->Prop):Prop:=
 match o.op with
 | .load t x=>E5 (ρ x) λa=>if J7 P t then
  (if NY P t then SP1 h a 0 (L7 P t) [] [] (λcs L=>F (.agg cs.toArray) L) else D1 h a λv=>F v [(a,v)]) else False
 | _=>Ep P ρ o h λv _=>F v []
def Qs (P:Program) (ops:Array Oper) (listed:Array Bool):Option Nat:=
 (Region.ready .any ops listed).find? λi=>(match ops[i]? with | some o=>Z3 P o | none=>false) && Region.free .any ops listed i
def SP3 (l:List Nat) (F:Nat->Prop):Prop:=
 match l with
 | []=>True
 | [i]=>F i
 | i :: j :: l=>F i/\SP3 (j :: l) F
def HW (P:Program) (ops:Array Oper):Nat->Array Bool->Sl1->F8->A2->(F8->A2->Prop)->Prop
 | 0,listed,_,ρ,h,K=>match Region.ready .any ops listed with | []=>K ρ h | _=>False
 | n+1,listed,held,ρ,h,K=>
  match Qs P ops listed with
  | some i=>(match ops[i]? with
   | none=>False
   | some o=>ES ops ρ o.guard
    (λρ=>SP2 P (KD ρ) o h λv L=>tyO P o v λv=>HW P ops n (listed.setIfInBounds i true) (match L with | []=>held | _=>(i,L) :: held) (BD ρ o.dst v) h K)
    (λρ=>HW P ops n (listed.setIfInBounds i true) held (BD ρ o.dst AR) h K))
  | none=>(match Region.ready .any ops listed with
   | []=>K ρ h
   | rs=>SP3 rs λe=>(match ops[e]? with
    | none=>False
    | some o=>ES ops ρ o.guard
     (λρ=>Ep P (KD ρ) o h λv h'=>tyO P o v λv=>II ops e h' held (HW P ops n (listed.setIfInBounds e true) held (BD ρ o.dst v) h' K))
     (λρ=>II ops e h held (HW P ops n (listed.setIfInBounds e true) held (BD ρ o.dst AR) h K))))
def FI (ops:Array Oper):List Nat:=ops.toList.filterMap (·.dst)
def SU5 (o:Oper):Bool:=match o.op,o.dst with
 | .assign _,_=>true
 | .move (.tmp e),some d=>Nat.blt d e
 | _,_=>false
def Sl2 (ops:Array Oper):List Nat:=ops.toList.filterMap λo=>match SU5 o with | true=>o.dst | false=>none
def Oe (ops:Array Oper):List Nat:=ops.toList.filterMap λo=>match o.op with | .pick ..=>o.dst | _=>none
def Sl3 (n:Nat):List Nat->List Nat
 | []=>[n]
 | m :: l=>if n < m then n :: m :: l else if n=m then m :: l else m :: Sl3 n l
def Y7 (a b:List Nat):List Nat:=a.foldr Sl3 b
def Cb:Code->List Nat
 | .region _ ops _=>Y7 (FI ops) []
 | .seq a b=>Y7 (Cb a) (Cb b)
 | .cond c a b=>Y7 (match c with | .tmp d=>[d] | _=>[]) (Y7 (Cb a) (Cb b))
 | .block _ b | .loop b | .scope b=>Cb b
 | .rangeFunc ..=>[]
 | _=>[]
def CW:Code->List Nat
 | .region _ ops _=>Y7 (Sl2 ops) []
 | .seq a b | .cond _ a b=>Y7 (CW a) (CW b)
 | .block _ b | .loop b | .scope b=>CW b
 | _=>[]
def B9:Code->List Nat
 | .region _ ops _=>Y7 (Oe ops) []
 | _=>[]
def SE5 (ops:Array Oper):Bool:=ops.any λo=>o.guard.isSome
def Sl4 (id:Nat):Code->Nat
 | .seq a b | .cond _ a b=>Sl4 id a+Sl4 id b
 | .block _ b | .loop b | .scope b=>Sl4 id b
 | .rangeFunc _ _ _ b=>Sl4 id b
 | .exit j=>if j=id then 1 else 0
 | _=>0
def UA:Code->Nat
 | .region _ ops _=>if SE5 ops then 2 else 1
 | .seq a b=>if UA a=0 then 0 else UA b
 | .cond _ a b=>UA a+UA b
 | .block id b=>UA b+Sl4 id b
 | .loop _ | .exit _ | .ret | .goto _ | .refuse _=>0
 | .scope b=>UA b
 | _=>1
def SP4:Code->Bool
 | .skip | .exit _ | .ret=>true
 | .seq a b=>SP4 a && SP4 b
 | .region _ ops _=>ops.size<=2
 | _=>false
def Sl5 (K:F8->A2->Prop) (Q:Exit->F8->A2->Prop):Exit->F8->A2->Prop
 | .normal,ρ,h=>K ρ h
 | e,ρ,h=>Q e ρ h
def Sl6 (id:Nat) (Q:Exit->F8->A2->Prop):Exit->F8->A2->Prop
 | .exit j,ρ,h=>if j=id then Q .normal ρ h else Q (.exit j) ρ h
 | e,ρ,h=>Q e ρ h
def SE6:Nat->(List Value->Prop)->Prop
 | 0,F=>F []
 | n+1,F=>∀v,SE6 n λvs=>F (v :: vs)
def XE (vars:List Nat) (vs:List Value) (j:Nat) (d:Value):Value:=
 match vars,vs with
 | x :: xs,v :: vs=>cond (Nat.beq j x) v (XE xs vs j d)
 | _,_=>d
def SE7 (j:Nat):List Nat->Bool
 | []=>false
 | x :: xs=>cond (Nat.beq j x) true (SE7 j xs)
def Of (ρ:F8) (ws vars:List Nat) (vs:List Value) (g:F8):F8:=λj=>XE vars vs j (cond (SE7 j ws) (g j) (ρ j))
def O0 (F:(List Value->A2->Prop)->Prop):Prop:=∃I,F I
def Hg (F:(List Value->A2->Nat)->Prop):Prop:=∃μ,F μ
def SU6 (n:Nat) (A:(List Value->A2->Prop)->Prop) (B:List Value->F8->A2->Prop):Prop:=
 O0 λJ=>A J/\SE6 n λvs=>∀(g:F8) (h:A2),J vs h->B vs g h
def SU7 (n:Nat) (vs0:List Value) (h0:A2) (B:(List Value->A2->Prop)->(List Value->A2->Nat)->List Value->F8->A2->Prop):Prop:=
 O0 λI=>Hg λμ=>I vs0 h0/\SE6 n λvs=>∀(g:F8) (h:A2),I vs h->B I μ vs g h
def Og (ρ:F8) (c:Operand) (b:Bool):F8:=match c with | .tmp d=>Uq ρ d (.bool b) | _=>ρ
def Mg (N M:Nat) (h1 h2:A2):Prop:=h1.size<=h2.size/\∀b,b < h1.size->(b < N\/M<=b)->h2[b]? = h1[b]?
def Y2 (N M:Nat) (h1 h2:A2):Prop:=h1.size<=h2.size/\∀b,N<=b->b < M->h2[b]? = h1[b]?
def Z5 (N:Nat) (h h':A2):Prop:=h'.size=h.size/\∀b:Nat,(b < N\/∀x,h[b]?≠some (.deferred x))->h'[b]? = h[b]?
theorem Z5.mono {N M:Nat} {h h':A2} (H:Z5 N h h') (hM:M<=N):Z5 M h h':=⟨H.1,λb hb=>H.2 b (hb.imp (λx=>Nat.lt_of_lt_of_le x hM) id)⟩
structure ET {ε:Type} (N:Nat) (h:A2) (Ev:A2->Prop) (I:Nat->Nat->A2->Prop) (X:Nat->ε->A2->Prop):Prop where
 env:∀M k h',N<=M->M<=h'.size->I M k h'->Ev h'
 keepI:∀M k h1 h2,N<=M->M<=h1.size->I M k h1->Mg N M h1 h2->I M k h2
 keepX:∀M e h1 h2,N<=M->M<=h1.size->X M e h1->Mg N M h1 h2->X M e h2
 dI:∀M k h1 h2,Z5 N h1 h2->I M k h1->I M k h2
 dX:∀M e h1 h2,Z5 N h1 h2->X M e h1->X M e h2
 start:∀h1,h.size<=h1.size->(∀b,b < N->h1[b]? = h[b]?)->I h1.size 0 h1
def Qt (P:Program) (g:Value) (n:Nat) (xs:Nat->Array Value) (Ev:A2->Prop):Prop:=
 ∀(yf:Fn) (y1 y2:Array Value) (h:A2) (N:Nat) (I:Nat->Nat->A2->Prop) (X:Nat->Unit->A2->Prop),N<=h.size->Ev h->ET N h Ev I X ->
  (∀M k h',k < n->N<=M->h.size<=M->M<=h'.size->I M k h'->AQ P (.func yf y1 y2) (xs k) h' λv h''=>Y2 N M h' h''/\((v=.bool true/\I M (k+1) h'')\/(v=.bool false/\X M () h''))) ->
  AQ P g #[.func yf y1 y2] h λ_ h'=>∃M,N<=M/\h.size<=M/\M<=h'.size/\(I M n h'\/X M () h')
def DL (h:A2):List Obj->A2
 | []=>h
 | o :: os=>DL (h.push o) os
def SP5:List Value->Prop->Prop
 | [],X=>X
 | v :: vs,X=>J3 v (SP5 vs X)
def HZ (P:Program):List Oper->F8->Nat->(F8->List Obj->Prop)->Prop
 | [],ρ,_,F=>F ρ []
 | { op:=.assign x,dst:=d,type:=ty,guard:=none,.. } :: rest,ρ,n,F=>Hc P ty (KD ρ x) λv=>HZ P rest (BD ρ d v) n F
 | { op:=.alloc t,dst:=some d,guard:=none,.. } :: { op:=.store t' (.tmp d') y,dst:=none,guard:=none,.. } :: rest,ρ,n,F=>
  if t=t'/\d=d'/\J7 P t/\(Gw P t).isSome/\(Bo P t).length=L7 P t then
   Dm P t (KD (Uq ρ d (.pointer (some (aQ n)))) y) λcs=>if cs.length=L7 P t then
    SP5 cs (HZ P rest (Uq ρ d (.pointer (some (aQ n)))) (n+1) λρ' os=>F ρ' (.cells cs.toArray t :: os)) else False
  else False
 | _,_,_,_=>False
def KE:Code->Option (List Oper)
 | .skip=>some []
 | .region _ ops false=>some ops.toList
 | _=>none
def MV (ρ:F8) (vs:Array Value):List Nat->Nat->F8
 | [],_=>ρ
 | p :: ps,i=>MV (Uq ρ p (vs.getD i AR)) vs ps (i+1)
def fnV (v:Value):Prop:=match v with | .func (.func _) _ _=>True | _=>False
def XF (P:Program) (g:Value) (np:Nat) (h:A2) (B:(Exit->A2->Prop)->Array Value->A2->Prop) (D:A2->Prop) (E:Exit->A2->Prop):Prop:=
 ∃(n:Nat) (xs:Nat->Array Value) (Ev:A2->Prop) (I:Nat->Nat->A2->Prop) (X:Nat->Exit->A2->Prop),
  fnV g/\Qt P g n xs Ev/\(∀k,k < n->(xs k).size=np)/\Ev h/\ET h.size h Ev I X /\
  (∀M k h',k < n->h.size+2<=M->M<=h'.size->I M k h'->B (λe h''=>Y2 h.size M h' h''/\(match e with | .normal=>I M (k+1) h'' | e=>X M e h'')) (xs k) h') /\
  (∀M h',h.size+2<=M->M<=h'.size->I M n h'->D h') /\
  (∀M e h',h.size+2<=M->M<=h'.size->X M e h'->E e h')
def eqE:Exit->Exit->Bool
 | .ret,.ret=>true
 | .exit i,.exit j=>Nat.beq i j
 | _,_=>false
def inE (e:Exit):List (Exit × (A2->Prop))->Prop
 | []=>False
 | p :: ps=>match eqE e p.1 with | true=>True | false=>inE e ps
def Sl7 (X:Exit->(A2->Prop)->Prop):List (Exit × (A2->Prop))->Prop
 | []=>True
 | p :: ps=>X p.1 p.2/\Sl7 X ps
def Hh (P:Program) (g:Value) (np:Nat) (h:A2) (B:(Exit->A2->Prop)->Array Value->A2->Prop) (D:A2->Prop) (Es:List (Exit × (A2->Prop))):Prop:=
 ∃(n:Nat) (xs:Nat->Array Value) (Ev:A2->Prop) (I:Nat->Nat->A2->Prop) (X:Nat->Exit->A2->Prop),
  fnV g/\Qt P g n xs Ev/\(∀k,k < n->(xs k).size=np)/\Ev h/\ET h.size h Ev I X /\
  (∀M k h',k < n->h.size+2<=M->M<=h'.size->I M k h'->B (λe h''=>Y2 h.size M h' h''/\(match e with | .normal=>I M (k+1) h'' | e=>inE e Es/\X M e h'')) (xs k) h') /\
  (∀M h',h.size+2<=M->M<=h'.size->I M n h'->D h') /\
  Sl7 (λe F=>∀M h',h.size+2<=M->M<=h'.size->X M e h'->F h') Es
theorem SP6 {a b:Exit} (h:eqE a b=true):a=b:=by
 cases a <;> cases b <;> simp [eqE] at h <;> first | rfl | (subst h;rfl) | exact h.elim
theorem UB {P:Program} {g:Value} {np:Nat} {h:A2} {B:(Exit->A2->Prop)->Array Value->A2->Prop} {D:A2->Prop} {E:Exit->A2->Prop} {es:List Exit}
  (H:Hh P g np h B D (es.map λe=>(e,E e))):XF P g np h B D E:=by
 obtain ⟨n,xs,Ev,I,X,h1,h2,h3,h4,h5,h6,h7,h8⟩:=H
 refine ⟨n,xs,Ev,I,λM e h'=>inE e (es.map λe=>(e,E e))/\X M e h',h1,h2,h3,h4,?_,h6,h7,?_⟩
 ·exact { env:=h5.env,keepI:=h5.keepI,keepX:=λM e a b c d e f=>⟨e.1,h5.keepX M _ a b c d e.2 f⟩,dI:=h5.dI,dX:=λM e a b c d=>⟨d.1,h5.dX M _ a b c d.2⟩,start:=h5.start }
 ·rintro M e h' hM hM' ⟨hi,hx⟩
  clear h6
  induction es with
  | nil=>exact hi.elim
  | cons e0 es ih=>
   simp only [List.map,inE,Sl7] at hi h8
   cases hq:eqE e e0 with
   | true=>have:=SP6 hq;subst this;exact h8.1 M h' hM hM' hx
   | false=>rw [hq] at hi;exact ih h8.2 hi
def Sl8 (e:Exit):List Exit->Bool
 | []=>false
 | x :: xs=>eqE e x || Sl8 e xs
def SU8 (a b:List Exit):List Exit:=a.foldr (λe l=>if Sl8 e l then l else e :: l) b
def Gz:Code->List Exit
 | .seq a b | .cond _ a b=>SU8 (Gz a) (Gz b)
 | .block id b=>(Gz b).filter λe=>!(eqE e (.exit id))
 | .loop b | .scope b=>Gz b
 | .rangeFunc _ _ _ b=>Gz b
 | .exit id=>[.exit id]
 | .ret=>[.ret]
 | _=>[]
def vc (P:Program):Code->(Exit->F8->A2->Prop)->F8->A2->Prop
 | .skip,Q,ρ,h=>Q .normal ρ h
 | .region _ ops false,Q,ρ,h=>GS P ops ops.toList ρ h (Q .normal)
 | .region _ ops true,Q,ρ,h=>HW P ops ops.size (Array.replicate ops.size false) [] ρ h (Q .normal)
 | .seq a b,Q,ρ,h=>
  if UA a<=1 || SP4 b then vc P a (Sl5 (vc P b Q) Q) ρ h else
  SU6 (Y7 (CW a) (B9 a)).length
   (λJ=>vc P a (Sl5 (λρ' h'=>J ((Y7 (CW a) (B9 a)).map ρ') h') Q) ρ h)
   (λvs g h'=>vc P b Q (Of ρ (Cb a) (Y7 (CW a) (B9 a)) vs g) h')
 | .cond c x y,Q,ρ,h=>asBool (KD ρ c) λb=>D0 b (vc P x Q (Og ρ c true) h) (vc P y Q (Og ρ c false) h)
 | .block id b,Q,ρ,h=>vc P b (Sl6 id Q) ρ h
 | .loop b,Q,ρ,h=>SU7 (CW b).length ((CW b).map ρ) h λI μ vs g h'=>
   vc P b (Sl5 (λρ' h''=>I ((CW b).map ρ') h''/\μ ((CW b).map ρ') h'' < μ vs h') Q) (Of ρ (Cb b) (CW b) vs g) h'
 | .rangeFunc g ps assign body,Q,ρ,h=>
  Hh P (KD ρ g) ps.size h
   (λK vs h'=>match KE assign with
    | some ops=>HZ P ops (MV ρ vs ps.toList 0) h'.size λρ1 os=>vc P body (λe _ h''=>K e h'') ρ1 (DL h' os)
    | none=>False)
   (λh'=>Q .normal ρ h') ((Gz body).map λe=>(e,λh'=>Q e ρ h'))
 | .exit id,Q,ρ,h=>Q (.exit id) ρ h
 | .ret,Q,ρ,h=>Q .ret ρ h
 | .label _,Q,ρ,h=>Q .normal ρ h
 | .scope b,Q,ρ,h=>vc P b Q ρ h
 | .goto _,_,_,_=>False
 | .refuse _,_,_,_=>False
end
section
def FW (r:Option Nat):Fence:={ fn:=λ_=>True,depth:=none,alive:=false,round:=r }
theorem UC {r:Option Nat} {P:Program} {f:FuncId} {args:Array Value} {w:World} {R:Ending->World->Prop} (h:CallsIn Fence.wide 0 P f args w R):CallsIn (FW r) 0 P f args w R:=h
theorem UD {r:Option Nat} {P:Program} {l:Nat} {f:FuncId} {t:Array Value} {x y:Code} {w:World} {R:Ending->World->Prop} (h:RoundIn Fence.wide 0 P l f t x y w R):RoundIn (FW r) 0 P l f t x y w R:=h
structure Rl (n:Nat) (t:Array Value) (ρ:F8):Prop where
 size:t.size=n
 get:∀j,t.getD j undef=ρ j
theorem Do (ρ:F8) (d:Nat) (v:Value):Uq ρ d v d=v:=by simp [Uq]
theorem Et (ρ:F8) {d j:Nat} (v:Value) (h:j≠d):Uq ρ d v j=ρ j:=by
 have:Nat.beq j d=false:=Bool.eq_false_iff.2 λe=>h (Nat.eq_of_beq_eq_true e)
 simp [Uq,this]
theorem Qu {ρ:F8} {d:Nat} {v:Value} (h:ρ d=v):Uq ρ d v=ρ:=by
 funext j;by_cases e:j=d
 ·subst e;rw [Do,h]
 ·rw [Et _ _ e]
section
variable {n:Nat} {t:Array Value} {ρ:F8} {a:Act}
theorem Rl.eval (h:Rl n a.tmps ρ):a.eval=KD ρ:=by
 funext x;cases x with
 | tmp j=>exact h.get j
 | _=>rfl
theorem Rl.put (h:Rl n a.tmps ρ) {d:Option Nat} (v:Value) (hd:∀j,d=some j->j < n):Rl n (a.put d v).tmps (BD ρ d v):=by
 cases d with
 | none=>exact h
 | some d=>
  refine ⟨by simp [Act.put,h.size],λj=>?_⟩
  have hlt:d < a.tmps.size:=by rw [h.size];exact hd d rfl
  simp only [Act.put,BD]
  by_cases e:j=d
  ·subst e;rw [Do];simp [Array.getD_eq_getD_getElem?,hlt]
  ·rw [Et _ _ e,<- h.get j]
   simp [Array.getD_eq_getD_getElem?,Array.getElem?_setIfInBounds_ne (Ne.symm e)]
theorem EU (d:Option Nat) (v:Value):(a.put d v).defers=a.defers:=by cases d <;> rfl
def CI (ops:Array Oper) (ρ:F8) (j:Nat):Option Bool:=
 match (ops[j]?).bind (·.dst) with
 | none=>none
 | some d=>match ρ d with | .bool b=>some b | _=>none
def ED (ops:Array Oper) (ρ:F8) (g:Option (Nat × Bool)):Bool:=
 match g with
 | none=>true
 | some (j,want)=>CI ops ρ j == some want
theorem UE {ops:Array Oper} (h:Rl n a.tmps ρ) (j:Nat):yielded ops a.tmps j=CI ops ρ j:=by
 unfold yielded CI
 cases hd:(ops[j]?).bind (·.dst) with
 | none=>rfl
 | some d=>
  simp only [Option.bind_some]
  have:=h.get d
  cases hv:a.tmps[d]? with
  | none=>simp [Array.getD_eq_getD_getElem?,hv] at this;simp [<- this,undef]
  | some v=>simp [Array.getD_eq_getD_getElem?,hv] at this;subst this;cases ρ d <;> rfl
theorem MW {ops:Array Oper} {o:Oper} (h:Rl n a.tmps ρ):Region.wanted o (yielded ops a.tmps)=ED ops ρ o.guard:=by
 unfold Region.wanted ED
 cases o.guard with
 | none=>rfl
 | some g=>obtain ⟨j,want⟩:=g;simp only [UE h]
theorem Hi {ops:Array Oper} {g:Option (Nat × Bool)} {yes no:F8->Prop} (H:ES ops ρ g yes no):if ED ops ρ g then yes ρ else no ρ:=by
 unfold ES at H
 cases g with
 | none=>exact H
 | some g=>
  obtain ⟨j,want⟩:=g
  simp only at H
  cases hd:(ops[j]?).bind (·.dst) with
  | none=>
   rw [hd] at H
   have hy:CI ops ρ j=none:=by unfold CI;rw [hd]
   simp only [ED,hy];exact H
  | some d=>
   rw [hd] at H;simp only at H
   unfold Uy at H
   cases hv:ρ d with
   | bool b=>
    have hy:CI ops ρ j=some b:=by unfold CI;rw [hd];simp only [hv]
    rw [hv] at H;simp only at H
    simp only [ED,hy]
    cases b <;> cases want <;> simp [D0] at H ⊢ <;> rw [Qu hv] at H <;> exact H
   | _=>
    have hy:CI ops ρ j=none:=by unfold CI;rw [hd];simp only [hv]
    rw [hv] at H;simp only [ED,hy];exact H
end
section
variable {P:Program} {n:Nat} {ρ:F8} {a:Act} {w:World} {h:A2} {K:kQ} {Q:Exit->Act->World->Prop} {r:Option Nat}
def AI (o:Oper):Bool:=match o.op with | .defer _=>false | .select ..=>false | _=>true
def IK (n:Nat) (o:Oper):Bool:=AI o && (match o.dst with | some d=>decide (d < n) | none=>true)
theorem Ia {o:Oper} (ho:IK n o=true):∀d,o.dst=some d->d < n:=by
 intro d hd;unfold IK at ho;rw [hd] at ho;simp at ho;exact ho.2
theorem UF {o:Oper} (ho:IK n o=true):∀c,o.op≠.defer c:=by
 intro c hc;unfold IK AI at ho;rw [hc] at ho;simp at ho
theorem XG {o:Oper} (H:OpS P (KD ρ) o h K) (hR:Rl n a.tmps ρ) (hw:w.heap=h) (ho:IK n o=true) {next:Act->World->Prop}
  (hnext:∀v w',K v w'.heap->Kw w w'->next (a.put o.dst v) w'):o.wpIn (FW r) 0 P a w next Q:=by
 refine ⟨λ_ _=>trivial,?_⟩
 rw [Oper.semAt_eq _ _ _ (UF ho),hR.eval]
 obtain ⟨nx,w',hrun,hn⟩:=H w hw
 rw [hrun]
 have hcall:∀ {e:Ending} {w'':World},Xz w K e w''->(match e,w'' with
   | .returned v,w''=>next (a.put o.dst v) w''
   | .panicked chain,w''=>Q (.panic chain) a w''
   | .outgrown,_=>LetsOut Q):=by
  intro e w'' x
  cases e <;> first | exact hnext _ _ x.1 x.2 | exact x.elim
 cases nx <;> simp only [Oper.uponIn]
 case value v=>exact hnext _ _ hn.1 hn.2
 case skip=>exact hnext _ _ hn.1 hn.2
 case enter f args=>exact ⟨by simp [FW],(UC hn).mono λe w'' x=>hcall x⟩
 case round l f tmps assign body=>exact ⟨by simp [FW],(UD hn).mono λe w'' x=>hcall x⟩
 all_goals exact hn.elim
def Fu (ws:List Nat) (t t':Array Value):Prop:=∀j,j ∉ ws->t'.getD j undef=t.getD j undef
theorem Fu.refl (ws:List Nat) (t:Array Value):Fu ws t t:=λ_ _=>rfl
theorem Fu.trans {ws:List Nat} {a b c:Array Value} (h1:Fu ws a b) (h2:Fu ws b c):Fu ws a c:=λj hj=>(h2 j hj).trans (h1 j hj)
theorem Fu.mono {ws ws':List Nat} {a b:Array Value} (h:Fu ws a b) (hs:∀j ∈ ws,j ∈ ws'):Fu ws' a b:=λj hj=>h j (λx=>hj (hs j x))
theorem Fu.put {ws:List Nat} (a:Act) (d:Option Nat) (v:Value) (hd:∀j,d=some j->j ∈ ws):Fu ws a.tmps (a.put d v).tmps:=by
 intro j hj
 cases d with
 | none=>rfl
 | some d=>
  have:d≠j:=λe=>hj (by subst e;exact hd _ rfl)
  simp [Act.put,Array.getD_eq_getD_getElem?,Array.getElem?_setIfInBounds_ne this]
def pstep (P:Program) (ops:Array Oper) (i:Nat) (ρ:F8) (h:A2) (K:F8->A2->Prop):Prop:=
 match ops[i]? with
 | none=>K ρ h
 | some o=>if ED ops ρ o.guard then Ep P (KD ρ) o h (λv h'=>K (BD ρ o.dst v) h') else K (BD ρ o.dst AR) h
theorem Oh {ops:Array Oper} {i:Nat} {K:F8->A2->Prop} (H:pstep P ops i ρ h K) (hR:Rl n a.tmps ρ) (hw:w.heap=h) (ho:∀o,ops[i]? = some o->IK n o=true)
  {ws:List Nat} (hws:∀o,ops[i]? = some o->∀d,o.dst=some d->d ∈ ws)
  {next:Act->World->Prop} (hnext:∀ρ' a' w',K ρ' w'.heap->Rl n a'.tmps ρ'->Fu ws a.tmps a'.tmps->a'.defers=a.defers->Kw w w'->next a' w'):wpOpIn (FW r) 0 P ops Q i next a w:=by
 unfold pstep at H
 unfold wpOpIn
 cases hi:ops[i]? with
 | none=>rw [hi] at H;subst hw;exact hnext ρ a w H hR (Fu.refl _ _) rfl (Kw.refl _)
 | some o=>
  rw [hi] at H
  simp only at H ⊢
  rw [MW hR]
  split
  ·rename_i hwt
   rw [if_pos hwt] at H
   exact XG (MU o (λ_=>rfl) H) hR hw (ho o hi) λv w' hk hkd=>hnext _ _ w' hk (hR.put v (Ia (ho o hi))) (Fu.put _ _ _ (hws o hi)) (EU _ _) hkd
  ·rename_i hwt
   rw [if_neg hwt] at H
   subst hw
   exact ⟨λ_ _=>trivial,hnext _ _ w H (hR.put _ (Ia (ho o hi))) (Fu.put _ _ _ (hws o hi)) (EU _ _) (Kw.refl _)⟩
theorem Qv {n:Nat} {v:Value} {F:Value->Prop} (H:Ut n v F):F v:=by
 unfold Ut at H
 split at H
 ·obtain ⟨cs,e,H⟩:=Ab H
  rw [e]
  unfold G0 at H
  split at H
  ·rename_i hn
   have:=Kz _ _ _ H
   have hn:=Nat.eq_of_beq_eq_true hn
   simp only [List.reverse_nil,List.nil_append,List.drop_zero] at this
   rw [List.take_of_length_le (by simp [hn])] at this
   exact this
  ·exact H.elim
 ·exact H
theorem UG {P:Program} {t:TypeId} {v:Value} {F:Value->Prop} (H:Hc P t v F):F v:=by
 unfold Hc at H
 split at H
 ·obtain ⟨_,e,H⟩:=M9 H;rw [e];exact H
 ·obtain ⟨_,e,H⟩:=L5 H;rw [e];exact H
 ·obtain ⟨_,e,H⟩:=L0 H;rw [e];exact H
 ·obtain ⟨_,_,_,e,H⟩:=N1 H;rw [e];exact H
 ·obtain ⟨_,e,H⟩:=X3 H;rw [e];exact H
 ·obtain ⟨_,e,H⟩:=EC H;rw [e];exact H
 ·exact Qv H
 ·exact Qv H
 ·exact H
theorem Oi {P:Program} {o:Oper} {v:Value} {F:Value->Prop} (H:tyO P o v F):F v:=by
 unfold tyO at H
 split at H
 ·exact H
 ·exact H
 ·exact UG H
def UH (P:Program) (ops:Array Oper) (i:Nat) (ρ:F8) (h:A2) (K:F8->A2->Prop):Prop:=
 match ops[i]? with
 | none=>K ρ h
 | some o=>if ED ops ρ o.guard then Ep P (KD ρ) o h (λv h'=>tyO P o v λv=>K (BD ρ o.dst v) h') else K (BD ρ o.dst AR) h
theorem Mh {ops:Array Oper} {i:Nat} {K:F8->A2->Prop} (H:UH P ops i ρ h K) (hR:Rl n a.tmps ρ) (hw:w.heap=h) (ho:∀o,ops[i]? = some o->IK n o=true)
  {ws:List Nat} (hws:∀o,ops[i]? = some o->∀d,o.dst=some d->d ∈ ws)
  {next:Act->World->Prop} (hnext:∀ρ' a' w',K ρ' w'.heap->Rl n a'.tmps ρ'->Fu ws a.tmps a'.tmps->a'.defers=a.defers->Kw w w'->next a' w'):wpOpIn (FW r) 0 P ops Q i next a w:=by
 unfold UH at H
 unfold wpOpIn
 cases hi:ops[i]? with
 | none=>rw [hi] at H;subst hw;exact hnext ρ a w H hR (Fu.refl _ _) rfl (Kw.refl _)
 | some o=>
  rw [hi] at H
  simp only at H ⊢
  rw [MW hR]
  split
  ·rename_i hwt
   rw [if_pos hwt] at H
   exact XG (MU o (λ_=>rfl) H) hR hw (ho o hi) λv w' hk hkd=>hnext _ _ w' (Oi hk) (hR.put v (Ia (ho o hi))) (Fu.put _ _ _ (hws o hi)) (EU _ _) hkd
  ·rename_i hwt
   rw [if_neg hwt] at H
   subst hw
   exact ⟨λ_ _=>trivial,hnext _ _ w H (hR.put _ (Ia (ho o hi))) (Fu.put _ _ _ (hws o hi)) (EU _ _) (Kw.refl _)⟩
def Jn (n:Nat) (ops:Array Oper):Bool:=ops.toList.all (IK n)
theorem KF {ops:Array Oper} (ho:Jn n ops=true) (i:Nat) (o:Oper) (hi:ops[i]? = some o):IK n o=true:=by
 unfold Jn at ho;rw [List.all_eq_true] at ho
 exact ho o (Array.mem_toList_iff.2 (Array.mem_of_getElem? hi))
theorem GT {ops:Array Oper} (ho:Jn n ops=true) {ws:List Nat} (hws:∀(i:Nat) (o:Oper),ops[i]? = some o->∀d,o.dst=some d->d ∈ ws) {K:F8->A2->Prop} (l:List Oper):∀(k:Nat),(∀j,l[j]? = ops[k+j]?)->∀(ρ:F8) (h:A2) (a:Act) (w:World),
  GS P ops l ρ h K->Rl n a.tmps ρ->w.heap=h ->
  (∀ρ' a' w',K ρ' w'.heap->Rl n a'.tmps ρ'->Fu ws a.tmps a'.tmps->a'.defers=a.defers->Kw w w'->Q .normal a' w')->wpOpsIn (FW r) 0 P ops Q (List.range' k l.length) a w:=by
 induction l with
 | nil=>intro k _ ρ h a w H hR hw hQ;subst hw;exact hQ ρ a w H hR (Fu.refl _ _) rfl (Kw.refl _)
 | cons o l ih=>
  intro k hk ρ h a w H hR hw hQ
  have h0:ops[k]? = some o:=by simpa using (hk 0).symm
  have ih':=ih (k+1) (λj=>by have:=hk (j+1);simpa [Nat.add_assoc,Nat.add_comm 1 j] using this)
  simp only [List.length_cons,List.range'_succ,wpOpsIn_cons]
  have H:=Hi H
  refine Mh (n:=n) (K:=λρ' h'=>GS P ops l ρ' h' K) ?_ hR hw (λo' ho'=>KF ho k o' ho') (hws k) ?_
  ·unfold UH;rw [h0];exact H
  ·intro ρ' a' w' hl hR' hs hd hkd
   refine ih' ρ' _ a' w' hl hR' rfl ?_
   intro ρ'' a'' w'' hK hR'' hs' hd' hkd'
   exact hQ ρ'' a'' w'' hK hR'' (hs.trans hs') (hd'.trans hd) (hkd.trans hkd')
end
end
section
section
variable {P:Program} {h:A2} {K:kQ}
theorem YK {ρ ρ':Operand->Value} {o:Oper} (hp0:AI o=true) (hh:∀x ∈ o.op.operands,ρ x=ρ' x):NZ P ρ o h K=NZ P ρ' o h K:=by
 unfold NZ
 rw [execOp_congr o (λcs b e=>by unfold AI at hp0;rw [e] at hp0;simp at hp0) hh]
theorem UI {ρ ρ':Operand->Value} {op:BinOp} {xt yt:TypeId} {x y:Operand} {o:Oper} (hx:ρ x=ρ' x) (hy:ρ y=ρ' y) (ho:NZ P ρ o h K=NZ P ρ' o h K) :
  Kf P op xt yt x y ρ o h K=Kf P op xt yt x y ρ' o h K:=by
 unfold Kf;simp only [hx,hy,ho]
theorem YL {ρ ρ':Operand->Value} {o:Oper} (hp0:AI o=true) (hh:∀x ∈ o.op.operands,ρ x=ρ' x):Ep P ρ o h K=Ep P ρ' o h K:=by
 have ho:=YK (P:=P) (h:=h) (K:=K) hp0 hh
 unfold Ep
 split
 case h_1 x hx | h_2 x hx | h_5 t x hx | h_8 t x hx | h_10 x hx | h_12 op xt x hx | h_13 s d x hx | h_14 t x hx | h_19 t x f hx | h_20 t x f hx | h_25 x i hx=>
  rw [hx] at hh
  have e:ρ x=ρ' x:=hh x (by simp [Op.operands])
  simp only [e,ho]
 case h_3 c a b hx=>
  rw [hx] at hh
  have e1:ρ c=ρ' c:=hh c (by simp [Op.operands])
  have e2:ρ a=ρ' a:=hh a (by simp [Op.operands])
  have e3:ρ b=ρ' b:=hh b (by simp [Op.operands])
  simp only [e1,e2,e3]
 case h_4 | h_16=>rfl
 case h_6 t parts hx=>
  rw [hx] at hh
  have e:(parts.toList.map λp=>(p.1,ρ p.2))=(parts.toList.map λp=>(p.1,ρ' p.2)):=by
   apply List.map_congr_left
   intro p hp1
   have:ρ p.2=ρ' p.2:=hh p.2 (by simp only [Op.operands];simp;exact ⟨p.1,by simpa using hp1⟩)
   rw [this]
  simp only [e]
 case h_7 t len parts hx=>
  rw [hx] at hh
  have e:(parts.toList.map λp=>(p.1,ρ p.2))=(parts.toList.map λp=>(p.1,ρ' p.2)):=by
   apply List.map_congr_left
   intro p hp1
   have:ρ p.2=ρ' p.2:=hh p.2 (by simp only [Op.operands];simp;exact ⟨p.1,by simpa using hp1⟩)
   rw [this]
  simp only [e]
 case h_9 t x y hx=>
  rw [hx] at hh
  have e1:ρ x=ρ' x:=hh x (by simp [Op.operands])
  have e2:ρ y=ρ' y:=hh y (by simp [Op.operands])
  simp only [e1,e2]
 case h_11 op xt x y yt hx=>
  rw [hx] at hh
  have e1:ρ x=ρ' x:=hh x (by simp [Op.operands])
  have e2:ρ y=ρ' y:=hh y (by simp [Op.operands])
  exact UI e1 e2 ho
 case h_15 fn first captured hx=>
  rw [hx] at hh
  have e1:Hd ρ first=Hd ρ' first:=by unfold Hd;congr 1;apply List.map_congr_left;intro x hx1;exact hh x (by simp [Op.operands,(Array.mem_toList_iff.1 hx1)])
  have e2:Hd ρ captured=Hd ρ' captured:=by unfold Hd;congr 1;apply List.map_congr_left;intro x hx1;exact hh x (by simp [Op.operands,(Array.mem_toList_iff.1 hx1)])
  simp only [e1,e2]
 case h_17 t x y hx | h_21 t x y hx | h_22 t x y hx | h_23 t x y ok hx=>
  rw [hx] at hh
  have e1:ρ x=ρ' x:=hh x (by simp [Op.operands])
  have e2:ρ y=ρ' y:=hh y (by simp [Op.operands])
  simp only [e1,e2]
 case h_18 t x lo hi mx hx=>
  rw [hx] at hh
  have e1:ρ x=ρ' x:=hh x (by simp [Op.operands])
  have e2:lo.map ρ=lo.map ρ':=by cases lo with | none=>rfl | some l=>simp only [Option.map_some];rw [hh l (by simp [Op.operands])]
  have e3:hi.map ρ=hi.map ρ':=by cases hi with | none=>rfl | some l=>simp only [Option.map_some];rw [hh l (by simp [Op.operands])]
  have e4:mx.map ρ=mx.map ρ':=by cases mx with | none=>rfl | some l=>simp only [Option.map_some];rw [hh l (by simp [Op.operands])]
  simp only [e1,e2,e3,e4]
 case h_24 t m k x hx=>
  rw [hx] at hh
  have e1:ρ m=ρ' m:=hh m (by simp [Op.operands])
  have e2:ρ k=ρ' k:=hh k (by simp [Op.operands])
  have e3:ρ x=ρ' x:=hh x (by simp [Op.operands])
  simp only [e1,e2,e3]
 case h_26 b args argTypes hx=>
  rw [hx] at hh
  have e1:args.toList.map ρ=args.toList.map ρ':=by apply List.map_congr_left;intro x hx1;exact hh x (by simp [Op.operands,Call.operands,(Array.mem_toList_iff.1 hx1)])
  unfold Aq
  simp only [e1,ho]
 case h_27 f args argTypes hx=>
  rw [hx] at hh
  have e1:Hd ρ args=Hd ρ' args:=by unfold Hd;congr 1;apply List.map_congr_left;intro x hx1;exact hh x (by simp [Op.operands,Call.operands,(Array.mem_toList_iff.1 hx1)])
  have e2:ρ f=ρ' f:=hh f (by simp [Op.operands,Call.operands])
  simp only [e1,e2]
 case h_28=>rfl
 case h_29=>exact ho
theorem SE8 {ρ:F8} {d:Option Nat} {v:Value} {x:Operand} (hx:∀j,d=some j->x≠.tmp j):KD (BD ρ d v) x=KD ρ x:=by
 cases d with
 | none=>rfl
 | some d=>cases x with
  | tmp j=>exact Et _ _ (λe=>hx d rfl (by rw [e]))
  | _=>rfl
theorem XH {ρ:F8} {ops:Array Oper} {o:Oper} {d:Option Nat} {v:Value} (hp0:AI o=true) (hd:∀j,d=some j->j ∉ o.looksAt ops) :
  Ep P (KD (BD ρ d v)) o h K=Ep P (KD ρ) o h K:=by
 refine YL hp0 λx hx=>SE8 λj hj e=>hd j hj ?_
 subst e
 unfold Oper.looksAt
 exact List.mem_append.2 (.inl (List.mem_filterMap.2 ⟨_,Array.mem_toList_iff.2 hx,rfl⟩))
theorem MX {ρ:F8} {ops:Array Oper} {o:Oper} {d:Option Nat} {v:Value} (hd:∀j,d=some j->j ∉ o.looksAt ops) :
  ED ops (BD ρ d v) o.guard=ED ops ρ o.guard:=by
 unfold ED
 cases hg:o.guard with
 | none=>rfl
 | some g=>
  obtain ⟨j,want⟩:=g
  have e:CI ops (BD ρ d v) j=CI ops ρ j:=by
   unfold CI
   cases hs:(ops[j]?).bind (·.dst) with
   | none=>rfl
   | some s=>
    simp only
    cases d with
    | none=>rfl
    | some d=>
     have:s≠d:=by
      intro e;subst e
      refine hd s rfl ?_
      unfold Oper.looksAt
      rw [hg];simp only [hs];simp
     rw [show BD ρ (some d) v s=ρ s from Et _ _ this]
  simp only [e]
theorem MY (ρ:F8) {x y:Option Nat} (v u:Value) (hne:∀d,x=some d->y≠some d):BD (BD ρ x v) y u=BD (BD ρ y u) x v:=by
 cases x with
 | none=>rfl
 | some x=>cases y with
  | none=>rfl
  | some y=>
   have hxy:x≠y:=λe=>hne x rfl (by rw [e])
   funext j
   simp only [BD]
   by_cases e1:j=x
   ·subst e1;rw [Et _ _ hxy,Do,Do]
   ·by_cases e2:j=y
    ·subst e2;rw [Do,Et _ _ e1,Do]
    ·rw [Et _ _ e2,Et _ _ e1,Et _ _ e1,Et _ _ e2]
end
end
section
section
variable {P:Program} {h:A2} {ρ:Operand->Value} {G:Value->Prop}
def UJ (P:Program) (ρ:Operand->Value) (o:Oper) (L:List (Addr × Value)) (v:Value):Prop:=
 ∀h:A2,(∀x ∈ L,A3 h x.1=some x.2)->∀K:Value->A2->Prop,K v h->Ep P ρ o h K
theorem KG {k:IntKind} {op:BinOp} {a b:Int} (H:Jl k op a b G):∃v,G v/\∀G':Value->Prop,G' v->Jl k op a b G':=by
 cases op <;> simp only [Jl] at H ⊢ <;> first
  | exact ⟨_,H,λ_ x=>x⟩
  | exact ⟨_,H.2,λ_ x=>⟨H.1,x⟩⟩
  | exact H.elim
theorem IL {k:IntKind} {op:BinOp} {a b:Int} (H:Qc k op a b G):∃v,G v/\∀G':Value->Prop,G' v->Qc k op a b G':=by
 cases op <;> simp only [Qc] at H ⊢ <;> first
  | exact ⟨_,H.2,λ_ x=>⟨H.1,x⟩⟩
  | exact H.elim
theorem EE {t:TypeId} {x y:Value} {F:Bool->Prop} (H:GL P t x y F):∃b,F b/\∀F':Bool->Prop,F' b->GL P t x y F':=by
 unfold GL at *
 split at H
 ·exact H.elim
 ·rename_i hg
  obtain ⟨a,rfl,H⟩:=Ab H
  split at H
  ·rename_i b hb
   exact ⟨b,H,λF' x=>by simp only [hg,asAgg,hb];simpa using x⟩
  ·exact H.elim
theorem Ar {v:Option Value} {d m:Nat} {F:Nat->Prop} (H:Bp none v d m F):∃n,F n/\∀F':Nat->Prop,F' n->Bp none v d m F':=by
 rcases Br H with ⟨rfl,H1⟩ | ⟨k,i,rfl,h0,h1,H1⟩
 ·exact ⟨d,H1,λ_ x=>x⟩
 ·exact ⟨_,H1,λ_ x=>⟨h0,h1,x⟩⟩
theorem Jo {t:TypeId} {x:Value} {lo hi mx:Option Value} (H:FE P t x lo hi mx G):∃v,G v/\∀G':Value->Prop,G' v->FE P t x lo hi mx G':=by
 unfold FE at *
 split at H
 ·split at H
  ·exact H.elim
  ·rename_i hm
   obtain ⟨s,rfl,H1⟩:=L0 H
   obtain ⟨a,H2,f1⟩:=Ar H1
   obtain ⟨b,H3,f2⟩:=Ar H2
   exact ⟨_,H3,λG' x=>by rw [if_neg hm];simp only [G9];apply f1;apply f2;exact x⟩
 ·split at H
  ·rename_i ht
   obtain ⟨a,len,cap,rfl,H1⟩:=N1 H
   obtain ⟨m,H2,f1⟩:=Ar H1
   obtain ⟨b,H3,f2⟩:=Ar H2
   obtain ⟨c,H4,f3⟩:=Ar H3
   exact ⟨_,H4,λG' x=>by simp only [ht,if_true,C8,E5];apply f1;apply f2;apply f3;exact x⟩
  ·exact H.elim
 ·split at H
  ·rename_i ht
   obtain ⟨a,rfl,H1⟩:=V1 H
   obtain ⟨m,H2,f1⟩:=Ar H1
   obtain ⟨b,H3,f2⟩:=Ar H2
   obtain ⟨c,H4,f3⟩:=Ar H3
   exact ⟨_,H4,λG' x=>by simp only [ht,if_true,C8,E5];apply f1;apply f2;apply f3;exact x⟩
  ·exact H.elim
 ·exact H.elim
theorem DM {t:TypeId} {v:Value} {F:List Value->Prop} (H:Dm P t v F):F v.cells.toList/\∀F':List Value->Prop,F' v.cells.toList->Dm P t v F':=by
 refine ⟨ER H,λF' x=>?_⟩
 unfold Dm at *
 split at H
 ·rename_i ht
  simp only [ht,if_true];exact (Qf H).2 _ x
 ·rename_i ht
  simp only [ht]
  have e:=(He H).1
  rw [e] at x
  exact Dg (λ_=>by simpa using x) H
theorem Hj {place:Nat->Option (Nat × TypeId)} (parts:List (Nat × Value)):∀(cells:List Value) (F:List Value->Prop),Ft P place cells parts F ->
  ∃cs,F cs/\∀F':List Value->Prop,F' cs->Ft P place cells parts F':=by
 induction parts with
 | nil=>intro cells F H;exact ⟨cells,H,λ_ x=>x⟩
 | cons p rest ih=>
  obtain ⟨i,v⟩:=p
  intro cells F H
  unfold Ft at H
  split at H
  ·exact H.elim
  ·rename_i off t hp1
   obtain ⟨H,f1⟩:=DM H
   split at H
   ·rename_i hs
    obtain ⟨cs,h1,h2⟩:=ih _ _ H
    refine ⟨cs,h1,λF' x=>?_⟩
    unfold Ft
    simp only [hp1]
    exact f1 _ (by rw [if_pos hs];exact h2 _ x)
   ·exact H.elim
theorem YM {op:BinOp} {xt yt:TypeId} {x y:Operand} {o:Oper} (hr:Z3 P { o with op:=.binOp op xt x y yt }=true) (H:Kf P op xt yt x y ρ o h (λv _=>G v)) :
  ∃v,G v/\∀(h':A2) (K':kQ),K' v h'->Kf P op xt yt x y ρ o h' K':=by
 unfold Z3 at hr
 simp only at hr
 unfold Kf at *
 cases hu:AH P xt with
 | int k=>
  rw [hu] at H hr
  simp only at H ⊢
  split at H
  ·split at H
   ·obtain ⟨a,ha,H⟩:=L5 H
    obtain ⟨b,hb,H⟩:=L5 H
    obtain ⟨v,H,f⟩:=IL H
    exact ⟨v,H,λh' K' x=>by simp only [ha,hb,asInt,if_true];exact f (λv=>K' v h') x⟩
   ·exact H.elim
  ·split at H
   ·obtain ⟨a,ha,H⟩:=L5 H
    obtain ⟨b,hb,H⟩:=L5 H
    obtain ⟨v,H,f⟩:=IL H
    exact ⟨v,H,λh' K' x=>by simp only [ha,hb,asInt,if_true];exact f (λv=>K' v h') x⟩
   ·exact H.elim
  ·obtain ⟨a,ha,H⟩:=L5 H
   obtain ⟨b,hb,H⟩:=L5 H
   obtain ⟨v,H,f⟩:=KG H
   exact ⟨v,H,λh' K' x=>by simp only [ha,hb,asInt,if_true];exact f (λv=>K' v h') x⟩
 | bool=>
  rw [hu] at H hr
  simp only at H ⊢
  split at H
  ·obtain ⟨a,ha,H⟩:=M9 H
   obtain ⟨b,hb,H⟩:=M9 H
   exact ⟨_,H,λh' K' x=>by simp only [ha,hb,asBool];exact x⟩
  ·obtain ⟨a,ha,H⟩:=M9 H
   obtain ⟨b,hb,H⟩:=M9 H
   exact ⟨_,H,λh' K' x=>by simp only [ha,hb,asBool];exact x⟩
  ·exact H.elim
 | string=>
  rw [hu] at H hr
  simp only at H hr ⊢
  split at H
  ·obtain ⟨a,ha,H⟩:=L0 H
   obtain ⟨b,hb,H⟩:=L0 H
   exact ⟨_,H,λh' K' x=>by simp only [ha,hb,G9];exact x⟩
  ·obtain ⟨a,ha,H⟩:=L0 H
   obtain ⟨b,hb,H⟩:=L0 H
   exact ⟨_,H,λh' K' x=>by simp only [ha,hb,G9];exact x⟩
  ·obtain ⟨a,ha,H⟩:=L0 H
   obtain ⟨b,hb,H⟩:=L0 H
   exact ⟨_,H.2,λh' K' x=>by simp only [ha,hb,G9];exact ⟨H.1,x⟩⟩
  ·split at hr <;> simp_all
 | pointer e=>
  rw [hu] at H hr
  simp only at H hr ⊢
  split at H
  ·obtain ⟨a,ha,H⟩:=X3 H
   exact ⟨_,H,λh' K' x=>by simp only [ha,C2];exact x⟩
  ·obtain ⟨a,ha,H⟩:=X3 H
   exact ⟨_,H,λh' K' x=>by simp only [ha,C2];exact x⟩
  ·simp_all
  ·simp_all
  ·split at hr <;> simp_all
 | slice e=>
  rw [hu] at H hr
  simp only at H hr ⊢
  split at H
  ·obtain ⟨a,l,c,ha,H⟩:=N1 H
   exact ⟨_,H,λh' K' x=>by simp only [ha,C8];exact x⟩
  ·obtain ⟨a,l,c,ha,H⟩:=N1 H
   exact ⟨_,H,λh' K' x=>by simp only [ha,C8];exact x⟩
  ·split at hr <;> simp_all
 | func e1 e2 e3=>
  rw [hu] at H hr
  simp only at H hr ⊢
  split at H
  ·rcases DK H with ⟨ha,H⟩ | ⟨f,a,b,ha,H⟩
   ·exact ⟨_,H,λh' K' x=>by simp only [ha,V7];exact x⟩
   ·exact ⟨_,H,λh' K' x=>by simp only [ha,V7];exact x⟩
  ·rcases DK H with ⟨ha,H⟩ | ⟨f,a,b,ha,H⟩
   ·exact ⟨_,H,λh' K' x=>by simp only [ha,V7];exact x⟩
   ·exact ⟨_,H,λh' K' x=>by simp only [ha,V7];exact x⟩
  ·split at hr <;> simp_all
 | struct fs=>
  rw [hu] at H hr
  simp only at H hr ⊢
  split at H
  ·obtain ⟨b,H,f⟩:=EE H
   exact ⟨_,H,λh' K' x=>f (λb=>K' (.bool b) h') x⟩
  ·obtain ⟨b,H,f⟩:=EE H
   exact ⟨_,H,λh' K' x=>f (λb=>K' (.bool (!b)) h') x⟩
  ·exact H.elim
 | array n e=>
  rw [hu] at H hr
  simp only at H hr ⊢
  split at H
  ·obtain ⟨b,H,f⟩:=EE H
   exact ⟨_,H,λh' K' x=>f (λb=>K' (.bool b) h') x⟩
  ·obtain ⟨b,H,f⟩:=EE H
   exact ⟨_,H,λh' K' x=>f (λb=>K' (.bool (!b)) h') x⟩
  ·exact H.elim
 | _=>rw [hu] at hr;simp at hr
theorem Sl9 {o:Oper} (hr:Z3 P o=true) (hn:∀t x,o.op≠.load t x) (H:Ep P ρ o h (λv _=>G v)):∃v,G v/\UJ P ρ o [] v:=by
 unfold Ep at H
 unfold UJ
 split at H
 case h_1 x hx | h_2 x hx=>exact ⟨_,H,λh' _ K' k=>by unfold Ep;rw [hx];exact k⟩
 case h_3 c a b hx=>
  obtain ⟨t,ht,H⟩:=M9 H
  refine ⟨if t then ρ a else ρ b,?_,λh' _ K' k=>?_⟩
  ·cases t <;> exact H
  ·unfold Ep;rw [hx];simp only [ht,asBool];cases t <;> exact k
 case h_4 t hx | h_16 t hx=>unfold Z3 at hr;rw [hx] at hr;simp at hr
 case h_5 t x hx | h_24 t m k x hx=>unfold Z3 at hr;rw [hx] at hr;simp at hr
 case h_6 t parts hx=>
  split at H
  ·rename_i hz
   split at H
   ·rename_i fields hu
    split at H
    ·exact H.elim
    ·rename_i hall
     obtain ⟨cs,H,f⟩:=Hj _ _ _ H
     refine ⟨_,H,λh' _ K' k=>?_⟩
     unfold Ep;rw [hx];simp only [hz,if_true,hu,if_neg hall]
     exact f (λcs=>K' (.agg cs.toArray) h') k
   ·rename_i n elem hu
    split at H
    ·exact H.elim
    ·rename_i hall
     obtain ⟨cs,H,f⟩:=Hj _ _ _ H
     refine ⟨_,H,λh' _ K' k=>?_⟩
     unfold Ep;rw [hx];simp only [hz,if_true,hu,if_neg hall]
     exact f (λcs=>K' (.agg cs.toArray) h') k
   ·exact H.elim
  ·exact H.elim
 case h_7 t len parts hx=>unfold Z3 at hr;rw [hx] at hr;simp at hr
 case h_8 t x hx=>exact absurd hx (hn _ _)
 case h_9 t x y hx=>unfold Z3 at hr;rw [hx] at hr;simp at hr
 case h_10 x hx=>
  have e:∀X Y:Prop,B4 (ρ x) X->(Y->B4 (ρ x) Y)/\X:=by
   intro X Y q;unfold B4 at *;split at q <;> first | exact q.elim | exact ⟨λy=>y,q⟩
  exact ⟨_,(e _ True H).2,λh' _ K' k=>by unfold Ep;rw [hx];exact (e _ _ H).1 k⟩
 case h_11 op xt x y yt hx=>
  have hr':Z3 P { o with op:=.binOp op xt x y yt }=true:=by rw [<- hx];exact hr
  obtain ⟨v,H,f⟩:=YM hr' H
  exact ⟨v,H,λh' _ K' k=>by unfold Ep;rw [hx];exact f h' K' k⟩
 case h_12 op xt x hx=>
  split at H
  ·rename_i hu
   obtain ⟨b,hb,H⟩:=M9 H
   exact ⟨_,H,λh' _ K' k=>by unfold Ep;rw [hx];simp only [hu,hb,asBool];exact k⟩
  ·rename_i hu
   obtain ⟨b,hb,H⟩:=L5 H
   exact ⟨_,H,λh' _ K' k=>by unfold Ep;rw [hx];simp only [hu,hb,asInt,if_true];exact k⟩
  ·rename_i n1 n2
   unfold Z3 at hr;rw [hx] at hr;simp only at hr
   exact absurd hr (by simp)
 case h_13 s d x hx=>
  split at H
  ·rename_i hu1 hu2
   obtain ⟨b,hb,H⟩:=L5 H
   exact ⟨_,H,λh' _ K' k=>by unfold Ep;rw [hx];simp only [hu1,hu2,hb,asInt,if_true];exact k⟩
  ·rename_i hu1 hu2
   obtain ⟨b,hb,H⟩:=L0 H
   exact ⟨_,H,λh' _ K' k=>by unfold Ep;rw [hx];simp only [hu1,hu2,hb,G9];exact k⟩
  ·rename_i n1 n2
   unfold Z3 at hr;rw [hx] at hr;simp only at hr
   exact absurd hr (by simp)
 case h_14 t x hx=>unfold Z3 at hr;rw [hx] at hr;simp at hr
 case h_15 fn first captured hx=>exact ⟨_,H,λh' _ K' k=>by unfold Ep;rw [hx];exact k⟩
 case h_17 t l c hx=>unfold Z3 at hr;rw [hx] at hr;simp at hr
 case h_18 t x lo hi mx hx=>
  split at H
  ·exact H.elim
  ·rename_i hm
   obtain ⟨v,H,f⟩:=Jo H
   exact ⟨v,H,λh' _ K' k=>by unfold Ep;rw [hx];simp only [hm];exact f (λv=>K' v h') k⟩
 case h_19 t x f hx=>
  split at H
  ·rename_i fields hu
   split at H
   ·rename_i fd hf
    split at H
    ·rename_i hh
     obtain ⟨a,ha,H⟩:=V1 H
     exact ⟨_,H,λh' _ K' k=>by unfold Ep;rw [hx];simp only [hu,hf,if_pos hh,ha,E5];exact k⟩
    ·exact H.elim
   ·exact H.elim
  ·exact H.elim
 case h_20 t x f hx=>
  split at H
  ·rename_i fields hu
   split at H
   ·rename_i fd hf
    obtain ⟨cs,ha,H⟩:=Ab H
    unfold EB at H
    split at H
    ·rename_i v hv
     split at H
     ·rename_i hth
      exact ⟨_,H,λh' _ K' k=>by unfold Ep;rw [hx];simp only [hu,hf,ha,asAgg,EB,hv,if_pos hth];exact k⟩
     ·exact H.elim
    ·exact H.elim
   ·exact H.elim
  ·exact H.elim
 case h_21 t x i hx=>
  split at H
  ·rename_i elem hu
   obtain ⟨a,len,cap,ha,H⟩:=N1 H
   obtain ⟨k,n,hi,h0,h1,H⟩:=Bi H
   obtain ⟨ad,had,H⟩:=V1 H
   cases had
   split at H
   ·rename_i hth
    exact ⟨_,H,λh' _ K' k=>by unfold Ep;rw [hx];simp only [hu,ha,C8,hi,Gv,E5,if_pos hth];exact ⟨h0,h1,k⟩⟩
   ·exact H.elim
  ·rename_i len elem hu
   obtain ⟨a,ha,H⟩:=V1 H
   obtain ⟨k,n,hi,h0,h1,H⟩:=Bi H
   split at H
   ·rename_i hth
    exact ⟨_,H,λh' _ K' k=>by unfold Ep;rw [hx];simp only [hu,ha,E5,hi,Gv,if_pos hth];exact ⟨h0,h1,k⟩⟩
   ·exact H.elim
  ·exact H.elim
 case h_22 t x i hx=>
  split at H
  ·rename_i hu
   obtain ⟨s,ha,H⟩:=L0 H
   obtain ⟨k,n,hi,h0,h1,H⟩:=Bi H
   exact ⟨_,H,λh' _ K' k=>by unfold Ep;rw [hx];simp only [hu,ha,G9,hi,Gv];exact ⟨h0,h1,k⟩⟩
  ·rename_i len elem hu
   obtain ⟨cs,ha,H⟩:=Ab H
   obtain ⟨k,n,hi,h0,h1,H⟩:=Bi H
   unfold EB at H
   split at H
   ·rename_i v hv
    split at H
    ·rename_i hth
     exact ⟨_,H,λh' _ K' k=>by unfold Ep;rw [hx];simp only [hu,ha,asAgg,hi,Gv,EB,hv,if_pos hth];exact ⟨h0,h1,k⟩⟩
    ·exact H.elim
   ·exact H.elim
  ·exact H.elim
 case h_23 t x i ok hx=>unfold Z3 at hr;rw [hx] at hr;simp at hr
 case h_25 x i hx=>
  obtain ⟨vs,ha,H⟩:=IH H
  unfold D2 at H
  split at H
  ·rename_i v hv
   exact ⟨_,H,λh' _ K' k=>by unfold Ep;rw [hx];simp only [ha,J6,D2,hv];exact k⟩
  ·exact H.elim
 case h_26 b args argTypes hx=>
  have hb:b=.len:=by
   cases b <;> first | rfl | exact absurd hr (by unfold Z3;rw [hx];simp)
  subst hb
  unfold Z3 at hr;rw [hx] at hr;simp only at hr
  split at hr
  ·rename_i t x h1 h2
   unfold Aq at H
   rw [h2] at H
   simp only [List.map_cons,List.map_nil,h1] at H
   split at H
   ·rename_i e hu
    obtain ⟨a,n,c,ha,H⟩:=N1 H
    exact ⟨_,H,λh' _ K' k=>by unfold Ep;rw [hx];simp only [Aq,h2,List.map_cons,List.map_nil,h1,hu,ha,C8];exact k⟩
   ·rename_i hu
    obtain ⟨a,ha,H⟩:=L0 H
    exact ⟨_,H,λh' _ K' k=>by unfold Ep;rw [hx];simp only [Aq,h2,List.map_cons,List.map_nil,h1,hu,ha,G9];exact k⟩
   ·rename_i e1 e2 hu;rw [hu] at hr;simp at hr
   ·rename_i n e hu
    exact ⟨_,H,λh' _ K' k=>by unfold Ep;rw [hx];simp only [Aq,h2,List.map_cons,List.map_nil,h1,hu];exact k⟩
   ·exact H.elim
  ·exact absurd hr (by simp)
 case h_27 f args argTypes hx=>unfold Z3 at hr;rw [hx] at hr;simp at hr
 case h_28=>exact H.elim
 case h_29=>
  exfalso
  unfold Z3 at hr
  split at hr <;> rename_i hx <;> first
   | (exact absurd hr (by decide))
   | solve_by_elim
end
end
section
section
variable {P:Program} {ops:Array Oper}
theorem Cm {v:Value} {F F':Addr->Prop} (f:∀a,F a->F' a) (H:E5 v F):E5 v F':=by obtain ⟨a,rfl,H2⟩:=V1 H;exact f a H2
theorem As {v:Value} {F F':Option Addr->Prop} (f:∀a,F a->F' a) (H:C2 v F):C2 v F':=by obtain ⟨a,rfl,H2⟩:=X3 H;exact f a H2
theorem T6 {k:IntKind} {v:Value} {F F':Int->Prop} (f:∀a,F a->F' a) (H:asInt k v F):asInt k v F':=by obtain ⟨a,rfl,H2⟩:=L5 H;unfold asInt;simp only [if_true];exact f a H2
theorem EF {v:Value} {F F':Int->Prop} (f:∀a,F a->F' a) (H:Gv v F):Gv v F':=by obtain ⟨k,a,rfl,H2⟩:=Bi H;exact f a H2
theorem At {v:Value} {F F':Bool->Prop} (f:∀a,F a->F' a) (H:asBool v F):asBool v F':=by obtain ⟨a,rfl,H2⟩:=M9 H;exact f a H2
theorem X6 {v:Value} {F F':ByteArray->Prop} (f:∀a,F a->F' a) (H:G9 v F):G9 v F':=by obtain ⟨a,rfl,H2⟩:=L0 H;exact f a H2
theorem AJ {v:Value} {F F':Option Addr->Nat->Nat->Prop} (f:∀a b c,F a b c->F' a b c) (H:C8 v F):C8 v F':=by obtain ⟨a,b,c,rfl,H2⟩:=N1 H;exact f a b c H2
theorem Hl {v:Value} {F F':Array Value->Prop} (f:∀a,F a->F' a) (H:asAgg v F):asAgg v F':=by obtain ⟨a,rfl,H2⟩:=Ab H;exact f a H2
theorem UK {v:Value} {F F':Array Value->Prop} (f:∀a,F a->F' a) (H:J6 v F):J6 v F':=by obtain ⟨a,rfl,H2⟩:=IH H;exact f a H2
theorem EV {v:Value} {F F':Option Nat->Prop} (f:∀a,F a->F' a) (H:Cd v F):Cd v F':=by obtain ⟨a,rfl,H2⟩:=EC H;exact f a H2
theorem Ib {v:Value} {F F':Bool->Prop} (f:∀a,F a->F' a) (H:V7 v F):V7 v F':=by unfold V7 at *;split at H <;> first | exact f _ H | exact H.elim
theorem Qw {b:Bool} {X Y X' Y':Prop} (f:X->X') (g:Y->Y') (H:D0 b X Y):D0 b X' Y':=by cases b <;> first | exact f H | exact g H
theorem Au {c:Prop} [Decidable c] {X X':Prop} (f:c->X->X') (H:if c then X else False):if c then X' else False:=by split <;> simp_all
theorem IM {c:Prop} [Decidable c] {X X':Prop} (f:¬c->X->X') (H:if c then False else X):if c then False else X':=by split <;> simp_all
theorem Jp {t:TypeId} {v:Value} {F F':List Value->Prop} (f:∀a,F a->F' a) (H:Dm P t v F):Dm P t v F':=(DM H).2 _ (f _ (DM H).1)
theorem Hm {place:Nat->Option (Nat × TypeId)} {parts:List (Nat × Value)} {cells:List Value} {F F':List Value->Prop} (f:∀a,F a->F' a) (H:Ft P place cells parts F):Ft P place cells parts F':=by
 obtain ⟨cs,h1,h2⟩:=Hj _ _ _ H;exact h2 _ (f _ h1)
theorem FK {h:A2} {a:Addr} {F F':Value->Prop} (f:∀v,F v->F' v) (H:D1 h a F):D1 h a F':=by unfold D1 at *;split <;> simp_all
theorem KH {h:A2} {a:Addr} (n:Nat):∀ {i:Nat} {acc:List Value} {F F':List Value->Prop},(∀v,F v->F' v)->XA h a i n acc F->XA h a i n acc F':=by
 induction n with
 | zero=>intro i acc F F' f H;exact f _ H
 | succ n ih=>intro i acc F F' f H;exact FK (λv=>ih f) H
theorem Sm0 {a:Addr} (vs:List Value):∀ {h:A2} {i:Nat} {F F':A2->Prop},(∀v,F v->F' v)->NX h a i vs F->NX h a i vs F':=by
 induction vs with
 | nil=>intro h i F F' f H;exact f _ H
 | cons v vs ih=>intro h i F F' f H;exact Dg (λ⟨a,b,c⟩=>⟨a,b,ih f c⟩) H
theorem Qx {cs:Array Value} {F F':List Value->Prop} (f:∀v,F v->F' v):∀(n i:Nat) (acc:List Value),CH cs n i acc F->CH cs n i acc F':=by
 intro n
 induction n with
 | zero=>intro i acc H;exact f _ H
 | succ n ih=>
  intro i acc H
  have H':D2 cs i (λv=>CH cs n (i+1) (v :: acc) F):=H
  show D2 cs i (λv=>CH cs n (i+1) (v :: acc) F')
  unfold D2 at *
  split at H'
  ·exact ih _ _ H'
  ·exact H'.elim
theorem MZ {n:Nat} {v:Value} {F F':Value->Prop} (f:∀v,F v->F' v) (H:Ut n v F):Ut n v F':=by
 unfold Ut at *
 split at H
 ·refine Hl (λcs H=>?_) H
  unfold G0 at *
  split at H
  ·exact Qx (λ_=>f _) _ _ _ H
  ·exact H.elim
 ·exact f _ H
theorem Jq {P:Program} {t:TypeId} {v:Value} {F F':Value->Prop} (f:∀v,F v->F' v) (H:Hc P t v F):Hc P t v F':=by
 unfold Hc at *
 split
 ·exact At (λ_=>f _) (by simp_all)
 ·exact T6 (λ_=>f _) (by simp_all)
 ·exact X6 (λ_=>f _) (by simp_all)
 ·exact AJ (λ_ _ _=>f _) (by simp_all)
 ·exact As (λ_=>f _) (by simp_all)
 ·exact EV (λ_=>f _) (by simp_all)
 ·exact MZ f (by simp_all)
 ·exact MZ f (by simp_all)
 ·split at H <;> first | exact f _ H | simp_all
theorem Sm1 {P:Program} {o:Oper} {v:Value} {F F':Value->Prop} (f:∀v,F v->F' v) (H:tyO P o v F):tyO P o v F':=by
 unfold tyO at *
 split at H
 ·exact f _ H
 ·exact f _ H
 ·exact Jq f H
theorem Hn {v:Value} {args:Array Value} {h:A2} {K K':kQ} (hk:∀v h',K v h'->K' v h') (H:AQ P v args h K):AQ P v args h K':=by
 have ho:∀(w0:World) e w,Xz w0 K e w->Xz w0 K' e w:=by intro w0 e w x;cases e <;> first | exact x | exact ⟨hk _ _ x.1,x.2⟩
 unfold AQ at *
 split at H
 ·exact ⟨H.1,λw hw=>(H.2 w hw).mono (ho w)⟩
 ·intro w hw
  obtain ⟨fn,t,a,b,h1,h2⟩:=H w hw
  exact ⟨fn,t,a,b,h1,h2.mono (ho w)⟩
 ·exact H.elim
theorem YN {v:Value} {args:Array Value} {h:A2} {K K':kQ} (hk:∀v h',K v h'->K' v h') (H:Ke P v args h K):Ke P v args h K':=by
 unfold Ke at *
 split at H
 ·exact V8 (λnx h' x=>by cases nx <;> first | exact hk _ _ x | exact x.elim) H
 ·exact H.elim
theorem KI {f:Int->Int->Int} {k:IntKind} (ys:List Value):∀ {a:Int} {F F':Int->Prop},(∀n,F n->F' n)->O4.go f k a ys F->O4.go f k a ys F':=by
 induction ys with
 | nil=>intro a F F' g H;exact g _ H
 | cons y ys ih=>intro a F F' g H;exact T6 (λb x=>ih g x) H
theorem Jr {f:Int->Int->Int} {t:TypeId} (xs:List Value) {F F':Int->Prop} (g:∀n,F n->F' n) (H:O4 f P t xs F):O4 f P t xs F':=by
 cases xs with
 | nil=>exact H
 | cons x xs=>cases xs with
  | nil=>
   simp only [O4] at *
   split <;> rename_i hk <;> rw [hk] at H
   ·exact T6 g H
   ·exact H
  | cons y ys=>
   simp only [O4] at *
   split <;> rename_i hk <;> rw [hk] at H
   ·exact T6 (λa x=>KI _ g x) H
   ·exact H
theorem Av {ρ:Operand->Value} {o:Oper} {h:A2} {K K':kQ} (hk:∀v h',K v h'->K' v h') (H:NZ P ρ o h K):NZ P ρ o h K':=by
 refine V8 ?_ H
 intro nx h' x
 cases nx <;> first
  | exact hk _ _ x
  | exact x
  | (intro w hw;refine (x w hw).mono ?_;intro e w y;cases e <;> first | exact y | exact ⟨hk _ _ y.1,y.2⟩)
theorem UL {k:IntKind} {op:BinOp} {a b:Int} {G G':Value->Prop} (g:∀v,G v->G' v) (H:Jl k op a b G):Jl k op a b G':=by
 obtain ⟨v,h1,h2⟩:=KG H;exact h2 _ (g _ h1)
theorem Na {k:IntKind} {op:BinOp} {a b:Int} {G G':Value->Prop} (g:∀v,G v->G' v) (H:Qc k op a b G):Qc k op a b G':=by
 obtain ⟨v,h1,h2⟩:=IL H;exact h2 _ (g _ h1)
theorem GA {t:TypeId} {x y:Value} {F F':Bool->Prop} (g:∀v,F v->F' v) (H:GL P t x y F):GL P t x y F':=by
 obtain ⟨v,h1,h2⟩:=EE H;exact h2 _ (g _ h1)
theorem YO {op:BinOp} {xt yt:TypeId} {x y:Operand} {ρ:Operand->Value} {o:Oper} {h:A2} {K K':kQ} (hk:∀v h',K v h'->K' v h')
  (H:Kf P op xt yt x y ρ o h K):Kf P op xt yt x y ρ o h K':=by
 unfold Kf at *
 split at H
 ·split at H
  ·split at H
   ·exact T6 (λ_=>T6 λ_=>Na λv=>hk v _) H
   ·exact H
  ·split at H
   ·exact T6 (λ_=>T6 λ_=>Na λv=>hk v _) H
   ·exact H
  ·exact T6 (λ_=>T6 λ_=>UL λv=>hk v _) H
 ·split at H
  ·exact At (λ_=>At λ_=>hk _ _) H
  ·exact At (λ_=>At λ_=>hk _ _) H
  ·exact H
 ·split at H
  ·exact X6 (λ_=>X6 λ_=>hk _ _) H
  ·exact X6 (λ_=>X6 λ_=>hk _ _) H
  ·exact X6 (λ_=>X6 λ_ x=>⟨x.1,hk _ _ x.2⟩) H
  ·exact Av hk H
 ·split at H
  ·exact As (λ_=>hk _ _) H
  ·exact As (λ_=>hk _ _) H
  ·exact As (λ_=>As λ_=>V8 hk) H
  ·exact As (λ_=>As λ_=>V8 hk) H
  ·exact Av hk H
 ·split at H
  ·exact AJ (λ_ _ _=>hk _ _) H
  ·exact AJ (λ_ _ _=>hk _ _) H
  ·exact Av hk H
 ·split at H
  ·exact EV (λ_=>hk _ _) H
  ·exact EV (λ_=>hk _ _) H
  ·exact Av hk H
 ·split at H
  ·exact Ib (λ_=>hk _ _) H
  ·exact Ib (λ_=>hk _ _) H
  ·exact Av hk H
 ·split at H
  ·exact GA (λ_=>hk _ _) H
  ·exact GA (λ_=>hk _ _) H
  ·exact H
 ·split at H
  ·exact GA (λ_=>hk _ _) H
  ·exact GA (λ_=>hk _ _) H
  ·exact H
 ·exact Av hk H
theorem Mi {b:Builtin} {argTypes:Array TypeId} {t:TypeId} {args:List Value} {ρ:Operand->Value} {o:Oper} {h:A2} {K K':kQ} (hk:∀v h',K v h'->K' v h')
  (H:Aq P b argTypes t args ρ o h K):Aq P b argTypes t args ρ o h K':=by
 unfold Aq at *
 split at H
 ·split at H
  ·split at H
   ·exact AJ (λ_ _ _=>hk _ _) H
   ·exact X6 (λ_=>hk _ _) H
   ·refine EV (λr x=>?_) H
    unfold Sk6 at *
    cases r with
    | none=>exact hk _ _ x
    | some r=>simp only at *;split at x <;> first | exact hk _ _ x | exact x
   ·exact hk _ _ H
   ·exact H
  ·exact H
 ·split at H
  ·split at H
   ·exact AJ (λ_ _ _=>hk _ _) H
   ·exact H
  ·exact H
 ·exact V8 hk H
 ·exact V8 hk H
 ·exact V8 hk H
 ·exact V8 hk H
 ·exact V8 hk H
 ·exact V8 hk H
 ·split at H
  ·exact Jr _ (λ_=>hk _ _) H
  ·exact Av hk H
 ·split at H
  ·exact Jr _ (λ_=>hk _ _) H
  ·exact Av hk H
 ·exact Av hk H
theorem Qy {t:TypeId} {x:Value} {lo hi mx:Option Value} {G G':Value->Prop} (g:∀v,G v->G' v) (H:FE P t x lo hi mx G):FE P t x lo hi mx G':=by
 obtain ⟨n,h1,h2⟩:=Jo H;exact h2 _ (g _ h1)
theorem Ic {ρ:Operand->Value} {o:Oper} {h:A2} {K K':kQ} (hk:∀v h',K v h'->K' v h') (H:Ep P ρ o h K):Ep P ρ o h K':=by
 unfold Ep at *
 split at H
 case h_1 | h_2 | h_15 | h_16=>exact hk _ _ H
 case h_3=>exact At (λ_=>Qw (hk _ _) (hk _ _)) H
 case h_4=>split at H <;> first | exact hk _ _ H | exact H
 case h_5=>exact Jp (λ_=>hk _ _) H
 case h_6=>
  refine Au (λ_ x=>?_) H
  split at x
  ·exact IM (λ_=>Hm λ_=>hk _ _) x
  ·exact IM (λ_=>Hm λ_=>hk _ _) x
  ·exact x
 case h_7=>
  split at H
  ·exact Au (λ_=>Hm λ_=>hk _ _) H
  ·exact H
 case h_8=>
  refine Cm (λa=>Au λ_ x=>?_) H
  split at x <;> rename_i ha
  ·rw [if_pos ha];exact KH _ (λ_=>hk _ _) x
  ·rw [if_neg ha];exact FK (λ_=>hk _ _) x
 case h_9=>exact Cm (λa=>Jp λcs=>Au λ_=>Sm0 _ λ_=>hk _ _) H
 case h_10=>unfold B4 at *;split at H <;> first | exact H | exact hk _ _ H
 case h_11=>exact YO hk H
 case h_12=>
  split at H
  ·exact At (λ_=>hk _ _) H
  ·exact T6 (λ_=>hk _ _) H
  ·exact Av hk H
 case h_13=>
  split at H
  ·exact T6 (λ_=>hk _ _) H
  ·exact X6 (λ_=>hk _ _) H
  ·exact V8 hk H
 case h_14=>split at H <;> first | exact H | exact hk _ _ H
 case h_17=>
  split at H
  ·exact EF (λ_=>EF λ_=>Au λ_ x=>⟨x.1,x.2.1,x.2.2.1,x.2.2.2.1,hk _ _ x.2.2.2.2⟩) H
  ·exact H
 case h_18=>exact IM (λ_=>Qy λ_=>hk _ _) H
 case h_19=>
  split at H
  ·split at H
   ·exact Au (λ_=>Cm λ_=>hk _ _) H
   ·exact H
  ·exact H
 case h_20=>
  split at H
  ·split at H
   ·refine Hl (λcs x=>?_) H
    unfold EB at *
    split at x
    ·exact Au (λ_=>hk _ _) x
    ·exact x
   ·exact H
  ·exact H
 case h_21=>
  split at H
  ·exact AJ (λa l c=>EF λn x=>⟨x.1,x.2.1,Cm (λ_=>Au λ_=>hk _ _) x.2.2⟩) H
  ·exact Cm (λa=>EF λn x=>⟨x.1,x.2.1,Au (λ_=>hk _ _) x.2.2⟩) H
  ·exact H
 case h_22=>
  split at H
  ·exact X6 (λa=>EF λn x=>⟨x.1,x.2.1,hk _ _ x.2.2⟩) H
  ·refine Hl (λa=>EF λn x=>⟨x.1,x.2.1,?_⟩) H
   have y:=x.2.2
   unfold EB at *
   split at y
   ·exact Au (λ_=>hk _ _) y
   ·exact y
  ·exact H
 case h_23=>exact V8 hk H
 case h_24=>exact V8 (λ_ h'=>hk _ _) H
 case h_25=>exact UK (λvs x=>by unfold D2 at *;split at x <;> first | exact hk _ _ x | exact x) H
 case h_26=>exact Mi hk H
 case h_27=>
  split at H
  ·exact YN hk H
  ·exact Hn hk H
 case h_28=>exact H.elim
 case h_29=>exact Av hk H
def UM (P:Program) (ops:Array Oper) (K:F8->A2->Prop):Nat->(Nat->A2->Prop)->Array Bool->F8->A2->Prop
 | 0,_,listed,ρ,h=>Region.ready .any ops listed = []/\K ρ h
 | n+1,obl,listed,ρ,h=>(Region.ready .any ops listed = []->K ρ h) /\
  ∀i ∈ Region.ready .any ops listed,pstep P ops i ρ h λρ' h'=>(h' = h\/obl i h')/\UM P ops K n obl (listed.setIfInBounds i true) ρ' h'
theorem KJ {i:Nat} {ρ:F8} {h:A2} {K K':F8->A2->Prop} (hk:∀ρ h,K ρ h->K' ρ h) (H:pstep P ops i ρ h K):pstep P ops i ρ h K':=by
 unfold pstep at *
 split
 ·simp_all
 ·rename_i o ho
  rw [ho] at H
  simp only at H
  split
  ·rename_i hw;rw [if_pos hw] at H;exact Ic (λv h'=>hk _ _) H
  ·rename_i hw;rw [if_neg hw] at H;exact hk _ _ H
theorem IN {K:F8->A2->Prop} (n:Nat):∀ {obl obl':Nat->A2->Prop} {listed:Array Bool} {ρ:F8} {h:A2},(∀i h,obl i h->obl' i h)->UM P ops K n obl listed ρ h->UM P ops K n obl' listed ρ h:=by
 induction n with
 | zero=>intro _ _ _ _ _ _ H;exact H
 | succ n ih=>intro obl obl' listed ρ h hh H;exact ⟨H.1,λi hi=>KJ (λρ h x=>⟨x.1.imp id (hh _ _),ih hh x.2⟩) (H.2 i hi)⟩
def FL (ops:Array Oper) (listed:Array Bool):Prop:=
 ∀k o,listed.getD k false=true->ops[k]? = some o->∀e ∈ o.after,Region.binds .any e=true->listed.getD e.on false=true
theorem FL.set {listed:Array Bool} {i:Nat} (hc:FL ops listed) (hi:i ∈ Region.ready .any ops listed):FL ops (listed.setIfInBounds i true):=by
 intro k o hk ho e he hb
 by_cases hki:k=i
 ·subst hki
  obtain ⟨_,o',ho',hall⟩:=mem_ready.1 hi
  rw [ho] at ho';cases ho'
  exact getD_set_true (hall e he hb)
 ·rw [getD_set_ne false (Ne.symm hki)] at hk
  exact getD_set_true (hc k o hk ho e he hb)
theorem Oj {listed:Array Bool} (hc:FL ops listed) (n:Nat):∀(k i:Nat),listed.getD k false=true->R8 ops n k i=true->listed.getD i false=true:=by
 induction n with
 | zero=>intro k i _ h;simp [R8] at h
 | succ n ih=>
  intro k i hk h
  unfold R8 at h
  split at h
  ·cases h
  ·rename_i o ho
   obtain ⟨e,he,hb⟩:=Array.any_eq_true'.1 h
   simp only [Bool.and_eq_true,Bool.or_eq_true,beq_iff_eq] at hb
   have h1:=hc k o hk ho e he hb.1
   rcases hb.2 with h2 | h2
   ·rw [<- h2];exact h1
   ·exact ih _ _ h1 h2
theorem Qz {listed:Array Bool} (hc:FL ops listed) {n k i:Nat} (hk:k ∈ Region.ready .any ops listed) (hi:listed.getD i false=false):R8 ops n k i=false:=by
 cases hw:R8 ops n k i with
 | false=>rfl
 | true=>
  exfalso
  cases n with
  | zero=>simp [R8] at hw
  | succ n=>
   unfold R8 at hw
   split at hw
   ·cases hw
   ·rename_i o ho
    obtain ⟨_,o',ho',hall⟩:=mem_ready.1 hk
    rw [ho] at ho';cases ho'
    obtain ⟨e,he,hb⟩:=Array.any_eq_true'.1 hw
    simp only [Bool.and_eq_true,Bool.or_eq_true,beq_iff_eq] at hb
    have h1:=hall e he hb.1
    rcases hb.2 with h2 | h2
    ·rw [h2,hi] at h1;cases h1
    ·rw [Oj hc n _ _ h1 h2] at hi;cases hi
def CX (L:List (Addr × Value)) (h:A2):Prop:=∀x ∈ L,A3 h x.1=some x.2
def CY (P:Program) (ops:Array Oper) (L:List (Addr × Value)) (o:Oper) (v:Value) (ρ:F8):Prop:=
 (ED ops ρ o.guard=true/\UJ P (KD ρ) o L v)\/(ED ops ρ o.guard=false/\v=AR)
theorem CY.pstep {L:List (Addr × Value)} {o:Oper} {v:Value} {ρ:F8} {i:Nat} {h:A2} {K:F8->A2->Prop} (hy:CY P ops L o v ρ) (hi:ops[i]? = some o) (hL:CX L h)
  (H:K (BD ρ o.dst v) h):pstep P ops i ρ h K:=by
 unfold Proofs.YtahpbclnkofhfaaGreat.pstep;rw [hi];simp only
 rcases hy with ⟨hw,hr⟩ | ⟨hw,rfl⟩
 ·rw [if_pos hw];exact hr h hL _ H
 ·rw [if_neg (by simp [hw])];exact H
theorem UJ.put {L:List (Addr × Value)} {o:Oper} {v:Value} {ρ:F8} {d:Option Nat} {u:Value} (hp0:AI o=true) (hd:∀j,d=some j->j ∉ o.looksAt ops)
 (hr:UJ P (KD ρ) o L v):UJ P (KD (BD ρ d u)) o L v:=λh hL K hk=>by rw [XH (ops:=ops) hp0 hd];exact hr h hL K hk
theorem CY.put {L:List (Addr × Value)} {o:Oper} {v:Value} {ρ:F8} {d:Option Nat} {u:Value} (hp0:AI o=true) (hd:∀j,d=some j->j ∉ o.looksAt ops)
  (hy:CY P ops L o v ρ):CY P ops L o v (BD ρ d u):=by
 unfold CY
 rw [MX hd]
 exact hy.imp (λ⟨a,b⟩=>⟨a,b.put hp0 hd⟩) id
theorem YP {L:List (Addr × Value)} {oi oj:Oper} {v:Value} {ρ:F8} {j:Nat} {h:A2} {K:F8->A2->Prop} (hj:ops[j]? = some oj) (hap:oi.apart ops oj=true)
  (hpi:AI oi=true) (hpj:AI oj=true) (hy:CY P ops L oi v ρ) (H:pstep P ops j (BD ρ oi.dst v) h K) :
  pstep P ops j ρ h λρ' h'=>CY P ops L oi v ρ'/\K (BD ρ' oi.dst v) h':=by
 obtain ⟨h1,h2,h3⟩:=Oper.apart_spec hap
 unfold pstep at *
 rw [hj] at *
 simp only at H ⊢
 rw [MX h1] at H
 split
 ·rename_i hw
  rw [if_pos hw,XH (ops:=ops) hpj h1] at H
  refine Ic (λu h' x=>⟨hy.put hpi h3,?_⟩) H
  rw [MY ρ v u h2] at x;exact x
 ·rename_i hw
  rw [if_neg hw] at H
  refine ⟨hy.put hpi h3,?_⟩
  rw [MY ρ v AR h2] at H;exact H
theorem KK {K:F8->A2->Prop} {L:List (Addr × Value)} {i:Nat} {oi:Oper} {v:Value} (hi:ops[i]? = some oi) (hp0:∀(j:Nat) (o:Oper),ops[j]? = some o->AI o=true) (fuel:Nat) :
  ∀(obl:Nat->A2->Prop) (listed:Array Bool) (ρ:F8) (h:A2),
   (∀j oj,ops[j]? = some oj->j≠i->listed.getD j true=false->(∀e ∈ oj.after,Region.binds .any e=true->e.on≠i)->oi.apart ops oj=true) ->
   FL ops listed->i ∈ Region.ready .any ops listed->CY P ops L oi v ρ->CX L h ->
   UM P ops K fuel (λe h'=>((∀m,R8 ops m e i=false)->CX L h')/\obl e h') (listed.setIfInBounds i true) (BD ρ oi.dst v) h->UM P ops K (fuel+1) obl listed ρ h:=by
 induction fuel with
 | zero=>
  intro obl listed ρ h _ hcl hr hy hL H
  refine ⟨λe=>(by rw [e] at hr;cases hr),λj hj=>?_⟩
  by_cases hji:j=i
  ·subst hji;exact hy.pstep hi hL ⟨.inl rfl,H⟩
  ·have:=ready_mono hj hji
   rw [H.1] at this
   cases this
 | succ fuel ih=>
  intro obl listed ρ h hfree hcl hr hy hL H
  refine ⟨λe=>(by rw [e] at hr;cases hr),λj hj=>?_⟩
  by_cases hji:j=i
  ·subst hji;exact hy.pstep hi hL ⟨.inl rfl,IN _ (λ_ _ x=>x.2) H⟩
  ·have h1:=H.2 j (ready_mono hj hji)
   obtain ⟨hjun,oj,hoj,hall⟩:=mem_ready.1 hj
   have hiun:listed.getD i false=false:=by
    have h0:=(mem_ready.1 hr).1
    rcases Nat.lt_or_ge i listed.size with h' | h'
    ·simp [h'] at h0 ⊢;exact h0
    ·simp [Array.getElem?_eq_none h']
   have hnot:∀e ∈ oj.after,Region.binds .any e=true->e.on≠i:=λe he hb heq=>by
    have h1:=hall e he hb
    rw [heq,hiun] at h1;cases h1
   have h2:=YP hoj (hfree j oj hoj hji hjun hnot) (hp0 i oi hi) (hp0 j oj hoj) hy h1
   have hfree':∀k ok,ops[k]? = some ok->k≠i->(listed.setIfInBounds j true).getD k true=false ->
     (∀e ∈ ok.after,Region.binds .any e=true->e.on≠i)->oi.apart ops ok=true:=λk ok hk hki hun hno=>by
    refine hfree k ok hk hki ?_ hno
    by_cases hjk:j=k
    ·subst hjk;exact hjun
    ·rw [getD_set_ne true hjk] at hun;exact hun
   refine KJ (λρ' h' x=>?_) h2
   obtain ⟨hy',hx,hany⟩:=x
   have hL':CX L h':=by
    rcases hx with rfl | hx
    ·exact hL
    ·exact hx.1 (λm=>Qz hcl hj hiun)
   refine ⟨hx.imp id (λx=>x.2),ih obl (listed.setIfInBounds j true) ρ' h' hfree' (hcl.set hj) (ready_mono hr (Ne.symm hji)) hy' hL' ?_⟩
   rw [Array.setIfInBounds_comm _ _ hji]
   exact hany
end
end
section
section
variable {P:Program} {ops:Array Oper}
theorem Sm2 {h:A2} {a:Addr} (n:Nat):∀ {i:Nat} {acc:List Value} {L:List (Addr × Value)} {F:List Value->List (Addr × Value)->Prop},SP1 h a i n acc L F ->
  ∃cs L',F cs (L.reverse ++ L')/\CX L' h/\∀h2,CX L' h2->∀G:List Value->Prop,G cs->XA h2 a i n acc G:=by
 induction n with
 | zero=>
  intro i acc L F H
  refine ⟨acc.reverse,[],?_,λx hx=>(by cases hx),λh2 _ G g=>g⟩
  have H2:F acc.reverse L.reverse:=H
  simpa using H2
 | succ n ih=>
  intro i acc L F H
  obtain ⟨v,hv,H⟩:=HS H
  obtain ⟨cs,L',h1,h2,h3⟩:=ih H
  refine ⟨cs,(a.add i,v) :: L',by simpa using h1,?_,?_⟩
  ·intro x hx
   rcases List.mem_cons.1 hx with rfl | hx
   ·exact hv
   ·exact h2 x hx
  ·intro h4 hL G g
   have e:A3 h4 (a.add i)=some v:=hL (a.add i,v) (by simp)
   show D1 h4 (a.add i) _
   unfold D1;rw [e]
   exact h3 h4 (λx hx=>hL x (by simp [hx])) G g
theorem Sm3 {ρ:Operand->Value} {o:Oper} {h:A2} {F:Value->List (Addr × Value)->Prop} (hr:Z3 P o=true) (H:SP2 P ρ o h F) :
  ∃v L,UJ P ρ o L v/\CX L h/\F v L:=by
 unfold SP2 at H
 split at H
 ·rename_i t x hx
  obtain ⟨a,ha,H⟩:=V1 H
  split at H
  ·rename_i hth
   split at H
   ·rename_i hagg
    obtain ⟨cs,L',h1,h2,h3⟩:=Sm2 _ H
    refine ⟨_,L',?_,h2,by simpa using h1⟩
    intro h4 hL K hk
    unfold Ep;rw [hx];simp only [ha,E5,if_pos hth,if_pos hagg]
    exact h3 h4 hL _ hk
   ·rename_i hagg
    obtain ⟨v,hv,H⟩:=HS H
    refine ⟨v,[(a,v)],?_,λx hx=>by simp at hx;subst hx;exact hv,H⟩
    intro h4 hL K hk
    have e:A3 h4 a=some v:=hL (a,v) (by simp)
    unfold Ep;rw [hx];simp only [ha,E5,if_pos hth,if_neg hagg,D1,e]
    exact hk
  ·exact H.elim
 ·rename_i hn
  obtain ⟨v,h1,h2⟩:=Sl9 (G:=λv=>F v []) hr (λt x e=>hn t x e) H
  exact ⟨v,[],h2,λx hx=>(by cases hx),h1⟩
def XI (ops:Array Oper) (held:Sl1) (e:Nat) (h:A2):Prop:=∀x ∈ held,(∀m,R8 ops m e x.1=false)->CX x.2 h
theorem UN {h:A2} {X:Prop} (L:List (Addr × Value)) (H:Uz h L X):CX L h/\X:=by
 induction L with
 | nil=>exact ⟨λx hx=>(by cases hx),H⟩
 | cons p L ih=>
  obtain ⟨h1,h2⟩:=ih H.2
  refine ⟨λx hx=>?_,h2⟩
  rcases List.mem_cons.1 hx with rfl | hx
  ·exact H.1
  ·exact h1 x hx
theorem UO {k j:Nat} {o:Oper} (ho:ops[k]? = some o) (hj:j ∈ Gy o):∀(m e:Nat),R8 ops m e k=true->R8 ops (m+1) e j=true:=by
 have edge:R8 ops 1 k j=true:=by
  unfold Gy at hj
  obtain ⟨ed,hed,he⟩:=List.mem_filterMap.1 hj
  unfold R8
  rw [ho]
  refine Array.any_eq_true'.2 ⟨ed,by simpa using hed,?_⟩
  cases hb:Region.binds .any ed with
  | false=>rw [hb] at he;cases he
  | true=>rw [hb] at he;cases he;simp
 have up:∀(m e i:Nat),R8 ops m e i=true->R8 ops (m+1) e i=true:=by
  intro m
  induction m with
  | zero=>intro e i h;simp [R8] at h
  | succ m ih=>
   intro e i h
   unfold R8 at h ⊢
   split at h
   ·cases h
   ·obtain ⟨ed,hed,hb⟩:=Array.any_eq_true'.1 h
    refine Array.any_eq_true'.2 ⟨ed,hed,?_⟩
    simp only [Bool.and_eq_true,Bool.or_eq_true] at hb ⊢
    exact ⟨hb.1,hb.2.imp id (ih _ _)⟩
 intro m
 induction m with
 | zero=>intro e h;simp [R8] at h
 | succ m ih=>
  intro e h
  unfold R8 at h ⊢
  split at h
  ·cases h
  ·obtain ⟨ed,hed,hb⟩:=Array.any_eq_true'.1 h
   refine Array.any_eq_true'.2 ⟨ed,hed,?_⟩
   simp only [Bool.and_eq_true,Bool.or_eq_true,beq_iff_eq] at hb ⊢
   refine ⟨hb.1,.inr ?_⟩
   rcases hb.2 with h2 | h2
   ·rw [h2]
    have:∀n,R8 ops (n+1) k j=true:=λn=>by
     induction n with
     | zero=>exact edge
     | succ n ih=>exact up _ _ _ ih
    exact this m
   ·exact ih _ h2
theorem KL {e k j:Nat} {o:Oper} (ho:ops[k]? = some o) (hj:j ∈ Gy o) (h:k=e\/∃m,R8 ops m e k=true):∃m,R8 ops m e j=true:=by
 rcases h with rfl | ⟨m,h⟩
 ·unfold Gy at hj
  obtain ⟨ed,hed,he⟩:=List.mem_filterMap.1 hj
  refine ⟨1,?_⟩
  unfold R8
  rw [ho]
  refine Array.any_eq_true'.2 ⟨ed,by simpa using hed,?_⟩
  cases hb:Region.binds .any ed with
  | false=>rw [hb] at he;cases he
  | true=>rw [hb] at he;cases he;simp
 ·exact ⟨m+1,UO ho hj m e h⟩
theorem Ol {e i:Nat}:∀(n:Nat) (st:List Nat) (vis:Nat),(∀k ∈ st,k=e\/∃m,R8 ops m e k=true)->FH ops i n st vis=true->∃m,R8 ops m e i=true:=by
 intro n
 induction n with
 | zero=>intro st vis _ h;simp [FH] at h
 | succ n ih=>
  intro st vis hst h
  cases st with
  | nil=>simp [FH] at h
  | cons k st=>
   unfold FH at h
   have hst':∀k ∈ st,k=e\/∃m,R8 ops m e k=true:=λx hx=>hst x (by simp [hx])
   split at h
   ·exact ih _ _ hst' h
   ·split at h
    ·exact ih _ _ hst' h
    ·rename_i o ho
     have hk:=hst k (by simp)
     split at h
     ·rename_i ha
      obtain ⟨j,hj,hji⟩:=List.any_eq_true.1 ha
      obtain rfl:=Nat.eq_of_beq_eq_true hji
      exact KL ho hj hk
     ·refine ih _ _ (λx hx=>?_) h
      rcases List.mem_append.1 hx with hx | hx
      ·exact .inr (KL ho hx hk)
      ·exact hst' x hx
theorem KM {e:Nat} {h:A2} {X:Prop} (held:Sl1) (H:II ops e h held X):XI ops held e h/\X:=by
 induction held with
 | nil=>exact ⟨λx hx=>(by cases hx),H⟩
 | cons p held ih=>
  obtain ⟨i,L⟩:=p
  unfold II at H
  split at H
  ·rename_i hw
   obtain ⟨h1,h2⟩:=ih H
   refine ⟨λx hx hx2=>?_,h2⟩
   rcases List.mem_cons.1 hx with rfl | hx
   ·obtain ⟨m,hm⟩:=Ol _ _ _ (λk hk=>.inl (by simpa using hk)) hw
    rw [hx2 m] at hm;cases hm
   ·exact h1 x hx hx2
  ·obtain ⟨h0,H⟩:=UN _ H
   obtain ⟨h1,h2⟩:=ih H
   refine ⟨λx hx hx2=>?_,h2⟩
   rcases List.mem_cons.1 hx with rfl | hx
   ·exact h0
   ·exact h1 x hx hx2
theorem QA {F:Nat->Prop}:∀(l:List Nat),SP3 l F->∀i ∈ l,F i
 | [],_,i,hi=>by cases hi
 | [j],H,i,hi=>by simp at hi;subst hi;exact H
 | j :: k :: l,H,i,hi=>by
  rcases List.mem_cons.1 hi with rfl | hi
  ·exact H.1
  ·exact QA (k :: l) H.2 i hi
theorem UP (hp0:∀(j:Nat) (o:Oper),ops[j]? = some o->AI o=true) {K:F8->A2->Prop} (n:Nat):∀(listed:Array Bool) (held:Sl1) (ρ:F8) (h:A2),FL ops listed ->
  HW P ops n listed held ρ h K->UM P ops K n (XI ops held) listed ρ h:=by
 induction n with
 | zero=>
  intro listed held ρ h hcl H
  unfold HW at H
  split at H
  ·exact ⟨‹_›,H⟩
  ·exact H.elim
 | succ n ih=>
  intro listed held ρ h hcl H
  unfold HW at H
  split at H
  ·rename_i i hi
   split at H
   ·exact H.elim
   ·rename_i o ho
    unfold Qs at hi
    have hmem:=List.mem_of_find?_eq_some hi
    have hpr:=List.find?_some hi
    rw [ho] at hpr
    simp only [Bool.and_eq_true] at hpr
    have H:=Hi H
    have hfr:=Region.free_spec ho hpr.2
    split at H
    ·rename_i hw
     obtain ⟨v,L,h1,h2,h3⟩:=Sm3 hpr.1 H
     refine KK (L:=L) ho hp0 n (XI ops held) listed ρ h hfr hcl hmem (.inl ⟨hw,h1⟩) h2 ?_
     refine IN _ ?_ (ih _ _ _ _ (hcl.set hmem) (Oi h3))
     intro e h' hob
     refine ⟨λhwt=>?_,λx hx hx2=>?_⟩
     ·cases L with
      | nil=>exact λx hx=>(by cases hx)
      | cons p L=>exact hob (i,p :: L) (by simp) hwt
     ·cases L with
      | nil=>exact hob x hx hx2
      | cons p L=>exact hob x (by simp [hx]) hx2
    ·rename_i hw
     refine KK (L:=[]) ho hp0 n (XI ops held) listed ρ h hfr hcl hmem (.inr ⟨by simpa using hw,rfl⟩) (λx hx=>by cases hx) ?_
     refine IN _ ?_ (ih _ _ _ _ (hcl.set hmem) H)
     intro e h' hob
     exact ⟨λ_ x hx=>(by cases hx),hob⟩
  ·split at H
   ·rename_i hr
    exact ⟨λ_=>H,λi hi=>by rw [hr] at hi;cases hi⟩
   ·rename_i hne
    refine ⟨λhr=>absurd hr (by simpa using hne),λe he=>?_⟩
    have H:=QA _ H e he
    split at H
    ·exact H.elim
    ·rename_i o ho
     have H:=Hi H
     unfold pstep;rw [ho];simp only
     split at H
     ·rename_i hw
      rw [if_pos hw]
      refine Ic (λv h' x=>?_) H
      obtain ⟨h1,h2⟩:=KM _ (Oi x)
      exact ⟨.inr h1,ih _ _ _ _ (hcl.set he) h2⟩
     ·rename_i hw
      rw [if_neg hw]
      obtain ⟨h1,h2⟩:=KM _ H
      exact ⟨.inl trivial,ih _ _ _ _ (hcl.set he) h2⟩
theorem Om {n:Nat} {r:Option Nat} {Q:Exit->Act->World->Prop} (ho:Jn n ops=true) {ws:List Nat} (hws:∀(i:Nat) (o:Oper),ops[i]? = some o->∀d,o.dst=some d->d ∈ ws) {K:F8->A2->Prop} (m:Nat):∀(obl:Nat->A2->Prop) (listed:Array Bool) (ρ:F8) (h:A2) (a:Act) (w:World),
  UM P ops K m obl listed ρ h->Rl n a.tmps ρ->w.heap=h->(∀ρ' a' w',K ρ' w'.heap->Rl n a'.tmps ρ'->Fu ws a.tmps a'.tmps->a'.defers=a.defers->Kw w w'->Q .normal a' w') ->
  wpAnyIn (FW r) 0 P .any ops Q m listed a w:=by
 induction m with
 | zero=>intro obl listed ρ h a w H hR hw hQ;subst hw;exact ⟨H.1,hQ _ _ _ H.2 hR (Fu.refl _ _) rfl (Kw.refl _)⟩
 | succ m ih=>
  intro obl listed ρ h a w H hR hw hQ
  refine ⟨λhr=>by subst hw;exact hQ _ _ _ (H.1 hr) hR (Fu.refl _ _) rfl (Kw.refl _),λi hi=>?_⟩
  refine Oh (n:=n) (H.2 i hi) hR hw (λo' ho'=>KF ho i o' ho') (hws i) ?_
  intro ρ' a' w' x hR' hs hd hkd
  exact ih _ _ ρ' _ a' w' x.2 hR' rfl λρ'' a'' w'' hK hR'' hs' hd' hkd'=>hQ ρ'' a'' w'' hK hR'' (hs.trans hs') (hd'.trans hd) (hkd.trans hkd')
theorem QC {n:Nat} (ho:Jn n ops=true) (j:Nat) (o:Oper) (hj:ops[j]? = some o):AI o=true:=by
 have:=KF ho j o hj
 unfold IK at this;simp at this;exact this.1
theorem UQ {n:Nat} {r:Option Nat} {id:Nat} {Q:Exit->Act->World->Prop} {ρ:F8} {h:A2} {a:Act} {w:World} (hm:P.follows .mixedOrders=true) (ho:Jn n ops=true) {ws:List Nat} (hws:∀(i:Nat) (o:Oper),ops[i]? = some o->∀d,o.dst=some d->d ∈ ws) {K:F8->A2->Prop}
  (H:HW P ops ops.size (Array.replicate ops.size false) [] ρ h K) (hR:Rl n a.tmps ρ) (hw:w.heap=h)
  (hQ:∀ρ' a' w',K ρ' w'.heap->Rl n a'.tmps ρ'->Fu ws a.tmps a'.tmps->a'.defers=a.defers->Kw w w'->Q .normal a' w'):(Code.region id ops true).wpIn (FW r) 0 P Q a w:=by
 refine wpIn_region_any hm ?_
 have hcl:FL ops (Array.replicate ops.size false):=by
  intro k o hk ho e he hb
  rw [getD_replicate_false'] at hk;cases hk
 exact Om ho hws _ _ _ ρ h a _ (UP (QC ho) _ _ _ _ _ hcl H) hR hw hQ
where
 getD_replicate_false' (m j:Nat):(Array.replicate m false).getD j false=false:=by
  simp [Array.getD_eq_getD_getElem?,Array.getElem?_replicate];split <;> rfl
end
end
end Go.Proofs.YtahpbclnkofhfaaGreat
