/- Part 1 of what the proofs of this seat rest on: see the last text of the claim. -/
import Derived.RangeFuncRecord
import Derived.RangeFuncIn
import Derived.OrdersIn
import Derived.KernelRfl
set_option linter.unusedSimpArgs false
set_option linter.unusedVariables false
set_option linter.ambiguousOpen false
set_option maxRecDepth 20000
set_option linter.defProp false
open Go.IntKind (wrap)
namespace Go.Proofs.YtahpbclnkofhfaaGreat
section
abbrev A2:=Array Obj
abbrev Dp : Array Value := #[.int .i64 0,.int .i64 0,.int .i64 0,.int .i64 0,.int .i64 0,.int .i64 0,.int .i64 0]
abbrev AA : Array Value := #[.int .i64 0,.int .i64 0,.int .i64 0,.int .i64 0,.int .i64 0,.int .i64 0,.int .i64 0,.int .i64 0,.int .i64 0,.int .i64 0,.int .i64 0,.int .i64 0,.int .i64 0,.int .i64 0,.int .i64 0]
abbrev kQ : Type := Value → A2 → Prop
abbrev aQ (b : Nat) : Addr := ⟨b, 0, none⟩
abbrev iQ (n : Int) : Value := .int .i64 n
abbrev uQ (n : Int) : Value := .int .u64 n
abbrev tQ : Value := .tuple #[]
abbrev pQ (a : Option Addr) : Value := .pointer a
abbrev oQ (v : Array Value) (t : TypeId) : Obj := .cells v t
abbrev lQ (a : Option Addr) (n m : Nat) : Value := .slice a n m
abbrev dQ (b : Bool) : Value := .bool b
def J9:=@And.intro
def yL1:=@Array.any_eq_true'
def yL2:=@Array.ext_getElem?
def yL3:=@Array.getD_eq_getD_getElem?
def yL4:=@Array.getElem?_eq_getElem
def yL5:=@Array.getElem?_eq_none
def Jx:=@Array.getElem?_eq_some_iff
def yL7:=@Array.getElem?_modify
def yL8:=@Array.getElem?_push
def yL9:=@Array.getElem?_setIfInBounds
def Sj9:=@Array.getElem?_setIfInBounds_ne
def GQ:=@Array.getElem?_toList
def Sk0:=@Array.length_toList
def Xs:=@Array.mem_toList_iff
def SD2:=@Array.size_push
def SD3:=@Array.toList_append
def EA:=@Bool.and_eq_true
def Xt:=@Bool.decide_and
def QU:=@Bool.eq_iff_iff
def Mf:=@Bool.false_and
def Cd:=@Bool.false_eq_true
def Oy:=@Bool.false_or
def SD4:=@Bool.not_eq_true
def MF:=@Bool.not_false
def IV:=@Bool.not_true
def SD5:=@Bool.or_eq_false_iff
def Ku:=@Bool.or_eq_true
def FC:=@Bool.true_and
def IC:=@ByteArray.size_append
def SD6:=@Decidable.byContradiction
def Sk1:=@Int.ediv_le_self
def Sk2:=@Int.ediv_nonneg
def Oz:=@Int.le_refl
def OA:=@Int.mul_le_mul
def QV:=@Int.mul_nonneg
def Mg:=@Int.natCast_add_one
def Sk3:=@Int.tdiv_eq_ediv_of_nonneg
def Sk4:=@Int.tmod_eq_emod_of_nonneg
def X5:=@Int.toNat_natCast
def SD7:=@List.all_append
def Sk5:=@List.all_cons
def MG:=@List.all_eq_true
def Sk6:=@List.all_nil
def Xu:=@List.append_assoc
def Xv:=@List.append_nil
def Ta6:=@List.dropLast_append_of_ne_nil
def SZ4:=@List.dropLast_subset
def SZ5:=@List.drop_eq_getElem_cons
def Xw:=@List.ext_getElem
def Tc:=@List.ext_getElem?
def QW:=@List.filter_append
def SD8:=@List.find?_cons_of_neg
def SZ6:=@List.flatMap_append
def Kv:=@List.flatMap_cons
def SZ7:=@List.flatten_append
def Td:=@List.foldl_append
def Te:=@List.foldl_cons
def An:=@List.getD_eq_getElem?_getD
def OB:=@List.getElem?_append_left
def MH:=@List.getElem?_append_right
def QX:=@List.getElem?_cons_succ
def Mh:=@List.getElem?_cons_zero
def Tf:=@List.getElem?_drop
def X7:=@List.getElem?_eq_getElem
def SD9:=@List.getElem?_eq_none
def IW:=@List.getElem?_eq_some_iff
def FD:=@List.getElem?_map
def OD:=@List.getElem?_set
def SE0:=@List.getElem?_set_ne
def GV:=@List.getElem?_take
def EC:=@List.getElem?_toArray
def CD:=@List.getElem_mem
def Ta7:=@List.getElem_of_mem
def SZ8:=@List.getElem_range
def Sk7:=@List.getLast?_eq_some_getLast
def DK:=@List.length_append
def Jy:=@List.length_cons
def Xx:=@List.length_eq_zero_iff
def QY:=@List.length_filter_le
def Jz:=@List.length_map
def SE1:=@List.length_nil
def OE:=@List.length_pos_iff
def SE2:=@List.length_replicate
def Ca:=@List.length_set
def CM:=@List.length_take
def GW:=@List.map_append
def Tg:=@List.map_congr_left
def GY:=@List.map_cons
def QZ:=@List.map_nil
def SZ9:=@List.map_replicate
def Ra:=@List.map_set
def GR:=@List.mem_append
def ED:=@List.mem_cons
def Th:=@List.mem_filterMap
def Ga:=@List.mem_map
def OF:=@List.mem_of_getElem?
def S00:=@List.mem_or_eq_of_mem_set
def Fq:=@List.mem_singleton
def OG:=@List.nil_append
def Sk8:=@List.nodup_cons
def Ti:=@List.nodup_nil
def GF:=@List.not_mem_nil
def Tj:=@List.range_succ
def SE3:=@List.setIfInBounds_toArray
def Tk:=@List.set_cons_succ
def Sd9:=@List.set_cons_zero
def PC:=@List.size_toArray
def EH:=@List.take_length
def Dg:=@List.take_of_length_le
def Ab:=@List.take_succ_eq_append_getElem
def Se0:=@List.toList_toArray
def BA:=@Nat.add_mul
def Lc:=@Nat.add_zero
def Ld:=@Nat.ble_eq
def PD:=@Nat.eq_of_beq_eq_true
def PE:=@Nat.le_of_ble_eq_true
def G0:=@Nat.le_refl
def R4:=@Nat.le_trans
def Se1:=@Nat.lt_of_lt_of_le
def MI:=@Nat.min_eq_left
def EJ:=@Nat.mul_le_mul_right
def BQ:=@Nat.mul_one
def Tl:=@Nat.succ_le_of_lt
def J6:=@Nat.zero_add
def T4:=@Nat.zero_le
def Dh:=@Option.isNone_some
def Se2:=@Option.isSome_iff_exists
def Tm:=@Option.isSome_none
def Le:=@Option.isSome_some
def JA:=@Option.map_some
def PF:=@beq_self_eq_true
def GG:=@congrArg
def S4:=@decide_eq_false
def V6:=@decide_eq_true
def EK:=@decide_eq_true_eq
def A7:=@if_neg
def A8:=@if_pos
def SE4:=@of_decide_eq_true
abbrev rQ:=Option Addr
abbrev vQ:=Value
abbrev G4:=Nat->vQ
def A3 (h:A2) (a:Addr):Option vQ:=
 match h[a.block]? with
 | some (.cells c _ _)=>if a.spot.isSome then none else c[a.off]?
 | _=>none
def Da (h:A2) (r:Nat):Option (TypeId × Nat):=
 match h[r]? with
 | some (.cells c elem _)=>some (elem,c.size)
 | _=>none
def Eg (h:A2) (a:Addr):Bool:=
 match h[a.block]? with
 | some (.cells _ _ (lo,hi))=>lo<=a.off && a.off < hi
 | _=>false
def freezeAt (h:A2) (a:Addr) (n:Nat):A2:=
 if n=0 then h else
 h.modify a.block fun
  | .cells c elem (lo,hi)=>.cells c elem (if lo == hi then (a.off,a.off+n) else (min lo a.off,max hi (a.off+n)))
  | o=>o
def SE5 (a:Addr) (v:vQ):Obj->Obj
 | .cells c elem frozen=>.cells (if a.spot.isSome then c else c.setIfInBounds a.off v) elem frozen
 | o=>o
def setC (h:A2) (a:Addr) (v:vQ):A2:=h.modify a.block (SE5 a v)
def Kd (h h':A2):Prop:=h.size<=h'.size/\∀D:Nat,h[D]? = some (.deferred (some []))->h'[D]? = some (.deferred (some []))
def J0 (v:vQ) (X:Prop):Prop:=match v with | .agg _ | .tuple _=>False | _=>X
def hp {α:Type} (P:Program):Sem α->(α->A2->Prop)->A2->Prop
 | .pure a,K,h=>K a h
 | .load _ a k,K,h=>match A3 h a with | some v=>hp P (k v) K h | none=>False
 | .store _ a v k,K,h=>J0 v ((∃u,A3 h a=some u)/\Eg h a=false/\hp P k K (setC h a v))
 | .new o k,K,h=>hp P (k h.size) K (h.push o)
 | .shape r k,K,h=>hp P (k (Da h r)) K h
 | .freeze a n k,K,h=>hp P k K (freezeAt h a n)
 | .frozen a k,K,h=>hp P (k (Eg h a)) K h
 | .getObj r k,K,h=>match h[r]? with
  | some (.cells ..)=>False
  | some o=>hp P (k o) K h
  | none=>False
 | .setObj r o k,K,h=>match h[r]? with
  | some (.map ..) | some (.mapIter ..) | some (.stringIter ..)=>hp P k K (h.setIfInBounds r o)
  | _=>False
 | .choose q k,K,h=>∀t,hp P (k (if q.forced then 0 else q.cut t)) K h
 | .sys ..,_,_=>False
 | .program k,K,h=>hp P (k P) K h
 | .mark _ k,K,h=>hp P k K h
 | .halt _,_,_=>False
def Kw (w w':World):Prop:=Kd w.heap w'.heap/\w'.os=w.os/\w'.output=w.output
def onH (w0:World) (K:kQ):Ending->World->Prop
 | .returned v,w=>K v w.heap/\Kw w0 w
 | _,_=>False
def SE6 (P:Program) (f:FuncId) (args:Array vQ) (h:A2) (K:kQ):Prop:=
 ∀w:World,w.heap=h->CallsIn Fence.wide 0 P f args w (onH w K)
def SE7 (P:Program) (f:FuncId):Prop:=∀args (w:World),(callFunc f args).run P w=.ok (.enter f args) w
def A4 (P:Program) (f:FuncId) (args:Array vQ) (h:A2) (K:kQ):Prop:=
 SE7 P f/\SE6 P f args h K
def Ta8 (P:Program) (l:Nat) (args:Array vQ) (h:A2) (K:kQ):Prop:=
 ∀w:World,w.heap=h->∃fn tmps assign body,(Instr.yield l args).run P w=.ok (.round l fn tmps assign body) w /\
  RoundIn Fence.wide 0 P l fn tmps assign body w (onH w K)
def Ta9 (P:Program) (f:FuncId) (args:Array vQ) (h:A2) (K:kQ):Prop:=
 hp P (callFunc f args) (λnx h'=>match nx with | .value v=>K v h' | _=>False) h
def Aj (P:Program) (v:vQ) (args:Array vQ) (h:A2) (K:kQ):Prop:=
 match v with
 | .func (.func f) first captured=>A4 P f (first ++ args ++ captured) h K
 | .func (.yield l) first _=>Ta8 P l (first ++ args) h K
 | _=>False
def Rb (P:Program) (v:vQ) (args:Array vQ) (h:A2) (K:kQ):Prop:=
 match v with
 | .func (.func f) first captured=>Ta9 P f (first ++ args ++ captured) h K
 | _=>False
def Tl1 (P:Program) (f:Operand):Bool:=
 match f with
 | .func g=>(match P.funcs[g]? with | some fn=>fn.body.isNone | none=>false)
 | _=>false
def F3 (v:vQ) (K:Addr->Prop):Prop:=match v with | .pointer (some a)=>K a | _=>False
def C9 (v:vQ) (K:rQ->Prop):Prop:=match v with | .pointer a=>K a | _=>False
def asInt (k:IntKind) (v:vQ) (K:Int->Prop):Prop:=match v with | .int k' n=>if k' = k then K n else False | _=>False
def Il (v:vQ) (K:Int->Prop):Prop:=match v with | .int _ n=>K n | _=>False
def asBool (v:vQ) (K:Bool->Prop):Prop:=match v with | .bool b=>K b | _=>False
def L8 (v:vQ) (K:ByteArray->Prop):Prop:=match v with | .string s=>K s | _=>False
def D3 (v:vQ) (K:rQ->Nat->Nat->Prop):Prop:=match v with | .slice a l c=>K a l c | _=>False
def asAgg (v:vQ) (K:Array vQ->Prop):Prop:=match v with | .agg cs=>K cs | _=>False
def J3 (v:vQ) (K:Array vQ->Prop):Prop:=match v with | .tuple cs=>K cs | _=>False
def CG (v:vQ) (K:Option Nat->Prop):Prop:=match v with | .map r=>K r | _=>False
def X0 (v:vQ) (K:Bool->Prop):Prop:=match v with | .nilFunc=>K true | .func ..=>K false | _=>False
def G5 (v:vQ) (X:Prop):Prop:=match v with | .pointer none | .nilIface | .nilFunc=>False | .func (.method _) _ _=>False | _=>X
def D4 (b:Bool) (X Y:Prop):Prop:=match b with | true=>X | false=>Y
def D2 (h:A2) (a:Addr) (K:vQ->Prop):Prop:=match A3 h a with | some v=>K v | none=>False
def ldN (h:A2) (a:Addr) (i:Nat):Nat->List vQ->(List vQ->Prop)->Prop
 | 0,acc,K=>K acc.reverse
 | n+1,acc,K=>D2 h (a.add i) λv=>ldN h a (i+1) n (v :: acc) K
def C7 (h:A2) (a:Addr) (v:vQ) (K:A2->Prop):Prop:=J0 v ((∃u,A3 h a=some u)/\Eg h a=false/\K (setC h a v))
def OH (h:A2) (a:Addr) (i:Nat):List vQ->(A2->Prop)->Prop
 | [],K=>K h
 | v :: vs,K=>C7 h (a.add i) v λh'=>OH h' a (i+1) vs K
def Be (P:Program) (t:TypeId):TypeDesc:=(P.underlying t).getD .invalid
def M2 (P:Program) (t:TypeId):Nat:=match P.info? t with | some i=>i.size | none=>0
def EL (P:Program) (t:TypeId):Nat:=match P.info? t with | some i=>i.bytes | none=>0
def GZ (P:Program) (t:TypeId):Option vQ:=(P.info? t).bind (·.zero)
def L0 (P:Program) (t:TypeId):Bool:=(P.info? t).isSome && (P.underlying t).isSome
def MJ (P:Program) (t:TypeId):Bool:=match Be P t with | .struct _ | .array _ _=>true | _=>false
def Bp (P:Program) (t:TypeId):List vQ:=match GZ P t with | some (.agg cs)=>cs.toList | some v=>[v] | none=>[]
def D9 (vs:Array vQ) (i:Nat) (K:vQ->Prop):Prop:=match vs[i]? with | some v=>K v | none=>False
def G3 (cs:Array vQ) (n:Nat) (X:Prop):Prop:=match Nat.beq cs.size n with | true=>X | false=>False
def Dq (cs:Array vQ):Nat->Nat->List vQ->(List vQ->Prop)->Prop
 | 0,_,acc,F=>F acc.reverse
 | n+1,i,acc,F=>D9 cs i λv=>Dq cs n (i+1) (v :: acc) F
def Xy (n:Nat) (v:vQ) (K:vQ->Prop):Prop:=match Nat.ble n 64 with
 | true=>asAgg v λcs=>G3 cs n (Dq cs n 0 [] λus=>K (.agg us.toArray))
 | false=>K v
def IX (P:Program) (t:TypeId) (v:vQ) (K:vQ->Prop):Prop:=
 match Be P t with
 | .bool=>asBool v λb=>K (.bool b)
 | .int k=>asInt k v λn=>K (.int k n)
 | .string=>L8 v λs=>K (.string s)
 | .slice _=>D3 v λa l c=>K (.slice a l c)
 | .pointer _=>C9 v λa=>K (.pointer a)
 | .map _ _=>CG v λr=>K (.map r)
 | .struct _=>Xy (M2 P t) v K
 | .array _ _=>Xy (M2 P t) v K
 | _=>K v
def Xz (n:Nat) (v:vQ) (K:List vQ->Prop):Prop:=match Nat.ble n 64 with
 | true=>asAgg v λcs=>G3 cs n (Dq cs n 0 [] K)
 | false=>asAgg v λcs=>K cs.toList
def Eh (P:Program) (t:TypeId) (v:vQ) (K:List vQ->Prop):Prop:=
 if MJ P t then Xz (M2 P t) v K else J0 v (K [v])
def IY (f:Operand->vQ) (a:Array Operand):Array vQ:=(a.toList.map f).toArray
def Ce (cs:List vQ) (off:Nat):List vQ->List vQ
 | []=>cs
 | v :: vs=>Ce (cs.set off v) (off+1) vs
def GH (P:Program) (place:Nat->Option (Nat × TypeId)):List vQ->List (Nat × vQ)->(List vQ->Prop)->Prop
 | cells,[],K=>K cells
 | cells,(i,v) :: rest,K=>
  match place i with
  | none=>False
  | some (off,t)=>Eh P t v λcs=>
   if cs.length=M2 P t/\off+M2 P t<=cells.length then GH P place (Ce cells off cs) rest K else False
def PG (P:Program) (t:TypeId) (cs:Array vQ) (off:Nat):Option vQ:=
 if MJ P t then some (.agg (cs.extract off (off+M2 P t))) else cs[off]?
def EM (P:Program) (t:TypeId) (cs:Array vQ) (off:Nat) (K:vQ->Prop):Prop:=match PG P t cs off with | some v=>K v | none=>False
def Kx (s:ByteArray) (i:Nat):Int:=((s[i]?).map (λb=>(b.toNat:Int))).getD 0
def EN (P:Program) (t:TypeId) (cs:Array vQ) (off:Nat):Option vQ:=if L0 P t then PG P t cs off else none
def Tn:Option Bool->Option Bool->Option Bool
 | some b,some r=>some (b && r)
 | _,_=>none
def eqv (P:Program):(d:Nat)->TypeId->vQ->vQ->Option Bool
 | 0,_,_,_=>none
 | d+1,t,x,y=>
  match Be P t,x,y with
  | .bool,.bool a,.bool b=>some (a == b)
  | .int _,.int k a,.int k' b=>if k=k' then some (a == b) else none
  | .string,.string a,.string b=>some (a == b)
  | .struct fields,.agg xs,.agg ys=>
   if P.stoodInHeld t then none else
   fields.toList.foldr (λf acc=>
    if f.name = "_" then none else
    match EN P f.type xs f.offset,EN P f.type ys f.offset with
    | some x,some y=>Tn (eqv P d f.type x y) acc
    | _,_=>none) (some true)
  | .array len elem,.agg xs,.agg ys=>
   if L0 P elem then
   (List.range' 0 len).foldr (λi acc=>
    match EN P elem xs (i*M2 P elem),EN P elem ys (i*M2 P elem) with
    | some x,some y=>Tn (eqv P d elem x y) acc
    | _,_=>none) (some true) else none
  | _,_,_=>none
def Gb (P:Program) (t:TypeId) (x y:vQ) (K:Bool->Prop):Prop:=
 if P.eqGuardType P.depth t then False else
 asAgg x λ_=>
 match eqv P 10000 t x y with | some b=>K b | none=>False
def Bq:vQ:=.tuple #[]
def nxt (P:Program) (K:kQ):Next->A2->Prop
 | .value v,h=>K v h
 | .skip,h=>K Bq h
 | .enter f args,h=>SE6 P f args h K
 | _,_=>False
def Rc (P:Program) (ρ:Operand->vQ) (o:Oper) (h:A2) (K:kQ):Prop:=hp P (execOp ρ o) (nxt P K) h
def OI (P:Program) (src dst:TypeId) (v:vQ) (h:A2) (K:kQ):Prop:=hp P (convert src dst v) K h
def To (P:Program) (op:BinOp) (t:TypeId) (a b:rQ) (h:A2) (K:kQ):Prop:=hp P (binOp op t (.pointer a) (.pointer b)) K h
def Tb0 (P:Program) (argTypes:Array TypeId) (t:TypeId) (args:Array vQ) (h:A2) (K:kQ):Prop:=hp P (Builtin.unsafeSliceData_ argTypes t args) K h
def S01 (P:Program) (argTypes:Array TypeId) (t:TypeId) (args:Array vQ) (h:A2) (K:kQ):Prop:=hp P (Builtin.clear_ argTypes t args) K h
def Tb1 (P:Program) (argTypes:Array TypeId) (t:TypeId) (args:Array vQ) (h:A2) (K:kQ):Prop:=hp P (Builtin.unsafeString_ argTypes t args) K h
def S02:Operand->Bool | .const (.pointer none)=>true | _=>false
def S03:Operand->Bool | .const (.slice none _ _)=>true | _=>false
def Tb2:Operand->Bool | .const (.map none)=>true | _=>false
def S04:Operand->Bool | .const .nilFunc=>true | _=>false
def Lf (k:IntKind) (op:BinOp) (a b:Int) (K:vQ->Prop):Prop:=
 match op with
 | .add=>K (.int k (k.wrap (a+b)))
 | .sub=>K (.int k (k.wrap (a - b)))
 | .mul=>K (.int k (k.wrap (a*b)))
 | .quo=>b≠0/\K (.int k (k.wrap (a.tdiv b)))
 | .rem=>b≠0/\K (.int k (a.tmod b))
 | .and=>K (.int k (k.wrap ((BitVec.ofInt k.bits a) &&& (BitVec.ofInt k.bits b)).toNat))
 | .or=>K (.int k (k.wrap ((BitVec.ofInt k.bits a) ||| (BitVec.ofInt k.bits b)).toNat))
 | .xor=>K (.int k (k.wrap ((BitVec.ofInt k.bits a) ^^^ (BitVec.ofInt k.bits b)).toNat))
 | .andNot=>K (.int k (k.wrap ((BitVec.ofInt k.bits a) &&& ~~~(BitVec.ofInt k.bits b)).toNat))
 | .eql=>K (.bool (a == b))
 | .neq=>K (.bool (a != b))
 | .lss=>K (.bool (decide (a < b)))
 | .leq=>K (.bool (decide (a<=b)))
 | .gtr=>K (.bool (decide (a > b)))
 | .geq=>K (.bool (decide (a >= b)))
 | _=>False
def Tp (k:IntKind) (op:BinOp) (a b:Int) (K:vQ->Prop):Prop:=
 match op with
 | .shl=>0<=b/\K (.int k (k.wrap (a*2 ^ (min b.toNat k.bits))))
 | .shr=>0<=b/\K (.int k (a.fdiv (2 ^ (min b.toNat k.bits))))
 | _=>False
def CN (P:Program) (t:TypeId):Option IntKind:=match Be P t with | .int k=>some k | _=>none
def Mi (P:Program) (op:BinOp) (xt yt:TypeId) (x y:Operand) (ρ:Operand->vQ) (o:Oper) (h:A2) (K:kQ):Prop:=
 match Be P xt with
 | .int k=>(match op with
  | .shl | .shr=>(match CN P yt with
   | some k'=>asInt k (ρ x) λa=>asInt k' (ρ y) λb=>Tp k op a b λv=>K v h
   | none=>False)
  | _=>asInt k (ρ x) λa=>asInt k (ρ y) λb=>Lf k op a b λv=>K v h)
 | .bool=>(match op with
  | .eql=>asBool (ρ x) λa=>asBool (ρ y) λb=>K (.bool (a == b)) h
  | .neq=>asBool (ρ x) λa=>asBool (ρ y) λb=>K (.bool (!(a == b))) h
  | _=>False)
 | .string=>(match op with
  | .eql=>L8 (ρ x) λa=>L8 (ρ y) λb=>K (.bool (a.toList == b.toList)) h
  | .neq=>L8 (ρ x) λa=>L8 (ρ y) λb=>K (.bool (!(a.toList == b.toList))) h
  | .add=>L8 (ρ x) λa=>L8 (ρ y) λb=>((a.size+b.size:Nat):Int)<=9223372036854775807/\K (.string (a ++ b)) h
  | _=>Rc P ρ o h K)
 | .pointer _=>(match op,S02 y with
  | .eql,true=>C9 (ρ x) λa=>K (.bool a.isNone) h
  | .neq,true=>C9 (ρ x) λa=>K (.bool (!a.isNone)) h
  | .eql,false=>C9 (ρ x) λa=>C9 (ρ y) λb=>To P .eql xt a b h K
  | .neq,false=>C9 (ρ x) λa=>C9 (ρ y) λb=>To P .neq xt a b h K
  | _,_=>Rc P ρ o h K)
 | .slice _=>(match op,S03 y with
  | .eql,true=>D3 (ρ x) λa _ _=>K (.bool a.isNone) h
  | .neq,true=>D3 (ρ x) λa _ _=>K (.bool (!a.isNone)) h
  | _,_=>Rc P ρ o h K)
 | .map _ _=>(match op,Tb2 y with
  | .eql,true=>CG (ρ x) λa=>K (.bool a.isNone) h
  | .neq,true=>CG (ρ x) λa=>K (.bool (!a.isNone)) h
  | _,_=>Rc P ρ o h K)
 | .func _ _ _=>(match op,S04 y with
  | .eql,true=>X0 (ρ x) λb=>K (.bool b) h
  | .neq,true=>X0 (ρ x) λb=>K (.bool (!b)) h
  | _,_=>Rc P ρ o h K)
 | .struct _ | .array _ _=>(match op with
  | .eql=>Gb P xt (ρ x) (ρ y) λb=>K (.bool b) h
  | .neq=>Gb P xt (ρ x) (ρ y) λb=>K (.bool (!b)) h
  | _=>False)
 | _=>Rc P ρ o h K
def BM (k:Option IntKind) (v:Option vQ) (dflt most:Nat) (K:Nat->Prop):Prop:=
 match v with
 | none=>K dflt
 | some v=>match k with
  | none=>Il v λi=>0<=i/\i<=most/\K i.toNat
  | some k=>asInt k v λi=>0<=i/\i<=most/\K i.toNat
def Ha (a:rQ) (l m n:Nat):rQ:=if m=l then a else a.map (·.add (l*n))
def PH (a:Addr) (l m n:Nat):Addr:=if m=l then a else a.add (l*n)
def Hb (P:Program) (t:TypeId) (x:vQ) (lo hi mx:Option vQ) (K:vQ->Prop):Prop:=
 match Be P t with
 | .string=>if mx.isSome then False else L8 x λs=>
  BM none hi s.size s.size λh=>BM none lo 0 h λl=>K (.string (s.extract l h))
 | .slice e=>if L0 P e then D3 x λa len cap=>
  BM none mx cap cap λm=>BM none hi len m λh=>BM none lo 0 h λl=>
   K (.slice (Ha a l m (M2 P e)) (h - l) (m - l)) else False
 | .array n e=>if L0 P e then F3 x λa=>
  BM none mx n n λm=>BM none hi n m λh=>BM none lo 0 h λl=>
   K (.slice (some (PH a l m (M2 P e))) (h - l) (m - l)) else False
 | _=>False
def Y2 (P:Program) (elem:TypeId) (l c:Int) (h:A2) (K:kQ):Prop:=
 0<=l/\l<=c/\c<=9223372036854775807/\EL P elem*c<=2 ^ 48 /\
  K (.slice (some (aQ h.size)) l.toNat c.toNat) (h.push (.cells ((List.replicate c.toNat (Bp P elem)).flatten.toArray) elem))
def U4 (P:Program) (argTypes:Array TypeId) (t:TypeId) (args:Array vQ) (h:A2) (K:kQ):Prop:=
 hp P (Builtin.append_ argTypes t args) K h
def PI (P:Program) (argTypes:Array TypeId) (t:TypeId) (args:Array vQ) (h:A2) (K:kQ):Prop:=
 hp P (Builtin.copy_ argTypes t args) K h
def SE8 (h:A2) (r:Option Nat) (K:Array MapEntry->Nat->Prop):Prop:=
 match r with
 | none=>K #[] 0
 | some r=>match h[r]? with | some (.map es c)=>K es c | _=>False
def Lg (P:Program) (t:TypeId) (x i:vQ) (ok:Bool) (h:A2) (K:kQ):Prop:=hp P (Instr.lookup t x i ok) K h
def Se3 (P:Program) (t:TypeId) (x i v:vQ) (h:A2) (K:A2->Prop):Prop:=hp P (Instr.mapUpdate t x i v) (λ_=>K) h
def Se4 (P:Program) (argTypes:Array TypeId) (t:TypeId) (args:Array vQ) (h:A2) (K:kQ):Prop:=
 hp P (Builtin.delete_ argTypes t args) K h
def W3 (f:Int->Int->Int) (P:Program) (t:TypeId):List vQ->(Int->Prop)->Prop
 | [],_=>False
 | [x],K=>(match CN P t with | some k=>asInt k x K | none=>False)
 | x :: xs,K=>(match CN P t with | some k=>asInt k x λa=>go f k a xs K | none=>False)
where
 go (f:Int->Int->Int) (k:IntKind) (a:Int):List vQ->(Int->Prop)->Prop
  | [],K=>K a
  | y :: ys,K=>asInt k y λb=>go f k (f a b) ys K
def Hc (x y:Int):Int:=if y > x then y else x
def JB (x y:Int):Int:=if y < x then y else x
def AN (P:Program) (b:Builtin) (argTypes:Array TypeId) (t:TypeId) (args:List vQ) (ρ:Operand->vQ) (o:Oper) (h:A2) (K:kQ):Prop:=
 match b,args with
 | .len,[x]=>(match argTypes[0]? with
  | some t0=>(match Be P t0 with
   | .slice _=>D3 x λ_ n _=>K (.int .i64 n) h
   | .string=>L8 x λs=>K (.int .i64 s.size) h
   | .map _ _=>CG x λr=>SE8 h r λes _=>K (.int .i64 es.size) h
   | .array n _=>K (.int .i64 n) h
   | _=>False)
  | none=>False)
 | .cap,[x]=>(match argTypes[0]? with
  | some t0=>(match Be P t0 with
   | .slice _=>D3 x λ_ _ n=>K (.int .i64 n) h
   | _=>False)
  | none=>False)
 | .append,args=>U4 P argTypes t args.toArray h K
 | .copy,args=>PI P argTypes t args.toArray h K
 | .delete,args=>Se4 P argTypes t args.toArray h K
 | .unsafeSliceData,args=>Tb0 P argTypes t args.toArray h K
 | .unsafeString,args=>Tb1 P argTypes t args.toArray h K
 | .clear,args=>S01 P argTypes t args.toArray h K
 | .max,args=>(match CN P t with | some k=>W3 Hc P t args λn=>K (.int k n) h | none=>Rc P ρ o h K)
 | .min,args=>(match CN P t with | some k=>W3 JB P t args λn=>K (.int k n) h | none=>Rc P ρ o h K)
 | _,_=>Rc P ρ o h K
def Fs (P:Program) (ρ:Operand->vQ) (o:Oper) (h:A2) (K:kQ):Prop:=
 match o.op with
 | .move x | .assign x=>K (ρ x) h
 | .pick c a b=>asBool (ρ c) λc=>D4 c (K (ρ a) h) (K (ρ b) h)
 | .alloc t=>(match GZ P t with
  | some z=>K (.pointer (some ⟨h.size,0,none⟩)) (h.push (.cells z.cells t))
  | none=>False)
 | .box t x=>Eh P t (ρ x) λcs=>K (.pointer (some ⟨h.size,0,none⟩)) (h.push (.cells cs.toArray t))
 | .build t parts=>if (GZ P t).isSome then (match Be P t with
  | .struct fields=>if fields.all (λf=>L0 P f.type)=false then False else GH P (λi=>(fields[i]?).map λf=>(f.offset,f.type)) (Bp P t) (parts.toList.map λp=>(p.1,ρ p.2)) λcs=>K (.agg cs.toArray) h
  | .array _ elem=>if L0 P elem=false then False else GH P (λi=>some (i*M2 P elem,elem)) (Bp P t) (parts.toList.map λp=>(p.1,ρ p.2)) λcs=>K (.agg cs.toArray) h
  | _=>False) else False
 | .buildSlice t len parts=>(match Be P t with
  | .slice elem=>if L0 P elem/\len*M2 P elem<=16777216/\(GZ P elem).isSome/\(Bp P elem).length=M2 P elem/\0 < M2 P elem then
    GH P (λi=>some (i*M2 P elem,elem)) (List.replicate len (Bp P elem)).flatten (parts.toList.map λp=>(p.1,ρ p.2))
     λcs=>K (.slice (some (aQ h.size)) len len) (h.push (.cells cs.toArray elem)) else False
  | _=>False)
 | .load t x=>F3 (ρ x) λa=>if L0 P t then (if MJ P t then ldN h a 0 (M2 P t) [] (λcs=>K (.agg cs.toArray) h) else D2 h a λv=>K v h) else False
 | .store t x y=>F3 (ρ x) λa=>Eh P t (ρ y) λcs=>if L0 P t/\cs.length=M2 P t then OH h a 0 cs λh'=>K Bq h' else False
 | .nilCheck x=>G5 (ρ x) (K (ρ x) h)
 | .binOp op xt x y yt=>Mi P op xt yt x y ρ o h K
 | .unOp op xt x=>(match op,Be P xt with
  | .not,.bool=>asBool (ρ x) λb=>K (.bool (!b)) h
  | .neg,.int k=>asInt k (ρ x) λn=>K (.int k (k.wrap (0 - n))) h
  | _,_=>Rc P ρ o h K)
 | .convert src dst x=>(match Be P src,Be P dst with
  | .int ks,.int k=>asInt ks (ρ x) λn=>K (.int k (k.wrap n)) h
  | .string,.string=>L8 (ρ x) λs=>K (.string s) h
  | _,_=>OI P src dst (ρ x) h K)
 | .makeInterface t x=>(match Be P t with | .interface _=>False | .invalid=>False | _=>K (.iface t (ρ x)) h)
 | .makeFunc fn first captured=>K (.func fn (IY ρ first) (IY ρ captured)) h
 | .makeMap _ none=>K (.map (some h.size)) (h.push (.map #[] 0))
 | .makeSlice t l c=>(match Be P t with
  | .slice elem=>Il (ρ l) λl=>Il (ρ c) λc=>if L0 P elem/\(GZ P elem).isSome/\(Bp P elem).length=M2 P elem/\0 < M2 P elem then Y2 P elem l c h K else False
  | _=>False)
 | .slice t x lo hi mx=>if mx.isSome && hi.isNone then False else Hb P t (ρ x) (lo.map ρ) (hi.map ρ) (mx.map ρ) λv=>K v h
 | .fieldAddr s x f=>(match Be P s with
  | .struct fields=>(match fields[f]? with
   | some fd=>if L0 P fd.type/\M2 P fd.type≠0 then F3 (ρ x) λa=>K (.pointer (some (a.add fd.offset))) h else False
   | none=>False)
  | _=>False)
 | .field t x f=>(match Be P t with
  | .struct fields=>(match fields[f]? with
   | some fd=>asAgg (ρ x) λcs=>EM P fd.type cs fd.offset λv=>if L0 P fd.type then K v h else False
   | none=>False)
  | _=>False)
 | .indexAddr t x i=>(match Be P t with
  | .slice elem=>D3 (ρ x) λa len _=>Il (ρ i) λi=>0<=i/\i < len/\F3 (.pointer a) λa=>if L0 P elem then K (.pointer (some (a.add (i.toNat*M2 P elem)))) h else False
  | .array len elem=>F3 (ρ x) λa=>Il (ρ i) λi=>0<=i/\i < len/\(if L0 P elem then K (.pointer (some (a.add (i.toNat*M2 P elem)))) h else False)
  | _=>False)
 | .index t x i=>(match Be P t with
  | .string=>L8 (ρ x) λs=>Il (ρ i) λi=>0<=i/\i < s.size/\K (.int .u8 (Kx s i.toNat)) h
  | .array len elem=>asAgg (ρ x) λcs=>Il (ρ i) λi=>0<=i/\i < len/\EM P elem cs (i.toNat*M2 P elem) λv=>if L0 P elem then K v h else False
  | _=>False)
 | .lookup t x i ok=>Lg P t (ρ x) (ρ i) ok h K
 | .mapUpdate t m k x=>Se3 P t (ρ m) (ρ k) (ρ x) h λh'=>K Bq h'
 | .extract x i=>J3 (ρ x) λvs=>D9 vs i λv=>K v h
 | .call { callee:=.builtin b,args,argTypes }=>AN P b argTypes o.type (args.toList.map ρ) ρ o h K
 | .call { callee:=.value f,args,.. }=>(match Tl1 P f with
  | true=>Rb P (ρ f) (IY ρ args) h K
  | false=>Aj P (ρ f) (IY ρ args) h K)
 | .panic _=>False
 | _=>Rc P ρ o h K
theorem t_nx {P:Prop} (h:P:=by (refine ⟨by ((with_reducible first | apply J4.pop | apply J4.allPc | apply J4.allS | apply J4.fin | apply J4.call | apply J4.all);(focus (refine Lo.adjR ?_ (by assumption);(with_reducible repeat' constructor)));try (first | decide | (refine .inr ?_;decide) | (refine .inl ?_;simp [fA];done) | (refine Lo.ne ?_ hne;(with_reducible repeat' constructor)))),?_⟩;first | (refine .inl ?_;(focus (refine CK.act ?_;(with_reducible repeat' constructor)));done) | (refine .inr ?_;((with_reducible first | apply J4.ltCall r hne | apply J4.ltFin r hne | apply J4.ltPc r hne | apply J4.ltPop r hne);assumption;(focus (refine Lo.adjR ?_ (by assumption);(with_reducible repeat' constructor)));try (first | assumption | exact BL _ _));simp +decide [fW,fA,hs];first | done | omega))):P:=h
theorem t_nxS {P:Prop} (h:P:=by (refine ⟨by ((with_reducible first | apply J4.pop | apply J4.allPc | apply J4.allS | apply J4.fin | apply J4.call | apply J4.all);(focus (refine Lo.adjR ?_ (by assumption);(with_reducible repeat' constructor)));try (first | decide | (refine .inr ?_;decide) | (refine .inl ?_;simp [fA];done) | (refine Lo.ne ?_ hne;(with_reducible repeat' constructor)))),?_⟩;first | (refine .inl ?_;(focus (refine CK.act ?_;(with_reducible repeat' constructor)));done) | (refine .inr ?_;((with_reducible first | apply J4.ltCall r hne | apply J4.ltFin r hne | apply J4.ltPc r hne | apply J4.ltPop r hne);assumption;(focus (refine Lo.adjR ?_ (by assumption);(with_reducible repeat' constructor)));try (first | assumption | exact BL _ _));simp +decide [fW,fA,hs,ha];first | done | omega))):P:=h
theorem t_adj {P:Prop} (h:P:=by ((with_reducible first | apply J4.pop | apply J4.allPc | apply J4.allS | apply J4.fin | apply J4.call | apply J4.all);(focus (refine Lo.adjR ?_ (by assumption);(with_reducible repeat' constructor)));try (first | decide | (refine .inr ?_;decide) | (refine .inl ?_;simp [fA];done) | (refine Lo.ne ?_ hne;(with_reducible repeat' constructor))))):P:=h
theorem t_adr {P:Prop} (h:P:=by (focus (refine Lo.adjR ?_ (by assumption);(with_reducible repeat' constructor)))):P:=h
theorem t_mo {P:Prop} (h:P:=by ((try simp only [f_m,Bx,Dw,Z4,AM,Fi,Fj,JX,Dd,GB,BG,Ey,GC]);refine .inr ⟨?_,?_⟩ <;> simp only [R9,S0,AL,Er,Cx,KP,or_true,true_or,and_true,true_and] <;> omega)):P:=h
theorem t_su {P:Prop} (h:P:=by ((try simp only [Bx,Dw,Z4,AM,Fi,Fj,JX,Dd,BG]);refine .inr ⟨(by simp only [R9,S0];omega),.inl ⟨?_,?_,?_,?_,?_⟩⟩ <;> intros <;> (try simp +decide (disch:=first | decide | assumption | (simp only [R9,S0];assumption)) only [AL,Er,Cx,KP,Dx,L9,Ht,R9,S0] at *) <;> omega)):P:=h
theorem t_sr9 {P:Prop} (h:P:=by ((try simp only [Bx,Dw,Z4,AM,Fi,Fj,JX,Dd,BG]);exact Si7 (by simp only [R9,S0];assumption) (by simp only [AL,Er];assumption) (.inr rfl))):P:=h
theorem t_sr {P:Prop} (h:P:=by ((try simp only [Bx,Dw,Z4,AM,Fi,Fj,JX,Dd,BG]);refine Si7 (by simp only [R9,S0];assumption) (by simp only [AL,Er];assumption) (by simp only [Cx,KP];omega))):P:=h
theorem t_sf {P:Prop} (h:P:=by ((try simp only [Bx,Dw,Z4,AM,Fi,Fj,JX]);refine Kg (by simp only [R9,S0];assumption) (by simp only [AL,Er];assumption) (by simp only [Cx,KP];omega) ?_;first | assumption | (simp +decide (disch:=decide) only [Dx,L9];assumption))):P:=h
theorem t_l31 {P:Prop} (h:P:=by ((try simp only [f_m,Bx,Dw,Z4,AM,Fi,Fj,JX,Dd,GB,BG,Ey,GC]);refine S58 (by simp only [R9,S0];assumption) (by simp only [AL,Er];assumption) ?_ ?_ ?_ <;> intros <;> (try simp +decide (disch:=first | decide | assumption | (simp only [R9,S0];assumption)) only [AL,Er,Cx,KP,Dx,L9,Ht,R9,S0] at *) <;> omega)):P:=h
theorem t_l32 {P:Prop} (h:P:=by ((try simp only [f_m,Bx,Dw,Z4,AM,Fi,Fj,JX,Dd,GB,BG,Ey,GC]);refine S59 (by simp only [R9,S0];assumption) (by simp only [AL,Er];assumption) (by simp only [Cx,KP,or_true];first | done | omega))):P:=h
theorem t_l34 {P:Prop} (h:P:=by ((try simp only [f_m,Bx,Dw,Z4,AM,Fi,Fj,JX,Dd,GB,BG,Ey,GC]);refine S60 (by simp only [R9,S0];assumption) (by simp only [AL,Er];assumption) (by simp only [Cx,KP,or_true];first | done | omega))):P:=h
theorem t_l35 {P:Prop} (h:P:=by ((try simp only [f_m,Bx,Dw,Z4,AM,Fi,Fj,JX,Dd,GB,BG,Ey,GC]);refine S61 (by simp only [R9,S0];assumption) (by simp only [AL,Er];assumption) (by simp only [Cx,KP,or_true];first | done | omega))):P:=h
theorem t_l36 {P:Prop} (h:P:=by ((try simp only [f_m,Bx,Dw,Z4,AM,Fi,Fj,JX,Dd,GB,BG,Ey,GC]);refine S62 (by simp only [R9,S0];assumption) (by simp only [AL,Er];assumption) (by simp only [Cx,KP,or_true];first | done | omega))):P:=h
theorem t_sg {P:Prop} (h:P:=by ((try simp only [f_m,Bx,Dw,Z4,AM,Fi,Fj,JX,Dd,GB,BG,Ey,GC]);refine MD (by simp only [R9,S0];assumption) (by simp only [AL,Er];assumption) (by simp only [Cx,KP];omega) ?_;first | assumption | (simp +decide (disch:=decide) only [Dx,L9];assumption))):P:=h
theorem t_hz {P:Prop} (h:P:=by ((try simp only [Bx,Dw,Z4,AM,Fi,Fj,JX]);unfold Ag;(try simp only [AL,Er,Cx,KP,R9,S0]);omega)):P:=h
theorem t_rest {P:Prop} (h:P:=by (focus (refine Lo.rest ?_ (by assumption);(with_reducible repeat' constructor)))):P:=h
theorem t_gro {P:Prop} (h:P:=by (with_reducible repeat' (first | apply St.refl | assumption | apply St.load | apply St.store | apply St.cas | apply St.add | apply St.swing | apply St.swingA | apply St.swingM | apply St.drop1 | apply St.guard | apply St.next | apply St.lvl | apply St.dcas | apply St.dcss | apply St.gh | apply St.call | apply St.fin | apply St.s | apply St.pc | apply St.push | apply St.pop))):P:=h
theorem t_st {P Q:Prop} (q:Q) (e:Q->P:=by intro q;(repeat (with_reducible first | apply E6.load | apply E6.store | apply E6.cas | apply E6.add | apply E6.swing | apply E6.swingA | apply E6.swingM | apply E6.drop1 | apply E6.guard | apply E6.gh | apply E6.fo | apply E6.re | apply E6.setPl));exact q):P:=e q
theorem sb {P Q:Prop} (q:Q) (e:Q->P:=by intro q;try simp only [G5,GN,Nat.reduceAdd,Int.reduceLE,Int.reduceLT,Int.reduceToNat];exact q):P:=e q
theorem sl {A P Q:Prop} (a:A) (q:Q) (e:A->Q->P:=by intro a q;try simp only [G5,GN,Nat.reduceAdd,Int.reduceLE,Int.reduceLT,Int.reduceToNat,A1.l a];exact q):P:=e a q
theorem ss {A P Q:Prop} (a:A) (q:Q) (e:A->Q->P:=by intro a q;try simp +decide only [G5,GN,Nat.reduceAdd,Int.reduceLE,Int.reduceLT,Int.reduceToNat,Ox,Ht,L9,A1.al a];exact q):P:=e a q
theorem sd1 {B0 P Q:Prop} (b0:B0) (q:Q) (e:B0->Q->P:=by intro b0 q;try simp +decide only [G5,GN,Nat.reduceAdd,Int.reduceLE,Int.reduceLT,Int.reduceToNat,Ox,Ht,L9,b0];exact q):P:=e b0 q
theorem sd2 {B0 B1 P Q:Prop} (b0:B0) (b1:B1) (q:Q) (e:B0->B1->Q->P:=by intro b0 b1 q;try simp +decide only [G5,GN,Nat.reduceAdd,Int.reduceLE,Int.reduceLT,Int.reduceToNat,Ox,Ht,L9,b0,b1];exact q):P:=e b0 b1 q
theorem sd3 {B0 B1 B2 P Q:Prop} (b0:B0) (b1:B1) (b2:B2) (q:Q) (e:B0->B1->B2->Q->P:=by intro b0 b1 b2 q;try simp +decide only [G5,GN,Nat.reduceAdd,Int.reduceLE,Int.reduceLT,Int.reduceToNat,Ox,Ht,L9,b0,b1,b2];exact q):P:=e b0 b1 b2 q
theorem sd4 {B0 B1 B2 B3 P Q:Prop} (b0:B0) (b1:B1) (b2:B2) (b3:B3) (q:Q) (e:B0->B1->B2->B3->Q->P:=by intro b0 b1 b2 b3 q;try simp +decide only [G5,GN,Nat.reduceAdd,Int.reduceLE,Int.reduceLT,Int.reduceToNat,Ox,Ht,L9,b0,b1,b2,b3];exact q):P:=e b0 b1 b2 b3 q
theorem sd5 {B0 B1 B2 B3 B4 P Q:Prop} (b0:B0) (b1:B1) (b2:B2) (b3:B3) (b4:B4) (q:Q) (e:B0->B1->B2->B3->B4->Q->P:=by intro b0 b1 b2 b3 b4 q;try simp +decide only [G5,GN,Nat.reduceAdd,Int.reduceLE,Int.reduceLT,Int.reduceToNat,Ox,Ht,L9,b0,b1,b2,b3,b4];exact q):P:=e b0 b1 b2 b3 b4 q
theorem se1 {B0 P Q:Prop} (b0:B0) (q:Q) (e:B0->Q->P:=by intro b0 q;try simp only [G5,GN,Nat.reduceAdd,Int.reduceLE,Int.reduceLT,Int.reduceToNat,b0];exact q):P:=e b0 q
theorem se2 {B0 B1 P Q:Prop} (b0:B0) (b1:B1) (q:Q) (e:B0->B1->Q->P:=by intro b0 b1 q;try simp only [G5,GN,Nat.reduceAdd,Int.reduceLE,Int.reduceLT,Int.reduceToNat,b0,b1];exact q):P:=e b0 b1 q
theorem se3 {B0 B1 B2 P Q:Prop} (b0:B0) (b1:B1) (b2:B2) (q:Q) (e:B0->B1->B2->Q->P:=by intro b0 b1 b2 q;try simp only [G5,GN,Nat.reduceAdd,Int.reduceLE,Int.reduceLT,Int.reduceToNat,b0,b1,b2];exact q):P:=e b0 b1 b2 q
end
section
theorem Kd.refl (h:A2):Kd h h:=⟨G0 _,λ_ x=>x⟩
theorem Kd.trans {h h' h'':A2} (a:Kd h h') (b:Kd h' h''):Kd h h'':=⟨R4 a.1 b.1,λD x=>b.2 D (a.2 D x)⟩
theorem getElem?_setC (h:A2) (a:Addr) (v:vQ) (b:Nat):(setC h a v)[b]? =
  if a.block=b then (h[b]?).map (SE5 a v) else h[b]?:=by
 unfold setC;rw [yL7]
theorem Sk9 (h:A2) (a:Addr) (v:vQ):(setC h a v).size=h.size:=by unfold setC;simp
theorem Kd.setC (h:A2) (a:Addr) (v:vQ):Kd h (setC h a v):=⟨by rw [Sk9];exact G0 _,λD x=>by
 rw [getElem?_setC];split <;> simp [x,SE5]⟩
theorem Kd.freezeAt (h:A2) (a:Addr) (n:Nat):Kd h (freezeAt h a n):=by
 unfold Proofs.YtahpbclnkofhfaaGreat.freezeAt;split
 ·exact Kd.refl _
 ·refine ⟨by simp,λD x=>?_⟩
  rw [yL7];split <;> simp [x]
theorem Kd.push (h:A2) (o:Obj):Kd h (h.push o):=⟨by simp,λD x=>by
 have:D < h.size:=(Jx.1 x).1
 rw [Array.getElem?_push_lt this];exact x ▸ (yL4 this).symm⟩
theorem Kd.set {h:A2} {r:Nat} {o:Obj} (hr:h[r]?≠some (.deferred (some []))):Kd h (h.setIfInBounds r o):=⟨by simp,λD x=>by
 rw [yL9];split
 ·rename_i e;subst e;exact absurd x hr
 ·exact x⟩
section
variable {P:Program} {α β:Type}
theorem SE9 (s:Sem α) (f:α->Sem β) (K:β->A2->Prop) (h:A2):hp P (s.bind f) K h=hp P s (λa=>hp P (f a) K) h:=by
 induction s generalizing h with
 | pure a=>rfl
 | load m a k ih=>simp only [Sem.bind,hp,ih]
 | store m a v k ih=>simp only [Sem.bind,hp,ih]
 | new o k ih=>simp only [Sem.bind,hp,ih]
 | shape r k ih=>simp only [Sem.bind,hp,ih]
 | freeze a n k ih=>simp only [Sem.bind,hp,ih]
 | frozen a k ih=>simp only [Sem.bind,hp,ih]
 | getObj r k ih=>simp only [Sem.bind,hp,ih]
 | setObj r o k ih=>simp only [Sem.bind,hp,ih]
 | choose q k ih=>simp only [Sem.bind,hp,ih]
 | sys c k ih=>simp only [Sem.bind,hp]
 | program k ih=>simp only [Sem.bind,hp,ih]
 | mark m k ih=>simp only [Sem.bind,hp,ih]
 | halt h=>simp only [Sem.bind,hp]
theorem B6 (s:Sem α) (f:α->Sem β) (K:β->A2->Prop) (h:A2):hp P (s >>= f) K h=hp P s (λa=>hp P (f a) K) h:=SE9 s f K h
theorem E0 (a:α) (K:α->A2->Prop) (h:A2):hp P (pure a) K h=K a h:=rfl
theorem Ea {v:vQ} {X Y:Prop} (hxy:X->Y) (hx:J0 v X):J0 v Y:=by
 unfold J0 at *;split <;> simp_all
theorem Tq {v:vQ} {X:Prop} (hx:J0 v X):X:=by unfold J0 at hx;split at hx <;> simp_all
theorem X1 {s:Sem α} {K K':α->A2->Prop} (hk:∀a h,K a h->K' a h):∀ {h:A2},hp P s K h->hp P s K' h:=by
 induction s with
 | pure a=>intro h x;exact hk _ _ x
 | load m a k ih=>intro h x;simp only [hp] at x ⊢;split at x <;> simp_all
 | store m a v k ih=>intro h x;simp only [hp] at x ⊢;exact Ea (λ⟨a,b,c⟩=>⟨a,b,ih c⟩) x
 | new o k ih=>intro h x;exact ih _ x
 | shape r k ih=>intro h x;exact ih _ x
 | freeze a n k ih=>intro h x;exact ih x
 | frozen a k ih=>intro h x;exact ih _ x
 | getObj r k ih=>intro h x;simp only [hp] at x ⊢;split at x <;> simp_all
 | setObj r o k ih=>intro h x;simp only [hp] at x ⊢;split at x <;> simp_all
 | choose q k ih=>intro h x t;exact ih _ (x t)
 | sys c k ih=>intro h x;exact x.elim
 | program k ih=>intro h x;exact ih _ x
 | mark m k ih=>intro h x;exact ih x
 | halt h=>intro h x;exact x.elim
theorem Kw.refl (w:World):Kw w w:=⟨Kd.refl _,rfl,rfl⟩
theorem Kw.trans {a b c:World} (x:Kw a b) (y:Kw b c):Kw a c:=⟨x.1.trans y.1,y.2.1.trans x.2.1,y.2.2.trans x.2.2⟩
theorem Tb3 (s:Sem α):∀ {K:α->A2->Prop} {h:A2},hp P s K h->∀w:World,w.heap=h ->
  ∃a w',s.run P w=.ok a w'/\K a w'.heap/\Kw w w':=by
 induction s with
 | pure a=>intro K h x w hw;subst hw;exact ⟨a,w,rfl,x,Kw.refl _⟩
 | load m a k ih=>
  intro K h x w hw;subst hw;simp only [hp] at x
  split at x
  ·rename_i v hv
   obtain ⟨b,w',h1,h2⟩:=ih v x w rfl
   refine ⟨b,w',?_,h2⟩
   have hv':w.cell? a=some v:=hv
   simp only [Sem.run,hv',h1]
  ·exact x.elim
 | store m a v k ih=>
  intro K h x w hw;subst hw;simp only [hp] at x
  obtain ⟨⟨u,hu⟩,hf,hk⟩:=Tq x
  obtain ⟨b,w',h1,h2,h3⟩:=ih hk (w.setCell a v) rfl
  refine ⟨b,w',?_,h2,Kw.trans (b:=w.setCell a v) ⟨Kd.setC _ _ _,rfl,rfl⟩ h3⟩
  have hu':w.cell? a=some u:=hu
  have hf':w.frozen? a=false:=hf
  have e:(w.setCell a v).heap=Proofs.YtahpbclnkofhfaaGreat.setC w.heap a v:=rfl
  cases v <;> first | exact x.elim | simp only [Sem.run,hu',hf',h1];rfl
 | new o k ih=>
  intro K h x w hw;subst hw
  obtain ⟨b,w',h1,h2,h3⟩:=ih _ x { w with heap:=w.heap.push o } rfl
  exact ⟨b,w',h1,h2,Kw.trans (b:={ w with heap:=w.heap.push o }) ⟨Kd.push _ _,rfl,rfl⟩ h3⟩
 | shape r k ih=>intro K h x w hw;subst hw;exact ih _ x w rfl
 | freeze a n k ih=>
  intro K h x w hw;subst hw
  have e:(w.freeze a n).heap=freezeAt w.heap a n:=by unfold World.freeze freezeAt;split <;> rfl
  obtain ⟨b,w',h1,h2,h3⟩:=ih x (w.freeze a n) e
  exact ⟨b,w',h1,h2,Kw.trans (b:=w.freeze a n) ⟨by rw [e];exact Kd.freezeAt _ _ _,by unfold World.freeze;split <;> rfl,by unfold World.freeze;split <;> rfl⟩ h3⟩
 | frozen a k ih=>intro K h x w hw;subst hw;exact ih _ x w rfl
 | getObj r k ih=>
  intro K h x w hw;subst hw;simp only [hp] at x
  split at x
  ·exact x.elim
  ·rename_i o hne hv
   obtain ⟨b,w',h1,h2⟩:=ih o x w rfl
   refine ⟨b,w',?_,h2⟩
   simp only [Sem.run,hv]
   cases o <;> first | exact (hne _ _ _ rfl).elim | exact h1
  ·exact x.elim
 | setObj r o k ih=>
  intro K h x w hw;subst hw;simp only [hp] at x
  split at x
  all_goals first | exact x.elim | (
   rename_i hv
   obtain ⟨b,w',h1,h2,h3⟩:=ih x { w with heap:=w.heap.setIfInBounds r o } rfl
   refine ⟨b,w',?_,h2,Kw.trans (b:={ w with heap:=w.heap.setIfInBounds r o }) ⟨Kd.set (by rw [hv];simp),rfl,rfl⟩ h3⟩
   simp only [Sem.run,hv];exact h1)
 | choose q k ih=>
  intro K h x w hw;subst hw
  by_cases hq:q.forced=true
  ·have x0:=x 0
   simp only [hq,if_true] at x0
   obtain ⟨b,w',h1,h2⟩:=ih _ x0 w rfl
   exact ⟨b,w',by simp only [Sem.run,hq,if_true];exact h1,h2⟩
  ·have x0:=x (w.tape w.drawn q)
   simp only [hq] at x0
   obtain ⟨b,w',h1,h2⟩:=ih _ x0 { w with drawn:=w.drawn+1 } rfl
   exact ⟨b,w',by simp only [Sem.run,hq];exact h1,h2⟩
 | sys c k ih=>intro K h x w hw;exact x.elim
 | program k ih=>intro K h x w hw;exact ih _ x w hw
 | mark m k ih=>intro K h x w hw;exact ih x w hw
 | halt h=>intro K h x w hw;exact x.elim
theorem T7 {t:TypeId} {i:TypeInfo} (hi:P.info? t=some i) (K:TypeInfo->A2->Prop) (h:A2):hp P (typeInfo t) K h=K i h:=by
 simp only [typeInfo,B6];simp [program,hp,hi,E0]
theorem CO {t:TypeId} (h:L0 P t=true):∃i,P.info? t=some i:=by
 unfold L0 at h;rw [EA] at h;exact Se2.1 h.1
theorem PJ {t:TypeId} (h:L0 P t=true):P.underlying t=some (Be P t):=by
 unfold L0 at h;rw [EA] at h;obtain ⟨d,hd⟩:=Se2.1 h.2;unfold Be;rw [hd];rfl
theorem J7 {t:TypeId} (ht:L0 P t=true) (K:Nat->A2->Prop) (h:A2):hp P (sizeOf t) K h=K (M2 P t) h:=by
 obtain ⟨i,hi⟩:=CO ht
 simp only [sizeOf,B6,T7 hi,M2,hi];rfl
theorem E4 {t:TypeId} {d:TypeDesc} (hd:Be P t=d) (hn:d≠.invalid):P.underlying t=some d:=by
 unfold Be at hd;cases hu:P.underlying t with
 | none=>rw [hu] at hd;exact absurd hd.symm hn
 | some e=>rw [hu] at hd;simp at hd;rw [hd]
theorem C8 {t:TypeId} {d:TypeDesc} (hd:P.underlying t=some d) (K:TypeDesc->A2->Prop) (h:A2):hp P (underlying t) K h=K d h:=by
 simp only [underlying,B6];simp [program,hp,hd,E0]
theorem Tr {t:TypeId} {d:TypeDesc} (hd:P.underlying t=some d) (K:Bool->A2->Prop) (h:A2):hp P (isAgg t) K h=K (MJ P t) h:=by
 have hu:Be P t=d:=by unfold Be;rw [hd];rfl
 simp only [isAgg,B6,C8 hd,MJ,hu]
 cases d <;> rfl
theorem R5 {t:TypeId} {z:vQ} (hz:GZ P t=some z) (K:kQ) (h:A2):hp P (zeroValue t) K h=K z h:=by
 unfold GZ at hz
 cases hi:P.info? t with
 | none=>rw [hi] at hz;cases hz
 | some i=>
  rw [hi] at hz;simp at hz
  simp only [zeroValue,B6,T7 hi,hz];rfl
end
end
section
section
variable {P:Program} {ρ:Operand->vQ} {h:A2} {K:kQ}
theorem V9 {v:vQ} {F:Addr->Prop} (H:F3 v F):∃a,v=.pointer (some a)/\F a:=by unfold F3 at H;split at H <;> first | exact ⟨_,rfl,H⟩ | exact H.elim
theorem Y8 {v:vQ} {F:rQ->Prop} (H:C9 v F):∃a,v=.pointer a/\F a:=by unfold C9 at H;split at H <;> first | exact ⟨_,rfl,H⟩ | exact H.elim
theorem M1 {k:IntKind} {v:vQ} {F:Int->Prop} (H:asInt k v F):∃n,v=.int k n/\F n:=by
 unfold asInt at H;split at H
 ·split at H
  ·rename_i e;subst e;exact ⟨_,rfl,H⟩
  ·exact H.elim
 ·exact H.elim
theorem BI {v:vQ} {F:Int->Prop} (H:Il v F):∃k n,v=.int k n/\F n:=by unfold Il at H;split at H <;> first | exact ⟨_,_,rfl,H⟩ | exact H.elim
theorem O4 {v:vQ} {F:Bool->Prop} (H:asBool v F):∃b,v=.bool b/\F b:=by unfold asBool at H;split at H <;> first | exact ⟨_,rfl,H⟩ | exact H.elim
theorem L7 {v:vQ} {F:ByteArray->Prop} (H:L8 v F):∃s,v=.string s/\F s:=by unfold L8 at H;split at H <;> first | exact ⟨_,rfl,H⟩ | exact H.elim
theorem O9 {v:vQ} {F:rQ->Nat->Nat->Prop} (H:D3 v F):∃a l c,v=.slice a l c/\F a l c:=by unfold D3 at H;split at H <;> first | exact ⟨_,_,_,rfl,H⟩ | exact H.elim
theorem Aw {v:vQ} {F:Array vQ->Prop} (H:asAgg v F):∃a,v=.agg a/\F a:=by unfold asAgg at H;split at H <;> first | exact ⟨_,rfl,H⟩ | exact H.elim
theorem Ky {v:vQ} {F:Array vQ->Prop} (H:J3 v F):∃a,v=.tuple a/\F a:=by unfold J3 at H;split at H <;> first | exact ⟨_,rfl,H⟩ | exact H.elim
theorem FE {v:vQ} {F:Option Nat->Prop} (H:CG v F):∃a,v=.map a/\F a:=by unfold CG at H;split at H <;> first | exact ⟨_,rfl,H⟩ | exact H.elim
theorem EO {v:vQ} {F:Bool->Prop} (H:X0 v F):(v=.nilFunc/\F true)\/(∃f a b,v=.func f a b/\F false):=by
 unfold X0 at H;split at H
 ·exact .inl ⟨rfl,H⟩
 ·exact .inr ⟨_,_,_,rfl,H⟩
 ·exact H.elim
theorem IZ {v:vQ} {X:Prop} (H:J0 v X):v.cells=#[v]/\X:=by unfold J0 at H;split at H <;> simp_all [Value.cells]
theorem MK {cs:Array vQ} {F:List vQ->Prop}:∀(n i:Nat) (acc:List vQ),Dq cs n i acc F->F (acc.reverse ++ (cs.toList.drop i).take n):=by
 intro n
 induction n with
 | zero=>intro i acc H;simpa using (show F acc.reverse from H)
 | succ n ih=>
  intro i acc H
  unfold Dq D9 at H
  split at H
  ·rename_i v hv
   have:=ih _ _ H
   rw [<- GQ] at hv
   obtain ⟨hlt,hv⟩:=IW.1 hv
   rw [SZ5 hlt,hv]
   simpa using this
  ·exact H.elim
theorem Sl0 {cs:Array vQ} {F:List vQ->Prop}:∀(n i:Nat) (acc:List vQ),i+n<=cs.size->F (acc.reverse ++ (cs.toList.drop i).take n)->Dq cs n i acc F:=by
 intro n
 induction n with
 | zero=>intro i acc _ H;show F acc.reverse;simpa using H
 | succ n ih=>
  intro i acc hi H
  have hlt:i < cs.toList.length:=by simp;omega
  show D9 cs i λv=>Dq cs n (i+1) (v :: acc) F
  unfold D9
  rw [<- GQ,X7 hlt]
  refine ih _ _ (by omega) ?_
  rw [SZ5 hlt] at H
  simpa using H
theorem Tt {n:Nat} {v:vQ} {F:List vQ->Prop} (H:Xz n v F):F v.cells.toList/\∀F':List vQ->Prop,F' v.cells.toList->Xz n v F':=by
 cases hb:Nat.ble n 64 with
 | true=>
  have e:∀F:List vQ->Prop,Xz n v F=asAgg v λcs=>G3 cs n (Dq cs n 0 [] F):=λF=>by unfold Xz;rw [hb]
  rw [e] at H
  obtain ⟨cs,rfl,H1⟩:=Aw H
  unfold G3 at H1
  split at H1
  ·rename_i hn
   have hn':=PD hn
   have h1:=MK _ _ _ H1
   have e2:(cs.toList.drop 0).take n=cs.toList:=by rw [List.drop_zero,Dg (by simp [hn'])]
   rw [e2] at h1
   refine ⟨h1,λF' x=>?_⟩
   rw [e]
   show G3 cs n _
   unfold G3
   rw [hn]
   refine Sl0 n 0 [] (by omega) ?_
   rw [e2]
   exact x
  ·exact H1.elim
 | false=>
  have e:∀F:List vQ->Prop,Xz n v F=asAgg v λcs=>F cs.toList:=λF=>by unfold Xz;rw [hb]
  rw [e] at H
  obtain ⟨cs,rfl,H1⟩:=Aw H
  exact ⟨H1,λF' x=>by rw [e];exact x⟩
theorem Gc {t:TypeId} {v:vQ} {F:List vQ->Prop} (H:Eh P t v F):F v.cells.toList:=by
 unfold Eh at H;split at H
 ·exact (Tt H).1
 ·obtain ⟨e,H⟩:=IZ H;rw [e];exact H
theorem Se5 {b:Bool} {X Y:Prop} (H:D4 b X Y):if b then X else Y:=by cases b <;> exact H
theorem JC {a:Addr} {F:vQ->Prop} (H:D2 h a F):∃v,A3 h a=some v/\F v:=by unfold D2 at H;split at H <;> first | exact ⟨_,‹_›,H⟩ | exact H.elim
theorem EE (s:Sem vQ):hp P (do let x <- s;pure (Next.value x)) (nxt P K) h=hp P s K h:=by rw [B6];rfl
theorem Th0 (s:Sem Unit):hp P (do s;pure Next.skip) (nxt P K) h=hp P s (λ_=>K Bq) h:=by rw [B6];rfl
theorem M8 (a:Addr) (n:Nat):∀(i:Nat) (acc:List vQ) (F:Array vQ->A2->Prop),ldN h a i n acc (λcs=>F cs.toArray h) ->
  hp P (loadCellsFrom a i n acc.reverse.toArray) F h:=by
 induction n with
 | zero=>intro i acc F H;exact H
 | succ n ih=>
  intro i acc F H
  obtain ⟨v,hv,H⟩:=JC H
  have:=ih (i+1) (v :: acc) F H
  simp only [loadCellsFrom,B6,load,hp,hv]
  simpa using this
theorem Y9 (a:Addr) (vs:List vQ):∀(h:A2) (i:Nat) (F:A2->Prop),OH h a i vs F->hp P (storeCells a vs i) (λ_=>F) h:=by
 induction vs with
 | nil=>intro h i F H;exact H
 | cons v vs ih=>
  intro h i F H
  simp only [storeCells,B6,store,hp]
  exact Ea (λ⟨h1,h2,h3⟩=>⟨h1,h2,ih _ _ _ h3⟩) H
theorem ML {t:TypeId} {a:Addr} (ht:L0 P t=true)
  (H:if MJ P t then ldN h a 0 (M2 P t) [] (λcs=>K (.agg cs.toArray) h) else D2 h a λv=>K v h):hp P (loadVar t a) K h:=by
 simp only [loadVar,B6,Tr (PJ ht)]
 split at H
 ·simp only [*,if_true,B6,J7 ht]
  exact M8 a _ 0 [] (λcs h'=>K (.agg cs) h') H
 ·rename_i hn
  simp only [hn]
  obtain ⟨v,hv,H⟩:=JC H
  simp only [load,hp,hv];simpa [load,hp,hv] using H
theorem Tu {t:TypeId} {a:Addr} {v:vQ} {F:A2->Prop} (ht:L0 P t=true) (hs:v.cells.toList.length=M2 P t)
  (H:OH h a 0 v.cells.toList F):hp P (storeVar t a v) (λ_=>F) h:=by
 simp only [storeVar,B6,J7 ht]
 rw [A7 (by simpa using hs)]
 exact Y9 a _ h 0 F H
theorem Rd {t:TypeId} {cs:Array vQ} {off:Nat} {v:vQ} (ht:L0 P t=true) (hv:PG P t cs off=some v) (F:kQ):hp P (part t cs off) F h=F v h:=by
 unfold PG at hv
 simp only [part,B6,Tr (PJ ht)]
 split at hv
 ·cases hv;simp only [*,if_true,B6,J7 ht];rfl
 ·rename_i hn;simp only [hn];simp [hv];rfl
theorem Ft {α:Type} {c:Prop} [Decidable c] (a b:Sem α) (F:α->A2->Prop) (h:A2):hp P (if c then a else b) F h=if c then hp P a F h else hp P b F h:=by split <;> rfl
theorem CP (F:Program->A2->Prop) (h:A2):hp P program F h=F P h:=rfl
theorem Sl1 {x y:Option Bool} {b:Bool} (H:Tn x y=some b):∃p q,x=some p/\y=some q/\b=(p && q):=by
 unfold Tn at H;split at H
 ·simp at H;exact ⟨_,_,rfl,rfl,H.symm⟩
 ·cases H
theorem JD {t:TypeId} {cs:Array vQ} {off:Nat} {v:vQ} (hv:EN P t cs off=some v) (F:kQ) (h:A2):hp P (part t cs off) F h=F v h:=by
 unfold EN at hv;split at hv
 ·exact Rd ‹_› hv F
 ·cases hv
theorem PK {ι:Type} (l:List ι) (ok:ι->Option Bool) (g:ι->Option Bool × Unit->Sem (ForInStep (Option Bool × Unit))) (G:Option Bool × Unit->A2->Prop) (h:A2) :
  ∀b,l.foldr (λi acc=>Tn (ok i) acc) (some true)=some b ->
  (∀i s c,ok i=some c->∀(F:ForInStep (Option Bool × Unit)->A2->Prop),hp P (g i s) F h=F (if c then .yield (none,()) else .done (some false,())) h) ->
  hp P (forIn l ((none,()):Option Bool × Unit) g) G h=if b then G (none,()) h else G (some false,()) h:=by
 induction l with
 | nil=>intro b H _;simp at H;subst H;simp [E0]
 | cons i l ih=>
  intro b H hf
  simp only [List.foldr_cons] at H
  obtain ⟨p,q,hp1,hq,rfl⟩:=Sl1 H
  simp only [List.forIn_cons,B6,hf i _ p hp1]
  cases p
  ·simp [E0]
  ·simp only [FC,if_true]
   exact ih q hq hf
theorem Tb4 (d:Nat):∀(t:TypeId) (x y:vQ) (b:Bool),eqv P d t x y=some b->∀(F:Bool->A2->Prop) (h:A2),hp P (Op.equalIn d t x y) F h=F b h:=by
 induction d with
 | zero=>intro t x y b H;simp [eqv] at H
 | succ d ih=>
  intro t x y b H F h
  unfold eqv at H
  split at H
  ·rename_i hu;simp only [Op.equalIn,B6,C8 (E4 hu (by simp))];simp at H;subst H;rfl
  ·rename_i hu;simp only [Op.equalIn,B6,C8 (E4 hu (by simp))]
   split at H <;> simp at H
   subst H;simp only [*,if_true];rfl
  ·rename_i hu;simp only [Op.equalIn,B6,C8 (E4 hu (by simp))];simp at H;subst H;rfl
  ·rename_i fields xs ys hu
   simp only [Op.equalIn,B6,C8 (E4 hu (by simp)),CP]
   split at H
   ·cases H
   ·rename_i hst
    rw [A7 hst]
    simp only [B6,<- Array.forIn_toList]
    refine (PK (P:=P) fields.toList (λf=>if f.name = "_" then none else match EN P f.type xs f.offset,EN P f.type ys f.offset with | some x,some y=>eqv P d f.type x y | _,_=>none) _ _ h b ?_ ?_).trans ?_
    ·refine Eq.trans ?_ H
     congr 1
     funext f acc
     by_cases hn:f.name = "_"
     ·simp [hn,Tn]
     ·cases h2:EN P f.type xs f.offset <;> cases h3:EN P f.type ys f.offset <;> simp [hn,Tn]
    ·intro f s c hc F'
     split at hc
     ·cases hc
     ·rename_i hn
      split at hc
      ·rename_i a e h1 h2
       simp only [ne_eq,hn,not_false_eq_true,if_true,B6,JD h1,JD h2,ih _ _ _ _ hc,Ft]
       cases c <;> rfl
      ·cases hc
    ·cases b <;> rfl
  ·rename_i len elem xs ys hu
   split at H
   ·rename_i hth
    simp only [Op.equalIn,B6,C8 (E4 hu (by simp)),CP,J7 hth]
    rw [Std.Legacy.Range.forIn_eq_forIn_range']
    refine (PK (P:=P) _ (λi=>match EN P elem xs (i*M2 P elem),EN P elem ys (i*M2 P elem) with | some x,some y=>eqv P d elem x y | _,_=>none) _ _ h b ?_ ?_).trans ?_
    ·refine Eq.trans ?_ H
     have e:(Std.Legacy.Range.size [:len])=len:=by simp [Std.Legacy.Range.size]
     rw [e]
     congr 1
     funext i acc
     cases h2:EN P elem xs (i*M2 P elem) <;> cases h3:EN P elem ys (i*M2 P elem) <;> simp [Tn]
    ·intro i s c hc F'
     split at hc
     ·rename_i a e h1 h2
      simp only [B6,JD h1,JD h2,ih _ _ _ _ hc,Ft]
      cases c <;> rfl
     ·cases hc
    ·cases b <;> rfl
   ·cases H
  ·cases H
theorem Re {t:TypeId} {x y:vQ} {F:Bool->Prop} (H:Gb P t x y F):(∃b,hp P (Op.equal t x y)=(λG h=>G b h)/\F b)/\P.eqGuardType P.depth t=false/\∃xs,x=.agg xs:=by
 unfold Gb at H
 split at H
 ·exact H.elim
 ·rename_i hg
  obtain ⟨xs,rfl,H⟩:=Aw H
  split at H
  ·rename_i b hb
   exact ⟨⟨b,funext λG=>funext λh=>Tb4 10000 t _ y b hb G h,H⟩,by simpa using hg,_,rfl⟩
  ·exact H.elim
end
end
section
section
variable {P:Program} {ρ:Operand->vQ} {h:A2} {K:kQ}
theorem Tv (vs:List vQ):∀(cs:List vQ) (off:Nat),
  (vs.zipIdx).foldl (λ(a:Array vQ) (x:vQ × Nat)=>a.setIfInBounds (off+x.2) x.1) cs.toArray=(Ce cs off vs).toArray:=by
 have key:∀(vs:List vQ) (k:Nat) (cs:List vQ) (off:Nat),
   (vs.zipIdx k).foldl (λ(a:Array vQ) (x:vQ × Nat)=>a.setIfInBounds (off+x.2) x.1) cs.toArray=(Ce cs (off+k) vs).toArray:=by
  intro vs
  induction vs with
  | nil=>intro k cs off;rfl
  | cons v vs ih=>
   intro k cs off
   simp only [List.zipIdx_cons,Te,Ce,SE3]
   rw [ih (k+1)];rfl
 intro cs off;exact key vs 0 cs off
theorem Ja {place:Nat->Option (Nat × TypeId)} (parts:List (Nat × vQ)):∀(cells:List vQ) (F:List vQ->Prop),
  GH P place cells parts F->∃cs:List vQ,Instr.fill (λi=>(place i).map λx=>(x.1,M2 P x.2)) cells.toArray parts=some cs.toArray/\F cs:=by
 induction parts with
 | nil=>intro cells F H;exact ⟨cells,rfl,H⟩
 | cons p rest ih=>
  obtain ⟨i,v⟩:=p
  intro cells F H
  unfold GH at H
  split at H
  ·exact H.elim
  ·rename_i off t hp1
   have H:=Gc H
   split at H
   ·rename_i hs
    obtain ⟨cs,h1,h2⟩:=ih _ _ H
    refine ⟨cs,?_,h2⟩
    unfold Instr.fill
    simp only [hp1,JA]
    have hs1:v.cells.size=M2 P t:=by simpa using hs.1
    rw [A7 (by simp [hs1];omega)]
    rw [<- h1]
    congr 1
    have:=Tv v.cells.toList cells off
    rw [<- this]
    rw [<- Array.foldl_toList]
    simp [Array.toList_zipIdx]
   ·exact H.elim
theorem Im {t:TypeId} {z:vQ} (hz:GZ P t=some z):(Bp P t).toArray=z.cells:=by
 unfold Bp;rw [hz];cases z <;> simp [Value.cells]
theorem SF0 (z:List vQ) (n:Nat) (hz:0 < z.length) :
  (Array.range (n*z.length)).map (λi=>z.toArray[i % z.toArray.size]!)=((List.replicate n z).flatten).toArray:=by
 apply Array.toList_inj.1
 simp only [Array.toList_map,Array.toList_range,PC]
 induction n with
 | zero=>simp
 | succ n ih=>
  rw [Nat.succ_mul,List.range_add,GW,ih,List.replicate_succ',SZ7]
  congr 1
  simp only [List.map_map,List.flatten_cons,List.flatten_nil,Xv]
  apply Xw (by simp)
  intro i h1 h2
  simp at h1
  simp [Nat.mul_add_mod_of_lt,Nat.mod_eq_of_lt h1,h1,Nat.mul_comm n]
theorem JE {t:TypeId} (hz:(GZ P t).isSome=true):∃z,GZ P t=some z:=Se2.1 hz
theorem SF1 {k:IntKind} {op:BinOp} {a b:Int} (H:Lf k op a b λv=>K v h) (hs:op≠.shl/\op≠.shr) :
  hp P (binOp op 0 (.int k a) (.int k b)) K h:=by
 cases op <;> simp only [Lf,binOp,Op.intArith,Op.intDiv,Op.intBits,Op.intCmp,ne_eq,not_true,if_false] at H ⊢ <;> first
  | exact H
  | (rw [A7 H.1];exact H.2)
  | exact H.elim
  | (exact absurd rfl hs.1)
  | (exact absurd rfl hs.2)
theorem Sl2 {k:IntKind} {op:BinOp} {a b:Int} (t:TypeId) (hs:op≠.shl/\op≠.shr):binOp op t (.int k a) (.int k b)=binOp op 0 (.int k a) (.int k b):=by
 cases op <;> first | rfl | exact absurd rfl hs.1 | exact absurd rfl hs.2
end
end
section
section
variable {P:Program} {ρ:Operand->vQ} {h:A2} {K:kQ}
theorem I9 {op:BinOp} {t:TypeId} {x y:Operand} {a b:vQ} (F:Unit->A2->Prop)
  (hs:(op≠.eql/\op≠.neq)\/((∀xs,a≠.agg xs)/\a≠.nilIface)\/(P.eqGuardType P.depth t=false/\∃xs,a=.agg xs)):hp P (eqGuard op t x y a b) F h=F () h:=by
 unfold eqGuard
 rcases hs with ⟨h1,h2⟩ | ⟨h1,h2⟩ | ⟨h1,xs,rfl⟩
 ·cases op <;> first | rfl | exact absurd rfl h1 | exact absurd rfl h2
 ·cases op <;> first | rfl | (cases a <;> first | exact absurd rfl h2 | exact absurd rfl (h1 _) | rfl)
 ·cases op <;> first | rfl | (cases b <;> first | rfl | (simp [B6,CP,h1,E0]))
theorem V2 {t:TypeId} {a b:vQ} (ha:∀k n,a≠.int k n) (ha2:∀s,a≠.string s) (ha3:∀k n,a≠.float k n) (ha4:∀k n m,a≠.complex k n m) (F:kQ) :
  hp P (binOp .eql t a b) F h=hp P (Op.equal t a b) (λr h=>F (.bool r) h) h:=by
 cases a <;> first | exact absurd rfl (ha _ _) | exact absurd rfl (ha2 _) | exact absurd rfl (ha3 _ _) | exact absurd rfl (ha4 _ _ _) | (cases b <;> simp only [binOp,B6] <;> rfl)
theorem V3 {t:TypeId} {a b:vQ} (ha:∀k n,a≠.int k n) (ha2:∀s,a≠.string s) (ha3:∀k n,a≠.float k n) (ha4:∀k n m,a≠.complex k n m) (F:kQ) :
  hp P (binOp .neq t a b) F h=hp P (Op.equal t a b) (λr h=>F (.bool (!r)) h) h:=by
 cases a <;> first | exact absurd rfl (ha _ _) | exact absurd rfl (ha2 _) | exact absurd rfl (ha3 _ _) | exact absurd rfl (ha4 _ _ _) | (cases b <;> simp only [binOp,B6] <;> rfl)
theorem Tx {y:Operand} (hy:S02 y=true) (hc:∀v,ρ (.const v)=v):ρ y=.pointer none:=by
 unfold S02 at hy;split at hy <;> first | exact hc _ | cases hy
theorem Ty {y:Operand} (hy:S03 y=true) (hc:∀v,ρ (.const v)=v):∃l c,ρ y=.slice none l c:=by
 unfold S03 at hy;split at hy <;> first | exact ⟨_,_,hc _⟩ | cases hy
theorem Tz {y:Operand} (hy:Tb2 y=true) (hc:∀v,ρ (.const v)=v):ρ y=.map none:=by
 unfold Tb2 at hy;split at hy <;> first | exact hc _ | cases hy
theorem TA {y:Operand} (hy:S04 y=true) (hc:∀v,ρ (.const v)=v):ρ y=.nilFunc:=by
 unfold S04 at hy;split at hy <;> first | exact hc _ | cases hy
theorem R6 (t:TypeId) (x y:vQ):Op.equal t x y=Op.equalIn (9999+1) t x y:=rfl
theorem PL (d:Nat) {t:TypeId} {a b:Bool} (hu:P.underlying t=some .bool) (F:Bool->A2->Prop) (h:A2):hp P (Op.equalIn (d+1) t (.bool a) (.bool b)) F h=F (a == b) h:=by
 simp only [Op.equalIn,B6,C8 hu];rfl
theorem TC (d:Nat) {t e:TypeId} {a:rQ} (hu:P.underlying t=some (.pointer e)) (F:Bool->A2->Prop) (h:A2):hp P (Op.equalIn (d+1) t (.pointer a) (.pointer none)) F h=F a.isNone h:=by
 cases a <;> simp only [Op.equalIn,B6,C8 hu] <;> rfl
theorem MM (d:Nat) {t e:TypeId} {a:rQ} {l c l' c':Nat} (hu:P.underlying t=some (.slice e)) (F:Bool->A2->Prop) (h:A2):hp P (Op.equalIn (d+1) t (.slice a l c) (.slice none l' c')) F h=F a.isNone h:=by
 cases a <;> simp only [Op.equalIn,B6,C8 hu] <;> rfl
theorem TD (d:Nat) {t e e':TypeId} {a:Option Nat} (hu:P.underlying t=some (.map e e')) (F:Bool->A2->Prop) (h:A2):hp P (Op.equalIn (d+1) t (.map a) (.map none)) F h=F a.isNone h:=by
 cases a <;> simp only [Op.equalIn,B6,C8 hu] <;> rfl
theorem TE (d:Nat) {t:TypeId} {a b:Array TypeId} {c:Bool} (hu:P.underlying t=some (.func a b c)) (F:Bool->A2->Prop) (h:A2):hp P (Op.equalIn (d+1) t .nilFunc .nilFunc) F h=F true h:=by
 simp only [Op.equalIn,B6,C8 hu];rfl
theorem TG (d:Nat) {t:TypeId} {a b:Array TypeId} {c:Bool} {f:Fn} {x y:Array vQ} (hu:P.underlying t=some (.func a b c)) (F:Bool->A2->Prop) (h:A2):hp P (Op.equalIn (d+1) t (.func f x y) .nilFunc) F h=F false h:=by
 simp only [Op.equalIn,B6,C8 hu];rfl
theorem XA {op:BinOp} {xt yt:TypeId} {x y:Operand} {o:Oper} (ho:o.op=.binOp op xt x y yt) (hc:∀v,ρ (.const v)=v)
  (H:Mi P op xt yt x y ρ o h K):hp P (execOp ρ o) (nxt P K) h:=by
 have e:execOp ρ o=(do let r <- (do eqGuard op xt x y (ρ x) (ρ y);binOp op xt (ρ x) (ρ y));pure (Next.value r)):=by unfold execOp;rw [ho]
 have toh:hp P (do eqGuard op xt x y (ρ x) (ρ y);binOp op xt (ρ x) (ρ y)) K h->hp P (execOp ρ o) (nxt P K) h:=λq=>by rw [e,EE];exact q
 have fall:Rc P ρ o h K->hp P (execOp ρ o) (nxt P K) h:=id
 unfold Mi at H
 split at H
 ·rename_i k hk
  split at H
  ·split at H
   ·obtain ⟨a,ha,H⟩:=M1 H
    obtain ⟨b,hb,H⟩:=M1 H
    apply toh
    rw [ha,hb]
    simp only [B6]
    rw [I9 _ (.inl ⟨by simp,by simp⟩)]
    simp only [Tp,binOp,Op.shift] at H ⊢
    rw [A7 (by have:=H.1;omega)]
    exact H.2
   ·exact H.elim
  ·split at H
   ·obtain ⟨a,ha,H⟩:=M1 H
    obtain ⟨b,hb,H⟩:=M1 H
    apply toh
    rw [ha,hb]
    simp only [B6]
    rw [I9 _ (.inl ⟨by simp,by simp⟩)]
    simp only [Tp,binOp,Op.shift] at H ⊢
    rw [A7 (by have:=H.1;omega)]
    exact H.2
   ·exact H.elim
  ·rename_i n1 n2
   obtain ⟨a,ha,H⟩:=M1 H
   obtain ⟨b,hb,H⟩:=M1 H
   have hs:op≠.shl/\op≠.shr:=⟨n1,n2⟩
   apply toh
   rw [ha,hb]
   simp only [B6]
   rw [I9 _ (.inr (.inl ⟨by simp,by simp⟩)),Sl2 xt hs]
   exact SF1 H hs
 ·rename_i hu
  split at H
  ·obtain ⟨a,ha,H⟩:=O4 H
   obtain ⟨b,hb,H⟩:=O4 H
   apply toh
   rw [ha,hb]
   simp only [B6]
   rw [I9 _ (.inr (.inl ⟨by simp,by simp⟩)),V2 (by simp) (by simp) (by simp) (by simp)]
   rw [R6,PL _ (E4 hu (by simp))]
   exact H
  ·obtain ⟨a,ha,H⟩:=O4 H
   obtain ⟨b,hb,H⟩:=O4 H
   apply toh
   rw [ha,hb]
   simp only [B6]
   rw [I9 _ (.inr (.inl ⟨by simp,by simp⟩)),V3 (by simp) (by simp) (by simp) (by simp)]
   rw [R6,PL _ (E4 hu (by simp))]
   exact H
  ·exact H.elim
 ·rename_i hu
  split at H
  ·obtain ⟨a,ha,H⟩:=L7 H
   obtain ⟨b,hb,H⟩:=L7 H
   apply toh
   rw [ha,hb]
   simp only [B6]
   rw [I9 _ (.inr (.inl ⟨by simp,by simp⟩))]
   exact H
  ·obtain ⟨a,ha,H⟩:=L7 H
   obtain ⟨b,hb,H⟩:=L7 H
   apply toh
   rw [ha,hb]
   simp only [B6]
   rw [I9 _ (.inr (.inl ⟨by simp,by simp⟩))]
   exact H
  ·obtain ⟨a,ha,H⟩:=L7 H
   obtain ⟨b,hb,H⟩:=L7 H
   apply toh
   rw [ha,hb]
   simp only [B6]
   rw [I9 _ (.inl ⟨by simp,by simp⟩)]
   simp only [binOp,Op.stringOp]
   rw [A7 (by have:=H.1;have e:IntKind.i64.max=9223372036854775807:=(by decide);omega)]
   exact H.2
  ·exact fall H
 ·rename_i el hu
  split at H
  ·rename_i hn
   have hy:=Tx hn hc
   obtain ⟨a,ha,H⟩:=Y8 H
   apply toh
   rw [ha,hy]
   simp only [B6]
   rw [I9 _ (.inr (.inl ⟨by simp,by simp⟩)),V2 (by simp) (by simp) (by simp) (by simp),R6,TC _ (E4 hu (by simp))]
   exact H
  ·rename_i hn
   have hy:=Tx hn hc
   obtain ⟨a,ha,H⟩:=Y8 H
   apply toh
   rw [ha,hy]
   simp only [B6]
   rw [I9 _ (.inr (.inl ⟨by simp,by simp⟩)),V3 (by simp) (by simp) (by simp) (by simp),R6,TC _ (E4 hu (by simp))]
   exact H
  ·obtain ⟨a,ha,H⟩:=Y8 H
   obtain ⟨b,hb,H⟩:=Y8 H
   apply toh
   rw [ha,hb]
   simp only [B6]
   rw [I9 _ (.inr (.inl ⟨by simp,by simp⟩))]
   exact H
  ·obtain ⟨a,ha,H⟩:=Y8 H
   obtain ⟨b,hb,H⟩:=Y8 H
   apply toh
   rw [ha,hb]
   simp only [B6]
   rw [I9 _ (.inr (.inl ⟨by simp,by simp⟩))]
   exact H
  ·exact fall H
 ·rename_i el hu
  split at H
  ·rename_i hn
   obtain ⟨l0,c0,hy⟩:=Ty hn hc
   obtain ⟨a,l,c,ha,H⟩:=O9 H
   apply toh
   rw [ha,hy]
   simp only [B6]
   rw [I9 _ (.inr (.inl ⟨by simp,by simp⟩)),V2 (by simp) (by simp) (by simp) (by simp),R6,MM _ (E4 hu (by simp))]
   exact H
  ·rename_i hn
   obtain ⟨l0,c0,hy⟩:=Ty hn hc
   obtain ⟨a,l,c,ha,H⟩:=O9 H
   apply toh
   rw [ha,hy]
   simp only [B6]
   rw [I9 _ (.inr (.inl ⟨by simp,by simp⟩)),V3 (by simp) (by simp) (by simp) (by simp),R6,MM _ (E4 hu (by simp))]
   exact H
  ·exact fall H
 ·rename_i e1 e2 hu
  split at H
  ·rename_i hn
   have hy:=Tz hn hc
   obtain ⟨a,ha,H⟩:=FE H
   apply toh
   rw [ha,hy]
   simp only [B6]
   rw [I9 _ (.inr (.inl ⟨by simp,by simp⟩)),V2 (by simp) (by simp) (by simp) (by simp),R6,TD _ (E4 hu (by simp))]
   exact H
  ·rename_i hn
   have hy:=Tz hn hc
   obtain ⟨a,ha,H⟩:=FE H
   apply toh
   rw [ha,hy]
   simp only [B6]
   rw [I9 _ (.inr (.inl ⟨by simp,by simp⟩)),V3 (by simp) (by simp) (by simp) (by simp),R6,TD _ (E4 hu (by simp))]
   exact H
  ·exact fall H
 ·rename_i e1 e2 e3 hu
  split at H
  ·rename_i hn
   have hy:=TA hn hc
   rcases EO H with ⟨ha,H⟩ | ⟨f,a,b,ha,H⟩
   ·apply toh
    rw [ha,hy]
    simp only [B6]
    rw [I9 _ (.inr (.inl ⟨by simp,by simp⟩)),V2 (by simp) (by simp) (by simp) (by simp),R6,TE _ (E4 hu (by simp))]
    exact H
   ·apply toh
    rw [ha,hy]
    simp only [B6]
    rw [I9 _ (.inr (.inl ⟨by simp,by simp⟩)),V2 (by simp) (by simp) (by simp) (by simp),R6,TG _ (E4 hu (by simp))]
    exact H
  ·rename_i hn
   have hy:=TA hn hc
   rcases EO H with ⟨ha,H⟩ | ⟨f,a,b,ha,H⟩
   ·apply toh
    rw [ha,hy]
    simp only [B6]
    rw [I9 _ (.inr (.inl ⟨by simp,by simp⟩)),V3 (by simp) (by simp) (by simp) (by simp),R6,TE _ (E4 hu (by simp))]
    exact H
   ·apply toh
    rw [ha,hy]
    simp only [B6]
    rw [I9 _ (.inr (.inl ⟨by simp,by simp⟩)),V3 (by simp) (by simp) (by simp) (by simp),R6,TG _ (E4 hu (by simp))]
    exact H
  ·exact fall H
 ·rename_i hu
  split at H
  ·obtain ⟨⟨b,hb,H⟩,hg,xs,hx⟩:=Re H
   apply toh
   rw [hx] at hb ⊢
   simp only [B6]
   rw [I9 _ (.inr (.inr ⟨hg,_,rfl⟩)),V2 (by simp) (by simp) (by simp) (by simp),hb]
   exact H
  ·obtain ⟨⟨b,hb,H⟩,hg,xs,hx⟩:=Re H
   apply toh
   rw [hx] at hb ⊢
   simp only [B6]
   rw [I9 _ (.inr (.inr ⟨hg,_,rfl⟩)),V3 (by simp) (by simp) (by simp) (by simp),hb]
   exact H
  ·exact H.elim
 ·rename_i hu
  split at H
  ·obtain ⟨⟨b,hb,H⟩,hg,xs,hx⟩:=Re H
   apply toh
   rw [hx] at hb ⊢
   simp only [B6]
   rw [I9 _ (.inr (.inr ⟨hg,_,rfl⟩)),V2 (by simp) (by simp) (by simp) (by simp),hb]
   exact H
  ·obtain ⟨⟨b,hb,H⟩,hg,xs,hx⟩:=Re H
   apply toh
   rw [hx] at hb ⊢
   simp only [B6]
   rw [I9 _ (.inr (.inr ⟨hg,_,rfl⟩)),V3 (by simp) (by simp) (by simp) (by simp),hb]
   exact H
  ·exact H.elim
 ·exact fall H
end
end
section
section
variable {P:Program} {ρ:Operand->vQ} {h:A2} {K:kQ}
theorem Cg {v:vQ} {i:Int} {k:IntKind} {y:Nat} {code:BoundsCode} (hv:v=.int k i) (h0:0<=i) (h1:i<=y) (F:Nat->A2->Prop) :
  hp P (Instr.sliceBound v y code) F h=F i.toNat h:=by
 subst hv
 simp only [Instr.sliceBound,asIntOf,B6,E0]
 rw [A8 ⟨h0,h1⟩];rfl
theorem BN {v:Option vQ} {d m:Nat} {F:Nat->Prop} (H:BM none v d m F) :
  (v=none/\F d)\/∃k i,v=some (.int k i)/\0<=i/\i<=m/\F i.toNat:=by
 unfold BM at H
 split at H
 ·exact .inl ⟨rfl,H⟩
 ·split at H
  ·obtain ⟨k,i,rfl,H⟩:=BI H
   exact .inr ⟨_,_,rfl,H⟩
  ·cases ‹none=some _›
theorem Ei {isSlice:Bool} {len cap:Nat} {lo hi mx:Option vQ} {F:Nat × Nat × Nat->A2->Prop} (hm:mx=none\/hi≠none)
  (H:BM none mx cap cap λm=>BM none hi len m λh'=>BM none lo 0 h' λl=>F (l,h',m) h) :
  hp P (Instr.sliceBounds isSlice len cap lo hi mx) F h:=by
 rcases BN H with ⟨rfl,H1⟩ | ⟨k,i,rfl,h0,h1,H1⟩
 ·rcases BN H1 with ⟨rfl,H2⟩ | ⟨k,i,rfl,h0,h1,H2⟩
  ·rcases BN H2 with ⟨rfl,H3⟩ | ⟨k,i,rfl,h0,h1,H3⟩
   ·exact H3
   ·simp only [Instr.sliceBounds,B6,E0,Cg rfl h0 h1];exact H3
  ·rcases BN H2 with ⟨rfl,H3⟩ | ⟨k',i',rfl,h0',h1',H3⟩
   ·simp only [Instr.sliceBounds,B6,E0,Cg rfl h0 h1];exact H3
   ·simp only [Instr.sliceBounds,B6,E0,Cg rfl h0 h1,Cg rfl h0' h1'];exact H3
 ·rcases BN H1 with ⟨rfl,H2⟩ | ⟨k2,i2,rfl,h02,h12,H2⟩
  ·rcases hm with hm | hm
   ·cases hm
   ·exact absurd rfl hm
  ·rcases BN H2 with ⟨rfl,H3⟩ | ⟨k',i',rfl,h0',h1',H3⟩
   ·simp only [Instr.sliceBounds,B6,E0,Cg rfl h0 h1,Cg rfl h02 h12];exact H3
   ·simp only [Instr.sliceBounds,B6,E0,Cg rfl h0 h1,Cg rfl h02 h12,Cg rfl h0' h1'];exact H3
theorem XC {t:TypeId} {x:vQ} {lo hi mx:Option vQ} (hm:mx=none\/hi≠none) (H:Hb P t x lo hi mx λv=>K v h) :
  hp P (Instr.sliceAt t x lo hi mx) K h:=by
 unfold Hb at H
 split at H
 ·rename_i hu
  split at H
  ·exact H.elim
  ·rename_i hmx
   obtain ⟨s,rfl,H⟩:=L7 H
   simp only [Instr.sliceAt,B6,C8 (E4 hu (by simp)),Instr.slice]
   rw [A7 hmx]
   simp only [B6,E0]
   refine Ei (.inl rfl) ?_
   exact H
 ·rename_i e hu
  split at H
  ·rename_i hth
   obtain ⟨a,len,cap,rfl,H⟩:=O9 H
   simp only [Instr.sliceAt,B6,C8 (E4 hu (by simp)),Instr.slice]
   refine Ei hm ?_
   simp only [B6,J7 hth,E0]
   exact H
  ·exact H.elim
 ·rename_i n e hu
  split at H
  ·rename_i hth
   obtain ⟨a,rfl,H⟩:=V9 H
   simp only [Instr.sliceAt,B6,C8 (E4 hu (by simp)),Instr.sureAddr,E0]
   refine Ei hm ?_
   simp only [B6,J7 hth,E0]
   exact H
  ·exact H.elim
 ·exact H.elim
theorem Ej (n:Nat) (F:Unit->A2->Prop):hp P (askRoom n) F h=F () h:=by unfold askRoom;split <;> rfl
theorem In {n:Int} (h0:0<=n) (h1:n<=9223372036854775807):IntKind.i64.wrap n=n:=by
 have e1:((2:Int) ^ IntKind.i64.bits)=18446744073709551616:=by decide
 have e2:((2:Int) ^ (IntKind.i64.bits - 1))=9223372036854775808:=by decide
 unfold wrap
 rw [e1,e2]
 have:n % 18446744073709551616=n:=by omega
 simp only [this]
 rw [A7 (by simp;omega)]
theorem Rf {t elem:TypeId} {k1 k2:IntKind} {l c:Int} (hu:P.underlying t=some (.slice elem)) (hth:L0 P elem=true) (hz:(GZ P elem).isSome=true)
  (hs:(Bp P elem).length=M2 P elem) (hp0:0 < M2 P elem) (H:Y2 P elem l c h K):hp P (Instr.makeSlice t (.int k1 l) (.int k2 c)) K h:=by
 obtain ⟨h1,h2,h3,h4,H⟩:=H
 obtain ⟨i,hi⟩:=CO hth
 obtain ⟨z,hz⟩:=JE hz
 have hb:EL P elem=i.bytes:=by unfold EL;rw [hi]
 rw [hb] at h4
 have w1:IntKind.i64.wrap l=l:=In h1 (by omega)
 have w2:IntKind.i64.wrap c=c:=In (by omega) h3
 simp only [Instr.makeSlice,B6,C8 hu,asInt,Go.asInt,asIntOf,E0,T7 hi,w1,w2]
 rw [A7 (by
  simp only [Ku,EK,not_or]
  refine ⟨⟨⟨by omega,?_⟩,by omega⟩,by omega⟩
  have:((2:Int) ^ 48)=281474976710656:=by decide
  rw [this] at h4
  rw [this]
  omega)]
 simp only [B6,Ej,J7 hth]
 by_cases hc0:c.toNat=0
 ·simp only [hc0,Nat.zero_mul,if_true,E0,newRow,newObj,B6,hp] at H ⊢
  have e:(Array.range 0).map (λx=>(#[]:Array vQ)[x % (#[]:Array vQ).size]!)=#[]:=by simp [Array.range]
  rw [e];simpa using H
 ·rw [A7 (by intro e;rcases Nat.mul_eq_zero.1 e with e | e <;> omega)]
  simp only [B6,R5 hz,E0,<- Im hz,newRow,newObj,hp]
  have:=SF0 (Bp P elem) c.toNat (by omega)
  rw [hs] at this
  rw [this];exact H
end
end
section
section
variable {P:Program} {ρ:Operand->vQ} {h:A2} {K:kQ}
def Tl2 (P:Program) (K:kQ) (h0:World):Next->World->Prop
 | .value v,w=>K v w.heap/\Kw h0 w
 | .skip,w=>K Bq w.heap/\Kw h0 w
 | .enter f args,w=>CallsIn Fence.wide 0 P f args w (onH h0 K)
 | .round l f tmps assign body,w=>RoundIn Fence.wide 0 P l f tmps assign body w (onH h0 K)
 | _,_=>False
def OpS (P:Program) (ρ:Operand->vQ) (o:Oper) (h:A2) (K:kQ):Prop:=
 ∀w:World,w.heap=h->∃nx w',(execOp ρ o).run P w=.ok nx w'/\Tl2 P K w nx w'
theorem SF2 {h0 h1:World} (hk:Kw h0 h1):∀e w,onH h1 K e w->onH h0 K e w:=by
 intro e w x
 cases e <;> first | exact x | exact ⟨x.1,hk.trans x.2⟩
theorem J1 {o:Oper} (H:hp P (execOp ρ o) (nxt P K) h):OpS P ρ o h K:=by
 intro w hw
 obtain ⟨nx,w',h1,h2,h3⟩:=Tb3 _ H w hw
 refine ⟨nx,w',h1,?_⟩
 cases nx <;> first
  | exact ⟨h2,h3⟩
  | exact (h2 w' rfl).mono (SF2 h3)
  | exact h2.elim
theorem Z0 {o:Oper} {b:Builtin} {args:Array Operand} {argTypes:Array TypeId} (ho:o.op=.call { callee:=.builtin b,args,argTypes }) (s:Sem vQ)
  (hb:∀consts,builtin b argTypes o.type consts (args.map ρ)=(do let x <- s;pure (Next.value x))) (H:hp P s K h):hp P (execOp ρ o) (nxt P K) h:=by
 unfold execOp;rw [ho]
 simp only [resolve,B6,E0,invoke,hb]
 exact H
theorem Mq (f:Operand->vQ) (a:Array Operand):IY f a=a.map f:=by unfold IY;apply Array.toList_inj.1;simp
theorem Sl3 {f:Int->Int->Int} {m:vQ->vQ->Sem vQ} (hm:∀k a b,m (.int k a) (.int k b)=pure (.int k (f a b))) {k:IntKind} (ys:List vQ):∀(a:Int),
  W3.go f k a ys (λn=>K (.int k n) h)->hp P (ys.foldlM m (.int k a)) K h:=by
 induction ys with
 | nil=>intro a H;exact H
 | cons y ys ih=>
  intro a H
  obtain ⟨b,rfl,H2⟩:=M1 H
  simp only [List.foldlM_cons,B6,hm,E0]
  exact ih _ H2
theorem PM {f:Int->Int->Int} {m:vQ->vQ->Sem vQ} (hm:∀k a b,m (.int k a) (.int k b)=pure (.int k (f a b))) {t:TypeId} {k:IntKind} (hk:CN P t=some k)
  (why:String) (xs:List vQ) (H:W3 f P t xs λn=>K (.int k n) h):hp P (match xs with | []=>stuck why | x :: rest=>rest.foldlM m x) K h:=by
 cases xs with
 | nil=>exact H.elim
 | cons x xs=>cases xs with
  | nil=>
   simp only [W3,hk] at H
   obtain ⟨b,rfl,H2⟩:=M1 H
   exact H2
  | cons y ys=>
   simp only [W3,hk] at H
   obtain ⟨b,rfl,H2⟩:=M1 H
   exact Sl3 hm _ _ H2
theorem MN {o:Oper} {b:Builtin} {args:Array Operand} {argTypes:Array TypeId} (ho:o.op=.call { callee:=.builtin b,args,argTypes })
  (H:AN P b argTypes o.type (args.toList.map ρ) ρ o h K):hp P (execOp ρ o) (nxt P K) h:=by
 have ea:args.map ρ=(args.toList.map ρ).toArray:=by rw [<- Mq];rfl
 unfold AN at H
 split at H
 ·rename_i x hx
  refine Z0 ho (Builtin.len_ argTypes o.type (args.map ρ)) (λ_=>rfl) ?_
  rw [ea,hx]
  split at H
  ·rename_i t0 h0
   simp only [Builtin.len_,h0]
   simp only [EC,Mh]
   split at H
   ·rename_i e hu
    obtain ⟨a,n,c,rfl,H2⟩:=O9 H
    simp only [B6,C8 (E4 hu (by simp)),E0];exact H2
   ·rename_i hu
    obtain ⟨a,rfl,H2⟩:=L7 H
    simp only [B6,C8 (E4 hu (by simp)),E0];exact H2
   ·rename_i e1 e2 hu
    obtain ⟨r,rfl,H2⟩:=FE H
    simp only [B6,C8 (E4 hu (by simp)),E0]
    unfold SE8 at H2
    cases r with
    | none=>exact H2
    | some r=>
     simp only at H2
     split at H2
     ·rename_i es c hr
      simp only [B6,getObj,hp,hr];exact H2
     ·exact H2.elim
   ·rename_i n e hu
    simp only [B6,C8 (E4 hu (by simp)),E0];exact H
   ·exact H.elim
  ·exact H.elim
 ·rename_i x hx
  refine Z0 ho (Builtin.cap_ argTypes o.type (args.map ρ)) (λ_=>rfl) ?_
  rw [ea,hx]
  split at H
  ·rename_i t0 h0
   simp only [Builtin.cap_,h0]
   simp only [EC,Mh]
   split at H
   ·rename_i e hu
    obtain ⟨a,n,c,rfl,H2⟩:=O9 H
    simp only [B6,C8 (E4 hu (by simp)),E0];exact H2
   ·exact H.elim
  ·exact H.elim
 ·rename_i xs
  refine Z0 ho (Builtin.append_ argTypes o.type (args.map ρ)) (λ_=>rfl) ?_
  rw [ea];exact H
 ·refine Z0 ho (Builtin.copy_ argTypes o.type (args.map ρ)) (λ_=>rfl) ?_
  rw [ea];exact H
 ·refine Z0 ho (Builtin.delete_ argTypes o.type (args.map ρ)) (λ_=>rfl) ?_
  rw [ea];exact H
 ·refine Z0 ho (Builtin.unsafeSliceData_ argTypes o.type (args.map ρ)) (λ_=>rfl) ?_
  rw [ea];exact H
 ·refine Z0 ho (Builtin.unsafeString_ argTypes o.type (args.map ρ)) (λ_=>rfl) ?_
  rw [ea];exact H
 ·refine Z0 ho (Builtin.clear_ argTypes o.type (args.map ρ)) (λ_=>rfl) ?_
  rw [ea];exact H
 ·split at H
  ·rename_i k hk
   refine Z0 ho (Builtin.max_ argTypes o.type (args.map ρ)) (λ_=>rfl) ?_
   rw [ea]
   exact PM (f:=Hc) (m:=Builtin.max2) (λ_ _ _=>rfl) hk _ _ H
  ·exact H
 ·split at H
  ·rename_i k hk
   refine Z0 ho (Builtin.min_ argTypes o.type (args.map ρ)) (λ_=>rfl) ?_
   rw [ea]
   exact PM (f:=JB) (m:=Builtin.min2) (λ_ _ _=>rfl) hk _ _ H
  ·exact H
 ·exact H
end
end
section
section
variable {P:Program} {ρ:Operand->vQ} {h:A2} {K:kQ}
theorem TH {o:Oper} {f:Operand} {args:Array Operand} {argTypes:Array TypeId} (ho:o.op=.call { callee:=.value f,args,argTypes })
  (H:Aj P (ρ f) (args.map ρ) h K):OpS P ρ o h K:=by
 intro w hw
 have e:execOp ρ o=(do let d <- Deferred.ofValue (ρ f) (args.map ρ);invoke d.target d.args):=by
  unfold execOp;rw [ho];rfl
 rw [e]
 unfold Aj at H
 split at H
 ·rename_i g first captured hf
  rw [hf]
  obtain ⟨he,hcall⟩:=H
  have hr:(do let d <- Deferred.ofValue (.func (.func g) first captured) (args.map ρ);invoke d.target d.args).run P w=.ok (.enter g (first ++ args.map ρ ++ captured)) w:=he _ w
  exact ⟨_,w,hr,hcall w hw⟩
 ·rename_i l first captured hf
  rw [hf]
  obtain ⟨fn,tmps,assign,body,hr,hround⟩:=H w hw
  exact ⟨_,w,hr,hround⟩
 ·exact H.elim
theorem XD {o:Oper} {f:Operand} {args:Array Operand} {argTypes:Array TypeId} (ho:o.op=.call { callee:=.value f,args,argTypes })
  (H:Rb P (ρ f) (args.map ρ) h K):OpS P ρ o h K:=by
 have e:execOp ρ o=(do let d <- Deferred.ofValue (ρ f) (args.map ρ);invoke d.target d.args):=by
  unfold execOp;rw [ho];rfl
 unfold Rb at H
 split at H
 ·rename_i g first captured hf
  refine J1 ?_
  rw [e,hf]
  show hp P (callFunc g (first ++ args.map ρ ++ captured)) (nxt P K) h
  refine X1 ?_ H
  intro nx h' x
  cases nx <;> first | exact x | exact x.elim
 ·exact H.elim
theorem PN (o:Oper) (hc:∀v,ρ (.const v)=v) (H:Fs P ρ o h K):OpS P ρ o h K:=by
 unfold Fs at H
 split at H
 case h_1 x hx | h_2 x hx=>exact J1 (by unfold execOp;rw [hx];exact H)
 case h_3 c a b hx=>
  obtain ⟨t,ht,H⟩:=O4 H
  refine J1 ?_
  unfold execOp;rw [hx]
  simp only [ht,Go.asBool,B6,E0,nxt]
  have:=Se5 H
  cases t <;> simpa using this
 case h_4 t hx=>
  refine J1 ?_
  unfold execOp;rw [hx]
  split at H
  ·rename_i z hz
   refine (EE _).mpr ?_
   simp only [Instr.alloc,B6,R5 hz,newVar,newRow,newObj,hp,E0]
   exact H
  ·exact H.elim
 case h_5 t x hx=>
  refine J1 ?_
  unfold execOp;rw [hx]
  have H:=Gc H
  refine (EE _).mpr ?_
  simp only [Instr.box,newVar,newRow,newObj,B6,hp,E0]
  simpa using H
 case h_6 t parts hx=>
  refine J1 ?_
  unfold execOp;rw [hx]
  refine (EE _).mpr ?_
  split at H
  ·rename_i hz
   obtain ⟨z,hz⟩:=JE hz
   simp only [Instr.build,B6,R5 hz,<- Im hz]
   split at H
   ·rename_i fields hu
    split at H
    ·exact H.elim
    ·rename_i hall
     simp only [C8 (E4 hu (by simp))]
     obtain ⟨cs,h1,h2⟩:=Ja _ _ _ H
     have hpl:∀(fs:List Field),(∀f ∈ fs,L0 P f.type=true)->∀(G:List (Nat × Nat)->A2->Prop),
       hp P (fs.mapM λf=>do pure (f.offset,<- sizeOf f.type)) G h=G (fs.map λf=>(f.offset,M2 P f.type)) h:=by
      intro fs
      induction fs with
      | nil=>intro _ G;rfl
      | cons f fs ih=>
       intro hf G
       simp only [List.mapM_cons,B6,J7 (hf f (by simp)),E0,ih (λg hg=>hf g (by simp [hg])),GY]
     have hall2:∀f ∈ fields.toList,L0 P f.type=true:=by
      intro f hf
      have:fields.all (λf=>L0 P f.type)=true:=by simpa using hall
      rw [Array.all_eq_true'] at this
      exact this f (by simpa using hf)
     rw [Array.mapM_eq_mapM_toList]
     simp only [map_eq_pure_bind,B6,hpl fields.toList hall2,E0]
     have e:(λx:Nat=>((fields.toList.map λf=>(f.offset,M2 P f.type)).toArray)[x]?)=(λi=>((fields[i]?).map λf=>(f.offset,f.type)).map λx=>(x.1,M2 P x.2)):=by
      funext i;simp [Function.comp_def]
     have ep:(parts.map λx=>(x.1,ρ x.2)).toList=parts.toList.map λp=>(p.1,ρ p.2):=by simp
     rw [e,ep,h1]
     exact h2
   ·rename_i n elem hu
    split at H
    ·exact H.elim
    ·rename_i hth
     have hth:L0 P elem=true:=by simpa using hth
     simp only [C8 (E4 hu (by simp))]
     obtain ⟨cs,h1,h2⟩:=Ja _ _ _ H
     simp only [B6,J7 hth]
     have ep:(parts.map λx=>(x.1,ρ x.2)).toList=parts.toList.map λp=>(p.1,ρ p.2):=by simp
     have e:(λi=>some (i*M2 P elem,M2 P elem))=(λi=>((λi=>some (i*M2 P elem,elem)) i:Option (Nat × TypeId)).map λx=>(x.1,M2 P x.2)):=by
      funext i;simp
     rw [e,ep,h1]
     exact h2
   ·exact H.elim
  ·exact H.elim
 case h_7 t len parts hx=>
  refine J1 ?_
  unfold execOp;rw [hx]
  refine (EE _).mpr ?_
  split at H
  ·rename_i elem hu
   split at H
   ·rename_i hh
    obtain ⟨hth,hle,hz,hl,h0⟩:=hh
    obtain ⟨z,hz⟩:=JE hz
    simp only [Instr.buildSlice,B6,C8 (E4 hu (by simp)),J7 hth]
    rw [A7 (by omega)]
    obtain ⟨cs,h1,h2⟩:=Ja _ _ _ H
    have ep:(parts.map λx=>(x.1,ρ x.2)).toList=parts.toList.map λp=>(p.1,ρ p.2):=by simp
    have e:(λi=>some (i*M2 P elem,M2 P elem))=(λi=>((λi=>some (i*M2 P elem,elem)) i:Option (Nat × TypeId)).map λx=>(x.1,M2 P x.2)):=by
     funext i;simp
    by_cases hl0:len=0
    ·subst hl0
     simp only [Nat.zero_mul,if_true,E0]
     have e0:∀zero:Array vQ,(Array.range 0).map (λx=>zero[x % zero.size]!)=(([]:List vQ)).toArray:=by intro z;simp [Array.range]
     simp only [List.replicate_zero,List.flatten_nil] at h1
     rw [B6,E0,e0,e,ep]
     simp only [JA] at h1 ⊢
     rw [h1]
     simp only [newRow,newObj,B6,hp,E0]
     exact h2
    ·rw [A7 (by intro e;rcases Nat.mul_eq_zero.1 e with e | e <;> omega)]
     simp only [B6,R5 hz,E0,<- Im hz]
     have:=SF0 (Bp P elem) len (by omega)
     rw [hl] at this
     rw [this,e,ep,h1]
     simp only [newRow,newObj,B6,hp,E0]
     exact h2
   ·exact H.elim
  ·exact H.elim
 case h_8 t x hx=>
  refine J1 ?_
  unfold execOp;rw [hx]
  refine (EE _).mpr ?_
  obtain ⟨a,ha,H⟩:=V9 H
  split at H
  ·rename_i hth
   simp only [Instr.loadAt,ha,Instr.sureAddr,B6,E0]
   exact ML hth H
  ·exact H.elim
 case h_9 t x y hx=>
  refine J1 ?_
  unfold execOp;rw [hx]
  refine (Th0 _).mpr ?_
  obtain ⟨a,ha,H⟩:=V9 H
  have H:=Gc H
  split at H
  ·rename_i hth
   simp only [Instr.storeAt,ha,Instr.sureAddr,B6,E0]
   exact Tu hth.1 hth.2 H
  ·exact H.elim
 case h_10 x hx=>
  refine J1 ?_
  unfold execOp;rw [hx]
  unfold G5 at H
  generalize hv:ρ x=v at H ⊢
  split at H <;> first
   | exact H.elim
   | skip
  rename_i n1 n2 n3 n4
  dsimp only
  rw [hv]
  cases v with
  | pointer a=>cases a with
   | none=>exact absurd rfl n1
   | some a=>exact H
  | nilIface=>exact absurd rfl n2
  | nilFunc=>exact absurd rfl n3
  | func f a b=>cases f with
   | method m=>exact absurd rfl (n4 _ _ _)
   | _=>exact H
  | _=>exact H
 case h_11 op xt x y yt hx=>exact J1 (XA hx hc H)
 case h_12 op xt x hx=>
  refine J1 ?_
  split at H
  ·obtain ⟨b,hb,H⟩:=O4 H
   unfold execOp;rw [hx]
   refine (EE _).mpr ?_
   rw [hb];exact H
  ·obtain ⟨b,hb,H⟩:=M1 H
   unfold execOp;rw [hx]
   refine (EE _).mpr ?_
   rw [hb];exact H
  ·exact H
 case h_13 src dst x hx=>
  refine J1 ?_
  split at H
  ·rename_i hu1 hu2
   obtain ⟨b,hb,H⟩:=M1 H
   unfold execOp;rw [hx]
   refine (EE _).mpr ?_
   simp only [convert,B6,C8 (E4 hu1 (by simp)),C8 (E4 hu2 (by simp)),hb]
   exact H
  ·rename_i hu1 hu2
   obtain ⟨b,hb,H⟩:=L7 H
   unfold execOp;rw [hx]
   refine (EE _).mpr ?_
   simp only [convert,B6,C8 (E4 hu1 (by simp)),C8 (E4 hu2 (by simp)),hb]
   exact H
  ·unfold execOp;rw [hx]
   exact (EE _).mpr H
 case h_14 t x hx=>
  refine J1 ?_
  unfold execOp;rw [hx]
  refine (EE _).mpr ?_
  split at H
  ·exact H.elim
  ·exact H.elim
  ·rename_i n1 n2
   have hu:=E4 (P:=P) (t:=t) rfl n2
   simp only [Instr.makeInterface,B6,C8 hu]
   exact H
 case h_15 fn first captured hx=>
  refine J1 ?_
  unfold execOp;rw [hx]
  refine (EE _).mpr ?_
  rw [Mq,Mq] at H
  exact H
 case h_16 t hx=>
  refine J1 ?_
  unfold execOp;rw [hx]
  refine (EE _).mpr ?_
  exact H
 case h_17 t l c hx=>
  refine J1 ?_
  unfold execOp;rw [hx]
  refine (EE _).mpr ?_
  split at H
  ·rename_i elem hu
   obtain ⟨k1,l',hl,H⟩:=BI H
   obtain ⟨k2,c',hc',H⟩:=BI H
   rw [hl,hc']
   split at H
   ·rename_i hh
    exact Rf (E4 hu (by simp)) hh.1 hh.2.1 hh.2.2.1 hh.2.2.2 H
   ·exact H.elim
  ·exact H.elim
 case h_18 t x lo hi mx hx=>
  refine J1 ?_
  unfold execOp;rw [hx]
  refine (EE _).mpr ?_
  split at H
  ·exact H.elim
  ·rename_i hm
   refine XC ?_ H
   cases mx <;> cases hi <;> simp_all
 case h_19 t x f hx=>
  refine J1 ?_
  unfold execOp;rw [hx]
  refine (EE _).mpr ?_
  split at H
  ·rename_i fields hu
   split at H
   ·rename_i fd hf
    split at H
    ·rename_i hh
     obtain ⟨a,ha,H⟩:=V9 H
     simp only [Instr.fieldAt,B6,C8 (E4 hu (by simp)),hf,ha,Instr.sureAddr,E0,fieldPlace,J7 hh.1]
     rw [A7 hh.2];exact H
    ·exact H.elim
   ·exact H.elim
  ·exact H.elim
 case h_20 t x f hx=>
  refine J1 ?_
  unfold execOp;rw [hx]
  refine (EE _).mpr ?_
  split at H
  ·rename_i fields hu
   split at H
   ·rename_i fd hf
    obtain ⟨cs,ha,H⟩:=Aw H
    unfold EM at H
    split at H
    ·rename_i v hv
     split at H
     ·rename_i hth
      simp only [Instr.field,B6,C8 (E4 hu (by simp)),hf,ha,Go.asAgg,E0]
      rw [Rd hth hv];exact H
     ·exact H.elim
    ·exact H.elim
   ·exact H.elim
  ·exact H.elim
 case h_21 t x i hx=>
  refine J1 ?_
  unfold execOp;rw [hx]
  refine (EE _).mpr ?_
  split at H
  ·rename_i elem hu
   obtain ⟨a,len,cap,ha,H⟩:=O9 H
   obtain ⟨k,n,hi,h0,h1,H⟩:=BI H
   obtain ⟨ad,had,H⟩:=V9 H
   cases had
   split at H
   ·rename_i hth
    simp only [Instr.indexAt,hi,asIntOf,B6,E0,C8 (E4 hu (by simp)),ha]
    rw [A8 ⟨h0,h1⟩]
    simp only [B6,J7 hth,E0];exact H
   ·exact H.elim
  ·rename_i len elem hu
   obtain ⟨a,ha,H⟩:=V9 H
   obtain ⟨k,n,hi,h0,h1,H⟩:=BI H
   split at H
   ·rename_i hth
    simp only [Instr.indexAt,hi,asIntOf,B6,E0,C8 (E4 hu (by simp)),ha,Instr.sureAddr]
    rw [A8 ⟨h0,h1⟩]
    simp only [B6,J7 hth,E0];exact H
   ·exact H.elim
  ·exact H.elim
 case h_22 t x i hx=>
  refine J1 ?_
  unfold execOp;rw [hx]
  refine (EE _).mpr ?_
  split at H
  ·rename_i hu
   obtain ⟨s,ha,H⟩:=L7 H
   obtain ⟨k,n,hi,h0,h1,H⟩:=BI H
   simp only [Instr.index,hi,asIntOf,B6,E0,C8 (E4 hu (by simp)),ha]
   have hs:n.toNat < s.size:=by omega
   unfold Kx at H
   simp only [h0,if_true]
   rw [getElem?_pos s n.toNat hs] at H ⊢
   exact H
  ·rename_i len elem hu
   obtain ⟨cs,ha,H⟩:=Aw H
   obtain ⟨k,n,hi,h0,h1,H⟩:=BI H
   unfold EM at H
   split at H
   ·rename_i v hv
    split at H
    ·rename_i hth
     simp only [Instr.index,hi,asIntOf,B6,E0,C8 (E4 hu (by simp)),ha]
     rw [A8 ⟨h0,h1⟩]
     simp only [B6,J7 hth]
     rw [Rd hth hv];exact H
    ·exact H.elim
   ·exact H.elim
  ·exact H.elim
 case h_23 t x i ok hx=>
  refine J1 ?_
  unfold execOp;rw [hx]
  exact (EE _).mpr H
 case h_24 t m k x hx=>
  refine J1 ?_
  unfold execOp;rw [hx]
  exact (Th0 _).mpr H
 case h_25 x i hx=>
  refine J1 ?_
  unfold execOp;rw [hx]
  refine (EE _).mpr ?_
  obtain ⟨vs,ha,H⟩:=Ky H
  unfold D9 at H
  split at H
  ·rename_i v hv
   simp only [Instr.extract,ha,hv];exact H
  ·exact H.elim
 case h_26 b args argTypes hx=>exact J1 (MN hx H)
 case h_27 f args argTypes hx=>
  rw [Mq] at H
  split at H
  ·exact XD hx H
  ·exact TH hx H
 case h_28=>exact H.elim
 case h_29=>exact J1 H
end
end
section
def Xo (ρ:G4) (d:Nat) (v:vQ):G4:=λj=>cond (Nat.beq j d) v (ρ j)
def Cb (ρ:G4) (d:Option Nat) (v:vQ):G4:=match d with | some d=>Xo ρ d v | none=>ρ
def MO (ρ:G4):Operand->vQ
 | .tmp j=>ρ j
 | .const v=>v
 | .global g=>.pointer (some ⟨g,0,none⟩)
 | .func f=>.func (.func f) #[] #[]
def XE (v:vQ) (N:Prop) (F:Bool->Prop):Prop:=match v with | .bool b=>F b | _=>N
def Gd (ops:Array Oper) (ρ:G4) (g:Option (Nat × Bool)) (yes no:G4->Prop):Prop:=
 match g with
 | none=>yes ρ
 | some (j,want)=>match (ops[j]?).bind (·.dst) with
  | none=>no ρ
  | some d=>XE (ρ d) (no ρ) λb=>D4 b (cond want (yes (Xo ρ d (.bool true))) (no (Xo ρ d (.bool true)))) (cond want (no (Xo ρ d (.bool false))) (yes (Xo ρ d (.bool false))))
def tyO (P:Program) (o:Oper) (v:vQ) (K:vQ->Prop):Prop:=
 match o.op with
 | .alloc _ | .store ..=>K v
 | _=>IX P o.type v K
def II (P:Program) (ops:Array Oper):List Oper->G4->A2->(G4->A2->Prop)->Prop
 | [],ρ,h,K=>K ρ h
 | o :: rest,ρ,h,K=>Gd ops ρ o.guard
  (λρ=>Fs P (MO ρ) o h λv h'=>tyO P o v λv=>II P ops rest (Cb ρ o.dst v) h' K)
  (λρ=>II P ops rest (Cb ρ o.dst Bq) h K)
def Al (P:Program) (o:Oper):Bool:=
 match o.op with
 | .move _ | .assign _ | .pick .. | .load .. | .nilCheck _ | .makeFunc .. | .fieldAddr .. | .field .. | .indexAddr .. | .index .. | .extract .. | .slice ..=>true
 | .binOp op xt _ y _=>(match Be P xt with
  | .int _ | .bool=>true
  | .string=>(match op with | .eql | .neq | .add=>true | _=>false)
  | .pointer _=>(match op with | .eql | .neq=>S02 y | _=>false)
  | .slice _=>(match op with | .eql | .neq=>S03 y | _=>false)
  | .func _ _ _=>(match op with | .eql | .neq=>S04 y | _=>false)
  | .struct _ | .array _ _=>true
  | _=>false)
 | .unOp op xt _=>(match op,Be P xt with | .not,.bool=>true | .neg,.int _=>true | _,_=>false)
 | .convert s d _=>(match Be P s,Be P d with | .int _,.int _=>true | .string,.string=>true | _,_=>false)
 | .build ..=>true
 | .call { callee:=.builtin .len,argTypes,args }=>(match argTypes[0]?,args.toList with
  | some t,[_]=>(match Be P t with | .slice _ | .string | .array _ _=>true | _=>false)
  | _,_=>false)
 | _=>false
def T2 (ops:Array Oper):Nat->Nat->Nat->Bool
 | 0,_,_=>false
 | n+1,e,i=>match ops[e]? with
  | none=>false
  | some o=>o.after.any λed=>Region.binds .any ed && (ed.on == i || T2 ops n ed.on i)
def Io (o:Oper):List Nat:=o.after.toList.filterMap λed=>match Region.binds .any ed with | true=>some ed.on | false=>none
def Hd (ops:Array Oper) (i:Nat):Nat->List Nat->Nat->Bool
 | 0,_,_=>false
 | _+1,[],_=>false
 | n+1,e :: st,vis=>match Nat.testBit vis e with
  | true=>Hd ops i n st vis
  | false=>match ops[e]? with
   | none=>Hd ops i n st vis
   | some o=>match (Io o).any (Nat.beq i) with
    | true=>true
    | false=>Hd ops i n (Io o ++ st) (Nat.lor vis (Nat.shiftLeft 1 e))
def Tb5 (ops:Array Oper) (e i:Nat):Bool:=Hd ops i ((ops.size+2)*(ops.size+2)) [e] 0
abbrev SF3:=List (Nat × List (Addr × vQ))
def XF (h:A2):List (Addr × vQ)->Prop->Prop
 | [],X=>X
 | (a,u) :: L,X=>A3 h a=some u/\XF h L X
def Kz (ops:Array Oper) (e:Nat) (h:A2):SF3->Prop->Prop
 | [],X=>X
 | (i,L) :: r,X=>match Tb5 ops e i with | true=>Kz ops e h r X | false=>XF h L (Kz ops e h r X)
def Tb6 (h:A2) (a:Addr) (i:Nat):Nat->List vQ->List (Addr × vQ)->(List vQ->List (Addr × vQ)->Prop)->Prop
 | 0,acc,L,K=>K acc.reverse L.reverse
 | n+1,acc,L,K=>D2 h (a.add i) λv=>Tb6 h a (i+1) n (v :: acc) ((a.add i,v) :: L) K
def Tb7 (P:Program) (ρ:Operand->vQ) (o:Oper) (h:A2) (F:vQ->List (Addr × vQ)->Prop):Prop:=
 match o.op with
 | .load t x=>F3 (ρ x) λa=>if L0 P t then
  (if MJ P t then Tb6 h a 0 (M2 P t) [] [] (λcs L=>F (.agg cs.toArray) L) else D2 h a λv=>F v [(a,v)]) else False
 | _=>Fs P ρ o h λv _=>F v []
def TI (P:Program) (ops:Array Oper) (listed:Array Bool):Option Nat:=
 (Region.ready .any ops listed).find? λi=>(match ops[i]? with | some o=>Al P o | none=>false) && Region.free .any ops listed i
def Tb8 (l:List Nat) (F:Nat->Prop):Prop:=
 match l with
 | []=>True
 | [i]=>F i
 | i :: j :: l=>F i/\Tb8 (j :: l) F
def JF (P:Program) (ops:Array Oper):Nat->Array Bool->SF3->G4->A2->(G4->A2->Prop)->Prop
 | 0,listed,_,ρ,h,K=>match Region.ready .any ops listed with | []=>K ρ h | _=>False
 | n+1,listed,held,ρ,h,K=>
  match TI P ops listed with
  | some i=>(match ops[i]? with
   | none=>False
   | some o=>Gd ops ρ o.guard
    (λρ=>Tb7 P (MO ρ) o h λv L=>tyO P o v λv=>JF P ops n (listed.setIfInBounds i true) (match L with | []=>held | _=>(i,L) :: held) (Cb ρ o.dst v) h K)
    (λρ=>JF P ops n (listed.setIfInBounds i true) held (Cb ρ o.dst Bq) h K))
  | none=>(match Region.ready .any ops listed with
   | []=>K ρ h
   | rs=>Tb8 rs λe=>(match ops[e]? with
    | none=>False
    | some o=>Gd ops ρ o.guard
     (λρ=>Fs P (MO ρ) o h λv h'=>tyO P o v λv=>Kz ops e h' held (JF P ops n (listed.setIfInBounds e true) held (Cb ρ o.dst v) h' K))
     (λρ=>Kz ops e h held (JF P ops n (listed.setIfInBounds e true) held (Cb ρ o.dst Bq) h K))))
def He (ops:Array Oper):List Nat:=ops.toList.filterMap (·.dst)
def Th1 (o:Oper):Bool:=match o.op,o.dst with
 | .assign _,_=>true
 | .move (.tmp e),some d=>Nat.blt d e
 | _,_=>false
def SF4 (ops:Array Oper):List Nat:=ops.toList.filterMap λo=>match Th1 o with | true=>o.dst | false=>none
def Rg (ops:Array Oper):List Nat:=ops.toList.filterMap λo=>match o.op with | .pick ..=>o.dst | _=>none
def SF5 (n:Nat):List Nat->List Nat
 | []=>[n]
 | m :: l=>if n < m then n :: m :: l else if n=m then m :: l else m :: SF5 n l
def Ac (a b:List Nat):List Nat:=a.foldr SF5 b
def CE:Code->List Nat
 | .region _ ops _=>Ac (He ops) []
 | .seq a b=>Ac (CE a) (CE b)
 | .cond c a b=>Ac (match c with | .tmp d=>[d] | _=>[]) (Ac (CE a) (CE b))
 | .block _ b | .loop b | .scope b=>CE b
 | .rangeFunc ..=>[]
 | _=>[]
def DL:Code->List Nat
 | .region _ ops _=>Ac (SF4 ops) []
 | .seq a b | .cond _ a b=>Ac (DL a) (DL b)
 | .block _ b | .loop b | .scope b=>DL b
 | _=>[]
def C2:Code->List Nat
 | .region _ ops _=>Ac (Rg ops) []
 | _=>[]
def S05 (ops:Array Oper):Bool:=ops.any λo=>o.guard.isSome
def SF6 (id:Nat):Code->Nat
 | .seq a b | .cond _ a b=>SF6 id a+SF6 id b
 | .block _ b | .loop b | .scope b=>SF6 id b
 | .rangeFunc _ _ _ b=>SF6 id b
 | .exit j=>if j=id then 1 else 0
 | _=>0
def XG:Code->Nat
 | .region _ ops _=>if S05 ops then 2 else 1
 | .seq a b=>if XG a=0 then 0 else XG b
 | .cond _ a b=>XG a+XG b
 | .block id b=>XG b+SF6 id b
 | .loop _ | .exit _ | .ret | .goto _ | .refuse _=>0
 | .scope b=>XG b
 | _=>1
def Tb9:Code->Bool
 | .skip | .exit _ | .ret=>true
 | .seq a b=>Tb9 a && Tb9 b
 | .region _ ops _=>ops.size<=2
 | _=>false
def SF7 (K:G4->A2->Prop) (Q:Exit->G4->A2->Prop):Exit->G4->A2->Prop
 | .normal,ρ,h=>K ρ h
 | e,ρ,h=>Q e ρ h
def SF8 (id:Nat) (Q:Exit->G4->A2->Prop):Exit->G4->A2->Prop
 | .exit j,ρ,h=>if j=id then Q .normal ρ h else Q (.exit j) ρ h
 | e,ρ,h=>Q e ρ h
def S06:Nat->(List vQ->Prop)->Prop
 | 0,F=>F []
 | n+1,F=>∀v,S06 n λvs=>F (v :: vs)
def Se6 (vars:List Nat) (vs:List vQ) (j:Nat) (d:vQ):vQ:=
 match vars,vs with
 | x :: xs,v :: vs=>cond (Nat.beq j x) v (Se6 xs vs j d)
 | _,_=>d
def S07 (j:Nat):List Nat->Bool
 | []=>false
 | x :: xs=>cond (Nat.beq j x) true (S07 j xs)
def Rh (ρ:G4) (ws vars:List Nat) (vs:List vQ) (g:G4):G4:=λj=>Se6 vars vs j (cond (S07 j ws) (g j) (ρ j))
def R3 (F:(List vQ->A2->Prop)->Prop):Prop:=∃I,F I
def GI (F:(List vQ->A2->Nat)->Prop):Prop:=∃μ,F μ
def Th2 (n:Nat) (A:(List vQ->A2->Prop)->Prop) (B:List vQ->G4->A2->Prop):Prop:=
 R3 λJ=>A J/\S06 n λvs=>∀(g:G4) (h:A2),J vs h->B vs g h
def Th3 (n:Nat) (vs0:List vQ) (h0:A2) (B:(List vQ->A2->Prop)->(List vQ->A2->Nat)->List vQ->G4->A2->Prop):Prop:=
 R3 λI=>GI λμ=>I vs0 h0/\S06 n λvs=>∀(g:G4) (h:A2),I vs h->B I μ vs g h
def Ri (ρ:G4) (c:Operand) (b:Bool):G4:=match c with | .tmp d=>Xo ρ d (.bool b) | _=>ρ
def OK (N M:Nat) (h1 h2:A2):Prop:=h1.size<=h2.size/\∀b,b < h1.size->(b < N\/M<=b)->h2[b]? = h1[b]?
def Z6 (N M:Nat) (h1 h2:A2):Prop:=h1.size<=h2.size/\∀b,N<=b->b < M->h2[b]? = h1[b]?
def Ao (N:Nat) (h h':A2):Prop:=h'.size=h.size/\∀b:Nat,(b < N\/∀x,h[b]?≠some (.deferred x))->h'[b]? = h[b]?
theorem Ao.mono {N M:Nat} {h h':A2} (H:Ao N h h') (hM:M<=N):Ao M h h':=⟨H.1,λb hb=>H.2 b (hb.imp (λx=>Se1 x hM) id)⟩
structure Ge {ε:Type} (N:Nat) (h:A2) (Ev:A2->Prop) (I:Nat->Nat->A2->Prop) (X:Nat->ε->A2->Prop):Prop where
 env:∀M k h',N<=M->M<=h'.size->I M k h'->Ev h'
 keepI:∀M k h1 h2,N<=M->M<=h1.size->I M k h1->OK N M h1 h2->I M k h2
 keepX:∀M e h1 h2,N<=M->M<=h1.size->X M e h1->OK N M h1 h2->X M e h2
 dI:∀M k h1 h2,Ao N h1 h2->I M k h1->I M k h2
 dX:∀M e h1 h2,Ao N h1 h2->X M e h1->X M e h2
 start:∀h1,h.size<=h1.size->(∀b,b < N->h1[b]? = h[b]?)->I h1.size 0 h1
def TJ (P:Program) (g:vQ) (n:Nat) (xs:Nat->Array vQ) (Ev:A2->Prop):Prop:=
 ∀(yf:Fn) (y1 y2:Array vQ) (h:A2) (N:Nat) (I:Nat->Nat->A2->Prop) (X:Nat->Unit->A2->Prop),N<=h.size->Ev h->Ge N h Ev I X ->
  (∀M k h',k < n->N<=M->h.size<=M->M<=h'.size->I M k h'->Aj P (.func yf y1 y2) (xs k) h' λv h''=>Z6 N M h' h''/\((v=.bool true/\I M (k+1) h'')\/(v=.bool false/\X M () h''))) ->
  Aj P g #[.func yf y1 y2] h λ_ h'=>∃M,N<=M/\h.size<=M/\M<=h'.size/\(I M n h'\/X M () h')
def EP (h:A2):List Obj->A2
 | []=>h
 | o :: os=>EP (h.push o) os
def Tc0:List vQ->Prop->Prop
 | [],X=>X
 | v :: vs,X=>J0 v (Tc0 vs X)
def JG (P:Program):List Oper->G4->Nat->(G4->List Obj->Prop)->Prop
 | [],ρ,_,F=>F ρ []
 | { op:=.assign x,dst:=d,type:=ty,guard:=none,.. } :: rest,ρ,n,F=>IX P ty (MO ρ x) λv=>JG P rest (Cb ρ d v) n F
 | { op:=.alloc t,dst:=some d,guard:=none,.. } :: { op:=.store t' (.tmp d') y,dst:=none,guard:=none,.. } :: rest,ρ,n,F=>
  if t=t'/\d=d'/\L0 P t/\(GZ P t).isSome/\(Bp P t).length=M2 P t then
   Eh P t (MO (Xo ρ d (.pointer (some (aQ n)))) y) λcs=>if cs.length=M2 P t then
    Tc0 cs (JG P rest (Xo ρ d (.pointer (some (aQ n)))) (n+1) λρ' os=>F ρ' (.cells cs.toArray t :: os)) else False
  else False
 | _,_,_,_=>False
def MP:Code->Option (List Oper)
 | .skip=>some []
 | .region _ ops false=>some ops.toList
 | _=>none
def PO (ρ:G4) (vs:Array vQ):List Nat->Nat->G4
 | [],_=>ρ
 | p :: ps,i=>PO (Xo ρ p (vs.getD i Bq)) vs ps (i+1)
def fnV (v:vQ):Prop:=match v with | .func (.func _) _ _=>True | _=>False
def Se7 (P:Program) (g:vQ) (np:Nat) (h:A2) (B:(Exit->A2->Prop)->Array vQ->A2->Prop) (D:A2->Prop) (E:Exit->A2->Prop):Prop:=
 ∃(n:Nat) (xs:Nat->Array vQ) (Ev:A2->Prop) (I:Nat->Nat->A2->Prop) (X:Nat->Exit->A2->Prop),
  fnV g/\TJ P g n xs Ev/\(∀k,k < n->(xs k).size=np)/\Ev h/\Ge h.size h Ev I X /\
  (∀M k h',k < n->h.size+2<=M->M<=h'.size->I M k h'->B (λe h''=>Z6 h.size M h' h''/\(match e with | .normal=>I M (k+1) h'' | e=>X M e h'')) (xs k) h') /\
  (∀M h',h.size+2<=M->M<=h'.size->I M n h'->D h') /\
  (∀M e h',h.size+2<=M->M<=h'.size->X M e h'->E e h')
def eqE:Exit->Exit->Bool
 | .ret,.ret=>true
 | .exit i,.exit j=>Nat.beq i j
 | _,_=>false
def inE (e:Exit):List (Exit × (A2->Prop))->Prop
 | []=>False
 | p :: ps=>match eqE e p.1 with | true=>True | false=>inE e ps
def SF9 (X:Exit->(A2->Prop)->Prop):List (Exit × (A2->Prop))->Prop
 | []=>True
 | p :: ps=>X p.1 p.2/\SF9 X ps
def Jb (P:Program) (g:vQ) (np:Nat) (h:A2) (B:(Exit->A2->Prop)->Array vQ->A2->Prop) (D:A2->Prop) (Es:List (Exit × (A2->Prop))):Prop:=
 ∃(n:Nat) (xs:Nat->Array vQ) (Ev:A2->Prop) (I:Nat->Nat->A2->Prop) (X:Nat->Exit->A2->Prop),
  fnV g/\TJ P g n xs Ev/\(∀k,k < n->(xs k).size=np)/\Ev h/\Ge h.size h Ev I X /\
  (∀M k h',k < n->h.size+2<=M->M<=h'.size->I M k h'->B (λe h''=>Z6 h.size M h' h''/\(match e with | .normal=>I M (k+1) h'' | e=>inE e Es/\X M e h'')) (xs k) h') /\
  (∀M h',h.size+2<=M->M<=h'.size->I M n h'->D h') /\
  SF9 (λe F=>∀M h',h.size+2<=M->M<=h'.size->X M e h'->F h') Es
theorem Tc1 {a b:Exit} (h:eqE a b=true):a=b:=by
 cases a <;> cases b <;> simp [eqE] at h <;> first | rfl | (subst h;rfl) | exact h.elim
theorem XH {P:Program} {g:vQ} {np:Nat} {h:A2} {B:(Exit->A2->Prop)->Array vQ->A2->Prop} {D:A2->Prop} {E:Exit->A2->Prop} {es:List Exit}
  (H:Jb P g np h B D (es.map λe=>(e,E e))):Se7 P g np h B D E:=by
 obtain ⟨n,xs,Ev,I,X,h1,h2,h3,h4,h5,h6,h7,h8⟩:=H
 refine ⟨n,xs,Ev,I,λM e h'=>inE e (es.map λe=>(e,E e))/\X M e h',h1,h2,h3,h4,?_,h6,h7,?_⟩
 ·exact { env:=h5.env,keepI:=h5.keepI,keepX:=λM e a b c d e f=>⟨e.1,h5.keepX M _ a b c d e.2 f⟩,dI:=h5.dI,dX:=λM e a b c d=>⟨d.1,h5.dX M _ a b c d.2⟩,start:=h5.start }
 ·rintro M e h' hM hM' ⟨hi,hx⟩
  clear h6
  induction es with
  | nil=>exact hi.elim
  | cons e0 es ih=>
   simp only [List.map,inE,SF9] at hi h8
   cases hq:eqE e e0 with
   | true=>have:=Tc1 hq;subst this;exact h8.1 M h' hM hM' hx
   | false=>rw [hq] at hi;exact ih h8.2 hi
def SG0 (e:Exit):List Exit->Bool
 | []=>false
 | x :: xs=>eqE e x || SG0 e xs
def Th4 (a b:List Exit):List Exit:=a.foldr (λe l=>if SG0 e l then l else e :: l) b
def Ip:Code->List Exit
 | .seq a b | .cond _ a b=>Th4 (Ip a) (Ip b)
 | .block id b=>(Ip b).filter λe=>!(eqE e (.exit id))
 | .loop b | .scope b=>Ip b
 | .rangeFunc _ _ _ b=>Ip b
 | .exit id=>[.exit id]
 | .ret=>[.ret]
 | _=>[]
def vc (P:Program):Code->(Exit->G4->A2->Prop)->G4->A2->Prop
 | .skip,Q,ρ,h=>Q .normal ρ h
 | .region _ ops false,Q,ρ,h=>II P ops ops.toList ρ h (Q .normal)
 | .region _ ops true,Q,ρ,h=>JF P ops ops.size (Array.replicate ops.size false) [] ρ h (Q .normal)
 | .seq a b,Q,ρ,h=>
  if XG a<=1 || Tb9 b then vc P a (SF7 (vc P b Q) Q) ρ h else
  Th2 (Ac (DL a) (C2 a)).length
   (λJ=>vc P a (SF7 (λρ' h'=>J ((Ac (DL a) (C2 a)).map ρ') h') Q) ρ h)
   (λvs g h'=>vc P b Q (Rh ρ (CE a) (Ac (DL a) (C2 a)) vs g) h')
 | .cond c x y,Q,ρ,h=>asBool (MO ρ c) λb=>D4 b (vc P x Q (Ri ρ c true) h) (vc P y Q (Ri ρ c false) h)
 | .block id b,Q,ρ,h=>vc P b (SF8 id Q) ρ h
 | .loop b,Q,ρ,h=>Th3 (DL b).length ((DL b).map ρ) h λI μ vs g h'=>
   vc P b (SF7 (λρ' h''=>I ((DL b).map ρ') h''/\μ ((DL b).map ρ') h'' < μ vs h') Q) (Rh ρ (CE b) (DL b) vs g) h'
 | .rangeFunc g ps assign body,Q,ρ,h=>
  Jb P (MO ρ g) ps.size h
   (λK vs h'=>match MP assign with
    | some ops=>JG P ops (PO ρ vs ps.toList 0) h'.size λρ1 os=>vc P body (λe _ h''=>K e h'') ρ1 (EP h' os)
    | none=>False)
   (λh'=>Q .normal ρ h') ((Ip body).map λe=>(e,λh'=>Q e ρ h'))
 | .exit id,Q,ρ,h=>Q (.exit id) ρ h
 | .ret,Q,ρ,h=>Q .ret ρ h
 | .label _,Q,ρ,h=>Q .normal ρ h
 | .scope b,Q,ρ,h=>vc P b Q ρ h
 | .goto _,_,_,_=>False
 | .refuse _,_,_,_=>False
end
section
def FW (r:Option Nat):Fence:={ fn:=λ_=>True,depth:=none,alive:=false,round:=r }
theorem XI {r:Option Nat} {P:Program} {f:FuncId} {args:Array vQ} {w:World} {R:Ending->World->Prop} (h:CallsIn Fence.wide 0 P f args w R):CallsIn (FW r) 0 P f args w R:=h
theorem XJ {r:Option Nat} {P:Program} {l:Nat} {f:FuncId} {t:Array vQ} {x y:Code} {w:World} {R:Ending->World->Prop} (h:RoundIn Fence.wide 0 P l f t x y w R):RoundIn (FW r) 0 P l f t x y w R:=h
structure Rl (n:Nat) (t:Array vQ) (ρ:G4):Prop where
 size:t.size=n
 get:∀j,t.getD j undef=ρ j
theorem El (ρ:G4) (d:Nat) (v:vQ):Xo ρ d v d=v:=by simp [Xo]
theorem Fu (ρ:G4) {d j:Nat} (v:vQ) (h:j≠d):Xo ρ d v j=ρ j:=by
 have:Nat.beq j d=false:=Bool.eq_false_iff.2 λe=>h (PD e)
 simp [Xo,this]
theorem TK {ρ:G4} {d:Nat} {v:vQ} (h:ρ d=v):Xo ρ d v=ρ:=by
 funext j;by_cases e:j=d
 ·subst e;rw [El,h]
 ·rw [Fu _ _ e]
section
variable {n:Nat} {t:Array vQ} {ρ:G4} {a:Act}
theorem Rl.eval (h:Rl n a.tmps ρ):a.eval=MO ρ:=by
 funext x;cases x with
 | tmp j=>exact h.get j
 | _=>rfl
theorem Rl.put (h:Rl n a.tmps ρ) {d:Option Nat} (v:vQ) (hd:∀j,d=some j->j < n):Rl n (a.put d v).tmps (Cb ρ d v):=by
 cases d with
 | none=>exact h
 | some d=>
  refine ⟨by simp [Act.put,h.size],λj=>?_⟩
  have hlt:d < a.tmps.size:=by rw [h.size];exact hd d rfl
  simp only [Act.put,Cb]
  by_cases e:j=d
  ·subst e;rw [El];simp [yL3,hlt]
  ·rw [Fu _ _ e,<- h.get j]
   simp [yL3,Sj9 (Ne.symm e)]
theorem Gf (d:Option Nat) (v:vQ):(a.put d v).defers=a.defers:=by cases d <;> rfl
def Ds (ops:Array Oper) (ρ:G4) (j:Nat):Option Bool:=
 match (ops[j]?).bind (·.dst) with
 | none=>none
 | some d=>match ρ d with | .bool b=>some b | _=>none
def FG (ops:Array Oper) (ρ:G4) (g:Option (Nat × Bool)):Bool:=
 match g with
 | none=>true
 | some (j,want)=>Ds ops ρ j == some want
theorem XK {ops:Array Oper} (h:Rl n a.tmps ρ) (j:Nat):yielded ops a.tmps j=Ds ops ρ j:=by
 unfold yielded Ds
 cases hd:(ops[j]?).bind (·.dst) with
 | none=>rfl
 | some d=>
  simp only [Option.bind_some]
  have:=h.get d
  cases hv:a.tmps[d]? with
  | none=>simp [yL3,hv] at this;simp [<- this,undef]
  | some v=>simp [yL3,hv] at this;subst this;cases ρ d <;> rfl
theorem PQ {ops:Array Oper} {o:Oper} (h:Rl n a.tmps ρ):Region.wanted o (yielded ops a.tmps)=FG ops ρ o.guard:=by
 unfold Region.wanted FG
 cases o.guard with
 | none=>rfl
 | some g=>obtain ⟨j,want⟩:=g;simp only [XK h]
theorem Jc {ops:Array Oper} {g:Option (Nat × Bool)} {yes no:G4->Prop} (H:Gd ops ρ g yes no):if FG ops ρ g then yes ρ else no ρ:=by
 unfold Gd at H
 cases g with
 | none=>exact H
 | some g=>
  obtain ⟨j,want⟩:=g
  simp only at H
  cases hd:(ops[j]?).bind (·.dst) with
  | none=>
   rw [hd] at H
   have hy:Ds ops ρ j=none:=by unfold Ds;rw [hd]
   simp only [FG,hy];exact H
  | some d=>
   rw [hd] at H;simp only at H
   unfold XE at H
   cases hv:ρ d with
   | bool b=>
    have hy:Ds ops ρ j=some b:=by unfold Ds;rw [hd];simp only [hv]
    rw [hv] at H;simp only at H
    simp only [FG,hy]
    cases b <;> cases want <;> simp [D4] at H ⊢ <;> rw [TK hv] at H <;> exact H
   | _=>
    have hy:Ds ops ρ j=none:=by unfold Ds;rw [hd];simp only [hv]
    rw [hv] at H;simp only [FG,hy];exact H
end
section
variable {P:Program} {n:Nat} {ρ:G4} {a:Act} {w:World} {h:A2} {K:kQ} {Q:Exit->Act->World->Prop} {r:Option Nat}
def Bf (o:Oper):Bool:=match o.op with | .defer _=>false | .select ..=>false | _=>true
def KA (n:Nat) (o:Oper):Bool:=Bf o && (match o.dst with | some d=>decide (d < n) | none=>true)
theorem JH {o:Oper} (ho:KA n o=true):∀d,o.dst=some d->d < n:=by
 intro d hd;unfold KA at ho;rw [hd] at ho;simp at ho;exact ho.2
theorem XL {o:Oper} (ho:KA n o=true):∀c,o.op≠.defer c:=by
 intro c hc;unfold KA Bf at ho;rw [hc] at ho;simp at ho
theorem Se8 {o:Oper} (H:OpS P (MO ρ) o h K) (hR:Rl n a.tmps ρ) (hw:w.heap=h) (ho:KA n o=true) {next:Act->World->Prop}
  (hnext:∀v w',K v w'.heap->Kw w w'->next (a.put o.dst v) w'):o.wpIn (FW r) 0 P a w next Q:=by
 refine ⟨λ_ _=>trivial,?_⟩
 rw [Oper.semAt_eq _ _ _ (XL ho),hR.eval]
 obtain ⟨nx,w',hrun,hn⟩:=H w hw
 rw [hrun]
 have hcall:∀ {e:Ending} {w'':World},onH w K e w''->(match e,w'' with
   | .returned v,w''=>next (a.put o.dst v) w''
   | .panicked chain,w''=>Q (.panic chain) a w''
   | .outgrown,_=>LetsOut Q):=by
  intro e w'' x
  cases e <;> first | exact hnext _ _ x.1 x.2 | exact x.elim
 cases nx <;> simp only [Oper.uponIn]
 case value v=>exact hnext _ _ hn.1 hn.2
 case skip=>exact hnext _ _ hn.1 hn.2
 case enter f args=>exact ⟨by simp [FW],(XI hn).mono λe w'' x=>hcall x⟩
 case round l f tmps assign body=>exact ⟨by simp [FW],(XJ hn).mono λe w'' x=>hcall x⟩
 all_goals exact hn.elim
def GJ (ws:List Nat) (t t':Array vQ):Prop:=∀j,j ∉ ws->t'.getD j undef=t.getD j undef
theorem GJ.refl (ws:List Nat) (t:Array vQ):GJ ws t t:=λ_ _=>rfl
theorem GJ.trans {ws:List Nat} {a b c:Array vQ} (h1:GJ ws a b) (h2:GJ ws b c):GJ ws a c:=λj hj=>(h2 j hj).trans (h1 j hj)
theorem GJ.mono {ws ws':List Nat} {a b:Array vQ} (h:GJ ws a b) (hs:∀j ∈ ws,j ∈ ws'):GJ ws' a b:=λj hj=>h j (λx=>hj (hs j x))
theorem GJ.put {ws:List Nat} (a:Act) (d:Option Nat) (v:vQ) (hd:∀j,d=some j->j ∈ ws):GJ ws a.tmps (a.put d v).tmps:=by
 intro j hj
 cases d with
 | none=>rfl
 | some d=>
  have:d≠j:=λe=>hj (by subst e;exact hd _ rfl)
  simp [Act.put,yL3,Sj9 this]
def pstep (P:Program) (ops:Array Oper) (i:Nat) (ρ:G4) (h:A2) (K:G4->A2->Prop):Prop:=
 match ops[i]? with
 | none=>K ρ h
 | some o=>if FG ops ρ o.guard then Fs P (MO ρ) o h (λv h'=>K (Cb ρ o.dst v) h') else K (Cb ρ o.dst Bq) h
theorem Rj {ops:Array Oper} {i:Nat} {K:G4->A2->Prop} (H:pstep P ops i ρ h K) (hR:Rl n a.tmps ρ) (hw:w.heap=h) (ho:∀o,ops[i]? = some o->KA n o=true)
  {ws:List Nat} (hws:∀o,ops[i]? = some o->∀d,o.dst=some d->d ∈ ws)
  {next:Act->World->Prop} (hnext:∀ρ' a' w',K ρ' w'.heap->Rl n a'.tmps ρ'->GJ ws a.tmps a'.tmps->a'.defers=a.defers->Kw w w'->next a' w'):wpOpIn (FW r) 0 P ops Q i next a w:=by
 unfold pstep at H
 unfold wpOpIn
 cases hi:ops[i]? with
 | none=>rw [hi] at H;subst hw;exact hnext ρ a w H hR (GJ.refl _ _) rfl (Kw.refl _)
 | some o=>
  rw [hi] at H
  simp only at H ⊢
  rw [PQ hR]
  split
  ·rename_i hwt
   rw [A8 hwt] at H
   exact Se8 (PN o (λ_=>rfl) H) hR hw (ho o hi) λv w' hk hkd=>hnext _ _ w' hk (hR.put v (JH (ho o hi))) (GJ.put _ _ _ (hws o hi)) (Gf _ _) hkd
  ·rename_i hwt
   rw [A7 hwt] at H
   subst hw
   exact ⟨λ_ _=>trivial,hnext _ _ w H (hR.put _ (JH (ho o hi))) (GJ.put _ _ _ (hws o hi)) (Gf _ _) (Kw.refl _)⟩
theorem TL {n:Nat} {v:vQ} {F:vQ->Prop} (H:Xy n v F):F v:=by
 unfold Xy at H
 split at H
 ·obtain ⟨cs,e,H⟩:=Aw H
  rw [e]
  unfold G3 at H
  split at H
  ·rename_i hn
   have:=MK _ _ _ H
   have hn:=PD hn
   simp only [List.reverse_nil,OG,List.drop_zero] at this
   rw [Dg (by simp [hn])] at this
   exact this
  ·exact H.elim
 ·exact H
theorem XM {P:Program} {t:TypeId} {v:vQ} {F:vQ->Prop} (H:IX P t v F):F v:=by
 unfold IX at H
 split at H
 ·obtain ⟨_,e,H⟩:=O4 H;rw [e];exact H
 ·obtain ⟨_,e,H⟩:=M1 H;rw [e];exact H
 ·obtain ⟨_,e,H⟩:=L7 H;rw [e];exact H
 ·obtain ⟨_,_,_,e,H⟩:=O9 H;rw [e];exact H
 ·obtain ⟨_,e,H⟩:=Y8 H;rw [e];exact H
 ·obtain ⟨_,e,H⟩:=FE H;rw [e];exact H
 ·exact TL H
 ·exact TL H
 ·exact H
theorem Rk {P:Program} {o:Oper} {v:vQ} {F:vQ->Prop} (H:tyO P o v F):F v:=by
 unfold tyO at H
 split at H
 ·exact H
 ·exact H
 ·exact XM H
def XN (P:Program) (ops:Array Oper) (i:Nat) (ρ:G4) (h:A2) (K:G4->A2->Prop):Prop:=
 match ops[i]? with
 | none=>K ρ h
 | some o=>if FG ops ρ o.guard then Fs P (MO ρ) o h (λv h'=>tyO P o v λv=>K (Cb ρ o.dst v) h') else K (Cb ρ o.dst Bq) h
theorem OL {ops:Array Oper} {i:Nat} {K:G4->A2->Prop} (H:XN P ops i ρ h K) (hR:Rl n a.tmps ρ) (hw:w.heap=h) (ho:∀o,ops[i]? = some o->KA n o=true)
  {ws:List Nat} (hws:∀o,ops[i]? = some o->∀d,o.dst=some d->d ∈ ws)
  {next:Act->World->Prop} (hnext:∀ρ' a' w',K ρ' w'.heap->Rl n a'.tmps ρ'->GJ ws a.tmps a'.tmps->a'.defers=a.defers->Kw w w'->next a' w'):wpOpIn (FW r) 0 P ops Q i next a w:=by
 unfold XN at H
 unfold wpOpIn
 cases hi:ops[i]? with
 | none=>rw [hi] at H;subst hw;exact hnext ρ a w H hR (GJ.refl _ _) rfl (Kw.refl _)
 | some o=>
  rw [hi] at H
  simp only at H ⊢
  rw [PQ hR]
  split
  ·rename_i hwt
   rw [A8 hwt] at H
   exact Se8 (PN o (λ_=>rfl) H) hR hw (ho o hi) λv w' hk hkd=>hnext _ _ w' (Rk hk) (hR.put v (JH (ho o hi))) (GJ.put _ _ _ (hws o hi)) (Gf _ _) hkd
  ·rename_i hwt
   rw [A7 hwt] at H
   subst hw
   exact ⟨λ_ _=>trivial,hnext _ _ w H (hR.put _ (JH (ho o hi))) (GJ.put _ _ _ (hws o hi)) (Gf _ _) (Kw.refl _)⟩
def Lh (n:Nat) (ops:Array Oper):Bool:=ops.toList.all (KA n)
theorem MQ {ops:Array Oper} (ho:Lh n ops=true) (i:Nat) (o:Oper) (hi:ops[i]? = some o):KA n o=true:=by
 unfold Lh at ho;rw [MG] at ho
 exact ho o (Xs.2 (Array.mem_of_getElem? hi))
theorem IK {ops:Array Oper} (ho:Lh n ops=true) {ws:List Nat} (hws:∀(i:Nat) (o:Oper),ops[i]? = some o->∀d,o.dst=some d->d ∈ ws) {K:G4->A2->Prop} (l:List Oper):∀(k:Nat),(∀j,l[j]? = ops[k+j]?)->∀(ρ:G4) (h:A2) (a:Act) (w:World),
  II P ops l ρ h K->Rl n a.tmps ρ->w.heap=h ->
  (∀ρ' a' w',K ρ' w'.heap->Rl n a'.tmps ρ'->GJ ws a.tmps a'.tmps->a'.defers=a.defers->Kw w w'->Q .normal a' w')->wpOpsIn (FW r) 0 P ops Q (List.range' k l.length) a w:=by
 induction l with
 | nil=>intro k _ ρ h a w H hR hw hQ;subst hw;exact hQ ρ a w H hR (GJ.refl _ _) rfl (Kw.refl _)
 | cons o l ih=>
  intro k hk ρ h a w H hR hw hQ
  have h0:ops[k]? = some o:=by simpa using (hk 0).symm
  have ih':=ih (k+1) (λj=>by have:=hk (j+1);simpa [Nat.add_assoc,Nat.add_comm 1 j] using this)
  simp only [Jy,List.range'_succ,wpOpsIn_cons]
  have H:=Jc H
  refine OL (n:=n) (K:=λρ' h'=>II P ops l ρ' h' K) ?_ hR hw (λo' ho'=>MQ ho k o' ho') (hws k) ?_
  ·unfold XN;rw [h0];exact H
  ·intro ρ' a' w' hl hR' hs hd hkd
   refine ih' ρ' _ a' w' hl hR' rfl ?_
   intro ρ'' a'' w'' hK hR'' hs' hd' hkd'
   exact hQ ρ'' a'' w'' hK hR'' (hs.trans hs') (hd'.trans hd) (hkd.trans hkd')
end
end
section
section
variable {P:Program} {h:A2} {K:kQ}
theorem Sl4 {ρ ρ':Operand->vQ} {o:Oper} (hp0:Bf o=true) (hh:∀x ∈ o.op.operands,ρ x=ρ' x):Rc P ρ o h K=Rc P ρ' o h K:=by
 unfold Rc
 rw [execOp_congr o (λcs b e=>by unfold Bf at hp0;rw [e] at hp0;simp at hp0) hh]
theorem XO {ρ ρ':Operand->vQ} {op:BinOp} {xt yt:TypeId} {x y:Operand} {o:Oper} (hx:ρ x=ρ' x) (hy:ρ y=ρ' y) (ho:Rc P ρ o h K=Rc P ρ' o h K) :
  Mi P op xt yt x y ρ o h K=Mi P op xt yt x y ρ' o h K:=by
 unfold Mi;simp only [hx,hy,ho]
theorem Sl5 {ρ ρ':Operand->vQ} {o:Oper} (hp0:Bf o=true) (hh:∀x ∈ o.op.operands,ρ x=ρ' x):Fs P ρ o h K=Fs P ρ' o h K:=by
 have ho:=Sl4 (P:=P) (h:=h) (K:=K) hp0 hh
 unfold Fs
 split
 case h_1 x hx | h_2 x hx | h_5 t x hx | h_8 t x hx | h_10 x hx | h_12 op xt x hx | h_13 s d x hx | h_14 t x hx | h_19 t x f hx | h_20 t x f hx | h_25 x i hx=>
  rw [hx] at hh
  have e:ρ x=ρ' x:=hh x (by simp [Op.operands])
  simp only [e,ho]
 case h_3 c a b hx=>
  rw [hx] at hh
  have e1:ρ c=ρ' c:=hh c (by simp [Op.operands])
  have e2:ρ a=ρ' a:=hh a (by simp [Op.operands])
  have e3:ρ b=ρ' b:=hh b (by simp [Op.operands])
  simp only [e1,e2,e3]
 case h_4 | h_16=>rfl
 case h_6 t parts hx=>
  rw [hx] at hh
  have e:(parts.toList.map λp=>(p.1,ρ p.2))=(parts.toList.map λp=>(p.1,ρ' p.2)):=by
   apply Tg
   intro p hp1
   have:ρ p.2=ρ' p.2:=hh p.2 (by simp only [Op.operands];simp;exact ⟨p.1,by simpa using hp1⟩)
   rw [this]
  simp only [e]
 case h_7 t len parts hx=>
  rw [hx] at hh
  have e:(parts.toList.map λp=>(p.1,ρ p.2))=(parts.toList.map λp=>(p.1,ρ' p.2)):=by
   apply Tg
   intro p hp1
   have:ρ p.2=ρ' p.2:=hh p.2 (by simp only [Op.operands];simp;exact ⟨p.1,by simpa using hp1⟩)
   rw [this]
  simp only [e]
 case h_9 t x y hx=>
  rw [hx] at hh
  have e1:ρ x=ρ' x:=hh x (by simp [Op.operands])
  have e2:ρ y=ρ' y:=hh y (by simp [Op.operands])
  simp only [e1,e2]
 case h_11 op xt x y yt hx=>
  rw [hx] at hh
  have e1:ρ x=ρ' x:=hh x (by simp [Op.operands])
  have e2:ρ y=ρ' y:=hh y (by simp [Op.operands])
  exact XO e1 e2 ho
 case h_15 fn first captured hx=>
  rw [hx] at hh
  have e1:IY ρ first=IY ρ' first:=by unfold IY;congr 1;apply Tg;intro x hx1;exact hh x (by simp [Op.operands,(Xs.1 hx1)])
  have e2:IY ρ captured=IY ρ' captured:=by unfold IY;congr 1;apply Tg;intro x hx1;exact hh x (by simp [Op.operands,(Xs.1 hx1)])
  simp only [e1,e2]
 case h_17 t x y hx | h_21 t x y hx | h_22 t x y hx | h_23 t x y ok hx=>
  rw [hx] at hh
  have e1:ρ x=ρ' x:=hh x (by simp [Op.operands])
  have e2:ρ y=ρ' y:=hh y (by simp [Op.operands])
  simp only [e1,e2]
 case h_18 t x lo hi mx hx=>
  rw [hx] at hh
  have e1:ρ x=ρ' x:=hh x (by simp [Op.operands])
  have e2:lo.map ρ=lo.map ρ':=by cases lo with | none=>rfl | some l=>simp only [JA];rw [hh l (by simp [Op.operands])]
  have e3:hi.map ρ=hi.map ρ':=by cases hi with | none=>rfl | some l=>simp only [JA];rw [hh l (by simp [Op.operands])]
  have e4:mx.map ρ=mx.map ρ':=by cases mx with | none=>rfl | some l=>simp only [JA];rw [hh l (by simp [Op.operands])]
  simp only [e1,e2,e3,e4]
 case h_24 t m k x hx=>
  rw [hx] at hh
  have e1:ρ m=ρ' m:=hh m (by simp [Op.operands])
  have e2:ρ k=ρ' k:=hh k (by simp [Op.operands])
  have e3:ρ x=ρ' x:=hh x (by simp [Op.operands])
  simp only [e1,e2,e3]
 case h_26 b args argTypes hx=>
  rw [hx] at hh
  have e1:args.toList.map ρ=args.toList.map ρ':=by apply Tg;intro x hx1;exact hh x (by simp [Op.operands,Call.operands,(Xs.1 hx1)])
  unfold AN
  simp only [e1,ho]
 case h_27 f args argTypes hx=>
  rw [hx] at hh
  have e1:IY ρ args=IY ρ' args:=by unfold IY;congr 1;apply Tg;intro x hx1;exact hh x (by simp [Op.operands,Call.operands,(Xs.1 hx1)])
  have e2:ρ f=ρ' f:=hh f (by simp [Op.operands,Call.operands])
  simp only [e1,e2]
 case h_28=>rfl
 case h_29=>exact ho
theorem S08 {ρ:G4} {d:Option Nat} {v:vQ} {x:Operand} (hx:∀j,d=some j->x≠.tmp j):MO (Cb ρ d v) x=MO ρ x:=by
 cases d with
 | none=>rfl
 | some d=>cases x with
  | tmp j=>exact Fu _ _ (λe=>hx d rfl (by rw [e]))
  | _=>rfl
theorem Se9 {ρ:G4} {ops:Array Oper} {o:Oper} {d:Option Nat} {v:vQ} (hp0:Bf o=true) (hd:∀j,d=some j->j ∉ o.looksAt ops) :
  Fs P (MO (Cb ρ d v)) o h K=Fs P (MO ρ) o h K:=by
 refine Sl5 hp0 λx hx=>S08 λj hj e=>hd j hj ?_
 subst e
 unfold Oper.looksAt
 exact GR.2 (.inl (Th.2 ⟨_,Xs.2 hx,rfl⟩))
theorem PR {ρ:G4} {ops:Array Oper} {o:Oper} {d:Option Nat} {v:vQ} (hd:∀j,d=some j->j ∉ o.looksAt ops) :
  FG ops (Cb ρ d v) o.guard=FG ops ρ o.guard:=by
 unfold FG
 cases hg:o.guard with
 | none=>rfl
 | some g=>
  obtain ⟨j,want⟩:=g
  have e:Ds ops (Cb ρ d v) j=Ds ops ρ j:=by
   unfold Ds
   cases hs:(ops[j]?).bind (·.dst) with
   | none=>rfl
   | some s=>
    simp only
    cases d with
    | none=>rfl
    | some d=>
     have:s≠d:=by
      intro e;subst e
      refine hd s rfl ?_
      unfold Oper.looksAt
      rw [hg];simp only [hs];simp
     rw [show Cb ρ (some d) v s=ρ s from Fu _ _ this]
  simp only [e]
theorem PS (ρ:G4) {x y:Option Nat} (v u:vQ) (hne:∀d,x=some d->y≠some d):Cb (Cb ρ x v) y u=Cb (Cb ρ y u) x v:=by
 cases x with
 | none=>rfl
 | some x=>cases y with
  | none=>rfl
  | some y=>
   have hxy:x≠y:=λe=>hne x rfl (by rw [e])
   funext j
   simp only [Cb]
   by_cases e1:j=x
   ·subst e1;rw [Fu _ _ hxy,El,El]
   ·by_cases e2:j=y
    ·subst e2;rw [El,Fu _ _ e1,El]
    ·rw [Fu _ _ e2,Fu _ _ e1,Fu _ _ e1,Fu _ _ e2]
end
end
section
section
variable {P:Program} {h:A2} {ρ:Operand->vQ} {G:vQ->Prop}
def XP (P:Program) (ρ:Operand->vQ) (o:Oper) (L:List (Addr × vQ)) (v:vQ):Prop:=
 ∀h:A2,(∀x ∈ L,A3 h x.1=some x.2)->∀K:vQ->A2->Prop,K v h->Fs P ρ o h K
theorem MR {k:IntKind} {op:BinOp} {a b:Int} (H:Lf k op a b G):∃v,G v/\∀G':vQ->Prop,G' v->Lf k op a b G':=by
 cases op <;> simp only [Lf] at H ⊢ <;> first
  | exact ⟨_,H,λ_ x=>x⟩
  | exact ⟨_,H.2,λ_ x=>⟨H.1,x⟩⟩
  | exact H.elim
theorem KC {k:IntKind} {op:BinOp} {a b:Int} (H:Tp k op a b G):∃v,G v/\∀G':vQ->Prop,G' v->Tp k op a b G':=by
 cases op <;> simp only [Tp] at H ⊢ <;> first
  | exact ⟨_,H.2,λ_ x=>⟨H.1,x⟩⟩
  | exact H.elim
theorem FH {t:TypeId} {x y:vQ} {F:Bool->Prop} (H:Gb P t x y F):∃b,F b/\∀F':Bool->Prop,F' b->Gb P t x y F':=by
 unfold Gb at *
 split at H
 ·exact H.elim
 ·rename_i hg
  obtain ⟨a,rfl,H⟩:=Aw H
  split at H
  ·rename_i b hb
   exact ⟨b,H,λF' x=>by simp only [hg,asAgg,hb];simpa using x⟩
  ·exact H.elim
theorem AO {v:Option vQ} {d m:Nat} {F:Nat->Prop} (H:BM none v d m F):∃n,F n/\∀F':Nat->Prop,F' n->BM none v d m F':=by
 rcases BN H with ⟨rfl,H1⟩ | ⟨k,i,rfl,h0,h1,H1⟩
 ·exact ⟨d,H1,λ_ x=>x⟩
 ·exact ⟨_,H1,λ_ x=>⟨h0,h1,x⟩⟩
theorem Li {t:TypeId} {x:vQ} {lo hi mx:Option vQ} (H:Hb P t x lo hi mx G):∃v,G v/\∀G':vQ->Prop,G' v->Hb P t x lo hi mx G':=by
 unfold Hb at *
 split at H
 ·split at H
  ·exact H.elim
  ·rename_i hm
   obtain ⟨s,rfl,H1⟩:=L7 H
   obtain ⟨a,H2,f1⟩:=AO H1
   obtain ⟨b,H3,f2⟩:=AO H2
   exact ⟨_,H3,λG' x=>by rw [A7 hm];simp only [L8];apply f1;apply f2;exact x⟩
 ·split at H
  ·rename_i ht
   obtain ⟨a,len,cap,rfl,H1⟩:=O9 H
   obtain ⟨m,H2,f1⟩:=AO H1
   obtain ⟨b,H3,f2⟩:=AO H2
   obtain ⟨c,H4,f3⟩:=AO H3
   exact ⟨_,H4,λG' x=>by simp only [ht,if_true,D3,F3];apply f1;apply f2;apply f3;exact x⟩
  ·exact H.elim
 ·split at H
  ·rename_i ht
   obtain ⟨a,rfl,H1⟩:=V9 H
   obtain ⟨m,H2,f1⟩:=AO H1
   obtain ⟨b,H3,f2⟩:=AO H2
   obtain ⟨c,H4,f3⟩:=AO H3
   exact ⟨_,H4,λG' x=>by simp only [ht,if_true,D3,F3];apply f1;apply f2;apply f3;exact x⟩
  ·exact H.elim
 ·exact H.elim
theorem EQ {t:TypeId} {v:vQ} {F:List vQ->Prop} (H:Eh P t v F):F v.cells.toList/\∀F':List vQ->Prop,F' v.cells.toList->Eh P t v F':=by
 refine ⟨Gc H,λF' x=>?_⟩
 unfold Eh at *
 split at H
 ·rename_i ht
  simp only [ht,if_true];exact (Tt H).2 _ x
 ·rename_i ht
  simp only [ht]
  have e:=(IZ H).1
  rw [e] at x
  exact Ea (λ_=>by simpa using x) H
theorem Jd {place:Nat->Option (Nat × TypeId)} (parts:List (Nat × vQ)):∀(cells:List vQ) (F:List vQ->Prop),GH P place cells parts F ->
  ∃cs,F cs/\∀F':List vQ->Prop,F' cs->GH P place cells parts F':=by
 induction parts with
 | nil=>intro cells F H;exact ⟨cells,H,λ_ x=>x⟩
 | cons p rest ih=>
  obtain ⟨i,v⟩:=p
  intro cells F H
  unfold GH at H
  split at H
  ·exact H.elim
  ·rename_i off t hp1
   obtain ⟨H,f1⟩:=EQ H
   split at H
   ·rename_i hs
    obtain ⟨cs,h1,h2⟩:=ih _ _ H
    refine ⟨cs,h1,λF' x=>?_⟩
    unfold GH
    simp only [hp1]
    exact f1 _ (by rw [A8 hs];exact h2 _ x)
   ·exact H.elim
theorem Sl6 {op:BinOp} {xt yt:TypeId} {x y:Operand} {o:Oper} (hr:Al P { o with op:=.binOp op xt x y yt }=true) (H:Mi P op xt yt x y ρ o h (λv _=>G v)) :
  ∃v,G v/\∀(h':A2) (K':kQ),K' v h'->Mi P op xt yt x y ρ o h' K':=by
 unfold Al at hr
 simp only at hr
 unfold Mi at *
 cases hu:Be P xt with
 | int k=>
  rw [hu] at H hr
  simp only at H ⊢
  split at H
  ·split at H
   ·obtain ⟨a,ha,H⟩:=M1 H
    obtain ⟨b,hb,H⟩:=M1 H
    obtain ⟨v,H,f⟩:=KC H
    exact ⟨v,H,λh' K' x=>by simp only [ha,hb,asInt,if_true];exact f (λv=>K' v h') x⟩
   ·exact H.elim
  ·split at H
   ·obtain ⟨a,ha,H⟩:=M1 H
    obtain ⟨b,hb,H⟩:=M1 H
    obtain ⟨v,H,f⟩:=KC H
    exact ⟨v,H,λh' K' x=>by simp only [ha,hb,asInt,if_true];exact f (λv=>K' v h') x⟩
   ·exact H.elim
  ·obtain ⟨a,ha,H⟩:=M1 H
   obtain ⟨b,hb,H⟩:=M1 H
   obtain ⟨v,H,f⟩:=MR H
   exact ⟨v,H,λh' K' x=>by simp only [ha,hb,asInt,if_true];exact f (λv=>K' v h') x⟩
 | bool=>
  rw [hu] at H hr
  simp only at H ⊢
  split at H
  ·obtain ⟨a,ha,H⟩:=O4 H
   obtain ⟨b,hb,H⟩:=O4 H
   exact ⟨_,H,λh' K' x=>by simp only [ha,hb,asBool];exact x⟩
  ·obtain ⟨a,ha,H⟩:=O4 H
   obtain ⟨b,hb,H⟩:=O4 H
   exact ⟨_,H,λh' K' x=>by simp only [ha,hb,asBool];exact x⟩
  ·exact H.elim
 | string=>
  rw [hu] at H hr
  simp only at H hr ⊢
  split at H
  ·obtain ⟨a,ha,H⟩:=L7 H
   obtain ⟨b,hb,H⟩:=L7 H
   exact ⟨_,H,λh' K' x=>by simp only [ha,hb,L8];exact x⟩
  ·obtain ⟨a,ha,H⟩:=L7 H
   obtain ⟨b,hb,H⟩:=L7 H
   exact ⟨_,H,λh' K' x=>by simp only [ha,hb,L8];exact x⟩
  ·obtain ⟨a,ha,H⟩:=L7 H
   obtain ⟨b,hb,H⟩:=L7 H
   exact ⟨_,H.2,λh' K' x=>by simp only [ha,hb,L8];exact ⟨H.1,x⟩⟩
  ·split at hr <;> simp_all
 | pointer e=>
  rw [hu] at H hr
  simp only at H hr ⊢
  split at H
  ·obtain ⟨a,ha,H⟩:=Y8 H
   exact ⟨_,H,λh' K' x=>by simp only [ha,C9];exact x⟩
  ·obtain ⟨a,ha,H⟩:=Y8 H
   exact ⟨_,H,λh' K' x=>by simp only [ha,C9];exact x⟩
  ·simp_all
  ·simp_all
  ·split at hr <;> simp_all
 | slice e=>
  rw [hu] at H hr
  simp only at H hr ⊢
  split at H
  ·obtain ⟨a,l,c,ha,H⟩:=O9 H
   exact ⟨_,H,λh' K' x=>by simp only [ha,D3];exact x⟩
  ·obtain ⟨a,l,c,ha,H⟩:=O9 H
   exact ⟨_,H,λh' K' x=>by simp only [ha,D3];exact x⟩
  ·split at hr <;> simp_all
 | func e1 e2 e3=>
  rw [hu] at H hr
  simp only at H hr ⊢
  split at H
  ·rcases EO H with ⟨ha,H⟩ | ⟨f,a,b,ha,H⟩
   ·exact ⟨_,H,λh' K' x=>by simp only [ha,X0];exact x⟩
   ·exact ⟨_,H,λh' K' x=>by simp only [ha,X0];exact x⟩
  ·rcases EO H with ⟨ha,H⟩ | ⟨f,a,b,ha,H⟩
   ·exact ⟨_,H,λh' K' x=>by simp only [ha,X0];exact x⟩
   ·exact ⟨_,H,λh' K' x=>by simp only [ha,X0];exact x⟩
  ·split at hr <;> simp_all
 | struct fs=>
  rw [hu] at H hr
  simp only at H hr ⊢
  split at H
  ·obtain ⟨b,H,f⟩:=FH H
   exact ⟨_,H,λh' K' x=>f (λb=>K' (.bool b) h') x⟩
  ·obtain ⟨b,H,f⟩:=FH H
   exact ⟨_,H,λh' K' x=>f (λb=>K' (.bool (!b)) h') x⟩
  ·exact H.elim
 | array n e=>
  rw [hu] at H hr
  simp only at H hr ⊢
  split at H
  ·obtain ⟨b,H,f⟩:=FH H
   exact ⟨_,H,λh' K' x=>f (λb=>K' (.bool b) h') x⟩
  ·obtain ⟨b,H,f⟩:=FH H
   exact ⟨_,H,λh' K' x=>f (λb=>K' (.bool (!b)) h') x⟩
  ·exact H.elim
 | _=>rw [hu] at hr;simp at hr
theorem SG1 {o:Oper} (hr:Al P o=true) (hn:∀t x,o.op≠.load t x) (H:Fs P ρ o h (λv _=>G v)):∃v,G v/\XP P ρ o [] v:=by
 unfold Fs at H
 unfold XP
 split at H
 case h_1 x hx | h_2 x hx=>exact ⟨_,H,λh' _ K' k=>by unfold Fs;rw [hx];exact k⟩
 case h_3 c a b hx=>
  obtain ⟨t,ht,H⟩:=O4 H
  refine ⟨if t then ρ a else ρ b,?_,λh' _ K' k=>?_⟩
  ·cases t <;> exact H
  ·unfold Fs;rw [hx];simp only [ht,asBool];cases t <;> exact k
 case h_4 t hx | h_16 t hx=>unfold Al at hr;rw [hx] at hr;simp at hr
 case h_5 t x hx | h_24 t m k x hx=>unfold Al at hr;rw [hx] at hr;simp at hr
 case h_6 t parts hx=>
  split at H
  ·rename_i hz
   split at H
   ·rename_i fields hu
    split at H
    ·exact H.elim
    ·rename_i hall
     obtain ⟨cs,H,f⟩:=Jd _ _ _ H
     refine ⟨_,H,λh' _ K' k=>?_⟩
     unfold Fs;rw [hx];simp only [hz,if_true,hu,A7 hall]
     exact f (λcs=>K' (.agg cs.toArray) h') k
   ·rename_i n elem hu
    split at H
    ·exact H.elim
    ·rename_i hall
     obtain ⟨cs,H,f⟩:=Jd _ _ _ H
     refine ⟨_,H,λh' _ K' k=>?_⟩
     unfold Fs;rw [hx];simp only [hz,if_true,hu,A7 hall]
     exact f (λcs=>K' (.agg cs.toArray) h') k
   ·exact H.elim
  ·exact H.elim
 case h_7 t len parts hx=>unfold Al at hr;rw [hx] at hr;simp at hr
 case h_8 t x hx=>exact absurd hx (hn _ _)
 case h_9 t x y hx=>unfold Al at hr;rw [hx] at hr;simp at hr
 case h_10 x hx=>
  have e:∀X Y:Prop,G5 (ρ x) X->(Y->G5 (ρ x) Y)/\X:=by
   intro X Y q;unfold G5 at *;split at q <;> first | exact q.elim | exact ⟨λy=>y,q⟩
  exact ⟨_,(e _ True H).2,λh' _ K' k=>by unfold Fs;rw [hx];exact (e _ _ H).1 k⟩
 case h_11 op xt x y yt hx=>
  have hr':Al P { o with op:=.binOp op xt x y yt }=true:=by rw [<- hx];exact hr
  obtain ⟨v,H,f⟩:=Sl6 hr' H
  exact ⟨v,H,λh' _ K' k=>by unfold Fs;rw [hx];exact f h' K' k⟩
 case h_12 op xt x hx=>
  split at H
  ·rename_i hu
   obtain ⟨b,hb,H⟩:=O4 H
   exact ⟨_,H,λh' _ K' k=>by unfold Fs;rw [hx];simp only [hu,hb,asBool];exact k⟩
  ·rename_i hu
   obtain ⟨b,hb,H⟩:=M1 H
   exact ⟨_,H,λh' _ K' k=>by unfold Fs;rw [hx];simp only [hu,hb,asInt,if_true];exact k⟩
  ·rename_i n1 n2
   unfold Al at hr;rw [hx] at hr;simp only at hr
   exact absurd hr (by simp)
 case h_13 s d x hx=>
  split at H
  ·rename_i hu1 hu2
   obtain ⟨b,hb,H⟩:=M1 H
   exact ⟨_,H,λh' _ K' k=>by unfold Fs;rw [hx];simp only [hu1,hu2,hb,asInt,if_true];exact k⟩
  ·rename_i hu1 hu2
   obtain ⟨b,hb,H⟩:=L7 H
   exact ⟨_,H,λh' _ K' k=>by unfold Fs;rw [hx];simp only [hu1,hu2,hb,L8];exact k⟩
  ·rename_i n1 n2
   unfold Al at hr;rw [hx] at hr;simp only at hr
   exact absurd hr (by simp)
 case h_14 t x hx=>unfold Al at hr;rw [hx] at hr;simp at hr
 case h_15 fn first captured hx=>exact ⟨_,H,λh' _ K' k=>by unfold Fs;rw [hx];exact k⟩
 case h_17 t l c hx=>unfold Al at hr;rw [hx] at hr;simp at hr
 case h_18 t x lo hi mx hx=>
  split at H
  ·exact H.elim
  ·rename_i hm
   obtain ⟨v,H,f⟩:=Li H
   exact ⟨v,H,λh' _ K' k=>by unfold Fs;rw [hx];simp only [hm];exact f (λv=>K' v h') k⟩
 case h_19 t x f hx=>
  split at H
  ·rename_i fields hu
   split at H
   ·rename_i fd hf
    split at H
    ·rename_i hh
     obtain ⟨a,ha,H⟩:=V9 H
     exact ⟨_,H,λh' _ K' k=>by unfold Fs;rw [hx];simp only [hu,hf,A8 hh,ha,F3];exact k⟩
    ·exact H.elim
   ·exact H.elim
  ·exact H.elim
 case h_20 t x f hx=>
  split at H
  ·rename_i fields hu
   split at H
   ·rename_i fd hf
    obtain ⟨cs,ha,H⟩:=Aw H
    unfold EM at H
    split at H
    ·rename_i v hv
     split at H
     ·rename_i hth
      exact ⟨_,H,λh' _ K' k=>by unfold Fs;rw [hx];simp only [hu,hf,ha,asAgg,EM,hv,A8 hth];exact k⟩
     ·exact H.elim
    ·exact H.elim
   ·exact H.elim
  ·exact H.elim
 case h_21 t x i hx=>
  split at H
  ·rename_i elem hu
   obtain ⟨a,len,cap,ha,H⟩:=O9 H
   obtain ⟨k,n,hi,h0,h1,H⟩:=BI H
   obtain ⟨ad,had,H⟩:=V9 H
   cases had
   split at H
   ·rename_i hth
    exact ⟨_,H,λh' _ K' k=>by unfold Fs;rw [hx];simp only [hu,ha,D3,hi,Il,F3,A8 hth];exact ⟨h0,h1,k⟩⟩
   ·exact H.elim
  ·rename_i len elem hu
   obtain ⟨a,ha,H⟩:=V9 H
   obtain ⟨k,n,hi,h0,h1,H⟩:=BI H
   split at H
   ·rename_i hth
    exact ⟨_,H,λh' _ K' k=>by unfold Fs;rw [hx];simp only [hu,ha,F3,hi,Il,A8 hth];exact ⟨h0,h1,k⟩⟩
   ·exact H.elim
  ·exact H.elim
 case h_22 t x i hx=>
  split at H
  ·rename_i hu
   obtain ⟨s,ha,H⟩:=L7 H
   obtain ⟨k,n,hi,h0,h1,H⟩:=BI H
   exact ⟨_,H,λh' _ K' k=>by unfold Fs;rw [hx];simp only [hu,ha,L8,hi,Il];exact ⟨h0,h1,k⟩⟩
  ·rename_i len elem hu
   obtain ⟨cs,ha,H⟩:=Aw H
   obtain ⟨k,n,hi,h0,h1,H⟩:=BI H
   unfold EM at H
   split at H
   ·rename_i v hv
    split at H
    ·rename_i hth
     exact ⟨_,H,λh' _ K' k=>by unfold Fs;rw [hx];simp only [hu,ha,asAgg,hi,Il,EM,hv,A8 hth];exact ⟨h0,h1,k⟩⟩
    ·exact H.elim
   ·exact H.elim
  ·exact H.elim
 case h_23 t x i ok hx=>unfold Al at hr;rw [hx] at hr;simp at hr
 case h_25 x i hx=>
  obtain ⟨vs,ha,H⟩:=Ky H
  unfold D9 at H
  split at H
  ·rename_i v hv
   exact ⟨_,H,λh' _ K' k=>by unfold Fs;rw [hx];simp only [ha,J3,D9,hv];exact k⟩
  ·exact H.elim
 case h_26 b args argTypes hx=>
  have hb:b=.len:=by
   cases b <;> first | rfl | exact absurd hr (by unfold Al;rw [hx];simp)
  subst hb
  unfold Al at hr;rw [hx] at hr;simp only at hr
  split at hr
  ·rename_i t x h1 h2
   unfold AN at H
   rw [h2] at H
   simp only [GY,QZ,h1] at H
   split at H
   ·rename_i e hu
    obtain ⟨a,n,c,ha,H⟩:=O9 H
    exact ⟨_,H,λh' _ K' k=>by unfold Fs;rw [hx];simp only [AN,h2,GY,QZ,h1,hu,ha,D3];exact k⟩
   ·rename_i hu
    obtain ⟨a,ha,H⟩:=L7 H
    exact ⟨_,H,λh' _ K' k=>by unfold Fs;rw [hx];simp only [AN,h2,GY,QZ,h1,hu,ha,L8];exact k⟩
   ·rename_i e1 e2 hu;rw [hu] at hr;simp at hr
   ·rename_i n e hu
    exact ⟨_,H,λh' _ K' k=>by unfold Fs;rw [hx];simp only [AN,h2,GY,QZ,h1,hu];exact k⟩
   ·exact H.elim
  ·exact absurd hr (by simp)
 case h_27 f args argTypes hx=>unfold Al at hr;rw [hx] at hr;simp at hr
 case h_28=>exact H.elim
 case h_29=>
  exfalso
  unfold Al at hr
  split at hr <;> rename_i hx <;> first
   | (exact absurd hr (by decide))
   | solve_by_elim
end
end
section
section
variable {P:Program} {ops:Array Oper}
theorem CQ {v:vQ} {F F':Addr->Prop} (f:∀a,F a->F' a) (H:F3 v F):F3 v F':=by obtain ⟨a,rfl,H2⟩:=V9 H;exact f a H2
theorem AP {v:vQ} {F F':rQ->Prop} (f:∀a,F a->F' a) (H:C9 v F):C9 v F':=by obtain ⟨a,rfl,H2⟩:=Y8 H;exact f a H2
theorem U5 {k:IntKind} {v:vQ} {F F':Int->Prop} (f:∀a,F a->F' a) (H:asInt k v F):asInt k v F':=by obtain ⟨a,rfl,H2⟩:=M1 H;unfold asInt;simp only [if_true];exact f a H2
theorem FI {v:vQ} {F F':Int->Prop} (f:∀a,F a->F' a) (H:Il v F):Il v F':=by obtain ⟨k,a,rfl,H2⟩:=BI H;exact f a H2
theorem AQ {v:vQ} {F F':Bool->Prop} (f:∀a,F a->F' a) (H:asBool v F):asBool v F':=by obtain ⟨a,rfl,H2⟩:=O4 H;exact f a H2
theorem Z1 {v:vQ} {F F':ByteArray->Prop} (f:∀a,F a->F' a) (H:L8 v F):L8 v F':=by obtain ⟨a,rfl,H2⟩:=L7 H;exact f a H2
theorem Bg {v:vQ} {F F':rQ->Nat->Nat->Prop} (f:∀a b c,F a b c->F' a b c) (H:D3 v F):D3 v F':=by obtain ⟨a,b,c,rfl,H2⟩:=O9 H;exact f a b c H2
theorem Je {v:vQ} {F F':Array vQ->Prop} (f:∀a,F a->F' a) (H:asAgg v F):asAgg v F':=by obtain ⟨a,rfl,H2⟩:=Aw H;exact f a H2
theorem XQ {v:vQ} {F F':Array vQ->Prop} (f:∀a,F a->F' a) (H:J3 v F):J3 v F':=by obtain ⟨a,rfl,H2⟩:=Ky H;exact f a H2
theorem Gg {v:vQ} {F F':Option Nat->Prop} (f:∀a,F a->F' a) (H:CG v F):CG v F':=by obtain ⟨a,rfl,H2⟩:=FE H;exact f a H2
theorem JI {v:vQ} {F F':Bool->Prop} (f:∀a,F a->F' a) (H:X0 v F):X0 v F':=by unfold X0 at *;split at H <;> first | exact f _ H | exact H.elim
theorem TM {b:Bool} {X Y X' Y':Prop} (f:X->X') (g:Y->Y') (H:D4 b X Y):D4 b X' Y':=by cases b <;> first | exact f H | exact g H
theorem AR {c:Prop} [Decidable c] {X X':Prop} (f:c->X->X') (H:if c then X else False):if c then X' else False:=by split <;> simp_all
theorem KD {c:Prop} [Decidable c] {X X':Prop} (f:¬c->X->X') (H:if c then False else X):if c then False else X':=by split <;> simp_all
theorem Lj {t:TypeId} {v:vQ} {F F':List vQ->Prop} (f:∀a,F a->F' a) (H:Eh P t v F):Eh P t v F':=(EQ H).2 _ (f _ (EQ H).1)
theorem Jf {place:Nat->Option (Nat × TypeId)} {parts:List (Nat × vQ)} {cells:List vQ} {F F':List vQ->Prop} (f:∀a,F a->F' a) (H:GH P place cells parts F):GH P place cells parts F':=by
 obtain ⟨cs,h1,h2⟩:=Jd _ _ _ H;exact h2 _ (f _ h1)
theorem Hf {h:A2} {a:Addr} {F F':vQ->Prop} (f:∀v,F v->F' v) (H:D2 h a F):D2 h a F':=by unfold D2 at *;split <;> simp_all
theorem MS {h:A2} {a:Addr} (n:Nat):∀ {i:Nat} {acc:List vQ} {F F':List vQ->Prop},(∀v,F v->F' v)->ldN h a i n acc F->ldN h a i n acc F':=by
 induction n with
 | zero=>intro i acc F F' f H;exact f _ H
 | succ n ih=>intro i acc F F' f H;exact Hf (λv=>ih f) H
theorem SG2 {a:Addr} (vs:List vQ):∀ {h:A2} {i:Nat} {F F':A2->Prop},(∀v,F v->F' v)->OH h a i vs F->OH h a i vs F':=by
 induction vs with
 | nil=>intro h i F F' f H;exact f _ H
 | cons v vs ih=>intro h i F F' f H;exact Ea (λ⟨a,b,c⟩=>⟨a,b,ih f c⟩) H
theorem TN {cs:Array vQ} {F F':List vQ->Prop} (f:∀v,F v->F' v):∀(n i:Nat) (acc:List vQ),Dq cs n i acc F->Dq cs n i acc F':=by
 intro n
 induction n with
 | zero=>intro i acc H;exact f _ H
 | succ n ih=>
  intro i acc H
  have H':D9 cs i (λv=>Dq cs n (i+1) (v :: acc) F):=H
  show D9 cs i (λv=>Dq cs n (i+1) (v :: acc) F')
  unfold D9 at *
  split at H'
  ·exact ih _ _ H'
  ·exact H'.elim
theorem PT {n:Nat} {v:vQ} {F F':vQ->Prop} (f:∀v,F v->F' v) (H:Xy n v F):Xy n v F':=by
 unfold Xy at *
 split at H
 ·refine Je (λcs H=>?_) H
  unfold G3 at *
  split at H
  ·exact TN (λ_=>f _) _ _ _ H
  ·exact H.elim
 ·exact f _ H
theorem Ll {P:Program} {t:TypeId} {v:vQ} {F F':vQ->Prop} (f:∀v,F v->F' v) (H:IX P t v F):IX P t v F':=by
 unfold IX at *
 split
 ·exact AQ (λ_=>f _) (by simp_all)
 ·exact U5 (λ_=>f _) (by simp_all)
 ·exact Z1 (λ_=>f _) (by simp_all)
 ·exact Bg (λ_ _ _=>f _) (by simp_all)
 ·exact AP (λ_=>f _) (by simp_all)
 ·exact Gg (λ_=>f _) (by simp_all)
 ·exact PT f (by simp_all)
 ·exact PT f (by simp_all)
 ·split at H <;> first | exact f _ H | simp_all
theorem SG3 {P:Program} {o:Oper} {v:vQ} {F F':vQ->Prop} (f:∀v,F v->F' v) (H:tyO P o v F):tyO P o v F':=by
 unfold tyO at *
 split at H
 ·exact f _ H
 ·exact f _ H
 ·exact Ll f H
theorem Jg {v:vQ} {args:Array vQ} {h:A2} {K K':kQ} (hk:∀v h',K v h'->K' v h') (H:Aj P v args h K):Aj P v args h K':=by
 have ho:∀(w0:World) e w,onH w0 K e w->onH w0 K' e w:=by intro w0 e w x;cases e <;> first | exact x | exact ⟨hk _ _ x.1,x.2⟩
 unfold Aj at *
 split at H
 ·exact ⟨H.1,λw hw=>(H.2 w hw).mono (ho w)⟩
 ·intro w hw
  obtain ⟨fn,t,a,b,h1,h2⟩:=H w hw
  exact ⟨fn,t,a,b,h1,h2.mono (ho w)⟩
 ·exact H.elim
theorem Sl7 {v:vQ} {args:Array vQ} {h:A2} {K K':kQ} (hk:∀v h',K v h'->K' v h') (H:Rb P v args h K):Rb P v args h K':=by
 unfold Rb at *
 split at H
 ·exact X1 (λnx h' x=>by cases nx <;> first | exact hk _ _ x | exact x.elim) H
 ·exact H.elim
theorem MT {f:Int->Int->Int} {k:IntKind} (ys:List vQ):∀ {a:Int} {F F':Int->Prop},(∀n,F n->F' n)->W3.go f k a ys F->W3.go f k a ys F':=by
 induction ys with
 | nil=>intro a F F' g H;exact g _ H
 | cons y ys ih=>intro a F F' g H;exact U5 (λb x=>ih g x) H
theorem Lm {f:Int->Int->Int} {t:TypeId} (xs:List vQ) {F F':Int->Prop} (g:∀n,F n->F' n) (H:W3 f P t xs F):W3 f P t xs F':=by
 cases xs with
 | nil=>exact H
 | cons x xs=>cases xs with
  | nil=>
   simp only [W3] at *
   split <;> rename_i hk <;> rw [hk] at H
   ·exact U5 g H
   ·exact H
  | cons y ys=>
   simp only [W3] at *
   split <;> rename_i hk <;> rw [hk] at H
   ·exact U5 (λa x=>MT _ g x) H
   ·exact H
theorem AS {ρ:Operand->vQ} {o:Oper} {h:A2} {K K':kQ} (hk:∀v h',K v h'->K' v h') (H:Rc P ρ o h K):Rc P ρ o h K':=by
 refine X1 ?_ H
 intro nx h' x
 cases nx <;> first
  | exact hk _ _ x
  | exact x
  | (intro w hw;refine (x w hw).mono ?_;intro e w y;cases e <;> first | exact y | exact ⟨hk _ _ y.1,y.2⟩)
theorem XR {k:IntKind} {op:BinOp} {a b:Int} {G G':vQ->Prop} (g:∀v,G v->G' v) (H:Lf k op a b G):Lf k op a b G':=by
 obtain ⟨v,h1,h2⟩:=MR H;exact h2 _ (g _ h1)
theorem PU {k:IntKind} {op:BinOp} {a b:Int} {G G':vQ->Prop} (g:∀v,G v->G' v) (H:Tp k op a b G):Tp k op a b G':=by
 obtain ⟨v,h1,h2⟩:=KC H;exact h2 _ (g _ h1)
theorem Iq {t:TypeId} {x y:vQ} {F F':Bool->Prop} (g:∀v,F v->F' v) (H:Gb P t x y F):Gb P t x y F':=by
 obtain ⟨v,h1,h2⟩:=FH H;exact h2 _ (g _ h1)
theorem Sl8 {op:BinOp} {xt yt:TypeId} {x y:Operand} {ρ:Operand->vQ} {o:Oper} {h:A2} {K K':kQ} (hk:∀v h',K v h'->K' v h')
  (H:Mi P op xt yt x y ρ o h K):Mi P op xt yt x y ρ o h K':=by
 unfold Mi at *
 split at H
 ·split at H
  ·split at H
   ·exact U5 (λ_=>U5 λ_=>PU λv=>hk v _) H
   ·exact H
  ·split at H
   ·exact U5 (λ_=>U5 λ_=>PU λv=>hk v _) H
   ·exact H
  ·exact U5 (λ_=>U5 λ_=>XR λv=>hk v _) H
 ·split at H
  ·exact AQ (λ_=>AQ λ_=>hk _ _) H
  ·exact AQ (λ_=>AQ λ_=>hk _ _) H
  ·exact H
 ·split at H
  ·exact Z1 (λ_=>Z1 λ_=>hk _ _) H
  ·exact Z1 (λ_=>Z1 λ_=>hk _ _) H
  ·exact Z1 (λ_=>Z1 λ_ x=>⟨x.1,hk _ _ x.2⟩) H
  ·exact AS hk H
 ·split at H
  ·exact AP (λ_=>hk _ _) H
  ·exact AP (λ_=>hk _ _) H
  ·exact AP (λ_=>AP λ_=>X1 hk) H
  ·exact AP (λ_=>AP λ_=>X1 hk) H
  ·exact AS hk H
 ·split at H
  ·exact Bg (λ_ _ _=>hk _ _) H
  ·exact Bg (λ_ _ _=>hk _ _) H
  ·exact AS hk H
 ·split at H
  ·exact Gg (λ_=>hk _ _) H
  ·exact Gg (λ_=>hk _ _) H
  ·exact AS hk H
 ·split at H
  ·exact JI (λ_=>hk _ _) H
  ·exact JI (λ_=>hk _ _) H
  ·exact AS hk H
 ·split at H
  ·exact Iq (λ_=>hk _ _) H
  ·exact Iq (λ_=>hk _ _) H
  ·exact H
 ·split at H
  ·exact Iq (λ_=>hk _ _) H
  ·exact Iq (λ_=>hk _ _) H
  ·exact H
 ·exact AS hk H
theorem OM {b:Builtin} {argTypes:Array TypeId} {t:TypeId} {args:List vQ} {ρ:Operand->vQ} {o:Oper} {h:A2} {K K':kQ} (hk:∀v h',K v h'->K' v h')
  (H:AN P b argTypes t args ρ o h K):AN P b argTypes t args ρ o h K':=by
 unfold AN at *
 split at H
 ·split at H
  ·split at H
   ·exact Bg (λ_ _ _=>hk _ _) H
   ·exact Z1 (λ_=>hk _ _) H
   ·refine Gg (λr x=>?_) H
    unfold SE8 at *
    cases r with
    | none=>exact hk _ _ x
    | some r=>simp only at *;split at x <;> first | exact hk _ _ x | exact x
   ·exact hk _ _ H
   ·exact H
  ·exact H
 ·split at H
  ·split at H
   ·exact Bg (λ_ _ _=>hk _ _) H
   ·exact H
  ·exact H
 ·exact X1 hk H
 ·exact X1 hk H
 ·exact X1 hk H
 ·exact X1 hk H
 ·exact X1 hk H
 ·exact X1 hk H
 ·split at H
  ·exact Lm _ (λ_=>hk _ _) H
  ·exact AS hk H
 ·split at H
  ·exact Lm _ (λ_=>hk _ _) H
  ·exact AS hk H
 ·exact AS hk H
theorem TP {t:TypeId} {x:vQ} {lo hi mx:Option vQ} {G G':vQ->Prop} (g:∀v,G v->G' v) (H:Hb P t x lo hi mx G):Hb P t x lo hi mx G':=by
 obtain ⟨n,h1,h2⟩:=Li H;exact h2 _ (g _ h1)
theorem JJ {ρ:Operand->vQ} {o:Oper} {h:A2} {K K':kQ} (hk:∀v h',K v h'->K' v h') (H:Fs P ρ o h K):Fs P ρ o h K':=by
 unfold Fs at *
 split at H
 case h_1 | h_2 | h_15 | h_16=>exact hk _ _ H
 case h_3=>exact AQ (λ_=>TM (hk _ _) (hk _ _)) H
 case h_4=>split at H <;> first | exact hk _ _ H | exact H
 case h_5=>exact Lj (λ_=>hk _ _) H
 case h_6=>
  refine AR (λ_ x=>?_) H
  split at x
  ·exact KD (λ_=>Jf λ_=>hk _ _) x
  ·exact KD (λ_=>Jf λ_=>hk _ _) x
  ·exact x
 case h_7=>
  split at H
  ·exact AR (λ_=>Jf λ_=>hk _ _) H
  ·exact H
 case h_8=>
  refine CQ (λa=>AR λ_ x=>?_) H
  split at x <;> rename_i ha
  ·rw [A8 ha];exact MS _ (λ_=>hk _ _) x
  ·rw [A7 ha];exact Hf (λ_=>hk _ _) x
 case h_9=>exact CQ (λa=>Lj λcs=>AR λ_=>SG2 _ λ_=>hk _ _) H
 case h_10=>unfold G5 at *;split at H <;> first | exact H | exact hk _ _ H
 case h_11=>exact Sl8 hk H
 case h_12=>
  split at H
  ·exact AQ (λ_=>hk _ _) H
  ·exact U5 (λ_=>hk _ _) H
  ·exact AS hk H
 case h_13=>
  split at H
  ·exact U5 (λ_=>hk _ _) H
  ·exact Z1 (λ_=>hk _ _) H
  ·exact X1 hk H
 case h_14=>split at H <;> first | exact H | exact hk _ _ H
 case h_17=>
  split at H
  ·exact FI (λ_=>FI λ_=>AR λ_ x=>⟨x.1,x.2.1,x.2.2.1,x.2.2.2.1,hk _ _ x.2.2.2.2⟩) H
  ·exact H
 case h_18=>exact KD (λ_=>TP λ_=>hk _ _) H
 case h_19=>
  split at H
  ·split at H
   ·exact AR (λ_=>CQ λ_=>hk _ _) H
   ·exact H
  ·exact H
 case h_20=>
  split at H
  ·split at H
   ·refine Je (λcs x=>?_) H
    unfold EM at *
    split at x
    ·exact AR (λ_=>hk _ _) x
    ·exact x
   ·exact H
  ·exact H
 case h_21=>
  split at H
  ·exact Bg (λa l c=>FI λn x=>⟨x.1,x.2.1,CQ (λ_=>AR λ_=>hk _ _) x.2.2⟩) H
  ·exact CQ (λa=>FI λn x=>⟨x.1,x.2.1,AR (λ_=>hk _ _) x.2.2⟩) H
  ·exact H
 case h_22=>
  split at H
  ·exact Z1 (λa=>FI λn x=>⟨x.1,x.2.1,hk _ _ x.2.2⟩) H
  ·refine Je (λa=>FI λn x=>⟨x.1,x.2.1,?_⟩) H
   have y:=x.2.2
   unfold EM at *
   split at y
   ·exact AR (λ_=>hk _ _) y
   ·exact y
  ·exact H
 case h_23=>exact X1 hk H
 case h_24=>exact X1 (λ_ h'=>hk _ _) H
 case h_25=>exact XQ (λvs x=>by unfold D9 at *;split at x <;> first | exact hk _ _ x | exact x) H
 case h_26=>exact OM hk H
 case h_27=>
  split at H
  ·exact Sl7 hk H
  ·exact Jg hk H
 case h_28=>exact H.elim
 case h_29=>exact AS hk H
def XS (P:Program) (ops:Array Oper) (K:G4->A2->Prop):Nat->(Nat->A2->Prop)->Array Bool->G4->A2->Prop
 | 0,_,listed,ρ,h=>Region.ready .any ops listed = []/\K ρ h
 | n+1,obl,listed,ρ,h=>(Region.ready .any ops listed = []->K ρ h) /\
  ∀i ∈ Region.ready .any ops listed,pstep P ops i ρ h λρ' h'=>(h' = h\/obl i h')/\XS P ops K n obl (listed.setIfInBounds i true) ρ' h'
theorem MU {i:Nat} {ρ:G4} {h:A2} {K K':G4->A2->Prop} (hk:∀ρ h,K ρ h->K' ρ h) (H:pstep P ops i ρ h K):pstep P ops i ρ h K':=by
 unfold pstep at *
 split
 ·simp_all
 ·rename_i o ho
  rw [ho] at H
  simp only at H
  split
  ·rename_i hw;rw [A8 hw] at H;exact JJ (λv h'=>hk _ _) H
  ·rename_i hw;rw [A7 hw] at H;exact hk _ _ H
theorem KE {K:G4->A2->Prop} (n:Nat):∀ {obl obl':Nat->A2->Prop} {listed:Array Bool} {ρ:G4} {h:A2},(∀i h,obl i h->obl' i h)->XS P ops K n obl listed ρ h->XS P ops K n obl' listed ρ h:=by
 induction n with
 | zero=>intro _ _ _ _ _ _ H;exact H
 | succ n ih=>intro obl obl' listed ρ h hh H;exact ⟨H.1,λi hi=>MU (λρ h x=>⟨x.1.imp id (hh _ _),ih hh x.2⟩) (H.2 i hi)⟩
def Hh (ops:Array Oper) (listed:Array Bool):Prop:=
 ∀k o,listed.getD k false=true->ops[k]? = some o->∀e ∈ o.after,Region.binds .any e=true->listed.getD e.on false=true
theorem Hh.set {listed:Array Bool} {i:Nat} (hc:Hh ops listed) (hi:i ∈ Region.ready .any ops listed):Hh ops (listed.setIfInBounds i true):=by
 intro k o hk ho e he hb
 by_cases hki:k=i
 ·subst hki
  obtain ⟨_,o',ho',hall⟩:=mem_ready.1 hi
  rw [ho] at ho';cases ho'
  exact getD_set_true (hall e he hb)
 ·rw [getD_set_ne false (Ne.symm hki)] at hk
  exact getD_set_true (hc k o hk ho e he hb)
theorem Rm {listed:Array Bool} (hc:Hh ops listed) (n:Nat):∀(k i:Nat),listed.getD k false=true->T2 ops n k i=true->listed.getD i false=true:=by
 induction n with
 | zero=>intro k i _ h;simp [T2] at h
 | succ n ih=>
  intro k i hk h
  unfold T2 at h
  split at h
  ·cases h
  ·rename_i o ho
   obtain ⟨e,he,hb⟩:=yL1.1 h
   simp only [EA,Ku,beq_iff_eq] at hb
   have h1:=hc k o hk ho e he hb.1
   rcases hb.2 with h2 | h2
   ·rw [<- h2];exact h1
   ·exact ih _ _ h1 h2
theorem TQ {listed:Array Bool} (hc:Hh ops listed) {n k i:Nat} (hk:k ∈ Region.ready .any ops listed) (hi:listed.getD i false=false):T2 ops n k i=false:=by
 cases hw:T2 ops n k i with
 | false=>rfl
 | true=>
  exfalso
  cases n with
  | zero=>simp [T2] at hw
  | succ n=>
   unfold T2 at hw
   split at hw
   ·cases hw
   ·rename_i o ho
    obtain ⟨_,o',ho',hall⟩:=mem_ready.1 hk
    rw [ho] at ho';cases ho'
    obtain ⟨e,he,hb⟩:=yL1.1 hw
    simp only [EA,Ku,beq_iff_eq] at hb
    have h1:=hall e he hb.1
    rcases hb.2 with h2 | h2
    ·rw [h2,hi] at h1;cases h1
    ·rw [Rm hc n _ _ h1 h2] at hi;cases hi
def DM (L:List (Addr × vQ)) (h:A2):Prop:=∀x ∈ L,A3 h x.1=some x.2
def DN (P:Program) (ops:Array Oper) (L:List (Addr × vQ)) (o:Oper) (v:vQ) (ρ:G4):Prop:=
 (FG ops ρ o.guard=true/\XP P (MO ρ) o L v)\/(FG ops ρ o.guard=false/\v=Bq)
theorem DN.pstep {L:List (Addr × vQ)} {o:Oper} {v:vQ} {ρ:G4} {i:Nat} {h:A2} {K:G4->A2->Prop} (hy:DN P ops L o v ρ) (hi:ops[i]? = some o) (hL:DM L h)
  (H:K (Cb ρ o.dst v) h):pstep P ops i ρ h K:=by
 unfold Proofs.YtahpbclnkofhfaaGreat.pstep;rw [hi];simp only
 rcases hy with ⟨hw,hr⟩ | ⟨hw,rfl⟩
 ·rw [A8 hw];exact hr h hL _ H
 ·rw [A7 (by simp [hw])];exact H
theorem XP.put {L:List (Addr × vQ)} {o:Oper} {v:vQ} {ρ:G4} {d:Option Nat} {u:vQ} (hp0:Bf o=true) (hd:∀j,d=some j->j ∉ o.looksAt ops)
 (hr:XP P (MO ρ) o L v):XP P (MO (Cb ρ d u)) o L v:=λh hL K hk=>by rw [Se9 (ops:=ops) hp0 hd];exact hr h hL K hk
theorem DN.put {L:List (Addr × vQ)} {o:Oper} {v:vQ} {ρ:G4} {d:Option Nat} {u:vQ} (hp0:Bf o=true) (hd:∀j,d=some j->j ∉ o.looksAt ops)
  (hy:DN P ops L o v ρ):DN P ops L o v (Cb ρ d u):=by
 unfold DN
 rw [PR hd]
 exact hy.imp (λ⟨a,b⟩=>⟨a,b.put hp0 hd⟩) id
theorem Sl9 {L:List (Addr × vQ)} {oi oj:Oper} {v:vQ} {ρ:G4} {j:Nat} {h:A2} {K:G4->A2->Prop} (hj:ops[j]? = some oj) (hap:oi.apart ops oj=true)
  (hpi:Bf oi=true) (hpj:Bf oj=true) (hy:DN P ops L oi v ρ) (H:pstep P ops j (Cb ρ oi.dst v) h K) :
  pstep P ops j ρ h λρ' h'=>DN P ops L oi v ρ'/\K (Cb ρ' oi.dst v) h':=by
 obtain ⟨h1,h2,h3⟩:=Oper.apart_spec hap
 unfold pstep at *
 rw [hj] at *
 simp only at H ⊢
 rw [PR h1] at H
 split
 ·rename_i hw
  rw [A8 hw,Se9 (ops:=ops) hpj h1] at H
  refine JJ (λu h' x=>⟨hy.put hpi h3,?_⟩) H
  rw [PS ρ v u h2] at x;exact x
 ·rename_i hw
  rw [A7 hw] at H
  refine ⟨hy.put hpi h3,?_⟩
  rw [PS ρ v Bq h2] at H;exact H
theorem MV {K:G4->A2->Prop} {L:List (Addr × vQ)} {i:Nat} {oi:Oper} {v:vQ} (hi:ops[i]? = some oi) (hp0:∀(j:Nat) (o:Oper),ops[j]? = some o->Bf o=true) (fuel:Nat) :
  ∀(obl:Nat->A2->Prop) (listed:Array Bool) (ρ:G4) (h:A2),
   (∀j oj,ops[j]? = some oj->j≠i->listed.getD j true=false->(∀e ∈ oj.after,Region.binds .any e=true->e.on≠i)->oi.apart ops oj=true) ->
   Hh ops listed->i ∈ Region.ready .any ops listed->DN P ops L oi v ρ->DM L h ->
   XS P ops K fuel (λe h'=>((∀m,T2 ops m e i=false)->DM L h')/\obl e h') (listed.setIfInBounds i true) (Cb ρ oi.dst v) h->XS P ops K (fuel+1) obl listed ρ h:=by
 induction fuel with
 | zero=>
  intro obl listed ρ h _ hcl hr hy hL H
  refine ⟨λe=>(by rw [e] at hr;cases hr),λj hj=>?_⟩
  by_cases hji:j=i
  ·subst hji;exact hy.pstep hi hL ⟨.inl rfl,H⟩
  ·have:=ready_mono hj hji
   rw [H.1] at this
   cases this
 | succ fuel ih=>
  intro obl listed ρ h hfree hcl hr hy hL H
  refine ⟨λe=>(by rw [e] at hr;cases hr),λj hj=>?_⟩
  by_cases hji:j=i
  ·subst hji;exact hy.pstep hi hL ⟨.inl rfl,KE _ (λ_ _ x=>x.2) H⟩
  ·have h1:=H.2 j (ready_mono hj hji)
   obtain ⟨hjun,oj,hoj,hall⟩:=mem_ready.1 hj
   have hiun:listed.getD i false=false:=by
    have h0:=(mem_ready.1 hr).1
    rcases Nat.lt_or_ge i listed.size with h' | h'
    ·simp [h'] at h0 ⊢;exact h0
    ·simp [yL5 h']
   have hnot:∀e ∈ oj.after,Region.binds .any e=true->e.on≠i:=λe he hb heq=>by
    have h1:=hall e he hb
    rw [heq,hiun] at h1;cases h1
   have h2:=Sl9 hoj (hfree j oj hoj hji hjun hnot) (hp0 i oi hi) (hp0 j oj hoj) hy h1
   have hfree':∀k ok,ops[k]? = some ok->k≠i->(listed.setIfInBounds j true).getD k true=false ->
     (∀e ∈ ok.after,Region.binds .any e=true->e.on≠i)->oi.apart ops ok=true:=λk ok hk hki hun hno=>by
    refine hfree k ok hk hki ?_ hno
    by_cases hjk:j=k
    ·subst hjk;exact hjun
    ·rw [getD_set_ne true hjk] at hun;exact hun
   refine MU (λρ' h' x=>?_) h2
   obtain ⟨hy',hx,hany⟩:=x
   have hL':DM L h':=by
    rcases hx with rfl | hx
    ·exact hL
    ·exact hx.1 (λm=>TQ hcl hj hiun)
   refine ⟨hx.imp id (λx=>x.2),ih obl (listed.setIfInBounds j true) ρ' h' hfree' (hcl.set hj) (ready_mono hr (Ne.symm hji)) hy' hL' ?_⟩
   rw [Array.setIfInBounds_comm _ _ hji]
   exact hany
end
end
section
section
variable {P:Program} {ops:Array Oper}
theorem SG4 {h:A2} {a:Addr} (n:Nat):∀ {i:Nat} {acc:List vQ} {L:List (Addr × vQ)} {F:List vQ->List (Addr × vQ)->Prop},Tb6 h a i n acc L F ->
  ∃cs L',F cs (L.reverse ++ L')/\DM L' h/\∀h2,DM L' h2->∀G:List vQ->Prop,G cs->ldN h2 a i n acc G:=by
 induction n with
 | zero=>
  intro i acc L F H
  refine ⟨acc.reverse,[],?_,λx hx=>(by cases hx),λh2 _ G g=>g⟩
  have H2:F acc.reverse L.reverse:=H
  simpa using H2
 | succ n ih=>
  intro i acc L F H
  obtain ⟨v,hv,H⟩:=JC H
  obtain ⟨cs,L',h1,h2,h3⟩:=ih H
  refine ⟨cs,(a.add i,v) :: L',by simpa using h1,?_,?_⟩
  ·intro x hx
   rcases ED.1 hx with rfl | hx
   ·exact hv
   ·exact h2 x hx
  ·intro h4 hL G g
   have e:A3 h4 (a.add i)=some v:=hL (a.add i,v) (by simp)
   show D2 h4 (a.add i) _
   unfold D2;rw [e]
   exact h3 h4 (λx hx=>hL x (by simp [hx])) G g
theorem SG5 {ρ:Operand->vQ} {o:Oper} {h:A2} {F:vQ->List (Addr × vQ)->Prop} (hr:Al P o=true) (H:Tb7 P ρ o h F) :
  ∃v L,XP P ρ o L v/\DM L h/\F v L:=by
 unfold Tb7 at H
 split at H
 ·rename_i t x hx
  obtain ⟨a,ha,H⟩:=V9 H
  split at H
  ·rename_i hth
   split at H
   ·rename_i hagg
    obtain ⟨cs,L',h1,h2,h3⟩:=SG4 _ H
    refine ⟨_,L',?_,h2,by simpa using h1⟩
    intro h4 hL K hk
    unfold Fs;rw [hx];simp only [ha,F3,A8 hth,A8 hagg]
    exact h3 h4 hL _ hk
   ·rename_i hagg
    obtain ⟨v,hv,H⟩:=JC H
    refine ⟨v,[(a,v)],?_,λx hx=>by simp at hx;subst hx;exact hv,H⟩
    intro h4 hL K hk
    have e:A3 h4 a=some v:=hL (a,v) (by simp)
    unfold Fs;rw [hx];simp only [ha,F3,A8 hth,A7 hagg,D2,e]
    exact hk
  ·exact H.elim
 ·rename_i hn
  obtain ⟨v,h1,h2⟩:=SG1 (G:=λv=>F v []) hr (λt x e=>hn t x e) H
  exact ⟨v,[],h2,λx hx=>(by cases hx),h1⟩
def Sf0 (ops:Array Oper) (held:SF3) (e:Nat) (h:A2):Prop:=∀x ∈ held,(∀m,T2 ops m e x.1=false)->DM x.2 h
theorem XT {h:A2} {X:Prop} (L:List (Addr × vQ)) (H:XF h L X):DM L h/\X:=by
 induction L with
 | nil=>exact ⟨λx hx=>(by cases hx),H⟩
 | cons p L ih=>
  obtain ⟨h1,h2⟩:=ih H.2
  refine ⟨λx hx=>?_,h2⟩
  rcases ED.1 hx with rfl | hx
  ·exact H.1
  ·exact h1 x hx
theorem XU {k j:Nat} {o:Oper} (ho:ops[k]? = some o) (hj:j ∈ Io o):∀(m e:Nat),T2 ops m e k=true->T2 ops (m+1) e j=true:=by
 have edge:T2 ops 1 k j=true:=by
  unfold Io at hj
  obtain ⟨ed,hed,he⟩:=Th.1 hj
  unfold T2
  rw [ho]
  refine yL1.2 ⟨ed,by simpa using hed,?_⟩
  cases hb:Region.binds .any ed with
  | false=>rw [hb] at he;cases he
  | true=>rw [hb] at he;cases he;simp
 have up:∀(m e i:Nat),T2 ops m e i=true->T2 ops (m+1) e i=true:=by
  intro m
  induction m with
  | zero=>intro e i h;simp [T2] at h
  | succ m ih=>
   intro e i h
   unfold T2 at h ⊢
   split at h
   ·cases h
   ·obtain ⟨ed,hed,hb⟩:=yL1.1 h
    refine yL1.2 ⟨ed,hed,?_⟩
    simp only [EA,Ku] at hb ⊢
    exact ⟨hb.1,hb.2.imp id (ih _ _)⟩
 intro m
 induction m with
 | zero=>intro e h;simp [T2] at h
 | succ m ih=>
  intro e h
  unfold T2 at h ⊢
  split at h
  ·cases h
  ·obtain ⟨ed,hed,hb⟩:=yL1.1 h
   refine yL1.2 ⟨ed,hed,?_⟩
   simp only [EA,Ku,beq_iff_eq] at hb ⊢
   refine ⟨hb.1,.inr ?_⟩
   rcases hb.2 with h2 | h2
   ·rw [h2]
    have:∀n,T2 ops (n+1) k j=true:=λn=>by
     induction n with
     | zero=>exact edge
     | succ n ih=>exact up _ _ _ ih
    exact this m
   ·exact ih _ h2
theorem MW {e k j:Nat} {o:Oper} (ho:ops[k]? = some o) (hj:j ∈ Io o) (h:k=e\/∃m,T2 ops m e k=true):∃m,T2 ops m e j=true:=by
 rcases h with rfl | ⟨m,h⟩
 ·unfold Io at hj
  obtain ⟨ed,hed,he⟩:=Th.1 hj
  refine ⟨1,?_⟩
  unfold T2
  rw [ho]
  refine yL1.2 ⟨ed,by simpa using hed,?_⟩
  cases hb:Region.binds .any ed with
  | false=>rw [hb] at he;cases he
  | true=>rw [hb] at he;cases he;simp
 ·exact ⟨m+1,XU ho hj m e h⟩
theorem Rn {e i:Nat}:∀(n:Nat) (st:List Nat) (vis:Nat),(∀k ∈ st,k=e\/∃m,T2 ops m e k=true)->Hd ops i n st vis=true->∃m,T2 ops m e i=true:=by
 intro n
 induction n with
 | zero=>intro st vis _ h;simp [Hd] at h
 | succ n ih=>
  intro st vis hst h
  cases st with
  | nil=>simp [Hd] at h
  | cons k st=>
   unfold Hd at h
   have hst':∀k ∈ st,k=e\/∃m,T2 ops m e k=true:=λx hx=>hst x (by simp [hx])
   split at h
   ·exact ih _ _ hst' h
   ·split at h
    ·exact ih _ _ hst' h
    ·rename_i o ho
     have hk:=hst k (by simp)
     split at h
     ·rename_i ha
      obtain ⟨j,hj,hji⟩:=List.any_eq_true.1 ha
      obtain rfl:=PD hji
      exact MW ho hj hk
     ·refine ih _ _ (λx hx=>?_) h
      rcases GR.1 hx with hx | hx
      ·exact .inr (MW ho hx hk)
      ·exact hst' x hx
theorem MX {e:Nat} {h:A2} {X:Prop} (held:SF3) (H:Kz ops e h held X):Sf0 ops held e h/\X:=by
 induction held with
 | nil=>exact ⟨λx hx=>(by cases hx),H⟩
 | cons p held ih=>
  obtain ⟨i,L⟩:=p
  unfold Kz at H
  split at H
  ·rename_i hw
   obtain ⟨h1,h2⟩:=ih H
   refine ⟨λx hx hx2=>?_,h2⟩
   rcases ED.1 hx with rfl | hx
   ·obtain ⟨m,hm⟩:=Rn _ _ _ (λk hk=>.inl (by simpa using hk)) hw
    rw [hx2 m] at hm;cases hm
   ·exact h1 x hx hx2
  ·obtain ⟨h0,H⟩:=XT _ H
   obtain ⟨h1,h2⟩:=ih H
   refine ⟨λx hx hx2=>?_,h2⟩
   rcases ED.1 hx with rfl | hx
   ·exact h0
   ·exact h1 x hx hx2
theorem TR {F:Nat->Prop}:∀(l:List Nat),Tb8 l F->∀i ∈ l,F i
 | [],_,i,hi=>by cases hi
 | [j],H,i,hi=>by simp at hi;subst hi;exact H
 | j :: k :: l,H,i,hi=>by
  rcases ED.1 hi with rfl | hi
  ·exact H.1
  ·exact TR (k :: l) H.2 i hi
theorem XV (hp0:∀(j:Nat) (o:Oper),ops[j]? = some o->Bf o=true) {K:G4->A2->Prop} (n:Nat):∀(listed:Array Bool) (held:SF3) (ρ:G4) (h:A2),Hh ops listed ->
  JF P ops n listed held ρ h K->XS P ops K n (Sf0 ops held) listed ρ h:=by
 induction n with
 | zero=>
  intro listed held ρ h hcl H
  unfold JF at H
  split at H
  ·exact ⟨‹_›,H⟩
  ·exact H.elim
 | succ n ih=>
  intro listed held ρ h hcl H
  unfold JF at H
  split at H
  ·rename_i i hi
   split at H
   ·exact H.elim
   ·rename_i o ho
    unfold TI at hi
    have hmem:=List.mem_of_find?_eq_some hi
    have hpr:=List.find?_some hi
    rw [ho] at hpr
    simp only [EA] at hpr
    have H:=Jc H
    have hfr:=Region.free_spec ho hpr.2
    split at H
    ·rename_i hw
     obtain ⟨v,L,h1,h2,h3⟩:=SG5 hpr.1 H
     refine MV (L:=L) ho hp0 n (Sf0 ops held) listed ρ h hfr hcl hmem (.inl ⟨hw,h1⟩) h2 ?_
     refine KE _ ?_ (ih _ _ _ _ (hcl.set hmem) (Rk h3))
     intro e h' hob
     refine ⟨λhwt=>?_,λx hx hx2=>?_⟩
     ·cases L with
      | nil=>exact λx hx=>(by cases hx)
      | cons p L=>exact hob (i,p :: L) (by simp) hwt
     ·cases L with
      | nil=>exact hob x hx hx2
      | cons p L=>exact hob x (by simp [hx]) hx2
    ·rename_i hw
     refine MV (L:=[]) ho hp0 n (Sf0 ops held) listed ρ h hfr hcl hmem (.inr ⟨by simpa using hw,rfl⟩) (λx hx=>by cases hx) ?_
     refine KE _ ?_ (ih _ _ _ _ (hcl.set hmem) H)
     intro e h' hob
     exact ⟨λ_ x hx=>(by cases hx),hob⟩
  ·split at H
   ·rename_i hr
    exact ⟨λ_=>H,λi hi=>by rw [hr] at hi;cases hi⟩
   ·rename_i hne
    refine ⟨λhr=>absurd hr (by simpa using hne),λe he=>?_⟩
    have H:=TR _ H e he
    split at H
    ·exact H.elim
    ·rename_i o ho
     have H:=Jc H
     unfold pstep;rw [ho];simp only
     split at H
     ·rename_i hw
      rw [A8 hw]
      refine JJ (λv h' x=>?_) H
      obtain ⟨h1,h2⟩:=MX _ (Rk x)
      exact ⟨.inr h1,ih _ _ _ _ (hcl.set he) h2⟩
     ·rename_i hw
      rw [A7 hw]
      obtain ⟨h1,h2⟩:=MX _ H
      exact ⟨.inl trivial,ih _ _ _ _ (hcl.set he) h2⟩
theorem Rp {n:Nat} {r:Option Nat} {Q:Exit->Act->World->Prop} (ho:Lh n ops=true) {ws:List Nat} (hws:∀(i:Nat) (o:Oper),ops[i]? = some o->∀d,o.dst=some d->d ∈ ws) {K:G4->A2->Prop} (m:Nat):∀(obl:Nat->A2->Prop) (listed:Array Bool) (ρ:G4) (h:A2) (a:Act) (w:World),
  XS P ops K m obl listed ρ h->Rl n a.tmps ρ->w.heap=h->(∀ρ' a' w',K ρ' w'.heap->Rl n a'.tmps ρ'->GJ ws a.tmps a'.tmps->a'.defers=a.defers->Kw w w'->Q .normal a' w') ->
  wpAnyIn (FW r) 0 P .any ops Q m listed a w:=by
 induction m with
 | zero=>intro obl listed ρ h a w H hR hw hQ;subst hw;exact ⟨H.1,hQ _ _ _ H.2 hR (GJ.refl _ _) rfl (Kw.refl _)⟩
 | succ m ih=>
  intro obl listed ρ h a w H hR hw hQ
  refine ⟨λhr=>by subst hw;exact hQ _ _ _ (H.1 hr) hR (GJ.refl _ _) rfl (Kw.refl _),λi hi=>?_⟩
  refine Rj (n:=n) (H.2 i hi) hR hw (λo' ho'=>MQ ho i o' ho') (hws i) ?_
  intro ρ' a' w' x hR' hs hd hkd
  exact ih _ _ ρ' _ a' w' x.2 hR' rfl λρ'' a'' w'' hK hR'' hs' hd' hkd'=>hQ ρ'' a'' w'' hK hR'' (hs.trans hs') (hd'.trans hd) (hkd.trans hkd')
theorem TS {n:Nat} (ho:Lh n ops=true) (j:Nat) (o:Oper) (hj:ops[j]? = some o):Bf o=true:=by
 have:=MQ ho j o hj
 unfold KA at this;simp at this;exact this.1
theorem XW {n:Nat} {r:Option Nat} {id:Nat} {Q:Exit->Act->World->Prop} {ρ:G4} {h:A2} {a:Act} {w:World} (hm:P.follows .mixedOrders=true) (ho:Lh n ops=true) {ws:List Nat} (hws:∀(i:Nat) (o:Oper),ops[i]? = some o->∀d,o.dst=some d->d ∈ ws) {K:G4->A2->Prop}
  (H:JF P ops ops.size (Array.replicate ops.size false) [] ρ h K) (hR:Rl n a.tmps ρ) (hw:w.heap=h)
  (hQ:∀ρ' a' w',K ρ' w'.heap->Rl n a'.tmps ρ'->GJ ws a.tmps a'.tmps->a'.defers=a.defers->Kw w w'->Q .normal a' w'):(Code.region id ops true).wpIn (FW r) 0 P Q a w:=by
 refine wpIn_region_any hm ?_
 have hcl:Hh ops (Array.replicate ops.size false):=by
  intro k o hk ho e he hb
  rw [getD_replicate_false'] at hk;cases hk
 exact Rp ho hws _ _ _ ρ h a _ (XV (TS ho) _ _ _ _ _ hcl H) hR hw hQ
where
 getD_replicate_false' (m j:Nat):(Array.replicate m false).getD j false=false:=by
  simp [yL3,Array.getElem?_replicate];split <;> rfl
end
end
end Go.Proofs.YtahpbclnkofhfaaGreat
