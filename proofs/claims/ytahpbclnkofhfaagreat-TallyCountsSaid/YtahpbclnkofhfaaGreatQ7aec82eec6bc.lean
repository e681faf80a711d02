/- Part 7 of what the proofs of this seat rest on: see the last text of the claim. -/
import Derived.Test.YtahpbclnkofhfaaGreatQ9e76c8e57c03
import Derived.Test.YtahpbclnkofhfaaGreatProg
set_option linter.unusedSimpArgs false
set_option linter.unusedVariables false
set_option linter.ambiguousOpen false
set_option maxRecDepth 20000
open Go.Proofs.Tryz (prog)
open Go.IntKind (wrap)
section
namespace Go.Proofs.YtahpbclnkofhfaaGreat.Mod
def J5 (w:Int):Int:=w / 2 % 65536
def Ae (w:Int):Bool:=w % 2 == 1
def Yu (w:Int):Int:=w / 131072
def b2i (b:Bool):Int:=if b then 1 else 0
def Z5 (ptr:Int) (mark:Bool) (ver:Int):Int:=ver*131072+ptr*2+b2i mark
def Dj (w ptr:Int) (mark:Bool):Int:=Z5 (ptr % 65536) mark ((Yu w+1) % 140737488355328)
def Sf8 (w:Int):Int:=Dj w (J5 w) true
def u64 (n:Int):Int:=n % 18446744073709551616
def G2 (n:Int):Int:=if n % 18446744073709551616 < 9223372036854775808 then n % 18446744073709551616 else n % 18446744073709551616 - 18446744073709551616
def u32 (n:Int):Int:=n % 4294967296
structure Cf where
 algo:Int
 threads:Int
 nodes:Int
 level:Int
 batch:Int
 probes:Int
 scan:Int
structure Pl where
 c:Cf
 slots:Int
 width:Int
 sent:Int
 hazards:Int
 links:Int
 nodes:Int
 tree:Int
 size:Int
def E1 (c:Cf):Pl:=
 let m:=c.algo == 0
 let slots:=if m then 2 else 2*c.level+2
 let width:=if m then 3 else 5+c.level
 let links:=8+c.threads*slots
 let nodes:=links+c.nodes
 let tree:=nodes+c.nodes*width
 ⟨c,slots,width,if m then 0 else 2,8,links,nodes,tree,tree+(if m then 2 ^ c.level.toNat else 0)⟩
def GK (c:Cf):Bool:=decide (0<=c.algo/\c.algo<=2/\1<=c.threads/\c.threads<=6/\1<=c.nodes/\c.nodes<=64/\1<=c.level/\c.level<=6/\1<=c.batch/\c.batch<=16/\1<=c.probes/\c.probes<=16/\1<=c.scan/\c.scan<=64/\(if c.algo=0 then 0 else 2) < c.nodes)
def Pl.haz (p:Pl) (t s:Int):Int:=if 0<=t/\t < p.c.threads/\0<=s/\s < p.slots then p.hazards+t*p.slots+s else -1
def Pl.link (p:Pl) (n:Int):Int:=if 1<=n/\n<=p.c.nodes then p.links+n - 1 else -1
def Pl.node (p:Pl) (n f:Int):Int:=if 1<=n/\n<=p.c.nodes/\0<=f/\f < p.width then p.nodes+(n - 1)*p.width+f else -1
def Pl.at (p:Pl) (pos:Int):Int:=if 0<=pos/\pos < p.size - p.tree then p.tree+pos else -1
def Pl.within (p:Pl) (a:Int):Option Int:=if p.nodes<=a/\a < p.tree then some ((a - p.nodes) / p.width+1) else none
structure N6 where
 fn:Int
 pc:Int
 r:List Int
structure Thr where
 fr:List N6
 ret:List Int
 pred:List Int
 succ:List Int
 word:List Int
 retired:List Int
 found:List Int
structure Gh where
 tags:List Int
 kind:Int
 node:Int
structure Acc where
 kind:Int
 a:Int
 b:Int
 done:Bool
structure Mm where
 w:List Int
 st:Int
 wt:Bool
 lg:List Acc
structure Mac where
 p:Pl
 mm:Mm
 g:Option Gh
 b:List Int
 used:Int
 th:List Thr
 acted:Bool
 bad:Bool
def Gh.fault (g:Gh) (k i:Int):Gh:=if g.kind=0/\g.node=0 then { g with kind:=k,node:=i } else g
def Gh.turn (g:Gh) (i from_ to_ k:Int):Gh:=
 if i < 1\/g.tags.length < i then g.fault 5 i else if g.tags.getD (i - 1).toNat 0≠from_ then g.fault k i else { g with tags:=g.tags.set (i - 1).toNat to_ }
def Gh.touch (g:Gh) (i:Int):Gh:=if i < 1\/g.tags.length < i then g.fault 5 i else if g.tags.getD (i - 1).toNat 0=0 then g.fault 4 i else g
def Sf9 (nodes live:Int):Gh:=⟨(List.range nodes.toNat).map λ(i:Nat)=>if (i:Int) < live then 1 else 0,0,0⟩
def Mac.gh (m:Mac) (f:Gh->Gh):Mac:={ m with g:=m.g.map f }
def Mm.ok (m:Mm) (a:Int):Bool:=decide (0<=a/\a < m.w.length)
def Mm.get (m:Mm) (a:Int):Int:=m.w.getD a.toNat 0
def Mm.put (m:Mm) (a v:Int):Mm:={ m with w:=m.w.set a.toNat v }
def Mm.tick (m:Mm) (k a b:Int) (d:Bool):Mm:={ m with st:=m.st+1,lg:=if m.wt then m.lg ++ [⟨k,a,b,d⟩] else m.lg }
def Mm.store (m:Mm) (a v:Int):Mm:=if m.ok a then (m.tick 1 a (-1) true).put a v else m
def Mm.cas (m:Mm) (a o n:Int):Mm:=if m.get a=o then (m.put a n).tick 2 a (-1) true else m.tick 2 a (-1) false
def Mm.dcas (m:Mm) (a o n b p q:Int):Mm:=if m.get a=o/\m.get b=p then ((m.put a n).put b q).tick 4 a b true else m.tick 4 a b false
def Mm.dcss (m:Mm) (a o n b p:Int):Mm:=if m.get a=o/\m.get b=p then (m.put a n).tick 5 a b true else m.tick 5 a b false
def Mac.setM (m:Mac) (x:Mm):Mac:={ m with mm:=x }
def Mac.fail (m:Mac):Mac:={ m with bad:=true }
def Mac.touch (m:Mac) (a:Int):Mac:=match m.p.within a with
 | some n=>{ m with acted:=true,g:=m.g.map λg=>g.touch n }
 | none=>{ m with acted:=true }
def Mac.load (m:Mac) (a:Int):Int × Mac:=let m:=m.touch a;if m.mm.ok a then (m.mm.get a,m.setM (m.mm.tick 0 a (-1) false)) else (0,m.fail)
def Mac.store (m:Mac) (a v:Int):Mac:=let m:=m.touch a;if m.mm.ok a then m.setM ((m.mm.tick 1 a (-1) true).put a v) else m.fail
def Mac.cas (m:Mac) (a o n:Int):Bool × Mac:=let m:=m.touch a;if m.mm.ok a then (decide (m.mm.get a=o),m.setM (m.mm.cas a o n)) else (false,m.fail)
def Mac.add (m:Mac) (a d:Int):Int × Mac:=let m:=m.touch a;if m.mm.ok a then (m.mm.get a,m.setM ((m.mm.tick 3 a (-1) true).put a (u64 (m.mm.get a+d)))) else (0,m.fail)
def Mac.dcas (m:Mac) (a o n b p q:Int):Bool × Mac:=
 let m:=(m.touch a).touch b
 if m.mm.ok a=true/\m.mm.ok b=true/\a≠b then (decide (m.mm.get a=o/\m.mm.get b=p),m.setM (m.mm.dcas a o n b p q)) else (false,m.fail)
def Mac.dcss (m:Mac) (a o n b p:Int):Bool × Mac:=
 let m:=(m.touch a).touch b
 if m.mm.ok a=true/\m.mm.ok b=true then (decide (m.mm.get a=o/\m.mm.get b=p),m.setM (m.mm.dcss a o n b p)) else (false,m.fail)
def Mac.fault (m:Mac):Bool:=m.bad || match m.g with | some g=>decide (g.kind≠0\/g.node≠0) | none=>false
def Mac.take (m:Mac):Int × Mac:=(if m.used+1 > m.b.length then 0 else m.b.getD m.used.toNat 0,{ m with used:=m.used+1 })
def Mac.next (m:Mac) (n:Int):Int × Mac:=if n < 1 then (0,m) else let (c,m):=m.take;(c % n,m)
def Xq (c:Int):Nat->Nat->Int
 | 0,i=>i
 | k+1,i=>if c / 2 ^ i % 2=0 then i+1 else Xq c k (i+1)
def Mac.lvl (m:Mac) (most:Int):Int × Mac:=if most < 1 then (1,m) else let (c,m):=m.take;(Xq c most.toNat 0,m)
def lay (p:Pl):Mm:=
 let c:=p.c
 let m0:Mm:=⟨List.replicate p.size.toNat 0,0,false,[]⟩
 let first:=p.sent+1
 let m1:=m0.store 0 (Z5 first false 0)
 let m2:=(List.range (c.nodes - first).toNat).foldl (λ(m:Mm) (i:Nat)=>m.store (p.link (first+i)) (first+i+1)) m1
 let m3:=m2.store 2 1
 if c.algo=0 then m3 else
  let m4:=m3.store (p.node 1 3) c.level
  let m5:=m4.store (p.node 2 0) 18446744073709551615
  (List.range c.level.toNat).foldl (λ(m:Mm) (i:Nat)=>m.store (p.node 1 (5+i)) (Z5 2 false 0)) m5
def CT (c:Cf):Thr:=⟨[],[0,0,0],List.replicate c.level.toNat 0,List.replicate c.level.toNat 0,List.replicate c.level.toNat 0,[],[]⟩
def L1 (c:Cf) (b:List Int) (gh:Bool):Mac:=
 let p:=E1 c
 ⟨p,lay p,if gh then some (Sf9 c.nodes p.sent) else none,b,0,List.replicate c.threads.toNat (CT c),false,false⟩
structure B9 where
 m:Mac
 t:Thr
 id:Int
def Ax (n:Nat) (l:List Int):List Int:=(l ++ List.replicate n 0).take n
def Thr.push (t:Thr) (fn:Int) (r:List Int):Thr:={ t with fr:=t.fr ++ [⟨fn,0,Ax 10 r⟩] }
def Thr.pop (t:Thr) (r:List Int):Thr:=if t.fr = [] then t else { t with fr:=t.fr.dropLast,ret:=Ax 3 r }
def dfF:N6:=⟨0,0,[]⟩
def Thr.top (t:Thr):N6:=t.fr.getLast?.getD dfF
def Thr.setTop (t:Thr) (f:N6):Thr:={ t with fr:=t.fr.dropLast ++ [f] }
def N6.g (f:N6) (i:Nat):Int:=f.r.getD i 0
def N6.s (f:N6) (i:Nat) (v:Int):N6:={ f with r:=f.r.set i v }
def N6.at (f:N6) (pc:Int):N6:={ f with pc:=pc }
def B9.f (x:B9):N6:=x.t.top
def B9.setF (x:B9) (f:N6):B9:={ x with t:=x.t.setTop f }
def B9.pc (x:B9) (pc:Int):B9:=x.setF (x.f.at pc)
def B9.s (x:B9) (i:Nat) (v:Int):B9:=x.setF (x.f.s i v)
def B9.push (x:B9) (fn:Int) (r:List Int):B9:={ x with t:=x.t.push fn r }
def B9.pop (x:B9) (r:List Int):B9:={ x with t:=x.t.pop r }
def B9.call (x:B9) (pc fn:Int) (r:List Int):B9:=(x.pc pc).push fn r
def B9.fo (x:B9) (l:List Int):B9:={ x with t:={ x.t with found:=l } }
def B9.re (x:B9) (l:List Int):B9:={ x with t:={ x.t with retired:=l } }
def B9.setPl (x:B9) (p s w:List Int):B9:={ x with t:={ x.t with pred:=p,succ:=s,word:=w } }
def B9.load (x:B9) (a:Int):Int × B9:=let (v,m):=x.m.load a;(v,{ x with m:=m })
def B9.store (x:B9) (a v:Int):B9:={ x with m:=x.m.store a v }
def B9.cas (x:B9) (a o n:Int):Bool × B9:=let (v,m):=x.m.cas a o n;(v,{ x with m:=m })
def B9.add (x:B9) (a d:Int):Int × B9:=let (v,m):=x.m.add a d;(v,{ x with m:=m })
def B9.gh (x:B9) (f:Gh->Gh):B9:={ x with m:=x.m.gh f }
def alloc (x:B9):B9:=
 let f:=x.f
 let node:=J5 (f.g 0)
 if f.pc=0 then
  let (v,x):=x.load 0
  let x:=(x.s 0 v).pc 1
  if J5 v=0 then x.pop [0] else x
 else if f.pc=1 then
  let (v,x):=x.load (x.m.p.link node)
  (x.s 1 v).pc 2
 else
  let x:=x.pc 0
  let (ok,x):=x.cas 0 (f.g 0) (Dj (f.g 0) (G2 (f.g 1)) false)
  if ok then (x.gh λg=>g.turn node 0 1 1).pop [node] else x
def AC (x:B9):B9:=
 let f:=x.f
 let node:=G2 (f.g 0)
 if f.pc=0 then
  let (v,x):=x.load 0
  (x.s 1 v).pc 1
 else if f.pc=1 then
  (x.store (x.m.p.link node) (J5 (f.g 1))).pc 2
 else
  let x:=x.pc 0
  let (ok,x):=x.cas 0 (f.g 1) (Dj (f.g 1) node false)
  if ok then (x.gh λg=>g.turn node 2 0 3).pop [u64 node] else x
def AD (x:B9):B9:=if x.t.fr = [] then x else if x.f.fn=1 then alloc x else if x.f.fn=2 then AC x else x.pop []
def AE (x:B9):B9:=
 let f:=x.f
 let a:=G2 (f.g 1)
 if f.pc=0 then
  let (v,x):=x.load a
  let x:=(x.s 2 v).pc 1
  if J5 v=0 then x.pop [v] else x
 else if f.pc=1 then
  (x.store (x.m.p.haz x.id (G2 (f.g 0))) (J5 (f.g 2))).pc 2
 else
  let (v,x):=x.load a
  if v=f.g 2\/J5 v=0 then x.pop [v] else (x.s 2 v).pc 1
def JS (x:B9):B9:=
 let f:=x.f
 if f.pc >= x.m.p.slots then x.pop [] else (x.store (x.m.p.haz x.id f.pc) 0).pc (f.pc+1)
def Ci (x:B9):B9:=
 let node:=G2 (x.f.g 0)
 let x:=x.gh λg=>g.turn node 1 2 2
 let x:=(x.re (x.t.retired ++ [node])).pop []
 if (x.t.retired.length:Int) >= x.m.p.c.scan then x.push 6 [] else x
def Cj (x:B9) (all:Int):B9:=
 if x.f.pc=all then ((x.re (x.t.retired.filter λn=>x.t.found.contains n)).fo (x.t.retired.filter λn=>!x.t.found.contains n)).pc (x.f.pc+1) else x
def GL (x:B9):B9:=match x.t.found with
 | []=>x.pop []
 | n :: rest=>(x.fo rest).push 2 [u64 n]
def scan (x:B9):B9:=
 let p:=x.m.p
 let all:=p.slots*p.c.threads
 let x:=if x.f.pc=0 then x.fo [] else x
 if x.f.pc < all then
  let (v,y):=x.load (p.haz (x.f.pc / p.slots) (x.f.pc % p.slots))
  (y.fo (y.t.found ++ [G2 v])).pc (x.f.pc+1)
 else GL (Cj x all)
def V0 (x:B9):B9:=
 if x.t.fr = [] then x else if x.f.fn=3 then AE x else if x.f.fn=4 then JS x else if x.f.fn=5 then Ci x else if x.f.fn=6 then scan x else AD x
def bits (d:B9->B9):Nat->B9->Option B9
 | 0,x=>if x.m.acted || x.t.fr.isEmpty then some x else none
 | n+1,x=>if x.m.acted || x.t.fr.isEmpty then some x else bits d n (d x)
def Mac.step (m:Mac) (i:Int) (d:B9->B9) (n:Nat):Option (Bool × Mac):=
 if i < 0\/m.th.length<=i then some (false,m) else
  match bits d n ⟨{ m with acted:=false },m.th.getD i.toNat (CT m.p.c),i⟩ with
  | none=>none
  | some x=>some (!x.t.fr.isEmpty,{ x.m with th:=x.m.th.set i.toNat x.t })
end Go.Proofs.YtahpbclnkofhfaaGreat.Mod
end
section
namespace Go.Proofs.YtahpbclnkofhfaaGreat.Mod
def Pb (n:Int):Bool:=decide (1<=n/\n<=1048576)
def BJ (n:Int):Int:=if Pb n then (Nat.log2 n.toNat:Nat) else 0
def S8 (d:Int):Int:=if d < 1\/d > 20 then 0 else 2 ^ (d - 1).toNat
def Yv (d draw:Int):Int:=let n:=S8 d;if n=0 then 0 else n+(max draw 0) % n
def Td3 (n l:Int):Int:=if !Pb n || decide (l < 0) || decide (BJ n < l) then 0 else n / 2 ^ (BJ n - l).toNat
def RC (n d:Int):Bool:=Pb n && decide (n < S8 d)
structure Sp where
 lo:Int
 hi:Int
def SK4 (n:Int):Sp:=⟨0,max n 1 - 1⟩
def Sp.done (s:Sp):Bool:=decide (s.lo >= s.hi)
def JT (n:Int):Int:=max 0 (min n 1073741824)
def Sp.mid (s:Sp):Int:=(JT s.lo+JT s.hi) / 2
def Sp.cut (s:Sp) (is:Bool):Sp:=if s.done then s else if is then ⟨s.lo,s.mid⟩ else ⟨s.mid+1,s.hi⟩
def B9.at (x:B9) (place:Int):Int:=x.m.p.at (G2 place)
def B9.nodeW (x:B9) (w field:Int):Int:=x.m.p.node (J5 w) field
def B9.swing (x:B9) (place w ptr:Int) (dirty:Bool):Bool × B9:=x.cas (x.at place) w (Dj w ptr dirty)
def B9.fin (x:B9) (k key val:Int):B9:=(((x.s 7 k).s 8 key).s 9 val).call 90 4 []
def B9.ret (x:B9) (i:Nat):Int:=x.t.ret.getD i 0
def EV (x:B9):B9:=
 if x.f.pc=0 then x.call 1 3 [1,u64 (x.at (x.f.g 0))]
 else
  let w:=x.ret 0
  if J5 w=0 then x.pop [w,1099511627776]
  else let (v,x):=x.load (x.nodeW w 0);x.pop [w,v]
def IP (x:B9):Sp:=⟨x.f.g 6 / 256,x.f.g 6 % 256⟩
def FN (x:B9) (s:Sp):B9:=x.s 6 (((Nat.lor (u64 (u64 s.lo*256)).toNat (u64 s.hi).toNat:Nat)):Int)
def Ls (x:B9) (l:Int):Int:=u64 (Td3 (G2 (x.f.g 5)) l)
def EW (x:B9):B9:=
 let f:=x.f
 let v:=x.ret 0
 let n:=x.t.retired.length
 if f.pc=0 then x.call 1 1 []
 else if f.pc=1 then
  let x:=x.s 2 v
  if v≠0 then x.pc 2
  else if f.g 3=0/\n > 0 then (x.s 3 1).call 0 6 []
  else x.fin 1 0 0
 else if f.pc=2 then (x.store (x.m.p.node (G2 (f.g 2)) 0) (f.g 0)).pc 3
 else ((x.store (x.m.p.node (G2 (f.g 2)) 1) (f.g 1)).s 3 0).pc 4
def Y4 (x:B9):B9:=
 let f:=x.f
 let p:=x.m.p
 if f.pc=4 then
  let (v,x):=x.load 2
  let x:=x.s 4 v
  let d:=G2 v
  let (n,m):=x.m.next (S8 d)
  (({ x with m:=m }:B9).s 5 (u64 (Yv d n))).pc 5
 else if f.pc=5 then x.call 6 10 [f.g 5]
 else if f.pc=6 then
  if x.ret 1 >= f.g 0 then (FN x (SK4 (G2 (f.g 4)))).pc 8
  else
   let x:=(x.s 3 (u64 (f.g 3+1))).pc 4
   if G2 (u64 (f.g 3+1)) >= p.c.probes then x.pc 7 else x
 else
  if G2 (f.g 4) >= p.c.level then (x.fin 1 0 0).push 5 [f.g 2]
  else let (_,x):=x.cas 2 (f.g 4) (u64 (f.g 4+1));(x.s 3 0).pc 4
def EX (x:B9):B9:=
 let s:=IP x
 if x.f.pc=8 then (if s.done then x.pc 10 else x.call 9 10 [Ls x s.mid])
 else (FN x (s.cut (decide (x.ret 1 >= x.f.g 0)))).pc 8
def IQ (x:B9) (ok:Bool):B9:=if ok then x.fin 0 0 0 else (x.s 3 0).pc 4
def JU (x:B9):B9:=
 let f:=x.f
 let place:=Ls x (IP x).lo
 let w:=f.g 3
 let v:=x.ret 0
 if f.pc=10 then x.call 11 10 [place]
 else if f.pc=11 then
  if x.ret 1 < f.g 0 then (x.s 3 0).pc 4
  else
   let x:=((x.s 3 v).store (x.m.p.node (G2 (f.g 2)) 2) (J5 v)).pc 13
   if place=1 then x.pc 12 else x
 else if f.pc=12 then let (ok,x):=x.swing 1 w (G2 (f.g 2)) (Ae w);IQ x ok
 else if f.pc=13 then x.call 14 10 [place / 2]
 else if f.pc=14 then
  if x.ret 1 > f.g 0 then IQ x false
  else
   let (ok,m):=x.m.dcss (x.at place) w (Dj w (G2 (f.g 2)) (Ae w)) (x.at (place / 2)) (x.ret 0)
   IQ { x with m:=m } ok
 else x
def EY (x:B9):B9:=if x.f.pc<=3 then EW x else if x.f.pc<=7 then Y4 x else if x.f.pc<=9 then EX x else JU x
def DF (x:B9):B9:=
 let f:=x.f
 let w:=f.g 0
 if f.pc=0 then x.call 1 3 [0,u64 (x.at 1)]
 else if f.pc=1 then
  let v:=x.ret 0
  let x:=(x.s 0 v).pc 2
  if Ae v then x.call 0 14 [1] else if J5 v=0 then x.fin 3 0 0 else x
 else if f.pc=2 then let (v,x):=x.load (x.nodeW w 0);(x.s 1 v).pc 3
 else if f.pc=3 then
  let (v,x):=x.load (x.nodeW w 1)
  let x:=(x.s 2 v).pc 4
  if f.fn=13 then x.fin 2 (f.g 1) v else x
 else x
def DG (x:B9):B9:=
 let f:=x.f
 let w:=f.g 0
 if f.pc=4 then let (v,x):=x.load (x.nodeW w 2);(x.s 3 v).pc 5
 else if f.pc=5 then
  let x:=x.pc 0
  let (ok,x):=x.swing 1 w (G2 (f.g 3)) true
  if ok then x.call 6 14 [1] else x
 else if f.pc=6 then x.call 7 5 [u64 (J5 w)]
 else if f.pc=7 then x.fin 2 (f.g 1) (f.g 2)
 else DF x
def En (x:B9):B9:=
 let w:=x.f.g 1
 let place:=x.f.g 0
 let x:=x.pc 0
 let (ok,x):=x.swing place w (J5 w) false
 if ok then x.pop [] else x
def EZ (x:B9):B9:=
 let f:=x.f
 if f.pc=0 then x.call 1 10 [f.g 0]
 else if f.pc=1 then
  let v:=x.ret 0
  let x:=((x.s 1 v).s 2 (x.ret 1)).pc 2
  if Ae v then x else x.pop []
 else if f.pc=2 then
  let (v,x):=(x.pc 3).load 2
  if RC (G2 (f.g 0)) (G2 v) then x.pc 4 else x
 else if f.pc=3 then En x
 else x
def Af (x:B9) (at_:Nat) (next place:Int):B9:=
 let v:=x.ret 0
 let x:=((x.s at_ v).s (at_+1) (x.ret 1)).pc next
 if Ae v then x.call 0 14 [place] else x
def Eo (x:B9) (at_:Nat) (place:Int):B9:=
 let f:=x.f
 let own:=f.g 1
 let low:=f.g at_
 let x:=x.pc 0
 let (ok,m):=x.m.dcas (x.at (f.g 0)) own (Dj own (J5 low) false) (x.at place) low (Dj low (J5 own) true)
 let x:B9:={ x with m:=m }
 if ok then x.s 0 place else x
def Fa (x:B9):B9:=
 let f:=x.f
 let left:=u64 (2*f.g 0)
 if f.pc=4 then x.call 5 10 [left]
 else if f.pc=5 then (if Ae (x.ret 0) then Af x 3 6 left else (Af x 3 6 left).call 6 10 [u64 (left+1)])
 else if f.pc=6 then Af x 5 7 (u64 (left+1))
 else if f.pc=7 then
  if f.g 4<=f.g 6/\f.g 4 < f.g 2 then Eo x 3 left
  else if f.g 6 < f.g 4/\f.g 6 < f.g 2 then Eo x 5 (u64 (left+1))
  else En x
 else EZ x
def Z9 (x:B9):B9:=
 if x.t.fr = [] then x else
 let f:=x.f
 if f.pc=90/\11<=f.fn/\f.fn<=13 then x.pop [f.g 7,f.g 8,f.g 9]
 else if f.fn=10 then EV x
 else if f.fn=11 then EY x
 else if f.fn=12\/f.fn=13 then DG x
 else if f.fn=14 then Fa x
 else V0 x
end Go.Proofs.YtahpbclnkofhfaaGreat.Mod
end
section
namespace Go.Proofs.YtahpbclnkofhfaaGreat.Mod
def S5 (key ticket:Int):Int:=u32 key*4294967296+u32 ticket
def Gm (n:Int):Int:=n / 4294967296
def Iu (v:Int) (gone:Bool):Int:=u32 v*2+b2i gone
def Jl (w:Int):Int:=u32 (w / 2)
def Sg0 (w:Int):Bool:=w % 2 == 1
def Iv (w:Int):Int:=if w % 2=1 then w else w+1
def B9.nlink (x:B9) (node row:Int):Int:=x.m.p.node (G2 node) (5+G2 row)
def Y5 (x:B9):B9:=
 let f:=x.f
 let i:=(G2 (f.g 1)).toNat
 let x:=x.setPl (x.t.pred.set i (f.g 2)) (x.t.succ.set i (J5 (f.g 3))) (x.t.word.set i (f.g 3))
 if i=0 then x.pop [] else (x.s 1 (u64 (f.g 1 - 1))).pc 1
def CH (x:B9) (w:Int):B9:=
 let x:=x.s 3 w
 if Ae w then x.pc 8 else if J5 w=2 then Y5 x else x.pc 3
def Fb (x:B9):B9:=
 let f:=x.f
 let curr:=J5 (f.g 3)
 if f.pc=3 then (x.store (x.m.p.haz x.id (2*G2 (f.g 1)+1)) curr).pc 4
 else if f.pc=4 then
  let (w,x):=x.load (x.nlink (f.g 2) (f.g 1))
  if w≠f.g 3 then CH x w else x.pc 5
 else if f.pc=5 then
  let (w,x):=x.load (x.nlink curr (f.g 1))
  let x:=(x.s 4 w).pc 7
  if Ae w then x.pc 6 else x
 else if f.pc=6 then
  let w:=Dj (f.g 3) (J5 (f.g 4)) false
  let (ok,x):=x.cas (x.nlink (f.g 2) (f.g 1)) (f.g 3) w
  if ok then CH x w else x.pc 2
 else if f.pc=7 then
  let (v,x):=x.load (x.m.p.node curr 0)
  if v >= f.g 0 then Y5 x else (x.s 2 curr).pc 1
 else x
def Fc (x:B9):B9:=
 let f:=x.f
 if f.pc=0 then ((x.s 2 1).s 1 (u64 (x.m.p.c.level - 1))).pc 1
 else if f.pc=1 then (x.store (x.m.p.haz x.id (2*G2 (f.g 1))) (f.g 2)).pc 2
 else if f.pc=2 then let (w,x):=x.load (x.nlink (f.g 2) (f.g 1));CH x w
 else if f.pc=8 then let (_,x):=x.load (x.m.p.node (G2 (f.g 2)) 4);x.pc 0
 else Fb x
def Ck (x:B9):B9:=if x.t.fr = [] then x else if x.f.fn=20 then Fc x else V0 x
def B9.na (x:B9) (node field:Int):Int:=x.m.p.node (G2 node) field
def B9.swingA (x:B9) (a w to_:Int):Bool × B9:=x.cas a w (Dj w (G2 to_) false)
def B9.drop1 (x:B9) (node:Int):Bool × B9:=let (v,x):=x.add (x.na node 2) 18446744073709551615;(v == 1,x)
def Cm (x:B9):B9:=
 let f:=x.f
 let v:=x.ret 0
 let n:=x.t.retired.length
 if f.pc=0 then x.call 1 1 []
 else if f.pc=1 then
  let x:=x.s 2 v
  if v≠0 then x.pc 2
  else if f.g 5=0/\n > 0 then (x.s 5 1).call 0 6 []
  else x.fin 1 0 0
 else if f.pc=2 then
  let (v,x):=x.add 3 1
  let x:=x.s 4 (S5 (u32 (f.g 0)) (u32 v))
  let (l,m):=x.m.lvl x.m.p.c.level
  (({ x with m:=m }:B9).s 3 (u64 l)).pc 3
 else x
def FO (x:B9):B9:=
 let f:=x.f
 let n:=f.g 2
 let x:=if f.pc=3 then x.store (x.na n 0) (f.g 4) else if f.pc=4 then x.store (x.na n 1) (Iu (u32 (f.g 1)) false)
  else if f.pc=5 then x.store (x.na n 2) 2 else if f.pc=6 then x.store (x.na n 3) (f.g 3) else if f.pc=7 then x.store (x.na n 4) 0 else x
 x.pc (f.pc+1)
def AF (x:B9):B9:=
 let f:=x.f
 let n:=f.g 2
 let row:=f.g 5
 if f.pc=8 then (x.s 5 0).call 9 20 [f.g 4]
 else if f.pc=9 then let (w,x):=x.load (x.nlink n row);(x.s 6 w).pc 10
 else if f.pc=10 then
  let x:=x.store (x.nlink n row) (Dj (f.g 6) (G2 (x.t.succ.getD row.toNat 0)) false)
  let x:=(x.s 5 (u64 (row+1))).pc 9
  if u64 (row+1) >= f.g 3 then x.pc 11 else x
 else if f.pc=11 then
  let x:=(x.s 5 1).pc 8
  let (ok,x):=x.swingA (x.nlink (x.t.pred.getD 0 0) 0) (x.t.word.getD 0 0) n
  if ok then x.pc 12 else x
 else x
def AG (x:B9):B9:=
 let f:=x.f
 let n:=f.g 2
 let row:=f.g 5
 let su:=x.t.succ.getD row.toNat 0
 if f.pc=12 then
  if row >= f.g 3 then x.pc 15
  else
   let (w,x):=x.load (x.nlink n row)
   let x:=x.s 6 w
   if Ae w then x.pc 15 else if J5 w≠su then x.pc 13 else x.pc 14
 else if f.pc=13 then let (_,x):=x.swingA (x.nlink n row) (f.g 6) su;x.pc 12
 else if f.pc=14 then
  let (ok,x):=x.swingA (x.nlink (x.t.pred.getD row.toNat 0) row) (x.t.word.getD row.toNat 0) n
  if ok then (x.s 5 (u64 (row+1))).pc 12 else x.call 12 20 [f.g 4]
 else x
def AH (x:B9):B9:=
 let f:=x.f
 if f.pc=15 then
  let (z,x):=x.drop1 (f.g 2)
  if z then x.call 17 20 [f.g 4] else x.pc 16
 else if f.pc=17 then x.call 16 5 [f.g 2]
 else x.fin 0 0 0
def Cn (x:B9):B9:=if x.f.pc<=2 then Cm x else if x.f.pc<=7 then FO x else if x.f.pc<=11 then AF x else if x.f.pc<=14 then AG x else AH x
def Br (x:B9):B9:=x.fin 2 (Gm (x.f.g 2)) (Jl (x.f.g 3))
def AW (x:B9):B9:=
 let f:=x.f
 if f.pc=0 then (x.s 6 0).call 1 3 [u64 (x.m.p.slots - 2),u64 (x.nlink 1 0)]
 else if f.pc=1 then
  let v:=x.ret 0
  let x:=((x.s 0 v).s 1 (J5 v)).pc 2
  if J5 v=2 then x.fin 3 0 0 else x
 else if f.pc=2 then
  let (v,x):=x.load (x.na (f.g 1) 1)
  let x:=(x.s 3 v).pc 3
  if Sg0 v then x.pc 6 else x
 else if f.pc=3 then
  let (v,x):=x.load (x.na (f.g 1) 0)
  let x:=(x.s 2 v).pc 4
  if f.fn=23 then Br x else x
 else x
def AX (x:B9):B9:=
 let f:=x.f
 if f.pc=4 then
  let x:=x.pc 0
  let (ok,x):=x.cas (x.na (f.g 1) 1) (f.g 3) (Iv (f.g 3))
  if ok then (x.s 6 1).pc 5 else x
 else if f.pc=5 then (x.store (x.na (f.g 1) 4) 1).pc 6
 else if f.pc=6 then let (v,x):=x.load (x.na (f.g 1) 3);(x.s 4 v).pc 7
 else x
def AY (x:B9):B9:=
 let f:=x.f
 if f.pc=7 then
  if f.g 4=0 then (if f.g 6=1 then x.pc 11 else x.pc 9)
  else
   let (w,x):=x.load (x.nlink (f.g 1) (f.g 4 - 1))
   let x:=(x.s 5 w).pc 8
   if Ae w then (x.s 4 (u64 (f.g 4 - 1))).pc 7 else x
 else if f.pc=8 then
  let x:=x.pc 7
  let (ok,x):=x.cas (x.nlink (f.g 1) (f.g 4 - 1)) (f.g 5) (Sf8 (f.g 5))
  if ok then x.s 4 (u64 (f.g 4 - 1)) else x
 else x
def Y6 (x:B9):B9:=
 let f:=x.f
 if f.pc=9 then let (v,x):=x.load (x.nlink (f.g 1) 0);(x.s 5 v).pc 10
 else if f.pc=10 then let (_,x):=x.swingA (x.nlink 1 0) (f.g 0) (J5 (f.g 5));x.pc 0
 else if f.pc=11 then
  let (z,x):=x.drop1 (f.g 1)
  if z then x.call 12 20 [f.g 2] else x.pc 13
 else if f.pc=12 then x.call 13 5 [f.g 1]
 else Br x
def Co (x:B9):B9:=if x.f.pc<=3 then AW x else if x.f.pc<=6 then AX x else if x.f.pc<=8 then AY x else Y6 x
def S3 (x:B9):B9:=
 if x.t.fr = [] then x else
 let f:=x.f
 if f.fn < 21\/23 < f.fn then Ck x
 else if f.pc=90 then x.pop [f.g 7,f.g 8,f.g 9]
 else if f.fn=21 then Cn x
 else Co x
end Go.Proofs.YtahpbclnkofhfaaGreat.Mod
end
section
namespace Go.Proofs.YtahpbclnkofhfaaGreat.Mod
def X3 (x:B9):B9:=
 let f:=x.f
 let i:=(G2 (f.g 2)).toNat
 let x:=x.setPl (x.t.pred.set i (f.g 3)) (x.t.succ.set i (J5 (f.g 4))) (x.t.word.set i (f.g 4))
 if i=0 then x.pop [f.g 5] else (x.s 2 (u64 (f.g 2 - 1))).pc 1
def CI (x:B9):B9:=(x.s 3 (J5 (x.f.g 4))).pc 1
def Cp (x:B9):B9:=
 let f:=x.f
 let (e,x):=x.load 1
 if e≠f.g 1 then x.pc 0
 else if G2 (f.g 2)=0/\Ae (f.g 4)=true then CI (x.s 5 (J5 (f.g 4)))
 else if G2 (f.g 2) > 0 then x.pc 5 else x.pc 6
def Fe (x:B9):B9:=
 let f:=x.f
 let next:=J5 (f.g 4)
 if f.pc=0 then
  let (e,x):=x.load 1
  ((((x.s 1 e).s 3 1).s 5 0).s 2 (u64 (x.m.p.c.level - 1))).pc 1
 else if f.pc=1 then (x.store (x.m.p.haz x.id (2*G2 (f.g 2))) (f.g 3)).pc 2
 else if f.pc=2 then
  let (w,x):=x.load (x.nlink (f.g 3) (f.g 2))
  let x:=(x.s 4 w).pc 3
  if J5 w=2 then X3 x else x
 else if f.pc=3 then (x.store (x.m.p.haz x.id (2*G2 (f.g 2)+1)) next).pc 4
 else if f.pc=4 then Cp x
 else if f.pc=5 then
  let (w,x):=(x.pc 6).load (x.m.p.node next 5)
  if Ae w then CI x else x
 else
  let (v,x):=x.load (x.m.p.node next 0)
  if v < f.g 0 then CI x else X3 x
def Aq (x:B9):B9:=if x.t.fr = [] then x else if x.f.fn=30 then Fe x else V0 x
def B9.swingM (x:B9) (a w to_:Int) (mk:Bool):Bool × B9:=x.cas a w (Dj w (G2 to_) mk)
def B9.guard (x:B9) (slot node:Int):B9:=x.store (x.m.p.haz x.id (x.m.p.slots - 1 - slot % 2)) node
def Cq (x:B9):B9:=
 let f:=x.f
 if f.pc=0 then
  let (w,x):=x.load (x.nlink 1 0)
  let x:=(((x.s 0 w).s 1 (J5 w)).s 2 (J5 w)).pc 1
  if Ae w then x else x.fin 0 0 0
 else if f.pc=1 then
  let (w,x):=x.load (x.nlink (f.g 1) 0)
  let x:=(x.s 2 (J5 w)).pc 2
  if Ae w then (x.s 1 (J5 w)).pc 1 else x
 else if f.pc=2 then x.call 3 36 [f.g 1]
 else if f.pc=3 then let (_,x):=x.swingM (x.nlink 1 0) (f.g 0) (f.g 2) false;x.pc 4
 else if f.pc=4 then x.call 5 35 [J5 (f.g 0),f.g 2]
 else x.fin 0 0 0
def Cr (x:B9):B9:=
 let f:=x.f
 if f.pc=0 then let (_,x):=x.add 1 1;x.pc 1
 else if f.pc=1 then
  if f.g 0=f.g 1 then x.pop []
  else let (w,x):=x.load (x.nlink (f.g 0) 0);(x.s 2 (J5 w)).pc 2
 else (x.s 0 (f.g 2)).call 1 5 [f.g 0]
def Bs (x:B9):B9:=(x.s 2 (u64 (x.f.g 2 - 1))).pc 1
def Cs (x:B9):B9:=
 let f:=x.f
 if f.pc=4 then
  if f.g 4=f.g 0 then x.pc 5
  else
   let (w,x):=x.load (x.nlink (f.g 4) 0)
   if Ae w then x.pc 5 else if f.g 4=J5 (f.g 3) then Bs x else x.pc 6
 else if f.pc=5 then
  let (w,x):=x.load (x.nlink (f.g 4) (f.g 2))
  let x:=(x.s 4 (J5 w)).pc 2
  if J5 w=2 then x.pc 6 else x
 else
  let (ok,x):=x.swingM (x.nlink 1 (f.g 2)) (f.g 3) (f.g 4) false
  if ok then Bs x else x.pc 1
def Ct (x:B9):B9:=
 let f:=x.f
 if f.pc=0 then
  let (e,x):=x.load 1
  ((x.s 1 e).s 2 (u64 (x.m.p.c.level - 1))).pc 1
 else if f.pc=1 then
  if f.g 2=0 then x.pop []
  else
   let (w,x):=x.load (x.nlink 1 (f.g 2))
   let x:=((x.s 3 w).s 4 (J5 w)).pc 2
   if J5 w=2 then Bs x else x
 else if f.pc=2 then ((x.guard (f.g 5) (f.g 4)).s 5 (u64 (f.g 5+1))).pc 3
 else if f.pc=3 then
  let (e,x):=(x.pc 4).load 1
  if e≠f.g 1 then x.pc 0 else x
 else Cs x
def Cu (x:B9):B9:=
 let f:=x.f
 let v:=x.ret 0
 let n:=x.t.retired.length
 if f.pc=0 then x.call 1 1 []
 else if f.pc=1 then
  let x:=x.s 2 v
  if v≠0 then x.pc 2
  else if f.g 5=0/\n > 0 then (x.s 5 1).call 0 6 []
  else x.fin 1 0 0
 else if f.pc=2 then
  let (v,x):=x.add 3 1
  let x:=x.s 4 (S5 (u32 (f.g 0)) (u32 v))
  let (l,m):=x.m.lvl x.m.p.c.level
  (({ x with m:=m }:B9).s 3 (u64 l)).pc 3
 else x
def FP (x:B9):B9:=
 let f:=x.f
 let n:=f.g 2
 let x:=if f.pc=3 then x.store (x.na n 0) (f.g 4) else if f.pc=4 then x.store (x.na n 1) (f.g 1)
  else if f.pc=5 then x.store (x.na n 2) 1 else if f.pc=6 then x.store (x.na n 3) (f.g 3) else x
 x.pc (f.pc+1)
def AI (x:B9):B9:=
 let f:=x.f
 let n:=f.g 2
 if f.pc=7 then x.call 8 30 [f.g 4]
 else if f.pc=8 then let (w,x):=(x.s 7 (x.ret 0)).load (x.nlink n 0);(x.s 6 w).pc 9
 else if f.pc=9 then (x.store (x.nlink n 0) (Dj (f.g 6) (G2 (x.t.succ.getD 0 0)) false)).pc 10
 else if f.pc=10 then
  let x:=(x.s 5 1).pc 7
  let (ok,x):=x.swingM (x.nlink (x.t.pred.getD 0 0) 0) (x.t.word.getD 0 0) n false
  if ok then x.pc 11 else x
 else x
def AJ (x:B9):B9:=
 let f:=x.f
 let n:=f.g 2
 let row:=f.g 5
 if f.pc=11 then
  if row >= f.g 3 then x.pc 17
  else let (w,x):=(x.pc 12).load (x.nlink n 0);if Ae w then x.pc 17 else x
 else if f.pc=12 then
  let x:=x.pc 13
  let s:=x.t.succ.getD row.toNat 0
  if s=2 then x else if s=f.g 7 then x.pc 17
  else let (w,x):=x.load (x.nlink s 0);if Ae w then x.pc 17 else x
 else if f.pc=13 then let (w,x):=x.load (x.nlink n row);(x.s 6 w).pc 14
 else if f.pc=14 then (x.store (x.nlink n row) (Dj (f.g 6) (G2 (x.t.succ.getD row.toNat 0)) false)).pc 15
 else x
def Cv (x:B9):B9:=
 let f:=x.f
 let row:=f.g 5
 if f.pc=15 then
  let (ok,x):=x.swingM (x.nlink (x.t.pred.getD row.toNat 0) row) (x.t.word.getD row.toNat 0) (f.g 2) false
  if ok then (x.s 5 (u64 (row+1))).pc 11 else x.call 16 30 [f.g 4]
 else if f.pc=16 then
  let x:=(x.s 7 (x.ret 0)).pc 11
  if x.t.succ.getD 0 0≠f.g 2 then x.pc 17 else x
 else if f.pc=17 then (x.store (x.na (f.g 2) 2) 0).pc 18
 else x.fin 0 0 0
def Cw (x:B9):B9:=if x.f.pc<=2 then Cu x else if x.f.pc<=6 then FP x else if x.f.pc<=10 then AI x else if x.f.pc<=14 then AJ x else Cv x
def Bt (x:B9):B9:=
 let f:=x.f
 let next:=J5 (f.g 5)
 if f.pc=0 then
  let (e,x):=x.load 1
  ((((x.s 0 e).s 2 1).s 3 0).s 4 0).pc 1
 else if f.pc=1 then let (w,x):=x.load (x.nlink 1 0);((x.s 1 w).s 5 w).pc 2
 else if f.pc=2 then
  let x:=x.pc 3
  if next=2 then x.fin 3 0 0 else x
 else if f.pc=3 then ((x.guard (f.g 3) next).s 3 (u64 (f.g 3+1))).pc 4
 else if f.pc=4 then
  let (e,x):=(x.pc 5).load 1
  if e≠f.g 0 then x.pc 0 else x
 else x
def IF (x:B9):B9:=
 let f:=x.f
 let next:=J5 (f.g 5)
 if f.pc=5 then
  let x:=x.pc 6
  if f.g 2≠1/\f.g 4=0 then
   let (v,x):=x.load (x.na (f.g 2) 2)
   if v=1 then x.s 4 (f.g 2) else x
  else x
 else if f.pc=6 then
  if Ae (f.g 5) then (x.s 2 next).pc 7 else if f.fn=33 then x.pc 9 else x.pc 8
 else if f.pc=7 then let (w,x):=x.load (x.nlink (f.g 2) 0);(x.s 5 w).pc 2
 else if f.pc=8 then
  let x:=x.pc 9
  let (ok,x):=x.swingM (x.nlink (f.g 2) 0) (f.g 5) next true
  if ok then x else (x.s 3 (u64 (f.g 3 - 1))).pc 7
 else x
def Bu (x:B9):B9:=
 let f:=x.f
 let next:=J5 (f.g 5)
 if f.pc=9 then let (v,x):=x.load (x.na next 1);(x.s 6 v).pc 10
 else if f.pc=10 then
  let (v,x):=x.load (x.na next 0)
  let x:=(x.s 8 (Gm v)).pc 11
  let x:=if f.fn=33\/f.g 3 < u64 x.m.p.c.batch then x.pc 14 else x
  if f.g 4=0 then x.s 4 next else x
 else x
def DH (x:B9):B9:=
 let f:=x.f
 if f.pc=11 then
  let x:=x.pc 14
  let (ok,x):=x.swingM (x.nlink 1 0) (f.g 1) (f.g 4) true
  if ok then x.pc 12 else x
 else if f.pc=12 then x.call 13 36 [0]
 else if f.pc=13 then x.call 14 35 [J5 (f.g 1),f.g 4]
 else x.fin 2 (f.g 8) (f.g 6)
def Bv (x:B9):B9:=if x.f.pc<=4 then Bt x else if x.f.pc<=8 then IF x else if x.f.pc<=10 then Bu x else DH x
def V1 (x:B9):B9:=
 if x.t.fr = [] then x else
 let f:=x.f
 if f.fn < 31\/36 < f.fn then Aq x
 else if f.pc=90 then x.pop [f.g 7,f.g 8,f.g 9]
 else if f.fn=31 then Cw x
 else if f.fn=34 then Cq x
 else if f.fn=35 then Cr x
 else if f.fn=36 then Ct x
 else Bv x
end Go.Proofs.YtahpbclnkofhfaaGreat.Mod
end
namespace Go.Proofs.YtahpbclnkofhfaaGreat
section
open Mod
variable {K:kQ} {h:A2}
def U (n:Int):Prop:=0<=n/\n < 18446744073709551616
theorem U.wrap {n:Int} (h:U n):IntKind.wrap .u64 n=n:=by
 obtain ⟨m,rfl⟩ : ∃m:Nat,n=m:=⟨n.toNat,by have:=h.1;omega⟩
 exact Ms (by have:=h.2;omega)
theorem U.bv {n:Int} (h:U n):(BitVec.ofInt 64 n).toNat=n.toNat:=by
 rw [BitVec.toNat_ofInt]
 have:=h.1;have:=h.2
 omega
theorem U.and1 {n:Int} (h:U n):IntKind.wrap .u64 ((((BitVec.ofInt 64 n) &&& (BitVec.ofInt 64 1)).toNat:Nat):Int)=n % 2:=by
 rw [BitVec.toNat_and,h.bv,show (BitVec.ofInt 64 1).toNat=1 by decide,Nat.and_one_is_mod,Ms (by omega)]
 have:=h.1
 omega
theorem Nm {a b:Int} (k:Nat) (ha:U a) (hb:0<=b) (hk:b < ((2 ^ k:Nat):Int)) (hd:a % ((2 ^ k:Nat):Int)=0) (hs:U (a+b)):wrap .u64 ((((BitVec.ofInt 64 a) ||| (BitVec.ofInt 64 b)).toNat:Nat):Int)=a+b:=by
 have hbU:U b:=⟨hb,by have:=hs.2;have:=ha.1;omega⟩
 rw [BitVec.toNat_or,ha.bv,hbU.bv]
 obtain ⟨m,rfl⟩ : ∃m:Nat,a=m:=⟨a.toNat,by have:=ha.1;omega⟩
 obtain ⟨n,rfl⟩ : ∃n:Nat,b=n:=⟨b.toNat,by omega⟩
 rw [X5,X5]
 have hd':m % 2 ^ k=0:=by
  have:((m % 2 ^ k:Nat):Int)=0:=by rw [Int.natCast_emod];exact hd
  omega
 obtain ⟨c,hc⟩ : ∃c,m=2 ^ k*c:=⟨m / 2 ^ k,by have:=Nat.div_add_mod m (2 ^ k);omega⟩
 have hn:n < 2 ^ k:=by omega
 rw [hc,<- Nat.two_pow_add_eq_or_of_lt hn,<- hc]
 have:=hs.2
 rw [Ms (by omega)]
 omega
theorem BE {n m:Int} (h:0<=m):Int.fdiv n m=n / m:=Int.fdiv_eq_ediv_of_nonneg _ h
theorem Hm {n m:Int} (h:0<=n):Int.tmod n m=n % m:=Sk4 h
theorem N9 {w:Int} (hw:U w) (k:K (iQ (J5 w)) h):A4 prog 146 #[uQ w] h K:=by
 refine call146 ?_
 unfold F146
 refine ⟨by omega,by omega,?_⟩
 have:=hw.1
 rw [BE (by omega),Hm (by omega),E3 (by omega) (by omega)]
 exact k
theorem W6 {w:Int} (hw:U w) (k:K (dQ (Ae w)) h):A4 prog 226 #[uQ w] h K:=by
 refine call226 ?_
 unfold F226
 rw [hw.and1]
 exact k
theorem So5 {w:Int} (hw:U w) (k:K (uQ (Yu w)) h):A4 prog 285 #[uQ w] h K:=by
 refine call285 ?_
 unfold F285
 rw [BE (by omega)]
 exact ⟨by omega,k⟩
theorem Td4 (b:Bool):0<=b2i b/\b2i b<=1:=by cases b <;> decide
theorem Sg1 {ptr ver:Int} {mk:Bool} (hp:0<=ptr/\ptr < 65536) (hv:0<=ver/\ver < 140737488355328):U (Z5 ptr mk ver):=by
 have:=Td4 mk
 unfold U Z5
 omega
theorem Nn {ptr ver:Int} {mk:Bool} (hp:0<=ptr/\ptr < 65536) (hv:0<=ver/\ver < 140737488355328) (k:K (uQ (Z5 ptr mk ver)) h):A4 prog 278 #[uQ ptr,dQ mk,uQ ver] h K:=by
 refine call278 ?_
 unfold F278
 refine ⟨by omega,by omega,?_⟩
 have e1:wrap .u64 (ver*131072)=ver*131072:=U.wrap ⟨by omega,by omega⟩
 have e2:wrap .u64 (ptr*2)=ptr*2:=U.wrap ⟨by omega,by omega⟩
 rw [e1,e2]
 have e3:=Nm (a:=ver*131072) (b:=ptr*2) 17 ⟨by omega,by omega⟩ (by omega) (by simp only [Nat.reducePow];omega) (by simp only [Nat.reducePow];omega) ⟨by omega,by omega⟩
 rw [e3]
 cases mk with
 | false=>
  simp only [E7]
  unfold Z5 b2i at k
  simpa using k
 | true=>
  simp only [G6]
  have e4:=Nm (a:=ver*131072+ptr*2) (b:=1) 1 ⟨by omega,by omega⟩ (by omega) (by decide) (by simp only [Nat.reducePow];omega) ⟨by omega,by omega⟩
  rw [e4]
  unfold Z5 b2i at k
  simpa using k
theorem Bi {w ptr:Int} {mk:Bool}:U (Dj w ptr mk):=Sg1 ⟨by omega,by omega⟩ ⟨by omega,by omega⟩
theorem KN (n:Int):wrap .u64 n=n % 18446744073709551616:=by
 unfold wrap IntKind.signed IntKind.bits
 have e:(2:Int) ^ 64=18446744073709551616:=rfl
 simp only [Mf,Cd,if_false,e]
theorem Gn (n:Int):wrap .u32 n=n % 4294967296:=by
 unfold wrap IntKind.signed IntKind.bits
 have e:(2:Int) ^ 32=4294967296:=rfl
 simp only [Mf,Cd,if_false,e]
theorem Hn (n:Int):wrap .i64 n=G2 n:=by
 unfold wrap IntKind.signed IntKind.bits G2
 have e:(2:Int) ^ 64=18446744073709551616:=rfl
 have e2:(2:Int) ^ (64 - 1)=9223372036854775808:=rfl
 simp only [FC,EK,e,e2]
 split <;> split <;> omega
theorem U6 {w ptr:Int} {mk:Bool} (hw:U w) (k:K (uQ (Dj w ptr mk)) h):A4 prog 228 #[uQ w,iQ ptr,dQ mk] h K:=by
 refine call228 ?_
 unfold F228 cf
 refine ⟨by omega,?_⟩
 refine A0 (So5 hw ?_)
 simp only [A5]
 refine ⟨by omega,?_⟩
 have hv:0<=Yu w/\Yu w < 140737488355328:=by have:=hw.1;have:=hw.2;unfold Yu;omega
 rw [show wrap .u64 (Yu w+1)=Yu w+1 from U.wrap ⟨by omega,by omega⟩,KN,Hm (by omega),Hm (by omega)]
 rw [show ptr % 18446744073709551616 % 65536=ptr % 65536 by omega]
 refine A0 (Nn ⟨by omega,by omega⟩ ⟨by omega,by omega⟩ ?_)
 simp only [A5]
 exact k
theorem RD {w:Int} (hw:U w) (k:K (uQ (Sf8 w)) h):A4 prog 261 #[uQ w] h K:=by
 refine call261 ?_
 unfold F261 cf
 refine A0 (N9 hw ?_)
 simp only [A5]
 refine A0 (U6 hw ?_)
 simp only [A5]
 exact k
def V (n:Int):Prop:=0<=n/\n < 4294967296
theorem Us (n:Int):V (u32 n):=⟨by unfold u32;omega,by unfold u32;omega⟩
theorem V.u32 {n:Int} (h:V n):u32 n=n:=by unfold Mod.u32;have:=h.1;have:=h.2;omega
theorem No {a b:Int} (ha:V a) (hb:V b) (k:K (uQ (S5 a b)) h):A4 prog 249 #[.int .u32 a,.int .u32 b] h K:=by
 refine call249 ?_
 unfold F249
 refine ⟨by omega,?_⟩
 have:=ha.1;have:=ha.2;have:=hb.1;have:=hb.2
 rw [show wrap .u64 a=a from U.wrap ⟨by omega,by omega⟩,show wrap .u64 b=b from U.wrap ⟨by omega,by omega⟩,show wrap .u64 (a*4294967296)=a*4294967296 from U.wrap ⟨by omega,by omega⟩,
  Nm (a:=a*4294967296) (b:=b) 32 ⟨by omega,by omega⟩ (by omega) (by simp only [Nat.reducePow];omega) (by simp only [Nat.reducePow];omega) ⟨by omega,by omega⟩]
 unfold S5 at k
 rw [ha.u32,hb.u32] at k
 exact k
theorem Yw {a:Int} {g:Bool} (ha:V a) (k:K (uQ (Iu a g)) h):A4 prog 252 #[.int .u32 a,dQ g] h K:=by
 refine call252 ?_
 unfold F252
 refine ⟨by omega,?_⟩
 have:=ha.1;have:=ha.2
 rw [show wrap .u64 a=a from U.wrap ⟨by omega,by omega⟩,show wrap .u64 (a*2)=a*2 from U.wrap ⟨by omega,by omega⟩]
 unfold Iu b2i at k
 rw [ha.u32] at k
 cases g with
 | false=>simp only [E7];simpa using k
 | true=>
  simp only [G6]
  rw [Nm (a:=a*2) (b:=1) 1 ⟨by omega,by omega⟩ (by omega) (by decide) (by simp only [Nat.reducePow];omega) ⟨by omega,by omega⟩]
  simpa using k
theorem Yx {w:Int} (hw:U w) (k:K (dQ (Sg0 w)) h):A4 prog 258 #[uQ w] h K:=by
 refine call258 ?_
 unfold F258
 rw [hw.and1]
 exact k
theorem Qi {n:Int} (hn:U n) (k:K (.int .u32 (Gm n)) h):A4 prog 274 #[uQ n] h K:=by
 refine call274 ?_
 unfold F274
 have:=hn.1;have:=hn.2
 rw [BE (by omega),Gn,show n / 4294967296 % 4294967296=n / 4294967296 by omega]
 exact ⟨by omega,k⟩
theorem So6 {w:Int} (k:K (.int .u32 (Jl w)) h):A4 prog 298 #[uQ w] h K:=by
 refine call298 ?_
 unfold F298
 rw [BE (by omega),Gn]
 exact ⟨by omega,k⟩
theorem Yy {w:Int} (hw:U w) (k:K (uQ (Iv w)) h):A4 prog 260 #[uQ w] h K:=by
 refine call260 ?_
 unfold F260
 have:=hw.1;have:=hw.2
 have key:wrap .u64 ((((BitVec.ofInt 64 w) ||| (BitVec.ofInt 64 1)).toNat:Nat):Int)=Iv w:=by
  unfold Iv
  by_cases e:w % 2=1
  ·rw [A8 e,BitVec.toNat_or,hw.bv,show (BitVec.ofInt 64 1).toNat=1 by decide]
   have e2:w.toNat ||| 1=w.toNat:=by
    apply Nat.eq_of_testBit_eq
    intro j
    rw [Nat.testBit_or]
    cases j with
    | zero=>
     rw [Nat.testBit_zero,Nat.testBit_zero]
     have:w.toNat % 2=1:=by omega
     simp [this]
    | succ j=>simp [Nat.testBit_succ]
   rw [e2,Ms (by omega)]
   omega
  ·rw [A7 e]
   exact Nm (a:=w) (b:=1) 1 hw (by omega) (by decide) (by simp only [Nat.reducePow];omega) ⟨by omega,by omega⟩
 rw [key]
 exact k
end
section
set_option maxRecDepth 100000
variable {K:kQ} {h:A2}
abbrev g100 (K:kQ) (h H1:A2):Prop:=
 (lI .i64 H1 ⟨h.size,14,none⟩ λa=>K (iQ a) H1)
def F100 (K:kQ) (h:A2) (xa xb xc xd xe xf xg xh xi xj xk xl xm xn xo:Int):Prop:=
 (g100 K h (h.push (oQ #[iQ xa,iQ xb,iQ xc,iQ xd,iQ xe,iQ xf,iQ xg,iQ xh,iQ xi,iQ xj,iQ xk,iQ xl,iQ xm,iQ xn,iQ xo] 117)))
theorem call100 {xa xb xc xd xe xf xg xh xi xj xk xl xm xn xo:Int} (H:F100 K h xa xb xc xd xe xf xg xh xi xj xk xl xm xn xo):A4 prog 100 #[(.agg #[(iQ xa),(iQ xb),(iQ xc),(iQ xd),(iQ xe),(iQ xf),(iQ xg),(iQ xh),(iQ xi),(iQ xj),(iQ xk),(iQ xl),(iQ xm),(iQ xn),(iQ xo)])] h K:=
 cQ Tryz.func100 H
abbrev g104 (K:kQ) (h H1:A2):Prop:=
 (lI .i64 H1 ⟨h.size,9,none⟩ λa=>K (iQ a) H1)
def F104 (K:kQ) (h:A2) (xa xb xc xd xe xf xg xh xi xj xk xl xm xn xo:Int):Prop:=
 (g104 K h (h.push (oQ #[iQ xa,iQ xb,iQ xc,iQ xd,iQ xe,iQ xf,iQ xg,iQ xh,iQ xi,iQ xj,iQ xk,iQ xl,iQ xm,iQ xn,iQ xo] 117)))
theorem call104 {xa xb xc xd xe xf xg xh xi xj xk xl xm xn xo:Int} (H:F104 K h xa xb xc xd xe xf xg xh xi xj xk xl xm xn xo):A4 prog 104 #[(.agg #[(iQ xa),(iQ xb),(iQ xc),(iQ xd),(iQ xe),(iQ xf),(iQ xg),(iQ xh),(iQ xi),(iQ xj),(iQ xk),(iQ xl),(iQ xm),(iQ xn),(iQ xo)])] h K:=
 cQ Tryz.func104 H
abbrev g139 (K:kQ) (h H1 H2:A2):Prop:=
 (da7 H2 (aQ h.size) λa b c d e f g=>dw7 H2 H1.size a b c d e f g λa=>IE a H1.size λb c d e f g i=>K (.agg #[b,c,d,e,f,g,i]) a)
def F139 (K:kQ) (h:A2) (xa xb xc xd xe xf xg xh xi xj xk xl xm xn xo:Int):Prop:=
 (g139 K h (h.push (oQ #[iQ xa,iQ xb,iQ xc,iQ xd,iQ xe,iQ xf,iQ xg,iQ xh,iQ xi,iQ xj,iQ xk,iQ xl,iQ xm,iQ xn,iQ xo] 117)) (Array.push (h.push (oQ #[iQ xa,iQ xb,iQ xc,iQ xd,iQ xe,iQ xf,iQ xg,iQ xh,iQ xi,iQ xj,iQ xk,iQ xl,iQ xm,iQ xn,iQ xo] 117)) (oQ Dp 23)))
theorem call139 {xa xb xc xd xe xf xg xh xi xj xk xl xm xn xo:Int} (H:F139 K h xa xb xc xd xe xf xg xh xi xj xk xl xm xn xo):A4 prog 139 #[(.agg #[(iQ xa),(iQ xb),(iQ xc),(iQ xd),(iQ xe),(iQ xf),(iQ xg),(iQ xh),(iQ xi),(iQ xj),(iQ xk),(iQ xl),(iQ xm),(iQ xn),(iQ xo)])] h K:=
 cQ Tryz.func139 H
abbrev g142 (K:kQ) (h H1:A2) (xa:Int):Prop:=
 (lI .i64 H1 ((aQ h.size).add 2) λa=>cf 138 #[lQ (some (aQ H1.size)) 1 1] (H1.push (oQ #[iQ xa,iQ 1,iQ a] 229)) λa b=>asBool a λa=>D4 (!a) (K (iQ (-1)) b) (lI .i64 b ⟨h.size,11,none⟩ λa=>K (iQ (wrap .i64 ((wrap .i64 (a+xa)) - 1))) b))
def F142 (K:kQ) (h:A2) (xa xb xc xd xe xf xg xh xi xj xk xl xm xn xo xp:Int):Prop:=
 (g142 K h (h.push (oQ #[iQ xa,iQ xb,iQ xc,iQ xd,iQ xe,iQ xf,iQ xg,iQ xh,iQ xi,iQ xj,iQ xk,iQ xl,iQ xm,iQ xn,iQ xo] 117)) xp)
theorem call142 {xa xb xc xd xe xf xg xh xi xj xk xl xm xn xo xp:Int} (H:F142 K h xa xb xc xd xe xf xg xh xi xj xk xl xm xn xo xp):A4 prog 142 #[(.agg #[(iQ xa),(iQ xb),(iQ xc),(iQ xd),(iQ xe),(iQ xf),(iQ xg),(iQ xh),(iQ xi),(iQ xj),(iQ xk),(iQ xl),(iQ xm),(iQ xn),(iQ xo)]),(iQ xp)] h K:=
 cQ Tryz.func142 H
abbrev g143 (K:kQ) (h H1:A2) (xa xb:Int):Prop:=
 (lI .i64 H1 ((aQ h.size).add 2) λa=>lI .i64 H1 ⟨h.size,8,none⟩ λb=>cf 138 #[lQ (some (aQ H1.size)) 2 2] (H1.push (oQ #[iQ xa,iQ 1,iQ a,iQ xb,iQ 0,iQ (wrap .i64 (b - 1))] 229)) λa b=>asBool a λa=>D4 (!a) (K (iQ (-1)) b) (lI .i64 b ⟨h.size,12,none⟩ λa=>lI .i64 b ⟨h.size,8,none⟩ λc=>K (iQ (wrap .i64 ((wrap .i64 (a+(wrap .i64 ((wrap .i64 (xa - 1))*c))))+xb))) b))
def F143 (K:kQ) (h:A2) (xa xb xc xd xe xf xg xh xi xj xk xl xm xn xo xp xq:Int):Prop:=
 (g143 K h (h.push (oQ #[iQ xa,iQ xb,iQ xc,iQ xd,iQ xe,iQ xf,iQ xg,iQ xh,iQ xi,iQ xj,iQ xk,iQ xl,iQ xm,iQ xn,iQ xo] 117)) xp xq)
theorem call143 {xa xb xc xd xe xf xg xh xi xj xk xl xm xn xo xp xq:Int} (H:F143 K h xa xb xc xd xe xf xg xh xi xj xk xl xm xn xo xp xq):A4 prog 143 #[(.agg #[(iQ xa),(iQ xb),(iQ xc),(iQ xd),(iQ xe),(iQ xf),(iQ xg),(iQ xh),(iQ xi),(iQ xj),(iQ xk),(iQ xl),(iQ xm),(iQ xn),(iQ xo)]),(iQ xp),(iQ xq)] h K:=
 cQ Tryz.func143 H
abbrev g232 (K:kQ) (h H1:A2) (xa xb:Int):Prop:=
 (R3 λI0=>(BO H1 h.size λa b c d e f g i j k l m n o p=>Gb prog 117 (.agg #[a,b,c,d,e,f,g,i,j,k,l,m,n,o,p]) (.agg AA) λa=>D4 a (I0 [dQ true] H1) (lI .i64 H1 ((aQ h.size).add 1) λa=>lI .i64 H1 ⟨h.size,7,none⟩ λb=>cf 138 #[lQ (some (aQ H1.size)) 2 2] (H1.push (oQ #[iQ xa,iQ 0,iQ (wrap .i64 (a - 1)),iQ xb,iQ 0,iQ (wrap .i64 (b - 1))] 229)) λa b=>asBool a λa=>I0 [dQ (!a)] b))/\(∀(a:vQ) (b:G4) (b:A2),(I0 [a] b)->(asBool a λa=>D4 a (K (iQ (-1)) b) (lI .i64 b ⟨h.size,10,none⟩ λa=>lI .i64 b ⟨h.size,7,none⟩ λc=>K (iQ (wrap .i64 ((wrap .i64 (a+(wrap .i64 (xa*c))))+xb))) b))))
def F232 (K:kQ) (h:A2) (xa xb xc xd xe xf xg xh xi xj xk xl xm xn xo xp xq:Int):Prop:=
 (g232 K h (h.push (oQ #[iQ xa,iQ xb,iQ xc,iQ xd,iQ xe,iQ xf,iQ xg,iQ xh,iQ xi,iQ xj,iQ xk,iQ xl,iQ xm,iQ xn,iQ xo] 117)) xp xq)
theorem call232 {xa xb xc xd xe xf xg xh xi xj xk xl xm xn xo xp xq:Int} (H:F232 K h xa xb xc xd xe xf xg xh xi xj xk xl xm xn xo xp xq):A4 prog 232 #[(.agg #[(iQ xa),(iQ xb),(iQ xc),(iQ xd),(iQ xe),(iQ xf),(iQ xg),(iQ xh),(iQ xi),(iQ xj),(iQ xk),(iQ xl),(iQ xm),(iQ xn),(iQ xo)]),(iQ xp),(iQ xq)] h K:=
 cQ Tryz.func232 H
abbrev g233 (K:kQ) (h H1:A2):Prop:=
 (lI .i64 H1 ⟨h.size,7,none⟩ λa=>K (iQ a) H1)
def F233 (K:kQ) (h:A2) (xa xb xc xd xe xf xg xh xi xj xk xl xm xn xo:Int):Prop:=
 (g233 K h (h.push (oQ #[iQ xa,iQ xb,iQ xc,iQ xd,iQ xe,iQ xf,iQ xg,iQ xh,iQ xi,iQ xj,iQ xk,iQ xl,iQ xm,iQ xn,iQ xo] 117)))
theorem call233 {xa xb xc xd xe xf xg xh xi xj xk xl xm xn xo:Int} (H:F233 K h xa xb xc xd xe xf xg xh xi xj xk xl xm xn xo):A4 prog 233 #[(.agg #[(iQ xa),(iQ xb),(iQ xc),(iQ xd),(iQ xe),(iQ xf),(iQ xg),(iQ xh),(iQ xi),(iQ xj),(iQ xk),(iQ xl),(iQ xm),(iQ xn),(iQ xo)])] h K:=
 cQ Tryz.func233 H
abbrev g207 (K:kQ) (h H1:A2) (xa:Int):Prop:=
 (R3 λI0=>(D4 (decide (xa < 0)) (I0 [dQ true] H1) (lI .i64 H1 ⟨h.size,14,none⟩ λa=>lI .i64 H1 ⟨h.size,13,none⟩ λb=>I0 [dQ (decide (xa >= (wrap .i64 (a - b))))] H1))/\(∀(a:vQ) (b:G4) (b:A2),(I0 [a] b)->(asBool a λa=>D4 a (K (iQ (-1)) b) (lI .i64 b ⟨h.size,13,none⟩ λa=>K (iQ (wrap .i64 (a+xa))) b))))
def F207 (K:kQ) (h:A2) (xa xb xc xd xe xf xg xh xi xj xk xl xm xn xo xp:Int):Prop:=
 (g207 K h (h.push (oQ #[iQ xa,iQ xb,iQ xc,iQ xd,iQ xe,iQ xf,iQ xg,iQ xh,iQ xi,iQ xj,iQ xk,iQ xl,iQ xm,iQ xn,iQ xo] 117)) xp)
theorem call207 {xa xb xc xd xe xf xg xh xi xj xk xl xm xn xo xp:Int} (H:F207 K h xa xb xc xd xe xf xg xh xi xj xk xl xm xn xo xp):A4 prog 207 #[(.agg #[(iQ xa),(iQ xb),(iQ xc),(iQ xd),(iQ xe),(iQ xf),(iQ xg),(iQ xh),(iQ xi),(iQ xj),(iQ xk),(iQ xl),(iQ xm),(iQ xn),(iQ xo)]),(iQ xp)] h K:=
 cQ Tryz.func207 H
abbrev g80 (K:kQ) (h H1:A2) (xa:Int):Prop:=
 (R3 λI0=>(D4 (decide (xa < 0)) (I0 [dQ true,dQ true] H1) (lI .i64 H1 ⟨h.size,14,none⟩ λa=>I0 [dQ (decide (xa >= a)),dQ (decide (xa >= a))] H1))/\(∀(a b:vQ) (c:G4) (c:A2),(I0 [a,b] c)->(asBool a λa=>D4 a (K (.tuple #[iQ 5,iQ 0,iQ 0]) c) (lI .i64 c ⟨h.size,10,none⟩ λa=>D4 (decide (xa < a)) (K (.tuple #[iQ 0,iQ xa,iQ 0]) c) (lI .i64 c ⟨h.size,11,none⟩ λa=>D4 (decide (xa < a)) (lI .i64 c ⟨h.size,10,none⟩ λa=>lI .i64 c ⟨h.size,7,none⟩ λb=>((b:Int)≠0)/\(lI .i64 c ⟨h.size,10,none⟩ λd=>lI .i64 c ⟨h.size,7,none⟩ λe=>((e:Int)≠0)/\(K (.tuple #[iQ 1,iQ (wrap .i64 (Int.tdiv (wrap .i64 (xa - a)) b)),iQ (Int.tmod (wrap .i64 (xa - d)) e)]) c))) (lI .i64 c ⟨h.size,12,none⟩ λa=>D4 (decide (xa < a)) (lI .i64 c ⟨h.size,11,none⟩ λa=>K (.tuple #[iQ 2,iQ (wrap .i64 ((wrap .i64 (xa - a))+1)),iQ 0]) c) (lI .i64 c ⟨h.size,13,none⟩ λa=>D4 (decide (xa < a)) (lI .i64 c ⟨h.size,12,none⟩ λa=>lI .i64 c ⟨h.size,8,none⟩ λb=>((b:Int)≠0)/\(lI .i64 c ⟨h.size,12,none⟩ λd=>lI .i64 c ⟨h.size,8,none⟩ λe=>((e:Int)≠0)/\(K (.tuple #[iQ 3,iQ (wrap .i64 ((wrap .i64 (Int.tdiv (wrap .i64 (xa - a)) b))+1)),iQ (Int.tmod (wrap .i64 (xa - d)) e)]) c))) (lI .i64 c ⟨h.size,13,none⟩ λa=>K (.tuple #[iQ 4,iQ (wrap .i64 (xa - a)),iQ 0]) c))))))))
def F80 (K:kQ) (h:A2) (xa xb xc xd xe xf xg xh xi xj xk xl xm xn xo xp:Int):Prop:=
 (g80 K h (h.push (oQ #[iQ xa,iQ xb,iQ xc,iQ xd,iQ xe,iQ xf,iQ xg,iQ xh,iQ xi,iQ xj,iQ xk,iQ xl,iQ xm,iQ xn,iQ xo] 117)) xp)
theorem call80 {xa xb xc xd xe xf xg xh xi xj xk xl xm xn xo xp:Int} (H:F80 K h xa xb xc xd xe xf xg xh xi xj xk xl xm xn xo xp):A4 prog 80 #[(.agg #[(iQ xa),(iQ xb),(iQ xc),(iQ xd),(iQ xe),(iQ xf),(iQ xg),(iQ xh),(iQ xi),(iQ xj),(iQ xk),(iQ xl),(iQ xm),(iQ xn),(iQ xo)]),(iQ xp)] h K:=
 cQ Tryz.func80 H
end
section
open Mod
variable {K:kQ} {h:A2}
abbrev T3:=Int × Int × Int
def Qj (x:T3):List vQ:=[iQ x.1,iQ x.2.1,iQ x.2.2]
theorem S18:∀x:T3,(Qj x).length=3:=λ_=>rfl
theorem S19 (x:T3):∀y ∈ Qj x,J0 y True:=by
 intro y hy
 simp only [Qj,ED,GF,or_false] at hy
 rcases hy with rfl | rfl | rfl <;> exact trivial
def Ut (x:T3):Bool:=decide (x.2.1<=x.1) && decide (x.1<=x.2.2)
theorem Tl4 {h:A2} {b:Nat} {v0 v1 v2:vQ} {K:A2->Prop} (H:OH h (aQ b) 0 [v0,v1,v2] K):C7 h (aQ b) v0 λh=>C7 h ⟨b,1,none⟩ v1 λh=>C7 h ⟨b,2,none⟩ v2 K:=H
theorem Ho {a:rQ} {l c:Nat} {L:List T3} (H:SX Qj h a l c L) (hl:l < 2 ^ 60) (k:∀h',G9 h.size h h'->K (dQ (L.all Ut)) h'):A4 prog 138 #[lQ a l c] h K:=by
 refine call138 ?_
 unfold F138 bd lI
 have hlen:=H.len
 refine ⟨λvs h'=>∃w,∃i:Nat,vs = [w,iv i]/\i<=l/\G9 h.size h h'/\(L.take i).all Ut=true,λvs _=>(match vs with | [_,.int _ n]=>l - n.toNat | _=>0),⟨_,0,rfl,T4 _,G9.refl _ _,rfl⟩,?_⟩
 rintro v2 v3 g4 h5 ⟨w,i,e,hi,o5,hall⟩
 cases e
 simp only [A5,Db]
 refine A6 (λhlt=>?_) (λhge=>?_)
 ·have hi':i < L.length:=by omega
  obtain ⟨ad,rfl,hc⟩:=SX.at S18 (by omega) (H.old o5) hi'
  have htk:(L.take (i+1)).all Ut=((L.take i).all Ut && Ut L[i]):=by rw [Ab hi',SD7];simp
  have hmem:L.all Ut=true->Ut L[i]=true:=λh=>MG.1 h _ (CD hi')
  generalize L[i]=x at *
  refine ⟨by omega,hlt,?_⟩
  simp only [D0,X5]
  refine C6 (hc 0 _ rfl) (C6 (hc 1 _ rfl) (C6 (hc 2 _ rfl) ?_))
  have p6:=G8 h5 (Qj (0,0,0)).toArray 229
  rw [show h5.push (oQ #[iQ 0,iQ 0,iQ 0] 229)=h5.push (oQ (Qj (0,0,0)).toArray 229) from rfl]
  generalize h5.push (oQ (Qj (0,0,0)).toArray 229)=h6 at *
  refine Tl4 (F5 (vs:=Qj x) p6.new rfl (S19 x) λh14 w14=>?_)
  have o14:G9 h5.size h5 h14:=w14.toOld p6.toOld (G0 _)
  have ok14:=o5.trans (o14.mono o5.1)
  refine ⟨λvs h'=>vs = [dQ (!Ut x)]/\h' = h14,?_,?_⟩
  ·refine C4 w14.new rfl ?_
   simp only [A5]
   refine C4 w14.new rfl ?_
   simp only [A5]
   apply A6<;>intro q
   ·refine ⟨?_,by trivial⟩
    unfold Ut
    rw [S4 (show ¬ x.2.1<=x.1 by omega)];rfl
   ·refine C4 w14.new rfl ?_
    simp only [A5]
    refine C4 w14.new rfl ?_
    simp only [A5]
    refine ⟨?_,by trivial⟩
    unfold Ut
    rw [V6 (show x.2.1<=x.1 by omega),FC]
    congr 2
    rw [<- decide_not,decide_eq_decide];omega
  rintro v24 g25 h26 ⟨e,rfl⟩
  cases e
  simp only [C0]
  apply D1<;>intro hq
  ·have:=k h26 ok14
   have e:L.all Ut=false:=by
    apply SD6
    intro h
    have:=hmem (by simpa using h)
    rw [this] at hq;cases hq
   rwa [e] at this
  ·rw [N8 (by omega)]
   exact ⟨⟨_,i+1,rfl,by omega,ok14,by rw [htk,hall];simpa using hq⟩,by show l - ((i+1:Nat):Int).toNat < l - (i:Int).toNat;omega⟩
 ·rw [Dg (by omega)] at hall
  have:=k h5 o5
  rwa [hall] at this
def Qk (c:Mod.Cf):List vQ:=[iQ c.algo,iQ c.threads,iQ c.nodes,iQ c.level,iQ c.batch,iQ c.probes,iQ c.scan]
abbrev Ed (p:Pl):List vQ:=[iQ p.c.algo,iQ p.c.threads,iQ p.c.nodes,iQ p.c.level,iQ p.c.batch,iQ p.c.probes,iQ p.c.scan,iQ p.slots,iQ p.width,iQ p.sent,iQ p.hazards,iQ p.links,iQ p.nodes,iQ p.tree,iQ p.size]
structure Ow (p:Pl):Prop where
 th:1<=p.c.threads/\p.c.threads<=6
 no:1<=p.c.nodes/\p.c.nodes<=64
 lv:1<=p.c.level/\p.c.level<=6
 sl:2<=p.slots/\p.slots<=14
 wi:3<=p.width/\p.width<=11
 se:0<=p.sent/\p.sent<=2
 hz:p.hazards=8
 li:8<=p.links/\p.links<=1000
 nd:p.links<=p.nodes/\p.nodes<=2000
 tr:p.nodes<=p.tree/\p.tree<=3000
 si:p.tree<=p.size/\p.size<=4000
abbrev iN (n:Int):Prop:=-9223372036854775808<=n/\n<=9223372036854775807
def Pc (p:Pl):vQ:=.agg #[iQ p.c.algo,iQ p.c.threads,iQ p.c.nodes,iQ p.c.level,iQ p.c.batch,iQ p.c.probes,iQ p.c.scan,iQ p.slots,iQ p.width,iQ p.sent,iQ p.hazards,iQ p.links,iQ p.nodes,iQ p.tree,iQ p.size]
theorem Hq (h:A2) (p:Pl):h.push (oQ #[iQ p.c.algo,iQ p.c.threads,iQ p.c.nodes,iQ p.c.level,iQ p.c.batch,iQ p.c.probes,iQ p.c.scan,iQ p.slots,iQ p.width,iQ p.sent,iQ p.hazards,iQ p.links,iQ p.nodes,iQ p.tree,iQ p.size] 117)=h.push (oQ (Ed p).toArray 117):=rfl
theorem R0 {p:Pl} {n f:Int} (B:Ow p) (hn:iN n) (hf:iN f) (k:∀h',G9 h.size h h'->K (iQ (p.node n f)) h'):A4 prog 143 #[Pc p,iQ n,iQ f] h K:=by
 refine call143 ?_
 unfold F143 g143 cf lI
 have b1:=B.no
 have b2:=B.wi
 have b3:=B.tr
 have b4:=B.nd
 have b5:=B.li
 rw [Hq]
 have p1:=G8 h (Ed p).toArray 117
 generalize h.push (oQ (Ed p).toArray 117)=h1 at *
 rw [E2]
 refine C4 p1.new rfl ?_
 simp only [A5]
 refine C4 p1.new rfl ?_
 simp only [A5]
 rw [E3 (n:=p.width - 1) (by omega) (by omega)]
 have p2:=G8 h1 ([((n,1,p.c.nodes):T3),(f,0,p.width - 1)].flatMap Qj).toArray 229
 rw [show h1.push (oQ #[iQ n,iQ 1,iQ p.c.nodes,iQ f,iQ 0,iQ (p.width - 1)] 229)=h1.push (oQ ([((n,1,p.c.nodes):T3),(f,0,p.width - 1)].flatMap Qj).toArray 229) from rfl]
 generalize h1.push (oQ ([((n,1,p.c.nodes):T3),(f,0,p.width - 1)].flatMap Qj).toArray 229)=h2 at *
 have o1:=p1.toOld
 have o2:=o1.trans (p2.toOld.mono o1.1)
 have S2:SX Qj h2 (some (aQ h1.size)) 2 2 [((n,1,p.c.nodes):T3),(f,0,p.width - 1)]:=⟨λj v hj=>⟨_,rfl,by rw [E2,E5 p2.new,EC,J6];exact hj⟩,rfl,G0 _⟩
 refine A0 (Ho S2 (by omega) λh5 o5=>?_)
 simp only [C0]
 have ok5:=o2.trans (o5.mono o2.1)
 have hs1:=p1.size
 have hs2:=p2.size
 have n5:=(o5.2 _ (show h.size < h2.size by omega)).trans ((p2.old _ (show h.size < h1.size by omega)).trans p1.new)
 have kk:=k h5 ok5
 unfold Pl.node at kk
 have hin:([((n,1,p.c.nodes):T3),(f,0,p.width - 1)].all Ut)=decide (1<=n/\n<=p.c.nodes/\0<=f/\f < p.width):=by
  simp only [Sk5,Sk6,Ut,Bool.and_true]
  rw [<- Xt,<- Xt,<- Xt,decide_eq_decide]
  omega
 rw [hin]
 by_cases hc:1<=n/\n<=p.c.nodes/\0<=f/\f < p.width
 ·rw [V6 hc]
  rw [A8 hc] at kk
  simp only [IV,E7]
  refine C4 n5 rfl ?_
  simp only [A5]
  refine C4 n5 rfl ?_
  simp only [A5]
  have hm:0<=(n - 1)*p.width/\(n - 1)*p.width<=63*11:=⟨QV (by omega) (by omega),OA (by omega) (by omega) (by omega) (by omega)⟩
  rw [E3 (n:=n - 1) (by omega) (by omega),E3 (n:=(n - 1)*p.width) (by omega) (by omega),E3 (n:=p.nodes+(n - 1)*p.width) (by omega) (by omega),E3 (by omega) (by omega)]
  exact kk
 ·rw [S4 hc]
  rw [A7 hc] at kk
  simp only [MF,G6]
  exact kk
theorem Hr {p:Pl} {n:Int} (B:Ow p) (hn:iN n) (k:∀h',G9 h.size h h'->K (iQ (p.link n)) h'):A4 prog 142 #[Pc p,iQ n] h K:=by
 refine call142 ?_
 unfold F142 g142 cf lI
 have b1:=B.no
 have b5:=B.li
 rw [Hq]
 have p1:=G8 h (Ed p).toArray 117
 generalize h.push (oQ (Ed p).toArray 117)=h1 at *
 rw [E2]
 refine C4 p1.new rfl ?_
 simp only [A5]
 have p2:=G8 h1 ([((n,1,p.c.nodes):T3)].flatMap Qj).toArray 229
 rw [show h1.push (oQ #[iQ n,iQ 1,iQ p.c.nodes] 229)=h1.push (oQ ([((n,1,p.c.nodes):T3)].flatMap Qj).toArray 229) from rfl]
 generalize h1.push (oQ ([((n,1,p.c.nodes):T3)].flatMap Qj).toArray 229)=h2 at *
 have o1:=p1.toOld
 have o2:=o1.trans (p2.toOld.mono o1.1)
 have S2:SX Qj h2 (some (aQ h1.size)) 1 1 [((n,1,p.c.nodes):T3)]:=⟨λj v hj=>⟨_,rfl,by rw [E2,E5 p2.new,EC,J6];exact hj⟩,rfl,G0 _⟩
 refine A0 (Ho S2 (by omega) λh5 o5=>?_)
 simp only [C0]
 have ok5:=o2.trans (o5.mono o2.1)
 have hs1:=p1.size
 have hs2:=p2.size
 have n5:=(o5.2 _ (show h.size < h2.size by omega)).trans ((p2.old _ (show h.size < h1.size by omega)).trans p1.new)
 have kk:=k h5 ok5
 unfold Pl.link at kk
 have hin:([((n,1,p.c.nodes):T3)].all Ut)=decide (1<=n/\n<=p.c.nodes):=by
  simp only [Sk5,Sk6,Ut,Bool.and_true]
  rw [<- Xt]
 rw [hin]
 by_cases hc:1<=n/\n<=p.c.nodes
 ·rw [V6 hc]
  rw [A8 hc] at kk
  simp only [IV,E7]
  refine C4 n5 rfl ?_
  simp only [A5]
  rw [E3 (n:=p.links+n) (by omega) (by omega),E3 (by omega) (by omega)]
  exact kk
 ·rw [S4 hc]
  rw [A7 hc] at kk
  simp only [MF,G6]
  exact kk
theorem Uu {p:Pl} {n:Int} (B:Ow p) (hn:iN n) (k:∀h',G9 h.size h h'->K (iQ (p.at n)) h'):A4 prog 207 #[Pc p,iQ n] h K:=by
 refine call207 ?_
 unfold F207 g207 lI
 have b3:=B.tr
 have b4:=B.nd
 have b5:=B.li
 have b6:=B.si
 rw [Hq]
 have p1:=G8 h (Ed p).toArray 117
 generalize h.push (oQ (Ed p).toArray 117)=h1 at *
 have kk:=k h1 p1.toOld
 unfold Pl.at at kk
 refine ⟨λvs h'=>vs = [dQ (!decide (0<=n/\n < p.size - p.tree))]/\h' = h1,?_,?_⟩
 ·refine A6 (λq=>⟨by rw [S4 (by omega)];rfl,by trivial⟩) (λq=>?_)
  refine C4 p1.new rfl ?_
  simp only [A5]
  refine C4 p1.new rfl ?_
  simp only [A5]
  rw [E3 (n:=p.size - p.tree) (by omega) (by omega)]
  refine ⟨?_,by trivial⟩
  congr 2
  rw [<- decide_not,decide_eq_decide];omega
 rintro v5 g6 h7 ⟨e,rfl⟩
 cases e
 simp only [C0]
 by_cases hc:0<=n/\n < p.size - p.tree
 ·rw [V6 hc]
  rw [A8 hc] at kk
  simp only [IV,E7]
  refine C4 p1.new rfl ?_
  simp only [A5]
  rw [E3 (by omega) (by omega)]
  exact kk
 ·rw [S4 hc]
  rw [A7 hc] at kk
  simp only [MF,G6]
  exact kk
theorem Bj {p:Pl} (k:∀h',G9 h.size h h'->K (iQ p.slots) h'):A4 prog 233 #[Pc p] h K:=by
 refine call233 ?_
 unfold F233 g233 lI
 rw [Hq]
 have p1:=G8 h (Ed p).toArray 117
 generalize h.push (oQ (Ed p).toArray 117)=h1 at *
 refine C4 p1.new rfl ?_
 simp only [A5]
 exact k _ p1.toOld
theorem Lt {p:Pl} (k:∀h',G9 h.size h h'->K (iQ p.sent) h'):A4 prog 104 #[Pc p] h K:=by
 refine call104 ?_
 unfold F104 g104 lI
 rw [Hq]
 have p1:=G8 h (Ed p).toArray 117
 generalize h.push (oQ (Ed p).toArray 117)=h1 at *
 refine C4 p1.new rfl ?_
 simp only [A5]
 exact k _ p1.toOld
theorem Uv {p:Pl} (k:∀h',G9 h.size h h'->K (iQ p.size) h'):A4 prog 100 #[Pc p] h K:=by
 refine call100 ?_
 unfold F100 g100 lI
 rw [Hq]
 have p1:=G8 h (Ed p).toArray 117
 generalize h.push (oQ (Ed p).toArray 117)=h1 at *
 refine C4 p1.new rfl ?_
 simp only [A5]
 exact k _ p1.toOld
theorem Td5 (p:Pl):eqv prog 10000 117 (.agg (Ed p).toArray) (.agg (List.replicate 15 (Value.int .i64 0)).toArray)=some (((p.c.algo == 0) && ((p.c.threads == 0) && ((p.c.nodes == 0) && ((p.c.level == 0) && ((p.c.batch == 0) && ((p.c.probes == 0) && ((p.c.scan == 0) && true))))))) && ((p.slots == 0) && ((p.width == 0) && ((p.sent == 0) && ((p.hazards == 0) && ((p.links == 0) && ((p.nodes == 0) && ((p.tree == 0) && ((p.size == 0) && true))))))))):=by kernel_rfl
theorem SK5:Tryz.prog.eqGuardType Tryz.prog.depth 117=false:=by kernel_rfl
theorem S20 {p:Pl} {K:Bool->Prop} (B:Ow p) (k:K false):Gb prog 117 (.agg #[iQ p.c.algo,iQ p.c.threads,iQ p.c.nodes,iQ p.c.level,iQ p.c.batch,iQ p.c.probes,iQ p.c.scan,iQ p.slots,iQ p.width,iQ p.sent,iQ p.hazards,iQ p.links,iQ p.nodes,iQ p.tree,iQ p.size]) (.agg AA) K:=by
 unfold Gb
 rw [SK5,A7 (by simp)]
 show (match eqv prog 10000 117 (.agg (Ed p).toArray) (.agg (List.replicate 15 (Value.int .i64 0)).toArray) with | some b=>K b | none=>False)
 rw [Td5]
 have h1:=B.th
 have e:(p.c.threads == 0)=false:=by rw [beq_eq_false_iff_ne];omega
 simp only [e,Mf,Bool.and_false]
 exact k
theorem BP {p:Pl} {t s:Int} (B:Ow p) (ht:iN t) (hs:iN s) (k:∀h',G9 h.size h h'->K (iQ (p.haz t s)) h'):A4 prog 232 #[Pc p,iQ t,iQ s] h K:=by
 refine call232 ?_
 unfold F232 g232 cf lI BO
 have b1:=B.th
 have b2:=B.sl
 have b3:=B.hz
 rw [Hq]
 have p1:=G8 h (Ed p).toArray 117
 generalize h.push (oQ (Ed p).toArray 117)=h1 at *
 have o1:=p1.toOld
 have hs1:=p1.size
 refine ⟨λvs h'=>vs = [dQ (!decide (0<=t/\t < p.c.threads/\0<=s/\s < p.slots))]/\G9 h.size h h'/\h'[h.size]? = some (oQ (Ed p).toArray 117),?_,?_⟩
 ·refine C4 p1.new rfl (C4 p1.new rfl (C4 p1.new rfl (C4 p1.new rfl (C4 p1.new rfl (C4 p1.new rfl (C4 p1.new rfl (C4 p1.new rfl (C4 p1.new rfl (C4 p1.new rfl (C4 p1.new rfl (C4 p1.new rfl (C4 p1.new rfl (C4 p1.new rfl (C4 p1.new rfl ?_))))))))))))))
  refine S20 B ?_
  simp only [E7]
  rw [E2]
  refine C4 p1.new rfl ?_
  simp only [A5]
  refine C4 p1.new rfl ?_
  simp only [A5]
  rw [E3 (n:=p.c.threads - 1) (by omega) (by omega),E3 (n:=p.slots - 1) (by omega) (by omega)]
  have p2:=G8 h1 ([((t,0,p.c.threads - 1):T3),(s,0,p.slots - 1)].flatMap Qj).toArray 229
  rw [show h1.push (oQ #[iQ t,iQ 0,iQ (p.c.threads - 1),iQ s,iQ 0,iQ (p.slots - 1)] 229)=h1.push (oQ ([((t,0,p.c.threads - 1):T3),(s,0,p.slots - 1)].flatMap Qj).toArray 229) from rfl]
  generalize h1.push (oQ ([((t,0,p.c.threads - 1):T3),(s,0,p.slots - 1)].flatMap Qj).toArray 229)=h2 at *
  have o2:=o1.trans (p2.toOld.mono o1.1)
  have S2:SX Qj h2 (some (aQ h1.size)) 2 2 [((t,0,p.c.threads - 1):T3),(s,0,p.slots - 1)]:=⟨λj v hj=>⟨_,rfl,by rw [E2,E5 p2.new,EC,J6];exact hj⟩,rfl,G0 _⟩
  have hs2:=p2.size
  refine A0 (Ho S2 (by omega) λh5 o5=>?_)
  simp only [C0]
  have hin:([((t,0,p.c.threads - 1):T3),(s,0,p.slots - 1)].all Ut)=decide (0<=t/\t < p.c.threads/\0<=s/\s < p.slots):=by
   simp only [Sk5,Sk6,Ut,Bool.and_true]
   rw [<- Xt,<- Xt,<- Xt,decide_eq_decide]
   omega
  rw [hin]
  exact ⟨rfl,o2.trans (o5.mono o2.1),(o5.2 _ (show h.size < h2.size by omega)).trans ((p2.old _ (show h.size < h1.size by omega)).trans p1.new)⟩
 rintro v24 g25 h26 ⟨e,o26,n26⟩
 cases e
 simp only [C0]
 have kk:=k h26 o26
 unfold Pl.haz at kk
 by_cases hc:0<=t/\t < p.c.threads/\0<=s/\s < p.slots
 ·rw [V6 hc]
  rw [A8 hc] at kk
  simp only [IV,E7]
  refine C4 n26 rfl ?_
  simp only [A5]
  refine C4 n26 rfl ?_
  simp only [A5]
  have hm:0<=t*p.slots/\t*p.slots<=5*14:=⟨QV (by omega) (by omega),OA (by omega) (by omega) (by omega) (by omega)⟩
  rw [E3 (n:=t*p.slots) (by omega) (by omega),E3 (n:=p.hazards+t*p.slots) (by omega) (by omega),E3 (by omega) (by omega)]
  exact kk
 ·rw [S4 hc]
  rw [A7 hc] at kk
  simp only [MF,G6]
  exact kk
theorem RE {p:Pl} {a:Int} (B:Ow p) (ha:iN a) (k1:∀n x h',p.within a=some n->G9 h.size h h'->K (.tuple #[iQ 3,iQ n,iQ x]) h') (k0:∀q n x h',p.within a=none->q≠3->G9 h.size h h'->K (.tuple #[iQ q,iQ n,iQ x]) h'):A4 prog 80 #[Pc p,iQ a] h K:=by
 refine call80 ?_
 unfold F80 g80 lI
 have b0:=B.sl
 have b1:=B.wi
 have b2:=B.hz
 have b3:=B.tr
 have b4:=B.nd
 have b5:=B.li
 have b6:=B.si
 have hwn:¬ (p.nodes<=a/\a < p.tree)->p.within a=none:=λh=>by unfold Pl.within;rw [A7 h]
 rw [Hq]
 have p1:=G8 h (Ed p).toArray 117
 generalize h.push (oQ (Ed p).toArray 117)=h1 at *
 have o1:=p1.toOld
 refine ⟨λvs h'=>(∃w,vs = [dQ (decide (a < 0) || decide (a >= p.size)),w])/\h' = h1,?_,?_⟩
 ·refine A6 (λq=>⟨⟨_,by rw [V6 q];rfl⟩,by trivial⟩) (λq=>?_)
  refine C4 p1.new rfl ?_
  simp only [A5]
  exact ⟨⟨_,by rw [S4 q,Oy]⟩,by trivial⟩
 rintro v3 v4 g5 h6 ⟨⟨_,e⟩,rfl⟩
 cases e
 simp only [C0]
 apply D1<;>intro q
 ·rw [Ku,EK,EK] at q
  exact k0 _ _ _ _ (hwn (by omega)) (by decide) o1
 rw [SD5,decide_eq_false_iff_not,decide_eq_false_iff_not] at q
 refine C4 p1.new rfl ?_
 simp only [A5]
 refine A6 (λq1=>k0 _ _ _ _ (hwn (by omega)) (by decide) o1) (λq1=>?_)
 refine C4 p1.new rfl ?_
 simp only [A5]
 apply A6<;>intro q2
 ·refine C4 p1.new rfl ?_
  simp only [A5]
  refine C4 p1.new rfl ?_
  simp only [A5]
  refine ⟨by omega,C4 p1.new rfl ?_⟩
  simp only [A5]
  refine C4 p1.new rfl ?_
  simp only [A5]
  exact ⟨by omega,k0 _ _ _ _ (hwn (by omega)) (by decide) o1⟩
 refine C4 p1.new rfl ?_
 simp only [A5]
 apply A6<;>intro q3
 ·refine C4 p1.new rfl ?_
  simp only [A5]
  exact k0 _ _ _ _ (hwn (by omega)) (by decide) o1
 refine C4 p1.new rfl ?_
 simp only [A5]
 apply A6<;>intro q4
 ·refine C4 p1.new rfl ?_
  simp only [A5]
  refine C4 p1.new rfl ?_
  simp only [A5]
  refine ⟨by omega,C4 p1.new rfl ?_⟩
  simp only [A5]
  refine C4 p1.new rfl ?_
  simp only [A5]
  refine ⟨by omega,?_⟩
  have hw:p.within a=some ((a - p.nodes) / p.width+1):=by unfold Pl.within;rw [A8 ⟨by omega,by omega⟩]
  have hd0:0<=(a - p.nodes) / p.width:=Sk2 (by omega) (by omega)
  have hd1:(a - p.nodes) / p.width<=a - p.nodes:=Sk1 _ (by omega)
  rw [E3 (n:=a - p.nodes) (by omega) (by omega),Sk3 (by omega),E3 (n:=(a - p.nodes) / p.width) (by omega) (by omega),E3 (by omega) (by omega)]
  exact k1 _ _ _ hw o1
 ·refine C4 p1.new rfl ?_
  simp only [A5]
  exact k0 _ _ _ _ (hwn (by omega)) (by decide) o1
end
section
set_option maxRecDepth 100000
variable {K:kQ} {h:A2}
def F33 (K:kQ) (h:A2) (xa:rQ):Prop:=
 (D4 (Option.isNone xa) (K (iQ 0) h) (nP xa λa=>lI .i64 h (a.add 1) λa=>K (iQ a) h))
theorem call33 {xa:rQ} (H:F33 K h xa):A4 prog 33 #[(pQ xa)] h K:=
 cQ Tryz.func33 H
def F99 (K:kQ) (h:A2) (xa:Int):Prop:=
 (R3 λI0=>(D4 (decide (xa < 1)) (I0 [dQ true] h) (I0 [dQ (decide (xa > 4096))] h))/\(∀(a:vQ) (b:G4) (b:A2),(I0 [a] b)->(asBool a λa=>D4 a (K (.tuple #[pQ none,iQ 2]) b) (Y2 prog 178 xa xa b λa b=>D3 a λa c d=>K (.tuple #[pQ (some (aQ b.size)),iQ 0]) (b.push (oQ #[lQ a c d,iQ 0,dQ false,lQ none 0 0] 126))))))
theorem call99 {xa:Int} (H:F99 K h xa):A4 prog 99 #[(iQ xa)] h K:=
 cQ Tryz.func99 H
def F103 (K:kQ) (h:A2) (xa xb:Int):Prop:=
 (R3 λI0=>(R3 λI1=>(D4 (decide (xa < 1)) (I1 [dQ true] h) (I1 [dQ (decide (xa > 64))] h))/\(∀(a:vQ) (b:G4) (b:A2),(I1 [a] b)->(asBool a λa=>D4 a (I0 [iQ 0] b) (I0 [iQ xa] b))))/\(∀(a:vQ) (b:G4) (b:A2),(I0 [a] b)->(asInt .i64 a λc=>Y2 prog 3 c c b λb c=>D3 b λb d e=>W3 (λf g=>Hc f g) prog 3 [iQ xb,iQ 0] λf=>asInt .i64 a λa=>W3 (λg i=>JB g i) prog 3 [iQ f,iQ a] λa=>R3 λI22=>GI λm23=>(I22 [tQ,iQ 0] (c.push (oQ #[lQ b d e,iQ 0,iQ 0] 213)))/\(∀(b d:vQ) (e:G4) (e:A2),(I22 [b,d] e)->(asInt .i64 d λf=>D4 (decide (f < a)) (asInt .i64 d λa=>G5 (pQ (some (aQ c.size))) (lS e (aQ c.size) λf g i=>bd a (g:Int) (F3 (pQ f) λf=>C7 e (f.add (a.toNat*1)) (iQ 1) λf=>asInt .i64 d λg=>(I22 [iQ a,iQ (wrap .i64 (g+1))] f)/\((m23 [iQ a,iQ (wrap .i64 (g+1))] f) < (m23 [b,d] e))))) (K (pQ (some (aQ c.size))) e))))))
theorem call103 {xa xb:Int} (H:F103 K h xa xb):A4 prog 103 #[(iQ xa),(iQ xb)] h K:=
 cQ Tryz.func103 H
def F140 (K:kQ) (h:A2) (xa:rQ) (xb xc:Int):Prop:=
 (cf 204 #[pQ xa,lQ (some (aQ h.size)) 1 1] (h.push (oQ #[iQ xb] 3)) λa b=>asInt .i64 a λa=>D4 (a != 0) (K (iQ a) b) (cf 205 #[pQ xa,.agg #[iQ 1,iQ xb,iQ (-1),dQ true]] b λa a=>nP xa λb=>lS a b λb c d=>bd xb (c:Int) (F3 (pQ b) λb=>C7 a (b.add (xb.toNat*1)) (uQ xc) λa=>K (iQ 0) a)))
theorem call140 {xa:rQ} {xb xc:Int} (H:F140 K h xa xb xc):A4 prog 140 #[(pQ xa),(iQ xb),(uQ xc)] h K:=
 cQ Tryz.func140 H
abbrev g72 (K:kQ) (h H1:A2) (xa:rQ):Prop:=
 (D4 (Option.isNone xa) (dw2 H1 h.size (iQ 0) (iQ 0) λa=>Rt a h.size λb c=>K (.agg #[b,c]) a) (nP xa λa=>D2 H1 (a.add 1) λb=>D2 H1 (a.add 2) λa=>dw2 H1 h.size b a λa=>Rt a h.size λb c=>K (.agg #[b,c]) a))
def F72 (K:kQ) (h:A2) (xa:rQ):Prop:=
 (g72 K h (h.push (oQ #[iQ 0,iQ 0] 133)) xa)
theorem call72 {xa:rQ} (H:F72 K h xa):A4 prog 72 #[(pQ xa)] h K:=
 cQ Tryz.func72 H
def F204 (K:kQ) (h:A2) (xa xb:rQ) (xc xd:Nat):Prop:=
 (D4 (Option.isNone xa) (K (iQ 1) h) (R3 λI0=>GI λm1=>(I0 [iQ 0,tQ,iQ 0] h)/\(∀(a b c:vQ) (d:G4) (d:A2),(I0 [a,b,c] d)->(asInt .i64 c λe=>D4 (decide (e < ((xc:Nat):Int))) (Il c λe=>bd e ((xc:Nat):Int) (F3 (pQ xb) λf=>lI .i64 d (f.add (e.toNat*1)) λe=>R3 λI12=>(D4 (decide (e < 0)) (I12 [dQ true] d) (nP xa λf=>lS d f λf f g=>I12 [dQ (decide (e >= (f:Int)))] d))/\(∀(f:vQ) (g:G4) (g:A2),(I12 [f] g)->(asBool f λf=>D4 f (K (iQ 2) g) (asInt .i64 c λf=>(I0 [a,iQ e,iQ (wrap .i64 (f+1))] g)/\((m1 [a,iQ e,iQ (wrap .i64 (f+1))] g) < (m1 [a,b,c] d))))))) (K (iQ 0) d)))))
theorem call204 {xa xb:rQ} {xc xd:Nat} (H:F204 K h xa xb xc xd):A4 prog 204 #[(pQ xa),(lQ xb xc xd)] h K:=
 cQ Tryz.func204 H
abbrev g205 (K:kQ) (h H1:A2) (xa:rQ):Prop:=
 (nP xa λa=>lI .i64 H1 (a.add 1) λa=>nP xa λb=>C7 H1 (b.add 1) (iQ (wrap .i64 (a+1))) λa=>nP xa λb=>D2 a (b.add 2) λb=>asBool b λb=>D4 b (nP xa λb=>D2 a (b.add 3) λc=>D3 c λd e f=>dl4 a h.size λg i j k=>((A3 (a.push (oQ #[g,i,j,k] 144)) (b.add 3))=(some c))/\(U4 prog #[124,124] 124 #[lQ d e f,lQ (some (aQ a.size)) 1 1] (a.push (oQ #[g,i,j,k] 144)) λb c=>D3 b λb d e=>nP xa λf=>C7 c (f.add 3) (lQ b d e) λb=>K tQ b)) (K tQ a))
def F205 (K:kQ) (h:A2) (xa:rQ) (xb xc xd:Int) (xe:Bool):Prop:=
 (g205 K h (h.push (oQ #[iQ xb,iQ xc,iQ xd,dQ xe] 144)) xa)
theorem call205 {xa:rQ} {xb xc xd:Int} {xe:Bool} (H:F205 K h xa xb xc xd xe):A4 prog 205 #[(pQ xa),(.agg #[(iQ xb),(iQ xc),(iQ xd),(dQ xe)])] h K:=
 cQ Tryz.func205 H
def F209 (K:kQ) (h:A2) (xa:rQ) (xb:Int):Prop:=
 (cf 204 #[pQ xa,lQ (some (aQ h.size)) 1 1] (h.push (oQ #[iQ xb] 3)) λa b=>asInt .i64 a λa=>D4 (a != 0) (K (.tuple #[uQ 0,iQ a]) b) (cf 205 #[pQ xa,.agg #[iQ 0,iQ xb,iQ (-1),dQ false]] b λa a=>nP xa λb=>lS a b λb c d=>bd xb (c:Int) (F3 (pQ b) λb=>lI .u64 a (b.add (xb.toNat*1)) λb=>K (.tuple #[uQ b,iQ 0]) a)))
theorem call209 {xa:rQ} {xb:Int} (H:F209 K h xa xb):A4 prog 209 #[(pQ xa),(iQ xb)] h K:=
 cQ Tryz.func209 H
def F272 (K:kQ) (h:A2) (xa:rQ) (xb xc:Int):Prop:=
 (cf 204 #[pQ xa,lQ (some (aQ h.size)) 1 1] (h.push (oQ #[iQ xb] 3)) λa b=>asInt .i64 a λa=>D4 (a != 0) (K (.tuple #[uQ 0,iQ a]) b) (cf 205 #[pQ xa,.agg #[iQ 3,iQ xb,iQ (-1),dQ true]] b λa a=>nP xa λb=>lS a b λb c d=>bd xb (c:Int) (F3 (pQ b) λb=>lI .u64 a (b.add (xb.toNat*1)) λb=>nP xa λc=>lS a c λc d e=>bd xb (d:Int) (F3 (pQ c) λe=>lI .u64 a (e.add (xb.toNat*1)) λe=>bd xb (d:Int) (F3 (pQ c) λc=>C7 a (c.add (xb.toNat*1)) (uQ (wrap .u64 (e+xc))) λa=>K (.tuple #[uQ b,iQ 0]) a)))))
theorem call272 {xa:rQ} {xb xc:Int} (H:F272 K h xa xb xc):A4 prog 272 #[(pQ xa),(iQ xb),(uQ xc)] h K:=
 cQ Tryz.func272 H
def F281 (K:kQ) (h:A2) (xa:rQ) (xb xc xd:Int):Prop:=
 (cf 204 #[pQ xa,lQ (some (aQ h.size)) 1 1] (h.push (oQ #[iQ xb] 3)) λa b=>asInt .i64 a λa=>D4 (a != 0) (K (.tuple #[dQ false,iQ a]) b) (nP xa λa=>lS b a λa c d=>bd xb (c:Int) (F3 (pQ a) λa=>lI .u64 b (a.add (xb.toNat*1)) λa=>R3 λI11=>(D4 (a == xc) (nP xa λc=>lS b c λc d e=>bd xb (d:Int) (F3 (pQ c) λc=>C7 b (c.add (xb.toNat*1)) (uQ xd) λc=>I11 [] c)) (I11 [] b))/\(∀(b:G4) (b:A2),(I11 [] b)->(cf 205 #[pQ xa,.agg #[iQ 2,iQ xb,iQ (-1),dQ (a == xc)]] b λb b=>K (.tuple #[dQ (a == xc),iQ 0]) b)))))
theorem call281 {xa:rQ} {xb xc xd:Int} (H:F281 K h xa xb xc xd):A4 prog 281 #[(pQ xa),(iQ xb),(uQ xc),(uQ xd)] h K:=
 cQ Tryz.func281 H
def F279 (K:kQ) (h:A2) (xa:rQ) (xb:Int):Prop:=
 (R3 λI0=>(D4 (Option.isNone xa) (I0 [dQ true,dQ true,dQ true] h) (D4 (decide (xb < 1)) (I0 [dQ true,dQ (decide (xb < 1)),dQ true] h) (nP xa λa=>lS h a λa a b=>I0 [dQ (decide (xb > (a:Int))),dQ (decide (xb < 1)),dQ (decide (xb > (a:Int)))] h)))/\(∀(a b c:vQ) (d:G4) (d:A2),(I0 [a,b,c] d)->(asBool a λa=>D4 a (cf 300 #[pQ xa,iQ 5,iQ xb] d λa b=>asBool a λa=>K (dQ a) b) (nP xa λa=>lS d a λa b c=>((0:Int)<=(wrap .i64 (xb - 1)))/\((((wrap .i64 (xb - 1)):Int) < (b:Int))/\(F3 (pQ a) λa=>D2 d (a.add ((wrap .i64 (xb - 1)).toNat*1)) λa=>asInt .i64 a λa=>D4 (a == 0) (cf 300 #[pQ xa,iQ 4,iQ xb] d λa b=>asBool a λa=>K (dQ a) b) (K (dQ true) d)))))))
theorem call279 {xa:rQ} {xb:Int} (H:F279 K h xa xb):A4 prog 279 #[(pQ xa),(iQ xb)] h K:=
 cQ Tryz.func279 H
def F284 (K:kQ) (h:A2) (xa:rQ) (xb xc xd xe xf:Int):Prop:=
 (cf 204 #[pQ xa,lQ (some (aQ h.size)) 2 2] (h.push (oQ #[iQ xb,iQ xe] 3)) λa b=>asInt .i64 a λa=>D4 (a != 0) (K (.tuple #[dQ false,iQ a]) b) (R3 λI3=>(nP xa λa=>lS b a λa c d=>bd xb (c:Int) (F3 (pQ a) λa=>lI .u64 b (a.add (xb.toNat*1)) λa=>D4 (a == xc) (nP xa λa=>lS b a λa c d=>bd xe (c:Int) (F3 (pQ a) λa=>lI .u64 b (a.add (xe.toNat*1)) λa=>I3 [dQ (a == xf),dQ (a == xf)] b)) (I3 [dQ false,dQ false] b)))/\(∀(a b:vQ) (c:G4) (c:A2),(I3 [a,b] c)->(R3 λI24=>(asBool a λb=>D4 b (nP xa λb=>lS c b λb d e=>bd xb (d:Int) (F3 (pQ b) λb=>C7 c (b.add (xb.toNat*1)) (uQ xd) λb=>I24 [] b)) (I24 [] c))/\(∀(b:G4) (b:A2),(I24 [] b)->(asBool a λc=>cf 205 #[pQ xa,.agg #[iQ 5,iQ xb,iQ xe,dQ c]] b λb b=>asBool a λa=>K (.tuple #[dQ a,iQ 0]) b))))))
theorem call284 {xa:rQ} {xb xc xd xe xf:Int} (H:F284 K h xa xb xc xd xe xf):A4 prog 284 #[(pQ xa),(iQ xb),(uQ xc),(uQ xd),(iQ xe),(uQ xf)] h K:=
 cQ Tryz.func284 H
def F286 (K:kQ) (h:A2) (xa:rQ) (xb xc xd xe xf xg:Int):Prop:=
 (cf 204 #[pQ xa,lQ (some (aQ h.size)) 2 2] (h.push (oQ #[iQ xb,iQ xe] 3)) λa b=>asInt .i64 a λa=>D4 (a != 0) (K (.tuple #[dQ false,iQ a]) b) (D4 (xb == xe) (K (.tuple #[dQ false,iQ 2]) b) (R3 λI3=>(nP xa λa=>lS b a λa c d=>bd xb (c:Int) (F3 (pQ a) λa=>lI .u64 b (a.add (xb.toNat*1)) λa=>D4 (a == xc) (nP xa λa=>lS b a λa c d=>bd xe (c:Int) (F3 (pQ a) λa=>lI .u64 b (a.add (xe.toNat*1)) λa=>I3 [dQ (a == xf),dQ (a == xf)] b)) (I3 [dQ false,dQ false] b)))/\(∀(a b:vQ) (c:G4) (c:A2),(I3 [a,b] c)->(R3 λI24=>(asBool a λb=>D4 b (nP xa λb=>lS c b λb d e=>nP xa λe=>lS c e λe f g=>bd xb (d:Int) (F3 (pQ b) λb=>C7 c (b.add (xb.toNat*1)) (uQ xd) λb=>bd xe (f:Int) (F3 (pQ e) λd=>C7 b (d.add (xe.toNat*1)) (uQ xg) λb=>I24 [] b))) (I24 [] c))/\(∀(b:G4) (b:A2),(I24 [] b)->(asBool a λc=>cf 205 #[pQ xa,.agg #[iQ 4,iQ xb,iQ xe,dQ c]] b λb b=>asBool a λa=>K (.tuple #[dQ a,iQ 0]) b)))))))
theorem call286 {xa:rQ} {xb xc xd xe xf xg:Int} (H:F286 K h xa xb xc xd xe xf xg):A4 prog 286 #[(pQ xa),(iQ xb),(uQ xc),(uQ xd),(iQ xe),(uQ xf),(uQ xg)] h K:=
 cQ Tryz.func286 H
def F288 (K:kQ) (h:A2) (xa:rQ) (xb:Int):Prop:=
 (cf 302 #[pQ xa,iQ xb,iQ 1,iQ 2,iQ 2] h λa b=>asBool a λa=>K (dQ a) b)
theorem call288 {xa:rQ} {xb:Int} (H:F288 K h xa xb):A4 prog 288 #[(pQ xa),(iQ xb)] h K:=
 cQ Tryz.func288 H
def F300 (K:kQ) (h:A2) (xa:rQ) (xb xc:Int):Prop:=
 (R3 λI0=>(D4 (!(Option.isNone xa)) (nP xa λa=>D2 h (a.add 1) λb=>D2 h (a.add 2) λa=>Gb prog 133 (.agg #[b,a]) (.agg #[iQ 0,iQ 0]) λa=>I0 [dQ a] h) (I0 [dQ false] h))/\(∀(a:vQ) (b:G4) (b:A2),(I0 [a] b)->(asBool a λa=>D4 a (nP xa λa=>C7 b (a.add 1) (iQ xb) λc=>C7 c (a.add 2) (iQ xc) λa=>K (dQ false) a) (K (dQ false) b))))
theorem call300 {xa:rQ} {xb xc:Int} (H:F300 K h xa xb xc):A4 prog 300 #[(pQ xa),(iQ xb),(iQ xc)] h K:=
 cQ Tryz.func300 H
def F302 (K:kQ) (h:A2) (xa:rQ) (xb xc xd xe:Int):Prop:=
 (R3 λI0=>(D4 (Option.isNone xa) (I0 [dQ true,dQ true,dQ true] h) (D4 (decide (xb < 1)) (I0 [dQ true,dQ (decide (xb < 1)),dQ true] h) (nP xa λa=>lS h a λa a b=>I0 [dQ (decide (xb > (a:Int))),dQ (decide (xb < 1)),dQ (decide (xb > (a:Int)))] h)))/\(∀(a b c:vQ) (d:G4) (d:A2),(I0 [a,b,c] d)->(asBool a λa=>D4 a (cf 300 #[pQ xa,iQ 5,iQ xb] d λa b=>asBool a λa=>K (dQ a) b) (nP xa λa=>lS d a λa b c=>((0:Int)<=(wrap .i64 (xb - 1)))/\((((wrap .i64 (xb - 1)):Int) < (b:Int))/\(F3 (pQ a) λa=>D2 d (a.add ((wrap .i64 (xb - 1)).toNat*1)) λa=>asInt .i64 a λa=>D4 (a != xc) (cf 300 #[pQ xa,iQ xe,iQ xb] d λa b=>asBool a λa=>K (dQ a) b) (nP xa λa=>lS d a λa b c=>((0:Int)<=(wrap .i64 (xb - 1)))/\((((wrap .i64 (xb - 1)):Int) < (b:Int))/\(F3 (pQ a) λa=>C7 d (a.add ((wrap .i64 (xb - 1)).toNat*1)) (iQ xd) λa=>K (dQ true) a)))))))))
theorem call302 {xa:rQ} {xb xc xd xe:Int} (H:F302 K h xa xb xc xd xe):A4 prog 302 #[(pQ xa),(iQ xb),(iQ xc),(iQ xd),(iQ xe)] h K:=
 cQ Tryz.func302 H
def F306 (K:kQ) (h:A2) (xa:rQ) (xb:Int):Prop:=
 (cf 302 #[pQ xa,iQ xb,iQ 0,iQ 1,iQ 1] h λa b=>asBool a λa=>K (dQ a) b)
theorem call306 {xa:rQ} {xb:Int} (H:F306 K h xa xb):A4 prog 306 #[(pQ xa),(iQ xb)] h K:=
 cQ Tryz.func306 H
def F307 (K:kQ) (h:A2) (xa:rQ) (xb:Int):Prop:=
 (cf 302 #[pQ xa,iQ xb,iQ 2,iQ 0,iQ 3] h λa b=>asBool a λa=>K (dQ a) b)
theorem call307 {xa:rQ} {xb:Int} (H:F307 K h xa xb):A4 prog 307 #[(pQ xa),(iQ xb)] h K:=
 cQ Tryz.func307 H
end
section
open Mod
variable {K:kQ} {h:A2}
def V7 (w:List Int):List vQ:=w.map λn=>uQ n
def Fw (x:Acc):List vQ:=[iQ x.kind,iQ x.a,iQ x.b,dQ x.done]
theorem Nq:∀x:Acc,(Fw x).length=4:=λ_=>rfl
abbrev Uw (b:Nat) (la:rQ) (lc:Nat) (m:Mm):List vQ:=[lQ (some (aQ b)) m.w.length m.w.length,iQ m.st,dQ m.wt,lQ la m.lg.length lc]
structure MmB (m:Mm):Prop where
 len:m.w.length<=4096
 st:0<=m.st
 lg:(m.lg.length:Int)<=m.st
 us:∀v ∈ m.w,U v
def R7 (q:Nat) (m:Mm):Hp:=ex λb=>ex λla=>ex λlc=>pr (MmB m) (pt q (oQ (Uw b la lc m).toArray 126)*(pt b (oQ (V7 m.w).toArray 178)*E8 144 4 la m.lg.length lc (m.lg.flatMap Fw)))
theorem Ar {h:A2} {q:Nat} {m:Mm} {R:Hp}:A9 h (R7 q m*R)↔∃b la lc,MmB m/\A9 h (pt q (oQ (Uw b la lc m).toArray 126)*(pt b (oQ (V7 m.w).toArray 178)*(E8 144 4 la m.lg.length lc (m.lg.flatMap Fw)*R))):=by
 unfold R7
 simp only [A9.ex,A9.pr,F2]
theorem SK6 {h:A2} {q:Nat} {m:Mm} {R:Hp} (H:A9 h (R7 q m*R)):MmB m:=by obtain ⟨_,_,_,x,_⟩:=Ar.1 H;exact x
theorem Nr {w:List Int} (h:∀v ∈ w,U v) (i:Nat):U (w.getD i 0):=by
 rw [An]
 cases e:w[i]? with
 | none=>exact ⟨by simp,by simp⟩
 | some v=>exact h v (OF e)
theorem MmB.get {m:Mm} (B:MmB m) (a:Int):U (m.get a):=Nr B.us _
theorem Ak {P:Int->Prop} {w:List Int} {i:Nat} {v:Int} (h:∀x ∈ w,P x) (hv:P v):∀x ∈ w.set i v,P x:=λx hx=>by
 rcases S00 hx with h1 | h1
 ·exact h x h1
 ·rw [h1];exact hv
theorem MmB.put {m:Mm} (B:MmB m) {a v:Int} (hv:U v):MmB (m.put a v):=⟨by unfold Mm.put;rw [Ca];exact B.len,B.st,B.lg,Ak B.us hv⟩
theorem MmB.tick {m:Mm} (B:MmB m) (k a b:Int) (d:Bool):MmB (m.tick k a b d):=by
 have:=B.st
 have h2:=B.lg
 refine ⟨B.len,by unfold Mm.tick;simp only;omega,?_,B.us⟩
 unfold Mm.tick
 simp only
 split
 ·rw [DK];simp;omega
 ·omega
theorem SK7 {h:A2} {b:Nat} {w:List Int} {t:TypeId} (e:h[b]? = some (oQ (V7 w).toArray t)) {a:Int} (h0:0<=a) (h1:a < w.length):A3 h ⟨b,a.toNat,none⟩=some (uQ (w.getD a.toNat 0)):=by
 rw [E5 e,EC]
 unfold V7
 rw [FD,X7 (by omega),An,X7 (by omega)]
 rfl
theorem Dv {h:A2} {b i:Nat} {v:vQ} {row:List vQ} {t:TypeId} {R:Hp} {K:A2->Prop} (H:A9 h (pt b (oQ row.toArray t)*R)) (hi:i < row.length) (ho:J0 v True)
  (k:∀h',A9 h' (pt b (oQ (row.set i v).toArray t)*R)->K h'):C7 h ⟨b,i,none⟩ v K:=
 H.st (by rw [Ld];exact hi) ho k
theorem S21:Be prog 124=.slice 144:=by kernel_rfl
theorem So7:L0 prog 144=true:=by kernel_rfl
theorem S22:GZ prog 144=some (.agg #[iQ 0,iQ 0,iQ 0,dQ false]):=by kernel_rfl
theorem Mu:M2 prog 144=4:=by kernel_rfl
theorem Sg2:EL prog 144=32:=by kernel_rfl
theorem BT {q wl wc:Nat} {wa a:rQ} {l c:Nat} {L:List Int} (H:A3 h (aQ q)=some (lQ wa wl wc)) (R:RI h a l c L) (hl:l < 2 ^ 60) (k:K (iQ (if L.all (λx=>decide (0<=x/\x < wl)) then 0 else 2)) h) :
  A4 prog 204 #[pQ (some (aQ q)),lQ a l c] h K:=by
 refine call204 ?_
 unfold F204 bd lS lI nP
 have hlen:=R.len
 simp only [Dh,E7]
 generalize hok:(λx:Int=>decide (0<=x/\x < (wl:Int)))=ok at *
 refine ⟨λvs h'=>∃w1 w2,∃i:Nat,vs = [w1,w2,iv i]/\i<=l/\h' = h/\(L.take i).all ok=true,λvs _=>(match vs with | [_,_,.int _ n]=>l - n.toNat | _=>0),⟨_,_,0,rfl,T4 _,rfl,rfl⟩,?_⟩
 rintro v2 v3 v4 g5 h6 ⟨w1,w2,i,e,hi,rfl,hall⟩
 cases e
 simp only [A5,Db]
 refine A6 (λhlt=>?_) (λhge=>?_)
 ·have hi':i < L.length:=by omega
  obtain ⟨ad,rfl,hc⟩:=R.at hi'
  have htk:(L.take (i+1)).all ok=((L.take i).all ok && ok L[i]):=by rw [Ab hi',SD7];simp
  have hmem:L.all ok=true->ok L[i]=true:=λh=>MG.1 h _ (CD hi')
  generalize L[i]=x at *
  refine ⟨by omega,hlt,?_⟩
  simp only [D0,X5,BQ]
  refine C6 hc ?_
  simp only [A5]
  refine ⟨λvs h'=>vs = [dQ (!ok x)]/\h' = h6,?_,?_⟩
  ·refine A6 (λq=>⟨by rw [<- hok];simp only;rw [S4 (by omega)];rfl,by trivial⟩) (λq=>?_)
   simp only [G5,D0]
   refine C6 H ?_
   simp only [D6]
   refine ⟨?_,by trivial⟩
   rw [<- hok]
   simp only
   congr 2
   rw [<- decide_not,decide_eq_decide];omega
  rintro v18 g19 h20 ⟨e,rfl⟩
  cases e
  simp only [C0]
  apply D1<;>intro hq
  ·have e:L.all ok=false:=by
    apply SD6
    intro h
    have:=hmem (by simpa using h)
    rw [this] at hq;cases hq
   rw [e] at k
   exact k
  ·rw [N8 (by omega)]
   exact ⟨⟨_,_,i+1,rfl,by omega,by trivial,by rw [htk,hall];simpa using hq⟩,by show l - ((i+1:Nat):Int).toNat < l - (i:Int).toNat;omega⟩
 ·rw [Dg (by omega)] at hall
  rw [hall] at k
  exact k
theorem BV {q:Nat} {m:Mm} {R:Hp} {x0 x1 x2:Int} {x3:Bool} (H:A9 h (R7 q m*R)) (hs:m.st < 1099511627776) (k:∀h',A9 h' (R7 q (m.tick x0 x1 x2 x3)*R)->K tQ h') :
  A4 prog 205 #[pQ (some (aQ q)),.agg #[iQ x0,iQ x1,iQ x2,dQ x3]] h K:=by
 refine call205 ?_
 unfold F205 g205 lI nP dl4
 simp only [G5,D0,E2]
 obtain ⟨b,la,lc,B,H0⟩:=Ar.1 H
 have Bst:=B.st
 have Blg:=B.lg
 have H1:=H0.push (oQ #[iQ x0,iQ x1,iQ x2,dQ x3] 144)
 generalize h.push (oQ #[iQ x0,iQ x1,iQ x2,dQ x3] 144)=h1 at *
 generalize h.size=N at *
 rw [D8] at H1
 refine H1.ld rfl ?_
 simp only [A5]
 rw [E3 (by omega) (by omega)]
 refine H1.st rfl trivial λh4 H4=>?_
 refine H4.ld rfl ?_
 simp only [C0]
 have kT:∀h',(∃b la lc,A9 h' (pt q (oQ (Uw b la lc (m.tick x0 x1 x2 x3)).toArray 126)*(pt b (oQ (V7 m.w).toArray 178)*(E8 144 4 la (m.tick x0 x1 x2 x3).lg.length lc ((m.tick x0 x1 x2 x3).lg.flatMap Fw)*R))))->K tQ h':=λh' ⟨b,la,lc,H'⟩=>
  k h' (Ar.2 ⟨b,la,lc,B.tick x0 x1 x2 x3,H'⟩)
 unfold Mm.tick at kT
 cases hw:m.wt with
 | false=>
  simp only [E7]
  simp only [hw,Cd,if_false] at kT
  exact kT h4 ⟨b,la,lc,by simpa [hw] using H4.drop2⟩
 | true=>
  simp only [G6]
  simp only [hw,if_true] at kT
  refine H4.ld rfl ?_
  simp only [D6]
  have HN:A9 h4 _:=(D8 _ _ _ ▸ H4)
  refine HN.ld rfl (HN.ld rfl (HN.ld rfl (HN.ld rfl ?_)))
  have H5:=H4.push (oQ #[iQ x0,iQ x1,iQ x2,dQ x3] 144)
  generalize h4.push (oQ #[iQ x0,iQ x1,iQ x2,dQ x3] 144)=h5 at *
  generalize h4.size=N4 at *
  refine ⟨F6 H5.at2 rfl,?_⟩
  have hrot:∀(X:Hp) (A B C D E:Hp),A*(B*(C*(D*(E*X))))=E*(A*(B*(C*(D*X)))):=λX A B C D E=>by
   rw [D8 D E,D8 C E,D8 B E,D8 A E]
  have HA:=H5
  rw [hrot] at HA
  have hsee:N5 h5 (some (aQ N4)) (Fw ⟨x0,x1,x2,x3⟩):=λi v hi=>⟨_,rfl,by rw [E2,J6,E5 H5.at];simpa [Fw] using hi⟩
  rw [<- Mu] at HA
  refine HA.app S21 So7 S22 (by rw [Mu];rfl) hsee (n:=1) (by rw [Mu];rfl) (by simp [Fw,J0]) (by rw [Sg2];omega) (by rw [Sg2];omega) λa' c' h' H6=>?_
  rw [Mu] at H6
  simp only [D6]
  rw [<- hrot] at H6
  have H7:A9 h' _:=(D8 _ _ _ ▸ H6)
  refine H7.st rfl trivial λh8 H8=>?_
  refine kT h8 ⟨b,a',c',?_⟩
  have H9:=H8.drop2.drop2
  unfold Uw;simpa [hw] using H9
theorem Am {h:A2} {q:Nat} {m:Mm} {R:Hp} (H:A9 h (R7 q m*R)):∃b,A3 h (aQ q)=some (lQ (some (aQ b)) m.w.length m.w.length)/\(∀a,m.ok a=true->A3 h ⟨b,a.toNat,none⟩=some (uQ (m.get a))) /\
  ∀a v,m.ok a=true->U v->∀K:A2->Prop,(∀h',A9 h' (R7 q (m.put a v)*R)->K h')->C7 h ⟨b,a.toNat,none⟩ (uQ v) K:=by
 obtain ⟨b,la,lc,B,H0⟩:=Ar.1 H
 refine ⟨b,F6 H0.at rfl,λa ha=>?_,λa v ha hv K k=>?_⟩
 ·unfold Mm.ok at ha
  rw [EK] at ha
  exact SK7 H0.at2 ha.1 ha.2
 ·unfold Mm.ok at ha
  rw [EK] at ha
  have H1:A9 h _:=(D8 _ _ _ ▸ H0)
  refine Dv H1 (by unfold V7;rw [Jz];omega) trivial λh' H2=>k h' (Ar.2 ⟨b,la,lc,B.put hv,?_⟩)
  have H3:A9 h' _:=(D8 _ _ _ ▸ H2)
  unfold Mm.put
  simp only
  rw [show V7 (m.w.set a.toNat v)=(V7 m.w).set a.toNat (uQ v) by unfold V7;rw [Ra]]
  unfold Uw
  simp only [Ca]
  exact H3
theorem Mm.ok_iff {m:Mm} {a:Int}:m.ok a=true↔0<=a/\a < m.w.length:=by unfold Mm.ok;rw [EK]
theorem RF {h:A2} {N:Nat} {a:Int} {t:TypeId} (e:h[N]? = some (oQ #[iQ a] t)):RI h (some (aQ N)) 1 1 [a]:=
 ⟨λj v hj=>⟨_,rfl,by rw [E2,E5 e,J6];simpa using hj⟩,rfl,G0 _⟩
theorem SK8 {h:A2} {N:Nat} {a b:Int} {t:TypeId} (e:h[N]? = some (oQ #[iQ a,iQ b] t)):RI h (some (aQ N)) 2 2 [a,b]:=
 ⟨λj v hj=>⟨_,rfl,by
  rw [E2,E5 e,J6]
  show ([Value.int .i64 a,iQ b].toArray)[j]? = _
  rw [EC];exact hj⟩,rfl,G0 _⟩
theorem S23 {m:Mm} {a:Int}:([a].all λx=>decide (0<=x/\x < (m.w.length:Int)))=m.ok a:=by simp [Mm.ok]
theorem Ti2 {m:Mm} {a b:Int}:([a,b].all λx=>decide (0<=x/\x < (m.w.length:Int)))=(m.ok a && m.ok b):=by simp [Mm.ok]
theorem Yz {q:Nat} {m:Mm} {R:Hp} {a:Int} (H:A9 h (R7 q m*R)) (hs:m.st < 1099511627776)
  (k1:m.ok a=true->∀h',A9 h' (R7 q (m.tick 0 a (-1) false)*R)->K (.tuple #[uQ (m.get a),iQ 0]) h') (k0:m.ok a=false->∀h',A9 h' (R7 q m*R)->K (.tuple #[uQ 0,iQ 2]) h') :
  A4 prog 209 #[pQ (some (aQ q)),iQ a] h K:=by
 refine call209 ?_
 unfold F209 cf bd lS lI nP
 have H1:=(H.push (oQ #[iQ a] 3))
 generalize h.push (oQ #[iQ a] 3)=h1 at *
 generalize h.size=N at *
 obtain ⟨b,w0,w1,w2⟩:=Am (D8 _ _ _ ▸ H1:A9 h1 (R7 q m*(_*R)))
 refine A0 (BT w0 (RF H1.at) (by omega) ?_)
 rw [S23]
 simp only [A5]
 cases hok:m.ok a with
 | false=>
  simp only [Cd,if_false]
  rw [show ((2:Int) != 0)=true from rfl]
  simp only [G6]
  exact k0 hok h1 H1.drop
 | true=>
  simp only [if_true]
  rw [show ((0:Int) != 0)=false from rfl]
  simp only [E7]
  obtain ⟨a0,a1⟩:=Mm.ok_iff.1 hok
  refine A0 (BV H1.drop hs λh4 H4=>?_)
  simp only [G5,D0]
  obtain ⟨b,w0,w1,w2⟩:=Am H4
  refine C6 w0 ?_
  simp only [D6]
  refine ⟨a0,a1,?_⟩
  simp only [D0,BQ]
  rw [E2,J6]
  refine C6 (w1 a hok) ?_
  simp only [A5]
  exact k1 hok h4 H4
theorem Lu {q:Nat} {m:Mm} {R:Hp} {a v:Int} (H:A9 h (R7 q m*R)) (hv:U v) (hs:m.st < 1099511627776)
  (k1:m.ok a=true->∀h',A9 h' (R7 q ((m.tick 1 a (-1) true).put a v)*R)->K (iQ 0) h') (k0:m.ok a=false->∀h',A9 h' (R7 q m*R)->K (iQ 2) h') :
  A4 prog 140 #[pQ (some (aQ q)),iQ a,uQ v] h K:=by
 refine call140 ?_
 unfold F140 cf bd lS nP
 have H1:=(H.push (oQ #[iQ a] 3))
 generalize h.push (oQ #[iQ a] 3)=h1 at *
 generalize h.size=N at *
 obtain ⟨b,w0,w1,w2⟩:=Am (D8 _ _ _ ▸ H1:A9 h1 (R7 q m*(_*R)))
 refine A0 (BT w0 (RF H1.at) (by omega) ?_)
 rw [S23]
 simp only [A5]
 cases hok:m.ok a with
 | false=>
  simp only [Cd,if_false]
  rw [show ((2:Int) != 0)=true from rfl]
  simp only [G6]
  exact k0 hok h1 H1.drop
 | true=>
  simp only [if_true]
  rw [show ((0:Int) != 0)=false from rfl]
  simp only [E7]
  obtain ⟨a0,a1⟩:=Mm.ok_iff.1 hok
  refine A0 (BV H1.drop hs λh4 H4=>?_)
  simp only [G5,D0]
  obtain ⟨b,w0,w1,w2⟩:=Am H4
  refine C6 w0 ?_
  simp only [D6]
  refine ⟨a0,a1,?_⟩
  simp only [D0,BQ]
  rw [E2,J6]
  exact w2 a v hok hv _ λh' H'=>k1 hok h' H'
theorem S9 (n:Int):U (u64 n):=⟨by unfold u64;omega,by unfold u64;omega⟩
theorem So8 {q:Nat} {m:Mm} {R:Hp} {a d:Int} (H:A9 h (R7 q m*R)) (hs:m.st < 1099511627776)
  (k1:m.ok a=true->∀h',A9 h' (R7 q ((m.tick 3 a (-1) true).put a (u64 (m.get a+d)))*R)->K (.tuple #[uQ (m.get a),iQ 0]) h') (k0:m.ok a=false->∀h',A9 h' (R7 q m*R)->K (.tuple #[uQ 0,iQ 2]) h') :
  A4 prog 272 #[pQ (some (aQ q)),iQ a,uQ d] h K:=by
 refine call272 ?_
 unfold F272 cf bd lS lI nP
 have H1:=(H.push (oQ #[iQ a] 3))
 generalize h.push (oQ #[iQ a] 3)=h1 at *
 generalize h.size=N at *
 obtain ⟨b,w0,w1,w2⟩:=Am (D8 _ _ _ ▸ H1:A9 h1 (R7 q m*(_*R)))
 refine A0 (BT w0 (RF H1.at) (by omega) ?_)
 rw [S23]
 simp only [A5]
 cases hok:m.ok a with
 | false=>
  simp only [Cd,if_false]
  rw [show ((2:Int) != 0)=true from rfl]
  simp only [G6]
  exact k0 hok h1 H1.drop
 | true=>
  simp only [if_true]
  rw [show ((0:Int) != 0)=false from rfl]
  simp only [E7]
  obtain ⟨a0,a1⟩:=Mm.ok_iff.1 hok
  refine A0 (BV H1.drop hs λh4 H4=>?_)
  simp only [G5,D0]
  obtain ⟨b,w0,w1,w2⟩:=Am H4
  refine C6 w0 ?_
  simp only [D6]
  refine ⟨a0,a1,?_⟩
  simp only [D0,BQ]
  rw [E2,J6]
  refine C6 (w1 a hok) ?_
  simp only [A5]
  refine C6 w0 ?_
  simp only [D6]
  refine ⟨a0,a1,?_⟩
  simp only [D0]
  try rw [E2,J6]
  refine C6 (w1 a hok) ?_
  simp only [A5]
  refine ⟨a0,a1,?_⟩
  rw [KN]
  exact w2 a _ hok (S9 _) _ λh' H'=>k1 hok h' H'
theorem So9 {q:Nat} {m:Mm} {R:Hp} {a o n:Int} (H:A9 h (R7 q m*R)) (hn:U n) (hs:m.st < 1099511627776)
  (k1:m.ok a=true->∀h',A9 h' (R7 q (m.cas a o n)*R)->K (.tuple #[dQ (decide (m.get a=o)),iQ 0]) h') (k0:m.ok a=false->∀h',A9 h' (R7 q m*R)->K (.tuple #[dQ false,iQ 2]) h') :
  A4 prog 281 #[pQ (some (aQ q)),iQ a,uQ o,uQ n] h K:=by
 refine call281 ?_
 unfold F281 cf bd lS lI nP
 have H1:=(H.push (oQ #[iQ a] 3))
 generalize h.push (oQ #[iQ a] 3)=h1 at *
 generalize h.size=N at *
 have H2:A9 h1 (R7 q m*(_*R)):=(D8 _ _ _ ▸ H1)
 obtain ⟨b,w0,w1,w2⟩:=Am H1.drop
 refine A0 (BT w0 (RF H1.at) (by omega) ?_)
 rw [S23]
 simp only [A5]
 cases hok:m.ok a with
 | false=>
  simp only [Cd,if_false]
  rw [show ((2:Int) != 0)=true from rfl]
  simp only [G6]
  exact k0 hok h1 H1.drop
 | true=>
  simp only [if_true]
  rw [show ((0:Int) != 0)=false from rfl]
  simp only [E7,G5,D0]
  obtain ⟨a0,a1⟩:=Mm.ok_iff.1 hok
  refine C6 w0 ?_
  simp only [D6]
  refine ⟨a0,a1,?_⟩
  simp only [D0,BQ]
  rw [E2,J6]
  refine C6 (w1 a hok) ?_
  simp only [A5]
  have eb:(m.get a == o)=decide (m.get a=o):=rfl
  unfold Mm.cas at k1
  refine ⟨λvs h'=>vs = []/\A9 h' (R7 q (if m.get a=o then m.put a n else m)*R),?_,?_⟩
  ·apply D1<;>intro hc
   ·have hc':m.get a=o:=by simpa using hc
    rw [A8 hc']
    refine C6 w0 ?_
    simp only [D6]
    refine ⟨a0,a1,?_⟩
    simp only [D0]
    try rw [E2,J6]
    exact w2 a n hok hn _ λh' H'=>⟨by trivial,H'⟩
   ·have hc':¬ m.get a=o:=by simpa using hc
    rw [A7 hc']
    exact ⟨by trivial,H1.drop⟩
  rintro g19 h20 ⟨_,H20⟩
  rw [eb]
  refine A0 (BV H20 (by split <;> exact hs) λh22 H22=>?_)
  refine k1 hok h22 ?_
  split
  ·rename_i hc;rw [A8 hc,V6 hc] at H22;exact H22
  ·rename_i hc;rw [A7 hc,S4 hc] at H22;exact H22
theorem YA {q:Nat} {m:Mm} {R:Hp} {a o n a2 o2:Int} (H:A9 h (R7 q m*R)) (hn:U n) (hs:m.st < 1099511627776)
  (k1:m.ok a=true->m.ok a2=true->∀h',A9 h' (R7 q (m.dcss a o n a2 o2)*R)->K (.tuple #[dQ (decide (m.get a=o/\m.get a2=o2)),iQ 0]) h')
  (k0:¬ (m.ok a=true/\m.ok a2=true)->∀h',A9 h' (R7 q m*R)->K (.tuple #[dQ false,iQ 2]) h') :
  A4 prog 284 #[pQ (some (aQ q)),iQ a,uQ o,uQ n,iQ a2,uQ o2] h K:=by
 refine call284 ?_
 unfold F284 cf bd lS lI nP
 have H1:=(H.push (oQ #[iQ a,iQ a2] 3))
 generalize h.push (oQ #[iQ a,iQ a2] 3)=h1 at *
 generalize h.size=N at *
 obtain ⟨b,w0,w1,w2⟩:=Am H1.drop
 refine A0 (BT w0 (SK8 H1.at) (by omega) ?_)
 rw [Ti2]
 simp only [A5]
 cases hok:(m.ok a && m.ok a2) with
 | false=>
  simp only [Cd,if_false]
  rw [show ((2:Int) != 0)=true from rfl]
  simp only [G6]
  exact k0 (λhx=>by rw [hx.1,hx.2] at hok;cases hok) h1 H1.drop
 | true=>
  simp only [if_true]
  rw [show ((0:Int) != 0)=false from rfl]
  simp only [E7,G5,D0]
  obtain ⟨hk1,hk2⟩:=(EA _ _).mp hok
  obtain ⟨a0,a1⟩:=Mm.ok_iff.1 hk1
  obtain ⟨c0,c1⟩:=Mm.ok_iff.1 hk2
  refine ⟨λvs h'=>vs = [dQ (decide (m.get a=o/\m.get a2=o2)),dQ (decide (m.get a=o/\m.get a2=o2))]/\h' = h1,?_,?_⟩
  ·refine C6 w0 ?_
   simp only [D6]
   refine ⟨a0,a1,?_⟩
   simp only [D0,BQ]
   rw [E2,J6]
   refine C6 (w1 a hk1) ?_
   simp only [A5]
   apply D1<;>intro hc
   ·have hc':m.get a=o:=by simpa using hc
    refine C6 w0 ?_
    simp only [D6]
    refine ⟨c0,c1,?_⟩
    simp only [D0]
    rw [E2,J6]
    refine C6 (w1 a2 hk2) ?_
    simp only [A5]
    have e:(m.get a2 == o2)=decide (m.get a=o/\m.get a2=o2):=by
     rw [QU,beq_iff_eq,decide_eq_true_iff];exact ⟨λh=>⟨hc',h⟩,λh=>h.2⟩
    rw [e]
    exact ⟨rfl,by trivial⟩
   ·have hc':¬ m.get a=o:=by simpa using hc
    rw [S4 (λh=>hc' h.1)]
    exact ⟨rfl,by trivial⟩
  rintro v20 v21 g22 h23 ⟨e,rfl⟩
  cases e
  simp only [C0]
  unfold Mm.dcss at k1
  refine ⟨λvs h'=>vs = []/\A9 h' (R7 q (if m.get a=o/\m.get a2=o2 then m.put a n else m)*R),?_,?_⟩
  ·apply A6<;>intro hc
   ·rw [A8 hc]
    refine C6 w0 ?_
    simp only [D6]
    refine ⟨a0,a1,?_⟩
    simp only [D0,BQ]
    rw [E2,J6]
    exact w2 a n hk1 hn _ λh' H'=>⟨by trivial,H'⟩
   ·rw [A7 hc]
    exact ⟨by trivial,H1.drop⟩
  rintro g33 h34 ⟨_,H34⟩
  refine A0 (BV H34 (by split <;> exact hs) λh37 H37=>?_)
  refine k1 hk1 hk2 h37 ?_
  split
  ·rename_i hc;rw [A8 hc,V6 hc] at H37;exact H37
  ·rename_i hc;rw [A7 hc,S4 hc] at H37;exact H37
theorem YB {q:Nat} {m:Mm} {R:Hp} {a o n a2 o2 n2:Int} (H:A9 h (R7 q m*R)) (hn:U n) (hn2:U n2) (hs:m.st < 1099511627776)
  (k1:m.ok a=true->m.ok a2=true->a≠a2->∀h',A9 h' (R7 q (m.dcas a o n a2 o2 n2)*R)->K (.tuple #[dQ (decide (m.get a=o/\m.get a2=o2)),iQ 0]) h')
  (k0:¬ (m.ok a=true/\m.ok a2=true/\a≠a2)->∀h',A9 h' (R7 q m*R)->K (.tuple #[dQ false,iQ 2]) h') :
  A4 prog 286 #[pQ (some (aQ q)),iQ a,uQ o,uQ n,iQ a2,uQ o2,uQ n2] h K:=by
 refine call286 ?_
 unfold F286 cf bd lS lI nP
 have H1:=(H.push (oQ #[iQ a,iQ a2] 3))
 generalize h.push (oQ #[iQ a,iQ a2] 3)=h1 at *
 generalize h.size=N at *
 obtain ⟨b,w0,w1,w2⟩:=Am H1.drop
 refine A0 (BT w0 (SK8 H1.at) (by omega) ?_)
 rw [Ti2]
 simp only [A5]
 cases hok:(m.ok a && m.ok a2) with
 | false=>
  simp only [Cd,if_false]
  rw [show ((2:Int) != 0)=true from rfl]
  simp only [G6]
  exact k0 (λhx=>by rw [hx.1,hx.2.1] at hok;cases hok) h1 H1.drop
 | true=>
  simp only [if_true]
  rw [show ((0:Int) != 0)=false from rfl]
  simp only [E7,G5,D0]
  obtain ⟨hk1,hk2⟩:=(EA _ _).mp hok
  obtain ⟨a0,a1⟩:=Mm.ok_iff.1 hk1
  obtain ⟨c0,c1⟩:=Mm.ok_iff.1 hk2
  refine D1 (λhe=>k0 (λhx=>hx.2.2 (by simpa using he)) h1 H1.drop) (λhe=>?_)
  have hne:a≠a2:=by simpa using he
  refine ⟨λvs h'=>vs = [dQ (decide (m.get a=o/\m.get a2=o2)),dQ (decide (m.get a=o/\m.get a2=o2))]/\h' = h1,?_,?_⟩
  ·refine C6 w0 ?_
   simp only [D6]
   refine ⟨a0,a1,?_⟩
   simp only [D0,BQ]
   rw [E2,J6]
   refine C6 (w1 a hk1) ?_
   simp only [A5]
   apply D1<;>intro hc
   ·have hc':m.get a=o:=by simpa using hc
    refine C6 w0 ?_
    simp only [D6]
    refine ⟨c0,c1,?_⟩
    simp only [D0]
    rw [E2,J6]
    refine C6 (w1 a2 hk2) ?_
    simp only [A5]
    have e:(m.get a2 == o2)=decide (m.get a=o/\m.get a2=o2):=by
     rw [QU,beq_iff_eq,decide_eq_true_iff];exact ⟨λh=>⟨hc',h⟩,λh=>h.2⟩
    rw [e]
    exact ⟨rfl,by trivial⟩
   ·have hc':¬ m.get a=o:=by simpa using hc
    rw [S4 (λh=>hc' h.1)]
    exact ⟨rfl,by trivial⟩
  rintro v20 v21 g22 h23 ⟨e,rfl⟩
  cases e
  simp only [C0]
  unfold Mm.dcas at k1
  refine ⟨λvs h'=>vs = []/\A9 h' (R7 q (if m.get a=o/\m.get a2=o2 then (m.put a n).put a2 n2 else m)*R),?_,?_⟩
  ·apply A6<;>intro hc
   ·rw [A8 hc]
    obtain ⟨b,la,lc,B,H0⟩:=Ar.1 H1.drop
    have e0:=F6 (i:=0) H0.at rfl
    refine C6 e0 ?_
    simp only [D6]
    refine C6 e0 ?_
    simp only [D6]
    refine ⟨a0,a1,?_⟩
    simp only [D0,BQ]
    rw [E2,J6]
    have H2:A9 h23 _:=(D8 _ _ _ ▸ H0)
    refine Dv H2 (by unfold V7;rw [Jz];omega) trivial λh3 H3=>?_
    refine ⟨c0,c1,?_⟩
    try simp only [D0]
    rw [E2,J6]
    refine Dv H3 (by unfold V7;rw [Ca,Jz];omega) trivial λh4 H4=>⟨by trivial,?_⟩
    refine Ar.2 ⟨b,la,lc,(B.put hn).put hn2,?_⟩
    have H5:A9 h4 _:=(D8 _ _ _ ▸ H4)
    unfold Mm.put
    simp only
    rw [show V7 ((m.w.set a.toNat n).set a2.toNat n2)=((V7 m.w).set a.toNat (uQ n)).set a2.toNat (uQ n2) by unfold V7;rw [Ra,Ra]]
    unfold Uw
    simp only [Ca]
    exact H5
   ·rw [A7 hc]
    exact ⟨by trivial,H1.drop⟩
  rintro g33 h34 ⟨_,H34⟩
  refine A0 (BV H34 (by split <;> exact hs) λh37 H37=>?_)
  refine k1 hk1 hk2 hne h37 ?_
  split
  ·rename_i hc;rw [A8 hc,V6 hc] at H37;exact H37
  ·rename_i hc;rw [A7 hc,S4 hc] at H37;exact H37
end
section
open Mod
def wdS (q b c:Nat):Prop:=c=q\/c=b
structure Ns (h:A2) (q b:Nat) (g:Gh):Prop where
 obj:h[q]? = some (.cells [lQ (some (aQ b)) g.tags.length g.tags.length,iQ g.kind,iQ g.node].toArray 213)
 tg:h[b]? = some (oQ (g.tags.map iv).toArray 3)
 len:g.tags.length<=64
theorem Ns.ne {h:A2} {q b:Nat} {g:Gh} (H:Ns h q b g):q≠b:=by
 rintro rfl
 have h1:=H.obj
 rw [H.tg] at h1
 have:=GG (λo:Option Obj=>match o with | some (.cells _ t _)=>some t | _=>none) h1
 exact absurd this (by simp)
theorem Td6 (a b:Int):eqv prog 10000 133 (.agg #[iQ a,iQ b]) (.agg #[iQ 0,iQ 0])=some ((a == 0) && ((b == 0) && true)):=by kernel_rfl
theorem SK9:Tryz.prog.eqGuardType Tryz.prog.depth 133=false:=by kernel_rfl
theorem Sg3 {a b:Int} {K:Bool->Prop} (k:K (decide (a=0/\b=0))):Gb prog 133 (.agg #[iQ a,iQ b]) (.agg #[iQ 0,iQ 0]) K:=by
 unfold Gb
 rw [SK9,A7 (by simp)]
 show (match eqv prog 10000 133 (.agg #[.int .i64 a,.int .i64 b]) (.agg #[.int .i64 0,.int .i64 0]) with | some b=>K b | none=>False)
 rw [Td6]
 have e:((a == 0) && ((b == 0) && true))=decide (a=0/\b=0):=by
  rw [QU];simp
 rw [e]
 exact k
theorem Ff {K:kQ} {h:A2} {q b:Nat} {g:Gh} {kd i:Int} (H:Ns h q b g) (k:∀h',Ns h' q b (g.fault kd i)->Fr (wdS q b) h h'->K (dQ false) h'):A4 prog 300 #[pQ (some (aQ q)),iQ kd,iQ i] h K:=by
 refine call300 ?_
 unfold F300 nP
 simp only [Dh,MF,G6,G5,D0,E2]
 refine ⟨λvs h'=>vs = [dQ (decide (g.kind=0/\g.node=0))]/\h' = h,?_,?_⟩
 ·refine C4 H.obj rfl (C4 H.obj rfl ?_)
  exact Sg3 ⟨rfl,by trivial⟩
 rintro v5 g6 h7 ⟨e,rfl⟩
 cases e
 simp only [C0]
 apply A6<;>intro hc
 ·refine stR H.obj rfl trivial λh10 w10=>?_
  refine stR w10.new rfl trivial λh11 w11=>?_
  have w:=w10.trans w11
  refine k h11 ?_ ⟨by rw [w.size];exact G0 _,λc hc hn=>w.old _ λe=>hn (.inl e)⟩
  unfold Gh.fault
  rw [A8 hc]
  exact ⟨w.new,(w.old _ (λe=>H.ne e.symm)).trans H.tg,H.len⟩
 ·refine k h7 ?_ (Fr.refl _ _)
  unfold Gh.fault
  rw [A7 hc]
  exact H
theorem Sg4 {h:A2} {b:Nat} {l:List Int} {t:TypeId} (e:h[b]? = some (oQ (l.map iv).toArray t)) {a:Nat} (h1:a < l.length):A3 h ⟨b,a,none⟩=some (iv (l.getD a 0)):=by
 rw [E5 e,EC,FD,X7 h1,An,X7 h1]
 rfl
theorem hd3 {b b':Bool} {v w:vQ} (h:b=b') : [dQ b,v,w] = [dQ b',v,w]:=by rw [h]
theorem Jm {K:kQ} {h:A2} {q b:Nat} {g:Gh} {i fr to_ kd:Int} (H:Ns h q b g) (hi:iN i) (k:∀bb h',Ns h' q b (g.turn i fr to_ kd)->Fr (wdS q b) h h'->K (dQ bb) h') :
  A4 prog 302 #[pQ (some (aQ q)),iQ i,iQ fr,iQ to_,iQ kd] h K:=by
 refine call302 ?_
 unfold F302 cf lS nP
 have hl:=H.len
 refine ⟨λvs h'=>(∃w1 w2,vs = [dQ (decide (i < 1\/(g.tags.length:Int) < i)),w1,w2])/\h' = h,?_,?_⟩
 ·simp only [Dh,E7]
  refine A6 (λq=>⟨⟨_,_,hd3 (V6 (Or.inl q:i < 1\/(g.tags.length:Int) < i)).symm⟩,by trivial⟩) (λq=>?_)
  simp only [G5,D0]
  refine C4 H.obj rfl ?_
  simp only [D6]
  exact ⟨⟨_,_,hd3 (show decide (i > (g.tags.length:Int))=decide (i < 1\/(g.tags.length:Int) < i) by rw [decide_eq_decide];omega)⟩,by trivial⟩
 rintro v6 v7 v8 g9 h10 ⟨⟨_,_,e⟩,rfl⟩
 cases e
 simp only [C0]
 unfold Gh.turn at k
 apply A6<;>intro hc
 ·rw [A8 hc] at k
  refine A0 (Ff H λh13 H13 fr13=>?_)
  simp only [C0]
  exact k false h13 H13 fr13
 rw [A7 hc] at k
 simp only [G5,D0]
 refine C4 H.obj rfl ?_
 simp only [D6]
 rw [E3 (n:=i - 1) (by omega) (by omega)]
 refine ⟨by omega,by omega,?_⟩
 simp only [D0,BQ]
 rw [E2,J6]
 refine C6 (Sg4 H.tg (by omega)) ?_
 simp only [A5]
 refine D1 (λhne=>?_) (λheq=>?_)
 ·rw [A8 (by simpa using hne)] at k
  refine A0 (Ff H λh13 H13 fr13=>?_)
  simp only [C0]
  exact k false h13 H13 fr13
 rw [A7 (by simpa using heq)] at k
 refine C4 H.obj rfl ?_
 simp only [D6]
 refine ⟨by omega,by omega,?_⟩
 simp only [D0]
 try rw [E2,J6]
 refine Nf H.tg (by simp;omega) trivial ?_
 rintro h32 rfl
 have hlt:=(Jx.1 H.tg).1
 refine k true _ ⟨?_,?_,by rw [Ca];exact H.len⟩ ⟨by simp,λc hc hn=>V4 λe=>hn (.inr e)⟩
 ·rw [V4 H.ne,Ca];exact H.obj
 ·rw [U2 hlt,SE3,Ra]
theorem Ux {K:kQ} {h:A2} {q b:Nat} {g:Gh} {i:Int} (H:Ns h q b g) (hi:iN i) (k:∀bb h',Ns h' q b (g.touch i)->Fr (wdS q b) h h'->K (dQ bb) h') :
  A4 prog 279 #[pQ (some (aQ q)),iQ i] h K:=by
 refine call279 ?_
 unfold F279 cf lS nP
 have hl:=H.len
 refine ⟨λvs h'=>(∃w1 w2,vs = [dQ (decide (i < 1\/(g.tags.length:Int) < i)),w1,w2])/\h' = h,?_,?_⟩
 ·simp only [Dh,E7]
  refine A6 (λq=>⟨⟨_,_,hd3 (V6 (Or.inl q:i < 1\/(g.tags.length:Int) < i)).symm⟩,by trivial⟩) (λq=>?_)
  simp only [G5,D0]
  refine C4 H.obj rfl ?_
  simp only [D6]
  exact ⟨⟨_,_,hd3 (show decide (i > (g.tags.length:Int))=decide (i < 1\/(g.tags.length:Int) < i) by rw [decide_eq_decide];omega)⟩,by trivial⟩
 rintro v6 v7 v8 g9 h10 ⟨⟨_,_,e⟩,rfl⟩
 cases e
 simp only [C0]
 unfold Gh.touch at k
 apply A6<;>intro hc
 ·rw [A8 hc] at k
  refine A0 (Ff H λh13 H13 fr13=>?_)
  simp only [C0]
  exact k false h13 H13 fr13
 rw [A7 hc] at k
 simp only [G5,D0]
 refine C4 H.obj rfl ?_
 simp only [D6]
 rw [E3 (n:=i - 1) (by omega) (by omega)]
 refine ⟨by omega,by omega,?_⟩
 simp only [D0,BQ]
 rw [E2,J6]
 refine C6 (Sg4 H.tg (by omega)) ?_
 simp only [A5]
 refine D1 (λhne=>?_) (λheq=>?_)
 ·rw [A8 (by simpa using hne)] at k
  refine A0 (Ff H λh13 H13 fr13=>?_)
  simp only [C0]
  exact k false h13 H13 fr13
 rw [A7 (by simpa using heq)] at k
 exact k true _ H (Fr.refl _ _)
end
section
open Mod
variable {K:kQ} {h:A2}
theorem Uy {q b:Nat} {g:Gh} {i:Int} (H:Ns h q b g) (hi:iN i) (k:∀bb h',Ns h' q b (g.turn i 0 1 1)->Fr (wdS q b) h h'->K (dQ bb) h') :
  A4 prog 306 #[pQ (some (aQ q)),iQ i] h K:=by
 refine call306 ?_
 unfold F306 cf
 refine A0 (Jm H hi λbb h1 H1 fr1=>?_)
 simp only [C0]
 exact k bb h1 H1 fr1
theorem RG {q b:Nat} {g:Gh} {i:Int} (H:Ns h q b g) (hi:iN i) (k:∀bb h',Ns h' q b (g.turn i 1 2 2)->Fr (wdS q b) h h'->K (dQ bb) h') :
  A4 prog 288 #[pQ (some (aQ q)),iQ i] h K:=by
 refine call288 ?_
 unfold F288 cf
 refine A0 (Jm H hi λbb h1 H1 fr1=>?_)
 simp only [C0]
 exact k bb h1 H1 fr1
theorem Pd {q b:Nat} {g:Gh} {i:Int} (H:Ns h q b g) (hi:iN i) (k:∀bb h',Ns h' q b (g.turn i 2 0 3)->Fr (wdS q b) h h'->K (dQ bb) h') :
  A4 prog 307 #[pQ (some (aQ q)),iQ i] h K:=by
 refine call307 ?_
 unfold F307 cf
 refine A0 (Jm H hi λbb h1 H1 fr1=>?_)
 simp only [C0]
 exact k bb h1 H1 fr1
structure FdF (h:A2) (q:Nat) (a:rQ) (c:Nat) (bs:List Int) (used:Int):Prop where
 obj:h[q]? = some (.cells [lQ a bs.length c,iQ used].toArray 236)
 by_:N5 h a (bs.map λn=>.int .u8 n)
 rng:∀n ∈ bs,0<=n/\n < 256
 us:0<=used/\used < 4611686018427387904
 ap:¬ GU a q
theorem Nt {q c:Nat} {a:rQ} {bs:List Int} {used:Int} (H:FdF h q a c bs used) (hu:used < 4611686018427387903)
  (k:∀h',FdF h' q a c bs (used+1)->Fr (λb=>b=q) h h'->K (iQ (if used+1 > bs.length then 0 else bs.getD used.toNat 0)) h') :
  A4 prog 280 #[pQ (some (aQ q))] h K:=by
 refine call280 ?_
 unfold F280 lS lI nP
 have hus:=H.us
 simp only [Dh,E7,G5,D0,E2]
 refine C4 H.obj rfl ?_
 simp only [A5]
 rw [E3 (n:=used+1) (by omega) (by omega)]
 refine stR H.obj rfl trivial λh4 w4=>?_
 have by4:N5 h4 a (bs.map λn=>.int .u8 n):=H.by_.keep λad e=>w4.old _ λeb=>H.ap ⟨ad,e,eb⟩
 have H4:FdF h4 q a c bs (used+1):=⟨w4.new,by4,H.rng,by omega,H.ap⟩
 have kk:=k h4 H4 ⟨by rw [w4.size];exact G0 _,λb hb hn=>w4.old _ hn⟩
 refine C4 w4.new rfl ?_
 simp only [A5]
 refine C4 w4.new rfl ?_
 simp only [D6]
 refine A6 (λhgt=>?_) (λhle=>?_)
 ·rw [A8 (by omega)] at kk
  exact kk
 ·rw [A7 (by omega)] at kk
  have hlt:used.toNat < bs.length:=by omega
  refine C4 w4.new rfl ?_
  simp only [D6]
  refine C4 w4.new rfl ?_
  simp only [A5]
  rw [E3 (n:=used+1 - 1) (by omega) (by omega),show used+1 - 1=used by omega]
  refine ⟨by omega,by omega,?_⟩
  obtain ⟨ad,rfl,hc⟩:=by4 used.toNat (.int .u8 bs[used.toNat]) (by rw [FD,X7 hlt];rfl)
  simp only [D0,BQ]
  refine C6 hc ?_
  simp only [A5]
  have hr:=H.rng _ (CD hlt)
  rw [An,X7 hlt] at kk
  rw [E3 (by omega) (by omega)]
  exact kk
theorem YC {q c:Nat} {a:rQ} {bs:List Int} {used n:Int} (H:FdF h q a c bs used) (hu:used < 4611686018427387903)
  (k0:n < 1->K (iQ 0) h) (k:1<=n->∀h',FdF h' q a c bs (used+1)->Fr (λb=>b=q) h h'->K (iQ ((if used+1 > bs.length then 0 else bs.getD used.toNat 0) % n)) h') :
  A4 prog 215 #[pQ (some (aQ q)),iQ n] h K:=by
 refine call215 ?_
 unfold F215 cf
 refine A6 (λhn=>k0 hn) (λhn=>?_)
 refine A0 (Nt H hu λh1 H1 fr1=>?_)
 simp only [A5]
 have hpos:0<=(if used+1 > bs.length then 0 else bs.getD used.toNat 0):=by
  split
  ·omega
  ·rename_i h2
   have hus:=H.us
   have hlt:used.toNat < bs.length:=by omega
   rw [An,X7 hlt]
   exact (H.rng _ (CD hlt)).1
 rw [Hm hpos]
 exact ⟨by omega,k (by omega) h1 H1 fr1⟩
end
section
open Mod
variable {K:kQ} {h:A2}
def RH:Option Gh->Nat->Hp
 | none,_=>Mt
 | some g,q=>ex λb=>lift (wdS q b) λh=>Ns h q b g
theorem Ns.congr {h h':A2} {q b:Nat} {g:Gh} (H:Ns h q b g) (e:∀c,wdS q b c->h'[c]? = h[c]?):Ns h' q b g:=by
 have h1:=H.obj
 have h2:=H.tg
 obtain ⟨x1,x2,x3⟩:=H
 constructor
 ·rw [e q (.inl rfl)];exact h1
 ·rw [e b (.inr rfl)];exact h2
 ·exact x3
theorem Ns.nd {h:A2} {q b:Nat} {g:Gh} (H:Ns h q b g):∀c o,wdS q b c->h[c]? = some o->Nd o:=by
 rintro c o hc e x hx
 rcases hc with rfl | rfl
 ·rw [H.obj] at e;cases e;cases hx
 ·rw [H.tg] at e;cases e;cases hx
theorem Hs {h:A2} {q:Nat} {g:Gh} {R:Hp} (H:A9 h (RH (some g) q*R)):∃b,Ns h q b g/\∀h' g',Ns h' q b g'->Fr (wdS q b) h h'->A9 h' (RH (some g') q*R):=by
 obtain ⟨b,H⟩:=A9.ex.1 H
 obtain ⟨G,hlt,re⟩:=H.opn
 refine ⟨b,G,λh' g' G' fr=>A9.ex.2 ⟨b,re h' (wdS q b) _ fr (λc hc=>⟨.inl hc,Se1 (hlt c hc) fr.1⟩) G'.nd λh'' e=>G'.congr e⟩⟩
theorem RJ {q:Nat} {g:Gh} {R:Hp} {i:Int} (H:A9 h (RH (some g) q*R)) (hi:iN i) (k:∀bb h',A9 h' (RH (some (g.touch i)) q*R)->K (dQ bb) h') :
  A4 prog 279 #[pQ (some (aQ q)),iQ i] h K:=by
 obtain ⟨b,G,re⟩:=Hs H
 exact Ux G hi λbb h' G' fr=>k bb h' (re h' _ G' fr)
theorem RK {q:Nat} {g:Gh} {R:Hp} {i:Int} (H:A9 h (RH (some g) q*R)) (hi:iN i) (k:∀bb h',A9 h' (RH (some (g.turn i 0 1 1)) q*R)->K (dQ bb) h') :
  A4 prog 306 #[pQ (some (aQ q)),iQ i] h K:=by
 obtain ⟨b,G,re⟩:=Hs H
 exact Uy G hi λbb h' G' fr=>k bb h' (re h' _ G' fr)
theorem Pe {q:Nat} {g:Gh} {R:Hp} {i:Int} (H:A9 h (RH (some g) q*R)) (hi:iN i) (k:∀bb h',A9 h' (RH (some (g.turn i 1 2 2)) q*R)->K (dQ bb) h') :
  A4 prog 288 #[pQ (some (aQ q)),iQ i] h K:=by
 obtain ⟨b,G,re⟩:=Hs H
 exact RG G hi λbb h' G' fr=>k bb h' (re h' _ G' fr)
theorem Nu {q:Nat} {g:Gh} {R:Hp} {i:Int} (H:A9 h (RH (some g) q*R)) (hi:iN i) (k:∀bb h',A9 h' (RH (some (g.turn i 2 0 3)) q*R)->K (dQ bb) h') :
  A4 prog 307 #[pQ (some (aQ q)),iQ i] h K:=by
 obtain ⟨b,G,re⟩:=Hs H
 exact Pd G hi λbb h' G' fr=>k bb h' (re h' _ G' fr)
theorem RM {q:Nat} {g:Gh} {R:Hp} (H:A9 h (RH (some g) q*R)) (k:∀h',A9 h' (RH (some g) q*R)->K (.agg #[iQ g.kind,iQ g.node]) h') :
  A4 prog 72 #[pQ (some (aQ q))] h K:=by
 refine call72 ?_
 unfold F72 g72 nP Rt dw2
 obtain ⟨b,G,re⟩:=Hs H
 simp only [Dh,E7,G5,D0,E2]
 have H1:=H.push (.cells [iQ 0,iQ 0].toArray 133)
 have e0:h.push (.cells [iQ 0,iQ 0].toArray 133)=h.push (oQ #[iQ 0,iQ 0] 133):=rfl
 rw [e0] at H1
 have G1:(h.push (oQ #[iQ 0,iQ 0] 133))[q]? = h[q]?:=W5 _ _ _ (Jx.1 G.obj).1
 generalize h.push (oQ #[iQ 0,iQ 0] 133)=h1 at *
 generalize h.size=N at *
 have g1:=G1.trans G.obj
 refine C4 g1 rfl (C4 g1 rfl ?_)
 refine H1.st rfl trivial λh7 H7=>H7.st rfl trivial λh8 H8=>H8.ld rfl (H8.ld rfl (k h8 H8.drop))
def Pf (q:Nat) (bs:List Int) (used:Int):Hp:=ex λa=>ex λc=>lift (λb=>b=q\/GU a b/\bs≠[]) λh=>FdF h q a c bs used
theorem N5.congr {h h':A2} {a:rQ} {vs:List vQ} (H:N5 h a vs) (e:∀b,GU a b->vs≠[]->h'[b]? = h[b]?):N5 h' a vs:=by
 intro i v hi
 obtain ⟨ad,ea,hc⟩:=H i v hi
 exact ⟨ad,ea,(T5 (by rw [KG];exact e _ ⟨ad,ea,rfl⟩ λh=>by rw [h] at hi;simp at hi)).trans hc⟩
theorem FdF.congr {h h':A2} {q c:Nat} {a:rQ} {bs:List Int} {used:Int} (H:FdF h q a c bs used) (e:∀b,b=q\/GU a b/\bs≠[]->h'[b]? = h[b]?):FdF h' q a c bs used:=
 ⟨(e q (.inl rfl)).trans H.obj,H.by_.congr λb hb hn=>e b (.inr ⟨hb,λh=>hn (by rw [h];rfl)⟩),H.rng,H.us,H.ap⟩
theorem FdF.nd {h:A2} {q c:Nat} {a:rQ} {bs:List Int} {used:Int} (H:FdF h q a c bs used):∀b o,b=q\/GU a b/\bs≠[]->h[b]? = some o->Nd o:=by
 rintro b o hb e x hx
 rcases hb with rfl | ⟨⟨ad,ea,rfl⟩,hne⟩
 ·rw [H.obj] at e;cases e;cases hx
 ·cases bs with
  | nil=>exact hne rfl
  | cons n bs=>
   obtain ⟨ad2,ea2,hc⟩:=H.by_ 0 (.int .u8 n) rfl
   rw [ea] at ea2;cases ea2
   exact hx.elim
theorem Nv {h:A2} {q:Nat} {bs:List Int} {used:Int} {R:Hp} (H:A9 h (Pf q bs used*R)):∃a c,FdF h q a c bs used/\∀h' used',FdF h' q a c bs used'->Fr (λb=>b=q) h h'->A9 h' (Pf q bs used' * R):=by
 obtain ⟨a,H⟩:=A9.ex.1 H
 obtain ⟨c,H⟩:=A9.ex.1 H
 obtain ⟨G,hlt,re⟩:=H.opn
 refine ⟨a,c,G,λh' u' G' fr=>A9.ex.2 ⟨a,A9.ex.2 ⟨c,re h' _ _ (fr.mono λb _ e=>.inl e) (λc hc=>⟨.inl hc,Se1 (hlt c hc) fr.1⟩) G'.nd λh'' e=>G'.congr e⟩⟩⟩
def drawn (bs:List Int) (used:Int):Int:=if used+1 > bs.length then 0 else bs.getD used.toNat 0
theorem Sp0 {bs:List Int} {used:Int} (h:∀n ∈ bs,0<=n/\n < 256):0<=drawn bs used/\drawn bs used < 256:=by
 unfold drawn
 split
 ·omega
 ·rw [An]
  cases e:bs[used.toNat]? with
  | none=>simp
  | some v=>exact h v (OF e)
theorem Uz {q:Nat} {bs:List Int} {used:Int} {R:Hp} (H:A9 h (Pf q bs used*R)) (hu:used < 1099511627776)
  (k:∀h',A9 h' (Pf q bs (used+1)*R)->0<=drawn bs used/\drawn bs used < 256->K (iQ (drawn bs used)) h') :
  A4 prog 280 #[pQ (some (aQ q))] h K:=by
 obtain ⟨a,c,G,re⟩:=Nv H
 exact Nt G (by omega) λh' G' fr=>k h' (re h' _ G' fr) (Sp0 G.rng)
theorem UA {q:Nat} {bs:List Int} {used n:Int} {R:Hp} (H:A9 h (Pf q bs used*R)) (hu:used < 1099511627776)
  (k0:n < 1->K (iQ 0) h) (k:1<=n->∀h',A9 h' (Pf q bs (used+1)*R)->K (iQ (drawn bs used % n)) h') :
  A4 prog 215 #[pQ (some (aQ q)),iQ n] h K:=by
 obtain ⟨a,c,G,re⟩:=Nv H
 exact YC G (by omega) k0 λh1 h' G' fr=>k h1 h' (re h' _ G' fr)
theorem SL0 {n:Int} (h0:0<=n) (h1:n < 9223372036854775808):wrap .i64 ((((BitVec.ofInt 64 n) &&& (BitVec.ofInt 64 1)).toNat:Nat):Int)=n % 2:=by
 have e:(BitVec.ofInt 64 n).toNat=n.toNat:=by
  rw [BitVec.toNat_ofInt]
  omega
 rw [BitVec.toNat_and,e,show (BitVec.ofInt 64 1).toNat=1 from rfl,Nat.and_one_is_mod]
 rw [E3 (by omega) (by omega)]
 omega
theorem RN {q:Nat} {bs:List Int} {used n:Int} {R:Hp} (H:A9 h (Pf q bs used*R)) (hu:used < 1099511627776) (hn:1<=n/\n<=6)
  (k:∀h',A9 h' (Pf q bs (used+1)*R)->K (iQ (Xq (drawn bs used) n.toNat 0)) h') :
  A4 prog 250 #[pQ (some (aQ q)),iQ n] h K:=by
 refine call250 ?_
 unfold F250 cf
 refine A6 (λh1=>by omega) (λ_=>?_)
 refine A0 (Uz H hu λh1 H1 hr=>?_)
 simp only [A5]
 have k1:=k h1 H1
 generalize drawn bs used=c at *
 obtain ⟨Lv,hLv⟩ : ∃Lv,Xq c n.toNat 0=Lv:=⟨_,rfl⟩
 rw [hLv] at k1
 have lz:∀i,Xq c 0 i=i:=λ_=>rfl
 have ls:∀m i,Xq c (m+1) i=if c / 2 ^ i % 2=0 then (i:Int)+1 else Xq c m (i+1):=λ_ _=>rfl
 refine ⟨λvs h'=>∃w1 w2,∃i:Nat,vs = [w1,w2,iv i]/\(i:Int)<=n/\h' = h1/\Lv=Xq c (n.toNat - i) i,λvs _=>(match vs with | [_,_,.int _ m]=>n.toNat - m.toNat | _=>0),⟨_,_,0,rfl,by omega,rfl,hLv.symm⟩,?_⟩
 rintro v5 v6 v7 g8 h9 ⟨w1,w2,i,e,hi,rfl,hlev⟩
 cases e
 simp only [A5]
 refine A6 (λhlt=>?_) (λhge=>?_)
 ·refine ⟨by omega,?_⟩
  have hp0:0<=c / 2 ^ i:=Sk2 hr.1 (by exact_mod_cast T4 _)
  have hp1:c / 2 ^ i<=c:=Sk1 _ hr.1
  have hs:n.toNat - i=(n.toNat - (i+1))+1:=by omega
  have e1:min (i:Int).toNat 64=i:=by omega
  rw [e1,BE (by exact_mod_cast T4 _),SL0 hp0 (by omega)]
  rw [hs,ls] at hlev
  apply D1<;>intro hz
  ·have hz':c / 2 ^ i % 2=0:=by simpa using hz
   rw [A8 hz'] at hlev
   rw [N8 (by omega)]
   rw [hlev] at k1
   exact_mod_cast k1
  ·have hz':¬ c / 2 ^ i % 2=0:=by simpa using hz
   rw [A7 hz'] at hlev
   rw [N8 (by omega)]
   exact ⟨⟨_,_,i+1,rfl,by omega,by trivial,hlev⟩,by show n.toNat - ((i+1:Nat):Int).toNat < n.toNat - (i:Int).toNat;omega⟩
 ·have:(i:Int)=n:=by omega
  have e:n.toNat - i=0:=by omega
  rw [e,lz] at hlev
  rw [hlev,this] at k1
  exact k1
end
section
set_option maxRecDepth 100000
variable {K:kQ} {h:A2}
abbrev q62_1 (h104:A2) (v88 v89 v90 v91 v92 v93 v94 v95 v96 v97 v98 v99 v100 v101 v102:vQ) (o67 o105:rQ):A2:=(h104.push (oQ #[v88,v89,v90,v91,v92,v93,v94,v95,v96,v97,v98,v99,v100,v101,v102,(pQ o67),(pQ none),(pQ o105),(lQ none 0 0),(dQ false),(dQ false)] 122))
abbrev q62_2 (h164:A2) (n142:Int) (o155:rQ) (k156 k157:Nat) (o160:rQ) (k161 k162:Nat) (o165:rQ) (k166 k167:Nat):A2:=(h164.push (oQ #[(iQ n142),(lQ none 0 0),(uQ 0),(uQ 0),(uQ 0),(lQ o155 k156 k157),(lQ o160 k161 k162),(lQ o165 k166 k167),(lQ none 0 0),(lQ none 0 0)] 183))
abbrev q62_3 (h181:A2) (n142:Int) (o155:rQ) (k156 k157:Nat) (o182:rQ) (k183 k184:Nat) (o177:rQ) (k178 k179:Nat):A2:=(h181.push (oQ #[(iQ n142),(lQ none 0 0),(uQ 0),(uQ 0),(uQ 0),(lQ o155 k156 k157),(lQ o182 k183 k184),(lQ o177 k178 k179),(lQ none 0 0),(lQ none 0 0)] 183))
abbrev q62_4 (h203:A2) (n142:Int) (o199:rQ) (k200 k201:Nat) (o194:rQ) (k195 k196:Nat) (o204:rQ) (k205 k206:Nat):A2:=(h203.push (oQ #[(iQ n142),(lQ none 0 0),(uQ 0),(uQ 0),(uQ 0),(lQ o199 k200 k201),(lQ o194 k195 k196),(lQ o204 k205 k206),(lQ none 0 0),(lQ none 0 0)] 183))
abbrev q62_5 (h220:A2) (n142:Int) (o221:rQ) (k222 k223:Nat) (o194:rQ) (k195 k196:Nat) (o216:rQ) (k217 k218:Nat):A2:=(h220.push (oQ #[(iQ n142),(lQ none 0 0),(uQ 0),(uQ 0),(uQ 0),(lQ o221 k222 k223),(lQ o194 k195 k196),(lQ o216 k217 k218),(lQ none 0 0),(lQ none 0 0)] 183))
abbrev q62_6 (h242:A2) (n142:Int) (o238:rQ) (k239 k240:Nat) (o243:rQ) (k244 k245:Nat) (o233:rQ) (k234 k235:Nat):A2:=(h242.push (oQ #[(iQ n142),(lQ none 0 0),(uQ 0),(uQ 0),(uQ 0),(lQ o238 k239 k240),(lQ o243 k244 k245),(lQ o233 k234 k235),(lQ none 0 0),(lQ none 0 0)] 183))
abbrev q62_7 (h259:A2) (n142:Int) (o260:rQ) (k261 k262:Nat) (o255:rQ) (k256 k257:Nat) (o233:rQ) (k234 k235:Nat):A2:=(h259.push (oQ #[(iQ n142),(lQ none 0 0),(uQ 0),(uQ 0),(uQ 0),(lQ o260 k261 k262),(lQ o255 k256 k257),(lQ o233 k234 k235),(lQ none 0 0),(lQ none 0 0)] 183))
abbrev g62 (K:kQ) (h H1:A2) (xa:rQ) (xb xc:Nat) (xd:Bool):Prop:=
 (IE H1 h.size λa b c d e f g=>cf 98 #[.agg #[a,b,c,d,e,f,g]] H1 λa b=>J3 a λc=>D9 c 0 λc=>asAgg c λc=>G3 c 15 (O8 c λc d e f g i j k l m n o p q r=>J3 a λa=>D9 a 1 λa=>asInt .i64 a λa=>C7 (b.push (oQ AA 117)) (aQ b.size) c λc=>C7 c ⟨b.size,1,none⟩ d λc=>C7 c ⟨b.size,2,none⟩ e λc=>C7 c ⟨b.size,3,none⟩ f λc=>C7 c ⟨b.size,4,none⟩ g λc=>C7 c ⟨b.size,5,none⟩ i λc=>C7 c ⟨b.size,6,none⟩ j λc=>C7 c ⟨b.size,7,none⟩ k λc=>C7 c ⟨b.size,8,none⟩ l λc=>C7 c ⟨b.size,9,none⟩ m λc=>C7 c ⟨b.size,10,none⟩ n λc=>C7 c ⟨b.size,11,none⟩ o λc=>C7 c ⟨b.size,12,none⟩ p λc=>C7 c ⟨b.size,13,none⟩ q λc=>C7 c ⟨b.size,14,none⟩ r λc=>D4 (a != 0) (K (.tuple #[pQ none,iQ a]) c) (BO c b.size λa d e f g i j k l m n o p q r=>cf 100 #[.agg #[a,d,e,f,g,i,j,k,l,m,n,o,p,q,r]] c λa c=>asInt .i64 a λa=>cf 99 #[iQ a] c λa c=>J3 a λd=>D9 d 0 λd=>C9 d λd=>J3 a λa=>D9 a 1 λa=>asInt .i64 a λa=>D4 (a != 0) (K (.tuple #[pQ none,iQ a]) c) (BO c b.size λa e f g i j k l m n o p q r s=>cf 101 #[pQ d,.agg #[a,e,f,g,i,j,k,l,m,n,o,p,q,r,s]] c λa a=>BO a b.size λc e f g i j k l m n o p q r s=>cf 102 #[lQ xa xb xc] a λa t=>C9 a λa=>ce t b.size 0 c (ce t b.size 1 e (ce t b.size 2 f (ce t b.size 3 g (ce t b.size 4 i (ce t b.size 5 j (ce t b.size 6 k (ce t b.size 7 l (ce t b.size 8 m (ce t b.size 9 n (ce t b.size 10 o (ce t b.size 11 p (ce t b.size 12 q (ce t b.size 13 r (ce t b.size 14 s (R3 λI106=>(D4 xd (D2 (q62_1 t c e f g i j k l m n o p q r s d a) ⟨h.size,2,none⟩ λu=>asInt .i64 u λv=>BO (q62_1 t c e f g i j k l m n o p q r s d a) b.size λb w x y z A B C D E F G H I J=>cf 104 #[.agg #[b,w,x,y,z,A,B,C,D,E,F,G,H,I,J]] (q62_1 t c e f g i j k l m n o p q r s d a) λb w=>asInt .i64 b λb=>ce w h.size 2 u (cf 103 #[iQ v,iQ b] w λb u=>C9 b λb=>G5 (pQ (some (aQ t.size))) (C7 u ⟨t.size,16,none⟩ (pQ b) λb=>I106 [] b))) (I106 [] (q62_1 t c e f g i j k l m n o p q r s d a)))/\(∀(a:G4) (a:A2),(I106 [] a)->(lI .i64 a ⟨h.size,1,none⟩ λb=>R3 λI135=>GI λm136=>(I135 [tQ,iQ 0] a)/\(∀(a c:vQ) (d:G4) (d:A2),(I135 [a,c] d)->(asInt .i64 c λe=>D4 (decide (e < b)) (asInt .i64 c λb=>G5 (pQ (some (aQ t.size))) (D2 d ⟨t.size,18,none⟩ λe=>D3 e λf g i=>D2 d ⟨h.size,3,none⟩ λj=>asInt .i64 j λk=>D2 d ⟨h.size,3,none⟩ λl=>asInt .i64 l λm=>D2 d ⟨h.size,3,none⟩ λn=>asInt .i64 n λo=>(Y2 prog 178 k k d λp q=>D3 p λp r s=>ce q h.size 3 n (ce q h.size 3 l (ce q t.size 18 e ((Y2 prog 178 m m q λu v=>D3 u λu w x=>ce v h.size 3 n (ce v h.size 3 j (ce v t.size 18 e (Y2 prog 178 o o v λv y=>D3 v λv z A=>ce y h.size 3 l (ce y h.size 3 j (ce y t.size 18 e (ce (q62_2 y b p r s u w x v z A) t.size 18 e (((A3 (Array.push (q62_2 y b p r s u w x v z A) (oQ #[pQ (some (aQ y.size))] 176)) ⟨t.size,18,none⟩)=(some e))/\(U4 prog #[120,120] 120 #[lQ f g i,lQ (some ⟨(q62_2 y b p r s u w x v z A).size,0,none⟩) 1 1] (Array.push (q62_2 y b p r s u w x v z A) (oQ #[pQ (some (aQ y.size))] 176)) λu v=>D3 u λu w x=>G5 (pQ (some (aQ t.size))) (C7 v ⟨t.size,18,none⟩ (lQ u w x) λu=>asInt .i64 c λv=>(I135 [iQ b,iQ (wrap .i64 (v+1))] u)/\((m136 [iQ b,iQ (wrap .i64 (v+1))] u) < (m136 [a,c] d))))))))))))/\(Y2 prog 178 o o q λq u=>D3 q λq v w=>ce u h.size 3 l (ce u h.size 3 j (ce u t.size 18 e (Y2 prog 178 m m u λu x=>D3 u λu y z=>ce x h.size 3 n (ce x h.size 3 j (ce x t.size 18 e (ce (q62_3 x b p r s u y z q v w) t.size 18 e (((A3 (Array.push (q62_3 x b p r s u y z q v w) (oQ #[pQ (some (aQ x.size))] 176)) ⟨t.size,18,none⟩)=(some e))/\(U4 prog #[120,120] 120 #[lQ f g i,lQ (some ⟨(q62_3 x b p r s u y z q v w).size,0,none⟩) 1 1] (Array.push (q62_3 x b p r s u y z q v w) (oQ #[pQ (some (aQ x.size))] 176)) λp q=>D3 p λp r s=>G5 (pQ (some (aQ t.size))) (C7 q ⟨t.size,18,none⟩ (lQ p r s) λp=>asInt .i64 c λq=>(I135 [iQ b,iQ (wrap .i64 (q+1))] p)/\((m136 [iQ b,iQ (wrap .i64 (q+1))] p) < (m136 [a,c] d))))))))))))))))/\((Y2 prog 178 m m d λp q=>D3 p λp r s=>ce q h.size 3 n (ce q h.size 3 j (ce q t.size 18 e ((Y2 prog 178 k k q λu v=>D3 u λu w x=>ce v h.size 3 n (ce v h.size 3 l (ce v t.size 18 e (Y2 prog 178 o o v λv y=>D3 v λv z A=>ce y h.size 3 l (ce y h.size 3 j (ce y t.size 18 e (ce (q62_4 y b u w x p r s v z A) t.size 18 e (((A3 (Array.push (q62_4 y b u w x p r s v z A) (oQ #[pQ (some (aQ y.size))] 176)) ⟨t.size,18,none⟩)=(some e))/\(U4 prog #[120,120] 120 #[lQ f g i,lQ (some ⟨(q62_4 y b u w x p r s v z A).size,0,none⟩) 1 1] (Array.push (q62_4 y b u w x p r s v z A) (oQ #[pQ (some (aQ y.size))] 176)) λu v=>D3 u λu w x=>G5 (pQ (some (aQ t.size))) (C7 v ⟨t.size,18,none⟩ (lQ u w x) λu=>asInt .i64 c λv=>(I135 [iQ b,iQ (wrap .i64 (v+1))] u)/\((m136 [iQ b,iQ (wrap .i64 (v+1))] u) < (m136 [a,c] d))))))))))))/\(Y2 prog 178 o o q λq u=>D3 q λq v w=>ce u h.size 3 l (ce u h.size 3 j (ce u t.size 18 e (Y2 prog 178 k k u λu x=>D3 u λu y z=>ce x h.size 3 n (ce x h.size 3 l (ce x t.size 18 e (ce (q62_5 x b u y z p r s q v w) t.size 18 e (((A3 (Array.push (q62_5 x b u y z p r s q v w) (oQ #[pQ (some (aQ x.size))] 176)) ⟨t.size,18,none⟩)=(some e))/\(U4 prog #[120,120] 120 #[lQ f g i,lQ (some ⟨(q62_5 x b u y z p r s q v w).size,0,none⟩) 1 1] (Array.push (q62_5 x b u y z p r s q v w) (oQ #[pQ (some (aQ x.size))] 176)) λp q=>D3 p λp r s=>G5 (pQ (some (aQ t.size))) (C7 q ⟨t.size,18,none⟩ (lQ p r s) λp=>asInt .i64 c λq=>(I135 [iQ b,iQ (wrap .i64 (q+1))] p)/\((m136 [iQ b,iQ (wrap .i64 (q+1))] p) < (m136 [a,c] d))))))))))))))))/\(Y2 prog 178 o o d λo p=>D3 o λo q r=>ce p h.size 3 l (ce p h.size 3 j (ce p t.size 18 e ((Y2 prog 178 k k p λs u=>D3 s λs v w=>ce u h.size 3 n (ce u h.size 3 l (ce u t.size 18 e (Y2 prog 178 m m u λu x=>D3 u λu y z=>ce x h.size 3 n (ce x h.size 3 j (ce x t.size 18 e (ce (q62_6 x b s v w u y z o q r) t.size 18 e (((A3 (Array.push (q62_6 x b s v w u y z o q r) (oQ #[pQ (some (aQ x.size))] 176)) ⟨t.size,18,none⟩)=(some e))/\(U4 prog #[120,120] 120 #[lQ f g i,lQ (some ⟨(q62_6 x b s v w u y z o q r).size,0,none⟩) 1 1] (Array.push (q62_6 x b s v w u y z o q r) (oQ #[pQ (some (aQ x.size))] 176)) λs u=>D3 s λs v w=>G5 (pQ (some (aQ t.size))) (C7 u ⟨t.size,18,none⟩ (lQ s v w) λs=>asInt .i64 c λu=>(I135 [iQ b,iQ (wrap .i64 (u+1))] s)/\((m136 [iQ b,iQ (wrap .i64 (u+1))] s) < (m136 [a,c] d))))))))))))/\(Y2 prog 178 m m p λm p=>D3 m λm s u=>ce p h.size 3 n (ce p h.size 3 j (ce p t.size 18 e (Y2 prog 178 k k p λj k=>D3 j λj p v=>ce k h.size 3 n (ce k h.size 3 l (ce k t.size 18 e (ce (q62_7 k b j p v m s u o q r) t.size 18 e (((A3 (Array.push (q62_7 k b j p v m s u o q r) (oQ #[pQ (some (aQ k.size))] 176)) ⟨t.size,18,none⟩)=(some e))/\(U4 prog #[120,120] 120 #[lQ f g i,lQ (some ⟨(q62_7 k b j p v m s u o q r).size,0,none⟩) 1 1] (Array.push (q62_7 k b j p v m s u o q r) (oQ #[pQ (some (aQ k.size))] 176)) λe f=>D3 e λe g i=>G5 (pQ (some (aQ t.size))) (C7 f ⟨t.size,18,none⟩ (lQ e g i) λe=>asInt .i64 c λf=>(I135 [iQ b,iQ (wrap .i64 (f+1))] e)/\((m136 [iQ b,iQ (wrap .i64 (f+1))] e) < (m136 [a,c] d))))))))))))))))))) (K (.tuple #[pQ (some (aQ t.size)),iQ 0]) d))))))))))))))))))))))))
def F62 (K:kQ) (h:A2) (xa xb xc xd xe xf xg:Int) (xh:rQ) (xi xj:Nat) (xk:Bool):Prop:=
 (g62 K h (h.push (oQ #[iQ xa,iQ xb,iQ xc,iQ xd,iQ xe,iQ xf,iQ xg] 23)) xh xi xj xk)
theorem call62 {xa xb xc xd xe xf xg:Int} {xh:rQ} {xi xj:Nat} {xk:Bool} (H:F62 K h xa xb xc xd xe xf xg xh xi xj xk):A4 prog 62 #[(.agg #[(iQ xa),(iQ xb),(iQ xc),(iQ xd),(iQ xe),(iQ xf),(iQ xg)]),(lQ xh xi xj),(dQ xk)] h K:=
 cQ Tryz.func62 H
def F32 (K:kQ) (h:A2) (xa:rQ):Prop:=
 (D4 (Option.isNone xa) (K (pQ none) h) (nP xa λa=>lP h (a.add 15) λa=>K (pQ a) h))
theorem call32 {xa:rQ} (H:F32 K h xa):A4 prog 32 #[(pQ xa)] h K:=
 cQ Tryz.func32 H
abbrev g101 (K:kQ) (h H1:A2) (xa:rQ):Prop:=
 (BO H1 h.size λa b c d e f g i j k l m n o p=>cf 139 #[.agg #[a,b,c,d,e,f,g,i,j,k,l,m,n,o,p]] H1 λa b=>asAgg a λa=>G3 a 7 (Jv a λa c d e f g i=>C7 (b.push (oQ Dp 23)) (aQ b.size) a λa=>C7 a ⟨b.size,1,none⟩ c λa=>C7 a ⟨b.size,2,none⟩ d λa=>C7 a ⟨b.size,3,none⟩ e λa=>C7 a ⟨b.size,4,none⟩ f λa=>C7 a ⟨b.size,5,none⟩ g λa=>C7 a ⟨b.size,6,none⟩ i λa=>BO a h.size λc d e f g i j k l m n o p q r=>cf 104 #[.agg #[c,d,e,f,g,i,j,k,l,m,n,o,p,q,r]] a λa c=>asInt .i64 a λa=>cf 141 #[iQ (wrap .i64 (a+1))] c λc d=>asInt .u64 c λc=>cf 140 #[pQ xa,iQ 0,uQ c] d λc d=>asInt .i64 c λc=>R3 λI56=>GI λm57=>(I56 [iQ (wrap .i64 (a+1))] d)/\(∀(a:vQ) (c:G4) (c:A2),(I56 [a] c)->(asInt .i64 a λd=>lI .i64 c ⟨b.size,2,none⟩ λe=>D4 (decide (d < e)) (BO c h.size λd e f g i j k l m n o p q r s=>asInt .i64 a λt=>cf 142 #[.agg #[d,e,f,g,i,j,k,l,m,n,o,p,q,r,s],iQ t] c λd e=>asInt .i64 d λd=>asInt .i64 a λf=>cf 140 #[pQ xa,iQ d,uQ (wrap .u64 (wrap .i64 (f+1)))] e λd e=>asInt .i64 d λd=>asInt .i64 a λd=>(I56 [iQ (wrap .i64 (d+1))] e)/\((m57 [iQ (wrap .i64 (d+1))] e) < (m57 [a] c))) (cf 140 #[pQ xa,iQ 2,uQ 1] c λa c=>asInt .i64 a λa=>lI .i64 c (aQ b.size) λa=>D4 (a == 0) (K tQ c) (BO c h.size λa d e f g i j k l m n o p q r=>D2 c ⟨b.size,3,none⟩ λs=>asInt .i64 s λt=>cf 143 #[.agg #[a,d,e,f,g,i,j,k,l,m,n,o,p,q,r],iQ 1,iQ 3] c λa c=>asInt .i64 a λa=>ce c b.size 3 s (cf 140 #[pQ xa,iQ a,uQ (wrap .u64 t)] c λa c=>asInt .i64 a λa=>BO c h.size λa d e f g i j k l m n o p q r=>cf 143 #[.agg #[a,d,e,f,g,i,j,k,l,m,n,o,p,q,r],iQ 2,iQ 0] c λa c=>asInt .i64 a λa=>cf 140 #[pQ xa,iQ a,uQ 18446744073709551615] c λa c=>asInt .i64 a λa=>lI .i64 c ⟨b.size,3,none⟩ λa=>R3 λI139=>GI λm140=>(I139 [tQ,iQ 0] c)/\(∀(b c:vQ) (d:G4) (d:A2),(I139 [b,c] d)->(asInt .i64 c λe=>D4 (decide (e < a)) (asInt .i64 c λa=>BO d h.size λe f g i j k l m n o p q r s t=>cf 143 #[.agg #[e,f,g,i,j,k,l,m,n,o,p,q,r,s,t],iQ 1,iQ (wrap .i64 (5+a))] d λe f=>asInt .i64 e λe=>cf 141 #[iQ 2] f λf g=>asInt .u64 f λf=>cf 140 #[pQ xa,iQ e,uQ f] g λe f=>asInt .i64 e λe=>asInt .i64 c λe=>(I139 [iQ a,iQ (wrap .i64 (e+1))] f)/\((m140 [iQ a,iQ (wrap .i64 (e+1))] f) < (m140 [b,c] d))) (K tQ d))))))))))
def F101 (K:kQ) (h:A2) (xa:rQ) (xb xc xd xe xf xg xh xi xj xk xl xm xn xo xp:Int):Prop:=
 (g101 K h (h.push (oQ #[iQ xb,iQ xc,iQ xd,iQ xe,iQ xf,iQ xg,iQ xh,iQ xi,iQ xj,iQ xk,iQ xl,iQ xm,iQ xn,iQ xo,iQ xp] 117)) xa)
theorem call101 {xa:rQ} {xb xc xd xe xf xg xh xi xj xk xl xm xn xo xp:Int} (H:F101 K h xa xb xc xd xe xf xg xh xi xj xk xl xm xn xo xp):A4 prog 101 #[(pQ xa),(.agg #[(iQ xb),(iQ xc),(iQ xd),(iQ xe),(iQ xf),(iQ xg),(iQ xh),(iQ xi),(iQ xj),(iQ xk),(iQ xl),(iQ xm),(iQ xn),(iQ xo),(iQ xp)])] h K:=
 cQ Tryz.func101 H
def F196 (K:kQ) (h:A2) (xa:rQ) (xb:Int):Prop:=
 (R3 λI0=>(D4 (Option.isNone xa) (I0 [dQ true,dQ true] h) (D4 (decide (xb < 0)) (I0 [dQ (decide (xb < 0)),dQ true] h) (nP xa λa=>lS h (a.add 18) λa a b=>I0 [dQ (decide (xb < 0)),dQ (decide (xb >= (a:Int)))] h)))/\(∀(a b:vQ) (c:G4) (c:A2),(I0 [a,b] c)->(asBool b λa=>D4 a (K (pQ none) c) (nP xa λa=>lS c (a.add 18) λa b d=>bd xb (b:Int) (F3 (pQ a) λa=>lP c (a.add (xb.toNat*1)) λa=>K (pQ a) c)))))
theorem call196 {xa:rQ} {xb:Int} (H:F196 K h xa xb):A4 prog 196 #[(pQ xa),(iQ xb)] h K:=
 cQ Tryz.func196 H
def F130 (K:kQ) (h:A2) (xa:rQ) (xb:Int) (xc:rQ) (xd xe:Nat):Prop:=
 (D4 (Option.isNone xa) (K tQ h) (C7 (h.push (oQ #[iQ 0,iQ 0,uQ 0,uQ 0,uQ 0,uQ 0,uQ 0,uQ 0,uQ 0,uQ 0,uQ 0,uQ 0] 190)) (aQ h.size) (iQ xb) λa=>C7 a ⟨h.size,1,none⟩ (iQ 0) λa=>C7 a ⟨h.size,2,none⟩ (uQ 0) λa=>C7 a ⟨h.size,3,none⟩ (uQ 0) λa=>C7 a ⟨h.size,4,none⟩ (uQ 0) λa=>C7 a ⟨h.size,5,none⟩ (uQ 0) λa=>C7 a ⟨h.size,6,none⟩ (uQ 0) λa=>C7 a ⟨h.size,7,none⟩ (uQ 0) λa=>C7 a ⟨h.size,8,none⟩ (uQ 0) λa=>C7 a ⟨h.size,9,none⟩ (uQ 0) λa=>C7 a ⟨h.size,10,none⟩ (uQ 0) λa=>C7 a ⟨h.size,11,none⟩ (uQ 0) λa=>PI prog #[123,123] 3 #[lQ (some (PH ⟨h.size,2,none⟩ 0 10 1)) 10 10,lQ xc xd xe] a λa b=>asInt .i64 a λa=>nP xa λa=>D2 b (a.add 1) λc=>D3 c λd e f=>Ti0 b h.size λg i j k l m n o p q r s=>((A3 (b.push (oQ #[g,i,j,k,l,m,n,o,p,q,r,s] 190)) (a.add 1))=(some c))/\(U4 prog #[177,177] 177 #[lQ d e f,lQ (some (aQ b.size)) 1 1] (b.push (oQ #[g,i,j,k,l,m,n,o,p,q,r,s] 190)) λa b=>D3 a λa c d=>nP xa λe=>C7 b (e.add 1) (lQ a c d) λa=>K tQ a)))
theorem call130 {xa:rQ} {xb:Int} {xc:rQ} {xd xe:Nat} (H:F130 K h xa xb xc xd xe):A4 prog 130 #[(pQ xa),(iQ xb),(lQ xc xd xe)] h K:=
 cQ Tryz.func130 H
def F36 (K:kQ) (h:A2) (xa:rQ):Prop:=
 (D4 (!(Option.isNone xa)) (nP xa λa=>D2 h (a.add 20) λa=>asBool a λa=>D4 a (K (dQ true) h) (cf 71 #[pQ xa] h λa b=>asBool a λa=>D4 a (nP xa λa=>lP b (a.add 16) λa=>cf 72 #[pQ a] b λa c=>asAgg a λa=>G3 a 2 (de2 a λa d=>Gb prog 133 (.agg #[a,d]) (.agg #[iQ 0,iQ 0]) λa=>K (dQ (!a)) c)) (K (dQ false) b))) (K (dQ false) h))
theorem call36 {xa:rQ} (H:F36 K h xa):A4 prog 36 #[(pQ xa)] h K:=
 cQ Tryz.func36 H
def F123 (K:kQ) (h:A2) (xa:rQ) (xb:Int) (xc:vQ):Prop:=
 (cf 196 #[pQ xa,iQ xb] h λa b=>C9 a λa=>R3 λI3=>(D4 (Option.isNone a) (I3 [dQ true] b) (X0 xc λc=>I3 [dQ c] b))/\(∀(b:vQ) (c:G4) (c:A2),(I3 [b] c)->(asBool b λb=>D4 b (K (dQ false) c) (nP xa λb=>C7 c (b.add 19) (dQ false) λb=>R3 λI11=>GI λm12=>(I11 [] b)/\(∀(b:G4) (b:A2),(I11 [] b)->(R3 λI15=>(nP xa λc=>D2 b (c.add 19) λc=>asBool c λc=>D4 (!c) (nP a λc=>lS b (c.add 1) λc c d=>I15 [dQ (decide ((c:Int) > 0))] b) (I15 [dQ false] b))/\(∀(c:vQ) (d:G4) (d:A2),(I15 [c] d)->(asBool c λc=>D4 c (Aj prog xc #[pQ xa,pQ a] d λc c=>(I11 [] c)/\((m12 [] c) < (m12 [] b))) (nP a λa=>lS d (a.add 1) λa a b=>K (dQ (decide ((a:Int) > 0))) d)))))))))
theorem call123 {xa:rQ} {xb:Int} {xc:vQ} (H:F123 K h xa xb xc):A4 prog 123 #[(pQ xa),(iQ xb),xc] h K:=
 cQ Tryz.func123 H
def F105 (K:kQ) (h:A2) (xa:rQ):Prop:=
 (R3 λI0=>(D4 (Option.isNone xa) (I0 [dQ true] h) (nP xa λa=>lS h (a.add 1) λa a b=>I0 [dQ ((a:Int) == 0)] h))/\(∀(a:vQ) (b:G4) (b:A2),(I0 [a] b)->(asBool a λa=>D4 a (K (pQ none) b) (nP xa λa=>lS b (a.add 1) λa c d=>nP xa λd=>lS b (d.add 1) λd d e=>((0:Int)<=(wrap .i64 ((d:Int) - 1)))/\((((wrap .i64 ((d:Int) - 1)):Int) < (c:Int))/\(F3 (pQ a) λa=>K (pQ (some (a.add ((wrap .i64 ((d:Int) - 1)).toNat*12)))) b))))))
theorem call105 {xa:rQ} (H:F105 K h xa):A4 prog 105 #[(pQ xa)] h K:=
 cQ Tryz.func105 H
def F106 (K:kQ) (h:A2) (xa xb:rQ) (xc xd:Nat):Prop:=
 (R3 λI0=>(D4 (Option.isNone xa) (I0 [dQ true] h) (nP xa λa=>lS h (a.add 1) λa a b=>I0 [dQ ((a:Int) == 0)] h))/\(∀(a:vQ) (b:G4) (b:A2),(I0 [a] b)->(asBool a λa=>D4 a (K tQ b) (nP xa λa=>lS b (a.add 1) λa c c=>nP xa λd=>lS b (d.add 1) λd d e=>((0:Int)<=(wrap .i64 ((d:Int) - 1)))/\((((wrap .i64 ((d:Int) - 1)):Int)<=(c:Int))/\(nP xa λe=>C7 b (e.add 1) (lQ (Ha a 0 c 12) ((wrap .i64 ((d:Int) - 1)).toNat - 0) (c - 0)) λa=>nP xa λb=>C7 a (b.add 2) (uQ 0) λa=>C7 a (b.add 3) (uQ 0) λa=>C7 a (b.add 4) (uQ 0) λa=>nP xa λb=>PI prog #[123,123] 3 #[lQ (some (PH (b.add 2) 0 3 1)) 3 3,lQ xb xc xd] a λa b=>asInt .i64 a λa=>K tQ b))))))
theorem call106 {xa xb:rQ} {xc xd:Nat} (H:F106 K h xa xb xc xd):A4 prog 106 #[(pQ xa),(lQ xb xc xd)] h K:=
 cQ Tryz.func106 H
def F141 (K:kQ) (h:A2) (xa:Int):Prop:=
 (cf 206 #[iQ xa,dQ false,uQ 0] h λa b=>J3 a λc=>D9 c 0 λc=>asInt .u64 c λc=>J3 a λa=>D9 a 1 λa=>asInt .i64 a λa=>K (uQ c) b)
theorem call141 {xa:Int} (H:F141 K h xa):A4 prog 141 #[(iQ xa)] h K:=
 cQ Tryz.func141 H
def F71 (K:kQ) (h:A2) (xa:rQ):Prop:=
 (D4 (!(Option.isNone xa)) (nP xa λa=>lP h (a.add 16) λa=>K (dQ (!(Option.isNone a))) h) (K (dQ false) h))
theorem call71 {xa:rQ} (H:F71 K h xa):A4 prog 71 #[(pQ xa)] h K:=
 cQ Tryz.func71 H
def F147 (K:kQ) (h:A2) (xa:rQ) (xb:Int):Prop:=
 (cf 208 #[pQ xa,lQ (some (aQ h.size)) 1 1] (h.push (oQ #[iQ xb] 3)) λa b=>asBool a λa=>D4 (!a) (K (uQ 0) b) (nP xa λa=>lP b (a.add 15) λa=>cf 209 #[pQ a,iQ xb] b λa b=>J3 a λc=>D9 c 0 λc=>asInt .u64 c λc=>J3 a λa=>D9 a 1 λa=>asInt .i64 a λa=>cf 210 #[pQ xa,iQ a] b λa a=>K (uQ c) a))
theorem call147 {xa:rQ} {xb:Int} (H:F147 K h xa xb):A4 prog 147 #[(pQ xa),(iQ xb)] h K:=
 cQ Tryz.func147 H
def F188 (K:kQ) (h:A2) (xa:rQ) (xb xc:Int):Prop:=
 (cf 208 #[pQ xa,lQ (some (aQ h.size)) 1 1] (h.push (oQ #[iQ xb] 3)) λa b=>asBool a λa=>D4 (!a) (K (uQ 0) b) (nP xa λa=>lP b (a.add 15) λa=>cf 272 #[pQ a,iQ xb,uQ xc] b λa b=>J3 a λc=>D9 c 0 λc=>asInt .u64 c λc=>J3 a λa=>D9 a 1 λa=>asInt .i64 a λa=>cf 210 #[pQ xa,iQ a] b λa a=>K (uQ c) a))
theorem call188 {xa:rQ} {xb xc:Int} (H:F188 K h xa xb xc):A4 prog 188 #[(pQ xa),(iQ xb),(uQ xc)] h K:=
 cQ Tryz.func188 H
abbrev g79 (K:kQ) (h H1:A2) (xa:rQ):Prop:=
 (D4 (Option.isNone xa) (Yi H1 h.size (iQ 0) (iQ 0) (iQ 0) (iQ 0) (iQ 0) (iQ 0) (iQ 0) (iQ 0) (iQ 0) (iQ 0) (iQ 0) (iQ 0) (iQ 0) (iQ 0) (iQ 0) λa=>BO a h.size λb c d e f g i j k l m n o p q=>K (.agg #[b,c,d,e,f,g,i,j,k,l,m,n,o,p,q]) a) (nP xa λa=>S13 H1 a λa b c d e f g i j k l m n o p=>Yi H1 h.size a b c d e f g i j k l m n o p λa=>BO a h.size λb c d e f g i j k l m n o p q=>K (.agg #[b,c,d,e,f,g,i,j,k,l,m,n,o,p,q]) a))
def F79 (K:kQ) (h:A2) (xa:rQ):Prop:=
 (g79 K h (h.push (oQ AA 117)) xa)
theorem call79 {xa:rQ} (H:F79 K h xa):A4 prog 79 #[(pQ xa)] h K:=
 cQ Tryz.func79 H
def F212 (K:kQ) (h:A2) (xa:rQ) (xb xc:Int):Prop:=
 (cf 208 #[pQ xa,lQ (some (aQ h.size)) 1 1] (h.push (oQ #[iQ xb] 3)) λa b=>asBool a λa=>D4 a (nP xa λa=>lP b (a.add 15) λa=>cf 140 #[pQ a,iQ xb,uQ xc] b λa c=>asInt .i64 a λa=>cf 210 #[pQ xa,iQ a] c λa a=>K tQ a) (K tQ b))
theorem call212 {xa:rQ} {xb xc:Int} (H:F212 K h xa xb xc):A4 prog 212 #[(pQ xa),(iQ xb),(uQ xc)] h K:=
 cQ Tryz.func212 H
def F214 (K:kQ) (h:A2) (xa:rQ):Prop:=
 (D4 (Option.isNone xa) (K (pQ none) h) (nP xa λa=>lP h (a.add 17) λa=>K (pQ a) h))
theorem call214 {xa:rQ} (H:F214 K h xa):A4 prog 214 #[(pQ xa)] h K:=
 cQ Tryz.func214 H
def F219 (K:kQ) (h:A2) (xa:rQ) (xb xc xd:Int):Prop:=
 (cf 208 #[pQ xa,lQ (some (aQ h.size)) 1 1] (h.push (oQ #[iQ xb] 3)) λa b=>asBool a λa=>D4 (!a) (K (dQ false) b) (nP xa λa=>lP b (a.add 15) λa=>cf 281 #[pQ a,iQ xb,uQ xc,uQ xd] b λa b=>J3 a λc=>D9 c 0 λc=>asBool c λc=>J3 a λa=>D9 a 1 λa=>asInt .i64 a λa=>cf 210 #[pQ xa,iQ a] b λa a=>K (dQ c) a))
theorem call219 {xa:rQ} {xb xc xd:Int} (H:F219 K h xa xb xc xd):A4 prog 219 #[(pQ xa),(iQ xb),(uQ xc),(uQ xd)] h K:=
 cQ Tryz.func219 H
def F208 (K:kQ) (h:A2) (xa xb:rQ) (xc xd:Nat):Prop:=
 (D4 (Option.isNone xa) (K (dQ false) h) (nP xa λa=>C7 h (a.add 19) (dQ true) λa=>R3 λI2=>GI λm3=>(I2 [tQ,tQ,tQ,tQ,iQ 0,tQ] a)/\(∀(a b c d e f:vQ) (g:G4) (g:A2),(I2 [a,b,c,d,e,f] g)->(asInt .i64 e λi=>D4 (decide (i < ((xc:Nat):Int))) (Il e λi=>bd i ((xc:Nat):Int) (F3 (pQ xb) λj=>lI .i64 g (j.add (i.toNat*1)) λi=>nP xa λj=>S13 g j λj k l m n o p q r s t u v w x=>cf 80 #[.agg #[j,k,l,m,n,o,p,q,r,s,t,u,v,w,x],iQ i] g λj k=>J3 j λl=>D9 l 0 λl=>asInt .i64 l λl=>J3 j λm=>D9 m 1 λm=>asInt .i64 m λm=>J3 j λn=>D9 n 2 λn=>asInt .i64 n λn=>R3 λI44=>(D4 (l == 3) (nP xa λo=>lP k (o.add 16) λo=>I44 [dQ (!(Option.isNone o))] k) (I44 [dQ false] k))/\(∀(k:vQ) (o:G4) (o:A2),(I44 [k] o)->(asBool k λk=>D4 k (nP xa λk=>lP o (k.add 16) λk=>cf 279 #[pQ k,iQ m] o λk p=>asBool k λk=>asInt .i64 e λk=>(I2 [iQ i,iQ l,iQ m,iQ n,iQ (wrap .i64 (k+1)),j] p)/\((m3 [iQ i,iQ l,iQ m,iQ n,iQ (wrap .i64 (k+1)),j] p) < (m3 [a,b,c,d,e,f] g))) (asInt .i64 e λk=>(I2 [iQ i,iQ l,iQ m,iQ n,iQ (wrap .i64 (k+1)),j] o)/\((m3 [iQ i,iQ l,iQ m,iQ n,iQ (wrap .i64 (k+1)),j] o) < (m3 [a,b,c,d,e,f] g))))))) (K (dQ true) g)))))
theorem call208 {xa xb:rQ} {xc xd:Nat} (H:F208 K h xa xb xc xd):A4 prog 208 #[(pQ xa),(lQ xb xc xd)] h K:=
 cQ Tryz.func208 H
def F210 (K:kQ) (h:A2) (xa:rQ) (xb:Int):Prop:=
 (nP xa λa=>D2 h (a.add 20) λa=>asBool a λa=>D4 a (nP xa λa=>C7 h (a.add 20) (dQ true) λa=>K tQ a) (nP xa λa=>C7 h (a.add 20) (dQ (xb != 0)) λa=>K tQ a))
theorem call210 {xa:rQ} {xb:Int} (H:F210 K h xa xb):A4 prog 210 #[(pQ xa),(iQ xb)] h K:=
 cQ Tryz.func210 H
def F227 (K:kQ) (h:A2) (xa:rQ) (xb xc xd xe xf:Int):Prop:=
 (cf 208 #[pQ xa,lQ (some (aQ h.size)) 2 2] (h.push (oQ #[iQ xb,iQ xe] 3)) λa b=>asBool a λa=>D4 (!a) (K (dQ false) b) (nP xa λa=>lP b (a.add 15) λa=>cf 284 #[pQ a,iQ xb,uQ xc,uQ xd,iQ xe,uQ xf] b λa b=>J3 a λc=>D9 c 0 λc=>asBool c λc=>J3 a λa=>D9 a 1 λa=>asInt .i64 a λa=>cf 210 #[pQ xa,iQ a] b λa a=>K (dQ c) a))
theorem call227 {xa:rQ} {xb xc xd xe xf:Int} (H:F227 K h xa xb xc xd xe xf):A4 prog 227 #[(pQ xa),(iQ xb),(uQ xc),(uQ xd),(iQ xe),(uQ xf)] h K:=
 cQ Tryz.func227 H
def F229 (K:kQ) (h:A2) (xa:rQ) (xb xc xd xe xf xg:Int):Prop:=
 (cf 208 #[pQ xa,lQ (some (aQ h.size)) 2 2] (h.push (oQ #[iQ xb,iQ xe] 3)) λa b=>asBool a λa=>D4 (!a) (K (dQ false) b) (nP xa λa=>lP b (a.add 15) λa=>cf 286 #[pQ a,iQ xb,uQ xc,uQ xd,iQ xe,uQ xf,uQ xg] b λa b=>J3 a λc=>D9 c 0 λc=>asBool c λc=>J3 a λa=>D9 a 1 λa=>asInt .i64 a λa=>cf 210 #[pQ xa,iQ a] b λa a=>K (dQ c) a))
theorem call229 {xa:rQ} {xb xc xd xe xf xg:Int} (H:F229 K h xa xb xc xd xe xf xg):A4 prog 229 #[(pQ xa),(iQ xb),(uQ xc),(uQ xd),(iQ xe),(uQ xf),(uQ xg)] h K:=
 cQ Tryz.func229 H
def F234 (K:kQ) (h:A2) (xa:rQ) (xb:Int):Prop:=
 (cf 71 #[pQ xa] h λa b=>asBool a λa=>D4 a (nP xa λa=>lP b (a.add 16) λa=>cf 288 #[pQ a,iQ xb] b λa c=>asBool a λa=>K tQ c) (K tQ b))
theorem call234 {xa:rQ} {xb:Int} (H:F234 K h xa xb):A4 prog 234 #[(pQ xa),(iQ xb)] h K:=
 cQ Tryz.func234 H
def F294 (K:kQ) (h:A2) (xa:rQ) (xb:Int):Prop:=
 (cf 71 #[pQ xa] h λa b=>asBool a λa=>D4 a (nP xa λa=>lP b (a.add 16) λa=>cf 306 #[pQ a,iQ xb] b λa c=>asBool a λa=>K tQ c) (K tQ b))
theorem call294 {xa:rQ} {xb:Int} (H:F294 K h xa xb):A4 prog 294 #[(pQ xa),(iQ xb)] h K:=
 cQ Tryz.func294 H
def F295 (K:kQ) (h:A2) (xa:rQ) (xb:Int):Prop:=
 (cf 71 #[pQ xa] h λa b=>asBool a λa=>D4 a (nP xa λa=>lP b (a.add 16) λa=>cf 307 #[pQ a,iQ xb] b λa c=>asBool a λa=>K tQ c) (K tQ b))
theorem call295 {xa:rQ} {xb:Int} (H:F295 K h xa xb):A4 prog 295 #[(pQ xa),(iQ xb)] h K:=
 cQ Tryz.func295 H
end
section
open Mod
variable {K:kQ} {h:A2}
abbrev mP (M:Nat):vQ:=pQ (some (aQ M))
def ghV (g:Option Gh) (q:Nat):vQ:=pQ (if g.isSome then some (aQ q) else none)
abbrev JV (tv:vQ) (q gq fq:Nat) (s:Mac):List vQ:=[iQ s.p.c.algo,iQ s.p.c.threads,iQ s.p.c.nodes,iQ s.p.c.level,iQ s.p.c.batch,iQ s.p.c.probes,iQ s.p.c.scan,iQ s.p.slots,iQ s.p.width,iQ s.p.sent,iQ s.p.hazards,iQ s.p.links,iQ s.p.nodes,iQ s.p.tree,iQ s.p.size,
 mP q,ghV s.g gq,mP fq,tv,dQ s.acted,dQ s.bad]
def M9 (M:Nat) (tv:vQ) (s:Mac):Hp:=ex λq=>ex λgq=>ex λfq=>pr (Ow s.p) (pt M (oQ (JV tv q gq fq s).toArray 122)*(R7 q s.mm*(RH s.g gq*Pf fq s.b s.used)))
theorem L5 {h:A2} {M:Nat} {tv:vQ} {s:Mac} {R:Hp}:A9 h (M9 M tv s*R)↔∃q gq fq,Ow s.p/\A9 h (pt M (oQ (JV tv q gq fq s).toArray 122)*(R7 q s.mm*(RH s.g gq*(Pf fq s.b s.used*R)))):=by
 unfold M9
 simp only [A9.ex,A9.pr,F2]
theorem Sg5 {h:A2} {M:Nat} {tv:vQ} {s:Mac} {R:Hp} (H:A9 h (M9 M tv s*R)):Ow s.p:=by obtain ⟨_,_,_,x,_⟩:=L5.1 H;exact x
theorem X9 {M:Nat} {tv:vQ} {s:Mac} {R:Hp} {e:Int} (H:A9 h (M9 M tv s*R)) (k:∀h',A9 h' (M9 M tv { s with bad:=s.bad || decide (e≠0) }*R)->K tQ h') :
  A4 prog 210 #[mP M,iQ e] h K:=by
 refine call210 ?_
 unfold F210 nP
 obtain ⟨q,gq,fq,B,H0⟩:=L5.1 H
 simp only [G5,D0,E2]
 refine H0.ld rfl ?_
 simp only [C0]
 have fin:∀(bb:Bool),bb=(s.bad || decide (e≠0))->C7 h ⟨M,0+20,none⟩ (dQ bb) (λh'=>K tQ h'):=by
  intro bb hb
  refine H0.st rfl trivial λh' H'=>k h' (L5.2 ⟨q,gq,fq,B,?_⟩)
  rw [<- hb];exact H'
 refine D1 (λhb=>fin true (by rw [hb];rfl)) (λhb=>fin (e != 0) (by
  rw [hb,Oy,QU,bne_iff_ne,decide_eq_true_iff]))
theorem Mp (s:Mac) (a:Int):(s.touch a).acted=true:=by unfold Mac.touch;split <;> rfl
theorem UB (s:Mac) (l:List Int) (h:s.acted=true):(l.foldl Mac.touch s).acted=true:=by
 induction l generalizing s with
 | nil=>exact h
 | cons a l ih=>exact ih _ (Mp s a)
theorem Ql (s:Mac) (a:Int):({ s with acted:=true }:Mac).touch a=s.touch a:=by
 unfold Mac.touch
 cases h:s.p.within a <;> simp [h]
theorem BF (s:Mac) (a:Int):(s.touch a).mm=s.mm/\(s.touch a).bad=s.bad/\(s.touch a).b=s.b/\(s.touch a).used=s.used/\(s.touch a).th=s.th:=by unfold Mac.touch;split <;> exact ⟨rfl,rfl,rfl,rfl,rfl⟩
theorem Sp1 {p:Pl} (B:Ow p) {x n:Int} (hx:iN x) (hw:p.within x=some n):iN n:=by
 have b1:=B.wi
 have b3:=B.tr
 have b4:=B.nd
 have b5:=B.li
 unfold Pl.within at hw
 split at hw
 ·rename_i hh
  cases hw
  have hd0:0<=(x - p.nodes) / p.width:=Sk2 (by omega) (by omega)
  have hd1:(x - p.nodes) / p.width<=x - p.nodes:=Sk1 _ (by omega)
  exact ⟨by omega,by omega⟩
 ·cases hw
theorem Nw {M N:Nat} {tv:vQ} {s:Mac} {R:Hp} {ty:TypeId} {l:Nat} {xs:List Int} (H:A9 h (M9 M tv s*(pt N (oQ (xs.map iv).toArray ty)*R))) (hl:xs.length=l) (hl2:l<=2) (hx:∀x ∈ xs,iN x)
  (k:∀h',A9 h' (M9 M tv (xs.foldl Mac.touch { s with acted:=true })*R)->K (dQ true) h') :
  A4 prog 208 #[mP M,lQ (some (aQ N)) l l] h K:=by
 refine call208 ?_
 unfold F208 cf bd lP lI nP S13
 obtain ⟨q,gq,fq,B,H0⟩:=L5.1 H
 simp only [Dh,E7,G5,D0,E2]
 refine H0.st rfl trivial λh1 H01=>?_
 have H1:A9 h1 (M9 M tv { s with acted:=true }*(pt N (oQ (xs.map iv).toArray ty)*R)):=L5.2 ⟨q,gq,fq,B,H01⟩
 generalize hs0:({ s with acted:=true }:Mac)=s0 at *
 have hac:s0.acted=true:=by rw [<- hs0]
 refine ⟨λvs h'=>∃w1 w2 w3 w4 w5,∃i:Nat,vs = [w1,w2,w3,w4,iv i,w5]/\i<=l/\A9 h' (M9 M tv ((xs.take i).foldl Mac.touch s0)*(pt N (.cells (xs.map iv).toArray ty)*R)),λvs _=>(match vs with | [_,_,_,_,.int _ n,_]=>l - n.toNat | _=>0),⟨_,_,_,_,_,0,rfl,T4 _,H1⟩,?_⟩
 rintro v4 v5 v6 v7 v8 v9 g10 h11 ⟨w1,w2,w3,w4,w5,i,e,hi,H11⟩
 cases e
 simp only [A5,Db]
 refine A6 (λhlt=>?_) (λhge=>?_)
 rotate_left
 ·rw [Dg (by omega)] at H11
  exact k h11 H11.drop2
 have hi':i < xs.length:=by omega
 have htk:(xs.take (i+1)).foldl Mac.touch s0=((xs.take i).foldl Mac.touch s0).touch xs[i]:=by rw [Ab hi',Td];rfl
 have hxi:=hx _ (CD hi')
 have hact:=UB s0 (xs.take i) hac
 have hcell:A3 h11 ⟨N,i,none⟩=some (iv xs[i]):=by rw [E5 H11.at2];simp [hi']
 generalize (xs.take i).foldl Mac.touch s0=t at *
 generalize xs[i]=x at *
 refine ⟨by omega,hlt,?_⟩
 simp only [D0,X5,BQ]
 rw [show 0+i=i by omega]
 refine C6 hcell ?_
 simp only [A5]
 obtain ⟨q,gq,fq,B,H12⟩:=L5.1 H11
 have O:=H12.at
 refine C4 O rfl (C4 O rfl (C4 O rfl (C4 O rfl (C4 O rfl (C4 O rfl (C4 O rfl (C4 O rfl (C4 O rfl (C4 O rfl (C4 O rfl (C4 O rfl (C4 O rfl (C4 O rfl (C4 O rfl ?_))))))))))))))
 have back:∀ {v1 v2 v3 v4 v5:vQ} (h2:A2),A9 h2 (M9 M tv (t.touch x)*(pt N (oQ (xs.map iv).toArray ty)*R))->(∃w1 w2 w3 w4 w5,∃i2:Nat,[v1,v2,v3,v4,Value.int .i64 (wrap .i64 ((i:Int)+1)),v5] = [w1,w2,w3,w4,iv i2,w5]/\i2<=l/\A9 h2 (M9 M tv ((xs.take i2).foldl Mac.touch s0)*(pt N (oQ (xs.map iv).toArray ty)*R))):=by
  intro v1 v2 v3 v4 v5 h2 H2
  rw [N8 (by omega)]
  exact ⟨_,_,_,_,_,i+1,rfl,by omega,by rw [htk];exact H2⟩
 have dec:(l - (wrap .i64 ((i:Int)+1)).toNat) < l - (i:Int).toNat:=by
  rw [N8 (by omega)];omega
 refine A0 (RE B hxi (λn y h34 hw o34=>?_) (λqk n y h34 hw hq o34=>?_))
 ·simp only [M4]
  refine D5 rfl ?_
  simp only [A5]
  refine D5 rfl ?_
  simp only [A5]
  refine D5 rfl ?_
  simp only [A5]
  have H34:=H12.old o34
  have hnB:=Sp1 B hxi hw
  refine ⟨λvs h'=>vs = [dQ t.g.isSome]/\h' = h34,?_,?_⟩
  ·rw [show ((3:Int) == 3)=true from rfl]
   simp only [G6]
   refine H34.ld rfl ?_
   unfold ghV
   simp only [M3]
   refine ⟨?_,by trivial⟩
   cases t.g <;> rfl
  rintro v48 g49 h50 ⟨e,rfl⟩
  cases e
  simp only [C0]
  cases hg:t.g with
  | none=>
   simp only [Tm,E7]
   have et:t.touch x=t:=by unfold Mac.touch;rw [hw];cases t;simp_all
   exact ⟨back h50 (by rw [et];exact L5.2 ⟨q,gq,fq,B,H34⟩),dec⟩
  | some g=>
   simp only [Le,G6]
   refine H34.ld rfl ?_
   unfold ghV
   simp only [hg,Le,if_true,M3]
   rw [hg] at H34
   rw [Jk] at H34
   refine A0 (RJ H34 hnB λbb h56 G56=>?_)
   simp only [C0]
   have et:t.touch x = { t with g:=some (g.touch n) }:=by unfold Mac.touch;rw [hw];cases t;simp_all
   refine ⟨back h56 ?_,dec⟩
   rw [et]
   refine L5.2 ⟨q,gq,fq,B,?_⟩
   rw [Jk]
   have eC:JV tv q gq fq ({ t with g:=some (g.touch n) }:Mac)=JV tv q gq fq t:=by
    unfold JV ghV
    simp only [hg,Le]
   rw [eC]
   exact G56
 ·simp only [M4]
  refine D5 rfl ?_
  simp only [A5]
  refine D5 rfl ?_
  simp only [A5]
  refine D5 rfl ?_
  simp only [A5]
  have H34:=H12.old o34
  refine ⟨λvs h'=>vs = [dQ false]/\h' = h34,?_,?_⟩
  ·rw [show (qk == 3)=false by rw [beq_eq_false_iff_ne];exact hq]
   exact ⟨rfl,by trivial⟩
  rintro v48 g49 h50 ⟨e,rfl⟩
  cases e
  simp only [C0,E7]
  have et:t.touch x=t:=by unfold Mac.touch;rw [hw];cases t;simp_all
  exact ⟨back h50 (by rw [et];exact L5.2 ⟨q,gq,fq,B,H34⟩),dec⟩
theorem Fg {M:Nat} {tv:vQ} {s:Mac} {R:Hp} {a:Int} (H:A9 h (M9 M tv s*R)) (ha:iN a)
  (k:∀h',A9 h' (M9 M tv (s.touch a)*R)->K (dQ true) h') :
  A4 prog 208 #[mP M,lQ (some (aQ h.size)) 1 1] (h.push (oQ #[iQ a] 3)) K:=by
 have H1:=H.push (oQ ([a].map iv).toArray 3)
 rw [D8] at H1
 refine Nw (xs:=[a]) H1 rfl (by omega) (λx hx=>by rw [Fq.1 hx];exact ha) λh' H'=>?_
 rw [Te,List.foldl_nil,Ql] at H'
 exact k h' H'
theorem Lw {M:Nat} {tv:vQ} {s:Mac} {R:Hp} {a b:Int} (H:A9 h (M9 M tv s*R)) (ha:iN a) (hb:iN b)
  (k:∀h',A9 h' (M9 M tv ((s.touch a).touch b)*R)->K (dQ true) h') :
  A4 prog 208 #[mP M,lQ (some (aQ h.size)) 2 2] (h.push (oQ #[iQ a,iQ b] 3)) K:=by
 have H1:=H.push (oQ ([a,b].map iv).toArray 3)
 rw [D8] at H1
 refine Nw (xs:=[a,b]) H1 rfl (by omega) (λx hx=>?_) λh' H'=>?_
 ·simp only [ED,GF,or_false] at hx
  rcases hx with rfl | rfl
  ·exact ha
  ·exact hb
 ·rw [Te,Te,List.foldl_nil,Ql] at H'
  exact k h' H'
theorem Ep {h:A2} {M:Nat} {tv:vQ} {s:Mac} {R:Hp} (H:A9 h (M9 M tv s*R)):∃q R',A3 h ⟨M,15,none⟩=some (mP q)/\A9 h (R7 q s.mm*R')/\∀h' m',A9 h' (R7 q m' * R')->A9 h' (M9 M tv (s.setM m')*R):=by
 obtain ⟨q,gq,fq,B,H0⟩:=L5.1 H
 refine ⟨q,_,F6 H0.at rfl,D8 _ _ _ ▸ H0,λh' m' H'=>L5.2 ⟨q,gq,fq,B,?_⟩⟩
 rw [D8] at H'
 exact H'
theorem Ny {M:Nat} {tv:vQ} {s:Mac} {R:Hp} {a:Int} (H:A9 h (M9 M tv s*R)) (ha:iN a) (hs:s.mm.st < 1099511627776)
  (k:∀h',A9 h' (M9 M tv (s.load a).2*R)->U (s.load a).1->K (uQ (s.load a).1) h') :
  A4 prog 147 #[mP M,iQ a] h K:=by
 refine call147 ?_
 unfold F147 cf lP nP
 refine A0 (Fg H ha λh1 H1=>?_)
 simp only [C0,IV,E7,G5,D0,E2]
 obtain ⟨q,R',e0,HM,re⟩:=Ep H1
 refine C6 e0 ?_
 simp only [M3]
 unfold Mac.load at k
 rw [<- (BF s a).1] at hs
 have BU:=(SK6 HM).get a
 generalize s.touch a=t at *
 refine A0 (Yz HM hs (λhok h7 H7=>?_) (λhok h7 H7=>?_))
 ·simp only [M4]
  refine D5 rfl ?_
  simp only [A5]
  refine D5 rfl ?_
  simp only [A5]
  refine A0 (X9 (re h7 _ H7) λh15 H15=>?_)
  simp only [hok,if_true] at k
  exact k h15 (by simpa using H15) BU
 ·simp only [M4]
  refine D5 rfl ?_
  simp only [A5]
  refine D5 rfl ?_
  simp only [A5]
  refine A0 (X9 (re h7 _ H7) λh15 H15=>?_)
  simp only [hok,Cd,if_false] at k
  exact k h15 (by simpa [Mac.fail,Mac.setM] using H15) ⟨by omega,by omega⟩
theorem UC {M:Nat} {tv:vQ} {s:Mac} {R:Hp} {a v:Int} (H:A9 h (M9 M tv s*R)) (ha:iN a) (hv:U v) (hs:s.mm.st < 1099511627776)
  (k:∀h',A9 h' (M9 M tv (s.store a v)*R)->K tQ h') :
  A4 prog 212 #[mP M,iQ a,uQ v] h K:=by
 refine call212 ?_
 unfold F212 cf lP nP
 refine A0 (Fg H ha λh1 H1=>?_)
 simp only [C0,G6,G5,D0,E2]
 obtain ⟨q,R',e0,HM,re⟩:=Ep H1
 refine C6 e0 ?_
 simp only [M3]
 unfold Mac.store at k
 rw [<- (BF s a).1] at hs
 generalize s.touch a=t at *
 refine A0 (Lu HM hv hs (λhok h7 H7=>?_) (λhok h7 H7=>?_))
 ·simp only [A5]
  refine A0 (X9 (re h7 _ H7) λh15 H15=>?_)
  simp only [hok,if_true] at k
  exact k h15 (by simpa using H15)
 ·simp only [A5]
  refine A0 (X9 (re h7 _ H7) λh15 H15=>?_)
  simp only [hok,Cd,if_false] at k
  exact k h15 (by simpa [Mac.fail,Mac.setM] using H15)
theorem Sp2 {M:Nat} {tv:vQ} {s:Mac} {R:Hp} {a o n:Int} (H:A9 h (M9 M tv s*R)) (ha:iN a) (hn:U n) (hs:s.mm.st < 1099511627776)
  (k:∀h',A9 h' (M9 M tv (s.cas a o n).2*R)->K (dQ (s.cas a o n).1) h') :
  A4 prog 219 #[mP M,iQ a,uQ o,uQ n] h K:=by
 refine call219 ?_
 unfold F219 cf lP nP
 refine A0 (Fg H ha λh1 H1=>?_)
 simp only [C0,IV,E7,G5,D0,E2]
 obtain ⟨q,R',e0,HM,re⟩:=Ep H1
 refine C6 e0 ?_
 simp only [M3]
 unfold Mac.cas at k
 rw [<- (BF s a).1] at hs
 generalize s.touch a=t at *
 refine A0 (So9 HM hn hs (λhok h7 H7=>?_) (λhok h7 H7=>?_))
 ·simp only [M4]
  refine D5 rfl ?_
  simp only [C0]
  refine D5 rfl ?_
  simp only [A5]
  refine A0 (X9 (re h7 _ H7) λh15 H15=>?_)
  simp only [hok,if_true] at k
  exact k h15 (by simpa using H15)
 ·simp only [M4]
  refine D5 rfl ?_
  simp only [C0]
  refine D5 rfl ?_
  simp only [A5]
  refine A0 (X9 (re h7 _ H7) λh15 H15=>?_)
  simp only [hok,Cd,if_false] at k
  exact k h15 (by simpa [Mac.fail,Mac.setM] using H15)
theorem Sp3 {M:Nat} {tv:vQ} {s:Mac} {R:Hp} {a d:Int} (H:A9 h (M9 M tv s*R)) (ha:iN a) (hs:s.mm.st < 1099511627776)
  (k:∀h',A9 h' (M9 M tv (s.add a d).2*R)->U (s.add a d).1->K (uQ (s.add a d).1) h') :
  A4 prog 188 #[mP M,iQ a,uQ d] h K:=by
 refine call188 ?_
 unfold F188 cf lP nP
 refine A0 (Fg H ha λh1 H1=>?_)
 simp only [C0,IV,E7,G5,D0,E2]
 obtain ⟨q,R',e0,HM,re⟩:=Ep H1
 refine C6 e0 ?_
 simp only [M3]
 unfold Mac.add at k
 rw [<- (BF s a).1] at hs
 have BU:=(SK6 HM).get a
 generalize s.touch a=t at *
 refine A0 (So8 HM hs (λhok h7 H7=>?_) (λhok h7 H7=>?_))
 ·simp only [M4]
  refine D5 rfl ?_
  simp only [A5]
  refine D5 rfl ?_
  simp only [A5]
  refine A0 (X9 (re h7 _ H7) λh15 H15=>?_)
  simp only [hok,if_true] at k
  exact k h15 (by simpa using H15) BU
 ·simp only [M4]
  refine D5 rfl ?_
  simp only [A5]
  refine D5 rfl ?_
  simp only [A5]
  refine A0 (X9 (re h7 _ H7) λh15 H15=>?_)
  simp only [hok,Cd,if_false] at k
  exact k h15 (by simpa [Mac.fail,Mac.setM] using H15) ⟨by omega,by omega⟩
theorem YD {M:Nat} {tv:vQ} {s:Mac} {R:Hp} {a o n a2 o2:Int} (H:A9 h (M9 M tv s*R)) (ha:iN a) (ha2:iN a2) (hn:U n) (hs:s.mm.st < 1099511627776)
  (k:∀h',A9 h' (M9 M tv (s.dcss a o n a2 o2).2*R)->K (dQ (s.dcss a o n a2 o2).1) h') :
  A4 prog 227 #[mP M,iQ a,uQ o,uQ n,iQ a2,uQ o2] h K:=by
 refine call227 ?_
 unfold F227 cf lP nP
 refine A0 (Lw H ha ha2 λh1 H1=>?_)
 simp only [C0,IV,E7,G5,D0,E2]
 obtain ⟨q,R',e0,HM,re⟩:=Ep H1
 refine C6 e0 ?_
 simp only [M3]
 unfold Mac.dcss at k
 rw [<- (BF s a).1,<- (BF (s.touch a) a2).1] at hs
 generalize (s.touch a).touch a2=t at *
 refine A0 (YA HM hn hs (λhok hok2 h7 H7=>?_) (λhok h7 H7=>?_))
 ·simp only [M4]
  refine D5 rfl ?_
  simp only [C0]
  refine D5 rfl ?_
  simp only [A5]
  refine A0 (X9 (re h7 _ H7) λh15 H15=>?_)
  simp only [hok,hok2,and_self,if_true] at k
  exact k h15 (by simpa using H15)
 ·simp only [M4]
  refine D5 rfl ?_
  simp only [C0]
  refine D5 rfl ?_
  simp only [A5]
  refine A0 (X9 (re h7 _ H7) λh15 H15=>?_)
  rw [A7 hok] at k
  exact k h15 (by simpa [Mac.fail,Mac.setM] using H15)
theorem YE {M:Nat} {tv:vQ} {s:Mac} {R:Hp} {a o n a2 o2 n2:Int} (H:A9 h (M9 M tv s*R)) (ha:iN a) (ha2:iN a2) (hn:U n) (hn2:U n2) (hs:s.mm.st < 1099511627776)
  (k:∀h',A9 h' (M9 M tv (s.dcas a o n a2 o2 n2).2*R)->K (dQ (s.dcas a o n a2 o2 n2).1) h') :
  A4 prog 229 #[mP M,iQ a,uQ o,uQ n,iQ a2,uQ o2,uQ n2] h K:=by
 refine call229 ?_
 unfold F229 cf lP nP
 refine A0 (Lw H ha ha2 λh1 H1=>?_)
 simp only [C0,IV,E7,G5,D0,E2]
 obtain ⟨q,R',e0,HM,re⟩:=Ep H1
 refine C6 e0 ?_
 simp only [M3]
 unfold Mac.dcas at k
 rw [<- (BF s a).1,<- (BF (s.touch a) a2).1] at hs
 generalize (s.touch a).touch a2=t at *
 refine A0 (YB HM hn hn2 hs (λhok hok2 hne h7 H7=>?_) (λhok h7 H7=>?_))
 ·simp only [M4]
  refine D5 rfl ?_
  simp only [C0]
  refine D5 rfl ?_
  simp only [A5]
  refine A0 (X9 (re h7 _ H7) λh15 H15=>?_)
  rw [A8 ⟨hok,hok2,hne⟩] at k
  exact k h15 (by simpa using H15)
 ·simp only [M4]
  refine D5 rfl ?_
  simp only [C0]
  refine D5 rfl ?_
  simp only [A5]
  refine A0 (X9 (re h7 _ H7) λh15 H15=>?_)
  rw [A7 hok] at k
  exact k h15 (by simpa [Mac.fail,Mac.setM] using H15)
end
section
open Mod
variable {K:kQ} {h:A2}
theorem DQ {M:Nat} {tv:vQ} {s:Mac} {R:Hp} (H:A9 h (M9 M tv s*R)) (k:K (dQ s.g.isSome) h):A4 prog 71 #[mP M] h K:=by
 refine call71 ?_
 unfold F71 lP nP
 obtain ⟨q,gq,fq,B,H0⟩:=L5.1 H
 simp only [Dh,MF,G6,G5,D0,E2]
 refine H0.ld rfl ?_
 unfold ghV
 simp only [M3]
 cases hg:s.g with
 | none=>rw [hg] at k;exact k
 | some g=>rw [hg] at k;exact k
theorem Mv {h:A2} {M:Nat} {tv:vQ} {s:Mac} {R:Hp} {g:Gh} (H:A9 h (M9 M tv s*R)) (hg:s.g=some g):∃q R',A3 h ⟨M,16,none⟩=some (mP q)/\A9 h (RH (some g) q*R')/\∀h' g',A9 h' (RH (some g') q*R')->A9 h' (M9 M tv { s with g:=some g' }*R):=by
 obtain ⟨q,gq,fq,B,H0⟩:=L5.1 H
 refine ⟨gq,_,?_,by rw [Jk,hg] at H0;exact H0,λh' g' H'=>L5.2 ⟨q,gq,fq,B,?_⟩⟩
 ·have:=F6 (i:=16) H0.at rfl
  unfold ghV at this
  simpa [hg] using this
 ·rw [Jk]
  have eC:JV tv q gq fq ({ s with g:=some g' }:Mac)=JV tv q gq fq s:=by unfold JV ghV;simp only [hg,Le]
  rw [eC]
  exact H'
theorem Sp4 {M:Nat} {tv:vQ} {s:Mac} {R:Hp} {i:Int} (H:A9 h (M9 M tv s*R)) (hi:iN i) (k:∀h',A9 h' (M9 M tv (s.gh λg=>g.turn i 0 1 1)*R)->K tQ h') :
  A4 prog 294 #[mP M,iQ i] h K:=by
 refine call294 ?_
 unfold F294 cf lP nP
 refine A0 (DQ H ?_)
 simp only [C0]
 unfold Mac.gh at k
 cases hg:s.g with
 | none=>
  simp only [Tm,E7]
  have e:({ s with g:=none }:Mac)=s:=by cases s;simp_all
  exact k h (by simpa [hg,e] using H)
 | some g=>
  obtain ⟨q,R',e0,HG,re⟩:=Mv H hg
  simp only [Le,G6,G5,D0,E2]
  refine C6 e0 ?_
  simp only [M3]
  refine A0 (RK HG hi λbb h7 G7=>?_)
  simp only [C0]
  exact k h7 (by simpa [hg] using re h7 _ G7)
theorem Sp5 {M:Nat} {tv:vQ} {s:Mac} {R:Hp} {i:Int} (H:A9 h (M9 M tv s*R)) (hi:iN i) (k:∀h',A9 h' (M9 M tv (s.gh λg=>g.turn i 1 2 2)*R)->K tQ h') :
  A4 prog 234 #[mP M,iQ i] h K:=by
 refine call234 ?_
 unfold F234 cf lP nP
 refine A0 (DQ H ?_)
 simp only [C0]
 unfold Mac.gh at k
 cases hg:s.g with
 | none=>
  simp only [Tm,E7]
  have e:({ s with g:=none }:Mac)=s:=by cases s;simp_all
  exact k h (by simpa [hg,e] using H)
 | some g=>
  obtain ⟨q,R',e0,HG,re⟩:=Mv H hg
  simp only [Le,G6,G5,D0,E2]
  refine C6 e0 ?_
  simp only [M3]
  refine A0 (Pe HG hi λbb h7 G7=>?_)
  simp only [C0]
  exact k h7 (by simpa [hg] using re h7 _ G7)
theorem YF {M:Nat} {tv:vQ} {s:Mac} {R:Hp} {i:Int} (H:A9 h (M9 M tv s*R)) (hi:iN i) (k:∀h',A9 h' (M9 M tv (s.gh λg=>g.turn i 2 0 3)*R)->K tQ h') :
  A4 prog 295 #[mP M,iQ i] h K:=by
 refine call295 ?_
 unfold F295 cf lP nP
 refine A0 (DQ H ?_)
 simp only [C0]
 unfold Mac.gh at k
 cases hg:s.g with
 | none=>
  simp only [Tm,E7]
  have e:({ s with g:=none }:Mac)=s:=by cases s;simp_all
  exact k h (by simpa [hg,e] using H)
 | some g=>
  obtain ⟨q,R',e0,HG,re⟩:=Mv H hg
  simp only [Le,G6,G5,D0,E2]
  refine C6 e0 ?_
  simp only [M3]
  refine A0 (Nu HG hi λbb h7 G7=>?_)
  simp only [C0]
  exact k h7 (by simpa [hg] using re h7 _ G7)
theorem YG {M:Nat} {tv:vQ} {s:Mac} {R:Hp} (H:A9 h (M9 M tv s*R)) (k:∀h',A9 h' (M9 M tv s*R)->K (dQ s.fault) h') :
  A4 prog 36 #[mP M] h K:=by
 refine call36 ?_
 unfold F36 cf lP nP de2
 obtain ⟨q,gq,fq,B,H0⟩:=L5.1 H
 simp only [Dh,MF,G6,G5,D0,E2]
 refine H0.ld rfl ?_
 simp only [C0]
 unfold Mac.fault at k
 refine D1 (λhb=>by rw [hb] at k;exact k h H) (λhb=>?_)
 rw [hb,Oy] at k
 refine A0 (DQ H ?_)
 simp only [C0]
 cases hg:s.g with
 | none=>
  simp only [Tm,E7]
  rw [hg] at k
  exact k h H
 | some g=>
  obtain ⟨q,R',e0,HG,re⟩:=Mv H hg
  simp only [Le,G6]
  refine C6 e0 ?_
  simp only [M3]
  refine A0 (RM HG λh7 G7=>?_)
  simp only [X8]
  refine U9 rfl (D5 rfl (D5 rfl ?_))
  refine Sg3 ?_
  rw [hg] at k
  have e:(decide (g.kind≠0\/g.node≠0)) = !(decide (g.kind=0/\g.node=0)):=by
   rw [<- decide_not,decide_eq_decide];omega
  simp only [e] at k
  have H8:=re h7 _ G7
  have e2:({ s with g:=some g }:Mac)=s:=by cases s;simp_all
  exact k h7 (by rw [e2] at H8;exact H8)
theorem Gp {M:Nat} {tv:vQ} {s:Mac} {R:Hp} (H:A9 h (M9 M tv s*R)) (k:∀h',G9 h.size h h'->K (Pc s.p) h') :
  A4 prog 79 #[mP M] h K:=by
 refine call79 ?_
 unfold F79 g79 nP S13 BO Yi
 obtain ⟨q,gq,fq,B,H0⟩:=L5.1 H
 simp only [Dh,E7,G5,D0,E2]
 have hold:=(W5 h (oQ AA 117))
 have hsz:(h.push (oQ AA 117)).size=h.size+1:=SD2 _
 have H1:=H0.push (oQ AA 117)
 generalize h.push (oQ AA 117)=h1 at *
 obtain ⟨N,hN⟩ : ∃N,N=h.size:=⟨_,rfl⟩
 rw [<- hN] at H1 ⊢
 have O:=H1.at2
 refine C4 O rfl (C4 O rfl (C4 O rfl (C4 O rfl (C4 O rfl (C4 O rfl (C4 O rfl (C4 O rfl (C4 O rfl (C4 O rfl (C4 O rfl (C4 O rfl (C4 O rfl (C4 O rfl (C4 O rfl ?_))))))))))))))
 refine OV (F5 (vs:=Ed s.p) H1.at rfl (by simp [J0]) λh2 w=>?_)
 have Q:=w.new
 refine C4 Q rfl (C4 Q rfl (C4 Q rfl (C4 Q rfl (C4 Q rfl (C4 Q rfl (C4 Q rfl (C4 Q rfl (C4 Q rfl (C4 Q rfl (C4 Q rfl (C4 Q rfl (C4 Q rfl (C4 Q rfl (C4 Q rfl ?_))))))))))))))
 exact k h2 ⟨by rw [w.size];omega,λc hc=>(w.old c (by omega)).trans (hold c hc)⟩
theorem UD {M:Nat} {tv:vQ} {s:Mac} {R:Hp} (H:A9 h (M9 M tv s*R)) (k:∀h',A9 h' (M9 M tv s*R)->K (Pc s.p) h') :
 A4 prog 79 #[mP M] h K:=Gp H λh' o=>k h' (H.old o)
theorem Nz {M:Nat} {tv:vQ} {s:Mac} {R:Hp} (H:A9 h (M9 M tv s*R)) (k:∀q R',A9 h (R7 q s.mm*R')->(∀h' m',A9 h' (R7 q m' * R')->A9 h' (M9 M tv (s.setM m')*R))->K (mP q) h) :
  A4 prog 32 #[mP M] h K:=by
 refine call32 ?_
 unfold F32 lP nP
 obtain ⟨q,R',e0,HM,re⟩:=Ep H
 simp only [Dh,E7,G5,D0,E2]
 refine C6 e0 ?_
 simp only [M3]
 exact k q R' HM re
def Mac.feed (s:Mac) (u:Int):Mac:={ s with used:=u }
theorem UE {M:Nat} {tv:vQ} {s:Mac} {R:Hp} (H:A9 h (M9 M tv s*R)) (k:∀q R',A9 h (Pf q s.b s.used*R')->(∀h' u,A9 h' (Pf q s.b u*R')->A9 h' (M9 M tv (Mac.feed s u)*R))->K (mP q) h) :
  A4 prog 214 #[mP M] h K:=by
 refine call214 ?_
 unfold F214 lP nP
 obtain ⟨q,gq,fq,B,H0⟩:=L5.1 H
 simp only [Dh,E7,G5,D0,E2]
 refine H0.ld rfl ?_
 simp only [M3]
 refine k fq _ (by rw [SK2] at H0;exact H0) λh' u H'=>L5.2 ⟨q,gq,fq,B,?_⟩
 rw [SK2]
 exact H'
theorem SL1 {row vs:List vQ} {row':Array vQ} {o:Nat} (r1:row'.size=row.length) (hi:o+vs.length<=row.length) (r2:∀j,row'[j]? = if o<=j/\j < o+vs.length then vs[j - o]? else row[j]?):row' = (row.take o ++ vs ++ row.drop (o+vs.length)).toArray:=by
 apply yL2
 intro j
 rw [r2 j,EC]
 by_cases c1:j < o
 ·rw [A7 (by omega),Xu,OB (by rw [CM];omega),GV,A8 c1]
 ·by_cases c2:j < o+vs.length
  ·rw [A8 ⟨by omega,c2⟩,Xu,MH (by rw [CM];omega),CM,MI (by omega),OB (by omega)]
  ·rw [A7 (by omega),Xu,MH (by rw [CM];omega),CM,MI (by omega),MH (by omega),Tf]
   congr 1;omega
theorem A9.copy {P:Program} {t elem rt:TypeId} {h:A2} {b o:Nat} {a2:rQ} {dl dc sl sc m:Nat} {row vs:List vQ} {ty:TypeId} {K:kQ} {R:Hp}
  (hu:Be P t=.slice elem) (hth:L0 P elem=true) (hsz:M2 P elem=1) (H:A9 h (pt b (.cells row.toArray ty)*R)) (hs:N5 h a2 vs) (hm:min sl dl=m) (hn:vs.length=m) (hone:∀y ∈ vs,J0 y True) (hi:o+m<=row.length)
  (k:∀h',A9 h' (pt b (oQ (row.take o ++ vs ++ row.drop (o+m)).toArray ty)*R)->K (iv m) h') :
  PI P #[t,t] rt #[lQ (some ⟨b,o,none⟩) dl dc,lQ a2 sl sc] h K:=by
 have hu':=E4 hu (by simp)
 unfold PI Builtin.copy_
 simp only [EC,Mh,QX,B6,E0,C8 hu',J7 hth]
 show hp P (Builtin.lenOf _) _ h
 simp only [Builtin.lenOf,E0,B6,J7 hth]
 have em:Nat.min sl dl=m:=hm
 rw [em]
 refine SH9 hs (by rw [hsz,hn,BQ]) ?_
 simp only [B6]
 refine Y9 _ _ h 0 _ ?_
 have hlt:=(Jx.1 H.at).1
 refine Ir _ h b o 0 row.toArray ty _ H.at (by simp;omega) (by simpa using hone) ?_
 intro row' r1 r2
 simp only [E0]
 have e:row' = (row.take o ++ vs ++ row.drop (o+m)).toArray:=by
  rw [<- hn]
  exact SL1 (by simpa using r1) (by omega) λj=>by rw [r2 j,EC,Lc]
 refine k _ (H.wr (o':=oQ (row.take o ++ vs ++ row.drop (o+m)).toArray ty) ?_ λc hc=>V4 hc)
 rw [<- e];exact U2 hlt
end
section
open Mod
def Dk (f:N6):List vQ:=[iQ f.fn,iQ f.pc,uQ (f.g 0),uQ (f.g 1),uQ (f.g 2),uQ (f.g 3),uQ (f.g 4),uQ (f.g 5),uQ (f.g 6),uQ (f.g 7),uQ (f.g 8),uQ (f.g 9)]
theorem Iw:∀f:N6,(Dk f).length=12:=λ_=>rfl
structure TB where
 fr:rQ
 frn:Nat
 pred:Nat
 succ:Nat
 word:Nat
 re:rQ
 ren:Nat
 fo:rQ
 fon:Nat
abbrev DR (B:TB) (x:Thr) (id:Int):List vQ:=[iQ id,lQ B.fr x.fr.length B.frn,uQ (x.ret.getD 0 0),uQ (x.ret.getD 1 0),uQ (x.ret.getD 2 0),lQ (some ⟨B.pred,0,none⟩) x.pred.length x.pred.length,lQ (some ⟨B.succ,0,none⟩) x.succ.length x.succ.length,lQ (some ⟨B.word,0,none⟩) x.word.length x.word.length,lQ B.re x.retired.length B.ren,lQ B.fo x.found.length B.fon]
structure FrB (f:N6):Prop where
 len:f.r.length=10
 us:∀v ∈ f.r,U v
structure ThB (t:Thr):Prop where
 fr:∀f ∈ t.fr,FrB f
 ret:t.ret.length=3/\∀v ∈ t.ret,U v
 pr:∀v ∈ t.pred,U v
 su:∀v ∈ t.succ,U v
 wo:∀v ∈ t.word,U v
 re:∀v ∈ t.retired,iN v
 fo:∀v ∈ t.found,iN v
 len:t.fr.length<=1073741824/\t.retired.length<=1073741824/\t.found.length<=1073741824
def NA (B:TB) (t:Thr) (fo:Option (Nat × Nat)):Prop:=∀b o,fo=some (b,o)->B.fr=some (aQ b)/\t.fr≠[]/\o=(t.fr.length - 1)*12
def M7 (T:Nat) (fo:Option (Nat × Nat)) (t:Thr) (id:Int):Hp:=ex λB:TB=>pr (ThB t/\NA B t fo) (pt T (oQ (DR B t id).toArray 183)*(E8 190 12 B.fr t.fr.length B.frn (t.fr.flatMap Dk)*(pt B.pred (oQ (V7 t.pred).toArray 178)*(pt B.succ (oQ (V7 t.succ).toArray 178)*(pt B.word (oQ (V7 t.word).toArray 178)*(E8 3 1 B.re t.retired.length B.ren (t.retired.map iv)*DP B.fo t.found.length B.fon t.found))))))
theorem J8 {h:A2} {T:Nat} {fo:Option (Nat × Nat)} {t:Thr} {id:Int} {R:Hp}:A9 h (M7 T fo t id*R)↔∃B,(ThB t/\NA B t fo)/\A9 h (pt T (oQ (DR B t id).toArray 183)*(E8 190 12 B.fr t.fr.length B.frn (t.fr.flatMap Dk)*(pt B.pred (oQ (V7 t.pred).toArray 178)*(pt B.succ (oQ (V7 t.succ).toArray 178)*(pt B.word (oQ (V7 t.word).toArray 178)*(E8 3 1 B.re t.retired.length B.ren (t.retired.map iv)*(DP B.fo t.found.length B.fon t.found*R))))))):=by
 unfold M7
 simp only [A9.ex,A9.pr,F2]
theorem S24 {T:Nat} {fo:Option (Nat × Nat)} {t:Thr} {id:Int}:IN (M7 T fo t id):=
 IN.ex λ_=>IN.pr (IN.pt.star (IN.own.star (IN.pt.star (IN.pt.star (IN.pt.star (IN.own.star IN.ownf))))))
theorem RP {h:A2} {T:Nat} {fo:Option (Nat × Nat)} {t:Thr} {id:Int} {R:Hp} (H:A9 h (M7 T fo t id*R)):ThB t:=by obtain ⟨_,x,_⟩:=J8.1 H;exact x.1
theorem NA.none (B:TB) (t:Thr):NA B t Option.none:=λ_ _ e=>by cases e
theorem Qm {h:A2} {T:Nat} {fo:Option (Nat × Nat)} {t:Thr} {id:Int} {R:Hp} (H:A9 h (M7 T fo t id*R)):A9 h (M7 T none t id*R):=by
 obtain ⟨B,x,H0⟩:=J8.1 H
 exact J8.2 ⟨B,⟨x.1,NA.none _ _⟩,H0⟩
theorem JW {h:A2} {T b o:Nat} {t:Thr} {id:Int} {R:Hp} (H:A9 h (M7 T (some (b,o)) t id*R)):t.fr≠[]:=by
 obtain ⟨B,x,H0⟩:=J8.1 H
 exact (x.2 b o rfl).2.1
theorem S25 {t:Thr} (hne:t.fr≠[]):t.top ∈ t.fr:=by
 unfold Thr.top
 rw [Sk7 hne]
 exact List.getLast_mem hne
theorem NC {t:Thr} (hne:t.fr≠[]):t.fr=t.fr.dropLast ++ [t.top]:=by
 unfold Thr.top
 rw [Sk7 hne]
 exact (List.dropLast_concat_getLast hne).symm
theorem Sp6 {h:A2} {T b o:Nat} {t:Thr} {id:Int} {R:Hp} (H:A9 h (M7 T (some (b,o)) t id*R)) {j:Nat} {v:vQ} (e:(Dk t.top)[j]? = some v):A3 h ⟨b,o+j,none⟩=some v:=by
 obtain ⟨B,x,H0⟩:=J8.1 H
 obtain ⟨e1,hne,e2⟩:=x.2 b o rfl
 have hj:j < 12:=(IW.1 e).1
 have hlen:0 < t.fr.length:=OE.2 hne
 have ho:=A9.own (A9.drop H0)
 have e3:(t.fr.flatMap Dk)[o+j]? = some v:=by
  have hlt:t.fr.length - 1 < t.fr.length:=by omega
  rw [e2,N0 Iw hlt hj]
  have:t.fr[t.fr.length - 1]=t.top:=by
   unfold Thr.top
   rw [Sk7 hne,List.getLast_eq_getElem]
   rfl
  rw [this];exact e
 obtain ⟨ad,ea,hc⟩:=ho.sees _ _ e3
 rw [e1] at ea
 cases ea
 rw [E2,J6] at hc
 exact hc
theorem Sg6 (f:N6):∀y ∈ Dk f,J0 y True:=by
 intro y hy
 simp only [Dk,ED,GF,or_false] at hy
 rcases hy with rfl | rfl | rfl | rfl | rfl | rfl | rfl | rfl | rfl | rfl | rfl | rfl <;> trivial
theorem Sg7 {h:A2} {T b o:Nat} {t:Thr} {id:Int} {R:Hp} {K:A2->Prop} {j:Nat} {v:vQ} {f':N6} (H:A9 h (M7 T (some (b,o)) t id*R)) (hj:j < 12) (ho:J0 v True) (hf:Dk f' = (Dk t.top).set j v) (hB:FrB f')
  (k:∀h',A9 h' (M7 T (some (b,o)) (t.setTop f') id*R)->K h'):C7 h ⟨b,o+j,none⟩ v K:=by
 obtain ⟨B,x,H0⟩:=J8.1 H
 obtain ⟨e1,hne,e2⟩:=x.2 b o rfl
 have hlen:0 < t.fr.length:=OE.2 hne
 rw [D8] at H0
 obtain ⟨ow,hlt,re⟩:=H0.opn
 obtain ⟨w1,w2,w3⟩:=ow
 rcases w3 with ⟨w3,w4⟩ | ⟨b',row,w3,w4,w5,w6⟩
 ·rw [e1] at w3;cases w3
 rw [e1] at w3
 cases w3
 have hrl:t.fr.length*12<=row.size:=by rw [w5];exact EJ _ w2
 refine Nf w4 (by omega) ho ?_
 rintro h' rfl
 have hbl:=(Jx.1 w4).1
 have hfl:(t.fr.dropLast ++ [f']).length=t.fr.length:=by simp;omega
 have e3:(t.fr.dropLast ++ [f']).flatMap Dk=(t.fr.flatMap Dk).set (o+j) v:=by
  conv=>rhs;rw [NC hne]
  rw [SZ6,SZ6,List.flatMap_singleton,List.flatMap_singleton,hf]
  have hl:(t.fr.dropLast.flatMap Dk).length=o:=by rw [Ch Iw,List.length_dropLast,e2]
  rw [List.set_append_right _ _ (by omega),hl,Nat.add_sub_cancel_left]
 have e4:((t.fr.flatMap Dk).set (o+j) v).length=t.fr.length*12:=by rw [Ca,Ch Iw]
 have H2:=re (h.setIfInBounds b (oQ (row.setIfInBounds (o+j) v) 190)) (GU B.fr) (λh=>CS h 190 12 B.fr t.fr.length B.frn ((t.fr.flatMap Dk).set (o+j) v))
  ⟨by simp,λc hc hn=>V4 λe=>hn ⟨_,e1,e.symm⟩⟩ (λc hc=>⟨.inl hc,by simpa using hlt c hc⟩) (λc ob hc e x hx=>by
   obtain ⟨ad,ea,rfl⟩:=hc
   rw [e1] at ea;cases ea
   rw [U2 hbl] at e;cases e;cases hx) λh'' hh=>by
   refine ⟨e4,w2,.inr ⟨b,row.setIfInBounds (o+j) v,e1,(hh b ⟨_,e1,rfl⟩).trans (U2 hbl),by simpa using w5,?_⟩⟩
   rw [Array.toList_setIfInBounds,<- w6,<- List.take_set]
 refine k _ (J8.2 ⟨B,⟨?_,?_⟩,?_⟩)
 ·obtain ⟨b1,b2,b3,b4,b5,b6,b7,b8⟩:=x.1
  refine ⟨λf hf=>?_,b2,b3,b4,b5,b6,b7,by unfold Thr.setTop;rw [hfl];exact b8⟩
  unfold Thr.setTop at hf
  rcases GR.1 hf with h1 | h1
  ·exact b1 f ((List.dropLast_sublist _).subset h1)
  ·rw [Fq.1 h1];exact hB
 ·intro b2 o2 e
  cases e
  refine ⟨e1,by unfold Thr.setTop;simp,?_⟩
  unfold Thr.setTop
  rw [hfl];exact e2
 ·rw [D8]
  unfold Thr.setTop
  unfold DR
  simp only [hfl,e3]
  exact H2
theorem Td7 (f:N6) (pc:Int):Dk (f.at pc)=(Dk f).set 1 (iQ pc):=rfl
theorem Ti3 {f:N6} (hl:f.r.length=10) {i:Nat} (hi:i < 10) (v:Int):Dk (f.s i v)=(Dk f).set (2+i) (uQ v):=by
 obtain ⟨fn,pc,r⟩:=f
 simp only at hl
 match r,hl with
 | [r0,r1,r2,r3,r4,r5,r6,r7,r8,r9],_=>
  match i,hi with
  | 0,_=>rfl
  | 1,_=>rfl
  | 2,_=>rfl
  | 3,_=>rfl
  | 4,_=>rfl
  | 5,_=>rfl
  | 6,_=>rfl
  | 7,_=>rfl
  | 8,_=>rfl
  | 9,_=>rfl
theorem FrB.at {f:N6} (B:FrB f) (pc:Int):FrB (f.at pc):=⟨B.len,B.us⟩
theorem FrB.s {f:N6} (B:FrB f) (i:Nat) {v:Int} (hv:U v):FrB (f.s i v):=⟨by unfold N6.s;rw [Ca];exact B.len,Ak B.us hv⟩
theorem FrB.g {f:N6} (B:FrB f) (i:Nat):U (f.g i):=Nr B.us i
theorem ND {h:A2} {T:Nat} {fo:Option (Nat × Nat)} {t:Thr} {id:Int} {R:Hp} (H:A9 h (M7 T fo t id*R)):∃B,h[T]? = some (oQ (DR B t id).toArray 183):=by
 obtain ⟨B,x,H0⟩:=J8.1 H
 exact ⟨B,H0.at⟩
theorem U0:U 0:=⟨by omega,by omega⟩
theorem SL2 {K:kQ} {h:A2} {T:Nat} {fo:Option (Nat × Nat)} {t:Thr} {id:Int} {R:Hp} (H:A9 h (M7 T fo t id*R)) (k0:t.fr = []->K (pQ none) h)
  (k:∀b o,t.fr≠[]->(∀b' o',fo=some (b',o')->b=b'/\o=o')->A9 h (M7 T (some (b,o)) t id*R)->K (pQ (some ⟨b,o,none⟩)) h) :
  A4 prog 105 #[mP T] h K:=by
 refine call105 ?_
 unfold F105 lS nP
 obtain ⟨B,x,H0⟩:=J8.1 H
 have hl:=x.1.len
 refine ⟨λvs h'=>vs = [dQ (decide (t.fr.length=0))]/\h' = h,?_,?_⟩
 ·simp only [Dh,E7,G5,D0,E2]
  refine H0.ld rfl ?_
  simp only [D6]
  refine ⟨?_,by trivial⟩
  congr 2
  rw [QU,beq_iff_eq,decide_eq_true_iff];omega
 rintro v6 g7 h8 ⟨e,rfl⟩
 cases e
 simp only [C0]
 refine A6 (λhz=>k0 (Xx.1 hz)) (λhz=>?_)
 simp only [G5,D0,E2]
 refine H0.ld rfl ?_
 simp only [D6]
 refine H0.ld rfl ?_
 simp only [D6]
 rw [E3 (n:=(t.fr.length:Int) - 1) (by omega) (by omega)]
 refine ⟨by omega,by omega,?_⟩
 have hne:t.fr≠[]:=λe=>hz (by rw [e];rfl)
 have hpos:0 < t.fr.length:=by omega
 have ow:=A9.own (A9.drop H0)
 rcases ow.2.2 with ⟨_,hc⟩ | ⟨b,row,e,_⟩
 ·have:=ow.2.1;omega
 ·rw [e]
  simp only [D0]
  rw [show ((t.fr.length:Int) - 1).toNat=t.fr.length - 1 by omega,E2,J6]
  refine k _ _ hne (λb' o' e'=>?_) (J8.2 ⟨B,⟨x.1,λb2 o2 e2=>?_⟩,H0⟩)
  ·obtain ⟨y1,y2,y3⟩:=x.2 b' o' e'
   rw [e] at y1
   cases y1
   exact ⟨rfl,y3.symm⟩
  ·cases e2
   exact ⟨e,hne,rfl⟩
structure As (R:Hp) (a:rQ) (l c:Nat) (rs:List Int):Prop where
 len:rs.length=l
 cap:l<=c
 us:∀v ∈ rs,U v
 see:∀h P,A9 h (P*R)->N5 h a (V7 rs)
theorem As.none {R:Hp}:As R Option.none 0 0 []:=⟨rfl,G0 _,λv hv=>(by cases hv),λh P _=>N5.nil _ _⟩
theorem As.mk' {R:Hp} {N l:Nat} {rs:List Int} {ty:TypeId} (hl:rs.length=l) (hu:∀v ∈ rs,U v):As (pt N (oQ (V7 rs).toArray ty)*R) (some ⟨N,0,Option.none⟩) l l rs:=
 ⟨hl,G0 _,hu,λh P H i v hi=>⟨_,rfl,by rw [E2,J6,E5 H.at2,EC];exact hi⟩⟩
theorem As.skip {R Q:Hp} {a:rQ} {l c:Nat} {rs:List Int} (A:As R a l c rs):As (Q*R) a l c rs:=⟨A.len,A.cap,A.us,λh P H=>A.see h (P*Q) (by rw [F2];exact H)⟩
theorem UF:Be prog 123=.slice 178:=by kernel_rfl
theorem Qn:L0 prog 178=true:=by kernel_rfl
theorem Sg8:M2 prog 178=1:=by kernel_rfl
theorem S26:Be prog 177=.slice 190:=by kernel_rfl
theorem UG:L0 prog 190=true:=by kernel_rfl
theorem Td8:GZ prog 190=some (.agg #[iQ 0,iQ 0,uQ 0,uQ 0,uQ 0,uQ 0,uQ 0,uQ 0,uQ 0,uQ 0,uQ 0,uQ 0]):=by kernel_rfl
theorem KO:M2 prog 190=12:=by kernel_rfl
theorem SL3:EL prog 190=96:=by kernel_rfl
theorem Sg9 (l:List Int):∀y ∈ V7 l,J0 y True:=by
 intro y hy
 unfold V7 at hy
 obtain ⟨n,_,rfl⟩:=Ga.1 hy
 trivial
theorem Mw (l:List Int):(V7 l).length=l.length:=by unfold V7;rw [Jz]
theorem DT (n:Nat) (l:List Int):(Ax n l).length=n:=by unfold Ax;simp
theorem Td9 {n:Nat} {l:List Int} (h:l.length<=n):Ax n l=l ++ List.replicate (n - l.length) 0:=by
 unfold Ax
 rw [List.take_append,Dg h,List.take_replicate,MI (by omega)]
theorem S80 {n:Nat} {l:List Int} (h:∀v ∈ l,U v):∀v ∈ Ax n l,U v:=by
 intro v hv
 unfold Ax at hv
 rcases GR.1 (List.mem_of_mem_take hv) with h1 | h1
 ·exact h v h1
 ·rw [(List.mem_replicate.1 h1).2];exact U0
theorem SL4 {fn pc:Int} {r:List Int} (hl:r.length=10):Dk ⟨fn,pc,r⟩=iQ fn :: iQ pc :: V7 r:=by
 match r,hl with
 | [r0,r1,r2,r3,r4,r5,r6,r7,r8,r9],_=>rfl
def GM (h:A2) (fo:Option (Nat × Nat)) (f:N6):Prop:=∀b o j v,fo=some (b,o)->(Dk f)[j]? = some v->A3 h ⟨b,o+j,none⟩=some v
theorem Tl5 {h:A2} {b:Nat} {v0 v1 v2 v3 v4 v5 v6 v7 v8 v9 v10 v11:vQ} {K:A2->Prop} (H:OH h (aQ b) 0 [v0,v1,v2,v3,v4,v5,v6,v7,v8,v9,v10,v11] K) :
 C7 h (aQ b) v0 λh=>C7 h ⟨b,1,none⟩ v1 λh=>C7 h ⟨b,2,none⟩ v2 λh=>C7 h ⟨b,3,none⟩ v3 λh=>C7 h ⟨b,4,none⟩ v4 λh=>C7 h ⟨b,5,none⟩ v5 λh=>C7 h ⟨b,6,none⟩ v6 λh=>
 C7 h ⟨b,7,none⟩ v7 λh=>C7 h ⟨b,8,none⟩ v8 λh=>C7 h ⟨b,9,none⟩ v9 λh=>C7 h ⟨b,10,none⟩ v10 λh=>C7 h ⟨b,11,none⟩ v11 K:=H
theorem Sp7 {K:kQ} {h:A2} {T:Nat} {fo:Option (Nat × Nat)} {t:Thr} {id:Int} {R:Hp} {fn:Int} {a:rQ} {l c:Nat} {rs:List Int} (H:A9 h (M7 T fo t id*R)) (A:As R a l c rs) (hl:l<=10) (hd:t.fr.length < 1073741824)
  (k:∀h' b o,(∀b' o',fo=some (b',o')->¬ (b=b'/\o=o'))->GM h' fo t.top->A9 h' (M7 T (some (b,o)) (t.push fn rs) id*R)->K tQ h') :
  A4 prog 130 #[mP T,iQ fn,lQ a l c] h K:=by
 refine call130 ?_
 unfold F130 nP Ti0
 have hlen:=A.len
 obtain ⟨B,x,H0⟩:=J8.1 H
 simp only [Dh,E7,G5,D0,E2]
 have H1:=H0.push (oQ #[iQ 0,iQ 0,uQ 0,uQ 0,uQ 0,uQ 0,uQ 0,uQ 0,uQ 0,uQ 0,uQ 0,uQ 0] 190)
 have HA:=(H.push (oQ #[iQ 0,iQ 0,uQ 0,uQ 0,uQ 0,uQ 0,uQ 0,uQ 0,uQ 0,uQ 0,uQ 0,uQ 0] 190))
 generalize h.push (oQ #[iQ 0,iQ 0,uQ 0,uQ 0,uQ 0,uQ 0,uQ 0,uQ 0,uQ 0,uQ 0,uQ 0,uQ 0] 190)=h1 at *
 generalize h.size=N at *
 refine Tl5 (F5 (vs:=Dk ⟨fn,0,List.replicate 10 0⟩) H1.at rfl (Sg6 _) λh2 w=>?_)
 have H2:=H1.wr w.new w.old
 have HB:=HA.wr w.new w.old
 have hsee:=A.see h2 (pt N _*M7 T fo t id) (by rw [F2];exact HB)
 have eS:some (PH ⟨N,2,none⟩ 0 10 1)=some (⟨N,2,none⟩ : Addr):=rfl
 rw [eS]
 refine H2.copy UF Qn Sg8 hsee (m:=l) (by omega) (by rw [Mw,hlen]) (Sg9 _) (by rw [Iw];omega) λh3 H3=>?_
 have erow:(Dk ⟨fn,0,List.replicate 10 0⟩).take 2 ++ V7 rs ++ (Dk ⟨fn,0,List.replicate 10 0⟩).drop (2+l)=Dk ⟨fn,0,Ax 10 rs⟩:=by
  rw [SL4 (by simp),SL4 (DT _ _),Td9 (by omega)]
  simp only [List.take_succ_cons,List.take_zero,List.cons_append,OG]
  rw [show 2+l=l+1+1 by omega,List.drop_succ_cons,List.drop_succ_cons]
  congr 2
  unfold V7
  rw [GW,SZ9,SZ9,List.drop_replicate,hlen]
 rw [erow] at H3
 simp only [A5]
 have O:=(D8 _ _ _ ▸ H3:A9 h3 (pt T _*_))
 refine O.ld rfl ?_
 simp only [D6]
 have Q:=H3.at
 have hr:∀i v,(Dk ⟨fn,0,Ax 10 rs⟩)[i]? = some v->∀K:vQ->Prop,K v->D2 h3 ⟨N,i,none⟩ K:=λi v e K k=>C4 Q e k
 refine hr 0 _ rfl _ (hr 1 _ rfl _ (hr 2 _ rfl _ (hr 3 _ rfl _ (hr 4 _ rfl _ (hr 5 _ rfl _ (hr 6 _ rfl _ (hr 7 _ rfl _ (hr 8 _ rfl _ (hr 9 _ rfl _ (hr 10 _ rfl _ (hr 11 _ rfl _ ?_)))))))))))
 have H4:=H3.push (oQ (Dk ⟨fn,0,Ax 10 rs⟩).toArray 190)
 have e4:h3.push (oQ (Dk ⟨fn,0,Ax 10 rs⟩).toArray 190)=h3.push (oQ #[iQ fn,iQ 0,uQ ((Ax 10 rs).getD 0 0),uQ ((Ax 10 rs).getD 1 0),uQ ((Ax 10 rs).getD 2 0),uQ ((Ax 10 rs).getD 3 0),uQ ((Ax 10 rs).getD 4 0),uQ ((Ax 10 rs).getD 5 0),uQ ((Ax 10 rs).getD 6 0),uQ ((Ax 10 rs).getD 7 0),uQ ((Ax 10 rs).getD 8 0),uQ ((Ax 10 rs).getD 9 0)] 190):=rfl
 generalize h3.push (oQ (Dk ⟨fn,0,Ax 10 rs⟩).toArray 190)=h4 at *
 show A3 (h3.push (oQ #[iQ fn,iQ 0,uQ ((Ax 10 rs).getD 0 0),uQ ((Ax 10 rs).getD 1 0),uQ ((Ax 10 rs).getD 2 0),uQ ((Ax 10 rs).getD 3 0),uQ ((Ax 10 rs).getD 4 0),uQ ((Ax 10 rs).getD 5 0),uQ ((Ax 10 rs).getD 6 0),uQ ((Ax 10 rs).getD 7 0),uQ ((Ax 10 rs).getD 8 0),uQ ((Ax 10 rs).getD 9 0)] 190)) _=_/\U4 prog _ _ _ (h3.push (oQ #[iQ fn,iQ 0,uQ ((Ax 10 rs).getD 0 0),uQ ((Ax 10 rs).getD 1 0),uQ ((Ax 10 rs).getD 2 0),uQ ((Ax 10 rs).getD 3 0),uQ ((Ax 10 rs).getD 4 0),uQ ((Ax 10 rs).getD 5 0),uQ ((Ax 10 rs).getD 6 0),uQ ((Ax 10 rs).getD 7 0),uQ ((Ax 10 rs).getD 8 0),uQ ((Ax 10 rs).getD 9 0)] 190)) _
 rw [<- e4]
 generalize h3.size=N4 at *
 have hs4:N5 h4 (some (aQ N4)) (Dk ⟨fn,0,Ax 10 rs⟩):=λi v hi=>⟨_,rfl,by rw [E2,J6,E5 H4.at,EC];exact hi⟩
 rw [Jk] at H4
 refine ⟨F6 H4.at rfl,?_⟩
 rw [SK2] at H4
 have hB:ThB (t.push fn rs):=by
  obtain ⟨b1,b2,b3,b4,b5,b6,b7,b8⟩:=x.1
  refine ⟨λf hf=>?_,b2,b3,b4,b5,b6,b7,by unfold Thr.push;simp;omega⟩
  unfold Thr.push at hf
  rcases GR.1 hf with h1 | h1
  ·exact b1 f h1
  ·rw [Fq.1 h1];exact ⟨DT _ _,S80 A.us⟩
 have hfl:(t.push fn rs).fr.length=t.fr.length+1:=by unfold Thr.push;simp
 have hff:(t.push fn rs).fr.flatMap Dk=t.fr.flatMap Dk ++ Dk ⟨fn,0,Ax 10 rs⟩:=by unfold Thr.push;simp
 have fin:∀(h5:A2) (b:Nat) (c':Nat) (X:Hp),(∀b' o',fo=some (b',o')->¬ (b=b'/\t.fr.length*12=o'))->(∀h P,A9 h (E8 190 12 (some (aQ b)) (t.fr.length+1) c' (t.fr.flatMap Dk ++ Dk ⟨fn,0,Ax 10 rs⟩)*(X*P))->GM h fo t.top)->A9 h5 (pt T (oQ (DR B t id).toArray 183)*(E8 190 12 (some (aQ b)) (t.fr.length+1) c' (t.fr.flatMap Dk ++ Dk ⟨fn,0,Ax 10 rs⟩)*(X*(pt B.pred (oQ (V7 t.pred).toArray 178)*(pt B.succ (oQ (V7 t.succ).toArray 178)*(pt B.word (oQ (V7 t.word).toArray 178)*(E8 3 1 B.re t.retired.length B.ren (t.retired.map iv)*(DP B.fo t.found.length B.fon t.found*R)))))))) ->
   C7 h5 ⟨T,0+1,none⟩ (lQ (some (aQ b)) (t.fr.length+1) c') (λh38=>K tQ h38):=by
  intro h5 b c' X hne hst H5
  refine H5.st rfl trivial λh6 H6=>?_
  refine k h6 b (t.fr.length*12) (λb' o' e=>hne b' o' e) (hst h6 _ H6.drop) (J8.2 ⟨{ B with fr:=some (aQ b),frn:=c' },⟨hB,λb2 o2 e2=>?_⟩,?_⟩)
  ·cases e2
   exact ⟨rfl,by unfold Thr.push;simp,by rw [hfl];simp⟩
  ·rw [hfl,hff]
   have eC:DR { B with fr:=some (aQ b),frn:=c' } (t.push fn rs) id=(DR B t id).set (0+1) (lQ (some (aQ b)) (t.fr.length+1) c'):=by
    unfold DR
    rw [hfl]
    rfl
   rw [eC]
   rw [D8 _ X] at H6
   exact A9.drop2 (A9.ac H6 (by ac_rfl))
 have stale:∀h5 a l5 c5 ys,CS h5 190 12 a l5 c5 (t.fr.flatMap Dk ++ ys)->(∀b' o',fo=some (b',o')->a=some (aQ b')/\t.fr≠[]/\o' = (t.fr.length - 1)*12)->GM h5 fo t.top:=by
  intro h5 a l5 c5 ys ow hfo b' o' j v e ev
  obtain ⟨e1,hne,e2⟩:=hfo b' o' e
  have hj:j < 12:=(IW.1 ev).1
  have hlen:0 < t.fr.length:=OE.2 hne
  have hlt:t.fr.length - 1 < t.fr.length:=by omega
  have e3:(t.fr.flatMap Dk)[o' + j]? = some v:=by
   rw [e2,N0 Iw hlt hj]
   have:t.fr[t.fr.length - 1]=t.top:=by
    unfold Thr.top
    rw [Sk7 hne,List.getLast_eq_getElem]
    rfl
   rw [this];exact ev
  obtain ⟨ad,ea,hc⟩:=ow.sees (o' + j) v (by rw [OB (IW.1 e3).1];exact e3)
  rw [e1] at ea
  cases ea
  rw [E2,J6] at hc
  exact hc
 have Blen:=x.1.len
 rw [<- KO] at H4
 refine H4.app2 S26 UG Td8 (by rw [KO];rfl) hs4 (n:=1) (by rw [KO];rfl) (Sg6 _) (by rw [SL3];omega) (by rw [SL3];omega) (λc' h5 H5=>?_) (λb c' h5 hnb H5=>?_)
 ·rw [KO] at H5
  simp only [D6]
  have ow:=H5.own
  obtain ⟨b,eb⟩ : ∃b,B.fr=some ⟨b,0,none⟩:=by
   rcases ow.2.2 with ⟨_,hc⟩ | ⟨b,row,e,_⟩
   ·have:=ow.2.1;omega
   ·exact ⟨b,e⟩
  rw [eb] at H5 ⊢
  refine fin h5 b c' (pt N4 (oQ (Dk ⟨fn,0,Ax 10 rs⟩).toArray 190)*pt N (oQ (Dk ⟨fn,0,Ax 10 rs⟩).toArray 190)) (λb' o' e ⟨y1,y2⟩=>?_) (λh P HH=>stale h _ _ _ _ HH.own λb' o' e=>?_) (A9.ac H5 ?_)
  ·obtain ⟨z1,z2,z3⟩:=x.2 b' o' e
   have hlen:0 < t.fr.length:=OE.2 z2
   omega
  ·obtain ⟨z1,z2,z3⟩:=x.2 b' o' e
   exact ⟨eb.symm.trans z1,z2,z3⟩
  ·ac_rfl
 ·rw [KO] at H5
  simp only [D6]
  refine fin h5 b c' (E8 190 12 B.fr t.fr.length B.frn (t.fr.flatMap Dk)*(pt N4 (oQ (Dk ⟨fn,0,Ax 10 rs⟩).toArray 190)*pt N (oQ (Dk ⟨fn,0,Ax 10 rs⟩).toArray 190))) (λb' o' e ⟨y1,y2⟩=>?_) (λh P HH=>stale h _ _ _ [] (by rw [F2] at HH;rw [Xv];exact HH.drop.own) λb' o' e=>x.2 b' o' e) (A9.ac H5 ?_)
  ·obtain ⟨z1,z2,z3⟩:=x.2 b' o' e
   exact hnb ⟨_,z1,by simp [y1]⟩
  ·ac_rfl
theorem Thr.pop_fr (t:Thr) (r:List Int) (hne:t.fr≠[]):t.pop r = { t with fr:=t.fr.dropLast,ret:=Ax 3 r }:=by unfold Thr.pop;rw [A7 hne]
theorem SL5 {K:kQ} {h:A2} {T:Nat} {fo:Option (Nat × Nat)} {t:Thr} {id:Int} {R:Hp} {a:rQ} {l c:Nat} {rs:List Int} (H:A9 h (M7 T fo t id*R)) (A:As R a l c rs) (hl:l<=3)
  (k:∀h',A9 h' (M7 T none (t.pop rs) id*R)->K tQ h') :
  A4 prog 106 #[mP T,lQ a l c] h K:=by
 refine call106 ?_
 unfold F106 lS nP
 have hlen:=A.len
 obtain ⟨B,x,H0⟩:=J8.1 H
 have Blen:=x.1.len
 refine ⟨λvs h'=>vs = [dQ (decide (t.fr.length=0))]/\h' = h,?_,?_⟩
 ·simp only [Dh,E7,G5,D0,E2]
  refine H0.ld rfl ?_
  simp only [D6]
  refine ⟨?_,by trivial⟩
  congr 2
  rw [QU,beq_iff_eq,decide_eq_true_iff];omega
 rintro v6 g7 h8 ⟨e,rfl⟩
 cases e
 simp only [C0]
 apply A6<;>intro hz
 ·have e:t.pop rs=t:=by unfold Thr.pop;rw [A8 (Xx.1 hz)]
  rw [e] at k
  exact k h8 (Qm H)
 have hne:t.fr≠[]:=λe=>hz (by rw [e];rfl)
 rw [Thr.pop_fr _ _ hne] at k
 simp only [G5,D0,E2]
 refine H0.ld rfl ?_
 simp only [D6]
 refine H0.ld rfl ?_
 simp only [D6]
 rw [E3 (n:=(t.fr.length:Int) - 1) (by omega) (by omega)]
 have ow:=H0.drop.own
 have hfl:=ow.2.1
 refine ⟨by omega,by omega,?_⟩
 have e1:Ha B.fr 0 B.frn 12=B.fr:=PX _ _ _
 have e2:((t.fr.length:Int) - 1).toNat - 0=t.fr.length - 1:=by omega
 rw [e1,e2,Nat.sub_zero]
 refine H0.st rfl trivial λh1 H1=>H1.st rfl trivial λh2 H2=>H2.st rfl trivial λh3 H3=>H3.st rfl trivial λh4 H4=>?_
 have hsee:N5 h4 a (V7 rs):=A.see h4 (pt T _*(E8 190 12 B.fr t.fr.length B.frn (t.fr.flatMap Dk)*(pt B.pred (oQ (V7 t.pred).toArray 178)*(pt B.succ (oQ (V7 t.succ).toArray 178)*(pt B.word (oQ (V7 t.word).toArray 178)*(E8 3 1 B.re t.retired.length B.ren (t.retired.map iv)*DP B.fo t.found.length B.fon t.found)))))) (by simp only [F2];exact H4)
 have eS:some (PH ⟨T,2,none⟩ 0 3 1)=some (⟨T,2,none⟩ : Addr):=rfl
 show PI prog _ _ #[lQ (some (PH ⟨T,2,none⟩ 0 3 1)) 3 3,_] _ _
 rw [eS]
 refine H4.copy UF Qn Sg8 hsee (m:=l) (by omega) (by rw [Mw,hlen]) (Sg9 _) (by simp;omega) λh5 H5=>?_
 simp only [A5]
 have hB:ThB { t with fr:=t.fr.dropLast,ret:=Ax 3 rs }:=by
  obtain ⟨b1,b2,b3,b4,b5,b6,b7,b8⟩:=x.1
  exact ⟨λf hf=>b1 f ((List.dropLast_sublist _).subset hf),⟨DT _ _,S80 A.us⟩,b3,b4,b5,b6,b7,by simp;omega⟩
 refine k h5 (J8.2 ⟨B,⟨hB,NA.none _ _⟩,?_⟩)
 rw [D8] at H5 ⊢
 obtain ⟨ow5,hlt5,re5⟩:=H5.opn
 have hdl:t.fr.dropLast.length=t.fr.length - 1:=List.length_dropLast
 have efl:t.fr.dropLast.flatMap Dk=(t.fr.flatMap Dk).take ((t.fr.length - 1)*12):=by
  rw [PW Iw,List.dropLast_eq_take]
 have H6:=re5 h5 (GU B.fr) (λh=>CS h 190 12 B.fr (t.fr.length - 1) B.frn ((t.fr.flatMap Dk).take ((t.fr.length - 1)*12))) (Fr.refl _ _) (λb hb=>⟨.inl hb,hlt5 b hb⟩) ow5.nd λh'' e=>(ow5.congr e).take (by omega)
 simp only [hdl,efl]
 have eC:(((((DR B t id).set (0+1) (lQ B.fr (t.fr.length - 1) B.frn)).set (0+2) (uQ 0)).set (0+3) (uQ 0)).set (0+4) (uQ 0)).take 2 ++ V7 rs ++ (((((DR B t id).set (0+1) (lQ B.fr (t.fr.length - 1) B.frn)).set (0+2) (uQ 0)).set (0+3) (uQ 0)).set (0+4) (uQ 0)).drop (2+l)=DR B { t with fr:=t.fr.dropLast,ret:=Ax 3 rs } id:=by
  unfold DR
  simp only [hdl]
  match rs,hlen with
  | [],e=>subst e;rfl
  | [r0],e=>subst e;rfl
  | [r0,r1],e=>subst e;rfl
  | [r0,r1,r2],e=>subst e;rfl
  | _ :: _ :: _ :: _ :: _,e=>simp at e;omega
 rw [eC] at H6
 exact H6
end
end Go.Proofs.YtahpbclnkofhfaaGreat
