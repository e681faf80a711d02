/- Part 7 of what the proofs of this seat rest on: see the last text of the claim. -/
import Derived.Test.YtahpbclnkofhfaaGreatQe5811dcbbbeb
import Derived.Test.YtahpbclnkofhfaaGreatProg
set_option linter.unusedSimpArgs false
set_option linter.unusedVariables false
set_option linter.ambiguousOpen false
set_option maxRecDepth 20000
section
namespace Go.Proofs.YtahpbclnkofhfaaGreat.Mod
def W0 (x:A9):A9:=
 let f:=x.f
 let i:=(F5 (f.g 2)).toNat
 let x:=x.setPl (x.t.pred.set i (f.g 3)) (x.t.succ.set i (J2 (f.g 4))) (x.t.word.set i (f.g 4))
 if i=0 then x.pop [f.g 5] else (x.s 2 (u64 (f.g 2 - 1))).pc 1
def Cg (x:A9):A9:=(x.s 3 (J2 (x.f.g 4))).pc 1
def BP (x:A9):A9:=
 let f:=x.f
 let (e,x):=x.load 1
 if e≠f.g 1 then x.pc 0
 else if F5 (f.g 2)=0/\Y9 (f.g 4)=true then Cg (x.s 5 (J2 (f.g 4)))
 else if F5 (f.g 2) > 0 then x.pc 5 else x.pc 6
def Ec (x:A9):A9:=
 let f:=x.f
 let next:=J2 (f.g 4)
 if f.pc=0 then
  let (e,x):=x.load 1
  ((((x.s 1 e).s 3 1).s 5 0).s 2 (u64 (x.m.p.c.level - 1))).pc 1
 else if f.pc=1 then (x.store (x.m.p.haz x.id (2*F5 (f.g 2))) (f.g 3)).pc 2
 else if f.pc=2 then
  let (w,x):=x.load (x.nlink (f.g 3) (f.g 2))
  let x:=(x.s 4 w).pc 3
  if J2 w=2 then W0 x else x
 else if f.pc=3 then (x.store (x.m.p.haz x.id (2*F5 (f.g 2)+1)) next).pc 4
 else if f.pc=4 then BP x
 else if f.pc=5 then
  let (w,x):=(x.pc 6).load (x.m.p.node next 5)
  if Y9 w then Cg x else x
 else
  let (v,x):=x.load (x.m.p.node next 0)
  if v < f.g 0 then Cg x else W0 x
def Z7 (x:A9):A9:=if x.t.fr = [] then x else if x.f.fn=30 then Ec x else U1 x
def A9.swingM (x:A9) (a w to_:Int) (mk:Bool):Bool × A9:=x.cas a w (CC w (F5 to_) mk)
def A9.guard (x:A9) (slot node:Int):A9:=x.store (x.m.p.haz x.id (x.m.p.slots - 1 - slot % 2)) node
def BQ (x:A9):A9:=
 let f:=x.f
 if f.pc=0 then
  let (w,x):=x.load (x.nlink 1 0)
  let x:=(((x.s 0 w).s 1 (J2 w)).s 2 (J2 w)).pc 1
  if Y9 w then x else x.fin 0 0 0
 else if f.pc=1 then
  let (w,x):=x.load (x.nlink (f.g 1) 0)
  let x:=(x.s 2 (J2 w)).pc 2
  if Y9 w then (x.s 1 (J2 w)).pc 1 else x
 else if f.pc=2 then x.call 3 36 [f.g 1]
 else if f.pc=3 then let (_,x):=x.swingM (x.nlink 1 0) (f.g 0) (f.g 2) false;x.pc 4
 else if f.pc=4 then x.call 5 35 [J2 (f.g 0),f.g 2]
 else x.fin 0 0 0
def BR (x:A9):A9:=
 let f:=x.f
 if f.pc=0 then let (_,x):=x.add 1 1;x.pc 1
 else if f.pc=1 then
  if f.g 0=f.g 1 then x.pop []
  else let (w,x):=x.load (x.nlink (f.g 0) 0);(x.s 2 (J2 w)).pc 2
 else (x.s 0 (f.g 2)).call 1 5 [f.g 0]
def AT (x:A9):A9:=(x.s 2 (u64 (x.f.g 2 - 1))).pc 1
def BS (x:A9):A9:=
 let f:=x.f
 if f.pc=4 then
  if f.g 4=f.g 0 then x.pc 5
  else
   let (w,x):=x.load (x.nlink (f.g 4) 0)
   if Y9 w then x.pc 5 else if f.g 4=J2 (f.g 3) then AT x else x.pc 6
 else if f.pc=5 then
  let (w,x):=x.load (x.nlink (f.g 4) (f.g 2))
  let x:=(x.s 4 (J2 w)).pc 2
  if J2 w=2 then x.pc 6 else x
 else
  let (ok,x):=x.swingM (x.nlink 1 (f.g 2)) (f.g 3) (f.g 4) false
  if ok then AT x else x.pc 1
def BT (x:A9):A9:=
 let f:=x.f
 if f.pc=0 then
  let (e,x):=x.load 1
  ((x.s 1 e).s 2 (u64 (x.m.p.c.level - 1))).pc 1
 else if f.pc=1 then
  if f.g 2=0 then x.pop []
  else
   let (w,x):=x.load (x.nlink 1 (f.g 2))
   let x:=((x.s 3 w).s 4 (J2 w)).pc 2
   if J2 w=2 then AT x else x
 else if f.pc=2 then ((x.guard (f.g 5) (f.g 4)).s 5 (u64 (f.g 5+1))).pc 3
 else if f.pc=3 then
  let (e,x):=(x.pc 4).load 1
  if e≠f.g 1 then x.pc 0 else x
 else BS x
def BV (x:A9):A9:=
 let f:=x.f
 let v:=x.ret 0
 let n:=x.t.retired.length
 if f.pc=0 then x.call 1 1 []
 else if f.pc=1 then
  let x:=x.s 2 v
  if v≠0 then x.pc 2
  else if f.g 5=0/\n > 0 then (x.s 5 1).call 0 6 []
  else x.fin 1 0 0
 else if f.pc=2 then
  let (v,x):=x.add 3 1
  let x:=x.s 4 (R5 (u32 (f.g 0)) (u32 v))
  let (l,m):=x.m.lvl x.m.p.c.level
  (({ x with m:=m }:A9).s 3 (u64 l)).pc 3
 else x
def EL (x:A9):A9:=
 let f:=x.f
 let n:=f.g 2
 let x:=if f.pc=3 then x.store (x.na n 0) (f.g 4) else if f.pc=4 then x.store (x.na n 1) (f.g 1)
  else if f.pc=5 then x.store (x.na n 2) 1 else if f.pc=6 then x.store (x.na n 3) (f.g 3) else x
 x.pc (f.pc+1)
def Al (x:A9):A9:=
 let f:=x.f
 let n:=f.g 2
 if f.pc=7 then x.call 8 30 [f.g 4]
 else if f.pc=8 then let (w,x):=(x.s 7 (x.ret 0)).load (x.nlink n 0);(x.s 6 w).pc 9
 else if f.pc=9 then (x.store (x.nlink n 0) (CC (f.g 6) (F5 (x.t.succ.getD 0 0)) false)).pc 10
 else if f.pc=10 then
  let x:=(x.s 5 1).pc 7
  let (ok,x):=x.swingM (x.nlink (x.t.pred.getD 0 0) 0) (x.t.word.getD 0 0) n false
  if ok then x.pc 11 else x
 else x
def Am (x:A9):A9:=
 let f:=x.f
 let n:=f.g 2
 let row:=f.g 5
 if f.pc=11 then
  if row >= f.g 3 then x.pc 17
  else let (w,x):=(x.pc 12).load (x.nlink n 0);if Y9 w then x.pc 17 else x
 else if f.pc=12 then
  let x:=x.pc 13
  let s:=x.t.succ.getD row.toNat 0
  if s=2 then x else if s=f.g 7 then x.pc 17
  else let (w,x):=x.load (x.nlink s 0);if Y9 w then x.pc 17 else x
 else if f.pc=13 then let (w,x):=x.load (x.nlink n row);(x.s 6 w).pc 14
 else if f.pc=14 then (x.store (x.nlink n row) (CC (f.g 6) (F5 (x.t.succ.getD row.toNat 0)) false)).pc 15
 else x
def BW (x:A9):A9:=
 let f:=x.f
 let row:=f.g 5
 if f.pc=15 then
  let (ok,x):=x.swingM (x.nlink (x.t.pred.getD row.toNat 0) row) (x.t.word.getD row.toNat 0) (f.g 2) false
  if ok then (x.s 5 (u64 (row+1))).pc 11 else x.call 16 30 [f.g 4]
 else if f.pc=16 then
  let x:=(x.s 7 (x.ret 0)).pc 11
  if x.t.succ.getD 0 0≠f.g 2 then x.pc 17 else x
 else if f.pc=17 then (x.store (x.na (f.g 2) 2) 0).pc 18
 else x.fin 0 0 0
def BX (x:A9):A9:=if x.f.pc<=2 then BV x else if x.f.pc<=6 then EL x else if x.f.pc<=10 then Al x else if x.f.pc<=14 then Am x else BW x
def AU (x:A9):A9:=
 let f:=x.f
 let next:=J2 (f.g 5)
 if f.pc=0 then
  let (e,x):=x.load 1
  ((((x.s 0 e).s 2 1).s 3 0).s 4 0).pc 1
 else if f.pc=1 then let (w,x):=x.load (x.nlink 1 0);((x.s 1 w).s 5 w).pc 2
 else if f.pc=2 then
  let x:=x.pc 3
  if next=2 then x.fin 3 0 0 else x
 else if f.pc=3 then ((x.guard (f.g 3) next).s 3 (u64 (f.g 3+1))).pc 4
 else if f.pc=4 then
  let (e,x):=(x.pc 5).load 1
  if e≠f.g 0 then x.pc 0 else x
 else x
def GO (x:A9):A9:=
 let f:=x.f
 let next:=J2 (f.g 5)
 if f.pc=5 then
  let x:=x.pc 6
  if f.g 2≠1/\f.g 4=0 then
   let (v,x):=x.load (x.na (f.g 2) 2)
   if v=1 then x.s 4 (f.g 2) else x
  else x
 else if f.pc=6 then
  if Y9 (f.g 5) then (x.s 2 next).pc 7 else if f.fn=33 then x.pc 9 else x.pc 8
 else if f.pc=7 then let (w,x):=x.load (x.nlink (f.g 2) 0);(x.s 5 w).pc 2
 else if f.pc=8 then
  let x:=x.pc 9
  let (ok,x):=x.swingM (x.nlink (f.g 2) 0) (f.g 5) next true
  if ok then x else (x.s 3 (u64 (f.g 3 - 1))).pc 7
 else x
def AV (x:A9):A9:=
 let f:=x.f
 let next:=J2 (f.g 5)
 if f.pc=9 then let (v,x):=x.load (x.na next 1);(x.s 6 v).pc 10
 else if f.pc=10 then
  let (v,x):=x.load (x.na next 0)
  let x:=(x.s 8 (EZ v)).pc 11
  let x:=if f.fn=33\/f.g 3 < u64 x.m.p.c.batch then x.pc 14 else x
  if f.g 4=0 then x.s 4 next else x
 else x
def CU (x:A9):A9:=
 let f:=x.f
 if f.pc=11 then
  let x:=x.pc 14
  let (ok,x):=x.swingM (x.nlink 1 0) (f.g 1) (f.g 4) true
  if ok then x.pc 12 else x
 else if f.pc=12 then x.call 13 36 [0]
 else if f.pc=13 then x.call 14 35 [J2 (f.g 1),f.g 4]
 else x.fin 2 (f.g 8) (f.g 6)
def AW (x:A9):A9:=if x.f.pc<=4 then AU x else if x.f.pc<=8 then GO x else if x.f.pc<=10 then AV x else CU x
def U2 (x:A9):A9:=
 if x.t.fr = [] then x else
 let f:=x.f
 if f.fn < 31\/36 < f.fn then Z7 x
 else if f.pc=90 then x.pop [f.g 7,f.g 8,f.g 9]
 else if f.fn=31 then BX x
 else if f.fn=34 then BQ x
 else if f.fn=35 then BR x
 else if f.fn=36 then BT x
 else AW x
end Go.Proofs.YtahpbclnkofhfaaGreat.Mod
end
namespace Go.Proofs.YtahpbclnkofhfaaGreat
section
open Mod
variable {K:kQ} {h:A2}
def U (n:Int):Prop:=0<=n/\n < 18446744073709551616
theorem U.wrap {n:Int} (h:U n):IntKind.wrap .u64 n=n:=by
 obtain ⟨m,rfl⟩ : ∃m:Nat,n=m:=⟨n.toNat,by have:=h.1;omega⟩
 exact Kn (by have:=h.2;omega)
theorem U.bv {n:Int} (h:U n):(BitVec.ofInt 64 n).toNat=n.toNat:=by
 rw [BitVec.toNat_ofInt]
 have:=h.1;have:=h.2
 omega
theorem U.and1 {n:Int} (h:U n):IntKind.wrap .u64 ((((BitVec.ofInt 64 n) &&& (BitVec.ofInt 64 1)).toNat:Nat):Int)=n % 2:=by
 rw [BitVec.toNat_and,h.bv,show (BitVec.ofInt 64 1).toNat=1 by decide,Nat.and_one_is_mod,Kn (by omega)]
 have:=h.1
 omega
theorem KZ {a b:Int} (k:Nat) (ha:U a) (hb:0<=b) (hk:b < ((2 ^ k:Nat):Int)) (hd:a % ((2 ^ k:Nat):Int)=0) (hs:U (a+b)):IntKind.wrap .u64 ((((BitVec.ofInt 64 a) ||| (BitVec.ofInt 64 b)).toNat:Nat):Int)=a+b:=by
 have hbU:U b:=⟨hb,by have:=hs.2;have:=ha.1;omega⟩
 rw [BitVec.toNat_or,ha.bv,hbU.bv]
 obtain ⟨m,rfl⟩ : ∃m:Nat,a=m:=⟨a.toNat,by have:=ha.1;omega⟩
 obtain ⟨n,rfl⟩ : ∃n:Nat,b=n:=⟨b.toNat,by omega⟩
 rw [Int.toNat_natCast,Int.toNat_natCast]
 have hd':m % 2 ^ k=0:=by
  have:((m % 2 ^ k:Nat):Int)=0:=by rw [Int.natCast_emod];exact hd
  omega
 obtain ⟨c,hc⟩ : ∃c,m=2 ^ k*c:=⟨m / 2 ^ k,by have:=Nat.div_add_mod m (2 ^ k);omega⟩
 have hn:n < 2 ^ k:=by omega
 rw [hc,<- Nat.two_pow_add_eq_or_of_lt hn,<- hc]
 have:=hs.2
 rw [Kn (by omega)]
 omega
theorem Bc {n m:Int} (h:0<=m):Int.fdiv n m=n / m:=Int.fdiv_eq_ediv_of_nonneg _ h
theorem FS {n m:Int} (h:0<=n):Int.tmod n m=n % m:=Int.tmod_eq_emod_of_nonneg h
theorem M7 {w:Int} (hw:U w) (k:K (iQ (J2 w)) h):A5 Tryz.prog 146 #[uQ w] h K:=by
 refine call146 ?_
 unfold F146
 refine ⟨by omega,by omega,?_⟩
 have:=hw.1
 rw [Bc (by omega),FS (by omega),D8 (by omega) (by omega)]
 exact k
theorem V3 {w:Int} (hw:U w) (k:K (dQ (Y9 w)) h):A5 Tryz.prog 226 #[uQ w] h K:=by
 refine call226 ?_
 unfold F226
 rw [hw.and1]
 exact k
theorem Zk {w:Int} (hw:U w) (k:K (uQ (Vi w)) h):A5 Tryz.prog 285 #[uQ w] h K:=by
 refine call285 ?_
 unfold F285
 rw [Bc (by omega)]
 exact ⟨by omega,k⟩
theorem SQ8 (b:Bool):0<=b2i b/\b2i b<=1:=by cases b <;> decide
theorem XS {ptr ver:Int} {mk:Bool} (hp:0<=ptr/\ptr < 65536) (hv:0<=ver/\ver < 140737488355328):U (Y0 ptr mk ver):=by
 have:=SQ8 mk
 unfold U Y0
 omega
theorem La {ptr ver:Int} {mk:Bool} (hp:0<=ptr/\ptr < 65536) (hv:0<=ver/\ver < 140737488355328) (k:K (uQ (Y0 ptr mk ver)) h):A5 Tryz.prog 278 #[uQ ptr,dQ mk,uQ ver] h K:=by
 refine call278 ?_
 unfold F278
 refine ⟨by omega,by omega,?_⟩
 have e1:IntKind.wrap .u64 (ver*131072)=ver*131072:=U.wrap ⟨by omega,by omega⟩
 have e2:IntKind.wrap .u64 (ptr*2)=ptr*2:=U.wrap ⟨by omega,by omega⟩
 rw [e1,e2]
 have e3:=KZ (a:=ver*131072) (b:=ptr*2) 17 ⟨by omega,by omega⟩ (by omega) (by simp only [Nat.reducePow];omega) (by simp only [Nat.reducePow];omega) ⟨by omega,by omega⟩
 rw [e3]
 cases mk with
 | false=>
  simp only [E2]
  unfold Y0 b2i at k
  simpa using k
 | true=>
  simp only [G2]
  have e4:=KZ (a:=ver*131072+ptr*2) (b:=1) 1 ⟨by omega,by omega⟩ (by omega) (by decide) (by simp only [Nat.reducePow];omega) ⟨by omega,by omega⟩
  rw [e4]
  unfold Y0 b2i at k
  simpa using k
theorem AL {w ptr:Int} {mk:Bool}:U (CC w ptr mk):=XS ⟨by omega,by omega⟩ ⟨by omega,by omega⟩
theorem IW (n:Int):IntKind.wrap .u64 n=n % 18446744073709551616:=by
 unfold IntKind.wrap IntKind.signed IntKind.bits
 have e:(2:Int) ^ 64=18446744073709551616:=rfl
 simp only [Bool.false_and,Bool.false_eq_true,if_false,e]
theorem Fa (n:Int):IntKind.wrap .u32 n=n % 4294967296:=by
 unfold IntKind.wrap IntKind.signed IntKind.bits
 have e:(2:Int) ^ 32=4294967296:=rfl
 simp only [Bool.false_and,Bool.false_eq_true,if_false,e]
theorem FT (n:Int):IntKind.wrap .i64 n=F5 n:=by
 unfold IntKind.wrap IntKind.signed IntKind.bits F5
 have e:(2:Int) ^ 64=18446744073709551616:=rfl
 have e2:(2:Int) ^ (64 - 1)=9223372036854775808:=rfl
 simp only [Bool.true_and,decide_eq_true_eq,e,e2]
 split <;> split <;> omega
theorem T7 {w ptr:Int} {mk:Bool} (hw:U w) (k:K (uQ (CC w ptr mk)) h):A5 Tryz.prog 228 #[uQ w,iQ ptr,dQ mk] h K:=by
 refine call228 ?_
 unfold F228 cf
 refine ⟨by omega,?_⟩
 refine A0 (Zk hw ?_)
 simp only [A6]
 refine ⟨by omega,?_⟩
 have hv:0<=Vi w/\Vi w < 140737488355328:=by have:=hw.1;have:=hw.2;unfold Vi;omega
 rw [show IntKind.wrap .u64 (Vi w+1)=Vi w+1 from U.wrap ⟨by omega,by omega⟩,IW,FS (by omega),FS (by omega)]
 rw [show ptr % 18446744073709551616 % 65536=ptr % 65536 by omega]
 refine A0 (La ⟨by omega,by omega⟩ ⟨by omega,by omega⟩ ?_)
 simp only [A6]
 exact k
theorem OE {w:Int} (hw:U w) (k:K (uQ (XP w)) h):A5 Tryz.prog 261 #[uQ w] h K:=by
 refine call261 ?_
 unfold F261 cf
 refine A0 (M7 hw ?_)
 simp only [A6]
 refine A0 (T7 hw ?_)
 simp only [A6]
 exact k
def V (n:Int):Prop:=0<=n/\n < 4294967296
theorem Rc (n:Int):V (u32 n):=⟨by unfold u32;omega,by unfold u32;omega⟩
theorem V.u32 {n:Int} (h:V n):u32 n=n:=by unfold Mod.u32;have:=h.1;have:=h.2;omega
theorem Lb {a b:Int} (ha:V a) (hb:V b) (k:K (uQ (R5 a b)) h):A5 Tryz.prog 249 #[.int .u32 a,.int .u32 b] h K:=by
 refine call249 ?_
 unfold F249
 refine ⟨by omega,?_⟩
 have:=ha.1;have:=ha.2;have:=hb.1;have:=hb.2
 rw [show IntKind.wrap .u64 a=a from U.wrap ⟨by omega,by omega⟩,show IntKind.wrap .u64 b=b from U.wrap ⟨by omega,by omega⟩,show IntKind.wrap .u64 (a*4294967296)=a*4294967296 from U.wrap ⟨by omega,by omega⟩,
  KZ (a:=a*4294967296) (b:=b) 32 ⟨by omega,by omega⟩ (by omega) (by simp only [Nat.reducePow];omega) (by simp only [Nat.reducePow];omega) ⟨by omega,by omega⟩]
 unfold R5 at k
 rw [ha.u32,hb.u32] at k
 exact k
theorem Vk {a:Int} {g:Bool} (ha:V a) (k:K (uQ (GF a g)) h):A5 Tryz.prog 252 #[.int .u32 a,dQ g] h K:=by
 refine call252 ?_
 unfold F252
 refine ⟨by omega,?_⟩
 have:=ha.1;have:=ha.2
 rw [show IntKind.wrap .u64 a=a from U.wrap ⟨by omega,by omega⟩,show IntKind.wrap .u64 (a*2)=a*2 from U.wrap ⟨by omega,by omega⟩]
 unfold GF b2i at k
 rw [ha.u32] at k
 cases g with
 | false=>simp only [E2];simpa using k
 | true=>
  simp only [G2]
  rw [KZ (a:=a*2) (b:=1) 1 ⟨by omega,by omega⟩ (by omega) (by decide) (by simp only [Nat.reducePow];omega) ⟨by omega,by omega⟩]
  simpa using k
theorem Vl {w:Int} (hw:U w) (k:K (dQ (XR w)) h):A5 Tryz.prog 258 #[uQ w] h K:=by
 refine call258 ?_
 unfold F258
 rw [hw.and1]
 exact k
theorem Nl {n:Int} (hn:U n) (k:K (.int .u32 (EZ n)) h):A5 Tryz.prog 274 #[uQ n] h K:=by
 refine call274 ?_
 unfold F274
 have:=hn.1;have:=hn.2
 rw [Bc (by omega),Fa,show n / 4294967296 % 4294967296=n / 4294967296 by omega]
 exact ⟨by omega,k⟩
theorem Zl {w:Int} (k:K (.int .u32 (Hs w)) h):A5 Tryz.prog 298 #[uQ w] h K:=by
 refine call298 ?_
 unfold F298
 rw [Bc (by omega),Fa]
 exact ⟨by omega,k⟩
theorem Vm {w:Int} (hw:U w) (k:K (uQ (GG w)) h):A5 Tryz.prog 260 #[uQ w] h K:=by
 refine call260 ?_
 unfold F260
 have:=hw.1;have:=hw.2
 have key:IntKind.wrap .u64 ((((BitVec.ofInt 64 w) ||| (BitVec.ofInt 64 1)).toNat:Nat):Int)=GG w:=by
  unfold GG
  by_cases e:w % 2=1
  ·rw [if_pos e,BitVec.toNat_or,hw.bv,show (BitVec.ofInt 64 1).toNat=1 by decide]
   have e2:w.toNat ||| 1=w.toNat:=by
    apply Nat.eq_of_testBit_eq
    intro j
    rw [Nat.testBit_or]
    cases j with
    | zero=>
     rw [Nat.testBit_zero,Nat.testBit_zero]
     have:w.toNat % 2=1:=by omega
     simp [this]
    | succ j=>simp [Nat.testBit_succ]
   rw [e2,Kn (by omega)]
   omega
  ·rw [if_neg e]
   exact KZ (a:=w) (b:=1) 1 hw (by omega) (by decide) (by simp only [Nat.reducePow];omega) ⟨by omega,by omega⟩
 rw [key]
 exact k
end
section
set_option maxRecDepth 100000
variable {K:kQ} {h:A2}
abbrev g100 (K:kQ) (h H1:A2):Prop:=
 (lI .i64 H1 ⟨h.size,14,none⟩ λa=>K (iQ a) H1)
def F100 (K:kQ) (h:A2) (xa xb xc xd xe xf xg xh xi xj xk xl xm xn xo:Int):Prop:=
 (g100 K h (h.push (oQ #[iQ xa,iQ xb,iQ xc,iQ xd,iQ xe,iQ xf,iQ xg,iQ xh,iQ xi,iQ xj,iQ xk,iQ xl,iQ xm,iQ xn,iQ xo] 117)))
theorem call100 {xa xb xc xd xe xf xg xh xi xj xk xl xm xn xo:Int} (H:F100 K h xa xb xc xd xe xf xg xh xi xj xk xl xm xn xo):A5 Tryz.prog 100 #[(.agg #[(iQ xa),(iQ xb),(iQ xc),(iQ xd),(iQ xe),(iQ xf),(iQ xg),(iQ xh),(iQ xi),(iQ xj),(iQ xk),(iQ xl),(iQ xm),(iQ xn),(iQ xo)])] h K:=
 cQ Tryz.func100 H
abbrev g104 (K:kQ) (h H1:A2):Prop:=
 (lI .i64 H1 ⟨h.size,9,none⟩ λa=>K (iQ a) H1)
def F104 (K:kQ) (h:A2) (xa xb xc xd xe xf xg xh xi xj xk xl xm xn xo:Int):Prop:=
 (g104 K h (h.push (oQ #[iQ xa,iQ xb,iQ xc,iQ xd,iQ xe,iQ xf,iQ xg,iQ xh,iQ xi,iQ xj,iQ xk,iQ xl,iQ xm,iQ xn,iQ xo] 117)))
theorem call104 {xa xb xc xd xe xf xg xh xi xj xk xl xm xn xo:Int} (H:F104 K h xa xb xc xd xe xf xg xh xi xj xk xl xm xn xo):A5 Tryz.prog 104 #[(.agg #[(iQ xa),(iQ xb),(iQ xc),(iQ xd),(iQ xe),(iQ xf),(iQ xg),(iQ xh),(iQ xi),(iQ xj),(iQ xk),(iQ xl),(iQ xm),(iQ xn),(iQ xo)])] h K:=
 cQ Tryz.func104 H
abbrev g139 (K:kQ) (h H1 H2:A2):Prop:=
 (da7 H2 (aQ h.size) λa b c d e f g=>dw7 H2 H1.size a b c d e f g λa=>PY a H1.size λb c d e f g i=>K (.agg #[b,c,d,e,f,g,i]) a)
def F139 (K:kQ) (h:A2) (xa xb xc xd xe xf xg xh xi xj xk xl xm xn xo:Int):Prop:=
 (g139 K h (h.push (oQ #[iQ xa,iQ xb,iQ xc,iQ xd,iQ xe,iQ xf,iQ xg,iQ xh,iQ xi,iQ xj,iQ xk,iQ xl,iQ xm,iQ xn,iQ xo] 117)) (Array.push (h.push (oQ #[iQ xa,iQ xb,iQ xc,iQ xd,iQ xe,iQ xf,iQ xg,iQ xh,iQ xi,iQ xj,iQ xk,iQ xl,iQ xm,iQ xn,iQ xo] 117)) (oQ NW 23)))
theorem call139 {xa xb xc xd xe xf xg xh xi xj xk xl xm xn xo:Int} (H:F139 K h xa xb xc xd xe xf xg xh xi xj xk xl xm xn xo):A5 Tryz.prog 139 #[(.agg #[(iQ xa),(iQ xb),(iQ xc),(iQ xd),(iQ xe),(iQ xf),(iQ xg),(iQ xh),(iQ xi),(iQ xj),(iQ xk),(iQ xl),(iQ xm),(iQ xn),(iQ xo)])] h K:=
 cQ Tryz.func139 H
abbrev g142 (K:kQ) (h H1:A2) (xa:Int):Prop:=
 (lI .i64 H1 (Addr.add (aQ h.size) 2) λa=>cf 138 #[lQ (some (aQ H1.size)) 1 1] (H1.push (oQ #[iQ xa,iQ 1,iQ a] 229)) λa b=>asBool a λa=>D0 (!a) (K (iQ (-1)) b) (lI .i64 b ⟨h.size,11,none⟩ λa=>K (iQ (IntKind.wrap .i64 ((IntKind.wrap .i64 (a+xa)) - 1))) b))
def F142 (K:kQ) (h:A2) (xa xb xc xd xe xf xg xh xi xj xk xl xm xn xo xp:Int):Prop:=
 (g142 K h (h.push (oQ #[iQ xa,iQ xb,iQ xc,iQ xd,iQ xe,iQ xf,iQ xg,iQ xh,iQ xi,iQ xj,iQ xk,iQ xl,iQ xm,iQ xn,iQ xo] 117)) xp)
theorem call142 {xa xb xc xd xe xf xg xh xi xj xk xl xm xn xo xp:Int} (H:F142 K h xa xb xc xd xe xf xg xh xi xj xk xl xm xn xo xp):A5 Tryz.prog 142 #[(.agg #[(iQ xa),(iQ xb),(iQ xc),(iQ xd),(iQ xe),(iQ xf),(iQ xg),(iQ xh),(iQ xi),(iQ xj),(iQ xk),(iQ xl),(iQ xm),(iQ xn),(iQ xo)]),(iQ xp)] h K:=
 cQ Tryz.func142 H
abbrev g143 (K:kQ) (h H1:A2) (xa xb:Int):Prop:=
 (lI .i64 H1 (Addr.add (aQ h.size) 2) λa=>lI .i64 H1 ⟨h.size,8,none⟩ λb=>cf 138 #[lQ (some (aQ H1.size)) 2 2] (H1.push (oQ #[iQ xa,iQ 1,iQ a,iQ xb,iQ 0,iQ (IntKind.wrap .i64 (b - 1))] 229)) λa b=>asBool a λa=>D0 (!a) (K (iQ (-1)) b) (lI .i64 b ⟨h.size,12,none⟩ λa=>lI .i64 b ⟨h.size,8,none⟩ λc=>K (iQ (IntKind.wrap .i64 ((IntKind.wrap .i64 (a+(IntKind.wrap .i64 ((IntKind.wrap .i64 (xa - 1))*c))))+xb))) b))
def F143 (K:kQ) (h:A2) (xa xb xc xd xe xf xg xh xi xj xk xl xm xn xo xp xq:Int):Prop:=
 (g143 K h (h.push (oQ #[iQ xa,iQ xb,iQ xc,iQ xd,iQ xe,iQ xf,iQ xg,iQ xh,iQ xi,iQ xj,iQ xk,iQ xl,iQ xm,iQ xn,iQ xo] 117)) xp xq)
theorem call143 {xa xb xc xd xe xf xg xh xi xj xk xl xm xn xo xp xq:Int} (H:F143 K h xa xb xc xd xe xf xg xh xi xj xk xl xm xn xo xp xq):A5 Tryz.prog 143 #[(.agg #[(iQ xa),(iQ xb),(iQ xc),(iQ xd),(iQ xe),(iQ xf),(iQ xg),(iQ xh),(iQ xi),(iQ xj),(iQ xk),(iQ xl),(iQ xm),(iQ xn),(iQ xo)]),(iQ xp),(iQ xq)] h K:=
 cQ Tryz.func143 H
abbrev g232 (K:kQ) (h H1:A2) (xa xb:Int):Prop:=
 (O0 λI0=>(Bs H1 h.size λa b c d e f g i j k l m n o p=>GL Tryz.prog 117 (.agg #[a,b,c,d,e,f,g,i,j,k,l,m,n,o,p]) (.agg Ae) λa=>D0 a (I0 [dQ true] H1) (lI .i64 H1 (Addr.add (aQ h.size) 1) λa=>lI .i64 H1 ⟨h.size,7,none⟩ λb=>cf 138 #[lQ (some (aQ H1.size)) 2 2] (H1.push (oQ #[iQ xa,iQ 0,iQ (IntKind.wrap .i64 (a - 1)),iQ xb,iQ 0,iQ (IntKind.wrap .i64 (b - 1))] 229)) λa b=>asBool a λa=>I0 [dQ (!a)] b))/\(∀(a:Value) (b:F8) (b:A2),(I0 [a] b)->(asBool a λa=>D0 a (K (iQ (-1)) b) (lI .i64 b ⟨h.size,10,none⟩ λa=>lI .i64 b ⟨h.size,7,none⟩ λc=>K (iQ (IntKind.wrap .i64 ((IntKind.wrap .i64 (a+(IntKind.wrap .i64 (xa*c))))+xb))) b))))
def F232 (K:kQ) (h:A2) (xa xb xc xd xe xf xg xh xi xj xk xl xm xn xo xp xq:Int):Prop:=
 (g232 K h (h.push (oQ #[iQ xa,iQ xb,iQ xc,iQ xd,iQ xe,iQ xf,iQ xg,iQ xh,iQ xi,iQ xj,iQ xk,iQ xl,iQ xm,iQ xn,iQ xo] 117)) xp xq)
theorem call232 {xa xb xc xd xe xf xg xh xi xj xk xl xm xn xo xp xq:Int} (H:F232 K h xa xb xc xd xe xf xg xh xi xj xk xl xm xn xo xp xq):A5 Tryz.prog 232 #[(.agg #[(iQ xa),(iQ xb),(iQ xc),(iQ xd),(iQ xe),(iQ xf),(iQ xg),(iQ xh),(iQ xi),(iQ xj),(iQ xk),(iQ xl),(iQ xm),(iQ xn),(iQ xo)]),(iQ xp),(iQ xq)] h K:=
 cQ Tryz.func232 H
abbrev g233 (K:kQ) (h H1:A2):Prop:=
 (lI .i64 H1 ⟨h.size,7,none⟩ λa=>K (iQ a) H1)
def F233 (K:kQ) (h:A2) (xa xb xc xd xe xf xg xh xi xj xk xl xm xn xo:Int):Prop:=
 (g233 K h (h.push (oQ #[iQ xa,iQ xb,iQ xc,iQ xd,iQ xe,iQ xf,iQ xg,iQ xh,iQ xi,iQ xj,iQ xk,iQ xl,iQ xm,iQ xn,iQ xo] 117)))
theorem call233 {xa xb xc xd xe xf xg xh xi xj xk xl xm xn xo:Int} (H:F233 K h xa xb xc xd xe xf xg xh xi xj xk xl xm xn xo):A5 Tryz.prog 233 #[(.agg #[(iQ xa),(iQ xb),(iQ xc),(iQ xd),(iQ xe),(iQ xf),(iQ xg),(iQ xh),(iQ xi),(iQ xj),(iQ xk),(iQ xl),(iQ xm),(iQ xn),(iQ xo)])] h K:=
 cQ Tryz.func233 H
abbrev g207 (K:kQ) (h H1:A2) (xa:Int):Prop:=
 (O0 λI0=>(D0 (decide (xa < 0)) (I0 [dQ true] H1) (lI .i64 H1 ⟨h.size,14,none⟩ λa=>lI .i64 H1 ⟨h.size,13,none⟩ λb=>I0 [dQ (decide (xa >= (IntKind.wrap .i64 (a - b))))] H1))/\(∀(a:Value) (b:F8) (b:A2),(I0 [a] b)->(asBool a λa=>D0 a (K (iQ (-1)) b) (lI .i64 b ⟨h.size,13,none⟩ λa=>K (iQ (IntKind.wrap .i64 (a+xa))) b))))
def F207 (K:kQ) (h:A2) (xa xb xc xd xe xf xg xh xi xj xk xl xm xn xo xp:Int):Prop:=
 (g207 K h (h.push (oQ #[iQ xa,iQ xb,iQ xc,iQ xd,iQ xe,iQ xf,iQ xg,iQ xh,iQ xi,iQ xj,iQ xk,iQ xl,iQ xm,iQ xn,iQ xo] 117)) xp)
theorem call207 {xa xb xc xd xe xf xg xh xi xj xk xl xm xn xo xp:Int} (H:F207 K h xa xb xc xd xe xf xg xh xi xj xk xl xm xn xo xp):A5 Tryz.prog 207 #[(.agg #[(iQ xa),(iQ xb),(iQ xc),(iQ xd),(iQ xe),(iQ xf),(iQ xg),(iQ xh),(iQ xi),(iQ xj),(iQ xk),(iQ xl),(iQ xm),(iQ xn),(iQ xo)]),(iQ xp)] h K:=
 cQ Tryz.func207 H
abbrev g80 (K:kQ) (h H1:A2) (xa:Int):Prop:=
 (O0 λI0=>(D0 (decide (xa < 0)) (I0 [dQ true,dQ true] H1) (lI .i64 H1 ⟨h.size,14,none⟩ λa=>I0 [dQ (decide (xa >= a)),dQ (decide (xa >= a))] H1))/\(∀(a b:Value) (c:F8) (c:A2),(I0 [a,b] c)->(asBool a λa=>D0 a (K (.tuple #[iQ 5,iQ 0,iQ 0]) c) (lI .i64 c ⟨h.size,10,none⟩ λa=>D0 (decide (xa < a)) (K (.tuple #[iQ 0,iQ xa,iQ 0]) c) (lI .i64 c ⟨h.size,11,none⟩ λa=>D0 (decide (xa < a)) (lI .i64 c ⟨h.size,10,none⟩ λa=>lI .i64 c ⟨h.size,7,none⟩ λb=>((b:Int)≠0)/\(lI .i64 c ⟨h.size,10,none⟩ λd=>lI .i64 c ⟨h.size,7,none⟩ λe=>((e:Int)≠0)/\(K (.tuple #[iQ 1,iQ (IntKind.wrap .i64 (Int.tdiv (IntKind.wrap .i64 (xa - a)) b)),iQ (Int.tmod (IntKind.wrap .i64 (xa - d)) e)]) c))) (lI .i64 c ⟨h.size,12,none⟩ λa=>D0 (decide (xa < a)) (lI .i64 c ⟨h.size,11,none⟩ λa=>K (.tuple #[iQ 2,iQ (IntKind.wrap .i64 ((IntKind.wrap .i64 (xa - a))+1)),iQ 0]) c) (lI .i64 c ⟨h.size,13,none⟩ λa=>D0 (decide (xa < a)) (lI .i64 c ⟨h.size,12,none⟩ λa=>lI .i64 c ⟨h.size,8,none⟩ λb=>((b:Int)≠0)/\(lI .i64 c ⟨h.size,12,none⟩ λd=>lI .i64 c ⟨h.size,8,none⟩ λe=>((e:Int)≠0)/\(K (.tuple #[iQ 3,iQ (IntKind.wrap .i64 ((IntKind.wrap .i64 (Int.tdiv (IntKind.wrap .i64 (xa - a)) b))+1)),iQ (Int.tmod (IntKind.wrap .i64 (xa - d)) e)]) c))) (lI .i64 c ⟨h.size,13,none⟩ λa=>K (.tuple #[iQ 4,iQ (IntKind.wrap .i64 (xa - a)),iQ 0]) c))))))))
def F80 (K:kQ) (h:A2) (xa xb xc xd xe xf xg xh xi xj xk xl xm xn xo xp:Int):Prop:=
 (g80 K h (h.push (oQ #[iQ xa,iQ xb,iQ xc,iQ xd,iQ xe,iQ xf,iQ xg,iQ xh,iQ xi,iQ xj,iQ xk,iQ xl,iQ xm,iQ xn,iQ xo] 117)) xp)
theorem call80 {xa xb xc xd xe xf xg xh xi xj xk xl xm xn xo xp:Int} (H:F80 K h xa xb xc xd xe xf xg xh xi xj xk xl xm xn xo xp):A5 Tryz.prog 80 #[(.agg #[(iQ xa),(iQ xb),(iQ xc),(iQ xd),(iQ xe),(iQ xf),(iQ xg),(iQ xh),(iQ xi),(iQ xj),(iQ xk),(iQ xl),(iQ xm),(iQ xn),(iQ xo)]),(iQ xp)] h K:=
 cQ Tryz.func80 H
end
section
open Mod
variable {K:kQ} {h:A2}
abbrev T3:=Int × Int × Int
def Nm (x:T3):List Value:=[iQ x.1,iQ x.2.1,iQ x.2.2]
theorem SF7:∀x:T3,(Nm x).length=3:=λ_=>rfl
theorem SF8 (x:T3):∀y ∈ Nm x,J3 y True:=by
 intro y hy
 simp only [Nm,List.mem_cons,List.not_mem_nil,or_false] at hy
 rcases hy with rfl | rfl | rfl <;> exact trivial
def Rd (x:T3):Bool:=decide (x.2.1<=x.1) && decide (x.1<=x.2.2)
theorem SZ3 {h:A2} {b:Nat} {v0 v1 v2:Value} {K:A2->Prop} (H:NX h (aQ b) 0 [v0,v1,v2] K):C4 h (aQ b) v0 λh=>C4 h ⟨b,1,none⟩ v1 λh=>C4 h ⟨b,2,none⟩ v2 K:=H
theorem FU {a:Option Addr} {l c:Nat} {L:List T3} (H:SX Nm h a l c L) (hl:l < 2 ^ 60) (k:∀h',G4 h.size h h'->K (dQ (L.all Rd)) h'):A5 Tryz.prog 138 #[lQ a l c] h K:=by
 refine call138 ?_
 unfold F138 bd lI
 have hlen:=H.len
 refine ⟨λvs h'=>∃w,∃i:Nat,vs = [w,iv i]/\i<=l/\G4 h.size h h'/\(L.take i).all Rd=true,λvs _=>(match vs with | [_,.int _ n]=>l - n.toNat | _=>0),⟨_,0,rfl,Nat.zero_le _,G4.refl _ _,rfl⟩,?_⟩
 rintro v2 v3 g4 h5 ⟨w,i,e,hi,o5,hall⟩
 cases e
 simp only [A6,EX]
 refine A4 (λhlt=>?_) (λhge=>?_)
 ·have hi':i < L.length:=by omega
  obtain ⟨ad,rfl,hc⟩:=SX.at SF7 (by omega) (H.old o5) hi'
  have htk:(L.take (i+1)).all Rd=((L.take i).all Rd && Rd L[i]):=by rw [List.take_succ_eq_append_getElem hi',List.all_append];simp
  have hmem:L.all Rd=true->Rd L[i]=true:=λh=>List.all_eq_true.1 h _ (List.getElem_mem hi')
  generalize L[i]=x at *
  refine ⟨by omega,hlt,?_⟩
  simp only [C9,Int.toNat_natCast]
  refine D3 (hc 0 _ rfl) (D3 (hc 1 _ rfl) (D3 (hc 2 _ rfl) ?_))
  have p6:=J8 h5 (Nm (0,0,0)).toArray 229
  rw [show h5.push (oQ #[iQ 0,iQ 0,iQ 0] 229)=h5.push (oQ (Nm (0,0,0)).toArray 229) from rfl]
  generalize h5.push (oQ (Nm (0,0,0)).toArray 229)=h6 at *
  refine SZ3 (F6 (vs:=Nm x) p6.new rfl (SF8 x) λh14 w14=>?_)
  have o14:G4 h5.size h5 h14:=w14.toOld p6.toOld (Nat.le_refl _)
  have ok14:=o5.trans (o14.mono o5.1)
  refine ⟨λvs h'=>vs = [dQ (!Rd x)]/\h' = h14,?_,?_⟩
  ·refine C5 w14.new rfl ?_
   simp only [A6]
   refine C5 w14.new rfl ?_
   simp only [A6]
   refine A4 (λq=>?_) (λq=>?_)
   ·refine ⟨?_,by trivial⟩
    unfold Rd
    rw [decide_eq_false (show ¬ x.2.1<=x.1 by omega)];rfl
   ·refine C5 w14.new rfl ?_
    simp only [A6]
    refine C5 w14.new rfl ?_
    simp only [A6]
    refine ⟨?_,by trivial⟩
    unfold Rd
    rw [decide_eq_true (show x.2.1<=x.1 by omega),Bool.true_and]
    congr 2
    rw [<- decide_not,decide_eq_decide];omega
  rintro v24 g25 h26 ⟨e,rfl⟩
  cases e
  simp only [B6]
  refine C7 (λhq=>?_) (λhq=>?_)
  ·have:=k h26 ok14
   have e:L.all Rd=false:=by
    apply Decidable.byContradiction
    intro h
    have:=hmem (by simpa using h)
    rw [this] at hq;cases hq
   rwa [e] at this
  ·rw [Ac (by omega)]
   exact ⟨⟨_,i+1,rfl,by omega,ok14,by rw [htk,hall];simpa using hq⟩,by show l - ((i+1:Nat):Int).toNat < l - (i:Int).toNat;omega⟩
 ·rw [List.take_of_length_le (by omega)] at hall
  have:=k h5 o5
  rwa [hall] at this
def OF (c:Mod.Cf):List Value:=[iQ c.algo,iQ c.threads,iQ c.nodes,iQ c.level,iQ c.batch,iQ c.probes,iQ c.scan]
abbrev Di (p:Pl):List Value:=[iQ p.c.algo,iQ p.c.threads,iQ p.c.nodes,iQ p.c.level,iQ p.c.batch,iQ p.c.probes,iQ p.c.scan,iQ p.slots,iQ p.width,iQ p.sent,iQ p.hazards,iQ p.links,iQ p.nodes,iQ p.tree,iQ p.size]
structure Me (p:Pl):Prop where
 th:1<=p.c.threads/\p.c.threads<=6
 no:1<=p.c.nodes/\p.c.nodes<=64
 lv:1<=p.c.level/\p.c.level<=6
 sl:2<=p.slots/\p.slots<=14
 wi:3<=p.width/\p.width<=11
 se:0<=p.sent/\p.sent<=2
 hz:p.hazards=8
 li:8<=p.links/\p.links<=1000
 nd:p.links<=p.nodes/\p.nodes<=2000
 tr:p.nodes<=p.tree/\p.tree<=3000
 si:p.tree<=p.size/\p.size<=4000
abbrev iN (n:Int):Prop:=-9223372036854775808<=n/\n<=9223372036854775807
def Mt (p:Pl):Value:=.agg #[iQ p.c.algo,iQ p.c.threads,iQ p.c.nodes,iQ p.c.level,iQ p.c.batch,iQ p.c.probes,iQ p.c.scan,iQ p.slots,iQ p.width,iQ p.sent,iQ p.hazards,iQ p.links,iQ p.nodes,iQ p.tree,iQ p.size]
theorem FV (h:A2) (p:Pl):h.push (oQ #[iQ p.c.algo,iQ p.c.threads,iQ p.c.nodes,iQ p.c.level,iQ p.c.batch,iQ p.c.probes,iQ p.c.scan,iQ p.slots,iQ p.width,iQ p.sent,iQ p.hazards,iQ p.links,iQ p.nodes,iQ p.tree,iQ p.size] 117)=h.push (oQ (Di p).toArray 117):=rfl
theorem N5 {p:Pl} {n f:Int} (B:Me p) (hn:iN n) (hf:iN f) (k:∀h',G4 h.size h h'->K (iQ (p.node n f)) h'):A5 Tryz.prog 143 #[Mt p,iQ n,iQ f] h K:=by
 refine call143 ?_
 unfold F143 g143 cf lI
 have b1:=B.no
 have b2:=B.wi
 have b3:=B.tr
 have b4:=B.nd
 have b5:=B.li
 rw [FV]
 have p1:=J8 h (Di p).toArray 117
 generalize h.push (oQ (Di p).toArray 117)=h1 at *
 rw [E1]
 refine C5 p1.new rfl ?_
 simp only [A6]
 refine C5 p1.new rfl ?_
 simp only [A6]
 rw [D8 (n:=p.width - 1) (by omega) (by omega)]
 have p2:=J8 h1 ([((n,1,p.c.nodes):T3),(f,0,p.width - 1)].flatMap Nm).toArray 229
 rw [show h1.push (oQ #[iQ n,iQ 1,iQ p.c.nodes,iQ f,iQ 0,iQ (p.width - 1)] 229)=h1.push (oQ ([((n,1,p.c.nodes):T3),(f,0,p.width - 1)].flatMap Nm).toArray 229) from rfl]
 generalize h1.push (oQ ([((n,1,p.c.nodes):T3),(f,0,p.width - 1)].flatMap Nm).toArray 229)=h2 at *
 have o1:=p1.toOld
 have o2:=o1.trans (p2.toOld.mono o1.1)
 have S2:SX Nm h2 (some (aQ h1.size)) 2 2 [((n,1,p.c.nodes):T3),(f,0,p.width - 1)]:=⟨λj v hj=>⟨_,rfl,by rw [E1,E0 p2.new,List.getElem?_toArray,Nat.zero_add];exact hj⟩,rfl,Nat.le_refl _⟩
 refine A0 (FU S2 (by omega) λh5 o5=>?_)
 simp only [B6]
 have ok5:=o2.trans (o5.mono o2.1)
 have hs1:=p1.size
 have hs2:=p2.size
 have n5:=(o5.2 _ (show h.size < h2.size by omega)).trans ((p2.old _ (show h.size < h1.size by omega)).trans p1.new)
 have kk:=k h5 ok5
 unfold Pl.node at kk
 have hin:([((n,1,p.c.nodes):T3),(f,0,p.width - 1)].all Rd)=decide (1<=n/\n<=p.c.nodes/\0<=f/\f < p.width):=by
  simp only [List.all_cons,List.all_nil,Rd,Bool.and_true]
  rw [<- Bool.decide_and,<- Bool.decide_and,<- Bool.decide_and,decide_eq_decide]
  omega
 rw [hin]
 by_cases hc:1<=n/\n<=p.c.nodes/\0<=f/\f < p.width
 ·rw [decide_eq_true hc]
  rw [if_pos hc] at kk
  simp only [Bool.not_true,E2]
  refine C5 n5 rfl ?_
  simp only [A6]
  refine C5 n5 rfl ?_
  simp only [A6]
  have hm:0<=(n - 1)*p.width/\(n - 1)*p.width<=63*11:=⟨Int.mul_nonneg (by omega) (by omega),Int.mul_le_mul (by omega) (by omega) (by omega) (by omega)⟩
  rw [D8 (n:=n - 1) (by omega) (by omega),D8 (n:=(n - 1)*p.width) (by omega) (by omega),D8 (n:=p.nodes+(n - 1)*p.width) (by omega) (by omega),D8 (by omega) (by omega)]
  exact kk
 ·rw [decide_eq_false hc]
  rw [if_neg hc] at kk
  simp only [Bool.not_false,G2]
  exact kk
theorem FX {p:Pl} {n:Int} (B:Me p) (hn:iN n) (k:∀h',G4 h.size h h'->K (iQ (p.link n)) h'):A5 Tryz.prog 142 #[Mt p,iQ n] h K:=by
 refine call142 ?_
 unfold F142 g142 cf lI
 have b1:=B.no
 have b5:=B.li
 rw [FV]
 have p1:=J8 h (Di p).toArray 117
 generalize h.push (oQ (Di p).toArray 117)=h1 at *
 rw [E1]
 refine C5 p1.new rfl ?_
 simp only [A6]
 have p2:=J8 h1 ([((n,1,p.c.nodes):T3)].flatMap Nm).toArray 229
 rw [show h1.push (oQ #[iQ n,iQ 1,iQ p.c.nodes] 229)=h1.push (oQ ([((n,1,p.c.nodes):T3)].flatMap Nm).toArray 229) from rfl]
 generalize h1.push (oQ ([((n,1,p.c.nodes):T3)].flatMap Nm).toArray 229)=h2 at *
 have o1:=p1.toOld
 have o2:=o1.trans (p2.toOld.mono o1.1)
 have S2:SX Nm h2 (some (aQ h1.size)) 1 1 [((n,1,p.c.nodes):T3)]:=⟨λj v hj=>⟨_,rfl,by rw [E1,E0 p2.new,List.getElem?_toArray,Nat.zero_add];exact hj⟩,rfl,Nat.le_refl _⟩
 refine A0 (FU S2 (by omega) λh5 o5=>?_)
 simp only [B6]
 have ok5:=o2.trans (o5.mono o2.1)
 have hs1:=p1.size
 have hs2:=p2.size
 have n5:=(o5.2 _ (show h.size < h2.size by omega)).trans ((p2.old _ (show h.size < h1.size by omega)).trans p1.new)
 have kk:=k h5 ok5
 unfold Pl.link at kk
 have hin:([((n,1,p.c.nodes):T3)].all Rd)=decide (1<=n/\n<=p.c.nodes):=by
  simp only [List.all_cons,List.all_nil,Rd,Bool.and_true]
  rw [<- Bool.decide_and]
 rw [hin]
 by_cases hc:1<=n/\n<=p.c.nodes
 ·rw [decide_eq_true hc]
  rw [if_pos hc] at kk
  simp only [Bool.not_true,E2]
  refine C5 n5 rfl ?_
  simp only [A6]
  rw [D8 (n:=p.links+n) (by omega) (by omega),D8 (by omega) (by omega)]
  exact kk
 ·rw [decide_eq_false hc]
  rw [if_neg hc] at kk
  simp only [Bool.not_false,G2]
  exact kk
theorem Re {p:Pl} {n:Int} (B:Me p) (hn:iN n) (k:∀h',G4 h.size h h'->K (iQ (p.at n)) h'):A5 Tryz.prog 207 #[Mt p,iQ n] h K:=by
 refine call207 ?_
 unfold F207 g207 lI
 have b3:=B.tr
 have b4:=B.nd
 have b5:=B.li
 have b6:=B.si
 rw [FV]
 have p1:=J8 h (Di p).toArray 117
 generalize h.push (oQ (Di p).toArray 117)=h1 at *
 have kk:=k h1 p1.toOld
 unfold Pl.at at kk
 refine ⟨λvs h'=>vs = [dQ (!decide (0<=n/\n < p.size - p.tree))]/\h' = h1,?_,?_⟩
 ·refine A4 (λq=>⟨by rw [decide_eq_false (by omega)];rfl,by trivial⟩) (λq=>?_)
  refine C5 p1.new rfl ?_
  simp only [A6]
  refine C5 p1.new rfl ?_
  simp only [A6]
  rw [D8 (n:=p.size - p.tree) (by omega) (by omega)]
  refine ⟨?_,by trivial⟩
  congr 2
  rw [<- decide_not,decide_eq_decide];omega
 rintro v5 g6 h7 ⟨e,rfl⟩
 cases e
 simp only [B6]
 by_cases hc:0<=n/\n < p.size - p.tree
 ·rw [decide_eq_true hc]
  rw [if_pos hc] at kk
  simp only [Bool.not_true,E2]
  refine C5 p1.new rfl ?_
  simp only [A6]
  rw [D8 (by omega) (by omega)]
  exact kk
 ·rw [decide_eq_false hc]
  rw [if_neg hc] at kk
  simp only [Bool.not_false,G2]
  exact kk
theorem AM {p:Pl} (k:∀h',G4 h.size h h'->K (iQ p.slots) h'):A5 Tryz.prog 233 #[Mt p] h K:=by
 refine call233 ?_
 unfold F233 g233 lI
 rw [FV]
 have p1:=J8 h (Di p).toArray 117
 generalize h.push (oQ (Di p).toArray 117)=h1 at *
 refine C5 p1.new rfl ?_
 simp only [A6]
 exact k _ p1.toOld
theorem Jx {p:Pl} (k:∀h',G4 h.size h h'->K (iQ p.sent) h'):A5 Tryz.prog 104 #[Mt p] h K:=by
 refine call104 ?_
 unfold F104 g104 lI
 rw [FV]
 have p1:=J8 h (Di p).toArray 117
 generalize h.push (oQ (Di p).toArray 117)=h1 at *
 refine C5 p1.new rfl ?_
 simp only [A6]
 exact k _ p1.toOld
theorem Rf {p:Pl} (k:∀h',G4 h.size h h'->K (iQ p.size) h'):A5 Tryz.prog 100 #[Mt p] h K:=by
 refine call100 ?_
 unfold F100 g100 lI
 rw [FV]
 have p1:=J8 h (Di p).toArray 117
 generalize h.push (oQ (Di p).toArray 117)=h1 at *
 refine C5 p1.new rfl ?_
 simp only [A6]
 exact k _ p1.toOld
theorem SQ9 (p:Pl):eqv Tryz.prog 10000 117 (.agg (Di p).toArray) (.agg (List.replicate 15 (Value.int .i64 0)).toArray)=some (((p.c.algo == 0) && ((p.c.threads == 0) && ((p.c.nodes == 0) && ((p.c.level == 0) && ((p.c.batch == 0) && ((p.c.probes == 0) && ((p.c.scan == 0) && true))))))) && ((p.slots == 0) && ((p.width == 0) && ((p.sent == 0) && ((p.hazards == 0) && ((p.links == 0) && ((p.nodes == 0) && ((p.tree == 0) && ((p.size == 0) && true))))))))):=by kernel_rfl
theorem Sp5:Tryz.prog.eqGuardType Tryz.prog.depth 117=false:=by kernel_rfl
theorem SF9 {p:Pl} {K:Bool->Prop} (B:Me p) (k:K false):GL Tryz.prog 117 (.agg #[iQ p.c.algo,iQ p.c.threads,iQ p.c.nodes,iQ p.c.level,iQ p.c.batch,iQ p.c.probes,iQ p.c.scan,iQ p.slots,iQ p.width,iQ p.sent,iQ p.hazards,iQ p.links,iQ p.nodes,iQ p.tree,iQ p.size]) (.agg Ae) K:=by
 unfold GL
 rw [Sp5,if_neg (by simp)]
 show (match eqv Tryz.prog 10000 117 (.agg (Di p).toArray) (.agg (List.replicate 15 (Value.int .i64 0)).toArray) with | some b=>K b | none=>False)
 rw [SQ9]
 have h1:=B.th
 have e:(p.c.threads == 0)=false:=by rw [beq_eq_false_iff_ne];omega
 simp only [e,Bool.false_and,Bool.and_false]
 exact k
theorem Bt {p:Pl} {t s:Int} (B:Me p) (ht:iN t) (hs:iN s) (k:∀h',G4 h.size h h'->K (iQ (p.haz t s)) h'):A5 Tryz.prog 232 #[Mt p,iQ t,iQ s] h K:=by
 refine call232 ?_
 unfold F232 g232 cf lI Bs
 have b1:=B.th
 have b2:=B.sl
 have b3:=B.hz
 rw [FV]
 have p1:=J8 h (Di p).toArray 117
 generalize h.push (oQ (Di p).toArray 117)=h1 at *
 have o1:=p1.toOld
 have hs1:=p1.size
 refine ⟨λvs h'=>vs = [dQ (!decide (0<=t/\t < p.c.threads/\0<=s/\s < p.slots))]/\G4 h.size h h'/\h'[h.size]? = some (oQ (Di p).toArray 117),?_,?_⟩
 ·refine C5 p1.new rfl (C5 p1.new rfl (C5 p1.new rfl (C5 p1.new rfl (C5 p1.new rfl (C5 p1.new rfl (C5 p1.new rfl (C5 p1.new rfl (C5 p1.new rfl (C5 p1.new rfl (C5 p1.new rfl (C5 p1.new rfl (C5 p1.new rfl (C5 p1.new rfl (C5 p1.new rfl ?_))))))))))))))
  refine SF9 B ?_
  simp only [E2]
  rw [E1]
  refine C5 p1.new rfl ?_
  simp only [A6]
  refine C5 p1.new rfl ?_
  simp only [A6]
  rw [D8 (n:=p.c.threads - 1) (by omega) (by omega),D8 (n:=p.slots - 1) (by omega) (by omega)]
  have p2:=J8 h1 ([((t,0,p.c.threads - 1):T3),(s,0,p.slots - 1)].flatMap Nm).toArray 229
  rw [show h1.push (oQ #[iQ t,iQ 0,iQ (p.c.threads - 1),iQ s,iQ 0,iQ (p.slots - 1)] 229)=h1.push (oQ ([((t,0,p.c.threads - 1):T3),(s,0,p.slots - 1)].flatMap Nm).toArray 229) from rfl]
  generalize h1.push (oQ ([((t,0,p.c.threads - 1):T3),(s,0,p.slots - 1)].flatMap Nm).toArray 229)=h2 at *
  have o2:=o1.trans (p2.toOld.mono o1.1)
  have S2:SX Nm h2 (some (aQ h1.size)) 2 2 [((t,0,p.c.threads - 1):T3),(s,0,p.slots - 1)]:=⟨λj v hj=>⟨_,rfl,by rw [E1,E0 p2.new,List.getElem?_toArray,Nat.zero_add];exact hj⟩,rfl,Nat.le_refl _⟩
  have hs2:=p2.size
  refine A0 (FU S2 (by omega) λh5 o5=>?_)
  simp only [B6]
  have hin:([((t,0,p.c.threads - 1):T3),(s,0,p.slots - 1)].all Rd)=decide (0<=t/\t < p.c.threads/\0<=s/\s < p.slots):=by
   simp only [List.all_cons,List.all_nil,Rd,Bool.and_true]
   rw [<- Bool.decide_and,<- Bool.decide_and,<- Bool.decide_and,decide_eq_decide]
   omega
  rw [hin]
  exact ⟨rfl,o2.trans (o5.mono o2.1),(o5.2 _ (show h.size < h2.size by omega)).trans ((p2.old _ (show h.size < h1.size by omega)).trans p1.new)⟩
 rintro v24 g25 h26 ⟨e,o26,n26⟩
 cases e
 simp only [B6]
 have kk:=k h26 o26
 unfold Pl.haz at kk
 by_cases hc:0<=t/\t < p.c.threads/\0<=s/\s < p.slots
 ·rw [decide_eq_true hc]
  rw [if_pos hc] at kk
  simp only [Bool.not_true,E2]
  refine C5 n26 rfl ?_
  simp only [A6]
  refine C5 n26 rfl ?_
  simp only [A6]
  have hm:0<=t*p.slots/\t*p.slots<=5*14:=⟨Int.mul_nonneg (by omega) (by omega),Int.mul_le_mul (by omega) (by omega) (by omega) (by omega)⟩
  rw [D8 (n:=t*p.slots) (by omega) (by omega),D8 (n:=p.hazards+t*p.slots) (by omega) (by omega),D8 (by omega) (by omega)]
  exact kk
 ·rw [decide_eq_false hc]
  rw [if_neg hc] at kk
  simp only [Bool.not_false,G2]
  exact kk
theorem OG {p:Pl} {a:Int} (B:Me p) (ha:iN a) (k1:∀n x h',p.within a=some n->G4 h.size h h'->K (.tuple #[iQ 3,iQ n,iQ x]) h') (k0:∀q n x h',p.within a=none->q≠3->G4 h.size h h'->K (.tuple #[iQ q,iQ n,iQ x]) h'):A5 Tryz.prog 80 #[Mt p,iQ a] h K:=by
 refine call80 ?_
 unfold F80 g80 lI
 have b0:=B.sl
 have b1:=B.wi
 have b2:=B.hz
 have b3:=B.tr
 have b4:=B.nd
 have b5:=B.li
 have b6:=B.si
 have hwn:¬ (p.nodes<=a/\a < p.tree)->p.within a=none:=λh=>by unfold Pl.within;rw [if_neg h]
 rw [FV]
 have p1:=J8 h (Di p).toArray 117
 generalize h.push (oQ (Di p).toArray 117)=h1 at *
 have o1:=p1.toOld
 refine ⟨λvs h'=>(∃w,vs = [dQ (decide (a < 0) || decide (a >= p.size)),w])/\h' = h1,?_,?_⟩
 ·refine A4 (λq=>⟨⟨_,by rw [decide_eq_true q];rfl⟩,by trivial⟩) (λq=>?_)
  refine C5 p1.new rfl ?_
  simp only [A6]
  exact ⟨⟨_,by rw [decide_eq_false q,Bool.false_or]⟩,by trivial⟩
 rintro v3 v4 g5 h6 ⟨⟨_,e⟩,rfl⟩
 cases e
 simp only [B6]
 refine C7 (λq=>?_) (λq=>?_)
 ·rw [Bool.or_eq_true,decide_eq_true_eq,decide_eq_true_eq] at q
  exact k0 _ _ _ _ (hwn (by omega)) (by decide) o1
 rw [Bool.or_eq_false_iff,decide_eq_false_iff_not,decide_eq_false_iff_not] at q
 refine C5 p1.new rfl ?_
 simp only [A6]
 refine A4 (λq1=>k0 _ _ _ _ (hwn (by omega)) (by decide) o1) (λq1=>?_)
 refine C5 p1.new rfl ?_
 simp only [A6]
 refine A4 (λq2=>?_) (λq2=>?_)
 ·refine C5 p1.new rfl ?_
  simp only [A6]
  refine C5 p1.new rfl ?_
  simp only [A6]
  refine ⟨by omega,C5 p1.new rfl ?_⟩
  simp only [A6]
  refine C5 p1.new rfl ?_
  simp only [A6]
  exact ⟨by omega,k0 _ _ _ _ (hwn (by omega)) (by decide) o1⟩
 refine C5 p1.new rfl ?_
 simp only [A6]
 refine A4 (λq3=>?_) (λq3=>?_)
 ·refine C5 p1.new rfl ?_
  simp only [A6]
  exact k0 _ _ _ _ (hwn (by omega)) (by decide) o1
 refine C5 p1.new rfl ?_
 simp only [A6]
 refine A4 (λq4=>?_) (λq4=>?_)
 ·refine C5 p1.new rfl ?_
  simp only [A6]
  refine C5 p1.new rfl ?_
  simp only [A6]
  refine ⟨by omega,C5 p1.new rfl ?_⟩
  simp only [A6]
  refine C5 p1.new rfl ?_
  simp only [A6]
  refine ⟨by omega,?_⟩
  have hw:p.within a=some ((a - p.nodes) / p.width+1):=by unfold Pl.within;rw [if_pos ⟨by omega,by omega⟩]
  have hd0:0<=(a - p.nodes) / p.width:=Int.ediv_nonneg (by omega) (by omega)
  have hd1:(a - p.nodes) / p.width<=a - p.nodes:=Int.ediv_le_self _ (by omega)
  rw [D8 (n:=a - p.nodes) (by omega) (by omega),Int.tdiv_eq_ediv_of_nonneg (by omega),D8 (n:=(a - p.nodes) / p.width) (by omega) (by omega),D8 (by omega) (by omega)]
  exact k1 _ _ _ hw o1
 ·refine C5 p1.new rfl ?_
  simp only [A6]
  exact k0 _ _ _ _ (hwn (by omega)) (by decide) o1
end
section
set_option maxRecDepth 100000
variable {K:kQ} {h:A2}
def F33 (K:kQ) (h:A2) (xa:Option Addr):Prop:=
 (D0 (Option.isNone xa) (K (iQ 0) h) (nP xa λa=>lI .i64 h (a.add 1) λa=>K (iQ a) h))
theorem call33 {xa:Option Addr} (H:F33 K h xa):A5 Tryz.prog 33 #[(pQ xa)] h K:=
 cQ Tryz.func33 H
def F99 (K:kQ) (h:A2) (xa:Int):Prop:=
 (O0 λI0=>(D0 (decide (xa < 1)) (I0 [dQ true] h) (I0 [dQ (decide (xa > 4096))] h))/\(∀(a:Value) (b:F8) (b:A2),(I0 [a] b)->(asBool a λa=>D0 a (K (.tuple #[pQ none,iQ 2]) b) (Y5 Tryz.prog 178 xa xa b λa b=>C8 a λa c d=>K (.tuple #[pQ (some (aQ b.size)),iQ 0]) (b.push (oQ #[lQ a c d,iQ 0,dQ false,lQ none 0 0] 126))))))
theorem call99 {xa:Int} (H:F99 K h xa):A5 Tryz.prog 99 #[(iQ xa)] h K:=
 cQ Tryz.func99 H
def F103 (K:kQ) (h:A2) (xa xb:Int):Prop:=
 (O0 λI0=>(O0 λI1=>(D0 (decide (xa < 1)) (I1 [dQ true] h) (I1 [dQ (decide (xa > 64))] h))/\(∀(a:Value) (b:F8) (b:A2),(I1 [a] b)->(asBool a λa=>D0 a (I0 [iQ 0] b) (I0 [iQ xa] b))))/\(∀(a:Value) (b:F8) (b:A2),(I0 [a] b)->(asInt .i64 a λc=>Y5 Tryz.prog 3 c c b λb c=>C8 b λb d e=>O4 (λf g=>FG f g) Tryz.prog 3 [iQ xb,iQ 0] λf=>asInt .i64 a λa=>O4 (λg i=>GR g i) Tryz.prog 3 [iQ f,iQ a] λa=>O0 λI22=>Hg λm23=>(I22 [tQ,iQ 0] (c.push (oQ #[lQ b d e,iQ 0,iQ 0] 213)))/\(∀(b d:Value) (e:F8) (e:A2),(I22 [b,d] e)->(asInt .i64 d λf=>D0 (decide (f < a)) (asInt .i64 d λa=>B4 (pQ (some (aQ c.size))) (lS e (aQ c.size) λf g i=>bd a (g:Int) (E5 (pQ f) λf=>C4 e (f.add (a.toNat*1)) (iQ 1) λf=>asInt .i64 d λg=>(I22 [iQ a,iQ (IntKind.wrap .i64 (g+1))] f)/\((m23 [iQ a,iQ (IntKind.wrap .i64 (g+1))] f) < (m23 [b,d] e))))) (K (pQ (some (aQ c.size))) e))))))
theorem call103 {xa xb:Int} (H:F103 K h xa xb):A5 Tryz.prog 103 #[(iQ xa),(iQ xb)] h K:=
 cQ Tryz.func103 H
def F140 (K:kQ) (h:A2) (xa:Option Addr) (xb xc:Int):Prop:=
 (cf 204 #[pQ xa,lQ (some (aQ h.size)) 1 1] (h.push (oQ #[iQ xb] 3)) λa b=>asInt .i64 a λa=>D0 (a != 0) (K (iQ a) b) (cf 205 #[pQ xa,.agg #[iQ 1,iQ xb,iQ (-1),dQ true]] b λa a=>nP xa λb=>lS a b λb c d=>bd xb (c:Int) (E5 (pQ b) λb=>C4 a (b.add (xb.toNat*1)) (uQ xc) λa=>K (iQ 0) a)))
theorem call140 {xa:Option Addr} {xb xc:Int} (H:F140 K h xa xb xc):A5 Tryz.prog 140 #[(pQ xa),(iQ xb),(uQ xc)] h K:=
 cQ Tryz.func140 H
abbrev g72 (K:kQ) (h H1:A2) (xa:Option Addr):Prop:=
 (D0 (Option.isNone xa) (dw2 H1 h.size (iQ 0) (iQ 0) λa=>Ou a h.size λb c=>K (.agg #[b,c]) a) (nP xa λa=>D1 H1 (a.add 1) λb=>D1 H1 (a.add 2) λa=>dw2 H1 h.size b a λa=>Ou a h.size λb c=>K (.agg #[b,c]) a))
def F72 (K:kQ) (h:A2) (xa:Option Addr):Prop:=
 (g72 K h (h.push (oQ #[iQ 0,iQ 0] 133)) xa)
theorem call72 {xa:Option Addr} (H:F72 K h xa):A5 Tryz.prog 72 #[(pQ xa)] h K:=
 cQ Tryz.func72 H
def F204 (K:kQ) (h:A2) (xa xb:Option Addr) (xc xd:Nat):Prop:=
 (D0 (Option.isNone xa) (K (iQ 1) h) (O0 λI0=>Hg λm1=>(I0 [iQ 0,tQ,iQ 0] h)/\(∀(a b c:Value) (d:F8) (d:A2),(I0 [a,b,c] d)->(asInt .i64 c λe=>D0 (decide (e < ((xc:Nat):Int))) (Gv c λe=>bd e ((xc:Nat):Int) (E5 (pQ xb) λf=>lI .i64 d (f.add (e.toNat*1)) λe=>O0 λI12=>(D0 (decide (e < 0)) (I12 [dQ true] d) (nP xa λf=>lS d f λf f g=>I12 [dQ (decide (e >= (f:Int)))] d))/\(∀(f:Value) (g:F8) (g:A2),(I12 [f] g)->(asBool f λf=>D0 f (K (iQ 2) g) (asInt .i64 c λf=>(I0 [a,iQ e,iQ (IntKind.wrap .i64 (f+1))] g)/\((m1 [a,iQ e,iQ (IntKind.wrap .i64 (f+1))] g) < (m1 [a,b,c] d))))))) (K (iQ 0) d)))))
theorem call204 {xa xb:Option Addr} {xc xd:Nat} (H:F204 K h xa xb xc xd):A5 Tryz.prog 204 #[(pQ xa),(lQ xb xc xd)] h K:=
 cQ Tryz.func204 H
abbrev g205 (K:kQ) (h H1:A2) (xa:Option Addr):Prop:=
 (nP xa λa=>lI .i64 H1 (a.add 1) λa=>nP xa λb=>C4 H1 (b.add 1) (iQ (IntKind.wrap .i64 (a+1))) λa=>nP xa λb=>D1 a (b.add 2) λb=>asBool b λb=>D0 b (nP xa λb=>D1 a (b.add 3) λc=>C8 c λd e f=>dl4 a h.size λg i j k=>((A3 (a.push (oQ #[g,i,j,k] 144)) (b.add 3))=(some c))/\(T2 Tryz.prog #[124,124] 124 #[lQ d e f,lQ (some (aQ a.size)) 1 1] (a.push (oQ #[g,i,j,k] 144)) λb c=>C8 b λb d e=>nP xa λf=>C4 c (f.add 3) (lQ b d e) λb=>K tQ b)) (K tQ a))
def F205 (K:kQ) (h:A2) (xa:Option Addr) (xb xc xd:Int) (xe:Bool):Prop:=
 (g205 K h (h.push (oQ #[iQ xb,iQ xc,iQ xd,dQ xe] 144)) xa)
theorem call205 {xa:Option Addr} {xb xc xd:Int} {xe:Bool} (H:F205 K h xa xb xc xd xe):A5 Tryz.prog 205 #[(pQ xa),(.agg #[(iQ xb),(iQ xc),(iQ xd),(dQ xe)])] h K:=
 cQ Tryz.func205 H
def F209 (K:kQ) (h:A2) (xa:Option Addr) (xb:Int):Prop:=
 (cf 204 #[pQ xa,lQ (some (aQ h.size)) 1 1] (h.push (oQ #[iQ xb] 3)) λa b=>asInt .i64 a λa=>D0 (a != 0) (K (.tuple #[uQ 0,iQ a]) b) (cf 205 #[pQ xa,.agg #[iQ 0,iQ xb,iQ (-1),dQ false]] b λa a=>nP xa λb=>lS a b λb c d=>bd xb (c:Int) (E5 (pQ b) λb=>lI .u64 a (b.add (xb.toNat*1)) λb=>K (.tuple #[uQ b,iQ 0]) a)))
theorem call209 {xa:Option Addr} {xb:Int} (H:F209 K h xa xb):A5 Tryz.prog 209 #[(pQ xa),(iQ xb)] h K:=
 cQ Tryz.func209 H
def F272 (K:kQ) (h:A2) (xa:Option Addr) (xb xc:Int):Prop:=
 (cf 204 #[pQ xa,lQ (some (aQ h.size)) 1 1] (h.push (oQ #[iQ xb] 3)) λa b=>asInt .i64 a λa=>D0 (a != 0) (K (.tuple #[uQ 0,iQ a]) b) (cf 205 #[pQ xa,.agg #[iQ 3,iQ xb,iQ (-1),dQ true]] b λa a=>nP xa λb=>lS a b λb c d=>bd xb (c:Int) (E5 (pQ b) λb=>lI .u64 a (b.add (xb.toNat*1)) λb=>nP xa λc=>lS a c λc d e=>bd xb (d:Int) (E5 (pQ c) λe=>lI .u64 a (e.add (xb.toNat*1)) λe=>bd xb (d:Int) (E5 (pQ c) λc=>C4 a (c.add (xb.toNat*1)) (uQ (IntKind.wrap .u64 (e+xc))) λa=>K (.tuple #[uQ b,iQ 0]) a)))))
theorem call272 {xa:Option Addr} {xb xc:Int} (H:F272 K h xa xb xc):A5 Tryz.prog 272 #[(pQ xa),(iQ xb),(uQ xc)] h K:=
 cQ Tryz.func272 H
def F281 (K:kQ) (h:A2) (xa:Option Addr) (xb xc xd:Int):Prop:=
 (cf 204 #[pQ xa,lQ (some (aQ h.size)) 1 1] (h.push (oQ #[iQ xb] 3)) λa b=>asInt .i64 a λa=>D0 (a != 0) (K (.tuple #[dQ false,iQ a]) b) (nP xa λa=>lS b a λa c d=>bd xb (c:Int) (E5 (pQ a) λa=>lI .u64 b (a.add (xb.toNat*1)) λa=>O0 λI11=>(D0 (a == xc) (nP xa λc=>lS b c λc d e=>bd xb (d:Int) (E5 (pQ c) λc=>C4 b (c.add (xb.toNat*1)) (uQ xd) λc=>I11 [] c)) (I11 [] b))/\(∀(b:F8) (b:A2),(I11 [] b)->(cf 205 #[pQ xa,.agg #[iQ 2,iQ xb,iQ (-1),dQ (a == xc)]] b λb b=>K (.tuple #[dQ (a == xc),iQ 0]) b)))))
theorem call281 {xa:Option Addr} {xb xc xd:Int} (H:F281 K h xa xb xc xd):A5 Tryz.prog 281 #[(pQ xa),(iQ xb),(uQ xc),(uQ xd)] h K:=
 cQ Tryz.func281 H
def F279 (K:kQ) (h:A2) (xa:Option Addr) (xb:Int):Prop:=
 (O0 λI0=>(D0 (Option.isNone xa) (I0 [dQ true,dQ true,dQ true] h) (D0 (decide (xb < 1)) (I0 [dQ true,dQ (decide (xb < 1)),dQ true] h) (nP xa λa=>lS h a λa a b=>I0 [dQ (decide (xb > (a:Int))),dQ (decide (xb < 1)),dQ (decide (xb > (a:Int)))] h)))/\(∀(a b c:Value) (d:F8) (d:A2),(I0 [a,b,c] d)->(asBool a λa=>D0 a (cf 300 #[pQ xa,iQ 5,iQ xb] d λa b=>asBool a λa=>K (dQ a) b) (nP xa λa=>lS d a λa b c=>((0:Int)<=(IntKind.wrap .i64 (xb - 1)))/\((((IntKind.wrap .i64 (xb - 1)):Int) < (b:Int))/\(E5 (pQ a) λa=>D1 d (a.add ((IntKind.wrap .i64 (xb - 1)).toNat*1)) λa=>asInt .i64 a λa=>D0 (a == 0) (cf 300 #[pQ xa,iQ 4,iQ xb] d λa b=>asBool a λa=>K (dQ a) b) (K (dQ true) d)))))))
theorem call279 {xa:Option Addr} {xb:Int} (H:F279 K h xa xb):A5 Tryz.prog 279 #[(pQ xa),(iQ xb)] h K:=
 cQ Tryz.func279 H
def F284 (K:kQ) (h:A2) (xa:Option Addr) (xb xc xd xe xf:Int):Prop:=
 (cf 204 #[pQ xa,lQ (some (aQ h.size)) 2 2] (h.push (oQ #[iQ xb,iQ xe] 3)) λa b=>asInt .i64 a λa=>D0 (a != 0) (K (.tuple #[dQ false,iQ a]) b) (O0 λI3=>(nP xa λa=>lS b a λa c d=>bd xb (c:Int) (E5 (pQ a) λa=>lI .u64 b (a.add (xb.toNat*1)) λa=>D0 (a == xc) (nP xa λa=>lS b a λa c d=>bd xe (c:Int) (E5 (pQ a) λa=>lI .u64 b (a.add (xe.toNat*1)) λa=>I3 [dQ (a == xf),dQ (a == xf)] b)) (I3 [dQ false,dQ false] b)))/\(∀(a b:Value) (c:F8) (c:A2),(I3 [a,b] c)->(O0 λI24=>(asBool a λb=>D0 b (nP xa λb=>lS c b λb d e=>bd xb (d:Int) (E5 (pQ b) λb=>C4 c (b.add (xb.toNat*1)) (uQ xd) λb=>I24 [] b)) (I24 [] c))/\(∀(b:F8) (b:A2),(I24 [] b)->(asBool a λc=>cf 205 #[pQ xa,.agg #[iQ 5,iQ xb,iQ xe,dQ c]] b λb b=>asBool a λa=>K (.tuple #[dQ a,iQ 0]) b))))))
theorem call284 {xa:Option Addr} {xb xc xd xe xf:Int} (H:F284 K h xa xb xc xd xe xf):A5 Tryz.prog 284 #[(pQ xa),(iQ xb),(uQ xc),(uQ xd),(iQ xe),(uQ xf)] h K:=
 cQ Tryz.func284 H
def F286 (K:kQ) (h:A2) (xa:Option Addr) (xb xc xd xe xf xg:Int):Prop:=
 (cf 204 #[pQ xa,lQ (some (aQ h.size)) 2 2] (h.push (oQ #[iQ xb,iQ xe] 3)) λa b=>asInt .i64 a λa=>D0 (a != 0) (K (.tuple #[dQ false,iQ a]) b) (D0 (xb == xe) (K (.tuple #[dQ false,iQ 2]) b) (O0 λI3=>(nP xa λa=>lS b a λa c d=>bd xb (c:Int) (E5 (pQ a) λa=>lI .u64 b (a.add (xb.toNat*1)) λa=>D0 (a == xc) (nP xa λa=>lS b a λa c d=>bd xe (c:Int) (E5 (pQ a) λa=>lI .u64 b (a.add (xe.toNat*1)) λa=>I3 [dQ (a == xf),dQ (a == xf)] b)) (I3 [dQ false,dQ false] b)))/\(∀(a b:Value) (c:F8) (c:A2),(I3 [a,b] c)->(O0 λI24=>(asBool a λb=>D0 b (nP xa λb=>lS c b λb d e=>nP xa λe=>lS c e λe f g=>bd xb (d:Int) (E5 (pQ b) λb=>C4 c (b.add (xb.toNat*1)) (uQ xd) λb=>bd xe (f:Int) (E5 (pQ e) λd=>C4 b (d.add (xe.toNat*1)) (uQ xg) λb=>I24 [] b))) (I24 [] c))/\(∀(b:F8) (b:A2),(I24 [] b)->(asBool a λc=>cf 205 #[pQ xa,.agg #[iQ 4,iQ xb,iQ xe,dQ c]] b λb b=>asBool a λa=>K (.tuple #[dQ a,iQ 0]) b)))))))
theorem call286 {xa:Option Addr} {xb xc xd xe xf xg:Int} (H:F286 K h xa xb xc xd xe xf xg):A5 Tryz.prog 286 #[(pQ xa),(iQ xb),(uQ xc),(uQ xd),(iQ xe),(uQ xf),(uQ xg)] h K:=
 cQ Tryz.func286 H
def F288 (K:kQ) (h:A2) (xa:Option Addr) (xb:Int):Prop:=
 (cf 302 #[pQ xa,iQ xb,iQ 1,iQ 2,iQ 2] h λa b=>asBool a λa=>K (dQ a) b)
theorem call288 {xa:Option Addr} {xb:Int} (H:F288 K h xa xb):A5 Tryz.prog 288 #[(pQ xa),(iQ xb)] h K:=
 cQ Tryz.func288 H
def F300 (K:kQ) (h:A2) (xa:Option Addr) (xb xc:Int):Prop:=
 (O0 λI0=>(D0 (!(Option.isNone xa)) (nP xa λa=>D1 h (a.add 1) λb=>D1 h (a.add 2) λa=>GL Tryz.prog 133 (.agg #[b,a]) (.agg #[iQ 0,iQ 0]) λa=>I0 [dQ a] h) (I0 [dQ false] h))/\(∀(a:Value) (b:F8) (b:A2),(I0 [a] b)->(asBool a λa=>D0 a (nP xa λa=>C4 b (a.add 1) (iQ xb) λc=>C4 c (a.add 2) (iQ xc) λa=>K (dQ false) a) (K (dQ false) b))))
theorem call300 {xa:Option Addr} {xb xc:Int} (H:F300 K h xa xb xc):A5 Tryz.prog 300 #[(pQ xa),(iQ xb),(iQ xc)] h K:=
 cQ Tryz.func300 H
def F302 (K:kQ) (h:A2) (xa:Option Addr) (xb xc xd xe:Int):Prop:=
 (O0 λI0=>(D0 (Option.isNone xa) (I0 [dQ true,dQ true,dQ true] h) (D0 (decide (xb < 1)) (I0 [dQ true,dQ (decide (xb < 1)),dQ true] h) (nP xa λa=>lS h a λa a b=>I0 [dQ (decide (xb > (a:Int))),dQ (decide (xb < 1)),dQ (decide (xb > (a:Int)))] h)))/\(∀(a b c:Value) (d:F8) (d:A2),(I0 [a,b,c] d)->(asBool a λa=>D0 a (cf 300 #[pQ xa,iQ 5,iQ xb] d λa b=>asBool a λa=>K (dQ a) b) (nP xa λa=>lS d a λa b c=>((0:Int)<=(IntKind.wrap .i64 (xb - 1)))/\((((IntKind.wrap .i64 (xb - 1)):Int) < (b:Int))/\(E5 (pQ a) λa=>D1 d (a.add ((IntKind.wrap .i64 (xb - 1)).toNat*1)) λa=>asInt .i64 a λa=>D0 (a != xc) (cf 300 #[pQ xa,iQ xe,iQ xb] d λa b=>asBool a λa=>K (dQ a) b) (nP xa λa=>lS d a λa b c=>((0:Int)<=(IntKind.wrap .i64 (xb - 1)))/\((((IntKind.wrap .i64 (xb - 1)):Int) < (b:Int))/\(E5 (pQ a) λa=>C4 d (a.add ((IntKind.wrap .i64 (xb - 1)).toNat*1)) (iQ xd) λa=>K (dQ true) a)))))))))
theorem call302 {xa:Option Addr} {xb xc xd xe:Int} (H:F302 K h xa xb xc xd xe):A5 Tryz.prog 302 #[(pQ xa),(iQ xb),(iQ xc),(iQ xd),(iQ xe)] h K:=
 cQ Tryz.func302 H
def F306 (K:kQ) (h:A2) (xa:Option Addr) (xb:Int):Prop:=
 (cf 302 #[pQ xa,iQ xb,iQ 0,iQ 1,iQ 1] h λa b=>asBool a λa=>K (dQ a) b)
theorem call306 {xa:Option Addr} {xb:Int} (H:F306 K h xa xb):A5 Tryz.prog 306 #[(pQ xa),(iQ xb)] h K:=
 cQ Tryz.func306 H
def F307 (K:kQ) (h:A2) (xa:Option Addr) (xb:Int):Prop:=
 (cf 302 #[pQ xa,iQ xb,iQ 2,iQ 0,iQ 3] h λa b=>asBool a λa=>K (dQ a) b)
theorem call307 {xa:Option Addr} {xb:Int} (H:F307 K h xa xb):A5 Tryz.prog 307 #[(pQ xa),(iQ xb)] h K:=
 cQ Tryz.func307 H
end
section
open Mod
variable {K:kQ} {h:A2}
def U8 (w:List Int):List Value:=w.map λn=>uQ n
def Ew (x:Acc):List Value:=[iQ x.kind,iQ x.a,iQ x.b,dQ x.done]
theorem Lc:∀x:Acc,(Ew x).length=4:=λ_=>rfl
abbrev Rg (b:Nat) (la:Option Addr) (lc:Nat) (m:Mm):List Value:=[lQ (some (aQ b)) m.w.length m.w.length,iQ m.st,dQ m.wt,lQ la m.lg.length lc]
structure MmB (m:Mm):Prop where
 len:m.w.length<=4096
 st:0<=m.st
 lg:(m.lg.length:Int)<=m.st
 us:∀v ∈ m.w,U v
def O9 (q:Nat) (m:Mm):Hp:=ex λb=>ex λla=>ex λlc=>pr (MmB m) (pt q (oQ (Rg b la lc m).toArray 126)*(pt b (oQ (U8 m.w).toArray 178)*F3 144 4 la m.lg.length lc (m.lg.flatMap Ew)))
theorem Z8 {h:A2} {q:Nat} {m:Mm} {R:Hp}:A7 h (O9 q m*R)↔∃b la lc,MmB m/\A7 h (pt q (oQ (Rg b la lc m).toArray 126)*(pt b (oQ (U8 m.w).toArray 178)*(F3 144 4 la m.lg.length lc (m.lg.flatMap Ew)*R))):=by
 unfold O9
 simp only [A7.ex,A7.pr,E7]
theorem Sp6 {h:A2} {q:Nat} {m:Mm} {R:Hp} (H:A7 h (O9 q m*R)):MmB m:=by obtain ⟨_,_,_,x,_⟩:=Z8.1 H;exact x
theorem Ld {w:List Int} (h:∀v ∈ w,U v) (i:Nat):U (w.getD i 0):=by
 rw [List.getD_eq_getElem?_getD]
 cases e:w[i]? with
 | none=>exact ⟨by simp,by simp⟩
 | some v=>exact h v (List.mem_of_getElem? e)
theorem MmB.get {m:Mm} (B:MmB m) (a:Int):U (m.get a):=Ld B.us _
theorem Z2 {P:Int->Prop} {w:List Int} {i:Nat} {v:Int} (h:∀x ∈ w,P x) (hv:P v):∀x ∈ w.set i v,P x:=λx hx=>by
 rcases List.mem_or_eq_of_mem_set hx with h1 | h1
 ·exact h x h1
 ·rw [h1];exact hv
theorem MmB.put {m:Mm} (B:MmB m) {a v:Int} (hv:U v):MmB (m.put a v):=⟨by unfold Mm.put;rw [List.length_set];exact B.len,B.st,B.lg,Z2 B.us hv⟩
theorem MmB.tick {m:Mm} (B:MmB m) (k a b:Int) (d:Bool):MmB (m.tick k a b d):=by
 have:=B.st
 have h2:=B.lg
 refine ⟨B.len,by unfold Mm.tick;simp only;omega,?_,B.us⟩
 unfold Mm.tick
 simp only
 split
 ·rw [List.length_append];simp;omega
 ·omega
theorem Sp7 {h:A2} {b:Nat} {w:List Int} {t:TypeId} (e:h[b]? = some (oQ (U8 w).toArray t)) {a:Int} (h0:0<=a) (h1:a < w.length):A3 h ⟨b,a.toNat,none⟩=some (uQ (w.getD a.toNat 0)):=by
 rw [E0 e,List.getElem?_toArray]
 unfold U8
 rw [List.getElem?_map,List.getElem?_eq_getElem (by omega),List.getD_eq_getElem?_getD,List.getElem?_eq_getElem (by omega)]
 rfl
theorem CK {h:A2} {b i:Nat} {v:Value} {row:List Value} {t:TypeId} {R:Hp} {K:A2->Prop} (H:A7 h (pt b (oQ row.toArray t)*R)) (hi:i < row.length) (ho:J3 v True)
  (k:∀h',A7 h' (pt b (oQ (row.set i v).toArray t)*R)->K h'):C4 h ⟨b,i,none⟩ v K:=
 H.st (by rw [Nat.ble_eq];exact hi) ho k
theorem SG0:AH Tryz.prog 124=.slice 144:=by kernel_rfl
theorem Zm:J7 Tryz.prog 144=true:=by kernel_rfl
theorem SG1:Gw Tryz.prog 144=some (.agg #[iQ 0,iQ 0,iQ 0,dQ false]):=by kernel_rfl
theorem Ko:L7 Tryz.prog 144=4:=by kernel_rfl
theorem XT:Eo Tryz.prog 144=32:=by kernel_rfl
theorem Bx {q wl wc:Nat} {wa a:Option Addr} {l c:Nat} {L:List Int} (H:A3 h (aQ q)=some (lQ wa wl wc)) (R:RI h a l c L) (hl:l < 2 ^ 60) (k:K (iQ (if L.all (λx=>decide (0<=x/\x < wl)) then 0 else 2)) h) :
  A5 Tryz.prog 204 #[pQ (some (aQ q)),lQ a l c] h K:=by
 refine call204 ?_
 unfold F204 bd lS lI nP
 have hlen:=R.len
 simp only [Option.isNone_some,E2]
 generalize hok:(λx:Int=>decide (0<=x/\x < (wl:Int)))=ok at *
 refine ⟨λvs h'=>∃w1 w2,∃i:Nat,vs = [w1,w2,iv i]/\i<=l/\h' = h/\(L.take i).all ok=true,λvs _=>(match vs with | [_,_,.int _ n]=>l - n.toNat | _=>0),⟨_,_,0,rfl,Nat.zero_le _,rfl,rfl⟩,?_⟩
 rintro v2 v3 v4 g5 h6 ⟨w1,w2,i,e,hi,rfl,hall⟩
 cases e
 simp only [A6,EX]
 refine A4 (λhlt=>?_) (λhge=>?_)
 ·have hi':i < L.length:=by omega
  obtain ⟨ad,rfl,hc⟩:=R.at hi'
  have htk:(L.take (i+1)).all ok=((L.take i).all ok && ok L[i]):=by rw [List.take_succ_eq_append_getElem hi',List.all_append];simp
  have hmem:L.all ok=true->ok L[i]=true:=λh=>List.all_eq_true.1 h _ (List.getElem_mem hi')
  generalize L[i]=x at *
  refine ⟨by omega,hlt,?_⟩
  simp only [C9,Int.toNat_natCast,Nat.mul_one]
  refine D3 hc ?_
  simp only [A6]
  refine ⟨λvs h'=>vs = [dQ (!ok x)]/\h' = h6,?_,?_⟩
  ·refine A4 (λq=>⟨by rw [<- hok];simp only;rw [decide_eq_false (by omega)];rfl,by trivial⟩) (λq=>?_)
   simp only [B4,C9]
   refine D3 H ?_
   simp only [C6]
   refine ⟨?_,by trivial⟩
   rw [<- hok]
   simp only
   congr 2
   rw [<- decide_not,decide_eq_decide];omega
  rintro v18 g19 h20 ⟨e,rfl⟩
  cases e
  simp only [B6]
  refine C7 (λhq=>?_) (λhq=>?_)
  ·have e:L.all ok=false:=by
    apply Decidable.byContradiction
    intro h
    have:=hmem (by simpa using h)
    rw [this] at hq;cases hq
   rw [e] at k
   exact k
  ·rw [Ac (by omega)]
   exact ⟨⟨_,_,i+1,rfl,by omega,by trivial,by rw [htk,hall];simpa using hq⟩,by show l - ((i+1:Nat):Int).toNat < l - (i:Int).toNat;omega⟩
 ·rw [List.take_of_length_le (by omega)] at hall
  rw [hall] at k
  exact k
theorem By {q:Nat} {m:Mm} {R:Hp} {x0 x1 x2:Int} {x3:Bool} (H:A7 h (O9 q m*R)) (hs:m.st < 1099511627776) (k:∀h',A7 h' (O9 q (m.tick x0 x1 x2 x3)*R)->K tQ h') :
  A5 Tryz.prog 205 #[pQ (some (aQ q)),.agg #[iQ x0,iQ x1,iQ x2,dQ x3]] h K:=by
 refine call205 ?_
 unfold F205 g205 lI nP dl4
 simp only [B4,C9,E1]
 obtain ⟨b,la,lc,B,H0⟩:=Z8.1 H
 have Bst:=B.st
 have Blg:=B.lg
 have H1:=H0.push (oQ #[iQ x0,iQ x1,iQ x2,dQ x3] 144)
 generalize h.push (oQ #[iQ x0,iQ x1,iQ x2,dQ x3] 144)=h1 at *
 generalize h.size=N at *
 rw [D4] at H1
 refine H1.ld rfl ?_
 simp only [A6]
 rw [D8 (by omega) (by omega)]
 refine H1.st rfl trivial λh4 H4=>?_
 refine H4.ld rfl ?_
 simp only [B6]
 have kT:∀h',(∃b la lc,A7 h' (pt q (oQ (Rg b la lc (m.tick x0 x1 x2 x3)).toArray 126)*(pt b (oQ (U8 m.w).toArray 178)*(F3 144 4 la (m.tick x0 x1 x2 x3).lg.length lc ((m.tick x0 x1 x2 x3).lg.flatMap Ew)*R))))->K tQ h':=λh' ⟨b,la,lc,H'⟩=>
  k h' (Z8.2 ⟨b,la,lc,B.tick x0 x1 x2 x3,H'⟩)
 unfold Mm.tick at kT
 cases hw:m.wt with
 | false=>
  simp only [E2]
  simp only [hw,Bool.false_eq_true,if_false] at kT
  exact kT h4 ⟨b,la,lc,by simpa [hw] using H4.drop2⟩
 | true=>
  simp only [G2]
  simp only [hw,if_true] at kT
  refine H4.ld rfl ?_
  simp only [C6]
  have HN:A7 h4 _:=(D4 _ _ _ ▸ H4)
  refine HN.ld rfl (HN.ld rfl (HN.ld rfl (HN.ld rfl ?_)))
  have H5:=H4.push (oQ #[iQ x0,iQ x1,iQ x2,dQ x3] 144)
  generalize h4.push (oQ #[iQ x0,iQ x1,iQ x2,dQ x3] 144)=h5 at *
  generalize h4.size=N4 at *
  refine ⟨E9 H5.at2 rfl,?_⟩
  have hrot:∀(X:Hp) (A B C D E:Hp),A*(B*(C*(D*(E*X))))=E*(A*(B*(C*(D*X)))):=λX A B C D E=>by
   rw [D4 D E,D4 C E,D4 B E,D4 A E]
  have HA:=H5
  rw [hrot] at HA
  have hsee:N8 h5 (some (aQ N4)) (Ew ⟨x0,x1,x2,x3⟩):=λi v hi=>⟨_,rfl,by rw [E1,Nat.zero_add,E0 H5.at];simpa [Ew] using hi⟩
  rw [<- Ko] at HA
  refine HA.app SG0 Zm SG1 (by rw [Ko];rfl) hsee (n:=1) (by rw [Ko];rfl) (by simp [Ew,J3]) (by rw [XT];omega) (by rw [XT];omega) λa' c' h' H6=>?_
  rw [Ko] at H6
  simp only [C6]
  rw [<- hrot] at H6
  have H7:A7 h' _:=(D4 _ _ _ ▸ H6)
  refine H7.st rfl trivial λh8 H8=>?_
  refine kT h8 ⟨b,a',c',?_⟩
  have H9:=H8.drop2.drop2
  unfold Rg;simpa [hw] using H9
theorem Z4 {h:A2} {q:Nat} {m:Mm} {R:Hp} (H:A7 h (O9 q m*R)):∃b,A3 h (aQ q)=some (lQ (some (aQ b)) m.w.length m.w.length)/\(∀a,m.ok a=true->A3 h ⟨b,a.toNat,none⟩=some (uQ (m.get a))) /\
  ∀a v,m.ok a=true->U v->∀K:A2->Prop,(∀h',A7 h' (O9 q (m.put a v)*R)->K h')->C4 h ⟨b,a.toNat,none⟩ (uQ v) K:=by
 obtain ⟨b,la,lc,B,H0⟩:=Z8.1 H
 refine ⟨b,E9 H0.at rfl,λa ha=>?_,λa v ha hv K k=>?_⟩
 ·unfold Mm.ok at ha
  rw [decide_eq_true_eq] at ha
  exact Sp7 H0.at2 ha.1 ha.2
 ·unfold Mm.ok at ha
  rw [decide_eq_true_eq] at ha
  have H1:A7 h _:=(D4 _ _ _ ▸ H0)
  refine CK H1 (by unfold U8;rw [List.length_map];omega) trivial λh' H2=>k h' (Z8.2 ⟨b,la,lc,B.put hv,?_⟩)
  have H3:A7 h' _:=(D4 _ _ _ ▸ H2)
  unfold Mm.put
  simp only
  rw [show U8 (m.w.set a.toNat v)=(U8 m.w).set a.toNat (uQ v) by unfold U8;rw [List.map_set]]
  unfold Rg
  simp only [List.length_set]
  exact H3
theorem Mm.ok_iff {m:Mm} {a:Int}:m.ok a=true↔0<=a/\a < m.w.length:=by unfold Mm.ok;rw [decide_eq_true_eq]
theorem OH {h:A2} {N:Nat} {a:Int} {t:TypeId} (e:h[N]? = some (oQ #[iQ a] t)):RI h (some (aQ N)) 1 1 [a]:=
 ⟨λj v hj=>⟨_,rfl,by rw [E1,E0 e,Nat.zero_add];simpa using hj⟩,rfl,Nat.le_refl _⟩
theorem Sp8 {h:A2} {N:Nat} {a b:Int} {t:TypeId} (e:h[N]? = some (oQ #[iQ a,iQ b] t)):RI h (some (aQ N)) 2 2 [a,b]:=
 ⟨λj v hj=>⟨_,rfl,by
  rw [E1,E0 e,Nat.zero_add]
  show ([Value.int .i64 a,iQ b].toArray)[j]? = _
  rw [List.getElem?_toArray];exact hj⟩,rfl,Nat.le_refl _⟩
theorem SG2 {m:Mm} {a:Int}:([a].all λx=>decide (0<=x/\x < (m.w.length:Int)))=m.ok a:=by simp [Mm.ok]
theorem SV6 {m:Mm} {a b:Int}:([a,b].all λx=>decide (0<=x/\x < (m.w.length:Int)))=(m.ok a && m.ok b):=by simp [Mm.ok]
theorem Vn {q:Nat} {m:Mm} {R:Hp} {a:Int} (H:A7 h (O9 q m*R)) (hs:m.st < 1099511627776)
  (k1:m.ok a=true->∀h',A7 h' (O9 q (m.tick 0 a (-1) false)*R)->K (.tuple #[uQ (m.get a),iQ 0]) h') (k0:m.ok a=false->∀h',A7 h' (O9 q m*R)->K (.tuple #[uQ 0,iQ 2]) h') :
  A5 Tryz.prog 209 #[pQ (some (aQ q)),iQ a] h K:=by
 refine call209 ?_
 unfold F209 cf bd lS lI nP
 have H1:=(H.push (oQ #[iQ a] 3))
 generalize h.push (oQ #[iQ a] 3)=h1 at *
 generalize h.size=N at *
 obtain ⟨b,w0,w1,w2⟩:=Z4 (D4 _ _ _ ▸ H1:A7 h1 (O9 q m*(_*R)))
 refine A0 (Bx w0 (OH H1.at) (by omega) ?_)
 rw [SG2]
 simp only [A6]
 cases hok:m.ok a with
 | false=>
  simp only [Bool.false_eq_true,if_false]
  rw [show ((2:Int) != 0)=true from rfl]
  simp only [G2]
  exact k0 hok h1 H1.drop
 | true=>
  simp only [if_true]
  rw [show ((0:Int) != 0)=false from rfl]
  simp only [E2]
  obtain ⟨a0,a1⟩:=Mm.ok_iff.1 hok
  refine A0 (By H1.drop hs λh4 H4=>?_)
  simp only [B4,C9]
  obtain ⟨b,w0,w1,w2⟩:=Z4 H4
  refine D3 w0 ?_
  simp only [C6]
  refine ⟨a0,a1,?_⟩
  simp only [C9,Nat.mul_one]
  rw [E1,Nat.zero_add]
  refine D3 (w1 a hok) ?_
  simp only [A6]
  exact k1 hok h4 H4
theorem Jy {q:Nat} {m:Mm} {R:Hp} {a v:Int} (H:A7 h (O9 q m*R)) (hv:U v) (hs:m.st < 1099511627776)
  (k1:m.ok a=true->∀h',A7 h' (O9 q ((m.tick 1 a (-1) true).put a v)*R)->K (iQ 0) h') (k0:m.ok a=false->∀h',A7 h' (O9 q m*R)->K (iQ 2) h') :
  A5 Tryz.prog 140 #[pQ (some (aQ q)),iQ a,uQ v] h K:=by
 refine call140 ?_
 unfold F140 cf bd lS nP
 have H1:=(H.push (oQ #[iQ a] 3))
 generalize h.push (oQ #[iQ a] 3)=h1 at *
 generalize h.size=N at *
 obtain ⟨b,w0,w1,w2⟩:=Z4 (D4 _ _ _ ▸ H1:A7 h1 (O9 q m*(_*R)))
 refine A0 (Bx w0 (OH H1.at) (by omega) ?_)
 rw [SG2]
 simp only [A6]
 cases hok:m.ok a with
 | false=>
  simp only [Bool.false_eq_true,if_false]
  rw [show ((2:Int) != 0)=true from rfl]
  simp only [G2]
  exact k0 hok h1 H1.drop
 | true=>
  simp only [if_true]
  rw [show ((0:Int) != 0)=false from rfl]
  simp only [E2]
  obtain ⟨a0,a1⟩:=Mm.ok_iff.1 hok
  refine A0 (By H1.drop hs λh4 H4=>?_)
  simp only [B4,C9]
  obtain ⟨b,w0,w1,w2⟩:=Z4 H4
  refine D3 w0 ?_
  simp only [C6]
  refine ⟨a0,a1,?_⟩
  simp only [C9,Nat.mul_one]
  rw [E1,Nat.zero_add]
  exact w2 a v hok hv _ λh' H'=>k1 hok h' H'
theorem R7 (n:Int):U (u64 n):=⟨by unfold u64;omega,by unfold u64;omega⟩
theorem Zn {q:Nat} {m:Mm} {R:Hp} {a d:Int} (H:A7 h (O9 q m*R)) (hs:m.st < 1099511627776)
  (k1:m.ok a=true->∀h',A7 h' (O9 q ((m.tick 3 a (-1) true).put a (u64 (m.get a+d)))*R)->K (.tuple #[uQ (m.get a),iQ 0]) h') (k0:m.ok a=false->∀h',A7 h' (O9 q m*R)->K (.tuple #[uQ 0,iQ 2]) h') :
  A5 Tryz.prog 272 #[pQ (some (aQ q)),iQ a,uQ d] h K:=by
 refine call272 ?_
 unfold F272 cf bd lS lI nP
 have H1:=(H.push (oQ #[iQ a] 3))
 generalize h.push (oQ #[iQ a] 3)=h1 at *
 generalize h.size=N at *
 obtain ⟨b,w0,w1,w2⟩:=Z4 (D4 _ _ _ ▸ H1:A7 h1 (O9 q m*(_*R)))
 refine A0 (Bx w0 (OH H1.at) (by omega) ?_)
 rw [SG2]
 simp only [A6]
 cases hok:m.ok a with
 | false=>
  simp only [Bool.false_eq_true,if_false]
  rw [show ((2:Int) != 0)=true from rfl]
  simp only [G2]
  exact k0 hok h1 H1.drop
 | true=>
  simp only [if_true]
  rw [show ((0:Int) != 0)=false from rfl]
  simp only [E2]
  obtain ⟨a0,a1⟩:=Mm.ok_iff.1 hok
  refine A0 (By H1.drop hs λh4 H4=>?_)
  simp only [B4,C9]
  obtain ⟨b,w0,w1,w2⟩:=Z4 H4
  refine D3 w0 ?_
  simp only [C6]
  refine ⟨a0,a1,?_⟩
  simp only [C9,Nat.mul_one]
  rw [E1,Nat.zero_add]
  refine D3 (w1 a hok) ?_
  simp only [A6]
  refine D3 w0 ?_
  simp only [C6]
  refine ⟨a0,a1,?_⟩
  simp only [C9]
  try rw [E1,Nat.zero_add]
  refine D3 (w1 a hok) ?_
  simp only [A6]
  refine ⟨a0,a1,?_⟩
  rw [IW]
  exact w2 a _ hok (R7 _) _ λh' H'=>k1 hok h' H'
theorem Zo {q:Nat} {m:Mm} {R:Hp} {a o n:Int} (H:A7 h (O9 q m*R)) (hn:U n) (hs:m.st < 1099511627776)
  (k1:m.ok a=true->∀h',A7 h' (O9 q (m.cas a o n)*R)->K (.tuple #[dQ (decide (m.get a=o)),iQ 0]) h') (k0:m.ok a=false->∀h',A7 h' (O9 q m*R)->K (.tuple #[dQ false,iQ 2]) h') :
  A5 Tryz.prog 281 #[pQ (some (aQ q)),iQ a,uQ o,uQ n] h K:=by
 refine call281 ?_
 unfold F281 cf bd lS lI nP
 have H1:=(H.push (oQ #[iQ a] 3))
 generalize h.push (oQ #[iQ a] 3)=h1 at *
 generalize h.size=N at *
 have H2:A7 h1 (O9 q m*(_*R)):=(D4 _ _ _ ▸ H1)
 obtain ⟨b,w0,w1,w2⟩:=Z4 H1.drop
 refine A0 (Bx w0 (OH H1.at) (by omega) ?_)
 rw [SG2]
 simp only [A6]
 cases hok:m.ok a with
 | false=>
  simp only [Bool.false_eq_true,if_false]
  rw [show ((2:Int) != 0)=true from rfl]
  simp only [G2]
  exact k0 hok h1 H1.drop
 | true=>
  simp only [if_true]
  rw [show ((0:Int) != 0)=false from rfl]
  simp only [E2,B4,C9]
  obtain ⟨a0,a1⟩:=Mm.ok_iff.1 hok
  refine D3 w0 ?_
  simp only [C6]
  refine ⟨a0,a1,?_⟩
  simp only [C9,Nat.mul_one]
  rw [E1,Nat.zero_add]
  refine D3 (w1 a hok) ?_
  simp only [A6]
  have eb:(m.get a == o)=decide (m.get a=o):=rfl
  unfold Mm.cas at k1
  refine ⟨λvs h'=>vs = []/\A7 h' (O9 q (if m.get a=o then m.put a n else m)*R),?_,?_⟩
  ·refine C7 (λhc=>?_) (λhc=>?_)
   ·have hc':m.get a=o:=by simpa using hc
    rw [if_pos hc']
    refine D3 w0 ?_
    simp only [C6]
    refine ⟨a0,a1,?_⟩
    simp only [C9]
    try rw [E1,Nat.zero_add]
    exact w2 a n hok hn _ λh' H'=>⟨by trivial,H'⟩
   ·have hc':¬ m.get a=o:=by simpa using hc
    rw [if_neg hc']
    exact ⟨by trivial,H1.drop⟩
  rintro g19 h20 ⟨_,H20⟩
  rw [eb]
  refine A0 (By H20 (by split <;> exact hs) λh22 H22=>?_)
  refine k1 hok h22 ?_
  split
  ·rename_i hc;rw [if_pos hc,decide_eq_true hc] at H22;exact H22
  ·rename_i hc;rw [if_neg hc,decide_eq_false hc] at H22;exact H22
theorem Vo {q:Nat} {m:Mm} {R:Hp} {a o n a2 o2:Int} (H:A7 h (O9 q m*R)) (hn:U n) (hs:m.st < 1099511627776)
  (k1:m.ok a=true->m.ok a2=true->∀h',A7 h' (O9 q (m.dcss a o n a2 o2)*R)->K (.tuple #[dQ (decide (m.get a=o/\m.get a2=o2)),iQ 0]) h')
  (k0:¬ (m.ok a=true/\m.ok a2=true)->∀h',A7 h' (O9 q m*R)->K (.tuple #[dQ false,iQ 2]) h') :
  A5 Tryz.prog 284 #[pQ (some (aQ q)),iQ a,uQ o,uQ n,iQ a2,uQ o2] h K:=by
 refine call284 ?_
 unfold F284 cf bd lS lI nP
 have H1:=(H.push (oQ #[iQ a,iQ a2] 3))
 generalize h.push (oQ #[iQ a,iQ a2] 3)=h1 at *
 generalize h.size=N at *
 obtain ⟨b,w0,w1,w2⟩:=Z4 H1.drop
 refine A0 (Bx w0 (Sp8 H1.at) (by omega) ?_)
 rw [SV6]
 simp only [A6]
 cases hok:(m.ok a && m.ok a2) with
 | false=>
  simp only [Bool.false_eq_true,if_false]
  rw [show ((2:Int) != 0)=true from rfl]
  simp only [G2]
  exact k0 (λhx=>by rw [hx.1,hx.2] at hok;cases hok) h1 H1.drop
 | true=>
  simp only [if_true]
  rw [show ((0:Int) != 0)=false from rfl]
  simp only [E2,B4,C9]
  obtain ⟨hk1,hk2⟩:=(Bool.and_eq_true _ _).mp hok
  obtain ⟨a0,a1⟩:=Mm.ok_iff.1 hk1
  obtain ⟨c0,c1⟩:=Mm.ok_iff.1 hk2
  refine ⟨λvs h'=>vs = [dQ (decide (m.get a=o/\m.get a2=o2)),dQ (decide (m.get a=o/\m.get a2=o2))]/\h' = h1,?_,?_⟩
  ·refine D3 w0 ?_
   simp only [C6]
   refine ⟨a0,a1,?_⟩
   simp only [C9,Nat.mul_one]
   rw [E1,Nat.zero_add]
   refine D3 (w1 a hk1) ?_
   simp only [A6]
   refine C7 (λhc=>?_) (λhc=>?_)
   ·have hc':m.get a=o:=by simpa using hc
    refine D3 w0 ?_
    simp only [C6]
    refine ⟨c0,c1,?_⟩
    simp only [C9]
    rw [E1,Nat.zero_add]
    refine D3 (w1 a2 hk2) ?_
    simp only [A6]
    have e:(m.get a2 == o2)=decide (m.get a=o/\m.get a2=o2):=by
     rw [Bool.eq_iff_iff,beq_iff_eq,decide_eq_true_iff];exact ⟨λh=>⟨hc',h⟩,λh=>h.2⟩
    rw [e]
    exact ⟨rfl,by trivial⟩
   ·have hc':¬ m.get a=o:=by simpa using hc
    rw [decide_eq_false (λh=>hc' h.1)]
    exact ⟨rfl,by trivial⟩
  rintro v20 v21 g22 h23 ⟨e,rfl⟩
  cases e
  simp only [B6]
  unfold Mm.dcss at k1
  refine ⟨λvs h'=>vs = []/\A7 h' (O9 q (if m.get a=o/\m.get a2=o2 then m.put a n else m)*R),?_,?_⟩
  ·refine A4 (λhc=>?_) (λhc=>?_)
   ·rw [if_pos hc]
    refine D3 w0 ?_
    simp only [C6]
    refine ⟨a0,a1,?_⟩
    simp only [C9,Nat.mul_one]
    rw [E1,Nat.zero_add]
    exact w2 a n hk1 hn _ λh' H'=>⟨by trivial,H'⟩
   ·rw [if_neg hc]
    exact ⟨by trivial,H1.drop⟩
  rintro g33 h34 ⟨_,H34⟩
  refine A0 (By H34 (by split <;> exact hs) λh37 H37=>?_)
  refine k1 hk1 hk2 h37 ?_
  split
  ·rename_i hc;rw [if_pos hc,decide_eq_true hc] at H37;exact H37
  ·rename_i hc;rw [if_neg hc,decide_eq_false hc] at H37;exact H37
theorem Vp {q:Nat} {m:Mm} {R:Hp} {a o n a2 o2 n2:Int} (H:A7 h (O9 q m*R)) (hn:U n) (hn2:U n2) (hs:m.st < 1099511627776)
  (k1:m.ok a=true->m.ok a2=true->a≠a2->∀h',A7 h' (O9 q (m.dcas a o n a2 o2 n2)*R)->K (.tuple #[dQ (decide (m.get a=o/\m.get a2=o2)),iQ 0]) h')
  (k0:¬ (m.ok a=true/\m.ok a2=true/\a≠a2)->∀h',A7 h' (O9 q m*R)->K (.tuple #[dQ false,iQ 2]) h') :
  A5 Tryz.prog 286 #[pQ (some (aQ q)),iQ a,uQ o,uQ n,iQ a2,uQ o2,uQ n2] h K:=by
 refine call286 ?_
 unfold F286 cf bd lS lI nP
 have H1:=(H.push (oQ #[iQ a,iQ a2] 3))
 generalize h.push (oQ #[iQ a,iQ a2] 3)=h1 at *
 generalize h.size=N at *
 obtain ⟨b,w0,w1,w2⟩:=Z4 H1.drop
 refine A0 (Bx w0 (Sp8 H1.at) (by omega) ?_)
 rw [SV6]
 simp only [A6]
 cases hok:(m.ok a && m.ok a2) with
 | false=>
  simp only [Bool.false_eq_true,if_false]
  rw [show ((2:Int) != 0)=true from rfl]
  simp only [G2]
  exact k0 (λhx=>by rw [hx.1,hx.2.1] at hok;cases hok) h1 H1.drop
 | true=>
  simp only [if_true]
  rw [show ((0:Int) != 0)=false from rfl]
  simp only [E2,B4,C9]
  obtain ⟨hk1,hk2⟩:=(Bool.and_eq_true _ _).mp hok
  obtain ⟨a0,a1⟩:=Mm.ok_iff.1 hk1
  obtain ⟨c0,c1⟩:=Mm.ok_iff.1 hk2
  refine C7 (λhe=>k0 (λhx=>hx.2.2 (by simpa using he)) h1 H1.drop) (λhe=>?_)
  have hne:a≠a2:=by simpa using he
  refine ⟨λvs h'=>vs = [dQ (decide (m.get a=o/\m.get a2=o2)),dQ (decide (m.get a=o/\m.get a2=o2))]/\h' = h1,?_,?_⟩
  ·refine D3 w0 ?_
   simp only [C6]
   refine ⟨a0,a1,?_⟩
   simp only [C9,Nat.mul_one]
   rw [E1,Nat.zero_add]
   refine D3 (w1 a hk1) ?_
   simp only [A6]
   refine C7 (λhc=>?_) (λhc=>?_)
   ·have hc':m.get a=o:=by simpa using hc
    refine D3 w0 ?_
    simp only [C6]
    refine ⟨c0,c1,?_⟩
    simp only [C9]
    rw [E1,Nat.zero_add]
    refine D3 (w1 a2 hk2) ?_
    simp only [A6]
    have e:(m.get a2 == o2)=decide (m.get a=o/\m.get a2=o2):=by
     rw [Bool.eq_iff_iff,beq_iff_eq,decide_eq_true_iff];exact ⟨λh=>⟨hc',h⟩,λh=>h.2⟩
    rw [e]
    exact ⟨rfl,by trivial⟩
   ·have hc':¬ m.get a=o:=by simpa using hc
    rw [decide_eq_false (λh=>hc' h.1)]
    exact ⟨rfl,by trivial⟩
  rintro v20 v21 g22 h23 ⟨e,rfl⟩
  cases e
  simp only [B6]
  unfold Mm.dcas at k1
  refine ⟨λvs h'=>vs = []/\A7 h' (O9 q (if m.get a=o/\m.get a2=o2 then (m.put a n).put a2 n2 else m)*R),?_,?_⟩
  ·refine A4 (λhc=>?_) (λhc=>?_)
   ·rw [if_pos hc]
    obtain ⟨b,la,lc,B,H0⟩:=Z8.1 H1.drop
    have e0:=E9 (i:=0) H0.at rfl
    refine D3 e0 ?_
    simp only [C6]
    refine D3 e0 ?_
    simp only [C6]
    refine ⟨a0,a1,?_⟩
    simp only [C9,Nat.mul_one]
    rw [E1,Nat.zero_add]
    have H2:A7 h23 _:=(D4 _ _ _ ▸ H0)
    refine CK H2 (by unfold U8;rw [List.length_map];omega) trivial λh3 H3=>?_
    refine ⟨c0,c1,?_⟩
    try simp only [C9]
    rw [E1,Nat.zero_add]
    refine CK H3 (by unfold U8;rw [List.length_set,List.length_map];omega) trivial λh4 H4=>⟨by trivial,?_⟩
    refine Z8.2 ⟨b,la,lc,(B.put hn).put hn2,?_⟩
    have H5:A7 h4 _:=(D4 _ _ _ ▸ H4)
    unfold Mm.put
    simp only
    rw [show U8 ((m.w.set a.toNat n).set a2.toNat n2)=((U8 m.w).set a.toNat (uQ n)).set a2.toNat (uQ n2) by unfold U8;rw [List.map_set,List.map_set]]
    unfold Rg
    simp only [List.length_set]
    exact H5
   ·rw [if_neg hc]
    exact ⟨by trivial,H1.drop⟩
  rintro g33 h34 ⟨_,H34⟩
  refine A0 (By H34 (by split <;> exact hs) λh37 H37=>?_)
  refine k1 hk1 hk2 hne h37 ?_
  split
  ·rename_i hc;rw [if_pos hc,decide_eq_true hc] at H37;exact H37
  ·rename_i hc;rw [if_neg hc,decide_eq_false hc] at H37;exact H37
end
section
open Mod
def wdS (q b c:Nat):Prop:=c=q\/c=b
structure Le (h:A2) (q b:Nat) (g:Gh):Prop where
 obj:h[q]? = some (.cells [lQ (some (aQ b)) g.tags.length g.tags.length,iQ g.kind,iQ g.node].toArray 213)
 tg:h[b]? = some (oQ (g.tags.map iv).toArray 3)
 len:g.tags.length<=64
theorem Le.ne {h:A2} {q b:Nat} {g:Gh} (H:Le h q b g):q≠b:=by
 rintro rfl
 have h1:=H.obj
 rw [H.tg] at h1
 have:=congrArg (λo:Option Obj=>match o with | some (.cells _ t _)=>some t | _=>none) h1
 exact absurd this (by simp)
theorem SR0 (a b:Int):eqv Tryz.prog 10000 133 (.agg #[iQ a,iQ b]) (.agg #[iQ 0,iQ 0])=some ((a == 0) && ((b == 0) && true)):=by kernel_rfl
theorem Sp9:Tryz.prog.eqGuardType Tryz.prog.depth 133=false:=by kernel_rfl
theorem XU {a b:Int} {K:Bool->Prop} (k:K (decide (a=0/\b=0))):GL Tryz.prog 133 (.agg #[iQ a,iQ b]) (.agg #[iQ 0,iQ 0]) K:=by
 unfold GL
 rw [Sp9,if_neg (by simp)]
 show (match eqv Tryz.prog 10000 133 (.agg #[.int .i64 a,.int .i64 b]) (.agg #[.int .i64 0,.int .i64 0]) with | some b=>K b | none=>False)
 rw [SR0]
 have e:((a == 0) && ((b == 0) && true))=decide (a=0/\b=0):=by
  rw [Bool.eq_iff_iff];simp
 rw [e]
 exact k
theorem Ed {K:kQ} {h:A2} {q b:Nat} {g:Gh} {kd i:Int} (H:Le h q b g) (k:∀h',Le h' q b (g.fault kd i)->Fr (wdS q b) h h'->K (dQ false) h'):A5 Tryz.prog 300 #[pQ (some (aQ q)),iQ kd,iQ i] h K:=by
 refine call300 ?_
 unfold F300 nP
 simp only [Option.isNone_some,Bool.not_false,G2,B4,C9,E1]
 refine ⟨λvs h'=>vs = [dQ (decide (g.kind=0/\g.node=0))]/\h' = h,?_,?_⟩
 ·refine C5 H.obj rfl (C5 H.obj rfl ?_)
  exact XU ⟨rfl,by trivial⟩
 rintro v5 g6 h7 ⟨e,rfl⟩
 cases e
 simp only [B6]
 refine A4 (λhc=>?_) (λhc=>?_)
 ·refine stR H.obj rfl trivial λh10 w10=>?_
  refine stR w10.new rfl trivial λh11 w11=>?_
  have w:=w10.trans w11
  refine k h11 ?_ ⟨by rw [w.size];exact Nat.le_refl _,λc hc hn=>w.old _ λe=>hn (.inl e)⟩
  unfold Gh.fault
  rw [if_pos hc]
  exact ⟨w.new,(w.old _ (λe=>H.ne e.symm)).trans H.tg,H.len⟩
 ·refine k h7 ?_ (Fr.refl _ _)
  unfold Gh.fault
  rw [if_neg hc]
  exact H
theorem XV {h:A2} {b:Nat} {l:List Int} {t:TypeId} (e:h[b]? = some (oQ (l.map iv).toArray t)) {a:Nat} (h1:a < l.length):A3 h ⟨b,a,none⟩=some (iv (l.getD a 0)):=by
 rw [E0 e,List.getElem?_toArray,List.getElem?_map,List.getElem?_eq_getElem h1,List.getD_eq_getElem?_getD,List.getElem?_eq_getElem h1]
 rfl
theorem hd3 {b b':Bool} {v w:Value} (h:b=b') : [dQ b,v,w] = [dQ b',v,w]:=by rw [h]
theorem Ht {K:kQ} {h:A2} {q b:Nat} {g:Gh} {i fr to_ kd:Int} (H:Le h q b g) (hi:iN i) (k:∀bb h',Le h' q b (g.turn i fr to_ kd)->Fr (wdS q b) h h'->K (dQ bb) h') :
  A5 Tryz.prog 302 #[pQ (some (aQ q)),iQ i,iQ fr,iQ to_,iQ kd] h K:=by
 refine call302 ?_
 unfold F302 cf lS nP
 have hl:=H.len
 refine ⟨λvs h'=>(∃w1 w2,vs = [dQ (decide (i < 1\/(g.tags.length:Int) < i)),w1,w2])/\h' = h,?_,?_⟩
 ·simp only [Option.isNone_some,E2]
  refine A4 (λq=>⟨⟨_,_,hd3 (decide_eq_true (Or.inl q:i < 1\/(g.tags.length:Int) < i)).symm⟩,by trivial⟩) (λq=>?_)
  simp only [B4,C9]
  refine C5 H.obj rfl ?_
  simp only [C6]
  exact ⟨⟨_,_,hd3 (show decide (i > (g.tags.length:Int))=decide (i < 1\/(g.tags.length:Int) < i) by rw [decide_eq_decide];omega)⟩,by trivial⟩
 rintro v6 v7 v8 g9 h10 ⟨⟨_,_,e⟩,rfl⟩
 cases e
 simp only [B6]
 unfold Gh.turn at k
 refine A4 (λhc=>?_) (λhc=>?_)
 ·rw [if_pos hc] at k
  refine A0 (Ed H λh13 H13 fr13=>?_)
  simp only [B6]
  exact k false h13 H13 fr13
 rw [if_neg hc] at k
 simp only [B4,C9]
 refine C5 H.obj rfl ?_
 simp only [C6]
 rw [D8 (n:=i - 1) (by omega) (by omega)]
 refine ⟨by omega,by omega,?_⟩
 simp only [C9,Nat.mul_one]
 rw [E1,Nat.zero_add]
 refine D3 (XV H.tg (by omega)) ?_
 simp only [A6]
 refine C7 (λhne=>?_) (λheq=>?_)
 ·rw [if_pos (by simpa using hne)] at k
  refine A0 (Ed H λh13 H13 fr13=>?_)
  simp only [B6]
  exact k false h13 H13 fr13
 rw [if_neg (by simpa using heq)] at k
 refine C5 H.obj rfl ?_
 simp only [C6]
 refine ⟨by omega,by omega,?_⟩
 simp only [C9]
 try rw [E1,Nat.zero_add]
 refine KS H.tg (by simp;omega) trivial ?_
 rintro h32 rfl
 have hlt:=(Array.getElem?_eq_some_iff.1 H.tg).1
 refine k true _ ⟨?_,?_,by rw [List.length_set];exact H.len⟩ ⟨by simp,λc hc hn=>U5 λe=>hn (.inr e)⟩
 ·rw [U5 H.ne,List.length_set];exact H.obj
 ·rw [T4 hlt,List.setIfInBounds_toArray,List.map_set]
theorem Rh {K:kQ} {h:A2} {q b:Nat} {g:Gh} {i:Int} (H:Le h q b g) (hi:iN i) (k:∀bb h',Le h' q b (g.touch i)->Fr (wdS q b) h h'->K (dQ bb) h') :
  A5 Tryz.prog 279 #[pQ (some (aQ q)),iQ i] h K:=by
 refine call279 ?_
 unfold F279 cf lS nP
 have hl:=H.len
 refine ⟨λvs h'=>(∃w1 w2,vs = [dQ (decide (i < 1\/(g.tags.length:Int) < i)),w1,w2])/\h' = h,?_,?_⟩
 ·simp only [Option.isNone_some,E2]
  refine A4 (λq=>⟨⟨_,_,hd3 (decide_eq_true (Or.inl q:i < 1\/(g.tags.length:Int) < i)).symm⟩,by trivial⟩) (λq=>?_)
  simp only [B4,C9]
  refine C5 H.obj rfl ?_
  simp only [C6]
  exact ⟨⟨_,_,hd3 (show decide (i > (g.tags.length:Int))=decide (i < 1\/(g.tags.length:Int) < i) by rw [decide_eq_decide];omega)⟩,by trivial⟩
 rintro v6 v7 v8 g9 h10 ⟨⟨_,_,e⟩,rfl⟩
 cases e
 simp only [B6]
 unfold Gh.touch at k
 refine A4 (λhc=>?_) (λhc=>?_)
 ·rw [if_pos hc] at k
  refine A0 (Ed H λh13 H13 fr13=>?_)
  simp only [B6]
  exact k false h13 H13 fr13
 rw [if_neg hc] at k
 simp only [B4,C9]
 refine C5 H.obj rfl ?_
 simp only [C6]
 rw [D8 (n:=i - 1) (by omega) (by omega)]
 refine ⟨by omega,by omega,?_⟩
 simp only [C9,Nat.mul_one]
 rw [E1,Nat.zero_add]
 refine D3 (XV H.tg (by omega)) ?_
 simp only [A6]
 refine C7 (λhne=>?_) (λheq=>?_)
 ·rw [if_pos (by simpa using hne)] at k
  refine A0 (Ed H λh13 H13 fr13=>?_)
  simp only [B6]
  exact k false h13 H13 fr13
 rw [if_neg (by simpa using heq)] at k
 exact k true _ H (Fr.refl _ _)
end
section
open Mod
variable {K:kQ} {h:A2}
theorem Ri {q b:Nat} {g:Gh} {i:Int} (H:Le h q b g) (hi:iN i) (k:∀bb h',Le h' q b (g.turn i 0 1 1)->Fr (wdS q b) h h'->K (dQ bb) h') :
  A5 Tryz.prog 306 #[pQ (some (aQ q)),iQ i] h K:=by
 refine call306 ?_
 unfold F306 cf
 refine A0 (Ht H hi λbb h1 H1 fr1=>?_)
 simp only [B6]
 exact k bb h1 H1 fr1
theorem OI {q b:Nat} {g:Gh} {i:Int} (H:Le h q b g) (hi:iN i) (k:∀bb h',Le h' q b (g.turn i 1 2 2)->Fr (wdS q b) h h'->K (dQ bb) h') :
  A5 Tryz.prog 288 #[pQ (some (aQ q)),iQ i] h K:=by
 refine call288 ?_
 unfold F288 cf
 refine A0 (Ht H hi λbb h1 H1 fr1=>?_)
 simp only [B6]
 exact k bb h1 H1 fr1
theorem Mu {q b:Nat} {g:Gh} {i:Int} (H:Le h q b g) (hi:iN i) (k:∀bb h',Le h' q b (g.turn i 2 0 3)->Fr (wdS q b) h h'->K (dQ bb) h') :
  A5 Tryz.prog 307 #[pQ (some (aQ q)),iQ i] h K:=by
 refine call307 ?_
 unfold F307 cf
 refine A0 (Ht H hi λbb h1 H1 fr1=>?_)
 simp only [B6]
 exact k bb h1 H1 fr1
structure Zp (h:A2) (q:Nat) (a:Option Addr) (c:Nat) (bs:List Int) (used:Int):Prop where
 obj:h[q]? = some (.cells [lQ a bs.length c,iQ used].toArray 236)
 by_:N8 h a (bs.map λn=>.int .u8 n)
 rng:∀n ∈ bs,0<=n/\n < 256
 us:0<=used/\used < 4611686018427387904
 ap:¬ GN a q
theorem Lf {q c:Nat} {a:Option Addr} {bs:List Int} {used:Int} (H:Zp h q a c bs used) (hu:used < 4611686018427387903)
  (k:∀h',Zp h' q a c bs (used+1)->Fr (λb=>b=q) h h'->K (iQ (if used+1 > bs.length then 0 else bs.getD used.toNat 0)) h') :
  A5 Tryz.prog 280 #[pQ (some (aQ q))] h K:=by
 refine call280 ?_
 unfold F280 lS lI nP
 have hus:=H.us
 simp only [Option.isNone_some,E2,B4,C9,E1]
 refine C5 H.obj rfl ?_
 simp only [A6]
 rw [D8 (n:=used+1) (by omega) (by omega)]
 refine stR H.obj rfl trivial λh4 w4=>?_
 have by4:N8 h4 a (bs.map λn=>.int .u8 n):=H.by_.keep λad e=>w4.old _ λeb=>H.ap ⟨ad,e,eb⟩
 have H4:Zp h4 q a c bs (used+1):=⟨w4.new,by4,H.rng,by omega,H.ap⟩
 have kk:=k h4 H4 ⟨by rw [w4.size];exact Nat.le_refl _,λb hb hn=>w4.old _ hn⟩
 refine C5 w4.new rfl ?_
 simp only [A6]
 refine C5 w4.new rfl ?_
 simp only [C6]
 refine A4 (λhgt=>?_) (λhle=>?_)
 ·rw [if_pos (by omega)] at kk
  exact kk
 ·rw [if_neg (by omega)] at kk
  have hlt:used.toNat < bs.length:=by omega
  refine C5 w4.new rfl ?_
  simp only [C6]
  refine C5 w4.new rfl ?_
  simp only [A6]
  rw [D8 (n:=used+1 - 1) (by omega) (by omega),show used+1 - 1=used by omega]
  refine ⟨by omega,by omega,?_⟩
  obtain ⟨ad,rfl,hc⟩:=by4 used.toNat (.int .u8 bs[used.toNat]) (by rw [List.getElem?_map,List.getElem?_eq_getElem hlt];rfl)
  simp only [C9,Nat.mul_one]
  refine D3 hc ?_
  simp only [A6]
  have hr:=H.rng _ (List.getElem_mem hlt)
  rw [List.getD_eq_getElem?_getD,List.getElem?_eq_getElem hlt] at kk
  rw [D8 (by omega) (by omega)]
  exact kk
theorem Vq {q c:Nat} {a:Option Addr} {bs:List Int} {used n:Int} (H:Zp h q a c bs used) (hu:used < 4611686018427387903)
  (k0:n < 1->K (iQ 0) h) (k:1<=n->∀h',Zp h' q a c bs (used+1)->Fr (λb=>b=q) h h'->K (iQ ((if used+1 > bs.length then 0 else bs.getD used.toNat 0) % n)) h') :
  A5 Tryz.prog 215 #[pQ (some (aQ q)),iQ n] h K:=by
 refine call215 ?_
 unfold F215 cf
 refine A4 (λhn=>k0 hn) (λhn=>?_)
 refine A0 (Lf H hu λh1 H1 fr1=>?_)
 simp only [A6]
 have hpos:0<=(if used+1 > bs.length then 0 else bs.getD used.toNat 0):=by
  split
  ·omega
  ·rename_i h2
   have hus:=H.us
   have hlt:used.toNat < bs.length:=by omega
   rw [List.getD_eq_getElem?_getD,List.getElem?_eq_getElem hlt]
   exact (H.rng _ (List.getElem_mem hlt)).1
 rw [FS hpos]
 exact ⟨by omega,k (by omega) h1 H1 fr1⟩
end
section
open Mod
variable {K:kQ} {h:A2}
def OK:Option Gh->Nat->Hp
 | none,_=>Mr
 | some g,q=>ex λb=>lift (wdS q b) λh=>Le h q b g
theorem Le.congr {h h':A2} {q b:Nat} {g:Gh} (H:Le h q b g) (e:∀c,wdS q b c->h'[c]? = h[c]?):Le h' q b g:=by
 have h1:=H.obj
 have h2:=H.tg
 obtain ⟨x1,x2,x3⟩:=H
 constructor
 ·rw [e q (.inl rfl)];exact h1
 ·rw [e b (.inr rfl)];exact h2
 ·exact x3
theorem Le.nd {h:A2} {q b:Nat} {g:Gh} (H:Le h q b g):∀c o,wdS q b c->h[c]? = some o->Nd o:=by
 rintro c o hc e x hx
 rcases hc with rfl | rfl
 ·rw [H.obj] at e;cases e;cases hx
 ·rw [H.tg] at e;cases e;cases hx
theorem FY {h:A2} {q:Nat} {g:Gh} {R:Hp} (H:A7 h (OK (some g) q*R)):∃b,Le h q b g/\∀h' g',Le h' q b g'->Fr (wdS q b) h h'->A7 h' (OK (some g') q*R):=by
 obtain ⟨b,H⟩:=A7.ex.1 H
 obtain ⟨G,hlt,re⟩:=H.opn
 refine ⟨b,G,λh' g' G' fr=>A7.ex.2 ⟨b,re h' (wdS q b) _ fr (λc hc=>⟨.inl hc,Nat.lt_of_lt_of_le (hlt c hc) fr.1⟩) G'.nd λh'' e=>G'.congr e⟩⟩
theorem OL {q:Nat} {g:Gh} {R:Hp} {i:Int} (H:A7 h (OK (some g) q*R)) (hi:iN i) (k:∀bb h',A7 h' (OK (some (g.touch i)) q*R)->K (dQ bb) h') :
  A5 Tryz.prog 279 #[pQ (some (aQ q)),iQ i] h K:=by
 obtain ⟨b,G,re⟩:=FY H
 exact Rh G hi λbb h' G' fr=>k bb h' (re h' _ G' fr)
theorem OM {q:Nat} {g:Gh} {R:Hp} {i:Int} (H:A7 h (OK (some g) q*R)) (hi:iN i) (k:∀bb h',A7 h' (OK (some (g.turn i 0 1 1)) q*R)->K (dQ bb) h') :
  A5 Tryz.prog 306 #[pQ (some (aQ q)),iQ i] h K:=by
 obtain ⟨b,G,re⟩:=FY H
 exact Ri G hi λbb h' G' fr=>k bb h' (re h' _ G' fr)
theorem Mv {q:Nat} {g:Gh} {R:Hp} {i:Int} (H:A7 h (OK (some g) q*R)) (hi:iN i) (k:∀bb h',A7 h' (OK (some (g.turn i 1 2 2)) q*R)->K (dQ bb) h') :
  A5 Tryz.prog 288 #[pQ (some (aQ q)),iQ i] h K:=by
 obtain ⟨b,G,re⟩:=FY H
 exact OI G hi λbb h' G' fr=>k bb h' (re h' _ G' fr)
theorem Lg {q:Nat} {g:Gh} {R:Hp} {i:Int} (H:A7 h (OK (some g) q*R)) (hi:iN i) (k:∀bb h',A7 h' (OK (some (g.turn i 2 0 3)) q*R)->K (dQ bb) h') :
  A5 Tryz.prog 307 #[pQ (some (aQ q)),iQ i] h K:=by
 obtain ⟨b,G,re⟩:=FY H
 exact Mu G hi λbb h' G' fr=>k bb h' (re h' _ G' fr)
theorem ON {q:Nat} {g:Gh} {R:Hp} (H:A7 h (OK (some g) q*R)) (k:∀h',A7 h' (OK (some g) q*R)->K (.agg #[iQ g.kind,iQ g.node]) h') :
  A5 Tryz.prog 72 #[pQ (some (aQ q))] h K:=by
 refine call72 ?_
 unfold F72 g72 nP Ou dw2
 obtain ⟨b,G,re⟩:=FY H
 simp only [Option.isNone_some,E2,B4,C9,E1]
 have H1:=H.push (.cells [iQ 0,iQ 0].toArray 133)
 have e0:h.push (.cells [iQ 0,iQ 0].toArray 133)=h.push (oQ #[iQ 0,iQ 0] 133):=rfl
 rw [e0] at H1
 have G1:(h.push (oQ #[iQ 0,iQ 0] 133))[q]? = h[q]?:=S4 _ _ _ (Array.getElem?_eq_some_iff.1 G.obj).1
 generalize h.push (oQ #[iQ 0,iQ 0] 133)=h1 at *
 generalize h.size=N at *
 have g1:=G1.trans G.obj
 refine C5 g1 rfl (C5 g1 rfl ?_)
 refine H1.st rfl trivial λh7 H7=>H7.st rfl trivial λh8 H8=>H8.ld rfl (H8.ld rfl (k h8 H8.drop))
def Mw (q:Nat) (bs:List Int) (used:Int):Hp:=ex λa=>ex λc=>lift (λb=>b=q\/GN a b/\bs≠[]) λh=>Zp h q a c bs used
theorem N8.congr {h h':A2} {a:Option Addr} {vs:List Value} (H:N8 h a vs) (e:∀b,GN a b->vs≠[]->h'[b]? = h[b]?):N8 h' a vs:=by
 intro i v hi
 obtain ⟨ad,ea,hc⟩:=H i v hi
 exact ⟨ad,ea,(S0 (by rw [IQ];exact e _ ⟨ad,ea,rfl⟩ λh=>by rw [h] at hi;simp at hi)).trans hc⟩
theorem Zp.congr {h h':A2} {q c:Nat} {a:Option Addr} {bs:List Int} {used:Int} (H:Zp h q a c bs used) (e:∀b,b=q\/GN a b/\bs≠[]->h'[b]? = h[b]?):Zp h' q a c bs used:=
 ⟨(e q (.inl rfl)).trans H.obj,H.by_.congr λb hb hn=>e b (.inr ⟨hb,λh=>hn (by rw [h];rfl)⟩),H.rng,H.us,H.ap⟩
theorem Zp.nd {h:A2} {q c:Nat} {a:Option Addr} {bs:List Int} {used:Int} (H:Zp h q a c bs used):∀b o,b=q\/GN a b/\bs≠[]->h[b]? = some o->Nd o:=by
 rintro b o hb e x hx
 rcases hb with rfl | ⟨⟨ad,ea,rfl⟩,hne⟩
 ·rw [H.obj] at e;cases e;cases hx
 ·cases bs with
  | nil=>exact hne rfl
  | cons n bs=>
   obtain ⟨ad2,ea2,hc⟩:=H.by_ 0 (.int .u8 n) rfl
   rw [ea] at ea2;cases ea2
   exact hx.elim
theorem Lh {h:A2} {q:Nat} {bs:List Int} {used:Int} {R:Hp} (H:A7 h (Mw q bs used*R)):∃a c,Zp h q a c bs used/\∀h' used',Zp h' q a c bs used'->Fr (λb=>b=q) h h'->A7 h' (Mw q bs used' * R):=by
 obtain ⟨a,H⟩:=A7.ex.1 H
 obtain ⟨c,H⟩:=A7.ex.1 H
 obtain ⟨G,hlt,re⟩:=H.opn
 refine ⟨a,c,G,λh' u' G' fr=>A7.ex.2 ⟨a,A7.ex.2 ⟨c,re h' _ _ (fr.mono λb _ e=>.inl e) (λc hc=>⟨.inl hc,Nat.lt_of_lt_of_le (hlt c hc) fr.1⟩) G'.nd λh'' e=>G'.congr e⟩⟩⟩
def drawn (bs:List Int) (used:Int):Int:=if used+1 > bs.length then 0 else bs.getD used.toNat 0
theorem Zq {bs:List Int} {used:Int} (h:∀n ∈ bs,0<=n/\n < 256):0<=drawn bs used/\drawn bs used < 256:=by
 unfold drawn
 split
 ·omega
 ·rw [List.getD_eq_getElem?_getD]
  cases e:bs[used.toNat]? with
  | none=>simp
  | some v=>exact h v (List.mem_of_getElem? e)
theorem Rj {q:Nat} {bs:List Int} {used:Int} {R:Hp} (H:A7 h (Mw q bs used*R)) (hu:used < 1099511627776)
  (k:∀h',A7 h' (Mw q bs (used+1)*R)->0<=drawn bs used/\drawn bs used < 256->K (iQ (drawn bs used)) h') :
  A5 Tryz.prog 280 #[pQ (some (aQ q))] h K:=by
 obtain ⟨a,c,G,re⟩:=Lh H
 exact Lf G (by omega) λh' G' fr=>k h' (re h' _ G' fr) (Zq G.rng)
theorem Rk {q:Nat} {bs:List Int} {used n:Int} {R:Hp} (H:A7 h (Mw q bs used*R)) (hu:used < 1099511627776)
  (k0:n < 1->K (iQ 0) h) (k:1<=n->∀h',A7 h' (Mw q bs (used+1)*R)->K (iQ (drawn bs used % n)) h') :
  A5 Tryz.prog 215 #[pQ (some (aQ q)),iQ n] h K:=by
 obtain ⟨a,c,G,re⟩:=Lh H
 exact Vq G (by omega) k0 λh1 h' G' fr=>k h1 h' (re h' _ G' fr)
theorem Sq0 {n:Int} (h0:0<=n) (h1:n < 9223372036854775808):IntKind.wrap .i64 ((((BitVec.ofInt 64 n) &&& (BitVec.ofInt 64 1)).toNat:Nat):Int)=n % 2:=by
 have e:(BitVec.ofInt 64 n).toNat=n.toNat:=by
  rw [BitVec.toNat_ofInt]
  omega
 rw [BitVec.toNat_and,e,show (BitVec.ofInt 64 1).toNat=1 from rfl,Nat.and_one_is_mod]
 rw [D8 (by omega) (by omega)]
 omega
theorem OO {q:Nat} {bs:List Int} {used n:Int} {R:Hp} (H:A7 h (Mw q bs used*R)) (hu:used < 1099511627776) (hn:1<=n/\n<=6)
  (k:∀h',A7 h' (Mw q bs (used+1)*R)->K (iQ (Ur (drawn bs used) n.toNat 0)) h') :
  A5 Tryz.prog 250 #[pQ (some (aQ q)),iQ n] h K:=by
 refine call250 ?_
 unfold F250 cf
 refine A4 (λh1=>by omega) (λ_=>?_)
 refine A0 (Rj H hu λh1 H1 hr=>?_)
 simp only [A6]
 have k1:=k h1 H1
 generalize drawn bs used=c at *
 obtain ⟨Lv,hLv⟩ : ∃Lv,Ur c n.toNat 0=Lv:=⟨_,rfl⟩
 rw [hLv] at k1
 have lz:∀i,Ur c 0 i=i:=λ_=>rfl
 have ls:∀m i,Ur c (m+1) i=if c / 2 ^ i % 2=0 then (i:Int)+1 else Ur c m (i+1):=λ_ _=>rfl
 refine ⟨λvs h'=>∃w1 w2,∃i:Nat,vs = [w1,w2,iv i]/\(i:Int)<=n/\h' = h1/\Lv=Ur c (n.toNat - i) i,λvs _=>(match vs with | [_,_,.int _ m]=>n.toNat - m.toNat | _=>0),⟨_,_,0,rfl,by omega,rfl,hLv.symm⟩,?_⟩
 rintro v5 v6 v7 g8 h9 ⟨w1,w2,i,e,hi,rfl,hlev⟩
 cases e
 simp only [A6]
 refine A4 (λhlt=>?_) (λhge=>?_)
 ·refine ⟨by omega,?_⟩
  have hp0:0<=c / 2 ^ i:=Int.ediv_nonneg hr.1 (by exact_mod_cast Nat.zero_le _)
  have hp1:c / 2 ^ i<=c:=Int.ediv_le_self _ hr.1
  have hs:n.toNat - i=(n.toNat - (i+1))+1:=by omega
  have e1:min (i:Int).toNat 64=i:=by omega
  rw [e1,Bc (by exact_mod_cast Nat.zero_le _),Sq0 hp0 (by omega)]
  rw [hs,ls] at hlev
  refine C7 (λhz=>?_) (λhz=>?_)
  ·have hz':c / 2 ^ i % 2=0:=by simpa using hz
   rw [if_pos hz'] at hlev
   rw [Ac (by omega)]
   rw [hlev] at k1
   exact_mod_cast k1
  ·have hz':¬ c / 2 ^ i % 2=0:=by simpa using hz
   rw [if_neg hz'] at hlev
   rw [Ac (by omega)]
   exact ⟨⟨_,_,i+1,rfl,by omega,by trivial,hlev⟩,by show n.toNat - ((i+1:Nat):Int).toNat < n.toNat - (i:Int).toNat;omega⟩
 ·have:(i:Int)=n:=by omega
  have e:n.toNat - i=0:=by omega
  rw [e,lz] at hlev
  rw [hlev,this] at k1
  exact k1
end
section
set_option maxRecDepth 100000
variable {K:kQ} {h:A2}
abbrev q62_1 (h104:A2) (v88 v89 v90 v91 v92 v93 v94 v95 v96 v97 v98 v99 v100 v101 v102:Value) (o67 o105:Option Addr):A2:=(h104.push (oQ #[v88,v89,v90,v91,v92,v93,v94,v95,v96,v97,v98,v99,v100,v101,v102,(pQ o67),(pQ none),(pQ o105),(lQ none 0 0),(dQ false),(dQ false)] 122))
abbrev q62_2 (h164:A2) (n142:Int) (o155:Option Addr) (k156 k157:Nat) (o160:Option Addr) (k161 k162:Nat) (o165:Option Addr) (k166 k167:Nat):A2:=(h164.push (oQ #[(iQ n142),(lQ none 0 0),(uQ 0),(uQ 0),(uQ 0),(lQ o155 k156 k157),(lQ o160 k161 k162),(lQ o165 k166 k167),(lQ none 0 0),(lQ none 0 0)] 183))
abbrev q62_3 (h181:A2) (n142:Int) (o155:Option Addr) (k156 k157:Nat) (o182:Option Addr) (k183 k184:Nat) (o177:Option Addr) (k178 k179:Nat):A2:=(h181.push (oQ #[(iQ n142),(lQ none 0 0),(uQ 0),(uQ 0),(uQ 0),(lQ o155 k156 k157),(lQ o182 k183 k184),(lQ o177 k178 k179),(lQ none 0 0),(lQ none 0 0)] 183))
abbrev q62_4 (h203:A2) (n142:Int) (o199:Option Addr) (k200 k201:Nat) (o194:Option Addr) (k195 k196:Nat) (o204:Option Addr) (k205 k206:Nat):A2:=(h203.push (oQ #[(iQ n142),(lQ none 0 0),(uQ 0),(uQ 0),(uQ 0),(lQ o199 k200 k201),(lQ o194 k195 k196),(lQ o204 k205 k206),(lQ none 0 0),(lQ none 0 0)] 183))
abbrev q62_5 (h220:A2) (n142:Int) (o221:Option Addr) (k222 k223:Nat) (o194:Option Addr) (k195 k196:Nat) (o216:Option Addr) (k217 k218:Nat):A2:=(h220.push (oQ #[(iQ n142),(lQ none 0 0),(uQ 0),(uQ 0),(uQ 0),(lQ o221 k222 k223),(lQ o194 k195 k196),(lQ o216 k217 k218),(lQ none 0 0),(lQ none 0 0)] 183))
abbrev q62_6 (h242:A2) (n142:Int) (o238:Option Addr) (k239 k240:Nat) (o243:Option Addr) (k244 k245:Nat) (o233:Option Addr) (k234 k235:Nat):A2:=(h242.push (oQ #[(iQ n142),(lQ none 0 0),(uQ 0),(uQ 0),(uQ 0),(lQ o238 k239 k240),(lQ o243 k244 k245),(lQ o233 k234 k235),(lQ none 0 0),(lQ none 0 0)] 183))
abbrev q62_7 (h259:A2) (n142:Int) (o260:Option Addr) (k261 k262:Nat) (o255:Option Addr) (k256 k257:Nat) (o233:Option Addr) (k234 k235:Nat):A2:=(h259.push (oQ #[(iQ n142),(lQ none 0 0),(uQ 0),(uQ 0),(uQ 0),(lQ o260 k261 k262),(lQ o255 k256 k257),(lQ o233 k234 k235),(lQ none 0 0),(lQ none 0 0)] 183))
abbrev g62 (K:kQ) (h H1:A2) (xa:Option Addr) (xb xc:Nat) (xd:Bool):Prop:=
 (PY H1 h.size λa b c d e f g=>cf 98 #[.agg #[a,b,c,d,e,f,g]] H1 λa b=>J6 a λc=>D2 c 0 λc=>asAgg c λc=>G0 c 15 (N0 c λc d e f g i j k l m n o p q r=>J6 a λa=>D2 a 1 λa=>asInt .i64 a λa=>C4 (b.push (oQ Ae 117)) (aQ b.size) c λc=>C4 c ⟨b.size,1,none⟩ d λc=>C4 c ⟨b.size,2,none⟩ e λc=>C4 c ⟨b.size,3,none⟩ f λc=>C4 c ⟨b.size,4,none⟩ g λc=>C4 c ⟨b.size,5,none⟩ i λc=>C4 c ⟨b.size,6,none⟩ j λc=>C4 c ⟨b.size,7,none⟩ k λc=>C4 c ⟨b.size,8,none⟩ l λc=>C4 c ⟨b.size,9,none⟩ m λc=>C4 c ⟨b.size,10,none⟩ n λc=>C4 c ⟨b.size,11,none⟩ o λc=>C4 c ⟨b.size,12,none⟩ p λc=>C4 c ⟨b.size,13,none⟩ q λc=>C4 c ⟨b.size,14,none⟩ r λc=>D0 (a != 0) (K (.tuple #[pQ none,iQ a]) c) (Bs c b.size λa d e f g i j k l m n o p q r=>cf 100 #[.agg #[a,d,e,f,g,i,j,k,l,m,n,o,p,q,r]] c λa c=>asInt .i64 a λa=>cf 99 #[iQ a] c λa c=>J6 a λd=>D2 d 0 λd=>C2 d λd=>J6 a λa=>D2 a 1 λa=>asInt .i64 a λa=>D0 (a != 0) (K (.tuple #[pQ none,iQ a]) c) (Bs c b.size λa e f g i j k l m n o p q r s=>cf 101 #[pQ d,.agg #[a,e,f,g,i,j,k,l,m,n,o,p,q,r,s]] c λa a=>Bs a b.size λc e f g i j k l m n o p q r s=>cf 102 #[lQ xa xb xc] a λa t=>C2 a λa=>ce t b.size 0 c (ce t b.size 1 e (ce t b.size 2 f (ce t b.size 3 g (ce t b.size 4 i (ce t b.size 5 j (ce t b.size 6 k (ce t b.size 7 l (ce t b.size 8 m (ce t b.size 9 n (ce t b.size 10 o (ce t b.size 11 p (ce t b.size 12 q (ce t b.size 13 r (ce t b.size 14 s (O0 λI106=>(D0 xd (D1 (q62_1 t c e f g i j k l m n o p q r s d a) ⟨h.size,2,none⟩ λu=>asInt .i64 u λv=>Bs (q62_1 t c e f g i j k l m n o p q r s d a) b.size λb w x y z A B C D E F G H I J=>cf 104 #[.agg #[b,w,x,y,z,A,B,C,D,E,F,G,H,I,J]] (q62_1 t c e f g i j k l m n o p q r s d a) λb w=>asInt .i64 b λb=>ce w h.size 2 u (cf 103 #[iQ v,iQ b] w λb u=>C2 b λb=>B4 (pQ (some (aQ t.size))) (C4 u ⟨t.size,16,none⟩ (pQ b) λb=>I106 [] b))) (I106 [] (q62_1 t c e f g i j k l m n o p q r s d a)))/\(∀(a:F8) (a:A2),(I106 [] a)->(lI .i64 a ⟨h.size,1,none⟩ λb=>O0 λI135=>Hg λm136=>(I135 [tQ,iQ 0] a)/\(∀(a c:Value) (d:F8) (d:A2),(I135 [a,c] d)->(asInt .i64 c λe=>D0 (decide (e < b)) (asInt .i64 c λb=>B4 (pQ (some (aQ t.size))) (D1 d ⟨t.size,18,none⟩ λe=>C8 e λf g i=>D1 d ⟨h.size,3,none⟩ λj=>asInt .i64 j λk=>D1 d ⟨h.size,3,none⟩ λl=>asInt .i64 l λm=>D1 d ⟨h.size,3,none⟩ λn=>asInt .i64 n λo=>(Y5 Tryz.prog 178 k k d λp q=>C8 p λp r s=>ce q h.size 3 n (ce q h.size 3 l (ce q t.size 18 e ((Y5 Tryz.prog 178 m m q λu v=>C8 u λu w x=>ce v h.size 3 n (ce v h.size 3 j (ce v t.size 18 e (Y5 Tryz.prog 178 o o v λv y=>C8 v λv z A=>ce y h.size 3 l (ce y h.size 3 j (ce y t.size 18 e (ce (q62_2 y b p r s u w x v z A) t.size 18 e (((A3 (Array.push (q62_2 y b p r s u w x v z A) (oQ #[pQ (some (aQ y.size))] 176)) ⟨t.size,18,none⟩)=(some e))/\(T2 Tryz.prog #[120,120] 120 #[lQ f g i,lQ (some ⟨(q62_2 y b p r s u w x v z A).size,0,none⟩) 1 1] (Array.push (q62_2 y b p r s u w x v z A) (oQ #[pQ (some (aQ y.size))] 176)) λu v=>C8 u λu w x=>B4 (pQ (some (aQ t.size))) (C4 v ⟨t.size,18,none⟩ (lQ u w x) λu=>asInt .i64 c λv=>(I135 [iQ b,iQ (IntKind.wrap .i64 (v+1))] u)/\((m136 [iQ b,iQ (IntKind.wrap .i64 (v+1))] u) < (m136 [a,c] d))))))))))))/\(Y5 Tryz.prog 178 o o q λq u=>C8 q λq v w=>ce u h.size 3 l (ce u h.size 3 j (ce u t.size 18 e (Y5 Tryz.prog 178 m m u λu x=>C8 u λu y z=>ce x h.size 3 n (ce x h.size 3 j (ce x t.size 18 e (ce (q62_3 x b p r s u y z q v w) t.size 18 e (((A3 (Array.push (q62_3 x b p r s u y z q v w) (oQ #[pQ (some (aQ x.size))] 176)) ⟨t.size,18,none⟩)=(some e))/\(T2 Tryz.prog #[120,120] 120 #[lQ f g i,lQ (some ⟨(q62_3 x b p r s u y z q v w).size,0,none⟩) 1 1] (Array.push (q62_3 x b p r s u y z q v w) (oQ #[pQ (some (aQ x.size))] 176)) λp q=>C8 p λp r s=>B4 (pQ (some (aQ t.size))) (C4 q ⟨t.size,18,none⟩ (lQ p r s) λp=>asInt .i64 c λq=>(I135 [iQ b,iQ (IntKind.wrap .i64 (q+1))] p)/\((m136 [iQ b,iQ (IntKind.wrap .i64 (q+1))] p) < (m136 [a,c] d))))))))))))))))/\((Y5 Tryz.prog 178 m m d λp q=>C8 p λp r s=>ce q h.size 3 n (ce q h.size 3 j (ce q t.size 18 e ((Y5 Tryz.prog 178 k k q λu v=>C8 u λu w x=>ce v h.size 3 n (ce v h.size 3 l (ce v t.size 18 e (Y5 Tryz.prog 178 o o v λv y=>C8 v λv z A=>ce y h.size 3 l (ce y h.size 3 j (ce y t.size 18 e (ce (q62_4 y b u w x p r s v z A) t.size 18 e (((A3 (Array.push (q62_4 y b u w x p r s v z A) (oQ #[pQ (some (aQ y.size))] 176)) ⟨t.size,18,none⟩)=(some e))/\(T2 Tryz.prog #[120,120] 120 #[lQ f g i,lQ (some ⟨(q62_4 y b u w x p r s v z A).size,0,none⟩) 1 1] (Array.push (q62_4 y b u w x p r s v z A) (oQ #[pQ (some (aQ y.size))] 176)) λu v=>C8 u λu w x=>B4 (pQ (some (aQ t.size))) (C4 v ⟨t.size,18,none⟩ (lQ u w x) λu=>asInt .i64 c λv=>(I135 [iQ b,iQ (IntKind.wrap .i64 (v+1))] u)/\((m136 [iQ b,iQ (IntKind.wrap .i64 (v+1))] u) < (m136 [a,c] d))))))))))))/\(Y5 Tryz.prog 178 o o q λq u=>C8 q λq v w=>ce u h.size 3 l (ce u h.size 3 j (ce u t.size 18 e (Y5 Tryz.prog 178 k k u λu x=>C8 u λu y z=>ce x h.size 3 n (ce x h.size 3 l (ce x t.size 18 e (ce (q62_5 x b u y z p r s q v w) t.size 18 e (((A3 (Array.push (q62_5 x b u y z p r s q v w) (oQ #[pQ (some (aQ x.size))] 176)) ⟨t.size,18,none⟩)=(some e))/\(T2 Tryz.prog #[120,120] 120 #[lQ f g i,lQ (some ⟨(q62_5 x b u y z p r s q v w).size,0,none⟩) 1 1] (Array.push (q62_5 x b u y z p r s q v w) (oQ #[pQ (some (aQ x.size))] 176)) λp q=>C8 p λp r s=>B4 (pQ (some (aQ t.size))) (C4 q ⟨t.size,18,none⟩ (lQ p r s) λp=>asInt .i64 c λq=>(I135 [iQ b,iQ (IntKind.wrap .i64 (q+1))] p)/\((m136 [iQ b,iQ (IntKind.wrap .i64 (q+1))] p) < (m136 [a,c] d))))))))))))))))/\(Y5 Tryz.prog 178 o o d λo p=>C8 o λo q r=>ce p h.size 3 l (ce p h.size 3 j (ce p t.size 18 e ((Y5 Tryz.prog 178 k k p λs u=>C8 s λs v w=>ce u h.size 3 n (ce u h.size 3 l (ce u t.size 18 e (Y5 Tryz.prog 178 m m u λu x=>C8 u λu y z=>ce x h.size 3 n (ce x h.size 3 j (ce x t.size 18 e (ce (q62_6 x b s v w u y z o q r) t.size 18 e (((A3 (Array.push (q62_6 x b s v w u y z o q r) (oQ #[pQ (some (aQ x.size))] 176)) ⟨t.size,18,none⟩)=(some e))/\(T2 Tryz.prog #[120,120] 120 #[lQ f g i,lQ (some ⟨(q62_6 x b s v w u y z o q r).size,0,none⟩) 1 1] (Array.push (q62_6 x b s v w u y z o q r) (oQ #[pQ (some (aQ x.size))] 176)) λs u=>C8 s λs v w=>B4 (pQ (some (aQ t.size))) (C4 u ⟨t.size,18,none⟩ (lQ s v w) λs=>asInt .i64 c λu=>(I135 [iQ b,iQ (IntKind.wrap .i64 (u+1))] s)/\((m136 [iQ b,iQ (IntKind.wrap .i64 (u+1))] s) < (m136 [a,c] d))))))))))))/\(Y5 Tryz.prog 178 m m p λm p=>C8 m λm s u=>ce p h.size 3 n (ce p h.size 3 j (ce p t.size 18 e (Y5 Tryz.prog 178 k k p λj k=>C8 j λj p v=>ce k h.size 3 n (ce k h.size 3 l (ce k t.size 18 e (ce (q62_7 k b j p v m s u o q r) t.size 18 e (((A3 (Array.push (q62_7 k b j p v m s u o q r) (oQ #[pQ (some (aQ k.size))] 176)) ⟨t.size,18,none⟩)=(some e))/\(T2 Tryz.prog #[120,120] 120 #[lQ f g i,lQ (some ⟨(q62_7 k b j p v m s u o q r).size,0,none⟩) 1 1] (Array.push (q62_7 k b j p v m s u o q r) (oQ #[pQ (some (aQ k.size))] 176)) λe f=>C8 e λe g i=>B4 (pQ (some (aQ t.size))) (C4 f ⟨t.size,18,none⟩ (lQ e g i) λe=>asInt .i64 c λf=>(I135 [iQ b,iQ (IntKind.wrap .i64 (f+1))] e)/\((m136 [iQ b,iQ (IntKind.wrap .i64 (f+1))] e) < (m136 [a,c] d))))))))))))))))))) (K (.tuple #[pQ (some (aQ t.size)),iQ 0]) d))))))))))))))))))))))))
def F62 (K:kQ) (h:A2) (xa xb xc xd xe xf xg:Int) (xh:Option Addr) (xi xj:Nat) (xk:Bool):Prop:=
 (g62 K h (h.push (oQ #[iQ xa,iQ xb,iQ xc,iQ xd,iQ xe,iQ xf,iQ xg] 23)) xh xi xj xk)
theorem call62 {xa xb xc xd xe xf xg:Int} {xh:Option Addr} {xi xj:Nat} {xk:Bool} (H:F62 K h xa xb xc xd xe xf xg xh xi xj xk):A5 Tryz.prog 62 #[(.agg #[(iQ xa),(iQ xb),(iQ xc),(iQ xd),(iQ xe),(iQ xf),(iQ xg)]),(lQ xh xi xj),(dQ xk)] h K:=
 cQ Tryz.func62 H
def F32 (K:kQ) (h:A2) (xa:Option Addr):Prop:=
 (D0 (Option.isNone xa) (K (pQ none) h) (nP xa λa=>lP h (a.add 15) λa=>K (pQ a) h))
theorem call32 {xa:Option Addr} (H:F32 K h xa):A5 Tryz.prog 32 #[(pQ xa)] h K:=
 cQ Tryz.func32 H
abbrev g101 (K:kQ) (h H1:A2) (xa:Option Addr):Prop:=
 (Bs H1 h.size λa b c d e f g i j k l m n o p=>cf 139 #[.agg #[a,b,c,d,e,f,g,i,j,k,l,m,n,o,p]] H1 λa b=>asAgg a λa=>G0 a 7 (Nh a λa c d e f g i=>C4 (b.push (oQ NW 23)) (aQ b.size) a λa=>C4 a ⟨b.size,1,none⟩ c λa=>C4 a ⟨b.size,2,none⟩ d λa=>C4 a ⟨b.size,3,none⟩ e λa=>C4 a ⟨b.size,4,none⟩ f λa=>C4 a ⟨b.size,5,none⟩ g λa=>C4 a ⟨b.size,6,none⟩ i λa=>Bs a h.size λc d e f g i j k l m n o p q r=>cf 104 #[.agg #[c,d,e,f,g,i,j,k,l,m,n,o,p,q,r]] a λa c=>asInt .i64 a λa=>cf 141 #[iQ (IntKind.wrap .i64 (a+1))] c λc d=>asInt .u64 c λc=>cf 140 #[pQ xa,iQ 0,uQ c] d λc d=>asInt .i64 c λc=>O0 λI56=>Hg λm57=>(I56 [iQ (IntKind.wrap .i64 (a+1))] d)/\(∀(a:Value) (c:F8) (c:A2),(I56 [a] c)->(asInt .i64 a λd=>lI .i64 c ⟨b.size,2,none⟩ λe=>D0 (decide (d < e)) (Bs c h.size λd e f g i j k l m n o p q r s=>asInt .i64 a λt=>cf 142 #[.agg #[d,e,f,g,i,j,k,l,m,n,o,p,q,r,s],iQ t] c λd e=>asInt .i64 d λd=>asInt .i64 a λf=>cf 140 #[pQ xa,iQ d,uQ (IntKind.wrap .u64 (IntKind.wrap .i64 (f+1)))] e λd e=>asInt .i64 d λd=>asInt .i64 a λd=>(I56 [iQ (IntKind.wrap .i64 (d+1))] e)/\((m57 [iQ (IntKind.wrap .i64 (d+1))] e) < (m57 [a] c))) (cf 140 #[pQ xa,iQ 2,uQ 1] c λa c=>asInt .i64 a λa=>lI .i64 c (aQ b.size) λa=>D0 (a == 0) (K tQ c) (Bs c h.size λa d e f g i j k l m n o p q r=>D1 c ⟨b.size,3,none⟩ λs=>asInt .i64 s λt=>cf 143 #[.agg #[a,d,e,f,g,i,j,k,l,m,n,o,p,q,r],iQ 1,iQ 3] c λa c=>asInt .i64 a λa=>ce c b.size 3 s (cf 140 #[pQ xa,iQ a,uQ (IntKind.wrap .u64 t)] c λa c=>asInt .i64 a λa=>Bs c h.size λa d e f g i j k l m n o p q r=>cf 143 #[.agg #[a,d,e,f,g,i,j,k,l,m,n,o,p,q,r],iQ 2,iQ 0] c λa c=>asInt .i64 a λa=>cf 140 #[pQ xa,iQ a,uQ 18446744073709551615] c λa c=>asInt .i64 a λa=>lI .i64 c ⟨b.size,3,none⟩ λa=>O0 λI139=>Hg λm140=>(I139 [tQ,iQ 0] c)/\(∀(b c:Value) (d:F8) (d:A2),(I139 [b,c] d)->(asInt .i64 c λe=>D0 (decide (e < a)) (asInt .i64 c λa=>Bs d h.size λe f g i j k l m n o p q r s t=>cf 143 #[.agg #[e,f,g,i,j,k,l,m,n,o,p,q,r,s,t],iQ 1,iQ (IntKind.wrap .i64 (5+a))] d λe f=>asInt .i64 e λe=>cf 141 #[iQ 2] f λf g=>asInt .u64 f λf=>cf 140 #[pQ xa,iQ e,uQ f] g λe f=>asInt .i64 e λe=>asInt .i64 c λe=>(I139 [iQ a,iQ (IntKind.wrap .i64 (e+1))] f)/\((m140 [iQ a,iQ (IntKind.wrap .i64 (e+1))] f) < (m140 [b,c] d))) (K tQ d))))))))))
def F101 (K:kQ) (h:A2) (xa:Option Addr) (xb xc xd xe xf xg xh xi xj xk xl xm xn xo xp:Int):Prop:=
 (g101 K h (h.push (oQ #[iQ xb,iQ xc,iQ xd,iQ xe,iQ xf,iQ xg,iQ xh,iQ xi,iQ xj,iQ xk,iQ xl,iQ xm,iQ xn,iQ xo,iQ xp] 117)) xa)
theorem call101 {xa:Option Addr} {xb xc xd xe xf xg xh xi xj xk xl xm xn xo xp:Int} (H:F101 K h xa xb xc xd xe xf xg xh xi xj xk xl xm xn xo xp):A5 Tryz.prog 101 #[(pQ xa),(.agg #[(iQ xb),(iQ xc),(iQ xd),(iQ xe),(iQ xf),(iQ xg),(iQ xh),(iQ xi),(iQ xj),(iQ xk),(iQ xl),(iQ xm),(iQ xn),(iQ xo),(iQ xp)])] h K:=
 cQ Tryz.func101 H
def F196 (K:kQ) (h:A2) (xa:Option Addr) (xb:Int):Prop:=
 (O0 λI0=>(D0 (Option.isNone xa) (I0 [dQ true,dQ true] h) (D0 (decide (xb < 0)) (I0 [dQ (decide (xb < 0)),dQ true] h) (nP xa λa=>lS h (a.add 18) λa a b=>I0 [dQ (decide (xb < 0)),dQ (decide (xb >= (a:Int)))] h)))/\(∀(a b:Value) (c:F8) (c:A2),(I0 [a,b] c)->(asBool b λa=>D0 a (K (pQ none) c) (nP xa λa=>lS c (a.add 18) λa b d=>bd xb (b:Int) (E5 (pQ a) λa=>lP c (a.add (xb.toNat*1)) λa=>K (pQ a) c)))))
theorem call196 {xa:Option Addr} {xb:Int} (H:F196 K h xa xb):A5 Tryz.prog 196 #[(pQ xa),(iQ xb)] h K:=
 cQ Tryz.func196 H
def F130 (K:kQ) (h:A2) (xa:Option Addr) (xb:Int) (xc:Option Addr) (xd xe:Nat):Prop:=
 (D0 (Option.isNone xa) (K tQ h) (C4 (h.push (oQ #[iQ 0,iQ 0,uQ 0,uQ 0,uQ 0,uQ 0,uQ 0,uQ 0,uQ 0,uQ 0,uQ 0,uQ 0] 190)) (aQ h.size) (iQ xb) λa=>C4 a ⟨h.size,1,none⟩ (iQ 0) λa=>C4 a ⟨h.size,2,none⟩ (uQ 0) λa=>C4 a ⟨h.size,3,none⟩ (uQ 0) λa=>C4 a ⟨h.size,4,none⟩ (uQ 0) λa=>C4 a ⟨h.size,5,none⟩ (uQ 0) λa=>C4 a ⟨h.size,6,none⟩ (uQ 0) λa=>C4 a ⟨h.size,7,none⟩ (uQ 0) λa=>C4 a ⟨h.size,8,none⟩ (uQ 0) λa=>C4 a ⟨h.size,9,none⟩ (uQ 0) λa=>C4 a ⟨h.size,10,none⟩ (uQ 0) λa=>C4 a ⟨h.size,11,none⟩ (uQ 0) λa=>HO Tryz.prog #[123,123] 3 #[lQ (some (MP ⟨h.size,2,none⟩ 0 10 1)) 10 10,lQ xc xd xe] a λa b=>asInt .i64 a λa=>nP xa λa=>D1 b (a.add 1) λc=>C8 c λd e f=>SV4 b h.size λg i j k l m n o p q r s=>((A3 (b.push (oQ #[g,i,j,k,l,m,n,o,p,q,r,s] 190)) (a.add 1))=(some c))/\(T2 Tryz.prog #[177,177] 177 #[lQ d e f,lQ (some (aQ b.size)) 1 1] (b.push (oQ #[g,i,j,k,l,m,n,o,p,q,r,s] 190)) λa b=>C8 a λa c d=>nP xa λe=>C4 b (e.add 1) (lQ a c d) λa=>K tQ a)))
theorem call130 {xa:Option Addr} {xb:Int} {xc:Option Addr} {xd xe:Nat} (H:F130 K h xa xb xc xd xe):A5 Tryz.prog 130 #[(pQ xa),(iQ xb),(lQ xc xd xe)] h K:=
 cQ Tryz.func130 H
def F36 (K:kQ) (h:A2) (xa:Option Addr):Prop:=
 (D0 (!(Option.isNone xa)) (nP xa λa=>D1 h (a.add 20) λa=>asBool a λa=>D0 a (K (dQ true) h) (cf 71 #[pQ xa] h λa b=>asBool a λa=>D0 a (nP xa λa=>lP b (a.add 16) λa=>cf 72 #[pQ a] b λa c=>asAgg a λa=>G0 a 2 (de2 a λa d=>GL Tryz.prog 133 (.agg #[a,d]) (.agg #[iQ 0,iQ 0]) λa=>K (dQ (!a)) c)) (K (dQ false) b))) (K (dQ false) h))
theorem call36 {xa:Option Addr} (H:F36 K h xa):A5 Tryz.prog 36 #[(pQ xa)] h K:=
 cQ Tryz.func36 H
def F123 (K:kQ) (h:A2) (xa:Option Addr) (xb:Int) (xc:Value):Prop:=
 (cf 196 #[pQ xa,iQ xb] h λa b=>C2 a λa=>O0 λI3=>(D0 (Option.isNone a) (I3 [dQ true] b) (V7 xc λc=>I3 [dQ c] b))/\(∀(b:Value) (c:F8) (c:A2),(I3 [b] c)->(asBool b λb=>D0 b (K (dQ false) c) (nP xa λb=>C4 c (b.add 19) (dQ false) λb=>O0 λI11=>Hg λm12=>(I11 [] b)/\(∀(b:F8) (b:A2),(I11 [] b)->(O0 λI15=>(nP xa λc=>D1 b (c.add 19) λc=>asBool c λc=>D0 (!c) (nP a λc=>lS b (c.add 1) λc c d=>I15 [dQ (decide ((c:Int) > 0))] b) (I15 [dQ false] b))/\(∀(c:Value) (d:F8) (d:A2),(I15 [c] d)->(asBool c λc=>D0 c (AQ Tryz.prog xc #[pQ xa,pQ a] d λc c=>(I11 [] c)/\((m12 [] c) < (m12 [] b))) (nP a λa=>lS d (a.add 1) λa a b=>K (dQ (decide ((a:Int) > 0))) d)))))))))
theorem call123 {xa:Option Addr} {xb:Int} {xc:Value} (H:F123 K h xa xb xc):A5 Tryz.prog 123 #[(pQ xa),(iQ xb),xc] h K:=
 cQ Tryz.func123 H
def F105 (K:kQ) (h:A2) (xa:Option Addr):Prop:=
 (O0 λI0=>(D0 (Option.isNone xa) (I0 [dQ true] h) (nP xa λa=>lS h (a.add 1) λa a b=>I0 [dQ ((a:Int) == 0)] h))/\(∀(a:Value) (b:F8) (b:A2),(I0 [a] b)->(asBool a λa=>D0 a (K (pQ none) b) (nP xa λa=>lS b (a.add 1) λa c d=>nP xa λd=>lS b (d.add 1) λd d e=>((0:Int)<=(IntKind.wrap .i64 ((d:Int) - 1)))/\((((IntKind.wrap .i64 ((d:Int) - 1)):Int) < (c:Int))/\(E5 (pQ a) λa=>K (pQ (some (a.add ((IntKind.wrap .i64 ((d:Int) - 1)).toNat*12)))) b))))))
theorem call105 {xa:Option Addr} (H:F105 K h xa):A5 Tryz.prog 105 #[(pQ xa)] h K:=
 cQ Tryz.func105 H
def F106 (K:kQ) (h:A2) (xa xb:Option Addr) (xc xd:Nat):Prop:=
 (O0 λI0=>(D0 (Option.isNone xa) (I0 [dQ true] h) (nP xa λa=>lS h (a.add 1) λa a b=>I0 [dQ ((a:Int) == 0)] h))/\(∀(a:Value) (b:F8) (b:A2),(I0 [a] b)->(asBool a λa=>D0 a (K tQ b) (nP xa λa=>lS b (a.add 1) λa c c=>nP xa λd=>lS b (d.add 1) λd d e=>((0:Int)<=(IntKind.wrap .i64 ((d:Int) - 1)))/\((((IntKind.wrap .i64 ((d:Int) - 1)):Int)<=(c:Int))/\(nP xa λe=>C4 b (e.add 1) (lQ (FD a 0 c 12) ((IntKind.wrap .i64 ((d:Int) - 1)).toNat - 0) (c - 0)) λa=>nP xa λb=>C4 a (b.add 2) (uQ 0) λa=>C4 a (b.add 3) (uQ 0) λa=>C4 a (b.add 4) (uQ 0) λa=>nP xa λb=>HO Tryz.prog #[123,123] 3 #[lQ (some (MP (b.add 2) 0 3 1)) 3 3,lQ xb xc xd] a λa b=>asInt .i64 a λa=>K tQ b))))))
theorem call106 {xa xb:Option Addr} {xc xd:Nat} (H:F106 K h xa xb xc xd):A5 Tryz.prog 106 #[(pQ xa),(lQ xb xc xd)] h K:=
 cQ Tryz.func106 H
def F141 (K:kQ) (h:A2) (xa:Int):Prop:=
 (cf 206 #[iQ xa,dQ false,uQ 0] h λa b=>J6 a λc=>D2 c 0 λc=>asInt .u64 c λc=>J6 a λa=>D2 a 1 λa=>asInt .i64 a λa=>K (uQ c) b)
theorem call141 {xa:Int} (H:F141 K h xa):A5 Tryz.prog 141 #[(iQ xa)] h K:=
 cQ Tryz.func141 H
def F71 (K:kQ) (h:A2) (xa:Option Addr):Prop:=
 (D0 (!(Option.isNone xa)) (nP xa λa=>lP h (a.add 16) λa=>K (dQ (!(Option.isNone a))) h) (K (dQ false) h))
theorem call71 {xa:Option Addr} (H:F71 K h xa):A5 Tryz.prog 71 #[(pQ xa)] h K:=
 cQ Tryz.func71 H
def F147 (K:kQ) (h:A2) (xa:Option Addr) (xb:Int):Prop:=
 (cf 208 #[pQ xa,lQ (some (aQ h.size)) 1 1] (h.push (oQ #[iQ xb] 3)) λa b=>asBool a λa=>D0 (!a) (K (uQ 0) b) (nP xa λa=>lP b (a.add 15) λa=>cf 209 #[pQ a,iQ xb] b λa b=>J6 a λc=>D2 c 0 λc=>asInt .u64 c λc=>J6 a λa=>D2 a 1 λa=>asInt .i64 a λa=>cf 210 #[pQ xa,iQ a] b λa a=>K (uQ c) a))
theorem call147 {xa:Option Addr} {xb:Int} (H:F147 K h xa xb):A5 Tryz.prog 147 #[(pQ xa),(iQ xb)] h K:=
 cQ Tryz.func147 H
def F188 (K:kQ) (h:A2) (xa:Option Addr) (xb xc:Int):Prop:=
 (cf 208 #[pQ xa,lQ (some (aQ h.size)) 1 1] (h.push (oQ #[iQ xb] 3)) λa b=>asBool a λa=>D0 (!a) (K (uQ 0) b) (nP xa λa=>lP b (a.add 15) λa=>cf 272 #[pQ a,iQ xb,uQ xc] b λa b=>J6 a λc=>D2 c 0 λc=>asInt .u64 c λc=>J6 a λa=>D2 a 1 λa=>asInt .i64 a λa=>cf 210 #[pQ xa,iQ a] b λa a=>K (uQ c) a))
theorem call188 {xa:Option Addr} {xb xc:Int} (H:F188 K h xa xb xc):A5 Tryz.prog 188 #[(pQ xa),(iQ xb),(uQ xc)] h K:=
 cQ Tryz.func188 H
abbrev g79 (K:kQ) (h H1:A2) (xa:Option Addr):Prop:=
 (D0 (Option.isNone xa) (Vc H1 h.size (iQ 0) (iQ 0) (iQ 0) (iQ 0) (iQ 0) (iQ 0) (iQ 0) (iQ 0) (iQ 0) (iQ 0) (iQ 0) (iQ 0) (iQ 0) (iQ 0) (iQ 0) λa=>Bs a h.size λb c d e f g i j k l m n o p q=>K (.agg #[b,c,d,e,f,g,i,j,k,l,m,n,o,p,q]) a) (nP xa λa=>SF3 H1 a λa b c d e f g i j k l m n o p=>Vc H1 h.size a b c d e f g i j k l m n o p λa=>Bs a h.size λb c d e f g i j k l m n o p q=>K (.agg #[b,c,d,e,f,g,i,j,k,l,m,n,o,p,q]) a))
def F79 (K:kQ) (h:A2) (xa:Option Addr):Prop:=
 (g79 K h (h.push (oQ Ae 117)) xa)
theorem call79 {xa:Option Addr} (H:F79 K h xa):A5 Tryz.prog 79 #[(pQ xa)] h K:=
 cQ Tryz.func79 H
def F212 (K:kQ) (h:A2) (xa:Option Addr) (xb xc:Int):Prop:=
 (cf 208 #[pQ xa,lQ (some (aQ h.size)) 1 1] (h.push (oQ #[iQ xb] 3)) λa b=>asBool a λa=>D0 a (nP xa λa=>lP b (a.add 15) λa=>cf 140 #[pQ a,iQ xb,uQ xc] b λa c=>asInt .i64 a λa=>cf 210 #[pQ xa,iQ a] c λa a=>K tQ a) (K tQ b))
theorem call212 {xa:Option Addr} {xb xc:Int} (H:F212 K h xa xb xc):A5 Tryz.prog 212 #[(pQ xa),(iQ xb),(uQ xc)] h K:=
 cQ Tryz.func212 H
def F214 (K:kQ) (h:A2) (xa:Option Addr):Prop:=
 (D0 (Option.isNone xa) (K (pQ none) h) (nP xa λa=>lP h (a.add 17) λa=>K (pQ a) h))
theorem call214 {xa:Option Addr} (H:F214 K h xa):A5 Tryz.prog 214 #[(pQ xa)] h K:=
 cQ Tryz.func214 H
def F219 (K:kQ) (h:A2) (xa:Option Addr) (xb xc xd:Int):Prop:=
 (cf 208 #[pQ xa,lQ (some (aQ h.size)) 1 1] (h.push (oQ #[iQ xb] 3)) λa b=>asBool a λa=>D0 (!a) (K (dQ false) b) (nP xa λa=>lP b (a.add 15) λa=>cf 281 #[pQ a,iQ xb,uQ xc,uQ xd] b λa b=>J6 a λc=>D2 c 0 λc=>asBool c λc=>J6 a λa=>D2 a 1 λa=>asInt .i64 a λa=>cf 210 #[pQ xa,iQ a] b λa a=>K (dQ c) a))
theorem call219 {xa:Option Addr} {xb xc xd:Int} (H:F219 K h xa xb xc xd):A5 Tryz.prog 219 #[(pQ xa),(iQ xb),(uQ xc),(uQ xd)] h K:=
 cQ Tryz.func219 H
def F208 (K:kQ) (h:A2) (xa xb:Option Addr) (xc xd:Nat):Prop:=
 (D0 (Option.isNone xa) (K (dQ false) h) (nP xa λa=>C4 h (a.add 19) (dQ true) λa=>O0 λI2=>Hg λm3=>(I2 [tQ,tQ,tQ,tQ,iQ 0,tQ] a)/\(∀(a b c d e f:Value) (g:F8) (g:A2),(I2 [a,b,c,d,e,f] g)->(asInt .i64 e λi=>D0 (decide (i < ((xc:Nat):Int))) (Gv e λi=>bd i ((xc:Nat):Int) (E5 (pQ xb) λj=>lI .i64 g (j.add (i.toNat*1)) λi=>nP xa λj=>SF3 g j λj k l m n o p q r s t u v w x=>cf 80 #[.agg #[j,k,l,m,n,o,p,q,r,s,t,u,v,w,x],iQ i] g λj k=>J6 j λl=>D2 l 0 λl=>asInt .i64 l λl=>J6 j λm=>D2 m 1 λm=>asInt .i64 m λm=>J6 j λn=>D2 n 2 λn=>asInt .i64 n λn=>O0 λI44=>(D0 (l == 3) (nP xa λo=>lP k (o.add 16) λo=>I44 [dQ (!(Option.isNone o))] k) (I44 [dQ false] k))/\(∀(k:Value) (o:F8) (o:A2),(I44 [k] o)->(asBool k λk=>D0 k (nP xa λk=>lP o (k.add 16) λk=>cf 279 #[pQ k,iQ m] o λk p=>asBool k λk=>asInt .i64 e λk=>(I2 [iQ i,iQ l,iQ m,iQ n,iQ (IntKind.wrap .i64 (k+1)),j] p)/\((m3 [iQ i,iQ l,iQ m,iQ n,iQ (IntKind.wrap .i64 (k+1)),j] p) < (m3 [a,b,c,d,e,f] g))) (asInt .i64 e λk=>(I2 [iQ i,iQ l,iQ m,iQ n,iQ (IntKind.wrap .i64 (k+1)),j] o)/\((m3 [iQ i,iQ l,iQ m,iQ n,iQ (IntKind.wrap .i64 (k+1)),j] o) < (m3 [a,b,c,d,e,f] g))))))) (K (dQ true) g)))))
theorem call208 {xa xb:Option Addr} {xc xd:Nat} (H:F208 K h xa xb xc xd):A5 Tryz.prog 208 #[(pQ xa),(lQ xb xc xd)] h K:=
 cQ Tryz.func208 H
def F210 (K:kQ) (h:A2) (xa:Option Addr) (xb:Int):Prop:=
 (nP xa λa=>D1 h (a.add 20) λa=>asBool a λa=>D0 a (nP xa λa=>C4 h (a.add 20) (dQ true) λa=>K tQ a) (nP xa λa=>C4 h (a.add 20) (dQ (xb != 0)) λa=>K tQ a))
theorem call210 {xa:Option Addr} {xb:Int} (H:F210 K h xa xb):A5 Tryz.prog 210 #[(pQ xa),(iQ xb)] h K:=
 cQ Tryz.func210 H
def F227 (K:kQ) (h:A2) (xa:Option Addr) (xb xc xd xe xf:Int):Prop:=
 (cf 208 #[pQ xa,lQ (some (aQ h.size)) 2 2] (h.push (oQ #[iQ xb,iQ xe] 3)) λa b=>asBool a λa=>D0 (!a) (K (dQ false) b) (nP xa λa=>lP b (a.add 15) λa=>cf 284 #[pQ a,iQ xb,uQ xc,uQ xd,iQ xe,uQ xf] b λa b=>J6 a λc=>D2 c 0 λc=>asBool c λc=>J6 a λa=>D2 a 1 λa=>asInt .i64 a λa=>cf 210 #[pQ xa,iQ a] b λa a=>K (dQ c) a))
theorem call227 {xa:Option Addr} {xb xc xd xe xf:Int} (H:F227 K h xa xb xc xd xe xf):A5 Tryz.prog 227 #[(pQ xa),(iQ xb),(uQ xc),(uQ xd),(iQ xe),(uQ xf)] h K:=
 cQ Tryz.func227 H
def F229 (K:kQ) (h:A2) (xa:Option Addr) (xb xc xd xe xf xg:Int):Prop:=
 (cf 208 #[pQ xa,lQ (some (aQ h.size)) 2 2] (h.push (oQ #[iQ xb,iQ xe] 3)) λa b=>asBool a λa=>D0 (!a) (K (dQ false) b) (nP xa λa=>lP b (a.add 15) λa=>cf 286 #[pQ a,iQ xb,uQ xc,uQ xd,iQ xe,uQ xf,uQ xg] b λa b=>J6 a λc=>D2 c 0 λc=>asBool c λc=>J6 a λa=>D2 a 1 λa=>asInt .i64 a λa=>cf 210 #[pQ xa,iQ a] b λa a=>K (dQ c) a))
theorem call229 {xa:Option Addr} {xb xc xd xe xf xg:Int} (H:F229 K h xa xb xc xd xe xf xg):A5 Tryz.prog 229 #[(pQ xa),(iQ xb),(uQ xc),(uQ xd),(iQ xe),(uQ xf),(uQ xg)] h K:=
 cQ Tryz.func229 H
def F234 (K:kQ) (h:A2) (xa:Option Addr) (xb:Int):Prop:=
 (cf 71 #[pQ xa] h λa b=>asBool a λa=>D0 a (nP xa λa=>lP b (a.add 16) λa=>cf 288 #[pQ a,iQ xb] b λa c=>asBool a λa=>K tQ c) (K tQ b))
theorem call234 {xa:Option Addr} {xb:Int} (H:F234 K h xa xb):A5 Tryz.prog 234 #[(pQ xa),(iQ xb)] h K:=
 cQ Tryz.func234 H
def F294 (K:kQ) (h:A2) (xa:Option Addr) (xb:Int):Prop:=
 (cf 71 #[pQ xa] h λa b=>asBool a λa=>D0 a (nP xa λa=>lP b (a.add 16) λa=>cf 306 #[pQ a,iQ xb] b λa c=>asBool a λa=>K tQ c) (K tQ b))
theorem call294 {xa:Option Addr} {xb:Int} (H:F294 K h xa xb):A5 Tryz.prog 294 #[(pQ xa),(iQ xb)] h K:=
 cQ Tryz.func294 H
def F295 (K:kQ) (h:A2) (xa:Option Addr) (xb:Int):Prop:=
 (cf 71 #[pQ xa] h λa b=>asBool a λa=>D0 a (nP xa λa=>lP b (a.add 16) λa=>cf 307 #[pQ a,iQ xb] b λa c=>asBool a λa=>K tQ c) (K tQ b))
theorem call295 {xa:Option Addr} {xb:Int} (H:F295 K h xa xb):A5 Tryz.prog 295 #[(pQ xa),(iQ xb)] h K:=
 cQ Tryz.func295 H
end
section
open Mod
variable {K:kQ} {h:A2}
abbrev mP (M:Nat):Value:=pQ (some (aQ M))
def ghV (g:Option Gh) (q:Nat):Value:=pQ (if g.isSome then some (aQ q) else none)
abbrev Ij (tv:Value) (q gq fq:Nat) (s:Mac):List Value:=[iQ s.p.c.algo,iQ s.p.c.threads,iQ s.p.c.nodes,iQ s.p.c.level,iQ s.p.c.batch,iQ s.p.c.probes,iQ s.p.c.scan,iQ s.p.slots,iQ s.p.width,iQ s.p.sent,iQ s.p.hazards,iQ s.p.links,iQ s.p.nodes,iQ s.p.tree,iQ s.p.size,
 mP q,ghV s.g gq,mP fq,tv,dQ s.acted,dQ s.bad]
def M3 (M:Nat) (tv:Value) (s:Mac):Hp:=ex λq=>ex λgq=>ex λfq=>pr (Me s.p) (pt M (oQ (Ij tv q gq fq s).toArray 122)*(O9 q s.mm*(OK s.g gq*Mw fq s.b s.used)))
theorem J9 {h:A2} {M:Nat} {tv:Value} {s:Mac} {R:Hp}:A7 h (M3 M tv s*R)↔∃q gq fq,Me s.p/\A7 h (pt M (oQ (Ij tv q gq fq s).toArray 122)*(O9 q s.mm*(OK s.g gq*(Mw fq s.b s.used*R)))):=by
 unfold M3
 simp only [A7.ex,A7.pr,E7]
theorem XW {h:A2} {M:Nat} {tv:Value} {s:Mac} {R:Hp} (H:A7 h (M3 M tv s*R)):Me s.p:=by obtain ⟨_,_,_,x,_⟩:=J9.1 H;exact x
theorem W6 {M:Nat} {tv:Value} {s:Mac} {R:Hp} {e:Int} (H:A7 h (M3 M tv s*R)) (k:∀h',A7 h' (M3 M tv { s with bad:=s.bad || decide (e≠0) }*R)->K tQ h') :
  A5 Tryz.prog 210 #[mP M,iQ e] h K:=by
 refine call210 ?_
 unfold F210 nP
 obtain ⟨q,gq,fq,B,H0⟩:=J9.1 H
 simp only [B4,C9,E1]
 refine H0.ld rfl ?_
 simp only [B6]
 have fin:∀(bb:Bool),bb=(s.bad || decide (e≠0))->C4 h ⟨M,0+20,none⟩ (dQ bb) (λh'=>K tQ h'):=by
  intro bb hb
  refine H0.st rfl trivial λh' H'=>k h' (J9.2 ⟨q,gq,fq,B,?_⟩)
  rw [<- hb];exact H'
 refine C7 (λhb=>fin true (by rw [hb];rfl)) (λhb=>fin (e != 0) (by
  rw [hb,Bool.false_or,Bool.eq_iff_iff,bne_iff_ne,decide_eq_true_iff]))
theorem Kk (s:Mac) (a:Int):(s.touch a).acted=true:=by unfold Mac.touch;split <;> rfl
theorem Rm (s:Mac) (l:List Int) (h:s.acted=true):(l.foldl Mac.touch s).acted=true:=by
 induction l generalizing s with
 | nil=>exact h
 | cons a l ih=>exact ih _ (Kk s a)
theorem Nn (s:Mac) (a:Int):({ s with acted:=true }:Mac).touch a=s.touch a:=by
 unfold Mac.touch
 cases h:s.p.within a <;> simp [h]
theorem Bd (s:Mac) (a:Int):(s.touch a).mm=s.mm/\(s.touch a).bad=s.bad/\(s.touch a).b=s.b/\(s.touch a).used=s.used/\(s.touch a).th=s.th:=by unfold Mac.touch;split <;> exact ⟨rfl,rfl,rfl,rfl,rfl⟩
theorem Zr {p:Pl} (B:Me p) {x n:Int} (hx:iN x) (hw:p.within x=some n):iN n:=by
 have b1:=B.wi
 have b3:=B.tr
 have b4:=B.nd
 have b5:=B.li
 unfold Pl.within at hw
 split at hw
 ·rename_i hh
  cases hw
  have hd0:0<=(x - p.nodes) / p.width:=Int.ediv_nonneg (by omega) (by omega)
  have hd1:(x - p.nodes) / p.width<=x - p.nodes:=Int.ediv_le_self _ (by omega)
  exact ⟨by omega,by omega⟩
 ·cases hw
theorem Li {M N:Nat} {tv:Value} {s:Mac} {R:Hp} {ty:TypeId} {l:Nat} {xs:List Int} (H:A7 h (M3 M tv s*(pt N (oQ (xs.map iv).toArray ty)*R))) (hl:xs.length=l) (hl2:l<=2) (hx:∀x ∈ xs,iN x)
  (k:∀h',A7 h' (M3 M tv (xs.foldl Mac.touch { s with acted:=true })*R)->K (dQ true) h') :
  A5 Tryz.prog 208 #[mP M,lQ (some (aQ N)) l l] h K:=by
 refine call208 ?_
 unfold F208 cf bd lP lI nP SF3
 obtain ⟨q,gq,fq,B,H0⟩:=J9.1 H
 simp only [Option.isNone_some,E2,B4,C9,E1]
 refine H0.st rfl trivial λh1 H01=>?_
 have H1:A7 h1 (M3 M tv { s with acted:=true }*(pt N (oQ (xs.map iv).toArray ty)*R)):=J9.2 ⟨q,gq,fq,B,H01⟩
 generalize hs0:({ s with acted:=true }:Mac)=s0 at *
 have hac:s0.acted=true:=by rw [<- hs0]
 refine ⟨λvs h'=>∃w1 w2 w3 w4 w5,∃i:Nat,vs = [w1,w2,w3,w4,iv i,w5]/\i<=l/\A7 h' (M3 M tv ((xs.take i).foldl Mac.touch s0)*(pt N (.cells (xs.map iv).toArray ty)*R)),λvs _=>(match vs with | [_,_,_,_,.int _ n,_]=>l - n.toNat | _=>0),⟨_,_,_,_,_,0,rfl,Nat.zero_le _,H1⟩,?_⟩
 rintro v4 v5 v6 v7 v8 v9 g10 h11 ⟨w1,w2,w3,w4,w5,i,e,hi,H11⟩
 cases e
 simp only [A6,EX]
 refine A4 (λhlt=>?_) (λhge=>?_)
 rotate_left
 ·rw [List.take_of_length_le (by omega)] at H11
  exact k h11 H11.drop2
 have hi':i < xs.length:=by omega
 have htk:(xs.take (i+1)).foldl Mac.touch s0=((xs.take i).foldl Mac.touch s0).touch xs[i]:=by rw [List.take_succ_eq_append_getElem hi',List.foldl_append];rfl
 have hxi:=hx _ (List.getElem_mem hi')
 have hact:=Rm s0 (xs.take i) hac
 have hcell:A3 h11 ⟨N,i,none⟩=some (iv xs[i]):=by rw [E0 H11.at2];simp [hi']
 generalize (xs.take i).foldl Mac.touch s0=t at *
 generalize xs[i]=x at *
 refine ⟨by omega,hlt,?_⟩
 simp only [C9,Int.toNat_natCast,Nat.mul_one]
 rw [show 0+i=i by omega]
 refine D3 hcell ?_
 simp only [A6]
 obtain ⟨q,gq,fq,B,H12⟩:=J9.1 H11
 have O:=H12.at
 refine C5 O rfl (C5 O rfl (C5 O rfl (C5 O rfl (C5 O rfl (C5 O rfl (C5 O rfl (C5 O rfl (C5 O rfl (C5 O rfl (C5 O rfl (C5 O rfl (C5 O rfl (C5 O rfl (C5 O rfl ?_))))))))))))))
 have back:∀ {v1 v2 v3 v4 v5:Value} (h2:A2),A7 h2 (M3 M tv (t.touch x)*(pt N (oQ (xs.map iv).toArray ty)*R))->(∃w1 w2 w3 w4 w5,∃i2:Nat,[v1,v2,v3,v4,Value.int .i64 (IntKind.wrap .i64 ((i:Int)+1)),v5] = [w1,w2,w3,w4,iv i2,w5]/\i2<=l/\A7 h2 (M3 M tv ((xs.take i2).foldl Mac.touch s0)*(pt N (oQ (xs.map iv).toArray ty)*R))):=by
  intro v1 v2 v3 v4 v5 h2 H2
  rw [Ac (by omega)]
  exact ⟨_,_,_,_,_,i+1,rfl,by omega,by rw [htk];exact H2⟩
 have dec:(l - (IntKind.wrap .i64 ((i:Int)+1)).toNat) < l - (i:Int).toNat:=by
  rw [Ac (by omega)];omega
 refine A0 (OG B hxi (λn y h34 hw o34=>?_) (λqk n y h34 hw hq o34=>?_))
 ·simp only [L9]
  refine E6 rfl ?_
  simp only [A6]
  refine E6 rfl ?_
  simp only [A6]
  refine E6 rfl ?_
  simp only [A6]
  have H34:=H12.old o34
  have hnB:=Zr B hxi hw
  refine ⟨λvs h'=>vs = [dQ t.g.isSome]/\h' = h34,?_,?_⟩
  ·rw [show ((3:Int) == 3)=true from rfl]
   simp only [G2]
   refine H34.ld rfl ?_
   unfold ghV
   simp only [L8]
   refine ⟨?_,by trivial⟩
   cases t.g <;> rfl
  rintro v48 g49 h50 ⟨e,rfl⟩
  cases e
  simp only [B6]
  cases hg:t.g with
  | none=>
   simp only [Option.isSome_none,E2]
   have et:t.touch x=t:=by unfold Mac.touch;rw [hw];cases t;simp_all
   exact ⟨back h50 (by rw [et];exact J9.2 ⟨q,gq,fq,B,H34⟩),dec⟩
  | some g=>
   simp only [Option.isSome_some,G2]
   refine H34.ld rfl ?_
   unfold ghV
   simp only [hg,Option.isSome_some,if_true,L8]
   rw [hg] at H34
   rw [Hr] at H34
   refine A0 (OL H34 hnB λbb h56 G56=>?_)
   simp only [B6]
   have et:t.touch x = { t with g:=some (g.touch n) }:=by unfold Mac.touch;rw [hw];cases t;simp_all
   refine ⟨back h56 ?_,dec⟩
   rw [et]
   refine J9.2 ⟨q,gq,fq,B,?_⟩
   rw [Hr]
   have eC:Ij tv q gq fq ({ t with g:=some (g.touch n) }:Mac)=Ij tv q gq fq t:=by
    unfold Ij ghV
    simp only [hg,Option.isSome_some]
   rw [eC]
   exact G56
 ·simp only [L9]
  refine E6 rfl ?_
  simp only [A6]
  refine E6 rfl ?_
  simp only [A6]
  refine E6 rfl ?_
  simp only [A6]
  have H34:=H12.old o34
  refine ⟨λvs h'=>vs = [dQ false]/\h' = h34,?_,?_⟩
  ·rw [show (qk == 3)=false by rw [beq_eq_false_iff_ne];exact hq]
   exact ⟨rfl,by trivial⟩
  rintro v48 g49 h50 ⟨e,rfl⟩
  cases e
  simp only [B6,E2]
  have et:t.touch x=t:=by unfold Mac.touch;rw [hw];cases t;simp_all
  exact ⟨back h50 (by rw [et];exact J9.2 ⟨q,gq,fq,B,H34⟩),dec⟩
theorem Ee {M:Nat} {tv:Value} {s:Mac} {R:Hp} {a:Int} (H:A7 h (M3 M tv s*R)) (ha:iN a)
  (k:∀h',A7 h' (M3 M tv (s.touch a)*R)->K (dQ true) h') :
  A5 Tryz.prog 208 #[mP M,lQ (some (aQ h.size)) 1 1] (h.push (oQ #[iQ a] 3)) K:=by
 have H1:=H.push (oQ ([a].map iv).toArray 3)
 rw [D4] at H1
 refine Li (xs:=[a]) H1 rfl (by omega) (λx hx=>by rw [List.mem_singleton.1 hx];exact ha) λh' H'=>?_
 rw [List.foldl_cons,List.foldl_nil,Nn] at H'
 exact k h' H'
theorem Jz {M:Nat} {tv:Value} {s:Mac} {R:Hp} {a b:Int} (H:A7 h (M3 M tv s*R)) (ha:iN a) (hb:iN b)
  (k:∀h',A7 h' (M3 M tv ((s.touch a).touch b)*R)->K (dQ true) h') :
  A5 Tryz.prog 208 #[mP M,lQ (some (aQ h.size)) 2 2] (h.push (oQ #[iQ a,iQ b] 3)) K:=by
 have H1:=H.push (oQ ([a,b].map iv).toArray 3)
 rw [D4] at H1
 refine Li (xs:=[a,b]) H1 rfl (by omega) (λx hx=>?_) λh' H'=>?_
 ·simp only [List.mem_cons,List.not_mem_nil,or_false] at hx
  rcases hx with rfl | rfl
  ·exact ha
  ·exact hb
 ·rw [List.foldl_cons,List.foldl_cons,List.foldl_nil,Nn] at H'
  exact k h' H'
theorem Dt {h:A2} {M:Nat} {tv:Value} {s:Mac} {R:Hp} (H:A7 h (M3 M tv s*R)):∃q R',A3 h ⟨M,15,none⟩=some (mP q)/\A7 h (O9 q s.mm*R')/\∀h' m',A7 h' (O9 q m' * R')->A7 h' (M3 M tv (s.setM m')*R):=by
 obtain ⟨q,gq,fq,B,H0⟩:=J9.1 H
 refine ⟨q,_,E9 H0.at rfl,D4 _ _ _ ▸ H0,λh' m' H'=>J9.2 ⟨q,gq,fq,B,?_⟩⟩
 rw [D4] at H'
 exact H'
theorem Lj {M:Nat} {tv:Value} {s:Mac} {R:Hp} {a:Int} (H:A7 h (M3 M tv s*R)) (ha:iN a) (hs:s.mm.st < 1099511627776)
  (k:∀h',A7 h' (M3 M tv (s.load a).2*R)->U (s.load a).1->K (uQ (s.load a).1) h') :
  A5 Tryz.prog 147 #[mP M,iQ a] h K:=by
 refine call147 ?_
 unfold F147 cf lP nP
 refine A0 (Ee H ha λh1 H1=>?_)
 simp only [B6,Bool.not_true,E2,B4,C9,E1]
 obtain ⟨q,R',e0,HM,re⟩:=Dt H1
 refine D3 e0 ?_
 simp only [L8]
 unfold Mac.load at k
 rw [<- (Bd s a).1] at hs
 have BU:=(Sp6 HM).get a
 generalize s.touch a=t at *
 refine A0 (Vn HM hs (λhok h7 H7=>?_) (λhok h7 H7=>?_))
 ·simp only [L9]
  refine E6 rfl ?_
  simp only [A6]
  refine E6 rfl ?_
  simp only [A6]
  refine A0 (W6 (re h7 _ H7) λh15 H15=>?_)
  simp only [hok,if_true] at k
  exact k h15 (by simpa using H15) BU
 ·simp only [L9]
  refine E6 rfl ?_
  simp only [A6]
  refine E6 rfl ?_
  simp only [A6]
  refine A0 (W6 (re h7 _ H7) λh15 H15=>?_)
  simp only [hok,Bool.false_eq_true,if_false] at k
  exact k h15 (by simpa [Mac.fail,Mac.setM] using H15) ⟨by omega,by omega⟩
theorem Rn {M:Nat} {tv:Value} {s:Mac} {R:Hp} {a v:Int} (H:A7 h (M3 M tv s*R)) (ha:iN a) (hv:U v) (hs:s.mm.st < 1099511627776)
  (k:∀h',A7 h' (M3 M tv (s.store a v)*R)->K tQ h') :
  A5 Tryz.prog 212 #[mP M,iQ a,uQ v] h K:=by
 refine call212 ?_
 unfold F212 cf lP nP
 refine A0 (Ee H ha λh1 H1=>?_)
 simp only [B6,G2,B4,C9,E1]
 obtain ⟨q,R',e0,HM,re⟩:=Dt H1
 refine D3 e0 ?_
 simp only [L8]
 unfold Mac.store at k
 rw [<- (Bd s a).1] at hs
 generalize s.touch a=t at *
 refine A0 (Jy HM hv hs (λhok h7 H7=>?_) (λhok h7 H7=>?_))
 ·simp only [A6]
  refine A0 (W6 (re h7 _ H7) λh15 H15=>?_)
  simp only [hok,if_true] at k
  exact k h15 (by simpa using H15)
 ·simp only [A6]
  refine A0 (W6 (re h7 _ H7) λh15 H15=>?_)
  simp only [hok,Bool.false_eq_true,if_false] at k
  exact k h15 (by simpa [Mac.fail,Mac.setM] using H15)
theorem Zs {M:Nat} {tv:Value} {s:Mac} {R:Hp} {a o n:Int} (H:A7 h (M3 M tv s*R)) (ha:iN a) (hn:U n) (hs:s.mm.st < 1099511627776)
  (k:∀h',A7 h' (M3 M tv (s.cas a o n).2*R)->K (dQ (s.cas a o n).1) h') :
  A5 Tryz.prog 219 #[mP M,iQ a,uQ o,uQ n] h K:=by
 refine call219 ?_
 unfold F219 cf lP nP
 refine A0 (Ee H ha λh1 H1=>?_)
 simp only [B6,Bool.not_true,E2,B4,C9,E1]
 obtain ⟨q,R',e0,HM,re⟩:=Dt H1
 refine D3 e0 ?_
 simp only [L8]
 unfold Mac.cas at k
 rw [<- (Bd s a).1] at hs
 generalize s.touch a=t at *
 refine A0 (Zo HM hn hs (λhok h7 H7=>?_) (λhok h7 H7=>?_))
 ·simp only [L9]
  refine E6 rfl ?_
  simp only [B6]
  refine E6 rfl ?_
  simp only [A6]
  refine A0 (W6 (re h7 _ H7) λh15 H15=>?_)
  simp only [hok,if_true] at k
  exact k h15 (by simpa using H15)
 ·simp only [L9]
  refine E6 rfl ?_
  simp only [B6]
  refine E6 rfl ?_
  simp only [A6]
  refine A0 (W6 (re h7 _ H7) λh15 H15=>?_)
  simp only [hok,Bool.false_eq_true,if_false] at k
  exact k h15 (by simpa [Mac.fail,Mac.setM] using H15)
theorem Zt {M:Nat} {tv:Value} {s:Mac} {R:Hp} {a d:Int} (H:A7 h (M3 M tv s*R)) (ha:iN a) (hs:s.mm.st < 1099511627776)
  (k:∀h',A7 h' (M3 M tv (s.add a d).2*R)->U (s.add a d).1->K (uQ (s.add a d).1) h') :
  A5 Tryz.prog 188 #[mP M,iQ a,uQ d] h K:=by
 refine call188 ?_
 unfold F188 cf lP nP
 refine A0 (Ee H ha λh1 H1=>?_)
 simp only [B6,Bool.not_true,E2,B4,C9,E1]
 obtain ⟨q,R',e0,HM,re⟩:=Dt H1
 refine D3 e0 ?_
 simp only [L8]
 unfold Mac.add at k
 rw [<- (Bd s a).1] at hs
 have BU:=(Sp6 HM).get a
 generalize s.touch a=t at *
 refine A0 (Zn HM hs (λhok h7 H7=>?_) (λhok h7 H7=>?_))
 ·simp only [L9]
  refine E6 rfl ?_
  simp only [A6]
  refine E6 rfl ?_
  simp only [A6]
  refine A0 (W6 (re h7 _ H7) λh15 H15=>?_)
  simp only [hok,if_true] at k
  exact k h15 (by simpa using H15) BU
 ·simp only [L9]
  refine E6 rfl ?_
  simp only [A6]
  refine E6 rfl ?_
  simp only [A6]
  refine A0 (W6 (re h7 _ H7) λh15 H15=>?_)
  simp only [hok,Bool.false_eq_true,if_false] at k
  exact k h15 (by simpa [Mac.fail,Mac.setM] using H15) ⟨by omega,by omega⟩
theorem Vr {M:Nat} {tv:Value} {s:Mac} {R:Hp} {a o n a2 o2:Int} (H:A7 h (M3 M tv s*R)) (ha:iN a) (ha2:iN a2) (hn:U n) (hs:s.mm.st < 1099511627776)
  (k:∀h',A7 h' (M3 M tv (s.dcss a o n a2 o2).2*R)->K (dQ (s.dcss a o n a2 o2).1) h') :
  A5 Tryz.prog 227 #[mP M,iQ a,uQ o,uQ n,iQ a2,uQ o2] h K:=by
 refine call227 ?_
 unfold F227 cf lP nP
 refine A0 (Jz H ha ha2 λh1 H1=>?_)
 simp only [B6,Bool.not_true,E2,B4,C9,E1]
 obtain ⟨q,R',e0,HM,re⟩:=Dt H1
 refine D3 e0 ?_
 simp only [L8]
 unfold Mac.dcss at k
 rw [<- (Bd s a).1,<- (Bd (s.touch a) a2).1] at hs
 generalize (s.touch a).touch a2=t at *
 refine A0 (Vo HM hn hs (λhok hok2 h7 H7=>?_) (λhok h7 H7=>?_))
 ·simp only [L9]
  refine E6 rfl ?_
  simp only [B6]
  refine E6 rfl ?_
  simp only [A6]
  refine A0 (W6 (re h7 _ H7) λh15 H15=>?_)
  simp only [hok,hok2,and_self,if_true] at k
  exact k h15 (by simpa using H15)
 ·simp only [L9]
  refine E6 rfl ?_
  simp only [B6]
  refine E6 rfl ?_
  simp only [A6]
  refine A0 (W6 (re h7 _ H7) λh15 H15=>?_)
  rw [if_neg hok] at k
  exact k h15 (by simpa [Mac.fail,Mac.setM] using H15)
theorem Vs {M:Nat} {tv:Value} {s:Mac} {R:Hp} {a o n a2 o2 n2:Int} (H:A7 h (M3 M tv s*R)) (ha:iN a) (ha2:iN a2) (hn:U n) (hn2:U n2) (hs:s.mm.st < 1099511627776)
  (k:∀h',A7 h' (M3 M tv (s.dcas a o n a2 o2 n2).2*R)->K (dQ (s.dcas a o n a2 o2 n2).1) h') :
  A5 Tryz.prog 229 #[mP M,iQ a,uQ o,uQ n,iQ a2,uQ o2,uQ n2] h K:=by
 refine call229 ?_
 unfold F229 cf lP nP
 refine A0 (Jz H ha ha2 λh1 H1=>?_)
 simp only [B6,Bool.not_true,E2,B4,C9,E1]
 obtain ⟨q,R',e0,HM,re⟩:=Dt H1
 refine D3 e0 ?_
 simp only [L8]
 unfold Mac.dcas at k
 rw [<- (Bd s a).1,<- (Bd (s.touch a) a2).1] at hs
 generalize (s.touch a).touch a2=t at *
 refine A0 (Vp HM hn hn2 hs (λhok hok2 hne h7 H7=>?_) (λhok h7 H7=>?_))
 ·simp only [L9]
  refine E6 rfl ?_
  simp only [B6]
  refine E6 rfl ?_
  simp only [A6]
  refine A0 (W6 (re h7 _ H7) λh15 H15=>?_)
  rw [if_pos ⟨hok,hok2,hne⟩] at k
  exact k h15 (by simpa using H15)
 ·simp only [L9]
  refine E6 rfl ?_
  simp only [B6]
  refine E6 rfl ?_
  simp only [A6]
  refine A0 (W6 (re h7 _ H7) λh15 H15=>?_)
  rw [if_neg hok] at k
  exact k h15 (by simpa [Mac.fail,Mac.setM] using H15)
end
section
open Mod
variable {K:kQ} {h:A2}
theorem Da {M:Nat} {tv:Value} {s:Mac} {R:Hp} (H:A7 h (M3 M tv s*R)) (k:K (dQ s.g.isSome) h):A5 Tryz.prog 71 #[mP M] h K:=by
 refine call71 ?_
 unfold F71 lP nP
 obtain ⟨q,gq,fq,B,H0⟩:=J9.1 H
 simp only [Option.isNone_some,Bool.not_false,G2,B4,C9,E1]
 refine H0.ld rfl ?_
 unfold ghV
 simp only [L8]
 cases hg:s.g with
 | none=>rw [hg] at k;exact k
 | some g=>rw [hg] at k;exact k
theorem Kp {h:A2} {M:Nat} {tv:Value} {s:Mac} {R:Hp} {g:Gh} (H:A7 h (M3 M tv s*R)) (hg:s.g=some g):∃q R',A3 h ⟨M,16,none⟩=some (mP q)/\A7 h (OK (some g) q*R')/\∀h' g',A7 h' (OK (some g') q*R')->A7 h' (M3 M tv { s with g:=some g' }*R):=by
 obtain ⟨q,gq,fq,B,H0⟩:=J9.1 H
 refine ⟨gq,_,?_,by rw [Hr,hg] at H0;exact H0,λh' g' H'=>J9.2 ⟨q,gq,fq,B,?_⟩⟩
 ·have:=E9 (i:=16) H0.at rfl
  unfold ghV at this
  simpa [hg] using this
 ·rw [Hr]
  have eC:Ij tv q gq fq ({ s with g:=some g' }:Mac)=Ij tv q gq fq s:=by unfold Ij ghV;simp only [hg,Option.isSome_some]
  rw [eC]
  exact H'
theorem Zu {M:Nat} {tv:Value} {s:Mac} {R:Hp} {i:Int} (H:A7 h (M3 M tv s*R)) (hi:iN i) (k:∀h',A7 h' (M3 M tv (s.gh λg=>g.turn i 0 1 1)*R)->K tQ h') :
  A5 Tryz.prog 294 #[mP M,iQ i] h K:=by
 refine call294 ?_
 unfold F294 cf lP nP
 refine A0 (Da H ?_)
 simp only [B6]
 unfold Mac.gh at k
 cases hg:s.g with
 | none=>
  simp only [Option.isSome_none,E2]
  have e:({ s with g:=none }:Mac)=s:=by cases s;simp_all
  exact k h (by simpa [hg,e] using H)
 | some g=>
  obtain ⟨q,R',e0,HG,re⟩:=Kp H hg
  simp only [Option.isSome_some,G2,B4,C9,E1]
  refine D3 e0 ?_
  simp only [L8]
  refine A0 (OM HG hi λbb h7 G7=>?_)
  simp only [B6]
  exact k h7 (by simpa [hg] using re h7 _ G7)
theorem Zv {M:Nat} {tv:Value} {s:Mac} {R:Hp} {i:Int} (H:A7 h (M3 M tv s*R)) (hi:iN i) (k:∀h',A7 h' (M3 M tv (s.gh λg=>g.turn i 1 2 2)*R)->K tQ h') :
  A5 Tryz.prog 234 #[mP M,iQ i] h K:=by
 refine call234 ?_
 unfold F234 cf lP nP
 refine A0 (Da H ?_)
 simp only [B6]
 unfold Mac.gh at k
 cases hg:s.g with
 | none=>
  simp only [Option.isSome_none,E2]
  have e:({ s with g:=none }:Mac)=s:=by cases s;simp_all
  exact k h (by simpa [hg,e] using H)
 | some g=>
  obtain ⟨q,R',e0,HG,re⟩:=Kp H hg
  simp only [Option.isSome_some,G2,B4,C9,E1]
  refine D3 e0 ?_
  simp only [L8]
  refine A0 (Mv HG hi λbb h7 G7=>?_)
  simp only [B6]
  exact k h7 (by simpa [hg] using re h7 _ G7)
theorem Vt {M:Nat} {tv:Value} {s:Mac} {R:Hp} {i:Int} (H:A7 h (M3 M tv s*R)) (hi:iN i) (k:∀h',A7 h' (M3 M tv (s.gh λg=>g.turn i 2 0 3)*R)->K tQ h') :
  A5 Tryz.prog 295 #[mP M,iQ i] h K:=by
 refine call295 ?_
 unfold F295 cf lP nP
 refine A0 (Da H ?_)
 simp only [B6]
 unfold Mac.gh at k
 cases hg:s.g with
 | none=>
  simp only [Option.isSome_none,E2]
  have e:({ s with g:=none }:Mac)=s:=by cases s;simp_all
  exact k h (by simpa [hg,e] using H)
 | some g=>
  obtain ⟨q,R',e0,HG,re⟩:=Kp H hg
  simp only [Option.isSome_some,G2,B4,C9,E1]
  refine D3 e0 ?_
  simp only [L8]
  refine A0 (Lg HG hi λbb h7 G7=>?_)
  simp only [B6]
  exact k h7 (by simpa [hg] using re h7 _ G7)
theorem Vu {M:Nat} {tv:Value} {s:Mac} {R:Hp} (H:A7 h (M3 M tv s*R)) (k:∀h',A7 h' (M3 M tv s*R)->K (dQ s.fault) h') :
  A5 Tryz.prog 36 #[mP M] h K:=by
 refine call36 ?_
 unfold F36 cf lP nP de2
 obtain ⟨q,gq,fq,B,H0⟩:=J9.1 H
 simp only [Option.isNone_some,Bool.not_false,G2,B4,C9,E1]
 refine H0.ld rfl ?_
 simp only [B6]
 unfold Mac.fault at k
 refine C7 (λhb=>by rw [hb] at k;exact k h H) (λhb=>?_)
 rw [hb,Bool.false_or] at k
 refine A0 (Da H ?_)
 simp only [B6]
 cases hg:s.g with
 | none=>
  simp only [Option.isSome_none,E2]
  rw [hg] at k
  exact k h H
 | some g=>
  obtain ⟨q,R',e0,HG,re⟩:=Kp H hg
  simp only [Option.isSome_some,G2]
  refine D3 e0 ?_
  simp only [L8]
  refine A0 (ON HG λh7 G7=>?_)
  simp only [Co]
  refine Ax rfl (E6 rfl (E6 rfl ?_))
  refine XU ?_
  rw [hg] at k
  have e:(decide (g.kind≠0\/g.node≠0)) = !(decide (g.kind=0/\g.node=0)):=by
   rw [<- decide_not,decide_eq_decide];omega
  simp only [e] at k
  have H8:=re h7 _ G7
  have e2:({ s with g:=some g }:Mac)=s:=by cases s;simp_all
  exact k h7 (by rw [e2] at H8;exact H8)
theorem Fb {M:Nat} {tv:Value} {s:Mac} {R:Hp} (H:A7 h (M3 M tv s*R)) (k:∀h',G4 h.size h h'->K (Mt s.p) h') :
  A5 Tryz.prog 79 #[mP M] h K:=by
 refine call79 ?_
 unfold F79 g79 nP SF3 Bs Vc
 obtain ⟨q,gq,fq,B,H0⟩:=J9.1 H
 simp only [Option.isNone_some,E2,B4,C9,E1]
 have hold:=(S4 h (oQ Ae 117))
 have hsz:(h.push (oQ Ae 117)).size=h.size+1:=Array.size_push _
 have H1:=H0.push (oQ Ae 117)
 generalize h.push (oQ Ae 117)=h1 at *
 obtain ⟨N,hN⟩ : ∃N,N=h.size:=⟨_,rfl⟩
 rw [<- hN] at H1 ⊢
 have O:=H1.at2
 refine C5 O rfl (C5 O rfl (C5 O rfl (C5 O rfl (C5 O rfl (C5 O rfl (C5 O rfl (C5 O rfl (C5 O rfl (C5 O rfl (C5 O rfl (C5 O rfl (C5 O rfl (C5 O rfl (C5 O rfl ?_))))))))))))))
 refine Mn (F6 (vs:=Di s.p) H1.at rfl (by simp [J3]) λh2 w=>?_)
 have Q:=w.new
 refine C5 Q rfl (C5 Q rfl (C5 Q rfl (C5 Q rfl (C5 Q rfl (C5 Q rfl (C5 Q rfl (C5 Q rfl (C5 Q rfl (C5 Q rfl (C5 Q rfl (C5 Q rfl (C5 Q rfl (C5 Q rfl (C5 Q rfl ?_))))))))))))))
 exact k h2 ⟨by rw [w.size];omega,λc hc=>(w.old c (by omega)).trans (hold c hc)⟩
theorem Rp {M:Nat} {tv:Value} {s:Mac} {R:Hp} (H:A7 h (M3 M tv s*R)) (k:∀h',A7 h' (M3 M tv s*R)->K (Mt s.p) h') :
 A5 Tryz.prog 79 #[mP M] h K:=Fb H λh' o=>k h' (H.old o)
theorem Ll {M:Nat} {tv:Value} {s:Mac} {R:Hp} (H:A7 h (M3 M tv s*R)) (k:∀q R',A7 h (O9 q s.mm*R')->(∀h' m',A7 h' (O9 q m' * R')->A7 h' (M3 M tv (s.setM m')*R))->K (mP q) h) :
  A5 Tryz.prog 32 #[mP M] h K:=by
 refine call32 ?_
 unfold F32 lP nP
 obtain ⟨q,R',e0,HM,re⟩:=Dt H
 simp only [Option.isNone_some,E2,B4,C9,E1]
 refine D3 e0 ?_
 simp only [L8]
 exact k q R' HM re
def Mac.feed (s:Mac) (u:Int):Mac:={ s with used:=u }
theorem Rq {M:Nat} {tv:Value} {s:Mac} {R:Hp} (H:A7 h (M3 M tv s*R)) (k:∀q R',A7 h (Mw q s.b s.used*R')->(∀h' u,A7 h' (Mw q s.b u*R')->A7 h' (M3 M tv (Mac.feed s u)*R))->K (mP q) h) :
  A5 Tryz.prog 214 #[mP M] h K:=by
 refine call214 ?_
 unfold F214 lP nP
 obtain ⟨q,gq,fq,B,H0⟩:=J9.1 H
 simp only [Option.isNone_some,E2,B4,C9,E1]
 refine H0.ld rfl ?_
 simp only [L8]
 refine k fq _ (by rw [Sp2] at H0;exact H0) λh' u H'=>J9.2 ⟨q,gq,fq,B,?_⟩
 rw [Sp2]
 exact H'
theorem Sq1 {row vs:List Value} {row':Array Value} {o:Nat} (r1:row'.size=row.length) (hi:o+vs.length<=row.length) (r2:∀j,row'[j]? = if o<=j/\j < o+vs.length then vs[j - o]? else row[j]?):row' = (row.take o ++ vs ++ row.drop (o+vs.length)).toArray:=by
 apply Array.ext_getElem?
 intro j
 rw [r2 j,List.getElem?_toArray]
 by_cases c1:j < o
 ·rw [if_neg (by omega),List.append_assoc,List.getElem?_append_left (by rw [List.length_take];omega),List.getElem?_take,if_pos c1]
 ·by_cases c2:j < o+vs.length
  ·rw [if_pos ⟨by omega,c2⟩,List.append_assoc,List.getElem?_append_right (by rw [List.length_take];omega),List.length_take,Nat.min_eq_left (by omega),List.getElem?_append_left (by omega)]
  ·rw [if_neg (by omega),List.append_assoc,List.getElem?_append_right (by rw [List.length_take];omega),List.length_take,Nat.min_eq_left (by omega),List.getElem?_append_right (by omega),List.getElem?_drop]
   congr 1;omega
theorem A7.copy {P:Program} {t elem rt:TypeId} {h:A2} {b o:Nat} {a2:Option Addr} {dl dc sl sc m:Nat} {row vs:List Value} {ty:TypeId} {K:kQ} {R:Hp}
  (hu:AH P t=.slice elem) (hth:J7 P elem=true) (hsz:L7 P elem=1) (H:A7 h (pt b (.cells row.toArray ty)*R)) (hs:N8 h a2 vs) (hm:min sl dl=m) (hn:vs.length=m) (hone:∀y ∈ vs,J3 y True) (hi:o+m<=row.length)
  (k:∀h',A7 h' (pt b (oQ (row.take o ++ vs ++ row.drop (o+m)).toArray ty)*R)->K (iv m) h') :
  HO P #[t,t] rt #[lQ (some ⟨b,o,none⟩) dl dc,lQ a2 sl sc] h K:=by
 have hu':=D9 hu (by simp)
 unfold HO Builtin.copy_
 simp only [List.getElem?_toArray,List.getElem?_cons_zero,List.getElem?_cons_succ,A8,D6,C0 hu',I8 hth]
 show hp P (Builtin.lenOf _) _ h
 simp only [Builtin.lenOf,D6,A8,I8 hth]
 have em:Nat.min sl dl=m:=hm
 rw [em]
 refine QU hs (by rw [hsz,hn,Nat.mul_one]) ?_
 simp only [A8]
 refine X4 _ _ h 0 _ ?_
 have hlt:=(Array.getElem?_eq_some_iff.1 H.at).1
 refine GB _ h b o 0 row.toArray ty _ H.at (by simp;omega) (by simpa using hone) ?_
 intro row' r1 r2
 simp only [D6]
 have e:row' = (row.take o ++ vs ++ row.drop (o+m)).toArray:=by
  rw [<- hn]
  exact Sq1 (by simpa using r1) (by omega) λj=>by rw [r2 j,List.getElem?_toArray,Nat.add_zero]
 refine k _ (H.wr (o':=oQ (row.take o ++ vs ++ row.drop (o+m)).toArray ty) ?_ λc hc=>U5 hc)
 rw [<- e];exact T4 hlt
end
section
open Mod
def CD (f:M6):List Value:=[iQ f.fn,iQ f.pc,uQ (f.g 0),uQ (f.g 1),uQ (f.g 2),uQ (f.g 3),uQ (f.g 4),uQ (f.g 5),uQ (f.g 6),uQ (f.g 7),uQ (f.g 8),uQ (f.g 9)]
theorem GH:∀f:M6,(CD f).length=12:=λ_=>rfl
structure TB where
 fr:Option Addr
 frn:Nat
 pred:Nat
 succ:Nat
 word:Nat
 re:Option Addr
 ren:Nat
 fo:Option Addr
 fon:Nat
abbrev Db (B:TB) (x:Thr) (id:Int):List Value:=[iQ id,lQ B.fr x.fr.length B.frn,uQ (x.ret.getD 0 0),uQ (x.ret.getD 1 0),uQ (x.ret.getD 2 0),lQ (some ⟨B.pred,0,none⟩) x.pred.length x.pred.length,lQ (some ⟨B.succ,0,none⟩) x.succ.length x.succ.length,lQ (some ⟨B.word,0,none⟩) x.word.length x.word.length,lQ B.re x.retired.length B.ren,lQ B.fo x.found.length B.fon]
structure FrB (f:M6):Prop where
 len:f.r.length=10
 us:∀v ∈ f.r,U v
structure ThB (t:Thr):Prop where
 fr:∀f ∈ t.fr,FrB f
 ret:t.ret.length=3/\∀v ∈ t.ret,U v
 pr:∀v ∈ t.pred,U v
 su:∀v ∈ t.succ,U v
 wo:∀v ∈ t.word,U v
 re:∀v ∈ t.retired,iN v
 fo:∀v ∈ t.found,iN v
 len:t.fr.length<=1073741824/\t.retired.length<=1073741824/\t.found.length<=1073741824
def Lm (B:TB) (t:Thr) (fo:Option (Nat × Nat)):Prop:=∀b o,fo=some (b,o)->B.fr=some (aQ b)/\t.fr≠[]/\o=(t.fr.length - 1)*12
def M1 (T:Nat) (fo:Option (Nat × Nat)) (t:Thr) (id:Int):Hp:=ex λB:TB=>pr (ThB t/\Lm B t fo) (pt T (oQ (Db B t id).toArray 183)*(F3 190 12 B.fr t.fr.length B.frn (t.fr.flatMap CD)*(pt B.pred (oQ (U8 t.pred).toArray 178)*(pt B.succ (oQ (U8 t.succ).toArray 178)*(pt B.word (oQ (U8 t.word).toArray 178)*(F3 3 1 B.re t.retired.length B.ren (t.retired.map iv)*CZ B.fo t.found.length B.fon t.found))))))
theorem J4 {h:A2} {T:Nat} {fo:Option (Nat × Nat)} {t:Thr} {id:Int} {R:Hp}:A7 h (M1 T fo t id*R)↔∃B,(ThB t/\Lm B t fo)/\A7 h (pt T (oQ (Db B t id).toArray 183)*(F3 190 12 B.fr t.fr.length B.frn (t.fr.flatMap CD)*(pt B.pred (oQ (U8 t.pred).toArray 178)*(pt B.succ (oQ (U8 t.succ).toArray 178)*(pt B.word (oQ (U8 t.word).toArray 178)*(F3 3 1 B.re t.retired.length B.ren (t.retired.map iv)*(CZ B.fo t.found.length B.fon t.found*R))))))):=by
 unfold M1
 simp only [A7.ex,A7.pr,E7]
theorem SG3 {T:Nat} {fo:Option (Nat × Nat)} {t:Thr} {id:Int}:GU (M1 T fo t id):=
 GU.ex λ_=>GU.pr (GU.pt.star (GU.own.star (GU.pt.star (GU.pt.star (GU.pt.star (GU.own.star GU.ownf))))))
theorem OP {h:A2} {T:Nat} {fo:Option (Nat × Nat)} {t:Thr} {id:Int} {R:Hp} (H:A7 h (M1 T fo t id*R)):ThB t:=by obtain ⟨_,x,_⟩:=J4.1 H;exact x.1
theorem Lm.none (B:TB) (t:Thr):Lm B t Option.none:=λ_ _ e=>by cases e
theorem No {h:A2} {T:Nat} {fo:Option (Nat × Nat)} {t:Thr} {id:Int} {R:Hp} (H:A7 h (M1 T fo t id*R)):A7 h (M1 T none t id*R):=by
 obtain ⟨B,x,H0⟩:=J4.1 H
 exact J4.2 ⟨B,⟨x.1,Lm.none _ _⟩,H0⟩
theorem Ik {h:A2} {T b o:Nat} {t:Thr} {id:Int} {R:Hp} (H:A7 h (M1 T (some (b,o)) t id*R)):t.fr≠[]:=by
 obtain ⟨B,x,H0⟩:=J4.1 H
 exact (x.2 b o rfl).2.1
theorem SG4 {t:Thr} (hne:t.fr≠[]):t.top ∈ t.fr:=by
 unfold Thr.top
 rw [List.getLast?_eq_some_getLast hne]
 exact List.getLast_mem hne
theorem Ln {t:Thr} (hne:t.fr≠[]):t.fr=t.fr.dropLast ++ [t.top]:=by
 unfold Thr.top
 rw [List.getLast?_eq_some_getLast hne]
 exact (List.dropLast_concat_getLast hne).symm
theorem Zw {h:A2} {T b o:Nat} {t:Thr} {id:Int} {R:Hp} (H:A7 h (M1 T (some (b,o)) t id*R)) {j:Nat} {v:Value} (e:(CD t.top)[j]? = some v):A3 h ⟨b,o+j,none⟩=some v:=by
 obtain ⟨B,x,H0⟩:=J4.1 H
 obtain ⟨e1,hne,e2⟩:=x.2 b o rfl
 have hj:j < 12:=(List.getElem?_eq_some_iff.1 e).1
 have hlen:0 < t.fr.length:=List.length_pos_iff.2 hne
 have ho:=A7.own (A7.drop H0)
 have e3:(t.fr.flatMap CD)[o+j]? = some v:=by
  have hlt:t.fr.length - 1 < t.fr.length:=by omega
  rw [e2,N3 GH hlt hj]
  have:t.fr[t.fr.length - 1]=t.top:=by
   unfold Thr.top
   rw [List.getLast?_eq_some_getLast hne,List.getLast_eq_getElem]
   rfl
  rw [this];exact e
 obtain ⟨ad,ea,hc⟩:=ho.sees _ _ e3
 rw [e1] at ea
 cases ea
 rw [E1,Nat.zero_add] at hc
 exact hc
theorem XX (f:M6):∀y ∈ CD f,J3 y True:=by
 intro y hy
 simp only [CD,List.mem_cons,List.not_mem_nil,or_false] at hy
 rcases hy with rfl | rfl | rfl | rfl | rfl | rfl | rfl | rfl | rfl | rfl | rfl | rfl <;> trivial
theorem XY {h:A2} {T b o:Nat} {t:Thr} {id:Int} {R:Hp} {K:A2->Prop} {j:Nat} {v:Value} {f':M6} (H:A7 h (M1 T (some (b,o)) t id*R)) (hj:j < 12) (ho:J3 v True) (hf:CD f' = (CD t.top).set j v) (hB:FrB f')
  (k:∀h',A7 h' (M1 T (some (b,o)) (t.setTop f') id*R)->K h'):C4 h ⟨b,o+j,none⟩ v K:=by
 obtain ⟨B,x,H0⟩:=J4.1 H
 obtain ⟨e1,hne,e2⟩:=x.2 b o rfl
 have hlen:0 < t.fr.length:=List.length_pos_iff.2 hne
 rw [D4] at H0
 obtain ⟨ow,hlt,re⟩:=H0.opn
 obtain ⟨w1,w2,w3⟩:=ow
 rcases w3 with ⟨w3,w4⟩ | ⟨b',row,w3,w4,w5,w6⟩
 ·rw [e1] at w3;cases w3
 rw [e1] at w3
 cases w3
 have hrl:t.fr.length*12<=row.size:=by rw [w5];exact Nat.mul_le_mul_right _ w2
 refine KS w4 (by omega) ho ?_
 rintro h' rfl
 have hbl:=(Array.getElem?_eq_some_iff.1 w4).1
 have hfl:(t.fr.dropLast ++ [f']).length=t.fr.length:=by simp;omega
 have e3:(t.fr.dropLast ++ [f']).flatMap CD=(t.fr.flatMap CD).set (o+j) v:=by
  conv=>rhs;rw [Ln hne]
  rw [List.flatMap_append,List.flatMap_append,List.flatMap_singleton,List.flatMap_singleton,hf]
  have hl:(t.fr.dropLast.flatMap CD).length=o:=by rw [EG GH,List.length_dropLast,e2]
  rw [List.set_append_right _ _ (by omega),hl,Nat.add_sub_cancel_left]
 have e4:((t.fr.flatMap CD).set (o+j) v).length=t.fr.length*12:=by rw [List.length_set,EG GH]
 have H2:=re (h.setIfInBounds b (oQ (row.setIfInBounds (o+j) v) 190)) (GN B.fr) (λh=>CG h 190 12 B.fr t.fr.length B.frn ((t.fr.flatMap CD).set (o+j) v))
  ⟨by simp,λc hc hn=>U5 λe=>hn ⟨_,e1,e.symm⟩⟩ (λc hc=>⟨.inl hc,by simpa using hlt c hc⟩) (λc ob hc e x hx=>by
   obtain ⟨ad,ea,rfl⟩:=hc
   rw [e1] at ea;cases ea
   rw [T4 hbl] at e;cases e;cases hx) λh'' hh=>by
   refine ⟨e4,w2,.inr ⟨b,row.setIfInBounds (o+j) v,e1,(hh b ⟨_,e1,rfl⟩).trans (T4 hbl),by simpa using w5,?_⟩⟩
   rw [Array.toList_setIfInBounds,<- w6,<- List.take_set]
 refine k _ (J4.2 ⟨B,⟨?_,?_⟩,?_⟩)
 ·obtain ⟨b1,b2,b3,b4,b5,b6,b7,b8⟩:=x.1
  refine ⟨λf hf=>?_,b2,b3,b4,b5,b6,b7,by unfold Thr.setTop;rw [hfl];exact b8⟩
  unfold Thr.setTop at hf
  rcases List.mem_append.1 hf with h1 | h1
  ·exact b1 f ((List.dropLast_sublist _).subset h1)
  ·rw [List.mem_singleton.1 h1];exact hB
 ·intro b2 o2 e
  cases e
  refine ⟨e1,by unfold Thr.setTop;simp,?_⟩
  unfold Thr.setTop
  rw [hfl];exact e2
 ·rw [D4]
  unfold Thr.setTop
  unfold Db
  simp only [hfl,e3]
  exact H2
theorem SR1 (f:M6) (pc:Int):CD (f.at pc)=(CD f).set 1 (iQ pc):=rfl
theorem SV7 {f:M6} (hl:f.r.length=10) {i:Nat} (hi:i < 10) (v:Int):CD (f.s i v)=(CD f).set (2+i) (uQ v):=by
 obtain ⟨fn,pc,r⟩:=f
 simp only at hl
 match r,hl with
 | [r0,r1,r2,r3,r4,r5,r6,r7,r8,r9],_=>
  match i,hi with
  | 0,_=>rfl
  | 1,_=>rfl
  | 2,_=>rfl
  | 3,_=>rfl
  | 4,_=>rfl
  | 5,_=>rfl
  | 6,_=>rfl
  | 7,_=>rfl
  | 8,_=>rfl
  | 9,_=>rfl
theorem FrB.at {f:M6} (B:FrB f) (pc:Int):FrB (f.at pc):=⟨B.len,B.us⟩
theorem FrB.s {f:M6} (B:FrB f) (i:Nat) {v:Int} (hv:U v):FrB (f.s i v):=⟨by unfold M6.s;rw [List.length_set];exact B.len,Z2 B.us hv⟩
theorem FrB.g {f:M6} (B:FrB f) (i:Nat):U (f.g i):=Ld B.us i
theorem Lp {h:A2} {T:Nat} {fo:Option (Nat × Nat)} {t:Thr} {id:Int} {R:Hp} (H:A7 h (M1 T fo t id*R)):∃B,h[T]? = some (oQ (Db B t id).toArray 183):=by
 obtain ⟨B,x,H0⟩:=J4.1 H
 exact ⟨B,H0.at⟩
theorem U0:U 0:=⟨by omega,by omega⟩
theorem Sq2 {K:kQ} {h:A2} {T:Nat} {fo:Option (Nat × Nat)} {t:Thr} {id:Int} {R:Hp} (H:A7 h (M1 T fo t id*R)) (k0:t.fr = []->K (pQ none) h)
  (k:∀b o,t.fr≠[]->(∀b' o',fo=some (b',o')->b=b'/\o=o')->A7 h (M1 T (some (b,o)) t id*R)->K (pQ (some ⟨b,o,none⟩)) h) :
  A5 Tryz.prog 105 #[mP T] h K:=by
 refine call105 ?_
 unfold F105 lS nP
 obtain ⟨B,x,H0⟩:=J4.1 H
 have hl:=x.1.len
 refine ⟨λvs h'=>vs = [dQ (decide (t.fr.length=0))]/\h' = h,?_,?_⟩
 ·simp only [Option.isNone_some,E2,B4,C9,E1]
  refine H0.ld rfl ?_
  simp only [C6]
  refine ⟨?_,by trivial⟩
  congr 2
  rw [Bool.eq_iff_iff,beq_iff_eq,decide_eq_true_iff];omega
 rintro v6 g7 h8 ⟨e,rfl⟩
 cases e
 simp only [B6]
 refine A4 (λhz=>k0 (List.length_eq_zero_iff.1 hz)) (λhz=>?_)
 simp only [B4,C9,E1]
 refine H0.ld rfl ?_
 simp only [C6]
 refine H0.ld rfl ?_
 simp only [C6]
 rw [D8 (n:=(t.fr.length:Int) - 1) (by omega) (by omega)]
 refine ⟨by omega,by omega,?_⟩
 have hne:t.fr≠[]:=λe=>hz (by rw [e];rfl)
 have hpos:0 < t.fr.length:=by omega
 have ow:=A7.own (A7.drop H0)
 rcases ow.2.2 with ⟨_,hc⟩ | ⟨b,row,e,_⟩
 ·have:=ow.2.1;omega
 ·rw [e]
  simp only [C9]
  rw [show ((t.fr.length:Int) - 1).toNat=t.fr.length - 1 by omega,E1,Nat.zero_add]
  refine k _ _ hne (λb' o' e'=>?_) (J4.2 ⟨B,⟨x.1,λb2 o2 e2=>?_⟩,H0⟩)
  ·obtain ⟨y1,y2,y3⟩:=x.2 b' o' e'
   rw [e] at y1
   cases y1
   exact ⟨rfl,y3.symm⟩
  ·cases e2
   exact ⟨e,hne,rfl⟩
structure Z9 (R:Hp) (a:Option Addr) (l c:Nat) (rs:List Int):Prop where
 len:rs.length=l
 cap:l<=c
 us:∀v ∈ rs,U v
 see:∀h P,A7 h (P*R)->N8 h a (U8 rs)
theorem Z9.none {R:Hp}:Z9 R Option.none 0 0 []:=⟨rfl,Nat.le_refl _,λv hv=>(by cases hv),λh P _=>N8.nil _ _⟩
theorem Z9.mk' {R:Hp} {N l:Nat} {rs:List Int} {ty:TypeId} (hl:rs.length=l) (hu:∀v ∈ rs,U v):Z9 (pt N (oQ (U8 rs).toArray ty)*R) (some ⟨N,0,Option.none⟩) l l rs:=
 ⟨hl,Nat.le_refl _,hu,λh P H i v hi=>⟨_,rfl,by rw [E1,Nat.zero_add,E0 H.at2,List.getElem?_toArray];exact hi⟩⟩
theorem Z9.skip {R Q:Hp} {a:Option Addr} {l c:Nat} {rs:List Int} (A:Z9 R a l c rs):Z9 (Q*R) a l c rs:=⟨A.len,A.cap,A.us,λh P H=>A.see h (P*Q) (by rw [E7];exact H)⟩
theorem Rr:AH Tryz.prog 123=.slice 178:=by kernel_rfl
theorem Nq:J7 Tryz.prog 178=true:=by kernel_rfl
theorem XZ:L7 Tryz.prog 178=1:=by kernel_rfl
theorem SG5:AH Tryz.prog 177=.slice 190:=by kernel_rfl
theorem Rs:J7 Tryz.prog 190=true:=by kernel_rfl
theorem SR2:Gw Tryz.prog 190=some (.agg #[iQ 0,iQ 0,uQ 0,uQ 0,uQ 0,uQ 0,uQ 0,uQ 0,uQ 0,uQ 0,uQ 0,uQ 0]):=by kernel_rfl
theorem IX:L7 Tryz.prog 190=12:=by kernel_rfl
theorem Sq3:Eo Tryz.prog 190=96:=by kernel_rfl
theorem Ya (l:List Int):∀y ∈ U8 l,J3 y True:=by
 intro y hy
 unfold U8 at hy
 obtain ⟨n,_,rfl⟩:=List.mem_map.1 hy
 trivial
theorem Kq (l:List Int):(U8 l).length=l.length:=by unfold U8;rw [List.length_map]
theorem Dc (n:Nat) (l:List Int):(Ad n l).length=n:=by unfold Ad;simp
theorem SR3 {n:Nat} {l:List Int} (h:l.length<=n):Ad n l=l ++ List.replicate (n - l.length) 0:=by
 unfold Ad
 rw [List.take_append,List.take_of_length_le h,List.take_replicate,Nat.min_eq_left (by omega)]
theorem SL9 {n:Nat} {l:List Int} (h:∀v ∈ l,U v):∀v ∈ Ad n l,U v:=by
 intro v hv
 unfold Ad at hv
 rcases List.mem_append.1 (List.mem_of_mem_take hv) with h1 | h1
 ·exact h v h1
 ·rw [(List.mem_replicate.1 h1).2];exact U0
theorem Sq4 {fn pc:Int} {r:List Int} (hl:r.length=10):CD ⟨fn,pc,r⟩=iQ fn :: iQ pc :: U8 r:=by
 match r,hl with
 | [r0,r1,r2,r3,r4,r5,r6,r7,r8,r9],_=>rfl
def Fx (h:A2) (fo:Option (Nat × Nat)) (f:M6):Prop:=∀b o j v,fo=some (b,o)->(CD f)[j]? = some v->A3 h ⟨b,o+j,none⟩=some v
theorem SZ4 {h:A2} {b:Nat} {v0 v1 v2 v3 v4 v5 v6 v7 v8 v9 v10 v11:Value} {K:A2->Prop} (H:NX h (aQ b) 0 [v0,v1,v2,v3,v4,v5,v6,v7,v8,v9,v10,v11] K) :
 C4 h (aQ b) v0 λh=>C4 h ⟨b,1,none⟩ v1 λh=>C4 h ⟨b,2,none⟩ v2 λh=>C4 h ⟨b,3,none⟩ v3 λh=>C4 h ⟨b,4,none⟩ v4 λh=>C4 h ⟨b,5,none⟩ v5 λh=>C4 h ⟨b,6,none⟩ v6 λh=>
 C4 h ⟨b,7,none⟩ v7 λh=>C4 h ⟨b,8,none⟩ v8 λh=>C4 h ⟨b,9,none⟩ v9 λh=>C4 h ⟨b,10,none⟩ v10 λh=>C4 h ⟨b,11,none⟩ v11 K:=H
theorem Zx {K:kQ} {h:A2} {T:Nat} {fo:Option (Nat × Nat)} {t:Thr} {id:Int} {R:Hp} {fn:Int} {a:Option Addr} {l c:Nat} {rs:List Int} (H:A7 h (M1 T fo t id*R)) (A:Z9 R a l c rs) (hl:l<=10) (hd:t.fr.length < 1073741824)
  (k:∀h' b o,(∀b' o',fo=some (b',o')->¬ (b=b'/\o=o'))->Fx h' fo t.top->A7 h' (M1 T (some (b,o)) (t.push fn rs) id*R)->K tQ h') :
  A5 Tryz.prog 130 #[mP T,iQ fn,lQ a l c] h K:=by
 refine call130 ?_
 unfold F130 nP SV4
 have hlen:=A.len
 obtain ⟨B,x,H0⟩:=J4.1 H
 simp only [Option.isNone_some,E2,B4,C9,E1]
 have H1:=H0.push (oQ #[iQ 0,iQ 0,uQ 0,uQ 0,uQ 0,uQ 0,uQ 0,uQ 0,uQ 0,uQ 0,uQ 0,uQ 0] 190)
 have HA:=(H.push (oQ #[iQ 0,iQ 0,uQ 0,uQ 0,uQ 0,uQ 0,uQ 0,uQ 0,uQ 0,uQ 0,uQ 0,uQ 0] 190))
 generalize h.push (oQ #[iQ 0,iQ 0,uQ 0,uQ 0,uQ 0,uQ 0,uQ 0,uQ 0,uQ 0,uQ 0,uQ 0,uQ 0] 190)=h1 at *
 generalize h.size=N at *
 refine SZ4 (F6 (vs:=CD ⟨fn,0,List.replicate 10 0⟩) H1.at rfl (XX _) λh2 w=>?_)
 have H2:=H1.wr w.new w.old
 have HB:=HA.wr w.new w.old
 have hsee:=A.see h2 (pt N _*M1 T fo t id) (by rw [E7];exact HB)
 have eS:some (MP ⟨N,2,none⟩ 0 10 1)=some (⟨N,2,none⟩ : Addr):=rfl
 rw [eS]
 refine H2.copy Rr Nq XZ hsee (m:=l) (by omega) (by rw [Kq,hlen]) (Ya _) (by rw [GH];omega) λh3 H3=>?_
 have erow:(CD ⟨fn,0,List.replicate 10 0⟩).take 2 ++ U8 rs ++ (CD ⟨fn,0,List.replicate 10 0⟩).drop (2+l)=CD ⟨fn,0,Ad 10 rs⟩:=by
  rw [Sq4 (by simp),Sq4 (Dc _ _),SR3 (by omega)]
  simp only [List.take_succ_cons,List.take_zero,List.cons_append,List.nil_append]
  rw [show 2+l=l+1+1 by omega,List.drop_succ_cons,List.drop_succ_cons]
  congr 2
  unfold U8
  rw [List.map_append,List.map_replicate,List.map_replicate,List.drop_replicate,hlen]
 rw [erow] at H3
 simp only [A6]
 have O:=(D4 _ _ _ ▸ H3:A7 h3 (pt T _*_))
 refine O.ld rfl ?_
 simp only [C6]
 have Q:=H3.at
 have hr:∀i v,(CD ⟨fn,0,Ad 10 rs⟩)[i]? = some v->∀K:Value->Prop,K v->D1 h3 ⟨N,i,none⟩ K:=λi v e K k=>C5 Q e k
 refine hr 0 _ rfl _ (hr 1 _ rfl _ (hr 2 _ rfl _ (hr 3 _ rfl _ (hr 4 _ rfl _ (hr 5 _ rfl _ (hr 6 _ rfl _ (hr 7 _ rfl _ (hr 8 _ rfl _ (hr 9 _ rfl _ (hr 10 _ rfl _ (hr 11 _ rfl _ ?_)))))))))))
 have H4:=H3.push (oQ (CD ⟨fn,0,Ad 10 rs⟩).toArray 190)
 have e4:h3.push (oQ (CD ⟨fn,0,Ad 10 rs⟩).toArray 190)=h3.push (oQ #[iQ fn,iQ 0,uQ ((Ad 10 rs).getD 0 0),uQ ((Ad 10 rs).getD 1 0),uQ ((Ad 10 rs).getD 2 0),uQ ((Ad 10 rs).getD 3 0),uQ ((Ad 10 rs).getD 4 0),uQ ((Ad 10 rs).getD 5 0),uQ ((Ad 10 rs).getD 6 0),uQ ((Ad 10 rs).getD 7 0),uQ ((Ad 10 rs).getD 8 0),uQ ((Ad 10 rs).getD 9 0)] 190):=rfl
 generalize h3.push (oQ (CD ⟨fn,0,Ad 10 rs⟩).toArray 190)=h4 at *
 show A3 (h3.push (oQ #[iQ fn,iQ 0,uQ ((Ad 10 rs).getD 0 0),uQ ((Ad 10 rs).getD 1 0),uQ ((Ad 10 rs).getD 2 0),uQ ((Ad 10 rs).getD 3 0),uQ ((Ad 10 rs).getD 4 0),uQ ((Ad 10 rs).getD 5 0),uQ ((Ad 10 rs).getD 6 0),uQ ((Ad 10 rs).getD 7 0),uQ ((Ad 10 rs).getD 8 0),uQ ((Ad 10 rs).getD 9 0)] 190)) _=_/\T2 Tryz.prog _ _ _ (h3.push (oQ #[iQ fn,iQ 0,uQ ((Ad 10 rs).getD 0 0),uQ ((Ad 10 rs).getD 1 0),uQ ((Ad 10 rs).getD 2 0),uQ ((Ad 10 rs).getD 3 0),uQ ((Ad 10 rs).getD 4 0),uQ ((Ad 10 rs).getD 5 0),uQ ((Ad 10 rs).getD 6 0),uQ ((Ad 10 rs).getD 7 0),uQ ((Ad 10 rs).getD 8 0),uQ ((Ad 10 rs).getD 9 0)] 190)) _
 rw [<- e4]
 generalize h3.size=N4 at *
 have hs4:N8 h4 (some (aQ N4)) (CD ⟨fn,0,Ad 10 rs⟩):=λi v hi=>⟨_,rfl,by rw [E1,Nat.zero_add,E0 H4.at,List.getElem?_toArray];exact hi⟩
 rw [Hr] at H4
 refine ⟨E9 H4.at rfl,?_⟩
 rw [Sp2] at H4
 have hB:ThB (t.push fn rs):=by
  obtain ⟨b1,b2,b3,b4,b5,b6,b7,b8⟩:=x.1
  refine ⟨λf hf=>?_,b2,b3,b4,b5,b6,b7,by unfold Thr.push;simp;omega⟩
  unfold Thr.push at hf
  rcases List.mem_append.1 hf with h1 | h1
  ·exact b1 f h1
  ·rw [List.mem_singleton.1 h1];exact ⟨Dc _ _,SL9 A.us⟩
 have hfl:(t.push fn rs).fr.length=t.fr.length+1:=by unfold Thr.push;simp
 have hff:(t.push fn rs).fr.flatMap CD=t.fr.flatMap CD ++ CD ⟨fn,0,Ad 10 rs⟩:=by unfold Thr.push;simp
 have fin:∀(h5:A2) (b:Nat) (c':Nat) (X:Hp),(∀b' o',fo=some (b',o')->¬ (b=b'/\t.fr.length*12=o'))->(∀h P,A7 h (F3 190 12 (some (aQ b)) (t.fr.length+1) c' (t.fr.flatMap CD ++ CD ⟨fn,0,Ad 10 rs⟩)*(X*P))->Fx h fo t.top)->A7 h5 (pt T (oQ (Db B t id).toArray 183)*(F3 190 12 (some (aQ b)) (t.fr.length+1) c' (t.fr.flatMap CD ++ CD ⟨fn,0,Ad 10 rs⟩)*(X*(pt B.pred (oQ (U8 t.pred).toArray 178)*(pt B.succ (oQ (U8 t.succ).toArray 178)*(pt B.word (oQ (U8 t.word).toArray 178)*(F3 3 1 B.re t.retired.length B.ren (t.retired.map iv)*(CZ B.fo t.found.length B.fon t.found*R)))))))) ->
   C4 h5 ⟨T,0+1,none⟩ (lQ (some (aQ b)) (t.fr.length+1) c') (λh38=>K tQ h38):=by
  intro h5 b c' X hne hst H5
  refine H5.st rfl trivial λh6 H6=>?_
  refine k h6 b (t.fr.length*12) (λb' o' e=>hne b' o' e) (hst h6 _ H6.drop) (J4.2 ⟨{ B with fr:=some (aQ b),frn:=c' },⟨hB,λb2 o2 e2=>?_⟩,?_⟩)
  ·cases e2
   exact ⟨rfl,by unfold Thr.push;simp,by rw [hfl];simp⟩
  ·rw [hfl,hff]
   have eC:Db { B with fr:=some (aQ b),frn:=c' } (t.push fn rs) id=(Db B t id).set (0+1) (lQ (some (aQ b)) (t.fr.length+1) c'):=by
    unfold Db
    rw [hfl]
    rfl
   rw [eC]
   rw [D4 _ X] at H6
   exact A7.drop2 (A7.ac H6 (by ac_rfl))
 have stale:∀h5 a l5 c5 ys,CG h5 190 12 a l5 c5 (t.fr.flatMap CD ++ ys)->(∀b' o',fo=some (b',o')->a=some (aQ b')/\t.fr≠[]/\o' = (t.fr.length - 1)*12)->Fx h5 fo t.top:=by
  intro h5 a l5 c5 ys ow hfo b' o' j v e ev
  obtain ⟨e1,hne,e2⟩:=hfo b' o' e
  have hj:j < 12:=(List.getElem?_eq_some_iff.1 ev).1
  have hlen:0 < t.fr.length:=List.length_pos_iff.2 hne
  have hlt:t.fr.length - 1 < t.fr.length:=by omega
  have e3:(t.fr.flatMap CD)[o' + j]? = some v:=by
   rw [e2,N3 GH hlt hj]
   have:t.fr[t.fr.length - 1]=t.top:=by
    unfold Thr.top
    rw [List.getLast?_eq_some_getLast hne,List.getLast_eq_getElem]
    rfl
   rw [this];exact ev
  obtain ⟨ad,ea,hc⟩:=ow.sees (o' + j) v (by rw [List.getElem?_append_left (List.getElem?_eq_some_iff.1 e3).1];exact e3)
  rw [e1] at ea
  cases ea
  rw [E1,Nat.zero_add] at hc
  exact hc
 have Blen:=x.1.len
 rw [<- IX] at H4
 refine H4.app2 SG5 Rs SR2 (by rw [IX];rfl) hs4 (n:=1) (by rw [IX];rfl) (XX _) (by rw [Sq3];omega) (by rw [Sq3];omega) (λc' h5 H5=>?_) (λb c' h5 hnb H5=>?_)
 ·rw [IX] at H5
  simp only [C6]
  have ow:=H5.own
  obtain ⟨b,eb⟩ : ∃b,B.fr=some ⟨b,0,none⟩:=by
   rcases ow.2.2 with ⟨_,hc⟩ | ⟨b,row,e,_⟩
   ·have:=ow.2.1;omega
   ·exact ⟨b,e⟩
  rw [eb] at H5 ⊢
  refine fin h5 b c' (pt N4 (oQ (CD ⟨fn,0,Ad 10 rs⟩).toArray 190)*pt N (oQ (CD ⟨fn,0,Ad 10 rs⟩).toArray 190)) (λb' o' e ⟨y1,y2⟩=>?_) (λh P HH=>stale h _ _ _ _ HH.own λb' o' e=>?_) (A7.ac H5 ?_)
  ·obtain ⟨z1,z2,z3⟩:=x.2 b' o' e
   have hlen:0 < t.fr.length:=List.length_pos_iff.2 z2
   omega
  ·obtain ⟨z1,z2,z3⟩:=x.2 b' o' e
   exact ⟨eb.symm.trans z1,z2,z3⟩
  ·ac_rfl
 ·rw [IX] at H5
  simp only [C6]
  refine fin h5 b c' (F3 190 12 B.fr t.fr.length B.frn (t.fr.flatMap CD)*(pt N4 (oQ (CD ⟨fn,0,Ad 10 rs⟩).toArray 190)*pt N (oQ (CD ⟨fn,0,Ad 10 rs⟩).toArray 190))) (λb' o' e ⟨y1,y2⟩=>?_) (λh P HH=>stale h _ _ _ [] (by rw [E7] at HH;rw [List.append_nil];exact HH.drop.own) λb' o' e=>x.2 b' o' e) (A7.ac H5 ?_)
  ·obtain ⟨z1,z2,z3⟩:=x.2 b' o' e
   exact hnb ⟨_,z1,by simp [y1]⟩
  ·ac_rfl
theorem Thr.pop_fr (t:Thr) (r:List Int) (hne:t.fr≠[]):t.pop r = { t with fr:=t.fr.dropLast,ret:=Ad 3 r }:=by unfold Thr.pop;rw [if_neg hne]
theorem Sq5 {K:kQ} {h:A2} {T:Nat} {fo:Option (Nat × Nat)} {t:Thr} {id:Int} {R:Hp} {a:Option Addr} {l c:Nat} {rs:List Int} (H:A7 h (M1 T fo t id*R)) (A:Z9 R a l c rs) (hl:l<=3)
  (k:∀h',A7 h' (M1 T none (t.pop rs) id*R)->K tQ h') :
  A5 Tryz.prog 106 #[mP T,lQ a l c] h K:=by
 refine call106 ?_
 unfold F106 lS nP
 have hlen:=A.len
 obtain ⟨B,x,H0⟩:=J4.1 H
 have Blen:=x.1.len
 refine ⟨λvs h'=>vs = [dQ (decide (t.fr.length=0))]/\h' = h,?_,?_⟩
 ·simp only [Option.isNone_some,E2,B4,C9,E1]
  refine H0.ld rfl ?_
  simp only [C6]
  refine ⟨?_,by trivial⟩
  congr 2
  rw [Bool.eq_iff_iff,beq_iff_eq,decide_eq_true_iff];omega
 rintro v6 g7 h8 ⟨e,rfl⟩
 cases e
 simp only [B6]
 refine A4 (λhz=>?_) (λhz=>?_)
 ·have e:t.pop rs=t:=by unfold Thr.pop;rw [if_pos (List.length_eq_zero_iff.1 hz)]
  rw [e] at k
  exact k h8 (No H)
 have hne:t.fr≠[]:=λe=>hz (by rw [e];rfl)
 rw [Thr.pop_fr _ _ hne] at k
 simp only [B4,C9,E1]
 refine H0.ld rfl ?_
 simp only [C6]
 refine H0.ld rfl ?_
 simp only [C6]
 rw [D8 (n:=(t.fr.length:Int) - 1) (by omega) (by omega)]
 have ow:=H0.drop.own
 have hfl:=ow.2.1
 refine ⟨by omega,by omega,?_⟩
 have e1:FD B.fr 0 B.frn 12=B.fr:=Ng _ _ _
 have e2:((t.fr.length:Int) - 1).toNat - 0=t.fr.length - 1:=by omega
 rw [e1,e2,Nat.sub_zero]
 refine H0.st rfl trivial λh1 H1=>H1.st rfl trivial λh2 H2=>H2.st rfl trivial λh3 H3=>H3.st rfl trivial λh4 H4=>?_
 have hsee:N8 h4 a (U8 rs):=A.see h4 (pt T _*(F3 190 12 B.fr t.fr.length B.frn (t.fr.flatMap CD)*(pt B.pred (oQ (U8 t.pred).toArray 178)*(pt B.succ (oQ (U8 t.succ).toArray 178)*(pt B.word (oQ (U8 t.word).toArray 178)*(F3 3 1 B.re t.retired.length B.ren (t.retired.map iv)*CZ B.fo t.found.length B.fon t.found)))))) (by simp only [E7];exact H4)
 have eS:some (MP ⟨T,2,none⟩ 0 3 1)=some (⟨T,2,none⟩ : Addr):=rfl
 show HO Tryz.prog _ _ #[lQ (some (MP ⟨T,2,none⟩ 0 3 1)) 3 3,_] _ _
 rw [eS]
 refine H4.copy Rr Nq XZ hsee (m:=l) (by omega) (by rw [Kq,hlen]) (Ya _) (by simp;omega) λh5 H5=>?_
 simp only [A6]
 have hB:ThB { t with fr:=t.fr.dropLast,ret:=Ad 3 rs }:=by
  obtain ⟨b1,b2,b3,b4,b5,b6,b7,b8⟩:=x.1
  exact ⟨λf hf=>b1 f ((List.dropLast_sublist _).subset hf),⟨Dc _ _,SL9 A.us⟩,b3,b4,b5,b6,b7,by simp;omega⟩
 refine k h5 (J4.2 ⟨B,⟨hB,Lm.none _ _⟩,?_⟩)
 rw [D4] at H5 ⊢
 obtain ⟨ow5,hlt5,re5⟩:=H5.opn
 have hdl:t.fr.dropLast.length=t.fr.length - 1:=List.length_dropLast
 have efl:t.fr.dropLast.flatMap CD=(t.fr.flatMap CD).take ((t.fr.length - 1)*12):=by
  rw [Zb GH,List.dropLast_eq_take]
 have H6:=re5 h5 (GN B.fr) (λh=>CG h 190 12 B.fr (t.fr.length - 1) B.frn ((t.fr.flatMap CD).take ((t.fr.length - 1)*12))) (Fr.refl _ _) (λb hb=>⟨.inl hb,hlt5 b hb⟩) ow5.nd λh'' e=>(ow5.congr e).take (by omega)
 simp only [hdl,efl]
 have eC:(((((Db B t id).set (0+1) (lQ B.fr (t.fr.length - 1) B.frn)).set (0+2) (uQ 0)).set (0+3) (uQ 0)).set (0+4) (uQ 0)).take 2 ++ U8 rs ++ (((((Db B t id).set (0+1) (lQ B.fr (t.fr.length - 1) B.frn)).set (0+2) (uQ 0)).set (0+3) (uQ 0)).set (0+4) (uQ 0)).drop (2+l)=Db B { t with fr:=t.fr.dropLast,ret:=Ad 3 rs } id:=by
  unfold Db
  simp only [hdl]
  match rs,hlen with
  | [],e=>subst e;rfl
  | [r0],e=>subst e;rfl
  | [r0,r1],e=>subst e;rfl
  | [r0,r1,r2],e=>subst e;rfl
  | _ :: _ :: _ :: _ :: _,e=>simp at e;omega
 rw [eC] at H6
 exact H6
end
end Go.Proofs.YtahpbclnkofhfaaGreat
