/- Part 11 of what the proofs of this seat rest on: see the last text of the claim. -/
import Derived.Test.YtahpbclnkofhfaaGreatQ207ac967c053
import Derived.Test.YtahpbclnkofhfaaGreatProg
set_option linter.unusedSimpArgs false
set_option linter.unusedVariables false
set_option linter.ambiguousOpen false
set_option maxRecDepth 20000
namespace Go.Proofs.YtahpbclnkofhfaaGreat
section
open Mod
theorem ZM3 {h:Wa1} {b:Nat} {v0 v1 v2 v3 v4 v5 v6 v7 v8 v9:Value} {K:Wa1→Prop} (H:stN h ⟨b,0,none⟩ 0 [v0,v1,v2,v3,v4,v5,v6,v7,v8,v9] K) :
 stH h ⟨b,0,none⟩ v0 λh=>stH h ⟨b,1,none⟩ v1 λh=>stH h ⟨b,2,none⟩ v2 λh=>stH h ⟨b,3,none⟩ v3 λh=>stH h ⟨b,4,none⟩ v4 λh=>stH h ⟨b,5,none⟩ v5 λh=>stH h ⟨b,6,none⟩ v6 λh=>stH h ⟨b,7,none⟩ v7 λh=>stH h ⟨b,8,none⟩ v8 λh=>stH h ⟨b,9,none⟩ v9 K:=H
def u8v (n:Int):Value:=.int .u8 n
structure ScrI (h:Wa1) (ca:Option Addr) (cl:Nat) (pa:Option Addr) (pl:Nat) (da:Option Addr) (dl:Nat) (calls:List (List Cl)) (Wb6 draws:List Int):Prop where
 f:ZD8 h ca cl pa pl calls Wb6
 ds:dl=draws.length
 dr:Sees h da (draws.map u8v)
structure Zu9 (calls:List (List Cl)) (Wb6 draws:List Int):Prop where
 cl:∀l ∈ calls,∀c ∈ l,V c.key∧V c.val
 dr:∀n ∈ draws,0≤n∧n < 256
def opL (n:Int):Int:=Int.tmod (s64 (Int.tmod n 3+3)) 3
def clL (c:Cl):Cl:=if opL c.op=0 then ⟨0,c.key,c.val⟩ else ⟨opL c.op,0,0⟩
def WP4 (n:Nat) (l:List Cl):List Cl:=(l.take n).map clL
def Wg0 (th n:Nat) (calls:List (List Cl)):List (List Cl):=(List.range th).map λi=>WP4 n (calls.getD i [])
def Yr4 (th:Int) (k:Int):Int:=Int.tmod (s64 (Int.tmod k th+th)) th
def Wk1 (th:Int) (n:Nat) (Wb6:List Int):List Int:=(Wb6.take n).map (Yr4 th)
theorem Y06 (n:Int):0≤opL n∧opL n≤2:=by
 have h1:Int.tmod n 3 < 3:=Int.tmod_lt_of_pos n (by decide)
 have h2 : -3 < Int.tmod n 3:=by
  have:=Int.lt_tmod_of_pos n (b:=3) (by decide)
  omega
 have h3:s64 (Int.tmod n 3+3)=Int.tmod n 3+3:=by unfold s64;omega
 unfold opL
 rw [h3]
 generalize Int.tmod n 3=m at *
 rw [Int.tmod_eq_emod_of_nonneg (by omega)]
 omega
theorem Yg3 {th:Int} (ht:1≤th∧th≤6) (n:Int):0≤Yr4 th n∧Yr4 th n < th:=by
 have h1:Int.tmod n th < th:=Int.tmod_lt_of_pos n (by omega)
 have h2 : -th < Int.tmod n th:=by
  have:=Int.lt_tmod_of_pos n (b:=th) (by omega)
  omega
 have h3:s64 (Int.tmod n th+th)=Int.tmod n th+th:=by unfold s64;omega
 unfold Yr4
 rw [h3]
 generalize Int.tmod n th=m at *
 rw [Int.tmod_eq_emod_of_nonneg (by omega)]
 exact ⟨Int.emod_nonneg _ (by omega),Int.emod_lt_of_pos _ (by omega)⟩
theorem ZD9 {c:Cl} (h:V c.key∧V c.val):(0≤(clL c).op∧(clL c).op≤2)∧V (clL c).key∧V (clL c).val:=by
 have:=Y06 c.op
 unfold clL
 split
 ·exact ⟨⟨by show (0:Int)≤0;omega,by show (0:Int)≤2;omega⟩,h⟩
 ·exact ⟨this,⟨by show (0:Int)≤0;omega,by show (0:Int) < _;omega⟩,⟨by show (0:Int)≤0;omega,by show (0:Int) < _;omega⟩⟩
theorem Ws9 (th n:Nat) (calls:List (List Cl)):(Wg0 th n calls).length=th:=by unfold Wg0;simp
theorem WW4 {th n:Nat} {calls:List (List Cl)} {Wb6 draws:List Int} (R:Zu9 calls Wb6 draws) (hn:n≤1000):∀l ∈ Wg0 th n calls,l.length≤1000∧∀c ∈ l,(0≤c.op∧c.op≤2)∧V c.key∧V c.val:=by
 intro l hl
 unfold Wg0 at hl
 obtain ⟨i,_,rfl⟩:=List.mem_map.1 hl
 unfold WP4
 refine ⟨by rw [List.length_map,List.length_take];omega,λc hc=>?_⟩
 obtain ⟨c0,hc0,rfl⟩:=List.mem_map.1 hc
 have hm:=List.mem_of_mem_take hc0
 have:calls.getD i [] ∈ calls∨calls.getD i [] = []:=by
  rw [List.getD_eq_getElem?_getD]
  cases e:calls[i]? with
  | none=>right;rfl
  | some l=>left;exact List.mem_of_getElem? e
 rcases this with h | h
 ·exact ZD9 (R.cl _ h _ hm)
 ·rw [h] at hm;cases hm
def WZ6 (p:(Option Addr × Nat) × List Cl):List Value:=[.slice p.1.1 p.2.length p.1.2]
def Wz2:List (Option Addr × Nat)→List (List Cl)→Hp
 | p :: ps,l :: ls=>We4 41 3 p.1 l.length p.2 (l.flatMap clc)*Wz2 ps ls
 | _,_=>emp
theorem W25 (p:Option Addr × Nat) (l:List Cl):∀(ps:List (Option Addr × Nat)) (ls:List (List Cl)),ps.length=ls.length→Wz2 (ps ++ [p]) (ls ++ [l])=Wz2 ps ls*We4 41 3 p.1 l.length p.2 (l.flatMap clc)
 | [],[],_=>by
  show _*emp=emp*_
  rw [Ww4]
 | [],_ :: _,h=>by simp at h
 | _ :: _,[],h=>by simp at h
 | a :: ps,b :: ls,h=>by
  show _*Wz2 (ps ++ [p]) (ls ++ [l])=(_*Wz2 ps ls)*_
  rw [W25 p l ps ls (by simpa using h),Wc9]
theorem W26 {h:Wa1}:∀ {ps:List (Option Addr × Nat)} {ls:List (List Cl)} {R:Hp},ps.length=ls.length→Sat h (Wz2 ps ls*R)→∀i,i < ls.length→∃p,ps[i]? = some p∧Sees h p.1 ((ls.getD i []).flatMap clc)
 | [],[],_,_,_,i,hi=>by simp at hi
 | [],_ :: _,_,hl,_,_,_=>by simp at hl
 | _ :: _,[],_,hl,_,_,_=>by simp at hl
 | p :: ps,l :: ls,R,hl,H,i,hi=>by
  have H:Sat h ((We4 41 3 p.1 l.length p.2 (l.flatMap clc)*Wz2 ps ls)*R):=H
  rw [Wc9] at H
  cases i with
  | zero=>exact ⟨p,rfl,H.own.sees⟩
  | succ i=>
   have:=W26 (by simpa using hl) H.drop i (by simpa using hi)
   simpa using this
def Zz5 (ca:Option Addr) (cc:Nat) (pa:Option Addr) (pc:Nat) (da:Option Addr) (dc:Nat) (ps:List (Option Addr × Nat)) (calls:List (List Cl)) (Wb6 draws:List Int):Hp:=
 pr (ps.length=calls.length) (We4 58 1 ca calls.length cc ((ps.zip calls).flatMap WZ6)*(Wz2 ps calls*(We4 3 1 pa Wb6.length pc (Wb6.map iv)*We4 5 1 da draws.length dc (draws.map u8v))))
theorem W72 {h:Wa1} {ca pa da:Option Addr} {cc pc dc:Nat} {ps:List (Option Addr × Nat)} {calls:List (List Cl)} {Wb6 draws:List Int} {R:Hp}:Sat h (Zz5 ca cc pa pc da dc ps calls Wb6 draws*R)↔ps.length=calls.length ∧
  Sat h (We4 58 1 ca calls.length cc ((ps.zip calls).flatMap WZ6)*(Wz2 ps calls*(We4 3 1 pa Wb6.length pc (Wb6.map iv)*(We4 5 1 da draws.length dc (draws.map u8v)*R)))):=by
 unfold Zz5
 simp only [Sat.pr,Wc9]
theorem ZE0 {h:Wa1} {ca pa da:Option Addr} {cc pc dc:Nat} {ps:List (Option Addr × Nat)} {calls:List (List Cl)} {Wb6 draws:List Int} {R:Hp} (H:Sat h (Zz5 ca cc pa pc da dc ps calls Wb6 draws*R)):ScrI h ca calls.length pa Wb6.length da draws.length calls Wb6 draws:=by
 obtain ⟨hl,H⟩:=W72.1 H
 refine ⟨⟨rfl,λi hi=>?_,rfl,H.drop.drop.own.sees⟩,rfl,H.drop.drop.drop.own.sees⟩
 obtain ⟨p,hp,hs⟩:=W26 hl H.drop i hi
 refine ⟨p.1,p.2,?_,hs⟩
 refine H.own.sees i _ ?_
 have hz:i < (ps.zip calls).length:=by rw [List.length_zip];omega
 have:=Wh4 (f:=WZ6) (n:=1) (λ_=>rfl) hz (j:=0) (by decide)
 rw [Nat.mul_one,Nat.add_zero] at this
 rw [this]
 have hi2:i < ps.length:=by omega
 have e1:ps[i]=p:=by
  rw [List.getElem?_eq_getElem hi2] at hp
  exact Option.some.inj hp
 have e2:calls.getD i []=calls[i]:=by rw [List.getD_eq_getElem?_getD,List.getElem?_eq_getElem hi];rfl
 rw [e2]
 simp [WZ6,e1]
theorem Zv0:und Tryz.prog 24=.slice 58:=by kernel_rfl
theorem Y07:Wf8 Tryz.prog 58=true:=by kernel_rfl
theorem Zv1:zer Tryz.prog 58=some (.slice none 0 0):=by kernel_rfl
theorem W73:siz Tryz.prog 58=1:=by kernel_rfl
theorem Y08:byt Tryz.prog 58=24:=by kernel_rfl
theorem ZE1:und Tryz.prog 58=.slice 41:=by kernel_rfl
theorem Zg7:Wf8 Tryz.prog 41=true:=by kernel_rfl
theorem ZE2:zer Tryz.prog 41=some (.agg #[.int .i64 0,.int .u32 0,.int .u32 0]):=by kernel_rfl
theorem YA7:siz Tryz.prog 41=3:=by kernel_rfl
theorem Zq4:byt Tryz.prog 41=16:=by kernel_rfl
theorem ZE3:und Tryz.prog 25=.slice 3:=by kernel_rfl
theorem Zg8:Wf8 Tryz.prog 3=true:=by kernel_rfl
theorem ZE4:zer Tryz.prog 3=some (.int .i64 0):=by kernel_rfl
theorem YA8:siz Tryz.prog 3=1:=by kernel_rfl
theorem Zq5:byt Tryz.prog 3=8:=by kernel_rfl
theorem WQ5 {h:Wa1} {row:List Value} {t:TypeId}:Sees (h.push (.cells row.toArray t)) (some ⟨h.size,0,none⟩) row:=by
 intro i v hi
 refine ⟨_,rfl,?_⟩
 rw [Wc6,Nat.zero_add]
 exact Wd4 (t:=t) (row:=row) (by simp) hi
section
variable {K:Value→Wa1→Prop} {h:Wa1} {R:Hp}
theorem ZE5 {a:Option Addr} {l c:Nat} {xs:List Cl} {x:Cl} {X:Hp} {F:Value→Wa1→Prop} (H:Sat h (We4 41 3 a l c (xs.flatMap clc)*X)) (hl:l≤60000)
  (k:∀a' c' h',Sat h' (We4 41 3 a' (l+1) c' ((xs ++ [x]).flatMap clc)*X)→F (.slice a' (l+1) c') h') :
  Wu4 Tryz.prog #[58,58] 58 #[.slice a l c,.slice (some ⟨h.size,0,none⟩) 1 1] (h.push (.cells #[.int .i64 x.op,.int .u32 x.key,.int .u32 x.val] 41)) F:=by
 have H1:=H.push (.cells (clc x).toArray 41)
 have hs:Sees (h.push (.cells (clc x).toArray 41)) (some ⟨h.size,0,none⟩) (clc x):=WQ5
 have e:(.cells #[.int .i64 x.op,.int .u32 x.key,.int .u32 x.val] 41:Obj)=.cells (clc x).toArray 41:=rfl
 rw [e]
 have H2:Sat (h.push (.cells (clc x).toArray 41)) (We4 41 (siz Tryz.prog 41) a l c (xs.flatMap clc)*X):=by
  rw [YA7];exact H1.drop
 refine H2.app ZE1 Zg7 ZE2 (by rw [YA7];rfl) hs (n:=1) (by rw [YA7];rfl) (by simp [clc,Wi5]) (by rw [Zq4];omega) (by rw [Zq4];omega) λa' c' h' H3=>k a' c' h' ?_
 rw [YA7] at H3
 rw [List.flatMap_append,List.flatMap_singleton]
 exact H3
theorem ZE6 {a:Option Addr} {l c:Nat} {xs:List Int} {x:Int} {X:Hp} {F:Value→Wa1→Prop} (H:Sat h (We4 3 1 a l c (xs.map iv)*X)) (hl:l≤60000)
  (k:∀a' c' h',Sat h' (We4 3 1 a' (l+1) c' ((xs ++ [x]).map iv)*X)→F (.slice a' (l+1) c') h') :
  Wu4 Tryz.prog #[25,25] 25 #[.slice a l c,.slice (some ⟨h.size,0,none⟩) 1 1] (h.push (.cells #[.int .i64 x] 3)) F:=by
 have H1:=H.push (.cells [iv x].toArray 3)
 have hs:Sees (h.push (.cells [iv x].toArray 3)) (some ⟨h.size,0,none⟩) [iv x]:=WQ5
 have e:(.cells #[.int .i64 x] 3:Obj)=.cells [iv x].toArray 3:=rfl
 rw [e]
 have H2:Sat (h.push (.cells [iv x].toArray 3)) (We4 3 (siz Tryz.prog 3) a l c (xs.map iv)*X):=by
  rw [YA8];exact H1.drop
 refine H2.app ZE3 Zg8 ZE4 (by rw [YA8];rfl) hs (n:=1) (by rw [YA8];rfl) (by simp [Wi5]) (by rw [Zq5];omega) (by rw [Zq5];omega) λa' c' h' H3=>k a' c' h' ?_
 rw [YA8] at H3
 rw [List.map_append]
 exact H3
theorem ZE7 {a:Option Addr} {l c:Nat} {xs:List Int} {x:Int} {X:Hp} {F:Value→Wa1→Prop} (H:Sat h (We4 5 1 a l c (xs.map u8v)*X)) (hl:l≤60000)
  (k:∀a' c' h',Sat h' (We4 5 1 a' (l+1) c' ((xs ++ [x]).map u8v)*X)→F (.slice a' (l+1) c') h') :
  Wu4 Tryz.prog #[26,26] 26 #[.slice a l c,.slice (some ⟨h.size,0,none⟩) 1 1] (h.push (.cells #[.int .u8 x] 5)) F:=by
 have H1:=H.push (.cells [u8v x].toArray 5)
 have hs:Sees (h.push (.cells [u8v x].toArray 5)) (some ⟨h.size,0,none⟩) [u8v x]:=WQ5
 have e:(.cells #[.int .u8 x] 5:Obj)=.cells [u8v x].toArray 5:=rfl
 rw [e]
 have H2:Sat (h.push (.cells [u8v x].toArray 5)) (We4 5 (siz Tryz.prog 5) a l c (xs.map u8v)*X):=by
  rw [W18];exact H1.drop
 refine H2.app Zp9 Yz6 Zq0 (by rw [W18];rfl) hs (n:=1) (by rw [W18];rfl) (by simp [u8v,Wi5]) (by rw [Yz7];omega) (by rw [Yz7];omega) λa' c' h' H3=>k a' c' h' ?_
 rw [W18] at H3
 rw [List.map_append]
 exact H3
theorem Zv2 {a:Option Addr} {l c:Nat} {ps:List (Option Addr × Nat)} {xs:List (List Cl)} {p:Option Addr × Nat} {x:List Cl} {n:Nat} {X:Hp} {F:Value→Wa1→Prop} (H:Sat h (We4 58 1 a l c ((ps.zip xs).flatMap WZ6)*X)) (hz:ps.length=xs.length) (hn:n=x.length) (hl:l≤60000)
  (k:∀a' c' h',Sat h' (We4 58 1 a' (l+1) c' (((ps ++ [p]).zip (xs ++ [x])).flatMap WZ6)*X)→F (.slice a' (l+1) c') h') :
  Wu4 Tryz.prog #[24,24] 24 #[.slice a l c,.slice (some ⟨h.size,0,none⟩) 1 1] (h.push (.cells #[.slice p.1 n p.2] 58)) F:=by
 subst hn
 have H1:=H.push (.cells (WZ6 (p,x)).toArray 58)
 have hs:Sees (h.push (.cells (WZ6 (p,x)).toArray 58)) (some ⟨h.size,0,none⟩) (WZ6 (p,x)):=WQ5
 have e:(.cells #[.slice p.1 x.length p.2] 58:Obj)=.cells (WZ6 (p,x)).toArray 58:=rfl
 rw [e]
 have H2:Sat (h.push (.cells (WZ6 (p,x)).toArray 58)) (We4 58 (siz Tryz.prog 58) a l c ((ps.zip xs).flatMap WZ6)*X):=by
  rw [W73];exact H1.drop
 refine H2.app Zv0 Y07 Zv1 (by rw [W73];rfl) hs (n:=1) (by rw [W73];rfl) (by simp [WZ6,Wi5]) (by rw [Y08];omega) (by rw [Y08];omega) λa' c' h' H3=>k a' c' h' ?_
 rw [W73] at H3
 rw [List.zip_append hz,List.flatMap_append]
 exact H3
end
end
section
open Go.ChangeShapes Go.WideShapes Go.ChangeAt Go.RowKit
theorem ZM4 {n:Int} (h:(Lit.int .u32 n).wf=true):V n:=by
 unfold Lit.wf at h
 rw [Bool.and_eq_true,decide_eq_true_eq,decide_eq_true_eq] at h
 have e1:IntKind.min .u32=0:=rfl
 have e2:IntKind.max .u32=4294967295:=rfl
 rw [e1,e2] at h
 exact ⟨h.1,by omega⟩
theorem ZK0 {n:Int} (h:(Lit.int .u8 n).wf=true):0≤n∧n < 256:=by
 unfold Lit.wf at h
 rw [Bool.and_eq_true,decide_eq_true_eq,decide_eq_true_eq] at h
 have e1:IntKind.min .u8=0:=rfl
 have e2:IntKind.max .u8=255:=rfl
 rw [e1,e2] at h
 exact ⟨h.1,by omega⟩
theorem Y09 {α:Type} {P:α→Prop} {f:α→List Value} {h:Wa1} {a:Option Addr} {l c:Nat} {es:List {x:α // P x}} (H:SX (λx:{x:α // P x}=>f x.1) h a l c es):∃xs:List α,(∀x ∈ xs,P x)∧SX f h a l c xs:=by
 refine ⟨es.map (·.1),λx hx=>?_,⟨?_,by rw [List.length_map];exact H.len,H.cap⟩⟩
 ·obtain ⟨y,_,rfl⟩:=List.mem_map.1 hx;exact y.2
 ·have:(es.map (·.1)).flatMap f=es.flatMap λx:{x:α // P x}=>f x.1:=by rw [List.flatMap_map]
  rw [this];exact H.s
theorem Sees.oldR {h h':Wa1} {a:Option Addr} {vs:List Value} (H:Sees h a vs) (o:Old h.size h h'):Sees h' a vs:=λi v hi=>by
 obtain ⟨ad,ea,hc⟩:=H i v hi
 exact ⟨ad,ea,(Wf9 (o.2 _ (Wq8 hc))).trans hc⟩
theorem ScrI.old {h h':Wa1} {ca:Option Addr} {cl:Nat} {pa:Option Addr} {pl:Nat} {da:Option Addr} {dl:Nat} {calls:List (List Cl)} {Wb6 draws:List Int} (S:ScrI h ca cl pa pl da dl calls Wb6 draws) (o:Old h.size h h'):ScrI h' ca cl pa pl da dl calls Wb6 draws:=by
 refine ⟨⟨S.f.cs,λi hi=>?_,S.f.ps,S.f.pk.oldR o⟩,S.ds,S.dr.oldR o⟩
 obtain ⟨a,c,⟨ad,e,hc⟩,hs⟩:=S.f.row i hi
 exact ⟨a,c,⟨ad,e,(Wf9 (o.2 _ (Wq8 hc))).trans hc⟩,hs.oldR o⟩
theorem Y10 {h h0:Wa1} (H:Sat h (YU2 h0)):Old h0.size h0 h:=by
 rw [← Wk8 (YU2 h0),Ww4] at H
 exact H.fullOld
theorem Y11 {h h0:Wa1} {P:Hp} (H:Sat h (P*YU2 h0)):Old h0.size h0 h:=by
 rw [Ww4] at H
 exact H.fullOld
section
variable {H:Type} {enc:TypeId × Value→H} {W:World} {fuel:Nat} {cs:List Value} {x:DataW H × List MemPlace}
theorem Zg9 (h:DataW.trod enc Tryz.prog W 0 (λ_=>true) true fuel 41 cs=some x):∃e:{e:Cl // V e.key∧V e.val},cs=clc e.1:=by
 have hl:=Yb9 Tryz.underlying41 h
 rw [W49] at hl
 obtain ⟨_,_,e0⟩:=We8 Tryz.underlying41 h 0 _ rfl
 obtain ⟨_,_,e1⟩:=We8 Tryz.underlying41 h 1 _ rfl
 obtain ⟨_,_,e2⟩:=We8 Tryz.underlying41 h 2 _ rfl
 obtain ⟨n0,u0,_,_⟩:=DataW.trod_int Tryz.underlying3 e0
 obtain ⟨n1,u1,_,r1⟩:=DataW.trod_int Tryz.underlying39 e1
 obtain ⟨n2,u2,_,r2⟩:=DataW.trod_int Tryz.underlying39 e2
 have q0:(cs.drop 0).take (Program.cellsOf Tryz.prog 3) = [.int .i64 n0]:=u0
 have q1:(cs.drop 1).take (Program.cellsOf Tryz.prog 39) = [.int .u32 n1]:=u1
 have q2:(cs.drop 2).take (Program.cellsOf Tryz.prog 39) = [.int .u32 n2]:=u2
 rw [Wi3] at q0
 rw [Yc0] at q1 q2
 refine ⟨⟨⟨n0,n1,n2⟩,ZM4 r1,ZM4 r2⟩,?_⟩
 rcases cs with _ | ⟨c0,cs⟩;· simp at hl
 rcases cs with _ | ⟨c1,cs⟩;· simp at hl
 rcases cs with _ | ⟨c2,cs⟩;· simp at hl
 rcases cs with _ | ⟨c3,cs⟩
 ·simp at q0 q1 q2
  rw [q0,q1,q2];rfl
 ·simp at hl
theorem Zh0 (h:DataW.trod enc Tryz.prog W 0 (λ_=>true) true fuel 5 cs=some x):∃e:{e:Int // 0≤e∧e < 256},cs = [u8v e.1]:=by
 obtain ⟨n,u,_,r⟩:=DataW.trod_int Tryz.underlying5 h
 exact ⟨⟨n,ZK0 r⟩,u⟩
theorem Wr1 (h:DataW.trod enc Tryz.prog W 0 (λ_=>true) true fuel 3 cs=some x):∃e:Int,cs = [iv e]:=by
 obtain ⟨n,u,_,r⟩:=DataW.trod_int Tryz.underlying3 h
 exact ⟨n,u⟩
theorem WE3 {ts t:TypeId} (hu:Program.underlying Tryz.prog ts=some (.slice t)) (h:DataW.trod enc Tryz.prog W 0 (λ_=>true) true fuel ts cs=some x):∃a l c,cs = [.slice a l c]:=by
 rcases DataW.trod_slice hu h with ⟨hcs,_⟩ | ⟨y,l1,c1,elems,rest,n,_,hcs,_⟩
 ·exact ⟨_,_,_,hcs⟩
 ·exact ⟨_,_,_,hcs⟩
theorem Yr5:Program.cellsOf Tryz.prog 58=1:=by kernel_rfl
theorem Yg4:Program.cellsOf Tryz.prog 24=1:=by kernel_rfl
theorem Yg5:Program.cellsOf Tryz.prog 25=1:=by kernel_rfl
theorem Yr6:Program.cellsOf Tryz.prog 26=1:=by kernel_rfl
theorem WW5:Program.cellsOf Tryz.prog 23=7:=by kernel_rfl
theorem Yr7:Program.cellsOf Tryz.prog 28=10:=by kernel_rfl
structure ZH3 (h:Wa1) (a:Option Addr) (l:Nat) (row:List Cl):Prop where
 len:l=row.length
 s:Sees h a (row.flatMap clc)
 v:∀c ∈ row,V c.key∧V c.val
theorem ZE8 {a:Option Addr} {l c:Nat} {d:DataW H} {ps:List MemPlace} (h:DataW.Trod enc Tryz.prog W 0 (λ_=>true) true 58 (.slice a l c) d ps):∃row,ZH3 W.heap a l row:=by
 obtain ⟨es,S⟩:=YU0 (f:=λe:{e:Cl // V e.key∧V e.val}=>clc e.1) (n:=3) (λ_=>rfl) (by omega) Tryz.underlying58 (by kernel_rfl) (λ_ _ _ h=>Zg9 h) h
 obtain ⟨xs,hx,S⟩:=Y09 S
 exact ⟨xs,S.len.symm,S.s,hx⟩
theorem Zv3 {a:Option Addr} {l c:Nat} {d:DataW H} {ps:List MemPlace} (h:DataW.Trod enc Tryz.prog W 0 (λ_=>true) true 24 (.slice a l c) d ps) :
  ∃calls:List (List Cl),calls.length=l∧∀i (hi:i < calls.length),∃ai ci,(∃ad,a=some ad∧Wa2 W.heap (ad.add i)=some (.slice ai calls[i].length ci))∧ZH3 W.heap ai calls[i].length calls[i]:=by
 obtain ⟨fuel,hf⟩:=h
 rcases DataW.trod_slice Tryz.underlying24 hf with ⟨hcs,_⟩ | ⟨x,l1,c1,elems,rest,n,_,hcs,_,_,hl,hm,hlen,hel,_,_⟩
 ·simp [Value.cells] at hcs
  obtain ⟨rfl,rfl,rfl⟩:=hcs
  exact ⟨[],rfl,λi hi=>by simp at hi⟩
 ·simp [Value.cells] at hcs
  obtain ⟨rfl,rfl,rfl⟩:=hcs
  have each:∀i,i < l→∃ai li ci row,Wa2 W.heap (x.add i)=some (.slice ai li ci)∧ZH3 W.heap ai li row:=by
   intro i hi
   have:=hel i hi
   rw [List.getElem?_eq_getElem (by omega),Option.bind_eq_some_iff] at this
   obtain ⟨cs,h1,h2⟩:=this
   obtain ⟨ai,li,ci,rfl⟩:=WE3 Tryz.underlying58 h2
   obtain ⟨row,hr⟩:=ZE8 ⟨_,h2⟩
   rw [Yr5,Nat.mul_one] at h1
   obtain ⟨_,_,h4⟩:=World.cells?_some h1
   have h5:=h4 0 (by omega)
   exact ⟨ai,li,ci,row,h5,hr⟩
  have pick:∀m,m≤l→∃calls:List (List Cl),calls.length=m∧∀i (hi:i < calls.length),∃ai ci,Wa2 W.heap (x.add i)=some (.slice ai calls[i].length ci)∧ZH3 W.heap ai calls[i].length calls[i]:=by
   intro m
   induction m with
   | zero=>intro _;exact ⟨[],rfl,λi hi=>by simp at hi⟩
   | succ m ih=>
    intro hm
    obtain ⟨calls,h1,h3⟩:=ih (by omega)
    obtain ⟨ai,li,ci,row,e1,e2⟩:=each m (by omega)
    refine ⟨calls ++ [row],by simp [h1],λi hi=>?_⟩
    by_cases e:i < calls.length
    ·obtain ⟨ai',ci',q2,q3⟩:=h3 i e
     refine ⟨ai',ci',?_,?_⟩
     ·rw [List.getElem_append_left e];exact q2
     ·rw [List.getElem_append_left e];exact q3
    ·have:i=m:=by simp at hi;omega
     subst this
     have e3:(calls ++ [row])[i]=row:=by
      rw [List.getElem_append_right (by omega)]
      simp [h1]
     have e4:=e2.len
     subst e4
     refine ⟨ai,ci,?_,?_⟩
     ·rw [e3];exact e1
     ·rw [e3];exact e2
  obtain ⟨calls,h1,h3⟩:=pick l (Nat.le_refl _)
  refine ⟨calls,h1,λi hi=>?_⟩
  obtain ⟨ai,ci,q2,q3⟩:=h3 i hi
  exact ⟨ai,ci,⟨x,rfl,q2⟩,q3⟩
theorem ZE9 {f:Int→Value} (l:List Int):(l.flatMap λn=>[f n])=l.map f:=by
 induction l with
 | nil=>rfl
 | cons a l ih=>simp [ih]
theorem W27 (h:DataW.trod enc Tryz.prog W 0 (λ_=>true) true fuel 23 cs=some x):∃c:Mod.Cf,cs = [.int .i64 c.algo,.int .i64 c.threads,.int .i64 c.nodes,.int .i64 c.level,.int .i64 c.batch,.int .i64 c.probes,.int .i64 c.scan]:=by
 have hl:=Yb9 Tryz.underlying23 h
 rw [WW5] at hl
 obtain ⟨_,_,e0⟩:=We8 Tryz.underlying23 h 0 _ rfl
 obtain ⟨n0,u0⟩:=Wr1 e0
 have q0:(cs.drop 0).take (Program.cellsOf Tryz.prog 3) = [.int .i64 n0]:=u0
 rw [Wi3] at q0
 obtain ⟨_,_,e1⟩:=We8 Tryz.underlying23 h 1 _ rfl
 obtain ⟨n1,u1⟩:=Wr1 e1
 have q1:(cs.drop 1).take (Program.cellsOf Tryz.prog 3) = [.int .i64 n1]:=u1
 rw [Wi3] at q1
 obtain ⟨_,_,e2⟩:=We8 Tryz.underlying23 h 2 _ rfl
 obtain ⟨n2,u2⟩:=Wr1 e2
 have q2:(cs.drop 2).take (Program.cellsOf Tryz.prog 3) = [.int .i64 n2]:=u2
 rw [Wi3] at q2
 obtain ⟨_,_,e3⟩:=We8 Tryz.underlying23 h 3 _ rfl
 obtain ⟨n3,u3⟩:=Wr1 e3
 have q3:(cs.drop 3).take (Program.cellsOf Tryz.prog 3) = [.int .i64 n3]:=u3
 rw [Wi3] at q3
 obtain ⟨_,_,e4⟩:=We8 Tryz.underlying23 h 4 _ rfl
 obtain ⟨n4,u4⟩:=Wr1 e4
 have q4:(cs.drop 4).take (Program.cellsOf Tryz.prog 3) = [.int .i64 n4]:=u4
 rw [Wi3] at q4
 obtain ⟨_,_,e5⟩:=We8 Tryz.underlying23 h 5 _ rfl
 obtain ⟨n5,u5⟩:=Wr1 e5
 have q5:(cs.drop 5).take (Program.cellsOf Tryz.prog 3) = [.int .i64 n5]:=u5
 rw [Wi3] at q5
 obtain ⟨_,_,e6⟩:=We8 Tryz.underlying23 h 6 _ rfl
 obtain ⟨n6,u6⟩:=Wr1 e6
 have q6:(cs.drop 6).take (Program.cellsOf Tryz.prog 3) = [.int .i64 n6]:=u6
 rw [Wi3] at q6
 refine ⟨⟨n0,n1,n2,n3,n4,n5,n6⟩,?_⟩
 rcases cs with _ | ⟨c0,cs⟩;· simp at hl
 rcases cs with _ | ⟨c1,cs⟩;· simp at hl
 rcases cs with _ | ⟨c2,cs⟩;· simp at hl
 rcases cs with _ | ⟨c3,cs⟩;· simp at hl
 rcases cs with _ | ⟨c4,cs⟩;· simp at hl
 rcases cs with _ | ⟨c5,cs⟩;· simp at hl
 rcases cs with _ | ⟨c6,cs⟩;· simp at hl
 rcases cs with _ | ⟨c7,cs⟩
 ·simp at q0 q1 q2 q3 q4 q5 q6
  rw [q0,q1,q2,q3,q4,q5,q6]
 ·simp at hl
end
section
variable {H:Type} {enc:TypeId × Value→H} {W:World} {v:Value} {d:DataW H} {ps:List MemPlace} {r:Reach} {b0:Nat}
theorem YJ1 (hval:Value.okWide Tryz.prog W r b0 28 v) (h:DataW.Trod enc Tryz.prog W 0 (λ_=>true) true 28 v d ps) :
  ∃(c:Mod.Cf) (ca:Option Addr) (cl cc:Nat) (pa:Option Addr) (pl pc:Nat) (da:Option Addr) (dl dc:Nat) (calls:List (List Cl)) (Wb6 draws:List Int),
   v=.agg #[.int .i64 c.algo,.int .i64 c.threads,.int .i64 c.nodes,.int .i64 c.level,.int .i64 c.batch,.int .i64 c.probes,.int .i64 c.scan,.slice ca cl cc,.slice pa pl pc,.slice da dl dc]∧ScrI W.heap ca cl pa pl da dl calls Wb6 draws∧Zu9 calls Wb6 draws:=by
 obtain ⟨vs,rfl,hsz⟩:=okWide_struct Tryz.underlying28 hval
 rw [Yr7] at hsz
 obtain ⟨fuel,hf⟩:=h
 obtain ⟨l⟩:=vs
 have hl:l.length=10:=by simpa using hsz
 have hf:DataW.trod enc Tryz.prog W 0 (λ_=>true) true fuel 28 l=some (d,ps):=hf
 obtain ⟨m0,x0,e0⟩:=We8 Tryz.underlying28 hf 0 _ rfl
 obtain ⟨m1,x1,e1⟩:=We8 Tryz.underlying28 hf 1 _ rfl
 obtain ⟨m2,x2,e2⟩:=We8 Tryz.underlying28 hf 2 _ rfl
 obtain ⟨m3,x3,e3⟩:=We8 Tryz.underlying28 hf 3 _ rfl
 obtain ⟨c,q0⟩:=W27 e0
 obtain ⟨ca,cl,cc,q1⟩:=WE3 Tryz.underlying24 e1
 obtain ⟨pa,pl,pc,q2⟩:=WE3 Tryz.underlying25 e2
 obtain ⟨da,dl,dc,q3⟩:=WE3 Tryz.underlying26 e3
 rw [q1] at e1
 rw [q2] at e2
 rw [q3] at e3
 obtain ⟨calls,hcl,hrow⟩:=Zv3 (d:=x1.1) (ps:=x1.2) ⟨m1,e1⟩
 obtain ⟨Wb6,SP⟩:=YU0 (f:=λe:Int=>[iv e]) (n:=1) (λ_=>rfl) (by omega) Tryz.underlying25 (by kernel_rfl) (λ_ _ _ h=>Wr1 h) (d:=x2.1) (ps:=x2.2) ⟨m2,e2⟩
 obtain ⟨des,SD⟩:=YU0 (f:=λe:{e:Int // 0≤e∧e < 256}=>[u8v e.1]) (n:=1) (λ_=>rfl) (by omega) Tryz.underlying26 (by kernel_rfl) (λ_ _ _ h=>Zh0 h) (d:=x3.1) (ps:=x3.2) ⟨m3,e3⟩
 obtain ⟨draws,hdr,SD⟩:=Y09 (f:=λe:Int=>[u8v e]) SD
 refine ⟨c,ca,cl,cc,pa,pl,pc,da,dl,dc,calls,Wb6,draws,?_,⟨⟨hcl.symm,λi hi=>?_,SP.len.symm,?_⟩,SD.len.symm,?_⟩,⟨λl hl c hc=>?_,hdr⟩⟩
 ·have p0:(l.drop 0).take (Program.cellsOf Tryz.prog 23)=_:=q0
  have p1:(l.drop 7).take (Program.cellsOf Tryz.prog 24)=_:=q1
  have p2:(l.drop 8).take (Program.cellsOf Tryz.prog 25)=_:=q2
  have p3:(l.drop 9).take (Program.cellsOf Tryz.prog 26)=_:=q3
  rw [WW5] at p0
  rw [Yg4] at p1
  rw [Yg5] at p2
  rw [Yr6] at p3
  clear q0 q1 q2 q3 e0 e1 e2 e3 hf hval hsz
  rcases l with _ | ⟨y0,l⟩;· simp at hl
  rcases l with _ | ⟨y1,l⟩;· simp at hl
  rcases l with _ | ⟨y2,l⟩;· simp at hl
  rcases l with _ | ⟨y3,l⟩;· simp at hl
  rcases l with _ | ⟨y4,l⟩;· simp at hl
  rcases l with _ | ⟨y5,l⟩;· simp at hl
  rcases l with _ | ⟨y6,l⟩;· simp at hl
  rcases l with _ | ⟨y7,l⟩;· simp at hl
  rcases l with _ | ⟨y8,l⟩;· simp at hl
  rcases l with _ | ⟨y9,l⟩;· simp at hl
  rcases l with _ | ⟨y10,l⟩
  ·simp at p0 p1 p2 p3
   obtain ⟨r0,r1,r2,r3,r4,r5,r6⟩:=p0
   rw [r0,r1,r2,r3,r4,r5,r6,p1,p2,p3]
  ·simp at hl
 ·obtain ⟨ai,ci,q2,q3⟩:=hrow i hi
  have e:calls.getD i []=calls[i]:=by rw [List.getD_eq_getElem?_getD,List.getElem?_eq_getElem hi];rfl
  rw [e]
  exact ⟨ai,ci,q2,q3.s⟩
 ·have:=SP.s
  rw [ZE9] at this
  exact this
 ·have:=SD.s
  rw [ZE9] at this
  exact this
 ·obtain ⟨i,hi,rfl⟩:=List.getElem_of_mem hl
  obtain ⟨ai,ci,q2,q3⟩:=hrow i hi
  exact q3.v c hc
theorem Y12 (hval:Value.okWide Tryz.prog W r b0 23 v) (h:DataW.Trod enc Tryz.prog W 0 (λ_=>true) true 23 v d ps):∃c:Mod.Cf,v=.agg #[.int .i64 c.algo,.int .i64 c.threads,.int .i64 c.nodes,.int .i64 c.level,.int .i64 c.batch,.int .i64 c.probes,.int .i64 c.scan]:=by
 obtain ⟨vs,rfl,hsz⟩:=okWide_struct Tryz.underlying23 hval
 obtain ⟨fuel,hf⟩:=h
 obtain ⟨l⟩:=vs
 have hf:DataW.trod enc Tryz.prog W 0 (λ_=>true) true fuel 23 l=some (d,ps):=hf
 obtain ⟨c,q⟩:=W27 hf
 exact ⟨c,by rw [q]⟩
end
end
section
open Mod
section
variable {K:Value→Wa1→Prop} {h:Wa1} {M:Nat} {Ts:List Nat} {R:Hp} {d:Run→Run} {W:Run→Prop} {ins:Int} {Inv:Nat→Mac→Prop} {m:Mac}
theorem Wn3 {m:Mac} {k:Nat} (h:k < m.th.length):m.th[k]? = some (Wf0 m k):=by
 unfold Wf0;rw [List.getElem?_eq_getElem h];simp [h]
theorem WW6 {m z:Mac} {k:Nat} {t:Thr} (h:k < m.th.length):Wf0 (z.setTh (m.th.set k t)) k=t:=by
 unfold Wf0 Mod.Mac.setTh
 rw [List.getD_eq_getElem?_getD]
 simp [h]
end
end
section
set_option maxRecDepth 100000
abbrev g30 (K:Value→Wa1→Prop) (h H1:Wa1) (xa:Option Addr) (xb xc:Nat) (xd:Bool):Prop:=
 (dl7 H1 h.size λa b c d e f g=>cf 62 #[.agg #[a,b,c,d,e,f,g],.slice xa xb xc,.bool xd] H1 λa b=>Wg5 a λc=>Wc0 c 0 λc=>Wb1 c λc=>Wg5 a λa=>Wc0 a 1 λa=>asInt .i64 a λa=>ifB (a != 0) (K (.tuple #[.pointer none,.int .i64 a]) b) (exI λI15=>(lI .i64 (Array.push b (.cells #[.pointer c,.nilFunc,.int .i64 0] 115)) ⟨h.size,0,none⟩ λa=>ifB (a == 0) (Wb8 (.pointer (some ⟨b.size,0,none⟩)) (stH (Array.push b (.cells #[.pointer c,.nilFunc,.int .i64 0] 115)) ⟨b.size,1,none⟩ (.func (.func 63) #[] #[]) λd=>Wb8 (.pointer (some ⟨b.size,0,none⟩)) (stH d ⟨b.size,2,none⟩ (.int .i64 11) λd=>I15 [.bool true,.tuple #[]] d))) (ifB (a == 1) (Wb8 (.pointer (some ⟨b.size,0,none⟩)) (stH (Array.push b (.cells #[.pointer c,.nilFunc,.int .i64 0] 115)) ⟨b.size,1,none⟩ (.func (.func 64) #[] #[]) λa=>Wb8 (.pointer (some ⟨b.size,0,none⟩)) (stH a ⟨b.size,2,none⟩ (.int .i64 21) λa=>I15 [.bool false,.bool true] a))) (Wb8 (.pointer (some ⟨b.size,0,none⟩)) (stH (Array.push b (.cells #[.pointer c,.nilFunc,.int .i64 0] 115)) ⟨b.size,1,none⟩ (.func (.func 65) #[] #[]) λa=>Wb8 (.pointer (some ⟨b.size,0,none⟩)) (stH a ⟨b.size,2,none⟩ (.int .i64 31) λa=>I15 [.bool false,.bool false] a)))))∧(∀(a c:Value) (d:Env) (d:Wa1),(I15 [a,c] d)→(K (.tuple #[.pointer (some ⟨b.size,0,none⟩),.int .i64 0]) d))))
def F30 (K:Value→Wa1→Prop) (h:Wa1) (xa xb xc xd xe xf xg:Int) (xh:Option Addr) (xi xj:Nat) (xk:Bool):Prop:=
 (g30 K h (Array.push h (.cells #[.int .i64 xa,.int .i64 xb,.int .i64 xc,.int .i64 xd,.int .i64 xe,.int .i64 xf,.int .i64 xg] 23)) xh xi xj xk)
theorem call30 {K:Value→Wa1→Prop} {h:Wa1} {xa xb xc xd xe xf xg:Int} {xh:Option Addr} {xi xj:Nat} {xk:Bool} (H:F30 K h xa xb xc xd xe xf xg xh xi xj xk):Wa5 Tryz.prog 30 #[(.agg #[(.int .i64 xa),(.int .i64 xb),(.int .i64 xc),(.int .i64 xd),(.int .i64 xe),(.int .i64 xf),(.int .i64 xg)]),(.slice xh xi xj),(.bool xk)] h K:=
 Wa4 Tryz.func30 (by kernel_rfl) (Eq.mp (by kernel_rfl) H)
abbrev g77 (K:Value→Wa1→Prop) (h H1:Wa1) (xa:Option Addr) (xb:Int):Prop:=
 (ifB (Option.isNone xa) (K (.int .i64 1) H1) (cf 121 #[.pointer xa,.int .i64 xb] H1 λa b=>Wb1 a λa=>ifB (Option.isNone a) (K (.int .i64 2) b) (dl3 b h.size λa c d=>cf 61 #[.agg #[a,c,d]] b λa b=>asBool a λa=>ifB (!a) (K (.int .i64 1) b) (cf 66 #[.pointer xa,.int .i64 xb] b λa b=>asBool a λa=>ifB a (K (.int .i64 5) b) (nP xa λa=>ldH b (Addr.add a 2) λc=>asInt .i64 c λd=>ldH b ⟨h.size,0,none⟩ λe=>asInt .i64 e λf=>ldH b ⟨h.size,1,none⟩ λg=>asInt .u32 g λi=>ldH b ⟨h.size,2,none⟩ λj=>asInt .u32 j λk=>(cf 121 #[.pointer xa,.int .i64 xb] b λl m=>Wb1 l λl=>ce m h.size 2 j (ce m h.size 1 g (ce m h.size 0 e (((Wa2 m (Addr.add a 2))=(some c))∧(((Wa2 (Array.push m (.cells #[.int .u64 (IntKind.wrap .u64 i),.int .u64 (IntKind.wrap .u64 k)] 178)) ⟨h.size,0,none⟩)=(some e))∧(((Wa2 (Array.push m (.cells #[.int .u64 (IntKind.wrap .u64 i),.int .u64 (IntKind.wrap .u64 k)] 178)) (Addr.add a 2))=(some c))∧(cf 130 #[.pointer l,.int .i64 (IntKind.wrap .i64 (d+f)),.slice (some ⟨m.size,0,none⟩) 2 2] (Array.push m (.cells #[.int .u64 (IntKind.wrap .u64 i),.int .u64 (IntKind.wrap .u64 k)] 178)) λl l=>K (.int .i64 0) l)))))))∧(((Wa2 (Array.push b (.cells #[.int .u64 (IntKind.wrap .u64 i),.int .u64 (IntKind.wrap .u64 k)] 178)) ⟨h.size,0,none⟩)=(some e))∧(((Wa2 (Array.push b (.cells #[.int .u64 (IntKind.wrap .u64 i),.int .u64 (IntKind.wrap .u64 k)] 178)) (Addr.add a 2))=(some c))∧(cf 121 #[.pointer xa,.int .i64 xb] (Array.push b (.cells #[.int .u64 (IntKind.wrap .u64 i),.int .u64 (IntKind.wrap .u64 k)] 178)) λi k=>Wb1 i λi=>ce k h.size 2 j (ce k h.size 1 g (ce k h.size 0 e (((Wa2 k (Addr.add a 2))=(some c))∧(cf 130 #[.pointer i,.int .i64 (IntKind.wrap .i64 (d+f)),.slice (some ⟨b.size,0,none⟩) 2 2] k λa a=>K (.int .i64 0) a))))))))))))
def F77 (K:Value→Wa1→Prop) (h:Wa1) (xa:Option Addr) (xb xc xd xe:Int):Prop:=
 (g77 K h (Array.push h (.cells #[.int .i64 xc,.int .u32 xd,.int .u32 xe] 41)) xa xb)
theorem call77 {K:Value→Wa1→Prop} {h:Wa1} {xa:Option Addr} {xb xc xd xe:Int} (H:F77 K h xa xb xc xd xe):Wa5 Tryz.prog 77 #[(.pointer xa),(.int .i64 xb),(.agg #[(.int .i64 xc),(.int .u32 xd),(.int .u32 xe)])] h K:=
 Wa4 Tryz.func77 (by kernel_rfl) (Eq.mp (by kernel_rfl) H)
def F31 (K:Value→Wa1→Prop) (h:Wa1) (xa:Option Addr):Prop:=
 (ifB (Option.isNone xa) (K (.pointer none) h) (nP xa λa=>lP h a λa=>K (.pointer a) h))
theorem call31 {K:Value→Wa1→Prop} {h:Wa1} {xa:Option Addr} (H:F31 K h xa):Wa5 Tryz.prog 31 #[(.pointer xa)] h K:=
 Wa4 Tryz.func31 (by kernel_rfl) (Eq.mp (by kernel_rfl) H)
def F121 (K:Value→Wa1→Prop) (h:Wa1) (xa:Option Addr) (xb:Int):Prop:=
 (cf 31 #[.pointer xa] h λa b=>Wb1 a λa=>cf 196 #[.pointer a,.int .i64 xb] b λa b=>Wb1 a λa=>K (.pointer a) b)
theorem call121 {K:Value→Wa1→Prop} {h:Wa1} {xa:Option Addr} {xb:Int} (H:F121 K h xa xb):Wa5 Tryz.prog 121 #[(.pointer xa),(.int .i64 xb)] h K:=
 Wa4 Tryz.func121 (by kernel_rfl) (Eq.mp (by kernel_rfl) H)
def F66 (K:Value→Wa1→Prop) (h:Wa1) (xa:Option Addr) (xb:Int):Prop:=
 (cf 121 #[.pointer xa,.int .i64 xb] h λa b=>Wb1 a λa=>cf 105 #[.pointer a] b λa b=>Wb1 a λa=>K (.bool (!(Option.isNone a))) b)
theorem call66 {K:Value→Wa1→Prop} {h:Wa1} {xa:Option Addr} {xb:Int} (H:F66 K h xa xb):Wa5 Tryz.prog 66 #[(.pointer xa),(.int .i64 xb)] h K:=
 Wa4 Tryz.func66 (by kernel_rfl) (Eq.mp (by kernel_rfl) H)
def F68 (K:Value→Wa1→Prop) (h:Wa1) (xa:Option Addr) (xb:Int):Prop:=
 (exI λI0=>(cf 66 #[.pointer xa,.int .i64 xb] (Array.push h (.cells #[.int .i64 0,.int .u32 0,.int .u32 0] 43)) λa b=>asBool a λa=>ifB (!a) (I0 [.bool true] b) (nP xa λa=>lP b a λa=>nP xa λc=>ldH b (Addr.add c 1) λc=>cf 123 #[.pointer a,.int .i64 xb,c] b λa b=>asBool a λa=>I0 [.bool a] b))∧(∀(a:Value) (b:Env) (b:Wa1),(I0 [a] b)→(asBool a λa=>ifB a (dw3 b h.size (.int .i64 0) (.int .u32 0) (.int .u32 0) λa=>dl3 a h.size λc d e=>K (.tuple #[.agg #[c,d,e],.bool false]) a) (cf 121 #[.pointer xa,.int .i64 xb] b λa b=>Wb1 a λa=>nP a λa=>ldH b (Addr.add a 2) λc=>ldH b (Addr.add a 3) λd=>ldH b (Addr.add a 4) λa=>stH (Array.push b (.cells #[.int .u64 0,.int .u64 0,.int .u64 0] 179)) ⟨b.size,0,none⟩ c λc=>stH c ⟨b.size,1,none⟩ d λc=>stH c ⟨b.size,2,none⟩ a λa=>bd 0 3 (lI .u64 a ⟨b.size,0,none⟩ λc=>bd 1 3 (lI .u64 a ⟨b.size,1,none⟩ λd=>bd 2 3 (lI .u64 a ⟨b.size,2,none⟩ λb=>dw3 a h.size (.int .i64 (IntKind.wrap .i64 c)) (.int .u32 (IntKind.wrap .u32 d)) (.int .u32 (IntKind.wrap .u32 b)) λa=>dl3 a h.size λb c d=>K (.tuple #[.agg #[b,c,d],.bool true]) a)))))))
theorem call68 {K:Value→Wa1→Prop} {h:Wa1} {xa:Option Addr} {xb:Int} (H:F68 K h xa xb):Wa5 Tryz.prog 68 #[(.pointer xa),(.int .i64 xb)] h K:=
 Wa4 Tryz.func68 (by kernel_rfl) (Eq.mp (by kernel_rfl) H)
end
section
open Mod
abbrev qC (M f:Nat) (ins:Int):List Value:=[mP M,.func (.func f) #[] #[],.int .i64 ins]
def suS (Q M f:Nat) (ins:Int) (Ts:List Nat) (m:Mac):Hp:=pt Q (.cells (qC M f ins).toArray 115)*WE9 M Ts m
theorem WC4 {h:Wa1} {Q M f:Nat} {ins:Int} {Ts:List Nat} {m:Mac} {R:Hp}:Sat h (suS Q M f ins Ts m*R)↔Sat h (pt Q (.cells (qC M f ins).toArray 115)*(WE9 M Ts m*R)):=by
 unfold suS
 rw [Wc9]
theorem Wq1 {h:Wa1} {Q M f:Nat} {ins:Int} {Ts:List Nat} {m:Mac} {R:Hp}:Sat h (suS Q M f ins Ts m*R)↔Sat h (WE9 M Ts m*(pt Q (.cells (qC M f ins).toArray 115)*R)):=by
 rw [WC4,Wb4]
def WN1 (c:Cl):Bool:=c.op == 0 || ((c.op == 1 || c.op == 2) && (c.key == 0 && c.val == 0))
theorem Yg6 {h:Wa1} {M:Nat} {Ts:List Nat} {m:Mac} {R:Hp} (H:Sat h (WE9 M Ts m*R)):Ts.length=m.th.length:=by
 obtain ⟨_,_,hl,_⟩:=Wl9.1 H
 exact hl.1
section
variable {K:Value→Wa1→Prop} {h:Wa1} {Q M f:Nat} {ins:Int} {Ts:List Nat} {m:Mac} {R:Hp}
theorem WE4 (H:Sat h (suS Q M f ins Ts m*R)) (k:K (mP M) h):Wa5 Tryz.prog 31 #[mP Q] h K:=by
 refine call31 ?_
 unfold F31 lP nP
 have H1:=WC4.1 H
 refine Wb7 (λhh=>by cases hh) (λ_=>?_)
 refine sb ?_
 refine ldR H1.at rfl ?_
 refine sb ?_
 exact k
theorem Wo8 (H:Sat h (suS Q M f ins Ts m*R)) {i:Int} (k0:(i < 0∨m.th.length≤i)→K (.pointer none) h) (k:∀T,0≤i→Ts[i.toNat]? = some T→K (mP T) h) :
  Wa5 Tryz.prog 121 #[mP Q,.int .i64 i] h K:=by
 refine call121 ?_
 unfold F121 cf
 refine Wa0 (WE4 H ?_)
 refine sb ?_
 refine Wa0 (WU7 (Wq1.1 H) (λc=>?_) λT h0 hT=>?_)
 ·refine sb ?_
  exact k0 c
 ·refine sb ?_
  exact k T h0 hT
theorem YJ2 (H:Sat h (suS Q M f ins Ts m*R)) {k T:Nat} (hk:Ts[k]? = some T) (hlt:k < m.th.length) {F:Value→Wa1→Prop} (k0:(Wf0 m k).fr = []→F (.pointer none) h) (k1:∀b o,(Wf0 m k).fr≠[]→F (.pointer (some ⟨b,o,none⟩)) h) :
  Wa5 Tryz.prog 105 #[mP T] h F:=by
 obtain ⟨tv,Q2,H2,re2⟩:=WD8 (Wq1.1 H) hk (Wn3 hlt)
 exact Zf2 H2 (λe=>k0 e) λb o hne _ _=>k1 b o hne
theorem WH3 (H:Sat h (suS Q M f ins Ts m*R)) {i:Nat} (hi:i < m.th.length) (k:K (.bool (!(Wf0 m i).fr.isEmpty)) h):Wa5 Tryz.prog 66 #[mP Q,.int .i64 i] h K:=by
 refine call66 ?_
 unfold F66 cf
 refine Wa0 (Wo8 H (λc=>by omega) λT _ hT=>?_)
 refine sb ?_
 rw [Int.toNat_natCast] at hT
 refine Wa0 (YJ2 H hT hi (λe=>?_) λb o hne=>?_)
 ·refine sb ?_
  rw [e] at k
  exact k
 ·refine sb ?_
  cases e:(Wf0 m i).fr with
  | nil=>exact absurd e hne
  | cons a l=>rw [e] at k;exact k
theorem WC5 {c:Cl} (k:∀h',Old h.size h h'→K (.bool (WN1 c)) h'):Wa5 Tryz.prog 61 #[.agg #[.int .i64 c.op,.int .u32 c.key,.int .u32 c.val]] h K:=by
 refine WF2 (c:=⟨c.op,c.key,c.val⟩) λh' o=>?_
 exact k h' o
theorem WW7 (H:Sat h (suS Q M f ins Ts m*R)) {k T:Nat} {op:Int} {c:Cl} (hk:Ts[k]? = some T) (hk2:k < m.th.length) (he:(Wf0 m k).fr = []) (hc:U c.key) (hv:U c.val) {F:Value→Wa1→Prop}
  (kk:∀h',Sat h' (suS Q M f ins Ts (m.setTh (m.th.set k ((Wf0 m k).push op [c.key,c.val])))*R)→F (.tuple #[]) h') :
  Wa5 Tryz.prog 130 #[mP T,.int .i64 op,.slice (some ⟨h.size,0,none⟩) 2 2] (h.push (.cells #[.int .u64 c.key,.int .u64 c.val] 178)) F:=by
 obtain ⟨tv,Q2,H2,re2⟩:=WD8 (Wq1.1 H) hk (Wn3 hk2)
 exact YX1 H2 [c.key,c.val] rfl (Yf0 hc hv) (by omega) (by show (Wf0 m k).fr.length < _;rw [he];decide) λh' b o _ _ H3=>kk h' (Wq1.2 (re2 _ _ _ rfl (RunS.none H3)))
theorem Yg7 (H:Sat h (suS Q M f ins Ts m*R)) {i:Int} {c:Cl} (hins:0≤ins∧ins≤100) (hc:V c.key∧V c.val)
  (k2:(i < 0∨m.th.length≤i)→∀h',Sat h' (suS Q M f ins Ts m*R)→K (.int .i64 2) h')
  (k1:0≤i∧i < m.th.length→WN1 c=false→∀h',Sat h' (suS Q M f ins Ts m*R)→K (.int .i64 1) h')
  (k5:0≤i∧i < m.th.length→WN1 c=true→(Wf0 m i.toNat).fr≠[]→∀h',Sat h' (suS Q M f ins Ts m*R)→K (.int .i64 5) h')
  (k0:0≤i∧i < m.th.length→WN1 c=true→(Wf0 m i.toNat).fr = []→∀h',Sat h' (suS Q M f ins Ts (m.setTh (m.th.set i.toNat ((Wf0 m i.toNat).push (ins+c.op) [c.key,c.val])))*R)→K (.int .i64 0) h') :
  Wa5 Tryz.prog 77 #[mP Q,.int .i64 i,.agg #[.int .i64 c.op,.int .u32 c.key,.int .u32 c.val]] h K:=by
 refine call77 ?_
 unfold F77 g77 cf ce nP dl3
 have H1:=H.push (.cells (clc c).toArray 41)
 rw [show h.push (.cells #[.int .i64 c.op,.int .u32 c.key,.int .u32 c.val] 41)=h.push (.cells (clc c).toArray 41) from rfl]
 generalize h.push (.cells (clc c).toArray 41)=h1 at *
 generalize h.size=CB at *
 rw [Wb4] at H1
 refine Wb7 (λhh=>by cases hh) (λ_=>?_)
 refine Wa0 (Wo8 H1 (λcc=>?_) λT h0 hT=>?_)
 ·refine sb ?_
  exact k2 cc h1 H1.drop2
 refine sb ?_
 have hT':=hT
 have hlen:=Yg6 (Wq1.1 H)
 have hlt:i.toNat < m.th.length:=by rw [← hlen];exact (List.getElem?_eq_some_iff.1 hT).1
 have hir:0≤i∧i < m.th.length:=by omega
 have O:=H1.at2
 refine ldR O rfl (ldR O rfl (ldR O rfl ?_))
 refine Wa0 (WC5 λh2 o2=>?_)
 have H2:=H1.old o2
 clear H1 O
 refine sb ?_
 refine Wb7 (λhr=>k1 hir (by simpa using hr) h2 H2.drop2) (λhr=>?_)
 have hr:WN1 c=true:=by simpa using hr
 obtain ⟨ii,hii⟩ : ∃ii:Nat,i=ii:=⟨i.toNat,by omega⟩
 subst hii
 rw [Int.toNat_natCast] at *
 refine Wa0 (WH3 H2 hlt ?_)
 refine sb ?_
 refine Wb7 (λhb=>k5 hir hr (λe=>by rw [e] at hb;cases hb) h2 H2.drop2) (λhb=>?_)
 have he:(Wf0 m ii).fr = []:=by
  cases e:(Wf0 m ii).fr with
  | nil=>rfl
  | cons a l=>rw [e] at hb;cases hb
 have hop:0≤c.op∧c.op≤2:=by
  unfold WN1 at hr
  simp only [Bool.or_eq_true,Bool.and_eq_true,beq_iff_eq] at hr
  omega
 obtain ⟨hkey,hval⟩:=hc
 have hu1:Mod.u64 c.key=c.key:=by have:=hkey.1;have:=hkey.2;unfold Mod.u64;omega
 have hu2:Mod.u64 c.val=c.val:=by have:=hval.1;have:=hval.2;unfold Mod.u64;omega
 have hu3:s64 (ins+c.op)=ins+c.op:=by unfold s64;omega
 have OQ:=(WC4.1 H2).at
 have OC:=H2.at2
 refine ldR OQ rfl ?_
 refine sb ?_
 refine ldR OC rfl ?_
 refine sb ?_
 refine ldR OC rfl ?_
 refine sb ?_
 refine ldR OC rfl ?_
 try simp only [Wb8,bsx,Nat.reduceAdd,Int.reduceLE,Int.reduceLT,Int.reduceToNat,hu1,hu2,hu3]
 refine ⟨?_,?_⟩
 ·refine Wa0 (Wo8 H2 (λcc=>by omega) λT2 _ hT2=>?_)
  rw [Int.toNat_natCast,hT] at hT2
  cases hT2
  refine sb ?_
  repeat (first | refine ⟨Wc4 (Wd4 OC rfl),?_⟩ | refine ⟨Wc4 (Wd4 OQ rfl),?_⟩ | refine ⟨Wd4 OC rfl,?_⟩ | refine ⟨Wd4 OQ rfl,?_⟩)
  refine Wa0 (WW7 H2 hT hlt he ⟨hkey.1,by have:=hkey.2;omega⟩ ⟨hval.1,by have:=hval.2;omega⟩ λh3 H3=>?_)
  exact k0 hir hr he h3 H3.drop2
 ·repeat (first | refine ⟨Wc4 (Wd4 OC rfl),?_⟩ | refine ⟨Wc4 (Wd4 OQ rfl),?_⟩ | refine ⟨Wd4 OC rfl,?_⟩ | refine ⟨Wd4 OQ rfl,?_⟩)
  have H3:=H2.push (.cells (uvs [c.key,c.val]).toArray 178)
  rw [Wb4] at H3
  have OC3:=H3.at3
  have OQ3:=(WC4.1 H3).at
  have e:h2.push (.cells #[.int .u64 c.key,.int .u64 c.val] 178)=h2.push (.cells (uvs [c.key,c.val]).toArray 178):=rfl
  rw [e]
  refine Wa0 (Wo8 H3 (λcc=>by omega) λT2 _ hT2=>?_)
  rw [Int.toNat_natCast,hT] at hT2
  cases hT2
  refine sb ?_
  rw [← e]
  repeat (first | refine ⟨Wc4 (Wd4 OC rfl),?_⟩ | refine ⟨Wc4 (Wd4 OQ rfl),?_⟩)
  refine Wa0 (WW7 H2 hT hlt he ⟨hkey.1,by have:=hkey.2;omega⟩ ⟨hval.1,by have:=hval.2;omega⟩ λh3 H3=>?_)
  exact k0 hir hr he h3 H3.drop2
variable {d:Run→Run} {W:Run→Prop} {Inv:Nat→Mac→Prop}
theorem Yr8 (D:DoC f d W) (H:Sat h (suS Q M f ins Ts m*R)) {i n:Nat} {z:Run} (hi:i < m.th.length) (he:(Wf0 m i).fr≠[])
  (hz:Mod.bits d n ⟨m.quiet,Wf0 m i,i⟩=some z) (hs:Zz1 d W n ⟨m.quiet,Wf0 m i,i⟩) (hid:z.id=i)
  (k1:z.t.fr≠[]→∀h',Sat h' (suS Q M f ins Ts (z.m.setTh (m.th.set i z.t))*R)→K (.tuple #[.agg #[.int .i64 0,.int .u32 0,.int .u32 0],.bool false]) h')
  (k0:z.t.fr = []→∀h',Sat h' (suS Q M f ins Ts (z.m.setTh (m.th.set i z.t))*R)→K (.tuple #[.agg #[.int .i64 (WH2 z.t).op,.int .u32 (WH2 z.t).key,.int .u32 (WH2 z.t).val],.bool true]) h') :
  Wa5 Tryz.prog 68 #[mP Q,.int .i64 i] h K:=by
 refine call68 ?_
 unfold F68 cf bd lP lI nP dl3 dw3
 have H1:=H.push (.cells #[.int .i64 0,.int .u32 0,.int .u32 0] 43)
 generalize h.push (.cells #[.int .i64 0,.int .u32 0,.int .u32 0] 43)=h1 at *
 generalize h.size=AB at *
 have hlen:=Yg6 (Wq1.1 H)
 obtain ⟨T,hT⟩ : ∃T,Ts[i]? = some T:=⟨_,List.getElem?_eq_getElem (by omega)⟩
 have hthr:Wf0 (z.m.setTh (m.th.set i z.t)) i=z.t:=WW6 hi
 have hl2:(z.m.setTh (m.th.set i z.t)).th.length=m.th.length:=by show (m.th.set i z.t).length=_;rw [List.length_set]
 refine ⟨λvs h'=>vs = [.bool (!z.t.fr.isEmpty)]∧Sat h' (suS Q M f ins Ts (z.m.setTh (m.th.set i z.t))*(pt AB (.cells #[.int .i64 0,.int .u32 0,.int .u32 0] 43)*R)),?_,?_⟩
 ·rw [Wb4] at H1
  refine Wa0 (WH3 H1 hi ?_)
  refine sb ?_
  refine Wb7 (λhb=>?_) (λ_=>?_)
  ·exact absurd (List.isEmpty_iff.1 (by simpa using hb)) he
  have OQ:=(WC4.1 H1).at
  refine ldR OQ rfl ?_
  refine sb ?_
  refine ldR OQ rfl ?_
  refine Wa0 (W66 D (Wq1.1 H1) (n:=n) (z:=z) (i:=i) (by omega) (by rw [Int.toNat_natCast];exact Wn3 hi) hz hs hid λh' H2=>?_)
  rw [Int.toNat_natCast] at H2
  refine sb ?_
  first | exact ⟨rfl,Wq1.2 H2⟩ | exact Wq1.2 H2
 generalize z.m.setTh (m.th.set i z.t)=m2 at *
 rintro v12 g13 h14 ⟨e,H2⟩
 cases e
 refine sb ?_
 refine Wb7 (λhb=>?_) (λhb=>?_)
 ·have hne:z.t.fr≠[]:=λe=>by rw [e] at hb;cases hb
  rw [Wb4] at H2
  refine Wd3 (vs:=[.int .i64 0,.int .u32 0,.int .u32 0]) H2.at rfl (by simp [Wi5]) λh2 w=>?_
  have H3:=H2.wr w.new w.old
  refine ldR H3.at rfl (ldR H3.at rfl (ldR H3.at rfl ?_))
  exact k1 hne h2 H3.drop
 ·have hnil:z.t.fr = []:=by
   cases e:z.t.fr with
   | nil=>rfl
   | cons a l=>rw [e] at hb;cases hb
  refine Wa0 (Wo8 H2 (λcc=>by omega) λT2 _ hT2=>?_)
  rw [Int.toNat_natCast,hT] at hT2
  cases hT2
  refine sb ?_
  obtain ⟨tv,Q2,H3,re⟩:=WD8 (Wq1.1 H2) hT (Wn3 (by omega))
  rw [hthr] at H3
  obtain ⟨B,O⟩:=W58 (RunS.thr H3)
  refine ldR O rfl (ldR O rfl (ldR O rfl ?_))
  have H4:=H2.push (.cells #[.int .u64 0,.int .u64 0,.int .u64 0] 179)
  generalize h14.push (.cells #[.int .u64 0,.int .u64 0,.int .u64 0] 179)=h15 at *
  generalize h14.size=RB at *
  refine Wd3 (vs:=[.int .u64 (z.t.ret.getD 0 0),.int .u64 (z.t.ret.getD 1 0),.int .u64 (z.t.ret.getD 2 0)]) H4.at rfl (by simp [Wi5]) λh16 w=>?_
  have H5:=H4.wr w.new w.old
  refine ldR H5.at rfl ?_
  refine sb ?_
  refine ldR H5.at rfl ?_
  refine sb ?_
  refine ldR H5.at rfl ?_
  try simp only [Wb8,bsx,Nat.reduceAdd,Int.reduceLE,Int.reduceLT,Int.reduceToNat,WD7]
  have H6:Sat h16 (pt AB (.cells #[.int .i64 0,.int .u32 0,.int .u32 0] 43)*(suS Q M f ins Ts m2*R)):=by
   have:=H5.drop
   rw [Wb4] at this
   exact this
  refine Wd3 (vs:=[.int .i64 (s64 (z.t.ret.getD 0 0)),.int .u32 (u32 (z.t.ret.getD 1 0)),.int .u32 (u32 (z.t.ret.getD 2 0))]) H6.at rfl (by simp [Wi5]) λh17 w2=>?_
  have H7:=H6.wr w2.new w2.old
  refine ldR H7.at rfl (ldR H7.at rfl (ldR H7.at rfl ?_))
  exact k0 hnil h17 H7.drop
end
end
end Go.Proofs.YtahpbclnkofhfaaGreat
section
namespace Go.Proofs.YtahpbclnkofhfaaGreat.Mod
inductive Lo:Run→Run→Prop
 | refl (x:Run):Lo x x
 | load {x y:Run} {a:Int} (h:Lo x y):Lo x (y.load a).2
 | store {x y:Run} {a v:Int} (h:Lo x y):Lo x (y.store a v)
 | cas {x y:Run} {a o v:Int} (h:Lo x y):Lo x (y.cas a o v).2
 | add {x y:Run} {a v:Int} (h:Lo x y):Lo x (y.add a v).2
 | swing {x y:Run} {a w p:Int} {b:Bool} (h:Lo x y):Lo x (y.swing a w p b).2
 | swingA {x y:Run} {a w p:Int} (h:Lo x y):Lo x (y.swingA a w p).2
 | swingM {x y:Run} {a w p:Int} {b:Bool} (h:Lo x y):Lo x (y.swingM a w p b).2
 | drop1 {x y:Run} {a:Int} (h:Lo x y):Lo x (y.drop1 a).2
 | guard {x y:Run} {a b:Int} (h:Lo x y):Lo x (y.guard a b)
 | gh {x y:Run} {f:Gh→Gh} (h:Lo x y):Lo x (y.gh f)
 | s {x y:Run} {i:Nat} {v:Int} (h:Lo x y):Lo x (y.s i v)
 | pc {x y:Run} {i:Int} (h:Lo x y):Lo x (y.pc i)
 | fo {x y:Run} {l:List Int} (h:Lo x y):Lo x (y.fo l)
 | re {x y:Run} {l:List Int} (h:Lo x y):Lo x (y.re l)
 | setPl {x y:Run} {p s w:List Int} (h:Lo x y):Lo x (y.setPl p s w)
 | next {x y:Run} {k:Int} (h:Lo x y):Lo x { y with m:=(y.m.next k).2 }
 | lvl {x y:Run} {k:Int} (h:Lo x y):Lo x { y with m:=(y.m.lvl k).2 }
 | dcas {x y:Run} {a o v b p q:Int} (h:Lo x y):Lo x { y with m:=(y.m.dcas a o v b p q).2 }
 | dcss {x y:Run} {a o v b p:Int} (h:Lo x y):Lo x { y with m:=(y.m.dcss a o v b p).2 }
inductive Tch:Run→Prop
 | load {y:Run} {a:Int}:Tch (y.load a).2
 | store {y:Run} {a v:Int}:Tch (y.store a v)
 | cas {y:Run} {a o v:Int}:Tch (y.cas a o v).2
 | add {y:Run} {a v:Int}:Tch (y.add a v).2
 | swing {y:Run} {a w p:Int} {b:Bool}:Tch (y.swing a w p b).2
 | swingA {y:Run} {a w p:Int}:Tch (y.swingA a w p).2
 | swingM {y:Run} {a w p:Int} {b:Bool}:Tch (y.swingM a w p b).2
 | drop1 {y:Run} {a:Int}:Tch (y.drop1 a).2
 | guard {y:Run} {a b:Int}:Tch (y.guard a b)
 | dcas {y:Run} {a o v b p q:Int}:Tch { y with m:=(y.m.dcas a o v b p q).2 }
 | dcss {y:Run} {a o v b p:Int}:Tch { y with m:=(y.m.dcss a o v b p).2 }
 | s {y:Run} {i:Nat} {v:Int} (h:Tch y):Tch (y.s i v)
 | pc {y:Run} {i:Int} (h:Tch y):Tch (y.pc i)
 | gh {y:Run} {f:Gh→Gh} (h:Tch y):Tch (y.gh f)
 | fo {y:Run} {l:List Int} (h:Tch y):Tch (y.fo l)
 | re {y:Run} {l:List Int} (h:Tch y):Tch (y.re l)
 | setPl {y:Run} {p s w:List Int} (h:Tch y):Tch (y.setPl p s w)
 | next {y:Run} {k:Int} (h:Tch y):Tch { y with m:=(y.m.next k).2 }
 | lvl {y:Run} {k:Int} (h:Tch y):Tch { y with m:=(y.m.lvl k).2 }
 | push {y:Run} {i:Int} {r:List Int} (h:Tch y):Tch (y.push i r)
 | pop {y:Run} {r:List Int} (h:Tch y):Tch (y.pop r)
 | call {y:Run} {i j:Int} {r:List Int} (h:Tch y):Tch (y.call i j r)
 | fin {y:Run} {i j k:Int} (h:Tch y):Tch (y.fin i j k)
inductive St:Nat→Run→Run→Prop
 | refl {n:Nat} (x:Run):St n x x
 | load {n:Nat} {x y:Run} {a:Int} (h:St n x y):St (n+1) x (y.load a).2
 | store {n:Nat} {x y:Run} {a v:Int} (h:St n x y):St (n+1) x (y.store a v)
 | cas {n:Nat} {x y:Run} {a o v:Int} (h:St n x y):St (n+1) x (y.cas a o v).2
 | add {n:Nat} {x y:Run} {a v:Int} (h:St n x y):St (n+1) x (y.add a v).2
 | dcas {n:Nat} {x y:Run} {a o v b p q:Int} (h:St n x y):St (n+1) x { y with m:=(y.m.dcas a o v b p q).2 }
 | dcss {n:Nat} {x y:Run} {a o v b p:Int} (h:St n x y):St (n+1) x { y with m:=(y.m.dcss a o v b p).2 }
 | next {n:Nat} {x y:Run} {k:Int} (h:St n x y):St (n+1) x { y with m:=(y.m.next k).2 }
 | lvl {n:Nat} {x y:Run} {k:Int} (h:St n x y):St (n+1) x { y with m:=(y.m.lvl k).2 }
 | gh {n:Nat} {x y:Run} {f:Gh→Gh} (h:St n x y):St n x (y.gh f)
 | s {n:Nat} {x y:Run} {i:Nat} {v:Int} (h:St n x y):St (n+1) x (y.s i v)
 | pc {n:Nat} {x y:Run} {i:Int} (h:St n x y):St (n+1) x (y.pc i)
 | push {n:Nat} {x y:Run} {i:Int} {r:List Int} (h:St n x y):St (n+1) x (y.push i r)
 | pop {n:Nat} {x y:Run} {r:List Int} (h:St n x y):St n x (y.pop r)
 | fo {n:Nat} {x y:Run} {l:List Int} (hl:l.length≤y.t.found.length+1) (h:St n x y):St (n+1) x (y.fo l)
 | re {n:Nat} {x y:Run} {l:List Int} (hl:l.length≤y.t.retired.length+1) (h:St n x y):St (n+1) x (y.re l)
 | part {n:Nat} {x y:Run} {p:Int→Bool} (h:St n x y):St (n+1) x ((y.re (y.t.retired.filter p)).fo (y.t.retired.filter λn=>!p n))
 | setPl {n:Nat} {x y:Run} {p s w:List Int} (h1:p.length=y.t.pred.length) (h2:s.length=y.t.succ.length) (h3:w.length=y.t.word.length) (h:St n x y):St n x (y.setPl p s w)
 | up {n k:Nat} {x y:Run} (h:St n x y):St (n+k) x y
section
variable {x y:Run} {n:Nat}
theorem St.swing {a w p:Int} {b:Bool} (h:St n x y):St (n+1) x (y.swing a w p b).2:=St.cas h
theorem St.swingA {a w p:Int} (h:St n x y):St (n+1) x (y.swingA a w p).2:=St.cas h
theorem St.swingM {a w p:Int} {b:Bool} (h:St n x y):St (n+1) x (y.swingM a w p b).2:=St.cas h
theorem St.drop1 {a:Int} (h:St n x y):St (n+1) x (y.drop1 a).2:=St.add h
theorem St.guard {a b:Int} (h:St n x y):St (n+1) x (y.guard a b):=St.store h
theorem St.call {i j:Int} {r:List Int} (h:St n x y):St (n+2) x (y.call i j r):=St.push (St.pc h)
theorem St.fin {i j k:Int} (h:St n x y):St (n+5) x (y.fin i j k):=St.call (St.s (St.s (St.s h)))
end
structure Fix (x y:Run):Prop where
 p:y.m.p=x.m.p
 id:y.id=x.id
 th:y.m.th=x.m.th
 b:y.m.b=x.m.b
 w:y.m.mm.w.length=x.m.mm.w.length
 pr:y.t.pred.length=x.t.pred.length
 su:y.t.succ.length=x.t.succ.length
 wo:y.t.word.length=x.t.word.length
structure FixM (m n:Mac):Prop where
 p:n.p=m.p
 th:n.th=m.th
 b:n.b=m.b
 w:n.mm.w.length=m.mm.w.length
 st:n.mm.st≤m.mm.st+1
 us:n.used≤m.used+1
theorem FixM.touch (m:Mac) (a:Int):FixM m (m.touch a)∧(m.touch a).mm=m.mm∧(m.touch a).used=m.used:=by
 unfold Mac.touch
 split <;> exact ⟨⟨rfl,rfl,rfl,rfl,by show m.mm.st≤_;omega,by show m.used≤_;omega⟩,rfl,rfl⟩
theorem FixM.of {m n k:Mac} (h:FixM m n) (hn:n.mm=m.mm∧n.used=m.used) (e:k.p=n.p∧k.th=n.th∧k.b=n.b∧k.used=n.used) (ew:k.mm.w.length=n.mm.w.length) (es:k.mm.st≤n.mm.st+1):FixM m k:=
 ⟨e.1.trans h.p,e.2.1.trans h.th,e.2.2.1.trans h.b,ew.trans h.w,by rw [← hn.1];exact es,by rw [e.2.2.2,hn.2];omega⟩
theorem FixM.load (m:Mac) (a:Int):FixM m (m.load a).2:=by
 have t:=FixM.touch m a
 unfold Mac.load;dsimp only
 split
 ·exact t.1.of t.2 ⟨rfl,rfl,rfl,rfl⟩ rfl (Int.le_refl _)
 ·exact t.1.of t.2 ⟨rfl,rfl,rfl,rfl⟩ rfl (by show (m.touch a).mm.st≤_;omega)
theorem FixM.store (m:Mac) (a v:Int):FixM m (m.store a v):=by
 have t:=FixM.touch m a
 unfold Mac.store;dsimp only
 split
 ·exact t.1.of t.2 ⟨rfl,rfl,rfl,rfl⟩ (by show (List.set _ _ _).length=_;rw [List.length_set];rfl) (Int.le_refl _)
 ·exact t.1.of t.2 ⟨rfl,rfl,rfl,rfl⟩ rfl (by show (m.touch a).mm.st≤_;omega)
theorem FixM.add (m:Mac) (a v:Int):FixM m (m.add a v).2:=by
 have t:=FixM.touch m a
 unfold Mac.add;dsimp only
 split
 ·exact t.1.of t.2 ⟨rfl,rfl,rfl,rfl⟩ (by show (List.set _ _ _).length=_;rw [List.length_set];rfl) (Int.le_refl _)
 ·exact t.1.of t.2 ⟨rfl,rfl,rfl,rfl⟩ rfl (by show (m.touch a).mm.st≤_;omega)
theorem ZF0 (m:Mm) (a o n:Int):(m.cas a o n).st=m.st+1∧(m.cas a o n).w.length=m.w.length:=by unfold Mm.cas;split <;> exact ⟨rfl,by simp [Mm.tick,Mm.put]⟩
theorem Zv4 (m:Mm) (a o n b p q:Int):(m.dcas a o n b p q).st=m.st+1∧(m.dcas a o n b p q).w.length=m.w.length:=by unfold Mm.dcas;split <;> exact ⟨rfl,by simp [Mm.tick,Mm.put]⟩
theorem Zv5 (m:Mm) (a o n b p:Int):(m.dcss a o n b p).st=m.st+1∧(m.dcss a o n b p).w.length=m.w.length:=by unfold Mm.dcss;split <;> exact ⟨rfl,by simp [Mm.tick,Mm.put]⟩
theorem FixM.cas (m:Mac) (a o n:Int):FixM m (m.cas a o n).2:=by
 have t:=FixM.touch m a
 have h:=ZF0 (m.touch a).mm a o n
 unfold Mac.cas;dsimp only
 split
 ·exact t.1.of t.2 ⟨rfl,rfl,rfl,rfl⟩ h.2 (by show ((m.touch a).mm.cas a o n).st≤_;omega)
 ·exact t.1.of t.2 ⟨rfl,rfl,rfl,rfl⟩ rfl (by show (m.touch a).mm.st≤_;omega)
theorem FixM.touch2 (m:Mac) (a b:Int):FixM m ((m.touch a).touch b)∧((m.touch a).touch b).mm=m.mm∧((m.touch a).touch b).used=m.used:=by
 have t:=FixM.touch m a
 have t2:=FixM.touch (m.touch a) b
 have e1:=t2.2.1.trans t.2.1
 have e2:=t2.2.2.trans t.2.2
 exact ⟨⟨t2.1.p.trans t.1.p,t2.1.th.trans t.1.th,t2.1.b.trans t.1.b,t2.1.w.trans t.1.w,by rw [e1];omega,by rw [e2];omega⟩,e1,e2⟩
theorem FixM.dcas (m:Mac) (a o n b p q:Int):FixM m (m.dcas a o n b p q).2:=by
 have t:=FixM.touch2 m a b
 have h:=Zv4 ((m.touch a).touch b).mm a o n b p q
 unfold Mac.dcas;dsimp only
 split
 ·exact t.1.of t.2 ⟨rfl,rfl,rfl,rfl⟩ h.2 (by show (((m.touch a).touch b).mm.dcas a o n b p q).st≤_;omega)
 ·exact t.1.of t.2 ⟨rfl,rfl,rfl,rfl⟩ rfl (by show ((m.touch a).touch b).mm.st≤_;omega)
theorem FixM.dcss (m:Mac) (a o n b p:Int):FixM m (m.dcss a o n b p).2:=by
 have t:=FixM.touch2 m a b
 have h:=Zv5 ((m.touch a).touch b).mm a o n b p
 unfold Mac.dcss;dsimp only
 split
 ·exact t.1.of t.2 ⟨rfl,rfl,rfl,rfl⟩ h.2 (by show (((m.touch a).touch b).mm.dcss a o n b p).st≤_;omega)
 ·exact t.1.of t.2 ⟨rfl,rfl,rfl,rfl⟩ rfl (by show ((m.touch a).touch b).mm.st≤_;omega)
theorem FixM.refl (m:Mac):FixM m m:=⟨rfl,rfl,rfl,rfl,by omega,by omega⟩
theorem FixM.next (m:Mac) (n:Int):FixM m (m.next n).2:=by
 unfold Mac.next
 split
 ·exact FixM.refl m
 ·exact ⟨rfl,rfl,rfl,rfl,by show m.mm.st≤_;omega,Int.le_refl _⟩
theorem FixM.lvl (m:Mac) (n:Int):FixM m (m.lvl n).2:=by
 unfold Mac.lvl
 split
 ·exact FixM.refl m
 ·exact ⟨rfl,rfl,rfl,rfl,by show m.mm.st≤_;omega,Int.le_refl _⟩
theorem Fix.m {x y:Run} {m:Mac} (h:Fix x y) (e:FixM y.m m):Fix x { y with m:=m }:=⟨e.p.trans h.p,h.id,e.th.trans h.th,e.b.trans h.b,e.w.trans h.w,h.pr,h.su,h.wo⟩
theorem Fix.t {x y:Run} {t:Thr} (h:Fix x y) (h1:t.pred.length=y.t.pred.length) (h2:t.succ.length=y.t.succ.length) (h3:t.word.length=y.t.word.length):Fix x { y with t:=t }:=⟨h.p,h.id,h.th,h.b,h.w,h1.trans h.pr,h2.trans h.su,h3.trans h.wo⟩
theorem Thr.pop_pl (t:Thr) (r:List Int):(t.pop r).pred=t.pred∧(t.pop r).succ=t.succ∧(t.pop r).word=t.word:=by unfold Thr.pop;split <;> exact ⟨rfl,rfl,rfl⟩
theorem St.fix {n:Nat} {x y:Run} (h:St n x y):Fix x y:=by
 induction h with
 | refl x=>exact ⟨rfl,rfl,rfl,rfl,rfl,rfl,rfl,rfl⟩
 | load _ ih=>exact ih.m (FixM.load _ _)
 | store _ ih=>exact ih.m (FixM.store _ _ _)
 | cas _ ih=>exact ih.m (FixM.cas _ _ _ _)
 | add _ ih=>exact ih.m (FixM.add _ _ _)
 | dcas _ ih=>exact ih.m (FixM.dcas _ _ _ _ _ _ _)
 | dcss _ ih=>exact ih.m (FixM.dcss _ _ _ _ _ _)
 | next _ ih=>exact ih.m (FixM.next _ _)
 | lvl _ ih=>exact ih.m (FixM.lvl _ _)
 | gh _ ih=>exact ih.m ⟨rfl,rfl,rfl,rfl,by show Mm.st _≤_;exact Int.le_add_one (Int.le_refl _),by show Mac.used _≤_;exact Int.le_add_one (Int.le_refl _)⟩
 | s _ ih=>exact ih.t rfl rfl rfl
 | pc _ ih=>exact ih.t rfl rfl rfl
 | push _ ih=>exact ih.t rfl rfl rfl
 | pop _ ih=>exact ih.t (by rw [(Thr.pop_pl _ _).1]) (by rw [(Thr.pop_pl _ _).2.1]) (by rw [(Thr.pop_pl _ _).2.2])
 | fo _ _ ih=>exact ih.t rfl rfl rfl
 | re _ _ ih=>exact ih.t rfl rfl rfl
 | part _ ih=>exact ih.t rfl rfl rfl
 | setPl h1 h2 h3 _ ih=>exact ih.t h1 h2 h3
 | up _ ih=>exact ih
def Run.P (x:Run):Nat:=x.m.mm.st.toNat+x.m.used.toNat+x.t.retired.length+x.t.found.length+x.t.fr.length
theorem ZF1 (p:Int→Bool):∀l:List Int,(l.filter p).length+(l.filter λn=>!p n).length=l.length
 | []=>rfl
 | a :: l=>by
  have ih:=ZF1 p l
  cases h:p a <;> simp [List.filter_cons,h] <;> omega
theorem P_m {x:Run} {m:Mac} (h:FixM x.m m):({ x with m:=m }:Run).P≤x.P+2:=by
 have h1:=h.st
 have h2:=h.us
 unfold Run.P
 dsimp only
 omega
theorem Zq6 (x:Run) (f:Frm):(x.setF f).P≤x.P+2:=by
 unfold Run.P
 show x.m.mm.st.toNat+x.m.used.toNat+x.t.retired.length+x.t.found.length+(x.t.fr.dropLast ++ [f]).length≤_
 simp
 omega
theorem St.P {n:Nat} {x y:Run} (h:St n x y):y.P≤x.P+2*n:=by
 induction h with
 | refl x=>omega
 | @load _ _ y a _ ih=>have:=P_m (x:=y) (FixM.load y.m a);exact Nat.le_trans this (by omega)
 | @store _ _ y a v _ ih=>have:=P_m (x:=y) (FixM.store y.m a v);exact Nat.le_trans this (by omega)
 | @cas _ _ y a o v _ ih=>have:=P_m (x:=y) (FixM.cas y.m a o v);exact Nat.le_trans this (by omega)
 | @add _ _ y a v _ ih=>have:=P_m (x:=y) (FixM.add y.m a v);exact Nat.le_trans this (by omega)
 | @dcas _ _ y a o v b p q _ ih=>have:=P_m (x:=y) (FixM.dcas y.m a o v b p q);exact Nat.le_trans this (by omega)
 | @dcss _ _ y a o v b p _ ih=>have:=P_m (x:=y) (FixM.dcss y.m a o v b p);exact Nat.le_trans this (by omega)
 | @next _ _ y k _ ih=>have:=P_m (x:=y) (FixM.next y.m k);exact Nat.le_trans this (by omega)
 | @lvl _ _ y k _ ih=>have:=P_m (x:=y) (FixM.lvl y.m k);exact Nat.le_trans this (by omega)
 | @gh _ _ y f _ ih=>have:(y.gh f).P=y.P:=rfl;omega
 | @s _ _ y i v _ ih=>have:=Zq6 y (y.f.s i v);exact Nat.le_trans this (by omega)
 | @pc _ _ y i _ ih=>have:=Zq6 y (y.f.at i);exact Nat.le_trans this (by omega)
 | @push _ _ y i r _ ih=>
  have:(y.push i r).P=y.P+1:=by
   unfold Run.P
   show y.m.mm.st.toNat+y.m.used.toNat+y.t.retired.length+y.t.found.length+(y.t.fr ++ [_]).length=_
   simp
   omega
  omega
 | @pop _ _ y r _ ih=>
  have:(y.pop r).P≤y.P:=by
   unfold Run.P Run.pop Thr.pop
   split
   ·exact Nat.le_refl _
   ·dsimp only
    simp
  omega
 | @fo _ _ y l hl _ ih=>
  have:(y.fo l).P≤y.P+1:=by
   unfold Run.P
   show y.m.mm.st.toNat+y.m.used.toNat+y.t.retired.length+l.length+y.t.fr.length≤_
   omega
  omega
 | @re _ _ y l hl _ ih=>
  have:(y.re l).P≤y.P+1:=by
   unfold Run.P
   show y.m.mm.st.toNat+y.m.used.toNat+l.length+y.t.found.length+y.t.fr.length≤_
   omega
  omega
 | @part _ _ y p _ ih=>
  have h:=ZF1 p y.t.retired
  have:((y.re (y.t.retired.filter p)).fo (y.t.retired.filter λn=>!p n)).P≤y.P:=by
   unfold Run.P
   show y.m.mm.st.toNat+y.m.used.toNat+(y.t.retired.filter p).length+(y.t.retired.filter λn=>!p n).length+y.t.fr.length≤_
   omega
  omega
 | @setPl _ _ y p s w _ _ _ _ ih=>have:(y.setPl p s w).P=y.P:=rfl;omega
 | up _ ih=>omega
theorem Zh1 (x:Run):St 12 x (alloc x):=by
 unfold alloc;dsimp only
 repeat' split
 all_goals exact Wf5
theorem YJ3 (x:Run):St 12 x (Wt3 x):=by
 unfold Wt3;dsimp only
 repeat' split
 all_goals exact Wf5
theorem YJ4 (x:Run):St 12 x (Wt4 x):=by
 unfold Wt4
 repeat' split
 ·exact Wf5
 ·exact Zh1 x
 ·exact YJ3 x
 ·exact Wf5
theorem YJ5 (x:Run):St 12 x (Wt5 x):=by
 unfold Wt5;dsimp only
 repeat' split
 all_goals exact Wf5
theorem Zv6 (x:Run):St 12 x (YU4 x):=by
 unfold YU4;dsimp only
 repeat' split
 all_goals exact Wf5
theorem Y13 (x:Run):St 12 x (WA6 x):=by
 unfold WA6;dsimp only
 have h2:St 2 x ((x.gh λg=>g.turn (s64 (x.f.g 0)) 1 2 2).re ((x.gh λg=>g.turn (s64 (x.f.g 0)) 1 2 2).t.retired ++ [s64 (x.f.g 0)])):=St.re (by simp) (St.gh (St.refl _))
 split
 ·exact St.up (k:=9) (St.push (St.pop h2))
 ·exact St.up (k:=10) (St.pop h2)
theorem Zh2 {x y:Run} {N:Nat} (all:Int) (h:St N x y):St (N+2) x (WE6 y all):=by
 unfold WE6
 split
 ·exact St.pc (St.part h)
 ·exact St.up (k:=2) h
theorem Zh3 {x y:Run} {N:Nat} (h:St N x y):St (N+2) x (W50 y):=by
 unfold W50
 split
 ·exact St.up (k:=2) (St.pop h)
 ·rename_i n rest e
  exact St.push (St.fo (by rw [e];simp;omega) h)
theorem Zv7 (x:Run):St 12 x (scan x):=by
 have h0:St 1 x (if x.f.pc=0 then x.fo [] else x):=by
  split
  ·exact St.fo (by simp) (St.refl _)
  ·exact St.refl _
 unfold scan
 dsimp only
 generalize (if x.f.pc=0 then x.fo [] else x)=y at *
 split
 ·exact St.up (k:=8) (St.pc (St.fo (by simp) (St.load h0)))
 ·exact St.up (k:=7) (Zh3 (Zh2 _ h0))
theorem WH4 (x:Run):St 12 x (Wk9 x):=by
 unfold Wk9
 repeat' split
 ·exact Wf5
 ·exact YJ5 x
 ·exact Zv6 x
 ·exact Y13 x
 ·exact Zv7 x
 ·exact YJ4 x
theorem Zh4 (x:Run):St 12 x (WS4 x):=by
 unfold WS4;dsimp only
 repeat' split
 all_goals exact Wf5
theorem Zh5 (x:Run):St 12 x (WS6 x):=by
 unfold WS6;dsimp only
 repeat' split
 all_goals exact Wf5
theorem Yr9 (x:Run):St 12 x (Wo3 x):=by
 unfold Wo3 WS5;dsimp only
 repeat' split
 all_goals exact Wf5
theorem Zh6 (x:Run):St 12 x (WS7 x):=by
 unfold WS7 WS5;dsimp only
 repeat' split
 all_goals exact Wf5
theorem Zv8 (x:Run):St 12 x (YU6 x):=by
 unfold YU6 W51;dsimp only
 repeat' split
 all_goals exact Wf5
theorem Zh7 (x:Run):St 12 x (WS8 x):=by
 unfold WS8
 try dsimp only
 repeat' split
 all_goals first | with_reducible exact Zh5 x | with_reducible exact Yr9 x | with_reducible exact Zh6 x | with_reducible exact Zv8 x | exact Wf5
theorem Zh8 (x:Run):St 12 x (WM3 x):=by
 unfold WM3;dsimp only
 repeat' split
 all_goals exact Wf5
theorem Zh9 (x:Run):St 12 x (WM4 x):=by
 unfold WM4;dsimp only
 repeat' split
 all_goals first | with_reducible exact Zh8 x | exact Wf5
theorem YA9 (x:Run):St 12 x (WP0 x):=by
 unfold WP0;dsimp only
 repeat' split
 all_goals exact Wf5
theorem Zi0 (x:Run):St 12 x (WS9 x):=by
 unfold WS9;dsimp only
 repeat' split
 all_goals first | with_reducible exact YA9 x | exact Wf5
theorem Yg8 (x:Run) (a:Nat) (i j:Int):St 5 x (Wr0 x a i j):=by
 unfold Wr0;dsimp only
 repeat' split
 all_goals exact Wf5
theorem Zi1 (x:Run) (a:Nat) (j:Int):St 12 x (WP1 x a j):=by
 unfold WP1;dsimp only
 repeat' split
 all_goals exact Wf5
theorem Zi2 (x:Run):St 12 x (WT0 x):=by
 unfold WT0;dsimp only
 repeat' split
 all_goals first | with_reducible exact St.up (k:=7) (Yg8 _ _ _ _) | with_reducible exact St.up (k:=5) (St.call (Yg8 _ _ _ _)) | with_reducible exact Zi1 _ _ _ | with_reducible exact YA9 x | with_reducible exact Zi0 x | exact Wf5
theorem YJ6 (x:Run):St 12 x (Wp5 x):=by
 unfold Wp5
 try dsimp only
 repeat' split
 all_goals first | with_reducible exact Zh4 x | with_reducible exact Zh7 x | with_reducible exact Zh9 x | with_reducible exact Zi2 x | with_reducible exact WH4 x | exact Wf5
theorem WW8 {x y:Run} {N:Nat} (h:St N x y):St (N+2) x (Wo4 y):=by
 unfold Wo4;dsimp only
 repeat' split
 ·exact St.up (k:=2) (St.pop (St.setPl (by simp) (by simp) (by simp) h))
 ·exact St.pc (St.s (St.setPl (by simp) (by simp) (by simp) h))
theorem W74 {x y:Run} {N:Nat} {w:Int} (h:St N x y):St (N+3) x (WF9 y w):=by
 unfold WF9;dsimp only
 have h1:St (N+1) x (y.s 3 w):=St.s h
 repeat' split
 ·exact St.up (k:=1) (St.pc h1)
 ·exact WW8 h1
 ·exact St.up (k:=1) (St.pc h1)
theorem Zi3 (x:Run):St 12 x (WT2 x):=by
 unfold WT2;dsimp only
 repeat' split
 all_goals first | with_reducible exact St.up (k:=7) (W74 (St.load (St.refl _))) | with_reducible exact St.up (k:=7) (W74 (St.cas (St.refl _))) | with_reducible exact St.up (k:=8) (WW8 (St.load (St.refl _))) | exact Wf5
theorem Zi4 (x:Run):St 12 x (WT3 x):=by
 unfold WT3;dsimp only
 repeat' split
 all_goals first | with_reducible exact Zi3 x | with_reducible exact St.up (k:=7) (W74 (St.load (St.refl _))) | exact Wf5
theorem Y14 (x:Run):St 12 x (WA7 x):=by
 unfold WA7
 try dsimp only
 repeat' split
 all_goals first | with_reducible exact Zi4 x | with_reducible exact WH4 x | exact Wf5
theorem Y15 (x:Run):St 12 x (WA8 x):=by
 unfold WA8;dsimp only
 repeat' split
 all_goals exact Wf5
theorem Zi5 (x:Run):St 12 x (WZ0 x):=by
 unfold WZ0;dsimp only
 repeat' split
 all_goals exact Wf5
theorem YJ7 (x:Run):St 12 x (Wt6 x):=by
 unfold Wt6;dsimp only
 repeat' split
 all_goals exact Wf5
theorem YJ8 (x:Run):St 12 x (Wt7 x):=by
 unfold Wt7;dsimp only
 repeat' split
 all_goals exact Wf5
theorem YJ9 (x:Run):St 12 x (Wt8 x):=by
 unfold Wt8;dsimp only
 repeat' split
 all_goals exact Wf5
theorem Y16 (x:Run):St 12 x (WA9 x):=by
 unfold WA9
 try dsimp only
 repeat' split
 all_goals first | with_reducible exact Y15 x | with_reducible exact Zi5 x | with_reducible exact YJ7 x | with_reducible exact YJ8 x | with_reducible exact YJ9 x | exact Wf5
theorem Y17 (x:Run):St 12 x (Wu7 x):=by
 unfold Wu7 Wu6;dsimp only
 repeat' split
 all_goals exact Wf5
theorem Y18 (x:Run):St 12 x (Wu8 x):=by
 unfold Wu8;dsimp only
 repeat' split
 all_goals exact Wf5
theorem Y19 (x:Run):St 12 x (Wu9 x):=by
 unfold Wu9;dsimp only
 repeat' split
 all_goals exact Wf5
theorem YK0 (x:Run):St 12 x (Wo5 x):=by
 unfold Wo5 Wu6;dsimp only
 repeat' split
 all_goals exact Wf5
theorem Y20 (x:Run):St 12 x (WB0 x):=by
 unfold WB0
 try dsimp only
 repeat' split
 all_goals first | with_reducible exact Y17 x | with_reducible exact Y18 x | with_reducible exact Y19 x | with_reducible exact YK0 x | exact Wf5
theorem Yg9 (x:Run):St 12 x (Wh7 x):=by
 unfold Wh7
 try dsimp only
 repeat' split
 all_goals first | with_reducible exact Y14 x | with_reducible exact Y16 x | with_reducible exact Y20 x | exact Wf5
theorem Ys0 {x y:Run} {N:Nat} (h:St N x y):St (N+2) x (Wm3 y):=by
 unfold Wm3;dsimp only
 repeat' split
 ·exact St.up (k:=2) (St.pop (St.setPl (by simp) (by simp) (by simp) h))
 ·exact St.pc (St.s (St.setPl (by simp) (by simp) (by simp) h))
theorem YB0 {x y:Run} {N:Nat} (h:St N x y):St (N+2) x (WE7 y):=by
 unfold WE7
 exact St.pc (St.s h)
theorem Y21 (x:Run):St 12 x (WB1 x):=by
 unfold WB1;dsimp only
 repeat' split
 all_goals repeat' (first | with_reducible apply YB0 | with_reducible (first | apply St.refl | assumption | apply St.load | apply St.store | apply St.cas | apply St.add | apply St.swing | apply St.swingA | apply St.swingM | apply St.drop1 | apply St.guard | apply St.next | apply St.lvl | apply St.dcas | apply St.dcss | apply St.gh | apply St.call | apply St.fin | apply St.s | apply St.pc | apply St.push | apply St.pop))
theorem Zi6 (x:Run):St 12 x (WT4 x):=by
 unfold WT4;dsimp only
 repeat' split
 all_goals repeat' (first | with_reducible exact Y21 x | with_reducible apply YB0 | with_reducible apply Ys0 | with_reducible (first | apply St.refl | assumption | apply St.load | apply St.store | apply St.cas | apply St.add | apply St.swing | apply St.swingA | apply St.swingM | apply St.drop1 | apply St.guard | apply St.next | apply St.lvl | apply St.dcas | apply St.dcss | apply St.gh | apply St.call | apply St.fin | apply St.s | apply St.pc | apply St.push | apply St.pop))
theorem Ys1 (x:Run):St 12 x (Ws2 x):=by
 unfold Ws2
 try dsimp only
 repeat' split
 all_goals first | with_reducible exact Zi6 x | with_reducible exact WH4 x | exact Wf5
theorem Y22 (x:Run):St 12 x (WB2 x):=by
 unfold WB2;dsimp only
 repeat' split
 all_goals exact Wf5
theorem Y23 (x:Run):St 12 x (WB3 x):=by
 unfold WB3;dsimp only
 repeat' split
 all_goals exact Wf5
theorem Y24 (x:Run):St 12 x (WB4 x):=by
 unfold WB4 Wv0;dsimp only
 repeat' split
 all_goals exact Wf5
theorem Y25 (x:Run):St 12 x (WB5 x):=by
 unfold WB5 Wv0;dsimp only
 repeat' split
 all_goals first | with_reducible exact Y24 x | exact Wf5
theorem Y26 (x:Run):St 12 x (WB6 x):=by
 unfold WB6;dsimp only
 repeat' split
 all_goals exact Wf5
theorem Zi7 (x:Run):St 12 x (WZ1 x):=by
 unfold WZ1;dsimp only
 repeat' split
 all_goals exact Wf5
theorem YK1 (x:Run):St 12 x (Wt9 x):=by
 unfold Wt9;dsimp only
 repeat' split
 all_goals exact Wf5
theorem YK2 (x:Run):St 12 x (Wu0 x):=by
 unfold Wu0;dsimp only
 repeat' split
 all_goals exact Wf5
theorem Y27 (x:Run):St 12 x (WB7 x):=by
 unfold WB7;dsimp only
 repeat' split
 all_goals exact Wf5
theorem Y28 (x:Run):St 12 x (WB8 x):=by
 unfold WB8
 try dsimp only
 repeat' split
 all_goals first | with_reducible exact Y26 x | with_reducible exact Zi7 x | with_reducible exact YK1 x | with_reducible exact YK2 x | with_reducible exact Y27 x | exact Wf5
theorem Y29 (x:Run):St 12 x (Ww5 x):=by
 unfold Ww5;dsimp only
 repeat' split
 all_goals exact Wf5
theorem Zv9 (x:Run):St 12 x (YF9 x):=by
 unfold YF9;dsimp only
 repeat' split
 all_goals exact Wf5
theorem Y30 (x:Run):St 12 x (Ww6 x):=by
 unfold Ww6;dsimp only
 repeat' split
 all_goals exact Wf5
theorem Zi8 (x:Run):St 12 x (WM7 x):=by
 unfold WM7;dsimp only
 repeat' split
 all_goals exact Wf5
theorem Y31 (x:Run):St 12 x (Ww7 x):=by
 unfold Ww7
 try dsimp only
 repeat' split
 all_goals first | with_reducible exact Y29 x | with_reducible exact Zv9 x | with_reducible exact Y30 x | with_reducible exact Zi8 x | exact Wf5
theorem Ys2 (x:Run):St 12 x (Wl0 x):=by
 unfold Wl0
 try dsimp only
 repeat' split
 all_goals first | with_reducible exact Ys1 x | with_reducible exact Y28 x | with_reducible exact Y22 x | with_reducible exact Y23 x | with_reducible exact Y25 x | with_reducible exact Y31 x | exact Wf5
end Go.Proofs.YtahpbclnkofhfaaGreat.Mod
end
namespace Go.Proofs.YtahpbclnkofhfaaGreat
section
open Mod
structure Rest (Q:Frm→Prop) (x:Run):Prop where
 a:∀f ∈ x.t.fr.dropLast,Q f
structure AllF (Q:Frm→Prop) (x:Run):Prop where
 a:∀f ∈ x.t.fr,Q f
section
variable {Q:Frm→Prop} {x:Run}
theorem AllF.rest (h:AllF Q x):Rest Q x:=⟨λf hf=>h.a f (List.dropLast_subset _ hf)⟩
theorem AllF.top (h:AllF Q x) (hne:x.t.fr≠[]):Q x.f:=by
 have e:x.f=x.t.fr.getLast hne:=by
  show x.t.fr.getLast?.getD dfF=_
  rw [List.getLast?_eq_some_getLast hne]
  rfl
 rw [e]
 exact h.a _ (List.getLast_mem hne)
theorem Rest.setF {f:Frm} (h:Rest Q x):Rest Q (x.setF f):=by
 constructor
 intro g hg
 have hg:g ∈ (x.t.fr.dropLast ++ [f]).dropLast:=hg
 rw [List.dropLast_append_of_ne_nil (by simp)] at hg
 simp at hg
 exact h.a g hg
theorem Rest.s {i:Nat} {v:Int} (h:Rest Q x):Rest Q (x.s i v):=h.setF
theorem Rest.pc {i:Int} (h:Rest Q x):Rest Q (x.pc i):=h.setF
theorem Rest.m {m:Mac} (h:Rest Q x):Rest Q { x with m:=m }:=⟨h.a⟩
theorem Lo.rest {y:Run} (h:Lo x y) (r:Rest Q x):Rest Q y:=by
 induction h with
 | refl=>exact r
 | s _ ih=>exact ih.s
 | pc _ ih=>exact ih.pc
 | _=>rename_i ih;exact ⟨ih.a⟩
theorem Rest.all {f:Frm} (h:Rest Q x) (hf:Q f):AllF Q (x.setF f):=by
 constructor
 intro g hg
 have hg:g ∈ x.t.fr.dropLast ++ [f]:=hg
 rcases List.mem_append.1 hg with h1 | h1
 ·exact h.a g h1
 ·rw [List.mem_singleton.1 h1];exact hf
theorem Rest.allPc {i:Int} (h:Rest Q x) (hf:Q (x.f.at i)):AllF Q (x.pc i):=h.all hf
theorem Rest.allS {i:Nat} {v:Int} (h:Rest Q x) (hf:Q (x.f.s i v)):AllF Q (x.s i v):=h.all hf
theorem Rest.pop {r:List Int} (h:Rest Q x):AllF Q (x.pop r):=by
 constructor
 intro g hg
 have hg:g ∈ (x.t.pop r).fr:=hg
 unfold Thr.pop at hg
 split at hg
 ·rename_i e;rw [e] at hg;cases hg
 ·exact h.a g hg
theorem AllF.push {i:Int} {r:List Int} (h:AllF Q x) (hf:Q ⟨i,0,pad 10 r⟩):AllF Q (x.push i r):=by
 constructor
 intro g hg
 have hg:g ∈ x.t.fr ++ [⟨i,0,pad 10 r⟩]:=hg
 rcases List.mem_append.1 hg with h1 | h1
 ·exact h.a g h1
 ·rw [List.mem_singleton.1 h1];exact hf
theorem Rest.call {i j:Int} {r:List Int} (h:Rest Q x) (hf:Q (x.f.at i)) (hg:Q ⟨j,0,pad 10 r⟩):AllF Q (x.call i j r):=AllF.push (h.allPc hf) hg
theorem Rest.fin {i j k:Int} (h:Rest Q x) (hf:Q ((((x.f.s 7 i).s 8 j).s 9 k).at 90)) (hg:Q ⟨4,0,pad 10 []⟩):AllF Q (x.fin i j k):=by
 unfold Run.fin
 refine Rest.call (by exact Wr6) ?_ hg
 rw [f_s,f_s,f_s]
 exact hf
theorem AllF.load {a:Int} (h:AllF Q x):AllF Q (x.load a).2:=⟨h.a⟩
theorem AllF.store {a v:Int} (h:AllF Q x):AllF Q (x.store a v):=⟨h.a⟩
theorem AllF.cas {a o n:Int} (h:AllF Q x):AllF Q (x.cas a o n).2:=⟨h.a⟩
theorem AllF.add {a v:Int} (h:AllF Q x):AllF Q (x.add a v).2:=⟨h.a⟩
theorem AllF.swing {a v w:Int} {b:Bool} (h:AllF Q x):AllF Q (x.swing a v w b).2:=⟨h.a⟩
theorem AllF.swingA {a v w:Int} (h:AllF Q x):AllF Q (x.swingA a v w).2:=⟨h.a⟩
theorem AllF.swingM {a v w:Int} {b:Bool} (h:AllF Q x):AllF Q (x.swingM a v w b).2:=⟨h.a⟩
theorem AllF.drop1 {a:Int} (h:AllF Q x):AllF Q (x.drop1 a).2:=⟨h.a⟩
theorem AllF.guard {a v:Int} (h:AllF Q x):AllF Q (x.guard a v):=⟨h.a⟩
theorem AllF.gh {f:Gh→Gh} (h:AllF Q x):AllF Q (x.gh f):=⟨h.a⟩
theorem AllF.fo {l:List Int} (h:AllF Q x):AllF Q (x.fo l):=⟨h.a⟩
theorem AllF.re {l:List Int} (h:AllF Q x):AllF Q (x.re l):=⟨h.a⟩
theorem AllF.setPl {p s w:List Int} (h:AllF Q x):AllF Q (x.setPl p s w):=⟨h.a⟩
theorem AllF.m {m:Mac} (h:AllF Q x):AllF Q { x with m:=m }:=⟨h.a⟩
end
theorem Wh2 (f:Frm) (i:Int):(f.at i).r.length=f.r.length:=rfl
theorem Wi7 (f:Frm) (i:Nat) (v:Int):(f.s i v).r.length=f.r.length:=by unfold Frm.s;simp
def Wx2 (sl th:Int) (f:Frm):Prop:=f.r.length=10∧((f.fn=1∨f.fn=2∨f.fn=3)∧0≤f.pc∧f.pc≤2∨f.fn=4∧0≤f.pc∧f.pc≤sl∨f.fn=5∧f.pc=0∨f.fn=6∧0≤f.pc∧f.pc≤sl*th+1)
section
variable {Q:Frm→Prop} {x:Run} {sl th:Int}
theorem Y32 (hQ:∀f,Wx2 sl th f→Q f) (h:AllF Q x) (o:Wx2 sl th x.f) (e:x.f.fn=1):AllF Q (alloc x):=by
 have r:=h.rest
 obtain ⟨len,o2⟩:=o
 unfold alloc;dsimp only
 repeat' split
 all_goals ((repeat (with_reducible first | apply AllF.load | apply AllF.store | apply AllF.cas | apply AllF.add | apply AllF.swing | apply AllF.swingA | apply AllF.swingM | apply AllF.drop1 | apply AllF.guard | apply AllF.gh | apply AllF.fo | apply AllF.re | apply AllF.setPl));first | with_reducible assumption | ((with_reducible first | apply Rest.pop | apply Rest.call | apply Rest.allPc | apply Rest.allS | apply Rest.fin);(focus (refine Lo.rest ?_ (by assumption);(with_reducible repeat' constructor)))))
 all_goals (refine hQ _ ?_;exact Zy9)
theorem Ys3 (hQ:∀f,Wx2 sl th f→Q f) (h:AllF Q x) (o:Wx2 sl th x.f) (e:x.f.fn=2):AllF Q (Wt3 x):=by
 have r:=h.rest
 obtain ⟨len,o2⟩:=o
 unfold Wt3;dsimp only
 repeat' split
 all_goals ((repeat (with_reducible first | apply AllF.load | apply AllF.store | apply AllF.cas | apply AllF.add | apply AllF.swing | apply AllF.swingA | apply AllF.swingM | apply AllF.drop1 | apply AllF.guard | apply AllF.gh | apply AllF.fo | apply AllF.re | apply AllF.setPl));first | with_reducible assumption | ((with_reducible first | apply Rest.pop | apply Rest.call | apply Rest.allPc | apply Rest.allS | apply Rest.fin);(focus (refine Lo.rest ?_ (by assumption);(with_reducible repeat' constructor)))))
 all_goals (refine hQ _ ?_;exact Zy9)
theorem Ys4 (hQ:∀f,Wx2 sl th f→Q f) (h:AllF Q x) (o:Wx2 sl th x.f) (e:x.f.fn=3):AllF Q (Wt5 x):=by
 have r:=h.rest
 obtain ⟨len,o2⟩:=o
 unfold Wt5;dsimp only
 repeat' split
 all_goals ((repeat (with_reducible first | apply AllF.load | apply AllF.store | apply AllF.cas | apply AllF.add | apply AllF.swing | apply AllF.swingA | apply AllF.swingM | apply AllF.drop1 | apply AllF.guard | apply AllF.gh | apply AllF.fo | apply AllF.re | apply AllF.setPl));first | with_reducible assumption | ((with_reducible first | apply Rest.pop | apply Rest.call | apply Rest.allPc | apply Rest.allS | apply Rest.fin);(focus (refine Lo.rest ?_ (by assumption);(with_reducible repeat' constructor)))))
 all_goals (refine hQ _ ?_;exact Zy9)
theorem Zi9 (hQ:∀f,Wx2 sl th f→Q f) (h:AllF Q x) (hs:sl=x.m.p.slots) (o:Wx2 sl th x.f) (e:x.f.fn=4):AllF Q (YU4 x):=by
 have r:=h.rest
 obtain ⟨len,o2⟩:=o
 unfold YU4;dsimp only
 repeat' split
 all_goals ((repeat (with_reducible first | apply AllF.load | apply AllF.store | apply AllF.cas | apply AllF.add | apply AllF.swing | apply AllF.swingA | apply AllF.swingM | apply AllF.drop1 | apply AllF.guard | apply AllF.gh | apply AllF.fo | apply AllF.re | apply AllF.setPl));first | with_reducible assumption | ((with_reducible first | apply Rest.pop | apply Rest.call | apply Rest.allPc | apply Rest.allS | apply Rest.fin);(focus (refine Lo.rest ?_ (by assumption);(with_reducible repeat' constructor)))))
 all_goals (refine hQ _ ?_;exact Zy9)
theorem Yh0 {fn:Int} {l:List Int} (h:1≤fn∧fn≤6) (hs:0≤sl) (ht:0≤sl*th):Wx2 sl th ⟨fn,0,pad 10 l⟩:=by
 refine ⟨Wy4 _ _,?_⟩
 dsimp only
 omega
theorem YK3 (hQ:∀f,Wx2 sl th f→Q f) (h:AllF Q x) (hs:0≤sl) (ht:0≤sl*th):AllF Q (WA6 x):=by
 have r:=h.rest
 unfold WA6;dsimp only
 split
 ·refine AllF.push ?_ (hQ _ (Yh0 (by omega) hs ht))
  ((repeat (with_reducible first | apply AllF.load | apply AllF.store | apply AllF.cas | apply AllF.add | apply AllF.swing | apply AllF.swingA | apply AllF.swingM | apply AllF.drop1 | apply AllF.guard | apply AllF.gh | apply AllF.fo | apply AllF.re | apply AllF.setPl));first | with_reducible assumption | ((with_reducible first | apply Rest.pop | apply Rest.call | apply Rest.allPc | apply Rest.allS | apply Rest.fin);(focus (refine Lo.rest ?_ (by assumption);(with_reducible repeat' constructor)))))
 ·((repeat (with_reducible first | apply AllF.load | apply AllF.store | apply AllF.cas | apply AllF.add | apply AllF.swing | apply AllF.swingA | apply AllF.swingM | apply AllF.drop1 | apply AllF.guard | apply AllF.gh | apply AllF.fo | apply AllF.re | apply AllF.setPl));first | with_reducible assumption | ((with_reducible first | apply Rest.pop | apply Rest.call | apply Rest.allPc | apply Rest.allS | apply Rest.fin);(focus (refine Lo.rest ?_ (by assumption);(with_reducible repeat' constructor)))))
theorem Y33 (hQ:∀f,Wx2 sl th f→Q f) (h:AllF Q x) {all:Int} (ha:all=sl*th) (h0:0≤all) (o:Wx2 sl th x.f) (e:x.f.fn=6):AllF Q (WE6 x all):=by
 have r:=h.rest
 obtain ⟨len,o2⟩:=o
 unfold WE6
 split
 ·refine Rest.allPc (by exact Wr6) (hQ _ ?_)
  show Wx2 sl th (x.f.at (x.f.pc+1))
  exact Zy9
 ·exact h
theorem Y34 (hQ:∀f,Wx2 sl th f→Q f) (h:AllF Q x) (hs:0≤sl) (ht:0≤sl*th):AllF Q (W50 x):=by
 have r:=h.rest
 unfold W50
 split
 ·((repeat (with_reducible first | apply AllF.load | apply AllF.store | apply AllF.cas | apply AllF.add | apply AllF.swing | apply AllF.swingA | apply AllF.swingM | apply AllF.drop1 | apply AllF.guard | apply AllF.gh | apply AllF.fo | apply AllF.re | apply AllF.setPl));first | with_reducible assumption | ((with_reducible first | apply Rest.pop | apply Rest.call | apply Rest.allPc | apply Rest.allS | apply Rest.fin);(focus (refine Lo.rest ?_ (by assumption);(with_reducible repeat' constructor)))))
 ·refine AllF.push ?_ (hQ _ (Yh0 (by omega) hs ht))
  exact h.fo
theorem Zj0 (hQ:∀f,Wx2 sl th f→Q f) (h:AllF Q x) (hs:sl=x.m.p.slots) (ht:th=x.m.p.c.threads) (s0:0≤sl) (t0:0≤sl*th) (o:Wx2 sl th x.f) (e:x.f.fn=6):AllF Q (scan x):=by
 have hy:AllF Q (if x.f.pc=0 then x.fo [] else x)∧(if x.f.pc=0 then x.fo [] else x).f=x.f:=by
  split
  ·exact ⟨h.fo,rfl⟩
  ·exact ⟨h,rfl⟩
 unfold scan
 dsimp only
 generalize (if x.f.pc=0 then x.fo [] else x)=y at *
 obtain ⟨h2,ef⟩:=hy
 have r:=h2.rest
 rw [← hs,← ht]
 split
 ·rename_i c
  obtain ⟨len,o2⟩:=o
  refine Rest.allPc (by exact Wr6) (hQ _ ?_)
  show Wx2 sl th (y.f.at (y.f.pc+1))
  rw [ef] at c ⊢
  exact Zy9
 ·rename_i c
  exact Y34 hQ (Y33 hQ h2 rfl t0 (by rw [ef];exact o) (by rw [ef];exact e)) s0 t0
theorem Ys5 (hQ:∀f,Wx2 sl th f→Q f) (h:AllF Q x) (o:Wx2 sl th x.f):AllF Q (Wt4 x):=by
 have r:=h.rest
 unfold Wt4
 split
 ·exact h
 split
 ·exact Y32 hQ h o (by assumption)
 split
 ·exact Ys3 hQ h o (by assumption)
 ·((repeat (with_reducible first | apply AllF.load | apply AllF.store | apply AllF.cas | apply AllF.add | apply AllF.swing | apply AllF.swingA | apply AllF.swingM | apply AllF.drop1 | apply AllF.guard | apply AllF.gh | apply AllF.fo | apply AllF.re | apply AllF.setPl));first | with_reducible assumption | ((with_reducible first | apply Rest.pop | apply Rest.call | apply Rest.allPc | apply Rest.allS | apply Rest.fin);(focus (refine Lo.rest ?_ (by assumption);(with_reducible repeat' constructor)))))
theorem WC6 (hQ:∀f,Wx2 sl th f→Q f) (h:AllF Q x) (hs:sl=x.m.p.slots) (ht:th=x.m.p.c.threads) (s0:0≤sl) (t0:0≤sl*th) (o:Wx2 sl th x.f):AllF Q (Wk9 x):=by
 unfold Wk9
 split
 ·exact h
 split
 ·exact Ys4 hQ h o (by assumption)
 split
 ·exact Zi9 hQ h hs o (by assumption)
 split
 ·exact YK3 hQ h s0 t0
 split
 ·exact Zj0 hQ h hs ht s0 t0 o (by assumption)
 ·exact Ys5 hQ h o
end
end
section
open Mod
def fA (sl th fn pc:Int):Bool:=
 if fn=4 then decide (pc < sl) else if fn=5 then false else if fn=6 then decide (pc < sl*th)
 else if fn=10 then decide (pc=0) else if fn=14 then decide (pc≠1) else if fn=35 then decide (pc=0) else if fn=36 then decide (pc≠1)
 else decide (pc≠90)
def fW (fn pc:Int):Nat:=
 if fn=5 then 3 else if fn=6 then 2
 else if fn=20 then (if pc=0 then 2 else 1)
 else if fn=21 then (if pc=17 then 6 else if pc=8∨pc=1∨pc=12 then 3 else 2)
 else if fn=22∨fn=23 then (if pc=12 then 6 else if pc=1∨pc=7 then 3 else 2)
 else if fn=10 then (if pc=0 then 2 else 1)
 else if fn=11 then (if pc=6 then 6 else if pc=7∨pc=9 then 5 else if pc=8 then 4 else if pc=1∨pc=5∨pc=10∨pc=11∨pc=13∨pc=14 then 3 else 2)
 else if fn=12∨fn=13 then (if pc=6 then 6 else if pc=1 then 4 else if pc=0 then 3 else 2)
 else if fn=14 then (if pc=5∨pc=6 then 4 else if pc=0∨pc=1∨pc=4 then 3 else 2)
 else if fn=31 then (if pc=16 then 4 else if pc=1∨pc=7∨pc=11∨pc=12 then 3 else 2)
 else if fn=32∨fn=33 then (if pc=5 then 4 else if pc=2∨pc=6∨pc=12∨pc=13 then 3 else 2)
 else if fn=34 then (if pc=2∨pc=4 then 3 else 2)
 else if fn=35 then (if pc=2 then 6 else 2)
 else if fn=36 then (if pc=4 then 3 else 2)
 else 1
def fR (fn:Int):Nat:=if fn≤4 then 0 else if fn≤6 then 1 else if fn=10 then 2 else if fn=14∨fn=35 then 3 else 4
theorem ZF2 (fn:Int):fR fn≤4:=by
 unfold fR;repeat' split
 all_goals omega
theorem Zw0 {c:Prop} [Decidable c] {a b:Nat} (ha:1≤a∧a≤6) (hb:1≤b∧b≤6):1≤(if c then a else b)∧(if c then a else b)≤6:=by
 split
 ·exact ha
 ·exact hb
theorem Yh1 (fn pc:Int):1≤fW fn pc∧fW fn pc≤6:=by
 unfold fW
 repeat' (first | with_reducible apply Zw0 | exact ⟨by decide,by decide⟩)
section
variable (sl th:Int)
def muL:List Frm→Nat
 | []=>0
 | f :: l=>fW f.fn f.pc+if fA sl th f.fn f.pc=true then 0 else muL l
def onR (fn:Int):List Frm→Prop
 | []=>True
 | f :: _=>fA sl th f.fn f.pc=true∨fR fn < fR f.fn
def Za9:List Frm→Prop
 | []=>True
 | f :: l=>onR sl th f.fn l∧Za9 l
theorem Zq7:∀ {l:List Frm} {fn:Int},onR sl th fn l→Za9 sl th l→muL sl th l≤6*(5 - fR fn)
 | [],_,_,_=>Nat.zero_le _
 | f :: l,fn,h1,h2=>by
  unfold muL
  have hw:=(Yh1 f.fn f.pc).2
  have hr:=ZF2 fn
  have hr2:=ZF2 f.fn
  split
  ·omega
  ·rename_i c
   rcases h1 with h1 | h1
   ·exact absurd h1 c
   ·have ih:=Zq7 h2.1 h2.2
    omega
def rst (x:Run):List Frm:=x.t.fr.dropLast.reverse
def mu (x:Run):Nat:=muL sl th x.t.fr.reverse
structure Adj (x:Run):Prop where
 a:Za9 sl th x.t.fr.reverse
structure AdjR (fn:Int) (l:List Frm) (x:Run):Prop where
 f:x.f.fn=fn
 e:rst x=l
 o:onR sl th fn l
 a:Za9 sl th l
end
section
variable {sl th:Int} {x y:Run} {fn:Int} {l:List Frm}
theorem WO5 (h:x.t.fr≠[]):x.t.fr.reverse=x.f :: rst x:=by
 conv=>lhs;rw [W57 h]
 simp [rst,Run.f]
theorem Adj.r (h:Adj sl th x) (hne:x.t.fr≠[]):AdjR sl th x.f.fn (rst x) x:=by
 have h:=h.a
 rw [WO5 hne] at h
 exact ⟨rfl,rfl,h.1,h.2⟩
theorem Zj1 (x:Run) (f:Frm):rst (x.setF f)=rst x:=by
 show (x.t.fr.dropLast ++ [f]).dropLast.reverse=_
 rw [List.dropLast_append_of_ne_nil (by simp)]
 simp [rst]
theorem AdjR.setF {f:Frm} (h:AdjR sl th fn l x) (hf:f.fn=fn):AdjR sl th fn l (x.setF f):=⟨by rw [WU1];exact hf,by rw [Zj1];exact h.e,h.o,h.a⟩
theorem AdjR.s {i:Nat} {v:Int} (h:AdjR sl th fn l x):AdjR sl th fn l (x.s i v):=h.setF h.f
theorem AdjR.pc {i:Int} (h:AdjR sl th fn l x):AdjR sl th fn l (x.pc i):=h.setF h.f
theorem AdjR.gh {f:Gh→Gh} (h:AdjR sl th fn l x):AdjR sl th fn l (x.gh f):=⟨h.f,h.e,h.o,h.a⟩
theorem AdjR.fo {k:List Int} (h:AdjR sl th fn l x):AdjR sl th fn l (x.fo k):=⟨h.f,h.e,h.o,h.a⟩
theorem AdjR.re {k:List Int} (h:AdjR sl th fn l x):AdjR sl th fn l (x.re k):=⟨h.f,h.e,h.o,h.a⟩
theorem AdjR.all (h:AdjR sl th fn l x) (hne:x.t.fr≠[]):Adj sl th x:=by
 constructor
 rw [WO5 hne]
 exact ⟨by rw [h.f,h.e];exact h.o,by rw [h.e];exact h.a⟩
theorem Wr4 (x:Run) (f:Frm):(x.setF f).t.fr≠[]:=by
 show x.t.fr.dropLast ++ [f]≠[]
 simp
theorem Lo.adjR (h:Lo x y) (r:AdjR sl th fn l x):AdjR sl th fn l y:=by
 induction h with
 | refl=>exact r
 | s _ ih=>exact ih.s
 | pc _ ih=>exact ih.pc
 | _=>rename_i ih;exact ⟨ih.f,ih.e,ih.o,ih.a⟩
theorem Lo.ne (h:Lo x y) (r:x.t.fr≠[]):y.t.fr≠[]:=by
 induction h with
 | refl=>exact r
 | s _ ih=>exact Wr4 _ _
 | pc _ ih=>exact Wr4 _ _
 | _=>rename_i ih;exact ih
theorem AdjR.allPc {i:Int} (h:AdjR sl th fn l x):Adj sl th (x.pc i):=h.pc.all (Wr4 _ _)
theorem AdjR.allS {i:Nat} {v:Int} (h:AdjR sl th fn l x):Adj sl th (x.s i v):=h.s.all (Wr4 _ _)
theorem AdjR.pop {r:List Int} (h:AdjR sl th fn l x):Adj sl th (x.pop r):=by
 constructor
 show Za9 sl th (x.t.pop r).fr.reverse
 unfold Thr.pop
 split
 ·rename_i e;rw [e];trivial
 ·show Za9 sl th (rst x)
  rw [h.e];exact h.a
theorem Adj.push {i:Int} {r:List Int} (h:Adj sl th x) (ho:onR sl th i x.t.fr.reverse):Adj sl th (x.push i r):=by
 constructor
 show Za9 sl th (x.t.fr ++ [(⟨i,0,pad 10 r⟩ : Frm)]).reverse
 rw [List.reverse_append]
 show Za9 sl th (⟨i,0,pad 10 r⟩ :: x.t.fr.reverse)
 exact ⟨ho,h.a⟩
theorem AdjR.call {i j:Int} {r:List Int} (h:AdjR sl th fn l x) (hd:fA sl th fn i=true∨fR j < fR fn):Adj sl th (x.call i j r):=by
 refine Adj.push h.allPc ?_
 rw [show (x.pc i).t.fr.reverse=(x.pc i).f :: rst (x.pc i) from WO5 (Wr4 _ _)]
 show fA sl th (x.pc i).f.fn (x.pc i).f.pc=true∨_ < fR (x.pc i).f.fn
 rw [WE8,Ws5,Wy5,h.f]
 exact hd
theorem AdjR.fin {i j k:Int} (h:AdjR sl th fn l x) (hd:fR 4 < fR fn):Adj sl th (x.fin i j k):=by
 unfold Run.fin
 exact (h.s.s.s).call (.inr hd)
structure Act (x:Run):Prop where
 a:x.m.acted=true
theorem Wq2 (m:Mac) (a:Int):(m.touch a).acted=true:=by unfold Mac.touch;split <;> rfl
theorem Act.load {a:Int}:Act (x.load a).2:=by
 constructor
 show (x.m.load a).2.acted=true
 unfold Mac.load;dsimp only
 split <;> exact Wq2 _ _
theorem Act.store {a v:Int}:Act (x.store a v):=by
 constructor
 show (x.m.store a v).acted=true
 unfold Mac.store;dsimp only
 split <;> exact Wq2 _ _
theorem Act.cas {a o v:Int}:Act (x.cas a o v).2:=by
 constructor
 show (x.m.cas a o v).2.acted=true
 unfold Mac.cas;dsimp only
 split <;> exact Wq2 _ _
theorem Act.add {a v:Int}:Act (x.add a v).2:=by
 constructor
 show (x.m.add a v).2.acted=true
 unfold Mac.add;dsimp only
 split <;> exact Wq2 _ _
theorem Act.swing {a v w:Int} {b:Bool}:Act (x.swing a v w b).2:=Act.cas
theorem Act.swingA {a v w:Int}:Act (x.swingA a v w).2:=Act.cas
theorem Act.swingM {a v w:Int} {b:Bool}:Act (x.swingM a v w b).2:=Act.cas
theorem Act.drop1 {a:Int}:Act (x.drop1 a).2:=Act.add
theorem Act.guard {a b:Int}:Act (x.guard a b):=Act.store
theorem Act.dcas {a o n b p q:Int}:Act { x with m:=(x.m.dcas a o n b p q).2 }:=by
 constructor
 show (x.m.dcas a o n b p q).2.acted=true
 unfold Mac.dcas;dsimp only
 split <;> exact Wq2 _ _
theorem Act.dcss {a o n b p:Int}:Act { x with m:=(x.m.dcss a o n b p).2 }:=by
 constructor
 show (x.m.dcss a o n b p).2.acted=true
 unfold Mac.dcss;dsimp only
 split <;> exact Wq2 _ _
theorem Act.next {n:Int} (h:Act x):Act { x with m:=(x.m.next n).2 }:=by
 constructor
 show (x.m.next n).2.acted=true
 unfold Mac.next
 split <;> exact h.a
theorem Act.lvl {n:Int} (h:Act x):Act { x with m:=(x.m.lvl n).2 }:=by
 constructor
 show (x.m.lvl n).2.acted=true
 unfold Mac.lvl
 split <;> exact h.a
theorem Tch.act (h:Tch x):Act x:=by
 induction h with
 | load=>exact Act.load
 | store=>exact Act.store
 | cas=>exact Act.cas
 | add=>exact Act.add
 | swing=>exact Act.swing
 | swingA=>exact Act.swingA
 | swingM=>exact Act.swingM
 | drop1=>exact Act.drop1
 | guard=>exact Act.guard
 | dcas=>exact Act.dcas
 | dcss=>exact Act.dcss
 | next _ ih=>exact ih.next
 | lvl _ ih=>exact ih.lvl
 | _=>rename_i ih;exact ⟨ih.a⟩
theorem Zq8 (h:x.t.fr≠[]):mu sl th x=fW x.f.fn x.f.pc+if fA sl th x.f.fn x.f.pc=true then 0 else muL sl th (rst x):=by
 unfold mu
 rw [WO5 h]
 rfl
theorem W75 (x:Run) (i:Int) (r:List Int):mu sl th (x.push i r)=fW i 0+if fA sl th i 0=true then 0 else mu sl th x:=by
 unfold mu
 show muL sl th (x.t.fr ++ [(⟨i,0,pad 10 r⟩ : Frm)]).reverse=_
 rw [List.reverse_append]
 rfl
theorem Y35 (r:List Int) (h:x.t.fr≠[]):mu sl th (x.pop r)=muL sl th (rst x):=by
 unfold mu
 show muL sl th (x.t.pop r).fr.reverse=_
 unfold Thr.pop
 rw [if_neg h]
 rfl
section
variable {x0:Run} {pc0:Int}
theorem AdjR.mu (h0:AdjR sl th fn l x0) (hne:x0.t.fr≠[]) (hp:x0.f.pc=pc0):mu sl th x0=fW fn pc0+if fA sl th fn pc0=true then 0 else muL sl th l:=by
 rw [Zq8 hne,h0.f,h0.e,hp]
theorem AdjR.muPc (h:AdjR sl th fn l y) (i:Int):Proofs.YtahpbclnkofhfaaGreat.mu sl th (y.pc i)=fW fn i+if fA sl th fn i=true then 0 else muL sl th l:=
 h.pc.mu (Wr4 _ _) (by rw [WE8];rfl)
theorem AdjR.ltPc {i:Int} (h0:AdjR sl th fn l x0) (hne:x0.t.fr≠[]) (hp:x0.f.pc=pc0) (h:AdjR sl th fn l y)
  (hlt:(fW fn i+if fA sl th fn i=true then 0 else muL sl th l) < fW fn pc0+if fA sl th fn pc0=true then 0 else muL sl th l):Proofs.YtahpbclnkofhfaaGreat.mu sl th (y.pc i) < Proofs.YtahpbclnkofhfaaGreat.mu sl th x0:=by
 rw [h0.mu hne hp,h.muPc]
 exact hlt
theorem AdjR.ltCall {i j:Int} {r:List Int} (h0:AdjR sl th fn l x0) (hne:x0.t.fr≠[]) (hp:x0.f.pc=pc0) (h:AdjR sl th fn l y)
  (hlt:(fW j 0+if fA sl th j 0=true then 0 else fW fn i+if fA sl th fn i=true then 0 else muL sl th l) < fW fn pc0+if fA sl th fn pc0=true then 0 else muL sl th l):Proofs.YtahpbclnkofhfaaGreat.mu sl th (y.call i j r) < Proofs.YtahpbclnkofhfaaGreat.mu sl th x0:=by
 show Proofs.YtahpbclnkofhfaaGreat.mu sl th ((y.pc i).push j r) < _
 rw [h0.mu hne hp,W75,h.muPc]
 exact hlt
theorem AdjR.ltFin {i j k:Int} (h0:AdjR sl th fn l x0) (hne:x0.t.fr≠[]) (hp:x0.f.pc=pc0) (h:AdjR sl th fn l y)
  (hlt:(fW 4 0+if fA sl th 4 0=true then 0 else fW fn 90+if fA sl th fn 90=true then 0 else muL sl th l) < fW fn pc0+if fA sl th fn pc0=true then 0 else muL sl th l):Proofs.YtahpbclnkofhfaaGreat.mu sl th (y.fin i j k) < Proofs.YtahpbclnkofhfaaGreat.mu sl th x0:=
 h0.ltCall hne hp (h.s.s.s) hlt
theorem AdjR.ltPop {r:List Int} (h0:AdjR sl th fn l x0) (hne:x0.t.fr≠[]) (hp:x0.f.pc=pc0) (h:AdjR sl th fn l y) (hny:y.t.fr≠[])
  (hlt:muL sl th l < fW fn pc0+if fA sl th fn pc0=true then 0 else muL sl th l):Proofs.YtahpbclnkofhfaaGreat.mu sl th (y.pop r) < Proofs.YtahpbclnkofhfaaGreat.mu sl th x0:=by
 rw [h0.mu hne hp,Y35 r hny,h.e]
 exact hlt
end
def Nx (sl th:Int) (x y:Run):Prop:=Adj sl th y∧(Act y∨mu sl th y < mu sl th x)
end
end
section
open Mod
structure RunOk (Q:Mod.Cf→Frm→Prop) (c:Mod.Cf) (x:Run) (B:Nat):Prop where
 p:x.m.p=Wc7 c
 q:AllF (Q c) x
 a:Adj (Wc7 c).slots c.threads x
 pr:(x.t.pred.length:Int)=c.level
 su:(x.t.succ.length:Int)=c.level
 wo:(x.t.word.length:Int)=c.level
 P:x.P≤B
structure Y36 (d:Run→Run) (Q:Mod.Cf→Frm→Prop) (W:Run→Prop) (ins:Int):Prop where
 st:∀x,St 12 x (d x)
 all:∀c x,okC c=true→x.m.p=Wc7 c→x.t.fr≠[]→AllF (Q c) x→AllF (Q c) (d x)
 nx:∀c x,okC c=true→x.m.p=Wc7 c→x.t.fr≠[]→AllF (Q c) x→Adj (Wc7 c).slots c.threads x→Nx (Wc7 c).slots c.threads x (d x)
 w:∀c x B,okC c=true→RunOk Q c x B→B < 200000000→x.t.fr≠[]→0≤x.id∧x.id≤6→W x
 new:∀c op l,okC c=true→0≤op∧op≤2→Q c ⟨ins+op,0,pad 10 l⟩
section
variable {d:Run→Run} {Q:Mod.Cf→Frm→Prop} {W:Run→Prop} {ins:Int} {c:Mod.Cf}
theorem RunOk.mono {x:Run} {B C:Nat} (h:RunOk Q c x B) (hb:B≤C):RunOk Q c x C:=⟨h.p,h.q,h.a,h.pr,h.su,h.wo,Nat.le_trans h.P hb⟩
theorem RunOk.bit (D:Y36 d Q W ins) (hc:okC c=true) {x:Run} {B:Nat} (h:RunOk Q c x B) (hne:x.t.fr≠[]):RunOk Q c (d x) (B+24)∧Nx (Wc7 c).slots c.threads x (d x):=by
 have s:=D.st x
 have f:=s.fix
 have n:=D.nx c x hc h.p hne h.q h.a
 have hP:=s.P
 have:=h.P
 exact ⟨⟨f.p.trans h.p,D.all c x hc h.p hne h.q,n.1,by rw [f.pr];exact h.pr,by rw [f.su];exact h.su,by rw [f.wo];exact h.wo,by omega⟩,n⟩
theorem ZK1 {sl th:Int} {x:Run} (h:Adj sl th x):mu sl th x≤36:=by
 by_cases hne:x.t.fr = []
 ·unfold mu
  rw [hne]
  exact Nat.zero_le _
 ·rw [Zq8 hne]
  have r:=h.r hne
  have h1:=Zq7 sl th r.o r.a
  have h2:=(Yh1 x.f.fn x.f.pc).2
  split <;> omega
theorem YB1 (D:Y36 d Q W ins) (hc:okC c=true):∀(n:Nat) (x:Run) (B:Nat),mu (Wc7 c).slots c.threads x≤n→RunOk Q c x B→B+24*(n+1) < 200000000→0≤x.id∧x.id≤6 →
  ∃k z,Mod.bits d k x=some z∧Zz1 d W k x∧Fix x z∧RunOk Q c z (B+24*(n+1))
 | n,x,B,hm,h,hB,hid=>by
  by_cases c0:done x=true
  ·refine ⟨0,x,?_,trivial,⟨rfl,rfl,rfl,rfl,rfl,rfl,rfl,rfl⟩,h.mono (by omega)⟩
   unfold Mod.bits
   unfold done at c0
   rw [if_pos c0]
  ·have hne:x.t.fr≠[]:=by
    intro e
    unfold done at c0
    rw [e] at c0
    simp at c0
   have hb:∀k,Mod.bits d (k+1) x=Mod.bits d k (d x):=by
    intro k
    unfold done at c0
    conv=>lhs;unfold Mod.bits
    rw [if_neg c0]
   obtain ⟨h1,n1⟩:=h.bit D hc hne
   have hw:=D.w c x B hc h (by omega) hne hid
   have f:=(D.st x).fix
   rcases n1.2 with a | lt
   ·refine ⟨1,d x,?_,.inr ⟨hw,trivial⟩,f,h1.mono (by omega)⟩
    rw [hb]
    unfold Mod.bits
    rw [a.a]
    rfl
   ·cases n with
    | zero=>omega
    | succ n=>
     obtain ⟨k,z,e1,e2,e3,e4⟩:=YB1 D hc n (d x) (B+24) (by omega) h1 (by omega) (by rw [f.id];exact hid)
     refine ⟨k+1,z,by rw [hb];exact e1,.inr ⟨hw,e2⟩,⟨e3.p.trans f.p,e3.id.trans f.id,e3.th.trans f.th,e3.b.trans f.b,e3.w.trans f.w,e3.pr.trans f.pr,e3.su.trans f.su,e3.wo.trans f.wo⟩,e4.mono (by omega)⟩
structure ZK2 (Q:Mod.Cf→Frm→Prop) (c:Mod.Cf) (t:Thr):Prop where
 q:∀f ∈ t.fr,Q c f
 a:Za9 (Wc7 c).slots c.threads t.fr.reverse
 pr:(t.pred.length:Int)=c.level
 su:(t.succ.length:Int)=c.level
 wo:(t.word.length:Int)=c.level
def Mod.Thr.L (t:Thr):Nat:=t.retired.length+t.found.length+max t.fr.length 1
def YB2 (l:List Thr):Nat:=(l.map Mod.Thr.L).sum
theorem W76:∀ {l:List Thr} {k:Nat} {t t':Thr},l[k]? = some t→YB2 (l.set k t')+t.L=YB2 l+t'.L
 | [],_,_,_,h=>by simp at h
 | a :: l,0,t,t',h=>by
  simp only [List.getElem?_cons_zero,Option.some.injEq] at h
  subst h
  simp only [List.set_cons_zero,YB2,List.map_cons,List.sum_cons]
  omega
 | a :: l,k+1,t,t',h=>by
  simp only [List.getElem?_cons_succ] at h
  have ih:=W76 (t':=t') h
  simp only [List.set_cons_succ,YB2,List.map_cons,List.sum_cons] at *
  omega
def Mod.Mac.T (m:Mac):Nat:=m.mm.st.toNat+m.used.toNat+YB2 m.th
structure MacOk (Q:Mod.Cf→Frm→Prop) (c:Mod.Cf) (i:Nat) (m:Mac):Prop where
 ok:okC c=true
 p:m.p=Wc7 c
 w:(m.mm.w.length:Int)=(Wc7 c).size
 n:m.th.length≤6
 t:∀t ∈ m.th,ZK2 Q c t
 T:m.T≤1000*i+2000
theorem MacOk.good (D:Y36 d Q W ins):Y05 d W ins (MacOk Q c) where
 mono i m h:=⟨h.ok,h.p,h.w,h.n,h.t,Nat.le_trans h.T (by omega)⟩
 wd i m h:=by
  have B:=Wv3 h.ok
  have e:(m.mm.w.length:Int)=m.p.size:=by rw [h.p];exact h.w
  refine ⟨⟨by rw [h.p];rfl,e⟩,?_⟩
  have h1:=B.li
  have h2:=B.nd
  have h3:=B.tr
  have h4:=B.si
  rw [h.p] at e
  omega
 push i m k t cl h ht he ho hk hv:=by
  have hm:=List.mem_of_getElem? ht
  have o:=h.t t hm
  refine ⟨h.ok,h.p,h.w,?_,?_,?_⟩
  ·show (m.th.set k _).length≤6
   rw [List.length_set];exact h.n
  ·intro u hu
   rcases List.mem_or_eq_of_mem_set hu with hu | rfl
   ·exact h.t u hu
   ·refine ⟨?_,?_,o.pr,o.su,o.wo⟩
    ·intro f hf
     have hf:f ∈ t.fr ++ [⟨ins+cl.op,0,pad 10 [cl.key,cl.val]⟩]:=hf
     rw [he] at hf
     rw [List.mem_singleton.1 hf]
     exact D.new c cl.op _ h.ok ho
    ·show Za9 _ _ (t.fr ++ [(⟨ins+cl.op,0,pad 10 [cl.key,cl.val]⟩ : Frm)]).reverse
     rw [he]
     exact ⟨trivial,trivial⟩
  ·have e:=W76 (t':=t.push (ins+cl.op) [cl.key,cl.val]) ht
   have e2:(t.push (ins+cl.op) [cl.key,cl.val]).L=t.L:=by
    show t.retired.length+t.found.length+max (t.fr ++ [_]).length 1=t.retired.length+t.found.length+max t.fr.length 1
    rw [he]
    rfl
   have h2:m.mm.st.toNat+m.used.toNat+YB2 m.th≤1000*i+2000:=h.T
   show m.mm.st.toNat+m.used.toNat+YB2 (m.th.set k (t.push (ins+cl.op) [cl.key,cl.val]))≤_
   omega
 step i m k t h hi ht hne:=by
  have hm:=List.mem_of_getElem? ht
  have o:=h.t t hm
  have hk:=(List.getElem?_eq_some_iff.1 ht).1
  have hn:=h.n
  have hL:1≤t.fr.length:=List.length_pos_iff.2 hne
  have hT:m.mm.st.toNat+m.used.toNat+YB2 m.th≤1000*i+2000:=h.T
  have e0:=λt'=>W76 (t':=t') ht
  have e1:=e0 t
  have eT:t.L=t.retired.length+t.found.length+t.fr.length:=by
   unfold Mod.Thr.L
   rw [Nat.max_eq_left hL]
  have hs:YB2 (m.th.set k ⟨[],[],[],[],[],[],[]⟩)+t.L=YB2 m.th+1:=e0 _
  have hR:RunOk Q c ⟨m.quiet,t,k⟩ (m.mm.st.toNat+m.used.toNat+t.L):=by
   refine ⟨h.p,⟨o.q⟩,⟨o.a⟩,o.pr,o.su,o.wo,?_⟩
   show m.mm.st.toNat+m.used.toNat+t.retired.length+t.found.length+t.fr.length≤_
   omega
  obtain ⟨n,z,hb,hsf,f,hz⟩:=YB1 D h.ok 36 _ _ (ZK1 hR.a) hR (by omega) ⟨by show (0:Int)≤(k:Int);omega,by show (k:Int)≤6;omega⟩
  refine ⟨n,z,hb,hsf,f.id,f.th,h.ok,?_,?_,?_,?_,?_⟩
  ·exact f.p.trans h.p
  ·show (z.m.mm.w.length:Int)=_
   rw [f.w]
   exact h.w
  ·show (m.th.set k z.t).length≤6
   rw [List.length_set];exact hn
  ·intro u hu
   rcases List.mem_or_eq_of_mem_set hu with hu | rfl
   ·exact h.t u hu
   ·exact ⟨hz.q.a,hz.a.a,hz.pr,hz.su,hz.wo⟩
  ·have e2:=e0 z.t
   have hP:z.m.mm.st.toNat+z.m.used.toNat+z.t.retired.length+z.t.found.length+z.t.fr.length≤_:=hz.P
   have hz2:z.t.L≤z.t.retired.length+z.t.found.length+z.t.fr.length+1:=by
    unfold Mod.Thr.L
    have:max z.t.fr.length 1≤z.t.fr.length+1:=Nat.max_le.2 ⟨by omega,by omega⟩
    omega
   show z.m.mm.st.toNat+z.m.used.toNat+YB2 (m.th.set k z.t)≤_
   omega
theorem WC7 (m:Mm) (a v:Int):(m.store a v).w.length=m.w.length∧(m.store a v).st.toNat≤m.st.toNat+1:=by
 unfold Mm.store
 split
 ·exact ⟨by simp [Mm.tick,Mm.put],by show (m.st+1).toNat≤_;omega⟩
 ·exact ⟨rfl,by omega⟩
theorem WN2 (f:Nat→Int × Int):∀(l:List Nat) (m:Mm),(l.foldl (λ(m:Mm) (i:Nat)=>m.store (f i).1 (f i).2) m).w.length=m.w.length∧(l.foldl (λ(m:Mm) (i:Nat)=>m.store (f i).1 (f i).2) m).st.toNat≤m.st.toNat+l.length
 | [],m=>⟨rfl,by simp⟩
 | i :: l,m=>by
  have h1:=WC7 m (f i).1 (f i).2
  have h2:=WN2 f l (m.store (f i).1 (f i).2)
  simp only [List.foldl_cons,List.length_cons]
  exact ⟨h2.1.trans h1.1,by omega⟩
theorem Zw1 {c:Mod.Cf} (h:okC c=true):((lay (Wc7 c)).w.length:Int)=(Wc7 c).size∧(lay (Wc7 c)).st.toNat≤200:=by
 have B:=Wv3 h
 have b1:=B.no
 have b2:=B.lv
 have b3:=B.se
 have b4:=B.si
 have b5:=B.tr
 have b6:=B.nd
 have b7:=B.li
 unfold lay
 dsimp only
 generalize hm0:(⟨List.replicate (Wc7 c).size.toNat 0,0,false,[]⟩ : Mm)=m0
 have h0:(m0.w.length:Int)=(Wc7 c).size∧m0.st.toNat=0:=by
  subst hm0
  exact ⟨by simp;omega,rfl⟩
 have h1:=WC7 m0 0 (Wq9 ((Wc7 c).sent+1) false 0)
 generalize m0.store 0 (Wq9 ((Wc7 c).sent+1) false 0)=m1 at *
 have h2:=WN2 (λi=>((Wc7 c).link ((Wc7 c).sent+1+i),(Wc7 c).sent+1+i+1)) (List.range ((Wc7 c).c.nodes - ((Wc7 c).sent+1)).toNat) m1
 rw [List.length_range] at h2
 generalize hm2:(List.range ((Wc7 c).c.nodes - ((Wc7 c).sent+1)).toNat).foldl (λ(m:Mm) (i:Nat)=>m.store ((Wc7 c).link ((Wc7 c).sent+1+i)) ((Wc7 c).sent+1+i+1)) m1=m2
 have h2:m2.w.length=m1.w.length∧m2.st.toNat≤m1.st.toNat+((Wc7 c).c.nodes - ((Wc7 c).sent+1)).toNat:=by subst hm2;exact h2
 have h3:=WC7 m2 2 1
 generalize m2.store 2 1=m3 at *
 split
 ·exact ⟨by omega,by omega⟩
 ·have h4:=WC7 m3 ((Wc7 c).node 1 3) (Wc7 c).c.level
  generalize m3.store ((Wc7 c).node 1 3) (Wc7 c).c.level=m4 at *
  have h5:=WC7 m4 ((Wc7 c).node 2 0) 18446744073709551615
  generalize m4.store ((Wc7 c).node 2 0) 18446744073709551615=m5 at *
  have h6:=WN2 (λi=>((Wc7 c).node 1 (5+i),Wq9 2 false 0)) (List.range (Wc7 c).c.level.toNat) m5
  rw [List.length_range] at h6
  dsimp only at h6
  exact ⟨by omega,by omega⟩
theorem YB3 (c:Mod.Cf):∀n:Nat,YB2 (List.replicate n (WM2 c))=n
 | 0=>rfl
 | n+1=>by
  have ih:=YB3 c n
  simp only [List.replicate_succ,YB2,List.map_cons,List.sum_cons] at *
  have:(WM2 c).L=1:=rfl
  omega
theorem MacOk.new (hc:okC c=true) (b:List Int) (g:Bool):MacOk Q c 0 (We9 c b g):=by
 have hl:=Zw1 hc
 have B:=Wv3 hc
 have b1:1≤c.threads∧c.threads≤6:=B.th
 have b2:1≤c.level∧c.level≤6:=B.lv
 refine ⟨hc,rfl,hl.1,?_,?_,?_⟩
 ·show (List.replicate c.threads.toNat (WM2 c)).length≤6
  rw [List.length_replicate];omega
 ·intro t ht
  have ht:t ∈ List.replicate c.threads.toNat (WM2 c):=ht
  rw [(List.mem_replicate.1 ht).2]
  refine ⟨λf hf=>(by cases hf),trivial,?_,?_,?_⟩ <;> (show ((List.replicate c.level.toNat (0:Int)).length:Int)=c.level;rw [List.length_replicate];omega)
 ·show (lay (Wc7 c)).st.toNat+(0:Int).toNat+YB2 (List.replicate c.threads.toNat (WM2 c))≤_
  rw [YB3]
  have:(0:Int).toNat=0:=rfl
  omega
end
end
section
open Mod
theorem Sat.drop3q {h:Wa1} {A B C R:Hp} (H:Sat h (A*(B*(C*R)))):Sat h (A*(B*R)):=by
 rw [YF7] at H
 exact H.drop
section
variable {K:Value→Wa1→Prop} {h:Wa1} {Q M f:Nat} {ins:Int} {Ts:List Nat} {m:Mac} {R:Hp} {d:Run→Run} {W:Run→Prop} {Inv:Nat→Mac→Prop}
def W87 (a:Int):Nat:=if a=0 then 63 else if a=1 then 64 else 65
def Wm6 (a:Int):Int:=if a=0 then 11 else if a=1 then 21 else 31
theorem YK4 {c:Mod.Cf} {a:Option Addr} {cc:Nat} {bs:List Int} {gh:Bool} (H:Sat h R) (hs:∀h' P,Sat h' (P*R)→Sees h' a (bs.map λn=>.int .u8 n)) (hl:bs.length≤65536) (hr:∀n ∈ bs,0≤n∧n < 256)
  (k0:okC c=false→∀h',Sat h' R→K (.tuple #[.pointer none,.int .i64 6]) h') (k1:okC c=true→∀h' Q M Ts,Sat h' (suS Q M (W87 c.algo) (Wm6 c.algo) Ts (We9 c bs gh)*R)→K (.tuple #[mP Q,.int .i64 0]) h') :
  Wa5 Tryz.prog 30 #[cfV c,.slice a bs.length cc,.bool gh] h K:=by
 refine call30 ?_
 unfold F30 g30 cf lI dl7
 have H1:=H.push (.cells (cfc c).toArray 23)
 rw [show h.push (.cells #[.int .i64 c.algo,.int .i64 c.threads,.int .i64 c.nodes,.int .i64 c.level,.int .i64 c.batch,.int .i64 c.probes,.int .i64 c.scan] 23)=h.push (.cells (cfc c).toArray 23) from rfl]
 generalize h.push (.cells (cfc c).toArray 23)=h1 at *
 generalize h.size=CB at *
 have O:=H1.at
 refine ldR O rfl (ldR O rfl (ldR O rfl (ldR O rfl (ldR O rfl (ldR O rfl (ldR O rfl ?_))))))
 refine Wa0 (Ye7 (c:=c) H1 (λh' P HP=>hs h' emp (by rw [Wk8];exact HP.drop.drop)) hl hr (λhc h2 H2=>?_) λhc h2 M Ts H2=>?_)
 ·refine sb ?_
  refine WC0 ?_
  refine sb ?_
  refine WC1 ?_
  refine sb ?_
  refine Wb7 (λ_=>?_) (λhh=>by simp at hh)
  exact k0 hc h2 H2.drop
 ·refine sb ?_
  refine WC0 ?_
  refine sb ?_
  refine WC1 ?_
  refine sb ?_
  refine Wb7 (λhh=>by simp at hh) (λ_=>?_)
  generalize We9 c bs gh=m at *
  have H3:=H2.push (.cells #[mP M,.nilFunc,.int .i64 0] 115)
  generalize h2.push (.cells #[mP M,.nilFunc,.int .i64 0] 115)=h3 at *
  generalize h2.size=QB at *
  refine ⟨λ_ h'=>Sat h' (suS QB M (W87 c.algo) (Wm6 c.algo) Ts m*R),?_,?_⟩
  ·have OC:=(H3.drop.drop).at
   refine ldR OC rfl ?_
   refine sb ?_
   refine Wb7 (λe=>?_) (λe=>?_)
   ·have e:c.algo=0:=by simpa using e
    refine H3.st (i:=1) rfl trivial λh4 H4=>?_
    refine H4.st (i:=2) rfl trivial λh5 H5=>?_
    unfold W87 Wm6
    rw [if_pos e,if_pos e]
    exact WC4.2 (H5.drop3q)
   ·have e:¬ c.algo=0:=by simpa using e
    refine Wb7 (λe1=>?_) (λe1=>?_)
    ·have e1:c.algo=1:=by simpa using e1
     refine H3.st (i:=1) rfl trivial λh4 H4=>?_
     refine H4.st (i:=2) rfl trivial λh5 H5=>?_
     unfold W87 Wm6
     rw [if_neg e,if_neg e,if_pos e1,if_pos e1]
     exact WC4.2 (H5.drop3q)
    ·have e1:¬ c.algo=1:=by simpa using e1
     refine H3.st (i:=1) rfl trivial λh4 H4=>?_
     refine H4.st (i:=2) rfl trivial λh5 H5=>?_
     unfold W87 Wm6
     rw [if_neg e,if_neg e,if_neg e1,if_neg e1]
     exact WC4.2 (H5.drop3q)
  ·rintro v24 v25 g26 h27 H4
   exact k1 hc h27 QB M Ts H4
end
end
section
set_option maxRecDepth 100000
abbrev g29 (K:Value→Wa1→Prop) (h H1:Wa1):Prop:=
 (exI λI0=>(da7 H1 ⟨h.size,0,none⟩ λa b c d e f g=>cf 59 #[.agg #[a,b,c,d,e,f,g]] H1 λa b=>asInt .i64 a λa=>ifB (a != 0) (I0 [.bool true,.bool true,.bool true,.bool true] b) (lS b ⟨h.size,7,none⟩ λa a c=>lI .i64 b (Addr.add ⟨h.size,0,none⟩ 1) λc=>ifB ((a:Int) != c) (I0 [.bool ((a:Int) != c),.bool true,.bool true,.bool true] b) (YF6 b h.size λd e f g i j k l m n=>cf 60 #[.agg #[d,e,f,g,i,j,k,l,m,n]] b λb d=>asInt .i64 b λb=>ifB (decide (b > 48)) (I0 [.bool ((a:Int) != c),.bool (decide (b > 48)),.bool true,.bool true] d) (lS d ⟨h.size,8,none⟩ λe e f=>ifB (decide ((e:Int) > 60000)) (I0 [.bool ((a:Int) != c),.bool (decide (b > 48)),.bool (decide ((e:Int) > 60000)),.bool true] d) (lS d ⟨h.size,9,none⟩ λf f g=>I0 [.bool ((a:Int) != c),.bool (decide (b > 48)),.bool (decide ((e:Int) > 60000)),.bool (decide ((f:Int) > 4096))] d)))))∧(∀(a b c d:Value) (e:Env) (e:Wa1),(I0 [a,b,c,d] e)→(asBool d λa=>ifB a (K (.bool false) e) (lS e ⟨h.size,7,none⟩ λa b c=>exI λI49=>exM λm50=>(I49 [.bool false,.tuple #[],.int .i64 0,.tuple #[]] e)∧(∀(c d e f:Value) (g:Env) (g:Wa1),(I49 [c,d,e,f] g)→(asInt .i64 e λi=>ifB (decide (i < (b:Int))) (asI e λi=>bd i (b:Int) (Wd2 (.pointer a) λa=>lS g (Addr.add a (i.toNat*1)) λa b i=>exI λI64=>exM λm65=>(I64 [c,.int .i64 0] g)∧(∀(j k:Value) (l:Env) (l:Wa1),(I64 [j,k] l)→(asInt .i64 k λm=>ifB (decide (m < (b:Int))) (asI k λm=>bd m (b:Int) (Wd2 (.pointer a) λn=>ldH l (Addr.add n (m.toNat*3)) λo=>ldH l (Addr.add (Addr.add n (m.toNat*3)) 1) λp=>ldH l (Addr.add (Addr.add n (m.toNat*3)) 2) λm=>stH (Array.push l (.cells #[.int .i64 0,.int .u32 0,.int .u32 0] 41)) ⟨l.size,0,none⟩ o λn=>stH n ⟨l.size,1,none⟩ p λn=>stH n ⟨l.size,2,none⟩ m λm=>dl3 m l.size λn o p=>cf 61 #[.agg #[n,o,p]] m λm n=>asBool m λm=>ifB (!m) (K (.bool false) n) (asInt .i64 k λm=>(I64 [j,.int .i64 (IntKind.wrap .i64 (m+1))] n)∧((m65 [j,.int .i64 (IntKind.wrap .i64 (m+1))] n) < (m65 [j,k] l))))) (asInt .i64 e λm=>(I49 [j,.slice a b i,.int .i64 (IntKind.wrap .i64 (m+1)),k] l)∧((m50 [j,.slice a b i,.int .i64 (IntKind.wrap .i64 (m+1)),k] l) < (m50 [c,d,e,f] g))))))) (lS g ⟨h.size,8,none⟩ λa b d=>exI λI91=>exM λm92=>(I91 [c,.tuple #[],.int .i64 0] g)∧(∀(c d e:Value) (f:Env) (f:Wa1),(I91 [c,d,e] f)→(asInt .i64 e λg=>ifB (decide (g < (b:Int))) (asI e λg=>bd g (b:Int) (Wd2 (.pointer a) λa=>lI .i64 f (Addr.add a (g.toNat*1)) λa=>exI λI103=>(ifB (decide (a < 0)) (I103 [.bool true] f) (lI .i64 f (Addr.add ⟨h.size,0,none⟩ 1) λb=>I103 [.bool (decide (a ≥ b))] f))∧(∀(b:Value) (g:Env) (g:Wa1),(I103 [b] g)→(asBool b λb=>ifB b (K (.bool false) g) (asInt .i64 e λb=>(I91 [c,.int .i64 a,.int .i64 (IntKind.wrap .i64 (b+1))] g)∧((m92 [c,.int .i64 a,.int .i64 (IntKind.wrap .i64 (b+1))] g) < (m92 [c,d,e] f))))))) (K (.bool true) f))))))))))
def F29 (K:Value→Wa1→Prop) (h:Wa1) (xa xb xc xd xe xf xg:Int) (xh:Option Addr) (xi xj:Nat) (xk:Option Addr) (xl xm:Nat) (xn:Option Addr) (xo xp:Nat):Prop:=
 (g29 K h (Array.push h (.cells #[.int .i64 xa,.int .i64 xb,.int .i64 xc,.int .i64 xd,.int .i64 xe,.int .i64 xf,.int .i64 xg,.slice xh xi xj,.slice xk xl xm,.slice xn xo xp] 28)))
theorem call29 {K:Value→Wa1→Prop} {h:Wa1} {xa xb xc xd xe xf xg:Int} {xh:Option Addr} {xi xj:Nat} {xk:Option Addr} {xl xm:Nat} {xn:Option Addr} {xo xp:Nat} (H:F29 K h xa xb xc xd xe xf xg xh xi xj xk xl xm xn xo xp):Wa5 Tryz.prog 29 #[(.agg #[(.int .i64 xa),(.int .i64 xb),(.int .i64 xc),(.int .i64 xd),(.int .i64 xe),(.int .i64 xf),(.int .i64 xg),(.slice xh xi xj),(.slice xk xl xm),(.slice xn xo xp)])] h K:=
 Wa4 Tryz.func29 (by kernel_rfl) (Eq.mp (by kernel_rfl) H)
abbrev g60 (K:Value→Wa1→Prop) (h H1:Wa1):Prop:=
 (lS H1 ⟨h.size,7,none⟩ λa b c=>exI λI4=>exM λm5=>(I4 [.int .i64 0,.tuple #[],.int .i64 0] H1)∧(∀(c d e:Value) (f:Env) (f:Wa1),(I4 [c,d,e] f)→(asInt .i64 e λg=>ifB (decide (g < (b:Int))) (asI e λg=>bd g (b:Int) (Wd2 (.pointer a) λa=>lS f (Addr.add a (g.toNat*1)) λa b g=>asInt .i64 c λi=>asInt .i64 e λj=>(I4 [.int .i64 (IntKind.wrap .i64 (i+(b:Int))),.slice a b g,.int .i64 (IntKind.wrap .i64 (j+1))] f)∧((m5 [.int .i64 (IntKind.wrap .i64 (i+(b:Int))),.slice a b g,.int .i64 (IntKind.wrap .i64 (j+1))] f) < (m5 [c,d,e] f)))) (asInt .i64 c λa=>K (.int .i64 a) f))))
def F60 (K:Value→Wa1→Prop) (h:Wa1) (xa xb xc xd xe xf xg:Int) (xh:Option Addr) (xi xj:Nat) (xk:Option Addr) (xl xm:Nat) (xn:Option Addr) (xo xp:Nat):Prop:=
 (g60 K h (Array.push h (.cells #[.int .i64 xa,.int .i64 xb,.int .i64 xc,.int .i64 xd,.int .i64 xe,.int .i64 xf,.int .i64 xg,.slice xh xi xj,.slice xk xl xm,.slice xn xo xp] 28)))
theorem call60 {K:Value→Wa1→Prop} {h:Wa1} {xa xb xc xd xe xf xg:Int} {xh:Option Addr} {xi xj:Nat} {xk:Option Addr} {xl xm:Nat} {xn:Option Addr} {xo xp:Nat} (H:F60 K h xa xb xc xd xe xf xg xh xi xj xk xl xm xn xo xp):Wa5 Tryz.prog 60 #[(.agg #[(.int .i64 xa),(.int .i64 xb),(.int .i64 xc),(.int .i64 xd),(.int .i64 xe),(.int .i64 xf),(.int .i64 xg),(.slice xh xi xj),(.slice xk xl xm),(.slice xn xo xp)])] h K:=
 Wa4 Tryz.func60 (by kernel_rfl) (Eq.mp (by kernel_rfl) H)
end
section
theorem YK5 {K:Value→Wa1→Prop} {h:Wa1} (c:Cf) (k1:c.Right→∀h',Old h.size h h'→K (.int .i64 0) h') (k0:¬ c.Right→∀h',Old h.size h h'→K (.int .i64 6) h') :
  Wa5 Tryz.prog 59 #[.agg c.vals] h K:=by
 refine call59 ?_
 unfold F59 g59 cf Wn6 dl7
 have p1:=Wf6 h c.vals 23
 rw [show h.push (.cells #[.int .i64 c.a,.int .i64 c.t,.int .i64 c.n,.int .i64 c.l,.int .i64 c.b,.int .i64 c.p,.int .i64 c.s] 23)=h.push (.cells c.vals 23) from rfl]
 generalize h.push (.cells c.vals 23)=h1 at *
 have o1:=p1.toOld
 iterate 7 (refine ldR p1.new rfl ?_)
 have key:∀(cs:Array Value) (e:Int),(∃v0 v1 v2 v3 v4 v5 v6 v7 v8 v9 v10 v11 v12 v13 v14,cs=#[v0,v1,v2,v3,v4,v5,v6,v7,v8,v9,v10,v11,v12,v13,v14]∧∀y ∈ [v0,v1,v2,v3,v4,v5,v6,v7,v8,v9,v10,v11,v12,v13,v14],Wi5 y True)→∀h8,Old h.size h h8 →
   (∀h',Old h.size h h'→K (.int .i64 e) h') →
   (Wg5 (.tuple #[.agg cs,.int .i64 e]) (λvs9=>(Wc0 vs9 0 (λv10=>(asAgg v10 (λvs11=>(We0 vs11 15 (Wc0 vs11 0 (λv12=>(Wc0 vs11 1 (λv13=>(Wc0 vs11 2 (λv14=>(Wc0 vs11 3 (λv15=>(Wc0 vs11 4 (λv16=>(Wc0 vs11 5 (λv17=>(Wc0 vs11 6 (λv18=>(Wc0 vs11 7 (λv19=>(Wc0 vs11 8 (λv20=>(Wc0 vs11 9 (λv21=>(Wc0 vs11 10 (λv22=>(Wc0 vs11 11 (λv23=>(Wc0 vs11 12 (λv24=>(Wc0 vs11 13 (λv25=>(Wc0 vs11 14 (λv26=>(Wg5 (.tuple #[.agg cs,.int .i64 e]) (λvs27=>(Wc0 vs27 1 (λv28=>(asInt .i64 v28 (λn29=>(stH (Array.push h8 (.cells Wj8 117)) ⟨h8.size,0,none⟩ v12 (λh30=>(stH h30 ⟨h8.size,1,none⟩ v13 (λh31=>(stH h31 ⟨h8.size,2,none⟩ v14 (λh32=>(stH h32 ⟨h8.size,3,none⟩ v15 (λh33=>(stH h33 ⟨h8.size,4,none⟩ v16 (λh34=>(stH h34 ⟨h8.size,5,none⟩ v17 (λh35=>(stH h35 ⟨h8.size,6,none⟩ v18 (λh36=>(stH h36 ⟨h8.size,7,none⟩ v19 (λh37=>(stH h37 ⟨h8.size,8,none⟩ v20 (λh38=>(stH h38 ⟨h8.size,9,none⟩ v21 (λh39=>(stH h39 ⟨h8.size,10,none⟩ v22 (λh40=>(stH h40 ⟨h8.size,11,none⟩ v23 (λh41=>(stH h41 ⟨h8.size,12,none⟩ v24 (λh42=>(stH h42 ⟨h8.size,13,none⟩ v25 (λh43=>(stH h43 ⟨h8.size,14,none⟩ v26 (λh44=>(K (.int .i64 n29) h44)))))))))))))))))))))))))))))))))))))))))))))))))))))))))))))))))))))))))):=by
  rintro cs e ⟨v0,v1,v2,v3,v4,v5,v6,v7,v8,v9,v10,v11,v12,v13,v14,rfl,hone⟩ h8 o8 k
  simp only [We5,ZB0,ZB1,Ww3]
  refine Wm0 rfl ?_
  iterate 15 (refine Wc1 rfl ?_)
  simp only [Wa6]
  have p:=Wf6 h8 Wj8 117
  generalize h8.push (.cells Wj8 117)=h9 at *
  refine Za6 (Wd3 p.new rfl hone λh44 w=>?_)
  exact k _ (w.toOld (o8.trans (p.toOld.mono o8.1)) o8.1)
 refine Wa0 (Yy4 c (λhr h8 o8=>?_) (λhr h8 o8=>?_))
 ·exact key _ _ ⟨_,_,_,_,_,_,_,_,_,_,_,_,_,_,_,rfl,by simp [Wi5]⟩ h8 (o1.trans (o8.mono o1.1)) (k1 hr)
 ·exact key _ _ ⟨_,_,_,_,_,_,_,_,_,_,_,_,_,_,_,rfl,by simp [Wi5]⟩ h8 (o1.trans (o8.mono o1.1)) (k0 hr)
end
section
theorem YK6 {K:Value→Wa1→Prop} {h:Wa1} (c:Cf) (k1:c.Right→∀h',Old h.size h h'→K (.bool true) h') (k0:¬ c.Right→∀h',Old h.size h h'→K (.bool false) h') :
  Wa5 Tryz.prog 9 #[.agg c.vals] h K:=by
 refine call9 ?_
 unfold F9 g9 cf ce lI dl7
 have p1:=Wf6 h c.vals 23
 rw [show h.push (.cells #[.int .i64 c.a,.int .i64 c.t,.int .i64 c.n,.int .i64 c.l,.int .i64 c.b,.int .i64 c.p,.int .i64 c.s] 23)=h.push (.cells c.vals 23) from rfl]
 generalize h.push (.cells c.vals 23)=h1 at *
 have o1:=p1.toOld
 have c1:=p1.new
 refine ⟨λvs h'=>∃v1 v2 v3 v4 v5 v6 b,vs = [v1,v2,v3,v4,v5,v6,.bool b]∧h' = h1∧(b=true→¬ c.Right)∧(b=false→0≤c.a∧c.a≤2∧1≤c.t∧c.t≤6∧1≤c.n∧c.n≤64∧1≤c.l∧c.l≤6),?_,?_⟩
 ·refine ldR c1 rfl ?_
  simp only [Wa6]
  refine Wa3 (λq=>⟨_,_,_,_,_,_,_,rfl,by trivial,λ_ r=>by have:=r.a;omega,λe=>by cases e⟩) λq1=>?_
  refine ldR c1 rfl ?_
  simp only [Wa6]
  refine Wa3 (λq=>⟨_,_,_,_,_,_,_,rfl,by trivial,λ_ r=>by have:=r.a;omega,λe=>by cases e⟩) λq2=>?_
  refine ldR c1 rfl ?_
  simp only [Wa6]
  refine Wa3 (λq=>⟨_,_,_,_,_,_,_,rfl,by trivial,λ_ r=>by have:=r.t;omega,λe=>by cases e⟩) λq3=>?_
  refine ldR c1 rfl ?_
  simp only [Wa6]
  refine Wa3 (λq=>⟨_,_,_,_,_,_,_,rfl,by trivial,λ_ r=>by have:=r.t;omega,λe=>by cases e⟩) λq4=>?_
  refine ldR c1 rfl ?_
  simp only [Wa6]
  refine Wa3 (λq=>⟨_,_,_,_,_,_,_,rfl,by trivial,λ_ r=>by have:=r.n;omega,λe=>by cases e⟩) λq5=>?_
  refine ldR c1 rfl ?_
  simp only [Wa6]
  refine Wa3 (λq=>⟨_,_,_,_,_,_,_,rfl,by trivial,λ_ r=>by have:=r.n;omega,λe=>by cases e⟩) λq6=>?_
  refine ldR c1 rfl ?_
  simp only [Wa6]
  refine Wa3 (λq=>⟨_,_,_,_,_,_,_,rfl,by trivial,λ_ r=>by have:=r.l;omega,λe=>by cases e⟩) λq7=>?_
  refine ldR c1 rfl ?_
  simp only [Wa6]
  refine ⟨_,_,_,_,_,_,_,rfl,by trivial,λe r=>?_,λe=>?_⟩
  ·have:=of_decide_eq_true e;have:=r.l;omega
  ·have:=of_decide_eq_false e;omega
 rintro v17 v18 v19 v20 v21 v22 v23 g24 h25 ⟨_,_,_,_,_,_,b,e,rfl,hb1,hb0⟩
 cases e
 simp only [Wa9]
 refine Wb7 (λhb=>k0 (hb1 hb) _ o1) (λhb=>?_)
 obtain ⟨a1,a2,t1,t2,n1,n2,l1,l2⟩:=hb0 hb
 refine ⟨λvs h'=>∃v1 v2 v3 v4 b,vs = [v1,v2,v3,v4,.bool b]∧h' = h25∧(b=true→¬ c.Right)∧(b=false→1≤c.b∧c.b≤16∧1≤c.p∧c.p≤16∧1≤c.s∧c.s≤64),?_,?_⟩
 ·refine ldR c1 rfl ?_
  simp only [Wa6]
  refine Wa3 (λq=>⟨_,_,_,_,_,rfl,by trivial,λ_ r=>by have:=r.b;omega,λe=>by cases e⟩) λq1=>?_
  refine ldR c1 rfl ?_
  simp only [Wa6]
  refine Wa3 (λq=>⟨_,_,_,_,_,rfl,by trivial,λ_ r=>by have:=r.b;omega,λe=>by cases e⟩) λq2=>?_
  refine ldR c1 rfl ?_
  simp only [Wa6]
  refine Wa3 (λq=>⟨_,_,_,_,_,rfl,by trivial,λ_ r=>by have:=r.p;omega,λe=>by cases e⟩) λq3=>?_
  refine ldR c1 rfl ?_
  simp only [Wa6]
  refine Wa3 (λq=>⟨_,_,_,_,_,rfl,by trivial,λ_ r=>by have:=r.p;omega,λe=>by cases e⟩) λq4=>?_
  refine ldR c1 rfl ?_
  simp only [Wa6]
  refine Wa3 (λq=>⟨_,_,_,_,_,rfl,by trivial,λ_ r=>by have:=r.s;omega,λe=>by cases e⟩) λq5=>?_
  refine ldR c1 rfl ?_
  simp only [Wa6]
  refine ⟨_,_,_,_,_,rfl,by trivial,λe r=>?_,λe=>?_⟩
  ·have:=of_decide_eq_true e;have:=r.s;omega
  ·have:=of_decide_eq_false e;omega
 rintro v40 v41 v42 v43 v44 g45 h46 ⟨_,_,_,_,b',e,rfl,hb1',hb0'⟩
 cases e
 simp only [Wa9]
 refine Wb7 (λhb'=>k0 (hb1' hb') _ o1) (λhb'=>?_)
 obtain ⟨b1,b2,p1',p2,s1,s2⟩:=hb0' hb'
 refine ldR c1 rfl ?_
 simp only [Wa6]
 iterate 7 (refine ldR c1 rfl ?_)
 refine Wa0 ?_
 refine (show Wa5 Tryz.prog 28 #[.agg c.vals] h46 _ from call28 ?_)
 unfold F28 g28 lI
 have p2':=Wf6 h46 c.vals 23
 rw [show h46.push (.cells #[.int .i64 c.a,.int .i64 c.t,.int .i64 c.n,.int .i64 c.l,.int .i64 c.b,.int .i64 c.p,.int .i64 c.s] 23)=h46.push (.cells c.vals 23) from rfl]
 generalize h46.push (.cells c.vals 23)=h2 at *
 have o2:=o1.trans (p2'.toOld.mono o1.1)
 have c2:=(p2'.old h.size (by have:=p1.size;omega)).trans c1
 have fin:∀z:Int,z=c.sent→(z < c.n↔c.Right):=λz e=>⟨λhz=>⟨⟨a1,a2⟩,⟨t1,t2⟩,⟨n1,n2⟩,⟨l1,l2⟩,⟨b1,b2⟩,⟨p1',p2⟩,⟨s1,s2⟩,by omega⟩,λr=>by have:=r.z;omega⟩
 have fin2:∀z:Int,z=c.sent→K (.bool (decide (c.n > z))) h2:=λz e=>by
  by_cases hz:z < c.n
  ·rw [decide_eq_true hz];exact k1 ((fin z e).1 hz) _ o2
  ·rw [decide_eq_false hz];exact k0 (λr=>hz ((fin z e).2 r)) _ o2
 refine ldR p2'.new rfl ?_
 simp only [Wa6]
 refine Wb7 (λhz=>?_) (λhz=>?_)
 ·exact ⟨Wd4 c2 rfl,fin2 _ (by unfold Cf.sent;rw [if_pos (by simpa using hz)])⟩
 ·exact ⟨Wd4 c2 rfl,fin2 _ (by unfold Cf.sent;rw [if_neg (by simpa using hz)])⟩
end
section
open Mod
def YB4 (c:Mod.Cf) (calls:List (List Cl)) (Wb6 draws:List Int):Bool:=
 okC c && (((calls.length:Int) == c.threads) && (decide (calls.flatten.length≤48) && (decide (Wb6.length≤60000) && (decide (draws.length≤4096) && (calls.all (λl=>l.all WN1) && Wb6.all λk=>decide (0≤k) && decide (k < c.threads))))))
theorem WE5 (n:Nat) (h:n < 2 ^ 62):s64 (n:Int)=n:=by unfold s64;omega
theorem Y37 {α:Type} {L:List (List α)} {j:Nat} (hj:j < L.length):(L.take (j+1)).flatten.length=(L.take j).flatten.length+(L[j]).length:=by
 rw [List.take_succ_eq_append_getElem hj,List.flatten_append,List.length_append,List.flatten_singleton]
theorem ZF3 {α:Type} {L:List (List α)} (j:Nat):(L.take j).flatten.length≤L.flatten.length:=by
 conv=>rhs;rw [← List.take_append_drop j L,List.flatten_append,List.length_append]
 omega
theorem Yh2 {K:Value→Wa1→Prop} {h:Wa1} {c:Mod.Cf} (k1:okC c=true→∀h',Old h.size h h'→K (.int .i64 0) h') (k0:okC c=false→∀h',Old h.size h h'→K (.int .i64 6) h') :
  Wa5 Tryz.prog 59 #[.agg #[.int .i64 c.algo,.int .i64 c.threads,.int .i64 c.nodes,.int .i64 c.level,.int .i64 c.batch,.int .i64 c.probes,.int .i64 c.scan]] h K:=by
 refine YK5 (Zz2 c) (λhr h' o=>k1 ((Ws7 c).1 hr) h' o) (λhr h' o=>k0 ?_ h' o)
 rw [← Bool.not_eq_true]
 exact λhh=>hr ((Ws7 c).2 hh)
section
variable {K:Value→Wa1→Prop} {h:Wa1} {R:Hp} {c:Mod.Cf} {ca pa da:Option Addr} {cl cc pl pc dl dc:Nat} {calls:List (List Cl)} {Wb6 draws:List Int}
theorem Yh3 (H:Sat h R) (hS:∀h' P,Sat h' (P*R)→ScrI h' ca cl pa pl da dl calls Wb6 draws) (hn:calls.flatten.length < 2 ^ 60) (hn2:calls.length < 2 ^ 60) (k:∀h',Sat h' R→K (.int .i64 calls.flatten.length) h') :
  Wa5 Tryz.prog 60 #[.agg #[.int .i64 c.algo,.int .i64 c.threads,.int .i64 c.nodes,.int .i64 c.level,.int .i64 c.batch,.int .i64 c.probes,.int .i64 c.scan,.slice ca cl cc,.slice pa pl pc,.slice da dl dc]] h K:=by
 refine call60 ?_
 unfold F60 g60 bd lS
 have H1:=H.push (.cells (Wv5 c ca cl cc pa pl pc da dl dc).toArray 28)
 rw [show h.push (.cells #[.int .i64 c.algo,.int .i64 c.threads,.int .i64 c.nodes,.int .i64 c.level,.int .i64 c.batch,.int .i64 c.probes,.int .i64 c.scan,.slice ca cl cc,.slice pa pl pc,.slice da dl dc] 28)=h.push (.cells (Wv5 c ca cl cc pa pl pc da dl dc).toArray 28) from rfl]
 generalize h.push (.cells (Wv5 c ca cl cc pa pl pc da dl dc).toArray 28)=h1 at *
 generalize h.size=SB at *
 have I:=hS h1 _ H1
 have ecl:=I.f.cs
 subst ecl
 refine ldR H1.at rfl ?_
 refine sb ?_
 refine ⟨λvs h'=>(∃(u:Value) (j:Nat),vs = [.int .i64 (calls.take j).flatten.length,u,.int .i64 j]∧j≤calls.length)∧h' = h1,λvs _=>match vs with | [_,_,.int _ i]=>((calls.length:Int) - i).toNat | _=>0,⟨⟨_,0,rfl,Nat.zero_le _⟩,rfl⟩,?_⟩
 rintro v6 v7 v8 g9 h10 ⟨⟨u,j,e,hj⟩,rfl⟩
 cases e
 refine sb ?_
 refine Wa3 (λc1=>?_) (λc1=>?_)
 ·have hj2:j < calls.length:=by omega
  obtain ⟨ra,rc,⟨ad,ea,hc⟩,_⟩:=I.f.row j hj2
  have eg:calls.getD j []=calls[j]:=by rw [List.getD_eq_getElem?_getD,List.getElem?_eq_getElem hj2];rfl
  rw [eg] at hc
  subst ea
  refine ⟨by omega,by omega,?_⟩
  refine sb ?_
  refine Wc5 hc ?_
  refine sb ?_
  have e3:=Y37 hj2
  have e4:=ZF3 (L:=calls) (j+1)
  rw [show s64 (((calls.take j).flatten.length:Int)+((calls[j]).length:Int))=((calls.take (j+1)).flatten.length:Int) from by rw [e3,← Int.natCast_add];exact WE5 _ (by omega),show s64 ((j:Int)+1)=((j+1:Nat):Int) from by rw [← Int.natCast_add_one];exact WE5 _ (by omega)]
  refine ⟨by first | exact ⟨⟨_,j+1,rfl,by omega⟩,rfl⟩ | exact ⟨_,j+1,rfl,by omega⟩,?_⟩
  show ((calls.length:Int) - ((j+1:Nat):Int)).toNat < ((calls.length:Int) - (j:Int)).toNat
  omega
 ·rw [show j=calls.length by omega,List.take_length]
  exact k h10 H1.drop
theorem Yh4 (H:Sat h R) (hS:∀h' P,Sat h' (P*R)→ScrI h' ca cl pa pl da dl calls Wb6 draws) (hn:calls.flatten.length < 2 ^ 60) (hn2:calls.length < 2 ^ 60) (hn3:Wb6.length < 2 ^ 60)
  (hV:∀l ∈ calls,l.length < 2 ^ 60) (k:∀h',Sat h' R→K (.bool (YB4 c calls Wb6 draws)) h') :
  Wa5 Tryz.prog 29 #[.agg #[.int .i64 c.algo,.int .i64 c.threads,.int .i64 c.nodes,.int .i64 c.level,.int .i64 c.batch,.int .i64 c.probes,.int .i64 c.scan,.slice ca cl cc,.slice pa pl pc,.slice da dl dc]] h K:=by
 refine call29 ?_
 unfold F29 g29 cf bd lS lI da7 dl3 YF6
 have H1:=H.push (.cells (Wv5 c ca cl cc pa pl pc da dl dc).toArray 28)
 rw [show h.push (.cells #[.int .i64 c.algo,.int .i64 c.threads,.int .i64 c.nodes,.int .i64 c.level,.int .i64 c.batch,.int .i64 c.probes,.int .i64 c.scan,.slice ca cl cc,.slice pa pl pc,.slice da dl dc] 28)=h.push (.cells (Wv5 c ca cl cc pa pl pc da dl dc).toArray 28) from rfl]
 generalize h.push (.cells (Wv5 c ca cl cc pa pl pc da dl dc).toArray 28)=h1 at *
 generalize h.size=SB at *
 have I:=hS h1 _ H1
 have ecl:=I.f.cs
 have epl:=I.f.ps
 have edl:=I.ds
 subst ecl epl edl
 have hS1:∀h' P,Sat h' (P*(pt SB (.cells (Wv5 c ca calls.length cc pa Wb6.length pc da draws.length dc).toArray 28)*R))→ScrI h' ca calls.length pa Wb6.length da draws.length calls Wb6 draws:=λh' P HP=>hS h' emp (by rw [Wk8];exact HP.drop.drop)
 obtain ⟨b0,hb0⟩ : ∃b0:Bool,b0=(okC c && (((calls.length:Int) == c.threads) && (decide (calls.flatten.length≤48) && (decide (Wb6.length≤60000) && decide (draws.length≤4096))))):=⟨_,rfl⟩
 have hsc:YB4 c calls Wb6 draws=(b0 && (calls.all (λl=>l.all WN1) && Wb6.all λk=>decide (0≤k) && decide (k < c.threads))):=by
  rw [hb0]
  unfold YB4
  simp only [Bool.and_assoc]
 rw [hsc] at k
 refine ⟨λvs h'=>(∃u1 u2 u3,vs = [u1,u2,u3,.bool (!b0)])∧Sat h' (pt SB (.cells (Wv5 c ca calls.length cc pa Wb6.length pc da draws.length dc).toArray 28)*R),?_,?_⟩
 ·have O:=H1.at
  refine ldR O rfl (ldR O rfl (ldR O rfl (ldR O rfl (ldR O rfl (ldR O rfl (ldR O rfl ?_))))))
  refine Wa0 (Yh2 (c:=c) (λhc h2 o2=>?_) λhc h2 o2=>?_)
  rotate_left
  ·refine sb ?_
   refine Wb7 (λ_=>?_) (λhh=>by simp at hh)
   rw [hc,Bool.false_and] at hb0
   subst hb0
   exact ⟨⟨_,_,_,rfl⟩,H1.old o2⟩
  have H2:=H1.old o2
  rw [hc,Bool.true_and] at hb0
  refine sb ?_
  refine Wb7 (λhh=>by simp at hh) (λ_=>?_)
  have O:=H2.at
  refine ldR O rfl ?_
  refine sb ?_
  refine ldR O rfl ?_
  refine sb ?_
  refine Wb7 (λhh=>?_) (λhh=>?_)
  ·have e:((calls.length:Int) == c.threads)=false:=by simpa using hh
   rw [e,Bool.false_and] at hb0
   subst hb0
   exact ⟨⟨_,_,_,rfl⟩,H2⟩
  have e:((calls.length:Int) == c.threads)=true:=by simpa using hh
  rw [e,Bool.true_and] at hb0
  refine ldR O rfl (ldR O rfl (ldR O rfl (ldR O rfl (ldR O rfl (ldR O rfl (ldR O rfl (ldR O rfl (ldR O rfl (ldR O rfl ?_)))))))))
  refine Wa0 (Yh3 (c:=c) H2 hS1 hn hn2 λh3 H3=>?_)
  refine sb ?_
  have O:=H3.at
  refine Wa3 (λhh=>?_) (λhh=>?_)
  ·rw [decide_eq_false (show ¬ calls.flatten.length≤48 by omega),Bool.false_and] at hb0
   subst hb0
   exact ⟨⟨_,_,_,rfl⟩,H3⟩
  rw [decide_eq_true (show calls.flatten.length≤48 by omega),Bool.true_and] at hb0
  refine ldR O rfl ?_
  refine sb ?_
  refine Wa3 (λhh=>?_) (λhh=>?_)
  ·rw [decide_eq_false (show ¬ Wb6.length≤60000 by omega),Bool.false_and] at hb0
   subst hb0
   exact ⟨⟨_,_,_,rfl⟩,H3⟩
  rw [decide_eq_true (show Wb6.length≤60000 by omega),Bool.true_and] at hb0
  refine ldR O rfl ?_
  refine sb ?_
  have e9:decide ((draws.length:Int) > 4096) = !b0:=by
   rw [hb0,← decide_not,decide_eq_decide]
   omega
  rw [e9]
  exact ⟨⟨_,_,_,rfl⟩,H3⟩
 rintro v38 v39 v40 v41 g42 h43 ⟨⟨u1,u2,u3,e⟩,H2⟩
 cases e
 refine sb ?_
 refine Wb7 (λhh=>?_) (λhh=>?_)
 ·have e:b0=false:=by simpa using hh
  rw [e,Bool.false_and] at k
  exact k h43 H2.drop
 have e:b0=true:=by simpa using hh
 rw [e,Bool.true_and] at k
 have I2:=hS1 h43 emp (by rw [Wk8];exact H2)
 refine ldR H2.at rfl ?_
 refine sb ?_
 refine ⟨λvs h'=>(∃(w u v:Value) (j:Nat),vs = [w,u,.int .i64 j,v]∧j≤calls.length∧(calls.take j).all (λl=>l.all WN1)=true)∧Sat h' (pt SB (.cells (Wv5 c ca calls.length cc pa Wb6.length pc da draws.length dc).toArray 28)*R),λvs _=>match vs with | [_,_,.int _ i,_]=>((calls.length:Int) - i).toNat | _=>0,⟨⟨_,_,_,0,rfl,Nat.zero_le _,rfl⟩,H2⟩,?_⟩
 rintro v51 v52 v53 v54 g55 h56 ⟨⟨w,u,v,j,e,hj,hall⟩,HJ⟩
 cases e
 refine sb ?_
 have IJ:=hS1 h56 emp (by rw [Wk8];exact HJ)
 refine Wa3 (λc1=>?_) (λc1=>?_)
 ·have hj2:j < calls.length:=by omega
  obtain ⟨ra,rc,⟨ad,ea,hc⟩,hrow56⟩:=IJ.f.row j hj2
  have eg:calls.getD j []=calls[j]:=by rw [List.getD_eq_getElem?_getD,List.getElem?_eq_getElem hj2];rfl
  rw [eg] at hc hrow56
  subst ea
  refine ⟨by omega,by omega,?_⟩
  refine sb ?_
  refine Wc5 hc ?_
  refine sb ?_
  have hlen:=hV _ (List.getElem_mem hj2)
  have hmem:calls.all (λl=>l.all WN1)=true→(calls[j]).all WN1=true:=λh=>List.all_eq_true.1 h _ (List.getElem_mem hj2)
  have htk:(calls.take (j+1)).all (λl=>l.all WN1)=(calls[j]).all WN1:=by
   rw [List.take_succ_eq_append_getElem hj2,List.all_append,hall,List.all_cons,List.all_nil,Bool.true_and,Bool.and_true]
  refine ⟨λvs h'=>(∃(w:Value) (i:Nat),vs = [w,.int .i64 i]∧i≤(calls[j]).length∧((calls[j]).take i).all WN1=true)∧Old h56.size h56 h'∧Sat h' (pt SB (.cells (Wv5 c (some ad) calls.length cc pa Wb6.length pc da draws.length dc).toArray 28)*R),λvs _=>match vs with | [_,.int _ i]=>(((calls[j]).length:Int) - i).toNat | _=>0,⟨⟨_,0,rfl,Nat.zero_le _,rfl⟩,Old.refl _ _,HJ⟩,?_⟩
  rintro v66 v67 g68 h69 ⟨⟨w2,i,e,hi,hall2⟩,o69,HI⟩
  cases e
  refine sb ?_
  refine Wa3 (λc2=>?_) (λc2=>?_)
  ·have hi2:i < (calls[j]).length:=by omega
   have hrow:=(hrow56.old o69)
   have g0:=Wh4 Wy8 hi2 (j:=0) (by omega)
   have g1:=Wh4 Wy8 hi2 (j:=1) (by omega)
   have g2:=Wh4 Wy8 hi2 (j:=2) (by omega)
   obtain ⟨ad3,ea3,q0⟩:=hrow (i*3+0) (.int .i64 (calls[j])[i].op) g0
   subst ea3
   obtain ⟨_,ea4,q1⟩:=hrow (i*3+1) (.int .u32 (calls[j])[i].key) g1
   cases ea4
   obtain ⟨_,ea4,q2⟩:=hrow (i*3+2) (.int .u32 (calls[j])[i].val) g2
   cases ea4
   refine ⟨by omega,by omega,?_⟩
   have aa:∀i,(ad3.add (i*3)).add 1=ad3.add (i*3+1):=λi=>WF6 _ _ _
   have ab:∀i,(ad3.add (i*3)).add 2=ad3.add (i*3+2):=λi=>WF6 _ _ _
   rw [Nat.add_zero] at q0
   try simp only [Wb8,bsx,Nat.reduceAdd,Int.reduceLE,Int.reduceLT,Int.reduceToNat,aa,ab]
   refine Wc5 q0 (Wc5 q1 (Wc5 q2 ?_))
   have H5:=HI.push (.cells #[.int .i64 0,.int .u32 0,.int .u32 0] 41)
   have p5:=(Wf6 h69 #[.int .i64 0,.int .u32 0,.int .u32 0] 41).toOld
   generalize h69.push (.cells #[.int .i64 0,.int .u32 0,.int .u32 0] 41)=h70 at *
   obtain ⟨LB,hLB⟩ : ∃LB,h69.size=LB:=⟨_,rfl⟩
   rw [hLB] at H5 p5 ⊢
   refine Wd3 (vs:=clc (calls[j])[i]) H5.at rfl (by simp [clc,Wi5]) λh71 x=>?_
   have H6:=H5.wr x.new x.old
   have o71:=x.toOld p5 (Nat.le_refl _)
   refine ldR H6.at rfl (ldR H6.at rfl (ldR H6.at rfl ?_))
   refine Wa0 (WC5 λh72 o72=>?_)
   have H7:=(H6.old o72).drop
   have o72':Old h56.size h56 h72:=o69.trans ((o71.trans (o72.mono (by rw [← hLB];exact o71.1))).mono (by rw [← hLB];exact o69.1))
   have hmem2:(calls[j]).all WN1=true→WN1 (calls[j])[i]=true:=λh=>List.all_eq_true.1 h _ (List.getElem_mem hi2)
   refine sb ?_
   refine Wb7 (λhh=>?_) (λhh=>?_)
   ·have e:WN1 (calls[j])[i]=false:=by simpa using hh
    have e2:calls.all (λl=>l.all WN1)=false:=by
     rw [← Bool.not_eq_true]
     intro hx
     rw [hmem2 (hmem hx)] at e;cases e
    rw [e2,Bool.false_and] at k
    exact k h72 H7.drop
   ·have e:WN1 (calls[j])[i]=true:=by simpa using hh
    rw [show s64 ((i:Int)+1)=((i+1:Nat):Int) from by rw [← Int.natCast_add_one];exact WE5 _ (by omega)]
    refine ⟨⟨⟨_,i+1,rfl,by omega,?_⟩,o72',H7⟩,?_⟩
    ·rw [List.take_succ_eq_append_getElem hi2,List.all_append,hall2,List.all_cons,List.all_nil,e];rfl
    ·show (((calls[j]).length:Int) - ((i+1:Nat):Int)).toNat < (((calls[j]).length:Int) - (i:Int)).toNat
     omega
  ·rw [List.take_of_length_le (by omega)] at hall2
   rw [show s64 ((j:Int)+1)=((j+1:Nat):Int) from by rw [← Int.natCast_add_one];exact WE5 _ (by omega)]
   refine ⟨⟨⟨_,_,_,j+1,rfl,by omega,by rw [htk];exact hall2⟩,HI⟩,?_⟩
   show ((calls.length:Int) - ((j+1:Nat):Int)).toNat < ((calls.length:Int) - (j:Int)).toNat
   omega
 rw [List.take_of_length_le (by omega)] at hall
 rw [hall,Bool.true_and] at k
 refine ldR HJ.at rfl ?_
 refine sb ?_
 refine ⟨λvs h'=>(∃(w u:Value) (j:Nat),vs = [w,u,.int .i64 j]∧j≤Wb6.length∧(Wb6.take j).all (λk=>decide (0≤k) && decide (k < c.threads))=true)∧h' = h56,λvs _=>match vs with | [_,_,.int _ i]=>((Wb6.length:Int) - i).toNat | _=>0,⟨⟨_,_,0,rfl,Nat.zero_le _,rfl⟩,rfl⟩,?_⟩
 rintro v93 v94 v95 g96 h97 ⟨⟨w,u,j,e,hj,hall⟩,rfl⟩
 cases e
 refine sb ?_
 refine Wa3 (λc1=>?_) (λc1=>?_)
 ·have hj2:j < Wb6.length:=by omega
  obtain ⟨ad,ea,hc⟩:=IJ.f.pk j (.int .i64 Wb6[j]) (by rw [List.getElem?_map,List.getElem?_eq_getElem hj2];rfl)
  subst ea
  refine ⟨by omega,by omega,?_⟩
  refine sb ?_
  refine Wc5 hc ?_
  refine sb ?_
  have hmem:Wb6.all (λk=>decide (0≤k) && decide (k < c.threads))=true→(decide (0≤Wb6[j]) && decide (Wb6[j] < c.threads))=true:=λh=>List.all_eq_true.1 h _ (List.getElem_mem hj2)
  refine ⟨λvs h'=>vs = [.bool (!(decide (0≤Wb6[j]) && decide (Wb6[j] < c.threads)))]∧h' = h97,?_,?_⟩
  ·refine Wa3 (λhh=>?_) (λhh=>?_)
   ·rw [decide_eq_false (show ¬ 0≤Wb6[j] by omega)]
    exact ⟨rfl,rfl⟩
   ·refine ldR HJ.at rfl ?_
    refine sb ?_
    rw [decide_eq_true (show 0≤Wb6[j] by omega),Bool.true_and]
    first | exact ⟨by congr 2;rw [← decide_not,decide_eq_decide];omega,rfl⟩ | (congr 2;rw [← decide_not,decide_eq_decide];omega)
  rintro v106 g107 h108 ⟨e,rfl⟩
  cases e
  refine sb ?_
  refine Wb7 (λhh=>?_) (λhh=>?_)
  ·have e:(decide (0≤Wb6[j]) && decide (Wb6[j] < c.threads))=false:=by rwa [Bool.not_eq_true'] at hh
   have e2:Wb6.all (λk=>decide (0≤k) && decide (k < c.threads))=false:=by
    rw [← Bool.not_eq_true]
    intro hx
    rw [hmem hx] at e;cases e
   rw [e2] at k
   exact k h108 HJ.drop
  ·have e:(decide (0≤Wb6[j]) && decide (Wb6[j] < c.threads))=true:=by rwa [Bool.not_eq_false'] at hh
   rw [show s64 ((j:Int)+1)=((j+1:Nat):Int) from by rw [← Int.natCast_add_one];exact WE5 _ (by omega)]
   have e9:(Wb6.take (j+1)).all (λk=>decide (0≤k) && decide (k < c.threads))=true:=by
    rw [List.take_succ_eq_append_getElem hj2,List.all_append,hall,List.all_cons,List.all_nil,e];rfl
   refine ⟨by first | exact ⟨⟨_,_,j+1,rfl,by omega,e9⟩,rfl⟩ | exact ⟨_,_,j+1,rfl,by omega,e9⟩,?_⟩
   show ((Wb6.length:Int) - ((j+1:Nat):Int)).toNat < ((Wb6.length:Int) - (j:Int)).toNat
   omega
 ·rw [List.take_of_length_le (by omega)] at hall
  rw [hall] at k
  exact k h97 HJ.drop
end
end
section
structure Ev8 where
 th:Int
 bk:Bool
 c:C3
 a:C3
abbrev Ev8.cells (e:Ev8):List Value:=[.int .i64 e.th,.bool e.bk,.int .i64 e.c.o,.int .u32 e.c.k,.int .u32 e.c.v,.int .i64 e.a.o,.int .u32 e.a.k,.int .u32 e.a.v]
end
section
theorem MapF.of {h:Wa1} {m:Nat} {f g:Int→Option Value} (H:MapF h m f) (e:∀t,f t=g t):MapF h m g:=by
 obtain ⟨es,c,kvs,h1,h2,h3⟩:=H
 exact ⟨es,c,kvs,h1,h2,λk=>(h3 k).trans (e k)⟩
theorem W28 {K:Value→Wa1→Prop} {h:Wa1} {t:Int} (k:K (.bool (decide (0≤t) && decide (t≤5))) h):Wa5 Tryz.prog 124 #[iv t] h K:=by
 refine call124 ?_
 unfold F124
 refine Wa3 (λh1=>?_) (λh1=>?_)
 ·rw [decide_eq_true (by omega:0≤t),Bool.true_and] at k
  have:decide (t < 6)=decide (t≤5):=by rw [decide_eq_decide];omega
  rw [this];exact k
 ·rw [decide_eq_false (by omega:¬ 0≤t)] at k
  exact k
end
section
set_option maxRecDepth 100000
abbrev g12 (K:Value→Wa1→Prop) (h H1 H2:Wa1):Prop:=
 (YF6 H2 h.size λa b c d e f g i j k=>cf 29 #[.agg #[a,b,c,d,e,f,g,i,j,k]] H2 λa b=>asBool a λa=>ifB (!a) (dw5 b H1.size (.slice none 0 0) (.int .i64 0) (.int .i64 0) (.bool false) (.int .i64 0) λa=>dl5 a H1.size λc d e f g=>K (.tuple #[.agg #[c,d,e,f,g],.pointer none,.int .i64 1]) a) (da7 b ⟨h.size,0,none⟩ λa c d e f g i=>lS b ⟨h.size,9,none⟩ λj k l=>cf 30 #[.agg #[a,c,d,e,f,g,i],.slice j k l,.bool true] b λa b=>Wg5 a λc=>Wc0 c 0 λc=>Wb1 c λc=>Wg5 a λa=>Wc0 a 1 λa=>asInt .i64 a λa=>ifB (a != 0) (dw5 b H1.size (.slice none 0 0) (.int .i64 0) (.int .i64 0) (.bool false) (.int .i64 0) λd=>dl5 d H1.size λe f g i j=>K (.tuple #[.agg #[e,f,g,i,j],.pointer none,.int .i64 a]) d) (YF6 b h.size λa d e f g i j k l m=>lI .i64 b (Addr.add ⟨h.size,0,none⟩ 1) λn=>Wq7 Tryz.prog 3 n n b λb n=>Wb5 b λb o p=>ce n h.size 0 a (ce n h.size 1 d (ce n h.size 2 e (ce n h.size 3 f (ce n h.size 4 g (ce n h.size 5 i (ce n h.size 6 j (ce n h.size 7 k (ce n h.size 8 l (ce n h.size 9 m (cf 31 #[.pointer c] (Array.push n (.cells #[.slice none 0 0,.int .i64 0,.int .i64 0,.bool false,.int .i64 0,.pointer c,a,d,e,f,g,i,j,k,l,m,.slice b o p,.slice none 0 0,.map none,.int .i64 0] 78)) λa b=>Wb1 a λa=>cf 32 #[.pointer a] b λa b=>Wb1 a λa=>cf 33 #[.pointer a] b λa b=>asInt .i64 a λa=>lS b ⟨h.size,8,none⟩ λd e f=>exI λI82=>exM λm83=>(I82 [.tuple #[],.int .i64 0] b)∧(∀(b f:Value) (g:Env) (g:Wa1),(I82 [b,f] g)→(asInt .i64 f λi=>ifB (decide (i < (e:Int))) (asI f λi=>bd i (e:Int) (Wd2 (.pointer d) λd=>lI .i64 g (Addr.add d (i.toNat*1)) λd=>cf 34 #[.pointer (some ⟨n.size,0,none⟩),.int .i64 d] g λe e=>asInt .i64 f λi=>(I82 [.int .i64 d,.int .i64 (IntKind.wrap .i64 (i+1))] e)∧((m83 [.int .i64 d,.int .i64 (IntKind.wrap .i64 (i+1))] e) < (m83 [b,f] g)))) (Wb8 (.pointer (some ⟨n.size,0,none⟩)) (cf 35 #[.pointer (some ⟨n.size,17,none⟩)] g λb d=>Wb5 b λb e f=>Wb8 (.pointer (some ⟨n.size,0,none⟩)) (stH d ⟨n.size,0,none⟩ (.slice b e f) λb=>cf 31 #[.pointer c] b λb d=>Wb1 b λb=>cf 32 #[.pointer b] d λb d=>Wb1 b λb=>cf 33 #[.pointer b] d λb d=>asInt .i64 b λb=>Wb8 (.pointer (some ⟨n.size,0,none⟩)) (stH d (Addr.add ⟨n.size,0,none⟩ 1) (.int .i64 (IntKind.wrap .i64 (b - a))) λa=>cf 31 #[.pointer c] a λa b=>Wb1 a λa=>cf 36 #[.pointer a] b λa b=>asBool a λa=>Wb8 (.pointer (some ⟨n.size,0,none⟩)) (stH b (Addr.add ⟨n.size,0,none⟩ 3) (.bool a) λa=>Wb8 (.pointer (some ⟨n.size,0,none⟩)) (da5 a ⟨n.size,0,none⟩ λb d e f g=>dw5 a H1.size b d e f g λa=>dl5 a H1.size λb d e f g=>K (.tuple #[.agg #[b,d,e,f,g],.pointer c,.int .i64 0]) a)))))))))))))))))))))
def F12 (K:Value→Wa1→Prop) (h:Wa1) (xa xb xc xd xe xf xg:Int) (xh:Option Addr) (xi xj:Nat) (xk:Option Addr) (xl xm:Nat) (xn:Option Addr) (xo xp:Nat):Prop:=
 (g12 K h (Array.push h (.cells #[.int .i64 xa,.int .i64 xb,.int .i64 xc,.int .i64 xd,.int .i64 xe,.int .i64 xf,.int .i64 xg,.slice xh xi xj,.slice xk xl xm,.slice xn xo xp] 28)) (Array.push (Array.push h (.cells #[.int .i64 xa,.int .i64 xb,.int .i64 xc,.int .i64 xd,.int .i64 xe,.int .i64 xf,.int .i64 xg,.slice xh xi xj,.slice xk xl xm,.slice xn xo xp] 28)) (.cells #[.slice none 0 0,.int .i64 0,.int .i64 0,.bool false,.int .i64 0] 34)))
theorem call12 {K:Value→Wa1→Prop} {h:Wa1} {xa xb xc xd xe xf xg:Int} {xh:Option Addr} {xi xj:Nat} {xk:Option Addr} {xl xm:Nat} {xn:Option Addr} {xo xp:Nat} (H:F12 K h xa xb xc xd xe xf xg xh xi xj xk xl xm xn xo xp):Wa5 Tryz.prog 12 #[(.agg #[(.int .i64 xa),(.int .i64 xb),(.int .i64 xc),(.int .i64 xd),(.int .i64 xe),(.int .i64 xf),(.int .i64 xg),(.slice xh xi xj),(.slice xk xl xm),(.slice xn xo xp)])] h K:=
 Wa4 Tryz.func12 (by kernel_rfl) (Eq.mp (by kernel_rfl) H)
def F34 (K:Value→Wa1→Prop) (h:Wa1) (xa:Option Addr) (xb:Int):Prop:=
 (exI λI0=>(nP xa λa=>lP h (Addr.add a 5) λa=>cf 66 #[.pointer a,.int .i64 xb] h λa b=>asBool a λa=>ifB (!a) (cf 67 #[.pointer xa,.int .i64 xb] b λa c=>asBool a λa=>I0 [.bool (!a)] c) (I0 [.bool false] b))∧(∀(a:Value) (b:Env) (b:Wa1),(I0 [a] b)→(asBool a λa=>ifB a (nP xa λa=>lI .i64 b (Addr.add a 2) λa=>nP xa λc=>stH b (Addr.add c 2) (.int .i64 (IntKind.wrap .i64 (a+1))) λa=>K (.tuple #[]) a) (nP xa λa=>lP b (Addr.add a 5) λa=>cf 68 #[.pointer a,.int .i64 xb] b λa b=>Wg5 a λc=>Wc0 c 0 λc=>asAgg c λc=>We0 c 3 (de3 c λc d e=>Wg5 a λa=>Wc0 a 1 λa=>asBool a λa=>stH (Array.push b (.cells #[.int .i64 0,.int .u32 0,.int .u32 0] 43)) ⟨b.size,0,none⟩ c λc=>stH c ⟨b.size,1,none⟩ d λc=>stH c ⟨b.size,2,none⟩ e λc=>ifB a (nP xa λa=>dl3 c b.size λb d e=>cf 69 #[.pointer (some (Addr.add a 17)),.int .i64 xb,.agg #[b,d,e]] c λa b=>asInt .i64 a λa=>nP xa λa=>stH b (Addr.add a 19) (.int .i64 0) λa=>K (.tuple #[]) a) (nP xa λa=>lI .i64 c (Addr.add a 19) λa=>nP xa λb=>stH c (Addr.add b 19) (.int .i64 (IntKind.wrap .i64 (a+1))) λa=>nP xa λb=>lI .i64 a (Addr.add b 4) λb=>nP xa λc=>lI .i64 a (Addr.add c 19) λc=>Wk2 (λd e=>WO7 d e) Tryz.prog 3 [.int .i64 b,.int .i64 c] λb=>nP xa λc=>stH a (Addr.add c 4) (.int .i64 b) λa=>K (.tuple #[]) a))))))
theorem call34 {K:Value→Wa1→Prop} {h:Wa1} {xa:Option Addr} {xb:Int} (H:F34 K h xa xb):Wa5 Tryz.prog 34 #[(.pointer xa),(.int .i64 xb)] h K:=
 Wa4 Tryz.func34 (by kernel_rfl) (Eq.mp (by kernel_rfl) H)
abbrev g67 (K:Value→Wa1→Prop) (h H1:Wa1) (xa:Option Addr) (xb:Int):Prop:=
 (nP xa λa=>lS h (Addr.add a 16) λa b c=>bd xb (b:Int) (Wd2 (.pointer a) λa=>lI .i64 h (Addr.add a (xb.toNat*1)) λa=>nP xa λb=>lS h (Addr.add b 13) λb c d=>bd xb (c:Int) (Wd2 (.pointer b) λb=>lS h (Addr.add b (xb.toNat*1)) λb b c=>ifB (decide (a ≥ (b:Int))) (K (.bool false) h) (nP xa λa=>ldH h (Addr.add a 13) λb=>Wb5 b λc d e=>bd xb (d:Int) (Wd2 (.pointer c) λc=>ldH h (Addr.add c (xb.toNat*1)) λd=>Wb5 d λe f g=>nP xa λg=>ldH h (Addr.add g 16) λi=>Wb5 i λj k l=>bd xb (k:Int) (Wd2 (.pointer j) λj=>ldH h (Addr.add j (xb.toNat*1)) λk=>asInt .i64 k λl=>bd l (f:Int) (Wd2 (.pointer e) λe=>ldH h (Addr.add e (l.toNat*3)) λf=>ldH h (Addr.add (Addr.add e (l.toNat*3)) 1) λm=>ldH h (Addr.add (Addr.add e (l.toNat*3)) 2) λn=>((Wa2 H1 (Addr.add e (l.toNat*3)))=(some f))∧(((Wa2 H1 (Addr.add (Addr.add e (l.toNat*3)) 1))=(some m))∧(((Wa2 H1 (Addr.add (Addr.add e (l.toNat*3)) 2))=(some n))∧(((Wa2 H1 (Addr.add j (xb.toNat*1)))=(some k))∧(((Wa2 H1 (Addr.add g 16))=(some i))∧(((Wa2 H1 (Addr.add c (xb.toNat*1)))=(some d))∧(((Wa2 H1 (Addr.add a 13))=(some b))∧(dw3 H1 h.size f m n λa=>nP xa λb=>lS a (Addr.add b 16) λb c d=>bd xb (c:Int) (Wd2 (.pointer b) λd=>lI .i64 a (Addr.add d (xb.toNat*1)) λd=>bd xb (c:Int) (Wd2 (.pointer b) λb=>stH a (Addr.add b (xb.toNat*1)) (.int .i64 (IntKind.wrap .i64 (d+1))) λa=>nP xa λb=>lP a (Addr.add b 5) λb=>dl3 a h.size λc d e=>cf 77 #[.pointer b,.int .i64 xb,.agg #[c,d,e]] a λa b=>asInt .i64 a λa=>nP xa λa=>dl3 b h.size λc d e=>cf 122 #[.pointer (some (Addr.add a 17)),.int .i64 xb,.agg #[c,d,e]] b λa b=>asInt .i64 a λa=>K (.bool true) b))))))))))))))))
def F67 (K:Value→Wa1→Prop) (h:Wa1) (xa:Option Addr) (xb:Int):Prop:=
 (g67 K h (Array.push h (.cells #[.int .i64 0,.int .u32 0,.int .u32 0] 41)) xa xb)
theorem call67 {K:Value→Wa1→Prop} {h:Wa1} {xa:Option Addr} {xb:Int} (H:F67 K h xa xb):Wa5 Tryz.prog 67 #[(.pointer xa),(.int .i64 xb)] h K:=
 Wa4 Tryz.func67 (by kernel_rfl) (Eq.mp (by kernel_rfl) H)
def F35 (K:Value→Wa1→Prop) (h:Wa1) (xa:Option Addr):Prop:=
 (ifB (Option.isNone xa) (K (.slice none 0 0) h) (nP xa λa=>lS h a λa b c=>cf 70 #[.slice a b c] h λa b=>Wb5 a λa c d=>K (.slice a c d) b))
theorem call35 {K:Value→Wa1→Prop} {h:Wa1} {xa:Option Addr} (H:F35 K h xa):Wa5 Tryz.prog 35 #[(.pointer xa)] h K:=
 Wa4 Tryz.func35 (by kernel_rfl) (Eq.mp (by kernel_rfl) H)
def F70 (K:Value→Wa1→Prop) (h:Wa1) (xa:Option Addr) (xb xc:Nat):Prop:=
 (ifB (Option.isNone xa) (K (.slice none 0 0) h) (Wu4 Tryz.prog #[32,32] 32 #[.slice (some ⟨h.size,0,none⟩) 0 0,.slice xa xb xc] (Array.push h (.cells #[] 45)) λa b=>Wb5 a λa c d=>K (.slice a c d) b))
theorem call70 {K:Value→Wa1→Prop} {h:Wa1} {xa:Option Addr} {xb xc:Nat} (H:F70 K h xa xb xc):Wa5 Tryz.prog 70 #[(.slice xa xb xc)] h K:=
 Wa4 Tryz.func70 (by kernel_rfl) (Eq.mp (by kernel_rfl) H)
end
section
open Mod
structure RnSt where
 m:Mac
 nx:List Int
 ev:List EvM
 cu:Int→Option Cl
 idle:Int
 gap:Int
 most:Int
def c3 (c:Cl):C3:=⟨c.op,c.key,c.val⟩
def RnSt.invoke (s:RnSt) (k:Int) (c:Cl):RnSt:=match s.cu k with
 | none=>{ s with cu:=λt=>if t=k then some c else s.cu t,ev:=s.ev ++ [⟨k,false,c,cl0⟩] }
 | some _=>s
def RnSt.respond (s:RnSt) (k:Int) (a:Cl):RnSt:=match s.cu k with
 | some c=>if W47 (c3 c) (c3 a) then { s with cu:=λt=>if t=k then none else s.cu t,ev:=s.ev ++ [⟨k,true,cl0,a⟩] } else s
 | none=>s
def RnSt.begin (ins:Int) (calls:List (List Cl)) (s:RnSt) (k:Nat):Option RnSt:=
 if (calls.getD k []).length≤(s.nx.getD k 0).toNat then none
 else some (RnSt.invoke { s with m:=s.m.setTh (s.m.th.set k ((Wf0 s.m k).push (ins+((calls.getD k []).getD (s.nx.getD k 0).toNat cl0).op) [((calls.getD k []).getD (s.nx.getD k 0).toNat cl0).key,((calls.getD k []).getD (s.nx.getD k 0).toNat cl0).val])),nx:=s.nx.set k (s.nx.getD k 0+1) } k ((calls.getD k []).getD (s.nx.getD k 0).toNat cl0))
noncomputable def RnSt.go (d:Run→Run) (s:RnSt) (k:Nat):RnSt:=
 if (WF0 d ⟨s.m.quiet,Wf0 s.m k,k⟩).t.fr = [] then { RnSt.respond { s with m:=(WF0 d ⟨s.m.quiet,Wf0 s.m k,k⟩).m.setTh (s.m.th.set k (WF0 d ⟨s.m.quiet,Wf0 s.m k,k⟩).t) } k (WH2 (WF0 d ⟨s.m.quiet,Wf0 s.m k,k⟩).t) with gap:=0 }
 else { s with m:=(WF0 d ⟨s.m.quiet,Wf0 s.m k,k⟩).m.setTh (s.m.th.set k (WF0 d ⟨s.m.quiet,Wf0 s.m k,k⟩).t),gap:=s.gap+1,most:=max s.most (s.gap+1) }
noncomputable def RnSt.pick (d:Run→Run) (ins:Int) (calls:List (List Cl)) (s:RnSt) (k:Int):RnSt:=
 if (Wf0 s.m k.toNat).fr = [] then match s.begin ins calls k.toNat with
  | none=>{ s with idle:=s.idle+1 }
  | some s1=>s1.go d k.toNat
 else s.go d k.toNat
def rs0 (m:Mac) (n:Nat):RnSt:=⟨m,List.replicate n 0,[],λ_=>none,0,0,0⟩
noncomputable def Yh5 (d:Run→Run) (ins:Int) (calls:List (List Cl)) (m:Mac) (Wb6:List Int):RnSt:=Wb6.foldl (λs k=>s.pick d ins calls k) (rs0 m calls.length)
def clV (c:Cl):Value:=.agg (clc c).toArray
def mpS (mo:Option Nat) (f:Int→Option Cl):Hp:=lift (λb=>mo=some b) λh=>match mo with
 | none=>∀t,f t=none
 | some m=>MapF h m λt=>(f t).map clV
structure RX where
 RB:Nat
 NB:Nat
 Q:Nat
 M:Nat
 f:Nat
 ins:Int
 Ts:List Nat
 c:Mod.Cf
 ca:Option Addr
 cl:Nat
 cc:Nat
 pa:Option Addr
 pl:Nat
 pc:Nat
 da:Option Addr
 dl:Nat
 dc:Nat
 n:Nat
abbrev rnC (X:RX) (idle most gap:Int) (ea:Option Addr) (en ec:Nat) (mo:Option Nat):List Value:=[.slice none 0 0,.int .i64 0,.int .i64 idle,.bool false,.int .i64 most,mP X.Q,.int .i64 X.c.algo,.int .i64 X.c.threads,.int .i64 X.c.nodes,.int .i64 X.c.level,.int .i64 X.c.batch,.int .i64 X.c.probes,.int .i64 X.c.scan,.slice X.ca X.cl X.cc,.slice X.pa X.pl X.pc,.slice X.da X.dl X.dc,.slice (some ⟨X.NB,0,none⟩) X.n X.n,.slice ea en ec,.map mo,.int .i64 gap]
def rnS (X:RX) (s:RnSt):Hp:=ex λea=>ex λec=>ex λmo=>pr (s.nx.length=X.n)
 (pt X.RB (.cells (rnC X s.idle s.most s.gap ea s.ev.length ec mo).toArray 78)*(We4 45 8 ea s.ev.length ec (s.ev.flatMap evc)*(mpS mo s.cu*(pt X.NB (.cells (s.nx.map iv).toArray 3)*suS X.Q X.M X.f X.ins X.Ts s.m))))
theorem Wi1 {h:Wa1} {X:RX} {s:RnSt} {R:Hp}:Sat h (rnS X s*R)↔∃ea ec mo,s.nx.length=X.n ∧
  Sat h (pt X.RB (.cells (rnC X s.idle s.most s.gap ea s.ev.length ec mo).toArray 78)*(We4 45 8 ea s.ev.length ec (s.ev.flatMap evc)*(mpS mo s.cu*(pt X.NB (.cells (s.nx.map iv).toArray 3)*(suS X.Q X.M X.f X.ins X.Ts s.m*R))))):=by
 unfold rnS
 simp only [Sat.ex,Sat.pr,Wc9]
section
variable {K:Value→Wa1→Prop} {h:Wa1} {X:RX} {s:RnSt} {R:Hp}
theorem Y38 {mo:Option Nat} {f:Int→Option Cl} (H:Sat h (mpS mo f*R)):(mo=none∧∀t,f t=none)∨∃m,mo=some m∧MapF h m λt=>(f t).map clV:=by
 have H1:=H.see
 cases mo with
 | none=>exact .inl ⟨rfl,H1⟩
 | some m=>exact .inr ⟨m,rfl,H1⟩
theorem Zq9 {h:Wa1} {m:Nat} {f:Int→Option Value} (H:MapF h m f):∀b o,some m=some b→h[b]? = some o→Nd o:=by
 intro b o e hb x hx
 cases e
 obtain ⟨es,c,kvs,q,_⟩:=H
 rw [q] at hb
 cases hb
 cases hx
theorem Zr0 {m:Nat} {f g:Int→Option Cl} {h':Wa1} (H:Sat h (mpS (some m) f*R)) (hm:MapF h' m λt=>(g t).map clV) (hs:h.size≤h'.size) (old:∀b,b≠m→h'[b]? = h[b]?):Sat h' (mpS (some m) g*R):=by
 obtain ⟨_,hlt,re⟩:=H.opn
 refine re h' _ _ ⟨hs,λb _ hb=>old b λe=>hb (by rw [e])⟩ (λb hb=>?_) (Zq9 hm) λh'' e=>?_
 ·refine ⟨.inl hb,?_⟩
  cases hb
  exact hm.lt
 ·exact hm.keep (e m rfl)
theorem Zw2 {f:Int→Option Cl} (H:Sat h (mpS none f*R)):Sat (h.push (.map #[] 0)) (mpS (some h.size) f*R):=by
 have hf:∀t,f t=none:=H.see
 have H1:=H.drop
 have hN:=MapF.new h
 refine H1.mk_new ⟨by simp,λb hb=>Wk0 _ _ _ hb⟩ (λb hb=>?_) (Zq9 hN) λh'' e=>?_
 ·cases hb
  exact ⟨Nat.le_refl _,by simp⟩
 ·refine (hN.keep (e _ rfl)).of λt=>?_
  rw [hf t];rfl
theorem Zj2 (o:Option Cl):(o.map clV).getD (clV cl0)=clV (o.getD cl0):=by cases o <;> rfl
theorem Ys6:zer Tryz.prog 41=some (clV cl0):=by kernel_rfl
theorem WW9:und Tryz.prog 74=.map 3 41:=by kernel_rfl
theorem Yh6:und Tryz.prog 3=.int .i64:=by kernel_rfl
theorem WX0 {t:Int} (H:Sat h (rnS X s*R)) (k:∀h',Sat h' (rnS X s*R)→Old h.size h h'→K (.bool (s.cu t).isSome) h'):Wa5 Tryz.prog 125 #[.pointer (some ⟨X.RB,17,none⟩),.int .i64 t] h K:=by
 refine call125 ?_
 unfold F125 nP de3
 obtain ⟨ea,ec,mo,hl,H1⟩:=Wi1.1 H
 refine Wb7 (λhh=>by cases hh) (λ_=>?_)
 refine sb ?_
 refine ldR H1.at rfl ?_
 simp only [Wz9]
 have HM:=H1.drop.drop
 have look:∀ {K:Value→Wa1→Prop},K (.tuple #[clV ((s.cu t).getD cl0),.bool (s.cu t).isSome]) h→W90 Tryz.prog 74 (.map mo) (.int .i64 t) true h K:=by
  intro K kk
  rcases Y38 HM with ⟨rfl,hf⟩ | ⟨m,rfl,hf⟩
  ·rw [hf] at kk
   exact Zd9 WW9 Yh6 Ys6 kk
  ·refine YT6 WW9 Yh6 Ys6 hf ?_
   simp only [if_true]
   rw [Zj2,Option.isSome_map]
   exact kk
 refine look ?_
 simp only [Wg5]
 refine Wc1 rfl ?_
 unfold clV
 simp only [Ww3]
 refine Wm0 rfl (Wc1 rfl (Wc1 rfl (Wc1 rfl ?_)))
 refine Wc1 rfl ?_
 simp only [Wa9]
 have H2:=H.push (.cells #[.int .i64 0,.int .u32 0,.int .u32 0] 41)
 have p2:=(Wf6 h #[.int .i64 0,.int .u32 0,.int .u32 0] 41).toOld
 obtain ⟨LB,hLB⟩ : ∃LB,h.size=LB:=⟨_,rfl⟩
 rw [hLB] at H2 p2 ⊢
 generalize h.push (.cells #[.int .i64 0,.int .u32 0,.int .u32 0] 41)=h2 at *
 refine Wd3 (vs:=clc ((s.cu t).getD cl0)) H2.at rfl (by simp [clc,Wi5]) λh3 w=>?_
 exact k h3 (H2.wr w.new w.old).drop (by rw [hLB];exact w.toOld p2 (Nat.le_refl _))
theorem ZK3 (e:EvM):(evc e).toArray=#[.int .i64 e.k,.bool e.back,.int .i64 e.c.op,.int .u32 e.c.key,.int .u32 e.c.val,.int .i64 e.a.op,.int .u32 e.a.key,.int .u32 e.a.val]:=rfl
theorem ZM5 {e:EvM} {ea:Option Addr} {ec:Nat} {mo:Option Nat} {idle most gap:Int} {ev:List EvM} {G:Hp} (H:Sat h (pt X.RB (.cells (rnC X idle most gap ea ev.length ec mo).toArray 78)*(We4 45 8 ea ev.length ec (ev.flatMap evc)*G))) (hb:ev.length≤1000000) {F:Wa1→Prop}
  (k:∀h' ea' ec',Sat h' (pt X.RB (.cells (rnC X idle most gap ea' (ev ++ [e]).length ec' mo).toArray 78)*(We4 45 8 ea' (ev ++ [e]).length ec' ((ev ++ [e]).flatMap evc)*G))→F h') :
  Wu4 Tryz.prog #[32,32] 32 #[.slice ea ev.length ec,.slice (some ⟨h.size,0,none⟩) 1 1] (h.push (.cells #[.int .i64 e.k,.bool e.back,.int .i64 e.c.op,.int .u32 e.c.key,.int .u32 e.c.val,.int .i64 e.a.op,.int .u32 e.a.key,.int .u32 e.a.val] 45))
   λv h'=>Wb5 v λo k1 k2=>stH h' ⟨X.RB,17,none⟩ (.slice o k1 k2) F:=by
 have H2:=H.push (.cells (evc e).toArray 45)
 have hs:Sees (h.push (.cells (evc e).toArray 45)) (some ⟨h.size,0,none⟩) (evc e):=λj v hj=>⟨_,rfl,by rw [Wc6,Nat.zero_add,Wb9 H2.at];simpa using hj⟩
 rw [← ZK3]
 generalize h.push (.cells (evc e).toArray 45)=h2 at *
 generalize h.size=N at *
 have H3:=H2.drop
 rw [Wb4,← WC2] at H3
 refine H3.app YY9 Ye8 YZ0 (by rw [WC2];rfl) hs (n:=1) (by rw [WC2];rfl) (λy hy=>?_) (by rw [W69];omega) (by rw [W69];omega) λa' c' h3 H4=>?_
 ·simp only [evc,List.mem_cons,List.not_mem_nil,or_false] at hy
  rcases hy with rfl | rfl | rfl | rfl | rfl | rfl | rfl | rfl <;> trivial
 rw [WC2,Wb4] at H4
 refine sb ?_
 refine H4.st (i:=17) rfl trivial λh4 H5=>k h4 a' c' ?_
 have e1:(ev ++ [e]).length=ev.length+1:=by simp
 have e2:(ev ++ [e]).flatMap evc=ev.flatMap evc ++ evc e:=by simp
 rw [e1,e2]
 exact H5
theorem W77 {t:Int} {c:Cl} (H:Sat h (rnS X s*R)) (ht:0≤t∧t≤5) (hc:WN1 c=true) (hb:s.ev.length≤1000000) (k:∀r h',Sat h' (rnS X (s.invoke t c)*R)→K (.int .i64 r) h') :
  Wa5 Tryz.prog 122 #[.pointer (some ⟨X.RB,17,none⟩),.int .i64 t,.agg #[.int .i64 c.op,.int .u32 c.key,.int .u32 c.val]] h K:=by
 refine call122 ?_
 unfold F122 g122 cf nP dl3
 have H1:=H.push (.cells (clc c).toArray 41)
 rw [show h.push (.cells #[.int .i64 c.op,.int .u32 c.key,.int .u32 c.val] 41)=h.push (.cells (clc c).toArray 41) from rfl]
 generalize h.push (.cells (clc c).toArray 41)=h1 at *
 generalize h.size=CB at *
 rw [Wb4] at H1
 refine Wb7 (λhh=>by cases hh) (λ_=>?_)
 refine Wa0 (W28 ?_)
 rw [decide_eq_true ht.1,decide_eq_true ht.2]
 refine sb ?_
 have O:=H1.at2
 refine ldR O rfl (ldR O rfl (ldR O rfl ?_))
 refine Wa0 (WC5 λh2 o2=>?_)
 have H2:=H1.old o2
 rw [hc]
 refine sb ?_
 refine Wa0 (WX0 H2 λh3 H3 o3=>?_)
 refine sb ?_
 refine Wb7 (λhh=>?_) (λhh=>?_)
 ·have e:s.invoke t c=s:=by
   unfold RnSt.invoke
   cases e:s.cu t with
   | none=>rw [e] at hh;cases hh
   | some x=>rfl
  rw [e] at k
  exact k 5 h3 H3.drop2
 have hno:s.cu t=none:=by
  cases e:s.cu t with
  | none=>rfl
  | some x=>rw [e] at hh;cases hh
 obtain ⟨ea,ec,mo,hl,H4⟩:=Wi1.1 H3
 refine ⟨λ_ h'=>∃m,Sat h' (pt X.RB (.cells (rnC X s.idle s.most s.gap ea s.ev.length ec (some m)).toArray 78)*(We4 45 8 ea s.ev.length ec (s.ev.flatMap evc)*(mpS (some m) s.cu*(pt X.NB (.cells (s.nx.map iv).toArray 3)*(suS X.Q X.M X.f X.ins X.Ts s.m*(pt CB (.cells (clc c).toArray 41)*R)))))),?_,?_⟩
 ·refine sb ?_
  refine ldR H4.at rfl ?_
  simp only [Wz9]
  cases mo with
  | some m=>exact Wb7 (λhh=>by cases hh) (λ_=>⟨m,H4⟩)
  | none=>
   refine Wb7 (λ_=>?_) (λhh=>by cases hh)
   have H5:Sat h3 (mpS none s.cu*(pt X.RB (.cells (rnC X s.idle s.most s.gap ea s.ev.length ec none).toArray 78)*(We4 45 8 ea s.ev.length ec (s.ev.flatMap evc)*(pt X.NB (.cells (s.nx.map iv).toArray 3)*(suS X.Q X.M X.f X.ins X.Ts s.m*(pt CB (.cells (clc c).toArray 41)*R)))))):=Sat.ac H4 (by ac_rfl)
   have H6:=Zw2 H5
   generalize h3.push (.map #[] 0)=h4 at *
   generalize h3.size=m at *
   have H7:Sat h4 (pt X.RB (.cells (rnC X s.idle s.most s.gap ea s.ev.length ec none).toArray 78)*(We4 45 8 ea s.ev.length ec (s.ev.flatMap evc)*(mpS (some m) s.cu*(pt X.NB (.cells (s.nx.map iv).toArray 3)*(suS X.Q X.M X.f X.ins X.Ts s.m*(pt CB (.cells (clc c).toArray 41)*R)))))):=Sat.ac H6 (by ac_rfl)
   exact H7.st (i:=18) rfl trivial λh5 H8=>⟨m,H8⟩
 rintro g18 h19 ⟨m,H5⟩
 try simp only [Wb8,bsx,Nat.reduceAdd,Int.reduceLE,Int.reduceLT,Int.reduceToNat]
 refine ldR H5.at rfl ?_
 simp only [Wz9]
 have OC:=(H5.drop.drop.drop.drop.drop).at
 refine ldR OC rfl (ldR OC rfl (ldR OC rfl ?_))
 have H6:Sat h19 (mpS (some m) s.cu*(pt X.RB (.cells (rnC X s.idle s.most s.gap ea s.ev.length ec (some m)).toArray 78)*(We4 45 8 ea s.ev.length ec (s.ev.flatMap evc)*(pt X.NB (.cells (s.nx.map iv).toArray 3)*(suS X.Q X.M X.f X.ins X.Ts s.m*(pt CB (.cells (clc c).toArray 41)*R)))))):=Sat.ac H5 (by ac_rfl)
 have hf:MapF h19 m λt=>(s.cu t).map clV:=H6.see
 refine ZB3 WW9 Yh6 hf λh26 mf26 s26 old26=>?_
 have H7:=Zr0 (g:=λt'=>if t' = t then some c else s.cu t') H6 (mf26.of λt'=>by by_cases e:t' = t <;> simp [e,clV,clc]) (by omega) old26
 have H8:Sat h26 (pt X.RB (.cells (rnC X s.idle s.most s.gap ea s.ev.length ec (some m)).toArray 78)*(We4 45 8 ea s.ev.length ec (s.ev.flatMap evc)*(mpS (some m) (λt'=>if t' = t then some c else s.cu t')*(pt X.NB (.cells (s.nx.map iv).toArray 3)*(suS X.Q X.M X.f X.ins X.Ts s.m*(pt CB (.cells (clc c).toArray 41)*R)))))):=Sat.ac H7 (by ac_rfl)
 try simp only [Wb8,bsx,Nat.reduceAdd,Int.reduceLE,Int.reduceLT,Int.reduceToNat]
 refine ldR H8.at rfl ?_
 refine sb ?_
 have OC:=(H8.drop.drop.drop.drop.drop).at
 refine ldR OC rfl (ldR OC rfl (ldR OC rfl ?_))
 refine ⟨Wc4 (Wd4 H8.at rfl),?_⟩
 refine ZM5 (e:=⟨t,false,c,cl0⟩) H8 hb λh36 ea' ec' H9=>?_
 have e:s.invoke t c = { s with cu:=λt'=>if t' = t then some c else s.cu t',ev:=s.ev ++ [⟨t,false,c,cl0⟩] }:=by
  unfold RnSt.invoke
  rw [hno]
 rw [e] at k
 have H10:Sat h36 (rnS X { s with cu:=λt'=>if t' = t then some c else s.cu t',ev:=s.ev ++ [⟨t,false,c,cl0⟩] }*(pt CB (.cells (clc c).toArray 41)*R)):=Wi1.2 ⟨ea',ec',some m,hl,H9⟩
 exact k 0 h36 H10.drop2
theorem WZ7 {t:Int} {a:Cl} (H:Sat h (rnS X s*R)) (ht:0≤t∧t≤5) (hb:s.ev.length≤1000000) (k:∀r h',Sat h' (rnS X (s.respond t a)*R)→K (.int .i64 r) h') :
  Wa5 Tryz.prog 69 #[.pointer (some ⟨X.RB,17,none⟩),.int .i64 t,.agg #[.int .i64 a.op,.int .u32 a.key,.int .u32 a.val]] h K:=by
 refine call69 ?_
 unfold F69 g69 cf ce nP de3 dl3
 have H1:=H.push (.cells (clc a).toArray 43)
 rw [show h.push (.cells #[.int .i64 a.op,.int .u32 a.key,.int .u32 a.val] 43)=h.push (.cells (clc a).toArray 43) from rfl]
 generalize h.push (.cells (clc a).toArray 43)=h1 at *
 generalize h.size=CB at *
 rw [Wb4] at H1
 refine Wb7 (λhh=>by cases hh) (λ_=>?_)
 refine Wa0 (W28 ?_)
 rw [decide_eq_true ht.1,decide_eq_true ht.2]
 refine sb ?_
 refine Wa0 (WX0 H1 λh3 H3 o3=>?_)
 refine sb ?_
 refine Wb7 (λhh=>?_) (λhh=>?_)
 ·have e:s.respond t a=s:=by
   unfold RnSt.respond
   cases e:s.cu t with
   | none=>rfl
   | some x=>rw [e] at hh;cases hh
  rw [e] at k
  exact k 4 h3 H3.drop2
 obtain ⟨c,hcu⟩ : ∃c,s.cu t=some c:=by
  cases e:s.cu t with
  | none=>rw [e] at hh;cases hh
  | some x=>exact ⟨x,rfl⟩
 obtain ⟨ea,ec,mo,hl,H4⟩:=Wi1.1 H3
 rcases Y38 H4.drop.drop with ⟨_,hf⟩ | ⟨m,rfl,hf⟩
 ·rw [hf] at hcu;cases hcu
 try simp only [Wb8,bsx,Nat.reduceAdd,Int.reduceLE,Int.reduceLT,Int.reduceToNat]
 refine ldR H4.at rfl ?_
 simp only [Wz9]
 have OC:=(H4.drop.drop.drop.drop.drop).at
 refine ldR OC rfl (ldR OC rfl (ldR OC rfl ?_))
 refine YT6 WW9 Yh6 Ys6 hf ?_
 simp only [hcu,Option.map_some,Option.getD_some,Bool.false_eq_true,if_false]
 unfold clV
 simp only [Ww3]
 refine Wm0 rfl (Wc1 rfl (Wc1 rfl (Wc1 rfl ?_)))
 refine ⟨Wd4 OC rfl,Wd4 OC rfl,Wd4 OC rfl,?_⟩
 refine Wa0 (YT8 (c:=c3 c) (a:=c3 a) λh5 o5=>?_)
 have H5:=H4.old o5
 refine sb ?_
 refine Wb7 (λhh=>?_) (λhh=>?_)
 ·have e:s.respond t a=s:=by
   unfold RnSt.respond
   rw [hcu]
   show (if W47 (c3 c) (c3 a) then _ else s)=s
   rw [if_neg (by simpa using hh)]
  rw [e] at k
  have H6:Sat h5 (rnS X s*(pt CB (.cells (clc a).toArray 43)*R)):=Wi1.2 ⟨ea,ec,some m,hl,H5⟩
  exact k 1 h5 H6.drop2
 have hfit:W47 (c3 c) (c3 a)=true:=by simpa using hh
 refine ldR H5.at rfl ?_
 simp only [Wz9]
 have H6:Sat h5 (mpS (some m) s.cu*(pt X.RB (.cells (rnC X s.idle s.most s.gap ea s.ev.length ec (some m)).toArray 78)*(We4 45 8 ea s.ev.length ec (s.ev.flatMap evc)*(pt X.NB (.cells (s.nx.map iv).toArray 3)*(suS X.Q X.M X.f X.ins X.Ts s.m*(pt CB (.cells (clc a).toArray 43)*R)))))):=Sat.ac H5 (by ac_rfl)
 have hf5:MapF h5 m λt=>(s.cu t).map clV:=H6.see
 refine ZB4 WW9 Yh6 hf5 λh25 mf25 s25 old25=>?_
 have H7:=Zr0 (g:=λt'=>if t' = t then none else s.cu t') H6 (mf25.of λt'=>by by_cases e:t' = t <;> simp [e]) (by omega) old25
 have H8:Sat h25 (pt X.RB (.cells (rnC X s.idle s.most s.gap ea s.ev.length ec (some m)).toArray 78)*(We4 45 8 ea s.ev.length ec (s.ev.flatMap evc)*(mpS (some m) (λt'=>if t' = t then none else s.cu t')*(pt X.NB (.cells (s.nx.map iv).toArray 3)*(suS X.Q X.M X.f X.ins X.Ts s.m*(pt CB (.cells (clc a).toArray 43)*R)))))):=Sat.ac H7 (by ac_rfl)
 try simp only [Wb8,bsx,Nat.reduceAdd,Int.reduceLE,Int.reduceLT,Int.reduceToNat]
 refine ldR H8.at rfl ?_
 refine sb ?_
 have OC:=(H8.drop.drop.drop.drop.drop).at
 refine ldR OC rfl (ldR OC rfl (ldR OC rfl ?_))
 refine ⟨Wc4 (Wd4 H8.at rfl),?_⟩
 refine ZM5 (e:=⟨t,true,cl0,a⟩) H8 hb λh36 ea' ec' H9=>?_
 have e:s.respond t a = { s with cu:=λt'=>if t' = t then none else s.cu t',ev:=s.ev ++ [⟨t,true,cl0,a⟩] }:=by
  unfold RnSt.respond
  rw [hcu]
  show (if W47 (c3 c) (c3 a) then _ else s)=_
  rw [if_pos hfit]
 rw [e] at k
 have H10:Sat h36 (rnS X { s with cu:=λt'=>if t' = t then none else s.cu t',ev:=s.ev ++ [⟨t,true,cl0,a⟩] }*(pt CB (.cells (clc a).toArray 43)*R)):=Wi1.2 ⟨ea',ec',some m,hl,H9⟩
 exact k 0 h36 H10.drop2
end
end
section
set_option maxHeartbeats 1000000
open Mod
structure RsOk (Inv:Nat→Mac→Prop) (calls:List (List Cl)) (j:Nat) (s:RnSt):Prop where
 inv:Inv j s.m
 th:s.m.th.length=calls.length
 nx:∀k,k < calls.length→0≤s.nx.getD k 0∧s.nx.getD k 0≤(calls.getD k []).length
 ev:s.ev.length≤2*j
 gap:0≤s.gap∧s.gap≤j
 idle:0≤s.idle∧s.idle≤j
 most:0≤s.most∧s.most≤j
structure WH5 (calls:List (List Cl)):Prop where
 n:1≤calls.length∧calls.length≤6
 cl:∀l ∈ calls,l.length≤1000∧∀c ∈ l,WN1 c=true∧V c.key∧V c.val
theorem W78 {c:Cl} (h:WN1 c=true):0≤c.op∧c.op≤2:=by
 unfold WN1 at h
 simp only [Bool.or_eq_true,Bool.and_eq_true,beq_iff_eq] at h
 omega
theorem ZK4 (s:RnSt) (k:Int) (c:Cl):(s.invoke k c).m=s.m∧(s.invoke k c).nx=s.nx∧(s.invoke k c).ev.length≤s.ev.length+1∧(s.invoke k c).gap=s.gap∧(s.invoke k c).idle=s.idle∧(s.invoke k c).most=s.most:=by
 unfold RnSt.invoke
 split
 ·exact ⟨rfl,rfl,by simp,rfl,rfl,rfl⟩
 ·exact ⟨rfl,rfl,by omega,rfl,rfl,rfl⟩
theorem ZK5 (s:RnSt) (k:Int) (a:Cl):(s.respond k a).m=s.m∧(s.respond k a).nx=s.nx∧(s.respond k a).ev.length≤s.ev.length+1∧(s.respond k a).gap=s.gap∧(s.respond k a).idle=s.idle∧(s.respond k a).most=s.most:=by
 unfold RnSt.respond
 split
 ·split
  ·exact ⟨rfl,rfl,by simp,rfl,rfl,rfl⟩
  ·exact ⟨rfl,rfl,by omega,rfl,rfl,rfl⟩
 ·exact ⟨rfl,rfl,by omega,rfl,rfl,rfl⟩
theorem ZF4 (j:Nat) (n:Int) (h:0≤n∧n≤j) (hj:j < 100000):s64 (n+1)=n+1:=by unfold s64;omega
section
variable {K:Value→Wa1→Prop} {h:Wa1} {X:RX} {s:RnSt} {R:Hp} {calls:List (List Cl)} {Wb6:List Int}
theorem Zr1 (H:Sat h (rnS X s*R)) {k:Nat} (hk:k < X.n):Wa2 h ⟨X.NB,k,none⟩=some (.int .i64 (s.nx.getD k 0)):=by
 obtain ⟨ea,ec,mo,hl,H1⟩:=Wi1.1 H
 have hk2:k < s.nx.length:=by omega
 rw [Wb9 (H1.drop.drop.drop).at]
 simp [hk2,iv]
theorem Zj3 (H:Sat h (rnS X s*R)) {k:Nat} (hk:k < X.n) {v:Int} {F:Wa1→Prop} (kk:∀h',Sat h' (rnS X { s with nx:=s.nx.set k v }*R)→F h'):stH h ⟨X.NB,k,none⟩ (.int .i64 v) F:=by
 obtain ⟨ea,ec,mo,hl,H1⟩:=Wi1.1 H
 have hk2:k < s.nx.length:=by omega
 rw [ZB8] at H1
 refine WB9 (row:=s.nx.map iv) (i:=k) H1 (by simpa using hk2) trivial λh' H'=>kk h' ?_
 have e:(s.nx.map iv).set k (.int .i64 v)=(s.nx.set k v).map iv:=by rw [List.map_set];try rfl
 rw [e,← ZB8] at H'
 exact Wi1.2 ⟨ea,ec,mo,by simp [hl],H'⟩
theorem WX1 (H:Sat h (rnS X s*R)):∃ea en ec mo,h[X.RB]? = some (.cells (rnC X s.idle s.most s.gap ea en ec mo).toArray 78):=by
 obtain ⟨ea,ec,mo,hl,H1⟩:=Wi1.1 H
 exact ⟨ea,_,ec,mo,H1.at⟩
theorem YB5 (H:Sat h (rnS X s*R)):∃Q':Hp,Sat h (suS X.Q X.M X.f X.ins X.Ts s.m*(Q' * R))∧∀h' m' P,Sat h' (suS X.Q X.M X.f X.ins X.Ts m' * (Q' * P))→Sat h' (rnS X { s with m:=m' }*P):=by
 obtain ⟨ea,ec,mo,hl,H1⟩:=Wi1.1 H
 refine ⟨pt X.RB (.cells (rnC X s.idle s.most s.gap ea s.ev.length ec mo).toArray 78)*(We4 45 8 ea s.ev.length ec (s.ev.flatMap evc)*(mpS mo s.cu*pt X.NB (.cells (s.nx.map iv).toArray 3))),Sat.ac H1 (by ac_rfl),λh' m' P H'=>?_⟩
 exact Wi1.2 ⟨ea,ec,mo,hl,Sat.ac H' (by ac_rfl)⟩
theorem Yh7 (C:WH5 calls) (hn:X.n=calls.length) (hins:0≤X.ins∧X.ins≤100) (H:Sat h (rnS X s*R)) (hS:∀h' P,Sat h' (P*R)→ZD8 h' X.ca X.cl X.pa X.pl calls Wb6) {k:Nat} (hk:k < calls.length) (hth:s.m.th.length=calls.length) (he:(Wf0 s.m k).fr = []) (hb:s.ev.length≤900000)
  (hnx:0≤s.nx.getD k 0∧s.nx.getD k 0≤(calls.getD k []).length)
  (k0:s.begin X.ins calls k=none→∀h',Sat h' (rnS X s*R)→K (.bool false) h') (k1:∀s1,s.begin X.ins calls k=some s1→∀h',Sat h' (rnS X s1*R)→K (.bool true) h') :
  Wa5 Tryz.prog 67 #[mP X.RB,.int .i64 k] h K:=by
 refine call67 ?_
 unfold F67 g67 cf bd lS lP lI nP dl3 dw3
 obtain ⟨ea,en,ec,mo,O⟩:=WX1 H
 have scr:∀ {h':Wa1} {P:Hp},Sat h' (P*R)→ZD8 h' X.ca X.cl X.pa X.pl calls Wb6:=λH'=>hS _ _ H'
 have F0:=scr H
 have hcs:=F0.cs
 have cN:=Zr1 H (k:=k) (by omega)
 obtain ⟨ra,rc,⟨ad,ea2,hcr⟩,hrow⟩:=F0.row k hk
 refine sb ?_
 refine ldR O rfl ?_
 refine sb ?_
 refine ⟨by omega,by omega,?_⟩
 refine Wc5 cN ?_
 refine sb ?_
 refine ldR O rfl ?_
 rw [ea2]
 refine sb ?_
 refine ⟨by omega,by omega,?_⟩
 refine Wc5 hcr ?_
 refine sb ?_
 refine Wa3 (λc1=>?_) (λc1=>?_)
 ·have e:s.begin X.ins calls k=none:=by
   unfold RnSt.begin
   rw [if_pos (by omega)]
  exact k0 e h H
 refine ldR O rfl ?_
 rw [ea2]
 refine sb ?_
 refine ⟨by omega,by omega,?_⟩
 refine Wc5 hcr ?_
 refine sb ?_
 refine ldR O rfl ?_
 refine sb ?_
 refine ⟨by omega,by omega,?_⟩
 refine Wc5 cN ?_
 refine sb ?_
 refine ⟨by omega,by omega,?_⟩
 generalize hq:(s.nx.getD k 0).toNat=q at *
 have hqlt:q < (calls.getD k []).length:=by omega
 have hmem:calls.getD k [] ∈ calls:=by
  have:calls.getD k []=calls[k]:=by rw [List.getD_eq_getElem?_getD,List.getElem?_eq_getElem hk];rfl
  rw [this];exact List.getElem_mem hk
 have hcq:(calls.getD k []).getD q cl0=(calls.getD k [])[q]:=by rw [List.getD_eq_getElem?_getD,List.getElem?_eq_getElem hqlt];rfl
 have hcB:=(C.cl _ hmem).2 _ (List.getElem_mem hqlt)
 have hlen:=(C.cl _ hmem).1
 have g0:=Wh4 Wy8 hqlt (j:=0) (by omega)
 have g1:=Wh4 Wy8 hqlt (j:=1) (by omega)
 have g2:=Wh4 Wy8 hqlt (j:=2) (by omega)
 rw [← hcq] at g0 g1 g2 hcB
 have hbeg:s.begin X.ins calls k=some (RnSt.invoke { s with m:=s.m.setTh (s.m.th.set k ((Wf0 s.m k).push (X.ins+((calls.getD k []).getD q cl0).op) [((calls.getD k []).getD q cl0).key,((calls.getD k []).getD q cl0).val])),nx:=s.nx.set k (s.nx.getD k 0+1) } k ((calls.getD k []).getD q cl0)):=by
  unfold RnSt.begin
  rw [hq,if_neg (by omega)]
 generalize (calls.getD k []).getD q cl0=cq at *
 obtain ⟨ad3,ea3,q0⟩:=hrow (q*3+0) (.int .i64 cq.op) g0
 subst ea3
 obtain ⟨_,ea4,q1⟩:=hrow (q*3+1) (.int .u32 cq.key) g1
 cases ea4
 obtain ⟨_,ea4,q2⟩:=hrow (q*3+2) (.int .u32 cq.val) g2
 cases ea4
 have aa:∀i,(ad3.add (q*3)).add i=ad3.add (q*3+i):=λi=>WF6 _ _ _
 rw [Nat.add_zero] at q0
 try simp only [Wb8,bsx,Nat.reduceAdd,Int.reduceLE,Int.reduceLT,Int.reduceToNat,aa]
 refine Wc5 q0 (Wc5 q1 (Wc5 q2 ?_))
 repeat (first | refine ⟨Wc4 q0,?_⟩ | refine ⟨Wc4 q1,?_⟩ | refine ⟨Wc4 q2,?_⟩ | refine ⟨Wc4 cN,?_⟩ | refine ⟨Wc4 hcr,?_⟩ | refine ⟨Wc4 (Wd4 O rfl),?_⟩ | (rw [← ea2];refine ⟨Wc4 (Wd4 O rfl),?_⟩))
 have H1:=H.push (.cells #[.int .i64 0,.int .u32 0,.int .u32 0] 41)
 generalize h.push (.cells #[.int .i64 0,.int .u32 0,.int .u32 0] 41)=h1 at *
 generalize h.size=LB at *
 refine Wd3 (vs:=clc cq) H1.at rfl (by simp [clc,Wi5]) λh2 w=>?_
 have H2:=H1.wr w.new w.old
 rw [Wb4] at H2
 clear H1 w
 obtain ⟨ea5,en5,ec5,mo5,O2⟩:=WX1 H2
 have cN2:=Zr1 H2 (k:=k) (by omega)
 refine ldR O2 rfl ?_
 refine sb ?_
 refine ⟨by omega,by omega,?_⟩
 refine Wc5 cN2 ?_
 refine sb ?_
 refine ⟨by omega,by omega,?_⟩
 have hs1:s64 (s.nx.getD k 0+1)=s.nx.getD k 0+1:=by unfold s64;omega
 rw [hs1]
 refine Zj3 H2 (by omega) λh3 H3=>?_
 obtain ⟨ea6,en6,ec6,mo6,O3⟩:=WX1 H3
 refine ldR O3 rfl ?_
 refine sb ?_
 have L3:=H3.at2
 refine ldR L3 rfl (ldR L3 rfl (ldR L3 rfl ?_))
 obtain ⟨Q',H4,re⟩:=YB5 H3
 obtain ⟨hok,hkey,hval⟩:=hcB
 refine Wa0 (Yg7 H4 (i:=k) (c:=cq) hins ⟨hkey,hval⟩ (λhh=>by
  have hh2:(k:Int) < 0∨(s.m.th.length:Int)≤k:=hh
  omega) (λ_ hh=>by rw [hok] at hh;cases hh) (λ_ _ hh=>absurd he (by rw [Int.toNat_natCast] at hh;exact hh)) λ_ _ _ h5 H5=>?_)
 rw [Int.toNat_natCast] at H5
 have H6:=re _ _ _ H5
 refine sb ?_
 have L6:=H6.at2
 refine ldR L6 rfl (ldR L6 rfl (ldR L6 rfl ?_))
 have hC:=C.n
 refine Wa0 (W77 H6 (by omega) hok (by show s.ev.length≤1000000;omega) λr h7 H7=>?_)
 refine sb ?_
 exact k1 _ hbeg h7 H7.drop2
variable {d:Run→Run} {W:Run→Prop} {Inv:Nat→Mac→Prop}
def ZK6 (d:Run→Run) (X:RX) (R:Hp) (calls:List (List Cl)) (Inv:Nat→Mac→Prop) (j k:Nat) (s:RnSt) (vs:List Value) (h':Wa1):Prop:=(vs = [.bool true]∧s.pick d X.ins calls k = { s with idle:=s.idle+1 }∧Sat h' (rnS X s*R))∨(∃s1:RnSt,vs = [.bool false]∧s.pick d X.ins calls k=s1.go d k∧Inv j s1.m∧s1.m.th.length=calls.length∧(∀k,k < calls.length→0≤s1.nx.getD k 0∧s1.nx.getD k 0≤(calls.getD k []).length)∧s1.ev.length≤2*j+1∧s1.gap=s.gap∧s1.idle=s.idle∧s1.most=s.most∧(Wf0 s1.m k).fr≠[]∧Sat h' (rnS X s1*R))
theorem Ys7 (D:DoC X.f d W) (G:Y05 d W X.ins Inv) (C:WH5 calls) (hn:X.n=calls.length) (hins:0≤X.ins∧X.ins≤100) (H:Sat h (rnS X s*R)) (hS:∀h' P,Sat h' (P*R)→ZD8 h' X.ca X.cl X.pa X.pl calls Wb6) {j k:Nat} (hk:k < calls.length) (hj:j < 100000) (O:RsOk Inv calls j s)
  (kk:∀h',RsOk Inv calls (j+1) (s.pick d X.ins calls k)→Sat h' (rnS X (s.pick d X.ins calls k)*R)→K (.tuple #[]) h') :
  Wa5 Tryz.prog 34 #[mP X.RB,.int .i64 k] h K:=by
 refine call34 ?_
 unfold F34 cf lP lI nP de3 dl3
 have hk2:k < s.m.th.length:=by rw [O.th];exact hk
 have hC:=C.n
 refine ⟨ZK6 d X R calls Inv j k s,?_,?_⟩
 ·obtain ⟨ea,en,ec,mo,O1⟩:=WX1 H
  refine sb ?_
  refine ldR O1 rfl ?_
  refine sb ?_
  obtain ⟨Q',H2,re⟩:=YB5 H
  refine Wa0 (WH3 H2 hk2 ?_)
  refine sb ?_
  refine Wb7 (λhb=>?_) (λhb=>?_)
  ·have he:(Wf0 s.m k).fr = []:=List.isEmpty_iff.1 (by simpa using hb)
   refine Wa0 (Yh7 C hn hins H hS hk O.th he (by have:=O.ev;omega) (O.nx k hk) (λe h1 H1=>?_) λs1 e h1 H1=>?_)
   ·refine sb ?_
    refine .inl ⟨rfl,?_,H1⟩
    unfold RnSt.pick
    rw [Int.toNat_natCast,if_pos he,e]
   ·refine sb ?_
    refine .inr ⟨s1,rfl,?_,?_⟩
    ·unfold RnSt.pick
     rw [Int.toNat_natCast,if_pos he,e]
    ·unfold RnSt.begin at e
     split at e
     ·cases e
     rename_i hlt
     have e:=Option.some.inj e
     have hmem:calls.getD k [] ∈ calls:=by
      have:calls.getD k []=calls[k]:=by rw [List.getD_eq_getElem?_getD,List.getElem?_eq_getElem hk];rfl
      rw [this];exact List.getElem_mem hk
     have hqlt:(s.nx.getD k 0).toNat < (calls.getD k []).length:=by omega
     have hcq:(calls.getD k []).getD (s.nx.getD k 0).toNat cl0=(calls.getD k [])[(s.nx.getD k 0).toNat]:=by rw [List.getD_eq_getElem?_getD,List.getElem?_eq_getElem hqlt];rfl
     have hcB:=(C.cl _ hmem).2 _ (List.getElem_mem hqlt)
     rw [← hcq] at hcB
     generalize (calls.getD k []).getD (s.nx.getD k 0).toNat cl0=cq at *
     obtain ⟨i1,i2,i3,i4,i5,i6⟩:=ZK4 { s with m:=s.m.setTh (s.m.th.set k ((Wf0 s.m k).push (X.ins+cq.op) [cq.key,cq.val])),nx:=s.nx.set k (s.nx.getD k 0+1) } k cq
     rw [e] at i1 i2 i3 i4 i5 i6
     have hthr:Wf0 s1.m k=(Wf0 s.m k).push (X.ins+cq.op) [cq.key,cq.val]:=by rw [i1];exact WW6 hk2
     refine ⟨?_,?_,?_,?_,i4,i5,i6,?_,H1⟩
     ·rw [i1]
      exact G.push j s.m k (Wf0 s.m k) cq O.inv (Wn3 hk2) he (W78 hcB.1) hcB.2.1 hcB.2.2
     ·rw [i1]
      show (s.m.th.set k _).length=_
      rw [List.length_set];exact O.th
     ·intro k' hk'
      rw [i2]
      have:=O.nx k' hk'
      show 0≤(s.nx.set k _).getD k' 0∧(s.nx.set k _).getD k' 0≤_
      by_cases ek:k=k'
      ·subst ek
       rw [List.getD_eq_getElem?_getD,List.getElem?_set]
       split
       ·split
        ·simp only [Option.getD_some];omega
        ·simp only [Option.getD_none];omega
       ·rename_i hh;exact absurd rfl hh
      ·rw [List.getD_eq_getElem?_getD,List.getElem?_set_ne ek,← List.getD_eq_getElem?_getD]
       exact this
     ·have:=O.ev
      have i3:s1.ev.length≤s.ev.length+1:=i3
      omega
     ·rw [hthr];unfold Mod.Thr.push;simp
  ·have hne:(Wf0 s.m k).fr≠[]:=λe=>by rw [e] at hb;cases hb
   refine .inr ⟨s,rfl,?_,O.inv,O.th,O.nx,by have:=O.ev;omega,rfl,rfl,rfl,hne,H⟩
   unfold RnSt.pick
   rw [Int.toNat_natCast,if_neg hne]
 rintro v10 g11 h12 (⟨e,ep,H1⟩ | ⟨s1,e,ep,hI1,ht1,hn1,hv1,hg1,hi1,hm1,hne1,H1⟩)
 ·cases e
  refine sb ?_
  obtain ⟨ea,ec,mo,hl,H2⟩:=Wi1.1 H1
  refine ldR H2.at rfl ?_
  refine sb ?_
  rw [ZF4 j s.idle O.idle hj]
  refine H2.st (i:=2) rfl trivial λh18 H3=>?_
  rw [ep] at kk
  refine kk h18 ⟨G.mono _ _ O.inv,O.th,O.nx,by have:=O.ev;show s.ev.length≤_;omega,by have:=O.gap;show 0≤s.gap∧s.gap≤_;omega,by have:=O.idle;show 0≤s.idle+1∧s.idle+1≤_;omega,by have:=O.most;show 0≤s.most∧s.most≤_;omega⟩ (Wi1.2 ⟨ea,ec,mo,hl,H3⟩)
 ·cases e
  refine sb ?_
  obtain ⟨ea,en,ec,mo,O1⟩:=WX1 H1
  refine ldR O1 rfl ?_
  refine sb ?_
  obtain ⟨Q',H2,re⟩:=YB5 H1
  have hk3:k < s1.m.th.length:=by omega
  obtain ⟨nn,z,hz,hs,hid,_,hI2⟩:=G.step j s1.m k _ hI1 hj (Wn3 hk3) hne1
  have hzs:WF0 d ⟨s1.m.quiet,Wf0 s1.m k,k⟩=z:=YA6 hz
  have hgo:s1.go d k=if z.t.fr = [] then { RnSt.respond { s1 with m:=z.m.setTh (s1.m.th.set k z.t) } k (WH2 z.t) with gap:=0 } else { s1 with m:=z.m.setTh (s1.m.th.set k z.t),gap:=s1.gap+1,most:=max s1.most (s1.gap+1) }:=by
   unfold RnSt.go
   rw [hzs]
  have ht2:(z.m.setTh (s1.m.th.set k z.t)).th.length=calls.length:=by
   show (s1.m.th.set k z.t).length=_
   rw [List.length_set];exact ht1
  have og:=O.gap
  have oi:=O.idle
  have om:=O.most
  rw [ep,hgo] at kk
  refine Wa0 (Yr8 D H2 (n:=nn) (z:=z) hk3 hne1 hz hs hid (λhne2 h3 H3=>?_) λhnil h3 H3=>?_)
  ·rw [if_neg hne2] at kk
   have H4:=re _ _ _ H3
   generalize z.m.setTh (s1.m.th.set k z.t)=m2 at *
   have H5:=H4.push (.cells #[.int .i64 0,.int .u32 0,.int .u32 0] 43)
   refine sb ?_
   refine WC0 ?_
   refine sb ?_
   refine Wm0 rfl (Wc1 rfl (Wc1 rfl (Wc1 rfl ?_)))
   try simp only [Wb8,bsx,Nat.reduceAdd,Int.reduceLE,Int.reduceLT,Int.reduceToNat]
   refine WC1 ?_
   refine sb ?_
   generalize h3.push (.cells #[.int .i64 0,.int .u32 0,.int .u32 0] 43)=h4 at *
   generalize h3.size=AB at *
   refine Wd3 (vs:=[.int .i64 0,.int .u32 0,.int .u32 0]) H5.at rfl (by simp [Wi5]) λh5 w=>?_
   have H6:=(H5.wr w.new w.old).drop
   obtain ⟨ea,ec,mo,hl,H7⟩:=Wi1.1 H6
   refine ldR H7.at rfl ?_
   refine sb ?_
   rw [show s64 (s1.gap+1)=s1.gap+1 from ZF4 j _ (by rw [hg1];exact og) hj]
   refine H7.st (i:=19) rfl trivial λh6 H8=>?_
   refine ldR H8.at rfl ?_
   refine sb ?_
   refine ldR H8.at rfl ?_
   refine sb ?_
   rw [Wn0,WK1]
   refine H8.st (i:=4) rfl trivial λh7 H9=>?_
   refine kk h7 ⟨hI2,ht2,hn1,by show s1.ev.length≤_;omega,by show 0≤s1.gap+1∧s1.gap+1≤_;omega,by show 0≤s1.idle∧s1.idle≤_;omega,by show 0≤max s1.most (s1.gap+1)∧max s1.most (s1.gap+1)≤_;omega⟩ (Wi1.2 ⟨ea,ec,mo,hl,H9⟩)
  ·rw [if_pos hnil] at kk
   have H4:=re _ _ _ H3
   generalize z.m.setTh (s1.m.th.set k z.t)=m2 at *
   have H5:=H4.push (.cells #[.int .i64 0,.int .u32 0,.int .u32 0] 43)
   refine sb ?_
   refine WC0 ?_
   refine sb ?_
   refine Wm0 rfl (Wc1 rfl (Wc1 rfl (Wc1 rfl ?_)))
   try simp only [Wb8,bsx,Nat.reduceAdd,Int.reduceLE,Int.reduceLT,Int.reduceToNat]
   refine WC1 ?_
   refine sb ?_
   generalize h3.push (.cells #[.int .i64 0,.int .u32 0,.int .u32 0] 43)=h4 at *
   generalize h3.size=AB at *
   refine Wd3 (vs:=[.int .i64 (WH2 z.t).op,.int .u32 (WH2 z.t).key,.int .u32 (WH2 z.t).val]) H5.at rfl (by simp [Wi5]) λh5 w=>?_
   have H6:=H5.wr w.new w.old
   refine ldR H6.at rfl (ldR H6.at rfl (ldR H6.at rfl ?_))
   refine Wa0 (WZ7 H6.drop (by omega) (by show s1.ev.length≤1000000;omega) λr h7 H7=>?_)
   refine sb ?_
   obtain ⟨r1,r2,r3,r4,r5,r6⟩:=ZK5 { s1 with m:=m2 } k (WH2 z.t)
   generalize RnSt.respond { s1 with m:=m2 } k (WH2 z.t)=s2 at *
   obtain ⟨ea,ec,mo,hl,H8⟩:=Wi1.1 H7
   refine H8.st (i:=19) rfl trivial λh8 H9=>?_
   have r3:s2.ev.length≤s1.ev.length+1:=r3
   have r5:s2.idle=s1.idle:=r5
   have r6:s2.most=s1.most:=r6
   refine kk h8 ⟨by show Inv _ s2.m;rw [r1];exact hI2,by show s2.m.th.length=_;rw [r1];exact ht2,by show ∀k,k < calls.length→0≤s2.nx.getD k 0∧s2.nx.getD k 0≤_;rw [r2];exact hn1,by show s2.ev.length≤_;omega,⟨by show (0:Int)≤0;omega,by show (0:Int)≤_;omega⟩,by show 0≤s2.idle∧s2.idle≤_;omega,by show 0≤s2.most∧s2.most≤_;omega⟩ (Wi1.2 ⟨ea,ec,mo,hl,H9⟩)
end
end
end Go.Proofs.YtahpbclnkofhfaaGreat
