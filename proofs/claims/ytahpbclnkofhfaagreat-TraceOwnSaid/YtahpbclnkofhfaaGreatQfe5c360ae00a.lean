/- Part 11 of what the proofs of this seat rest on: see the last text of the claim. -/
import Derived.Test.YtahpbclnkofhfaaGreatQaa7cfddfd41f
import Derived.Test.YtahpbclnkofhfaaGreatProg
set_option linter.unusedSimpArgs false
set_option linter.unusedVariables false
set_option linter.ambiguousOpen false
set_option maxRecDepth 20000
namespace Go.Proofs.YtahpbclnkofhfaaGreat
section
open Mod
theorem ZQ6 {h:Wa2} {b:Nat} {v0 v1 v2 v3 v4 v5 v6 v7 v8 v9:Value} {K:Wa2->Prop} (H:stN h (aQ b) 0 [v0,v1,v2,v3,v4,v5,v6,v7,v8,v9] K) :
 stH h (aQ b) v0 λh=>stH h ⟨b,1,none⟩ v1 λh=>stH h ⟨b,2,none⟩ v2 λh=>stH h ⟨b,3,none⟩ v3 λh=>stH h ⟨b,4,none⟩ v4 λh=>stH h ⟨b,5,none⟩ v5 λh=>stH h ⟨b,6,none⟩ v6 λh=>stH h ⟨b,7,none⟩ v7 λh=>stH h ⟨b,8,none⟩ v8 λh=>stH h ⟨b,9,none⟩ v9 K:=H
def u8v (n:Int):Value:=.int .u8 n
structure ScrI (h:Wa2) (ca:Option Addr) (cl:Nat) (pa:Option Addr) (pl:Nat) (da:Option Addr) (dl:Nat) (calls:List (List Cl)) (Wc3 draws:List Int):Prop where
 f:ZL0 h ca cl pa pl calls Wc3
 ds:dl=draws.length
 dr:Sees h da (draws.map u8v)
structure ZC2 (calls:List (List Cl)) (Wc3 draws:List Int):Prop where
 cl:∀l ∈ calls,∀c ∈ l,V c.key/\V c.val
 dr:∀n ∈ draws,0<=n/\n < 256
def opL (n:Int):Int:=Int.tmod (s64 (Int.tmod n 3+3)) 3
def clL (c:Cl):Cl:=if opL c.op=0 then ⟨0,c.key,c.val⟩ else ⟨opL c.op,0,0⟩
def WQ3 (n:Nat) (l:List Cl):List Cl:=(l.take n).map clL
def Wg5 (th n:Nat) (calls:List (List Cl)):List (List Cl):=(List.range th).map λi=>WQ3 n (calls.getD i [])
def Yr8 (th:Int) (k:Int):Int:=Int.tmod (s64 (Int.tmod k th+th)) th
def Wl5 (th:Int) (n:Nat) (Wc3:List Int):List Int:=(Wc3.take n).map (Yr8 th)
theorem Y28 (n:Int):0<=opL n/\opL n<=2:=by
 have h1:Int.tmod n 3 < 3:=Int.tmod_lt_of_pos n (by decide)
 have h2 : -3 < Int.tmod n 3:=by
  have:=Int.lt_tmod_of_pos n (b:=3) (by decide)
  omega
 have h3:s64 (Int.tmod n 3+3)=Int.tmod n 3+3:=by unfold s64;omega
 unfold opL
 rw [h3]
 generalize Int.tmod n 3=m at *
 rw [Int.tmod_eq_emod_of_nonneg (by omega)]
 omega
theorem Y29 {th:Int} (ht:1<=th/\th<=6) (n:Int):0<=Yr8 th n/\Yr8 th n < th:=by
 have h1:Int.tmod n th < th:=Int.tmod_lt_of_pos n (by omega)
 have h2 : -th < Int.tmod n th:=by
  have:=Int.lt_tmod_of_pos n (b:=th) (by omega)
  omega
 have h3:s64 (Int.tmod n th+th)=Int.tmod n th+th:=by unfold s64;omega
 unfold Yr8
 rw [h3]
 generalize Int.tmod n th=m at *
 rw [Int.tmod_eq_emod_of_nonneg (by omega)]
 exact ⟨Int.emod_nonneg _ (by omega),Int.emod_lt_of_pos _ (by omega)⟩
theorem ZG7 {c:Cl} (h:V c.key/\V c.val):(0<=(clL c).op/\(clL c).op<=2)/\V (clL c).key/\V (clL c).val:=by
 have:=Y28 c.op
 unfold clL
 split
 ·exact ⟨⟨by show (0:Int)<=0;omega,by show (0:Int)<=2;omega⟩,h⟩
 ·exact ⟨this,⟨by show (0:Int)<=0;omega,by show (0:Int) < _;omega⟩,⟨by show (0:Int)<=0;omega,by show (0:Int) < _;omega⟩⟩
theorem Wx7 (th n:Nat) (calls:List (List Cl)):(Wg5 th n calls).length=th:=by unfold Wg5;simp
theorem Yg6 {th n:Nat} {calls:List (List Cl)} {Wc3 draws:List Int} (R:ZC2 calls Wc3 draws) (hn:n<=1000):∀l ∈ Wg5 th n calls,l.length<=1000/\∀c ∈ l,(0<=c.op/\c.op<=2)/\V c.key/\V c.val:=by
 intro l hl
 unfold Wg5 at hl
 obtain ⟨i,_,rfl⟩:=List.mem_map.1 hl
 unfold WQ3
 refine ⟨by rw [List.length_map,List.length_take];omega,λc hc=>?_⟩
 obtain ⟨c0,hc0,rfl⟩:=List.mem_map.1 hc
 have hm:=List.mem_of_mem_take hc0
 have:calls.getD i [] ∈ calls\/calls.getD i [] = []:=by
  rw [List.getD_eq_getElem?_getD]
  cases e:calls[i]? with
  | none=>right;rfl
  | some l=>left;exact List.mem_of_getElem? e
 rcases this with h | h
 ·exact ZG7 (R.cl _ h _ hm)
 ·rw [h] at hm;cases hm
def W00 (p:(Option Addr × Nat) × List Cl):List Value:=[.slice p.1.1 p.2.length p.1.2]
def Wz8:List (Option Addr × Nat)->List (List Cl)->Hp
 | p :: ps,l :: ls=>Wf1 41 3 p.1 l.length p.2 (l.flatMap clc)*Wz8 ps ls
 | _,_=>emp
theorem W31 (p:Option Addr × Nat) (l:List Cl):∀(ps:List (Option Addr × Nat)) (ls:List (List Cl)),ps.length=ls.length->Wz8 (ps ++ [p]) (ls ++ [l])=Wz8 ps ls*Wf1 41 3 p.1 l.length p.2 (l.flatMap clc)
 | [],[],_=>by
  show _*emp=emp*_
  rw [Ww8]
 | [],_ :: _,h=>by simp at h
 | _ :: _,[],h=>by simp at h
 | a :: ps,b :: ls,h=>by
  show _*Wz8 (ps ++ [p]) (ls ++ [l])=(_*Wz8 ps ls)*_
  rw [W31 p l ps ls (by simpa using h),Wc7]
theorem W32 {h:Wa2}:∀ {ps:List (Option Addr × Nat)} {ls:List (List Cl)} {R:Hp},ps.length=ls.length->Sat h (Wz8 ps ls*R)->∀i,i < ls.length->∃p,ps[i]? = some p/\Sees h p.1 ((ls.getD i []).flatMap clc)
 | [],[],_,_,_,i,hi=>by simp at hi
 | [],_ :: _,_,hl,_,_,_=>by simp at hl
 | _ :: _,[],_,hl,_,_,_=>by simp at hl
 | p :: ps,l :: ls,R,hl,H,i,hi=>by
  have H:Sat h ((Wf1 41 3 p.1 l.length p.2 (l.flatMap clc)*Wz8 ps ls)*R):=H
  rw [Wc7] at H
  cases i with
  | zero=>exact ⟨p,rfl,H.own.sees⟩
  | succ i=>
   have:=W32 (by simpa using hl) H.drop i (by simpa using hi)
   simpa using this
def ZG8 (ca:Option Addr) (cc:Nat) (pa:Option Addr) (pc:Nat) (da:Option Addr) (dc:Nat) (ps:List (Option Addr × Nat)) (calls:List (List Cl)) (Wc3 draws:List Int):Hp:=
 pr (ps.length=calls.length) (Wf1 58 1 ca calls.length cc ((ps.zip calls).flatMap W00)*(Wz8 ps calls*(Wf1 3 1 pa Wc3.length pc (Wc3.map iv)*Wf1 5 1 da draws.length dc (draws.map u8v))))
theorem YC2 {h:Wa2} {ca pa da:Option Addr} {cc pc dc:Nat} {ps:List (Option Addr × Nat)} {calls:List (List Cl)} {Wc3 draws:List Int} {R:Hp}:Sat h (ZG8 ca cc pa pc da dc ps calls Wc3 draws*R)↔ps.length=calls.length /\
  Sat h (Wf1 58 1 ca calls.length cc ((ps.zip calls).flatMap W00)*(Wz8 ps calls*(Wf1 3 1 pa Wc3.length pc (Wc3.map iv)*(Wf1 5 1 da draws.length dc (draws.map u8v)*R)))):=by
 unfold ZG8
 simp only [Sat.pr,Wc7]
theorem ZG9 {h:Wa2} {ca pa da:Option Addr} {cc pc dc:Nat} {ps:List (Option Addr × Nat)} {calls:List (List Cl)} {Wc3 draws:List Int} {R:Hp} (H:Sat h (ZG8 ca cc pa pc da dc ps calls Wc3 draws*R)):ScrI h ca calls.length pa Wc3.length da draws.length calls Wc3 draws:=by
 obtain ⟨hl,H⟩:=YC2.1 H
 refine ⟨⟨rfl,λi hi=>?_,rfl,H.drop.drop.own.sees⟩,rfl,H.drop.drop.drop.own.sees⟩
 obtain ⟨p,hp,hs⟩:=W32 hl H.drop i hi
 refine ⟨p.1,p.2,?_,hs⟩
 refine H.own.sees i _ ?_
 have hz:i < (ps.zip calls).length:=by rw [List.length_zip];omega
 have:=Wh3 (f:=W00) (n:=1) (λ_=>rfl) hz (j:=0) (by decide)
 rw [Nat.mul_one,Nat.add_zero] at this
 rw [this]
 have hi2:i < ps.length:=by omega
 have e1:ps[i]=p:=by
  rw [List.getElem?_eq_getElem hi2] at hp
  exact Option.some.inj hp
 have e2:calls.getD i []=calls[i]:=by rw [List.getD_eq_getElem?_getD,List.getElem?_eq_getElem hi];rfl
 rw [e2]
 simp [W00,e1]
theorem Zy0:und Tryz.prog 24=.slice 58:=by kernel_rfl
theorem Y30:Wf4 Tryz.prog 58=true:=by kernel_rfl
theorem Zy1:zer Tryz.prog 58=some (.slice none 0 0):=by kernel_rfl
theorem W76:siz Tryz.prog 58=1:=by kernel_rfl
theorem Y31:byt Tryz.prog 58=24:=by kernel_rfl
theorem ZH0:und Tryz.prog 58=.slice 41:=by kernel_rfl
theorem Zj8:Wf4 Tryz.prog 41=true:=by kernel_rfl
theorem ZH1:zer Tryz.prog 41=some (.agg #[iQ 0,.int .u32 0,.int .u32 0]):=by kernel_rfl
theorem YC3:siz Tryz.prog 41=3:=by kernel_rfl
theorem Zt5:byt Tryz.prog 41=16:=by kernel_rfl
theorem ZH2:und Tryz.prog 25=.slice 3:=by kernel_rfl
theorem Zj9:Wf4 Tryz.prog 3=true:=by kernel_rfl
theorem ZH3:zer Tryz.prog 3=some (iQ 0):=by kernel_rfl
theorem YC4:siz Tryz.prog 3=1:=by kernel_rfl
theorem Zt6:byt Tryz.prog 3=8:=by kernel_rfl
theorem WQ4 {h:Wa2} {row:List Value} {t:TypeId}:Sees (h.push (.cells row.toArray t)) (some (aQ h.size)) row:=by
 intro i v hi
 refine ⟨_,rfl,?_⟩
 rw [Wc4,Nat.zero_add]
 exact Wd3 (t:=t) (row:=row) (by simp) hi
section
variable {K:kQ} {h:Wa2} {R:Hp}
theorem ZH4 {a:Option Addr} {l c:Nat} {xs:List Cl} {x:Cl} {X:Hp} {F:kQ} (H:Sat h (Wf1 41 3 a l c (xs.flatMap clc)*X)) (hl:l<=60000)
  (k:∀a' c' h',Sat h' (Wf1 41 3 a' (l+1) c' ((xs ++ [x]).flatMap clc)*X)->F (.slice a' (l+1) c') h') :
  Wt2 Tryz.prog #[58,58] 58 #[.slice a l c,.slice (some (aQ h.size)) 1 1] (h.push (.cells #[iQ x.op,.int .u32 x.key,.int .u32 x.val] 41)) F:=by
 have H1:=H.push (.cells (clc x).toArray 41)
 have hs:Sees (h.push (.cells (clc x).toArray 41)) (some (aQ h.size)) (clc x):=WQ4
 have e:(.cells #[iQ x.op,.int .u32 x.key,.int .u32 x.val] 41:Obj)=.cells (clc x).toArray 41:=rfl
 rw [e]
 have H2:Sat (h.push (.cells (clc x).toArray 41)) (Wf1 41 (siz Tryz.prog 41) a l c (xs.flatMap clc)*X):=by
  rw [YC3];exact H1.drop
 refine H2.app ZH0 Zj8 ZH1 (by rw [YC3];rfl) hs (n:=1) (by rw [YC3];rfl) (by simp [clc,Wi4]) (by rw [Zt5];omega) (by rw [Zt5];omega) λa' c' h' H3=>k a' c' h' ?_
 rw [YC3] at H3
 rw [List.flatMap_append,List.flatMap_singleton]
 exact H3
theorem ZH5 {a:Option Addr} {l c:Nat} {xs:List Int} {x:Int} {X:Hp} {F:kQ} (H:Sat h (Wf1 3 1 a l c (xs.map iv)*X)) (hl:l<=60000)
  (k:∀a' c' h',Sat h' (Wf1 3 1 a' (l+1) c' ((xs ++ [x]).map iv)*X)->F (.slice a' (l+1) c') h') :
  Wt2 Tryz.prog #[25,25] 25 #[.slice a l c,.slice (some (aQ h.size)) 1 1] (h.push (.cells #[iQ x] 3)) F:=by
 have H1:=H.push (.cells [iv x].toArray 3)
 have hs:Sees (h.push (.cells [iv x].toArray 3)) (some (aQ h.size)) [iv x]:=WQ4
 have e:(.cells #[iQ x] 3:Obj)=.cells [iv x].toArray 3:=rfl
 rw [e]
 have H2:Sat (h.push (.cells [iv x].toArray 3)) (Wf1 3 (siz Tryz.prog 3) a l c (xs.map iv)*X):=by
  rw [YC4];exact H1.drop
 refine H2.app ZH2 Zj9 ZH3 (by rw [YC4];rfl) hs (n:=1) (by rw [YC4];rfl) (by simp [Wi4]) (by rw [Zt6];omega) (by rw [Zt6];omega) λa' c' h' H3=>k a' c' h' ?_
 rw [YC4] at H3
 rw [List.map_append]
 exact H3
theorem ZH6 {a:Option Addr} {l c:Nat} {xs:List Int} {x:Int} {X:Hp} {F:kQ} (H:Sat h (Wf1 5 1 a l c (xs.map u8v)*X)) (hl:l<=60000)
  (k:∀a' c' h',Sat h' (Wf1 5 1 a' (l+1) c' ((xs ++ [x]).map u8v)*X)->F (.slice a' (l+1) c') h') :
  Wt2 Tryz.prog #[26,26] 26 #[.slice a l c,.slice (some (aQ h.size)) 1 1] (h.push (.cells #[.int .u8 x] 5)) F:=by
 have H1:=H.push (.cells [u8v x].toArray 5)
 have hs:Sees (h.push (.cells [u8v x].toArray 5)) (some (aQ h.size)) [u8v x]:=WQ4
 have e:(.cells #[.int .u8 x] 5:Obj)=.cells [u8v x].toArray 5:=rfl
 rw [e]
 have H2:Sat (h.push (.cells [u8v x].toArray 5)) (Wf1 5 (siz Tryz.prog 5) a l c (xs.map u8v)*X):=by
  rw [W24];exact H1.drop
 refine H2.app Zt0 YB1 Zt1 (by rw [W24];rfl) hs (n:=1) (by rw [W24];rfl) (by simp [u8v,Wi4]) (by rw [YB2];omega) (by rw [YB2];omega) λa' c' h' H3=>k a' c' h' ?_
 rw [W24] at H3
 rw [List.map_append]
 exact H3
theorem Zy2 {a:Option Addr} {l c:Nat} {ps:List (Option Addr × Nat)} {xs:List (List Cl)} {p:Option Addr × Nat} {x:List Cl} {n:Nat} {X:Hp} {F:kQ} (H:Sat h (Wf1 58 1 a l c ((ps.zip xs).flatMap W00)*X)) (hz:ps.length=xs.length) (hn:n=x.length) (hl:l<=60000)
  (k:∀a' c' h',Sat h' (Wf1 58 1 a' (l+1) c' (((ps ++ [p]).zip (xs ++ [x])).flatMap W00)*X)->F (.slice a' (l+1) c') h') :
  Wt2 Tryz.prog #[24,24] 24 #[.slice a l c,.slice (some (aQ h.size)) 1 1] (h.push (.cells #[.slice p.1 n p.2] 58)) F:=by
 subst hn
 have H1:=H.push (.cells (W00 (p,x)).toArray 58)
 have hs:Sees (h.push (.cells (W00 (p,x)).toArray 58)) (some (aQ h.size)) (W00 (p,x)):=WQ4
 have e:(.cells #[.slice p.1 x.length p.2] 58:Obj)=.cells (W00 (p,x)).toArray 58:=rfl
 rw [e]
 have H2:Sat (h.push (.cells (W00 (p,x)).toArray 58)) (Wf1 58 (siz Tryz.prog 58) a l c ((ps.zip xs).flatMap W00)*X):=by
  rw [W76];exact H1.drop
 refine H2.app Zy0 Y30 Zy1 (by rw [W76];rfl) hs (n:=1) (by rw [W76];rfl) (by simp [W00,Wi4]) (by rw [Y31];omega) (by rw [Y31];omega) λa' c' h' H3=>k a' c' h' ?_
 rw [W76] at H3
 rw [List.zip_append hz,List.flatMap_append]
 exact H3
end
end
section
open Go.ChangeShapes Go.WideShapes Go.ChangeAt Go.RowKit
theorem ZQ7 {n:Int} (h:(Lit.int .u32 n).wf=true):V n:=by
 unfold Lit.wf at h
 rw [Bool.and_eq_true,decide_eq_true_eq,decide_eq_true_eq] at h
 have e1:IntKind.min .u32=0:=rfl
 have e2:IntKind.max .u32=4294967295:=rfl
 rw [e1,e2] at h
 exact ⟨h.1,by omega⟩
theorem ZO6 {n:Int} (h:(Lit.int .u8 n).wf=true):0<=n/\n < 256:=by
 unfold Lit.wf at h
 rw [Bool.and_eq_true,decide_eq_true_eq,decide_eq_true_eq] at h
 have e1:IntKind.min .u8=0:=rfl
 have e2:IntKind.max .u8=255:=rfl
 rw [e1,e2] at h
 exact ⟨h.1,by omega⟩
theorem Y32 {α:Type} {P:α->Prop} {f:α->List Value} {h:Wa2} {a:Option Addr} {l c:Nat} {es:List {x:α // P x}} (H:SX (λx:{x:α // P x}=>f x.1) h a l c es):∃xs:List α,(∀x ∈ xs,P x)/\SX f h a l c xs:=by
 refine ⟨es.map (·.1),λx hx=>?_,⟨?_,by rw [List.length_map];exact H.len,H.cap⟩⟩
 ·obtain ⟨y,_,rfl⟩:=List.mem_map.1 hx;exact y.2
 ·have:(es.map (·.1)).flatMap f=es.flatMap λx:{x:α // P x}=>f x.1:=by rw [List.flatMap_map]
  rw [this];exact H.s
theorem Sees.oldR {h h':Wa2} {a:Option Addr} {vs:List Value} (H:Sees h a vs) (o:Old h.size h h'):Sees h' a vs:=λi v hi=>by
 obtain ⟨ad,ea,hc⟩:=H i v hi
 exact ⟨ad,ea,(Wg0 (o.2 _ (Wr5 hc))).trans hc⟩
theorem ScrI.old {h h':Wa2} {ca:Option Addr} {cl:Nat} {pa:Option Addr} {pl:Nat} {da:Option Addr} {dl:Nat} {calls:List (List Cl)} {Wc3 draws:List Int} (S:ScrI h ca cl pa pl da dl calls Wc3 draws) (o:Old h.size h h'):ScrI h' ca cl pa pl da dl calls Wc3 draws:=by
 refine ⟨⟨S.f.cs,λi hi=>?_,S.f.ps,S.f.pk.oldR o⟩,S.ds,S.dr.oldR o⟩
 obtain ⟨a,c,⟨ad,e,hc⟩,hs⟩:=S.f.row i hi
 exact ⟨a,c,⟨ad,e,(Wg0 (o.2 _ (Wr5 hc))).trans hc⟩,hs.oldR o⟩
theorem Y33 {h h0:Wa2} (H:Sat h (YW7 h0)):Old h0.size h0 h:=by
 rw [<- Wl0 (YW7 h0),Ww8] at H
 exact H.fullOld
theorem Y34 {h h0:Wa2} {P:Hp} (H:Sat h (P*YW7 h0)):Old h0.size h0 h:=by
 rw [Ww8] at H
 exact H.fullOld
section
variable {H:Type} {enc:TypeId × Value->H} {W:World} {fuel:Nat} {cs:List Value} {x:DataW H × List MemPlace}
theorem Zk0 (h:DataW.trod enc Tryz.prog W 0 (λ_=>true) true fuel 41 cs=some x):∃e:{e:Cl // V e.key/\V e.val},cs=clc e.1:=by
 have hl:=Yc4 Tryz.underlying41 h
 rw [W53] at hl
 obtain ⟨_,_,e0⟩:=We9 Tryz.underlying41 h 0 _ rfl
 obtain ⟨_,_,e1⟩:=We9 Tryz.underlying41 h 1 _ rfl
 obtain ⟨_,_,e2⟩:=We9 Tryz.underlying41 h 2 _ rfl
 obtain ⟨n0,u0,_,_⟩:=DataW.trod_int Tryz.underlying3 e0
 obtain ⟨n1,u1,_,r1⟩:=DataW.trod_int Tryz.underlying39 e1
 obtain ⟨n2,u2,_,r2⟩:=DataW.trod_int Tryz.underlying39 e2
 have q0:(cs.drop 0).take (Program.cellsOf Tryz.prog 3) = [iQ n0]:=u0
 have q1:(cs.drop 1).take (Program.cellsOf Tryz.prog 39) = [.int .u32 n1]:=u1
 have q2:(cs.drop 2).take (Program.cellsOf Tryz.prog 39) = [.int .u32 n2]:=u2
 rw [Wi6] at q0
 rw [Yc5] at q1 q2
 refine ⟨⟨⟨n0,n1,n2⟩,ZQ7 r1,ZQ7 r2⟩,?_⟩
 rcases cs with _ | ⟨c0,cs⟩;· simp at hl
 rcases cs with _ | ⟨c1,cs⟩;· simp at hl
 rcases cs with _ | ⟨c2,cs⟩;· simp at hl
 rcases cs with _ | ⟨c3,cs⟩
 ·simp at q0 q1 q2
  rw [q0,q1,q2];rfl
 ·simp at hl
theorem Zk1 (h:DataW.trod enc Tryz.prog W 0 (λ_=>true) true fuel 5 cs=some x):∃e:{e:Int // 0<=e/\e < 256},cs = [u8v e.1]:=by
 obtain ⟨n,u,_,r⟩:=DataW.trod_int Tryz.underlying5 h
 exact ⟨⟨n,ZO6 r⟩,u⟩
theorem Wr7 (h:DataW.trod enc Tryz.prog W 0 (λ_=>true) true fuel 3 cs=some x):∃e:Int,cs = [iv e]:=by
 obtain ⟨n,u,_,r⟩:=DataW.trod_int Tryz.underlying3 h
 exact ⟨n,u⟩
theorem WE9 {ts t:TypeId} (hu:Program.underlying Tryz.prog ts=some (.slice t)) (h:DataW.trod enc Tryz.prog W 0 (λ_=>true) true fuel ts cs=some x):∃a l c,cs = [.slice a l c]:=by
 rcases DataW.trod_slice hu h with ⟨hcs,_⟩ | ⟨y,l1,c1,elems,rest,n,_,hcs,_⟩
 ·exact ⟨_,_,_,hcs⟩
 ·exact ⟨_,_,_,hcs⟩
theorem Yr9:Program.cellsOf Tryz.prog 58=1:=by kernel_rfl
theorem Yg7:Program.cellsOf Tryz.prog 24=1:=by kernel_rfl
theorem Yg8:Program.cellsOf Tryz.prog 25=1:=by kernel_rfl
theorem Ys0:Program.cellsOf Tryz.prog 26=1:=by kernel_rfl
theorem WW5:Program.cellsOf Tryz.prog 23=7:=by kernel_rfl
theorem Ys1:Program.cellsOf Tryz.prog 28=10:=by kernel_rfl
structure ZL1 (h:Wa2) (a:Option Addr) (l:Nat) (row:List Cl):Prop where
 len:l=row.length
 s:Sees h a (row.flatMap clc)
 v:∀c ∈ row,V c.key/\V c.val
theorem ZH7 {a:Option Addr} {l c:Nat} {d:DataW H} {ps:List MemPlace} (h:DataW.Trod enc Tryz.prog W 0 (λ_=>true) true 58 (.slice a l c) d ps):∃row,ZL1 W.heap a l row:=by
 obtain ⟨es,S⟩:=YW5 (f:=λe:{e:Cl // V e.key/\V e.val}=>clc e.1) (n:=3) (λ_=>rfl) (by omega) Tryz.underlying58 (by kernel_rfl) (λ_ _ _ h=>Zk0 h) h
 obtain ⟨xs,hx,S⟩:=Y32 S
 exact ⟨xs,S.len.symm,S.s,hx⟩
theorem Zy3 {a:Option Addr} {l c:Nat} {d:DataW H} {ps:List MemPlace} (h:DataW.Trod enc Tryz.prog W 0 (λ_=>true) true 24 (.slice a l c) d ps) :
  ∃calls:List (List Cl),calls.length=l/\∀i (hi:i < calls.length),∃ai ci,(∃ad,a=some ad/\Wa1 W.heap (ad.add i)=some (.slice ai calls[i].length ci))/\ZL1 W.heap ai calls[i].length calls[i]:=by
 obtain ⟨fuel,hf⟩:=h
 rcases DataW.trod_slice Tryz.underlying24 hf with ⟨hcs,_⟩ | ⟨x,l1,c1,elems,rest,n,_,hcs,_,_,hl,hm,hlen,hel,_,_⟩
 ·simp [Value.cells] at hcs
  obtain ⟨rfl,rfl,rfl⟩:=hcs
  exact ⟨[],rfl,λi hi=>by simp at hi⟩
 ·simp [Value.cells] at hcs
  obtain ⟨rfl,rfl,rfl⟩:=hcs
  have each:∀i,i < l->∃ai li ci row,Wa1 W.heap (x.add i)=some (.slice ai li ci)/\ZL1 W.heap ai li row:=by
   intro i hi
   have:=hel i hi
   rw [List.getElem?_eq_getElem (by omega),Option.bind_eq_some_iff] at this
   obtain ⟨cs,h1,h2⟩:=this
   obtain ⟨ai,li,ci,rfl⟩:=WE9 Tryz.underlying58 h2
   obtain ⟨row,hr⟩:=ZH7 ⟨_,h2⟩
   rw [Yr9,Nat.mul_one] at h1
   obtain ⟨_,_,h4⟩:=World.cells?_some h1
   have h5:=h4 0 (by omega)
   exact ⟨ai,li,ci,row,h5,hr⟩
  have pick:∀m,m<=l->∃calls:List (List Cl),calls.length=m/\∀i (hi:i < calls.length),∃ai ci,Wa1 W.heap (x.add i)=some (.slice ai calls[i].length ci)/\ZL1 W.heap ai calls[i].length calls[i]:=by
   intro m
   induction m with
   | zero=>intro _;exact ⟨[],rfl,λi hi=>by simp at hi⟩
   | succ m ih=>
    intro hm
    obtain ⟨calls,h1,h3⟩:=ih (by omega)
    obtain ⟨ai,li,ci,row,e1,e2⟩:=each m (by omega)
    refine ⟨calls ++ [row],by simp [h1],λi hi=>?_⟩
    by_cases e:i < calls.length
    ·obtain ⟨ai',ci',q2,q3⟩:=h3 i e
     refine ⟨ai',ci',?_,?_⟩
     ·rw [List.getElem_append_left e];exact q2
     ·rw [List.getElem_append_left e];exact q3
    ·have:i=m:=by simp at hi;omega
     subst this
     have e3:(calls ++ [row])[i]=row:=by
      rw [List.getElem_append_right (by omega)]
      simp [h1]
     have e4:=e2.len
     subst e4
     refine ⟨ai,ci,?_,?_⟩
     ·rw [e3];exact e1
     ·rw [e3];exact e2
  obtain ⟨calls,h1,h3⟩:=pick l (Nat.le_refl _)
  refine ⟨calls,h1,λi hi=>?_⟩
  obtain ⟨ai,ci,q2,q3⟩:=h3 i hi
  exact ⟨ai,ci,⟨x,rfl,q2⟩,q3⟩
theorem ZH8 {f:Int->Value} (l:List Int):(l.flatMap λn=>[f n])=l.map f:=by
 induction l with
 | nil=>rfl
 | cons a l ih=>simp [ih]
theorem W33 (h:DataW.trod enc Tryz.prog W 0 (λ_=>true) true fuel 23 cs=some x):∃c:Mod.Cf,cs = [iQ c.algo,iQ c.threads,iQ c.nodes,iQ c.level,iQ c.batch,iQ c.probes,iQ c.scan]:=by
 have hl:=Yc4 Tryz.underlying23 h
 rw [WW5] at hl
 obtain ⟨_,_,e0⟩:=We9 Tryz.underlying23 h 0 _ rfl
 obtain ⟨n0,u0⟩:=Wr7 e0
 have q0:(cs.drop 0).take (Program.cellsOf Tryz.prog 3) = [iQ n0]:=u0
 rw [Wi6] at q0
 obtain ⟨_,_,e1⟩:=We9 Tryz.underlying23 h 1 _ rfl
 obtain ⟨n1,u1⟩:=Wr7 e1
 have q1:(cs.drop 1).take (Program.cellsOf Tryz.prog 3) = [iQ n1]:=u1
 rw [Wi6] at q1
 obtain ⟨_,_,e2⟩:=We9 Tryz.underlying23 h 2 _ rfl
 obtain ⟨n2,u2⟩:=Wr7 e2
 have q2:(cs.drop 2).take (Program.cellsOf Tryz.prog 3) = [iQ n2]:=u2
 rw [Wi6] at q2
 obtain ⟨_,_,e3⟩:=We9 Tryz.underlying23 h 3 _ rfl
 obtain ⟨n3,u3⟩:=Wr7 e3
 have q3:(cs.drop 3).take (Program.cellsOf Tryz.prog 3) = [iQ n3]:=u3
 rw [Wi6] at q3
 obtain ⟨_,_,e4⟩:=We9 Tryz.underlying23 h 4 _ rfl
 obtain ⟨n4,u4⟩:=Wr7 e4
 have q4:(cs.drop 4).take (Program.cellsOf Tryz.prog 3) = [iQ n4]:=u4
 rw [Wi6] at q4
 obtain ⟨_,_,e5⟩:=We9 Tryz.underlying23 h 5 _ rfl
 obtain ⟨n5,u5⟩:=Wr7 e5
 have q5:(cs.drop 5).take (Program.cellsOf Tryz.prog 3) = [iQ n5]:=u5
 rw [Wi6] at q5
 obtain ⟨_,_,e6⟩:=We9 Tryz.underlying23 h 6 _ rfl
 obtain ⟨n6,u6⟩:=Wr7 e6
 have q6:(cs.drop 6).take (Program.cellsOf Tryz.prog 3) = [iQ n6]:=u6
 rw [Wi6] at q6
 refine ⟨⟨n0,n1,n2,n3,n4,n5,n6⟩,?_⟩
 rcases cs with _ | ⟨c0,cs⟩;· simp at hl
 rcases cs with _ | ⟨c1,cs⟩;· simp at hl
 rcases cs with _ | ⟨c2,cs⟩;· simp at hl
 rcases cs with _ | ⟨c3,cs⟩;· simp at hl
 rcases cs with _ | ⟨c4,cs⟩;· simp at hl
 rcases cs with _ | ⟨c5,cs⟩;· simp at hl
 rcases cs with _ | ⟨c6,cs⟩;· simp at hl
 rcases cs with _ | ⟨c7,cs⟩
 ·simp at q0 q1 q2 q3 q4 q5 q6
  rw [q0,q1,q2,q3,q4,q5,q6]
 ·simp at hl
end
section
variable {H:Type} {enc:TypeId × Value->H} {W:World} {v:Value} {d:DataW H} {ps:List MemPlace} {r:Reach} {b0:Nat}
theorem YK5 (hval:Value.okWide Tryz.prog W r b0 28 v) (h:DataW.Trod enc Tryz.prog W 0 (λ_=>true) true 28 v d ps) :
  ∃(c:Mod.Cf) (ca:Option Addr) (cl cc:Nat) (pa:Option Addr) (pl pc:Nat) (da:Option Addr) (dl dc:Nat) (calls:List (List Cl)) (Wc3 draws:List Int),
   v=.agg #[iQ c.algo,iQ c.threads,iQ c.nodes,iQ c.level,iQ c.batch,iQ c.probes,iQ c.scan,.slice ca cl cc,.slice pa pl pc,.slice da dl dc]/\ScrI W.heap ca cl pa pl da dl calls Wc3 draws/\ZC2 calls Wc3 draws:=by
 obtain ⟨vs,rfl,hsz⟩:=okWide_struct Tryz.underlying28 hval
 rw [Ys1] at hsz
 obtain ⟨fuel,hf⟩:=h
 obtain ⟨l⟩:=vs
 have hl:l.length=10:=by simpa using hsz
 have hf:DataW.trod enc Tryz.prog W 0 (λ_=>true) true fuel 28 l=some (d,ps):=hf
 obtain ⟨m0,x0,e0⟩:=We9 Tryz.underlying28 hf 0 _ rfl
 obtain ⟨m1,x1,e1⟩:=We9 Tryz.underlying28 hf 1 _ rfl
 obtain ⟨m2,x2,e2⟩:=We9 Tryz.underlying28 hf 2 _ rfl
 obtain ⟨m3,x3,e3⟩:=We9 Tryz.underlying28 hf 3 _ rfl
 obtain ⟨c,q0⟩:=W33 e0
 obtain ⟨ca,cl,cc,q1⟩:=WE9 Tryz.underlying24 e1
 obtain ⟨pa,pl,pc,q2⟩:=WE9 Tryz.underlying25 e2
 obtain ⟨da,dl,dc,q3⟩:=WE9 Tryz.underlying26 e3
 rw [q1] at e1
 rw [q2] at e2
 rw [q3] at e3
 obtain ⟨calls,hcl,hrow⟩:=Zy3 (d:=x1.1) (ps:=x1.2) ⟨m1,e1⟩
 obtain ⟨Wc3,SP⟩:=YW5 (f:=λe:Int=>[iv e]) (n:=1) (λ_=>rfl) (by omega) Tryz.underlying25 (by kernel_rfl) (λ_ _ _ h=>Wr7 h) (d:=x2.1) (ps:=x2.2) ⟨m2,e2⟩
 obtain ⟨des,SD⟩:=YW5 (f:=λe:{e:Int // 0<=e/\e < 256}=>[u8v e.1]) (n:=1) (λ_=>rfl) (by omega) Tryz.underlying26 (by kernel_rfl) (λ_ _ _ h=>Zk1 h) (d:=x3.1) (ps:=x3.2) ⟨m3,e3⟩
 obtain ⟨draws,hdr,SD⟩:=Y32 (f:=λe:Int=>[u8v e]) SD
 refine ⟨c,ca,cl,cc,pa,pl,pc,da,dl,dc,calls,Wc3,draws,?_,⟨⟨hcl.symm,λi hi=>?_,SP.len.symm,?_⟩,SD.len.symm,?_⟩,⟨λl hl c hc=>?_,hdr⟩⟩
 ·have p0:(l.drop 0).take (Program.cellsOf Tryz.prog 23)=_:=q0
  have p1:(l.drop 7).take (Program.cellsOf Tryz.prog 24)=_:=q1
  have p2:(l.drop 8).take (Program.cellsOf Tryz.prog 25)=_:=q2
  have p3:(l.drop 9).take (Program.cellsOf Tryz.prog 26)=_:=q3
  rw [WW5] at p0
  rw [Yg7] at p1
  rw [Yg8] at p2
  rw [Ys0] at p3
  clear q0 q1 q2 q3 e0 e1 e2 e3 hf hval hsz
  rcases l with _ | ⟨y0,l⟩;· simp at hl
  rcases l with _ | ⟨y1,l⟩;· simp at hl
  rcases l with _ | ⟨y2,l⟩;· simp at hl
  rcases l with _ | ⟨y3,l⟩;· simp at hl
  rcases l with _ | ⟨y4,l⟩;· simp at hl
  rcases l with _ | ⟨y5,l⟩;· simp at hl
  rcases l with _ | ⟨y6,l⟩;· simp at hl
  rcases l with _ | ⟨y7,l⟩;· simp at hl
  rcases l with _ | ⟨y8,l⟩;· simp at hl
  rcases l with _ | ⟨y9,l⟩;· simp at hl
  rcases l with _ | ⟨y10,l⟩
  ·simp at p0 p1 p2 p3
   obtain ⟨r0,r1,r2,r3,r4,r5,r6⟩:=p0
   rw [r0,r1,r2,r3,r4,r5,r6,p1,p2,p3]
  ·simp at hl
 ·obtain ⟨ai,ci,q2,q3⟩:=hrow i hi
  have e:calls.getD i []=calls[i]:=by rw [List.getD_eq_getElem?_getD,List.getElem?_eq_getElem hi];rfl
  rw [e]
  exact ⟨ai,ci,q2,q3.s⟩
 ·have:=SP.s
  rw [ZH8] at this
  exact this
 ·have:=SD.s
  rw [ZH8] at this
  exact this
 ·obtain ⟨i,hi,rfl⟩:=List.getElem_of_mem hl
  obtain ⟨ai,ci,q2,q3⟩:=hrow i hi
  exact q3.v c hc
theorem Y35 (hval:Value.okWide Tryz.prog W r b0 23 v) (h:DataW.Trod enc Tryz.prog W 0 (λ_=>true) true 23 v d ps):∃c:Mod.Cf,v=.agg #[iQ c.algo,iQ c.threads,iQ c.nodes,iQ c.level,iQ c.batch,iQ c.probes,iQ c.scan]:=by
 obtain ⟨vs,rfl,hsz⟩:=okWide_struct Tryz.underlying23 hval
 obtain ⟨fuel,hf⟩:=h
 obtain ⟨l⟩:=vs
 have hf:DataW.trod enc Tryz.prog W 0 (λ_=>true) true fuel 23 l=some (d,ps):=hf
 obtain ⟨c,q⟩:=W33 hf
 exact ⟨c,by rw [q]⟩
end
end
section
open Mod
section
variable {K:kQ} {h:Wa2} {M:Nat} {Ts:List Nat} {R:Hp} {d:Run->Run} {W:Run->Prop} {ins:Int} {Inv:Nat->Mac->Prop} {m:Mac}
theorem Wl4 {m:Mac} {k:Nat} (h:k < m.th.length):m.th[k]? = some (We8 m k):=by
 unfold We8;rw [List.getElem?_eq_getElem h];simp [h]
theorem WW6 {m z:Mac} {k:Nat} {t:Thr} (h:k < m.th.length):We8 (z.setTh (m.th.set k t)) k=t:=by
 unfold We8 Mod.Mac.setTh
 rw [List.getD_eq_getElem?_getD]
 simp [h]
end
end
section
set_option maxRecDepth 100000
abbrev g30 (K:kQ) (h H1:Wa2) (xa:Option Addr) (xb xc:Nat) (xd:Bool):Prop:=
 (dl7 H1 h.size λa b c d e f g=>cf 62 #[.agg #[a,b,c,d,e,f,g],.slice xa xb xc,.bool xd] H1 λa b=>Wh0 a λc=>Wc2 c 0 λc=>Wb2 c λc=>Wh0 a λa=>Wc2 a 1 λa=>asInt .i64 a λa=>ifB (a != 0) (K (.tuple #[.pointer none,iQ a]) b) (exI λI15=>(lI .i64 (Array.push b (.cells #[.pointer c,.nilFunc,iQ 0] 115)) (aQ h.size) λa=>ifB (a == 0) (Wb8 (.pointer (some (aQ b.size))) (stH (Array.push b (.cells #[.pointer c,.nilFunc,iQ 0] 115)) ⟨b.size,1,none⟩ (.func (.func 63) #[] #[]) λd=>Wb8 (.pointer (some (aQ b.size))) (stH d ⟨b.size,2,none⟩ (iQ 11) λd=>I15 [.bool true,.tuple #[]] d))) (ifB (a == 1) (Wb8 (.pointer (some (aQ b.size))) (stH (Array.push b (.cells #[.pointer c,.nilFunc,iQ 0] 115)) ⟨b.size,1,none⟩ (.func (.func 64) #[] #[]) λa=>Wb8 (.pointer (some (aQ b.size))) (stH a ⟨b.size,2,none⟩ (iQ 21) λa=>I15 [.bool false,.bool true] a))) (Wb8 (.pointer (some (aQ b.size))) (stH (Array.push b (.cells #[.pointer c,.nilFunc,iQ 0] 115)) ⟨b.size,1,none⟩ (.func (.func 65) #[] #[]) λa=>Wb8 (.pointer (some (aQ b.size))) (stH a ⟨b.size,2,none⟩ (iQ 31) λa=>I15 [.bool false,.bool false] a)))))/\(∀(a c:Value) (d:Env) (d:Wa2),(I15 [a,c] d)->(K (.tuple #[.pointer (some (aQ b.size)),iQ 0]) d))))
def F30 (K:kQ) (h:Wa2) (xa xb xc xd xe xf xg:Int) (xh:Option Addr) (xi xj:Nat) (xk:Bool):Prop:=
 (g30 K h (Array.push h (.cells #[iQ xa,iQ xb,iQ xc,iQ xd,iQ xe,iQ xf,iQ xg] 23)) xh xi xj xk)
theorem call30 {K:kQ} {h:Wa2} {xa xb xc xd xe xf xg:Int} {xh:Option Addr} {xi xj:Nat} {xk:Bool} (H:F30 K h xa xb xc xd xe xf xg xh xi xj xk):Wa5 Tryz.prog 30 #[(.agg #[(iQ xa),(iQ xb),(iQ xc),(iQ xd),(iQ xe),(iQ xf),(iQ xg)]),(.slice xh xi xj),(.bool xk)] h K:=
 cQ Tryz.func30 H
abbrev g77 (K:kQ) (h H1:Wa2) (xa:Option Addr) (xb:Int):Prop:=
 (ifB (Option.isNone xa) (K (iQ 1) H1) (cf 121 #[.pointer xa,iQ xb] H1 λa b=>Wb2 a λa=>ifB (Option.isNone a) (K (iQ 2) b) (dl3 b h.size λa c d=>cf 61 #[.agg #[a,c,d]] b λa b=>asBool a λa=>ifB (!a) (K (iQ 1) b) (cf 66 #[.pointer xa,iQ xb] b λa b=>asBool a λa=>ifB a (K (iQ 5) b) (nP xa λa=>ldH b (Addr.add a 2) λc=>asInt .i64 c λd=>ldH b (aQ h.size) λe=>asInt .i64 e λf=>ldH b ⟨h.size,1,none⟩ λg=>asInt .u32 g λi=>ldH b ⟨h.size,2,none⟩ λj=>asInt .u32 j λk=>(cf 121 #[.pointer xa,iQ xb] b λl m=>Wb2 l λl=>ce m h.size 2 j (ce m h.size 1 g (ce m h.size 0 e (((Wa1 m (Addr.add a 2))=(some c))/\(((Wa1 (Array.push m (.cells #[uQ (IntKind.wrap .u64 i),uQ (IntKind.wrap .u64 k)] 178)) (aQ h.size))=(some e))/\(((Wa1 (Array.push m (.cells #[uQ (IntKind.wrap .u64 i),uQ (IntKind.wrap .u64 k)] 178)) (Addr.add a 2))=(some c))/\(cf 130 #[.pointer l,iQ (IntKind.wrap .i64 (d+f)),.slice (some (aQ m.size)) 2 2] (Array.push m (.cells #[uQ (IntKind.wrap .u64 i),uQ (IntKind.wrap .u64 k)] 178)) λl l=>K (iQ 0) l)))))))/\(((Wa1 (Array.push b (.cells #[uQ (IntKind.wrap .u64 i),uQ (IntKind.wrap .u64 k)] 178)) (aQ h.size))=(some e))/\(((Wa1 (Array.push b (.cells #[uQ (IntKind.wrap .u64 i),uQ (IntKind.wrap .u64 k)] 178)) (Addr.add a 2))=(some c))/\(cf 121 #[.pointer xa,iQ xb] (Array.push b (.cells #[uQ (IntKind.wrap .u64 i),uQ (IntKind.wrap .u64 k)] 178)) λi k=>Wb2 i λi=>ce k h.size 2 j (ce k h.size 1 g (ce k h.size 0 e (((Wa1 k (Addr.add a 2))=(some c))/\(cf 130 #[.pointer i,iQ (IntKind.wrap .i64 (d+f)),.slice (some (aQ b.size)) 2 2] k λa a=>K (iQ 0) a))))))))))))
def F77 (K:kQ) (h:Wa2) (xa:Option Addr) (xb xc xd xe:Int):Prop:=
 (g77 K h (Array.push h (.cells #[iQ xc,.int .u32 xd,.int .u32 xe] 41)) xa xb)
theorem call77 {K:kQ} {h:Wa2} {xa:Option Addr} {xb xc xd xe:Int} (H:F77 K h xa xb xc xd xe):Wa5 Tryz.prog 77 #[(.pointer xa),(iQ xb),(.agg #[(iQ xc),(.int .u32 xd),(.int .u32 xe)])] h K:=
 cQ Tryz.func77 H
def F31 (K:kQ) (h:Wa2) (xa:Option Addr):Prop:=
 (ifB (Option.isNone xa) (K (.pointer none) h) (nP xa λa=>lP h a λa=>K (.pointer a) h))
theorem call31 {K:kQ} {h:Wa2} {xa:Option Addr} (H:F31 K h xa):Wa5 Tryz.prog 31 #[(.pointer xa)] h K:=
 cQ Tryz.func31 H
def F121 (K:kQ) (h:Wa2) (xa:Option Addr) (xb:Int):Prop:=
 (cf 31 #[.pointer xa] h λa b=>Wb2 a λa=>cf 196 #[.pointer a,iQ xb] b λa b=>Wb2 a λa=>K (.pointer a) b)
theorem call121 {K:kQ} {h:Wa2} {xa:Option Addr} {xb:Int} (H:F121 K h xa xb):Wa5 Tryz.prog 121 #[(.pointer xa),(iQ xb)] h K:=
 cQ Tryz.func121 H
def F66 (K:kQ) (h:Wa2) (xa:Option Addr) (xb:Int):Prop:=
 (cf 121 #[.pointer xa,iQ xb] h λa b=>Wb2 a λa=>cf 105 #[.pointer a] b λa b=>Wb2 a λa=>K (.bool (!(Option.isNone a))) b)
theorem call66 {K:kQ} {h:Wa2} {xa:Option Addr} {xb:Int} (H:F66 K h xa xb):Wa5 Tryz.prog 66 #[(.pointer xa),(iQ xb)] h K:=
 cQ Tryz.func66 H
def F68 (K:kQ) (h:Wa2) (xa:Option Addr) (xb:Int):Prop:=
 (exI λI0=>(cf 66 #[.pointer xa,iQ xb] (Array.push h (.cells #[iQ 0,.int .u32 0,.int .u32 0] 43)) λa b=>asBool a λa=>ifB (!a) (I0 [.bool true] b) (nP xa λa=>lP b a λa=>nP xa λc=>ldH b (Addr.add c 1) λc=>cf 123 #[.pointer a,iQ xb,c] b λa b=>asBool a λa=>I0 [.bool a] b))/\(∀(a:Value) (b:Env) (b:Wa2),(I0 [a] b)->(asBool a λa=>ifB a (dw3 b h.size (iQ 0) (.int .u32 0) (.int .u32 0) λa=>dl3 a h.size λc d e=>K (.tuple #[.agg #[c,d,e],.bool false]) a) (cf 121 #[.pointer xa,iQ xb] b λa b=>Wb2 a λa=>nP a λa=>ldH b (Addr.add a 2) λc=>ldH b (Addr.add a 3) λd=>ldH b (Addr.add a 4) λa=>stH (Array.push b (.cells #[uQ 0,uQ 0,uQ 0] 179)) (aQ b.size) c λc=>stH c ⟨b.size,1,none⟩ d λc=>stH c ⟨b.size,2,none⟩ a λa=>bd 0 3 (lI .u64 a (aQ b.size) λc=>bd 1 3 (lI .u64 a ⟨b.size,1,none⟩ λd=>bd 2 3 (lI .u64 a ⟨b.size,2,none⟩ λb=>dw3 a h.size (iQ (IntKind.wrap .i64 c)) (.int .u32 (IntKind.wrap .u32 d)) (.int .u32 (IntKind.wrap .u32 b)) λa=>dl3 a h.size λb c d=>K (.tuple #[.agg #[b,c,d],.bool true]) a)))))))
theorem call68 {K:kQ} {h:Wa2} {xa:Option Addr} {xb:Int} (H:F68 K h xa xb):Wa5 Tryz.prog 68 #[(.pointer xa),(iQ xb)] h K:=
 cQ Tryz.func68 H
end
section
open Mod
abbrev qC (M f:Nat) (ins:Int):List Value:=[mP M,.func (.func f) #[] #[],iQ ins]
def suS (Q M f:Nat) (ins:Int) (Ts:List Nat) (m:Mac):Hp:=pt Q (.cells (qC M f ins).toArray 115)*WF4 M Ts m
theorem WD0 {h:Wa2} {Q M f:Nat} {ins:Int} {Ts:List Nat} {m:Mac} {R:Hp}:Sat h (suS Q M f ins Ts m*R)↔Sat h (pt Q (.cells (qC M f ins).toArray 115)*(WF4 M Ts m*R)):=by
 unfold suS
 rw [Wc7]
theorem Wp0 {h:Wa2} {Q M f:Nat} {ins:Int} {Ts:List Nat} {m:Mac} {R:Hp}:Sat h (suS Q M f ins Ts m*R)↔Sat h (WF4 M Ts m*(pt Q (.cells (qC M f ins).toArray 115)*R)):=by
 rw [WD0,Wb7]
def WQ5 (c:Cl):Bool:=c.op == 0 || ((c.op == 1 || c.op == 2) && (c.key == 0 && c.val == 0))
theorem Yg9 {h:Wa2} {M:Nat} {Ts:List Nat} {m:Mac} {R:Hp} (H:Sat h (WF4 M Ts m*R)):Ts.length=m.th.length:=by
 obtain ⟨_,_,hl,_⟩:=Wk7.1 H
 exact hl.1
section
variable {K:kQ} {h:Wa2} {Q M f:Nat} {ins:Int} {Ts:List Nat} {m:Mac} {R:Hp}
theorem WN1 (H:Sat h (suS Q M f ins Ts m*R)) (k:K (mP M) h):Wa5 Tryz.prog 31 #[mP Q] h K:=by
 refine call31 ?_
 unfold F31 lP nP
 have H1:=WD0.1 H
 refine Wb6 (λhh=>by cases hh) (λ_=>?_)
 refine sb ?_
 refine ldR H1.at rfl ?_
 refine sb ?_
 exact k
theorem Wp1 (H:Sat h (suS Q M f ins Ts m*R)) {i:Int} (k0:(i < 0\/m.th.length<=i)->K (.pointer none) h) (k:∀T,0<=i->Ts[i.toNat]? = some T->K (mP T) h) :
  Wa5 Tryz.prog 121 #[mP Q,iQ i] h K:=by
 refine call121 ?_
 unfold F121 cf
 refine Wa0 (WN1 H ?_)
 refine sb ?_
 refine Wa0 (WU8 (Wp0.1 H) (λc=>?_) λT h0 hT=>?_)
 ·refine sb ?_
  exact k0 c
 ·refine sb ?_
  exact k T h0 hT
theorem YK6 (H:Sat h (suS Q M f ins Ts m*R)) {k T:Nat} (hk:Ts[k]? = some T) (hlt:k < m.th.length) {F:kQ} (k0:(We8 m k).fr = []->F (.pointer none) h) (k1:∀b o,(We8 m k).fr≠[]->F (.pointer (some ⟨b,o,none⟩)) h) :
  Wa5 Tryz.prog 105 #[mP T] h F:=by
 obtain ⟨tv,Q2,H2,re2⟩:=WE4 (Wp0.1 H) hk (Wl4 hlt)
 exact Zi3 H2 (λe=>k0 e) λb o hne _ _=>k1 b o hne
theorem WH5 (H:Sat h (suS Q M f ins Ts m*R)) {i:Nat} (hi:i < m.th.length) (k:K (.bool (!(We8 m i).fr.isEmpty)) h):Wa5 Tryz.prog 66 #[mP Q,iQ i] h K:=by
 refine call66 ?_
 unfold F66 cf
 refine Wa0 (Wp1 H (λc=>by omega) λT _ hT=>?_)
 refine sb ?_
 rw [Int.toNat_natCast] at hT
 refine Wa0 (YK6 H hT hi (λe=>?_) λb o hne=>?_)
 ·refine sb ?_
  rw [e] at k
  exact k
 ·refine sb ?_
  cases e:(We8 m i).fr with
  | nil=>exact absurd e hne
  | cons a l=>rw [e] at k;exact k
theorem WO3 {c:Cl} (k:∀h',Old h.size h h'->K (.bool (WQ5 c)) h'):Wa5 Tryz.prog 61 #[.agg #[iQ c.op,.int .u32 c.key,.int .u32 c.val]] h K:=by
 refine WZ3 (c:=⟨c.op,c.key,c.val⟩) λh' o=>?_
 exact k h' o
theorem WW7 (H:Sat h (suS Q M f ins Ts m*R)) {k T:Nat} {op:Int} {c:Cl} (hk:Ts[k]? = some T) (hk2:k < m.th.length) (he:(We8 m k).fr = []) (hc:U c.key) (hv:U c.val) {F:kQ}
  (kk:∀h',Sat h' (suS Q M f ins Ts (m.setTh (m.th.set k ((We8 m k).push op [c.key,c.val])))*R)->F (.tuple #[]) h') :
  Wa5 Tryz.prog 130 #[mP T,iQ op,.slice (some (aQ h.size)) 2 2] (h.push (.cells #[uQ c.key,uQ c.val] 178)) F:=by
 obtain ⟨tv,Q2,H2,re2⟩:=WE4 (Wp0.1 H) hk (Wl4 hk2)
 exact YZ6 H2 [c.key,c.val] rfl (Yf3 hc hv) (by omega) (by show (We8 m k).fr.length < _;rw [he];decide) λh' b o _ _ H3=>kk h' (Wp0.2 (re2 _ _ _ rfl (RunS.none H3)))
theorem Yh0 (H:Sat h (suS Q M f ins Ts m*R)) {i:Int} {c:Cl} (hins:0<=ins/\ins<=100) (hc:V c.key/\V c.val)
  (k2:(i < 0\/m.th.length<=i)->∀h',Sat h' (suS Q M f ins Ts m*R)->K (iQ 2) h')
  (k1:0<=i/\i < m.th.length->WQ5 c=false->∀h',Sat h' (suS Q M f ins Ts m*R)->K (iQ 1) h')
  (k5:0<=i/\i < m.th.length->WQ5 c=true->(We8 m i.toNat).fr≠[]->∀h',Sat h' (suS Q M f ins Ts m*R)->K (iQ 5) h')
  (k0:0<=i/\i < m.th.length->WQ5 c=true->(We8 m i.toNat).fr = []->∀h',Sat h' (suS Q M f ins Ts (m.setTh (m.th.set i.toNat ((We8 m i.toNat).push (ins+c.op) [c.key,c.val])))*R)->K (iQ 0) h') :
  Wa5 Tryz.prog 77 #[mP Q,iQ i,.agg #[iQ c.op,.int .u32 c.key,.int .u32 c.val]] h K:=by
 refine call77 ?_
 unfold F77 g77 cf ce nP dl3
 have H1:=H.push (.cells (clc c).toArray 41)
 rw [show h.push (.cells #[iQ c.op,.int .u32 c.key,.int .u32 c.val] 41)=h.push (.cells (clc c).toArray 41) from rfl]
 generalize h.push (.cells (clc c).toArray 41)=h1 at *
 generalize h.size=CB at *
 rw [Wb7] at H1
 refine Wb6 (λhh=>by cases hh) (λ_=>?_)
 refine Wa0 (Wp1 H1 (λcc=>?_) λT h0 hT=>?_)
 ·refine sb ?_
  exact k2 cc h1 H1.drop2
 refine sb ?_
 have hT':=hT
 have hlen:=Yg9 (Wp0.1 H)
 have hlt:i.toNat < m.th.length:=by rw [<- hlen];exact (List.getElem?_eq_some_iff.1 hT).1
 have hir:0<=i/\i < m.th.length:=by omega
 have O:=H1.at2
 refine ldR O rfl (ldR O rfl (ldR O rfl ?_))
 refine Wa0 (WO3 λh2 o2=>?_)
 have H2:=H1.old o2
 clear H1 O
 refine sb ?_
 refine Wb6 (λhr=>k1 hir (by simpa using hr) h2 H2.drop2) (λhr=>?_)
 have hr:WQ5 c=true:=by simpa using hr
 obtain ⟨ii,hii⟩ : ∃ii:Nat,i=ii:=⟨i.toNat,by omega⟩
 subst hii
 rw [Int.toNat_natCast] at *
 refine Wa0 (WH5 H2 hlt ?_)
 refine sb ?_
 refine Wb6 (λhb=>k5 hir hr (λe=>by rw [e] at hb;cases hb) h2 H2.drop2) (λhb=>?_)
 have he:(We8 m ii).fr = []:=by
  cases e:(We8 m ii).fr with
  | nil=>rfl
  | cons a l=>rw [e] at hb;cases hb
 have hop:0<=c.op/\c.op<=2:=by
  unfold WQ5 at hr
  simp only [Bool.or_eq_true,Bool.and_eq_true,beq_iff_eq] at hr
  omega
 obtain ⟨hkey,hval⟩:=hc
 have hu1:Mod.u64 c.key=c.key:=by have:=hkey.1;have:=hkey.2;unfold Mod.u64;omega
 have hu2:Mod.u64 c.val=c.val:=by have:=hval.1;have:=hval.2;unfold Mod.u64;omega
 have hu3:s64 (ins+c.op)=ins+c.op:=by unfold s64;omega
 have OQ:=(WD0.1 H2).at
 have OC:=H2.at2
 refine ldR OQ rfl ?_
 refine sb ?_
 refine ldR OC rfl ?_
 refine sb ?_
 refine ldR OC rfl ?_
 refine sb ?_
 refine ldR OC rfl ?_
 try simp only [Wb8,bsx,Nat.reduceAdd,Int.reduceLE,Int.reduceLT,Int.reduceToNat,hu1,hu2,hu3]
 refine ⟨?_,?_⟩
 ·refine Wa0 (Wp1 H2 (λcc=>by omega) λT2 _ hT2=>?_)
  rw [Int.toNat_natCast,hT] at hT2
  cases hT2
  refine sb ?_
  repeat (first | refine ⟨Wc8 (Wd3 OC rfl),?_⟩ | refine ⟨Wc8 (Wd3 OQ rfl),?_⟩ | refine ⟨Wd3 OC rfl,?_⟩ | refine ⟨Wd3 OQ rfl,?_⟩)
  refine Wa0 (WW7 H2 hT hlt he ⟨hkey.1,by have:=hkey.2;omega⟩ ⟨hval.1,by have:=hval.2;omega⟩ λh3 H3=>?_)
  exact k0 hir hr he h3 H3.drop2
 ·repeat (first | refine ⟨Wc8 (Wd3 OC rfl),?_⟩ | refine ⟨Wc8 (Wd3 OQ rfl),?_⟩ | refine ⟨Wd3 OC rfl,?_⟩ | refine ⟨Wd3 OQ rfl,?_⟩)
  have H3:=H2.push (.cells (uvs [c.key,c.val]).toArray 178)
  rw [Wb7] at H3
  have OC3:=H3.at3
  have OQ3:=(WD0.1 H3).at
  have e:h2.push (.cells #[uQ c.key,uQ c.val] 178)=h2.push (.cells (uvs [c.key,c.val]).toArray 178):=rfl
  rw [e]
  refine Wa0 (Wp1 H3 (λcc=>by omega) λT2 _ hT2=>?_)
  rw [Int.toNat_natCast,hT] at hT2
  cases hT2
  refine sb ?_
  rw [<- e]
  repeat (first | refine ⟨Wc8 (Wd3 OC rfl),?_⟩ | refine ⟨Wc8 (Wd3 OQ rfl),?_⟩)
  refine Wa0 (WW7 H2 hT hlt he ⟨hkey.1,by have:=hkey.2;omega⟩ ⟨hval.1,by have:=hval.2;omega⟩ λh3 H3=>?_)
  exact k0 hir hr he h3 H3.drop2
variable {d:Run->Run} {W:Run->Prop} {Inv:Nat->Mac->Prop}
theorem Ys2 (D:DoC f d W) (H:Sat h (suS Q M f ins Ts m*R)) {i n:Nat} {z:Run} (hi:i < m.th.length) (he:(We8 m i).fr≠[])
  (hz:Mod.bits d n ⟨m.quiet,We8 m i,i⟩=some z) (hs:ZB8 d W n ⟨m.quiet,We8 m i,i⟩) (hid:z.id=i)
  (k1:z.t.fr≠[]->∀h',Sat h' (suS Q M f ins Ts (z.m.setTh (m.th.set i z.t))*R)->K (.tuple #[.agg #[iQ 0,.int .u32 0,.int .u32 0],.bool false]) h')
  (k0:z.t.fr = []->∀h',Sat h' (suS Q M f ins Ts (z.m.setTh (m.th.set i z.t))*R)->K (.tuple #[.agg #[iQ (Y27 z.t).op,.int .u32 (Y27 z.t).key,.int .u32 (Y27 z.t).val],.bool true]) h') :
  Wa5 Tryz.prog 68 #[mP Q,iQ i] h K:=by
 refine call68 ?_
 unfold F68 cf bd lP lI nP dl3 dw3
 have H1:=H.push (.cells #[iQ 0,.int .u32 0,.int .u32 0] 43)
 generalize h.push (.cells #[iQ 0,.int .u32 0,.int .u32 0] 43)=h1 at *
 generalize h.size=AB at *
 have hlen:=Yg9 (Wp0.1 H)
 obtain ⟨T,hT⟩ : ∃T,Ts[i]? = some T:=⟨_,List.getElem?_eq_getElem (by omega)⟩
 have hthr:We8 (z.m.setTh (m.th.set i z.t)) i=z.t:=WW6 hi
 have hl2:(z.m.setTh (m.th.set i z.t)).th.length=m.th.length:=by show (m.th.set i z.t).length=_;rw [List.length_set]
 refine ⟨λvs h'=>vs = [.bool (!z.t.fr.isEmpty)]/\Sat h' (suS Q M f ins Ts (z.m.setTh (m.th.set i z.t))*(pt AB (.cells #[iQ 0,.int .u32 0,.int .u32 0] 43)*R)),?_,?_⟩
 ·rw [Wb7] at H1
  refine Wa0 (WH5 H1 hi ?_)
  refine sb ?_
  refine Wb6 (λhb=>?_) (λ_=>?_)
  ·exact absurd (List.isEmpty_iff.1 (by simpa using hb)) he
  have OQ:=(WD0.1 H1).at
  refine ldR OQ rfl ?_
  refine sb ?_
  refine ldR OQ rfl ?_
  refine Wa0 (W70 D (Wp0.1 H1) (n:=n) (z:=z) (i:=i) (by omega) (by rw [Int.toNat_natCast];exact Wl4 hi) hz hs hid λh' H2=>?_)
  rw [Int.toNat_natCast] at H2
  refine sb ?_
  first | exact ⟨rfl,Wp0.2 H2⟩ | exact Wp0.2 H2
 generalize z.m.setTh (m.th.set i z.t)=m2 at *
 rintro v12 g13 h14 ⟨e,H2⟩
 cases e
 refine sb ?_
 refine Wb6 (λhb=>?_) (λhb=>?_)
 ·have hne:z.t.fr≠[]:=λe=>by rw [e] at hb;cases hb
  rw [Wb7] at H2
  refine Wd9 (vs:=[iQ 0,.int .u32 0,.int .u32 0]) H2.at rfl (by simp [Wi4]) λh2 w=>?_
  have H3:=H2.wr w.new w.old
  refine ldR H3.at rfl (ldR H3.at rfl (ldR H3.at rfl ?_))
  exact k1 hne h2 H3.drop
 ·have hnil:z.t.fr = []:=by
   cases e:z.t.fr with
   | nil=>rfl
   | cons a l=>rw [e] at hb;cases hb
  refine Wa0 (Wp1 H2 (λcc=>by omega) λT2 _ hT2=>?_)
  rw [Int.toNat_natCast,hT] at hT2
  cases hT2
  refine sb ?_
  obtain ⟨tv,Q2,H3,re⟩:=WE4 (Wp0.1 H2) hT (Wl4 (by omega))
  rw [hthr] at H3
  obtain ⟨B,O⟩:=W62 (RunS.thr H3)
  refine ldR O rfl (ldR O rfl (ldR O rfl ?_))
  have H4:=H2.push (.cells #[uQ 0,uQ 0,uQ 0] 179)
  generalize h14.push (.cells #[uQ 0,uQ 0,uQ 0] 179)=h15 at *
  generalize h14.size=RB at *
  refine Wd9 (vs:=[uQ (z.t.ret.getD 0 0),uQ (z.t.ret.getD 1 0),uQ (z.t.ret.getD 2 0)]) H4.at rfl (by simp [Wi4]) λh16 w=>?_
  have H5:=H4.wr w.new w.old
  refine ldR H5.at rfl ?_
  refine sb ?_
  refine ldR H5.at rfl ?_
  refine sb ?_
  refine ldR H5.at rfl ?_
  try simp only [Wb8,bsx,Nat.reduceAdd,Int.reduceLE,Int.reduceLT,Int.reduceToNat,WE3]
  have H6:Sat h16 (pt AB (.cells #[iQ 0,.int .u32 0,.int .u32 0] 43)*(suS Q M f ins Ts m2*R)):=by
   have:=H5.drop
   rw [Wb7] at this
   exact this
  refine Wd9 (vs:=[iQ (s64 (z.t.ret.getD 0 0)),.int .u32 (u32 (z.t.ret.getD 1 0)),.int .u32 (u32 (z.t.ret.getD 2 0))]) H6.at rfl (by simp [Wi4]) λh17 w2=>?_
  have H7:=H6.wr w2.new w2.old
  refine ldR H7.at rfl (ldR H7.at rfl (ldR H7.at rfl ?_))
  exact k0 hnil h17 H7.drop
end
end
end Go.Proofs.YtahpbclnkofhfaaGreat
section
namespace Go.Proofs.YtahpbclnkofhfaaGreat.Mod
inductive Lo:Run->Run->Prop
 | refl (x:Run):Lo x x
 | load {x y:Run} {a:Int} (h:Lo x y):Lo x (y.load a).2
 | store {x y:Run} {a v:Int} (h:Lo x y):Lo x (y.store a v)
 | cas {x y:Run} {a o v:Int} (h:Lo x y):Lo x (y.cas a o v).2
 | add {x y:Run} {a v:Int} (h:Lo x y):Lo x (y.add a v).2
 | swing {x y:Run} {a w p:Int} {b:Bool} (h:Lo x y):Lo x (y.swing a w p b).2
 | swingA {x y:Run} {a w p:Int} (h:Lo x y):Lo x (y.swingA a w p).2
 | swingM {x y:Run} {a w p:Int} {b:Bool} (h:Lo x y):Lo x (y.swingM a w p b).2
 | drop1 {x y:Run} {a:Int} (h:Lo x y):Lo x (y.drop1 a).2
 | guard {x y:Run} {a b:Int} (h:Lo x y):Lo x (y.guard a b)
 | gh {x y:Run} {f:Gh->Gh} (h:Lo x y):Lo x (y.gh f)
 | s {x y:Run} {i:Nat} {v:Int} (h:Lo x y):Lo x (y.s i v)
 | pc {x y:Run} {i:Int} (h:Lo x y):Lo x (y.pc i)
 | fo {x y:Run} {l:List Int} (h:Lo x y):Lo x (y.fo l)
 | re {x y:Run} {l:List Int} (h:Lo x y):Lo x (y.re l)
 | setPl {x y:Run} {p s w:List Int} (h:Lo x y):Lo x (y.setPl p s w)
 | next {x y:Run} {k:Int} (h:Lo x y):Lo x { y with m:=(y.m.next k).2 }
 | lvl {x y:Run} {k:Int} (h:Lo x y):Lo x { y with m:=(y.m.lvl k).2 }
 | dcas {x y:Run} {a o v b p q:Int} (h:Lo x y):Lo x { y with m:=(y.m.dcas a o v b p q).2 }
 | dcss {x y:Run} {a o v b p:Int} (h:Lo x y):Lo x { y with m:=(y.m.dcss a o v b p).2 }
inductive Tch:Run->Prop
 | load {y:Run} {a:Int}:Tch (y.load a).2
 | store {y:Run} {a v:Int}:Tch (y.store a v)
 | cas {y:Run} {a o v:Int}:Tch (y.cas a o v).2
 | add {y:Run} {a v:Int}:Tch (y.add a v).2
 | swing {y:Run} {a w p:Int} {b:Bool}:Tch (y.swing a w p b).2
 | swingA {y:Run} {a w p:Int}:Tch (y.swingA a w p).2
 | swingM {y:Run} {a w p:Int} {b:Bool}:Tch (y.swingM a w p b).2
 | drop1 {y:Run} {a:Int}:Tch (y.drop1 a).2
 | guard {y:Run} {a b:Int}:Tch (y.guard a b)
 | dcas {y:Run} {a o v b p q:Int}:Tch { y with m:=(y.m.dcas a o v b p q).2 }
 | dcss {y:Run} {a o v b p:Int}:Tch { y with m:=(y.m.dcss a o v b p).2 }
 | s {y:Run} {i:Nat} {v:Int} (h:Tch y):Tch (y.s i v)
 | pc {y:Run} {i:Int} (h:Tch y):Tch (y.pc i)
 | gh {y:Run} {f:Gh->Gh} (h:Tch y):Tch (y.gh f)
 | fo {y:Run} {l:List Int} (h:Tch y):Tch (y.fo l)
 | re {y:Run} {l:List Int} (h:Tch y):Tch (y.re l)
 | setPl {y:Run} {p s w:List Int} (h:Tch y):Tch (y.setPl p s w)
 | next {y:Run} {k:Int} (h:Tch y):Tch { y with m:=(y.m.next k).2 }
 | lvl {y:Run} {k:Int} (h:Tch y):Tch { y with m:=(y.m.lvl k).2 }
 | push {y:Run} {i:Int} {r:List Int} (h:Tch y):Tch (y.push i r)
 | pop {y:Run} {r:List Int} (h:Tch y):Tch (y.pop r)
 | call {y:Run} {i j:Int} {r:List Int} (h:Tch y):Tch (y.call i j r)
 | fin {y:Run} {i j k:Int} (h:Tch y):Tch (y.fin i j k)
inductive St:Nat->Run->Run->Prop
 | refl {n:Nat} (x:Run):St n x x
 | load {n:Nat} {x y:Run} {a:Int} (h:St n x y):St (n+1) x (y.load a).2
 | store {n:Nat} {x y:Run} {a v:Int} (h:St n x y):St (n+1) x (y.store a v)
 | cas {n:Nat} {x y:Run} {a o v:Int} (h:St n x y):St (n+1) x (y.cas a o v).2
 | add {n:Nat} {x y:Run} {a v:Int} (h:St n x y):St (n+1) x (y.add a v).2
 | dcas {n:Nat} {x y:Run} {a o v b p q:Int} (h:St n x y):St (n+1) x { y with m:=(y.m.dcas a o v b p q).2 }
 | dcss {n:Nat} {x y:Run} {a o v b p:Int} (h:St n x y):St (n+1) x { y with m:=(y.m.dcss a o v b p).2 }
 | next {n:Nat} {x y:Run} {k:Int} (h:St n x y):St (n+1) x { y with m:=(y.m.next k).2 }
 | lvl {n:Nat} {x y:Run} {k:Int} (h:St n x y):St (n+1) x { y with m:=(y.m.lvl k).2 }
 | gh {n:Nat} {x y:Run} {f:Gh->Gh} (h:St n x y):St n x (y.gh f)
 | s {n:Nat} {x y:Run} {i:Nat} {v:Int} (h:St n x y):St (n+1) x (y.s i v)
 | pc {n:Nat} {x y:Run} {i:Int} (h:St n x y):St (n+1) x (y.pc i)
 | push {n:Nat} {x y:Run} {i:Int} {r:List Int} (h:St n x y):St (n+1) x (y.push i r)
 | pop {n:Nat} {x y:Run} {r:List Int} (h:St n x y):St n x (y.pop r)
 | fo {n:Nat} {x y:Run} {l:List Int} (hl:l.length<=y.t.found.length+1) (h:St n x y):St (n+1) x (y.fo l)
 | re {n:Nat} {x y:Run} {l:List Int} (hl:l.length<=y.t.retired.length+1) (h:St n x y):St (n+1) x (y.re l)
 | part {n:Nat} {x y:Run} {p:Int->Bool} (h:St n x y):St (n+1) x ((y.re (y.t.retired.filter p)).fo (y.t.retired.filter λn=>!p n))
 | setPl {n:Nat} {x y:Run} {p s w:List Int} (h1:p.length=y.t.pred.length) (h2:s.length=y.t.succ.length) (h3:w.length=y.t.word.length) (h:St n x y):St n x (y.setPl p s w)
 | up {n k:Nat} {x y:Run} (h:St n x y):St (n+k) x y
section
variable {x y:Run} {n:Nat}
theorem St.swing {a w p:Int} {b:Bool} (h:St n x y):St (n+1) x (y.swing a w p b).2:=St.cas h
theorem St.swingA {a w p:Int} (h:St n x y):St (n+1) x (y.swingA a w p).2:=St.cas h
theorem St.swingM {a w p:Int} {b:Bool} (h:St n x y):St (n+1) x (y.swingM a w p b).2:=St.cas h
theorem St.drop1 {a:Int} (h:St n x y):St (n+1) x (y.drop1 a).2:=St.add h
theorem St.guard {a b:Int} (h:St n x y):St (n+1) x (y.guard a b):=St.store h
theorem St.call {i j:Int} {r:List Int} (h:St n x y):St (n+2) x (y.call i j r):=St.push (St.pc h)
theorem St.fin {i j k:Int} (h:St n x y):St (n+5) x (y.fin i j k):=St.call (St.s (St.s (St.s h)))
end
structure Fix (x y:Run):Prop where
 p:y.m.p=x.m.p
 id:y.id=x.id
 th:y.m.th=x.m.th
 b:y.m.b=x.m.b
 w:y.m.mm.w.length=x.m.mm.w.length
 pr:y.t.pred.length=x.t.pred.length
 su:y.t.succ.length=x.t.succ.length
 wo:y.t.word.length=x.t.word.length
structure FixM (m n:Mac):Prop where
 p:n.p=m.p
 th:n.th=m.th
 b:n.b=m.b
 w:n.mm.w.length=m.mm.w.length
 st:n.mm.st<=m.mm.st+1
 us:n.used<=m.used+1
theorem FixM.touch (m:Mac) (a:Int):FixM m (m.touch a)/\(m.touch a).mm=m.mm/\(m.touch a).used=m.used:=by
 unfold Mac.touch
 split <;> exact ⟨⟨rfl,rfl,rfl,rfl,by show m.mm.st<=_;omega,by show m.used<=_;omega⟩,rfl,rfl⟩
theorem FixM.of {m n k:Mac} (h:FixM m n) (hn:n.mm=m.mm/\n.used=m.used) (e:k.p=n.p/\k.th=n.th/\k.b=n.b/\k.used=n.used) (ew:k.mm.w.length=n.mm.w.length) (es:k.mm.st<=n.mm.st+1):FixM m k:=
 ⟨e.1.trans h.p,e.2.1.trans h.th,e.2.2.1.trans h.b,ew.trans h.w,by rw [<- hn.1];exact es,by rw [e.2.2.2,hn.2];omega⟩
theorem FixM.load (m:Mac) (a:Int):FixM m (m.load a).2:=by
 have t:=FixM.touch m a
 unfold Mac.load;dsimp only
 split
 ·exact t.1.of t.2 ⟨rfl,rfl,rfl,rfl⟩ rfl (Int.le_refl _)
 ·exact t.1.of t.2 ⟨rfl,rfl,rfl,rfl⟩ rfl (by show (m.touch a).mm.st<=_;omega)
theorem FixM.store (m:Mac) (a v:Int):FixM m (m.store a v):=by
 have t:=FixM.touch m a
 unfold Mac.store;dsimp only
 split
 ·exact t.1.of t.2 ⟨rfl,rfl,rfl,rfl⟩ (by show (List.set _ _ _).length=_;rw [List.length_set];rfl) (Int.le_refl _)
 ·exact t.1.of t.2 ⟨rfl,rfl,rfl,rfl⟩ rfl (by show (m.touch a).mm.st<=_;omega)
theorem FixM.add (m:Mac) (a v:Int):FixM m (m.add a v).2:=by
 have t:=FixM.touch m a
 unfold Mac.add;dsimp only
 split
 ·exact t.1.of t.2 ⟨rfl,rfl,rfl,rfl⟩ (by show (List.set _ _ _).length=_;rw [List.length_set];rfl) (Int.le_refl _)
 ·exact t.1.of t.2 ⟨rfl,rfl,rfl,rfl⟩ rfl (by show (m.touch a).mm.st<=_;omega)
theorem ZH9 (m:Mm) (a o n:Int):(m.cas a o n).st=m.st+1/\(m.cas a o n).w.length=m.w.length:=by unfold Mm.cas;split <;> exact ⟨rfl,by simp [Mm.tick,Mm.put]⟩
theorem Zy4 (m:Mm) (a o n b p q:Int):(m.dcas a o n b p q).st=m.st+1/\(m.dcas a o n b p q).w.length=m.w.length:=by unfold Mm.dcas;split <;> exact ⟨rfl,by simp [Mm.tick,Mm.put]⟩
theorem Zy5 (m:Mm) (a o n b p:Int):(m.dcss a o n b p).st=m.st+1/\(m.dcss a o n b p).w.length=m.w.length:=by unfold Mm.dcss;split <;> exact ⟨rfl,by simp [Mm.tick,Mm.put]⟩
theorem FixM.cas (m:Mac) (a o n:Int):FixM m (m.cas a o n).2:=by
 have t:=FixM.touch m a
 have h:=ZH9 (m.touch a).mm a o n
 unfold Mac.cas;dsimp only
 split
 ·exact t.1.of t.2 ⟨rfl,rfl,rfl,rfl⟩ h.2 (by show ((m.touch a).mm.cas a o n).st<=_;omega)
 ·exact t.1.of t.2 ⟨rfl,rfl,rfl,rfl⟩ rfl (by show (m.touch a).mm.st<=_;omega)
theorem FixM.touch2 (m:Mac) (a b:Int):FixM m ((m.touch a).touch b)/\((m.touch a).touch b).mm=m.mm/\((m.touch a).touch b).used=m.used:=by
 have t:=FixM.touch m a
 have t2:=FixM.touch (m.touch a) b
 have e1:=t2.2.1.trans t.2.1
 have e2:=t2.2.2.trans t.2.2
 exact ⟨⟨t2.1.p.trans t.1.p,t2.1.th.trans t.1.th,t2.1.b.trans t.1.b,t2.1.w.trans t.1.w,by rw [e1];omega,by rw [e2];omega⟩,e1,e2⟩
theorem FixM.dcas (m:Mac) (a o n b p q:Int):FixM m (m.dcas a o n b p q).2:=by
 have t:=FixM.touch2 m a b
 have h:=Zy4 ((m.touch a).touch b).mm a o n b p q
 unfold Mac.dcas;dsimp only
 split
 ·exact t.1.of t.2 ⟨rfl,rfl,rfl,rfl⟩ h.2 (by show (((m.touch a).touch b).mm.dcas a o n b p q).st<=_;omega)
 ·exact t.1.of t.2 ⟨rfl,rfl,rfl,rfl⟩ rfl (by show ((m.touch a).touch b).mm.st<=_;omega)
theorem FixM.dcss (m:Mac) (a o n b p:Int):FixM m (m.dcss a o n b p).2:=by
 have t:=FixM.touch2 m a b
 have h:=Zy5 ((m.touch a).touch b).mm a o n b p
 unfold Mac.dcss;dsimp only
 split
 ·exact t.1.of t.2 ⟨rfl,rfl,rfl,rfl⟩ h.2 (by show (((m.touch a).touch b).mm.dcss a o n b p).st<=_;omega)
 ·exact t.1.of t.2 ⟨rfl,rfl,rfl,rfl⟩ rfl (by show ((m.touch a).touch b).mm.st<=_;omega)
theorem FixM.refl (m:Mac):FixM m m:=⟨rfl,rfl,rfl,rfl,by omega,by omega⟩
theorem FixM.next (m:Mac) (n:Int):FixM m (m.next n).2:=by
 unfold Mac.next
 split
 ·exact FixM.refl m
 ·exact ⟨rfl,rfl,rfl,rfl,by show m.mm.st<=_;omega,Int.le_refl _⟩
theorem FixM.lvl (m:Mac) (n:Int):FixM m (m.lvl n).2:=by
 unfold Mac.lvl
 split
 ·exact FixM.refl m
 ·exact ⟨rfl,rfl,rfl,rfl,by show m.mm.st<=_;omega,Int.le_refl _⟩
theorem Fix.m {x y:Run} {m:Mac} (h:Fix x y) (e:FixM y.m m):Fix x { y with m:=m }:=⟨e.p.trans h.p,h.id,e.th.trans h.th,e.b.trans h.b,e.w.trans h.w,h.pr,h.su,h.wo⟩
theorem Fix.t {x y:Run} {t:Thr} (h:Fix x y) (h1:t.pred.length=y.t.pred.length) (h2:t.succ.length=y.t.succ.length) (h3:t.word.length=y.t.word.length):Fix x { y with t:=t }:=⟨h.p,h.id,h.th,h.b,h.w,h1.trans h.pr,h2.trans h.su,h3.trans h.wo⟩
theorem Thr.pop_pl (t:Thr) (r:List Int):(t.pop r).pred=t.pred/\(t.pop r).succ=t.succ/\(t.pop r).word=t.word:=by unfold Thr.pop;split <;> exact ⟨rfl,rfl,rfl⟩
theorem St.fix {n:Nat} {x y:Run} (h:St n x y):Fix x y:=by
 induction h with
 | refl x=>exact ⟨rfl,rfl,rfl,rfl,rfl,rfl,rfl,rfl⟩
 | load _ ih=>exact ih.m (FixM.load _ _)
 | store _ ih=>exact ih.m (FixM.store _ _ _)
 | cas _ ih=>exact ih.m (FixM.cas _ _ _ _)
 | add _ ih=>exact ih.m (FixM.add _ _ _)
 | dcas _ ih=>exact ih.m (FixM.dcas _ _ _ _ _ _ _)
 | dcss _ ih=>exact ih.m (FixM.dcss _ _ _ _ _ _)
 | next _ ih=>exact ih.m (FixM.next _ _)
 | lvl _ ih=>exact ih.m (FixM.lvl _ _)
 | gh _ ih=>exact ih.m ⟨rfl,rfl,rfl,rfl,by show Mm.st _<=_;exact Int.le_add_one (Int.le_refl _),by show Mac.used _<=_;exact Int.le_add_one (Int.le_refl _)⟩
 | s _ ih=>exact ih.t rfl rfl rfl
 | pc _ ih=>exact ih.t rfl rfl rfl
 | push _ ih=>exact ih.t rfl rfl rfl
 | pop _ ih=>exact ih.t (by rw [(Thr.pop_pl _ _).1]) (by rw [(Thr.pop_pl _ _).2.1]) (by rw [(Thr.pop_pl _ _).2.2])
 | fo _ _ ih=>exact ih.t rfl rfl rfl
 | re _ _ ih=>exact ih.t rfl rfl rfl
 | part _ ih=>exact ih.t rfl rfl rfl
 | setPl h1 h2 h3 _ ih=>exact ih.t h1 h2 h3
 | up _ ih=>exact ih
def Run.P (x:Run):Nat:=x.m.mm.st.toNat+x.m.used.toNat+x.t.retired.length+x.t.found.length+x.t.fr.length
theorem ZI0 (p:Int->Bool):∀l:List Int,(l.filter p).length+(l.filter λn=>!p n).length=l.length
 | []=>rfl
 | a :: l=>by
  have ih:=ZI0 p l
  cases h:p a <;> simp [List.filter_cons,h] <;> omega
theorem P_m {x:Run} {m:Mac} (h:FixM x.m m):({ x with m:=m }:Run).P<=x.P+2:=by
 have h1:=h.st
 have h2:=h.us
 unfold Run.P
 dsimp only
 omega
theorem Zt7 (x:Run) (f:Frm):(x.setF f).P<=x.P+2:=by
 unfold Run.P
 show x.m.mm.st.toNat+x.m.used.toNat+x.t.retired.length+x.t.found.length+(x.t.fr.dropLast ++ [f]).length<=_
 simp
 omega
theorem St.P {n:Nat} {x y:Run} (h:St n x y):y.P<=x.P+2*n:=by
 induction h with
 | refl x=>omega
 | @load _ _ y a _ ih=>have:=P_m (x:=y) (FixM.load y.m a);exact Nat.le_trans this (by omega)
 | @store _ _ y a v _ ih=>have:=P_m (x:=y) (FixM.store y.m a v);exact Nat.le_trans this (by omega)
 | @cas _ _ y a o v _ ih=>have:=P_m (x:=y) (FixM.cas y.m a o v);exact Nat.le_trans this (by omega)
 | @add _ _ y a v _ ih=>have:=P_m (x:=y) (FixM.add y.m a v);exact Nat.le_trans this (by omega)
 | @dcas _ _ y a o v b p q _ ih=>have:=P_m (x:=y) (FixM.dcas y.m a o v b p q);exact Nat.le_trans this (by omega)
 | @dcss _ _ y a o v b p _ ih=>have:=P_m (x:=y) (FixM.dcss y.m a o v b p);exact Nat.le_trans this (by omega)
 | @next _ _ y k _ ih=>have:=P_m (x:=y) (FixM.next y.m k);exact Nat.le_trans this (by omega)
 | @lvl _ _ y k _ ih=>have:=P_m (x:=y) (FixM.lvl y.m k);exact Nat.le_trans this (by omega)
 | @gh _ _ y f _ ih=>have:(y.gh f).P=y.P:=rfl;omega
 | @s _ _ y i v _ ih=>have:=Zt7 y (y.f.s i v);exact Nat.le_trans this (by omega)
 | @pc _ _ y i _ ih=>have:=Zt7 y (y.f.at i);exact Nat.le_trans this (by omega)
 | @push _ _ y i r _ ih=>
  have:(y.push i r).P=y.P+1:=by
   unfold Run.P
   show y.m.mm.st.toNat+y.m.used.toNat+y.t.retired.length+y.t.found.length+(y.t.fr ++ [_]).length=_
   simp
   omega
  omega
 | @pop _ _ y r _ ih=>
  have:(y.pop r).P<=y.P:=by
   unfold Run.P Run.pop Thr.pop
   split
   ·exact Nat.le_refl _
   ·dsimp only
    simp
  omega
 | @fo _ _ y l hl _ ih=>
  have:(y.fo l).P<=y.P+1:=by
   unfold Run.P
   show y.m.mm.st.toNat+y.m.used.toNat+y.t.retired.length+l.length+y.t.fr.length<=_
   omega
  omega
 | @re _ _ y l hl _ ih=>
  have:(y.re l).P<=y.P+1:=by
   unfold Run.P
   show y.m.mm.st.toNat+y.m.used.toNat+l.length+y.t.found.length+y.t.fr.length<=_
   omega
  omega
 | @part _ _ y p _ ih=>
  have h:=ZI0 p y.t.retired
  have:((y.re (y.t.retired.filter p)).fo (y.t.retired.filter λn=>!p n)).P<=y.P:=by
   unfold Run.P
   show y.m.mm.st.toNat+y.m.used.toNat+(y.t.retired.filter p).length+(y.t.retired.filter λn=>!p n).length+y.t.fr.length<=_
   omega
  omega
 | @setPl _ _ y p s w _ _ _ _ ih=>have:(y.setPl p s w).P=y.P:=rfl;omega
 | up _ ih=>omega
theorem Zk2 (x:Run):St 12 x (alloc x):=by
 unfold alloc;dsimp only
 repeat' split
 all_goals exact Wf8
theorem YK7 (x:Run):St 12 x (Wu1 x):=by
 unfold Wu1;dsimp only
 repeat' split
 all_goals exact Wf8
theorem YK8 (x:Run):St 12 x (Wu2 x):=by
 unfold Wu2
 repeat' split
 ·exact Wf8
 ·exact Zk2 x
 ·exact YK7 x
 ·exact Wf8
theorem YK9 (x:Run):St 12 x (Wu3 x):=by
 unfold Wu3;dsimp only
 repeat' split
 all_goals exact Wf8
theorem Zy6 (x:Run):St 12 x (YW9 x):=by
 unfold YW9;dsimp only
 repeat' split
 all_goals exact Wf8
theorem Y36 (x:Run):St 12 x (WB1 x):=by
 unfold WB1;dsimp only
 have h2:St 2 x ((x.gh λg=>g.turn (s64 (x.f.g 0)) 1 2 2).re ((x.gh λg=>g.turn (s64 (x.f.g 0)) 1 2 2).t.retired ++ [s64 (x.f.g 0)])):=St.re (by simp) (St.gh (St.refl _))
 split
 ·exact St.up (k:=9) (St.push (St.pop h2))
 ·exact St.up (k:=10) (St.pop h2)
theorem Zk3 {x y:Run} {N:Nat} (all:Int) (h:St N x y):St (N+2) x (WF0 y all):=by
 unfold WF0
 split
 ·exact St.pc (St.part h)
 ·exact St.up (k:=2) h
theorem Zk4 {x y:Run} {N:Nat} (h:St N x y):St (N+2) x (W54 y):=by
 unfold W54
 split
 ·exact St.up (k:=2) (St.pop h)
 ·rename_i n rest e
  exact St.push (St.fo (by rw [e];simp;omega) h)
theorem Zy7 (x:Run):St 12 x (scan x):=by
 have h0:St 1 x (if x.f.pc=0 then x.fo [] else x):=by
  split
  ·exact St.fo (by simp) (St.refl _)
  ·exact St.refl _
 unfold scan
 dsimp only
 generalize (if x.f.pc=0 then x.fo [] else x)=y at *
 split
 ·exact St.up (k:=8) (St.pc (St.fo (by simp) (St.load h0)))
 ·exact St.up (k:=7) (Zk4 (Zk3 _ h0))
theorem WH6 (x:Run):St 12 x (Wl1 x):=by
 unfold Wl1
 repeat' split
 ·exact Wf8
 ·exact YK9 x
 ·exact Zy6 x
 ·exact Y36 x
 ·exact Zy7 x
 ·exact YK8 x
theorem Zk5 (x:Run):St 12 x (WS4 x):=by
 unfold WS4;dsimp only
 repeat' split
 all_goals exact Wf8
theorem Zk6 (x:Run):St 12 x (WS6 x):=by
 unfold WS6;dsimp only
 repeat' split
 all_goals exact Wf8
theorem Ys3 (x:Run):St 12 x (Wo4 x):=by
 unfold Wo4 WS5;dsimp only
 repeat' split
 all_goals exact Wf8
theorem Zk7 (x:Run):St 12 x (WS7 x):=by
 unfold WS7 WS5;dsimp only
 repeat' split
 all_goals exact Wf8
theorem Zy8 (x:Run):St 12 x (YX1 x):=by
 unfold YX1 W55;dsimp only
 repeat' split
 all_goals exact Wf8
theorem Zk8 (x:Run):St 12 x (WS8 x):=by
 unfold WS8
 try dsimp only
 repeat' split
 all_goals first | with_reducible exact Zk6 x | with_reducible exact Ys3 x | with_reducible exact Zk7 x | with_reducible exact Zy8 x | exact Wf8
theorem Zk9 (x:Run):St 12 x (WM3 x):=by
 unfold WM3;dsimp only
 repeat' split
 all_goals exact Wf8
theorem Zl0 (x:Run):St 12 x (WM4 x):=by
 unfold WM4;dsimp only
 repeat' split
 all_goals first | with_reducible exact Zk9 x | exact Wf8
theorem YC5 (x:Run):St 12 x (WO7 x):=by
 unfold WO7;dsimp only
 repeat' split
 all_goals exact Wf8
theorem Zl1 (x:Run):St 12 x (WS9 x):=by
 unfold WS9;dsimp only
 repeat' split
 all_goals first | with_reducible exact YC5 x | exact Wf8
theorem Yh1 (x:Run) (a:Nat) (i j:Int):St 5 x (Wr6 x a i j):=by
 unfold Wr6;dsimp only
 repeat' split
 all_goals exact Wf8
theorem Zl2 (x:Run) (a:Nat) (j:Int):St 12 x (WO8 x a j):=by
 unfold WO8;dsimp only
 repeat' split
 all_goals exact Wf8
theorem Zl3 (x:Run):St 12 x (WT0 x):=by
 unfold WT0;dsimp only
 repeat' split
 all_goals first | with_reducible exact St.up (k:=7) (Yh1 _ _ _ _) | with_reducible exact St.up (k:=5) (St.call (Yh1 _ _ _ _)) | with_reducible exact Zl2 _ _ _ | with_reducible exact YC5 x | with_reducible exact Zl1 x | exact Wf8
theorem YL0 (x:Run):St 12 x (Wh5 x):=by
 unfold Wh5
 try dsimp only
 repeat' split
 all_goals first | with_reducible exact Zk5 x | with_reducible exact Zk8 x | with_reducible exact Zl0 x | with_reducible exact Zl3 x | with_reducible exact WH6 x | exact Wf8
theorem WW8 {x y:Run} {N:Nat} (h:St N x y):St (N+2) x (Wo5 y):=by
 unfold Wo5;dsimp only
 repeat' split
 ·exact St.up (k:=2) (St.pop (St.setPl (by simp) (by simp) (by simp) h))
 ·exact St.pc (St.s (St.setPl (by simp) (by simp) (by simp) h))
theorem W77 {x y:Run} {N:Nat} {w:Int} (h:St N x y):St (N+3) x (WG3 y w):=by
 unfold WG3;dsimp only
 have h1:St (N+1) x (y.s 3 w):=St.s h
 repeat' split
 ·exact St.up (k:=1) (St.pc h1)
 ·exact WW8 h1
 ·exact St.up (k:=1) (St.pc h1)
theorem Zl4 (x:Run):St 12 x (WT2 x):=by
 unfold WT2;dsimp only
 repeat' split
 all_goals first | with_reducible exact St.up (k:=7) (W77 (St.load (St.refl _))) | with_reducible exact St.up (k:=7) (W77 (St.cas (St.refl _))) | with_reducible exact St.up (k:=8) (WW8 (St.load (St.refl _))) | exact Wf8
theorem Zl5 (x:Run):St 12 x (WT3 x):=by
 unfold WT3;dsimp only
 repeat' split
 all_goals first | with_reducible exact Zl4 x | with_reducible exact St.up (k:=7) (W77 (St.load (St.refl _))) | exact Wf8
theorem Y37 (x:Run):St 12 x (WB2 x):=by
 unfold WB2
 try dsimp only
 repeat' split
 all_goals first | with_reducible exact Zl5 x | with_reducible exact WH6 x | exact Wf8
theorem Y38 (x:Run):St 12 x (WB3 x):=by
 unfold WB3;dsimp only
 repeat' split
 all_goals exact Wf8
theorem Zl6 (x:Run):St 12 x (WZ4 x):=by
 unfold WZ4;dsimp only
 repeat' split
 all_goals exact Wf8
theorem YL1 (x:Run):St 12 x (Wu4 x):=by
 unfold Wu4;dsimp only
 repeat' split
 all_goals exact Wf8
theorem YL2 (x:Run):St 12 x (Wu5 x):=by
 unfold Wu5;dsimp only
 repeat' split
 all_goals exact Wf8
theorem YL3 (x:Run):St 12 x (Wu6 x):=by
 unfold Wu6;dsimp only
 repeat' split
 all_goals exact Wf8
theorem Y39 (x:Run):St 12 x (WB4 x):=by
 unfold WB4
 try dsimp only
 repeat' split
 all_goals first | with_reducible exact Y38 x | with_reducible exact Zl6 x | with_reducible exact YL1 x | with_reducible exact YL2 x | with_reducible exact YL3 x | exact Wf8
theorem Y40 (x:Run):St 12 x (Wv3 x):=by
 unfold Wv3 Wv2;dsimp only
 repeat' split
 all_goals exact Wf8
theorem Y41 (x:Run):St 12 x (Wv4 x):=by
 unfold Wv4;dsimp only
 repeat' split
 all_goals exact Wf8
theorem Y42 (x:Run):St 12 x (Wv5 x):=by
 unfold Wv5;dsimp only
 repeat' split
 all_goals exact Wf8
theorem YL4 (x:Run):St 12 x (Wo6 x):=by
 unfold Wo6 Wv2;dsimp only
 repeat' split
 all_goals exact Wf8
theorem Y43 (x:Run):St 12 x (WB5 x):=by
 unfold WB5
 try dsimp only
 repeat' split
 all_goals first | with_reducible exact Y40 x | with_reducible exact Y41 x | with_reducible exact Y42 x | with_reducible exact YL4 x | exact Wf8
theorem Yh2 (x:Run):St 12 x (Wi0 x):=by
 unfold Wi0
 try dsimp only
 repeat' split
 all_goals first | with_reducible exact Y37 x | with_reducible exact Y39 x | with_reducible exact Y43 x | exact Wf8
theorem Ys4 {x y:Run} {N:Nat} (h:St N x y):St (N+2) x (Wm9 y):=by
 unfold Wm9;dsimp only
 repeat' split
 ·exact St.up (k:=2) (St.pop (St.setPl (by simp) (by simp) (by simp) h))
 ·exact St.pc (St.s (St.setPl (by simp) (by simp) (by simp) h))
theorem YC6 {x y:Run} {N:Nat} (h:St N x y):St (N+2) x (WF1 y):=by
 unfold WF1
 exact St.pc (St.s h)
theorem Y44 (x:Run):St 12 x (WB6 x):=by
 unfold WB6;dsimp only
 repeat' split
 all_goals repeat' (first | with_reducible apply YC6 | with_reducible (first | apply St.refl | assumption | apply St.load | apply St.store | apply St.cas | apply St.add | apply St.swing | apply St.swingA | apply St.swingM | apply St.drop1 | apply St.guard | apply St.next | apply St.lvl | apply St.dcas | apply St.dcss | apply St.gh | apply St.call | apply St.fin | apply St.s | apply St.pc | apply St.push | apply St.pop))
theorem Zl7 (x:Run):St 12 x (WT4 x):=by
 unfold WT4;dsimp only
 repeat' split
 all_goals repeat' (first | with_reducible exact Y44 x | with_reducible apply YC6 | with_reducible apply Ys4 | with_reducible (first | apply St.refl | assumption | apply St.load | apply St.store | apply St.cas | apply St.add | apply St.swing | apply St.swingA | apply St.swingM | apply St.drop1 | apply St.guard | apply St.next | apply St.lvl | apply St.dcas | apply St.dcss | apply St.gh | apply St.call | apply St.fin | apply St.s | apply St.pc | apply St.push | apply St.pop))
theorem Ys5 (x:Run):St 12 x (Ws8 x):=by
 unfold Ws8
 try dsimp only
 repeat' split
 all_goals first | with_reducible exact Zl7 x | with_reducible exact WH6 x | exact Wf8
theorem Y45 (x:Run):St 12 x (WB7 x):=by
 unfold WB7;dsimp only
 repeat' split
 all_goals exact Wf8
theorem Y46 (x:Run):St 12 x (WB8 x):=by
 unfold WB8;dsimp only
 repeat' split
 all_goals exact Wf8
theorem Y47 (x:Run):St 12 x (WB9 x):=by
 unfold WB9 Wv6;dsimp only
 repeat' split
 all_goals exact Wf8
theorem Y48 (x:Run):St 12 x (WC0 x):=by
 unfold WC0 Wv6;dsimp only
 repeat' split
 all_goals first | with_reducible exact Y47 x | exact Wf8
theorem Y49 (x:Run):St 12 x (WC1 x):=by
 unfold WC1;dsimp only
 repeat' split
 all_goals exact Wf8
theorem Zl8 (x:Run):St 12 x (WZ5 x):=by
 unfold WZ5;dsimp only
 repeat' split
 all_goals exact Wf8
theorem YL5 (x:Run):St 12 x (Wu7 x):=by
 unfold Wu7;dsimp only
 repeat' split
 all_goals exact Wf8
theorem YL6 (x:Run):St 12 x (Wu8 x):=by
 unfold Wu8;dsimp only
 repeat' split
 all_goals exact Wf8
theorem Y50 (x:Run):St 12 x (WC2 x):=by
 unfold WC2;dsimp only
 repeat' split
 all_goals exact Wf8
theorem Y51 (x:Run):St 12 x (WC3 x):=by
 unfold WC3
 try dsimp only
 repeat' split
 all_goals first | with_reducible exact Y49 x | with_reducible exact Zl8 x | with_reducible exact YL5 x | with_reducible exact YL6 x | with_reducible exact Y50 x | exact Wf8
theorem Y52 (x:Run):St 12 x (Ww9 x):=by
 unfold Ww9;dsimp only
 repeat' split
 all_goals exact Wf8
theorem Zy9 (x:Run):St 12 x (YH5 x):=by
 unfold YH5;dsimp only
 repeat' split
 all_goals exact Wf8
theorem Y53 (x:Run):St 12 x (Wx0 x):=by
 unfold Wx0;dsimp only
 repeat' split
 all_goals exact Wf8
theorem Zl9 (x:Run):St 12 x (WM7 x):=by
 unfold WM7;dsimp only
 repeat' split
 all_goals exact Wf8
theorem Y54 (x:Run):St 12 x (Wx1 x):=by
 unfold Wx1
 try dsimp only
 repeat' split
 all_goals first | with_reducible exact Y52 x | with_reducible exact Zy9 x | with_reducible exact Y53 x | with_reducible exact Zl9 x | exact Wf8
theorem Ys6 (x:Run):St 12 x (Wl2 x):=by
 unfold Wl2
 try dsimp only
 repeat' split
 all_goals first | with_reducible exact Ys5 x | with_reducible exact Y51 x | with_reducible exact Y45 x | with_reducible exact Y46 x | with_reducible exact Y48 x | with_reducible exact Y54 x | exact Wf8
end Go.Proofs.YtahpbclnkofhfaaGreat.Mod
end
namespace Go.Proofs.YtahpbclnkofhfaaGreat
section
open Mod
structure Rest (Q:Frm->Prop) (x:Run):Prop where
 a:∀f ∈ x.t.fr.dropLast,Q f
structure AllF (Q:Frm->Prop) (x:Run):Prop where
 a:∀f ∈ x.t.fr,Q f
section
variable {Q:Frm->Prop} {x:Run}
theorem AllF.rest (h:AllF Q x):Rest Q x:=⟨λf hf=>h.a f (List.dropLast_subset _ hf)⟩
theorem AllF.top (h:AllF Q x) (hne:x.t.fr≠[]):Q x.f:=by
 have e:x.f=x.t.fr.getLast hne:=by
  show x.t.fr.getLast?.getD dfF=_
  rw [List.getLast?_eq_some_getLast hne]
  rfl
 rw [e]
 exact h.a _ (List.getLast_mem hne)
theorem Rest.setF {f:Frm} (h:Rest Q x):Rest Q (x.setF f):=by
 constructor
 intro g hg
 have hg:g ∈ (x.t.fr.dropLast ++ [f]).dropLast:=hg
 rw [List.dropLast_append_of_ne_nil (by simp)] at hg
 simp at hg
 exact h.a g hg
theorem Rest.s {i:Nat} {v:Int} (h:Rest Q x):Rest Q (x.s i v):=h.setF
theorem Rest.pc {i:Int} (h:Rest Q x):Rest Q (x.pc i):=h.setF
theorem Rest.m {m:Mac} (h:Rest Q x):Rest Q { x with m:=m }:=⟨h.a⟩
theorem Lo.rest {y:Run} (h:Lo x y) (r:Rest Q x):Rest Q y:=by
 induction h with
 | refl=>exact r
 | s _ ih=>exact ih.s
 | pc _ ih=>exact ih.pc
 | _=>rename_i ih;exact ⟨ih.a⟩
theorem Rest.all {f:Frm} (h:Rest Q x) (hf:Q f):AllF Q (x.setF f):=by
 constructor
 intro g hg
 have hg:g ∈ x.t.fr.dropLast ++ [f]:=hg
 rcases List.mem_append.1 hg with h1 | h1
 ·exact h.a g h1
 ·rw [List.mem_singleton.1 h1];exact hf
theorem Rest.allPc {i:Int} (h:Rest Q x) (hf:Q (x.f.at i)):AllF Q (x.pc i):=h.all hf
theorem Rest.allS {i:Nat} {v:Int} (h:Rest Q x) (hf:Q (x.f.s i v)):AllF Q (x.s i v):=h.all hf
theorem Rest.pop {r:List Int} (h:Rest Q x):AllF Q (x.pop r):=by
 constructor
 intro g hg
 have hg:g ∈ (x.t.pop r).fr:=hg
 unfold Thr.pop at hg
 split at hg
 ·rename_i e;rw [e] at hg;cases hg
 ·exact h.a g hg
theorem AllF.push {i:Int} {r:List Int} (h:AllF Q x) (hf:Q ⟨i,0,pad 10 r⟩):AllF Q (x.push i r):=by
 constructor
 intro g hg
 have hg:g ∈ x.t.fr ++ [⟨i,0,pad 10 r⟩]:=hg
 rcases List.mem_append.1 hg with h1 | h1
 ·exact h.a g h1
 ·rw [List.mem_singleton.1 h1];exact hf
theorem Rest.call {i j:Int} {r:List Int} (h:Rest Q x) (hf:Q (x.f.at i)) (hg:Q ⟨j,0,pad 10 r⟩):AllF Q (x.call i j r):=AllF.push (h.allPc hf) hg
theorem Rest.fin {i j k:Int} (h:Rest Q x) (hf:Q ((((x.f.s 7 i).s 8 j).s 9 k).at 90)) (hg:Q ⟨4,0,pad 10 []⟩):AllF Q (x.fin i j k):=by
 unfold Run.fin
 refine Rest.call (by exact Wd0) ?_ hg
 rw [f_s,f_s,f_s]
 exact hf
theorem AllF.load {a:Int} (h:AllF Q x):AllF Q (x.load a).2:=⟨h.a⟩
theorem AllF.store {a v:Int} (h:AllF Q x):AllF Q (x.store a v):=⟨h.a⟩
theorem AllF.cas {a o n:Int} (h:AllF Q x):AllF Q (x.cas a o n).2:=⟨h.a⟩
theorem AllF.add {a v:Int} (h:AllF Q x):AllF Q (x.add a v).2:=⟨h.a⟩
theorem AllF.swing {a v w:Int} {b:Bool} (h:AllF Q x):AllF Q (x.swing a v w b).2:=⟨h.a⟩
theorem AllF.swingA {a v w:Int} (h:AllF Q x):AllF Q (x.swingA a v w).2:=⟨h.a⟩
theorem AllF.swingM {a v w:Int} {b:Bool} (h:AllF Q x):AllF Q (x.swingM a v w b).2:=⟨h.a⟩
theorem AllF.drop1 {a:Int} (h:AllF Q x):AllF Q (x.drop1 a).2:=⟨h.a⟩
theorem AllF.guard {a v:Int} (h:AllF Q x):AllF Q (x.guard a v):=⟨h.a⟩
theorem AllF.gh {f:Gh->Gh} (h:AllF Q x):AllF Q (x.gh f):=⟨h.a⟩
theorem AllF.fo {l:List Int} (h:AllF Q x):AllF Q (x.fo l):=⟨h.a⟩
theorem AllF.re {l:List Int} (h:AllF Q x):AllF Q (x.re l):=⟨h.a⟩
theorem AllF.setPl {p s w:List Int} (h:AllF Q x):AllF Q (x.setPl p s w):=⟨h.a⟩
theorem AllF.m {m:Mac} (h:AllF Q x):AllF Q { x with m:=m }:=⟨h.a⟩
end
theorem Wh4 (f:Frm) (i:Int):(f.at i).r.length=f.r.length:=rfl
theorem Wj1 (f:Frm) (i:Nat) (v:Int):(f.s i v).r.length=f.r.length:=by unfold Frm.s;simp
def Wx8 (sl th:Int) (f:Frm):Prop:=f.r.length=10/\((f.fn=1\/f.fn=2\/f.fn=3)/\0<=f.pc/\f.pc<=2\/f.fn=4/\0<=f.pc/\f.pc<=sl\/f.fn=5/\f.pc=0\/f.fn=6/\0<=f.pc/\f.pc<=sl*th+1)
section
variable {Q:Frm->Prop} {x:Run} {sl th:Int}
theorem Y55 (hQ:∀f,Wx8 sl th f->Q f) (h:AllF Q x) (o:Wx8 sl th x.f) (e:x.f.fn=1):AllF Q (alloc x):=by
 have r:=h.rest
 obtain ⟨len,o2⟩:=o
 unfold alloc;dsimp only
 repeat' split
 all_goals (refine Wm1 ?_;first | with_reducible assumption | ((with_reducible first | apply Rest.pop | apply Rest.call | apply Rest.allPc | apply Rest.allS | apply Rest.fin);exact Wd0))
 all_goals (refine hQ _ ?_;exact ZB7)
theorem Ys7 (hQ:∀f,Wx8 sl th f->Q f) (h:AllF Q x) (o:Wx8 sl th x.f) (e:x.f.fn=2):AllF Q (Wu1 x):=by
 have r:=h.rest
 obtain ⟨len,o2⟩:=o
 unfold Wu1;dsimp only
 repeat' split
 all_goals (refine Wm1 ?_;first | with_reducible assumption | ((with_reducible first | apply Rest.pop | apply Rest.call | apply Rest.allPc | apply Rest.allS | apply Rest.fin);exact Wd0))
 all_goals (refine hQ _ ?_;exact ZB7)
theorem Ys8 (hQ:∀f,Wx8 sl th f->Q f) (h:AllF Q x) (o:Wx8 sl th x.f) (e:x.f.fn=3):AllF Q (Wu3 x):=by
 have r:=h.rest
 obtain ⟨len,o2⟩:=o
 unfold Wu3;dsimp only
 repeat' split
 all_goals (refine Wm1 ?_;first | with_reducible assumption | ((with_reducible first | apply Rest.pop | apply Rest.call | apply Rest.allPc | apply Rest.allS | apply Rest.fin);exact Wd0))
 all_goals (refine hQ _ ?_;exact ZB7)
theorem Zm0 (hQ:∀f,Wx8 sl th f->Q f) (h:AllF Q x) (hs:sl=x.m.p.slots) (o:Wx8 sl th x.f) (e:x.f.fn=4):AllF Q (YW9 x):=by
 have r:=h.rest
 obtain ⟨len,o2⟩:=o
 unfold YW9;dsimp only
 repeat' split
 all_goals (refine Wm1 ?_;first | with_reducible assumption | ((with_reducible first | apply Rest.pop | apply Rest.call | apply Rest.allPc | apply Rest.allS | apply Rest.fin);exact Wd0))
 all_goals (refine hQ _ ?_;exact ZB7)
theorem Yh3 {fn:Int} {l:List Int} (h:1<=fn/\fn<=6) (hs:0<=sl) (ht:0<=sl*th):Wx8 sl th ⟨fn,0,pad 10 l⟩:=by
 refine ⟨Wy9 _ _,?_⟩
 dsimp only
 omega
theorem YL7 (hQ:∀f,Wx8 sl th f->Q f) (h:AllF Q x) (hs:0<=sl) (ht:0<=sl*th):AllF Q (WB1 x):=by
 have r:=h.rest
 unfold WB1;dsimp only
 split
 ·refine AllF.push ?_ (hQ _ (Yh3 (by omega) hs ht))
  (refine Wm1 ?_;first | with_reducible assumption | ((with_reducible first | apply Rest.pop | apply Rest.call | apply Rest.allPc | apply Rest.allS | apply Rest.fin);exact Wd0))
 ·(refine Wm1 ?_;first | with_reducible assumption | ((with_reducible first | apply Rest.pop | apply Rest.call | apply Rest.allPc | apply Rest.allS | apply Rest.fin);exact Wd0))
theorem Y56 (hQ:∀f,Wx8 sl th f->Q f) (h:AllF Q x) {all:Int} (ha:all=sl*th) (h0:0<=all) (o:Wx8 sl th x.f) (e:x.f.fn=6):AllF Q (WF0 x all):=by
 have r:=h.rest
 obtain ⟨len,o2⟩:=o
 unfold WF0
 split
 ·refine Rest.allPc (by exact Wd0) (hQ _ ?_)
  show Wx8 sl th (x.f.at (x.f.pc+1))
  exact ZB7
 ·exact h
theorem Y57 (hQ:∀f,Wx8 sl th f->Q f) (h:AllF Q x) (hs:0<=sl) (ht:0<=sl*th):AllF Q (W54 x):=by
 have r:=h.rest
 unfold W54
 split
 ·(refine Wm1 ?_;first | with_reducible assumption | ((with_reducible first | apply Rest.pop | apply Rest.call | apply Rest.allPc | apply Rest.allS | apply Rest.fin);exact Wd0))
 ·refine AllF.push ?_ (hQ _ (Yh3 (by omega) hs ht))
  exact h.fo
theorem Zm1 (hQ:∀f,Wx8 sl th f->Q f) (h:AllF Q x) (hs:sl=x.m.p.slots) (ht:th=x.m.p.c.threads) (s0:0<=sl) (t0:0<=sl*th) (o:Wx8 sl th x.f) (e:x.f.fn=6):AllF Q (scan x):=by
 have hy:AllF Q (if x.f.pc=0 then x.fo [] else x)/\(if x.f.pc=0 then x.fo [] else x).f=x.f:=by
  split
  ·exact ⟨h.fo,rfl⟩
  ·exact ⟨h,rfl⟩
 unfold scan
 dsimp only
 generalize (if x.f.pc=0 then x.fo [] else x)=y at *
 obtain ⟨h2,ef⟩:=hy
 have r:=h2.rest
 rw [<- hs,<- ht]
 split
 ·rename_i c
  obtain ⟨len,o2⟩:=o
  refine Rest.allPc (by exact Wd0) (hQ _ ?_)
  show Wx8 sl th (y.f.at (y.f.pc+1))
  rw [ef] at c ⊢
  exact ZB7
 ·rename_i c
  exact Y57 hQ (Y56 hQ h2 rfl t0 (by rw [ef];exact o) (by rw [ef];exact e)) s0 t0
theorem Ys9 (hQ:∀f,Wx8 sl th f->Q f) (h:AllF Q x) (o:Wx8 sl th x.f):AllF Q (Wu2 x):=by
 have r:=h.rest
 unfold Wu2
 split
 ·exact h
 split
 ·exact Y55 hQ h o (by assumption)
 split
 ·exact Ys7 hQ h o (by assumption)
 ·(refine Wm1 ?_;first | with_reducible assumption | ((with_reducible first | apply Rest.pop | apply Rest.call | apply Rest.allPc | apply Rest.allS | apply Rest.fin);exact Wd0))
theorem WD1 (hQ:∀f,Wx8 sl th f->Q f) (h:AllF Q x) (hs:sl=x.m.p.slots) (ht:th=x.m.p.c.threads) (s0:0<=sl) (t0:0<=sl*th) (o:Wx8 sl th x.f):AllF Q (Wl1 x):=by
 unfold Wl1
 split
 ·exact h
 split
 ·exact Ys8 hQ h o (by assumption)
 split
 ·exact Zm0 hQ h hs o (by assumption)
 split
 ·exact YL7 hQ h s0 t0
 split
 ·exact Zm1 hQ h hs ht s0 t0 o (by assumption)
 ·exact Ys9 hQ h o
end
end
section
open Mod
def fA (sl th fn pc:Int):Bool:=
 if fn=4 then decide (pc < sl) else if fn=5 then false else if fn=6 then decide (pc < sl*th)
 else if fn=10 then decide (pc=0) else if fn=14 then decide (pc≠1) else if fn=35 then decide (pc=0) else if fn=36 then decide (pc≠1)
 else decide (pc≠90)
def fW (fn pc:Int):Nat:=
 if fn=5 then 3 else if fn=6 then 2
 else if fn=20 then (if pc=0 then 2 else 1)
 else if fn=21 then (if pc=17 then 6 else if pc=8\/pc=1\/pc=12 then 3 else 2)
 else if fn=22\/fn=23 then (if pc=12 then 6 else if pc=1\/pc=7 then 3 else 2)
 else if fn=10 then (if pc=0 then 2 else 1)
 else if fn=11 then (if pc=6 then 6 else if pc=7\/pc=9 then 5 else if pc=8 then 4 else if pc=1\/pc=5\/pc=10\/pc=11\/pc=13\/pc=14 then 3 else 2)
 else if fn=12\/fn=13 then (if pc=6 then 6 else if pc=1 then 4 else if pc=0 then 3 else 2)
 else if fn=14 then (if pc=5\/pc=6 then 4 else if pc=0\/pc=1\/pc=4 then 3 else 2)
 else if fn=31 then (if pc=16 then 4 else if pc=1\/pc=7\/pc=11\/pc=12 then 3 else 2)
 else if fn=32\/fn=33 then (if pc=5 then 4 else if pc=2\/pc=6\/pc=12\/pc=13 then 3 else 2)
 else if fn=34 then (if pc=2\/pc=4 then 3 else 2)
 else if fn=35 then (if pc=2 then 6 else 2)
 else if fn=36 then (if pc=4 then 3 else 2)
 else 1
def fR (fn:Int):Nat:=if fn<=4 then 0 else if fn<=6 then 1 else if fn=10 then 2 else if fn=14\/fn=35 then 3 else 4
theorem ZI1 (fn:Int):fR fn<=4:=by
 unfold fR;repeat' split
 all_goals omega
theorem Zz0 {c:Prop} [Decidable c] {a b:Nat} (ha:1<=a/\a<=6) (hb:1<=b/\b<=6):1<=(if c then a else b)/\(if c then a else b)<=6:=by
 split
 ·exact ha
 ·exact hb
theorem Yh4 (fn pc:Int):1<=fW fn pc/\fW fn pc<=6:=by
 unfold fW
 repeat' (first | with_reducible apply Zz0 | exact ⟨by decide,by decide⟩)
section
variable (sl th:Int)
def muL:List Frm->Nat
 | []=>0
 | f :: l=>fW f.fn f.pc+if fA sl th f.fn f.pc=true then 0 else muL l
def onR (fn:Int):List Frm->Prop
 | []=>True
 | f :: _=>fA sl th f.fn f.pc=true\/fR fn < fR f.fn
def Zd7:List Frm->Prop
 | []=>True
 | f :: l=>onR sl th f.fn l/\Zd7 l
theorem Zt8:∀ {l:List Frm} {fn:Int},onR sl th fn l->Zd7 sl th l->muL sl th l<=6*(5 - fR fn)
 | [],_,_,_=>Nat.zero_le _
 | f :: l,fn,h1,h2=>by
  unfold muL
  have hw:=(Yh4 f.fn f.pc).2
  have hr:=ZI1 fn
  have hr2:=ZI1 f.fn
  split
  ·omega
  ·rename_i c
   rcases h1 with h1 | h1
   ·exact absurd h1 c
   ·have ih:=Zt8 h2.1 h2.2
    omega
def rst (x:Run):List Frm:=x.t.fr.dropLast.reverse
def mu (x:Run):Nat:=muL sl th x.t.fr.reverse
structure Adj (x:Run):Prop where
 a:Zd7 sl th x.t.fr.reverse
structure AdjR (fn:Int) (l:List Frm) (x:Run):Prop where
 f:x.f.fn=fn
 e:rst x=l
 o:onR sl th fn l
 a:Zd7 sl th l
end
section
variable {sl th:Int} {x y:Run} {fn:Int} {l:List Frm}
theorem WO4 (h:x.t.fr≠[]):x.t.fr.reverse=x.f :: rst x:=by
 conv=>lhs;rw [W61 h]
 simp [rst,Run.f]
theorem Adj.r (h:Adj sl th x) (hne:x.t.fr≠[]):AdjR sl th x.f.fn (rst x) x:=by
 have h:=h.a
 rw [WO4 hne] at h
 exact ⟨rfl,rfl,h.1,h.2⟩
theorem Zm2 (x:Run) (f:Frm):rst (x.setF f)=rst x:=by
 show (x.t.fr.dropLast ++ [f]).dropLast.reverse=_
 rw [List.dropLast_append_of_ne_nil (by simp)]
 simp [rst]
theorem AdjR.setF {f:Frm} (h:AdjR sl th fn l x) (hf:f.fn=fn):AdjR sl th fn l (x.setF f):=⟨by rw [WU2];exact hf,by rw [Zm2];exact h.e,h.o,h.a⟩
theorem AdjR.s {i:Nat} {v:Int} (h:AdjR sl th fn l x):AdjR sl th fn l (x.s i v):=h.setF h.f
theorem AdjR.pc {i:Int} (h:AdjR sl th fn l x):AdjR sl th fn l (x.pc i):=h.setF h.f
theorem AdjR.gh {f:Gh->Gh} (h:AdjR sl th fn l x):AdjR sl th fn l (x.gh f):=⟨h.f,h.e,h.o,h.a⟩
theorem AdjR.fo {k:List Int} (h:AdjR sl th fn l x):AdjR sl th fn l (x.fo k):=⟨h.f,h.e,h.o,h.a⟩
theorem AdjR.re {k:List Int} (h:AdjR sl th fn l x):AdjR sl th fn l (x.re k):=⟨h.f,h.e,h.o,h.a⟩
theorem AdjR.all (h:AdjR sl th fn l x) (hne:x.t.fr≠[]):Adj sl th x:=by
 constructor
 rw [WO4 hne]
 exact ⟨by rw [h.f,h.e];exact h.o,by rw [h.e];exact h.a⟩
theorem Ws1 (x:Run) (f:Frm):(x.setF f).t.fr≠[]:=by
 show x.t.fr.dropLast ++ [f]≠[]
 simp
theorem Lo.adjR (h:Lo x y) (r:AdjR sl th fn l x):AdjR sl th fn l y:=by
 induction h with
 | refl=>exact r
 | s _ ih=>exact ih.s
 | pc _ ih=>exact ih.pc
 | _=>rename_i ih;exact ⟨ih.f,ih.e,ih.o,ih.a⟩
theorem Lo.ne (h:Lo x y) (r:x.t.fr≠[]):y.t.fr≠[]:=by
 induction h with
 | refl=>exact r
 | s _ ih=>exact Ws1 _ _
 | pc _ ih=>exact Ws1 _ _
 | _=>rename_i ih;exact ih
theorem AdjR.allPc {i:Int} (h:AdjR sl th fn l x):Adj sl th (x.pc i):=h.pc.all (Ws1 _ _)
theorem AdjR.allS {i:Nat} {v:Int} (h:AdjR sl th fn l x):Adj sl th (x.s i v):=h.s.all (Ws1 _ _)
theorem AdjR.pop {r:List Int} (h:AdjR sl th fn l x):Adj sl th (x.pop r):=by
 constructor
 show Zd7 sl th (x.t.pop r).fr.reverse
 unfold Thr.pop
 split
 ·rename_i e;rw [e];trivial
 ·show Zd7 sl th (rst x)
  rw [h.e];exact h.a
theorem Adj.push {i:Int} {r:List Int} (h:Adj sl th x) (ho:onR sl th i x.t.fr.reverse):Adj sl th (x.push i r):=by
 constructor
 show Zd7 sl th (x.t.fr ++ [(⟨i,0,pad 10 r⟩ : Frm)]).reverse
 rw [List.reverse_append]
 show Zd7 sl th (⟨i,0,pad 10 r⟩ :: x.t.fr.reverse)
 exact ⟨ho,h.a⟩
theorem AdjR.call {i j:Int} {r:List Int} (h:AdjR sl th fn l x) (hd:fA sl th fn i=true\/fR j < fR fn):Adj sl th (x.call i j r):=by
 refine Adj.push h.allPc ?_
 rw [show (x.pc i).t.fr.reverse=(x.pc i).f :: rst (x.pc i) from WO4 (Ws1 _ _)]
 show fA sl th (x.pc i).f.fn (x.pc i).f.pc=true\/_ < fR (x.pc i).f.fn
 rw [WF2,Wt0,Wz0,h.f]
 exact hd
theorem AdjR.fin {i j k:Int} (h:AdjR sl th fn l x) (hd:fR 4 < fR fn):Adj sl th (x.fin i j k):=by
 unfold Run.fin
 exact (h.s.s.s).call (.inr hd)
structure Act (x:Run):Prop where
 a:x.m.acted=true
theorem Wq8 (m:Mac) (a:Int):(m.touch a).acted=true:=by unfold Mac.touch;split <;> rfl
theorem Act.load {a:Int}:Act (x.load a).2:=by
 constructor
 show (x.m.load a).2.acted=true
 unfold Mac.load;dsimp only
 split <;> exact Wq8 _ _
theorem Act.store {a v:Int}:Act (x.store a v):=by
 constructor
 show (x.m.store a v).acted=true
 unfold Mac.store;dsimp only
 split <;> exact Wq8 _ _
theorem Act.cas {a o v:Int}:Act (x.cas a o v).2:=by
 constructor
 show (x.m.cas a o v).2.acted=true
 unfold Mac.cas;dsimp only
 split <;> exact Wq8 _ _
theorem Act.add {a v:Int}:Act (x.add a v).2:=by
 constructor
 show (x.m.add a v).2.acted=true
 unfold Mac.add;dsimp only
 split <;> exact Wq8 _ _
theorem Act.swing {a v w:Int} {b:Bool}:Act (x.swing a v w b).2:=Act.cas
theorem Act.swingA {a v w:Int}:Act (x.swingA a v w).2:=Act.cas
theorem Act.swingM {a v w:Int} {b:Bool}:Act (x.swingM a v w b).2:=Act.cas
theorem Act.drop1 {a:Int}:Act (x.drop1 a).2:=Act.add
theorem Act.guard {a b:Int}:Act (x.guard a b):=Act.store
theorem Act.dcas {a o n b p q:Int}:Act { x with m:=(x.m.dcas a o n b p q).2 }:=by
 constructor
 show (x.m.dcas a o n b p q).2.acted=true
 unfold Mac.dcas;dsimp only
 split <;> exact Wq8 _ _
theorem Act.dcss {a o n b p:Int}:Act { x with m:=(x.m.dcss a o n b p).2 }:=by
 constructor
 show (x.m.dcss a o n b p).2.acted=true
 unfold Mac.dcss;dsimp only
 split <;> exact Wq8 _ _
theorem Act.next {n:Int} (h:Act x):Act { x with m:=(x.m.next n).2 }:=by
 constructor
 show (x.m.next n).2.acted=true
 unfold Mac.next
 split <;> exact h.a
theorem Act.lvl {n:Int} (h:Act x):Act { x with m:=(x.m.lvl n).2 }:=by
 constructor
 show (x.m.lvl n).2.acted=true
 unfold Mac.lvl
 split <;> exact h.a
theorem Tch.act (h:Tch x):Act x:=by
 induction h with
 | load=>exact Act.load
 | store=>exact Act.store
 | cas=>exact Act.cas
 | add=>exact Act.add
 | swing=>exact Act.swing
 | swingA=>exact Act.swingA
 | swingM=>exact Act.swingM
 | drop1=>exact Act.drop1
 | guard=>exact Act.guard
 | dcas=>exact Act.dcas
 | dcss=>exact Act.dcss
 | next _ ih=>exact ih.next
 | lvl _ ih=>exact ih.lvl
 | _=>rename_i ih;exact ⟨ih.a⟩
theorem Zt9 (h:x.t.fr≠[]):mu sl th x=fW x.f.fn x.f.pc+if fA sl th x.f.fn x.f.pc=true then 0 else muL sl th (rst x):=by
 unfold mu
 rw [WO4 h]
 rfl
theorem W78 (x:Run) (i:Int) (r:List Int):mu sl th (x.push i r)=fW i 0+if fA sl th i 0=true then 0 else mu sl th x:=by
 unfold mu
 show muL sl th (x.t.fr ++ [(⟨i,0,pad 10 r⟩ : Frm)]).reverse=_
 rw [List.reverse_append]
 rfl
theorem Y58 (r:List Int) (h:x.t.fr≠[]):mu sl th (x.pop r)=muL sl th (rst x):=by
 unfold mu
 show muL sl th (x.t.pop r).fr.reverse=_
 unfold Thr.pop
 rw [if_neg h]
 rfl
section
variable {x0:Run} {pc0:Int}
theorem AdjR.mu (h0:AdjR sl th fn l x0) (hne:x0.t.fr≠[]) (hp:x0.f.pc=pc0):mu sl th x0=fW fn pc0+if fA sl th fn pc0=true then 0 else muL sl th l:=by
 rw [Zt9 hne,h0.f,h0.e,hp]
theorem AdjR.muPc (h:AdjR sl th fn l y) (i:Int):Proofs.YtahpbclnkofhfaaGreat.mu sl th (y.pc i)=fW fn i+if fA sl th fn i=true then 0 else muL sl th l:=
 h.pc.mu (Ws1 _ _) (by rw [WF2];rfl)
theorem AdjR.ltPc {i:Int} (h0:AdjR sl th fn l x0) (hne:x0.t.fr≠[]) (hp:x0.f.pc=pc0) (h:AdjR sl th fn l y)
  (hlt:(fW fn i+if fA sl th fn i=true then 0 else muL sl th l) < fW fn pc0+if fA sl th fn pc0=true then 0 else muL sl th l):Proofs.YtahpbclnkofhfaaGreat.mu sl th (y.pc i) < Proofs.YtahpbclnkofhfaaGreat.mu sl th x0:=by
 rw [h0.mu hne hp,h.muPc]
 exact hlt
theorem AdjR.ltCall {i j:Int} {r:List Int} (h0:AdjR sl th fn l x0) (hne:x0.t.fr≠[]) (hp:x0.f.pc=pc0) (h:AdjR sl th fn l y)
  (hlt:(fW j 0+if fA sl th j 0=true then 0 else fW fn i+if fA sl th fn i=true then 0 else muL sl th l) < fW fn pc0+if fA sl th fn pc0=true then 0 else muL sl th l):Proofs.YtahpbclnkofhfaaGreat.mu sl th (y.call i j r) < Proofs.YtahpbclnkofhfaaGreat.mu sl th x0:=by
 show Proofs.YtahpbclnkofhfaaGreat.mu sl th ((y.pc i).push j r) < _
 rw [h0.mu hne hp,W78,h.muPc]
 exact hlt
theorem AdjR.ltFin {i j k:Int} (h0:AdjR sl th fn l x0) (hne:x0.t.fr≠[]) (hp:x0.f.pc=pc0) (h:AdjR sl th fn l y)
  (hlt:(fW 4 0+if fA sl th 4 0=true then 0 else fW fn 90+if fA sl th fn 90=true then 0 else muL sl th l) < fW fn pc0+if fA sl th fn pc0=true then 0 else muL sl th l):Proofs.YtahpbclnkofhfaaGreat.mu sl th (y.fin i j k) < Proofs.YtahpbclnkofhfaaGreat.mu sl th x0:=
 h0.ltCall hne hp (h.s.s.s) hlt
theorem AdjR.ltPop {r:List Int} (h0:AdjR sl th fn l x0) (hne:x0.t.fr≠[]) (hp:x0.f.pc=pc0) (h:AdjR sl th fn l y) (hny:y.t.fr≠[])
  (hlt:muL sl th l < fW fn pc0+if fA sl th fn pc0=true then 0 else muL sl th l):Proofs.YtahpbclnkofhfaaGreat.mu sl th (y.pop r) < Proofs.YtahpbclnkofhfaaGreat.mu sl th x0:=by
 rw [h0.mu hne hp,Y58 r hny,h.e]
 exact hlt
end
def Nx (sl th:Int) (x y:Run):Prop:=Adj sl th y/\(Act y\/mu sl th y < mu sl th x)
end
end
section
open Mod
structure RunOk (Q:Mod.Cf->Frm->Prop) (c:Mod.Cf) (x:Run) (B:Nat):Prop where
 p:x.m.p=Wb9 c
 q:AllF (Q c) x
 a:Adj (Wb9 c).slots c.threads x
 pr:(x.t.pred.length:Int)=c.level
 su:(x.t.succ.length:Int)=c.level
 wo:(x.t.word.length:Int)=c.level
 P:x.P<=B
structure YL8 (d:Run->Run) (Q:Mod.Cf->Frm->Prop) (W:Run->Prop) (ins:Int):Prop where
 st:∀x,St 12 x (d x)
 all:∀c x,okC c=true->x.m.p=Wb9 c->x.t.fr≠[]->AllF (Q c) x->AllF (Q c) (d x)
 nx:∀c x,okC c=true->x.m.p=Wb9 c->x.t.fr≠[]->AllF (Q c) x->Adj (Wb9 c).slots c.threads x->Nx (Wb9 c).slots c.threads x (d x)
 w:∀c x B,okC c=true->RunOk Q c x B->B < 200000000->x.t.fr≠[]->0<=x.id/\x.id<=6->W x
 new:∀c op l,okC c=true->0<=op/\op<=2->Q c ⟨ins+op,0,pad 10 l⟩
section
variable {d:Run->Run} {Q:Mod.Cf->Frm->Prop} {W:Run->Prop} {ins:Int} {c:Mod.Cf}
theorem RunOk.mono {x:Run} {B C:Nat} (h:RunOk Q c x B) (hb:B<=C):RunOk Q c x C:=⟨h.p,h.q,h.a,h.pr,h.su,h.wo,Nat.le_trans h.P hb⟩
theorem RunOk.bit (D:YL8 d Q W ins) (hc:okC c=true) {x:Run} {B:Nat} (h:RunOk Q c x B) (hne:x.t.fr≠[]):RunOk Q c (d x) (B+24)/\Nx (Wb9 c).slots c.threads x (d x):=by
 have s:=D.st x
 have f:=s.fix
 have n:=D.nx c x hc h.p hne h.q h.a
 have hP:=s.P
 have:=h.P
 exact ⟨⟨f.p.trans h.p,D.all c x hc h.p hne h.q,n.1,by rw [f.pr];exact h.pr,by rw [f.su];exact h.su,by rw [f.wo];exact h.wo,by omega⟩,n⟩
theorem ZO7 {sl th:Int} {x:Run} (h:Adj sl th x):mu sl th x<=36:=by
 by_cases hne:x.t.fr = []
 ·unfold mu
  rw [hne]
  exact Nat.zero_le _
 ·rw [Zt9 hne]
  have r:=h.r hne
  have h1:=Zt8 sl th r.o r.a
  have h2:=(Yh4 x.f.fn x.f.pc).2
  split <;> omega
theorem YC7 (D:YL8 d Q W ins) (hc:okC c=true):∀(n:Nat) (x:Run) (B:Nat),mu (Wb9 c).slots c.threads x<=n->RunOk Q c x B->B+24*(n+1) < 200000000->0<=x.id/\x.id<=6 ->
  ∃k z,Mod.bits d k x=some z/\ZB8 d W k x/\Fix x z/\RunOk Q c z (B+24*(n+1))
 | n,x,B,hm,h,hB,hid=>by
  by_cases c0:done x=true
  ·refine ⟨0,x,?_,trivial,⟨rfl,rfl,rfl,rfl,rfl,rfl,rfl,rfl⟩,h.mono (by omega)⟩
   unfold Mod.bits
   unfold done at c0
   rw [if_pos c0]
  ·have hne:x.t.fr≠[]:=by
    intro e
    unfold done at c0
    rw [e] at c0
    simp at c0
   have hb:∀k,Mod.bits d (k+1) x=Mod.bits d k (d x):=by
    intro k
    unfold done at c0
    conv=>lhs;unfold Mod.bits
    rw [if_neg c0]
   obtain ⟨h1,n1⟩:=h.bit D hc hne
   have hw:=D.w c x B hc h (by omega) hne hid
   have f:=(D.st x).fix
   rcases n1.2 with a | lt
   ·refine ⟨1,d x,?_,.inr ⟨hw,trivial⟩,f,h1.mono (by omega)⟩
    rw [hb]
    unfold Mod.bits
    rw [a.a]
    rfl
   ·cases n with
    | zero=>omega
    | succ n=>
     obtain ⟨k,z,e1,e2,e3,e4⟩:=YC7 D hc n (d x) (B+24) (by omega) h1 (by omega) (by rw [f.id];exact hid)
     refine ⟨k+1,z,by rw [hb];exact e1,.inr ⟨hw,e2⟩,⟨e3.p.trans f.p,e3.id.trans f.id,e3.th.trans f.th,e3.b.trans f.b,e3.w.trans f.w,e3.pr.trans f.pr,e3.su.trans f.su,e3.wo.trans f.wo⟩,e4.mono (by omega)⟩
structure ZO8 (Q:Mod.Cf->Frm->Prop) (c:Mod.Cf) (t:Thr):Prop where
 q:∀f ∈ t.fr,Q c f
 a:Zd7 (Wb9 c).slots c.threads t.fr.reverse
 pr:(t.pred.length:Int)=c.level
 su:(t.succ.length:Int)=c.level
 wo:(t.word.length:Int)=c.level
def Mod.Thr.L (t:Thr):Nat:=t.retired.length+t.found.length+max t.fr.length 1
def YC8 (l:List Thr):Nat:=(l.map Mod.Thr.L).sum
theorem W79:∀ {l:List Thr} {k:Nat} {t t':Thr},l[k]? = some t->YC8 (l.set k t')+t.L=YC8 l+t'.L
 | [],_,_,_,h=>by simp at h
 | a :: l,0,t,t',h=>by
  simp only [List.getElem?_cons_zero,Option.some.injEq] at h
  subst h
  simp only [List.set_cons_zero,YC8,List.map_cons,List.sum_cons]
  omega
 | a :: l,k+1,t,t',h=>by
  simp only [List.getElem?_cons_succ] at h
  have ih:=W79 (t':=t') h
  simp only [List.set_cons_succ,YC8,List.map_cons,List.sum_cons] at *
  omega
def Mod.Mac.T (m:Mac):Nat:=m.mm.st.toNat+m.used.toNat+YC8 m.th
structure MacOk (Q:Mod.Cf->Frm->Prop) (c:Mod.Cf) (i:Nat) (m:Mac):Prop where
 ok:okC c=true
 p:m.p=Wb9 c
 w:(m.mm.w.length:Int)=(Wb9 c).size
 n:m.th.length<=6
 t:∀t ∈ m.th,ZO8 Q c t
 T:m.T<=1000*i+2000
theorem MacOk.good (D:YL8 d Q W ins):Zj7 d W ins (MacOk Q c) where
 mono i m h:=⟨h.ok,h.p,h.w,h.n,h.t,Nat.le_trans h.T (by omega)⟩
 wd i m h:=by
  have B:=Wt1 h.ok
  have e:(m.mm.w.length:Int)=m.p.size:=by rw [h.p];exact h.w
  refine ⟨⟨by rw [h.p];rfl,e⟩,?_⟩
  have h1:=B.li
  have h2:=B.nd
  have h3:=B.tr
  have h4:=B.si
  rw [h.p] at e
  omega
 push i m k t cl h ht he ho hk hv:=by
  have hm:=List.mem_of_getElem? ht
  have o:=h.t t hm
  refine ⟨h.ok,h.p,h.w,?_,?_,?_⟩
  ·show (m.th.set k _).length<=6
   rw [List.length_set];exact h.n
  ·intro u hu
   rcases List.mem_or_eq_of_mem_set hu with hu | rfl
   ·exact h.t u hu
   ·refine ⟨?_,?_,o.pr,o.su,o.wo⟩
    ·intro f hf
     have hf:f ∈ t.fr ++ [⟨ins+cl.op,0,pad 10 [cl.key,cl.val]⟩]:=hf
     rw [he] at hf
     rw [List.mem_singleton.1 hf]
     exact D.new c cl.op _ h.ok ho
    ·show Zd7 _ _ (t.fr ++ [(⟨ins+cl.op,0,pad 10 [cl.key,cl.val]⟩ : Frm)]).reverse
     rw [he]
     exact ⟨trivial,trivial⟩
  ·have e:=W79 (t':=t.push (ins+cl.op) [cl.key,cl.val]) ht
   have e2:(t.push (ins+cl.op) [cl.key,cl.val]).L=t.L:=by
    show t.retired.length+t.found.length+max (t.fr ++ [_]).length 1=t.retired.length+t.found.length+max t.fr.length 1
    rw [he]
    rfl
   have h2:m.mm.st.toNat+m.used.toNat+YC8 m.th<=1000*i+2000:=h.T
   show m.mm.st.toNat+m.used.toNat+YC8 (m.th.set k (t.push (ins+cl.op) [cl.key,cl.val]))<=_
   omega
 step i m k t h hi ht hne:=by
  have hm:=List.mem_of_getElem? ht
  have o:=h.t t hm
  have hk:=(List.getElem?_eq_some_iff.1 ht).1
  have hn:=h.n
  have hL:1<=t.fr.length:=List.length_pos_iff.2 hne
  have hT:m.mm.st.toNat+m.used.toNat+YC8 m.th<=1000*i+2000:=h.T
  have e0:=λt'=>W79 (t':=t') ht
  have e1:=e0 t
  have eT:t.L=t.retired.length+t.found.length+t.fr.length:=by
   unfold Mod.Thr.L
   rw [Nat.max_eq_left hL]
  have hs:YC8 (m.th.set k ⟨[],[],[],[],[],[],[]⟩)+t.L=YC8 m.th+1:=e0 _
  have hR:RunOk Q c ⟨m.quiet,t,k⟩ (m.mm.st.toNat+m.used.toNat+t.L):=by
   refine ⟨h.p,⟨o.q⟩,⟨o.a⟩,o.pr,o.su,o.wo,?_⟩
   show m.mm.st.toNat+m.used.toNat+t.retired.length+t.found.length+t.fr.length<=_
   omega
  obtain ⟨n,z,hb,hsf,f,hz⟩:=YC7 D h.ok 36 _ _ (ZO7 hR.a) hR (by omega) ⟨by show (0:Int)<=(k:Int);omega,by show (k:Int)<=6;omega⟩
  refine ⟨n,z,hb,hsf,f.id,f.th,h.ok,?_,?_,?_,?_,?_⟩
  ·exact f.p.trans h.p
  ·show (z.m.mm.w.length:Int)=_
   rw [f.w]
   exact h.w
  ·show (m.th.set k z.t).length<=6
   rw [List.length_set];exact hn
  ·intro u hu
   rcases List.mem_or_eq_of_mem_set hu with hu | rfl
   ·exact h.t u hu
   ·exact ⟨hz.q.a,hz.a.a,hz.pr,hz.su,hz.wo⟩
  ·have e2:=e0 z.t
   have hP:z.m.mm.st.toNat+z.m.used.toNat+z.t.retired.length+z.t.found.length+z.t.fr.length<=_:=hz.P
   have hz2:z.t.L<=z.t.retired.length+z.t.found.length+z.t.fr.length+1:=by
    unfold Mod.Thr.L
    have:max z.t.fr.length 1<=z.t.fr.length+1:=Nat.max_le.2 ⟨by omega,by omega⟩
    omega
   show z.m.mm.st.toNat+z.m.used.toNat+YC8 (m.th.set k z.t)<=_
   omega
theorem WD2 (m:Mm) (a v:Int):(m.store a v).w.length=m.w.length/\(m.store a v).st.toNat<=m.st.toNat+1:=by
 unfold Mm.store
 split
 ·exact ⟨by simp [Mm.tick,Mm.put],by show (m.st+1).toNat<=_;omega⟩
 ·exact ⟨rfl,by omega⟩
theorem WN2 (f:Nat->Int × Int):∀(l:List Nat) (m:Mm),(l.foldl (λ(m:Mm) (i:Nat)=>m.store (f i).1 (f i).2) m).w.length=m.w.length/\(l.foldl (λ(m:Mm) (i:Nat)=>m.store (f i).1 (f i).2) m).st.toNat<=m.st.toNat+l.length
 | [],m=>⟨rfl,by simp⟩
 | i :: l,m=>by
  have h1:=WD2 m (f i).1 (f i).2
  have h2:=WN2 f l (m.store (f i).1 (f i).2)
  simp only [List.foldl_cons,List.length_cons]
  exact ⟨h2.1.trans h1.1,by omega⟩
theorem Zz1 {c:Mod.Cf} (h:okC c=true):((lay (Wb9 c)).w.length:Int)=(Wb9 c).size/\(lay (Wb9 c)).st.toNat<=200:=by
 have B:=Wt1 h
 have b1:=B.no
 have b2:=B.lv
 have b3:=B.se
 have b4:=B.si
 have b5:=B.tr
 have b6:=B.nd
 have b7:=B.li
 unfold lay
 dsimp only
 generalize hm0:(⟨List.replicate (Wb9 c).size.toNat 0,0,false,[]⟩ : Mm)=m0
 have h0:(m0.w.length:Int)=(Wb9 c).size/\m0.st.toNat=0:=by
  subst hm0
  exact ⟨by simp;omega,rfl⟩
 have h1:=WD2 m0 0 (Wp3 ((Wb9 c).sent+1) false 0)
 generalize m0.store 0 (Wp3 ((Wb9 c).sent+1) false 0)=m1 at *
 have h2:=WN2 (λi=>((Wb9 c).link ((Wb9 c).sent+1+i),(Wb9 c).sent+1+i+1)) (List.range ((Wb9 c).c.nodes - ((Wb9 c).sent+1)).toNat) m1
 rw [List.length_range] at h2
 generalize hm2:(List.range ((Wb9 c).c.nodes - ((Wb9 c).sent+1)).toNat).foldl (λ(m:Mm) (i:Nat)=>m.store ((Wb9 c).link ((Wb9 c).sent+1+i)) ((Wb9 c).sent+1+i+1)) m1=m2
 have h2:m2.w.length=m1.w.length/\m2.st.toNat<=m1.st.toNat+((Wb9 c).c.nodes - ((Wb9 c).sent+1)).toNat:=by subst hm2;exact h2
 have h3:=WD2 m2 2 1
 generalize m2.store 2 1=m3 at *
 split
 ·exact ⟨by omega,by omega⟩
 ·have h4:=WD2 m3 ((Wb9 c).node 1 3) (Wb9 c).c.level
  generalize m3.store ((Wb9 c).node 1 3) (Wb9 c).c.level=m4 at *
  have h5:=WD2 m4 ((Wb9 c).node 2 0) 18446744073709551615
  generalize m4.store ((Wb9 c).node 2 0) 18446744073709551615=m5 at *
  have h6:=WN2 (λi=>((Wb9 c).node 1 (5+i),Wp3 2 false 0)) (List.range (Wb9 c).c.level.toNat) m5
  rw [List.length_range] at h6
  dsimp only at h6
  exact ⟨by omega,by omega⟩
theorem YC9 (c:Mod.Cf):∀n:Nat,YC8 (List.replicate n (WE2 c))=n
 | 0=>rfl
 | n+1=>by
  have ih:=YC9 c n
  simp only [List.replicate_succ,YC8,List.map_cons,List.sum_cons] at *
  have:(WE2 c).L=1:=rfl
  omega
theorem MacOk.new (hc:okC c=true) (b:List Int) (g:Bool):MacOk Q c 0 (Wi7 c b g):=by
 have hl:=Zz1 hc
 have B:=Wt1 hc
 have b1:1<=c.threads/\c.threads<=6:=B.th
 have b2:1<=c.level/\c.level<=6:=B.lv
 refine ⟨hc,rfl,hl.1,?_,?_,?_⟩
 ·show (List.replicate c.threads.toNat (WE2 c)).length<=6
  rw [List.length_replicate];omega
 ·intro t ht
  have ht:t ∈ List.replicate c.threads.toNat (WE2 c):=ht
  rw [(List.mem_replicate.1 ht).2]
  refine ⟨λf hf=>(by cases hf),trivial,?_,?_,?_⟩ <;> (show ((List.replicate c.level.toNat (0:Int)).length:Int)=c.level;rw [List.length_replicate];omega)
 ·show (lay (Wb9 c)).st.toNat+(0:Int).toNat+YC8 (List.replicate c.threads.toNat (WE2 c))<=_
  rw [YC9]
  have:(0:Int).toNat=0:=rfl
  omega
end
end
section
open Mod
theorem Sat.drop3q {h:Wa2} {A B C R:Hp} (H:Sat h (A*(B*(C*R)))):Sat h (A*(B*R)):=by
 rw [Yz9] at H
 exact H.drop
section
variable {K:kQ} {h:Wa2} {Q M f:Nat} {ins:Int} {Ts:List Nat} {m:Mac} {R:Hp} {d:Run->Run} {W:Run->Prop} {Inv:Nat->Mac->Prop}
def Y59 (a:Int):Nat:=if a=0 then 63 else if a=1 then 64 else 65
def WD3 (a:Int):Int:=if a=0 then 11 else if a=1 then 21 else 31
theorem YL9 {c:Mod.Cf} {a:Option Addr} {cc:Nat} {bs:List Int} {gh:Bool} (H:Sat h R) (hs:∀h' P,Sat h' (P*R)->Sees h' a (bs.map λn=>.int .u8 n)) (hl:bs.length<=65536) (hr:∀n ∈ bs,0<=n/\n < 256)
  (k0:okC c=false->∀h',Sat h' R->K (.tuple #[.pointer none,iQ 6]) h') (k1:okC c=true->∀h' Q M Ts,Sat h' (suS Q M (Y59 c.algo) (WD3 c.algo) Ts (Wi7 c bs gh)*R)->K (.tuple #[mP Q,iQ 0]) h') :
  Wa5 Tryz.prog 30 #[cfV c,.slice a bs.length cc,.bool gh] h K:=by
 refine call30 ?_
 unfold F30 g30 cf lI dl7
 have H1:=H.push (.cells (cfc c).toArray 23)
 rw [show h.push (.cells #[iQ c.algo,iQ c.threads,iQ c.nodes,iQ c.level,iQ c.batch,iQ c.probes,iQ c.scan] 23)=h.push (.cells (cfc c).toArray 23) from rfl]
 generalize h.push (.cells (cfc c).toArray 23)=h1 at *
 generalize h.size=CB at *
 have O:=H1.at
 refine ldR O rfl (ldR O rfl (ldR O rfl (ldR O rfl (ldR O rfl (ldR O rfl (ldR O rfl ?_))))))
 refine Wa0 (Yf1 (c:=c) H1 (λh' P HP=>hs h' emp (by rw [Wl0];exact HP.drop.drop)) hl hr (λhc h2 H2=>?_) λhc h2 M Ts H2=>?_)
 ·refine sb ?_
  refine WC7 ?_
  refine sb ?_
  refine WC8 ?_
  refine sb ?_
  refine Wb6 (λ_=>?_) (λhh=>by simp at hh)
  exact k0 hc h2 H2.drop
 ·refine sb ?_
  refine WC7 ?_
  refine sb ?_
  refine WC8 ?_
  refine sb ?_
  refine Wb6 (λhh=>by simp at hh) (λ_=>?_)
  generalize Wi7 c bs gh=m at *
  have H3:=H2.push (.cells #[mP M,.nilFunc,iQ 0] 115)
  generalize h2.push (.cells #[mP M,.nilFunc,iQ 0] 115)=h3 at *
  generalize h2.size=QB at *
  refine ⟨λ_ h'=>Sat h' (suS QB M (Y59 c.algo) (WD3 c.algo) Ts m*R),?_,?_⟩
  ·have OC:=(H3.drop.drop).at
   refine ldR OC rfl ?_
   refine sb ?_
   refine Wb6 (λe=>?_) (λe=>?_)
   ·have e:c.algo=0:=by simpa using e
    refine H3.st (i:=1) rfl trivial λh4 H4=>?_
    refine H4.st (i:=2) rfl trivial λh5 H5=>?_
    unfold Y59 WD3
    rw [if_pos e,if_pos e]
    exact WD0.2 (H5.drop3q)
   ·have e:¬ c.algo=0:=by simpa using e
    refine Wb6 (λe1=>?_) (λe1=>?_)
    ·have e1:c.algo=1:=by simpa using e1
     refine H3.st (i:=1) rfl trivial λh4 H4=>?_
     refine H4.st (i:=2) rfl trivial λh5 H5=>?_
     unfold Y59 WD3
     rw [if_neg e,if_neg e,if_pos e1,if_pos e1]
     exact WD0.2 (H5.drop3q)
    ·have e1:¬ c.algo=1:=by simpa using e1
     refine H3.st (i:=1) rfl trivial λh4 H4=>?_
     refine H4.st (i:=2) rfl trivial λh5 H5=>?_
     unfold Y59 WD3
     rw [if_neg e,if_neg e,if_neg e1,if_neg e1]
     exact WD0.2 (H5.drop3q)
  ·rintro v24 v25 g26 h27 H4
   exact k1 hc h27 QB M Ts H4
end
end
section
set_option maxRecDepth 100000
abbrev g14 (K:kQ) (h H1:Wa2):Prop:=
 (YS2 H1 h.size λa b c d e f g i j k=>cf 29 #[.agg #[a,b,c,d,e,f,g,i,j,k]] H1 λa b=>asBool a λa=>ifB (!a) (K (.tuple #[.slice none 0 0,iQ 1]) b) (da7 b (aQ h.size) λa c d e f g i=>lS b ⟨h.size,9,none⟩ λj k l=>cf 30 #[.agg #[a,c,d,e,f,g,i],.slice j k l,.bool false] b λa b=>Wh0 a λc=>Wc2 c 0 λc=>Wb2 c λc=>Wh0 a λa=>Wc2 a 1 λa=>asInt .i64 a λa=>ifB (a != 0) (K (.tuple #[.slice none 0 0,iQ a]) b) (YS2 b h.size λa d e f g i j k l m=>lI .i64 b (Addr.add (aQ h.size) 1) λn=>Wr4 Tryz.prog 3 n n b λb n=>Wb3 b λb o p=>ce n h.size 0 a (ce n h.size 1 d (ce n h.size 2 e (ce n h.size 3 f (ce n h.size 4 g (ce n h.size 5 i (ce n h.size 6 j (ce n h.size 7 k (ce n h.size 8 l (ce n h.size 9 m (cf 31 #[.pointer c] (Array.push n (.cells #[.pointer c,a,d,e,f,g,i,j,k,l,m,.slice b o p,.slice none 0 0] 89)) λa b=>Wb2 a λa=>cf 32 #[.pointer a] b λa b=>Wb2 a λa=>cf 38 #[.pointer a,.bool true] b λa a=>lS a ⟨h.size,8,none⟩ λb c d=>exI λI61=>exM λm62=>(I61 [.tuple #[],iQ 0] a)/\(∀(a d:Value) (e:Env) (e:Wa2),(I61 [a,d] e)->(asInt .i64 d λf=>ifB (decide (f < (c:Int))) (asI d λf=>bd f (c:Int) (Wd2 (.pointer b) λb=>lI .i64 e (Addr.add b (f.toNat*1)) λb=>cf 39 #[.pointer (some (aQ n.size)),iQ b] e λc c=>Wb8 (.pointer (some (aQ n.size))) (lS c ⟨n.size,12,none⟩ λf f g=>cf 40 #[.pointer (some (aQ n.size)),iQ b,iQ (f:Int)] c λc c=>asInt .i64 d λf=>(I61 [iQ b,iQ (IntKind.wrap .i64 (f+1))] c)/\((m62 [iQ b,iQ (IntKind.wrap .i64 (f+1))] c) < (m62 [a,d] e))))) (Wb8 (.pointer (some (aQ n.size))) (lS e ⟨n.size,12,none⟩ λa b c=>K (.tuple #[.slice a b c,iQ 0]) e)))))))))))))))))
def F14 (K:kQ) (h:Wa2) (xa xb xc xd xe xf xg:Int) (xh:Option Addr) (xi xj:Nat) (xk:Option Addr) (xl xm:Nat) (xn:Option Addr) (xo xp:Nat):Prop:=
 (g14 K h (Array.push h (.cells #[iQ xa,iQ xb,iQ xc,iQ xd,iQ xe,iQ xf,iQ xg,.slice xh xi xj,.slice xk xl xm,.slice xn xo xp] 28)))
theorem call14 {K:kQ} {h:Wa2} {xa xb xc xd xe xf xg:Int} {xh:Option Addr} {xi xj:Nat} {xk:Option Addr} {xl xm:Nat} {xn:Option Addr} {xo xp:Nat} (H:F14 K h xa xb xc xd xe xf xg xh xi xj xk xl xm xn xo xp):Wa5 Tryz.prog 14 #[(.agg #[(iQ xa),(iQ xb),(iQ xc),(iQ xd),(iQ xe),(iQ xf),(iQ xg),(.slice xh xi xj),(.slice xk xl xm),(.slice xn xo xp)])] h K:=
 cQ Tryz.func14 H
abbrev g37 (K:kQ) (h H1:Wa2):Prop:=
 (exI λI0=>(lI .i64 H1 ⟨h.size,1,none⟩ λa=>ifB (decide (a < 0)) (I0 [.bool true,.bool true,.bool true,.bool true] H1) (lI .i64 H1 ⟨h.size,1,none⟩ λa=>ifB (decide (a > 5)) (I0 [.bool (decide (a > 5)),.bool true,.bool true,.bool true] H1) (lI .i64 H1 (aQ h.size) λb=>ifB (decide (b < 0)) (I0 [.bool (decide (a > 5)),.bool (decide (b < 0)),.bool true,.bool true] H1) (lI .i64 H1 (aQ h.size) λc=>ifB (decide (c >= 6)) (I0 [.bool (decide (a > 5)),.bool (decide (b < 0)),.bool (decide (c >= 6)),.bool true] H1) (lI .i64 H1 ⟨h.size,4,none⟩ λd=>lI .i64 H1 ⟨h.size,5,none⟩ λe=>lI .i64 H1 ⟨h.size,7,none⟩ λf=>lI .i64 H1 ⟨h.size,8,none⟩ λg=>Wh7 (λi j=>WY6 i j) Tryz.prog 3 [iQ d,iQ e,iQ f,iQ g] λd=>I0 [.bool (decide (a > 5)),.bool (decide (b < 0)),.bool (decide (c >= 6)),.bool (decide (d < 0))] H1)))))/\(∀(a b c d:Value) (e:Env) (e:Wa2),(I0 [a,b,c,d] e)->(asBool d λa=>ifB a (K (.string (⟨#[63]⟩ : ByteArray)) e) (lI .i64 e (aQ h.size) λa=>ldH e ⟨h.size,1,none⟩ λb=>asInt .i64 b λc=>ldH e ⟨h.size,3,none⟩ λd=>asInt .i64 d λf=>ldH e ⟨h.size,4,none⟩ λg=>asInt .i64 g λi=>ldH e ⟨h.size,5,none⟩ λj=>asInt .i64 j λk=>cf 73 #[iQ a] e λa e=>We4 a λa=>ce e h.size 5 j (ce e h.size 4 g (ce e h.size 3 d (ce e h.size 1 b (cf 74 #[] e λe l=>asAgg e λe=>We2 e 6 (de6 e λe m n o p q=>ce l h.size 5 j (ce l h.size 4 g (ce l h.size 3 d (ce l h.size 1 b (bd c 6 (WL0 Tryz.prog 9 #[e,m,n,o,p,q] (c.toNat*1) λc=>We4 c λc=>cf 75 #[iQ f,iQ i,iQ k] l λd e=>We4 d λd=>ce e h.size 1 b (exI λI54=>(lI .i64 (Array.push e (.cells #[.string a,.string c,.string d] 9)) ⟨h.size,1,none⟩ λb=>cf 52 #[iQ b] (Array.push e (.cells #[.string a,.string c,.string d] 9)) λa b=>asBool a λa=>ifB a (lI .i64 b ⟨h.size,6,none⟩ λa=>lI .i64 b ⟨h.size,7,none⟩ λc=>lI .i64 b ⟨h.size,8,none⟩ λd=>cf 75 #[iQ a,iQ c,iQ d] b λa c=>We4 a λa=>Wt2 Tryz.prog #[139,139] 139 #[.slice (some (aQ e.size)) 3 3,.slice (some (aQ c.size)) 1 1] (Array.push c (.cells #[.string a] 9)) λa c=>Wb3 a λa d f=>I54 [.slice a d f] c) (I54 [.slice (some (aQ e.size)) 3 3] b))/\(∀(a:Value) (b:Env) (b:Wa2),(I54 [a] b)->(exI λI77=>(lI .i64 b ⟨h.size,1,none⟩ λc=>cf 54 #[iQ c] b λb c=>asBool b λb=>ifB b (exI λI83=>(ldH c ⟨h.size,2,none⟩ λb=>asBool b λb=>ifB b (I83 [.string (⟨#[100,111,110,101]⟩ : ByteArray)] c) (I83 [.string (⟨#[109,105,115,115,101,100]⟩ : ByteArray)] c))/\(∀(b:Value) (d:Env) (d:Wa2),(I83 [b] d)->(Wb3 a λe f g=>We4 b λi=>Wt2 Tryz.prog #[139,139] 139 #[.slice e f g,.slice (some (aQ d.size)) 1 1] (Array.push d (.cells #[.string i] 9)) λd e=>Wb3 d λd f g=>I77 [.slice d f g,b] e))) (I77 [a,.tuple #[]] c))/\(∀(a b:Value) (c:Env) (c:Wa2),(I77 [a,b] c)->(Wb3 a λa b d=>cf 76 #[.slice a b d,.string (⟨#[32]⟩ : ByteArray)] c λa b=>We4 a λa=>K (.string a) b)))))))))))))))))))
def F37 (K:kQ) (h:Wa2) (xa xb:Int) (xc:Bool) (xd xe xf xg xh xi:Int):Prop:=
 (g37 K h (Array.push h (.cells #[iQ xa,iQ xb,.bool xc,iQ xd,iQ xe,iQ xf,iQ xg,iQ xh,iQ xi] 51)))
theorem call37 {K:kQ} {h:Wa2} {xa xb:Int} {xc:Bool} {xd xe xf xg xh xi:Int} (H:F37 K h xa xb xc xd xe xf xg xh xi):Wa5 Tryz.prog 37 #[(.agg #[(iQ xa),(iQ xb),(.bool xc),(iQ xd),(iQ xe),(iQ xf),(iQ xg),(iQ xh),(iQ xi)])] h K:=
 cQ Tryz.func37 H
def F52 (K:kQ) (h:Wa2) (xa:Int):Prop:=
 (ifB (xa == 4) (K (.bool true) h) (K (.bool (xa == 5)) h))
theorem call52 {K:kQ} {h:Wa2} {xa:Int} (H:F52 K h xa):Wa5 Tryz.prog 52 #[(iQ xa)] h K:=
 cQ Tryz.func52 H
def F54 (K:kQ) (h:Wa2) (xa:Int):Prop:=
 (ifB (xa == 2) (K (.bool true) h) (cf 52 #[iQ xa] h λa b=>asBool a λa=>K (.bool a) b))
theorem call54 {K:kQ} {h:Wa2} {xa:Int} (H:F54 K h xa):Wa5 Tryz.prog 54 #[(iQ xa)] h K:=
 cQ Tryz.func54 H
abbrev g29 (K:kQ) (h H1:Wa2):Prop:=
 (exI λI0=>(da7 H1 (aQ h.size) λa b c d e f g=>cf 59 #[.agg #[a,b,c,d,e,f,g]] H1 λa b=>asInt .i64 a λa=>ifB (a != 0) (I0 [.bool true,.bool true,.bool true,.bool true] b) (lS b ⟨h.size,7,none⟩ λa a c=>lI .i64 b (Addr.add (aQ h.size) 1) λc=>ifB ((a:Int) != c) (I0 [.bool ((a:Int) != c),.bool true,.bool true,.bool true] b) (YS2 b h.size λd e f g i j k l m n=>cf 60 #[.agg #[d,e,f,g,i,j,k,l,m,n]] b λb d=>asInt .i64 b λb=>ifB (decide (b > 48)) (I0 [.bool ((a:Int) != c),.bool (decide (b > 48)),.bool true,.bool true] d) (lS d ⟨h.size,8,none⟩ λe e f=>ifB (decide ((e:Int) > 60000)) (I0 [.bool ((a:Int) != c),.bool (decide (b > 48)),.bool (decide ((e:Int) > 60000)),.bool true] d) (lS d ⟨h.size,9,none⟩ λf f g=>I0 [.bool ((a:Int) != c),.bool (decide (b > 48)),.bool (decide ((e:Int) > 60000)),.bool (decide ((f:Int) > 4096))] d)))))/\(∀(a b c d:Value) (e:Env) (e:Wa2),(I0 [a,b,c,d] e)->(asBool d λa=>ifB a (K (.bool false) e) (lS e ⟨h.size,7,none⟩ λa b c=>exI λI49=>exM λm50=>(I49 [.bool false,.tuple #[],iQ 0,.tuple #[]] e)/\(∀(c d e f:Value) (g:Env) (g:Wa2),(I49 [c,d,e,f] g)->(asInt .i64 e λi=>ifB (decide (i < (b:Int))) (asI e λi=>bd i (b:Int) (Wd2 (.pointer a) λa=>lS g (Addr.add a (i.toNat*1)) λa b i=>exI λI64=>exM λm65=>(I64 [c,iQ 0] g)/\(∀(j k:Value) (l:Env) (l:Wa2),(I64 [j,k] l)->(asInt .i64 k λm=>ifB (decide (m < (b:Int))) (asI k λm=>bd m (b:Int) (Wd2 (.pointer a) λn=>ldH l (Addr.add n (m.toNat*3)) λo=>ldH l (Addr.add (Addr.add n (m.toNat*3)) 1) λp=>ldH l (Addr.add (Addr.add n (m.toNat*3)) 2) λm=>stH (Array.push l (.cells #[iQ 0,.int .u32 0,.int .u32 0] 41)) (aQ l.size) o λn=>stH n ⟨l.size,1,none⟩ p λn=>stH n ⟨l.size,2,none⟩ m λm=>dl3 m l.size λn o p=>cf 61 #[.agg #[n,o,p]] m λm n=>asBool m λm=>ifB (!m) (K (.bool false) n) (asInt .i64 k λm=>(I64 [j,iQ (IntKind.wrap .i64 (m+1))] n)/\((m65 [j,iQ (IntKind.wrap .i64 (m+1))] n) < (m65 [j,k] l))))) (asInt .i64 e λm=>(I49 [j,.slice a b i,iQ (IntKind.wrap .i64 (m+1)),k] l)/\((m50 [j,.slice a b i,iQ (IntKind.wrap .i64 (m+1)),k] l) < (m50 [c,d,e,f] g))))))) (lS g ⟨h.size,8,none⟩ λa b d=>exI λI91=>exM λm92=>(I91 [c,.tuple #[],iQ 0] g)/\(∀(c d e:Value) (f:Env) (f:Wa2),(I91 [c,d,e] f)->(asInt .i64 e λg=>ifB (decide (g < (b:Int))) (asI e λg=>bd g (b:Int) (Wd2 (.pointer a) λa=>lI .i64 f (Addr.add a (g.toNat*1)) λa=>exI λI103=>(ifB (decide (a < 0)) (I103 [.bool true] f) (lI .i64 f (Addr.add (aQ h.size) 1) λb=>I103 [.bool (decide (a >= b))] f))/\(∀(b:Value) (g:Env) (g:Wa2),(I103 [b] g)->(asBool b λb=>ifB b (K (.bool false) g) (asInt .i64 e λb=>(I91 [c,iQ a,iQ (IntKind.wrap .i64 (b+1))] g)/\((m92 [c,iQ a,iQ (IntKind.wrap .i64 (b+1))] g) < (m92 [c,d,e] f))))))) (K (.bool true) f))))))))))
def F29 (K:kQ) (h:Wa2) (xa xb xc xd xe xf xg:Int) (xh:Option Addr) (xi xj:Nat) (xk:Option Addr) (xl xm:Nat) (xn:Option Addr) (xo xp:Nat):Prop:=
 (g29 K h (Array.push h (.cells #[iQ xa,iQ xb,iQ xc,iQ xd,iQ xe,iQ xf,iQ xg,.slice xh xi xj,.slice xk xl xm,.slice xn xo xp] 28)))
theorem call29 {K:kQ} {h:Wa2} {xa xb xc xd xe xf xg:Int} {xh:Option Addr} {xi xj:Nat} {xk:Option Addr} {xl xm:Nat} {xn:Option Addr} {xo xp:Nat} (H:F29 K h xa xb xc xd xe xf xg xh xi xj xk xl xm xn xo xp):Wa5 Tryz.prog 29 #[(.agg #[(iQ xa),(iQ xb),(iQ xc),(iQ xd),(iQ xe),(iQ xf),(iQ xg),(.slice xh xi xj),(.slice xk xl xm),(.slice xn xo xp)])] h K:=
 cQ Tryz.func29 H
def F39 (K:kQ) (h:Wa2) (xa:Option Addr) (xb:Int):Prop:=
 (exI λI0=>(nP xa λa=>lP h a λa=>cf 66 #[.pointer a,iQ xb] h λa b=>asBool a λa=>ifB (!a) (nP xa λa=>lS b (Addr.add a 11) λa c d=>bd xb (c:Int) (Wd2 (.pointer a) λa=>lI .i64 b (Addr.add a (xb.toNat*1)) λa=>nP xa λc=>lS b (Addr.add c 8) λc d e=>bd xb (d:Int) (Wd2 (.pointer c) λc=>lS b (Addr.add c (xb.toNat*1)) λc c d=>ifB (decide (a >= (c:Int))) (K (.tuple #[]) b) (nP xa λa=>lP b a λa=>nP xa λc=>lS b (Addr.add c 8) λc d e=>bd xb (d:Int) (Wd2 (.pointer c) λc=>lS b (Addr.add c (xb.toNat*1)) λc d e=>nP xa λe=>lS b (Addr.add e 11) λe f g=>bd xb (f:Int) (Wd2 (.pointer e) λe=>lI .i64 b (Addr.add e (xb.toNat*1)) λe=>bd e (d:Int) (Wd2 (.pointer c) λc=>ldH b (Addr.add c (e.toNat*3)) λd=>ldH b (Addr.add (Addr.add c (e.toNat*3)) 1) λf=>ldH b (Addr.add (Addr.add c (e.toNat*3)) 2) λc=>cf 77 #[.pointer a,iQ xb,.agg #[d,f,c]] b λa c=>asInt .i64 a λa=>nP xa λa=>lS c (Addr.add a 11) λa d e=>bd xb (d:Int) (Wd2 (.pointer a) λe=>lI .i64 c (Addr.add e (xb.toNat*1)) λe=>bd xb (d:Int) (Wd2 (.pointer a) λa=>stH c (Addr.add a (xb.toNat*1)) (iQ (IntKind.wrap .i64 (e+1))) λa=>I0 [] a))))))))) (I0 [] b))/\(∀(a:Env) (a:Wa2),(I0 [] a)->(nP xa λb=>lP a b λb=>cf 68 #[.pointer b,iQ xb] a λa a=>K (.tuple #[]) a)))
theorem call39 {K:kQ} {h:Wa2} {xa:Option Addr} {xb:Int} (H:F39 K h xa xb):Wa5 Tryz.prog 39 #[(.pointer xa),(iQ xb)] h K:=
 cQ Tryz.func39 H
def F40 (K:kQ) (h:Wa2) (xa:Option Addr) (xb xc:Int):Prop:=
 (nP xa λa=>lP h a λa=>cf 31 #[.pointer a] h λa b=>Wb2 a λa=>cf 32 #[.pointer a] b λb c=>Wb2 b λb=>cf 78 #[.pointer b] c λb c=>Wb3 b λb d e=>Wh7 (λf g=>WY6 f g) Tryz.prog 3 [iQ xc,iQ (d:Int)] λf=>((0:Int)<=f)/\(((f:Int)<=(d:Int))/\(exI λI17=>exM λm18=>(I17 [iQ 0,.tuple #[],.tuple #[]] c)/\(∀(c g i:Value) (j:Env) (j:Wa2),(I17 [c,g,i] j)->(asInt .i64 c λk=>ifB (decide (k < (((d - f.toNat):Nat):Int))) (asI c λk=>((0:Int)<=k)/\(((k:Int) < (((d - f.toNat):Nat):Int))/\(Wd2 (.pointer (W95 b f.toNat e 4)) λb=>ldH j (Addr.add b (k.toNat*4)) λd=>ldH j (Addr.add (Addr.add b (k.toNat*4)) 1) λe=>ldH j (Addr.add (Addr.add b (k.toNat*4)) 2) λf=>ldH j (Addr.add (Addr.add b (k.toNat*4)) 3) λb=>stH (Array.push j (.cells #[iQ 0,iQ 0,iQ 0,.bool false] 144)) (aQ j.size) d λd=>stH d ⟨j.size,1,none⟩ e λd=>stH d ⟨j.size,2,none⟩ f λd=>stH d ⟨j.size,3,none⟩ b λb=>lI .i64 b (aQ j.size) λd=>ldH b ⟨j.size,3,none⟩ λe=>asBool e λe=>stH (Array.push b (.cells #[iQ 0,iQ 0,.bool false,iQ 0,iQ 0,iQ 0,iQ 0,iQ 0,iQ 0] 51)) (aQ b.size) (iQ xb) λf=>stH f ⟨b.size,1,none⟩ (iQ d) λd=>stH d ⟨b.size,2,none⟩ (.bool e) λd=>stH d ⟨b.size,3,none⟩ (iQ 0) λd=>stH d ⟨b.size,4,none⟩ (iQ 0) λd=>stH d ⟨b.size,5,none⟩ (iQ 0) λd=>stH d ⟨b.size,6,none⟩ (iQ 0) λd=>stH d ⟨b.size,7,none⟩ (iQ 0) λd=>stH d ⟨b.size,8,none⟩ (iQ 0) λd=>ldH d ⟨j.size,1,none⟩ λe=>asInt .i64 e λf=>cf 79 #[.pointer a] d λd k=>asAgg d λd=>We2 d 15 (Wm8 d λd l m n o p q r s t u v w x y=>ce k j.size 1 e (cf 80 #[.agg #[d,l,m,n,o,p,q,r,s,t,u,v,w,x,y],iQ f] k λd e=>Wh0 d λf=>Wc2 f 0 λf=>asInt .i64 f λf=>Wh0 d λk=>Wc2 k 1 λk=>asInt .i64 k λk=>Wh0 d λl=>Wc2 l 2 λl=>asInt .i64 l λl=>stH e ⟨b.size,3,none⟩ (iQ f) λe=>stH e ⟨b.size,4,none⟩ (iQ k) λe=>stH e ⟨b.size,5,none⟩ (iQ l) λe=>ldH e ⟨j.size,2,none⟩ λf=>asInt .i64 f λk=>cf 79 #[.pointer a] e λa e=>asAgg a λa=>We2 a 15 (Wm8 a λa l m n o p q r s t u v w x y=>ce e j.size 2 f (cf 80 #[.agg #[a,l,m,n,o,p,q,r,s,t,u,v,w,x,y],iQ k] e λa e=>Wh0 a λf=>Wc2 f 0 λf=>asInt .i64 f λf=>Wh0 a λk=>Wc2 k 1 λk=>asInt .i64 k λk=>Wh0 a λl=>Wc2 l 2 λl=>asInt .i64 l λl=>stH e ⟨b.size,6,none⟩ (iQ f) λe=>stH e ⟨b.size,7,none⟩ (iQ k) λe=>stH e ⟨b.size,8,none⟩ (iQ l) λe=>nP xa λf=>ldH e (Addr.add f 12) λk=>Wb3 k λl m n=>dl9 e b.size λb o p q r s t u v=>((Wa1 (Array.push e (.cells #[b,o,p,q,r,s,t,u,v] 51)) (Addr.add f 12))=(some k))/\(Wt2 Tryz.prog #[47,47] 47 #[.slice l m n,.slice (some (aQ e.size)) 1 1] (Array.push e (.cells #[b,o,p,q,r,s,t,u,v] 51)) λb e=>Wb3 b λb f k=>nP xa λl=>stH e (Addr.add l 12) (.slice b f k) λb=>asInt .i64 c λe=>(I17 [iQ (IntKind.wrap .i64 (e+1)),d,a] b)/\((m18 [iQ (IntKind.wrap .i64 (e+1)),d,a] b) < (m18 [c,g,i] j)))))))))) (K (.tuple #[]) j))))))
theorem call40 {K:kQ} {h:Wa2} {xa:Option Addr} {xb xc:Int} (H:F40 K h xa xb xc):Wa5 Tryz.prog 40 #[(.pointer xa),(iQ xb),(iQ xc)] h K:=
 cQ Tryz.func40 H
def F73 (K:kQ) (h:Wa2) (xa:Int):Prop:=
 (cf 128 #[.agg #[iQ 2,.int .u32 (IntKind.wrap .u32 xa),.int .u32 0]] h λa b=>We4 a λa=>cf 127 #[.string a,.string (⟨#[32,48]⟩ : ByteArray)] b λa b=>We4 a λa=>K (.string a) b)
theorem call73 {K:kQ} {h:Wa2} {xa:Int} (H:F73 K h xa):Wa5 Tryz.prog 73 #[(iQ xa)] h K:=
 cQ Tryz.func73 H
def F74 (K:kQ) (h:Wa2)  : Prop:=
 (stH (Array.push h (.cells #[.string (⟨#[]⟩ : ByteArray),.string (⟨#[]⟩ : ByteArray),.string (⟨#[]⟩ : ByteArray),.string (⟨#[]⟩ : ByteArray),.string (⟨#[]⟩ : ByteArray),.string (⟨#[]⟩ : ByteArray)] 136)) (aQ h.size) (.string (⟨#[108,111,97,100]⟩ : ByteArray)) λa=>stH a ⟨h.size,1,none⟩ (.string (⟨#[115,116,111,114,101]⟩ : ByteArray)) λa=>stH a ⟨h.size,2,none⟩ (.string (⟨#[99,97,115]⟩ : ByteArray)) λa=>stH a ⟨h.size,3,none⟩ (.string (⟨#[97,100,100]⟩ : ByteArray)) λa=>stH a ⟨h.size,4,none⟩ (.string (⟨#[100,99,97,115]⟩ : ByteArray)) λa=>stH a ⟨h.size,5,none⟩ (.string (⟨#[100,99,115,115]⟩ : ByteArray)) λa=>dl6 a h.size λb c d e f g=>K (.agg #[b,c,d,e,f,g]) a)
theorem call74 {K:kQ} {h:Wa2}  (H:F74 K h ):Wa5 Tryz.prog 74 #[] h K:=
 cQ Tryz.func74 H
def F75 (K:kQ) (h:Wa2) (xa xb xc:Int):Prop:=
 (ifB (xa == 0) (cf 73 #[iQ xb] h λa b=>We4 a λa=>(((((5+a.size):Nat):Int):Int)<=9223372036854775807)/\(K (.string ((⟨#[119,111,114,100,32]⟩ : ByteArray) ++ a)) b)) (ifB (xa == 1) (cf 73 #[iQ xb] h λa b=>We4 a λa=>(((((5+a.size):Nat):Int):Int)<=9223372036854775807)/\((((((((⟨#[115,108,111,116,32]⟩ : ByteArray) ++ a).size+1):Nat):Int):Int)<=9223372036854775807)/\(cf 73 #[iQ xc] b λb c=>We4 b λb=>((((((((⟨#[115,108,111,116,32]⟩ : ByteArray) ++ a) ++ (⟨#[32]⟩ : ByteArray)).size+b.size):Nat):Int):Int)<=9223372036854775807)/\(K (.string ((((⟨#[115,108,111,116,32]⟩ : ByteArray) ++ a) ++ (⟨#[32]⟩ : ByteArray)) ++ b)) c)))) (ifB (xa == 2) (cf 73 #[iQ xb] h λa b=>We4 a λa=>(((((5+a.size):Nat):Int):Int)<=9223372036854775807)/\(K (.string ((⟨#[108,105,110,107,32]⟩ : ByteArray) ++ a)) b)) (ifB (xa == 3) (cf 73 #[iQ xb] h λa b=>We4 a λa=>(((((5+a.size):Nat):Int):Int)<=9223372036854775807)/\((((((((⟨#[110,111,100,101,32]⟩ : ByteArray) ++ a).size+1):Nat):Int):Int)<=9223372036854775807)/\(cf 73 #[iQ xc] b λb c=>We4 b λb=>((((((((⟨#[110,111,100,101,32]⟩ : ByteArray) ++ a) ++ (⟨#[32]⟩ : ByteArray)).size+b.size):Nat):Int):Int)<=9223372036854775807)/\(K (.string ((((⟨#[110,111,100,101,32]⟩ : ByteArray) ++ a) ++ (⟨#[32]⟩ : ByteArray)) ++ b)) c)))) (ifB (xa == 4) (cf 73 #[iQ xb] h λa b=>We4 a λa=>(((((5+a.size):Nat):Int):Int)<=9223372036854775807)/\(K (.string ((⟨#[116,114,101,101,32]⟩ : ByteArray) ++ a)) b)) (K (.string (⟨#[110,111,110,101]⟩ : ByteArray)) h))))))
theorem call75 {K:kQ} {h:Wa2} {xa xb xc:Int} (H:F75 K h xa xb xc):Wa5 Tryz.prog 75 #[(iQ xa),(iQ xb),(iQ xc)] h K:=
 cQ Tryz.func75 H
def F76 (K:kQ) (h:Wa2) (xa:Option Addr) (xb xc:Nat) (xd:ByteArray):Prop:=
 (ifB (((xb:Nat):Int) == 0) (K (.string (⟨#[]⟩ : ByteArray)) h) (ifB (((xb:Nat):Int) == 1) (bd 0 ((xb:Nat):Int) (Wd2 (.pointer xa) λa=>ldH h a λa=>We4 a λa=>K (.string a) h)) (exI λI3=>(ifB (decide (((xd.size:Nat):Int) > 0)) (exI λI4=>((((IntKind.wrap .i64 (((xb:Nat):Int) - 1)):Int)≠0)/\(ifB (decide (((xd.size:Nat):Int) >= (IntKind.wrap .i64 (Int.tdiv 9223372036854775807 (IntKind.wrap .i64 (((xb:Nat):Int) - 1)))))) False (I4 [] h)))/\(∀(a:Env) (a:Wa2),(I4 [] a)->(I3 [iQ (IntKind.wrap .i64 (0+(IntKind.wrap .i64 (((xd.size:Nat):Int)*(IntKind.wrap .i64 (((xb:Nat):Int) - 1))))))] a))) (I3 [iQ 0] h))/\(∀(a:Value) (b:Env) (b:Wa2),(I3 [a] b)->(exI λI10=>exM λm11=>(I10 [a,.tuple #[],iQ 0] b)/\(∀(a b c:Value) (d:Env) (d:Wa2),(I10 [a,b,c] d)->(asInt .i64 c λe=>ifB (decide (e < ((xb:Nat):Int))) (asI c λe=>bd e ((xb:Nat):Int) (Wd2 (.pointer xa) λf=>ldH d (Addr.add f (e.toNat*1)) λe=>We4 e λe=>exI λI22=>(asInt .i64 a λf=>ifB (decide (((e.size:Nat):Int) > (IntKind.wrap .i64 (9223372036854775807 - f)))) False (I22 [] d))/\(∀(f:Env) (f:Wa2),(I22 [] f)->(asInt .i64 a λg=>asInt .i64 c λi=>(I10 [iQ (IntKind.wrap .i64 (g+((e.size:Nat):Int))),.string e,iQ (IntKind.wrap .i64 (i+1))] f)/\((m11 [iQ (IntKind.wrap .i64 (g+((e.size:Nat):Int))),.string e,iQ (IntKind.wrap .i64 (i+1))] f) < (m11 [a,b,c] d)))))) (asInt .i64 a λa=>cf 129 #[.pointer (some (aQ d.size)),iQ a] (Array.push d (.cells #[.pointer none,.slice none 0 0] 162)) λa a=>bd 0 ((xb:Nat):Int) (Wd2 (.pointer xa) λb=>ldH a b λb=>We4 b λb=>cf 94 #[.pointer (some (aQ d.size)),.string b] a λa a=>((0:Int)<=1)/\(((1:Int)<=((xb:Nat):Int))/\(exI λI36=>exM λm37=>(I36 [.tuple #[],iQ 0] a)/\(∀(a b:Value) (c:Env) (c:Wa2),(I36 [a,b] c)->(asInt .i64 b λe=>ifB (decide (e < (((xb - 1):Nat):Int))) (asI b λe=>((0:Int)<=e)/\(((e:Int) < (((xb - 1):Nat):Int))/\(Wd2 (.pointer (W95 xa 1 xc 1)) λf=>ldH c (Addr.add f (e.toNat*1)) λe=>We4 e λe=>cf 94 #[.pointer (some (aQ d.size)),.string xd] c λf f=>cf 94 #[.pointer (some (aQ d.size)),.string e] f λf f=>asInt .i64 b λg=>(I36 [.string e,iQ (IntKind.wrap .i64 (g+1))] f)/\((m37 [.string e,iQ (IntKind.wrap .i64 (g+1))] f) < (m37 [a,b] c))))) (cf 97 #[.pointer (some (aQ d.size))] c λa b=>We4 a λa=>K (.string a) b))))))))))))))
theorem call76 {K:kQ} {h:Wa2} {xa:Option Addr} {xb xc:Nat} {xd:ByteArray} (H:F76 K h xa xb xc xd):Wa5 Tryz.prog 76 #[(.slice xa xb xc),(.string xd)] h K:=
 cQ Tryz.func76 H
abbrev g60 (K:kQ) (h H1:Wa2):Prop:=
 (lS H1 ⟨h.size,7,none⟩ λa b c=>exI λI4=>exM λm5=>(I4 [iQ 0,.tuple #[],iQ 0] H1)/\(∀(c d e:Value) (f:Env) (f:Wa2),(I4 [c,d,e] f)->(asInt .i64 e λg=>ifB (decide (g < (b:Int))) (asI e λg=>bd g (b:Int) (Wd2 (.pointer a) λa=>lS f (Addr.add a (g.toNat*1)) λa b g=>asInt .i64 c λi=>asInt .i64 e λj=>(I4 [iQ (IntKind.wrap .i64 (i+(b:Int))),.slice a b g,iQ (IntKind.wrap .i64 (j+1))] f)/\((m5 [iQ (IntKind.wrap .i64 (i+(b:Int))),.slice a b g,iQ (IntKind.wrap .i64 (j+1))] f) < (m5 [c,d,e] f)))) (asInt .i64 c λa=>K (iQ a) f))))
def F60 (K:kQ) (h:Wa2) (xa xb xc xd xe xf xg:Int) (xh:Option Addr) (xi xj:Nat) (xk:Option Addr) (xl xm:Nat) (xn:Option Addr) (xo xp:Nat):Prop:=
 (g60 K h (Array.push h (.cells #[iQ xa,iQ xb,iQ xc,iQ xd,iQ xe,iQ xf,iQ xg,.slice xh xi xj,.slice xk xl xm,.slice xn xo xp] 28)))
theorem call60 {K:kQ} {h:Wa2} {xa xb xc xd xe xf xg:Int} {xh:Option Addr} {xi xj:Nat} {xk:Option Addr} {xl xm:Nat} {xn:Option Addr} {xo xp:Nat} (H:F60 K h xa xb xc xd xe xf xg xh xi xj xk xl xm xn xo xp):Wa5 Tryz.prog 60 #[(.agg #[(iQ xa),(iQ xb),(iQ xc),(iQ xd),(iQ xe),(iQ xf),(iQ xg),(.slice xh xi xj),(.slice xk xl xm),(.slice xn xo xp)])] h K:=
 cQ Tryz.func60 H
abbrev g13 (K:kQ) (h H1 H2:Wa2):Prop:=
 (cf 14 #[.agg #[iQ 0,iQ 1,iQ 2,iQ 1,iQ 1,iQ 1,iQ 1,.slice (some (aQ H1.size)) 1 1,.slice (some (aQ H2.size)) 1 1,.slice none 0 0]] (Array.push H2 (.cells #[iQ 0] 3)) λa b=>Wh0 a λc=>Wc2 c 0 λc=>Wb3 c λc d e=>Wh0 a λa=>Wc2 a 1 λa=>asInt .i64 a λa=>ifB (a == 0) (ifB ((d:Int) == 1) (bd 0 (d:Int) (Wd2 (.pointer c) λa=>da9 b a λa c d e f g h i j=>cf 37 #[.agg #[a,c,d,e,f,g,h,i,j]] b λa c=>We4 a λa=>K (.bool (a.toList == (⟨#[48,32,108,111,97,100,32,119,111,114,100,32,48]⟩ : ByteArray).toList)) c)) (K (.bool false) b)) (K (.bool false) b))
def F13 (K:kQ) (h:Wa2)  : Prop:=
 (g13 K h (Array.push h (.cells #[iQ 0,.int .u32 1,.int .u32 0] 41)) (Array.push (Array.push h (.cells #[iQ 0,.int .u32 1,.int .u32 0] 41)) (.cells #[.slice (some (aQ h.size)) 1 1] 58)))
theorem call13 {K:kQ} {h:Wa2}  (H:F13 K h ):Wa5 Tryz.prog 13 #[] h K:=
 cQ Tryz.func13 H
def F129 (K:kQ) (h:Wa2) (xa:Option Addr) (xb:Int):Prop:=
 (cf 136 #[.pointer xa] h λa a=>exI λI2=>(ifB (decide (xb < 0)) False (I2 [] a))/\(∀(a:Env) (a:Wa2),(I2 [] a)->(nP xa λb=>lS a (Addr.add b 1) λb b b=>nP xa λc=>ldH a (Addr.add c 1) λd=>Wb3 d λe e f=>((Wa1 a (Addr.add c 1))=(some d))/\(ifB (decide ((IntKind.wrap .i64 ((b:Int) - (e:Int))) < xb)) (cf 200 #[.pointer xa,iQ xb] a λb b=>K (.tuple #[]) b) (K (.tuple #[]) a)))))
theorem call129 {K:kQ} {h:Wa2} {xa:Option Addr} {xb:Int} (H:F129 K h xa xb):Wa5 Tryz.prog 129 #[(.pointer xa),(iQ xb)] h K:=
 cQ Tryz.func129 H
def F200 (K:kQ) (h:Wa2) (xa:Option Addr) (xb:Int):Prop:=
 (nP xa λa=>lS h (Addr.add a 1) λa a a=>nP xa λb=>ldH h (Addr.add b 1) λc=>Wb3 c λd d e=>((Wa1 h (Addr.add b 1))=(some c))/\(YR8 Tryz.prog (.func (.func 276) #[] #[]) #[iQ (IntKind.wrap .i64 ((IntKind.wrap .i64 (2*(a:Int)))+xb))] h λa e=>Wb3 a λa f f=>((Wa1 e (Addr.add b 1))=(some c))/\(((0:Int)<=(d:Int))/\((((d:Int):Int)<=(f:Int))/\(nP xa λb=>lS e (Addr.add b 1) λb c g=>W37 Tryz.prog #[26,26] 3 #[.slice (W95 a 0 f 1) ((d:Int).toNat - 0) (f - 0),.slice b c g] e λb c=>asInt .i64 b λb=>nP xa λb=>stH c (Addr.add b 1) (.slice (W95 a 0 f 1) ((d:Int).toNat - 0) (f - 0)) λa=>K (.tuple #[]) a)))))
theorem call200 {K:kQ} {h:Wa2} {xa:Option Addr} {xb:Int} (H:F200 K h xa xb):Wa5 Tryz.prog 200 #[(.pointer xa),(iQ xb)] h K:=
 cQ Tryz.func200 H
def F131 (K:kQ) (h:Wa2) (xa:Option Addr) (xb xc:Nat):Prop:=
 (ifB (Option.isNone xa) (K (.slice none 0 0) h) (Wt2 Tryz.prog #[124,124] 124 #[.slice (some (aQ h.size)) 0 0,.slice xa xb xc] (Array.push h (.cells #[] 144)) λa b=>Wb3 a λa c d=>K (.slice a c d) b))
theorem call131 {K:kQ} {h:Wa2} {xa:Option Addr} {xb xc:Nat} (H:F131 K h xa xb xc):Wa5 Tryz.prog 131 #[(.slice xa xb xc)] h K:=
 cQ Tryz.func131 H
end
section
theorem YM0 {K:kQ} {h:Wa2} (c:Cf) (k1:c.Right->∀h',Old h.size h h'->K (iQ 0) h') (k0:¬ c.Right->∀h',Old h.size h h'->K (iQ 6) h') :
  Wa5 Tryz.prog 59 #[.agg c.vals] h K:=by
 refine call59 ?_
 unfold F59 g59 cf Wm8 dl7
 have p1:=Wf2 h c.vals 23
 rw [show h.push (.cells #[iQ c.a,iQ c.t,iQ c.n,iQ c.l,iQ c.b,iQ c.p,iQ c.s] 23)=h.push (.cells c.vals 23) from rfl]
 generalize h.push (.cells c.vals 23)=h1 at *
 have o1:=p1.toOld
 iterate 7 (refine ldR p1.new rfl ?_)
 have key:∀(cs:Array Value) (e:Int),(∃v0 v1 v2 v3 v4 v5 v6 v7 v8 v9 v10 v11 v12 v13 v14,cs=#[v0,v1,v2,v3,v4,v5,v6,v7,v8,v9,v10,v11,v12,v13,v14]/\∀y ∈ [v0,v1,v2,v3,v4,v5,v6,v7,v8,v9,v10,v11,v12,v13,v14],Wi4 y True)->∀h8,Old h.size h h8 ->
   (∀h',Old h.size h h'->K (iQ e) h') ->
   (Wh0 (.tuple #[.agg cs,iQ e]) (λvs9=>(Wc2 vs9 0 (λv10=>(asAgg v10 (λvs11=>(We2 vs11 15 (Wc2 vs11 0 (λv12=>(Wc2 vs11 1 (λv13=>(Wc2 vs11 2 (λv14=>(Wc2 vs11 3 (λv15=>(Wc2 vs11 4 (λv16=>(Wc2 vs11 5 (λv17=>(Wc2 vs11 6 (λv18=>(Wc2 vs11 7 (λv19=>(Wc2 vs11 8 (λv20=>(Wc2 vs11 9 (λv21=>(Wc2 vs11 10 (λv22=>(Wc2 vs11 11 (λv23=>(Wc2 vs11 12 (λv24=>(Wc2 vs11 13 (λv25=>(Wc2 vs11 14 (λv26=>(Wh0 (.tuple #[.agg cs,iQ e]) (λvs27=>(Wc2 vs27 1 (λv28=>(asInt .i64 v28 (λn29=>(stH (Array.push h8 (.cells Wk3 117)) (aQ h8.size) v12 (λh30=>(stH h30 ⟨h8.size,1,none⟩ v13 (λh31=>(stH h31 ⟨h8.size,2,none⟩ v14 (λh32=>(stH h32 ⟨h8.size,3,none⟩ v15 (λh33=>(stH h33 ⟨h8.size,4,none⟩ v16 (λh34=>(stH h34 ⟨h8.size,5,none⟩ v17 (λh35=>(stH h35 ⟨h8.size,6,none⟩ v18 (λh36=>(stH h36 ⟨h8.size,7,none⟩ v19 (λh37=>(stH h37 ⟨h8.size,8,none⟩ v20 (λh38=>(stH h38 ⟨h8.size,9,none⟩ v21 (λh39=>(stH h39 ⟨h8.size,10,none⟩ v22 (λh40=>(stH h40 ⟨h8.size,11,none⟩ v23 (λh41=>(stH h41 ⟨h8.size,12,none⟩ v24 (λh42=>(stH h42 ⟨h8.size,13,none⟩ v25 (λh43=>(stH h43 ⟨h8.size,14,none⟩ v26 (λh44=>(K (iQ n29) h44)))))))))))))))))))))))))))))))))))))))))))))))))))))))))))))))))))))))))):=by
  rintro cs e ⟨v0,v1,v2,v3,v4,v5,v6,v7,v8,v9,v10,v11,v12,v13,v14,rfl,hone⟩ h8 o8 k
  simp only [We7,ZD8,ZD9,WJ1]
  refine WE0 rfl ?_
  iterate 15 (refine Wd1 rfl ?_)
  simp only [Wa4]
  have p:=Wf2 h8 Wk3 117
  generalize h8.push (.cells Wk3 117)=h9 at *
  refine Zd4 (Wd9 p.new rfl hone λh44 w=>?_)
  exact k _ (w.toOld (o8.trans (p.toOld.mono o8.1)) o8.1)
 refine Wa0 (Yz8 c (λhr h8 o8=>?_) (λhr h8 o8=>?_))
 ·exact key _ _ ⟨_,_,_,_,_,_,_,_,_,_,_,_,_,_,_,rfl,by simp [Wi4]⟩ h8 (o1.trans (o8.mono o1.1)) (k1 hr)
 ·exact key _ _ ⟨_,_,_,_,_,_,_,_,_,_,_,_,_,_,_,rfl,by simp [Wi4]⟩ h8 (o1.trans (o8.mono o1.1)) (k0 hr)
end
section
theorem YM1 {K:kQ} {h:Wa2} (c:Cf) (k1:c.Right->∀h',Old h.size h h'->K (.bool true) h') (k0:¬ c.Right->∀h',Old h.size h h'->K (.bool false) h') :
  Wa5 Tryz.prog 9 #[.agg c.vals] h K:=by
 refine call9 ?_
 unfold F9 g9 cf ce lI dl7
 have p1:=Wf2 h c.vals 23
 rw [show h.push (.cells #[iQ c.a,iQ c.t,iQ c.n,iQ c.l,iQ c.b,iQ c.p,iQ c.s] 23)=h.push (.cells c.vals 23) from rfl]
 generalize h.push (.cells c.vals 23)=h1 at *
 have o1:=p1.toOld
 have c1:=p1.new
 refine ⟨λvs h'=>∃v1 v2 v3 v4 v5 v6 b,vs = [v1,v2,v3,v4,v5,v6,.bool b]/\h' = h1/\(b=true->¬ c.Right)/\(b=false->0<=c.a/\c.a<=2/\1<=c.t/\c.t<=6/\1<=c.n/\c.n<=64/\1<=c.l/\c.l<=6),?_,?_⟩
 ·refine ldR c1 rfl ?_
  simp only [Wa4]
  refine Wa3 (λq=>⟨_,_,_,_,_,_,_,rfl,by trivial,λ_ r=>by have:=r.a;omega,λe=>by cases e⟩) λq1=>?_
  refine ldR c1 rfl ?_
  simp only [Wa4]
  refine Wa3 (λq=>⟨_,_,_,_,_,_,_,rfl,by trivial,λ_ r=>by have:=r.a;omega,λe=>by cases e⟩) λq2=>?_
  refine ldR c1 rfl ?_
  simp only [Wa4]
  refine Wa3 (λq=>⟨_,_,_,_,_,_,_,rfl,by trivial,λ_ r=>by have:=r.t;omega,λe=>by cases e⟩) λq3=>?_
  refine ldR c1 rfl ?_
  simp only [Wa4]
  refine Wa3 (λq=>⟨_,_,_,_,_,_,_,rfl,by trivial,λ_ r=>by have:=r.t;omega,λe=>by cases e⟩) λq4=>?_
  refine ldR c1 rfl ?_
  simp only [Wa4]
  refine Wa3 (λq=>⟨_,_,_,_,_,_,_,rfl,by trivial,λ_ r=>by have:=r.n;omega,λe=>by cases e⟩) λq5=>?_
  refine ldR c1 rfl ?_
  simp only [Wa4]
  refine Wa3 (λq=>⟨_,_,_,_,_,_,_,rfl,by trivial,λ_ r=>by have:=r.n;omega,λe=>by cases e⟩) λq6=>?_
  refine ldR c1 rfl ?_
  simp only [Wa4]
  refine Wa3 (λq=>⟨_,_,_,_,_,_,_,rfl,by trivial,λ_ r=>by have:=r.l;omega,λe=>by cases e⟩) λq7=>?_
  refine ldR c1 rfl ?_
  simp only [Wa4]
  refine ⟨_,_,_,_,_,_,_,rfl,by trivial,λe r=>?_,λe=>?_⟩
  ·have:=of_decide_eq_true e;have:=r.l;omega
  ·have:=of_decide_eq_false e;omega
 rintro v17 v18 v19 v20 v21 v22 v23 g24 h25 ⟨_,_,_,_,_,_,b,e,rfl,hb1,hb0⟩
 cases e
 simp only [Wa9]
 refine Wb6 (λhb=>k0 (hb1 hb) _ o1) (λhb=>?_)
 obtain ⟨a1,a2,t1,t2,n1,n2,l1,l2⟩:=hb0 hb
 refine ⟨λvs h'=>∃v1 v2 v3 v4 b,vs = [v1,v2,v3,v4,.bool b]/\h' = h25/\(b=true->¬ c.Right)/\(b=false->1<=c.b/\c.b<=16/\1<=c.p/\c.p<=16/\1<=c.s/\c.s<=64),?_,?_⟩
 ·refine ldR c1 rfl ?_
  simp only [Wa4]
  refine Wa3 (λq=>⟨_,_,_,_,_,rfl,by trivial,λ_ r=>by have:=r.b;omega,λe=>by cases e⟩) λq1=>?_
  refine ldR c1 rfl ?_
  simp only [Wa4]
  refine Wa3 (λq=>⟨_,_,_,_,_,rfl,by trivial,λ_ r=>by have:=r.b;omega,λe=>by cases e⟩) λq2=>?_
  refine ldR c1 rfl ?_
  simp only [Wa4]
  refine Wa3 (λq=>⟨_,_,_,_,_,rfl,by trivial,λ_ r=>by have:=r.p;omega,λe=>by cases e⟩) λq3=>?_
  refine ldR c1 rfl ?_
  simp only [Wa4]
  refine Wa3 (λq=>⟨_,_,_,_,_,rfl,by trivial,λ_ r=>by have:=r.p;omega,λe=>by cases e⟩) λq4=>?_
  refine ldR c1 rfl ?_
  simp only [Wa4]
  refine Wa3 (λq=>⟨_,_,_,_,_,rfl,by trivial,λ_ r=>by have:=r.s;omega,λe=>by cases e⟩) λq5=>?_
  refine ldR c1 rfl ?_
  simp only [Wa4]
  refine ⟨_,_,_,_,_,rfl,by trivial,λe r=>?_,λe=>?_⟩
  ·have:=of_decide_eq_true e;have:=r.s;omega
  ·have:=of_decide_eq_false e;omega
 rintro v40 v41 v42 v43 v44 g45 h46 ⟨_,_,_,_,b',e,rfl,hb1',hb0'⟩
 cases e
 simp only [Wa9]
 refine Wb6 (λhb'=>k0 (hb1' hb') _ o1) (λhb'=>?_)
 obtain ⟨b1,b2,p1',p2,s1,s2⟩:=hb0' hb'
 refine ldR c1 rfl ?_
 simp only [Wa4]
 iterate 7 (refine ldR c1 rfl ?_)
 refine Wa0 ?_
 refine (show Wa5 Tryz.prog 28 #[.agg c.vals] h46 _ from call28 ?_)
 unfold F28 g28 lI
 have p2':=Wf2 h46 c.vals 23
 rw [show h46.push (.cells #[iQ c.a,iQ c.t,iQ c.n,iQ c.l,iQ c.b,iQ c.p,iQ c.s] 23)=h46.push (.cells c.vals 23) from rfl]
 generalize h46.push (.cells c.vals 23)=h2 at *
 have o2:=o1.trans (p2'.toOld.mono o1.1)
 have c2:=(p2'.old h.size (by have:=p1.size;omega)).trans c1
 have fin:∀z:Int,z=c.sent->(z < c.n↔c.Right):=λz e=>⟨λhz=>⟨⟨a1,a2⟩,⟨t1,t2⟩,⟨n1,n2⟩,⟨l1,l2⟩,⟨b1,b2⟩,⟨p1',p2⟩,⟨s1,s2⟩,by omega⟩,λr=>by have:=r.z;omega⟩
 have fin2:∀z:Int,z=c.sent->K (.bool (decide (c.n > z))) h2:=λz e=>by
  by_cases hz:z < c.n
  ·rw [decide_eq_true hz];exact k1 ((fin z e).1 hz) _ o2
  ·rw [decide_eq_false hz];exact k0 (λr=>hz ((fin z e).2 r)) _ o2
 refine ldR p2'.new rfl ?_
 simp only [Wa4]
 refine Wb6 (λhz=>?_) (λhz=>?_)
 ·exact ⟨Wd3 c2 rfl,fin2 _ (by unfold Cf.sent;rw [if_pos (by simpa using hz)])⟩
 ·exact ⟨Wd3 c2 rfl,fin2 _ (by unfold Cf.sent;rw [if_neg (by simpa using hz)])⟩
end
section
open Mod
def Y60 (c:Mod.Cf) (calls:List (List Cl)) (Wc3 draws:List Int):Bool:=
 okC c && (((calls.length:Int) == c.threads) && (decide (calls.flatten.length<=48) && (decide (Wc3.length<=60000) && (decide (draws.length<=4096) && (calls.all (λl=>l.all WQ5) && Wc3.all λk=>decide (0<=k) && decide (k < c.threads))))))
theorem Wv9 (n:Nat) (h:n < 2 ^ 62):s64 (n:Int)=n:=by unfold s64;omega
theorem Y61 {α:Type} {L:List (List α)} {j:Nat} (hj:j < L.length):(L.take (j+1)).flatten.length=(L.take j).flatten.length+(L[j]).length:=by
 rw [List.take_succ_eq_append_getElem hj,List.flatten_append,List.length_append,List.flatten_singleton]
theorem ZI2 {α:Type} {L:List (List α)} (j:Nat):(L.take j).flatten.length<=L.flatten.length:=by
 conv=>rhs;rw [<- List.take_append_drop j L,List.flatten_append,List.length_append]
 omega
theorem Yh5 {K:kQ} {h:Wa2} {c:Mod.Cf} (k1:okC c=true->∀h',Old h.size h h'->K (iQ 0) h') (k0:okC c=false->∀h',Old h.size h h'->K (iQ 6) h') :
  Wa5 Tryz.prog 59 #[.agg #[iQ c.algo,iQ c.threads,iQ c.nodes,iQ c.level,iQ c.batch,iQ c.probes,iQ c.scan]] h K:=by
 refine YM0 (ZB9 c) (λhr h' o=>k1 ((Wt6 c).1 hr) h' o) (λhr h' o=>k0 ?_ h' o)
 rw [<- Bool.not_eq_true]
 exact λhh=>hr ((Wt6 c).2 hh)
section
variable {K:kQ} {h:Wa2} {R:Hp} {c:Mod.Cf} {ca pa da:Option Addr} {cl cc pl pc dl dc:Nat} {calls:List (List Cl)} {Wc3 draws:List Int}
theorem Yh6 (H:Sat h R) (hS:∀h' P,Sat h' (P*R)->ScrI h' ca cl pa pl da dl calls Wc3 draws) (hn:calls.flatten.length < 2 ^ 60) (hn2:calls.length < 2 ^ 60) (k:∀h',Sat h' R->K (iQ calls.flatten.length) h') :
  Wa5 Tryz.prog 60 #[.agg #[iQ c.algo,iQ c.threads,iQ c.nodes,iQ c.level,iQ c.batch,iQ c.probes,iQ c.scan,.slice ca cl cc,.slice pa pl pc,.slice da dl dc]] h K:=by
 refine call60 ?_
 unfold F60 g60 bd lS
 have H1:=H.push (.cells (Wz7 c ca cl cc pa pl pc da dl dc).toArray 28)
 rw [show h.push (.cells #[iQ c.algo,iQ c.threads,iQ c.nodes,iQ c.level,iQ c.batch,iQ c.probes,iQ c.scan,.slice ca cl cc,.slice pa pl pc,.slice da dl dc] 28)=h.push (.cells (Wz7 c ca cl cc pa pl pc da dl dc).toArray 28) from rfl]
 generalize h.push (.cells (Wz7 c ca cl cc pa pl pc da dl dc).toArray 28)=h1 at *
 generalize h.size=SB at *
 have I:=hS h1 _ H1
 have ecl:=I.f.cs
 subst ecl
 refine ldR H1.at rfl ?_
 refine sb ?_
 refine ⟨λvs h'=>(∃(u:Value) (j:Nat),vs = [.int .i64 (calls.take j).flatten.length,u,.int .i64 j]/\j<=calls.length)/\h' = h1,λvs _=>match vs with | [_,_,.int _ i]=>((calls.length:Int) - i).toNat | _=>0,⟨⟨_,0,rfl,Nat.zero_le _⟩,rfl⟩,?_⟩
 rintro v6 v7 v8 g9 h10 ⟨⟨u,j,e,hj⟩,rfl⟩
 cases e
 refine sb ?_
 refine Wa3 (λc1=>?_) (λc1=>?_)
 ·have hj2:j < calls.length:=by omega
  obtain ⟨ra,rc,⟨ad,ea,hc⟩,_⟩:=I.f.row j hj2
  have eg:calls.getD j []=calls[j]:=by rw [List.getD_eq_getElem?_getD,List.getElem?_eq_getElem hj2];rfl
  rw [eg] at hc
  subst ea
  refine ⟨by omega,by omega,?_⟩
  refine sb ?_
  refine Wb4 hc ?_
  refine sb ?_
  have e3:=Y61 hj2
  have e4:=ZI2 (L:=calls) (j+1)
  rw [show s64 (((calls.take j).flatten.length:Int)+((calls[j]).length:Int))=((calls.take (j+1)).flatten.length:Int) from by rw [e3,<- Int.natCast_add];exact Wv9 _ (by omega),show s64 ((j:Int)+1)=((j+1:Nat):Int) from by rw [<- Int.natCast_add_one];exact Wv9 _ (by omega)]
  refine ⟨by first | exact ⟨⟨_,j+1,rfl,by omega⟩,rfl⟩ | exact ⟨_,j+1,rfl,by omega⟩,?_⟩
  show ((calls.length:Int) - ((j+1:Nat):Int)).toNat < ((calls.length:Int) - (j:Int)).toNat
  omega
 ·rw [show j=calls.length by omega,List.take_length]
  exact k h10 H1.drop
theorem Yh7 (H:Sat h R) (hS:∀h' P,Sat h' (P*R)->ScrI h' ca cl pa pl da dl calls Wc3 draws) (hn:calls.flatten.length < 2 ^ 60) (hn2:calls.length < 2 ^ 60) (hn3:Wc3.length < 2 ^ 60)
  (hV:∀l ∈ calls,l.length < 2 ^ 60) (k:∀h',Sat h' R->K (.bool (Y60 c calls Wc3 draws)) h') :
  Wa5 Tryz.prog 29 #[.agg #[iQ c.algo,iQ c.threads,iQ c.nodes,iQ c.level,iQ c.batch,iQ c.probes,iQ c.scan,.slice ca cl cc,.slice pa pl pc,.slice da dl dc]] h K:=by
 refine call29 ?_
 unfold F29 g29 cf bd lS lI da7 dl3 YS2
 have H1:=H.push (.cells (Wz7 c ca cl cc pa pl pc da dl dc).toArray 28)
 rw [show h.push (.cells #[iQ c.algo,iQ c.threads,iQ c.nodes,iQ c.level,iQ c.batch,iQ c.probes,iQ c.scan,.slice ca cl cc,.slice pa pl pc,.slice da dl dc] 28)=h.push (.cells (Wz7 c ca cl cc pa pl pc da dl dc).toArray 28) from rfl]
 generalize h.push (.cells (Wz7 c ca cl cc pa pl pc da dl dc).toArray 28)=h1 at *
 generalize h.size=SB at *
 have I:=hS h1 _ H1
 have ecl:=I.f.cs
 have epl:=I.f.ps
 have edl:=I.ds
 subst ecl epl edl
 have hS1:∀h' P,Sat h' (P*(pt SB (.cells (Wz7 c ca calls.length cc pa Wc3.length pc da draws.length dc).toArray 28)*R))->ScrI h' ca calls.length pa Wc3.length da draws.length calls Wc3 draws:=λh' P HP=>hS h' emp (by rw [Wl0];exact HP.drop.drop)
 obtain ⟨b0,hb0⟩ : ∃b0:Bool,b0=(okC c && (((calls.length:Int) == c.threads) && (decide (calls.flatten.length<=48) && (decide (Wc3.length<=60000) && decide (draws.length<=4096))))):=⟨_,rfl⟩
 have hsc:Y60 c calls Wc3 draws=(b0 && (calls.all (λl=>l.all WQ5) && Wc3.all λk=>decide (0<=k) && decide (k < c.threads))):=by
  rw [hb0]
  unfold Y60
  simp only [Bool.and_assoc]
 rw [hsc] at k
 refine ⟨λvs h'=>(∃u1 u2 u3,vs = [u1,u2,u3,.bool (!b0)])/\Sat h' (pt SB (.cells (Wz7 c ca calls.length cc pa Wc3.length pc da draws.length dc).toArray 28)*R),?_,?_⟩
 ·have O:=H1.at
  refine ldR O rfl (ldR O rfl (ldR O rfl (ldR O rfl (ldR O rfl (ldR O rfl (ldR O rfl ?_))))))
  refine Wa0 (Yh5 (c:=c) (λhc h2 o2=>?_) λhc h2 o2=>?_)
  rotate_left
  ·refine sb ?_
   refine Wb6 (λ_=>?_) (λhh=>by simp at hh)
   rw [hc,Bool.false_and] at hb0
   subst hb0
   exact ⟨⟨_,_,_,rfl⟩,H1.old o2⟩
  have H2:=H1.old o2
  rw [hc,Bool.true_and] at hb0
  refine sb ?_
  refine Wb6 (λhh=>by simp at hh) (λ_=>?_)
  have O:=H2.at
  refine ldR O rfl ?_
  refine sb ?_
  refine ldR O rfl ?_
  refine sb ?_
  refine Wb6 (λhh=>?_) (λhh=>?_)
  ·have e:((calls.length:Int) == c.threads)=false:=by simpa using hh
   rw [e,Bool.false_and] at hb0
   subst hb0
   exact ⟨⟨_,_,_,rfl⟩,H2⟩
  have e:((calls.length:Int) == c.threads)=true:=by simpa using hh
  rw [e,Bool.true_and] at hb0
  refine ldR O rfl (ldR O rfl (ldR O rfl (ldR O rfl (ldR O rfl (ldR O rfl (ldR O rfl (ldR O rfl (ldR O rfl (ldR O rfl ?_)))))))))
  refine Wa0 (Yh6 (c:=c) H2 hS1 hn hn2 λh3 H3=>?_)
  refine sb ?_
  have O:=H3.at
  refine Wa3 (λhh=>?_) (λhh=>?_)
  ·rw [decide_eq_false (show ¬ calls.flatten.length<=48 by omega),Bool.false_and] at hb0
   subst hb0
   exact ⟨⟨_,_,_,rfl⟩,H3⟩
  rw [decide_eq_true (show calls.flatten.length<=48 by omega),Bool.true_and] at hb0
  refine ldR O rfl ?_
  refine sb ?_
  refine Wa3 (λhh=>?_) (λhh=>?_)
  ·rw [decide_eq_false (show ¬ Wc3.length<=60000 by omega),Bool.false_and] at hb0
   subst hb0
   exact ⟨⟨_,_,_,rfl⟩,H3⟩
  rw [decide_eq_true (show Wc3.length<=60000 by omega),Bool.true_and] at hb0
  refine ldR O rfl ?_
  refine sb ?_
  have e9:decide ((draws.length:Int) > 4096) = !b0:=by
   rw [hb0,<- decide_not,decide_eq_decide]
   omega
  rw [e9]
  exact ⟨⟨_,_,_,rfl⟩,H3⟩
 rintro v38 v39 v40 v41 g42 h43 ⟨⟨u1,u2,u3,e⟩,H2⟩
 cases e
 refine sb ?_
 refine Wb6 (λhh=>?_) (λhh=>?_)
 ·have e:b0=false:=by simpa using hh
  rw [e,Bool.false_and] at k
  exact k h43 H2.drop
 have e:b0=true:=by simpa using hh
 rw [e,Bool.true_and] at k
 have I2:=hS1 h43 emp (by rw [Wl0];exact H2)
 refine ldR H2.at rfl ?_
 refine sb ?_
 refine ⟨λvs h'=>(∃(w u v:Value) (j:Nat),vs = [w,u,.int .i64 j,v]/\j<=calls.length/\(calls.take j).all (λl=>l.all WQ5)=true)/\Sat h' (pt SB (.cells (Wz7 c ca calls.length cc pa Wc3.length pc da draws.length dc).toArray 28)*R),λvs _=>match vs with | [_,_,.int _ i,_]=>((calls.length:Int) - i).toNat | _=>0,⟨⟨_,_,_,0,rfl,Nat.zero_le _,rfl⟩,H2⟩,?_⟩
 rintro v51 v52 v53 v54 g55 h56 ⟨⟨w,u,v,j,e,hj,hall⟩,HJ⟩
 cases e
 refine sb ?_
 have IJ:=hS1 h56 emp (by rw [Wl0];exact HJ)
 refine Wa3 (λc1=>?_) (λc1=>?_)
 ·have hj2:j < calls.length:=by omega
  obtain ⟨ra,rc,⟨ad,ea,hc⟩,hrow56⟩:=IJ.f.row j hj2
  have eg:calls.getD j []=calls[j]:=by rw [List.getD_eq_getElem?_getD,List.getElem?_eq_getElem hj2];rfl
  rw [eg] at hc hrow56
  subst ea
  refine ⟨by omega,by omega,?_⟩
  refine sb ?_
  refine Wb4 hc ?_
  refine sb ?_
  have hlen:=hV _ (List.getElem_mem hj2)
  have hmem:calls.all (λl=>l.all WQ5)=true->(calls[j]).all WQ5=true:=λh=>List.all_eq_true.1 h _ (List.getElem_mem hj2)
  have htk:(calls.take (j+1)).all (λl=>l.all WQ5)=(calls[j]).all WQ5:=by
   rw [List.take_succ_eq_append_getElem hj2,List.all_append,hall,List.all_cons,List.all_nil,Bool.true_and,Bool.and_true]
  refine ⟨λvs h'=>(∃(w:Value) (i:Nat),vs = [w,.int .i64 i]/\i<=(calls[j]).length/\((calls[j]).take i).all WQ5=true)/\Old h56.size h56 h'/\Sat h' (pt SB (.cells (Wz7 c (some ad) calls.length cc pa Wc3.length pc da draws.length dc).toArray 28)*R),λvs _=>match vs with | [_,.int _ i]=>(((calls[j]).length:Int) - i).toNat | _=>0,⟨⟨_,0,rfl,Nat.zero_le _,rfl⟩,Old.refl _ _,HJ⟩,?_⟩
  rintro v66 v67 g68 h69 ⟨⟨w2,i,e,hi,hall2⟩,o69,HI⟩
  cases e
  refine sb ?_
  refine Wa3 (λc2=>?_) (λc2=>?_)
  ·have hi2:i < (calls[j]).length:=by omega
   have hrow:=(hrow56.old o69)
   have g0:=Wh3 Wz3 hi2 (j:=0) (by omega)
   have g1:=Wh3 Wz3 hi2 (j:=1) (by omega)
   have g2:=Wh3 Wz3 hi2 (j:=2) (by omega)
   obtain ⟨ad3,ea3,q0⟩:=hrow (i*3+0) (.int .i64 (calls[j])[i].op) g0
   subst ea3
   obtain ⟨_,ea4,q1⟩:=hrow (i*3+1) (.int .u32 (calls[j])[i].key) g1
   cases ea4
   obtain ⟨_,ea4,q2⟩:=hrow (i*3+2) (.int .u32 (calls[j])[i].val) g2
   cases ea4
   refine ⟨by omega,by omega,?_⟩
   have aa:∀i,(ad3.add (i*3)).add 1=ad3.add (i*3+1):=λi=>Ww3 _ _ _
   have ab:∀i,(ad3.add (i*3)).add 2=ad3.add (i*3+2):=λi=>Ww3 _ _ _
   rw [Nat.add_zero] at q0
   try simp only [Wb8,bsx,Nat.reduceAdd,Int.reduceLE,Int.reduceLT,Int.reduceToNat,aa,ab]
   refine Wb4 q0 (Wb4 q1 (Wb4 q2 ?_))
   have H5:=HI.push (.cells #[iQ 0,.int .u32 0,.int .u32 0] 41)
   have p5:=(Wf2 h69 #[iQ 0,.int .u32 0,.int .u32 0] 41).toOld
   generalize h69.push (.cells #[iQ 0,.int .u32 0,.int .u32 0] 41)=h70 at *
   obtain ⟨LB,hLB⟩ : ∃LB,h69.size=LB:=⟨_,rfl⟩
   rw [hLB] at H5 p5 ⊢
   refine Wd9 (vs:=clc (calls[j])[i]) H5.at rfl (by simp [clc,Wi4]) λh71 x=>?_
   have H6:=H5.wr x.new x.old
   have o71:=x.toOld p5 (Nat.le_refl _)
   refine ldR H6.at rfl (ldR H6.at rfl (ldR H6.at rfl ?_))
   refine Wa0 (WO3 λh72 o72=>?_)
   have H7:=(H6.old o72).drop
   have o72':Old h56.size h56 h72:=o69.trans ((o71.trans (o72.mono (by rw [<- hLB];exact o71.1))).mono (by rw [<- hLB];exact o69.1))
   have hmem2:(calls[j]).all WQ5=true->WQ5 (calls[j])[i]=true:=λh=>List.all_eq_true.1 h _ (List.getElem_mem hi2)
   refine sb ?_
   refine Wb6 (λhh=>?_) (λhh=>?_)
   ·have e:WQ5 (calls[j])[i]=false:=by simpa using hh
    have e2:calls.all (λl=>l.all WQ5)=false:=by
     rw [<- Bool.not_eq_true]
     intro hx
     rw [hmem2 (hmem hx)] at e;cases e
    rw [e2,Bool.false_and] at k
    exact k h72 H7.drop
   ·have e:WQ5 (calls[j])[i]=true:=by simpa using hh
    rw [show s64 ((i:Int)+1)=((i+1:Nat):Int) from by rw [<- Int.natCast_add_one];exact Wv9 _ (by omega)]
    refine ⟨⟨⟨_,i+1,rfl,by omega,?_⟩,o72',H7⟩,?_⟩
    ·rw [List.take_succ_eq_append_getElem hi2,List.all_append,hall2,List.all_cons,List.all_nil,e];rfl
    ·show (((calls[j]).length:Int) - ((i+1:Nat):Int)).toNat < (((calls[j]).length:Int) - (i:Int)).toNat
     omega
  ·rw [List.take_of_length_le (by omega)] at hall2
   rw [show s64 ((j:Int)+1)=((j+1:Nat):Int) from by rw [<- Int.natCast_add_one];exact Wv9 _ (by omega)]
   refine ⟨⟨⟨_,_,_,j+1,rfl,by omega,by rw [htk];exact hall2⟩,HI⟩,?_⟩
   show ((calls.length:Int) - ((j+1:Nat):Int)).toNat < ((calls.length:Int) - (j:Int)).toNat
   omega
 rw [List.take_of_length_le (by omega)] at hall
 rw [hall,Bool.true_and] at k
 refine ldR HJ.at rfl ?_
 refine sb ?_
 refine ⟨λvs h'=>(∃(w u:Value) (j:Nat),vs = [w,u,.int .i64 j]/\j<=Wc3.length/\(Wc3.take j).all (λk=>decide (0<=k) && decide (k < c.threads))=true)/\h' = h56,λvs _=>match vs with | [_,_,.int _ i]=>((Wc3.length:Int) - i).toNat | _=>0,⟨⟨_,_,0,rfl,Nat.zero_le _,rfl⟩,rfl⟩,?_⟩
 rintro v93 v94 v95 g96 h97 ⟨⟨w,u,j,e,hj,hall⟩,rfl⟩
 cases e
 refine sb ?_
 refine Wa3 (λc1=>?_) (λc1=>?_)
 ·have hj2:j < Wc3.length:=by omega
  obtain ⟨ad,ea,hc⟩:=IJ.f.pk j (.int .i64 Wc3[j]) (by rw [List.getElem?_map,List.getElem?_eq_getElem hj2];rfl)
  subst ea
  refine ⟨by omega,by omega,?_⟩
  refine sb ?_
  refine Wb4 hc ?_
  refine sb ?_
  have hmem:Wc3.all (λk=>decide (0<=k) && decide (k < c.threads))=true->(decide (0<=Wc3[j]) && decide (Wc3[j] < c.threads))=true:=λh=>List.all_eq_true.1 h _ (List.getElem_mem hj2)
  refine ⟨λvs h'=>vs = [.bool (!(decide (0<=Wc3[j]) && decide (Wc3[j] < c.threads)))]/\h' = h97,?_,?_⟩
  ·refine Wa3 (λhh=>?_) (λhh=>?_)
   ·rw [decide_eq_false (show ¬ 0<=Wc3[j] by omega)]
    exact ⟨rfl,rfl⟩
   ·refine ldR HJ.at rfl ?_
    refine sb ?_
    rw [decide_eq_true (show 0<=Wc3[j] by omega),Bool.true_and]
    first | exact ⟨by congr 2;rw [<- decide_not,decide_eq_decide];omega,rfl⟩ | (congr 2;rw [<- decide_not,decide_eq_decide];omega)
  rintro v106 g107 h108 ⟨e,rfl⟩
  cases e
  refine sb ?_
  refine Wb6 (λhh=>?_) (λhh=>?_)
  ·have e:(decide (0<=Wc3[j]) && decide (Wc3[j] < c.threads))=false:=by rwa [Bool.not_eq_true'] at hh
   have e2:Wc3.all (λk=>decide (0<=k) && decide (k < c.threads))=false:=by
    rw [<- Bool.not_eq_true]
    intro hx
    rw [hmem hx] at e;cases e
   rw [e2] at k
   exact k h108 HJ.drop
  ·have e:(decide (0<=Wc3[j]) && decide (Wc3[j] < c.threads))=true:=by rwa [Bool.not_eq_false'] at hh
   rw [show s64 ((j:Int)+1)=((j+1:Nat):Int) from by rw [<- Int.natCast_add_one];exact Wv9 _ (by omega)]
   have e9:(Wc3.take (j+1)).all (λk=>decide (0<=k) && decide (k < c.threads))=true:=by
    rw [List.take_succ_eq_append_getElem hj2,List.all_append,hall,List.all_cons,List.all_nil,e];rfl
   refine ⟨by first | exact ⟨⟨_,_,j+1,rfl,by omega,e9⟩,rfl⟩ | exact ⟨_,_,j+1,rfl,by omega,e9⟩,?_⟩
   show ((Wc3.length:Int) - ((j+1:Nat):Int)).toNat < ((Wc3.length:Int) - (j:Int)).toNat
   omega
 ·rw [List.take_of_length_le (by omega)] at hall
  rw [hall] at k
  exact k h97 HJ.drop
end
end
section
structure Ev8 where
 th:Int
 bk:Bool
 c:C3
 a:C3
abbrev Ev8.cells (e:Ev8):List Value:=[iQ e.th,.bool e.bk,iQ e.c.o,.int .u32 e.c.k,.int .u32 e.c.v,iQ e.a.o,.int .u32 e.a.k,.int .u32 e.a.v]
end
section

end
section
set_option maxRecDepth 100000

end
section
open Mod
structure RnSt where
 m:Mac
 nx:List Int
 ev:List EvM
 cu:Int->Option Cl
 idle:Int
 gap:Int
 most:Int
def c3 (c:Cl):C3:=⟨c.op,c.key,c.val⟩
def RnSt.invoke (s:RnSt) (k:Int) (c:Cl):RnSt:=match s.cu k with
 | none=>{ s with cu:=λt=>if t=k then some c else s.cu t,ev:=s.ev ++ [⟨k,false,c,cl0⟩] }
 | some _=>s
def RnSt.respond (s:RnSt) (k:Int) (a:Cl):RnSt:=match s.cu k with
 | some c=>if ZE6 (c3 c) (c3 a) then { s with cu:=λt=>if t=k then none else s.cu t,ev:=s.ev ++ [⟨k,true,cl0,a⟩] } else s
 | none=>s
def RnSt.begin (ins:Int) (calls:List (List Cl)) (s:RnSt) (k:Nat):Option RnSt:=
 if (calls.getD k []).length<=(s.nx.getD k 0).toNat then none
 else some (RnSt.invoke { s with m:=s.m.setTh (s.m.th.set k ((We8 s.m k).push (ins+((calls.getD k []).getD (s.nx.getD k 0).toNat cl0).op) [((calls.getD k []).getD (s.nx.getD k 0).toNat cl0).key,((calls.getD k []).getD (s.nx.getD k 0).toNat cl0).val])),nx:=s.nx.set k (s.nx.getD k 0+1) } k ((calls.getD k []).getD (s.nx.getD k 0).toNat cl0))
noncomputable def RnSt.go (d:Run->Run) (s:RnSt) (k:Nat):RnSt:=
 if (Wx6 d ⟨s.m.quiet,We8 s.m k,k⟩).t.fr = [] then { RnSt.respond { s with m:=(Wx6 d ⟨s.m.quiet,We8 s.m k,k⟩).m.setTh (s.m.th.set k (Wx6 d ⟨s.m.quiet,We8 s.m k,k⟩).t) } k (Y27 (Wx6 d ⟨s.m.quiet,We8 s.m k,k⟩).t) with gap:=0 }
 else { s with m:=(Wx6 d ⟨s.m.quiet,We8 s.m k,k⟩).m.setTh (s.m.th.set k (Wx6 d ⟨s.m.quiet,We8 s.m k,k⟩).t),gap:=s.gap+1,most:=max s.most (s.gap+1) }
noncomputable def RnSt.pick (d:Run->Run) (ins:Int) (calls:List (List Cl)) (s:RnSt) (k:Int):RnSt:=
 if (We8 s.m k.toNat).fr = [] then match s.begin ins calls k.toNat with
  | none=>{ s with idle:=s.idle+1 }
  | some s1=>s1.go d k.toNat
 else s.go d k.toNat
structure RX where
 RB:Nat
 NB:Nat
 Q:Nat
 M:Nat
 f:Nat
 ins:Int
 Ts:List Nat
 c:Mod.Cf
 ca:Option Addr
 cl:Nat
 cc:Nat
 pa:Option Addr
 pl:Nat
 pc:Nat
 da:Option Addr
 dl:Nat
 dc:Nat
 n:Nat
section
variable {K:kQ} {h:Wa2} {X:RX} {s:RnSt} {R:Hp}
end
end
section
set_option maxHeartbeats 1000000
open Mod
structure WW9 (calls:List (List Cl)):Prop where
 n:1<=calls.length/\calls.length<=6
 cl:∀l ∈ calls,l.length<=1000/\∀c ∈ l,WQ5 c=true/\V c.key/\V c.val
theorem Y62 {c:Cl} (h:WQ5 c=true):0<=c.op/\c.op<=2:=by
 unfold WQ5 at h
 simp only [Bool.or_eq_true,Bool.and_eq_true,beq_iff_eq] at h
 omega
section
variable {K:kQ} {h:Wa2} {X:RX} {s:RnSt} {R:Hp} {calls:List (List Cl)} {Wc3:List Int}
variable {d:Run->Run} {W:Run->Prop} {Inv:Nat->Mac->Prop}
end
end
section
set_option maxHeartbeats 1000000
open Mod
section
variable {K:kQ} {h:Wa2} {X:RX} {s:RnSt} {R:Hp} {calls:List (List Cl)} {Wc3 draws:List Int}
theorem YM2 {Q M f:Nat} {ins:Int} {Ts:List Nat} {m:Mac} (H:Sat h (suS Q M f ins Ts m*R)) (k:∀q R',Sat h (Wp2 q m.mm*R')->K (mP q) h):Wa5 Tryz.prog 32 #[mP M] h K:=by
 obtain ⟨a,c,hl,H1⟩:=Wk7.1 (Wp0.1 H)
 exact W21 H1 λq R' HM _=>k q R' HM
theorem Zm3 {n:Nat} {t:Int} (ht:(n:Int)=t) (hn:n<=4096) (k:K (.slice (some (aQ h.size)) n n) (h.push (.cells ((List.replicate n (0:Int)).map iv).toArray 3))):Wr4 Tryz.prog 3 t t h K:=by
 subst ht
 exact Zx9 hn k
variable {d:Run->Run} {W:Run->Prop} {Inv:Nat->Mac->Prop}
end
end
section
set_option maxHeartbeats 1000000
open Mod
theorem WX0 (j n:Nat) (calls:List (List Cl)):Wg5 (j+1) n calls=Wg5 j n calls ++ [WQ3 n (calls.getD j [])]:=by
 unfold Wg5
 rw [List.range_succ,List.map_append]
 rfl
theorem W80 (n:Nat) (l:List Cl):(WQ3 n l).length=min n l.length:=by unfold WQ3;rw [List.length_map,List.length_take]
theorem Y63 {n k:Nat} {l:List Cl} (h:k < (WQ3 n l).length):(WQ3 n l).take (k+1)=(WQ3 n l).take k ++ [clL (l.getD k cl0)]:=by
 have h2:=h
 rw [W80] at h2
 have e:(WQ3 n l)[k]? = some (clL (l.getD k cl0)):=by
  unfold WQ3
  rw [List.getElem?_map,List.getElem?_take_of_lt (by omega),List.getElem?_eq_getElem (by omega),List.getD_eq_getElem?_getD,List.getElem?_eq_getElem (by omega)]
  rfl
 rw [List.take_add_one,e]
 rfl
theorem W81 {f:Int->Int} {n i:Nat} {l:List Int} (h:i < ((l.take n).map f).length):((l.take n).map f).take (i+1)=((l.take n).map f).take i ++ [f (l.getD i 0)]:=by
 have h2:=h
 rw [List.length_map,List.length_take] at h2
 have e:((l.take n).map f)[i]? = some (f (l.getD i 0)):=by
  rw [List.getElem?_map,List.getElem?_take_of_lt (by omega),List.getElem?_eq_getElem (by omega),List.getD_eq_getElem?_getD,List.getElem?_eq_getElem (by omega)]
  rfl
 rw [List.take_add_one,e]
 rfl
theorem YD0 (i:Nat) (h:i<=60000):s64 ((i:Int)+1)=((i+1:Nat):Int):=by unfold s64;omega
section
variable {K:kQ} {h:Wa2} {R:Hp}
theorem Yt0 {c0 c:Mod.Cf} {ca pa da:Option Addr} {cl cc0 pl pc0 dl dc0:Nat} {calls:List (List Cl)} {Wc3 draws:List Int} {n m:Nat} (H:Sat h R)
  (hS:∀h' P,Sat h' (P*R)->ScrI h' ca cl pa pl da dl calls Wc3 draws) (hth:1<=c.threads/\c.threads<=6) (hn:n<=1000) (hm:m<=60000)
  (k:∀h' ca' cc pa' pc da' dc ps,Sat h' (ZG8 ca' cc pa' pc da' dc ps (Wg5 c.threads.toNat n calls) (Wl5 c.threads m Wc3) (draws.take 4096)*R)->K (.agg #[iQ c.algo,iQ c.threads,iQ c.nodes,iQ c.level,iQ c.batch,iQ c.probes,iQ c.scan,.slice ca' (Wg5 c.threads.toNat n calls).length cc,.slice pa' (Wl5 c.threads m Wc3).length pc,.slice da' (draws.take 4096).length dc]) h') :
  Wa5 Tryz.prog 11 #[.agg #[iQ c0.algo,iQ c0.threads,iQ c0.nodes,iQ c0.level,iQ c0.batch,iQ c0.probes,iQ c0.scan,.slice ca cl cc0,.slice pa pl pc0,.slice da dl dc0],cfV c,iQ n,iQ m] h K:=by
 refine call11 ?_
 unfold F11 g11 bd lS lI dl3 dl7 YS2 ZN2
 have H1:=H.push (.cells (Wz7 c0 ca cl cc0 pa pl pc0 da dl dc0).toArray 28)
 rw [show (.cells #[iQ c0.algo,iQ c0.threads,iQ c0.nodes,iQ c0.level,iQ c0.batch,iQ c0.probes,iQ c0.scan,.slice ca cl cc0,.slice pa pl pc0,.slice da dl dc0] 28:Obj)=.cells (Wz7 c0 ca cl cc0 pa pl pc0 da dl dc0).toArray 28 from rfl]
 generalize h.push (.cells (Wz7 c0 ca cl cc0 pa pl pc0 da dl dc0).toArray 28)=h1 at *
 generalize h.size=SB at *
 have H2:=H1.push (.cells #[iQ c.algo,iQ c.threads,iQ c.nodes,iQ c.level,iQ c.batch,iQ c.probes,iQ c.scan] 23)
 generalize h1.push (.cells #[iQ c.algo,iQ c.threads,iQ c.nodes,iQ c.level,iQ c.batch,iQ c.probes,iQ c.scan] 23)=h2 at *
 generalize h1.size=CB at *
 have H3:=H2.push (.cells #[iQ 0,iQ 0,iQ 0,iQ 0,iQ 0,iQ 0,iQ 0,.slice none 0 0,.slice none 0 0,.slice none 0 0] 28)
 generalize h2.push (.cells #[iQ 0,iQ 0,iQ 0,iQ 0,iQ 0,iQ 0,iQ 0,.slice none 0 0,.slice none 0 0,.slice none 0 0] 28)=h3 at *
 generalize h2.size=RB at *
 refine ldR H3.at2 rfl (ldR H3.at2 rfl (ldR H3.at2 rfl (ldR H3.at2 rfl (ldR H3.at2 rfl (ldR H3.at2 rfl (ldR H3.at2 rfl ?_))))))
 have H4:=H3.push (.cells #[iQ 0,iQ 0,iQ 0,iQ 0,iQ 0,iQ 0,iQ 0,.slice none 0 0,.slice none 0 0,.slice none 0 0] 28)
 generalize h3.push (.cells #[iQ 0,iQ 0,iQ 0,iQ 0,iQ 0,iQ 0,iQ 0,.slice none 0 0,.slice none 0 0,.slice none 0 0] 28)=h4 at *
 generalize h3.size=TB at *
 refine ZQ6 (Wd9 (vs:=Wz7 c none 0 0 none 0 0 none 0 0) H4.at rfl (by simp [Wz7,Wi4]) λh5 w=>?_)
 have H5:=H4.wr w.new w.old
 clear H1 H2 H3 H4 w
 generalize hFR:pt RB (.cells #[iQ 0,iQ 0,iQ 0,iQ 0,iQ 0,iQ 0,iQ 0,.slice none 0 0,.slice none 0 0,.slice none 0 0] 28)*(pt CB (.cells #[iQ c.algo,iQ c.threads,iQ c.nodes,iQ c.level,iQ c.batch,iQ c.probes,iQ c.scan] 23)*(pt SB (.cells (Wz7 c0 ca cl cc0 pa pl pc0 da dl dc0).toArray 28)*R))=FR at H5
 have scr:∀ {h':Wa2} {X:Hp},Sat h' (X*FR)->h'[CB]? = some (.cells [iQ c.algo,iQ c.threads,iQ c.nodes,iQ c.level,iQ c.batch,iQ c.probes,iQ c.scan].toArray 23)/\h'[SB]? = some (.cells (Wz7 c0 ca cl cc0 pa pl pc0 da dl dc0).toArray 28)/\ScrI h' ca cl pa pl da dl calls Wc3 draws:=by
  intro h' X H'
  subst hFR
  refine ⟨H'.drop.drop.at,H'.drop.drop.drop.at,hS h' emp ?_⟩
  rw [Wl0]
  exact H'.drop.drop.drop.drop
 have scr3:∀ {h':Wa2} {A B C:Hp},Sat h' (A*(B*(C*FR)))->h'[CB]? = some (.cells [iQ c.algo,iQ c.threads,iQ c.nodes,iQ c.level,iQ c.batch,iQ c.probes,iQ c.scan].toArray 23)/\h'[SB]? = some (.cells (Wz7 c0 ca cl cc0 pa pl pc0 da dl dc0).toArray 28)/\ScrI h' ca cl pa pl da dl calls Wc3 draws:=fun {h' A B C} H'=>scr (X:=A*(B*C)) (by rw [Wc7,Wc7];exact H')
 obtain ⟨oc,os,si⟩:=scr H5
 refine ⟨λvs h'=>vs = [.bool false]/\h' = h5,?_,?_⟩
 ·refine ldR oc rfl ?_
  refine sb ?_
  refine Wa3 (λc1=>by omega) (λc1=>?_)
  refine ldR oc rfl ?_
  refine sb ?_
  rw [decide_eq_false (by omega:¬ c.threads > 6)]
  first | done | exact ⟨by trivial,by trivial⟩ | trivial
 rintro v22 g23 h24 ⟨e,rfl⟩
 cases e
 refine sb ?_
 clear oc os si
 refine ⟨λvs h'=>∃(j:Nat) (w1 w2:Value) (ca':Option Addr) (cc:Nat) (ps:List (Option Addr × Nat)),vs = [.int .i64 j,w1,w2]/\j<=c.threads.toNat/\ps.length=j/\Sat h' (pt TB (.cells (Wz7 c ca' j cc none 0 0 none 0 0).toArray 28)*(Wf1 58 1 ca' j cc ((ps.zip (Wg5 j n calls)).flatMap W00)*(Wz8 ps (Wg5 j n calls)*FR))),λvs _=>match vs with | [.int _ i,_,_]=>(c.threads - i).toNat | _=>0,⟨0,_,_,none,0,[],rfl,Nat.zero_le _,rfl,?_⟩,?_⟩
 ·have H6:=H5.own_new 58 1
  have e0:Wz8 [] (Wg5 0 n calls)=emp:=by unfold Wz8;rfl
  rw [e0,Wl0]
  rw [Wb7] at H6
  exact H6
 rintro v58 v59 v60 g61 h62 ⟨j,w1,w2,ca',cc,ps,e,hj,hps,H6⟩
 cases e
 obtain ⟨oc,os,si⟩:=scr3 H6
 refine sb ?_
 refine ldR oc rfl ?_
 refine sb ?_
 refine Wa3 (λc1=>?_) (λc1=>?_)
 ·generalize hrow:calls.getD j []=row at *
  have hcl:=si.f.cs
  refine ⟨λvs h'=>∃(q:Nat) (la:Option Addr) (lc:Nat),vs = [.slice la q lc,.int .i64 q]/\q<=(WQ3 n row).length/\Sat h' (Wf1 41 3 la q lc (((WQ3 n row).take q).flatMap clc)*(pt TB (.cells (Wz7 c ca' j cc none 0 0 none 0 0).toArray 28)*(Wf1 58 1 ca' j cc ((ps.zip (Wg5 j n calls)).flatMap W00)*(Wz8 ps (Wg5 j n calls)*FR)))),λvs _=>match vs with | [_,.int _ i]=>(2000 - i).toNat | _=>0,⟨0,none,0,rfl,Nat.zero_le _,H6.own_new 41 3⟩,?_⟩
  rintro v68 v69 g70 h71 ⟨q,la,lc,e,hq,H7⟩
  cases e
  clear oc os si
  obtain ⟨oc,os,si⟩:=scr3 H7.drop
  have hlen:=W80 n row
  have hrl:¬ j < calls.length->row = []:=λhh=>by
   rw [<- hrow,List.getD_eq_getElem?_getD,List.getElem?_eq_none (by omega)]
   rfl
  refine ⟨λvs h'=>(∃w,vs = [w,.bool (decide (q < (WQ3 n row).length))])/\h' = h71,?_,?_⟩
  ·refine sb ?_
   refine ldR os rfl ?_
   refine sb ?_
   refine Wa3 (λc2=>?_) (λc2=>?_)
   ·obtain ⟨ra,rc,⟨ad2,ea2,hcr⟩,hrw⟩:=si.f.row j (by omega)
    rw [hrow] at hcr hrw
    refine ldR os rfl ?_
    refine sb ?_
    subst ea2
    refine ⟨by omega,by omega,?_⟩
    refine sb ?_
    refine Wb4 hcr ?_
    refine sb ?_
    refine Wa3 (λc3=>?_) (λc3=>?_)
    ·rw [show decide ((q:Int) < (n:Int))=decide (q < (WQ3 n row).length) by rw [decide_eq_decide];omega]
     first | exact ⟨⟨_,rfl⟩,by trivial⟩ | exact ⟨_,rfl⟩
    ·rw [decide_eq_false (by omega:¬ q < (WQ3 n row).length)]
     first | exact ⟨⟨_,rfl⟩,by trivial⟩ | exact ⟨_,rfl⟩
   ·have:=hrl (by omega)
    rw [decide_eq_false (by rw [hlen,this];simp:¬ q < (WQ3 n row).length)]
    first | exact ⟨⟨_,rfl⟩,by trivial⟩ | exact ⟨_,rfl⟩
  rintro v90 v91 g92 h93 ⟨⟨w,e⟩,rfl⟩
  cases e
  refine sb ?_
  refine Wa3 (λc2=>?_) (λc2=>?_)
  ·have hjl:j < calls.length:=Decidable.byContradiction λhh=>by
    have:=hrl hh
    rw [hlen,this] at c2
    simp at c2
   have hql:q < row.length:=by omega
   obtain ⟨ra,rc,⟨ad2,ea2,hcr⟩,hrw⟩:=si.f.row j hjl
   rw [hrow] at hcr hrw
   have hcq:row.getD q cl0=row[q]:=by rw [List.getD_eq_getElem?_getD,List.getElem?_eq_getElem hql];rfl
   have htk:=Y63 c2
   generalize hcc:row.getD q cl0=cq at *
   have g0:=Wh3 Wz3 hql (j:=0) (by omega)
   have g1:=Wh3 Wz3 hql (j:=1) (by omega)
   have g2:=Wh3 Wz3 hql (j:=2) (by omega)
   rw [<- hcq] at g0 g1 g2
   obtain ⟨ad3,ea3,hc0⟩:=hrw (q*3+0) (.int .i64 cq.op) g0
   subst ea3
   obtain ⟨_,ea4,hc1⟩:=hrw (q*3+1) (.int .u32 cq.key) g1
   cases ea4
   obtain ⟨_,ea4,hc2⟩:=hrw (q*3+2) (.int .u32 cq.val) g2
   cases ea4
   have aa:∀i,(ad3.add (q*3)).add i=ad3.add (q*3+i):=λi=>Ww3 _ _ _
   rw [Nat.add_zero] at hc0
   refine ldR os rfl ?_
   refine sb ?_
   subst ea2
   refine ⟨by omega,by omega,?_⟩
   refine sb ?_
   refine Wb4 hcr ?_
   refine sb ?_
   refine ⟨by omega,by omega,?_⟩
   try simp only [Wb8,bsx,Nat.reduceAdd,Int.reduceLE,Int.reduceLT,Int.reduceToNat,aa]
   refine Wb4 hc0 (Wb4 hc1 (Wb4 hc2 ?_))
   have H8:=H7.push (.cells #[iQ 0,.int .u32 0,.int .u32 0] 41)
   generalize h93.push (.cells #[iQ 0,.int .u32 0,.int .u32 0] 41)=h94 at *
   generalize h93.size=AB at *
   refine st3 (Wd9 (vs:=clc cq) H8.at rfl (by simp [clc,Wi4]) λh112 w=>?_)
   have H9:=H8.wr w.new w.old
   clear H8 w
   refine ldR H9.at rfl ?_
   refine sb ?_
   refine ⟨by decide,by decide,?_⟩
   have H10:=H9.push (.cells #[iQ 0,.int .u32 0,.int .u32 0] 41)
   generalize h112.push (.cells #[iQ 0,.int .u32 0,.int .u32 0] 41)=h113 at *
   generalize h112.size=DB at *
   refine st3 (Wd9 (vs:=[iQ (opL cq.op),.int .u32 0,.int .u32 0]) H10.at rfl (by simp [Wi4]) λh117 w=>?_)
   have H11:=H10.wr w.new w.old
   clear H10 w H9
   refine ⟨λvs h'=>Sat h' (pt DB (.cells (clc (clL cq)).toArray 41)*(pt AB (.cells (clc cq).toArray 41)*(Wf1 41 3 la q lc (((WQ3 n row).take q).flatMap clc)*(pt TB (.cells (Wz7 c ca' j cc none 0 0 none 0 0).toArray 28)*(Wf1 58 1 ca' j cc ((ps.zip (Wg5 j n calls)).flatMap W00)*(Wz8 ps (Wg5 j n calls)*FR)))))),?_,?_⟩
   ·refine ldR H11.at rfl ?_
    refine sb ?_
    refine Wb6 (λc3=>?_) (λc3=>?_)
    ·have c3:opL cq.op=0:=by simpa using c3
     refine ldR H11.at2 rfl ?_
     simp only [Wa4]
     refine H11.st (i:=1) rfl trivial λh1 H12=>?_
     refine ldR H12.at2 rfl ?_
     simp only [Wa4]
     refine H12.st (i:=2) rfl trivial λh2 H13=>?_
     have e:clL cq=⟨0,cq.key,cq.val⟩:=by unfold clL;rw [if_pos c3]
     rw [e]
     rw [c3] at H13
     exact H13
    ·have c3:¬ opL cq.op=0:=by simpa using c3
     have e:clL cq=⟨opL cq.op,0,0⟩:=by unfold clL;rw [if_neg c3]
     rw [e]
     exact H11
   rintro g127 h128 H12
   try simp only [Wb8,bsx,Nat.reduceAdd,Int.reduceLE,Int.reduceLT,Int.reduceToNat]
   refine ldR H12.at rfl (ldR H12.at rfl (ldR H12.at rfl ?_))
   have H13:Sat h128 (Wf1 41 3 la q lc (((WQ3 n row).take q).flatMap clc)*(pt TB (.cells (Wz7 c ca' j cc none 0 0 none 0 0).toArray 28)*(Wf1 58 1 ca' j cc ((ps.zip (Wg5 j n calls)).flatMap W00)*(Wz8 ps (Wg5 j n calls)*FR)))):=H12.drop.drop
   refine ZH4 (x:=clL cq) H13 (by omega) λa' c' h136 H14=>?_
   refine sb ?_
   rw [YD0 q (by omega)]
   refine ⟨⟨q+1,a',c',rfl,by omega,by rw [htk];exact H14⟩,?_⟩
   show ((2000:Int) - ((q+1:Nat):Int)).toNat < ((2000:Int) - (q:Int)).toNat
   omega
  ·have eq:q=(WQ3 n row).length:=by omega
   have et:(WQ3 n row).take q=WQ3 n row:=List.take_of_length_le (by omega)
   rw [et] at H7
   refine ldR H7.at2 rfl ?_
   refine sb ?_
   have H8:Sat h93 (Wf1 58 1 ca' j cc ((ps.zip (Wg5 j n calls)).flatMap W00)*(pt TB (.cells (Wz7 c ca' j cc none 0 0 none 0 0).toArray 28)*(Wz8 ps (Wg5 j n calls)*(Wf1 41 3 la q lc ((WQ3 n row).flatMap clc)*FR)))):=Sat.ac H7 (by ac_rfl)
   refine Zy2 (p:=(la,lc)) (x:=WQ3 n row) H8 (by rw [hps,Wx7]) eq (by omega) λa' c' h149 H9=>?_
   refine sb ?_
   rw [Wb7] at H9
   refine H9.st (i:=7) rfl trivial λh153 H10=>?_
   try simp only [Wb8,bsx,Nat.reduceAdd,Int.reduceLE,Int.reduceLT,Int.reduceToNat]
   rw [YD0 j (by omega)]
   refine ⟨⟨j+1,_,_,a',c',ps ++ [(la,lc)],rfl,by omega,by rw [List.length_append,hps];rfl,?_⟩,?_⟩
   ·rw [WX0,hrow,W31 (la,lc) _ _ _ (by rw [hps,Wx7]),Wc7]
    subst eq
    exact H10
   ·show (c.threads - ((j+1:Nat):Int)).toNat < (c.threads - (j:Int)).toNat
    omega
 have ej:j=c.threads.toNat:=by omega
 have hPL:(Wl5 c.threads m Wc3).length=min m Wc3.length:=by unfold Wl5;rw [List.length_map,List.length_take]
 generalize hCL:Wg5 j n calls=CL at *
 refine ⟨λvs h'=>∃(i:Nat) (pa':Option Addr) (pc:Nat),vs = [.int .i64 i]/\i<=(Wl5 c.threads m Wc3).length/\Sat h' (Wf1 3 1 pa' i pc (((Wl5 c.threads m Wc3).take i).map iv)*(pt TB (.cells (Wz7 c ca' j cc pa' i pc none 0 0).toArray 28)*(Wf1 58 1 ca' j cc ((ps.zip CL).flatMap W00)*(Wz8 ps CL*FR)))),λvs _=>match vs with | [.int _ i]=>(70000 - i).toNat | _=>0,⟨0,none,0,rfl,Nat.zero_le _,H6.own_new 3 1⟩,?_⟩
 rintro v157 g158 h159 ⟨i,pa',pc,e,hi,H7⟩
 cases e
 clear oc os si H6
 obtain ⟨oc,os,si⟩:=scr3 H7.drop
 have hps2:=si.f.ps
 refine ⟨λvs h'=>vs = [.bool (decide (i < (Wl5 c.threads m Wc3).length))]/\h' = h159,?_,?_⟩
 ·refine sb ?_
  refine ldR os rfl ?_
  refine sb ?_
  refine Wa3 (λc2=>?_) (λc2=>?_)
  ·rw [show decide ((i:Int) < (m:Int))=decide (i < (Wl5 c.threads m Wc3).length) by rw [decide_eq_decide];omega]
   first | done | exact ⟨by trivial,by trivial⟩ | trivial
  ·rw [decide_eq_false (by omega:¬ i < (Wl5 c.threads m Wc3).length)]
   first | done | exact ⟨by trivial,by trivial⟩ | trivial
 rintro v167 g168 h169 ⟨e,rfl⟩
 cases e
 refine sb ?_
 refine Wa3 (λc2=>?_) (λc2=>?_)
 ·have hil:i < Wc3.length:=by omega
  have htk:=W81 (f:=Yr8 c.threads) c2
  have hpi:Wc3.getD i 0=Wc3[i]:=by rw [List.getD_eq_getElem?_getD,List.getElem?_eq_getElem hil];rfl
  obtain ⟨ad,ea,hc⟩:=si.f.pk i (.int .i64 (Wc3.getD i 0)) (by rw [hpi,List.getElem?_map,List.getElem?_eq_getElem hil];rfl)
  subst ea
  generalize Wc3.getD i 0=pk at *
  refine ldR H7.at2 rfl ?_
  refine sb ?_
  refine ldR os rfl ?_
  refine sb ?_
  refine ⟨by omega,by omega,?_⟩
  try simp only [Wb8,bsx,Nat.reduceAdd,Int.reduceLE,Int.reduceLT,Int.reduceToNat]
  refine Wb4 hc ?_
  refine sb ?_
  refine ldR oc rfl ?_
  refine sb ?_
  refine ⟨by omega,?_⟩
  refine ldR oc rfl ?_
  refine sb ?_
  refine ldR oc rfl ?_
  refine sb ?_
  refine ⟨by omega,Wc8 (Wd3 H7.at2 rfl),?_⟩
  refine ZH5 (x:=Yr8 c.threads pk) H7 (by omega) λa' c' h190 H8=>?_
  refine sb ?_
  rw [Wb7] at H8
  refine H8.st (i:=8) rfl trivial λh194 H9=>?_
  try simp only [Wb8,bsx,Nat.reduceAdd,Int.reduceLE,Int.reduceLT,Int.reduceToNat]
  rw [YD0 i (by omega)]
  rw [Wb7] at H9
  refine ⟨⟨i+1,a',c',rfl,by omega,?_⟩,?_⟩
  ·have htk:(Wl5 c.threads m Wc3).take (i+1)=(Wl5 c.threads m Wc3).take i ++ [Yr8 c.threads pk]:=htk
   rw [htk]
   exact H9
  ·show ((70000:Int) - ((i+1:Nat):Int)).toNat < ((70000:Int) - (i:Int)).toNat
   omega
 have ei:i=(Wl5 c.threads m Wc3).length:=by omega
 have et:(Wl5 c.threads m Wc3).take i=Wl5 c.threads m Wc3:=List.take_of_length_le (by omega)
 rw [et] at H7
 generalize hPP:Wl5 c.threads m Wc3=PP at *
 have hDL:(draws.take 4096).length=min 4096 draws.length:=List.length_take ..
 refine ⟨λvs h'=>∃(d:Nat) (da':Option Addr) (dc:Nat),vs = [.int .i64 d]/\d<=(draws.take 4096).length/\Sat h' (Wf1 5 1 da' d dc (((draws.take 4096).take d).map u8v)*(pt TB (.cells (Wz7 c ca' j cc pa' i pc da' d dc).toArray 28)*(Wf1 3 1 pa' i pc (PP.map iv)*(Wf1 58 1 ca' j cc ((ps.zip CL).flatMap W00)*(Wz8 ps CL*FR))))),λvs _=>match vs with | [.int _ i]=>(70000 - i).toNat | _=>0,⟨0,none,0,rfl,Nat.zero_le _,?_⟩,?_⟩
 ·rw [Wb7] at H7
  exact H7.own_new 5 1
 rintro v198 g199 h200 ⟨d,da',dc,e,hd,H8⟩
 cases e
 clear oc os si H7
 obtain ⟨oc,os,si⟩:=scr3 H8.drop.drop
 have hds:=si.ds
 refine ⟨λvs h'=>vs = [.bool (decide (d < (draws.take 4096).length))]/\h' = h200,?_,?_⟩
 ·refine sb ?_
  refine ldR os rfl ?_
  refine sb ?_
  refine Wa3 (λc3=>?_) (λc3=>?_)
  ·rw [show decide ((d:Int) < 4096)=decide (d < (draws.take 4096).length) by rw [decide_eq_decide];omega]
   first | done | exact ⟨by trivial,by trivial⟩ | trivial
  ·rw [decide_eq_false (by omega:¬ d < (draws.take 4096).length)]
   first | done | exact ⟨by trivial,by trivial⟩ | trivial
 rintro v208 g209 h210 ⟨e,rfl⟩
 cases e
 refine sb ?_
 refine Wa3 (λc3=>?_) (λc3=>?_)
 ·have hdl:d < draws.length:=by omega
  have htk:(draws.take 4096).take (d+1)=(draws.take 4096).take d ++ [draws[d]]:=by
   rw [List.take_succ_eq_append_getElem c3,List.getElem_take]
  obtain ⟨ad,ea,hc⟩:=si.dr d (.int .u8 draws[d]) (by rw [List.getElem?_map,List.getElem?_eq_getElem hdl];rfl)
  subst ea
  generalize draws[d]=dk at *
  refine ldR H8.at2 rfl ?_
  refine sb ?_
  refine ldR os rfl ?_
  refine sb ?_
  refine ⟨by omega,by omega,?_⟩
  try simp only [Wb8,bsx,Nat.reduceAdd,Int.reduceLE,Int.reduceLT,Int.reduceToNat]
  refine Wb4 hc ?_
  refine sb ?_
  refine ⟨Wc8 (Wd3 H8.at2 rfl),?_⟩
  refine ZH6 (x:=dk) H8 (by omega) λa' c' h225 H9=>?_
  refine sb ?_
  rw [Wb7] at H9
  refine H9.st (i:=9) rfl trivial λh229 H10=>?_
  try simp only [Wb8,bsx,Nat.reduceAdd,Int.reduceLE,Int.reduceLT,Int.reduceToNat]
  rw [YD0 d (by omega)]
  rw [Wb7] at H10
  refine ⟨⟨d+1,a',c',rfl,by omega,by rw [htk];exact H10⟩,?_⟩
  show ((70000:Int) - ((d+1:Nat):Int)).toNat < ((70000:Int) - (d:Int)).toNat
  omega
 have ed:d=(draws.take 4096).length:=by omega
 have et2:(draws.take 4096).take d=draws.take 4096:=List.take_of_length_le (by omega)
 rw [et2] at H8
 rw [<- hFR] at H8
 have H9:Sat h210 (pt RB (.cells #[iQ 0,iQ 0,iQ 0,iQ 0,iQ 0,iQ 0,iQ 0,.slice none 0 0,.slice none 0 0,.slice none 0 0] 28)*(pt TB (.cells (Wz7 c ca' j cc pa' i pc da' d dc).toArray 28)*(pt CB (.cells #[iQ c.algo,iQ c.threads,iQ c.nodes,iQ c.level,iQ c.batch,iQ c.probes,iQ c.scan] 23)*(pt SB (.cells (Wz7 c0 ca cl cc0 pa pl pc0 da dl dc0).toArray 28)*(Wf1 58 1 ca' j cc ((ps.zip CL).flatMap W00)*(Wz8 ps CL*(Wf1 3 1 pa' i pc (PP.map iv)*(Wf1 5 1 da' d dc ((draws.take 4096).map u8v)*R)))))))):=Sat.ac H8 (by ac_rfl)
 have OT:=H9.at2
 refine ldR OT rfl (ldR OT rfl (ldR OT rfl (ldR OT rfl (ldR OT rfl (ldR OT rfl (ldR OT rfl (ldR OT rfl (ldR OT rfl (ldR OT rfl ?_)))))))))
 refine ZQ6 (Wd9 (vs:=Wz7 c ca' j cc pa' i pc da' d dc) H9.at rfl (by simp [Wz7,Wi4]) λh250 w=>?_)
 have H10:=H9.wr w.new w.old
 have OR:=H10.at
 refine ldR OR rfl (ldR OR rfl (ldR OR rfl (ldR OR rfl (ldR OR rfl (ldR OR rfl (ldR OR rfl (ldR OR rfl (ldR OR rfl (ldR OR rfl ?_)))))))))
 have eCL:CL=Wg5 c.threads.toNat n calls:=by rw [<- hCL,ej]
 have eL:CL.length=j:=by rw [<- hCL,Wx7]
 rw [eCL] at eL
 have hk:=k h250 ca' cc pa' pc da' dc ps (YC2.2 ⟨by rw [hps,eL],by rw [eL,<- eCL,<- ei,<- ed];exact H10.drop.drop.drop.drop⟩)
 rw [eL,<- ei,<- ed] at hk
 exact hk
end
end
section
open Mod
section
variable {x:Run} {sl th:Int}
theorem Zm4 (hs:0 < sl) (hne:x.t.fr≠[]) (h:Adj sl th x) (e:x.f.fn=1):Nx sl th x (alloc x):=by
 have r:=h.r hne
 rw [e] at r
 unfold alloc;dsimp only
 repeat' split
 all_goals exact Wm0
theorem YM3 (hs:0 < sl) (hne:x.t.fr≠[]) (h:Adj sl th x) (e:x.f.fn=2):Nx sl th x (Wu1 x):=by
 have r:=h.r hne
 rw [e] at r
 unfold Wu1;dsimp only
 repeat' split
 all_goals exact Wm0
theorem YM4 (hs:0 < sl) (hne:x.t.fr≠[]) (h:Adj sl th x) (e:x.f.fn=3):Nx sl th x (Wu3 x):=by
 have r:=h.r hne
 rw [e] at r
 unfold Wu3;dsimp only
 repeat' split
 all_goals exact Wm0
theorem Zz2 (hsl:sl=x.m.p.slots) (hs:0 < sl) (hne:x.t.fr≠[]) (h:Adj sl th x) (e:x.f.fn=4):Nx sl th x (YW9 x):=by
 have r:=h.r hne
 rw [e] at r
 unfold YW9;dsimp only
 split
 ·rename_i c
  refine ⟨by exact Yk1,.inr (AdjR.ltPop r hne rfl r hne ?_)⟩
  have c2:fA sl th 4 x.f.pc=false:=by simp [fA];omega
  rw [c2]
  simp [fW]
 ·exact Wm0
theorem Zz3 (y:Run) (r:List Int) (h:y.t.fr≠[]):(y.pop r).t.fr.reverse=rst y:=by
 show (y.t.pop r).fr.reverse=_
 unfold Thr.pop
 rw [if_neg h]
 rfl
theorem Y64 (ha:0 < sl*th) (hne:x.t.fr≠[]) (h:Adj sl th x) (e:x.f.fn=5):Nx sl th x (WB1 x):=by
 have r:=h.r hne
 rw [e] at r
 unfold WB1;dsimp only
 generalize hz:((x.gh λg=>g.turn (s64 (x.f.g 0)) 1 2 2).re ((x.gh λg=>g.turn (s64 (x.f.g 0)) 1 2 2).t.retired ++ [s64 (x.f.g 0)]))=z
 have hzn:z.t.fr≠[]:=by subst hz;exact hne
 have rz:AdjR sl th 5 (rst x) z:=by subst hz;exact r.gh.re
 have hm:mu sl th x=3+muL sl th (rst x):=by
  rw [r.mu hne rfl]
  simp [fW,fA]
 have hp:(z.pop []).t.fr.reverse=rst x:=by rw [Zz3 _ _ hzn];exact rz.e
 split
 ·refine ⟨Adj.push rz.pop ?_,.inr ?_⟩
  ·rw [hp]
   cases hl:rst x with
   | nil=>trivial
   | cons f l=>
    have o:=r.o
    rw [hl] at o
    exact o
  ·rw [W78,hm]
   simp [fW,fA,ha]
   omega
 ·refine ⟨rz.pop,.inr ?_⟩
  rw [Y58 _ hzn,rz.e,hm]
  omega
theorem AdjR.push {fn i:Int} {l:List Frm} {r:List Int} {y:Run} (h:AdjR sl th fn l y) (hne:y.t.fr≠[]) (hd:fR i < fR fn):Adj sl th (y.push i r):=by
 refine Adj.push (h.all hne) ?_
 rw [WO4 hne]
 exact .inr (by rw [h.f];exact hd)
theorem Zz4 (hsl:sl=x.m.p.slots) (hth:th=x.m.p.c.threads) (hne:x.t.fr≠[]) (h:Adj sl th x) (e:x.f.fn=6):Nx sl th x (scan x):=by
 have r:=h.r hne
 rw [e] at r
 have h0:∀y:Run,y=(if x.f.pc=0 then x.fo [] else x)->AdjR sl th 6 (rst x) y/\y.t.fr≠[]/\y.f.pc=x.f.pc:=by
  rintro y rfl
  split
  ·exact ⟨r.fo,hne,rfl⟩
  ·exact ⟨r,hne,rfl⟩
 unfold scan
 dsimp only
 generalize hy:(if x.f.pc=0 then x.fo [] else x)=y
 obtain ⟨ry,hny,hpc⟩:=h0 y hy.symm
 rw [<- hsl,<- hth]
 split
 ·exact ⟨by exact Yk1,.inl (by (focus (refine Tch.act ?_;(with_reducible repeat' constructor))))⟩
 ·rename_i c
  have hm:mu sl th x=2+muL sl th (rst x):=by
   rw [r.mu hne rfl]
   have c2:fA sl th 6 x.f.pc=false:=by simp [fA];omega
   rw [c2]
   simp [fW]
  have hA:AdjR sl th 6 (rst x) (WF0 y (sl*th))/\(WF0 y (sl*th)).t.fr≠[]:=by
   unfold WF0
   split
   ·exact ⟨by exact W38,Ws1 _ _⟩
   ·exact ⟨ry,hny⟩
  generalize WF0 y (sl*th)=z at *
  obtain ⟨rz,hzn⟩:=hA
  unfold W54
  split
  ·refine ⟨rz.pop,.inr ?_⟩
   rw [Y58 _ hzn,rz.e,hm]
   omega
  ·rename_i n rest e2
   refine ⟨AdjR.push (l:=rst x) (fn:=6) (by exact W38) hzn (by decide),.inr ?_⟩
   rw [W78,hm]
   simp [fW,fA]
   omega
theorem YM5 (hs:0 < sl) (hne:x.t.fr≠[]) (h:Adj sl th x) (e:x.f.fn=1\/x.f.fn=2):Nx sl th x (Wu2 x):=by
 unfold Wu2
 rw [if_neg hne]
 rcases e with e | e
 ·rw [if_pos e];exact Zm4 hs hne h e
 ·rw [if_neg (by omega),if_pos e];exact YM3 hs hne h e
theorem WH7 (hsl:sl=x.m.p.slots) (hth:th=x.m.p.c.threads) (hs:0 < sl) (ha:0 < sl*th) (hne:x.t.fr≠[]) (h:Adj sl th x) (e:1<=x.f.fn/\x.f.fn<=6):Nx sl th x (Wl1 x):=by
 unfold Wl1
 rw [if_neg hne]
 by_cases e3:x.f.fn=3
 ·rw [if_pos e3];exact YM4 hs hne h e3
 rw [if_neg e3]
 by_cases e4:x.f.fn=4
 ·rw [if_pos e4];exact Zz2 hsl hs hne h e4
 rw [if_neg e4]
 by_cases e5:x.f.fn=5
 ·rw [if_pos e5];exact Y64 ha hne h e5
 rw [if_neg e5]
 by_cases e6:x.f.fn=6
 ·rw [if_pos e6];exact Zz4 hsl hth hne h e6
 rw [if_neg e6]
 exact YM5 hs hne h (by omega)
end
end
section
open Mod
theorem Y65 (c:Int):∀(k i:Nat),(i:Int)<=lev c k i/\lev c k i<=i+k/\(1<=k->(i:Int)+1<=lev c k i)
 | 0,i=>by unfold lev;omega
 | k+1,i=>by
  have ih:=Y65 c k (i+1)
  unfold lev
  split <;> omega
theorem Zz5 (m:Mac) {n:Int} (h:1<=n):1<=(m.lvl n).1/\(m.lvl n).1<=n:=by
 unfold Mac.lvl
 rw [if_neg (by omega)]
 have:=Y65 m.take.1 n.toNat 0
 show 1<=lev m.take.1 n.toNat 0/\lev m.take.1 n.toNat 0<=n
 omega
def Wl9 (L sl th:Int) (f:Frm):Prop:=Wx8 sl th f\/f.r.length=10/\(f.fn=21/\(0<=f.pc/\f.pc<=17\/f.pc=90)/\(3<=f.pc->f.pc<=14->1<=f.g 3/\f.g 3<=L)/\(f.pc=9\/f.pc=10\/f.pc=13\/f.pc=14->0<=f.g 5/\f.g 5 < f.g 3)/\(f.pc=12->0<=f.g 5) \/
 (f.fn=22\/f.fn=23)/\(0<=f.pc/\f.pc<=13\/f.pc=90)\/f.fn=20/\0<=f.pc/\f.pc<=8/\(f.pc≠0->0<=s64 (f.g 1)/\s64 (f.g 1) < L))
theorem Ww0 {L sl th fn:Int} {l:List Int} (h:1<=fn/\fn<=6\/20<=fn/\fn<=23) (hs:0<=sl) (ht:0<=sl*th):Wl9 L sl th ⟨fn,0,pad 10 l⟩:=by
 by_cases c:fn<=6
 ·exact .inl (Yh3 (by omega) hs ht)
 ·refine .inr ⟨Wy9 _ _,?_⟩
  dsimp only
  omega
theorem Yt1 {L sl th:Int} {f:Frm} (h:Wl9 L sl th f) (e:f.fn=21):f.r.length=10/\(0<=f.pc/\f.pc<=17\/f.pc=90)/\(3<=f.pc->f.pc<=14->1<=f.g 3/\f.g 3<=L)/\(f.pc=9\/f.pc=10\/f.pc=13\/f.pc=14->0<=f.g 5/\f.g 5 < f.g 3)/\(f.pc=12->0<=f.g 5):=by
 unfold Wl9 Wx8 at h
 rcases h with ⟨h0,h1⟩ | ⟨h0,h1⟩
 ·exact ⟨h0,by omega,by omega,by omega,by omega⟩
 ·refine ⟨h0,?_⟩
  rcases h1 with h1 | h1 | h1
  ·exact h1.2
  ·omega
  ·omega
theorem Zm5 {L sl th:Int} {f:Frm} (h:Wl9 L sl th f) (e:f.fn=22\/f.fn=23):f.r.length=10/\(0<=f.pc/\f.pc<=13\/f.pc=90):=by
 unfold Wl9 Wx8 at h
 rcases h with ⟨h0,h1⟩ | ⟨h0,h1⟩
 ·exact ⟨h0,by omega⟩
 ·refine ⟨h0,?_⟩
  rcases h1 with h1 | h1 | h1
  ·omega
  ·exact h1.2
  ·omega
theorem Zz6 {L sl th:Int} {f:Frm} (h:Wl9 L sl th f) (e:f.fn=20):f.r.length=10/\0<=f.pc/\f.pc<=8/\(f.pc≠0->0<=s64 (f.g 1)/\s64 (f.g 1) < L):=by
 unfold Wl9 Wx8 at h
 rcases h with ⟨h0,h1⟩ | ⟨h0,h1⟩
 ·exact ⟨h0,by omega,by omega,by omega⟩
 ·refine ⟨h0,?_⟩
  rcases h1 with h1 | h1 | h1
  ·omega
  ·omega
  ·exact h1.2
theorem ZO9 {L sl th:Int} {f:Frm} (h:Wl9 L sl th f) (e:¬ (20<=f.fn/\f.fn<=23)):Wx8 sl th f:=by
 unfold Wl9 at h
 rcases h with h | ⟨_,h⟩
 ·exact h
 ·omega
section
variable {x:Run} {L sl th:Int}
theorem Ww4 (x:Run) (a:Int):(x.drop1 a).2.f=x.f:=rfl
theorem Wr3 (x:Run) (a b c:Int):(x.swingA a b c).2.f=x.f:=rfl
theorem Yt2 (h:AllF (Wl9 L sl th) x) (hL:L=x.m.p.c.level) (hl:1<=L/\L<=6) (s0:0<=sl) (t0:0<=sl*th) (o:Wl9 L sl th x.f) (e:x.f.fn=21):AllF (Wl9 L sl th) (Wu6 x):=by
 have r:=h.rest
 obtain ⟨len,o1,o2,o3,o4⟩:=Yt1 o e
 unfold Wu6;dsimp only
 repeat' split
 all_goals (refine Wm1 ?_;first | with_reducible assumption | ((with_reducible first | apply Rest.pop | apply Rest.call | apply Rest.allPc | apply Rest.allS | apply Rest.fin);exact Wd0))
 ·exact YS3
 ·exact Ww0 (by omega) s0 t0
 ·exact YS3
 ·exact YS3
 ·exact Ww0 (by omega) s0 t0
 ·exact YS3
 ·exact Ww0 (by omega) s0 t0
theorem Y66 (h:AllF (Wl9 L sl th) x) (hL:L=x.m.p.c.level) (hl:1<=L/\L<=6) (s0:0<=sl) (t0:0<=sl*th) (o:Wl9 L sl th x.f) (e:x.f.fn=21) (hp:3<=x.f.pc/\x.f.pc<=7):AllF (Wl9 L sl th) (WZ4 x):=by
 have r:=h.rest
 obtain ⟨len,o1,o2,o3,o4⟩:=Yt1 o e
 have u5:0<=Mod.u64 (x.f.g 5+1):=by unfold Mod.u64;omega
 unfold WZ4;dsimp only
 repeat' split
 all_goals (refine Wm1 ?_;first | with_reducible assumption | ((with_reducible first | apply Rest.pop | apply Rest.call | apply Rest.allPc | apply Rest.allS | apply Rest.fin);exact Wd0))
 all_goals first | exact Ww0 (by omega) s0 t0 | exact YS3
theorem Yt3 (h:AllF (Wl9 L sl th) x) (hL:L=x.m.p.c.level) (hl:1<=L/\L<=6) (s0:0<=sl) (t0:0<=sl*th) (o:Wl9 L sl th x.f) (e:x.f.fn=21) (hp:12<=x.f.pc/\x.f.pc<=14):AllF (Wl9 L sl th) (Wu5 x):=by
 have r:=h.rest
 obtain ⟨len,o1,o2,o3,o4⟩:=Yt1 o e
 have u5:0<=Mod.u64 (x.f.g 5+1):=by unfold Mod.u64;omega
 unfold Wu5;dsimp only
 repeat' split
 all_goals (refine Wm1 ?_;first | with_reducible assumption | ((with_reducible first | apply Rest.pop | apply Rest.call | apply Rest.allPc | apply Rest.allS | apply Rest.fin);exact Wd0))
 all_goals first | exact Ww0 (by omega) s0 t0 | exact YS3
theorem Yt4 (h:AllF (Wl9 L sl th) x) (hL:L=x.m.p.c.level) (hl:1<=L/\L<=6) (s0:0<=sl) (t0:0<=sl*th) (o:Wl9 L sl th x.f) (e:x.f.fn=21) (hp:8<=x.f.pc/\x.f.pc<=11):AllF (Wl9 L sl th) (Wu4 x):=by
 have r:=h.rest
 obtain ⟨len,o1,o2,o3,o4⟩:=Yt1 o e
 have u5:0<=Mod.u64 (x.f.g 5+1):=by unfold Mod.u64;omega
 have g3:=o2 (by omega) (by omega)
 unfold Wu4;dsimp only
 repeat' split
 all_goals (refine Wm1 ?_;first | with_reducible assumption | ((with_reducible first | apply Rest.pop | apply Rest.call | apply Rest.allPc | apply Rest.allS | apply Rest.fin);exact Wd0))
 all_goals first | exact Ww0 (by omega) s0 t0 | exact YS3 | skip
 rw [f_s]
 have e3:((x.f.s 5 0).at 9).g 3=x.f.g 3:=by rw [WP0,Wa7 _ (by decide)]
 have e5:((x.f.s 5 0).at 9).g 5=0:=by rw [WP0,g_s len (by decide)]
 refine .inr ⟨by rw [Wh4,Wj1];exact len,.inl ⟨e,.inl ⟨by rw [Wz0];omega,by rw [Wz0];omega⟩,λ_ _=>by rw [e3];exact g3,λ_=>by rw [e3,e5];omega,λ_=>by rw [e5];omega⟩⟩
theorem Y67 {f:Frm} (len:f.r.length=10) (e:f.fn=22\/f.fn=23) (hp:0<=f.pc/\f.pc<=13\/f.pc=90):Wl9 L sl th f:=.inr ⟨len,.inr (.inl ⟨e,hp⟩)⟩
theorem YM6 (h:AllF (Wl9 L sl th) x) (s0:0<=sl) (t0:0<=sl*th) (o:Wl9 L sl th x.f) (e:x.f.fn=22\/x.f.fn=23):AllF (Wl9 L sl th) (Wv3 x):=by
 have r:=h.rest
 obtain ⟨len,o1⟩:=Zm5 o e
 unfold Wv3 Wv2;dsimp only
 repeat' split
 all_goals (refine Wm1 ?_;first | with_reducible assumption | ((with_reducible first | apply Rest.pop | apply Rest.call | apply Rest.allPc | apply Rest.allS | apply Rest.fin);exact Wd0))
 all_goals first | exact Ww0 (by omega) s0 t0 | exact Ze0 | exact ZK3
theorem YM7 (h:AllF (Wl9 L sl th) x) (s0:0<=sl) (t0:0<=sl*th) (o:Wl9 L sl th x.f) (e:x.f.fn=22\/x.f.fn=23):AllF (Wl9 L sl th) (Wv4 x):=by
 have r:=h.rest
 obtain ⟨len,o1⟩:=Zm5 o e
 unfold Wv4;dsimp only
 repeat' split
 all_goals (refine Wm1 ?_;first | with_reducible assumption | ((with_reducible first | apply Rest.pop | apply Rest.call | apply Rest.allPc | apply Rest.allS | apply Rest.fin);exact Wd0))
 all_goals first | exact Ww0 (by omega) s0 t0 | exact Ze0 | exact ZK3
theorem YM8 (h:AllF (Wl9 L sl th) x) (s0:0<=sl) (t0:0<=sl*th) (o:Wl9 L sl th x.f) (e:x.f.fn=22\/x.f.fn=23):AllF (Wl9 L sl th) (Wv5 x):=by
 have r:=h.rest
 obtain ⟨len,o1⟩:=Zm5 o e
 unfold Wv5;dsimp only
 repeat' split
 all_goals (refine Wm1 ?_;first | with_reducible assumption | ((with_reducible first | apply Rest.pop | apply Rest.call | apply Rest.allPc | apply Rest.allS | apply Rest.fin);exact Wd0))
 all_goals first | exact Ww0 (by omega) s0 t0 | exact Ze0 | exact ZK3
theorem Yt5 (h:AllF (Wl9 L sl th) x) (s0:0<=sl) (t0:0<=sl*th) (o:Wl9 L sl th x.f) (e:x.f.fn=22\/x.f.fn=23):AllF (Wl9 L sl th) (Wo6 x):=by
 have r:=h.rest
 obtain ⟨len,o1⟩:=Zm5 o e
 unfold Wo6 Wv2;dsimp only
 repeat' split
 all_goals (refine Wm1 ?_;first | with_reducible assumption | ((with_reducible first | apply Rest.pop | apply Rest.call | apply Rest.allPc | apply Rest.allS | apply Rest.fin);exact Wd0))
 all_goals first | exact Ww0 (by omega) s0 t0 | exact Ze0 | exact ZK3
end
end
end Go.Proofs.YtahpbclnkofhfaaGreat
