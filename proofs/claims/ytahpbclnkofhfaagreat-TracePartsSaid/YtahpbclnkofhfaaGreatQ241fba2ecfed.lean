/- Part 8 of what the proofs of this seat rest on: see the last text of the claim. -/
import Derived.Test.YtahpbclnkofhfaaGreatQa97d2eb80882
import Derived.Test.YtahpbclnkofhfaaGreatProg
set_option linter.unusedSimpArgs false
set_option linter.unusedVariables false
set_option linter.ambiguousOpen false
set_option maxRecDepth 20000
namespace Go.Proofs.YtahpbclnkofhfaaGreat
section
open Mod
def Thr.setRe (t:Thr) (l:List Int):Thr:={ t with retired:=l }
def Thr.setFo (t:Thr) (l:List Int):Thr:={ t with found:=l }
theorem W62 {h:Wa1} {T:Nat} {fo:Option (Nat × Nat)} {t:Thr} {id:Int} {R:Hp} (H:Sat h (Wi6 T fo t id*R)):∃a c,Wa3 h ⟨T,8,none⟩=some (.slice a t.retired.length c)/\OwnI h a t.retired.length c t.retired:=by
 obtain ⟨B,x,H0⟩:=Wd7.1 H
 exact ⟨_,_,Wd3 H0.at rfl,Sat.own (Sat.drop (Sat.drop (Sat.drop (Sat.drop (Sat.drop H0)))))⟩
theorem YU1 {h:Wa1} {T:Nat} {fo:Option (Nat × Nat)} {t:Thr} {id:Int} {R:Hp} (H:Sat h (Wi6 T fo t id*R)):∃a c,Wa3 h ⟨T,9,none⟩=some (.slice a t.found.length c)/\OwnF h a t.found.length c t.found:=by
 obtain ⟨B,x,H0⟩:=Wd7.1 H
 exact ⟨_,_,Wd3 H0.at rfl,Sat.ownf (Sat.drop (Sat.drop (Sat.drop (Sat.drop (Sat.drop (Sat.drop H0))))))⟩
theorem Yk8 {h:Wa1} {T:Nat} {fo:Option (Nat × Nat)} {t:Thr} {id:Int} {R:Hp} {a:Option Addr} {l c:Nat} {xs:List Int} {K:Wa1->Prop} (H:Sat h (Wf2 3 1 a l c (xs.map iv)*(Wi6 T fo t id*R))) (hx:∀v ∈ xs,iN v) (hl:l<=1073741824)
  (k:∀h',Sat h' (Wi6 T fo (Thr.setRe t xs) id*R)->K h'):stH h ⟨T,8,none⟩ (.slice a l c) K:=by
 have hlen:xs.length=l:=by have:=H.own.1;simpa using this
 rw [Wb8] at H
 obtain ⟨B,x,H0⟩:=Wd7.1 H
 refine H0.st rfl trivial λh' H1=>k h' (Wd7.2 ⟨{ B with re:=a,ren:=c },⟨?_,?_⟩,?_⟩)
 ·obtain ⟨b1,b2,b3,b4,b5,b6,b7,b8⟩:=x.1
  exact ⟨b1,b2,b3,b4,b5,hx,b7,by unfold Thr.setRe;simp only;omega⟩
 ·exact x.2
 ·unfold Thr.setRe WL4
  simp only [hlen]
  refine Sat.drop (P:=Wf2 3 1 B.re t.retired.length B.ren (t.retired.map iv)) (Sat.ac H1 ?_)
  simp only [List.set_cons_succ,List.set_cons_zero]
  ac_rfl
theorem Yk9 {h:Wa1} {T:Nat} {fo:Option (Nat × Nat)} {t:Thr} {id:Int} {R:Hp} {a:Option Addr} {l c:Nat} {xs:List Int} {K:Wa1->Prop} (H:Sat h (WG9 a l c xs*(Wi6 T fo t id*R))) (hx:∀v ∈ xs,iN v) (hl:l<=1073741824)
  (k:∀h',Sat h' (Wi6 T fo (Thr.setFo t xs) id*R)->K h'):stH h ⟨T,9,none⟩ (.slice a l c) K:=by
 have hlen:xs.length=l:=H.ownf.1
 rw [Wb8] at H
 obtain ⟨B,x,H0⟩:=Wd7.1 H
 refine H0.st rfl trivial λh' H1=>k h' (Wd7.2 ⟨{ B with fo:=a,fon:=c },⟨?_,?_⟩,?_⟩)
 ·obtain ⟨b1,b2,b3,b4,b5,b6,b7,b8⟩:=x.1
  exact ⟨b1,b2,b3,b4,b5,b6,hx,by unfold Thr.setFo;simp only;omega⟩
 ·exact x.2
 ·unfold Thr.setFo WL4
  simp only [hlen]
  refine Sat.drop (P:=WG9 B.fo t.found.length B.fon t.found) (Sat.ac H1 ?_)
  simp only [List.set_cons_succ,List.set_cons_zero]
  ac_rfl
theorem WI8 {h:Wa1} {T:Nat} {fo:Option (Nat × Nat)} {t:Thr} {id:Int} {R:Hp} (H:Sat h (Wi6 T fo t id*R)):∃a c,∃Q:Hp,(∀h' P,Sat h' (Q*P)->Wa3 h' ⟨T,9,none⟩=some (.slice a t.found.length c))/\Sat h (WG9 a t.found.length c t.found*(Q*R)) /\
  ∀R' h' a' l' c' xs,l'<=1073741824->(∀v ∈ xs,iN v)->Sat h' (WG9 a' l' c' xs*(Q*R'))->∀K:Wa1->Prop,(∀h'',Sat h'' (Wi6 T fo (Thr.setFo t xs) id*R')->K h'')->stH h' ⟨T,9,none⟩ (.slice a' l' c') K:=by
 obtain ⟨B,x,H0⟩:=Wd7.1 H
 refine ⟨B.fo,B.fon,pt T (.cells (WL4 B t id).toArray 183)*(Wf2 190 12 B.fr t.fr.length B.frn (t.fr.flatMap frc)*(pt B.pred (.cells (uvs t.pred).toArray 178)*(pt B.succ (.cells (uvs t.succ).toArray 178)*(pt B.word (.cells (uvs t.word).toArray 178)*Wf2 3 1 B.re t.retired.length B.ren (t.retired.map iv))))),λh' P HQ=>Wd3 (Sat.at (Wc4 _ _ _ ▸ HQ)) rfl,Sat.ac H0 (by ac_rfl),?_⟩
 intro R' h' a' l' c' xs hl hx H1 K k
 have hlen:xs.length=l':=H1.ownf.1
 have H2:Sat h' (pt T (.cells (WL4 B t id).toArray 183)*(Wf2 190 12 B.fr t.fr.length B.frn (t.fr.flatMap frc)*(pt B.pred (.cells (uvs t.pred).toArray 178)*(pt B.succ (.cells (uvs t.succ).toArray 178)*(pt B.word (.cells (uvs t.word).toArray 178)*(Wf2 3 1 B.re t.retired.length B.ren (t.retired.map iv)*(WG9 a' l' c' xs*R'))))))):=Sat.ac H1 (by ac_rfl)
 refine H2.st rfl trivial λh'' H3=>k h'' (Wd7.2 ⟨{ B with fo:=a',fon:=c' },⟨?_,?_⟩,?_⟩)
 ·obtain ⟨b1,b2,b3,b4,b5,b6,b7,b8⟩:=x.1
  exact ⟨b1,b2,b3,b4,b5,b6,hx,by unfold Thr.setFo;simp only;omega⟩
 ·exact x.2
 ·unfold Thr.setFo WL4
  simp only [hlen]
  exact H3
theorem W63 {h:Wa1} {T:Nat} {fo:Option (Nat × Nat)} {t:Thr} {id:Int} {R:Hp} (H:Sat h (Wi6 T fo t id*R)):∃a c,∃Q:Hp,(∀h' P,Sat h' (Q*P)->Wa3 h' ⟨T,8,none⟩=some (.slice a t.retired.length c))/\Sat h (Wf2 3 1 a t.retired.length c (t.retired.map iv)*(Q*R)) /\
  ∀R' h' a' l' c' xs,l'<=1073741824->(∀v ∈ xs,iN v)->Sat h' (Wf2 3 1 a' l' c' (xs.map iv)*(Q*R'))->∀K:Wa1->Prop,(∀h'',Sat h'' (Wi6 T fo (Thr.setRe t xs) id*R')->K h'')->stH h' ⟨T,8,none⟩ (.slice a' l' c') K:=by
 obtain ⟨B,x,H0⟩:=Wd7.1 H
 refine ⟨B.re,B.ren,pt T (.cells (WL4 B t id).toArray 183)*(Wf2 190 12 B.fr t.fr.length B.frn (t.fr.flatMap frc)*(pt B.pred (.cells (uvs t.pred).toArray 178)*(pt B.succ (.cells (uvs t.succ).toArray 178)*(pt B.word (.cells (uvs t.word).toArray 178)*WG9 B.fo t.found.length B.fon t.found)))),λh' P HQ=>Wd3 (Sat.at (Wc4 _ _ _ ▸ HQ)) rfl,Sat.ac H0 (by ac_rfl),?_⟩
 intro R' h' a' l' c' xs hl hx H1 K k
 have hlen:xs.length=l':=by have:=H1.own.1;simpa using this
 have H2:Sat h' (pt T (.cells (WL4 B t id).toArray 183)*(Wf2 190 12 B.fr t.fr.length B.frn (t.fr.flatMap frc)*(pt B.pred (.cells (uvs t.pred).toArray 178)*(pt B.succ (.cells (uvs t.succ).toArray 178)*(pt B.word (.cells (uvs t.word).toArray 178)*(Wf2 3 1 a' l' c' (xs.map iv)*(WG9 B.fo t.found.length B.fon t.found*R'))))))):=Sat.ac H1 (by ac_rfl)
 refine H2.st rfl trivial λh'' H3=>k h'' (Wd7.2 ⟨{ B with re:=a',ren:=c' },⟨?_,?_⟩,?_⟩)
 ·obtain ⟨b1,b2,b3,b4,b5,b6,b7,b8⟩:=x.1
  exact ⟨b1,b2,b3,b4,b5,hx,b7,by unfold Thr.setRe;simp only;omega⟩
 ·exact x.2
 ·unfold Thr.setRe WL4
  simp only [hlen]
  exact H3
theorem Sat.app1 {h:Wa1} {a:Option Addr} {l c:Nat} {xs:List Int} {y:Int} {K:kQ} {R:Hp} (H:Sat h (Wf2 3 1 a l c (xs.map iv)*R)) (hl:l<=1099511627776) (k:∀a' c' h',Sat h' (Wf2 3 1 a' (l+1) c' ((xs ++ [y]).map iv)*R)->K (.slice a' (l+1) c') h') :
  Wp5 Tryz.prog #[25,25] 25 #[.slice a l c,.slice (some (aQ h.size)) 1 1] (h.push (.cells #[iQ y] 3)) K:=by
 have H1:=H.push (.cells #[iQ y] 3)
 generalize h.push (.cells #[iQ y] 3)=h1 at *
 generalize h.size=N at *
 have hs:Sees h1 (some (aQ N)) [iv y]:=λi v hi=>⟨_,rfl,by rw [Wc1,Nat.zero_add,Wb4 H1.at];simpa using hi⟩
 rw [Wb8,<- Wi9] at H1
 refine H1.app WE3 Wy5 WR2 (by rw [Wi9];rfl) hs (n:=1) (by rw [Wi9];rfl) (by simp [Wh0]) (by rw [Wt0];omega) (by rw [Wt0];omega) λa' c' h' H2=>k a' c' h' ?_
 rw [Wi9] at H2
 rw [List.map_append]
 exact H2.drop2
theorem Sat.appF {h:Wa1} {a:Option Addr} {l c:Nat} {xs:List Int} {y:Int} {K:kQ} {R:Hp} (H:Sat h (WG9 a l c xs*R)) (hl:l<=1099511627776) (k:∀a' c' h',Sat h' (WG9 a' (l+1) c' (xs ++ [y])*R)->K (.slice a' (l+1) c') h') :
  Wp5 Tryz.prog #[25,25] 25 #[.slice a l c,.slice (some (aQ h.size)) 1 1] (h.push (.cells #[iQ y] 3)) K:=by
 have H1:=H.push (.cells #[iQ y] 3)
 generalize h.push (.cells #[iQ y] 3)=h1 at *
 generalize h.size=N at *
 have hs:Sees h1 (some (aQ N)) [iv y]:=λi v hi=>⟨_,rfl,by rw [Wc1,Nat.zero_add,Wb4 H1.at];simpa using hi⟩
 have H2:=H1.drop
 obtain ⟨ow,hlt,re⟩:=H2.opn
 have hxl:=ow.1
 refine YH7 WE3 Wy5 WR2 (by rw [Wi9];rfl) ow.ri.s (by rw [Wi9,List.length_map];omega) ow.2.1 hs (n:=1) (by rw [Wi9];rfl) (by simp [Wh0]) (by rw [Wt0];omega) (by rw [Wt0];omega) (λhc ad ea=>?_) (λhc ea=>?_) (λc' h' o' old=>?_)
 ·rw [Wi9,Nat.mul_one]
  obtain ⟨h1',h2',h3'⟩:=ow
  rcases h3' with ⟨e,_⟩ | ⟨b,o,row,e,hb,hsz,ht⟩
  ·rw [ea] at e;cases e
  ·rw [ea] at e
   cases e
   rw [Wc1]
   have hbl:=(Array.getElem?_eq_some_iff.1 hb).1
   refine WB0 [iv y] h1 b (o+l) 0 row _ _ hb (by simp;omega) (by simp [Wh0]) λrow' r1 r2=>?_
   have hlen:(row.toList.drop o).length >= l:=by rw [List.length_drop,Array.length_toList];omega
   refine k a c _ (re _ (blk a) (λh=>OwnF h a (l+1) c (xs ++ [y])) ⟨by simp,λc2 hc2 hn=>Wj6 λe=>hn ⟨_,ea,e.symm⟩⟩ (λb2 hb2=>⟨.inl hb2,by simpa using hlt b2 hb2⟩) (λb2 ob hb2 e2 x hx=>?_) λh'' e2=>?_)
   ·obtain ⟨ad2,ea2,rfl⟩:=hb2
    rw [ea] at ea2;cases ea2
    rw [Wi8 hbl] at e2;cases e2;cases hx
   ·refine ⟨by simp;omega,hc,.inr ⟨b,o,row',ea,(e2 b ⟨_,ea,rfl⟩).trans (Wi8 hbl),by omega,?_⟩⟩
    apply List.ext_getElem?
    intro j
    rw [List.getElem?_take,List.getElem?_drop,Array.getElem?_toList,r2]
    have hx:∀j,j < l->(xs.map iv)[j]? = row[o+j]?:=λj hj=>by rw [<- ht,List.getElem?_take,if_pos hj,List.getElem?_drop,Array.getElem?_toList]
    simp only [List.length_singleton,List.map_append,List.map_cons,List.map_nil]
    by_cases c1:j < l
    ·rw [if_pos (by omega),if_neg (by omega),List.getElem?_append_left (by simp;omega),hx j c1]
    ·by_cases c2:j=l
     ·subst c2
      rw [if_pos (by omega),if_pos (by omega),List.getElem?_append_right (by simp;omega),List.length_map,h1']
      congr 1;omega
     ·rw [if_neg (by omega)]
      symm;apply List.getElem?_eq_none;simp;omega
 ·obtain ⟨h1',h2',h3'⟩:=ow
  rcases h3' with ⟨_,e⟩ | ⟨b,o,row,e,_⟩
  ·omega
  ·rw [ea] at e;cases e
 ·have o2:OwnF h' (some (aQ h1.size)) (l+1) c' (xs ++ [y]):=OwnF.of (by rw [Wi9] at o';unfold OwnI;simpa using o')
  have H3:Sat h' (WG9 (some ⟨h1.size,0,none⟩) (l+1) c' (xs ++ [y])*(WG9 a l c xs*R)):=H2.mk_new old (λb hb=>⟨by obtain ⟨ad,e,rfl⟩:=hb;cases e;exact Nat.le_refl _,o2.lt2 hb⟩) o2.nd λh'' e=>o2.congr e
  exact k _ c' h' H3.drop2
theorem WS7 {K:kQ} {h:Wa1} {T:Nat} {fo:Option (Nat × Nat)} {t:Thr} {id:Int} {R:Hp} {y:Int} (H:Sat h (Wi6 T fo t id*R)) (hy:iN y) (hl:t.retired.length < 1073741824) (k:∀h',Sat h' (Wi6 T fo (Thr.setRe t (t.retired ++ [y])) id*R)->K (.tuple #[]) h') :
  Wa4 Tryz.prog 235 #[.pointer (some ⟨T,8,none⟩),iQ y] h K:=by
 refine call235 ?_
 unfold F235 lS nP
 obtain ⟨a,c,Q,e,H1,re⟩:=W63 H
 have e0:=e h _ H1.drop
 have hB:=(Yd4 H).re
 refine sb ?_
 refine Wb5 e0 ?_
 refine sb ?_
 refine H1.app1 (by omega) λa' c' h' H2=>?_
 refine sb ?_
 refine re _ h' a' _ c' _ (by omega) (λv hv=>?_) H2 _ k
 rcases List.mem_append.1 hv with h1 | h1
 ·exact hB v h1
 ·rw [List.mem_singleton.1 h1];exact hy
theorem WC7 {K:kQ} {h:Wa1} {T:Nat} {fo:Option (Nat × Nat)} {t:Thr} {id:Int} {R:Hp} (H:Sat h (Wi6 T fo t id*R)) (k:K (iQ (t.retired.length:Int)) h) :
  Wa4 Tryz.prog 211 #[.pointer (some ⟨T,8,none⟩)] h K:=by
 refine call211 ?_
 unfold F211 lS nP
 obtain ⟨a,c,e0,ow⟩:=W62 H
 refine sb ?_
 refine Wb5 e0 ?_
 refine sb ?_
 exact k
theorem New.part {h h':Wa1} {a:Option Addr} {l c:Nat} {xs:List Int} {R:Hp} (H:New h h' a l c xs) (S:Sat h R) (o:Old h.size h h'):∃Q:Hp,Sat h' (Q*R)/\∀h P,Sat h (Q*P)->RI h a l c xs:=by
 rcases H with ⟨h1,h2,h3⟩ | ⟨h1,h2⟩
 ·subst h1;subst h2;subst h3
  exact ⟨emp,by rw [Wi4];exact S.old o,λh P _=>⟨Sees.nil _ _,rfl,Nat.le_refl _⟩⟩
 ·refine ⟨Wf2 3 1 a l c (xs.map iv),S.mk_new o (λb hb=>?_) h1.nd λh'' e=>h1.congr e,λh P S=>OwnI.ri S.own⟩
  refine ⟨?_,h1.lt2 hb⟩
  obtain ⟨ad,e,rfl⟩:=hb
  exact h2 ad e
theorem WS8 {K:kQ} {h:Wa1} {T:Nat} {fo:Option (Nat × Nat)} {t:Thr} {id:Int} {R:Hp} (H:Sat h (Wi6 T fo t id*R)) (k:∀a' c' h' Q,Sat h' (Q*(Wi6 T fo t id*R))->(∀h P,Sat h (Q*P)->RI h a' t.retired.length c' t.retired)->K (.slice a' t.retired.length c') h') :
  Wa4 Tryz.prog 238 #[.pointer (some ⟨T,8,none⟩)] h K:=by
 refine call238 ?_
 unfold F238 cf lS nP
 obtain ⟨a,c,e0,ow⟩:=W62 H
 have hB:=(Yd4 H).len
 refine sb ?_
 refine Wb5 e0 ?_
 refine sb ?_
 refine Wa0 (Ys6 (OwnI.ri ow) (by omega) λa' c' h' hn o=>?_)
 refine sb ?_
 obtain ⟨Q,h1,h2⟩:=hn.part H o
 exact k a' c' h' Q h1 h2
theorem WI9 {K:kQ} {h:Wa1} {w:Int} (hw:U w) (k:K (uQ (Wz7 w)) h):Wa4 Tryz.prog 231 #[uQ w] h K:=by
 refine call231 ?_
 unfold F231 cf
 refine Wa0 (Wj2 hw ?_)
 refine sb ?_
 exact k
def cfV (c:Mod.Cf):Value:=.agg #[iQ c.algo,iQ c.threads,iQ c.nodes,iQ c.level,iQ c.batch,iQ c.probes,iQ c.scan]
theorem cf7 {c:Mod.Cf} {F:Value->Value->Value->Value->Value->Value->Value->Prop} (k:F (iQ c.algo) (iQ c.threads) (iQ c.nodes) (iQ c.level) (iQ c.batch) (iQ c.probes) (iQ c.scan)) :
 asAgg (cfV c) λvs=>Wg6 vs 7 (Wc2 vs 0 λv0=>Wc2 vs 1 λv1=>Wc2 vs 2 λv2=>Wc2 vs 3 λv3=>Wc2 vs 4 λv4=>Wc2 vs 5 λv5=>Wc2 vs 6 λv6=>F v0 v1 v2 v3 v4 v5 v6):=k
theorem Wr4 {K:kQ} {h:Wa1} {p:Pl} (k:∀h',Old h.size h h'->K (cfV p.c) h'):Wa4 Tryz.prog 139 #[plV p] h K:=by
 refine call139 ?_
 unfold F139 g139 da7 dl7 dw7
 rw [WH8]
 have p1:=We4 h (plc p).toArray 117
 generalize h.push (.cells (plc p).toArray 117)=h1 at *
 have p2:=We4 h1 YD9 23
 generalize h1.push (.cells YD9 23)=h2 at *
 have hs1:=p1.size
 have O:h2[h.size]? = some (.cells (plc p).toArray 117):=(p2.old _ (by omega)).trans p1.new
 refine ldR O rfl (ldR O rfl (ldR O rfl (ldR O rfl (ldR O rfl (ldR O rfl (ldR O rfl ?_))))))
 refine st7 (We3 (vs:=cfc p.c) p2.new rfl (by simp [cfc,Wh0]) λh3 w=>?_)
 have Q:=w.new
 refine ldR Q rfl (ldR Q rfl (ldR Q rfl (ldR Q rfl (ldR Q rfl (ldR Q rfl (ldR Q rfl ?_))))))
 exact k h3 ((p1.toOld.trans (p2.toOld.mono (by omega))).trans ⟨by rw [w.size];exact Nat.le_refl _,λc hc=>w.old c (by omega)⟩)
theorem Yw9 {p:Pl} (B:PlB p) (t s:Int):iN (p.haz t s):=by
 have h1:=B.th
 have h2:=B.sl
 have h3:=B.hz
 unfold Pl.haz
 split
 ·rename_i c
  have:t*p.slots<=6*14:=Int.mul_le_mul (by omega) (by omega) (by omega) (by omega)
  have h0:0<=t*p.slots:=Int.mul_nonneg (by omega) (by omega)
  constructor <;> omega
 ·constructor <;> omega
section
variable {K:kQ} {h:Wa1} {M T b o N:Nat} {tv:Value} {fo:Option (Nat × Nat)} {x:Run} {R:Hp}
theorem RunS.tc (H:Sat h (RunS M T tv fo x R)):Wa3 h ⟨T,0,Option.none⟩=some (iQ x.id)/\(∀F:Value->Prop,ldH h ⟨T,0,Option.none⟩ F=F (iQ x.id))/\(∀F:Value->Prop,ldH h ⟨T,2,Option.none⟩ F=F (uQ (x.ret 0)))/\(∀F:Value->Prop,ldH h ⟨T,3,Option.none⟩ F=F (uQ (x.ret 1)))/\(∀F:Value->Prop,ldH h ⟨T,4,Option.none⟩ F=F (uQ (x.ret 2))) /\
  Wa3 h ⟨T,2,Option.none⟩=some (uQ (x.ret 0))/\Wa3 h ⟨T,3,Option.none⟩=some (uQ (x.ret 1))/\(∀ob,Wa3 (h.push ob) ⟨T,2,Option.none⟩=some (uQ (x.ret 0)))/\(∀ob,Wa3 (h.push ob) ⟨T,3,Option.none⟩=some (uQ (x.ret 1)))/\(∀ob,Wa3 (h.push ob) ⟨T,0,Option.none⟩=some (iQ x.id)):=by
 obtain ⟨B,e⟩:=WS2 (RunS.thr H)
 have c0:=Wd3 (i:=0) e rfl
 have c2:Wa3 h ⟨T,2,Option.none⟩=some (uQ (x.ret 0)):=Wd3 (i:=2) e rfl
 have c3:Wa3 h ⟨T,3,Option.none⟩=some (uQ (x.ret 1)):=Wd3 (i:=3) e rfl
 have c4:Wa3 h ⟨T,4,Option.none⟩=some (uQ (x.ret 2)):=Wd3 (i:=4) e rfl
 refine ⟨c0,λF=>?_,λF=>?_,λF=>?_,λF=>?_,c2,c3,λ_=>Wc3 c2,λ_=>Wc3 c3,λ_=>Wc3 c0⟩
 ·unfold ldH;rw [c0]
 ·unfold ldH;rw [c2]
 ·unfold ldH;rw [c3]
 ·unfold ldH;rw [c4]
theorem RunS.al {N:Nat} {ty:TypeId} {v0 v1 v2:Value} (H:Sat h (RunS M T tv (some (b,o)) x (pt N (.cells #[v0,v1,v2] ty)*R))):type_of% (And.intro (RunS.l H) (And.intro (RunS.r H) (And.intro (RunS.c H) (And.intro (RunS.cp H) (RunS.tc H))))):=And.intro (RunS.l H) (And.intro (RunS.r H) (And.intro (RunS.c H) (And.intro (RunS.cp H) (RunS.tc H))))
theorem WY9 (H:Sat h (RunS M T tv (some (b,o)) x R)) (hi:iN x.id) (hs:x.m.mm.st < 1099511627776) (k:∀h',Sat h' (RunS M T tv none (Wo3 x) R)->K (.tuple #[]) h') :
  Wa4 Tryz.prog 161 #[mP M,mP T,fP b o] h K:=by
 refine call161 ?_
 unfold F161 cf bd lI nP Ww2
 have B:=RunS.fB H
 have P:=RunS.pl H
 unfold Wo3 at k
 try simp +decide only [Wc5,bsx,Nat.reduceAdd,Int.reduceLE,Int.reduceLT,Int.reduceToNat,rsx,g_s,Wc9,RunS.r H,RunS.tc H]
 refine Wa7 (λc=>?_) (λc=>?_)
 ·rw [if_pos c] at k
  refine Wa0 (WI4 H (Wm7 _) hs λh1 H1 u1=>?_)
  refine sb ?_
  refine RunS.stR (i:=2) H1 rfl u1 λh2 H2=>RunS.stP H2 λh3 H3=>?_
  try simp +decide only [Wc5,bsx,Nat.reduceAdd,Int.reduceLE,Int.reduceLT,Int.reduceToNat,rsx,g_s,Wc9,RunS.r H3,B.len]
  refine Wa0 (WI9 u1 ?_)
  try simp +decide only [Wc5,bsx,Nat.reduceAdd,Int.reduceLE,Int.reduceLT,Int.reduceToNat,rsx,g_s,Wc9,RunS.r H3,B.len]
  refine Wa7 (λc2=>?_) (λc2=>?_)
  ·simp only [if_pos c2] at k
   exact Wa0 (Yk5 H3 [(x.load (s64 (x.f.g 1))).1] rfl (Ws4 u1) (by omega) λh4 H4=>k h4 H4)
  ·simp only [if_neg c2] at k
   exact k h3 (RunS.none H3)
 rw [if_neg c] at k
 refine Wa7 (λc=>?_) (λc=>?_)
 ·rw [if_pos c] at k
  refine Wa0 (WB6 H λh1 H1=>W16 ?_)
  refine ⟨(RunS.c H1).2.2.2.1,(RunS.c H1).2.1,(RunS.tc H1).1,?_⟩
  refine Wa0 (WB3 P hi (Wm7 _) λh2 o2=>?_)
  have H2:=RunS.old H1 o2
  try simp +decide only [Wc5,bsx,Nat.reduceAdd,Int.reduceLE,Int.reduceLT,Int.reduceToNat,rsx,g_s,Wc9,RunS.c H2]
  refine Wa0 (WI9 (B.g 2) ?_)
  refine sb ?_
  refine Wa0 (WP0 H2 (Yw9 P _ _) (WY7 _) hs λh3 H3=>?_)
  exact RunS.stP H3 λh4 H4=>k h4 (RunS.none H4)
 ·rw [if_neg c] at k
  refine Wa0 (WI4 H (Wm7 _) hs λh1 H1 u1=>?_)
  refine sb ?_
  refine ⟨λvs h'=>vs = [.bool (decide ((x.load (s64 (x.f.g 1))).1=x.f.g 2\/Wz7 (x.load (s64 (x.f.g 1))).1=0))]/\h' = h1,?_,?_⟩
  ·try simp +decide only [Wc5,bsx,Nat.reduceAdd,Int.reduceLE,Int.reduceLT,Int.reduceToNat,rsx,g_s,Wc9,RunS.r H1]
   refine Wa7 (λq=>by rw [decide_eq_true (.inl q)]) (λq=>?_)
   refine Wa0 (WI9 u1 ?_)
   refine sb ?_
   congr 2
   rw [Bool.eq_iff_iff,beq_iff_eq,decide_eq_true_iff]
   exact ⟨.inr,λh=>h.resolve_left q⟩
  rintro v71 g72 h73 ⟨e,rfl⟩
  cases e
  refine sb ?_
  refine Wa7 (λc2=>?_) (λc2=>?_)
  ·simp only [if_pos c2] at k
   exact Wa0 (Yk5 H1 [(x.load (s64 (x.f.g 1))).1] rfl (Ws4 u1) (by omega) λh4 H4=>k h4 H4)
  ·simp only [if_neg c2] at k
   exact RunS.stR (i:=2) H1 rfl u1 λh2 H2=>RunS.stP H2 λh3 H3=>k h3 (RunS.none H3)
theorem Yx0 (H:Sat h (RunS M T tv (some (b,o)) x R)) (hi:iN x.id) (hpc:0<=x.f.pc/\x.f.pc<=100) (hs:x.m.mm.st < 1099511627776) (k:∀h',Sat h' (RunS M T tv none (Yt9 x) R)->K (.tuple #[]) h') :
  Wa4 Tryz.prog 162 #[mP M,mP T,fP b o] h K:=by
 refine call162 ?_
 unfold F162 cf lI nP Ww2
 have B:=RunS.fB H
 have P:=RunS.pl H
 unfold Yt9 at k
 try simp +decide only [Wc5,bsx,Nat.reduceAdd,Int.reduceLE,Int.reduceLT,Int.reduceToNat,rsx,g_s,Wc9,RunS.r H,RunS.tc H]
 refine Wa0 (WB6 H λh1 H1=>W16 ?_)
 try refine ⟨(RunS.c H1).1,?_⟩
 refine Wa0 (Wo8 λh2 o2=>?_)
 have H2:=RunS.old H1 o2
 try simp +decide only [Wc5,bsx,Nat.reduceAdd,Int.reduceLE,Int.reduceLT,Int.reduceToNat,rsx,g_s,Wc9,RunS.r H2,RunS.c H2,RunS.tc H2]
 refine Wa7 (λc=>?_) (λc=>?_)
 ·rw [if_pos c] at k
  exact Wa0 (YU0 H2 Args.none (by omega) k)
 ·rw [if_neg c] at k
  refine Wa0 (WB6 H2 λh3 H3=>W16 ?_)
  refine ⟨(RunS.c H3).1,(RunS.tc H3).1,?_⟩
  refine Wa0 (WB3 P hi ⟨by omega,by omega⟩ λh4 o4=>?_)
  have H4:=RunS.old H3 o4
  refine sb ?_
  refine Wa0 (WP0 H4 (Yw9 P _ _) U0 hs λh5 H5=>?_)
  try simp +decide only [Wc5,bsx,Nat.reduceAdd,Int.reduceLE,Int.reduceLT,Int.reduceToNat,rsx,g_s,Wc9,RunS.r H5]
  rw [<- WE5,Wb2 (by omega) (by omega)]
  exact RunS.stP H5 λh6 H6=>k h6 (RunS.none H6)
theorem RunS.ofRe {l:List Int} {h':Wa1} (H:Sat h' (Wi6 T fo (Thr.setRe x.t l) x.id*(Wj8 M tv x.m*R))):Sat h' (RunS M T tv fo (x.re l) R):=RunS.ofThr H
theorem W64 (H:Sat h (RunS M T tv (some (b,o)) x R)) (hl:x.t.retired.length < 1073741824) (hd:x.t.fr.length < 1073741824) (k:∀h',Sat h' (RunS M T tv none (Wt2 x) R)->K (.tuple #[]) h') :
  Wa4 Tryz.prog 163 #[mP M,mP T,fP b o] h K:=by
 refine call163 ?_
 unfold F163 cf bd lI nP de7 Ww2
 have B:=RunS.fB H
 have P:=RunS.pl H
 unfold Wt2 at k
 try simp +decide only [Wc5,bsx,Nat.reduceAdd,Int.reduceLE,Int.reduceLT,Int.reduceToNat,rsx,g_s,Wc9,RunS.r H]
 refine Wa0 (Y83 H (Wm7 _) λh1 H1=>?_)
 refine Wa0 (WS7 (RunS.thr H1) (Wm7 _) hl λh2 H2'=>?_)
 have H2:=RunS.ofRe H2'
 refine Wa0 (YU0 H2 Args.none (by omega) λh3 H3=>?_)
 refine Wa0 (WC7 (RunS.thr H3) ?_)
 refine sb ?_
 refine Wa0 (WB6 H3 λh4 H4=>W16 ?_)
 refine Wa0 (Wr4 λh5 o5=>cf7 ?_)
 have H5:=RunS.old H4 o5
 refine sb ?_
 refine Wa7 (λc=>?_) (λc=>?_)
 ·simp only [if_pos c] at k
  refine Wa0 (YT9 H5 Args.none (by omega) ?_ λh6 b6 o6 _ _ H6=>k h6 (RunS.none H6))
  show (Thr.pop _ _).fr.length < _
  unfold Thr.pop
  split
  ·exact hd
  ·simp only [List.length_dropLast]
   show x.t.fr.length - 1 < _
   omega
 ·simp only [if_neg c] at k
  exact k h5 (RunS.none H5)
end
end
section
open Mod
theorem W65 {h:Wa1} {N:Nat} {p:Pl} {ty:TypeId} {F:Value->Value->Value->Value->Value->Value->Value->Value->Value->Value->Value->Value->Value->Value->Value->Prop} (O:h[N]? = some (.cells (plc p).toArray ty))
  (k:F (iQ p.c.algo) (iQ p.c.threads) (iQ p.c.nodes) (iQ p.c.level) (iQ p.c.batch) (iQ p.c.probes) (iQ p.c.scan) (iQ p.slots) (iQ p.width) (iQ p.sent) (iQ p.hazards) (iQ p.links) (iQ p.nodes) (iQ p.tree) (iQ p.size)) :
  ldH h (aQ N) λv0=>ldH h ⟨N,1,none⟩ λv1=>ldH h ⟨N,2,none⟩ λv2=>ldH h ⟨N,3,none⟩ λv3=>ldH h ⟨N,4,none⟩ λv4=>ldH h ⟨N,5,none⟩ λv5=>ldH h ⟨N,6,none⟩ λv6=>ldH h ⟨N,7,none⟩ λv7=>ldH h ⟨N,8,none⟩ λv8=>ldH h ⟨N,9,none⟩ λv9=>ldH h ⟨N,10,none⟩ λv10=>ldH h ⟨N,11,none⟩ λv11=>ldH h ⟨N,12,none⟩ λv12=>ldH h ⟨N,13,none⟩ λv13=>ldH h ⟨N,14,none⟩ λv14=>F v0 v1 v2 v3 v4 v5 v6 v7 v8 v9 v10 v11 v12 v13 v14:=
 ldR O rfl (ldR O rfl (ldR O rfl (ldR O rfl (ldR O rfl (ldR O rfl (ldR O rfl (ldR O rfl (ldR O rfl (ldR O rfl (ldR O rfl (ldR O rfl (ldR O rfl (ldR O rfl (ldR O rfl k))))))))))))))
theorem YQ1 {h:Wa1} {N:Nat} {p:Pl} {ty:TypeId} {X:Prop} (O:h[N]? = some (.cells (plc p).toArray ty)) (k:X) :
  Wa3 h (aQ N)=some (iQ p.c.algo)/\Wa3 h ⟨N,1,none⟩=some (iQ p.c.threads)/\Wa3 h ⟨N,2,none⟩=some (iQ p.c.nodes)/\Wa3 h ⟨N,3,none⟩=some (iQ p.c.level)/\Wa3 h ⟨N,4,none⟩=some (iQ p.c.batch)/\Wa3 h ⟨N,5,none⟩=some (iQ p.c.probes)/\Wa3 h ⟨N,6,none⟩=some (iQ p.c.scan)/\Wa3 h ⟨N,7,none⟩=some (iQ p.slots)/\Wa3 h ⟨N,8,none⟩=some (iQ p.width)/\Wa3 h ⟨N,9,none⟩=some (iQ p.sent)/\Wa3 h ⟨N,10,none⟩=some (iQ p.hazards)/\Wa3 h ⟨N,11,none⟩=some (iQ p.links)/\Wa3 h ⟨N,12,none⟩=some (iQ p.nodes)/\Wa3 h ⟨N,13,none⟩=some (iQ p.tree)/\Wa3 h ⟨N,14,none⟩=some (iQ p.size)/\X:=
 ⟨Wd3 O rfl,Wd3 O rfl,Wd3 O rfl,Wd3 O rfl,Wd3 O rfl,Wd3 O rfl,Wd3 O rfl,Wd3 O rfl,Wd3 O rfl,Wd3 O rfl,Wd3 O rfl,Wd3 O rfl,Wd3 O rfl,Wd3 O rfl,Wd3 O rfl,k⟩
theorem c15 {h:Wa1} {N:Nat} {p:Pl} {ty:TypeId} (O:h[N]? = some (.cells (plc p).toArray ty)):Wa3 h (aQ N)=some (iQ p.c.algo)/\Wa3 h ⟨N,1,none⟩=some (iQ p.c.threads)/\Wa3 h ⟨N,2,none⟩=some (iQ p.c.nodes)/\Wa3 h ⟨N,3,none⟩=some (iQ p.c.level)/\Wa3 h ⟨N,4,none⟩=some (iQ p.c.batch)/\Wa3 h ⟨N,5,none⟩=some (iQ p.c.probes)/\Wa3 h ⟨N,6,none⟩=some (iQ p.c.scan)/\Wa3 h ⟨N,7,none⟩=some (iQ p.slots)/\Wa3 h ⟨N,8,none⟩=some (iQ p.width)/\Wa3 h ⟨N,9,none⟩=some (iQ p.sent)/\Wa3 h ⟨N,10,none⟩=some (iQ p.hazards)/\Wa3 h ⟨N,11,none⟩=some (iQ p.links)/\Wa3 h ⟨N,12,none⟩=some (iQ p.nodes)/\Wa3 h ⟨N,13,none⟩=some (iQ p.tree)/\Wa3 h ⟨N,14,none⟩=some (iQ p.size):=
 ⟨Wd3 O rfl,Wd3 O rfl,Wd3 O rfl,Wd3 O rfl,Wd3 O rfl,Wd3 O rfl,Wd3 O rfl,Wd3 O rfl,Wd3 O rfl,Wd3 O rfl,Wd3 O rfl,Wd3 O rfl,Wd3 O rfl,Wd3 O rfl,Wd3 O rfl⟩
section
variable {K:kQ} {h:Wa1} {M T b o N:Nat} {tv:Value} {fo:Option (Nat × Nat)} {x:Run} {R:Hp}
theorem YU2 {h:Wa1} {b c:Nat} {r1 r2:Array Value} {t1 t2:TypeId} (e1:h[b]? = some (.cells r1 t1)) (e2:h[c]? = some (.cells r2 t2)) (hne:t1≠t2):b≠c:=by
 rintro rfl
 rw [e1] at e2
 have:=congrArg (λo:Option Obj=>match o with | some (.cells _ t _)=>some t | _=>none) e2
 exact hne (by simpa using this)
theorem Ye0 {h:Wa1} {P T:Nat} {av:Nat->Prop} {a:Option Addr} {l c:Nat} {xs:List Int} (e1:Wa3 h (aQ P)=some (mP T)) (e2:Wa3 h ⟨T,9,none⟩=some (.slice a l c)) (R:RI h a l c xs) (hl:l < 2 ^ 60) (n1:¬ av P) (n2:¬ av T) (n3:xs≠[]->∀ad,a=some ad->¬ av ad.block) :
  KeepOnA av (.func (.func 236) #[] #[.pointer (some (aQ P))]) (λ_=>True) (λy=>xs.contains y) h:=by
 refine ⟨⟨_,_,_,rfl⟩,λh=>Wa3 h (aQ P)=some (mP T)/\Wa3 h ⟨T,9,none⟩=some (.slice a l c)/\RI h a l c xs,⟨e1,e2,R⟩,λh h' o e=>⟨o.cell n1 e.1,o.cell n2 e.2.1,e.2.2.congrA o n3⟩,?_⟩
 rintro h y K ⟨e1,e2,R⟩ _ k
 refine Wq9 ?_
 rw [cl2]
 refine call236 ?_
 unfold F236 cf lS lP nP
 refine sb ?_
 refine Wb5 e1 ?_
 refine sb ?_
 refine Wb5 e2 ?_
 refine sb ?_
 refine Wa0 (WM6 R hl ?_)
 refine sb ?_
 exact k h (Old.refl _ _)
theorem Sat.pt_ne {h:Wa1} {N M:Nat} {o o':Obj} {R:Hp} (H:Sat h (pt N o*(pt M o' * R))):M≠N:=by
 obtain ⟨_,s,σ,τ,d,rfl,p,_,_,d2,rfl,q,r⟩:=H
 rintro rfl
 have h1:=q M
 have h2:=p M
 rw [if_pos rfl] at h1 h2
 rcases d M with e | e
 ·rw [e] at h2;cases h2
 ·have:=(Wo7.1 e).1
  rw [this] at h1;cases h1
theorem WS9 {P:Nat} {h:Wa1} {T:Nat} {fo:Option (Nat × Nat)} {t:Thr} {id:Int} {ty:TypeId} {R:Hp} (H:Sat h (Wi6 T fo t id*(pt P (.cells #[mP T] ty)*R)))
  (k:∀n h',Sat h' (Wi6 T fo (Thr.setRe t (t.retired.filter λy=>t.found.contains y)) id*(pt P (.cells #[mP T] ty)*R))->K (iQ n) h') :
  Wa4 Tryz.prog 239 #[.pointer (some ⟨T,8,none⟩),.func (.func 236) #[] #[.pointer (some (aQ P))]] h K:=by
 refine call239 ?_
 unfold F239 cf lS nP
 have TB:=Yd4 H
 rw [<- Wc4] at H
 obtain ⟨R',hR',bR',H⟩:=H.freeze
 rw [Wc4] at H
 refine ⟨λvs h'=>vs = [.bool false]/\h' = h,?_,?_⟩
 ·simp only [Option.isNone_some,Wc0,Wh7]
  exact ⟨by trivial,by trivial⟩
 rintro v2 g3 h4 ⟨e,rfl⟩
 cases e
 refine sb ?_
 have k:∀n h',Sat h' (Wi6 T fo (Thr.setRe t (t.retired.filter λy=>t.found.contains y)) id*(pt P (.cells #[mP T] ty)*R'))->K (iQ n) h':=λn h' H'=>by
  rw [<- Wc4] at H'
  have H2:=H'.mono2 hR'
  rw [Wc4] at H2
  exact k n h' H2
 clear hR'
 have H1:=H.push (.cells #[.slice none 0 0] 25)
 generalize h4.push (.cells #[.slice none 0 0] 25)=h5 at *
 generalize h4.size=N at *
 obtain ⟨B,x,H2⟩:=Wd7.1 H1.drop
 have e8:=Wd3 (i:=8) H2.at rfl
 have e9:=Wd3 (i:=9) H2.at rfl
 have oR:=Sat.own (Sat.drop (Sat.drop (Sat.drop (Sat.drop (Sat.drop H2)))))
 have oF:=Sat.ownf (Sat.drop (Sat.drop (Sat.drop (Sat.drop (Sat.drop (Sat.drop H2))))))
 have eP:h5[P]? = some (.cells #[mP T] ty):=H1.drop.drop.at
 have H3:Sat h5 (pt N (.cells #[.slice none 0 0] 25)*(Wi6 T fo t id*(pt P (.cells #[mP T] ty)*R'))):=H1
 have hN:h5[N]? = some (.cells #[.slice none 0 0] 25):=H3.at
 have hTN:T≠N:=YU2 H2.at hN (by decide)
 have hPN:P≠N:=Sat.pt_ne (Sat.ac H3 (by ac_rfl):Sat h5 (pt N (.cells #[.slice none 0 0] 25)*(pt P (.cells #[mP T] ty)*(Wi6 T fo t id*R'))))
 have nR:∀ad,B.re=some ad->¬ ad.block=N:=λad ea e=>by
  have eN:=oR.sees
  rcases oR.2.2 with ⟨y,_⟩ | ⟨b,row,y,hb,_⟩
  ·rw [ea] at y;cases y
  ·rw [ea] at y;cases y
   exact YU2 hb hN (by decide) e
 have nF:∀ad,B.fo=some ad->¬ ad.block=N:=λad ea e=>by
  rcases oF.2.2 with ⟨y,_⟩ | ⟨b,o,row,y,hb,_⟩
  ·rw [ea] at y;cases y
  ·rw [ea] at y;cases y
   exact YU2 hb hN (by decide) e
 have hlen:=TB.len
 refine Wb5 e8 ?_
 refine sb ?_
 have hNs:N < h5.size:=(Array.getElem?_eq_some_iff.1 hN).1
 refine Wa0 (Yw8 (av:=λb=>b=N) (OwnI.ri oR) (by omega) (λ_=>nR) (λb hb=>by rw [hb];exact hNs) λg h6 S6 o6=>?_)
 have hk:KeepOnA (λb=>b=N) (.func (.func 236) #[] #[.pointer (some (aQ P))]) (λ_=>True) (λy=>t.found.contains y) h5:=
  Ye0 (by rw [Wb4 eP];rfl) e9 oF.ri (by omega) hPN hTN (λ_=>nF)
 refine Wa0 (Yk7 S6 (hk.old (OldA.of o6)) (λ_ _=>trivial) (λb hb=>by rw [hb];have:=o6.1;omega) λg' h7 S7 o7=>?_)
 have o57:Old h5.size h5 h7:=o6.trans (o7.mono o6.1)
 have H7:=H3.old o57
 refine WS6 S7 H7.at (Nat.le_trans (List.length_filter_le _ _) (by omega)) λh8 a c s8 old8 n8 own8 new8=>?_
 have H8:=H7.collect s8 old8 n8 own8 new8
 have H9:Sat h8 (Wf2 3 1 a _ c _*(Wi6 T fo t id*(pt P (.cells #[mP T] ty)*R'))):=H8.drop2
 try simp only [Wc5,bsx,Nat.reduceAdd,Int.reduceLE,Int.reduceLT,Int.reduceToNat]
 obtain ⟨a1,c1,e1,_⟩:=W62 H9.drop
 refine Wb5 e1 ?_
 refine sb ?_
 refine Wb5 (Wh6 n8) ?_
 refine sb ?_
 refine Wb5 (Wh6 n8) ?_
 refine sb ?_
 refine Yk8 H9 (λv hv=>TB.re v ((List.mem_filter.1 hv).1)) (Nat.le_trans (List.length_filter_le _ _) (by omega)) λh9 H10=>?_
 intro h10 hsd
 rw [<- Wc4] at H10
 have H11:=H10.sameD (YT6.star NdA.pt) bR' hsd
 rw [Wc4] at H11
 exact k _ h10 H11
theorem W66 {h:Wa1} {N:Nat} {t:Thr} {id:Int} {a:Option Addr} {c:Nat} {Q S:Hp} {REST:Value->Value->Value->Wa1->Prop} (hQ:∀h P,Sat h (Q*P)->RI h a t.retired.length c t.retired) (hS:∀h P,Sat h (P*S)->Wa3 h ⟨N,0,Option.none⟩=some (mP T)) (hl:t.retired.length<=1073741824) (hl2:t.found.length<=1073741824)
  (H:Sat h (Q*(Wi6 T fo t id*S)))
  (k:∀oa oc h',Sat h' (Wf2 3 1 oa (t.retired.filter (λn=>!t.found.contains n)).length oc ((t.retired.filter (λn=>!t.found.contains n)).map iv)*(Q*(Wi6 T fo t id*S)))->∀v189 v190,REST (.slice oa (t.retired.filter (λn=>!t.found.contains n)).length oc) v189 v190 h') :
  exI λI=>exM λm=>I [.slice Option.none 0 0,.tuple #[],iQ 0] h/\∀v188:Value,∀v189:Value,∀v190:Value,∀g191:Env,∀h192:Wa1,I [v188,v189,v190] h192->asInt .i64 v190 λn193=>ifB (decide (n193 < ((t.retired.length:Nat):Int)))
   (asI v190 λn194=>((0:Int)<=n194)/\((n194:Int) < ((t.retired.length:Nat):Int))/\Wd1 (.pointer a) λa195=>ldH h192 (a195.add n194.toNat) λv196=>asInt .i64 v196 λn197=>Wl3 Tryz.prog (.func (.func 236) #[] #[.pointer (some ⟨N,0,Option.none⟩)]) #[iQ n197] h192 λv198 h199=>asBool v198 λb200=>
    ifB (!b200) (Wb3 v188 λo201 k202 k203=>Wp5 Tryz.prog #[25,25] 25 #[.slice o201 k202 k203,.slice (some ⟨h199.size,0,Option.none⟩) 1 1] (h199.push (.cells #[iQ n197] 3)) λv204 h205=>Wb3 v204 λo206 k207 k208=>asInt .i64 v190 λn209=>
      I [.slice o206 k207 k208,iQ n197,iQ (s64 (n209+1))] h205/\m [.slice o206 k207 k208,iQ n197,iQ (s64 (n209+1))] h205 < m [v188,v189,v190] h192)
     (asInt .i64 v190 λn210=>I [v188,iQ n197,iQ (s64 (n210+1))] h199/\m [v188,iQ n197,iQ (s64 (n210+1))] h199 < m [v188,v189,v190] h192))
   (REST v188 v189 v190 h192):=by
 refine ⟨λvs h'=>∃oa oc w,∃i:Nat,∃out:List Int,vs = [.slice oa out.length oc,w,iv i]/\i<=t.retired.length/\out=(t.retired.take i).filter (λn=>!t.found.contains n)/\Sat h' (Wf2 3 1 oa out.length oc (out.map iv)*(Q*(Wi6 T fo t id*S))),
  λvs _=>(match vs with | [_,_,.int _ n]=>t.retired.length - n.toNat | _=>0),⟨Option.none,0,_,0,[],rfl,Nat.zero_le _,rfl,H.own_new _ _⟩,?_⟩
 rintro v188 v189 v190 g191 h9 ⟨oa,oc,w,i,out,e,hi,hout,H9⟩
 cases e
 refine sb ?_
 have eN9:=hS h9 _ (Sat.ac H9 (by simp only [<- Wc4]):Sat h9 (Wf2 3 1 oa out.length oc (out.map iv)*Q*Wi6 T fo t id*S))
 refine Wa7 (λhlt=>?_) (λhge=>?_)
 ·have hlt':i < t.retired.length:=by omega
  have RI9:=hQ h9 _ H9.drop
  obtain ⟨ad,rfl,hc⟩:=RI9.at hlt'
  have htk:(t.retired.take (i+1)).filter (λn=>!t.found.contains n)=out ++ (if t.found.contains t.retired[i] then [] else [t.retired[i]]):=by
   rw [List.take_succ_eq_append_getElem hlt',List.filter_append,<- hout]
   congr 1
   cases hcn:t.found.contains t.retired[i] <;> simp only [List.filter_cons,List.filter_nil,hcn,Bool.not_false,Bool.not_true,if_true,Bool.false_eq_true,if_false]
  have hol:out.length<=i:=by rw [hout];exact Nat.le_trans (List.length_filter_le _ _) (by rw [List.length_take];omega)
  generalize t.retired[i]=y at *
  refine ⟨by omega,by omega,?_⟩
  refine Wb5 hc ?_
  refine sb ?_
  obtain ⟨a9,c9,e99,of9⟩:=YU1 H9.drop.drop
  refine KeepOnA.call (av:=λ_=>False) (Ye0 eN9 e99 of9.ri (by omega) (λh=>h) (λh=>h) (λ_ _ _ h=>h)) trivial λh10 o10=>?_
  have H10:=H9.old o10
  refine sb ?_
  have hw:IntKind.i64.wrap ((i:Int)+1)=((i+1:Nat):Int):=Wf1 (by omega)
  rw [WE5] at hw
  cases hcn:t.found.contains y with
  | false=>
   simp only [hcn,Bool.false_eq_true,if_false] at htk
   refine sb ?_
   refine H10.app1 (by omega) λa' c' h11 H11=>?_
   try simp only [Wc5,bsx,Nat.reduceAdd,Int.reduceLE,Int.reduceLT,Int.reduceToNat,hw]
   exact ⟨⟨a',c',iQ y,i+1,out ++ [y],by rw [List.length_append];rfl,by omega,htk.symm,by rw [List.length_append];exact H11⟩,by show t.retired.length - ((i+1:Nat):Int).toNat < t.retired.length - (i:Int).toNat;omega⟩
  | true=>
   simp only [hcn,if_true,List.append_nil] at htk
   try simp only [Wc5,bsx,Nat.reduceAdd,Int.reduceLE,Int.reduceLT,Int.reduceToNat,hw]
   exact ⟨⟨oa,oc,iQ y,i+1,out,rfl,by omega,htk.symm,H10⟩,by show t.retired.length - ((i+1:Nat):Int).toNat < t.retired.length - (i:Int).toNat;omega⟩
 ·have hi2:i=t.retired.length:=by omega
  rw [hi2,List.take_length] at hout
  subst hout
  exact k oa oc h9 H9 _ _
theorem RunS.wr {ob ob':Obj} {h':Wa1} (H:Sat h (RunS M T tv fo x (pt N ob*R))) (new:h'[N]? = some ob') (old:∀c,c≠N->h'[c]? = h[c]?) (ho:Nd ob':=by intro x e;cases e):Sat h' (RunS M T tv fo x (pt N ob' * R)):=
 Sat.ac (Sat.wr (Sat.ac H (by unfold RunS;ac_rfl):Sat h (pt N ob*(Wj8 M tv x.m*(Wi6 T fo x.t x.id*R)))) new old ho) (by unfold RunS;ac_rfl)
theorem RunS.setFo {a:Option Addr} {l c:Nat} {xs:List Int} {F:Wa1->Prop} (H:Sat h (WG9 a l c xs*RunS M T tv fo x R)) (hx:∀v ∈ xs,iN v) (hl:l<=1073741824) (k:∀h',Sat h' (RunS M T tv fo (x.fo xs) R)->F h'):stH h ⟨T,9,Option.none⟩ (.slice a l c) F:=
 Yk9 (Sat.ac H (by unfold RunS;ac_rfl):Sat h (WG9 a l c xs*(Wi6 T fo x.t x.id*(Wj8 M tv x.m*R)))) hx hl λh' H'=>k h' (RunS.ofThr H')
theorem Yx1 (H:Sat h (RunS M T tv (some (b,o)) x R)) (hpc:0<=x.f.pc/\x.f.pc<=100) (hs:x.m.mm.st < 1099511627776) (hf:x.t.found.length < 1073741824) (hd:x.t.fr.length < 1073741824) (k:∀h',Sat h' (RunS M T tv none (scan x) R)->K (.tuple #[]) h') :
  Wa4 Tryz.prog 164 #[mP M,mP T,fP b o] h K:=by
 refine call164 ?_
 unfold F164 cf bd lS lP lI nP Y73 de7 Ww2 Wz6 ce
 have P:=RunS.pl H
 unfold scan at k
 dsimp only at k
 have H1:=RunS.new H (.cells #[mP T] 176)
 generalize h.push (.cells #[mP T] 176)=h1 at *
 generalize h.size=N at *
 refine Wa0 (WB6 H1 λh2 H2=>W16 ?_)
 have H3:=RunS.new H2 (.cells Wp0 117)
 generalize h2.push (.cells Wp0 117)=h3 at *
 generalize h2.size=N2 at *
 refine YG4 (We3 (vs:=plc x.m.p) (RunS.loc H3) rfl (by simp [Wh0]) λh4 w=>?_)
 have H4:=RunS.wr H3 w.new w.old
 refine W65 (RunS.loc H4) (W65 (RunS.loc H4) ?_)
 refine Wa0 (Wo8 λh5 o5=>?_)
 have H5:=RunS.old H4 o5
 refine sb ?_
 refine YQ1 (RunS.loc H5) ?_
 refine Wa0 (Wr4 λh6 o6=>cf7 ?_)
 have H6:=RunS.old H5 o6
 refine sb ?_
 have hsl:=P.sl
 have hth:=P.th
 have hall:0<=x.m.p.slots*x.m.p.c.threads/\x.m.p.slots*x.m.p.c.threads<=84:=⟨Int.mul_nonneg (by omega) (by omega),Int.le_trans (Int.mul_le_mul hsl.2 hth.2 (by omega) (by omega)) (by omega)⟩
 have e84:s64 (x.m.p.slots*x.m.p.c.threads)=x.m.p.slots*x.m.p.c.threads:=by unfold s64;omega
 rw [e84]
 refine ⟨λvs h'=>vs = []/\Sat h' (RunS M T tv (some (b,o)) (if x.f.pc=0 then x.fo [] else x) (pt N2 (.cells (plc x.m.p).toArray 117)*(pt N (.cells #[mP T] 176)*R))),?_,?_⟩
 ·try simp +decide only [Wc5,bsx,Nat.reduceAdd,Int.reduceLE,Int.reduceLT,Int.reduceToNat,rsx,g_s,Wc9,RunS.r H6]
  refine Wa7 (λc=>?_) (λc=>?_)
  ·rw [if_pos c]
   refine Wb5 (v:=mP T) (Wb4 (RunS.loc2 H6) 0) ?_
   refine sb ?_
   refine RunS.setFo (Sat.toF (xs:=[]) (Sat.own_new H6 3 1)) (λv hv=>by cases hv) (by omega) λh7 H7=>H7
  ·rw [if_neg c]
   exact H6
 rintro g85 h86 ⟨_,H7⟩
 generalize hx1:(if x.f.pc=0 then x.fo [] else x)=x1 at *
 have ep:x1.m=x.m:=by rw [<- hx1];split <;> rfl
 have ef:x1.f=x.f:=by rw [<- hx1];split <;> rfl
 have efr:x1.t.fr=x.t.fr:=by rw [<- hx1];split <;> rfl
 have efo:x1.t.found.length<=x.t.found.length:=by rw [<- hx1];split;exact Nat.zero_le _;exact Nat.le_refl _
 rw [ef] at k
 try simp +decide only [Wc5,bsx,Nat.reduceAdd,Int.reduceLE,Int.reduceLT,Int.reduceToNat,rsx,g_s,Wc9,RunS.r H7,ef]
 have eN:=Wb4 (RunS.loc2 H7) 0
 have eN':Wa3 h86 (aQ N)=some (mP T):=eN
 have ldN:∀F:Value->Prop,ldH h86 (aQ N) F=F (mP T):=λF=>by unfold ldH;rw [eN']
 refine Wa7 (λc=>?_) (λc=>?_)
 ·rw [if_pos c] at k
  try simp only [Wc5,bsx,Nat.reduceAdd,Int.reduceLE,Int.reduceLT,Int.reduceToNat,ldN]
  obtain ⟨a,cc,Q,e9,HQ,re⟩:=WI8 (RunS.thr H7)
  refine Wb5 (e9 h86 _ HQ.drop) ?_
  refine sb ?_
  refine W65 (RunS.loc H7) ?_
  try simp +decide only [Wc5,bsx,Nat.reduceAdd,Int.reduceLE,Int.reduceLT,Int.reduceToNat,rsx,g_s,Wc9,RunS.r H7,ef]
  refine W65 (RunS.loc H7) ?_
  try simp +decide only [Wc5,bsx,Nat.reduceAdd,Int.reduceLE,Int.reduceLT,Int.reduceToNat,rsx,g_s,Wc9,RunS.r H7,ef]
  refine W65 (RunS.loc H7) ?_
  refine Wa0 (Wo8 λh8 o8=>?_)
  have H8:=RunS.old H7 o8
  refine sb ?_
  have eN8:Wa3 h8 (aQ N)=some (mP T):=Wb4 (RunS.loc2 H8) 0
  have e98:=e9 h8 _ (HQ.old o8).drop
  try simp +decide only [Wc5,bsx,Nat.reduceAdd,Int.reduceLE,Int.reduceLT,Int.reduceToNat,rsx,g_s,Wc9,c15 (RunS.loc H8),RunS.c H8,ef,eN8,e98]
  refine ⟨by omega,?_⟩
  refine Wa0 (Wo8 λh9 o9=>?_)
  have H9:=RunS.old H8 o9
  have eN9:Wa3 h9 (aQ N)=some (mP T):=Wb4 (RunS.loc2 H9) 0
  have e99:=e9 h9 _ ((HQ.old o8).old o9).drop
  try simp +decide only [Wc5,bsx,Nat.reduceAdd,Int.reduceLE,Int.reduceLT,Int.reduceToNat,rsx,g_s,Wc9,c15 (RunS.loc H9),RunS.c H9,ef,eN9,e99]
  refine ⟨by omega,?_⟩
  have hd0:0<=x.f.pc / x.m.p.slots:=Int.ediv_nonneg (by omega) (by omega)
  have hd1:x.f.pc / x.m.p.slots<=x.f.pc:=Int.ediv_le_self _ (by omega)
  have hm0:0<=x.f.pc % x.m.p.slots:=Int.emod_nonneg _ (by omega)
  have hm1:x.f.pc % x.m.p.slots < x.m.p.slots:=Int.emod_lt_of_pos _ (by omega)
  have e1:s64 (Int.tdiv x.f.pc x.m.p.slots)=x.f.pc / x.m.p.slots:=by
   rw [Int.tdiv_eq_ediv_of_nonneg (by omega)];unfold s64;omega
  have e2:Int.tmod x.f.pc x.m.p.slots=x.f.pc % x.m.p.slots:=Int.tmod_eq_emod_of_nonneg (by omega)
  rw [e1,e2]
  refine Wa0 (WB3 P ⟨by omega,by omega⟩ ⟨by omega,by omega⟩ λh10 o10=>?_)
  have o86:Old h86.size h86 h10:=(o8.trans (o9.mono o8.1)).trans (o10.mono (Nat.le_trans o8.1 o9.1))
  have HQ10:=HQ.old o86
  have H10:=RunS.old H7 o86
  refine sb ?_
  have eN10:Wa3 h10 (aQ N)=some (mP T):=Wb4 (RunS.loc2 H10) 0
  refine ⟨e9 h10 _ HQ10.drop,eN10,eN10,?_⟩
  rw [YD5] at HQ10
  have hs1:x1.m.mm.st < 1099511627776:=by rw [ep];exact hs
  refine Wa0 (WO7 HQ10 (Yw9 P _ _) hs1 λh12 H12 u12=>?_)
  have eN12:Wa3 h12 (aQ N)=some (mP T):=Wb4 H12.drop.drop.drop.drop.at 0
  try simp only [Wc5,bsx,Nat.reduceAdd,Int.reduceLE,Int.reduceLT,Int.reduceToNat,eN12,e9 h12 _ H12.drop.drop]
  have hB:=RunS.B H7
  rw [<- YD5] at H12
  refine ⟨Wc3 (e9 h12 _ H12.drop),Wc3 eN12,Wc3 eN12,?_⟩
  refine Sat.appF H12 (by omega) λa' c' h13 H13=>?_
  have eN13:Wa3 h13 (aQ N)=some (mP T):=Wb4 H13.drop.drop.drop.drop.at 0
  try simp only [Wc5,bsx,Nat.reduceAdd,Int.reduceLE,Int.reduceLT,Int.reduceToNat,eN13]
  refine re _ h13 a' _ c' _ (by omega) (λv hv=>?_) H13 _ λh14 H14=>?_
  ·rcases List.mem_append.1 hv with h1 | h1
   ·exact hB.fo v h1
   ·rw [List.mem_singleton.1 h1];exact Wm7 _
  have H15:=RunS.ofThr H14
  have ef2:(⟨(x1.m.load (x.m.p.haz (x.f.pc / x.m.p.slots) (x.f.pc % x.m.p.slots))).2,Thr.setFo x1.t (x1.t.found ++ [s64 (x1.m.load (x.m.p.haz (x.f.pc / x.m.p.slots) (x.f.pc % x.m.p.slots))).1]),x1.id⟩ : Run).f=x.f:=ef
  try simp +decide only [Wc5,bsx,Nat.reduceAdd,Int.reduceLE,Int.reduceLT,Int.reduceToNat,rsx,g_s,Wc9,RunS.r H15,ef2]
  have e3:s64 (x.f.pc+1)=x.f.pc+1:=by unfold s64;omega
  rw [e3]
  exact RunS.stP H15 λh16 H16=>k h16 (RunS.drp (RunS.drp (RunS.none H16)))
 ·rw [if_neg c] at k
  clear H1 H2 H3 H4 H5 H6 w o5 o6 hx1
  have B7:=RunS.B H7
  have ere:x1.t.retired.length<=1073741824:=B7.len.2.1
  refine ⟨λvs h'=>∃v0 v1 v2,vs = [v0,v1,v2]/\Sat h' (RunS M T tv (some (b,o)) (Wv3 x1 (x.m.p.slots*x.m.p.c.threads)) (pt N2 (.cells (plc x.m.p).toArray 117)*(pt N (.cells #[mP T] 176)*R))),?_,?_⟩
  ·unfold Wv3
   try simp +decide only [Wc5,bsx,Nat.reduceAdd,Int.reduceLE,Int.reduceLT,Int.reduceToNat,rsx,g_s,Wc9,RunS.r H7,ef]
   refine Wa7 (λc2=>?_) (λc2=>?_)
   ·rw [if_pos c2]
    try simp only [Wc5,bsx,Nat.reduceAdd,Int.reduceLE,Int.reduceLT,Int.reduceToNat,ldN]
    refine Wa0 (WS8 (RunS.thr H7) λa c' h8 Q H8 hQ=>?_)
    refine sb ?_
    refine W66 hQ (λh P HP=>Wb4 (Sat.ac HP (by ac_rfl):Sat h (pt N (.cells #[mP T] 176)*(P*(Wj8 M tv x1.m*(pt N2 (.cells (plc x.m.p).toArray 117)*R))))).at 0) ere (by have:=B7.len;omega) H8 λoa oc h9 H9 v189 v190=>?_
    have eN9:Wa3 h9 (aQ N)=some (mP T):=Wb4 H9.drop.drop.drop.drop.drop.at 0
    have hout:∃out,out=x1.t.retired.filter (λn=>!x1.t.found.contains n):=⟨_,rfl⟩
    obtain ⟨out,hout⟩:=hout
    rw [<- hout] at H9 ⊢
    ·have ldN9:∀F:Value->Prop,ldH h9 (aQ N) F=F (mP T):=λF=>by unfold ldH;rw [eN9]
     try simp only [Wc5,bsx,Nat.reduceAdd,Int.reduceLE,Int.reduceLT,Int.reduceToNat,ldN9]
     have H10:Sat h9 (Wi6 T (some (b,o)) x1.t x1.id*(pt N (.cells #[mP T] 176)*(Wf2 3 1 oa out.length oc (out.map iv)*(Wj8 M tv x1.m*(pt N2 (.cells (plc x.m.p).toArray 117)*R))))):=
      Sat.drop (P:=Q) (Sat.ac H9 (by ac_rfl))
     refine Wa0 (WS9 H10 λnk h11 H11=>?_)
     have eN11:Wa3 h11 (aQ N)=some (mP T):=Wb4 H11.drop.at 0
     have ldN11:∀F:Value->Prop,ldH h11 (aQ N) F=F (mP T):=λF=>by unfold ldH;rw [eN11]
     try simp only [Wc5,bsx,Nat.reduceAdd,Int.reduceLE,Int.reduceLT,Int.reduceToNat,ldN11]
     have H12:Sat h11 (WG9 oa out.length oc out*RunS M T tv (some (b,o)) (x1.re (x1.t.retired.filter λn=>x1.t.found.contains n)) (pt N2 (.cells (plc x.m.p).toArray 117)*(pt N (.cells #[mP T] 176)*R))):=
      Sat.toF (Sat.ac H11 (by unfold RunS;ac_rfl))
     refine RunS.setFo H12 (λv hv=>B7.re v (by rw [hout] at hv;exact (List.mem_filter.1 hv).1)) (by rw [hout];exact Nat.le_trans (List.length_filter_le _ _) ere) λh13 H13=>?_
     have ef2:((x1.re (x1.t.retired.filter λn=>x1.t.found.contains n)).fo out).f=x.f:=ef
     try simp +decide only [Wc5,bsx,Nat.reduceAdd,Int.reduceLE,Int.reduceLT,Int.reduceToNat,rsx,g_s,Wc9,RunS.r H13,ef2]
     have e3:s64 (x.f.pc+1)=x.f.pc+1:=by unfold s64;omega
     rw [e3]
     exact RunS.stP H13 λh14 H14=>⟨_,_,_,rfl,H14⟩
   ·rw [if_neg c2]
    exact ⟨_,_,_,rfl,H7⟩
  rintro v229 v230 v231 g232 h233 ⟨w0,w1,w2,e,H8⟩
  cases e
  have ed:(Wv3 x1 (x.m.p.slots*x.m.p.c.threads)).t.fr.length < 1073741824:=by
   unfold Wv3
   split
   ·show (x1.t.fr.dropLast ++ [_]).length < _
    rw [efr];simp;omega
   ·rw [efr];exact hd
  generalize Wv3 x1 (x.m.p.slots*x.m.p.c.threads)=x2 at *
  have eN8:Wa3 h233 (aQ N)=some (mP T):=Wb4 (RunS.loc2 H8) 0
  have ldN8:∀F:Value->Prop,ldH h233 (aQ N) F=F (mP T):=λF=>by unfold ldH;rw [eN8]
  have B8:=RunS.B H8
  obtain ⟨a,cc,Q,e9,HQ,re⟩:=WI8 (RunS.thr H8)
  have ld9:∀F:Value->Prop,ldH h233 ⟨T,9,none⟩ F=F (.slice a x2.t.found.length cc):=λF=>by unfold ldH;rw [e9 h233 _ HQ.drop]
  try simp only [Wc5,bsx,Nat.reduceAdd,Int.reduceLE,Int.reduceLT,Int.reduceToNat,ldN8,ld9]
  unfold WR5 at k
  cases hfo:x2.t.found with
  | nil=>
   rw [hfo] at k
   try simp only [Wc5,bsx,Nat.reduceAdd,Int.reduceLE,Int.reduceLT,Int.reduceToNat,List.length_nil]
   exact Wa0 (YU0 H8 Args.none (by omega) λh9 H9=>k h9 (RunS.drp (RunS.drp H9)))
  | cons n rest=>
   rw [hfo] at k HQ
   have hl:((((n :: rest).length:Nat):Int) == 0)=false:=by rw [beq_eq_false_iff_ne,List.length_cons];omega
   rw [hl]
   try simp only [Wc5,bsx,Nat.reduceAdd,Int.reduceLE,Int.reduceLT,Int.reduceToNat,ldN8,ld9]
   refine ⟨by rw [List.length_cons];omega,?_⟩
   have ow:=HQ.ownf
   obtain ⟨ad,rfl,hc⟩:=ow.ri.at (i:=0) (by simp)
   rw [add_zero] at hc
   obtain ⟨tl,hsub⟩:=ow.tail
   refine sb ?_
   refine Wb5 hc ?_
   refine sb ?_
   refine ⟨by rw [List.length_cons];omega,?_⟩
   obtain ⟨_,hlt2,re2⟩:=HQ.opn
   have HT:=re2 h233 (blk (WM9 (some ad) 1 cc 1)) (λh=>OwnF h (WM9 (some ad) 1 cc 1) ((n :: rest).length - 1) (cc - 1) rest) (Fr.refl _ _) (λb2 hb2=>⟨.inl (hsub b2 hb2),hlt2 b2 (hsub b2 hb2)⟩) tl.nd λh'' e=>tl.congr e
   have hfl:=B8.len.2.2
   rw [hfo] at hfl
   refine re _ h233 _ _ _ rest (by omega) (λv hv=>B8.fo v (by rw [hfo];exact List.mem_cons_of_mem _ hv)) HT _ λh9 H9=>?_
   have H10:Sat h9 (RunS M T tv (some (b,o)) (x2.fo rest) _):=RunS.ofThr H9
   have eN10:Wa3 h9 (aQ N)=some (mP T):=Wb4 (RunS.loc2 H10) 0
   have ldN10:∀F:Value->Prop,ldH h9 (aQ N) F=F (mP T):=λF=>by unfold ldH;rw [eN10]
   try simp only [Wc5,bsx,Nat.reduceAdd,Int.reduceLE,Int.reduceLT,Int.reduceToNat,ldN10]
   exact Wa0 (Yw1 H10 [u64 n] rfl (Ws4 (Ws3 _)) (by omega) ed λh11 b2 o2 _ _ H11=>k h11 (RunS.drp (RunS.drp (RunS.none H11))))
end
end
section
open Mod
structure Ok (x:Run):Prop where
 st:x.m.mm.st < 1099511627776
 us:x.m.used < 1099511627776
 re:x.t.retired.length < 1073741824
 fo:x.t.found.length < 1073741824
 fr:x.t.fr.length < 1000000000
 id:iN x.id
 pc:0<=x.f.pc/\x.f.pc<=100
section
variable {K:kQ} {h:Wa1} {M T b o N:Nat} {tv:Value} {fo:Option (Nat × Nat)} {x:Run} {R:Hp}
theorem WZ0 (H:Sat h (RunS M T tv fo x R)) (O:Ok x) (k:∀h',Sat h' (RunS M T tv none (Wo2 x) R)->K (.tuple #[]) h') :
  Wa4 Tryz.prog 165 #[mP M,mP T] h K:=by
 refine call165 ?_
 unfold F165 cf lI nP
 unfold Wo2 at k
 refine Wa0 (Y14 H (λe=>?_) λb o hne _ H1=>?_)
 ·rw [if_pos e] at k
  refine sb ?_
  refine ⟨λvs h'=>(∃w,vs = [.bool true,w])/\h' = h,⟨⟨_,rfl⟩,rfl⟩,?_⟩
  rintro v4 v5 g6 h7 ⟨⟨w,e⟩,rfl⟩
  cases e
  refine sb ?_
  exact k _ (RunS.none H)
 ·rw [if_neg hne] at k
  refine sb ?_
  refine ⟨λvs h'=>(∃w,vs = [.bool false,w])/\h' = h,⟨⟨_,rfl⟩,rfl⟩,?_⟩
  rintro v4 v5 g6 h7 ⟨⟨w,e⟩,rfl⟩
  cases e
  try simp +decide only [Wc5,bsx,Nat.reduceAdd,Int.reduceLE,Int.reduceLT,Int.reduceToNat,rsx,g_s,Wc9,RunS.r H1]
  refine Wa7 (λc=>?_) (λc=>?_)
  ·rw [if_pos c] at k
   exact Wa0 (Yk6 H1 O.st k)
  rw [if_neg c] at k
  refine Wa7 (λc=>?_) (λc=>?_)
  ·rw [if_pos c] at k
   exact Wa0 (WY8 H1 O.st k)
  rw [if_neg c] at k
  exact Wa0 (YU0 H1 Args.none (by omega) k)
theorem WT0 (H:Sat h (RunS M T tv fo x R)) (O:Ok x) (k:∀h',Sat h' (RunS M T tv none (Wk7 x) R)->K (.tuple #[]) h') :
  Wa4 Tryz.prog 111 #[mP M,mP T] h K:=by
 refine call111 ?_
 unfold F111 cf lI nP
 unfold Wk7 at k
 refine Wa0 (Y14 H (λe=>?_) λb o hne _ H1=>?_)
 ·rw [if_pos e] at k
  refine sb ?_
  refine ⟨λvs h'=>(∃w,vs = [.bool true,w])/\h' = h,⟨⟨_,rfl⟩,rfl⟩,?_⟩
  rintro v4 v5 g6 h7 ⟨⟨w,e⟩,rfl⟩
  cases e
  refine sb ?_
  exact k _ (RunS.none H)
 ·rw [if_neg hne] at k
  refine sb ?_
  refine ⟨λvs h'=>(∃w,vs = [.bool false,w])/\h' = h,⟨⟨_,rfl⟩,rfl⟩,?_⟩
  rintro v4 v5 g6 h7 ⟨⟨w,e⟩,rfl⟩
  cases e
  try simp +decide only [Wc5,bsx,Nat.reduceAdd,Int.reduceLE,Int.reduceLT,Int.reduceToNat,rsx,g_s,Wc9,RunS.r H1]
  refine Wa7 (λc=>?_) (λc=>?_)
  ·rw [if_pos c] at k
   exact Wa0 (WY9 H1 O.id O.st k)
  rw [if_neg c] at k
  refine Wa7 (λc=>?_) (λc=>?_)
  ·rw [if_pos c] at k
   exact Wa0 (Yx0 H1 O.id O.pc O.st k)
  rw [if_neg c] at k
  refine Wa7 (λc=>?_) (λc=>?_)
  ·rw [if_pos c] at k
   exact Wa0 (W64 H1 O.re (by have:=O.fr;omega) k)
  rw [if_neg c] at k
  refine Wa7 (λc=>?_) (λc=>?_)
  ·rw [if_pos c] at k
   exact Wa0 (Yx1 H1 O.pc O.st O.fo (by have:=O.fr;omega) k)
  rw [if_neg c] at k
  exact Wa0 (WZ0 H1 O k)
end
end
section
open Mod
def Mod.Mac.setTh (m:Mac) (l:List Thr):Mac:={ m with th:=l }
def Mod.Mac.quiet (m:Mac):Mac:={ m with acted:=false }
def WZ1:Int->List Nat->List Thr->Hp
 | _,[],_=>emp
 | _,_ :: _,[]=>emp
 | i,T :: Ts,t :: ts=>Wi6 T none t i*WZ1 (i+1) Ts ts
theorem WZ2 {h:Wa1}:∀ {Ts:List Nat} {ts:List Thr} {i:Int} {k:Nat} {R:Hp} (T:Nat) (t:Thr),Ts[k]? = some T->ts[k]? = some t->Sat h (WZ1 i Ts ts*R) ->
  ∃Q:Hp,Sat h (Wi6 T none t (i+k)*(Q*R))/\∀R' h' t',Sat h' (Wi6 T none t' (i+k)*(Q*R'))->Sat h' (WZ1 i Ts (ts.set k t')*R')
 | [],_,_,k,_,_,_,e,_,_=>by simp at e
 | _ :: _,[],_,k,_,_,_,_,e,_=>by simp at e
 | T0 :: Ts,t0 :: ts,i,0,R,T,t,e1,e2,H=>by
  simp only [List.getElem?_cons_zero,Option.some.injEq] at e1 e2
  subst e1 e2
  refine ⟨WZ1 (i+1) Ts ts,?_,λR' h' t' H'=>?_⟩
  ·rw [show i+((0:Nat):Int)=i by omega,<- Wc4]
   exact H
  ·rw [show i+((0:Nat):Int)=i by omega,<- Wc4] at H'
   exact H'
 | T0 :: Ts,t0 :: ts,i,k+1,R,T,t,e1,e2,H=>by
  simp only [List.getElem?_cons_succ] at e1 e2
  have H:Sat h ((Wi6 T0 none t0 i*WZ1 (i+1) Ts ts)*R):=H
  rw [Wc4,Wb8] at H
  obtain ⟨Q,H1,re⟩:=WZ2 T t e1 e2 H
  have ei:i+1+(k:Int)=i+((k+1:Nat):Int):=by omega
  rw [ei] at H1 re
  refine ⟨Q*Wi6 T0 none t0 i,by rw [Wc4];exact H1,λR' h' t' H'=>?_⟩
  rw [Wc4] at H'
  have H2:=re _ _ _ H'
  show Sat h' ((Wi6 T0 none t0 i*WZ1 (i+1) Ts (ts.set k t'))*R')
  rw [Wc4,Wb8]
  exact H2
def Wv4 (M:Nat) (Ts:List Nat) (m:Mac):Hp:=ex λa=>ex λc=>pr (Ts.length=m.th.length/\m.th.length<=6) (Wj8 M (.slice a m.th.length c) m*(Wf2 176 1 a m.th.length c (Ts.map mP)*WZ1 0 Ts m.th))
theorem Wi2 {h:Wa1} {M:Nat} {Ts:List Nat} {m:Mac} {R:Hp}:Sat h (Wv4 M Ts m*R)↔∃a c,(Ts.length=m.th.length/\m.th.length<=6)/\Sat h (Wj8 M (.slice a m.th.length c) m*(Wf2 176 1 a m.th.length c (Ts.map mP)*(WZ1 0 Ts m.th*R))):=by
 unfold Wv4
 simp only [Sat.ex,Sat.pr,Wc4]
theorem Wu8 {h:Wa1} {M:Nat} {Ts:List Nat} {m:Mac} {R:Hp} {k:Nat} {T:Nat} {t:Thr} (H:Sat h (Wv4 M Ts m*R)) (e1:Ts[k]? = some T) (e2:m.th[k]? = some t) :
  ∃tv,∃Q:Hp,Sat h (RunS M T tv none ⟨m,t,k⟩ (Q*R))/\∀h' (x:Run) R',x.id=(k:Int)->Sat h' (RunS M T tv none x (Q*R'))->Sat h' (Wv4 M Ts (x.m.setTh (m.th.set k x.t))*R'):=by
 obtain ⟨a,c,⟨hl,h6⟩,H1⟩:=Wi2.1 H
 have H2:Sat h (WZ1 0 Ts m.th*(Wj8 M (.slice a m.th.length c) m*(Wf2 176 1 a m.th.length c (Ts.map mP)*R))):=Sat.ac H1 (by ac_rfl)
 obtain ⟨Q,H3,re⟩:=WZ2 T t e1 e2 H2
 rw [Int.zero_add] at H3 re
 refine ⟨.slice a m.th.length c,Q*Wf2 176 1 a m.th.length c (Ts.map mP),?_,λh' x R' ei H'=>?_⟩
 ·unfold RunS
  exact Sat.ac H3 (by ac_rfl)
 ·unfold RunS at H'
  rw [ei] at H'
  have H4:Sat h' (Wi6 T none x.t k*(Q*(Wj8 M (.slice a m.th.length c) x.m*(Wf2 176 1 a m.th.length c (Ts.map mP)*R')))):=Sat.ac H' (by ac_rfl)
  have H5:=re _ _ _ H4
  refine Wi2.2 ⟨a,c,⟨by simp [Mod.Mac.setTh,hl],by simp [Mod.Mac.setTh,h6]⟩,?_⟩
  show Sat h' (Wj8 M (.slice a (m.th.set k x.t).length c) x.m*(Wf2 176 1 a (m.th.set k x.t).length c (Ts.map mP)*(WZ1 0 Ts (m.th.set k x.t)*R')))
  rw [List.length_set]
  exact Sat.ac H5 (by ac_rfl)
section
variable {K:kQ} {h:Wa1} {M T b o N:Nat} {tv:Value} {fo:Option (Nat × Nat)} {x:Run} {R:Hp} {m:Mac} {Ts:List Nat}
theorem WJ0 (H:Sat h (Wv4 M Ts m*R)) {i:Int} (k0:(i < 0\/m.th.length<=i)->K (.pointer none) h) (k:∀T,0<=i->Ts[i.toNat]? = some T->K (mP T) h) :
  Wa4 Tryz.prog 196 #[mP M,iQ i] h K:=by
 refine call196 ?_
 unfold F196 bd lS lP nP
 obtain ⟨a,c,⟨hl,h6⟩,H1⟩:=Wi2.1 H
 obtain ⟨q,gq,fq,P,H2⟩:=We1.1 H1
 have O:=H2.at
 have S:=(H1.drop).own.sees
 refine sb ?_
 refine ⟨λvs h'=>(∃w,vs = [w,.bool (decide (i < 0\/m.th.length<=i))])/\h' = h,?_,?_⟩
 ·refine Wa7 (λc1=>?_) (λc1=>?_)
  ·rw [decide_eq_true (p:=i < 0\/m.th.length<=i) (.inl c1)]
   exact ⟨⟨_,rfl⟩,rfl⟩
  ·refine H2.ld rfl ?_
   refine sb ?_
   rw [show decide (i >= (m.th.length:Int))=decide (i < 0\/m.th.length<=i) by rw [decide_eq_decide];omega]
   first | exact ⟨⟨.bool (decide (i < 0)),rfl⟩,by trivial⟩ | exact ⟨.bool (decide (i < 0)),rfl⟩
 rintro v6 v7 g8 h9 ⟨⟨w,e⟩,rfl⟩
 cases e
 refine sb ?_
 refine Wa7 (λc1=>k0 c1) (λc1=>?_)
 refine H2.ld rfl ?_
 refine sb ?_
 have hlt:i.toNat < Ts.length:=by omega
 obtain ⟨T,hT⟩ : ∃T,Ts[i.toNat]? = some T:=⟨_,List.getElem?_eq_getElem hlt⟩
 obtain ⟨ad,ea,hc⟩:=S i.toNat (mP T) (by rw [List.getElem?_map,hT];rfl)
 subst ea
 refine ⟨by omega,by omega,?_⟩
 refine sb ?_
 unfold ldH
 rw [hc]
 refine sb ?_
 exact k T (by omega) hT
theorem Y19 (P:Nat->Prop) (h:∃n,P n):∃n,P n/\∀m,P m->n<=m:=by
 obtain ⟨n,hn⟩:=h
 induction n using Nat.strongRecOn with
 | _ n ih=>
  by_cases c:∃m,m < n/\P m
  ·obtain ⟨m,hm,hp⟩:=c
   exact ih m hm hp
  ·exact ⟨n,hn,λm hm=>Nat.le_of_not_lt λhh=>c ⟨m,hh,hm⟩⟩
open Classical in
noncomputable def WJ1 (P:Nat->Prop):Nat:=if h:∃n,P n then (Y19 P h).choose else 0
theorem WJ2 {P:Nat->Prop} (h:∃n,P n):P (WJ1 P)/\∀m,P m->WJ1 P<=m:=by
 unfold WJ1
 rw [dif_pos h]
 exact (Y19 P h).choose_spec
def done (x:Run):Bool:=x.m.acted || x.t.fr.isEmpty
def YX5 (d:Run->Run) (W:Run->Prop):Nat->Run->Prop
 | 0,_=>True
 | n+1,x=>done x=true\/(W x/\YX5 d W n (d x))
def DoC (f:Nat) (d:Run->Run) (W:Run->Prop):Prop:=∀(h:Wa1) (M T:Nat) (tv:Value) (x:Run) (R:Hp) (K:kQ),Sat h (RunS M T tv none x R)->W x->(∀h',Sat h' (RunS M T tv none (d x) R)->K (.tuple #[]) h')->Wa4 Tryz.prog f #[mP M,mP T] h K
def YI7 (d:Run->Run) (W:Run->Prop) (M T:Nat) (tv:Value) (R:Hp) (z:Run) (h:Wa1) (n:Nat):Prop:=∃y,Sat h (RunS M T tv none y R)/\Mod.bits d n y=some z/\YX5 d W n y
theorem WT1 {f:Nat} {d:Run->Run} {W:Run->Prop} (D:DoC f d W) (H:Sat h (Wv4 M Ts m*R)) {i:Int} {n:Nat} {z:Run} {t:Thr} (h0:0<=i) (ht:m.th[i.toNat]? = some t)
  (hz:Mod.bits d n ⟨m.quiet,t,i⟩=some z) (hs:YX5 d W n ⟨m.quiet,t,i⟩) (hid:z.id=i)
  (k:∀h',Sat h' (Wv4 M Ts (z.m.setTh (m.th.set i.toNat z.t))*R)->K (.bool (!z.t.fr.isEmpty)) h') :
  Wa4 Tryz.prog 123 #[mP M,iQ i,.func (.func f) #[] #[]] h K:=by
 refine call123 ?_
 unfold F123 cf lS nP
 have hlt:i.toNat < m.th.length:=(List.getElem?_eq_some_iff.1 ht).1
 refine Wa0 (WJ0 H (λc=>by omega) λT _ hT=>?_)
 refine sb ?_
 unfold Wh7
 dsimp only
 refine ⟨λvs h'=>vs = [.bool false]/\h' = h,⟨rfl,rfl⟩,?_⟩
 rintro v5 g6 h7 ⟨e,rfl⟩
 cases e
 refine sb ?_
 obtain ⟨tv,Q,H1,re⟩:=Wu8 H hT ht
 have ei:((i.toNat:Nat):Int)=i:=by omega
 rw [ei] at H1 re
 obtain ⟨q,gq,fq,P,H2⟩:=We1.1 H1
 refine H2.st (i:=19) rfl trivial λh8 H3=>?_
 have H4:Sat h8 (RunS M T tv none ⟨m.quiet,t,i⟩ (Q*R)):=We1.2 ⟨q,gq,fq,P,H3⟩
 have acc:∀ {h:Wa1} {y:Run},Sat h (RunS M T tv none y (Q*R))->(∀F:Value->Prop,ldH h ⟨M,19,none⟩ F=F (.bool y.m.acted))/\∃a c,∀F:Value->Prop,ldH h ⟨T,1,none⟩ F=F (.slice a y.t.fr.length c):=by
  intro h y Y
  obtain ⟨q,gq,fq,P,Y1⟩:=We1.1 Y
  obtain ⟨B,O⟩:=WS2 (RunS.thr Y)
  refine ⟨λF=>?_,B.fr,B.frn,λF=>?_⟩
  ·unfold ldH;rw [Wb4 Y1.at];rfl
  ·unfold ldH;rw [Wb4 O];rfl
 refine ⟨λ_ h=>∃n,YI7 d W M T tv (Q*R) z h n,λ_ h=>WJ1 (YI7 d W M T tv (Q*R) z h),⟨n,_,H4,hz,hs⟩,?_⟩
 intro g13 h14 HI
 obtain ⟨⟨y,Y,hb,hS⟩,hmin⟩:=WJ2 HI
 obtain ⟨n0,hn⟩ : ∃n0,WJ1 (YI7 d W M T tv (Q*R) z h14)=n0:=⟨_,rfl⟩
 rw [hn] at hb hS
 obtain ⟨ac,af,an,al⟩:=acc Y
 refine ⟨λvs h'=>vs = [.bool (!Proofs.YtahpbclnkofhfaaGreat.done y)]/\h' = h14,?_,?_⟩
 ·rw [ac]
  refine sb ?_
  refine Wb7 (λc=>?_) (λc=>?_)
  ·have c':y.m.acted=false:=by simpa using c
   rw [al]
   have e2:decide ((y.t.fr.length:Int) > 0) = !Proofs.YtahpbclnkofhfaaGreat.done y:=by
    unfold Proofs.YtahpbclnkofhfaaGreat.done
    rw [c']
    cases y.t.fr <;> simp
   try simp only [Wa9,e2,and_self,and_true]
  ·have c':y.m.acted=true:=by simpa using c
   have e2:false = !Proofs.YtahpbclnkofhfaaGreat.done y:=by
    unfold Proofs.YtahpbclnkofhfaaGreat.done
    rw [c']
    rfl
   rw [<- e2]
   try trivial
 rintro v24 g25 h26 ⟨e,rfl⟩
 cases e
 refine sb ?_
 refine Wb7 (λc=>?_) (λc=>?_)
 ·have c':Proofs.YtahpbclnkofhfaaGreat.done y=false:=by simpa using c
  cases n0 with
  | zero=>
   unfold Mod.bits at hb
   unfold Proofs.YtahpbclnkofhfaaGreat.done at c'
   rw [c'] at hb
   cases hb
  | succ n'=>
   rcases hS with hS | ⟨hW,hS⟩
   ·rw [hS] at c';cases c'
   ·have hb':Mod.bits d n' (d y)=some z:=by
     unfold Mod.bits at hb
     unfold Proofs.YtahpbclnkofhfaaGreat.done at c'
     rw [c'] at hb
     exact hb
    refine Wa0 (D _ _ _ _ _ _ _ Y hW λh29 H29=>⟨⟨n',_,H29,hb',hS⟩,?_⟩)
    have hP:YI7 d W M T tv (Q*R) z h29 n':=⟨_,H29,hb',hS⟩
    have hl:=(WJ2 ⟨n',hP⟩).2 n' hP
    show WJ1 _ < WJ1 _
    rw [hn]
    omega
 ·have c':Proofs.YtahpbclnkofhfaaGreat.done y=true:=by simpa using c
  have ez:y=z:=by
   unfold Proofs.YtahpbclnkofhfaaGreat.done at c'
   cases n0 <;> unfold Mod.bits at hb <;> rw [c'] at hb <;> exact Option.some.inj hb
  subst ez
  rw [al]
  refine sb ?_
  have e2:decide ((y.t.fr.length:Int) > 0) = !y.t.fr.isEmpty:=by
   cases y.t.fr <;> simp
  rw [e2]
  exact k h26 (re _ y R hid Y)
end
end
section
open Mod
def Y20 (c:Mod.Cf):Proofs.YtahpbclnkofhfaaGreat.Cf:=⟨c.algo,c.threads,c.nodes,c.level,c.batch,c.probes,c.scan⟩
theorem Wu9 (c:Mod.Cf):(Y20 c).Right↔okC c=true:=by
 unfold okC
 rw [decide_eq_true_iff]
 constructor
 ·rintro ⟨a1,a2,a3,a4,a5,a6,a7,a8⟩
  exact ⟨a1.1,a1.2,a2.1,a2.2,a3.1,a3.2,a4.1,a4.2,a5.1,a5.2,a6.1,a6.2,a7.1,a7.2,a8⟩
 ·rintro ⟨b1,b2,b3,b4,b5,b6,b7,b8,b9,b10,b11,b12,b13,b14,b15⟩
  exact ⟨⟨b1,b2⟩,⟨b3,b4⟩,⟨b5,b6⟩,⟨b7,b8⟩,⟨b9,b10⟩,⟨b11,b12⟩,⟨b13,b14⟩,b15⟩
theorem Yx2 (c:Mod.Cf):Value.agg (Y20 c).plan=plV (Wb6 c):=by
 unfold plV Wb6 Proofs.YtahpbclnkofhfaaGreat.Cf.plan Cf.size Cf.tree Cf.nodes Cf.links Cf.slots Cf.width Cf.sent Y20
 simp only [beq_iff_eq]
theorem WZ3 {K:kQ} {h:Wa1} (c:Mod.Cf) (k1:okC c=true->∀h',Old h.size h h'->K (.tuple #[plV (Wb6 c),iQ 0]) h') (k0:okC c=false->∀h',Old h.size h h'->K (.tuple #[.agg Wh9,iQ 6]) h') :
  Wa4 Tryz.prog 98 #[cfV c] h K:=by
 refine Yc9 (Y20 c) (λhr h' o=>?_) (λhr h' o=>k0 ?_ h' o)
 ·rw [Yx2];exact k1 ((Wu9 c).1 hr) h' o
 ·rw [<- Bool.not_eq_true];exact λhh=>hr ((Wu9 c).2 hh)
theorem Wv0 {c:Mod.Cf} (h:okC c=true):PlB (Wb6 c):=by
 unfold okC at h
 rw [decide_eq_true_iff] at h
 obtain ⟨b1,b2,b3,b4,b5,b6,b7,b8,b9,b10,b11,b12,b13,b14,b15⟩:=h
 have h1:c.threads*(if c.algo == 0 then 2 else 2*c.level+2)<=6*14:=by
  split
  ·omega
  ·exact Int.mul_le_mul (by omega) (by omega) (by omega) (by omega)
 have h1':0<=c.threads*(if c.algo == 0 then 2 else 2*c.level+2):=Int.mul_nonneg (by omega) (by split <;> omega)
 have h2:c.nodes*(if c.algo == 0 then 3 else 5+c.level)<=64*11:=by
  split
  ·omega
  ·exact Int.mul_le_mul (by omega) (by omega) (by omega) (by omega)
 have h2':0<=c.nodes*(if c.algo == 0 then 3 else 5+c.level):=Int.mul_nonneg (by omega) (by split <;> omega)
 have h3:(2:Int) ^ c.level.toNat<=64:=by
  obtain ⟨n,hn⟩ : ∃n,c.level.toNat=n:=⟨_,rfl⟩
  rw [hn]
  have hn6:n<=6:=by omega
  match n,hn6 with
  | 0,_=>decide
  | 1,_=>decide
  | 2,_=>decide
  | 3,_=>decide
  | 4,_=>decide
  | 5,_=>decide
  | 6,_=>decide
 have h3':0<=(2:Int) ^ c.level.toNat:=Int.pow_nonneg (by omega)
 unfold Wb6
 dsimp only
 generalize c.threads*(if c.algo == 0 then 2 else 2*c.level+2)=A at *
 generalize c.nodes*(if c.algo == 0 then 3 else 5+c.level)=B at *
 generalize (2:Int) ^ c.level.toNat=D at *
 constructor <;> dsimp only <;> first | omega | (split <;> omega)
theorem Yx3 {D E:Nat->Prop} {F G:Wa1->Prop} (σ:WU3) (h:(lift D F*lift E G) σ):lift (λb=>D b\/E b) (λh=>F h/\G h) σ:=by
 obtain ⟨s,t,d,rfl,⟨a1,a2⟩,b1,b2⟩:=h
 refine ⟨λb=>?_,λh S=>⟨a2 h S.left,b2 h (S.right d)⟩⟩
 have:=Wo7 (σ:=s) (τ:=t) (b:=b)
 show D b\/E b↔uni s t b≠none
 rw [a1,b1,ne_eq,ne_eq,ne_eq,this]
 by_cases e1:s b=none <;> by_cases e2:t b=none <;> simp [e1,e2]
theorem Yx4 {b:Nat} {o:Obj} (σ:WU3) (h:pt b o σ):lift (λc=>c=b) (λh=>h[b]? = some o) σ:=by
 refine ⟨λc=>?_,λh' S=>S.at b o (by rw [h b,if_pos rfl])⟩
 rw [h c]
 by_cases e:c=b <;> simp [e]
theorem YU3:byt Tryz.prog 178=8:=by kernel_rfl
theorem Yl0:Wn8 Tryz.prog 178 = [uQ 0]:=by kernel_rfl
theorem YI8:Wn8 Tryz.prog 3 = [iQ 0]:=by kernel_rfl
theorem Y86:byt Tryz.prog 3=8:=by kernel_rfl
theorem Ye1 {v:Value} (n:Nat):(List.replicate n [v]).flatten=List.replicate n v:=by rw [List.flatten_replicate_singleton]
theorem Wr5 {K:kQ} {h:Wa1} {n:Int} (hn:0<=n/\n<=4096) (k:K (.slice (some (aQ h.size)) n.toNat n.toNat) (h.push (.cells (uvs (List.replicate n.toNat 0)).toArray 178))):Wm5 Tryz.prog 178 n n h K:=by
 unfold Wm5
 refine ⟨by omega,by omega,by omega,by rw [YU3];omega,?_⟩
 rw [Yl0,Ye1]
 have e:uvs (List.replicate n.toNat 0)=List.replicate n.toNat (uQ 0):=by unfold uvs;rw [List.map_replicate]
 rw [e] at k
 exact k
theorem YQ2 {K:kQ} {h:Wa1} {n:Int} (hn:0<=n/\n<=4096) (k:K (.slice (some (aQ h.size)) n.toNat n.toNat) (h.push (.cells ((List.replicate n.toNat (0:Int)).map iv).toArray 3))):Wm5 Tryz.prog 3 n n h K:=by
 unfold Wm5
 refine ⟨by omega,by omega,by omega,by rw [Y86];omega,?_⟩
 rw [YI8,Ye1]
 rw [List.map_replicate] at k
 exact k
theorem W67 {K:kQ} {h:Wa1} {R:Hp} {n:Int} (H:Sat h R) (hn:1<=n/\n<=4096) (k:∀h' q,Sat h' (Wm4 q ⟨List.replicate n.toNat 0,0,false,[]⟩*R)->K (.tuple #[mP q,iQ 0]) h') :
  Wa4 Tryz.prog 99 #[iQ n] h K:=by
 refine call99 ?_
 unfold F99
 refine ⟨λvs h'=>vs = [.bool false]/\h' = h,?_,?_⟩
 ·refine Wa7 (λc=>by omega) (λc=>?_)
  rw [decide_eq_false (by omega)]
  exact ⟨rfl,rfl⟩
 rintro v1 g2 h3 ⟨e,rfl⟩
 cases e
 refine sb ?_
 refine Wr5 (by omega) ?_
 refine sb ?_
 have H1:=H.push (.cells (uvs (List.replicate n.toNat 0)).toArray 178)
 generalize h3.push (.cells (uvs (List.replicate n.toNat 0)).toArray 178)=h4 at *
 have H2:=H1.push (.cells #[.slice (some (aQ h3.size)) n.toNat n.toNat,iQ 0,.bool false,.slice none 0 0] 126)
 have H3:=H2.own_new 144 4
 refine k _ h4.size (Wk9.2 ⟨h3.size,none,0,⟨by simp;omega,by simp,by simp,λv hv=>by rw [List.eq_of_mem_replicate hv];exact U0⟩,?_⟩)
 have e:(YP4 h3.size none 0 ⟨List.replicate n.toNat 0,0,false,[]⟩).toArray=#[.slice (some (aQ h3.size)) n.toNat n.toNat,iQ 0,.bool false,.slice none 0 0]:=by
  simp [YP4]
 rw [e]
 exact Sat.ac H3 (by
  show Wf2 144 4 none 0 0 []*_=_*(_*(Wf2 144 4 none 0 0 []*_))
  ac_rfl)
theorem Y21 {K:kQ} {h:Wa1} {B:Nat} {v lim:Int} (O:h[B]? = some (.cells #[uQ v] 178)) (k:K (.bool (decide (v < lim))) h) :
  Wa4 Tryz.prog 277 #[uQ lim,.slice (some (aQ B)) 1 1] h K:=by
 refine call277 ?_
 unfold F277 bd lI
 refine ⟨λvs h'=>∃w n,vs = [.bool false,w,.int .i64 n]/\h' = h/\(n=0\/n=1/\v < lim),λvs _=>match vs with | [_,_,.int _ n]=>(1 - n).toNat | _=>0,⟨_,0,rfl,rfl,.inl rfl⟩,?_⟩
 rintro v2 v3 v4 g5 h6 ⟨w,n,e,rfl,hn⟩
 cases e
 refine sb ?_
 refine Wa7 (λc=>?_) (λc=>?_)
 ·have hn0:n=0:=by omega
  subst hn0
  refine sb ?_
  refine ⟨by decide,?_⟩
  refine ldR O rfl ?_
  refine sb ?_
  refine Wa7 (λc2=>?_) (λc2=>?_)
  ·rw [decide_eq_false (by omega)] at k;exact k
  ·exact ⟨⟨_,1,rfl,.inr ⟨rfl,by omega⟩⟩,by decide⟩
 ·rw [decide_eq_true (by omega)] at k;exact k
theorem Yl1 {K:kQ} {h:Wa1} {R:Hp} {n ver:Int} {mk:Bool} (H:Sat h R) (hn:0<=n/\n < 65536) (hv:0<=ver/\ver < 140737488355328) (k:∀h',Sat h' R->K (.tuple #[uQ (Wl2 n mk ver),iQ 0]) h') :
  Wa4 Tryz.prog 206 #[iQ n,.bool mk,uQ ver] h K:=by
 refine call206 ?_
 unfold F206 cf
 have e1:IntKind.wrap .u64 n=n:=U.wrap ⟨by omega,by omega⟩
 simp only [e1]
 refine ⟨λvs h'=>(∃w,vs = [w,.bool false])/\Sat h' R,?_,?_⟩
 ·refine Wa7 (λc=>by omega) (λc=>?_)
  have H1:=H.push (.cells #[uQ n] 178)
  generalize h.push (.cells #[uQ n] 178)=h1 at *
  refine Wa0 (Y21 H1.at ?_)
  rw [decide_eq_true (by omega)]
  refine sb ?_
  have H2:=H1.push (.cells #[uQ ver] 178)
  generalize h1.push (.cells #[uQ ver] 178)=h2 at *
  refine Wa0 (Y21 H2.at ?_)
  rw [decide_eq_true (by omega)]
  refine sb ?_
  exact ⟨⟨_,rfl⟩,H2.drop.drop⟩
 rintro v7 v8 g9 h10 ⟨⟨w,e⟩,H1⟩
 cases e
 refine sb ?_
 refine Wa0 (WO5 hn hv ?_)
 refine sb ?_
 exact k _ H1
theorem WZ4 {K:kQ} {h:Wa1} {R:Hp} {n:Int} (H:Sat h R) (hn:0<=n/\n < 65536) (k:∀h',Sat h' R->K (uQ (Wl2 n false 0)) h') :
  Wa4 Tryz.prog 141 #[iQ n] h K:=by
 refine call141 ?_
 unfold F141 cf
 refine Wa0 (Yl1 H hn (by omega) λh1 H1=>?_)
 refine sb ?_
 refine Wc7 rfl ?_
 refine sb ?_
 refine Wc7 rfl ?_
 refine sb ?_
 exact k _ H1
theorem WP2 {K:kQ} {h:Wa1} {q:Nat} {m:Mm} {R:Hp} {a v:Int} (H:Sat h (Wm4 q m*R)) (hv:U v) (hs:m.st < 1099511627776)
  (k:∀h' e,Sat h' (Wm4 q (m.store a v)*R)->K (iQ e) h') :
  Wa4 Tryz.prog 140 #[mP q,iQ a,uQ v] h K:=by
 refine WI1 H hv hs (λc h' H'=>k h' 0 ?_) (λc h' H'=>k h' 2 ?_)
 ·unfold Mm.store;rw [if_pos c];exact H'
 ·unfold Mm.store;rw [if_neg (by rw [c];simp)];exact H'
theorem Wz0 (m:Mm) (a v:Int):(m.store a v).st<=m.st+1:=by
 unfold Mm.store Mm.put Mm.tick
 split
 ·exact Int.le_refl _
 ·omega
end
section
open Mod
def Ww7 (n i:Int):List Int:=(List.range n.toNat).map λ(k:Nat)=>if (k:Int) < i then 1 else 0
theorem Yx5 {n i:Int} (h0:0<=i):(Ww7 n i).set i.toNat 1=Ww7 n (i+1):=by
 apply List.ext_getElem
 ·simp [Ww7]
 ·intro k h1 h2
  rw [List.getElem_set]
  simp only [Ww7,List.getElem_map,List.getElem_range]
  split
  ·rename_i e;rw [if_pos (by omega)]
  ·rename_i e
   by_cases c:(k:Int) < i
   ·rw [if_pos c,if_pos (by omega)]
   ·rw [if_neg c,if_neg (by omega)]
theorem Yl2 (n:Int):Ww7 n 0=List.replicate n.toNat 0:=by
 apply List.ext_getElem
 ·simp [Ww7]
 ·intro k h1 h2
  simp only [Ww7,List.getElem_map,List.getElem_range,List.getElem_replicate]
  rw [if_neg (by omega)]
theorem WT2 {K:kQ} {h:Wa1} {R:Hp} {n live:Int} (H:Sat h R) (hn:1<=n/\n<=64) (hl:0<=live/\live<=n) (k:∀h' q,Sat h' (ghS (some (YH8 n live)) q*R)->K (mP q) h') :
  Wa4 Tryz.prog 103 #[iQ n,iQ live] h K:=by
 refine call103 ?_
 unfold F103 bd lS
 refine ⟨λvs h'=>vs = [iQ n]/\h' = h,?_,?_⟩
 ·refine ⟨λvs h'=>vs = [.bool false]/\h' = h,?_,?_⟩
  ·refine Wa7 (λc=>by omega) (λc=>?_)
   rw [decide_eq_false (by omega)]
   exact ⟨rfl,rfl⟩
  rintro v1 g2 h3 ⟨e,rfl⟩
  cases e
  try simp only [Wc5,bsx,Nat.reduceAdd,Int.reduceLE,Int.reduceLT,Int.reduceToNat]
  try exact ⟨rfl,rfl⟩
 rintro v6 g7 h8 ⟨e,rfl⟩
 cases e
 refine sb ?_
 refine YQ2 (by omega) ?_
 refine sb ?_
 rw [Wm0,Wm0]
 rw [show WL7 (WL6 live 0) n=live by unfold WL7 WL6;split <;> split <;> omega]
 have H1:=H.push (.cells ((List.replicate n.toNat (0:Int)).map iv).toArray 3)
 generalize h8.push (.cells ((List.replicate n.toNat (0:Int)).map iv).toArray 3)=h9 at *
 generalize h8.size=b at *
 have H2:=H1.push (.cells #[.slice (some (aQ b)) n.toNat n.toNat,iQ 0,iQ 0] 213)
 generalize h9.push (.cells #[.slice (some (aQ b)) n.toNat n.toNat,iQ 0,iQ 0] 213)=h10 at *
 generalize h9.size=q at *
 rw [<- Yl2] at H2
 have hlen:∀i,(Ww7 n i).length=n.toNat:=λi=>by simp [Ww7]
 refine ⟨λvs h'=>∃(w:Value) (i:Int),vs = [w,.int .i64 i]/\0<=i/\i<=live/\Sat h' (pt q (.cells #[.slice (some ⟨b,0,none⟩) n.toNat n.toNat,.int .i64 0,.int .i64 0] 213)*(pt b (.cells ((Ww7 n i).map iv).toArray 3)*R)),λvs _=>match vs with | [_,.int _ i]=>(live - i).toNat | _=>0,⟨_,0,rfl,by omega,by omega,H2⟩,?_⟩
 rintro v24 v25 g26 h27 ⟨w,i,e,i0,i1,H3⟩
 cases e
 refine sb ?_
 refine Wa7 (λc=>?_) (λc=>?_)
 ·refine H3.ld rfl ?_
  refine sb ?_
  refine ⟨by omega,by omega,?_⟩
  rw [Wb8] at H3
  refine WX7 (row:=(Ww7 n i).map iv) H3 (by simp [hlen];omega) trivial λh28 H4=>?_
  have e1:((Ww7 n i).map iv).set i.toNat (iQ 1)=(Ww7 n (i+1)).map iv:=by
   rw [<- Yx5 i0,List.map_set]
  rw [e1,Wb8] at H4
  rw [show s64 (i+1)=i+1 from by unfold s64;omega]
  exact ⟨⟨_,i+1,rfl,by omega,by omega,H4⟩,by omega⟩
 ·have ei:i=live:=by omega
  subst ei
  refine k _ q ?_
  have hg:YH8 n i=⟨Ww7 n i,0,0⟩:=rfl
  rw [hg]
  show Sat h27 ((ex λb=>lift (wdS q b) λh=>GhF h q b ⟨Ww7 n i,0,0⟩)*R)
  refine Sat.ex.2 ⟨b,?_⟩
  rw [<- Wc4] at H3
  refine H3.mono λσ hσ=>?_
  obtain ⟨s,t,d,rfl,p1,p2⟩:=hσ
  have J:=Yx3 _ ⟨s,t,d,rfl,Yx4 _ p1,Yx4 _ p2⟩
  refine ⟨J.1,λh S=>?_⟩
  obtain ⟨j1,j2⟩:=J.2 h S
  refine ⟨?_,j2,by simp [hlen];omega⟩
  rw [j1]
  simp [hlen]
theorem Y22:und Tryz.prog 26=.slice 5:=by kernel_rfl
theorem YI9:We9 Tryz.prog 5=true:=by kernel_rfl
theorem Y23:zer Tryz.prog 5=some (.int .u8 0):=by kernel_rfl
theorem YQ3:siz Tryz.prog 5=1:=by kernel_rfl
theorem YQ4:byt Tryz.prog 5=1:=by kernel_rfl
theorem WZ5 {K:kQ} {h:Wa1} {R:Hp} {a:Option Addr} {c:Nat} {bs:List Int} (H:Sat h R) (hs:Sees h a (bs.map λn=>.int .u8 n)) (hl:bs.length<=65536) (hr:∀n ∈ bs,0<=n/\n < 256) (k:∀h' q,Sat h' (fdS q bs 0*R)->K (mP q) h') :
  Wa4 Tryz.prog 102 #[.slice a bs.length c] h K:=by
 refine call102 ?_
 unfold F102
 have o1:Old h.size h (h.push (.cells #[] 5)):=(Old.refl _ _).push _ (Nat.le_refl _)
 have H1:=H.push (.cells #[] 5)
 have hs1:=hs.old o1
 have sz:(h.push (.cells #[] 5)).size=h.size+1:=by simp
 have ow:Own (h.push (.cells #[] 5)) 5 (siz Tryz.prog 5) (some (aQ h.size)) 0 0 []:=⟨by simp,Nat.le_refl _,.inr ⟨h.size,#[],rfl,H1.at,by simp,by simp⟩⟩
 generalize h.push (.cells #[] 5)=h1 at *
 refine Ws9 Y22 YI9 Y23 (by rw [YQ3];rfl) ow hs1 (by rw [YQ3];simp) (λy hy=>?_) (by rw [YQ4];omega) (by rw [YQ4];omega) λa' c' h2 o' hsz old ha=>?_
 ·obtain ⟨n,_,rfl⟩:=List.mem_map.1 hy
  trivial
 rw [Nat.zero_add] at o' ⊢
 refine sb ?_
 have o2:Old h.size h h2:=⟨by omega,λb hb=>(old b (by omega) λad ea=>by cases ea;exact λe=>by simp at e;omega).trans (o1.2 b hb)⟩
 have fb:∀b,blk a' b->h.size<=b:=by
  rintro b ⟨ad,e,rfl⟩
  rcases ha with ha | ⟨ha,_⟩
  ·rw [e] at ha;cases ha;exact Nat.le_refl _
  ·rw [e] at ha;cases ha;show h.size<=h1.size;omega
 have o3:Old h.size h (h2.push (.cells #[.slice a' bs.length c',iQ 0] 236)):=o2.push _ o2.1
 have q1:(h2.push (.cells #[.slice a' bs.length c',iQ 0] 236))[h2.size]? = some (.cells #[.slice a' bs.length c',iQ 0] 236):=by simp
 have o4:=o'.keep (h':=h2.push (.cells #[.slice a' bs.length c',iQ 0] 236)) λad ea=>Wg8 _ _ _ (o'.lt ad ea)
 have nq:¬ blk a' h2.size:=λhb=>Nat.lt_irrefl _ (o'.lt2 hb)
 have sz3:(h2.push (.cells #[.slice a' bs.length c',iQ 0] 236)).size=h2.size+1:=by simp
 have lt2:∀b,blk a' b->b < h2.size:=λb hb=>o'.lt2 hb
 generalize h2.push (.cells #[.slice a' bs.length c',iQ 0] 236)=h3 at *
 have hsz2:=o2.1
 refine k h3 h2.size (Sat.ex.2 ⟨a',Sat.ex.2 ⟨c',H.mk_new o3 (λb hb=>?_) (λb o hb e=>?_) λh4 e=>?_⟩⟩)
 ·rcases hb with rfl | ⟨hb,_⟩
  ·exact ⟨hsz2,by omega⟩
  ·exact ⟨fb b hb,by have:=lt2 b hb;omega⟩
 ·rcases hb with rfl | ⟨hb,_⟩
  ·rw [q1] at e;cases e
   intro x hx;cases hx
  ·exact o4.nd b o hb e
 ·refine ⟨?_,?_,hr,by omega,nq⟩
  ·rw [e _ (.inl rfl),q1]
  ·by_cases c0:bs = []
   ·subst c0;exact Sees.nil _ _
   ·have o5:=o4.keep (h':=h4) λad ea=>e _ (.inr ⟨⟨ad,ea,rfl⟩,c0⟩)
    exact o5.sees
end
section
open Mod
def YX6 (p:Pl) (m0:Mm):Mm:=
 let c:=p.c
 let first:=p.sent+1
 let m1:=m0.store 0 (Wl2 first false 0)
 let m2:=(List.range (c.nodes - first).toNat).foldl (λ(m:Mm) (i:Nat)=>m.store (p.link (first+i)) (first+i+1)) m1
 let m3:=m2.store 2 1
 if c.algo=0 then m3 else
  let m4:=m3.store (p.node 1 3) c.level
  let m5:=m4.store (p.node 2 0) 18446744073709551615
  (List.range c.level.toNat).foldl (λ(m:Mm) (i:Nat)=>m.store (p.node 1 (5+i)) (Wl2 2 false 0)) m5
theorem YJ0 (p:Pl):lay p=YX6 p ⟨List.replicate p.size.toNat 0,0,false,[]⟩:=rfl
theorem Yx6 (a v:Nat->Int) (m:Mm) (n:Nat):((List.range n).foldl (λ(m:Mm) (i:Nat)=>m.store (a i) (v i)) m).st<=m.st+n:=by
 induction n with
 | zero=>simp
 | succ n ih=>
  rw [List.range_succ,List.foldl_append]
  simp only [List.foldl_cons,List.foldl_nil]
  have:=Wz0 ((List.range n).foldl (λ(m:Mm) (i:Nat)=>m.store (a i) (v i)) m) (a n) (v n)
  omega
theorem WZ6 (a v:Nat->Int) (m:Mm) (n:Nat):((List.range n).foldl (λ(m:Mm) (i:Nat)=>m.store (a i) (v i)) m).store (a n) (v n)=(List.range (n+1)).foldl (λ(m:Mm) (i:Nat)=>m.store (a i) (v i)) m:=by
 rw [List.range_succ,List.foldl_append]
 rfl
theorem Ye2 {n:Int} (h:0<=n/\n < 65536):U (Wl2 n false 0):=Yu3 h (by omega)
theorem YJ1 {K:kQ} {h:Wa1} {R:Hp} {q:Nat} {m0:Mm} {p:Pl} (H:Sat h (Wm4 q m0*R)) (P:PlB p) (h0:m0.st=0) (hsn:p.sent < p.c.nodes) (k:∀h',Sat h' (Wm4 q (YX6 p m0)*R)->K (.tuple #[]) h') :
  Wa4 Tryz.prog 101 #[mP q,plV p] h K:=by
 refine call101 ?_
 unfold F101 g101 cf ce lI de7 Wz6
 have hse:=P.se
 have hno:=P.no
 have hlv:=P.lv
 rw [WH8]
 have H1:=H.push (.cells (plc p).toArray 117)
 generalize h.push (.cells (plc p).toArray 117)=h1 at *
 generalize h.size=Np at *
 refine W65 H1.at ?_
 refine Wa0 (Wr4 λh2 o2=>cf7 ?_)
 have H2:=H1.old o2
 have H3:=H2.push (.cells YD9 23)
 generalize h2.push (.cells YD9 23)=h3 at *
 generalize h2.size=Nc at *
 refine st7 (We3 (vs:=cfc p.c) H3.at rfl (by simp [cfc,Wh0]) λh5 w=>?_)
 have H5:=H3.wr w.new w.old
 clear H3 w
 refine W65 H5.at2 ?_
 refine Wa0 (WH9 λh6 o6=>?_)
 have H6:=H5.old o6
 refine sb ?_
 rw [show s64 (p.sent+1)=p.sent+1 from by unfold s64;omega]
 refine Wa0 (WZ4 H6 (by omega) λh7 H7=>?_)
 refine sb ?_
 have H8:Sat h7 (Wm4 q m0*(pt Nc (.cells (cfc p.c).toArray 23)*(pt Np (.cells (plc p).toArray 117)*R))):=Sat.ac H7 (by ac_rfl)
 refine Wa0 (WP2 H8 (Ye2 (by omega)) (by omega) λh9 e9 H9=>?_)
 refine sb ?_
 have s1:=Wz0 m0 0 (Wl2 (p.sent+1) false 0)
 have hf:=Yx6 (λj=>p.link (p.sent+1+j)) (λj=>p.sent+1+j+1) (m0.store 0 (Wl2 (p.sent+1) false 0))
 refine ⟨λvs h'=>∃(j:Nat),vs = [.int .i64 (p.sent+1+j)]/\(j:Int)<=p.c.nodes - (p.sent+1)/\Sat h' (Wm4 q ((List.range j).foldl (λ(m:Mm) (i:Nat)=>m.store (p.link (p.sent+1+i)) (p.sent+1+i+1)) (m0.store 0 (Wl2 (p.sent+1) false 0)))*(pt Nc (.cells (cfc p.c).toArray 23)*(pt Np (.cells (plc p).toArray 117)*R))),λvs _=>match vs with | [.int _ i]=>(p.c.nodes - i).toNat | _=>0,⟨0,by simp,by omega,by simpa using H9⟩,?_⟩
 rintro v58 g59 h60 ⟨j,e,hj,HJ⟩
 cases e
 have C:=HJ.at2
 have PP:=HJ.at3
 refine sb ?_
 refine ldR C rfl ?_
 refine sb ?_
 refine Wa7 (λc=>?_) (λc=>?_)
 ·refine W65 PP ?_
  try simp only [Wc5,bsx,Nat.reduceAdd,Int.reduceLE,Int.reduceLT,Int.reduceToNat]
  refine Wa0 (Ww4 P ⟨by omega,by omega⟩ λh61 o61=>?_)
  have HK:=HJ.old o61
  refine sb ?_
  rw [show s64 (p.sent+1+(j:Int)+1)=p.sent+1+j+1 from by unfold s64;omega,show Mod.u64 (p.sent+1+(j:Int)+1)=p.sent+1+j+1 from by unfold Mod.u64;omega]
  refine Wa0 (WP2 HK ⟨by omega,by omega⟩ (by have:=hf j;omega) λh62 e62 HL=>?_)
  refine sb ?_
  rw [WZ6 (λj=>p.link (p.sent+1+j)) (λj=>p.sent+1+j+1)] at HL
  refine ⟨⟨j+1,?_,by omega,HL⟩,?_⟩
  ·simp;omega
  ·simp;omega
 have ej:(p.c.nodes - (p.sent+1)).toNat=j:=by omega
 have k:∀h',Sat h' (Wm4 q (if p.c.algo=0 then ((List.range j).foldl (λ(m:Mm) (i:Nat)=>m.store (p.link (p.sent+1+i)) (p.sent+1+i+1)) (m0.store 0 (Wl2 (p.sent+1) false 0))).store 2 1 else
   (List.range p.c.level.toNat).foldl (λ(m:Mm) (i:Nat)=>m.store (p.node 1 (5+i)) (Wl2 2 false 0)) (((((List.range j).foldl (λ(m:Mm) (i:Nat)=>m.store (p.link (p.sent+1+i)) (p.sent+1+i+1)) (m0.store 0 (Wl2 (p.sent+1) false 0))).store 2 1).store (p.node 1 3) p.c.level).store (p.node 2 0) 18446744073709551615))*R)->K (.tuple #[]) h':=by
  unfold YX6 at k
  rw [<- ej]
  exact k
 have hfj:=hf j
 generalize (List.range j).foldl (λ(m:Mm) (i:Nat)=>m.store (p.link (p.sent+1+i)) (p.sent+1+i+1)) (m0.store 0 (Wl2 (p.sent+1) false 0))=m2 at *
 refine Wa0 (WP2 HJ (U.lit rfl) (by omega) λh10 e10 H10=>?_)
 have s3:=Wz0 m2 2 1
 refine sb ?_
 refine ldR H10.at2 rfl ?_
 refine sb ?_
 refine Wa7 (λc2=>?_) (λc2=>?_)
 ·rw [if_pos c2] at k
  exact k h10 H10.drop2.drop2
 rw [if_neg c2] at k
 refine W65 H10.at3 ?_
 refine ldR H10.at2 rfl ?_
 refine sb ?_
 refine Wa0 (Wj7 P (by decide) (by decide) λh11 o11=>?_)
 have H11:=H10.old o11
 refine sb ?_
 refine ⟨Wd3 H11.at2 rfl,?_⟩
 rw [show Mod.u64 p.c.level=p.c.level from by unfold Mod.u64;omega]
 refine Wa0 (WP2 H11 ⟨by omega,by omega⟩ (by omega) λh12 e12 H12=>?_)
 have s4:=Wz0 (m2.store 2 1) (p.node 1 3) p.c.level
 refine sb ?_
 refine W65 H12.at3 ?_
 refine Wa0 (Wj7 P (by decide) (by decide) λh13 o13=>?_)
 have H13:=H12.old o13
 refine sb ?_
 refine Wa0 (WP2 H13 (U.lit rfl) (by omega) λh14 e14 H14=>?_)
 have s5:=Wz0 ((m2.store 2 1).store (p.node 1 3) p.c.level) (p.node 2 0) 18446744073709551615
 refine sb ?_
 refine ldR H14.at2 rfl ?_
 refine sb ?_
 generalize ((m2.store 2 1).store (p.node 1 3) p.c.level).store (p.node 2 0) 18446744073709551615=m5 at *
 have hm5:m5.st<=2000:=by omega
 clear s1 s3 s4 s5 hfj H9 H10 H11 H12 H13
 clear hf
 have hf:=Yx6 (λj=>p.node 1 (5+j)) (λj=>Wl2 2 false 0) m5
 refine ⟨λvs h'=>∃(w:Value) (j:Nat),vs = [w,.int .i64 j]/\(j:Int)<=p.c.level/\Sat h' (Wm4 q ((List.range j).foldl (λ(m:Mm) (i:Nat)=>m.store (p.node 1 (5+i)) (Wl2 2 false 0)) m5)*(pt Nc (.cells (cfc p.c).toArray 23)*(pt Np (.cells (plc p).toArray 117)*R))),λvs _=>match vs with | [_,.int _ i]=>(p.c.level - i).toNat | _=>0,⟨_,0,rfl,by omega,H14⟩,?_⟩
 rintro v141 v142 g143 h144 ⟨w,j2,e,hj2,HJ⟩
 cases e
 refine sb ?_
 refine Wa7 (λc3=>?_) (λc3=>?_)
 ·refine W65 HJ.at3 ?_
  rw [show s64 (5+(j2:Int))=5+j2 from by unfold s64;omega]
  refine Wa0 (Wj7 P (by decide) ⟨by omega,by omega⟩ λh61 o61=>?_)
  have HK:=HJ.old o61
  refine sb ?_
  refine Wa0 (WZ4 HK (by omega) λh62 HL=>?_)
  refine sb ?_
  refine Wa0 (WP2 HL (Ye2 (by omega)) (by have:=hf j2;omega) λh63 e63 HM=>?_)
  refine sb ?_
  rw [WZ6 (λj=>p.node 1 (5+j)) (λj=>Wl2 2 false 0)] at HM
  rw [show s64 ((j2:Int)+1)=((j2+1:Nat):Int) from by unfold s64;omega]
  refine ⟨⟨_,j2+1,rfl,by omega,HM⟩,?_⟩
  omega
 ·have ej2:p.c.level.toNat=j2:=by omega
  rw [ej2] at k
  exact k h144 HJ.drop2.drop2
end
section
open Mod
theorem Yx7 (Ts:List Nat) (ts:List Thr) (T:Nat) (t:Thr):∀(i:Int),Ts.length=ts.length->WZ1 i (Ts ++ [T]) (ts ++ [t])=WZ1 i Ts ts*Wi6 T none t (i+ts.length):=by
 induction Ts generalizing ts with
 | nil=>
  intro i e
  cases ts with
  | nil=>
   show Wi6 T none t i*emp=emp*Wi6 T none t (i+0)
   rw [Wt1,Int.add_zero]
  | cons _ _=>simp at e
 | cons T0 Ts ih=>
  intro i e
  cases ts with
  | nil=>simp at e
  | cons t0 ts=>
   have e':Ts.length=ts.length:=by simpa using e
   show Wi6 T0 none t0 i*WZ1 (i+1) (Ts ++ [T]) (ts ++ [t])=(Wi6 T0 none t0 i*WZ1 (i+1) Ts ts)*Wi6 T none t (i+((t0 :: ts).length:Nat))
   rw [ih ts (i+1) e',Wc4]
   congr 3
   simp only [List.length_cons]
   omega
theorem YU4:und Tryz.prog 120=.slice 176:=by kernel_rfl
theorem Yx8:We9 Tryz.prog 176=true:=by kernel_rfl
theorem YU5:zer Tryz.prog 176=some (.pointer none):=by kernel_rfl
theorem WT3:siz Tryz.prog 176=1:=by kernel_rfl
theorem Yx9:byt Tryz.prog 176=8:=by kernel_rfl
theorem YU6 {h:Wa1} {R:Hp} {A B C:Nat} {c:Mod.Cf} (id:Int) (H:Sat h (pt A (.cells (uvs (List.replicate c.level.toNat 0)).toArray 178)*(pt B (.cells (uvs (List.replicate c.level.toNat 0)).toArray 178)*(pt C (.cells (uvs (List.replicate c.level.toNat 0)).toArray 178)*R)))) :
  Sat (h.push (.cells #[iQ id,.slice none 0 0,uQ 0,uQ 0,uQ 0,.slice (some (aQ A)) c.level.toNat c.level.toNat,.slice (some (aQ B)) c.level.toNat c.level.toNat,.slice (some (aQ C)) c.level.toNat c.level.toNat,.slice none 0 0,.slice none 0 0] 183)) (Wi6 h.size none (Wu6 c) id*R):=by
 have H1:=H.push (.cells #[iQ id,.slice none 0 0,uQ 0,uQ 0,uQ 0,.slice (some (aQ A)) c.level.toNat c.level.toNat,.slice (some (aQ B)) c.level.toNat c.level.toNat,.slice (some (aQ C)) c.level.toNat c.level.toNat,.slice none 0 0,.slice none 0 0] 183)
 have H2:=((H1.own_new 190 12).own_new 3 1).own_new 3 1
 have z:∀v ∈ List.replicate c.level.toNat (0:Int),U v:=λv hv=>by rw [List.eq_of_mem_replicate hv];exact U0
 have hn:∀v ∈ ([]:List Int),iN v:=λv hv=>by cases hv
 refine Wd7.2 ⟨⟨none,0,A,B,C,none,0,none,0⟩,⟨⟨λf hf=>(by cases hf),⟨rfl,λv hv=>?_⟩,z,z,z,hn,hn,by simp [Wu6]⟩,TopAt.none _ _⟩,?_⟩
 ·simp only [Wu6,List.mem_cons,List.not_mem_nil,or_false] at hv
  rcases hv with rfl | rfl | rfl <;> exact U0
 have e:(WL4 ⟨none,0,A,B,C,none,0,none,0⟩ (Wu6 c) id).toArray=#[iQ id,.slice none 0 0,uQ 0,uQ 0,uQ 0,.slice (some (aQ A)) c.level.toNat c.level.toNat,.slice (some (aQ B)) c.level.toNat c.level.toNat,.slice (some (aQ C)) c.level.toNat c.level.toNat,.slice none 0 0,.slice none 0 0]:=by
  simp [WL4,Wu6]
 rw [e]
 have H3:Sat _ (WG9 none 0 0 []*_):=H2.toF (xs:=[])
 refine Sat.ac H3 ?_
 show _=_*(Wf2 190 12 none 0 0 []*(_*(_*(_*(Wf2 3 1 none 0 0 []*(WG9 none 0 0 []*_))))))
 ac_rfl
theorem Ww8 {v0 v1:Value} {F:Value->Prop} (k:F v0):Wc2 #[v0,v1] 0 F:=k
theorem Ww9 {v0 v1:Value} {F:Value->Prop} (k:F v1):Wc2 #[v0,v1] 1 F:=k
def WP3 (c:Mod.Cf) (bs:List Int) (gh:Bool) (i:Nat):Mac:=(Wg7 c bs gh).setTh (List.replicate i (Wu6 c))
theorem YQ5 {h:Wa1} {a:Addr} {v:Value} (e:Wa3 h a=some v) (F:Value->Prop):ldH h a F=F v:=by unfold ldH;rw [e]
theorem z15 {F:Value->Value->Value->Value->Value->Value->Value->Value->Value->Value->Value->Value->Value->Value->Value->Prop} (k:F (iQ 0) (iQ 0) (iQ 0) (iQ 0) (iQ 0) (iQ 0) (iQ 0) (iQ 0) (iQ 0) (iQ 0) (iQ 0) (iQ 0) (iQ 0) (iQ 0) (iQ 0)) :
 asAgg (.agg Wh9) λvs=>Wg6 vs 15 (Wc2 vs 0 λv0=>Wc2 vs 1 λv1=>Wc2 vs 2 λv2=>Wc2 vs 3 λv3=>Wc2 vs 4 λv4=>Wc2 vs 5 λv5=>Wc2 vs 6 λv6=>Wc2 vs 7 λv7=>Wc2 vs 8 λv8=>Wc2 vs 9 λv9=>Wc2 vs 10 λv10=>Wc2 vs 11 λv11=>Wc2 vs 12 λv12=>Wc2 vs 13 λv13=>Wc2 vs 14 λv14=>F v0 v1 v2 v3 v4 v5 v6 v7 v8 v9 v10 v11 v12 v13 v14):=k
theorem Ye3 {h:Wa1} {X:Hp} {M q gq fq:Nat} {m:Mac} (P:PlB m.p) (e:m.th = []) (H:Sat h (pt M (.cells (Yd3 (.slice none 0 0) q gq fq m).toArray 122)*(ghS m.g gq*(fdS fq m.b m.used*(Wm4 q m.mm*X))))):Sat h (Wv4 M [] m*X):=by
 have H1:=H.own_new 176 1
 have H2:Sat h (Wj8 M (.slice none 0 0) m*(Wf2 176 1 none 0 0 []*X)):=We1.2 ⟨q,gq,fq,P,Sat.ac H1 (by ac_rfl)⟩
 refine Wi2.2 ⟨none,0,⟨by rw [e];rfl,by rw [e];simp⟩,?_⟩
 rw [e]
 show Sat h (Wj8 M (.slice none 0 0) m*(Wf2 176 1 none 0 0 []*(emp*X)))
 rw [Wi4]
 exact H2
theorem Yl3 {h:Wa1} {X:Hp} {M A B C:Nat} {Ts:List Nat} {c:Mod.Cf} {bs:List Int} {gh:Bool} {i:Nat} {a:Option Addr} {cc:Nat} {K:Wa1->Prop} (hi:i < 6) (hT:Ts.length=i)
  (H:Sat h (pt A (.cells (uvs (List.replicate c.level.toNat 0)).toArray 178)*(pt B (.cells (uvs (List.replicate c.level.toNat 0)).toArray 178)*(pt C (.cells (uvs (List.replicate c.level.toNat 0)).toArray 178)*(Wj8 M (.slice a i cc) (WP3 c bs gh i)*(Wf2 176 1 a i cc (Ts.map mP)*(WZ1 0 Ts (List.replicate i (Wu6 c))*X)))))))
  (k:∀h' T,Sat h' (Wv4 M (Ts ++ [T]) (WP3 c bs gh (i+1))*X)->K h') :
  Wp5 Tryz.prog #[120,120] 120 #[.slice a i cc,.slice (some ⟨(h.push (.cells #[iQ i,.slice none 0 0,uQ 0,uQ 0,uQ 0,.slice (some (aQ A)) c.level.toNat c.level.toNat,.slice (some (aQ B)) c.level.toNat c.level.toNat,.slice (some (aQ C)) c.level.toNat c.level.toNat,.slice none 0 0,.slice none 0 0] 183)).size,0,none⟩) 1 1]
   ((h.push (.cells #[iQ i,.slice none 0 0,uQ 0,uQ 0,uQ 0,.slice (some (aQ A)) c.level.toNat c.level.toNat,.slice (some (aQ B)) c.level.toNat c.level.toNat,.slice (some (aQ C)) c.level.toNat c.level.toNat,.slice none 0 0,.slice none 0 0] 183)).push (.cells #[.pointer (some (aQ h.size))] 176))
   λv h'=>Wb3 v λo k1 k2=>stH h' ⟨M,18,none⟩ (.slice o k1 k2) K:=by
 have H1:=YU6 (i:Int) H
 generalize h.push _=h1 at *
 generalize h.size=T at *
 have H2:=H1.push (.cells #[.pointer (some (aQ T))] 176)
 have hs:Sees (h1.push (.cells #[.pointer (some (aQ T))] 176)) (some (aQ h1.size)) [mP T]:=λj v hj=>⟨_,rfl,by rw [Wc1,Nat.zero_add,Wb4 H2.at];simpa using hj⟩
 generalize h1.push (.cells #[.pointer (some (aQ T))] 176)=h2 at *
 have H3:Sat h2 (Wf2 176 (siz Tryz.prog 176) a i cc (Ts.map mP)*(Wj8 M (.slice a i cc) (WP3 c bs gh i)*(WZ1 0 Ts (List.replicate i (Wu6 c))*(Wi6 T none (Wu6 c) i*X)))):=by
  rw [WT3]
  exact Sat.ac H2.drop (by ac_rfl)
 refine H3.app YU4 Yx8 YU5 (by rw [WT3];rfl) hs (n:=1) (by rw [WT3];rfl) (by simp [Wh0]) (by rw [Yx9];omega) (by rw [Yx9];omega) λa' c' h3 H4=>?_
 rw [WT3,Wb8] at H4
 obtain ⟨q,gq,fq,P,H5⟩:=We1.1 H4
 refine sb ?_
 refine H5.st (i:=18) rfl trivial λh4 H6=>k h4 T ?_
 have H7:Sat h4 (Wj8 M (.slice a' (i+1) c') (WP3 c bs gh (i+1))*(Wf2 176 1 a' (i+1) c' (Ts.map mP ++ [mP T])*(WZ1 0 Ts (List.replicate i (Wu6 c))*(Wi6 T none (Wu6 c) i*X)))):=We1.2 ⟨q,gq,fq,P,H6⟩
 refine Wi2.2 ⟨a',c',⟨by simp [WP3,Mod.Mac.setTh,hT],by simp [WP3,Mod.Mac.setTh];omega⟩,?_⟩
 have e1:(WP3 c bs gh (i+1)).th=List.replicate i (Wu6 c) ++ [Wu6 c]:=List.replicate_succ'
 have e2:(WP3 c bs gh (i+1)).th.length=i+1:=by rw [e1];simp
 rw [e2,e1,Yx7 _ _ _ _ _ (by simp [hT]),List.map_append]
 have e3:(0:Int)+((List.replicate i (Wu6 c)).length:Nat)=i:=by simp
 rw [e3]
 exact Sat.ac H7 (by show _=_*(Wf2 176 1 a' (i+1) c' (Ts.map mP ++ [mP T])*_);ac_rfl)
theorem WZ7 {K:kQ} {h:Wa1} {R:Hp} {c:Mod.Cf} {a:Option Addr} {cc:Nat} {bs:List Int} {gh:Bool} (H:Sat h R) (hs:∀h' P,Sat h' (P*R)->Sees h' a (bs.map λn=>.int .u8 n)) (hl:bs.length<=65536) (hr:∀n ∈ bs,0<=n/\n < 256)
  (k0:okC c=false->∀h',Sat h' R->K (.tuple #[.pointer none,iQ 6]) h') (k1:okC c=true->∀h' M Ts,Sat h' (Wv4 M Ts (Wg7 c bs gh)*R)->K (.tuple #[mP M,iQ 0]) h') :
  Wa4 Tryz.prog 62 #[cfV c,.slice a bs.length cc,.bool gh] h K:=by
 refine call62 ?_
 unfold F62 g62 q62_7 q62_6 q62_5 q62_4 q62_3 q62_2 q62_1 cf ce lI Ww2 dl7 Wz6
 have H1:=H.push (.cells #[iQ c.algo,iQ c.threads,iQ c.nodes,iQ c.level,iQ c.batch,iQ c.probes,iQ c.scan] 23)
 generalize h.push (.cells #[iQ c.algo,iQ c.threads,iQ c.nodes,iQ c.level,iQ c.batch,iQ c.probes,iQ c.scan] 23)=h1 at *
 generalize h.size=Nc at *
 have C1:=H1.at
 iterate 7 (refine ldR C1 rfl ?_)
 refine Wa0 (WZ3 c (λhok h2 o2=>?_) λhok h2 o2=>?_)
 ·have P:=Wv0 hok
  have hp:(Wb6 c).c=c:=rfl
  have H2:=H1.old o2
  refine sb ?_
  refine Ww8 ?_
  refine W16 ?_
  try simp only [Wc5,bsx,Nat.reduceAdd,Int.reduceLE,Int.reduceLT,Int.reduceToNat]
  refine Ww9 ?_
  refine sb ?_
  have H3:=H2.push (.cells Wp0 117)
  generalize h2.push (.cells Wp0 117)=h3 at *
  generalize h2.size=Np at *
  refine YG4 (We3 (vs:=plc (Wb6 c)) H3.at rfl (by simp [Wh0]) λh4 w=>?_)
  have H4:=H3.wr w.new w.old
  clear H3 w
  refine Wb7 (λc0=>by simp at c0) (λ_=>?_)
  refine W65 H4.at ?_
  refine Wa0 (W49 λh5 o5=>?_)
  have H5:=H4.old o5
  refine sb ?_
  have hsz:1<=(Wb6 c).size/\(Wb6 c).size<=4096:=by
   have:=P.si;have:=P.tr;have:=P.nd;have:=P.li
   omega
  refine Wa0 (W67 H5 hsz λh6 q H6=>?_)
  refine sb ?_
  refine Ww8 ?_
  refine sb ?_
  refine Ww9 ?_
  try simp only [Wc5,bsx,Nat.reduceAdd,Int.reduceLE,Int.reduceLT,Int.reduceToNat]
  refine Wb7 (λc0=>by simp at c0) (λ_=>?_)
  refine W65 H6.at2 ?_
  have hsn:(Wb6 c).sent < (Wb6 c).c.nodes:=by
   have:=hok
   unfold okC at this
   rw [decide_eq_true_iff] at this
   have h15:=this.2.2.2.2.2.2.2.2.2.2.2.2.2.2
   show (if (c.algo == 0)=true then (0:Int) else 2) < c.nodes
   simpa using h15
  refine Wa0 (YJ1 H6 P rfl hsn λh7 H7=>?_)
  refine W65 H7.at2 ?_
  refine Wa0 (WZ5 H7 ?_ hl hr λh8 fq H8=>?_)
  ·refine hs h7 (Wm4 q (YX6 (Wb6 c) ⟨List.replicate (Wb6 c).size.toNat 0,0,false,[]⟩)*(pt Np (.cells (plc (Wb6 c)).toArray 117)*pt Nc (.cells #[iQ c.algo,iQ c.threads,iQ c.nodes,iQ c.level,iQ c.batch,iQ c.probes,iQ c.scan] 23))) (Sat.ac H7 (by ac_rfl))
  try simp only [Wc5,bsx,Nat.reduceAdd,Int.reduceLE,Int.reduceLT,Int.reduceToNat]
  refine YQ1 H8.at3 ?_
  have H9:=H8.push (.cells (Yd3 (.slice none 0 0) q 0 fq (WP3 c bs false 0)).toArray 122)
  have em:(.cells #[iQ (Wb6 c).c.algo,iQ (Wb6 c).c.threads,iQ (Wb6 c).c.nodes,iQ (Wb6 c).c.level,iQ (Wb6 c).c.batch,iQ (Wb6 c).c.probes,iQ (Wb6 c).c.scan,iQ (Wb6 c).slots,iQ (Wb6 c).width,iQ (Wb6 c).sent,iQ (Wb6 c).hazards,iQ (Wb6 c).links,iQ (Wb6 c).nodes,iQ (Wb6 c).tree,iQ (Wb6 c).size,.pointer (some (aQ q)),.pointer none,.pointer (some (aQ fq)),.slice none 0 0,.bool false,.bool false] 122:Obj)=.cells (Yd3 (.slice none 0 0) q 0 fq (WP3 c bs false 0)).toArray 122:=rfl
  rw [em]
  generalize h8.push (.cells (Yd3 (.slice none 0 0) q 0 fq (WP3 c bs false 0)).toArray 122)=h9 at *
  generalize h8.size=M at *
  have e0:WP3 c bs false 0=⟨Wb6 c,lay (Wb6 c),none,bs,0,[],false,false⟩:=rfl
  refine ⟨λ_ h'=>Sat h' (Wv4 M [] (WP3 c bs gh 0)*(pt Nc (.cells #[iQ c.algo,iQ c.threads,iQ c.nodes,iQ c.level,iQ c.batch,iQ c.probes,iQ c.scan] 23)*(pt Np (.cells (plc (Wb6 c)).toArray 117)*R))),?_,?_⟩
  ·cases gh with
   | false=>
    simp only [Wc0]
    refine Ye3 (q:=q) (gq:=0) (fq:=fq) P rfl ?_
    show Sat h9 (_*(emp*(fdS fq bs 0*(Wm4 q (lay (Wb6 c))*_))))
    rw [Wi4,YJ0]
    exact Sat.ac H9 (by ac_rfl)
   | true=>
    simp only [Wd5]
    have HC:Sat h9 (pt Nc (.cells #[iQ c.algo,iQ c.threads,iQ c.nodes,iQ c.level,iQ c.batch,iQ c.probes,iQ c.scan] 23)*(pt Np (.cells (plc (Wb6 c)).toArray 117)*(pt M (.cells (Yd3 (.slice none 0 0) q 0 fq (WP3 c bs false 0)).toArray 122)*(fdS fq bs 0*(Wm4 q (YX6 (Wb6 c) ⟨List.replicate (Wb6 c).size.toNat 0,0,false,[]⟩)*R))))):=Sat.ac H9 (by ac_rfl)
    refine ldR HC.at rfl ?_
    try simp only [Wc5,bsx,Nat.reduceAdd,Int.reduceLE,Int.reduceLT,Int.reduceToNat]
    refine W65 HC.at2 ?_
    refine Wa0 (WH9 λh10 o10=>?_)
    have HD:=HC.old o10
    try simp only [Wc5,bsx,Nat.reduceAdd,Int.reduceLE,Int.reduceLT,Int.reduceToNat]
    refine ⟨Wd3 HD.at rfl,?_⟩
    have hbd:=hok
    unfold okC at hbd
    rw [decide_eq_true_iff] at hbd
    refine Wa0 (WT2 HD ⟨hbd.2.2.2.2.1,hbd.2.2.2.2.2.1⟩ ⟨P.se.1,by have:(Wb6 c).sent < c.nodes:=hsn;omega⟩ λh11 gq HE=>?_)
    try simp only [Wc5,bsx,Nat.reduceAdd,Int.reduceLE,Int.reduceLT,Int.reduceToNat]
    have HF:Sat h11 (pt M (.cells (Yd3 (.slice none 0 0) q 0 fq (WP3 c bs false 0)).toArray 122)*(ghS (some (YH8 c.nodes (Wb6 c).sent)) gq*(fdS fq bs 0*(Wm4 q (YX6 (Wb6 c) ⟨List.replicate (Wb6 c).size.toNat 0,0,false,[]⟩)*(pt Nc (.cells #[iQ c.algo,iQ c.threads,iQ c.nodes,iQ c.level,iQ c.batch,iQ c.probes,iQ c.scan] 23)*(pt Np (.cells (plc (Wb6 c)).toArray 117)*R)))))):=Sat.ac HE (by ac_rfl)
    refine HF.st (i:=16) rfl trivial λh12 HG=>?_
    exact Ye3 (q:=q) (gq:=gq) (fq:=fq) (m:=WP3 c bs true 0) P rfl HG
  intro g131 h132 H10
  refine ldR H10.at2 rfl ?_
  try simp only [Wc5,bsx,Nat.reduceAdd,Int.reduceLE,Int.reduceLT,Int.reduceToNat]
  refine ⟨λvs h'=>∃(w:Value) (i:Nat) (Ts:List Nat),vs = [w,.int .i64 i]/\(i:Int)<=c.threads/\Ts.length=i/\Sat h' (Wv4 M Ts (WP3 c bs gh i)*(pt Nc (.cells #[.int .i64 c.algo,.int .i64 c.threads,.int .i64 c.nodes,.int .i64 c.level,.int .i64 c.batch,.int .i64 c.probes,.int .i64 c.scan] 23)*(pt Np (.cells (plc (Wb6 c)).toArray 117)*R))),λvs _=>match vs with | [_,.int _ i]=>(c.threads - i).toNat | _=>0,⟨_,0,[],rfl,by have:=P.th;rw [hp] at this;omega,rfl,H10⟩,?_⟩
  rintro v137 v138 g139 h140 ⟨w,i,Ts,e,hi,hT,H11⟩
  cases e
  have hth:=P.th
  rw [hp] at hth
  have hlv:=P.lv
  rw [hp] at hlv
  try simp only [Wc5,bsx,Nat.reduceAdd,Int.reduceLE,Int.reduceLT,Int.reduceToNat]
  refine Wa7 (λc1=>?_) (λc1=>?_)
  ·obtain ⟨a',cc',⟨hl1,hl2⟩,H12⟩:=Wi2.1 H11
   have eth:(WP3 c bs gh i).th=List.replicate i (Wu6 c):=rfl
   have ethl:(WP3 c bs gh i).th.length=i:=by rw [eth];simp
   rw [ethl,eth] at H12
   obtain ⟨q2,gq2,fq2,P2,H13⟩:=We1.1 H12
   have cM:Wa3 h140 ⟨M,18,none⟩=some (.slice a' i cc'):=Wb4 H13.at 18
   have HN:Sat h140 (pt Nc (.cells #[iQ c.algo,iQ c.threads,iQ c.nodes,iQ c.level,iQ c.batch,iQ c.probes,iQ c.scan] 23)*_):=H11.drop
   have cN:Wa3 h140 ⟨Nc,3,none⟩=some (iQ c.level):=Wb4 HN.at 3
   have lM:∀F:Value->Prop,ldH h140 ⟨M,18,none⟩ F=F (.slice a' i cc'):=YQ5 cM
   have lN:∀F:Value->Prop,ldH h140 ⟨Nc,3,none⟩ F=F (iQ c.level):=YQ5 cN
   have m1:=λo=>Wc3 (o:=o) cM
   have m2:=λo o2=>Wc3 (o:=o2) (m1 o)
   have m3:=λo o2 o3=>Wc3 (o:=o3) (m2 o o2)
   have m4:=λo o2 o3 o4=>Wc3 (o:=o4) (m3 o o2 o3)
   have m5:=λo o2 o3 o4 o5=>Wc3 (o:=o5) (m4 o o2 o3 o4)
   have n1:=λo=>Wc3 (o:=o) cN
   have n2:=λo o2=>Wc3 (o:=o2) (n1 o)
   have n3:=λo o2 o3=>Wc3 (o:=o3) (n2 o o2)
   have n4:=λo o2 o3 o4=>Wc3 (o:=o4) (n3 o o2 o3)
   have n5:=λo o2 o3 o4 o5=>Wc3 (o:=o5) (n4 o o2 o3 o4)
   try simp only [Wc5,bsx,Nat.reduceAdd,Int.reduceLE,Int.reduceLT,Int.reduceToNat,lM,lN]
   have hlv4:0<=c.level/\c.level<=4096:=by omega
   have H14:=((H12.push (.cells (uvs (List.replicate c.level.toNat 0)).toArray 178)).push (.cells (uvs (List.replicate c.level.toNat 0)).toArray 178)).push (.cells (uvs (List.replicate c.level.toNat 0)).toArray 178)
   refine ⟨Wr5 hlv4 ?_,Wr5 hlv4 ?_,Wr5 hlv4 ?_⟩
   all_goals
    try simp only [Wc5,bsx,Nat.reduceAdd,Int.reduceLE,Int.reduceLT,Int.reduceToNat,m1,n1]
    refine ⟨Wr5 hlv4 ?_,Wr5 hlv4 ?_⟩
   all_goals
    try simp only [Wc5,bsx,Nat.reduceAdd,Int.reduceLE,Int.reduceLT,Int.reduceToNat,m2,n2]
    refine Wr5 hlv4 ?_
    try simp only [Wc5,bsx,Nat.reduceAdd,Int.reduceLE,Int.reduceLT,Int.reduceToNat,m3,n3,m4,n4,m5,n5]
   all_goals
    refine Yl3 (i:=i) (X:=pt Nc (.cells #[iQ c.algo,iQ c.threads,iQ c.nodes,iQ c.level,iQ c.batch,iQ c.probes,iQ c.scan] 23)*(pt Np (.cells (plc (Wb6 c)).toArray 117)*R)) (by omega) hT (Sat.ac H14 (by ac_rfl)) λh' T H'=>?_
   all_goals
    try simp only [Wc5,bsx,Nat.reduceAdd,Int.reduceLE,Int.reduceLT,Int.reduceToNat]
    refine ⟨⟨iQ i,i+1,Ts ++ [T],?_,by omega,by simp [hT],H'⟩,?_⟩
   all_goals
    rw [show s64 ((i:Int)+1)=((i+1:Nat):Int) from by unfold s64;omega]
   all_goals
    first
     | rfl
     | omega
  ·have ei:c.threads.toNat=i:=by omega
   have em:WP3 c bs gh i=Wg7 c bs gh:=by
    rw [<- ei];rfl
   rw [em] at H11
   exact k1 hok h140 M Ts H11.drop2.drop2
 ·have H2:=H1.old o2
  refine sb ?_
  refine Ww8 ?_
  refine z15 ?_
  try simp only [Wc5,bsx,Nat.reduceAdd,Int.reduceLE,Int.reduceLT,Int.reduceToNat]
  refine Ww9 ?_
  refine sb ?_
  have H3:=H2.push (.cells Wp0 117)
  generalize h2.push (.cells Wp0 117)=h3 at *
  generalize h2.size=Np at *
  refine YG4 (We3 (vs:=[iQ 0,iQ 0,iQ 0,iQ 0,iQ 0,iQ 0,iQ 0,iQ 0,iQ 0,iQ 0,iQ 0,iQ 0,iQ 0,iQ 0,iQ 0]) H3.at rfl (by simp [Wh0]) λh4 w=>?_)
  have H4:=H3.wr w.new w.old
  refine Wb7 (λ_=>?_) (λc0=>by simp at c0)
  exact k0 hok h4 H4.drop.drop
end
section
set_option maxRecDepth 100000

end
section
open Go.Proofs.YtahpbclnkofhfaaGreat.Mod
end
section
open Mod
section
variable {K:kQ} {h:Wa1} {M T b o N:Nat} {tv:Value} {R:Hp} {m:Mac}
structure Zb0 (m:Mac):Prop where
 hn:m.p.links+m.p.c.nodes=m.p.nodes
 hw:(m.mm.w.length:Int)=m.p.size
end
end
section
open Mod
structure Cl where
 op:Int
 key:Int
 val:Int
def clc (c:Cl):List Value:=[iQ c.op,.int .u32 c.key,.int .u32 c.val]
structure EvM where
 k:Int
 back:Bool
 c:Cl
 a:Cl
structure DS where
 m:Mac
 nx:List Int
 cu:List Cl
 ev:List EvM
structure DB where
 pb:Nat
 nb:Nat
 tb:Nat
 cb:Nat
def bv (b:Bool):Value:=.bool b
theorem WB7 (c:Cl):(clc c).length=3:=rfl
section
variable {K:kQ} {h:Wa1} {M T:Nat} {B:DB} {Ts:List Nat} {n:Nat} {s:DS} {R:Hp}
end
end
section
open Mod
def Yy0:ByteArray:=⟨#[0,1,2,2,3,3,3,3,4,4,4,4,4,4,4,4,5,5,5,5,5,5,5,5,5,5,5,5,5,5,5,5,6,6,6,6,6,6,6,6,6,6,6,6,6,6,6,6,6,6,6,6,6,6,6,6,6,6,6,6,6,6,6,6,7,7,7,7,7,7,7,7,7,7,7,7,7,7,7,7,7,7,7,7,7,7,7,7,7,7,7,7,7,7,7,7,7,7,7,7,7,7,7,7,7,7,7,7,7,7,7,7,7,7,7,7,7,7,7,7,7,7,7,7,7,7,7,7,8,8,8,8,8,8,8,8,8,8,8,8,8,8,8,8,8,8,8,8,8,8,8,8,8,8,8,8,8,8,8,8,8,8,8,8,8,8,8,8,8,8,8,8,8,8,8,8,8,8,8,8,8,8,8,8,8,8,8,8,8,8,8,8,8,8,8,8,8,8,8,8,8,8,8,8,8,8,8,8,8,8,8,8,8,8,8,8,8,8,8,8,8,8,8,8,8,8,8,8,8,8,8,8,8,8,8,8,8,8,8,8,8,8,8,8,8,8,8,8,8,8,8,8,8,8,8,8]⟩
theorem Yy1:((List.range 256).all λi=>WM8 Yy0 i == if i=0 then 0 else ((Nat.log2 i+1:Nat):Int))=true:=by decide +kernel
theorem Yy2 {i:Nat} (h:i < 256) (h0:1<=i):WM8 Yy0 i=((Nat.log2 i+1:Nat):Int):=by
 have:=List.all_eq_true.1 Yy1 i (List.mem_range.2 h)
 rw [if_neg (by omega)] at this
 simpa using this
theorem WP4 {n k:Nat} (h:2 ^ k<=n):Nat.log2 n=Nat.log2 (n / 2 ^ k)+k:=by
 have hk:0 < 2 ^ k:=Nat.two_pow_pos k
 have h1:n / 2 ^ k≠0:=by
  have:=Nat.div_pos h hk
  omega
 have h2:=(Nat.log2_eq_iff h1).1 rfl
 rw [Nat.log2_eq_iff (by omega)]
 constructor
 ·rw [Nat.pow_add]
  exact Nat.le_trans (Nat.mul_le_mul_right _ h2.1) (Nat.div_mul_le_self n _)
 ·have:=(Nat.div_lt_iff_lt_mul hk).1 h2.2
  rw [show (n / 2 ^ k).log2+k+1=((n / 2 ^ k).log2+1)+k by omega,Nat.pow_add]
  exact this
section
variable {K:kQ} {h:Wa1}
theorem Yl4 {n:Nat} (h1:1<=n) (h2:n<=1048576) (k:K (iQ ((Nat.log2 n+1:Nat):Int)) h):Wa4 Tryz.prog 310 #[uQ (n:Int)] h K:=by
 refine call310 ?_
 unfold F310
 refine ⟨λvs h'=>vs = [uQ (n:Int),iQ 0]/\h' = h,?_,?_⟩
 ·exact Wa7 (λc=>by omega) (λ_=>⟨rfl,by trivial⟩)
 rintro v1 v2 g3 h4 ⟨e,rfl⟩
 cases e
 refine ⟨λvs h'=>(∃(m s:Nat),vs = [uQ (m:Int),iQ (s:Int)]/\1<=m/\m < 65536/\s<=16/\Nat.log2 n=Nat.log2 m+s)/\h' = h4,?_,?_⟩
 ·simp only [Wa2]
  refine Wa7 (λc=>⟨by decide,?_⟩) (λc=>?_)
  ·refine ⟨⟨n / 65536,16,?_,?_,?_,by omega,WP4 (k:=16) (by omega)⟩,by trivial⟩
   ·rw [Wr2 (by omega),Wb2 (by omega) (by omega)];rfl
   ·omega
   ·omega
  ·exact ⟨⟨n,0,rfl,h1,by omega,by omega,rfl⟩,by trivial⟩
 rintro v9 v10 g11 h12 ⟨⟨m,s,e,m1,m2,hs,hl⟩,rfl⟩
 cases e
 refine ⟨λvs h'=>(∃(m s:Nat),vs = [uQ (m:Int),iQ (s:Int)]/\1<=m/\m < 256/\s<=24/\Nat.log2 n=Nat.log2 m+s)/\h' = h12,?_,?_⟩
 ·simp only [Wa2]
  refine Wa7 (λc=>⟨by decide,?_⟩) (λc=>?_)
  ·refine ⟨⟨m / 256,s+8,?_,?_,?_,by omega,?_⟩,by trivial⟩
   ·rw [Wr2 (by omega),Wb2 (by omega) (by omega)];rfl
   ·omega
   ·omega
   ·have:=WP4 (n:=m) (k:=8) (by omega)
    rw [show (2:Nat) ^ 8=256 from rfl] at this
    omega
  ·exact ⟨⟨m,s,rfl,m1,by omega,by omega,hl⟩,by trivial⟩
 rintro v17 v18 g19 h20 ⟨⟨m,s,e,m1,m2,hs,hl⟩,rfl⟩
 cases e
 simp only [Wa2]
 have e8:IntKind.wrap .u8 (m:Int)=(m:Int):=by
  unfold IntKind.wrap IntKind.signed IntKind.bits
  simp only [Bool.false_and,Bool.false_eq_true,if_false]
  omega
 rw [e8]
 refine ⟨by omega,by omega,?_⟩
 show K (iQ (IntKind.wrap .i64 ((s:Int)+IntKind.wrap .i64 (WM8 Yy0 (m:Int).toNat)))) h20
 rw [show (m:Int).toNat=m by omega,Yy2 m2 m1]
 have hlm:Nat.log2 m < 256:=Nat.lt_of_le_of_lt (Nat.log2_le_self m) m2
 rw [Wb2 (n:=((Nat.log2 m+1:Nat):Int)) (by omega) (by omega),Wb2 (by omega) (by omega)]
 rw [hl] at k
 rw [show ((s:Int)+((Nat.log2 m+1:Nat):Int))=((Nat.log2 m+s+1:Nat):Int) by omega]
 exact k
theorem Wx0 {n:Int} (k:K (.bool (YD6 n)) h):Wa4 Tryz.prog 287 #[iQ n] h K:=by
 refine call287 ?_
 unfold F287
 unfold YD6 at k
 refine Wa7 (λc=>?_) (λc=>?_)
 ·have e:decide (n<=1048576)=decide (1<=n/\n<=1048576):=by rw [decide_eq_decide];omega
  rw [e];exact k
 ·rw [decide_eq_false (by omega)] at k
  exact k
theorem Ye4 {n:Int}:YD6 n=true↔1<=n/\n<=1048576:=by unfold YD6;rw [decide_eq_true_eq]
theorem WJ3 {n:Int} (k:K (iQ (Wn0 n)) h):Wa4 Tryz.prog 301 #[iQ n] h K:=by
 refine call301 ?_
 unfold F301 cf
 refine Wa0 (Wx0 ?_)
 refine sb ?_
 unfold Wn0 at k
 refine Wb7 (λc=>?_) (λc=>?_)
 ·have c:YD6 n=false:=by simpa using c
  rw [c] at k
  simpa using k
 ·have c:YD6 n=true:=by simpa using c
  rw [c] at k
  obtain ⟨n1,n2⟩:=Ye4.1 c
  have e:u64 n=((n.toNat:Nat):Int):=by unfold u64;omega
  refine Wa0 (call308 ?_)
  unfold F308 cf
  rw [e]
  refine Wa0 (Yl4 (by omega) (by omega) ?_)
  refine sb ?_
  have hl:Nat.log2 n.toNat<=n.toNat:=Nat.log2_le_self _
  rw [show s64 (((n.toNat.log2+1:Nat):Int) - 1)=(n.toNat.log2:Int) by unfold s64;omega]
  simpa using k
theorem W68 (n:Int):0<=Wn0 n/\Wn0 n<=20:=by
 unfold Wn0
 split
 ·rename_i c
  obtain ⟨n1,n2⟩:=Ye4.1 c
  have h0:n.toNat≠0:=by omega
  have:=(Nat.log2_lt h0 (k:=21)).2 (by omega)
  omega
 ·omega
theorem Wt4 {d:Int} (hd:iN d) (k:K (iQ (Wf4 d)) h):Wa4 Tryz.prog 216 #[iQ d] h K:=by
 refine call216 ?_
 unfold F216
 unfold Wf4 at k
 refine ⟨λvs h'=>vs = [.bool (decide (d < 1\/d > 20))]/\h' = h,?_,?_⟩
 ·refine Wa7 (λc=>⟨by rw [decide_eq_true (.inl c)],by trivial⟩) (λc=>⟨?_,by trivial⟩)
  congr 2
  rw [decide_eq_decide];omega
 rintro v1 g2 h3 ⟨e,rfl⟩
 cases e
 refine sb ?_
 refine Wa7 (λc=>?_) (λc=>?_)
 ·rw [if_pos c] at k;exact k
 ·rw [if_neg c] at k
  have e1:s64 (d - 1)=d - 1:=by unfold s64;omega
  rw [e1,show min (d - 1).toNat 64=(d - 1).toNat by omega,Int.one_mul]
  refine ⟨by omega,?_⟩
  have hp:(2:Int) ^ (d - 1).toNat<=2 ^ 19:=by
   have:=Nat.pow_le_pow_right (n:=2) (by omega) (show (d - 1).toNat<=19 by omega)
   exact_mod_cast this
  have hp0:(0:Int)<=2 ^ (d - 1).toNat:=by exact_mod_cast Nat.zero_le _
  rw [show s64 (2 ^ (d - 1).toNat)=2 ^ (d - 1).toNat by unfold s64;omega]
  exact k
theorem WZ8 (d:Int):0<=Wf4 d/\Wf4 d<=524288:=by
 unfold Wf4
 split
 ·omega
 ·rename_i c
  have hp:(2:Int) ^ (d - 1).toNat<=2 ^ 19:=by
   have:=Nat.pow_le_pow_right (n:=2) (by omega) (show (d - 1).toNat<=19 by omega)
   exact_mod_cast this
  have hp0:(0:Int)<=2 ^ (d - 1).toNat:=by exact_mod_cast Nat.zero_le _
  omega
theorem WT4 (a b:Int):WL6 a b=max a b:=by unfold WL6;split <;> omega
theorem Ye5 (a b:Int):WL7 a b=min a b:=by unfold WL7;split <;> omega
theorem WP5 {d w:Int} (hd:iN d) (k:K (iQ (Yu0 d w)) h):Wa4 Tryz.prog 213 #[iQ d,iQ w] h K:=by
 refine call213 ?_
 unfold F213 cf
 refine Wa0 (Wt4 hd ?_)
 refine sb ?_
 unfold Yu0 at k
 have hr:=WZ8 d
 refine Wa7 (λc=>?_) (λc=>?_)
 ·simp only [if_pos c] at k;exact k
 ·simp only [if_neg c] at k
  rw [Wm0,WT4]
  refine ⟨c,?_⟩
  rw [Wy9 (by omega)]
  have h0:0<=max w 0 % Wf4 d:=Int.emod_nonneg _ c
  have h1:max w 0 % Wf4 d < Wf4 d:=Int.emod_lt_of_pos _ (by omega)
  have e:max (0:Int) w=max w 0:=Int.max_comm _ _
  try rw [e]
  rw [show s64 (Wf4 d+max w 0 % Wf4 d)=Wf4 d+max w 0 % Wf4 d by unfold s64;omega]
  exact k
theorem YJ2 {n l:Int} (hl:iN l) (k:K (iQ (Y76 n l)) h):Wa4 Tryz.prog 282 #[iQ n,iQ l] h K:=by
 refine call282 ?_
 unfold F282 cf
 unfold Y76 at k
 have hr:=W68 n
 refine ⟨λvs h'=>(∃w,vs = [w,.bool (!YD6 n || decide (l < 0) || decide (Wn0 n < l))])/\h' = h,?_,?_⟩
 ·refine Wa0 (Wx0 ?_)
  refine sb ?_
  refine Wb7 (λc=>?_) (λc=>?_)
  ·rw [c];exact ⟨_,rfl⟩
  ·rw [c]
   refine Wa7 (λc2=>?_) (λc2=>?_)
   ·rw [decide_eq_true c2];exact ⟨_,rfl⟩
   ·rw [decide_eq_false c2]
    refine Wa0 (WJ3 ?_)
    refine sb ?_
    exact ⟨_,rfl⟩
 rintro v7 v8 g9 h10 ⟨⟨w,e⟩,rfl⟩
 cases e
 refine sb ?_
 refine Wb7 (λc=>?_) (λc=>?_)
 ·rw [if_pos c] at k;exact k
 ·rw [if_neg (by rw [c];simp)] at k
  refine Wa0 (WJ3 ?_)
  refine sb ?_
  simp only [Bool.or_eq_false_iff,Bool.not_eq_false',decide_eq_false_iff_not] at c
  rw [show s64 (Wn0 n - l)=Wn0 n - l by unfold s64;omega]
  refine ⟨by omega,?_⟩
  rw [Wr2 (by exact_mod_cast Nat.zero_le _),show min (Wn0 n - l).toNat 64=(Wn0 n - l).toNat by omega]
  exact k
theorem W69 {n d:Int} (hd:iN d) (k:K (.bool (W47 n d)) h):Wa4 Tryz.prog 230 #[iQ n,iQ d] h K:=by
 refine call230 ?_
 unfold F230 cf
 refine Wa0 (Wx0 ?_)
 refine sb ?_
 unfold W47 at k
 refine Wb7 (λc=>?_) (λc=>?_)
 ·rw [c,Bool.true_and] at k
  refine Wa0 (Wt4 hd ?_)
  refine sb ?_
  exact k
 ·rw [c,Bool.false_and] at k
  exact k
abbrev spV (s:Sp):Value:=.agg #[iQ s.lo,iQ s.hi]
theorem Yy3 {n:Int} (hn:iN n) (k:∀h',Old h.size h h'->K (spV (YS9 n)) h'):Wa4 Tryz.prog 218 #[iQ n] h K:=by
 refine call218 ?_
 unfold F218 dl2
 rw [Wm0,WT4]
 have p1:=We4 h #[iQ 0,iQ 0] 282
 generalize h.push (.cells #[iQ 0,iQ 0] 282)=h1 at *
 refine stR p1.new rfl trivial λh2 w2=>stR w2.new rfl trivial λh3 w3=>ldR w3.new rfl (ldR w3.new rfl ?_)
 rw [Wb2 (by omega) (by omega)]
 exact k h3 (w3.toOld (w2.toOld p1.toOld (Nat.le_refl _)) (Nat.le_refl _))
theorem WP6 {s:Sp} (k:∀h',Old h.size h h'->K (.bool s.done) h'):Wa4 Tryz.prog 221 #[spV s] h K:=by
 refine call221 ?_
 unfold F221 g221 lI
 have p1:=We4 h #[iQ s.lo,iQ s.hi] 282
 generalize h.push (.cells #[iQ s.lo,iQ s.hi] 282)=h1 at *
 refine ldR p1.new rfl ?_
 refine sb ?_
 refine ldR p1.new rfl ?_
 refine sb ?_
 exact k h1 p1.toOld
theorem WP7 {n:Int} (k:K (iQ (Yd0 n)) h):Wa4 Tryz.prog 283 #[iQ n] h K:=by
 refine call283 ?_
 unfold F283
 rw [Wm0,Ye5,Wm0,WT4]
 exact k
theorem WE7 (n:Int):0<=Yd0 n/\Yd0 n<=1073741824:=by unfold Yd0;omega
theorem WJ4 {s:Sp} (k:∀h',Old h.size h h'->K (iQ s.mid) h'):Wa4 Tryz.prog 223 #[spV s] h K:=by
 refine call223 ?_
 unfold F223 g223 cf ce lI
 have p1:=We4 h #[iQ s.lo,iQ s.hi] 282
 generalize h.push (.cells #[iQ s.lo,iQ s.hi] 282)=h1 at *
 refine ldR p1.new rfl ?_
 refine sb ?_
 refine ldR p1.new rfl ?_
 refine sb ?_
 refine Wa0 (WP7 ?_)
 refine sb ?_
 refine ⟨Wd3 p1.new rfl,?_⟩
 refine Wa0 (WP7 ?_)
 refine sb ?_
 have c1:=WE7 s.lo
 have c2:=WE7 s.hi
 refine ⟨by decide,?_⟩
 have e1:s64 (Yd0 s.lo+Yd0 s.hi)=Yd0 s.lo+Yd0 s.hi:=by unfold s64;omega
 rw [e1,Int.tdiv_eq_ediv_of_nonneg (by omega)]
 rw [show s64 ((Yd0 s.lo+Yd0 s.hi) / 2)=(Yd0 s.lo+Yd0 s.hi) / 2 by unfold s64;omega]
 exact k h1 p1.toOld
theorem Yy4 (s:Sp):0<=s.mid/\s.mid<=1073741824:=by
 have c1:=WE7 s.lo
 have c2:=WE7 s.hi
 unfold Sp.mid
 omega
theorem Yy5 {s:Sp} {b:Bool} (k:∀h',Old h.size h h'->K (spV (s.cut b)) h'):Wa4 Tryz.prog 224 #[spV s,.bool b] h K:=by
 refine call224 ?_
 unfold F224 g224 cf ce dl2 dw2
 have p1:=We4 h #[iQ s.lo,iQ s.hi] 282
 generalize h.push (.cells #[iQ s.lo,iQ s.hi] 282)=h1 at *
 have p2:=We4 h1 #[iQ 0,iQ 0] 282
 generalize h1.push (.cells #[iQ 0,iQ 0] 282)=h2 at *
 have hs:=p1.size
 have o2:Old h.size h h2:=p1.toOld.trans (p2.toOld.mono (by omega))
 have e0:h2[h.size]? = some (.cells #[iQ s.lo,iQ s.hi] 282):=(p2.old _ (by omega)).trans p1.new
 refine ldR e0 rfl (ldR e0 rfl ?_)
 refine Wa0 (WP6 λh3 o3=>?_)
 refine sb ?_
 have e3:h3[h.size]? = some (.cells #[iQ s.lo,iQ s.hi] 282):=(o3.2 _ (by have:=p2.size;omega)).trans e0
 have n3:h3[h1.size]? = some (.cells #[iQ 0,iQ 0] 282):=(o3.2 _ (by have:=p2.size;omega)).trans p2.new
 have o23:Old h.size h h3:=o2.trans (o3.mono (by have:=p2.size;omega))
 unfold Sp.cut at k
 refine Wb7 (λc=>?_) (λc=>?_)
 ·rw [if_pos c] at k
  refine ldR e3 rfl (ldR e3 rfl ?_)
  refine stR n3 rfl trivial λh4 w4=>stR w4.new rfl trivial λh5 w5=>ldR w5.new rfl (ldR w5.new rfl ?_)
  exact k h5 (w5.toOld (w4.toOld o23 (by omega)) (by omega))
 ·rw [if_neg (by rw [c];simp)] at k
  cases b with
  | true=>
   simp only [Wd5,if_true] at k ⊢
   refine ldR e3 rfl ?_
   refine sb ?_
   refine ldR e3 rfl (ldR e3 rfl ?_)
   refine Wa0 (WJ4 λh4 o4=>?_)
   refine sb ?_
   have e4:=(o4.2 _ (by have:=o3.1;have:=p2.size;omega)).trans e3
   have n4:=(o4.2 _ (by have:=o3.1;have:=p2.size;omega)).trans n3
   have o24:Old h.size h h4:=o23.trans (o4.mono o23.1)
   refine ⟨Wd3 e4 rfl,?_⟩
   refine stR n4 rfl trivial λh5 w5=>stR w5.new rfl trivial λh6 w6=>ldR w6.new rfl (ldR w6.new rfl ?_)
   exact k h6 (w6.toOld (w5.toOld o24 (by omega)) (by omega))
  | false=>
   simp only [Wc0,Bool.false_eq_true,if_false] at k ⊢
   refine ldR e3 rfl (ldR e3 rfl (ldR e3 rfl ?_))
   refine sb ?_
   refine Wa0 (WJ4 λh4 o4=>?_)
   refine sb ?_
   have e4:=(o4.2 _ (by have:=o3.1;have:=p2.size;omega)).trans e3
   have n4:=(o4.2 _ (by have:=o3.1;have:=p2.size;omega)).trans n3
   have o24:Old h.size h h4:=o23.trans (o4.mono o23.1)
   have hm:=Yy4 s
   rw [show s64 (s.mid+1)=s.mid+1 by unfold s64;omega]
   refine ⟨Wd3 e4 rfl,?_⟩
   refine stR n4 rfl trivial λh5 w5=>stR w5.new rfl trivial λh6 w6=>ldR w6.new rfl (ldR w6.new rfl ?_)
   exact k h6 (w6.toOld (w5.toOld o24 (by omega)) (by omega))
end
end
section
set_option maxRecDepth 100000
def F63 (K:kQ) (h:Wa1) (xa xb:Option Addr):Prop:=
 (cf 105 #[.pointer xb] h λa b=>Wc8 a λa=>exI λI3=>(ifB (Option.isNone a) (I3 [.bool true] b) (I3 [.bool (Option.isNone xa)] b))/\(∀(b:Value) (c:Env) (c:Wa1),(I3 [b] c)->(asBool b λb=>ifB b (K (.tuple #[]) c) (stH (Array.push c (.cells #[.pointer none,.pointer none,.pointer none] 187)) (aQ c.size) (.pointer xa) λb=>stH b ⟨c.size,1,none⟩ (.pointer xb) λb=>stH b ⟨c.size,2,none⟩ (.pointer a) λb=>exI λI11=>(nP a λd=>lI .i64 b (Addr.add d 1) λd=>ifB (d == 90) (nP a λd=>lI .i64 b d λd=>ifB (decide (d >= 11)) (nP a λe=>lI .i64 b e λe=>I11 [.bool (decide (e<=13)),.bool (decide (d >= 11)),.bool (decide (e<=13))] b) (I11 [.bool false,.bool (decide (d >= 11)),.bool false] b)) (I11 [.bool false,.bool false,.bool false] b))/\(∀(b d e:Value) (f:Env) (f:Wa1),(I11 [b,d,e] f)->(asBool b λb=>ifB b (nP a λb=>bd 7 10 (lI .u64 f (Addr.add b 9) λb=>nP a λd=>bd 8 10 (lI .u64 f (Addr.add d 10) λd=>nP a λe=>bd 9 10 (lI .u64 f (Addr.add e 11) λe=>cf 106 #[.pointer xb,.slice (some (aQ f.size)) 3 3] (Array.push f (.cells #[uQ b,uQ d,uQ e] 178)) λb b=>K (.tuple #[]) b)))) (nP a λb=>lI .i64 f b λb=>ifB (b == 10) (dl3 f c.size λb d e=>cf 107 #[.agg #[b,d,e]] f λb b=>K (.tuple #[]) b) (nP a λb=>lI .i64 f b λb=>ifB (b == 11) (dl3 f c.size λb d e=>cf 108 #[.agg #[b,d,e]] f λb b=>K (.tuple #[]) b) (exI λI54=>(nP a λb=>lI .i64 f b λb=>ifB (b == 12) (I54 [.bool true,.bool true] f) (nP a λb=>lI .i64 f b λb=>I54 [.bool (b == 13),.bool (b == 13)] f))/\(∀(b d:Value) (e:Env) (e:Wa1),(I54 [b,d] e)->(asBool b λb=>ifB b (dl3 e c.size λb d f=>cf 109 #[.agg #[b,d,f]] e λb b=>K (.tuple #[]) b) (nP a λa=>lI .i64 e a λa=>ifB (a == 14) (dl3 e c.size λa b c=>cf 110 #[.agg #[a,b,c]] e λa a=>K (.tuple #[]) a) (cf 111 #[.pointer xa,.pointer xb] e λa a=>K (.tuple #[]) a)))))))))))))
theorem call63 {K:kQ} {h:Wa1} {xa xb:Option Addr} (H:F63 K h xa xb):Wa4 Tryz.prog 63 #[(.pointer xa),(.pointer xb)] h K:=
 cQ Tryz.func63 H
abbrev g107 (K:kQ) (h H1:Wa1):Prop:=
 (lP H1 ⟨h.size,2,none⟩ λa=>nP a λa=>lI .i64 H1 (Addr.add a 1) λa=>ifB (a == 0) (dl3 H1 h.size λa b c=>dl3 H1 h.size λd e f=>lP H1 ⟨h.size,2,none⟩ λg=>nP g λg=>bd 0 10 (lI .u64 H1 (Addr.add g 2) λg=>cf 145 #[.agg #[d,e,f],uQ g] H1 λd e=>asInt .i64 d λd=>ce e h.size 0 a (ce e h.size 1 b (ce e h.size 2 c (((Wa3 (Array.push e (.cells #[uQ 1,uQ (IntKind.wrap .u64 d)] 178)) (aQ h.size))=(some a))/\(((Wa3 (Array.push e (.cells #[uQ 1,uQ (IntKind.wrap .u64 d)] 178)) ⟨h.size,1,none⟩)=(some b))/\(((Wa3 (Array.push e (.cells #[uQ 1,uQ (IntKind.wrap .u64 d)] 178)) ⟨h.size,2,none⟩)=(some c))/\(cf 144 #[.agg #[a,b,c],iQ 1,iQ 3,.slice (some (aQ e.size)) 2 2] (Array.push e (.cells #[uQ 1,uQ (IntKind.wrap .u64 d)] 178)) λa a=>K (.tuple #[]) a)))))))) (lP H1 ⟨h.size,1,none⟩ λa=>nP a λa=>bd 0 3 (lI .u64 H1 (Addr.add a 2) λa=>cf 146 #[uQ a] H1 λb c=>asInt .i64 b λb=>ifB (b == 0) (lP c ⟨h.size,1,none⟩ λb=>cf 106 #[.pointer b,.slice (some (aQ c.size)) 2 2] (Array.push c (.cells #[uQ a,uQ 1099511627776] 178)) λb b=>K (.tuple #[]) b) (ldH c ⟨h.size,1,none⟩ λb=>Wc8 b λd=>ldH c (aQ h.size) λe=>Wc8 e λf=>dl3 c h.size λg i j=>cf 148 #[.agg #[g,i,j],uQ a,iQ 0] c λc g=>asInt .i64 c λc=>ce g h.size 0 e (ce g h.size 1 b (cf 147 #[.pointer f,iQ c] g λc e=>asInt .u64 c λc=>ce e h.size 1 b (((Wa3 (Array.push e (.cells #[uQ a,uQ c] 178)) ⟨h.size,1,none⟩)=(some b))/\(cf 106 #[.pointer d,.slice (some (aQ e.size)) 2 2] (Array.push e (.cells #[uQ a,uQ c] 178)) λa a=>K (.tuple #[]) a))))))))
def F107 (K:kQ) (h:Wa1) (xa xb xc:Option Addr):Prop:=
 (g107 K h (Array.push h (.cells #[.pointer xa,.pointer xb,.pointer xc] 187)))
theorem call107 {K:kQ} {h:Wa1} {xa xb xc:Option Addr} (H:F107 K h xa xb xc):Wa4 Tryz.prog 107 #[(.agg #[(.pointer xa),(.pointer xb),(.pointer xc)])] h K:=
 cQ Tryz.func107 H
abbrev g108 (K:kQ) (h H1:Wa1):Prop:=
 (lP H1 (Addr.add (aQ h.size) 2) λa=>nP a λa=>lI .i64 H1 (Addr.add a 1) λa=>ifB (decide (a<=3)) (dl3 H1 h.size λa b c=>cf 149 #[.agg #[a,b,c]] H1 λa a=>K (.tuple #[]) a) (lP H1 (Addr.add (aQ h.size) 2) λa=>nP a λa=>lI .i64 H1 (Addr.add a 1) λa=>ifB (decide (a<=7)) (dl3 H1 h.size λa b c=>cf 150 #[.agg #[a,b,c]] H1 λa a=>K (.tuple #[]) a) (lP H1 (Addr.add (aQ h.size) 2) λa=>nP a λa=>lI .i64 H1 (Addr.add a 1) λa=>ifB (decide (a<=9)) (dl3 H1 h.size λa b c=>cf 151 #[.agg #[a,b,c]] H1 λa a=>K (.tuple #[]) a) (dl3 H1 h.size λa b c=>cf 152 #[.agg #[a,b,c]] H1 λa a=>K (.tuple #[]) a))))
def F108 (K:kQ) (h:Wa1) (xa xb xc:Option Addr):Prop:=
 (g108 K h (Array.push h (.cells #[.pointer xa,.pointer xb,.pointer xc] 193)))
theorem call108 {K:kQ} {h:Wa1} {xa xb xc:Option Addr} (H:F108 K h xa xb xc):Wa4 Tryz.prog 108 #[(.agg #[(.pointer xa),(.pointer xb),(.pointer xc)])] h K:=
 cQ Tryz.func108 H
abbrev g109 (K:kQ) (h H1:Wa1):Prop:=
 (lP H1 (Addr.add (aQ h.size) 2) λa=>da3 H1 (aQ h.size) λb c d=>cf 153 #[.agg #[b,c,d],iQ 0] H1 λb c=>asInt .u64 b λb=>nP a λd=>lI .i64 c (Addr.add d 1) λd=>ifB (d == 4) (ldH c (aQ h.size) λe=>Wc8 e λf=>da3 c (aQ h.size) λg i j=>nP a λk=>cf 148 #[.agg #[g,i,j],uQ b,iQ 2] c λg i=>asInt .i64 g λg=>ce i h.size 0 e (cf 147 #[.pointer f,iQ g] i λe f=>asInt .u64 e λe=>bd 3 10 (stH f (Addr.add k 5) (uQ e) λe=>nP a λf=>stH e (Addr.add f 1) (iQ 5) λe=>K (.tuple #[]) e))) (ifB (d == 5) (nP a λe=>stH c (Addr.add e 1) (iQ 0) λe=>da3 e (aQ h.size) λf g i=>nP a λj=>bd 3 10 (lI .u64 e (Addr.add j 5) λj=>cf 154 #[.agg #[f,g,i],uQ 1,uQ b,iQ (IntKind.wrap .i64 j),.bool true] e λe f=>asBool e λe=>ifB e (da3 f (aQ h.size) λe g i=>cf 144 #[.agg #[e,g,i],iQ 6,iQ 14,.slice (some (aQ f.size)) 1 1] (Array.push f (.cells #[uQ 1] 178)) λe e=>K (.tuple #[]) e) (K (.tuple #[]) f))) (ifB (d == 6) (da3 c (aQ h.size) λe f g=>cf 146 #[uQ b] c λb i=>asInt .i64 b λb=>ce i h.size 0 e (((Wa3 i (Addr.add (aQ h.size) 1))=(some f))/\(((Wa3 i (Addr.add (aQ h.size) 2))=(some g))/\(((Wa3 (Array.push i (.cells #[uQ (IntKind.wrap .u64 b)] 178)) (aQ h.size))=(some e))/\(((Wa3 (Array.push i (.cells #[uQ (IntKind.wrap .u64 b)] 178)) (Addr.add (aQ h.size) 1))=(some f))/\(((Wa3 (Array.push i (.cells #[uQ (IntKind.wrap .u64 b)] 178)) (Addr.add (aQ h.size) 2))=(some g))/\(cf 144 #[.agg #[e,f,g],iQ 7,iQ 5,.slice (some (aQ i.size)) 1 1] (Array.push i (.cells #[uQ (IntKind.wrap .u64 b)] 178)) λb b=>K (.tuple #[]) b))))))) (ifB (d == 7) (da3 c (aQ h.size) λb d e=>nP a λf=>bd 1 10 (lI .u64 c (Addr.add f 3) λf=>nP a λa=>bd 2 10 (lI .u64 c (Addr.add a 4) λa=>cf 155 #[.agg #[b,d,e],uQ 2,uQ f,uQ a] c λa a=>K (.tuple #[]) a))) (dl3 c h.size λa b d=>cf 156 #[.agg #[a,b,d]] c λa a=>K (.tuple #[]) a)))))
def F109 (K:kQ) (h:Wa1) (xa xb xc:Option Addr):Prop:=
 (g109 K h (Array.push h (.cells #[.pointer xa,.pointer xb,.pointer xc] 194)))
theorem call109 {K:kQ} {h:Wa1} {xa xb xc:Option Addr} (H:F109 K h xa xb xc):Wa4 Tryz.prog 109 #[(.agg #[(.pointer xa),(.pointer xb),(.pointer xc)])] h K:=
 cQ Tryz.func109 H
abbrev g110 (K:kQ) (h H1:Wa1):Prop:=
 (lP H1 (Addr.add (aQ h.size) 2) λa=>nP a λb=>bd 0 10 (lI .u64 H1 (Addr.add b 2) λb=>nP a λc=>lI .i64 H1 (Addr.add c 1) λc=>ifB (c == 4) (da3 H1 (aQ h.size) λd e f=>cf 144 #[.agg #[d,e,f],iQ 5,iQ 10,.slice (some (aQ H1.size)) 1 1] (Array.push H1 (.cells #[uQ (IntKind.wrap .u64 (2*b))] 178)) λd d=>K (.tuple #[]) d) (ifB (c == 5) (dl3 H1 h.size λd e f=>cf 157 #[.agg #[d,e,f],iQ 3,iQ 6,uQ (IntKind.wrap .u64 (2*b))] H1 λd d=>exI λI18=>(nP a λe=>lI .i64 d (Addr.add e 1) λe=>ifB (e == 6) (lP d (Addr.add (aQ h.size) 1) λe=>cf 105 #[.pointer e] d λe f=>Wc8 e λe=>YO7 Tryz.prog .eql 184 e a f λe f=>asBool e λe=>I18 [.bool e] f) (I18 [.bool false] d))/\(∀(d:Value) (e:Env) (e:Wa1),(I18 [d] e)->(asBool d λd=>ifB d (da3 e (aQ h.size) λd f g=>cf 144 #[.agg #[d,f,g],iQ 6,iQ 10,.slice (some (aQ e.size)) 1 1] (Array.push e (.cells #[uQ (IntKind.wrap .u64 ((IntKind.wrap .u64 (2*b))+1))] 178)) λd d=>K (.tuple #[]) d) (K (.tuple #[]) e)))) (ifB (c == 6) (dl3 H1 h.size λd e f=>cf 157 #[.agg #[d,e,f],iQ 5,iQ 7,uQ (IntKind.wrap .u64 ((IntKind.wrap .u64 (2*b))+1))] H1 λd d=>K (.tuple #[]) d) (ifB (c == 7) (exI λI44=>(nP a λc=>bd 4 10 (lI .u64 H1 (Addr.add c 6) λc=>nP a λd=>bd 6 10 (lI .u64 H1 (Addr.add d 8) λd=>ifB (decide (c<=d)) (nP a λc=>bd 4 10 (lI .u64 H1 (Addr.add c 6) λc=>nP a λd=>bd 2 10 (lI .u64 H1 (Addr.add d 4) λd=>I44 [.bool (decide (c < d)),.bool (decide (c < d))] H1))) (I44 [.bool false,.bool false] H1))))/\(∀(c d:Value) (e:Env) (e:Wa1),(I44 [c,d] e)->(asBool c λc=>ifB c (dl3 e h.size λc d f=>cf 158 #[.agg #[c,d,f],iQ 3,uQ (IntKind.wrap .u64 (2*b))] e λc c=>K (.tuple #[]) c) (exI λI67=>(nP a λc=>bd 6 10 (lI .u64 e (Addr.add c 8) λc=>nP a λd=>bd 4 10 (lI .u64 e (Addr.add d 6) λd=>ifB (decide (c < d)) (nP a λc=>bd 6 10 (lI .u64 e (Addr.add c 8) λc=>nP a λa=>bd 2 10 (lI .u64 e (Addr.add a 4) λa=>I67 [.bool (decide (c < a)),.bool (decide (c < a))] e))) (I67 [.bool false,.bool false] e))))/\(∀(a c:Value) (d:Env) (d:Wa1),(I67 [a,c] d)->(asBool a λa=>ifB a (dl3 d h.size λa c e=>cf 158 #[.agg #[a,c,e],iQ 5,uQ (IntKind.wrap .u64 ((IntKind.wrap .u64 (2*b))+1))] d λa a=>K (.tuple #[]) a) (dl3 d h.size λa b c=>cf 159 #[.agg #[a,b,c]] d λa a=>K (.tuple #[]) a))))))) (dl3 H1 h.size λa b c=>cf 160 #[.agg #[a,b,c]] H1 λa a=>K (.tuple #[]) a))))))
def F110 (K:kQ) (h:Wa1) (xa xb xc:Option Addr):Prop:=
 (g110 K h (Array.push h (.cells #[.pointer xa,.pointer xb,.pointer xc] 195)))
theorem call110 {K:kQ} {h:Wa1} {xa xb xc:Option Addr} (H:F110 K h xa xb xc):Wa4 Tryz.prog 110 #[(.agg #[(.pointer xa),(.pointer xb),(.pointer xc)])] h K:=
 cQ Tryz.func110 H
abbrev g144 (K:kQ) (h H1:Wa1) (xa xb:Int) (xc:Option Addr) (xd xe:Nat):Prop:=
 (lP H1 ⟨h.size,2,none⟩ λa=>nP a λa=>stH H1 (Addr.add a 1) (iQ xa) λa=>lP a ⟨h.size,1,none⟩ λb=>cf 130 #[.pointer b,iQ xb,.slice xc xd xe] a λa a=>K (.tuple #[]) a)
def F144 (K:kQ) (h:Wa1) (xa xb xc:Option Addr) (xd xe:Int) (xf:Option Addr) (xg xh:Nat):Prop:=
 (g144 K h (Array.push h (.cells #[.pointer xa,.pointer xb,.pointer xc] 187)) xd xe xf xg xh)
theorem call144 {K:kQ} {h:Wa1} {xa xb xc:Option Addr} {xd xe:Int} {xf:Option Addr} {xg xh:Nat} (H:F144 K h xa xb xc xd xe xf xg xh):Wa4 Tryz.prog 144 #[(.agg #[(.pointer xa),(.pointer xb),(.pointer xc)]),(iQ xd),(iQ xe),(.slice xf xg xh)] h K:=
 cQ Tryz.func144 H
abbrev g145 (K:kQ) (h H1:Wa1) (xa:Int):Prop:=
 (lP H1 (aQ h.size) λa=>cf 79 #[.pointer a] H1 λa b=>asAgg a λa=>Wg6 a 15 (Ww2 a λa c d e f g i j k l m n o p q=>cf 207 #[.agg #[a,c,d,e,f,g,i,j,k,l,m,n,o,p,q],iQ (IntKind.wrap .i64 xa)] b λa b=>asInt .i64 a λa=>K (iQ a) b))
def F145 (K:kQ) (h:Wa1) (xa xb xc:Option Addr) (xd:Int):Prop:=
 (g145 K h (Array.push h (.cells #[.pointer xa,.pointer xb,.pointer xc] 187)) xd)
theorem call145 {K:kQ} {h:Wa1} {xa xb xc:Option Addr} {xd:Int} (H:F145 K h xa xb xc xd):Wa4 Tryz.prog 145 #[(.agg #[(.pointer xa),(.pointer xb),(.pointer xc)]),(uQ xd)] h K:=
 cQ Tryz.func145 H
abbrev g148 (K:kQ) (h H1:Wa1) (xa xb:Int):Prop:=
 (lP H1 (aQ h.size) λa=>cf 79 #[.pointer a] H1 λa b=>asAgg a λa=>Wg6 a 15 (Ww2 a λa c d e f g i j k l m n o p q=>cf 146 #[uQ xa] b λb r=>asInt .i64 b λb=>cf 143 #[.agg #[a,c,d,e,f,g,i,j,k,l,m,n,o,p,q],iQ b,iQ xb] r λa b=>asInt .i64 a λa=>K (iQ a) b))
def F148 (K:kQ) (h:Wa1) (xa xb xc:Option Addr) (xd xe:Int):Prop:=
 (g148 K h (Array.push h (.cells #[.pointer xa,.pointer xb,.pointer xc] 187)) xd xe)
theorem call148 {K:kQ} {h:Wa1} {xa xb xc:Option Addr} {xd xe:Int} (H:F148 K h xa xb xc xd xe):Wa4 Tryz.prog 148 #[(.agg #[(.pointer xa),(.pointer xb),(.pointer xc)]),(uQ xd),(iQ xe)] h K:=
 cQ Tryz.func148 H
abbrev g149 (K:kQ) (h H1:Wa1):Prop:=
 (lP H1 (Addr.add (aQ h.size) 2) λa=>nP a λb=>lI .i64 H1 (Addr.add b 1) λb=>ifB (b == 0) (da3 H1 (aQ h.size) λc d e=>cf 144 #[.agg #[c,d,e],iQ 1,iQ 1,.slice none 0 0] H1 λc c=>K (.tuple #[]) c) (ifB (b == 1) (lP H1 (Addr.add (aQ h.size) 1) λc=>nP c λc=>bd 0 3 (lI .u64 H1 (Addr.add c 2) λc=>nP a λd=>bd 2 10 (stH H1 (Addr.add d 4) (uQ c) λc=>nP a λd=>bd 2 10 (lI .u64 c (Addr.add d 4) λd=>ifB (d != 0) (nP a λd=>stH c (Addr.add d 1) (iQ 2) λd=>K (.tuple #[]) d) (exI λI22=>(nP a λd=>bd 3 10 (lI .u64 c (Addr.add d 5) λd=>ifB (d == 0) (lP c (Addr.add (aQ h.size) 1) λd=>nP d λd=>cf 211 #[.pointer (some (Addr.add d 8))] c λd e=>asInt .i64 d λd=>I22 [.bool (decide (d > 0)),.bool (decide (d > 0))] e) (I22 [.bool false,.bool false] c)))/\(∀(c d:Value) (e:Env) (e:Wa1),(I22 [c,d] e)->(asBool c λc=>ifB c (nP a λc=>bd 3 10 (stH e (Addr.add c 5) (uQ 1) λc=>da3 c (aQ h.size) λd f g=>cf 144 #[.agg #[d,f,g],iQ 0,iQ 6,.slice none 0 0] c λc c=>K (.tuple #[]) c)) (da3 e (aQ h.size) λc d f=>cf 155 #[.agg #[c,d,f],uQ 1,uQ 0,uQ 0] e λc c=>K (.tuple #[]) c)))))))) (ifB (b == 2) (ldH H1 (aQ h.size) λc=>Wc8 c λd=>lP H1 (aQ h.size) λe=>nP a λf=>bd 2 10 (ldH H1 (Addr.add f 4) λg=>asInt .u64 g λi=>nP a λj=>bd 0 10 (ldH H1 (Addr.add j 2) λk=>asInt .u64 k λl=>cf 79 #[.pointer e] H1 λe m=>asAgg e λe=>Wg6 e 15 (Ww2 e λe n o p q r s t u v w x y z A=>((Wa3 m (Addr.add j 2))=(some k))/\(((Wa3 m (Addr.add f 4))=(some g))/\(ce m h.size 0 c (cf 143 #[.agg #[e,n,o,p,q,r,s,t,u,v,w,x,y,z,A],iQ (IntKind.wrap .i64 i),iQ 0] m λe f=>asInt .i64 e λe=>((Wa3 f (Addr.add j 2))=(some k))/\(ce f h.size 0 c (cf 212 #[.pointer d,iQ e,uQ l] f λc c=>nP a λd=>stH c (Addr.add d 1) (iQ 3) λc=>K (.tuple #[]) c))))))))) (ifB (b == 3) (ldH H1 (aQ h.size) λb=>Wc8 b λc=>lP H1 (aQ h.size) λd=>nP a λe=>bd 2 10 (ldH H1 (Addr.add e 4) λf=>asInt .u64 f λg=>nP a λi=>bd 1 10 (ldH H1 (Addr.add i 3) λj=>asInt .u64 j λk=>cf 79 #[.pointer d] H1 λd l=>asAgg d λd=>Wg6 d 15 (Ww2 d λd m n o p q r s t u v w x y z=>((Wa3 l (Addr.add i 3))=(some j))/\(((Wa3 l (Addr.add e 4))=(some f))/\(ce l h.size 0 b (cf 143 #[.agg #[d,m,n,o,p,q,r,s,t,u,v,w,x,y,z],iQ (IntKind.wrap .i64 g),iQ 1] l λd e=>asInt .i64 d λd=>((Wa3 e (Addr.add i 3))=(some j))/\(ce e h.size 0 b (cf 212 #[.pointer c,iQ d,uQ k] e λb b=>nP a λc=>bd 3 10 (stH b (Addr.add c 5) (uQ 0) λb=>nP a λa=>stH b (Addr.add a 1) (iQ 4) λa=>K (.tuple #[]) a)))))))))) (K (.tuple #[]) H1)))))
def F149 (K:kQ) (h:Wa1) (xa xb xc:Option Addr):Prop:=
 (g149 K h (Array.push h (.cells #[.pointer xa,.pointer xb,.pointer xc] 193)))
theorem call149 {K:kQ} {h:Wa1} {xa xb xc:Option Addr} (H:F149 K h xa xb xc):Wa4 Tryz.prog 149 #[(.agg #[(.pointer xa),(.pointer xb),(.pointer xc)])] h K:=
 cQ Tryz.func149 H
abbrev g150 (K:kQ) (h H1:Wa1):Prop:=
 (lP H1 (Addr.add (aQ h.size) 2) λa=>lP H1 (aQ h.size) λb=>cf 79 #[.pointer b] H1 λb c=>asAgg b λb=>Wg6 b 15 (Ww2 b λb d e f g i j k l m n o p q r=>cf 139 #[.agg #[b,d,e,f,g,i,j,k,l,m,n,o,p,q,r]] c λb c=>asAgg b λb=>Wg6 b 7 (de7 b λb d e f g i j=>stH (Array.push c (.cells YD9 23)) (aQ c.size) b λb=>stH b ⟨c.size,1,none⟩ d λb=>stH b ⟨c.size,2,none⟩ e λb=>stH b ⟨c.size,3,none⟩ f λb=>stH b ⟨c.size,4,none⟩ g λb=>stH b ⟨c.size,5,none⟩ i λb=>stH b ⟨c.size,6,none⟩ j λb=>nP a λd=>lI .i64 b (Addr.add d 1) λd=>ifB (d == 4) (lP b (aQ h.size) λe=>nP a λf=>cf 147 #[.pointer e,iQ 2] b λe g=>asInt .u64 e λe=>bd 4 10 (stH g (Addr.add f 6) (uQ e) λe=>nP a λf=>bd 4 10 (lI .u64 e (Addr.add f 6) λf=>lP e (aQ h.size) λg=>nP a λi=>cf 214 #[.pointer g] e λe g=>Wc8 e λe=>cf 216 #[iQ (IntKind.wrap .i64 f)] g λg j=>asInt .i64 g λg=>cf 215 #[.pointer e,iQ g] j λe g=>asInt .i64 e λe=>cf 213 #[iQ (IntKind.wrap .i64 f),iQ e] g λe f=>asInt .i64 e λe=>bd 5 10 (stH f (Addr.add i 7) (uQ (IntKind.wrap .u64 e)) λe=>nP a λf=>stH e (Addr.add f 1) (iQ 5) λe=>K (.tuple #[]) e)))) (ifB (d == 5) (da3 b (aQ h.size) λe f g=>nP a λi=>bd 5 10 (lI .u64 b (Addr.add i 7) λi=>((Wa3 (Array.push b (.cells #[uQ i] 178)) (aQ h.size))=(some e))/\(((Wa3 (Array.push b (.cells #[uQ i] 178)) (Addr.add (aQ h.size) 1))=(some f))/\(((Wa3 (Array.push b (.cells #[uQ i] 178)) (Addr.add (aQ h.size) 2))=(some g))/\(cf 144 #[.agg #[e,f,g],iQ 6,iQ 10,.slice (some (aQ b.size)) 1 1] (Array.push b (.cells #[uQ i] 178)) λe e=>K (.tuple #[]) e))))) (ifB (d == 6) (lP b (Addr.add (aQ h.size) 1) λe=>nP e λe=>bd 1 3 (lI .u64 b (Addr.add e 3) λe=>nP a λf=>bd 0 10 (lI .u64 b (Addr.add f 2) λf=>ifB (decide (e >= f)) (dl3 b h.size λe f g=>nP a λi=>bd 4 10 (lI .u64 b (Addr.add i 6) λi=>cf 218 #[iQ (IntKind.wrap .i64 i)] b λi j=>asAgg i λi=>Wg6 i 2 (de2 i λi k=>ce j h.size 0 e (ce j h.size 1 f (ce j h.size 2 g (cf 217 #[.agg #[e,f,g],.agg #[i,k]] j λe e=>nP a λf=>stH e (Addr.add f 1) (iQ 8) λe=>K (.tuple #[]) e)))))) (nP a λe=>bd 3 10 (lI .u64 b (Addr.add e 5) λe=>nP a λf=>bd 3 10 (stH b (Addr.add f 5) (uQ (IntKind.wrap .u64 (e+1))) λe=>nP a λf=>stH e (Addr.add f 1) (iQ 4) λe=>nP a λf=>bd 3 10 (lI .u64 e (Addr.add f 5) λf=>lI .i64 e ⟨c.size,5,none⟩ λg=>ifB (decide ((IntKind.wrap .i64 f) >= g)) (nP a λf=>stH e (Addr.add f 1) (iQ 7) λf=>K (.tuple #[]) f) (K (.tuple #[]) e)))))))) (ifB (d == 7) (nP a λd=>bd 4 10 (lI .u64 b (Addr.add d 6) λd=>lI .i64 b ⟨c.size,3,none⟩ λc=>ifB (decide ((IntKind.wrap .i64 d) >= c)) (da3 b (aQ h.size) λc d e=>cf 155 #[.agg #[c,d,e],uQ 1,uQ 0,uQ 0] b λc c=>ldH c (Addr.add (aQ h.size) 1) λd=>Wc8 d λe=>nP a λf=>bd 2 10 (lI .u64 c (Addr.add f 4) λf=>((Wa3 (Array.push c (.cells #[uQ f] 178)) (Addr.add (aQ h.size) 1))=(some d))/\(cf 130 #[.pointer e,iQ 5,.slice (some (aQ c.size)) 1 1] (Array.push c (.cells #[uQ f] 178)) λc c=>K (.tuple #[]) c))) (lP b (aQ h.size) λc=>nP a λd=>bd 4 10 (lI .u64 b (Addr.add d 6) λd=>nP a λe=>bd 4 10 (lI .u64 b (Addr.add e 6) λe=>cf 219 #[.pointer c,iQ 2,uQ d,uQ (IntKind.wrap .u64 (e+1))] b λc d=>asBool c λc=>nP a λc=>bd 3 10 (stH d (Addr.add c 5) (uQ 0) λc=>nP a λa=>stH c (Addr.add a 1) (iQ 4) λa=>K (.tuple #[]) a)))))) (K (.tuple #[]) b)))))))
def F150 (K:kQ) (h:Wa1) (xa xb xc:Option Addr):Prop:=
 (g150 K h (Array.push h (.cells #[.pointer xa,.pointer xb,.pointer xc] 193)))
theorem call150 {K:kQ} {h:Wa1} {xa xb xc:Option Addr} (H:F150 K h xa xb xc):Wa4 Tryz.prog 150 #[(.agg #[(.pointer xa),(.pointer xb),(.pointer xc)])] h K:=
 cQ Tryz.func150 H
abbrev g151 (K:kQ) (h H1:Wa1):Prop:=
 (dl3 H1 h.size λa b c=>cf 220 #[.agg #[a,b,c]] H1 λa b=>asAgg a λa=>Wg6 a 2 (de2 a λa c=>stH (Array.push b (.cells #[iQ 0,iQ 0] 282)) (aQ b.size) a λa=>stH a ⟨b.size,1,none⟩ c λa=>lP a (Addr.add (aQ h.size) 2) λc=>nP c λc=>lI .i64 a (Addr.add c 1) λc=>ifB (c == 8) (dl2 a b.size λd e=>cf 221 #[.agg #[d,e]] a λd e=>asBool d λd=>ifB d (lP e (Addr.add (aQ h.size) 2) λd=>nP d λd=>stH e (Addr.add d 1) (iQ 10) λd=>K (.tuple #[]) d) (da3 e (aQ h.size) λd f g=>dl3 e h.size λi j k=>dl2 e b.size λl m=>cf 223 #[.agg #[l,m]] e λe l=>asInt .i64 e λe=>ce l h.size 0 i (ce l h.size 1 j (ce l h.size 2 k (ce l h.size 0 d (((Wa3 l (Addr.add (aQ h.size) 1))=(some f))/\(((Wa3 l (Addr.add (aQ h.size) 2))=(some g))/\(cf 222 #[.agg #[i,j,k],iQ e] l λe i=>asInt .u64 e λe=>ce i h.size 0 d (((Wa3 i (Addr.add (aQ h.size) 1))=(some f))/\(((Wa3 i (Addr.add (aQ h.size) 2))=(some g))/\(((Wa3 (Array.push i (.cells #[uQ e] 178)) (aQ h.size))=(some d))/\(((Wa3 (Array.push i (.cells #[uQ e] 178)) (Addr.add (aQ h.size) 1))=(some f))/\(((Wa3 (Array.push i (.cells #[uQ e] 178)) (Addr.add (aQ h.size) 2))=(some g))/\(cf 144 #[.agg #[d,f,g],iQ 9,iQ 10,.slice (some (aQ i.size)) 1 1] (Array.push i (.cells #[uQ e] 178)) λd d=>K (.tuple #[]) d)))))))))))))) (ifB (c == 9) (dl3 a h.size λc d e=>dl2 a b.size λb f=>lP a (Addr.add (aQ h.size) 1) λg=>nP g λg=>bd 1 3 (lI .u64 a (Addr.add g 3) λg=>lP a (Addr.add (aQ h.size) 2) λi=>nP i λi=>bd 0 10 (lI .u64 a (Addr.add i 2) λi=>cf 224 #[.agg #[b,f],.bool (decide (g >= i))] a λb f=>asAgg b λb=>Wg6 b 2 (de2 b λb g=>ce f h.size 0 c (ce f h.size 1 d (ce f h.size 2 e (cf 217 #[.agg #[c,d,e],.agg #[b,g]] f λb b=>lP b (Addr.add (aQ h.size) 2) λc=>nP c λc=>stH b (Addr.add c 1) (iQ 8) λb=>K (.tuple #[]) b))))))) (K (.tuple #[]) a))))
def F151 (K:kQ) (h:Wa1) (xa xb xc:Option Addr):Prop:=
 (g151 K h (Array.push h (.cells #[.pointer xa,.pointer xb,.pointer xc] 193)))
theorem call151 {K:kQ} {h:Wa1} {xa xb xc:Option Addr} (H:F151 K h xa xb xc):Wa4 Tryz.prog 151 #[(.agg #[(.pointer xa),(.pointer xb),(.pointer xc)])] h K:=
 cQ Tryz.func151 H
abbrev g152 (K:kQ) (h H1:Wa1):Prop:=
 (lP H1 (Addr.add (aQ h.size) 2) λa=>dl3 H1 h.size λb c d=>dl3 H1 h.size λe f g=>cf 220 #[.agg #[e,f,g]] H1 λe f=>asAgg e λe=>Wg6 e 2 (de2 e λe g=>ce f h.size 0 b (ce f h.size 1 c (ce f h.size 2 d (asInt .i64 e λe=>cf 222 #[.agg #[b,c,d],iQ e] f λb c=>asInt .u64 b λb=>da3 c (aQ h.size) λd e f=>cf 153 #[.agg #[d,e,f],iQ 3] c λc d=>asInt .u64 c λc=>nP a λe=>lI .i64 d (Addr.add e 1) λe=>ifB (e == 10) (da3 d (aQ h.size) λf g i=>cf 144 #[.agg #[f,g,i],iQ 11,iQ 10,.slice (some (aQ d.size)) 1 1] (Array.push d (.cells #[uQ b] 178)) λf f=>K (.tuple #[]) f) (ifB (e == 11) (lP d (Addr.add (aQ h.size) 1) λf=>nP f λf=>bd 1 3 (lI .u64 d (Addr.add f 3) λf=>nP a λg=>bd 0 10 (lI .u64 d (Addr.add g 2) λg=>ifB (decide (f < g)) (nP a λf=>bd 3 10 (stH d (Addr.add f 5) (uQ 0) λf=>nP a λg=>stH f (Addr.add g 1) (iQ 4) λf=>K (.tuple #[]) f)) (lP d (Addr.add (aQ h.size) 1) λf=>nP f λf=>bd 0 3 (lI .u64 d (Addr.add f 2) λf=>nP a λg=>bd 3 10 (stH d (Addr.add g 5) (uQ f) λf=>ldH f (aQ h.size) λg=>Wc8 g λi=>lP f (aQ h.size) λj=>nP a λk=>bd 2 10 (ldH f (Addr.add k 4) λl=>asInt .u64 l λm=>da3 f (aQ h.size) λn o p=>cf 79 #[.pointer j] f λf j=>asAgg f λf=>Wg6 f 15 (Ww2 f λf q r s t u v w x y z A B C D=>ce j h.size 0 n (((Wa3 j (Addr.add (aQ h.size) 1))=(some o))/\(((Wa3 j (Addr.add (aQ h.size) 2))=(some p))/\(((Wa3 j (Addr.add k 4))=(some l))/\(ce j h.size 0 g (cf 143 #[.agg #[f,q,r,s,t,u,v,w,x,y,z,A,B,C,D],iQ (IntKind.wrap .i64 m),iQ 2] j λf j=>asInt .i64 f λf=>ce j h.size 0 n (((Wa3 j (Addr.add (aQ h.size) 1))=(some o))/\(((Wa3 j (Addr.add (aQ h.size) 2))=(some p))/\(ce j h.size 0 g (cf 153 #[.agg #[n,o,p],iQ 3] j λj k=>asInt .u64 j λj=>ce k h.size 0 g (cf 146 #[uQ j] k λj k=>asInt .i64 j λj=>ce k h.size 0 g (cf 212 #[.pointer i,iQ f,uQ (IntKind.wrap .u64 j)] k λf f=>nP a λg=>stH f (Addr.add g 1) (iQ 13) λf=>ifB (b == 1) (nP a λg=>stH f (Addr.add g 1) (iQ 12) λg=>K (.tuple #[]) g) (K (.tuple #[]) f)))))))))))))))))))) (ifB (e == 12) (dl3 d h.size λf g i=>da3 d (aQ h.size) λj k l=>nP a λm=>bd 2 10 (ldH d (Addr.add m 4) λn=>asInt .u64 n λo=>cf 226 #[uQ c] d λp q=>asBool p λp=>((Wa3 q (Addr.add m 4))=(some n))/\(ce q h.size 0 j (((Wa3 q (Addr.add (aQ h.size) 1))=(some k))/\(((Wa3 q (Addr.add (aQ h.size) 2))=(some l))/\(dc3 q h.size f g i (cf 154 #[.agg #[j,k,l],uQ 1,uQ c,iQ (IntKind.wrap .i64 o),.bool p] q λj k=>asBool j λj=>ce k h.size 0 f (ce k h.size 1 g (ce k h.size 2 i (cf 225 #[.agg #[f,g,i],.bool j] k λf f=>K (.tuple #[]) f)))))))))) (ifB (e == 13) (da3 d (aQ h.size) λf g i=>((2:Int)≠0)/\(cf 144 #[.agg #[f,g,i],iQ 14,iQ 10,.slice (some (aQ d.size)) 1 1] (Array.push d (.cells #[uQ (IntKind.wrap .u64 (Int.tdiv b 2))] 178)) λf f=>K (.tuple #[]) f)) (ifB (e == 14) (lP d (Addr.add (aQ h.size) 1) λe=>nP e λe=>bd 1 3 (lI .u64 d (Addr.add e 3) λe=>nP a λf=>bd 0 10 (lI .u64 d (Addr.add f 2) λf=>ifB (decide (e > f)) (dl3 d h.size λe f g=>cf 225 #[.agg #[e,f,g],.bool false] d λe e=>K (.tuple #[]) e) (dl3 d h.size λe f g=>ldH d (aQ h.size) λi=>Wc8 i λj=>da3 d (aQ h.size) λk l m=>nP a λa=>bd 2 10 (ldH d (Addr.add a 4) λn=>asInt .u64 n λo=>da3 d (aQ h.size) λp q r=>((2:Int)≠0)/\(ldH d (Addr.add (aQ h.size) 1) λs=>Wc8 s λt=>nP t λt=>bd 0 3 (ldH d (Addr.add t 2) λu=>asInt .u64 u λv=>cf 145 #[.agg #[k,l,m],uQ b] d λk l=>asInt .i64 k λk=>((Wa3 l (Addr.add t 2))=(some u))/\(((Wa3 l (Addr.add (aQ h.size) 1))=(some s))/\(ce l h.size 0 p (((Wa3 l (Addr.add (aQ h.size) 1))=(some q))/\(((Wa3 l (Addr.add (aQ h.size) 2))=(some r))/\(((Wa3 l (Addr.add a 4))=(some n))/\(ce l h.size 0 i (dc3 l h.size e f g (cf 226 #[uQ c] l λl m=>asBool l λl=>((Wa3 m (Addr.add t 2))=(some u))/\(((Wa3 m (Addr.add (aQ h.size) 1))=(some s))/\(ce m h.size 0 p (((Wa3 m (Addr.add (aQ h.size) 1))=(some q))/\(((Wa3 m (Addr.add (aQ h.size) 2))=(some r))/\(((Wa3 m (Addr.add a 4))=(some n))/\(ce m h.size 0 i (dc3 m h.size e f g (cf 228 #[uQ c,iQ (IntKind.wrap .i64 o),.bool l] m λa l=>asInt .u64 a λa=>((Wa3 l (Addr.add t 2))=(some u))/\(((Wa3 l (Addr.add (aQ h.size) 1))=(some s))/\(ce l h.size 0 p (((Wa3 l (Addr.add (aQ h.size) 1))=(some q))/\(((Wa3 l (Addr.add (aQ h.size) 2))=(some r))/\(ce l h.size 0 i (dc3 l h.size e f g (cf 145 #[.agg #[p,q,r],uQ (IntKind.wrap .u64 (Int.tdiv b 2))] l λb l=>asInt .i64 b λb=>((Wa3 l (Addr.add t 2))=(some u))/\(((Wa3 l (Addr.add (aQ h.size) 1))=(some s))/\(ce l h.size 0 i (dc3 l h.size e f g (cf 227 #[.pointer j,iQ k,uQ c,uQ a,iQ b,uQ v] l λa b=>asBool a λa=>ce b h.size 0 e (ce b h.size 1 f (ce b h.size 2 g (cf 225 #[.agg #[e,f,g],.bool a] b λa a=>K (.tuple #[]) a))))))))))))))))))))))))))))))))))))) (K (.tuple #[]) d))))))))))
def F152 (K:kQ) (h:Wa1) (xa xb xc:Option Addr):Prop:=
 (g152 K h (Array.push h (.cells #[.pointer xa,.pointer xb,.pointer xc] 193)))
theorem call152 {K:kQ} {h:Wa1} {xa xb xc:Option Addr} (H:F152 K h xa xb xc):Wa4 Tryz.prog 152 #[(.agg #[(.pointer xa),(.pointer xb),(.pointer xc)])] h K:=
 cQ Tryz.func152 H
abbrev g153 (K:kQ) (h H1:Wa1) (xa:Int):Prop:=
 (lP H1 ⟨h.size,2,none⟩ λa=>nP a λa=>bd xa 10 (ldH H1 (Addr.add (Addr.add a 2) (xa.toNat*1)) λa=>asInt .u64 a λa=>K (uQ a) H1))
def F153 (K:kQ) (h:Wa1) (xa xb xc:Option Addr) (xd:Int):Prop:=
 (g153 K h (Array.push h (.cells #[.pointer xa,.pointer xb,.pointer xc] 187)) xd)
theorem call153 {K:kQ} {h:Wa1} {xa xb xc:Option Addr} {xd:Int} (H:F153 K h xa xb xc xd):Wa4 Tryz.prog 153 #[(.agg #[(.pointer xa),(.pointer xb),(.pointer xc)]),(iQ xd)] h K:=
 cQ Tryz.func153 H
abbrev g154 (K:kQ) (h H1:Wa1) (xa xb xc:Int) (xd:Bool):Prop:=
 (ldH H1 (aQ h.size) λa=>Wc8 a λb=>dl3 H1 h.size λc d e=>cf 145 #[.agg #[c,d,e],uQ xa] H1 λc d=>asInt .i64 c λc=>ce d h.size 0 a (cf 228 #[uQ xb,iQ xc,.bool xd] d λd e=>asInt .u64 d λd=>ce e h.size 0 a (cf 219 #[.pointer b,iQ c,uQ xb,uQ d] e λa b=>asBool a λa=>K (.bool a) b)))
def F154 (K:kQ) (h:Wa1) (xa xb xc:Option Addr) (xd xe xf:Int) (xg:Bool):Prop:=
 (g154 K h (Array.push h (.cells #[.pointer xa,.pointer xb,.pointer xc] 187)) xd xe xf xg)
theorem call154 {K:kQ} {h:Wa1} {xa xb xc:Option Addr} {xd xe xf:Int} {xg:Bool} (H:F154 K h xa xb xc xd xe xf xg):Wa4 Tryz.prog 154 #[(.agg #[(.pointer xa),(.pointer xb),(.pointer xc)]),(uQ xd),(uQ xe),(iQ xf),(.bool xg)] h K:=
 cQ Tryz.func154 H
abbrev g155 (K:kQ) (h H1:Wa1) (xa xb xc:Int):Prop:=
 (lP H1 ⟨h.size,2,none⟩ λa=>ldH H1 ⟨h.size,2,none⟩ λb=>Wc8 b λc=>ldH H1 ⟨h.size,2,none⟩ λd=>Wc8 d λe=>nP a λa=>bd 7 10 (nP c λc=>nP e λe=>stH H1 (Addr.add a 9) (uQ xa) λa=>ce a h.size 2 d (ce a h.size 2 b (bd 8 10 (stH a (Addr.add c 10) (uQ xb) λa=>ce a h.size 2 d (bd 9 10 (stH a (Addr.add e 11) (uQ xc) λa=>dl3 a h.size λb c d=>cf 144 #[.agg #[b,c,d],iQ 90,iQ 4,.slice none 0 0] a λa a=>K (.tuple #[]) a)))))))
def F155 (K:kQ) (h:Wa1) (xa xb xc:Option Addr) (xd xe xf:Int):Prop:=
 (g155 K h (Array.push h (.cells #[.pointer xa,.pointer xb,.pointer xc] 187)) xd xe xf)
theorem call155 {K:kQ} {h:Wa1} {xa xb xc:Option Addr} {xd xe xf:Int} (H:F155 K h xa xb xc xd xe xf):Wa4 Tryz.prog 155 #[(.agg #[(.pointer xa),(.pointer xb),(.pointer xc)]),(uQ xd),(uQ xe),(uQ xf)] h K:=
 cQ Tryz.func155 H
abbrev g156 (K:kQ) (h H1:Wa1):Prop:=
 (lP H1 (Addr.add (aQ h.size) 2) λa=>da3 H1 (aQ h.size) λb c d=>cf 153 #[.agg #[b,c,d],iQ 0] H1 λb c=>asInt .u64 b λb=>nP a λd=>lI .i64 c (Addr.add d 1) λd=>ifB (d == 0) (da3 c (aQ h.size) λe f g=>da3 c (aQ h.size) λi j k=>cf 145 #[.agg #[i,j,k],uQ 1] c λi j=>asInt .i64 i λi=>ce j h.size 0 e (((Wa3 j (Addr.add (aQ h.size) 1))=(some f))/\(((Wa3 j (Addr.add (aQ h.size) 2))=(some g))/\(((Wa3 (Array.push j (.cells #[uQ 0,uQ (IntKind.wrap .u64 i)] 178)) (aQ h.size))=(some e))/\(((Wa3 (Array.push j (.cells #[uQ 0,uQ (IntKind.wrap .u64 i)] 178)) (Addr.add (aQ h.size) 1))=(some f))/\(((Wa3 (Array.push j (.cells #[uQ 0,uQ (IntKind.wrap .u64 i)] 178)) (Addr.add (aQ h.size) 2))=(some g))/\(cf 144 #[.agg #[e,f,g],iQ 1,iQ 3,.slice (some (aQ j.size)) 2 2] (Array.push j (.cells #[uQ 0,uQ (IntKind.wrap .u64 i)] 178)) λe e=>K (.tuple #[]) e))))))) (ifB (d == 1) (lP c (Addr.add (aQ h.size) 1) λe=>nP e λe=>bd 0 3 (lI .u64 c (Addr.add e 2) λe=>nP a λf=>bd 0 10 (stH c (Addr.add f 2) (uQ e) λe=>nP a λf=>stH e (Addr.add f 1) (iQ 2) λe=>da3 e (aQ h.size) λf g i=>cf 153 #[.agg #[f,g,i],iQ 0] e λe f=>asInt .u64 e λe=>cf 226 #[uQ e] f λe f=>asBool e λe=>ifB e (da3 f (aQ h.size) λe g i=>cf 144 #[.agg #[e,g,i],iQ 0,iQ 14,.slice (some (aQ f.size)) 1 1] (Array.push f (.cells #[uQ 1] 178)) λe e=>K (.tuple #[]) e) (da3 f (aQ h.size) λe g i=>cf 153 #[.agg #[e,g,i],iQ 0] f λe f=>asInt .u64 e λe=>cf 146 #[uQ e] f λe f=>asInt .i64 e λe=>ifB (e == 0) (da3 f (aQ h.size) λe g i=>cf 155 #[.agg #[e,g,i],uQ 3,uQ 0,uQ 0] f λe e=>K (.tuple #[]) e) (K (.tuple #[]) f))))) (ifB (d == 2) (ldH c (aQ h.size) λe=>Wc8 e λf=>da3 c (aQ h.size) λg i j=>nP a λk=>cf 148 #[.agg #[g,i,j],uQ b,iQ 0] c λg i=>asInt .i64 g λg=>ce i h.size 0 e (cf 147 #[.pointer f,iQ g] i λe f=>asInt .u64 e λe=>bd 1 10 (stH f (Addr.add k 3) (uQ e) λe=>nP a λf=>stH e (Addr.add f 1) (iQ 3) λe=>K (.tuple #[]) e))) (ifB (d == 3) (ldH c (aQ h.size) λd=>Wc8 d λe=>da3 c (aQ h.size) λf g i=>nP a λj=>cf 148 #[.agg #[f,g,i],uQ b,iQ 1] c λb f=>asInt .i64 b λb=>ce f h.size 0 d (cf 147 #[.pointer e,iQ b] f λb d=>asInt .u64 b λb=>bd 2 10 (stH d (Addr.add j 4) (uQ b) λb=>nP a λd=>stH b (Addr.add d 1) (iQ 4) λb=>nP a λd=>lI .i64 b d λd=>ifB (d == 13) (da3 b (aQ h.size) λd e f=>nP a λg=>bd 1 10 (lI .u64 b (Addr.add g 3) λg=>nP a λa=>bd 2 10 (lI .u64 b (Addr.add a 4) λa=>cf 155 #[.agg #[d,e,f],uQ 2,uQ g,uQ a] b λa a=>K (.tuple #[]) a))) (K (.tuple #[]) b)))) (K (.tuple #[]) c)))))
def F156 (K:kQ) (h:Wa1) (xa xb xc:Option Addr):Prop:=
 (g156 K h (Array.push h (.cells #[.pointer xa,.pointer xb,.pointer xc] 194)))
theorem call156 {K:kQ} {h:Wa1} {xa xb xc:Option Addr} (H:F156 K h xa xb xc):Wa4 Tryz.prog 156 #[(.agg #[(.pointer xa),(.pointer xb),(.pointer xc)])] h K:=
 cQ Tryz.func156 H
abbrev g157 (K:kQ) (h H1:Wa1) (xa xb xc:Int):Prop:=
 (lP H1 (Addr.add (aQ h.size) 2) λa=>lP H1 (Addr.add (aQ h.size) 1) λb=>nP b λb=>bd 0 3 (lI .u64 H1 (Addr.add b 2) λb=>lP H1 (Addr.add (aQ h.size) 1) λc=>nP c λc=>bd 1 3 (lI .u64 H1 (Addr.add c 3) λc=>nP a λd=>bd xa 10 (nP a λe=>stH H1 (Addr.add (Addr.add d 2) (xa.toNat*1)) (uQ b) λb=>((0:Int)<=(IntKind.wrap .i64 (xa+1)))/\((((IntKind.wrap .i64 (xa+1)):Int) < 10)/\(stH b (Addr.add (Addr.add e 2) ((IntKind.wrap .i64 (xa+1)).toNat*1)) (uQ c) λb=>nP a λa=>stH b (Addr.add a 1) (iQ xb) λa=>da3 a (aQ h.size) λb c d=>cf 153 #[.agg #[b,c,d],iQ xa] a λa b=>asInt .u64 a λa=>cf 226 #[uQ a] b λa b=>asBool a λa=>ifB a (da3 b (aQ h.size) λa c d=>cf 144 #[.agg #[a,c,d],iQ 0,iQ 14,.slice (some (aQ b.size)) 1 1] (Array.push b (.cells #[uQ xc] 178)) λa a=>K (.tuple #[]) a) (K (.tuple #[]) b)))))))
def F157 (K:kQ) (h:Wa1) (xa xb xc:Option Addr) (xd xe xf:Int):Prop:=
 (g157 K h (Array.push h (.cells #[.pointer xa,.pointer xb,.pointer xc] 195)) xd xe xf)
theorem call157 {K:kQ} {h:Wa1} {xa xb xc:Option Addr} {xd xe xf:Int} (H:F157 K h xa xb xc xd xe xf):Wa4 Tryz.prog 157 #[(.agg #[(.pointer xa),(.pointer xb),(.pointer xc)]),(iQ xd),(iQ xe),(uQ xf)] h K:=
 cQ Tryz.func157 H
abbrev g158 (K:kQ) (h H1:Wa1) (xa xb:Int):Prop:=
 (lP H1 (Addr.add (aQ h.size) 2) λa=>da3 H1 (aQ h.size) λb c d=>da3 H1 (aQ h.size) λe f g=>cf 153 #[.agg #[b,c,d],iQ 1] H1 λb c=>asInt .u64 b λb=>ce c h.size 0 e (((Wa3 c (Addr.add (aQ h.size) 1))=(some f))/\(((Wa3 c (Addr.add (aQ h.size) 2))=(some g))/\(cf 153 #[.agg #[e,f,g],iQ xa] c λc d=>asInt .u64 c λc=>nP a λe=>stH d (Addr.add e 1) (iQ 0) λd=>ldH d (aQ h.size) λe=>Wc8 e λf=>da3 d (aQ h.size) λg i j=>nP a λk=>bd 0 10 (lI .u64 d (Addr.add k 2) λk=>da3 d (aQ h.size) λl m n=>cf 145 #[.agg #[g,i,j],uQ k] d λd g=>asInt .i64 d λd=>ce g h.size 0 l (((Wa3 g (Addr.add (aQ h.size) 1))=(some m))/\(((Wa3 g (Addr.add (aQ h.size) 2))=(some n))/\(ce g h.size 0 e (cf 146 #[uQ c] g λg i=>asInt .i64 g λg=>ce i h.size 0 l (((Wa3 i (Addr.add (aQ h.size) 1))=(some m))/\(((Wa3 i (Addr.add (aQ h.size) 2))=(some n))/\(ce i h.size 0 e (cf 228 #[uQ b,iQ g,.bool false] i λg i=>asInt .u64 g λg=>ce i h.size 0 l (((Wa3 i (Addr.add (aQ h.size) 1))=(some m))/\(((Wa3 i (Addr.add (aQ h.size) 2))=(some n))/\(ce i h.size 0 e (cf 145 #[.agg #[l,m,n],uQ xb] i λi j=>asInt .i64 i λi=>ce j h.size 0 e (cf 146 #[uQ b] j λj k=>asInt .i64 j λj=>ce k h.size 0 e (cf 228 #[uQ c,iQ j,.bool true] k λj k=>asInt .u64 j λj=>ce k h.size 0 e (cf 229 #[.pointer f,iQ d,uQ b,uQ g,iQ i,uQ c,uQ j] k λb c=>asBool b λb=>ifB b (nP a λa=>bd 0 10 (stH c (Addr.add a 2) (uQ xb) λa=>K (.tuple #[]) a)) (K (.tuple #[]) c)))))))))))))))))))))
def F158 (K:kQ) (h:Wa1) (xa xb xc:Option Addr) (xd xe:Int):Prop:=
 (g158 K h (Array.push h (.cells #[.pointer xa,.pointer xb,.pointer xc] 195)) xd xe)
theorem call158 {K:kQ} {h:Wa1} {xa xb xc:Option Addr} {xd xe:Int} (H:F158 K h xa xb xc xd xe):Wa4 Tryz.prog 158 #[(.agg #[(.pointer xa),(.pointer xb),(.pointer xc)]),(iQ xd),(uQ xe)] h K:=
 cQ Tryz.func158 H
abbrev g159 (K:kQ) (h H1:Wa1):Prop:=
 (da3 H1 (aQ h.size) λa b c=>cf 153 #[.agg #[a,b,c],iQ 1] H1 λa b=>asInt .u64 a λa=>lP b (Addr.add (aQ h.size) 2) λc=>nP c λc=>stH b (Addr.add c 1) (iQ 0) λb=>da3 b (aQ h.size) λc d e=>ldH b (Addr.add (aQ h.size) 2) λf=>Wc8 f λg=>nP g λg=>bd 0 10 (ldH b (Addr.add g 2) λi=>asInt .u64 i λj=>cf 146 #[uQ a] b λb k=>asInt .i64 b λb=>((Wa3 k (Addr.add g 2))=(some i))/\(((Wa3 k (Addr.add (aQ h.size) 2))=(some f))/\(ce k h.size 0 c (((Wa3 k (Addr.add (aQ h.size) 1))=(some d))/\(((Wa3 k (Addr.add (aQ h.size) 2))=(some e))/\(cf 154 #[.agg #[c,d,e],uQ j,uQ a,iQ b,.bool false] k λa b=>asBool a λa=>ifB a (lP b (Addr.add (aQ h.size) 1) λa=>cf 106 #[.pointer a,.slice none 0 0] b λa a=>K (.tuple #[]) a) (K (.tuple #[]) b))))))))
def F159 (K:kQ) (h:Wa1) (xa xb xc:Option Addr):Prop:=
 (g159 K h (Array.push h (.cells #[.pointer xa,.pointer xb,.pointer xc] 195)))
theorem call159 {K:kQ} {h:Wa1} {xa xb xc:Option Addr} (H:F159 K h xa xb xc):Wa4 Tryz.prog 159 #[(.agg #[(.pointer xa),(.pointer xb),(.pointer xc)])] h K:=
 cQ Tryz.func159 H
abbrev g160 (K:kQ) (h H1:Wa1):Prop:=
 (lP H1 (Addr.add (aQ h.size) 2) λa=>nP a λb=>lI .i64 H1 (Addr.add b 1) λb=>ifB (b == 0) (da3 H1 (aQ h.size) λc d e=>nP a λf=>bd 0 10 (lI .u64 H1 (Addr.add f 2) λf=>((Wa3 (Array.push H1 (.cells #[uQ f] 178)) (aQ h.size))=(some c))/\(((Wa3 (Array.push H1 (.cells #[uQ f] 178)) (Addr.add (aQ h.size) 1))=(some d))/\(((Wa3 (Array.push H1 (.cells #[uQ f] 178)) (Addr.add (aQ h.size) 2))=(some e))/\(cf 144 #[.agg #[c,d,e],iQ 1,iQ 10,.slice (some (aQ H1.size)) 1 1] (Array.push H1 (.cells #[uQ f] 178)) λc c=>K (.tuple #[]) c))))) (ifB (b == 1) (lP H1 (Addr.add (aQ h.size) 1) λc=>nP c λc=>bd 0 3 (lI .u64 H1 (Addr.add c 2) λc=>lP H1 (Addr.add (aQ h.size) 1) λd=>nP d λd=>bd 1 3 (lI .u64 H1 (Addr.add d 3) λd=>nP a λe=>bd 1 10 (nP a λf=>stH H1 (Addr.add e 3) (uQ c) λc=>bd 2 10 (stH c (Addr.add f 4) (uQ d) λc=>nP a λd=>stH c (Addr.add d 1) (iQ 2) λc=>da3 c (aQ h.size) λd e f=>cf 153 #[.agg #[d,e,f],iQ 1] c λc d=>asInt .u64 c λc=>cf 226 #[uQ c] d λc d=>asBool c λc=>ifB (!c) (lP d (Addr.add (aQ h.size) 1) λc=>cf 106 #[.pointer c,.slice none 0 0] d λc c=>K (.tuple #[]) c) (K (.tuple #[]) d)))))) (ifB (b == 2) (nP a λc=>stH H1 (Addr.add c 1) (iQ 3) λc=>nP a λd=>bd 0 10 (ldH c (Addr.add d 2) λe=>asInt .u64 e λf=>lP c (aQ h.size) λg=>cf 147 #[.pointer g,iQ 2] c λc g=>asInt .u64 c λc=>((Wa3 g (Addr.add d 2))=(some e))/\(cf 230 #[iQ (IntKind.wrap .i64 f),iQ (IntKind.wrap .i64 c)] g λc d=>asBool c λc=>ifB c (nP a λa=>stH d (Addr.add a 1) (iQ 4) λa=>K (.tuple #[]) a) (K (.tuple #[]) d)))) (ifB (b == 3) (dl3 H1 h.size λa b c=>cf 159 #[.agg #[a,b,c]] H1 λa a=>K (.tuple #[]) a) (K (.tuple #[]) H1)))))
def F160 (K:kQ) (h:Wa1) (xa xb xc:Option Addr):Prop:=
 (g160 K h (Array.push h (.cells #[.pointer xa,.pointer xb,.pointer xc] 195)))
theorem call160 {K:kQ} {h:Wa1} {xa xb xc:Option Addr} (H:F160 K h xa xb xc):Wa4 Tryz.prog 160 #[(.agg #[(.pointer xa),(.pointer xb),(.pointer xc)])] h K:=
 cQ Tryz.func160 H
abbrev g217 (K:kQ) (h H1 H2:Wa1):Prop:=
 (lP H2 (Addr.add (aQ h.size) 2) λa=>lI .i64 H2 (aQ H1.size) λb=>((0:Int)<=8)/\(lI .i64 H2 ⟨H1.size,1,none⟩ λc=>nP a λa=>bd 6 10 (stH H2 (Addr.add a 8) (uQ (IntKind.wrap .u64 ((((BitVec.ofInt 64 (IntKind.wrap .u64 ((IntKind.wrap .u64 b)*256))) ||| (BitVec.ofInt 64 (IntKind.wrap .u64 c))).toNat:Nat):Int))) λa=>K (.tuple #[]) a)))
def F217 (K:kQ) (h:Wa1) (xa xb xc:Option Addr) (xd xe:Int):Prop:=
 (g217 K h (Array.push h (.cells #[.pointer xa,.pointer xb,.pointer xc] 193)) (Array.push (Array.push h (.cells #[.pointer xa,.pointer xb,.pointer xc] 193)) (.cells #[iQ xd,iQ xe] 282)))
theorem call217 {K:kQ} {h:Wa1} {xa xb xc:Option Addr} {xd xe:Int} (H:F217 K h xa xb xc xd xe):Wa4 Tryz.prog 217 #[(.agg #[(.pointer xa),(.pointer xb),(.pointer xc)]),(.agg #[(iQ xd),(iQ xe)])] h K:=
 cQ Tryz.func217 H
abbrev g220 (K:kQ) (h H1 H2:Wa1):Prop:=
 (lP H2 (Addr.add (aQ h.size) 2) λa=>nP a λa=>bd 6 10 (lI .u64 H2 (Addr.add a 8) λa=>((0:Int)<=8)/\(lP H2 (Addr.add (aQ h.size) 2) λb=>nP b λb=>bd 6 10 (lI .u64 H2 (Addr.add b 8) λb=>stH H2 (aQ H1.size) (iQ (IntKind.wrap .i64 (Int.fdiv a 256))) λa=>stH a ⟨H1.size,1,none⟩ (iQ (IntKind.wrap .i64 (IntKind.wrap .u64 ((((BitVec.ofInt 64 b) &&& (BitVec.ofInt 64 255)).toNat:Nat):Int)))) λa=>dl2 a H1.size λb c=>K (.agg #[b,c]) a))))
def F220 (K:kQ) (h:Wa1) (xa xb xc:Option Addr):Prop:=
 (g220 K h (Array.push h (.cells #[.pointer xa,.pointer xb,.pointer xc] 193)) (Array.push (Array.push h (.cells #[.pointer xa,.pointer xb,.pointer xc] 193)) (.cells #[iQ 0,iQ 0] 282)))
theorem call220 {K:kQ} {h:Wa1} {xa xb xc:Option Addr} (H:F220 K h xa xb xc):Wa4 Tryz.prog 220 #[(.agg #[(.pointer xa),(.pointer xb),(.pointer xc)])] h K:=
 cQ Tryz.func220 H
abbrev g222 (K:kQ) (h H1:Wa1) (xa:Int):Prop:=
 (lP H1 (Addr.add (aQ h.size) 2) λa=>nP a λa=>bd 5 10 (lI .u64 H1 (Addr.add a 7) λa=>cf 282 #[iQ (IntKind.wrap .i64 a),iQ xa] H1 λa b=>asInt .i64 a λa=>K (uQ (IntKind.wrap .u64 a)) b))
def F222 (K:kQ) (h:Wa1) (xa xb xc:Option Addr) (xd:Int):Prop:=
 (g222 K h (Array.push h (.cells #[.pointer xa,.pointer xb,.pointer xc] 193)) xd)
theorem call222 {K:kQ} {h:Wa1} {xa xb xc:Option Addr} {xd:Int} (H:F222 K h xa xb xc xd):Wa4 Tryz.prog 222 #[(.agg #[(.pointer xa),(.pointer xb),(.pointer xc)]),(iQ xd)] h K:=
 cQ Tryz.func222 H
abbrev g225 (K:kQ) (h H1:Wa1) (xa:Bool):Prop:=
 (ifB xa (da3 H1 (aQ h.size) λa b c=>cf 155 #[.agg #[a,b,c],uQ 0,uQ 0,uQ 0] H1 λa a=>K (.tuple #[]) a) (lP H1 (Addr.add (aQ h.size) 2) λa=>nP a λa=>bd 3 10 (stH H1 (Addr.add a 5) (uQ 0) λa=>lP a (Addr.add (aQ h.size) 2) λb=>nP b λb=>stH a (Addr.add b 1) (iQ 4) λa=>K (.tuple #[]) a)))
def F225 (K:kQ) (h:Wa1) (xa xb xc:Option Addr) (xd:Bool):Prop:=
 (g225 K h (Array.push h (.cells #[.pointer xa,.pointer xb,.pointer xc] 193)) xd)
theorem call225 {K:kQ} {h:Wa1} {xa xb xc:Option Addr} {xd:Bool} (H:F225 K h xa xb xc xd):Wa4 Tryz.prog 225 #[(.agg #[(.pointer xa),(.pointer xb),(.pointer xc)]),(.bool xd)] h K:=
 cQ Tryz.func225 H
end
section
open Mod
abbrev rV (M T b o:Nat):Value:=.agg #[mP M,mP T,fP b o]
theorem Wx1 {p:Pl} (B:PlB p) (n f:Int):iN (p.node n f):=by
 have h1:=B.no
 have h2:=B.wi
 have h3:=B.nd
 have h4:=B.li
 unfold Pl.node
 split
 ·rename_i c
  have:(n - 1)*p.width<=64*11:=Int.mul_le_mul (by omega) (by omega) (by omega) (by omega)
  have h0:0<=(n - 1)*p.width:=Int.mul_nonneg (by omega) (by omega)
  constructor <;> omega
 ·constructor <;> omega
theorem Yy6 {p:Pl} (B:PlB p) (n:Int):iN (p.at n):=by
 have h1:=B.tr
 have h2:=B.si
 have h3:=B.nd
 have h4:=B.li
 unfold Pl.at
 split <;> constructor <;> omega
theorem Yy7 {u v:Int} (h1:U u) (h2:U v):∀w ∈ [u,v],U w:=by
 intro w hw
 simp only [List.mem_cons,List.not_mem_nil,or_false] at hw
 rcases hw with rfl | rfl
 ·exact h1
 ·exact h2
section
variable {K:kQ} {h:Wa1} {M T b o N:Nat} {tv:Value} {fo:Option (Nat × Nat)} {x:Run} {R:Hp}
theorem Wg4 (i:Nat) (hi:Nat.ble (i+1) 10=true) (H:Sat h (RunS M T tv (some (b,o)) x R)) (k:∀h',Sat h' (RunS M T tv (some (b,o)) x R)->K (uQ (x.f.g i)) h') :
  Wa4 Tryz.prog 153 #[rV M T b o,iQ (i:Int)] h K:=by
 refine call153 ?_
 unfold F153 g153 bd lP nP
 have H1:=RunS.new H (.cells #[mP M,mP T,fP b o] 187);generalize h.push (.cells #[mP M,mP T,fP b o] 187)=h1 at *;generalize h.size=N at *
 have hi':i < 10:=by rw [Nat.ble_eq] at hi;omega
 refine sl H1 ?_
 refine ⟨by omega,by omega,?_⟩
 rw [show o+(2+i)=o+(i+2) by omega,RunS.rg H1 hi]
 refine sb ?_
 exact k h1 (RunS.drp H1)
theorem Wv1 (H:Sat h (RunS M T tv (some (b,o)) x R)) {pc fn:Int} {a:Option Addr} {l c:Nat} {rs:List Int} (A:Args R a l c rs) (hl:l<=10) (hd:x.t.fr.length < 1073741823)
  (k:∀h' b' o',¬ (b' = b/\o' = o)->WY4 h' (some (b,o)) (x.pc pc).f->Sat h' (RunS M T tv (some (b',o')) (x.call pc fn rs) R)->K (.tuple #[]) h') :
  Wa4 Tryz.prog 144 #[rV M T b o,iQ pc,iQ fn,.slice a l c] h K:=by
 refine call144 ?_
 unfold F144 g144 cf lP nP
 have H1:=RunS.new H (.cells #[mP M,mP T,fP b o] 187);generalize h.push (.cells #[mP M,mP T,fP b o] 187)=h1 at *;generalize h.size=N at *
 refine sl H1 ?_
 refine RunS.stP H1 λh2 H2=>?_
 refine sl H2 ?_
 refine Wa0 (YT9 H2 A.skip hl (by show (x.t.fr.dropLast ++ [_]).length < _;simp;omega) λh3 b' o' h1 h2 H3=>k h3 b' o' (λe=>h1 b o rfl e) h2 (RunS.drp H3))
theorem Y87 (H:Sat h (RunS M T tv fo x R)) {l:Nat} (rs:List Int) {ty:TypeId} (hr:rs.length=l) (hu:∀v ∈ rs,U v) (hl:Nat.ble l 3=true) (k:∀h',Sat h' (RunS M T tv none (x.pop rs) R)->K (.tuple #[]) h') :
 Wa4 Tryz.prog 106 #[mP T,.slice (some (aQ h.size)) l l] (h.push (.cells (uvs rs).toArray ty)) K:=Yk5 H rs hr hu (Nat.le_of_ble_eq_true hl) k
theorem Wq0 (H:Sat h (RunS M T tv (some (b,o)) x R)) {pc fn:Int} {l:Nat} (rs:List Int) {ty:TypeId} (hr:rs.length=l) (hu:∀v ∈ rs,U v) (hl:Nat.ble l 10=true) (hd:x.t.fr.length < 1073741823)
  (k:∀h' b' o',¬ (b' = b/\o' = o)->WY4 h' (some (b,o)) (x.pc pc).f->Sat h' (RunS M T tv (some (b',o')) (x.call pc fn rs) R)->K (.tuple #[]) h') :
  Wa4 Tryz.prog 144 #[rV M T b o,iQ pc,iQ fn,.slice (some (aQ h.size)) l l] (h.push (.cells (uvs rs).toArray ty)) K:=
 Wv1 (RunS.new H (.cells (uvs rs).toArray ty)) (Args.mk' hr hu) (Nat.le_of_ble_eq_true hl) hd λh' b' o' h1 h2 H'=>k h' b' o' h1 h2 (RunS.drp H')
theorem Wr6 (H:Sat h (RunS M T tv fo x R)) {pl:Int} (k:∀h',Sat h' (RunS M T tv fo x R)->K (iQ (x.at pl)) h') :
  Wa4 Tryz.prog 145 #[rV M T b o,uQ pl] h K:=by
 refine call145 ?_
 unfold F145 g145 cf lP Ww2
 have H1:=RunS.new H (.cells #[mP M,mP T,fP b o] 187);generalize h.push (.cells #[mP M,mP T,fP b o] 187)=h1 at *;generalize h.size=N at *
 refine sl H1 ?_
 refine Wa0 (WB6 H1 λh2 H2=>W16 ?_)
 refine Wa0 (W48 (RunS.pl H) (Wm7 _) λh3 o3=>?_)
 refine sb ?_
 exact k h3 (RunS.drp (RunS.old H2 o3))
theorem Wv2 (H:Sat h (RunS M T tv fo x R)) {w f:Int} (hw:U w) (hf:iN f) (k:∀h',Sat h' (RunS M T tv fo x R)->K (iQ (x.nodeW w f)) h') :
  Wa4 Tryz.prog 148 #[rV M T b o,uQ w,iQ f] h K:=by
 refine call148 ?_
 unfold F148 g148 cf lP Ww2
 have H1:=RunS.new H (.cells #[mP M,mP T,fP b o] 187);generalize h.push (.cells #[mP M,mP T,fP b o] 187)=h1 at *;generalize h.size=N at *
 refine sl H1 ?_
 refine Wa0 (WB6 H1 λh2 H2=>W16 ?_)
 refine Wa0 (Wj2 hw ?_)
 refine sb ?_
 refine Wa0 (Wj7 (RunS.pl H) (W59 _) hf λh3 o3=>?_)
 refine sb ?_
 exact k h3 (RunS.drp (RunS.old H2 o3))
theorem Wx2 (H:Sat h (RunS M T tv fo x R)) {pl w ptr:Int} {d:Bool} (hw:U w) (hs:x.m.mm.st < 1099511627776) (k:∀h',Sat h' (RunS M T tv fo (x.swing pl w ptr d).2 R)->K (.bool (x.swing pl w ptr d).1) h') :
  Wa4 Tryz.prog 154 #[rV M T b o,uQ pl,uQ w,iQ ptr,.bool d] h K:=by
 refine call154 ?_
 unfold F154 g154 cf ce dl3
 have H1:=RunS.new H (.cells #[mP M,mP T,fP b o] 187);generalize h.push (.cells #[mP M,mP T,fP b o] 187)=h1 at *;generalize h.size=N at *
 refine sl H1 ?_
 refine Wa0 (Wr6 H1 λh2 H2=>?_)
 refine sl H2 ?_
 refine Wa0 (Wp9 hw ?_)
 refine sl H2 ?_
 refine Wa0 (Y79 H2 (Yy6 (RunS.pl H) _) WH7 hs λh3 H3=>?_)
 refine sb ?_
 exact k h3 (RunS.drp H3)
theorem Wq1 (H:Sat h (RunS M T tv (some (b,o)) x R)) {k7 k8 k9:Int} (h7:U k7) (h8:U k8) (h9:U k9) (hd:x.t.fr.length < 1073741823)
  (k:∀h' b' o',¬ (b' = b/\o' = o)->WY4 h' (some (b,o)) ((((x.s 7 k7).s 8 k8).s 9 k9).pc 90).f->Sat h' (RunS M T tv (some (b',o')) (x.fin k7 k8 k9) R)->K (.tuple #[]) h') :
  Wa4 Tryz.prog 155 #[rV M T b o,uQ k7,uQ k8,uQ k9] h K:=by
 refine call155 ?_
 unfold F155 g155 cf ce bd lP nP dl3
 have H1:=RunS.new H (.cells #[mP M,mP T,fP b o] 187);generalize h.push (.cells #[mP M,mP T,fP b o] 187)=h1 at *;generalize h.size=N at *
 refine sl H1 ?_
 refine RunS.stR (i:=7) H1 rfl h7 λh2 H2=>?_
 refine sl H2 ?_
 refine RunS.stR (i:=8) H2 rfl h8 λh3 H3=>?_
 refine sl H3 ?_
 refine RunS.stR (i:=9) H3 rfl h9 λh4 H4=>?_
 refine sl H4 ?_
 refine Wa0 (Wv1 H4 Args.none (by omega) ?_ λh5 b' o' h1 h2 H5=>k h5 b' o' h1 h2 (RunS.drp H5))
 have e:=List.length_pos_iff.2 (W58 (RunS.thr H))
 show ((((x.t.fr.dropLast ++ [_]).dropLast ++ [_]).dropLast) ++ [_]).length < _
 simp
 omega
theorem Y88 (H:Sat h (RunS M T tv (some (b,o)) x R)):0 < x.t.fr.length:=List.length_pos_iff.2 (W58 (RunS.thr H))
theorem Yl5 (H:Sat h (RunS M T tv (some (b,o)) x R)) (hs:x.m.mm.st < 1099511627776) (hd:x.t.fr.length < 1073741823) (k:∀h',Sat h' (RunS M T tv none (WH0 x) R)->K (.tuple #[]) h') :
  Wa4 Tryz.prog 107 #[rV M T b o] h K:=by
 refine call107 ?_
 unfold F107 g107 cf ce bd lP lI nP dl3
 have B:=RunS.fB H
 have P:=RunS.pl H
 unfold WH0 at k
 have H1:=RunS.new H (.cells #[mP M,mP T,fP b o] 187);generalize h.push (.cells #[mP M,mP T,fP b o] 187)=h1 at *;generalize h.size=N at *
 try simp +decide only [Wc5,bsx,Nat.reduceAdd,Int.reduceLE,Int.reduceLT,Int.reduceToNat,rsx,g_s,Wc9,RunS.l H1,RunS.r H1,RunS.tc H1]
 refine Wa7 (λc=>?_) (λc=>?_)
 ·rw [if_pos c] at k
  refine Wa0 (Wr6 H1 λh2 H2=>?_)
  try simp +decide only [Wc5,bsx,Nat.reduceAdd,Int.reduceLE,Int.reduceLT,Int.reduceToNat,rsx,g_s,Wc9,RunS.l H2,RunS.c H2]
  refine Wa0 (Wq0 H2 [1,u64 (x.at (x.f.g 0))] rfl (Yy7 (U.lit rfl) (Ws3 _)) rfl hd λh4 b' o' _ _ H4=>k h4 (RunS.drp (RunS.none H4)))
 ·rw [if_neg c] at k
  have hr:=(RunS.B H).ret.2
  have hr0:U (x.ret 0):=Yd1 hr 0
  refine Wa0 (Wj2 hr0 ?_)
  try simp +decide only [Wc5,bsx,Nat.reduceAdd,Int.reduceLE,Int.reduceLT,Int.reduceToNat,rsx,g_s,Wc9,RunS.l H1]
  refine Wa7 (λc2=>?_) (λc2=>?_)
  ·rw [if_pos c2] at k
   exact Wa0 (Y87 H1 [x.ret 0,1099511627776] rfl (Yy7 hr0 (U.lit rfl)) rfl λh2 H2=>k h2 (RunS.drp H2))
  ·rw [if_neg c2] at k
   refine Wa0 (Wv2 H1 hr0 (by decide) λh2 H2=>?_)
   refine sl H2 ?_
   refine Wa0 (WI4 H2 (Wx1 P _ _) hs λh3 H3 u3=>?_)
   refine sl H3 ?_
   exact Wa0 (Y87 H3 [x.ret 0,(x.load (x.nodeW (x.ret 0) 0)).1] rfl (Yy7 hr0 u3) rfl λh4 H4=>k h4 (RunS.drp H4))
end
end
section
open Mod
theorem Y24 {n:Int} (h:U n):Mod.u64 ((((BitVec.ofInt 64 n) &&& (BitVec.ofInt 64 255)).toNat:Nat):Int)=n % 256:=by
 have h0:=h.1
 have h1:=h.2
 rw [BitVec.toNat_and,h.bv,show (BitVec.ofInt 64 255).toNat=2 ^ 8 - 1 from rfl,Nat.and_two_pow_sub_one_eq_mod]
 unfold Mod.u64
 omega
theorem Y25 (a b:Int):U (((Nat.lor (Mod.u64 a).toNat (Mod.u64 b).toNat:Nat)):Int):=by
 have ha:=Ws3 a
 have hb:=Ws3 b
 have:=Nat.or_lt_two_pow (x:=(Mod.u64 a).toNat) (y:=(Mod.u64 b).toNat) (n:=64) (by have:=ha.1;have:=ha.2;omega) (by have:=hb.1;have:=hb.2;omega)
 constructor
 ·omega
 ·have e:(Mod.u64 a).toNat ||| (Mod.u64 b).toNat=Nat.lor (Mod.u64 a).toNat (Mod.u64 b).toNat:=rfl
  rw [e] at this
  omega
theorem Y26 (a b:Int):Mod.u64 ((((BitVec.ofInt 64 (Mod.u64 a)) ||| (BitVec.ofInt 64 (Mod.u64 b))).toNat:Nat):Int)=((Nat.lor (Mod.u64 a).toNat (Mod.u64 b).toNat:Nat):Int):=by
 rw [BitVec.toNat_or,(Ws3 a).bv,(Ws3 b).bv]
 exact (Y25 a b).u64
section
variable {K:kQ} {h:Wa1} {M T b o N:Nat} {tv:Value} {fo:Option (Nat × Nat)} {x:Run} {R:Hp}
theorem WJ5 (H:Sat h (RunS M T tv (some (b,o)) x R)) (k:∀h',Sat h' (RunS M T tv (some (b,o)) x R)->K (spV (WX4 x)) h') :
  Wa4 Tryz.prog 220 #[rV M T b o] h K:=by
 refine call220 ?_
 unfold F220 g220 bd lP lI nP dl2
 have B:=RunS.fB H
 have H1:=RunS.new H (.cells #[mP M,mP T,fP b o] 193);generalize h.push (.cells #[mP M,mP T,fP b o] 193)=h1 at *;generalize h.size=N at *
 have H2:=RunS.new H1 (.cells #[iQ 0,iQ 0] 282)
 generalize h1.push (.cells #[iQ 0,iQ 0] 282)=h2 at *
 generalize h1.size=N2 at *
 try simp +decide only [Wc5,bsx,Nat.reduceAdd,Int.reduceLE,Int.reduceLT,Int.reduceToNat,rsx,g_s,Wc9,RunS.l2 H2,RunS.r H2,Y24 (B.g 6)]
 have hg:=B.g 6
 have g0:=hg.1
 have g1:=hg.2
 rw [Wr2 (by omega),show s64 (x.f.g 6 / 256)=x.f.g 6 / 256 by unfold s64;omega,show s64 (x.f.g 6 % 256)=x.f.g 6 % 256 by unfold s64;omega]
 refine stR (RunS.loc H2) rfl trivial λh3 w3=>stR w3.new rfl trivial λh4 w4=>ldR w4.new rfl (ldR w4.new rfl ?_)
 exact k h4 (RunS.drp (RunS.drp (RunS.wr (RunS.wr H2 w3.new w3.old) w4.new w4.old)))
theorem WJ6 (H:Sat h (RunS M T tv (some (b,o)) x R)) {s:Sp} (k:∀h',Sat h' (RunS M T tv (some (b,o)) (WH1 x s) R)->K (.tuple #[]) h') :
  Wa4 Tryz.prog 217 #[rV M T b o,spV s] h K:=by
 refine call217 ?_
 unfold F217 g217 bd lP lI nP
 have H1:=RunS.new H (.cells #[mP M,mP T,fP b o] 193);generalize h.push (.cells #[mP M,mP T,fP b o] 193)=h1 at *;generalize h.size=N at *
 have H2:=RunS.new H1 (.cells #[iQ s.lo,iQ s.hi] 282)
 generalize h1.push (.cells #[iQ s.lo,iQ s.hi] 282)=h2 at *
 generalize h1.size=N2 at *
 have O:=RunS.loc H2
 have l0:∀F:Value->Prop,ldH h2 (aQ N2) F=F (iQ s.lo):=λF=>by unfold ldH;rw [Wb4 O];rfl
 have l1:∀F:Value->Prop,ldH h2 ⟨N2,1,none⟩ F=F (iQ s.hi):=λF=>by unfold ldH;rw [Wb4 O];rfl
 try simp +decide only [Wc5,bsx,Nat.reduceAdd,Int.reduceLE,Int.reduceLT,Int.reduceToNat,rsx,g_s,Wc9,RunS.l2 H2,l0,l1,Y26]
 exact RunS.stR (i:=6) H2 rfl (Y25 _ _) λh3 H3=>k h3 (RunS.drp (RunS.drp H3))
theorem WJ7 (H:Sat h (RunS M T tv (some (b,o)) x R)) {l:Int} (hl:iN l) (k:∀h',Sat h' (RunS M T tv (some (b,o)) x R)->K (uQ (Yj5 x l)) h') :
  Wa4 Tryz.prog 222 #[rV M T b o,iQ l] h K:=by
 refine call222 ?_
 unfold F222 g222 cf bd lP lI nP
 have H1:=RunS.new H (.cells #[mP M,mP T,fP b o] 193);generalize h.push (.cells #[mP M,mP T,fP b o] 193)=h1 at *;generalize h.size=N at *
 try simp +decide only [Wc5,bsx,Nat.reduceAdd,Int.reduceLE,Int.reduceLT,Int.reduceToNat,rsx,g_s,Wc9,RunS.l H1,RunS.r H1]
 refine Wa0 (YJ2 hl ?_)
 refine sb ?_
 exact k h1 (RunS.drp H1)
theorem Wx3 (H:Sat h (RunS M T tv (some (b,o)) x R)) {ok:Bool} (hd:x.t.fr.length < 1000000002) (k:∀h',Sat h' (RunS M T tv none (WR6 x ok) R)->K (.tuple #[]) h') :
  Wa4 Tryz.prog 225 #[rV M T b o,.bool ok] h K:=by
 refine call225 ?_
 unfold F225 g225 cf bd lP nP da3
 have H1:=RunS.new H (.cells #[mP M,mP T,fP b o] 193);generalize h.push (.cells #[mP M,mP T,fP b o] 193)=h1 at *;generalize h.size=N at *
 unfold WR6 at k
 cases ok with
 | true=>
  refine sl H1 ?_
  exact Wa0 (Wq1 H1 U0 U0 U0 (by omega) λh2 b' o' _ _ H2=>k h2 (RunS.drp (RunS.none H2)))
 | false=>
  refine sl H1 ?_
  refine RunS.stR (i:=3) H1 rfl U0 λh2 H2=>?_
  refine sl H2 ?_
  exact RunS.stP H2 λh3 H3=>k h3 (RunS.drp (RunS.none H3))
theorem RunS.ret (H:Sat h (RunS M T tv fo x R)) (i:Nat):U (x.ret i):=Yd1 (RunS.B H).ret.2 i
theorem W70 (H:Sat h (RunS M T tv (some (b,o)) x R)) (O:Ok x) (hp:x.f.pc<=3) (k:∀h',Sat h' (RunS M T tv none (WH2 x) R)->K (.tuple #[]) h') :
  Wa4 Tryz.prog 149 #[rV M T b o] h K:=by
 refine call149 ?_
 unfold F149 g149 cf ce bd lP lI nP da3 Ww2
 have B:=RunS.fB H
 have P:=RunS.pl H
 have hp0:=O.pc
 have hd:=O.fr
 have r0:=RunS.ret H 0
 unfold WH2 at k
 dsimp only at k
 have H1:=RunS.new H (.cells #[mP M,mP T,fP b o] 193);generalize h.push (.cells #[mP M,mP T,fP b o] 193)=h1 at *;generalize h.size=N at *
 try simp +decide only [Wc5,bsx,Nat.reduceAdd,Int.reduceLE,Int.reduceLT,Int.reduceToNat,rsx,g_s,Wc9,RunS.l H1,RunS.r H1,RunS.tc H1]
 refine Wa7 (λc=>?_) (λc=>?_)
 ·rw [if_pos c] at k
  exact Wa0 (Wv1 H1 Args.none (by omega) (by omega) λh2 b' o' _ _ H2=>k h2 (RunS.drp (RunS.none H2)))
 rw [if_neg c] at k
 refine Wa7 (λc=>?_) (λc=>?_)
 ·rw [if_pos c] at k
  refine RunS.stR (i:=2) H1 rfl r0 λh2 H2=>?_
  try simp +decide only [Wc5,bsx,Nat.reduceAdd,Int.reduceLE,Int.reduceLT,Int.reduceToNat,rsx,g_s,Wc9,RunS.l H2,RunS.r H2,B.len]
  refine Wb7 (λc2=>?_) (λc2=>?_)
  ·have c2':x.ret 0≠0:=by simpa [Run.ret] using c2
   rw [if_pos c2'] at k
   exact RunS.stP H2 λh3 H3=>k h3 (RunS.drp (RunS.none H3))
  ·have c2':¬ x.ret 0≠0:=by simpa [Run.ret] using c2
   rw [if_neg c2'] at k
   have hfl:=WI5 x 2 (x.ret 0)
   refine ⟨λvs h'=>(∃w,vs = [.bool (decide (x.f.g 3=0/\x.t.retired.length > 0)),w])/\Sat h' (RunS M T tv (some (b,o)) (x.s 2 (x.ret 0)) (pt N (.cells #[mP M,mP T,fP b o] 193)*R)),?_,?_⟩
   ·refine Wa7 (λc3=>?_) (λc3=>?_)
    ·refine Wa0 (WC7 (RunS.thr H2) ?_)
     refine sb ?_
     have e:decide (((x.s 2 (x.ret 0)).t.retired.length:Int) > 0)=decide (x.f.g 3=0/\x.t.retired.length > 0):=by
      rw [decide_eq_decide]
      have e2:(x.s 2 (x.ret 0)).t.retired=x.t.retired:=rfl
      rw [e2]
      omega
     rw [e]
     exact ⟨⟨_,rfl⟩,H2⟩
    ·exact ⟨⟨_,by rw [decide_eq_false (λhh=>c3 hh.1)]⟩,H2⟩
   rintro v32 v33 g34 h35 ⟨⟨w,e⟩,H3⟩
   cases e
   refine sb ?_
   refine Wa7 (λc3=>?_) (λc3=>?_)
   ·rw [if_pos c3] at k
    refine RunS.stR (i:=3) H3 rfl (U.lit rfl) λh4 H4=>?_
    have hfl2:=WI5 (x.s 2 (x.ret 0)) 3 1
    refine sl H4 ?_
    exact Wa0 (Wv1 H4 Args.none (by omega) (by omega) λh5 b' o' _ _ H5=>k h5 (RunS.drp (RunS.none H5)))
   ·rw [if_neg c3] at k
    refine sl H3 ?_
    exact Wa0 (Wq1 H3 (U.lit rfl) U0 U0 (by omega) λh5 b' o' _ _ H5=>k h5 (RunS.drp (RunS.none H5)))
 rw [if_neg c] at k
 refine Wa7 (λc=>?_) (λc=>?_)
 ·rw [if_pos c] at k
  refine Wa0 (WB6 H1 λh2 H2=>W16 ?_)
  try simp only [Wc5,bsx,Nat.reduceAdd,Int.reduceLE,Int.reduceLT,Int.reduceToNat,RunS.c H2,RunS.l H2]
  refine Wa0 (Wj7 P (Wm7 _) (by decide) λh3 o3=>?_)
  have H3:=RunS.old H2 o3
  try simp only [Wc5,bsx,Nat.reduceAdd,Int.reduceLE,Int.reduceLT,Int.reduceToNat,RunS.c H3,RunS.l H3]
  refine Wa0 (WP0 H3 (Wx1 P _ _) (B.g 0) O.st λh4 H4=>?_)
  exact RunS.stP H4 λh5 H5=>k h5 (RunS.drp (RunS.none H5))
 rw [if_neg c] at k
 refine Wa7 (λc=>?_) (λc=>by omega)
 ·refine Wa0 (WB6 H1 λh2 H2=>W16 ?_)
  try simp only [Wc5,bsx,Nat.reduceAdd,Int.reduceLE,Int.reduceLT,Int.reduceToNat,RunS.c H2,RunS.l H2]
  refine Wa0 (Wj7 P (Wm7 _) (by decide) λh3 o3=>?_)
  have H3:=RunS.old H2 o3
  try simp only [Wc5,bsx,Nat.reduceAdd,Int.reduceLE,Int.reduceLT,Int.reduceToNat,RunS.c H3,RunS.l H3]
  refine Wa0 (WP0 H3 (Wx1 P _ _) (B.g 1) O.st λh4 H4=>?_)
  exact RunS.stR (i:=3) H4 rfl U0 λh5 H5=>RunS.stP H5 λh6 H6=>k h6 (RunS.drp (RunS.none H6))
theorem RunS.feed (H:Sat h (RunS M T tv fo x R)) (k:∀q R',Sat h (fdS q x.m.b x.m.used*R')->(∀h' u,Sat h' (fdS q x.m.b u*R')->Sat h' (RunS M T tv fo { x with m:=Mac.feed x.m u } R))->K (mP q) h) :
 Wa4 Tryz.prog 214 #[mP M] h K:=W57 H λq R' H1 re=>k q R' H1 λh' u H2=>re h' u H2
theorem W71 (H:Sat h (RunS M T tv (some (b,o)) x R)) (O:Ok x) (hp:4<=x.f.pc/\x.f.pc<=7) (k:∀h',Sat h' (RunS M T tv none (Wk8 x) R)->K (.tuple #[]) h') :
  Wa4 Tryz.prog 150 #[rV M T b o] h K:=by
 refine call150 ?_
 unfold F150 g150 cf ce bd lP lI nP da3 de2 de7 Ww2 dl3
 have B:=RunS.fB H
 have P:=RunS.pl H
 have hd:=O.fr
 have r1:=RunS.ret H 1
 unfold Wk8 at k
 dsimp only at k
 have H1:=RunS.new H (.cells #[mP M,mP T,fP b o] 193);generalize h.push (.cells #[mP M,mP T,fP b o] 193)=h1 at *;generalize h.size=N at *
 refine sl H1 ?_
 refine Wa0 (WB6 H1 λh2 H2=>W16 ?_)
 refine Wa0 (Wr4 λh3 o3=>cf7 ?_)
 have H3:=RunS.old H2 o3
 have H4:=RunS.new H3 (.cells YD9 23)
 generalize h3.push (.cells YD9 23)=h4 at *
 generalize h3.size=N2 at *
 refine st7 (We3 (vs:=cfc x.m.p.c) (RunS.loc H4) rfl (by simp [cfc,Wh0]) λh5 w=>?_)
 have H5:=RunS.wr H4 w.new w.old
 clear H1 H2 H3 H4 o3 w
 try simp +decide only [Wc5,bsx,Nat.reduceAdd,Int.reduceLE,Int.reduceLT,Int.reduceToNat,rsx,g_s,Wc9,RunS.l2 H5,RunS.r H5,RunS.tc H5]
 refine Wa7 (λc=>?_) (λc=>?_)
 ·rw [if_pos c] at k
  refine Wa0 (WI4 H5 (by decide) O.st λh6 H6 u6=>?_)
  refine sb ?_
  refine RunS.stR (i:=4) H6 rfl u6 λh7 H7=>?_
  try simp +decide only [Wc5,bsx,Nat.reduceAdd,Int.reduceLE,Int.reduceLT,Int.reduceToNat,rsx,g_s,Wc9,RunS.l2 H7,RunS.r H7,B.len]
  refine Wa0 (RunS.feed H7 λq R' HF re=>?_)
  refine sb ?_
  refine Wa0 (Wt4 (Wm7 _) ?_)
  refine sb ?_
  have hus:((x.load 2).2.s 4 (x.load 2).1).m.used < 1099511627776:=by
   have e:((x.load 2).2.s 4 (x.load 2).1).m.used=x.m.used:=by
    show (x.m.load 2).2.used=x.m.used
    unfold Mac.load
    dsimp only
    have:=(Wo9 x.m 2).2.2.2.1
    split <;> exact this
   rw [e];exact O.us
  have hb:=(Yd2 HF)
  obtain ⟨fa,fc,FF,_⟩:=hb
  refine Wa0 (W52 HF hus (λhn=>?_) (λhn h8 H8=>?_))
  ·refine sb ?_
   refine Wa0 (WP5 (Wm7 _) ?_)
   refine sb ?_
   refine RunS.stR (i:=5) H7 rfl (Ws3 _) λh9 H9=>RunS.stP H9 λh10 H10=>k h10 ?_
   have e:(((x.load 2).2.s 4 (x.load 2).1).m.next (Wf4 (s64 (x.load 2).1)))=(0,((x.load 2).2.s 4 (x.load 2).1).m):=by unfold Mac.next;rw [if_pos hn]
   rw [e]
   exact RunS.drp (RunS.drp (RunS.none H10))
  ·refine sb ?_
   refine Wa0 (WP5 (Wm7 _) ?_)
   refine sb ?_
   refine RunS.stR (i:=5) (re h8 _ H8) rfl (Ws3 _) λh9 H9=>RunS.stP H9 λh10 H10=>k h10 ?_
   have e:(((x.load 2).2.s 4 (x.load 2).1).m.next (Wf4 (s64 (x.load 2).1)))=(drawn ((x.load 2).2.s 4 (x.load 2).1).m.b ((x.load 2).2.s 4 (x.load 2).1).m.used % Wf4 (s64 (x.load 2).1),Mac.feed ((x.load 2).2.s 4 (x.load 2).1).m (((x.load 2).2.s 4 (x.load 2).1).m.used+1)):=by
    unfold Mac.next Mac.take;rw [if_neg (by omega)];rfl
   rw [e]
   exact RunS.drp (RunS.drp (RunS.none H10))
 rw [if_neg c] at k
 refine Wa7 (λc=>?_) (λc=>?_)
 ·rw [if_pos c] at k
  exact Wa0 (Wq0 H5 [x.f.g 5] rfl (Ws4 (B.g 5)) rfl (by omega) λh6 b' o' _ _ H6=>k h6 (RunS.drp (RunS.drp (RunS.none H6))))
 rw [if_neg c] at k
 refine Wa7 (λc=>?_) (λc=>?_)
 ·rw [if_pos c] at k
  refine Wa7 (λc2=>?_) (λc2=>?_)
  ·rw [if_pos c2] at k
   refine Wa0 (Yy3 (Wm7 _) λh6 o6=>?_)
   have H6:=RunS.old H5 o6
   try simp only [Wc5,bsx,Nat.reduceAdd,Int.reduceLE,Int.reduceLT,Int.reduceToNat,RunS.l2 H6,RunS.c H6]
   refine Wu4 rfl (Wc7 rfl (Wc7 rfl ?_))
   try simp only [Wc5,bsx,Nat.reduceAdd,Int.reduceLE,Int.reduceLT,Int.reduceToNat,RunS.l2 H6,RunS.c H6]
   refine Wa0 (WJ6 H6 (s:=YS9 (s64 (x.f.g 4))) λh7 H7=>?_)
   exact RunS.stP H7 λh8 H8=>k h8 (RunS.drp (RunS.drp (RunS.none H8)))
  ·rw [if_neg c2] at k
   refine RunS.stR (i:=3) H5 rfl (Ws3 _) λh6 H6=>RunS.stP H6 λh7 H7=>?_
   have O7:=RunS.loc H7
   have l5:∀F:Value->Prop,ldH h7 ⟨N2,5,none⟩ F=F (iQ x.m.p.c.probes):=λF=>by unfold ldH;rw [Wb4 O7];rfl
   try simp +decide only [Wc5,bsx,Nat.reduceAdd,Int.reduceLE,Int.reduceLT,Int.reduceToNat,rsx,g_s,Wc9,RunS.l2 H7,RunS.r H7,B.len,l5]
   refine Wa7 (λc3=>?_) (λc3=>?_)
   ·rw [if_pos c3] at k
    exact RunS.stP H7 λh8 H8=>k h8 (RunS.drp (RunS.drp (RunS.none H8)))
   ·rw [if_neg c3] at k
    exact k h7 (RunS.drp (RunS.drp (RunS.none H7)))
 rw [if_neg c] at k
 refine Wa7 (λc=>?_) (λc=>by omega)
 have O5:=RunS.loc H5
 have l3:∀F:Value->Prop,ldH h5 ⟨N2,3,none⟩ F=F (iQ x.m.p.c.level):=λF=>by unfold ldH;rw [Wb4 O5];rfl
 try simp +decide only [Wc5,bsx,Nat.reduceAdd,Int.reduceLE,Int.reduceLT,Int.reduceToNat,rsx,g_s,Wc9,RunS.l2 H5,RunS.r H5,l3]
 refine Wa7 (λc2=>?_) (λc2=>?_)
 ·rw [if_pos c2] at k
  refine Wa0 (Wq1 H5 (U.lit rfl) U0 U0 (by omega) λh6 b' o' _ st H6=>?_)
  have e2:Wa3 h6 ⟨b,o+4,none⟩=some (uQ (x.f.g 2)):=by
   have e:(((((x.s 7 1).s 8 0).s 9 0).pc 90).f).g 2=x.f.g 2:=by try simp +decide only [Wc5,bsx,Nat.reduceAdd,Int.reduceLE,Int.reduceLT,Int.reduceToNat,rsx,g_s,Wc9,B.len]
   rw [<- e]
   exact st b o 4 _ rfl rfl
  have ld2:∀F:Value->Prop,ldH h6 ⟨b,o+4,none⟩ F=F (uQ (x.f.g 2)):=λF=>by unfold ldH;rw [e2]
  try simp only [Wc5,bsx,Nat.reduceAdd,Int.reduceLE,Int.reduceLT,Int.reduceToNat,RunS.l2 H6,ld2]
  refine Wa0 (Yw1 H6 [x.f.g 2] rfl (Ws4 (B.g 2)) (by omega) ?_ λh7 b'' o'' _ _ H7=>k h7 (RunS.drp (RunS.drp (RunS.none H7))))
  have l1:=WI5 x 7 1
  have l2:=WI5 (x.s 7 1) 8 0
  have l3:=WI5 ((x.s 7 1).s 8 0) 9 0
  have l4:=WP1 (((x.s 7 1).s 8 0).s 9 0) 90
  show ((((((x.s 7 1).s 8 0).s 9 0).pc 90).t.fr) ++ [_]).length < _
  rw [List.length_append]
  simp only [List.length_singleton]
  omega
 ·rw [if_neg c2] at k
  refine Wa0 (Y79 H5 (by decide) (Ws3 _) O.st λh6 H6=>?_)
  refine sb ?_
  exact RunS.stR (i:=3) H6 rfl U0 λh7 H7=>RunS.stP H7 λh8 H8=>k h8 (RunS.drp (RunS.drp (RunS.none H8)))
theorem W72 (H:Sat h (RunS M T tv (some (b,o)) x R)) (O:Ok x) (hp:8<=x.f.pc/\x.f.pc<=9) (k:∀h',Sat h' (RunS M T tv none (WH3 x) R)->K (.tuple #[]) h') :
  Wa4 Tryz.prog 151 #[rV M T b o] h K:=by
 refine call151 ?_
 unfold F151 g151 cf ce bd lP lI nP da3 de2 dl2 dl3
 have B:=RunS.fB H
 have P:=RunS.pl H
 have hd:=O.fr
 unfold WH3 at k
 dsimp only at k
 have H1:=RunS.new H (.cells #[mP M,mP T,fP b o] 193);generalize h.push (.cells #[mP M,mP T,fP b o] 193)=h1 at *;generalize h.size=N at *
 refine sl H1 ?_
 refine Wa0 (WJ5 H1 λh2 H2=>?_)
 refine sb ?_
 refine Wu4 rfl (Wc7 rfl (Wc7 rfl ?_))
 have H3:=RunS.new H2 (.cells #[iQ 0,iQ 0] 282)
 generalize h2.push (.cells #[iQ 0,iQ 0] 282)=h3 at *
 generalize h2.size=N2 at *
 refine stR (RunS.loc H3) rfl trivial λh4 w4=>stR w4.new rfl trivial λh5 w5=>?_
 have H5:=RunS.wr (RunS.wr H3 w4.new w4.old) w5.new w5.old
 clear H1 H2 H3 w4 w5
 generalize hs:WX4 x=s at *
 have O5:=RunS.loc H5
 have l0:∀F:Value->Prop,ldH h5 (aQ N2) F=F (iQ s.lo):=λF=>by unfold ldH;rw [Wb4 O5];rfl
 have l1:∀F:Value->Prop,ldH h5 ⟨N2,1,none⟩ F=F (iQ s.hi):=λF=>by unfold ldH;rw [Wb4 O5];rfl
 try simp +decide only [Wc5,bsx,Nat.reduceAdd,Int.reduceLE,Int.reduceLT,Int.reduceToNat,rsx,g_s,Wc9,RunS.l2 H5,RunS.r H5,RunS.tc H5,l0,l1]
 refine Wa7 (λc=>?_) (λc=>?_)
 ·rw [if_pos c] at k
  refine Wa0 (WP6 λh6 o6=>?_)
  have H6:=RunS.old H5 o6
  have O6:=RunS.loc H6
  have m0:∀F:Value->Prop,ldH h6 (aQ N2) F=F (iQ s.lo):=λF=>by unfold ldH;rw [Wb4 O6];rfl
  have m1:∀F:Value->Prop,ldH h6 ⟨N2,1,none⟩ F=F (iQ s.hi):=λF=>by unfold ldH;rw [Wb4 O6];rfl
  try simp +decide only [Wc5,bsx,Nat.reduceAdd,Int.reduceLE,Int.reduceLT,Int.reduceToNat,rsx,g_s,Wc9,RunS.l2 H6,RunS.r H6,m0,m1]
  refine Wb7 (λc2=>?_) (λc2=>?_)
  ·rw [if_pos c2] at k
   exact RunS.stP H6 λh7 H7=>k h7 (RunS.drp (RunS.drp (RunS.none H7)))
  ·rw [if_neg (by rw [c2];simp)] at k
   refine Wa0 (WJ4 λh7 o7=>?_)
   have H7:=RunS.old H6 o7
   have hm:=Yy4 s
   try simp only [Wc5,bsx,Nat.reduceAdd,Int.reduceLE,Int.reduceLT,Int.reduceToNat,RunS.l2 H7]
   refine Wa0 (WJ7 H7 ⟨by omega,by omega⟩ λh8 H8=>?_)
   try simp only [Wc5,bsx,Nat.reduceAdd,Int.reduceLE,Int.reduceLT,Int.reduceToNat,RunS.l2 H8]
   exact Wa0 (Wq0 H8 [Yj5 x s.mid] rfl (Ws4 (Ws3 _)) rfl (by omega) λh9 b' o' _ _ H9=>k h9 (RunS.drp (RunS.drp (RunS.none H9))))
 rw [if_neg c] at k
 refine Wa7 (λc=>?_) (λc=>by omega)
 refine Wa0 (Yy5 λh6 o6=>?_)
 have H6:=RunS.old H5 o6
 try simp only [Wc5,bsx,Nat.reduceAdd,Int.reduceLE,Int.reduceLT,Int.reduceToNat,RunS.l2 H6]
 refine Wu4 rfl (Wc7 rfl (Wc7 rfl ?_))
 try simp only [Wc5,bsx,Nat.reduceAdd,Int.reduceLE,Int.reduceLT,Int.reduceToNat,RunS.l2 H6]
 refine Wa0 (WJ6 H6 λh7 H7=>?_)
 try simp only [Wc5,bsx,Nat.reduceAdd,Int.reduceLE,Int.reduceLT,Int.reduceToNat,RunS.l2 H7]
 exact RunS.stP H7 λh8 H8=>k h8 (RunS.drp (RunS.drp (RunS.none H8)))
theorem Yl6 (H:Sat h (RunS M T tv (some (b,o)) x R)) (O:Ok x) (k:∀h',Sat h' (RunS M T tv none (Yu1 x) R)->K (.tuple #[]) h') :
  Wa4 Tryz.prog 152 #[rV M T b o] h K:=by
 refine call152 ?_
 unfold F152 g152 cf bd lP lI nP da3 dc3 de2 Ww2 dl3 ce
 have B:=RunS.fB H
 have P:=RunS.pl H
 have hd:=O.fr
 have r0:=RunS.ret H 0
 have r1:=RunS.ret H 1
 unfold Yu1 at k
 dsimp only at k
 have H1:=RunS.new H (.cells #[mP M,mP T,fP b o] 193);generalize h.push (.cells #[mP M,mP T,fP b o] 193)=h1 at *;generalize h.size=N at *
 refine sl H1 ?_
 refine Wa0 (WJ5 H1 λh2 H2=>?_)
 refine sb ?_
 refine Wu4 rfl (Wc7 rfl (Wc7 rfl ?_))
 refine sl H2 ?_
 have hsl:iN (WX4 x).lo:=by
  have hg:=B.g 6
  have g0:=hg.1
  have g1:=hg.2
  unfold WX4
  constructor <;> simp only <;> omega
 refine Wa0 (WJ7 H2 hsl λh3 H3=>?_)
 refine sl H3 ?_
 refine Wa0 (Wg4 3 rfl H3 λh4 H4=>?_)
 clear H1 H2 H3
 have hpl:U (Yj5 x (WX4 x).lo):=Ws3 _
 generalize Yj5 x (WX4 x).lo=place at *
 try simp +decide only [Wc5,bsx,Nat.reduceAdd,Int.reduceLE,Int.reduceLT,Int.reduceToNat,rsx,g_s,Wc9,RunS.l H4,RunS.r H4,RunS.tc H4]
 refine Wa7 (λc=>?_) (λc=>?_)
 ·rw [if_pos c] at k
  exact Wa0 (Wq0 H4 [place] rfl (Ws4 hpl) rfl (by omega) λh5 b' o' _ _ H5=>k h5 (RunS.drp (RunS.none H5)))
 rw [if_neg c] at k
 refine Wa7 (λc=>?_) (λc=>?_)
 ·rw [if_pos c] at k
  refine Wa7 (λc2=>?_) (λc2=>?_)
  ·rw [if_pos c2] at k
   exact RunS.stR (i:=3) H4 rfl U0 λh5 H5=>RunS.stP H5 λh6 H6=>k h6 (RunS.drp (RunS.none H6))
  ·rw [if_neg c2] at k
   refine RunS.stR (i:=3) H4 rfl r0 λh5 H5=>?_
   try simp +decide only [Wc5,bsx,Nat.reduceAdd,Int.reduceLE,Int.reduceLT,Int.reduceToNat,rsx,g_s,Wc9,RunS.l H5,RunS.r H5,B.len]
   refine Wa0 (WB6 H5 λh6 H6=>W16 ?_)
   try simp +decide only [Wc5,bsx,Nat.reduceAdd,Int.reduceLE,Int.reduceLT,Int.reduceToNat,rsx,g_s,Wc9,RunS.l H6,RunS.c H6,B.len]
   refine Wa0 (Wj7 P (Wm7 _) (by decide) λh7 o7=>?_)
   have H7:=RunS.old H6 o7
   refine sl H7 ?_
   refine Wa0 (Wg4 3 rfl H7 λh8 H8=>?_)
   try simp +decide only [Wc5,bsx,Nat.reduceAdd,Int.reduceLE,Int.reduceLT,Int.reduceToNat,rsx,g_s,Wc9,RunS.l H8,B.len]
   refine Wa0 (Wj2 r0 ?_)
   try simp +decide only [Wc5,bsx,Nat.reduceAdd,Int.reduceLE,Int.reduceLT,Int.reduceToNat,rsx,g_s,Wc9,RunS.l H8]
   refine Wa0 (WP0 H8 (Wx1 P _ _) (WY7 _) O.st λh9 H9=>?_)
   refine RunS.stP H9 λh10 H10=>?_
   refine Wa7 (λc3=>?_) (λc3=>?_)
   ·rw [if_pos c3] at k
    exact RunS.stP H10 λh11 H11=>k h11 (RunS.drp (RunS.none H11))
   ·rw [if_neg c3] at k
    exact k h10 (RunS.drp (RunS.none H10))
 rw [if_neg c] at k
 refine Wa7 (λc=>?_) (λc=>?_)
 ·rw [if_pos c] at k
  refine Wa0 (Wp8 (B.g 3) ?_)
  refine ss H4 ?_
  refine Wa0 (Wx2 H4 (B.g 3) O.st λh5 H5=>?_)
  refine ss H5 ?_
  exact Wa0 (Wx3 H5 (show x.t.fr.length < _ by omega) λh6 H6=>k h6 (RunS.drp H6))
 have e2:Int.fdiv place 2=place / 2:=Wr2 (by omega)
 have e3:Int.tdiv place 2=place / 2:=Int.tdiv_eq_ediv_of_nonneg hpl.1
 have hu:U (place / 2):=⟨by have:=hpl.1;omega,by have:=hpl.2;have:=hpl.1;omega⟩
 rw [if_neg c] at k
 refine Wa7 (λc=>?_) (λc=>?_)
 ·rw [if_pos c] at k
  try simp only [Wc5,bsx,Nat.reduceAdd,Int.reduceLE,Int.reduceLT,Int.reduceToNat,e2,e3,hu.u64]
  try refine ⟨by decide,?_⟩
  exact Wa0 (Wq0 H4 [place / 2] rfl (Ws4 hu) rfl (by omega) λh5 b' o' _ _ H5=>k h5 (RunS.drp (RunS.none H5)))
 rw [if_neg c] at k
 refine Wa7 (λc=>?_) (λc=>?_)
 ·rw [if_pos c] at k
  refine Wa7 (λc2=>?_) (λc2=>?_)
  ·rw [if_pos c2] at k
   exact Wa0 (Wx3 H4 (by omega) λh5 H5=>k h5 (RunS.drp H5))
  ·rw [if_neg c2] at k
   refine Wa0 (Wr6 H4 λh5 H5=>?_)
   refine ss H5 ?_
   refine Wa0 (Wp8 (B.g 3) ?_)
   refine ss H5 ?_
   refine Wa0 (Wp9 (B.g 3) ?_)
   try simp +decide only [Wc5,bsx,Nat.reduceAdd,Int.reduceLE,Int.reduceLT,Int.reduceToNat,rsx,g_s,Wc9,RunS.al H5,e2,e3,hu.u64]
   refine Wa0 (Wr6 H5 λh6 H6=>?_)
   try simp +decide only [Wc5,bsx,Nat.reduceAdd,Int.reduceLE,Int.reduceLT,Int.reduceToNat,rsx,g_s,Wc9,RunS.al H6,e2,e3,hu.u64]
   refine Wa0 (Y80 H6 (Yy6 P _) (Yy6 P _) WH7 O.st λh7 H7=>?_)
   refine ss H7 ?_
   exact Wa0 (Wx3 H7 (show x.t.fr.length < _ by omega) λh8 H8=>k h8 (RunS.drp H8))
 rw [if_neg c] at k
 exact k h4 (RunS.drp (RunS.none H4))
end
end
section
set_option maxRecDepth 100000

end
section
open Mod
def Thr.setPl (t:Thr) (p s w:List Int):Thr:={ t with pred:=p,succ:=s,word:=w }
section
variable {K:kQ} {h:Wa1} {M T b o N:Nat} {tv:Value} {fo:Option (Nat × Nat)} {x:Run} {R:Hp}
end
end
section
open Mod
section
variable {K:kQ} {h:Wa1} {M T b o N:Nat} {tv:Value} {fo:Option (Nat × Nat)} {x:Run} {R:Hp}
end
end
section
open Mod
section
variable {K:kQ} {h:Wa1} {M T b o N:Nat} {tv:Value} {fo:Option (Nat × Nat)} {x:Run} {R:Hp}
end
end
section
open Mod
section
variable {K:kQ} {h:Wa1} {M T b o N:Nat} {tv:Value} {fo:Option (Nat × Nat)} {x:Run} {R:Hp}
end
end
section
set_option maxRecDepth 100000

end
section
open Mod
section
variable {K:kQ} {h:Wa1} {M T b o N:Nat} {tv:Value} {fo:Option (Nat × Nat)} {x:Run} {R:Hp}
end
end
section
open Mod
theorem and1 {n:Int} (h:U n):Mod.u64 ((((BitVec.ofInt 64 n) &&& (BitVec.ofInt 64 1)).toNat:Nat):Int)=n % 2:=by
 obtain ⟨h0,h1⟩:=h
 have e:(BitVec.ofInt 64 n).toNat=n.toNat:=by
  rw [BitVec.toNat_ofInt]
  omega
 rw [BitVec.toNat_and,e,show (BitVec.ofInt 64 1).toNat=1 from rfl,Nat.and_one_is_mod]
 unfold Mod.u64
 omega
section
variable {K:kQ} {h:Wa1} {M T b o N:Nat} {tv:Value} {fo:Option (Nat × Nat)} {x:Run} {R:Hp}
end
end
end Go.Proofs.YtahpbclnkofhfaaGreat
