/- Part 8 of what the proofs of this seat rest on: see the last text of the claim. -/
import Derived.Test.YtooaemmlgkdfoaaGreatQebfeb348098b
import Derived.Test.YtooaemmlgkdfoaaGreatProg
set_option linter.unusedSimpArgs false
set_option linter.unusedVariables false
set_option linter.ambiguousOpen false
set_option maxRecDepth 20000
namespace Go.Proofs.YtooaemmlgkdfoaaGreat
section
open Mod
def Thr.setRe (t:Thr) (l:List Int):Thr:={ t with retired:=l }
def Thr.setFo (t:Thr) (l:List Int):Thr:={ t with found:=l }
theorem W34 {h:Wa1} {T:Nat} {fo:Option (Nat × Nat)} {t:Thr} {id:Int} {R:Hp} (H:Sat h (Wi5 T fo t id*R)):∃a c,Wa2 h ⟨T,8,none⟩=some (.slice a t.retired.length c)∧OwnI h a t.retired.length c t.retired:=by
 obtain ⟨B,x,H0⟩:=Wd9.1 H
 exact ⟨_,_,Wd3 H0.at rfl,Sat.own (Sat.drop (Sat.drop (Sat.drop (Sat.drop (Sat.drop H0)))))⟩
theorem YJ7 {h:Wa1} {T:Nat} {fo:Option (Nat × Nat)} {t:Thr} {id:Int} {R:Hp} (H:Sat h (Wi5 T fo t id*R)):∃a c,Wa2 h ⟨T,9,none⟩=some (.slice a t.found.length c)∧OwnF h a t.found.length c t.found:=by
 obtain ⟨B,x,H0⟩:=Wd9.1 H
 exact ⟨_,_,Wd3 H0.at rfl,Sat.ownf (Sat.drop (Sat.drop (Sat.drop (Sat.drop (Sat.drop (Sat.drop H0))))))⟩
theorem Yf8 {h:Wa1} {T:Nat} {fo:Option (Nat × Nat)} {t:Thr} {id:Int} {R:Hp} {a:Option Addr} {l c:Nat} {xs:List Int} {K:Wa1→Prop} (H:Sat h (We4 3 1 a l c (xs.map iv)*(Wi5 T fo t id*R))) (hx:∀v ∈ xs,iN v) (hl:l≤1073741824)
  (k:∀h',Sat h' (Wi5 T fo (Thr.setRe t xs) id*R)→K h'):stH h ⟨T,8,none⟩ (.slice a l c) K:=by
 have hlen:xs.length=l:=by have:=H.own.1;simpa using this
 rw [Wb4] at H
 obtain ⟨B,x,H0⟩:=Wd9.1 H
 refine H0.st rfl trivial λh' H1=>k h' (Wd9.2 ⟨{ B with re:=a,ren:=c },⟨?_,?_⟩,?_⟩)
 ·obtain ⟨b1,b2,b3,b4,b5,b6,b7,b8⟩:=x.1
  exact ⟨b1,b2,b3,b4,b5,hx,b7,by unfold Thr.setRe;simp only;omega⟩
 ·exact x.2
 ·unfold Thr.setRe WJ4
  simp only [hlen]
  refine Sat.drop (P:=We4 3 1 B.re t.retired.length B.ren (t.retired.map iv)) (Sat.ac H1 ?_)
  simp only [List.set_cons_succ,List.set_cons_zero]
  ac_rfl
theorem Yf9 {h:Wa1} {T:Nat} {fo:Option (Nat × Nat)} {t:Thr} {id:Int} {R:Hp} {a:Option Addr} {l c:Nat} {xs:List Int} {K:Wa1→Prop} (H:Sat h (WG1 a l c xs*(Wi5 T fo t id*R))) (hx:∀v ∈ xs,iN v) (hl:l≤1073741824)
  (k:∀h',Sat h' (Wi5 T fo (Thr.setFo t xs) id*R)→K h'):stH h ⟨T,9,none⟩ (.slice a l c) K:=by
 have hlen:xs.length=l:=H.ownf.1
 rw [Wb4] at H
 obtain ⟨B,x,H0⟩:=Wd9.1 H
 refine H0.st rfl trivial λh' H1=>k h' (Wd9.2 ⟨{ B with fo:=a,fon:=c },⟨?_,?_⟩,?_⟩)
 ·obtain ⟨b1,b2,b3,b4,b5,b6,b7,b8⟩:=x.1
  exact ⟨b1,b2,b3,b4,b5,b6,hx,by unfold Thr.setFo;simp only;omega⟩
 ·exact x.2
 ·unfold Thr.setFo WJ4
  simp only [hlen]
  refine Sat.drop (P:=WG1 B.fo t.found.length B.fon t.found) (Sat.ac H1 ?_)
  simp only [List.set_cons_succ,List.set_cons_zero]
  ac_rfl
theorem WH9 {h:Wa1} {T:Nat} {fo:Option (Nat × Nat)} {t:Thr} {id:Int} {R:Hp} (H:Sat h (Wi5 T fo t id*R)):∃a c,∃Q:Hp,(∀h' P,Sat h' (Q*P)→Wa2 h' ⟨T,9,none⟩=some (.slice a t.found.length c))∧Sat h (WG1 a t.found.length c t.found*(Q*R)) ∧
  ∀R' h' a' l' c' xs,l'≤1073741824→(∀v ∈ xs,iN v)→Sat h' (WG1 a' l' c' xs*(Q*R'))→∀K:Wa1→Prop,(∀h'',Sat h'' (Wi5 T fo (Thr.setFo t xs) id*R')→K h'')→stH h' ⟨T,9,none⟩ (.slice a' l' c') K:=by
 obtain ⟨B,x,H0⟩:=Wd9.1 H
 refine ⟨B.fo,B.fon,pt T (.cells (WJ4 B t id).toArray 110)*(We4 203 12 B.fr t.fr.length B.frn (t.fr.flatMap frc)*(pt B.pred (.cells (uvs t.pred).toArray 70)*(pt B.succ (.cells (uvs t.succ).toArray 70)*(pt B.word (.cells (uvs t.word).toArray 70)*We4 3 1 B.re t.retired.length B.ren (t.retired.map iv))))),λh' P HQ=>Wd3 (Sat.at (Wc7 _ _ _ ▸ HQ)) rfl,Sat.ac H0 (by ac_rfl),?_⟩
 intro R' h' a' l' c' xs hl hx H1 K k
 have hlen:xs.length=l':=H1.ownf.1
 have H2:Sat h' (pt T (.cells (WJ4 B t id).toArray 110)*(We4 203 12 B.fr t.fr.length B.frn (t.fr.flatMap frc)*(pt B.pred (.cells (uvs t.pred).toArray 70)*(pt B.succ (.cells (uvs t.succ).toArray 70)*(pt B.word (.cells (uvs t.word).toArray 70)*(We4 3 1 B.re t.retired.length B.ren (t.retired.map iv)*(WG1 a' l' c' xs*R'))))))):=Sat.ac H1 (by ac_rfl)
 refine H2.st rfl trivial λh'' H3=>k h'' (Wd9.2 ⟨{ B with fo:=a',fon:=c' },⟨?_,?_⟩,?_⟩)
 ·obtain ⟨b1,b2,b3,b4,b5,b6,b7,b8⟩:=x.1
  exact ⟨b1,b2,b3,b4,b5,b6,hx,by unfold Thr.setFo;simp only;omega⟩
 ·exact x.2
 ·unfold Thr.setFo WJ4
  simp only [hlen]
  exact H3
theorem W35 {h:Wa1} {T:Nat} {fo:Option (Nat × Nat)} {t:Thr} {id:Int} {R:Hp} (H:Sat h (Wi5 T fo t id*R)):∃a c,∃Q:Hp,(∀h' P,Sat h' (Q*P)→Wa2 h' ⟨T,8,none⟩=some (.slice a t.retired.length c))∧Sat h (We4 3 1 a t.retired.length c (t.retired.map iv)*(Q*R)) ∧
  ∀R' h' a' l' c' xs,l'≤1073741824→(∀v ∈ xs,iN v)→Sat h' (We4 3 1 a' l' c' (xs.map iv)*(Q*R'))→∀K:Wa1→Prop,(∀h'',Sat h'' (Wi5 T fo (Thr.setRe t xs) id*R')→K h'')→stH h' ⟨T,8,none⟩ (.slice a' l' c') K:=by
 obtain ⟨B,x,H0⟩:=Wd9.1 H
 refine ⟨B.re,B.ren,pt T (.cells (WJ4 B t id).toArray 110)*(We4 203 12 B.fr t.fr.length B.frn (t.fr.flatMap frc)*(pt B.pred (.cells (uvs t.pred).toArray 70)*(pt B.succ (.cells (uvs t.succ).toArray 70)*(pt B.word (.cells (uvs t.word).toArray 70)*WG1 B.fo t.found.length B.fon t.found)))),λh' P HQ=>Wd3 (Sat.at (Wc7 _ _ _ ▸ HQ)) rfl,Sat.ac H0 (by ac_rfl),?_⟩
 intro R' h' a' l' c' xs hl hx H1 K k
 have hlen:xs.length=l':=by have:=H1.own.1;simpa using this
 have H2:Sat h' (pt T (.cells (WJ4 B t id).toArray 110)*(We4 203 12 B.fr t.fr.length B.frn (t.fr.flatMap frc)*(pt B.pred (.cells (uvs t.pred).toArray 70)*(pt B.succ (.cells (uvs t.succ).toArray 70)*(pt B.word (.cells (uvs t.word).toArray 70)*(We4 3 1 a' l' c' (xs.map iv)*(WG1 B.fo t.found.length B.fon t.found*R'))))))):=Sat.ac H1 (by ac_rfl)
 refine H2.st rfl trivial λh'' H3=>k h'' (Wd9.2 ⟨{ B with re:=a',ren:=c' },⟨?_,?_⟩,?_⟩)
 ·obtain ⟨b1,b2,b3,b4,b5,b6,b7,b8⟩:=x.1
  exact ⟨b1,b2,b3,b4,b5,hx,b7,by unfold Thr.setRe;simp only;omega⟩
 ·exact x.2
 ·unfold Thr.setRe WJ4
  simp only [hlen]
  exact H3
theorem Sat.app1 {h:Wa1} {a:Option Addr} {l c:Nat} {xs:List Int} {y:Int} {K:Value→Wa1→Prop} {R:Hp} (H:Sat h (We4 3 1 a l c (xs.map iv)*R)) (hl:l≤1099511627776) (k:∀a' c' h',Sat h' (We4 3 1 a' (l+1) c' ((xs ++ [y]).map iv)*R)→K (.slice a' (l+1) c') h') :
  Wq0 Tryz.prog #[26,26] 26 #[.slice a l c,.slice (some ⟨h.size,0,none⟩) 1 1] (h.push (.cells #[.int .i64 y] 3)) K:=by
 have H1:=H.push (.cells #[.int .i64 y] 3)
 generalize h.push (.cells #[.int .i64 y] 3)=h1 at *
 generalize h.size=N at *
 have hs:Sees h1 (some ⟨N,0,none⟩) [iv y]:=λi v hi=>⟨_,rfl,by rw [Wc2,Nat.zero_add,Wb8 H1.at];simpa using hi⟩
 rw [Wb4,← Wi7] at H1
 refine H1.app WE1 Wy8 WP6 (by rw [Wi7];rfl) hs (n:=1) (by rw [Wi7];rfl) (by simp [Wi6]) (by rw [Wt9];omega) (by rw [Wt9];omega) λa' c' h' H2=>k a' c' h' ?_
 rw [Wi7] at H2
 rw [List.map_append]
 exact H2.drop2
theorem Sat.appF {h:Wa1} {a:Option Addr} {l c:Nat} {xs:List Int} {y:Int} {K:Value→Wa1→Prop} {R:Hp} (H:Sat h (WG1 a l c xs*R)) (hl:l≤1099511627776) (k:∀a' c' h',Sat h' (WG1 a' (l+1) c' (xs ++ [y])*R)→K (.slice a' (l+1) c') h') :
  Wq0 Tryz.prog #[26,26] 26 #[.slice a l c,.slice (some ⟨h.size,0,none⟩) 1 1] (h.push (.cells #[.int .i64 y] 3)) K:=by
 have H1:=H.push (.cells #[.int .i64 y] 3)
 generalize h.push (.cells #[.int .i64 y] 3)=h1 at *
 generalize h.size=N at *
 have hs:Sees h1 (some ⟨N,0,none⟩) [iv y]:=λi v hi=>⟨_,rfl,by rw [Wc2,Nat.zero_add,Wb8 H1.at];simpa using hi⟩
 have H2:=H1.drop
 obtain ⟨ow,hlt,re⟩:=H2.opn
 have hxl:=ow.1
 refine Yy3 WE1 Wy8 WP6 (by rw [Wi7];rfl) ow.ri.s (by rw [Wi7,List.length_map];omega) ow.2.1 hs (n:=1) (by rw [Wi7];rfl) (by simp [Wi6]) (by rw [Wt9];omega) (by rw [Wt9];omega) (λhc ad ea=>?_) (λhc ea=>?_) (λc' h' o' old=>?_)
 ·rw [Wi7,Nat.mul_one]
  obtain ⟨h1',h2',h3'⟩:=ow
  rcases h3' with ⟨e,_⟩ | ⟨b,o,row,e,hb,hsz,ht⟩
  ·rw [ea] at e;cases e
  ·rw [ea] at e
   cases e
   rw [Wc2]
   have hbl:=(Array.getElem?_eq_some_iff.1 hb).1
   refine WP5 [iv y] h1 b (o+l) 0 row _ _ hb (by simp;omega) (by simp [Wi6]) λrow' r1 r2=>?_
   have hlen:(row.toList.drop o).length ≥ l:=by rw [List.length_drop,Array.length_toList];omega
   refine k a c _ (re _ (blk a) (λh=>OwnF h a (l+1) c (xs ++ [y])) ⟨by simp,λc2 hc2 hn=>Wl6 λe=>hn ⟨_,ea,e.symm⟩⟩ (λb2 hb2=>⟨.inl hb2,by simpa using hlt b2 hb2⟩) (λb2 ob hb2 e2 x hx=>?_) λh'' e2=>?_)
   ·obtain ⟨ad2,ea2,rfl⟩:=hb2
    rw [ea] at ea2;cases ea2
    rw [Wl5 hbl] at e2;cases e2;cases hx
   ·refine ⟨by simp;omega,hc,.inr ⟨b,o,row',ea,(e2 b ⟨_,ea,rfl⟩).trans (Wl5 hbl),by omega,?_⟩⟩
    apply List.ext_getElem?
    intro j
    rw [List.getElem?_take,List.getElem?_drop,Array.getElem?_toList,r2]
    have hx:∀j,j < l→(xs.map iv)[j]? = row[o+j]?:=λj hj=>by rw [← ht,List.getElem?_take,if_pos hj,List.getElem?_drop,Array.getElem?_toList]
    simp only [List.length_singleton,List.map_append,List.map_cons,List.map_nil]
    by_cases c1:j < l
    ·rw [if_pos (by omega),if_neg (by omega),List.getElem?_append_left (by simp;omega),hx j c1]
    ·by_cases c2:j=l
     ·subst c2
      rw [if_pos (by omega),if_pos (by omega),List.getElem?_append_right (by simp;omega),List.length_map,h1']
      congr 1;omega
     ·rw [if_neg (by omega)]
      symm;apply List.getElem?_eq_none;simp;omega
 ·obtain ⟨h1',h2',h3'⟩:=ow
  rcases h3' with ⟨_,e⟩ | ⟨b,o,row,e,_⟩
  ·omega
  ·rw [ea] at e;cases e
 ·have o2:OwnF h' (some ⟨h1.size,0,none⟩) (l+1) c' (xs ++ [y]):=OwnF.of (by rw [Wi7] at o';unfold OwnI;simpa using o')
  have H3:Sat h' (WG1 (some ⟨h1.size,0,none⟩) (l+1) c' (xs ++ [y])*(WG1 a l c xs*R)):=H2.mk_new old (λb hb=>⟨by obtain ⟨ad,e,rfl⟩:=hb;cases e;exact Nat.le_refl _,o2.lt2 hb⟩) o2.nd λh'' e=>o2.congr e
  exact k _ c' h' H3.drop2
theorem WR6 {K:Value→Wa1→Prop} {h:Wa1} {T:Nat} {fo:Option (Nat × Nat)} {t:Thr} {id:Int} {R:Hp} {y:Int} (H:Sat h (Wi5 T fo t id*R)) (hy:iN y) (hl:t.retired.length < 1073741824) (k:∀h',Sat h' (Wi5 T fo (Thr.setRe t (t.retired ++ [y])) id*R)→K (.tuple #[]) h') :
  Wa5 Tryz.prog 280 #[.pointer (some ⟨T,8,none⟩),.int .i64 y] h K:=by
 refine call280 ?_
 unfold F280 lS nP
 obtain ⟨a,c,Q,e,H1,re⟩:=W35 H
 have e0:=e h _ H1.drop
 have hB:=(W96 H).re
 try simp only [Wa7,bsx,Nat.reduceAdd,Int.reduceLE,Int.reduceLT,Int.reduceToNat]
 refine Wc5 e0 ?_
 try simp only [Wa7,bsx,Nat.reduceAdd,Int.reduceLE,Int.reduceLT,Int.reduceToNat]
 refine H1.app1 (by omega) λa' c' h' H2=>?_
 try simp only [Wa7,bsx,Nat.reduceAdd,Int.reduceLE,Int.reduceLT,Int.reduceToNat]
 refine re _ h' a' _ c' _ (by omega) (λv hv=>?_) H2 _ k
 rcases List.mem_append.1 hv with h1 | h1
 ·exact hB v h1
 ·rw [List.mem_singleton.1 h1];exact hy
theorem WC4 {K:Value→Wa1→Prop} {h:Wa1} {T:Nat} {fo:Option (Nat × Nat)} {t:Thr} {id:Int} {R:Hp} (H:Sat h (Wi5 T fo t id*R)) (k:K (.int .i64 (t.retired.length:Int)) h) :
  Wa5 Tryz.prog 257 #[.pointer (some ⟨T,8,none⟩)] h K:=by
 refine call257 ?_
 unfold F257 lS nP
 obtain ⟨a,c,e0,ow⟩:=W34 H
 try simp only [Wa7,bsx,Nat.reduceAdd,Int.reduceLE,Int.reduceLT,Int.reduceToNat]
 refine Wc5 e0 ?_
 try simp only [Wa7,bsx,Nat.reduceAdd,Int.reduceLE,Int.reduceLT,Int.reduceToNat]
 exact k
theorem New.part {h h':Wa1} {a:Option Addr} {l c:Nat} {xs:List Int} {R:Hp} (H:New h h' a l c xs) (S:Sat h R) (o:Old h.size h h'):∃Q:Hp,Sat h' (Q*R)∧∀h P,Sat h (Q*P)→RI h a l c xs:=by
 rcases H with ⟨h1,h2,h3⟩ | ⟨h1,h2⟩
 ·subst h1;subst h2;subst h3
  exact ⟨emp,by rw [Wr7];exact S.old o,λh P _=>⟨Sees.nil _ _,rfl,Nat.le_refl _⟩⟩
 ·refine ⟨We4 3 1 a l c (xs.map iv),S.mk_new o (λb hb=>?_) h1.nd λh'' e=>h1.congr e,λh P S=>OwnI.ri S.own⟩
  refine ⟨?_,h1.lt2 hb⟩
  obtain ⟨ad,e,rfl⟩:=hb
  exact h2 ad e
theorem WR7 {K:Value→Wa1→Prop} {h:Wa1} {T:Nat} {fo:Option (Nat × Nat)} {t:Thr} {id:Int} {R:Hp} (H:Sat h (Wi5 T fo t id*R)) (k:∀a' c' h' Q,Sat h' (Q*(Wi5 T fo t id*R))→(∀h P,Sat h (Q*P)→RI h a' t.retired.length c' t.retired)→K (.slice a' t.retired.length c') h') :
  Wa5 Tryz.prog 283 #[.pointer (some ⟨T,8,none⟩)] h K:=by
 refine call283 ?_
 unfold F283 cf lS nP
 obtain ⟨a,c,e0,ow⟩:=W34 H
 have hB:=(W96 H).len
 try simp only [Wa7,bsx,Nat.reduceAdd,Int.reduceLE,Int.reduceLT,Int.reduceToNat]
 refine Wc5 e0 ?_
 try simp only [Wa7,bsx,Nat.reduceAdd,Int.reduceLE,Int.reduceLT,Int.reduceToNat]
 refine Wa0 (Ym7 (OwnI.ri ow) (by omega) λa' c' h' hn o=>?_)
 try simp only [Wa7,bsx,Nat.reduceAdd,Int.reduceLE,Int.reduceLT,Int.reduceToNat]
 obtain ⟨Q,h1,h2⟩:=hn.part H o
 exact k a' c' h' Q h1 h2
theorem WI0 {K:Value→Wa1→Prop} {h:Wa1} {w:Int} (hw:U w) (k:K (.int .u64 (Wx9 w)) h):Wa5 Tryz.prog 276 #[.int .u64 w] h K:=by
 refine call276 ?_
 unfold F276 cf
 refine Wa0 (Wi0 hw ?_)
 try simp only [Wa7,bsx,Nat.reduceAdd,Int.reduceLE,Int.reduceLT,Int.reduceToNat]
 exact k
def cfV (c:Mod.Cf):Value:=.agg #[.int .i64 c.algo,.int .i64 c.threads,.int .i64 c.nodes,.int .i64 c.level,.int .i64 c.batch,.int .i64 c.probes,.int .i64 c.scan]
theorem cf7 {c:Mod.Cf} {F:Value→Value→Value→Value→Value→Value→Value→Prop} (k:F (.int .i64 c.algo) (.int .i64 c.threads) (.int .i64 c.nodes) (.int .i64 c.level) (.int .i64 c.batch) (.int .i64 c.probes) (.int .i64 c.scan)) :
 asAgg (cfV c) λvs=>We5 vs 7 (Wb7 vs 0 λv0=>Wb7 vs 1 λv1=>Wb7 vs 2 λv2=>Wb7 vs 3 λv3=>Wb7 vs 4 λv4=>Wb7 vs 5 λv5=>Wb7 vs 6 λv6=>F v0 v1 v2 v3 v4 v5 v6):=k
theorem Wh0 {K:Value→Wa1→Prop} {h:Wa1} {p:Pl} (k:∀h',Old h.size h h'→K (cfV p.c) h'):Wa5 Tryz.prog 80 #[plV p] h K:=by
 refine call80 ?_
 unfold F80 g80 da7 dl7 dw7
 rw [WK5]
 have p1:=Wg2 h (plc p).toArray 62
 generalize h.push (.cells (plc p).toArray 62)=h1 at *
 have p2:=Wg2 h1 #[.int .i64 0,.int .i64 0,.int .i64 0,.int .i64 0,.int .i64 0,.int .i64 0,.int .i64 0] 23
 generalize h1.push (.cells #[.int .i64 0,.int .i64 0,.int .i64 0,.int .i64 0,.int .i64 0,.int .i64 0,.int .i64 0] 23)=h2 at *
 have hs1:=p1.size
 have O:h2[h.size]? = some (.cells (plc p).toArray 62):=(p2.old _ (by omega)).trans p1.new
 refine ldR O rfl (ldR O rfl (ldR O rfl (ldR O rfl (ldR O rfl (ldR O rfl (ldR O rfl ?_))))))
 refine st7 (Wd6 (vs:=cfc p.c) p2.new rfl (by simp [cfc,Wi6]) λh3 w=>?_)
 have Q:=w.new
 refine ldR Q rfl (ldR Q rfl (ldR Q rfl (ldR Q rfl (ldR Q rfl (ldR Q rfl (ldR Q rfl ?_))))))
 exact k h3 ((p1.toOld.trans (p2.toOld.mono (by omega))).trans ⟨by rw [w.size];exact Nat.le_refl _,λc hc=>w.old c (by omega)⟩)
theorem Yp8 {p:Pl} (B:PlB p) (t s:Int):iN (p.haz t s):=by
 have h1:=B.th
 have h2:=B.sl
 have h3:=B.hz
 unfold Pl.haz
 split
 ·rename_i c
  have:t*p.slots≤6*14:=Int.mul_le_mul (by omega) (by omega) (by omega) (by omega)
  have h0:0≤t*p.slots:=Int.mul_nonneg (by omega) (by omega)
  constructor <;> omega
 ·constructor <;> omega
section
variable {K:Value→Wa1→Prop} {h:Wa1} {M T b o N:Nat} {tv:Value} {fo:Option (Nat × Nat)} {x:Run} {R:Hp}
theorem RunS.tc (H:Sat h (RunS M T tv fo x R)):Wa2 h ⟨T,0,Option.none⟩=some (.int .i64 x.id)∧(∀F:Value→Prop,ldH h ⟨T,0,Option.none⟩ F=F (.int .i64 x.id))∧(∀F:Value→Prop,ldH h ⟨T,2,Option.none⟩ F=F (.int .u64 (x.ret 0)))∧(∀F:Value→Prop,ldH h ⟨T,3,Option.none⟩ F=F (.int .u64 (x.ret 1)))∧(∀F:Value→Prop,ldH h ⟨T,4,Option.none⟩ F=F (.int .u64 (x.ret 2))) ∧
  Wa2 h ⟨T,2,Option.none⟩=some (.int .u64 (x.ret 0))∧Wa2 h ⟨T,3,Option.none⟩=some (.int .u64 (x.ret 1))∧(∀ob,Wa2 (h.push ob) ⟨T,2,Option.none⟩=some (.int .u64 (x.ret 0)))∧(∀ob,Wa2 (h.push ob) ⟨T,3,Option.none⟩=some (.int .u64 (x.ret 1)))∧(∀ob,Wa2 (h.push ob) ⟨T,0,Option.none⟩=some (.int .i64 x.id)):=by
 obtain ⟨B,e⟩:=WR0 (RunS.thr H)
 have c0:=Wd3 (i:=0) e rfl
 have c2:Wa2 h ⟨T,2,Option.none⟩=some (.int .u64 (x.ret 0)):=Wd3 (i:=2) e rfl
 have c3:Wa2 h ⟨T,3,Option.none⟩=some (.int .u64 (x.ret 1)):=Wd3 (i:=3) e rfl
 have c4:Wa2 h ⟨T,4,Option.none⟩=some (.int .u64 (x.ret 2)):=Wd3 (i:=4) e rfl
 refine ⟨c0,λF=>?_,λF=>?_,λF=>?_,λF=>?_,c2,c3,λ_=>Wc6 c2,λ_=>Wc6 c3,λ_=>Wc6 c0⟩
 ·unfold ldH;rw [c0]
 ·unfold ldH;rw [c2]
 ·unfold ldH;rw [c3]
 ·unfold ldH;rw [c4]
theorem RunS.al {N:Nat} {ty:TypeId} {v0 v1 v2:Value} (H:Sat h (RunS M T tv (some (b,o)) x (pt N (.cells #[v0,v1,v2] ty)*R))):type_of% (And.intro (RunS.l H) (And.intro (RunS.r H) (And.intro (RunS.c H) (And.intro (RunS.cp H) (RunS.tc H))))):=And.intro (RunS.l H) (And.intro (RunS.r H) (And.intro (RunS.c H) (And.intro (RunS.cp H) (RunS.tc H))))
theorem WX3 (H:Sat h (RunS M T tv (some (b,o)) x R)) (hi:iN x.id) (hs:x.m.mm.st < 1099511627776) (k:∀h',Sat h' (RunS M T tv none (Ws0 x) R)→K (.tuple #[]) h') :
  Wa5 Tryz.prog 194 #[mP M,mP T,fP b o] h K:=by
 refine call194 ?_
 unfold F194 cf bd lI nP Wu0
 have B:=RunS.fB H
 have P:=RunS.pl H
 unfold Ws0 at k
 try simp +decide only [Wa7,bsx,Nat.reduceAdd,Int.reduceLE,Int.reduceLT,Int.reduceToNat,rsx,g_s,Wb6,RunS.r H,RunS.tc H]
 refine Wa6 (λc=>?_) (λc=>?_)
 ·rw [if_pos c] at k
  refine Wa0 (WH5 H (Wl0 _) hs λh1 H1 u1=>?_)
  try simp only [Wa7,bsx,Nat.reduceAdd,Int.reduceLE,Int.reduceLT,Int.reduceToNat]
  refine RunS.stR (i:=2) H1 rfl u1 λh2 H2=>RunS.stP H2 λh3 H3=>?_
  try simp +decide only [Wa7,bsx,Nat.reduceAdd,Int.reduceLE,Int.reduceLT,Int.reduceToNat,rsx,g_s,Wb6,RunS.r H3,B.len]
  refine Wa0 (WI0 u1 ?_)
  try simp +decide only [Wa7,bsx,Nat.reduceAdd,Int.reduceLE,Int.reduceLT,Int.reduceToNat,rsx,g_s,Wb6,RunS.r H3,B.len]
  refine Wa6 (λc2=>?_) (λc2=>?_)
  ·simp only [if_pos c2] at k
   exact Wa0 (Yf5 H3 [(x.load (s64 (x.f.g 1))).1] rfl (Wt2 u1) (by omega) λh4 H4=>k h4 H4)
  ·simp only [if_neg c2] at k
   exact k h3 (RunS.none H3)
 rw [if_neg c] at k
 refine Wa6 (λc=>?_) (λc=>?_)
 ·rw [if_pos c] at k
  refine Wa0 (WB4 H λh1 H1=>WR4 ?_)
  refine ⟨(RunS.c H1).2.2.2.1,(RunS.c H1).2.1,(RunS.tc H1).1,?_⟩
  refine Wa0 (WB1 P hi (Wl0 _) λh2 o2=>?_)
  have H2:=RunS.old H1 o2
  try simp +decide only [Wa7,bsx,Nat.reduceAdd,Int.reduceLE,Int.reduceLT,Int.reduceToNat,rsx,g_s,Wb6,RunS.c H2]
  refine Wa0 (WI0 (B.g 2) ?_)
  try simp only [Wa7,bsx,Nat.reduceAdd,Int.reduceLE,Int.reduceLT,Int.reduceToNat]
  refine Wa0 (WM9 H2 (Yp8 P _ _) (WX1 _) hs λh3 H3=>?_)
  exact RunS.stP H3 λh4 H4=>k h4 (RunS.none H4)
 ·rw [if_neg c] at k
  refine Wa0 (WH5 H (Wl0 _) hs λh1 H1 u1=>?_)
  try simp only [Wa7,bsx,Nat.reduceAdd,Int.reduceLE,Int.reduceLT,Int.reduceToNat]
  refine ⟨λvs h'=>vs = [.bool (decide ((x.load (s64 (x.f.g 1))).1=x.f.g 2∨Wx9 (x.load (s64 (x.f.g 1))).1=0))]∧h' = h1,?_,?_⟩
  ·try simp +decide only [Wa7,bsx,Nat.reduceAdd,Int.reduceLE,Int.reduceLT,Int.reduceToNat,rsx,g_s,Wb6,RunS.r H1]
   refine Wa6 (λq=>by rw [decide_eq_true (.inl q)]) (λq=>?_)
   refine Wa0 (WI0 u1 ?_)
   try simp only [Wa7,bsx,Nat.reduceAdd,Int.reduceLE,Int.reduceLT,Int.reduceToNat]
   congr 2
   rw [Bool.eq_iff_iff,beq_iff_eq,decide_eq_true_iff]
   exact ⟨.inr,λh=>h.resolve_left q⟩
  rintro v71 g72 h73 ⟨e,rfl⟩
  cases e
  try simp only [Wa7,bsx,Nat.reduceAdd,Int.reduceLE,Int.reduceLT,Int.reduceToNat]
  refine Wa6 (λc2=>?_) (λc2=>?_)
  ·simp only [if_pos c2] at k
   exact Wa0 (Yf5 H1 [(x.load (s64 (x.f.g 1))).1] rfl (Wt2 u1) (by omega) λh4 H4=>k h4 H4)
  ·simp only [if_neg c2] at k
   exact RunS.stR (i:=2) H1 rfl u1 λh2 H2=>RunS.stP H2 λh3 H3=>k h3 (RunS.none H3)
theorem Yp9 (H:Sat h (RunS M T tv (some (b,o)) x R)) (hi:iN x.id) (hpc:0≤x.f.pc∧x.f.pc≤100) (hs:x.m.mm.st < 1099511627776) (k:∀h',Sat h' (RunS M T tv none (Yy6 x) R)→K (.tuple #[]) h') :
  Wa5 Tryz.prog 195 #[mP M,mP T,fP b o] h K:=by
 refine call195 ?_
 unfold F195 cf lI nP Wu0
 have B:=RunS.fB H
 have P:=RunS.pl H
 unfold Yy6 at k
 try simp +decide only [Wa7,bsx,Nat.reduceAdd,Int.reduceLE,Int.reduceLT,Int.reduceToNat,rsx,g_s,Wb6,RunS.r H,RunS.tc H]
 refine Wa0 (WB4 H λh1 H1=>WR4 ?_)
 try refine ⟨(RunS.c H1).1,?_⟩
 refine Wa0 (Wp3 λh2 o2=>?_)
 have H2:=RunS.old H1 o2
 try simp +decide only [Wa7,bsx,Nat.reduceAdd,Int.reduceLE,Int.reduceLT,Int.reduceToNat,rsx,g_s,Wb6,RunS.r H2,RunS.c H2,RunS.tc H2]
 refine Wa6 (λc=>?_) (λc=>?_)
 ·rw [if_pos c] at k
  exact Wa0 (YJ6 H2 Args.none (by omega) k)
 ·rw [if_neg c] at k
  refine Wa0 (WB4 H2 λh3 H3=>WR4 ?_)
  refine ⟨(RunS.c H3).1,(RunS.tc H3).1,?_⟩
  refine Wa0 (WB1 P hi ⟨by omega,by omega⟩ λh4 o4=>?_)
  have H4:=RunS.old H3 o4
  try simp only [Wa7,bsx,Nat.reduceAdd,Int.reduceLE,Int.reduceLT,Int.reduceToNat]
  refine Wa0 (WM9 H4 (Yp8 P _ _) U0 hs λh5 H5=>?_)
  try simp +decide only [Wa7,bsx,Nat.reduceAdd,Int.reduceLE,Int.reduceLT,Int.reduceToNat,rsx,g_s,Wb6,RunS.r H5]
  rw [← WE3,Wb9 (by omega) (by omega)]
  exact RunS.stP H5 λh6 H6=>k h6 (RunS.none H6)
theorem RunS.ofRe {l:List Int} {h':Wa1} (H:Sat h' (Wi5 T fo (Thr.setRe x.t l) x.id*(Wg3 M tv x.m*R))):Sat h' (RunS M T tv fo (x.re l) R):=RunS.ofThr H
theorem W36 (H:Sat h (RunS M T tv (some (b,o)) x R)) (hl:x.t.retired.length < 1073741824) (hd:x.t.fr.length < 1073741824) (k:∀h',Sat h' (RunS M T tv none (Wz0 x) R)→K (.tuple #[]) h') :
  Wa5 Tryz.prog 196 #[mP M,mP T,fP b o] h K:=by
 refine call196 ?_
 unfold F196 cf bd lI nP de7 Wu0
 have B:=RunS.fB H
 have P:=RunS.pl H
 unfold Wz0 at k
 try simp +decide only [Wa7,bsx,Nat.reduceAdd,Int.reduceLE,Int.reduceLT,Int.reduceToNat,rsx,g_s,Wb6,RunS.r H]
 refine Wa0 (YV2 H (Wl0 _) λh1 H1=>?_)
 refine Wa0 (WR6 (RunS.thr H1) (Wl0 _) hl λh2 H2'=>?_)
 have H2:=RunS.ofRe H2'
 refine Wa0 (YJ6 H2 Args.none (by omega) λh3 H3=>?_)
 refine Wa0 (WC4 (RunS.thr H3) ?_)
 try simp only [Wa7,bsx,Nat.reduceAdd,Int.reduceLE,Int.reduceLT,Int.reduceToNat]
 refine Wa0 (WB4 H3 λh4 H4=>WR4 ?_)
 refine Wa0 (Wh0 λh5 o5=>cf7 ?_)
 have H5:=RunS.old H4 o5
 try simp only [Wa7,bsx,Nat.reduceAdd,Int.reduceLE,Int.reduceLT,Int.reduceToNat]
 refine Wa6 (λc=>?_) (λc=>?_)
 ·simp only [if_pos c] at k
  refine Wa0 (Yz3 H5 Args.none (by omega) ?_ λh6 b6 o6 _ _ H6=>k h6 (RunS.none H6))
  show (Thr.pop _ _).fr.length < _
  unfold Thr.pop
  split
  ·exact hd
  ·simp only [List.length_dropLast]
   show x.t.fr.length - 1 < _
   omega
 ·simp only [if_neg c] at k
  exact k h5 (RunS.none H5)
end
end
section
open Mod
theorem W37 {h:Wa1} {N:Nat} {p:Pl} {ty:TypeId} {F:Value→Value→Value→Value→Value→Value→Value→Value→Value→Value→Value→Value→Value→Value→Value→Prop} (O:h[N]? = some (.cells (plc p).toArray ty))
  (k:F (.int .i64 p.c.algo) (.int .i64 p.c.threads) (.int .i64 p.c.nodes) (.int .i64 p.c.level) (.int .i64 p.c.batch) (.int .i64 p.c.probes) (.int .i64 p.c.scan) (.int .i64 p.slots) (.int .i64 p.width) (.int .i64 p.sent) (.int .i64 p.hazards) (.int .i64 p.links) (.int .i64 p.nodes) (.int .i64 p.tree) (.int .i64 p.size)) :
  ldH h ⟨N,0,none⟩ λv0=>ldH h ⟨N,1,none⟩ λv1=>ldH h ⟨N,2,none⟩ λv2=>ldH h ⟨N,3,none⟩ λv3=>ldH h ⟨N,4,none⟩ λv4=>ldH h ⟨N,5,none⟩ λv5=>ldH h ⟨N,6,none⟩ λv6=>ldH h ⟨N,7,none⟩ λv7=>ldH h ⟨N,8,none⟩ λv8=>ldH h ⟨N,9,none⟩ λv9=>ldH h ⟨N,10,none⟩ λv10=>ldH h ⟨N,11,none⟩ λv11=>ldH h ⟨N,12,none⟩ λv12=>ldH h ⟨N,13,none⟩ λv13=>ldH h ⟨N,14,none⟩ λv14=>F v0 v1 v2 v3 v4 v5 v6 v7 v8 v9 v10 v11 v12 v13 v14:=
 ldR O rfl (ldR O rfl (ldR O rfl (ldR O rfl (ldR O rfl (ldR O rfl (ldR O rfl (ldR O rfl (ldR O rfl (ldR O rfl (ldR O rfl (ldR O rfl (ldR O rfl (ldR O rfl (ldR O rfl k))))))))))))))
theorem YF1 {h:Wa1} {N:Nat} {p:Pl} {ty:TypeId} {X:Prop} (O:h[N]? = some (.cells (plc p).toArray ty)) (k:X) :
  Wa2 h ⟨N,0,none⟩=some (.int .i64 p.c.algo)∧Wa2 h ⟨N,1,none⟩=some (.int .i64 p.c.threads)∧Wa2 h ⟨N,2,none⟩=some (.int .i64 p.c.nodes)∧Wa2 h ⟨N,3,none⟩=some (.int .i64 p.c.level)∧Wa2 h ⟨N,4,none⟩=some (.int .i64 p.c.batch)∧Wa2 h ⟨N,5,none⟩=some (.int .i64 p.c.probes)∧Wa2 h ⟨N,6,none⟩=some (.int .i64 p.c.scan)∧Wa2 h ⟨N,7,none⟩=some (.int .i64 p.slots)∧Wa2 h ⟨N,8,none⟩=some (.int .i64 p.width)∧Wa2 h ⟨N,9,none⟩=some (.int .i64 p.sent)∧Wa2 h ⟨N,10,none⟩=some (.int .i64 p.hazards)∧Wa2 h ⟨N,11,none⟩=some (.int .i64 p.links)∧Wa2 h ⟨N,12,none⟩=some (.int .i64 p.nodes)∧Wa2 h ⟨N,13,none⟩=some (.int .i64 p.tree)∧Wa2 h ⟨N,14,none⟩=some (.int .i64 p.size)∧X:=
 ⟨Wd3 O rfl,Wd3 O rfl,Wd3 O rfl,Wd3 O rfl,Wd3 O rfl,Wd3 O rfl,Wd3 O rfl,Wd3 O rfl,Wd3 O rfl,Wd3 O rfl,Wd3 O rfl,Wd3 O rfl,Wd3 O rfl,Wd3 O rfl,Wd3 O rfl,k⟩
theorem c15 {h:Wa1} {N:Nat} {p:Pl} {ty:TypeId} (O:h[N]? = some (.cells (plc p).toArray ty)):Wa2 h ⟨N,0,none⟩=some (.int .i64 p.c.algo)∧Wa2 h ⟨N,1,none⟩=some (.int .i64 p.c.threads)∧Wa2 h ⟨N,2,none⟩=some (.int .i64 p.c.nodes)∧Wa2 h ⟨N,3,none⟩=some (.int .i64 p.c.level)∧Wa2 h ⟨N,4,none⟩=some (.int .i64 p.c.batch)∧Wa2 h ⟨N,5,none⟩=some (.int .i64 p.c.probes)∧Wa2 h ⟨N,6,none⟩=some (.int .i64 p.c.scan)∧Wa2 h ⟨N,7,none⟩=some (.int .i64 p.slots)∧Wa2 h ⟨N,8,none⟩=some (.int .i64 p.width)∧Wa2 h ⟨N,9,none⟩=some (.int .i64 p.sent)∧Wa2 h ⟨N,10,none⟩=some (.int .i64 p.hazards)∧Wa2 h ⟨N,11,none⟩=some (.int .i64 p.links)∧Wa2 h ⟨N,12,none⟩=some (.int .i64 p.nodes)∧Wa2 h ⟨N,13,none⟩=some (.int .i64 p.tree)∧Wa2 h ⟨N,14,none⟩=some (.int .i64 p.size):=
 ⟨Wd3 O rfl,Wd3 O rfl,Wd3 O rfl,Wd3 O rfl,Wd3 O rfl,Wd3 O rfl,Wd3 O rfl,Wd3 O rfl,Wd3 O rfl,Wd3 O rfl,Wd3 O rfl,Wd3 O rfl,Wd3 O rfl,Wd3 O rfl,Wd3 O rfl⟩
section
variable {K:Value→Wa1→Prop} {h:Wa1} {M T b o N:Nat} {tv:Value} {fo:Option (Nat × Nat)} {x:Run} {R:Hp}
theorem YJ8 {h:Wa1} {b c:Nat} {r1 r2:Array Value} {t1 t2:TypeId} (e1:h[b]? = some (.cells r1 t1)) (e2:h[c]? = some (.cells r2 t2)) (hne:t1≠t2):b≠c:=by
 rintro rfl
 rw [e1] at e2
 have:=congrArg (λo:Option Obj=>match o with | some (.cells _ t _)=>some t | _=>none) e2
 exact hne (by simpa using this)
theorem Ya2 {h:Wa1} {P T:Nat} {av:Nat→Prop} {a:Option Addr} {l c:Nat} {xs:List Int} (e1:Wa2 h ⟨P,0,none⟩=some (mP T)) (e2:Wa2 h ⟨T,9,none⟩=some (.slice a l c)) (R:RI h a l c xs) (hl:l < 2 ^ 60) (n1:¬ av P) (n2:¬ av T) (n3:xs≠[]→∀ad,a=some ad→¬ av ad.block) :
  KeepOnA av (.func (.func 281) #[] #[.pointer (some ⟨P,0,none⟩)]) (λ_=>True) (λy=>xs.contains y) h:=by
 refine ⟨⟨_,_,_,rfl⟩,λh=>Wa2 h ⟨P,0,none⟩=some (mP T)∧Wa2 h ⟨T,9,none⟩=some (.slice a l c)∧RI h a l c xs,⟨e1,e2,R⟩,λh h' o e=>⟨o.cell n1 e.1,o.cell n2 e.2.1,e.2.2.congrA o n3⟩,?_⟩
 rintro h y K ⟨e1,e2,R⟩ _ k
 refine WP4 ?_
 rw [cl2]
 refine call281 ?_
 unfold F281 cf lS lP nP
 try simp only [Wa7,bsx,Nat.reduceAdd,Int.reduceLE,Int.reduceLT,Int.reduceToNat]
 refine Wc5 e1 ?_
 try simp only [Wa7,bsx,Nat.reduceAdd,Int.reduceLE,Int.reduceLT,Int.reduceToNat]
 refine Wc5 e2 ?_
 try simp only [Wa7,bsx,Nat.reduceAdd,Int.reduceLE,Int.reduceLT,Int.reduceToNat]
 refine Wa0 (WL0 R hl ?_)
 try simp only [Wa7,bsx,Nat.reduceAdd,Int.reduceLE,Int.reduceLT,Int.reduceToNat]
 exact k h (Old.refl _ _)
theorem Sat.pt_ne {h:Wa1} {N M:Nat} {o o':Obj} {R:Hp} (H:Sat h (pt N o*(pt M o' * R))):M≠N:=by
 obtain ⟨_,s,σ,τ,d,rfl,p,_,_,d2,rfl,q,r⟩:=H
 rintro rfl
 have h1:=q M
 have h2:=p M
 rw [if_pos rfl] at h1 h2
 rcases d M with e | e
 ·rw [e] at h2;cases h2
 ·have:=(Wp1.1 e).1
  rw [this] at h1;cases h1
theorem WR8 {P:Nat} {h:Wa1} {T:Nat} {fo:Option (Nat × Nat)} {t:Thr} {id:Int} {ty:TypeId} {R:Hp} (H:Sat h (Wi5 T fo t id*(pt P (.cells #[mP T] ty)*R)))
  (k:∀n h',Sat h' (Wi5 T fo (Thr.setRe t (t.retired.filter λy=>t.found.contains y)) id*(pt P (.cells #[mP T] ty)*R))→K (.int .i64 n) h') :
  Wa5 Tryz.prog 284 #[.pointer (some ⟨T,8,none⟩),.func (.func 281) #[] #[.pointer (some ⟨P,0,none⟩)]] h K:=by
 refine call284 ?_
 unfold F284 cf lS nP
 have TB:=W96 H
 rw [← Wc7] at H
 obtain ⟨R',hR',bR',H⟩:=H.freeze
 rw [Wc7] at H
 refine ⟨λvs h'=>vs = [.bool false]∧h' = h,?_,?_⟩
 ·simp only [Option.isNone_some,Wc4,Wh5]
  exact ⟨by trivial,by trivial⟩
 rintro v2 g3 h4 ⟨e,rfl⟩
 cases e
 try simp only [Wa7,bsx,Nat.reduceAdd,Int.reduceLE,Int.reduceLT,Int.reduceToNat]
 have k:∀n h',Sat h' (Wi5 T fo (Thr.setRe t (t.retired.filter λy=>t.found.contains y)) id*(pt P (.cells #[mP T] ty)*R'))→K (.int .i64 n) h':=λn h' H'=>by
  rw [← Wc7] at H'
  have H2:=H'.mono2 hR'
  rw [Wc7] at H2
  exact k n h' H2
 clear hR'
 have H1:=H.push (.cells #[.slice none 0 0] 26)
 generalize h4.push (.cells #[.slice none 0 0] 26)=h5 at *
 generalize h4.size=N at *
 obtain ⟨B,x,H2⟩:=Wd9.1 H1.drop
 have e8:=Wd3 (i:=8) H2.at rfl
 have e9:=Wd3 (i:=9) H2.at rfl
 have oR:=Sat.own (Sat.drop (Sat.drop (Sat.drop (Sat.drop (Sat.drop H2)))))
 have oF:=Sat.ownf (Sat.drop (Sat.drop (Sat.drop (Sat.drop (Sat.drop (Sat.drop H2))))))
 have eP:h5[P]? = some (.cells #[mP T] ty):=H1.drop.drop.at
 have H3:Sat h5 (pt N (.cells #[.slice none 0 0] 26)*(Wi5 T fo t id*(pt P (.cells #[mP T] ty)*R'))):=H1
 have hN:h5[N]? = some (.cells #[.slice none 0 0] 26):=H3.at
 have hTN:T≠N:=YJ8 H2.at hN (by decide)
 have hPN:P≠N:=Sat.pt_ne (Sat.ac H3 (by ac_rfl):Sat h5 (pt N (.cells #[.slice none 0 0] 26)*(pt P (.cells #[mP T] ty)*(Wi5 T fo t id*R'))))
 have nR:∀ad,B.re=some ad→¬ ad.block=N:=λad ea e=>by
  have eN:=oR.sees
  rcases oR.2.2 with ⟨y,_⟩ | ⟨b,row,y,hb,_⟩
  ·rw [ea] at y;cases y
  ·rw [ea] at y;cases y
   exact YJ8 hb hN (by decide) e
 have nF:∀ad,B.fo=some ad→¬ ad.block=N:=λad ea e=>by
  rcases oF.2.2 with ⟨y,_⟩ | ⟨b,o,row,y,hb,_⟩
  ·rw [ea] at y;cases y
  ·rw [ea] at y;cases y
   exact YJ8 hb hN (by decide) e
 have hlen:=TB.len
 refine Wc5 e8 ?_
 try simp only [Wa7,bsx,Nat.reduceAdd,Int.reduceLE,Int.reduceLT,Int.reduceToNat]
 have hNs:N < h5.size:=(Array.getElem?_eq_some_iff.1 hN).1
 refine Wa0 (Yp7 (av:=λb=>b=N) (OwnI.ri oR) (by omega) (λ_=>nR) (λb hb=>by rw [hb];exact hNs) λg h6 S6 o6=>?_)
 have hk:KeepOnA (λb=>b=N) (.func (.func 281) #[] #[.pointer (some ⟨P,0,none⟩)]) (λ_=>True) (λy=>t.found.contains y) h5:=
  Ya2 (by rw [Wb8 eP];rfl) e9 oF.ri (by omega) hPN hTN (λ_=>nF)
 refine Wa0 (Yf7 S6 (hk.old (OldA.of o6)) (λ_ _=>trivial) (λb hb=>by rw [hb];have:=o6.1;omega) λg' h7 S7 o7=>?_)
 have o57:Old h5.size h5 h7:=o6.trans (o7.mono o6.1)
 have H7:=H3.old o57
 refine WR5 S7 H7.at (Nat.le_trans (List.length_filter_le _ _) (by omega)) λh8 a c s8 old8 n8 own8 new8=>?_
 have H8:=H7.collect s8 old8 n8 own8 new8
 have H9:Sat h8 (We4 3 1 a _ c _*(Wi5 T fo t id*(pt P (.cells #[mP T] ty)*R'))):=H8.drop2
 try simp only [Wa7,bsx,Nat.reduceAdd,Int.reduceLE,Int.reduceLT,Int.reduceToNat]
 obtain ⟨a1,c1,e1,_⟩:=W34 H9.drop
 refine Wc5 e1 ?_
 try simp only [Wa7,bsx,Nat.reduceAdd,Int.reduceLE,Int.reduceLT,Int.reduceToNat]
 refine Wc5 (Wi1 n8) ?_
 try simp only [Wa7,bsx,Nat.reduceAdd,Int.reduceLE,Int.reduceLT,Int.reduceToNat]
 refine Wc5 (Wi1 n8) ?_
 try simp only [Wa7,bsx,Nat.reduceAdd,Int.reduceLE,Int.reduceLT,Int.reduceToNat]
 refine Yf8 H9 (λv hv=>TB.re v ((List.mem_filter.1 hv).1)) (Nat.le_trans (List.length_filter_le _ _) (by omega)) λh9 H10=>?_
 intro h10 hsd
 rw [← Wc7] at H10
 have H11:=H10.sameD (YJ3.star NdA.pt) bR' hsd
 rw [Wc7] at H11
 exact k _ h10 H11
theorem W38 {h:Wa1} {N:Nat} {t:Thr} {id:Int} {a:Option Addr} {c:Nat} {Q S:Hp} {REST:Value→Value→Value→Wa1→Prop} (hQ:∀h P,Sat h (Q*P)→RI h a t.retired.length c t.retired) (hS:∀h P,Sat h (P*S)→Wa2 h ⟨N,0,Option.none⟩=some (mP T)) (hl:t.retired.length≤1073741824) (hl2:t.found.length≤1073741824)
  (H:Sat h (Q*(Wi5 T fo t id*S)))
  (k:∀oa oc h',Sat h' (We4 3 1 oa (t.retired.filter (λn=>!t.found.contains n)).length oc ((t.retired.filter (λn=>!t.found.contains n)).map iv)*(Q*(Wi5 T fo t id*S)))→∀v189 v190,REST (.slice oa (t.retired.filter (λn=>!t.found.contains n)).length oc) v189 v190 h') :
  exI λI=>exM λm=>I [.slice Option.none 0 0,.tuple #[],.int .i64 0] h∧∀v188:Value,∀v189:Value,∀v190:Value,∀g191:Env,∀h192:Wa1,I [v188,v189,v190] h192→asInt .i64 v190 λn193=>ifB (decide (n193 < ((t.retired.length:Nat):Int)))
   (asI v190 λn194=>((0:Int)≤n194)∧((n194:Int) < ((t.retired.length:Nat):Int))∧Wd4 (.pointer a) λa195=>ldH h192 (a195.add n194.toNat) λv196=>asInt .i64 v196 λn197=>Wn2 Tryz.prog (.func (.func 281) #[] #[.pointer (some ⟨N,0,Option.none⟩)]) #[.int .i64 n197] h192 λv198 h199=>asBool v198 λb200=>
    ifB (!b200) (Wb2 v188 λo201 k202 k203=>Wq0 Tryz.prog #[26,26] 26 #[.slice o201 k202 k203,.slice (some ⟨h199.size,0,Option.none⟩) 1 1] (h199.push (.cells #[.int .i64 n197] 3)) λv204 h205=>Wb2 v204 λo206 k207 k208=>asInt .i64 v190 λn209=>
      I [.slice o206 k207 k208,.int .i64 n197,.int .i64 (s64 (n209+1))] h205∧m [.slice o206 k207 k208,.int .i64 n197,.int .i64 (s64 (n209+1))] h205 < m [v188,v189,v190] h192)
     (asInt .i64 v190 λn210=>I [v188,.int .i64 n197,.int .i64 (s64 (n210+1))] h199∧m [v188,.int .i64 n197,.int .i64 (s64 (n210+1))] h199 < m [v188,v189,v190] h192))
   (REST v188 v189 v190 h192):=by
 refine ⟨λvs h'=>∃oa oc w,∃i:Nat,∃out:List Int,vs = [.slice oa out.length oc,w,iv i]∧i≤t.retired.length∧out=(t.retired.take i).filter (λn=>!t.found.contains n)∧Sat h' (We4 3 1 oa out.length oc (out.map iv)*(Q*(Wi5 T fo t id*S))),
  λvs _=>(match vs with | [_,_,.int _ n]=>t.retired.length - n.toNat | _=>0),⟨Option.none,0,_,0,[],rfl,Nat.zero_le _,rfl,H.own_new _ _⟩,?_⟩
 rintro v188 v189 v190 g191 h9 ⟨oa,oc,w,i,out,e,hi,hout,H9⟩
 cases e
 try simp only [Wa7,bsx,Nat.reduceAdd,Int.reduceLE,Int.reduceLT,Int.reduceToNat]
 have eN9:=hS h9 _ (Sat.ac H9 (by simp only [← Wc7]):Sat h9 (We4 3 1 oa out.length oc (out.map iv)*Q*Wi5 T fo t id*S))
 refine Wa6 (λhlt=>?_) (λhge=>?_)
 ·have hlt':i < t.retired.length:=by omega
  have RI9:=hQ h9 _ H9.drop
  obtain ⟨ad,rfl,hc⟩:=RI9.at hlt'
  have htk:(t.retired.take (i+1)).filter (λn=>!t.found.contains n)=out ++ (if t.found.contains t.retired[i] then [] else [t.retired[i]]):=by
   rw [List.take_succ_eq_append_getElem hlt',List.filter_append,← hout]
   congr 1
   cases hcn:t.found.contains t.retired[i] <;> simp only [List.filter_cons,List.filter_nil,hcn,Bool.not_false,Bool.not_true,if_true,Bool.false_eq_true,if_false]
  have hol:out.length≤i:=by rw [hout];exact Nat.le_trans (List.length_filter_le _ _) (by rw [List.length_take];omega)
  generalize t.retired[i]=y at *
  refine ⟨by omega,by omega,?_⟩
  refine Wc5 hc ?_
  try simp only [Wa7,bsx,Nat.reduceAdd,Int.reduceLE,Int.reduceLT,Int.reduceToNat]
  obtain ⟨a9,c9,e99,of9⟩:=YJ7 H9.drop.drop
  refine KeepOnA.call (av:=λ_=>False) (Ya2 eN9 e99 of9.ri (by omega) (λh=>h) (λh=>h) (λ_ _ _ h=>h)) trivial λh10 o10=>?_
  have H10:=H9.old o10
  try simp only [Wa7,bsx,Nat.reduceAdd,Int.reduceLE,Int.reduceLT,Int.reduceToNat]
  have hw:IntKind.i64.wrap ((i:Int)+1)=((i+1:Nat):Int):=Wm5 (by omega)
  rw [WE3] at hw
  cases hcn:t.found.contains y with
  | false=>
   simp only [hcn,Bool.false_eq_true,if_false] at htk
   try simp only [Wa7,bsx,Nat.reduceAdd,Int.reduceLE,Int.reduceLT,Int.reduceToNat]
   refine H10.app1 (by omega) λa' c' h11 H11=>?_
   try simp only [Wa7,bsx,Nat.reduceAdd,Int.reduceLE,Int.reduceLT,Int.reduceToNat,hw]
   exact ⟨⟨a',c',.int .i64 y,i+1,out ++ [y],by rw [List.length_append];rfl,by omega,htk.symm,by rw [List.length_append];exact H11⟩,by show t.retired.length - ((i+1:Nat):Int).toNat < t.retired.length - (i:Int).toNat;omega⟩
  | true=>
   simp only [hcn,if_true,List.append_nil] at htk
   try simp only [Wa7,bsx,Nat.reduceAdd,Int.reduceLE,Int.reduceLT,Int.reduceToNat,hw]
   exact ⟨⟨oa,oc,.int .i64 y,i+1,out,rfl,by omega,htk.symm,H10⟩,by show t.retired.length - ((i+1:Nat):Int).toNat < t.retired.length - (i:Int).toNat;omega⟩
 ·have hi2:i=t.retired.length:=by omega
  rw [hi2,List.take_length] at hout
  subst hout
  exact k oa oc h9 H9 _ _
theorem RunS.wr {ob ob':Obj} {h':Wa1} (H:Sat h (RunS M T tv fo x (pt N ob*R))) (new:h'[N]? = some ob') (old:∀c,c≠N→h'[c]? = h[c]?) (ho:Nd ob':=by intro x e;cases e):Sat h' (RunS M T tv fo x (pt N ob' * R)):=
 Sat.ac (Sat.wr (Sat.ac H (by unfold RunS;ac_rfl):Sat h (pt N ob*(Wg3 M tv x.m*(Wi5 T fo x.t x.id*R)))) new old ho) (by unfold RunS;ac_rfl)
theorem RunS.setFo {a:Option Addr} {l c:Nat} {xs:List Int} {F:Wa1→Prop} (H:Sat h (WG1 a l c xs*RunS M T tv fo x R)) (hx:∀v ∈ xs,iN v) (hl:l≤1073741824) (k:∀h',Sat h' (RunS M T tv fo (x.fo xs) R)→F h'):stH h ⟨T,9,Option.none⟩ (.slice a l c) F:=
 Yf9 (Sat.ac H (by unfold RunS;ac_rfl):Sat h (WG1 a l c xs*(Wi5 T fo x.t x.id*(Wg3 M tv x.m*R)))) hx hl λh' H'=>k h' (RunS.ofThr H')
theorem Yq0 (H:Sat h (RunS M T tv (some (b,o)) x R)) (hpc:0≤x.f.pc∧x.f.pc≤100) (hs:x.m.mm.st < 1099511627776) (hf:x.t.found.length < 1073741824) (hd:x.t.fr.length < 1073741824) (k:∀h',Sat h' (RunS M T tv none (scan x) R)→K (.tuple #[]) h') :
  Wa5 Tryz.prog 197 #[mP M,mP T,fP b o] h K:=by
 refine call197 ?_
 unfold F197 cf bd lS lP lI nP YU3 de7 Wu0 Wz7 ce
 have P:=RunS.pl H
 unfold scan at k
 dsimp only at k
 have H1:=RunS.new H (.cells #[mP T] 104)
 generalize h.push (.cells #[mP T] 104)=h1 at *
 generalize h.size=N at *
 refine Wa0 (WB4 H1 λh2 H2=>WR4 ?_)
 have H3:=RunS.new H2 (.cells #[.int .i64 0,.int .i64 0,.int .i64 0,.int .i64 0,.int .i64 0,.int .i64 0,.int .i64 0,.int .i64 0,.int .i64 0,.int .i64 0,.int .i64 0,.int .i64 0,.int .i64 0,.int .i64 0,.int .i64 0] 62)
 generalize h2.push (.cells #[.int .i64 0,.int .i64 0,.int .i64 0,.int .i64 0,.int .i64 0,.int .i64 0,.int .i64 0,.int .i64 0,.int .i64 0,.int .i64 0,.int .i64 0,.int .i64 0,.int .i64 0,.int .i64 0,.int .i64 0] 62)=h3 at *
 generalize h2.size=N2 at *
 refine YE2 (Wd6 (vs:=plc x.m.p) (RunS.loc H3) rfl (by simp [Wi6]) λh4 w=>?_)
 have H4:=RunS.wr H3 w.new w.old
 refine W37 (RunS.loc H4) (W37 (RunS.loc H4) ?_)
 refine Wa0 (Wp3 λh5 o5=>?_)
 have H5:=RunS.old H4 o5
 try simp only [Wa7,bsx,Nat.reduceAdd,Int.reduceLE,Int.reduceLT,Int.reduceToNat]
 refine YF1 (RunS.loc H5) ?_
 refine Wa0 (Wh0 λh6 o6=>cf7 ?_)
 have H6:=RunS.old H5 o6
 try simp only [Wa7,bsx,Nat.reduceAdd,Int.reduceLE,Int.reduceLT,Int.reduceToNat]
 have hsl:=P.sl
 have hth:=P.th
 have hall:0≤x.m.p.slots*x.m.p.c.threads∧x.m.p.slots*x.m.p.c.threads≤84:=⟨Int.mul_nonneg (by omega) (by omega),Int.le_trans (Int.mul_le_mul hsl.2 hth.2 (by omega) (by omega)) (by omega)⟩
 have e84:s64 (x.m.p.slots*x.m.p.c.threads)=x.m.p.slots*x.m.p.c.threads:=by unfold s64;omega
 rw [e84]
 refine ⟨λvs h'=>vs = []∧Sat h' (RunS M T tv (some (b,o)) (if x.f.pc=0 then x.fo [] else x) (pt N2 (.cells (plc x.m.p).toArray 62)*(pt N (.cells #[mP T] 104)*R))),?_,?_⟩
 ·try simp +decide only [Wa7,bsx,Nat.reduceAdd,Int.reduceLE,Int.reduceLT,Int.reduceToNat,rsx,g_s,Wb6,RunS.r H6]
  refine Wa6 (λc=>?_) (λc=>?_)
  ·rw [if_pos c]
   refine Wc5 (v:=mP T) (Wb8 (RunS.loc2 H6) 0) ?_
   try simp only [Wa7,bsx,Nat.reduceAdd,Int.reduceLE,Int.reduceLT,Int.reduceToNat]
   refine RunS.setFo (Sat.toF (xs:=[]) (Sat.own_new H6 3 1)) (λv hv=>by cases hv) (by omega) λh7 H7=>H7
  ·rw [if_neg c]
   exact H6
 rintro g85 h86 ⟨_,H7⟩
 generalize hx1:(if x.f.pc=0 then x.fo [] else x)=x1 at *
 have ep:x1.m=x.m:=by rw [← hx1];split <;> rfl
 have ef:x1.f=x.f:=by rw [← hx1];split <;> rfl
 have efr:x1.t.fr=x.t.fr:=by rw [← hx1];split <;> rfl
 have efo:x1.t.found.length≤x.t.found.length:=by rw [← hx1];split;exact Nat.zero_le _;exact Nat.le_refl _
 rw [ef] at k
 try simp +decide only [Wa7,bsx,Nat.reduceAdd,Int.reduceLE,Int.reduceLT,Int.reduceToNat,rsx,g_s,Wb6,RunS.r H7,ef]
 have eN:=Wb8 (RunS.loc2 H7) 0
 have eN':Wa2 h86 ⟨N,0,none⟩=some (mP T):=eN
 have ldN:∀F:Value→Prop,ldH h86 ⟨N,0,none⟩ F=F (mP T):=λF=>by unfold ldH;rw [eN']
 refine Wa6 (λc=>?_) (λc=>?_)
 ·rw [if_pos c] at k
  try simp only [Wa7,bsx,Nat.reduceAdd,Int.reduceLE,Int.reduceLT,Int.reduceToNat,ldN]
  obtain ⟨a,cc,Q,e9,HQ,re⟩:=WH9 (RunS.thr H7)
  refine Wc5 (e9 h86 _ HQ.drop) ?_
  try simp only [Wa7,bsx,Nat.reduceAdd,Int.reduceLE,Int.reduceLT,Int.reduceToNat]
  refine W37 (RunS.loc H7) ?_
  try simp +decide only [Wa7,bsx,Nat.reduceAdd,Int.reduceLE,Int.reduceLT,Int.reduceToNat,rsx,g_s,Wb6,RunS.r H7,ef]
  refine W37 (RunS.loc H7) ?_
  try simp +decide only [Wa7,bsx,Nat.reduceAdd,Int.reduceLE,Int.reduceLT,Int.reduceToNat,rsx,g_s,Wb6,RunS.r H7,ef]
  refine W37 (RunS.loc H7) ?_
  refine Wa0 (Wp3 λh8 o8=>?_)
  have H8:=RunS.old H7 o8
  try simp only [Wa7,bsx,Nat.reduceAdd,Int.reduceLE,Int.reduceLT,Int.reduceToNat]
  have eN8:Wa2 h8 ⟨N,0,none⟩=some (mP T):=Wb8 (RunS.loc2 H8) 0
  have e98:=e9 h8 _ (HQ.old o8).drop
  try simp +decide only [Wa7,bsx,Nat.reduceAdd,Int.reduceLE,Int.reduceLT,Int.reduceToNat,rsx,g_s,Wb6,c15 (RunS.loc H8),RunS.c H8,ef,eN8,e98]
  refine ⟨by omega,?_⟩
  refine Wa0 (Wp3 λh9 o9=>?_)
  have H9:=RunS.old H8 o9
  have eN9:Wa2 h9 ⟨N,0,none⟩=some (mP T):=Wb8 (RunS.loc2 H9) 0
  have e99:=e9 h9 _ ((HQ.old o8).old o9).drop
  try simp +decide only [Wa7,bsx,Nat.reduceAdd,Int.reduceLE,Int.reduceLT,Int.reduceToNat,rsx,g_s,Wb6,c15 (RunS.loc H9),RunS.c H9,ef,eN9,e99]
  refine ⟨by omega,?_⟩
  have hd0:0≤x.f.pc / x.m.p.slots:=Int.ediv_nonneg (by omega) (by omega)
  have hd1:x.f.pc / x.m.p.slots≤x.f.pc:=Int.ediv_le_self _ (by omega)
  have hm0:0≤x.f.pc % x.m.p.slots:=Int.emod_nonneg _ (by omega)
  have hm1:x.f.pc % x.m.p.slots < x.m.p.slots:=Int.emod_lt_of_pos _ (by omega)
  have e1:s64 (Int.tdiv x.f.pc x.m.p.slots)=x.f.pc / x.m.p.slots:=by
   rw [Int.tdiv_eq_ediv_of_nonneg (by omega)];unfold s64;omega
  have e2:Int.tmod x.f.pc x.m.p.slots=x.f.pc % x.m.p.slots:=Int.tmod_eq_emod_of_nonneg (by omega)
  rw [e1,e2]
  refine Wa0 (WB1 P ⟨by omega,by omega⟩ ⟨by omega,by omega⟩ λh10 o10=>?_)
  have o86:Old h86.size h86 h10:=(o8.trans (o9.mono o8.1)).trans (o10.mono (Nat.le_trans o8.1 o9.1))
  have HQ10:=HQ.old o86
  have H10:=RunS.old H7 o86
  try simp only [Wa7,bsx,Nat.reduceAdd,Int.reduceLE,Int.reduceLT,Int.reduceToNat]
  have eN10:Wa2 h10 ⟨N,0,none⟩=some (mP T):=Wb8 (RunS.loc2 H10) 0
  refine ⟨e9 h10 _ HQ10.drop,eN10,eN10,?_⟩
  rw [Yy2] at HQ10
  have hs1:x1.m.mm.st < 1099511627776:=by rw [ep];exact hs
  refine Wa0 (WM7 HQ10 (Yp8 P _ _) hs1 λh12 H12 u12=>?_)
  have eN12:Wa2 h12 ⟨N,0,none⟩=some (mP T):=Wb8 H12.drop.drop.drop.drop.at 0
  try simp only [Wa7,bsx,Nat.reduceAdd,Int.reduceLE,Int.reduceLT,Int.reduceToNat,eN12,e9 h12 _ H12.drop.drop]
  have hB:=RunS.B H7
  rw [← Yy2] at H12
  refine ⟨Wc6 (e9 h12 _ H12.drop),Wc6 eN12,Wc6 eN12,?_⟩
  refine Sat.appF H12 (by omega) λa' c' h13 H13=>?_
  have eN13:Wa2 h13 ⟨N,0,none⟩=some (mP T):=Wb8 H13.drop.drop.drop.drop.at 0
  try simp only [Wa7,bsx,Nat.reduceAdd,Int.reduceLE,Int.reduceLT,Int.reduceToNat,eN13]
  refine re _ h13 a' _ c' _ (by omega) (λv hv=>?_) H13 _ λh14 H14=>?_
  ·rcases List.mem_append.1 hv with h1 | h1
   ·exact hB.fo v h1
   ·rw [List.mem_singleton.1 h1];exact Wl0 _
  have H15:=RunS.ofThr H14
  have ef2:(⟨(x1.m.load (x.m.p.haz (x.f.pc / x.m.p.slots) (x.f.pc % x.m.p.slots))).2,Thr.setFo x1.t (x1.t.found ++ [s64 (x1.m.load (x.m.p.haz (x.f.pc / x.m.p.slots) (x.f.pc % x.m.p.slots))).1]),x1.id⟩ : Run).f=x.f:=ef
  try simp +decide only [Wa7,bsx,Nat.reduceAdd,Int.reduceLE,Int.reduceLT,Int.reduceToNat,rsx,g_s,Wb6,RunS.r H15,ef2]
  have e3:s64 (x.f.pc+1)=x.f.pc+1:=by unfold s64;omega
  rw [e3]
  exact RunS.stP H15 λh16 H16=>k h16 (RunS.drp (RunS.drp (RunS.none H16)))
 ·rw [if_neg c] at k
  clear H1 H2 H3 H4 H5 H6 w o5 o6 hx1
  have B7:=RunS.B H7
  have ere:x1.t.retired.length≤1073741824:=B7.len.2.1
  refine ⟨λvs h'=>∃v0 v1 v2,vs = [v0,v1,v2]∧Sat h' (RunS M T tv (some (b,o)) (Wz1 x1 (x.m.p.slots*x.m.p.c.threads)) (pt N2 (.cells (plc x.m.p).toArray 62)*(pt N (.cells #[mP T] 104)*R))),?_,?_⟩
  ·unfold Wz1
   try simp +decide only [Wa7,bsx,Nat.reduceAdd,Int.reduceLE,Int.reduceLT,Int.reduceToNat,rsx,g_s,Wb6,RunS.r H7,ef]
   refine Wa6 (λc2=>?_) (λc2=>?_)
   ·rw [if_pos c2]
    try simp only [Wa7,bsx,Nat.reduceAdd,Int.reduceLE,Int.reduceLT,Int.reduceToNat,ldN]
    refine Wa0 (WR7 (RunS.thr H7) λa c' h8 Q H8 hQ=>?_)
    try simp only [Wa7,bsx,Nat.reduceAdd,Int.reduceLE,Int.reduceLT,Int.reduceToNat]
    refine W38 hQ (λh P HP=>Wb8 (Sat.ac HP (by ac_rfl):Sat h (pt N (.cells #[mP T] 104)*(P*(Wg3 M tv x1.m*(pt N2 (.cells (plc x.m.p).toArray 62)*R))))).at 0) ere (by have:=B7.len;omega) H8 λoa oc h9 H9 v189 v190=>?_
    have eN9:Wa2 h9 ⟨N,0,none⟩=some (mP T):=Wb8 H9.drop.drop.drop.drop.drop.at 0
    have hout:∃out,out=x1.t.retired.filter (λn=>!x1.t.found.contains n):=⟨_,rfl⟩
    obtain ⟨out,hout⟩:=hout
    rw [← hout] at H9 ⊢
    ·have ldN9:∀F:Value→Prop,ldH h9 ⟨N,0,none⟩ F=F (mP T):=λF=>by unfold ldH;rw [eN9]
     try simp only [Wa7,bsx,Nat.reduceAdd,Int.reduceLE,Int.reduceLT,Int.reduceToNat,ldN9]
     have H10:Sat h9 (Wi5 T (some (b,o)) x1.t x1.id*(pt N (.cells #[mP T] 104)*(We4 3 1 oa out.length oc (out.map iv)*(Wg3 M tv x1.m*(pt N2 (.cells (plc x.m.p).toArray 62)*R))))):=
      Sat.drop (P:=Q) (Sat.ac H9 (by ac_rfl))
     refine Wa0 (WR8 H10 λnk h11 H11=>?_)
     have eN11:Wa2 h11 ⟨N,0,none⟩=some (mP T):=Wb8 H11.drop.at 0
     have ldN11:∀F:Value→Prop,ldH h11 ⟨N,0,none⟩ F=F (mP T):=λF=>by unfold ldH;rw [eN11]
     try simp only [Wa7,bsx,Nat.reduceAdd,Int.reduceLE,Int.reduceLT,Int.reduceToNat,ldN11]
     have H12:Sat h11 (WG1 oa out.length oc out*RunS M T tv (some (b,o)) (x1.re (x1.t.retired.filter λn=>x1.t.found.contains n)) (pt N2 (.cells (plc x.m.p).toArray 62)*(pt N (.cells #[mP T] 104)*R))):=
      Sat.toF (Sat.ac H11 (by unfold RunS;ac_rfl))
     refine RunS.setFo H12 (λv hv=>B7.re v (by rw [hout] at hv;exact (List.mem_filter.1 hv).1)) (by rw [hout];exact Nat.le_trans (List.length_filter_le _ _) ere) λh13 H13=>?_
     have ef2:((x1.re (x1.t.retired.filter λn=>x1.t.found.contains n)).fo out).f=x.f:=ef
     try simp +decide only [Wa7,bsx,Nat.reduceAdd,Int.reduceLE,Int.reduceLT,Int.reduceToNat,rsx,g_s,Wb6,RunS.r H13,ef2]
     have e3:s64 (x.f.pc+1)=x.f.pc+1:=by unfold s64;omega
     rw [e3]
     exact RunS.stP H13 λh14 H14=>⟨_,_,_,rfl,H14⟩
   ·rw [if_neg c2]
    exact ⟨_,_,_,rfl,H7⟩
  rintro v229 v230 v231 g232 h233 ⟨w0,w1,w2,e,H8⟩
  cases e
  have ed:(Wz1 x1 (x.m.p.slots*x.m.p.c.threads)).t.fr.length < 1073741824:=by
   unfold Wz1
   split
   ·show (x1.t.fr.dropLast ++ [_]).length < _
    rw [efr];simp;omega
   ·rw [efr];exact hd
  generalize Wz1 x1 (x.m.p.slots*x.m.p.c.threads)=x2 at *
  have eN8:Wa2 h233 ⟨N,0,none⟩=some (mP T):=Wb8 (RunS.loc2 H8) 0
  have ldN8:∀F:Value→Prop,ldH h233 ⟨N,0,none⟩ F=F (mP T):=λF=>by unfold ldH;rw [eN8]
  have B8:=RunS.B H8
  obtain ⟨a,cc,Q,e9,HQ,re⟩:=WH9 (RunS.thr H8)
  have ld9:∀F:Value→Prop,ldH h233 ⟨T,9,none⟩ F=F (.slice a x2.t.found.length cc):=λF=>by unfold ldH;rw [e9 h233 _ HQ.drop]
  try simp only [Wa7,bsx,Nat.reduceAdd,Int.reduceLE,Int.reduceLT,Int.reduceToNat,ldN8,ld9]
  unfold W20 at k
  cases hfo:x2.t.found with
  | nil=>
   rw [hfo] at k
   try simp only [Wa7,bsx,Nat.reduceAdd,Int.reduceLE,Int.reduceLT,Int.reduceToNat,List.length_nil]
   exact Wa0 (YJ6 H8 Args.none (by omega) λh9 H9=>k h9 (RunS.drp (RunS.drp H9)))
  | cons n rest=>
   rw [hfo] at k HQ
   have hl:((((n :: rest).length:Nat):Int) == 0)=false:=by rw [beq_eq_false_iff_ne,List.length_cons];omega
   rw [hl]
   try simp only [Wa7,bsx,Nat.reduceAdd,Int.reduceLE,Int.reduceLT,Int.reduceToNat,ldN8,ld9]
   refine ⟨by rw [List.length_cons];omega,?_⟩
   have ow:=HQ.ownf
   obtain ⟨ad,rfl,hc⟩:=ow.ri.at (i:=0) (by simp)
   rw [add_zero] at hc
   obtain ⟨tl,hsub⟩:=ow.tail
   try simp only [Wa7,bsx,Nat.reduceAdd,Int.reduceLE,Int.reduceLT,Int.reduceToNat]
   refine Wc5 hc ?_
   try simp only [Wa7,bsx,Nat.reduceAdd,Int.reduceLE,Int.reduceLT,Int.reduceToNat]
   refine ⟨by rw [List.length_cons];omega,?_⟩
   obtain ⟨_,hlt2,re2⟩:=HQ.opn
   have HT:=re2 h233 (blk (Yj5 (some ad) 1 cc 1)) (λh=>OwnF h (Yj5 (some ad) 1 cc 1) ((n :: rest).length - 1) (cc - 1) rest) (Fr.refl _ _) (λb2 hb2=>⟨.inl (hsub b2 hb2),hlt2 b2 (hsub b2 hb2)⟩) tl.nd λh'' e=>tl.congr e
   have hfl:=B8.len.2.2
   rw [hfo] at hfl
   refine re _ h233 _ _ _ rest (by omega) (λv hv=>B8.fo v (by rw [hfo];exact List.mem_cons_of_mem _ hv)) HT _ λh9 H9=>?_
   have H10:Sat h9 (RunS M T tv (some (b,o)) (x2.fo rest) _):=RunS.ofThr H9
   have eN10:Wa2 h9 ⟨N,0,none⟩=some (mP T):=Wb8 (RunS.loc2 H10) 0
   have ldN10:∀F:Value→Prop,ldH h9 ⟨N,0,none⟩ F=F (mP T):=λF=>by unfold ldH;rw [eN10]
   try simp only [Wa7,bsx,Nat.reduceAdd,Int.reduceLE,Int.reduceLT,Int.reduceToNat,ldN10]
   exact Wa0 (Yp1 H10 [u64 n] rfl (Wt2 (Wt1 _)) (by omega) ed λh11 b2 o2 _ _ H11=>k h11 (RunS.drp (RunS.drp (RunS.none H11))))
end
end
section
open Mod
structure Ok (x:Run):Prop where
 st:x.m.mm.st < 1099511627776
 us:x.m.used < 1099511627776
 re:x.t.retired.length < 1073741824
 fo:x.t.found.length < 1073741824
 fr:x.t.fr.length < 1000000000
 id:iN x.id
 pc:0≤x.f.pc∧x.f.pc≤100
section
variable {K:Value→Wa1→Prop} {h:Wa1} {M T b o N:Nat} {tv:Value} {fo:Option (Nat × Nat)} {x:Run} {R:Hp}
theorem WX4 (H:Sat h (RunS M T tv fo x R)) (O:Ok x) (k:∀h',Sat h' (RunS M T tv none (Wr9 x) R)→K (.tuple #[]) h') :
  Wa5 Tryz.prog 198 #[mP M,mP T] h K:=by
 refine call198 ?_
 unfold F198 cf lI nP
 unfold Wr9 at k
 refine Wa0 (YP2 H (λe=>?_) λb o hne _ H1=>?_)
 ·rw [if_pos e] at k
  try simp only [Wa7,bsx,Nat.reduceAdd,Int.reduceLE,Int.reduceLT,Int.reduceToNat]
  refine ⟨λvs h'=>(∃w,vs = [.bool true,w])∧h' = h,⟨⟨_,rfl⟩,rfl⟩,?_⟩
  rintro v4 v5 g6 h7 ⟨⟨w,e⟩,rfl⟩
  cases e
  try simp only [Wa7,bsx,Nat.reduceAdd,Int.reduceLE,Int.reduceLT,Int.reduceToNat]
  exact k _ (RunS.none H)
 ·rw [if_neg hne] at k
  try simp only [Wa7,bsx,Nat.reduceAdd,Int.reduceLE,Int.reduceLT,Int.reduceToNat]
  refine ⟨λvs h'=>(∃w,vs = [.bool false,w])∧h' = h,⟨⟨_,rfl⟩,rfl⟩,?_⟩
  rintro v4 v5 g6 h7 ⟨⟨w,e⟩,rfl⟩
  cases e
  try simp +decide only [Wa7,bsx,Nat.reduceAdd,Int.reduceLE,Int.reduceLT,Int.reduceToNat,rsx,g_s,Wb6,RunS.r H1]
  refine Wa6 (λc=>?_) (λc=>?_)
  ·rw [if_pos c] at k
   exact Wa0 (Yf6 H1 O.st k)
  rw [if_neg c] at k
  refine Wa6 (λc=>?_) (λc=>?_)
  ·rw [if_pos c] at k
   exact Wa0 (WX2 H1 O.st k)
  rw [if_neg c] at k
  exact Wa0 (YJ6 H1 Args.none (by omega) k)
theorem WR9 (H:Sat h (RunS M T tv fo x R)) (O:Ok x) (k:∀h',Sat h' (RunS M T tv none (Wn6 x) R)→K (.tuple #[]) h') :
  Wa5 Tryz.prog 126 #[mP M,mP T] h K:=by
 refine call126 ?_
 unfold F126 cf lI nP
 unfold Wn6 at k
 refine Wa0 (YP2 H (λe=>?_) λb o hne _ H1=>?_)
 ·rw [if_pos e] at k
  try simp only [Wa7,bsx,Nat.reduceAdd,Int.reduceLE,Int.reduceLT,Int.reduceToNat]
  refine ⟨λvs h'=>(∃w,vs = [.bool true,w])∧h' = h,⟨⟨_,rfl⟩,rfl⟩,?_⟩
  rintro v4 v5 g6 h7 ⟨⟨w,e⟩,rfl⟩
  cases e
  try simp only [Wa7,bsx,Nat.reduceAdd,Int.reduceLE,Int.reduceLT,Int.reduceToNat]
  exact k _ (RunS.none H)
 ·rw [if_neg hne] at k
  try simp only [Wa7,bsx,Nat.reduceAdd,Int.reduceLE,Int.reduceLT,Int.reduceToNat]
  refine ⟨λvs h'=>(∃w,vs = [.bool false,w])∧h' = h,⟨⟨_,rfl⟩,rfl⟩,?_⟩
  rintro v4 v5 g6 h7 ⟨⟨w,e⟩,rfl⟩
  cases e
  try simp +decide only [Wa7,bsx,Nat.reduceAdd,Int.reduceLE,Int.reduceLT,Int.reduceToNat,rsx,g_s,Wb6,RunS.r H1]
  refine Wa6 (λc=>?_) (λc=>?_)
  ·rw [if_pos c] at k
   exact Wa0 (WX3 H1 O.id O.st k)
  rw [if_neg c] at k
  refine Wa6 (λc=>?_) (λc=>?_)
  ·rw [if_pos c] at k
   exact Wa0 (Yp9 H1 O.id O.pc O.st k)
  rw [if_neg c] at k
  refine Wa6 (λc=>?_) (λc=>?_)
  ·rw [if_pos c] at k
   exact Wa0 (W36 H1 O.re (by have:=O.fr;omega) k)
  rw [if_neg c] at k
  refine Wa6 (λc=>?_) (λc=>?_)
  ·rw [if_pos c] at k
   exact Wa0 (Yq0 H1 O.pc O.st O.fo (by have:=O.fr;omega) k)
  rw [if_neg c] at k
  exact Wa0 (WX4 H1 O k)
end
end
section
open Mod
def Mod.Mac.setTh (m:Mac) (l:List Thr):Mac:={ m with th:=l }
def Mod.Mac.quiet (m:Mac):Mac:={ m with acted:=false }
def WN1:Int→List Nat→List Thr→Hp
 | _,[],_=>emp
 | _,_ :: _,[]=>emp
 | i,T :: Ts,t :: ts=>Wi5 T none t i*WN1 (i+1) Ts ts
theorem WX5 {h:Wa1}:∀ {Ts:List Nat} {ts:List Thr} {i:Int} {k:Nat} {R:Hp} (T:Nat) (t:Thr),Ts[k]? = some T→ts[k]? = some t→Sat h (WN1 i Ts ts*R) →
  ∃Q:Hp,Sat h (Wi5 T none t (i+k)*(Q*R))∧∀R' h' t',Sat h' (Wi5 T none t' (i+k)*(Q*R'))→Sat h' (WN1 i Ts (ts.set k t')*R')
 | [],_,_,k,_,_,_,e,_,_=>by simp at e
 | _ :: _,[],_,k,_,_,_,_,e,_=>by simp at e
 | T0 :: Ts,t0 :: ts,i,0,R,T,t,e1,e2,H=>by
  simp only [List.getElem?_cons_zero,Option.some.injEq] at e1 e2
  subst e1 e2
  refine ⟨WN1 (i+1) Ts ts,?_,λR' h' t' H'=>?_⟩
  ·rw [show i+((0:Nat):Int)=i by omega,← Wc7]
   exact H
  ·rw [show i+((0:Nat):Int)=i by omega,← Wc7] at H'
   exact H'
 | T0 :: Ts,t0 :: ts,i,k+1,R,T,t,e1,e2,H=>by
  simp only [List.getElem?_cons_succ] at e1 e2
  have H:Sat h ((Wi5 T0 none t0 i*WN1 (i+1) Ts ts)*R):=H
  rw [Wc7,Wb4] at H
  obtain ⟨Q,H1,re⟩:=WX5 T t e1 e2 H
  have ei:i+1+(k:Int)=i+((k+1:Nat):Int):=by omega
  rw [ei] at H1 re
  refine ⟨Q*Wi5 T0 none t0 i,by rw [Wc7];exact H1,λR' h' t' H'=>?_⟩
  rw [Wc7] at H'
  have H2:=re _ _ _ H'
  show Sat h' ((Wi5 T0 none t0 i*WN1 (i+1) Ts (ts.set k t'))*R')
  rw [Wc7,Wb4]
  exact H2
def Wu3 (M:Nat) (Ts:List Nat) (m:Mac):Hp:=ex λa=>ex λc=>pr (Ts.length=m.th.length∧m.th.length≤6) (Wg3 M (.slice a m.th.length c) m*(We4 104 1 a m.th.length c (Ts.map mP)*WN1 0 Ts m.th))
theorem Wf7 {h:Wa1} {M:Nat} {Ts:List Nat} {m:Mac} {R:Hp}:Sat h (Wu3 M Ts m*R)↔∃a c,(Ts.length=m.th.length∧m.th.length≤6)∧Sat h (Wg3 M (.slice a m.th.length c) m*(We4 104 1 a m.th.length c (Ts.map mP)*(WN1 0 Ts m.th*R))):=by
 unfold Wu3
 simp only [Sat.ex,Sat.pr,Wc7]
theorem Wq6 {h:Wa1} {M:Nat} {Ts:List Nat} {m:Mac} {R:Hp} {k:Nat} {T:Nat} {t:Thr} (H:Sat h (Wu3 M Ts m*R)) (e1:Ts[k]? = some T) (e2:m.th[k]? = some t) :
  ∃tv,∃Q:Hp,Sat h (RunS M T tv none ⟨m,t,k⟩ (Q*R))∧∀h' (x:Run) R',x.id=(k:Int)→Sat h' (RunS M T tv none x (Q*R'))→Sat h' (Wu3 M Ts (x.m.setTh (m.th.set k x.t))*R'):=by
 obtain ⟨a,c,⟨hl,h6⟩,H1⟩:=Wf7.1 H
 have H2:Sat h (WN1 0 Ts m.th*(Wg3 M (.slice a m.th.length c) m*(We4 104 1 a m.th.length c (Ts.map mP)*R))):=Sat.ac H1 (by ac_rfl)
 obtain ⟨Q,H3,re⟩:=WX5 T t e1 e2 H2
 rw [Int.zero_add] at H3 re
 refine ⟨.slice a m.th.length c,Q*We4 104 1 a m.th.length c (Ts.map mP),?_,λh' x R' ei H'=>?_⟩
 ·unfold RunS
  exact Sat.ac H3 (by ac_rfl)
 ·unfold RunS at H'
  rw [ei] at H'
  have H4:Sat h' (Wi5 T none x.t k*(Q*(Wg3 M (.slice a m.th.length c) x.m*(We4 104 1 a m.th.length c (Ts.map mP)*R')))):=Sat.ac H' (by ac_rfl)
  have H5:=re _ _ _ H4
  refine Wf7.2 ⟨a,c,⟨by simp [Mod.Mac.setTh,hl],by simp [Mod.Mac.setTh,h6]⟩,?_⟩
  show Sat h' (Wg3 M (.slice a (m.th.set k x.t).length c) x.m*(We4 104 1 a (m.th.set k x.t).length c (Ts.map mP)*(WN1 0 Ts (m.th.set k x.t)*R')))
  rw [List.length_set]
  exact Sat.ac H5 (by ac_rfl)
section
variable {K:Value→Wa1→Prop} {h:Wa1} {M T b o N:Nat} {tv:Value} {fo:Option (Nat × Nat)} {x:Run} {R:Hp} {m:Mac} {Ts:List Nat}
theorem WI1 (H:Sat h (Wu3 M Ts m*R)) {i:Int} (k0:(i < 0∨m.th.length≤i)→K (.pointer none) h) (k:∀T,0≤i→Ts[i.toNat]? = some T→K (mP T) h) :
  Wa5 Tryz.prog 91 #[mP M,.int .i64 i] h K:=by
 refine call91 ?_
 unfold F91 bd lS lP nP
 obtain ⟨a,c,⟨hl,h6⟩,H1⟩:=Wf7.1 H
 obtain ⟨q,gq,fq,P,H2⟩:=Wd7.1 H1
 have O:=H2.at
 have S:=(H1.drop).own.sees
 try simp only [Wa7,bsx,Nat.reduceAdd,Int.reduceLE,Int.reduceLT,Int.reduceToNat]
 refine ⟨λvs h'=>(∃w,vs = [w,.bool (decide (i < 0∨m.th.length≤i))])∧h' = h,?_,?_⟩
 ·refine Wa6 (λc1=>?_) (λc1=>?_)
  ·rw [decide_eq_true (p:=i < 0∨m.th.length≤i) (.inl c1)]
   exact ⟨⟨_,rfl⟩,rfl⟩
  ·refine H2.ld rfl ?_
   try simp only [Wa7,bsx,Nat.reduceAdd,Int.reduceLE,Int.reduceLT,Int.reduceToNat]
   rw [show decide (i ≥ (m.th.length:Int))=decide (i < 0∨m.th.length≤i) by rw [decide_eq_decide];omega]
   first | exact ⟨⟨.bool (decide (i < 0)),rfl⟩,by trivial⟩ | exact ⟨.bool (decide (i < 0)),rfl⟩
 rintro v6 v7 g8 h9 ⟨⟨w,e⟩,rfl⟩
 cases e
 try simp only [Wa7,bsx,Nat.reduceAdd,Int.reduceLE,Int.reduceLT,Int.reduceToNat]
 refine Wa6 (λc1=>k0 c1) (λc1=>?_)
 refine H2.ld rfl ?_
 try simp only [Wa7,bsx,Nat.reduceAdd,Int.reduceLE,Int.reduceLT,Int.reduceToNat]
 have hlt:i.toNat < Ts.length:=by omega
 obtain ⟨T,hT⟩ : ∃T,Ts[i.toNat]? = some T:=⟨_,List.getElem?_eq_getElem hlt⟩
 obtain ⟨ad,ea,hc⟩:=S i.toNat (mP T) (by rw [List.getElem?_map,hT];rfl)
 subst ea
 refine ⟨by omega,by omega,?_⟩
 try simp only [Wa7,bsx,Nat.reduceAdd,Int.reduceLE,Int.reduceLT,Int.reduceToNat]
 unfold ldH
 rw [hc]
 try simp only [Wa7,bsx,Nat.reduceAdd,Int.reduceLE,Int.reduceLT,Int.reduceToNat]
 exact k T (by omega) hT
theorem YP7 (P:Nat→Prop) (h:∃n,P n):∃n,P n∧∀m,P m→n≤m:=by
 obtain ⟨n,hn⟩:=h
 induction n using Nat.strongRecOn with
 | _ n ih=>
  by_cases c:∃m,m < n∧P m
  ·obtain ⟨m,hm,hp⟩:=c
   exact ih m hm hp
  ·exact ⟨n,hn,λm hm=>Nat.le_of_not_lt λhh=>c ⟨m,hh,hm⟩⟩
open Classical in
noncomputable def Wu4 (P:Nat→Prop):Nat:=if h:∃n,P n then (YP7 P h).choose else 0
theorem Ws3 {P:Nat→Prop} (h:∃n,P n):P (Wu4 P)∧∀m,P m→Wu4 P≤m:=by
 unfold Wu4
 rw [dif_pos h]
 exact (YP7 P h).choose_spec
def done (x:Run):Bool:=x.m.acted || x.t.fr.isEmpty
def YM4 (d:Run→Run) (W:Run→Prop):Nat→Run→Prop
 | 0,_=>True
 | n+1,x=>done x=true∨(W x∧YM4 d W n (d x))
def DoC (f:Nat) (d:Run→Run) (W:Run→Prop):Prop:=∀(h:Wa1) (M T:Nat) (tv:Value) (x:Run) (R:Hp) (K:Value→Wa1→Prop),Sat h (RunS M T tv none x R)→W x→(∀h',Sat h' (RunS M T tv none (d x) R)→K (.tuple #[]) h')→Wa5 Tryz.prog f #[mP M,mP T] h K
def Yz5 (d:Run→Run) (W:Run→Prop) (M T:Nat) (tv:Value) (R:Hp) (z:Run) (h:Wa1) (n:Nat):Prop:=∃y,Sat h (RunS M T tv none y R)∧Mod.bits d n y=some z∧YM4 d W n y
theorem WS0 {f:Nat} {d:Run→Run} {W:Run→Prop} (D:DoC f d W) (H:Sat h (Wu3 M Ts m*R)) {i:Int} {n:Nat} {z:Run} {t:Thr} (h0:0≤i) (ht:m.th[i.toNat]? = some t)
  (hz:Mod.bits d n ⟨m.quiet,t,i⟩=some z) (hs:YM4 d W n ⟨m.quiet,t,i⟩) (hid:z.id=i)
  (k:∀h',Sat h' (Wu3 M Ts (z.m.setTh (m.th.set i.toNat z.t))*R)→K (.bool (!z.t.fr.isEmpty)) h') :
  Wa5 Tryz.prog 93 #[mP M,.int .i64 i,.func (.func f) #[] #[]] h K:=by
 refine call93 ?_
 unfold F93 cf lS nP
 have hlt:i.toNat < m.th.length:=(List.getElem?_eq_some_iff.1 ht).1
 refine Wa0 (WI1 H (λc=>by omega) λT _ hT=>?_)
 try simp only [Wa7,bsx,Nat.reduceAdd,Int.reduceLE,Int.reduceLT,Int.reduceToNat]
 unfold Wh5
 dsimp only
 refine ⟨λvs h'=>vs = [.bool false]∧h' = h,⟨rfl,rfl⟩,?_⟩
 rintro v5 g6 h7 ⟨e,rfl⟩
 cases e
 try simp only [Wa7,bsx,Nat.reduceAdd,Int.reduceLE,Int.reduceLT,Int.reduceToNat]
 obtain ⟨tv,Q,H1,re⟩:=Wq6 H hT ht
 have ei:((i.toNat:Nat):Int)=i:=by omega
 rw [ei] at H1 re
 obtain ⟨q,gq,fq,P,H2⟩:=Wd7.1 H1
 refine H2.st (i:=19) rfl trivial λh8 H3=>?_
 have H4:Sat h8 (RunS M T tv none ⟨m.quiet,t,i⟩ (Q*R)):=Wd7.2 ⟨q,gq,fq,P,H3⟩
 have acc:∀ {h:Wa1} {y:Run},Sat h (RunS M T tv none y (Q*R))→(∀F:Value→Prop,ldH h ⟨M,19,none⟩ F=F (.bool y.m.acted))∧∃a c,∀F:Value→Prop,ldH h ⟨T,1,none⟩ F=F (.slice a y.t.fr.length c):=by
  intro h y Y
  obtain ⟨q,gq,fq,P,Y1⟩:=Wd7.1 Y
  obtain ⟨B,O⟩:=WR0 (RunS.thr Y)
  refine ⟨λF=>?_,B.fr,B.frn,λF=>?_⟩
  ·unfold ldH;rw [Wb8 Y1.at];rfl
  ·unfold ldH;rw [Wb8 O];rfl
 refine ⟨λ_ h=>∃n,Yz5 d W M T tv (Q*R) z h n,λ_ h=>Wu4 (Yz5 d W M T tv (Q*R) z h),⟨n,_,H4,hz,hs⟩,?_⟩
 intro g13 h14 HI
 obtain ⟨⟨y,Y,hb,hS⟩,hmin⟩:=Ws3 HI
 obtain ⟨n0,hn⟩ : ∃n0,Wu4 (Yz5 d W M T tv (Q*R) z h14)=n0:=⟨_,rfl⟩
 rw [hn] at hb hS
 obtain ⟨ac,af,an,al⟩:=acc Y
 refine ⟨λvs h'=>vs = [.bool (!Proofs.YtooaemmlgkdfoaaGreat.done y)]∧h' = h14,?_,?_⟩
 ·rw [ac]
  try simp only [Wa7,bsx,Nat.reduceAdd,Int.reduceLE,Int.reduceLT,Int.reduceToNat]
  refine Wc3 (λc=>?_) (λc=>?_)
  ·have c':y.m.acted=false:=by simpa using c
   rw [al]
   have e2:decide ((y.t.fr.length:Int) > 0) = !Proofs.YtooaemmlgkdfoaaGreat.done y:=by
    unfold Proofs.YtooaemmlgkdfoaaGreat.done
    rw [c']
    cases y.t.fr <;> simp
   try simp only [Wb3,e2,and_self,and_true]
  ·have c':y.m.acted=true:=by simpa using c
   have e2:false = !Proofs.YtooaemmlgkdfoaaGreat.done y:=by
    unfold Proofs.YtooaemmlgkdfoaaGreat.done
    rw [c']
    rfl
   rw [← e2]
   try trivial
 rintro v24 g25 h26 ⟨e,rfl⟩
 cases e
 try simp only [Wa7,bsx,Nat.reduceAdd,Int.reduceLE,Int.reduceLT,Int.reduceToNat]
 refine Wc3 (λc=>?_) (λc=>?_)
 ·have c':Proofs.YtooaemmlgkdfoaaGreat.done y=false:=by simpa using c
  cases n0 with
  | zero=>
   unfold Mod.bits at hb
   unfold Proofs.YtooaemmlgkdfoaaGreat.done at c'
   rw [c'] at hb
   cases hb
  | succ n'=>
   rcases hS with hS | ⟨hW,hS⟩
   ·rw [hS] at c';cases c'
   ·have hb':Mod.bits d n' (d y)=some z:=by
     unfold Mod.bits at hb
     unfold Proofs.YtooaemmlgkdfoaaGreat.done at c'
     rw [c'] at hb
     exact hb
    refine Wa0 (D _ _ _ _ _ _ _ Y hW λh29 H29=>⟨⟨n',_,H29,hb',hS⟩,?_⟩)
    have hP:Yz5 d W M T tv (Q*R) z h29 n':=⟨_,H29,hb',hS⟩
    have hl:=(Ws3 ⟨n',hP⟩).2 n' hP
    show Wu4 _ < Wu4 _
    rw [hn]
    omega
 ·have c':Proofs.YtooaemmlgkdfoaaGreat.done y=true:=by simpa using c
  have ez:y=z:=by
   unfold Proofs.YtooaemmlgkdfoaaGreat.done at c'
   cases n0 <;> unfold Mod.bits at hb <;> rw [c'] at hb <;> exact Option.some.inj hb
  subst ez
  rw [al]
  try simp only [Wa7,bsx,Nat.reduceAdd,Int.reduceLE,Int.reduceLT,Int.reduceToNat]
  have e2:decide ((y.t.fr.length:Int) > 0) = !y.t.fr.isEmpty:=by
   cases y.t.fr <;> simp
  rw [e2]
  exact k h26 (re _ y R hid Y)
end
end
section
open Mod
def YP8 (c:Mod.Cf):Proofs.YtooaemmlgkdfoaaGreat.Cf:=⟨c.algo,c.threads,c.nodes,c.level,c.batch,c.probes,c.scan⟩
theorem Wv7 (c:Mod.Cf):(YP8 c).Right↔okC c=true:=by
 unfold okC
 rw [decide_eq_true_iff]
 constructor
 ·rintro ⟨a1,a2,a3,a4,a5,a6,a7,a8⟩
  exact ⟨a1.1,a1.2,a2.1,a2.2,a3.1,a3.2,a4.1,a4.2,a5.1,a5.2,a6.1,a6.2,a7.1,a7.2,a8⟩
 ·rintro ⟨b1,b2,b3,b4,b5,b6,b7,b8,b9,b10,b11,b12,b13,b14,b15⟩
  exact ⟨⟨b1,b2⟩,⟨b3,b4⟩,⟨b5,b6⟩,⟨b7,b8⟩,⟨b9,b10⟩,⟨b11,b12⟩,⟨b13,b14⟩,b15⟩
theorem Yq1 (c:Mod.Cf):Value.agg (YP8 c).plan=plV (Wc1 c):=by
 unfold plV Wc1 Proofs.YtooaemmlgkdfoaaGreat.Cf.plan Cf.size Cf.tree Cf.nodes Cf.links Cf.slots Cf.width Cf.sent YP8
 simp only [beq_iff_eq]
theorem WX6 {K:Value→Wa1→Prop} {h:Wa1} (c:Mod.Cf) (k1:okC c=true→∀h',Old h.size h h'→K (.tuple #[plV (Wc1 c),.int .i64 0]) h') (k0:okC c=false→∀h',Old h.size h h'→K (.tuple #[.agg Wj7,.int .i64 6]) h') :
  Wa5 Tryz.prog 42 #[cfV c] h K:=by
 refine Yx9 (YP8 c) (λhr h' o=>?_) (λhr h' o=>k0 ?_ h' o)
 ·rw [Yq1];exact k1 ((Wv7 c).1 hr) h' o
 ·rw [← Bool.not_eq_true];exact λhh=>hr ((Wv7 c).2 hh)
theorem Wp5 {c:Mod.Cf} (h:okC c=true):PlB (Wc1 c):=by
 unfold okC at h
 rw [decide_eq_true_iff] at h
 obtain ⟨b1,b2,b3,b4,b5,b6,b7,b8,b9,b10,b11,b12,b13,b14,b15⟩:=h
 have h1:c.threads*(if c.algo == 0 then 2 else 2*c.level+2)≤6*14:=by
  split
  ·omega
  ·exact Int.mul_le_mul (by omega) (by omega) (by omega) (by omega)
 have h1':0≤c.threads*(if c.algo == 0 then 2 else 2*c.level+2):=Int.mul_nonneg (by omega) (by split <;> omega)
 have h2:c.nodes*(if c.algo == 0 then 3 else 5+c.level)≤64*11:=by
  split
  ·omega
  ·exact Int.mul_le_mul (by omega) (by omega) (by omega) (by omega)
 have h2':0≤c.nodes*(if c.algo == 0 then 3 else 5+c.level):=Int.mul_nonneg (by omega) (by split <;> omega)
 have h3:(2:Int) ^ c.level.toNat≤64:=by
  obtain ⟨n,hn⟩ : ∃n,c.level.toNat=n:=⟨_,rfl⟩
  rw [hn]
  have hn6:n≤6:=by omega
  match n,hn6 with
  | 0,_=>decide
  | 1,_=>decide
  | 2,_=>decide
  | 3,_=>decide
  | 4,_=>decide
  | 5,_=>decide
  | 6,_=>decide
 have h3':0≤(2:Int) ^ c.level.toNat:=Int.pow_nonneg (by omega)
 unfold Wc1
 dsimp only
 generalize c.threads*(if c.algo == 0 then 2 else 2*c.level+2)=A at *
 generalize c.nodes*(if c.algo == 0 then 3 else 5+c.level)=B at *
 generalize (2:Int) ^ c.level.toNat=D at *
 constructor <;> dsimp only <;> first | omega | (split <;> omega)
theorem Yq2 {D E:Nat→Prop} {F G:Wa1→Prop} (σ:WS8) (h:(lift D F*lift E G) σ):lift (λb=>D b∨E b) (λh=>F h∧G h) σ:=by
 obtain ⟨s,t,d,rfl,⟨a1,a2⟩,b1,b2⟩:=h
 refine ⟨λb=>?_,λh S=>⟨a2 h S.left,b2 h (S.right d)⟩⟩
 have:=Wp1 (σ:=s) (τ:=t) (b:=b)
 show D b∨E b↔uni s t b≠none
 rw [a1,b1,ne_eq,ne_eq,ne_eq,this]
 by_cases e1:s b=none <;> by_cases e2:t b=none <;> simp [e1,e2]
theorem Yq3 {b:Nat} {o:Obj} (σ:WS8) (h:pt b o σ):lift (λc=>c=b) (λh=>h[b]? = some o) σ:=by
 refine ⟨λc=>?_,λh' S=>S.at b o (by rw [h b,if_pos rfl])⟩
 rw [h c]
 by_cases e:c=b <;> simp [e]
theorem W39:byt Tryz.prog 70=8:=by kernel_rfl
theorem Yg0:Wm9 Tryz.prog 70 = [.int .u64 0]:=by kernel_rfl
theorem Yz6:Wm9 Tryz.prog 3 = [.int .i64 0]:=by kernel_rfl
theorem YV5:byt Tryz.prog 3=8:=by kernel_rfl
theorem WS1 {v:Value} (n:Nat):(List.replicate n [v]).flatten=List.replicate n v:=by rw [List.flatten_replicate_singleton]
theorem Ws4 {K:Value→Wa1→Prop} {h:Wa1} {n:Int} (hn:0≤n∧n≤4096) (k:K (.slice (some ⟨h.size,0,none⟩) n.toNat n.toNat) (h.push (.cells (uvs (List.replicate n.toNat 0)).toArray 70))):Wm4 Tryz.prog 70 n n h K:=by
 unfold Wm4
 refine ⟨by omega,by omega,by omega,by rw [W39];omega,?_⟩
 rw [Yg0,WS1]
 have e:uvs (List.replicate n.toNat 0)=List.replicate n.toNat (.int .u64 0):=by unfold uvs;rw [List.map_replicate]
 rw [e] at k
 exact k
theorem YP9 {K:Value→Wa1→Prop} {h:Wa1} {n:Int} (hn:0≤n∧n≤4096) (k:K (.slice (some ⟨h.size,0,none⟩) n.toNat n.toNat) (h.push (.cells ((List.replicate n.toNat (0:Int)).map iv).toArray 3))):Wm4 Tryz.prog 3 n n h K:=by
 unfold Wm4
 refine ⟨by omega,by omega,by omega,by rw [YV5];omega,?_⟩
 rw [Yz6,WS1]
 rw [List.map_replicate] at k
 exact k
theorem W40 {K:Value→Wa1→Prop} {h:Wa1} {R:Hp} {n:Int} (H:Sat h R) (hn:1≤n∧n≤4096) (k:∀h' q,Sat h' (Wn8 q ⟨List.replicate n.toNat 0,0,false,[]⟩*R)→K (.tuple #[mP q,.int .i64 0]) h') :
  Wa5 Tryz.prog 43 #[.int .i64 n] h K:=by
 refine call43 ?_
 unfold F43
 refine ⟨λvs h'=>vs = [.bool false]∧h' = h,?_,?_⟩
 ·refine Wa6 (λc=>by omega) (λc=>?_)
  rw [decide_eq_false (by omega)]
  exact ⟨rfl,rfl⟩
 rintro v1 g2 h3 ⟨e,rfl⟩
 cases e
 try simp only [Wa7,bsx,Nat.reduceAdd,Int.reduceLE,Int.reduceLT,Int.reduceToNat]
 refine Ws4 (by omega) ?_
 try simp only [Wa7,bsx,Nat.reduceAdd,Int.reduceLE,Int.reduceLT,Int.reduceToNat]
 have H1:=H.push (.cells (uvs (List.replicate n.toNat 0)).toArray 70)
 generalize h3.push (.cells (uvs (List.replicate n.toNat 0)).toArray 70)=h4 at *
 have H2:=H1.push (.cells #[.slice (some ⟨h3.size,0,none⟩) n.toNat n.toNat,.int .i64 0,.bool false,.slice none 0 0] 161)
 have H3:=H2.own_new 256 4
 refine k _ h4.size (Wn9.2 ⟨h3.size,none,0,⟨by simp;omega,by simp,by simp,λv hv=>by rw [List.eq_of_mem_replicate hv];exact U0⟩,?_⟩)
 have e:(YE4 h3.size none 0 ⟨List.replicate n.toNat 0,0,false,[]⟩).toArray=#[.slice (some ⟨h3.size,0,none⟩) n.toNat n.toNat,.int .i64 0,.bool false,.slice none 0 0]:=by
  simp [YE4]
 rw [e]
 exact Sat.ac H3 (by
  show We4 256 4 none 0 0 []*_=_*(_*(We4 256 4 none 0 0 []*_))
  ac_rfl)
theorem YQ0 {K:Value→Wa1→Prop} {h:Wa1} {B:Nat} {v lim:Int} (O:h[B]? = some (.cells #[.int .u64 v] 70)) (k:K (.bool (decide (v < lim))) h) :
  Wa5 Tryz.prog 242 #[.int .u64 lim,.slice (some ⟨B,0,none⟩) 1 1] h K:=by
 refine call242 ?_
 unfold F242 bd lI
 refine ⟨λvs h'=>∃w n,vs = [.bool false,w,.int .i64 n]∧h' = h∧(n=0∨n=1∧v < lim),λvs _=>match vs with | [_,_,.int _ n]=>(1 - n).toNat | _=>0,⟨_,0,rfl,rfl,.inl rfl⟩,?_⟩
 rintro v2 v3 v4 g5 h6 ⟨w,n,e,rfl,hn⟩
 cases e
 try simp only [Wa7,bsx,Nat.reduceAdd,Int.reduceLE,Int.reduceLT,Int.reduceToNat]
 refine Wa6 (λc=>?_) (λc=>?_)
 ·have hn0:n=0:=by omega
  subst hn0
  try simp only [Wa7,bsx,Nat.reduceAdd,Int.reduceLE,Int.reduceLT,Int.reduceToNat]
  refine ⟨by decide,?_⟩
  refine ldR O rfl ?_
  try simp only [Wa7,bsx,Nat.reduceAdd,Int.reduceLE,Int.reduceLT,Int.reduceToNat]
  refine Wa6 (λc2=>?_) (λc2=>?_)
  ·rw [decide_eq_false (by omega)] at k;exact k
  ·exact ⟨⟨_,1,rfl,.inr ⟨rfl,by omega⟩⟩,by decide⟩
 ·rw [decide_eq_true (by omega)] at k;exact k
theorem Yg1 {K:Value→Wa1→Prop} {h:Wa1} {R:Hp} {n ver:Int} {mk:Bool} (H:Sat h R) (hn:0≤n∧n < 65536) (hv:0≤ver∧ver < 140737488355328) (k:∀h',Sat h' R→K (.tuple #[.int .u64 (Wm6 n mk ver),.int .i64 0]) h') :
  Wa5 Tryz.prog 156 #[.int .i64 n,.bool mk,.int .u64 ver] h K:=by
 refine call156 ?_
 unfold F156 cf
 have e1:IntKind.wrap .u64 n=n:=U.wrap ⟨by omega,by omega⟩
 simp only [e1]
 refine ⟨λvs h'=>(∃w,vs = [w,.bool false])∧Sat h' R,?_,?_⟩
 ·refine Wa6 (λc=>by omega) (λc=>?_)
  have H1:=H.push (.cells #[.int .u64 n] 70)
  generalize h.push (.cells #[.int .u64 n] 70)=h1 at *
  refine Wa0 (YQ0 H1.at ?_)
  rw [decide_eq_true (by omega)]
  try simp only [Wa7,bsx,Nat.reduceAdd,Int.reduceLE,Int.reduceLT,Int.reduceToNat]
  have H2:=H1.push (.cells #[.int .u64 ver] 70)
  generalize h1.push (.cells #[.int .u64 ver] 70)=h2 at *
  refine Wa0 (YQ0 H2.at ?_)
  rw [decide_eq_true (by omega)]
  try simp only [Wa7,bsx,Nat.reduceAdd,Int.reduceLE,Int.reduceLT,Int.reduceToNat]
  exact ⟨⟨_,rfl⟩,H2.drop.drop⟩
 rintro v7 v8 g9 h10 ⟨⟨w,e⟩,H1⟩
 cases e
 try simp only [Wa7,bsx,Nat.reduceAdd,Int.reduceLE,Int.reduceLT,Int.reduceToNat]
 refine Wa0 (WM4 hn hv ?_)
 try simp only [Wa7,bsx,Nat.reduceAdd,Int.reduceLE,Int.reduceLT,Int.reduceToNat]
 exact k _ H1
theorem WX7 {K:Value→Wa1→Prop} {h:Wa1} {R:Hp} {n:Int} (H:Sat h R) (hn:0≤n∧n < 65536) (k:∀h',Sat h' R→K (.int .u64 (Wm6 n false 0)) h') :
  Wa5 Tryz.prog 97 #[.int .i64 n] h K:=by
 refine call97 ?_
 unfold F97 cf
 refine Wa0 (Yg1 H hn (by omega) λh1 H1=>?_)
 try simp only [Wa7,bsx,Nat.reduceAdd,Int.reduceLE,Int.reduceLT,Int.reduceToNat]
 refine Wb5 rfl ?_
 try simp only [Wa7,bsx,Nat.reduceAdd,Int.reduceLE,Int.reduceLT,Int.reduceToNat]
 refine Wb5 rfl ?_
 try simp only [Wa7,bsx,Nat.reduceAdd,Int.reduceLE,Int.reduceLT,Int.reduceToNat]
 exact k _ H1
theorem WN2 {K:Value→Wa1→Prop} {h:Wa1} {q:Nat} {m:Mm} {R:Hp} {a v:Int} (H:Sat h (Wn8 q m*R)) (hv:U v) (hs:m.st < 1099511627776)
  (k:∀h' e,Sat h' (Wn8 q (m.store a v)*R)→K (.int .i64 e) h') :
  Wa5 Tryz.prog 96 #[mP q,.int .i64 a,.int .u64 v] h K:=by
 refine WG9 H hv hs (λc h' H'=>k h' 0 ?_) (λc h' H'=>k h' 2 ?_)
 ·unfold Mm.store;rw [if_pos c];exact H'
 ·unfold Mm.store;rw [if_neg (by rw [c];simp)];exact H'
theorem Wz3 (m:Mm) (a v:Int):(m.store a v).st≤m.st+1:=by
 unfold Mm.store Mm.put Mm.tick
 split
 ·exact Int.le_refl _
 ·omega
end
section
open Mod
def Wx1 (n i:Int):List Int:=(List.range n.toNat).map λ(k:Nat)=>if (k:Int) < i then 1 else 0
theorem Yq4 {n i:Int} (h0:0≤i):(Wx1 n i).set i.toNat 1=Wx1 n (i+1):=by
 apply List.ext_getElem
 ·simp [Wx1]
 ·intro k h1 h2
  rw [List.getElem_set]
  simp only [Wx1,List.getElem_map,List.getElem_range]
  split
  ·rename_i e;rw [if_pos (by omega)]
  ·rename_i e
   by_cases c:(k:Int) < i
   ·rw [if_pos c,if_pos (by omega)]
   ·rw [if_neg c,if_neg (by omega)]
theorem Yg2 (n:Int):Wx1 n 0=List.replicate n.toNat 0:=by
 apply List.ext_getElem
 ·simp [Wx1]
 ·intro k h1 h2
  simp only [Wx1,List.getElem_map,List.getElem_range,List.getElem_replicate]
  rw [if_neg (by omega)]
theorem WS2 {K:Value→Wa1→Prop} {h:Wa1} {R:Hp} {n live:Int} (H:Sat h R) (hn:1≤n∧n≤64) (hl:0≤live∧live≤n) (k:∀h' q,Sat h' (ghS (some (Yy5 n live)) q*R)→K (mP q) h') :
  Wa5 Tryz.prog 47 #[.int .i64 n,.int .i64 live] h K:=by
 refine call47 ?_
 unfold F47 bd lS
 refine ⟨λvs h'=>vs = [.int .i64 n]∧h' = h,?_,?_⟩
 ·refine ⟨λvs h'=>vs = [.bool false]∧h' = h,?_,?_⟩
  ·refine Wa6 (λc=>by omega) (λc=>?_)
   rw [decide_eq_false (by omega)]
   exact ⟨rfl,rfl⟩
  rintro v1 g2 h3 ⟨e,rfl⟩
  cases e
  try simp only [Wa7,bsx,Nat.reduceAdd,Int.reduceLE,Int.reduceLT,Int.reduceToNat]
  try exact ⟨rfl,rfl⟩
 rintro v6 g7 h8 ⟨e,rfl⟩
 cases e
 try simp only [Wa7,bsx,Nat.reduceAdd,Int.reduceLE,Int.reduceLT,Int.reduceToNat]
 refine YP9 (by omega) ?_
 try simp only [Wa7,bsx,Nat.reduceAdd,Int.reduceLE,Int.reduceLT,Int.reduceToNat]
 rw [Wo1,Wo1]
 rw [show WT1 (WJ6 live 0) n=live by unfold WT1 WJ6;split <;> split <;> omega]
 have H1:=H.push (.cells ((List.replicate n.toNat (0:Int)).map iv).toArray 3)
 generalize h8.push (.cells ((List.replicate n.toNat (0:Int)).map iv).toArray 3)=h9 at *
 generalize h8.size=b at *
 have H2:=H1.push (.cells #[.slice (some ⟨b,0,none⟩) n.toNat n.toNat,.int .i64 0,.int .i64 0] 170)
 generalize h9.push (.cells #[.slice (some ⟨b,0,none⟩) n.toNat n.toNat,.int .i64 0,.int .i64 0] 170)=h10 at *
 generalize h9.size=q at *
 rw [← Yg2] at H2
 have hlen:∀i,(Wx1 n i).length=n.toNat:=λi=>by simp [Wx1]
 refine ⟨λvs h'=>∃(w:Value) (i:Int),vs = [w,.int .i64 i]∧0≤i∧i≤live∧Sat h' (pt q (.cells #[.slice (some ⟨b,0,none⟩) n.toNat n.toNat,.int .i64 0,.int .i64 0] 170)*(pt b (.cells ((Wx1 n i).map iv).toArray 3)*R)),λvs _=>match vs with | [_,.int _ i]=>(live - i).toNat | _=>0,⟨_,0,rfl,by omega,by omega,H2⟩,?_⟩
 rintro v24 v25 g26 h27 ⟨w,i,e,i0,i1,H3⟩
 cases e
 try simp only [Wa7,bsx,Nat.reduceAdd,Int.reduceLE,Int.reduceLT,Int.reduceToNat]
 refine Wa6 (λc=>?_) (λc=>?_)
 ·refine H3.ld rfl ?_
  try simp only [Wa7,bsx,Nat.reduceAdd,Int.reduceLE,Int.reduceLT,Int.reduceToNat]
  refine ⟨by omega,by omega,?_⟩
  rw [Wb4] at H3
  refine WW3 (row:=(Wx1 n i).map iv) H3 (by simp [hlen];omega) trivial λh28 H4=>?_
  have e1:((Wx1 n i).map iv).set i.toNat (.int .i64 1)=(Wx1 n (i+1)).map iv:=by
   rw [← Yq4 i0,List.map_set]
  rw [e1,Wb4] at H4
  rw [show s64 (i+1)=i+1 from by unfold s64;omega]
  exact ⟨⟨_,i+1,rfl,by omega,by omega,H4⟩,by omega⟩
 ·have ei:i=live:=by omega
  subst ei
  refine k _ q ?_
  have hg:Yy5 n i=⟨Wx1 n i,0,0⟩:=rfl
  rw [hg]
  show Sat h27 ((ex λb=>lift (wdS q b) λh=>GhF h q b ⟨Wx1 n i,0,0⟩)*R)
  refine Sat.ex.2 ⟨b,?_⟩
  rw [← Wc7] at H3
  refine H3.mono λσ hσ=>?_
  obtain ⟨s,t,d,rfl,p1,p2⟩:=hσ
  have J:=Yq2 _ ⟨s,t,d,rfl,Yq3 _ p1,Yq3 _ p2⟩
  refine ⟨J.1,λh S=>?_⟩
  obtain ⟨j1,j2⟩:=J.2 h S
  refine ⟨?_,j2,by simp [hlen];omega⟩
  rw [j1]
  simp [hlen]
theorem YQ1:und Tryz.prog 91=.slice 5:=by kernel_rfl
theorem Yz7:Wf2 Tryz.prog 5=true:=by kernel_rfl
theorem YQ2:zer Tryz.prog 5=some (.int .u8 0):=by kernel_rfl
theorem YF2:siz Tryz.prog 5=1:=by kernel_rfl
theorem YF3:byt Tryz.prog 5=1:=by kernel_rfl
theorem WX8 {K:Value→Wa1→Prop} {h:Wa1} {R:Hp} {a:Option Addr} {c:Nat} {bs:List Int} (H:Sat h R) (hs:Sees h a (bs.map λn=>.int .u8 n)) (hl:bs.length≤65536) (hr:∀n ∈ bs,0≤n∧n < 256) (k:∀h' q,Sat h' (fdS q bs 0*R)→K (mP q) h') :
  Wa5 Tryz.prog 46 #[.slice a bs.length c] h K:=by
 refine call46 ?_
 unfold F46
 have o1:Old h.size h (h.push (.cells #[] 5)):=(Old.refl _ _).push _ (Nat.le_refl _)
 have H1:=H.push (.cells #[] 5)
 have hs1:=hs.old o1
 have sz:(h.push (.cells #[] 5)).size=h.size+1:=by simp
 have ow:Own (h.push (.cells #[] 5)) 5 (siz Tryz.prog 5) (some ⟨h.size,0,none⟩) 0 0 []:=⟨by simp,Nat.le_refl _,.inr ⟨h.size,#[],rfl,H1.at,by simp,by simp⟩⟩
 generalize h.push (.cells #[] 5)=h1 at *
 refine Wy7 YQ1 Yz7 YQ2 (by rw [YF2];rfl) ow hs1 (by rw [YF2];simp) (λy hy=>?_) (by rw [YF3];omega) (by rw [YF3];omega) λa' c' h2 o' hsz old ha=>?_
 ·obtain ⟨n,_,rfl⟩:=List.mem_map.1 hy
  trivial
 rw [Nat.zero_add] at o' ⊢
 try simp only [Wa7,bsx,Nat.reduceAdd,Int.reduceLE,Int.reduceLT,Int.reduceToNat]
 have o2:Old h.size h h2:=⟨by omega,λb hb=>(old b (by omega) λad ea=>by cases ea;exact λe=>by simp at e;omega).trans (o1.2 b hb)⟩
 have fb:∀b,blk a' b→h.size≤b:=by
  rintro b ⟨ad,e,rfl⟩
  rcases ha with ha | ⟨ha,_⟩
  ·rw [e] at ha;cases ha;exact Nat.le_refl _
  ·rw [e] at ha;cases ha;show h.size≤h1.size;omega
 have o3:Old h.size h (h2.push (.cells #[.slice a' bs.length c',.int .i64 0] 166)):=o2.push _ o2.1
 have q1:(h2.push (.cells #[.slice a' bs.length c',.int .i64 0] 166))[h2.size]? = some (.cells #[.slice a' bs.length c',.int .i64 0] 166):=by simp
 have o4:=o'.keep (h':=h2.push (.cells #[.slice a' bs.length c',.int .i64 0] 166)) λad ea=>Wj2 _ _ _ (o'.lt ad ea)
 have nq:¬ blk a' h2.size:=λhb=>Nat.lt_irrefl _ (o'.lt2 hb)
 have sz3:(h2.push (.cells #[.slice a' bs.length c',.int .i64 0] 166)).size=h2.size+1:=by simp
 have lt2:∀b,blk a' b→b < h2.size:=λb hb=>o'.lt2 hb
 generalize h2.push (.cells #[.slice a' bs.length c',.int .i64 0] 166)=h3 at *
 have hsz2:=o2.1
 refine k h3 h2.size (Sat.ex.2 ⟨a',Sat.ex.2 ⟨c',H.mk_new o3 (λb hb=>?_) (λb o hb e=>?_) λh4 e=>?_⟩⟩)
 ·rcases hb with rfl | ⟨hb,_⟩
  ·exact ⟨hsz2,by omega⟩
  ·exact ⟨fb b hb,by have:=lt2 b hb;omega⟩
 ·rcases hb with rfl | ⟨hb,_⟩
  ·rw [q1] at e;cases e
   intro x hx;cases hx
  ·exact o4.nd b o hb e
 ·refine ⟨?_,?_,hr,by omega,nq⟩
  ·rw [e _ (.inl rfl),q1]
  ·by_cases c0:bs = []
   ·subst c0;exact Sees.nil _ _
   ·have o5:=o4.keep (h':=h4) λad ea=>e _ (.inr ⟨⟨ad,ea,rfl⟩,c0⟩)
    exact o5.sees
end
section
open Mod
def YM5 (p:Pl) (m0:Mm):Mm:=
 let c:=p.c
 let first:=p.sent+1
 let m1:=m0.store 0 (Wm6 first false 0)
 let m2:=(List.range (c.nodes - first).toNat).foldl (λ(m:Mm) (i:Nat)=>m.store (p.link (first+i)) (first+i+1)) m1
 let m3:=m2.store 2 1
 if c.algo=0 then m3 else
  let m4:=m3.store (p.node 1 3) c.level
  let m5:=m4.store (p.node 2 0) 18446744073709551615
  (List.range c.level.toNat).foldl (λ(m:Mm) (i:Nat)=>m.store (p.node 1 (5+i)) (Wm6 2 false 0)) m5
theorem Yz8 (p:Pl):lay p=YM5 p ⟨List.replicate p.size.toNat 0,0,false,[]⟩:=rfl
theorem Yq5 (a v:Nat→Int) (m:Mm) (n:Nat):((List.range n).foldl (λ(m:Mm) (i:Nat)=>m.store (a i) (v i)) m).st≤m.st+n:=by
 induction n with
 | zero=>simp
 | succ n ih=>
  rw [List.range_succ,List.foldl_append]
  simp only [List.foldl_cons,List.foldl_nil]
  have:=Wz3 ((List.range n).foldl (λ(m:Mm) (i:Nat)=>m.store (a i) (v i)) m) (a n) (v n)
  omega
theorem WX9 (a v:Nat→Int) (m:Mm) (n:Nat):((List.range n).foldl (λ(m:Mm) (i:Nat)=>m.store (a i) (v i)) m).store (a n) (v n)=(List.range (n+1)).foldl (λ(m:Mm) (i:Nat)=>m.store (a i) (v i)) m:=by
 rw [List.range_succ,List.foldl_append]
 rfl
theorem Ya3 {n:Int} (h:0≤n∧n < 65536):U (Wm6 n false 0):=Yn6 h (by omega)
theorem Yz9 {K:Value→Wa1→Prop} {h:Wa1} {R:Hp} {q:Nat} {m0:Mm} {p:Pl} (H:Sat h (Wn8 q m0*R)) (P:PlB p) (h0:m0.st=0) (hsn:p.sent < p.c.nodes) (k:∀h',Sat h' (Wn8 q (YM5 p m0)*R)→K (.tuple #[]) h') :
  Wa5 Tryz.prog 45 #[mP q,plV p] h K:=by
 refine call45 ?_
 unfold F45 g45 cf ce lI de7 Wz7
 have hse:=P.se
 have hno:=P.no
 have hlv:=P.lv
 rw [WK5]
 have H1:=H.push (.cells (plc p).toArray 62)
 generalize h.push (.cells (plc p).toArray 62)=h1 at *
 generalize h.size=Np at *
 refine W37 H1.at ?_
 refine Wa0 (Wh0 λh2 o2=>cf7 ?_)
 have H2:=H1.old o2
 have H3:=H2.push (.cells #[.int .i64 0,.int .i64 0,.int .i64 0,.int .i64 0,.int .i64 0,.int .i64 0,.int .i64 0] 23)
 generalize h2.push (.cells #[.int .i64 0,.int .i64 0,.int .i64 0,.int .i64 0,.int .i64 0,.int .i64 0,.int .i64 0] 23)=h3 at *
 generalize h2.size=Nc at *
 refine st7 (Wd6 (vs:=cfc p.c) H3.at rfl (by simp [cfc,Wi6]) λh5 w=>?_)
 have H5:=H3.wr w.new w.old
 clear H3 w
 refine W37 H5.at2 ?_
 refine Wa0 (WG6 λh6 o6=>?_)
 have H6:=H5.old o6
 try simp only [Wa7,bsx,Nat.reduceAdd,Int.reduceLE,Int.reduceLT,Int.reduceToNat]
 rw [show s64 (p.sent+1)=p.sent+1 from by unfold s64;omega]
 refine Wa0 (WX7 H6 (by omega) λh7 H7=>?_)
 try simp only [Wa7,bsx,Nat.reduceAdd,Int.reduceLE,Int.reduceLT,Int.reduceToNat]
 have H8:Sat h7 (Wn8 q m0*(pt Nc (.cells (cfc p.c).toArray 23)*(pt Np (.cells (plc p).toArray 62)*R))):=Sat.ac H7 (by ac_rfl)
 refine Wa0 (WN2 H8 (Ya3 (by omega)) (by omega) λh9 e9 H9=>?_)
 try simp only [Wa7,bsx,Nat.reduceAdd,Int.reduceLE,Int.reduceLT,Int.reduceToNat]
 have s1:=Wz3 m0 0 (Wm6 (p.sent+1) false 0)
 have hf:=Yq5 (λj=>p.link (p.sent+1+j)) (λj=>p.sent+1+j+1) (m0.store 0 (Wm6 (p.sent+1) false 0))
 refine ⟨λvs h'=>∃(j:Nat),vs = [.int .i64 (p.sent+1+j)]∧(j:Int)≤p.c.nodes - (p.sent+1)∧Sat h' (Wn8 q ((List.range j).foldl (λ(m:Mm) (i:Nat)=>m.store (p.link (p.sent+1+i)) (p.sent+1+i+1)) (m0.store 0 (Wm6 (p.sent+1) false 0)))*(pt Nc (.cells (cfc p.c).toArray 23)*(pt Np (.cells (plc p).toArray 62)*R))),λvs _=>match vs with | [.int _ i]=>(p.c.nodes - i).toNat | _=>0,⟨0,by simp,by omega,by simpa using H9⟩,?_⟩
 rintro v58 g59 h60 ⟨j,e,hj,HJ⟩
 cases e
 have C:=HJ.at2
 have PP:=HJ.at3
 try simp only [Wa7,bsx,Nat.reduceAdd,Int.reduceLE,Int.reduceLT,Int.reduceToNat]
 refine ldR C rfl ?_
 try simp only [Wa7,bsx,Nat.reduceAdd,Int.reduceLE,Int.reduceLT,Int.reduceToNat]
 refine Wa6 (λc=>?_) (λc=>?_)
 ·refine W37 PP ?_
  try simp only [Wa7,bsx,Nat.reduceAdd,Int.reduceLE,Int.reduceLT,Int.reduceToNat]
  refine Wa0 (Ww9 P ⟨by omega,by omega⟩ λh61 o61=>?_)
  have HK:=HJ.old o61
  try simp only [Wa7,bsx,Nat.reduceAdd,Int.reduceLE,Int.reduceLT,Int.reduceToNat]
  rw [show s64 (p.sent+1+(j:Int)+1)=p.sent+1+j+1 from by unfold s64;omega,show Mod.u64 (p.sent+1+(j:Int)+1)=p.sent+1+j+1 from by unfold Mod.u64;omega]
  refine Wa0 (WN2 HK ⟨by omega,by omega⟩ (by have:=hf j;omega) λh62 e62 HL=>?_)
  try simp only [Wa7,bsx,Nat.reduceAdd,Int.reduceLE,Int.reduceLT,Int.reduceToNat]
  rw [WX9 (λj=>p.link (p.sent+1+j)) (λj=>p.sent+1+j+1)] at HL
  refine ⟨⟨j+1,?_,by omega,HL⟩,?_⟩
  ·simp;omega
  ·simp;omega
 have ej:(p.c.nodes - (p.sent+1)).toNat=j:=by omega
 have k:∀h',Sat h' (Wn8 q (if p.c.algo=0 then ((List.range j).foldl (λ(m:Mm) (i:Nat)=>m.store (p.link (p.sent+1+i)) (p.sent+1+i+1)) (m0.store 0 (Wm6 (p.sent+1) false 0))).store 2 1 else
   (List.range p.c.level.toNat).foldl (λ(m:Mm) (i:Nat)=>m.store (p.node 1 (5+i)) (Wm6 2 false 0)) (((((List.range j).foldl (λ(m:Mm) (i:Nat)=>m.store (p.link (p.sent+1+i)) (p.sent+1+i+1)) (m0.store 0 (Wm6 (p.sent+1) false 0))).store 2 1).store (p.node 1 3) p.c.level).store (p.node 2 0) 18446744073709551615))*R)→K (.tuple #[]) h':=by
  unfold YM5 at k
  rw [← ej]
  exact k
 have hfj:=hf j
 generalize (List.range j).foldl (λ(m:Mm) (i:Nat)=>m.store (p.link (p.sent+1+i)) (p.sent+1+i+1)) (m0.store 0 (Wm6 (p.sent+1) false 0))=m2 at *
 refine Wa0 (WN2 HJ (U.lit rfl) (by omega) λh10 e10 H10=>?_)
 have s3:=Wz3 m2 2 1
 try simp only [Wa7,bsx,Nat.reduceAdd,Int.reduceLE,Int.reduceLT,Int.reduceToNat]
 refine ldR H10.at2 rfl ?_
 try simp only [Wa7,bsx,Nat.reduceAdd,Int.reduceLE,Int.reduceLT,Int.reduceToNat]
 refine Wa6 (λc2=>?_) (λc2=>?_)
 ·rw [if_pos c2] at k
  exact k h10 H10.drop2.drop2
 rw [if_neg c2] at k
 refine W37 H10.at3 ?_
 refine ldR H10.at2 rfl ?_
 try simp only [Wa7,bsx,Nat.reduceAdd,Int.reduceLE,Int.reduceLT,Int.reduceToNat]
 refine Wa0 (Wf8 P (by decide) (by decide) λh11 o11=>?_)
 have H11:=H10.old o11
 try simp only [Wa7,bsx,Nat.reduceAdd,Int.reduceLE,Int.reduceLT,Int.reduceToNat]
 refine ⟨Wd3 H11.at2 rfl,?_⟩
 rw [show Mod.u64 p.c.level=p.c.level from by unfold Mod.u64;omega]
 refine Wa0 (WN2 H11 ⟨by omega,by omega⟩ (by omega) λh12 e12 H12=>?_)
 have s4:=Wz3 (m2.store 2 1) (p.node 1 3) p.c.level
 try simp only [Wa7,bsx,Nat.reduceAdd,Int.reduceLE,Int.reduceLT,Int.reduceToNat]
 refine W37 H12.at3 ?_
 refine Wa0 (Wf8 P (by decide) (by decide) λh13 o13=>?_)
 have H13:=H12.old o13
 try simp only [Wa7,bsx,Nat.reduceAdd,Int.reduceLE,Int.reduceLT,Int.reduceToNat]
 refine Wa0 (WN2 H13 (U.lit rfl) (by omega) λh14 e14 H14=>?_)
 have s5:=Wz3 ((m2.store 2 1).store (p.node 1 3) p.c.level) (p.node 2 0) 18446744073709551615
 try simp only [Wa7,bsx,Nat.reduceAdd,Int.reduceLE,Int.reduceLT,Int.reduceToNat]
 refine ldR H14.at2 rfl ?_
 try simp only [Wa7,bsx,Nat.reduceAdd,Int.reduceLE,Int.reduceLT,Int.reduceToNat]
 generalize ((m2.store 2 1).store (p.node 1 3) p.c.level).store (p.node 2 0) 18446744073709551615=m5 at *
 have hm5:m5.st≤2000:=by omega
 clear s1 s3 s4 s5 hfj H9 H10 H11 H12 H13
 clear hf
 have hf:=Yq5 (λj=>p.node 1 (5+j)) (λj=>Wm6 2 false 0) m5
 refine ⟨λvs h'=>∃(w:Value) (j:Nat),vs = [w,.int .i64 j]∧(j:Int)≤p.c.level∧Sat h' (Wn8 q ((List.range j).foldl (λ(m:Mm) (i:Nat)=>m.store (p.node 1 (5+i)) (Wm6 2 false 0)) m5)*(pt Nc (.cells (cfc p.c).toArray 23)*(pt Np (.cells (plc p).toArray 62)*R))),λvs _=>match vs with | [_,.int _ i]=>(p.c.level - i).toNat | _=>0,⟨_,0,rfl,by omega,H14⟩,?_⟩
 rintro v141 v142 g143 h144 ⟨w,j2,e,hj2,HJ⟩
 cases e
 try simp only [Wa7,bsx,Nat.reduceAdd,Int.reduceLE,Int.reduceLT,Int.reduceToNat]
 refine Wa6 (λc3=>?_) (λc3=>?_)
 ·refine W37 HJ.at3 ?_
  rw [show s64 (5+(j2:Int))=5+j2 from by unfold s64;omega]
  refine Wa0 (Wf8 P (by decide) ⟨by omega,by omega⟩ λh61 o61=>?_)
  have HK:=HJ.old o61
  try simp only [Wa7,bsx,Nat.reduceAdd,Int.reduceLE,Int.reduceLT,Int.reduceToNat]
  refine Wa0 (WX7 HK (by omega) λh62 HL=>?_)
  try simp only [Wa7,bsx,Nat.reduceAdd,Int.reduceLE,Int.reduceLT,Int.reduceToNat]
  refine Wa0 (WN2 HL (Ya3 (by omega)) (by have:=hf j2;omega) λh63 e63 HM=>?_)
  try simp only [Wa7,bsx,Nat.reduceAdd,Int.reduceLE,Int.reduceLT,Int.reduceToNat]
  rw [WX9 (λj=>p.node 1 (5+j)) (λj=>Wm6 2 false 0)] at HM
  rw [show s64 ((j2:Int)+1)=((j2+1:Nat):Int) from by unfold s64;omega]
  refine ⟨⟨_,j2+1,rfl,by omega,HM⟩,?_⟩
  omega
 ·have ej2:p.c.level.toNat=j2:=by omega
  rw [ej2] at k
  exact k h144 HJ.drop2.drop2
end
section
open Mod
theorem Yq6 (Ts:List Nat) (ts:List Thr) (T:Nat) (t:Thr):∀(i:Int),Ts.length=ts.length→WN1 i (Ts ++ [T]) (ts ++ [t])=WN1 i Ts ts*Wi5 T none t (i+ts.length):=by
 induction Ts generalizing ts with
 | nil=>
  intro i e
  cases ts with
  | nil=>
   show Wi5 T none t i*emp=emp*Wi5 T none t (i+0)
   rw [Wu1,Int.add_zero]
  | cons _ _=>simp at e
 | cons T0 Ts ih=>
  intro i e
  cases ts with
  | nil=>simp at e
  | cons t0 ts=>
   have e':Ts.length=ts.length:=by simpa using e
   show Wi5 T0 none t0 i*WN1 (i+1) (Ts ++ [T]) (ts ++ [t])=(Wi5 T0 none t0 i*WN1 (i+1) Ts ts)*Wi5 T none t (i+((t0 :: ts).length:Nat))
   rw [ih ts (i+1) e',Wc7]
   congr 3
   simp only [List.length_cons]
   omega
theorem YJ9:und Tryz.prog 100=.slice 104:=by kernel_rfl
theorem Yq7:Wf2 Tryz.prog 104=true:=by kernel_rfl
theorem YK0:zer Tryz.prog 104=some (.pointer none):=by kernel_rfl
theorem WS3:siz Tryz.prog 104=1:=by kernel_rfl
theorem Yq8:byt Tryz.prog 104=8:=by kernel_rfl
theorem YK1 {h:Wa1} {R:Hp} {A B C:Nat} {c:Mod.Cf} (id:Int) (H:Sat h (pt A (.cells (uvs (List.replicate c.level.toNat 0)).toArray 70)*(pt B (.cells (uvs (List.replicate c.level.toNat 0)).toArray 70)*(pt C (.cells (uvs (List.replicate c.level.toNat 0)).toArray 70)*R)))) :
  Sat (h.push (.cells #[.int .i64 id,.slice none 0 0,.int .u64 0,.int .u64 0,.int .u64 0,.slice (some ⟨A,0,none⟩) c.level.toNat c.level.toNat,.slice (some ⟨B,0,none⟩) c.level.toNat c.level.toNat,.slice (some ⟨C,0,none⟩) c.level.toNat c.level.toNat,.slice none 0 0,.slice none 0 0] 110)) (Wi5 h.size none (WC3 c) id*R):=by
 have H1:=H.push (.cells #[.int .i64 id,.slice none 0 0,.int .u64 0,.int .u64 0,.int .u64 0,.slice (some ⟨A,0,none⟩) c.level.toNat c.level.toNat,.slice (some ⟨B,0,none⟩) c.level.toNat c.level.toNat,.slice (some ⟨C,0,none⟩) c.level.toNat c.level.toNat,.slice none 0 0,.slice none 0 0] 110)
 have H2:=((H1.own_new 203 12).own_new 3 1).own_new 3 1
 have z:∀v ∈ List.replicate c.level.toNat (0:Int),U v:=λv hv=>by rw [List.eq_of_mem_replicate hv];exact U0
 have hn:∀v ∈ ([]:List Int),iN v:=λv hv=>by cases hv
 refine Wd9.2 ⟨⟨none,0,A,B,C,none,0,none,0⟩,⟨⟨λf hf=>(by cases hf),⟨rfl,λv hv=>?_⟩,z,z,z,hn,hn,by simp [WC3]⟩,TopAt.none _ _⟩,?_⟩
 ·simp only [WC3,List.mem_cons,List.not_mem_nil,or_false] at hv
  rcases hv with rfl | rfl | rfl <;> exact U0
 have e:(WJ4 ⟨none,0,A,B,C,none,0,none,0⟩ (WC3 c) id).toArray=#[.int .i64 id,.slice none 0 0,.int .u64 0,.int .u64 0,.int .u64 0,.slice (some ⟨A,0,none⟩) c.level.toNat c.level.toNat,.slice (some ⟨B,0,none⟩) c.level.toNat c.level.toNat,.slice (some ⟨C,0,none⟩) c.level.toNat c.level.toNat,.slice none 0 0,.slice none 0 0]:=by
  simp [WJ4,WC3]
 rw [e]
 have H3:Sat _ (WG1 none 0 0 []*_):=H2.toF (xs:=[])
 refine Sat.ac H3 ?_
 show _=_*(We4 203 12 none 0 0 []*(_*(_*(_*(We4 3 1 none 0 0 []*(WG1 none 0 0 []*_))))))
 ac_rfl
theorem Wg4 {v0 v1:Value} {F:Value→Prop} (k:F v0):Wb7 #[v0,v1] 0 F:=k
theorem Wf4 {v0 v1:Value} {F:Value→Prop} (k:F v1):Wb7 #[v0,v1] 1 F:=k
def WN3 (c:Mod.Cf) (bs:List Int) (gh:Bool) (i:Nat):Mac:=(Wn1 c bs gh).setTh (List.replicate i (WC3 c))
theorem YF4 {h:Wa1} {a:Addr} {v:Value} (e:Wa2 h a=some v) (F:Value→Prop):ldH h a F=F v:=by unfold ldH;rw [e]
theorem z15 {F:Value→Value→Value→Value→Value→Value→Value→Value→Value→Value→Value→Value→Value→Value→Value→Prop} (k:F (.int .i64 0) (.int .i64 0) (.int .i64 0) (.int .i64 0) (.int .i64 0) (.int .i64 0) (.int .i64 0) (.int .i64 0) (.int .i64 0) (.int .i64 0) (.int .i64 0) (.int .i64 0) (.int .i64 0) (.int .i64 0) (.int .i64 0)) :
 asAgg (.agg Wj7) λvs=>We5 vs 15 (Wb7 vs 0 λv0=>Wb7 vs 1 λv1=>Wb7 vs 2 λv2=>Wb7 vs 3 λv3=>Wb7 vs 4 λv4=>Wb7 vs 5 λv5=>Wb7 vs 6 λv6=>Wb7 vs 7 λv7=>Wb7 vs 8 λv8=>Wb7 vs 9 λv9=>Wb7 vs 10 λv10=>Wb7 vs 11 λv11=>Wb7 vs 12 λv12=>Wb7 vs 13 λv13=>Wb7 vs 14 λv14=>F v0 v1 v2 v3 v4 v5 v6 v7 v8 v9 v10 v11 v12 v13 v14):=k
theorem Ya4 {h:Wa1} {X:Hp} {M q gq fq:Nat} {m:Mac} (P:PlB m.p) (e:m.th = []) (H:Sat h (pt M (.cells (W95 (.slice none 0 0) q gq fq m).toArray 102)*(ghS m.g gq*(fdS fq m.b m.used*(Wn8 q m.mm*X))))):Sat h (Wu3 M [] m*X):=by
 have H1:=H.own_new 104 1
 have H2:Sat h (Wg3 M (.slice none 0 0) m*(We4 104 1 none 0 0 []*X)):=Wd7.2 ⟨q,gq,fq,P,Sat.ac H1 (by ac_rfl)⟩
 refine Wf7.2 ⟨none,0,⟨by rw [e];rfl,by rw [e];simp⟩,?_⟩
 rw [e]
 show Sat h (Wg3 M (.slice none 0 0) m*(We4 104 1 none 0 0 []*(emp*X)))
 rw [Wr7]
 exact H2
theorem Yg3 {h:Wa1} {X:Hp} {M A B C:Nat} {Ts:List Nat} {c:Mod.Cf} {bs:List Int} {gh:Bool} {i:Nat} {a:Option Addr} {cc:Nat} {K:Wa1→Prop} (hi:i < 6) (hT:Ts.length=i)
  (H:Sat h (pt A (.cells (uvs (List.replicate c.level.toNat 0)).toArray 70)*(pt B (.cells (uvs (List.replicate c.level.toNat 0)).toArray 70)*(pt C (.cells (uvs (List.replicate c.level.toNat 0)).toArray 70)*(Wg3 M (.slice a i cc) (WN3 c bs gh i)*(We4 104 1 a i cc (Ts.map mP)*(WN1 0 Ts (List.replicate i (WC3 c))*X)))))))
  (k:∀h' T,Sat h' (Wu3 M (Ts ++ [T]) (WN3 c bs gh (i+1))*X)→K h') :
  Wq0 Tryz.prog #[100,100] 100 #[.slice a i cc,.slice (some ⟨(h.push (.cells #[.int .i64 i,.slice none 0 0,.int .u64 0,.int .u64 0,.int .u64 0,.slice (some ⟨A,0,none⟩) c.level.toNat c.level.toNat,.slice (some ⟨B,0,none⟩) c.level.toNat c.level.toNat,.slice (some ⟨C,0,none⟩) c.level.toNat c.level.toNat,.slice none 0 0,.slice none 0 0] 110)).size,0,none⟩) 1 1]
   ((h.push (.cells #[.int .i64 i,.slice none 0 0,.int .u64 0,.int .u64 0,.int .u64 0,.slice (some ⟨A,0,none⟩) c.level.toNat c.level.toNat,.slice (some ⟨B,0,none⟩) c.level.toNat c.level.toNat,.slice (some ⟨C,0,none⟩) c.level.toNat c.level.toNat,.slice none 0 0,.slice none 0 0] 110)).push (.cells #[.pointer (some ⟨h.size,0,none⟩)] 104))
   λv h'=>Wb2 v λo k1 k2=>stH h' ⟨M,18,none⟩ (.slice o k1 k2) K:=by
 have H1:=YK1 (i:Int) H
 generalize h.push _=h1 at *
 generalize h.size=T at *
 have H2:=H1.push (.cells #[.pointer (some ⟨T,0,none⟩)] 104)
 have hs:Sees (h1.push (.cells #[.pointer (some ⟨T,0,none⟩)] 104)) (some ⟨h1.size,0,none⟩) [mP T]:=λj v hj=>⟨_,rfl,by rw [Wc2,Nat.zero_add,Wb8 H2.at];simpa using hj⟩
 generalize h1.push (.cells #[.pointer (some ⟨T,0,none⟩)] 104)=h2 at *
 have H3:Sat h2 (We4 104 (siz Tryz.prog 104) a i cc (Ts.map mP)*(Wg3 M (.slice a i cc) (WN3 c bs gh i)*(WN1 0 Ts (List.replicate i (WC3 c))*(Wi5 T none (WC3 c) i*X)))):=by
  rw [WS3]
  exact Sat.ac H2.drop (by ac_rfl)
 refine H3.app YJ9 Yq7 YK0 (by rw [WS3];rfl) hs (n:=1) (by rw [WS3];rfl) (by simp [Wi6]) (by rw [Yq8];omega) (by rw [Yq8];omega) λa' c' h3 H4=>?_
 rw [WS3,Wb4] at H4
 obtain ⟨q,gq,fq,P,H5⟩:=Wd7.1 H4
 try simp only [Wa7,bsx,Nat.reduceAdd,Int.reduceLE,Int.reduceLT,Int.reduceToNat]
 refine H5.st (i:=18) rfl trivial λh4 H6=>k h4 T ?_
 have H7:Sat h4 (Wg3 M (.slice a' (i+1) c') (WN3 c bs gh (i+1))*(We4 104 1 a' (i+1) c' (Ts.map mP ++ [mP T])*(WN1 0 Ts (List.replicate i (WC3 c))*(Wi5 T none (WC3 c) i*X)))):=Wd7.2 ⟨q,gq,fq,P,H6⟩
 refine Wf7.2 ⟨a',c',⟨by simp [WN3,Mod.Mac.setTh,hT],by simp [WN3,Mod.Mac.setTh];omega⟩,?_⟩
 have e1:(WN3 c bs gh (i+1)).th=List.replicate i (WC3 c) ++ [WC3 c]:=List.replicate_succ'
 have e2:(WN3 c bs gh (i+1)).th.length=i+1:=by rw [e1];simp
 rw [e2,e1,Yq6 _ _ _ _ _ (by simp [hT]),List.map_append]
 have e3:(0:Int)+((List.replicate i (WC3 c)).length:Nat)=i:=by simp
 rw [e3]
 exact Sat.ac H7 (by show _=_*(We4 104 1 a' (i+1) c' (Ts.map mP ++ [mP T])*_);ac_rfl)
theorem WY0 {K:Value→Wa1→Prop} {h:Wa1} {R:Hp} {c:Mod.Cf} {a:Option Addr} {cc:Nat} {bs:List Int} {gh:Bool} (H:Sat h R) (hs:∀h' P,Sat h' (P*R)→Sees h' a (bs.map λn=>.int .u8 n)) (hl:bs.length≤65536) (hr:∀n ∈ bs,0≤n∧n < 256)
  (k0:okC c=false→∀h',Sat h' R→K (.tuple #[.pointer none,.int .i64 6]) h') (k1:okC c=true→∀h' M Ts,Sat h' (Wu3 M Ts (Wn1 c bs gh)*R)→K (.tuple #[mP M,.int .i64 0]) h') :
  Wa5 Tryz.prog 13 #[cfV c,.slice a bs.length cc,.bool gh] h K:=by
 refine call13 ?_
 unfold F13 g13 q13_7 q13_6 q13_5 q13_4 q13_3 q13_2 q13_1 cf ce lI Wu0 dl7 Wz7
 have H1:=H.push (.cells #[.int .i64 c.algo,.int .i64 c.threads,.int .i64 c.nodes,.int .i64 c.level,.int .i64 c.batch,.int .i64 c.probes,.int .i64 c.scan] 23)
 generalize h.push (.cells #[.int .i64 c.algo,.int .i64 c.threads,.int .i64 c.nodes,.int .i64 c.level,.int .i64 c.batch,.int .i64 c.probes,.int .i64 c.scan] 23)=h1 at *
 generalize h.size=Nc at *
 have C1:=H1.at
 iterate 7 (refine ldR C1 rfl ?_)
 refine Wa0 (WX6 c (λhok h2 o2=>?_) λhok h2 o2=>?_)
 ·have P:=Wp5 hok
  have hp:(Wc1 c).c=c:=rfl
  have H2:=H1.old o2
  try simp only [Wa7,bsx,Nat.reduceAdd,Int.reduceLE,Int.reduceLT,Int.reduceToNat]
  refine Wg4 ?_
  refine WR4 ?_
  try simp only [Wa7,bsx,Nat.reduceAdd,Int.reduceLE,Int.reduceLT,Int.reduceToNat]
  refine Wf4 ?_
  try simp only [Wa7,bsx,Nat.reduceAdd,Int.reduceLE,Int.reduceLT,Int.reduceToNat]
  have H3:=H2.push (.cells #[.int .i64 0,.int .i64 0,.int .i64 0,.int .i64 0,.int .i64 0,.int .i64 0,.int .i64 0,.int .i64 0,.int .i64 0,.int .i64 0,.int .i64 0,.int .i64 0,.int .i64 0,.int .i64 0,.int .i64 0] 62)
  generalize h2.push (.cells #[.int .i64 0,.int .i64 0,.int .i64 0,.int .i64 0,.int .i64 0,.int .i64 0,.int .i64 0,.int .i64 0,.int .i64 0,.int .i64 0,.int .i64 0,.int .i64 0,.int .i64 0,.int .i64 0,.int .i64 0] 62)=h3 at *
  generalize h2.size=Np at *
  refine YE2 (Wd6 (vs:=plc (Wc1 c)) H3.at rfl (by simp [Wi6]) λh4 w=>?_)
  have H4:=H3.wr w.new w.old
  clear H3 w
  refine Wc3 (λc0=>by simp at c0) (λ_=>?_)
  refine W37 H4.at ?_
  refine Wa0 (WG7 λh5 o5=>?_)
  have H5:=H4.old o5
  try simp only [Wa7,bsx,Nat.reduceAdd,Int.reduceLE,Int.reduceLT,Int.reduceToNat]
  have hsz:1≤(Wc1 c).size∧(Wc1 c).size≤4096:=by
   have:=P.si;have:=P.tr;have:=P.nd;have:=P.li
   omega
  refine Wa0 (W40 H5 hsz λh6 q H6=>?_)
  try simp only [Wa7,bsx,Nat.reduceAdd,Int.reduceLE,Int.reduceLT,Int.reduceToNat]
  refine Wg4 ?_
  try simp only [Wa7,bsx,Nat.reduceAdd,Int.reduceLE,Int.reduceLT,Int.reduceToNat]
  refine Wf4 ?_
  try simp only [Wa7,bsx,Nat.reduceAdd,Int.reduceLE,Int.reduceLT,Int.reduceToNat]
  refine Wc3 (λc0=>by simp at c0) (λ_=>?_)
  refine W37 H6.at2 ?_
  have hsn:(Wc1 c).sent < (Wc1 c).c.nodes:=by
   have:=hok
   unfold okC at this
   rw [decide_eq_true_iff] at this
   have h15:=this.2.2.2.2.2.2.2.2.2.2.2.2.2.2
   show (if (c.algo == 0)=true then (0:Int) else 2) < c.nodes
   simpa using h15
  refine Wa0 (Yz9 H6 P rfl hsn λh7 H7=>?_)
  refine W37 H7.at2 ?_
  refine Wa0 (WX8 H7 ?_ hl hr λh8 fq H8=>?_)
  ·refine hs h7 (Wn8 q (YM5 (Wc1 c) ⟨List.replicate (Wc1 c).size.toNat 0,0,false,[]⟩)*(pt Np (.cells (plc (Wc1 c)).toArray 62)*pt Nc (.cells #[.int .i64 c.algo,.int .i64 c.threads,.int .i64 c.nodes,.int .i64 c.level,.int .i64 c.batch,.int .i64 c.probes,.int .i64 c.scan] 23))) (Sat.ac H7 (by ac_rfl))
  try simp only [Wa7,bsx,Nat.reduceAdd,Int.reduceLE,Int.reduceLT,Int.reduceToNat]
  refine YF1 H8.at3 ?_
  have H9:=H8.push (.cells (W95 (.slice none 0 0) q 0 fq (WN3 c bs false 0)).toArray 102)
  have em:(.cells #[.int .i64 (Wc1 c).c.algo,.int .i64 (Wc1 c).c.threads,.int .i64 (Wc1 c).c.nodes,.int .i64 (Wc1 c).c.level,.int .i64 (Wc1 c).c.batch,.int .i64 (Wc1 c).c.probes,.int .i64 (Wc1 c).c.scan,.int .i64 (Wc1 c).slots,.int .i64 (Wc1 c).width,.int .i64 (Wc1 c).sent,.int .i64 (Wc1 c).hazards,.int .i64 (Wc1 c).links,.int .i64 (Wc1 c).nodes,.int .i64 (Wc1 c).tree,.int .i64 (Wc1 c).size,.pointer (some ⟨q,0,none⟩),.pointer none,.pointer (some ⟨fq,0,none⟩),.slice none 0 0,.bool false,.bool false] 102:Obj)=.cells (W95 (.slice none 0 0) q 0 fq (WN3 c bs false 0)).toArray 102:=rfl
  rw [em]
  generalize h8.push (.cells (W95 (.slice none 0 0) q 0 fq (WN3 c bs false 0)).toArray 102)=h9 at *
  generalize h8.size=M at *
  have e0:WN3 c bs false 0=⟨Wc1 c,lay (Wc1 c),none,bs,0,[],false,false⟩:=rfl
  refine ⟨λ_ h'=>Sat h' (Wu3 M [] (WN3 c bs gh 0)*(pt Nc (.cells #[.int .i64 c.algo,.int .i64 c.threads,.int .i64 c.nodes,.int .i64 c.level,.int .i64 c.batch,.int .i64 c.probes,.int .i64 c.scan] 23)*(pt Np (.cells (plc (Wc1 c)).toArray 62)*R))),?_,?_⟩
  ·cases gh with
   | false=>
    simp only [Wc4]
    refine Ya4 (q:=q) (gq:=0) (fq:=fq) P rfl ?_
    show Sat h9 (_*(emp*(fdS fq bs 0*(Wn8 q (lay (Wc1 c))*_))))
    rw [Wr7,Yz8]
    exact Sat.ac H9 (by ac_rfl)
   | true=>
    simp only [Wd5]
    have HC:Sat h9 (pt Nc (.cells #[.int .i64 c.algo,.int .i64 c.threads,.int .i64 c.nodes,.int .i64 c.level,.int .i64 c.batch,.int .i64 c.probes,.int .i64 c.scan] 23)*(pt Np (.cells (plc (Wc1 c)).toArray 62)*(pt M (.cells (W95 (.slice none 0 0) q 0 fq (WN3 c bs false 0)).toArray 102)*(fdS fq bs 0*(Wn8 q (YM5 (Wc1 c) ⟨List.replicate (Wc1 c).size.toNat 0,0,false,[]⟩)*R))))):=Sat.ac H9 (by ac_rfl)
    refine ldR HC.at rfl ?_
    try simp only [Wa7,bsx,Nat.reduceAdd,Int.reduceLE,Int.reduceLT,Int.reduceToNat]
    refine W37 HC.at2 ?_
    refine Wa0 (WG6 λh10 o10=>?_)
    have HD:=HC.old o10
    try simp only [Wa7,bsx,Nat.reduceAdd,Int.reduceLE,Int.reduceLT,Int.reduceToNat]
    refine ⟨Wd3 HD.at rfl,?_⟩
    have hbd:=hok
    unfold okC at hbd
    rw [decide_eq_true_iff] at hbd
    refine Wa0 (WS2 HD ⟨hbd.2.2.2.2.1,hbd.2.2.2.2.2.1⟩ ⟨P.se.1,by have:(Wc1 c).sent < c.nodes:=hsn;omega⟩ λh11 gq HE=>?_)
    try simp only [Wa7,bsx,Nat.reduceAdd,Int.reduceLE,Int.reduceLT,Int.reduceToNat]
    have HF:Sat h11 (pt M (.cells (W95 (.slice none 0 0) q 0 fq (WN3 c bs false 0)).toArray 102)*(ghS (some (Yy5 c.nodes (Wc1 c).sent)) gq*(fdS fq bs 0*(Wn8 q (YM5 (Wc1 c) ⟨List.replicate (Wc1 c).size.toNat 0,0,false,[]⟩)*(pt Nc (.cells #[.int .i64 c.algo,.int .i64 c.threads,.int .i64 c.nodes,.int .i64 c.level,.int .i64 c.batch,.int .i64 c.probes,.int .i64 c.scan] 23)*(pt Np (.cells (plc (Wc1 c)).toArray 62)*R)))))):=Sat.ac HE (by ac_rfl)
    refine HF.st (i:=16) rfl trivial λh12 HG=>?_
    exact Ya4 (q:=q) (gq:=gq) (fq:=fq) (m:=WN3 c bs true 0) P rfl HG
  intro g131 h132 H10
  refine ldR H10.at2 rfl ?_
  try simp only [Wa7,bsx,Nat.reduceAdd,Int.reduceLE,Int.reduceLT,Int.reduceToNat]
  refine ⟨λvs h'=>∃(w:Value) (i:Nat) (Ts:List Nat),vs = [w,.int .i64 i]∧(i:Int)≤c.threads∧Ts.length=i∧Sat h' (Wu3 M Ts (WN3 c bs gh i)*(pt Nc (.cells #[.int .i64 c.algo,.int .i64 c.threads,.int .i64 c.nodes,.int .i64 c.level,.int .i64 c.batch,.int .i64 c.probes,.int .i64 c.scan] 23)*(pt Np (.cells (plc (Wc1 c)).toArray 62)*R))),λvs _=>match vs with | [_,.int _ i]=>(c.threads - i).toNat | _=>0,⟨_,0,[],rfl,by have:=P.th;rw [hp] at this;omega,rfl,H10⟩,?_⟩
  rintro v137 v138 g139 h140 ⟨w,i,Ts,e,hi,hT,H11⟩
  cases e
  have hth:=P.th
  rw [hp] at hth
  have hlv:=P.lv
  rw [hp] at hlv
  try simp only [Wa7,bsx,Nat.reduceAdd,Int.reduceLE,Int.reduceLT,Int.reduceToNat]
  refine Wa6 (λc1=>?_) (λc1=>?_)
  ·obtain ⟨a',cc',⟨hl1,hl2⟩,H12⟩:=Wf7.1 H11
   have eth:(WN3 c bs gh i).th=List.replicate i (WC3 c):=rfl
   have ethl:(WN3 c bs gh i).th.length=i:=by rw [eth];simp
   rw [ethl,eth] at H12
   obtain ⟨q2,gq2,fq2,P2,H13⟩:=Wd7.1 H12
   have cM:Wa2 h140 ⟨M,18,none⟩=some (.slice a' i cc'):=Wb8 H13.at 18
   have HN:Sat h140 (pt Nc (.cells #[.int .i64 c.algo,.int .i64 c.threads,.int .i64 c.nodes,.int .i64 c.level,.int .i64 c.batch,.int .i64 c.probes,.int .i64 c.scan] 23)*_):=H11.drop
   have cN:Wa2 h140 ⟨Nc,3,none⟩=some (.int .i64 c.level):=Wb8 HN.at 3
   have lM:∀F:Value→Prop,ldH h140 ⟨M,18,none⟩ F=F (.slice a' i cc'):=YF4 cM
   have lN:∀F:Value→Prop,ldH h140 ⟨Nc,3,none⟩ F=F (.int .i64 c.level):=YF4 cN
   have m1:=λo=>Wc6 (o:=o) cM
   have m2:=λo o2=>Wc6 (o:=o2) (m1 o)
   have m3:=λo o2 o3=>Wc6 (o:=o3) (m2 o o2)
   have m4:=λo o2 o3 o4=>Wc6 (o:=o4) (m3 o o2 o3)
   have m5:=λo o2 o3 o4 o5=>Wc6 (o:=o5) (m4 o o2 o3 o4)
   have n1:=λo=>Wc6 (o:=o) cN
   have n2:=λo o2=>Wc6 (o:=o2) (n1 o)
   have n3:=λo o2 o3=>Wc6 (o:=o3) (n2 o o2)
   have n4:=λo o2 o3 o4=>Wc6 (o:=o4) (n3 o o2 o3)
   have n5:=λo o2 o3 o4 o5=>Wc6 (o:=o5) (n4 o o2 o3 o4)
   try simp only [Wa7,bsx,Nat.reduceAdd,Int.reduceLE,Int.reduceLT,Int.reduceToNat,lM,lN]
   have hlv4:0≤c.level∧c.level≤4096:=by omega
   have H14:=((H12.push (.cells (uvs (List.replicate c.level.toNat 0)).toArray 70)).push (.cells (uvs (List.replicate c.level.toNat 0)).toArray 70)).push (.cells (uvs (List.replicate c.level.toNat 0)).toArray 70)
   refine ⟨Ws4 hlv4 ?_,Ws4 hlv4 ?_,Ws4 hlv4 ?_⟩
   all_goals
    try simp only [Wa7,bsx,Nat.reduceAdd,Int.reduceLE,Int.reduceLT,Int.reduceToNat,m1,n1]
    refine ⟨Ws4 hlv4 ?_,Ws4 hlv4 ?_⟩
   all_goals
    try simp only [Wa7,bsx,Nat.reduceAdd,Int.reduceLE,Int.reduceLT,Int.reduceToNat,m2,n2]
    refine Ws4 hlv4 ?_
    try simp only [Wa7,bsx,Nat.reduceAdd,Int.reduceLE,Int.reduceLT,Int.reduceToNat,m3,n3,m4,n4,m5,n5]
   all_goals
    refine Yg3 (i:=i) (X:=pt Nc (.cells #[.int .i64 c.algo,.int .i64 c.threads,.int .i64 c.nodes,.int .i64 c.level,.int .i64 c.batch,.int .i64 c.probes,.int .i64 c.scan] 23)*(pt Np (.cells (plc (Wc1 c)).toArray 62)*R)) (by omega) hT (Sat.ac H14 (by ac_rfl)) λh' T H'=>?_
   all_goals
    try simp only [Wa7,bsx,Nat.reduceAdd,Int.reduceLE,Int.reduceLT,Int.reduceToNat]
    refine ⟨⟨.int .i64 i,i+1,Ts ++ [T],?_,by omega,by simp [hT],H'⟩,?_⟩
   all_goals
    rw [show s64 ((i:Int)+1)=((i+1:Nat):Int) from by unfold s64;omega]
   all_goals
    first
     | rfl
     | omega
  ·have ei:c.threads.toNat=i:=by omega
   have em:WN3 c bs gh i=Wn1 c bs gh:=by
    rw [← ei];rfl
   rw [em] at H11
   exact k1 hok h140 M Ts H11.drop2.drop2
 ·have H2:=H1.old o2
  try simp only [Wa7,bsx,Nat.reduceAdd,Int.reduceLE,Int.reduceLT,Int.reduceToNat]
  refine Wg4 ?_
  refine z15 ?_
  try simp only [Wa7,bsx,Nat.reduceAdd,Int.reduceLE,Int.reduceLT,Int.reduceToNat]
  refine Wf4 ?_
  try simp only [Wa7,bsx,Nat.reduceAdd,Int.reduceLE,Int.reduceLT,Int.reduceToNat]
  have H3:=H2.push (.cells #[.int .i64 0,.int .i64 0,.int .i64 0,.int .i64 0,.int .i64 0,.int .i64 0,.int .i64 0,.int .i64 0,.int .i64 0,.int .i64 0,.int .i64 0,.int .i64 0,.int .i64 0,.int .i64 0,.int .i64 0] 62)
  generalize h2.push (.cells #[.int .i64 0,.int .i64 0,.int .i64 0,.int .i64 0,.int .i64 0,.int .i64 0,.int .i64 0,.int .i64 0,.int .i64 0,.int .i64 0,.int .i64 0,.int .i64 0,.int .i64 0,.int .i64 0,.int .i64 0] 62)=h3 at *
  generalize h2.size=Np at *
  refine YE2 (Wd6 (vs:=[.int .i64 0,.int .i64 0,.int .i64 0,.int .i64 0,.int .i64 0,.int .i64 0,.int .i64 0,.int .i64 0,.int .i64 0,.int .i64 0,.int .i64 0,.int .i64 0,.int .i64 0,.int .i64 0,.int .i64 0]) H3.at rfl (by simp [Wi6]) λh4 w=>?_)
  have H4:=H3.wr w.new w.old
  refine Wc3 (λ_=>?_) (λc0=>by simp at c0)
  exact k0 hok h4 H4.drop.drop
end
section
set_option maxRecDepth 100000

end
section
open Mod
theorem YQ3:und Tryz.prog 63=.slice 70:=by kernel_rfl
theorem YK2:zer Tryz.prog 70=some (.int .u64 0):=by kernel_rfl
theorem Yg4 {K:Value→Wa1→Prop} {h:Wa1} {R:Hp} {q:Nat} {m:Mm} (H:Sat h (Wn8 q m*R)) (k:∀h' a c,Old h.size h h'→(∀b,blk a b→h.size≤b)→(∀P:Hp,Sat h P→Sat h' (We4 70 1 a m.w.length c (uvs m.w)*P))→K (.slice a m.w.length c) h') :
  Wa5 Tryz.prog 82 #[mP q] h K:=by
 refine call82 ?_
 unfold F82 cf lS nP
 obtain ⟨b,la,lc,MB,H1⟩:=Wn9.1 H
 have hw:=H1.at2
 try simp only [Wa7,bsx,Nat.reduceAdd,Int.reduceLE,Int.reduceLT,Int.reduceToNat]
 refine H1.ld rfl ?_
 try simp only [Wa7,bsx,Nat.reduceAdd,Int.reduceLE,Int.reduceLT,Int.reduceToNat]
 refine Wa0 ?_
 refine call149 ?_
 unfold F149
 try simp only [Wa7,bsx,Nat.reduceAdd,Int.reduceLE,Int.reduceLT,Int.reduceToNat]
 have o1:Old h.size h (h.push (.cells #[] 70)):=(Old.refl _ _).push _ (Nat.le_refl _)
 have hlen:(uvs m.w).length=m.w.length:=W31 _
 have hs:Sees h (some ⟨b,0,none⟩) (uvs m.w):=λi v hi=>⟨_,rfl,by rw [Wc2,Nat.zero_add,Wb8 hw];simpa using hi⟩
 have hs1:=hs.old o1
 have ow:Own (h.push (.cells #[] 70)) 70 (siz Tryz.prog 70) (some ⟨h.size,0,none⟩) 0 0 []:=⟨by simp,Nat.le_refl _,.inr ⟨h.size,#[],rfl,by simp,by simp,by simp⟩⟩
 have sz:(h.push (.cells #[] 70)).size=h.size+1:=by simp
 generalize h.push (.cells #[] 70)=h1 at *
 have:=MB.len
 refine Wy7 YQ3 WH2 YK2 (by rw [WH3];rfl) ow hs1 (by rw [WH3,hlen];simp) (λy hy=>?_) (by rw [W39];omega) (by rw [W39];omega) λa' c' h2 o' hsz old ha=>?_
 ·obtain ⟨n,_,rfl⟩:=List.mem_map.1 hy
  trivial
 rw [Nat.zero_add] at o' ⊢
 try simp only [Wa7,bsx,Nat.reduceAdd,Int.reduceLE,Int.reduceLT,Int.reduceToNat]
 have o2:Old h.size h h2:=⟨by omega,λb hb=>(old b (by omega) λad ea=>by cases ea;exact λe=>by simp at e;omega).trans (o1.2 b hb)⟩
 have fb:∀b,blk a' b→h.size≤b:=by
  rintro b ⟨ad,e,rfl⟩
  rcases ha with ha | ⟨ha,_⟩
  ·rw [e] at ha;cases ha;exact Nat.le_refl _
  ·rw [e] at ha;cases ha;show h.size≤h1.size;omega
 rw [WH3] at o'
 exact k h2 a' c' o2 fb λP HP=>HP.mk_new o2 (λb hb=>⟨fb b hb,o'.lt2 hb⟩) o'.nd λh'' e=>o'.congr e
theorem Wv8 (j:Nat) (h:j < 1000):s64 ((j:Int)+1)=((j+1:Nat):Int):=by unfold s64;omega
end
section
open Mod
section
variable {K:Value→Wa1→Prop} {h:Wa1} {M T b o N:Nat} {tv:Value} {R:Hp} {m:Mac}
structure YY0 (m:Mac):Prop where
 hn:m.p.links+m.p.c.nodes=m.p.nodes
 hw:(m.mm.w.length:Int)=m.p.size
end
end
section
open Mod
structure Cl where
 op:Int
 key:Int
 val:Int
def clc (c:Cl):List Value:=[.int .i64 c.op,.int .u32 c.key,.int .u32 c.val]
structure EvM where
 k:Int
 back:Bool
 c:Cl
 a:Cl
structure DS where
 m:Mac
 nx:List Int
 cu:List Cl
 ev:List EvM
structure DB where
 pb:Nat
 nb:Nat
 tb:Nat
 cb:Nat
def bv (b:Bool):Value:=.bool b
section
variable {K:Value→Wa1→Prop} {h:Wa1} {M T:Nat} {B:DB} {Ts:List Nat} {n:Nat} {s:DS} {R:Hp}
end
end
section
open Mod
def Yq9:ByteArray:=⟨#[0,1,2,2,3,3,3,3,4,4,4,4,4,4,4,4,5,5,5,5,5,5,5,5,5,5,5,5,5,5,5,5,6,6,6,6,6,6,6,6,6,6,6,6,6,6,6,6,6,6,6,6,6,6,6,6,6,6,6,6,6,6,6,6,7,7,7,7,7,7,7,7,7,7,7,7,7,7,7,7,7,7,7,7,7,7,7,7,7,7,7,7,7,7,7,7,7,7,7,7,7,7,7,7,7,7,7,7,7,7,7,7,7,7,7,7,7,7,7,7,7,7,7,7,7,7,7,7,8,8,8,8,8,8,8,8,8,8,8,8,8,8,8,8,8,8,8,8,8,8,8,8,8,8,8,8,8,8,8,8,8,8,8,8,8,8,8,8,8,8,8,8,8,8,8,8,8,8,8,8,8,8,8,8,8,8,8,8,8,8,8,8,8,8,8,8,8,8,8,8,8,8,8,8,8,8,8,8,8,8,8,8,8,8,8,8,8,8,8,8,8,8,8,8,8,8,8,8,8,8,8,8,8,8,8,8,8,8,8,8,8,8,8,8,8,8,8,8,8,8,8,8,8,8,8,8]⟩
theorem Yr0:((List.range 256).all λi=>WL1 Yq9 i == if i=0 then 0 else ((Nat.log2 i+1:Nat):Int))=true:=by decide +kernel
theorem Yr1 {i:Nat} (h:i < 256) (h0:1≤i):WL1 Yq9 i=((Nat.log2 i+1:Nat):Int):=by
 have:=List.all_eq_true.1 Yr0 i (List.mem_range.2 h)
 rw [if_neg (by omega)] at this
 simpa using this
theorem WN4 {n k:Nat} (h:2 ^ k≤n):Nat.log2 n=Nat.log2 (n / 2 ^ k)+k:=by
 have hk:0 < 2 ^ k:=Nat.two_pow_pos k
 have h1:n / 2 ^ k≠0:=by
  have:=Nat.div_pos h hk
  omega
 have h2:=(Nat.log2_eq_iff h1).1 rfl
 rw [Nat.log2_eq_iff (by omega)]
 constructor
 ·rw [Nat.pow_add]
  exact Nat.le_trans (Nat.mul_le_mul_right _ h2.1) (Nat.div_mul_le_self n _)
 ·have:=(Nat.div_lt_iff_lt_mul hk).1 h2.2
  rw [show (n / 2 ^ k).log2+k+1=((n / 2 ^ k).log2+1)+k by omega,Nat.pow_add]
  exact this
section
variable {K:Value→Wa1→Prop} {h:Wa1}
theorem WN5 {n:Nat} (h1:1≤n) (h2:n≤1048576) (k:K (.int .i64 ((Nat.log2 n+1:Nat):Int)) h):Wa5 Tryz.prog 151 #[.int .u64 (n:Int)] h K:=by
 refine call151 ?_
 unfold F151
 refine ⟨λvs h'=>vs = [.int .u64 (n:Int),.int .i64 0]∧h' = h,?_,?_⟩
 ·exact Wa6 (λc=>by omega) (λ_=>⟨rfl,by trivial⟩)
 rintro v1 v2 g3 h4 ⟨e,rfl⟩
 cases e
 refine ⟨λvs h'=>(∃(m s:Nat),vs = [.int .u64 (m:Int),.int .i64 (s:Int)]∧1≤m∧m < 65536∧s≤16∧Nat.log2 n=Nat.log2 m+s)∧h' = h4,?_,?_⟩
 ·simp only [Wa3]
  refine Wa6 (λc=>⟨by decide,?_⟩) (λc=>?_)
  ·refine ⟨⟨n / 65536,16,?_,?_,?_,by omega,WN4 (k:=16) (by omega)⟩,by trivial⟩
   ·rw [Ws1 (by omega),Wb9 (by omega) (by omega)];rfl
   ·omega
   ·omega
  ·exact ⟨⟨n,0,rfl,h1,by omega,by omega,rfl⟩,by trivial⟩
 rintro v9 v10 g11 h12 ⟨⟨m,s,e,m1,m2,hs,hl⟩,rfl⟩
 cases e
 refine ⟨λvs h'=>(∃(m s:Nat),vs = [.int .u64 (m:Int),.int .i64 (s:Int)]∧1≤m∧m < 256∧s≤24∧Nat.log2 n=Nat.log2 m+s)∧h' = h12,?_,?_⟩
 ·simp only [Wa3]
  refine Wa6 (λc=>⟨by decide,?_⟩) (λc=>?_)
  ·refine ⟨⟨m / 256,s+8,?_,?_,?_,by omega,?_⟩,by trivial⟩
   ·rw [Ws1 (by omega),Wb9 (by omega) (by omega)];rfl
   ·omega
   ·omega
   ·have:=WN4 (n:=m) (k:=8) (by omega)
    rw [show (2:Nat) ^ 8=256 from rfl] at this
    omega
  ·exact ⟨⟨m,s,rfl,m1,by omega,by omega,hl⟩,by trivial⟩
 rintro v17 v18 g19 h20 ⟨⟨m,s,e,m1,m2,hs,hl⟩,rfl⟩
 cases e
 simp only [Wa3]
 have e8:IntKind.wrap .u8 (m:Int)=(m:Int):=by
  unfold IntKind.wrap IntKind.signed IntKind.bits
  simp only [Bool.false_and,Bool.false_eq_true,if_false]
  omega
 rw [e8]
 refine ⟨by omega,by omega,?_⟩
 show K (.int .i64 (IntKind.wrap .i64 ((s:Int)+IntKind.wrap .i64 (WL1 Yq9 (m:Int).toNat)))) h20
 rw [show (m:Int).toNat=m by omega,Yr1 m2 m1]
 have hlm:Nat.log2 m < 256:=Nat.lt_of_le_of_lt (Nat.log2_le_self m) m2
 rw [Wb9 (n:=((Nat.log2 m+1:Nat):Int)) (by omega) (by omega),Wb9 (by omega) (by omega)]
 rw [hl] at k
 rw [show ((s:Int)+((Nat.log2 m+1:Nat):Int))=((Nat.log2 m+s+1:Nat):Int) by omega]
 exact k
theorem Wx2 {n:Int} (k:K (.bool (Yv0 n)) h):Wa5 Tryz.prog 86 #[.int .i64 n] h K:=by
 refine call86 ?_
 unfold F86
 unfold Yv0 at k
 refine Wa6 (λc=>?_) (λc=>?_)
 ·have e:decide (n≤1048576)=decide (1≤n∧n≤1048576):=by rw [decide_eq_decide];omega
  rw [e];exact k
 ·rw [decide_eq_false (by omega)] at k
  exact k
theorem Ya5 {n:Int}:Yv0 n=true↔1≤n∧n≤1048576:=by unfold Yv0;rw [decide_eq_true_eq]
theorem WI2 {n:Int} (k:K (.int .i64 (Wm8 n)) h):Wa5 Tryz.prog 33 #[.int .i64 n] h K:=by
 refine call33 ?_
 unfold F33 cf
 refine Wa0 (Wx2 ?_)
 try simp only [Wa7,bsx,Nat.reduceAdd,Int.reduceLE,Int.reduceLT,Int.reduceToNat]
 unfold Wm8 at k
 refine Wc3 (λc=>?_) (λc=>?_)
 ·have c:Yv0 n=false:=by simpa using c
  rw [c] at k
  simpa using k
 ·have c:Yv0 n=true:=by simpa using c
  rw [c] at k
  obtain ⟨n1,n2⟩:=Ya5.1 c
  have e:u64 n=((n.toNat:Nat):Int):=by unfold u64;omega
  refine Wa0 (call87 ?_)
  unfold F87 cf
  rw [e]
  refine Wa0 (WN5 (by omega) (by omega) ?_)
  try simp only [Wa7,bsx,Nat.reduceAdd,Int.reduceLE,Int.reduceLT,Int.reduceToNat]
  have hl:Nat.log2 n.toNat≤n.toNat:=Nat.log2_le_self _
  rw [show s64 (((n.toNat.log2+1:Nat):Int) - 1)=(n.toNat.log2:Int) by unfold s64;omega]
  simpa using k
theorem W41 (n:Int):0≤Wm8 n∧Wm8 n≤20:=by
 unfold Wm8
 split
 ·rename_i c
  obtain ⟨n1,n2⟩:=Ya5.1 c
  have h0:n.toNat≠0:=by omega
  have:=(Nat.log2_lt h0 (k:=21)).2 (by omega)
  omega
 ·omega
theorem Wu5 {d:Int} (hd:iN d) (k:K (.int .i64 (Wf3 d)) h):Wa5 Tryz.prog 262 #[.int .i64 d] h K:=by
 refine call262 ?_
 unfold F262
 unfold Wf3 at k
 refine ⟨λvs h'=>vs = [.bool (decide (d < 1∨d > 20))]∧h' = h,?_,?_⟩
 ·refine Wa6 (λc=>⟨by rw [decide_eq_true (.inl c)],by trivial⟩) (λc=>⟨?_,by trivial⟩)
  congr 2
  rw [decide_eq_decide];omega
 rintro v1 g2 h3 ⟨e,rfl⟩
 cases e
 try simp only [Wa7,bsx,Nat.reduceAdd,Int.reduceLE,Int.reduceLT,Int.reduceToNat]
 refine Wa6 (λc=>?_) (λc=>?_)
 ·rw [if_pos c] at k;exact k
 ·rw [if_neg c] at k
  have e1:s64 (d - 1)=d - 1:=by unfold s64;omega
  rw [e1,show min (d - 1).toNat 64=(d - 1).toNat by omega,Int.one_mul]
  refine ⟨by omega,?_⟩
  have hp:(2:Int) ^ (d - 1).toNat≤2 ^ 19:=by
   have:=Nat.pow_le_pow_right (n:=2) (by omega) (show (d - 1).toNat≤19 by omega)
   exact_mod_cast this
  have hp0:(0:Int)≤2 ^ (d - 1).toNat:=by exact_mod_cast Nat.zero_le _
  rw [show s64 (2 ^ (d - 1).toNat)=2 ^ (d - 1).toNat by unfold s64;omega]
  exact k
theorem WY1 (d:Int):0≤Wf3 d∧Wf3 d≤524288:=by
 unfold Wf3
 split
 ·omega
 ·rename_i c
  have hp:(2:Int) ^ (d - 1).toNat≤2 ^ 19:=by
   have:=Nat.pow_le_pow_right (n:=2) (by omega) (show (d - 1).toNat≤19 by omega)
   exact_mod_cast this
  have hp0:(0:Int)≤2 ^ (d - 1).toNat:=by exact_mod_cast Nat.zero_le _
  omega
theorem WS4 (a b:Int):WJ6 a b=max a b:=by unfold WJ6;split <;> omega
theorem YA0 (a b:Int):WT1 a b=min a b:=by unfold WT1;split <;> omega
theorem WN6 {d w:Int} (hd:iN d) (k:K (.int .i64 (Yn4 d w)) h):Wa5 Tryz.prog 259 #[.int .i64 d,.int .i64 w] h K:=by
 refine call259 ?_
 unfold F259 cf
 refine Wa0 (Wu5 hd ?_)
 try simp only [Wa7,bsx,Nat.reduceAdd,Int.reduceLE,Int.reduceLT,Int.reduceToNat]
 unfold Yn4 at k
 have hr:=WY1 d
 refine Wa6 (λc=>?_) (λc=>?_)
 ·simp only [if_pos c] at k;exact k
 ·simp only [if_neg c] at k
  rw [Wo1,WS4]
  refine ⟨c,?_⟩
  rw [Wz2 (by omega)]
  have h0:0≤max w 0 % Wf3 d:=Int.emod_nonneg _ c
  have h1:max w 0 % Wf3 d < Wf3 d:=Int.emod_lt_of_pos _ (by omega)
  have e:max (0:Int) w=max w 0:=Int.max_comm _ _
  try rw [e]
  rw [show s64 (Wf3 d+max w 0 % Wf3 d)=Wf3 d+max w 0 % Wf3 d by unfold s64;omega]
  exact k
theorem YA1 {n l:Int} (hl:iN l) (k:K (.int .i64 (YU5 n l)) h):Wa5 Tryz.prog 334 #[.int .i64 n,.int .i64 l] h K:=by
 refine call334 ?_
 unfold F334 cf
 unfold YU5 at k
 have hr:=W41 n
 refine ⟨λvs h'=>(∃w,vs = [w,.bool (!Yv0 n || decide (l < 0) || decide (Wm8 n < l))])∧h' = h,?_,?_⟩
 ·refine Wa0 (Wx2 ?_)
  try simp only [Wa7,bsx,Nat.reduceAdd,Int.reduceLE,Int.reduceLT,Int.reduceToNat]
  refine Wc3 (λc=>?_) (λc=>?_)
  ·rw [c];exact ⟨_,rfl⟩
  ·rw [c]
   refine Wa6 (λc2=>?_) (λc2=>?_)
   ·rw [decide_eq_true c2];exact ⟨_,rfl⟩
   ·rw [decide_eq_false c2]
    refine Wa0 (WI2 ?_)
    try simp only [Wa7,bsx,Nat.reduceAdd,Int.reduceLE,Int.reduceLT,Int.reduceToNat]
    exact ⟨_,rfl⟩
 rintro v7 v8 g9 h10 ⟨⟨w,e⟩,rfl⟩
 cases e
 try simp only [Wa7,bsx,Nat.reduceAdd,Int.reduceLE,Int.reduceLT,Int.reduceToNat]
 refine Wc3 (λc=>?_) (λc=>?_)
 ·rw [if_pos c] at k;exact k
 ·rw [if_neg (by rw [c];simp)] at k
  refine Wa0 (WI2 ?_)
  try simp only [Wa7,bsx,Nat.reduceAdd,Int.reduceLE,Int.reduceLT,Int.reduceToNat]
  simp only [Bool.or_eq_false_iff,Bool.not_eq_false',decide_eq_false_iff_not] at c
  rw [show s64 (Wm8 n - l)=Wm8 n - l by unfold s64;omega]
  refine ⟨by omega,?_⟩
  rw [Ws1 (by exact_mod_cast Nat.zero_le _),show min (Wm8 n - l).toNat 64=(Wm8 n - l).toNat by omega]
  exact k
theorem W42 {n d:Int} (hd:iN d) (k:K (.bool (W21 n d)) h):Wa5 Tryz.prog 275 #[.int .i64 n,.int .i64 d] h K:=by
 refine call275 ?_
 unfold F275 cf
 refine Wa0 (Wx2 ?_)
 try simp only [Wa7,bsx,Nat.reduceAdd,Int.reduceLE,Int.reduceLT,Int.reduceToNat]
 unfold W21 at k
 refine Wc3 (λc=>?_) (λc=>?_)
 ·rw [c,Bool.true_and] at k
  refine Wa0 (Wu5 hd ?_)
  try simp only [Wa7,bsx,Nat.reduceAdd,Int.reduceLE,Int.reduceLT,Int.reduceToNat]
  exact k
 ·rw [c,Bool.false_and] at k
  exact k
abbrev spV (s:Sp):Value:=.agg #[.int .i64 s.lo,.int .i64 s.hi]
theorem Yr2 {n:Int} (hn:iN n) (k:∀h',Old h.size h h'→K (spV (YI4 n)) h'):Wa5 Tryz.prog 264 #[.int .i64 n] h K:=by
 refine call264 ?_
 unfold F264 dl2
 rw [Wo1,WS4]
 have p1:=Wg2 h #[.int .i64 0,.int .i64 0] 338
 generalize h.push (.cells #[.int .i64 0,.int .i64 0] 338)=h1 at *
 refine stR p1.new rfl trivial λh2 w2=>stR w2.new rfl trivial λh3 w3=>ldR w3.new rfl (ldR w3.new rfl ?_)
 rw [Wb9 (by omega) (by omega)]
 exact k h3 (w3.toOld (w2.toOld p1.toOld (Nat.le_refl _)) (Nat.le_refl _))
theorem WN7 {s:Sp} (k:∀h',Old h.size h h'→K (.bool s.done) h'):Wa5 Tryz.prog 267 #[spV s] h K:=by
 refine call267 ?_
 unfold F267 g267 lI
 have p1:=Wg2 h #[.int .i64 s.lo,.int .i64 s.hi] 338
 generalize h.push (.cells #[.int .i64 s.lo,.int .i64 s.hi] 338)=h1 at *
 refine ldR p1.new rfl ?_
 try simp only [Wa7,bsx,Nat.reduceAdd,Int.reduceLE,Int.reduceLT,Int.reduceToNat]
 refine ldR p1.new rfl ?_
 try simp only [Wa7,bsx,Nat.reduceAdd,Int.reduceLE,Int.reduceLT,Int.reduceToNat]
 exact k h1 p1.toOld
theorem WN8 {n:Int} (k:K (.int .i64 (W93 n)) h):Wa5 Tryz.prog 335 #[.int .i64 n] h K:=by
 refine call335 ?_
 unfold F335
 rw [Wo1,YA0,Wo1,WS4]
 exact k
theorem WE5 (n:Int):0≤W93 n∧W93 n≤1073741824:=by unfold W93;omega
theorem WI3 {s:Sp} (k:∀h',Old h.size h h'→K (.int .i64 s.mid) h'):Wa5 Tryz.prog 269 #[spV s] h K:=by
 refine call269 ?_
 unfold F269 g269 cf ce lI
 have p1:=Wg2 h #[.int .i64 s.lo,.int .i64 s.hi] 338
 generalize h.push (.cells #[.int .i64 s.lo,.int .i64 s.hi] 338)=h1 at *
 refine ldR p1.new rfl ?_
 try simp only [Wa7,bsx,Nat.reduceAdd,Int.reduceLE,Int.reduceLT,Int.reduceToNat]
 refine ldR p1.new rfl ?_
 try simp only [Wa7,bsx,Nat.reduceAdd,Int.reduceLE,Int.reduceLT,Int.reduceToNat]
 refine Wa0 (WN8 ?_)
 try simp only [Wa7,bsx,Nat.reduceAdd,Int.reduceLE,Int.reduceLT,Int.reduceToNat]
 refine ⟨Wd3 p1.new rfl,?_⟩
 refine Wa0 (WN8 ?_)
 try simp only [Wa7,bsx,Nat.reduceAdd,Int.reduceLE,Int.reduceLT,Int.reduceToNat]
 have c1:=WE5 s.lo
 have c2:=WE5 s.hi
 refine ⟨by decide,?_⟩
 have e1:s64 (W93 s.lo+W93 s.hi)=W93 s.lo+W93 s.hi:=by unfold s64;omega
 rw [e1,Int.tdiv_eq_ediv_of_nonneg (by omega)]
 rw [show s64 ((W93 s.lo+W93 s.hi) / 2)=(W93 s.lo+W93 s.hi) / 2 by unfold s64;omega]
 exact k h1 p1.toOld
theorem Yr3 (s:Sp):0≤s.mid∧s.mid≤1073741824:=by
 have c1:=WE5 s.lo
 have c2:=WE5 s.hi
 unfold Sp.mid
 omega
theorem Yr4 {s:Sp} {b:Bool} (k:∀h',Old h.size h h'→K (spV (s.cut b)) h'):Wa5 Tryz.prog 270 #[spV s,.bool b] h K:=by
 refine call270 ?_
 unfold F270 g270 cf ce dl2 dw2
 have p1:=Wg2 h #[.int .i64 s.lo,.int .i64 s.hi] 338
 generalize h.push (.cells #[.int .i64 s.lo,.int .i64 s.hi] 338)=h1 at *
 have p2:=Wg2 h1 #[.int .i64 0,.int .i64 0] 338
 generalize h1.push (.cells #[.int .i64 0,.int .i64 0] 338)=h2 at *
 have hs:=p1.size
 have o2:Old h.size h h2:=p1.toOld.trans (p2.toOld.mono (by omega))
 have e0:h2[h.size]? = some (.cells #[.int .i64 s.lo,.int .i64 s.hi] 338):=(p2.old _ (by omega)).trans p1.new
 refine ldR e0 rfl (ldR e0 rfl ?_)
 refine Wa0 (WN7 λh3 o3=>?_)
 try simp only [Wa7,bsx,Nat.reduceAdd,Int.reduceLE,Int.reduceLT,Int.reduceToNat]
 have e3:h3[h.size]? = some (.cells #[.int .i64 s.lo,.int .i64 s.hi] 338):=(o3.2 _ (by have:=p2.size;omega)).trans e0
 have n3:h3[h1.size]? = some (.cells #[.int .i64 0,.int .i64 0] 338):=(o3.2 _ (by have:=p2.size;omega)).trans p2.new
 have o23:Old h.size h h3:=o2.trans (o3.mono (by have:=p2.size;omega))
 unfold Sp.cut at k
 refine Wc3 (λc=>?_) (λc=>?_)
 ·rw [if_pos c] at k
  refine ldR e3 rfl (ldR e3 rfl ?_)
  refine stR n3 rfl trivial λh4 w4=>stR w4.new rfl trivial λh5 w5=>ldR w5.new rfl (ldR w5.new rfl ?_)
  exact k h5 (w5.toOld (w4.toOld o23 (by omega)) (by omega))
 ·rw [if_neg (by rw [c];simp)] at k
  cases b with
  | true=>
   simp only [Wd5,if_true] at k ⊢
   refine ldR e3 rfl ?_
   try simp only [Wa7,bsx,Nat.reduceAdd,Int.reduceLE,Int.reduceLT,Int.reduceToNat]
   refine ldR e3 rfl (ldR e3 rfl ?_)
   refine Wa0 (WI3 λh4 o4=>?_)
   try simp only [Wa7,bsx,Nat.reduceAdd,Int.reduceLE,Int.reduceLT,Int.reduceToNat]
   have e4:=(o4.2 _ (by have:=o3.1;have:=p2.size;omega)).trans e3
   have n4:=(o4.2 _ (by have:=o3.1;have:=p2.size;omega)).trans n3
   have o24:Old h.size h h4:=o23.trans (o4.mono o23.1)
   refine ⟨Wd3 e4 rfl,?_⟩
   refine stR n4 rfl trivial λh5 w5=>stR w5.new rfl trivial λh6 w6=>ldR w6.new rfl (ldR w6.new rfl ?_)
   exact k h6 (w6.toOld (w5.toOld o24 (by omega)) (by omega))
  | false=>
   simp only [Wc4,Bool.false_eq_true,if_false] at k ⊢
   refine ldR e3 rfl (ldR e3 rfl (ldR e3 rfl ?_))
   try simp only [Wa7,bsx,Nat.reduceAdd,Int.reduceLE,Int.reduceLT,Int.reduceToNat]
   refine Wa0 (WI3 λh4 o4=>?_)
   try simp only [Wa7,bsx,Nat.reduceAdd,Int.reduceLE,Int.reduceLT,Int.reduceToNat]
   have e4:=(o4.2 _ (by have:=o3.1;have:=p2.size;omega)).trans e3
   have n4:=(o4.2 _ (by have:=o3.1;have:=p2.size;omega)).trans n3
   have o24:Old h.size h h4:=o23.trans (o4.mono o23.1)
   have hm:=Yr3 s
   rw [show s64 (s.mid+1)=s.mid+1 by unfold s64;omega]
   refine ⟨Wd3 e4 rfl,?_⟩
   refine stR n4 rfl trivial λh5 w5=>stR w5.new rfl trivial λh6 w6=>ldR w6.new rfl (ldR w6.new rfl ?_)
   exact k h6 (w6.toOld (w5.toOld o24 (by omega)) (by omega))
end
end
section
set_option maxRecDepth 100000
def F67 (K:Value→Wa1→Prop) (h:Wa1) (xa xb:Option Addr):Prop:=
 (cf 120 #[.pointer xb] h λa b=>Wd0 a λa=>exI λI3=>(ifB (Option.isNone a) (I3 [.bool true] b) (I3 [.bool (Option.isNone xa)] b))∧(∀(b:Value) (c:Env) (c:Wa1),(I3 [b] c)→(asBool b λb=>ifB b (K (.tuple #[]) c) (stH (Array.push c (.cells #[.pointer none,.pointer none,.pointer none] 200)) ⟨c.size,0,none⟩ (.pointer xa) λb=>stH b ⟨c.size,1,none⟩ (.pointer xb) λb=>stH b ⟨c.size,2,none⟩ (.pointer a) λb=>exI λI11=>(nP a λd=>lI .i64 b (Addr.add d 1) λd=>ifB (d == 90) (nP a λd=>lI .i64 b d λd=>ifB (decide (d ≥ 11)) (nP a λe=>lI .i64 b e λe=>I11 [.bool (decide (e≤13)),.bool (decide (d ≥ 11)),.bool (decide (e≤13))] b) (I11 [.bool false,.bool (decide (d ≥ 11)),.bool false] b)) (I11 [.bool false,.bool false,.bool false] b))∧(∀(b d e:Value) (f:Env) (f:Wa1),(I11 [b,d,e] f)→(asBool b λb=>ifB b (nP a λb=>bd 7 10 (lI .u64 f (Addr.add b 9) λb=>nP a λd=>bd 8 10 (lI .u64 f (Addr.add d 10) λd=>nP a λe=>bd 9 10 (lI .u64 f (Addr.add e 11) λe=>cf 121 #[.pointer xb,.slice (some ⟨f.size,0,none⟩) 3 3] (Array.push f (.cells #[.int .u64 b,.int .u64 d,.int .u64 e] 70)) λb b=>K (.tuple #[]) b)))) (nP a λb=>lI .i64 f b λb=>ifB (b == 10) (dl3 f c.size λb d e=>cf 122 #[.agg #[b,d,e]] f λb b=>K (.tuple #[]) b) (nP a λb=>lI .i64 f b λb=>ifB (b == 11) (dl3 f c.size λb d e=>cf 123 #[.agg #[b,d,e]] f λb b=>K (.tuple #[]) b) (exI λI54=>(nP a λb=>lI .i64 f b λb=>ifB (b == 12) (I54 [.bool true,.bool true] f) (nP a λb=>lI .i64 f b λb=>I54 [.bool (b == 13),.bool (b == 13)] f))∧(∀(b d:Value) (e:Env) (e:Wa1),(I54 [b,d] e)→(asBool b λb=>ifB b (dl3 e c.size λb d f=>cf 124 #[.agg #[b,d,f]] e λb b=>K (.tuple #[]) b) (nP a λa=>lI .i64 e a λa=>ifB (a == 14) (dl3 e c.size λa b c=>cf 125 #[.agg #[a,b,c]] e λa a=>K (.tuple #[]) a) (cf 126 #[.pointer xa,.pointer xb] e λa a=>K (.tuple #[]) a)))))))))))))
theorem call67 {K:Value→Wa1→Prop} {h:Wa1} {xa xb:Option Addr} (H:F67 K h xa xb):Wa5 Tryz.prog 67 #[(.pointer xa),(.pointer xb)] h K:=
 Wa4 Tryz.func67 (by kernel_rfl) (Eq.mp (by kernel_rfl) H)
abbrev g122 (K:Value→Wa1→Prop) (h H1:Wa1):Prop:=
 (lP H1 ⟨h.size,2,none⟩ λa=>nP a λa=>lI .i64 H1 (Addr.add a 1) λa=>ifB (a == 0) (dl3 H1 h.size λa b c=>dl3 H1 h.size λd e f=>lP H1 ⟨h.size,2,none⟩ λg=>nP g λg=>bd 0 10 (lI .u64 H1 (Addr.add g 2) λg=>cf 179 #[.agg #[d,e,f],.int .u64 g] H1 λd e=>asInt .i64 d λd=>ce e h.size 0 a (ce e h.size 1 b (ce e h.size 2 c (((Wa2 (Array.push e (.cells #[.int .u64 1,.int .u64 (IntKind.wrap .u64 d)] 70)) ⟨h.size,0,none⟩)=(some a))∧(((Wa2 (Array.push e (.cells #[.int .u64 1,.int .u64 (IntKind.wrap .u64 d)] 70)) ⟨h.size,1,none⟩)=(some b))∧(((Wa2 (Array.push e (.cells #[.int .u64 1,.int .u64 (IntKind.wrap .u64 d)] 70)) ⟨h.size,2,none⟩)=(some c))∧(cf 178 #[.agg #[a,b,c],.int .i64 1,.int .i64 3,.slice (some ⟨e.size,0,none⟩) 2 2] (Array.push e (.cells #[.int .u64 1,.int .u64 (IntKind.wrap .u64 d)] 70)) λa a=>K (.tuple #[]) a)))))))) (lP H1 ⟨h.size,1,none⟩ λa=>nP a λa=>bd 0 3 (lI .u64 H1 (Addr.add a 2) λa=>cf 36 #[.int .u64 a] H1 λb c=>asInt .i64 b λb=>ifB (b == 0) (lP c ⟨h.size,1,none⟩ λb=>cf 121 #[.pointer b,.slice (some ⟨c.size,0,none⟩) 2 2] (Array.push c (.cells #[.int .u64 a,.int .u64 1099511627776] 70)) λb b=>K (.tuple #[]) b) (ldH c ⟨h.size,1,none⟩ λb=>Wd0 b λd=>ldH c ⟨h.size,0,none⟩ λe=>Wd0 e λf=>dl3 c h.size λg i j=>cf 181 #[.agg #[g,i,j],.int .u64 a,.int .i64 0] c λc g=>asInt .i64 c λc=>ce g h.size 0 e (ce g h.size 1 b (cf 180 #[.pointer f,.int .i64 c] g λc e=>asInt .u64 c λc=>ce e h.size 1 b (((Wa2 (Array.push e (.cells #[.int .u64 a,.int .u64 c] 70)) ⟨h.size,1,none⟩)=(some b))∧(cf 121 #[.pointer d,.slice (some ⟨e.size,0,none⟩) 2 2] (Array.push e (.cells #[.int .u64 a,.int .u64 c] 70)) λa a=>K (.tuple #[]) a))))))))
def F122 (K:Value→Wa1→Prop) (h:Wa1) (xa xb xc:Option Addr):Prop:=
 (g122 K h (Array.push h (.cells #[.pointer xa,.pointer xb,.pointer xc] 200)))
theorem call122 {K:Value→Wa1→Prop} {h:Wa1} {xa xb xc:Option Addr} (H:F122 K h xa xb xc):Wa5 Tryz.prog 122 #[(.agg #[(.pointer xa),(.pointer xb),(.pointer xc)])] h K:=
 Wa4 Tryz.func122 (by kernel_rfl) (Eq.mp (by kernel_rfl) H)
abbrev g123 (K:Value→Wa1→Prop) (h H1:Wa1):Prop:=
 (lP H1 (Addr.add ⟨h.size,0,none⟩ 2) λa=>nP a λa=>lI .i64 H1 (Addr.add a 1) λa=>ifB (decide (a≤3)) (dl3 H1 h.size λa b c=>cf 182 #[.agg #[a,b,c]] H1 λa a=>K (.tuple #[]) a) (lP H1 (Addr.add ⟨h.size,0,none⟩ 2) λa=>nP a λa=>lI .i64 H1 (Addr.add a 1) λa=>ifB (decide (a≤7)) (dl3 H1 h.size λa b c=>cf 183 #[.agg #[a,b,c]] H1 λa a=>K (.tuple #[]) a) (lP H1 (Addr.add ⟨h.size,0,none⟩ 2) λa=>nP a λa=>lI .i64 H1 (Addr.add a 1) λa=>ifB (decide (a≤9)) (dl3 H1 h.size λa b c=>cf 184 #[.agg #[a,b,c]] H1 λa a=>K (.tuple #[]) a) (dl3 H1 h.size λa b c=>cf 185 #[.agg #[a,b,c]] H1 λa a=>K (.tuple #[]) a))))
def F123 (K:Value→Wa1→Prop) (h:Wa1) (xa xb xc:Option Addr):Prop:=
 (g123 K h (Array.push h (.cells #[.pointer xa,.pointer xb,.pointer xc] 206)))
theorem call123 {K:Value→Wa1→Prop} {h:Wa1} {xa xb xc:Option Addr} (H:F123 K h xa xb xc):Wa5 Tryz.prog 123 #[(.agg #[(.pointer xa),(.pointer xb),(.pointer xc)])] h K:=
 Wa4 Tryz.func123 (by kernel_rfl) (Eq.mp (by kernel_rfl) H)
abbrev g124 (K:Value→Wa1→Prop) (h H1:Wa1):Prop:=
 (lP H1 (Addr.add ⟨h.size,0,none⟩ 2) λa=>da3 H1 ⟨h.size,0,none⟩ λb c d=>cf 186 #[.agg #[b,c,d],.int .i64 0] H1 λb c=>asInt .u64 b λb=>nP a λd=>lI .i64 c (Addr.add d 1) λd=>ifB (d == 4) (ldH c ⟨h.size,0,none⟩ λe=>Wd0 e λf=>da3 c ⟨h.size,0,none⟩ λg i j=>nP a λk=>cf 181 #[.agg #[g,i,j],.int .u64 b,.int .i64 2] c λg i=>asInt .i64 g λg=>ce i h.size 0 e (cf 180 #[.pointer f,.int .i64 g] i λe f=>asInt .u64 e λe=>bd 3 10 (stH f (Addr.add k 5) (.int .u64 e) λe=>nP a λf=>stH e (Addr.add f 1) (.int .i64 5) λe=>K (.tuple #[]) e))) (ifB (d == 5) (nP a λe=>stH c (Addr.add e 1) (.int .i64 0) λe=>da3 e ⟨h.size,0,none⟩ λf g i=>nP a λj=>bd 3 10 (lI .u64 e (Addr.add j 5) λj=>cf 187 #[.agg #[f,g,i],.int .u64 1,.int .u64 b,.int .i64 (IntKind.wrap .i64 j),.bool true] e λe f=>asBool e λe=>ifB e (da3 f ⟨h.size,0,none⟩ λe g i=>cf 178 #[.agg #[e,g,i],.int .i64 6,.int .i64 14,.slice (some ⟨f.size,0,none⟩) 1 1] (Array.push f (.cells #[.int .u64 1] 70)) λe e=>K (.tuple #[]) e) (K (.tuple #[]) f))) (ifB (d == 6) (da3 c ⟨h.size,0,none⟩ λe f g=>cf 36 #[.int .u64 b] c λb i=>asInt .i64 b λb=>ce i h.size 0 e (((Wa2 i (Addr.add ⟨h.size,0,none⟩ 1))=(some f))∧(((Wa2 i (Addr.add ⟨h.size,0,none⟩ 2))=(some g))∧(((Wa2 (Array.push i (.cells #[.int .u64 (IntKind.wrap .u64 b)] 70)) ⟨h.size,0,none⟩)=(some e))∧(((Wa2 (Array.push i (.cells #[.int .u64 (IntKind.wrap .u64 b)] 70)) (Addr.add ⟨h.size,0,none⟩ 1))=(some f))∧(((Wa2 (Array.push i (.cells #[.int .u64 (IntKind.wrap .u64 b)] 70)) (Addr.add ⟨h.size,0,none⟩ 2))=(some g))∧(cf 178 #[.agg #[e,f,g],.int .i64 7,.int .i64 5,.slice (some ⟨i.size,0,none⟩) 1 1] (Array.push i (.cells #[.int .u64 (IntKind.wrap .u64 b)] 70)) λb b=>K (.tuple #[]) b))))))) (ifB (d == 7) (da3 c ⟨h.size,0,none⟩ λb d e=>nP a λf=>bd 1 10 (lI .u64 c (Addr.add f 3) λf=>nP a λa=>bd 2 10 (lI .u64 c (Addr.add a 4) λa=>cf 188 #[.agg #[b,d,e],.int .u64 2,.int .u64 f,.int .u64 a] c λa a=>K (.tuple #[]) a))) (dl3 c h.size λa b d=>cf 189 #[.agg #[a,b,d]] c λa a=>K (.tuple #[]) a)))))
def F124 (K:Value→Wa1→Prop) (h:Wa1) (xa xb xc:Option Addr):Prop:=
 (g124 K h (Array.push h (.cells #[.pointer xa,.pointer xb,.pointer xc] 207)))
theorem call124 {K:Value→Wa1→Prop} {h:Wa1} {xa xb xc:Option Addr} (H:F124 K h xa xb xc):Wa5 Tryz.prog 124 #[(.agg #[(.pointer xa),(.pointer xb),(.pointer xc)])] h K:=
 Wa4 Tryz.func124 (by kernel_rfl) (Eq.mp (by kernel_rfl) H)
abbrev g125 (K:Value→Wa1→Prop) (h H1:Wa1):Prop:=
 (lP H1 (Addr.add ⟨h.size,0,none⟩ 2) λa=>nP a λb=>bd 0 10 (lI .u64 H1 (Addr.add b 2) λb=>nP a λc=>lI .i64 H1 (Addr.add c 1) λc=>ifB (c == 4) (da3 H1 ⟨h.size,0,none⟩ λd e f=>cf 178 #[.agg #[d,e,f],.int .i64 5,.int .i64 10,.slice (some ⟨H1.size,0,none⟩) 1 1] (Array.push H1 (.cells #[.int .u64 (IntKind.wrap .u64 (2*b))] 70)) λd d=>K (.tuple #[]) d) (ifB (c == 5) (dl3 H1 h.size λd e f=>cf 190 #[.agg #[d,e,f],.int .i64 3,.int .i64 6,.int .u64 (IntKind.wrap .u64 (2*b))] H1 λd d=>exI λI18=>(nP a λe=>lI .i64 d (Addr.add e 1) λe=>ifB (e == 6) (lP d (Addr.add ⟨h.size,0,none⟩ 1) λe=>cf 120 #[.pointer e] d λe f=>Wd0 e λe=>YM9 Tryz.prog .eql 197 e a f λe f=>asBool e λe=>I18 [.bool e] f) (I18 [.bool false] d))∧(∀(d:Value) (e:Env) (e:Wa1),(I18 [d] e)→(asBool d λd=>ifB d (da3 e ⟨h.size,0,none⟩ λd f g=>cf 178 #[.agg #[d,f,g],.int .i64 6,.int .i64 10,.slice (some ⟨e.size,0,none⟩) 1 1] (Array.push e (.cells #[.int .u64 (IntKind.wrap .u64 ((IntKind.wrap .u64 (2*b))+1))] 70)) λd d=>K (.tuple #[]) d) (K (.tuple #[]) e)))) (ifB (c == 6) (dl3 H1 h.size λd e f=>cf 190 #[.agg #[d,e,f],.int .i64 5,.int .i64 7,.int .u64 (IntKind.wrap .u64 ((IntKind.wrap .u64 (2*b))+1))] H1 λd d=>K (.tuple #[]) d) (ifB (c == 7) (exI λI44=>(nP a λc=>bd 4 10 (lI .u64 H1 (Addr.add c 6) λc=>nP a λd=>bd 6 10 (lI .u64 H1 (Addr.add d 8) λd=>ifB (decide (c≤d)) (nP a λc=>bd 4 10 (lI .u64 H1 (Addr.add c 6) λc=>nP a λd=>bd 2 10 (lI .u64 H1 (Addr.add d 4) λd=>I44 [.bool (decide (c < d)),.bool (decide (c < d))] H1))) (I44 [.bool false,.bool false] H1))))∧(∀(c d:Value) (e:Env) (e:Wa1),(I44 [c,d] e)→(asBool c λc=>ifB c (dl3 e h.size λc d f=>cf 191 #[.agg #[c,d,f],.int .i64 3,.int .u64 (IntKind.wrap .u64 (2*b))] e λc c=>K (.tuple #[]) c) (exI λI67=>(nP a λc=>bd 6 10 (lI .u64 e (Addr.add c 8) λc=>nP a λd=>bd 4 10 (lI .u64 e (Addr.add d 6) λd=>ifB (decide (c < d)) (nP a λc=>bd 6 10 (lI .u64 e (Addr.add c 8) λc=>nP a λa=>bd 2 10 (lI .u64 e (Addr.add a 4) λa=>I67 [.bool (decide (c < a)),.bool (decide (c < a))] e))) (I67 [.bool false,.bool false] e))))∧(∀(a c:Value) (d:Env) (d:Wa1),(I67 [a,c] d)→(asBool a λa=>ifB a (dl3 d h.size λa c e=>cf 191 #[.agg #[a,c,e],.int .i64 5,.int .u64 (IntKind.wrap .u64 ((IntKind.wrap .u64 (2*b))+1))] d λa a=>K (.tuple #[]) a) (dl3 d h.size λa b c=>cf 192 #[.agg #[a,b,c]] d λa a=>K (.tuple #[]) a))))))) (dl3 H1 h.size λa b c=>cf 193 #[.agg #[a,b,c]] H1 λa a=>K (.tuple #[]) a))))))
def F125 (K:Value→Wa1→Prop) (h:Wa1) (xa xb xc:Option Addr):Prop:=
 (g125 K h (Array.push h (.cells #[.pointer xa,.pointer xb,.pointer xc] 208)))
theorem call125 {K:Value→Wa1→Prop} {h:Wa1} {xa xb xc:Option Addr} (H:F125 K h xa xb xc):Wa5 Tryz.prog 125 #[(.agg #[(.pointer xa),(.pointer xb),(.pointer xc)])] h K:=
 Wa4 Tryz.func125 (by kernel_rfl) (Eq.mp (by kernel_rfl) H)
abbrev g178 (K:Value→Wa1→Prop) (h H1:Wa1) (xa xb:Int) (xc:Option Addr) (xd xe:Nat):Prop:=
 (lP H1 ⟨h.size,2,none⟩ λa=>nP a λa=>stH H1 (Addr.add a 1) (.int .i64 xa) λa=>lP a ⟨h.size,1,none⟩ λb=>cf 73 #[.pointer b,.int .i64 xb,.slice xc xd xe] a λa a=>K (.tuple #[]) a)
def F178 (K:Value→Wa1→Prop) (h:Wa1) (xa xb xc:Option Addr) (xd xe:Int) (xf:Option Addr) (xg xh:Nat):Prop:=
 (g178 K h (Array.push h (.cells #[.pointer xa,.pointer xb,.pointer xc] 200)) xd xe xf xg xh)
theorem call178 {K:Value→Wa1→Prop} {h:Wa1} {xa xb xc:Option Addr} {xd xe:Int} {xf:Option Addr} {xg xh:Nat} (H:F178 K h xa xb xc xd xe xf xg xh):Wa5 Tryz.prog 178 #[(.agg #[(.pointer xa),(.pointer xb),(.pointer xc)]),(.int .i64 xd),(.int .i64 xe),(.slice xf xg xh)] h K:=
 Wa4 Tryz.func178 (by kernel_rfl) (Eq.mp (by kernel_rfl) H)
abbrev g179 (K:Value→Wa1→Prop) (h H1:Wa1) (xa:Int):Prop:=
 (lP H1 ⟨h.size,0,none⟩ λa=>cf 79 #[.pointer a] H1 λa b=>asAgg a λa=>We5 a 15 (Wu0 a λa c d e f g i j k l m n o p q=>cf 85 #[.agg #[a,c,d,e,f,g,i,j,k,l,m,n,o,p,q],.int .i64 (IntKind.wrap .i64 xa)] b λa b=>asInt .i64 a λa=>K (.int .i64 a) b))
def F179 (K:Value→Wa1→Prop) (h:Wa1) (xa xb xc:Option Addr) (xd:Int):Prop:=
 (g179 K h (Array.push h (.cells #[.pointer xa,.pointer xb,.pointer xc] 200)) xd)
theorem call179 {K:Value→Wa1→Prop} {h:Wa1} {xa xb xc:Option Addr} {xd:Int} (H:F179 K h xa xb xc xd):Wa5 Tryz.prog 179 #[(.agg #[(.pointer xa),(.pointer xb),(.pointer xc)]),(.int .u64 xd)] h K:=
 Wa4 Tryz.func179 (by kernel_rfl) (Eq.mp (by kernel_rfl) H)
abbrev g181 (K:Value→Wa1→Prop) (h H1:Wa1) (xa xb:Int):Prop:=
 (lP H1 ⟨h.size,0,none⟩ λa=>cf 79 #[.pointer a] H1 λa b=>asAgg a λa=>We5 a 15 (Wu0 a λa c d e f g i j k l m n o p q=>cf 36 #[.int .u64 xa] b λb r=>asInt .i64 b λb=>cf 99 #[.agg #[a,c,d,e,f,g,i,j,k,l,m,n,o,p,q],.int .i64 b,.int .i64 xb] r λa b=>asInt .i64 a λa=>K (.int .i64 a) b))
def F181 (K:Value→Wa1→Prop) (h:Wa1) (xa xb xc:Option Addr) (xd xe:Int):Prop:=
 (g181 K h (Array.push h (.cells #[.pointer xa,.pointer xb,.pointer xc] 200)) xd xe)
theorem call181 {K:Value→Wa1→Prop} {h:Wa1} {xa xb xc:Option Addr} {xd xe:Int} (H:F181 K h xa xb xc xd xe):Wa5 Tryz.prog 181 #[(.agg #[(.pointer xa),(.pointer xb),(.pointer xc)]),(.int .u64 xd),(.int .i64 xe)] h K:=
 Wa4 Tryz.func181 (by kernel_rfl) (Eq.mp (by kernel_rfl) H)
abbrev g182 (K:Value→Wa1→Prop) (h H1:Wa1):Prop:=
 (lP H1 (Addr.add ⟨h.size,0,none⟩ 2) λa=>nP a λb=>lI .i64 H1 (Addr.add b 1) λb=>ifB (b == 0) (da3 H1 ⟨h.size,0,none⟩ λc d e=>cf 178 #[.agg #[c,d,e],.int .i64 1,.int .i64 1,.slice none 0 0] H1 λc c=>K (.tuple #[]) c) (ifB (b == 1) (lP H1 (Addr.add ⟨h.size,0,none⟩ 1) λc=>nP c λc=>bd 0 3 (lI .u64 H1 (Addr.add c 2) λc=>nP a λd=>bd 2 10 (stH H1 (Addr.add d 4) (.int .u64 c) λc=>nP a λd=>bd 2 10 (lI .u64 c (Addr.add d 4) λd=>ifB (d != 0) (nP a λd=>stH c (Addr.add d 1) (.int .i64 2) λd=>K (.tuple #[]) d) (exI λI22=>(nP a λd=>bd 3 10 (lI .u64 c (Addr.add d 5) λd=>ifB (d == 0) (lP c (Addr.add ⟨h.size,0,none⟩ 1) λd=>nP d λd=>cf 257 #[.pointer (some (Addr.add d 8))] c λd e=>asInt .i64 d λd=>I22 [.bool (decide (d > 0)),.bool (decide (d > 0))] e) (I22 [.bool false,.bool false] c)))∧(∀(c d:Value) (e:Env) (e:Wa1),(I22 [c,d] e)→(asBool c λc=>ifB c (nP a λc=>bd 3 10 (stH e (Addr.add c 5) (.int .u64 1) λc=>da3 c ⟨h.size,0,none⟩ λd f g=>cf 178 #[.agg #[d,f,g],.int .i64 0,.int .i64 6,.slice none 0 0] c λc c=>K (.tuple #[]) c)) (da3 e ⟨h.size,0,none⟩ λc d f=>cf 188 #[.agg #[c,d,f],.int .u64 1,.int .u64 0,.int .u64 0] e λc c=>K (.tuple #[]) c)))))))) (ifB (b == 2) (ldH H1 ⟨h.size,0,none⟩ λc=>Wd0 c λd=>lP H1 ⟨h.size,0,none⟩ λe=>nP a λf=>bd 2 10 (ldH H1 (Addr.add f 4) λg=>asInt .u64 g λi=>nP a λj=>bd 0 10 (ldH H1 (Addr.add j 2) λk=>asInt .u64 k λl=>cf 79 #[.pointer e] H1 λe m=>asAgg e λe=>We5 e 15 (Wu0 e λe n o p q r s t u v w x y z A=>((Wa2 m (Addr.add j 2))=(some k))∧(((Wa2 m (Addr.add f 4))=(some g))∧(ce m h.size 0 c (cf 99 #[.agg #[e,n,o,p,q,r,s,t,u,v,w,x,y,z,A],.int .i64 (IntKind.wrap .i64 i),.int .i64 0] m λe f=>asInt .i64 e λe=>((Wa2 f (Addr.add j 2))=(some k))∧(ce f h.size 0 c (cf 258 #[.pointer d,.int .i64 e,.int .u64 l] f λc c=>nP a λd=>stH c (Addr.add d 1) (.int .i64 3) λc=>K (.tuple #[]) c))))))))) (ifB (b == 3) (ldH H1 ⟨h.size,0,none⟩ λb=>Wd0 b λc=>lP H1 ⟨h.size,0,none⟩ λd=>nP a λe=>bd 2 10 (ldH H1 (Addr.add e 4) λf=>asInt .u64 f λg=>nP a λi=>bd 1 10 (ldH H1 (Addr.add i 3) λj=>asInt .u64 j λk=>cf 79 #[.pointer d] H1 λd l=>asAgg d λd=>We5 d 15 (Wu0 d λd m n o p q r s t u v w x y z=>((Wa2 l (Addr.add i 3))=(some j))∧(((Wa2 l (Addr.add e 4))=(some f))∧(ce l h.size 0 b (cf 99 #[.agg #[d,m,n,o,p,q,r,s,t,u,v,w,x,y,z],.int .i64 (IntKind.wrap .i64 g),.int .i64 1] l λd e=>asInt .i64 d λd=>((Wa2 e (Addr.add i 3))=(some j))∧(ce e h.size 0 b (cf 258 #[.pointer c,.int .i64 d,.int .u64 k] e λb b=>nP a λc=>bd 3 10 (stH b (Addr.add c 5) (.int .u64 0) λb=>nP a λa=>stH b (Addr.add a 1) (.int .i64 4) λa=>K (.tuple #[]) a)))))))))) (K (.tuple #[]) H1)))))
def F182 (K:Value→Wa1→Prop) (h:Wa1) (xa xb xc:Option Addr):Prop:=
 (g182 K h (Array.push h (.cells #[.pointer xa,.pointer xb,.pointer xc] 206)))
theorem call182 {K:Value→Wa1→Prop} {h:Wa1} {xa xb xc:Option Addr} (H:F182 K h xa xb xc):Wa5 Tryz.prog 182 #[(.agg #[(.pointer xa),(.pointer xb),(.pointer xc)])] h K:=
 Wa4 Tryz.func182 (by kernel_rfl) (Eq.mp (by kernel_rfl) H)
abbrev g183 (K:Value→Wa1→Prop) (h H1:Wa1):Prop:=
 (lP H1 (Addr.add ⟨h.size,0,none⟩ 2) λa=>lP H1 ⟨h.size,0,none⟩ λb=>cf 79 #[.pointer b] H1 λb c=>asAgg b λb=>We5 b 15 (Wu0 b λb d e f g i j k l m n o p q r=>cf 80 #[.agg #[b,d,e,f,g,i,j,k,l,m,n,o,p,q,r]] c λb c=>asAgg b λb=>We5 b 7 (de7 b λb d e f g i j=>stH (Array.push c (.cells #[.int .i64 0,.int .i64 0,.int .i64 0,.int .i64 0,.int .i64 0,.int .i64 0,.int .i64 0] 23)) ⟨c.size,0,none⟩ b λb=>stH b ⟨c.size,1,none⟩ d λb=>stH b ⟨c.size,2,none⟩ e λb=>stH b ⟨c.size,3,none⟩ f λb=>stH b ⟨c.size,4,none⟩ g λb=>stH b ⟨c.size,5,none⟩ i λb=>stH b ⟨c.size,6,none⟩ j λb=>nP a λd=>lI .i64 b (Addr.add d 1) λd=>ifB (d == 4) (lP b ⟨h.size,0,none⟩ λe=>nP a λf=>cf 180 #[.pointer e,.int .i64 2] b λe g=>asInt .u64 e λe=>bd 4 10 (stH g (Addr.add f 6) (.int .u64 e) λe=>nP a λf=>bd 4 10 (lI .u64 e (Addr.add f 6) λf=>lP e ⟨h.size,0,none⟩ λg=>nP a λi=>cf 260 #[.pointer g] e λe g=>Wd0 e λe=>cf 262 #[.int .i64 (IntKind.wrap .i64 f)] g λg j=>asInt .i64 g λg=>cf 261 #[.pointer e,.int .i64 g] j λe g=>asInt .i64 e λe=>cf 259 #[.int .i64 (IntKind.wrap .i64 f),.int .i64 e] g λe f=>asInt .i64 e λe=>bd 5 10 (stH f (Addr.add i 7) (.int .u64 (IntKind.wrap .u64 e)) λe=>nP a λf=>stH e (Addr.add f 1) (.int .i64 5) λe=>K (.tuple #[]) e)))) (ifB (d == 5) (da3 b ⟨h.size,0,none⟩ λe f g=>nP a λi=>bd 5 10 (lI .u64 b (Addr.add i 7) λi=>((Wa2 (Array.push b (.cells #[.int .u64 i] 70)) ⟨h.size,0,none⟩)=(some e))∧(((Wa2 (Array.push b (.cells #[.int .u64 i] 70)) (Addr.add ⟨h.size,0,none⟩ 1))=(some f))∧(((Wa2 (Array.push b (.cells #[.int .u64 i] 70)) (Addr.add ⟨h.size,0,none⟩ 2))=(some g))∧(cf 178 #[.agg #[e,f,g],.int .i64 6,.int .i64 10,.slice (some ⟨b.size,0,none⟩) 1 1] (Array.push b (.cells #[.int .u64 i] 70)) λe e=>K (.tuple #[]) e))))) (ifB (d == 6) (lP b (Addr.add ⟨h.size,0,none⟩ 1) λe=>nP e λe=>bd 1 3 (lI .u64 b (Addr.add e 3) λe=>nP a λf=>bd 0 10 (lI .u64 b (Addr.add f 2) λf=>ifB (decide (e ≥ f)) (dl3 b h.size λe f g=>nP a λi=>bd 4 10 (lI .u64 b (Addr.add i 6) λi=>cf 264 #[.int .i64 (IntKind.wrap .i64 i)] b λi j=>asAgg i λi=>We5 i 2 (de2 i λi k=>ce j h.size 0 e (ce j h.size 1 f (ce j h.size 2 g (cf 263 #[.agg #[e,f,g],.agg #[i,k]] j λe e=>nP a λf=>stH e (Addr.add f 1) (.int .i64 8) λe=>K (.tuple #[]) e)))))) (nP a λe=>bd 3 10 (lI .u64 b (Addr.add e 5) λe=>nP a λf=>bd 3 10 (stH b (Addr.add f 5) (.int .u64 (IntKind.wrap .u64 (e+1))) λe=>nP a λf=>stH e (Addr.add f 1) (.int .i64 4) λe=>nP a λf=>bd 3 10 (lI .u64 e (Addr.add f 5) λf=>lI .i64 e ⟨c.size,5,none⟩ λg=>ifB (decide ((IntKind.wrap .i64 f) ≥ g)) (nP a λf=>stH e (Addr.add f 1) (.int .i64 7) λf=>K (.tuple #[]) f) (K (.tuple #[]) e)))))))) (ifB (d == 7) (nP a λd=>bd 4 10 (lI .u64 b (Addr.add d 6) λd=>lI .i64 b ⟨c.size,3,none⟩ λc=>ifB (decide ((IntKind.wrap .i64 d) ≥ c)) (da3 b ⟨h.size,0,none⟩ λc d e=>cf 188 #[.agg #[c,d,e],.int .u64 1,.int .u64 0,.int .u64 0] b λc c=>ldH c (Addr.add ⟨h.size,0,none⟩ 1) λd=>Wd0 d λe=>nP a λf=>bd 2 10 (lI .u64 c (Addr.add f 4) λf=>((Wa2 (Array.push c (.cells #[.int .u64 f] 70)) (Addr.add ⟨h.size,0,none⟩ 1))=(some d))∧(cf 73 #[.pointer e,.int .i64 5,.slice (some ⟨c.size,0,none⟩) 1 1] (Array.push c (.cells #[.int .u64 f] 70)) λc c=>K (.tuple #[]) c))) (lP b ⟨h.size,0,none⟩ λc=>nP a λd=>bd 4 10 (lI .u64 b (Addr.add d 6) λd=>nP a λe=>bd 4 10 (lI .u64 b (Addr.add e 6) λe=>cf 265 #[.pointer c,.int .i64 2,.int .u64 d,.int .u64 (IntKind.wrap .u64 (e+1))] b λc d=>asBool c λc=>nP a λc=>bd 3 10 (stH d (Addr.add c 5) (.int .u64 0) λc=>nP a λa=>stH c (Addr.add a 1) (.int .i64 4) λa=>K (.tuple #[]) a)))))) (K (.tuple #[]) b)))))))
def F183 (K:Value→Wa1→Prop) (h:Wa1) (xa xb xc:Option Addr):Prop:=
 (g183 K h (Array.push h (.cells #[.pointer xa,.pointer xb,.pointer xc] 206)))
theorem call183 {K:Value→Wa1→Prop} {h:Wa1} {xa xb xc:Option Addr} (H:F183 K h xa xb xc):Wa5 Tryz.prog 183 #[(.agg #[(.pointer xa),(.pointer xb),(.pointer xc)])] h K:=
 Wa4 Tryz.func183 (by kernel_rfl) (Eq.mp (by kernel_rfl) H)
abbrev g184 (K:Value→Wa1→Prop) (h H1:Wa1):Prop:=
 (dl3 H1 h.size λa b c=>cf 266 #[.agg #[a,b,c]] H1 λa b=>asAgg a λa=>We5 a 2 (de2 a λa c=>stH (Array.push b (.cells #[.int .i64 0,.int .i64 0] 338)) ⟨b.size,0,none⟩ a λa=>stH a ⟨b.size,1,none⟩ c λa=>lP a (Addr.add ⟨h.size,0,none⟩ 2) λc=>nP c λc=>lI .i64 a (Addr.add c 1) λc=>ifB (c == 8) (dl2 a b.size λd e=>cf 267 #[.agg #[d,e]] a λd e=>asBool d λd=>ifB d (lP e (Addr.add ⟨h.size,0,none⟩ 2) λd=>nP d λd=>stH e (Addr.add d 1) (.int .i64 10) λd=>K (.tuple #[]) d) (da3 e ⟨h.size,0,none⟩ λd f g=>dl3 e h.size λi j k=>dl2 e b.size λl m=>cf 269 #[.agg #[l,m]] e λe l=>asInt .i64 e λe=>ce l h.size 0 i (ce l h.size 1 j (ce l h.size 2 k (ce l h.size 0 d (((Wa2 l (Addr.add ⟨h.size,0,none⟩ 1))=(some f))∧(((Wa2 l (Addr.add ⟨h.size,0,none⟩ 2))=(some g))∧(cf 268 #[.agg #[i,j,k],.int .i64 e] l λe i=>asInt .u64 e λe=>ce i h.size 0 d (((Wa2 i (Addr.add ⟨h.size,0,none⟩ 1))=(some f))∧(((Wa2 i (Addr.add ⟨h.size,0,none⟩ 2))=(some g))∧(((Wa2 (Array.push i (.cells #[.int .u64 e] 70)) ⟨h.size,0,none⟩)=(some d))∧(((Wa2 (Array.push i (.cells #[.int .u64 e] 70)) (Addr.add ⟨h.size,0,none⟩ 1))=(some f))∧(((Wa2 (Array.push i (.cells #[.int .u64 e] 70)) (Addr.add ⟨h.size,0,none⟩ 2))=(some g))∧(cf 178 #[.agg #[d,f,g],.int .i64 9,.int .i64 10,.slice (some ⟨i.size,0,none⟩) 1 1] (Array.push i (.cells #[.int .u64 e] 70)) λd d=>K (.tuple #[]) d)))))))))))))) (ifB (c == 9) (dl3 a h.size λc d e=>dl2 a b.size λb f=>lP a (Addr.add ⟨h.size,0,none⟩ 1) λg=>nP g λg=>bd 1 3 (lI .u64 a (Addr.add g 3) λg=>lP a (Addr.add ⟨h.size,0,none⟩ 2) λi=>nP i λi=>bd 0 10 (lI .u64 a (Addr.add i 2) λi=>cf 270 #[.agg #[b,f],.bool (decide (g ≥ i))] a λb f=>asAgg b λb=>We5 b 2 (de2 b λb g=>ce f h.size 0 c (ce f h.size 1 d (ce f h.size 2 e (cf 263 #[.agg #[c,d,e],.agg #[b,g]] f λb b=>lP b (Addr.add ⟨h.size,0,none⟩ 2) λc=>nP c λc=>stH b (Addr.add c 1) (.int .i64 8) λb=>K (.tuple #[]) b))))))) (K (.tuple #[]) a))))
def F184 (K:Value→Wa1→Prop) (h:Wa1) (xa xb xc:Option Addr):Prop:=
 (g184 K h (Array.push h (.cells #[.pointer xa,.pointer xb,.pointer xc] 206)))
theorem call184 {K:Value→Wa1→Prop} {h:Wa1} {xa xb xc:Option Addr} (H:F184 K h xa xb xc):Wa5 Tryz.prog 184 #[(.agg #[(.pointer xa),(.pointer xb),(.pointer xc)])] h K:=
 Wa4 Tryz.func184 (by kernel_rfl) (Eq.mp (by kernel_rfl) H)
abbrev g185 (K:Value→Wa1→Prop) (h H1:Wa1):Prop:=
 (lP H1 (Addr.add ⟨h.size,0,none⟩ 2) λa=>dl3 H1 h.size λb c d=>dl3 H1 h.size λe f g=>cf 266 #[.agg #[e,f,g]] H1 λe f=>asAgg e λe=>We5 e 2 (de2 e λe g=>ce f h.size 0 b (ce f h.size 1 c (ce f h.size 2 d (asInt .i64 e λe=>cf 268 #[.agg #[b,c,d],.int .i64 e] f λb c=>asInt .u64 b λb=>da3 c ⟨h.size,0,none⟩ λd e f=>cf 186 #[.agg #[d,e,f],.int .i64 3] c λc d=>asInt .u64 c λc=>nP a λe=>lI .i64 d (Addr.add e 1) λe=>ifB (e == 10) (da3 d ⟨h.size,0,none⟩ λf g i=>cf 178 #[.agg #[f,g,i],.int .i64 11,.int .i64 10,.slice (some ⟨d.size,0,none⟩) 1 1] (Array.push d (.cells #[.int .u64 b] 70)) λf f=>K (.tuple #[]) f) (ifB (e == 11) (lP d (Addr.add ⟨h.size,0,none⟩ 1) λf=>nP f λf=>bd 1 3 (lI .u64 d (Addr.add f 3) λf=>nP a λg=>bd 0 10 (lI .u64 d (Addr.add g 2) λg=>ifB (decide (f < g)) (nP a λf=>bd 3 10 (stH d (Addr.add f 5) (.int .u64 0) λf=>nP a λg=>stH f (Addr.add g 1) (.int .i64 4) λf=>K (.tuple #[]) f)) (lP d (Addr.add ⟨h.size,0,none⟩ 1) λf=>nP f λf=>bd 0 3 (lI .u64 d (Addr.add f 2) λf=>nP a λg=>bd 3 10 (stH d (Addr.add g 5) (.int .u64 f) λf=>ldH f ⟨h.size,0,none⟩ λg=>Wd0 g λi=>lP f ⟨h.size,0,none⟩ λj=>nP a λk=>bd 2 10 (ldH f (Addr.add k 4) λl=>asInt .u64 l λm=>da3 f ⟨h.size,0,none⟩ λn o p=>cf 79 #[.pointer j] f λf j=>asAgg f λf=>We5 f 15 (Wu0 f λf q r s t u v w x y z A B C D=>ce j h.size 0 n (((Wa2 j (Addr.add ⟨h.size,0,none⟩ 1))=(some o))∧(((Wa2 j (Addr.add ⟨h.size,0,none⟩ 2))=(some p))∧(((Wa2 j (Addr.add k 4))=(some l))∧(ce j h.size 0 g (cf 99 #[.agg #[f,q,r,s,t,u,v,w,x,y,z,A,B,C,D],.int .i64 (IntKind.wrap .i64 m),.int .i64 2] j λf j=>asInt .i64 f λf=>ce j h.size 0 n (((Wa2 j (Addr.add ⟨h.size,0,none⟩ 1))=(some o))∧(((Wa2 j (Addr.add ⟨h.size,0,none⟩ 2))=(some p))∧(ce j h.size 0 g (cf 186 #[.agg #[n,o,p],.int .i64 3] j λj k=>asInt .u64 j λj=>ce k h.size 0 g (cf 36 #[.int .u64 j] k λj k=>asInt .i64 j λj=>ce k h.size 0 g (cf 258 #[.pointer i,.int .i64 f,.int .u64 (IntKind.wrap .u64 j)] k λf f=>nP a λg=>stH f (Addr.add g 1) (.int .i64 13) λf=>ifB (b == 1) (nP a λg=>stH f (Addr.add g 1) (.int .i64 12) λg=>K (.tuple #[]) g) (K (.tuple #[]) f)))))))))))))))))))) (ifB (e == 12) (dl3 d h.size λf g i=>da3 d ⟨h.size,0,none⟩ λj k l=>nP a λm=>bd 2 10 (ldH d (Addr.add m 4) λn=>asInt .u64 n λo=>cf 32 #[.int .u64 c] d λp q=>asBool p λp=>((Wa2 q (Addr.add m 4))=(some n))∧(ce q h.size 0 j (((Wa2 q (Addr.add ⟨h.size,0,none⟩ 1))=(some k))∧(((Wa2 q (Addr.add ⟨h.size,0,none⟩ 2))=(some l))∧(dc3 q h.size f g i (cf 187 #[.agg #[j,k,l],.int .u64 1,.int .u64 c,.int .i64 (IntKind.wrap .i64 o),.bool p] q λj k=>asBool j λj=>ce k h.size 0 f (ce k h.size 1 g (ce k h.size 2 i (cf 271 #[.agg #[f,g,i],.bool j] k λf f=>K (.tuple #[]) f)))))))))) (ifB (e == 13) (da3 d ⟨h.size,0,none⟩ λf g i=>((2:Int)≠0)∧(cf 178 #[.agg #[f,g,i],.int .i64 14,.int .i64 10,.slice (some ⟨d.size,0,none⟩) 1 1] (Array.push d (.cells #[.int .u64 (IntKind.wrap .u64 (Int.tdiv b 2))] 70)) λf f=>K (.tuple #[]) f)) (ifB (e == 14) (lP d (Addr.add ⟨h.size,0,none⟩ 1) λe=>nP e λe=>bd 1 3 (lI .u64 d (Addr.add e 3) λe=>nP a λf=>bd 0 10 (lI .u64 d (Addr.add f 2) λf=>ifB (decide (e > f)) (dl3 d h.size λe f g=>cf 271 #[.agg #[e,f,g],.bool false] d λe e=>K (.tuple #[]) e) (dl3 d h.size λe f g=>ldH d ⟨h.size,0,none⟩ λi=>Wd0 i λj=>da3 d ⟨h.size,0,none⟩ λk l m=>nP a λa=>bd 2 10 (ldH d (Addr.add a 4) λn=>asInt .u64 n λo=>da3 d ⟨h.size,0,none⟩ λp q r=>((2:Int)≠0)∧(ldH d (Addr.add ⟨h.size,0,none⟩ 1) λs=>Wd0 s λt=>nP t λt=>bd 0 3 (ldH d (Addr.add t 2) λu=>asInt .u64 u λv=>cf 179 #[.agg #[k,l,m],.int .u64 b] d λk l=>asInt .i64 k λk=>((Wa2 l (Addr.add t 2))=(some u))∧(((Wa2 l (Addr.add ⟨h.size,0,none⟩ 1))=(some s))∧(ce l h.size 0 p (((Wa2 l (Addr.add ⟨h.size,0,none⟩ 1))=(some q))∧(((Wa2 l (Addr.add ⟨h.size,0,none⟩ 2))=(some r))∧(((Wa2 l (Addr.add a 4))=(some n))∧(ce l h.size 0 i (dc3 l h.size e f g (cf 32 #[.int .u64 c] l λl m=>asBool l λl=>((Wa2 m (Addr.add t 2))=(some u))∧(((Wa2 m (Addr.add ⟨h.size,0,none⟩ 1))=(some s))∧(ce m h.size 0 p (((Wa2 m (Addr.add ⟨h.size,0,none⟩ 1))=(some q))∧(((Wa2 m (Addr.add ⟨h.size,0,none⟩ 2))=(some r))∧(((Wa2 m (Addr.add a 4))=(some n))∧(ce m h.size 0 i (dc3 m h.size e f g (cf 273 #[.int .u64 c,.int .i64 (IntKind.wrap .i64 o),.bool l] m λa l=>asInt .u64 a λa=>((Wa2 l (Addr.add t 2))=(some u))∧(((Wa2 l (Addr.add ⟨h.size,0,none⟩ 1))=(some s))∧(ce l h.size 0 p (((Wa2 l (Addr.add ⟨h.size,0,none⟩ 1))=(some q))∧(((Wa2 l (Addr.add ⟨h.size,0,none⟩ 2))=(some r))∧(ce l h.size 0 i (dc3 l h.size e f g (cf 179 #[.agg #[p,q,r],.int .u64 (IntKind.wrap .u64 (Int.tdiv b 2))] l λb l=>asInt .i64 b λb=>((Wa2 l (Addr.add t 2))=(some u))∧(((Wa2 l (Addr.add ⟨h.size,0,none⟩ 1))=(some s))∧(ce l h.size 0 i (dc3 l h.size e f g (cf 272 #[.pointer j,.int .i64 k,.int .u64 c,.int .u64 a,.int .i64 b,.int .u64 v] l λa b=>asBool a λa=>ce b h.size 0 e (ce b h.size 1 f (ce b h.size 2 g (cf 271 #[.agg #[e,f,g],.bool a] b λa a=>K (.tuple #[]) a))))))))))))))))))))))))))))))))))))) (K (.tuple #[]) d))))))))))
def F185 (K:Value→Wa1→Prop) (h:Wa1) (xa xb xc:Option Addr):Prop:=
 (g185 K h (Array.push h (.cells #[.pointer xa,.pointer xb,.pointer xc] 206)))
theorem call185 {K:Value→Wa1→Prop} {h:Wa1} {xa xb xc:Option Addr} (H:F185 K h xa xb xc):Wa5 Tryz.prog 185 #[(.agg #[(.pointer xa),(.pointer xb),(.pointer xc)])] h K:=
 Wa4 Tryz.func185 (by kernel_rfl) (Eq.mp (by kernel_rfl) H)
abbrev g186 (K:Value→Wa1→Prop) (h H1:Wa1) (xa:Int):Prop:=
 (lP H1 ⟨h.size,2,none⟩ λa=>nP a λa=>bd xa 10 (ldH H1 (Addr.add (Addr.add a 2) (xa.toNat*1)) λa=>asInt .u64 a λa=>K (.int .u64 a) H1))
def F186 (K:Value→Wa1→Prop) (h:Wa1) (xa xb xc:Option Addr) (xd:Int):Prop:=
 (g186 K h (Array.push h (.cells #[.pointer xa,.pointer xb,.pointer xc] 200)) xd)
theorem call186 {K:Value→Wa1→Prop} {h:Wa1} {xa xb xc:Option Addr} {xd:Int} (H:F186 K h xa xb xc xd):Wa5 Tryz.prog 186 #[(.agg #[(.pointer xa),(.pointer xb),(.pointer xc)]),(.int .i64 xd)] h K:=
 Wa4 Tryz.func186 (by kernel_rfl) (Eq.mp (by kernel_rfl) H)
abbrev g187 (K:Value→Wa1→Prop) (h H1:Wa1) (xa xb xc:Int) (xd:Bool):Prop:=
 (ldH H1 ⟨h.size,0,none⟩ λa=>Wd0 a λb=>dl3 H1 h.size λc d e=>cf 179 #[.agg #[c,d,e],.int .u64 xa] H1 λc d=>asInt .i64 c λc=>ce d h.size 0 a (cf 273 #[.int .u64 xb,.int .i64 xc,.bool xd] d λd e=>asInt .u64 d λd=>ce e h.size 0 a (cf 265 #[.pointer b,.int .i64 c,.int .u64 xb,.int .u64 d] e λa b=>asBool a λa=>K (.bool a) b)))
def F187 (K:Value→Wa1→Prop) (h:Wa1) (xa xb xc:Option Addr) (xd xe xf:Int) (xg:Bool):Prop:=
 (g187 K h (Array.push h (.cells #[.pointer xa,.pointer xb,.pointer xc] 200)) xd xe xf xg)
theorem call187 {K:Value→Wa1→Prop} {h:Wa1} {xa xb xc:Option Addr} {xd xe xf:Int} {xg:Bool} (H:F187 K h xa xb xc xd xe xf xg):Wa5 Tryz.prog 187 #[(.agg #[(.pointer xa),(.pointer xb),(.pointer xc)]),(.int .u64 xd),(.int .u64 xe),(.int .i64 xf),(.bool xg)] h K:=
 Wa4 Tryz.func187 (by kernel_rfl) (Eq.mp (by kernel_rfl) H)
abbrev g188 (K:Value→Wa1→Prop) (h H1:Wa1) (xa xb xc:Int):Prop:=
 (lP H1 ⟨h.size,2,none⟩ λa=>ldH H1 ⟨h.size,2,none⟩ λb=>Wd0 b λc=>ldH H1 ⟨h.size,2,none⟩ λd=>Wd0 d λe=>nP a λa=>bd 7 10 (nP c λc=>nP e λe=>stH H1 (Addr.add a 9) (.int .u64 xa) λa=>ce a h.size 2 d (ce a h.size 2 b (bd 8 10 (stH a (Addr.add c 10) (.int .u64 xb) λa=>ce a h.size 2 d (bd 9 10 (stH a (Addr.add e 11) (.int .u64 xc) λa=>dl3 a h.size λb c d=>cf 178 #[.agg #[b,c,d],.int .i64 90,.int .i64 4,.slice none 0 0] a λa a=>K (.tuple #[]) a)))))))
def F188 (K:Value→Wa1→Prop) (h:Wa1) (xa xb xc:Option Addr) (xd xe xf:Int):Prop:=
 (g188 K h (Array.push h (.cells #[.pointer xa,.pointer xb,.pointer xc] 200)) xd xe xf)
theorem call188 {K:Value→Wa1→Prop} {h:Wa1} {xa xb xc:Option Addr} {xd xe xf:Int} (H:F188 K h xa xb xc xd xe xf):Wa5 Tryz.prog 188 #[(.agg #[(.pointer xa),(.pointer xb),(.pointer xc)]),(.int .u64 xd),(.int .u64 xe),(.int .u64 xf)] h K:=
 Wa4 Tryz.func188 (by kernel_rfl) (Eq.mp (by kernel_rfl) H)
abbrev g189 (K:Value→Wa1→Prop) (h H1:Wa1):Prop:=
 (lP H1 (Addr.add ⟨h.size,0,none⟩ 2) λa=>da3 H1 ⟨h.size,0,none⟩ λb c d=>cf 186 #[.agg #[b,c,d],.int .i64 0] H1 λb c=>asInt .u64 b λb=>nP a λd=>lI .i64 c (Addr.add d 1) λd=>ifB (d == 0) (da3 c ⟨h.size,0,none⟩ λe f g=>da3 c ⟨h.size,0,none⟩ λi j k=>cf 179 #[.agg #[i,j,k],.int .u64 1] c λi j=>asInt .i64 i λi=>ce j h.size 0 e (((Wa2 j (Addr.add ⟨h.size,0,none⟩ 1))=(some f))∧(((Wa2 j (Addr.add ⟨h.size,0,none⟩ 2))=(some g))∧(((Wa2 (Array.push j (.cells #[.int .u64 0,.int .u64 (IntKind.wrap .u64 i)] 70)) ⟨h.size,0,none⟩)=(some e))∧(((Wa2 (Array.push j (.cells #[.int .u64 0,.int .u64 (IntKind.wrap .u64 i)] 70)) (Addr.add ⟨h.size,0,none⟩ 1))=(some f))∧(((Wa2 (Array.push j (.cells #[.int .u64 0,.int .u64 (IntKind.wrap .u64 i)] 70)) (Addr.add ⟨h.size,0,none⟩ 2))=(some g))∧(cf 178 #[.agg #[e,f,g],.int .i64 1,.int .i64 3,.slice (some ⟨j.size,0,none⟩) 2 2] (Array.push j (.cells #[.int .u64 0,.int .u64 (IntKind.wrap .u64 i)] 70)) λe e=>K (.tuple #[]) e))))))) (ifB (d == 1) (lP c (Addr.add ⟨h.size,0,none⟩ 1) λe=>nP e λe=>bd 0 3 (lI .u64 c (Addr.add e 2) λe=>nP a λf=>bd 0 10 (stH c (Addr.add f 2) (.int .u64 e) λe=>nP a λf=>stH e (Addr.add f 1) (.int .i64 2) λe=>da3 e ⟨h.size,0,none⟩ λf g i=>cf 186 #[.agg #[f,g,i],.int .i64 0] e λe f=>asInt .u64 e λe=>cf 32 #[.int .u64 e] f λe f=>asBool e λe=>ifB e (da3 f ⟨h.size,0,none⟩ λe g i=>cf 178 #[.agg #[e,g,i],.int .i64 0,.int .i64 14,.slice (some ⟨f.size,0,none⟩) 1 1] (Array.push f (.cells #[.int .u64 1] 70)) λe e=>K (.tuple #[]) e) (da3 f ⟨h.size,0,none⟩ λe g i=>cf 186 #[.agg #[e,g,i],.int .i64 0] f λe f=>asInt .u64 e λe=>cf 36 #[.int .u64 e] f λe f=>asInt .i64 e λe=>ifB (e == 0) (da3 f ⟨h.size,0,none⟩ λe g i=>cf 188 #[.agg #[e,g,i],.int .u64 3,.int .u64 0,.int .u64 0] f λe e=>K (.tuple #[]) e) (K (.tuple #[]) f))))) (ifB (d == 2) (ldH c ⟨h.size,0,none⟩ λe=>Wd0 e λf=>da3 c ⟨h.size,0,none⟩ λg i j=>nP a λk=>cf 181 #[.agg #[g,i,j],.int .u64 b,.int .i64 0] c λg i=>asInt .i64 g λg=>ce i h.size 0 e (cf 180 #[.pointer f,.int .i64 g] i λe f=>asInt .u64 e λe=>bd 1 10 (stH f (Addr.add k 3) (.int .u64 e) λe=>nP a λf=>stH e (Addr.add f 1) (.int .i64 3) λe=>K (.tuple #[]) e))) (ifB (d == 3) (ldH c ⟨h.size,0,none⟩ λd=>Wd0 d λe=>da3 c ⟨h.size,0,none⟩ λf g i=>nP a λj=>cf 181 #[.agg #[f,g,i],.int .u64 b,.int .i64 1] c λb f=>asInt .i64 b λb=>ce f h.size 0 d (cf 180 #[.pointer e,.int .i64 b] f λb d=>asInt .u64 b λb=>bd 2 10 (stH d (Addr.add j 4) (.int .u64 b) λb=>nP a λd=>stH b (Addr.add d 1) (.int .i64 4) λb=>nP a λd=>lI .i64 b d λd=>ifB (d == 13) (da3 b ⟨h.size,0,none⟩ λd e f=>nP a λg=>bd 1 10 (lI .u64 b (Addr.add g 3) λg=>nP a λa=>bd 2 10 (lI .u64 b (Addr.add a 4) λa=>cf 188 #[.agg #[d,e,f],.int .u64 2,.int .u64 g,.int .u64 a] b λa a=>K (.tuple #[]) a))) (K (.tuple #[]) b)))) (K (.tuple #[]) c)))))
def F189 (K:Value→Wa1→Prop) (h:Wa1) (xa xb xc:Option Addr):Prop:=
 (g189 K h (Array.push h (.cells #[.pointer xa,.pointer xb,.pointer xc] 207)))
theorem call189 {K:Value→Wa1→Prop} {h:Wa1} {xa xb xc:Option Addr} (H:F189 K h xa xb xc):Wa5 Tryz.prog 189 #[(.agg #[(.pointer xa),(.pointer xb),(.pointer xc)])] h K:=
 Wa4 Tryz.func189 (by kernel_rfl) (Eq.mp (by kernel_rfl) H)
abbrev g190 (K:Value→Wa1→Prop) (h H1:Wa1) (xa xb xc:Int):Prop:=
 (lP H1 (Addr.add ⟨h.size,0,none⟩ 2) λa=>lP H1 (Addr.add ⟨h.size,0,none⟩ 1) λb=>nP b λb=>bd 0 3 (lI .u64 H1 (Addr.add b 2) λb=>lP H1 (Addr.add ⟨h.size,0,none⟩ 1) λc=>nP c λc=>bd 1 3 (lI .u64 H1 (Addr.add c 3) λc=>nP a λd=>bd xa 10 (nP a λe=>stH H1 (Addr.add (Addr.add d 2) (xa.toNat*1)) (.int .u64 b) λb=>((0:Int)≤(IntKind.wrap .i64 (xa+1)))∧((((IntKind.wrap .i64 (xa+1)):Int) < 10)∧(stH b (Addr.add (Addr.add e 2) ((IntKind.wrap .i64 (xa+1)).toNat*1)) (.int .u64 c) λb=>nP a λa=>stH b (Addr.add a 1) (.int .i64 xb) λa=>da3 a ⟨h.size,0,none⟩ λb c d=>cf 186 #[.agg #[b,c,d],.int .i64 xa] a λa b=>asInt .u64 a λa=>cf 32 #[.int .u64 a] b λa b=>asBool a λa=>ifB a (da3 b ⟨h.size,0,none⟩ λa c d=>cf 178 #[.agg #[a,c,d],.int .i64 0,.int .i64 14,.slice (some ⟨b.size,0,none⟩) 1 1] (Array.push b (.cells #[.int .u64 xc] 70)) λa a=>K (.tuple #[]) a) (K (.tuple #[]) b)))))))
def F190 (K:Value→Wa1→Prop) (h:Wa1) (xa xb xc:Option Addr) (xd xe xf:Int):Prop:=
 (g190 K h (Array.push h (.cells #[.pointer xa,.pointer xb,.pointer xc] 208)) xd xe xf)
theorem call190 {K:Value→Wa1→Prop} {h:Wa1} {xa xb xc:Option Addr} {xd xe xf:Int} (H:F190 K h xa xb xc xd xe xf):Wa5 Tryz.prog 190 #[(.agg #[(.pointer xa),(.pointer xb),(.pointer xc)]),(.int .i64 xd),(.int .i64 xe),(.int .u64 xf)] h K:=
 Wa4 Tryz.func190 (by kernel_rfl) (Eq.mp (by kernel_rfl) H)
abbrev g191 (K:Value→Wa1→Prop) (h H1:Wa1) (xa xb:Int):Prop:=
 (lP H1 (Addr.add ⟨h.size,0,none⟩ 2) λa=>da3 H1 ⟨h.size,0,none⟩ λb c d=>da3 H1 ⟨h.size,0,none⟩ λe f g=>cf 186 #[.agg #[b,c,d],.int .i64 1] H1 λb c=>asInt .u64 b λb=>ce c h.size 0 e (((Wa2 c (Addr.add ⟨h.size,0,none⟩ 1))=(some f))∧(((Wa2 c (Addr.add ⟨h.size,0,none⟩ 2))=(some g))∧(cf 186 #[.agg #[e,f,g],.int .i64 xa] c λc d=>asInt .u64 c λc=>nP a λe=>stH d (Addr.add e 1) (.int .i64 0) λd=>ldH d ⟨h.size,0,none⟩ λe=>Wd0 e λf=>da3 d ⟨h.size,0,none⟩ λg i j=>nP a λk=>bd 0 10 (lI .u64 d (Addr.add k 2) λk=>da3 d ⟨h.size,0,none⟩ λl m n=>cf 179 #[.agg #[g,i,j],.int .u64 k] d λd g=>asInt .i64 d λd=>ce g h.size 0 l (((Wa2 g (Addr.add ⟨h.size,0,none⟩ 1))=(some m))∧(((Wa2 g (Addr.add ⟨h.size,0,none⟩ 2))=(some n))∧(ce g h.size 0 e (cf 36 #[.int .u64 c] g λg i=>asInt .i64 g λg=>ce i h.size 0 l (((Wa2 i (Addr.add ⟨h.size,0,none⟩ 1))=(some m))∧(((Wa2 i (Addr.add ⟨h.size,0,none⟩ 2))=(some n))∧(ce i h.size 0 e (cf 273 #[.int .u64 b,.int .i64 g,.bool false] i λg i=>asInt .u64 g λg=>ce i h.size 0 l (((Wa2 i (Addr.add ⟨h.size,0,none⟩ 1))=(some m))∧(((Wa2 i (Addr.add ⟨h.size,0,none⟩ 2))=(some n))∧(ce i h.size 0 e (cf 179 #[.agg #[l,m,n],.int .u64 xb] i λi j=>asInt .i64 i λi=>ce j h.size 0 e (cf 36 #[.int .u64 b] j λj k=>asInt .i64 j λj=>ce k h.size 0 e (cf 273 #[.int .u64 c,.int .i64 j,.bool true] k λj k=>asInt .u64 j λj=>ce k h.size 0 e (cf 274 #[.pointer f,.int .i64 d,.int .u64 b,.int .u64 g,.int .i64 i,.int .u64 c,.int .u64 j] k λb c=>asBool b λb=>ifB b (nP a λa=>bd 0 10 (stH c (Addr.add a 2) (.int .u64 xb) λa=>K (.tuple #[]) a)) (K (.tuple #[]) c)))))))))))))))))))))
def F191 (K:Value→Wa1→Prop) (h:Wa1) (xa xb xc:Option Addr) (xd xe:Int):Prop:=
 (g191 K h (Array.push h (.cells #[.pointer xa,.pointer xb,.pointer xc] 208)) xd xe)
theorem call191 {K:Value→Wa1→Prop} {h:Wa1} {xa xb xc:Option Addr} {xd xe:Int} (H:F191 K h xa xb xc xd xe):Wa5 Tryz.prog 191 #[(.agg #[(.pointer xa),(.pointer xb),(.pointer xc)]),(.int .i64 xd),(.int .u64 xe)] h K:=
 Wa4 Tryz.func191 (by kernel_rfl) (Eq.mp (by kernel_rfl) H)
abbrev g192 (K:Value→Wa1→Prop) (h H1:Wa1):Prop:=
 (da3 H1 ⟨h.size,0,none⟩ λa b c=>cf 186 #[.agg #[a,b,c],.int .i64 1] H1 λa b=>asInt .u64 a λa=>lP b (Addr.add ⟨h.size,0,none⟩ 2) λc=>nP c λc=>stH b (Addr.add c 1) (.int .i64 0) λb=>da3 b ⟨h.size,0,none⟩ λc d e=>ldH b (Addr.add ⟨h.size,0,none⟩ 2) λf=>Wd0 f λg=>nP g λg=>bd 0 10 (ldH b (Addr.add g 2) λi=>asInt .u64 i λj=>cf 36 #[.int .u64 a] b λb k=>asInt .i64 b λb=>((Wa2 k (Addr.add g 2))=(some i))∧(((Wa2 k (Addr.add ⟨h.size,0,none⟩ 2))=(some f))∧(ce k h.size 0 c (((Wa2 k (Addr.add ⟨h.size,0,none⟩ 1))=(some d))∧(((Wa2 k (Addr.add ⟨h.size,0,none⟩ 2))=(some e))∧(cf 187 #[.agg #[c,d,e],.int .u64 j,.int .u64 a,.int .i64 b,.bool false] k λa b=>asBool a λa=>ifB a (lP b (Addr.add ⟨h.size,0,none⟩ 1) λa=>cf 121 #[.pointer a,.slice none 0 0] b λa a=>K (.tuple #[]) a) (K (.tuple #[]) b))))))))
def F192 (K:Value→Wa1→Prop) (h:Wa1) (xa xb xc:Option Addr):Prop:=
 (g192 K h (Array.push h (.cells #[.pointer xa,.pointer xb,.pointer xc] 208)))
theorem call192 {K:Value→Wa1→Prop} {h:Wa1} {xa xb xc:Option Addr} (H:F192 K h xa xb xc):Wa5 Tryz.prog 192 #[(.agg #[(.pointer xa),(.pointer xb),(.pointer xc)])] h K:=
 Wa4 Tryz.func192 (by kernel_rfl) (Eq.mp (by kernel_rfl) H)
abbrev g193 (K:Value→Wa1→Prop) (h H1:Wa1):Prop:=
 (lP H1 (Addr.add ⟨h.size,0,none⟩ 2) λa=>nP a λb=>lI .i64 H1 (Addr.add b 1) λb=>ifB (b == 0) (da3 H1 ⟨h.size,0,none⟩ λc d e=>nP a λf=>bd 0 10 (lI .u64 H1 (Addr.add f 2) λf=>((Wa2 (Array.push H1 (.cells #[.int .u64 f] 70)) ⟨h.size,0,none⟩)=(some c))∧(((Wa2 (Array.push H1 (.cells #[.int .u64 f] 70)) (Addr.add ⟨h.size,0,none⟩ 1))=(some d))∧(((Wa2 (Array.push H1 (.cells #[.int .u64 f] 70)) (Addr.add ⟨h.size,0,none⟩ 2))=(some e))∧(cf 178 #[.agg #[c,d,e],.int .i64 1,.int .i64 10,.slice (some ⟨H1.size,0,none⟩) 1 1] (Array.push H1 (.cells #[.int .u64 f] 70)) λc c=>K (.tuple #[]) c))))) (ifB (b == 1) (lP H1 (Addr.add ⟨h.size,0,none⟩ 1) λc=>nP c λc=>bd 0 3 (lI .u64 H1 (Addr.add c 2) λc=>lP H1 (Addr.add ⟨h.size,0,none⟩ 1) λd=>nP d λd=>bd 1 3 (lI .u64 H1 (Addr.add d 3) λd=>nP a λe=>bd 1 10 (nP a λf=>stH H1 (Addr.add e 3) (.int .u64 c) λc=>bd 2 10 (stH c (Addr.add f 4) (.int .u64 d) λc=>nP a λd=>stH c (Addr.add d 1) (.int .i64 2) λc=>da3 c ⟨h.size,0,none⟩ λd e f=>cf 186 #[.agg #[d,e,f],.int .i64 1] c λc d=>asInt .u64 c λc=>cf 32 #[.int .u64 c] d λc d=>asBool c λc=>ifB (!c) (lP d (Addr.add ⟨h.size,0,none⟩ 1) λc=>cf 121 #[.pointer c,.slice none 0 0] d λc c=>K (.tuple #[]) c) (K (.tuple #[]) d)))))) (ifB (b == 2) (nP a λc=>stH H1 (Addr.add c 1) (.int .i64 3) λc=>nP a λd=>bd 0 10 (ldH c (Addr.add d 2) λe=>asInt .u64 e λf=>lP c ⟨h.size,0,none⟩ λg=>cf 180 #[.pointer g,.int .i64 2] c λc g=>asInt .u64 c λc=>((Wa2 g (Addr.add d 2))=(some e))∧(cf 275 #[.int .i64 (IntKind.wrap .i64 f),.int .i64 (IntKind.wrap .i64 c)] g λc d=>asBool c λc=>ifB c (nP a λa=>stH d (Addr.add a 1) (.int .i64 4) λa=>K (.tuple #[]) a) (K (.tuple #[]) d)))) (ifB (b == 3) (dl3 H1 h.size λa b c=>cf 192 #[.agg #[a,b,c]] H1 λa a=>K (.tuple #[]) a) (K (.tuple #[]) H1)))))
def F193 (K:Value→Wa1→Prop) (h:Wa1) (xa xb xc:Option Addr):Prop:=
 (g193 K h (Array.push h (.cells #[.pointer xa,.pointer xb,.pointer xc] 208)))
theorem call193 {K:Value→Wa1→Prop} {h:Wa1} {xa xb xc:Option Addr} (H:F193 K h xa xb xc):Wa5 Tryz.prog 193 #[(.agg #[(.pointer xa),(.pointer xb),(.pointer xc)])] h K:=
 Wa4 Tryz.func193 (by kernel_rfl) (Eq.mp (by kernel_rfl) H)
abbrev g263 (K:Value→Wa1→Prop) (h H1 H2:Wa1):Prop:=
 (lP H2 (Addr.add ⟨h.size,0,none⟩ 2) λa=>lI .i64 H2 ⟨H1.size,0,none⟩ λb=>((0:Int)≤8)∧(lI .i64 H2 ⟨H1.size,1,none⟩ λc=>nP a λa=>bd 6 10 (stH H2 (Addr.add a 8) (.int .u64 (IntKind.wrap .u64 ((((BitVec.ofInt 64 (IntKind.wrap .u64 ((IntKind.wrap .u64 b)*256))) ||| (BitVec.ofInt 64 (IntKind.wrap .u64 c))).toNat:Nat):Int))) λa=>K (.tuple #[]) a)))
def F263 (K:Value→Wa1→Prop) (h:Wa1) (xa xb xc:Option Addr) (xd xe:Int):Prop:=
 (g263 K h (Array.push h (.cells #[.pointer xa,.pointer xb,.pointer xc] 206)) (Array.push (Array.push h (.cells #[.pointer xa,.pointer xb,.pointer xc] 206)) (.cells #[.int .i64 xd,.int .i64 xe] 338)))
theorem call263 {K:Value→Wa1→Prop} {h:Wa1} {xa xb xc:Option Addr} {xd xe:Int} (H:F263 K h xa xb xc xd xe):Wa5 Tryz.prog 263 #[(.agg #[(.pointer xa),(.pointer xb),(.pointer xc)]),(.agg #[(.int .i64 xd),(.int .i64 xe)])] h K:=
 Wa4 Tryz.func263 (by kernel_rfl) (Eq.mp (by kernel_rfl) H)
abbrev g266 (K:Value→Wa1→Prop) (h H1 H2:Wa1):Prop:=
 (lP H2 (Addr.add ⟨h.size,0,none⟩ 2) λa=>nP a λa=>bd 6 10 (lI .u64 H2 (Addr.add a 8) λa=>((0:Int)≤8)∧(lP H2 (Addr.add ⟨h.size,0,none⟩ 2) λb=>nP b λb=>bd 6 10 (lI .u64 H2 (Addr.add b 8) λb=>stH H2 ⟨H1.size,0,none⟩ (.int .i64 (IntKind.wrap .i64 (Int.fdiv a 256))) λa=>stH a ⟨H1.size,1,none⟩ (.int .i64 (IntKind.wrap .i64 (IntKind.wrap .u64 ((((BitVec.ofInt 64 b) &&& (BitVec.ofInt 64 255)).toNat:Nat):Int)))) λa=>dl2 a H1.size λb c=>K (.agg #[b,c]) a))))
def F266 (K:Value→Wa1→Prop) (h:Wa1) (xa xb xc:Option Addr):Prop:=
 (g266 K h (Array.push h (.cells #[.pointer xa,.pointer xb,.pointer xc] 206)) (Array.push (Array.push h (.cells #[.pointer xa,.pointer xb,.pointer xc] 206)) (.cells #[.int .i64 0,.int .i64 0] 338)))
theorem call266 {K:Value→Wa1→Prop} {h:Wa1} {xa xb xc:Option Addr} (H:F266 K h xa xb xc):Wa5 Tryz.prog 266 #[(.agg #[(.pointer xa),(.pointer xb),(.pointer xc)])] h K:=
 Wa4 Tryz.func266 (by kernel_rfl) (Eq.mp (by kernel_rfl) H)
abbrev g268 (K:Value→Wa1→Prop) (h H1:Wa1) (xa:Int):Prop:=
 (lP H1 (Addr.add ⟨h.size,0,none⟩ 2) λa=>nP a λa=>bd 5 10 (lI .u64 H1 (Addr.add a 7) λa=>cf 334 #[.int .i64 (IntKind.wrap .i64 a),.int .i64 xa] H1 λa b=>asInt .i64 a λa=>K (.int .u64 (IntKind.wrap .u64 a)) b))
def F268 (K:Value→Wa1→Prop) (h:Wa1) (xa xb xc:Option Addr) (xd:Int):Prop:=
 (g268 K h (Array.push h (.cells #[.pointer xa,.pointer xb,.pointer xc] 206)) xd)
theorem call268 {K:Value→Wa1→Prop} {h:Wa1} {xa xb xc:Option Addr} {xd:Int} (H:F268 K h xa xb xc xd):Wa5 Tryz.prog 268 #[(.agg #[(.pointer xa),(.pointer xb),(.pointer xc)]),(.int .i64 xd)] h K:=
 Wa4 Tryz.func268 (by kernel_rfl) (Eq.mp (by kernel_rfl) H)
abbrev g271 (K:Value→Wa1→Prop) (h H1:Wa1) (xa:Bool):Prop:=
 (ifB xa (da3 H1 ⟨h.size,0,none⟩ λa b c=>cf 188 #[.agg #[a,b,c],.int .u64 0,.int .u64 0,.int .u64 0] H1 λa a=>K (.tuple #[]) a) (lP H1 (Addr.add ⟨h.size,0,none⟩ 2) λa=>nP a λa=>bd 3 10 (stH H1 (Addr.add a 5) (.int .u64 0) λa=>lP a (Addr.add ⟨h.size,0,none⟩ 2) λb=>nP b λb=>stH a (Addr.add b 1) (.int .i64 4) λa=>K (.tuple #[]) a)))
def F271 (K:Value→Wa1→Prop) (h:Wa1) (xa xb xc:Option Addr) (xd:Bool):Prop:=
 (g271 K h (Array.push h (.cells #[.pointer xa,.pointer xb,.pointer xc] 206)) xd)
theorem call271 {K:Value→Wa1→Prop} {h:Wa1} {xa xb xc:Option Addr} {xd:Bool} (H:F271 K h xa xb xc xd):Wa5 Tryz.prog 271 #[(.agg #[(.pointer xa),(.pointer xb),(.pointer xc)]),(.bool xd)] h K:=
 Wa4 Tryz.func271 (by kernel_rfl) (Eq.mp (by kernel_rfl) H)
end
section
open Mod
abbrev rV (M T b o:Nat):Value:=.agg #[mP M,mP T,fP b o]
theorem Wx3 {p:Pl} (B:PlB p) (n f:Int):iN (p.node n f):=by
 have h1:=B.no
 have h2:=B.wi
 have h3:=B.nd
 have h4:=B.li
 unfold Pl.node
 split
 ·rename_i c
  have:(n - 1)*p.width≤64*11:=Int.mul_le_mul (by omega) (by omega) (by omega) (by omega)
  have h0:0≤(n - 1)*p.width:=Int.mul_nonneg (by omega) (by omega)
  constructor <;> omega
 ·constructor <;> omega
theorem Yr5 {p:Pl} (B:PlB p) (n:Int):iN (p.at n):=by
 have h1:=B.tr
 have h2:=B.si
 have h3:=B.nd
 have h4:=B.li
 unfold Pl.at
 split <;> constructor <;> omega
theorem Yr6 {u v:Int} (h1:U u) (h2:U v):∀w ∈ [u,v],U w:=by
 intro w hw
 simp only [List.mem_cons,List.not_mem_nil,or_false] at hw
 rcases hw with rfl | rfl
 ·exact h1
 ·exact h2
section
variable {K:Value→Wa1→Prop} {h:Wa1} {M T b o N:Nat} {tv:Value} {fo:Option (Nat × Nat)} {x:Run} {R:Hp}
theorem Wg5 (i:Nat) (hi:Nat.ble (i+1) 10=true) (H:Sat h (RunS M T tv (some (b,o)) x R)) (k:∀h',Sat h' (RunS M T tv (some (b,o)) x R)→K (.int .u64 (x.f.g i)) h') :
  Wa5 Tryz.prog 186 #[rV M T b o,.int .i64 (i:Int)] h K:=by
 refine call186 ?_
 unfold F186 g186 bd lP nP
 have H1:=RunS.new H (.cells #[mP M,mP T,fP b o] 200);generalize h.push (.cells #[mP M,mP T,fP b o] 200)=h1 at *;generalize h.size=N at *
 have hi':i < 10:=by rw [Nat.ble_eq] at hi;omega
 try simp only [Wa7,bsx,Nat.reduceAdd,Int.reduceLE,Int.reduceLT,Int.reduceToNat,RunS.l H1]
 refine ⟨by omega,by omega,?_⟩
 rw [show o+(2+i)=o+(i+2) by omega,RunS.rg H1 hi]
 try simp only [Wa7,bsx,Nat.reduceAdd,Int.reduceLE,Int.reduceLT,Int.reduceToNat]
 exact k h1 (RunS.drp H1)
theorem Wv9 (H:Sat h (RunS M T tv (some (b,o)) x R)) {pc fn:Int} {a:Option Addr} {l c:Nat} {rs:List Int} (A:Args R a l c rs) (hl:l≤10) (hd:x.t.fr.length < 1073741823)
  (k:∀h' b' o',¬ (b' = b∧o' = o)→WW9 h' (some (b,o)) (x.pc pc).f→Sat h' (RunS M T tv (some (b',o')) (x.call pc fn rs) R)→K (.tuple #[]) h') :
  Wa5 Tryz.prog 178 #[rV M T b o,.int .i64 pc,.int .i64 fn,.slice a l c] h K:=by
 refine call178 ?_
 unfold F178 g178 cf lP nP
 have H1:=RunS.new H (.cells #[mP M,mP T,fP b o] 200);generalize h.push (.cells #[mP M,mP T,fP b o] 200)=h1 at *;generalize h.size=N at *
 try simp only [Wa7,bsx,Nat.reduceAdd,Int.reduceLE,Int.reduceLT,Int.reduceToNat,RunS.l H1]
 refine RunS.stP H1 λh2 H2=>?_
 try simp only [Wa7,bsx,Nat.reduceAdd,Int.reduceLE,Int.reduceLT,Int.reduceToNat,RunS.l H2]
 refine Wa0 (Yz3 H2 A.skip hl (by show (x.t.fr.dropLast ++ [_]).length < _;simp;omega) λh3 b' o' h1 h2 H3=>k h3 b' o' (λe=>h1 b o rfl e) h2 (RunS.drp H3))
theorem YV6 (H:Sat h (RunS M T tv fo x R)) {l:Nat} (rs:List Int) {ty:TypeId} (hr:rs.length=l) (hu:∀v ∈ rs,U v) (hl:Nat.ble l 3=true) (k:∀h',Sat h' (RunS M T tv none (x.pop rs) R)→K (.tuple #[]) h') :
 Wa5 Tryz.prog 121 #[mP T,.slice (some ⟨h.size,0,none⟩) l l] (h.push (.cells (uvs rs).toArray ty)) K:=Yf5 H rs hr hu (Nat.le_of_ble_eq_true hl) k
theorem Wq7 (H:Sat h (RunS M T tv (some (b,o)) x R)) {pc fn:Int} {l:Nat} (rs:List Int) {ty:TypeId} (hr:rs.length=l) (hu:∀v ∈ rs,U v) (hl:Nat.ble l 10=true) (hd:x.t.fr.length < 1073741823)
  (k:∀h' b' o',¬ (b' = b∧o' = o)→WW9 h' (some (b,o)) (x.pc pc).f→Sat h' (RunS M T tv (some (b',o')) (x.call pc fn rs) R)→K (.tuple #[]) h') :
  Wa5 Tryz.prog 178 #[rV M T b o,.int .i64 pc,.int .i64 fn,.slice (some ⟨h.size,0,none⟩) l l] (h.push (.cells (uvs rs).toArray ty)) K:=
 Wv9 (RunS.new H (.cells (uvs rs).toArray ty)) (Args.mk' hr hu) (Nat.le_of_ble_eq_true hl) hd λh' b' o' h1 h2 H'=>k h' b' o' h1 h2 (RunS.drp H')
theorem Ws5 (H:Sat h (RunS M T tv fo x R)) {pl:Int} (k:∀h',Sat h' (RunS M T tv fo x R)→K (.int .i64 (x.at pl)) h') :
  Wa5 Tryz.prog 179 #[rV M T b o,.int .u64 pl] h K:=by
 refine call179 ?_
 unfold F179 g179 cf lP Wu0
 have H1:=RunS.new H (.cells #[mP M,mP T,fP b o] 200);generalize h.push (.cells #[mP M,mP T,fP b o] 200)=h1 at *;generalize h.size=N at *
 try simp only [Wa7,bsx,Nat.reduceAdd,Int.reduceLE,Int.reduceLT,Int.reduceToNat,RunS.l H1]
 refine Wa0 (WB4 H1 λh2 H2=>WR4 ?_)
 refine Wa0 (WG5 (RunS.pl H) (Wl0 _) λh3 o3=>?_)
 try simp only [Wa7,bsx,Nat.reduceAdd,Int.reduceLE,Int.reduceLT,Int.reduceToNat]
 exact k h3 (RunS.drp (RunS.old H2 o3))
theorem Ww0 (H:Sat h (RunS M T tv fo x R)) {w f:Int} (hw:U w) (hf:iN f) (k:∀h',Sat h' (RunS M T tv fo x R)→K (.int .i64 (x.nodeW w f)) h') :
  Wa5 Tryz.prog 181 #[rV M T b o,.int .u64 w,.int .i64 f] h K:=by
 refine call181 ?_
 unfold F181 g181 cf lP Wu0
 have H1:=RunS.new H (.cells #[mP M,mP T,fP b o] 200);generalize h.push (.cells #[mP M,mP T,fP b o] 200)=h1 at *;generalize h.size=N at *
 try simp only [Wa7,bsx,Nat.reduceAdd,Int.reduceLE,Int.reduceLT,Int.reduceToNat,RunS.l H1]
 refine Wa0 (WB4 H1 λh2 H2=>WR4 ?_)
 refine Wa0 (Wi0 hw ?_)
 try simp only [Wa7,bsx,Nat.reduceAdd,Int.reduceLE,Int.reduceLT,Int.reduceToNat]
 refine Wa0 (Wf8 (RunS.pl H) (WR2 _) hf λh3 o3=>?_)
 try simp only [Wa7,bsx,Nat.reduceAdd,Int.reduceLE,Int.reduceLT,Int.reduceToNat]
 exact k h3 (RunS.drp (RunS.old H2 o3))
theorem Wx4 (H:Sat h (RunS M T tv fo x R)) {pl w ptr:Int} {d:Bool} (hw:U w) (hs:x.m.mm.st < 1099511627776) (k:∀h',Sat h' (RunS M T tv fo (x.swing pl w ptr d).2 R)→K (.bool (x.swing pl w ptr d).1) h') :
  Wa5 Tryz.prog 187 #[rV M T b o,.int .u64 pl,.int .u64 w,.int .i64 ptr,.bool d] h K:=by
 refine call187 ?_
 unfold F187 g187 cf ce dl3
 have H1:=RunS.new H (.cells #[mP M,mP T,fP b o] 200);generalize h.push (.cells #[mP M,mP T,fP b o] 200)=h1 at *;generalize h.size=N at *
 try simp only [Wa7,bsx,Nat.reduceAdd,Int.reduceLE,Int.reduceLT,Int.reduceToNat,RunS.l H1]
 refine Wa0 (Ws5 H1 λh2 H2=>?_)
 try simp only [Wa7,bsx,Nat.reduceAdd,Int.reduceLE,Int.reduceLT,Int.reduceToNat,RunS.l H2]
 refine Wa0 (Wq5 hw ?_)
 try simp only [Wa7,bsx,Nat.reduceAdd,Int.reduceLE,Int.reduceLT,Int.reduceToNat,RunS.l H2]
 refine Wa0 (YU8 H2 (Yr5 (RunS.pl H) _) WG4 hs λh3 H3=>?_)
 try simp only [Wa7,bsx,Nat.reduceAdd,Int.reduceLE,Int.reduceLT,Int.reduceToNat]
 exact k h3 (RunS.drp H3)
theorem Wq8 (H:Sat h (RunS M T tv (some (b,o)) x R)) {k7 k8 k9:Int} (h7:U k7) (h8:U k8) (h9:U k9) (hd:x.t.fr.length < 1073741823)
  (k:∀h' b' o',¬ (b' = b∧o' = o)→WW9 h' (some (b,o)) ((((x.s 7 k7).s 8 k8).s 9 k9).pc 90).f→Sat h' (RunS M T tv (some (b',o')) (x.fin k7 k8 k9) R)→K (.tuple #[]) h') :
  Wa5 Tryz.prog 188 #[rV M T b o,.int .u64 k7,.int .u64 k8,.int .u64 k9] h K:=by
 refine call188 ?_
 unfold F188 g188 cf ce bd lP nP dl3
 have H1:=RunS.new H (.cells #[mP M,mP T,fP b o] 200);generalize h.push (.cells #[mP M,mP T,fP b o] 200)=h1 at *;generalize h.size=N at *
 try simp only [Wa7,bsx,Nat.reduceAdd,Int.reduceLE,Int.reduceLT,Int.reduceToNat,RunS.l H1]
 refine RunS.stR (i:=7) H1 rfl h7 λh2 H2=>?_
 try simp only [Wa7,bsx,Nat.reduceAdd,Int.reduceLE,Int.reduceLT,Int.reduceToNat,RunS.l H2]
 refine RunS.stR (i:=8) H2 rfl h8 λh3 H3=>?_
 try simp only [Wa7,bsx,Nat.reduceAdd,Int.reduceLE,Int.reduceLT,Int.reduceToNat,RunS.l H3]
 refine RunS.stR (i:=9) H3 rfl h9 λh4 H4=>?_
 try simp only [Wa7,bsx,Nat.reduceAdd,Int.reduceLE,Int.reduceLT,Int.reduceToNat,RunS.l H4]
 refine Wa0 (Wv9 H4 Args.none (by omega) ?_ λh5 b' o' h1 h2 H5=>k h5 b' o' h1 h2 (RunS.drp H5))
 have e:=List.length_pos_iff.2 (W30 (RunS.thr H))
 show ((((x.t.fr.dropLast ++ [_]).dropLast ++ [_]).dropLast) ++ [_]).length < _
 simp
 omega
theorem YV7 (H:Sat h (RunS M T tv (some (b,o)) x R)):0 < x.t.fr.length:=List.length_pos_iff.2 (W30 (RunS.thr H))
theorem Yg5 (H:Sat h (RunS M T tv (some (b,o)) x R)) (hs:x.m.mm.st < 1099511627776) (hd:x.t.fr.length < 1073741823) (k:∀h',Sat h' (RunS M T tv none (WQ0 x) R)→K (.tuple #[]) h') :
  Wa5 Tryz.prog 122 #[rV M T b o] h K:=by
 refine call122 ?_
 unfold F122 g122 cf ce bd lP lI nP dl3
 have B:=RunS.fB H
 have P:=RunS.pl H
 unfold WQ0 at k
 have H1:=RunS.new H (.cells #[mP M,mP T,fP b o] 200);generalize h.push (.cells #[mP M,mP T,fP b o] 200)=h1 at *;generalize h.size=N at *
 try simp +decide only [Wa7,bsx,Nat.reduceAdd,Int.reduceLE,Int.reduceLT,Int.reduceToNat,rsx,g_s,Wb6,RunS.l H1,RunS.r H1,RunS.tc H1]
 refine Wa6 (λc=>?_) (λc=>?_)
 ·rw [if_pos c] at k
  refine Wa0 (Ws5 H1 λh2 H2=>?_)
  try simp +decide only [Wa7,bsx,Nat.reduceAdd,Int.reduceLE,Int.reduceLT,Int.reduceToNat,rsx,g_s,Wb6,RunS.l H2,RunS.c H2]
  refine Wa0 (Wq7 H2 [1,u64 (x.at (x.f.g 0))] rfl (Yr6 (U.lit rfl) (Wt1 _)) rfl hd λh4 b' o' _ _ H4=>k h4 (RunS.drp (RunS.none H4)))
 ·rw [if_neg c] at k
  have hr:=(RunS.B H).ret.2
  have hr0:U (x.ret 0):=WW2 hr 0
  refine Wa0 (Wi0 hr0 ?_)
  try simp +decide only [Wa7,bsx,Nat.reduceAdd,Int.reduceLE,Int.reduceLT,Int.reduceToNat,rsx,g_s,Wb6,RunS.l H1]
  refine Wa6 (λc2=>?_) (λc2=>?_)
  ·rw [if_pos c2] at k
   exact Wa0 (YV6 H1 [x.ret 0,1099511627776] rfl (Yr6 hr0 (U.lit rfl)) rfl λh2 H2=>k h2 (RunS.drp H2))
  ·rw [if_neg c2] at k
   refine Wa0 (Ww0 H1 hr0 (by decide) λh2 H2=>?_)
   try simp only [Wa7,bsx,Nat.reduceAdd,Int.reduceLE,Int.reduceLT,Int.reduceToNat,RunS.l H2]
   refine Wa0 (WH5 H2 (Wx3 P _ _) hs λh3 H3 u3=>?_)
   try simp only [Wa7,bsx,Nat.reduceAdd,Int.reduceLE,Int.reduceLT,Int.reduceToNat,RunS.l H3]
   exact Wa0 (YV6 H3 [x.ret 0,(x.load (x.nodeW (x.ret 0) 0)).1] rfl (Yr6 hr0 u3) rfl λh4 H4=>k h4 (RunS.drp H4))
end
end
end Go.Proofs.YtooaemmlgkdfoaaGreat
