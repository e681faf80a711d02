/- Part 13 of what the proofs of this seat rest on: see the last text of the claim. -/
import Derived.Test.YtahpbclnkofhfaaGreatQ8551ee7daa5c
import Derived.Test.YtahpbclnkofhfaaGreatProg
set_option linter.unusedSimpArgs false
set_option linter.unusedVariables false
set_option linter.ambiguousOpen false
set_option maxRecDepth 20000
open Go.Proofs.Tryz (prog)
open Go.IntKind (wrap)
namespace Go.Proofs.YtahpbclnkofhfaaGreat
section
set_option maxHeartbeats 1000000
open Mod
section
variable {K:kQ} {h:A2} {R:Hp}
theorem rdS {a:rQ} {xs:List CC} {i:Nat} (hs:N5 h a (xs.flatMap Ai)) (hi:i < xs.length) {F:vQ->vQ->vQ->vQ->vQ->vQ->vQ->vQ->vQ->Prop}
  (k:F (iQ xs[i].th) (iQ xs[i].kind) (dQ xs[i].done) (iQ xs[i].w1.1) (iQ xs[i].w1.2.1) (iQ xs[i].w1.2.2) (iQ xs[i].w2.1) (iQ xs[i].w2.2.1) (iQ xs[i].w2.2.2)) :
  F3 (pQ a) λad=>D2 h (ad.add (i*9)) λv0=>D2 h ((ad.add (i*9)).add 1) λv1=>D2 h ((ad.add (i*9)).add 2) λv2=>D2 h ((ad.add (i*9)).add 3) λv3=>D2 h ((ad.add (i*9)).add 4) λv4=>D2 h ((ad.add (i*9)).add 5) λv5=>D2 h ((ad.add (i*9)).add 6) λv6=>D2 h ((ad.add (i*9)).add 7) λv7=>D2 h ((ad.add (i*9)).add 8) λv8=>F v0 v1 v2 v3 v4 v5 v6 v7 v8:=by
 have g:∀j,j < 9->(xs.flatMap Ai)[i*9+j]? = (Ai xs[i])[j]?:=λj hj=>N0 DZ hi hj
 generalize xs[i]=x at *
 obtain ⟨ad,ea,q0⟩:=hs (i*9+0) (.int .i64 x.th) (g 0 (by omega))
 subst ea
 have q:∀j v,j < 9->(Ai x)[j]? = some v->A3 h ((ad.add (i*9)).add j)=some v:=λj v hj e=>by
  obtain ⟨_,ea,q1⟩:=hs (i*9+j) v ((g j hj).trans e)
  cases ea
  rw [Z7];exact q1
 exact C6 q0 (C6 (q 1 _ (by omega) rfl) (C6 (q 2 _ (by omega) rfl) (C6 (q 3 _ (by omega) rfl) (C6 (q 4 _ (by omega) rfl) (C6 (q 5 _ (by omega) rfl) (C6 (q 6 _ (by omega) rfl) (C6 (q 7 _ (by omega) rfl) (C6 (q 8 _ (by omega) rfl) k))))))))
theorem SW (x:CC):∀y ∈ Ai x,J0 y True:=by
 intro y hy
 simp only [Ai,ED,GF,or_false] at hy
 rcases hy with rfl | rfl | rfl | rfl | rfl | rfl | rfl | rfl | rfl <;> trivial
def Sj8 (g:vQ) (R:Hp) (P:CC->Bool):Prop:=∀(x:CC) (h:A2) (Y:Hp) (F:kQ),A9 h (Y*R)->(∀h',G9 h.size h h'->F (dQ (P x)) h')->Aj prog g #[.agg (Ai x).toArray] h F
theorem Sd1 {xs:List CC} {a:rQ} {c:Nat} {g:vQ} {P:CC->Bool} (H:A9 h (E8 51 9 a xs.length c (xs.flatMap Ai)*R)) (hl:xs.length < 2 ^ 60) (Hg:Sj8 g R P)
  (k0:(∀x ∈ xs,P x=false)->∀h',G9 h.size h h'->K (iQ (-1)) h')
  (k1:∀i (hi:i < xs.length),P xs[i]=true->(∀x ∈ xs.take i,P x=false)->∀h',G9 h.size h h'->K (iQ i) h') :
  A4 prog 135 #[lQ a xs.length c,g] h K:=by
 refine call135 ?_
 unfold F135 bd
 refine ⟨λvs h'=>∃(w0 w1:vQ) (i:Nat),vs = [w0,w1,.int .i64 i]/\i<=xs.length/\G9 h.size h h'/\∀x ∈ xs.take i,P x=false,λvs _=>match vs with | [_,_,.int _ n]=>xs.length - n.toNat | _=>0,⟨_,_,0,rfl,T4 _,G9.refl _ _,λx hx=>by simp at hx⟩,?_⟩
 rintro v2 v3 v4 g5 h6 ⟨w0,w1,i,e,hi,o6,hall⟩
 cases e
 simp only [A5]
 have H6:=H.old o6
 apply A6<;>intro c1
 ·have hi':i < xs.length:=by omega
  refine ⟨by omega,by omega,?_⟩
  simp only [X5]
  refine rdS H6.own.sees hi' ?_
  refine Hg xs[i] h6 _ _ H6 λh13 o13=>?_
  have ok13:=o6.trans (o13.mono o6.1)
  simp only [C0]
  apply D1<;>intro hb
  ·exact k1 i hi' hb hall h13 ok13
  ·rw [N8 (by omega)]
   refine ⟨⟨_,_,i+1,rfl,by omega,ok13,λx hx=>?_⟩,by show xs.length - ((i+1:Nat):Int).toNat < xs.length - (i:Int).toNat;omega⟩
   rw [Ab hi',GR] at hx
   rcases hx with hx | hx
   ·exact hall x hx
   ·rw [Fq.1 hx];exact hb
 ·refine k0 (λx hx=>hall x ?_) h6 o6
  rw [Dg (by omega)];exact hx
theorem QR (x:CC):∀(l:List CC) (i:Nat),i < l.length->(l.flatMap Ai).take (i*9) ++ Ai x ++ (l.flatMap Ai).drop (i*9+9)=(l.set i x).flatMap Ai
 | [],i,hi=>by simp at hi
 | y :: l,0,_=>by
  show [] ++ Ai x ++ (Ai y ++ l.flatMap Ai).drop (Ai y).length=Ai x ++ l.flatMap Ai
  rw [List.drop_left,OG]
 | y :: l,i+1,hi=>by
  have ih:=QR x l i (by simp at hi;omega)
  rw [Tk,Kv,Kv,<- ih]
  rw [show (i+1)*9=(Ai y).length+i*9 by rw [DZ];omega,show (Ai y).length+i*9+9=(Ai y).length+(i*9+9) by omega,List.take_length_add_append,List.drop_length_add_append]
  simp
theorem A9.own_wr {h':A2} {elem:TypeId} {sz:Nat} {a:rQ} {l c l' c':Nat} {xs xs':List vQ} (H:A9 h (E8 elem sz a l c xs*R)) (fr:Fr (GU a) h h') (ow:CS h' elem sz a l' c' xs'):A9 h' (E8 elem sz a l' c' xs' * R):=by
 obtain ⟨_,_,re⟩:=H.opn
 exact re h' (GU a) _ fr (λb hb=>⟨.inl hb,ow.lt2 hb⟩) ow.nd λh'' e=>ow.congr e
theorem Tg8:((Value.agg #[iQ 0,iQ 0,dQ false,iQ 0,iQ 0,iQ 0,iQ 0,iQ 0,iQ 0]).cells).size=M2 prog 51:=by kernel_rfl
theorem Tg9:∀y ∈ (Value.agg #[iQ 0,iQ 0,dQ false,iQ 0,iQ 0,iQ 0,iQ 0,iQ 0,iQ 0]).cells.toList,J0 y True:=by
 intro y hy
 have:y ∈ Ai ⟨0,0,false,(0,0,0),(0,0,0)⟩:=hy
 exact SW _ y this
theorem Sd2 {xs:List CC} {a:rQ} {c:Nat} {g:vQ} {P:CC->Bool} (H:A9 h (E8 51 9 a xs.length c (xs.flatMap Ai)*R)) (hl:xs.length < 2 ^ 60) (Hg:Sj8 g R P)
  (k:∀h' ys,ys=xs.filter (λx=>!P x)->A9 h' (E8 51 9 a ys.length c (ys.flatMap Ai)*R)->K (lQ a ys.length c) h') :
  A4 prog 90 #[lQ a xs.length c,g] h K:=by
 refine call90 ?_
 unfold F90 cf bd dl9
 refine A0 (Sd1 H hl Hg (λhn h1 o1=>?_) λi0 hi0 hp hn h1 o1=>?_)
 ·simp only [A5]
  refine D1 (λ_=>?_) (λhh=>by simp at hh)
  refine k h1 xs ?_ (H.old o1)
  symm
  rw [List.filter_eq_self]
  intro x hx
  rw [hn x hx];rfl
 simp only [A5]
 refine D1 (λhh=>by simp at hh) (λ_=>?_)
 rw [N8 (by omega)]
 obtain ⟨D,hD⟩ : ∃D:CC->Bool,D=λx=>!P x:=⟨_,rfl⟩
 rw [<- hD] at k
 have f0:(xs.take (i0+1)).filter D=xs.take i0:=by
  rw [Ab hi0,QW]
  have e1:(xs.take i0).filter D=xs.take i0:=by
   rw [List.filter_eq_self]
   intro x hx
   rw [hD];show (!P x)=true
   rw [hn x hx];rfl
  rw [e1]
  simp [hD,hp]
 have oc:=H.own.2.1
 refine ⟨λvs h'=>∃(i j:Nat) (ys:List CC),vs = [.int .i64 i,.int .i64 j]/\j<=xs.length/\i=((xs.take j).filter D).length/\i < j/\ys.length=xs.length/\ys.take i=(xs.take j).filter D/\(∀q,j<=q->ys[q]? = xs[q]?)/\A9 h' (E8 51 9 a xs.length c (ys.flatMap Ai)*R),λvs _=>match vs with | [_,.int _ n]=>xs.length - n.toNat | _=>0,⟨i0,i0+1,xs,rfl,by omega,by rw [f0,CM];omega,by omega,rfl,f0.symm,λq _=>rfl,H.old o1⟩,?_⟩
 rintro v5 v6 g7 h8 ⟨i,j,ys,e,hj,ei,hij,hyl,htake,hsame,H8⟩
 cases e
 simp only [A5]
 apply A6<;>intro c1
 ·have hj':j < xs.length:=by omega
  have hjy:j < ys.length:=by omega
  have ey:ys[j]=xs[j]:=by
   have:=hsame j (G0 _)
   rw [X7 hj',X7 hjy] at this
   exact Option.some.inj this
  have fstep:(xs.take (j+1)).filter D=(xs.take j).filter D ++ (if D xs[j] then [xs[j]] else []):=by
   rw [Ab hj',QW]
   congr 1
   cases hh:D xs[j] <;> simp [hh]
  refine ⟨λvs h'=>∃(i':Nat) (zs:List CC),vs = [iQ i']/\i' = ((xs.take (j+1)).filter D).length/\i' < j+1/\zs.length=xs.length/\zs.take i' = (xs.take (j+1)).filter D/\(∀q,j+1<=q->zs[q]? = xs[q]?)/\A9 h' (E8 51 9 a xs.length c (zs.flatMap Ai)*R),?_,?_⟩
  ·refine ⟨by omega,by omega,?_⟩
   simp only [X5]
   refine rdS H8.own.sees hjy ?_
   rw [ey]
   generalize xs[j]=x at *
   have H9:=H8.push (oQ #[iQ 0,iQ 0,dQ false,iQ 0,iQ 0,iQ 0,iQ 0,iQ 0,iQ 0] 51)
   generalize h8.push (oQ #[iQ 0,iQ 0,dQ false,iQ 0,iQ 0,iQ 0,iQ 0,iQ 0,iQ 0] 51)=h9 at *
   generalize h8.size=XB at *
   refine F5 (vs:=Ai x) H9.at rfl (by simp [Ai,J0]) λh10 w=>?_
   have H10:=H9.wr w.new w.old
   clear w H9
   have O:=H10.at
   refine C4 O rfl (C4 O rfl (C4 O rfl (C4 O rfl (C4 O rfl (C4 O rfl (C4 O rfl (C4 O rfl (C4 O rfl ?_))))))))
   refine Hg x h10 (pt XB (oQ (Ai x).toArray 51)*E8 51 9 a xs.length c (ys.flatMap Ai)) _ (by rw [F2];exact H10) λh11 o11=>?_
   have H11:=H10.old o11
   clear H10 O
   simp only [C0]
   apply D1<;>intro hb
   ·have hDx:D x=true:=by rw [hD];exact hb
    rw [hDx,A8 rfl] at fstep
    have O:=H11.at
    refine C4 O rfl (C4 O rfl (C4 O rfl (C4 O rfl (C4 O rfl (C4 O rfl (C4 O rfl (C4 O rfl (C4 O rfl ?_))))))))
    refine ⟨by omega,by omega,?_⟩
    try simp only [X5]
    have H12:=H11.drop
    have ow:=H12.own
    obtain ⟨ad,ea,_⟩:=ow.sees 0 (((ys.flatMap Ai)[0]?).getD (.bool false)) (by
     have:0 < (ys.flatMap Ai).length:=by rw [Ch DZ];omega
     rw [X7 this];rfl)
    subst ea
    try simp only [D0]
    have hwr:OH h11 (ad.add (i*9)) 0 (Ai x) λh43=>∃(i':Nat) (zs:List CC),[Value.int .i64 (wrap .i64 ((i:Int)+1))] = [iQ i']/\i' = ((xs.take (j+1)).filter D).length/\i' < j+1/\zs.length=xs.length/\zs.take i' = (xs.take (j+1)).filter D/\(∀q,j+1<=q->zs[q]? = xs[q]?)/\A9 h43 (E8 51 9 (some ad) xs.length c (zs.flatMap Ai)*R):=by
     refine CS.write ow rfl (by show i*9+9<=_;omega) (SW _) λh43 x1 x2 x3 x4=>?_
     have y:=x2 (by show i*9+9<=_;omega)
     rw [DZ,QR x ys i (by omega)] at y
     refine ⟨i+1,ys.set i x,by rw [N8 (by omega)],by rw [fstep,DK,<- ei];rfl,by omega,by simp [hyl],?_,λq hq=>?_,H12.own_wr x3 y⟩
     ·rw [fstep,<- htake,Ab (by simp;omega),List.take_set_of_le (G0 _),List.getElem_set_self]
     ·rw [SE0 (by omega)];exact hsame q (by omega)
    exact hwr
   ·have hDx:D x=false:=by rw [hD];exact hb
    rw [hDx,A7 (by decide),Xv] at fstep
    exact ⟨i,ys,rfl,by rw [fstep];exact ei,by omega,hyl,by rw [fstep];exact htake,λq hq=>hsame q (by omega),H11.drop⟩
  ·rintro v64 g65 h66 ⟨i',zs,e,b1,b2,b3,b4,b5,b6⟩
   cases e
   rw [N8 (by omega)]
   exact ⟨⟨i',j+1,zs,rfl,by omega,b1,b2,b3,b4,b5,b6⟩,by show xs.length - ((j+1:Nat):Int).toNat < xs.length - (j:Int).toNat;omega⟩
 ·have ej:j=xs.length:=by omega
  subst ej
  rw [EH] at ei htake
  refine ⟨by omega,by omega,?_⟩
  simp only [X5]
  have ow:=H8.own
  obtain ⟨ad,ea,_⟩:=ow.sees 0 (((ys.flatMap Ai)[0]?).getD (.bool false)) (by
   have:0 < (ys.flatMap Ai).length:=by rw [Ch DZ];omega
   rw [X7 this];rfl)
  subst ea
  refine Sn1 (elem:=51) (a:=some ad) (l:=xs.length) (c:=c) (i:=i) (m:=xs.length - i) Sc6 Sc7 Tg8 Tg9 (by rw [FB];exact ow) (by omega) (by omega) (.inr ⟨ad,rfl,?_⟩) λh51 own51 fr51 s51=>?_
  ·rw [FB];unfold Ha;rw [A7 (by omega)];rfl
  rw [FB,PW DZ,htake] at own51
  refine ⟨by omega,by omega,?_⟩
  rw [PX,Nat.sub_zero,Nat.sub_zero]
  have:=k h51 _ rfl (by rw [ei] at own51;exact H8.own_wr fr51 own51)
  rw [<- ei] at this
  exact this
end
end
section
set_option maxHeartbeats 1000000
open Mod
section
variable {K:kQ} {h:A2} {R:Hp}
theorem SY {a:rQ} {n c:Nat} {xs:List CC} (hs:N5 h a (xs.flatMap Ai)) (hn:xs.length=n) (h0:a=none->n=0) (hb:n<=1000000) (k:∀h' a' c',G9 h.size h h'->(∀P:Hp,A9 h P->A9 h' (E8 51 9 a' n c' (xs.flatMap Ai)*P))->K (lQ a' n c') h') :
  A4 prog 91 #[lQ a n c] h K:=by
 refine call91 ?_
 unfold F91
 apply D1<;>intro hh
 ·have ea:a=none:=by cases a with | none=>rfl | some x=>cases hh
  have hn0:=h0 ea
  subst hn0
  have e0:xs = []:=Xx.1 hn
  subst e0
  exact k h none 0 (G9.refl _ _) λP HP=>HP.own_new 51 9
 ·have o1:G9 h.size h (h.push (oQ #[] 51)):=(G9.refl _ _).push _ (G0 _)
  have hs1:=hs.old o1
  have ow:CS (h.push (oQ #[] 51)) 51 (M2 prog 51) (some (aQ h.size)) 0 0 []:=⟨by simp,G0 _,.inr ⟨h.size,#[],rfl,by simp,by simp,by simp⟩⟩
  have sz:(h.push (oQ #[] 51)).size=h.size+1:=by simp
  generalize h.push (oQ #[] 51)=h1 at *
  refine FL Sc6 Xh Sc7 (by rw [FB];rfl) ow hs1 (n:=n) (by rw [FB,Ch DZ,hn]) (λy hy=>?_) (by rw [SS];omega) (by rw [SS];omega) λa' c' h2 o' hsz old ha=>?_
  ·obtain ⟨x,_,hx⟩:=List.mem_flatMap.1 hy
   exact SW x y hx
  rw [J6] at o' ⊢
  refine sb ?_
  have o2:G9 h.size h h2:=⟨by omega,λb hb=>(old b (by omega) λad ea=>by cases ea;exact λe=>by simp at e;omega).trans (o1.2 b hb)⟩
  have fb:∀b,GU a' b->h.size<=b:=by
   rintro b ⟨ad,e,rfl⟩
   rcases ha with ha | ⟨ha,_⟩
   ·rw [e] at ha;cases ha;exact G0 _
   ·rw [e] at ha;cases ha;show h.size<=h1.size;omega
  rw [FB,OG] at o'
  exact k h2 a' c' o2 λP HP=>HP.mk_new o2 (λb hb=>⟨fb b hb,o'.lt2 hb⟩) o'.nd λh'' e=>o'.congr e
structure SC5 (R:Hp) (a:rQ) (xs:List CC):Prop where
 s:∀h' Y,A9 h' (Y*R)->N5 h' a (xs.flatMap Ai)
 z:a=none->xs.length=0
 b:xs.length<=1000000
theorem Me {xs:List CC} {a:rQ} {c:Nat} {f:Fn} {cp:Array vQ} {P:CC->Bool} (H:A9 h R) (S:SC5 R a xs) (Hg:Sj8 (.func f #[] cp) R P)
  (k:∀h' a' c',A9 h' (E8 51 9 a' (xs.filter P).length c' ((xs.filter P).flatMap Ai)*R)->K (lQ a' (xs.filter P).length c') h') :
  A4 prog 49 #[lQ a xs.length c,.func f #[] cp] h K:=by
 refine call49 ?_
 unfold F49 cf
 rw [KH]
 have H1:=H.push (.cells [Value.func f #[] cp].toArray 101)
 rw [show h.push (oQ #[.func f #[] cp] 101)=h.push (.cells [Value.func f #[] cp].toArray 101) from rfl]
 generalize h.push (.cells [Value.func f #[] cp].toArray 101)=h1 at *
 generalize h.size=KB at *
 refine A0 (SY (S.s h1 _ H1) rfl S.z S.b λh2 a2 c2 o2 own=>?_)
 have H2:=own _ H1
 have hb:=S.b
 simp only [D6]
 have Hk:Sj8 (.func (.func 92) #[] #[pQ (some (aQ KB))]) (pt KB (.cells [Value.func f #[] cp].toArray 101)*R) λx=>!P x:=by
  intro x g Y F HG kk
  refine FK ?_
  refine call92 (c0:=pQ (some (aQ KB))) ?_
  unfold F92 g92 dl9
  have G1:=HG.push (oQ (Ai x).toArray 51)
  have p1:=G8 g (Ai x).toArray 51
  rw [show g.push (oQ #[iQ x.th,iQ x.kind,dQ x.done,iQ x.w1.1,iQ x.w1.2.1,iQ x.w1.2.2,iQ x.w2.1,iQ x.w2.2.1,iQ x.w2.2.2] 51)=g.push (oQ (Ai x).toArray 51) from rfl]
  generalize g.push (oQ (Ai x).toArray 51)=g1 at *
  simp only [D0]
  refine C4 G1.drop.drop.at rfl ?_
  have O:=p1.new
  refine C4 O rfl (C4 O rfl (C4 O rfl (C4 O rfl (C4 O rfl (C4 O rfl (C4 O rfl (C4 O rfl (C4 O rfl ?_))))))))
  refine Hg x g1 (pt g.size (oQ (Ai x).toArray 51)*(Y*pt KB (.cells [Value.func f #[] cp].toArray 101))) _ (A9.ac G1 (by ac_rfl)) λg2 o2=>?_
  simp only [C0]
  exact kk g2 (p1.toOld.trans (o2.mono p1.toOld.1))
 refine A0 (Sd2 H2 (by omega) Hk λh3 ys ey H3=>?_)
 have e2:ys=xs.filter P:=by
  rw [ey]
  congr 1
  funext x
  show (!!P x)=P x
  rw [Bool.not_not]
 subst e2
 simp only [D6]
 rw [D8] at H3
 exact k h3 a2 c2 H3.drop
theorem SC5.star {P:Hp} {a:rQ} {xs:List CC} (S:SC5 R a xs):SC5 (P*R) a xs:=⟨λh' Y H=>S.s h' (Y*P) (by rw [F2];exact H),S.z,S.b⟩
theorem Xm {xs:List CC} {a:rQ} {c:Nat} {th:Int} (H:A9 h R) (S:SC5 R a xs)
  (k:∀h' a' c',A9 h' (E8 51 9 a' (xs.filter λx=>x.th == th).length c' ((xs.filter λx=>x.th == th).flatMap Ai)*R)->K (lQ a' (xs.filter λx=>x.th == th).length c') h') :
  A4 prog 22 #[lQ a xs.length c,iQ th] h K:=by
 refine call22 ?_
 unfold F22 cf
 have H1:=H.push (.cells [Value.int .i64 th].toArray 3)
 rw [show h.push (oQ #[iQ th] 3)=h.push (.cells [Value.int .i64 th].toArray 3) from rfl]
 generalize h.push (.cells [Value.int .i64 th].toArray 3)=h1 at *
 generalize h.size=TB at *
 refine A0 (Me (P:=λx=>x.th == th) H1 S.star ?_ λh2 a2 c2 H2=>?_)
 ·intro x g Y F HG kk
  refine FK ?_
  refine call50 (c0:=pQ (some (aQ TB))) ?_
  unfold F50 g50 lI
  have G1:=HG.push (oQ (Ai x).toArray 51)
  have p1:=G8 g (Ai x).toArray 51
  rw [show g.push (oQ #[iQ x.th,iQ x.kind,dQ x.done,iQ x.w1.1,iQ x.w1.2.1,iQ x.w1.2.2,iQ x.w2.1,iQ x.w2.2.1,iQ x.w2.2.2] 51)=g.push (oQ (Ai x).toArray 51) from rfl]
  generalize g.push (oQ (Ai x).toArray 51)=g1 at *
  have O:=p1.new
  refine C4 O rfl ?_
  simp only [A5,D0]
  refine C4 G1.drop.drop.at rfl ?_
  simp only [A5]
  exact kk g1 p1.toOld
 ·simp only [D6]
  rw [D8] at H2
  exact k h2 a2 c2 H2.drop
theorem Sd3 {n:Int} (k:K (dQ (n == 4 || n == 5)) h):A4 prog 52 #[iQ n] h K:=by
 refine call52 ?_
 unfold F52
 apply D1<;>intro hh
 ·rw [hh] at k;exact k
 ·rw [hh] at k;exact k
theorem SZ {n:Int} (k:K (dQ (n == 2 || (n == 4 || n == 5))) h):A4 prog 54 #[iQ n] h K:=by
 refine call54 ?_
 unfold F54 cf
 apply D1<;>intro hh
 ·rw [hh] at k;exact k
 ·rw [hh] at k
  refine A0 (Sd3 ?_)
  simp only [C0]
  exact k
def Ij (x:CC):Bool:=(x.kind == 2 || (x.kind == 4 || x.kind == 5)) && !x.done
theorem Py {xs:List CC} {a:rQ} {c:Nat} (H:A9 h R) (S:SC5 R a xs) (k:∀h',A9 h' R->K (iQ ((xs.filter Ij).length:Nat)) h') :
  A4 prog 24 #[lQ a xs.length c] h K:=by
 refine call24 ?_
 unfold F24 cf
 refine A0 (Me (P:=Ij) H S ?_ λh2 a2 c2 H2=>?_)
 ·intro x g Y F HG kk
  refine FK ?_
  refine call53 ?_
  unfold F53 g53 cf lI
  have p1:=G8 g (Ai x).toArray 51
  rw [show g.push (oQ #[iQ x.th,iQ x.kind,dQ x.done,iQ x.w1.1,iQ x.w1.2.1,iQ x.w1.2.2,iQ x.w2.1,iQ x.w2.2.1,iQ x.w2.2.2] 51)=g.push (oQ (Ai x).toArray 51) from rfl]
  generalize g.push (oQ (Ai x).toArray 51)=g1 at *
  have O:=p1.new
  have kk:=kk g1 p1.toOld
  unfold Ij at kk
  refine C4 O rfl ?_
  simp only [A5]
  refine A0 (SZ ?_)
  simp only [C0]
  apply D1<;>intro hb
  ·rw [hb] at kk
   refine C4 O rfl ?_
   simp only [C0]
   exact kk
  ·rw [hb] at kk
   exact kk
 ·simp only [D6]
  exact k h2 H2.drop
end
end
section
set_option maxHeartbeats 1000000
open Mod
def evB (t:Int) (i:Nat) (e:Ix):Bool:=e.k == t && (if i=0 then !e.back else e.back && e.a.op == (i:Int) - 1)
def Av (t:Int) (i:Nat) (ev:List Ix):Int:=((ev.filter (evB t i)).length:Nat)
def DE (t:Int) (l:List CC):Int:=((l.filter λx=>x.th == t).length:Nat)
def La (t:Int) (l:List CC):Int:=(((l.filter λx=>x.th == t).filter Ij).length:Nat)
def Y7 (ev:List Ix) (l:List CC) (t:Int):Ro:=⟨Av t 0 ev,Av t 1 ev,Av t 2 ev,Av t 3 ev,Av t 4 ev,DE t l,La t l⟩
theorem Om (t:Int) (i:Nat) (ev:List Ix) (e:Ix):Av t i (ev ++ [e])=Av t i ev+(if evB t i e then 1 else 0):=by
 unfold Av
 rw [QW,DK]
 cases h:evB t i e <;> simp [h]
theorem Ay (t:Int) (i:Nat) (ev:List Ix) {n:Nat} (hn:n < ev.length):Av t i (ev.take (n+1))=Av t i (ev.take n)+(if evB t i ev[n] then 1 else 0):=by
 rw [Ab hn,Om]
theorem Ik (t:Int) (i:Nat) (ev:List Ix):0<=Av t i ev/\Av t i ev<=ev.length:=by
 unfold Av
 have:=QY (evB t i) ev
 omega
theorem SC6 (t:Int) (l:List CC) {n:Nat} (hn:n < l.length):DE t (l.take (n+1))=DE t (l.take n)+(if l[n].th == t then 1 else 0):=by
 unfold DE
 rw [Ab hn,QW,DK]
 cases h:l[n].th == t <;> simp [h]
theorem SC7 (t:Int) (l:List CC) {n:Nat} (hn:n < l.length):La t (l.take (n+1))=La t (l.take n)+(if l[n].th == t && Ij l[n] then 1 else 0):=by
 unfold La
 rw [Ab hn,QW,QW,DK]
 cases h:l[n].th == t <;> cases h2:Ij l[n] <;> simp [h,h2]
theorem SY7 (t:Int) (l:List CC):0<=DE t l/\DE t l<=l.length:=by
 unfold DE
 have:=QY (λx:CC=>x.th == t) l
 omega
theorem SY8 (t:Int) (l:List CC):0<=La t l/\La t l<=l.length:=by
 unfold La
 have:=QY (λx:CC=>x.th == t) l
 have:=QY Ij (l.filter λx:CC=>x.th == t)
 omega
structure IU (n:Int) (s:M6):Prop where
 rng:∀e ∈ s.ev,0<=e.k/\e.k < n
 op:∀e ∈ s.ev,e.back=true->e.a.op=0\/e.a.op=1\/e.a.op=2\/e.a.op=3
 bal:∀t,Av t 0 s.ev=Av t 1 s.ev+Av t 2 s.ev+Av t 3 s.ev+Av t 4 s.ev+(if (s.cu t).isSome then 1 else 0)
theorem SY9 (t k:Int) (i:Nat) (c:Cl):evB t i ⟨k,false,c,DY⟩=(k == t && decide (i=0)):=by
 unfold evB
 by_cases h:i=0
 ·rw [A8 h];simp [h]
 ·rw [A7 h];simp [h]
theorem S76 (t k:Int) (i:Nat) (a:Cl):evB t i ⟨k,true,DY,a⟩=(k == t && (decide (i≠0) && a.op == (i:Int) - 1)):=by
 unfold evB
 by_cases h:i=0
 ·rw [A8 h];simp [h]
 ·rw [A7 h];simp [h]
theorem IU.invoke {n:Int} {s:M6} (I:IU n s) {k:Int} {c:Cl} (hk:0<=k/\k < n):IU n (s.invoke k c):=by
 unfold M6.invoke
 cases h:s.cu k with
 | some _=>exact I
 | none=>
  refine ⟨λe he=>?_,λe he hb=>?_,λt=>?_⟩
  ·rcases GR.1 he with h1 | h1
   ·exact I.rng e h1
   ·rw [Fq.1 h1];exact hk
  ·rcases GR.1 he with h1 | h1
   ·exact I.op e h1 hb
   ·rw [Fq.1 h1] at hb;cases hb
  ·have b:=I.bal t
   show Av t 0 (s.ev ++ [_])=Av t 1 (s.ev ++ [_])+Av t 2 (s.ev ++ [_])+Av t 3 (s.ev ++ [_])+Av t 4 (s.ev ++ [_])+(if (if t=k then some c else s.cu t).isSome=true then 1 else 0)
   simp only [Om,SY9]
   by_cases e:t=k
   ·subst e
    rw [h] at b
    simp at b ⊢
    omega
   ·rw [A7 e]
    have e2:(k == t)=false:=by simpa using λx:k=t=>e x.symm
    rw [e2]
    simp
    omega
theorem IU.respond {n:Int} {s:M6} (I:IU n s) {k:Int} {a:Cl} (hk:0<=k/\k < n):IU n (s.respond k a):=by
 unfold M6.respond
 cases h:s.cu k with
 | none=>exact I
 | some c=>
  dsimp only
  split
  ·rename_i hf
   have ho:a.op=0\/a.op=1\/a.op=2\/a.op=3:=by
    unfold Lq Gl c3 at hf
    simp only [EA,Ku,beq_iff_eq] at hf
    omega
   refine ⟨λe he=>?_,λe he hb=>?_,λt=>?_⟩
   ·rcases GR.1 he with h1 | h1
    ·exact I.rng e h1
    ·rw [Fq.1 h1];exact hk
   ·rcases GR.1 he with h1 | h1
    ·exact I.op e h1 hb
    ·rw [Fq.1 h1];exact ho
   ·have b:=I.bal t
    show Av t 0 (s.ev ++ [_])=Av t 1 (s.ev ++ [_])+Av t 2 (s.ev ++ [_])+Av t 3 (s.ev ++ [_])+Av t 4 (s.ev ++ [_])+(if (if t=k then none else s.cu t).isSome=true then 1 else 0)
    simp only [Om,S76]
    by_cases e:t=k
    ·subst e
     rw [h] at b
     simp at b ⊢
     rcases ho with o | o | o | o <;> rw [o] <;> simp <;> omega
    ·rw [A7 e]
     have e2:(k == t)=false:=by simpa using λx:k=t=>e x.symm
     rw [e2]
     simp
     omega
  ·exact I
theorem IU.of {n:Int} {s t:M6} (I:IU n s) (e1:t.ev=s.ev) (e2:t.cu=s.cu):IU n t:=⟨by rw [e1];exact I.rng,by rw [e1];exact I.op,by rw [e1,e2];exact I.bal⟩
theorem IU.go {d:B9->B9} {n:Int} {s:M6} (I:IU n s) {k:Nat} (hk:(k:Int) < n):IU n (s.go d k):=by
 unfold M6.go
 split
 ·refine IU.of (s:=M6.respond { s with m:=(R8 d ⟨s.m.quiet,F7 s.m k,k⟩).m.setTh (s.m.th.set k (R8 d ⟨s.m.quiet,F7 s.m k,k⟩).t) } k (FU (R8 d ⟨s.m.quiet,F7 s.m k,k⟩).t)) (IU.respond (IU.of (t:={ s with m:=(R8 d ⟨s.m.quiet,F7 s.m k,k⟩).m.setTh (s.m.th.set k (R8 d ⟨s.m.quiet,F7 s.m k,k⟩).t) }) I rfl rfl) ⟨by omega,hk⟩) rfl rfl
 ·exact I.of rfl rfl
theorem IU.pick {d:B9->B9} {ins:Int} {calls:List (List Cl)} {n:Int} {s:M6} (I:IU n s) {k:Int} (hk:0<=k/\k < n):IU n (s.pick d ins calls k):=by
 obtain ⟨j,rfl⟩ : ∃j:Nat,k=j:=⟨k.toNat,by omega⟩
 unfold M6.pick M6.begin
 rw [X5]
 by_cases he:(F7 s.m j).fr = []
 ·rw [A8 he]
  by_cases hl:(calls.getD j []).length<=(s.nx.getD j 0).toNat
  ·rw [A8 hl]
   exact I.of rfl rfl
  ·rw [A7 hl]
   dsimp only
   refine IU.go (IU.invoke ?_ hk) hk.2
   exact ⟨I.rng,I.op,I.bal⟩
 ·rw [A7 he]
  exact I.go hk.2
theorem IU.run {d:B9->B9} {ins:Int} {calls:List (List Cl)} {m:Mac} {n:Int}:∀(C2:List Int) (s:M6),IU n s->(∀p ∈ C2,0<=p/\p < n)->IU n (C2.foldl (λs k=>s.pick d ins calls k) s)
 | [],s,I,_=>I
 | p :: ps,s,I,h=>IU.run (m:=m) ps _ (I.pick (h p (by simp))) λq hq=>h q (by simp [hq])
theorem IU.new (m:Mac) (k:Nat) (n:Int):IU n (rs0 m k):=⟨λe he=>(by cases he),λe he=>(by cases he),λt=>rfl⟩
theorem SZ0 (l:List CC) (ev:List Ix) (n:Nat) (h:∀x ∈ l,0<=x.th/\x.th < n):(GS ((List.range n).map λi:Nat=>Y7 ev l (i:Int))).c5=l.length:=by
 have c5:∀rs:List Ro,(GS rs).c5=(rs.map Ro.c5).sum:=by
  intro rs
  unfold GS
  have:∀(rs:List Ro) (s:Ro),(rs.foldl Yr s).c5=s.c5+(rs.map Ro.c5).sum:=by
   intro rs
   induction rs with
   | nil=>intro s;simp
   | cons r rs ih=>intro s;rw [Te,ih];simp [Yr];omega
  rw [this]
  show (0:Int)+_=_
  omega
 rw [c5,List.map_map]
 have key:∀(l:List CC),(∀x ∈ l,0<=x.th/\x.th < n)->((List.range n).map λi:Nat=>DE (i:Int) l).sum=(l.length:Nat):=by
  intro l
  induction l with
  | nil=>
   intro _
   have:∀m:Nat,((List.range m).map λi:Nat=>DE (i:Int) []).sum=0:=by
    intro m
    induction m with
    | zero=>rfl
    | succ m im=>rw [Tj,GW,List.sum_append,im];simp [DE]
   rw [this];rfl
  | cons x l ih=>
   intro h
   have ih:=ih λy hy=>h y (by simp [hy])
   obtain ⟨k,hk⟩ : ∃k:Nat,x.th=k:=⟨x.th.toNat,by have:=h x (by simp);omega⟩
   have hkn:k < n:=by have:=h x (by simp);omega
   have e:∀i:Nat,DE (i:Int) (x :: l)=DE (i:Int) l+(if i=k then 1 else 0):=by
    intro i
    unfold DE
    rw [List.filter_cons]
    by_cases c:i=k
    ·rw [A8 c,A8 (by rw [hk,c];simp)]
     simp
    ·rw [A7 c,A7 (by rw [hk];simp only [beq_iff_eq];omega)]
     simp
   have s2:∀m:Nat,((List.range m).map λi:Nat=>DE (i:Int) (x :: l)).sum=((List.range m).map λi:Nat=>DE (i:Int) l).sum+(if k < m then 1 else 0):=by
    intro m
    induction m with
    | zero=>simp
    | succ m im=>
     rw [Tj,GW,GW,List.sum_append,List.sum_append,im]
     simp only [GY,QZ,List.sum_cons,List.sum_nil,e]
     by_cases c1:m=k
     ·rw [A8 c1,A7 (by omega),A8 (by omega)];omega
     ·rw [A7 c1]
      by_cases c2:k < m
      ·rw [A8 c2,A8 (by omega)];omega
      ·rw [A7 c2,A7 (by omega)];omega
   rw [s2,ih,A8 hkn]
   simp
 exact key l h
end
section
set_option maxRecDepth 100000
variable {K:kQ} {h:A2}
abbrev g93 (K:kQ) (h H1:A2) (xa:rQ):Prop:=
 (lI .i64 H1 (aQ h.size) λa=>D4 (a == 0) (nP xa λb=>lI .i64 H1 (b.add 1) λb=>nP xa λc=>C7 H1 (c.add 1) (iQ (wrap .i64 (b+1))) λb=>K tQ b) (D4 (a == 1) (nP xa λb=>lI .i64 H1 (b.add 2) λb=>nP xa λc=>C7 H1 (c.add 2) (iQ (wrap .i64 (b+1))) λb=>K tQ b) (D4 (a == 2) (nP xa λb=>lI .i64 H1 (b.add 3) λb=>nP xa λc=>C7 H1 (c.add 3) (iQ (wrap .i64 (b+1))) λb=>K tQ b) (D4 (a == 3) (nP xa λa=>lI .i64 H1 (a.add 4) λa=>nP xa λb=>C7 H1 (b.add 4) (iQ (wrap .i64 (a+1))) λa=>K tQ a) (K tQ H1)))))
def F93 (K:kQ) (h:A2) (xa:rQ) (xb xc xd:Int):Prop:=
 (g93 K h (h.push (oQ #[iQ xb,.int .u32 xc,.int .u32 xd] 43)) xa)
theorem call93 {xa:rQ} {xb xc xd:Int} (H:F93 K h xa xb xc xd):A4 prog 93 #[(pQ xa),(.agg #[(iQ xb),(.int .u32 xc),(.int .u32 xd)])] h K:=
 cQ Tryz.func93 H
abbrev g55 (K:kQ) (h H1:A2) (xa:rQ):Prop:=
 (D2 H1 ⟨h.size,1,none⟩ λa=>asBool a λa=>D4 a (D2 H1 ⟨h.size,5,none⟩ λa=>D2 H1 ((aQ h.size).add 6) λb=>D2 H1 ((aQ h.size).add 7) λc=>cf 93 #[pQ xa,.agg #[a,b,c]] H1 λa a=>K tQ a) (nP xa λa=>lI .i64 H1 a λa=>nP xa λb=>C7 H1 b (iQ (wrap .i64 (a+1))) λa=>K tQ a))
def F55 (K:kQ) (h:A2) (xa:rQ) (xb:Int) (xc:Bool) (xd xe xf xg xh xi:Int):Prop:=
 (g55 K h (h.push (oQ #[iQ xb,dQ xc,iQ xd,.int .u32 xe,.int .u32 xf,iQ xg,.int .u32 xh,.int .u32 xi] 45)) xa)
theorem call55 {xa:rQ} {xb:Int} {xc:Bool} {xd xe xf xg xh xi:Int} (H:F55 K h xa xb xc xd xe xf xg xh xi):A4 prog 55 #[(pQ xa),(.agg #[(iQ xb),(dQ xc),(iQ xd),(.int .u32 xe),(.int .u32 xf),(iQ xg),(.int .u32 xh),(.int .u32 xi)])] h K:=
 cQ Tryz.func55 H
abbrev g25 (K:kQ) (h H1:A2):Prop:=
 (Du H1 h.size λa b c d e f g i j k=>cf 12 #[.agg #[a,b,c,d,e,f,g,i,j,k]] H1 λa b=>J3 a λc=>D9 c 0 λc=>asAgg c λc=>G3 c 5 (de5 c λc d e f g=>J3 a λi=>D9 i 1 λi=>C9 i λi=>J3 a λa=>D9 a 2 λa=>asInt .i64 a λa=>C7 (b.push (oQ #[lQ none 0 0,iQ 0,iQ 0,dQ false,iQ 0] 34)) (aQ b.size) c λc=>C7 c ⟨b.size,1,none⟩ d λc=>C7 c ⟨b.size,2,none⟩ e λc=>C7 c ⟨b.size,3,none⟩ f λc=>C7 c ⟨b.size,4,none⟩ g λc=>D4 (a != 0) (K (.tuple #[lQ none 0 0,iQ a]) c) (Du c h.size λa d e f g i j k l m=>cf 14 #[.agg #[a,d,e,f,g,i,j,k,l,m]] c λa c=>J3 a λd=>D9 d 0 λd=>D3 d λd e f=>J3 a λa=>D9 a 1 λa=>asInt .i64 a λa=>D4 (a != 0) (K (.tuple #[lQ none 0 0,iQ a]) c) (lI .i64 c ((aQ h.size).add 1) λa=>Y2 prog 68 a a c λa c=>D3 a λa g i=>lS c (aQ b.size) λb j k=>R3 λI62=>GI λm63=>(I62 [iQ 0] c)/\(∀(c:vQ) (k:G4) (k:A2),(I62 [c] k)->(asInt .i64 c λl=>D4 (decide (l < (j:Int))) (Il c λl=>bd l (j:Int) (F3 (pQ b) λb=>D2 k (b.add (l.toNat*8)) λj=>D2 k (Addr.add (b.add (l.toNat*8)) 1) λm=>D2 k (Addr.add (b.add (l.toNat*8)) 2) λn=>D2 k (Addr.add (b.add (l.toNat*8)) 3) λo=>D2 k (Addr.add (b.add (l.toNat*8)) 4) λp=>D2 k (Addr.add (b.add (l.toNat*8)) 5) λq=>D2 k (Addr.add (b.add (l.toNat*8)) 6) λr=>D2 k (Addr.add (b.add (l.toNat*8)) 7) λb=>C7 (k.push (oQ #[iQ 0,dQ false,iQ 0,.int .u32 0,.int .u32 0,iQ 0,.int .u32 0,.int .u32 0] 45)) (aQ k.size) j λj=>C7 j ⟨k.size,1,none⟩ m λj=>C7 j ⟨k.size,2,none⟩ n λj=>C7 j ⟨k.size,3,none⟩ o λj=>C7 j ⟨k.size,4,none⟩ p λj=>C7 j ⟨k.size,5,none⟩ q λj=>C7 j ⟨k.size,6,none⟩ r λj=>C7 j ⟨k.size,7,none⟩ b λb=>lI .i64 b (aQ k.size) λj=>bd j (g:Int) (F3 (pQ a) λl=>dl8 b k.size λm n o p q r s t=>cf 55 #[pQ (some (l.add (j.toNat*7))),.agg #[m,n,o,p,q,r,s,t]] b λb b=>asInt .i64 c λj=>(I62 [iQ (wrap .i64 (j+1))] b)/\((m63 [iQ (wrap .i64 (j+1))] b) < (m63 [c] k))))) (R3 λI100=>GI λm101=>(I100 [tQ,tQ,iQ 0] k)/\(∀(b c j:vQ) (k:G4) (k:A2),(I100 [b,c,j] k)->(asInt .i64 j λl=>D4 (decide (l < (g:Int))) (asInt .i64 j λl=>cf 22 #[lQ d e f,iQ l] k λd e=>D3 d λd f m=>cf 24 #[lQ d f m] e λe n=>asInt .i64 e λe=>bd l (g:Int) (F3 (pQ a) λo=>C7 n (Addr.add (o.add (l.toNat*7)) 5) (iQ (f:Int)) λn=>bd l (g:Int) (F3 (pQ a) λo=>C7 n (Addr.add (o.add (l.toNat*7)) 6) (iQ e) λe=>asInt .i64 j λn=>(I100 [iQ l,lQ d f m,iQ (wrap .i64 (n+1))] e)/\((m101 [iQ l,lQ d f m,iQ (wrap .i64 (n+1))] e) < (m101 [b,c,j] k))))) (K (.tuple #[lQ a g i,iQ 0]) k))))))))))
def F25 (K:kQ) (h:A2) (xa xb xc xd xe xf xg:Int) (xh:rQ) (xi xj:Nat) (xk:rQ) (xl xm:Nat) (xn:rQ) (xo xp:Nat):Prop:=
 (g25 K h (h.push (oQ #[iQ xa,iQ xb,iQ xc,iQ xd,iQ xe,iQ xf,iQ xg,lQ xh xi xj,lQ xk xl xm,lQ xn xo xp] 28)))
theorem call25 {xa xb xc xd xe xf xg:Int} {xh:rQ} {xi xj:Nat} {xk:rQ} {xl xm:Nat} {xn:rQ} {xo xp:Nat} (H:F25 K h xa xb xc xd xe xf xg xh xi xj xk xl xm xn xo xp):A4 prog 25 #[(.agg #[(iQ xa),(iQ xb),(iQ xc),(iQ xd),(iQ xe),(iQ xf),(iQ xg),(lQ xh xi xj),(lQ xk xl xm),(lQ xn xo xp)])] h K:=
 cQ Tryz.func25 H
abbrev g8 (K:kQ) (h H1 H2:A2):Prop:=
 (IE H2 H1.size λa b c d e f g=>cf 9 #[.agg #[a,b,c,d,e,f,g]] H2 λa b=>asBool a λa=>D4 (!a) (IE b H1.size λa c d e f g i=>C7 b (aQ h.size) a λa=>C7 a ((aQ h.size).add 1) c λa=>C7 a ((aQ h.size).add 2) d λa=>C7 a ((aQ h.size).add 3) e λa=>C7 a ((aQ h.size).add 4) f λa=>C7 a ((aQ h.size).add 5) g λa=>C7 a ((aQ h.size).add 6) i λa=>Du a h.size λc d e f g i j k l m=>cf 25 #[.agg #[c,d,e,f,g,i,j,k,l,m]] a λa c=>J3 a λd=>D9 d 0 λd=>D3 d λd d e=>J3 a λa=>D9 a 1 λa=>asInt .i64 a λa=>D4 ((d:Int) == 0) (D4 (a == 1) (cf 26 #[] c λa d=>asBool a λa=>K (dQ a) d) (K (dQ false) c)) (K (dQ false) c)) (Du b h.size λa c d e f g i j k l=>IE b H1.size λm n o p q r s=>cf 11 #[.agg #[a,c,d,e,f,g,i,j,k,l],.agg #[m,n,o,p,q,r,s],iQ 4,iQ 500] b λa b=>asAgg a λa=>G3 a 10 (Th9 a λa c d e f g i j k l=>SI3 b h.size a c d e f g i j k l λa=>Du a h.size λb c d e f g i j k l=>cf 25 #[.agg #[b,c,d,e,f,g,i,j,k,l]] a λa b=>J3 a λc=>D9 c 0 λc=>D3 c λc d e=>J3 a λa=>D9 a 1 λa=>asInt .i64 a λa=>Du b h.size λf g i j k l m n o p=>cf 12 #[.agg #[f,g,i,j,k,l,m,n,o,p]] b λb f=>J3 b λg=>D9 g 0 λg=>asAgg g λg=>G3 g 5 (de5 g λg i j k l=>J3 b λm=>D9 m 1 λm=>C9 m λm=>J3 b λb=>D9 b 2 λb=>asInt .i64 b λb=>C7 (f.push (oQ #[lQ none 0 0,iQ 0,iQ 0,dQ false,iQ 0] 34)) (aQ f.size) g λg=>C7 g ⟨f.size,1,none⟩ i λg=>C7 g ⟨f.size,2,none⟩ j λg=>C7 g ⟨f.size,3,none⟩ k λg=>C7 g ⟨f.size,4,none⟩ l λg=>Du g h.size λi j k l m n o p q r=>cf 14 #[.agg #[i,j,k,l,m,n,o,p,q,r]] g λg i=>J3 g λj=>D9 j 0 λj=>D3 j λj k l=>J3 g λg=>D9 g 1 λg=>asInt .i64 g λg=>R3 λI158=>(D4 (a != 0) (I158 [dQ true,dQ true,dQ true] i) (D4 (b != 0) (I158 [dQ (b != 0),dQ true,dQ true] i) (D4 (g != 0) (I158 [dQ (b != 0),dQ (g != 0),dQ true] i) (lI .i64 i ⟨H1.size,1,none⟩ λa=>I158 [dQ (b != 0),dQ (g != 0),dQ ((d:Int) != a)] i))))/\(∀(a b g:vQ) (i:G4) (i:A2),(I158 [a,b,g] i)->(asBool g λa=>D4 a (K (dQ false) i) (R3 λI167=>GI λm168=>(I167 [dQ false,iQ 0,tQ,tQ,tQ,tQ,tQ,tQ,tQ] i)/\(∀(a b g i l m n o p:vQ) (q:G4) (q:A2),(I167 [a,b,g,i,l,m,n,o,p] q)->(asInt .i64 b λr=>lI .i64 q ⟨H1.size,1,none⟩ λs=>D4 (decide (r < s)) (R3 λI183=>GI λm184=>(I183 [iQ 0,m,n,o,p] (q.push (oQ Dp 68)))/\(∀(r s t u v:vQ) (w:G4) (w:A2),(I183 [r,s,t,u,v] w)->(asInt .i64 r λx=>lS w (aQ f.size) λy y z=>D4 (decide (x < (y:Int))) (R3 λI197=>(lS w (aQ f.size) λx y z=>asInt .i64 r λz=>bd z (y:Int) (F3 (pQ x) λx=>D2 w (x.add (z.toNat*8)) λy=>D2 w (Addr.add (x.add (z.toNat*8)) 1) λA=>D2 w (Addr.add (x.add (z.toNat*8)) 2) λB=>D2 w (Addr.add (x.add (z.toNat*8)) 3) λC=>D2 w (Addr.add (x.add (z.toNat*8)) 4) λD=>D2 w (Addr.add (x.add (z.toNat*8)) 5) λE=>D2 w (Addr.add (x.add (z.toNat*8)) 6) λF=>D2 w (Addr.add (x.add (z.toNat*8)) 7) λx=>C7 (w.push (oQ #[iQ 0,dQ false,iQ 0,.int .u32 0,.int .u32 0,iQ 0,.int .u32 0,.int .u32 0] 45)) (aQ w.size) y λy=>C7 y ⟨w.size,1,none⟩ A λy=>C7 y ⟨w.size,2,none⟩ B λy=>C7 y ⟨w.size,3,none⟩ C λy=>C7 y ⟨w.size,4,none⟩ D λy=>C7 y ⟨w.size,5,none⟩ E λy=>C7 y ⟨w.size,6,none⟩ F λy=>C7 y ⟨w.size,7,none⟩ x λx=>lI .i64 x (aQ w.size) λy=>asInt .i64 b λz=>D4 (y != z) (I197 [s,t,u,v] x) (D2 x ⟨w.size,1,none⟩ λy=>asBool y λy=>D4 (!y) (lI .i64 x (aQ q.size) λy=>C7 x (aQ q.size) (iQ (wrap .i64 (y+1))) λy=>I197 [dQ true,t,u,v] y) (lI .i64 x ⟨w.size,5,none⟩ λy=>D4 (y == 0) (lI .i64 x ⟨q.size,1,none⟩ λy=>C7 x ⟨q.size,1,none⟩ (iQ (wrap .i64 (y+1))) λy=>I197 [dQ false,dQ true,u,v] y) (lI .i64 x ⟨w.size,5,none⟩ λy=>D4 (y == 1) (lI .i64 x ⟨q.size,2,none⟩ λy=>C7 x ⟨q.size,2,none⟩ (iQ (wrap .i64 (y+1))) λy=>I197 [dQ false,dQ false,dQ true,v] y) (lI .i64 x ⟨w.size,5,none⟩ λy=>D4 (y == 2) (lI .i64 x ⟨q.size,3,none⟩ λy=>C7 x ⟨q.size,3,none⟩ (iQ (wrap .i64 (y+1))) λy=>I197 [dQ false,dQ false,dQ false,dQ true] y) (lI .i64 x ⟨q.size,4,none⟩ λy=>C7 x ⟨q.size,4,none⟩ (iQ (wrap .i64 (y+1))) λx=>I197 [dQ false,dQ false,dQ false,dQ false] x)))))))/\(∀(x y z A:vQ) (B:G4) (B:A2),(I197 [x,y,z,A] B)->(asInt .i64 r λC=>(I183 [iQ (wrap .i64 (C+1)),x,y,z,A] B)/\((m184 [iQ (wrap .i64 (C+1)),x,y,z,A] B) < (m184 [r,s,t,u,v] w))))) (R3 λI253=>GI λm254=>(I253 [iQ 0] w)/\(∀(w:vQ) (x:G4) (x:A2),(I253 [w] x)->(asInt .i64 w λy=>D4 (decide (y < (k:Int))) (R3 λI259=>(asInt .i64 w λy=>bd y (k:Int) (F3 (pQ j) λz=>lI .i64 x (z.add (y.toNat*9)) λy=>asInt .i64 b λz=>D4 (y == z) (lI .i64 x ⟨q.size,5,none⟩ λy=>C7 x ⟨q.size,5,none⟩ (iQ (wrap .i64 (y+1))) λy=>R3 λI268=>(asInt .i64 w λz=>bd z (k:Int) (F3 (pQ j) λA=>D2 y (Addr.add (Addr.add A (z.toNat*9)) 2) λz=>asBool z λz=>D4 (!z) (asInt .i64 w λz=>bd z (k:Int) (F3 (pQ j) λA=>D2 y (Addr.add (Addr.add A (z.toNat*9)) 1) λz=>asInt .i64 z λz=>D4 (z == 2) (I268 [dQ true,dQ true] y) (asInt .i64 w λz=>bd z (k:Int) (F3 (pQ j) λj=>D2 y (Addr.add (j.add (z.toNat*9)) 1) λj=>asInt .i64 j λj=>I268 [dQ (decide (j > 3)),dQ (decide (j > 3))] y)))) (I268 [tQ,dQ false] y)))/\(∀(j k:vQ) (y:G4) (y:A2),(I268 [j,k] y)->(asBool k λj=>D4 j (lI .i64 y ⟨q.size,6,none⟩ λj=>C7 y ⟨q.size,6,none⟩ (iQ (wrap .i64 (j+1))) λj=>I259 [] j) (I259 [] y)))) (I259 [] x)))/\(∀(j:G4) (j:A2),(I259 [] j)->(asInt .i64 w λk=>(I253 [iQ (wrap .i64 (k+1))] j)/\((m254 [iQ (wrap .i64 (k+1))] j) < (m254 [w] x))))) (lI .i64 x ⟨q.size,1,none⟩ λj=>lI .i64 x ⟨q.size,2,none⟩ λk=>lI .i64 x ⟨q.size,3,none⟩ λy=>lI .i64 x ⟨q.size,4,none⟩ λz=>R3 λI300=>(asInt .i64 b λA=>bd A (d:Int) (F3 (pQ c) λB=>D2 x (Addr.add B (A.toNat*7)) λC=>D2 x (Addr.add (Addr.add B (A.toNat*7)) 1) λD=>D2 x (Addr.add (Addr.add B (A.toNat*7)) 2) λE=>D2 x (Addr.add (Addr.add B (A.toNat*7)) 3) λF=>D2 x (Addr.add (Addr.add B (A.toNat*7)) 4) λG=>D2 x (Addr.add (Addr.add B (A.toNat*7)) 5) λH=>D2 x (Addr.add (Addr.add B (A.toNat*7)) 6) λA=>IE x q.size λB I J L M N O=>Gb prog 68 (.agg #[C,D,E,F,G,H,A]) (.agg #[B,I,J,L,M,N,O]) λA=>D4 (!A) (I300 [dQ true,dQ true] x) (lI .i64 x (aQ q.size) λA=>D4 (decide ((wrap .i64 ((wrap .i64 ((wrap .i64 (j+k))+y))+z)) > A)) (I300 [dQ (decide ((wrap .i64 ((wrap .i64 ((wrap .i64 (j+k))+y))+z)) > A)),dQ true] x) (lI .i64 x (aQ q.size) λB=>I300 [dQ (decide ((wrap .i64 ((wrap .i64 ((wrap .i64 (j+k))+y))+z)) > A)),dQ (decide ((wrap .i64 ((wrap .i64 ((wrap .i64 (j+k))+y))+z)) < (wrap .i64 (B - 1))))] x))))/\(∀(x A:vQ) (B:G4) (B:A2),(I300 [x,A] B)->(asBool A λx=>D4 x (K (dQ false) B) (asInt .i64 b λx=>(I167 [a,iQ (wrap .i64 (x+1)),r,w,iQ (wrap .i64 ((wrap .i64 ((wrap .i64 (j+k))+y))+z)),s,t,u,v] B)/\((m168 [a,iQ (wrap .i64 (x+1)),r,w,iQ (wrap .i64 ((wrap .i64 ((wrap .i64 (j+k))+y))+z)),s,t,u,v] B) < (m168 [a,b,g,i,l,m,n,o,p] q)))))))))))) (D2 q ⟨f.size,1,none⟩ λa=>asInt .i64 a λb=>cf 27 #[lQ c d e] q λc d=>asAgg c λc=>G3 c 7 (Jv c λc c c c c c e=>ce d f.size 1 a (asInt .i64 c λa=>D4 (a == b) (cf 26 #[] d λa b=>asBool a λa=>K (dQ a) b) (K (dQ false) d)))))))))))))
def F8 (K:kQ) (h:A2) (xa xb xc xd xe xf xg:Int) (xh:rQ) (xi xj:Nat) (xk:rQ) (xl xm:Nat) (xn:rQ) (xo xp:Nat) (xq xr xs xt xu xv xw:Int):Prop:=
 (g8 K h (h.push (oQ #[iQ xa,iQ xb,iQ xc,iQ xd,iQ xe,iQ xf,iQ xg,lQ xh xi xj,lQ xk xl xm,lQ xn xo xp] 28)) (Array.push (h.push (oQ #[iQ xa,iQ xb,iQ xc,iQ xd,iQ xe,iQ xf,iQ xg,lQ xh xi xj,lQ xk xl xm,lQ xn xo xp] 28)) (oQ #[iQ xq,iQ xr,iQ xs,iQ xt,iQ xu,iQ xv,iQ xw] 23)))
theorem call8 {xa xb xc xd xe xf xg:Int} {xh:rQ} {xi xj:Nat} {xk:rQ} {xl xm:Nat} {xn:rQ} {xo xp:Nat} {xq xr xs xt xu xv xw:Int} (H:F8 K h xa xb xc xd xe xf xg xh xi xj xk xl xm xn xo xp xq xr xs xt xu xv xw):A4 prog 8 #[(.agg #[(iQ xa),(iQ xb),(iQ xc),(iQ xd),(iQ xe),(iQ xf),(iQ xg),(lQ xh xi xj),(lQ xk xl xm),(lQ xn xo xp)]),(.agg #[(iQ xq),(iQ xr),(iQ xs),(iQ xt),(iQ xu),(iQ xv),(iQ xw)])] h K:=
 cQ Tryz.func8 H
end
section
set_option maxHeartbeats 1000000
open Mod
def Pz (r:Ro) (e:Ix):Ro:=
 if e.back then if e.a.op=0 then { r with c1:=r.c1+1 } else if e.a.op=1 then { r with c2:=r.c2+1 } else if e.a.op=2 then { r with c3:=r.c3+1 } else if e.a.op=3 then { r with c4:=r.c4+1 } else r
 else { r with c0:=r.c0+1 }
def Bc (ev:List Ix) (l:List CC) (n:Nat):List Ro:=(List.range n).map λi:Nat=>Y7 ev l (i:Int)
theorem BZ (ev:List Ix) (l:List CC) (n:Nat):(Bc ev l n).length=n:=by unfold Bc;simp
theorem CZ (ev:List Ix) (l:List CC) {n i:Nat} (h:i < (Bc ev l n).length):(Bc ev l n)[i]=Y7 ev l i:=by
 exact (List.getElem_of_eq (show Bc ev l n=(List.range n).map λi:Nat=>Y7 ev l (i:Int) from rfl) h).trans (by rw [List.getElem_map,SZ8])
theorem Xn {ev:List Ix} {i:Nat} (hi:i < ev.length) {k:Int} (hk:ev[i].k=k) (ho:ev[i].back=true->ev[i].a.op=0\/ev[i].a.op=1\/ev[i].a.op=2\/ev[i].a.op=3) (l:List CC):Pz (Y7 (ev.take i) l k) ev[i]=Y7 (ev.take (i+1)) l k:=by
 unfold Y7
 rw [Ay k 0 ev hi,Ay k 1 ev hi,Ay k 2 ev hi,Ay k 3 ev hi,Ay k 4 ev hi]
 generalize ev[i]=e at *
 unfold evB
 rw [hk]
 simp only [PF,FC]
 unfold Pz
 cases hb:e.back
 ·simp
 ·rcases ho hb with o | o | o | o <;> rw [o] <;> simp
theorem QS {ev:List Ix} {i:Nat} (hi:i < ev.length) {k:Int} (hk:ev[i].k≠k) (l:List CC):Y7 (ev.take i) l k=Y7 (ev.take (i+1)) l k:=by
 unfold Y7
 rw [Ay k 0 ev hi,Ay k 1 ev hi,Ay k 2 ev hi,Ay k 3 ev hi,Ay k 4 ev hi]
 have e:(ev[i].k == k)=false:=by simpa using hk
 unfold evB
 rw [e]
 simp
theorem Sd4 {ev:List Ix} {i:Nat} (hi:i < ev.length) {n k:Nat} (hk:ev[i].k=k) (hkn:k < n) (ho:ev[i].back=true->ev[i].a.op=0\/ev[i].a.op=1\/ev[i].a.op=2\/ev[i].a.op=3) (l:List CC) :
  (Bc (ev.take i) l n).set k (Pz (Y7 (ev.take i) l k) ev[i])=Bc (ev.take (i+1)) l n:=by
 refine Xw (by rw [Ca,BZ,BZ]) λj h1 h2=>?_
 rw [List.getElem_set,CZ]
 split
 ·rename_i e
  subst e
  rw [Xn hi hk ho l,CZ]
 ·rename_i e
  rw [CZ]
  exact QS hi (by rw [hk];exact λx=>e (by omega)) l
def Dn (ev:List Ix) (l:List CC) (n t:Nat):List Ro:=(List.range n).map λi:Nat=>if i < t then Y7 ev l (i:Int) else Y7 ev [] (i:Int)
theorem FZ (ev:List Ix) (l:List CC) (n t:Nat):(Dn ev l n t).length=n:=by unfold Dn;simp
theorem IB (ev:List Ix) (l:List CC) {n t i:Nat} (h:i < (Dn ev l n t).length):(Dn ev l n t)[i]=if i < t then Y7 ev l i else Y7 ev [] i:=by
 exact (List.getElem_of_eq (show Dn ev l n t=(List.range n).map λi:Nat=>if i < t then Y7 ev l (i:Int) else Y7 ev [] (i:Int) from rfl) h).trans (by rw [List.getElem_map,SZ8])
theorem Sd5 (ev:List Ix) (l:List CC) (n:Nat):Dn ev l n 0=Bc ev [] n:=by unfold Dn Bc;simp
theorem SC8 (ev:List Ix) (l:List CC) (n:Nat):Dn ev l n n=Bc ev l n:=by
 refine Xw (by rw [FZ,BZ]) λj h1 h2=>?_
 rw [IB,CZ,A8 (by rw [FZ] at h1;exact h1)]
theorem Sd6 (ev:List Ix) (l:List CC) {n t:Nat} (ht:t < n):(Dn ev l n t).set t (Y7 ev l t)=Dn ev l n (t+1):=by
 refine Xw (by rw [Ca,FZ,FZ]) λj h1 h2=>?_
 rw [List.getElem_set,IB,IB]
 by_cases e:t=j
 ·rw [A8 e,A8 (by omega),e]
 ·rw [A7 e]
  by_cases c:j < t
  ·rw [A8 c,A8 (by omega)]
  ·rw [A7 c,A7 (by omega)]
theorem QT (r r':Ro) (v:vQ) {j:Nat} (hj:j < 7) (he:r'.cells=r.cells.set j v):∀(l:List Ro) (i:Nat) (hi:i < l.length),l[i]=r->(l.flatMap Ro.cells).set (i*7+j) v=(l.set i r').flatMap Ro.cells
 | [],i,hi,_=>by simp at hi
 | y :: l,0,_,e=>by
  have e:y=r:=e
  subst e
  rw [Sd9,Kv,Kv,List.set_append_left _ _ (by show 0*7+j < 7;omega),he]
  simp
 | y :: l,i+1,hi,e=>by
  have ih:=QT r r' v hj he l i (by simp at hi;omega) e
  rw [Tk,Kv,Kv,<- ih,List.set_append_right _ _ (by show 7<=_;omega)]
  congr 2
  show (i+1)*7+j - 7=_
  omega
section
variable {K:kQ} {h:A2} {R:Hp}
theorem A9.pt_own {b:Nat} {t:TypeId} {sz n:Nat} {row:List vQ} (H:A9 h (pt b (oQ row.toArray t)*R)) (hl:row.length=n*sz):A9 h (E8 t sz (some (aQ b)) n n row*R):=by
 refine H.mono λσ hσ=>⟨λc=>?_,λh' s=>?_⟩
 ·rw [hσ c]
  constructor
  ·rintro ⟨ad,e,rfl⟩
   cases e
   rw [A8 rfl];simp
  ·intro hc
   by_cases e:c=b
   ·exact ⟨_,rfl,e.symm⟩
   ·rw [A7 e] at hc;exact absurd rfl hc
 ·have e:σ b=some (oQ row.toArray t):=by rw [hσ b,A8 rfl]
  have e2:=s.at b _ e
  exact ⟨hl,G0 _,.inr ⟨b,row.toArray,rfl,e2,by simpa using hl,by rw [Dg (by simpa using Nat.le_of_eq hl)]⟩⟩
theorem A9.own_st {elem:TypeId} {sz:Nat} {ad:Addr} {l c i:Nat} {xs:List vQ} {v:vQ} {F:A2->Prop} (H:A9 h (E8 elem sz (some ad) l c xs*R)) (hi:i < xs.length) (ho:J0 v True) (k:∀h',A9 h' (E8 elem sz (some ad) l c (xs.set i v)*R)->F h'):C7 h (ad.add i) v F:=by
 have ow:=H.own
 have hl:=ow.1
 have hc:=ow.2.1
 have hm:l*sz<=c*sz:=EJ _ hc
 have hwr:OH h (ad.add i) 0 [v] F:=by
  refine CS.write ow rfl (by show i+1<=_;omega) (λy hy=>by rw [Fq.1 hy];exact ho) λh' x1 x2 x3 x4=>?_
  have y:=x2 (by show i+1<=_;omega)
  have e:xs.take i ++ [v] ++ xs.drop (i + [v].length)=xs.set i v:=by
   rw [List.set_eq_take_append_cons_drop,A8 hi]
   simp
  rw [e] at y
  exact k h' (H.own_wr x3 y)
 exact hwr
theorem Jt {rs:List Ro} {ad:Addr} {c k j:Nat} {r':Ro} {v:vQ} {P:Hp} {F:A2->Prop} (H:A9 h (P*(E8 68 7 (some ad) rs.length c (rs.flatMap Ro.cells)*R))) (hk:k < rs.length) (hj:j < 7) (he:r'.cells=rs[k].cells.set j v) (ho:J0 v True)
  (f:∀h',A9 h' (P*(E8 68 7 (some ad) rs.length c ((rs.set k r').flatMap Ro.cells)*R))->F h'):C7 h ((ad.add (k*7)).add j) v F:=by
 have hlen:=Qd rs
 rw [Z7]
 rw [D8] at H
 refine H.own_st (by omega) ho λh' H'=>f h' ?_
 rw [QT rs[k] r' v hj he rs k hk rfl,D8] at H'
 exact H'
theorem Oo {rs:List Ro} {ad:Addr} {c k j:Nat} {v:vQ} {P:Hp} (H:A9 h (P*(E8 68 7 (some ad) rs.length c (rs.flatMap Ro.cells)*R))) (hk:k < rs.length) (hj:j < 7) (he:rs[k].cells[j]? = some v):A3 h ((ad.add (k*7)).add j)=some v:=by
 obtain ⟨_,e,hc⟩:=H.drop.own.sees (k*7+j) v ((KL hk hj).trans he)
 cases e
 rw [Z7]
 exact hc
theorem Oq {rs:List Ro} {ad:Addr} {c k:Nat} {e:Ix} {P:Hp} (hback:e.back=true) (H:A9 h (P*(E8 68 7 (some ad) rs.length c (rs.flatMap Ro.cells)*R))) (hk:k < rs.length) (hb:Bd 1000000 rs[k])
  (kk:∀h',A9 h' (E8 68 7 (some ad) rs.length c ((rs.set k (Pz rs[k] e)).flatMap Ro.cells)*R)->K tQ h') :
  A4 prog 93 #[pQ (some (ad.add (k*7))),.agg #[iQ e.a.op,.int .u32 e.a.key,.int .u32 e.a.val]] h K:=by
 refine call93 ?_
 unfold F93 g93 lI nP
 have b1:=hb.b1
 have b2:=hb.b2
 have b3:=hb.b3
 have b4:=hb.b4
 have H1:=H.push (oQ (CJ e.a).toArray 43)
 rw [show h.push (oQ #[iQ e.a.op,.int .u32 e.a.key,.int .u32 e.a.val] 43)=h.push (oQ (CJ e.a).toArray 43) from rfl]
 generalize h.push (oQ (CJ e.a).toArray 43)=h1 at *
 generalize h.size=AB at *
 have O:=H1.at
 refine C4 O rfl ?_
 simp only [A5,G5,D0]
 have H2:=H1
 rw [<- F2] at H2
 have A:Pz rs[k] e=if e.a.op=0 then { rs[k] with c1:=rs[k].c1+1 } else if e.a.op=1 then { rs[k] with c2:=rs[k].c2+1 } else if e.a.op=2 then { rs[k] with c3:=rs[k].c3+1 } else if e.a.op=3 then { rs[k] with c4:=rs[k].c4+1 } else rs[k]:=by
  unfold Pz;rw [A8 hback]
 have nw:∀ {n:Int},0<=n/\n<=1000000->IntKind.i64.wrap (n+1)=n+1:=λh=>In (by omega) (by omega)
 apply D1<;>intro p0
 ·rw [A8 (by simpa using p0)] at A
  rw [A] at kk
  refine C6 (Oo H2 hk (j:=1) (by omega) rfl) ?_
  simp only [A5]
  rw [nw b1]
  exact Jt H2 hk (j:=1) (by omega) rfl trivial λh' H'=>kk h' H'.drop
 rw [A7 (by simpa using p0)] at A
 apply D1<;>intro p1
 ·rw [A8 (by simpa using p1)] at A
  rw [A] at kk
  refine C6 (Oo H2 hk (j:=2) (by omega) rfl) ?_
  simp only [A5]
  rw [nw b2]
  exact Jt H2 hk (j:=2) (by omega) rfl trivial λh' H'=>kk h' H'.drop
 rw [A7 (by simpa using p1)] at A
 apply D1<;>intro p2
 ·rw [A8 (by simpa using p2)] at A
  rw [A] at kk
  refine C6 (Oo H2 hk (j:=3) (by omega) rfl) ?_
  simp only [A5]
  rw [nw b3]
  exact Jt H2 hk (j:=3) (by omega) rfl trivial λh' H'=>kk h' H'.drop
 rw [A7 (by simpa using p2)] at A
 apply D1<;>intro p3
 ·rw [A8 (by simpa using p3)] at A
  rw [A] at kk
  refine C6 (Oo H2 hk (j:=4) (by omega) rfl) ?_
  simp only [A5]
  rw [nw b4]
  exact Jt H2 hk (j:=4) (by omega) rfl trivial λh' H'=>kk h' H'.drop
 rw [A7 (by simpa using p3)] at A
 rw [A,List.set_getElem_self] at kk
 exact kk h1 H2.drop
theorem PA {rs:List Ro} {ad:Addr} {c k:Nat} {e:Ix} (H:A9 h (E8 68 7 (some ad) rs.length c (rs.flatMap Ro.cells)*R)) (hk:k < rs.length) (hb:Bd 1000000 rs[k])
  (kk:∀h',A9 h' (E8 68 7 (some ad) rs.length c ((rs.set k (Pz rs[k] e)).flatMap Ro.cells)*R)->K tQ h') :
  A4 prog 55 #[pQ (some (ad.add (k*7))),.agg #[iQ e.k,dQ e.back,iQ e.c.op,.int .u32 e.c.key,.int .u32 e.c.val,iQ e.a.op,.int .u32 e.a.key,.int .u32 e.a.val]] h K:=by
 refine call55 ?_
 unfold F55 g55 cf lI nP
 have b0:=hb.b0
 have H1:=H.push (oQ (Dc e).toArray 45)
 rw [<- S93]
 generalize h.push (oQ (Dc e).toArray 45)=h1 at *
 generalize h.size=EB at *
 have O:=H1.at
 refine C4 O rfl ?_
 simp only [C0]
 apply D1<;>intro p0
 ·refine C4 O rfl (C4 O rfl (C4 O rfl ?_))
  exact A0 (Oq p0 H1 hk hb λh6 H6=>kk h6 H6)
 ·have A:Pz rs[k] e = { rs[k] with c0:=rs[k].c0+1 }:=by unfold Pz;rw [A7 (by rw [p0];decide)]
  rw [A] at kk
  simp only [G5,D0]
  have q:=Oo H1 hk (j:=0) (by omega) rfl
  rw [Tl0] at q
  refine C6 q ?_
  simp only [A5]
  rw [In (by omega) (by omega)]
  have w:=Jt (F:=λh11=>K tQ h11) H1 hk (j:=0) (r':={ rs[k] with c0:=rs[k].c0+1 }) (by omega) rfl trivial λh' H'=>kk h' H'.drop
  rw [Tl0] at w
  exact w
end
end
section
set_option maxHeartbeats 1000000
open Mod
section
variable {K:kQ} {h:A2} {R:Hp} {calls:List (List Cl)} {C2 draws:List Int}
theorem SZ1 {v0 v1 v2 v3 v4:vQ} {F:vQ->vQ->vQ->vQ->vQ->Prop} (k:F v0 v1 v2 v3 v4):asAgg (.agg #[v0,v1,v2,v3,v4]) λvs=>G3 vs 5 (D9 vs 0 λa=>D9 vs 1 λb=>D9 vs 2 λc=>D9 vs 3 λd=>D9 vs 4 λe=>F a b c d e):=k
theorem Kr {a i:Nat} (h:i < a):a - ((i+1:Nat):Int).toNat < a - (i:Int).toNat:=by omega
end
end
section
set_option maxHeartbeats 1000000
open Mod
section
variable {K:kQ} {h:A2} {R:Hp} {calls:List (List Cl)} {C2 draws:List Int} {ca pa da:rQ} {cl cc pl pc dl dc:Nat}
theorem Sd7 {c:Mod.Cf} (hc:GK c=false) (H:A9 h R) (k:∀h',A9 h' R->K (.tuple #[.agg #[lQ none 0 0,iQ 0,iQ 0,dQ false,iQ 0],pQ none,iQ 1]) h') :
  A4 prog 12 #[.agg #[iQ c.algo,iQ c.threads,iQ c.nodes,iQ c.level,iQ c.batch,iQ c.probes,iQ c.scan,lQ ca cl cc,lQ pa pl pc,lQ da dl dc]] h K:=by
 refine call12 ?_
 unfold F12 g12 cf ce bd lS lI da5 da7 dl5 Du dw5
 have H1:=H.push (oQ (N1 c ca cl cc pa pl pc da dl dc).toArray 28)
 rw [show h.push (oQ #[iQ c.algo,iQ c.threads,iQ c.nodes,iQ c.level,iQ c.batch,iQ c.probes,iQ c.scan,lQ ca cl cc,lQ pa pl pc,lQ da dl dc] 28)=h.push (oQ (N1 c ca cl cc pa pl pc da dl dc).toArray 28) from rfl]
 generalize h.push (oQ (N1 c ca cl cc pa pl pc da dl dc).toArray 28)=h1 at *
 generalize h.size=SB at *
 have H2:=H1.push (oQ #[lQ none 0 0,iQ 0,iQ 0,dQ false,iQ 0] 34)
 generalize h1.push (oQ #[lQ none 0 0,iQ 0,iQ 0,dQ false,iQ 0] 34)=h2 at *
 generalize h1.size=ZB at *
 have O:=H2.at2
 refine C4 O rfl (C4 O rfl (C4 O rfl (C4 O rfl (C4 O rfl (C4 O rfl (C4 O rfl (C4 O rfl (C4 O rfl (C4 O rfl ?_)))))))))
 refine A0 (Sd0 hc H2 λh3 H3=>?_)
 refine sb ?_
 refine F5 (vs:=[lQ none 0 0,iQ 0,iQ 0,dQ false,iQ 0]) H3.at rfl (by simp [J0]) λh4 w=>?_
 have H4:=H3.wr w.new w.old
 refine C4 H4.at rfl (C4 H4.at rfl (C4 H4.at rfl (C4 H4.at rfl (C4 H4.at rfl ?_))))
 exact k h4 H4.drop.drop
theorem PB {c:Mod.Cf} (hc:GK c=false) (H:A9 h R) (k:∀h',A9 h' R->K (.tuple #[lQ none 0 0,iQ 1]) h') :
  A4 prog 25 #[.agg #[iQ c.algo,iQ c.threads,iQ c.nodes,iQ c.level,iQ c.batch,iQ c.probes,iQ c.scan,lQ ca cl cc,lQ pa pl pc,lQ da dl dc]] h K:=by
 refine call25 ?_
 unfold F25 g25 cf bd lS lI de5 dl8 Du
 have H1:=H.push (oQ (N1 c ca cl cc pa pl pc da dl dc).toArray 28)
 rw [show h.push (oQ #[iQ c.algo,iQ c.threads,iQ c.nodes,iQ c.level,iQ c.batch,iQ c.probes,iQ c.scan,lQ ca cl cc,lQ pa pl pc,lQ da dl dc] 28)=h.push (oQ (N1 c ca cl cc pa pl pc da dl dc).toArray 28) from rfl]
 generalize h.push (oQ (N1 c ca cl cc pa pl pc da dl dc).toArray 28)=h1 at *
 generalize h.size=SB at *
 have O:=H1.at
 refine C4 O rfl (C4 O rfl (C4 O rfl (C4 O rfl (C4 O rfl (C4 O rfl (C4 O rfl (C4 O rfl (C4 O rfl (C4 O rfl ?_)))))))))
 refine A0 (Sd7 hc H1 λh3 H3=>?_)
 refine sb ?_
 refine Ko ?_
 refine SZ1 ?_
 refine Kp ?_
 refine sb ?_
 refine Kq ?_
 refine sb ?_
 have H4:=H3.push (oQ #[lQ none 0 0,iQ 0,iQ 0,dQ false,iQ 0] 34)
 generalize h3.push (oQ #[lQ none 0 0,iQ 0,iQ 0,dQ false,iQ 0] 34)=h4 at *
 generalize h3.size=ZB at *
 refine F5 (vs:=[lQ none 0 0,iQ 0,iQ 0,dQ false,iQ 0]) H4.at rfl (by simp [J0]) λh5 w=>?_
 have H5:=H4.wr w.new w.old
 exact k h5 H5.drop.drop
theorem Sd8:Bp prog 68=Ov:=by kernel_rfl
theorem S77:EL prog 68=56:=by kernel_rfl
theorem Ot:∀n:Nat,(List.replicate n Ov).flatten=(List.replicate n JR).flatMap Ro.cells
 | 0=>rfl
 | n+1=>by
  rw [List.replicate_succ,List.replicate_succ,List.flatten_cons,Kv,Ot n]
  rfl
theorem SC9 {n:Nat} {t:Int} (ht:(n:Int)=t) (hn:n<=4096) (k:K (lQ (some (aQ h.size)) n n) (h.push (oQ ((List.replicate n JR).flatMap Ro.cells).toArray 68))):Y2 prog 68 t t h K:=by
 subst ht
 refine ⟨by omega,Oz _,by omega,by rw [S77];omega,?_⟩
 rw [Sd8,X5]
 rw [Ot]
 exact k
theorem SD0 (n:Nat):List.replicate n JR=Bc [] [] n:=by
 refine Xw (by rw [SE2,BZ]) λj h1 h2=>?_
 rw [List.getElem_replicate,CZ]
 rfl
theorem Ta (ev:List Ix) (l:List CC) (t:Int) (h1:ev.length<=100000) (h2:l.length<=100000):Bd 1000000 (Y7 ev l t):=by
 have a0:=Ik t 0 ev
 have a1:=Ik t 1 ev
 have a2:=Ik t 2 ev
 have a3:=Ik t 3 ev
 have a4:=Ik t 4 ev
 have a5:=SY7 t l
 have a6:=SY8 t l
 constructor
 ·show 0<=Av t 0 ev/\Av t 0 ev<=_;omega
 ·show 0<=Av t 1 ev/\Av t 1 ev<=_;omega
 ·show 0<=Av t 2 ev/\Av t 2 ev<=_;omega
 ·show 0<=Av t 3 ev/\Av t 3 ev<=_;omega
 ·show 0<=Av t 4 ev/\Av t 4 ev<=_;omega
 ·show 0<=DE t l/\DE t l<=_;omega
 ·show 0<=La t l/\La t l<=_;omega
variable {d:B9->B9} {Q:Mod.Cf->N6->Prop} {W:B9->Prop}
theorem Tb {c:Mod.Cf} (H:A9 h R) (hS:∀h' P,A9 h' (P*R)->FV h' ca cl pa pl da dl calls C2 draws) (hR:Sq calls C2 draws)
  (hn:calls.flatten.length < 2 ^ 60) (hn2:calls.length < 2 ^ 60) (hn3:C2.length < 2 ^ 60) (hV:∀l ∈ calls,l.length < 2 ^ 60) (hsc:IH c calls C2 draws=true) (hct:(calls.length:Int)=c.threads) (hpk:∀p ∈ C2,0<=p/\p < c.threads) (hpl:C2.length<=1000)
  (D:DoC (DD c.algo) d W) (DO:Jq d Q W (S1 c.algo)) (hB:If d Q) (hth:1<=c.threads/\c.threads<=6) (hok:GK c=true)
  (k:∀h' a cc,A9 h' (E8 68 7 a calls.length cc ((Bc (Pu d (S1 c.algo) calls (L1 c draws true) C2).ev (Ih d (S1 c.algo) calls (L1 c draws false).watch C2).l calls.length).flatMap Ro.cells)*R)->K (.tuple #[lQ a calls.length cc,iQ 0]) h') :
  A4 prog 25 #[.agg #[iQ c.algo,iQ c.threads,iQ c.nodes,iQ c.level,iQ c.batch,iQ c.probes,iQ c.scan,lQ ca cl cc,lQ pa pl pc,lQ da dl dc]] h K:=by
 refine call25 ?_
 unfold F25 g25 cf bd lS lI de5 dl8 Du
 have H1:=H.push (oQ (N1 c ca cl cc pa pl pc da dl dc).toArray 28)
 rw [show h.push (oQ #[iQ c.algo,iQ c.threads,iQ c.nodes,iQ c.level,iQ c.batch,iQ c.probes,iQ c.scan,lQ ca cl cc,lQ pa pl pc,lQ da dl dc] 28)=h.push (oQ (N1 c ca cl cc pa pl pc da dl dc).toArray 28) from rfl]
 generalize h.push (oQ (N1 c ca cl cc pa pl pc da dl dc).toArray 28)=h1 at *
 generalize h.size=SB at *
 have O:=H1.at
 refine C4 O rfl (C4 O rfl (C4 O rfl (C4 O rfl (C4 O rfl (C4 O rfl (C4 O rfl (C4 O rfl (C4 O rfl (C4 O rfl ?_)))))))))
 refine A0 (IT (c:=c) (calls:=calls) (C2:=C2) (draws:=draws) H1 (λh' Y HY=>hS h' (Y*_) (by rw [F2];exact HY)) hR hn hn2 hn3 hV D (At.good DO) (λhh=>At.new hok _ _) (λhh=>by rw [hsc] at hh;cases hh) λ_ h3 ea ec Qq M Ts s es OO H3=>?_)
 have H3':=A9.ac H3 (show _=CF Qq M (DD c.algo) (S1 c.algo) Ts s.m*(E8 45 8 ea s.ev.length ec (s.ev.flatMap Dc)*(pt SB (oQ (N1 c ca cl cc pa pl pc da dl dc).toArray 28)*R)) by ac_rfl)
 have H4:=H3'.drop
 have EI:IU c.threads s:=by
  rw [es]
  exact IU.run (m:=L1 c draws true) C2 _ (IU.new _ _ _) hpk
 have evl:s.ev.length<=10000:=by have:=OO.ev;omega
 clear H3 H3' OO
 refine sb ?_
 refine Ko ?_
 refine SZ1 ?_
 refine Kp ?_
 refine sb ?_
 refine Kq ?_
 refine sb ?_
 have H5:=H4.push (oQ #[lQ none 0 0,iQ 0,iQ 0,dQ false,iQ 0] 34)
 generalize h3.push (oQ #[lQ none 0 0,iQ 0,iQ 0,dQ false,iQ 0] 34)=h5 at *
 generalize h3.size=ZB at *
 refine F5 (vs:=[lQ ea s.ev.length ec,iQ (G2 (s.m.mm.st - (L1 c draws true).mm.st)),iQ s.idle,dQ s.m.fault,iQ s.most]) H5.at rfl (by simp [J0]) λh6 w=>?_
 have H6:=H5.wr w.new w.old
 clear H4 H5 w
 show D2 h6 (aQ SB) _
 have O:=H6.at3
 refine C4 O rfl (C4 O rfl (C4 O rfl (C4 O rfl (C4 O rfl (C4 O rfl (C4 O rfl (C4 O rfl (C4 O rfl (C4 O rfl ?_)))))))))
 refine A0 (QP (c:=c) (calls:=calls) (C2:=C2) (draws:=draws) H6 (λh' Y HY=>hS h' Mt (by rw [T8];exact HY.drop.drop.drop.drop)) hR hn hn2 hn3 hV D DO hB (λhh=>by rw [hsc] at hh;cases hh) λ_ h7 la lc t et htl _ _ H7=>?_)
 clear H6 O
 refine sb ?_
 refine Bk ?_
 refine sb ?_
 refine Bl ?_
 refine sb ?_
 refine D1 (λhh=>by simp at hh) (λ_=>?_)
 have O:=H7.drop.at3
 refine C4 O rfl ?_
 refine sb ?_
 refine SC9 hct (by omega) ?_
 refine sb ?_
 have H8:=H7.push (oQ ((List.replicate calls.length JR).flatMap Ro.cells).toArray 68)
 generalize h7.push (oQ ((List.replicate calls.length JR).flatMap Ro.cells).toArray 68)=h8 at *
 generalize h7.size=RB at *
 rw [SD0] at H8
 have H9:=H8.pt_own (sz:=7) (n:=calls.length) (by rw [Qd,BZ])
 clear H7 H8 O
 rw [<- es,<- et] at k
 generalize hn':calls.length=n at *
 refine C4 (H9.drop.drop.at) rfl ?_
 refine sb ?_
 have hl0:∀i,(Bc (s.ev.take i) [] n).length=n:=λi=>BZ _ _ _
 refine ⟨λvs h'=>∃i:Nat,i<=s.ev.length/\vs = [.int .i64 (i:Int)]/\A9 h' (E8 68 7 (some ⟨RB,0,none⟩) n n ((Bc (s.ev.take i) [] n).flatMap Ro.cells)*(E8 51 9 la t.l.length lc (t.l.flatMap Ai)*(pt ZB (.cells [Value.slice ea s.ev.length ec,.int .i64 (G2 (s.m.mm.st - (L1 c draws true).mm.st)),.int .i64 s.idle,.bool s.m.fault,.int .i64 s.most].toArray 34)*(E8 45 8 ea s.ev.length ec (s.ev.flatMap Dc)*(pt SB (.cells (N1 c ca cl cc pa pl pc da dl dc).toArray 28)*R))))),λvs _=>match vs with | [.int _ i]=>s.ev.length - i.toNat | _=>0,⟨0,T4 _,rfl,H9⟩,?_⟩
 rintro v64 g65 h66 ⟨i,hi,e,H10⟩
 cases e
 refine sb ?_
 have HE:=H10.drop.drop.drop
 apply A6<;>intro c1
 ·have hi':i < s.ev.length:=by omega
  have er:=EI.rng _ (CD hi')
  have eo:=EI.op _ (CD hi')
  have nxt:=λ(k:Nat) (hk:s.ev[i].k=k) (hkn:k < n)=>Sd4 hi' hk hkn eo []
  have g:∀j,j < 8->(s.ev.flatMap Dc)[i*8+j]? = (Dc s.ev[i])[j]?:=λj hj=>N0 Sc hi' hj
  generalize s.ev[i]=e at *
  have hs:=HE.own.sees
  refine ⟨by omega,by omega,?_⟩
  obtain ⟨ad,ea2,q0⟩:=hs (i*8+0) (.int .i64 e.k) (g 0 (by omega))
  subst ea2
  have q:∀j v,j < 8->(Dc e)[j]? = some v->A3 h66 ((ad.add (i*8)).add j)=some v:=λj v hj ej=>by
   obtain ⟨_,ea3,q1⟩:=hs (i*8+j) v ((g j hj).trans ej)
   cases ea3
   rw [Z7];exact q1
  simp only [D0,X5]
  refine C6 q0 (C6 (q 1 _ (by omega) rfl) (C6 (q 2 _ (by omega) rfl) (C6 (q 3 _ (by omega) rfl) (C6 (q 4 _ (by omega) rfl) (C6 (q 5 _ (by omega) rfl) (C6 (q 6 _ (by omega) rfl) (C6 (q 7 _ (by omega) rfl) ?_)))))))
  have H11:=H10.push (oQ #[iQ 0,dQ false,iQ 0,.int .u32 0,.int .u32 0,iQ 0,.int .u32 0,.int .u32 0] 45)
  generalize h66.push (oQ #[iQ 0,dQ false,iQ 0,.int .u32 0,.int .u32 0,iQ 0,.int .u32 0,.int .u32 0] 45)=h11 at *
  generalize h66.size=EB at *
  refine F5 (vs:=Dc e) H11.at rfl (by simp [Dc,J0]) λh12 w=>?_
  have H12:=H11.wr w.new w.old
  clear H11 w
  have O:=H12.at
  obtain ⟨k0,hk0⟩ : ∃k0:Nat,e.k=k0:=⟨e.k.toNat,by omega⟩
  have hkn:k0 < n:=by omega
  have nx:=nxt k0 hk0 hkn
  clear nxt g q hs
  refine C4 O rfl ?_
  simp only [A5]
  refine ⟨by omega,by omega,?_⟩
  refine C4 O rfl (C4 O rfl (C4 O rfl (C4 O rfl (C4 O rfl (C4 O rfl (C4 O rfl (C4 O rfl ?_)))))))
  have H13:=H12.drop
  rw [show e.k.toNat=k0 by omega]
  have hl1:=hl0 i
  have hr:=CZ (s.ev.take i) [] (n:=n) (i:=k0) (by omega)
  have hbd:=Ta (s.ev.take i) [] (k0:Int) (by rw [CM];omega) (by simp)
  rw [<- hr] at hbd nx
  rw [show (E8 68 7 (some (aQ RB)) n n ((Bc (s.ev.take i) [] n).flatMap Ro.cells))=E8 68 7 (some (aQ RB)) (Bc (s.ev.take i) [] n).length n ((Bc (s.ev.take i) [] n).flatMap Ro.cells) by rw [hl1]] at H13
  rw [show (⟨RB,k0*7,none⟩ : Addr)=((aQ RB) : Addr).add (k0*7) by rw [E2,J6]]
  refine A0 (PA (e:=e) H13 (by omega) hbd λh14 H14=>?_)
  rw [nx,hl1] at H14
  rw [show G2 ((i:Int)+1)=((i+1:Nat):Int) from by rw [<- Mg];exact Ah _ (by omega)]
  exact ⟨⟨i+1,Tl hi',rfl,H14⟩,Kr hi'⟩
 have ei:i=s.ev.length:=by omega
 subst ei
 rw [EH,<- Sd5 s.ev t.l n] at H10
 generalize hG:pt ZB (.cells [Value.slice ea s.ev.length ec,iQ (G2 (s.m.mm.st - (L1 c draws true).mm.st)),iQ s.idle,dQ s.m.fault,iQ s.most].toArray 34)*(E8 45 8 ea s.ev.length ec (s.ev.flatMap Dc)*(pt SB (oQ (N1 c ca cl cc pa pl pc da dl dc).toArray 28)*R))=G at *
 have lz:la=none->t.l.length=0:=λe=>by
  have ow:=H10.drop.own
  rcases ow.2.2 with ⟨_,hc⟩ | ⟨b,row,e2,_⟩
  ·have:=ow.2.1;omega
  ·rw [e] at e2;cases e2
 clear HE
 have hlm:∀t0,(Dn s.ev t.l n t0).length=n:=λt0=>FZ _ _ _ _
 refine ⟨λvs h'=>∃(i:Nat) (u1 u2:vQ),i<=n/\vs = [u1,u2,.int .i64 (i:Int)]/\A9 h' (E8 68 7 (some ⟨RB,0,none⟩) n n ((Dn s.ev t.l n i).flatMap Ro.cells)*(E8 51 9 la t.l.length lc (t.l.flatMap Ai)*G)),λvs _=>match vs with | [_,_,.int _ i]=>n - i.toNat | _=>0,⟨0,_,_,T4 _,rfl,H10⟩,?_⟩
 rintro v102 v103 v104 g105 h106 ⟨i,u1,u2,hi2,e,H11⟩
 cases e
 refine sb ?_
 apply A6<;>intro c2
 ·have hi':i < n:=by omega
  refine A0 (Xm (xs:=t.l) (th:=(i:Int)) H11 ⟨λh' Y HY=>HY.drop.drop.own.sees,lz,by omega⟩ λh12 a2 c2' H12=>?_)
  refine sb ?_
  have lz2:a2=none->(t.l.filter λx=>x.th == (i:Int)).length=0:=λe=>by
   have ow:=H12.own
   rcases ow.2.2 with ⟨_,hc⟩ | ⟨b,row,e2,_⟩
   ·have:=ow.2.1;omega
   ·rw [e] at e2;cases e2
  have lf:=QY (λx:CC=>x.th == (i:Int)) t.l
  refine A0 (Py (xs:=t.l.filter λx=>x.th == (i:Int)) H12 ⟨λh' Y HY=>HY.drop.own.sees,lz2,by omega⟩ λh13 H13=>?_)
  refine sb ?_
  refine ⟨by omega,by omega,?_⟩
  have hl1:=hlm i
  have hr:(Dn s.ev t.l n i)[i]'(by rw [hl1];exact hi')=Y7 s.ev [] i:=by rw [IB,A7 (Nat.lt_irrefl _)]
  rw [show (E8 68 7 (some (aQ RB)) n n ((Dn s.ev t.l n i).flatMap Ro.cells))=E8 68 7 (some (aQ RB)) (Dn s.ev t.l n i).length n ((Dn s.ev t.l n i).flatMap Ro.cells) by rw [hl1]] at H13
  have hr2:Y7 s.ev t.l i = { Y7 s.ev [] i with c5:=DE i t.l,c6:=La i t.l }:=rfl
  have nx:=Sd6 s.ev t.l hi'
  generalize Dn s.ev t.l n i=rs at *
  rw [hr2,<- hr] at nx
  have hlt:i < rs.length:=by omega
  obtain ⟨r0,hr0⟩ : ∃r0,r0=rs[i]:=⟨_,rfl⟩
  rw [<- hr0] at nx
  have w1:=λ(F:A2->Prop) (f:∀h',A9 h' (_*(E8 68 7 (some (aQ RB)) rs.length n ((rs.set i { r0 with c5:=DE i t.l }).flatMap Ro.cells)*_))->F h')=>Jt (F:=F) H13 (k:=i) (j:=5) (r':={ r0 with c5:=DE i t.l }) (v:=iQ (DE i t.l)) hlt (by omega) (by rw [hr0];rfl) trivial f
  rw [E2,E2,J6] at w1
  refine w1 _ λh14 H14=>?_
  clear w1
  refine ⟨by omega,by omega,?_⟩
  obtain ⟨rs2,hrs2⟩ : ∃rs2,rs2=rs.set i { r0 with c5:=DE i t.l }:=⟨_,rfl⟩
  have hl2:rs2.length=rs.length:=by rw [hrs2,Ca]
  have hlt2:i < rs2.length:=by omega
  have g2:rs2[i] = { r0 with c5:=DE i t.l }:=by subst hrs2;exact List.getElem_set_self _
  have s2:∀r,rs2.set i r=rs.set i r:=λr=>by rw [hrs2];exact List.set_set _
  rw [<- hrs2,<- hl2] at H14
  have w1:=λ(F:A2->Prop) (f:∀h',A9 h' (_*(E8 68 7 (some (aQ RB)) rs2.length n ((rs2.set i { r0 with c5:=DE i t.l,c6:=La i t.l }).flatMap Ro.cells)*_))->F h')=>Jt (F:=F) H14 (k:=i) (j:=6) (r':={ r0 with c5:=DE i t.l,c6:=La i t.l }) (v:=iQ (La i t.l)) hlt2 (by omega) (by rw [g2];rfl) trivial f
  rw [E2,E2,J6] at w1
  refine w1 _ λh15 H15=>?_
  rw [s2,nx,hl2,hl1] at H15
  rw [show G2 ((i:Int)+1)=((i+1:Nat):Int) from by rw [<- Mg];exact Ah _ (by omega)]
  exact ⟨⟨i+1,_,_,Tl hi',rfl,H15.drop⟩,Kr hi'⟩
 have ei:i=n:=by omega
 subst ei
 rw [SC8,<- hG] at H11
 have H12:=A9.ac H11 (show _=(E8 51 9 la t.l.length lc (t.l.flatMap Ai)*(pt ZB (.cells [Value.slice ea s.ev.length ec,iQ (G2 (s.m.mm.st - (L1 c draws true).mm.st)),iQ s.idle,dQ s.m.fault,iQ s.most].toArray 34)*(E8 45 8 ea s.ev.length ec (s.ev.flatMap Dc)*pt SB (oQ (N1 c ca cl cc pa pl pc da dl dc).toArray 28))))*(E8 68 7 (some (aQ RB)) i i ((Bc s.ev t.l i).flatMap Ro.cells)*R) by ac_rfl)
 exact k h106 _ _ H12.drop
end
end
section
set_option maxHeartbeats 1000000
open Mod
section
variable {K:kQ} {h:A2} {R:Hp} {calls:List (List Cl)} {C2 draws:List Int}
theorem Ju {x B:Int} (h:0<=x/\x<=B) (hB:B<=1000000000):G2 (x+1)=x+1:=by unfold G2;omega
theorem S78 {a b c d:Int} (ha:0<=a/\a<=1000000) (hb:0<=b/\b<=1000000) (hc:0<=c/\c<=1000000) (hd:0<=d/\d<=1000000):G2 (G2 (G2 (a+b)+c)+d)=a+b+c+d:=by
 rw [show G2 (a+b)=a+b by unfold G2;omega,show G2 (a+b+c)=a+b+c by unfold G2;omega]
 unfold G2;omega
theorem SZ2 {k a:Int} (ha:0<=a/\a<=1000000) (h:a=k\/a=k+1):¬ k > a/\decide (k < G2 (a - 1))=false:=by
 rw [show G2 (a - 1)=a - 1 by unfold G2;omega]
 exact ⟨by omega,S4 (by omega)⟩
theorem SD1 (ev:List Ix) (l:List CC) {i:Nat} (hi:i < l.length) (t:Int):Y7 ev (l.take (i+1)) t = { Y7 ev (l.take i) t with c5:=(Y7 ev (l.take i) t).c5+(if l[i].th == t then 1 else 0),c6:=(Y7 ev (l.take i) t).c6+(if l[i].th == t && Ij l[i] then 1 else 0) }:=by
 unfold Y7
 rw [SC6 t l hi,SC7 t l hi]
theorem SZ3 {p:Pl} {n:Nat} {x:CC} (h:Tk4 p n x):Ij x=(!x.done && (x.kind == 2 || decide (x.kind > 3))):=by
 obtain ⟨e,he,ex⟩:=h
 have hk:x.kind=e.kind:=by rw [ex];rfl
 have:x.kind=0\/x.kind=1\/x.kind=2\/x.kind=3\/x.kind=4\/x.kind=5:=by
  have:=he.k
  omega
 unfold Ij
 rcases this with h | h | h | h | h | h <;> rw [h] <;> cases x.done <;> rfl
theorem Ou {α:Type} {f:α->List vQ} {n:Nat} {a:rQ} {xs:List α} (hf:∀x,(f x).length=n) (hs:N5 h a (xs.flatMap f)) {i:Nat} (hi:i < xs.length) (hn:0 < n):∃ad,a=some ad/\∀(j:Nat) (v:vQ),j < n->(f xs[i])[j]? = some v->A3 h ((ad.add (i*n)).add j)=some v:=by
 have g:∀j,j < n->(xs.flatMap f)[i*n+j]? = (f xs[i])[j]?:=λj hj=>N0 hf hi hj
 have h0:0 < (f xs[i]).length:=by rw [hf];exact hn
 obtain ⟨ad,ea,_⟩:=hs (i*n+0) _ ((g 0 hn).trans (X7 h0))
 refine ⟨ad,ea,λj v hj ej=>?_⟩
 obtain ⟨_,e2,q1⟩:=hs (i*n+j) v ((g j hj).trans ej)
 rw [ea] at e2
 cases e2
 rw [Z7];exact q1
theorem Lb {c0 c:Mod.Cf} {ca pa da:rQ} {cl cc0 pl pc0 dl dc0:Nat} (H:A9 h R)
  (hS:∀h' P,A9 h' (P*R)->FV h' ca cl pa pl da dl calls C2 draws) (hR:Sq calls C2 draws) (k:∀h',A9 h' R->K (dQ true) h') :
  A4 prog 8 #[.agg #[iQ c0.algo,iQ c0.threads,iQ c0.nodes,iQ c0.level,iQ c0.batch,iQ c0.probes,iQ c0.scan,lQ ca cl cc0,lQ pa pl pc0,lQ da dl dc0],.agg #[iQ c.algo,iQ c.threads,iQ c.nodes,iQ c.level,iQ c.batch,iQ c.probes,iQ c.scan]] h K:=by
 refine call8 ?_
 unfold F8 g8 cf ce bd lS lI de5 Jv Th9 IE Du SI3
 have H1:=H.push (oQ (N1 c0 ca cl cc0 pa pl pc0 da dl dc0).toArray 28)
 rw [show h.push (oQ #[iQ c0.algo,iQ c0.threads,iQ c0.nodes,iQ c0.level,iQ c0.batch,iQ c0.probes,iQ c0.scan,lQ ca cl cc0,lQ pa pl pc0,lQ da dl dc0] 28)=h.push (oQ (N1 c0 ca cl cc0 pa pl pc0 da dl dc0).toArray 28) from rfl]
 generalize h.push (oQ (N1 c0 ca cl cc0 pa pl pc0 da dl dc0).toArray 28)=h1 at *
 generalize h.size=SB at *
 have H2:=H1.push (oQ (Qk c).toArray 23)
 rw [show h1.push (oQ #[iQ c.algo,iQ c.threads,iQ c.nodes,iQ c.level,iQ c.batch,iQ c.probes,iQ c.scan] 23)=h1.push (oQ (Qk c).toArray 23) from rfl]
 generalize h1.push (oQ (Qk c).toArray 23)=h2 at *
 generalize h1.size=CB at *
 have lv:∀ {h':A2} {P:Hp},A9 h' (P*R)->A4 prog 26 #[] h' λv h''=>asBool v λb=>K (dQ b) h'':=λH'=>Rz λh'' o''=>by
  refine sb ?_
  exact k h'' (H'.old o'').drop
 have O:=H2.at
 refine C4 O rfl (C4 O rfl (C4 O rfl (C4 O rfl (C4 O rfl (C4 O rfl (C4 O rfl ?_))))))
 refine A0 (SC4 H2 (λhc h3 H3=>?_) λhc h3 H3=>?_)
 ·refine sb ?_
  have OC:=H3.at
  have OS:=H3.at2
  refine C4 OS rfl (C4 OS rfl (C4 OS rfl (C4 OS rfl (C4 OS rfl (C4 OS rfl (C4 OS rfl (C4 OS rfl (C4 OS rfl (C4 OS rfl (C4 OC rfl (C4 OC rfl (C4 OC rfl (C4 OC rfl (C4 OC rfl (C4 OC rfl (C4 OC rfl ?_))))))))))))))))
  have B:=Cy hc
  have hth:1<=c.threads/\c.threads<=6:=B.th
  refine A0 (WM (c:=c) (c0:=c0) (n:=4) (m:=500) H3 (λh' P H'=>hS h' Mt (by rw [T8];exact H'.drop.drop.drop)) hth (by decide) (by decide) λh4 ca' cc pa' pc da' dc ps H4=>?_)
  refine Tk5 ?_
  have hsc:=WO hc (n:=4) (m:=500) (by decide) (by decide) (calls:=calls) (C2:=C2) (draws:=draws)
  have hRL:=SV5 (th:=c.threads) (n:=4) (m:=500) (by decide) hR
  have hCL:=SY5 (th:=c.threads.toNat) (n:=4) (by omega) (by decide) hR
  have hpk:=Sc9 hth (m:=500) (C2:=C2)
  have hlen:((O0 c.threads.toNat 4 calls).length:Int)=c.threads:=by rw [CX];omega
  have hfl:=Mb c.threads.toNat 4 calls
  have hrow:∀l ∈ O0 c.threads.toNat 4 calls,l.length < 2 ^ 60:=λl hl=>by
   have:=(KY hR (n:=4) (by decide) l hl).1
   omega
  have hpl:(V5 c.threads 500 C2).length<=500:=by unfold V5;rw [Jz,CM];omega
  generalize O0 c.threads.toNat 4 calls=L at *
  generalize V5 c.threads 500 C2=P at *
  generalize draws.take 4096=Dr at *
  rw [Jk] at H4
  refine F5 (vs:=N1 c ca' L.length cc pa' P.length pc da' Dr.length dc) H4.at rfl (by simp [N1,Qk,J0]) λh5 w=>?_
  have H5:=H4.wr w.new w.old
  clear H4 w
  have OS:=H5.at
  refine C4 OS rfl (C4 OS rfl (C4 OS rfl (C4 OS rfl (C4 OS rfl (C4 OS rfl (C4 OS rfl (C4 OS rfl (C4 OS rfl (C4 OS rfl ?_)))))))))
  obtain ⟨d,W,Q,D,G,hB,hu,hins⟩:=Tg7 hc
  have tw:=SY6 G hB hu hCL hc hlen hpk (by omega) P.length (G0 _) (b:=Dr)
  rw [EH] at tw
  generalize hX:SN6 ca' cc pa' pc da' dc ps L P Dr*(pt CB (oQ (Qk c).toArray 23)*R)=X at *
  have hI:∀ {h':A2} {Y:Hp},A9 h' (Y*X)->FV h' ca' L.length pa' P.length da' Dr.length L P Dr:=λHX=>by
   rw [<- hX] at HX
   exact Te7 HX.drop
  have hdr:∀ {h':A2} {Y:Hp},A9 h' (Y*X)->A9 h' (pt CB (oQ (Qk c).toArray 23)*R):=λHY=>by
   rw [<- hX] at HY
   exact HY.drop.drop
  clear hX
  refine A0 (Tb (c:=c) (calls:=L) (C2:=P) (draws:=Dr) H5 (λh' Y HY=>hI (Y:=Y*_) (by rw [F2];exact HY)) hRL (by omega) (by omega) (by omega) hrow hsc hlen hpk (by omega) D G hB hth hc λh6 ta tc H6=>?_)
  refine sb ?_
  refine Bk ?_
  refine sb ?_
  refine Bl ?_
  refine sb ?_
  have OS:=H6.at2
  refine C4 OS rfl (C4 OS rfl (C4 OS rfl (C4 OS rfl (C4 OS rfl (C4 OS rfl (C4 OS rfl (C4 OS rfl (C4 OS rfl (C4 OS rfl ?_)))))))))
  refine A0 (IT (c:=c) (calls:=L) (C2:=P) (draws:=Dr) H6 (λh' Y HY=>hI (Y:=Y*(_*_)) (by rw [F2,F2];exact HY)) hRL (by omega) (by omega) (by omega) hrow D (At.good G) (λhh=>At.new hc _ _) (λhh=>by rw [hsc] at hh;cases hh) λ_ h7 ea ec Qq M Ts s es OO H7=>?_)
  have evl:s.ev.length<=10000:=by have:=OO.ev;omega
  have EI:IU c.threads s:=by
   rw [es]
   exact IU.run (m:=L1 c Dr true) P _ (IU.new _ _ _) hpk
  have H7':=A9.ac H7 (show _=CF Qq M (DD c.algo) (S1 c.algo) Ts s.m*(E8 45 8 ea s.ev.length ec (s.ev.flatMap Dc)*(E8 68 7 ta L.length tc ((Bc (Pu d (S1 c.algo) L (L1 c Dr true) P).ev (Ih d (S1 c.algo) L (L1 c Dr false).watch P).l L.length).flatMap Ro.cells)*(pt SB (oQ (N1 c ca' L.length cc pa' P.length pc da' Dr.length dc).toArray 28)*X))) by ac_rfl)
  have H8:=H7'.drop
  clear H6 H7 H5 H7'
  refine sb ?_
  refine Ko ?_
  refine SZ1 ?_
  refine Kp ?_
  refine sb ?_
  refine Kq ?_
  refine sb ?_
  have H9:=H8.push (oQ #[lQ none 0 0,iQ 0,iQ 0,dQ false,iQ 0] 34)
  generalize h7.push (oQ #[lQ none 0 0,iQ 0,iQ 0,dQ false,iQ 0] 34)=h8 at *
  generalize h7.size=ZB at *
  refine F5 (vs:=[lQ ea s.ev.length ec,iQ (G2 (s.m.mm.st - (L1 c Dr true).mm.st)),iQ s.idle,dQ s.m.fault,iQ s.most]) H9.at rfl (by simp [J0]) λh9 w=>?_
  have H10:=H9.wr w.new w.old
  clear H8 H9 w
  have OS:=H10.drop.drop.drop.at
  refine C4 OS rfl (C4 OS rfl (C4 OS rfl (C4 OS rfl (C4 OS rfl (C4 OS rfl (C4 OS rfl (C4 OS rfl (C4 OS rfl (C4 OS rfl ?_)))))))))
  refine A0 (QP (c:=c) (calls:=L) (C2:=P) (draws:=Dr) H10 (λh' Y HY=>hI (Y:=Mt) (by rw [T8];exact HY.drop.drop.drop.drop.drop)) hRL (by omega) (by omega) (by omega) hrow D G hB (λhh=>by rw [hsc] at hh;cases hh) λ_ h11 la lc t et htl TT FF H11=>?_)
  rw [<- et,<- es] at tw H11
  clear H10 OS
  refine sb ?_
  refine Bk ?_
  refine sb ?_
  refine Bl ?_
  refine sb ?_
  have est:G2 (s.m.mm.st - (L1 c Dr true).mm.st)=(t.l.length:Int):=by
   have e1:s.m.mm.st=t.m.mm.st:=by show s.m.uw.mm.st=t.m.uw.mm.st;rw [tw.lk.m]
   rw [e1,tw.st]
   unfold G2;omega
  rw [est] at H11
  have tin:∀x ∈ t.l,0<=x.th/\x.th < (L.length:Nat):=λx hx=>by
   rw [hlen]
   exact hpk _ (tw.sub.subset (List.mem_map_of_mem hx))
  have fen:=FF.en
  have tll:t.l.length<=500:=R4 htl hpl
  have L6:L.length<=6:=by omega
  have rp:∀ {h':A2} {Y:Hp},A9 h' (Y*(E8 51 9 la t.l.length lc (t.l.flatMap Ai)*(pt ZB (oQ #[Value.slice ea s.ev.length ec,iQ (t.l.length:Int),iQ s.idle,dQ s.m.fault,iQ s.most] 34)*(E8 45 8 ea s.ev.length ec (s.ev.flatMap Dc)*(E8 68 7 ta L.length tc ((Bc s.ev t.l L.length).flatMap Ro.cells)*(pt SB (oQ (N1 c ca' L.length cc pa' P.length pc da' Dr.length dc).toArray 28)*X)))))) ->
    h'[ZB]? = some (.cells [Value.slice ea s.ev.length ec,iQ (t.l.length:Int),iQ s.idle,dQ s.m.fault,iQ s.most].toArray 34)/\h'[CB]? = some (oQ (Qk c).toArray 23)/\N5 h' ea (s.ev.flatMap Dc)/\N5 h' la (t.l.flatMap Ai)/\RS h' ta L.length tc (Bc s.ev t.l L.length)/\A9 h' (pt CB (oQ (Qk c).toArray 23)*R):=λHX=>by
   have HC:=hdr HX.drop.drop.drop.drop.drop
   exact ⟨HX.drop.drop.at,HC.at,HX.drop.drop.drop.own.sees,HX.drop.own.sees,⟨HX.drop.drop.drop.drop.own.sees,BZ _ _ _,HX.drop.drop.drop.drop.own.2.1⟩,HC⟩
  have zl:s.ev.length < 2 ^ 62:=by omega
  clear est tw htl hpl hpk hdr hI hRL hrow hfl hsc hCL OO hins hu hB hS hR FF TT
  generalize hG:E8 51 9 la t.l.length lc (t.l.flatMap Ai)*_=G at *
  clear hG
  have rp0:=fun {h':A2} (HX:A9 h' G)=>rp (h':=h') (Y:=Mt) (by rw [T8];exact HX)
  refine ⟨λvs h'=>(∃u0 u1,vs = [u0,u1,dQ false])/\h' = h11,?_,?_⟩
  ·refine D1 (λhh=>by simp at hh) (λ_=>?_)
   refine D1 (λhh=>by simp at hh) (λ_=>?_)
   refine D1 (λhh=>by simp at hh) (λ_=>?_)
   refine C4 (rp0 H11).2.1 rfl ?_
   simp only [A5]
   exact ⟨⟨dQ false,dQ false,by simp [hlen]⟩,by trivial⟩
  rintro v1 v2 v3 g4 h5' ⟨⟨u0,u1,e⟩,rfl⟩
  cases e
  simp only [C0,E7]
  refine ⟨λvs h'=>∃(th:Nat) (u0 u2 u3 u4 u5 u6 u7 u8:vQ),th<=L.length/\vs = [u0,.int .i64 (th:Int),u2,u3,u4,u5,u6,u7,u8]/\A9 h' G,λvs _=>match vs with | [_,.int _ n,_,_,_,_,_,_,_]=>L.length - n.toNat | _=>0,⟨0,_,_,_,_,_,_,_,_,T4 _,rfl,H11⟩,?_⟩
  rintro v169 v170 v171 v172 v173 v174 v175 v176 v177 g178 h179 ⟨th,u0,u2,u3,u4,u5,u6,u7,u8,hth2,e,H12⟩
  cases e
  simp only [A5]
  refine C4 (rp0 H12).2.1 rfl ?_
  simp only [A5]
  apply A6<;>intro c1
  ·have hth3:th < L.length:=by omega
   have H13:=H12.push (oQ Ov.toArray 68)
   rw [show h179.push (oQ Dp 68)=h179.push (oQ Ov.toArray 68) from rfl]
   generalize h179.push (oQ Ov.toArray 68)=h180 at *
   generalize h179.size=WB at *
   have bd:=λi j=>Ta (s.ev.take i) (t.l.take j) (th:Int) (by rw [CM];omega) (by rw [CM];omega)
   refine ⟨λvs h'=>∃(i:Nat) (u1 u2 u3 u4:vQ),i<=s.ev.length/\vs = [.int .i64 (i:Int),u1,u2,u3,u4]/\A9 h' (pt WB (.cells (Y7 (s.ev.take i) (t.l.take 0) (th:Int)).cells.toArray 68)*G),λvs _=>match vs with | [.int _ n,_,_,_,_]=>s.ev.length - n.toNat | _=>0,⟨0,_,_,_,_,T4 _,rfl,H13⟩,?_⟩
   rintro v185 v186 v187 v188 v189 g190 h191 ⟨i,w1,w2,w3,w4,hi,e,H14⟩
   cases e
   obtain ⟨OZ,_,sE,_,_⟩:=rp H14
   simp only [A5]
   refine C4 OZ rfl ?_
   simp only [D6]
   apply A6<;>intro c2
   ·have hi':i < s.ev.length:=by omega
    obtain ⟨ad,rfl,q⟩:=Ou Sc sE hi' (by omega)
    have ho:=EI.op _ (CD hi')
    have same:=λhk:s.ev[i].k≠(th:Int)=>QS hi' hk (t.l.take 0)
    have more:=λhk:s.ev[i].k=(th:Int)=>Xn hi' hk ho (t.l.take 0)
    have bd:=bd i 0
    generalize s.ev[i]=e at *
    generalize Y7 (s.ev.take i) (t.l.take 0) (th:Int)=r at *
    obtain ⟨r2,hr2⟩ : ∃r,r=Y7 (s.ev.take (i+1)) (t.l.take 0) (th:Int):=⟨_,rfl⟩
    rw [<- hr2] at same more
    refine ⟨λvs h'=>(∃u1 u2 u3 u4,vs = [u1,u2,u3,u4])/\A9 h' (pt WB (oQ r2.cells.toArray 68)*G),?_,?_⟩
    ·refine C4 OZ rfl ?_
     simp only [D6]
     refine ⟨Int.natCast_nonneg _,Int.ofNat_lt.2 hi',?_⟩
     simp only [D0,X5]
     refine C6 (q 0 _ (by omega) rfl) (C6 (q 1 _ (by omega) rfl) (C6 (q 2 _ (by omega) rfl) (C6 (q 3 _ (by omega) rfl) (C6 (q 4 _ (by omega) rfl) (C6 (q 5 _ (by omega) rfl) (C6 (q 6 _ (by omega) rfl) (C6 (q 7 _ (by omega) rfl) ?_)))))))
     have H15:=H14.push (oQ #[iQ 0,dQ false,iQ 0,.int .u32 0,.int .u32 0,iQ 0,.int .u32 0,.int .u32 0] 45)
     generalize h191.push (oQ #[iQ 0,dQ false,iQ 0,.int .u32 0,.int .u32 0,iQ 0,.int .u32 0,.int .u32 0] 45)=h192 at *
     generalize h191.size=EB at *
     refine F5 (vs:=Dc e) H15.at rfl (by simp [Dc,J0]) λh193 w=>?_
     have H16:=H15.wr w.new w.old
     clear H15 w
     have O:=H16.at
     have O2:=H16.at2
     have st:∀(j:Nat) (v:Int) (r':Ro) {F:A2->Prop},Nat.ble (j+1) 7=true->r'.cells=r.cells.set j (iQ v)->r' = r2->(∀h',A9 h' (pt WB (oQ r2.cells.toArray 68)*G)->F h')->C7 h193 ⟨WB,j,none⟩ (iQ v) F:=λj v r' F hj he e2 f=>by
      rw [D8] at H16
      refine H16.st hj trivial λh' H'=>f h' ?_
      rw [<- e2,show r'.cells=_ from he]
      rw [D8] at H'
      exact H'.drop
     refine C4 O rfl ?_
     simp only [A5]
     apply D1<;>intro hne
     ·rw [same (by simpa using hne)] at H16
      exact ⟨⟨_,_,_,_,rfl⟩,H16.drop⟩
     ·have more:=more (by simpa using hne)
      unfold Pz at more
      refine C4 O rfl ?_
      simp only [C0]
      apply D1<;>intro hb
      ·rw [A7 (by simpa using hb)] at more
       refine C4 O2 rfl ?_
       simp only [A5]
       rw [Ju bd.b0 (by omega)]
       exact st 0 _ _ rfl rfl more λh' H'=>⟨⟨_,_,_,_,rfl⟩,H'⟩
      have hb:e.back=true:=by simpa using hb
      have ho:=ho hb
      rw [A8 hb] at more
      refine C4 O rfl ?_
      simp only [A5]
      apply D1<;>intro k0
      ·rw [A8 (by simpa using k0)] at more
       refine C4 O2 rfl ?_
       simp only [A5]
       rw [Ju bd.b1 (by omega)]
       exact st 1 _ _ rfl rfl more λh' H'=>⟨⟨_,_,_,_,rfl⟩,H'⟩
      have k0:¬ e.a.op=0:=by simpa using k0
      rw [A7 k0] at more
      refine C4 O rfl ?_
      simp only [A5]
      apply D1<;>intro k1
      ·rw [A8 (by simpa using k1)] at more
       refine C4 O2 rfl ?_
       simp only [A5]
       rw [Ju bd.b2 (by omega)]
       exact st 2 _ _ rfl rfl more λh' H'=>⟨⟨_,_,_,_,rfl⟩,H'⟩
      have k1:¬ e.a.op=1:=by simpa using k1
      rw [A7 k1] at more
      refine C4 O rfl ?_
      simp only [A5]
      apply D1<;>intro k2
      ·rw [A8 (by simpa using k2)] at more
       refine C4 O2 rfl ?_
       simp only [A5]
       rw [Ju bd.b3 (by omega)]
       exact st 3 _ _ rfl rfl more λh' H'=>⟨⟨_,_,_,_,rfl⟩,H'⟩
      have k2:¬ e.a.op=2:=by simpa using k2
      rw [A7 k2,A8 (by omega)] at more
      refine C4 O2 rfl ?_
      simp only [A5]
      rw [Ju bd.b4 (by omega)]
      exact st 4 _ _ rfl rfl more λh' H'=>⟨⟨_,_,_,_,rfl⟩,H'⟩
    ·rintro v246 v247 v248 v249 g250 h251 ⟨⟨u1,u2,u3,u4,e⟩,H15⟩
     cases e
     rw [show G2 ((i:Int)+1)=((i+1:Nat):Int) from by rw [<- Mg];exact Ah _ (by omega)]
     rw [hr2] at H15
     exact ⟨⟨i+1,_,_,_,_,Tl hi',rfl,H15⟩,Kr hi'⟩
   have ei:i=s.ev.length:=by omega
   subst ei
   rw [EH] at H14
   have bd:=λj=>bd s.ev.length j
   rw [EH] at bd
   clear OZ sE
   refine ⟨λvs h'=>∃i:Nat,i<=t.l.length/\vs = [.int .i64 (i:Int)]/\A9 h' (pt WB (.cells (Y7 s.ev (t.l.take i) (th:Int)).cells.toArray 68)*G),λvs _=>match vs with | [.int _ n]=>t.l.length - n.toNat | _=>0,⟨0,T4 _,rfl,H14⟩,?_⟩
   rintro v255 g256 h257 ⟨i,hi,e,H15⟩
   cases e
   obtain ⟨OZ,_,_,sT,rE,_⟩:=rp H15
   simp only [A5]
   apply A6<;>intro c3
   ·have hi':i < t.l.length:=by omega
    obtain ⟨ad,rfl,q⟩:=Ou DZ sT hi' (by omega)
    have rs:=SD1 s.ev t.l hi' (th:Int)
    have ml:=SZ3 (fen _ (CD hi'))
    have bd:=bd i
    have bi:0<=(i:Int)/\(i:Int) < (t.l.length:Nat):=⟨Int.natCast_nonneg _,Int.ofNat_lt.2 hi'⟩
    have rd:∀ {h':A2} {r9:Ro},A9 h' (pt WB (oQ r9.cells.toArray 68)*G)->∀(j:Nat) (v:vQ),j < 9->(Ai t.l[i])[j]? = some v->A3 h' ((ad.add (i*9)).add j)=some v:=λHX=>by
     obtain ⟨_,_,_,sT2,_,_⟩:=rp HX
     obtain ⟨ad2,e,q2⟩:=Ou DZ sT2 hi' (by omega)
     cases e
     exact q2
    generalize t.l[i]=x at *
    generalize Y7 s.ev (t.l.take i) (th:Int)=r at *
    refine ⟨λvs h'=>vs = []/\A9 h' (pt WB (oQ (Y7 s.ev (t.l.take (i+1)) (th:Int)).cells.toArray 68)*G),?_,?_⟩
    ·refine ⟨bi.1,bi.2,?_⟩
     simp only [D0,X5]
     refine C6 (q 0 _ (by omega) rfl) ?_
     simp only [A5]
     apply D1<;>intro he
     ·rw [he] at rs
      refine C4 H15.at rfl ?_
      simp only [A5]
      rw [Ju bd.b5 (by omega)]
      refine H15.st (i:=5) rfl trivial λh16 H16=>?_
      have q:=rd (r9:={ r with c5:=r.c5+1 }) H16
      refine ⟨λvs h'=>(∃u,vs = [u,dQ (Ij x)])/\h' = h16,?_,?_⟩
      ·refine ⟨bi.1,bi.2,?_⟩
       simp only [D0,X5]
       refine C6 (q 2 _ (by omega) rfl) ?_
       simp only [C0]
       rw [ml]
       apply D1<;>intro hd
       ·rw [hd]
        refine ⟨bi.1,bi.2,?_⟩
        refine C6 (q 1 _ (by omega) rfl) ?_
        simp only [A5]
        apply D1<;>intro hk
        ·exact ⟨⟨_,by rw [hk];rfl⟩,by trivial⟩
        ·refine ⟨bi.1,bi.2,?_⟩
         refine C6 (q 1 _ (by omega) rfl) ?_
         simp only [A5]
         exact ⟨⟨_,by rw [hk];rfl⟩,by trivial⟩
       ·exact ⟨⟨_,by rw [hd];rfl⟩,by trivial⟩
      rintro v281 v282 g283 h284 ⟨⟨u,e⟩,rfl⟩
      cases e
      simp only [C0]
      apply D1<;>intro hm
      ·refine C4 H16.at rfl ?_
       simp only [A5]
       rw [Ju bd.b6 (by omega)]
       refine H16.st (i:=6) rfl trivial λh17 H17=>?_
       rw [hm] at rs
       rw [rs]
       exact ⟨by trivial,H17⟩
      ·rw [hm] at rs
       rw [rs]
       refine ⟨by trivial,?_⟩
       simp only [Bool.and_false,if_true,Cd,if_false,Int.add_zero]
       exact H16
     ·rw [he] at rs
      rw [rs]
      refine ⟨by trivial,?_⟩
      simp only [Mf,Cd,if_false,Int.add_zero]
      exact H15
    ·rintro g289 h290 ⟨_,H16⟩
     rw [show G2 ((i:Int)+1)=((i+1:Nat):Int) from by rw [<- Mg];exact Ah _ (by omega)]
     exact ⟨⟨i+1,Tl hi',rfl,H16⟩,Kr hi'⟩
   have ei:i=t.l.length:=by omega
   subst ei
   rw [EH] at H15
   have bd:=bd t.l.length
   rw [EH] at bd
   have bal:(Y7 s.ev t.l th).c0=(Y7 s.ev t.l th).c1+(Y7 s.ev t.l th).c2+(Y7 s.ev t.l th).c3+(Y7 s.ev t.l th).c4\/(Y7 s.ev t.l th).c0=(Y7 s.ev t.l th).c1+(Y7 s.ev t.l th).c2+(Y7 s.ev t.l th).c3+(Y7 s.ev t.l th).c4+1:=by
    have b:=EI.bal (th:Int)
    split at b
    ·exact .inr b
    ·rw [Int.add_zero] at b;exact .inl b
   have OW:=H15.at
   have ks:=S78 bd.b1 bd.b2 bd.b3 bd.b4
   have nl:=SZ2 bd.b0 bal
   refine C4 OW rfl ?_
   simp only [A5]
   refine C4 OW rfl ?_
   simp only [A5]
   refine C4 OW rfl ?_
   simp only [A5]
   refine C4 OW rfl ?_
   simp only [A5]
   refine ⟨λvs h'=>(∃u,vs = [u,dQ false])/\h' = h257,?_,?_⟩
   ·refine ⟨Int.natCast_nonneg _,Int.ofNat_lt.2 hth3,?_⟩
    obtain ⟨ad,rfl,hc⟩:=rE.at (i:=th) (by rw [BZ];exact hth3)
    rw [CZ] at hc
    simp only [D0,X5]
    refine C6 (hc 0 _ rfl) (C6 (hc 1 _ rfl) (C6 (hc 2 _ rfl) (C6 (hc 3 _ rfl) (C6 (hc 4 _ rfl) (C6 (hc 5 _ rfl) (C6 (hc 6 _ rfl) ?_))))))
    refine C4 OW rfl (C4 OW rfl (C4 OW rfl (C4 OW rfl (C4 OW rfl (C4 OW rfl (C4 OW rfl ?_))))))
    refine SJ8 (r:=Y7 s.ev t.l th) ?_
    simp only [IV,E7]
    refine C4 OW rfl ?_
    simp only [A5]
    rw [ks]
    refine A6 (λhh=>absurd hh nl.1) (λ_=>?_)
    refine C4 OW rfl ?_
    simp only [A5]
    exact ⟨⟨_,GG (λb=>[_,Value.bool b]) nl.2⟩,by trivial⟩
   rintro v322 v323 g324 h325 ⟨⟨u,e⟩,rfl⟩
   cases e
   simp only [C0,E7,A5]
   rw [show G2 ((th:Int)+1)=((th+1:Nat):Int) from by rw [<- Mg];exact Ah _ (by omega)]
   exact ⟨⟨th+1,_,_,_,_,_,_,_,_,Tl hth3,rfl,H15.drop⟩,Kr hth3⟩
  ·obtain ⟨OZ,_,_,_,rE,_⟩:=rp0 H12
   refine C4 OZ rfl ?_
   simp only [A5]
   refine A0 (Nl rE (by omega) (λr hr=>?_) λh331 o331=>?_)
   ·unfold Bc at hr
    obtain ⟨i,_,rfl⟩:=Ga.1 hr
    exact Ta _ _ _ (by omega) (by omega)
   simp only [X8]
   refine U9 rfl (D5 rfl (D5 rfl (D5 rfl (D5 rfl (D5 rfl (D5 rfl (D5 rfl ?_)))))))
   obtain ⟨OZ2,_,_,_,_,HC⟩:=rp0 (H12.old o331)
   refine ⟨F6 OZ2 rfl,?_⟩
   simp only [A5]
   have es:(GS (Bc s.ev t.l L.length)).c5=(t.l.length:Int):=SZ0 t.l s.ev L.length tin
   rw [es,PF]
   simp only [G6]
   exact A0 (lv HC)
 ·refine sb ?_
  have OC:=H3.at
  refine C4 OC rfl (C4 OC rfl (C4 OC rfl (C4 OC rfl (C4 OC rfl (C4 OC rfl (C4 OC rfl ?_))))))
  rw [D8] at H3
  refine H3.st (i:=0) rfl trivial λh10 H10=>?_
  refine H10.st (i:=1) rfl trivial λh11 H11=>?_
  refine H11.st (i:=2) rfl trivial λh12 H12=>?_
  refine H12.st (i:=3) rfl trivial λh13 H13=>?_
  refine H13.st (i:=4) rfl trivial λh14 H14=>?_
  refine H14.st (i:=5) rfl trivial λh15 H15=>?_
  refine H15.st (i:=6) rfl trivial λh16 H16=>?_
  have OS:=H16.at
  refine C4 OS rfl (C4 OS rfl (C4 OS rfl (C4 OS rfl (C4 OS rfl (C4 OS rfl (C4 OS rfl (C4 OS rfl (C4 OS rfl (C4 OS rfl ?_)))))))))
  refine A0 (PB (c:=c) hc H16 λh17 H17=>?_)
  refine sb ?_
  refine Bk ?_
  refine sb ?_
  refine Bl ?_
  refine sb ?_
  refine D1 (λ_=>?_) (λhh=>by simp at hh)
  refine D1 (λ_=>?_) (λhh=>by simp at hh)
  exact A0 (lv H17.drop)
end
end
end Go.Proofs.YtahpbclnkofhfaaGreat
