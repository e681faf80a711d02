/- Part 13 of what the proofs of this seat rest on: see the last text of the claim. -/
import Derived.Test.YtahpbclnkofhfaaGreatQ05c21e45ec8c
set_option linter.unusedSimpArgs false
set_option linter.unusedVariables false
set_option linter.ambiguousOpen false
set_option maxRecDepth 20000
namespace Go.Proofs.YtahpbclnkofhfaaGreat
section
set_option maxHeartbeats 1000000
open Mod
theorem Zr0 {p:Pl} (B:PlB p) {a:Int} (h:WA5 p a):(p.whr a).1≠1:=by
 have b1:=B.hz
 have b2:=B.li
 have b3:=B.nd
 have b4:=B.tr
 have b5:=B.si
 have key:a < 0\/a < p.hazards\/p.links<=a->(p.whr a).1≠1:=by
  intro h
  unfold Mod.Pl.whr
  by_cases c0:a < 0\/p.size<=a
  ·rw [if_pos c0];show (5:Int)≠1;decide
  rw [if_neg c0]
  by_cases c1:a < p.hazards
  ·rw [if_pos c1];show (0:Int)≠1;decide
  rw [if_neg c1,if_neg (by omega)]
  split
  ·show (2:Int)≠1;decide
  split
  ·show (3:Int)≠1;decide
  ·show (4:Int)≠1;decide
 apply key
 cases h with
 | node n f=>
  unfold Mod.Pl.node
  split
  ·rename_i q
   have:0<=(n - 1)*p.width:=Int.mul_nonneg (by omega) (by have:=B.wi;omega)
   omega
  ·omega
 | link n=>
  unfold Mod.Pl.link
  split <;> omega
 | «at» n=>
  unfold Mod.Pl.at
  split <;> omega
 | lit h=>omega
theorem ZB6 {p:Pl} (B:PlB p) (hl:p.links=8+p.c.threads*p.slots) {id i:Int} (h:0<=p.haz id i):(p.whr (p.haz id i)).2.1=id\/(p.whr (p.haz id i)).1≠1:=by
 have b1:=B.hz
 have b2:=B.sl
 have b5:=B.si
 have b4:=B.tr
 have b3:=B.nd
 unfold Mod.Pl.haz at h ⊢
 by_cases c:0<=id/\id < p.c.threads/\0<=i/\i < p.slots
 ·rw [if_pos c]
  have hm:0<=id*p.slots:=Int.mul_nonneg c.1 (by omega)
  have hm2:(id+1)*p.slots<=p.c.threads*p.slots:=Int.mul_le_mul_of_nonneg_right (by omega) (by omega)
  rw [Int.add_mul,Int.one_mul] at hm2
  left
  unfold Mod.Pl.whr
  rw [if_neg (by omega),if_neg (by omega),if_pos (by omega)]
  show (p.hazards+id*p.slots+i - p.hazards) / p.slots=id
  have e:p.hazards+id*p.slots+i - p.hazards=i+id*p.slots:=by omega
  rw [e,Int.add_mul_ediv_right _ _ (by omega),Int.ediv_eq_zero_of_lt c.2.2.1 c.2.2.2]
  omega
 ·rw [if_neg c] at h
  omega
def ZC3 (x:TSt):Bool:=x.w1.1 == 1 && x.kind != 0 && (x.kind != 1 || x.w1.2.1 != x.th) || decide (x.kind > 3) && x.w2.1 == 1
theorem ZJ9 {c:Mod.Cf} (hc:okC c=true) {n:Nat} {x:TSt} (h:ZQ9 (Wb9 c) n x):ZC3 x=false:=by
 have B:=Wt1 hc
 obtain ⟨e,he,rx⟩:=h
 have hk:=he.k
 have ha:=he.a
 generalize x.th=k at *
 subst rx
 unfold ZC3 Wk8
 dsimp only
 have no:∀ {a:Int},WA5 (Wb9 c) a->(((Wb9 c).whr a).1 == 1)=false:=λh=>by
  have:=Zr0 B h
  simpa using this
 rcases hk with ⟨k0,e5⟩ | ⟨k1,e5,h⟩ | ⟨k1,e5,h⟩ | ⟨k1,h,h2,h3⟩
 ·rw [k0,show decide ((0:Int) > 3)=false from rfl]
  simp
 ·rw [k1,show decide ((1:Int) > 3)=false from rfl]
  rcases h with h | ⟨i,h⟩
  ·rw [no h];rfl
  ·rw [h] at ha ⊢
   rcases ZB6 B rfl ha.1 with q | q
   ·rw [q];simp
   ·rw [show (((Wb9 c).whr ((Wb9 c).haz k i)).1 == 1)=false by simpa using q]
    rfl
 ·rw [no h,decide_eq_false (by omega)];rfl
 ·rw [no h,no h2];simp
section
variable {K:kQ} {h:Wa2} {R:Hp} {calls:List (List Cl)} {Wc3 draws:List Int}
theorem W91 {c0 c:Mod.Cf} {ca pa da:Option Addr} {cl cc0 pl pc0 dl dc0:Nat} (H:Sat h R)
  (hS:∀h' P,Sat h' (P*R)->ScrI h' ca cl pa pl da dl calls Wc3 draws) (hR:ZC2 calls Wc3 draws) (k:∀h',Sat h' R->K (.bool true) h') :
  Wa5 Tryz.prog 4 #[.agg #[iQ c0.algo,iQ c0.threads,iQ c0.nodes,iQ c0.level,iQ c0.batch,iQ c0.probes,iQ c0.scan,.slice ca cl cc0,.slice pa pl pc0,.slice da dl dc0],.agg #[iQ c.algo,iQ c.threads,iQ c.nodes,iQ c.level,iQ c.batch,iQ c.probes,iQ c.scan]] h K:=by
 refine call4 ?_
 unfold F4 g4 cf bd lI ZQ3 dl7 YS2
 have H1:=H.push (.cells (Wz7 c0 ca cl cc0 pa pl pc0 da dl dc0).toArray 28)
 rw [show h.push (.cells #[iQ c0.algo,iQ c0.threads,iQ c0.nodes,iQ c0.level,iQ c0.batch,iQ c0.probes,iQ c0.scan,.slice ca cl cc0,.slice pa pl pc0,.slice da dl dc0] 28)=h.push (.cells (Wz7 c0 ca cl cc0 pa pl pc0 da dl dc0).toArray 28) from rfl]
 generalize h.push (.cells (Wz7 c0 ca cl cc0 pa pl pc0 da dl dc0).toArray 28)=h1 at *
 generalize h.size=SB at *
 have H2:=H1.push (.cells (cfc c).toArray 23)
 rw [show h1.push (.cells #[iQ c.algo,iQ c.threads,iQ c.nodes,iQ c.level,iQ c.batch,iQ c.probes,iQ c.scan] 23)=h1.push (.cells (cfc c).toArray 23) from rfl]
 generalize h1.push (.cells (cfc c).toArray 23)=h2 at *
 generalize h1.size=CB at *
 have lv:∀ {h':Wa2} {P:Hp},Sat h' (P*R)->Wa5 Tryz.prog 13 #[] h' λv h''=>asBool v λb=>K (.bool b) h'':=λH'=>Yj8 H' λh'' H''=>by
  refine sb ?_
  exact k h'' H''.drop
 have O:=H2.at
 refine ldR O rfl (ldR O rfl (ldR O rfl (ldR O rfl (ldR O rfl (ldR O rfl (ldR O rfl ?_))))))
 refine Wa0 (Zc7 H2 (λhc h3 H3=>?_) λhc h3 H3=>?_)
 ·refine sb ?_
  have OC:=H3.at
  have OS:=H3.at2
  refine ldR OS rfl (ldR OS rfl (ldR OS rfl (ldR OS rfl (ldR OS rfl (ldR OS rfl (ldR OS rfl (ldR OS rfl (ldR OS rfl (ldR OS rfl (ldR OC rfl (ldR OC rfl (ldR OC rfl (ldR OC rfl (ldR OC rfl (ldR OC rfl (ldR OC rfl ?_))))))))))))))))
  have B:=Wt1 hc
  have hth:1<=c.threads/\c.threads<=6:=B.th
  refine Wa0 (Yt0 (c:=c) (c0:=c0) (n:=4) (m:=1000) H3 (λh' P H'=>hS h' emp (by rw [Wl0];exact H'.drop.drop.drop)) hth (by decide) (by decide) λh4 ca' cc pa' pc da' dc ps H4=>?_)
  refine ZP2 ?_
  have hsc:=Yv7 hc (n:=4) (m:=1000) (by decide) (by decide) (calls:=calls) (Wc3:=Wc3) (draws:=draws)
  have hRL:=Zo4 (th:=c.threads) (n:=4) (m:=1000) (by decide) hR
  have hlen:((Wg5 c.threads.toNat 4 calls).length:Int)=c.threads:=by rw [Wx7];omega
  have hfl:=WX7 c.threads.toNat 4 calls
  have hrow:∀l ∈ Wg5 c.threads.toNat 4 calls,l.length < 2 ^ 60:=λl hl=>by
   have:=(Yg6 hR (n:=4) (by decide) l hl).1
   omega
  have hpl:(Wl5 c.threads 1000 Wc3).length<=1000:=by unfold Wl5;rw [List.length_map,List.length_take];omega
  generalize Wg5 c.threads.toNat 4 calls=L at *
  generalize Wl5 c.threads 1000 Wc3=P at *
  generalize draws.take 4096=Dr at *
  obtain ⟨d,W,Q,D,G,hB,hins⟩:=ZJ6 hc
  refine Wa0 (Yj5 (c:=c) (calls:=L) (Wc3:=P) (draws:=Dr) H4 (λh' Y HY=>ZG9 HY.drop) hRL (by omega) (by omega) (by omega) hrow D G hB (λhh=>by rw [hsc] at hh;cases hh) λ_ h5 la lc s es hsl _ FF H5=>?_)
  have H6:=H5.drop.drop.drop
  clear H4
  refine sb ?_
  refine WC7 ?_
  refine sb ?_
  refine WC8 ?_
  refine sb ?_
  have H5':=Sat.ac H5 (show _=(ZG8 ca' cc pa' pc da' dc ps L P Dr*(pt CB (.cells (cfc c).toArray 23)*pt SB (.cells (Wz7 c0 ca cl cc0 pa pl pc0 da dl dc0).toArray 28)))*(Wf1 51 9 la s.l.length lc (s.l.flatMap tsc)*R) by ac_rfl)
  have H7:=H5'.drop
  clear H5 H5' H6
  refine ⟨λvs h'=>∃i:Nat,i<=s.l.length/\vs = [.bool false,.int .i64 (i:Int)]/\Sat h' (Wf1 51 9 la s.l.length lc (s.l.flatMap tsc)*R),λvs _=>match vs with | [_,.int _ i]=>((s.l.length:Int) - i).toNat | _=>0,⟨0,Nat.zero_le _,rfl,H7⟩,?_⟩
  rintro v55 v56 g57 h58 ⟨i,hi,e,H8⟩
  cases e
  refine sb ?_
  refine Wa3 (λc1=>?_) (λc1=>?_)
  ·have hi2:i < s.l.length:=by omega
   have ho:=ZJ9 hc (FF.en _ (List.getElem_mem hi2))
   have hs:=H8.own.sees
   have g:∀j,j < 9->(s.l.flatMap tsc)[i*9+j]? = (tsc s.l[i])[j]?:=λj hj=>Wh3 ZB3 hi2 hj
   generalize s.l[i]=x at *
   refine ⟨by omega,by omega,?_⟩
   obtain ⟨ad,ea,q0⟩:=hs (i*9+0) (.int .i64 x.th) (g 0 (by omega))
   subst ea
   obtain ⟨_,ea,q1⟩:=hs (i*9+1) (.int .i64 x.kind) (g 1 (by omega))
   cases ea
   obtain ⟨_,ea,q2⟩:=hs (i*9+2) (.bool x.done) (g 2 (by omega))
   cases ea
   obtain ⟨_,ea,q3⟩:=hs (i*9+3) (.int .i64 x.w1.1) (g 3 (by omega))
   cases ea
   obtain ⟨_,ea,q4⟩:=hs (i*9+4) (.int .i64 x.w1.2.1) (g 4 (by omega))
   cases ea
   obtain ⟨_,ea,q5⟩:=hs (i*9+5) (.int .i64 x.w1.2.2) (g 5 (by omega))
   cases ea
   obtain ⟨_,ea,q6⟩:=hs (i*9+6) (.int .i64 x.w2.1) (g 6 (by omega))
   cases ea
   obtain ⟨_,ea,q7⟩:=hs (i*9+7) (.int .i64 x.w2.2.1) (g 7 (by omega))
   cases ea
   obtain ⟨_,ea,q8⟩:=hs (i*9+8) (.int .i64 x.w2.2.2) (g 8 (by omega))
   cases ea
   have aa:∀j,(ad.add (i*9)).add j=ad.add (i*9+j):=λj=>Ww3 _ _ _
   rw [Nat.add_zero] at q0
   try simp only [Wb8,bsx,Nat.reduceAdd,Int.reduceLE,Int.reduceLT,Int.reduceToNat,aa]
   refine Wb4 q0 (Wb4 q1 (Wb4 q2 (Wb4 q3 (Wb4 q4 (Wb4 q5 (Wb4 q6 (Wb4 q7 (Wb4 q8 ?_))))))))
   have H9:=H8.push (.cells #[iQ 0,iQ 0,.bool false,iQ 0,iQ 0,iQ 0,iQ 0,iQ 0,iQ 0] 51)
   generalize h58.push (.cells #[iQ 0,iQ 0,.bool false,iQ 0,iQ 0,iQ 0,iQ 0,iQ 0,iQ 0] 51)=h9 at *
   generalize h58.size=XB at *
   refine Wd9 (vs:=tsc x) H9.at rfl (by simp [tsc,Wi4]) λh10 w=>?_
   have H10:=H9.wr w.new w.old
   have O:=H10.at
   unfold ZC3 at ho
   refine ⟨λvs h'=>(∃u0 u1 u2 u3,vs = [u0,u1,u2,u3,.bool (ZC3 x)])/\h' = h10,?_,?_⟩
   ·unfold ZC3
    refine ldR O rfl ?_
    refine sb ?_
    refine Wb6 (λp1=>?_) (λp1=>?_)
    ·refine ldR O rfl ?_
     refine sb ?_
     refine Wb6 (λp2=>?_) (λp2=>?_)
     ·refine ldR O rfl ?_
      refine sb ?_
      refine Wb6 (λp3=>?_) (λp3=>?_)
      ·exact ⟨_,_,_,_,by rw [p1,p2,p3];rfl⟩
      ·refine ldR O rfl ?_
       refine sb ?_
       refine ldR O rfl ?_
       refine sb ?_
       refine Wb6 (λp4=>?_) (λp4=>?_)
       ·exact ⟨_,_,_,_,by rw [p1,p2,p3,p4];rfl⟩
       ·refine ldR O rfl ?_
        refine sb ?_
        refine Wb6 (λp5=>?_) (λp5=>?_)
        ·refine ldR O rfl ?_
         refine sb ?_
         exact ⟨_,_,_,_,by rw [p1,p2,p3,p4,p5];rfl⟩
        ·exact ⟨_,_,_,_,by rw [p1,p2,p3,p4,p5];rfl⟩
     ·refine ldR O rfl ?_
      refine sb ?_
      refine Wb6 (λp5=>?_) (λp5=>?_)
      ·refine ldR O rfl ?_
       refine sb ?_
       exact ⟨_,_,_,_,by rw [p1,p2,p5];rfl⟩
      ·exact ⟨_,_,_,_,by rw [p1,p2,p5];rfl⟩
    ·refine ldR O rfl ?_
     refine sb ?_
     refine Wb6 (λp5=>?_) (λp5=>?_)
     ·refine ldR O rfl ?_
      refine sb ?_
      exact ⟨_,_,_,_,by rw [p1,p5];rfl⟩
     ·exact ⟨_,_,_,_,by rw [p1,p5];rfl⟩
   rintro v1 v2 v3 v4 v5 g h11 ⟨⟨u0,u1,u2,u3,e⟩,rfl⟩
   cases e
   rw [show ZC3 x=false from ho]
   refine sb ?_
   rw [show s64 ((i:Int)+1)=((i+1:Nat):Int) from by rw [<- Int.natCast_add_one];exact Wv9 _ (by omega)]
   refine ⟨⟨i+1,by omega,rfl,H10.drop⟩,?_⟩
   show ((s.l.length:Int) - ((i+1:Nat):Int)).toNat < ((s.l.length:Int) - (i:Int)).toNat
   omega
  ·exact Wa0 (lv H8)
 ·exact Wa0 (lv (H3.drop))
end
end
end Go.Proofs.YtahpbclnkofhfaaGreat
