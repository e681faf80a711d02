/- Part 12 of what the proofs of this seat rest on: see the last text of the claim. -/
import Derived.Test.YtahpbclnkofhfaaGreatQ50c107c0f889
import Derived.Test.YtahpbclnkofhfaaGreatProg
set_option linter.unusedSimpArgs false
set_option linter.unusedVariables false
set_option linter.ambiguousOpen false
set_option maxRecDepth 20000
namespace Go.Proofs.YtahpbclnkofhfaaGreat
section
set_option maxHeartbeats 1000000
open Mod
section
variable {K:kQ} {h:A2} {X:RX} {s:R4} {R:Hp} {calls:List (List Cl)} {B9 draws:List Int}
theorem GZ {q:Nat} {m:Mm} (H:A7 h (O9 q m*R)) (k:K (iQ m.st) h):A5 Tryz.prog 33 #[mP q] h K:=by
 refine call33 ?_
 unfold F33 lI nP
 obtain ⟨b,la,lc,MB,H1⟩:=Z8.1 H
 refine sb ?_
 refine H1.ld rfl ?_
 refine sb ?_
 exact k
theorem Hy {Q M f:Nat} {ins:Int} {Ts:List Nat} {m:Mac} (H:A7 h (Cu Q M f ins Ts m*R)) (k:∀q R',A7 h (O9 q m.mm*R')->K (mP q) h):A5 Tryz.prog 32 #[mP M] h K:=by
 obtain ⟨a,c,hl,H1⟩:=V2.1 (Y4.1 H)
 exact Ll H1 λq R' HM _=>k q R' HM
theorem PE {Q M f:Nat} {ins:Int} {Ts:List Nat} {m:Mac} (H:A7 h (Cu Q M f ins Ts m*R)) (k:∀h',A7 h' (Cu Q M f ins Ts m*R)->K (dQ m.fault) h'):A5 Tryz.prog 36 #[mP M] h K:=by
 obtain ⟨a,c,hl,H1⟩:=V2.1 (Y4.1 H)
 exact Vu H1 λh' H2=>k h' (Y4.2 (V2.2 ⟨a,c,hl,H2⟩))
theorem A7.own_empty {h:A2} {R:Hp} (H:A7 h R) (elem:TypeId) (sz:Nat):A7 (h.push (oQ #[] elem)) (F3 elem sz (some (aQ h.size)) 0 0 []*R):=by
 have o1:G4 h.size h (h.push (oQ #[] elem)):=(G4.refl _ _).push _ (Nat.le_refl _)
 have ow:CG (h.push (oQ #[] elem)) elem sz (some (aQ h.size)) 0 0 []:=⟨by simp,Nat.le_refl _,.inr ⟨h.size,#[],rfl,by simp,by simp,by simp⟩⟩
 refine H.mk_new o1 (λb hb=>?_) ow.nd λh'' e=>ow.congr e
 obtain ⟨ad,e,rfl⟩:=hb
 cases e
 exact ⟨Nat.le_refl _,by simp⟩
theorem PF {a:Option Addr} {c:Nat} {ev:List EvM} (H:A7 h (F3 45 8 a ev.length c (ev.flatMap Fy)*R)) (hb:ev.length<=1000000)
  (k:∀h' a' c',A7 h' (F3 45 8 a' ev.length c' (ev.flatMap Fy)*(F3 45 8 a ev.length c (ev.flatMap Fy)*R))->K (lQ a' ev.length c') h') :
  A5 Tryz.prog 70 #[lQ a ev.length c] h K:=by
 refine call70 ?_
 unfold F70
 refine C7 (λhh=>?_) (λhh=>?_)
 ·have ea:a=none:=by cases a with | none=>rfl | some x=>cases hh
  subst ea
  have hl0:ev.length=0:=by
   obtain ⟨h1,h2,h3⟩:=H.own
   rcases h3 with ⟨_,hc⟩ | ⟨b,row,e,_⟩
   ·omega
   ·cases e
  have e0:ev = []:=List.length_eq_zero_iff.1 hl0
  subst e0
  exact k h none 0 (H.own_new 45 8)
 ·have H1:=H.own_empty 45 8
  have hs:=H1.drop.own.sees
  generalize h.push (oQ #[] 45)=h1 at *
  generalize h.size=N at *
  rw [<- Ei] at H1
  refine H1.app Yi Nw Yj (by rw [Ei];rfl) hs (n:=ev.length) (by rw [Ei,EG SH2]) (λy hy=>?_) (by rw [Kt];omega) (by rw [Kt];omega) λa' c' h' H3=>?_
  ·obtain ⟨x,_,hx⟩:=List.mem_flatMap.1 hy
   simp only [Fy,List.mem_cons,List.not_mem_nil,or_false] at hx
   rcases hx with rfl | rfl | rfl | rfl | rfl | rfl | rfl | rfl <;> trivial
  ·rw [Ei,Nat.zero_add,List.nil_append] at H3
   rw [Nat.zero_add]
   refine sb ?_
   exact k h' a' c' H3
abbrev rnE (Q NB n:Nat) (c:Mod.Cf) (ca:Option Addr) (cl cc:Nat) (pa:Option Addr) (pl pc:Nat) (da:Option Addr) (dl dc:Nat) (v0:Value) (st idle:Int) (fl:Bool) (most:Int) (ea:Option Addr) (en ec:Nat) (mo:Option Nat) (gap:Int):List Value:=[v0,iQ st,iQ idle,dQ fl,iQ most,mP Q,iQ c.algo,iQ c.threads,iQ c.nodes,iQ c.level,iQ c.batch,iQ c.probes,iQ c.scan,lQ ca cl cc,lQ pa pl pc,lQ da dl dc,lQ (some (aQ NB)) n n,lQ ea en ec,.map mo,iQ gap]
theorem A7.map_new {h:A2} {R:Hp} (H:A7 h R):A7 h (LP none (λ_=>none)*R):=by
 refine H.mk_new (G4.refl _ _) (λb hb=>by cases hb) (λb o hb=>by cases hb) λh'' _ t=>rfl
theorem SW {n:Nat} {t:Int} (ht:(n:Int)=t) (hn:n<=4096) (k:K (lQ (some (aQ h.size)) n n) (h.push (oQ ((List.replicate n (0:Int)).map iv).toArray 3))):Y5 Tryz.prog 3 t t h K:=by
 subst ht
 exact SH5 hn k
variable {d:A9->A9} {W:A9->Prop} {Inv:Nat->Mac->Prop}
theorem MJ {c:Mod.Cf} {ca pa da:Option Addr} {cl cc pl pc dl dc:Nat} (H:A7 h R) (hS:∀h' P,A7 h' (P*R)->EO h' ca cl pa pl da dl calls B9 draws) (hR:SC calls B9 draws)
  (hn:calls.flatten.length < 2 ^ 60) (hn2:calls.length < 2 ^ 60) (hn3:B9.length < 2 ^ 60) (hV:∀l ∈ calls,l.length < 2 ^ 60)
  (D:DoC (DH c.algo) d W) (G:LC d W (V0 c.algo) Inv) (hI:Fv c=true->Inv 0 (J5 c draws true))
  (k0:GQ c calls B9 draws=false->∀h',A7 h' R->K (.tuple #[.agg #[lQ none 0 0,iQ 0,iQ 0,dQ false,iQ 0],pQ none,iQ 1]) h')
  (k1:GQ c calls B9 draws=true->∀h' ea ec Q M Ts s,s=SU d (V0 c.algo) calls (J5 c draws true) B9->Sw1 Inv calls B9.length s->A7 h' (F3 45 8 ea s.ev.length ec (s.ev.flatMap Fy)*(Cu Q M (DH c.algo) (V0 c.algo) Ts s.m*R)) ->
   K (.tuple #[.agg #[lQ ea s.ev.length ec,iQ (F5 (s.m.mm.st - (J5 c draws true).mm.st)),iQ s.idle,dQ s.m.fault,iQ s.most],mP Q,iQ 0]) h') :
  A5 Tryz.prog 12 #[.agg #[iQ c.algo,iQ c.threads,iQ c.nodes,iQ c.level,iQ c.batch,iQ c.probes,iQ c.scan,lQ ca cl cc,lQ pa pl pc,lQ da dl dc]] h K:=by
 refine call12 ?_
 unfold F12 g12 cf ce bd lS lI da5 da7 dl5 EH dw5
 have H1:=H.push (oQ (N9 c ca cl cc pa pl pc da dl dc).toArray 28)
 rw [show h.push (oQ #[iQ c.algo,iQ c.threads,iQ c.nodes,iQ c.level,iQ c.batch,iQ c.probes,iQ c.scan,lQ ca cl cc,lQ pa pl pc,lQ da dl dc] 28)=h.push (oQ (N9 c ca cl cc pa pl pc da dl dc).toArray 28) from rfl]
 generalize h.push (oQ (N9 c ca cl cc pa pl pc da dl dc).toArray 28)=h1 at *
 generalize h.size=SB at *
 have I:=hS h1 _ H1
 have ecl:=I.f.cs
 have epl:=I.f.ps
 have edl:=I.ds
 subst ecl epl edl
 have H2:=H1.push (oQ #[lQ none 0 0,iQ 0,iQ 0,dQ false,iQ 0] 34)
 generalize h1.push (oQ #[lQ none 0 0,iQ 0,iQ 0,dQ false,iQ 0] 34)=h2 at *
 generalize h1.size=ZB at *
 have O:=H2.at2
 refine C5 O rfl (C5 O rfl (C5 O rfl (C5 O rfl (C5 O rfl (C5 O rfl (C5 O rfl (C5 O rfl (C5 O rfl (C5 O rfl ?_)))))))))
 have hS2:∀h' P,A7 h' (P*(pt ZB (oQ #[lQ none 0 0,iQ 0,iQ 0,dQ false,iQ 0] 34)*(pt SB (oQ (N9 c ca calls.length cc pa B9.length pc da draws.length dc).toArray 28)*R)))->EO h' ca calls.length pa B9.length da draws.length calls B9 draws:=λh' P HP=>hS h' Mr (by rw [W9];exact HP.drop.drop.drop)
 refine A0 (Iw (c:=c) H2 hS2 hn hn2 hn3 hV λh3 H3=>?_)
 refine sb ?_
 refine C7 (λhh=>?_) (λhh=>?_)
 ·have e:GQ c calls B9 draws=false:=by simpa using hh
  refine F6 (vs:=[lQ none 0 0,iQ 0,iQ 0,dQ false,iQ 0]) H3.at rfl (by simp [J3]) λh4 w=>?_
  have H4:=H3.wr w.new w.old
  refine C5 H4.at rfl (C5 H4.at rfl (C5 H4.at rfl (C5 H4.at rfl (C5 H4.at rfl ?_))))
  exact k0 e h4 H4.drop.drop
 have hsc:GQ c calls B9 draws=true:=by simpa using hh
 have hsc2:=hsc
 unfold GQ at hsc2
 simp only [Bool.and_eq_true,beq_iff_eq,decide_eq_true_eq,List.all_eq_true] at hsc2
 obtain ⟨hok,hct,hf48,hp6,hd4,hcl,hpk⟩:=hsc2
 have B:=Be hok
 have hthr:1<=c.threads/\c.threads<=6:=B.th
 have C:Cx calls:=⟨by omega,λl hl=>⟨by
  have:l.length<=calls.flatten.length:=by
   obtain ⟨i,hi,rfl⟩:=List.getElem_of_mem hl
   have e1:=Py hi
   have e2:=Sv7 (L:=calls) (i+1)
   omega
  omega,λx hx=>⟨hcl l hl x hx,hR.cl l hl x hx⟩⟩⟩
 have O:=H3.at2
 refine C5 O rfl (C5 O rfl (C5 O rfl (C5 O rfl (C5 O rfl (C5 O rfl (C5 O rfl (C5 O rfl ?_)))))))
 refine sb ?_
 refine A0 (LN (c:=c) (bs:=draws) H3 (λh' P HP=>(hS2 h' P HP).dr) (by omega) hR.dr (λhx=>by rw [hok] at hx;cases hx) λ_ h4 Q M Ts H4=>?_)
 have hI0:=hI hok
 have hm0:(J5 c draws true).th.length=calls.length:=by
  show (List.replicate c.threads.toNat (Ay c)).length=_
  rw [List.length_replicate];omega
 generalize J5 c draws true=m0 at *
 refine sb ?_
 refine Bk ?_
 refine sb ?_
 refine Bl ?_
 refine sb ?_
 refine C7 (λhx=>by simp at hx) (λ_=>?_)
 have O:=H4.at3
 refine C5 O rfl (C5 O rfl (C5 O rfl (C5 O rfl (C5 O rfl (C5 O rfl (C5 O rfl (C5 O rfl (C5 O rfl (C5 O rfl (C5 O rfl ?_))))))))))
 refine sb ?_
 refine SW hct (by omega) ?_
 refine sb ?_
 have H5:=H4.push (oQ ((List.replicate calls.length (0:Int)).map iv).toArray 3)
 generalize h4.push (oQ ((List.replicate calls.length (0:Int)).map iv).toArray 3)=h5 at *
 generalize h4.size=NB at *
 have O5:=(H5.drop.drop.drop).at
 have H6:=H5.push (oQ #[lQ none 0 0,iQ 0,iQ 0,dQ false,iQ 0,mP Q,iQ c.algo,iQ c.threads,iQ c.nodes,iQ c.level,iQ c.batch,iQ c.probes,iQ c.scan,lQ ca calls.length cc,lQ pa B9.length pc,lQ da draws.length dc,lQ (some (aQ NB)) calls.length calls.length,lQ none 0 0,.map none,iQ 0] 78)
 repeat (first | refine ⟨E4 (E9 O5 rfl),?_⟩ | refine ⟨E9 O5 rfl,?_⟩)
 generalize h5.push (oQ #[lQ none 0 0,iQ 0,iQ 0,dQ false,iQ 0,mP Q,iQ c.algo,iQ c.threads,iQ c.nodes,iQ c.level,iQ c.batch,iQ c.probes,iQ c.scan,lQ ca calls.length cc,lQ pa B9.length pc,lQ da draws.length dc,lQ (some (aQ NB)) calls.length calls.length,lQ none 0 0,.map none,iQ 0] 78)=h6 at *
 generalize h5.size=RB at *
 obtain ⟨X,hX⟩ : ∃X:RX,X=⟨RB,NB,Q,M,DH c.algo,V0 c.algo,Ts,c,ca,calls.length,cc,pa,B9.length,pc,da,draws.length,dc,calls.length⟩:=⟨_,rfl⟩
 generalize hFR:pt ZB (oQ #[lQ none 0 0,iQ 0,iQ 0,dQ false,iQ 0] 34)*(pt SB (oQ (N9 c ca calls.length cc pa B9.length pc da draws.length dc).toArray 28)*R)=FR at H6 hS2
 have H7:A7 h6 (ID X (rs0 m0 calls.length)*FR):=by
  have H8:=(H6.own_new 45 8).map_new
  rw [hX]
  refine T5.2 ⟨none,0,none,by show (List.replicate _ _).length=_;simp,?_⟩
  exact A7.ac H8 (by show _=pt RB _*(F3 45 8 none 0 0 []*(LP none (λ_=>none)*(pt NB _*(Cu Q M (DH c.algo) (V0 c.algo) Ts m0*FR))));ac_rfl)
 have D7:Sw1 Inv calls 0 (rs0 m0 calls.length):=by
  refine ⟨hI0,hm0,λk hk=>?_,by show ([]:List EvM).length<=_;simp,⟨by show (0:Int)<=0;omega,by show (0:Int)<=_;omega⟩,⟨by show (0:Int)<=0;omega,by show (0:Int)<=_;omega⟩,⟨by show (0:Int)<=0;omega,by show (0:Int)<=_;omega⟩⟩
  show 0<=(List.replicate calls.length (0:Int)).getD k 0/\(List.replicate calls.length (0:Int)).getD k 0<=_
  simp [hk]
 clear H1 H2 H3 H4 H5 H6 I O
 have eRB:RB=X.RB:=by rw [hX]
 have ei:V0 c.algo=X.ins:=by rw [hX]
 have DX:DoC X.f d W:=by rw [hX];exact D
 have GX:LC d W X.ins Inv:=by rw [hX];exact G
 have su:∀ {h':A2} {s:R4},A7 h' (ID X s*FR)->∃QQ:Hp,A7 h' (Cu Q M (DH c.algo) (V0 c.algo) Ts s.m*(QQ*FR)):=by
  intro h' s H'
  obtain ⟨QQ,H8,_⟩:=PC H'
  rw [hX] at H8
  exact ⟨QQ,H8⟩
 obtain ⟨QQ,H8⟩:=su H7
 refine A0 (Cv H8 ?_)
 refine sb ?_
 refine A0 (Hy H8 λq R' HM=>?_)
 refine sb ?_
 refine A0 (GZ HM ?_)
 show asInt .i64 (iQ m0.mm.st) _
 refine sb ?_
 have scr:∀ {h':A2} {s:R4},A7 h' (ID X s*FR)->h'[SB]? = some (oQ (N9 c ca calls.length cc pa B9.length pc da draws.length dc).toArray 28)/\EO h' ca calls.length pa B9.length da draws.length calls B9 draws:=by
  intro h' s H'
  refine ⟨?_,hS2 h' _ H'⟩
  rw [<- hFR] at H'
  exact H'.drop.drop.at
 obtain ⟨sc,sI⟩:=scr H7
 refine C5 sc rfl ?_
 refine sb ?_
 have hS7:∀h' P,A7 h' (P*FR)->Sz h' X.ca X.cl X.pa X.pl calls B9:=by
  intro h' P HP
  rw [hX]
  exact (hS2 h' P HP).f
 have hXn:X.n=calls.length:=by rw [hX]
 have hins:0<=X.ins/\X.ins<=100:=by
  rw [<- ei]
  unfold V0
  repeat' split
  all_goals decide
 refine ⟨λvs h'=>∃(u:Value) (j:Nat),vs = [u,.int .i64 j]/\j<=B9.length/\Sw1 Inv calls j ((B9.take j).foldl (λs k=>s.pick d X.ins calls k) (rs0 m0 calls.length))/\A7 h' (ID X ((B9.take j).foldl (λs k=>s.pick d X.ins calls k) (rs0 m0 calls.length))*FR),λvs _=>match vs with | [_,.int _ i]=>((B9.length:Int) - i).toNat | _=>0,⟨_,0,rfl,Nat.zero_le _,D7,H7⟩,?_⟩
 rintro v84 v85 g86 h87 ⟨u,j,e,hj,DJ,HJ⟩
 cases e
 refine sb ?_
 generalize hsj:(B9.take j).foldl (λs k=>s.pick d X.ins calls k) (rs0 m0 calls.length)=sj at *
 obtain ⟨scJ,sIJ⟩:=scr HJ
 refine A4 (λc1=>?_) (λc1=>?_)
 ·have hjlt:j < B9.length:=by omega
  obtain ⟨ad,ea,hc⟩:=sIJ.f.pk j (.int .i64 B9[j]) (by rw [List.getElem?_map,List.getElem?_eq_getElem hjlt];rfl)
  subst ea
  refine ⟨by omega,by omega,?_⟩
  refine sb ?_
  refine D3 hc ?_
  refine sb ?_
  have hp:=hpk _ (List.getElem_mem hjlt)
  have hnext:(B9.take (j+1)).foldl (λs k=>s.pick d X.ins calls k) (rs0 m0 calls.length)=sj.pick d X.ins calls B9[j]:=by
   rw [List.take_succ_eq_append_getElem hjlt,List.foldl_append,hsj]
   rfl
  obtain ⟨kk,hkk⟩ : ∃kk:Nat,B9[j]=kk:=⟨B9[j].toNat,by omega⟩
  rw [hkk] at hp hnext ⊢
  rw [eRB]
  refine A0 (SV DX GX C hXn hins HJ hS7 (j:=j) (k:=kk) (by omega) (by omega) DJ λh94 D94 H94=>?_)
  try simp only [B4,F2,Nat.reduceAdd,Int.reduceLE,Int.reduceLT,Int.reduceToNat]
  rw [show F5 ((j:Int)+1)=((j+1:Nat):Int) from by rw [<- Int.natCast_add_one];exact Bg _ (by omega)]
  refine ⟨⟨_,j+1,rfl,by omega,by rw [hnext];exact D94,by rw [hnext];exact H94⟩,?_⟩
  show ((B9.length:Int) - ((j+1:Nat):Int)).toNat < ((B9.length:Int) - (j:Int)).toNat
  omega
 have ej:j=B9.length:=by omega
 subst ej
 rw [List.take_length] at hsj
 have hrun:sj=SU d (V0 c.algo) calls m0 B9:=by
  unfold SU
  rw [<- hsj,ei]
 obtain ⟨ea,ec,mo,hl,H0⟩:=T5.1 HJ
 have H9:A7 h87 (pt RB (oQ (rnE Q NB calls.length c ca calls.length cc pa B9.length pc da draws.length dc (lQ none 0 0) 0 sj.idle false sj.most ea sj.ev.length ec mo sj.gap).toArray 78)*(F3 45 8 ea sj.ev.length ec (sj.ev.flatMap Fy)*(LP mo sj.cu*(pt NB (oQ (sj.nx.map iv).toArray 3)*(Cu Q M (DH c.algo) (V0 c.algo) Ts sj.m*FR))))):=by
  rw [hX] at H0
  exact H0
 have hev:sj.ev.length<=1000000:=by have:=DJ.ev;omega
 refine A0 (call35 ?_)
 unfold F35 cf lS nP
 refine C7 (λhx=>by cases hx) (λ_=>?_)
 refine sb ?_
 refine C5 H9.at rfl ?_
 refine sb ?_
 rw [D4] at H9
 refine A0 (PF H9 hev λh10 a10 c10 H10=>?_)
 refine sb ?_
 have H11:A7 h10 (pt RB (oQ (rnE Q NB calls.length c ca calls.length cc pa B9.length pc da draws.length dc (lQ none 0 0) 0 sj.idle false sj.most ea sj.ev.length ec mo sj.gap).toArray 78)*(Cu Q M (DH c.algo) (V0 c.algo) Ts sj.m*(FR*(F3 45 8 a10 sj.ev.length c10 (sj.ev.flatMap Fy)*(F3 45 8 ea sj.ev.length ec (sj.ev.flatMap Fy)*(LP mo sj.cu*pt NB (oQ (sj.nx.map iv).toArray 3))))))):=A7.ac H10 (by ac_rfl)
 clear H9 H10 HJ H0
 refine H11.st (i:=0) rfl trivial λh12 H12=>?_
 rw [D4] at H12
 refine A0 (Cv H12 ?_)
 refine sb ?_
 refine A0 (Hy H12 λq2 R2 HM2=>?_)
 refine sb ?_
 refine A0 (GZ HM2 ?_)
 show asInt .i64 (iQ sj.m.mm.st) _
 refine sb ?_
 rw [D4] at H12
 refine H12.st (i:=1) rfl trivial λh13 H13=>?_
 rw [D4] at H13
 refine A0 (Cv H13 ?_)
 refine sb ?_
 refine A0 (PE H13 λh14 H14=>?_)
 refine sb ?_
 rw [D4] at H14
 refine H14.st (i:=3) rfl trivial λh15 H15=>?_
 have O:=H15.at
 refine C5 O rfl (C5 O rfl (C5 O rfl (C5 O rfl (C5 O rfl ?_))))
 rw [<- hFR] at H15
 obtain ⟨ob,H15⟩ : ∃ob,A7 h15 (pt RB ob*(Cu Q M (DH c.algo) (V0 c.algo) Ts sj.m*((pt ZB (.cells #[.slice none 0 0,.int .i64 0,.int .i64 0,.bool false,.int .i64 0] 34)*(pt SB (.cells (N9 c ca calls.length cc pa B9.length pc da draws.length dc).toArray 28)*R))*(F3 45 8 a10 sj.ev.length c10 (sj.ev.flatMap Fy)*(F3 45 8 ea sj.ev.length ec (sj.ev.flatMap Fy)*(LP mo sj.cu*pt NB (.cells (sj.nx.map iv).toArray 3))))))):=⟨_,H15⟩
 have H16:A7 h15 (pt ZB (oQ #[lQ none 0 0,iQ 0,iQ 0,dQ false,iQ 0] 34)*(F3 45 8 a10 sj.ev.length c10 (sj.ev.flatMap Fy)*(Cu Q M (DH c.algo) (V0 c.algo) Ts sj.m*(R*(pt SB (oQ (N9 c ca calls.length cc pa B9.length pc da draws.length dc).toArray 28)*(pt RB ob*(F3 45 8 ea sj.ev.length ec (sj.ev.flatMap Fy)*(LP mo sj.cu*pt NB (oQ (sj.nx.map iv).toArray 3))))))))):=A7.ac H15 (by ac_rfl)
 refine F6 (vs:=[lQ a10 sj.ev.length c10,iQ (F5 (sj.m.mm.st - m0.mm.st)),iQ sj.idle,dQ sj.m.fault,iQ sj.most]) H16.at rfl (by simp [J3]) λh17 w=>?_
 have H17:=(H16.wr w.new w.old)
 refine C5 H17.at rfl (C5 H17.at rfl (C5 H17.at rfl (C5 H17.at rfl (C5 H17.at rfl ?_))))
 obtain ⟨ob2,H17⟩ : ∃ob2,A7 h17 (pt ZB ob2*(F3 45 8 a10 sj.ev.length c10 (sj.ev.flatMap Fy)*(Cu Q M (DH c.algo) (V0 c.algo) Ts sj.m*(R*(pt SB (.cells (N9 c ca calls.length cc pa B9.length pc da draws.length dc).toArray 28)*(pt RB ob*(F3 45 8 ea sj.ev.length ec (sj.ev.flatMap Fy)*(LP mo sj.cu*pt NB (.cells (sj.nx.map iv).toArray 3))))))))):=⟨_,H17⟩
 have H18:A7 h17 ((pt ZB ob2*(pt SB (oQ (N9 c ca calls.length cc pa B9.length pc da draws.length dc).toArray 28)*(pt RB ob*(F3 45 8 ea sj.ev.length ec (sj.ev.flatMap Fy)*(LP mo sj.cu*pt NB (oQ (sj.nx.map iv).toArray 3))))))*(F3 45 8 a10 sj.ev.length c10 (sj.ev.flatMap Fy)*(Cu Q M (DH c.algo) (V0 c.algo) Ts sj.m*R))):=A7.ac H17 (by ac_rfl)
 exact k1 hsc h17 a10 c10 Q M Ts sj hrun DJ H18.drop
end
end
section
set_option maxHeartbeats 1000000
open Mod
theorem JV (j n:Nat) (calls:List (List Cl)):M8 (j+1) n calls=M8 j n calls ++ [CO n (calls.getD j [])]:=by
 unfold M8
 rw [List.range_succ,List.map_append]
 rfl
theorem LS (n:Nat) (l:List Cl):(CO n l).length=min n l.length:=by unfold CO;rw [List.length_map,List.length_take]
theorem Sc0 {n k:Nat} {l:List Cl} (h:k < (CO n l).length):(CO n l).take (k+1)=(CO n l).take k ++ [Us (l.getD k DA)]:=by
 have h2:=h
 rw [LS] at h2
 have e:(CO n l)[k]? = some (Us (l.getD k DA)):=by
  unfold CO
  rw [List.getElem?_map,List.getElem?_take_of_lt (by omega),List.getElem?_eq_getElem (by omega),List.getD_eq_getElem?_getD,List.getElem?_eq_getElem (by omega)]
  rfl
 rw [List.take_add_one,e]
 rfl
theorem MK {f:Int->Int} {n i:Nat} {l:List Int} (h:i < ((l.take n).map f).length):((l.take n).map f).take (i+1)=((l.take n).map f).take i ++ [f (l.getD i 0)]:=by
 have h2:=h
 rw [List.length_map,List.length_take] at h2
 have e:((l.take n).map f)[i]? = some (f (l.getD i 0)):=by
  rw [List.getElem?_map,List.getElem?_take_of_lt (by omega),List.getElem?_eq_getElem (by omega),List.getD_eq_getElem?_getD,List.getElem?_eq_getElem (by omega)]
  rfl
 rw [List.take_add_one,e]
 rfl
theorem PG (i:Nat) (h:i<=60000):F5 ((i:Int)+1)=((i+1:Nat):Int):=by unfold F5;omega
section
variable {K:kQ} {h:A2} {R:Hp}
theorem SY {c0 c:Mod.Cf} {ca pa da:Option Addr} {cl cc0 pl pc0 dl dc0:Nat} {calls:List (List Cl)} {B9 draws:List Int} {n m:Nat} (H:A7 h R)
  (hS:∀h' P,A7 h' (P*R)->EO h' ca cl pa pl da dl calls B9 draws) (hth:1<=c.threads/\c.threads<=6) (hn:n<=1000) (hm:m<=60000)
  (k:∀h' ca' cc pa' pc da' dc ps,A7 h' (Ss6 ca' cc pa' pc da' dc ps (M8 c.threads.toNat n calls) (U6 c.threads m B9) (draws.take 4096)*R)->K (.agg #[iQ c.algo,iQ c.threads,iQ c.nodes,iQ c.level,iQ c.batch,iQ c.probes,iQ c.scan,lQ ca' (M8 c.threads.toNat n calls).length cc,lQ pa' (U6 c.threads m B9).length pc,lQ da' (draws.take 4096).length dc]) h') :
  A5 Tryz.prog 11 #[.agg #[iQ c0.algo,iQ c0.threads,iQ c0.nodes,iQ c0.level,iQ c0.batch,iQ c0.probes,iQ c0.scan,lQ ca cl cc0,lQ pa pl pc0,lQ da dl dc0],cfV c,iQ n,iQ m] h K:=by
 refine call11 ?_
 unfold F11 g11 bd lS lI L1 PY EH So0
 have H1:=H.push (oQ (N9 c0 ca cl cc0 pa pl pc0 da dl dc0).toArray 28)
 rw [show (oQ #[iQ c0.algo,iQ c0.threads,iQ c0.nodes,iQ c0.level,iQ c0.batch,iQ c0.probes,iQ c0.scan,lQ ca cl cc0,lQ pa pl pc0,lQ da dl dc0] 28:Obj)=.cells (N9 c0 ca cl cc0 pa pl pc0 da dl dc0).toArray 28 from rfl]
 generalize h.push (oQ (N9 c0 ca cl cc0 pa pl pc0 da dl dc0).toArray 28)=h1 at *
 generalize h.size=SB at *
 have H2:=H1.push (oQ #[iQ c.algo,iQ c.threads,iQ c.nodes,iQ c.level,iQ c.batch,iQ c.probes,iQ c.scan] 23)
 generalize h1.push (oQ #[iQ c.algo,iQ c.threads,iQ c.nodes,iQ c.level,iQ c.batch,iQ c.probes,iQ c.scan] 23)=h2 at *
 generalize h1.size=CB at *
 have H3:=H2.push (oQ #[iQ 0,iQ 0,iQ 0,iQ 0,iQ 0,iQ 0,iQ 0,lQ none 0 0,lQ none 0 0,lQ none 0 0] 28)
 generalize h2.push (oQ #[iQ 0,iQ 0,iQ 0,iQ 0,iQ 0,iQ 0,iQ 0,lQ none 0 0,lQ none 0 0,lQ none 0 0] 28)=h3 at *
 generalize h2.size=RB at *
 refine C5 H3.at2 rfl (C5 H3.at2 rfl (C5 H3.at2 rfl (C5 H3.at2 rfl (C5 H3.at2 rfl (C5 H3.at2 rfl (C5 H3.at2 rfl ?_))))))
 have H4:=H3.push (oQ #[iQ 0,iQ 0,iQ 0,iQ 0,iQ 0,iQ 0,iQ 0,lQ none 0 0,lQ none 0 0,lQ none 0 0] 28)
 generalize h3.push (oQ #[iQ 0,iQ 0,iQ 0,iQ 0,iQ 0,iQ 0,iQ 0,lQ none 0 0,lQ none 0 0,lQ none 0 0] 28)=h4 at *
 generalize h3.size=TB at *
 refine SW5 (F6 (vs:=N9 c none 0 0 none 0 0 none 0 0) H4.at rfl (by simp [N9,J3]) λh5 w=>?_)
 have H5:=H4.wr w.new w.old
 clear H1 H2 H3 H4 w
 generalize hFR:pt RB (oQ #[iQ 0,iQ 0,iQ 0,iQ 0,iQ 0,iQ 0,iQ 0,lQ none 0 0,lQ none 0 0,lQ none 0 0] 28)*(pt CB (oQ #[iQ c.algo,iQ c.threads,iQ c.nodes,iQ c.level,iQ c.batch,iQ c.probes,iQ c.scan] 23)*(pt SB (oQ (N9 c0 ca cl cc0 pa pl pc0 da dl dc0).toArray 28)*R))=FR at H5
 have scr:∀ {h':A2} {X:Hp},A7 h' (X*FR)->h'[CB]? = some (.cells [iQ c.algo,iQ c.threads,iQ c.nodes,iQ c.level,iQ c.batch,iQ c.probes,iQ c.scan].toArray 23)/\h'[SB]? = some (oQ (N9 c0 ca cl cc0 pa pl pc0 da dl dc0).toArray 28)/\EO h' ca cl pa pl da dl calls B9 draws:=by
  intro h' X H'
  subst hFR
  refine ⟨H'.drop.drop.at,H'.drop.drop.drop.at,hS h' Mr ?_⟩
  rw [W9]
  exact H'.drop.drop.drop.drop
 have scr3:∀ {h':A2} {A B C:Hp},A7 h' (A*(B*(C*FR)))->h'[CB]? = some (.cells [iQ c.algo,iQ c.threads,iQ c.nodes,iQ c.level,iQ c.batch,iQ c.probes,iQ c.scan].toArray 23)/\h'[SB]? = some (oQ (N9 c0 ca cl cc0 pa pl pc0 da dl dc0).toArray 28)/\EO h' ca cl pa pl da dl calls B9 draws:=fun {h' A B C} H'=>scr (X:=A*(B*C)) (by rw [E7,E7];exact H')
 obtain ⟨oc,os,si⟩:=scr H5
 refine ⟨λvs h'=>vs = [dQ false]/\h' = h5,?_,?_⟩
 ·refine C5 oc rfl ?_
  refine sb ?_
  refine A4 (λc1=>by omega) (λc1=>?_)
  refine C5 oc rfl ?_
  refine sb ?_
  rw [decide_eq_false (by omega:¬ c.threads > 6)]
  first | done | exact ⟨by trivial,by trivial⟩ | trivial
 rintro v22 g23 h24 ⟨e,rfl⟩
 cases e
 refine sb ?_
 clear oc os si
 refine ⟨λvs h'=>∃(j:Nat) (w1 w2:Value) (ca':Option Addr) (cc:Nat) (ps:List (Option Addr × Nat)),vs = [.int .i64 j,w1,w2]/\j<=c.threads.toNat/\ps.length=j/\A7 h' (pt TB (.cells (N9 c ca' j cc none 0 0 none 0 0).toArray 28)*(F3 58 1 ca' j cc ((ps.zip (M8 j n calls)).flatMap Ez)*(BZ ps (M8 j n calls)*FR))),λvs _=>match vs with | [.int _ i,_,_]=>(c.threads - i).toNat | _=>0,⟨0,_,_,none,0,[],rfl,Nat.zero_le _,rfl,?_⟩,?_⟩
 ·have H6:=H5.own_new 58 1
  have e0:BZ [] (M8 0 n calls)=Mr:=by unfold BZ;rfl
  rw [e0,W9]
  rw [D4] at H6
  exact H6
 rintro v58 v59 v60 g61 h62 ⟨j,w1,w2,ca',cc,ps,e,hj,hps,H6⟩
 cases e
 obtain ⟨oc,os,si⟩:=scr3 H6
 refine sb ?_
 refine C5 oc rfl ?_
 refine sb ?_
 refine A4 (λc1=>?_) (λc1=>?_)
 ·generalize hrow:calls.getD j []=row at *
  have hcl:=si.f.cs
  refine ⟨λvs h'=>∃(q:Nat) (la:Option Addr) (lc:Nat),vs = [.slice la q lc,.int .i64 q]/\q<=(CO n row).length/\A7 h' (F3 41 3 la q lc (((CO n row).take q).flatMap Cc)*(pt TB (.cells (N9 c ca' j cc none 0 0 none 0 0).toArray 28)*(F3 58 1 ca' j cc ((ps.zip (M8 j n calls)).flatMap Ez)*(BZ ps (M8 j n calls)*FR)))),λvs _=>match vs with | [_,.int _ i]=>(2000 - i).toNat | _=>0,⟨0,none,0,rfl,Nat.zero_le _,H6.own_new 41 3⟩,?_⟩
  rintro v68 v69 g70 h71 ⟨q,la,lc,e,hq,H7⟩
  cases e
  clear oc os si
  obtain ⟨oc,os,si⟩:=scr3 H7.drop
  have hlen:=LS n row
  have hrl:¬ j < calls.length->row = []:=λhh=>by
   rw [<- hrow,List.getD_eq_getElem?_getD,List.getElem?_eq_none (by omega)]
   rfl
  refine ⟨λvs h'=>(∃w,vs = [w,dQ (decide (q < (CO n row).length))])/\h' = h71,?_,?_⟩
  ·refine sb ?_
   refine C5 os rfl ?_
   refine sb ?_
   refine A4 (λc2=>?_) (λc2=>?_)
   ·obtain ⟨ra,rc,⟨ad2,ea2,hcr⟩,hrw⟩:=si.f.row j (by omega)
    rw [hrow] at hcr hrw
    refine C5 os rfl ?_
    refine sb ?_
    subst ea2
    refine ⟨by omega,by omega,?_⟩
    refine sb ?_
    refine D3 hcr ?_
    refine sb ?_
    refine A4 (λc3=>?_) (λc3=>?_)
    ·rw [show decide ((q:Int) < (n:Int))=decide (q < (CO n row).length) by rw [decide_eq_decide];omega]
     first | exact ⟨⟨_,rfl⟩,by trivial⟩ | exact ⟨_,rfl⟩
    ·rw [decide_eq_false (by omega:¬ q < (CO n row).length)]
     first | exact ⟨⟨_,rfl⟩,by trivial⟩ | exact ⟨_,rfl⟩
   ·have:=hrl (by omega)
    rw [decide_eq_false (by rw [hlen,this];simp:¬ q < (CO n row).length)]
    first | exact ⟨⟨_,rfl⟩,by trivial⟩ | exact ⟨_,rfl⟩
  rintro v90 v91 g92 h93 ⟨⟨w,e⟩,rfl⟩
  cases e
  refine sb ?_
  refine A4 (λc2=>?_) (λc2=>?_)
  ·have hjl:j < calls.length:=Decidable.byContradiction λhh=>by
    have:=hrl hh
    rw [hlen,this] at c2
    simp at c2
   have hql:q < row.length:=by omega
   obtain ⟨ra,rc,⟨ad2,ea2,hcr⟩,hrw⟩:=si.f.row j hjl
   rw [hrow] at hcr hrw
   have hcq:row.getD q DA=row[q]:=by rw [List.getD_eq_getElem?_getD,List.getElem?_eq_getElem hql];rfl
   have htk:=Sc0 c2
   generalize hcc:row.getD q DA=cq at *
   have g0:=N3 Bm hql (j:=0) (by omega)
   have g1:=N3 Bm hql (j:=1) (by omega)
   have g2:=N3 Bm hql (j:=2) (by omega)
   rw [<- hcq] at g0 g1 g2
   obtain ⟨ad3,ea3,hc0⟩:=hrw (q*3+0) (.int .i64 cq.op) g0
   subst ea3
   obtain ⟨_,ea4,hc1⟩:=hrw (q*3+1) (.int .u32 cq.key) g1
   cases ea4
   obtain ⟨_,ea4,hc2⟩:=hrw (q*3+2) (.int .u32 cq.val) g2
   cases ea4
   have aa:∀i,(ad3.add (q*3)).add i=ad3.add (q*3+i):=λi=>BH _ _ _
   rw [Nat.add_zero] at hc0
   refine C5 os rfl ?_
   refine sb ?_
   subst ea2
   refine ⟨by omega,by omega,?_⟩
   refine sb ?_
   refine D3 hcr ?_
   refine sb ?_
   refine ⟨by omega,by omega,?_⟩
   try simp only [B4,F2,Nat.reduceAdd,Int.reduceLE,Int.reduceLT,Int.reduceToNat,aa]
   refine D3 hc0 (D3 hc1 (D3 hc2 ?_))
   have H8:=H7.push (oQ #[iQ 0,.int .u32 0,.int .u32 0] 41)
   generalize h93.push (oQ #[iQ 0,.int .u32 0,.int .u32 0] 41)=h94 at *
   generalize h93.size=AB at *
   refine st3 (F6 (vs:=Cc cq) H8.at rfl (by simp [Cc,J3]) λh112 w=>?_)
   have H9:=H8.wr w.new w.old
   clear H8 w
   refine C5 H9.at rfl ?_
   refine sb ?_
   refine ⟨by decide,by decide,?_⟩
   have H10:=H9.push (oQ #[iQ 0,.int .u32 0,.int .u32 0] 41)
   generalize h112.push (oQ #[iQ 0,.int .u32 0,.int .u32 0] 41)=h113 at *
   generalize h112.size=DB at *
   refine st3 (F6 (vs:=[iQ (opL cq.op),.int .u32 0,.int .u32 0]) H10.at rfl (by simp [J3]) λh117 w=>?_)
   have H11:=H10.wr w.new w.old
   clear H10 w H9
   refine ⟨λvs h'=>A7 h' (pt DB (oQ (Cc (Us cq)).toArray 41)*(pt AB (oQ (Cc cq).toArray 41)*(F3 41 3 la q lc (((CO n row).take q).flatMap Cc)*(pt TB (oQ (N9 c ca' j cc none 0 0 none 0 0).toArray 28)*(F3 58 1 ca' j cc ((ps.zip (M8 j n calls)).flatMap Ez)*(BZ ps (M8 j n calls)*FR)))))),?_,?_⟩
   ·refine C5 H11.at rfl ?_
    refine sb ?_
    refine C7 (λc3=>?_) (λc3=>?_)
    ·have c3:opL cq.op=0:=by simpa using c3
     refine C5 H11.at2 rfl ?_
     simp only [A6]
     refine H11.st (i:=1) rfl trivial λh1 H12=>?_
     refine C5 H12.at2 rfl ?_
     simp only [A6]
     refine H12.st (i:=2) rfl trivial λh2 H13=>?_
     have e:Us cq=⟨0,cq.key,cq.val⟩:=by unfold Us;rw [if_pos c3]
     rw [e]
     rw [c3] at H13
     exact H13
    ·have c3:¬ opL cq.op=0:=by simpa using c3
     have e:Us cq=⟨opL cq.op,0,0⟩:=by unfold Us;rw [if_neg c3]
     rw [e]
     exact H11
   rintro g127 h128 H12
   try simp only [B4,F2,Nat.reduceAdd,Int.reduceLE,Int.reduceLT,Int.reduceToNat]
   refine C5 H12.at rfl (C5 H12.at rfl (C5 H12.at rfl ?_))
   have H13:A7 h128 (F3 41 3 la q lc (((CO n row).take q).flatMap Cc)*(pt TB (oQ (N9 c ca' j cc none 0 0 none 0 0).toArray 28)*(F3 58 1 ca' j cc ((ps.zip (M8 j n calls)).flatMap Ez)*(BZ ps (M8 j n calls)*FR)))):=H12.drop.drop
   refine SS6 (x:=Us cq) H13 (by omega) λa' c' h136 H14=>?_
   refine sb ?_
   rw [PG q (by omega)]
   refine ⟨⟨q+1,a',c',rfl,by omega,by rw [htk];exact H14⟩,?_⟩
   show ((2000:Int) - ((q+1:Nat):Int)).toNat < ((2000:Int) - (q:Int)).toNat
   omega
  ·have eq:q=(CO n row).length:=by omega
   have et:(CO n row).take q=CO n row:=List.take_of_length_le (by omega)
   rw [et] at H7
   refine C5 H7.at2 rfl ?_
   refine sb ?_
   have H8:A7 h93 (F3 58 1 ca' j cc ((ps.zip (M8 j n calls)).flatMap Ez)*(pt TB (oQ (N9 c ca' j cc none 0 0 none 0 0).toArray 28)*(BZ ps (M8 j n calls)*(F3 41 3 la q lc ((CO n row).flatMap Cc)*FR)))):=A7.ac H7 (by ac_rfl)
   refine SH8 (p:=(la,lc)) (x:=CO n row) H8 (by rw [hps,Ct]) eq (by omega) λa' c' h149 H9=>?_
   refine sb ?_
   rw [D4] at H9
   refine H9.st (i:=7) rfl trivial λh153 H10=>?_
   try simp only [B4,F2,Nat.reduceAdd,Int.reduceLE,Int.reduceLT,Int.reduceToNat]
   rw [PG j (by omega)]
   refine ⟨⟨j+1,_,_,a',c',ps ++ [(la,lc)],rfl,by omega,by rw [List.length_append,hps];rfl,?_⟩,?_⟩
   ·rw [JV,hrow,LE (la,lc) _ _ _ (by rw [hps,Ct]),E7]
    subst eq
    exact H10
   ·show (c.threads - ((j+1:Nat):Int)).toNat < (c.threads - (j:Int)).toNat
    omega
 have ej:j=c.threads.toNat:=by omega
 have hPL:(U6 c.threads m B9).length=min m B9.length:=by unfold U6;rw [List.length_map,List.length_take]
 generalize hCL:M8 j n calls=CL at *
 refine ⟨λvs h'=>∃(i:Nat) (pa':Option Addr) (pc:Nat),vs = [.int .i64 i]/\i<=(U6 c.threads m B9).length/\A7 h' (F3 3 1 pa' i pc (((U6 c.threads m B9).take i).map iv)*(pt TB (.cells (N9 c ca' j cc pa' i pc none 0 0).toArray 28)*(F3 58 1 ca' j cc ((ps.zip CL).flatMap Ez)*(BZ ps CL*FR)))),λvs _=>match vs with | [.int _ i]=>(70000 - i).toNat | _=>0,⟨0,none,0,rfl,Nat.zero_le _,H6.own_new 3 1⟩,?_⟩
 rintro v157 g158 h159 ⟨i,pa',pc,e,hi,H7⟩
 cases e
 clear oc os si H6
 obtain ⟨oc,os,si⟩:=scr3 H7.drop
 have hps2:=si.f.ps
 refine ⟨λvs h'=>vs = [dQ (decide (i < (U6 c.threads m B9).length))]/\h' = h159,?_,?_⟩
 ·refine sb ?_
  refine C5 os rfl ?_
  refine sb ?_
  refine A4 (λc2=>?_) (λc2=>?_)
  ·rw [show decide ((i:Int) < (m:Int))=decide (i < (U6 c.threads m B9).length) by rw [decide_eq_decide];omega]
   first | done | exact ⟨by trivial,by trivial⟩ | trivial
  ·rw [decide_eq_false (by omega:¬ i < (U6 c.threads m B9).length)]
   first | done | exact ⟨by trivial,by trivial⟩ | trivial
 rintro v167 g168 h169 ⟨e,rfl⟩
 cases e
 refine sb ?_
 refine A4 (λc2=>?_) (λc2=>?_)
 ·have hil:i < B9.length:=by omega
  have htk:=MK (f:=LD c.threads) c2
  have hpi:B9.getD i 0=B9[i]:=by rw [List.getD_eq_getElem?_getD,List.getElem?_eq_getElem hil];rfl
  obtain ⟨ad,ea,hc⟩:=si.f.pk i (.int .i64 (B9.getD i 0)) (by rw [hpi,List.getElem?_map,List.getElem?_eq_getElem hil];rfl)
  subst ea
  generalize B9.getD i 0=pk at *
  refine C5 H7.at2 rfl ?_
  refine sb ?_
  refine C5 os rfl ?_
  refine sb ?_
  refine ⟨by omega,by omega,?_⟩
  try simp only [B4,F2,Nat.reduceAdd,Int.reduceLE,Int.reduceLT,Int.reduceToNat]
  refine D3 hc ?_
  refine sb ?_
  refine C5 oc rfl ?_
  refine sb ?_
  refine ⟨by omega,?_⟩
  refine C5 oc rfl ?_
  refine sb ?_
  refine C5 oc rfl ?_
  refine sb ?_
  refine ⟨by omega,E4 (E9 H7.at2 rfl),?_⟩
  refine SS7 (x:=LD c.threads pk) H7 (by omega) λa' c' h190 H8=>?_
  refine sb ?_
  rw [D4] at H8
  refine H8.st (i:=8) rfl trivial λh194 H9=>?_
  try simp only [B4,F2,Nat.reduceAdd,Int.reduceLE,Int.reduceLT,Int.reduceToNat]
  rw [PG i (by omega)]
  rw [D4] at H9
  refine ⟨⟨i+1,a',c',rfl,by omega,?_⟩,?_⟩
  ·have htk:(U6 c.threads m B9).take (i+1)=(U6 c.threads m B9).take i ++ [LD c.threads pk]:=htk
   rw [htk]
   exact H9
  ·show ((70000:Int) - ((i+1:Nat):Int)).toNat < ((70000:Int) - (i:Int)).toNat
   omega
 have ei:i=(U6 c.threads m B9).length:=by omega
 have et:(U6 c.threads m B9).take i=U6 c.threads m B9:=List.take_of_length_le (by omega)
 rw [et] at H7
 generalize hPP:U6 c.threads m B9=PP at *
 have hDL:(draws.take 4096).length=min 4096 draws.length:=List.length_take ..
 refine ⟨λvs h'=>∃(d:Nat) (da':Option Addr) (dc:Nat),vs = [.int .i64 d]/\d<=(draws.take 4096).length/\A7 h' (F3 5 1 da' d dc (((draws.take 4096).take d).map SA)*(pt TB (.cells (N9 c ca' j cc pa' i pc da' d dc).toArray 28)*(F3 3 1 pa' i pc (PP.map iv)*(F3 58 1 ca' j cc ((ps.zip CL).flatMap Ez)*(BZ ps CL*FR))))),λvs _=>match vs with | [.int _ i]=>(70000 - i).toNat | _=>0,⟨0,none,0,rfl,Nat.zero_le _,?_⟩,?_⟩
 ·rw [D4] at H7
  exact H7.own_new 5 1
 rintro v198 g199 h200 ⟨d,da',dc,e,hd,H8⟩
 cases e
 clear oc os si H7
 obtain ⟨oc,os,si⟩:=scr3 H8.drop.drop
 have hds:=si.ds
 refine ⟨λvs h'=>vs = [dQ (decide (d < (draws.take 4096).length))]/\h' = h200,?_,?_⟩
 ·refine sb ?_
  refine C5 os rfl ?_
  refine sb ?_
  refine A4 (λc3=>?_) (λc3=>?_)
  ·rw [show decide ((d:Int) < 4096)=decide (d < (draws.take 4096).length) by rw [decide_eq_decide];omega]
   first | done | exact ⟨by trivial,by trivial⟩ | trivial
  ·rw [decide_eq_false (by omega:¬ d < (draws.take 4096).length)]
   first | done | exact ⟨by trivial,by trivial⟩ | trivial
 rintro v208 g209 h210 ⟨e,rfl⟩
 cases e
 refine sb ?_
 refine A4 (λc3=>?_) (λc3=>?_)
 ·have hdl:d < draws.length:=by omega
  have htk:(draws.take 4096).take (d+1)=(draws.take 4096).take d ++ [draws[d]]:=by
   rw [List.take_succ_eq_append_getElem c3,List.getElem_take]
  obtain ⟨ad,ea,hc⟩:=si.dr d (.int .u8 draws[d]) (by rw [List.getElem?_map,List.getElem?_eq_getElem hdl];rfl)
  subst ea
  generalize draws[d]=dk at *
  refine C5 H8.at2 rfl ?_
  refine sb ?_
  refine C5 os rfl ?_
  refine sb ?_
  refine ⟨by omega,by omega,?_⟩
  try simp only [B4,F2,Nat.reduceAdd,Int.reduceLE,Int.reduceLT,Int.reduceToNat]
  refine D3 hc ?_
  refine sb ?_
  refine ⟨E4 (E9 H8.at2 rfl),?_⟩
  refine SS8 (x:=dk) H8 (by omega) λa' c' h225 H9=>?_
  refine sb ?_
  rw [D4] at H9
  refine H9.st (i:=9) rfl trivial λh229 H10=>?_
  try simp only [B4,F2,Nat.reduceAdd,Int.reduceLE,Int.reduceLT,Int.reduceToNat]
  rw [PG d (by omega)]
  rw [D4] at H10
  refine ⟨⟨d+1,a',c',rfl,by omega,by rw [htk];exact H10⟩,?_⟩
  show ((70000:Int) - ((d+1:Nat):Int)).toNat < ((70000:Int) - (d:Int)).toNat
  omega
 have ed:d=(draws.take 4096).length:=by omega
 have et2:(draws.take 4096).take d=draws.take 4096:=List.take_of_length_le (by omega)
 rw [et2] at H8
 rw [<- hFR] at H8
 have H9:A7 h210 (pt RB (oQ #[iQ 0,iQ 0,iQ 0,iQ 0,iQ 0,iQ 0,iQ 0,lQ none 0 0,lQ none 0 0,lQ none 0 0] 28)*(pt TB (oQ (N9 c ca' j cc pa' i pc da' d dc).toArray 28)*(pt CB (oQ #[iQ c.algo,iQ c.threads,iQ c.nodes,iQ c.level,iQ c.batch,iQ c.probes,iQ c.scan] 23)*(pt SB (oQ (N9 c0 ca cl cc0 pa pl pc0 da dl dc0).toArray 28)*(F3 58 1 ca' j cc ((ps.zip CL).flatMap Ez)*(BZ ps CL*(F3 3 1 pa' i pc (PP.map iv)*(F3 5 1 da' d dc ((draws.take 4096).map SA)*R)))))))):=A7.ac H8 (by ac_rfl)
 have OT:=H9.at2
 refine C5 OT rfl (C5 OT rfl (C5 OT rfl (C5 OT rfl (C5 OT rfl (C5 OT rfl (C5 OT rfl (C5 OT rfl (C5 OT rfl (C5 OT rfl ?_)))))))))
 refine SW5 (F6 (vs:=N9 c ca' j cc pa' i pc da' d dc) H9.at rfl (by simp [N9,J3]) λh250 w=>?_)
 have H10:=H9.wr w.new w.old
 have OR:=H10.at
 refine C5 OR rfl (C5 OR rfl (C5 OR rfl (C5 OR rfl (C5 OR rfl (C5 OR rfl (C5 OR rfl (C5 OR rfl (C5 OR rfl (C5 OR rfl ?_)))))))))
 have eCL:CL=M8 c.threads.toNat n calls:=by rw [<- hCL,ej]
 have eL:CL.length=j:=by rw [<- hCL,Ct]
 rw [eCL] at eL
 have hk:=k h250 ca' cc pa' pc da' dc ps (SE.2 ⟨by rw [hps,eL],by rw [eL,<- eCL,<- ei,<- ed];exact H10.drop.drop.drop.drop⟩)
 rw [eL,<- ei,<- ed] at hk
 exact hk
end
end
section
open Mod
section
variable {x:A9} {sl th:Int}
theorem Sw4 (hs:0 < sl) (hne:x.t.fr≠[]) (h:W3 sl th x) (e:x.f.fn=1):Nx sl th x (alloc x):=by
 have r:=h.r hne
 rw [e] at r
 unfold alloc;dsimp only
 repeat' split
 all_goals exact t_nx
theorem We (hs:0 < sl) (hne:x.t.fr≠[]) (h:W3 sl th x) (e:x.f.fn=2):Nx sl th x (Af x):=by
 have r:=h.r hne
 rw [e] at r
 unfold Af;dsimp only
 repeat' split
 all_goals exact t_nx
theorem Wf (hs:0 < sl) (hne:x.t.fr≠[]) (h:W3 sl th x) (e:x.f.fn=3):Nx sl th x (Ah x):=by
 have r:=h.r hne
 rw [e] at r
 unfold Ah;dsimp only
 repeat' split
 all_goals exact t_nx
theorem SJ0 (hsl:sl=x.m.p.slots) (hs:0 < sl) (hne:x.t.fr≠[]) (h:W3 sl th x) (e:x.f.fn=4):Nx sl th x (Ig x):=by
 have r:=h.r hne
 rw [e] at r
 unfold Ig;dsimp only
 split
 ·rename_i c
  refine ⟨by exact t_adj,.inr (J1.ltPop r hne rfl r hne ?_)⟩
  have c2:fA sl th 4 x.f.pc=false:=by simp [fA];omega
  rw [c2]
  simp [fW]
 ·exact t_nx
theorem SJ1 (y:A9) (r:List Int) (h:y.t.fr≠[]):(y.pop r).t.fr.reverse=GP y:=by
 show (y.t.pop r).fr.reverse=_
 unfold Thr.pop
 rw [if_neg h]
 rfl
theorem Sc1 (ha:0 < sl*th) (hne:x.t.fr≠[]) (h:W3 sl th x) (e:x.f.fn=5):Nx sl th x (BJ x):=by
 have r:=h.r hne
 rw [e] at r
 unfold BJ;dsimp only
 generalize hz:((x.gh λg=>g.turn (F5 (x.f.g 0)) 1 2 2).re ((x.gh λg=>g.turn (F5 (x.f.g 0)) 1 2 2).t.retired ++ [F5 (x.f.g 0)]))=z
 have hzn:z.t.fr≠[]:=by subst hz;exact hne
 have rz:J1 sl th 5 (GP x) z:=by subst hz;exact r.gh.re
 have hm:mu sl th x=3+NE sl th (GP x):=by
  rw [r.mu hne rfl]
  simp [fW,fA]
 have hp:(z.pop []).t.fr.reverse=GP x:=by rw [SJ1 _ _ hzn];exact rz.e
 split
 ·refine ⟨W3.push rz.pop ?_,.inr ?_⟩
  ·rw [hp]
   cases hl:GP x with
   | nil=>trivial
   | cons f l=>
    have o:=r.o
    rw [hl] at o
    exact o
  ·rw [Kv,hm]
   simp [fW,fA,ha]
   omega
 ·refine ⟨rz.pop,.inr ?_⟩
  rw [Wb _ hzn,rz.e,hm]
  omega
theorem J1.push {fn i:Int} {l:List M6} {r:List Int} {y:A9} (h:J1 sl th fn l y) (hne:y.t.fr≠[]) (hd:fR i < fR fn):W3 sl th (y.push i r):=by
 refine W3.push (h.all hne) ?_
 rw [Gn hne]
 exact .inr (by rw [h.f];exact hd)
theorem SJ2 (hsl:sl=x.m.p.slots) (hth:th=x.m.p.c.threads) (hne:x.t.fr≠[]) (h:W3 sl th x) (e:x.f.fn=6):Nx sl th x (scan x):=by
 have r:=h.r hne
 rw [e] at r
 have h0:∀y:A9,y=(if x.f.pc=0 then x.fo [] else x)->J1 sl th 6 (GP x) y/\y.t.fr≠[]/\y.f.pc=x.f.pc:=by
  rintro y rfl
  split
  ·exact ⟨r.fo,hne,rfl⟩
  ·exact ⟨r,hne,rfl⟩
 unfold scan
 dsimp only
 generalize hy:(if x.f.pc=0 then x.fo [] else x)=y
 obtain ⟨ry,hny,hpc⟩:=h0 y hy.symm
 rw [<- hsl,<- hth]
 split
 ·exact ⟨by exact t_adj,.inl (by (focus (refine Ch.act ?_;(with_reducible repeat' constructor))))⟩
 ·rename_i c
  have hm:mu sl th x=2+NE sl th (GP x):=by
   rw [r.mu hne rfl]
   have c2:fA sl th 6 x.f.pc=false:=by simp [fA];omega
   rw [c2]
   simp [fW]
  have hA:J1 sl th 6 (GP x) (BK y (sl*th))/\(BK y (sl*th)).t.fr≠[]:=by
   unfold BK
   split
   ·exact ⟨by exact t_adr,Bn _ _⟩
   ·exact ⟨ry,hny⟩
  generalize BK y (sl*th)=z at *
  obtain ⟨rz,hzn⟩:=hA
  unfold Fw
  split
  ·refine ⟨rz.pop,.inr ?_⟩
   rw [Wb _ hzn,rz.e,hm]
   omega
  ·rename_i n rest e2
   refine ⟨J1.push (l:=GP x) (fn:=6) (by exact t_adr) hzn (by decide),.inr ?_⟩
   rw [Kv,hm]
   simp [fW,fA]
   omega
theorem Wg (hs:0 < sl) (hne:x.t.fr≠[]) (h:W3 sl th x) (e:x.f.fn=1\/x.f.fn=2):Nx sl th x (Ag x):=by
 unfold Ag
 rw [if_neg hne]
 rcases e with e | e
 ·rw [if_pos e];exact Sw4 hs hne h e
 ·rw [if_neg (by omega),if_pos e];exact We hs hne h e
theorem Gp (hsl:sl=x.m.p.slots) (hth:th=x.m.p.c.threads) (hs:0 < sl) (ha:0 < sl*th) (hne:x.t.fr≠[]) (h:W3 sl th x) (e:1<=x.f.fn/\x.f.fn<=6):Nx sl th x (U1 x):=by
 unfold U1
 rw [if_neg hne]
 by_cases e3:x.f.fn=3
 ·rw [if_pos e3];exact Wf hs hne h e3
 rw [if_neg e3]
 by_cases e4:x.f.fn=4
 ·rw [if_pos e4];exact SJ0 hsl hs hne h e4
 rw [if_neg e4]
 by_cases e5:x.f.fn=5
 ·rw [if_pos e5];exact Sc1 ha hne h e5
 rw [if_neg e5]
 by_cases e6:x.f.fn=6
 ·rw [if_pos e6];exact SJ2 hsl hth hne h e6
 rw [if_neg e6]
 exact Wg hs hne h (by omega)
end
end
section
open Mod
theorem Yr (c:Int):∀(k i:Nat),(i:Int)<=Ur c k i/\Ur c k i<=i+k/\(1<=k->(i:Int)+1<=Ur c k i)
 | 0,i=>by unfold Ur;omega
 | k+1,i=>by
  have ih:=Yr c k (i+1)
  unfold Ur
  split <;> omega
theorem SJ3 (m:Mac) {n:Int} (h:1<=n):1<=(m.lvl n).1/\(m.lvl n).1<=n:=by
 unfold Mac.lvl
 rw [if_neg (by omega)]
 have:=Yr m.take.1 n.toNat 0
 show 1<=Ur m.take.1 n.toNat 0/\Ur m.take.1 n.toNat 0<=n
 omega
def M5 (L sl th:Int) (f:M6):Prop:=Z1 sl th f\/f.r.length=10/\(f.fn=21/\(0<=f.pc/\f.pc<=17\/f.pc=90)/\(3<=f.pc->f.pc<=14->1<=f.g 3/\f.g 3<=L)/\(f.pc=9\/f.pc=10\/f.pc=13\/f.pc=14->0<=f.g 5/\f.g 5 < f.g 3)/\(f.pc=12->0<=f.g 5) \/
 (f.fn=22\/f.fn=23)/\(0<=f.pc/\f.pc<=13\/f.pc=90)\/f.fn=20/\0<=f.pc/\f.pc<=8/\(f.pc≠0->0<=F5 (f.g 1)/\F5 (f.g 1) < L))
theorem Ca {L sl th fn:Int} {l:List Int} (h:1<=fn/\fn<=6\/20<=fn/\fn<=23) (hs:0<=sl) (ht:0<=sl*th):M5 L sl th ⟨fn,0,Ad 10 l⟩:=by
 by_cases c:fn<=6
 ·exact .inl (LJ (by omega) hs ht)
 ·refine .inr ⟨Dc _ _,?_⟩
  dsimp only
  omega
theorem LT {L sl th:Int} {f:M6} (h:M5 L sl th f) (e:f.fn=21):f.r.length=10/\(0<=f.pc/\f.pc<=17\/f.pc=90)/\(3<=f.pc->f.pc<=14->1<=f.g 3/\f.g 3<=L)/\(f.pc=9\/f.pc=10\/f.pc=13\/f.pc=14->0<=f.g 5/\f.g 5 < f.g 3)/\(f.pc=12->0<=f.g 5):=by
 unfold M5 Z1 at h
 rcases h with ⟨h0,h1⟩ | ⟨h0,h1⟩
 ·exact ⟨h0,by omega,by omega,by omega,by omega⟩
 ·refine ⟨h0,?_⟩
  rcases h1 with h1 | h1 | h1
  ·exact h1.2
  ·omega
  ·omega
theorem Ys {L sl th:Int} {f:M6} (h:M5 L sl th f) (e:f.fn=22\/f.fn=23):f.r.length=10/\(0<=f.pc/\f.pc<=13\/f.pc=90):=by
 unfold M5 Z1 at h
 rcases h with ⟨h0,h1⟩ | ⟨h0,h1⟩
 ·exact ⟨h0,by omega⟩
 ·refine ⟨h0,?_⟩
  rcases h1 with h1 | h1 | h1
  ·omega
  ·exact h1.2
  ·omega
theorem Sw5 {L sl th:Int} {f:M6} (h:M5 L sl th f) (e:f.fn=20):f.r.length=10/\0<=f.pc/\f.pc<=8/\(f.pc≠0->0<=F5 (f.g 1)/\F5 (f.g 1) < L):=by
 unfold M5 Z1 at h
 rcases h with ⟨h0,h1⟩ | ⟨h0,h1⟩
 ·exact ⟨h0,by omega,by omega,by omega⟩
 ·refine ⟨h0,?_⟩
  rcases h1 with h1 | h1 | h1
  ·omega
  ·omega
  ·exact h1.2
theorem SX3 {L sl th:Int} {f:M6} (h:M5 L sl th f) (e:¬ (20<=f.fn/\f.fn<=23)):Z1 sl th f:=by
 unfold M5 at h
 rcases h with h | ⟨_,h⟩
 ·exact h
 ·omega
section
variable {x:A9} {L sl th:Int}
theorem Cy (x:A9) (a:Int):(x.drop1 a).2.f=x.f:=rfl
theorem Bh (x:A9) (a b c:Int):(x.swingA a b c).2.f=x.f:=rfl
theorem SZ (h:E3 (M5 L sl th) x) (hL:L=x.m.p.c.level) (hl:1<=L/\L<=6) (s0:0<=sl) (t0:0<=sl*th) (o:M5 L sl th x.f) (e:x.f.fn=21):E3 (M5 L sl th) (Ak x):=by
 have r:=h.rest
 obtain ⟨len,o1,o2,o3,o4⟩:=LT o e
 unfold Ak;dsimp only
 repeat' split
 all_goals (refine t_st ?_;first | with_reducible assumption | ((with_reducible first | apply B5.pop | apply B5.call | apply B5.allPc | apply B5.allS | apply B5.fin);exact t_rest))
 ·exact t_su
 ·exact Ca (by omega) s0 t0
 ·exact t_su
 ·exact t_su
 ·exact Ca (by omega) s0 t0
 ·exact t_su
 ·exact Ca (by omega) s0 t0
theorem Sc2 (h:E3 (M5 L sl th) x) (hL:L=x.m.p.c.level) (hl:1<=L/\L<=6) (s0:0<=sl) (t0:0<=sl*th) (o:M5 L sl th x.f) (e:x.f.fn=21) (hp:3<=x.f.pc/\x.f.pc<=7):E3 (M5 L sl th) (EK x):=by
 have r:=h.rest
 obtain ⟨len,o1,o2,o3,o4⟩:=LT o e
 have u5:0<=Mod.u64 (x.f.g 5+1):=by unfold Mod.u64;omega
 unfold EK;dsimp only
 repeat' split
 all_goals (refine t_st ?_;first | with_reducible assumption | ((with_reducible first | apply B5.pop | apply B5.call | apply B5.allPc | apply B5.allS | apply B5.fin);exact t_rest))
 all_goals first | exact Ca (by omega) s0 t0 | exact t_su
theorem Ta (h:E3 (M5 L sl th) x) (hL:L=x.m.p.c.level) (hl:1<=L/\L<=6) (s0:0<=sl) (t0:0<=sl*th) (o:M5 L sl th x.f) (e:x.f.fn=21) (hp:12<=x.f.pc/\x.f.pc<=14):E3 (M5 L sl th) (Aj x):=by
 have r:=h.rest
 obtain ⟨len,o1,o2,o3,o4⟩:=LT o e
 have u5:0<=Mod.u64 (x.f.g 5+1):=by unfold Mod.u64;omega
 unfold Aj;dsimp only
 repeat' split
 all_goals (refine t_st ?_;first | with_reducible assumption | ((with_reducible first | apply B5.pop | apply B5.call | apply B5.allPc | apply B5.allS | apply B5.fin);exact t_rest))
 all_goals first | exact Ca (by omega) s0 t0 | exact t_su
theorem Tb (h:E3 (M5 L sl th) x) (hL:L=x.m.p.c.level) (hl:1<=L/\L<=6) (s0:0<=sl) (t0:0<=sl*th) (o:M5 L sl th x.f) (e:x.f.fn=21) (hp:8<=x.f.pc/\x.f.pc<=11):E3 (M5 L sl th) (Ai x):=by
 have r:=h.rest
 obtain ⟨len,o1,o2,o3,o4⟩:=LT o e
 have u5:0<=Mod.u64 (x.f.g 5+1):=by unfold Mod.u64;omega
 have g3:=o2 (by omega) (by omega)
 unfold Ai;dsimp only
 repeat' split
 all_goals (refine t_st ?_;first | with_reducible assumption | ((with_reducible first | apply B5.pop | apply B5.call | apply B5.allPc | apply B5.allS | apply B5.fin);exact t_rest))
 all_goals first | exact Ca (by omega) s0 t0 | exact t_su | skip
 rw [CM]
 have e3:((x.f.s 5 0).at 9).g 3=x.f.g 3:=by rw [CN,B0 _ (by decide)]
 have e5:((x.f.s 5 0).at 9).g 5=0:=by rw [CN,G5 len (by decide)]
 refine .inr ⟨by rw [R0,R1];exact len,.inl ⟨e,.inl ⟨by rw [BY];omega,by rw [BY];omega⟩,λ_ _=>by rw [e3];exact g3,λ_=>by rw [e3,e5];omega,λ_=>by rw [e5];omega⟩⟩
theorem Yt {f:M6} (len:f.r.length=10) (e:f.fn=22\/f.fn=23) (hp:0<=f.pc/\f.pc<=13\/f.pc=90):M5 L sl th f:=.inr ⟨len,.inr (.inl ⟨e,hp⟩)⟩
theorem Wh (h:E3 (M5 L sl th) x) (s0:0<=sl) (t0:0<=sl*th) (o:M5 L sl th x.f) (e:x.f.fn=22\/x.f.fn=23):E3 (M5 L sl th) (Az x):=by
 have r:=h.rest
 obtain ⟨len,o1⟩:=Ys o e
 unfold Az AS;dsimp only
 repeat' split
 all_goals (refine t_st ?_;first | with_reducible assumption | ((with_reducible first | apply B5.pop | apply B5.call | apply B5.allPc | apply B5.allS | apply B5.fin);exact t_rest))
 all_goals first | exact Ca (by omega) s0 t0 | exact t_sr9 | exact t_sr
theorem Wi (h:E3 (M5 L sl th) x) (s0:0<=sl) (t0:0<=sl*th) (o:M5 L sl th x.f) (e:x.f.fn=22\/x.f.fn=23):E3 (M5 L sl th) (AA x):=by
 have r:=h.rest
 obtain ⟨len,o1⟩:=Ys o e
 unfold AA;dsimp only
 repeat' split
 all_goals (refine t_st ?_;first | with_reducible assumption | ((with_reducible first | apply B5.pop | apply B5.call | apply B5.allPc | apply B5.allS | apply B5.fin);exact t_rest))
 all_goals first | exact Ca (by omega) s0 t0 | exact t_sr9 | exact t_sr
theorem Wj (h:E3 (M5 L sl th) x) (s0:0<=sl) (t0:0<=sl*th) (o:M5 L sl th x.f) (e:x.f.fn=22\/x.f.fn=23):E3 (M5 L sl th) (AC x):=by
 have r:=h.rest
 obtain ⟨len,o1⟩:=Ys o e
 unfold AC;dsimp only
 repeat' split
 all_goals (refine t_st ?_;first | with_reducible assumption | ((with_reducible first | apply B5.pop | apply B5.call | apply B5.allPc | apply B5.allS | apply B5.fin);exact t_rest))
 all_goals first | exact Ca (by omega) s0 t0 | exact t_sr9 | exact t_sr
theorem Tc (h:E3 (M5 L sl th) x) (s0:0<=sl) (t0:0<=sl*th) (o:M5 L sl th x.f) (e:x.f.fn=22\/x.f.fn=23):E3 (M5 L sl th) (X2 x):=by
 have r:=h.rest
 obtain ⟨len,o1⟩:=Ys o e
 unfold X2 AS;dsimp only
 repeat' split
 all_goals (refine t_st ?_;first | with_reducible assumption | ((with_reducible first | apply B5.pop | apply B5.call | apply B5.allPc | apply B5.allS | apply B5.fin);exact t_rest))
 all_goals first | exact Ca (by omega) s0 t0 | exact t_sr9 | exact t_sr
end
end
section
set_option maxHeartbeats 1000000
open Mod
section
variable {x:A9} {L sl th:Int}
theorem JW {y:A9} {l:List M6} (r:J1 sl th 20 l y):W3 sl th (X1 y):=by
 unfold X1;dsimp only
 split
 all_goals exact t_adj
theorem NF {y:A9} {l:List M6} {w:Int} (r:J1 sl th 20 l y):W3 sl th (Ce y w):=by
 unfold Ce;dsimp only
 repeat' split
 ·exact t_adj
 ·exact JW (l:=l) (by exact t_adr)
 ·exact t_adj
theorem JX {y:A9} (h:Ch y):Ch (X1 y):=by
 unfold X1;dsimp only
 split
 all_goals (with_reducible repeat' (first | assumption | constructor))
theorem NG {y:A9} {w:Int} (h:Ch y):Ch (Ce y w):=by
 unfold Ce;dsimp only
 repeat' split
 ·with_reducible repeat' (first | assumption | constructor)
 ·exact JX (by with_reducible repeat' (first | assumption | constructor))
 ·with_reducible repeat' (first | assumption | constructor)
theorem Sw6 (hs:0 < sl) (hne:x.t.fr≠[]) (h:W3 sl th x) (e:x.f.fn=20) (hp:3<=x.f.pc/\x.f.pc<=7):Nx sl th x (Ea x):=by
 have r:=h.r hne
 rw [e] at r
 unfold Ea;dsimp only
 repeat' split
 all_goals first
  | exact ⟨NF (l:=GP x) (by exact t_adr),.inl (Ch.act (NG (by (with_reducible repeat' constructor))))⟩
  | exact ⟨JW (l:=GP x) (by exact t_adr),.inl (Ch.act (JX (by (with_reducible repeat' constructor))))⟩
  | exact t_nx
  | omega
theorem Sw7 (hs:0 < sl) (hne:x.t.fr≠[]) (h:W3 sl th x) (e:x.f.fn=20) (hp:0<=x.f.pc/\x.f.pc<=8):Nx sl th x (Eb x):=by
 have r:=h.r hne
 rw [e] at r
 unfold Eb;dsimp only
 repeat' split
 all_goals first
  | exact Sw6 hs hne h e (by omega)
  | exact ⟨NF (l:=GP x) (by exact t_adr),.inl (Ch.act (NG (by (with_reducible repeat' constructor))))⟩
  | exact t_nx
theorem Sc3 (hsl:sl=x.m.p.slots) (hth:th=x.m.p.c.threads) (hs:0 < sl) (ha:0 < sl*th) (hne:x.t.fr≠[]) (h:W3 sl th x) (e:1<=x.f.fn/\x.f.fn<=6\/x.f.fn=20/\0<=x.f.pc/\x.f.pc<=8):Nx sl th x (BL x):=by
 unfold BL
 rw [if_neg hne]
 by_cases c:x.f.fn=20
 ·rw [if_pos c];exact Sw7 hs hne h c (by omega)
 ·rw [if_neg c];exact Gp hsl hth hs ha hne h (by omega)
theorem Sc4 (hs:0 < sl) (ha:0 < sl*th) (hne:x.t.fr≠[]) (h:W3 sl th x) (e:x.f.fn=21) (hp:0<=x.f.pc/\x.f.pc<=2):Nx sl th x (BM x):=by
 have r:=h.r hne
 rw [e] at r
 unfold BM;dsimp only
 repeat' split
 all_goals first | exact t_nxS | omega
theorem Sw8 (hs:0 < sl) (hne:x.t.fr≠[]) (h:W3 sl th x) (e:x.f.fn=21) (hp:3<=x.f.pc/\x.f.pc<=7):Nx sl th x (EK x):=by
 have r:=h.r hne
 rw [e] at r
 unfold EK;dsimp only
 repeat' split
 all_goals first | exact t_nx | omega
theorem Wk (hs:0 < sl) (hne:x.t.fr≠[]) (h:W3 sl th x) (e:x.f.fn=21) (hp:8<=x.f.pc/\x.f.pc<=11):Nx sl th x (Ai x):=by
 have r:=h.r hne
 rw [e] at r
 unfold Ai;dsimp only
 repeat' split
 all_goals first | exact t_nx | omega
theorem Wl (hs:0 < sl) (hne:x.t.fr≠[]) (h:W3 sl th x) (e:x.f.fn=21) (hp:12<=x.f.pc/\x.f.pc<=14):Nx sl th x (Aj x):=by
 have r:=h.r hne
 rw [e] at r
 unfold Aj;dsimp only
 repeat' split
 all_goals first | exact t_nx | omega
theorem Wm (hs:0 < sl) (hne:x.t.fr≠[]) (h:W3 sl th x) (e:x.f.fn=21) (hp:15<=x.f.pc/\x.f.pc<=17):Nx sl th x (Ak x):=by
 have r:=h.r hne
 rw [e] at r
 unfold Ak;dsimp only
 repeat' split
 ·exact t_nx
 ·exact t_nx
 ·exact t_nx
 ·have e9:x.f.pc=16:=by omega
  exact t_nx
theorem Sc5 (hs:0 < sl) (ha:0 < sl*th) (hne:x.t.fr≠[]) (h:W3 sl th x) (e:x.f.fn=21) (hp:0<=x.f.pc/\x.f.pc<=17):Nx sl th x (BN x):=by
 unfold BN
 repeat' split
 ·exact Sc4 hs ha hne h e (by omega)
 ·exact Sw8 hs hne h e (by omega)
 ·exact Wk hs hne h e (by omega)
 ·exact Wl hs hne h e (by omega)
 ·exact Wm hs hne h e (by omega)
theorem Td (hs:0 < sl) (hne:x.t.fr≠[]) (h:W3 sl th x) (e:x.f.fn=22) (hp:0<=x.f.pc/\x.f.pc<=3):Nx sl th x (Az x):=by
 have r:=h.r hne
 rw [e] at r
 unfold Az AS;dsimp only
 repeat' split
 all_goals first | exact t_nx | omega
theorem Te (hs:0 < sl) (hne:x.t.fr≠[]) (h:W3 sl th x) (e:x.f.fn=23) (hp:0<=x.f.pc/\x.f.pc<=3):Nx sl th x (Az x):=by
 have r:=h.r hne
 rw [e] at r
 unfold Az AS;dsimp only
 repeat' split
 all_goals first | exact t_nx | omega
theorem Sc6 (hs:0 < sl) (hne:x.t.fr≠[]) (h:W3 sl th x) (e:x.f.fn=22\/x.f.fn=23) (hp:0<=x.f.pc/\x.f.pc<=3):Nx sl th x (Az x):=by
 rcases e with e | e
 ·exact Td hs hne h e hp
 ·exact Te hs hne h e hp
theorem Tf (hs:0 < sl) (hne:x.t.fr≠[]) (h:W3 sl th x) (e:x.f.fn=22) (hp:4<=x.f.pc/\x.f.pc<=6):Nx sl th x (AA x):=by
 have r:=h.r hne
 rw [e] at r
 unfold AA;dsimp only
 repeat' split
 all_goals first | exact t_nx | omega
theorem Tg (hs:0 < sl) (hne:x.t.fr≠[]) (h:W3 sl th x) (e:x.f.fn=23) (hp:4<=x.f.pc/\x.f.pc<=6):Nx sl th x (AA x):=by
 have r:=h.r hne
 rw [e] at r
 unfold AA;dsimp only
 repeat' split
 all_goals first | exact t_nx | omega
theorem Sc7 (hs:0 < sl) (hne:x.t.fr≠[]) (h:W3 sl th x) (e:x.f.fn=22\/x.f.fn=23) (hp:4<=x.f.pc/\x.f.pc<=6):Nx sl th x (AA x):=by
 rcases e with e | e
 ·exact Tf hs hne h e hp
 ·exact Tg hs hne h e hp
theorem Th (hs:0 < sl) (hne:x.t.fr≠[]) (h:W3 sl th x) (e:x.f.fn=22) (hp:7<=x.f.pc/\x.f.pc<=8):Nx sl th x (AC x):=by
 have r:=h.r hne
 rw [e] at r
 unfold AC;dsimp only
 repeat' split
 all_goals first | exact t_nx | omega
theorem Ti (hs:0 < sl) (hne:x.t.fr≠[]) (h:W3 sl th x) (e:x.f.fn=23) (hp:7<=x.f.pc/\x.f.pc<=8):Nx sl th x (AC x):=by
 have r:=h.r hne
 rw [e] at r
 unfold AC;dsimp only
 repeat' split
 all_goals first | exact t_nx | omega
theorem Sc8 (hs:0 < sl) (hne:x.t.fr≠[]) (h:W3 sl th x) (e:x.f.fn=22\/x.f.fn=23) (hp:7<=x.f.pc/\x.f.pc<=8):Nx sl th x (AC x):=by
 rcases e with e | e
 ·exact Th hs hne h e hp
 ·exact Ti hs hne h e hp
theorem PH (hs:0 < sl) (hne:x.t.fr≠[]) (h:W3 sl th x) (e:x.f.fn=22) (hp:9<=x.f.pc/\x.f.pc<=13):Nx sl th x (X2 x):=by
 have r:=h.r hne
 rw [e] at r
 unfold X2 AS;dsimp only
 repeat' split
 ·exact t_nx
 ·exact t_nx
 ·exact t_nx
 ·exact t_nx
 ·exact t_nx
 ·have e9:x.f.pc=13:=by omega
  exact t_nx
theorem PI (hs:0 < sl) (hne:x.t.fr≠[]) (h:W3 sl th x) (e:x.f.fn=23) (hp:9<=x.f.pc/\x.f.pc<=13):Nx sl th x (X2 x):=by
 have r:=h.r hne
 rw [e] at r
 unfold X2 AS;dsimp only
 repeat' split
 ·exact t_nx
 ·exact t_nx
 ·exact t_nx
 ·exact t_nx
 ·exact t_nx
 ·have e9:x.f.pc=13:=by omega
  exact t_nx
theorem Wn (hs:0 < sl) (hne:x.t.fr≠[]) (h:W3 sl th x) (e:x.f.fn=22\/x.f.fn=23) (hp:9<=x.f.pc/\x.f.pc<=13):Nx sl th x (X2 x):=by
 rcases e with e | e
 ·exact PH hs hne h e hp
 ·exact PI hs hne h e hp
theorem Sc9 (hs:0 < sl) (hne:x.t.fr≠[]) (h:W3 sl th x) (e:x.f.fn=22\/x.f.fn=23) (hp:0<=x.f.pc/\x.f.pc<=13):Nx sl th x (BO x):=by
 unfold BO
 repeat' split
 ·exact Sc6 hs hne h e (by omega)
 ·exact Sc7 hs hne h e (by omega)
 ·exact Sc8 hs hne h e (by omega)
 ·exact Wn hs hne h e (by omega)
theorem ST1 {f:M6} (o:M5 L sl th f) (hs:0 < sl):(1<=f.fn/\f.fn<=6\/f.fn=20/\0<=f.pc/\f.pc<=8)\/f.fn=21/\(0<=f.pc/\f.pc<=17\/f.pc=90)\/(f.fn=22\/f.fn=23)/\(0<=f.pc/\f.pc<=13\/f.pc=90):=by
 unfold M5 Z1 at o
 omega
theorem PJ (hsl:sl=x.m.p.slots) (hth:th=x.m.p.c.threads) (hs:0 < sl) (ha:0 < sl*th) (hne:x.t.fr≠[]) (h:W3 sl th x) (o:M5 L sl th x.f):Nx sl th x (R3 x):=by
 have o1:=ST1 o hs
 have r:=h.r hne
 unfold R3
 rw [if_neg hne]
 dsimp only
 split
 ·exact Sc3 hsl hth hs ha hne h (by omega)
 split
 ·rename_i c c9
  refine ⟨r.pop,.inr (J1.ltPop r hne c9 r hne ?_)⟩
  have c2:fA sl th x.f.fn 90=false:=by
   have:x.f.fn=21\/x.f.fn=22\/x.f.fn=23:=by omega
   rcases this with e | e | e <;> rw [e] <;> simp [fA]
  rw [c2]
  have:=(LK x.f.fn 90).1
  simp
  omega
 split
 ·exact Sc5 hs ha hne h (by assumption) (by omega)
 ·exact Sc9 hs hne h (by omega) (by omega)
end
end
section
open Mod
theorem Yu {n L:Int} (h:0<=F5 n/\F5 n < L) (hn:(F5 n).toNat≠0) (hL:L<=6):0<=F5 (Mod.u64 (n - 1))/\F5 (Mod.u64 (n - 1)) < L:=by
 unfold F5 Mod.u64 at *
 repeat' split
 all_goals (split at h <;> split at hn <;> omega)
theorem Yv {L:Int} (hL:1<=L/\L<=6):0<=F5 (Mod.u64 (L - 1))/\F5 (Mod.u64 (L - 1)) < L:=by
 unfold F5 Mod.u64
 split <;> omega
section
variable {x:A9} {L sl th:Int}
theorem Iz {f:M6} (len:f.r.length=10) (e:f.fn=20) (hp:0<=f.pc/\f.pc<=8) (hg:0<=F5 (f.g 1)/\F5 (f.g 1) < L):M5 L sl th f:=.inr ⟨len,.inr (.inr ⟨e,hp.1,hp.2,λ_=>hg⟩)⟩
structure SN2 (L:Int) (f:M6):Prop where
 len:f.r.length=10
 fn:f.fn=20
 g:0<=F5 (f.g 1)/\F5 (f.g 1) < L
theorem JY {y:A9} (hL:L<=6) (r:B5 (M5 L sl th) y) (o:SN2 L y.f):E3 (M5 L sl th) (X1 y):=by
 obtain ⟨len,e,g⟩:=o
 unfold X1;dsimp only
 split
 ·(refine t_st ?_;first | with_reducible assumption | ((with_reducible first | apply B5.pop | apply B5.call | apply B5.allPc | apply B5.allS | apply B5.fin);exact t_rest))
 ·rename_i c
  (refine t_st ?_;first | with_reducible assumption | ((with_reducible first | apply B5.pop | apply B5.call | apply B5.allPc | apply B5.allS | apply B5.fin);exact t_rest))
  rw [CM]
  refine Iz (by simp only [R0,R1];assumption) (by simp only [Ao,Du];assumption) ⟨by show (0:Int)<=1;omega,by show (1:Int)<=8;omega⟩ ?_
  have e1:(((y.setPl (y.t.pred.set (F5 (y.f.g 1)).toNat (y.f.g 2)) (y.t.succ.set (F5 (y.f.g 1)).toNat (J2 (y.f.g 3))) (y.t.word.set (F5 (y.f.g 1)).toNat (y.f.g 3))).f.s 1 (Mod.u64 (y.f.g 1 - 1))).at 1).g 1=Mod.u64 (y.f.g 1 - 1):=by
   rw [CN]
   exact G5 (show (y.f).r.length=10 from len) (by decide) _
  rw [e1]
  exact Yu g c hL
theorem NH {y:A9} {w:Int} (hL:L<=6) (r:B5 (M5 L sl th) y) (o:SN2 L y.f):E3 (M5 L sl th) (Ce y w):=by
 obtain ⟨len,e,g⟩:=o
 have g2:((y.f.s 3 w)).g 1=y.f.g 1:=B0 _ (by decide) _
 unfold Ce;dsimp only
 repeat' split
 ·(refine t_st ?_;first | with_reducible assumption | ((with_reducible first | apply B5.pop | apply B5.call | apply B5.allPc | apply B5.allS | apply B5.fin);exact t_rest))
  rw [CM]
  exact Iz (by simp only [R0,R1];assumption) (by simp only [Ao,Du];assumption) ⟨by show (0:Int)<=8;omega,by show (8:Int)<=8;omega⟩ (by rw [CN,g2];exact g)
 ·exact JY hL (by exact t_rest) ⟨by rw [CM,R1];exact len,by rw [CM];exact e,by rw [CM,g2];exact g⟩
 ·(refine t_st ?_;first | with_reducible assumption | ((with_reducible first | apply B5.pop | apply B5.call | apply B5.allPc | apply B5.allS | apply B5.fin);exact t_rest))
  rw [CM]
  exact Iz (by simp only [R0,R1];assumption) (by simp only [Ao,Du];assumption) ⟨by show (0:Int)<=3;omega,by show (3:Int)<=8;omega⟩ (by rw [CN,g2];exact g)
theorem Sd0 (hL:L<=6) (h:E3 (M5 L sl th) x) (o:M5 L sl th x.f) (e:x.f.fn=20) (hp:x.f.pc≠0):E3 (M5 L sl th) (Ea x):=by
 have r:=h.rest
 obtain ⟨len,o1,o2,o3⟩:=Sw5 o e
 have g:=o3 hp
 unfold Ea;dsimp only
 repeat' split
 all_goals first
  | exact NH hL (by exact t_rest) ⟨len,e,g⟩
  | exact JY hL (by exact t_rest) ⟨len,e,g⟩
  | skip
 all_goals (refine t_st ?_;first | with_reducible assumption | ((with_reducible first | apply B5.pop | apply B5.call | apply B5.allPc | apply B5.allS | apply B5.fin);exact t_rest))
 all_goals exact t_sf
theorem Sd1 (hL:1<=L/\L<=6) (hl:L=x.m.p.c.level) (h:E3 (M5 L sl th) x) (o:M5 L sl th x.f) (e:x.f.fn=20):E3 (M5 L sl th) (Eb x):=by
 have r:=h.rest
 obtain ⟨len,o1,o2,o3⟩:=Sw5 o e
 unfold Eb;dsimp only
 split
 ·(refine t_st ?_;first | with_reducible assumption | ((with_reducible first | apply B5.pop | apply B5.call | apply B5.allPc | apply B5.allS | apply B5.fin);exact t_rest))
  rw [CM,CM]
  refine Iz (by simp only [R0,R1];assumption) (by simp only [Ao,Du];assumption) ⟨by show (0:Int)<=1;omega,by show (1:Int)<=8;omega⟩ ?_
  rw [CN,G5 (by rw [R1];exact len) (by decide),<- hl]
  exact Yv hL
 rename_i c
 have g:=o3 c
 repeat' split
 all_goals first
  | exact Sd0 hL.2 h o e c
  | exact NH hL.2 (by exact t_rest) ⟨len,e,g⟩
  | skip
 all_goals (refine t_st ?_;first | with_reducible assumption | ((with_reducible first | apply B5.pop | apply B5.call | apply B5.allPc | apply B5.allS | apply B5.fin);exact t_rest))
 ·exact t_sf
 ·refine .inr ⟨by rw [R0];exact len,.inr (.inr ⟨e,by show (0:Int)<=0;omega,by show (0:Int)<=8;omega,λhh=>absurd rfl hh⟩)⟩
theorem Wo (hL:1<=L/\L<=6) (hl:L=x.m.p.c.level) (hs:sl=x.m.p.slots) (ht:th=x.m.p.c.threads) (s0:0<=sl) (t0:0<=sl*th) (h:E3 (M5 L sl th) x) (o:M5 L sl th x.f) (e:¬ (21<=x.f.fn/\x.f.fn<=23)):E3 (M5 L sl th) (BL x):=by
 unfold BL
 split
 ·exact h
 split
 ·exact Sd1 hL hl h o (by assumption)
 ·exact Fo (λf hf=>.inl hf) h hs ht s0 t0 (SX3 o (by omega))
theorem Tj (m:Mac) (hl:1<=L/\L<=6):1<=Mod.u64 (m.lvl L).1/\Mod.u64 (m.lvl L).1<=L:=by
 have:=SJ3 m hl.1
 unfold Mod.u64
 omega
theorem Wp (h:E3 (M5 L sl th) x) (hL:L=x.m.p.c.level) (hl:1<=L/\L<=6) (s0:0<=sl) (t0:0<=sl*th) (o:M5 L sl th x.f) (e:x.f.fn=21) (hp:0<=x.f.pc/\x.f.pc<=2):E3 (M5 L sl th) (BM x):=by
 have r:=h.rest
 obtain ⟨len,o1,o2,o3,o4⟩:=LT o e
 unfold BM;dsimp only
 repeat' split
 ·(refine t_st ?_;first | with_reducible assumption | ((with_reducible first | apply B5.pop | apply B5.call | apply B5.allPc | apply B5.allS | apply B5.fin);exact t_rest))
  ·exact t_su
  ·exact Ca (by omega) s0 t0
 ·(refine t_st ?_;first | with_reducible assumption | ((with_reducible first | apply B5.pop | apply B5.call | apply B5.allPc | apply B5.allS | apply B5.fin);exact t_rest))
  exact t_su
 ·(refine t_st ?_;first | with_reducible assumption | ((with_reducible first | apply B5.pop | apply B5.call | apply B5.allPc | apply B5.allS | apply B5.fin);exact t_rest))
  ·exact t_su
  ·exact Ca (by omega) s0 t0
 ·(refine t_st ?_;first | with_reducible assumption | ((with_reducible first | apply B5.pop | apply B5.call | apply B5.allPc | apply B5.allS | apply B5.fin);exact t_rest))
  ·exact t_su
  ·exact Ca (by omega) s0 t0
 ·refine B5.allPc (B5.s (B5.m (by exact t_rest))) ?_
  rw [CM]
  have ef:∀m:Mac,(⟨m,((x.add 3 1).2.s 4 (R5 (u32 (x.f.g 0)) (u32 (x.add 3 1).1))).t,((x.add 3 1).2.s 4 (R5 (u32 (x.f.g 0)) (u32 (x.add 3 1).1))).id⟩ : A9).f=x.f.s 4 (R5 (u32 (x.f.g 0)) (u32 (x.add 3 1).1)):=λm=>by
   show ((x.add 3 1).2.s 4 (R5 (u32 (x.f.g 0)) (u32 (x.add 3 1).1))).f=_
   rw [CM]
   rfl
  rw [ef]
  have hv:=Tj ((x.add 3 1).2.s 4 (R5 (u32 (x.f.g 0)) (u32 (x.add 3 1).1))).m hl
  have ep:((x.add 3 1).2.s 4 (R5 (u32 (x.f.g 0)) (u32 (x.add 3 1).1))).m.p.c.level=L:=by rw [hL];exact congrArg (λp:Pl=>p.c.level) (St.fix (St.s (St.add (St.refl x)):St 2 x ((x.add 3 1).2.s 4 (R5 (u32 (x.f.g 0)) (u32 (x.add 3 1).1))))).p
  rw [ep]
  generalize Mod.u64 (((x.add 3 1).2.s 4 (R5 (u32 (x.f.g 0)) (u32 (x.add 3 1).1))).m.lvl L).1=v at *
  refine .inr ⟨by simp only [R0,R1];exact len,.inl ⟨e,.inl ⟨by show (0:Int)<=3;omega,by show (3:Int)<=17;omega⟩,λ_ _=>?_,λhh=>?_,λhh=>?_⟩⟩
  ·rw [CN,G5 (by rw [R1];exact len) (by decide)]
   exact hv
  ·simp only [BY] at hh;omega
  ·simp only [BY] at hh;omega
 ·exact h
theorem Wq (h:E3 (M5 L sl th) x) (hL:L=x.m.p.c.level) (hl:1<=L/\L<=6) (s0:0<=sl) (t0:0<=sl*th) (o:M5 L sl th x.f) (e:x.f.fn=21) (h9:x.f.pc≠90):E3 (M5 L sl th) (BN x):=by
 obtain ⟨len,o1,o2,o3,o4⟩:=LT o e
 unfold BN
 repeat' split
 ·exact Wp h hL hl s0 t0 o e (by omega)
 ·exact Sc2 h hL hl s0 t0 o e (by omega)
 ·exact Tb h hL hl s0 t0 o e (by omega)
 ·exact Ta h hL hl s0 t0 o e (by omega)
 ·exact SZ h hL hl s0 t0 o e
theorem Wr (h:E3 (M5 L sl th) x) (s0:0<=sl) (t0:0<=sl*th) (o:M5 L sl th x.f) (e:x.f.fn=22\/x.f.fn=23):E3 (M5 L sl th) (BO x):=by
 unfold BO
 repeat' split
 ·exact Wh h s0 t0 o e
 ·exact Wi h s0 t0 o e
 ·exact Wj h s0 t0 o e
 ·exact Tc h s0 t0 o e
theorem ML (h:E3 (M5 L sl th) x) (hL:L=x.m.p.c.level) (hl:1<=L/\L<=6) (hs:sl=x.m.p.slots) (ht:th=x.m.p.c.threads) (s0:0<=sl) (t0:0<=sl*th) (hne:x.t.fr≠[]):E3 (M5 L sl th) (R3 x):=by
 have r:=h.rest
 have o:=h.top hne
 unfold R3
 rw [if_neg hne]
 dsimp only
 split
 ·exact Wo hl hL hs ht s0 t0 h o (by omega)
 split
 ·(refine t_st ?_;first | with_reducible assumption | ((with_reducible first | apply B5.pop | apply B5.call | apply B5.allPc | apply B5.allS | apply B5.fin);exact t_rest))
 split
 ·exact Wq h hL hl s0 t0 o (by assumption) (by assumption)
 ·exact Wr h s0 t0 o (by omega)
end
end
section
open Mod
theorem CQ {c:Mod.Cf} (h:Fv c=true):0 < (D5 c).slots/\0 < (D5 c).slots*c.threads/\(D5 c).slots*c.threads<=84/\(D5 c).slots<=14/\1<=c.level/\c.level<=6:=by
 have B:=Be h
 have h1:2<=(D5 c).slots/\(D5 c).slots<=14:=B.sl
 have h2:1<=c.threads/\c.threads<=6:=B.th
 have h3:1<=c.level/\c.level<=6:=B.lv
 refine ⟨by omega,Int.mul_pos (by omega) (by omega),?_,h1.2,h3.1,h3.2⟩
 exact Int.le_trans (Int.mul_le_mul h1.2 h2.2 (by omega) (by omega)) (by decide)
theorem FA.ok {Q:Mod.Cf->M6->Prop} {c:Mod.Cf} {x:A9} {B:Nat} (h:FA Q c x B) (hB:B < 200000000) (hid:0<=x.id/\x.id<=6) (hp:0<=x.f.pc/\x.f.pc<=100):Ok x:=by
 have hP:x.m.mm.st.toNat+x.m.used.toNat+x.t.retired.length+x.t.found.length+x.t.fr.length<=B:=h.P
 exact ⟨by omega,by omega,by omega,by omega,by omega,⟨by omega,by omega⟩,hp⟩
theorem Sw9 {sl th:Int} {f:M6} (h:Z1 sl th f) (h1:0<=sl/\sl<=14) (h2:sl*th<=84):0<=f.pc/\f.pc<=100:=by
 unfold Z1 at h
 omega
def SuQ (c:Mod.Cf) (f:M6):Prop:=M5 c.level (D5 c).slots c.threads f
def SuW (x:A9):Prop:=Ok x/\FOk x/\(x.f.fn=21->SR7 x)
theorem PK:It R3 SuQ SuW 21 where
 st:=Px
 all c x hc hp hne h:=by
  obtain ⟨a1,a2,a3,a4,a5,a6⟩:=CQ hc
  exact ML h (by rw [hp];rfl) ⟨a5,a6⟩ (by rw [hp]) (by rw [hp];rfl) (by omega) (by omega) hne
 nx c x hc hp hne h a:=by
  obtain ⟨a1,a2,a3,a4,a5,a6⟩:=CQ hc
  exact PJ (by rw [hp]) (by rw [hp];rfl) a1 a2 hne a (h.top hne)
 w c x B hc h hB hne hid:=by
  obtain ⟨a1,a2,a3,a4,a5,a6⟩:=CQ hc
  have o:M5 c.level (D5 c).slots c.threads x.f:=h.q.top hne
  have hpr:=h.pr
  have hsu:=h.su
  have hwo:=h.wo
  refine ⟨h.ok hB hid ?_,λe hp=>?_,λe=>?_⟩
  ·rcases o with o | ⟨_,o⟩
   ·exact Sw9 o ⟨by omega,a4⟩ a3
   ·omega
  ·obtain ⟨len,o1,o2,o3⟩:=Sw5 o e
   have g:=o3 hp
   exact ⟨⟨g.1,by omega⟩,by omega,by omega,by omega⟩
  ·obtain ⟨len,o1,o2,o3,o4⟩:=LT o e
   refine ⟨⟨by omega,by omega,by omega,by omega⟩,λe2=>?_,λe2=>?_,λe2 e3=>?_⟩
   ·have g1:=o2 (by omega) (by omega)
    have g2:=o3 (by omega)
    omega
   ·have g1:=o2 (by omega) (by omega)
    omega
   ·have g1:=o2 (by omega) (by omega)
    have g2:=o3 (by omega)
    omega
 new c op l hc ho:=by
  obtain ⟨a1,a2,a3,a4,a5,a6⟩:=CQ hc
  exact Ca (by omega) (by omega) (by omega)
theorem Tk:DoC 64 R3 SuW:=λh M T tv x R K H hw k=>Lz H hw.1 hw.2.1 hw.2.2 k
end
section
open Mod
theorem f_m (x:A9) (m:Mac):({ x with m:=m }:A9).f=x.f:=rfl
theorem Fp (x:A9) (a b c:Int) (d:Bool):(x.swing a b c d).2.f=x.f:=rfl
theorem DC (x:A9) (a b c:Int) (d:Bool):(x.swingM a b c d).2.f=x.f:=rfl
theorem Fq (x:A9) (a b:Int):(x.guard a b).f=x.f:=rfl
def Aa (sl th:Int) (f:M6):Prop:=Z1 sl th f\/f.r.length=10/\(f.fn=10/\0<=f.pc/\f.pc<=1\/f.fn=11/\(0<=f.pc/\f.pc<=14\/f.pc=90)\/(f.fn=12\/f.fn=13)/\(0<=f.pc/\f.pc<=7\/f.pc=90)\/f.fn=14/\0<=f.pc/\f.pc<=7)
theorem DD {sl th fn:Int} {l:List Int} (h:1<=fn/\fn<=6\/10<=fn/\fn<=14) (hs:0<=sl) (ht:0<=sl*th):Aa sl th ⟨fn,0,Ad 10 l⟩:=by
 by_cases c:fn<=6
 ·exact .inl (LJ (by omega) hs ht)
 ·refine .inr ⟨Dc _ _,?_⟩
  dsimp only
  omega
theorem SX4 {sl th:Int} {f:M6} (h:Aa sl th f) (e:¬ (10<=f.fn/\f.fn<=14)):Z1 sl th f:=by
 unfold Aa at h
 rcases h with h | ⟨_,h⟩
 ·exact h
 ·omega
theorem Yw {sl th:Int} {f:M6} (h:Aa sl th f) (e:10<=f.fn/\f.fn<=14):f.r.length=10/\(f.fn=10/\0<=f.pc/\f.pc<=1\/f.fn=11/\(0<=f.pc/\f.pc<=14\/f.pc=90)\/(f.fn=12\/f.fn=13)/\(0<=f.pc/\f.pc<=7\/f.pc=90)\/f.fn=14/\0<=f.pc/\f.pc<=7):=by
 unfold Aa Z1 at h
 rcases h with h | h
 ·omega
 ·exact h
section
variable {x:A9} {sl th:Int}
theorem Sd2 (h:E3 (Aa sl th) x) (s0:0<=sl) (t0:0<=sl*th) (len:x.f.r.length=10) (e:x.f.fn=10):E3 (Aa sl th) (DT x):=by
 have r:=h.rest
 unfold DT;dsimp only
 repeat' split
 all_goals (refine t_st ?_;first | with_reducible assumption | ((with_reducible first | apply B5.pop | apply B5.call | apply B5.allPc | apply B5.allS | apply B5.fin);exact t_rest))
 all_goals first | (with_reducible apply DD;omega;assumption;assumption) | exact t_mo
theorem Sd3 (h:E3 (Aa sl th) x) (s0:0<=sl) (t0:0<=sl*th) (len:x.f.r.length=10) (e:x.f.fn=11):E3 (Aa sl th) (DU x):=by
 have r:=h.rest
 unfold DU;dsimp only
 repeat' split
 all_goals (refine t_st ?_;first | with_reducible assumption | ((with_reducible first | apply B5.pop | apply B5.call | apply B5.allPc | apply B5.allS | apply B5.fin);exact t_rest))
 all_goals first | (with_reducible apply DD;omega;assumption;assumption) | exact t_mo
theorem PL (h:E3 (Aa sl th) x) (s0:0<=sl) (t0:0<=sl*th) (len:x.f.r.length=10) (e:x.f.fn=11):E3 (Aa sl th) (X0 x):=by
 have r:=h.rest
 unfold X0 EJ;dsimp only
 split
 ·refine B5.allPc (B5.s (B5.m (by exact t_rest))) ?_
  exact t_mo
 repeat' split
 all_goals first | (refine E3.push ?_ (DD (by omega) s0 t0)) | skip
 all_goals (refine t_st ?_;first | with_reducible assumption | ((with_reducible first | apply B5.pop | apply B5.call | apply B5.allPc | apply B5.allS | apply B5.fin);exact t_rest))
 all_goals first | (with_reducible apply DD;omega;assumption;assumption) | exact t_mo
theorem Sd4 (h:E3 (Aa sl th) x) (s0:0<=sl) (t0:0<=sl*th) (len:x.f.r.length=10) (e:x.f.fn=11):E3 (Aa sl th) (DV x):=by
 have r:=h.rest
 unfold DV EJ;dsimp only
 repeat' split
 all_goals (refine t_st ?_;first | with_reducible assumption | ((with_reducible first | apply B5.pop | apply B5.call | apply B5.allPc | apply B5.allS | apply B5.fin);exact t_rest))
 all_goals first | (with_reducible apply DD;omega;assumption;assumption) | exact t_mo
theorem Sx0 (h:E3 (Aa sl th) x) (s0:0<=sl) (t0:0<=sl*th) (len:x.f.r.length=10) (e:x.f.fn=11):E3 (Aa sl th) (Ii x):=by
 have r:=h.rest
 unfold Ii GW;dsimp only
 repeat' split
 all_goals (refine t_st ?_;first | with_reducible assumption | ((with_reducible first | apply B5.pop | apply B5.call | apply B5.allPc | apply B5.allS | apply B5.fin);exact t_rest))
 all_goals first | (with_reducible apply DD;omega;assumption;assumption) | with_reducible exact B5.m r | exact t_mo
theorem Sd5 (h:E3 (Aa sl th) x) (s0:0<=sl) (t0:0<=sl*th) (len:x.f.r.length=10) (e:x.f.fn=11):E3 (Aa sl th) (DW x):=by
 unfold DW
 repeat' split
 ·exact Sd3 h s0 t0 len e
 ·exact PL h s0 t0 len e
 ·exact Sd4 h s0 t0 len e
 ·exact Sx0 h s0 t0 len e
theorem Sd6 (h:E3 (Aa sl th) x) (s0:0<=sl) (t0:0<=sl*th) (len:x.f.r.length=10) (e:x.f.fn=12\/x.f.fn=13):E3 (Aa sl th) (CS x):=by
 have r:=h.rest
 unfold CS;dsimp only
 repeat' split
 all_goals (refine t_st ?_;first | with_reducible assumption | ((with_reducible first | apply B5.pop | apply B5.call | apply B5.allPc | apply B5.allS | apply B5.fin);exact t_rest))
 all_goals first | (with_reducible apply DD;omega;assumption;assumption) | exact t_mo
theorem Sd7 (h:E3 (Aa sl th) x) (s0:0<=sl) (t0:0<=sl*th) (len:x.f.r.length=10) (e:x.f.fn=12\/x.f.fn=13):E3 (Aa sl th) (CT x):=by
 have r:=h.rest
 unfold CT;dsimp only
 repeat' split
 all_goals first | exact Sd6 h s0 t0 len e | skip
 all_goals (refine t_st ?_;first | with_reducible assumption | ((with_reducible first | apply B5.pop | apply B5.call | apply B5.allPc | apply B5.allS | apply B5.fin);exact t_rest))
 all_goals first | (with_reducible apply DD;omega;assumption;assumption) | exact t_mo
theorem NI (h:E3 (Aa sl th) x) (len:x.f.r.length=10) (e:x.f.fn=14):E3 (Aa sl th) (Dq x):=by
 have r:=h.rest
 unfold Dq;dsimp only
 repeat' split
 all_goals (refine t_st ?_;first | with_reducible assumption | ((with_reducible first | apply B5.pop | apply B5.call | apply B5.allPc | apply B5.allS | apply B5.fin);exact t_rest))
 all_goals exact t_mo
theorem Sd8 (h:E3 (Aa sl th) x) (s0:0<=sl) (t0:0<=sl*th) (len:x.f.r.length=10) (e:x.f.fn=14):E3 (Aa sl th) (DY x):=by
 have r:=h.rest
 unfold DY;dsimp only
 repeat' split
 all_goals first | exact NI h len e | skip
 all_goals (refine t_st ?_;first | with_reducible assumption | ((with_reducible first | apply B5.pop | apply B5.call | apply B5.allPc | apply B5.allS | apply B5.fin);exact t_rest))
 all_goals first | (with_reducible apply DD;omega;assumption;assumption) | exact t_mo
theorem Sd9 {i:Nat} {p:Int} (h:E3 (Aa sl th) x) (len:x.f.r.length=10) (e:x.f.fn=14):E3 (Aa sl th) (Ds x i p):=by
 have r:=h.rest
 unfold Ds;dsimp only
 split
 ·refine B5.allS (B5.m (by exact t_rest)) ?_
  exact t_mo
 ·refine E3.m ?_
  (refine t_st ?_;first | with_reducible assumption | ((with_reducible first | apply B5.pop | apply B5.call | apply B5.allPc | apply B5.allS | apply B5.fin);exact t_rest))
  exact t_mo
theorem Se0 (h:E3 (Aa sl th) x) (s0:0<=sl) (t0:0<=sl*th) (len:x.f.r.length=10) (e:x.f.fn=14):E3 (Aa sl th) (DZ x):=by
 have r:=h.rest
 unfold DZ Z0;dsimp only
 repeat' split
 all_goals first | exact Sd8 h s0 t0 len e | exact Sd9 h len e | exact NI h len e | skip
 all_goals (refine t_st ?_;first | with_reducible assumption | ((with_reducible first | apply B5.pop | apply B5.call | apply B5.allPc | apply B5.allS | apply B5.fin);exact t_rest))
 all_goals first | (with_reducible apply DD;omega;assumption;assumption) | exact t_mo
theorem Tl (h:E3 (Aa sl th) x) (hs:sl=x.m.p.slots) (ht:th=x.m.p.c.threads) (s0:0<=sl) (t0:0<=sl*th) (hne:x.t.fr≠[]):E3 (Aa sl th) (N7 x):=by
 have r:=h.rest
 have o:=h.top hne
 unfold N7
 rw [if_neg hne]
 dsimp only
 split
 ·(refine t_st ?_;first | with_reducible assumption | ((with_reducible first | apply B5.pop | apply B5.call | apply B5.allPc | apply B5.allS | apply B5.fin);exact t_rest))
 split
 ·exact Sd2 h s0 t0 (Yw o (by omega)).1 (by assumption)
 split
 ·exact Sd5 h s0 t0 (Yw o (by omega)).1 (by assumption)
 split
 ·exact Sd7 h s0 t0 (Yw o (by omega)).1 (by assumption)
 split
 ·exact Se0 h s0 t0 (Yw o (by omega)).1 (by assumption)
 ·exact Fo (λf hf=>.inl hf) h hs ht s0 t0 (SX4 o (by omega))
theorem Sx1 (hs:0 < sl) (ha:0 < sl*th) (hne:x.t.fr≠[]) (h:W3 sl th x) (e:x.f.fn=10) (hp:0<=x.f.pc/\x.f.pc<=1):Nx sl th x (DT x):=by
 have r:=h.r hne
 rw [e] at r
 unfold DT;dsimp only
 split
 ·exact t_nx
 have e1:x.f.pc=1:=by omega
 split
 all_goals exact t_nx
theorem Sx2 (hs:0 < sl) (ha:0 < sl*th) (hne:x.t.fr≠[]) (h:W3 sl th x) (e:x.f.fn=11) (hp:0<=x.f.pc/\x.f.pc<=3):Nx sl th x (DU x):=by
 have r:=h.r hne
 rw [e] at r
 unfold DU;dsimp only
 repeat' split
 all_goals exact t_nxS
theorem Tm (hs:0 < sl) (ha:0 < sl*th) (hne:x.t.fr≠[]) (h:W3 sl th x) (e:x.f.fn=11) (hp:4<=x.f.pc/\x.f.pc<=7):Nx sl th x (X0 x):=by
 have r:=h.r hne
 rw [e] at r
 unfold X0 EJ;dsimp only
 split
 ·exact t_nxS
 split
 ·exact t_nx
 split
 ·split
  ·exact t_nx
  ·split
   all_goals exact t_nx
 have e1:x.f.pc=7:=by omega
 split
 ·have ra:J1 sl th 4 (((((x.s 7 1).s 8 0).s 9 0).pc 90).f :: GP x) (x.fin 1 0 0):=by
   have h1:W3 sl th (((((x.s 7 1).s 8 0).s 9 0).pc 90)):=(r.s.s.s).allPc
   have h2:=h1.a
   rw [show (((((x.s 7 1).s 8 0).s 9 0).pc 90)).t.fr.reverse=(((((x.s 7 1).s 8 0).s 9 0).pc 90)).f :: GP (((((x.s 7 1).s 8 0).s 9 0).pc 90)) from Gn (Bn _ _)] at h2
   have er:GP ((((x.s 7 1).s 8 0).s 9 0).pc 90)=GP x:=(r.s.s.s).pc.e
   have er2:GP (x.fin 1 0 0)=(((((x.s 7 1).s 8 0).s 9 0).pc 90).f :: GP x):=by
    show ((((((x.s 7 1).s 8 0).s 9 0).pc 90).t.fr ++ [(⟨4,0,Ad 10 []⟩ : M6)]).dropLast).reverse=_
    rw [List.dropLast_concat,show (((((x.s 7 1).s 8 0).s 9 0).pc 90)).t.fr.reverse=(((((x.s 7 1).s 8 0).s 9 0).pc 90)).f :: GP (((((x.s 7 1).s 8 0).s 9 0).pc 90)) from Gn (Bn _ _)]
    exact congrArg _ er
   refine ⟨?_,er2,?_,?_⟩
   ·show ((((((x.s 7 1).s 8 0).s 9 0).pc 90).t.fr ++ [(⟨4,0,Ad 10 []⟩ : M6)]).getLast?.getD dfF).fn=4
    simp
   ·refine .inr ?_
    rw [(r.s.s.s).pc.f]
    decide
   ·rw [<- er];exact h2
  have hn:(x.fin 1 0 0).t.fr≠[]:=by
   show (((((x.s 7 1).s 8 0).s 9 0).pc 90).t.fr ++ [_])≠[]
   simp
  refine ⟨W3.push (ra.all hn) ?_,.inr ?_⟩
  ·rw [Gn hn]
   refine .inl ?_
   show fA sl th (x.fin 1 0 0).f.fn (x.fin 1 0 0).f.pc=true
   rw [ra.f]
   have:(x.fin 1 0 0).f.pc=0:=by
    show ((((((x.s 7 1).s 8 0).s 9 0).pc 90).t.fr ++ [(⟨4,0,Ad 10 []⟩ : M6)]).getLast?.getD dfF).pc=0
    simp
   rw [this]
   simp [fA,hs]
  ·have hpf:(x.fin 1 0 0).f.pc=0:=by
    show ((((((x.s 7 1).s 8 0).s 9 0).pc 90).t.fr ++ [(⟨4,0,Ad 10 []⟩ : M6)]).getLast?.getD dfF).pc=0
    simp
   rw [Kv,ra.mu hn hpf,r.mu hne e1]
   simp [fW,fA,hs]
 ·exact t_nx
theorem Sx3 (hs:0 < sl) (ha:0 < sl*th) (hne:x.t.fr≠[]) (h:W3 sl th x) (e:x.f.fn=11) (hp:8<=x.f.pc/\x.f.pc<=9):Nx sl th x (DV x):=by
 have r:=h.r hne
 rw [e] at r
 unfold DV EJ;dsimp only
 split
 ·split
  all_goals exact t_nx
 have e1:x.f.pc=9:=by omega
 exact t_nx
theorem SJ4 (hs:0 < sl) (ha:0 < sl*th) (hne:x.t.fr≠[]) (h:W3 sl th x) (e:x.f.fn=11) (hp:10<=x.f.pc/\x.f.pc<=14):Nx sl th x (Ii x):=by
 have r:=h.r hne
 rw [e] at r
 unfold Ii GW;dsimp only
 repeat' split
 all_goals first | exact t_nxS | omega | contradiction
theorem Sx4 (hs:0 < sl) (ha:0 < sl*th) (hne:x.t.fr≠[]) (h:W3 sl th x) (e:x.f.fn=11) (hp:0<=x.f.pc/\x.f.pc<=14):Nx sl th x (DW x):=by
 unfold DW
 repeat' split
 ·exact Sx2 hs ha hne h e (by omega)
 ·exact Tm hs ha hne h e (by omega)
 ·exact Sx3 hs ha hne h e (by omega)
 ·exact SJ4 hs ha hne h e (by omega)
theorem Ws (hs:0 < sl) (ha:0 < sl*th) (hne:x.t.fr≠[]) (h:W3 sl th x) (e:x.f.fn=12) (hp:0<=x.f.pc/\x.f.pc<=3):Nx sl th x (CS x):=by
 have r:=h.r hne
 rw [e] at r
 unfold CS;dsimp only
 repeat' split
 all_goals first | exact t_nxS | omega
theorem Wt (hs:0 < sl) (ha:0 < sl*th) (hne:x.t.fr≠[]) (h:W3 sl th x) (e:x.f.fn=13) (hp:0<=x.f.pc/\x.f.pc<=3):Nx sl th x (CS x):=by
 have r:=h.r hne
 rw [e] at r
 unfold CS;dsimp only
 repeat' split
 all_goals first | exact t_nxS | omega
theorem Wu (hs:0 < sl) (ha:0 < sl*th) (hne:x.t.fr≠[]) (h:W3 sl th x) (e:x.f.fn=12) (hp:0<=x.f.pc/\x.f.pc<=7):Nx sl th x (CT x):=by
 have r:=h.r hne
 rw [e] at r
 unfold CT;dsimp only
 repeat' split
 all_goals first | exact t_nxS | exact Ws hs ha hne h e (by omega)
theorem Wv (hs:0 < sl) (ha:0 < sl*th) (hne:x.t.fr≠[]) (h:W3 sl th x) (e:x.f.fn=13) (hp:0<=x.f.pc/\x.f.pc<=7):Nx sl th x (CT x):=by
 have r:=h.r hne
 rw [e] at r
 unfold CT;dsimp only
 repeat' split
 all_goals first | exact t_nxS | exact Wt hs ha hne h e (by omega)
theorem Tn (hs:0 < sl) (hne:x.t.fr≠[]) (h:W3 sl th x) (e:x.f.fn=14):Nx sl th x (Dq x):=by
 have r:=h.r hne
 rw [e] at r
 unfold Dq;dsimp only
 repeat' split
 all_goals exact t_nx
theorem Sx5 (hs:0 < sl) (ha:0 < sl*th) (hne:x.t.fr≠[]) (h:W3 sl th x) (e:x.f.fn=14) (hp:0<=x.f.pc/\x.f.pc<=3):Nx sl th x (DY x):=by
 have r:=h.r hne
 rw [e] at r
 unfold DY;dsimp only
 repeat' split
 all_goals first | exact t_nx | exact Tn hs hne h e | omega
theorem Sx6 {i:Nat} {p:Int} (hs:0 < sl) (ha:0 < sl*th) (hne:x.t.fr≠[]) (h:W3 sl th x) (e:x.f.fn=14):Nx sl th x (Ds x i p):=by
 have r:=h.r hne
 rw [e] at r
 unfold Ds;dsimp only
 split
 all_goals exact t_nxS
theorem Sx7 (hs:0 < sl) (ha:0 < sl*th) (hne:x.t.fr≠[]) (h:W3 sl th x) (e:x.f.fn=14) (hp:0<=x.f.pc/\x.f.pc<=7):Nx sl th x (DZ x):=by
 have r:=h.r hne
 rw [e] at r
 unfold DZ Z0;dsimp only
 repeat' split
 all_goals first | exact t_nx | exact Sx5 hs ha hne h e (by omega) | exact Sx6 hs ha hne h e | exact Tn hs hne h e | contradiction
theorem ST2 {f:M6} (o:Aa sl th f):(1<=f.fn/\f.fn<=6)\/f.fn=10/\0<=f.pc/\f.pc<=1\/f.fn=11/\(0<=f.pc/\f.pc<=14\/f.pc=90)\/(f.fn=12\/f.fn=13)/\(0<=f.pc/\f.pc<=7\/f.pc=90)\/f.fn=14/\0<=f.pc/\f.pc<=7:=by
 unfold Aa Z1 at o
 omega
theorem Ww (hsl:sl=x.m.p.slots) (hth:th=x.m.p.c.threads) (hs:0 < sl) (ha:0 < sl*th) (hne:x.t.fr≠[]) (h:W3 sl th x) (o:Aa sl th x.f):Nx sl th x (N7 x):=by
 have o1:=ST2 o
 have r:=h.r hne
 unfold N7
 rw [if_neg hne]
 dsimp only
 split
 ·rename_i c
  refine ⟨r.pop,.inr (J1.ltPop r hne c.1 r hne ?_)⟩
  have c2:fA sl th x.f.fn 90=false:=by
   have:x.f.fn=11\/x.f.fn=12\/x.f.fn=13:=by omega
   rcases this with e | e | e <;> rw [e] <;> simp [fA]
  rw [c2]
  have:=(LK x.f.fn 90).1
  simp
  omega
 split
 ·exact Sx1 hs ha hne h (by assumption) (by omega)
 split
 ·exact Sx4 hs ha hne h (by assumption) (by omega)
 split
 ·rename_i c
  rcases c with c | c
  ·exact Wu hs ha hne h c (by omega)
  ·exact Wv hs ha hne h c (by omega)
 split
 ·exact Sx7 hs ha hne h (by assumption) (by omega)
 ·exact Gp hsl hth hs ha hne h (by omega)
end
def MoQ (c:Mod.Cf) (f:M6):Prop:=Aa (D5 c).slots c.threads f
theorem LU:It N7 MoQ Ok 11 where
 st:=VT
 all c x hc hp hne h:=by
  obtain ⟨a1,a2,a3,a4,a5,a6⟩:=CQ hc
  exact Tl h (by rw [hp]) (by rw [hp];rfl) (by omega) (by omega) hne
 nx c x hc hp hne h a:=by
  obtain ⟨a1,a2,a3,a4,a5,a6⟩:=CQ hc
  exact Ww (by rw [hp]) (by rw [hp];rfl) a1 a2 hne a (h.top hne)
 w c x B hc h hB hne hid:=by
  obtain ⟨a1,a2,a3,a4,a5,a6⟩:=CQ hc
  have o:Aa (D5 c).slots c.threads x.f:=h.q.top hne
  refine h.ok hB hid ?_
  rcases o with o | ⟨_,o⟩
  ·exact Sw9 o ⟨by omega,a4⟩ a3
  ·omega
 new c op l hc ho:=by
  obtain ⟨a1,a2,a3,a4,a5,a6⟩:=CQ hc
  exact DD (by omega) (by omega) (by omega)
theorem NJ:DoC 63 N7 Ok:=λh M T tv x R K H hw k=>Po H hw k
end
section
open Mod
def N6 (L sl th:Int) (f:M6):Prop:=Z1 sl th f\/f.r.length=10/\(f.fn=31/\(0<=f.pc/\f.pc<=18\/f.pc=90)/\(3<=f.pc->f.pc<=16->1<=f.g 3/\f.g 3<=L)/\(12<=f.pc->f.pc<=15->f.g 5 < f.g 3) \/
 (f.fn=32\/f.fn=33)/\(0<=f.pc/\f.pc<=14\/f.pc=90)\/f.fn=34/\(0<=f.pc/\f.pc<=5\/f.pc=90)\/f.fn=35/\0<=f.pc/\f.pc<=2\/f.fn=36/\0<=f.pc/\f.pc<=6\/f.fn=30/\0<=f.pc/\f.pc<=6/\(f.pc≠0->0<=F5 (f.g 2)/\F5 (f.g 2) < L))
theorem Ba {L sl th fn:Int} {l:List Int} (h:1<=fn/\fn<=6\/30<=fn/\fn<=36) (hs:0<=sl) (ht:0<=sl*th):N6 L sl th ⟨fn,0,Ad 10 l⟩:=by
 by_cases c:fn<=6
 ·exact .inl (LJ (by omega) hs ht)
 ·refine .inr ⟨Dc _ _,?_⟩
  dsimp only
  omega
theorem SX5 {L sl th:Int} {f:M6} (h:N6 L sl th f) (e:¬ (30<=f.fn/\f.fn<=36)):Z1 sl th f:=by
 unfold N6 at h
 rcases h with h | ⟨_,h⟩
 ·exact h
 ·omega
theorem Sx8 {L sl th:Int} {f:M6} (h:N6 L sl th f) (e:30<=f.fn/\f.fn<=36):f.r.length=10/\(f.fn=31/\(0<=f.pc/\f.pc<=18\/f.pc=90)/\(3<=f.pc->f.pc<=16->1<=f.g 3/\f.g 3<=L)/\(12<=f.pc->f.pc<=15->f.g 5 < f.g 3) \/
 (f.fn=32\/f.fn=33)/\(0<=f.pc/\f.pc<=14\/f.pc=90)\/f.fn=34/\(0<=f.pc/\f.pc<=5\/f.pc=90)\/f.fn=35/\0<=f.pc/\f.pc<=2\/f.fn=36/\0<=f.pc/\f.pc<=6\/f.fn=30/\0<=f.pc/\f.pc<=6/\(f.pc≠0->0<=F5 (f.g 2)/\F5 (f.g 2) < L)):=by
 unfold N6 Z1 at h
 rcases h with h | h
 ·omega
 ·exact h
theorem SN3 {L sl th:Int} {f:M6} (h:N6 L sl th f) (e:f.fn=31):f.r.length=10/\(0<=f.pc/\f.pc<=18\/f.pc=90)/\(3<=f.pc->f.pc<=16->1<=f.g 3/\f.g 3<=L)/\(12<=f.pc->f.pc<=15->f.g 5 < f.g 3):=by
 have h:=Sx8 h (by omega)
 refine ⟨h.1,?_⟩
 rcases h.2 with h1 | h1 | h1 | h1 | h1 | h1
 ·exact h1.2
 all_goals omega
theorem SN4 {L sl th:Int} {f:M6} (h:N6 L sl th f) (e:f.fn=30):f.r.length=10/\0<=f.pc/\f.pc<=6/\(f.pc≠0->0<=F5 (f.g 2)/\F5 (f.g 2) < L):=by
 have h:=Sx8 h (by omega)
 refine ⟨h.1,?_⟩
 rcases h.2 with h1 | h1 | h1 | h1 | h1 | h1
 ·omega
 ·omega
 ·omega
 ·omega
 ·omega
 ·exact h1.2
section
variable {x:A9} {L sl th:Int}
theorem SJ5 {f:M6} (len:f.r.length=10) (e:f.fn=31) (hp:0<=f.pc/\f.pc<=18\/f.pc=90) (h3:3<=f.pc->f.pc<=16->1<=f.g 3/\f.g 3<=L) (h5:12<=f.pc->f.pc<=15->f.g 5 < f.g 3):N6 L sl th f:=.inr ⟨len,.inl ⟨e,hp,h3,h5⟩⟩
theorem SJ6 {f:M6} (len:f.r.length=10) (e:f.fn=32\/f.fn=33) (hp:0<=f.pc/\f.pc<=14\/f.pc=90):N6 L sl th f:=.inr ⟨len,.inr (.inl ⟨e,hp⟩)⟩
theorem SJ7 {f:M6} (len:f.r.length=10) (e:f.fn=34) (hp:0<=f.pc/\f.pc<=5\/f.pc=90):N6 L sl th f:=.inr ⟨len,.inr (.inr (.inl ⟨e,hp⟩))⟩
theorem SJ8 {f:M6} (len:f.r.length=10) (e:f.fn=35) (hp:0<=f.pc/\f.pc<=2):N6 L sl th f:=.inr ⟨len,.inr (.inr (.inr (.inl ⟨e,hp.1,hp.2⟩)))⟩
theorem SJ9 {f:M6} (len:f.r.length=10) (e:f.fn=36) (hp:0<=f.pc/\f.pc<=6):N6 L sl th f:=.inr ⟨len,.inr (.inr (.inr (.inr (.inl ⟨e,hp.1,hp.2⟩))))⟩
structure Yx (L:Int) (f:M6):Prop where
 len:f.r.length=10
 fn:f.fn=30
 g:0<=F5 (f.g 2)/\F5 (f.g 2) < L
theorem Kx {f:M6} (len:f.r.length=10) (e:f.fn=30) (hp:0<=f.pc/\f.pc<=6) (hg:0<=F5 (f.g 2)/\F5 (f.g 2) < L):N6 L sl th f:=.inr ⟨len,.inr (.inr (.inr (.inr (.inr ⟨e,hp.1,hp.2,λ_=>hg⟩))))⟩
theorem JZ {y:A9} (hL:L<=6) (r:B5 (N6 L sl th) y) (o:Yx L y.f):E3 (N6 L sl th) (W0 y):=by
 obtain ⟨len,e,g⟩:=o
 unfold W0;dsimp only
 split
 ·(refine t_st ?_;first | with_reducible assumption | ((with_reducible first | apply B5.pop | apply B5.call | apply B5.allPc | apply B5.allS | apply B5.fin);exact t_rest))
 ·rename_i c
  (refine t_st ?_;first | with_reducible assumption | ((with_reducible first | apply B5.pop | apply B5.call | apply B5.allPc | apply B5.allS | apply B5.fin);exact t_rest))
  rw [CM]
  refine Kx (by simp only [R0,R1];assumption) (by simp only [Ao,Du];assumption) ⟨by show (0:Int)<=1;omega,by show (1:Int)<=6;omega⟩ ?_
  have e1:(((y.setPl (y.t.pred.set (F5 (y.f.g 2)).toNat (y.f.g 3)) (y.t.succ.set (F5 (y.f.g 2)).toNat (J2 (y.f.g 4))) (y.t.word.set (F5 (y.f.g 2)).toNat (y.f.g 4))).f.s 2 (Mod.u64 (y.f.g 2 - 1))).at 1).g 2=Mod.u64 (y.f.g 2 - 1):=by
   rw [CN]
   exact G5 (show (y.f).r.length=10 from len) (by decide) _
  rw [e1]
  exact Yu g c hL
theorem Ji {y:A9} (r:B5 (N6 L sl th) y) (o:Yx L y.f):E3 (N6 L sl th) (Cg y):=by
 obtain ⟨len,e,g⟩:=o
 unfold Cg
 (refine t_st ?_;first | with_reducible assumption | ((with_reducible first | apply B5.pop | apply B5.call | apply B5.allPc | apply B5.allS | apply B5.fin);exact t_rest))
 rw [CM]
 exact Kx (by simp only [R0,R1];assumption) (by simp only [Ao,Du];assumption) ⟨by show (0:Int)<=1;omega,by show (1:Int)<=6;omega⟩ (by rw [CN,B0 _ (by decide)];exact g)
theorem Wx (hL:L<=6) (r:B5 (N6 L sl th) x) (o:Yx L x.f):E3 (N6 L sl th) (BP x):=by
 obtain ⟨len,e,g⟩:=o
 unfold BP;dsimp only
 repeat' split
 ·(refine t_st ?_;first | with_reducible assumption | ((with_reducible first | apply B5.pop | apply B5.call | apply B5.allPc | apply B5.allS | apply B5.fin);exact t_rest))
  exact .inr ⟨by rw [R0];exact len,.inr (.inr (.inr (.inr (.inr ⟨e,by show (0:Int)<=0;omega,by show (0:Int)<=6;omega,λhh=>absurd rfl hh⟩))))⟩
 ·exact Ji (by exact t_rest) ⟨by rw [CM,R1];exact len,by rw [CM];exact e,by rw [CM,B0 _ (by decide)];exact g⟩
 ·(refine t_st ?_;first | with_reducible assumption | ((with_reducible first | apply B5.pop | apply B5.call | apply B5.allPc | apply B5.allS | apply B5.fin);exact t_rest))
  exact t_sg
 ·(refine t_st ?_;first | with_reducible assumption | ((with_reducible first | apply B5.pop | apply B5.call | apply B5.allPc | apply B5.allS | apply B5.fin);exact t_rest))
  exact t_sg
theorem Se1 (hL:1<=L/\L<=6) (hl:L=x.m.p.c.level) (h:E3 (N6 L sl th) x) (o:N6 L sl th x.f) (e:x.f.fn=30):E3 (N6 L sl th) (Ec x):=by
 have r:=h.rest
 obtain ⟨len,o1,o2,o3⟩:=SN4 o e
 unfold Ec;dsimp only
 split
 ·(refine t_st ?_;first | with_reducible assumption | ((with_reducible first | apply B5.pop | apply B5.call | apply B5.allPc | apply B5.allS | apply B5.fin);exact t_rest))
  rw [CM,CM,CM,CM]
  refine Kx (by simp only [R0,R1];assumption) (by simp only [Ao,Du];assumption) ⟨by show (0:Int)<=1;omega,by show (1:Int)<=6;omega⟩ ?_
  rw [CN,G5 (by rw [R1,R1,R1];exact len) (by decide)]
  have e2:(x.load 1).2.m.p.c.level=L:=by rw [hl];exact congrArg (λp:Pl=>p.c.level) (St.fix (St.load (St.refl x):St 1 x (x.load 1).2)).p
  first | rw [<- hl] | rw [e2] | skip
  exact Yv hL
 rename_i c
 have g:=o3 c
 have o9:Yx L x.f:=⟨len,e,g⟩
 repeat' split
 all_goals first
  | exact Wx hL.2 r o9
  | exact JZ hL.2 (by exact t_rest) ⟨by rw [AY,CM];exact (R1 _ _ _).trans len,by rw [AY,CM];exact e,by rw [AY,CM,CN,B0 _ (by decide)];exact g⟩
  | exact JZ hL.2 (by exact t_rest) ⟨len,e,g⟩
  | exact Ji (by exact t_rest) ⟨len,e,g⟩
  | exact Ji (by exact t_rest) ⟨by rw [X9,AY];exact len,by rw [X9,AY];exact e,by rw [X9,AY];exact g⟩
  | skip
 all_goals (refine t_st ?_;first | with_reducible assumption | ((with_reducible first | apply B5.pop | apply B5.call | apply B5.allPc | apply B5.allS | apply B5.fin);exact t_rest))
 all_goals exact t_sg
theorem Wy (h:E3 (N6 L sl th) x) (s0:0<=sl) (t0:0<=sl*th) (len:x.f.r.length=10) (e:x.f.fn=34):E3 (N6 L sl th) (BQ x):=by
 have r:=h.rest
 unfold BQ;dsimp only
 repeat' split
 all_goals (refine t_st ?_;first | with_reducible assumption | ((with_reducible first | apply B5.pop | apply B5.call | apply B5.allPc | apply B5.allS | apply B5.fin);exact t_rest))
 all_goals first | (with_reducible apply Ba;omega;assumption;assumption) | exact t_l34
theorem Wz (h:E3 (N6 L sl th) x) (s0:0<=sl) (t0:0<=sl*th) (len:x.f.r.length=10) (e:x.f.fn=35):E3 (N6 L sl th) (BR x):=by
 have r:=h.rest
 unfold BR;dsimp only
 repeat' split
 all_goals (refine t_st ?_;first | with_reducible assumption | ((with_reducible first | apply B5.pop | apply B5.call | apply B5.allPc | apply B5.allS | apply B5.fin);exact t_rest))
 all_goals first | (with_reducible apply Ba;omega;assumption;assumption) | exact t_l35
theorem WA (h:E3 (N6 L sl th) x) (s0:0<=sl) (t0:0<=sl*th) (len:x.f.r.length=10) (e:x.f.fn=36):E3 (N6 L sl th) (BS x):=by
 have r:=h.rest
 unfold BS AT;dsimp only
 repeat' split
 all_goals (refine t_st ?_;first | with_reducible assumption | ((with_reducible first | apply B5.pop | apply B5.call | apply B5.allPc | apply B5.allS | apply B5.fin);exact t_rest))
 all_goals first | (with_reducible apply Ba;omega;assumption;assumption) | exact t_l36
theorem WB (h:E3 (N6 L sl th) x) (s0:0<=sl) (t0:0<=sl*th) (len:x.f.r.length=10) (e:x.f.fn=36):E3 (N6 L sl th) (BT x):=by
 have r:=h.rest
 unfold BT AT;dsimp only
 repeat' split
 all_goals first | exact WA h s0 t0 len e | skip
 all_goals (refine t_st ?_;first | with_reducible assumption | ((with_reducible first | apply B5.pop | apply B5.call | apply B5.allPc | apply B5.allS | apply B5.fin);exact t_rest))
 all_goals first | (with_reducible apply Ba;omega;assumption;assumption) | exact t_l36
theorem Se2 (h:E3 (N6 L sl th) x) (s0:0<=sl) (t0:0<=sl*th) (len:x.f.r.length=10) (e:x.f.fn=31) (o1:0<=x.f.pc/\x.f.pc<=18\/x.f.pc=90) (o2:3<=x.f.pc->x.f.pc<=16->1<=x.f.g 3/\x.f.g 3<=L) (o3:12<=x.f.pc->x.f.pc<=15->x.f.g 5 < x.f.g 3) (hp:3<=x.f.pc/\x.f.pc<=6):E3 (N6 L sl th) (EL x):=by
 have r:=h.rest
 unfold EL;dsimp only
 repeat' split
 all_goals (refine t_st ?_;first | with_reducible assumption | ((with_reducible first | apply B5.pop | apply B5.call | apply B5.allPc | apply B5.allS | apply B5.fin);exact t_rest))
 all_goals first | (with_reducible apply Ba;omega;assumption;assumption) | exact t_l31
theorem To (h:E3 (N6 L sl th) x) (s0:0<=sl) (t0:0<=sl*th) (len:x.f.r.length=10) (e:x.f.fn=31) (o1:0<=x.f.pc/\x.f.pc<=18\/x.f.pc=90) (o2:3<=x.f.pc->x.f.pc<=16->1<=x.f.g 3/\x.f.g 3<=L) (o3:12<=x.f.pc->x.f.pc<=15->x.f.g 5 < x.f.g 3) (hp:7<=x.f.pc/\x.f.pc<=10):E3 (N6 L sl th) (Al x):=by
 have r:=h.rest
 unfold Al;dsimp only
 repeat' split
 all_goals first | exact h | (refine t_st ?_;first | with_reducible assumption | ((with_reducible first | apply B5.pop | apply B5.call | apply B5.allPc | apply B5.allS | apply B5.fin);exact t_rest)) | skip
 all_goals first | (with_reducible apply Ba;omega;assumption;assumption) | exact t_l31
theorem Tp (h:E3 (N6 L sl th) x) (s0:0<=sl) (t0:0<=sl*th) (len:x.f.r.length=10) (e:x.f.fn=31) (o1:0<=x.f.pc/\x.f.pc<=18\/x.f.pc=90) (o2:3<=x.f.pc->x.f.pc<=16->1<=x.f.g 3/\x.f.g 3<=L) (o3:12<=x.f.pc->x.f.pc<=15->x.f.g 5 < x.f.g 3) (hp:11<=x.f.pc/\x.f.pc<=14):E3 (N6 L sl th) (Am x):=by
 have r:=h.rest
 unfold Am;dsimp only
 repeat' split
 all_goals first | exact h | (refine t_st ?_;first | with_reducible assumption | ((with_reducible first | apply B5.pop | apply B5.call | apply B5.allPc | apply B5.allS | apply B5.fin);exact t_rest)) | skip
 all_goals first | (with_reducible apply Ba;omega;assumption;assumption) | exact t_l31
theorem WC (h:E3 (N6 L sl th) x) (s0:0<=sl) (t0:0<=sl*th) (len:x.f.r.length=10) (e:x.f.fn=31) (o1:0<=x.f.pc/\x.f.pc<=18\/x.f.pc=90) (o2:3<=x.f.pc->x.f.pc<=16->1<=x.f.g 3/\x.f.g 3<=L) (o3:12<=x.f.pc->x.f.pc<=15->x.f.g 5 < x.f.g 3) (hp:15<=x.f.pc/\x.f.pc<=18):E3 (N6 L sl th) (BW x):=by
 have r:=h.rest
 unfold BW;dsimp only
 repeat' split
 all_goals (refine t_st ?_;first | with_reducible assumption | ((with_reducible first | apply B5.pop | apply B5.call | apply B5.allPc | apply B5.allS | apply B5.fin);exact t_rest))
 all_goals first | (with_reducible apply Ba;omega;assumption;assumption) | exact t_l31
theorem WD (h:E3 (N6 L sl th) x) (hL:L=x.m.p.c.level) (hl:1<=L/\L<=6) (s0:0<=sl) (t0:0<=sl*th) (len:x.f.r.length=10) (e:x.f.fn=31) (hp:0<=x.f.pc/\x.f.pc<=2):E3 (N6 L sl th) (BV x):=by
 have r:=h.rest
 unfold BV;dsimp only
 repeat' split
 ·(refine t_st ?_;first | with_reducible assumption | ((with_reducible first | apply B5.pop | apply B5.call | apply B5.allPc | apply B5.allS | apply B5.fin);exact t_rest))
  ·exact t_l31
  ·exact Ba (by omega) s0 t0
 ·(refine t_st ?_;first | with_reducible assumption | ((with_reducible first | apply B5.pop | apply B5.call | apply B5.allPc | apply B5.allS | apply B5.fin);exact t_rest))
  exact t_l31
 ·(refine t_st ?_;first | with_reducible assumption | ((with_reducible first | apply B5.pop | apply B5.call | apply B5.allPc | apply B5.allS | apply B5.fin);exact t_rest))
  ·exact t_l31
  ·exact Ba (by omega) s0 t0
 ·(refine t_st ?_;first | with_reducible assumption | ((with_reducible first | apply B5.pop | apply B5.call | apply B5.allPc | apply B5.allS | apply B5.fin);exact t_rest))
  ·exact t_l31
  ·exact Ba (by omega) s0 t0
 ·refine B5.allPc (B5.s (B5.m (by exact t_rest))) ?_
  rw [CM]
  have ef:∀m:Mac,(⟨m,((x.add 3 1).2.s 4 (R5 (u32 (x.f.g 0)) (u32 (x.add 3 1).1))).t,((x.add 3 1).2.s 4 (R5 (u32 (x.f.g 0)) (u32 (x.add 3 1).1))).id⟩ : A9).f=x.f.s 4 (R5 (u32 (x.f.g 0)) (u32 (x.add 3 1).1)):=λm=>by
   show ((x.add 3 1).2.s 4 (R5 (u32 (x.f.g 0)) (u32 (x.add 3 1).1))).f=_
   rw [CM]
   rfl
  rw [ef]
  have hv:=Tj ((x.add 3 1).2.s 4 (R5 (u32 (x.f.g 0)) (u32 (x.add 3 1).1))).m hl
  have ep:((x.add 3 1).2.s 4 (R5 (u32 (x.f.g 0)) (u32 (x.add 3 1).1))).m.p.c.level=L:=by rw [hL];exact congrArg (λp:Pl=>p.c.level) (St.fix (St.s (St.add (St.refl x)):St 2 x ((x.add 3 1).2.s 4 (R5 (u32 (x.f.g 0)) (u32 (x.add 3 1).1))))).p
  rw [ep]
  generalize Mod.u64 (((x.add 3 1).2.s 4 (R5 (u32 (x.f.g 0)) (u32 (x.add 3 1).1))).m.lvl L).1=v at *
  refine .inr ⟨by simp only [R0,R1];exact len,.inl ⟨e,.inl ⟨by show (0:Int)<=3;omega,by show (3:Int)<=18;omega⟩,λ_ _=>?_,λhh=>?_⟩⟩
  ·rw [CN,G5 (by rw [R1];exact len) (by decide)]
   exact hv
  ·simp only [BY] at hh;omega
 ·exact h
theorem WE (h:E3 (N6 L sl th) x) (hL:L=x.m.p.c.level) (hl:1<=L/\L<=6) (s0:0<=sl) (t0:0<=sl*th) (o:N6 L sl th x.f) (e:x.f.fn=31) (h9:x.f.pc≠90):E3 (N6 L sl th) (BX x):=by
 obtain ⟨len,o1,o2,o3⟩:=SN3 o e
 unfold BX
 repeat' split
 ·exact WD h hL hl s0 t0 len e (by omega)
 ·exact Se2 h s0 t0 len e o1 o2 o3 (by omega)
 ·exact To h s0 t0 len e o1 o2 o3 (by omega)
 ·exact Tp h s0 t0 len e o1 o2 o3 (by omega)
 ·exact WC h s0 t0 len e o1 o2 o3 (by omega)
theorem WF (h:E3 (N6 L sl th) x) (s0:0<=sl) (t0:0<=sl*th) (len:x.f.r.length=10) (e:x.f.fn=32\/x.f.fn=33):E3 (N6 L sl th) (AU x):=by
 have r:=h.rest
 unfold AU;dsimp only
 repeat' split
 all_goals first | exact h | (refine t_st ?_;first | with_reducible assumption | ((with_reducible first | apply B5.pop | apply B5.call | apply B5.allPc | apply B5.allS | apply B5.fin);exact t_rest)) | skip
 all_goals first | (with_reducible apply Ba;omega;assumption;assumption) | exact t_l32
theorem Sx9 (h:E3 (N6 L sl th) x) (s0:0<=sl) (t0:0<=sl*th) (len:x.f.r.length=10) (e:x.f.fn=32\/x.f.fn=33):E3 (N6 L sl th) (GO x):=by
 have r:=h.rest
 unfold GO;dsimp only
 repeat' split
 all_goals first | exact h | (refine t_st ?_;first | with_reducible assumption | ((with_reducible first | apply B5.pop | apply B5.call | apply B5.allPc | apply B5.allS | apply B5.fin);exact t_rest)) | skip
 all_goals first | (with_reducible apply Ba;omega;assumption;assumption) | exact t_l32
theorem WG (h:E3 (N6 L sl th) x) (s0:0<=sl) (t0:0<=sl*th) (len:x.f.r.length=10) (e:x.f.fn=32\/x.f.fn=33):E3 (N6 L sl th) (AV x):=by
 have r:=h.rest
 unfold AV;dsimp only
 repeat' split
 all_goals first | exact h | (refine t_st ?_;first | with_reducible assumption | ((with_reducible first | apply B5.pop | apply B5.call | apply B5.allPc | apply B5.allS | apply B5.fin);exact t_rest)) | skip
 all_goals first | (with_reducible apply Ba;omega;assumption;assumption) | exact t_l32
theorem Se3 (h:E3 (N6 L sl th) x) (s0:0<=sl) (t0:0<=sl*th) (len:x.f.r.length=10) (e:x.f.fn=32\/x.f.fn=33):E3 (N6 L sl th) (CU x):=by
 have r:=h.rest
 unfold CU;dsimp only
 repeat' split
 all_goals first | exact h | (refine t_st ?_;first | with_reducible assumption | ((with_reducible first | apply B5.pop | apply B5.call | apply B5.allPc | apply B5.allS | apply B5.fin);exact t_rest)) | skip
 all_goals first | (with_reducible apply Ba;omega;assumption;assumption) | exact t_l32
theorem WH (h:E3 (N6 L sl th) x) (s0:0<=sl) (t0:0<=sl*th) (len:x.f.r.length=10) (e:x.f.fn=32\/x.f.fn=33):E3 (N6 L sl th) (AW x):=by
 unfold AW
 repeat' split
 ·exact WF h s0 t0 len e
 ·exact Sx9 h s0 t0 len e
 ·exact WG h s0 t0 len e
 ·exact Se3 h s0 t0 len e
theorem PM (h:E3 (N6 L sl th) x) (hL:L=x.m.p.c.level) (hl:1<=L/\L<=6) (hs:sl=x.m.p.slots) (ht:th=x.m.p.c.threads) (s0:0<=sl) (t0:0<=sl*th) (hne:x.t.fr≠[]):E3 (N6 L sl th) (U2 x):=by
 have r:=h.rest
 have o:=h.top hne
 unfold U2
 rw [if_neg hne]
 dsimp only
 split
 ·unfold Z7
  rw [if_neg hne]
  split
  ·exact Se1 hl hL h o (by assumption)
  ·exact Fo (λf hf=>.inl hf) h hs ht s0 t0 (SX5 o (by omega))
 have len:=(Sx8 o (by omega)).1
 split
 ·(refine t_st ?_;first | with_reducible assumption | ((with_reducible first | apply B5.pop | apply B5.call | apply B5.allPc | apply B5.allS | apply B5.fin);exact t_rest))
 split
 ·exact WE h hL hl s0 t0 o (by assumption) (by assumption)
 split
 ·exact Wy h s0 t0 len (by assumption)
 split
 ·exact Wz h s0 t0 len (by assumption)
 split
 ·exact WB h s0 t0 len (by assumption)
 ·exact WH h s0 t0 len (by omega)
end
end
section
open Mod
section
variable {x:A9} {L sl th:Int}
theorem Tq {y:A9} {l:List M6} (r:J1 sl th 30 l y):W3 sl th (W0 y):=by
 unfold W0;dsimp only
 split
 all_goals exact t_adj
theorem Tr {y:A9} (h:Ch y):Ch (W0 y):=by
 unfold W0;dsimp only
 split
 all_goals (with_reducible repeat' (first | assumption | constructor))
theorem NK {y:A9} {l:List M6} (r:J1 sl th 30 l y):W3 sl th (Cg y):=by
 unfold Cg
 exact t_adj
theorem NL {y:A9} (h:Ch y):Ch (Cg y):=by
 unfold Cg
 with_reducible repeat' (first | assumption | constructor)
theorem Se4 (hs:0 < sl) (hne:x.t.fr≠[]) (h:W3 sl th x) (e:x.f.fn=30):Nx sl th x (BP x):=by
 have r:=h.r hne
 rw [e] at r
 unfold BP;dsimp only
 repeat' split
 all_goals first
  | (refine ⟨NK (l:=GP x) ?_,.inl (Ch.act (NL ?_))⟩;exact t_adr;(with_reducible repeat' constructor);done)
  | exact t_nx
theorem Sy0 {y:A9} {l:List M6} (r:J1 sl th 30 l y) (h:Ch y):Nx sl th x (Cg y):=⟨NK r,.inl (Ch.act (NL h))⟩
theorem WI {y:A9} {l:List M6} (r:J1 sl th 30 l y) (h:Ch y):Nx sl th x (W0 y):=⟨Tq r,.inl (Ch.act (Tr h))⟩
theorem Sy1 (hs:0 < sl) (hne:x.t.fr≠[]) (h:W3 sl th x) (e:x.f.fn=30):Nx sl th x (Ec x):=by
 have r:=h.r hne
 rw [e] at r
 unfold Ec;dsimp only
 repeat' split
 all_goals first
  | (with_reducible apply Se4 hs hne h e)
  | ((with_reducible apply Sy0 (l:=GP x));exact t_adr;(with_reducible repeat' constructor);done)
  | ((with_reducible apply WI (l:=GP x));exact t_adr;(with_reducible repeat' constructor);done)
  | exact t_nx
theorem Se5 (hs:0 < sl) (ha:0 < sl*th) (hne:x.t.fr≠[]) (h:W3 sl th x) (e:x.f.fn=34) (hp:0<=x.f.pc/\x.f.pc<=5):Nx sl th x (BQ x):=by
 have r:=h.r hne
 rw [e] at r
 unfold BQ;dsimp only
 repeat' split
 all_goals first | exact t_nx | ((have e1:x.f.pc=5:=by omega);exact t_nx) | omega
theorem Se6 (hs:0 < sl) (ha:0 < sl*th) (hne:x.t.fr≠[]) (h:W3 sl th x) (e:x.f.fn=35) (hp:0<=x.f.pc/\x.f.pc<=2):Nx sl th x (BR x):=by
 have r:=h.r hne
 rw [e] at r
 unfold BR;dsimp only
 repeat' split
 all_goals first | exact t_nx | ((have e1:x.f.pc=2:=by omega);exact t_nx) | omega
theorem Se7 (hs:0 < sl) (ha:0 < sl*th) (hne:x.t.fr≠[]) (h:W3 sl th x) (e:x.f.fn=36) (hp:4<=x.f.pc/\x.f.pc<=6):Nx sl th x (BS x):=by
 have r:=h.r hne
 rw [e] at r
 unfold BS AT;dsimp only
 repeat' split
 all_goals first | exact t_nx | omega
theorem Se8 (hs:0 < sl) (ha:0 < sl*th) (hne:x.t.fr≠[]) (h:W3 sl th x) (e:x.f.fn=36) (hp:0<=x.f.pc/\x.f.pc<=6):Nx sl th x (BT x):=by
 have r:=h.r hne
 rw [e] at r
 unfold BT AT;dsimp only
 repeat' split
 all_goals first | exact t_nx | exact Se7 hs ha hne h e (by omega) | omega
theorem Se9 (hs:0 < sl) (ha:0 < sl*th) (hne:x.t.fr≠[]) (h:W3 sl th x) (e:x.f.fn=31) (hp:0<=x.f.pc/\x.f.pc<=2):Nx sl th x (BV x):=by
 have r:=h.r hne
 rw [e] at r
 unfold BV;dsimp only
 repeat' split
 all_goals first | exact t_nxS | omega
theorem Sy2 (hs:0 < sl) (ha:0 < sl*th) (hne:x.t.fr≠[]) (h:W3 sl th x) (e:x.f.fn=31) (hp:3<=x.f.pc/\x.f.pc<=6):Nx sl th x (EL x):=by
 have r:=h.r hne
 rw [e] at r
 unfold EL;dsimp only
 repeat' split
 all_goals first | exact t_nx | omega
theorem WJ (hs:0 < sl) (ha:0 < sl*th) (hne:x.t.fr≠[]) (h:W3 sl th x) (e:x.f.fn=31) (hp:7<=x.f.pc/\x.f.pc<=10):Nx sl th x (Al x):=by
 have r:=h.r hne
 rw [e] at r
 unfold Al;dsimp only
 repeat' split
 all_goals first | exact t_nx | omega
theorem WK (hs:0 < sl) (ha:0 < sl*th) (hne:x.t.fr≠[]) (h:W3 sl th x) (e:x.f.fn=31) (hp:11<=x.f.pc/\x.f.pc<=14):Nx sl th x (Am x):=by
 have r:=h.r hne
 rw [e] at r
 unfold Am;dsimp only
 repeat' split
 all_goals first | exact t_nx | omega
theorem Sf0 (hs:0 < sl) (ha:0 < sl*th) (hne:x.t.fr≠[]) (h:W3 sl th x) (e:x.f.fn=31) (hp:15<=x.f.pc/\x.f.pc<=18):Nx sl th x (BW x):=by
 have r:=h.r hne
 rw [e] at r
 unfold BW;dsimp only
 repeat' split
 all_goals first | exact t_nx | ((have e1:x.f.pc=18:=by omega);exact t_nx) | omega
theorem Sf1 (hs:0 < sl) (ha:0 < sl*th) (hne:x.t.fr≠[]) (h:W3 sl th x) (e:x.f.fn=31) (hp:0<=x.f.pc/\x.f.pc<=18):Nx sl th x (BX x):=by
 unfold BX
 repeat' split
 ·exact Se9 hs ha hne h e (by omega)
 ·exact Sy2 hs ha hne h e (by omega)
 ·exact WJ hs ha hne h e (by omega)
 ·exact WK hs ha hne h e (by omega)
 ·exact Sf0 hs ha hne h e (by omega)
theorem Tt (hs:0 < sl) (ha:0 < sl*th) (hne:x.t.fr≠[]) (h:W3 sl th x) (e:x.f.fn=32) (hp:0<=x.f.pc/\x.f.pc<=4):Nx sl th x (AU x):=by
 have r:=h.r hne
 rw [e] at r
 unfold AU;dsimp only
 repeat' split
 all_goals first | exact t_nx | omega
theorem Sf2 (hs:0 < sl) (ha:0 < sl*th) (hne:x.t.fr≠[]) (h:W3 sl th x) (e:x.f.fn=32) (hp:5<=x.f.pc/\x.f.pc<=8):Nx sl th x (GO x):=by
 have r:=h.r hne
 rw [e] at r
 unfold GO;dsimp only
 repeat' split
 all_goals first | exact t_nx | omega
theorem Tu (hs:0 < sl) (ha:0 < sl*th) (hne:x.t.fr≠[]) (h:W3 sl th x) (e:x.f.fn=32) (hp:9<=x.f.pc/\x.f.pc<=10):Nx sl th x (AV x):=by
 have r:=h.r hne
 rw [e] at r
 unfold AV;dsimp only
 repeat' split
 all_goals first | exact t_nx | omega
theorem WL (hs:0 < sl) (ha:0 < sl*th) (hne:x.t.fr≠[]) (h:W3 sl th x) (e:x.f.fn=32) (hp:11<=x.f.pc/\x.f.pc<=14):Nx sl th x (CU x):=by
 have r:=h.r hne
 rw [e] at r
 unfold CU;dsimp only
 repeat' split
 all_goals first | exact t_nx | ((have e1:x.f.pc=14:=by omega);exact t_nx) | omega
theorem Tv (hs:0 < sl) (ha:0 < sl*th) (hne:x.t.fr≠[]) (h:W3 sl th x) (e:x.f.fn=32) (hp:0<=x.f.pc/\x.f.pc<=14):Nx sl th x (AW x):=by
 unfold AW
 repeat' split
 ·exact Tt hs ha hne h e (by omega)
 ·exact Sf2 hs ha hne h e (by omega)
 ·exact Tu hs ha hne h e (by omega)
 ·exact WL hs ha hne h e (by omega)
theorem Tx (hs:0 < sl) (ha:0 < sl*th) (hne:x.t.fr≠[]) (h:W3 sl th x) (e:x.f.fn=33) (hp:0<=x.f.pc/\x.f.pc<=4):Nx sl th x (AU x):=by
 have r:=h.r hne
 rw [e] at r
 unfold AU;dsimp only
 repeat' split
 all_goals first | exact t_nx | omega
theorem Sf3 (hs:0 < sl) (ha:0 < sl*th) (hne:x.t.fr≠[]) (h:W3 sl th x) (e:x.f.fn=33) (hp:5<=x.f.pc/\x.f.pc<=8):Nx sl th x (GO x):=by
 have r:=h.r hne
 rw [e] at r
 unfold GO;dsimp only
 repeat' split
 all_goals first | exact t_nx | omega
theorem Ty (hs:0 < sl) (ha:0 < sl*th) (hne:x.t.fr≠[]) (h:W3 sl th x) (e:x.f.fn=33) (hp:9<=x.f.pc/\x.f.pc<=10):Nx sl th x (AV x):=by
 have r:=h.r hne
 rw [e] at r
 unfold AV;dsimp only
 repeat' split
 all_goals first | exact t_nx | omega
theorem WM (hs:0 < sl) (ha:0 < sl*th) (hne:x.t.fr≠[]) (h:W3 sl th x) (e:x.f.fn=33) (hp:11<=x.f.pc/\x.f.pc<=14):Nx sl th x (CU x):=by
 have r:=h.r hne
 rw [e] at r
 unfold CU;dsimp only
 repeat' split
 all_goals first | exact t_nx | ((have e1:x.f.pc=14:=by omega);exact t_nx) | omega
theorem Tz (hs:0 < sl) (ha:0 < sl*th) (hne:x.t.fr≠[]) (h:W3 sl th x) (e:x.f.fn=33) (hp:0<=x.f.pc/\x.f.pc<=14):Nx sl th x (AW x):=by
 unfold AW
 repeat' split
 ·exact Tx hs ha hne h e (by omega)
 ·exact Sf3 hs ha hne h e (by omega)
 ·exact Ty hs ha hne h e (by omega)
 ·exact WM hs ha hne h e (by omega)
theorem ST3 {f:M6} (o:N6 L sl th f):(1<=f.fn/\f.fn<=6)\/f.fn=30/\0<=f.pc/\f.pc<=6\/f.fn=31/\(0<=f.pc/\f.pc<=18\/f.pc=90)\/(f.fn=32\/f.fn=33)/\(0<=f.pc/\f.pc<=14\/f.pc=90)\/f.fn=34/\(0<=f.pc/\f.pc<=5\/f.pc=90)\/f.fn=35/\0<=f.pc/\f.pc<=2\/f.fn=36/\0<=f.pc/\f.pc<=6:=by
 unfold N6 Z1 at o
 omega
theorem TA (hsl:sl=x.m.p.slots) (hth:th=x.m.p.c.threads) (hs:0 < sl) (ha:0 < sl*th) (hne:x.t.fr≠[]) (h:W3 sl th x) (o:N6 L sl th x.f):Nx sl th x (U2 x):=by
 have o1:=ST3 o
 have r:=h.r hne
 unfold U2
 rw [if_neg hne]
 dsimp only
 split
 ·unfold Z7
  rw [if_neg hne]
  split
  ·exact Sy1 hs hne h (by assumption)
  ·exact Gp hsl hth hs ha hne h (by omega)
 split
 ·rename_i c c9
  refine ⟨r.pop,.inr (J1.ltPop r hne c9 r hne ?_)⟩
  have c2:fA sl th x.f.fn 90=false:=by
   have:x.f.fn=31\/x.f.fn=32\/x.f.fn=33\/x.f.fn=34:=by omega
   rcases this with e | e | e | e <;> rw [e] <;> simp [fA]
  rw [c2]
  have:=(LK x.f.fn 90).1
  simp
  omega
 split
 ·exact Sf1 hs ha hne h (by assumption) (by omega)
 split
 ·exact Se5 hs ha hne h (by assumption) (by omega)
 split
 ·exact Se6 hs ha hne h (by assumption) (by omega)
 split
 ·exact Se8 hs ha hne h (by assumption) (by omega)
 ·have:x.f.fn=32\/x.f.fn=33:=by omega
  rcases this with e | e
  ·exact Tv hs ha hne h e (by omega)
  ·exact Tz hs ha hne h e (by omega)
end
def LnQ (c:Mod.Cf) (f:M6):Prop:=N6 c.level (D5 c).slots c.threads f
def LnW (x:A9):Prop:=Ok x/\LOk x/\(x.f.fn=31->SR9 x)
theorem TC:It U2 LnQ LnW 31 where
 st:=SN
 all c x hc hp hne h:=by
  obtain ⟨a1,a2,a3,a4,a5,a6⟩:=CQ hc
  exact PM h (by rw [hp];rfl) ⟨a5,a6⟩ (by rw [hp]) (by rw [hp];rfl) (by omega) (by omega) hne
 nx c x hc hp hne h a:=by
  obtain ⟨a1,a2,a3,a4,a5,a6⟩:=CQ hc
  exact TA (by rw [hp]) (by rw [hp];rfl) a1 a2 hne a (h.top hne)
 w c x B hc h hB hne hid:=by
  obtain ⟨a1,a2,a3,a4,a5,a6⟩:=CQ hc
  have o:N6 c.level (D5 c).slots c.threads x.f:=h.q.top hne
  have hpr:=h.pr
  have hsu:=h.su
  have hwo:=h.wo
  refine ⟨h.ok hB hid ?_,λe hp=>?_,λe=>?_⟩
  ·rcases o with o | ⟨_,o⟩
   ·exact Sw9 o ⟨by omega,a4⟩ a3
   ·omega
  ·obtain ⟨len,o1,o2,o3⟩:=SN4 o e
   have g:=o3 hp
   exact ⟨⟨g.1,by omega⟩,by omega,by omega,by omega⟩
  ·obtain ⟨len,o1,o2,o3⟩:=SN3 o e
   refine ⟨⟨by omega,by omega,by omega,by omega⟩,λe2 e3=>?_⟩
   have g1:=o2 (by omega) (by omega)
   have g2:=o3 (by omega) (by omega)
   omega
 new c op l hc ho:=by
  obtain ⟨a1,a2,a3,a4,a5,a6⟩:=CQ hc
  exact Ba (by omega) (by omega) (by omega)
theorem WN:DoC 65 U2 LnW:=λh M T tv x R K H hw k=>MG H hw.1 hw.2.1 hw.2.2 k
end
section
open Mod
theorem TD (c:Cl):CP (Us c)=true:=by
 have:=Yn c.op
 unfold Us
 split
 ·rfl
 ·rename_i h
  unfold CP
  simp only [Bool.or_eq_true,Bool.and_eq_true,beq_iff_eq,and_true]
  omega
theorem Ka (th n:Nat) (calls:List (List Cl)):(M8 th n calls).flatten.length<=n*th:=by
 induction th with
 | zero=>simp [M8]
 | succ j ih=>
  rw [JV,List.flatten_append,List.length_append,List.flatten_singleton,LS,Nat.mul_succ]
  omega
theorem TE {c:Mod.Cf} (hc:Fv c=true) {calls:List (List Cl)} {B9 draws:List Int} {n m:Nat} (hn:n<=8) (hm:m<=60000):GQ c (M8 c.threads.toNat n calls) (U6 c.threads m B9) (draws.take 4096)=true:=by
 have B:=Be hc
 have hth:1<=c.threads/\c.threads<=6:=B.th
 have hf:=Ka c.threads.toNat n calls
 have hnt:n*c.threads.toNat<=8*6:=Nat.mul_le_mul hn (by omega)
 unfold GQ
 rw [hc,Ct]
 simp only [Bool.and_eq_true,beq_iff_eq,decide_eq_true_eq,List.all_eq_true]
 refine ⟨trivial,by omega,by omega,?_,?_,?_,?_⟩
 ·unfold U6;rw [List.length_map,List.length_take];omega
 ·rw [List.length_take];omega
 ·intro l hl x hx
  unfold M8 at hl
  obtain ⟨i,_,rfl⟩:=List.mem_map.1 hl
  unfold CO at hx
  obtain ⟨y,_,rfl⟩:=List.mem_map.1 hx
  exact TD y
 ·intro k hk
  unfold U6 at hk
  obtain ⟨k0,_,rfl⟩:=List.mem_map.1 hk
  exact NA hth k0
theorem Sy3 {th:Int} {n m:Nat} {calls:List (List Cl)} {B9 draws:List Int} (hn:n<=1000) (R:SC calls B9 draws):SC (M8 th.toNat n calls) (U6 th m B9) (draws.take 4096):=
 ⟨λl hl x hx=>((Jh R hn l hl).2 x hx).2,λx hx=>R.dr x (List.mem_of_mem_take hx)⟩
section
variable {K:kQ} {h:A2} {R:Hp} {calls:List (List Cl)} {B9 draws:List Int}
end
end
end Go.Proofs.YtahpbclnkofhfaaGreat
section
namespace Go.Proofs.YtahpbclnkofhfaaGreat.Mod
def AP (fn:Int):Prop:=11<=fn/\fn<=13\/21<=fn/\fn<=23\/31<=fn/\fn<=33
def Fit (fn i j k:Int):Prop:=(fn % 10=1->(i=0\/i=1)/\j=0/\k=0)/\(fn % 10≠1->i=2\/i=3/\j=0/\k=0)
inductive AG (p:Pl):Int->Prop
 | node (n f:Int):AG p (p.node n f)
 | link (n:Int):AG p (p.link n)
 | at (n:Int):AG p (p.at n)
 | lit {a:Int} (h:0<=a/\a < 8):AG p a
inductive On (x:A9):Bool->Bool->A9->Prop
 | refl:On x false false x
 | load {y:A9} {a:Int} (h:On x false false y):On x true false (y.load a).2
 | store {y:A9} {a v:Int} (h:On x false false y) (ha:AG x.m.p a):On x true false (y.store a v)
 | own {y:A9} {i v:Int} (h:On x false false y):On x true false (y.store (x.m.p.haz x.id i) v)
 | cas {y:A9} {a o v:Int} (h:On x false false y) (ha:AG x.m.p a):On x true false (y.cas a o v).2
 | add {y:A9} {a v:Int} (h:On x false false y) (ha:AG x.m.p a):On x true false (y.add a v).2
 | dcas {y:A9} {a o v b p q:Int} (h:On x false false y) (ha:AG x.m.p a) (hb:AG x.m.p b):On x true false { y with m:=(y.m.dcas a o v b p q).2 }
 | dcss {y:A9} {a o v b p:Int} (h:On x false false y) (ha:AG x.m.p a) (hb:AG x.m.p b):On x true false { y with m:=(y.m.dcss a o v b p).2 }
 | next {b:Bool} {y:A9} {k:Int} (h:On x b false y):On x b false { y with m:=(y.m.next k).2 }
 | lvl {b:Bool} {y:A9} {k:Int} (h:On x b false y):On x b false { y with m:=(y.m.lvl k).2 }
 | gh {b q:Bool} {y:A9} {f:Gh->Gh} (h:On x b q y):On x b q (y.gh f)
 | s {b:Bool} {y:A9} {i:Nat} {v:Int} (h:On x b false y):On x b false (y.s i v)
 | pc {b:Bool} {y:A9} {i:Int} (h:On x b false y) (hi:AP x.f.fn->i≠90):On x b false (y.pc i)
 | call {b:Bool} {y:A9} {i j:Int} {r:List Int} (h:On x b false y) (hi:AP x.f.fn->i≠90) (hj:¬ AP j):On x b true (y.call i j r)
 | fin {b:Bool} {y:A9} {i j k:Int} (h:On x b false y) (hi:AP x.f.fn->Fit x.f.fn i j k):On x b true (y.fin i j k)
 | pop {b:Bool} {y:A9} {r:List Int} (h:On x b false y) (hn:¬ AP x.f.fn):On x b true (y.pop r)
 | push {b q:Bool} {y:A9} {j:Int} {r:List Int} (h:On x b q y) (hj:¬ AP j):On x b true (y.push j r)
 | fo {b:Bool} {y:A9} {l:List Int} (h:On x b false y):On x b false (y.fo l)
 | re {b:Bool} {y:A9} {l:List Int} (h:On x b false y):On x b false (y.re l)
 | setPl {b:Bool} {y:A9} {p s w:List Int} (h:On x b false y):On x b false (y.setPl p s w)
section
variable {x y:A9} {b:Bool}
theorem On.swing {a w p:Int} {c:Bool} (h:On x false false y) (ha:AG x.m.p (y.at a)):On x true false (y.swing a w p c).2:=On.cas h ha
theorem On.swingA {a w p:Int} (h:On x false false y) (ha:AG x.m.p a):On x true false (y.swingA a w p).2:=On.cas h ha
theorem On.swingM {a w p:Int} {c:Bool} (h:On x false false y) (ha:AG x.m.p a):On x true false (y.swingM a w p c).2:=On.cas h ha
theorem On.drop1 {a:Int} (h:On x false false y) (ha:AG x.m.p (y.na a 2)):On x true false (y.drop1 a).2:=On.add h ha
end
structure Ob (x y:A9):Prop where
 a:∃b q,On x b q y
theorem Ob.of {x y:A9} {b q:Bool} (h:On x b q y):Ob x y:=⟨b,q,h⟩
theorem t_on {P:Prop} (h:P:=by ((with_reducible repeat' (first | assumption | exact On.refl | apply On.load | apply On.cas | apply On.add | apply On.swing | apply On.swingA | apply On.swingM | apply On.drop1 | apply On.own | apply On.next | apply On.lvl | apply On.dcas | apply On.dcss | apply On.gh | apply On.call | apply On.fin | apply On.s | apply On.pc | apply On.push | apply On.pop | apply On.fo | apply On.re | apply On.setPl | apply On.store));all_goals (first | assumption | exact AG.node _ _ | exact AG.at _ | exact AG.link _ | exact AG.lit (by decide) | (intro hx;first | exact absurd hx nA | decide | omega | (unfold Fit;omega)) | (unfold AP;omega)))):P:=h
theorem t_ob {P:Prop} (h:P:=by (apply Ob.of;((with_reducible repeat' (first | assumption | exact On.refl | apply On.load | apply On.cas | apply On.add | apply On.swing | apply On.swingA | apply On.swingM | apply On.drop1 | apply On.own | apply On.next | apply On.lvl | apply On.dcas | apply On.dcss | apply On.gh | apply On.call | apply On.fin | apply On.s | apply On.pc | apply On.push | apply On.pop | apply On.fo | apply On.re | apply On.setPl | apply On.store));all_goals (first | assumption | exact AG.node _ _ | exact AG.at _ | exact AG.link _ | exact AG.lit (by decide) | (intro hx;first | exact absurd hx nA | decide | omega | (unfold Fit;omega)) | (unfold AP;omega))))):P:=h
theorem Sy4 {x:A9} (nA:¬ AP x.f.fn):Ob x (alloc x):=by
 unfold alloc;dsimp only
 repeat' split
 all_goals exact t_ob
theorem WO {x:A9} (nA:¬ AP x.f.fn):Ob x (Af x):=by
 unfold Af;dsimp only
 repeat' split
 all_goals exact t_ob
theorem WP {x:A9} (nA:¬ AP x.f.fn):Ob x (Ag x):=by
 unfold Ag
 try dsimp only
 repeat' split
 all_goals first | with_reducible exact Sy4 nA | with_reducible exact WO nA | exact t_ob
theorem WQ {x:A9} (nA:¬ AP x.f.fn):Ob x (Ah x):=by
 unfold Ah;dsimp only
 repeat' split
 all_goals exact t_ob
theorem SK0 {x:A9} (nA:¬ AP x.f.fn):Ob x (Ig x):=by
 unfold Ig;dsimp only
 repeat' split
 all_goals exact t_ob
theorem Sf4 {x:A9} (nA:¬ AP x.f.fn):Ob x (BJ x):=by
 unfold BJ;dsimp only
 repeat' split
 all_goals exact t_ob
theorem Sy5 {x y:A9} {b:Bool} {all:Int} (nA:¬ AP x.f.fn) (h:On x b false y):On x b false (BK y all):=by
 unfold BK
 split
 ·exact On.pc (On.fo (On.re h)) λhx=>absurd hx nA
 ·exact h
theorem Sy6 {x y:A9} {b:Bool} (nA:¬ AP x.f.fn) (h:On x b false y):On x b true (Fw y):=by
 unfold Fw
 split
 ·exact On.pop h nA
 ·exact On.push (On.fo h) (by unfold AP;omega)
theorem SK1 {x:A9} (nA:¬ AP x.f.fn):Ob x (scan x):=by
 have h0:On x false false (if x.f.pc=0 then x.fo [] else x):=by
  split
  ·exact On.fo On.refl
  ·exact On.refl
 unfold scan
 dsimp only
 generalize (if x.f.pc=0 then x.fo [] else x)=y at *
 split
 ·exact Ob.of (On.pc (On.fo (On.load h0)) λhx=>absurd hx nA)
 ·exact Ob.of (Sy6 nA (Sy5 nA h0))
theorem Gq {x:A9} (nA:¬ AP x.f.fn):Ob x (U1 x):=by
 unfold U1
 try dsimp only
 repeat' split
 all_goals first | with_reducible exact WQ nA | with_reducible exact SK0 nA | with_reducible exact Sf4 nA | with_reducible exact SK1 nA | with_reducible exact WP nA | exact t_ob
theorem Sy7 {x:A9} (nA:¬ AP x.f.fn):Ob x (DT x):=by
 unfold DT;dsimp only
 repeat' split
 all_goals exact t_ob
theorem Sy8 {x:A9} (e:x.f.fn=11):Ob x (DU x):=by
 unfold DU;dsimp only
 repeat' split
 all_goals exact t_ob
theorem TG {x:A9} (e:x.f.fn=11):Ob x (X0 x):=by
 unfold X0 EJ;dsimp only
 repeat' split
 all_goals exact t_ob
theorem Sy9 {x:A9} (e:x.f.fn=11):Ob x (DV x):=by
 unfold DV EJ;dsimp only
 repeat' split
 all_goals exact t_ob
theorem SK2 {x:A9} (e:x.f.fn=11):Ob x (Ii x):=by
 unfold Ii GW;dsimp only
 repeat' split
 all_goals exact t_ob
theorem Sz0 {x:A9} (e:x.f.fn=11):Ob x (DW x):=by
 unfold DW
 try dsimp only
 repeat' split
 all_goals first | with_reducible exact Sy8 e | with_reducible exact TG e | with_reducible exact Sy9 e | with_reducible exact SK2 e | exact t_ob
theorem Sz1 {x:A9} (e:x.f.fn=12\/x.f.fn=13):Ob x (CS x):=by
 unfold CS;dsimp only
 repeat' split
 all_goals exact t_ob
theorem Sz2 {x:A9} (e:x.f.fn=12\/x.f.fn=13):Ob x (CT x):=by
 unfold CT
 try dsimp only
 repeat' split
 all_goals first | with_reducible exact Sz1 e | exact t_ob
theorem TH {x:A9} (nA:¬ AP x.f.fn):Ob x (Dq x):=by
 unfold Dq;dsimp only
 repeat' split
 all_goals exact t_ob
theorem Sz3 {x:A9} (nA:¬ AP x.f.fn):Ob x (DY x):=by
 unfold DY
 try dsimp only
 repeat' split
 all_goals first | with_reducible exact TH nA | exact t_ob
theorem Sf5 {x:A9} {a:Nat} {i j:Int} (nA:¬ AP x.f.fn):Ob x (Z0 x a i j):=by
 unfold Z0;dsimp only
 repeat' split
 all_goals exact t_ob
theorem Sz4 {x:A9} {a:Nat} {j:Int} (nA:¬ AP x.f.fn):Ob x (Ds x a j):=by
 unfold Ds;dsimp only
 repeat' split
 all_goals exact t_ob
theorem Sz5 {x:A9} (nA:¬ AP x.f.fn):Ob x (DZ x):=by
 unfold DZ;dsimp only
 repeat' split
 all_goals first | with_reducible exact Sz4 nA | with_reducible exact TH nA | with_reducible exact Sz3 nA | with_reducible exact Sf5 nA | (rename_i c;unfold Z0;dsimp only;rw [if_neg c];exact t_ob) | exact t_ob
def Bit (x y:A9):Prop:=AP x.f.fn/\x.f.pc=90/\y=x.pop [x.f.g 7,x.f.g 8,x.f.g 9]\/(AP x.f.fn->x.f.pc≠90)/\Ob x y
theorem TI {x:A9} (hq:x.f.fn<=6\/10<=x.f.fn/\x.f.fn<=14) (hne:x.t.fr≠[]):Bit x (N7 x):=by
 unfold N7
 rw [if_neg hne]
 dsimp only
 split
 ·rename_i c;exact .inl ⟨.inl c.2,c.1,rfl⟩
 rename_i c
 refine .inr ⟨λh e=>c ⟨e,by unfold AP at h;omega⟩,?_⟩
 repeat' split
 ·exact Sy7 (by unfold AP;omega)
 ·exact Sz0 (by assumption)
 ·exact Sz2 (by assumption)
 ·exact Sz5 (by unfold AP;omega)
 ·exact Gq (by unfold AP;omega)
theorem LV {x y:A9} {b:Bool} (nA:¬ AP x.f.fn) (h:On x b false y):Ob x (X1 y):=by
 unfold X1;dsimp only
 split
 all_goals exact t_ob
theorem LW {x y:A9} {b:Bool} {w:Int} (nA:¬ AP x.f.fn) (h:On x b false y):Ob x (Ce y w):=by
 unfold Ce;dsimp only
 have h1:On x b false (y.s 3 w):=On.s h
 repeat' split
 ·exact t_ob
 ·exact LV nA h1
 ·exact t_ob
theorem Sz6 {x:A9} (nA:¬ AP x.f.fn):Ob x (Ea x):=by
 unfold Ea
 try dsimp only
 repeat' split
 all_goals first | with_reducible exact LW nA (On.load On.refl) | with_reducible exact LV nA (On.load On.refl) | exact LW nA (On.cas On.refl (AG.node _ _)) | exact t_ob
theorem Sz7 {x:A9} (nA:¬ AP x.f.fn):Ob x (Eb x):=by
 unfold Eb
 try dsimp only
 repeat' split
 all_goals first | with_reducible exact Sz6 nA | with_reducible exact LW nA (On.load On.refl) | exact t_ob
theorem Sf6 {x:A9} (nA:¬ AP x.f.fn):Ob x (BL x):=by
 unfold BL
 try dsimp only
 repeat' split
 all_goals first | with_reducible exact Sz7 nA | with_reducible exact Gq nA | exact t_ob
theorem Sf7 {x:A9} (e:x.f.fn=21):Ob x (BM x):=by
 unfold BM;dsimp only
 repeat' split
 all_goals exact t_ob
theorem Sz8 {x:A9} (e:x.f.fn=21) (hp:x.f.pc<=7):Ob x (EK x):=by
 unfold EK;dsimp only
 repeat' split
 all_goals exact t_ob
theorem WR {x:A9} (e:x.f.fn=21):Ob x (Ai x):=by
 unfold Ai;dsimp only
 repeat' split
 all_goals exact t_ob
theorem WS {x:A9} (e:x.f.fn=21):Ob x (Aj x):=by
 unfold Aj;dsimp only
 repeat' split
 all_goals exact t_ob
theorem WT {x:A9} (e:x.f.fn=21):Ob x (Ak x):=by
 unfold Ak;dsimp only
 repeat' split
 all_goals exact t_ob
theorem Sf8 {x:A9} (e:x.f.fn=21):Ob x (BN x):=by
 unfold BN
 try dsimp only
 repeat' split
 all_goals first | with_reducible exact Sf7 e | with_reducible exact Sz8 e (by assumption) | with_reducible exact WR e | with_reducible exact WS e | with_reducible exact WT e | exact t_ob
theorem Sf9 {x:A9} (e:x.f.fn=22\/x.f.fn=23):Ob x (Az x):=by
 unfold Az AS;dsimp only
 repeat' split
 all_goals exact t_ob
theorem Sg0 {x:A9} (e:x.f.fn=22\/x.f.fn=23):Ob x (AA x):=by
 unfold AA;dsimp only
 repeat' split
 all_goals exact t_ob
theorem Sg1 {x:A9} (e:x.f.fn=22\/x.f.fn=23):Ob x (AC x):=by
 unfold AC;dsimp only
 repeat' split
 all_goals exact t_ob
theorem WU {x:A9} (e:x.f.fn=22\/x.f.fn=23):Ob x (X2 x):=by
 unfold X2 AS;dsimp only
 repeat' split
 all_goals exact t_ob
theorem Sg2 {x:A9} (e:x.f.fn=22\/x.f.fn=23):Ob x (BO x):=by
 unfold BO
 try dsimp only
 repeat' split
 all_goals first | with_reducible exact Sf9 e | with_reducible exact Sg0 e | with_reducible exact Sg1 e | with_reducible exact WU e | exact t_ob
theorem MM {x:A9} (hq:x.f.fn<=6\/20<=x.f.fn/\x.f.fn<=23) (hne:x.t.fr≠[]):Bit x (R3 x):=by
 unfold R3
 rw [if_neg hne]
 dsimp only
 split
 ·have nA:¬ AP x.f.fn:=by unfold AP;omega
  exact .inr ⟨λh=>absurd h nA,Sf6 nA⟩
 split
 ·exact .inl ⟨by unfold AP;omega,by assumption,rfl⟩
 refine .inr ⟨λh=>by assumption,?_⟩
 split
 ·exact Sf8 (by assumption)
 ·exact Sg2 (by omega)
theorem WV {x y:A9} {b:Bool} (nA:¬ AP x.f.fn) (h:On x b false y):Ob x (W0 y):=by
 unfold W0;dsimp only
 split
 all_goals exact t_ob
theorem TJ {x y:A9} {b:Bool} (nA:¬ AP x.f.fn) (h:On x b false y):On x b false (Cg y):=by
 unfold Cg
 exact On.pc (On.s h) λhx=>absurd hx nA
theorem Sg3 {x:A9} (nA:¬ AP x.f.fn):Ob x (BP x):=by
 have h1:On x true false (x.load 1).2:=On.load On.refl
 unfold BP;dsimp only
 repeat' split
 all_goals first | (with_reducible apply Ob.of;with_reducible apply TJ nA;with_reducible apply On.s;with_reducible exact h1) | exact t_ob
theorem Sz9 {x:A9} (nA:¬ AP x.f.fn):Ob x (Ec x):=by
 unfold Ec;dsimp only
 repeat' split
 all_goals first | with_reducible exact Sg3 nA | (with_reducible apply WV nA (b:=true);exact t_on) | (with_reducible apply Ob.of;with_reducible apply TJ nA (b:=true);exact t_on) | exact t_ob
theorem TK {x:A9} (nA:¬ AP x.f.fn):Ob x (Z7 x):=by
 unfold Z7
 try dsimp only
 repeat' split
 all_goals first | with_reducible exact Sz9 nA | with_reducible exact Gq nA | exact t_ob
theorem Sg4 {x:A9} (nA:¬ AP x.f.fn):Ob x (BQ x):=by
 unfold BQ;dsimp only
 repeat' split
 all_goals exact t_ob
theorem Sg5 {x:A9} (nA:¬ AP x.f.fn):Ob x (BR x):=by
 unfold BR;dsimp only
 repeat' split
 all_goals exact t_ob
theorem Sg6 {x:A9} (nA:¬ AP x.f.fn):Ob x (BS x):=by
 unfold BS AT;dsimp only
 repeat' split
 all_goals exact t_ob
theorem Sg7 {x:A9} (nA:¬ AP x.f.fn):Ob x (BT x):=by
 unfold BT AT A9.guard
 try dsimp only
 repeat' split
 all_goals first | with_reducible exact Sg6 nA | exact t_ob
theorem Sg8 {x:A9} (e:x.f.fn=31):Ob x (BV x):=by
 unfold BV;dsimp only
 repeat' split
 all_goals exact t_ob
theorem SA0 {x:A9} (e:x.f.fn=31) (hp:x.f.pc<=6):Ob x (EL x):=by
 unfold EL;dsimp only
 repeat' split
 all_goals exact t_ob
theorem WW {x:A9} (e:x.f.fn=31):Ob x (Al x):=by
 unfold Al;dsimp only
 repeat' split
 all_goals exact t_ob
theorem WX {x:A9} (e:x.f.fn=31):Ob x (Am x):=by
 unfold Am;dsimp only
 repeat' split
 all_goals exact t_ob
theorem Sg9 {x:A9} (e:x.f.fn=31):Ob x (BW x):=by
 unfold BW;dsimp only
 repeat' split
 all_goals exact t_ob
theorem Sh0 {x:A9} (e:x.f.fn=31):Ob x (BX x):=by
 unfold BX
 try dsimp only
 repeat' split
 all_goals first | with_reducible exact Sg8 e | with_reducible exact SA0 e (by assumption) | with_reducible exact WW e | with_reducible exact WX e | with_reducible exact Sg9 e | exact t_ob
theorem Sh1 {x:A9} (e:x.f.fn=32\/x.f.fn=33):Ob x (AU x):=by
 unfold AU A9.guard;dsimp only
 repeat' split
 all_goals exact t_ob
theorem SK3 {x:A9} (e:x.f.fn=32\/x.f.fn=33):Ob x (GO x):=by
 unfold GO;dsimp only
 repeat' split
 all_goals exact t_ob
theorem Sh2 {x:A9} (e:x.f.fn=32\/x.f.fn=33):Ob x (AV x):=by
 unfold AV;dsimp only
 repeat' split
 all_goals exact t_ob
theorem SA1 {x:A9} (e:x.f.fn=32\/x.f.fn=33):Ob x (CU x):=by
 unfold CU;dsimp only
 repeat' split
 all_goals exact t_ob
theorem Sh3 {x:A9} (e:x.f.fn=32\/x.f.fn=33):Ob x (AW x):=by
 unfold AW
 try dsimp only
 repeat' split
 all_goals first | with_reducible exact Sh1 e | with_reducible exact SK3 e | with_reducible exact Sh2 e | with_reducible exact SA1 e | exact t_ob
theorem PN {x:A9} (hq:x.f.fn<=6\/30<=x.f.fn/\x.f.fn<=36) (hne:x.t.fr≠[]):Bit x (U2 x):=by
 unfold U2
 rw [if_neg hne]
 dsimp only
 split
 ·have nA:¬ AP x.f.fn:=by unfold AP;omega
  exact .inr ⟨λh=>absurd h nA,TK nA⟩
 split
 ·by_cases c:x.f.fn<=33
  ·exact .inl ⟨by unfold AP;omega,by assumption,rfl⟩
  ·have nA:¬ AP x.f.fn:=by unfold AP;omega
   exact .inr ⟨λh=>absurd h nA,Ob.of (On.pop On.refl nA)⟩
 refine .inr ⟨λh=>by assumption,?_⟩
 repeat' split
 ·exact Sh0 (by assumption)
 ·exact Sg4 (by unfold AP;omega)
 ·exact Sg5 (by unfold AP;omega)
 ·exact Sg7 (by unfold AP;omega)
 ·exact Sh3 (by omega)
end Go.Proofs.YtahpbclnkofhfaaGreat.Mod
end
namespace Go.Proofs.YtahpbclnkofhfaaGreat
section
open Mod
structure TL (p:Pl) (id:Int) (n:Nat) (e:Acc):Prop where
 a:0<=e.a/\e.a < n
 k:e.kind=0/\e.b = -1\/(e.kind=1/\e.b = -1/\(AG p e.a\/∃i,e.a=p.haz id i)\/((e.kind=2\/e.kind=3)/\e.b = -1/\AG p e.a\/(e.kind=4\/e.kind=5)/\AG p e.a/\AG p e.b/\0<=e.b/\e.b < n))
structure IE (p:Pl) (id:Int) (m n:Mm):Prop where
 wt:n.wt=m.wt
 w:n.w.length=m.w.length
 st:n.st=m.st/\n.lg=m.lg\/n.st=m.st+1/\∃e,TL p id m.w.length e/\n.lg=if m.wt then m.lg ++ [e] else m.lg
theorem IE.refl (p:Pl) (id:Int) (m:Mm):IE p id m m:=⟨rfl,rfl,.inl ⟨rfl,rfl⟩⟩
theorem EQ {m:Mm} {a:Int} (h:m.ok a=true):0<=a/\a < m.w.length:=by
 unfold Mm.ok at h
 simpa using h
theorem CR (m:Mac) (a:Int):(m.touch a).acted=true:=by
 unfold Mac.touch
 split <;> rfl
theorem EA (m:Mac) (a:Int):(m.touch a).mm=m.mm:=(S1.touch m a).2.1
section
variable {p:Pl} {id:Int} {m:Mac} {a b o v c q:Int}
theorem SA2:(m.load a).2.acted=true/\IE p id m.mm (m.load a).2.mm:=by
 unfold Mac.load
 dsimp only
 rw [EA]
 split
 ·rename_i h
  exact ⟨CR m a,rfl,rfl,.inr ⟨rfl,_,⟨EQ h,.inl ⟨rfl,rfl⟩⟩,rfl⟩⟩
 ·exact ⟨CR m a,by show IE p id m.mm (m.touch a).mm;rw [EA];exact IE.refl _ _ _⟩
theorem NM (ha:AG p a\/∃i,a=p.haz id i):(m.store a v).acted=true/\IE p id m.mm (m.store a v).mm:=by
 unfold Mac.store
 dsimp only
 rw [EA]
 split
 ·rename_i h
  exact ⟨CR m a,rfl,List.length_set,.inr ⟨rfl,_,⟨EQ h,.inr (.inl ⟨rfl,rfl,ha⟩)⟩,rfl⟩⟩
 ·exact ⟨CR m a,by show IE p id m.mm (m.touch a).mm;rw [EA];exact IE.refl _ _ _⟩
theorem SK4 (ha:AG p a):(m.cas a o v).2.acted=true/\IE p id m.mm (m.cas a o v).2.mm:=by
 unfold Mac.cas
 dsimp only
 rw [EA]
 split
 ·rename_i h
  refine ⟨CR m a,?_⟩
  show IE p id m.mm (m.mm.cas a o v)
  unfold Mm.cas
  split
  ·exact ⟨rfl,List.length_set,.inr ⟨rfl,_,⟨EQ h,.inr (.inr (.inl ⟨.inl rfl,rfl,ha⟩))⟩,rfl⟩⟩
  ·exact ⟨rfl,rfl,.inr ⟨rfl,_,⟨EQ h,.inr (.inr (.inl ⟨.inl rfl,rfl,ha⟩))⟩,rfl⟩⟩
 ·exact ⟨CR m a,by show IE p id m.mm (m.touch a).mm;rw [EA];exact IE.refl _ _ _⟩
theorem SK5 (ha:AG p a):(m.add a v).2.acted=true/\IE p id m.mm (m.add a v).2.mm:=by
 unfold Mac.add
 dsimp only
 rw [EA]
 split
 ·rename_i h
  exact ⟨CR m a,rfl,List.length_set,.inr ⟨rfl,_,⟨EQ h,.inr (.inr (.inl ⟨.inr rfl,rfl,ha⟩))⟩,rfl⟩⟩
 ·exact ⟨CR m a,by show IE p id m.mm (m.touch a).mm;rw [EA];exact IE.refl _ _ _⟩
theorem Ky (m:Mac) (a b:Int):((m.touch a).touch b).mm=m.mm:=by rw [EA,EA]
theorem SA3 (ha:AG p a) (hb:AG p b):(m.dcas a o v b c q).2.acted=true/\IE p id m.mm (m.dcas a o v b c q).2.mm:=by
 unfold Mac.dcas
 dsimp only
 rw [Ky]
 split
 ·rename_i h
  refine ⟨CR _ b,?_⟩
  show IE p id m.mm (m.mm.dcas a o v b c q)
  unfold Mm.dcas
  split
  ·exact ⟨rfl,by show ((m.mm.w.set _ _).set _ _).length=_;rw [List.length_set,List.length_set],.inr ⟨rfl,_,⟨EQ h.1,.inr (.inr (.inr ⟨.inl rfl,ha,hb,EQ h.2.1⟩))⟩,rfl⟩⟩
  ·exact ⟨rfl,rfl,.inr ⟨rfl,_,⟨EQ h.1,.inr (.inr (.inr ⟨.inl rfl,ha,hb,EQ h.2.1⟩))⟩,rfl⟩⟩
 ·exact ⟨CR _ b,by show IE p id m.mm ((m.touch a).touch b).mm;rw [Ky];exact IE.refl _ _ _⟩
theorem SA4 (ha:AG p a) (hb:AG p b):(m.dcss a o v b c).2.acted=true/\IE p id m.mm (m.dcss a o v b c).2.mm:=by
 unfold Mac.dcss
 dsimp only
 rw [Ky]
 split
 ·rename_i h
  refine ⟨CR _ b,?_⟩
  show IE p id m.mm (m.mm.dcss a o v b c)
  unfold Mm.dcss
  split
  ·exact ⟨rfl,List.length_set,.inr ⟨rfl,_,⟨EQ h.1,.inr (.inr (.inr ⟨.inr rfl,ha,hb,EQ h.2⟩))⟩,rfl⟩⟩
  ·exact ⟨rfl,rfl,.inr ⟨rfl,_,⟨EQ h.1,.inr (.inr (.inr ⟨.inr rfl,ha,hb,EQ h.2⟩))⟩,rfl⟩⟩
 ·exact ⟨CR _ b,by show IE p id m.mm ((m.touch a).touch b).mm;rw [Ky];exact IE.refl _ _ _⟩
end
theorem SK6 (m:Mac) (k:Int):(m.next k).2.mm=m.mm/\(m.next k).2.acted=m.acted:=by
 unfold Mac.next
 split <;> exact ⟨rfl,rfl⟩
theorem ST4 (m:Mac) (k:Int):(m.lvl k).2.mm=m.mm/\(m.lvl k).2.acted=m.acted:=by
 unfold Mac.lvl
 split <;> exact ⟨rfl,rfl⟩
structure Mo1 (x y:A9) (b:Bool):Prop where
 f:b=false->y.m.mm=x.m.mm/\y.m.acted=x.m.acted
 t:b=true->y.m.acted=true/\IE x.m.p x.id x.m.mm y.m.mm
theorem Mo1.t1 {x y z:A9} (h:Mo1 x y false) (e:z.m.acted=true/\IE x.m.p x.id y.m.mm z.m.mm):Mo1 x z true:=
 ⟨λe=>(by cases e),λ_=>⟨e.1,by rw [<- (h.f rfl).1];exact e.2⟩⟩
theorem Mo1.same {x y z:A9} {b:Bool} (h:Mo1 x y b) (e:z.m.mm=y.m.mm/\z.m.acted=y.m.acted):Mo1 x z b:=
 ⟨λc=>⟨e.1.trans (h.f c).1,e.2.trans (h.f c).2⟩,λc=>⟨e.2.trans (h.t c).1,by rw [e.1];exact (h.t c).2⟩⟩
theorem Mod.On.mm {x y:A9} {b q:Bool} (h:On x b q y):Mo1 x y b:=by
 induction h with
 | refl=>exact ⟨λ_=>⟨rfl,rfl⟩,λe=>by cases e⟩
 | load _ ih=>exact ih.t1 SA2
 | store _ ha ih=>exact ih.t1 (NM (.inl ha))
 | own _ ih=>exact ih.t1 (NM (.inr ⟨_,rfl⟩))
 | cas _ ha ih=>exact ih.t1 (SK4 ha)
 | add _ ha ih=>exact ih.t1 (SK5 ha)
 | dcas _ ha hb ih=>exact ih.t1 (SA3 ha hb)
 | dcss _ ha hb ih=>exact ih.t1 (SA4 ha hb)
 | next _ ih=>exact ih.same (SK6 _ _)
 | lvl _ ih=>exact ih.same (ST4 _ _)
 | gh _ ih=>exact ih.same ⟨rfl,rfl⟩
 | s _ ih=>exact ih.same ⟨rfl,rfl⟩
 | pc _ _ ih=>exact ih.same ⟨rfl,rfl⟩
 | call _ _ _ ih=>exact ih.same ⟨rfl,rfl⟩
 | fin _ _ ih=>exact ih.same ⟨rfl,rfl⟩
 | pop _ _ ih=>exact ih.same ⟨rfl,rfl⟩
 | push _ _ ih=>exact ih.same ⟨rfl,rfl⟩
 | fo _ ih=>exact ih.same ⟨rfl,rfl⟩
 | re _ ih=>exact ih.same ⟨rfl,rfl⟩
 | setPl _ ih=>exact ih.same ⟨rfl,rfl⟩
structure Fs (f:M6):Prop where
 len:f.r.length=10
 a:AP f.fn->f.pc=90->Fit f.fn (f.g 7) (f.g 8) (f.g 9)
def WY (fn:Int) (l:List M6):Prop:=∃f r,l=f :: r/\f.fn=fn
structure Yy (x y:A9) (q:Bool):Prop where
 a:∀f ∈ y.t.fr,Fs f
 b:∀fn,AP fn->WY fn x.t.fr->WY fn y.t.fr
 c:q=false->y.t.fr≠[]/\y.t.fr.dropLast=x.t.fr.dropLast/\y.f.fn=x.f.fn/\(AP x.f.fn->y.f.pc≠90)
theorem SK7 {j:Int} {r:List Int} (hj:¬ AP j):Fs ⟨j,0,Ad 10 r⟩:=⟨Dc _ _,λh=>absurd h hj⟩
theorem WY.app {fn:Int} {l k:List M6} (h:WY fn l):WY fn (l ++ k):=by
 obtain ⟨f,r,e,ef⟩:=h
 exact ⟨f,r ++ k,by rw [e];rfl,ef⟩
theorem WY.top {fn:Int} {y:A9} {f:M6} (h:WY fn y.t.fr) (hne:y.t.fr≠[]) (hf:f.fn=y.f.fn):WY fn (y.setF f).t.fr:=by
 obtain ⟨g,r,e,eg⟩:=h
 have s:=Ln hne
 show WY fn (y.t.fr.dropLast ++ [f])
 cases hd:y.t.fr.dropLast with
 | nil=>
  rw [hd,e] at s
  refine ⟨f,[],rfl,hf.trans ?_⟩
  have:g=y.t.top:=by cases s;rfl
  rw [<- eg,this]
  rfl
 | cons g2 r2=>
  rw [hd,e] at s
  have:g=g2:=by cases s;rfl
  exact ⟨g2,r2 ++ [f],rfl,by rw [<- this];exact eg⟩
theorem TM {y:A9} {f g:M6} (h:∀f ∈ y.t.fr,Fs f) (hf:Fs f) (hg:g ∈ (y.setF f).t.fr):Fs g:=by
 have hg:g ∈ y.t.fr.dropLast ++ [f]:=hg
 rcases List.mem_append.1 hg with h1 | h1
 ·exact h g (List.dropLast_subset _ h1)
 ·rw [List.mem_singleton.1 h1];exact hf
theorem SA5 {y:A9} {j:Int} {r:List Int} {g:M6} (h:∀f ∈ y.t.fr,Fs f) (hj:¬ AP j) (hg:g ∈ (y.push j r).t.fr):Fs g:=by
 have hg:g ∈ y.t.fr ++ [⟨j,0,Ad 10 r⟩]:=hg
 rcases List.mem_append.1 hg with h1 | h1
 ·exact h g h1
 ·rw [List.mem_singleton.1 h1];exact SK7 hj
theorem TN {t:Thr} (h:t.fr≠[]):t.top ∈ t.fr:=by
 have e:t.top=t.fr.getLast h:=by
  show t.fr.getLast?.getD dfF=_
  rw [List.getLast?_eq_some_getLast h]
  rfl
 rw [e]
 exact List.getLast_mem h
theorem Yy.same {x y z:A9} {q:Bool} (h:Yy x y q) (e:z.t.fr=y.t.fr):Yy x z q:=by
 have ef:z.f=y.f:=by show z.t.fr.getLast?.getD dfF=y.t.fr.getLast?.getD dfF;rw [e]
 exact ⟨by rw [e];exact h.a,by rw [e];exact h.b,by rw [e,ef];exact h.c⟩
theorem Yy.set {x y:A9} {f:M6} (h:Yy x y false) (hf:Fs f) (e1:f.fn=y.f.fn) (e2:AP x.f.fn->f.pc≠90):Yy x (y.setF f) false:=by
 obtain ⟨c1,c2,c3,c4⟩:=h.c rfl
 refine ⟨λg hg=>TM h.a hf hg,λfn ha hb=>(h.b fn ha hb).top c1 e1,λ_=>⟨Bn _ _,?_,?_,?_⟩⟩
 ·show (y.t.fr.dropLast ++ [f]).dropLast=_
  rw [List.dropLast_append_of_ne_nil (by simp)]
  simpa using c2
 ·rw [Hu,e1];exact c3
 ·rw [Hu];exact e2
theorem Yy.push {x y:A9} {q:Bool} {j:Int} {r:List Int} (ha:∀f ∈ y.t.fr,Fs f) (hb:∀fn,AP fn->WY fn x.t.fr->WY fn y.t.fr) (hj:¬ AP j):Yy x (y.push j r) true:=
 ⟨λg hg=>SA5 ha hj hg,λfn a b=>(hb fn a b).app,λe=>by cases e⟩
theorem Yy.topFit {x y:A9} (h:Yy x y false):Fs y.f:=h.a _ (TN (h.c rfl).1)
theorem Mod.On.frs {x y:A9} {b q:Bool} (h:On x b q y) (hne:x.t.fr≠[]) (hA:∀f ∈ x.t.fr,Fs f) (hp:AP x.f.fn->x.f.pc≠90):Yy x y q:=by
 induction h with
 | refl=>exact ⟨hA,λ_ _ h=>h,λ_=>⟨hne,rfl,rfl,hp⟩⟩
 | load _ ih=>exact ih.same rfl
 | store _ ha ih=>exact ih.same rfl
 | own _ ih=>exact ih.same rfl
 | cas _ ha ih=>exact ih.same rfl
 | add _ ha ih=>exact ih.same rfl
 | dcas _ ha hb ih=>exact ih.same rfl
 | dcss _ ha hb ih=>exact ih.same rfl
 | next _ ih=>exact ih.same rfl
 | lvl _ ih=>exact ih.same rfl
 | gh _ ih=>exact ih.same rfl
 | fo _ ih=>exact ih.same rfl
 | re _ ih=>exact ih.same rfl
 | setPl _ ih=>exact ih.same rfl
 | @s _ y i v _ ih=>
  have c4:=(ih.c rfl).2.2.2
  have c3:=(ih.c rfl).2.2.1
  refine ih.set (f:=y.f.s i v) ⟨by rw [R1];exact ih.topFit.len,λh1 h2=>?_⟩ rfl c4
  exact absurd h2 (c4 (by rw [<- c3];exact h1))
 | @pc _ y i _ hi ih=>
  have c3:=(ih.c rfl).2.2.1
  refine ih.set (f:=y.f.at i) ⟨ih.topFit.len,λh1 h2=>?_⟩ rfl hi
  exact absurd h2 (hi (by rw [<- c3];exact h1))
 | @call _ y i j r _ hi hj ih=>
  have c3:=(ih.c rfl).2.2.1
  have:=ih.set (f:=y.f.at i) ⟨ih.topFit.len,λh1 h2=>absurd h2 (hi (by rw [<- c3];exact h1))⟩ rfl hi
  exact Yy.push (q:=true) this.a this.b hj
 | @fin _ y i j k _ hf ih=>
  obtain ⟨c1,c2,c3,c4⟩:=ih.c rfl
  have l0:=ih.topFit.len
  have e:y.fin i j k=(y.setF ((((y.f.s 7 i).s 8 j).s 9 k).at 90)).push 4 []:=by
   unfold A9.fin A9.call A9.pc
   rw [CM,CM,CM]
   unfold A9.s A9.setF Thr.setTop
   simp
  rw [e]
  have l1:(y.f.s 7 i).r.length=10:=by rw [R1];exact l0
  have l2:((y.f.s 7 i).s 8 j).r.length=10:=by rw [R1];exact l1
  have g9:(((y.f.s 7 i).s 8 j).s 9 k).g 9=k:=G5 l2 (by decide) k
  have g8:(((y.f.s 7 i).s 8 j).s 9 k).g 8=j:=(B0 _ (by decide) k).trans (G5 l1 (by decide) j)
  have g7:(((y.f.s 7 i).s 8 j).s 9 k).g 7=i:=((B0 _ (by decide) k).trans (B0 _ (by decide) j)).trans (G5 l0 (by decide) i)
  refine Yy.push (q:=true) (λg hg=>TM ih.a ⟨by rw [R0,R1];exact l2,λh1 _=>?_⟩ hg) (λfn a b=>(ih.b fn a b).top c1 rfl) (by unfold AP;omega)
  have h2:AP x.f.fn:=by rw [<- c3];exact h1
  show Fit y.f.fn ((((y.f.s 7 i).s 8 j).s 9 k).g 7) ((((y.f.s 7 i).s 8 j).s 9 k).g 8) ((((y.f.s 7 i).s 8 j).s 9 k).g 9)
  rw [g7,g8,g9,c3]
  exact hf h2
 | @pop _ y r _ hn ih=>
  obtain ⟨c1,c2,c3,c4⟩:=ih.c rfl
  have e:(y.pop r).t.fr=y.t.fr.dropLast:=by
   show (y.t.pop r).fr=_
   unfold Thr.pop
   rw [if_neg c1]
  refine ⟨λg hg=>ih.a g (List.dropLast_subset _ (by rw [<- e];exact hg)),λfn a hb=>?_,λe=>by cases e⟩
  rw [e,c2]
  obtain ⟨f,l,e1,e2⟩:=hb
  cases l with
  | nil=>
   exfalso
   have:x.f=f:=by show x.t.fr.getLast?.getD dfF=f;rw [e1];rfl
   rw [this,e2] at hn
   exact hn a
  | cons g l=>exact ⟨f,(g :: l).dropLast,by rw [e1];rfl,e2⟩
 | push _ hj ih=>exact Yy.push (q:=true) ih.a ih.b hj
theorem SZ6 (a b c:Int):Ad 3 [a,b,c] = [a,b,c]:=rfl
theorem Mod.Bit.frs {x y:A9} (h:Bit x y) (hne:x.t.fr≠[]) (hA:∀f ∈ x.t.fr,Fs f) :
  (∀f ∈ y.t.fr,Fs f)/\∀fn,AP fn->WY fn x.t.fr->WY fn y.t.fr\/y.t.fr = []/\Fit fn (y.t.ret.getD 0 0) (y.t.ret.getD 1 0) (y.t.ret.getD 2 0):=by
 rcases h with ⟨h1,h2,rfl⟩ | ⟨h1,b,q,h2⟩
 ·have e:(x.pop [x.f.g 7,x.f.g 8,x.f.g 9]).t = { x.t with fr:=x.t.fr.dropLast,ret:=[x.f.g 7,x.f.g 8,x.f.g 9] }:=by
   show x.t.pop _=_
   unfold Thr.pop
   rw [if_neg hne,SZ6]
  rw [e]
  refine ⟨λf hf=>hA f (List.dropLast_subset _ hf),λfn ha hb=>?_⟩
  obtain ⟨f,l,e1,e2⟩:=hb
  cases l with
  | nil=>
   have e3:x.f=f:=by show x.t.fr.getLast?.getD dfF=f;rw [e1];rfl
   have:=(hA _ (TN hne)).a h1 h2
   rw [show x.t.top=f from e3,e2] at this
   refine .inr ⟨by show x.t.fr.dropLast = [];rw [e1];rfl,?_⟩
   show Fit fn (x.f.g 7) (x.f.g 8) (x.f.g 9)
   rw [e3]
   exact this
  | cons g l=>exact .inl ⟨f,(g :: l).dropLast,by show x.t.fr.dropLast=_;rw [e1];rfl,e2⟩
 ·have f:=h2.frs hne hA h1
  exact ⟨f.a,λfn a b=>.inl (f.b fn a b)⟩
theorem Mod.Bit.mm {x y:A9} (h:Bit x y):Mo1 x y false\/Mo1 x y true:=by
 rcases h with ⟨h1,h2,rfl⟩ | ⟨h1,b,q,h2⟩
 ·exact .inl ⟨λ_=>⟨rfl,rfl⟩,λe=>by cases e⟩
 ·cases b
  ·exact .inl h2.mm
  ·exact .inr h2.mm
def Ha (d:A9->A9) (Q:Mod.Cf->M6->Prop):Prop:=∀c x,E3 (Q c) x->x.t.fr≠[]->Bit x (d x)
theorem NN:Ha N7 MoQ:=λc x h hne=>by
 refine TI ?_ hne
 have o:Aa _ _ x.f:=h.top hne
 unfold Aa Z1 at o
 omega
theorem TP:Ha R3 SuQ:=λc x h hne=>by
 refine MM ?_ hne
 have o:M5 _ _ _ x.f:=h.top hne
 unfold M5 Z1 at o
 omega
theorem WZ:Ha U2 LnQ:=λc x h hne=>by
 refine PN ?_ hne
 have o:N6 _ _ _ x.f:=h.top hne
 unfold N6 Z1 at o
 omega
section
variable {d:A9->A9} {Q:Mod.Cf->M6->Prop} {W:A9->Prop} {ins:Int} {c:Mod.Cf}
theorem GK {x z:A9} {n:Nat} (h:Mod.bits d n x=some z) (hs:x.m.acted=true\/x.t.fr = []):z=x:=by
 have e:(x.m.acted || x.t.fr.isEmpty)=true:=by
  rcases hs with h | h <;> simp [h]
 cases n <;> (unfold Mod.bits at h;rw [if_pos e] at h;cases h;rfl)
structure Stp (p:Pl) (x z:A9):Prop where
 one:IE p x.id x.m.mm z.m.mm
 all:∀f ∈ z.t.fr,Fs f
 bot:∀fn,AP fn->WY fn x.t.fr->WY fn z.t.fr\/z.t.fr = []/\Fit fn (z.t.ret.getD 0 0) (z.t.ret.getD 1 0) (z.t.ret.getD 2 0)
theorem TQ (D:It d Q W ins) (hB:Ha d Q) (hc:Fv c=true):∀(n:Nat) (x z:A9),Mod.bits d n x=some z->x.m.acted=false->E3 (Q c) x->x.m.p=D5 c->(∀f ∈ x.t.fr,Fs f)->Stp (D5 c) x z
 | 0,x,z,h,ha,hQ,hp,hF=>by
  have hs:x.t.fr = []:=by
   unfold Mod.bits at h
   split at h
   ·rename_i c;rw [ha] at c;simpa using c
   ·cases h
  have:=GK h (.inr hs)
  subst this
  exact ⟨IE.refl _ _ _,hF,λ_ _ h=>.inl h⟩
 | n+1,x,z,h,ha,hQ,hp,hF=>by
  by_cases hs:x.t.fr = []
  ·have:=GK h (.inr hs)
   subst this
   exact ⟨IE.refl _ _ _,hF,λ_ _ h=>.inl h⟩
  have h:Mod.bits d n (d x)=some z:=by
   unfold Mod.bits at h
   rwa [if_neg (by rw [ha];simpa using hs)] at h
  have b:=hB c x hQ hs
  have f:=b.frs hs hF
  have fx:=(D.st x).fix
  have Q2:=D.all c x hc hp hs hQ
  by_cases hac:(d x).m.acted=true
  ·have:=GK h (.inl hac)
   subst this
   refine ⟨?_,f.1,f.2⟩
   rcases b.mm with m | m
   ·rw [(m.f rfl).2,ha] at hac;cases hac
   ·have:=(m.t rfl).2;rwa [hp] at this
  ·have hac:(d x).m.acted=false:=by simpa using hac
   have em:(d x).m.mm=x.m.mm:=by
    rcases b.mm with m | m
    ·exact (m.f rfl).1
    ·rw [(m.t rfl).1] at hac;cases hac
   have ih:=TQ D hB hc n (d x) z h hac Q2 (fx.p.trans hp) f.1
   refine ⟨by have:=ih.one;rwa [fx.id,em] at this,ih.all,λfn a b1=>?_⟩
   rcases f.2 fn a b1 with b2 | ⟨b2,b3⟩
   ·exact ih.bot fn a b2
   ·have:=GK h (.inr b2)
    subst this
    exact .inr ⟨b2,b3⟩
theorem TR (D:It d Q W ins) (hB:Ha d Q) {i n k:Nat} {m:Mac} {t:Thr} {z:A9} (h:AF Q c i m) (ht:m.th[k]? = some t) (hF:∀f ∈ t.fr,Fs f) (hz:Mod.bits d n ⟨m.quiet,t,k⟩=some z):Stp (D5 c) ⟨m.quiet,t,k⟩ z:=
 TQ D hB h.ok n _ z hz rfl ⟨(h.t t (List.mem_of_getElem? ht)).q⟩ h.p hF
end
end
section
set_option maxHeartbeats 1000000
open Mod
section
variable {d:A9->A9} {Q:Mod.Cf->M6->Prop} {W:A9->Prop} {ins:Int} {c:Mod.Cf} {calls:List (List Cl)} {s:R4} {Inv:Nat->Mac->Prop}
theorem ST5 {l:List Int} {k:Nat} (hk:k < calls.length) (hq:(l.getD k 0).toNat < (calls.getD k []).length) (hn:∀k,k < calls.length->0<=l.getD k 0/\l.getD k 0<=(calls.getD k []).length):∀k',k' < calls.length->0<=(l.set k (l.getD k 0+1)).getD k' 0/\(l.set k (l.getD k 0+1)).getD k' 0<=(calls.getD k' []).length:=by
 intro k' hk'
 have:=hn k' hk'
 by_cases ek:k=k'
 ·subst ek
  rw [List.getD_eq_getElem?_getD (l:=l.set k _),List.getElem?_set]
  split
  ·split
   ·simp only [Option.getD_some];omega
   ·simp only [Option.getD_none];omega
  ·rename_i hh;exact absurd rfl hh
 ·rw [List.getD_eq_getElem?_getD,List.getElem?_set_ne ek,<- List.getD_eq_getElem?_getD]
  exact this
theorem Sh4 {m:Mac} {B9:List Int} {n:Nat} (hn:n < B9.length):SU d ins calls m (B9.take (n+1))=(SU d ins calls m (B9.take n)).pick d ins calls B9[n]:=by
 unfold SU
 rw [List.take_succ_eq_append_getElem hn,List.foldl_append]
 rfl
end
end
end Go.Proofs.YtahpbclnkofhfaaGreat
section
namespace Go.Proofs.YtahpbclnkofhfaaGreat.Mod
def Mm.uw (m:Mm):Mm:={ m with wt:=false,lg:=[] }
def Mac.uw (m:Mac):Mac:={ m with g:=none,mm:=m.mm.uw }
theorem SK8 (m:Mm) (a o n:Int):m.uw.cas a o n=(m.cas a o n).uw:=by
 unfold Mm.cas
 show (if m.get a=o then _ else _)=_
 split <;> rfl
theorem SA6 (m:Mm) (a o n b p q:Int):m.uw.dcas a o n b p q=(m.dcas a o n b p q).uw:=by
 unfold Mm.dcas
 show (if m.get a=o/\m.get b=p then _ else _)=_
 split <;> rfl
theorem SA7 (m:Mm) (a o n b p:Int):m.uw.dcss a o n b p=(m.dcss a o n b p).uw:=by
 unfold Mm.dcss
 show (if m.get a=o/\m.get b=p then _ else _)=_
 split <;> rfl
def A9.uw (x:A9):A9:={ x with m:=x.m.uw }
theorem CF (m:Mac) (a:Int):m.uw.touch a=(m.touch a).uw:=by
 unfold Mac.touch
 show (match m.p.within a with | some n=>_ | none=>_)=_
 cases m.p.within a <;> rfl
theorem SA8 (m:Mac) (a:Int):m.uw.load a=((m.load a).1,(m.load a).2.uw):=by
 unfold Mac.load
 dsimp only
 rw [CF]
 show (if (m.touch a).mm.ok a=true then _ else _)=_
 split <;> rfl
theorem Sh5 (m:Mac) (a v:Int):m.uw.store a v=(m.store a v).uw:=by
 unfold Mac.store
 dsimp only
 rw [CF]
 show (if (m.touch a).mm.ok a=true then _ else _)=_
 split <;> rfl
theorem SK9 (m:Mac) (a o n:Int):m.uw.cas a o n=((m.cas a o n).1,(m.cas a o n).2.uw):=by
 unfold Mac.cas
 dsimp only
 rw [CF]
 show (if (m.touch a).mm.ok a=true then _ else _)=_
 split
 ·show (_,Mac.setM (m.touch a).uw ((m.touch a).mm.uw.cas a o n))=_
  rw [SK8]
  rfl
 ·rfl
theorem SL0 (m:Mac) (a d:Int):m.uw.add a d=((m.add a d).1,(m.add a d).2.uw):=by
 unfold Mac.add
 dsimp only
 rw [CF]
 show (if (m.touch a).mm.ok a=true then _ else _)=_
 split <;> rfl
theorem TS (m:Mac) (a o n b p q:Int):m.uw.dcas a o n b p q=((m.dcas a o n b p q).1,(m.dcas a o n b p q).2.uw):=by
 unfold Mac.dcas
 dsimp only
 rw [CF,CF]
 show (if ((m.touch a).touch b).mm.ok a=true/\((m.touch a).touch b).mm.ok b=true/\a≠b then _ else _)=_
 split
 ·show (_,Mac.setM ((m.touch a).touch b).uw (((m.touch a).touch b).mm.uw.dcas a o n b p q))=_
  rw [SA6]
  rfl
 ·rfl
theorem TT (m:Mac) (a o n b p:Int):m.uw.dcss a o n b p=((m.dcss a o n b p).1,(m.dcss a o n b p).2.uw):=by
 unfold Mac.dcss
 dsimp only
 rw [CF,CF]
 show (if ((m.touch a).touch b).mm.ok a=true/\((m.touch a).touch b).mm.ok b=true then _ else _)=_
 split
 ·show (_,Mac.setM ((m.touch a).touch b).uw (((m.touch a).touch b).mm.uw.dcss a o n b p))=_
  rw [SA7]
  rfl
 ·rfl
theorem TU (m:Mac) (n:Int):m.uw.next n=((m.next n).1,(m.next n).2.uw):=by
 unfold Mac.next
 split <;> rfl
theorem Yz (m:Mac) (n:Int):m.uw.lvl n=((m.lvl n).1,(m.lvl n).2.uw):=by
 unfold Mac.lvl
 split <;> rfl
section
variable (x:A9)
theorem SX6:x.uw.f=x.f:=rfl
theorem ST6:x.uw.t=x.t:=rfl
theorem SN5:x.uw.id=x.id:=rfl
theorem Sh6:x.uw.m=x.m.uw:=rfl
theorem SX7 (m:Mac):m.uw.p=m.p:=rfl
theorem TV (m:Mac):m.uw.acted=m.acted:=rfl
theorem SA9 (i:Nat):x.uw.ret i=x.ret i:=rfl
theorem SX8 (i:Nat) (v:Int):x.uw.s i v=(x.s i v).uw:=rfl
theorem SN6 (i:Int):x.uw.pc i=(x.pc i).uw:=rfl
theorem YA (i:Int) (r:List Int):x.uw.push i r=(x.push i r).uw:=rfl
theorem SB0 (r:List Int):x.uw.pop r=(x.pop r).uw:=rfl
theorem YB (i j:Int) (r:List Int):x.uw.call i j r=(x.call i j r).uw:=rfl
theorem SB1 (i j k:Int):x.uw.fin i j k=(x.fin i j k).uw:=rfl
theorem SN7 (l:List Int):x.uw.fo l=(x.fo l).uw:=rfl
theorem SN8 (l:List Int):x.uw.re l=(x.re l).uw:=rfl
theorem TW (p s w:List Int):x.uw.setPl p s w=(x.setPl p s w).uw:=rfl
theorem SN9 (f:Gh->Gh):x.uw.gh f=(x.gh f).uw:=rfl
theorem SO0 (i:Int):x.uw.at i=x.at i:=rfl
theorem TX (i j:Int):x.uw.nodeW i j=x.nodeW i j:=rfl
theorem TY (i j:Int):x.uw.nlink i j=x.nlink i j:=rfl
theorem SO1 (i j:Int):x.uw.na i j=x.na i j:=rfl
theorem YC (a:Int):x.uw.load a=((x.load a).1,(x.load a).2.uw):=by
 unfold A9.load;rw [Sh6,SA8];rfl
theorem LX (a v:Int):x.uw.store a v=(x.store a v).uw:=by
 unfold A9.store;rw [Sh6,Sh5];rfl
theorem LY (a o n:Int):x.uw.cas a o n=((x.cas a o n).1,(x.cas a o n).2.uw):=by
 unfold A9.cas;rw [Sh6,SK9];rfl
theorem Xa (a d:Int):x.uw.add a d=((x.add a d).1,(x.add a d).2.uw):=by
 unfold A9.add;rw [Sh6,SL0];rfl
theorem TZ (a w p:Int) (b:Bool):x.uw.swing a w p b=((x.swing a w p b).1,(x.swing a w p b).2.uw):=by
 unfold A9.swing;rw [LY];rfl
theorem NO (a w p:Int):x.uw.swingA a w p=((x.swingA a w p).1,(x.swingA a w p).2.uw):=by
 unfold A9.swingA;rw [LY]
theorem NP (a w p:Int) (b:Bool):x.uw.swingM a w p b=((x.swingM a w p b).1,(x.swingM a w p b).2.uw):=by
 unfold A9.swingM;rw [LY]
theorem Ua (n:Int):x.uw.drop1 n=((x.drop1 n).1,(x.drop1 n).2.uw):=by
 unfold A9.drop1;rw [Xa];rfl
theorem Ub (i j:Int):x.uw.guard i j=(x.guard i j).uw:=by
 unfold A9.guard;rw [LX];rfl
theorem Uc (m:Mac):({ x.uw with m:=m.uw }:A9)=({ x with m:=m }:A9).uw:=rfl
theorem SO2 (m:Mac) (t:Thr) (i:Int):(⟨m.uw,t,i⟩ : A9)=(⟨m,t,i⟩ : A9).uw:=rfl
theorem SB2 {c:Prop} [Decidable c] (a b:A9):(if c then a.uw else b.uw)=(if c then a else b).uw:=by split <;> rfl
end
theorem NQ {c:Prop} {i1 i2:Decidable c} {a b a' b':A9} (h1:a=a'.uw) (h2:b=b'.uw):@ite _ c i1 a b=(@ite _ c i2 a' b').uw:=by
 by_cases h:c
 ·rw [if_pos h,if_pos h];exact h1
 ·rw [if_neg h,if_neg h];exact h2
theorem t_uncongW {P:Prop} (h:P:=by (repeat' (first | rfl | apply NQ))):P:=h
theorem BE:type_of% (And.intro @SX6 (And.intro @ST6 (And.intro @SN5 (And.intro @Sh6 (And.intro @SX7 (And.intro @TV (And.intro @SA9 (And.intro @SX8 (And.intro @SN6 (And.intro @YA (And.intro @SB0 (And.intro @YB (And.intro @SB1 (And.intro @SN7 (And.intro @SN8 (And.intro @TW (And.intro @SN9 (And.intro @SO0 (And.intro @TX (And.intro @TY (And.intro @SO1 (And.intro @YC (And.intro @LX (And.intro @LY (And.intro @Xa (And.intro @TZ (And.intro @NO (And.intro @NP (And.intro @Ua (And.intro @Ub (And.intro @TU (And.intro @Yz (And.intro @TT (And.intro @TS (And.intro @Uc (And.intro @SO2 @SB2)))))))))))))))))))))))))))))))))))):=And.intro @SX6 (And.intro @ST6 (And.intro @SN5 (And.intro @Sh6 (And.intro @SX7 (And.intro @TV (And.intro @SA9 (And.intro @SX8 (And.intro @SN6 (And.intro @YA (And.intro @SB0 (And.intro @YB (And.intro @SB1 (And.intro @SN7 (And.intro @SN8 (And.intro @TW (And.intro @SN9 (And.intro @SO0 (And.intro @TX (And.intro @TY (And.intro @SO1 (And.intro @YC (And.intro @LX (And.intro @LY (And.intro @Xa (And.intro @TZ (And.intro @NO (And.intro @NP (And.intro @Ua (And.intro @Ub (And.intro @TU (And.intro @Yz (And.intro @TT (And.intro @TS (And.intro @Uc (And.intro @SO2 @SB2)))))))))))))))))))))))))))))))))))
theorem SB3 (x:A9):alloc x.uw=(alloc x).uw:=by unfold alloc;dsimp only;simp only [BE]
theorem Xb (x:A9):Af x.uw=(Af x).uw:=by unfold Af;dsimp only;simp only [BE]
theorem Xc (x:A9):Ag x.uw=(Ag x).uw:=by unfold Ag;simp only [SB3,Xb];simp only [BE];all_goals exact t_uncongW
theorem Xd (x:A9):Ah x.uw=(Ah x).uw:=by unfold Ah;dsimp only;simp only [BE]
theorem SL1 (x:A9):Ig x.uw=(Ig x).uw:=by unfold Ig;dsimp only;simp only [BE]
theorem Sh7 (x:A9):BJ x.uw=(BJ x).uw:=by unfold BJ;dsimp only;simp only [BE];all_goals exact t_uncongW
theorem SB4 (x:A9) (all:Int):BK x.uw all=(BK x all).uw:=by unfold BK;simp only [BE];all_goals exact t_uncongW
theorem SB5 (x:A9):Fw x.uw=(Fw x).uw:=by
 unfold Fw
 rw [ST6]
 cases x.t.found <;> rfl
theorem SL2 (x:A9):scan x.uw=(scan x).uw:=by
 have e0:(if x.uw.f.pc=0 then x.uw.fo [] else x.uw)=(if x.f.pc=0 then x.fo [] else x).uw:=by exact t_uncongW
 unfold scan
 dsimp only
 rw [e0]
 generalize (if x.f.pc=0 then x.fo [] else x)=y
 simp only [BE]
 simp only [SB4,SB5]
 exact t_uncongW
theorem Gr (x:A9):U1 x.uw=(U1 x).uw:=by unfold U1;simp only [Xd,SL1,Sh7,SL2,Xc];simp only [BE];all_goals exact t_uncongW
theorem SB6 (x:A9):DT x.uw=(DT x).uw:=by unfold DT;dsimp only;simp only [BE];all_goals exact t_uncongW
theorem SB7 (x:A9):DU x.uw=(DU x).uw:=by unfold DU;dsimp only;simp only [BE];all_goals exact t_uncongW
theorem Ud (x:A9):X0 x.uw=(X0 x).uw:=by unfold X0 EJ;dsimp only;simp only [BE];all_goals exact t_uncongW
theorem SB8 (x:A9):DV x.uw=(DV x).uw:=by unfold DV EJ GV Jw;dsimp only;simp only [BE];all_goals exact t_uncongW
theorem SL3 (x:A9):Ii x.uw=(Ii x).uw:=by unfold Ii GW GV Jw;dsimp only;simp only [BE];all_goals exact t_uncongW
theorem SB9 (x:A9):DW x.uw=(DW x).uw:=by unfold DW;simp only [SB7,Ud,SB8,SL3];simp only [BE];all_goals exact t_uncongW
theorem SC0 (x:A9):CS x.uw=(CS x).uw:=by unfold CS;dsimp only;simp only [BE];all_goals exact t_uncongW
theorem SC1 (x:A9):CT x.uw=(CT x).uw:=by unfold CT;dsimp only;simp only [BE];simp only [SC0];all_goals exact t_uncongW
theorem Sh8 (x:A9) (a:Nat) (i j:Int):Z0 x.uw a i j=(Z0 x a i j).uw:=by unfold Z0;dsimp only;simp only [BE];all_goals exact t_uncongW
theorem SC2 (x:A9) (a:Nat) (j:Int):Ds x.uw a j=(Ds x a j).uw:=by unfold Ds;dsimp only;simp only [BE];all_goals exact t_uncongW
theorem Ue (x:A9):Dq x.uw=(Dq x).uw:=by unfold Dq;dsimp only;simp only [BE];all_goals exact t_uncongW
theorem SC3 (x:A9):DY x.uw=(DY x).uw:=by unfold DY;dsimp only;simp only [BE];simp only [Ue];all_goals exact t_uncongW
theorem SC4 (x:A9):DZ x.uw=(DZ x).uw:=by unfold DZ;dsimp only;simp only [BE];simp only [Sh8,SC2,SC3,Ue];simp only [BE];all_goals exact t_uncongW
theorem Xe (x:A9):N7 x.uw=(N7 x).uw:=by unfold N7;simp only [SB6,SB9,SC1,SC4,Gr];simp only [BE];all_goals exact t_uncongW
theorem LZ (x:A9):X1 x.uw=(X1 x).uw:=by unfold X1;dsimp only;simp only [BE];all_goals exact t_uncongW
theorem Uf (x:A9) (w:Int):Ce x.uw w=(Ce x w).uw:=by unfold Ce;dsimp only;simp only [BE];simp only [LZ];all_goals exact t_uncongW
theorem SC5 (x:A9):Ea x.uw=(Ea x).uw:=by unfold Ea;dsimp only;simp only [BE];simp only [LZ,Uf];all_goals exact t_uncongW
theorem SC6 (x:A9):Eb x.uw=(Eb x).uw:=by unfold Eb;dsimp only;simp only [BE];simp only [SC5,Uf];all_goals exact t_uncongW
theorem Sh9 (x:A9):BL x.uw=(BL x).uw:=by unfold BL;simp only [SC6,Gr];simp only [BE];all_goals exact t_uncongW
theorem Si0 (x:A9):BM x.uw=(BM x).uw:=by unfold BM;dsimp only;simp only [BE];all_goals exact t_uncongW
theorem SC7 (x:A9):EK x.uw=(EK x).uw:=by unfold EK;dsimp only;simp only [BE];all_goals exact t_uncongW
theorem Xf (x:A9):Ai x.uw=(Ai x).uw:=by unfold Ai;dsimp only;simp only [BE];all_goals exact t_uncongW
theorem Xg (x:A9):Aj x.uw=(Aj x).uw:=by unfold Aj;dsimp only;simp only [BE];all_goals exact t_uncongW
theorem Xh (x:A9):Ak x.uw=(Ak x).uw:=by unfold Ak;dsimp only;simp only [BE];all_goals exact t_uncongW
theorem Si1 (x:A9):BN x.uw=(BN x).uw:=by unfold BN;simp only [Si0,SC7,Xf,Xg,Xh];simp only [BE];all_goals exact t_uncongW
theorem NR (x:A9):AS x.uw=(AS x).uw:=rfl
theorem Si2 (x:A9):Az x.uw=(Az x).uw:=by unfold Az;dsimp only;simp only [BE];simp only [NR];all_goals exact t_uncongW
theorem Si3 (x:A9):AA x.uw=(AA x).uw:=by unfold AA;dsimp only;simp only [BE];all_goals exact t_uncongW
theorem Si4 (x:A9):AC x.uw=(AC x).uw:=by unfold AC;dsimp only;simp only [BE];all_goals exact t_uncongW
theorem Xi (x:A9):X2 x.uw=(X2 x).uw:=by unfold X2;dsimp only;simp only [BE];simp only [NR];all_goals exact t_uncongW
theorem Si5 (x:A9):BO x.uw=(BO x).uw:=by unfold BO;simp only [Si2,Si3,Si4,Xi];simp only [BE];all_goals exact t_uncongW
theorem PO (x:A9):R3 x.uw=(R3 x).uw:=by unfold R3;dsimp only;simp only [Sh9,Si1,Si5];simp only [BE];all_goals exact t_uncongW
theorem Xj (x:A9):W0 x.uw=(W0 x).uw:=by unfold W0;dsimp only;simp only [BE];all_goals exact t_uncongW
theorem Ug (x:A9):Cg x.uw=(Cg x).uw:=rfl
theorem Si6 (x:A9):BP x.uw=(BP x).uw:=by unfold BP;dsimp only;simp only [BE];simp only [Ug];all_goals exact t_uncongW
theorem SC8 (x:A9):Ec x.uw=(Ec x).uw:=by unfold Ec;dsimp only;simp only [BE];simp only [Ug,Xj,Si6];repeat' (first | with_reducible rfl | apply NQ | rfl)
theorem Uh (x:A9):Z7 x.uw=(Z7 x).uw:=by unfold Z7;simp only [SC8,Gr];simp only [BE];all_goals exact t_uncongW
theorem Si7 (x:A9):BQ x.uw=(BQ x).uw:=by unfold BQ;dsimp only;simp only [BE];all_goals exact t_uncongW
theorem Si8 (x:A9):BR x.uw=(BR x).uw:=by unfold BR;dsimp only;simp only [BE];all_goals exact t_uncongW
theorem NS (x:A9):AT x.uw=(AT x).uw:=rfl
theorem Si9 (x:A9):BS x.uw=(BS x).uw:=by unfold BS;dsimp only;simp only [BE];simp only [NS];all_goals exact t_uncongW
theorem Sj0 (x:A9):BT x.uw=(BT x).uw:=by unfold BT;dsimp only;simp only [BE];simp only [NS,Si9];all_goals exact t_uncongW
theorem Sj1 (x:A9):BV x.uw=(BV x).uw:=by unfold BV;dsimp only;simp only [BE];all_goals exact t_uncongW
theorem SC9 (x:A9):EL x.uw=(EL x).uw:=by unfold EL;dsimp only;simp only [BE];all_goals exact t_uncongW
theorem Xk (x:A9):Al x.uw=(Al x).uw:=by unfold Al;dsimp only;simp only [BE];all_goals exact t_uncongW
theorem Xl (x:A9):Am x.uw=(Am x).uw:=by unfold Am;dsimp only;simp only [BE];all_goals exact t_uncongW
theorem Sj2 (x:A9):BW x.uw=(BW x).uw:=by unfold BW;dsimp only;simp only [BE];all_goals exact t_uncongW
theorem Sj3 (x:A9):BX x.uw=(BX x).uw:=by unfold BX;simp only [Sj1,SC9,Xk,Xl,Sj2];simp only [BE];all_goals exact t_uncongW
theorem Sj4 (x:A9):AU x.uw=(AU x).uw:=by unfold AU;dsimp only;simp only [BE];all_goals exact t_uncongW
theorem SL4 (x:A9):GO x.uw=(GO x).uw:=by unfold GO;dsimp only;simp only [BE];all_goals exact t_uncongW
theorem Sj5 (x:A9):AV x.uw=(AV x).uw:=by unfold AV;dsimp only;simp only [BE];all_goals exact t_uncongW
theorem SD0 (x:A9):CU x.uw=(CU x).uw:=by unfold CU;dsimp only;simp only [BE];all_goals exact t_uncongW
theorem Sj6 (x:A9):AW x.uw=(AW x).uw:=by unfold AW;simp only [Sj4,SL4,Sj5,SD0];simp only [BE];all_goals exact t_uncongW
theorem Ui (x:A9):U2 x.uw=(U2 x).uw:=by unfold U2;dsimp only;simp only [Uh,Sj3,Si7,Si8,Sj0,Sj6];simp only [BE];all_goals exact t_uncongW
theorem PQ {d:A9->A9} (hd:∀x,d x.uw=(d x).uw):∀(n:Nat) (x:A9),bits d n x.uw=(bits d n x).map A9.uw
 | 0,x=>by
  unfold bits
  show (if (x.m.acted || x.t.fr.isEmpty)=true then _ else _)=_
  split <;> rfl
 | n+1,x=>by
  unfold bits
  show (if (x.m.acted || x.t.fr.isEmpty)=true then _ else _)=_
  split
  ·rfl
  ·rw [hd];exact PQ hd n (d x)
end Go.Proofs.YtahpbclnkofhfaaGreat.Mod
end
namespace Go.Proofs.YtahpbclnkofhfaaGreat
section
set_option maxHeartbeats 1000000
open Mod
def Mod.Pl.whr (p:Pl) (a:Int):Int × Int × Int:=
 if a < 0\/p.size<=a then (5,0,0) else if a < p.hazards then (0,a,0) else if a < p.links then (1,(a - p.hazards) / p.slots,(a - p.hazards) % p.slots)
 else if a < p.nodes then (2,a - p.links+1,0) else if a < p.tree then (3,(a - p.nodes) / p.width+1,(a - p.nodes) % p.width) else (4,a - p.tree,0)
structure Xm where
 th:Int
 kind:Int
 done:Bool
 w1:Int × Int × Int
 w2:Int × Int × Int
def IF (x:Xm):List Value:=[iQ x.th,iQ x.kind,dQ x.done,iQ x.w1.1,iQ x.w1.2.1,iQ x.w1.2.2,iQ x.w2.1,iQ x.w2.2.1,iQ x.w2.2.2]
theorem SL5 (x:Xm):(IF x).length=9:=rfl
def U7 (p:Pl) (k:Int) (a:Acc):Xm:=⟨k,a.kind,a.done,p.whr a.a,p.whr a.b⟩
structure BC where
 m:Mac
 nx:List Int
 l:List Xm
def BC.note (s:BC) (k:Int):BC:={ s with l:=s.l ++ (s.m.mm.lg.drop s.l.length).map (U7 s.m.p k) }
def BC.enter (ins:Int) (calls:List (List Cl)) (s:BC) (k:Nat):Option BC:=
 if (F4 s.m k).fr = [] then
  if (calls.getD k []).length<=(s.nx.getD k 0).toNat then none
  else some { s with m:=s.m.setTh (s.m.th.set k ((F4 s.m k).push (ins+((calls.getD k []).getD (s.nx.getD k 0).toNat DA).op) [((calls.getD k []).getD (s.nx.getD k 0).toNat DA).key,((calls.getD k []).getD (s.nx.getD k 0).toNat DA).val])),nx:=s.nx.set k (s.nx.getD k 0+1) }
 else some s
noncomputable def BC.go (d:A9->A9) (s:BC) (k:Nat):BC:={ s with m:=(S9 d ⟨s.m.quiet,F4 s.m k,k⟩).m.setTh (s.m.th.set k (S9 d ⟨s.m.quiet,F4 s.m k,k⟩).t) }
noncomputable def BC.pick (d:A9->A9) (ins:Int) (calls:List (List Cl)) (s:BC) (k:Int):BC:=match s.enter ins calls k.toNat with
 | none=>s
 | some s1=>s1.go d k.toNat
noncomputable def Gs (d:A9->A9) (ins:Int) (calls:List (List Cl)) (m:Mac) (B9:List Int):BC:=B9.foldl (λs k=>(s.pick d ins calls k).note k) ⟨m,List.replicate calls.length 0,[]⟩
structure IA (Inv:Nat->Mac->Prop) (calls:List (List Cl)) (j:Nat) (s:BC):Prop where
 inv:Inv j s.m
 th:s.m.th.length=calls.length
 nx:∀k,k < calls.length->0<=s.nx.getD k 0/\s.nx.getD k 0<=(calls.getD k []).length
def SX9 (p:Pl) (n:Nat) (x:Xm):Prop:=∃e,TL p x.th n e/\x=U7 p x.th e
structure FB (c:Mod.Cf) (s:BC):Prop where
 all:∀(k:Nat) t,s.m.th[k]? = some t->∀f ∈ t.fr,Fs f
 wt:s.m.mm.wt=true
 lg:s.m.mm.lg.length=s.l.length
 en:∀x ∈ s.l,SX9 (D5 c) (D5 c).size.toNat x
section
variable {d:A9->A9} {Q:Mod.Cf->M6->Prop} {W:A9->Prop} {ins:Int} {c:Mod.Cf} {calls:List (List Cl)} {s:BC}
structure SL6 (calls:List (List Cl)) (Inv:Nat->Mac->Prop) (j k:Nat) (s s1:BC):Prop where
 inv:Inv j s1.m
 th:s1.m.th.length=calls.length
 nx:∀k,k < calls.length->0<=s1.nx.getD k 0/\s1.nx.getD k 0<=(calls.getD k []).length
 l:s1.l=s.l
 mm:s1.m.mm=s.m.mm
 ne:(F4 s1.m k).fr≠[]
 all:∀(k:Nat) t,s1.m.th[k]? = some t->∀f ∈ t.fr,Fs f
theorem SO3 {Inv:Nat->Mac->Prop} (G:LC d W ins Inv) (C:Cx calls) {j k:Nat} (hk:k < calls.length) (O:IA Inv calls j s) (F:FB c s) :
  s.pick d ins calls k=s\/∃s1,s.pick d ins calls k=s1.go d k/\SL6 calls Inv j k s s1:=by
 have hk2:k < s.m.th.length:=by rw [O.th];exact hk
 have ht:=V6 hk2
 unfold BC.pick BC.enter
 rw [Int.toNat_natCast]
 by_cases he:(F4 s.m k).fr = []
 ·rw [if_pos he]
  by_cases hlt:(calls.getD k []).length<=(s.nx.getD k 0).toNat
  ·rw [if_pos hlt]
   exact .inl rfl
  rw [if_neg hlt]
  refine .inr ⟨_,rfl,?_⟩
  have hmem:calls.getD k [] ∈ calls:=by
   have:calls.getD k []=calls[k]:=by rw [List.getD_eq_getElem?_getD,List.getElem?_eq_getElem hk];rfl
   rw [this];exact List.getElem_mem hk
  have hqlt:(s.nx.getD k 0).toNat < (calls.getD k []).length:=by omega
  have hcq:(calls.getD k []).getD (s.nx.getD k 0).toNat DA=(calls.getD k [])[(s.nx.getD k 0).toNat]:=by rw [List.getD_eq_getElem?_getD,List.getElem?_eq_getElem hqlt];rfl
  have hcB:=(C.cl _ hmem).2 _ (List.getElem_mem hqlt)
  rw [<- hcq] at hcB
  generalize (calls.getD k []).getD (s.nx.getD k 0).toNat DA=cq at *
  refine ⟨G.push j s.m k _ cq O.inv ht he (PB hcB.1) hcB.2.1 hcB.2.2,?_,ST5 hk hqlt O.nx,rfl,rfl,?_,?_⟩
  ·show (s.m.th.set k _).length=_
   rw [List.length_set];exact O.th
  ·show (F4 (s.m.setTh _) k).fr≠[]
   rw [GJ hk2]
   unfold Mod.Thr.push
   simp
  ·intro k' t h f hf
   have h:(s.m.th.set k ((F4 s.m k).push (ins+cq.op) [cq.key,cq.val]))[k']? = some t:=h
   rw [List.getElem?_set] at h
   split at h
   ·try rw [if_pos (by omega)] at h
    have h:=Option.some.inj h
    subst h
    have hf:f ∈ (F4 s.m k).fr ++ [⟨ins+cq.op,0,Ad 10 [cq.key,cq.val]⟩]:=hf
    rw [he] at hf
    rw [List.mem_singleton.1 hf]
    exact ⟨Dc _ _,λ_ h=>by cases h⟩
   ·exact F.all k' t h f hf
 ·rw [if_neg he]
  exact .inr ⟨s,rfl,O.inv,O.th,O.nx,rfl,rfl,he,F.all⟩
structure TrR (c:Mod.Cf) (k:Int) (s t:BC):Prop where
 a:t.l=s.l/\t.m.mm.st=s.m.mm.st\/t.m.mm.st=s.m.mm.st+1/\∃e,TL (D5 c) k (D5 c).size.toNat e/\t.l=s.l ++ [U7 (D5 c) k e]
theorem YD (D:It d Q W ins) (hB:Ha d Q) (C:Cx calls) {j k:Nat} (hk:k < calls.length) (hj:j < 100000) (O:IA (AF Q c) calls j s) (F:FB c s) :
  IA (AF Q c) calls (j+1) ((s.pick d ins calls k).note k)/\FB c ((s.pick d ins calls k).note k)/\TrR c k s ((s.pick d ins calls k).note k):=by
 have G:=AF.good (c:=c) D
 have hno:s.note k=s:=by
  unfold BC.note
  rw [List.drop_eq_nil_of_le (by rw [F.lg];exact Nat.le_refl _),List.map_nil,List.append_nil]
 rcases SO3 G C hk O F with e | ⟨s1,e,B⟩
 ·rw [e,hno]
  exact ⟨⟨G.mono _ _ O.inv,O.th,O.nx⟩,F,⟨.inl ⟨rfl,rfl⟩⟩⟩
 rw [e]
 have hk3:k < s1.m.th.length:=by rw [B.th];exact hk
 have ht:=V6 hk3
 obtain ⟨nn,z,hz,_,_,hzt,hI2⟩:=G.step j s1.m k _ B.inv hj ht B.ne
 have hzs:S9 d ⟨s1.m.quiet,F4 s1.m k,k⟩=z:=Dz hz
 have S:=TR D hB B.inv ht (B.all k _ ht) hz
 have o:=S.one
 have e2:(⟨s1.m.quiet,F4 s1.m k,(k:Int)⟩ : A9).m.mm=s.m.mm:=B.mm
 rw [e2] at o
 have hw:(s.m.mm.w.length:Int)=(D5 c).size:=O.inv.w
 have hwn:s.m.mm.w.length=(D5 c).size.toNat:=by omega
 have hp:z.m.p=D5 c:=hI2.p
 have hgo:s1.go d k = { s1 with m:=z.m.setTh (s1.m.th.set k z.t) }:=by
  unfold BC.go
  rw [hzs]
 have hall:∀(k':Nat) t,(s1.m.th.set k z.t)[k']? = some t->∀f ∈ t.fr,Fs f:=by
  intro k' t h
  rw [List.getElem?_set] at h
  split at h
  ·try rw [if_pos (by omega)] at h
   have h:=Option.some.inj h
   subst h
   exact S.all
  ·exact B.all k' t h
 have ht2:(s1.m.th.set k z.t).length=calls.length:=by rw [List.length_set];exact B.th
 rw [hgo]
 refine ⟨⟨hI2,ht2,B.nx⟩,?_⟩
 rcases o.st with ⟨q1,q2⟩ | ⟨q1,a,q2,q3⟩
 ·have en:(BC.note { s1 with m:=z.m.setTh (s1.m.th.set k z.t) } k).l=s.l:=by
   show s1.l ++ (z.m.mm.lg.drop s1.l.length).map _=_
   rw [B.l,q2,List.drop_eq_nil_of_le (by rw [F.lg];exact Nat.le_refl _),List.map_nil,List.append_nil]
  refine ⟨⟨hall,o.wt.trans F.wt,?_,?_⟩,⟨.inl ⟨en,q1⟩⟩⟩
  ·rw [en]
   show z.m.mm.lg.length=_
   rw [q2];exact F.lg
  ·rw [en];exact F.en
 ·rw [hwn] at q2
  rw [F.wt,if_pos rfl] at q3
  have en:(BC.note { s1 with m:=z.m.setTh (s1.m.th.set k z.t) } k).l=s.l ++ [U7 (D5 c) k a]:=by
   show s1.l ++ (z.m.mm.lg.drop s1.l.length).map (U7 z.m.p k)=_
   rw [B.l,q3,hp,<- F.lg,List.drop_left]
   rfl
  refine ⟨⟨hall,o.wt.trans F.wt,?_,?_⟩,⟨.inr ⟨q1,a,q2,en⟩⟩⟩
  ·rw [en]
   show z.m.mm.lg.length=_
   rw [q3,List.length_append,List.length_append,F.lg]
   rfl
  ·rw [en]
   intro x hx
   rcases List.mem_append.1 hx with h | h
   ·exact F.en x h
   ·rw [List.mem_singleton.1 h]
    exact ⟨a,q2,rfl⟩
theorem Uj {d:A9->A9} (hd:∀x:A9,d x.uw=(d x).uw) (x:A9):S9 d x.uw=(S9 d x).uw:=by
 by_cases h:∃z,∃n,Mod.bits d n x=some z
 ·obtain ⟨z,n,hz⟩:=h
  have h2:Mod.bits d n x.uw=some z.uw:=by rw [PQ hd,hz];rfl
  rw [Dz hz,Dz h2]
 ·have h2:¬ ∃z,∃n,Mod.bits d n x.uw=some z:=by
   rintro ⟨z,n,hz⟩
   rw [PQ hd] at hz
   cases hb:Mod.bits d n x with
   | none=>rw [hb] at hz;cases hz
   | some y=>exact h ⟨y,n,hb⟩
  unfold S9
  rw [dif_neg h,dif_neg h2]
structure Lk (s:R4) (t:BC):Prop where
 m:s.m.uw=t.m.uw
 nx:s.nx=t.nx
theorem SZ7 (s:R4) (k:Nat):(s.go d k).m=(S9 d ⟨s.m.quiet,F4 s.m k,k⟩).m.setTh (s.m.th.set k (S9 d ⟨s.m.quiet,F4 s.m k,k⟩).t)/\(s.go d k).nx=s.nx:=by
 unfold R4.go
 split
 ·have:=SN0 { s with m:=(S9 d ⟨s.m.quiet,F4 s.m k,k⟩).m.setTh (s.m.th.set k (S9 d ⟨s.m.quiet,F4 s.m k,k⟩).t) } k (Fz (S9 d ⟨s.m.quiet,F4 s.m k,k⟩).t)
  exact ⟨this.1,this.2.1⟩
 ·exact ⟨rfl,rfl⟩
theorem Lk.go (hd:∀x:A9,d x.uw=(d x).uw) {s:R4} {t:BC} (h:Lk s t) (k:Nat):Lk (s.go d k) (t.go d k):=by
 have g:=SZ7 (d:=d) s k
 have a1:F4 s.m k=F4 t.m k:=by show F4 s.m.uw k=F4 t.m.uw k;rw [h.m]
 have a2:s.m.th=t.m.th:=by show s.m.uw.th=t.m.uw.th;rw [h.m]
 have e:(S9 d ⟨s.m.quiet,F4 s.m k,k⟩).uw=(S9 d ⟨t.m.quiet,F4 t.m k,k⟩).uw:=by
  rw [<- Uj hd,<- Uj hd,a1]
  show S9 d ⟨s.m.uw.quiet,_,_⟩=S9 d ⟨t.m.uw.quiet,_,_⟩
  rw [h.m]
 refine ⟨?_,g.2.trans h.nx⟩
 rw [g.1]
 unfold BC.go
 rw [a2]
 generalize S9 d ⟨s.m.quiet,F4 s.m k,k⟩=z at *
 generalize S9 d ⟨t.m.quiet,F4 t.m k,k⟩=y at *
 have e1:z.t=y.t:=by show z.uw.t=y.uw.t;rw [e]
 have e2:z.m.uw=y.m.uw:=by show z.uw.m=y.uw.m;rw [e]
 rw [e1]
 show z.m.uw.setTh (t.m.th.set k y.t)=y.m.uw.setTh (t.m.th.set k y.t)
 rw [e2]
theorem Lk.pick (hd:∀x:A9,d x.uw=(d x).uw) {s:R4} {t:BC} (h:Lk s t) (k:Int):Lk (s.pick d ins calls k) ((t.pick d ins calls k).note k):=by
 have a1:F4 s.m k.toNat=F4 t.m k.toNat:=by show F4 s.m.uw k.toNat=F4 t.m.uw k.toNat;rw [h.m]
 have a2:s.m.th=t.m.th:=by show s.m.uw.th=t.m.uw.th;rw [h.m]
 have hn:∀s1:R4,∀t1:BC,Lk s1 t1->Lk s1 (t1.note k):=λs1 t1 h1=>⟨h1.m,h1.nx⟩
 refine hn _ _ ?_
 unfold R4.pick BC.pick BC.enter R4.begin
 rw [a1,h.nx]
 by_cases he:(F4 t.m k.toNat).fr = []
 ·rw [if_pos he,if_pos he]
  by_cases hl:(calls.getD k.toNat []).length<=(t.nx.getD k.toNat 0).toNat
  ·rw [if_pos hl,if_pos hl]
   dsimp only
   exact ⟨h.m,rfl⟩
  ·rw [if_neg hl,if_neg hl]
   dsimp only
   refine Lk.go hd ?_ _
   generalize (calls.getD k.toNat []).getD (t.nx.getD k.toNat 0).toNat DA=cq
   obtain ⟨i1,i2,_⟩:=SM9 { s with m:=s.m.setTh (s.m.th.set k.toNat ((F4 t.m k.toNat).push (ins+cq.op) [cq.key,cq.val])),nx:=t.nx.set k.toNat (t.nx.getD k.toNat 0+1) } k.toNat cq
   refine ⟨?_,i2⟩
   rw [i1,a2]
   have e3:∀L,(s.m.setTh L).uw=(t.m.setTh L).uw:=λL=>by show s.m.uw.setTh L=t.m.uw.setTh L;rw [h.m]
   exact e3 _
 ·rw [if_neg he,if_neg he]
  exact Lk.go hd h _
end
end
section
set_option maxRecDepth 100000
def F38 (K:kQ) (h:A2) (xa:Option Addr) (xb:Bool):Prop:=
 (D0 (!(Option.isNone xa)) (nP xa λa=>C4 h (a.add 2) (dQ xb) λa=>K tQ a) (K tQ h))
theorem call38 {K:kQ} {h:A2} {xa:Option Addr} {xb:Bool} (H:F38 K h xa xb):A5 Tryz.prog 38 #[(pQ xa),(dQ xb)] h K:=
 cQ Tryz.func38 H
def F78 (K:kQ) (h:A2) (xa:Option Addr):Prop:=
 (D0 (Option.isNone xa) (K (lQ none 0 0) h) (nP xa λa=>lS h (a.add 3) λa b c=>cf 131 #[lQ a b c] h λa b=>C8 a λa c d=>K (lQ a c d) b))
theorem call78 {K:kQ} {h:A2} {xa:Option Addr} (H:F78 K h xa):A5 Tryz.prog 78 #[(pQ xa)] h K:=
 cQ Tryz.func78 H
end
end Go.Proofs.YtahpbclnkofhfaaGreat
