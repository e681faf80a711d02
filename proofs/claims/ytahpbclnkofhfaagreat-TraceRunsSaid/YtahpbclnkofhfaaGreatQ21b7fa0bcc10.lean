/- Part 13 of what the proofs of this seat rest on: see the last text of the claim. -/
import Derived.Test.YtahpbclnkofhfaaGreatQb29b91d0450b
import Derived.Test.YtahpbclnkofhfaaGreatProg
set_option linter.unusedSimpArgs false
set_option linter.unusedVariables false
set_option linter.ambiguousOpen false
set_option maxRecDepth 20000
namespace Go.Proofs.YtahpbclnkofhfaaGreat
section
set_option maxHeartbeats 1000000
open Mod
theorem Xn {K:kQ} {h:A2} {p:Pl} {a:Int} (B:Me p) (ha:iN a) (k:∀h',G4 h.size h h'->K (.tuple #[iQ (p.whr a).1,iQ (p.whr a).2.1,iQ (p.whr a).2.2]) h'):A5 Tryz.prog 80 #[Mt p,iQ a] h K:=by
 refine call80 ?_
 unfold F80 g80 lI
 have b0:=B.sl
 have b1:=B.wi
 have b2:=B.hz
 have b3:=B.tr
 have b4:=B.nd
 have b5:=B.li
 have b6:=B.si
 unfold Mod.Pl.whr at k
 rw [FV]
 have p1:=J8 h (Di p).toArray 117
 generalize h.push (oQ (Di p).toArray 117)=h1 at *
 have o1:=p1.toOld
 refine ⟨λvs h'=>(∃w,vs = [dQ (decide (a < 0) || decide (a >= p.size)),w])/\h' = h1,?_,?_⟩
 ·refine A4 (λq=>⟨⟨_,by rw [decide_eq_true q];rfl⟩,by trivial⟩) (λq=>?_)
  refine C5 p1.new rfl ?_
  simp only [A6]
  exact ⟨⟨_,by rw [decide_eq_false q,Bool.false_or]⟩,by trivial⟩
 rintro v3 v4 g5 h6 ⟨⟨_,e⟩,rfl⟩
 cases e
 simp only [B6]
 refine C7 (λq=>?_) (λq=>?_)
 ·rw [Bool.or_eq_true,decide_eq_true_eq,decide_eq_true_eq] at q
  rw [if_pos (by omega)] at k
  exact k _ o1
 rw [Bool.or_eq_false_iff,decide_eq_false_iff_not,decide_eq_false_iff_not] at q
 rw [if_neg (by omega)] at k
 refine C5 p1.new rfl ?_
 simp only [A6]
 refine A4 (λq1=>?_) (λq1=>?_)
 ·rw [if_pos (by omega)] at k
  exact k _ o1
 rw [if_neg (by omega)] at k
 refine C5 p1.new rfl ?_
 simp only [A6]
 refine A4 (λq2=>?_) (λq2=>?_)
 ·rw [if_pos q2] at k
  refine C5 p1.new rfl ?_
  simp only [A6]
  refine C5 p1.new rfl ?_
  simp only [A6]
  refine ⟨by omega,C5 p1.new rfl ?_⟩
  simp only [A6]
  refine C5 p1.new rfl ?_
  simp only [A6]
  refine ⟨by omega,?_⟩
  have hd0:0<=(a - p.hazards) / p.slots:=Int.ediv_nonneg (by omega) (by omega)
  have hd1:(a - p.hazards) / p.slots<=a - p.hazards:=Int.ediv_le_self _ (by omega)
  rw [D8 (n:=a - p.hazards) (by omega) (by omega),Int.tdiv_eq_ediv_of_nonneg (by omega),D8 (n:=(a - p.hazards) / p.slots) (by omega) (by omega),Int.tmod_eq_emod_of_nonneg (by omega)]
  exact k _ o1
 rw [if_neg q2] at k
 refine C5 p1.new rfl ?_
 simp only [A6]
 refine A4 (λq3=>?_) (λq3=>?_)
 ·rw [if_pos q3] at k
  refine C5 p1.new rfl ?_
  simp only [A6]
  rw [D8 (n:=a - p.links) (by omega) (by omega),D8 (n:=a - p.links+1) (by omega) (by omega)]
  exact k _ o1
 rw [if_neg q3] at k
 refine C5 p1.new rfl ?_
 simp only [A6]
 refine A4 (λq4=>?_) (λq4=>?_)
 ·rw [if_pos q4] at k
  refine C5 p1.new rfl ?_
  simp only [A6]
  refine C5 p1.new rfl ?_
  simp only [A6]
  refine ⟨by omega,C5 p1.new rfl ?_⟩
  simp only [A6]
  refine C5 p1.new rfl ?_
  simp only [A6]
  refine ⟨by omega,?_⟩
  have hd0:0<=(a - p.nodes) / p.width:=Int.ediv_nonneg (by omega) (by omega)
  have hd1:(a - p.nodes) / p.width<=a - p.nodes:=Int.ediv_le_self _ (by omega)
  rw [D8 (n:=a - p.nodes) (by omega) (by omega),Int.tdiv_eq_ediv_of_nonneg (by omega),D8 (n:=(a - p.nodes) / p.width) (by omega) (by omega),D8 (n:=(a - p.nodes) / p.width+1) (by omega) (by omega),Int.tmod_eq_emod_of_nonneg (by omega)]
  exact k _ o1
 ·rw [if_neg q4] at k
  refine C5 p1.new rfl ?_
  simp only [A6]
  rw [D8 (by omega) (by omega)]
  exact k _ o1
abbrev trC (X:RX) (la:Option Addr) (ln lc:Nat):List Value:=[mP X.Q,iQ X.c.algo,iQ X.c.threads,iQ X.c.nodes,iQ X.c.level,iQ X.c.batch,iQ X.c.probes,iQ X.c.scan,lQ X.ca X.cl X.cc,lQ X.pa X.pl X.pc,lQ X.da X.dl X.dc,lQ (some ⟨X.NB,0,none⟩) X.n X.n,lQ la ln lc]
def NT (X:RX) (s:BC):Hp:=ex λla=>ex λlc=>pr (s.nx.length=X.n)
 (pt X.RB (oQ (trC X la s.l.length lc).toArray 89)*(F3 51 9 la s.l.length lc (s.l.flatMap IF)*(pt X.NB (oQ (s.nx.map iv).toArray 3)*Cu X.Q X.M X.f X.ins X.Ts s.m)))
theorem Cz {h:A2} {X:RX} {s:BC} {R:Hp}:A7 h (NT X s*R)↔∃la lc,s.nx.length=X.n /\
  A7 h (pt X.RB (oQ (trC X la s.l.length lc).toArray 89)*(F3 51 9 la s.l.length lc (s.l.flatMap IF)*(pt X.NB (oQ (s.nx.map iv).toArray 3)*(Cu X.Q X.M X.f X.ins X.Ts s.m*R)))):=by
 unfold NT
 simp only [A7.ex,A7.pr,E7]
theorem ST7:AH Tryz.prog 47=.slice 51:=by kernel_rfl
theorem SD1:J7 Tryz.prog 51=true:=by kernel_rfl
theorem ST8:Gw Tryz.prog 51=some (.agg #[iQ 0,iQ 0,dQ false,iQ 0,iQ 0,iQ 0,iQ 0,iQ 0,iQ 0]):=by kernel_rfl
theorem PR:L7 Tryz.prog 51=9:=by kernel_rfl
theorem SD2:Eo Tryz.prog 51=72:=by kernel_rfl
theorem ST9:AH Tryz.prog 124=.slice 144:=by kernel_rfl
theorem SD3:J7 Tryz.prog 144=true:=by kernel_rfl
theorem SU0:Gw Tryz.prog 144=some (.agg #[iQ 0,iQ 0,iQ 0,dQ false]):=by kernel_rfl
theorem Xo:L7 Tryz.prog 144=4:=by kernel_rfl
theorem SD4:Eo Tryz.prog 144=32:=by kernel_rfl
section
variable {K:kQ} {h:A2} {X:RX} {s:BC} {R:Hp} {calls:List (List Cl)} {B9:List Int}
theorem SD5 (H:A7 h (NT X s*R)) {k:Nat} (hk:k < X.n):A3 h ⟨X.NB,k,none⟩=some (iQ (s.nx.getD k 0)):=by
 obtain ⟨la,lc,hl,H1⟩:=Cz.1 H
 have hk2:k < s.nx.length:=by omega
 rw [E0 (H1.drop.drop).at]
 simp [hk2,iv]
theorem SD6 (H:A7 h (NT X s*R)) {k:Nat} (hk:k < X.n) {v:Int} {F:A2->Prop} (kk:∀h',A7 h' (NT X { s with nx:=s.nx.set k v }*R)->F h'):C4 h ⟨X.NB,k,none⟩ (iQ v) F:=by
 obtain ⟨la,lc,hl,H1⟩:=Cz.1 H
 have hk2:k < s.nx.length:=by omega
 rw [Hr] at H1
 refine CK (row:=s.nx.map iv) (i:=k) H1 (by simpa using hk2) trivial λh' H'=>kk h' ?_
 have e:(s.nx.map iv).set k (iQ v)=(s.nx.set k v).map iv:=by rw [List.map_set];try rfl
 rw [e,<- Hr] at H'
 exact Cz.2 ⟨la,lc,by simp [hl],H'⟩
theorem IB (H:A7 h (NT X s*R)):∃la lc,h[X.RB]? = some (oQ (trC X la s.l.length lc).toArray 89):=by
 obtain ⟨la,lc,hl,H1⟩:=Cz.1 H
 exact ⟨la,lc,H1.at⟩
theorem PS (H:A7 h (NT X s*R)):∃Q':Hp,A7 h (Cu X.Q X.M X.f X.ins X.Ts s.m*(Q' * R))/\∀h' m' P,A7 h' (Cu X.Q X.M X.f X.ins X.Ts m' * (Q' * P))->A7 h' (NT X { s with m:=m' }*P):=by
 obtain ⟨la,lc,hl,H1⟩:=Cz.1 H
 refine ⟨pt X.RB (oQ (trC X la s.l.length lc).toArray 89)*(F3 51 9 la s.l.length lc (s.l.flatMap IF)*pt X.NB (oQ (s.nx.map iv).toArray 3)),A7.ac H1 (by ac_rfl),λh' m' P H'=>?_⟩
 exact Cz.2 ⟨la,lc,hl,A7.ac H' (by ac_rfl)⟩
theorem PT {a:Option Addr} {n c:Nat} {lg:List Acc} (hs:N8 h a (lg.flatMap Ew)) (hn:lg.length=n) (h0:a=none->n=0) (hb:n<=1000000) (k:∀h' a' c',G4 h.size h h'->(∀P:Hp,A7 h P->A7 h' (F3 144 4 a' n c' (lg.flatMap Ew)*P))->K (lQ a' n c') h') :
  A5 Tryz.prog 131 #[lQ a n c] h K:=by
 refine call131 ?_
 unfold F131
 refine C7 (λhh=>?_) (λhh=>?_)
 ·have ea:a=none:=by cases a with | none=>rfl | some x=>cases hh
  have hn0:=h0 ea
  subst hn0
  have e0:lg = []:=List.length_eq_zero_iff.1 hn
  subst e0
  exact k h none 0 (G4.refl _ _) λP HP=>HP.own_new 144 4
 ·have o1:G4 h.size h (h.push (oQ #[] 144)):=(G4.refl _ _).push _ (Nat.le_refl _)
  have hs1:=hs.old o1
  have ow:CG (h.push (oQ #[] 144)) 144 (L7 Tryz.prog 144) (some (aQ h.size)) 0 0 []:=⟨by simp,Nat.le_refl _,.inr ⟨h.size,#[],rfl,by simp,by simp,by simp⟩⟩
  have sz:(h.push (oQ #[] 144)).size=h.size+1:=by simp
  generalize h.push (oQ #[] 144)=h1 at *
  refine GC ST9 SD3 SU0 (by rw [Xo];rfl) ow hs1 (n:=n) (by rw [Xo,EG Lc,hn]) (λy hy=>?_) (by rw [SD4];omega) (by rw [SD4];omega) λa' c' h2 o' hsz old ha=>?_
  ·obtain ⟨x,_,hx⟩:=List.mem_flatMap.1 hy
   simp only [Ew,List.mem_cons,List.not_mem_nil,or_false] at hx
   rcases hx with rfl | rfl | rfl | rfl <;> trivial
  rw [Nat.zero_add] at o' ⊢
  try simp only [B4,F2,Nat.reduceAdd,Int.reduceLE,Int.reduceLT,Int.reduceToNat]
  have o2:G4 h.size h h2:=⟨by omega,λb hb=>(old b (by omega) λad ea=>by cases ea;exact λe=>by simp at e;omega).trans (o1.2 b hb)⟩
  have fb:∀b,GN a' b->h.size<=b:=by
   rintro b ⟨ad,e,rfl⟩
   rcases ha with ha | ⟨ha,_⟩
   ·rw [e] at ha;cases ha;exact Nat.le_refl _
   ·rw [e] at ha;cases ha;show h.size<=h1.size;omega
  rw [Xo,List.nil_append] at o'
  exact k h2 a' c' o2 λP HP=>HP.mk_new o2 (λb hb=>⟨fb b hb,o'.lt2 hb⟩) o'.nd λh'' e=>o'.congr e
theorem Uk {q:Nat} {m:Mm} (H:A7 h (O9 q m*R)) (hb:m.lg.length<=1000000) (k:∀h' a c,G4 h.size h h'->(∀P:Hp,A7 h P->A7 h' (F3 144 4 a m.lg.length c (m.lg.flatMap Ew)*P))->K (lQ a m.lg.length c) h') :
  A5 Tryz.prog 78 #[mP q] h K:=by
 refine call78 ?_
 unfold F78 cf lS nP
 obtain ⟨b,la,lc,MB,H1⟩:=Z8.1 H
 refine C7 (λhh=>by cases hh) (λ_=>?_)
 try simp only [B4,F2,Nat.reduceAdd,Int.reduceLE,Int.reduceLT,Int.reduceToNat]
 refine H1.ld rfl ?_
 try simp only [B4,F2,Nat.reduceAdd,Int.reduceLE,Int.reduceLT,Int.reduceToNat]
 have ow:=H1.drop.drop.own
 refine A0 (PT ow.sees rfl (λe=>?_) hb λh2 a c o2 own=>?_)
 ·obtain ⟨_,h2,h3⟩:=ow
  rcases h3 with ⟨_,hc⟩ | ⟨b,row,e2,_⟩
  ·omega
  ·rw [e] at e2;cases e2
 ·try simp only [B4,F2,Nat.reduceAdd,Int.reduceLE,Int.reduceLT,Int.reduceToNat]
  exact k h2 a c o2 own
theorem MN {q:Nat} {m:Mm} {on:Bool} (H:A7 h (O9 q m*R)) (k:∀h',A7 h' (O9 q { m with wt:=on }*R)->K tQ h'):A5 Tryz.prog 38 #[mP q,dQ on] h K:=by
 refine call38 ?_
 unfold F38 nP
 obtain ⟨b,la,lc,MB,H1⟩:=Z8.1 H
 refine C7 (λ_=>?_) (λhh=>by cases hh)
 try simp only [B4,F2,Nat.reduceAdd,Int.reduceLE,Int.reduceLT,Int.reduceToNat]
 refine H1.st (i:=2) rfl trivial λh' H'=>k h' (Z8.2 ⟨b,la,lc,⟨MB.len,MB.st,MB.lg,MB.us⟩,H'⟩)
def TrI (d:A9->A9) (X:RX) (R:Hp) (calls:List (List Cl)) (Inv:Nat->Mac->Prop) (j k:Nat) (s:BC) (h':A2):Prop:=
 ∃s1:BC,s.pick d X.ins calls k=s1.go d k/\Inv j s1.m/\s1.m.th.length=calls.length/\(∀k,k < calls.length->0<=s1.nx.getD k 0/\s1.nx.getD k 0<=(calls.getD k []).length)/\s1.l=s.l/\(F4 s1.m k).fr≠[]/\A7 h' (NT X s1*R)
variable {d:A9->A9} {W:A9->Prop} {Inv:Nat->Mac->Prop}
theorem Ul (D:DoC X.f d W) (G:LC d W X.ins Inv) (C:Cx calls) (hn:X.n=calls.length) (hins:0<=X.ins/\X.ins<=100) (H:A7 h (NT X s*R)) (hS:∀h' P,A7 h' (P*R)->Sz h' X.ca X.cl X.pa X.pl calls B9) {j k:Nat} (hk:k < calls.length) (hj:j < 100000) (O:IA Inv calls j s)
  (kk:∀h',IA Inv calls (j+1) (s.pick d X.ins calls k)->(s.pick d X.ins calls k).l=s.l->A7 h' (NT X (s.pick d X.ins calls k)*R)->K tQ h') :
  A5 Tryz.prog 39 #[mP X.RB,iQ k] h K:=by
 refine call39 ?_
 unfold F39 cf bd lS lP lI nP
 have hk2:k < s.m.th.length:=by rw [O.th];exact hk
 have hC:=C.n
 refine ⟨λ_ h'=>TrI d X R calls Inv j k s h',?_,?_⟩
 ·obtain ⟨la,lc,O1⟩:=IB H
  try simp only [B4,F2,Nat.reduceAdd,Int.reduceLE,Int.reduceLT,Int.reduceToNat]
  refine C5 O1 rfl ?_
  try simp only [B4,F2,Nat.reduceAdd,Int.reduceLE,Int.reduceLT,Int.reduceToNat]
  obtain ⟨Q',H2,re⟩:=PS H
  refine A0 (En H2 hk2 ?_)
  try simp only [B4,F2,Nat.reduceAdd,Int.reduceLE,Int.reduceLT,Int.reduceToNat]
  refine C7 (λhb=>?_) (λhb=>?_)
  ·have he:(F4 s.m k).fr = []:=List.isEmpty_iff.1 (by simpa using hb)
   have scr:∀ {h':A2} {P:Hp},A7 h' (P*R)->Sz h' X.ca X.cl X.pa X.pl calls B9:=λH'=>hS _ _ H'
   have F0:=scr H
   have hcs:=F0.cs
   have cN:=SD5 H (k:=k) (by omega)
   have hnx:=O.nx k hk
   obtain ⟨ra,rc,⟨ad,ea2,hcr⟩,hrow⟩:=F0.row k hk
   refine C5 O1 rfl ?_
   try simp only [B4,F2,Nat.reduceAdd,Int.reduceLE,Int.reduceLT,Int.reduceToNat]
   refine ⟨by omega,by omega,?_⟩
   refine D3 cN ?_
   try simp only [B4,F2,Nat.reduceAdd,Int.reduceLE,Int.reduceLT,Int.reduceToNat]
   refine C5 O1 rfl ?_
   rw [ea2]
   try simp only [B4,F2,Nat.reduceAdd,Int.reduceLE,Int.reduceLT,Int.reduceToNat]
   refine ⟨by omega,by omega,?_⟩
   refine D3 hcr ?_
   try simp only [B4,F2,Nat.reduceAdd,Int.reduceLE,Int.reduceLT,Int.reduceToNat]
   refine A4 (λc1=>?_) (λc1=>?_)
   ·have e:s.pick d X.ins calls k=s:=by
     unfold BC.pick BC.enter
     rw [Int.toNat_natCast,if_pos he,if_pos (by omega)]
    rw [e] at kk
    exact kk h ⟨G.mono _ _ O.inv,O.th,O.nx⟩ rfl H
   refine C5 O1 rfl ?_
   try simp only [B4,F2,Nat.reduceAdd,Int.reduceLE,Int.reduceLT,Int.reduceToNat]
   refine C5 O1 rfl ?_
   rw [ea2]
   try simp only [B4,F2,Nat.reduceAdd,Int.reduceLE,Int.reduceLT,Int.reduceToNat]
   refine ⟨by omega,by omega,?_⟩
   refine D3 hcr ?_
   try simp only [B4,F2,Nat.reduceAdd,Int.reduceLE,Int.reduceLT,Int.reduceToNat]
   refine C5 O1 rfl ?_
   try simp only [B4,F2,Nat.reduceAdd,Int.reduceLE,Int.reduceLT,Int.reduceToNat]
   refine ⟨by omega,by omega,?_⟩
   refine D3 cN ?_
   try simp only [B4,F2,Nat.reduceAdd,Int.reduceLE,Int.reduceLT,Int.reduceToNat]
   refine ⟨by omega,by omega,?_⟩
   generalize hq:(s.nx.getD k 0).toNat=q at *
   have hqlt:q < (calls.getD k []).length:=by omega
   have hmem:calls.getD k [] ∈ calls:=by
    have:calls.getD k []=calls[k]:=by rw [List.getD_eq_getElem?_getD,List.getElem?_eq_getElem hk];rfl
    rw [this];exact List.getElem_mem hk
   have hcq:(calls.getD k []).getD q DA=(calls.getD k [])[q]:=by rw [List.getD_eq_getElem?_getD,List.getElem?_eq_getElem hqlt];rfl
   have hcB:=(C.cl _ hmem).2 _ (List.getElem_mem hqlt)
   have hlen:=(C.cl _ hmem).1
   have g0:=N3 Bm hqlt (j:=0) (by omega)
   have g1:=N3 Bm hqlt (j:=1) (by omega)
   have g2:=N3 Bm hqlt (j:=2) (by omega)
   rw [<- hcq] at g0 g1 g2 hcB
   have hbeg:s.enter X.ins calls k=some { s with m:=s.m.setTh (s.m.th.set k ((F4 s.m k).push (X.ins+((calls.getD k []).getD q DA).op) [((calls.getD k []).getD q DA).key,((calls.getD k []).getD q DA).val])),nx:=s.nx.set k (s.nx.getD k 0+1) }:=by
    unfold BC.enter
    rw [if_pos he,hq,if_neg (by omega)]
   generalize (calls.getD k []).getD q DA=cq at *
   obtain ⟨ad3,ea3,q0⟩:=hrow (q*3+0) (.int .i64 cq.op) g0
   subst ea3
   obtain ⟨_,ea4,q1⟩:=hrow (q*3+1) (.int .u32 cq.key) g1
   cases ea4
   obtain ⟨_,ea4,q2⟩:=hrow (q*3+2) (.int .u32 cq.val) g2
   cases ea4
   have aa:∀i,(ad3.add (q*3)).add i=ad3.add (q*3+i):=λi=>BH _ _ _
   rw [Nat.add_zero] at q0
   try simp only [B4,F2,Nat.reduceAdd,Int.reduceLE,Int.reduceLT,Int.reduceToNat,aa]
   refine D3 q0 (D3 q1 (D3 q2 ?_))
   obtain ⟨hok,hkey,hval⟩:=hcB
   refine A0 (Is H2 (i:=k) (c:=cq) hins ⟨hkey,hval⟩ (λhh=>by omega) (λ_ hh=>by rw [hok] at hh;cases hh) (λ_ _ hh=>absurd he (by rw [Int.toNat_natCast] at hh;exact hh)) λ_ _ _ h5 H5=>?_)
   rw [Int.toNat_natCast] at H5
   have H6:=re _ _ _ H5
   try simp only [B4,F2,Nat.reduceAdd,Int.reduceLE,Int.reduceLT,Int.reduceToNat]
   obtain ⟨la5,lc5,O5⟩:=IB H6
   have cN5:=SD5 H6 (k:=k) (by omega)
   refine C5 O5 rfl ?_
   try simp only [B4,F2,Nat.reduceAdd,Int.reduceLE,Int.reduceLT,Int.reduceToNat]
   refine ⟨by omega,by omega,?_⟩
   refine D3 cN5 ?_
   try simp only [B4,F2,Nat.reduceAdd,Int.reduceLE,Int.reduceLT,Int.reduceToNat]
   refine ⟨by omega,by omega,?_⟩
   have hs1:F5 (s.nx.getD k 0+1)=s.nx.getD k 0+1:=by unfold F5;omega
   rw [hs1]
   refine SD6 H6 (by omega) λh7 H7=>?_
   refine ⟨{ m:=s.m.setTh (s.m.th.set k ((F4 s.m k).push (X.ins+cq.op) [cq.key,cq.val])),nx:=s.nx.set k (s.nx.getD k 0+1),l:=s.l },?_,?_,?_,?_,rfl,?_,H7⟩
   ·unfold BC.pick
    rw [Int.toNat_natCast,hbeg]
   ·exact G.push j s.m k (F4 s.m k) cq O.inv (V6 hk2) he (PB hok) hkey hval
   ·show (s.m.th.set k _).length=_
    rw [List.length_set];exact O.th
   ·intro k' hk'
    have:=O.nx k' hk'
    show 0<=(s.nx.set k _).getD k' 0/\(s.nx.set k _).getD k' 0<=_
    by_cases ek:k=k'
    ·subst ek
     rw [List.getD_eq_getElem?_getD,List.getElem?_set]
     split
     ·split
      ·simp only [Option.getD_some];omega
      ·simp only [Option.getD_none];omega
     ·rename_i hh;exact absurd rfl hh
    ·rw [List.getD_eq_getElem?_getD,List.getElem?_set_ne ek,<- List.getD_eq_getElem?_getD]
     exact this
   ·have e9:F4 (s.m.setTh (s.m.th.set k ((F4 s.m k).push (X.ins+cq.op) [cq.key,cq.val]))) k=(F4 s.m k).push (X.ins+cq.op) [cq.key,cq.val]:=GJ hk2
    show (F4 (s.m.setTh (s.m.th.set k ((F4 s.m k).push (X.ins+cq.op) [cq.key,cq.val]))) k).fr≠[]
    rw [e9];unfold Mod.Thr.push;simp
  ·have hne:(F4 s.m k).fr≠[]:=λe=>by rw [e] at hb;cases hb
   refine ⟨s,?_,O.inv,O.th,O.nx,rfl,hne,H⟩
   unfold BC.pick BC.enter
   rw [Int.toNat_natCast,if_neg hne]
 rintro g63 h64 ⟨s1,ep,hI1,ht1,hn1,hl1,hne1,H1⟩
 obtain ⟨la,lc,O1⟩:=IB H1
 try simp only [B4,F2,Nat.reduceAdd,Int.reduceLE,Int.reduceLT,Int.reduceToNat]
 refine C5 O1 rfl ?_
 try simp only [B4,F2,Nat.reduceAdd,Int.reduceLE,Int.reduceLT,Int.reduceToNat]
 obtain ⟨Q',H2,re⟩:=PS H1
 have hk3:k < s1.m.th.length:=by omega
 obtain ⟨nn,z,hz,hs,hid,_,hI2⟩:=G.step j s1.m k _ hI1 hj (V6 hk3) hne1
 have hzs:S9 d ⟨s1.m.quiet,F4 s1.m k,k⟩=z:=Dz hz
 have hgo:s1.go d k = { s1 with m:=z.m.setTh (s1.m.th.set k z.t) }:=by
  unfold BC.go
  rw [hzs]
 have ht2:(z.m.setTh (s1.m.th.set k z.t)).th.length=calls.length:=by
  show (s1.m.th.set k z.t).length=_
  rw [List.length_set];exact ht1
 rw [ep,hgo] at kk
 refine A0 (JS D H2 (n:=nn) (z:=z) hk3 hne1 hz hs hid (λhne2 h3 H3=>?_) λhnil h3 H3=>?_)
 all_goals exact kk h3 ⟨hI2,ht2,hn1⟩ hl1 (re _ _ _ H3)
end
end
section
open Mod
theorem PU {v0 v1 v2:Value} {F:Value->Prop} (k:F v0):D2 #[v0,v1,v2] 0 F:=k
theorem PV {v0 v1 v2:Value} {F:Value->Prop} (k:F v1):D2 #[v0,v1,v2] 1 F:=k
theorem PW {v0 v1 v2:Value} {F:Value->Prop} (k:F v2):D2 #[v0,v1,v2] 2 F:=k
theorem SY0 {v0 v1 v2 v3 v4 v5 v6 v7 v8 v9:Value} {F:Value->Value->Value->Value->Value->Value->Value->Value->Value->Value->Prop} (k:F v0 v1 v2 v3 v4 v5 v6 v7 v8 v9):asAgg (.agg #[v0,v1,v2,v3,v4,v5,v6,v7,v8,v9]) λvs=>G0 vs 10 (D2 vs 0 λa=>D2 vs 1 λb=>D2 vs 2 λc=>D2 vs 3 λd=>D2 vs 4 λe=>D2 vs 5 λf=>D2 vs 6 λg=>D2 vs 7 λh=>D2 vs 8 λi=>D2 vs 9 λj=>F a b c d e f g h i j):=k
section
variable {K:kQ} {h:A2} {R:Hp} {calls:List (List Cl)} {B9 draws:List Int}
theorem Sj7 {c:Mod.Cf} (H:A7 h R) (k1:Fv c=true->∀h',A7 h' R->K (dQ true) h') (k0:Fv c=false->∀h',A7 h' R->K (dQ false) h') :
  A5 Tryz.prog 9 #[.agg #[iQ c.algo,iQ c.threads,iQ c.nodes,iQ c.level,iQ c.batch,iQ c.probes,iQ c.scan]] h K:=by
 refine Wd (ZD c) (λhr h' o=>k1 ((Cq c).1 hr) h' (H.old o)) (λhr h' o=>k0 ?_ h' (H.old o))
 rw [<- Bool.not_eq_true]
 exact λhh=>hr ((Cq c).2 hh)
end
theorem Um {h:A2} {b:Nat} {row:List Value} {t:TypeId} (hb:h[b]? = some (oQ row.toArray t)):N8 h (some (aQ b)) row:=by
 intro i v hi
 refine ⟨_,rfl,?_⟩
 rw [E1,Nat.zero_add]
 exact E9 hb hi
theorem SD7 {th n:Nat} {calls:List (List Cl)} {B9 draws:List Int} (hth:1<=th/\th<=6) (hn:n<=1000) (R:SC calls B9 draws):Cx (M8 th n calls):=by
 refine ⟨by rw [Ct];omega,λl hl=>?_⟩
 have o:=Jh R hn l hl
 refine ⟨by omega,λx hx=>⟨?_,(o.2 x hx).2⟩⟩
 unfold M8 at hl
 obtain ⟨i,_,rfl⟩:=List.mem_map.1 hl
 unfold CO at hx
 obtain ⟨y,_,rfl⟩:=List.mem_map.1 hx
 exact TD y
theorem Xp {th:Int} (hth:1<=th/\th<=6) {m:Nat} {B9:List Int}:∀p ∈ U6 th m B9,0<=p/\p < th:=by
 intro k hk
 unfold U6 at hk
 obtain ⟨k0,_,rfl⟩:=List.mem_map.1 hk
 exact NA hth k0
end
section
set_option maxHeartbeats 1000000
open Mod
section
variable {K:kQ} {h:A2} {X:RX} {s:BC} {R:Hp} {calls:List (List Cl)} {B9 draws:List Int}
theorem Un {Q M f:Nat} {ins:Int} {Ts:List Nat} {m:Mac} (H:A7 h (Cu Q M f ins Ts m*R)) (k:∀q R',A7 h (O9 q m.mm*R')->(∀h' m',A7 h' (O9 q m' * R')->A7 h' (Cu Q M f ins Ts (m.setM m')*R))->K (mP q) h):A5 Tryz.prog 32 #[mP M] h K:=by
 obtain ⟨a,c,hl,H1⟩:=V2.1 (Y4.1 H)
 exact Ll H1 λq R' HM re=>k q R' HM λh' m' H'=>Y4.2 (V2.2 ⟨a,c,hl,re h' m' H'⟩)
theorem Kb {Q M f:Nat} {ins:Int} {Ts:List Nat} {m:Mac} (H:A7 h (Cu Q M f ins Ts m*R)) (k:Me m.p->∀h',G4 h.size h h'->K (Mt m.p) h'):A5 Tryz.prog 79 #[mP M] h K:=by
 obtain ⟨a,c,hl,H1⟩:=V2.1 (Y4.1 H)
 exact Fb H1 (k (XW H1))
theorem SY1 (x:Xm):(IF x).toArray=#[iQ x.th,iQ x.kind,dQ x.done,iQ x.w1.1,iQ x.w1.2.1,iQ x.w1.2.2,iQ x.w2.1,iQ x.w2.2.1,iQ x.w2.2.2]:=rfl
theorem SY2 {e:Xm} {la:Option Addr} {lc:Nat} {l:List Xm} {G:Hp} (H:A7 h (pt X.RB (oQ (trC X la l.length lc).toArray 89)*(F3 51 9 la l.length lc (l.flatMap IF)*G))) (hb:l.length<=1000000) {F:A2->Prop}
  (k:∀h' la' lc',A7 h' (pt X.RB (oQ (trC X la' (l ++ [e]).length lc').toArray 89)*(F3 51 9 la' (l ++ [e]).length lc' ((l ++ [e]).flatMap IF)*G))->F h') :
  T2 Tryz.prog #[47,47] 47 #[lQ la l.length lc,lQ (some (aQ h.size)) 1 1] (h.push (oQ #[iQ e.th,iQ e.kind,dQ e.done,iQ e.w1.1,iQ e.w1.2.1,iQ e.w1.2.2,iQ e.w2.1,iQ e.w2.2.1,iQ e.w2.2.2] 51))
   λv h'=>C8 v λo k1 k2=>C4 h' ⟨X.RB,12,none⟩ (lQ o k1 k2) F:=by
 have H2:=H.push (oQ (IF e).toArray 51)
 have hs:N8 (h.push (oQ (IF e).toArray 51)) (some (aQ h.size)) (IF e):=λj v hj=>⟨_,rfl,by rw [E1,Nat.zero_add,E0 H2.at];simpa using hj⟩
 rw [<- SY1]
 generalize h.push (oQ (IF e).toArray 51)=h2 at *
 generalize h.size=N at *
 have H3:=H2.drop
 rw [D4,<- PR] at H3
 refine H3.app ST7 SD1 ST8 (by rw [PR];rfl) hs (n:=1) (by rw [PR];rfl) (λy hy=>?_) (by rw [SD2];omega) (by rw [SD2];omega) λa' c' h3 H4=>?_
 ·simp only [IF,List.mem_cons,List.not_mem_nil,or_false] at hy
  rcases hy with rfl | rfl | rfl | rfl | rfl | rfl | rfl | rfl | rfl <;> trivial
 rw [PR,D4] at H4
 refine sb ?_
 refine H4.st (i:=12) rfl trivial λh4 H5=>k h4 a' c' ?_
 have e1:(l ++ [e]).length=l.length+1:=by simp
 have e2:(l ++ [e]).flatMap IF=l.flatMap IF ++ IF e:=by simp
 rw [e1,e2]
 exact H5
theorem Kc {p:Pl} {a:Int} {v0 v1 v2 v3 v4 v5 v6 v7 v8 v9 v10 v11 v12 v13 v14:Value} (e:Mt p=.agg #[v0,v1,v2,v3,v4,v5,v6,v7,v8,v9,v10,v11,v12,v13,v14]) (B:Me p) (ha:iN a) (k:∀h',G4 h.size h h'->K (.tuple #[iQ (p.whr a).1,iQ (p.whr a).2.1,iQ (p.whr a).2.2]) h') :
  A5 Tryz.prog 80 #[.agg #[v0,v1,v2,v3,v4,v5,v6,v7,v8,v9,v10,v11,v12,v13,v14],iQ a] h K:=by
 rw [<- e]
 exact Xn B ha k
def SY3 (X:RX) (s:BC) (kk:Int) (R:Hp) (a:Option Addr) (c:Nat) (vs:List Value) (h':A2):Prop:=
 ∃(i:Nat) (u1 u2:Value),vs = [iQ i,u1,u2]/\i<=s.m.mm.lg.length - s.l.length /\
  A7 h' (NT X { s with l:=s.l ++ ((s.m.mm.lg.drop s.l.length).take i).map (U7 s.m.p kk) }*(F3 144 4 a s.m.mm.lg.length c (s.m.mm.lg.flatMap Ew)*R))
theorem Uo {kk:Int} (H:A7 h (NT X s*R)) (hle:s.l.length<=s.m.mm.lg.length) (hb:s.m.mm.lg.length<=100000) (hE:∀e ∈ s.m.mm.lg.drop s.l.length,iN e.a/\iN e.b)
  (k:∀h',A7 h' (NT X (s.note kk)*R)->K tQ h'):A5 Tryz.prog 40 #[mP X.RB,iQ kk,iQ (s.l.length:Nat)] h K:=by
 refine call40 ?_
 unfold F40 cf ce lP lI nP N0 dl9
 obtain ⟨la,lc,O1⟩:=IB H
 try simp only [B4,F2,Nat.reduceAdd,Int.reduceLE,Int.reduceLT,Int.reduceToNat]
 refine C5 O1 rfl ?_
 try simp only [B4,F2,Nat.reduceAdd,Int.reduceLE,Int.reduceLT,Int.reduceToNat]
 obtain ⟨Q',H2,re⟩:=PS H
 refine A0 (Cv H2 ?_)
 try simp only [B4,F2,Nat.reduceAdd,Int.reduceLE,Int.reduceLT,Int.reduceToNat]
 refine A0 (Hy H2 λq R' HM=>?_)
 try simp only [B4,F2,Nat.reduceAdd,Int.reduceLE,Int.reduceLT,Int.reduceToNat]
 refine A0 (Uk HM (by omega) λh4 a c o4 own=>?_)
 have H4:=own _ H
 rw [D4] at H4
 try simp only [B4,F2,Nat.reduceAdd,Int.reduceLE,Int.reduceLT,Int.reduceToNat]
 rw [Aw,RM,show min (s.l.length:Int) (s.m.mm.lg.length:Int)=(s.l.length:Int) by omega]
 refine ⟨by omega,by omega,?_⟩
 simp only [Int.toNat_natCast]
 refine ⟨SY3 X s kk R a c,λvs _=>match vs with | [.int _ i,_,_]=>((s.m.mm.lg.length - s.l.length:Nat) - i:Int).toNat | _=>0,⟨0,_,_,rfl,Nat.zero_le _,?_⟩,?_⟩
 ·rw [List.take_zero,List.map_nil,List.append_nil]
  exact H4
 rintro v19 v20 v21 g22 h23 ⟨i,u1,u2,e,hi,H5⟩
 cases e
 refine sb ?_
 refine A4 (λc1=>?_) (λc1=>?_)
 ·have hi2:s.l.length+i < s.m.mm.lg.length:=by omega
  refine ⟨by omega,by omega,?_⟩
  have ow:=H5.drop.own
  have hlc:=ow.2.1
  have hsub:=ow.sees.subn (n:=4) (i:=s.l.length) (m:=c) (by rw [EG Lc];omega) (by omega)
  have g:∀j,j < 4->((s.m.mm.lg.flatMap Ew).drop (s.l.length*4))[i*4+j]? = (Ew s.m.mm.lg[s.l.length+i])[j]?:=λj hj=>by
   rw [List.getElem?_drop,show s.l.length*4+(i*4+j)=(s.l.length+i)*4+j by omega]
   exact N3 Lc hi2 hj
  have hmem:s.m.mm.lg[s.l.length+i] ∈ s.m.mm.lg.drop s.l.length:=by
   rw [List.mem_iff_getElem?]
   exact ⟨i,by rw [List.getElem?_drop,List.getElem?_eq_getElem hi2]⟩
  have hnext:(s.m.mm.lg.drop s.l.length).take (i+1)=(s.m.mm.lg.drop s.l.length).take i ++ [s.m.mm.lg[s.l.length+i]]:=by
   rw [List.take_succ_eq_append_getElem (by rw [List.length_drop];omega)]
   simp
  have hEa:=hE _ hmem
  generalize s.m.mm.lg[s.l.length+i]=e at *
  obtain ⟨ad,ea,q0⟩:=hsub (i*4+0) (.int .i64 e.kind) (g 0 (by omega))
  rw [ea] at hsub ⊢
  obtain ⟨_,ea1,q1⟩:=hsub (i*4+1) (.int .i64 e.a) (g 1 (by omega))
  cases ea1
  obtain ⟨_,ea1,q2⟩:=hsub (i*4+2) (.int .i64 e.b) (g 2 (by omega))
  cases ea1
  obtain ⟨_,ea1,q3⟩:=hsub (i*4+3) (.bool e.done) (g 3 (by omega))
  cases ea1
  clear hsub g ea
  have aa:∀j,(ad.add (i*4)).add j=ad.add (i*4+j):=λj=>BH _ _ _
  rw [Nat.add_zero] at q0
  try simp only [B4,F2,Nat.reduceAdd,Int.reduceLE,Int.reduceLT,Int.reduceToNat,aa]
  refine D3 q0 (D3 q1 (D3 q2 (D3 q3 ?_)))
  have H6:=H5.push (oQ #[iQ 0,iQ 0,iQ 0,dQ false] 144)
  generalize h23.push (oQ #[iQ 0,iQ 0,iQ 0,dQ false] 144)=h6 at *
  generalize h23.size=AB at *
  refine F6 (vs:=Ew e) H6.at rfl (by simp [Ew,J3]) λh7 w=>?_
  have H7:=H6.wr w.new w.old
  clear H6 w
  refine C5 H7.at rfl ?_
  refine sb ?_
  refine C5 H7.at rfl ?_
  refine sb ?_
  have H8:=H7.push (oQ #[iQ 0,iQ 0,dQ false,iQ 0,iQ 0,iQ 0,iQ 0,iQ 0,iQ 0] 51)
  generalize h7.push (oQ #[iQ 0,iQ 0,dQ false,iQ 0,iQ 0,iQ 0,iQ 0,iQ 0,iQ 0] 51)=h8 at *
  generalize h7.size=SB at *
  refine F6 (vs:=IF ⟨kk,e.kind,e.done,(0,0,0),(0,0,0)⟩) H8.at rfl (by simp [IF,J3]) λh9 w=>?_
  have H9:=H8.wr w.new w.old
  clear H8 w H7
  refine C5 H9.at2 rfl ?_
  refine sb ?_
  have su:∀ {h':A2} {P:Hp},A7 h' (P*(NT X { s with l:=s.l ++ ((s.m.mm.lg.drop s.l.length).take i).map (U7 s.m.p kk) }*(F3 144 4 a s.m.mm.lg.length c (s.m.mm.lg.flatMap Ew)*R)))->∃Q'':Hp,A7 h' (Cu X.Q X.M X.f X.ins X.Ts s.m*Q''):=λH'=>by
   obtain ⟨Q1,H2,_⟩:=PS H'.drop
   exact ⟨_,H2⟩
  obtain ⟨Q1,Hsu⟩:=su H9.drop
  refine A0 (Kb Hsu λB h10 o10=>AZ ?_)
  have H10:=H9.old o10
  refine ⟨E9 H10.at2 rfl,?_⟩
  refine A0 (Kc rfl B hEa.1 λh11 o11=>?_)
  have H11:=H10.old o11
  refine sb ?_
  refine PU ?_
  refine sb ?_
  refine PV ?_
  refine sb ?_
  refine PW ?_
  refine sb ?_
  refine H11.st (i:=3) rfl trivial λh12 H12=>?_
  refine H12.st (i:=4) rfl trivial λh13 H13=>?_
  refine H13.st (i:=5) rfl trivial λh14 H14=>?_
  clear H9 H10 H11 H12 H13 Hsu
  refine C5 H14.at2 rfl ?_
  refine sb ?_
  obtain ⟨Q2,Hsu⟩:=su H14.drop
  refine A0 (Kb Hsu λ_ h15 o15=>AZ ?_)
  have H15:=H14.old o15
  refine ⟨E9 H15.at2 rfl,?_⟩
  refine A0 (Kc rfl B hEa.2 λh16 o16=>?_)
  have H16:=H15.old o16
  refine sb ?_
  refine PU ?_
  refine sb ?_
  refine PV ?_
  refine sb ?_
  refine PW ?_
  refine sb ?_
  refine H16.st (i:=6) rfl trivial λh17 H17=>?_
  refine H17.st (i:=7) rfl trivial λh18 H18=>?_
  refine H18.st (i:=8) rfl trivial λh19 H19=>?_
  have H20:A7 h19 (pt SB (oQ (IF (U7 s.m.p kk e)).toArray 51)*_):=H19
  clear H14 H15 H16 H17 H18 H19 Hsu
  have H21:=A7.ac H20 (show _=NT X { s with l:=s.l ++ ((s.m.mm.lg.drop s.l.length).take i).map (U7 s.m.p kk) }*(pt SB (oQ (IF (U7 s.m.p kk e)).toArray 51)*(pt AB (oQ (Ew e).toArray 144)*(F3 144 4 a s.m.mm.lg.length c (s.m.mm.lg.flatMap Ew)*R))) by ac_rfl)
  clear H20
  obtain ⟨la,lc,hl,H22⟩:=Cz.1 H21
  have hll:(s.l ++ ((s.m.mm.lg.drop s.l.length).take i).map (U7 s.m.p kk)).length<=1000000:=by
   rw [List.length_append,List.length_map,List.length_take]
   omega
  have en:s.l ++ ((s.m.mm.lg.drop s.l.length).take (i+1)).map (U7 s.m.p kk)=(s.l ++ ((s.m.mm.lg.drop s.l.length).take i).map (U7 s.m.p kk)) ++ [U7 s.m.p kk e]:=by
   rw [hnext,List.map_append,<- List.append_assoc]
   rfl
  refine C5 H22.at rfl ?_
  refine sb ?_
  have OS:=H22.drop.drop.drop.drop.at
  refine C5 OS rfl (C5 OS rfl (C5 OS rfl (C5 OS rfl (C5 OS rfl (C5 OS rfl (C5 OS rfl (C5 OS rfl (C5 OS rfl ?_))))))))
  refine ⟨E4 (E9 H22.at rfl),?_⟩
  refine SY2 (e:=U7 s.m.p kk e) H22 hll λh23 la' lc' H23=>?_
  rw [<- en] at H23
  have H24:=A7.ac ((Cz (s:={ s with l:=s.l ++ ((s.m.mm.lg.drop s.l.length).take (i+1)).map (U7 s.m.p kk) })).2 ⟨la',lc',hl,H23⟩) (show _=pt SB (oQ (IF (U7 s.m.p kk e)).toArray 51)*(pt AB (oQ (Ew e).toArray 144)*(NT X { s with l:=s.l ++ ((s.m.mm.lg.drop s.l.length).take (i+1)).map (U7 s.m.p kk) }*(F3 144 4 a s.m.mm.lg.length c (s.m.mm.lg.flatMap Ew)*R))) by ac_rfl)
  rw [show F5 ((i:Int)+1)=((i+1:Nat):Int) from by rw [<- Int.natCast_add_one];exact Bg _ (by omega)]
  refine ⟨⟨i+1,_,_,rfl,by omega,H24.drop.drop⟩,?_⟩
  show (((s.m.mm.lg.length - s.l.length:Nat):Int) - ((i+1:Nat):Int)).toNat < (((s.m.mm.lg.length - s.l.length:Nat):Int) - (i:Int)).toNat
  omega
 ·have ei:(s.m.mm.lg.drop s.l.length).take i=s.m.mm.lg.drop s.l.length:=List.take_of_length_le (by rw [List.length_drop];omega)
  rw [ei] at H5
  rw [D4] at H5
  exact k h23 H5.drop
end
section
variable {d:A9->A9} {Q:Mod.Cf->M6->Prop} {W:A9->Prop} {ins:Int} {c:Mod.Cf} {calls:List (List Cl)} {s:BC}
theorem SY4 (D:It d Q W ins) (hB:Ha d Q) (C:Cx calls) {j k:Nat} (hk:k < calls.length) (hj:j < 100000) (O:IA (AF Q c) calls j s) (F:FB c s) :
  (s.pick d ins calls k).m.mm.lg=s.m.mm.lg\/∃e,TL (D5 c) k (D5 c).size.toNat e/\(s.pick d ins calls k).m.mm.lg=s.m.mm.lg ++ [e]:=by
 have G:=AF.good (c:=c) D
 rcases SO3 G C hk O F with e | ⟨s1,e,B⟩
 ·rw [e];exact .inl rfl
 rw [e]
 have hk3:k < s1.m.th.length:=by rw [B.th];exact hk
 have ht:=V6 hk3
 obtain ⟨nn,z,hz,_,_,hzt,hI2⟩:=G.step j s1.m k _ B.inv hj ht B.ne
 have hzs:S9 d ⟨s1.m.quiet,F4 s1.m k,k⟩=z:=Dz hz
 have S:=TR D hB B.inv ht (B.all k _ ht) hz
 have o:=S.one
 have e2:(⟨s1.m.quiet,F4 s1.m k,(k:Int)⟩ : A9).m.mm=s.m.mm:=B.mm
 rw [e2] at o
 have hw:(s.m.mm.w.length:Int)=(D5 c).size:=O.inv.w
 have hwn:s.m.mm.w.length=(D5 c).size.toNat:=by omega
 have hgo:(s1.go d k).m.mm=z.m.mm:=by
  unfold BC.go
  rw [hzs]
  rfl
 rw [hgo]
 rcases o.st with ⟨_,q2⟩ | ⟨_,a,q2,q3⟩
 ·exact .inl q2
 ·rw [hwn] at q2
  rw [F.wt,if_pos rfl] at q3
  exact .inr ⟨a,q2,q3⟩
end
def Mod.Mac.watch (m:Mac):Mac:=m.setM { m.mm with wt:=true }
theorem Gt {m:Mm} (h:m.wt=false/\m.lg = []) (a v:Int):(m.store a v).wt=false/\(m.store a v).lg = []:=by
 unfold Mm.store
 split
 ·refine ⟨h.1,?_⟩
  show (if m.wt=true then m.lg ++ [_] else m.lg) = []
  rw [h.1,h.2];rfl
 ·exact h
theorem Ma (f:Nat->Int × Int):∀(l:List Nat) (m:Mm),m.wt=false/\m.lg = []->(l.foldl (λm i=>m.store (f i).1 (f i).2) m).wt=false/\(l.foldl (λm i=>m.store (f i).1 (f i).2) m).lg = []
 | [],m,h=>h
 | i :: l,m,h=>Ma f l _ (Gt h _ _)
theorem SU1 (p:Pl):(lay p).wt=false/\(lay p).lg = []:=by
 unfold lay
 dsimp only
 have h2:=λ(m:Mm) (h:m.wt=false/\m.lg = []) (a b:Int)=>Gt (Ma (λi=>(p.link (p.sent+1+i),p.sent+1+i+1)) (List.range (p.c.nodes - (p.sent+1)).toNat) m h) a b
 have h1:=h2 _ (Gt (m:=⟨List.replicate p.size.toNat 0,0,false,[]⟩) ⟨rfl,rfl⟩ 0 (Y0 (p.sent+1) false 0)) 2 1
 split
 ·exact h1
 ·exact Ma (λi=>(p.node 1 (5+i),Y0 2 false 0)) _ _ (Gt (Gt h1 _ _) _ _)
def ts0 (m:Mac) (n:Nat):BC:=⟨m,List.replicate n 0,[]⟩
section
variable {Q:Mod.Cf->M6->Prop} {c:Mod.Cf} {calls:List (List Cl)}
theorem AF.watch {i:Nat} {m:Mac} (h:AF Q c i m):AF Q c i m.watch:=⟨h.ok,h.p,h.w,h.n,h.t,h.T⟩
theorem FB.new (b:List Int) (g:Bool) (n:Nat):FB c (ts0 (J5 c b g).watch n):=by
 have h:∀(k:Nat) t,(J5 c b g).th[k]? = some t->t=Ay c:=λk t h=>(List.mem_replicate.1 (List.mem_of_getElem? (show (List.replicate c.threads.toNat (Ay c))[k]? = some t from h))).2
 refine ⟨λk t e f hf=>?_,rfl,?_,λx hx=>by cases hx⟩
 ·rw [h k t e] at hf
  cases hf
 ·show (lay (D5 c)).lg.length=_
  rw [(SU1 _).2]
  rfl
theorem IA.new (hc:Fv c=true) (b:List Int) (g:Bool) (hl:(calls.length:Int)=c.threads):IA (AF Q c) calls 0 (ts0 (J5 c b g).watch calls.length):=by
 refine ⟨(AF.new hc b g).watch,?_,λk hk=>?_⟩
 ·show (List.replicate c.threads.toNat (Ay c)).length=_
  rw [List.length_replicate]
  omega
 ·have e:(ts0 (J5 c b g).watch calls.length).nx.getD k 0=0:=by
   show (List.replicate calls.length (0:Int)).getD k 0=0
   rw [List.getD_eq_getElem?_getD,List.getElem?_replicate]
   split <;> rfl
  rw [e]
  omega
end
end
section
set_option maxHeartbeats 1000000
open Mod
theorem SU2 {p:Pl} {id:Int} {n:Nat} {e:Acc} (h:TL p id n e) (hn:n<=4096):iN e.a/\iN e.b:=by
 have h1:=h.a
 have h2:=h.k
 have e1:∀x:Int,-1<=x/\x < 4096->iN x:=λx hx=>by unfold iN;omega
 exact ⟨e1 _ (by omega),e1 _ (by omega)⟩
section
variable {K:kQ} {h:A2} {X:RX} {s:BC} {R:Hp} {calls:List (List Cl)} {B9 draws:List Int}
variable {d:A9->A9} {Q:Mod.Cf->M6->Prop} {W:A9->Prop}
theorem NU {c:Mod.Cf} {ca pa da:Option Addr} {cl cc pl pc dl dc:Nat} (H:A7 h R) (hS:∀h' P,A7 h' (P*R)->EO h' ca cl pa pl da dl calls B9 draws) (hR:SC calls B9 draws)
  (hn:calls.flatten.length < 2 ^ 60) (hn2:calls.length < 2 ^ 60) (hn3:B9.length < 2 ^ 60) (hV:∀l ∈ calls,l.length < 2 ^ 60)
  (D:DoC (DH c.algo) d W) (DO:It d Q W (V0 c.algo)) (hB:Ha d Q)
  (k0:GQ c calls B9 draws=false->∀h',A7 h' R->K (.tuple #[lQ none 0 0,iQ 1]) h')
  (k1:GQ c calls B9 draws=true->∀h' la lc s,s=Gs d (V0 c.algo) calls (J5 c draws false).watch B9->s.l.length<=B9.length->IA (AF Q c) calls B9.length s->FB c s->A7 h' (F3 51 9 la s.l.length lc (s.l.flatMap IF)*R) ->
   K (.tuple #[lQ la s.l.length lc,iQ 0]) h') :
  A5 Tryz.prog 14 #[.agg #[iQ c.algo,iQ c.threads,iQ c.nodes,iQ c.level,iQ c.batch,iQ c.probes,iQ c.scan,lQ ca cl cc,lQ pa pl pc,lQ da dl dc]] h K:=by
 refine call14 ?_
 unfold F14 g14 cf ce bd lS lI da7 EH
 have H1:=H.push (oQ (N9 c ca cl cc pa pl pc da dl dc).toArray 28)
 rw [show h.push (oQ #[iQ c.algo,iQ c.threads,iQ c.nodes,iQ c.level,iQ c.batch,iQ c.probes,iQ c.scan,lQ ca cl cc,lQ pa pl pc,lQ da dl dc] 28)=h.push (oQ (N9 c ca cl cc pa pl pc da dl dc).toArray 28) from rfl]
 generalize h.push (oQ (N9 c ca cl cc pa pl pc da dl dc).toArray 28)=h1 at *
 generalize h.size=SB at *
 have I:=hS h1 _ H1
 have ecl:=I.f.cs
 have epl:=I.f.ps
 have edl:=I.ds
 subst ecl epl edl
 have O:=H1.at
 refine C5 O rfl (C5 O rfl (C5 O rfl (C5 O rfl (C5 O rfl (C5 O rfl (C5 O rfl (C5 O rfl (C5 O rfl (C5 O rfl ?_)))))))))
 have hS2:∀h' P,A7 h' (P*(pt SB (oQ (N9 c ca calls.length cc pa B9.length pc da draws.length dc).toArray 28)*R))->EO h' ca calls.length pa B9.length da draws.length calls B9 draws:=λh' P HP=>hS h' Mr (by rw [W9];exact HP.drop.drop)
 refine A0 (Iw (c:=c) H1 hS2 hn hn2 hn3 hV λh3 H3=>?_)
 refine sb ?_
 refine C7 (λhh=>?_) (λhh=>?_)
 ·have e:GQ c calls B9 draws=false:=by simpa using hh
  exact k0 e h3 H3.drop
 have hsc:GQ c calls B9 draws=true:=by simpa using hh
 have hsc2:=hsc
 unfold GQ at hsc2
 simp only [Bool.and_eq_true,beq_iff_eq,decide_eq_true_eq,List.all_eq_true] at hsc2
 obtain ⟨hok,hct,hf48,hp6,hd4,hcl,hpk⟩:=hsc2
 have B:=Be hok
 have hthr:1<=c.threads/\c.threads<=6:=B.th
 have C:Cx calls:=⟨by omega,λl hl=>⟨by
  have:l.length<=calls.flatten.length:=by
   obtain ⟨i,hi,rfl⟩:=List.getElem_of_mem hl
   have e1:=Py hi
   have e2:=Sv7 (L:=calls) (i+1)
   omega
  omega,λx hx=>⟨hcl l hl x hx,hR.cl l hl x hx⟩⟩⟩
 have O:=H3.at
 refine C5 O rfl (C5 O rfl (C5 O rfl (C5 O rfl (C5 O rfl (C5 O rfl (C5 O rfl (C5 O rfl ?_)))))))
 refine sb ?_
 refine A0 (LN (c:=c) (bs:=draws) H3 (λh' P HP=>(hS2 h' P HP).dr) (by omega) hR.dr (λhx=>by rw [hok] at hx;cases hx) λ_ h4 Qq M Ts H4=>?_)
 have TO:IA (AF Q c) calls 0 (ts0 (J5 c draws false).watch calls.length):=IA.new hok draws false hct
 have TF:FB c (ts0 (J5 c draws false).watch calls.length):=FB.new draws false _
 generalize hm0:J5 c draws false=m0 at *
 refine sb ?_
 refine Bk ?_
 refine sb ?_
 refine Bl ?_
 refine sb ?_
 refine C7 (λhx=>by simp at hx) (λ_=>?_)
 have O:=H4.at2
 refine C5 O rfl (C5 O rfl (C5 O rfl (C5 O rfl (C5 O rfl (C5 O rfl (C5 O rfl (C5 O rfl (C5 O rfl (C5 O rfl (C5 O rfl ?_))))))))))
 refine sb ?_
 refine SW hct (by omega) ?_
 refine sb ?_
 have H5:=H4.push (oQ ((List.replicate calls.length (0:Int)).map iv).toArray 3)
 generalize h4.push (oQ ((List.replicate calls.length (0:Int)).map iv).toArray 3)=h5 at *
 generalize h4.size=NB at *
 have O5:=(H5.drop.drop).at
 have H6:=H5.push (oQ #[mP Qq,iQ c.algo,iQ c.threads,iQ c.nodes,iQ c.level,iQ c.batch,iQ c.probes,iQ c.scan,lQ ca calls.length cc,lQ pa B9.length pc,lQ da draws.length dc,lQ (some (aQ NB)) calls.length calls.length,lQ none 0 0] 89)
 repeat (first | refine ⟨E4 (E9 O5 rfl),?_⟩ | refine ⟨E9 O5 rfl,?_⟩)
 generalize h5.push (oQ #[mP Qq,iQ c.algo,iQ c.threads,iQ c.nodes,iQ c.level,iQ c.batch,iQ c.probes,iQ c.scan,lQ ca calls.length cc,lQ pa B9.length pc,lQ da draws.length dc,lQ (some (aQ NB)) calls.length calls.length,lQ none 0 0] 89)=h6 at *
 generalize h5.size=RB at *
 obtain ⟨X,hX⟩ : ∃X:RX,X=⟨RB,NB,Qq,M,DH c.algo,V0 c.algo,Ts,c,ca,calls.length,cc,pa,B9.length,pc,da,draws.length,dc,calls.length⟩:=⟨_,rfl⟩
 generalize hFR:pt SB (oQ (N9 c ca calls.length cc pa B9.length pc da draws.length dc).toArray 28)*R=FR at H6 hS2
 refine A0 (Cv (H6.drop.drop) ?_)
 refine sb ?_
 have H6':=A7.ac H6 (show _=Cu Qq M (DH c.algo) (V0 c.algo) Ts m0*(pt RB (oQ #[mP Qq,iQ c.algo,iQ c.threads,iQ c.nodes,iQ c.level,iQ c.batch,iQ c.probes,iQ c.scan,lQ ca calls.length cc,lQ pa B9.length pc,lQ da draws.length dc,lQ (some (aQ NB)) calls.length calls.length,lQ none 0 0] 89)*(pt NB (oQ ((List.replicate calls.length (0:Int)).map iv).toArray 3)*FR)) by ac_rfl)
 refine A0 (Un H6' λq R' HM re=>?_)
 refine sb ?_
 refine A0 (MN HM λh7 H7=>?_)
 have H7:=re _ _ H7
 have H8:A7 h7 (NT X (ts0 m0.watch calls.length)*FR):=by
  have H9:=H7.own_new 51 9
  rw [hX]
  refine Cz.2 ⟨none,0,by show (List.replicate _ _).length=_;simp,?_⟩
  exact A7.ac H9 (by show _=pt RB _*(F3 51 9 none 0 0 []*(pt NB _*(Cu Qq M (DH c.algo) (V0 c.algo) Ts m0.watch*FR)));unfold Mac.watch;ac_rfl)
 clear H1 H3 H4 H5 H6 H6' H7 HM re I O O5
 have eRB:RB=X.RB:=by rw [hX]
 have ei:V0 c.algo=X.ins:=by rw [hX]
 have DX:DoC X.f d W:=by rw [hX];exact D
 have GX:LC d W X.ins (AF Q c):=by rw [hX];exact AF.good DO
 have scr:∀ {h':A2} {s:BC},A7 h' (NT X s*FR)->h'[SB]? = some (oQ (N9 c ca calls.length cc pa B9.length pc da draws.length dc).toArray 28)/\EO h' ca calls.length pa B9.length da draws.length calls B9 draws:=by
  intro h' s H'
  refine ⟨?_,hS2 h' _ H'⟩
  rw [<- hFR] at H'
  exact H'.drop.at
 obtain ⟨sc,sI⟩:=scr H8
 refine C5 sc rfl ?_
 refine sb ?_
 have hS7:∀h' P,A7 h' (P*FR)->Sz h' X.ca X.cl X.pa X.pl calls B9:=by
  intro h' P HP
  rw [hX]
  exact (hS2 h' P HP).f
 have hXn:X.n=calls.length:=by rw [hX]
 have hins:0<=X.ins/\X.ins<=100:=by
  rw [<- ei]
  unfold V0
  repeat' split
  all_goals decide
 have hsz:(D5 c).size.toNat<=4096:=by
  have b3:=B.tr
  have b6:=B.si
  omega
 refine ⟨λvs h'=>∃(u:Value) (j:Nat) (s:BC),s=(B9.take j).foldl (λs k=>(s.pick d X.ins calls k).note k) (ts0 m0.watch calls.length)/\vs = [u,.int .i64 j]/\j<=B9.length/\s.l.length<=j/\IA (AF Q c) calls j s/\FB c s/\A7 h' (NT X s*FR),λvs _=>match vs with | [_,.int _ i]=>((B9.length:Int) - i).toNat | _=>0,⟨_,0,_,rfl,rfl,Nat.zero_le _,Nat.le_refl _,TO,TF,H8⟩,?_⟩
 rintro v63 v64 g65 h66 ⟨u,j,sj,hsj,e,hj,hlj,OJ,FJ,HJ⟩
 cases e
 refine sb ?_
 obtain ⟨scJ,sIJ⟩:=scr HJ
 refine A4 (λc1=>?_) (λc1=>?_)
 ·have hjlt:j < B9.length:=by omega
  obtain ⟨ad,ea,hc⟩:=sIJ.f.pk j (.int .i64 B9[j]) (by rw [List.getElem?_map,List.getElem?_eq_getElem hjlt];rfl)
  subst ea
  refine ⟨by omega,by omega,?_⟩
  refine sb ?_
  refine D3 hc ?_
  refine sb ?_
  have hp:=hpk _ (List.getElem_mem hjlt)
  have hnext:(B9.take (j+1)).foldl (λs k=>(s.pick d X.ins calls k).note k) (ts0 m0.watch calls.length)=(sj.pick d X.ins calls B9[j]).note B9[j]:=by
   rw [List.take_succ_eq_append_getElem hjlt,List.foldl_append,<- hsj]
   rfl
  obtain ⟨kk,hkk⟩ : ∃kk:Nat,B9[j]=kk:=⟨B9[j].toNat,by omega⟩
  rw [hkk] at hp hnext ⊢
  rw [eRB]
  have DO':It d Q W X.ins:=by rw [<- ei];exact DO
  obtain ⟨O1,F1,⟨T1⟩⟩:=YD DO' hB C (k:=kk) (by omega) (by omega) OJ FJ
  have LG:=SY4 DO' hB C (k:=kk) (by omega) (by omega) OJ FJ
  have hlg:=FJ.lg
  refine A0 (Ul DX GX C hXn hins HJ hS7 (j:=j) (k:=kk) (by omega) (by omega) OJ λh67 D67 e67 H67=>?_)
  generalize hs1:sj.pick d X.ins calls kk=s1 at *
  have hlen:s1.m.mm.lg.length<=sj.l.length+1/\sj.l.length<=s1.m.mm.lg.length:=by
   rcases LG with e | ⟨e,_,q⟩
   ·rw [e];omega
   ·rw [q,List.length_append]
    simp only [List.length_cons,List.length_nil]
    omega
  obtain ⟨la,lc,OR⟩:=IB H67
  refine C5 OR rfl ?_
  refine sb ?_
  refine A0 (Uo H67 (by rw [e67];omega) (by omega) (λe he=>?_) λh68 H68=>?_)
  ·rw [e67,<- hlg] at he
   rcases LG with q | ⟨e2,q1,q⟩
   ·rw [q,List.drop_length] at he
    cases he
   ·rw [q,List.drop_left] at he
    rw [List.mem_singleton.1 he]
    exact SU2 q1 hsz
  rw [show F5 ((j:Int)+1)=((j+1:Nat):Int) from by rw [<- Int.natCast_add_one];exact Bg _ (by omega)]
  refine ⟨⟨_,j+1,_,hnext.symm,rfl,by omega,?_,O1,F1,H68⟩,?_⟩
  ·rcases T1 with ⟨q,_⟩ | ⟨_,_,_,q⟩
   ·rw [q];omega
   ·rw [q,List.length_append]
    simp only [List.length_cons,List.length_nil]
    omega
  ·show ((B9.length:Int) - ((j+1:Nat):Int)).toNat < ((B9.length:Int) - (j:Int)).toNat
   omega
 have ej:j=B9.length:=by omega
 subst ej
 rw [List.take_length,<- ei] at hsj
 obtain ⟨la,lc,hl,H0⟩:=Cz.1 HJ
 rw [eRB]
 refine C5 H0.at rfl ?_
 refine sb ?_
 have H1:=A7.ac H0 (show _=(pt X.RB (oQ (trC X la sj.l.length lc).toArray 89)*(pt X.NB (oQ (sj.nx.map iv).toArray 3)*Cu X.Q X.M X.f X.ins X.Ts sj.m))*(F3 51 9 la sj.l.length lc (sj.l.flatMap IF)*FR) by ac_rfl)
 rw [<- hFR] at H1
 refine k1 hsc h66 la lc sj ?_ hlj OJ FJ ?_
 ·rw [hsj];rfl
 ·exact (A7.ac H1.drop (show _=pt SB _*(F3 51 9 la sj.l.length lc (sj.l.flatMap IF)*R) by ac_rfl)).drop
end
end
section
set_option maxHeartbeats 1000000
theorem Mb:∀(n t:Nat) (acc:Array Value),(∀v ∈ acc.toList,J3 v True)->(Extern.BytealgMakeNoZero.digits n t acc).size=acc.size+n/\∀v ∈ (Extern.BytealgMakeNoZero.digits n t acc).toList,J3 v True
 | 0,t,acc,h=>⟨rfl,h⟩
 | n+1,t,acc,h=>by
  unfold Extern.BytealgMakeNoZero.digits
  have:=Mb n (t / 256) (acc.push (.int .u8 (Int.ofNat (t % 256)))) (λv hv=>by
   rw [Array.toList_push,List.mem_append] at hv
   rcases hv with hv | hv
   ·exact h v hv
   ·rw [List.mem_singleton.1 hv];trivial)
  refine ⟨?_,this.2⟩
  rw [this.1,Array.size_push];omega
theorem Xq {P:Program} {f:FuncId} {fn:Func} {h:A2} {elem t:TypeId} {n:Int} {ps rs:Array TypeId} {K:kQ} (h1:P.funcs[f]? = some fn) (h2:(fn.name == "runtime.NumGoroutine")=false) (h3:fn.body.isNone=true) (h4:(Extern.findNext fn).isNone=true)
  (h5:Extern.find fn=some (Extern.BytealgMakeNoZero.makeNoZero ps rs)) (h6:rs[0]? = some t) (h7:P.underlying t=some (.slice elem)) (hn:0<=n/\n<=2 ^ 48)
  (k:∀(cap:Nat) (row:Array Value),n.toNat<=cap->row.size=cap->(∀v ∈ row.toList,J3 v True)->K (lQ (some (aQ h.size)) n.toNat cap) (h.push (oQ row elem))):Sk5 P f #[iQ n] h K:=by
 unfold Sk5 callFunc
 have h4':Extern.findNext fn=none:=Option.isNone_iff_eq_none.1 h4
 clear h4
 rw [A8,Bq,h1]
 show hp P (if (fn.name == "runtime.NumGoroutine")=true then _ else _) _ h
 rw [h2]
 show hp P (if fn.body.isNone=true then _ else _) _ h
 rw [h3,if_pos rfl,A8]
 show hp P (match Extern.findNext fn with | some e=>e #[.int .i64 n] | _=>_) _ h
 generalize Extern.findNext fn=o1 at *
 subst h4'
 show hp P (match Extern.find fn with | some e=>(do let x <- e #[.int .i64 n];pure (Next.value x)) | none=>_) _ h
 generalize Extern.find fn=o2 at *
 subst h5
 show hp P (do let x <- Extern.BytealgMakeNoZero.makeNoZero ps rs #[iQ n];pure (Next.value x)) _ h
 rw [A8]
 have eu:Extern.BytealgMakeNoZero.makeNoZero ps rs #[iQ n]=(do
   let some t:=rs[0]? | stuck "bytealg.MakeNoZero: no result type"
   let .slice elem <- underlying t | stuck "bytealg.MakeNoZero: slice type expected"
   if n < 0 || n > 2 ^ 48 then runtimePanic (.error "makeslice: len out of range")
   let cap <- choose (.appendCap n.toNat 0 elem)
   askRoom cap
   let bytes <- choose (.extern "internal/bytealg.MakeNoZero.bytes" 0)
   let a <- newRow elem (Extern.BytealgMakeNoZero.digits cap bytes #[])
   pure (lQ (some a) n.toNat cap)):=rfl
 rw [eu]
 clear eu
 simp only [h6,A8,C0 h7,D6]
 rw [if_neg (by simp only [Bool.or_eq_true,decide_eq_true_eq];omega)]
 show ∀tp,_
 intro tp
 rw [if_neg (by simp [Question.forced])]
 obtain ⟨cap,hcp⟩ : ∃cap,cap=(Question.appendCap n.toNat 0 elem).cut tp:=⟨_,rfl⟩
 have hcap2:n.toNat<=cap:=by rw [hcp];simp [Question.cut]
 rw [<- hcp]
 show hp P (do
    askRoom cap
    let bytes <- choose (Question.extern "internal/bytealg.MakeNoZero.bytes" 0)
    let a <- newRow elem (Extern.BytealgMakeNoZero.digits cap bytes #[])
    pure (Value.slice (some a) n.toNat cap)) _ h
 simp only [A8,D6,Ck]
 show ∀tp,_
 intro tp2
 rw [if_neg (by simp [Question.forced])]
 have dd:=Mb cap ((Question.extern "internal/bytealg.MakeNoZero.bytes" 0).cut tp2) #[] (λv hv=>by simp at hv)
 exact k cap _ hcap2 (by rw [dd.1];simp) dd.2
theorem Xr {h:A2} {n:Int} {K:kQ} (hn:0<=n/\n<=2 ^ 48) (k:∀(cap:Nat) (row:Array Value),n.toNat<=cap->row.size=cap->(∀v ∈ row.toList,J3 v True)->K (lQ (some (aQ h.size)) n.toNat cap) (h.push (oQ row 5))) :
  Ke Tryz.prog (.func (.func 276) #[] #[]) #[iQ n] h K:=by
 unfold Ke
 exact Xq (elem:=5) (t:=26) (ps:=#[3]) (rs:=#[26]) Tryz.func276 (by kernel_rfl) (by kernel_rfl) (by kernel_rfl) (by kernel_rfl) rfl (by kernel_rfl) hn k
theorem Sj8 {h:A2} {p:Nat} {q:Option Addr} {n:Int} {K:kQ} (e:h[p]? = some (oQ #[pQ q,lQ none 0 0] 162)) (hq:q=none\/q=some (aQ p)) (hn:0<=n/\n<=2 ^ 40)
  (k:∀h',Bld h' p ⟨#[]⟩->h.size<=h'.size->(∀c,c < p->h'[c]? = h[c]?)->K tQ h') :
  A5 Tryz.prog 200 #[pQ (some (aQ p)),iQ n] h K:=by
 refine call200 ?_
 unfold F200 lS nP
 have hp1:p < h.size:=(Array.getElem?_eq_some_iff.1 e).1
 simp only [B4,C9]
 refine C5 e rfl ?_
 simp only [C6]
 refine C5 e rfl ?_
 simp only [C6]
 refine ⟨E9 e rfl,?_⟩
 have ew:IntKind.i64.wrap (IntKind.i64.wrap (2*((0:Nat):Int))+n)=n:=by
  rw [show (2*((0:Nat):Int))=0 from rfl,show IntKind.i64.wrap 0=0 by decide,Int.zero_add]
  exact Y6 (by omega) (by omega)
 rw [ew]
 refine Xr (by omega) λcap row hcap hrow hone=>?_
 have e1:(h.push (oQ row 5))[p]? = some (oQ #[pQ q,lQ none 0 0] 162):=(S4 _ _ _ hp1).trans e
 have n1:(h.push (oQ row 5))[h.size]? = some (oQ row 5):=by simp
 have s1:(h.push (oQ row 5)).size=h.size+1:=by simp
 have o1:∀c,c < h.size->(h.push (oQ row 5))[c]? = h[c]?:=λc hc=>S4 _ _ _ hc
 generalize h.push (oQ row 5)=h1 at *
 simp only [C6]
 refine ⟨E9 e1 rfl,by omega,by omega,?_⟩
 refine C5 e1 rfl ?_
 simp only [C6]
 rw [Ng]
 have ow:CG h1 5 (L7 Tryz.prog 5) (some (aQ h.size)) 0 cap []:=⟨by simp,Nat.zero_le _,.inr ⟨h.size,row,rfl,n1,by rw [EI];omega,by simp⟩⟩
 refine Sn6 (i:=0) (m:=0) (vs:=[]) IU KW ow (λi v hv=>by simp at hv) (by simp) (by simp) (λy hy=>by cases hy) (by omega) (.inl rfl) λh2 ow2 fr2 s2=>?_
 simp only [iv,A6,B4,C9]
 have e2:h2[p]? = some (.cells #[.pointer q,.slice none 0 0] 162):=(fr2.2 p (by omega) (λhb=>by obtain ⟨ad,ea,eb⟩:=hb;cases ea;simp at eb;omega)).trans e1
 refine stR e2 rfl trivial λh3 w=>?_
 have ow3:=ow2.keep (h':=h3) λad ea=>by cases ea;exact w.old _ (by show h.size≠p;omega)
 rw [EI] at ow3
 refine k h3 ⟨q,_,0,cap - 0,w.new,hq,?_,λad ea=>by cases ea;exact hp1⟩ (by rw [w.size,s2];omega) (λc hc=>?_)
 ·rw [show PZ ⟨#[]⟩ = [] from rfl]
  simpa using ow3
 ·exact (w.old c (by show c≠p;omega)).trans ((fr2.2 c (by omega) (λhb=>by obtain ⟨ad,ea,eb⟩:=hb;cases ea;simp at eb;omega)).trans (o1 c (by omega)))
theorem Sj9 {h:A2} {p:Nat} {n:Int} {K:kQ} (e:h[p]? = some (oQ #[pQ none,lQ none 0 0] 162)) (hn:0<=n/\n<=2 ^ 40)
  (k:∀h',Bld h' p ⟨#[]⟩->h.size<=h'.size->(∀c,c < p->h'[c]? = h[c]?)->K tQ h') :
  A5 Tryz.prog 129 #[pQ (some (aQ p)),iQ n] h K:=by
 refine call129 ?_
 unfold F129 cf lS nP
 refine A0 (FN e (.inl rfl) λh1 e1 s1 o1=>?_)
 refine ⟨λ_ h'=>h' = h1,A4 (λc=>by omega) (λ_=>rfl),?_⟩
 rintro g h4 rfl
 simp only [B4,C9]
 refine C5 e1 rfl ?_
 simp only [C6]
 refine C5 e1 rfl ?_
 simp only [C6]
 refine ⟨E9 e1 rfl,?_⟩
 refine A4 (λc=>?_) (λc=>?_)
 ·exact A0 (Sj8 e1 (.inr rfl) hn λh5 B h6 h7=>k h5 B (by omega) λc hc=>(h7 c hc).trans (o1 c (by omega)))
 ·exact k h4 ⟨_,none,0,0,e1,.inr rfl,by simpa [PZ] using CG.nil _ _ _,λad ea=>by cases ea⟩ (by omega) λc hc=>o1 c (by omega)
def Mc (sep:ByteArray):List ByteArray->ByteArray
 | []=>⟨#[]⟩
 | x :: l=>l.foldl (λs y=>s ++ sep ++ y) x
def Gu (l:List ByteArray):Nat:=(l.map ByteArray.size).sum
theorem Jj (l:List ByteArray) {i:Nat} (hi:i < l.length):Gu (l.take (i+1))=Gu (l.take i)+l[i].size:=by
 unfold Gu
 rw [List.take_succ_eq_append_getElem hi,List.map_append,List.sum_append]
 simp
theorem IC (l:List ByteArray) (i:Nat):Gu (l.take i)<=Gu l:=by
 have e:Gu l=Gu (l.take i)+Gu (l.drop i):=by
  unfold Gu
  rw [<- List.sum_append,<- List.map_append,List.take_append_drop]
 omega
theorem Jk (sep:ByteArray):∀(l:List ByteArray) (x:ByteArray),(l.foldl (λs y=>s ++ sep ++ y) x).size=x.size+sep.size*l.length+Gu l
 | [],x=>by simp [Gu]
 | y :: l,x=>by
  rw [List.foldl_cons,Jk sep l]
  rw [ByteArray.size_append,ByteArray.size_append]
  unfold Gu
  rw [List.map_cons,List.sum_cons,List.length_cons,Nat.mul_succ]
  omega
theorem Sk0 (x:ByteArray):(⟨#[]⟩ : ByteArray) ++ x=x:=by
 have e:(⟨#[]⟩ : ByteArray)=ByteArray.empty:=rfl
 rw [e,ByteArray.empty_append]
theorem SY5 (a:Addr):a.add 0=a:=by cases a;simp [Addr.add]
theorem Xs (sep:ByteArray) (l:List ByteArray):(Mc sep l).size<=sep.size*l.length+Gu l:=by
 cases l with
 | nil=>exact Nat.zero_le _
 | cons x l=>
  have:=Jk sep l x
  show (l.foldl (λs y=>s ++ sep ++ y) x).size<=_
  rw [this]
  unfold Gu
  rw [List.map_cons,List.sum_cons,List.length_cons,Nat.mul_succ]
  omega
theorem Xt (sep:ByteArray) (l:List ByteArray) {i:Nat} (hi:i+1 < l.length):Mc sep (l.take (i+2))=Mc sep (l.take (i+1)) ++ sep ++ l[i+1]:=by
 cases l with
 | nil=>simp at hi
 | cons x l=>
  have hi2:i < l.length:=by simp at hi;omega
  rw [List.take_succ_cons,List.take_succ_cons,List.take_succ_eq_append_getElem hi2]
  show (l.take i ++ [l[i]]).foldl (λs y=>s ++ sep ++ y) x=_
  rw [List.foldl_append]
  rfl
theorem Sk1 {h:A2} {a:Option Addr} {n c:Nat} {l:List ByteArray} {sep:ByteArray} {K:kQ} (hs:N8 h a (l.map .string)) (hn:l.length=n) (hc:n<=c) (h0:sep.size≠0) (hb:sep.size*n+Gu l<=2 ^ 29) (k:∀h',G4 h.size h h'->K (.string (Mc sep l)) h') :
  A5 Tryz.prog 76 #[lQ a n c,.string sep] h K:=by
 refine call76 ?_
 unfold F76 cf bd
 subst hn
 have hlen:l.length<=2 ^ 29:=by
  have:l.length<=sep.size*l.length:=Nat.le_mul_of_pos_left _ (by omega)
  omega
 have ld:∀ {h':A2},G4 h.size h h'->∀(i:Nat) (hi:i < l.length) {F:Value->Prop},F (.string l[i])->E5 (pQ a) λa0=>D1 h' (a0.add i) F:=by
  intro h' o i hi F f
  obtain ⟨ad,e,hc⟩:=hs i (.string l[i]) (by rw [List.getElem?_map,List.getElem?_eq_getElem hi];rfl)
  subst e
  have hb:=hs.old o
  obtain ⟨_,e2,hc2⟩:=hb i (.string l[i]) (by rw [List.getElem?_map,List.getElem?_eq_getElem hi];rfl)
  cases e2
  exact D3 hc2 f
 have ld0:∀ {h':A2},G4 h.size h h'->∀(hi:0 < l.length) {F:Value->Prop},F (.string l[0])->E5 (pQ a) λa0=>D1 h' a0 F:=by
  intro h' o hi F f
  have:=ld o 0 hi f
  simp only [SY5] at this
  exact this
 refine C7 (λq=>?_) (λq=>?_)
 ·have e:l = []:=List.length_eq_zero_iff.1 (by simpa using q)
  rw [e] at k
  exact k h (G4.refl _ _)
 refine C7 (λq1=>?_) (λq1=>?_)
 ·have e1:l.length=1:=by simp at q1;omega
  refine ⟨by omega,by omega,?_⟩
  obtain ⟨x,e⟩:=List.length_eq_one_iff.1 e1
  subst e
  exact ld0 (G4.refl _ _) (by simp) (F:=λv1=>G9 v1 λs2=>K (.string s2) h) (k h (G4.refl _ _))
 have h2:2<=l.length:=by
  have a1:¬ l.length=0:=λe=>by simp [e] at q
  have a2:¬ l.length=1:=λe=>by simp [e] at q1
  omega
 have hn1:IntKind.i64.wrap ((l.length:Int) - 1)=((l.length - 1:Nat):Int):=by rw [Y6 (by omega) (by omega)];omega
 have hmul:sep.size*(l.length - 1)<=sep.size*l.length:=Nat.mul_le_mul_left _ (by omega)
 rw [hn1]
 refine ⟨λvs h'=>∃n0:Nat,n0<=sep.size*l.length/\vs = [iQ n0]/\h' = h,?_,?_⟩
 ·refine A4 (λq2=>?_) (λq2=>⟨0,by omega,rfl,rfl⟩)
  refine ⟨λ_ h'=>h' = h,?_,?_⟩
  ·refine ⟨by omega,A4 (λq3=>?_) λ_=>rfl⟩
   exfalso
   have t1:Int.tdiv 9223372036854775807 ((l.length - 1:Nat):Int)=9223372036854775807 / ((l.length - 1:Nat):Int):=Int.tdiv_eq_ediv_of_nonneg (by omega)
   have t2:(2:Int) ^ 30<=9223372036854775807 / ((l.length - 1:Nat):Int):=by
    rw [Int.le_ediv_iff_mul_le (by omega)]
    omega
   have t3:9223372036854775807 / ((l.length - 1:Nat):Int)<=9223372036854775807:=Int.ediv_le_self _ (by omega)
   rw [t1,Y6 (by omega) (by omega)] at q3
   have:sep.size<=sep.size*l.length:=Nat.le_mul_of_pos_right _ (by omega)
   omega
  ·rintro g h' rfl
   refine ⟨sep.size*(l.length - 1),hmul,?_,rfl⟩
   have e1:IntKind.i64.wrap ((sep.size:Int)*((l.length - 1:Nat):Int))=((sep.size*(l.length - 1):Nat):Int):=by
    rw [<- Int.natCast_mul,Y6 (by omega) (by omega)]
   rw [e1,Int.zero_add,Y6 (by omega) (by omega)]
 rintro v7 g8 h9 ⟨n0,hn0,e,rfl⟩
 cases e
 refine ⟨λvs h'=>∃(m i:Nat) (u:Value),vs = [.int .i64 m,u,.int .i64 i]/\i<=l.length/\m<=n0+Gu (l.take i)/\h' = h9,λvs _=>match vs with | [_,_,.int _ i]=>((l.length:Int) - i).toNat | _=>0,⟨n0,0,_,rfl,Nat.zero_le _,by omega,rfl⟩,?_⟩
 rintro v12 v13 v14 g15 h16 ⟨m,i,u,e,hi,hm,rfl⟩
 cases e
 have hsl:=IC l i
 simp only [A6]
 refine A4 (λc1=>?_) (λc1=>?_)
 ·have hilt:i < l.length:=by omega
  have hst:=Jj l hilt
  have hsl2:=IC l (i+1)
  simp only [Gv]
  refine ⟨by omega,by omega,?_⟩
  simp only [Int.toNat_natCast,Nat.mul_one]
  refine ld (G4.refl _ _) i hilt ?_
  simp only [G9]
  refine ⟨λ_ h'=>h' = h16,A4 (λq3=>?_) (λ_=>rfl),?_⟩
  ·rw [Y6 (by omega) (by omega)] at q3
   omega
  rintro g h' rfl
  rw [Y6 (by omega) (by omega),Y6 (by omega) (by omega)]
  refine ⟨⟨m+l[i].size,i+1,_,by rw [Int.natCast_add,Int.natCast_add];rfl,by omega,by omega,rfl⟩,?_⟩
  show ((l.length:Int) - ((i:Int)+1)).toNat < ((l.length:Int) - (i:Int)).toNat
  omega
 have pp:(h16.push (oQ #[pQ none,lQ none 0 0] 162))[h16.size]? = some (oQ #[pQ none,lQ none 0 0] 162):=by simp
 have o1:G4 h16.size h16 (h16.push (oQ #[pQ none,lQ none 0 0] 162)):=(G4.refl _ _).push _ (Nat.le_refl _)
 generalize h16.push (oQ #[pQ none,lQ none 0 0] 162)=h17 at *
 refine A0 (Sj9 pp (by omega) λh30 B30 s30 o30=>?_)
 have o2:G4 h16.size h16 h30:=⟨by have:=o1.1;omega,λb hb=>(o30 b hb).trans (o1.2 b hb)⟩
 refine ⟨by omega,by omega,?_⟩
 refine ld0 o2 (by omega) ?_
 simp only [G9]
 have z0:l[0].size<=Gu l:=by
  have:=Jj l (i:=0) (by omega)
  have:=IC l (0+1)
  omega
 refine A0 (Cp B30 (by show 0+l[0].size<=_;omega) λh35 B35 s35 o35=>?_)
 rw [Sk0] at B35
 have o3:G4 h16.size h16 h35:=⟨by have:=o2.1;omega,λb hb=>(o35 b hb).trans (o2.2 b hb)⟩
 refine ⟨by omega,by omega,?_⟩
 refine ⟨λvs h'=>∃(i:Nat) (u:Value),vs = [u,.int .i64 i]/\i<=l.length - 1/\Bld h' h16.size (Mc sep (l.take (i+1)))/\G4 h16.size h16 h',λvs _=>match vs with | [_,.int _ i]=>((l.length:Int) - i).toNat | _=>0,⟨0,_,rfl,by omega,?_,o3⟩,?_⟩
 ·rw [List.take_succ_eq_append_getElem (by omega)]
  exact B35
 rintro v38 v39 g40 h41 ⟨i,u,e,hi,B41,o41⟩
 cases e
 have jz:=Xs sep (l.take (i+1))
 have js:=IC l (i+1)
 have jl:sep.size*(l.take (i+1)).length<=sep.size*(i+1):=Nat.mul_le_mul_left _ (by rw [List.length_take];omega)
 simp only [A6]
 refine A4 (λc1=>?_) (λc1=>?_)
 ·have hilt:i+1 < l.length:=by omega
  have hst:=Jj l hilt
  have hsl2:=IC l (i+1+1)
  have jm:sep.size*(i+1)+sep.size<=sep.size*l.length:=by rw [<- Nat.mul_succ];exact Nat.mul_le_mul_left _ (by omega)
  simp only [Gv]
  refine ⟨by omega,by omega,?_⟩
  simp only [Int.toNat_natCast,Nat.mul_one]
  have hsub:=(hs.old o41).subn (n:=1) (i:=1) (m:=c) (by rw [List.length_map];omega) (by omega)
  obtain ⟨ad,e,hc1⟩:=hsub i (.string l[i+1]) (by rw [List.getElem?_drop,List.getElem?_map,show 1*1+i=i+1 by omega,List.getElem?_eq_getElem hilt];rfl)
  rw [e]
  simp only [C9]
  refine D3 hc1 ?_
  simp only [G9]
  refine A0 (Cp B41 (by omega) λh48 B48 s48 o48=>?_)
  refine A0 (Cp B48 (by rw [ByteArray.size_append];omega) λh50 B50 s50 o50=>?_)
  rw [<- Xt sep l hilt] at B50
  rw [Y6 (by omega) (by omega)]
  refine ⟨⟨i+1,_,rfl,by omega,B50,⟨by have:=o41.1;omega,λb hb=>(o50 b hb).trans ((o48 b hb).trans (o41.2 b hb))⟩⟩,?_⟩
  show ((l.length:Int) - ((i:Int)+1)).toNat < ((l.length:Int) - (i:Int)).toNat
  omega
 have ei:l.take (i+1)=l:=List.take_of_length_le (by omega)
 rw [ei] at B41 jz
 have hz:(Mc sep l).size≠0:=by
  cases l with
  | nil=>simp at h2
  | cons x l=>
   have:=Jk sep l x
   show (l.foldl (λs y=>s ++ sep ++ y) x).size≠0
   rw [this]
   have hl1:1<=l.length:=by simp at h2;omega
   have:sep.size*1<=sep.size*l.length:=Nat.mul_le_mul_left _ hl1
   omega
 refine A0 (QW B41 hz (by omega) λh53 s53 o53=>?_)
 simp only [G9]
 exact k h53 ⟨by have:=o41.1;omega,λb hb=>(o53 b (by omega)).trans (o41.2 b hb)⟩
end
section
set_option maxHeartbeats 1000000
open Mod
section
variable {K:kQ} {h:A2} {R:Hp}
theorem Hb {x:Int} (h0:0<=x) (h1:x < 4294967296) (k:∀h',G4 h.size h h'->K (.string (dgI x)) h'):A5 Tryz.prog 73 #[iv x] h K:=by
 refine call73 ?_
 unfold F73 cf
 obtain ⟨n,rfl⟩ : ∃n:Nat,x=n:=⟨x.toNat,by omega⟩
 rw [Vd (n:=n) (by omega)]
 refine A0 (Mo (a:=n) (b:=0) (by omega) (by omega) λh1 o1=>?_)
 simp only [G9]
 have e:dg n ++ (⟨#[32]⟩ : ByteArray) ++ dg 0=dg n ++ (⟨#[32,48]⟩ : ByteArray):=by
  rw [ByteArray.append_assoc];rfl
 rw [e]
 have:=Ov n
 refine A0 (Kj (by omega) (show (2:Nat) < 2 ^ 60 by omega) ?_)
 exact k _ o1
theorem Xu (k:∀h',G4 h.size h h'->K (.string ⟨#[119,111,114,100,32,48]⟩) h'):A5 Tryz.prog 75 #[iQ 0,iQ 0,iQ 0] h K:=by
 refine call75 ?_
 unfold F75 cf
 refine C7 (λ_=>?_) (λhh=>by simp at hh)
 refine A0 (Hb (x:=0) (by omega) (by omega) λh1 o1=>?_)
 simp only [G9]
 refine ⟨by rw [show (dgI 0).size=1 by decide +kernel];omega,?_⟩
 rw [show (⟨#[119,111,114,100,32]⟩ : ByteArray) ++ dgI 0=⟨#[119,111,114,100,32,48]⟩ by decide +kernel]
 exact k h1 o1
theorem Xv (k:∀h',G4 h.size h h'->K (.agg #[.string ⟨#[108,111,97,100]⟩,.string ⟨#[115,116,111,114,101]⟩,.string ⟨#[99,97,115]⟩,.string ⟨#[97,100,100]⟩,.string ⟨#[100,99,97,115]⟩,.string ⟨#[100,99,115,115]⟩]) h'):A5 Tryz.prog 74 #[] h K:=by
 refine call74 ?_
 unfold F74 dl6
 have p1:=J8 h #[.string ⟨#[]⟩,.string ⟨#[]⟩,.string ⟨#[]⟩,.string ⟨#[]⟩,.string ⟨#[]⟩,.string ⟨#[]⟩] 136
 generalize h.push (oQ #[.string ⟨#[]⟩,.string ⟨#[]⟩,.string ⟨#[]⟩,.string ⟨#[]⟩,.string ⟨#[]⟩,.string ⟨#[]⟩] 136)=h1 at *
 refine F6 (vs:=[.string ⟨#[108,111,97,100]⟩,.string ⟨#[115,116,111,114,101]⟩,.string ⟨#[99,97,115]⟩,.string ⟨#[97,100,100]⟩,.string ⟨#[100,99,97,115]⟩,.string ⟨#[100,99,115,115]⟩]) p1.new rfl (by simp [J3]) λh2 w=>?_
 have Q:=w.new
 refine C5 Q rfl (C5 Q rfl (C5 Q rfl (C5 Q rfl (C5 Q rfl (C5 Q rfl ?_)))))
 exact k h2 (w.toOld p1.toOld (Nat.le_refl _))
theorem NV (k:K (dQ false) h):A5 Tryz.prog 52 #[iQ 0] h K:=by
 refine call52 ?_
 unfold F52
 exact C7 (λhh=>by simp at hh) (λ_=>k)
theorem Up (k:K (dQ false) h):A5 Tryz.prog 54 #[iQ 0] h K:=by
 refine call54 ?_
 unfold F54 cf
 exact C7 (λhh=>by simp at hh) (λ_=>A0 (NV k))
theorem Xw (k:∀h',G4 h.size h h'->K (.string ⟨#[48,32,108,111,97,100,32,119,111,114,100,32,48]⟩) h') :
  A5 Tryz.prog 37 #[.agg #[iQ 0,iQ 0,dQ false,iQ 0,iQ 0,iQ 0,iQ 5,iQ 0,iQ 0]] h K:=by
 refine call37 ?_
 unfold F37 g37 cf ce bd lI de6
 have p1:=J8 h #[iQ 0,iQ 0,dQ false,iQ 0,iQ 0,iQ 0,iQ 5,iQ 0,iQ 0] 51
 generalize h.push (oQ #[iQ 0,iQ 0,dQ false,iQ 0,iQ 0,iQ 0,iQ 5,iQ 0,iQ 0] 51)=h1 at *
 have o1:=p1.toOld
 have Q:=p1.new
 refine ⟨λvs h'=>(∃v1 v2 v3,vs = [v1,v2,v3,dQ false])/\h' = h1,?_,?_⟩
 ·refine C5 Q rfl ?_
  simp only [A6]
  refine C7 (λhh=>by simp at hh) (λ_=>?_)
  refine C5 Q rfl ?_
  simp only [A6]
  refine C7 (λhh=>by simp at hh) (λ_=>?_)
  refine C5 Q rfl ?_
  simp only [A6]
  refine C7 (λhh=>by simp at hh) (λ_=>?_)
  refine C5 Q rfl ?_
  simp only [A6]
  refine C7 (λhh=>by simp at hh) (λ_=>?_)
  refine C5 Q rfl ?_
  simp only [A6]
  refine C5 Q rfl ?_
  simp only [A6]
  refine C5 Q rfl ?_
  simp only [A6]
  refine C5 Q rfl ?_
  simp only [A6]
  unfold O4
  simp only [QT,A6]
  unfold O4.go O4.go O4.go O4.go
  simp only [A6]
  exact ⟨⟨_,_,_,rfl⟩,by trivial⟩
 rintro v20 v21 v22 v23 g24 h25 ⟨⟨v1,v2,v3,e⟩,rfl⟩
 cases e
 simp only [B6,E2]
 refine C5 Q rfl ?_
 simp only [A6]
 refine C5 Q rfl ?_
 simp only [A6]
 refine C5 Q rfl ?_
 simp only [A6]
 refine C5 Q rfl ?_
 simp only [A6]
 refine C5 Q rfl ?_
 simp only [A6]
 have hlt:h.size < h25.size:=(Array.getElem?_eq_some_iff.1 Q).1
 refine A0 (Hb (x:=0) (by omega) (by omega) λh3 o3=>?_)
 have Q3:=(o3.2 h.size hlt).trans Q
 simp only [G9]
 repeat (first | refine ⟨E9 Q3 rfl,?_⟩)
 refine A0 (Xv λh4 o4=>?_)
 have Q4:=(o4.2 h.size (by have:=o3.1;omega)).trans Q3
 simp only [Co]
 refine Ax rfl (E6 rfl (E6 rfl (E6 rfl (E6 rfl (E6 rfl (E6 rfl ?_))))))
 repeat (first | refine ⟨E9 Q4 rfl,?_⟩)
 refine ⟨by omega,by omega,?_⟩
 refine Zg (cs:=[.string ⟨#[108,111,97,100]⟩,.string ⟨#[115,116,111,114,101]⟩,.string ⟨#[99,97,115]⟩,.string ⟨#[97,100,100]⟩,.string ⟨#[100,99,97,115]⟩,.string ⟨#[100,99,115,115]⟩]) (i:=0) (v:=.string ⟨#[108,111,97,100]⟩) (by kernel_rfl) (by kernel_rfl) rfl ?_
 simp only [G9]
 refine A0 (Xu λh5 o5=>?_)
 have hl4:h.size < h4.size:=(Array.getElem?_eq_some_iff.1 Q4).1
 have Q5:=(o5.2 h.size hl4).trans Q4
 simp only [G9]
 refine ⟨E9 Q5 rfl,?_⟩
 have hl5:h.size < h5.size:=(Array.getElem?_eq_some_iff.1 Q5).1
 have oo5:G4 h.size h h5:=((o1.trans (o3.mono (by omega))).trans (o4.mono (by have:=o3.1;omega))).trans (o5.mono (by omega))
 rw [show dgI 0=⟨#[48]⟩ by decide +kernel]
 have p6:=J8 h5 #[.string ⟨#[48]⟩,.string ⟨#[108,111,97,100]⟩,.string ⟨#[119,111,114,100,32,48]⟩] 9
 have o6:=p6.toOld
 have Q6:=(o6.2 h.size hl5).trans Q5
 generalize h5.push (oQ #[.string ⟨#[48]⟩,.string ⟨#[108,111,97,100]⟩,.string ⟨#[119,111,114,100,32,48]⟩] 9)=h6 at *
 refine ⟨λvs h'=>vs = [lQ (some (aQ h5.size)) 3 3]/\h' = h6,?_,?_⟩
 ·refine C5 Q6 rfl ?_
  simp only [A6]
  refine A0 (NV ?_)
  simp only [B6,E2]
  exact ⟨by trivial,by trivial⟩
 rintro v74 g75 h76 ⟨e,rfl⟩
 cases e
 refine ⟨λvs h'=>(∃u,vs = [lQ (some (aQ h5.size)) 3 3,u])/\h' = h76,?_,?_⟩
 ·refine C5 Q6 rfl ?_
  simp only [A6]
  refine A0 (Up ?_)
  simp only [B6,E2]
  exact ⟨⟨_,rfl⟩,by trivial⟩
 rintro v98 v99 g100 h101 ⟨⟨u,e⟩,rfl⟩
 cases e
 simp only [C6]
 refine A0 (Sk1 (l:=[⟨#[48]⟩,⟨#[108,111,97,100]⟩,⟨#[119,111,114,100,32,48]⟩]) (sep:=⟨#[32]⟩) (λi v hi=>⟨_,rfl,?_⟩) rfl (by omega) (by decide) (by decide) λh7 o7=>?_)
 ·rw [E1,Nat.zero_add]
  exact E9 p6.new hi
 simp only [G9]
 rw [show Mc ⟨#[32]⟩ [⟨#[48]⟩,⟨#[108,111,97,100]⟩,⟨#[119,111,114,100,32,48]⟩]=⟨#[48,32,108,111,97,100,32,119,111,114,100,32,48]⟩ by decide +kernel]
 have hl6:h.size < h101.size:=(Array.getElem?_eq_some_iff.1 Q6).1
 exact k h7 ((oo5.trans (o6.mono (by omega))).trans (o7.mono (by omega)))
noncomputable def x34:BC:=Gs N7 11 [[⟨0,1,0⟩]] (J5 ⟨0,1,2,1,1,1,1⟩ [] false).watch [0]
theorem SY6:x34.l = [⟨0,0,false,(0,0,0),(5,0,0)⟩]:=by
 unfold x34 Gs
 rw [List.foldl_cons,List.foldl_nil]
 have e0:BC.enter 11 [[⟨0,1,0⟩]] ⟨(J5 ⟨0,1,2,1,1,1,1⟩ [] false).watch,List.replicate 1 0,[]⟩ 0=some ⟨((J5 ⟨0,1,2,1,1,1,1⟩ [] false).watch).setTh [(Ay ⟨0,1,2,1,1,1,1⟩).push 11 [1,0]],[1],[]⟩:=by
  unfold BC.enter
  rw [if_pos (show (F4 (J5 ⟨0,1,2,1,1,1,1⟩ [] false).watch 0).fr = [] from rfl),if_neg (by decide)]
  rfl
 have e1:BC.pick N7 11 [[⟨0,1,0⟩]] ⟨(J5 ⟨0,1,2,1,1,1,1⟩ [] false).watch,List.replicate 1 0,[]⟩ 0=BC.go N7 ⟨((J5 ⟨0,1,2,1,1,1,1⟩ [] false).watch).setTh [(Ay ⟨0,1,2,1,1,1,1⟩).push 11 [1,0]],[1],[]⟩ 0:=by
  unfold BC.pick
  show (match BC.enter 11 [[⟨0,1,0⟩]] ⟨(J5 ⟨0,1,2,1,1,1,1⟩ [] false).watch,List.replicate 1 0,[]⟩ 0 with | none=>(⟨(J5 ⟨0,1,2,1,1,1,1⟩ [] false).watch,List.replicate 1 0,[]⟩ : BC) | some s1=>s1.go N7 0)=_
  rw [e0]
 show ((BC.pick N7 11 [[⟨0,1,0⟩]] ⟨(J5 ⟨0,1,2,1,1,1,1⟩ [] false).watch,List.replicate 1 0,[]⟩ 0).note 0).l=_
 rw [e1]
 have hb:((Mod.bits N7 9 ⟨Mac.quiet (((J5 ⟨0,1,2,1,1,1,1⟩ [] false).watch).setTh [(Ay ⟨0,1,2,1,1,1,1⟩).push 11 [1,0]]),(Ay ⟨0,1,2,1,1,1,1⟩).push 11 [1,0],0⟩).map λz=>(z.m.mm.lg.map (U7 z.m.p 0)).map λx=>(x.th,x.kind,x.done,x.w1,x.w2))=some [(0,0,false,(0,0,0),(5,0,0))]:=by kernel_rfl
 obtain ⟨z,hz,hl⟩ : ∃z,Mod.bits N7 9 ⟨Mac.quiet (((J5 ⟨0,1,2,1,1,1,1⟩ [] false).watch).setTh [(Ay ⟨0,1,2,1,1,1,1⟩).push 11 [1,0]]),(Ay ⟨0,1,2,1,1,1,1⟩).push 11 [1,0],0⟩=some z/\(z.m.mm.lg.map (U7 z.m.p 0)).map (λx=>(x.th,x.kind,x.done,x.w1,x.w2)) = [(0,0,false,(0,0,0),(5,0,0))]:=by
  rw [Option.map_eq_some_iff] at hb
  exact hb
 have hs:=Dz hz
 show (BC.note { m:=(S9 N7 ⟨Mac.quiet (((J5 ⟨0,1,2,1,1,1,1⟩ [] false).watch).setTh [(Ay ⟨0,1,2,1,1,1,1⟩).push 11 [1,0]]),(Ay ⟨0,1,2,1,1,1,1⟩).push 11 [1,0],0⟩).m.setTh _,nx:=_,l:=_ } 0).l=_
 rw [hs]
 show [] ++ (z.m.mm.lg.drop 0).map (U7 z.m.p 0)=_
 rw [List.drop_zero,List.nil_append]
 generalize z.m.mm.lg.map (U7 z.m.p 0)=L at hl ⊢
 match L,hl with
 | [⟨a,b,c,d,e⟩],hl=>
  simp only [List.map_cons,List.map_nil,List.cons.injEq,Prod.mk.injEq,and_true] at hl
  obtain ⟨rfl,rfl,rfl,rfl,rfl⟩:=hl
  rfl
theorem PX (H:A7 h R) (k:∀h',A7 h' R->K (dQ true) h'):A5 Tryz.prog 13 #[] h K:=by
 refine call13 ?_
 unfold F13 g13 cf bd da9
 have H1:=H.push (oQ (Cc ⟨0,1,0⟩).toArray 41)
 rw [show h.push (oQ #[iQ 0,.int .u32 1,.int .u32 0] 41)=h.push (oQ (Cc ⟨0,1,0⟩).toArray 41) from rfl]
 generalize h.push (oQ (Cc ⟨0,1,0⟩).toArray 41)=h1 at *
 generalize h.size=B1 at *
 have H2:=H1.push (.cells [Value.slice (some (aQ B1)) 1 1].toArray 58)
 rw [show h1.push (oQ #[lQ (some (aQ B1)) 1 1] 58)=h1.push (.cells [Value.slice (some (aQ B1)) 1 1].toArray 58) from rfl]
 generalize h1.push (.cells [Value.slice (some (aQ B1)) 1 1].toArray 58)=h2 at *
 generalize h1.size=B2 at *
 have H3:=H2.push (.cells [Value.int .i64 0].toArray 3)
 rw [show h2.push (oQ #[iQ 0] 3)=h2.push (.cells [Value.int .i64 0].toArray 3) from rfl]
 generalize h2.push (.cells [Value.int .i64 0].toArray 3)=h3 at *
 generalize h2.size=B3 at *
 have hc:Fv ⟨0,1,2,1,1,1,1⟩=true:=by decide
 have hsc:GQ ⟨0,1,2,1,1,1,1⟩ [[⟨0,1,0⟩]] [0] []=true:=by decide
 have hS:∀h' P,A7 h' (P*(pt B3 (.cells [Value.int .i64 0].toArray 3)*(pt B2 (.cells [Value.slice (some (aQ B1)) 1 1].toArray 58)*(pt B1 (oQ (Cc ⟨0,1,0⟩).toArray 41)*R))))->EO h' (some (aQ B2)) 1 (some (aQ B3)) 1 none 0 [[⟨0,1,0⟩]] [0] []:=by
  intro h' P HP
  refine ⟨⟨rfl,λi hi=>?_,rfl,?_⟩,rfl,λi v hv=>by simp at hv⟩
  ·have hi:i < 1:=hi
   have e0:i=0:=by omega
   subst e0
   refine ⟨some (aQ B1),1,⟨_,rfl,?_⟩,?_⟩
   ·rw [E1]
    exact E9 HP.drop.drop.at rfl
   ·exact Um HP.drop.drop.drop.at
  ·exact Um HP.drop.at
 refine A0 (NU (c:=⟨0,1,2,1,1,1,1⟩) (calls:=[[⟨0,1,0⟩]]) (B9:=[0]) (draws:=[]) H3 hS ⟨λl hl x hx=>?_,λx hx=>by cases hx⟩ (by decide) (by decide) (by decide) (λl hl=>?_) NJ LU NN (λhh=>by rw [hsc] at hh;cases hh) λ_ h4 la lc s es _ _ _ H4=>?_)
 ·rw [List.mem_singleton.1 hl] at hx
  rw [List.mem_singleton.1 hx]
  exact ⟨⟨by decide,by decide⟩,⟨by decide,by decide⟩⟩
 ·rw [List.mem_singleton.1 hl]
  decide
 have el:s.l = [⟨0,0,false,(0,0,0),(5,0,0)⟩]:=by
  rw [es];exact SY6
 rw [el] at H4 ⊢
 refine sb ?_
 refine Bk ?_
 refine sb ?_
 refine Bl ?_
 refine sb ?_
 refine C7 (λ_=>?_) (λhh=>by simp at hh)
 refine C7 (λ_=>?_) (λhh=>by simp at hh)
 have hs:=H4.own.sees
 obtain ⟨ad,ea,q0⟩:=hs 0 _ rfl
 subst ea
 rw [SY5] at q0
 obtain ⟨_,ea,q1⟩:=hs 1 _ rfl
 cases ea
 obtain ⟨_,ea,q2⟩:=hs 2 _ rfl
 cases ea
 obtain ⟨_,ea,q3⟩:=hs 3 _ rfl
 cases ea
 obtain ⟨_,ea,q4⟩:=hs 4 _ rfl
 cases ea
 obtain ⟨_,ea,q5⟩:=hs 5 _ rfl
 cases ea
 obtain ⟨_,ea,q6⟩:=hs 6 _ rfl
 cases ea
 obtain ⟨_,ea,q7⟩:=hs 7 _ rfl
 cases ea
 obtain ⟨_,ea,q8⟩:=hs 8 _ rfl
 cases ea
 refine ⟨by decide,?_⟩
 show D1 h4 ad _
 refine D3 q0 (D3 q1 (D3 q2 (D3 q3 (D3 q4 (D3 q5 (D3 q6 (D3 q7 (D3 q8 ?_))))))))
 refine A0 (Xw λh5 o5=>?_)
 simp only [G9]
 rw [beq_self_eq_true]
 exact k h5 (H4.old o5).drop.drop.drop.drop
end
end
section
set_option maxRecDepth 100000
abbrev g7 (K:kQ) (h H1 H2:A2):Prop:=
 (PY H2 H1.size λa b c d e f g=>cf 9 #[.agg #[a,b,c,d,e,f,g]] H2 λa b=>asBool a λa=>D0 (!a) (PY b H1.size λa c d e f g i=>C4 b (aQ h.size) a λa=>C4 a (Addr.add (aQ h.size) 1) c λa=>C4 a (Addr.add (aQ h.size) 2) d λa=>C4 a (Addr.add (aQ h.size) 3) e λa=>C4 a (Addr.add (aQ h.size) 4) f λa=>C4 a (Addr.add (aQ h.size) 5) g λa=>C4 a (Addr.add (aQ h.size) 6) i λa=>EH a h.size λc d e f g i j k l m=>cf 14 #[.agg #[c,d,e,f,g,i,j,k,l,m]] a λa c=>J6 a λd=>D2 d 0 λd=>C8 d λd d e=>J6 a λa=>D2 a 1 λa=>asInt .i64 a λa=>D0 ((d:Int) == 0) (D0 (a == 1) (cf 13 #[] c λa d=>asBool a λa=>K (dQ a) d) (K (dQ false) c)) (K (dQ false) c)) (EH b h.size λa c d e f g i j k l=>PY b H1.size λm n o p q r s=>cf 11 #[.agg #[a,c,d,e,f,g,i,j,k,l],.agg #[m,n,o,p,q,r,s],iQ 4,iQ 600] b λa b=>asAgg a λa=>G0 a 10 (SV3 a λa c d e f g i j k l=>So0 b h.size a c d e f g i j k l λa=>EH a h.size λb c d e f g i j k l=>cf 14 #[.agg #[b,c,d,e,f,g,i,j,k,l]] a λa b=>J6 a λc=>D2 c 0 λc=>C8 c λc d e=>J6 a λa=>D2 a 1 λa=>asInt .i64 a λa=>EH b h.size λe f g i j k l m n o=>cf 12 #[.agg #[e,f,g,i,j,k,l,m,n,o]] b λb e=>J6 b λf=>D2 f 0 λf=>asAgg f λf=>G0 f 5 (de5 f λf g i j k=>J6 b λl=>D2 l 1 λl=>C2 l λl=>J6 b λb=>D2 b 2 λb=>asInt .i64 b λb=>C4 (e.push (oQ #[lQ none 0 0,iQ 0,iQ 0,dQ false,iQ 0] 34)) (aQ e.size) f λf=>C4 f ⟨e.size,1,none⟩ g λf=>C4 f ⟨e.size,2,none⟩ i λf=>C4 f ⟨e.size,3,none⟩ j λf=>C4 f ⟨e.size,4,none⟩ k λf=>O0 λI138=>(D0 (a != 0) (I138 [dQ true,dQ true] f) (D0 (b != 0) (I138 [dQ (b != 0),dQ true] f) (lI .i64 f ⟨e.size,1,none⟩ λa=>I138 [dQ (b != 0),dQ ((d:Int) != a)] f)))/\(∀(a b:Value) (e:F8) (e:A2),(I138 [a,b] e)->(asBool b λa=>D0 a (K (dQ false) e) (O0 λI146=>Hg λm147=>(I146 [dQ false,iQ 0,iQ 0] e)/\(∀(a b e:Value) (f:F8) (f:A2),(I146 [a,b,e] f)->(asInt .i64 e λg=>D0 (decide (g < (d:Int))) (O0 λI154=>Hg λm155=>(I154 [b] f)/\(∀(g:Value) (i:F8) (i:A2),(I154 [g] i)->(O0 λI159=>(asInt .i64 g λj=>lS i ⟨h.size,8,none⟩ λk k l=>D0 (decide (j < (k:Int))) (lS i ⟨h.size,8,none⟩ λj k l=>asInt .i64 g λl=>bd l (k:Int) (E5 (pQ j) λj=>lI .i64 i (j.add (l.toNat*1)) λj=>asInt .i64 e λk=>bd k (d:Int) (E5 (pQ c) λl=>lI .i64 i (l.add (k.toNat*9)) λk=>I159 [dQ (j != k)] i))) (I159 [dQ false] i))/\(∀(j:Value) (k:F8) (k:A2),(I159 [j] k)->(asBool j λj=>D0 j (asInt .i64 g λj=>(I154 [iQ (IntKind.wrap .i64 (j+1))] k)/\((m155 [iQ (IntKind.wrap .i64 (j+1))] k) < (m155 [g] i))) (O0 λI182=>(asInt .i64 g λi=>lS k ⟨h.size,8,none⟩ λj j l=>D0 (decide (i >= (j:Int))) (I182 [dQ true,tQ,dQ true,tQ,dQ true] k) (asInt .i64 e λi=>bd i (d:Int) (E5 (pQ c) λj=>D1 k (Addr.add (j.add (i.toNat*9)) 3) λi=>asInt .i64 i λi=>D0 (i == 5) (I182 [dQ (i == 5),tQ,dQ true,tQ,dQ true] k) (asInt .i64 e λj=>bd j (d:Int) (E5 (pQ c) λl=>D1 k (Addr.add (l.add (j.toNat*9)) 1) λj=>asInt .i64 j λj=>D0 (decide (j > 3)) (asInt .i64 e λj=>bd j (d:Int) (E5 (pQ c) λl=>D1 k (Addr.add (l.add (j.toNat*9)) 6) λj=>asInt .i64 j λj=>D0 (j == 5) (I182 [dQ (i == 5),dQ (j == 5),dQ (j == 5),tQ,dQ true] k) (asInt .i64 e λl=>bd l (d:Int) (E5 (pQ c) λm=>D1 k (Addr.add (m.add (l.toNat*9)) 1) λl=>asInt .i64 l λl=>D0 (decide (l < 4)) (asInt .i64 e λl=>bd l (d:Int) (E5 (pQ c) λm=>D1 k (Addr.add (m.add (l.toNat*9)) 6) λl=>asInt .i64 l λl=>I182 [dQ (i == 5),dQ (j == 5),dQ (j == 5),dQ (l != 5),dQ (l != 5)] k)) (I182 [dQ (i == 5),dQ (j == 5),dQ (j == 5),dQ false,dQ false] k))))) (asInt .i64 e λj=>bd j (d:Int) (E5 (pQ c) λl=>D1 k (Addr.add (l.add (j.toNat*9)) 1) λj=>asInt .i64 j λj=>D0 (decide (j < 4)) (asInt .i64 e λj=>bd j (d:Int) (E5 (pQ c) λc=>D1 k (Addr.add (c.add (j.toNat*9)) 6) λc=>asInt .i64 c λc=>I182 [dQ (i == 5),dQ false,dQ false,dQ (c != 5),dQ (c != 5)] k)) (I182 [dQ (i == 5),dQ false,dQ false,dQ false,dQ false] k))))))))/\(∀(c d i j k:Value) (l:F8) (l:A2),(I182 [c,d,i,j,k] l)->(asBool k λc=>D0 c (K (dQ false) l) (asInt .i64 g λc=>asInt .i64 e λd=>(I146 [a,iQ (IntKind.wrap .i64 (c+1)),iQ (IntKind.wrap .i64 (d+1))] l)/\((m147 [a,iQ (IntKind.wrap .i64 (c+1)),iQ (IntKind.wrap .i64 (d+1))] l) < (m147 [a,b,e] f))))))))))) (cf 13 #[] f λa b=>asBool a λa=>K (dQ a) b))))))))))
def F7 (K:kQ) (h:A2) (xa xb xc xd xe xf xg:Int) (xh:Option Addr) (xi xj:Nat) (xk:Option Addr) (xl xm:Nat) (xn:Option Addr) (xo xp:Nat) (xq xr xs xt xu xv xw:Int):Prop:=
 (g7 K h (h.push (oQ #[iQ xa,iQ xb,iQ xc,iQ xd,iQ xe,iQ xf,iQ xg,lQ xh xi xj,lQ xk xl xm,lQ xn xo xp] 28)) (Array.push (h.push (oQ #[iQ xa,iQ xb,iQ xc,iQ xd,iQ xe,iQ xf,iQ xg,lQ xh xi xj,lQ xk xl xm,lQ xn xo xp] 28)) (oQ #[iQ xq,iQ xr,iQ xs,iQ xt,iQ xu,iQ xv,iQ xw] 23)))
theorem call7 {K:kQ} {h:A2} {xa xb xc xd xe xf xg:Int} {xh:Option Addr} {xi xj:Nat} {xk:Option Addr} {xl xm:Nat} {xn:Option Addr} {xo xp:Nat} {xq xr xs xt xu xv xw:Int} (H:F7 K h xa xb xc xd xe xf xg xh xi xj xk xl xm xn xo xp xq xr xs xt xu xv xw):A5 Tryz.prog 7 #[(.agg #[(iQ xa),(iQ xb),(iQ xc),(iQ xd),(iQ xe),(iQ xf),(iQ xg),(lQ xh xi xj),(lQ xk xl xm),(lQ xn xo xp)]),(.agg #[(iQ xq),(iQ xr),(iQ xs),(iQ xt),(iQ xu),(iQ xv),(iQ xw)])] h K:=
 cQ Tryz.func7 H
end
section
set_option maxHeartbeats 1000000
open Mod
theorem SD8 {p:Pl} {a:Int} (h:a < 0):p.whr a=(5,0,0):=by
 unfold Mod.Pl.whr
 rw [if_pos (.inl h)]
section
variable {K:kQ} {h:A2} {R:Hp} {calls:List (List Cl)} {B9 draws:List Int}
end
end
section
set_option maxHeartbeats 1000000
open Mod
section
variable {K:kQ} {h:A2} {R:Hp} {ca pa da:Option Addr} {cl cc pl pc dl dc:Nat}
theorem Xx {c:Mod.Cf} (hc:Fv c=false) (H:A7 h R) (k:∀h',A7 h' R->K (dQ false) h') :
  A5 Tryz.prog 29 #[.agg #[iQ c.algo,iQ c.threads,iQ c.nodes,iQ c.level,iQ c.batch,iQ c.probes,iQ c.scan,lQ ca cl cc,lQ pa pl pc,lQ da dl dc]] h K:=by
 refine call29 ?_
 unfold F29 g29 cf bd lS lI da7 L1 EH
 have H1:=H.push (oQ (N9 c ca cl cc pa pl pc da dl dc).toArray 28)
 rw [show h.push (oQ #[iQ c.algo,iQ c.threads,iQ c.nodes,iQ c.level,iQ c.batch,iQ c.probes,iQ c.scan,lQ ca cl cc,lQ pa pl pc,lQ da dl dc] 28)=h.push (oQ (N9 c ca cl cc pa pl pc da dl dc).toArray 28) from rfl]
 generalize h.push (oQ (N9 c ca cl cc pa pl pc da dl dc).toArray 28)=h1 at *
 generalize h.size=SB at *
 refine ⟨λvs h'=>(∃u1 u2 u3,vs = [u1,u2,u3,dQ true])/\A7 h' R,?_,?_⟩
 ·have O:=H1.at
  refine C5 O rfl (C5 O rfl (C5 O rfl (C5 O rfl (C5 O rfl (C5 O rfl (C5 O rfl ?_))))))
  refine A0 (Iv (c:=c) (λhc2 h2 o2=>by rw [hc] at hc2;cases hc2) λ_ h2 o2=>?_)
  simp only [A6]
  refine C7 (λ_=>?_) (λhh=>by simp at hh)
  exact ⟨⟨_,_,_,rfl⟩,(H1.old o2).drop⟩
 ·rintro v1 v2 v3 v4 g h2 ⟨⟨u1,u2,u3,e⟩,H2⟩
  cases e
  simp only [B6,G2]
  exact k h2 H2
theorem Xy {c:Mod.Cf} (hc:Fv c=false) (H:A7 h R) (k:∀h',A7 h' R->K (.tuple #[lQ none 0 0,iQ 1]) h') :
  A5 Tryz.prog 14 #[.agg #[iQ c.algo,iQ c.threads,iQ c.nodes,iQ c.level,iQ c.batch,iQ c.probes,iQ c.scan,lQ ca cl cc,lQ pa pl pc,lQ da dl dc]] h K:=by
 refine call14 ?_
 unfold F14 g14 cf ce bd lS lI da7 EH
 have H1:=H.push (oQ (N9 c ca cl cc pa pl pc da dl dc).toArray 28)
 rw [show h.push (oQ #[iQ c.algo,iQ c.threads,iQ c.nodes,iQ c.level,iQ c.batch,iQ c.probes,iQ c.scan,lQ ca cl cc,lQ pa pl pc,lQ da dl dc] 28)=h.push (oQ (N9 c ca cl cc pa pl pc da dl dc).toArray 28) from rfl]
 generalize h.push (oQ (N9 c ca cl cc pa pl pc da dl dc).toArray 28)=h1 at *
 generalize h.size=SB at *
 have O:=H1.at
 refine C5 O rfl (C5 O rfl (C5 O rfl (C5 O rfl (C5 O rfl (C5 O rfl (C5 O rfl (C5 O rfl (C5 O rfl (C5 O rfl ?_)))))))))
 refine A0 (Xx hc H1 λh3 H3=>?_)
 refine sb ?_
 exact k h3 H3.drop
end
theorem SU3 {c:Mod.Cf} (hc:Fv c=true):∃(d:A9->A9) (W:A9->Prop) (Q:Mod.Cf->M6->Prop),DoC (DH c.algo) d W/\It d Q W (V0 c.algo)/\Ha d Q/\(∀x:A9,d x.uw=(d x).uw)/\(V0 c.algo=11\/V0 c.algo=21\/V0 c.algo=31):=by
 unfold DH V0
 by_cases h0:c.algo=0
 ·rw [if_pos h0,if_pos h0]
  exact ⟨_,_,_,NJ,LU,NN,Xe,.inl rfl⟩
 ·rw [if_neg h0,if_neg h0]
  by_cases h1:c.algo=1
  ·rw [if_pos h1,if_pos h1]
   exact ⟨_,_,_,Tk,PK,TP,PO,.inr (.inl rfl)⟩
  ·rw [if_neg h1,if_neg h1]
   exact ⟨_,_,_,WN,TC,WZ,Ui,.inr (.inr rfl)⟩
section
variable {d:A9->A9} {Q:Mod.Cf->M6->Prop} {W:A9->Prop} {ins:Int} {c:Mod.Cf} {calls:List (List Cl)} {B9 b:List Int}
structure Tw (Q:Mod.Cf->M6->Prop) (c:Mod.Cf) (calls:List (List Cl)) (ps:List Int) (st0:Int) (s:R4) (t:BC):Prop where
 lk:Lk s t
 ok:IA (AF Q c) calls ps.length t
 fit:FB c t
 st:t.m.mm.st=st0+t.l.length
 sub:(t.l.map Xm.th).Sublist ps
theorem SD9 (D:It d Q W ins) (hB:Ha d Q) (hu:∀x:A9,d x.uw=(d x).uw) (C:Cx calls) (hc:Fv c=true) (hl:(calls.length:Int)=c.threads) (hp:∀p ∈ B9,0<=p/\p < c.threads) (hpl:B9.length<=60000):∀n,n<=B9.length ->
  Tw Q c calls (B9.take n) (J5 c b true).mm.st (SU d ins calls (J5 c b true) (B9.take n)) (Gs d ins calls (J5 c b false).watch (B9.take n))
 | 0,_=>⟨⟨rfl,rfl⟩,IA.new hc b false hl,FB.new b false _,by show (J5 c b false).mm.st=(J5 c b false).mm.st+((0:Nat):Int);omega,List.Sublist.refl _⟩
 | n+1,hn=>by
  have ih:=SD9 D hB hu C hc hl hp hpl n (by omega)
  have hlt:n < B9.length:=by omega
  have hln:(B9.take n).length=n:=by rw [List.length_take];omega
  have e1:=Sh4 (d:=d) (ins:=ins) (calls:=calls) (m:=J5 c b true) hlt
  have e2:Gs d ins calls (J5 c b false).watch (B9.take (n+1))=((Gs d ins calls (J5 c b false).watch (B9.take n)).pick d ins calls B9[n]).note B9[n]:=by
   unfold Gs
   rw [List.take_succ_eq_append_getElem hlt,List.foldl_append]
   rfl
  rw [e1,e2]
  generalize SU d ins calls (J5 c b true) (B9.take n)=s at *
  generalize Gs d ins calls (J5 c b false).watch (B9.take n)=t at *
  have h:=hp _ (List.getElem_mem hlt)
  have lk:=Lk.pick (ins:=ins) (calls:=calls) hu ih.lk B9[n]
  obtain ⟨k,hk⟩ : ∃k:Nat,B9[n]=k:=⟨B9[n].toNat,by omega⟩
  have ht:B9.take (n+1)=B9.take n ++ [(k:Int)]:=by rw [List.take_succ_eq_append_getElem hlt,hk]
  rw [hk] at h lk ⊢
  have ok:=ih.ok
  rw [hln] at ok
  obtain ⟨O1,F1,⟨T1⟩⟩:=YD D hB C (k:=k) (by omega) (by omega) ok ih.fit
  refine ⟨lk,by rw [ht,List.length_append,hln];exact O1,F1,?_,?_⟩
  ·rcases T1 with ⟨q1,q2⟩ | ⟨q1,e,_,q2⟩
   ·rw [q1,q2];exact ih.st
   ·rw [q1,q2,ih.st,List.length_append]
    simp only [List.length_cons,List.length_nil]
    omega
  ·rw [ht]
   rcases T1 with ⟨q1,q2⟩ | ⟨q1,e,_,q2⟩
   ·rw [q1]
    exact ih.sub.trans (List.sublist_append_left _ _)
   ·rw [q2,List.map_append]
    exact ih.sub.append (List.Sublist.refl _)
end
theorem SE0 {p:Pl} {a:Int} (h:0<=a/\a < p.size):(p.whr a).1≠5:=by
 unfold Mod.Pl.whr
 rw [if_neg (by omega)]
 split
 ·show (0:Int)≠5;decide
 split
 ·show (1:Int)≠5;decide
 split
 ·show (2:Int)≠5;decide
 split
 ·show (3:Int)≠5;decide
 ·show (4:Int)≠5;decide
structure SZ8 (x:Xm):Prop where
 a:(x.w1.1 == 5)=false
 b:decide (x.kind > 3)=true->(x.w2.1 == 5)=false
 c:decide (x.kind < 4)=true->(x.w2.1 != 5)=false
theorem SL7 {c:Mod.Cf} (hc:Fv c=true) {x:Xm} (h:SX9 (D5 c) (D5 c).size.toNat x):SZ8 x:=by
 have B:=Be hc
 have b6:=B.si
 have b4:=B.tr
 have b3:=B.nd
 have b2:=B.li
 obtain ⟨e,he,rx⟩:=h
 have hk:=he.k
 have ha:=he.a
 generalize x.th=k at *
 subst rx
 have w5:((D5 c).whr (-1)).1=5:=by rw [SD8 (by omega)]
 refine ⟨?_,λh3=>?_,λh4=>?_⟩
 ·have:=SE0 (p:=D5 c) (a:=e.a) (by omega)
  simpa [U7] using this
 ·have h3:e.kind > 3:=of_decide_eq_true h3
  have:=SE0 (p:=D5 c) (a:=e.b) (by omega)
  simpa [U7] using this
 ·have h4:e.kind < 4:=of_decide_eq_true h4
  have eb:e.b = -1:=by omega
  show (((D5 c).whr e.b).1 != 5)=false
  rw [eb,w5];rfl
theorem SE1 {x:Int} {l ps:List Int} {i:Nat} (h:(x :: l).Sublist (ps.drop i)):∃hi:i < ps.length,(ps[i]=x->l.Sublist (ps.drop (i+1)))/\(ps[i]≠x->(x :: l).Sublist (ps.drop (i+1))):=by
 by_cases hi:i < ps.length
 ·refine ⟨hi,λe=>?_,λe=>?_⟩
  ·rw [List.drop_eq_getElem_cons hi,e] at h
   exact List.cons_sublist_cons.1 h
  ·rw [List.drop_eq_getElem_cons hi] at h
   cases h with
   | cons _ h=>exact h
   | cons_cons _ h=>exact absurd rfl e
 ·rw [List.drop_eq_nil_of_le (by omega)] at h
  cases h
end
section
set_option maxHeartbeats 1000000
open Mod
section
variable {K:kQ} {h:A2} {R:Hp}
end
end
section
set_option maxHeartbeats 1000000
open Mod
section
variable {K:kQ} {h:A2} {R:Hp}
end
end
section
set_option maxHeartbeats 1000000
open Mod
section
variable {K:kQ} {h:A2} {R:Hp} {calls:List (List Cl)} {B9 draws:List Int}
theorem SY7 {v0 v1 v2 v3 v4:Value} {F:Value->Value->Value->Value->Value->Prop} (k:F v0 v1 v2 v3 v4):asAgg (.agg #[v0,v1,v2,v3,v4]) λvs=>G0 vs 5 (D2 vs 0 λa=>D2 vs 1 λb=>D2 vs 2 λc=>D2 vs 3 λd=>D2 vs 4 λe=>F a b c d e):=k
theorem YE {a i:Nat} (h:i < a):a - ((i+1:Nat):Int).toNat < a - (i:Int).toNat:=by omega
def SY8 (l:List Xm) (ps:List Int) (P:Hp) (vs:List Value) (h':A2):Prop:=
 ∃i q:Nat,i<=l.length/\q<=ps.length/\vs = [dQ false,iQ (q:Int),iQ (i:Int)]/\((l.drop i).map Xm.th).Sublist (ps.drop q)/\A7 h' P
theorem Md {c0 c:Mod.Cf} {ca pa da:Option Addr} {cl cc0 pl pc0 dl dc0:Nat} (H:A7 h R)
  (hS:∀h' P,A7 h' (P*R)->EO h' ca cl pa pl da dl calls B9 draws) (hR:SC calls B9 draws) (k:∀h',A7 h' R->K (dQ true) h') :
  A5 Tryz.prog 7 #[.agg #[iQ c0.algo,iQ c0.threads,iQ c0.nodes,iQ c0.level,iQ c0.batch,iQ c0.probes,iQ c0.scan,lQ ca cl cc0,lQ pa pl pc0,lQ da dl dc0],.agg #[iQ c.algo,iQ c.threads,iQ c.nodes,iQ c.level,iQ c.batch,iQ c.probes,iQ c.scan]] h K:=by
 refine call7 ?_
 unfold F7 g7 cf bd lS lI de5 SV3 PY EH So0
 have H1:=H.push (oQ (N9 c0 ca cl cc0 pa pl pc0 da dl dc0).toArray 28)
 rw [show h.push (oQ #[iQ c0.algo,iQ c0.threads,iQ c0.nodes,iQ c0.level,iQ c0.batch,iQ c0.probes,iQ c0.scan,lQ ca cl cc0,lQ pa pl pc0,lQ da dl dc0] 28)=h.push (oQ (N9 c0 ca cl cc0 pa pl pc0 da dl dc0).toArray 28) from rfl]
 generalize h.push (oQ (N9 c0 ca cl cc0 pa pl pc0 da dl dc0).toArray 28)=h1 at *
 generalize h.size=SB at *
 have H2:=H1.push (oQ (OF c).toArray 23)
 rw [show h1.push (oQ #[iQ c.algo,iQ c.threads,iQ c.nodes,iQ c.level,iQ c.batch,iQ c.probes,iQ c.scan] 23)=h1.push (oQ (OF c).toArray 23) from rfl]
 generalize h1.push (oQ (OF c).toArray 23)=h2 at *
 generalize h1.size=CB at *
 have lv:∀ {h':A2} {P:Hp},A7 h' (P*R)->A5 Tryz.prog 13 #[] h' λv h''=>asBool v λb=>K (dQ b) h'':=λH'=>PX H' λh'' H''=>by
  refine sb ?_
  exact k h'' H''.drop
 have O:=H2.at
 refine C5 O rfl (C5 O rfl (C5 O rfl (C5 O rfl (C5 O rfl (C5 O rfl (C5 O rfl ?_))))))
 refine A0 (Sj7 H2 (λhc h3 H3=>?_) λhc h3 H3=>?_)
 ·refine sb ?_
  have OC:=H3.at
  have OS:=H3.at2
  refine C5 OS rfl (C5 OS rfl (C5 OS rfl (C5 OS rfl (C5 OS rfl (C5 OS rfl (C5 OS rfl (C5 OS rfl (C5 OS rfl (C5 OS rfl (C5 OC rfl (C5 OC rfl (C5 OC rfl (C5 OC rfl (C5 OC rfl (C5 OC rfl (C5 OC rfl ?_))))))))))))))))
  have B:=Be hc
  have hth:1<=c.threads/\c.threads<=6:=B.th
  refine A0 (SY (c:=c) (c0:=c0) (n:=4) (m:=600) H3 (λh' P H'=>hS h' Mr (by rw [W9];exact H'.drop.drop.drop)) hth (by decide) (by decide) λh4 ca' cc pa' pc da' dc ps H4=>?_)
  refine SY0 ?_
  have hsc:=TE hc (n:=4) (m:=600) (by decide) (by decide) (calls:=calls) (B9:=B9) (draws:=draws)
  have hRL:=Sy3 (th:=c.threads) (n:=4) (m:=600) (by decide) hR
  have hCL:=SD7 (th:=c.threads.toNat) (n:=4) (by omega) (by decide) hR
  have hpk:=Xp hth (m:=600) (B9:=B9)
  have hlen:((M8 c.threads.toNat 4 calls).length:Int)=c.threads:=by rw [Ct];omega
  have hfl:=Ka c.threads.toNat 4 calls
  have hrow:∀l ∈ M8 c.threads.toNat 4 calls,l.length < 2 ^ 60:=λl hl=>by
   have:=(Jh hR (n:=4) (by decide) l hl).1
   omega
  have hpl:(U6 c.threads 600 B9).length<=600:=by unfold U6;rw [List.length_map,List.length_take];omega
  generalize M8 c.threads.toNat 4 calls=L at *
  generalize U6 c.threads 600 B9=P at *
  generalize draws.take 4096=Dr at *
  rw [Hr] at H4
  refine F6 (vs:=N9 c ca' L.length cc pa' P.length pc da' Dr.length dc) H4.at rfl (by simp [N9,OF,J3]) λh5 w=>?_
  have H5:=H4.wr w.new w.old
  clear H4 w
  have OS:=H5.at
  refine C5 OS rfl (C5 OS rfl (C5 OS rfl (C5 OS rfl (C5 OS rfl (C5 OS rfl (C5 OS rfl (C5 OS rfl (C5 OS rfl (C5 OS rfl ?_)))))))))
  obtain ⟨d,W,Q,D,G,hB,hu,hins⟩:=SU3 hc
  have tw:=SD9 G hB hu hCL hc hlen hpk (by omega) P.length (Nat.le_refl _) (b:=Dr)
  rw [List.take_length] at tw
  generalize hX:Ss6 ca' cc pa' pc da' dc ps L P Dr*(pt CB (oQ (OF c).toArray 23)*R)=X at *
  have hI:∀ {h':A2} {Y:Hp},A7 h' (Y*X)->EO h' ca' L.length pa' P.length da' Dr.length L P Dr:=λHX=>by
   rw [<- hX] at HX
   exact SS1 HX.drop
  have hdr:∀ {h':A2} {Y:Hp},A7 h' (Y*X)->A7 h' (pt CB (oQ (OF c).toArray 23)*R):=λHY=>by
   rw [<- hX] at HY
   exact HY.drop.drop
  clear hX
  refine A0 (NU (c:=c) (calls:=L) (B9:=P) (draws:=Dr) H5 (λh' Y HY=>hI (Y:=Y*_) (by rw [E7];exact HY)) hRL (by omega) (by omega) (by omega) hrow D G hB (λhh=>by rw [hsc] at hh;cases hh) λ_ h6 la lc t et htl _ FF H6=>?_)
  refine sb ?_
  refine Bk ?_
  refine sb ?_
  refine Bl ?_
  refine sb ?_
  have OS:=H6.at2
  refine C5 OS rfl (C5 OS rfl (C5 OS rfl (C5 OS rfl (C5 OS rfl (C5 OS rfl (C5 OS rfl (C5 OS rfl (C5 OS rfl (C5 OS rfl ?_)))))))))
  refine A0 (MJ (c:=c) (calls:=L) (B9:=P) (draws:=Dr) H6 (λh' Y HY=>hI (Y:=Y*(_*_)) (by rw [E7,E7];exact HY)) hRL (by omega) (by omega) (by omega) hrow D (AF.good G) (λhh=>AF.new hc _ _) (λhh=>by rw [hsc] at hh;cases hh) λ_ h7 ea ec Qq M Ts s es _ H7=>?_)
  rw [<- et,<- es] at tw
  have H7':=H7.drop.drop
  clear H6 H7 H5
  refine sb ?_
  refine PU ?_
  refine SY7 ?_
  refine PV ?_
  refine sb ?_
  refine PW ?_
  refine sb ?_
  have est:F5 (s.m.mm.st - (J5 c Dr true).mm.st)=(t.l.length:Int):=by
   have e1:s.m.mm.st=t.m.mm.st:=by show s.m.uw.mm.st=t.m.uw.mm.st;rw [tw.lk.m]
   rw [e1,tw.st]
   unfold F5;omega
  rw [est]
  have H8:=H7'.push (oQ #[lQ none 0 0,iQ 0,iQ 0,dQ false,iQ 0] 34)
  generalize h7.push (oQ #[lQ none 0 0,iQ 0,iQ 0,dQ false,iQ 0] 34)=h8 at *
  generalize h7.size=ZB at *
  refine F6 (vs:=[lQ ea s.ev.length ec,iQ (t.l.length:Nat),iQ s.idle,dQ s.m.fault,iQ s.most]) H8.at rfl (by simp [J3]) λh9 w=>?_
  have H9:=H8.wr w.new w.old
  clear H8 w H7'
  have OZ:=H9.at
  refine ⟨λvs h'=>(∃u,vs = [u,dQ false])/\h' = h9,?_,?_⟩
  ·refine C7 (λhh=>by simp at hh) (λ_=>?_)
   refine C7 (λhh=>by simp at hh) (λ_=>?_)
   refine C5 OZ rfl ?_
   refine sb ?_
   exact ⟨dQ false,by simp⟩
  rintro v1 v2 g h10 ⟨⟨u,e⟩,rfl⟩
  cases e
  simp only [B6,E2]
  have H10:=H9.drop
  have rp:∀ {h':A2},A7 h' (F3 51 9 la t.l.length lc (t.l.flatMap IF)*(pt SB (oQ (N9 c ca' L.length cc pa' P.length pc da' Dr.length dc).toArray 28)*X))->h'[SB]? = some (oQ (N9 c ca' L.length cc pa' P.length pc da' Dr.length dc).toArray 28)/\(∀(q:Nat) (hq:q < P.length) {F:Value->Prop},F (iQ P[q])->E5 (pQ pa') λa=>D1 h' (a.add (q*1)) F)/\∀(j q:Nat) (x:Xm) (hj:j < 9),t.l[q]? = some x->∀ {F:Value->Prop} {v:Value},(IF x)[j]? = some v->F v->(E5 (pQ la) λa=>D1 h' ((a.add (q*9)).add j) F)/\(j=0->E5 (pQ la) λa=>D1 h' (a.add (q*9)) F):=by
   intro h' HX
   refine ⟨HX.at2,λq hq F f=>?_,λj q x hj ex F v ev f=>?_⟩
   ·obtain ⟨ad,ea,hc⟩:=(hI (Y:=F3 51 9 la t.l.length lc (t.l.flatMap IF)*pt SB (.cells (N9 c ca' L.length cc pa' P.length pc da' Dr.length dc).toArray 28)) (by rw [E7];exact HX)).f.pk q (.int .i64 P[q]) (by rw [List.getElem?_map,List.getElem?_eq_getElem hq];rfl)
    rw [ea,Nat.mul_one]
    exact D3 hc f
   ·obtain ⟨hq,ex⟩:=List.getElem?_eq_some_iff.1 ex
    subst ex
    obtain ⟨ad,ea,hc⟩:=HX.own.sees (q*9+j) v ((N3 SL5 hq hj).trans ev)
    rw [ea]
    refine ⟨?_,λe=>?_⟩
    ·show D1 h' ((ad.add (q*9)).add j) F
     rw [BH]
     exact D3 hc f
    ·subst e
     exact D3 hc f
  have hY:∀ {h':A2},A7 h' (F3 51 9 la t.l.length lc (t.l.flatMap IF)*(pt SB (oQ (N9 c ca' L.length cc pa' P.length pc da' Dr.length dc).toArray 28)*X))->A7 h' (pt CB (oQ (OF c).toArray 23)*R):=λHX=>hdr HX.drop
  generalize F3 51 9 la t.l.length lc (t.l.flatMap IF)*(pt SB (oQ (N9 c ca' L.length cc pa' P.length pc da' Dr.length dc).toArray 28)*X)=Y at *
  refine ⟨SY8 t.l P Y,λvs _=>match vs with | [_,_,.int _ n]=>t.l.length - n.toNat | _=>0,⟨0,0,Nat.zero_le _,Nat.zero_le _,rfl,?_,H10⟩,?_⟩
  ·rw [List.drop_zero,List.drop_zero];exact tw.sub
  rintro v148 v149 v150 g151 h152 ⟨i,q,hi,hq,e,hsub,H11⟩
  cases e
  simp only [A6]
  refine A4 (λc1=>?_) (λc1=>?_)
  ·have hi':i < t.l.length:=by omega
   have LL:=SL7 hc (FF.en _ (List.getElem_mem hi'))
   have ex:t.l[i]? = some t.l[i]:=List.getElem?_eq_getElem hi'
   rw [List.drop_eq_getElem_cons hi',List.map_cons] at hsub
   generalize t.l[i]=x at *
   refine ⟨λvs h'=>∃q:Nat,q<=P.length/\vs = [.int .i64 (q:Int)]/\(x.th :: (t.l.drop (i+1)).map Xm.th).Sublist (P.drop q)/\A7 h' Y,λvs _=>match vs with | [.int _ n]=>P.length - n.toNat | _=>0,⟨q,hq,rfl,hsub,H11⟩,?_⟩
   rintro v156 g157 h158 ⟨q2,hq2,e,hs2,H12⟩
   cases e
   obtain ⟨hlt,sy,sn⟩:=SE1 hs2
   obtain ⟨OS,rP,rL⟩:=rp H12
   refine ⟨λvs h'=>vs = [dQ (P[q2] != x.th)]/\h' = h158,?_,?_⟩
   ·simp only [A6]
    refine C5 OS rfl ?_
    simp only [C6]
    refine A4 (λc2=>?_) (λc2=>by omega)
    refine C5 OS rfl ?_
    simp only [C6]
    refine ⟨by omega,by omega,?_⟩
    have:=rP q2 hlt (F:=λv171=>asInt .i64 v171 λn172=>0<=(i:Int)/\(i:Int) < (t.l.length:Nat)/\E5 (pQ la) λa174=>D1 h158 (a174.add (i*9)) λv175=>asInt .i64 v175 λn176=>[Value.bool (n172 != n176)] = [dQ (P[q2] != x.th)]/\h158=h158) (by
     simp only [A6]
     refine ⟨by omega,by omega,?_⟩
     refine (rL 0 i x (by omega) ex rfl ?_).2 rfl
     simp only [A6]
     exact ⟨by trivial,by trivial⟩)
    simp only [Nat.mul_one] at this
    exact this
   rintro v177 g178 h179 ⟨e,rfl⟩
   cases e
   simp only [B6]
   have sq:F5 ((q2:Int)+1)=((q2+1:Nat):Int):=by rw [<- Int.natCast_add_one];exact Bg _ (by omega)
   have si:F5 ((i:Int)+1)=((i+1:Nat):Int):=by rw [<- Int.natCast_add_one];exact Bg _ (by omega)
   have bi:0<=(i:Int)/\(i:Int) < (t.l.length:Nat):=⟨Int.natCast_nonneg _,Int.ofNat_lt.2 hi'⟩
   refine C7 (λhne=>?_) (λhne=>?_)
   ·simp only [A6]
    rw [sq]
    refine ⟨⟨q2+1,Nat.succ_le_of_lt hlt,rfl,sn (by simpa using hne),H12⟩,?_⟩
    exact YE hlt
   ·have heq:P[q2]=x.th:=by simpa using hne
    refine ⟨λvs h'=>(∃u0 u1 u2 u3,vs = [u0,u1,u2,u3,dQ false])/\h' = h179,?_,?_⟩
    ·refine C5 OS rfl ?_
     simp only [C6]
     refine A4 (λc2=>absurd c2 (Int.not_le.2 (Int.ofNat_lt.2 hlt))) (λc2=>?_)
     refine ⟨bi.1,bi.2,?_⟩
     refine (rL 3 i x (by omega) ex rfl ?_).1
     simp only [A6]
     refine C7 (λhh=>by rw [LL.a] at hh;cases hh) (λ_=>?_)
     refine ⟨bi.1,bi.2,?_⟩
     refine (rL 1 i x (by omega) ex rfl ?_).1
     simp only [A6]
     refine C7 (λk3=>?_) (λk3=>?_)
     ·refine ⟨bi.1,bi.2,?_⟩
      refine (rL 6 i x (by omega) ex rfl ?_).1
      simp only [A6]
      refine C7 (λhh=>by rw [LL.b k3] at hh;cases hh) (λ_=>?_)
      refine ⟨bi.1,bi.2,?_⟩
      refine (rL 1 i x (by omega) ex rfl ?_).1
      simp only [A6]
      have k3:=of_decide_eq_true k3
      refine A4 (λhh=>absurd k3 (Int.not_lt.2 (Int.le_of_lt_add_one hh))) (λ_=>?_)
      exact ⟨⟨_,_,_,_,rfl⟩,by trivial⟩
     ·refine ⟨bi.1,bi.2,?_⟩
      refine (rL 1 i x (by omega) ex rfl ?_).1
      simp only [A6]
      refine C7 (λk4=>?_) (λk4=>?_)
      ·refine ⟨bi.1,bi.2,?_⟩
       refine (rL 6 i x (by omega) ex rfl ?_).1
       simp only [A6]
       exact ⟨⟨_,_,_,_,by rw [LL.c k4]⟩,by trivial⟩
      ·exact ⟨⟨_,_,_,_,rfl⟩,by trivial⟩
    rintro v216 v217 v218 v219 v220 g221 h222 ⟨⟨u0,u1,u2,u3,e⟩,rfl⟩
    cases e
    simp only [B6,E2,A6]
    rw [sq,si]
    refine ⟨⟨i+1,q2+1,Nat.succ_le_of_lt hi',Nat.succ_le_of_lt hlt,rfl,sy heq,H12⟩,?_⟩
    exact YE hi'
  ·exact A0 (lv (hY H11))
 ·refine sb ?_
  have OC:=H3.at
  refine C5 OC rfl (C5 OC rfl (C5 OC rfl (C5 OC rfl (C5 OC rfl (C5 OC rfl (C5 OC rfl ?_))))))
  rw [D4] at H3
  refine H3.st (i:=0) rfl trivial λh10 H10=>?_
  refine H10.st (i:=1) rfl trivial λh11 H11=>?_
  refine H11.st (i:=2) rfl trivial λh12 H12=>?_
  refine H12.st (i:=3) rfl trivial λh13 H13=>?_
  refine H13.st (i:=4) rfl trivial λh14 H14=>?_
  refine H14.st (i:=5) rfl trivial λh15 H15=>?_
  refine H15.st (i:=6) rfl trivial λh16 H16=>?_
  have OS:=H16.at
  refine C5 OS rfl (C5 OS rfl (C5 OS rfl (C5 OS rfl (C5 OS rfl (C5 OS rfl (C5 OS rfl (C5 OS rfl (C5 OS rfl (C5 OS rfl ?_)))))))))
  refine A0 (Xy (c:=c) hc H16 λh17 H17=>?_)
  refine sb ?_
  refine Bk ?_
  refine sb ?_
  refine Bl ?_
  refine sb ?_
  refine C7 (λ_=>?_) (λhh=>by simp at hh)
  refine C7 (λ_=>?_) (λhh=>by simp at hh)
  exact A0 (lv H17.drop)
end
end
end Go.Proofs.YtahpbclnkofhfaaGreat
