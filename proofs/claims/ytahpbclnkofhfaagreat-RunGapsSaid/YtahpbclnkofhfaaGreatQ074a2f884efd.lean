/- Part 12 of what the proofs of this seat rest on: see the last text of the claim. -/
import Derived.Test.YtahpbclnkofhfaaGreatQe09153dc0704
set_option linter.unusedSimpArgs false
set_option linter.unusedVariables false
set_option linter.ambiguousOpen false
set_option maxRecDepth 20000
namespace Go.Proofs.YtahpbclnkofhfaaGreat
section
set_option maxHeartbeats 1000000
open Mod
section
variable {K:Value→Wa1→Prop} {h:Wa1} {X:RX} {s:RnSt} {R:Hp} {calls:List (List Cl)} {Wb6 draws:List Int}
theorem WK5 {q:Nat} {m:Mm} (H:Sat h (Wq4 q m*R)) (k:K (.int .i64 m.st) h):Wa5 Tryz.prog 33 #[mP q] h K:=by
 refine call33 ?_
 unfold F33 lI nP
 obtain ⟨b,la,lc,MB,H1⟩:=Ws3.1 H
 refine sb ?_
 refine H1.ld rfl ?_
 refine sb ?_
 exact k
theorem W29 {Q M f:Nat} {ins:Int} {Ts:List Nat} {m:Mac} (H:Sat h (suS Q M f ins Ts m*R)) (k:∀q R',Sat h (Wq4 q m.mm*R')→K (mP q) h):Wa5 Tryz.prog 32 #[mP M] h K:=by
 obtain ⟨a,c,hl,H1⟩:=Wl9.1 (Wq1.1 H)
 exact YH1 H1 λq R' HM _=>k q R' HM
theorem Yh8 {Q M f:Nat} {ins:Int} {Ts:List Nat} {m:Mac} (H:Sat h (suS Q M f ins Ts m*R)) (k:∀h',Sat h' (suS Q M f ins Ts m*R)→K (.bool m.fault) h'):Wa5 Tryz.prog 36 #[mP M] h K:=by
 obtain ⟨a,c,hl,H1⟩:=Wl9.1 (Wq1.1 H)
 exact YH0 H1 λh' H2=>k h' (Wq1.2 (Wl9.2 ⟨a,c,hl,H2⟩))
theorem Sat.own_empty {h:Wa1} {R:Hp} (H:Sat h R) (elem:TypeId) (sz:Nat):Sat (h.push (.cells #[] elem)) (We4 elem sz (some ⟨h.size,0,none⟩) 0 0 []*R):=by
 have o1:Old h.size h (h.push (.cells #[] elem)):=(Old.refl _ _).push _ (Nat.le_refl _)
 have ow:Own (h.push (.cells #[] elem)) elem sz (some ⟨h.size,0,none⟩) 0 0 []:=⟨by simp,Nat.le_refl _,.inr ⟨h.size,#[],rfl,by simp,by simp,by simp⟩⟩
 refine H.mk_new o1 (λb hb=>?_) ow.nd λh'' e=>ow.congr e
 obtain ⟨ad,e,rfl⟩:=hb
 cases e
 exact ⟨Nat.le_refl _,by simp⟩
theorem Yh9 {a:Option Addr} {c:Nat} {ev:List EvM} (H:Sat h (We4 45 8 a ev.length c (ev.flatMap evc)*R)) (hb:ev.length≤1000000)
  (k:∀h' a' c',Sat h' (We4 45 8 a' ev.length c' (ev.flatMap evc)*(We4 45 8 a ev.length c (ev.flatMap evc)*R))→K (.slice a' ev.length c') h') :
  Wa5 Tryz.prog 70 #[.slice a ev.length c] h K:=by
 refine call70 ?_
 unfold F70
 refine Wb7 (λhh=>?_) (λhh=>?_)
 ·have ea:a=none:=by cases a with | none=>rfl | some x=>cases hh
  subst ea
  have hl0:ev.length=0:=by
   obtain ⟨h1,h2,h3⟩:=H.own
   rcases h3 with ⟨_,hc⟩ | ⟨b,row,e,_⟩
   ·omega
   ·cases e
  have e0:ev = []:=List.length_eq_zero_iff.1 hl0
  subst e0
  exact k h none 0 (H.own_new 45 8)
 ·have H1:=H.own_empty 45 8
  have hs:=H1.drop.own.sees
  generalize h.push (.cells #[] 45)=h1 at *
  generalize h.size=N at *
  rw [← WC2] at H1
  refine H1.app YY9 Ye8 YZ0 (by rw [WC2];rfl) hs (n:=ev.length) (by rw [WC2,WQ1 YY8]) (λy hy=>?_) (by rw [W69];omega) (by rw [W69];omega) λa' c' h' H3=>?_
  ·obtain ⟨x,_,hx⟩:=List.mem_flatMap.1 hy
   simp only [evc,List.mem_cons,List.not_mem_nil,or_false] at hx
   rcases hx with rfl | rfl | rfl | rfl | rfl | rfl | rfl | rfl <;> trivial
  ·rw [WC2,Nat.zero_add,List.nil_append] at H3
   rw [Nat.zero_add]
   refine sb ?_
   exact k h' a' c' H3
abbrev rnE (Q NB n:Nat) (c:Mod.Cf) (ca:Option Addr) (cl cc:Nat) (pa:Option Addr) (pl pc:Nat) (da:Option Addr) (dl dc:Nat) (v0:Value) (st idle:Int) (fl:Bool) (most:Int) (ea:Option Addr) (en ec:Nat) (mo:Option Nat) (gap:Int):List Value:=[v0,.int .i64 st,.int .i64 idle,.bool fl,.int .i64 most,mP Q,.int .i64 c.algo,.int .i64 c.threads,.int .i64 c.nodes,.int .i64 c.level,.int .i64 c.batch,.int .i64 c.probes,.int .i64 c.scan,.slice ca cl cc,.slice pa pl pc,.slice da dl dc,.slice (some ⟨NB,0,none⟩) n n,.slice ea en ec,.map mo,.int .i64 gap]
theorem Sat.map_new {h:Wa1} {R:Hp} (H:Sat h R):Sat h (mpS none (λ_=>none)*R):=by
 refine H.mk_new (Old.refl _ _) (λb hb=>by cases hb) (λb o hb=>by cases hb) λh'' _ t=>rfl
theorem Zj4 {n:Nat} {t:Int} (ht:(n:Int)=t) (hn:n≤4096) (k:K (.slice (some ⟨h.size,0,none⟩) n n) (h.push (.cells ((List.replicate n (0:Int)).map iv).toArray 3))):Wq7 Tryz.prog 3 t t h K:=by
 subst ht
 exact Zu8 hn k
variable {d:Run→Run} {W:Run→Prop} {Inv:Nat→Mac→Prop}
theorem WK6 {c:Mod.Cf} {ca pa da:Option Addr} {cl cc pl pc dl dc:Nat} (H:Sat h R) (hS:∀h' P,Sat h' (P*R)→ScrI h' ca cl pa pl da dl calls Wb6 draws) (hR:Zu9 calls Wb6 draws)
  (hn:calls.flatten.length < 2 ^ 60) (hn2:calls.length < 2 ^ 60) (hn3:Wb6.length < 2 ^ 60) (hV:∀l ∈ calls,l.length < 2 ^ 60)
  (D:DoC (W87 c.algo) d W) (G:Y05 d W (Wm6 c.algo) Inv) (hI:okC c=true→Inv 0 (We9 c draws true))
  (k0:YB4 c calls Wb6 draws=false→∀h',Sat h' R→K (.tuple #[.agg #[.slice none 0 0,.int .i64 0,.int .i64 0,.bool false,.int .i64 0],.pointer none,.int .i64 1]) h')
  (k1:YB4 c calls Wb6 draws=true→∀h' ea ec Q M Ts s,s=Yh5 d (Wm6 c.algo) calls (We9 c draws true) Wb6→RsOk Inv calls Wb6.length s→Sat h' (We4 45 8 ea s.ev.length ec (s.ev.flatMap evc)*(suS Q M (W87 c.algo) (Wm6 c.algo) Ts s.m*R)) →
   K (.tuple #[.agg #[.slice ea s.ev.length ec,.int .i64 (s64 (s.m.mm.st - (We9 c draws true).mm.st)),.int .i64 s.idle,.bool s.m.fault,.int .i64 s.most],mP Q,.int .i64 0]) h') :
  Wa5 Tryz.prog 12 #[.agg #[.int .i64 c.algo,.int .i64 c.threads,.int .i64 c.nodes,.int .i64 c.level,.int .i64 c.batch,.int .i64 c.probes,.int .i64 c.scan,.slice ca cl cc,.slice pa pl pc,.slice da dl dc]] h K:=by
 refine call12 ?_
 unfold F12 g12 cf ce bd lS lI da5 da7 dl5 YF6 dw5
 have H1:=H.push (.cells (Wv5 c ca cl cc pa pl pc da dl dc).toArray 28)
 rw [show h.push (.cells #[.int .i64 c.algo,.int .i64 c.threads,.int .i64 c.nodes,.int .i64 c.level,.int .i64 c.batch,.int .i64 c.probes,.int .i64 c.scan,.slice ca cl cc,.slice pa pl pc,.slice da dl dc] 28)=h.push (.cells (Wv5 c ca cl cc pa pl pc da dl dc).toArray 28) from rfl]
 generalize h.push (.cells (Wv5 c ca cl cc pa pl pc da dl dc).toArray 28)=h1 at *
 generalize h.size=SB at *
 have I:=hS h1 _ H1
 have ecl:=I.f.cs
 have epl:=I.f.ps
 have edl:=I.ds
 subst ecl epl edl
 have H2:=H1.push (.cells #[.slice none 0 0,.int .i64 0,.int .i64 0,.bool false,.int .i64 0] 34)
 generalize h1.push (.cells #[.slice none 0 0,.int .i64 0,.int .i64 0,.bool false,.int .i64 0] 34)=h2 at *
 generalize h1.size=ZB at *
 have O:=H2.at2
 refine ldR O rfl (ldR O rfl (ldR O rfl (ldR O rfl (ldR O rfl (ldR O rfl (ldR O rfl (ldR O rfl (ldR O rfl (ldR O rfl ?_)))))))))
 have hS2:∀h' P,Sat h' (P*(pt ZB (.cells #[.slice none 0 0,.int .i64 0,.int .i64 0,.bool false,.int .i64 0] 34)*(pt SB (.cells (Wv5 c ca calls.length cc pa Wb6.length pc da draws.length dc).toArray 28)*R)))→ScrI h' ca calls.length pa Wb6.length da draws.length calls Wb6 draws:=λh' P HP=>hS h' emp (by rw [Wk8];exact HP.drop.drop.drop)
 refine Wa0 (Yh4 (c:=c) H2 hS2 hn hn2 hn3 hV λh3 H3=>?_)
 refine sb ?_
 refine Wb7 (λhh=>?_) (λhh=>?_)
 ·have e:YB4 c calls Wb6 draws=false:=by simpa using hh
  refine Wd3 (vs:=[.slice none 0 0,.int .i64 0,.int .i64 0,.bool false,.int .i64 0]) H3.at rfl (by simp [Wi5]) λh4 w=>?_
  have H4:=H3.wr w.new w.old
  refine ldR H4.at rfl (ldR H4.at rfl (ldR H4.at rfl (ldR H4.at rfl (ldR H4.at rfl ?_))))
  exact k0 e h4 H4.drop.drop
 have hsc:YB4 c calls Wb6 draws=true:=by simpa using hh
 have hsc2:=hsc
 unfold YB4 at hsc2
 simp only [Bool.and_eq_true,beq_iff_eq,decide_eq_true_eq,List.all_eq_true] at hsc2
 obtain ⟨hok,hct,hf48,hp6,hd4,hcl,hpk⟩:=hsc2
 have B:=Wv3 hok
 have hthr:1≤c.threads∧c.threads≤6:=B.th
 have C:WH5 calls:=⟨by omega,λl hl=>⟨by
  have:l.length≤calls.flatten.length:=by
   obtain ⟨i,hi,rfl⟩:=List.getElem_of_mem hl
   have e1:=Y37 hi
   have e2:=ZF3 (L:=calls) (i+1)
   omega
  omega,λx hx=>⟨hcl l hl x hx,hR.cl l hl x hx⟩⟩⟩
 have O:=H3.at2
 refine ldR O rfl (ldR O rfl (ldR O rfl (ldR O rfl (ldR O rfl (ldR O rfl (ldR O rfl (ldR O rfl ?_)))))))
 refine sb ?_
 refine Wa0 (YK4 (c:=c) (bs:=draws) H3 (λh' P HP=>(hS2 h' P HP).dr) (by omega) hR.dr (λhx=>by rw [hok] at hx;cases hx) λ_ h4 Q M Ts H4=>?_)
 have hI0:=hI hok
 have hm0:(We9 c draws true).th.length=calls.length:=by
  show (List.replicate c.threads.toNat (WM2 c)).length=_
  rw [List.length_replicate];omega
 generalize We9 c draws true=m0 at *
 refine sb ?_
 refine WC0 ?_
 refine sb ?_
 refine WC1 ?_
 refine sb ?_
 refine Wb7 (λhx=>by simp at hx) (λ_=>?_)
 have O:=H4.at3
 refine ldR O rfl (ldR O rfl (ldR O rfl (ldR O rfl (ldR O rfl (ldR O rfl (ldR O rfl (ldR O rfl (ldR O rfl (ldR O rfl (ldR O rfl ?_))))))))))
 refine sb ?_
 refine Zj4 hct (by omega) ?_
 refine sb ?_
 have H5:=H4.push (.cells ((List.replicate calls.length (0:Int)).map iv).toArray 3)
 generalize h4.push (.cells ((List.replicate calls.length (0:Int)).map iv).toArray 3)=h5 at *
 generalize h4.size=NB at *
 have O5:=(H5.drop.drop.drop).at
 have H6:=H5.push (.cells #[.slice none 0 0,.int .i64 0,.int .i64 0,.bool false,.int .i64 0,mP Q,.int .i64 c.algo,.int .i64 c.threads,.int .i64 c.nodes,.int .i64 c.level,.int .i64 c.batch,.int .i64 c.probes,.int .i64 c.scan,.slice ca calls.length cc,.slice pa Wb6.length pc,.slice da draws.length dc,.slice (some ⟨NB,0,none⟩) calls.length calls.length,.slice none 0 0,.map none,.int .i64 0] 78)
 repeat (first | refine ⟨Wc4 (Wd4 O5 rfl),?_⟩ | refine ⟨Wd4 O5 rfl,?_⟩)
 generalize h5.push (.cells #[.slice none 0 0,.int .i64 0,.int .i64 0,.bool false,.int .i64 0,mP Q,.int .i64 c.algo,.int .i64 c.threads,.int .i64 c.nodes,.int .i64 c.level,.int .i64 c.batch,.int .i64 c.probes,.int .i64 c.scan,.slice ca calls.length cc,.slice pa Wb6.length pc,.slice da draws.length dc,.slice (some ⟨NB,0,none⟩) calls.length calls.length,.slice none 0 0,.map none,.int .i64 0] 78)=h6 at *
 generalize h5.size=RB at *
 obtain ⟨X,hX⟩ : ∃X:RX,X=⟨RB,NB,Q,M,W87 c.algo,Wm6 c.algo,Ts,c,ca,calls.length,cc,pa,Wb6.length,pc,da,draws.length,dc,calls.length⟩:=⟨_,rfl⟩
 generalize hFR:pt ZB (.cells #[.slice none 0 0,.int .i64 0,.int .i64 0,.bool false,.int .i64 0] 34)*(pt SB (.cells (Wv5 c ca calls.length cc pa Wb6.length pc da draws.length dc).toArray 28)*R)=FR at H6 hS2
 have H7:Sat h6 (rnS X (rs0 m0 calls.length)*FR):=by
  have H8:=(H6.own_new 45 8).map_new
  rw [hX]
  refine Wi1.2 ⟨none,0,none,by show (List.replicate _ _).length=_;simp,?_⟩
  exact Sat.ac H8 (by show _=pt RB _*(We4 45 8 none 0 0 []*(mpS none (λ_=>none)*(pt NB _*(suS Q M (W87 c.algo) (Wm6 c.algo) Ts m0*FR))));ac_rfl)
 have D7:RsOk Inv calls 0 (rs0 m0 calls.length):=by
  refine ⟨hI0,hm0,λk hk=>?_,by show ([]:List EvM).length≤_;simp,⟨by show (0:Int)≤0;omega,by show (0:Int)≤_;omega⟩,⟨by show (0:Int)≤0;omega,by show (0:Int)≤_;omega⟩,⟨by show (0:Int)≤0;omega,by show (0:Int)≤_;omega⟩⟩
  show 0≤(List.replicate calls.length (0:Int)).getD k 0∧(List.replicate calls.length (0:Int)).getD k 0≤_
  simp [hk]
 clear H1 H2 H3 H4 H5 H6 I O
 have eRB:RB=X.RB:=by rw [hX]
 have ei:Wm6 c.algo=X.ins:=by rw [hX]
 have DX:DoC X.f d W:=by rw [hX];exact D
 have GX:Y05 d W X.ins Inv:=by rw [hX];exact G
 have su:∀ {h':Wa1} {s:RnSt},Sat h' (rnS X s*FR)→∃QQ:Hp,Sat h' (suS Q M (W87 c.algo) (Wm6 c.algo) Ts s.m*(QQ*FR)):=by
  intro h' s H'
  obtain ⟨QQ,H8,_⟩:=YB5 H'
  rw [hX] at H8
  exact ⟨QQ,H8⟩
 obtain ⟨QQ,H8⟩:=su H7
 refine Wa0 (WE4 H8 ?_)
 refine sb ?_
 refine Wa0 (W29 H8 λq R' HM=>?_)
 refine sb ?_
 refine Wa0 (WK5 HM ?_)
 show asInt .i64 (.int .i64 m0.mm.st) _
 refine sb ?_
 have scr:∀ {h':Wa1} {s:RnSt},Sat h' (rnS X s*FR)→h'[SB]? = some (.cells (Wv5 c ca calls.length cc pa Wb6.length pc da draws.length dc).toArray 28)∧ScrI h' ca calls.length pa Wb6.length da draws.length calls Wb6 draws:=by
  intro h' s H'
  refine ⟨?_,hS2 h' _ H'⟩
  rw [← hFR] at H'
  exact H'.drop.drop.at
 obtain ⟨sc,sI⟩:=scr H7
 refine ldR sc rfl ?_
 refine sb ?_
 have hS7:∀h' P,Sat h' (P*FR)→ZD8 h' X.ca X.cl X.pa X.pl calls Wb6:=by
  intro h' P HP
  rw [hX]
  exact (hS2 h' P HP).f
 have hXn:X.n=calls.length:=by rw [hX]
 have hins:0≤X.ins∧X.ins≤100:=by
  rw [← ei]
  unfold Wm6
  repeat' split
  all_goals decide
 refine ⟨λvs h'=>∃(u:Value) (j:Nat),vs = [u,.int .i64 j]∧j≤Wb6.length∧RsOk Inv calls j ((Wb6.take j).foldl (λs k=>s.pick d X.ins calls k) (rs0 m0 calls.length))∧Sat h' (rnS X ((Wb6.take j).foldl (λs k=>s.pick d X.ins calls k) (rs0 m0 calls.length))*FR),λvs _=>match vs with | [_,.int _ i]=>((Wb6.length:Int) - i).toNat | _=>0,⟨_,0,rfl,Nat.zero_le _,D7,H7⟩,?_⟩
 rintro v84 v85 g86 h87 ⟨u,j,e,hj,DJ,HJ⟩
 cases e
 refine sb ?_
 generalize hsj:(Wb6.take j).foldl (λs k=>s.pick d X.ins calls k) (rs0 m0 calls.length)=sj at *
 obtain ⟨scJ,sIJ⟩:=scr HJ
 refine Wa3 (λc1=>?_) (λc1=>?_)
 ·have hjlt:j < Wb6.length:=by omega
  obtain ⟨ad,ea,hc⟩:=sIJ.f.pk j (.int .i64 Wb6[j]) (by rw [List.getElem?_map,List.getElem?_eq_getElem hjlt];rfl)
  subst ea
  refine ⟨by omega,by omega,?_⟩
  refine sb ?_
  refine Wc5 hc ?_
  refine sb ?_
  have hp:=hpk _ (List.getElem_mem hjlt)
  have hnext:(Wb6.take (j+1)).foldl (λs k=>s.pick d X.ins calls k) (rs0 m0 calls.length)=sj.pick d X.ins calls Wb6[j]:=by
   rw [List.take_succ_eq_append_getElem hjlt,List.foldl_append,hsj]
   rfl
  obtain ⟨kk,hkk⟩ : ∃kk:Nat,Wb6[j]=kk:=⟨Wb6[j].toNat,by omega⟩
  rw [hkk] at hp hnext ⊢
  rw [eRB]
  refine Wa0 (Ys7 DX GX C hXn hins HJ hS7 (j:=j) (k:=kk) (by omega) (by omega) DJ λh94 D94 H94=>?_)
  try simp only [Wb8,bsx,Nat.reduceAdd,Int.reduceLE,Int.reduceLT,Int.reduceToNat]
  rw [show s64 ((j:Int)+1)=((j+1:Nat):Int) from by rw [← Int.natCast_add_one];exact WE5 _ (by omega)]
  refine ⟨⟨_,j+1,rfl,by omega,by rw [hnext];exact D94,by rw [hnext];exact H94⟩,?_⟩
  show ((Wb6.length:Int) - ((j+1:Nat):Int)).toNat < ((Wb6.length:Int) - (j:Int)).toNat
  omega
 have ej:j=Wb6.length:=by omega
 subst ej
 rw [List.take_length] at hsj
 have hrun:sj=Yh5 d (Wm6 c.algo) calls m0 Wb6:=by
  unfold Yh5
  rw [← hsj,ei]
 obtain ⟨ea,ec,mo,hl,H0⟩:=Wi1.1 HJ
 have H9:Sat h87 (pt RB (.cells (rnE Q NB calls.length c ca calls.length cc pa Wb6.length pc da draws.length dc (.slice none 0 0) 0 sj.idle false sj.most ea sj.ev.length ec mo sj.gap).toArray 78)*(We4 45 8 ea sj.ev.length ec (sj.ev.flatMap evc)*(mpS mo sj.cu*(pt NB (.cells (sj.nx.map iv).toArray 3)*(suS Q M (W87 c.algo) (Wm6 c.algo) Ts sj.m*FR))))):=by
  rw [hX] at H0
  exact H0
 have hev:sj.ev.length≤1000000:=by have:=DJ.ev;omega
 refine Wa0 (call35 ?_)
 unfold F35 cf lS nP
 refine Wb7 (λhx=>by cases hx) (λ_=>?_)
 refine sb ?_
 refine ldR H9.at rfl ?_
 refine sb ?_
 rw [Wb4] at H9
 refine Wa0 (Yh9 H9 hev λh10 a10 c10 H10=>?_)
 refine sb ?_
 have H11:Sat h10 (pt RB (.cells (rnE Q NB calls.length c ca calls.length cc pa Wb6.length pc da draws.length dc (.slice none 0 0) 0 sj.idle false sj.most ea sj.ev.length ec mo sj.gap).toArray 78)*(suS Q M (W87 c.algo) (Wm6 c.algo) Ts sj.m*(FR*(We4 45 8 a10 sj.ev.length c10 (sj.ev.flatMap evc)*(We4 45 8 ea sj.ev.length ec (sj.ev.flatMap evc)*(mpS mo sj.cu*pt NB (.cells (sj.nx.map iv).toArray 3))))))):=Sat.ac H10 (by ac_rfl)
 clear H9 H10 HJ H0
 refine H11.st (i:=0) rfl trivial λh12 H12=>?_
 rw [Wb4] at H12
 refine Wa0 (WE4 H12 ?_)
 refine sb ?_
 refine Wa0 (W29 H12 λq2 R2 HM2=>?_)
 refine sb ?_
 refine Wa0 (WK5 HM2 ?_)
 show asInt .i64 (.int .i64 sj.m.mm.st) _
 refine sb ?_
 rw [Wb4] at H12
 refine H12.st (i:=1) rfl trivial λh13 H13=>?_
 rw [Wb4] at H13
 refine Wa0 (WE4 H13 ?_)
 refine sb ?_
 refine Wa0 (Yh8 H13 λh14 H14=>?_)
 refine sb ?_
 rw [Wb4] at H14
 refine H14.st (i:=3) rfl trivial λh15 H15=>?_
 have O:=H15.at
 refine ldR O rfl (ldR O rfl (ldR O rfl (ldR O rfl (ldR O rfl ?_))))
 rw [← hFR] at H15
 obtain ⟨ob,H15⟩ : ∃ob,Sat h15 (pt RB ob*(suS Q M (W87 c.algo) (Wm6 c.algo) Ts sj.m*((pt ZB (.cells #[.slice none 0 0,.int .i64 0,.int .i64 0,.bool false,.int .i64 0] 34)*(pt SB (.cells (Wv5 c ca calls.length cc pa Wb6.length pc da draws.length dc).toArray 28)*R))*(We4 45 8 a10 sj.ev.length c10 (sj.ev.flatMap evc)*(We4 45 8 ea sj.ev.length ec (sj.ev.flatMap evc)*(mpS mo sj.cu*pt NB (.cells (sj.nx.map iv).toArray 3))))))):=⟨_,H15⟩
 have H16:Sat h15 (pt ZB (.cells #[.slice none 0 0,.int .i64 0,.int .i64 0,.bool false,.int .i64 0] 34)*(We4 45 8 a10 sj.ev.length c10 (sj.ev.flatMap evc)*(suS Q M (W87 c.algo) (Wm6 c.algo) Ts sj.m*(R*(pt SB (.cells (Wv5 c ca calls.length cc pa Wb6.length pc da draws.length dc).toArray 28)*(pt RB ob*(We4 45 8 ea sj.ev.length ec (sj.ev.flatMap evc)*(mpS mo sj.cu*pt NB (.cells (sj.nx.map iv).toArray 3))))))))):=Sat.ac H15 (by ac_rfl)
 refine Wd3 (vs:=[.slice a10 sj.ev.length c10,.int .i64 (s64 (sj.m.mm.st - m0.mm.st)),.int .i64 sj.idle,.bool sj.m.fault,.int .i64 sj.most]) H16.at rfl (by simp [Wi5]) λh17 w=>?_
 have H17:=(H16.wr w.new w.old)
 refine ldR H17.at rfl (ldR H17.at rfl (ldR H17.at rfl (ldR H17.at rfl (ldR H17.at rfl ?_))))
 obtain ⟨ob2,H17⟩ : ∃ob2,Sat h17 (pt ZB ob2*(We4 45 8 a10 sj.ev.length c10 (sj.ev.flatMap evc)*(suS Q M (W87 c.algo) (Wm6 c.algo) Ts sj.m*(R*(pt SB (.cells (Wv5 c ca calls.length cc pa Wb6.length pc da draws.length dc).toArray 28)*(pt RB ob*(We4 45 8 ea sj.ev.length ec (sj.ev.flatMap evc)*(mpS mo sj.cu*pt NB (.cells (sj.nx.map iv).toArray 3))))))))):=⟨_,H17⟩
 have H18:Sat h17 ((pt ZB ob2*(pt SB (.cells (Wv5 c ca calls.length cc pa Wb6.length pc da draws.length dc).toArray 28)*(pt RB ob*(We4 45 8 ea sj.ev.length ec (sj.ev.flatMap evc)*(mpS mo sj.cu*pt NB (.cells (sj.nx.map iv).toArray 3))))))*(We4 45 8 a10 sj.ev.length c10 (sj.ev.flatMap evc)*(suS Q M (W87 c.algo) (Wm6 c.algo) Ts sj.m*R))):=Sat.ac H17 (by ac_rfl)
 exact k1 hsc h17 a10 c10 Q M Ts sj hrun DJ H18.drop
end
end
section
set_option maxHeartbeats 1000000
open Mod
theorem WX2 (j n:Nat) (calls:List (List Cl)):Wg0 (j+1) n calls=Wg0 j n calls ++ [WP4 n (calls.getD j [])]:=by
 unfold Wg0
 rw [List.range_succ,List.map_append]
 rfl
theorem W79 (n:Nat) (l:List Cl):(WP4 n l).length=min n l.length:=by unfold WP4;rw [List.length_map,List.length_take]
theorem Y39 {n k:Nat} {l:List Cl} (h:k < (WP4 n l).length):(WP4 n l).take (k+1)=(WP4 n l).take k ++ [clL (l.getD k cl0)]:=by
 have h2:=h
 rw [W79] at h2
 have e:(WP4 n l)[k]? = some (clL (l.getD k cl0)):=by
  unfold WP4
  rw [List.getElem?_map,List.getElem?_take_of_lt (by omega),List.getElem?_eq_getElem (by omega),List.getD_eq_getElem?_getD,List.getElem?_eq_getElem (by omega)]
  rfl
 rw [List.take_add_one,e]
 rfl
theorem W80 {f:Int→Int} {n i:Nat} {l:List Int} (h:i < ((l.take n).map f).length):((l.take n).map f).take (i+1)=((l.take n).map f).take i ++ [f (l.getD i 0)]:=by
 have h2:=h
 rw [List.length_map,List.length_take] at h2
 have e:((l.take n).map f)[i]? = some (f (l.getD i 0)):=by
  rw [List.getElem?_map,List.getElem?_take_of_lt (by omega),List.getElem?_eq_getElem (by omega),List.getD_eq_getElem?_getD,List.getElem?_eq_getElem (by omega)]
  rfl
 rw [List.take_add_one,e]
 rfl
theorem YB6 (i:Nat) (h:i≤60000):s64 ((i:Int)+1)=((i+1:Nat):Int):=by unfold s64;omega
section
variable {K:Value→Wa1→Prop} {h:Wa1} {R:Hp}
theorem Ys8 {c0 c:Mod.Cf} {ca pa da:Option Addr} {cl cc0 pl pc0 dl dc0:Nat} {calls:List (List Cl)} {Wb6 draws:List Int} {n m:Nat} (H:Sat h R)
  (hS:∀h' P,Sat h' (P*R)→ScrI h' ca cl pa pl da dl calls Wb6 draws) (hth:1≤c.threads∧c.threads≤6) (hn:n≤1000) (hm:m≤60000)
  (k:∀h' ca' cc pa' pc da' dc ps,Sat h' (Zz5 ca' cc pa' pc da' dc ps (Wg0 c.threads.toNat n calls) (Wk1 c.threads m Wb6) (draws.take 4096)*R)→K (.agg #[.int .i64 c.algo,.int .i64 c.threads,.int .i64 c.nodes,.int .i64 c.level,.int .i64 c.batch,.int .i64 c.probes,.int .i64 c.scan,.slice ca' (Wg0 c.threads.toNat n calls).length cc,.slice pa' (Wk1 c.threads m Wb6).length pc,.slice da' (draws.take 4096).length dc]) h') :
  Wa5 Tryz.prog 11 #[.agg #[.int .i64 c0.algo,.int .i64 c0.threads,.int .i64 c0.nodes,.int .i64 c0.level,.int .i64 c0.batch,.int .i64 c0.probes,.int .i64 c0.scan,.slice ca cl cc0,.slice pa pl pc0,.slice da dl dc0],cfV c,.int .i64 n,.int .i64 m] h K:=by
 refine call11 ?_
 unfold F11 g11 bd lS lI dl3 dl7 YF6 ZB6
 have H1:=H.push (.cells (Wv5 c0 ca cl cc0 pa pl pc0 da dl dc0).toArray 28)
 rw [show (.cells #[.int .i64 c0.algo,.int .i64 c0.threads,.int .i64 c0.nodes,.int .i64 c0.level,.int .i64 c0.batch,.int .i64 c0.probes,.int .i64 c0.scan,.slice ca cl cc0,.slice pa pl pc0,.slice da dl dc0] 28:Obj)=.cells (Wv5 c0 ca cl cc0 pa pl pc0 da dl dc0).toArray 28 from rfl]
 generalize h.push (.cells (Wv5 c0 ca cl cc0 pa pl pc0 da dl dc0).toArray 28)=h1 at *
 generalize h.size=SB at *
 have H2:=H1.push (.cells #[.int .i64 c.algo,.int .i64 c.threads,.int .i64 c.nodes,.int .i64 c.level,.int .i64 c.batch,.int .i64 c.probes,.int .i64 c.scan] 23)
 generalize h1.push (.cells #[.int .i64 c.algo,.int .i64 c.threads,.int .i64 c.nodes,.int .i64 c.level,.int .i64 c.batch,.int .i64 c.probes,.int .i64 c.scan] 23)=h2 at *
 generalize h1.size=CB at *
 have H3:=H2.push (.cells #[.int .i64 0,.int .i64 0,.int .i64 0,.int .i64 0,.int .i64 0,.int .i64 0,.int .i64 0,.slice none 0 0,.slice none 0 0,.slice none 0 0] 28)
 generalize h2.push (.cells #[.int .i64 0,.int .i64 0,.int .i64 0,.int .i64 0,.int .i64 0,.int .i64 0,.int .i64 0,.slice none 0 0,.slice none 0 0,.slice none 0 0] 28)=h3 at *
 generalize h2.size=RB at *
 refine ldR H3.at2 rfl (ldR H3.at2 rfl (ldR H3.at2 rfl (ldR H3.at2 rfl (ldR H3.at2 rfl (ldR H3.at2 rfl (ldR H3.at2 rfl ?_))))))
 have H4:=H3.push (.cells #[.int .i64 0,.int .i64 0,.int .i64 0,.int .i64 0,.int .i64 0,.int .i64 0,.int .i64 0,.slice none 0 0,.slice none 0 0,.slice none 0 0] 28)
 generalize h3.push (.cells #[.int .i64 0,.int .i64 0,.int .i64 0,.int .i64 0,.int .i64 0,.int .i64 0,.int .i64 0,.slice none 0 0,.slice none 0 0,.slice none 0 0] 28)=h4 at *
 generalize h3.size=TB at *
 refine ZM3 (Wd3 (vs:=Wv5 c none 0 0 none 0 0 none 0 0) H4.at rfl (by simp [Wv5,Wi5]) λh5 w=>?_)
 have H5:=H4.wr w.new w.old
 clear H1 H2 H3 H4 w
 generalize hFR:pt RB (.cells #[.int .i64 0,.int .i64 0,.int .i64 0,.int .i64 0,.int .i64 0,.int .i64 0,.int .i64 0,.slice none 0 0,.slice none 0 0,.slice none 0 0] 28)*(pt CB (.cells #[.int .i64 c.algo,.int .i64 c.threads,.int .i64 c.nodes,.int .i64 c.level,.int .i64 c.batch,.int .i64 c.probes,.int .i64 c.scan] 23)*(pt SB (.cells (Wv5 c0 ca cl cc0 pa pl pc0 da dl dc0).toArray 28)*R))=FR at H5
 have scr:∀ {h':Wa1} {X:Hp},Sat h' (X*FR)→h'[CB]? = some (.cells [.int .i64 c.algo,.int .i64 c.threads,.int .i64 c.nodes,.int .i64 c.level,.int .i64 c.batch,.int .i64 c.probes,.int .i64 c.scan].toArray 23)∧h'[SB]? = some (.cells (Wv5 c0 ca cl cc0 pa pl pc0 da dl dc0).toArray 28)∧ScrI h' ca cl pa pl da dl calls Wb6 draws:=by
  intro h' X H'
  subst hFR
  refine ⟨H'.drop.drop.at,H'.drop.drop.drop.at,hS h' emp ?_⟩
  rw [Wk8]
  exact H'.drop.drop.drop.drop
 have scr3:∀ {h':Wa1} {A B C:Hp},Sat h' (A*(B*(C*FR)))→h'[CB]? = some (.cells [.int .i64 c.algo,.int .i64 c.threads,.int .i64 c.nodes,.int .i64 c.level,.int .i64 c.batch,.int .i64 c.probes,.int .i64 c.scan].toArray 23)∧h'[SB]? = some (.cells (Wv5 c0 ca cl cc0 pa pl pc0 da dl dc0).toArray 28)∧ScrI h' ca cl pa pl da dl calls Wb6 draws:=fun {h' A B C} H'=>scr (X:=A*(B*C)) (by rw [Wc9,Wc9];exact H')
 obtain ⟨oc,os,si⟩:=scr H5
 refine ⟨λvs h'=>vs = [.bool false]∧h' = h5,?_,?_⟩
 ·refine ldR oc rfl ?_
  refine sb ?_
  refine Wa3 (λc1=>by omega) (λc1=>?_)
  refine ldR oc rfl ?_
  refine sb ?_
  rw [decide_eq_false (by omega:¬ c.threads > 6)]
  first | done | exact ⟨by trivial,by trivial⟩ | trivial
 rintro v22 g23 h24 ⟨e,rfl⟩
 cases e
 refine sb ?_
 clear oc os si
 refine ⟨λvs h'=>∃(j:Nat) (w1 w2:Value) (ca':Option Addr) (cc:Nat) (ps:List (Option Addr × Nat)),vs = [.int .i64 j,w1,w2]∧j≤c.threads.toNat∧ps.length=j∧Sat h' (pt TB (.cells (Wv5 c ca' j cc none 0 0 none 0 0).toArray 28)*(We4 58 1 ca' j cc ((ps.zip (Wg0 j n calls)).flatMap WZ6)*(Wz2 ps (Wg0 j n calls)*FR))),λvs _=>match vs with | [.int _ i,_,_]=>(c.threads - i).toNat | _=>0,⟨0,_,_,none,0,[],rfl,Nat.zero_le _,rfl,?_⟩,?_⟩
 ·have H6:=H5.own_new 58 1
  have e0:Wz2 [] (Wg0 0 n calls)=emp:=by unfold Wz2;rfl
  rw [e0,Wk8]
  rw [Wb4] at H6
  exact H6
 rintro v58 v59 v60 g61 h62 ⟨j,w1,w2,ca',cc,ps,e,hj,hps,H6⟩
 cases e
 obtain ⟨oc,os,si⟩:=scr3 H6
 refine sb ?_
 refine ldR oc rfl ?_
 refine sb ?_
 refine Wa3 (λc1=>?_) (λc1=>?_)
 ·generalize hrow:calls.getD j []=row at *
  have hcl:=si.f.cs
  refine ⟨λvs h'=>∃(q:Nat) (la:Option Addr) (lc:Nat),vs = [.slice la q lc,.int .i64 q]∧q≤(WP4 n row).length∧Sat h' (We4 41 3 la q lc (((WP4 n row).take q).flatMap clc)*(pt TB (.cells (Wv5 c ca' j cc none 0 0 none 0 0).toArray 28)*(We4 58 1 ca' j cc ((ps.zip (Wg0 j n calls)).flatMap WZ6)*(Wz2 ps (Wg0 j n calls)*FR)))),λvs _=>match vs with | [_,.int _ i]=>(2000 - i).toNat | _=>0,⟨0,none,0,rfl,Nat.zero_le _,H6.own_new 41 3⟩,?_⟩
  rintro v68 v69 g70 h71 ⟨q,la,lc,e,hq,H7⟩
  cases e
  clear oc os si
  obtain ⟨oc,os,si⟩:=scr3 H7.drop
  have hlen:=W79 n row
  have hrl:¬ j < calls.length→row = []:=λhh=>by
   rw [← hrow,List.getD_eq_getElem?_getD,List.getElem?_eq_none (by omega)]
   rfl
  refine ⟨λvs h'=>(∃w,vs = [w,.bool (decide (q < (WP4 n row).length))])∧h' = h71,?_,?_⟩
  ·refine sb ?_
   refine ldR os rfl ?_
   refine sb ?_
   refine Wa3 (λc2=>?_) (λc2=>?_)
   ·obtain ⟨ra,rc,⟨ad2,ea2,hcr⟩,hrw⟩:=si.f.row j (by omega)
    rw [hrow] at hcr hrw
    refine ldR os rfl ?_
    refine sb ?_
    subst ea2
    refine ⟨by omega,by omega,?_⟩
    refine sb ?_
    refine Wc5 hcr ?_
    refine sb ?_
    refine Wa3 (λc3=>?_) (λc3=>?_)
    ·rw [show decide ((q:Int) < (n:Int))=decide (q < (WP4 n row).length) by rw [decide_eq_decide];omega]
     first | exact ⟨⟨_,rfl⟩,by trivial⟩ | exact ⟨_,rfl⟩
    ·rw [decide_eq_false (by omega:¬ q < (WP4 n row).length)]
     first | exact ⟨⟨_,rfl⟩,by trivial⟩ | exact ⟨_,rfl⟩
   ·have:=hrl (by omega)
    rw [decide_eq_false (by rw [hlen,this];simp:¬ q < (WP4 n row).length)]
    first | exact ⟨⟨_,rfl⟩,by trivial⟩ | exact ⟨_,rfl⟩
  rintro v90 v91 g92 h93 ⟨⟨w,e⟩,rfl⟩
  cases e
  refine sb ?_
  refine Wa3 (λc2=>?_) (λc2=>?_)
  ·have hjl:j < calls.length:=Decidable.byContradiction λhh=>by
    have:=hrl hh
    rw [hlen,this] at c2
    simp at c2
   have hql:q < row.length:=by omega
   obtain ⟨ra,rc,⟨ad2,ea2,hcr⟩,hrw⟩:=si.f.row j hjl
   rw [hrow] at hcr hrw
   have hcq:row.getD q cl0=row[q]:=by rw [List.getD_eq_getElem?_getD,List.getElem?_eq_getElem hql];rfl
   have htk:=Y39 c2
   generalize hcc:row.getD q cl0=cq at *
   have g0:=Wh4 Wy8 hql (j:=0) (by omega)
   have g1:=Wh4 Wy8 hql (j:=1) (by omega)
   have g2:=Wh4 Wy8 hql (j:=2) (by omega)
   rw [← hcq] at g0 g1 g2
   obtain ⟨ad3,ea3,hc0⟩:=hrw (q*3+0) (.int .i64 cq.op) g0
   subst ea3
   obtain ⟨_,ea4,hc1⟩:=hrw (q*3+1) (.int .u32 cq.key) g1
   cases ea4
   obtain ⟨_,ea4,hc2⟩:=hrw (q*3+2) (.int .u32 cq.val) g2
   cases ea4
   have aa:∀i,(ad3.add (q*3)).add i=ad3.add (q*3+i):=λi=>WF6 _ _ _
   rw [Nat.add_zero] at hc0
   refine ldR os rfl ?_
   refine sb ?_
   subst ea2
   refine ⟨by omega,by omega,?_⟩
   refine sb ?_
   refine Wc5 hcr ?_
   refine sb ?_
   refine ⟨by omega,by omega,?_⟩
   try simp only [Wb8,bsx,Nat.reduceAdd,Int.reduceLE,Int.reduceLT,Int.reduceToNat,aa]
   refine Wc5 hc0 (Wc5 hc1 (Wc5 hc2 ?_))
   have H8:=H7.push (.cells #[.int .i64 0,.int .u32 0,.int .u32 0] 41)
   generalize h93.push (.cells #[.int .i64 0,.int .u32 0,.int .u32 0] 41)=h94 at *
   generalize h93.size=AB at *
   refine st3 (Wd3 (vs:=clc cq) H8.at rfl (by simp [clc,Wi5]) λh112 w=>?_)
   have H9:=H8.wr w.new w.old
   clear H8 w
   refine ldR H9.at rfl ?_
   refine sb ?_
   refine ⟨by decide,by decide,?_⟩
   have H10:=H9.push (.cells #[.int .i64 0,.int .u32 0,.int .u32 0] 41)
   generalize h112.push (.cells #[.int .i64 0,.int .u32 0,.int .u32 0] 41)=h113 at *
   generalize h112.size=DB at *
   refine st3 (Wd3 (vs:=[.int .i64 (opL cq.op),.int .u32 0,.int .u32 0]) H10.at rfl (by simp [Wi5]) λh117 w=>?_)
   have H11:=H10.wr w.new w.old
   clear H10 w H9
   refine ⟨λvs h'=>Sat h' (pt DB (.cells (clc (clL cq)).toArray 41)*(pt AB (.cells (clc cq).toArray 41)*(We4 41 3 la q lc (((WP4 n row).take q).flatMap clc)*(pt TB (.cells (Wv5 c ca' j cc none 0 0 none 0 0).toArray 28)*(We4 58 1 ca' j cc ((ps.zip (Wg0 j n calls)).flatMap WZ6)*(Wz2 ps (Wg0 j n calls)*FR)))))),?_,?_⟩
   ·refine ldR H11.at rfl ?_
    refine sb ?_
    refine Wb7 (λc3=>?_) (λc3=>?_)
    ·have c3:opL cq.op=0:=by simpa using c3
     refine ldR H11.at2 rfl ?_
     simp only [Wa6]
     refine H11.st (i:=1) rfl trivial λh1 H12=>?_
     refine ldR H12.at2 rfl ?_
     simp only [Wa6]
     refine H12.st (i:=2) rfl trivial λh2 H13=>?_
     have e:clL cq=⟨0,cq.key,cq.val⟩:=by unfold clL;rw [if_pos c3]
     rw [e]
     rw [c3] at H13
     exact H13
    ·have c3:¬ opL cq.op=0:=by simpa using c3
     have e:clL cq=⟨opL cq.op,0,0⟩:=by unfold clL;rw [if_neg c3]
     rw [e]
     exact H11
   rintro g127 h128 H12
   try simp only [Wb8,bsx,Nat.reduceAdd,Int.reduceLE,Int.reduceLT,Int.reduceToNat]
   refine ldR H12.at rfl (ldR H12.at rfl (ldR H12.at rfl ?_))
   have H13:Sat h128 (We4 41 3 la q lc (((WP4 n row).take q).flatMap clc)*(pt TB (.cells (Wv5 c ca' j cc none 0 0 none 0 0).toArray 28)*(We4 58 1 ca' j cc ((ps.zip (Wg0 j n calls)).flatMap WZ6)*(Wz2 ps (Wg0 j n calls)*FR)))):=H12.drop.drop
   refine ZE5 (x:=clL cq) H13 (by omega) λa' c' h136 H14=>?_
   refine sb ?_
   rw [YB6 q (by omega)]
   refine ⟨⟨q+1,a',c',rfl,by omega,by rw [htk];exact H14⟩,?_⟩
   show ((2000:Int) - ((q+1:Nat):Int)).toNat < ((2000:Int) - (q:Int)).toNat
   omega
  ·have eq:q=(WP4 n row).length:=by omega
   have et:(WP4 n row).take q=WP4 n row:=List.take_of_length_le (by omega)
   rw [et] at H7
   refine ldR H7.at2 rfl ?_
   refine sb ?_
   have H8:Sat h93 (We4 58 1 ca' j cc ((ps.zip (Wg0 j n calls)).flatMap WZ6)*(pt TB (.cells (Wv5 c ca' j cc none 0 0 none 0 0).toArray 28)*(Wz2 ps (Wg0 j n calls)*(We4 41 3 la q lc ((WP4 n row).flatMap clc)*FR)))):=Sat.ac H7 (by ac_rfl)
   refine Zv2 (p:=(la,lc)) (x:=WP4 n row) H8 (by rw [hps,Ws9]) eq (by omega) λa' c' h149 H9=>?_
   refine sb ?_
   rw [Wb4] at H9
   refine H9.st (i:=7) rfl trivial λh153 H10=>?_
   try simp only [Wb8,bsx,Nat.reduceAdd,Int.reduceLE,Int.reduceLT,Int.reduceToNat]
   rw [YB6 j (by omega)]
   refine ⟨⟨j+1,_,_,a',c',ps ++ [(la,lc)],rfl,by omega,by rw [List.length_append,hps];rfl,?_⟩,?_⟩
   ·rw [WX2,hrow,W25 (la,lc) _ _ _ (by rw [hps,Ws9]),Wc9]
    subst eq
    exact H10
   ·show (c.threads - ((j+1:Nat):Int)).toNat < (c.threads - (j:Int)).toNat
    omega
 have ej:j=c.threads.toNat:=by omega
 have hPL:(Wk1 c.threads m Wb6).length=min m Wb6.length:=by unfold Wk1;rw [List.length_map,List.length_take]
 generalize hCL:Wg0 j n calls=CL at *
 refine ⟨λvs h'=>∃(i:Nat) (pa':Option Addr) (pc:Nat),vs = [.int .i64 i]∧i≤(Wk1 c.threads m Wb6).length∧Sat h' (We4 3 1 pa' i pc (((Wk1 c.threads m Wb6).take i).map iv)*(pt TB (.cells (Wv5 c ca' j cc pa' i pc none 0 0).toArray 28)*(We4 58 1 ca' j cc ((ps.zip CL).flatMap WZ6)*(Wz2 ps CL*FR)))),λvs _=>match vs with | [.int _ i]=>(70000 - i).toNat | _=>0,⟨0,none,0,rfl,Nat.zero_le _,H6.own_new 3 1⟩,?_⟩
 rintro v157 g158 h159 ⟨i,pa',pc,e,hi,H7⟩
 cases e
 clear oc os si H6
 obtain ⟨oc,os,si⟩:=scr3 H7.drop
 have hps2:=si.f.ps
 refine ⟨λvs h'=>vs = [.bool (decide (i < (Wk1 c.threads m Wb6).length))]∧h' = h159,?_,?_⟩
 ·refine sb ?_
  refine ldR os rfl ?_
  refine sb ?_
  refine Wa3 (λc2=>?_) (λc2=>?_)
  ·rw [show decide ((i:Int) < (m:Int))=decide (i < (Wk1 c.threads m Wb6).length) by rw [decide_eq_decide];omega]
   first | done | exact ⟨by trivial,by trivial⟩ | trivial
  ·rw [decide_eq_false (by omega:¬ i < (Wk1 c.threads m Wb6).length)]
   first | done | exact ⟨by trivial,by trivial⟩ | trivial
 rintro v167 g168 h169 ⟨e,rfl⟩
 cases e
 refine sb ?_
 refine Wa3 (λc2=>?_) (λc2=>?_)
 ·have hil:i < Wb6.length:=by omega
  have htk:=W80 (f:=Yr4 c.threads) c2
  have hpi:Wb6.getD i 0=Wb6[i]:=by rw [List.getD_eq_getElem?_getD,List.getElem?_eq_getElem hil];rfl
  obtain ⟨ad,ea,hc⟩:=si.f.pk i (.int .i64 (Wb6.getD i 0)) (by rw [hpi,List.getElem?_map,List.getElem?_eq_getElem hil];rfl)
  subst ea
  generalize Wb6.getD i 0=pk at *
  refine ldR H7.at2 rfl ?_
  refine sb ?_
  refine ldR os rfl ?_
  refine sb ?_
  refine ⟨by omega,by omega,?_⟩
  try simp only [Wb8,bsx,Nat.reduceAdd,Int.reduceLE,Int.reduceLT,Int.reduceToNat]
  refine Wc5 hc ?_
  refine sb ?_
  refine ldR oc rfl ?_
  refine sb ?_
  refine ⟨by omega,?_⟩
  refine ldR oc rfl ?_
  refine sb ?_
  refine ldR oc rfl ?_
  refine sb ?_
  refine ⟨by omega,Wc4 (Wd4 H7.at2 rfl),?_⟩
  refine ZE6 (x:=Yr4 c.threads pk) H7 (by omega) λa' c' h190 H8=>?_
  refine sb ?_
  rw [Wb4] at H8
  refine H8.st (i:=8) rfl trivial λh194 H9=>?_
  try simp only [Wb8,bsx,Nat.reduceAdd,Int.reduceLE,Int.reduceLT,Int.reduceToNat]
  rw [YB6 i (by omega)]
  rw [Wb4] at H9
  refine ⟨⟨i+1,a',c',rfl,by omega,?_⟩,?_⟩
  ·have htk:(Wk1 c.threads m Wb6).take (i+1)=(Wk1 c.threads m Wb6).take i ++ [Yr4 c.threads pk]:=htk
   rw [htk]
   exact H9
  ·show ((70000:Int) - ((i+1:Nat):Int)).toNat < ((70000:Int) - (i:Int)).toNat
   omega
 have ei:i=(Wk1 c.threads m Wb6).length:=by omega
 have et:(Wk1 c.threads m Wb6).take i=Wk1 c.threads m Wb6:=List.take_of_length_le (by omega)
 rw [et] at H7
 generalize hPP:Wk1 c.threads m Wb6=PP at *
 have hDL:(draws.take 4096).length=min 4096 draws.length:=List.length_take ..
 refine ⟨λvs h'=>∃(d:Nat) (da':Option Addr) (dc:Nat),vs = [.int .i64 d]∧d≤(draws.take 4096).length∧Sat h' (We4 5 1 da' d dc (((draws.take 4096).take d).map u8v)*(pt TB (.cells (Wv5 c ca' j cc pa' i pc da' d dc).toArray 28)*(We4 3 1 pa' i pc (PP.map iv)*(We4 58 1 ca' j cc ((ps.zip CL).flatMap WZ6)*(Wz2 ps CL*FR))))),λvs _=>match vs with | [.int _ i]=>(70000 - i).toNat | _=>0,⟨0,none,0,rfl,Nat.zero_le _,?_⟩,?_⟩
 ·rw [Wb4] at H7
  exact H7.own_new 5 1
 rintro v198 g199 h200 ⟨d,da',dc,e,hd,H8⟩
 cases e
 clear oc os si H7
 obtain ⟨oc,os,si⟩:=scr3 H8.drop.drop
 have hds:=si.ds
 refine ⟨λvs h'=>vs = [.bool (decide (d < (draws.take 4096).length))]∧h' = h200,?_,?_⟩
 ·refine sb ?_
  refine ldR os rfl ?_
  refine sb ?_
  refine Wa3 (λc3=>?_) (λc3=>?_)
  ·rw [show decide ((d:Int) < 4096)=decide (d < (draws.take 4096).length) by rw [decide_eq_decide];omega]
   first | done | exact ⟨by trivial,by trivial⟩ | trivial
  ·rw [decide_eq_false (by omega:¬ d < (draws.take 4096).length)]
   first | done | exact ⟨by trivial,by trivial⟩ | trivial
 rintro v208 g209 h210 ⟨e,rfl⟩
 cases e
 refine sb ?_
 refine Wa3 (λc3=>?_) (λc3=>?_)
 ·have hdl:d < draws.length:=by omega
  have htk:(draws.take 4096).take (d+1)=(draws.take 4096).take d ++ [draws[d]]:=by
   rw [List.take_succ_eq_append_getElem c3,List.getElem_take]
  obtain ⟨ad,ea,hc⟩:=si.dr d (.int .u8 draws[d]) (by rw [List.getElem?_map,List.getElem?_eq_getElem hdl];rfl)
  subst ea
  generalize draws[d]=dk at *
  refine ldR H8.at2 rfl ?_
  refine sb ?_
  refine ldR os rfl ?_
  refine sb ?_
  refine ⟨by omega,by omega,?_⟩
  try simp only [Wb8,bsx,Nat.reduceAdd,Int.reduceLE,Int.reduceLT,Int.reduceToNat]
  refine Wc5 hc ?_
  refine sb ?_
  refine ⟨Wc4 (Wd4 H8.at2 rfl),?_⟩
  refine ZE7 (x:=dk) H8 (by omega) λa' c' h225 H9=>?_
  refine sb ?_
  rw [Wb4] at H9
  refine H9.st (i:=9) rfl trivial λh229 H10=>?_
  try simp only [Wb8,bsx,Nat.reduceAdd,Int.reduceLE,Int.reduceLT,Int.reduceToNat]
  rw [YB6 d (by omega)]
  rw [Wb4] at H10
  refine ⟨⟨d+1,a',c',rfl,by omega,by rw [htk];exact H10⟩,?_⟩
  show ((70000:Int) - ((d+1:Nat):Int)).toNat < ((70000:Int) - (d:Int)).toNat
  omega
 have ed:d=(draws.take 4096).length:=by omega
 have et2:(draws.take 4096).take d=draws.take 4096:=List.take_of_length_le (by omega)
 rw [et2] at H8
 rw [← hFR] at H8
 have H9:Sat h210 (pt RB (.cells #[.int .i64 0,.int .i64 0,.int .i64 0,.int .i64 0,.int .i64 0,.int .i64 0,.int .i64 0,.slice none 0 0,.slice none 0 0,.slice none 0 0] 28)*(pt TB (.cells (Wv5 c ca' j cc pa' i pc da' d dc).toArray 28)*(pt CB (.cells #[.int .i64 c.algo,.int .i64 c.threads,.int .i64 c.nodes,.int .i64 c.level,.int .i64 c.batch,.int .i64 c.probes,.int .i64 c.scan] 23)*(pt SB (.cells (Wv5 c0 ca cl cc0 pa pl pc0 da dl dc0).toArray 28)*(We4 58 1 ca' j cc ((ps.zip CL).flatMap WZ6)*(Wz2 ps CL*(We4 3 1 pa' i pc (PP.map iv)*(We4 5 1 da' d dc ((draws.take 4096).map u8v)*R)))))))):=Sat.ac H8 (by ac_rfl)
 have OT:=H9.at2
 refine ldR OT rfl (ldR OT rfl (ldR OT rfl (ldR OT rfl (ldR OT rfl (ldR OT rfl (ldR OT rfl (ldR OT rfl (ldR OT rfl (ldR OT rfl ?_)))))))))
 refine ZM3 (Wd3 (vs:=Wv5 c ca' j cc pa' i pc da' d dc) H9.at rfl (by simp [Wv5,Wi5]) λh250 w=>?_)
 have H10:=H9.wr w.new w.old
 have OR:=H10.at
 refine ldR OR rfl (ldR OR rfl (ldR OR rfl (ldR OR rfl (ldR OR rfl (ldR OR rfl (ldR OR rfl (ldR OR rfl (ldR OR rfl (ldR OR rfl ?_)))))))))
 have eCL:CL=Wg0 c.threads.toNat n calls:=by rw [← hCL,ej]
 have eL:CL.length=j:=by rw [← hCL,Ws9]
 rw [eCL] at eL
 have hk:=k h250 ca' cc pa' pc da' dc ps (W72.2 ⟨by rw [hps,eL],by rw [eL,← eCL,← ei,← ed];exact H10.drop.drop.drop.drop⟩)
 rw [eL,← ei,← ed] at hk
 exact hk
end
end
section
open Mod
section
variable {x:Run} {sl th:Int}
theorem Zj5 (hs:0 < sl) (hne:x.t.fr≠[]) (h:Adj sl th x) (e:x.f.fn=1):Nx sl th x (alloc x):=by
 have r:=h.r hne
 rw [e] at r
 unfold alloc;dsimp only
 repeat' split
 all_goals exact Wl5
theorem YK7 (hs:0 < sl) (hne:x.t.fr≠[]) (h:Adj sl th x) (e:x.f.fn=2):Nx sl th x (Wt3 x):=by
 have r:=h.r hne
 rw [e] at r
 unfold Wt3;dsimp only
 repeat' split
 all_goals exact Wl5
theorem YK8 (hs:0 < sl) (hne:x.t.fr≠[]) (h:Adj sl th x) (e:x.f.fn=3):Nx sl th x (Wt5 x):=by
 have r:=h.r hne
 rw [e] at r
 unfold Wt5;dsimp only
 repeat' split
 all_goals exact Wl5
theorem Zw3 (hsl:sl=x.m.p.slots) (hs:0 < sl) (hne:x.t.fr≠[]) (h:Adj sl th x) (e:x.f.fn=4):Nx sl th x (YU4 x):=by
 have r:=h.r hne
 rw [e] at r
 unfold YU4;dsimp only
 split
 ·rename_i c
  refine ⟨by exact Yk3,.inr (AdjR.ltPop r hne rfl r hne ?_)⟩
  have c2:fA sl th 4 x.f.pc=false:=by simp [fA];omega
  rw [c2]
  simp [fW]
 ·exact Wl5
theorem Zw4 (y:Run) (r:List Int) (h:y.t.fr≠[]):(y.pop r).t.fr.reverse=rst y:=by
 show (y.t.pop r).fr.reverse=_
 unfold Thr.pop
 rw [if_neg h]
 rfl
theorem Y40 (ha:0 < sl*th) (hne:x.t.fr≠[]) (h:Adj sl th x) (e:x.f.fn=5):Nx sl th x (WA6 x):=by
 have r:=h.r hne
 rw [e] at r
 unfold WA6;dsimp only
 generalize hz:((x.gh λg=>g.turn (s64 (x.f.g 0)) 1 2 2).re ((x.gh λg=>g.turn (s64 (x.f.g 0)) 1 2 2).t.retired ++ [s64 (x.f.g 0)]))=z
 have hzn:z.t.fr≠[]:=by subst hz;exact hne
 have rz:AdjR sl th 5 (rst x) z:=by subst hz;exact r.gh.re
 have hm:mu sl th x=3+muL sl th (rst x):=by
  rw [r.mu hne rfl]
  simp [fW,fA]
 have hp:(z.pop []).t.fr.reverse=rst x:=by rw [Zw4 _ _ hzn];exact rz.e
 split
 ·refine ⟨Adj.push rz.pop ?_,.inr ?_⟩
  ·rw [hp]
   cases hl:rst x with
   | nil=>trivial
   | cons f l=>
    have o:=r.o
    rw [hl] at o
    exact o
  ·rw [W75,hm]
   simp [fW,fA,ha]
   omega
 ·refine ⟨rz.pop,.inr ?_⟩
  rw [Y35 _ hzn,rz.e,hm]
  omega
theorem AdjR.push {fn i:Int} {l:List Frm} {r:List Int} {y:Run} (h:AdjR sl th fn l y) (hne:y.t.fr≠[]) (hd:fR i < fR fn):Adj sl th (y.push i r):=by
 refine Adj.push (h.all hne) ?_
 rw [WO5 hne]
 exact .inr (by rw [h.f];exact hd)
theorem Zw5 (hsl:sl=x.m.p.slots) (hth:th=x.m.p.c.threads) (hne:x.t.fr≠[]) (h:Adj sl th x) (e:x.f.fn=6):Nx sl th x (scan x):=by
 have r:=h.r hne
 rw [e] at r
 have h0:∀y:Run,y=(if x.f.pc=0 then x.fo [] else x)→AdjR sl th 6 (rst x) y∧y.t.fr≠[]∧y.f.pc=x.f.pc:=by
  rintro y rfl
  split
  ·exact ⟨r.fo,hne,rfl⟩
  ·exact ⟨r,hne,rfl⟩
 unfold scan
 dsimp only
 generalize hy:(if x.f.pc=0 then x.fo [] else x)=y
 obtain ⟨ry,hny,hpc⟩:=h0 y hy.symm
 rw [← hsl,← hth]
 split
 ·exact ⟨by exact Yk3,.inl (by (focus (refine Tch.act ?_;(with_reducible repeat' constructor))))⟩
 ·rename_i c
  have hm:mu sl th x=2+muL sl th (rst x):=by
   rw [r.mu hne rfl]
   have c2:fA sl th 6 x.f.pc=false:=by simp [fA];omega
   rw [c2]
   simp [fW]
  have hA:AdjR sl th 6 (rst x) (WE6 y (sl*th))∧(WE6 y (sl*th)).t.fr≠[]:=by
   unfold WE6
   split
   ·exact ⟨by exact W31,Wr4 _ _⟩
   ·exact ⟨ry,hny⟩
  generalize WE6 y (sl*th)=z at *
  obtain ⟨rz,hzn⟩:=hA
  unfold W50
  split
  ·refine ⟨rz.pop,.inr ?_⟩
   rw [Y35 _ hzn,rz.e,hm]
   omega
  ·rename_i n rest e2
   refine ⟨AdjR.push (l:=rst x) (fn:=6) (by exact W31) hzn (by decide),.inr ?_⟩
   rw [W75,hm]
   simp [fW,fA]
   omega
theorem YK9 (hs:0 < sl) (hne:x.t.fr≠[]) (h:Adj sl th x) (e:x.f.fn=1∨x.f.fn=2):Nx sl th x (Wt4 x):=by
 unfold Wt4
 rw [if_neg hne]
 rcases e with e | e
 ·rw [if_pos e];exact Zj5 hs hne h e
 ·rw [if_neg (by omega),if_pos e];exact YK7 hs hne h e
theorem WH6 (hsl:sl=x.m.p.slots) (hth:th=x.m.p.c.threads) (hs:0 < sl) (ha:0 < sl*th) (hne:x.t.fr≠[]) (h:Adj sl th x) (e:1≤x.f.fn∧x.f.fn≤6):Nx sl th x (Wk9 x):=by
 unfold Wk9
 rw [if_neg hne]
 by_cases e3:x.f.fn=3
 ·rw [if_pos e3];exact YK8 hs hne h e3
 rw [if_neg e3]
 by_cases e4:x.f.fn=4
 ·rw [if_pos e4];exact Zw3 hsl hs hne h e4
 rw [if_neg e4]
 by_cases e5:x.f.fn=5
 ·rw [if_pos e5];exact Y40 ha hne h e5
 rw [if_neg e5]
 by_cases e6:x.f.fn=6
 ·rw [if_pos e6];exact Zw5 hsl hth hne h e6
 rw [if_neg e6]
 exact YK9 hs hne h (by omega)
end
end
section
open Mod
theorem Y41 (c:Int):∀(k i:Nat),(i:Int)≤lev c k i∧lev c k i≤i+k∧(1≤k→(i:Int)+1≤lev c k i)
 | 0,i=>by unfold lev;omega
 | k+1,i=>by
  have ih:=Y41 c k (i+1)
  unfold lev
  split <;> omega
theorem Zw6 (m:Mac) {n:Int} (h:1≤n):1≤(m.lvl n).1∧(m.lvl n).1≤n:=by
 unfold Mac.lvl
 rw [if_neg (by omega)]
 have:=Y41 m.take.1 n.toNat 0
 show 1≤lev m.take.1 n.toNat 0∧lev m.take.1 n.toNat 0≤n
 omega
def Wl4 (L sl th:Int) (f:Frm):Prop:=Wx2 sl th f∨f.r.length=10∧(f.fn=21∧(0≤f.pc∧f.pc≤17∨f.pc=90)∧(3≤f.pc→f.pc≤14→1≤f.g 3∧f.g 3≤L)∧(f.pc=9∨f.pc=10∨f.pc=13∨f.pc=14→0≤f.g 5∧f.g 5 < f.g 3)∧(f.pc=12→0≤f.g 5) ∨
 (f.fn=22∨f.fn=23)∧(0≤f.pc∧f.pc≤13∨f.pc=90)∨f.fn=20∧0≤f.pc∧f.pc≤8∧(f.pc≠0→0≤s64 (f.g 1)∧s64 (f.g 1) < L))
theorem Wv6 {L sl th fn:Int} {l:List Int} (h:1≤fn∧fn≤6∨20≤fn∧fn≤23) (hs:0≤sl) (ht:0≤sl*th):Wl4 L sl th ⟨fn,0,pad 10 l⟩:=by
 by_cases c:fn≤6
 ·exact .inl (Yh0 (by omega) hs ht)
 ·refine .inr ⟨Wy4 _ _,?_⟩
  dsimp only
  omega
theorem Ys9 {L sl th:Int} {f:Frm} (h:Wl4 L sl th f) (e:f.fn=21):f.r.length=10∧(0≤f.pc∧f.pc≤17∨f.pc=90)∧(3≤f.pc→f.pc≤14→1≤f.g 3∧f.g 3≤L)∧(f.pc=9∨f.pc=10∨f.pc=13∨f.pc=14→0≤f.g 5∧f.g 5 < f.g 3)∧(f.pc=12→0≤f.g 5):=by
 unfold Wl4 Wx2 at h
 rcases h with ⟨h0,h1⟩ | ⟨h0,h1⟩
 ·exact ⟨h0,by omega,by omega,by omega,by omega⟩
 ·refine ⟨h0,?_⟩
  rcases h1 with h1 | h1 | h1
  ·exact h1.2
  ·omega
  ·omega
theorem Zj6 {L sl th:Int} {f:Frm} (h:Wl4 L sl th f) (e:f.fn=22∨f.fn=23):f.r.length=10∧(0≤f.pc∧f.pc≤13∨f.pc=90):=by
 unfold Wl4 Wx2 at h
 rcases h with ⟨h0,h1⟩ | ⟨h0,h1⟩
 ·exact ⟨h0,by omega⟩
 ·refine ⟨h0,?_⟩
  rcases h1 with h1 | h1 | h1
  ·omega
  ·exact h1.2
  ·omega
theorem Zw7 {L sl th:Int} {f:Frm} (h:Wl4 L sl th f) (e:f.fn=20):f.r.length=10∧0≤f.pc∧f.pc≤8∧(f.pc≠0→0≤s64 (f.g 1)∧s64 (f.g 1) < L):=by
 unfold Wl4 Wx2 at h
 rcases h with ⟨h0,h1⟩ | ⟨h0,h1⟩
 ·exact ⟨h0,by omega,by omega,by omega⟩
 ·refine ⟨h0,?_⟩
  rcases h1 with h1 | h1 | h1
  ·omega
  ·omega
  ·exact h1.2
theorem ZK7 {L sl th:Int} {f:Frm} (h:Wl4 L sl th f) (e:¬ (20≤f.fn∧f.fn≤23)):Wx2 sl th f:=by
 unfold Wl4 at h
 rcases h with h | ⟨_,h⟩
 ·exact h
 ·omega
section
variable {x:Run} {L sl th:Int}
theorem Wv9 (x:Run) (a:Int):(x.drop1 a).2.f=x.f:=rfl
theorem Wq6 (x:Run) (a b c:Int):(x.swingA a b c).2.f=x.f:=rfl
theorem Yt0 (h:AllF (Wl4 L sl th) x) (hL:L=x.m.p.c.level) (hl:1≤L∧L≤6) (s0:0≤sl) (t0:0≤sl*th) (o:Wl4 L sl th x.f) (e:x.f.fn=21):AllF (Wl4 L sl th) (Wt8 x):=by
 have r:=h.rest
 obtain ⟨len,o1,o2,o3,o4⟩:=Ys9 o e
 unfold Wt8;dsimp only
 repeat' split
 all_goals ((repeat (with_reducible first | apply AllF.load | apply AllF.store | apply AllF.cas | apply AllF.add | apply AllF.swing | apply AllF.swingA | apply AllF.swingM | apply AllF.drop1 | apply AllF.guard | apply AllF.gh | apply AllF.fo | apply AllF.re | apply AllF.setPl));first | with_reducible assumption | ((with_reducible first | apply Rest.pop | apply Rest.call | apply Rest.allPc | apply Rest.allS | apply Rest.fin);(focus (refine Lo.rest ?_ (by assumption);(with_reducible repeat' constructor)))))
 ·exact YQ1
 ·exact Wv6 (by omega) s0 t0
 ·exact YQ1
 ·exact YQ1
 ·exact Wv6 (by omega) s0 t0
 ·exact YQ1
 ·exact Wv6 (by omega) s0 t0
theorem Y42 (h:AllF (Wl4 L sl th) x) (hL:L=x.m.p.c.level) (hl:1≤L∧L≤6) (s0:0≤sl) (t0:0≤sl*th) (o:Wl4 L sl th x.f) (e:x.f.fn=21) (hp:3≤x.f.pc∧x.f.pc≤7):AllF (Wl4 L sl th) (WZ0 x):=by
 have r:=h.rest
 obtain ⟨len,o1,o2,o3,o4⟩:=Ys9 o e
 have u5:0≤Mod.u64 (x.f.g 5+1):=by unfold Mod.u64;omega
 unfold WZ0;dsimp only
 repeat' split
 all_goals ((repeat (with_reducible first | apply AllF.load | apply AllF.store | apply AllF.cas | apply AllF.add | apply AllF.swing | apply AllF.swingA | apply AllF.swingM | apply AllF.drop1 | apply AllF.guard | apply AllF.gh | apply AllF.fo | apply AllF.re | apply AllF.setPl));first | with_reducible assumption | ((with_reducible first | apply Rest.pop | apply Rest.call | apply Rest.allPc | apply Rest.allS | apply Rest.fin);(focus (refine Lo.rest ?_ (by assumption);(with_reducible repeat' constructor)))))
 all_goals first | exact Wv6 (by omega) s0 t0 | exact YQ1
theorem Yt1 (h:AllF (Wl4 L sl th) x) (hL:L=x.m.p.c.level) (hl:1≤L∧L≤6) (s0:0≤sl) (t0:0≤sl*th) (o:Wl4 L sl th x.f) (e:x.f.fn=21) (hp:12≤x.f.pc∧x.f.pc≤14):AllF (Wl4 L sl th) (Wt7 x):=by
 have r:=h.rest
 obtain ⟨len,o1,o2,o3,o4⟩:=Ys9 o e
 have u5:0≤Mod.u64 (x.f.g 5+1):=by unfold Mod.u64;omega
 unfold Wt7;dsimp only
 repeat' split
 all_goals ((repeat (with_reducible first | apply AllF.load | apply AllF.store | apply AllF.cas | apply AllF.add | apply AllF.swing | apply AllF.swingA | apply AllF.swingM | apply AllF.drop1 | apply AllF.guard | apply AllF.gh | apply AllF.fo | apply AllF.re | apply AllF.setPl));first | with_reducible assumption | ((with_reducible first | apply Rest.pop | apply Rest.call | apply Rest.allPc | apply Rest.allS | apply Rest.fin);(focus (refine Lo.rest ?_ (by assumption);(with_reducible repeat' constructor)))))
 all_goals first | exact Wv6 (by omega) s0 t0 | exact YQ1
theorem Yt2 (h:AllF (Wl4 L sl th) x) (hL:L=x.m.p.c.level) (hl:1≤L∧L≤6) (s0:0≤sl) (t0:0≤sl*th) (o:Wl4 L sl th x.f) (e:x.f.fn=21) (hp:8≤x.f.pc∧x.f.pc≤11):AllF (Wl4 L sl th) (Wt6 x):=by
 have r:=h.rest
 obtain ⟨len,o1,o2,o3,o4⟩:=Ys9 o e
 have u5:0≤Mod.u64 (x.f.g 5+1):=by unfold Mod.u64;omega
 have g3:=o2 (by omega) (by omega)
 unfold Wt6;dsimp only
 repeat' split
 all_goals ((repeat (with_reducible first | apply AllF.load | apply AllF.store | apply AllF.cas | apply AllF.add | apply AllF.swing | apply AllF.swingA | apply AllF.swingM | apply AllF.drop1 | apply AllF.guard | apply AllF.gh | apply AllF.fo | apply AllF.re | apply AllF.setPl));first | with_reducible assumption | ((with_reducible first | apply Rest.pop | apply Rest.call | apply Rest.allPc | apply Rest.allS | apply Rest.fin);(focus (refine Lo.rest ?_ (by assumption);(with_reducible repeat' constructor)))))
 all_goals first | exact Wv6 (by omega) s0 t0 | exact YQ1 | skip
 rw [f_s]
 have e3:((x.f.s 5 0).at 9).g 3=x.f.g 3:=by rw [WP3,Wa8 _ (by decide)]
 have e5:((x.f.s 5 0).at 9).g 5=0:=by rw [WP3,g_s len (by decide)]
 refine .inr ⟨by rw [Wh2,Wi7];exact len,.inl ⟨e,.inl ⟨by rw [Wy5];omega,by rw [Wy5];omega⟩,λ_ _=>by rw [e3];exact g3,λ_=>by rw [e3,e5];omega,λ_=>by rw [e5];omega⟩⟩
theorem Y43 {f:Frm} (len:f.r.length=10) (e:f.fn=22∨f.fn=23) (hp:0≤f.pc∧f.pc≤13∨f.pc=90):Wl4 L sl th f:=.inr ⟨len,.inr (.inl ⟨e,hp⟩)⟩
theorem YL0 (h:AllF (Wl4 L sl th) x) (s0:0≤sl) (t0:0≤sl*th) (o:Wl4 L sl th x.f) (e:x.f.fn=22∨x.f.fn=23):AllF (Wl4 L sl th) (Wu7 x):=by
 have r:=h.rest
 obtain ⟨len,o1⟩:=Zj6 o e
 unfold Wu7 Wu6;dsimp only
 repeat' split
 all_goals ((repeat (with_reducible first | apply AllF.load | apply AllF.store | apply AllF.cas | apply AllF.add | apply AllF.swing | apply AllF.swingA | apply AllF.swingM | apply AllF.drop1 | apply AllF.guard | apply AllF.gh | apply AllF.fo | apply AllF.re | apply AllF.setPl));first | with_reducible assumption | ((with_reducible first | apply Rest.pop | apply Rest.call | apply Rest.allPc | apply Rest.allS | apply Rest.fin);(focus (refine Lo.rest ?_ (by assumption);(with_reducible repeat' constructor)))))
 all_goals first | exact Wv6 (by omega) s0 t0 | exact Zb3 | exact ZG7
theorem YL1 (h:AllF (Wl4 L sl th) x) (s0:0≤sl) (t0:0≤sl*th) (o:Wl4 L sl th x.f) (e:x.f.fn=22∨x.f.fn=23):AllF (Wl4 L sl th) (Wu8 x):=by
 have r:=h.rest
 obtain ⟨len,o1⟩:=Zj6 o e
 unfold Wu8;dsimp only
 repeat' split
 all_goals ((repeat (with_reducible first | apply AllF.load | apply AllF.store | apply AllF.cas | apply AllF.add | apply AllF.swing | apply AllF.swingA | apply AllF.swingM | apply AllF.drop1 | apply AllF.guard | apply AllF.gh | apply AllF.fo | apply AllF.re | apply AllF.setPl));first | with_reducible assumption | ((with_reducible first | apply Rest.pop | apply Rest.call | apply Rest.allPc | apply Rest.allS | apply Rest.fin);(focus (refine Lo.rest ?_ (by assumption);(with_reducible repeat' constructor)))))
 all_goals first | exact Wv6 (by omega) s0 t0 | exact Zb3 | exact ZG7
theorem YL2 (h:AllF (Wl4 L sl th) x) (s0:0≤sl) (t0:0≤sl*th) (o:Wl4 L sl th x.f) (e:x.f.fn=22∨x.f.fn=23):AllF (Wl4 L sl th) (Wu9 x):=by
 have r:=h.rest
 obtain ⟨len,o1⟩:=Zj6 o e
 unfold Wu9;dsimp only
 repeat' split
 all_goals ((repeat (with_reducible first | apply AllF.load | apply AllF.store | apply AllF.cas | apply AllF.add | apply AllF.swing | apply AllF.swingA | apply AllF.swingM | apply AllF.drop1 | apply AllF.guard | apply AllF.gh | apply AllF.fo | apply AllF.re | apply AllF.setPl));first | with_reducible assumption | ((with_reducible first | apply Rest.pop | apply Rest.call | apply Rest.allPc | apply Rest.allS | apply Rest.fin);(focus (refine Lo.rest ?_ (by assumption);(with_reducible repeat' constructor)))))
 all_goals first | exact Wv6 (by omega) s0 t0 | exact Zb3 | exact ZG7
theorem Yt3 (h:AllF (Wl4 L sl th) x) (s0:0≤sl) (t0:0≤sl*th) (o:Wl4 L sl th x.f) (e:x.f.fn=22∨x.f.fn=23):AllF (Wl4 L sl th) (Wo5 x):=by
 have r:=h.rest
 obtain ⟨len,o1⟩:=Zj6 o e
 unfold Wo5 Wu6;dsimp only
 repeat' split
 all_goals ((repeat (with_reducible first | apply AllF.load | apply AllF.store | apply AllF.cas | apply AllF.add | apply AllF.swing | apply AllF.swingA | apply AllF.swingM | apply AllF.drop1 | apply AllF.guard | apply AllF.gh | apply AllF.fo | apply AllF.re | apply AllF.setPl));first | with_reducible assumption | ((with_reducible first | apply Rest.pop | apply Rest.call | apply Rest.allPc | apply Rest.allS | apply Rest.fin);(focus (refine Lo.rest ?_ (by assumption);(with_reducible repeat' constructor)))))
 all_goals first | exact Wv6 (by omega) s0 t0 | exact Zb3 | exact ZG7
end
end
section
set_option maxHeartbeats 1000000
open Mod
section
variable {x:Run} {L sl th:Int}
theorem WX3 {y:Run} {l:List Frm} (r:AdjR sl th 20 l y):Adj sl th (Wo4 y):=by
 unfold Wo4;dsimp only
 split
 all_goals exact Yk3
theorem Yi0 {y:Run} {l:List Frm} {w:Int} (r:AdjR sl th 20 l y):Adj sl th (WF9 y w):=by
 unfold WF9;dsimp only
 repeat' split
 ·exact Yk3
 ·exact WX3 (l:=l) (by exact W31)
 ·exact Yk3
theorem WX4 {y:Run} (h:Tch y):Tch (Wo4 y):=by
 unfold Wo4;dsimp only
 split
 all_goals (with_reducible repeat' (first | assumption | constructor))
theorem Yi1 {y:Run} {w:Int} (h:Tch y):Tch (WF9 y w):=by
 unfold WF9;dsimp only
 repeat' split
 ·with_reducible repeat' (first | assumption | constructor)
 ·exact WX4 (by with_reducible repeat' (first | assumption | constructor))
 ·with_reducible repeat' (first | assumption | constructor)
theorem Zj7 (hs:0 < sl) (hne:x.t.fr≠[]) (h:Adj sl th x) (e:x.f.fn=20) (hp:3≤x.f.pc∧x.f.pc≤7):Nx sl th x (WT2 x):=by
 have r:=h.r hne
 rw [e] at r
 unfold WT2;dsimp only
 repeat' split
 all_goals first
  | exact ⟨Yi0 (l:=rst x) (by exact W31),.inl (Tch.act (Yi1 (by (with_reducible repeat' constructor))))⟩
  | exact ⟨WX3 (l:=rst x) (by exact W31),.inl (Tch.act (WX4 (by (with_reducible repeat' constructor))))⟩
  | exact Wl5
  | omega
theorem Zj8 (hs:0 < sl) (hne:x.t.fr≠[]) (h:Adj sl th x) (e:x.f.fn=20) (hp:0≤x.f.pc∧x.f.pc≤8):Nx sl th x (WT3 x):=by
 have r:=h.r hne
 rw [e] at r
 unfold WT3;dsimp only
 repeat' split
 all_goals first
  | exact Zj7 hs hne h e (by omega)
  | exact ⟨Yi0 (l:=rst x) (by exact W31),.inl (Tch.act (Yi1 (by (with_reducible repeat' constructor))))⟩
  | exact Wl5
theorem Y44 (hsl:sl=x.m.p.slots) (hth:th=x.m.p.c.threads) (hs:0 < sl) (ha:0 < sl*th) (hne:x.t.fr≠[]) (h:Adj sl th x) (e:1≤x.f.fn∧x.f.fn≤6∨x.f.fn=20∧0≤x.f.pc∧x.f.pc≤8):Nx sl th x (WA7 x):=by
 unfold WA7
 rw [if_neg hne]
 by_cases c:x.f.fn=20
 ·rw [if_pos c];exact Zj8 hs hne h c (by omega)
 ·rw [if_neg c];exact WH6 hsl hth hs ha hne h (by omega)
theorem Y45 (hs:0 < sl) (ha:0 < sl*th) (hne:x.t.fr≠[]) (h:Adj sl th x) (e:x.f.fn=21) (hp:0≤x.f.pc∧x.f.pc≤2):Nx sl th x (WA8 x):=by
 have r:=h.r hne
 rw [e] at r
 unfold WA8;dsimp only
 repeat' split
 all_goals first | exact WY4 | omega
theorem Zj9 (hs:0 < sl) (hne:x.t.fr≠[]) (h:Adj sl th x) (e:x.f.fn=21) (hp:3≤x.f.pc∧x.f.pc≤7):Nx sl th x (WZ0 x):=by
 have r:=h.r hne
 rw [e] at r
 unfold WZ0;dsimp only
 repeat' split
 all_goals first | exact Wl5 | omega
theorem YL3 (hs:0 < sl) (hne:x.t.fr≠[]) (h:Adj sl th x) (e:x.f.fn=21) (hp:8≤x.f.pc∧x.f.pc≤11):Nx sl th x (Wt6 x):=by
 have r:=h.r hne
 rw [e] at r
 unfold Wt6;dsimp only
 repeat' split
 all_goals first | exact Wl5 | omega
theorem YL4 (hs:0 < sl) (hne:x.t.fr≠[]) (h:Adj sl th x) (e:x.f.fn=21) (hp:12≤x.f.pc∧x.f.pc≤14):Nx sl th x (Wt7 x):=by
 have r:=h.r hne
 rw [e] at r
 unfold Wt7;dsimp only
 repeat' split
 all_goals first | exact Wl5 | omega
theorem YL5 (hs:0 < sl) (hne:x.t.fr≠[]) (h:Adj sl th x) (e:x.f.fn=21) (hp:15≤x.f.pc∧x.f.pc≤17):Nx sl th x (Wt8 x):=by
 have r:=h.r hne
 rw [e] at r
 unfold Wt8;dsimp only
 repeat' split
 ·exact Wl5
 ·exact Wl5
 ·exact Wl5
 ·have e9:x.f.pc=16:=by omega
  exact Wl5
theorem Y46 (hs:0 < sl) (ha:0 < sl*th) (hne:x.t.fr≠[]) (h:Adj sl th x) (e:x.f.fn=21) (hp:0≤x.f.pc∧x.f.pc≤17):Nx sl th x (WA9 x):=by
 unfold WA9
 repeat' split
 ·exact Y45 hs ha hne h e (by omega)
 ·exact Zj9 hs hne h e (by omega)
 ·exact YL3 hs hne h e (by omega)
 ·exact YL4 hs hne h e (by omega)
 ·exact YL5 hs hne h e (by omega)
theorem Yt4 (hs:0 < sl) (hne:x.t.fr≠[]) (h:Adj sl th x) (e:x.f.fn=22) (hp:0≤x.f.pc∧x.f.pc≤3):Nx sl th x (Wu7 x):=by
 have r:=h.r hne
 rw [e] at r
 unfold Wu7 Wu6;dsimp only
 repeat' split
 all_goals first | exact Wl5 | omega
theorem Yt5 (hs:0 < sl) (hne:x.t.fr≠[]) (h:Adj sl th x) (e:x.f.fn=23) (hp:0≤x.f.pc∧x.f.pc≤3):Nx sl th x (Wu7 x):=by
 have r:=h.r hne
 rw [e] at r
 unfold Wu7 Wu6;dsimp only
 repeat' split
 all_goals first | exact Wl5 | omega
theorem Y47 (hs:0 < sl) (hne:x.t.fr≠[]) (h:Adj sl th x) (e:x.f.fn=22∨x.f.fn=23) (hp:0≤x.f.pc∧x.f.pc≤3):Nx sl th x (Wu7 x):=by
 rcases e with e | e
 ·exact Yt4 hs hne h e hp
 ·exact Yt5 hs hne h e hp
theorem Yt6 (hs:0 < sl) (hne:x.t.fr≠[]) (h:Adj sl th x) (e:x.f.fn=22) (hp:4≤x.f.pc∧x.f.pc≤6):Nx sl th x (Wu8 x):=by
 have r:=h.r hne
 rw [e] at r
 unfold Wu8;dsimp only
 repeat' split
 all_goals first | exact Wl5 | omega
theorem Yt7 (hs:0 < sl) (hne:x.t.fr≠[]) (h:Adj sl th x) (e:x.f.fn=23) (hp:4≤x.f.pc∧x.f.pc≤6):Nx sl th x (Wu8 x):=by
 have r:=h.r hne
 rw [e] at r
 unfold Wu8;dsimp only
 repeat' split
 all_goals first | exact Wl5 | omega
theorem Y48 (hs:0 < sl) (hne:x.t.fr≠[]) (h:Adj sl th x) (e:x.f.fn=22∨x.f.fn=23) (hp:4≤x.f.pc∧x.f.pc≤6):Nx sl th x (Wu8 x):=by
 rcases e with e | e
 ·exact Yt6 hs hne h e hp
 ·exact Yt7 hs hne h e hp
theorem Yt8 (hs:0 < sl) (hne:x.t.fr≠[]) (h:Adj sl th x) (e:x.f.fn=22) (hp:7≤x.f.pc∧x.f.pc≤8):Nx sl th x (Wu9 x):=by
 have r:=h.r hne
 rw [e] at r
 unfold Wu9;dsimp only
 repeat' split
 all_goals first | exact Wl5 | omega
theorem Yt9 (hs:0 < sl) (hne:x.t.fr≠[]) (h:Adj sl th x) (e:x.f.fn=23) (hp:7≤x.f.pc∧x.f.pc≤8):Nx sl th x (Wu9 x):=by
 have r:=h.r hne
 rw [e] at r
 unfold Wu9;dsimp only
 repeat' split
 all_goals first | exact Wl5 | omega
theorem Y49 (hs:0 < sl) (hne:x.t.fr≠[]) (h:Adj sl th x) (e:x.f.fn=22∨x.f.fn=23) (hp:7≤x.f.pc∧x.f.pc≤8):Nx sl th x (Wu9 x):=by
 rcases e with e | e
 ·exact Yt8 hs hne h e hp
 ·exact Yt9 hs hne h e hp
theorem Yi2 (hs:0 < sl) (hne:x.t.fr≠[]) (h:Adj sl th x) (e:x.f.fn=22) (hp:9≤x.f.pc∧x.f.pc≤13):Nx sl th x (Wo5 x):=by
 have r:=h.r hne
 rw [e] at r
 unfold Wo5 Wu6;dsimp only
 repeat' split
 ·exact Wl5
 ·exact Wl5
 ·exact Wl5
 ·exact Wl5
 ·exact Wl5
 ·have e9:x.f.pc=13:=by omega
  exact Wl5
theorem Yi3 (hs:0 < sl) (hne:x.t.fr≠[]) (h:Adj sl th x) (e:x.f.fn=23) (hp:9≤x.f.pc∧x.f.pc≤13):Nx sl th x (Wo5 x):=by
 have r:=h.r hne
 rw [e] at r
 unfold Wo5 Wu6;dsimp only
 repeat' split
 ·exact Wl5
 ·exact Wl5
 ·exact Wl5
 ·exact Wl5
 ·exact Wl5
 ·have e9:x.f.pc=13:=by omega
  exact Wl5
theorem YL6 (hs:0 < sl) (hne:x.t.fr≠[]) (h:Adj sl th x) (e:x.f.fn=22∨x.f.fn=23) (hp:9≤x.f.pc∧x.f.pc≤13):Nx sl th x (Wo5 x):=by
 rcases e with e | e
 ·exact Yi2 hs hne h e hp
 ·exact Yi3 hs hne h e hp
theorem Y50 (hs:0 < sl) (hne:x.t.fr≠[]) (h:Adj sl th x) (e:x.f.fn=22∨x.f.fn=23) (hp:0≤x.f.pc∧x.f.pc≤13):Nx sl th x (WB0 x):=by
 unfold WB0
 repeat' split
 ·exact Y47 hs hne h e (by omega)
 ·exact Y48 hs hne h e (by omega)
 ·exact Y49 hs hne h e (by omega)
 ·exact YL6 hs hne h e (by omega)
theorem ZF5 {f:Frm} (o:Wl4 L sl th f) (hs:0 < sl):(1≤f.fn∧f.fn≤6∨f.fn=20∧0≤f.pc∧f.pc≤8)∨f.fn=21∧(0≤f.pc∧f.pc≤17∨f.pc=90)∨(f.fn=22∨f.fn=23)∧(0≤f.pc∧f.pc≤13∨f.pc=90):=by
 unfold Wl4 Wx2 at o
 omega
theorem Yi4 (hsl:sl=x.m.p.slots) (hth:th=x.m.p.c.threads) (hs:0 < sl) (ha:0 < sl*th) (hne:x.t.fr≠[]) (h:Adj sl th x) (o:Wl4 L sl th x.f):Nx sl th x (Wh7 x):=by
 have o1:=ZF5 o hs
 have r:=h.r hne
 unfold Wh7
 rw [if_neg hne]
 dsimp only
 split
 ·exact Y44 hsl hth hs ha hne h (by omega)
 split
 ·rename_i c c9
  refine ⟨r.pop,.inr (AdjR.ltPop r hne c9 r hne ?_)⟩
  have c2:fA sl th x.f.fn 90=false:=by
   have:x.f.fn=21∨x.f.fn=22∨x.f.fn=23:=by omega
   rcases this with e | e | e <;> rw [e] <;> simp [fA]
  rw [c2]
  have:=(Yh1 x.f.fn 90).1
  simp
  omega
 split
 ·exact Y46 hs ha hne h (by assumption) (by omega)
 ·exact Y50 hs hne h (by omega) (by omega)
end
end
section
open Mod
theorem Y51 {n L:Int} (h:0≤s64 n∧s64 n < L) (hn:(s64 n).toNat≠0) (hL:L≤6):0≤s64 (Mod.u64 (n - 1))∧s64 (Mod.u64 (n - 1)) < L:=by
 unfold s64 Mod.u64 at *
 repeat' split
 all_goals (split at h <;> split at hn <;> omega)
theorem Y52 {L:Int} (hL:1≤L∧L≤6):0≤s64 (Mod.u64 (L - 1))∧s64 (Mod.u64 (L - 1)) < L:=by
 unfold s64 Mod.u64
 split <;> omega
section
variable {x:Run} {L sl th:Int}
theorem WX5 {f:Frm} (len:f.r.length=10) (e:f.fn=20) (hp:0≤f.pc∧f.pc≤8) (hg:0≤s64 (f.g 1)∧s64 (f.g 1) < L):Wl4 L sl th f:=.inr ⟨len,.inr (.inr ⟨e,hp.1,hp.2,λ_=>hg⟩)⟩
structure ZF6 (L:Int) (f:Frm):Prop where
 len:f.r.length=10
 fn:f.fn=20
 g:0≤s64 (f.g 1)∧s64 (f.g 1) < L
theorem WX6 {y:Run} (hL:L≤6) (r:Rest (Wl4 L sl th) y) (o:ZF6 L y.f):AllF (Wl4 L sl th) (Wo4 y):=by
 obtain ⟨len,e,g⟩:=o
 unfold Wo4;dsimp only
 split
 ·((repeat (with_reducible first | apply AllF.load | apply AllF.store | apply AllF.cas | apply AllF.add | apply AllF.swing | apply AllF.swingA | apply AllF.swingM | apply AllF.drop1 | apply AllF.guard | apply AllF.gh | apply AllF.fo | apply AllF.re | apply AllF.setPl));first | with_reducible assumption | ((with_reducible first | apply Rest.pop | apply Rest.call | apply Rest.allPc | apply Rest.allS | apply Rest.fin);(focus (refine Lo.rest ?_ (by assumption);(with_reducible repeat' constructor)))))
 ·rename_i c
  ((repeat (with_reducible first | apply AllF.load | apply AllF.store | apply AllF.cas | apply AllF.add | apply AllF.swing | apply AllF.swingA | apply AllF.swingM | apply AllF.drop1 | apply AllF.guard | apply AllF.gh | apply AllF.fo | apply AllF.re | apply AllF.setPl));first | with_reducible assumption | ((with_reducible first | apply Rest.pop | apply Rest.call | apply Rest.allPc | apply Rest.allS | apply Rest.fin);(focus (refine Lo.rest ?_ (by assumption);(with_reducible repeat' constructor)))))
  rw [f_s]
  refine WX5 (by simp only [Wh2,Wi7];assumption) (by simp only [Ws5,WU2];assumption) ⟨by show (0:Int)≤1;omega,by show (1:Int)≤8;omega⟩ ?_
  have e1:(((y.setPl (y.t.pred.set (s64 (y.f.g 1)).toNat (y.f.g 2)) (y.t.succ.set (s64 (y.f.g 1)).toNat (Wg8 (y.f.g 3))) (y.t.word.set (s64 (y.f.g 1)).toNat (y.f.g 3))).f.s 1 (Mod.u64 (y.f.g 1 - 1))).at 1).g 1=Mod.u64 (y.f.g 1 - 1):=by
   rw [WP3]
   exact g_s (show (y.f).r.length=10 from len) (by decide) _
  rw [e1]
  exact Y51 g c hL
theorem Yi5 {y:Run} {w:Int} (hL:L≤6) (r:Rest (Wl4 L sl th) y) (o:ZF6 L y.f):AllF (Wl4 L sl th) (WF9 y w):=by
 obtain ⟨len,e,g⟩:=o
 have g2:((y.f.s 3 w)).g 1=y.f.g 1:=Wa8 _ (by decide) _
 unfold WF9;dsimp only
 repeat' split
 ·((repeat (with_reducible first | apply AllF.load | apply AllF.store | apply AllF.cas | apply AllF.add | apply AllF.swing | apply AllF.swingA | apply AllF.swingM | apply AllF.drop1 | apply AllF.guard | apply AllF.gh | apply AllF.fo | apply AllF.re | apply AllF.setPl));first | with_reducible assumption | ((with_reducible first | apply Rest.pop | apply Rest.call | apply Rest.allPc | apply Rest.allS | apply Rest.fin);(focus (refine Lo.rest ?_ (by assumption);(with_reducible repeat' constructor)))))
  rw [f_s]
  exact WX5 (by simp only [Wh2,Wi7];assumption) (by simp only [Ws5,WU2];assumption) ⟨by show (0:Int)≤8;omega,by show (8:Int)≤8;omega⟩ (by rw [WP3,g2];exact g)
 ·exact WX6 hL (by exact Wr6) ⟨by rw [f_s,Wi7];exact len,by rw [f_s];exact e,by rw [f_s,g2];exact g⟩
 ·((repeat (with_reducible first | apply AllF.load | apply AllF.store | apply AllF.cas | apply AllF.add | apply AllF.swing | apply AllF.swingA | apply AllF.swingM | apply AllF.drop1 | apply AllF.guard | apply AllF.gh | apply AllF.fo | apply AllF.re | apply AllF.setPl));first | with_reducible assumption | ((with_reducible first | apply Rest.pop | apply Rest.call | apply Rest.allPc | apply Rest.allS | apply Rest.fin);(focus (refine Lo.rest ?_ (by assumption);(with_reducible repeat' constructor)))))
  rw [f_s]
  exact WX5 (by simp only [Wh2,Wi7];assumption) (by simp only [Ws5,WU2];assumption) ⟨by show (0:Int)≤3;omega,by show (3:Int)≤8;omega⟩ (by rw [WP3,g2];exact g)
theorem Y53 (hL:L≤6) (h:AllF (Wl4 L sl th) x) (o:Wl4 L sl th x.f) (e:x.f.fn=20) (hp:x.f.pc≠0):AllF (Wl4 L sl th) (WT2 x):=by
 have r:=h.rest
 obtain ⟨len,o1,o2,o3⟩:=Zw7 o e
 have g:=o3 hp
 unfold WT2;dsimp only
 repeat' split
 all_goals first
  | exact Yi5 hL (by exact Wr6) ⟨len,e,g⟩
  | exact WX6 hL (by exact Wr6) ⟨len,e,g⟩
  | skip
 all_goals ((repeat (with_reducible first | apply AllF.load | apply AllF.store | apply AllF.cas | apply AllF.add | apply AllF.swing | apply AllF.swingA | apply AllF.swingM | apply AllF.drop1 | apply AllF.guard | apply AllF.gh | apply AllF.fo | apply AllF.re | apply AllF.setPl));first | with_reducible assumption | ((with_reducible first | apply Rest.pop | apply Rest.call | apply Rest.allPc | apply Rest.allS | apply Rest.fin);(focus (refine Lo.rest ?_ (by assumption);(with_reducible repeat' constructor)))))
 all_goals exact ZL5
theorem Y54 (hL:1≤L∧L≤6) (hl:L=x.m.p.c.level) (h:AllF (Wl4 L sl th) x) (o:Wl4 L sl th x.f) (e:x.f.fn=20):AllF (Wl4 L sl th) (WT3 x):=by
 have r:=h.rest
 obtain ⟨len,o1,o2,o3⟩:=Zw7 o e
 unfold WT3;dsimp only
 split
 ·((repeat (with_reducible first | apply AllF.load | apply AllF.store | apply AllF.cas | apply AllF.add | apply AllF.swing | apply AllF.swingA | apply AllF.swingM | apply AllF.drop1 | apply AllF.guard | apply AllF.gh | apply AllF.fo | apply AllF.re | apply AllF.setPl));first | with_reducible assumption | ((with_reducible first | apply Rest.pop | apply Rest.call | apply Rest.allPc | apply Rest.allS | apply Rest.fin);(focus (refine Lo.rest ?_ (by assumption);(with_reducible repeat' constructor)))))
  rw [f_s,f_s]
  refine WX5 (by simp only [Wh2,Wi7];assumption) (by simp only [Ws5,WU2];assumption) ⟨by show (0:Int)≤1;omega,by show (1:Int)≤8;omega⟩ ?_
  rw [WP3,g_s (by rw [Wi7];exact len) (by decide),← hl]
  exact Y52 hL
 rename_i c
 have g:=o3 c
 repeat' split
 all_goals first
  | exact Y53 hL.2 h o e c
  | exact Yi5 hL.2 (by exact Wr6) ⟨len,e,g⟩
  | skip
 all_goals ((repeat (with_reducible first | apply AllF.load | apply AllF.store | apply AllF.cas | apply AllF.add | apply AllF.swing | apply AllF.swingA | apply AllF.swingM | apply AllF.drop1 | apply AllF.guard | apply AllF.gh | apply AllF.fo | apply AllF.re | apply AllF.setPl));first | with_reducible assumption | ((with_reducible first | apply Rest.pop | apply Rest.call | apply Rest.allPc | apply Rest.allS | apply Rest.fin);(focus (refine Lo.rest ?_ (by assumption);(with_reducible repeat' constructor)))))
 ·exact ZL5
 ·refine .inr ⟨by rw [Wh2];exact len,.inr (.inr ⟨e,by show (0:Int)≤0;omega,by show (0:Int)≤8;omega,λhh=>absurd rfl hh⟩)⟩
theorem YL7 (hL:1≤L∧L≤6) (hl:L=x.m.p.c.level) (hs:sl=x.m.p.slots) (ht:th=x.m.p.c.threads) (s0:0≤sl) (t0:0≤sl*th) (h:AllF (Wl4 L sl th) x) (o:Wl4 L sl th x.f) (e:¬ (21≤x.f.fn∧x.f.fn≤23)):AllF (Wl4 L sl th) (WA7 x):=by
 unfold WA7
 split
 ·exact h
 split
 ·exact Y54 hL hl h o (by assumption)
 ·exact WC6 (λf hf=>.inl hf) h hs ht s0 t0 (ZK7 o (by omega))
theorem YB7 (m:Mac) (hl:1≤L∧L≤6):1≤Mod.u64 (m.lvl L).1∧Mod.u64 (m.lvl L).1≤L:=by
 have:=Zw6 m hl.1
 unfold Mod.u64
 omega
theorem YL8 (h:AllF (Wl4 L sl th) x) (hL:L=x.m.p.c.level) (hl:1≤L∧L≤6) (s0:0≤sl) (t0:0≤sl*th) (o:Wl4 L sl th x.f) (e:x.f.fn=21) (hp:0≤x.f.pc∧x.f.pc≤2):AllF (Wl4 L sl th) (WA8 x):=by
 have r:=h.rest
 obtain ⟨len,o1,o2,o3,o4⟩:=Ys9 o e
 unfold WA8;dsimp only
 repeat' split
 ·((repeat (with_reducible first | apply AllF.load | apply AllF.store | apply AllF.cas | apply AllF.add | apply AllF.swing | apply AllF.swingA | apply AllF.swingM | apply AllF.drop1 | apply AllF.guard | apply AllF.gh | apply AllF.fo | apply AllF.re | apply AllF.setPl));first | with_reducible assumption | ((with_reducible first | apply Rest.pop | apply Rest.call | apply Rest.allPc | apply Rest.allS | apply Rest.fin);(focus (refine Lo.rest ?_ (by assumption);(with_reducible repeat' constructor)))))
  ·exact YQ1
  ·exact Wv6 (by omega) s0 t0
 ·((repeat (with_reducible first | apply AllF.load | apply AllF.store | apply AllF.cas | apply AllF.add | apply AllF.swing | apply AllF.swingA | apply AllF.swingM | apply AllF.drop1 | apply AllF.guard | apply AllF.gh | apply AllF.fo | apply AllF.re | apply AllF.setPl));first | with_reducible assumption | ((with_reducible first | apply Rest.pop | apply Rest.call | apply Rest.allPc | apply Rest.allS | apply Rest.fin);(focus (refine Lo.rest ?_ (by assumption);(with_reducible repeat' constructor)))))
  exact YQ1
 ·((repeat (with_reducible first | apply AllF.load | apply AllF.store | apply AllF.cas | apply AllF.add | apply AllF.swing | apply AllF.swingA | apply AllF.swingM | apply AllF.drop1 | apply AllF.guard | apply AllF.gh | apply AllF.fo | apply AllF.re | apply AllF.setPl));first | with_reducible assumption | ((with_reducible first | apply Rest.pop | apply Rest.call | apply Rest.allPc | apply Rest.allS | apply Rest.fin);(focus (refine Lo.rest ?_ (by assumption);(with_reducible repeat' constructor)))))
  ·exact YQ1
  ·exact Wv6 (by omega) s0 t0
 ·((repeat (with_reducible first | apply AllF.load | apply AllF.store | apply AllF.cas | apply AllF.add | apply AllF.swing | apply AllF.swingA | apply AllF.swingM | apply AllF.drop1 | apply AllF.guard | apply AllF.gh | apply AllF.fo | apply AllF.re | apply AllF.setPl));first | with_reducible assumption | ((with_reducible first | apply Rest.pop | apply Rest.call | apply Rest.allPc | apply Rest.allS | apply Rest.fin);(focus (refine Lo.rest ?_ (by assumption);(with_reducible repeat' constructor)))))
  ·exact YQ1
  ·exact Wv6 (by omega) s0 t0
 ·refine Rest.allPc (Rest.s (Rest.m (by exact Wr6))) ?_
  rw [f_s]
  have ef:∀m:Mac,(⟨m,((x.add 3 1).2.s 4 (Wg6 (u32 (x.f.g 0)) (u32 (x.add 3 1).1))).t,((x.add 3 1).2.s 4 (Wg6 (u32 (x.f.g 0)) (u32 (x.add 3 1).1))).id⟩ : Run).f=x.f.s 4 (Wg6 (u32 (x.f.g 0)) (u32 (x.add 3 1).1)):=λm=>by
   show ((x.add 3 1).2.s 4 (Wg6 (u32 (x.f.g 0)) (u32 (x.add 3 1).1))).f=_
   rw [f_s]
   rfl
  rw [ef]
  have hv:=YB7 ((x.add 3 1).2.s 4 (Wg6 (u32 (x.f.g 0)) (u32 (x.add 3 1).1))).m hl
  have ep:((x.add 3 1).2.s 4 (Wg6 (u32 (x.f.g 0)) (u32 (x.add 3 1).1))).m.p.c.level=L:=by rw [hL];exact congrArg (λp:Pl=>p.c.level) (St.fix (St.s (St.add (St.refl x)):St 2 x ((x.add 3 1).2.s 4 (Wg6 (u32 (x.f.g 0)) (u32 (x.add 3 1).1))))).p
  rw [ep]
  generalize Mod.u64 (((x.add 3 1).2.s 4 (Wg6 (u32 (x.f.g 0)) (u32 (x.add 3 1).1))).m.lvl L).1=v at *
  refine .inr ⟨by simp only [Wh2,Wi7];exact len,.inl ⟨e,.inl ⟨by show (0:Int)≤3;omega,by show (3:Int)≤17;omega⟩,λ_ _=>?_,λhh=>?_,λhh=>?_⟩⟩
  ·rw [WP3,g_s (by rw [Wi7];exact len) (by decide)]
   exact hv
  ·simp only [Wy5] at hh;omega
  ·simp only [Wy5] at hh;omega
 ·exact h
theorem YL9 (h:AllF (Wl4 L sl th) x) (hL:L=x.m.p.c.level) (hl:1≤L∧L≤6) (s0:0≤sl) (t0:0≤sl*th) (o:Wl4 L sl th x.f) (e:x.f.fn=21) (h9:x.f.pc≠90):AllF (Wl4 L sl th) (WA9 x):=by
 obtain ⟨len,o1,o2,o3,o4⟩:=Ys9 o e
 unfold WA9
 repeat' split
 ·exact YL8 h hL hl s0 t0 o e (by omega)
 ·exact Y42 h hL hl s0 t0 o e (by omega)
 ·exact Yt2 h hL hl s0 t0 o e (by omega)
 ·exact Yt1 h hL hl s0 t0 o e (by omega)
 ·exact Yt0 h hL hl s0 t0 o e
theorem YM0 (h:AllF (Wl4 L sl th) x) (s0:0≤sl) (t0:0≤sl*th) (o:Wl4 L sl th x.f) (e:x.f.fn=22∨x.f.fn=23):AllF (Wl4 L sl th) (WB0 x):=by
 unfold WB0
 repeat' split
 ·exact YL0 h s0 t0 o e
 ·exact YL1 h s0 t0 o e
 ·exact YL2 h s0 t0 o e
 ·exact Yt3 h s0 t0 o e
theorem W81 (h:AllF (Wl4 L sl th) x) (hL:L=x.m.p.c.level) (hl:1≤L∧L≤6) (hs:sl=x.m.p.slots) (ht:th=x.m.p.c.threads) (s0:0≤sl) (t0:0≤sl*th) (hne:x.t.fr≠[]):AllF (Wl4 L sl th) (Wh7 x):=by
 have r:=h.rest
 have o:=h.top hne
 unfold Wh7
 rw [if_neg hne]
 dsimp only
 split
 ·exact YL7 hl hL hs ht s0 t0 h o (by omega)
 split
 ·((repeat (with_reducible first | apply AllF.load | apply AllF.store | apply AllF.cas | apply AllF.add | apply AllF.swing | apply AllF.swingA | apply AllF.swingM | apply AllF.drop1 | apply AllF.guard | apply AllF.gh | apply AllF.fo | apply AllF.re | apply AllF.setPl));first | with_reducible assumption | ((with_reducible first | apply Rest.pop | apply Rest.call | apply Rest.allPc | apply Rest.allS | apply Rest.fin);(focus (refine Lo.rest ?_ (by assumption);(with_reducible repeat' constructor)))))
 split
 ·exact YL9 h hL hl s0 t0 o (by assumption) (by assumption)
 ·exact YM0 h s0 t0 o (by omega)
end
end
section
open Mod
theorem Wz6 {c:Mod.Cf} (h:okC c=true):0 < (Wc7 c).slots∧0 < (Wc7 c).slots*c.threads∧(Wc7 c).slots*c.threads≤84∧(Wc7 c).slots≤14∧1≤c.level∧c.level≤6:=by
 have B:=Wv3 h
 have h1:2≤(Wc7 c).slots∧(Wc7 c).slots≤14:=B.sl
 have h2:1≤c.threads∧c.threads≤6:=B.th
 have h3:1≤c.level∧c.level≤6:=B.lv
 refine ⟨by omega,Int.mul_pos (by omega) (by omega),?_,h1.2,h3.1,h3.2⟩
 exact Int.le_trans (Int.mul_le_mul h1.2 h2.2 (by omega) (by omega)) (by decide)
theorem RunOk.ok {Q:Mod.Cf→Frm→Prop} {c:Mod.Cf} {x:Run} {B:Nat} (h:RunOk Q c x B) (hB:B < 200000000) (hid:0≤x.id∧x.id≤6) (hp:0≤x.f.pc∧x.f.pc≤100):Ok x:=by
 have hP:x.m.mm.st.toNat+x.m.used.toNat+x.t.retired.length+x.t.found.length+x.t.fr.length≤B:=h.P
 exact ⟨by omega,by omega,by omega,by omega,by omega,⟨by omega,by omega⟩,hp⟩
theorem Zw8 {sl th:Int} {f:Frm} (h:Wx2 sl th f) (h1:0≤sl∧sl≤14) (h2:sl*th≤84):0≤f.pc∧f.pc≤100:=by
 unfold Wx2 at h
 omega
def SuQ (c:Mod.Cf) (f:Frm):Prop:=Wl4 c.level (Wc7 c).slots c.threads f
def SuW (x:Run):Prop:=Ok x∧FOk x∧(x.f.fn=21→ZJ8 x)
theorem Yi6:Y36 Wh7 SuQ SuW 21 where
 st:=Yg9
 all c x hc hp hne h:=by
  obtain ⟨a1,a2,a3,a4,a5,a6⟩:=Wz6 hc
  exact W81 h (by rw [hp];rfl) ⟨a5,a6⟩ (by rw [hp]) (by rw [hp];rfl) (by omega) (by omega) hne
 nx c x hc hp hne h a:=by
  obtain ⟨a1,a2,a3,a4,a5,a6⟩:=Wz6 hc
  exact Yi4 (by rw [hp]) (by rw [hp];rfl) a1 a2 hne a (h.top hne)
 w c x B hc h hB hne hid:=by
  obtain ⟨a1,a2,a3,a4,a5,a6⟩:=Wz6 hc
  have o:Wl4 c.level (Wc7 c).slots c.threads x.f:=h.q.top hne
  have hpr:=h.pr
  have hsu:=h.su
  have hwo:=h.wo
  refine ⟨h.ok hB hid ?_,λe hp=>?_,λe=>?_⟩
  ·rcases o with o | ⟨_,o⟩
   ·exact Zw8 o ⟨by omega,a4⟩ a3
   ·omega
  ·obtain ⟨len,o1,o2,o3⟩:=Zw7 o e
   have g:=o3 hp
   exact ⟨⟨g.1,by omega⟩,by omega,by omega,by omega⟩
  ·obtain ⟨len,o1,o2,o3,o4⟩:=Ys9 o e
   refine ⟨⟨by omega,by omega,by omega,by omega⟩,λe2=>?_,λe2=>?_,λe2 e3=>?_⟩
   ·have g1:=o2 (by omega) (by omega)
    have g2:=o3 (by omega)
    omega
   ·have g1:=o2 (by omega) (by omega)
    omega
   ·have g1:=o2 (by omega) (by omega)
    have g2:=o3 (by omega)
    omega
 new c op l hc ho:=by
  obtain ⟨a1,a2,a3,a4,a5,a6⟩:=Wz6 hc
  exact Wv6 (by omega) (by omega) (by omega)
theorem Yu0:DoC 64 Wh7 SuW:=λh M T tv x R K H hw k=>WZ5 H hw.1 hw.2.1 hw.2.2 k
end
section
open Mod
theorem f_m (x:Run) (m:Mac):({ x with m:=m }:Run).f=x.f:=rfl
theorem WH7 (x:Run) (a b c:Int) (d:Bool):(x.swing a b c d).2.f=x.f:=rfl
theorem Wz3 (x:Run) (a b c:Int) (d:Bool):(x.swingM a b c d).2.f=x.f:=rfl
theorem WH8 (x:Run) (a b:Int):(x.guard a b).f=x.f:=rfl
def Wz7 (sl th:Int) (f:Frm):Prop:=Wx2 sl th f∨f.r.length=10∧(f.fn=10∧0≤f.pc∧f.pc≤1∨f.fn=11∧(0≤f.pc∧f.pc≤14∨f.pc=90)∨(f.fn=12∨f.fn=13)∧(0≤f.pc∧f.pc≤7∨f.pc=90)∨f.fn=14∧0≤f.pc∧f.pc≤7)
theorem WC8 {sl th fn:Int} {l:List Int} (h:1≤fn∧fn≤6∨10≤fn∧fn≤14) (hs:0≤sl) (ht:0≤sl*th):Wz7 sl th ⟨fn,0,pad 10 l⟩:=by
 by_cases c:fn≤6
 ·exact .inl (Yh0 (by omega) hs ht)
 ·refine .inr ⟨Wy4 _ _,?_⟩
  dsimp only
  omega
theorem ZK8 {sl th:Int} {f:Frm} (h:Wz7 sl th f) (e:¬ (10≤f.fn∧f.fn≤14)):Wx2 sl th f:=by
 unfold Wz7 at h
 rcases h with h | ⟨_,h⟩
 ·exact h
 ·omega
theorem Zk0 {sl th:Int} {f:Frm} (h:Wz7 sl th f) (e:10≤f.fn∧f.fn≤14):f.r.length=10∧(f.fn=10∧0≤f.pc∧f.pc≤1∨f.fn=11∧(0≤f.pc∧f.pc≤14∨f.pc=90)∨(f.fn=12∨f.fn=13)∧(0≤f.pc∧f.pc≤7∨f.pc=90)∨f.fn=14∧0≤f.pc∧f.pc≤7):=by
 unfold Wz7 Wx2 at h
 rcases h with h | h
 ·omega
 ·exact h
section
variable {x:Run} {sl th:Int}
theorem Y55 (h:AllF (Wz7 sl th) x) (s0:0≤sl) (t0:0≤sl*th) (len:x.f.r.length=10) (e:x.f.fn=10):AllF (Wz7 sl th) (WS4 x):=by
 have r:=h.rest
 unfold WS4;dsimp only
 repeat' split
 all_goals ((repeat (with_reducible first | apply AllF.load | apply AllF.store | apply AllF.cas | apply AllF.add | apply AllF.swing | apply AllF.swingA | apply AllF.swingM | apply AllF.drop1 | apply AllF.guard | apply AllF.gh | apply AllF.fo | apply AllF.re | apply AllF.setPl));first | with_reducible assumption | ((with_reducible first | apply Rest.pop | apply Rest.call | apply Rest.allPc | apply Rest.allS | apply Rest.fin);(focus (refine Lo.rest ?_ (by assumption);(with_reducible repeat' constructor)))))
 all_goals first | (with_reducible apply WC8;omega;assumption;assumption) | exact YC8
theorem Y56 (h:AllF (Wz7 sl th) x) (s0:0≤sl) (t0:0≤sl*th) (len:x.f.r.length=10) (e:x.f.fn=11):AllF (Wz7 sl th) (WS6 x):=by
 have r:=h.rest
 unfold WS6;dsimp only
 repeat' split
 all_goals ((repeat (with_reducible first | apply AllF.load | apply AllF.store | apply AllF.cas | apply AllF.add | apply AllF.swing | apply AllF.swingA | apply AllF.swingM | apply AllF.drop1 | apply AllF.guard | apply AllF.gh | apply AllF.fo | apply AllF.re | apply AllF.setPl));first | with_reducible assumption | ((with_reducible first | apply Rest.pop | apply Rest.call | apply Rest.allPc | apply Rest.allS | apply Rest.fin);(focus (refine Lo.rest ?_ (by assumption);(with_reducible repeat' constructor)))))
 all_goals first | (with_reducible apply WC8;omega;assumption;assumption) | exact YC8
theorem Yi7 (h:AllF (Wz7 sl th) x) (s0:0≤sl) (t0:0≤sl*th) (len:x.f.r.length=10) (e:x.f.fn=11):AllF (Wz7 sl th) (Wo3 x):=by
 have r:=h.rest
 unfold Wo3 WS5;dsimp only
 split
 ·refine Rest.allPc (Rest.s (Rest.m (by exact Wr6))) ?_
  exact YC8
 repeat' split
 all_goals first | (refine AllF.push ?_ (WC8 (by omega) s0 t0)) | skip
 all_goals ((repeat (with_reducible first | apply AllF.load | apply AllF.store | apply AllF.cas | apply AllF.add | apply AllF.swing | apply AllF.swingA | apply AllF.swingM | apply AllF.drop1 | apply AllF.guard | apply AllF.gh | apply AllF.fo | apply AllF.re | apply AllF.setPl));first | with_reducible assumption | ((with_reducible first | apply Rest.pop | apply Rest.call | apply Rest.allPc | apply Rest.allS | apply Rest.fin);(focus (refine Lo.rest ?_ (by assumption);(with_reducible repeat' constructor)))))
 all_goals first | (with_reducible apply WC8;omega;assumption;assumption) | exact YC8
theorem Y57 (h:AllF (Wz7 sl th) x) (s0:0≤sl) (t0:0≤sl*th) (len:x.f.r.length=10) (e:x.f.fn=11):AllF (Wz7 sl th) (WS7 x):=by
 have r:=h.rest
 unfold WS7 WS5;dsimp only
 repeat' split
 all_goals ((repeat (with_reducible first | apply AllF.load | apply AllF.store | apply AllF.cas | apply AllF.add | apply AllF.swing | apply AllF.swingA | apply AllF.swingM | apply AllF.drop1 | apply AllF.guard | apply AllF.gh | apply AllF.fo | apply AllF.re | apply AllF.setPl));first | with_reducible assumption | ((with_reducible first | apply Rest.pop | apply Rest.call | apply Rest.allPc | apply Rest.allS | apply Rest.fin);(focus (refine Lo.rest ?_ (by assumption);(with_reducible repeat' constructor)))))
 all_goals first | (with_reducible apply WC8;omega;assumption;assumption) | exact YC8
theorem Zk1 (h:AllF (Wz7 sl th) x) (s0:0≤sl) (t0:0≤sl*th) (len:x.f.r.length=10) (e:x.f.fn=11):AllF (Wz7 sl th) (YU6 x):=by
 have r:=h.rest
 unfold YU6 W51;dsimp only
 repeat' split
 all_goals ((repeat (with_reducible first | apply AllF.load | apply AllF.store | apply AllF.cas | apply AllF.add | apply AllF.swing | apply AllF.swingA | apply AllF.swingM | apply AllF.drop1 | apply AllF.guard | apply AllF.gh | apply AllF.fo | apply AllF.re | apply AllF.setPl));first | with_reducible assumption | ((with_reducible first | apply Rest.pop | apply Rest.call | apply Rest.allPc | apply Rest.allS | apply Rest.fin);(focus (refine Lo.rest ?_ (by assumption);(with_reducible repeat' constructor)))))
 all_goals first | (with_reducible apply WC8;omega;assumption;assumption) | with_reducible exact Rest.m r | exact YC8
theorem Y58 (h:AllF (Wz7 sl th) x) (s0:0≤sl) (t0:0≤sl*th) (len:x.f.r.length=10) (e:x.f.fn=11):AllF (Wz7 sl th) (WS8 x):=by
 unfold WS8
 repeat' split
 ·exact Y56 h s0 t0 len e
 ·exact Yi7 h s0 t0 len e
 ·exact Y57 h s0 t0 len e
 ·exact Zk1 h s0 t0 len e
theorem Y59 (h:AllF (Wz7 sl th) x) (s0:0≤sl) (t0:0≤sl*th) (len:x.f.r.length=10) (e:x.f.fn=12∨x.f.fn=13):AllF (Wz7 sl th) (WM3 x):=by
 have r:=h.rest
 unfold WM3;dsimp only
 repeat' split
 all_goals ((repeat (with_reducible first | apply AllF.load | apply AllF.store | apply AllF.cas | apply AllF.add | apply AllF.swing | apply AllF.swingA | apply AllF.swingM | apply AllF.drop1 | apply AllF.guard | apply AllF.gh | apply AllF.fo | apply AllF.re | apply AllF.setPl));first | with_reducible assumption | ((with_reducible first | apply Rest.pop | apply Rest.call | apply Rest.allPc | apply Rest.allS | apply Rest.fin);(focus (refine Lo.rest ?_ (by assumption);(with_reducible repeat' constructor)))))
 all_goals first | (with_reducible apply WC8;omega;assumption;assumption) | exact YC8
theorem Y60 (h:AllF (Wz7 sl th) x) (s0:0≤sl) (t0:0≤sl*th) (len:x.f.r.length=10) (e:x.f.fn=12∨x.f.fn=13):AllF (Wz7 sl th) (WM4 x):=by
 have r:=h.rest
 unfold WM4;dsimp only
 repeat' split
 all_goals first | exact Y59 h s0 t0 len e | skip
 all_goals ((repeat (with_reducible first | apply AllF.load | apply AllF.store | apply AllF.cas | apply AllF.add | apply AllF.swing | apply AllF.swingA | apply AllF.swingM | apply AllF.drop1 | apply AllF.guard | apply AllF.gh | apply AllF.fo | apply AllF.re | apply AllF.setPl));first | with_reducible assumption | ((with_reducible first | apply Rest.pop | apply Rest.call | apply Rest.allPc | apply Rest.allS | apply Rest.fin);(focus (refine Lo.rest ?_ (by assumption);(with_reducible repeat' constructor)))))
 all_goals first | (with_reducible apply WC8;omega;assumption;assumption) | exact YC8
theorem Yi8 (h:AllF (Wz7 sl th) x) (len:x.f.r.length=10) (e:x.f.fn=14):AllF (Wz7 sl th) (WP0 x):=by
 have r:=h.rest
 unfold WP0;dsimp only
 repeat' split
 all_goals ((repeat (with_reducible first | apply AllF.load | apply AllF.store | apply AllF.cas | apply AllF.add | apply AllF.swing | apply AllF.swingA | apply AllF.swingM | apply AllF.drop1 | apply AllF.guard | apply AllF.gh | apply AllF.fo | apply AllF.re | apply AllF.setPl));first | with_reducible assumption | ((with_reducible first | apply Rest.pop | apply Rest.call | apply Rest.allPc | apply Rest.allS | apply Rest.fin);(focus (refine Lo.rest ?_ (by assumption);(with_reducible repeat' constructor)))))
 all_goals exact YC8
theorem Y61 (h:AllF (Wz7 sl th) x) (s0:0≤sl) (t0:0≤sl*th) (len:x.f.r.length=10) (e:x.f.fn=14):AllF (Wz7 sl th) (WS9 x):=by
 have r:=h.rest
 unfold WS9;dsimp only
 repeat' split
 all_goals first | exact Yi8 h len e | skip
 all_goals ((repeat (with_reducible first | apply AllF.load | apply AllF.store | apply AllF.cas | apply AllF.add | apply AllF.swing | apply AllF.swingA | apply AllF.swingM | apply AllF.drop1 | apply AllF.guard | apply AllF.gh | apply AllF.fo | apply AllF.re | apply AllF.setPl));first | with_reducible assumption | ((with_reducible first | apply Rest.pop | apply Rest.call | apply Rest.allPc | apply Rest.allS | apply Rest.fin);(focus (refine Lo.rest ?_ (by assumption);(with_reducible repeat' constructor)))))
 all_goals first | (with_reducible apply WC8;omega;assumption;assumption) | exact YC8
theorem Y62 {i:Nat} {p:Int} (h:AllF (Wz7 sl th) x) (len:x.f.r.length=10) (e:x.f.fn=14):AllF (Wz7 sl th) (WP1 x i p):=by
 have r:=h.rest
 unfold WP1;dsimp only
 split
 ·refine Rest.allS (Rest.m (by exact Wr6)) ?_
  exact YC8
 ·refine AllF.m ?_
  ((repeat (with_reducible first | apply AllF.load | apply AllF.store | apply AllF.cas | apply AllF.add | apply AllF.swing | apply AllF.swingA | apply AllF.swingM | apply AllF.drop1 | apply AllF.guard | apply AllF.gh | apply AllF.fo | apply AllF.re | apply AllF.setPl));first | with_reducible assumption | ((with_reducible first | apply Rest.pop | apply Rest.call | apply Rest.allPc | apply Rest.allS | apply Rest.fin);(focus (refine Lo.rest ?_ (by assumption);(with_reducible repeat' constructor)))))
  exact YC8
theorem Y63 (h:AllF (Wz7 sl th) x) (s0:0≤sl) (t0:0≤sl*th) (len:x.f.r.length=10) (e:x.f.fn=14):AllF (Wz7 sl th) (WT0 x):=by
 have r:=h.rest
 unfold WT0 Wr0;dsimp only
 repeat' split
 all_goals first | exact Y61 h s0 t0 len e | exact Y62 h len e | exact Yi8 h len e | skip
 all_goals ((repeat (with_reducible first | apply AllF.load | apply AllF.store | apply AllF.cas | apply AllF.add | apply AllF.swing | apply AllF.swingA | apply AllF.swingM | apply AllF.drop1 | apply AllF.guard | apply AllF.gh | apply AllF.fo | apply AllF.re | apply AllF.setPl));first | with_reducible assumption | ((with_reducible first | apply Rest.pop | apply Rest.call | apply Rest.allPc | apply Rest.allS | apply Rest.fin);(focus (refine Lo.rest ?_ (by assumption);(with_reducible repeat' constructor)))))
 all_goals first | (with_reducible apply WC8;omega;assumption;assumption) | exact YC8
theorem Yu1 (h:AllF (Wz7 sl th) x) (hs:sl=x.m.p.slots) (ht:th=x.m.p.c.threads) (s0:0≤sl) (t0:0≤sl*th) (hne:x.t.fr≠[]):AllF (Wz7 sl th) (Wp5 x):=by
 have r:=h.rest
 have o:=h.top hne
 unfold Wp5
 rw [if_neg hne]
 dsimp only
 split
 ·((repeat (with_reducible first | apply AllF.load | apply AllF.store | apply AllF.cas | apply AllF.add | apply AllF.swing | apply AllF.swingA | apply AllF.swingM | apply AllF.drop1 | apply AllF.guard | apply AllF.gh | apply AllF.fo | apply AllF.re | apply AllF.setPl));first | with_reducible assumption | ((with_reducible first | apply Rest.pop | apply Rest.call | apply Rest.allPc | apply Rest.allS | apply Rest.fin);(focus (refine Lo.rest ?_ (by assumption);(with_reducible repeat' constructor)))))
 split
 ·exact Y55 h s0 t0 (Zk0 o (by omega)).1 (by assumption)
 split
 ·exact Y58 h s0 t0 (Zk0 o (by omega)).1 (by assumption)
 split
 ·exact Y60 h s0 t0 (Zk0 o (by omega)).1 (by assumption)
 split
 ·exact Y63 h s0 t0 (Zk0 o (by omega)).1 (by assumption)
 ·exact WC6 (λf hf=>.inl hf) h hs ht s0 t0 (ZK8 o (by omega))
theorem Zk2 (hs:0 < sl) (ha:0 < sl*th) (hne:x.t.fr≠[]) (h:Adj sl th x) (e:x.f.fn=10) (hp:0≤x.f.pc∧x.f.pc≤1):Nx sl th x (WS4 x):=by
 have r:=h.r hne
 rw [e] at r
 unfold WS4;dsimp only
 split
 ·exact Wl5
 have e1:x.f.pc=1:=by omega
 split
 all_goals exact Wl5
theorem Zk3 (hs:0 < sl) (ha:0 < sl*th) (hne:x.t.fr≠[]) (h:Adj sl th x) (e:x.f.fn=11) (hp:0≤x.f.pc∧x.f.pc≤3):Nx sl th x (WS6 x):=by
 have r:=h.r hne
 rw [e] at r
 unfold WS6;dsimp only
 repeat' split
 all_goals exact WY4
theorem Yu2 (hs:0 < sl) (ha:0 < sl*th) (hne:x.t.fr≠[]) (h:Adj sl th x) (e:x.f.fn=11) (hp:4≤x.f.pc∧x.f.pc≤7):Nx sl th x (Wo3 x):=by
 have r:=h.r hne
 rw [e] at r
 unfold Wo3 WS5;dsimp only
 split
 ·exact WY4
 split
 ·exact Wl5
 split
 ·split
  ·exact Wl5
  ·split
   all_goals exact Wl5
 have e1:x.f.pc=7:=by omega
 split
 ·have ra:AdjR sl th 4 (((((x.s 7 1).s 8 0).s 9 0).pc 90).f :: rst x) (x.fin 1 0 0):=by
   have h1:Adj sl th (((((x.s 7 1).s 8 0).s 9 0).pc 90)):=(r.s.s.s).allPc
   have h2:=h1.a
   rw [show (((((x.s 7 1).s 8 0).s 9 0).pc 90)).t.fr.reverse=(((((x.s 7 1).s 8 0).s 9 0).pc 90)).f :: rst (((((x.s 7 1).s 8 0).s 9 0).pc 90)) from WO5 (Wr4 _ _)] at h2
   have er:rst ((((x.s 7 1).s 8 0).s 9 0).pc 90)=rst x:=(r.s.s.s).pc.e
   have er2:rst (x.fin 1 0 0)=(((((x.s 7 1).s 8 0).s 9 0).pc 90).f :: rst x):=by
    show ((((((x.s 7 1).s 8 0).s 9 0).pc 90).t.fr ++ [(⟨4,0,pad 10 []⟩ : Frm)]).dropLast).reverse=_
    rw [List.dropLast_concat,show (((((x.s 7 1).s 8 0).s 9 0).pc 90)).t.fr.reverse=(((((x.s 7 1).s 8 0).s 9 0).pc 90)).f :: rst (((((x.s 7 1).s 8 0).s 9 0).pc 90)) from WO5 (Wr4 _ _)]
    exact congrArg _ er
   refine ⟨?_,er2,?_,?_⟩
   ·show ((((((x.s 7 1).s 8 0).s 9 0).pc 90).t.fr ++ [(⟨4,0,pad 10 []⟩ : Frm)]).getLast?.getD dfF).fn=4
    simp
   ·refine .inr ?_
    rw [(r.s.s.s).pc.f]
    decide
   ·rw [← er];exact h2
  have hn:(x.fin 1 0 0).t.fr≠[]:=by
   show (((((x.s 7 1).s 8 0).s 9 0).pc 90).t.fr ++ [_])≠[]
   simp
  refine ⟨Adj.push (ra.all hn) ?_,.inr ?_⟩
  ·rw [WO5 hn]
   refine .inl ?_
   show fA sl th (x.fin 1 0 0).f.fn (x.fin 1 0 0).f.pc=true
   rw [ra.f]
   have:(x.fin 1 0 0).f.pc=0:=by
    show ((((((x.s 7 1).s 8 0).s 9 0).pc 90).t.fr ++ [(⟨4,0,pad 10 []⟩ : Frm)]).getLast?.getD dfF).pc=0
    simp
   rw [this]
   simp [fA,hs]
  ·have hpf:(x.fin 1 0 0).f.pc=0:=by
    show ((((((x.s 7 1).s 8 0).s 9 0).pc 90).t.fr ++ [(⟨4,0,pad 10 []⟩ : Frm)]).getLast?.getD dfF).pc=0
    simp
   rw [W75,ra.mu hn hpf,r.mu hne e1]
   simp [fW,fA,hs]
 ·exact Wl5
theorem Zk4 (hs:0 < sl) (ha:0 < sl*th) (hne:x.t.fr≠[]) (h:Adj sl th x) (e:x.f.fn=11) (hp:8≤x.f.pc∧x.f.pc≤9):Nx sl th x (WS7 x):=by
 have r:=h.r hne
 rw [e] at r
 unfold WS7 WS5;dsimp only
 split
 ·split
  all_goals exact Wl5
 have e1:x.f.pc=9:=by omega
 exact Wl5
theorem Zw9 (hs:0 < sl) (ha:0 < sl*th) (hne:x.t.fr≠[]) (h:Adj sl th x) (e:x.f.fn=11) (hp:10≤x.f.pc∧x.f.pc≤14):Nx sl th x (YU6 x):=by
 have r:=h.r hne
 rw [e] at r
 unfold YU6 W51;dsimp only
 repeat' split
 all_goals first | exact WY4 | omega | contradiction
theorem Zk5 (hs:0 < sl) (ha:0 < sl*th) (hne:x.t.fr≠[]) (h:Adj sl th x) (e:x.f.fn=11) (hp:0≤x.f.pc∧x.f.pc≤14):Nx sl th x (WS8 x):=by
 unfold WS8
 repeat' split
 ·exact Zk3 hs ha hne h e (by omega)
 ·exact Yu2 hs ha hne h e (by omega)
 ·exact Zk4 hs ha hne h e (by omega)
 ·exact Zw9 hs ha hne h e (by omega)
theorem YM1 (hs:0 < sl) (ha:0 < sl*th) (hne:x.t.fr≠[]) (h:Adj sl th x) (e:x.f.fn=12) (hp:0≤x.f.pc∧x.f.pc≤3):Nx sl th x (WM3 x):=by
 have r:=h.r hne
 rw [e] at r
 unfold WM3;dsimp only
 repeat' split
 all_goals first | exact WY4 | omega
theorem YM2 (hs:0 < sl) (ha:0 < sl*th) (hne:x.t.fr≠[]) (h:Adj sl th x) (e:x.f.fn=13) (hp:0≤x.f.pc∧x.f.pc≤3):Nx sl th x (WM3 x):=by
 have r:=h.r hne
 rw [e] at r
 unfold WM3;dsimp only
 repeat' split
 all_goals first | exact WY4 | omega
theorem YM3 (hs:0 < sl) (ha:0 < sl*th) (hne:x.t.fr≠[]) (h:Adj sl th x) (e:x.f.fn=12) (hp:0≤x.f.pc∧x.f.pc≤7):Nx sl th x (WM4 x):=by
 have r:=h.r hne
 rw [e] at r
 unfold WM4;dsimp only
 repeat' split
 all_goals first | exact WY4 | exact YM1 hs ha hne h e (by omega)
theorem YM4 (hs:0 < sl) (ha:0 < sl*th) (hne:x.t.fr≠[]) (h:Adj sl th x) (e:x.f.fn=13) (hp:0≤x.f.pc∧x.f.pc≤7):Nx sl th x (WM4 x):=by
 have r:=h.r hne
 rw [e] at r
 unfold WM4;dsimp only
 repeat' split
 all_goals first | exact WY4 | exact YM2 hs ha hne h e (by omega)
theorem YB8 (hs:0 < sl) (hne:x.t.fr≠[]) (h:Adj sl th x) (e:x.f.fn=14):Nx sl th x (WP0 x):=by
 have r:=h.r hne
 rw [e] at r
 unfold WP0;dsimp only
 repeat' split
 all_goals exact Wl5
theorem Zk6 (hs:0 < sl) (ha:0 < sl*th) (hne:x.t.fr≠[]) (h:Adj sl th x) (e:x.f.fn=14) (hp:0≤x.f.pc∧x.f.pc≤3):Nx sl th x (WS9 x):=by
 have r:=h.r hne
 rw [e] at r
 unfold WS9;dsimp only
 repeat' split
 all_goals first | exact Wl5 | exact YB8 hs hne h e | omega
theorem Zk7 {i:Nat} {p:Int} (hs:0 < sl) (ha:0 < sl*th) (hne:x.t.fr≠[]) (h:Adj sl th x) (e:x.f.fn=14):Nx sl th x (WP1 x i p):=by
 have r:=h.r hne
 rw [e] at r
 unfold WP1;dsimp only
 split
 all_goals exact WY4
theorem Zk8 (hs:0 < sl) (ha:0 < sl*th) (hne:x.t.fr≠[]) (h:Adj sl th x) (e:x.f.fn=14) (hp:0≤x.f.pc∧x.f.pc≤7):Nx sl th x (WT0 x):=by
 have r:=h.r hne
 rw [e] at r
 unfold WT0 Wr0;dsimp only
 repeat' split
 all_goals first | exact Wl5 | exact Zk6 hs ha hne h e (by omega) | exact Zk7 hs ha hne h e | exact YB8 hs hne h e | contradiction
theorem ZF7 {f:Frm} (o:Wz7 sl th f):(1≤f.fn∧f.fn≤6)∨f.fn=10∧0≤f.pc∧f.pc≤1∨f.fn=11∧(0≤f.pc∧f.pc≤14∨f.pc=90)∨(f.fn=12∨f.fn=13)∧(0≤f.pc∧f.pc≤7∨f.pc=90)∨f.fn=14∧0≤f.pc∧f.pc≤7:=by
 unfold Wz7 Wx2 at o
 omega
theorem YM5 (hsl:sl=x.m.p.slots) (hth:th=x.m.p.c.threads) (hs:0 < sl) (ha:0 < sl*th) (hne:x.t.fr≠[]) (h:Adj sl th x) (o:Wz7 sl th x.f):Nx sl th x (Wp5 x):=by
 have o1:=ZF7 o
 have r:=h.r hne
 unfold Wp5
 rw [if_neg hne]
 dsimp only
 split
 ·rename_i c
  refine ⟨r.pop,.inr (AdjR.ltPop r hne c.1 r hne ?_)⟩
  have c2:fA sl th x.f.fn 90=false:=by
   have:x.f.fn=11∨x.f.fn=12∨x.f.fn=13:=by omega
   rcases this with e | e | e <;> rw [e] <;> simp [fA]
  rw [c2]
  have:=(Yh1 x.f.fn 90).1
  simp
  omega
 split
 ·exact Zk2 hs ha hne h (by assumption) (by omega)
 split
 ·exact Zk5 hs ha hne h (by assumption) (by omega)
 split
 ·rename_i c
  rcases c with c | c
  ·exact YM3 hs ha hne h c (by omega)
  ·exact YM4 hs ha hne h c (by omega)
 split
 ·exact Zk8 hs ha hne h (by assumption) (by omega)
 ·exact WH6 hsl hth hs ha hne h (by omega)
end
def MoQ (c:Mod.Cf) (f:Frm):Prop:=Wz7 (Wc7 c).slots c.threads f
theorem YM6:Y36 Wp5 MoQ Ok 11 where
 st:=YJ6
 all c x hc hp hne h:=by
  obtain ⟨a1,a2,a3,a4,a5,a6⟩:=Wz6 hc
  exact Yu1 h (by rw [hp]) (by rw [hp];rfl) (by omega) (by omega) hne
 nx c x hc hp hne h a:=by
  obtain ⟨a1,a2,a3,a4,a5,a6⟩:=Wz6 hc
  exact YM5 (by rw [hp]) (by rw [hp];rfl) a1 a2 hne a (h.top hne)
 w c x B hc h hB hne hid:=by
  obtain ⟨a1,a2,a3,a4,a5,a6⟩:=Wz6 hc
  have o:Wz7 (Wc7 c).slots c.threads x.f:=h.q.top hne
  refine h.ok hB hid ?_
  rcases o with o | ⟨_,o⟩
  ·exact Zw8 o ⟨by omega,a4⟩ a3
  ·omega
 new c op l hc ho:=by
  obtain ⟨a1,a2,a3,a4,a5,a6⟩:=Wz6 hc
  exact WC8 (by omega) (by omega) (by omega)
theorem Y64:DoC 63 Wp5 Ok:=λh M T tv x R K H hw k=>Yf8 H hw k
end
section
open Mod
def Wn4 (L sl th:Int) (f:Frm):Prop:=Wx2 sl th f∨f.r.length=10∧(f.fn=31∧(0≤f.pc∧f.pc≤18∨f.pc=90)∧(3≤f.pc→f.pc≤16→1≤f.g 3∧f.g 3≤L)∧(12≤f.pc→f.pc≤15→f.g 5 < f.g 3) ∨
 (f.fn=32∨f.fn=33)∧(0≤f.pc∧f.pc≤14∨f.pc=90)∨f.fn=34∧(0≤f.pc∧f.pc≤5∨f.pc=90)∨f.fn=35∧0≤f.pc∧f.pc≤2∨f.fn=36∧0≤f.pc∧f.pc≤6∨f.fn=30∧0≤f.pc∧f.pc≤6∧(f.pc≠0→0≤s64 (f.g 2)∧s64 (f.g 2) < L))
theorem Wr8 {L sl th fn:Int} {l:List Int} (h:1≤fn∧fn≤6∨30≤fn∧fn≤36) (hs:0≤sl) (ht:0≤sl*th):Wn4 L sl th ⟨fn,0,pad 10 l⟩:=by
 by_cases c:fn≤6
 ·exact .inl (Yh0 (by omega) hs ht)
 ·refine .inr ⟨Wy4 _ _,?_⟩
  dsimp only
  omega
theorem ZK9 {L sl th:Int} {f:Frm} (h:Wn4 L sl th f) (e:¬ (30≤f.fn∧f.fn≤36)):Wx2 sl th f:=by
 unfold Wn4 at h
 rcases h with h | ⟨_,h⟩
 ·exact h
 ·omega
theorem Zx0 {L sl th:Int} {f:Frm} (h:Wn4 L sl th f) (e:30≤f.fn∧f.fn≤36):f.r.length=10∧(f.fn=31∧(0≤f.pc∧f.pc≤18∨f.pc=90)∧(3≤f.pc→f.pc≤16→1≤f.g 3∧f.g 3≤L)∧(12≤f.pc→f.pc≤15→f.g 5 < f.g 3) ∨
 (f.fn=32∨f.fn=33)∧(0≤f.pc∧f.pc≤14∨f.pc=90)∨f.fn=34∧(0≤f.pc∧f.pc≤5∨f.pc=90)∨f.fn=35∧0≤f.pc∧f.pc≤2∨f.fn=36∧0≤f.pc∧f.pc≤6∨f.fn=30∧0≤f.pc∧f.pc≤6∧(f.pc≠0→0≤s64 (f.g 2)∧s64 (f.g 2) < L)):=by
 unfold Wn4 Wx2 at h
 rcases h with h | h
 ·omega
 ·exact h
theorem ZF8 {L sl th:Int} {f:Frm} (h:Wn4 L sl th f) (e:f.fn=31):f.r.length=10∧(0≤f.pc∧f.pc≤18∨f.pc=90)∧(3≤f.pc→f.pc≤16→1≤f.g 3∧f.g 3≤L)∧(12≤f.pc→f.pc≤15→f.g 5 < f.g 3):=by
 have h:=Zx0 h (by omega)
 refine ⟨h.1,?_⟩
 rcases h.2 with h1 | h1 | h1 | h1 | h1 | h1
 ·exact h1.2
 all_goals omega
theorem ZF9 {L sl th:Int} {f:Frm} (h:Wn4 L sl th f) (e:f.fn=30):f.r.length=10∧0≤f.pc∧f.pc≤6∧(f.pc≠0→0≤s64 (f.g 2)∧s64 (f.g 2) < L):=by
 have h:=Zx0 h (by omega)
 refine ⟨h.1,?_⟩
 rcases h.2 with h1 | h1 | h1 | h1 | h1 | h1
 ·omega
 ·omega
 ·omega
 ·omega
 ·omega
 ·exact h1.2
section
variable {x:Run} {L sl th:Int}
theorem Zx1 {f:Frm} (len:f.r.length=10) (e:f.fn=31) (hp:0≤f.pc∧f.pc≤18∨f.pc=90) (h3:3≤f.pc→f.pc≤16→1≤f.g 3∧f.g 3≤L) (h5:12≤f.pc→f.pc≤15→f.g 5 < f.g 3):Wn4 L sl th f:=.inr ⟨len,.inl ⟨e,hp,h3,h5⟩⟩
theorem Zx2 {f:Frm} (len:f.r.length=10) (e:f.fn=32∨f.fn=33) (hp:0≤f.pc∧f.pc≤14∨f.pc=90):Wn4 L sl th f:=.inr ⟨len,.inr (.inl ⟨e,hp⟩)⟩
theorem Zx3 {f:Frm} (len:f.r.length=10) (e:f.fn=34) (hp:0≤f.pc∧f.pc≤5∨f.pc=90):Wn4 L sl th f:=.inr ⟨len,.inr (.inr (.inl ⟨e,hp⟩))⟩
theorem Zx4 {f:Frm} (len:f.r.length=10) (e:f.fn=35) (hp:0≤f.pc∧f.pc≤2):Wn4 L sl th f:=.inr ⟨len,.inr (.inr (.inr (.inl ⟨e,hp.1,hp.2⟩)))⟩
theorem Zx5 {f:Frm} (len:f.r.length=10) (e:f.fn=36) (hp:0≤f.pc∧f.pc≤6):Wn4 L sl th f:=.inr ⟨len,.inr (.inr (.inr (.inr (.inl ⟨e,hp.1,hp.2⟩))))⟩
structure Zk9 (L:Int) (f:Frm):Prop where
 len:f.r.length=10
 fn:f.fn=30
 g:0≤s64 (f.g 2)∧s64 (f.g 2) < L
theorem W82 {f:Frm} (len:f.r.length=10) (e:f.fn=30) (hp:0≤f.pc∧f.pc≤6) (hg:0≤s64 (f.g 2)∧s64 (f.g 2) < L):Wn4 L sl th f:=.inr ⟨len,.inr (.inr (.inr (.inr (.inr ⟨e,hp.1,hp.2,λ_=>hg⟩))))⟩
theorem WX7 {y:Run} (hL:L≤6) (r:Rest (Wn4 L sl th) y) (o:Zk9 L y.f):AllF (Wn4 L sl th) (Wm3 y):=by
 obtain ⟨len,e,g⟩:=o
 unfold Wm3;dsimp only
 split
 ·((repeat (with_reducible first | apply AllF.load | apply AllF.store | apply AllF.cas | apply AllF.add | apply AllF.swing | apply AllF.swingA | apply AllF.swingM | apply AllF.drop1 | apply AllF.guard | apply AllF.gh | apply AllF.fo | apply AllF.re | apply AllF.setPl));first | with_reducible assumption | ((with_reducible first | apply Rest.pop | apply Rest.call | apply Rest.allPc | apply Rest.allS | apply Rest.fin);(focus (refine Lo.rest ?_ (by assumption);(with_reducible repeat' constructor)))))
 ·rename_i c
  ((repeat (with_reducible first | apply AllF.load | apply AllF.store | apply AllF.cas | apply AllF.add | apply AllF.swing | apply AllF.swingA | apply AllF.swingM | apply AllF.drop1 | apply AllF.guard | apply AllF.gh | apply AllF.fo | apply AllF.re | apply AllF.setPl));first | with_reducible assumption | ((with_reducible first | apply Rest.pop | apply Rest.call | apply Rest.allPc | apply Rest.allS | apply Rest.fin);(focus (refine Lo.rest ?_ (by assumption);(with_reducible repeat' constructor)))))
  rw [f_s]
  refine W82 (by simp only [Wh2,Wi7];assumption) (by simp only [Ws5,WU2];assumption) ⟨by show (0:Int)≤1;omega,by show (1:Int)≤6;omega⟩ ?_
  have e1:(((y.setPl (y.t.pred.set (s64 (y.f.g 2)).toNat (y.f.g 3)) (y.t.succ.set (s64 (y.f.g 2)).toNat (Wg8 (y.f.g 4))) (y.t.word.set (s64 (y.f.g 2)).toNat (y.f.g 4))).f.s 2 (Mod.u64 (y.f.g 2 - 1))).at 1).g 2=Mod.u64 (y.f.g 2 - 1):=by
   rw [WP3]
   exact g_s (show (y.f).r.length=10 from len) (by decide) _
  rw [e1]
  exact Y51 g c hL
theorem WX8 {y:Run} (r:Rest (Wn4 L sl th) y) (o:Zk9 L y.f):AllF (Wn4 L sl th) (WE7 y):=by
 obtain ⟨len,e,g⟩:=o
 unfold WE7
 ((repeat (with_reducible first | apply AllF.load | apply AllF.store | apply AllF.cas | apply AllF.add | apply AllF.swing | apply AllF.swingA | apply AllF.swingM | apply AllF.drop1 | apply AllF.guard | apply AllF.gh | apply AllF.fo | apply AllF.re | apply AllF.setPl));first | with_reducible assumption | ((with_reducible first | apply Rest.pop | apply Rest.call | apply Rest.allPc | apply Rest.allS | apply Rest.fin);(focus (refine Lo.rest ?_ (by assumption);(with_reducible repeat' constructor)))))
 rw [f_s]
 exact W82 (by simp only [Wh2,Wi7];assumption) (by simp only [Ws5,WU2];assumption) ⟨by show (0:Int)≤1;omega,by show (1:Int)≤6;omega⟩ (by rw [WP3,Wa8 _ (by decide)];exact g)
theorem YM7 (hL:L≤6) (r:Rest (Wn4 L sl th) x) (o:Zk9 L x.f):AllF (Wn4 L sl th) (WB1 x):=by
 obtain ⟨len,e,g⟩:=o
 unfold WB1;dsimp only
 repeat' split
 ·((repeat (with_reducible first | apply AllF.load | apply AllF.store | apply AllF.cas | apply AllF.add | apply AllF.swing | apply AllF.swingA | apply AllF.swingM | apply AllF.drop1 | apply AllF.guard | apply AllF.gh | apply AllF.fo | apply AllF.re | apply AllF.setPl));first | with_reducible assumption | ((with_reducible first | apply Rest.pop | apply Rest.call | apply Rest.allPc | apply Rest.allS | apply Rest.fin);(focus (refine Lo.rest ?_ (by assumption);(with_reducible repeat' constructor)))))
  exact .inr ⟨by rw [Wh2];exact len,.inr (.inr (.inr (.inr (.inr ⟨e,by show (0:Int)≤0;omega,by show (0:Int)≤6;omega,λhh=>absurd rfl hh⟩))))⟩
 ·exact WX8 (by exact Wr6) ⟨by rw [f_s,Wi7];exact len,by rw [f_s];exact e,by rw [f_s,Wa8 _ (by decide)];exact g⟩
 ·((repeat (with_reducible first | apply AllF.load | apply AllF.store | apply AllF.cas | apply AllF.add | apply AllF.swing | apply AllF.swingA | apply AllF.swingM | apply AllF.drop1 | apply AllF.guard | apply AllF.gh | apply AllF.fo | apply AllF.re | apply AllF.setPl));first | with_reducible assumption | ((with_reducible first | apply Rest.pop | apply Rest.call | apply Rest.allPc | apply Rest.allS | apply Rest.fin);(focus (refine Lo.rest ?_ (by assumption);(with_reducible repeat' constructor)))))
  exact ZH7
 ·((repeat (with_reducible first | apply AllF.load | apply AllF.store | apply AllF.cas | apply AllF.add | apply AllF.swing | apply AllF.swingA | apply AllF.swingM | apply AllF.drop1 | apply AllF.guard | apply AllF.gh | apply AllF.fo | apply AllF.re | apply AllF.setPl));first | with_reducible assumption | ((with_reducible first | apply Rest.pop | apply Rest.call | apply Rest.allPc | apply Rest.allS | apply Rest.fin);(focus (refine Lo.rest ?_ (by assumption);(with_reducible repeat' constructor)))))
  exact ZH7
theorem Y65 (hL:1≤L∧L≤6) (hl:L=x.m.p.c.level) (h:AllF (Wn4 L sl th) x) (o:Wn4 L sl th x.f) (e:x.f.fn=30):AllF (Wn4 L sl th) (WT4 x):=by
 have r:=h.rest
 obtain ⟨len,o1,o2,o3⟩:=ZF9 o e
 unfold WT4;dsimp only
 split
 ·((repeat (with_reducible first | apply AllF.load | apply AllF.store | apply AllF.cas | apply AllF.add | apply AllF.swing | apply AllF.swingA | apply AllF.swingM | apply AllF.drop1 | apply AllF.guard | apply AllF.gh | apply AllF.fo | apply AllF.re | apply AllF.setPl));first | with_reducible assumption | ((with_reducible first | apply Rest.pop | apply Rest.call | apply Rest.allPc | apply Rest.allS | apply Rest.fin);(focus (refine Lo.rest ?_ (by assumption);(with_reducible repeat' constructor)))))
  rw [f_s,f_s,f_s,f_s]
  refine W82 (by simp only [Wh2,Wi7];assumption) (by simp only [Ws5,WU2];assumption) ⟨by show (0:Int)≤1;omega,by show (1:Int)≤6;omega⟩ ?_
  rw [WP3,g_s (by rw [Wi7,Wi7,Wi7];exact len) (by decide)]
  have e2:(x.load 1).2.m.p.c.level=L:=by rw [hl];exact congrArg (λp:Pl=>p.c.level) (St.fix (St.load (St.refl x):St 1 x (x.load 1).2)).p
  first | rw [← hl] | rw [e2] | skip
  exact Y52 hL
 rename_i c
 have g:=o3 c
 have o9:Zk9 L x.f:=⟨len,e,g⟩
 repeat' split
 all_goals first
  | exact YM7 hL.2 r o9
  | exact WX7 hL.2 (by exact Wr6) ⟨by rw [WE8,f_s];exact (Wi7 _ _ _).trans len,by rw [WE8,f_s];exact e,by rw [WE8,f_s,WP3,Wa8 _ (by decide)];exact g⟩
  | exact WX7 hL.2 (by exact Wr6) ⟨len,e,g⟩
  | exact WX8 (by exact Wr6) ⟨len,e,g⟩
  | exact WX8 (by exact Wr6) ⟨by rw [Wl8,WE8];exact len,by rw [Wl8,WE8];exact e,by rw [Wl8,WE8];exact g⟩
  | skip
 all_goals ((repeat (with_reducible first | apply AllF.load | apply AllF.store | apply AllF.cas | apply AllF.add | apply AllF.swing | apply AllF.swingA | apply AllF.swingM | apply AllF.drop1 | apply AllF.guard | apply AllF.gh | apply AllF.fo | apply AllF.re | apply AllF.setPl));first | with_reducible assumption | ((with_reducible first | apply Rest.pop | apply Rest.call | apply Rest.allPc | apply Rest.allS | apply Rest.fin);(focus (refine Lo.rest ?_ (by assumption);(with_reducible repeat' constructor)))))
 all_goals exact ZH7
theorem YM8 (h:AllF (Wn4 L sl th) x) (s0:0≤sl) (t0:0≤sl*th) (len:x.f.r.length=10) (e:x.f.fn=34):AllF (Wn4 L sl th) (WB2 x):=by
 have r:=h.rest
 unfold WB2;dsimp only
 repeat' split
 all_goals ((repeat (with_reducible first | apply AllF.load | apply AllF.store | apply AllF.cas | apply AllF.add | apply AllF.swing | apply AllF.swingA | apply AllF.swingM | apply AllF.drop1 | apply AllF.guard | apply AllF.gh | apply AllF.fo | apply AllF.re | apply AllF.setPl));first | with_reducible assumption | ((with_reducible first | apply Rest.pop | apply Rest.call | apply Rest.allPc | apply Rest.allS | apply Rest.fin);(focus (refine Lo.rest ?_ (by assumption);(with_reducible repeat' constructor)))))
 all_goals first | (with_reducible apply Wr8;omega;assumption;assumption) | exact ZH5
theorem YM9 (h:AllF (Wn4 L sl th) x) (s0:0≤sl) (t0:0≤sl*th) (len:x.f.r.length=10) (e:x.f.fn=35):AllF (Wn4 L sl th) (WB3 x):=by
 have r:=h.rest
 unfold WB3;dsimp only
 repeat' split
 all_goals ((repeat (with_reducible first | apply AllF.load | apply AllF.store | apply AllF.cas | apply AllF.add | apply AllF.swing | apply AllF.swingA | apply AllF.swingM | apply AllF.drop1 | apply AllF.guard | apply AllF.gh | apply AllF.fo | apply AllF.re | apply AllF.setPl));first | with_reducible assumption | ((with_reducible first | apply Rest.pop | apply Rest.call | apply Rest.allPc | apply Rest.allS | apply Rest.fin);(focus (refine Lo.rest ?_ (by assumption);(with_reducible repeat' constructor)))))
 all_goals first | (with_reducible apply Wr8;omega;assumption;assumption) | exact ZH6
theorem YN0 (h:AllF (Wn4 L sl th) x) (s0:0≤sl) (t0:0≤sl*th) (len:x.f.r.length=10) (e:x.f.fn=36):AllF (Wn4 L sl th) (WB4 x):=by
 have r:=h.rest
 unfold WB4 Wv0;dsimp only
 repeat' split
 all_goals ((repeat (with_reducible first | apply AllF.load | apply AllF.store | apply AllF.cas | apply AllF.add | apply AllF.swing | apply AllF.swingA | apply AllF.swingM | apply AllF.drop1 | apply AllF.guard | apply AllF.gh | apply AllF.fo | apply AllF.re | apply AllF.setPl));first | with_reducible assumption | ((with_reducible first | apply Rest.pop | apply Rest.call | apply Rest.allPc | apply Rest.allS | apply Rest.fin);(focus (refine Lo.rest ?_ (by assumption);(with_reducible repeat' constructor)))))
 all_goals first | (with_reducible apply Wr8;omega;assumption;assumption) | exact Zz9
theorem YN1 (h:AllF (Wn4 L sl th) x) (s0:0≤sl) (t0:0≤sl*th) (len:x.f.r.length=10) (e:x.f.fn=36):AllF (Wn4 L sl th) (WB5 x):=by
 have r:=h.rest
 unfold WB5 Wv0;dsimp only
 repeat' split
 all_goals first | exact YN0 h s0 t0 len e | skip
 all_goals ((repeat (with_reducible first | apply AllF.load | apply AllF.store | apply AllF.cas | apply AllF.add | apply AllF.swing | apply AllF.swingA | apply AllF.swingM | apply AllF.drop1 | apply AllF.guard | apply AllF.gh | apply AllF.fo | apply AllF.re | apply AllF.setPl));first | with_reducible assumption | ((with_reducible first | apply Rest.pop | apply Rest.call | apply Rest.allPc | apply Rest.allS | apply Rest.fin);(focus (refine Lo.rest ?_ (by assumption);(with_reducible repeat' constructor)))))
 all_goals first | (with_reducible apply Wr8;omega;assumption;assumption) | exact Zz9
theorem Y66 (h:AllF (Wn4 L sl th) x) (s0:0≤sl) (t0:0≤sl*th) (len:x.f.r.length=10) (e:x.f.fn=31) (o1:0≤x.f.pc∧x.f.pc≤18∨x.f.pc=90) (o2:3≤x.f.pc→x.f.pc≤16→1≤x.f.g 3∧x.f.g 3≤L) (o3:12≤x.f.pc→x.f.pc≤15→x.f.g 5 < x.f.g 3) (hp:3≤x.f.pc∧x.f.pc≤6):AllF (Wn4 L sl th) (WZ1 x):=by
 have r:=h.rest
 unfold WZ1;dsimp only
 repeat' split
 all_goals ((repeat (with_reducible first | apply AllF.load | apply AllF.store | apply AllF.cas | apply AllF.add | apply AllF.swing | apply AllF.swingA | apply AllF.swingM | apply AllF.drop1 | apply AllF.guard | apply AllF.gh | apply AllF.fo | apply AllF.re | apply AllF.setPl));first | with_reducible assumption | ((with_reducible first | apply Rest.pop | apply Rest.call | apply Rest.allPc | apply Rest.allS | apply Rest.fin);(focus (refine Lo.rest ?_ (by assumption);(with_reducible repeat' constructor)))))
 all_goals first | (with_reducible apply Wr8;omega;assumption;assumption) | exact W92
theorem Yu3 (h:AllF (Wn4 L sl th) x) (s0:0≤sl) (t0:0≤sl*th) (len:x.f.r.length=10) (e:x.f.fn=31) (o1:0≤x.f.pc∧x.f.pc≤18∨x.f.pc=90) (o2:3≤x.f.pc→x.f.pc≤16→1≤x.f.g 3∧x.f.g 3≤L) (o3:12≤x.f.pc→x.f.pc≤15→x.f.g 5 < x.f.g 3) (hp:7≤x.f.pc∧x.f.pc≤10):AllF (Wn4 L sl th) (Wt9 x):=by
 have r:=h.rest
 unfold Wt9;dsimp only
 repeat' split
 all_goals first | exact h | ((repeat (with_reducible first | apply AllF.load | apply AllF.store | apply AllF.cas | apply AllF.add | apply AllF.swing | apply AllF.swingA | apply AllF.swingM | apply AllF.drop1 | apply AllF.guard | apply AllF.gh | apply AllF.fo | apply AllF.re | apply AllF.setPl));first | with_reducible assumption | ((with_reducible first | apply Rest.pop | apply Rest.call | apply Rest.allPc | apply Rest.allS | apply Rest.fin);(focus (refine Lo.rest ?_ (by assumption);(with_reducible repeat' constructor))))) | skip
 all_goals first | (with_reducible apply Wr8;omega;assumption;assumption) | exact W92
theorem Yu4 (h:AllF (Wn4 L sl th) x) (s0:0≤sl) (t0:0≤sl*th) (len:x.f.r.length=10) (e:x.f.fn=31) (o1:0≤x.f.pc∧x.f.pc≤18∨x.f.pc=90) (o2:3≤x.f.pc→x.f.pc≤16→1≤x.f.g 3∧x.f.g 3≤L) (o3:12≤x.f.pc→x.f.pc≤15→x.f.g 5 < x.f.g 3) (hp:11≤x.f.pc∧x.f.pc≤14):AllF (Wn4 L sl th) (Wu0 x):=by
 have r:=h.rest
 unfold Wu0;dsimp only
 repeat' split
 all_goals first | exact h | ((repeat (with_reducible first | apply AllF.load | apply AllF.store | apply AllF.cas | apply AllF.add | apply AllF.swing | apply AllF.swingA | apply AllF.swingM | apply AllF.drop1 | apply AllF.guard | apply AllF.gh | apply AllF.fo | apply AllF.re | apply AllF.setPl));first | with_reducible assumption | ((with_reducible first | apply Rest.pop | apply Rest.call | apply Rest.allPc | apply Rest.allS | apply Rest.fin);(focus (refine Lo.rest ?_ (by assumption);(with_reducible repeat' constructor))))) | skip
 all_goals first | (with_reducible apply Wr8;omega;assumption;assumption) | exact W92
theorem YN2 (h:AllF (Wn4 L sl th) x) (s0:0≤sl) (t0:0≤sl*th) (len:x.f.r.length=10) (e:x.f.fn=31) (o1:0≤x.f.pc∧x.f.pc≤18∨x.f.pc=90) (o2:3≤x.f.pc→x.f.pc≤16→1≤x.f.g 3∧x.f.g 3≤L) (o3:12≤x.f.pc→x.f.pc≤15→x.f.g 5 < x.f.g 3) (hp:15≤x.f.pc∧x.f.pc≤18):AllF (Wn4 L sl th) (WB7 x):=by
 have r:=h.rest
 unfold WB7;dsimp only
 repeat' split
 all_goals ((repeat (with_reducible first | apply AllF.load | apply AllF.store | apply AllF.cas | apply AllF.add | apply AllF.swing | apply AllF.swingA | apply AllF.swingM | apply AllF.drop1 | apply AllF.guard | apply AllF.gh | apply AllF.fo | apply AllF.re | apply AllF.setPl));first | with_reducible assumption | ((with_reducible first | apply Rest.pop | apply Rest.call | apply Rest.allPc | apply Rest.allS | apply Rest.fin);(focus (refine Lo.rest ?_ (by assumption);(with_reducible repeat' constructor)))))
 all_goals first | (with_reducible apply Wr8;omega;assumption;assumption) | exact W92
theorem YN3 (h:AllF (Wn4 L sl th) x) (hL:L=x.m.p.c.level) (hl:1≤L∧L≤6) (s0:0≤sl) (t0:0≤sl*th) (len:x.f.r.length=10) (e:x.f.fn=31) (hp:0≤x.f.pc∧x.f.pc≤2):AllF (Wn4 L sl th) (WB6 x):=by
 have r:=h.rest
 unfold WB6;dsimp only
 repeat' split
 ·((repeat (with_reducible first | apply AllF.load | apply AllF.store | apply AllF.cas | apply AllF.add | apply AllF.swing | apply AllF.swingA | apply AllF.swingM | apply AllF.drop1 | apply AllF.guard | apply AllF.gh | apply AllF.fo | apply AllF.re | apply AllF.setPl));first | with_reducible assumption | ((with_reducible first | apply Rest.pop | apply Rest.call | apply Rest.allPc | apply Rest.allS | apply Rest.fin);(focus (refine Lo.rest ?_ (by assumption);(with_reducible repeat' constructor)))))
  ·exact W92
  ·exact Wr8 (by omega) s0 t0
 ·((repeat (with_reducible first | apply AllF.load | apply AllF.store | apply AllF.cas | apply AllF.add | apply AllF.swing | apply AllF.swingA | apply AllF.swingM | apply AllF.drop1 | apply AllF.guard | apply AllF.gh | apply AllF.fo | apply AllF.re | apply AllF.setPl));first | with_reducible assumption | ((with_reducible first | apply Rest.pop | apply Rest.call | apply Rest.allPc | apply Rest.allS | apply Rest.fin);(focus (refine Lo.rest ?_ (by assumption);(with_reducible repeat' constructor)))))
  exact W92
 ·((repeat (with_reducible first | apply AllF.load | apply AllF.store | apply AllF.cas | apply AllF.add | apply AllF.swing | apply AllF.swingA | apply AllF.swingM | apply AllF.drop1 | apply AllF.guard | apply AllF.gh | apply AllF.fo | apply AllF.re | apply AllF.setPl));first | with_reducible assumption | ((with_reducible first | apply Rest.pop | apply Rest.call | apply Rest.allPc | apply Rest.allS | apply Rest.fin);(focus (refine Lo.rest ?_ (by assumption);(with_reducible repeat' constructor)))))
  ·exact W92
  ·exact Wr8 (by omega) s0 t0
 ·((repeat (with_reducible first | apply AllF.load | apply AllF.store | apply AllF.cas | apply AllF.add | apply AllF.swing | apply AllF.swingA | apply AllF.swingM | apply AllF.drop1 | apply AllF.guard | apply AllF.gh | apply AllF.fo | apply AllF.re | apply AllF.setPl));first | with_reducible assumption | ((with_reducible first | apply Rest.pop | apply Rest.call | apply Rest.allPc | apply Rest.allS | apply Rest.fin);(focus (refine Lo.rest ?_ (by assumption);(with_reducible repeat' constructor)))))
  ·exact W92
  ·exact Wr8 (by omega) s0 t0
 ·refine Rest.allPc (Rest.s (Rest.m (by exact Wr6))) ?_
  rw [f_s]
  have ef:∀m:Mac,(⟨m,((x.add 3 1).2.s 4 (Wg6 (u32 (x.f.g 0)) (u32 (x.add 3 1).1))).t,((x.add 3 1).2.s 4 (Wg6 (u32 (x.f.g 0)) (u32 (x.add 3 1).1))).id⟩ : Run).f=x.f.s 4 (Wg6 (u32 (x.f.g 0)) (u32 (x.add 3 1).1)):=λm=>by
   show ((x.add 3 1).2.s 4 (Wg6 (u32 (x.f.g 0)) (u32 (x.add 3 1).1))).f=_
   rw [f_s]
   rfl
  rw [ef]
  have hv:=YB7 ((x.add 3 1).2.s 4 (Wg6 (u32 (x.f.g 0)) (u32 (x.add 3 1).1))).m hl
  have ep:((x.add 3 1).2.s 4 (Wg6 (u32 (x.f.g 0)) (u32 (x.add 3 1).1))).m.p.c.level=L:=by rw [hL];exact congrArg (λp:Pl=>p.c.level) (St.fix (St.s (St.add (St.refl x)):St 2 x ((x.add 3 1).2.s 4 (Wg6 (u32 (x.f.g 0)) (u32 (x.add 3 1).1))))).p
  rw [ep]
  generalize Mod.u64 (((x.add 3 1).2.s 4 (Wg6 (u32 (x.f.g 0)) (u32 (x.add 3 1).1))).m.lvl L).1=v at *
  refine .inr ⟨by simp only [Wh2,Wi7];exact len,.inl ⟨e,.inl ⟨by show (0:Int)≤3;omega,by show (3:Int)≤18;omega⟩,λ_ _=>?_,λhh=>?_⟩⟩
  ·rw [WP3,g_s (by rw [Wi7];exact len) (by decide)]
   exact hv
  ·simp only [Wy5] at hh;omega
 ·exact h
theorem YN4 (h:AllF (Wn4 L sl th) x) (hL:L=x.m.p.c.level) (hl:1≤L∧L≤6) (s0:0≤sl) (t0:0≤sl*th) (o:Wn4 L sl th x.f) (e:x.f.fn=31) (h9:x.f.pc≠90):AllF (Wn4 L sl th) (WB8 x):=by
 obtain ⟨len,o1,o2,o3⟩:=ZF8 o e
 unfold WB8
 repeat' split
 ·exact YN3 h hL hl s0 t0 len e (by omega)
 ·exact Y66 h s0 t0 len e o1 o2 o3 (by omega)
 ·exact Yu3 h s0 t0 len e o1 o2 o3 (by omega)
 ·exact Yu4 h s0 t0 len e o1 o2 o3 (by omega)
 ·exact YN2 h s0 t0 len e o1 o2 o3 (by omega)
theorem YN5 (h:AllF (Wn4 L sl th) x) (s0:0≤sl) (t0:0≤sl*th) (len:x.f.r.length=10) (e:x.f.fn=32∨x.f.fn=33):AllF (Wn4 L sl th) (Ww5 x):=by
 have r:=h.rest
 unfold Ww5;dsimp only
 repeat' split
 all_goals first | exact h | ((repeat (with_reducible first | apply AllF.load | apply AllF.store | apply AllF.cas | apply AllF.add | apply AllF.swing | apply AllF.swingA | apply AllF.swingM | apply AllF.drop1 | apply AllF.guard | apply AllF.gh | apply AllF.fo | apply AllF.re | apply AllF.setPl));first | with_reducible assumption | ((with_reducible first | apply Rest.pop | apply Rest.call | apply Rest.allPc | apply Rest.allS | apply Rest.fin);(focus (refine Lo.rest ?_ (by assumption);(with_reducible repeat' constructor))))) | skip
 all_goals first | (with_reducible apply Wr8;omega;assumption;assumption) | exact Zb4
theorem Zl0 (h:AllF (Wn4 L sl th) x) (s0:0≤sl) (t0:0≤sl*th) (len:x.f.r.length=10) (e:x.f.fn=32∨x.f.fn=33):AllF (Wn4 L sl th) (YF9 x):=by
 have r:=h.rest
 unfold YF9;dsimp only
 repeat' split
 all_goals first | exact h | ((repeat (with_reducible first | apply AllF.load | apply AllF.store | apply AllF.cas | apply AllF.add | apply AllF.swing | apply AllF.swingA | apply AllF.swingM | apply AllF.drop1 | apply AllF.guard | apply AllF.gh | apply AllF.fo | apply AllF.re | apply AllF.setPl));first | with_reducible assumption | ((with_reducible first | apply Rest.pop | apply Rest.call | apply Rest.allPc | apply Rest.allS | apply Rest.fin);(focus (refine Lo.rest ?_ (by assumption);(with_reducible repeat' constructor))))) | skip
 all_goals first | (with_reducible apply Wr8;omega;assumption;assumption) | exact Zb4
theorem YN6 (h:AllF (Wn4 L sl th) x) (s0:0≤sl) (t0:0≤sl*th) (len:x.f.r.length=10) (e:x.f.fn=32∨x.f.fn=33):AllF (Wn4 L sl th) (Ww6 x):=by
 have r:=h.rest
 unfold Ww6;dsimp only
 repeat' split
 all_goals first | exact h | ((repeat (with_reducible first | apply AllF.load | apply AllF.store | apply AllF.cas | apply AllF.add | apply AllF.swing | apply AllF.swingA | apply AllF.swingM | apply AllF.drop1 | apply AllF.guard | apply AllF.gh | apply AllF.fo | apply AllF.re | apply AllF.setPl));first | with_reducible assumption | ((with_reducible first | apply Rest.pop | apply Rest.call | apply Rest.allPc | apply Rest.allS | apply Rest.fin);(focus (refine Lo.rest ?_ (by assumption);(with_reducible repeat' constructor))))) | skip
 all_goals first | (with_reducible apply Wr8;omega;assumption;assumption) | exact Zb4
theorem Y67 (h:AllF (Wn4 L sl th) x) (s0:0≤sl) (t0:0≤sl*th) (len:x.f.r.length=10) (e:x.f.fn=32∨x.f.fn=33):AllF (Wn4 L sl th) (WM7 x):=by
 have r:=h.rest
 unfold WM7;dsimp only
 repeat' split
 all_goals first | exact h | ((repeat (with_reducible first | apply AllF.load | apply AllF.store | apply AllF.cas | apply AllF.add | apply AllF.swing | apply AllF.swingA | apply AllF.swingM | apply AllF.drop1 | apply AllF.guard | apply AllF.gh | apply AllF.fo | apply AllF.re | apply AllF.setPl));first | with_reducible assumption | ((with_reducible first | apply Rest.pop | apply Rest.call | apply Rest.allPc | apply Rest.allS | apply Rest.fin);(focus (refine Lo.rest ?_ (by assumption);(with_reducible repeat' constructor))))) | skip
 all_goals first | (with_reducible apply Wr8;omega;assumption;assumption) | exact Zb4
theorem YN7 (h:AllF (Wn4 L sl th) x) (s0:0≤sl) (t0:0≤sl*th) (len:x.f.r.length=10) (e:x.f.fn=32∨x.f.fn=33):AllF (Wn4 L sl th) (Ww7 x):=by
 unfold Ww7
 repeat' split
 ·exact YN5 h s0 t0 len e
 ·exact Zl0 h s0 t0 len e
 ·exact YN6 h s0 t0 len e
 ·exact Y67 h s0 t0 len e
theorem Yi9 (h:AllF (Wn4 L sl th) x) (hL:L=x.m.p.c.level) (hl:1≤L∧L≤6) (hs:sl=x.m.p.slots) (ht:th=x.m.p.c.threads) (s0:0≤sl) (t0:0≤sl*th) (hne:x.t.fr≠[]):AllF (Wn4 L sl th) (Wl0 x):=by
 have r:=h.rest
 have o:=h.top hne
 unfold Wl0
 rw [if_neg hne]
 dsimp only
 split
 ·unfold Ws2
  rw [if_neg hne]
  split
  ·exact Y65 hl hL h o (by assumption)
  ·exact WC6 (λf hf=>.inl hf) h hs ht s0 t0 (ZK9 o (by omega))
 have len:=(Zx0 o (by omega)).1
 split
 ·((repeat (with_reducible first | apply AllF.load | apply AllF.store | apply AllF.cas | apply AllF.add | apply AllF.swing | apply AllF.swingA | apply AllF.swingM | apply AllF.drop1 | apply AllF.guard | apply AllF.gh | apply AllF.fo | apply AllF.re | apply AllF.setPl));first | with_reducible assumption | ((with_reducible first | apply Rest.pop | apply Rest.call | apply Rest.allPc | apply Rest.allS | apply Rest.fin);(focus (refine Lo.rest ?_ (by assumption);(with_reducible repeat' constructor)))))
 split
 ·exact YN4 h hL hl s0 t0 o (by assumption) (by assumption)
 split
 ·exact YM8 h s0 t0 len (by assumption)
 split
 ·exact YM9 h s0 t0 len (by assumption)
 split
 ·exact YN1 h s0 t0 len (by assumption)
 ·exact YN7 h s0 t0 len (by omega)
end
end
section
open Mod
section
variable {x:Run} {L sl th:Int}
theorem Yu5 {y:Run} {l:List Frm} (r:AdjR sl th 30 l y):Adj sl th (Wm3 y):=by
 unfold Wm3;dsimp only
 split
 all_goals exact Yk3
theorem Yu6 {y:Run} (h:Tch y):Tch (Wm3 y):=by
 unfold Wm3;dsimp only
 split
 all_goals (with_reducible repeat' (first | assumption | constructor))
theorem Yj0 {y:Run} {l:List Frm} (r:AdjR sl th 30 l y):Adj sl th (WE7 y):=by
 unfold WE7
 exact Yk3
theorem Yj1 {y:Run} (h:Tch y):Tch (WE7 y):=by
 unfold WE7
 with_reducible repeat' (first | assumption | constructor)
theorem Y68 (hs:0 < sl) (hne:x.t.fr≠[]) (h:Adj sl th x) (e:x.f.fn=30):Nx sl th x (WB1 x):=by
 have r:=h.r hne
 rw [e] at r
 unfold WB1;dsimp only
 repeat' split
 all_goals first
  | (refine ⟨Yj0 (l:=rst x) ?_,.inl (Tch.act (Yj1 ?_))⟩;exact W31;(with_reducible repeat' constructor);done)
  | exact Wl5
theorem Zl1 {y:Run} {l:List Frm} (r:AdjR sl th 30 l y) (h:Tch y):Nx sl th x (WE7 y):=⟨Yj0 r,.inl (Tch.act (Yj1 h))⟩
theorem YN8 {y:Run} {l:List Frm} (r:AdjR sl th 30 l y) (h:Tch y):Nx sl th x (Wm3 y):=⟨Yu5 r,.inl (Tch.act (Yu6 h))⟩
theorem Zl2 (hs:0 < sl) (hne:x.t.fr≠[]) (h:Adj sl th x) (e:x.f.fn=30):Nx sl th x (WT4 x):=by
 have r:=h.r hne
 rw [e] at r
 unfold WT4;dsimp only
 repeat' split
 all_goals first
  | (with_reducible apply Y68 hs hne h e)
  | ((with_reducible apply Zl1 (l:=rst x));exact W31;(with_reducible repeat' constructor);done)
  | ((with_reducible apply YN8 (l:=rst x));exact W31;(with_reducible repeat' constructor);done)
  | exact Wl5
theorem Y69 (hs:0 < sl) (ha:0 < sl*th) (hne:x.t.fr≠[]) (h:Adj sl th x) (e:x.f.fn=34) (hp:0≤x.f.pc∧x.f.pc≤5):Nx sl th x (WB2 x):=by
 have r:=h.r hne
 rw [e] at r
 unfold WB2;dsimp only
 repeat' split
 all_goals first | exact Wl5 | ((have e1:x.f.pc=5:=by omega);exact Wl5) | omega
theorem Y70 (hs:0 < sl) (ha:0 < sl*th) (hne:x.t.fr≠[]) (h:Adj sl th x) (e:x.f.fn=35) (hp:0≤x.f.pc∧x.f.pc≤2):Nx sl th x (WB3 x):=by
 have r:=h.r hne
 rw [e] at r
 unfold WB3;dsimp only
 repeat' split
 all_goals first | exact Wl5 | ((have e1:x.f.pc=2:=by omega);exact Wl5) | omega
theorem Y71 (hs:0 < sl) (ha:0 < sl*th) (hne:x.t.fr≠[]) (h:Adj sl th x) (e:x.f.fn=36) (hp:4≤x.f.pc∧x.f.pc≤6):Nx sl th x (WB4 x):=by
 have r:=h.r hne
 rw [e] at r
 unfold WB4 Wv0;dsimp only
 repeat' split
 all_goals first | exact Wl5 | omega
theorem Y72 (hs:0 < sl) (ha:0 < sl*th) (hne:x.t.fr≠[]) (h:Adj sl th x) (e:x.f.fn=36) (hp:0≤x.f.pc∧x.f.pc≤6):Nx sl th x (WB5 x):=by
 have r:=h.r hne
 rw [e] at r
 unfold WB5 Wv0;dsimp only
 repeat' split
 all_goals first | exact Wl5 | exact Y71 hs ha hne h e (by omega) | omega
theorem Y73 (hs:0 < sl) (ha:0 < sl*th) (hne:x.t.fr≠[]) (h:Adj sl th x) (e:x.f.fn=31) (hp:0≤x.f.pc∧x.f.pc≤2):Nx sl th x (WB6 x):=by
 have r:=h.r hne
 rw [e] at r
 unfold WB6;dsimp only
 repeat' split
 all_goals first | exact WY4 | omega
theorem Zl3 (hs:0 < sl) (ha:0 < sl*th) (hne:x.t.fr≠[]) (h:Adj sl th x) (e:x.f.fn=31) (hp:3≤x.f.pc∧x.f.pc≤6):Nx sl th x (WZ1 x):=by
 have r:=h.r hne
 rw [e] at r
 unfold WZ1;dsimp only
 repeat' split
 all_goals first | exact Wl5 | omega
theorem YN9 (hs:0 < sl) (ha:0 < sl*th) (hne:x.t.fr≠[]) (h:Adj sl th x) (e:x.f.fn=31) (hp:7≤x.f.pc∧x.f.pc≤10):Nx sl th x (Wt9 x):=by
 have r:=h.r hne
 rw [e] at r
 unfold Wt9;dsimp only
 repeat' split
 all_goals first | exact Wl5 | omega
theorem YO0 (hs:0 < sl) (ha:0 < sl*th) (hne:x.t.fr≠[]) (h:Adj sl th x) (e:x.f.fn=31) (hp:11≤x.f.pc∧x.f.pc≤14):Nx sl th x (Wu0 x):=by
 have r:=h.r hne
 rw [e] at r
 unfold Wu0;dsimp only
 repeat' split
 all_goals first | exact Wl5 | omega
theorem Y74 (hs:0 < sl) (ha:0 < sl*th) (hne:x.t.fr≠[]) (h:Adj sl th x) (e:x.f.fn=31) (hp:15≤x.f.pc∧x.f.pc≤18):Nx sl th x (WB7 x):=by
 have r:=h.r hne
 rw [e] at r
 unfold WB7;dsimp only
 repeat' split
 all_goals first | exact Wl5 | ((have e1:x.f.pc=18:=by omega);exact Wl5) | omega
theorem Y75 (hs:0 < sl) (ha:0 < sl*th) (hne:x.t.fr≠[]) (h:Adj sl th x) (e:x.f.fn=31) (hp:0≤x.f.pc∧x.f.pc≤18):Nx sl th x (WB8 x):=by
 unfold WB8
 repeat' split
 ·exact Y73 hs ha hne h e (by omega)
 ·exact Zl3 hs ha hne h e (by omega)
 ·exact YN9 hs ha hne h e (by omega)
 ·exact YO0 hs ha hne h e (by omega)
 ·exact Y74 hs ha hne h e (by omega)
theorem Yu7 (hs:0 < sl) (ha:0 < sl*th) (hne:x.t.fr≠[]) (h:Adj sl th x) (e:x.f.fn=32) (hp:0≤x.f.pc∧x.f.pc≤4):Nx sl th x (Ww5 x):=by
 have r:=h.r hne
 rw [e] at r
 unfold Ww5;dsimp only
 repeat' split
 all_goals first | exact Wl5 | omega
theorem Y76 (hs:0 < sl) (ha:0 < sl*th) (hne:x.t.fr≠[]) (h:Adj sl th x) (e:x.f.fn=32) (hp:5≤x.f.pc∧x.f.pc≤8):Nx sl th x (YF9 x):=by
 have r:=h.r hne
 rw [e] at r
 unfold YF9;dsimp only
 repeat' split
 all_goals first | exact Wl5 | omega
theorem Yu8 (hs:0 < sl) (ha:0 < sl*th) (hne:x.t.fr≠[]) (h:Adj sl th x) (e:x.f.fn=32) (hp:9≤x.f.pc∧x.f.pc≤10):Nx sl th x (Ww6 x):=by
 have r:=h.r hne
 rw [e] at r
 unfold Ww6;dsimp only
 repeat' split
 all_goals first | exact Wl5 | omega
theorem YO1 (hs:0 < sl) (ha:0 < sl*th) (hne:x.t.fr≠[]) (h:Adj sl th x) (e:x.f.fn=32) (hp:11≤x.f.pc∧x.f.pc≤14):Nx sl th x (WM7 x):=by
 have r:=h.r hne
 rw [e] at r
 unfold WM7;dsimp only
 repeat' split
 all_goals first | exact Wl5 | ((have e1:x.f.pc=14:=by omega);exact Wl5) | omega
theorem Yu9 (hs:0 < sl) (ha:0 < sl*th) (hne:x.t.fr≠[]) (h:Adj sl th x) (e:x.f.fn=32) (hp:0≤x.f.pc∧x.f.pc≤14):Nx sl th x (Ww7 x):=by
 unfold Ww7
 repeat' split
 ·exact Yu7 hs ha hne h e (by omega)
 ·exact Y76 hs ha hne h e (by omega)
 ·exact Yu8 hs ha hne h e (by omega)
 ·exact YO1 hs ha hne h e (by omega)
theorem Yv0 (hs:0 < sl) (ha:0 < sl*th) (hne:x.t.fr≠[]) (h:Adj sl th x) (e:x.f.fn=33) (hp:0≤x.f.pc∧x.f.pc≤4):Nx sl th x (Ww5 x):=by
 have r:=h.r hne
 rw [e] at r
 unfold Ww5;dsimp only
 repeat' split
 all_goals first | exact Wl5 | omega
theorem Y77 (hs:0 < sl) (ha:0 < sl*th) (hne:x.t.fr≠[]) (h:Adj sl th x) (e:x.f.fn=33) (hp:5≤x.f.pc∧x.f.pc≤8):Nx sl th x (YF9 x):=by
 have r:=h.r hne
 rw [e] at r
 unfold YF9;dsimp only
 repeat' split
 all_goals first | exact Wl5 | omega
theorem Yv1 (hs:0 < sl) (ha:0 < sl*th) (hne:x.t.fr≠[]) (h:Adj sl th x) (e:x.f.fn=33) (hp:9≤x.f.pc∧x.f.pc≤10):Nx sl th x (Ww6 x):=by
 have r:=h.r hne
 rw [e] at r
 unfold Ww6;dsimp only
 repeat' split
 all_goals first | exact Wl5 | omega
theorem YO2 (hs:0 < sl) (ha:0 < sl*th) (hne:x.t.fr≠[]) (h:Adj sl th x) (e:x.f.fn=33) (hp:11≤x.f.pc∧x.f.pc≤14):Nx sl th x (WM7 x):=by
 have r:=h.r hne
 rw [e] at r
 unfold WM7;dsimp only
 repeat' split
 all_goals first | exact Wl5 | ((have e1:x.f.pc=14:=by omega);exact Wl5) | omega
theorem Yv2 (hs:0 < sl) (ha:0 < sl*th) (hne:x.t.fr≠[]) (h:Adj sl th x) (e:x.f.fn=33) (hp:0≤x.f.pc∧x.f.pc≤14):Nx sl th x (Ww7 x):=by
 unfold Ww7
 repeat' split
 ·exact Yv0 hs ha hne h e (by omega)
 ·exact Y77 hs ha hne h e (by omega)
 ·exact Yv1 hs ha hne h e (by omega)
 ·exact YO2 hs ha hne h e (by omega)
theorem ZG0 {f:Frm} (o:Wn4 L sl th f):(1≤f.fn∧f.fn≤6)∨f.fn=30∧0≤f.pc∧f.pc≤6∨f.fn=31∧(0≤f.pc∧f.pc≤18∨f.pc=90)∨(f.fn=32∨f.fn=33)∧(0≤f.pc∧f.pc≤14∨f.pc=90)∨f.fn=34∧(0≤f.pc∧f.pc≤5∨f.pc=90)∨f.fn=35∧0≤f.pc∧f.pc≤2∨f.fn=36∧0≤f.pc∧f.pc≤6:=by
 unfold Wn4 Wx2 at o
 omega
theorem Yv3 (hsl:sl=x.m.p.slots) (hth:th=x.m.p.c.threads) (hs:0 < sl) (ha:0 < sl*th) (hne:x.t.fr≠[]) (h:Adj sl th x) (o:Wn4 L sl th x.f):Nx sl th x (Wl0 x):=by
 have o1:=ZG0 o
 have r:=h.r hne
 unfold Wl0
 rw [if_neg hne]
 dsimp only
 split
 ·unfold Ws2
  rw [if_neg hne]
  split
  ·exact Zl2 hs hne h (by assumption)
  ·exact WH6 hsl hth hs ha hne h (by omega)
 split
 ·rename_i c c9
  refine ⟨r.pop,.inr (AdjR.ltPop r hne c9 r hne ?_)⟩
  have c2:fA sl th x.f.fn 90=false:=by
   have:x.f.fn=31∨x.f.fn=32∨x.f.fn=33∨x.f.fn=34:=by omega
   rcases this with e | e | e | e <;> rw [e] <;> simp [fA]
  rw [c2]
  have:=(Yh1 x.f.fn 90).1
  simp
  omega
 split
 ·exact Y75 hs ha hne h (by assumption) (by omega)
 split
 ·exact Y69 hs ha hne h (by assumption) (by omega)
 split
 ·exact Y70 hs ha hne h (by assumption) (by omega)
 split
 ·exact Y72 hs ha hne h (by assumption) (by omega)
 ·have:x.f.fn=32∨x.f.fn=33:=by omega
  rcases this with e | e
  ·exact Yu9 hs ha hne h e (by omega)
  ·exact Yv2 hs ha hne h e (by omega)
end
def LnQ (c:Mod.Cf) (f:Frm):Prop:=Wn4 c.level (Wc7 c).slots c.threads f
def LnW (x:Run):Prop:=Ok x∧LOk x∧(x.f.fn=31→ZJ9 x)
theorem Yv4:Y36 Wl0 LnQ LnW 31 where
 st:=Ys2
 all c x hc hp hne h:=by
  obtain ⟨a1,a2,a3,a4,a5,a6⟩:=Wz6 hc
  exact Yi9 h (by rw [hp];rfl) ⟨a5,a6⟩ (by rw [hp]) (by rw [hp];rfl) (by omega) (by omega) hne
 nx c x hc hp hne h a:=by
  obtain ⟨a1,a2,a3,a4,a5,a6⟩:=Wz6 hc
  exact Yv3 (by rw [hp]) (by rw [hp];rfl) a1 a2 hne a (h.top hne)
 w c x B hc h hB hne hid:=by
  obtain ⟨a1,a2,a3,a4,a5,a6⟩:=Wz6 hc
  have o:Wn4 c.level (Wc7 c).slots c.threads x.f:=h.q.top hne
  have hpr:=h.pr
  have hsu:=h.su
  have hwo:=h.wo
  refine ⟨h.ok hB hid ?_,λe hp=>?_,λe=>?_⟩
  ·rcases o with o | ⟨_,o⟩
   ·exact Zw8 o ⟨by omega,a4⟩ a3
   ·omega
  ·obtain ⟨len,o1,o2,o3⟩:=ZF9 o e
   have g:=o3 hp
   exact ⟨⟨g.1,by omega⟩,by omega,by omega,by omega⟩
  ·obtain ⟨len,o1,o2,o3⟩:=ZF8 o e
   refine ⟨⟨by omega,by omega,by omega,by omega⟩,λe2 e3=>?_⟩
   have g1:=o2 (by omega) (by omega)
   have g2:=o3 (by omega) (by omega)
   omega
 new c op l hc ho:=by
  obtain ⟨a1,a2,a3,a4,a5,a6⟩:=Wz6 hc
  exact Wr8 (by omega) (by omega) (by omega)
theorem YO3:DoC 65 Wl0 LnW:=λh M T tv x R K H hw k=>W71 H hw.1 hw.2.1 hw.2.2 k
end
section
open Mod
theorem YB9 (c:Cl):WN1 (clL c)=true:=by
 have:=Y06 c.op
 unfold clL
 split
 ·rfl
 ·rename_i h
  unfold WN1
  simp only [Bool.or_eq_true,Bool.and_eq_true,beq_iff_eq,and_true]
  omega
theorem WX9 (th n:Nat) (calls:List (List Cl)):(Wg0 th n calls).flatten.length≤n*th:=by
 induction th with
 | zero=>simp [Wg0]
 | succ j ih=>
  rw [WX2,List.flatten_append,List.length_append,List.flatten_singleton,W79,Nat.mul_succ]
  omega
theorem Yv5 {c:Mod.Cf} (hc:okC c=true) {calls:List (List Cl)} {Wb6 draws:List Int} {n m:Nat} (hn:n≤8) (hm:m≤60000):YB4 c (Wg0 c.threads.toNat n calls) (Wk1 c.threads m Wb6) (draws.take 4096)=true:=by
 have B:=Wv3 hc
 have hth:1≤c.threads∧c.threads≤6:=B.th
 have hf:=WX9 c.threads.toNat n calls
 have hnt:n*c.threads.toNat≤8*6:=Nat.mul_le_mul hn (by omega)
 unfold YB4
 rw [hc,Ws9]
 simp only [Bool.and_eq_true,beq_iff_eq,decide_eq_true_eq,List.all_eq_true]
 refine ⟨trivial,by omega,by omega,?_,?_,?_,?_⟩
 ·unfold Wk1;rw [List.length_map,List.length_take];omega
 ·rw [List.length_take];omega
 ·intro l hl x hx
  unfold Wg0 at hl
  obtain ⟨i,_,rfl⟩:=List.mem_map.1 hl
  unfold WP4 at hx
  obtain ⟨y,_,rfl⟩:=List.mem_map.1 hx
  exact YB9 y
 ·intro k hk
  unfold Wk1 at hk
  obtain ⟨k0,_,rfl⟩:=List.mem_map.1 hk
  exact Yg3 hth k0
theorem Zl4 {th:Int} {n m:Nat} {calls:List (List Cl)} {Wb6 draws:List Int} (hn:n≤1000) (R:Zu9 calls Wb6 draws):Zu9 (Wg0 th.toNat n calls) (Wk1 th m Wb6) (draws.take 4096):=
 ⟨λl hl x hx=>((WW4 R hn l hl).2 x hx).2,λx hx=>R.dr x (List.mem_of_mem_take hx)⟩
section
variable {K:Value→Wa1→Prop} {h:Wa1} {R:Hp} {calls:List (List Cl)} {Wb6 draws:List Int}
end
end
end Go.Proofs.YtahpbclnkofhfaaGreat
section
namespace Go.Proofs.YtahpbclnkofhfaaGreat.Mod
def Ans (fn:Int):Prop:=11≤fn∧fn≤13∨21≤fn∧fn≤23∨31≤fn∧fn≤33
def Fit (fn i j k:Int):Prop:=(fn % 10=1→(i=0∨i=1)∧j=0∧k=0)∧(fn % 10≠1→i=2∨i=3∧j=0∧k=0)
inductive WC9 (p:Pl):Int→Prop
 | node (n f:Int):WC9 p (p.node n f)
 | link (n:Int):WC9 p (p.link n)
 | at (n:Int):WC9 p (p.at n)
 | lit {a:Int} (h:0≤a∧a < 8):WC9 p a
inductive On (x:Run):Bool→Bool→Run→Prop
 | refl:On x false false x
 | load {y:Run} {a:Int} (h:On x false false y):On x true false (y.load a).2
 | store {y:Run} {a v:Int} (h:On x false false y) (ha:WC9 x.m.p a):On x true false (y.store a v)
 | own {y:Run} {i v:Int} (h:On x false false y):On x true false (y.store (x.m.p.haz x.id i) v)
 | cas {y:Run} {a o v:Int} (h:On x false false y) (ha:WC9 x.m.p a):On x true false (y.cas a o v).2
 | add {y:Run} {a v:Int} (h:On x false false y) (ha:WC9 x.m.p a):On x true false (y.add a v).2
 | dcas {y:Run} {a o v b p q:Int} (h:On x false false y) (ha:WC9 x.m.p a) (hb:WC9 x.m.p b):On x true false { y with m:=(y.m.dcas a o v b p q).2 }
 | dcss {y:Run} {a o v b p:Int} (h:On x false false y) (ha:WC9 x.m.p a) (hb:WC9 x.m.p b):On x true false { y with m:=(y.m.dcss a o v b p).2 }
 | next {b:Bool} {y:Run} {k:Int} (h:On x b false y):On x b false { y with m:=(y.m.next k).2 }
 | lvl {b:Bool} {y:Run} {k:Int} (h:On x b false y):On x b false { y with m:=(y.m.lvl k).2 }
 | gh {b q:Bool} {y:Run} {f:Gh→Gh} (h:On x b q y):On x b q (y.gh f)
 | s {b:Bool} {y:Run} {i:Nat} {v:Int} (h:On x b false y):On x b false (y.s i v)
 | pc {b:Bool} {y:Run} {i:Int} (h:On x b false y) (hi:Ans x.f.fn→i≠90):On x b false (y.pc i)
 | call {b:Bool} {y:Run} {i j:Int} {r:List Int} (h:On x b false y) (hi:Ans x.f.fn→i≠90) (hj:¬ Ans j):On x b true (y.call i j r)
 | fin {b:Bool} {y:Run} {i j k:Int} (h:On x b false y) (hi:Ans x.f.fn→Fit x.f.fn i j k):On x b true (y.fin i j k)
 | pop {b:Bool} {y:Run} {r:List Int} (h:On x b false y) (hn:¬ Ans x.f.fn):On x b true (y.pop r)
 | push {b q:Bool} {y:Run} {j:Int} {r:List Int} (h:On x b q y) (hj:¬ Ans j):On x b true (y.push j r)
 | fo {b:Bool} {y:Run} {l:List Int} (h:On x b false y):On x b false (y.fo l)
 | re {b:Bool} {y:Run} {l:List Int} (h:On x b false y):On x b false (y.re l)
 | setPl {b:Bool} {y:Run} {p s w:List Int} (h:On x b false y):On x b false (y.setPl p s w)
section
variable {x y:Run} {b:Bool}
theorem On.swing {a w p:Int} {c:Bool} (h:On x false false y) (ha:WC9 x.m.p (y.at a)):On x true false (y.swing a w p c).2:=On.cas h ha
theorem On.swingA {a w p:Int} (h:On x false false y) (ha:WC9 x.m.p a):On x true false (y.swingA a w p).2:=On.cas h ha
theorem On.swingM {a w p:Int} {c:Bool} (h:On x false false y) (ha:WC9 x.m.p a):On x true false (y.swingM a w p c).2:=On.cas h ha
theorem On.drop1 {a:Int} (h:On x false false y) (ha:WC9 x.m.p (y.na a 2)):On x true false (y.drop1 a).2:=On.add h ha
end
structure Ob (x y:Run):Prop where
 a:∃b q,On x b q y
theorem Ob.of {x y:Run} {b q:Bool} (h:On x b q y):Ob x y:=⟨b,q,h⟩
theorem ZM6 {P:Prop} (h:P:=by ((with_reducible repeat' (first | assumption | exact On.refl | apply On.load | apply On.cas | apply On.add | apply On.swing | apply On.swingA | apply On.swingM | apply On.drop1 | apply On.own | apply On.next | apply On.lvl | apply On.dcas | apply On.dcss | apply On.gh | apply On.call | apply On.fin | apply On.s | apply On.pc | apply On.push | apply On.pop | apply On.fo | apply On.re | apply On.setPl | apply On.store));all_goals (first | assumption | exact WC9.node _ _ | exact WC9.at _ | exact WC9.link _ | exact WC9.lit (by decide) | (intro hx;first | exact absurd hx nA | decide | omega | (unfold Fit;omega)) | (unfold Ans;omega)))):P:=h
theorem Wo9 {P:Prop} (h:P:=by (apply Ob.of;((with_reducible repeat' (first | assumption | exact On.refl | apply On.load | apply On.cas | apply On.add | apply On.swing | apply On.swingA | apply On.swingM | apply On.drop1 | apply On.own | apply On.next | apply On.lvl | apply On.dcas | apply On.dcss | apply On.gh | apply On.call | apply On.fin | apply On.s | apply On.pc | apply On.push | apply On.pop | apply On.fo | apply On.re | apply On.setPl | apply On.store));all_goals (first | assumption | exact WC9.node _ _ | exact WC9.at _ | exact WC9.link _ | exact WC9.lit (by decide) | (intro hx;first | exact absurd hx nA | decide | omega | (unfold Fit;omega)) | (unfold Ans;omega))))):P:=h
theorem Zl5 {x:Run} (nA:¬ Ans x.f.fn):Ob x (alloc x):=by
 unfold alloc;dsimp only
 repeat' split
 all_goals exact Wo9
theorem YO4 {x:Run} (nA:¬ Ans x.f.fn):Ob x (Wt3 x):=by
 unfold Wt3;dsimp only
 repeat' split
 all_goals exact Wo9
theorem YO5 {x:Run} (nA:¬ Ans x.f.fn):Ob x (Wt4 x):=by
 unfold Wt4
 try dsimp only
 repeat' split
 all_goals first | with_reducible exact Zl5 nA | with_reducible exact YO4 nA | exact Wo9
theorem YO6 {x:Run} (nA:¬ Ans x.f.fn):Ob x (Wt5 x):=by
 unfold Wt5;dsimp only
 repeat' split
 all_goals exact Wo9
theorem Zx6 {x:Run} (nA:¬ Ans x.f.fn):Ob x (YU4 x):=by
 unfold YU4;dsimp only
 repeat' split
 all_goals exact Wo9
theorem Y78 {x:Run} (nA:¬ Ans x.f.fn):Ob x (WA6 x):=by
 unfold WA6;dsimp only
 repeat' split
 all_goals exact Wo9
theorem Zl6 {x y:Run} {b:Bool} {all:Int} (nA:¬ Ans x.f.fn) (h:On x b false y):On x b false (WE6 y all):=by
 unfold WE6
 split
 ·exact On.pc (On.fo (On.re h)) λhx=>absurd hx nA
 ·exact h
theorem Zl7 {x y:Run} {b:Bool} (nA:¬ Ans x.f.fn) (h:On x b false y):On x b true (W50 y):=by
 unfold W50
 split
 ·exact On.pop h nA
 ·exact On.push (On.fo h) (by unfold Ans;omega)
theorem Zx7 {x:Run} (nA:¬ Ans x.f.fn):Ob x (scan x):=by
 have h0:On x false false (if x.f.pc=0 then x.fo [] else x):=by
  split
  ·exact On.fo On.refl
  ·exact On.refl
 unfold scan
 dsimp only
 generalize (if x.f.pc=0 then x.fo [] else x)=y at *
 split
 ·exact Ob.of (On.pc (On.fo (On.load h0)) λhx=>absurd hx nA)
 ·exact Ob.of (Zl7 nA (Zl6 nA h0))
theorem WH9 {x:Run} (nA:¬ Ans x.f.fn):Ob x (Wk9 x):=by
 unfold Wk9
 try dsimp only
 repeat' split
 all_goals first | with_reducible exact YO6 nA | with_reducible exact Zx6 nA | with_reducible exact Y78 nA | with_reducible exact Zx7 nA | with_reducible exact YO5 nA | exact Wo9
theorem Zl8 {x:Run} (nA:¬ Ans x.f.fn):Ob x (WS4 x):=by
 unfold WS4;dsimp only
 repeat' split
 all_goals exact Wo9
theorem Zl9 {x:Run} (e:x.f.fn=11):Ob x (WS6 x):=by
 unfold WS6;dsimp only
 repeat' split
 all_goals exact Wo9
theorem Yv6 {x:Run} (e:x.f.fn=11):Ob x (Wo3 x):=by
 unfold Wo3 WS5;dsimp only
 repeat' split
 all_goals exact Wo9
theorem Zm0 {x:Run} (e:x.f.fn=11):Ob x (WS7 x):=by
 unfold WS7 WS5;dsimp only
 repeat' split
 all_goals exact Wo9
theorem Zx8 {x:Run} (e:x.f.fn=11):Ob x (YU6 x):=by
 unfold YU6 W51;dsimp only
 repeat' split
 all_goals exact Wo9
theorem Zm1 {x:Run} (e:x.f.fn=11):Ob x (WS8 x):=by
 unfold WS8
 try dsimp only
 repeat' split
 all_goals first | with_reducible exact Zl9 e | with_reducible exact Yv6 e | with_reducible exact Zm0 e | with_reducible exact Zx8 e | exact Wo9
theorem Zm2 {x:Run} (e:x.f.fn=12∨x.f.fn=13):Ob x (WM3 x):=by
 unfold WM3;dsimp only
 repeat' split
 all_goals exact Wo9
theorem Zm3 {x:Run} (e:x.f.fn=12∨x.f.fn=13):Ob x (WM4 x):=by
 unfold WM4
 try dsimp only
 repeat' split
 all_goals first | with_reducible exact Zm2 e | exact Wo9
theorem YC0 {x:Run} (nA:¬ Ans x.f.fn):Ob x (WP0 x):=by
 unfold WP0;dsimp only
 repeat' split
 all_goals exact Wo9
theorem Zm4 {x:Run} (nA:¬ Ans x.f.fn):Ob x (WS9 x):=by
 unfold WS9
 try dsimp only
 repeat' split
 all_goals first | with_reducible exact YC0 nA | exact Wo9
theorem Y79 {x:Run} {a:Nat} {i j:Int} (nA:¬ Ans x.f.fn):Ob x (Wr0 x a i j):=by
 unfold Wr0;dsimp only
 repeat' split
 all_goals exact Wo9
theorem Zm5 {x:Run} {a:Nat} {j:Int} (nA:¬ Ans x.f.fn):Ob x (WP1 x a j):=by
 unfold WP1;dsimp only
 repeat' split
 all_goals exact Wo9
theorem Zm6 {x:Run} (nA:¬ Ans x.f.fn):Ob x (WT0 x):=by
 unfold WT0;dsimp only
 repeat' split
 all_goals first | with_reducible exact Zm5 nA | with_reducible exact YC0 nA | with_reducible exact Zm4 nA | with_reducible exact Y79 nA | (rename_i c;unfold Wr0;dsimp only;rw [if_neg c];exact Wo9) | exact Wo9
def Bit (x y:Run):Prop:=Ans x.f.fn∧x.f.pc=90∧y=x.pop [x.f.g 7,x.f.g 8,x.f.g 9]∨(Ans x.f.fn→x.f.pc≠90)∧Ob x y
theorem Yv7 {x:Run} (hq:x.f.fn≤6∨10≤x.f.fn∧x.f.fn≤14) (hne:x.t.fr≠[]):Bit x (Wp5 x):=by
 unfold Wp5
 rw [if_neg hne]
 dsimp only
 split
 ·rename_i c;exact .inl ⟨.inl c.2,c.1,rfl⟩
 rename_i c
 refine .inr ⟨λh e=>c ⟨e,by unfold Ans at h;omega⟩,?_⟩
 repeat' split
 ·exact Zl8 (by unfold Ans;omega)
 ·exact Zm1 (by assumption)
 ·exact Zm3 (by assumption)
 ·exact Zm6 (by unfold Ans;omega)
 ·exact WH9 (by unfold Ans;omega)
theorem W30 {x y:Run} {b:Bool} (nA:¬ Ans x.f.fn) (h:On x b false y):Ob x (Wo4 y):=by
 unfold Wo4;dsimp only
 split
 all_goals exact Wo9
theorem W83 {x y:Run} {b:Bool} {w:Int} (nA:¬ Ans x.f.fn) (h:On x b false y):Ob x (WF9 y w):=by
 unfold WF9;dsimp only
 have h1:On x b false (y.s 3 w):=On.s h
 repeat' split
 ·exact Wo9
 ·exact W30 nA h1
 ·exact Wo9
theorem Zm7 {x:Run} (nA:¬ Ans x.f.fn):Ob x (WT2 x):=by
 unfold WT2
 try dsimp only
 repeat' split
 all_goals first | with_reducible exact W83 nA (On.load On.refl) | with_reducible exact W30 nA (On.load On.refl) | exact W83 nA (On.cas On.refl (WC9.node _ _)) | exact Wo9
theorem Zm8 {x:Run} (nA:¬ Ans x.f.fn):Ob x (WT3 x):=by
 unfold WT3
 try dsimp only
 repeat' split
 all_goals first | with_reducible exact Zm7 nA | with_reducible exact W83 nA (On.load On.refl) | exact Wo9
theorem Y80 {x:Run} (nA:¬ Ans x.f.fn):Ob x (WA7 x):=by
 unfold WA7
 try dsimp only
 repeat' split
 all_goals first | with_reducible exact Zm8 nA | with_reducible exact WH9 nA | exact Wo9
theorem Y81 {x:Run} (e:x.f.fn=21):Ob x (WA8 x):=by
 unfold WA8;dsimp only
 repeat' split
 all_goals exact Wo9
theorem Zm9 {x:Run} (e:x.f.fn=21) (hp:x.f.pc≤7):Ob x (WZ0 x):=by
 unfold WZ0;dsimp only
 repeat' split
 all_goals exact Wo9
theorem YO7 {x:Run} (e:x.f.fn=21):Ob x (Wt6 x):=by
 unfold Wt6;dsimp only
 repeat' split
 all_goals exact Wo9
theorem YO8 {x:Run} (e:x.f.fn=21):Ob x (Wt7 x):=by
 unfold Wt7;dsimp only
 repeat' split
 all_goals exact Wo9
theorem YO9 {x:Run} (e:x.f.fn=21):Ob x (Wt8 x):=by
 unfold Wt8;dsimp only
 repeat' split
 all_goals exact Wo9
theorem Y82 {x:Run} (e:x.f.fn=21):Ob x (WA9 x):=by
 unfold WA9
 try dsimp only
 repeat' split
 all_goals first | with_reducible exact Y81 e | with_reducible exact Zm9 e (by assumption) | with_reducible exact YO7 e | with_reducible exact YO8 e | with_reducible exact YO9 e | exact Wo9
theorem Y83 {x:Run} (e:x.f.fn=22∨x.f.fn=23):Ob x (Wu7 x):=by
 unfold Wu7 Wu6;dsimp only
 repeat' split
 all_goals exact Wo9
theorem Y84 {x:Run} (e:x.f.fn=22∨x.f.fn=23):Ob x (Wu8 x):=by
 unfold Wu8;dsimp only
 repeat' split
 all_goals exact Wo9
theorem Y85 {x:Run} (e:x.f.fn=22∨x.f.fn=23):Ob x (Wu9 x):=by
 unfold Wu9;dsimp only
 repeat' split
 all_goals exact Wo9
theorem YP0 {x:Run} (e:x.f.fn=22∨x.f.fn=23):Ob x (Wo5 x):=by
 unfold Wo5 Wu6;dsimp only
 repeat' split
 all_goals exact Wo9
theorem Y86 {x:Run} (e:x.f.fn=22∨x.f.fn=23):Ob x (WB0 x):=by
 unfold WB0
 try dsimp only
 repeat' split
 all_goals first | with_reducible exact Y83 e | with_reducible exact Y84 e | with_reducible exact Y85 e | with_reducible exact YP0 e | exact Wo9
theorem W84 {x:Run} (hq:x.f.fn≤6∨20≤x.f.fn∧x.f.fn≤23) (hne:x.t.fr≠[]):Bit x (Wh7 x):=by
 unfold Wh7
 rw [if_neg hne]
 dsimp only
 split
 ·have nA:¬ Ans x.f.fn:=by unfold Ans;omega
  exact .inr ⟨λh=>absurd h nA,Y80 nA⟩
 split
 ·exact .inl ⟨by unfold Ans;omega,by assumption,rfl⟩
 refine .inr ⟨λh=>by assumption,?_⟩
 split
 ·exact Y82 (by assumption)
 ·exact Y86 (by omega)
theorem YP1 {x y:Run} {b:Bool} (nA:¬ Ans x.f.fn) (h:On x b false y):Ob x (Wm3 y):=by
 unfold Wm3;dsimp only
 split
 all_goals exact Wo9
theorem YC1 {x y:Run} {b:Bool} (nA:¬ Ans x.f.fn) (h:On x b false y):On x b false (WE7 y):=by
 unfold WE7
 exact On.pc (On.s h) λhx=>absurd hx nA
theorem Y87 {x:Run} (nA:¬ Ans x.f.fn):Ob x (WB1 x):=by
 have h1:On x true false (x.load 1).2:=On.load On.refl
 unfold WB1;dsimp only
 repeat' split
 all_goals first | (with_reducible apply Ob.of;with_reducible apply YC1 nA;with_reducible apply On.s;with_reducible exact h1) | exact Wo9
theorem Zn0 {x:Run} (nA:¬ Ans x.f.fn):Ob x (WT4 x):=by
 unfold WT4;dsimp only
 repeat' split
 all_goals first | with_reducible exact Y87 nA | (with_reducible apply YP1 nA (b:=true);exact ZM6) | (with_reducible apply Ob.of;with_reducible apply YC1 nA (b:=true);exact ZM6) | exact Wo9
theorem Yv8 {x:Run} (nA:¬ Ans x.f.fn):Ob x (Ws2 x):=by
 unfold Ws2
 try dsimp only
 repeat' split
 all_goals first | with_reducible exact Zn0 nA | with_reducible exact WH9 nA | exact Wo9
theorem Y88 {x:Run} (nA:¬ Ans x.f.fn):Ob x (WB2 x):=by
 unfold WB2;dsimp only
 repeat' split
 all_goals exact Wo9
theorem Y89 {x:Run} (nA:¬ Ans x.f.fn):Ob x (WB3 x):=by
 unfold WB3;dsimp only
 repeat' split
 all_goals exact Wo9
theorem Y90 {x:Run} (nA:¬ Ans x.f.fn):Ob x (WB4 x):=by
 unfold WB4 Wv0;dsimp only
 repeat' split
 all_goals exact Wo9
theorem Y91 {x:Run} (nA:¬ Ans x.f.fn):Ob x (WB5 x):=by
 unfold WB5 Wv0 Run.guard
 try dsimp only
 repeat' split
 all_goals first | with_reducible exact Y90 nA | exact Wo9
theorem Y92 {x:Run} (e:x.f.fn=31):Ob x (WB6 x):=by
 unfold WB6;dsimp only
 repeat' split
 all_goals exact Wo9
theorem Zn1 {x:Run} (e:x.f.fn=31) (hp:x.f.pc≤6):Ob x (WZ1 x):=by
 unfold WZ1;dsimp only
 repeat' split
 all_goals exact Wo9
theorem YP2 {x:Run} (e:x.f.fn=31):Ob x (Wt9 x):=by
 unfold Wt9;dsimp only
 repeat' split
 all_goals exact Wo9
theorem YP3 {x:Run} (e:x.f.fn=31):Ob x (Wu0 x):=by
 unfold Wu0;dsimp only
 repeat' split
 all_goals exact Wo9
theorem Y93 {x:Run} (e:x.f.fn=31):Ob x (WB7 x):=by
 unfold WB7;dsimp only
 repeat' split
 all_goals exact Wo9
theorem Y94 {x:Run} (e:x.f.fn=31):Ob x (WB8 x):=by
 unfold WB8
 try dsimp only
 repeat' split
 all_goals first | with_reducible exact Y92 e | with_reducible exact Zn1 e (by assumption) | with_reducible exact YP2 e | with_reducible exact YP3 e | with_reducible exact Y93 e | exact Wo9
theorem Y95 {x:Run} (e:x.f.fn=32∨x.f.fn=33):Ob x (Ww5 x):=by
 unfold Ww5 Run.guard;dsimp only
 repeat' split
 all_goals exact Wo9
theorem Zx9 {x:Run} (e:x.f.fn=32∨x.f.fn=33):Ob x (YF9 x):=by
 unfold YF9;dsimp only
 repeat' split
 all_goals exact Wo9
theorem Y96 {x:Run} (e:x.f.fn=32∨x.f.fn=33):Ob x (Ww6 x):=by
 unfold Ww6;dsimp only
 repeat' split
 all_goals exact Wo9
theorem Zn2 {x:Run} (e:x.f.fn=32∨x.f.fn=33):Ob x (WM7 x):=by
 unfold WM7;dsimp only
 repeat' split
 all_goals exact Wo9
theorem Y97 {x:Run} (e:x.f.fn=32∨x.f.fn=33):Ob x (Ww7 x):=by
 unfold Ww7
 try dsimp only
 repeat' split
 all_goals first | with_reducible exact Y95 e | with_reducible exact Zx9 e | with_reducible exact Y96 e | with_reducible exact Zn2 e | exact Wo9
theorem Yj2 {x:Run} (hq:x.f.fn≤6∨30≤x.f.fn∧x.f.fn≤36) (hne:x.t.fr≠[]):Bit x (Wl0 x):=by
 unfold Wl0
 rw [if_neg hne]
 dsimp only
 split
 ·have nA:¬ Ans x.f.fn:=by unfold Ans;omega
  exact .inr ⟨λh=>absurd h nA,Yv8 nA⟩
 split
 ·by_cases c:x.f.fn≤33
  ·exact .inl ⟨by unfold Ans;omega,by assumption,rfl⟩
  ·have nA:¬ Ans x.f.fn:=by unfold Ans;omega
   exact .inr ⟨λh=>absurd h nA,Ob.of (On.pop On.refl nA)⟩
 refine .inr ⟨λh=>by assumption,?_⟩
 repeat' split
 ·exact Y94 (by assumption)
 ·exact Y88 (by unfold Ans;omega)
 ·exact Y89 (by unfold Ans;omega)
 ·exact Y91 (by unfold Ans;omega)
 ·exact Y97 (by omega)
end Go.Proofs.YtahpbclnkofhfaaGreat.Mod
end
namespace Go.Proofs.YtahpbclnkofhfaaGreat
section
open Mod
structure ZL0 (p:Pl) (id:Int) (n:Nat) (e:Acc):Prop where
 a:0≤e.a∧e.a < n
 k:e.kind=0∧e.b = -1∨(e.kind=1∧e.b = -1∧(WC9 p e.a∨∃i,e.a=p.haz id i)∨((e.kind=2∨e.kind=3)∧e.b = -1∧WC9 p e.a∨(e.kind=4∨e.kind=5)∧WC9 p e.a∧WC9 p e.b∧0≤e.b∧e.b < n))
structure One (p:Pl) (id:Int) (m n:Mm):Prop where
 wt:n.wt=m.wt
 w:n.w.length=m.w.length
 st:n.st=m.st∧n.lg=m.lg∨n.st=m.st+1∧∃e,ZL0 p id m.w.length e∧n.lg=if m.wt then m.lg ++ [e] else m.lg
theorem One.refl (p:Pl) (id:Int) (m:Mm):One p id m m:=⟨rfl,rfl,.inl ⟨rfl,rfl⟩⟩
theorem WN3 {m:Mm} {a:Int} (h:m.ok a=true):0≤a∧a < m.w.length:=by
 unfold Mm.ok at h
 simpa using h
theorem Wz8 (m:Mac) (a:Int):(m.touch a).acted=true:=by
 unfold Mac.touch
 split <;> rfl
theorem WF5 (m:Mac) (a:Int):(m.touch a).mm=m.mm:=(FixM.touch m a).2.1
section
variable {p:Pl} {id:Int} {m:Mac} {a b o v c q:Int}
theorem Zn3:(m.load a).2.acted=true∧One p id m.mm (m.load a).2.mm:=by
 unfold Mac.load
 dsimp only
 rw [WF5]
 split
 ·rename_i h
  exact ⟨Wz8 m a,rfl,rfl,.inr ⟨rfl,_,⟨WN3 h,.inl ⟨rfl,rfl⟩⟩,rfl⟩⟩
 ·exact ⟨Wz8 m a,by show One p id m.mm (m.touch a).mm;rw [WF5];exact One.refl _ _ _⟩
theorem Yj3 (ha:WC9 p a∨∃i,a=p.haz id i):(m.store a v).acted=true∧One p id m.mm (m.store a v).mm:=by
 unfold Mac.store
 dsimp only
 rw [WF5]
 split
 ·rename_i h
  exact ⟨Wz8 m a,rfl,List.length_set,.inr ⟨rfl,_,⟨WN3 h,.inr (.inl ⟨rfl,rfl,ha⟩)⟩,rfl⟩⟩
 ·exact ⟨Wz8 m a,by show One p id m.mm (m.touch a).mm;rw [WF5];exact One.refl _ _ _⟩
theorem Zy0 (ha:WC9 p a):(m.cas a o v).2.acted=true∧One p id m.mm (m.cas a o v).2.mm:=by
 unfold Mac.cas
 dsimp only
 rw [WF5]
 split
 ·rename_i h
  refine ⟨Wz8 m a,?_⟩
  show One p id m.mm (m.mm.cas a o v)
  unfold Mm.cas
  split
  ·exact ⟨rfl,List.length_set,.inr ⟨rfl,_,⟨WN3 h,.inr (.inr (.inl ⟨.inl rfl,rfl,ha⟩))⟩,rfl⟩⟩
  ·exact ⟨rfl,rfl,.inr ⟨rfl,_,⟨WN3 h,.inr (.inr (.inl ⟨.inl rfl,rfl,ha⟩))⟩,rfl⟩⟩
 ·exact ⟨Wz8 m a,by show One p id m.mm (m.touch a).mm;rw [WF5];exact One.refl _ _ _⟩
theorem Zy1 (ha:WC9 p a):(m.add a v).2.acted=true∧One p id m.mm (m.add a v).2.mm:=by
 unfold Mac.add
 dsimp only
 rw [WF5]
 split
 ·rename_i h
  exact ⟨Wz8 m a,rfl,List.length_set,.inr ⟨rfl,_,⟨WN3 h,.inr (.inr (.inl ⟨.inr rfl,rfl,ha⟩))⟩,rfl⟩⟩
 ·exact ⟨Wz8 m a,by show One p id m.mm (m.touch a).mm;rw [WF5];exact One.refl _ _ _⟩
theorem W85 (m:Mac) (a b:Int):((m.touch a).touch b).mm=m.mm:=by rw [WF5,WF5]
theorem Zn4 (ha:WC9 p a) (hb:WC9 p b):(m.dcas a o v b c q).2.acted=true∧One p id m.mm (m.dcas a o v b c q).2.mm:=by
 unfold Mac.dcas
 dsimp only
 rw [W85]
 split
 ·rename_i h
  refine ⟨Wz8 _ b,?_⟩
  show One p id m.mm (m.mm.dcas a o v b c q)
  unfold Mm.dcas
  split
  ·exact ⟨rfl,by show ((m.mm.w.set _ _).set _ _).length=_;rw [List.length_set,List.length_set],.inr ⟨rfl,_,⟨WN3 h.1,.inr (.inr (.inr ⟨.inl rfl,ha,hb,WN3 h.2.1⟩))⟩,rfl⟩⟩
  ·exact ⟨rfl,rfl,.inr ⟨rfl,_,⟨WN3 h.1,.inr (.inr (.inr ⟨.inl rfl,ha,hb,WN3 h.2.1⟩))⟩,rfl⟩⟩
 ·exact ⟨Wz8 _ b,by show One p id m.mm ((m.touch a).touch b).mm;rw [W85];exact One.refl _ _ _⟩
theorem Zn5 (ha:WC9 p a) (hb:WC9 p b):(m.dcss a o v b c).2.acted=true∧One p id m.mm (m.dcss a o v b c).2.mm:=by
 unfold Mac.dcss
 dsimp only
 rw [W85]
 split
 ·rename_i h
  refine ⟨Wz8 _ b,?_⟩
  show One p id m.mm (m.mm.dcss a o v b c)
  unfold Mm.dcss
  split
  ·exact ⟨rfl,List.length_set,.inr ⟨rfl,_,⟨WN3 h.1,.inr (.inr (.inr ⟨.inr rfl,ha,hb,WN3 h.2⟩))⟩,rfl⟩⟩
  ·exact ⟨rfl,rfl,.inr ⟨rfl,_,⟨WN3 h.1,.inr (.inr (.inr ⟨.inr rfl,ha,hb,WN3 h.2⟩))⟩,rfl⟩⟩
 ·exact ⟨Wz8 _ b,by show One p id m.mm ((m.touch a).touch b).mm;rw [W85];exact One.refl _ _ _⟩
end
theorem Zy2 (m:Mac) (k:Int):(m.next k).2.mm=m.mm∧(m.next k).2.acted=m.acted:=by
 unfold Mac.next
 split <;> exact ⟨rfl,rfl⟩
theorem ZG1 (m:Mac) (k:Int):(m.lvl k).2.mm=m.mm∧(m.lvl k).2.acted=m.acted:=by
 unfold Mac.lvl
 split <;> exact ⟨rfl,rfl⟩
structure Mo1 (x y:Run) (b:Bool):Prop where
 f:b=false→y.m.mm=x.m.mm∧y.m.acted=x.m.acted
 t:b=true→y.m.acted=true∧One x.m.p x.id x.m.mm y.m.mm
theorem Mo1.t1 {x y z:Run} (h:Mo1 x y false) (e:z.m.acted=true∧One x.m.p x.id y.m.mm z.m.mm):Mo1 x z true:=
 ⟨λe=>(by cases e),λ_=>⟨e.1,by rw [← (h.f rfl).1];exact e.2⟩⟩
theorem Mo1.same {x y z:Run} {b:Bool} (h:Mo1 x y b) (e:z.m.mm=y.m.mm∧z.m.acted=y.m.acted):Mo1 x z b:=
 ⟨λc=>⟨e.1.trans (h.f c).1,e.2.trans (h.f c).2⟩,λc=>⟨e.2.trans (h.t c).1,by rw [e.1];exact (h.t c).2⟩⟩
theorem Mod.On.mm {x y:Run} {b q:Bool} (h:On x b q y):Mo1 x y b:=by
 induction h with
 | refl=>exact ⟨λ_=>⟨rfl,rfl⟩,λe=>by cases e⟩
 | load _ ih=>exact ih.t1 Zn3
 | store _ ha ih=>exact ih.t1 (Yj3 (.inl ha))
 | own _ ih=>exact ih.t1 (Yj3 (.inr ⟨_,rfl⟩))
 | cas _ ha ih=>exact ih.t1 (Zy0 ha)
 | add _ ha ih=>exact ih.t1 (Zy1 ha)
 | dcas _ ha hb ih=>exact ih.t1 (Zn4 ha hb)
 | dcss _ ha hb ih=>exact ih.t1 (Zn5 ha hb)
 | next _ ih=>exact ih.same (Zy2 _ _)
 | lvl _ ih=>exact ih.same (ZG1 _ _)
 | gh _ ih=>exact ih.same ⟨rfl,rfl⟩
 | s _ ih=>exact ih.same ⟨rfl,rfl⟩
 | pc _ _ ih=>exact ih.same ⟨rfl,rfl⟩
 | call _ _ _ ih=>exact ih.same ⟨rfl,rfl⟩
 | fin _ _ ih=>exact ih.same ⟨rfl,rfl⟩
 | pop _ _ ih=>exact ih.same ⟨rfl,rfl⟩
 | push _ _ ih=>exact ih.same ⟨rfl,rfl⟩
 | fo _ ih=>exact ih.same ⟨rfl,rfl⟩
 | re _ ih=>exact ih.same ⟨rfl,rfl⟩
 | setPl _ ih=>exact ih.same ⟨rfl,rfl⟩
structure W88 (f:Frm):Prop where
 len:f.r.length=10
 a:Ans f.fn→f.pc=90→Fit f.fn (f.g 7) (f.g 8) (f.g 9)
def Bot (fn:Int) (l:List Frm):Prop:=∃f r,l=f :: r∧f.fn=fn
structure Frs (x y:Run) (q:Bool):Prop where
 a:∀f ∈ y.t.fr,W88 f
 b:∀fn,Ans fn→Bot fn x.t.fr→Bot fn y.t.fr
 c:q=false→y.t.fr≠[]∧y.t.fr.dropLast=x.t.fr.dropLast∧y.f.fn=x.f.fn∧(Ans x.f.fn→y.f.pc≠90)
theorem Zy3 {j:Int} {r:List Int} (hj:¬ Ans j):W88 ⟨j,0,pad 10 r⟩:=⟨Wy4 _ _,λh=>absurd h hj⟩
theorem Bot.app {fn:Int} {l k:List Frm} (h:Bot fn l):Bot fn (l ++ k):=by
 obtain ⟨f,r,e,ef⟩:=h
 exact ⟨f,r ++ k,by rw [e];rfl,ef⟩
theorem Bot.top {fn:Int} {y:Run} {f:Frm} (h:Bot fn y.t.fr) (hne:y.t.fr≠[]) (hf:f.fn=y.f.fn):Bot fn (y.setF f).t.fr:=by
 obtain ⟨g,r,e,eg⟩:=h
 have s:=W57 hne
 show Bot fn (y.t.fr.dropLast ++ [f])
 cases hd:y.t.fr.dropLast with
 | nil=>
  rw [hd,e] at s
  refine ⟨f,[],rfl,hf.trans ?_⟩
  have:g=y.t.top:=by cases s;rfl
  rw [← eg,this]
  rfl
 | cons g2 r2=>
  rw [hd,e] at s
  have:g=g2:=by cases s;rfl
  exact ⟨g2,r2 ++ [f],rfl,by rw [← this];exact eg⟩
theorem YC2 {y:Run} {f g:Frm} (h:∀f ∈ y.t.fr,W88 f) (hf:W88 f) (hg:g ∈ (y.setF f).t.fr):W88 g:=by
 have hg:g ∈ y.t.fr.dropLast ++ [f]:=hg
 rcases List.mem_append.1 hg with h1 | h1
 ·exact h g (List.dropLast_subset _ h1)
 ·rw [List.mem_singleton.1 h1];exact hf
theorem Zn6 {y:Run} {j:Int} {r:List Int} {g:Frm} (h:∀f ∈ y.t.fr,W88 f) (hj:¬ Ans j) (hg:g ∈ (y.push j r).t.fr):W88 g:=by
 have hg:g ∈ y.t.fr ++ [⟨j,0,pad 10 r⟩]:=hg
 rcases List.mem_append.1 hg with h1 | h1
 ·exact h g h1
 ·rw [List.mem_singleton.1 h1];exact Zy3 hj
theorem YC3 {t:Thr} (h:t.fr≠[]):t.top ∈ t.fr:=by
 have e:t.top=t.fr.getLast h:=by
  show t.fr.getLast?.getD dfF=_
  rw [List.getLast?_eq_some_getLast h]
  rfl
 rw [e]
 exact List.getLast_mem h
theorem Frs.same {x y z:Run} {q:Bool} (h:Frs x y q) (e:z.t.fr=y.t.fr):Frs x z q:=by
 have ef:z.f=y.f:=by show z.t.fr.getLast?.getD dfF=y.t.fr.getLast?.getD dfF;rw [e]
 exact ⟨by rw [e];exact h.a,by rw [e];exact h.b,by rw [e,ef];exact h.c⟩
theorem Frs.set {x y:Run} {f:Frm} (h:Frs x y false) (hf:W88 f) (e1:f.fn=y.f.fn) (e2:Ans x.f.fn→f.pc≠90):Frs x (y.setF f) false:=by
 obtain ⟨c1,c2,c3,c4⟩:=h.c rfl
 refine ⟨λg hg=>YC2 h.a hf hg,λfn ha hb=>(h.b fn ha hb).top c1 e1,λ_=>⟨Wr4 _ _,?_,?_,?_⟩⟩
 ·show (y.t.fr.dropLast ++ [f]).dropLast=_
  rw [List.dropLast_append_of_ne_nil (by simp)]
  simpa using c2
 ·rw [WU1,e1];exact c3
 ·rw [WU1];exact e2
theorem Frs.push {x y:Run} {q:Bool} {j:Int} {r:List Int} (ha:∀f ∈ y.t.fr,W88 f) (hb:∀fn,Ans fn→Bot fn x.t.fr→Bot fn y.t.fr) (hj:¬ Ans j):Frs x (y.push j r) true:=
 ⟨λg hg=>Zn6 ha hj hg,λfn a b=>(hb fn a b).app,λe=>by cases e⟩
theorem Frs.topFit {x y:Run} (h:Frs x y false):W88 y.f:=h.a _ (YC3 (h.c rfl).1)
theorem Mod.On.frs {x y:Run} {b q:Bool} (h:On x b q y) (hne:x.t.fr≠[]) (hA:∀f ∈ x.t.fr,W88 f) (hp:Ans x.f.fn→x.f.pc≠90):Frs x y q:=by
 induction h with
 | refl=>exact ⟨hA,λ_ _ h=>h,λ_=>⟨hne,rfl,rfl,hp⟩⟩
 | load _ ih=>exact ih.same rfl
 | store _ ha ih=>exact ih.same rfl
 | own _ ih=>exact ih.same rfl
 | cas _ ha ih=>exact ih.same rfl
 | add _ ha ih=>exact ih.same rfl
 | dcas _ ha hb ih=>exact ih.same rfl
 | dcss _ ha hb ih=>exact ih.same rfl
 | next _ ih=>exact ih.same rfl
 | lvl _ ih=>exact ih.same rfl
 | gh _ ih=>exact ih.same rfl
 | fo _ ih=>exact ih.same rfl
 | re _ ih=>exact ih.same rfl
 | setPl _ ih=>exact ih.same rfl
 | @s _ y i v _ ih=>
  have c4:=(ih.c rfl).2.2.2
  have c3:=(ih.c rfl).2.2.1
  refine ih.set (f:=y.f.s i v) ⟨by rw [Wi7];exact ih.topFit.len,λh1 h2=>?_⟩ rfl c4
  exact absurd h2 (c4 (by rw [← c3];exact h1))
 | @pc _ y i _ hi ih=>
  have c3:=(ih.c rfl).2.2.1
  refine ih.set (f:=y.f.at i) ⟨ih.topFit.len,λh1 h2=>?_⟩ rfl hi
  exact absurd h2 (hi (by rw [← c3];exact h1))
 | @call _ y i j r _ hi hj ih=>
  have c3:=(ih.c rfl).2.2.1
  have:=ih.set (f:=y.f.at i) ⟨ih.topFit.len,λh1 h2=>absurd h2 (hi (by rw [← c3];exact h1))⟩ rfl hi
  exact Frs.push (q:=true) this.a this.b hj
 | @fin _ y i j k _ hf ih=>
  obtain ⟨c1,c2,c3,c4⟩:=ih.c rfl
  have l0:=ih.topFit.len
  have e:y.fin i j k=(y.setF ((((y.f.s 7 i).s 8 j).s 9 k).at 90)).push 4 []:=by
   unfold Run.fin Run.call Run.pc
   rw [f_s,f_s,f_s]
   unfold Run.s Run.setF Thr.setTop
   simp
  rw [e]
  have l1:(y.f.s 7 i).r.length=10:=by rw [Wi7];exact l0
  have l2:((y.f.s 7 i).s 8 j).r.length=10:=by rw [Wi7];exact l1
  have g9:(((y.f.s 7 i).s 8 j).s 9 k).g 9=k:=g_s l2 (by decide) k
  have g8:(((y.f.s 7 i).s 8 j).s 9 k).g 8=j:=(Wa8 _ (by decide) k).trans (g_s l1 (by decide) j)
  have g7:(((y.f.s 7 i).s 8 j).s 9 k).g 7=i:=((Wa8 _ (by decide) k).trans (Wa8 _ (by decide) j)).trans (g_s l0 (by decide) i)
  refine Frs.push (q:=true) (λg hg=>YC2 ih.a ⟨by rw [Wh2,Wi7];exact l2,λh1 _=>?_⟩ hg) (λfn a b=>(ih.b fn a b).top c1 rfl) (by unfold Ans;omega)
  have h2:Ans x.f.fn:=by rw [← c3];exact h1
  show Fit y.f.fn ((((y.f.s 7 i).s 8 j).s 9 k).g 7) ((((y.f.s 7 i).s 8 j).s 9 k).g 8) ((((y.f.s 7 i).s 8 j).s 9 k).g 9)
  rw [g7,g8,g9,c3]
  exact hf h2
 | @pop _ y r _ hn ih=>
  obtain ⟨c1,c2,c3,c4⟩:=ih.c rfl
  have e:(y.pop r).t.fr=y.t.fr.dropLast:=by
   show (y.t.pop r).fr=_
   unfold Thr.pop
   rw [if_neg c1]
  refine ⟨λg hg=>ih.a g (List.dropLast_subset _ (by rw [← e];exact hg)),λfn a hb=>?_,λe=>by cases e⟩
  rw [e,c2]
  obtain ⟨f,l,e1,e2⟩:=hb
  cases l with
  | nil=>
   exfalso
   have:x.f=f:=by show x.t.fr.getLast?.getD dfF=f;rw [e1];rfl
   rw [this,e2] at hn
   exact hn a
  | cons g l=>exact ⟨f,(g :: l).dropLast,by rw [e1];rfl,e2⟩
 | push _ hj ih=>exact Frs.push (q:=true) ih.a ih.b hj
theorem ZO0 (a b c:Int):pad 3 [a,b,c] = [a,b,c]:=rfl
theorem Mod.Bit.frs {x y:Run} (h:Bit x y) (hne:x.t.fr≠[]) (hA:∀f ∈ x.t.fr,W88 f) :
  (∀f ∈ y.t.fr,W88 f)∧∀fn,Ans fn→Bot fn x.t.fr→Bot fn y.t.fr∨y.t.fr = []∧Fit fn (y.t.ret.getD 0 0) (y.t.ret.getD 1 0) (y.t.ret.getD 2 0):=by
 rcases h with ⟨h1,h2,rfl⟩ | ⟨h1,b,q,h2⟩
 ·have e:(x.pop [x.f.g 7,x.f.g 8,x.f.g 9]).t = { x.t with fr:=x.t.fr.dropLast,ret:=[x.f.g 7,x.f.g 8,x.f.g 9] }:=by
   show x.t.pop _=_
   unfold Thr.pop
   rw [if_neg hne,ZO0]
  rw [e]
  refine ⟨λf hf=>hA f (List.dropLast_subset _ hf),λfn ha hb=>?_⟩
  obtain ⟨f,l,e1,e2⟩:=hb
  cases l with
  | nil=>
   have e3:x.f=f:=by show x.t.fr.getLast?.getD dfF=f;rw [e1];rfl
   have:=(hA _ (YC3 hne)).a h1 h2
   rw [show x.t.top=f from e3,e2] at this
   refine .inr ⟨by show x.t.fr.dropLast = [];rw [e1];rfl,?_⟩
   show Fit fn (x.f.g 7) (x.f.g 8) (x.f.g 9)
   rw [e3]
   exact this
  | cons g l=>exact .inl ⟨f,(g :: l).dropLast,by show x.t.fr.dropLast=_;rw [e1];rfl,e2⟩
 ·have f:=h2.frs hne hA h1
  exact ⟨f.a,λfn a b=>.inl (f.b fn a b)⟩
theorem Mod.Bit.mm {x y:Run} (h:Bit x y):Mo1 x y false∨Mo1 x y true:=by
 rcases h with ⟨h1,h2,rfl⟩ | ⟨h1,b,q,h2⟩
 ·exact .inl ⟨λ_=>⟨rfl,rfl⟩,λe=>by cases e⟩
 ·cases b
  ·exact .inl h2.mm
  ·exact .inr h2.mm
def Yj4 (d:Run→Run) (Q:Mod.Cf→Frm→Prop):Prop:=∀c x,AllF (Q c) x→x.t.fr≠[]→Bit x (d x)
theorem Y98:Yj4 Wp5 MoQ:=λc x h hne=>by
 refine Yv7 ?_ hne
 have o:Wz7 _ _ x.f:=h.top hne
 unfold Wz7 Wx2 at o
 omega
theorem Yv9:Yj4 Wh7 SuQ:=λc x h hne=>by
 refine W84 ?_ hne
 have o:Wl4 _ _ _ x.f:=h.top hne
 unfold Wl4 Wx2 at o
 omega
theorem YP4:Yj4 Wl0 LnQ:=λc x h hne=>by
 refine Yj2 ?_ hne
 have o:Wn4 _ _ _ x.f:=h.top hne
 unfold Wn4 Wx2 at o
 omega
section
variable {d:Run→Run} {Q:Mod.Cf→Frm→Prop} {W:Run→Prop} {ins:Int} {c:Mod.Cf}
theorem WK7 {x z:Run} {n:Nat} (h:Mod.bits d n x=some z) (hs:x.m.acted=true∨x.t.fr = []):z=x:=by
 have e:(x.m.acted || x.t.fr.isEmpty)=true:=by
  rcases hs with h | h <;> simp [h]
 cases n <;> (unfold Mod.bits at h;rw [if_pos e] at h;cases h;rfl)
structure Stp (p:Pl) (x z:Run):Prop where
 one:One p x.id x.m.mm z.m.mm
 all:∀f ∈ z.t.fr,W88 f
 bot:∀fn,Ans fn→Bot fn x.t.fr→Bot fn z.t.fr∨z.t.fr = []∧Fit fn (z.t.ret.getD 0 0) (z.t.ret.getD 1 0) (z.t.ret.getD 2 0)
theorem YC4 (D:Y36 d Q W ins) (hB:Yj4 d Q) (hc:okC c=true):∀(n:Nat) (x z:Run),Mod.bits d n x=some z→x.m.acted=false→AllF (Q c) x→x.m.p=Wc7 c→(∀f ∈ x.t.fr,W88 f)→Stp (Wc7 c) x z
 | 0,x,z,h,ha,hQ,hp,hF=>by
  have hs:x.t.fr = []:=by
   unfold Mod.bits at h
   split at h
   ·rename_i c;rw [ha] at c;simpa using c
   ·cases h
  have:=WK7 h (.inr hs)
  subst this
  exact ⟨One.refl _ _ _,hF,λ_ _ h=>.inl h⟩
 | n+1,x,z,h,ha,hQ,hp,hF=>by
  by_cases hs:x.t.fr = []
  ·have:=WK7 h (.inr hs)
   subst this
   exact ⟨One.refl _ _ _,hF,λ_ _ h=>.inl h⟩
  have h:Mod.bits d n (d x)=some z:=by
   unfold Mod.bits at h
   rwa [if_neg (by rw [ha];simpa using hs)] at h
  have b:=hB c x hQ hs
  have f:=b.frs hs hF
  have fx:=(D.st x).fix
  have Q2:=D.all c x hc hp hs hQ
  by_cases hac:(d x).m.acted=true
  ·have:=WK7 h (.inl hac)
   subst this
   refine ⟨?_,f.1,f.2⟩
   rcases b.mm with m | m
   ·rw [(m.f rfl).2,ha] at hac;cases hac
   ·have:=(m.t rfl).2;rwa [hp] at this
  ·have hac:(d x).m.acted=false:=by simpa using hac
   have em:(d x).m.mm=x.m.mm:=by
    rcases b.mm with m | m
    ·exact (m.f rfl).1
    ·rw [(m.t rfl).1] at hac;cases hac
   have ih:=YC4 D hB hc n (d x) z h hac Q2 (fx.p.trans hp) f.1
   refine ⟨by have:=ih.one;rwa [fx.id,em] at this,ih.all,λfn a b1=>?_⟩
   rcases f.2 fn a b1 with b2 | ⟨b2,b3⟩
   ·exact ih.bot fn a b2
   ·have:=WK7 h (.inr b2)
    subst this
    exact .inr ⟨b2,b3⟩
theorem Zn7 (D:Y36 d Q W ins) (hB:Yj4 d Q) {i n k:Nat} {m:Mac} {t:Thr} {z:Run} (h:MacOk Q c i m) (ht:m.th[k]? = some t) (hF:∀f ∈ t.fr,W88 f) (hz:Mod.bits d n ⟨m.quiet,t,k⟩=some z):Stp (Wc7 c) ⟨m.quiet,t,k⟩ z:=
 YC4 D hB h.ok n _ z hz rfl ⟨(h.t t (List.mem_of_getElem? ht)).q⟩ h.p hF
end
end
section
set_option maxHeartbeats 1000000
open Mod
def backs (l:List EvM):Int:=((l.filter λe=>e.back).length:Nat)
theorem WY0 (l k:List EvM):backs (l ++ k)=backs l+backs k:=by unfold backs;rw [List.filter_append,List.length_append];omega
theorem YC5 (e:EvM) (h:e.back=false):backs [e]=0:=by unfold backs;rw [List.filter_cons,h];rfl
theorem Yj5 (e:EvM) (h:e.back=true):backs [e]=1:=by unfold backs;rw [List.filter_cons,h];rfl
structure RsFit (ins:Int) (s:RnSt):Prop where
 all:∀(k:Nat) t,s.m.th[k]? = some t→∀f ∈ t.fr,W88 f
 idle:∀(k:Nat) t,s.m.th[k]? = some t→t.fr = []→s.cu k=none
 busy:∀(k:Nat) t,s.m.th[k]? = some t→t.fr≠[]→∃c,s.cu k=some c∧WN1 c=true∧Bot (ins+c.op) t.fr
theorem Zy4 {ins:Int} {c:Cl} {t:Thr} (hins:ins=11∨ins=21∨ins=31) (hok:WN1 c=true) (h:Fit (ins+c.op) (t.ret.getD 0 0) (t.ret.getD 1 0) (t.ret.getD 2 0)):W47 (c3 c) (c3 (WH2 t))=true:=by
 have ho:=W78 hok
 have e:WA4 (c3 c)=true:=hok
 unfold W47
 rw [e]
 unfold Fit at h
 unfold WH2 c3 WJ0
 generalize t.ret.getD 0 0=a at *
 generalize t.ret.getD 1 0=b at *
 generalize t.ret.getD 2 0=d at *
 dsimp only
 by_cases c0:c.op=0
 ·have e0:(c.op == 0)=true:=by simpa using c0
  rw [e0]
  obtain ⟨h1,rfl,rfl⟩:=h.1 (by omega)
  rcases h1 with rfl | rfl <;> rfl
 ·have e0:(c.op == 0)=false:=by simpa using c0
  rw [e0]
  rcases h.2 (by omega) with rfl | ⟨rfl,rfl,rfl⟩
  ·rw [show s64 2=2 from by decide]
   simp
  ·rfl
section
variable {d:Run→Run} {Q:Mod.Cf→Frm→Prop} {W:Run→Prop} {ins:Int} {c:Mod.Cf} {calls:List (List Cl)} {s:RnSt} {Inv:Nat→Mac→Prop}
theorem ZG2 {l:List Int} {k:Nat} (hk:k < calls.length) (hq:(l.getD k 0).toNat < (calls.getD k []).length) (hn:∀k,k < calls.length→0≤l.getD k 0∧l.getD k 0≤(calls.getD k []).length):∀k',k' < calls.length→0≤(l.set k (l.getD k 0+1)).getD k' 0∧(l.set k (l.getD k 0+1)).getD k' 0≤(calls.getD k' []).length:=by
 intro k' hk'
 have:=hn k' hk'
 by_cases ek:k=k'
 ·subst ek
  rw [List.getD_eq_getElem?_getD (l:=l.set k _),List.getElem?_set]
  split
  ·split
   ·simp only [Option.getD_some];omega
   ·simp only [Option.getD_none];omega
  ·rename_i hh;exact absurd rfl hh
 ·rw [List.getD_eq_getElem?_getD,List.getElem?_set_ne ek,← List.getD_eq_getElem?_getD]
  exact this
structure ZL1 (ins:Int) (calls:List (List Cl)) (Inv:Nat→Mac→Prop) (j k:Nat) (s s1:RnSt):Prop where
 inv:Inv j s1.m
 th:s1.m.th.length=calls.length
 nx:∀k,k < calls.length→0≤s1.nx.getD k 0∧s1.nx.getD k 0≤(calls.getD k []).length
 ev:s1.ev.length≤2*j+1
 bk:backs s1.ev=backs s.ev
 gap:s1.gap=s.gap
 idle:s1.idle=s.idle
 most:s1.most=s.most
 mm:s1.m.mm=s.m.mm
 ne:(Wf0 s1.m k).fr≠[]
 fit:RsFit ins s1
theorem Zy5 (G:Y05 d W ins Inv) (C:WH5 calls) {j k:Nat} (hk:k < calls.length) (O:RsOk Inv calls j s) (F:RsFit ins s) :
  s.pick d ins calls k = { s with idle:=s.idle+1 }∨∃s1,s.pick d ins calls k=s1.go d k∧ZL1 ins calls Inv j k s s1:=by
 have hk2:k < s.m.th.length:=by rw [O.th];exact hk
 have ht:=Wn3 hk2
 unfold RnSt.pick
 rw [Int.toNat_natCast]
 by_cases he:(Wf0 s.m k).fr = []
 ·rw [if_pos he]
  unfold RnSt.begin
  by_cases hlt:(calls.getD k []).length≤(s.nx.getD k 0).toNat
  ·rw [if_pos hlt]
   exact .inl rfl
  rw [if_neg hlt]
  refine .inr ⟨_,rfl,?_⟩
  have hmem:calls.getD k [] ∈ calls:=by
   have:calls.getD k []=calls[k]:=by rw [List.getD_eq_getElem?_getD,List.getElem?_eq_getElem hk];rfl
   rw [this];exact List.getElem_mem hk
  have hqlt:(s.nx.getD k 0).toNat < (calls.getD k []).length:=by omega
  have hcq:(calls.getD k []).getD (s.nx.getD k 0).toNat cl0=(calls.getD k [])[(s.nx.getD k 0).toNat]:=by rw [List.getD_eq_getElem?_getD,List.getElem?_eq_getElem hqlt];rfl
  have hcB:=(C.cl _ hmem).2 _ (List.getElem_mem hqlt)
  rw [← hcq] at hcB
  generalize (calls.getD k []).getD (s.nx.getD k 0).toNat cl0=cq at *
  have hcu:=F.idle k _ ht he
  unfold RnSt.invoke
  dsimp only
  rw [hcu]
  have hnew:∀f ∈ ((Wf0 s.m k).push (ins+cq.op) [cq.key,cq.val]).fr,W88 f:=by
   intro f hf
   have hf:f ∈ (Wf0 s.m k).fr ++ [⟨ins+cq.op,0,pad 10 [cq.key,cq.val]⟩]:=hf
   rw [he] at hf
   rw [List.mem_singleton.1 hf]
   exact ⟨Wy4 _ _,λ_ h=>by cases h⟩
  have hset:∀(k':Nat) t,(s.m.th.set k ((Wf0 s.m k).push (ins+cq.op) [cq.key,cq.val]))[k']? = some t→k' = k∧t=(Wf0 s.m k).push (ins+cq.op) [cq.key,cq.val]∨k'≠k∧s.m.th[k']? = some t:=by
   intro k' t h
   rw [List.getElem?_set] at h
   split at h
   ·rename_i e
    try rw [if_pos (by omega)] at h
    exact .inl ⟨e.symm,(Option.some.inj h).symm⟩
   ·rename_i e
    exact .inr ⟨λe2=>e e2.symm,h⟩
  refine ⟨G.push j s.m k _ cq O.inv ht he (W78 hcB.1) hcB.2.1 hcB.2.2,?_,ZG2 hk hqlt O.nx,?_,?_,rfl,rfl,rfl,rfl,?_,?_,?_,?_⟩
  ·show (s.m.th.set k _).length=_
   rw [List.length_set];exact O.th
  ·have:=O.ev
   show (s.ev ++ [_]).length≤_
   rw [List.length_append]
   simp only [List.length_cons,List.length_nil]
   omega
  ·show backs (s.ev ++ [_])=_
   rw [WY0,YC5 _ rfl]
   omega
  ·show (Wf0 (s.m.setTh _) k).fr≠[]
   rw [WW6 hk2]
   unfold Mod.Thr.push
   simp
  ·intro k' t h
   rcases hset k' t h with ⟨_,rfl⟩ | ⟨_,h⟩
   ·exact hnew
   ·exact F.all k' t h
  ·intro k' t h hn
   rcases hset k' t h with ⟨_,rfl⟩ | ⟨hk',h⟩
   ·exfalso
    have hn:(Wf0 s.m k).fr ++ [_] = []:=hn
    simp at hn
   ·show (if (k':Int)=(k:Int) then some cq else s.cu k')=none
    rw [if_neg (by omega)]
    exact F.idle k' t h hn
  ·intro k' t h hn
   rcases hset k' t h with ⟨rfl,rfl⟩ | ⟨hk',h⟩
   ·refine ⟨cq,by show (if (k':Int)=(k':Int) then some cq else s.cu k')=_;rw [if_pos rfl],hcB.1,⟨ins+cq.op,0,pad 10 [cq.key,cq.val]⟩,[],?_,rfl⟩
    show (Wf0 s.m k').fr ++ [_]=_
    rw [he];rfl
   ·obtain ⟨c,h1,h2⟩:=F.busy k' t h hn
    refine ⟨c,?_,h2⟩
    show (if (k':Int)=(k:Int) then some cq else s.cu k')=_
    rw [if_neg (by omega)]
    exact h1
 ·rw [if_neg he]
  exact .inr ⟨s,rfl,O.inv,O.th,O.nx,by have:=O.ev;omega,rfl,rfl,rfl,rfl,rfl,he,F⟩
structure ZL2 (s t:RnSt):Prop where
 a:t.idle=s.idle+1∧backs t.ev=backs s.ev∧t.most=s.most∧t.gap=s.gap∧t.m.mm.st=s.m.mm.st ∨
  t.idle=s.idle∧(backs t.ev=backs s.ev+1∧t.gap=0∧t.most=s.most∨backs t.ev=backs s.ev∧t.gap=s.gap+1∧t.most=max s.most (s.gap+1))∧(t.m.mm.st=s.m.mm.st∨t.m.mm.st=s.m.mm.st+1)
theorem Yj6 (D:Y36 d Q W ins) (hB:Yj4 d Q) (hins:ins=11∨ins=21∨ins=31) (C:WH5 calls) {j k:Nat} (hk:k < calls.length) (hj:j < 100000) (O:RsOk (MacOk Q c) calls j s) (F:RsFit ins s) :
  RsOk (MacOk Q c) calls (j+1) (s.pick d ins calls k)∧RsFit ins (s.pick d ins calls k)∧ZL2 s (s.pick d ins calls k):=by
 have G:=MacOk.good (c:=c) D
 have oi:=O.idle
 have om:=O.most
 have og:=O.gap
 have oe:=O.ev
 rcases Zy5 G C hk O F with e | ⟨s1,e,B⟩
 ·rw [e]
  exact ⟨⟨G.mono _ _ O.inv,O.th,O.nx,by show s.ev.length≤_;omega,by show 0≤s.gap∧s.gap≤_;omega,by show 0≤s.idle+1∧s.idle+1≤_;omega,by show 0≤s.most∧s.most≤_;omega⟩,⟨F.all,F.idle,F.busy⟩,⟨.inl ⟨rfl,rfl,rfl,rfl,rfl⟩⟩⟩
 rw [e]
 have hk3:k < s1.m.th.length:=by rw [B.th];exact hk
 have ht:=Wn3 hk3
 obtain ⟨nn,z,hz,_,_,hzt,hI2⟩:=G.step j s1.m k _ B.inv hj ht B.ne
 have hzs:WF0 d ⟨s1.m.quiet,Wf0 s1.m k,k⟩=z:=YA6 hz
 have S:=Zn7 D hB B.inv ht (B.fit.all k _ ht) hz
 have hst:z.m.mm.st=s.m.mm.st∨z.m.mm.st=s.m.mm.st+1:=by
  have:=S.one.st
  have e2:(⟨s1.m.quiet,Wf0 s1.m k,(k:Int)⟩ : Run).m.mm=s.m.mm:=B.mm
  rw [e2] at this
  rcases this with ⟨h,_⟩ | ⟨h,_⟩
  ·exact .inl h
  ·exact .inr h
 obtain ⟨cq,hcu,hok,hbot⟩:=B.fit.busy k _ ht B.ne
 have hset:∀(k':Nat) t,(s1.m.th.set k z.t)[k']? = some t→k' = k∧t=z.t∨k'≠k∧s1.m.th[k']? = some t:=by
  intro k' t h
  rw [List.getElem?_set] at h
  split at h
  ·rename_i e
   try rw [if_pos (by omega)] at h
   exact .inl ⟨e.symm,(Option.some.inj h).symm⟩
  ·rename_i e
   exact .inr ⟨λe2=>e e2.symm,h⟩
 have ho:=W78 hok
 have hA:Ans (ins+cq.op):=by unfold Ans;omega
 have ht2:(s1.m.th.set k z.t).length=calls.length:=by rw [List.length_set];exact B.th
 have b1:=B.gap
 have b2:=B.idle
 have b3:=B.most
 have b4:=B.ev
 have b5:=B.bk
 unfold RnSt.go
 rw [hzs]
 rcases S.bot _ hA hbot with hb | ⟨hnil,hfit⟩
 ·have hne:z.t.fr≠[]:=by
   obtain ⟨f,r,e,_⟩:=hb
   rw [e];simp
  rw [if_neg hne]
  refine ⟨⟨hI2,ht2,B.nx,by show s1.ev.length≤_;omega,by show 0≤s1.gap+1∧s1.gap+1≤_;omega,by show 0≤s1.idle∧s1.idle≤_;omega,by show 0≤max s1.most (s1.gap+1)∧max s1.most (s1.gap+1)≤_;omega⟩,⟨?_,?_,?_⟩,⟨.inr ⟨b2,.inr ⟨b5,?_,?_⟩,hst⟩⟩⟩
  ·intro k' t h
   rcases hset k' t h with ⟨_,rfl⟩ | ⟨_,h⟩
   ·exact S.all
   ·exact B.fit.all k' t h
  ·intro k' t h hn
   rcases hset k' t h with ⟨_,rfl⟩ | ⟨_,h⟩
   ·exact absurd hn hne
   ·exact B.fit.idle k' t h hn
  ·intro k' t h hn
   rcases hset k' t h with ⟨rfl,rfl⟩ | ⟨_,h⟩
   ·exact ⟨cq,hcu,hok,hb⟩
   ·exact B.fit.busy k' t h hn
  ·show s1.gap+1=_
   rw [b1]
  ·show max s1.most (s1.gap+1)=_
   rw [b1,b3]
 ·rw [if_pos hnil]
  have hfb:=Zy4 hins hok hfit
  have er:RnSt.respond { s1 with m:=z.m.setTh (s1.m.th.set k z.t) } k (WH2 z.t) = { s1 with m:=z.m.setTh (s1.m.th.set k z.t),cu:=λt=>if t=(k:Int) then none else s1.cu t,ev:=s1.ev ++ [⟨k,true,cl0,WH2 z.t⟩] }:=by
   unfold RnSt.respond
   dsimp only
   rw [hcu]
   dsimp only
   rw [if_pos hfb]
  rw [er]
  refine ⟨⟨hI2,ht2,B.nx,?_,⟨by show (0:Int)≤0;omega,by show (0:Int)≤_;omega⟩,by show 0≤s1.idle∧s1.idle≤_;omega,by show 0≤s1.most∧s1.most≤_;omega⟩,⟨?_,?_,?_⟩,⟨.inr ⟨b2,.inl ⟨?_,rfl,b3⟩,hst⟩⟩⟩
  ·show (s1.ev ++ [_]).length≤_
   rw [List.length_append]
   simp only [List.length_cons,List.length_nil]
   omega
  ·intro k' t h
   rcases hset k' t h with ⟨_,rfl⟩ | ⟨_,h⟩
   ·exact S.all
   ·exact B.fit.all k' t h
  ·intro k' t h hn
   show (if (k':Int)=(k:Int) then none else s1.cu k')=none
   rcases hset k' t h with ⟨rfl,rfl⟩ | ⟨hk',h⟩
   ·rw [if_pos rfl]
   ·rw [if_neg (by omega)]
    exact B.fit.idle k' t h hn
  ·intro k' t h hn
   rcases hset k' t h with ⟨rfl,rfl⟩ | ⟨hk',h⟩
   ·exact absurd hnil hn
   ·obtain ⟨c,h1,h2⟩:=B.fit.busy k' t h hn
    refine ⟨c,?_,h2⟩
    show (if (k':Int)=(k:Int) then none else s1.cu k')=_
    rw [if_neg (by omega)]
    exact h1
  ·show backs (s1.ev ++ [_])=_
   rw [WY0,Yj5 _ rfl,b5]
theorem RsFit.new (b:List Int) (g:Bool) (n:Nat):RsFit ins (rs0 (We9 c b g) n):=by
 have h:∀(k:Nat) t,(We9 c b g).th[k]? = some t→t=WM2 c:=λk t h=>(List.mem_replicate.1 (List.mem_of_getElem? (show (List.replicate c.threads.toNat (WM2 c))[k]? = some t from h))).2
 refine ⟨λk t e f hf=>?_,λ_ _ _ _=>rfl,λk t e hn=>?_⟩
 ·rw [h k t e] at hf
  cases hf
 ·rw [h k t e] at hn
  exact absurd rfl hn
theorem RsOk.new (hc:okC c=true) (b:List Int) (g:Bool) (hl:(calls.length:Int)=c.threads):RsOk (MacOk Q c) calls 0 (rs0 (We9 c b g) calls.length):=by
 refine ⟨MacOk.new hc b g,?_,λk hk=>?_,Nat.le_refl _,⟨Int.le_refl _,Int.le_refl _⟩,⟨Int.le_refl _,Int.le_refl _⟩,⟨Int.le_refl _,Int.le_refl _⟩⟩
 ·show (List.replicate c.threads.toNat (WM2 c)).length=_
  rw [List.length_replicate]
  omega
 ·have e:(rs0 (We9 c b g) calls.length).nx.getD k 0=0:=by
   show (List.replicate calls.length (0:Int)).getD k 0=0
   rw [List.getD_eq_getElem?_getD,List.getElem?_replicate]
   split <;> rfl
  rw [e]
  omega
theorem Yj7 {m:Mac} {Wb6:List Int} {n:Nat} (hn:n < Wb6.length):Yh5 d ins calls m (Wb6.take (n+1))=(Yh5 d ins calls m (Wb6.take n)).pick d ins calls Wb6[n]:=by
 unfold Yh5
 rw [List.take_succ_eq_append_getElem hn,List.foldl_append]
 rfl
theorem Y99 (D:Y36 d Q W ins) (hB:Yj4 d Q) (hins:ins=11∨ins=21∨ins=31) (C:WH5 calls) (hc:okC c=true) (hl:(calls.length:Int)=c.threads) {b:List Int} {g:Bool} {Wb6:List Int} (hp:∀p ∈ Wb6,0≤p∧p < calls.length) (hpl:Wb6.length < 100000):∀n,n≤Wb6.length →
  RsOk (MacOk Q c) calls n (Yh5 d ins calls (We9 c b g) (Wb6.take n))∧RsFit ins (Yh5 d ins calls (We9 c b g) (Wb6.take n))
 | 0,_=>⟨RsOk.new hc b g hl,RsFit.new b g _⟩
 | n+1,hn=>by
  obtain ⟨O,F⟩:=Y99 D hB hins C hc hl hp hpl n (by omega) (b:=b) (g:=g)
  have hlt:n < Wb6.length:=by omega
  rw [Yj7 hlt]
  have h:=hp _ (List.getElem_mem hlt)
  obtain ⟨k,hk⟩ : ∃k:Nat,Wb6[n]=k:=⟨Wb6[n].toNat,by omega⟩
  rw [hk] at h ⊢
  have r:=Yj6 D hB hins C (k:=k) (by omega) (by omega) O F
  exact ⟨r.1,r.2.1⟩
end
end
section
open Mod
theorem Za0 {v0 v1 v2:Value} {F:Value→Prop} (k:F v0):Wc0 #[v0,v1,v2] 0 F:=k
theorem Za1 {v0 v1 v2:Value} {F:Value→Prop} (k:F v1):Wc0 #[v0,v1,v2] 1 F:=k
theorem Za2 {v0 v1 v2:Value} {F:Value→Prop} (k:F v2):Wc0 #[v0,v1,v2] 2 F:=k
theorem ZL3 {v0 v1 v2 v3 v4 v5 v6 v7 v8 v9:Value} {F:Value→Value→Value→Value→Value→Value→Value→Value→Value→Value→Prop} (k:F v0 v1 v2 v3 v4 v5 v6 v7 v8 v9):asAgg (.agg #[v0,v1,v2,v3,v4,v5,v6,v7,v8,v9]) λvs=>We0 vs 10 (Wc0 vs 0 λa=>Wc0 vs 1 λb=>Wc0 vs 2 λc=>Wc0 vs 3 λd=>Wc0 vs 4 λe=>Wc0 vs 5 λf=>Wc0 vs 6 λg=>Wc0 vs 7 λh=>Wc0 vs 8 λi=>Wc0 vs 9 λj=>F a b c d e f g h i j):=k
section
variable {K:Value→Wa1→Prop} {h:Wa1} {R:Hp} {calls:List (List Cl)} {Wb6 draws:List Int}
theorem Za3 {c:Mod.Cf} (H:Sat h R) (k1:okC c=true→∀h',Sat h' R→K (.bool true) h') (k0:okC c=false→∀h',Sat h' R→K (.bool false) h') :
  Wa5 Tryz.prog 9 #[.agg #[.int .i64 c.algo,.int .i64 c.threads,.int .i64 c.nodes,.int .i64 c.level,.int .i64 c.batch,.int .i64 c.probes,.int .i64 c.scan]] h K:=by
 refine YK6 (Zz2 c) (λhr h' o=>k1 ((Ws7 c).1 hr) h' (H.old o)) (λhr h' o=>k0 ?_ h' (H.old o))
 rw [← Bool.not_eq_true]
 exact λhh=>hr ((Ws7 c).2 hh)
end
theorem Zr2 {c:Mod.Cf} (hc:okC c=true):∃(d:Run→Run) (W:Run→Prop) (Q:Mod.Cf→Frm→Prop),DoC (W87 c.algo) d W∧Y36 d Q W (Wm6 c.algo)∧Yj4 d Q∧(Wm6 c.algo=11∨Wm6 c.algo=21∨Wm6 c.algo=31):=by
 unfold W87 Wm6
 by_cases h0:c.algo=0
 ·rw [if_pos h0,if_pos h0]
  exact ⟨_,_,_,Y64,YM6,Y98,.inl rfl⟩
 ·rw [if_neg h0,if_neg h0]
  by_cases h1:c.algo=1
  ·rw [if_pos h1,if_pos h1]
   exact ⟨_,_,_,Yu0,Yi6,Yv9,.inr (.inl rfl)⟩
  ·rw [if_neg h1,if_neg h1]
   exact ⟨_,_,_,YO3,Yv4,YP4,.inr (.inr rfl)⟩
theorem Zn8 {h:Wa1} {b:Nat} {row:List Value} {t:TypeId} (hb:h[b]? = some (.cells row.toArray t)):Sees h (some ⟨b,0,none⟩) row:=by
 intro i v hi
 refine ⟨_,rfl,?_⟩
 rw [Wc6,Nat.zero_add]
 exact Wd4 hb hi
theorem ScrI.take {h:Wa1} {ca pa da:Option Addr} {cl pl dl:Nat} {calls:List (List Cl)} {Wb6 draws:List Int} (I:ScrI h ca cl pa pl da dl calls Wb6 draws) {n:Nat} (hn:n≤Wb6.length):ScrI h ca cl pa n da dl calls (Wb6.take n) draws:=
 ⟨⟨I.f.cs,I.f.row,by rw [List.length_take];omega,by rw [List.map_take];exact I.f.pk.take n⟩,I.ds,I.dr⟩
theorem Zn9 {th n:Nat} {calls:List (List Cl)} {Wb6 draws:List Int} (hth:1≤th∧th≤6) (hn:n≤1000) (R:Zu9 calls Wb6 draws):WH5 (Wg0 th n calls):=by
 refine ⟨by rw [Ws9];omega,λl hl=>?_⟩
 have o:=WW4 R hn l hl
 refine ⟨by omega,λx hx=>⟨?_,(o.2 x hx).2⟩⟩
 unfold Wg0 at hl
 obtain ⟨i,_,rfl⟩:=List.mem_map.1 hl
 unfold WP4 at hx
 obtain ⟨y,_,rfl⟩:=List.mem_map.1 hx
 exact YB9 y
theorem YP5 {th:Int} (hth:1≤th∧th≤6) {m:Nat} {Wb6:List Int}:∀p ∈ Wk1 th m Wb6,0≤p∧p < th:=by
 intro k hk
 unfold Wk1 at hk
 obtain ⟨k0,_,rfl⟩:=List.mem_map.1 hk
 exact Yg3 hth k0
theorem Za4 {c:Mod.Cf} {calls:List (List Cl)} {Wb6 draws:List Int} (h:YB4 c calls Wb6 draws=true) (n:Nat):YB4 c calls (Wb6.take n) draws=true:=by
 unfold YB4 at *
 simp only [Bool.and_eq_true,beq_iff_eq,decide_eq_true_eq,List.all_eq_true] at *
 refine ⟨h.1,h.2.1,h.2.2.1,?_,h.2.2.2.2.1,h.2.2.2.2.2.1,λx hx=>h.2.2.2.2.2.2 x (List.mem_of_mem_take hx)⟩
 rw [List.length_take]
 omega
end
end Go.Proofs.YtahpbclnkofhfaaGreat
