/- Part 12 of what the proofs of this seat rest on: see the last text of the claim. -/
import Derived.Test.YtjjbcllndihmbaaGreatQ39683c4cb021
import Derived.Test.YtjjbcllndihmbaaGreatProg
set_option linter.unusedSimpArgs false
set_option linter.unusedVariables false
set_option linter.ambiguousOpen false
set_option maxRecDepth 20000
namespace Go.Proofs.YtjjbcllndihmbaaGreat
section
set_option maxHeartbeats 1000000
open Mod
section
variable {K:Value→Wa1→Prop} {h:Wa1} {X:RX} {s:RnSt} {R:Hp} {calls:List (List Cl)} {Wb8 draws:List Int}
theorem WJ5 {q:Nat} {m:Mm} (H:Sat h (Wp8 q m*R)) (k:K (.int .i64 m.st) h):Wa5 Tryz.prog 16 #[mP q] h K:=by
 refine call16 ?_
 unfold F16 lI nP
 obtain ⟨b,la,lc,MB,H1⟩:=Wr7.1 H
 refine sb ?_
 refine H1.ld rfl ?_
 refine sb ?_
 exact k
theorem W07 {Q M f:Nat} {ins:Int} {Ts:List Nat} {m:Mac} (H:Sat h (suS Q M f ins Ts m*R)) (k:∀q R',Sat h (Wp8 q m.mm*R')→K (mP q) h):Wa5 Tryz.prog 15 #[mP M] h K:=by
 obtain ⟨a,c,hl,H1⟩:=Wl5.1 (Wp4.1 H)
 exact YD9 H1 λq R' HM _=>k q R' HM
theorem Yg3 {Q M f:Nat} {ins:Int} {Ts:List Nat} {m:Mac} (H:Sat h (suS Q M f ins Ts m*R)) (k:∀h',Sat h' (suS Q M f ins Ts m*R)→K (.bool m.fault) h'):Wa5 Tryz.prog 19 #[mP M] h K:=by
 obtain ⟨a,c,hl,H1⟩:=Wl5.1 (Wp4.1 H)
 exact YD8 H1 λh' H2=>k h' (Wp4.2 (Wl5.2 ⟨a,c,hl,H2⟩))
theorem Sat.own_empty {h:Wa1} {R:Hp} (H:Sat h R) (elem:TypeId) (sz:Nat):Sat (h.push (.cells #[] elem)) (We5 elem sz (some ⟨h.size,0,none⟩) 0 0 []*R):=by
 have o1:Old h.size h (h.push (.cells #[] elem)):=(Old.refl _ _).push _ (Nat.le_refl _)
 have ow:Own (h.push (.cells #[] elem)) elem sz (some ⟨h.size,0,none⟩) 0 0 []:=⟨by simp,Nat.le_refl _,.inr ⟨h.size,#[],rfl,by simp,by simp,by simp⟩⟩
 refine H.mk_new o1 (λb hb=>?_) ow.nd λh'' e=>ow.congr e
 obtain ⟨ad,e,rfl⟩:=hb
 cases e
 exact ⟨Nat.le_refl _,by simp⟩
theorem Yg4 {a:Option Addr} {c:Nat} {ev:List EvM} (H:Sat h (We5 96 8 a ev.length c (ev.flatMap evc)*R)) (hb:ev.length≤1000000)
  (k:∀h' a' c',Sat h' (We5 96 8 a' ev.length c' (ev.flatMap evc)*(We5 96 8 a ev.length c (ev.flatMap evc)*R))→K (.slice a' ev.length c') h') :
  Wa5 Tryz.prog 32 #[.slice a ev.length c] h K:=by
 refine call32 ?_
 unfold F32
 refine Wb6 (λhh=>?_) (λhh=>?_)
 ·have ea:a=none:=by cases a with | none=>rfl | some x=>cases hh
  subst ea
  have hl0:ev.length=0:=by
   obtain ⟨h1,h2,h3⟩:=H.own
   rcases h3 with ⟨_,hc⟩ | ⟨b,row,e,_⟩
   ·omega
   ·cases e
  have e0:ev = []:=List.length_eq_zero_iff.1 hl0
  subst e0
  exact k h none 0 (H.own_new 96 8)
 ·have H1:=H.own_empty 96 8
  have hs:=H1.drop.own.sees
  generalize h.push (.cells #[] 96)=h1 at *
  generalize h.size=N at *
  rw [← WA6] at H1
  refine H1.app YU5 Yd2 YU6 (by rw [WA6];rfl) hs (n:=ev.length) (by rw [WA6,WO4 Zm5]) (λy hy=>?_) (by rw [W52];omega) (by rw [W52];omega) λa' c' h' H3=>?_
  ·obtain ⟨x,_,hx⟩:=List.mem_flatMap.1 hy
   simp only [evc,List.mem_cons,List.not_mem_nil,or_false] at hx
   rcases hx with rfl | rfl | rfl | rfl | rfl | rfl | rfl | rfl <;> trivial
  ·rw [WA6,Nat.zero_add,List.nil_append] at H3
   rw [Nat.zero_add]
   refine sb ?_
   exact k h' a' c' H3
abbrev rnE (Q NB n:Nat) (c:Mod.Cf) (ca:Option Addr) (cl cc:Nat) (pa:Option Addr) (pl pc:Nat) (da:Option Addr) (dl dc:Nat) (v0:Value) (st idle:Int) (fl:Bool) (most:Int) (ea:Option Addr) (en ec:Nat) (mo:Option Nat) (gap:Int):List Value:=[v0,.int .i64 st,.int .i64 idle,.bool fl,.int .i64 most,mP Q,.int .i64 c.algo,.int .i64 c.threads,.int .i64 c.nodes,.int .i64 c.level,.int .i64 c.batch,.int .i64 c.probes,.int .i64 c.scan,.slice ca cl cc,.slice pa pl pc,.slice da dl dc,.slice (some ⟨NB,0,none⟩) n n,.slice ea en ec,.map mo,.int .i64 gap]
theorem Sat.map_new {h:Wa1} {R:Hp} (H:Sat h R):Sat h (mpS none (λ_=>none)*R):=by
 refine H.mk_new (Old.refl _ _) (λb hb=>by cases hb) (λb o hb=>by cases hb) λh'' _ t=>rfl
theorem Zd2 {n:Nat} {t:Int} (ht:(n:Int)=t) (hn:n≤4096) (k:K (.slice (some ⟨h.size,0,none⟩) n n) (h.push (.cells ((List.replicate n (0:Int)).map iv).toArray 3))):Wq1 Tryz.prog 3 t t h K:=by
 subst ht
 exact Zm8 hn k
variable {d:Run→Run} {W:Run→Prop} {Inv:Nat→Mac→Prop}
theorem W61 {c:Mod.Cf} {ca pa da:Option Addr} {cl cc pl pc dl dc:Nat} (H:Sat h R) (hS:∀h' P,Sat h' (P*R)→ScrI h' ca cl pa pl da dl calls Wb8 draws) (hR:Zi1 calls Wb8 draws)
  (hn:calls.flatten.length < 2 ^ 60) (hn2:calls.length < 2 ^ 60) (hn3:Wb8.length < 2 ^ 60) (hV:∀l ∈ calls,l.length < 2 ^ 60)
  (D:DoC (W59 c.algo) d W) (G:YW1 d W (Wt1 c.algo) Inv) (hI:okC c=true→Inv 0 (Wy7 c draws true))
  (k0:Y44 c calls Wb8 draws=false→∀h',Sat h' R→K (.tuple #[.agg #[.slice none 0 0,.int .i64 0,.int .i64 0,.bool false,.int .i64 0],.pointer none,.int .i64 1]) h')
  (k1:Y44 c calls Wb8 draws=true→∀h' ea ec Q M Ts s,s=ZA8 d (Wt1 c.algo) calls (Wy7 c draws true) Wb8→Zw0 Inv calls Wb8.length s→Sat h' (We5 96 8 ea s.ev.length ec (s.ev.flatMap evc)*(suS Q M (W59 c.algo) (Wt1 c.algo) Ts s.m*R)) →
   K (.tuple #[.agg #[.slice ea s.ev.length ec,.int .i64 (s64 (s.m.mm.st - (Wy7 c draws true).mm.st)),.int .i64 s.idle,.bool s.m.fault,.int .i64 s.most],mP Q,.int .i64 0]) h') :
  Wa5 Tryz.prog 9 #[.agg #[.int .i64 c.algo,.int .i64 c.threads,.int .i64 c.nodes,.int .i64 c.level,.int .i64 c.batch,.int .i64 c.probes,.int .i64 c.scan,.slice ca cl cc,.slice pa pl pc,.slice da dl dc]] h K:=by
 refine call9 ?_
 unfold F9 g9 cf ce bd lS lI da5 da7 dl5 W68 dw5
 have H1:=H.push (.cells (Wo0 c ca cl cc pa pl pc da dl dc).toArray 28)
 rw [show h.push (.cells #[.int .i64 c.algo,.int .i64 c.threads,.int .i64 c.nodes,.int .i64 c.level,.int .i64 c.batch,.int .i64 c.probes,.int .i64 c.scan,.slice ca cl cc,.slice pa pl pc,.slice da dl dc] 28)=h.push (.cells (Wo0 c ca cl cc pa pl pc da dl dc).toArray 28) from rfl]
 generalize h.push (.cells (Wo0 c ca cl cc pa pl pc da dl dc).toArray 28)=h1 at *
 generalize h.size=SB at *
 have I:=hS h1 _ H1
 have ecl:=I.f.cs
 have epl:=I.f.ps
 have edl:=I.ds
 subst ecl epl edl
 have H2:=H1.push (.cells #[.slice none 0 0,.int .i64 0,.int .i64 0,.bool false,.int .i64 0] 39)
 generalize h1.push (.cells #[.slice none 0 0,.int .i64 0,.int .i64 0,.bool false,.int .i64 0] 39)=h2 at *
 generalize h1.size=ZB at *
 have O:=H2.at2
 refine ldR O rfl (ldR O rfl (ldR O rfl (ldR O rfl (ldR O rfl (ldR O rfl (ldR O rfl (ldR O rfl (ldR O rfl (ldR O rfl ?_)))))))))
 have hS2:∀h' P,Sat h' (P*(pt ZB (.cells #[.slice none 0 0,.int .i64 0,.int .i64 0,.bool false,.int .i64 0] 39)*(pt SB (.cells (Wo0 c ca calls.length cc pa Wb8.length pc da draws.length dc).toArray 28)*R)))→ScrI h' ca calls.length pa Wb8.length da draws.length calls Wb8 draws:=λh' P HP=>hS h' emp (by rw [Wk6];exact HP.drop.drop.drop)
 refine Wa0 (Yg0 (c:=c) H2 hS2 hn hn2 hn3 hV λh3 H3=>?_)
 refine sb ?_
 refine Wb6 (λhh=>?_) (λhh=>?_)
 ·have e:Y44 c calls Wb8 draws=false:=by simpa using hh
  refine Wd3 (vs:=[.slice none 0 0,.int .i64 0,.int .i64 0,.bool false,.int .i64 0]) H3.at rfl (by simp [Wi3]) λh4 w=>?_
  have H4:=H3.wr w.new w.old
  refine ldR H4.at rfl (ldR H4.at rfl (ldR H4.at rfl (ldR H4.at rfl (ldR H4.at rfl ?_))))
  exact k0 e h4 H4.drop.drop
 have hsc:Y44 c calls Wb8 draws=true:=by simpa using hh
 have hsc2:=hsc
 unfold Y44 at hsc2
 simp only [Bool.and_eq_true,beq_iff_eq,decide_eq_true_eq,List.all_eq_true] at hsc2
 obtain ⟨hok,hct,hf48,hp6,hd4,hcl,hpk⟩:=hsc2
 have B:=Ws0 hok
 have hthr:1≤c.threads∧c.threads≤6:=B.th
 have C:Yq7 calls:=⟨by omega,λl hl=>⟨by
  have:l.length≤calls.flatten.length:=by
   obtain ⟨i,hi,rfl⟩:=List.getElem_of_mem hl
   have e1:=YZ3 hi
   have e2:=Zv9 (L:=calls) (i+1)
   omega
  omega,λx hx=>⟨hcl l hl x hx,hR.cl l hl x hx⟩⟩⟩
 have O:=H3.at2
 refine ldR O rfl (ldR O rfl (ldR O rfl (ldR O rfl (ldR O rfl (ldR O rfl (ldR O rfl (ldR O rfl ?_)))))))
 refine sb ?_
 refine Wa0 (YH2 (c:=c) (bs:=draws) H3 (λh' P HP=>(hS2 h' P HP).dr) (by omega) hR.dr (λhx=>by rw [hok] at hx;cases hx) λ_ h4 Q M Ts H4=>?_)
 have hI0:=hI hok
 have hm0:(Wy7 c draws true).th.length=calls.length:=by
  show (List.replicate c.threads.toNat (WO6 c)).length=_
  rw [List.length_replicate];omega
 generalize Wy7 c draws true=m0 at *
 refine sb ?_
 refine Ws7 ?_
 refine sb ?_
 refine Ws8 ?_
 refine sb ?_
 refine Wb6 (λhx=>by simp at hx) (λ_=>?_)
 have O:=H4.at3
 refine ldR O rfl (ldR O rfl (ldR O rfl (ldR O rfl (ldR O rfl (ldR O rfl (ldR O rfl (ldR O rfl (ldR O rfl (ldR O rfl (ldR O rfl ?_))))))))))
 refine sb ?_
 refine Zd2 hct (by omega) ?_
 refine sb ?_
 have H5:=H4.push (.cells ((List.replicate calls.length (0:Int)).map iv).toArray 3)
 generalize h4.push (.cells ((List.replicate calls.length (0:Int)).map iv).toArray 3)=h5 at *
 generalize h4.size=NB at *
 have O5:=(H5.drop.drop.drop).at
 have H6:=H5.push (.cells #[.slice none 0 0,.int .i64 0,.int .i64 0,.bool false,.int .i64 0,mP Q,.int .i64 c.algo,.int .i64 c.threads,.int .i64 c.nodes,.int .i64 c.level,.int .i64 c.batch,.int .i64 c.probes,.int .i64 c.scan,.slice ca calls.length cc,.slice pa Wb8.length pc,.slice da draws.length dc,.slice (some ⟨NB,0,none⟩) calls.length calls.length,.slice none 0 0,.map none,.int .i64 0] 58)
 repeat (first | refine ⟨Wc4 (Wd5 O5 rfl),?_⟩ | refine ⟨Wd5 O5 rfl,?_⟩)
 generalize h5.push (.cells #[.slice none 0 0,.int .i64 0,.int .i64 0,.bool false,.int .i64 0,mP Q,.int .i64 c.algo,.int .i64 c.threads,.int .i64 c.nodes,.int .i64 c.level,.int .i64 c.batch,.int .i64 c.probes,.int .i64 c.scan,.slice ca calls.length cc,.slice pa Wb8.length pc,.slice da draws.length dc,.slice (some ⟨NB,0,none⟩) calls.length calls.length,.slice none 0 0,.map none,.int .i64 0] 58)=h6 at *
 generalize h5.size=RB at *
 obtain ⟨X,hX⟩ : ∃X:RX,X=⟨RB,NB,Q,M,W59 c.algo,Wt1 c.algo,Ts,c,ca,calls.length,cc,pa,Wb8.length,pc,da,draws.length,dc,calls.length⟩:=⟨_,rfl⟩
 generalize hFR:pt ZB (.cells #[.slice none 0 0,.int .i64 0,.int .i64 0,.bool false,.int .i64 0] 39)*(pt SB (.cells (Wo0 c ca calls.length cc pa Wb8.length pc da draws.length dc).toArray 28)*R)=FR at H6 hS2
 have H7:Sat h6 (rnS X (rs0 m0 calls.length)*FR):=by
  have H8:=(H6.own_new 96 8).map_new
  rw [hX]
  refine Wh9.2 ⟨none,0,none,by show (List.replicate _ _).length=_;simp,?_⟩
  exact Sat.ac H8 (by show _=pt RB _*(We5 96 8 none 0 0 []*(mpS none (λ_=>none)*(pt NB _*(suS Q M (W59 c.algo) (Wt1 c.algo) Ts m0*FR))));ac_rfl)
 have D7:Zw0 Inv calls 0 (rs0 m0 calls.length):=by
  refine ⟨hI0,hm0,λk hk=>?_,by show ([]:List EvM).length≤_;simp,⟨by show (0:Int)≤0;omega,by show (0:Int)≤_;omega⟩,⟨by show (0:Int)≤0;omega,by show (0:Int)≤_;omega⟩,⟨by show (0:Int)≤0;omega,by show (0:Int)≤_;omega⟩⟩
  show 0≤(List.replicate calls.length (0:Int)).getD k 0∧(List.replicate calls.length (0:Int)).getD k 0≤_
  simp [hk]
 clear H1 H2 H3 H4 H5 H6 I O
 have eRB:RB=X.RB:=by rw [hX]
 have ei:Wt1 c.algo=X.ins:=by rw [hX]
 have DX:DoC X.f d W:=by rw [hX];exact D
 have GX:YW1 d W X.ins Inv:=by rw [hX];exact G
 have su:∀ {h':Wa1} {s:RnSt},Sat h' (rnS X s*FR)→∃QQ:Hp,Sat h' (suS Q M (W59 c.algo) (Wt1 c.algo) Ts s.m*(QQ*FR)):=by
  intro h' s H'
  obtain ⟨QQ,H8,_⟩:=Yz3 H'
  rw [hX] at H8
  exact ⟨QQ,H8⟩
 obtain ⟨QQ,H8⟩:=su H7
 refine Wa0 (WC7 H8 ?_)
 refine sb ?_
 refine Wa0 (W07 H8 λq R' HM=>?_)
 refine sb ?_
 refine Wa0 (WJ5 HM ?_)
 show asInt .i64 (.int .i64 m0.mm.st) _
 refine sb ?_
 have scr:∀ {h':Wa1} {s:RnSt},Sat h' (rnS X s*FR)→h'[SB]? = some (.cells (Wo0 c ca calls.length cc pa Wb8.length pc da draws.length dc).toArray 28)∧ScrI h' ca calls.length pa Wb8.length da draws.length calls Wb8 draws:=by
  intro h' s H'
  refine ⟨?_,hS2 h' _ H'⟩
  rw [← hFR] at H'
  exact H'.drop.drop.at
 obtain ⟨sc,sI⟩:=scr H7
 refine ldR sc rfl ?_
 refine sb ?_
 have hS7:∀h' P,Sat h' (P*FR)→Zu4 h' X.ca X.cl X.pa X.pl calls Wb8:=by
  intro h' P HP
  rw [hX]
  exact (hS2 h' P HP).f
 have hXn:X.n=calls.length:=by rw [hX]
 have hins:0≤X.ins∧X.ins≤100:=by
  rw [← ei]
  unfold Wt1
  repeat' split
  all_goals decide
 refine ⟨λvs h'=>∃(u:Value) (j:Nat),vs = [u,.int .i64 j]∧j≤Wb8.length∧Zw0 Inv calls j ((Wb8.take j).foldl (λs k=>s.pick d X.ins calls k) (rs0 m0 calls.length))∧Sat h' (rnS X ((Wb8.take j).foldl (λs k=>s.pick d X.ins calls k) (rs0 m0 calls.length))*FR),λvs _=>match vs with | [_,.int _ i]=>((Wb8.length:Int) - i).toNat | _=>0,⟨_,0,rfl,Nat.zero_le _,D7,H7⟩,?_⟩
 rintro v84 v85 g86 h87 ⟨u,j,e,hj,DJ,HJ⟩
 cases e
 refine sb ?_
 generalize hsj:(Wb8.take j).foldl (λs k=>s.pick d X.ins calls k) (rs0 m0 calls.length)=sj at *
 obtain ⟨scJ,sIJ⟩:=scr HJ
 refine Wa3 (λc1=>?_) (λc1=>?_)
 ·have hjlt:j < Wb8.length:=by omega
  obtain ⟨ad,ea,hc⟩:=sIJ.f.pk j (.int .i64 Wb8[j]) (by rw [List.getElem?_map,List.getElem?_eq_getElem hjlt];rfl)
  subst ea
  refine ⟨by omega,by omega,?_⟩
  refine sb ?_
  refine Wc5 hc ?_
  refine sb ?_
  have hp:=hpk _ (List.getElem_mem hjlt)
  have hnext:(Wb8.take (j+1)).foldl (λs k=>s.pick d X.ins calls k) (rs0 m0 calls.length)=sj.pick d X.ins calls Wb8[j]:=by
   rw [List.take_succ_eq_append_getElem hjlt,List.foldl_append,hsj]
   rfl
  obtain ⟨kk,hkk⟩ : ∃kk:Nat,Wb8[j]=kk:=⟨Wb8[j].toNat,by omega⟩
  rw [hkk] at hp hnext ⊢
  rw [eRB]
  refine Wa0 (Yq8 DX GX C hXn hins HJ hS7 (j:=j) (k:=kk) (by omega) (by omega) DJ λh94 D94 H94=>?_)
  try simp only [Wb9,bsx,Nat.reduceAdd,Int.reduceLE,Int.reduceLT,Int.reduceToNat]
  rw [show s64 ((j:Int)+1)=((j+1:Nat):Int) from by rw [← Int.natCast_add_one];exact WC8 _ (by omega)]
  refine ⟨⟨_,j+1,rfl,by omega,by rw [hnext];exact D94,by rw [hnext];exact H94⟩,?_⟩
  show ((Wb8.length:Int) - ((j+1:Nat):Int)).toNat < ((Wb8.length:Int) - (j:Int)).toNat
  omega
 have ej:j=Wb8.length:=by omega
 subst ej
 rw [List.take_length] at hsj
 have hrun:sj=ZA8 d (Wt1 c.algo) calls m0 Wb8:=by
  unfold ZA8
  rw [← hsj,ei]
 obtain ⟨ea,ec,mo,hl,H0⟩:=Wh9.1 HJ
 have H9:Sat h87 (pt RB (.cells (rnE Q NB calls.length c ca calls.length cc pa Wb8.length pc da draws.length dc (.slice none 0 0) 0 sj.idle false sj.most ea sj.ev.length ec mo sj.gap).toArray 58)*(We5 96 8 ea sj.ev.length ec (sj.ev.flatMap evc)*(mpS mo sj.cu*(pt NB (.cells (sj.nx.map iv).toArray 3)*(suS Q M (W59 c.algo) (Wt1 c.algo) Ts sj.m*FR))))):=by
  rw [hX] at H0
  exact H0
 have hev:sj.ev.length≤1000000:=by have:=DJ.ev;omega
 refine Wa0 (call18 ?_)
 unfold F18 cf lS nP
 refine Wb6 (λhx=>by cases hx) (λ_=>?_)
 refine sb ?_
 refine ldR H9.at rfl ?_
 refine sb ?_
 rw [Wb3] at H9
 refine Wa0 (Yg4 H9 hev λh10 a10 c10 H10=>?_)
 refine sb ?_
 have H11:Sat h10 (pt RB (.cells (rnE Q NB calls.length c ca calls.length cc pa Wb8.length pc da draws.length dc (.slice none 0 0) 0 sj.idle false sj.most ea sj.ev.length ec mo sj.gap).toArray 58)*(suS Q M (W59 c.algo) (Wt1 c.algo) Ts sj.m*(FR*(We5 96 8 a10 sj.ev.length c10 (sj.ev.flatMap evc)*(We5 96 8 ea sj.ev.length ec (sj.ev.flatMap evc)*(mpS mo sj.cu*pt NB (.cells (sj.nx.map iv).toArray 3))))))):=Sat.ac H10 (by ac_rfl)
 clear H9 H10 HJ H0
 refine H11.st (i:=0) rfl trivial λh12 H12=>?_
 rw [Wb3] at H12
 refine Wa0 (WC7 H12 ?_)
 refine sb ?_
 refine Wa0 (W07 H12 λq2 R2 HM2=>?_)
 refine sb ?_
 refine Wa0 (WJ5 HM2 ?_)
 show asInt .i64 (.int .i64 sj.m.mm.st) _
 refine sb ?_
 rw [Wb3] at H12
 refine H12.st (i:=1) rfl trivial λh13 H13=>?_
 rw [Wb3] at H13
 refine Wa0 (WC7 H13 ?_)
 refine sb ?_
 refine Wa0 (Yg3 H13 λh14 H14=>?_)
 refine sb ?_
 rw [Wb3] at H14
 refine H14.st (i:=3) rfl trivial λh15 H15=>?_
 have O:=H15.at
 refine ldR O rfl (ldR O rfl (ldR O rfl (ldR O rfl (ldR O rfl ?_))))
 rw [← hFR] at H15
 obtain ⟨ob,H15⟩ : ∃ob,Sat h15 (pt RB ob*(suS Q M (W59 c.algo) (Wt1 c.algo) Ts sj.m*((pt ZB (.cells #[.slice none 0 0,.int .i64 0,.int .i64 0,.bool false,.int .i64 0] 39)*(pt SB (.cells (Wo0 c ca calls.length cc pa Wb8.length pc da draws.length dc).toArray 28)*R))*(We5 96 8 a10 sj.ev.length c10 (sj.ev.flatMap evc)*(We5 96 8 ea sj.ev.length ec (sj.ev.flatMap evc)*(mpS mo sj.cu*pt NB (.cells (sj.nx.map iv).toArray 3))))))):=⟨_,H15⟩
 have H16:Sat h15 (pt ZB (.cells #[.slice none 0 0,.int .i64 0,.int .i64 0,.bool false,.int .i64 0] 39)*(We5 96 8 a10 sj.ev.length c10 (sj.ev.flatMap evc)*(suS Q M (W59 c.algo) (Wt1 c.algo) Ts sj.m*(R*(pt SB (.cells (Wo0 c ca calls.length cc pa Wb8.length pc da draws.length dc).toArray 28)*(pt RB ob*(We5 96 8 ea sj.ev.length ec (sj.ev.flatMap evc)*(mpS mo sj.cu*pt NB (.cells (sj.nx.map iv).toArray 3))))))))):=Sat.ac H15 (by ac_rfl)
 refine Wd3 (vs:=[.slice a10 sj.ev.length c10,.int .i64 (s64 (sj.m.mm.st - m0.mm.st)),.int .i64 sj.idle,.bool sj.m.fault,.int .i64 sj.most]) H16.at rfl (by simp [Wi3]) λh17 w=>?_
 have H17:=(H16.wr w.new w.old)
 refine ldR H17.at rfl (ldR H17.at rfl (ldR H17.at rfl (ldR H17.at rfl (ldR H17.at rfl ?_))))
 obtain ⟨ob2,H17⟩ : ∃ob2,Sat h17 (pt ZB ob2*(We5 96 8 a10 sj.ev.length c10 (sj.ev.flatMap evc)*(suS Q M (W59 c.algo) (Wt1 c.algo) Ts sj.m*(R*(pt SB (.cells (Wo0 c ca calls.length cc pa Wb8.length pc da draws.length dc).toArray 28)*(pt RB ob*(We5 96 8 ea sj.ev.length ec (sj.ev.flatMap evc)*(mpS mo sj.cu*pt NB (.cells (sj.nx.map iv).toArray 3))))))))):=⟨_,H17⟩
 have H18:Sat h17 ((pt ZB ob2*(pt SB (.cells (Wo0 c ca calls.length cc pa Wb8.length pc da draws.length dc).toArray 28)*(pt RB ob*(We5 96 8 ea sj.ev.length ec (sj.ev.flatMap evc)*(mpS mo sj.cu*pt NB (.cells (sj.nx.map iv).toArray 3))))))*(We5 96 8 a10 sj.ev.length c10 (sj.ev.flatMap evc)*(suS Q M (W59 c.algo) (Wt1 c.algo) Ts sj.m*R))):=Sat.ac H17 (by ac_rfl)
 exact k1 hsc h17 a10 c10 Q M Ts sj hrun DJ H18.drop
end
end
section
set_option maxHeartbeats 1000000
open Mod
theorem WV0 (j n:Nat) (calls:List (List Cl)):Wf0 (j+1) n calls=Wf0 j n calls ++ [WP0 n (calls.getD j [])]:=by
 unfold Wf0
 rw [List.range_succ,List.map_append]
 rfl
theorem W62 (n:Nat) (l:List Cl):(WP0 n l).length=min n l.length:=by unfold WP0;rw [List.length_map,List.length_take]
theorem YZ5 {n k:Nat} {l:List Cl} (h:k < (WP0 n l).length):(WP0 n l).take (k+1)=(WP0 n l).take k ++ [clL (l.getD k cl0)]:=by
 have h2:=h
 rw [W62] at h2
 have e:(WP0 n l)[k]? = some (clL (l.getD k cl0)):=by
  unfold WP0
  rw [List.getElem?_map,List.getElem?_take_of_lt (by omega),List.getElem?_eq_getElem (by omega),List.getD_eq_getElem?_getD,List.getElem?_eq_getElem (by omega)]
  rfl
 rw [List.take_add_one,e]
 rfl
theorem W63 {f:Int→Int} {n i:Nat} {l:List Int} (h:i < ((l.take n).map f).length):((l.take n).map f).take (i+1)=((l.take n).map f).take i ++ [f (l.getD i 0)]:=by
 have h2:=h
 rw [List.length_map,List.length_take] at h2
 have e:((l.take n).map f)[i]? = some (f (l.getD i 0)):=by
  rw [List.getElem?_map,List.getElem?_take_of_lt (by omega),List.getElem?_eq_getElem (by omega),List.getD_eq_getElem?_getD,List.getElem?_eq_getElem (by omega)]
  rfl
 rw [List.take_add_one,e]
 rfl
theorem Yz4 (i:Nat) (h:i≤60000):s64 ((i:Int)+1)=((i+1:Nat):Int):=by unfold s64;omega
section
variable {K:Value→Wa1→Prop} {h:Wa1} {R:Hp}
theorem Yq9 {c0 c:Mod.Cf} {ca pa da:Option Addr} {cl cc0 pl pc0 dl dc0:Nat} {calls:List (List Cl)} {Wb8 draws:List Int} {n m:Nat} (H:Sat h R)
  (hS:∀h' P,Sat h' (P*R)→ScrI h' ca cl pa pl da dl calls Wb8 draws) (hth:1≤c.threads∧c.threads≤6) (hn:n≤1000) (hm:m≤60000)
  (k:∀h' ca' cc pa' pc da' dc ps,Sat h' (Zm9 ca' cc pa' pc da' dc ps (Wf0 c.threads.toNat n calls) (Wg3 c.threads m Wb8) (draws.take 4096)*R)→K (.agg #[.int .i64 c.algo,.int .i64 c.threads,.int .i64 c.nodes,.int .i64 c.level,.int .i64 c.batch,.int .i64 c.probes,.int .i64 c.scan,.slice ca' (Wf0 c.threads.toNat n calls).length cc,.slice pa' (Wg3 c.threads m Wb8).length pc,.slice da' (draws.take 4096).length dc]) h') :
  Wa5 Tryz.prog 7 #[.agg #[.int .i64 c0.algo,.int .i64 c0.threads,.int .i64 c0.nodes,.int .i64 c0.level,.int .i64 c0.batch,.int .i64 c0.probes,.int .i64 c0.scan,.slice ca cl cc0,.slice pa pl pc0,.slice da dl dc0],cfV c,.int .i64 n,.int .i64 m] h K:=by
 refine call7 ?_
 unfold F7 g7 bd lS lI dl3 dl7 W68 Zz3
 have H1:=H.push (.cells (Wo0 c0 ca cl cc0 pa pl pc0 da dl dc0).toArray 28)
 rw [show (.cells #[.int .i64 c0.algo,.int .i64 c0.threads,.int .i64 c0.nodes,.int .i64 c0.level,.int .i64 c0.batch,.int .i64 c0.probes,.int .i64 c0.scan,.slice ca cl cc0,.slice pa pl pc0,.slice da dl dc0] 28:Obj)=.cells (Wo0 c0 ca cl cc0 pa pl pc0 da dl dc0).toArray 28 from rfl]
 generalize h.push (.cells (Wo0 c0 ca cl cc0 pa pl pc0 da dl dc0).toArray 28)=h1 at *
 generalize h.size=SB at *
 have H2:=H1.push (.cells #[.int .i64 c.algo,.int .i64 c.threads,.int .i64 c.nodes,.int .i64 c.level,.int .i64 c.batch,.int .i64 c.probes,.int .i64 c.scan] 23)
 generalize h1.push (.cells #[.int .i64 c.algo,.int .i64 c.threads,.int .i64 c.nodes,.int .i64 c.level,.int .i64 c.batch,.int .i64 c.probes,.int .i64 c.scan] 23)=h2 at *
 generalize h1.size=CB at *
 have H3:=H2.push (.cells #[.int .i64 0,.int .i64 0,.int .i64 0,.int .i64 0,.int .i64 0,.int .i64 0,.int .i64 0,.slice none 0 0,.slice none 0 0,.slice none 0 0] 28)
 generalize h2.push (.cells #[.int .i64 0,.int .i64 0,.int .i64 0,.int .i64 0,.int .i64 0,.int .i64 0,.int .i64 0,.slice none 0 0,.slice none 0 0,.slice none 0 0] 28)=h3 at *
 generalize h2.size=RB at *
 refine ldR H3.at2 rfl (ldR H3.at2 rfl (ldR H3.at2 rfl (ldR H3.at2 rfl (ldR H3.at2 rfl (ldR H3.at2 rfl (ldR H3.at2 rfl ?_))))))
 have H4:=H3.push (.cells #[.int .i64 0,.int .i64 0,.int .i64 0,.int .i64 0,.int .i64 0,.int .i64 0,.int .i64 0,.slice none 0 0,.slice none 0 0,.slice none 0 0] 28)
 generalize h3.push (.cells #[.int .i64 0,.int .i64 0,.int .i64 0,.int .i64 0,.int .i64 0,.int .i64 0,.int .i64 0,.slice none 0 0,.slice none 0 0,.slice none 0 0] 28)=h4 at *
 generalize h3.size=TB at *
 refine ZC6 (Wd3 (vs:=Wo0 c none 0 0 none 0 0 none 0 0) H4.at rfl (by simp [Wo0,Wi3]) λh5 w=>?_)
 have H5:=H4.wr w.new w.old
 clear H1 H2 H3 H4 w
 generalize hFR:pt RB (.cells #[.int .i64 0,.int .i64 0,.int .i64 0,.int .i64 0,.int .i64 0,.int .i64 0,.int .i64 0,.slice none 0 0,.slice none 0 0,.slice none 0 0] 28)*(pt CB (.cells #[.int .i64 c.algo,.int .i64 c.threads,.int .i64 c.nodes,.int .i64 c.level,.int .i64 c.batch,.int .i64 c.probes,.int .i64 c.scan] 23)*(pt SB (.cells (Wo0 c0 ca cl cc0 pa pl pc0 da dl dc0).toArray 28)*R))=FR at H5
 have scr:∀ {h':Wa1} {X:Hp},Sat h' (X*FR)→h'[CB]? = some (.cells [.int .i64 c.algo,.int .i64 c.threads,.int .i64 c.nodes,.int .i64 c.level,.int .i64 c.batch,.int .i64 c.probes,.int .i64 c.scan].toArray 23)∧h'[SB]? = some (.cells (Wo0 c0 ca cl cc0 pa pl pc0 da dl dc0).toArray 28)∧ScrI h' ca cl pa pl da dl calls Wb8 draws:=by
  intro h' X H'
  subst hFR
  refine ⟨H'.drop.drop.at,H'.drop.drop.drop.at,hS h' emp ?_⟩
  rw [Wk6]
  exact H'.drop.drop.drop.drop
 have scr3:∀ {h':Wa1} {A B C:Hp},Sat h' (A*(B*(C*FR)))→h'[CB]? = some (.cells [.int .i64 c.algo,.int .i64 c.threads,.int .i64 c.nodes,.int .i64 c.level,.int .i64 c.batch,.int .i64 c.probes,.int .i64 c.scan].toArray 23)∧h'[SB]? = some (.cells (Wo0 c0 ca cl cc0 pa pl pc0 da dl dc0).toArray 28)∧ScrI h' ca cl pa pl da dl calls Wb8 draws:=fun {h' A B C} H'=>scr (X:=A*(B*C)) (by rw [Wc9,Wc9];exact H')
 obtain ⟨oc,os,si⟩:=scr H5
 refine ⟨λvs h'=>vs = [.bool false]∧h' = h5,?_,?_⟩
 ·refine ldR oc rfl ?_
  refine sb ?_
  refine Wa3 (λc1=>by omega) (λc1=>?_)
  refine ldR oc rfl ?_
  refine sb ?_
  rw [decide_eq_false (by omega:¬ c.threads > 6)]
  first | done | exact ⟨by trivial,by trivial⟩ | trivial
 rintro v22 g23 h24 ⟨e,rfl⟩
 cases e
 refine sb ?_
 clear oc os si
 refine ⟨λvs h'=>∃(j:Nat) (w1 w2:Value) (ca':Option Addr) (cc:Nat) (ps:List (Option Addr × Nat)),vs = [.int .i64 j,w1,w2]∧j≤c.threads.toNat∧ps.length=j∧Sat h' (pt TB (.cells (Wo0 c ca' j cc none 0 0 none 0 0).toArray 28)*(We5 46 1 ca' j cc ((ps.zip (Wf0 j n calls)).flatMap WX3)*(Wy3 ps (Wf0 j n calls)*FR))),λvs _=>match vs with | [.int _ i,_,_]=>(c.threads - i).toNat | _=>0,⟨0,_,_,none,0,[],rfl,Nat.zero_le _,rfl,?_⟩,?_⟩
 ·have H6:=H5.own_new 46 1
  have e0:Wy3 [] (Wf0 0 n calls)=emp:=by unfold Wy3;rfl
  rw [e0,Wk6]
  rw [Wb3] at H6
  exact H6
 rintro v58 v59 v60 g61 h62 ⟨j,w1,w2,ca',cc,ps,e,hj,hps,H6⟩
 cases e
 obtain ⟨oc,os,si⟩:=scr3 H6
 refine sb ?_
 refine ldR oc rfl ?_
 refine sb ?_
 refine Wa3 (λc1=>?_) (λc1=>?_)
 ·generalize hrow:calls.getD j []=row at *
  have hcl:=si.f.cs
  refine ⟨λvs h'=>∃(q:Nat) (la:Option Addr) (lc:Nat),vs = [.slice la q lc,.int .i64 q]∧q≤(WP0 n row).length∧Sat h' (We5 49 3 la q lc (((WP0 n row).take q).flatMap clc)*(pt TB (.cells (Wo0 c ca' j cc none 0 0 none 0 0).toArray 28)*(We5 46 1 ca' j cc ((ps.zip (Wf0 j n calls)).flatMap WX3)*(Wy3 ps (Wf0 j n calls)*FR)))),λvs _=>match vs with | [_,.int _ i]=>(2000 - i).toNat | _=>0,⟨0,none,0,rfl,Nat.zero_le _,H6.own_new 49 3⟩,?_⟩
  rintro v68 v69 g70 h71 ⟨q,la,lc,e,hq,H7⟩
  cases e
  clear oc os si
  obtain ⟨oc,os,si⟩:=scr3 H7.drop
  have hlen:=W62 n row
  have hrl:¬ j < calls.length→row = []:=λhh=>by
   rw [← hrow,List.getD_eq_getElem?_getD,List.getElem?_eq_none (by omega)]
   rfl
  refine ⟨λvs h'=>(∃w,vs = [w,.bool (decide (q < (WP0 n row).length))])∧h' = h71,?_,?_⟩
  ·refine sb ?_
   refine ldR os rfl ?_
   refine sb ?_
   refine Wa3 (λc2=>?_) (λc2=>?_)
   ·obtain ⟨ra,rc,⟨ad2,ea2,hcr⟩,hrw⟩:=si.f.row j (by omega)
    rw [hrow] at hcr hrw
    refine ldR os rfl ?_
    refine sb ?_
    subst ea2
    refine ⟨by omega,by omega,?_⟩
    refine sb ?_
    refine Wc5 hcr ?_
    refine sb ?_
    refine Wa3 (λc3=>?_) (λc3=>?_)
    ·rw [show decide ((q:Int) < (n:Int))=decide (q < (WP0 n row).length) by rw [decide_eq_decide];omega]
     first | exact ⟨⟨_,rfl⟩,by trivial⟩ | exact ⟨_,rfl⟩
    ·rw [decide_eq_false (by omega:¬ q < (WP0 n row).length)]
     first | exact ⟨⟨_,rfl⟩,by trivial⟩ | exact ⟨_,rfl⟩
   ·have:=hrl (by omega)
    rw [decide_eq_false (by rw [hlen,this];simp:¬ q < (WP0 n row).length)]
    first | exact ⟨⟨_,rfl⟩,by trivial⟩ | exact ⟨_,rfl⟩
  rintro v90 v91 g92 h93 ⟨⟨w,e⟩,rfl⟩
  cases e
  refine sb ?_
  refine Wa3 (λc2=>?_) (λc2=>?_)
  ·have hjl:j < calls.length:=Decidable.byContradiction λhh=>by
    have:=hrl hh
    rw [hlen,this] at c2
    simp at c2
   have hql:q < row.length:=by omega
   obtain ⟨ra,rc,⟨ad2,ea2,hcr⟩,hrw⟩:=si.f.row j hjl
   rw [hrow] at hcr hrw
   have hcq:row.getD q cl0=row[q]:=by rw [List.getD_eq_getElem?_getD,List.getElem?_eq_getElem hql];rfl
   have htk:=YZ5 c2
   generalize hcc:row.getD q cl0=cq at *
   have g0:=Wi5 Wx9 hql (j:=0) (by omega)
   have g1:=Wi5 Wx9 hql (j:=1) (by omega)
   have g2:=Wi5 Wx9 hql (j:=2) (by omega)
   rw [← hcq] at g0 g1 g2
   obtain ⟨ad3,ea3,hc0⟩:=hrw (q*3+0) (.int .i64 cq.op) g0
   subst ea3
   obtain ⟨_,ea4,hc1⟩:=hrw (q*3+1) (.int .u32 cq.key) g1
   cases ea4
   obtain ⟨_,ea4,hc2⟩:=hrw (q*3+2) (.int .u32 cq.val) g2
   cases ea4
   have aa:∀i,(ad3.add (q*3)).add i=ad3.add (q*3+i):=λi=>WK9 _ _ _
   rw [Nat.add_zero] at hc0
   refine ldR os rfl ?_
   refine sb ?_
   subst ea2
   refine ⟨by omega,by omega,?_⟩
   refine sb ?_
   refine Wc5 hcr ?_
   refine sb ?_
   refine ⟨by omega,by omega,?_⟩
   try simp only [Wb9,bsx,Nat.reduceAdd,Int.reduceLE,Int.reduceLT,Int.reduceToNat,aa]
   refine Wc5 hc0 (Wc5 hc1 (Wc5 hc2 ?_))
   have H8:=H7.push (.cells #[.int .i64 0,.int .u32 0,.int .u32 0] 49)
   generalize h93.push (.cells #[.int .i64 0,.int .u32 0,.int .u32 0] 49)=h94 at *
   generalize h93.size=AB at *
   refine st3 (Wd3 (vs:=clc cq) H8.at rfl (by simp [clc,Wi3]) λh112 w=>?_)
   have H9:=H8.wr w.new w.old
   clear H8 w
   refine ldR H9.at rfl ?_
   refine sb ?_
   refine ⟨by decide,by decide,?_⟩
   have H10:=H9.push (.cells #[.int .i64 0,.int .u32 0,.int .u32 0] 49)
   generalize h112.push (.cells #[.int .i64 0,.int .u32 0,.int .u32 0] 49)=h113 at *
   generalize h112.size=DB at *
   refine st3 (Wd3 (vs:=[.int .i64 (opL cq.op),.int .u32 0,.int .u32 0]) H10.at rfl (by simp [Wi3]) λh117 w=>?_)
   have H11:=H10.wr w.new w.old
   clear H10 w H9
   refine ⟨λvs h'=>Sat h' (pt DB (.cells (clc (clL cq)).toArray 49)*(pt AB (.cells (clc cq).toArray 49)*(We5 49 3 la q lc (((WP0 n row).take q).flatMap clc)*(pt TB (.cells (Wo0 c ca' j cc none 0 0 none 0 0).toArray 28)*(We5 46 1 ca' j cc ((ps.zip (Wf0 j n calls)).flatMap WX3)*(Wy3 ps (Wf0 j n calls)*FR)))))),?_,?_⟩
   ·refine ldR H11.at rfl ?_
    refine sb ?_
    refine Wb6 (λc3=>?_) (λc3=>?_)
    ·have c3:opL cq.op=0:=by simpa using c3
     refine ldR H11.at2 rfl ?_
     simp only [Wa6]
     refine H11.st (i:=1) rfl trivial λh1 H12=>?_
     refine ldR H12.at2 rfl ?_
     simp only [Wa6]
     refine H12.st (i:=2) rfl trivial λh2 H13=>?_
     have e:clL cq=⟨0,cq.key,cq.val⟩:=by unfold clL;rw [if_pos c3]
     rw [e]
     rw [c3] at H13
     exact H13
    ·have c3:¬ opL cq.op=0:=by simpa using c3
     have e:clL cq=⟨opL cq.op,0,0⟩:=by unfold clL;rw [if_neg c3]
     rw [e]
     exact H11
   rintro g127 h128 H12
   try simp only [Wb9,bsx,Nat.reduceAdd,Int.reduceLE,Int.reduceLT,Int.reduceToNat]
   refine ldR H12.at rfl (ldR H12.at rfl (ldR H12.at rfl ?_))
   have H13:Sat h128 (We5 49 3 la q lc (((WP0 n row).take q).flatMap clc)*(pt TB (.cells (Wo0 c ca' j cc none 0 0 none 0 0).toArray 28)*(We5 46 1 ca' j cc ((ps.zip (Wf0 j n calls)).flatMap WX3)*(Wy3 ps (Wf0 j n calls)*FR)))):=H12.drop.drop
   refine Zv1 (x:=clL cq) H13 (by omega) λa' c' h136 H14=>?_
   refine sb ?_
   rw [Yz4 q (by omega)]
   refine ⟨⟨q+1,a',c',rfl,by omega,by rw [htk];exact H14⟩,?_⟩
   show ((2000:Int) - ((q+1:Nat):Int)).toNat < ((2000:Int) - (q:Int)).toNat
   omega
  ·have eq:q=(WP0 n row).length:=by omega
   have et:(WP0 n row).take q=WP0 n row:=List.take_of_length_le (by omega)
   rw [et] at H7
   refine ldR H7.at2 rfl ?_
   refine sb ?_
   have H8:Sat h93 (We5 46 1 ca' j cc ((ps.zip (Wf0 j n calls)).flatMap WX3)*(pt TB (.cells (Wo0 c ca' j cc none 0 0 none 0 0).toArray 28)*(Wy3 ps (Wf0 j n calls)*(We5 49 3 la q lc ((WP0 n row).flatMap clc)*FR)))):=Sat.ac H7 (by ac_rfl)
   refine Zn2 (p:=(la,lc)) (x:=WP0 n row) H8 (by rw [hps,Wv4]) eq (by omega) λa' c' h149 H9=>?_
   refine sb ?_
   rw [Wb3] at H9
   refine H9.st (i:=7) rfl trivial λh153 H10=>?_
   try simp only [Wb9,bsx,Nat.reduceAdd,Int.reduceLE,Int.reduceLT,Int.reduceToNat]
   rw [Yz4 j (by omega)]
   refine ⟨⟨j+1,_,_,a',c',ps ++ [(la,lc)],rfl,by omega,by rw [List.length_append,hps];rfl,?_⟩,?_⟩
   ·rw [WV0,hrow,W02 (la,lc) _ _ _ (by rw [hps,Wv4]),Wc9]
    subst eq
    exact H10
   ·show (c.threads - ((j+1:Nat):Int)).toNat < (c.threads - (j:Int)).toNat
    omega
 have ej:j=c.threads.toNat:=by omega
 have hPL:(Wg3 c.threads m Wb8).length=min m Wb8.length:=by unfold Wg3;rw [List.length_map,List.length_take]
 generalize hCL:Wf0 j n calls=CL at *
 refine ⟨λvs h'=>∃(i:Nat) (pa':Option Addr) (pc:Nat),vs = [.int .i64 i]∧i≤(Wg3 c.threads m Wb8).length∧Sat h' (We5 3 1 pa' i pc (((Wg3 c.threads m Wb8).take i).map iv)*(pt TB (.cells (Wo0 c ca' j cc pa' i pc none 0 0).toArray 28)*(We5 46 1 ca' j cc ((ps.zip CL).flatMap WX3)*(Wy3 ps CL*FR)))),λvs _=>match vs with | [.int _ i]=>(70000 - i).toNat | _=>0,⟨0,none,0,rfl,Nat.zero_le _,H6.own_new 3 1⟩,?_⟩
 rintro v157 g158 h159 ⟨i,pa',pc,e,hi,H7⟩
 cases e
 clear oc os si H6
 obtain ⟨oc,os,si⟩:=scr3 H7.drop
 have hps2:=si.f.ps
 refine ⟨λvs h'=>vs = [.bool (decide (i < (Wg3 c.threads m Wb8).length))]∧h' = h159,?_,?_⟩
 ·refine sb ?_
  refine ldR os rfl ?_
  refine sb ?_
  refine Wa3 (λc2=>?_) (λc2=>?_)
  ·rw [show decide ((i:Int) < (m:Int))=decide (i < (Wg3 c.threads m Wb8).length) by rw [decide_eq_decide];omega]
   first | done | exact ⟨by trivial,by trivial⟩ | trivial
  ·rw [decide_eq_false (by omega:¬ i < (Wg3 c.threads m Wb8).length)]
   first | done | exact ⟨by trivial,by trivial⟩ | trivial
 rintro v167 g168 h169 ⟨e,rfl⟩
 cases e
 refine sb ?_
 refine Wa3 (λc2=>?_) (λc2=>?_)
 ·have hil:i < Wb8.length:=by omega
  have htk:=W63 (f:=Yp3 c.threads) c2
  have hpi:Wb8.getD i 0=Wb8[i]:=by rw [List.getD_eq_getElem?_getD,List.getElem?_eq_getElem hil];rfl
  obtain ⟨ad,ea,hc⟩:=si.f.pk i (.int .i64 (Wb8.getD i 0)) (by rw [hpi,List.getElem?_map,List.getElem?_eq_getElem hil];rfl)
  subst ea
  generalize Wb8.getD i 0=pk at *
  refine ldR H7.at2 rfl ?_
  refine sb ?_
  refine ldR os rfl ?_
  refine sb ?_
  refine ⟨by omega,by omega,?_⟩
  try simp only [Wb9,bsx,Nat.reduceAdd,Int.reduceLE,Int.reduceLT,Int.reduceToNat]
  refine Wc5 hc ?_
  refine sb ?_
  refine ldR oc rfl ?_
  refine sb ?_
  refine ⟨by omega,?_⟩
  refine ldR oc rfl ?_
  refine sb ?_
  refine ldR oc rfl ?_
  refine sb ?_
  refine ⟨by omega,Wc4 (Wd5 H7.at2 rfl),?_⟩
  refine Zv2 (x:=Yp3 c.threads pk) H7 (by omega) λa' c' h190 H8=>?_
  refine sb ?_
  rw [Wb3] at H8
  refine H8.st (i:=8) rfl trivial λh194 H9=>?_
  try simp only [Wb9,bsx,Nat.reduceAdd,Int.reduceLE,Int.reduceLT,Int.reduceToNat]
  rw [Yz4 i (by omega)]
  rw [Wb3] at H9
  refine ⟨⟨i+1,a',c',rfl,by omega,?_⟩,?_⟩
  ·have htk:(Wg3 c.threads m Wb8).take (i+1)=(Wg3 c.threads m Wb8).take i ++ [Yp3 c.threads pk]:=htk
   rw [htk]
   exact H9
  ·show ((70000:Int) - ((i+1:Nat):Int)).toNat < ((70000:Int) - (i:Int)).toNat
   omega
 have ei:i=(Wg3 c.threads m Wb8).length:=by omega
 have et:(Wg3 c.threads m Wb8).take i=Wg3 c.threads m Wb8:=List.take_of_length_le (by omega)
 rw [et] at H7
 generalize hPP:Wg3 c.threads m Wb8=PP at *
 have hDL:(draws.take 4096).length=min 4096 draws.length:=List.length_take ..
 refine ⟨λvs h'=>∃(d:Nat) (da':Option Addr) (dc:Nat),vs = [.int .i64 d]∧d≤(draws.take 4096).length∧Sat h' (We5 5 1 da' d dc (((draws.take 4096).take d).map u8v)*(pt TB (.cells (Wo0 c ca' j cc pa' i pc da' d dc).toArray 28)*(We5 3 1 pa' i pc (PP.map iv)*(We5 46 1 ca' j cc ((ps.zip CL).flatMap WX3)*(Wy3 ps CL*FR))))),λvs _=>match vs with | [.int _ i]=>(70000 - i).toNat | _=>0,⟨0,none,0,rfl,Nat.zero_le _,?_⟩,?_⟩
 ·rw [Wb3] at H7
  exact H7.own_new 5 1
 rintro v198 g199 h200 ⟨d,da',dc,e,hd,H8⟩
 cases e
 clear oc os si H7
 obtain ⟨oc,os,si⟩:=scr3 H8.drop.drop
 have hds:=si.ds
 refine ⟨λvs h'=>vs = [.bool (decide (d < (draws.take 4096).length))]∧h' = h200,?_,?_⟩
 ·refine sb ?_
  refine ldR os rfl ?_
  refine sb ?_
  refine Wa3 (λc3=>?_) (λc3=>?_)
  ·rw [show decide ((d:Int) < 4096)=decide (d < (draws.take 4096).length) by rw [decide_eq_decide];omega]
   first | done | exact ⟨by trivial,by trivial⟩ | trivial
  ·rw [decide_eq_false (by omega:¬ d < (draws.take 4096).length)]
   first | done | exact ⟨by trivial,by trivial⟩ | trivial
 rintro v208 g209 h210 ⟨e,rfl⟩
 cases e
 refine sb ?_
 refine Wa3 (λc3=>?_) (λc3=>?_)
 ·have hdl:d < draws.length:=by omega
  have htk:(draws.take 4096).take (d+1)=(draws.take 4096).take d ++ [draws[d]]:=by
   rw [List.take_succ_eq_append_getElem c3,List.getElem_take]
  obtain ⟨ad,ea,hc⟩:=si.dr d (.int .u8 draws[d]) (by rw [List.getElem?_map,List.getElem?_eq_getElem hdl];rfl)
  subst ea
  generalize draws[d]=dk at *
  refine ldR H8.at2 rfl ?_
  refine sb ?_
  refine ldR os rfl ?_
  refine sb ?_
  refine ⟨by omega,by omega,?_⟩
  try simp only [Wb9,bsx,Nat.reduceAdd,Int.reduceLE,Int.reduceLT,Int.reduceToNat]
  refine Wc5 hc ?_
  refine sb ?_
  refine ⟨Wc4 (Wd5 H8.at2 rfl),?_⟩
  refine Zv3 (x:=dk) H8 (by omega) λa' c' h225 H9=>?_
  refine sb ?_
  rw [Wb3] at H9
  refine H9.st (i:=9) rfl trivial λh229 H10=>?_
  try simp only [Wb9,bsx,Nat.reduceAdd,Int.reduceLE,Int.reduceLT,Int.reduceToNat]
  rw [Yz4 d (by omega)]
  rw [Wb3] at H10
  refine ⟨⟨d+1,a',c',rfl,by omega,by rw [htk];exact H10⟩,?_⟩
  show ((70000:Int) - ((d+1:Nat):Int)).toNat < ((70000:Int) - (d:Int)).toNat
  omega
 have ed:d=(draws.take 4096).length:=by omega
 have et2:(draws.take 4096).take d=draws.take 4096:=List.take_of_length_le (by omega)
 rw [et2] at H8
 rw [← hFR] at H8
 have H9:Sat h210 (pt RB (.cells #[.int .i64 0,.int .i64 0,.int .i64 0,.int .i64 0,.int .i64 0,.int .i64 0,.int .i64 0,.slice none 0 0,.slice none 0 0,.slice none 0 0] 28)*(pt TB (.cells (Wo0 c ca' j cc pa' i pc da' d dc).toArray 28)*(pt CB (.cells #[.int .i64 c.algo,.int .i64 c.threads,.int .i64 c.nodes,.int .i64 c.level,.int .i64 c.batch,.int .i64 c.probes,.int .i64 c.scan] 23)*(pt SB (.cells (Wo0 c0 ca cl cc0 pa pl pc0 da dl dc0).toArray 28)*(We5 46 1 ca' j cc ((ps.zip CL).flatMap WX3)*(Wy3 ps CL*(We5 3 1 pa' i pc (PP.map iv)*(We5 5 1 da' d dc ((draws.take 4096).map u8v)*R)))))))):=Sat.ac H8 (by ac_rfl)
 have OT:=H9.at2
 refine ldR OT rfl (ldR OT rfl (ldR OT rfl (ldR OT rfl (ldR OT rfl (ldR OT rfl (ldR OT rfl (ldR OT rfl (ldR OT rfl (ldR OT rfl ?_)))))))))
 refine ZC6 (Wd3 (vs:=Wo0 c ca' j cc pa' i pc da' d dc) H9.at rfl (by simp [Wo0,Wi3]) λh250 w=>?_)
 have H10:=H9.wr w.new w.old
 have OR:=H10.at
 refine ldR OR rfl (ldR OR rfl (ldR OR rfl (ldR OR rfl (ldR OR rfl (ldR OR rfl (ldR OR rfl (ldR OR rfl (ldR OR rfl (ldR OR rfl ?_)))))))))
 have eCL:CL=Wf0 c.threads.toNat n calls:=by rw [← hCL,ej]
 have eL:CL.length=j:=by rw [← hCL,Wv4]
 rw [eCL] at eL
 have hk:=k h250 ca' cc pa' pc da' dc ps (Yy5.2 ⟨by rw [hps,eL],by rw [eL,← eCL,← ei,← ed];exact H10.drop.drop.drop.drop⟩)
 rw [eL,← ei,← ed] at hk
 exact hk
end
end
section
open Mod
section
variable {x:Run} {sl th:Int}
theorem Zd3 (hs:0 < sl) (hne:x.t.fr≠[]) (h:Adj sl th x) (e:x.f.fn=1):Nx sl th x (alloc x):=by
 have r:=h.r hne
 rw [e] at r
 unfold alloc;dsimp only
 repeat' split
 all_goals exact Wl1
theorem YH6 (hs:0 < sl) (hne:x.t.fr≠[]) (h:Adj sl th x) (e:x.f.fn=2):Nx sl th x (Ww4 x):=by
 have r:=h.r hne
 rw [e] at r
 unfold Ww4;dsimp only
 repeat' split
 all_goals exact Wl1
theorem YH7 (hs:0 < sl) (hne:x.t.fr≠[]) (h:Adj sl th x) (e:x.f.fn=3):Nx sl th x (Ww6 x):=by
 have r:=h.r hne
 rw [e] at r
 unfold Ww6;dsimp only
 repeat' split
 all_goals exact Wl1
theorem Zo4 (hsl:sl=x.m.p.slots) (hs:0 < sl) (hne:x.t.fr≠[]) (h:Adj sl th x) (e:x.f.fn=4):Nx sl th x (Y81 x):=by
 have r:=h.r hne
 rw [e] at r
 unfold Y81;dsimp only
 split
 ·rename_i c
  refine ⟨by exact Yi0,.inr (AdjR.ltPop r hne rfl r hne ?_)⟩
  have c2:fA sl th 4 x.f.pc=false:=by simp [fA];omega
  rw [c2]
  simp [fW]
 ·exact Wl1
theorem Zo5 (y:Run) (r:List Int) (h:y.t.fr≠[]):(y.pop r).t.fr.reverse=rst y:=by
 show (y.t.pop r).fr.reverse=_
 unfold Thr.pop
 rw [if_neg h]
 rfl
theorem YZ6 (ha:0 < sl*th) (hne:x.t.fr≠[]) (h:Adj sl th x) (e:x.f.fn=5):Nx sl th x (WG7 x):=by
 have r:=h.r hne
 rw [e] at r
 unfold WG7;dsimp only
 generalize hz:((x.gh λg=>g.turn (s64 (x.f.g 0)) 1 2 2).re ((x.gh λg=>g.turn (s64 (x.f.g 0)) 1 2 2).t.retired ++ [s64 (x.f.g 0)]))=z
 have hzn:z.t.fr≠[]:=by subst hz;exact hne
 have rz:AdjR sl th 5 (rst x) z:=by subst hz;exact r.gh.re
 have hm:mu sl th x=3+muL sl th (rst x):=by
  rw [r.mu hne rfl]
  simp [fW,fA]
 have hp:(z.pop []).t.fr.reverse=rst x:=by rw [Zo5 _ _ hzn];exact rz.e
 split
 ·refine ⟨Adj.push rz.pop ?_,.inr ?_⟩
  ·rw [hp]
   cases hl:rst x with
   | nil=>trivial
   | cons f l=>
    have o:=r.o
    rw [hl] at o
    exact o
  ·rw [W57,hm]
   simp [fW,fA,ha]
   omega
 ·refine ⟨rz.pop,.inr ?_⟩
  rw [YZ2 _ hzn,rz.e,hm]
  omega
theorem AdjR.push {fn i:Int} {l:List Frm} {r:List Int} {y:Run} (h:AdjR sl th fn l y) (hne:y.t.fr≠[]) (hd:fR i < fR fn):Adj sl th (y.push i r):=by
 refine Adj.push (h.all hne) ?_
 rw [WN0 hne]
 exact .inr (by rw [h.f];exact hd)
theorem Zo6 (hsl:sl=x.m.p.slots) (hth:th=x.m.p.c.threads) (hne:x.t.fr≠[]) (h:Adj sl th x) (e:x.f.fn=6):Nx sl th x (scan x):=by
 have r:=h.r hne
 rw [e] at r
 have h0:∀y:Run,y=(if x.f.pc=0 then x.fo [] else x)→AdjR sl th 6 (rst x) y∧y.t.fr≠[]∧y.f.pc=x.f.pc:=by
  rintro y rfl
  split
  ·exact ⟨r.fo,hne,rfl⟩
  ·exact ⟨r,hne,rfl⟩
 unfold scan
 dsimp only
 generalize hy:(if x.f.pc=0 then x.fo [] else x)=y
 obtain ⟨ry,hny,hpc⟩:=h0 y hy.symm
 rw [← hsl,← hth]
 split
 ·exact ⟨by exact Yi0,.inl (by (focus (refine Tch.act ?_;(with_reducible repeat' constructor))))⟩
 ·rename_i c
  have hm:mu sl th x=2+muL sl th (rst x):=by
   rw [r.mu hne rfl]
   have c2:fA sl th 6 x.f.pc=false:=by simp [fA];omega
   rw [c2]
   simp [fW]
  have hA:AdjR sl th 6 (rst x) (WG8 y (sl*th))∧(WG8 y (sl*th)).t.fr≠[]:=by
   unfold WG8
   split
   ·exact ⟨by exact W08,Wt0 _ _⟩
   ·exact ⟨ry,hny⟩
  generalize WG8 y (sl*th)=z at *
  obtain ⟨rz,hzn⟩:=hA
  unfold Yk3
  split
  ·refine ⟨rz.pop,.inr ?_⟩
   rw [YZ2 _ hzn,rz.e,hm]
   omega
  ·rename_i n rest e2
   refine ⟨AdjR.push (l:=rst x) (fn:=6) (by exact W08) hzn (by decide),.inr ?_⟩
   rw [W57,hm]
   simp [fW,fA]
   omega
theorem YH8 (hs:0 < sl) (hne:x.t.fr≠[]) (h:Adj sl th x) (e:x.f.fn=1∨x.f.fn=2):Nx sl th x (Ww5 x):=by
 unfold Ww5
 rw [if_neg hne]
 rcases e with e | e
 ·rw [if_pos e];exact Zd3 hs hne h e
 ·rw [if_neg (by omega),if_pos e];exact YH6 hs hne h e
theorem WF3 (hsl:sl=x.m.p.slots) (hth:th=x.m.p.c.threads) (hs:0 < sl) (ha:0 < sl*th) (hne:x.t.fr≠[]) (h:Adj sl th x) (e:1≤x.f.fn∧x.f.fn≤6):Nx sl th x (Wn6 x):=by
 unfold Wn6
 rw [if_neg hne]
 by_cases e3:x.f.fn=3
 ·rw [if_pos e3];exact YH7 hs hne h e3
 rw [if_neg e3]
 by_cases e4:x.f.fn=4
 ·rw [if_pos e4];exact Zo4 hsl hs hne h e4
 rw [if_neg e4]
 by_cases e5:x.f.fn=5
 ·rw [if_pos e5];exact YZ6 ha hne h e5
 rw [if_neg e5]
 by_cases e6:x.f.fn=6
 ·rw [if_pos e6];exact Zo6 hsl hth hne h e6
 rw [if_neg e6]
 exact YH8 hs hne h (by omega)
end
end
section
open Mod
theorem YZ7 (c:Int):∀(k i:Nat),(i:Int)≤lev c k i∧lev c k i≤i+k∧(1≤k→(i:Int)+1≤lev c k i)
 | 0,i=>by unfold lev;omega
 | k+1,i=>by
  have ih:=YZ7 c k (i+1)
  unfold lev
  split <;> omega
theorem Zo7 (m:Mac) {n:Int} (h:1≤n):1≤(m.lvl n).1∧(m.lvl n).1≤n:=by
 unfold Mac.lvl
 rw [if_neg (by omega)]
 have:=YZ7 m.take.1 n.toNat 0
 show 1≤lev m.take.1 n.toNat 0∧lev m.take.1 n.toNat 0≤n
 omega
def Wl7 (L sl th:Int) (f:Frm):Prop:=Wz3 sl th f∨f.r.length=10∧(f.fn=21∧(0≤f.pc∧f.pc≤17∨f.pc=90)∧(3≤f.pc→f.pc≤14→1≤f.g 3∧f.g 3≤L)∧(f.pc=9∨f.pc=10∨f.pc=13∨f.pc=14→0≤f.g 5∧f.g 5 < f.g 3)∧(f.pc=12→0≤f.g 5) ∨
 (f.fn=22∨f.fn=23)∧(0≤f.pc∧f.pc≤13∨f.pc=90)∨f.fn=20∧0≤f.pc∧f.pc≤8∧(f.pc≠0→0≤s64 (f.g 1)∧s64 (f.g 1) < L))
theorem Wu0 {L sl th fn:Int} {l:List Int} (h:1≤fn∧fn≤6∨20≤fn∧fn≤23) (hs:0≤sl) (ht:0≤sl*th):Wl7 L sl th ⟨fn,0,pad 10 l⟩:=by
 by_cases c:fn≤6
 ·exact .inl (Yf5 (by omega) hs ht)
 ·refine .inr ⟨WD9 _ _,?_⟩
  dsimp only
  omega
theorem Yr0 {L sl th:Int} {f:Frm} (h:Wl7 L sl th f) (e:f.fn=21):f.r.length=10∧(0≤f.pc∧f.pc≤17∨f.pc=90)∧(3≤f.pc→f.pc≤14→1≤f.g 3∧f.g 3≤L)∧(f.pc=9∨f.pc=10∨f.pc=13∨f.pc=14→0≤f.g 5∧f.g 5 < f.g 3)∧(f.pc=12→0≤f.g 5):=by
 unfold Wl7 Wz3 at h
 rcases h with ⟨h0,h1⟩ | ⟨h0,h1⟩
 ·exact ⟨h0,by omega,by omega,by omega,by omega⟩
 ·refine ⟨h0,?_⟩
  rcases h1 with h1 | h1 | h1
  ·exact h1.2
  ·omega
  ·omega
theorem Zd4 {L sl th:Int} {f:Frm} (h:Wl7 L sl th f) (e:f.fn=22∨f.fn=23):f.r.length=10∧(0≤f.pc∧f.pc≤13∨f.pc=90):=by
 unfold Wl7 Wz3 at h
 rcases h with ⟨h0,h1⟩ | ⟨h0,h1⟩
 ·exact ⟨h0,by omega⟩
 ·refine ⟨h0,?_⟩
  rcases h1 with h1 | h1 | h1
  ·omega
  ·exact h1.2
  ·omega
theorem Zo8 {L sl th:Int} {f:Frm} (h:Wl7 L sl th f) (e:f.fn=20):f.r.length=10∧0≤f.pc∧f.pc≤8∧(f.pc≠0→0≤s64 (f.g 1)∧s64 (f.g 1) < L):=by
 unfold Wl7 Wz3 at h
 rcases h with ⟨h0,h1⟩ | ⟨h0,h1⟩
 ·exact ⟨h0,by omega,by omega,by omega⟩
 ·refine ⟨h0,?_⟩
  rcases h1 with h1 | h1 | h1
  ·omega
  ·omega
  ·exact h1.2
theorem ZB3 {L sl th:Int} {f:Frm} (h:Wl7 L sl th f) (e:¬ (20≤f.fn∧f.fn≤23)):Wz3 sl th f:=by
 unfold Wl7 at h
 rcases h with h | ⟨_,h⟩
 ·exact h
 ·omega
section
variable {x:Run} {L sl th:Int}
theorem Wu4 (x:Run) (a:Int):(x.drop1 a).2.f=x.f:=rfl
theorem Wq0 (x:Run) (a b c:Int):(x.swingA a b c).2.f=x.f:=rfl
theorem Yr1 (h:AllF (Wl7 L sl th) x) (hL:L=x.m.p.c.level) (hl:1≤L∧L≤6) (s0:0≤sl) (t0:0≤sl*th) (o:Wl7 L sl th x.f) (e:x.f.fn=21):AllF (Wl7 L sl th) (Ww9 x):=by
 have r:=h.rest
 obtain ⟨len,o1,o2,o3,o4⟩:=Yr0 o e
 unfold Ww9;dsimp only
 repeat' split
 all_goals ((repeat (with_reducible first | apply AllF.load | apply AllF.store | apply AllF.cas | apply AllF.add | apply AllF.swing | apply AllF.swingA | apply AllF.swingM | apply AllF.drop1 | apply AllF.guard | apply AllF.gh | apply AllF.fo | apply AllF.re | apply AllF.setPl));first | with_reducible assumption | ((with_reducible first | apply Rest.pop | apply Rest.call | apply Rest.allPc | apply Rest.allS | apply Rest.fin);(focus (refine Lo.rest ?_ (by assumption);(with_reducible repeat' constructor)))))
 ·exact YL8
 ·exact Wu0 (by omega) s0 t0
 ·exact YL8
 ·exact YL8
 ·exact Wu0 (by omega) s0 t0
 ·exact YL8
 ·exact Wu0 (by omega) s0 t0
theorem YZ8 (h:AllF (Wl7 L sl th) x) (hL:L=x.m.p.c.level) (hl:1≤L∧L≤6) (s0:0≤sl) (t0:0≤sl*th) (o:Wl7 L sl th x.f) (e:x.f.fn=21) (hp:3≤x.f.pc∧x.f.pc≤7):AllF (Wl7 L sl th) (Ya4 x):=by
 have r:=h.rest
 obtain ⟨len,o1,o2,o3,o4⟩:=Yr0 o e
 have u5:0≤Mod.u64 (x.f.g 5+1):=by unfold Mod.u64;omega
 unfold Ya4;dsimp only
 repeat' split
 all_goals ((repeat (with_reducible first | apply AllF.load | apply AllF.store | apply AllF.cas | apply AllF.add | apply AllF.swing | apply AllF.swingA | apply AllF.swingM | apply AllF.drop1 | apply AllF.guard | apply AllF.gh | apply AllF.fo | apply AllF.re | apply AllF.setPl));first | with_reducible assumption | ((with_reducible first | apply Rest.pop | apply Rest.call | apply Rest.allPc | apply Rest.allS | apply Rest.fin);(focus (refine Lo.rest ?_ (by assumption);(with_reducible repeat' constructor)))))
 all_goals first | exact Wu0 (by omega) s0 t0 | exact YL8
theorem Yr2 (h:AllF (Wl7 L sl th) x) (hL:L=x.m.p.c.level) (hl:1≤L∧L≤6) (s0:0≤sl) (t0:0≤sl*th) (o:Wl7 L sl th x.f) (e:x.f.fn=21) (hp:12≤x.f.pc∧x.f.pc≤14):AllF (Wl7 L sl th) (Ww8 x):=by
 have r:=h.rest
 obtain ⟨len,o1,o2,o3,o4⟩:=Yr0 o e
 have u5:0≤Mod.u64 (x.f.g 5+1):=by unfold Mod.u64;omega
 unfold Ww8;dsimp only
 repeat' split
 all_goals ((repeat (with_reducible first | apply AllF.load | apply AllF.store | apply AllF.cas | apply AllF.add | apply AllF.swing | apply AllF.swingA | apply AllF.swingM | apply AllF.drop1 | apply AllF.guard | apply AllF.gh | apply AllF.fo | apply AllF.re | apply AllF.setPl));first | with_reducible assumption | ((with_reducible first | apply Rest.pop | apply Rest.call | apply Rest.allPc | apply Rest.allS | apply Rest.fin);(focus (refine Lo.rest ?_ (by assumption);(with_reducible repeat' constructor)))))
 all_goals first | exact Wu0 (by omega) s0 t0 | exact YL8
theorem Yr3 (h:AllF (Wl7 L sl th) x) (hL:L=x.m.p.c.level) (hl:1≤L∧L≤6) (s0:0≤sl) (t0:0≤sl*th) (o:Wl7 L sl th x.f) (e:x.f.fn=21) (hp:8≤x.f.pc∧x.f.pc≤11):AllF (Wl7 L sl th) (Ww7 x):=by
 have r:=h.rest
 obtain ⟨len,o1,o2,o3,o4⟩:=Yr0 o e
 have u5:0≤Mod.u64 (x.f.g 5+1):=by unfold Mod.u64;omega
 have g3:=o2 (by omega) (by omega)
 unfold Ww7;dsimp only
 repeat' split
 all_goals ((repeat (with_reducible first | apply AllF.load | apply AllF.store | apply AllF.cas | apply AllF.add | apply AllF.swing | apply AllF.swingA | apply AllF.swingM | apply AllF.drop1 | apply AllF.guard | apply AllF.gh | apply AllF.fo | apply AllF.re | apply AllF.setPl));first | with_reducible assumption | ((with_reducible first | apply Rest.pop | apply Rest.call | apply Rest.allPc | apply Rest.allS | apply Rest.fin);(focus (refine Lo.rest ?_ (by assumption);(with_reducible repeat' constructor)))))
 all_goals first | exact Wu0 (by omega) s0 t0 | exact YL8 | skip
 rw [f_s]
 have e3:((x.f.s 5 0).at 9).g 3=x.f.g 3:=by rw [WN6,Wa8 _ (by decide)]
 have e5:((x.f.s 5 0).at 9).g 5=0:=by rw [WN6,g_s len (by decide)]
 refine .inr ⟨by rw [Wh3,Wk3];exact len,.inl ⟨e,.inl ⟨by rw [Wx6];omega,by rw [Wx6];omega⟩,λ_ _=>by rw [e3];exact g3,λ_=>by rw [e3,e5];omega,λ_=>by rw [e5];omega⟩⟩
theorem YZ9 {f:Frm} (len:f.r.length=10) (e:f.fn=22∨f.fn=23) (hp:0≤f.pc∧f.pc≤13∨f.pc=90):Wl7 L sl th f:=.inr ⟨len,.inr (.inl ⟨e,hp⟩)⟩
theorem YH9 (h:AllF (Wl7 L sl th) x) (s0:0≤sl) (t0:0≤sl*th) (o:Wl7 L sl th x.f) (e:x.f.fn=22∨x.f.fn=23):AllF (Wl7 L sl th) (Wy9 x):=by
 have r:=h.rest
 obtain ⟨len,o1⟩:=Zd4 o e
 unfold Wy9 Wy8;dsimp only
 repeat' split
 all_goals ((repeat (with_reducible first | apply AllF.load | apply AllF.store | apply AllF.cas | apply AllF.add | apply AllF.swing | apply AllF.swingA | apply AllF.swingM | apply AllF.drop1 | apply AllF.guard | apply AllF.gh | apply AllF.fo | apply AllF.re | apply AllF.setPl));first | with_reducible assumption | ((with_reducible first | apply Rest.pop | apply Rest.call | apply Rest.allPc | apply Rest.allS | apply Rest.fin);(focus (refine Lo.rest ?_ (by assumption);(with_reducible repeat' constructor)))))
 all_goals first | exact Wu0 (by omega) s0 t0 | exact Y48 | exact Zx1
theorem YI0 (h:AllF (Wl7 L sl th) x) (s0:0≤sl) (t0:0≤sl*th) (o:Wl7 L sl th x.f) (e:x.f.fn=22∨x.f.fn=23):AllF (Wl7 L sl th) (Wz0 x):=by
 have r:=h.rest
 obtain ⟨len,o1⟩:=Zd4 o e
 unfold Wz0;dsimp only
 repeat' split
 all_goals ((repeat (with_reducible first | apply AllF.load | apply AllF.store | apply AllF.cas | apply AllF.add | apply AllF.swing | apply AllF.swingA | apply AllF.swingM | apply AllF.drop1 | apply AllF.guard | apply AllF.gh | apply AllF.fo | apply AllF.re | apply AllF.setPl));first | with_reducible assumption | ((with_reducible first | apply Rest.pop | apply Rest.call | apply Rest.allPc | apply Rest.allS | apply Rest.fin);(focus (refine Lo.rest ?_ (by assumption);(with_reducible repeat' constructor)))))
 all_goals first | exact Wu0 (by omega) s0 t0 | exact Y48 | exact Zx1
theorem YI1 (h:AllF (Wl7 L sl th) x) (s0:0≤sl) (t0:0≤sl*th) (o:Wl7 L sl th x.f) (e:x.f.fn=22∨x.f.fn=23):AllF (Wl7 L sl th) (Wz1 x):=by
 have r:=h.rest
 obtain ⟨len,o1⟩:=Zd4 o e
 unfold Wz1;dsimp only
 repeat' split
 all_goals ((repeat (with_reducible first | apply AllF.load | apply AllF.store | apply AllF.cas | apply AllF.add | apply AllF.swing | apply AllF.swingA | apply AllF.swingM | apply AllF.drop1 | apply AllF.guard | apply AllF.gh | apply AllF.fo | apply AllF.re | apply AllF.setPl));first | with_reducible assumption | ((with_reducible first | apply Rest.pop | apply Rest.call | apply Rest.allPc | apply Rest.allS | apply Rest.fin);(focus (refine Lo.rest ?_ (by assumption);(with_reducible repeat' constructor)))))
 all_goals first | exact Wu0 (by omega) s0 t0 | exact Y48 | exact Zx1
theorem Yr4 (h:AllF (Wl7 L sl th) x) (s0:0≤sl) (t0:0≤sl*th) (o:Wl7 L sl th x.f) (e:x.f.fn=22∨x.f.fn=23):AllF (Wl7 L sl th) (Wq8 x):=by
 have r:=h.rest
 obtain ⟨len,o1⟩:=Zd4 o e
 unfold Wq8 Wy8;dsimp only
 repeat' split
 all_goals ((repeat (with_reducible first | apply AllF.load | apply AllF.store | apply AllF.cas | apply AllF.add | apply AllF.swing | apply AllF.swingA | apply AllF.swingM | apply AllF.drop1 | apply AllF.guard | apply AllF.gh | apply AllF.fo | apply AllF.re | apply AllF.setPl));first | with_reducible assumption | ((with_reducible first | apply Rest.pop | apply Rest.call | apply Rest.allPc | apply Rest.allS | apply Rest.fin);(focus (refine Lo.rest ?_ (by assumption);(with_reducible repeat' constructor)))))
 all_goals first | exact Wu0 (by omega) s0 t0 | exact Y48 | exact Zx1
end
end
section
set_option maxHeartbeats 1000000
open Mod
section
variable {x:Run} {L sl th:Int}
theorem WV1 {y:Run} {l:List Frm} (r:AdjR sl th 20 l y):Adj sl th (Wq7 y):=by
 unfold Wq7;dsimp only
 split
 all_goals exact Yi0
theorem Yg5 {y:Run} {l:List Frm} {w:Int} (r:AdjR sl th 20 l y):Adj sl th (WL3 y w):=by
 unfold WL3;dsimp only
 repeat' split
 ·exact Yi0
 ·exact WV1 (l:=l) (by exact W08)
 ·exact Yi0
theorem WV2 {y:Run} (h:Tch y):Tch (Wq7 y):=by
 unfold Wq7;dsimp only
 split
 all_goals (with_reducible repeat' (first | assumption | constructor))
theorem Yg6 {y:Run} {w:Int} (h:Tch y):Tch (WL3 y w):=by
 unfold WL3;dsimp only
 repeat' split
 ·with_reducible repeat' (first | assumption | constructor)
 ·exact WV2 (by with_reducible repeat' (first | assumption | constructor))
 ·with_reducible repeat' (first | assumption | constructor)
theorem Zd5 (hs:0 < sl) (hne:x.t.fr≠[]) (h:Adj sl th x) (e:x.f.fn=20) (hp:3≤x.f.pc∧x.f.pc≤7):Nx sl th x (W33 x):=by
 have r:=h.r hne
 rw [e] at r
 unfold W33;dsimp only
 repeat' split
 all_goals first
  | exact ⟨Yg5 (l:=rst x) (by exact W08),.inl (Tch.act (Yg6 (by (with_reducible repeat' constructor))))⟩
  | exact ⟨WV1 (l:=rst x) (by exact W08),.inl (Tch.act (WV2 (by (with_reducible repeat' constructor))))⟩
  | exact Wl1
  | omega
theorem Zd6 (hs:0 < sl) (hne:x.t.fr≠[]) (h:Adj sl th x) (e:x.f.fn=20) (hp:0≤x.f.pc∧x.f.pc≤8):Nx sl th x (W34 x):=by
 have r:=h.r hne
 rw [e] at r
 unfold W34;dsimp only
 repeat' split
 all_goals first
  | exact Zd5 hs hne h e (by omega)
  | exact ⟨Yg5 (l:=rst x) (by exact W08),.inl (Tch.act (Yg6 (by (with_reducible repeat' constructor))))⟩
  | exact Wl1
theorem Y00 (hsl:sl=x.m.p.slots) (hth:th=x.m.p.c.threads) (hs:0 < sl) (ha:0 < sl*th) (hne:x.t.fr≠[]) (h:Adj sl th x) (e:1≤x.f.fn∧x.f.fn≤6∨x.f.fn=20∧0≤x.f.pc∧x.f.pc≤8):Nx sl th x (WH0 x):=by
 unfold WH0
 rw [if_neg hne]
 by_cases c:x.f.fn=20
 ·rw [if_pos c];exact Zd6 hs hne h c (by omega)
 ·rw [if_neg c];exact WF3 hsl hth hs ha hne h (by omega)
theorem Y01 (hs:0 < sl) (ha:0 < sl*th) (hne:x.t.fr≠[]) (h:Adj sl th x) (e:x.f.fn=21) (hp:0≤x.f.pc∧x.f.pc≤2):Nx sl th x (WH1 x):=by
 have r:=h.r hne
 rw [e] at r
 unfold WH1;dsimp only
 repeat' split
 all_goals first | exact WW1 | omega
theorem Zd7 (hs:0 < sl) (hne:x.t.fr≠[]) (h:Adj sl th x) (e:x.f.fn=21) (hp:3≤x.f.pc∧x.f.pc≤7):Nx sl th x (Ya4 x):=by
 have r:=h.r hne
 rw [e] at r
 unfold Ya4;dsimp only
 repeat' split
 all_goals first | exact Wl1 | omega
theorem YI2 (hs:0 < sl) (hne:x.t.fr≠[]) (h:Adj sl th x) (e:x.f.fn=21) (hp:8≤x.f.pc∧x.f.pc≤11):Nx sl th x (Ww7 x):=by
 have r:=h.r hne
 rw [e] at r
 unfold Ww7;dsimp only
 repeat' split
 all_goals first | exact Wl1 | omega
theorem YI3 (hs:0 < sl) (hne:x.t.fr≠[]) (h:Adj sl th x) (e:x.f.fn=21) (hp:12≤x.f.pc∧x.f.pc≤14):Nx sl th x (Ww8 x):=by
 have r:=h.r hne
 rw [e] at r
 unfold Ww8;dsimp only
 repeat' split
 all_goals first | exact Wl1 | omega
theorem YI4 (hs:0 < sl) (hne:x.t.fr≠[]) (h:Adj sl th x) (e:x.f.fn=21) (hp:15≤x.f.pc∧x.f.pc≤17):Nx sl th x (Ww9 x):=by
 have r:=h.r hne
 rw [e] at r
 unfold Ww9;dsimp only
 repeat' split
 ·exact Wl1
 ·exact Wl1
 ·exact Wl1
 ·have e9:x.f.pc=16:=by omega
  exact Wl1
theorem Y02 (hs:0 < sl) (ha:0 < sl*th) (hne:x.t.fr≠[]) (h:Adj sl th x) (e:x.f.fn=21) (hp:0≤x.f.pc∧x.f.pc≤17):Nx sl th x (WH2 x):=by
 unfold WH2
 repeat' split
 ·exact Y01 hs ha hne h e (by omega)
 ·exact Zd7 hs hne h e (by omega)
 ·exact YI2 hs hne h e (by omega)
 ·exact YI3 hs hne h e (by omega)
 ·exact YI4 hs hne h e (by omega)
theorem Yr5 (hs:0 < sl) (hne:x.t.fr≠[]) (h:Adj sl th x) (e:x.f.fn=22) (hp:0≤x.f.pc∧x.f.pc≤3):Nx sl th x (Wy9 x):=by
 have r:=h.r hne
 rw [e] at r
 unfold Wy9 Wy8;dsimp only
 repeat' split
 all_goals first | exact Wl1 | omega
theorem Yr6 (hs:0 < sl) (hne:x.t.fr≠[]) (h:Adj sl th x) (e:x.f.fn=23) (hp:0≤x.f.pc∧x.f.pc≤3):Nx sl th x (Wy9 x):=by
 have r:=h.r hne
 rw [e] at r
 unfold Wy9 Wy8;dsimp only
 repeat' split
 all_goals first | exact Wl1 | omega
theorem Y03 (hs:0 < sl) (hne:x.t.fr≠[]) (h:Adj sl th x) (e:x.f.fn=22∨x.f.fn=23) (hp:0≤x.f.pc∧x.f.pc≤3):Nx sl th x (Wy9 x):=by
 rcases e with e | e
 ·exact Yr5 hs hne h e hp
 ·exact Yr6 hs hne h e hp
theorem Yr7 (hs:0 < sl) (hne:x.t.fr≠[]) (h:Adj sl th x) (e:x.f.fn=22) (hp:4≤x.f.pc∧x.f.pc≤6):Nx sl th x (Wz0 x):=by
 have r:=h.r hne
 rw [e] at r
 unfold Wz0;dsimp only
 repeat' split
 all_goals first | exact Wl1 | omega
theorem Yr8 (hs:0 < sl) (hne:x.t.fr≠[]) (h:Adj sl th x) (e:x.f.fn=23) (hp:4≤x.f.pc∧x.f.pc≤6):Nx sl th x (Wz0 x):=by
 have r:=h.r hne
 rw [e] at r
 unfold Wz0;dsimp only
 repeat' split
 all_goals first | exact Wl1 | omega
theorem Y04 (hs:0 < sl) (hne:x.t.fr≠[]) (h:Adj sl th x) (e:x.f.fn=22∨x.f.fn=23) (hp:4≤x.f.pc∧x.f.pc≤6):Nx sl th x (Wz0 x):=by
 rcases e with e | e
 ·exact Yr7 hs hne h e hp
 ·exact Yr8 hs hne h e hp
theorem Yr9 (hs:0 < sl) (hne:x.t.fr≠[]) (h:Adj sl th x) (e:x.f.fn=22) (hp:7≤x.f.pc∧x.f.pc≤8):Nx sl th x (Wz1 x):=by
 have r:=h.r hne
 rw [e] at r
 unfold Wz1;dsimp only
 repeat' split
 all_goals first | exact Wl1 | omega
theorem Ys0 (hs:0 < sl) (hne:x.t.fr≠[]) (h:Adj sl th x) (e:x.f.fn=23) (hp:7≤x.f.pc∧x.f.pc≤8):Nx sl th x (Wz1 x):=by
 have r:=h.r hne
 rw [e] at r
 unfold Wz1;dsimp only
 repeat' split
 all_goals first | exact Wl1 | omega
theorem Y05 (hs:0 < sl) (hne:x.t.fr≠[]) (h:Adj sl th x) (e:x.f.fn=22∨x.f.fn=23) (hp:7≤x.f.pc∧x.f.pc≤8):Nx sl th x (Wz1 x):=by
 rcases e with e | e
 ·exact Yr9 hs hne h e hp
 ·exact Ys0 hs hne h e hp
theorem Yg7 (hs:0 < sl) (hne:x.t.fr≠[]) (h:Adj sl th x) (e:x.f.fn=22) (hp:9≤x.f.pc∧x.f.pc≤13):Nx sl th x (Wq8 x):=by
 have r:=h.r hne
 rw [e] at r
 unfold Wq8 Wy8;dsimp only
 repeat' split
 ·exact Wl1
 ·exact Wl1
 ·exact Wl1
 ·exact Wl1
 ·exact Wl1
 ·have e9:x.f.pc=13:=by omega
  exact Wl1
theorem Yg8 (hs:0 < sl) (hne:x.t.fr≠[]) (h:Adj sl th x) (e:x.f.fn=23) (hp:9≤x.f.pc∧x.f.pc≤13):Nx sl th x (Wq8 x):=by
 have r:=h.r hne
 rw [e] at r
 unfold Wq8 Wy8;dsimp only
 repeat' split
 ·exact Wl1
 ·exact Wl1
 ·exact Wl1
 ·exact Wl1
 ·exact Wl1
 ·have e9:x.f.pc=13:=by omega
  exact Wl1
theorem YI5 (hs:0 < sl) (hne:x.t.fr≠[]) (h:Adj sl th x) (e:x.f.fn=22∨x.f.fn=23) (hp:9≤x.f.pc∧x.f.pc≤13):Nx sl th x (Wq8 x):=by
 rcases e with e | e
 ·exact Yg7 hs hne h e hp
 ·exact Yg8 hs hne h e hp
theorem Y06 (hs:0 < sl) (hne:x.t.fr≠[]) (h:Adj sl th x) (e:x.f.fn=22∨x.f.fn=23) (hp:0≤x.f.pc∧x.f.pc≤13):Nx sl th x (WH3 x):=by
 unfold WH3
 repeat' split
 ·exact Y03 hs hne h e (by omega)
 ·exact Y04 hs hne h e (by omega)
 ·exact Y05 hs hne h e (by omega)
 ·exact YI5 hs hne h e (by omega)
theorem Zw2 {f:Frm} (o:Wl7 L sl th f) (hs:0 < sl):(1≤f.fn∧f.fn≤6∨f.fn=20∧0≤f.pc∧f.pc≤8)∨f.fn=21∧(0≤f.pc∧f.pc≤17∨f.pc=90)∨(f.fn=22∨f.fn=23)∧(0≤f.pc∧f.pc≤13∨f.pc=90):=by
 unfold Wl7 Wz3 at o
 omega
theorem Yg9 (hsl:sl=x.m.p.slots) (hth:th=x.m.p.c.threads) (hs:0 < sl) (ha:0 < sl*th) (hne:x.t.fr≠[]) (h:Adj sl th x) (o:Wl7 L sl th x.f):Nx sl th x (Wl3 x):=by
 have o1:=Zw2 o hs
 have r:=h.r hne
 unfold Wl3
 rw [if_neg hne]
 dsimp only
 split
 ·exact Y00 hsl hth hs ha hne h (by omega)
 split
 ·rename_i c c9
  refine ⟨r.pop,.inr (AdjR.ltPop r hne c9 r hne ?_)⟩
  have c2:fA sl th x.f.fn 90=false:=by
   have:x.f.fn=21∨x.f.fn=22∨x.f.fn=23:=by omega
   rcases this with e | e | e <;> rw [e] <;> simp [fA]
  rw [c2]
  have:=(Yf6 x.f.fn 90).1
  simp
  omega
 split
 ·exact Y02 hs ha hne h (by assumption) (by omega)
 ·exact Y06 hs hne h (by omega) (by omega)
end
end
section
open Mod
theorem Y07 {n L:Int} (h:0≤s64 n∧s64 n < L) (hn:(s64 n).toNat≠0) (hL:L≤6):0≤s64 (Mod.u64 (n - 1))∧s64 (Mod.u64 (n - 1)) < L:=by
 unfold s64 Mod.u64 at *
 repeat' split
 all_goals (split at h <;> split at hn <;> omega)
theorem Y08 {L:Int} (hL:1≤L∧L≤6):0≤s64 (Mod.u64 (L - 1))∧s64 (Mod.u64 (L - 1)) < L:=by
 unfold s64 Mod.u64
 split <;> omega
section
variable {x:Run} {L sl th:Int}
theorem WV3 {f:Frm} (len:f.r.length=10) (e:f.fn=20) (hp:0≤f.pc∧f.pc≤8) (hg:0≤s64 (f.g 1)∧s64 (f.g 1) < L):Wl7 L sl th f:=.inr ⟨len,.inr (.inr ⟨e,hp.1,hp.2,λ_=>hg⟩)⟩
structure Zw3 (L:Int) (f:Frm):Prop where
 len:f.r.length=10
 fn:f.fn=20
 g:0≤s64 (f.g 1)∧s64 (f.g 1) < L
theorem WV4 {y:Run} (hL:L≤6) (r:Rest (Wl7 L sl th) y) (o:Zw3 L y.f):AllF (Wl7 L sl th) (Wq7 y):=by
 obtain ⟨len,e,g⟩:=o
 unfold Wq7;dsimp only
 split
 ·((repeat (with_reducible first | apply AllF.load | apply AllF.store | apply AllF.cas | apply AllF.add | apply AllF.swing | apply AllF.swingA | apply AllF.swingM | apply AllF.drop1 | apply AllF.guard | apply AllF.gh | apply AllF.fo | apply AllF.re | apply AllF.setPl));first | with_reducible assumption | ((with_reducible first | apply Rest.pop | apply Rest.call | apply Rest.allPc | apply Rest.allS | apply Rest.fin);(focus (refine Lo.rest ?_ (by assumption);(with_reducible repeat' constructor)))))
 ·rename_i c
  ((repeat (with_reducible first | apply AllF.load | apply AllF.store | apply AllF.cas | apply AllF.add | apply AllF.swing | apply AllF.swingA | apply AllF.swingM | apply AllF.drop1 | apply AllF.guard | apply AllF.gh | apply AllF.fo | apply AllF.re | apply AllF.setPl));first | with_reducible assumption | ((with_reducible first | apply Rest.pop | apply Rest.call | apply Rest.allPc | apply Rest.allS | apply Rest.fin);(focus (refine Lo.rest ?_ (by assumption);(with_reducible repeat' constructor)))))
  rw [f_s]
  refine WV3 (by simp only [Wh3,Wk3];assumption) (by simp only [Wr9,WS0];assumption) ⟨by show (0:Int)≤1;omega,by show (1:Int)≤8;omega⟩ ?_
  have e1:(((y.setPl (y.t.pred.set (s64 (y.f.g 1)).toNat (y.f.g 2)) (y.t.succ.set (s64 (y.f.g 1)).toNat (Wg8 (y.f.g 3))) (y.t.word.set (s64 (y.f.g 1)).toNat (y.f.g 3))).f.s 1 (Mod.u64 (y.f.g 1 - 1))).at 1).g 1=Mod.u64 (y.f.g 1 - 1):=by
   rw [WN6]
   exact g_s (show (y.f).r.length=10 from len) (by decide) _
  rw [e1]
  exact Y07 g c hL
theorem Yh0 {y:Run} {w:Int} (hL:L≤6) (r:Rest (Wl7 L sl th) y) (o:Zw3 L y.f):AllF (Wl7 L sl th) (WL3 y w):=by
 obtain ⟨len,e,g⟩:=o
 have g2:((y.f.s 3 w)).g 1=y.f.g 1:=Wa8 _ (by decide) _
 unfold WL3;dsimp only
 repeat' split
 ·((repeat (with_reducible first | apply AllF.load | apply AllF.store | apply AllF.cas | apply AllF.add | apply AllF.swing | apply AllF.swingA | apply AllF.swingM | apply AllF.drop1 | apply AllF.guard | apply AllF.gh | apply AllF.fo | apply AllF.re | apply AllF.setPl));first | with_reducible assumption | ((with_reducible first | apply Rest.pop | apply Rest.call | apply Rest.allPc | apply Rest.allS | apply Rest.fin);(focus (refine Lo.rest ?_ (by assumption);(with_reducible repeat' constructor)))))
  rw [f_s]
  exact WV3 (by simp only [Wh3,Wk3];assumption) (by simp only [Wr9,WS0];assumption) ⟨by show (0:Int)≤8;omega,by show (8:Int)≤8;omega⟩ (by rw [WN6,g2];exact g)
 ·exact WV4 hL (by exact Wr0) ⟨by rw [f_s,Wk3];exact len,by rw [f_s];exact e,by rw [f_s,g2];exact g⟩
 ·((repeat (with_reducible first | apply AllF.load | apply AllF.store | apply AllF.cas | apply AllF.add | apply AllF.swing | apply AllF.swingA | apply AllF.swingM | apply AllF.drop1 | apply AllF.guard | apply AllF.gh | apply AllF.fo | apply AllF.re | apply AllF.setPl));first | with_reducible assumption | ((with_reducible first | apply Rest.pop | apply Rest.call | apply Rest.allPc | apply Rest.allS | apply Rest.fin);(focus (refine Lo.rest ?_ (by assumption);(with_reducible repeat' constructor)))))
  rw [f_s]
  exact WV3 (by simp only [Wh3,Wk3];assumption) (by simp only [Wr9,WS0];assumption) ⟨by show (0:Int)≤3;omega,by show (3:Int)≤8;omega⟩ (by rw [WN6,g2];exact g)
theorem Y09 (hL:L≤6) (h:AllF (Wl7 L sl th) x) (o:Wl7 L sl th x.f) (e:x.f.fn=20) (hp:x.f.pc≠0):AllF (Wl7 L sl th) (W33 x):=by
 have r:=h.rest
 obtain ⟨len,o1,o2,o3⟩:=Zo8 o e
 have g:=o3 hp
 unfold W33;dsimp only
 repeat' split
 all_goals first
  | exact Yh0 hL (by exact Wr0) ⟨len,e,g⟩
  | exact WV4 hL (by exact Wr0) ⟨len,e,g⟩
  | skip
 all_goals ((repeat (with_reducible first | apply AllF.load | apply AllF.store | apply AllF.cas | apply AllF.add | apply AllF.swing | apply AllF.swingA | apply AllF.swingM | apply AllF.drop1 | apply AllF.guard | apply AllF.gh | apply AllF.fo | apply AllF.re | apply AllF.setPl));first | with_reducible assumption | ((with_reducible first | apply Rest.pop | apply Rest.call | apply Rest.allPc | apply Rest.allS | apply Rest.fin);(focus (refine Lo.rest ?_ (by assumption);(with_reducible repeat' constructor)))))
 all_goals exact ZB8
theorem Y10 (hL:1≤L∧L≤6) (hl:L=x.m.p.c.level) (h:AllF (Wl7 L sl th) x) (o:Wl7 L sl th x.f) (e:x.f.fn=20):AllF (Wl7 L sl th) (W34 x):=by
 have r:=h.rest
 obtain ⟨len,o1,o2,o3⟩:=Zo8 o e
 unfold W34;dsimp only
 split
 ·((repeat (with_reducible first | apply AllF.load | apply AllF.store | apply AllF.cas | apply AllF.add | apply AllF.swing | apply AllF.swingA | apply AllF.swingM | apply AllF.drop1 | apply AllF.guard | apply AllF.gh | apply AllF.fo | apply AllF.re | apply AllF.setPl));first | with_reducible assumption | ((with_reducible first | apply Rest.pop | apply Rest.call | apply Rest.allPc | apply Rest.allS | apply Rest.fin);(focus (refine Lo.rest ?_ (by assumption);(with_reducible repeat' constructor)))))
  rw [f_s,f_s]
  refine WV3 (by simp only [Wh3,Wk3];assumption) (by simp only [Wr9,WS0];assumption) ⟨by show (0:Int)≤1;omega,by show (1:Int)≤8;omega⟩ ?_
  rw [WN6,g_s (by rw [Wk3];exact len) (by decide),← hl]
  exact Y08 hL
 rename_i c
 have g:=o3 c
 repeat' split
 all_goals first
  | exact Y09 hL.2 h o e c
  | exact Yh0 hL.2 (by exact Wr0) ⟨len,e,g⟩
  | skip
 all_goals ((repeat (with_reducible first | apply AllF.load | apply AllF.store | apply AllF.cas | apply AllF.add | apply AllF.swing | apply AllF.swingA | apply AllF.swingM | apply AllF.drop1 | apply AllF.guard | apply AllF.gh | apply AllF.fo | apply AllF.re | apply AllF.setPl));first | with_reducible assumption | ((with_reducible first | apply Rest.pop | apply Rest.call | apply Rest.allPc | apply Rest.allS | apply Rest.fin);(focus (refine Lo.rest ?_ (by assumption);(with_reducible repeat' constructor)))))
 ·exact ZB8
 ·refine .inr ⟨by rw [Wh3];exact len,.inr (.inr ⟨e,by show (0:Int)≤0;omega,by show (0:Int)≤8;omega,λhh=>absurd rfl hh⟩)⟩
theorem YI6 (hL:1≤L∧L≤6) (hl:L=x.m.p.c.level) (hs:sl=x.m.p.slots) (ht:th=x.m.p.c.threads) (s0:0≤sl) (t0:0≤sl*th) (h:AllF (Wl7 L sl th) x) (o:Wl7 L sl th x.f) (e:¬ (21≤x.f.fn∧x.f.fn≤23)):AllF (Wl7 L sl th) (WH0 x):=by
 unfold WH0
 split
 ·exact h
 split
 ·exact Y10 hL hl h o (by assumption)
 ·exact WB0 (λf hf=>.inl hf) h hs ht s0 t0 (ZB3 o (by omega))
theorem Yz5 (m:Mac) (hl:1≤L∧L≤6):1≤Mod.u64 (m.lvl L).1∧Mod.u64 (m.lvl L).1≤L:=by
 have:=Zo7 m hl.1
 unfold Mod.u64
 omega
theorem YI7 (h:AllF (Wl7 L sl th) x) (hL:L=x.m.p.c.level) (hl:1≤L∧L≤6) (s0:0≤sl) (t0:0≤sl*th) (o:Wl7 L sl th x.f) (e:x.f.fn=21) (hp:0≤x.f.pc∧x.f.pc≤2):AllF (Wl7 L sl th) (WH1 x):=by
 have r:=h.rest
 obtain ⟨len,o1,o2,o3,o4⟩:=Yr0 o e
 unfold WH1;dsimp only
 repeat' split
 ·((repeat (with_reducible first | apply AllF.load | apply AllF.store | apply AllF.cas | apply AllF.add | apply AllF.swing | apply AllF.swingA | apply AllF.swingM | apply AllF.drop1 | apply AllF.guard | apply AllF.gh | apply AllF.fo | apply AllF.re | apply AllF.setPl));first | with_reducible assumption | ((with_reducible first | apply Rest.pop | apply Rest.call | apply Rest.allPc | apply Rest.allS | apply Rest.fin);(focus (refine Lo.rest ?_ (by assumption);(with_reducible repeat' constructor)))))
  ·exact YL8
  ·exact Wu0 (by omega) s0 t0
 ·((repeat (with_reducible first | apply AllF.load | apply AllF.store | apply AllF.cas | apply AllF.add | apply AllF.swing | apply AllF.swingA | apply AllF.swingM | apply AllF.drop1 | apply AllF.guard | apply AllF.gh | apply AllF.fo | apply AllF.re | apply AllF.setPl));first | with_reducible assumption | ((with_reducible first | apply Rest.pop | apply Rest.call | apply Rest.allPc | apply Rest.allS | apply Rest.fin);(focus (refine Lo.rest ?_ (by assumption);(with_reducible repeat' constructor)))))
  exact YL8
 ·((repeat (with_reducible first | apply AllF.load | apply AllF.store | apply AllF.cas | apply AllF.add | apply AllF.swing | apply AllF.swingA | apply AllF.swingM | apply AllF.drop1 | apply AllF.guard | apply AllF.gh | apply AllF.fo | apply AllF.re | apply AllF.setPl));first | with_reducible assumption | ((with_reducible first | apply Rest.pop | apply Rest.call | apply Rest.allPc | apply Rest.allS | apply Rest.fin);(focus (refine Lo.rest ?_ (by assumption);(with_reducible repeat' constructor)))))
  ·exact YL8
  ·exact Wu0 (by omega) s0 t0
 ·((repeat (with_reducible first | apply AllF.load | apply AllF.store | apply AllF.cas | apply AllF.add | apply AllF.swing | apply AllF.swingA | apply AllF.swingM | apply AllF.drop1 | apply AllF.guard | apply AllF.gh | apply AllF.fo | apply AllF.re | apply AllF.setPl));first | with_reducible assumption | ((with_reducible first | apply Rest.pop | apply Rest.call | apply Rest.allPc | apply Rest.allS | apply Rest.fin);(focus (refine Lo.rest ?_ (by assumption);(with_reducible repeat' constructor)))))
  ·exact YL8
  ·exact Wu0 (by omega) s0 t0
 ·refine Rest.allPc (Rest.s (Rest.m (by exact Wr0))) ?_
  rw [f_s]
  have ef:∀m:Mac,(⟨m,((x.add 3 1).2.s 4 (Wg6 (u32 (x.f.g 0)) (u32 (x.add 3 1).1))).t,((x.add 3 1).2.s 4 (Wg6 (u32 (x.f.g 0)) (u32 (x.add 3 1).1))).id⟩ : Run).f=x.f.s 4 (Wg6 (u32 (x.f.g 0)) (u32 (x.add 3 1).1)):=λm=>by
   show ((x.add 3 1).2.s 4 (Wg6 (u32 (x.f.g 0)) (u32 (x.add 3 1).1))).f=_
   rw [f_s]
   rfl
  rw [ef]
  have hv:=Yz5 ((x.add 3 1).2.s 4 (Wg6 (u32 (x.f.g 0)) (u32 (x.add 3 1).1))).m hl
  have ep:((x.add 3 1).2.s 4 (Wg6 (u32 (x.f.g 0)) (u32 (x.add 3 1).1))).m.p.c.level=L:=by rw [hL];exact congrArg (λp:Pl=>p.c.level) (St.fix (St.s (St.add (St.refl x)):St 2 x ((x.add 3 1).2.s 4 (Wg6 (u32 (x.f.g 0)) (u32 (x.add 3 1).1))))).p
  rw [ep]
  generalize Mod.u64 (((x.add 3 1).2.s 4 (Wg6 (u32 (x.f.g 0)) (u32 (x.add 3 1).1))).m.lvl L).1=v at *
  refine .inr ⟨by simp only [Wh3,Wk3];exact len,.inl ⟨e,.inl ⟨by show (0:Int)≤3;omega,by show (3:Int)≤17;omega⟩,λ_ _=>?_,λhh=>?_,λhh=>?_⟩⟩
  ·rw [WN6,g_s (by rw [Wk3];exact len) (by decide)]
   exact hv
  ·simp only [Wx6] at hh;omega
  ·simp only [Wx6] at hh;omega
 ·exact h
theorem YI8 (h:AllF (Wl7 L sl th) x) (hL:L=x.m.p.c.level) (hl:1≤L∧L≤6) (s0:0≤sl) (t0:0≤sl*th) (o:Wl7 L sl th x.f) (e:x.f.fn=21) (h9:x.f.pc≠90):AllF (Wl7 L sl th) (WH2 x):=by
 obtain ⟨len,o1,o2,o3,o4⟩:=Yr0 o e
 unfold WH2
 repeat' split
 ·exact YI7 h hL hl s0 t0 o e (by omega)
 ·exact YZ8 h hL hl s0 t0 o e (by omega)
 ·exact Yr3 h hL hl s0 t0 o e (by omega)
 ·exact Yr2 h hL hl s0 t0 o e (by omega)
 ·exact Yr1 h hL hl s0 t0 o e
theorem YI9 (h:AllF (Wl7 L sl th) x) (s0:0≤sl) (t0:0≤sl*th) (o:Wl7 L sl th x.f) (e:x.f.fn=22∨x.f.fn=23):AllF (Wl7 L sl th) (WH3 x):=by
 unfold WH3
 repeat' split
 ·exact YH9 h s0 t0 o e
 ·exact YI0 h s0 t0 o e
 ·exact YI1 h s0 t0 o e
 ·exact Yr4 h s0 t0 o e
theorem W64 (h:AllF (Wl7 L sl th) x) (hL:L=x.m.p.c.level) (hl:1≤L∧L≤6) (hs:sl=x.m.p.slots) (ht:th=x.m.p.c.threads) (s0:0≤sl) (t0:0≤sl*th) (hne:x.t.fr≠[]):AllF (Wl7 L sl th) (Wl3 x):=by
 have r:=h.rest
 have o:=h.top hne
 unfold Wl3
 rw [if_neg hne]
 dsimp only
 split
 ·exact YI6 hl hL hs ht s0 t0 h o (by omega)
 split
 ·((repeat (with_reducible first | apply AllF.load | apply AllF.store | apply AllF.cas | apply AllF.add | apply AllF.swing | apply AllF.swingA | apply AllF.swingM | apply AllF.drop1 | apply AllF.guard | apply AllF.gh | apply AllF.fo | apply AllF.re | apply AllF.setPl));first | with_reducible assumption | ((with_reducible first | apply Rest.pop | apply Rest.call | apply Rest.allPc | apply Rest.allS | apply Rest.fin);(focus (refine Lo.rest ?_ (by assumption);(with_reducible repeat' constructor)))))
 split
 ·exact YI8 h hL hl s0 t0 o (by assumption) (by assumption)
 ·exact YI9 h s0 t0 o (by omega)
end
end
section
open Mod
theorem Wz4 {c:Mod.Cf} (h:okC c=true):0 < (Wc8 c).slots∧0 < (Wc8 c).slots*c.threads∧(Wc8 c).slots*c.threads≤84∧(Wc8 c).slots≤14∧1≤c.level∧c.level≤6:=by
 have B:=Ws0 h
 have h1:2≤(Wc8 c).slots∧(Wc8 c).slots≤14:=B.sl
 have h2:1≤c.threads∧c.threads≤6:=B.th
 have h3:1≤c.level∧c.level≤6:=B.lv
 refine ⟨by omega,Int.mul_pos (by omega) (by omega),?_,h1.2,h3.1,h3.2⟩
 exact Int.le_trans (Int.mul_le_mul h1.2 h2.2 (by omega) (by omega)) (by decide)
theorem RunOk.ok {Q:Mod.Cf→Frm→Prop} {c:Mod.Cf} {x:Run} {B:Nat} (h:RunOk Q c x B) (hB:B < 200000000) (hid:0≤x.id∧x.id≤6) (hp:0≤x.f.pc∧x.f.pc≤100):Ok x:=by
 have hP:x.m.mm.st.toNat+x.m.used.toNat+x.t.retired.length+x.t.found.length+x.t.fr.length≤B:=h.P
 exact ⟨by omega,by omega,by omega,by omega,by omega,⟨by omega,by omega⟩,hp⟩
theorem Zo9 {sl th:Int} {f:Frm} (h:Wz3 sl th f) (h1:0≤sl∧sl≤14) (h2:sl*th≤84):0≤f.pc∧f.pc≤100:=by
 unfold Wz3 at h
 omega
def SuQ (c:Mod.Cf) (f:Frm):Prop:=Wl7 c.level (Wc8 c).slots c.threads f
def SuW (x:Run):Prop:=Ok x∧FOk x∧(x.f.fn=21→ZA3 x)
theorem Yh1:Zq4 Wl3 SuQ SuW 21 where
 st:=Yf4
 all c x hc hp hne h:=by
  obtain ⟨a1,a2,a3,a4,a5,a6⟩:=Wz4 hc
  exact W64 h (by rw [hp];rfl) ⟨a5,a6⟩ (by rw [hp]) (by rw [hp];rfl) (by omega) (by omega) hne
 nx c x hc hp hne h a:=by
  obtain ⟨a1,a2,a3,a4,a5,a6⟩:=Wz4 hc
  exact Yg9 (by rw [hp]) (by rw [hp];rfl) a1 a2 hne a (h.top hne)
 w c x B hc h hB hne hid:=by
  obtain ⟨a1,a2,a3,a4,a5,a6⟩:=Wz4 hc
  have o:Wl7 c.level (Wc8 c).slots c.threads x.f:=h.q.top hne
  have hpr:=h.pr
  have hsu:=h.su
  have hwo:=h.wo
  refine ⟨h.ok hB hid ?_,λe hp=>?_,λe=>?_⟩
  ·rcases o with o | ⟨_,o⟩
   ·exact Zo9 o ⟨by omega,a4⟩ a3
   ·omega
  ·obtain ⟨len,o1,o2,o3⟩:=Zo8 o e
   have g:=o3 hp
   exact ⟨⟨g.1,by omega⟩,by omega,by omega,by omega⟩
  ·obtain ⟨len,o1,o2,o3,o4⟩:=Yr0 o e
   refine ⟨⟨by omega,by omega,by omega,by omega⟩,λe2=>?_,λe2=>?_,λe2 e3=>?_⟩
   ·have g1:=o2 (by omega) (by omega)
    have g2:=o3 (by omega)
    omega
   ·have g1:=o2 (by omega) (by omega)
    omega
   ·have g1:=o2 (by omega) (by omega)
    have g2:=o3 (by omega)
    omega
 new c op l hc ho:=by
  obtain ⟨a1,a2,a3,a4,a5,a6⟩:=Wz4 hc
  exact Wu0 (by omega) (by omega) (by omega)
theorem Ys1:DoC 26 Wl3 SuW:=λh M T tv x R K H hw k=>WX2 H hw.1 hw.2.1 hw.2.2 k
end
section
open Mod
theorem f_m (x:Run) (m:Mac):({ x with m:=m }:Run).f=x.f:=rfl
theorem WF4 (x:Run) (a b c:Int) (d:Bool):(x.swing a b c d).2.f=x.f:=rfl
theorem Wy4 (x:Run) (a b c:Int) (d:Bool):(x.swingM a b c d).2.f=x.f:=rfl
theorem WF5 (x:Run) (a b:Int):(x.guard a b).f=x.f:=rfl
def Wz6 (sl th:Int) (f:Frm):Prop:=Wz3 sl th f∨f.r.length=10∧(f.fn=10∧0≤f.pc∧f.pc≤1∨f.fn=11∧(0≤f.pc∧f.pc≤14∨f.pc=90)∨(f.fn=12∨f.fn=13)∧(0≤f.pc∧f.pc≤7∨f.pc=90)∨f.fn=14∧0≤f.pc∧f.pc≤7)
theorem WB2 {sl th fn:Int} {l:List Int} (h:1≤fn∧fn≤6∨10≤fn∧fn≤14) (hs:0≤sl) (ht:0≤sl*th):Wz6 sl th ⟨fn,0,pad 10 l⟩:=by
 by_cases c:fn≤6
 ·exact .inl (Yf5 (by omega) hs ht)
 ·refine .inr ⟨WD9 _ _,?_⟩
  dsimp only
  omega
theorem ZB4 {sl th:Int} {f:Frm} (h:Wz6 sl th f) (e:¬ (10≤f.fn∧f.fn≤14)):Wz3 sl th f:=by
 unfold Wz6 at h
 rcases h with h | ⟨_,h⟩
 ·exact h
 ·omega
theorem Zd8 {sl th:Int} {f:Frm} (h:Wz6 sl th f) (e:10≤f.fn∧f.fn≤14):f.r.length=10∧(f.fn=10∧0≤f.pc∧f.pc≤1∨f.fn=11∧(0≤f.pc∧f.pc≤14∨f.pc=90)∨(f.fn=12∨f.fn=13)∧(0≤f.pc∧f.pc≤7∨f.pc=90)∨f.fn=14∧0≤f.pc∧f.pc≤7):=by
 unfold Wz6 Wz3 at h
 rcases h with h | h
 ·omega
 ·exact h
section
variable {x:Run} {sl th:Int}
theorem Y11 (h:AllF (Wz6 sl th) x) (s0:0≤sl) (t0:0≤sl*th) (len:x.f.r.length=10) (e:x.f.fn=10):AllF (Wz6 sl th) (W26 x):=by
 have r:=h.rest
 unfold W26;dsimp only
 repeat' split
 all_goals ((repeat (with_reducible first | apply AllF.load | apply AllF.store | apply AllF.cas | apply AllF.add | apply AllF.swing | apply AllF.swingA | apply AllF.swingM | apply AllF.drop1 | apply AllF.guard | apply AllF.gh | apply AllF.fo | apply AllF.re | apply AllF.setPl));first | with_reducible assumption | ((with_reducible first | apply Rest.pop | apply Rest.call | apply Rest.allPc | apply Rest.allS | apply Rest.fin);(focus (refine Lo.rest ?_ (by assumption);(with_reducible repeat' constructor)))))
 all_goals first | (with_reducible apply WB2;omega;assumption;assumption) | exact Yz9
theorem Y12 (h:AllF (Wz6 sl th) x) (s0:0≤sl) (t0:0≤sl*th) (len:x.f.r.length=10) (e:x.f.fn=11):AllF (Wz6 sl th) (W28 x):=by
 have r:=h.rest
 unfold W28;dsimp only
 repeat' split
 all_goals ((repeat (with_reducible first | apply AllF.load | apply AllF.store | apply AllF.cas | apply AllF.add | apply AllF.swing | apply AllF.swingA | apply AllF.swingM | apply AllF.drop1 | apply AllF.guard | apply AllF.gh | apply AllF.fo | apply AllF.re | apply AllF.setPl));first | with_reducible assumption | ((with_reducible first | apply Rest.pop | apply Rest.call | apply Rest.allPc | apply Rest.allS | apply Rest.fin);(focus (refine Lo.rest ?_ (by assumption);(with_reducible repeat' constructor)))))
 all_goals first | (with_reducible apply WB2;omega;assumption;assumption) | exact Yz9
theorem Yh2 (h:AllF (Wz6 sl th) x) (s0:0≤sl) (t0:0≤sl*th) (len:x.f.r.length=10) (e:x.f.fn=11):AllF (Wz6 sl th) (Wr6 x):=by
 have r:=h.rest
 unfold Wr6 W27;dsimp only
 split
 ·refine Rest.allPc (Rest.s (Rest.m (by exact Wr0))) ?_
  exact Yz9
 repeat' split
 all_goals first | (refine AllF.push ?_ (WB2 (by omega) s0 t0)) | skip
 all_goals ((repeat (with_reducible first | apply AllF.load | apply AllF.store | apply AllF.cas | apply AllF.add | apply AllF.swing | apply AllF.swingA | apply AllF.swingM | apply AllF.drop1 | apply AllF.guard | apply AllF.gh | apply AllF.fo | apply AllF.re | apply AllF.setPl));first | with_reducible assumption | ((with_reducible first | apply Rest.pop | apply Rest.call | apply Rest.allPc | apply Rest.allS | apply Rest.fin);(focus (refine Lo.rest ?_ (by assumption);(with_reducible repeat' constructor)))))
 all_goals first | (with_reducible apply WB2;omega;assumption;assumption) | exact Yz9
theorem Y13 (h:AllF (Wz6 sl th) x) (s0:0≤sl) (t0:0≤sl*th) (len:x.f.r.length=10) (e:x.f.fn=11):AllF (Wz6 sl th) (W29 x):=by
 have r:=h.rest
 unfold W29 W27;dsimp only
 repeat' split
 all_goals ((repeat (with_reducible first | apply AllF.load | apply AllF.store | apply AllF.cas | apply AllF.add | apply AllF.swing | apply AllF.swingA | apply AllF.swingM | apply AllF.drop1 | apply AllF.guard | apply AllF.gh | apply AllF.fo | apply AllF.re | apply AllF.setPl));first | with_reducible assumption | ((with_reducible first | apply Rest.pop | apply Rest.call | apply Rest.allPc | apply Rest.allS | apply Rest.fin);(focus (refine Lo.rest ?_ (by assumption);(with_reducible repeat' constructor)))))
 all_goals first | (with_reducible apply WB2;omega;assumption;assumption) | exact Yz9
theorem Zd9 (h:AllF (Wz6 sl th) x) (s0:0≤sl) (t0:0≤sl*th) (len:x.f.r.length=10) (e:x.f.fn=11):AllF (Wz6 sl th) (Y82 x):=by
 have r:=h.rest
 unfold Y82 Ya3;dsimp only
 repeat' split
 all_goals ((repeat (with_reducible first | apply AllF.load | apply AllF.store | apply AllF.cas | apply AllF.add | apply AllF.swing | apply AllF.swingA | apply AllF.swingM | apply AllF.drop1 | apply AllF.guard | apply AllF.gh | apply AllF.fo | apply AllF.re | apply AllF.setPl));first | with_reducible assumption | ((with_reducible first | apply Rest.pop | apply Rest.call | apply Rest.allPc | apply Rest.allS | apply Rest.fin);(focus (refine Lo.rest ?_ (by assumption);(with_reducible repeat' constructor)))))
 all_goals first | (with_reducible apply WB2;omega;assumption;assumption) | with_reducible exact Rest.m r | exact Yz9
theorem Y14 (h:AllF (Wz6 sl th) x) (s0:0≤sl) (t0:0≤sl*th) (len:x.f.r.length=10) (e:x.f.fn=11):AllF (Wz6 sl th) (W30 x):=by
 unfold W30
 repeat' split
 ·exact Y12 h s0 t0 len e
 ·exact Yh2 h s0 t0 len e
 ·exact Y13 h s0 t0 len e
 ·exact Zd9 h s0 t0 len e
theorem Y15 (h:AllF (Wz6 sl th) x) (s0:0≤sl) (t0:0≤sl*th) (len:x.f.r.length=10) (e:x.f.fn=12∨x.f.fn=13):AllF (Wz6 sl th) (WR0 x):=by
 have r:=h.rest
 unfold WR0;dsimp only
 repeat' split
 all_goals ((repeat (with_reducible first | apply AllF.load | apply AllF.store | apply AllF.cas | apply AllF.add | apply AllF.swing | apply AllF.swingA | apply AllF.swingM | apply AllF.drop1 | apply AllF.guard | apply AllF.gh | apply AllF.fo | apply AllF.re | apply AllF.setPl));first | with_reducible assumption | ((with_reducible first | apply Rest.pop | apply Rest.call | apply Rest.allPc | apply Rest.allS | apply Rest.fin);(focus (refine Lo.rest ?_ (by assumption);(with_reducible repeat' constructor)))))
 all_goals first | (with_reducible apply WB2;omega;assumption;assumption) | exact Yz9
theorem Y16 (h:AllF (Wz6 sl th) x) (s0:0≤sl) (t0:0≤sl*th) (len:x.f.r.length=10) (e:x.f.fn=12∨x.f.fn=13):AllF (Wz6 sl th) (WR1 x):=by
 have r:=h.rest
 unfold WR1;dsimp only
 repeat' split
 all_goals first | exact Y15 h s0 t0 len e | skip
 all_goals ((repeat (with_reducible first | apply AllF.load | apply AllF.store | apply AllF.cas | apply AllF.add | apply AllF.swing | apply AllF.swingA | apply AllF.swingM | apply AllF.drop1 | apply AllF.guard | apply AllF.gh | apply AllF.fo | apply AllF.re | apply AllF.setPl));first | with_reducible assumption | ((with_reducible first | apply Rest.pop | apply Rest.call | apply Rest.allPc | apply Rest.allS | apply Rest.fin);(focus (refine Lo.rest ?_ (by assumption);(with_reducible repeat' constructor)))))
 all_goals first | (with_reducible apply WB2;omega;assumption;assumption) | exact Yz9
theorem Yh3 (h:AllF (Wz6 sl th) x) (len:x.f.r.length=10) (e:x.f.fn=14):AllF (Wz6 sl th) (WW7 x):=by
 have r:=h.rest
 unfold WW7;dsimp only
 repeat' split
 all_goals ((repeat (with_reducible first | apply AllF.load | apply AllF.store | apply AllF.cas | apply AllF.add | apply AllF.swing | apply AllF.swingA | apply AllF.swingM | apply AllF.drop1 | apply AllF.guard | apply AllF.gh | apply AllF.fo | apply AllF.re | apply AllF.setPl));first | with_reducible assumption | ((with_reducible first | apply Rest.pop | apply Rest.call | apply Rest.allPc | apply Rest.allS | apply Rest.fin);(focus (refine Lo.rest ?_ (by assumption);(with_reducible repeat' constructor)))))
 all_goals exact Yz9
theorem Y17 (h:AllF (Wz6 sl th) x) (s0:0≤sl) (t0:0≤sl*th) (len:x.f.r.length=10) (e:x.f.fn=14):AllF (Wz6 sl th) (W31 x):=by
 have r:=h.rest
 unfold W31;dsimp only
 repeat' split
 all_goals first | exact Yh3 h len e | skip
 all_goals ((repeat (with_reducible first | apply AllF.load | apply AllF.store | apply AllF.cas | apply AllF.add | apply AllF.swing | apply AllF.swingA | apply AllF.swingM | apply AllF.drop1 | apply AllF.guard | apply AllF.gh | apply AllF.fo | apply AllF.re | apply AllF.setPl));first | with_reducible assumption | ((with_reducible first | apply Rest.pop | apply Rest.call | apply Rest.allPc | apply Rest.allS | apply Rest.fin);(focus (refine Lo.rest ?_ (by assumption);(with_reducible repeat' constructor)))))
 all_goals first | (with_reducible apply WB2;omega;assumption;assumption) | exact Yz9
theorem Y18 {i:Nat} {p:Int} (h:AllF (Wz6 sl th) x) (len:x.f.r.length=10) (e:x.f.fn=14):AllF (Wz6 sl th) (WW8 x i p):=by
 have r:=h.rest
 unfold WW8;dsimp only
 split
 ·refine Rest.allS (Rest.m (by exact Wr0)) ?_
  exact Yz9
 ·refine AllF.m ?_
  ((repeat (with_reducible first | apply AllF.load | apply AllF.store | apply AllF.cas | apply AllF.add | apply AllF.swing | apply AllF.swingA | apply AllF.swingM | apply AllF.drop1 | apply AllF.guard | apply AllF.gh | apply AllF.fo | apply AllF.re | apply AllF.setPl));first | with_reducible assumption | ((with_reducible first | apply Rest.pop | apply Rest.call | apply Rest.allPc | apply Rest.allS | apply Rest.fin);(focus (refine Lo.rest ?_ (by assumption);(with_reducible repeat' constructor)))))
  exact Yz9
theorem Y19 (h:AllF (Wz6 sl th) x) (s0:0≤sl) (t0:0≤sl*th) (len:x.f.r.length=10) (e:x.f.fn=14):AllF (Wz6 sl th) (W32 x):=by
 have r:=h.rest
 unfold W32 Wt6;dsimp only
 repeat' split
 all_goals first | exact Y17 h s0 t0 len e | exact Y18 h len e | exact Yh3 h len e | skip
 all_goals ((repeat (with_reducible first | apply AllF.load | apply AllF.store | apply AllF.cas | apply AllF.add | apply AllF.swing | apply AllF.swingA | apply AllF.swingM | apply AllF.drop1 | apply AllF.guard | apply AllF.gh | apply AllF.fo | apply AllF.re | apply AllF.setPl));first | with_reducible assumption | ((with_reducible first | apply Rest.pop | apply Rest.call | apply Rest.allPc | apply Rest.allS | apply Rest.fin);(focus (refine Lo.rest ?_ (by assumption);(with_reducible repeat' constructor)))))
 all_goals first | (with_reducible apply WB2;omega;assumption;assumption) | exact Yz9
theorem Ys2 (h:AllF (Wz6 sl th) x) (hs:sl=x.m.p.slots) (ht:th=x.m.p.c.threads) (s0:0≤sl) (t0:0≤sl*th) (hne:x.t.fr≠[]):AllF (Wz6 sl th) (Wu3 x):=by
 have r:=h.rest
 have o:=h.top hne
 unfold Wu3
 rw [if_neg hne]
 dsimp only
 split
 ·((repeat (with_reducible first | apply AllF.load | apply AllF.store | apply AllF.cas | apply AllF.add | apply AllF.swing | apply AllF.swingA | apply AllF.swingM | apply AllF.drop1 | apply AllF.guard | apply AllF.gh | apply AllF.fo | apply AllF.re | apply AllF.setPl));first | with_reducible assumption | ((with_reducible first | apply Rest.pop | apply Rest.call | apply Rest.allPc | apply Rest.allS | apply Rest.fin);(focus (refine Lo.rest ?_ (by assumption);(with_reducible repeat' constructor)))))
 split
 ·exact Y11 h s0 t0 (Zd8 o (by omega)).1 (by assumption)
 split
 ·exact Y14 h s0 t0 (Zd8 o (by omega)).1 (by assumption)
 split
 ·exact Y16 h s0 t0 (Zd8 o (by omega)).1 (by assumption)
 split
 ·exact Y19 h s0 t0 (Zd8 o (by omega)).1 (by assumption)
 ·exact WB0 (λf hf=>.inl hf) h hs ht s0 t0 (ZB4 o (by omega))
theorem Ze0 (hs:0 < sl) (ha:0 < sl*th) (hne:x.t.fr≠[]) (h:Adj sl th x) (e:x.f.fn=10) (hp:0≤x.f.pc∧x.f.pc≤1):Nx sl th x (W26 x):=by
 have r:=h.r hne
 rw [e] at r
 unfold W26;dsimp only
 split
 ·exact Wl1
 have e1:x.f.pc=1:=by omega
 split
 all_goals exact Wl1
theorem Ze1 (hs:0 < sl) (ha:0 < sl*th) (hne:x.t.fr≠[]) (h:Adj sl th x) (e:x.f.fn=11) (hp:0≤x.f.pc∧x.f.pc≤3):Nx sl th x (W28 x):=by
 have r:=h.r hne
 rw [e] at r
 unfold W28;dsimp only
 repeat' split
 all_goals exact WW1
theorem Ys3 (hs:0 < sl) (ha:0 < sl*th) (hne:x.t.fr≠[]) (h:Adj sl th x) (e:x.f.fn=11) (hp:4≤x.f.pc∧x.f.pc≤7):Nx sl th x (Wr6 x):=by
 have r:=h.r hne
 rw [e] at r
 unfold Wr6 W27;dsimp only
 split
 ·exact WW1
 split
 ·exact Wl1
 split
 ·split
  ·exact Wl1
  ·split
   all_goals exact Wl1
 have e1:x.f.pc=7:=by omega
 split
 ·have ra:AdjR sl th 4 (((((x.s 7 1).s 8 0).s 9 0).pc 90).f :: rst x) (x.fin 1 0 0):=by
   have h1:Adj sl th (((((x.s 7 1).s 8 0).s 9 0).pc 90)):=(r.s.s.s).allPc
   have h2:=h1.a
   rw [show (((((x.s 7 1).s 8 0).s 9 0).pc 90)).t.fr.reverse=(((((x.s 7 1).s 8 0).s 9 0).pc 90)).f :: rst (((((x.s 7 1).s 8 0).s 9 0).pc 90)) from WN0 (Wt0 _ _)] at h2
   have er:rst ((((x.s 7 1).s 8 0).s 9 0).pc 90)=rst x:=(r.s.s.s).pc.e
   have er2:rst (x.fin 1 0 0)=(((((x.s 7 1).s 8 0).s 9 0).pc 90).f :: rst x):=by
    show ((((((x.s 7 1).s 8 0).s 9 0).pc 90).t.fr ++ [(⟨4,0,pad 10 []⟩ : Frm)]).dropLast).reverse=_
    rw [List.dropLast_concat,show (((((x.s 7 1).s 8 0).s 9 0).pc 90)).t.fr.reverse=(((((x.s 7 1).s 8 0).s 9 0).pc 90)).f :: rst (((((x.s 7 1).s 8 0).s 9 0).pc 90)) from WN0 (Wt0 _ _)]
    exact congrArg _ er
   refine ⟨?_,er2,?_,?_⟩
   ·show ((((((x.s 7 1).s 8 0).s 9 0).pc 90).t.fr ++ [(⟨4,0,pad 10 []⟩ : Frm)]).getLast?.getD dfF).fn=4
    simp
   ·refine .inr ?_
    rw [(r.s.s.s).pc.f]
    decide
   ·rw [← er];exact h2
  have hn:(x.fin 1 0 0).t.fr≠[]:=by
   show (((((x.s 7 1).s 8 0).s 9 0).pc 90).t.fr ++ [_])≠[]
   simp
  refine ⟨Adj.push (ra.all hn) ?_,.inr ?_⟩
  ·rw [WN0 hn]
   refine .inl ?_
   show fA sl th (x.fin 1 0 0).f.fn (x.fin 1 0 0).f.pc=true
   rw [ra.f]
   have:(x.fin 1 0 0).f.pc=0:=by
    show ((((((x.s 7 1).s 8 0).s 9 0).pc 90).t.fr ++ [(⟨4,0,pad 10 []⟩ : Frm)]).getLast?.getD dfF).pc=0
    simp
   rw [this]
   simp [fA,hs]
  ·have hpf:(x.fin 1 0 0).f.pc=0:=by
    show ((((((x.s 7 1).s 8 0).s 9 0).pc 90).t.fr ++ [(⟨4,0,pad 10 []⟩ : Frm)]).getLast?.getD dfF).pc=0
    simp
   rw [W57,ra.mu hn hpf,r.mu hne e1]
   simp [fW,fA,hs]
 ·exact Wl1
theorem Ze2 (hs:0 < sl) (ha:0 < sl*th) (hne:x.t.fr≠[]) (h:Adj sl th x) (e:x.f.fn=11) (hp:8≤x.f.pc∧x.f.pc≤9):Nx sl th x (W29 x):=by
 have r:=h.r hne
 rw [e] at r
 unfold W29 W27;dsimp only
 split
 ·split
  all_goals exact Wl1
 have e1:x.f.pc=9:=by omega
 exact Wl1
theorem Zp0 (hs:0 < sl) (ha:0 < sl*th) (hne:x.t.fr≠[]) (h:Adj sl th x) (e:x.f.fn=11) (hp:10≤x.f.pc∧x.f.pc≤14):Nx sl th x (Y82 x):=by
 have r:=h.r hne
 rw [e] at r
 unfold Y82 Ya3;dsimp only
 repeat' split
 all_goals first | exact WW1 | omega | contradiction
theorem Ze3 (hs:0 < sl) (ha:0 < sl*th) (hne:x.t.fr≠[]) (h:Adj sl th x) (e:x.f.fn=11) (hp:0≤x.f.pc∧x.f.pc≤14):Nx sl th x (W30 x):=by
 unfold W30
 repeat' split
 ·exact Ze1 hs ha hne h e (by omega)
 ·exact Ys3 hs ha hne h e (by omega)
 ·exact Ze2 hs ha hne h e (by omega)
 ·exact Zp0 hs ha hne h e (by omega)
theorem YJ0 (hs:0 < sl) (ha:0 < sl*th) (hne:x.t.fr≠[]) (h:Adj sl th x) (e:x.f.fn=12) (hp:0≤x.f.pc∧x.f.pc≤3):Nx sl th x (WR0 x):=by
 have r:=h.r hne
 rw [e] at r
 unfold WR0;dsimp only
 repeat' split
 all_goals first | exact WW1 | omega
theorem YJ1 (hs:0 < sl) (ha:0 < sl*th) (hne:x.t.fr≠[]) (h:Adj sl th x) (e:x.f.fn=13) (hp:0≤x.f.pc∧x.f.pc≤3):Nx sl th x (WR0 x):=by
 have r:=h.r hne
 rw [e] at r
 unfold WR0;dsimp only
 repeat' split
 all_goals first | exact WW1 | omega
theorem YJ2 (hs:0 < sl) (ha:0 < sl*th) (hne:x.t.fr≠[]) (h:Adj sl th x) (e:x.f.fn=12) (hp:0≤x.f.pc∧x.f.pc≤7):Nx sl th x (WR1 x):=by
 have r:=h.r hne
 rw [e] at r
 unfold WR1;dsimp only
 repeat' split
 all_goals first | exact WW1 | exact YJ0 hs ha hne h e (by omega)
theorem YJ3 (hs:0 < sl) (ha:0 < sl*th) (hne:x.t.fr≠[]) (h:Adj sl th x) (e:x.f.fn=13) (hp:0≤x.f.pc∧x.f.pc≤7):Nx sl th x (WR1 x):=by
 have r:=h.r hne
 rw [e] at r
 unfold WR1;dsimp only
 repeat' split
 all_goals first | exact WW1 | exact YJ1 hs ha hne h e (by omega)
theorem Yz6 (hs:0 < sl) (hne:x.t.fr≠[]) (h:Adj sl th x) (e:x.f.fn=14):Nx sl th x (WW7 x):=by
 have r:=h.r hne
 rw [e] at r
 unfold WW7;dsimp only
 repeat' split
 all_goals exact Wl1
theorem Ze4 (hs:0 < sl) (ha:0 < sl*th) (hne:x.t.fr≠[]) (h:Adj sl th x) (e:x.f.fn=14) (hp:0≤x.f.pc∧x.f.pc≤3):Nx sl th x (W31 x):=by
 have r:=h.r hne
 rw [e] at r
 unfold W31;dsimp only
 repeat' split
 all_goals first | exact Wl1 | exact Yz6 hs hne h e | omega
theorem Ze5 {i:Nat} {p:Int} (hs:0 < sl) (ha:0 < sl*th) (hne:x.t.fr≠[]) (h:Adj sl th x) (e:x.f.fn=14):Nx sl th x (WW8 x i p):=by
 have r:=h.r hne
 rw [e] at r
 unfold WW8;dsimp only
 split
 all_goals exact WW1
theorem Ze6 (hs:0 < sl) (ha:0 < sl*th) (hne:x.t.fr≠[]) (h:Adj sl th x) (e:x.f.fn=14) (hp:0≤x.f.pc∧x.f.pc≤7):Nx sl th x (W32 x):=by
 have r:=h.r hne
 rw [e] at r
 unfold W32 Wt6;dsimp only
 repeat' split
 all_goals first | exact Wl1 | exact Ze4 hs ha hne h e (by omega) | exact Ze5 hs ha hne h e | exact Yz6 hs hne h e | contradiction
theorem Zw4 {f:Frm} (o:Wz6 sl th f):(1≤f.fn∧f.fn≤6)∨f.fn=10∧0≤f.pc∧f.pc≤1∨f.fn=11∧(0≤f.pc∧f.pc≤14∨f.pc=90)∨(f.fn=12∨f.fn=13)∧(0≤f.pc∧f.pc≤7∨f.pc=90)∨f.fn=14∧0≤f.pc∧f.pc≤7:=by
 unfold Wz6 Wz3 at o
 omega
theorem YJ4 (hsl:sl=x.m.p.slots) (hth:th=x.m.p.c.threads) (hs:0 < sl) (ha:0 < sl*th) (hne:x.t.fr≠[]) (h:Adj sl th x) (o:Wz6 sl th x.f):Nx sl th x (Wu3 x):=by
 have o1:=Zw4 o
 have r:=h.r hne
 unfold Wu3
 rw [if_neg hne]
 dsimp only
 split
 ·rename_i c
  refine ⟨r.pop,.inr (AdjR.ltPop r hne c.1 r hne ?_)⟩
  have c2:fA sl th x.f.fn 90=false:=by
   have:x.f.fn=11∨x.f.fn=12∨x.f.fn=13:=by omega
   rcases this with e | e | e <;> rw [e] <;> simp [fA]
  rw [c2]
  have:=(Yf6 x.f.fn 90).1
  simp
  omega
 split
 ·exact Ze0 hs ha hne h (by assumption) (by omega)
 split
 ·exact Ze3 hs ha hne h (by assumption) (by omega)
 split
 ·rename_i c
  rcases c with c | c
  ·exact YJ2 hs ha hne h c (by omega)
  ·exact YJ3 hs ha hne h c (by omega)
 split
 ·exact Ze6 hs ha hne h (by assumption) (by omega)
 ·exact WF3 hsl hth hs ha hne h (by omega)
end
def MoQ (c:Mod.Cf) (f:Frm):Prop:=Wz6 (Wc8 c).slots c.threads f
theorem YJ5:Zq4 Wu3 MoQ Ok 11 where
 st:=YG4
 all c x hc hp hne h:=by
  obtain ⟨a1,a2,a3,a4,a5,a6⟩:=Wz4 hc
  exact Ys2 h (by rw [hp]) (by rw [hp];rfl) (by omega) (by omega) hne
 nx c x hc hp hne h a:=by
  obtain ⟨a1,a2,a3,a4,a5,a6⟩:=Wz4 hc
  exact YJ4 (by rw [hp]) (by rw [hp];rfl) a1 a2 hne a (h.top hne)
 w c x B hc h hB hne hid:=by
  obtain ⟨a1,a2,a3,a4,a5,a6⟩:=Wz4 hc
  have o:Wz6 (Wc8 c).slots c.threads x.f:=h.q.top hne
  refine h.ok hB hid ?_
  rcases o with o | ⟨_,o⟩
  ·exact Zo9 o ⟨by omega,a4⟩ a3
  ·omega
 new c op l hc ho:=by
  obtain ⟨a1,a2,a3,a4,a5,a6⟩:=Wz4 hc
  exact WB2 (by omega) (by omega) (by omega)
theorem Y20:DoC 25 Wu3 Ok:=λh M T tv x R K H hw k=>Ye2 H hw k
end
section
open Mod
def Wm9 (L sl th:Int) (f:Frm):Prop:=Wz3 sl th f∨f.r.length=10∧(f.fn=31∧(0≤f.pc∧f.pc≤18∨f.pc=90)∧(3≤f.pc→f.pc≤16→1≤f.g 3∧f.g 3≤L)∧(12≤f.pc→f.pc≤15→f.g 5 < f.g 3) ∨
 (f.fn=32∨f.fn=33)∧(0≤f.pc∧f.pc≤14∨f.pc=90)∨f.fn=34∧(0≤f.pc∧f.pc≤5∨f.pc=90)∨f.fn=35∧0≤f.pc∧f.pc≤2∨f.fn=36∧0≤f.pc∧f.pc≤6∨f.fn=30∧0≤f.pc∧f.pc≤6∧(f.pc≠0→0≤s64 (f.g 2)∧s64 (f.g 2) < L))
theorem Wr2 {L sl th fn:Int} {l:List Int} (h:1≤fn∧fn≤6∨30≤fn∧fn≤36) (hs:0≤sl) (ht:0≤sl*th):Wm9 L sl th ⟨fn,0,pad 10 l⟩:=by
 by_cases c:fn≤6
 ·exact .inl (Yf5 (by omega) hs ht)
 ·refine .inr ⟨WD9 _ _,?_⟩
  dsimp only
  omega
theorem ZB5 {L sl th:Int} {f:Frm} (h:Wm9 L sl th f) (e:¬ (30≤f.fn∧f.fn≤36)):Wz3 sl th f:=by
 unfold Wm9 at h
 rcases h with h | ⟨_,h⟩
 ·exact h
 ·omega
theorem Zp1 {L sl th:Int} {f:Frm} (h:Wm9 L sl th f) (e:30≤f.fn∧f.fn≤36):f.r.length=10∧(f.fn=31∧(0≤f.pc∧f.pc≤18∨f.pc=90)∧(3≤f.pc→f.pc≤16→1≤f.g 3∧f.g 3≤L)∧(12≤f.pc→f.pc≤15→f.g 5 < f.g 3) ∨
 (f.fn=32∨f.fn=33)∧(0≤f.pc∧f.pc≤14∨f.pc=90)∨f.fn=34∧(0≤f.pc∧f.pc≤5∨f.pc=90)∨f.fn=35∧0≤f.pc∧f.pc≤2∨f.fn=36∧0≤f.pc∧f.pc≤6∨f.fn=30∧0≤f.pc∧f.pc≤6∧(f.pc≠0→0≤s64 (f.g 2)∧s64 (f.g 2) < L)):=by
 unfold Wm9 Wz3 at h
 rcases h with h | h
 ·omega
 ·exact h
theorem Zw5 {L sl th:Int} {f:Frm} (h:Wm9 L sl th f) (e:f.fn=31):f.r.length=10∧(0≤f.pc∧f.pc≤18∨f.pc=90)∧(3≤f.pc→f.pc≤16→1≤f.g 3∧f.g 3≤L)∧(12≤f.pc→f.pc≤15→f.g 5 < f.g 3):=by
 have h:=Zp1 h (by omega)
 refine ⟨h.1,?_⟩
 rcases h.2 with h1 | h1 | h1 | h1 | h1 | h1
 ·exact h1.2
 all_goals omega
theorem Zw6 {L sl th:Int} {f:Frm} (h:Wm9 L sl th f) (e:f.fn=30):f.r.length=10∧0≤f.pc∧f.pc≤6∧(f.pc≠0→0≤s64 (f.g 2)∧s64 (f.g 2) < L):=by
 have h:=Zp1 h (by omega)
 refine ⟨h.1,?_⟩
 rcases h.2 with h1 | h1 | h1 | h1 | h1 | h1
 ·omega
 ·omega
 ·omega
 ·omega
 ·omega
 ·exact h1.2
section
variable {x:Run} {L sl th:Int}
theorem Zp2 {f:Frm} (len:f.r.length=10) (e:f.fn=31) (hp:0≤f.pc∧f.pc≤18∨f.pc=90) (h3:3≤f.pc→f.pc≤16→1≤f.g 3∧f.g 3≤L) (h5:12≤f.pc→f.pc≤15→f.g 5 < f.g 3):Wm9 L sl th f:=.inr ⟨len,.inl ⟨e,hp,h3,h5⟩⟩
theorem Zp3 {f:Frm} (len:f.r.length=10) (e:f.fn=32∨f.fn=33) (hp:0≤f.pc∧f.pc≤14∨f.pc=90):Wm9 L sl th f:=.inr ⟨len,.inr (.inl ⟨e,hp⟩)⟩
theorem Zp4 {f:Frm} (len:f.r.length=10) (e:f.fn=34) (hp:0≤f.pc∧f.pc≤5∨f.pc=90):Wm9 L sl th f:=.inr ⟨len,.inr (.inr (.inl ⟨e,hp⟩))⟩
theorem Zp5 {f:Frm} (len:f.r.length=10) (e:f.fn=35) (hp:0≤f.pc∧f.pc≤2):Wm9 L sl th f:=.inr ⟨len,.inr (.inr (.inr (.inl ⟨e,hp.1,hp.2⟩)))⟩
theorem Zp6 {f:Frm} (len:f.r.length=10) (e:f.fn=36) (hp:0≤f.pc∧f.pc≤6):Wm9 L sl th f:=.inr ⟨len,.inr (.inr (.inr (.inr (.inl ⟨e,hp.1,hp.2⟩))))⟩
structure Ze7 (L:Int) (f:Frm):Prop where
 len:f.r.length=10
 fn:f.fn=30
 g:0≤s64 (f.g 2)∧s64 (f.g 2) < L
theorem W65 {f:Frm} (len:f.r.length=10) (e:f.fn=30) (hp:0≤f.pc∧f.pc≤6) (hg:0≤s64 (f.g 2)∧s64 (f.g 2) < L):Wm9 L sl th f:=.inr ⟨len,.inr (.inr (.inr (.inr (.inr ⟨e,hp.1,hp.2,λ_=>hg⟩))))⟩
theorem WV5 {y:Run} (hL:L≤6) (r:Rest (Wm9 L sl th) y) (o:Ze7 L y.f):AllF (Wm9 L sl th) (Wo7 y):=by
 obtain ⟨len,e,g⟩:=o
 unfold Wo7;dsimp only
 split
 ·((repeat (with_reducible first | apply AllF.load | apply AllF.store | apply AllF.cas | apply AllF.add | apply AllF.swing | apply AllF.swingA | apply AllF.swingM | apply AllF.drop1 | apply AllF.guard | apply AllF.gh | apply AllF.fo | apply AllF.re | apply AllF.setPl));first | with_reducible assumption | ((with_reducible first | apply Rest.pop | apply Rest.call | apply Rest.allPc | apply Rest.allS | apply Rest.fin);(focus (refine Lo.rest ?_ (by assumption);(with_reducible repeat' constructor)))))
 ·rename_i c
  ((repeat (with_reducible first | apply AllF.load | apply AllF.store | apply AllF.cas | apply AllF.add | apply AllF.swing | apply AllF.swingA | apply AllF.swingM | apply AllF.drop1 | apply AllF.guard | apply AllF.gh | apply AllF.fo | apply AllF.re | apply AllF.setPl));first | with_reducible assumption | ((with_reducible first | apply Rest.pop | apply Rest.call | apply Rest.allPc | apply Rest.allS | apply Rest.fin);(focus (refine Lo.rest ?_ (by assumption);(with_reducible repeat' constructor)))))
  rw [f_s]
  refine W65 (by simp only [Wh3,Wk3];assumption) (by simp only [Wr9,WS0];assumption) ⟨by show (0:Int)≤1;omega,by show (1:Int)≤6;omega⟩ ?_
  have e1:(((y.setPl (y.t.pred.set (s64 (y.f.g 2)).toNat (y.f.g 3)) (y.t.succ.set (s64 (y.f.g 2)).toNat (Wg8 (y.f.g 4))) (y.t.word.set (s64 (y.f.g 2)).toNat (y.f.g 4))).f.s 2 (Mod.u64 (y.f.g 2 - 1))).at 1).g 2=Mod.u64 (y.f.g 2 - 1):=by
   rw [WN6]
   exact g_s (show (y.f).r.length=10 from len) (by decide) _
  rw [e1]
  exact Y07 g c hL
theorem WV6 {y:Run} (r:Rest (Wm9 L sl th) y) (o:Ze7 L y.f):AllF (Wm9 L sl th) (WH4 y):=by
 obtain ⟨len,e,g⟩:=o
 unfold WH4
 ((repeat (with_reducible first | apply AllF.load | apply AllF.store | apply AllF.cas | apply AllF.add | apply AllF.swing | apply AllF.swingA | apply AllF.swingM | apply AllF.drop1 | apply AllF.guard | apply AllF.gh | apply AllF.fo | apply AllF.re | apply AllF.setPl));first | with_reducible assumption | ((with_reducible first | apply Rest.pop | apply Rest.call | apply Rest.allPc | apply Rest.allS | apply Rest.fin);(focus (refine Lo.rest ?_ (by assumption);(with_reducible repeat' constructor)))))
 rw [f_s]
 exact W65 (by simp only [Wh3,Wk3];assumption) (by simp only [Wr9,WS0];assumption) ⟨by show (0:Int)≤1;omega,by show (1:Int)≤6;omega⟩ (by rw [WN6,Wa8 _ (by decide)];exact g)
theorem YJ6 (hL:L≤6) (r:Rest (Wm9 L sl th) x) (o:Ze7 L x.f):AllF (Wm9 L sl th) (WH5 x):=by
 obtain ⟨len,e,g⟩:=o
 unfold WH5;dsimp only
 repeat' split
 ·((repeat (with_reducible first | apply AllF.load | apply AllF.store | apply AllF.cas | apply AllF.add | apply AllF.swing | apply AllF.swingA | apply AllF.swingM | apply AllF.drop1 | apply AllF.guard | apply AllF.gh | apply AllF.fo | apply AllF.re | apply AllF.setPl));first | with_reducible assumption | ((with_reducible first | apply Rest.pop | apply Rest.call | apply Rest.allPc | apply Rest.allS | apply Rest.fin);(focus (refine Lo.rest ?_ (by assumption);(with_reducible repeat' constructor)))))
  exact .inr ⟨by rw [Wh3];exact len,.inr (.inr (.inr (.inr (.inr ⟨e,by show (0:Int)≤0;omega,by show (0:Int)≤6;omega,λhh=>absurd rfl hh⟩))))⟩
 ·exact WV6 (by exact Wr0) ⟨by rw [f_s,Wk3];exact len,by rw [f_s];exact e,by rw [f_s,Wa8 _ (by decide)];exact g⟩
 ·((repeat (with_reducible first | apply AllF.load | apply AllF.store | apply AllF.cas | apply AllF.add | apply AllF.swing | apply AllF.swingA | apply AllF.swingM | apply AllF.drop1 | apply AllF.guard | apply AllF.gh | apply AllF.fo | apply AllF.re | apply AllF.setPl));first | with_reducible assumption | ((with_reducible first | apply Rest.pop | apply Rest.call | apply Rest.allPc | apply Rest.allS | apply Rest.fin);(focus (refine Lo.rest ?_ (by assumption);(with_reducible repeat' constructor)))))
  exact Zy1
 ·((repeat (with_reducible first | apply AllF.load | apply AllF.store | apply AllF.cas | apply AllF.add | apply AllF.swing | apply AllF.swingA | apply AllF.swingM | apply AllF.drop1 | apply AllF.guard | apply AllF.gh | apply AllF.fo | apply AllF.re | apply AllF.setPl));first | with_reducible assumption | ((with_reducible first | apply Rest.pop | apply Rest.call | apply Rest.allPc | apply Rest.allS | apply Rest.fin);(focus (refine Lo.rest ?_ (by assumption);(with_reducible repeat' constructor)))))
  exact Zy1
theorem Y21 (hL:1≤L∧L≤6) (hl:L=x.m.p.c.level) (h:AllF (Wm9 L sl th) x) (o:Wm9 L sl th x.f) (e:x.f.fn=30):AllF (Wm9 L sl th) (W35 x):=by
 have r:=h.rest
 obtain ⟨len,o1,o2,o3⟩:=Zw6 o e
 unfold W35;dsimp only
 split
 ·((repeat (with_reducible first | apply AllF.load | apply AllF.store | apply AllF.cas | apply AllF.add | apply AllF.swing | apply AllF.swingA | apply AllF.swingM | apply AllF.drop1 | apply AllF.guard | apply AllF.gh | apply AllF.fo | apply AllF.re | apply AllF.setPl));first | with_reducible assumption | ((with_reducible first | apply Rest.pop | apply Rest.call | apply Rest.allPc | apply Rest.allS | apply Rest.fin);(focus (refine Lo.rest ?_ (by assumption);(with_reducible repeat' constructor)))))
  rw [f_s,f_s,f_s,f_s]
  refine W65 (by simp only [Wh3,Wk3];assumption) (by simp only [Wr9,WS0];assumption) ⟨by show (0:Int)≤1;omega,by show (1:Int)≤6;omega⟩ ?_
  rw [WN6,g_s (by rw [Wk3,Wk3,Wk3];exact len) (by decide)]
  have e2:(x.load 1).2.m.p.c.level=L:=by rw [hl];exact congrArg (λp:Pl=>p.c.level) (St.fix (St.load (St.refl x):St 1 x (x.load 1).2)).p
  first | rw [← hl] | rw [e2] | skip
  exact Y08 hL
 rename_i c
 have g:=o3 c
 have o9:Ze7 L x.f:=⟨len,e,g⟩
 repeat' split
 all_goals first
  | exact YJ6 hL.2 r o9
  | exact WV5 hL.2 (by exact Wr0) ⟨by rw [WC9,f_s];exact (Wk3 _ _ _).trans len,by rw [WC9,f_s];exact e,by rw [WC9,f_s,WN6,Wa8 _ (by decide)];exact g⟩
  | exact WV5 hL.2 (by exact Wr0) ⟨len,e,g⟩
  | exact WV6 (by exact Wr0) ⟨len,e,g⟩
  | exact WV6 (by exact Wr0) ⟨by rw [Wl4,WC9];exact len,by rw [Wl4,WC9];exact e,by rw [Wl4,WC9];exact g⟩
  | skip
 all_goals ((repeat (with_reducible first | apply AllF.load | apply AllF.store | apply AllF.cas | apply AllF.add | apply AllF.swing | apply AllF.swingA | apply AllF.swingM | apply AllF.drop1 | apply AllF.guard | apply AllF.gh | apply AllF.fo | apply AllF.re | apply AllF.setPl));first | with_reducible assumption | ((with_reducible first | apply Rest.pop | apply Rest.call | apply Rest.allPc | apply Rest.allS | apply Rest.fin);(focus (refine Lo.rest ?_ (by assumption);(with_reducible repeat' constructor)))))
 all_goals exact Zy1
theorem YJ7 (h:AllF (Wm9 L sl th) x) (s0:0≤sl) (t0:0≤sl*th) (len:x.f.r.length=10) (e:x.f.fn=34):AllF (Wm9 L sl th) (WH6 x):=by
 have r:=h.rest
 unfold WH6;dsimp only
 repeat' split
 all_goals ((repeat (with_reducible first | apply AllF.load | apply AllF.store | apply AllF.cas | apply AllF.add | apply AllF.swing | apply AllF.swingA | apply AllF.swingM | apply AllF.drop1 | apply AllF.guard | apply AllF.gh | apply AllF.fo | apply AllF.re | apply AllF.setPl));first | with_reducible assumption | ((with_reducible first | apply Rest.pop | apply Rest.call | apply Rest.allPc | apply Rest.allS | apply Rest.fin);(focus (refine Lo.rest ?_ (by assumption);(with_reducible repeat' constructor)))))
 all_goals first | (with_reducible apply Wr2;omega;assumption;assumption) | exact Zx9
theorem YJ8 (h:AllF (Wm9 L sl th) x) (s0:0≤sl) (t0:0≤sl*th) (len:x.f.r.length=10) (e:x.f.fn=35):AllF (Wm9 L sl th) (WH7 x):=by
 have r:=h.rest
 unfold WH7;dsimp only
 repeat' split
 all_goals ((repeat (with_reducible first | apply AllF.load | apply AllF.store | apply AllF.cas | apply AllF.add | apply AllF.swing | apply AllF.swingA | apply AllF.swingM | apply AllF.drop1 | apply AllF.guard | apply AllF.gh | apply AllF.fo | apply AllF.re | apply AllF.setPl));first | with_reducible assumption | ((with_reducible first | apply Rest.pop | apply Rest.call | apply Rest.allPc | apply Rest.allS | apply Rest.fin);(focus (refine Lo.rest ?_ (by assumption);(with_reducible repeat' constructor)))))
 all_goals first | (with_reducible apply Wr2;omega;assumption;assumption) | exact Zy0
theorem YJ9 (h:AllF (Wm9 L sl th) x) (s0:0≤sl) (t0:0≤sl*th) (len:x.f.r.length=10) (e:x.f.fn=36):AllF (Wm9 L sl th) (WH8 x):=by
 have r:=h.rest
 unfold WH8 Wz2;dsimp only
 repeat' split
 all_goals ((repeat (with_reducible first | apply AllF.load | apply AllF.store | apply AllF.cas | apply AllF.add | apply AllF.swing | apply AllF.swingA | apply AllF.swingM | apply AllF.drop1 | apply AllF.guard | apply AllF.gh | apply AllF.fo | apply AllF.re | apply AllF.setPl));first | with_reducible assumption | ((with_reducible first | apply Rest.pop | apply Rest.call | apply Rest.allPc | apply Rest.allS | apply Rest.fin);(focus (refine Lo.rest ?_ (by assumption);(with_reducible repeat' constructor)))))
 all_goals first | (with_reducible apply Wr2;omega;assumption;assumption) | exact Zq8
theorem YK0 (h:AllF (Wm9 L sl th) x) (s0:0≤sl) (t0:0≤sl*th) (len:x.f.r.length=10) (e:x.f.fn=36):AllF (Wm9 L sl th) (WH9 x):=by
 have r:=h.rest
 unfold WH9 Wz2;dsimp only
 repeat' split
 all_goals first | exact YJ9 h s0 t0 len e | skip
 all_goals ((repeat (with_reducible first | apply AllF.load | apply AllF.store | apply AllF.cas | apply AllF.add | apply AllF.swing | apply AllF.swingA | apply AllF.swingM | apply AllF.drop1 | apply AllF.guard | apply AllF.gh | apply AllF.fo | apply AllF.re | apply AllF.setPl));first | with_reducible assumption | ((with_reducible first | apply Rest.pop | apply Rest.call | apply Rest.allPc | apply Rest.allS | apply Rest.fin);(focus (refine Lo.rest ?_ (by assumption);(with_reducible repeat' constructor)))))
 all_goals first | (with_reducible apply Wr2;omega;assumption;assumption) | exact Zq8
theorem Y22 (h:AllF (Wm9 L sl th) x) (s0:0≤sl) (t0:0≤sl*th) (len:x.f.r.length=10) (e:x.f.fn=31) (o1:0≤x.f.pc∧x.f.pc≤18∨x.f.pc=90) (o2:3≤x.f.pc→x.f.pc≤16→1≤x.f.g 3∧x.f.g 3≤L) (o3:12≤x.f.pc→x.f.pc≤15→x.f.g 5 < x.f.g 3) (hp:3≤x.f.pc∧x.f.pc≤6):AllF (Wm9 L sl th) (Ya5 x):=by
 have r:=h.rest
 unfold Ya5;dsimp only
 repeat' split
 all_goals ((repeat (with_reducible first | apply AllF.load | apply AllF.store | apply AllF.cas | apply AllF.add | apply AllF.swing | apply AllF.swingA | apply AllF.swingM | apply AllF.drop1 | apply AllF.guard | apply AllF.gh | apply AllF.fo | apply AllF.re | apply AllF.setPl));first | with_reducible assumption | ((with_reducible first | apply Rest.pop | apply Rest.call | apply Rest.allPc | apply Rest.allS | apply Rest.fin);(focus (refine Lo.rest ?_ (by assumption);(with_reducible repeat' constructor)))))
 all_goals first | (with_reducible apply Wr2;omega;assumption;assumption) | exact W73
theorem Ys4 (h:AllF (Wm9 L sl th) x) (s0:0≤sl) (t0:0≤sl*th) (len:x.f.r.length=10) (e:x.f.fn=31) (o1:0≤x.f.pc∧x.f.pc≤18∨x.f.pc=90) (o2:3≤x.f.pc→x.f.pc≤16→1≤x.f.g 3∧x.f.g 3≤L) (o3:12≤x.f.pc→x.f.pc≤15→x.f.g 5 < x.f.g 3) (hp:7≤x.f.pc∧x.f.pc≤10):AllF (Wm9 L sl th) (Wx1 x):=by
 have r:=h.rest
 unfold Wx1;dsimp only
 repeat' split
 all_goals first | exact h | ((repeat (with_reducible first | apply AllF.load | apply AllF.store | apply AllF.cas | apply AllF.add | apply AllF.swing | apply AllF.swingA | apply AllF.swingM | apply AllF.drop1 | apply AllF.guard | apply AllF.gh | apply AllF.fo | apply AllF.re | apply AllF.setPl));first | with_reducible assumption | ((with_reducible first | apply Rest.pop | apply Rest.call | apply Rest.allPc | apply Rest.allS | apply Rest.fin);(focus (refine Lo.rest ?_ (by assumption);(with_reducible repeat' constructor))))) | skip
 all_goals first | (with_reducible apply Wr2;omega;assumption;assumption) | exact W73
theorem Ys5 (h:AllF (Wm9 L sl th) x) (s0:0≤sl) (t0:0≤sl*th) (len:x.f.r.length=10) (e:x.f.fn=31) (o1:0≤x.f.pc∧x.f.pc≤18∨x.f.pc=90) (o2:3≤x.f.pc→x.f.pc≤16→1≤x.f.g 3∧x.f.g 3≤L) (o3:12≤x.f.pc→x.f.pc≤15→x.f.g 5 < x.f.g 3) (hp:11≤x.f.pc∧x.f.pc≤14):AllF (Wm9 L sl th) (Wx2 x):=by
 have r:=h.rest
 unfold Wx2;dsimp only
 repeat' split
 all_goals first | exact h | ((repeat (with_reducible first | apply AllF.load | apply AllF.store | apply AllF.cas | apply AllF.add | apply AllF.swing | apply AllF.swingA | apply AllF.swingM | apply AllF.drop1 | apply AllF.guard | apply AllF.gh | apply AllF.fo | apply AllF.re | apply AllF.setPl));first | with_reducible assumption | ((with_reducible first | apply Rest.pop | apply Rest.call | apply Rest.allPc | apply Rest.allS | apply Rest.fin);(focus (refine Lo.rest ?_ (by assumption);(with_reducible repeat' constructor))))) | skip
 all_goals first | (with_reducible apply Wr2;omega;assumption;assumption) | exact W73
theorem YK1 (h:AllF (Wm9 L sl th) x) (s0:0≤sl) (t0:0≤sl*th) (len:x.f.r.length=10) (e:x.f.fn=31) (o1:0≤x.f.pc∧x.f.pc≤18∨x.f.pc=90) (o2:3≤x.f.pc→x.f.pc≤16→1≤x.f.g 3∧x.f.g 3≤L) (o3:12≤x.f.pc→x.f.pc≤15→x.f.g 5 < x.f.g 3) (hp:15≤x.f.pc∧x.f.pc≤18):AllF (Wm9 L sl th) (WI1 x):=by
 have r:=h.rest
 unfold WI1;dsimp only
 repeat' split
 all_goals ((repeat (with_reducible first | apply AllF.load | apply AllF.store | apply AllF.cas | apply AllF.add | apply AllF.swing | apply AllF.swingA | apply AllF.swingM | apply AllF.drop1 | apply AllF.guard | apply AllF.gh | apply AllF.fo | apply AllF.re | apply AllF.setPl));first | with_reducible assumption | ((with_reducible first | apply Rest.pop | apply Rest.call | apply Rest.allPc | apply Rest.allS | apply Rest.fin);(focus (refine Lo.rest ?_ (by assumption);(with_reducible repeat' constructor)))))
 all_goals first | (with_reducible apply Wr2;omega;assumption;assumption) | exact W73
theorem YK2 (h:AllF (Wm9 L sl th) x) (hL:L=x.m.p.c.level) (hl:1≤L∧L≤6) (s0:0≤sl) (t0:0≤sl*th) (len:x.f.r.length=10) (e:x.f.fn=31) (hp:0≤x.f.pc∧x.f.pc≤2):AllF (Wm9 L sl th) (WI0 x):=by
 have r:=h.rest
 unfold WI0;dsimp only
 repeat' split
 ·((repeat (with_reducible first | apply AllF.load | apply AllF.store | apply AllF.cas | apply AllF.add | apply AllF.swing | apply AllF.swingA | apply AllF.swingM | apply AllF.drop1 | apply AllF.guard | apply AllF.gh | apply AllF.fo | apply AllF.re | apply AllF.setPl));first | with_reducible assumption | ((with_reducible first | apply Rest.pop | apply Rest.call | apply Rest.allPc | apply Rest.allS | apply Rest.fin);(focus (refine Lo.rest ?_ (by assumption);(with_reducible repeat' constructor)))))
  ·exact W73
  ·exact Wr2 (by omega) s0 t0
 ·((repeat (with_reducible first | apply AllF.load | apply AllF.store | apply AllF.cas | apply AllF.add | apply AllF.swing | apply AllF.swingA | apply AllF.swingM | apply AllF.drop1 | apply AllF.guard | apply AllF.gh | apply AllF.fo | apply AllF.re | apply AllF.setPl));first | with_reducible assumption | ((with_reducible first | apply Rest.pop | apply Rest.call | apply Rest.allPc | apply Rest.allS | apply Rest.fin);(focus (refine Lo.rest ?_ (by assumption);(with_reducible repeat' constructor)))))
  exact W73
 ·((repeat (with_reducible first | apply AllF.load | apply AllF.store | apply AllF.cas | apply AllF.add | apply AllF.swing | apply AllF.swingA | apply AllF.swingM | apply AllF.drop1 | apply AllF.guard | apply AllF.gh | apply AllF.fo | apply AllF.re | apply AllF.setPl));first | with_reducible assumption | ((with_reducible first | apply Rest.pop | apply Rest.call | apply Rest.allPc | apply Rest.allS | apply Rest.fin);(focus (refine Lo.rest ?_ (by assumption);(with_reducible repeat' constructor)))))
  ·exact W73
  ·exact Wr2 (by omega) s0 t0
 ·((repeat (with_reducible first | apply AllF.load | apply AllF.store | apply AllF.cas | apply AllF.add | apply AllF.swing | apply AllF.swingA | apply AllF.swingM | apply AllF.drop1 | apply AllF.guard | apply AllF.gh | apply AllF.fo | apply AllF.re | apply AllF.setPl));first | with_reducible assumption | ((with_reducible first | apply Rest.pop | apply Rest.call | apply Rest.allPc | apply Rest.allS | apply Rest.fin);(focus (refine Lo.rest ?_ (by assumption);(with_reducible repeat' constructor)))))
  ·exact W73
  ·exact Wr2 (by omega) s0 t0
 ·refine Rest.allPc (Rest.s (Rest.m (by exact Wr0))) ?_
  rw [f_s]
  have ef:∀m:Mac,(⟨m,((x.add 3 1).2.s 4 (Wg6 (u32 (x.f.g 0)) (u32 (x.add 3 1).1))).t,((x.add 3 1).2.s 4 (Wg6 (u32 (x.f.g 0)) (u32 (x.add 3 1).1))).id⟩ : Run).f=x.f.s 4 (Wg6 (u32 (x.f.g 0)) (u32 (x.add 3 1).1)):=λm=>by
   show ((x.add 3 1).2.s 4 (Wg6 (u32 (x.f.g 0)) (u32 (x.add 3 1).1))).f=_
   rw [f_s]
   rfl
  rw [ef]
  have hv:=Yz5 ((x.add 3 1).2.s 4 (Wg6 (u32 (x.f.g 0)) (u32 (x.add 3 1).1))).m hl
  have ep:((x.add 3 1).2.s 4 (Wg6 (u32 (x.f.g 0)) (u32 (x.add 3 1).1))).m.p.c.level=L:=by rw [hL];exact congrArg (λp:Pl=>p.c.level) (St.fix (St.s (St.add (St.refl x)):St 2 x ((x.add 3 1).2.s 4 (Wg6 (u32 (x.f.g 0)) (u32 (x.add 3 1).1))))).p
  rw [ep]
  generalize Mod.u64 (((x.add 3 1).2.s 4 (Wg6 (u32 (x.f.g 0)) (u32 (x.add 3 1).1))).m.lvl L).1=v at *
  refine .inr ⟨by simp only [Wh3,Wk3];exact len,.inl ⟨e,.inl ⟨by show (0:Int)≤3;omega,by show (3:Int)≤18;omega⟩,λ_ _=>?_,λhh=>?_⟩⟩
  ·rw [WN6,g_s (by rw [Wk3];exact len) (by decide)]
   exact hv
  ·simp only [Wx6] at hh;omega
 ·exact h
theorem YK3 (h:AllF (Wm9 L sl th) x) (hL:L=x.m.p.c.level) (hl:1≤L∧L≤6) (s0:0≤sl) (t0:0≤sl*th) (o:Wm9 L sl th x.f) (e:x.f.fn=31) (h9:x.f.pc≠90):AllF (Wm9 L sl th) (WI2 x):=by
 obtain ⟨len,o1,o2,o3⟩:=Zw5 o e
 unfold WI2
 repeat' split
 ·exact YK2 h hL hl s0 t0 len e (by omega)
 ·exact Y22 h s0 t0 len e o1 o2 o3 (by omega)
 ·exact Ys4 h s0 t0 len e o1 o2 o3 (by omega)
 ·exact Ys5 h s0 t0 len e o1 o2 o3 (by omega)
 ·exact YK1 h s0 t0 len e o1 o2 o3 (by omega)
theorem YK4 (h:AllF (Wm9 L sl th) x) (s0:0≤sl) (t0:0≤sl*th) (len:x.f.r.length=10) (e:x.f.fn=32∨x.f.fn=33):AllF (Wm9 L sl th) (WA2 x):=by
 have r:=h.rest
 unfold WA2;dsimp only
 repeat' split
 all_goals first | exact h | ((repeat (with_reducible first | apply AllF.load | apply AllF.store | apply AllF.cas | apply AllF.add | apply AllF.swing | apply AllF.swingA | apply AllF.swingM | apply AllF.drop1 | apply AllF.guard | apply AllF.gh | apply AllF.fo | apply AllF.re | apply AllF.setPl));first | with_reducible assumption | ((with_reducible first | apply Rest.pop | apply Rest.call | apply Rest.allPc | apply Rest.allS | apply Rest.fin);(focus (refine Lo.rest ?_ (by assumption);(with_reducible repeat' constructor))))) | skip
 all_goals first | (with_reducible apply Wr2;omega;assumption;assumption) | exact Y49
theorem Ze8 (h:AllF (Wm9 L sl th) x) (s0:0≤sl) (t0:0≤sl*th) (len:x.f.r.length=10) (e:x.f.fn=32∨x.f.fn=33):AllF (Wm9 L sl th) (YQ4 x):=by
 have r:=h.rest
 unfold YQ4;dsimp only
 repeat' split
 all_goals first | exact h | ((repeat (with_reducible first | apply AllF.load | apply AllF.store | apply AllF.cas | apply AllF.add | apply AllF.swing | apply AllF.swingA | apply AllF.swingM | apply AllF.drop1 | apply AllF.guard | apply AllF.gh | apply AllF.fo | apply AllF.re | apply AllF.setPl));first | with_reducible assumption | ((with_reducible first | apply Rest.pop | apply Rest.call | apply Rest.allPc | apply Rest.allS | apply Rest.fin);(focus (refine Lo.rest ?_ (by assumption);(with_reducible repeat' constructor))))) | skip
 all_goals first | (with_reducible apply Wr2;omega;assumption;assumption) | exact Y49
theorem YK5 (h:AllF (Wm9 L sl th) x) (s0:0≤sl) (t0:0≤sl*th) (len:x.f.r.length=10) (e:x.f.fn=32∨x.f.fn=33):AllF (Wm9 L sl th) (WA3 x):=by
 have r:=h.rest
 unfold WA3;dsimp only
 repeat' split
 all_goals first | exact h | ((repeat (with_reducible first | apply AllF.load | apply AllF.store | apply AllF.cas | apply AllF.add | apply AllF.swing | apply AllF.swingA | apply AllF.swingM | apply AllF.drop1 | apply AllF.guard | apply AllF.gh | apply AllF.fo | apply AllF.re | apply AllF.setPl));first | with_reducible assumption | ((with_reducible first | apply Rest.pop | apply Rest.call | apply Rest.allPc | apply Rest.allS | apply Rest.fin);(focus (refine Lo.rest ?_ (by assumption);(with_reducible repeat' constructor))))) | skip
 all_goals first | (with_reducible apply Wr2;omega;assumption;assumption) | exact Y49
theorem Y23 (h:AllF (Wm9 L sl th) x) (s0:0≤sl) (t0:0≤sl*th) (len:x.f.r.length=10) (e:x.f.fn=32∨x.f.fn=33):AllF (Wm9 L sl th) (WR3 x):=by
 have r:=h.rest
 unfold WR3;dsimp only
 repeat' split
 all_goals first | exact h | ((repeat (with_reducible first | apply AllF.load | apply AllF.store | apply AllF.cas | apply AllF.add | apply AllF.swing | apply AllF.swingA | apply AllF.swingM | apply AllF.drop1 | apply AllF.guard | apply AllF.gh | apply AllF.fo | apply AllF.re | apply AllF.setPl));first | with_reducible assumption | ((with_reducible first | apply Rest.pop | apply Rest.call | apply Rest.allPc | apply Rest.allS | apply Rest.fin);(focus (refine Lo.rest ?_ (by assumption);(with_reducible repeat' constructor))))) | skip
 all_goals first | (with_reducible apply Wr2;omega;assumption;assumption) | exact Y49
theorem YK6 (h:AllF (Wm9 L sl th) x) (s0:0≤sl) (t0:0≤sl*th) (len:x.f.r.length=10) (e:x.f.fn=32∨x.f.fn=33):AllF (Wm9 L sl th) (WA4 x):=by
 unfold WA4
 repeat' split
 ·exact YK4 h s0 t0 len e
 ·exact Ze8 h s0 t0 len e
 ·exact YK5 h s0 t0 len e
 ·exact Y23 h s0 t0 len e
theorem Yh4 (h:AllF (Wm9 L sl th) x) (hL:L=x.m.p.c.level) (hl:1≤L∧L≤6) (hs:sl=x.m.p.slots) (ht:th=x.m.p.c.threads) (s0:0≤sl) (t0:0≤sl*th) (hne:x.t.fr≠[]):AllF (Wm9 L sl th) (Wp6 x):=by
 have r:=h.rest
 have o:=h.top hne
 unfold Wp6
 rw [if_neg hne]
 dsimp only
 split
 ·unfold Wx0
  rw [if_neg hne]
  split
  ·exact Y21 hl hL h o (by assumption)
  ·exact WB0 (λf hf=>.inl hf) h hs ht s0 t0 (ZB5 o (by omega))
 have len:=(Zp1 o (by omega)).1
 split
 ·((repeat (with_reducible first | apply AllF.load | apply AllF.store | apply AllF.cas | apply AllF.add | apply AllF.swing | apply AllF.swingA | apply AllF.swingM | apply AllF.drop1 | apply AllF.guard | apply AllF.gh | apply AllF.fo | apply AllF.re | apply AllF.setPl));first | with_reducible assumption | ((with_reducible first | apply Rest.pop | apply Rest.call | apply Rest.allPc | apply Rest.allS | apply Rest.fin);(focus (refine Lo.rest ?_ (by assumption);(with_reducible repeat' constructor)))))
 split
 ·exact YK3 h hL hl s0 t0 o (by assumption) (by assumption)
 split
 ·exact YJ7 h s0 t0 len (by assumption)
 split
 ·exact YJ8 h s0 t0 len (by assumption)
 split
 ·exact YK0 h s0 t0 len (by assumption)
 ·exact YK6 h s0 t0 len (by omega)
end
end
section
open Mod
section
variable {x:Run} {L sl th:Int}
theorem Ys6 {y:Run} {l:List Frm} (r:AdjR sl th 30 l y):Adj sl th (Wo7 y):=by
 unfold Wo7;dsimp only
 split
 all_goals exact Yi0
theorem Ys7 {y:Run} (h:Tch y):Tch (Wo7 y):=by
 unfold Wo7;dsimp only
 split
 all_goals (with_reducible repeat' (first | assumption | constructor))
theorem Yh5 {y:Run} {l:List Frm} (r:AdjR sl th 30 l y):Adj sl th (WH4 y):=by
 unfold WH4
 exact Yi0
theorem Yh6 {y:Run} (h:Tch y):Tch (WH4 y):=by
 unfold WH4
 with_reducible repeat' (first | assumption | constructor)
theorem Y24 (hs:0 < sl) (hne:x.t.fr≠[]) (h:Adj sl th x) (e:x.f.fn=30):Nx sl th x (WH5 x):=by
 have r:=h.r hne
 rw [e] at r
 unfold WH5;dsimp only
 repeat' split
 all_goals first
  | (refine ⟨Yh5 (l:=rst x) ?_,.inl (Tch.act (Yh6 ?_))⟩;exact W08;(with_reducible repeat' constructor);done)
  | exact Wl1
theorem Ze9 {y:Run} {l:List Frm} (r:AdjR sl th 30 l y) (h:Tch y):Nx sl th x (WH4 y):=⟨Yh5 r,.inl (Tch.act (Yh6 h))⟩
theorem YK7 {y:Run} {l:List Frm} (r:AdjR sl th 30 l y) (h:Tch y):Nx sl th x (Wo7 y):=⟨Ys6 r,.inl (Tch.act (Ys7 h))⟩
theorem Zf0 (hs:0 < sl) (hne:x.t.fr≠[]) (h:Adj sl th x) (e:x.f.fn=30):Nx sl th x (W35 x):=by
 have r:=h.r hne
 rw [e] at r
 unfold W35;dsimp only
 repeat' split
 all_goals first
  | (with_reducible apply Y24 hs hne h e)
  | ((with_reducible apply Ze9 (l:=rst x));exact W08;(with_reducible repeat' constructor);done)
  | ((with_reducible apply YK7 (l:=rst x));exact W08;(with_reducible repeat' constructor);done)
  | exact Wl1
theorem Y25 (hs:0 < sl) (ha:0 < sl*th) (hne:x.t.fr≠[]) (h:Adj sl th x) (e:x.f.fn=34) (hp:0≤x.f.pc∧x.f.pc≤5):Nx sl th x (WH6 x):=by
 have r:=h.r hne
 rw [e] at r
 unfold WH6;dsimp only
 repeat' split
 all_goals first | exact Wl1 | ((have e1:x.f.pc=5:=by omega);exact Wl1) | omega
theorem Y26 (hs:0 < sl) (ha:0 < sl*th) (hne:x.t.fr≠[]) (h:Adj sl th x) (e:x.f.fn=35) (hp:0≤x.f.pc∧x.f.pc≤2):Nx sl th x (WH7 x):=by
 have r:=h.r hne
 rw [e] at r
 unfold WH7;dsimp only
 repeat' split
 all_goals first | exact Wl1 | ((have e1:x.f.pc=2:=by omega);exact Wl1) | omega
theorem Y27 (hs:0 < sl) (ha:0 < sl*th) (hne:x.t.fr≠[]) (h:Adj sl th x) (e:x.f.fn=36) (hp:4≤x.f.pc∧x.f.pc≤6):Nx sl th x (WH8 x):=by
 have r:=h.r hne
 rw [e] at r
 unfold WH8 Wz2;dsimp only
 repeat' split
 all_goals first | exact Wl1 | omega
theorem Y28 (hs:0 < sl) (ha:0 < sl*th) (hne:x.t.fr≠[]) (h:Adj sl th x) (e:x.f.fn=36) (hp:0≤x.f.pc∧x.f.pc≤6):Nx sl th x (WH9 x):=by
 have r:=h.r hne
 rw [e] at r
 unfold WH9 Wz2;dsimp only
 repeat' split
 all_goals first | exact Wl1 | exact Y27 hs ha hne h e (by omega) | omega
theorem Y29 (hs:0 < sl) (ha:0 < sl*th) (hne:x.t.fr≠[]) (h:Adj sl th x) (e:x.f.fn=31) (hp:0≤x.f.pc∧x.f.pc≤2):Nx sl th x (WI0 x):=by
 have r:=h.r hne
 rw [e] at r
 unfold WI0;dsimp only
 repeat' split
 all_goals first | exact WW1 | omega
theorem Zf1 (hs:0 < sl) (ha:0 < sl*th) (hne:x.t.fr≠[]) (h:Adj sl th x) (e:x.f.fn=31) (hp:3≤x.f.pc∧x.f.pc≤6):Nx sl th x (Ya5 x):=by
 have r:=h.r hne
 rw [e] at r
 unfold Ya5;dsimp only
 repeat' split
 all_goals first | exact Wl1 | omega
theorem YK8 (hs:0 < sl) (ha:0 < sl*th) (hne:x.t.fr≠[]) (h:Adj sl th x) (e:x.f.fn=31) (hp:7≤x.f.pc∧x.f.pc≤10):Nx sl th x (Wx1 x):=by
 have r:=h.r hne
 rw [e] at r
 unfold Wx1;dsimp only
 repeat' split
 all_goals first | exact Wl1 | omega
theorem YK9 (hs:0 < sl) (ha:0 < sl*th) (hne:x.t.fr≠[]) (h:Adj sl th x) (e:x.f.fn=31) (hp:11≤x.f.pc∧x.f.pc≤14):Nx sl th x (Wx2 x):=by
 have r:=h.r hne
 rw [e] at r
 unfold Wx2;dsimp only
 repeat' split
 all_goals first | exact Wl1 | omega
theorem Y30 (hs:0 < sl) (ha:0 < sl*th) (hne:x.t.fr≠[]) (h:Adj sl th x) (e:x.f.fn=31) (hp:15≤x.f.pc∧x.f.pc≤18):Nx sl th x (WI1 x):=by
 have r:=h.r hne
 rw [e] at r
 unfold WI1;dsimp only
 repeat' split
 all_goals first | exact Wl1 | ((have e1:x.f.pc=18:=by omega);exact Wl1) | omega
theorem Y31 (hs:0 < sl) (ha:0 < sl*th) (hne:x.t.fr≠[]) (h:Adj sl th x) (e:x.f.fn=31) (hp:0≤x.f.pc∧x.f.pc≤18):Nx sl th x (WI2 x):=by
 unfold WI2
 repeat' split
 ·exact Y29 hs ha hne h e (by omega)
 ·exact Zf1 hs ha hne h e (by omega)
 ·exact YK8 hs ha hne h e (by omega)
 ·exact YK9 hs ha hne h e (by omega)
 ·exact Y30 hs ha hne h e (by omega)
theorem Ys8 (hs:0 < sl) (ha:0 < sl*th) (hne:x.t.fr≠[]) (h:Adj sl th x) (e:x.f.fn=32) (hp:0≤x.f.pc∧x.f.pc≤4):Nx sl th x (WA2 x):=by
 have r:=h.r hne
 rw [e] at r
 unfold WA2;dsimp only
 repeat' split
 all_goals first | exact Wl1 | omega
theorem Y32 (hs:0 < sl) (ha:0 < sl*th) (hne:x.t.fr≠[]) (h:Adj sl th x) (e:x.f.fn=32) (hp:5≤x.f.pc∧x.f.pc≤8):Nx sl th x (YQ4 x):=by
 have r:=h.r hne
 rw [e] at r
 unfold YQ4;dsimp only
 repeat' split
 all_goals first | exact Wl1 | omega
theorem Ys9 (hs:0 < sl) (ha:0 < sl*th) (hne:x.t.fr≠[]) (h:Adj sl th x) (e:x.f.fn=32) (hp:9≤x.f.pc∧x.f.pc≤10):Nx sl th x (WA3 x):=by
 have r:=h.r hne
 rw [e] at r
 unfold WA3;dsimp only
 repeat' split
 all_goals first | exact Wl1 | omega
theorem YL0 (hs:0 < sl) (ha:0 < sl*th) (hne:x.t.fr≠[]) (h:Adj sl th x) (e:x.f.fn=32) (hp:11≤x.f.pc∧x.f.pc≤14):Nx sl th x (WR3 x):=by
 have r:=h.r hne
 rw [e] at r
 unfold WR3;dsimp only
 repeat' split
 all_goals first | exact Wl1 | ((have e1:x.f.pc=14:=by omega);exact Wl1) | omega
theorem Yt0 (hs:0 < sl) (ha:0 < sl*th) (hne:x.t.fr≠[]) (h:Adj sl th x) (e:x.f.fn=32) (hp:0≤x.f.pc∧x.f.pc≤14):Nx sl th x (WA4 x):=by
 unfold WA4
 repeat' split
 ·exact Ys8 hs ha hne h e (by omega)
 ·exact Y32 hs ha hne h e (by omega)
 ·exact Ys9 hs ha hne h e (by omega)
 ·exact YL0 hs ha hne h e (by omega)
theorem Yt1 (hs:0 < sl) (ha:0 < sl*th) (hne:x.t.fr≠[]) (h:Adj sl th x) (e:x.f.fn=33) (hp:0≤x.f.pc∧x.f.pc≤4):Nx sl th x (WA2 x):=by
 have r:=h.r hne
 rw [e] at r
 unfold WA2;dsimp only
 repeat' split
 all_goals first | exact Wl1 | omega
theorem Y33 (hs:0 < sl) (ha:0 < sl*th) (hne:x.t.fr≠[]) (h:Adj sl th x) (e:x.f.fn=33) (hp:5≤x.f.pc∧x.f.pc≤8):Nx sl th x (YQ4 x):=by
 have r:=h.r hne
 rw [e] at r
 unfold YQ4;dsimp only
 repeat' split
 all_goals first | exact Wl1 | omega
theorem Yt2 (hs:0 < sl) (ha:0 < sl*th) (hne:x.t.fr≠[]) (h:Adj sl th x) (e:x.f.fn=33) (hp:9≤x.f.pc∧x.f.pc≤10):Nx sl th x (WA3 x):=by
 have r:=h.r hne
 rw [e] at r
 unfold WA3;dsimp only
 repeat' split
 all_goals first | exact Wl1 | omega
theorem YL1 (hs:0 < sl) (ha:0 < sl*th) (hne:x.t.fr≠[]) (h:Adj sl th x) (e:x.f.fn=33) (hp:11≤x.f.pc∧x.f.pc≤14):Nx sl th x (WR3 x):=by
 have r:=h.r hne
 rw [e] at r
 unfold WR3;dsimp only
 repeat' split
 all_goals first | exact Wl1 | ((have e1:x.f.pc=14:=by omega);exact Wl1) | omega
theorem Yt3 (hs:0 < sl) (ha:0 < sl*th) (hne:x.t.fr≠[]) (h:Adj sl th x) (e:x.f.fn=33) (hp:0≤x.f.pc∧x.f.pc≤14):Nx sl th x (WA4 x):=by
 unfold WA4
 repeat' split
 ·exact Yt1 hs ha hne h e (by omega)
 ·exact Y33 hs ha hne h e (by omega)
 ·exact Yt2 hs ha hne h e (by omega)
 ·exact YL1 hs ha hne h e (by omega)
theorem Zw7 {f:Frm} (o:Wm9 L sl th f):(1≤f.fn∧f.fn≤6)∨f.fn=30∧0≤f.pc∧f.pc≤6∨f.fn=31∧(0≤f.pc∧f.pc≤18∨f.pc=90)∨(f.fn=32∨f.fn=33)∧(0≤f.pc∧f.pc≤14∨f.pc=90)∨f.fn=34∧(0≤f.pc∧f.pc≤5∨f.pc=90)∨f.fn=35∧0≤f.pc∧f.pc≤2∨f.fn=36∧0≤f.pc∧f.pc≤6:=by
 unfold Wm9 Wz3 at o
 omega
theorem Yt4 (hsl:sl=x.m.p.slots) (hth:th=x.m.p.c.threads) (hs:0 < sl) (ha:0 < sl*th) (hne:x.t.fr≠[]) (h:Adj sl th x) (o:Wm9 L sl th x.f):Nx sl th x (Wp6 x):=by
 have o1:=Zw7 o
 have r:=h.r hne
 unfold Wp6
 rw [if_neg hne]
 dsimp only
 split
 ·unfold Wx0
  rw [if_neg hne]
  split
  ·exact Zf0 hs hne h (by assumption)
  ·exact WF3 hsl hth hs ha hne h (by omega)
 split
 ·rename_i c c9
  refine ⟨r.pop,.inr (AdjR.ltPop r hne c9 r hne ?_)⟩
  have c2:fA sl th x.f.fn 90=false:=by
   have:x.f.fn=31∨x.f.fn=32∨x.f.fn=33∨x.f.fn=34:=by omega
   rcases this with e | e | e | e <;> rw [e] <;> simp [fA]
  rw [c2]
  have:=(Yf6 x.f.fn 90).1
  simp
  omega
 split
 ·exact Y31 hs ha hne h (by assumption) (by omega)
 split
 ·exact Y25 hs ha hne h (by assumption) (by omega)
 split
 ·exact Y26 hs ha hne h (by assumption) (by omega)
 split
 ·exact Y28 hs ha hne h (by assumption) (by omega)
 ·have:x.f.fn=32∨x.f.fn=33:=by omega
  rcases this with e | e
  ·exact Yt0 hs ha hne h e (by omega)
  ·exact Yt3 hs ha hne h e (by omega)
end
def LnQ (c:Mod.Cf) (f:Frm):Prop:=Wm9 c.level (Wc8 c).slots c.threads f
def LnW (x:Run):Prop:=Ok x∧LOk x∧(x.f.fn=31→ZA4 x)
theorem Yt5:Zq4 Wp6 LnQ LnW 31 where
 st:=Yq1
 all c x hc hp hne h:=by
  obtain ⟨a1,a2,a3,a4,a5,a6⟩:=Wz4 hc
  exact Yh4 h (by rw [hp];rfl) ⟨a5,a6⟩ (by rw [hp]) (by rw [hp];rfl) (by omega) (by omega) hne
 nx c x hc hp hne h a:=by
  obtain ⟨a1,a2,a3,a4,a5,a6⟩:=Wz4 hc
  exact Yt4 (by rw [hp]) (by rw [hp];rfl) a1 a2 hne a (h.top hne)
 w c x B hc h hB hne hid:=by
  obtain ⟨a1,a2,a3,a4,a5,a6⟩:=Wz4 hc
  have o:Wm9 c.level (Wc8 c).slots c.threads x.f:=h.q.top hne
  have hpr:=h.pr
  have hsu:=h.su
  have hwo:=h.wo
  refine ⟨h.ok hB hid ?_,λe hp=>?_,λe=>?_⟩
  ·rcases o with o | ⟨_,o⟩
   ·exact Zo9 o ⟨by omega,a4⟩ a3
   ·omega
  ·obtain ⟨len,o1,o2,o3⟩:=Zw6 o e
   have g:=o3 hp
   exact ⟨⟨g.1,by omega⟩,by omega,by omega,by omega⟩
  ·obtain ⟨len,o1,o2,o3⟩:=Zw5 o e
   refine ⟨⟨by omega,by omega,by omega,by omega⟩,λe2 e3=>?_⟩
   have g1:=o2 (by omega) (by omega)
   have g2:=o3 (by omega) (by omega)
   omega
 new c op l hc ho:=by
  obtain ⟨a1,a2,a3,a4,a5,a6⟩:=Wz4 hc
  exact Wr2 (by omega) (by omega) (by omega)
theorem YL2:DoC 27 Wp6 LnW:=λh M T tv x R K H hw k=>W54 H hw.1 hw.2.1 hw.2.2 k
end
section
open Mod
theorem ZB6 {c:Mod.Cf} (hc:okC c=true):∃(d:Run→Run) (W:Run→Prop) (Inv:Nat→Mac→Prop),DoC (W59 c.algo) d W∧YW1 d W (Wt1 c.algo) Inv∧∀b g,Inv 0 (Wy7 c b g):=by
 unfold W59 Wt1
 by_cases h0:c.algo=0
 ·rw [if_pos h0,if_pos h0]
  exact ⟨_,_,MacOk MoQ c,Y20,MacOk.good YJ5,λb g=>MacOk.new hc b g⟩
 ·rw [if_neg h0,if_neg h0]
  by_cases h1:c.algo=1
  ·rw [if_pos h1,if_pos h1]
   exact ⟨_,_,MacOk _ c,Ys1,MacOk.good Yh1,λb g=>MacOk.new hc b g⟩
  ·rw [if_neg h1,if_neg h1]
   exact ⟨_,_,MacOk _ c,YL2,MacOk.good Yt5,λb g=>MacOk.new hc b g⟩
theorem Zf2 (c:Cl):WN7 (clL c)=true:=by
 have:=YW2 c.op
 unfold clL
 split
 ·rfl
 ·rename_i h
  unfold WN7
  simp only [Bool.or_eq_true,Bool.and_eq_true,beq_iff_eq,and_true]
  omega
theorem WV7 (th n:Nat) (calls:List (List Cl)):(Wf0 th n calls).flatten.length≤n*th:=by
 induction th with
 | zero=>simp [Wf0]
 | succ j ih=>
  rw [WV0,List.flatten_append,List.length_append,List.flatten_singleton,W62,Nat.mul_succ]
  omega
theorem Yt6 {c:Mod.Cf} (hc:okC c=true) {calls:List (List Cl)} {Wb8 draws:List Int} {n m:Nat} (hn:n≤8) (hm:m≤60000):Y44 c (Wf0 c.threads.toNat n calls) (Wg3 c.threads m Wb8) (draws.take 4096)=true:=by
 have B:=Ws0 hc
 have hth:1≤c.threads∧c.threads≤6:=B.th
 have hf:=WV7 c.threads.toNat n calls
 have hnt:n*c.threads.toNat≤8*6:=Nat.mul_le_mul hn (by omega)
 unfold Y44
 rw [hc,Wv4]
 simp only [Bool.and_eq_true,beq_iff_eq,decide_eq_true_eq,List.all_eq_true]
 refine ⟨trivial,by omega,by omega,?_,?_,?_,?_⟩
 ·unfold Wg3;rw [List.length_map,List.length_take];omega
 ·rw [List.length_take];omega
 ·intro l hl x hx
  unfold Wf0 at hl
  obtain ⟨i,_,rfl⟩:=List.mem_map.1 hl
  unfold WP0 at hx
  obtain ⟨y,_,rfl⟩:=List.mem_map.1 hx
  exact Zf2 y
 ·intro k hk
  unfold Wg3 at hk
  obtain ⟨k0,_,rfl⟩:=List.mem_map.1 hk
  exact YW3 hth k0
theorem Zf3 {th:Int} {n m:Nat} {calls:List (List Cl)} {Wb8 draws:List Int} (hn:n≤1000) (R:Zi1 calls Wb8 draws):Zi1 (Wf0 th.toNat n calls) (Wg3 th m Wb8) (draws.take 4096):=
 ⟨λl hl x hx=>((Ye7 R hn l hl).2 x hx).2,λx hx=>R.dr x (List.mem_of_mem_take hx)⟩
section
variable {K:Value→Wa1→Prop} {h:Wa1} {R:Hp} {calls:List (List Cl)} {Wb8 draws:List Int}
theorem Yt7 {c:Mod.Cf} {ca pa da:Option Addr} {cl cc pl pc dl dc:Nat} (H:Sat h R) (hc:okC c=false) (k0:∀h',Sat h' R→K (.tuple #[.agg #[.slice none 0 0,.int .i64 0,.int .i64 0,.bool false,.int .i64 0],.pointer none,.int .i64 1]) h') :
  Wa5 Tryz.prog 9 #[.agg #[.int .i64 c.algo,.int .i64 c.threads,.int .i64 c.nodes,.int .i64 c.level,.int .i64 c.batch,.int .i64 c.probes,.int .i64 c.scan,.slice ca cl cc,.slice pa pl pc,.slice da dl dc]] h K:=by
 refine call9 ?_
 unfold F9 g9 cf ce bd lS lI da5 da7 dl5 W68 dw5
 have H1:=H.push (.cells (Wo0 c ca cl cc pa pl pc da dl dc).toArray 28)
 rw [show h.push (.cells #[.int .i64 c.algo,.int .i64 c.threads,.int .i64 c.nodes,.int .i64 c.level,.int .i64 c.batch,.int .i64 c.probes,.int .i64 c.scan,.slice ca cl cc,.slice pa pl pc,.slice da dl dc] 28)=h.push (.cells (Wo0 c ca cl cc pa pl pc da dl dc).toArray 28) from rfl]
 generalize h.push (.cells (Wo0 c ca cl cc pa pl pc da dl dc).toArray 28)=h1 at *
 generalize h.size=SB at *
 have H2:=H1.push (.cells #[.slice none 0 0,.int .i64 0,.int .i64 0,.bool false,.int .i64 0] 39)
 generalize h1.push (.cells #[.slice none 0 0,.int .i64 0,.int .i64 0,.bool false,.int .i64 0] 39)=h2 at *
 generalize h1.size=ZB at *
 have O:=H2.at2
 refine ldR O rfl (ldR O rfl (ldR O rfl (ldR O rfl (ldR O rfl (ldR O rfl (ldR O rfl (ldR O rfl (ldR O rfl (ldR O rfl ?_)))))))))
 refine Wa0 (call12 ?_)
 unfold F12 g12 cf bd lS lI da7 dl3 W68
 have H3:=H2.push (.cells (Wo0 c ca cl cc pa pl pc da dl dc).toArray 28)
 rw [show h2.push (.cells #[.int .i64 c.algo,.int .i64 c.threads,.int .i64 c.nodes,.int .i64 c.level,.int .i64 c.batch,.int .i64 c.probes,.int .i64 c.scan,.slice ca cl cc,.slice pa pl pc,.slice da dl dc] 28)=h2.push (.cells (Wo0 c ca cl cc pa pl pc da dl dc).toArray 28) from rfl]
 generalize h2.push (.cells (Wo0 c ca cl cc pa pl pc da dl dc).toArray 28)=h3 at *
 generalize h2.size=S2 at *
 refine ⟨λvs h'=>(∃u1 u2 u3,vs = [u1,u2,u3,.bool true])∧Sat h' (pt ZB (.cells #[.slice none 0 0,.int .i64 0,.int .i64 0,.bool false,.int .i64 0] 39)*(pt SB (.cells (Wo0 c ca cl cc pa pl pc da dl dc).toArray 28)*R)),?_,?_⟩
 ·have O:=H3.at
  refine ldR O rfl (ldR O rfl (ldR O rfl (ldR O rfl (ldR O rfl (ldR O rfl (ldR O rfl ?_))))))
  refine Wa0 (WN1 (c:=c) (λhx=>by rw [hc] at hx;cases hx) λ_ h4 o4=>?_)
  refine sb ?_
  refine Wb6 (λ_=>?_) (λhh=>by simp at hh)
  exact ⟨⟨_,_,_,rfl⟩,(H3.old o4).drop⟩
 rintro v38 v39 v40 v41 g42 h43 ⟨⟨u1,u2,u3,e⟩,H4⟩
 cases e
 refine sb ?_
 refine Wd3 (vs:=[.slice none 0 0,.int .i64 0,.int .i64 0,.bool false,.int .i64 0]) H4.at rfl (by simp [Wi3]) λh5 w=>?_
 have H5:=H4.wr w.new w.old
 refine ldR H5.at rfl (ldR H5.at rfl (ldR H5.at rfl (ldR H5.at rfl (ldR H5.at rfl ?_))))
 exact k0 h5 H5.drop.drop
theorem W66 {c:Mod.Cf} (hok:okC c=true) {ca pa da:Option Addr} {cc pc dc n m:Nat} {ps:List (Option Addr × Nat)} (hn:n≤8) (hm:m≤60000) (hR:Zi1 calls Wb8 draws) (H:Sat h (Zm9 ca cc pa pc da dc ps (Wf0 c.threads.toNat n calls) (Wg3 c.threads m Wb8) (draws.take 4096)*R))
  (k1:∀h' ea ec (ev:List EvM) Q M Ts (mm:Mac) (st idle most:Int) (fl:Bool),0≤most∧most≤m→Sat h' (We5 96 8 ea ev.length ec (ev.flatMap evc)*(suS Q M (W59 c.algo) (Wt1 c.algo) Ts mm*(Zm9 ca cc pa pc da dc ps (Wf0 c.threads.toNat n calls) (Wg3 c.threads m Wb8) (draws.take 4096)*R))) →
   K (.tuple #[.agg #[.slice ea ev.length ec,.int .i64 st,.int .i64 idle,.bool fl,.int .i64 most],mP Q,.int .i64 0]) h') :
  Wa5 Tryz.prog 9 #[.agg #[.int .i64 c.algo,.int .i64 c.threads,.int .i64 c.nodes,.int .i64 c.level,.int .i64 c.batch,.int .i64 c.probes,.int .i64 c.scan,.slice ca (Wf0 c.threads.toNat n calls).length cc,.slice pa (Wg3 c.threads m Wb8).length pc,.slice da (draws.take 4096).length dc]] h K:=by
 obtain ⟨d,W,Inv,D,G,hI⟩:=ZB6 hok
 have B:=Ws0 hok
 have hth:1≤c.threads∧c.threads≤6:=B.th
 have hsc:=Yt6 hok hn hm (calls:=calls) (Wb8:=Wb8) (draws:=draws)
 have hf:=WV7 c.threads.toNat n calls
 have hnt:n*c.threads.toNat≤8*6:=Nat.mul_le_mul hn (by omega)
 have hpl:(Wg3 c.threads m Wb8).length≤m:=by unfold Wg3;rw [List.length_map,List.length_take];omega
 refine W61 (calls:=Wf0 c.threads.toNat n calls) (Wb8:=Wg3 c.threads m Wb8) (draws:=draws.take 4096) H (λh' P HP=>?_) (Zf3 (by omega) hR) (by omega) (by rw [Wv4];omega) (by omega) (λl hl=>?_) D G (λ_=>hI _ _) (λhh=>by rw [hsc] at hh;cases hh) λ_ h' ea ec Q M Ts s _ DJ H'=>?_
 ·rw [Wb3] at HP
  exact Zu6 HP
 ·have:=(Ye7 hR (n:=n) (by omega) l hl).1
  omega
 ·exact k1 h' ea ec s.ev Q M Ts s.m _ s.idle s.most s.m.fault (by have:=DJ.most;omega) H'
end
end
section
set_option maxRecDepth 100000
abbrev g3 (K:Value→Wa1→Prop) (h H1 H2:Wa1):Prop:=
 (dl7 H2 H1.size λa b c d e f g=>cf 4 #[.agg #[a,b,c,d,e,f,g]] H2 λa b=>asBool a λa=>ifB (!a) (dl7 b H1.size λa c d e f g i=>stH b ⟨h.size,0,none⟩ a λa=>stH a (Addr.add ⟨h.size,0,none⟩ 1) c λa=>stH a (Addr.add ⟨h.size,0,none⟩ 2) d λa=>stH a (Addr.add ⟨h.size,0,none⟩ 3) e λa=>stH a (Addr.add ⟨h.size,0,none⟩ 4) f λa=>stH a (Addr.add ⟨h.size,0,none⟩ 5) g λa=>stH a (Addr.add ⟨h.size,0,none⟩ 6) i λa=>W68 a h.size λc d e f g i j k l m=>cf 5 #[.agg #[c,d,e,f,g,i,j,k,l,m]] a λa c=>Wf7 a λd=>Wc0 d 0 λd=>asBool d λd=>Wf7 a λa=>Wc0 a 1 λa=>asInt .i64 a λa=>ifB (!d) (ifB (a == 1) (cf 6 #[] c λa d=>asBool a λa=>K (.bool a) d) (K (.bool false) c)) (K (.bool false) c)) (W68 b h.size λa c d e f g i j k l=>dl7 b H1.size λm n o p q r s=>cf 7 #[.agg #[a,c,d,e,f,g,i,j,k,l],.agg #[m,n,o,p,q,r,s],.int .i64 4,.int .i64 4000] b λa b=>asAgg a λa=>We1 a 10 (ZC3 a λa c d e f g i j k l=>cf 5 #[.agg #[a,c,d,e,f,g,i,j,k,l]] b λa b=>Wf7 a λc=>Wc0 c 0 λc=>asBool c λc=>Wf7 a λa=>Wc0 a 1 λa=>asInt .i64 a λa=>ifB c (ifB (a == 0) (cf 6 #[] b λa c=>asBool a λa=>K (.bool a) c) (K (.bool false) b)) (K (.bool false) b))))
def F3 (K:Value→Wa1→Prop) (h:Wa1) (xa xb xc xd xe xf xg:Int) (xh:Option Addr) (xi xj:Nat) (xk:Option Addr) (xl xm:Nat) (xn:Option Addr) (xo xp:Nat) (xq xr xs xt xu xv xw:Int):Prop:=
 (g3 K h (Array.push h (.cells #[.int .i64 xa,.int .i64 xb,.int .i64 xc,.int .i64 xd,.int .i64 xe,.int .i64 xf,.int .i64 xg,.slice xh xi xj,.slice xk xl xm,.slice xn xo xp] 28)) (Array.push (Array.push h (.cells #[.int .i64 xa,.int .i64 xb,.int .i64 xc,.int .i64 xd,.int .i64 xe,.int .i64 xf,.int .i64 xg,.slice xh xi xj,.slice xk xl xm,.slice xn xo xp] 28)) (.cells #[.int .i64 xq,.int .i64 xr,.int .i64 xs,.int .i64 xt,.int .i64 xu,.int .i64 xv,.int .i64 xw] 23)))
theorem call3 {K:Value→Wa1→Prop} {h:Wa1} {xa xb xc xd xe xf xg:Int} {xh:Option Addr} {xi xj:Nat} {xk:Option Addr} {xl xm:Nat} {xn:Option Addr} {xo xp:Nat} {xq xr xs xt xu xv xw:Int} (H:F3 K h xa xb xc xd xe xf xg xh xi xj xk xl xm xn xo xp xq xr xs xt xu xv xw):Wa5 Tryz.prog 3 #[(.agg #[(.int .i64 xa),(.int .i64 xb),(.int .i64 xc),(.int .i64 xd),(.int .i64 xe),(.int .i64 xf),(.int .i64 xg),(.slice xh xi xj),(.slice xk xl xm),(.slice xn xo xp)]),(.agg #[(.int .i64 xq),(.int .i64 xr),(.int .i64 xs),(.int .i64 xt),(.int .i64 xu),(.int .i64 xv),(.int .i64 xw)])] h K:=
 Wa4 Tryz.func3 (by kernel_rfl) (Eq.mp (by kernel_rfl) H)
abbrev g5 (K:Value→Wa1→Prop) (h H1:Wa1):Prop:=
 (W68 H1 h.size λa b c d e f g i j k=>cf 9 #[.agg #[a,b,c,d,e,f,g,i,j,k]] H1 λa b=>Wf7 a λc=>Wc0 c 0 λc=>asAgg c λc=>We1 c 5 (de5 c λc d e f g=>Wf7 a λi=>Wc0 i 1 λi=>Wb2 i λi=>Wf7 a λa=>Wc0 a 2 λa=>asInt .i64 a λa=>stH (Array.push b (.cells #[.slice none 0 0,.int .i64 0,.int .i64 0,.bool false,.int .i64 0] 39)) ⟨b.size,0,none⟩ c λc=>stH c ⟨b.size,1,none⟩ d λc=>stH c ⟨b.size,2,none⟩ e λc=>stH c ⟨b.size,3,none⟩ f λc=>stH c ⟨b.size,4,none⟩ g λc=>ifB (a != 0) (K (.tuple #[.bool false,.int .i64 a]) c) (da7 c ⟨h.size,0,none⟩ λa d e f g i j=>cf 10 #[.agg #[a,d,e,f,g,i,j]] c λa c=>Wf7 a λd=>Wc0 d 0 λd=>asInt .i64 d λd=>Wf7 a λa=>Wc0 a 1 λa=>asInt .i64 a λa=>lI .i64 c ⟨b.size,4,none⟩ λb=>cf 11 #[.slice (some ⟨c.size,0,none⟩) 1 1,.int .i64 d] (Array.push c (.cells #[.int .i64 b] 3)) λb c=>asBool b λb=>K (.tuple #[.bool b,.int .i64 a]) c)))
def F5 (K:Value→Wa1→Prop) (h:Wa1) (xa xb xc xd xe xf xg:Int) (xh:Option Addr) (xi xj:Nat) (xk:Option Addr) (xl xm:Nat) (xn:Option Addr) (xo xp:Nat):Prop:=
 (g5 K h (Array.push h (.cells #[.int .i64 xa,.int .i64 xb,.int .i64 xc,.int .i64 xd,.int .i64 xe,.int .i64 xf,.int .i64 xg,.slice xh xi xj,.slice xk xl xm,.slice xn xo xp] 28)))
theorem call5 {K:Value→Wa1→Prop} {h:Wa1} {xa xb xc xd xe xf xg:Int} {xh:Option Addr} {xi xj:Nat} {xk:Option Addr} {xl xm:Nat} {xn:Option Addr} {xo xp:Nat} (H:F5 K h xa xb xc xd xe xf xg xh xi xj xk xl xm xn xo xp):Wa5 Tryz.prog 5 #[(.agg #[(.int .i64 xa),(.int .i64 xb),(.int .i64 xc),(.int .i64 xd),(.int .i64 xe),(.int .i64 xf),(.int .i64 xg),(.slice xh xi xj),(.slice xk xl xm),(.slice xn xo xp)])] h K:=
 Wa4 Tryz.func5 (by kernel_rfl) (Eq.mp (by kernel_rfl) H)
end
section
open Mod
theorem Zj0 {a x A X:Int} (ha:1≤a∧a≤A) (hx:1≤x∧x≤X) (h:A*X≤9000000000000000):a≤IntKind.wrap .i64 (a*x)∧IntKind.wrap .i64 (a*x)≤A*X:=by
 have h1:a*x≤A*X:=Int.mul_le_mul ha.2 hx.2 (by omega) (by omega)
 have h2:a*1≤a*x:=Int.mul_le_mul_of_nonneg_left hx.1 (by omega)
 rw [Int.mul_one] at h2
 rw [Wb7 (by omega) (by omega)]
 exact ⟨h2,h1⟩
theorem Zp7 {c:Cf} (R:c.Right):10000≤YH3 c.nine:=by
 have ht:=R.t
 have hn:=R.n
 have hl:=R.l
 have hp:=R.p
 unfold YH3 Cf.nine
 rw [Wb7 (n:=c.t+1) (by omega) (by omega),Wb7 (n:=c.n+8) (by omega) (by omega),Wb7 (n:=c.l+2) (by omega) (by omega),Wb7 (n:=c.p+1) (by omega) (by omega)]
 simp only [List.foldl_cons,List.foldl_nil]
 have e0:IntKind.wrap .i64 ((1:Int)*10000)=10000:=by decide
 rw [e0]
 have q1:=Zj0 (a:=10000) (x:=c.t+1) (A:=10000) (X:=7) ⟨by omega,by omega⟩ ⟨by omega,by omega⟩ (by decide)
 generalize IntKind.wrap .i64 (10000*(c.t+1))=p1 at *
 have q2:=Zj0 (a:=p1) (x:=c.t+1) (A:=70000) (X:=7) ⟨by omega,by omega⟩ ⟨by omega,by omega⟩ (by decide)
 generalize IntKind.wrap .i64 (p1*(c.t+1))=p2 at *
 have q3:=Zj0 (a:=p2) (x:=c.t+1) (A:=490000) (X:=7) ⟨by omega,by omega⟩ ⟨by omega,by omega⟩ (by decide)
 generalize IntKind.wrap .i64 (p2*(c.t+1))=p3 at *
 have q4:=Zj0 (a:=p3) (x:=c.n+8) (A:=3430000) (X:=72) ⟨by omega,by omega⟩ ⟨by omega,by omega⟩ (by decide)
 generalize IntKind.wrap .i64 (p3*(c.n+8))=p4 at *
 have q5:=Zj0 (a:=p4) (x:=c.n+8) (A:=246960000) (X:=72) ⟨by omega,by omega⟩ ⟨by omega,by omega⟩ (by decide)
 generalize IntKind.wrap .i64 (p4*(c.n+8))=p5 at *
 have q6:=Zj0 (a:=p5) (x:=c.l+2) (A:=17781120000) (X:=8) ⟨by omega,by omega⟩ ⟨by omega,by omega⟩ (by decide)
 generalize IntKind.wrap .i64 (p5*(c.l+2))=p6 at *
 have q7:=Zj0 (a:=p6) (x:=c.l+2) (A:=142248960000) (X:=8) ⟨by omega,by omega⟩ ⟨by omega,by omega⟩ (by decide)
 generalize IntKind.wrap .i64 (p6*(c.l+2))=p7 at *
 have q8:=Zj0 (a:=p7) (x:=c.p+1) (A:=1137991680000) (X:=17) ⟨by omega,by omega⟩ ⟨by omega,by omega⟩ (by decide)
 omega
theorem Y34 {v0 v1 v2:Value} {F:Value→Prop} (k:F v0):Wc0 #[v0,v1,v2] 0 F:=k
theorem Y35 {v0 v1 v2:Value} {F:Value→Prop} (k:F v1):Wc0 #[v0,v1,v2] 1 F:=k
theorem Y36 {v0 v1 v2:Value} {F:Value→Prop} (k:F v2):Wc0 #[v0,v1,v2] 2 F:=k
theorem ZB7 {v0 v1 v2 v3 v4 v5 v6 v7 v8 v9:Value} {F:Value→Value→Value→Value→Value→Value→Value→Value→Value→Value→Prop} (k:F v0 v1 v2 v3 v4 v5 v6 v7 v8 v9):asAgg (.agg #[v0,v1,v2,v3,v4,v5,v6,v7,v8,v9]) λvs=>We1 vs 10 (Wc0 vs 0 λa=>Wc0 vs 1 λb=>Wc0 vs 2 λc=>Wc0 vs 3 λd=>Wc0 vs 4 λe=>Wc0 vs 5 λf=>Wc0 vs 6 λg=>Wc0 vs 7 λh=>Wc0 vs 8 λi=>Wc0 vs 9 λj=>F a b c d e f g h i j):=k
section
variable {K:Value→Wa1→Prop} {h:Wa1} {R:Hp} {calls:List (List Cl)} {Wb8 draws:List Int}
theorem Y37 {c:Mod.Cf} (H:Sat h R) (k1:okC c=true→∀h',Sat h' R→K (.bool true) h') (k0:okC c=false→∀h',Sat h' R→K (.bool false) h') :
  Wa5 Tryz.prog 4 #[.agg #[.int .i64 c.algo,.int .i64 c.threads,.int .i64 c.nodes,.int .i64 c.level,.int .i64 c.batch,.int .i64 c.probes,.int .i64 c.scan]] h K:=by
 refine YH5 (Zm0 c) (λhr h' o=>k1 ((Wp2 c).1 hr) h' (H.old o)) (λhr h' o=>k0 ?_ h' (H.old o))
 rw [← Bool.not_eq_true]
 exact λhh=>hr ((Wp2 c).2 hh)
theorem Zf4 {c:Mod.Cf} {ca pa da:Option Addr} {cl cc pl pc dl dc:Nat} (H:Sat h R) (hc:okC c=false) (k:∀h',Sat h' R→K (.tuple #[.bool false,.int .i64 1]) h') :
  Wa5 Tryz.prog 5 #[.agg #[.int .i64 c.algo,.int .i64 c.threads,.int .i64 c.nodes,.int .i64 c.level,.int .i64 c.batch,.int .i64 c.probes,.int .i64 c.scan,.slice ca cl cc,.slice pa pl pc,.slice da dl dc]] h K:=by
 refine call5 ?_
 unfold F5 g5 cf lI da7 de5 W68
 have H1:=H.push (.cells (Wo0 c ca cl cc pa pl pc da dl dc).toArray 28)
 rw [show h.push (.cells #[.int .i64 c.algo,.int .i64 c.threads,.int .i64 c.nodes,.int .i64 c.level,.int .i64 c.batch,.int .i64 c.probes,.int .i64 c.scan,.slice ca cl cc,.slice pa pl pc,.slice da dl dc] 28)=h.push (.cells (Wo0 c ca cl cc pa pl pc da dl dc).toArray 28) from rfl]
 generalize h.push (.cells (Wo0 c ca cl cc pa pl pc da dl dc).toArray 28)=h1 at *
 generalize h.size=SB at *
 have O:=H1.at
 refine ldR O rfl (ldR O rfl (ldR O rfl (ldR O rfl (ldR O rfl (ldR O rfl (ldR O rfl (ldR O rfl (ldR O rfl (ldR O rfl ?_)))))))))
 refine Wa0 (Yt7 (c:=c) H1 hc λh2 H2=>?_)
 have H3:=H2.push (.cells #[.slice none 0 0,.int .i64 0,.int .i64 0,.bool false,.int .i64 0] 39)
 refine sb ?_
 refine Y34 ?_
 refine sb ?_
 refine Wl6 rfl (Wc2 rfl (Wc2 rfl (Wc2 rfl (Wc2 rfl (Wc2 rfl ?_)))))
 try simp only [Wb9,bsx,Nat.reduceAdd,Int.reduceLE,Int.reduceLT,Int.reduceToNat]
 refine Y35 ?_
 refine sb ?_
 refine Y36 ?_
 refine sb ?_
 generalize h2.push (.cells #[.slice none 0 0,.int .i64 0,.int .i64 0,.bool false,.int .i64 0] 39)=h3 at *
 generalize h2.size=ZB at *
 refine Wd3 (vs:=[.slice none 0 0,.int .i64 0,.int .i64 0,.bool false,.int .i64 0]) H3.at rfl (by simp [Wi3]) λh4 w=>?_
 have H4:=H3.wr w.new w.old
 exact k h4 H4.drop.drop
theorem W67 {g n:Int} (H:Sat h R) (hg:g≤n) (k:∀h',Sat h' R→K (.bool true) h'):Wa5 Tryz.prog 11 #[.slice (some ⟨h.size,0,none⟩) 1 1,.int .i64 n] (h.push (.cells #[.int .i64 g] 3)) K:=by
 have H1:=H.push (.cells #[.int .i64 g] 3)
 have R1:RI (h.push (.cells #[.int .i64 g] 3)) (some ⟨h.size,0,none⟩) 1 1 [g]:=by
  refine ⟨?_,rfl,Nat.le_refl _⟩
  have hs:Sees (h.push (.cells [iv g].toArray 3)) (some ⟨h.size,0,none⟩) [iv g]:=WJ4
  exact hs
 refine Yf8 R1 (by decide) ?_
 have e:Yq5 [g] n=true:=by
  unfold Yq5
  simp [hg]
 rw [e]
 exact k _ H1.drop
theorem Yh7 {c:Mod.Cf} (hc:okC c=true) (H:Sat h R) (k:∀h' n,10000≤n→Sat h' R→K (.tuple #[.int .i64 n,.int .i64 0]) h') :
  Wa5 Tryz.prog 10 #[.agg #[.int .i64 c.algo,.int .i64 c.threads,.int .i64 c.nodes,.int .i64 c.level,.int .i64 c.batch,.int .i64 c.probes,.int .i64 c.scan]] h K:=
 WU6 (Zm0 c) (λhr h' o=>k h' _ (Zp7 hr) (H.old o)) λhr _ _=>absurd ((Wp2 c).2 hc) hr
theorem Y38 {c:Mod.Cf} (hc:okC c=true) {ca pa da:Option Addr} {cc pc dc n m:Nat} {ps:List (Option Addr × Nat)} (hn:n≤8) (hm:m≤4000) (hR:Zi1 calls Wb8 draws) (H:Sat h (Zm9 ca cc pa pc da dc ps (Wf0 c.threads.toNat n calls) (Wg3 c.threads m Wb8) (draws.take 4096)*R))
  (k:∀h',Sat h' R→K (.tuple #[.bool true,.int .i64 0]) h') :
  Wa5 Tryz.prog 5 #[.agg #[.int .i64 c.algo,.int .i64 c.threads,.int .i64 c.nodes,.int .i64 c.level,.int .i64 c.batch,.int .i64 c.probes,.int .i64 c.scan,.slice ca (Wf0 c.threads.toNat n calls).length cc,.slice pa (Wg3 c.threads m Wb8).length pc,.slice da (draws.take 4096).length dc]] h K:=by
 refine call5 ?_
 unfold F5 g5 cf lI da7 de5 W68
 have H1:=H.push (.cells (Wo0 c ca (Wf0 c.threads.toNat n calls).length cc pa (Wg3 c.threads m Wb8).length pc da (draws.take 4096).length dc).toArray 28)
 rw [show h.push (.cells #[.int .i64 c.algo,.int .i64 c.threads,.int .i64 c.nodes,.int .i64 c.level,.int .i64 c.batch,.int .i64 c.probes,.int .i64 c.scan,.slice ca (Wf0 c.threads.toNat n calls).length cc,.slice pa (Wg3 c.threads m Wb8).length pc,.slice da (draws.take 4096).length dc] 28)=h.push (.cells (Wo0 c ca (Wf0 c.threads.toNat n calls).length cc pa (Wg3 c.threads m Wb8).length pc da (draws.take 4096).length dc).toArray 28) from rfl]
 generalize h.push (.cells (Wo0 c ca (Wf0 c.threads.toNat n calls).length cc pa (Wg3 c.threads m Wb8).length pc da (draws.take 4096).length dc).toArray 28)=h1 at *
 generalize h.size=SB at *
 have O:=H1.at
 refine ldR O rfl (ldR O rfl (ldR O rfl (ldR O rfl (ldR O rfl (ldR O rfl (ldR O rfl (ldR O rfl (ldR O rfl (ldR O rfl ?_)))))))))
 rw [Wb3] at H1
 refine Wa0 (W66 hc hn (by omega) hR H1 λh2 ea ec ev Q M Ts mm st idle most fl hmost H2=>?_)
 have H3:=H2.push (.cells #[.slice none 0 0,.int .i64 0,.int .i64 0,.bool false,.int .i64 0] 39)
 refine sb ?_
 refine Y34 ?_
 refine sb ?_
 refine Wl6 rfl (Wc2 rfl (Wc2 rfl (Wc2 rfl (Wc2 rfl (Wc2 rfl ?_)))))
 try simp only [Wb9,bsx,Nat.reduceAdd,Int.reduceLE,Int.reduceLT,Int.reduceToNat]
 refine Y35 ?_
 refine sb ?_
 refine Y36 ?_
 refine sb ?_
 generalize h2.push (.cells #[.slice none 0 0,.int .i64 0,.int .i64 0,.bool false,.int .i64 0] 39)=h3 at *
 generalize h2.size=ZB at *
 refine Wd3 (vs:=[.slice ea ev.length ec,.int .i64 st,.int .i64 idle,.bool fl,.int .i64 most]) H3.at rfl (by simp [Wi3]) λh4 w=>?_
 have H4:=H3.wr w.new w.old
 have O:=(H4.drop.drop.drop.drop).at
 refine ldR O rfl (ldR O rfl (ldR O rfl (ldR O rfl (ldR O rfl (ldR O rfl (ldR O rfl ?_))))))
 refine Wa0 (Yh7 hc H4 λh5 q hq H5=>?_)
 refine sb ?_
 refine Ws7 ?_
 refine sb ?_
 refine Ws8 ?_
 refine sb ?_
 refine ldR H5.at rfl ?_
 refine sb ?_
 refine Wa0 (W67 H5 (by omega) λh6 H6=>?_)
 refine sb ?_
 exact k h6 H6.drop.drop.drop.drop.drop
theorem WV8 {c0 c:Mod.Cf} {ca pa da:Option Addr} {cl cc0 pl pc0 dl dc0:Nat} (H:Sat h R)
  (hS:∀h' P,Sat h' (P*R)→ScrI h' ca cl pa pl da dl calls Wb8 draws) (hR:Zi1 calls Wb8 draws) (k:∀h',Sat h' R→K (.bool true) h') :
  Wa5 Tryz.prog 3 #[.agg #[.int .i64 c0.algo,.int .i64 c0.threads,.int .i64 c0.nodes,.int .i64 c0.level,.int .i64 c0.batch,.int .i64 c0.probes,.int .i64 c0.scan,.slice ca cl cc0,.slice pa pl pc0,.slice da dl dc0],.agg #[.int .i64 c.algo,.int .i64 c.threads,.int .i64 c.nodes,.int .i64 c.level,.int .i64 c.batch,.int .i64 c.probes,.int .i64 c.scan]] h K:=by
 refine call3 ?_
 unfold F3 g3 cf ZC3 dl7 W68
 have H1:=H.push (.cells (Wo0 c0 ca cl cc0 pa pl pc0 da dl dc0).toArray 28)
 rw [show h.push (.cells #[.int .i64 c0.algo,.int .i64 c0.threads,.int .i64 c0.nodes,.int .i64 c0.level,.int .i64 c0.batch,.int .i64 c0.probes,.int .i64 c0.scan,.slice ca cl cc0,.slice pa pl pc0,.slice da dl dc0] 28)=h.push (.cells (Wo0 c0 ca cl cc0 pa pl pc0 da dl dc0).toArray 28) from rfl]
 generalize h.push (.cells (Wo0 c0 ca cl cc0 pa pl pc0 da dl dc0).toArray 28)=h1 at *
 generalize h.size=SB at *
 have H2:=H1.push (.cells (cfc c).toArray 23)
 rw [show h1.push (.cells #[.int .i64 c.algo,.int .i64 c.threads,.int .i64 c.nodes,.int .i64 c.level,.int .i64 c.batch,.int .i64 c.probes,.int .i64 c.scan] 23)=h1.push (.cells (cfc c).toArray 23) from rfl]
 generalize h1.push (.cells (cfc c).toArray 23)=h2 at *
 generalize h1.size=CB at *
 have lv:∀ {h':Wa1} {P:Hp},Sat h' (P*R)→Wa5 Tryz.prog 6 #[] h' λv h''=>asBool v λb=>K (.bool b) h'':=λH'=>Yf7 λh'' o=>by
  refine sb ?_
  exact k h'' (H'.old o).drop
 have O:=H2.at
 refine ldR O rfl (ldR O rfl (ldR O rfl (ldR O rfl (ldR O rfl (ldR O rfl (ldR O rfl ?_))))))
 refine Wa0 (Y37 H2 (λhc h3 H3=>?_) λhc h3 H3=>?_)
 ·refine sb ?_
  have OC:=H3.at
  have OS:=H3.at2
  refine ldR OS rfl (ldR OS rfl (ldR OS rfl (ldR OS rfl (ldR OS rfl (ldR OS rfl (ldR OS rfl (ldR OS rfl (ldR OS rfl (ldR OS rfl (ldR OC rfl (ldR OC rfl (ldR OC rfl (ldR OC rfl (ldR OC rfl (ldR OC rfl (ldR OC rfl ?_))))))))))))))))
  have B:=Ws0 hc
  have hth:1≤c.threads∧c.threads≤6:=B.th
  refine Wa0 (Yq9 (c:=c) (c0:=c0) (n:=4) (m:=4000) H3 (λh' P H'=>hS h' emp (by rw [Wk6];exact H'.drop.drop.drop)) hth (by decide) (by decide) λh4 ca' cc pa' pc da' dc ps H4=>?_)
  refine ZB7 ?_
  refine Wa0 (Y38 hc (by decide) (by decide) hR H4 λh5 H5=>?_)
  refine sb ?_
  refine Ws7 ?_
  refine sb ?_
  refine Ws8 ?_
  refine sb ?_
  refine Wb6 (λ_=>?_) (λhh=>by simp at hh)
  have H6:Sat h5 ((pt CB (.cells (cfc c).toArray 23)*pt SB (.cells (Wo0 c0 ca cl cc0 pa pl pc0 da dl dc0).toArray 28))*R):=by rw [Wc9];exact H5
  exact Wa0 (lv H6)
 ·refine sb ?_
  have OC:=H3.at
  refine ldR OC rfl (ldR OC rfl (ldR OC rfl (ldR OC rfl (ldR OC rfl (ldR OC rfl (ldR OC rfl ?_))))))
  rw [Wb3] at H3
  refine H3.st (i:=0) rfl trivial λh4 H4=>?_
  refine H4.st (i:=1) rfl trivial λh5 H5=>?_
  refine H5.st (i:=2) rfl trivial λh6 H6=>?_
  refine H6.st (i:=3) rfl trivial λh7 H7=>?_
  refine H7.st (i:=4) rfl trivial λh8 H8=>?_
  refine H8.st (i:=5) rfl trivial λh9 H9=>?_
  refine H9.st (i:=6) rfl trivial λh10 H10=>?_
  have O:=H10.at
  refine ldR O rfl (ldR O rfl (ldR O rfl (ldR O rfl (ldR O rfl (ldR O rfl (ldR O rfl (ldR O rfl (ldR O rfl (ldR O rfl ?_)))))))))
  refine Wa0 (Zf4 H10.drop hc λh11 H11=>?_)
  refine sb ?_
  refine Ws7 ?_
  refine sb ?_
  refine Ws8 ?_
  refine sb ?_
  refine Wb6 (λ_=>?_) (λhh=>by simp at hh)
  exact Wa0 (lv H11)
end
end
end Go.Proofs.YtjjbcllndihmbaaGreat
