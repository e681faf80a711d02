/- Part 9 of what the proofs of this seat rest on: see the last text of the claim. -/
import Derived.Test.YtooaemmlgkdfoaaGreatQ47d34e262740
import Derived.Test.YtooaemmlgkdfoaaGreatProg
set_option linter.unusedSimpArgs false
set_option linter.unusedVariables false
set_option linter.ambiguousOpen false
set_option maxRecDepth 20000
namespace Go.Proofs.YtooaemmlgkdfoaaGreat
section
open Mod
theorem YQ4 {n:Int} (h:U n):Mod.u64 ((((BitVec.ofInt 64 n) &&& (BitVec.ofInt 64 255)).toNat:Nat):Int)=n % 256:=by
 have h0:=h.1
 have h1:=h.2
 rw [BitVec.toNat_and,h.bv,show (BitVec.ofInt 64 255).toNat=2 ^ 8 - 1 from rfl,Nat.and_two_pow_sub_one_eq_mod]
 unfold Mod.u64
 omega
theorem YQ5 (a b:Int):U (((Nat.lor (Mod.u64 a).toNat (Mod.u64 b).toNat:Nat)):Int):=by
 have ha:=Wt1 a
 have hb:=Wt1 b
 have:=Nat.or_lt_two_pow (x:=(Mod.u64 a).toNat) (y:=(Mod.u64 b).toNat) (n:=64) (by have:=ha.1;have:=ha.2;omega) (by have:=hb.1;have:=hb.2;omega)
 constructor
 ·omega
 ·have e:(Mod.u64 a).toNat ||| (Mod.u64 b).toNat=Nat.lor (Mod.u64 a).toNat (Mod.u64 b).toNat:=rfl
  rw [e] at this
  omega
theorem YQ6 (a b:Int):Mod.u64 ((((BitVec.ofInt 64 (Mod.u64 a)) ||| (BitVec.ofInt 64 (Mod.u64 b))).toNat:Nat):Int)=((Nat.lor (Mod.u64 a).toNat (Mod.u64 b).toNat:Nat):Int):=by
 rw [BitVec.toNat_or,(Wt1 a).bv,(Wt1 b).bv]
 exact (YQ5 a b).u64
section
variable {K:Value→Wa1→Prop} {h:Wa1} {M T b o N:Nat} {tv:Value} {fo:Option (Nat × Nat)} {x:Run} {R:Hp}
theorem WI4 (H:Sat h (RunS M T tv (some (b,o)) x R)) (k:∀h',Sat h' (RunS M T tv (some (b,o)) x R)→K (spV (WV8 x)) h') :
  Wa5 Tryz.prog 266 #[rV M T b o] h K:=by
 refine call266 ?_
 unfold F266 g266 bd lP lI nP dl2
 have B:=RunS.fB H
 have H1:=RunS.new H (.cells #[mP M,mP T,fP b o] 206);generalize h.push (.cells #[mP M,mP T,fP b o] 206)=h1 at *;generalize h.size=N at *
 have H2:=RunS.new H1 (.cells #[.int .i64 0,.int .i64 0] 338)
 generalize h1.push (.cells #[.int .i64 0,.int .i64 0] 338)=h2 at *
 generalize h1.size=N2 at *
 try simp +decide only [Wa7,bsx,Nat.reduceAdd,Int.reduceLE,Int.reduceLT,Int.reduceToNat,rsx,g_s,Wb6,RunS.l2 H2,RunS.r H2,YQ4 (B.g 6)]
 have hg:=B.g 6
 have g0:=hg.1
 have g1:=hg.2
 rw [Ws1 (by omega),show s64 (x.f.g 6 / 256)=x.f.g 6 / 256 by unfold s64;omega,show s64 (x.f.g 6 % 256)=x.f.g 6 % 256 by unfold s64;omega]
 refine stR (RunS.loc H2) rfl trivial λh3 w3=>stR w3.new rfl trivial λh4 w4=>ldR w4.new rfl (ldR w4.new rfl ?_)
 exact k h4 (RunS.drp (RunS.drp (RunS.wr (RunS.wr H2 w3.new w3.old) w4.new w4.old)))
theorem WI5 (H:Sat h (RunS M T tv (some (b,o)) x R)) {s:Sp} (k:∀h',Sat h' (RunS M T tv (some (b,o)) (WQ1 x s) R)→K (.tuple #[]) h') :
  Wa5 Tryz.prog 263 #[rV M T b o,spV s] h K:=by
 refine call263 ?_
 unfold F263 g263 bd lP lI nP
 have H1:=RunS.new H (.cells #[mP M,mP T,fP b o] 206);generalize h.push (.cells #[mP M,mP T,fP b o] 206)=h1 at *;generalize h.size=N at *
 have H2:=RunS.new H1 (.cells #[.int .i64 s.lo,.int .i64 s.hi] 338)
 generalize h1.push (.cells #[.int .i64 s.lo,.int .i64 s.hi] 338)=h2 at *
 generalize h1.size=N2 at *
 have O:=RunS.loc H2
 have l0:∀F:Value→Prop,ldH h2 ⟨N2,0,none⟩ F=F (.int .i64 s.lo):=λF=>by unfold ldH;rw [Wb8 O];rfl
 have l1:∀F:Value→Prop,ldH h2 ⟨N2,1,none⟩ F=F (.int .i64 s.hi):=λF=>by unfold ldH;rw [Wb8 O];rfl
 try simp +decide only [Wa7,bsx,Nat.reduceAdd,Int.reduceLE,Int.reduceLT,Int.reduceToNat,rsx,g_s,Wb6,RunS.l2 H2,l0,l1,YQ6]
 exact RunS.stR (i:=6) H2 rfl (YQ5 _ _) λh3 H3=>k h3 (RunS.drp (RunS.drp H3))
theorem WI6 (H:Sat h (RunS M T tv (some (b,o)) x R)) {l:Int} (hl:iN l) (k:∀h',Sat h' (RunS M T tv (some (b,o)) x R)→K (.int .u64 (Ye5 x l)) h') :
  Wa5 Tryz.prog 268 #[rV M T b o,.int .i64 l] h K:=by
 refine call268 ?_
 unfold F268 g268 cf bd lP lI nP
 have H1:=RunS.new H (.cells #[mP M,mP T,fP b o] 206);generalize h.push (.cells #[mP M,mP T,fP b o] 206)=h1 at *;generalize h.size=N at *
 try simp +decide only [Wa7,bsx,Nat.reduceAdd,Int.reduceLE,Int.reduceLT,Int.reduceToNat,rsx,g_s,Wb6,RunS.l H1,RunS.r H1]
 refine Wa0 (YA1 hl ?_)
 try simp only [Wa7,bsx,Nat.reduceAdd,Int.reduceLE,Int.reduceLT,Int.reduceToNat]
 exact k h1 (RunS.drp H1)
theorem Wx5 (H:Sat h (RunS M T tv (some (b,o)) x R)) {ok:Bool} (hd:x.t.fr.length < 1000000002) (k:∀h',Sat h' (RunS M T tv none (WV9 x ok) R)→K (.tuple #[]) h') :
  Wa5 Tryz.prog 271 #[rV M T b o,.bool ok] h K:=by
 refine call271 ?_
 unfold F271 g271 cf bd lP nP da3
 have H1:=RunS.new H (.cells #[mP M,mP T,fP b o] 206);generalize h.push (.cells #[mP M,mP T,fP b o] 206)=h1 at *;generalize h.size=N at *
 unfold WV9 at k
 cases ok with
 | true=>
  try simp only [Wa7,bsx,Nat.reduceAdd,Int.reduceLE,Int.reduceLT,Int.reduceToNat,RunS.l H1]
  exact Wa0 (Wq8 H1 U0 U0 U0 (by omega) λh2 b' o' _ _ H2=>k h2 (RunS.drp (RunS.none H2)))
 | false=>
  try simp only [Wa7,bsx,Nat.reduceAdd,Int.reduceLE,Int.reduceLT,Int.reduceToNat,RunS.l H1]
  refine RunS.stR (i:=3) H1 rfl U0 λh2 H2=>?_
  try simp only [Wa7,bsx,Nat.reduceAdd,Int.reduceLE,Int.reduceLT,Int.reduceToNat,RunS.l H2]
  exact RunS.stP H2 λh3 H3=>k h3 (RunS.drp (RunS.none H3))
theorem RunS.ret (H:Sat h (RunS M T tv fo x R)) (i:Nat):U (x.ret i):=WW2 (RunS.B H).ret.2 i
theorem W43 (H:Sat h (RunS M T tv (some (b,o)) x R)) (O:Ok x) (hp:x.f.pc≤3) (k:∀h',Sat h' (RunS M T tv none (WQ2 x) R)→K (.tuple #[]) h') :
  Wa5 Tryz.prog 182 #[rV M T b o] h K:=by
 refine call182 ?_
 unfold F182 g182 cf ce bd lP lI nP da3 Wu0
 have B:=RunS.fB H
 have P:=RunS.pl H
 have hp0:=O.pc
 have hd:=O.fr
 have r0:=RunS.ret H 0
 unfold WQ2 at k
 dsimp only at k
 have H1:=RunS.new H (.cells #[mP M,mP T,fP b o] 206);generalize h.push (.cells #[mP M,mP T,fP b o] 206)=h1 at *;generalize h.size=N at *
 try simp +decide only [Wa7,bsx,Nat.reduceAdd,Int.reduceLE,Int.reduceLT,Int.reduceToNat,rsx,g_s,Wb6,RunS.l H1,RunS.r H1,RunS.tc H1]
 refine Wa6 (λc=>?_) (λc=>?_)
 ·rw [if_pos c] at k
  exact Wa0 (Wv9 H1 Args.none (by omega) (by omega) λh2 b' o' _ _ H2=>k h2 (RunS.drp (RunS.none H2)))
 rw [if_neg c] at k
 refine Wa6 (λc=>?_) (λc=>?_)
 ·rw [if_pos c] at k
  refine RunS.stR (i:=2) H1 rfl r0 λh2 H2=>?_
  try simp +decide only [Wa7,bsx,Nat.reduceAdd,Int.reduceLE,Int.reduceLT,Int.reduceToNat,rsx,g_s,Wb6,RunS.l H2,RunS.r H2,B.len]
  refine Wc3 (λc2=>?_) (λc2=>?_)
  ·have c2':x.ret 0≠0:=by simpa [Run.ret] using c2
   rw [if_pos c2'] at k
   exact RunS.stP H2 λh3 H3=>k h3 (RunS.drp (RunS.none H3))
  ·have c2':¬ x.ret 0≠0:=by simpa [Run.ret] using c2
   rw [if_neg c2'] at k
   have hfl:=WH6 x 2 (x.ret 0)
   refine ⟨λvs h'=>(∃w,vs = [.bool (decide (x.f.g 3=0∧x.t.retired.length > 0)),w])∧Sat h' (RunS M T tv (some (b,o)) (x.s 2 (x.ret 0)) (pt N (.cells #[mP M,mP T,fP b o] 206)*R)),?_,?_⟩
   ·refine Wa6 (λc3=>?_) (λc3=>?_)
    ·refine Wa0 (WC4 (RunS.thr H2) ?_)
     try simp only [Wa7,bsx,Nat.reduceAdd,Int.reduceLE,Int.reduceLT,Int.reduceToNat]
     have e:decide (((x.s 2 (x.ret 0)).t.retired.length:Int) > 0)=decide (x.f.g 3=0∧x.t.retired.length > 0):=by
      rw [decide_eq_decide]
      have e2:(x.s 2 (x.ret 0)).t.retired=x.t.retired:=rfl
      rw [e2]
      omega
     rw [e]
     exact ⟨⟨_,rfl⟩,H2⟩
    ·exact ⟨⟨_,by rw [decide_eq_false (λhh=>c3 hh.1)]⟩,H2⟩
   rintro v32 v33 g34 h35 ⟨⟨w,e⟩,H3⟩
   cases e
   try simp only [Wa7,bsx,Nat.reduceAdd,Int.reduceLE,Int.reduceLT,Int.reduceToNat]
   refine Wa6 (λc3=>?_) (λc3=>?_)
   ·rw [if_pos c3] at k
    refine RunS.stR (i:=3) H3 rfl (U.lit rfl) λh4 H4=>?_
    have hfl2:=WH6 (x.s 2 (x.ret 0)) 3 1
    try simp only [Wa7,bsx,Nat.reduceAdd,Int.reduceLE,Int.reduceLT,Int.reduceToNat,RunS.l H4]
    exact Wa0 (Wv9 H4 Args.none (by omega) (by omega) λh5 b' o' _ _ H5=>k h5 (RunS.drp (RunS.none H5)))
   ·rw [if_neg c3] at k
    try simp only [Wa7,bsx,Nat.reduceAdd,Int.reduceLE,Int.reduceLT,Int.reduceToNat,RunS.l H3]
    exact Wa0 (Wq8 H3 (U.lit rfl) U0 U0 (by omega) λh5 b' o' _ _ H5=>k h5 (RunS.drp (RunS.none H5)))
 rw [if_neg c] at k
 refine Wa6 (λc=>?_) (λc=>?_)
 ·rw [if_pos c] at k
  refine Wa0 (WB4 H1 λh2 H2=>WR4 ?_)
  try simp only [Wa7,bsx,Nat.reduceAdd,Int.reduceLE,Int.reduceLT,Int.reduceToNat,RunS.c H2,RunS.l H2]
  refine Wa0 (Wf8 P (Wl0 _) (by decide) λh3 o3=>?_)
  have H3:=RunS.old H2 o3
  try simp only [Wa7,bsx,Nat.reduceAdd,Int.reduceLE,Int.reduceLT,Int.reduceToNat,RunS.c H3,RunS.l H3]
  refine Wa0 (WM9 H3 (Wx3 P _ _) (B.g 0) O.st λh4 H4=>?_)
  exact RunS.stP H4 λh5 H5=>k h5 (RunS.drp (RunS.none H5))
 rw [if_neg c] at k
 refine Wa6 (λc=>?_) (λc=>by omega)
 ·refine Wa0 (WB4 H1 λh2 H2=>WR4 ?_)
  try simp only [Wa7,bsx,Nat.reduceAdd,Int.reduceLE,Int.reduceLT,Int.reduceToNat,RunS.c H2,RunS.l H2]
  refine Wa0 (Wf8 P (Wl0 _) (by decide) λh3 o3=>?_)
  have H3:=RunS.old H2 o3
  try simp only [Wa7,bsx,Nat.reduceAdd,Int.reduceLE,Int.reduceLT,Int.reduceToNat,RunS.c H3,RunS.l H3]
  refine Wa0 (WM9 H3 (Wx3 P _ _) (B.g 1) O.st λh4 H4=>?_)
  exact RunS.stR (i:=3) H4 rfl U0 λh5 H5=>RunS.stP H5 λh6 H6=>k h6 (RunS.drp (RunS.none H6))
theorem RunS.feed (H:Sat h (RunS M T tv fo x R)) (k:∀q R',Sat h (fdS q x.m.b x.m.used*R')→(∀h' u,Sat h' (fdS q x.m.b u*R')→Sat h' (RunS M T tv fo { x with m:=Mac.feed x.m u } R))→K (mP q) h) :
 Wa5 Tryz.prog 260 #[mP M] h K:=W29 H λq R' H1 re=>k q R' H1 λh' u H2=>re h' u H2
theorem W44 (H:Sat h (RunS M T tv (some (b,o)) x R)) (O:Ok x) (hp:4≤x.f.pc∧x.f.pc≤7) (k:∀h',Sat h' (RunS M T tv none (Wn7 x) R)→K (.tuple #[]) h') :
  Wa5 Tryz.prog 183 #[rV M T b o] h K:=by
 refine call183 ?_
 unfold F183 g183 cf ce bd lP lI nP da3 de2 de7 Wu0 dl3
 have B:=RunS.fB H
 have P:=RunS.pl H
 have hd:=O.fr
 have r1:=RunS.ret H 1
 unfold Wn7 at k
 dsimp only at k
 have H1:=RunS.new H (.cells #[mP M,mP T,fP b o] 206);generalize h.push (.cells #[mP M,mP T,fP b o] 206)=h1 at *;generalize h.size=N at *
 try simp only [Wa7,bsx,Nat.reduceAdd,Int.reduceLE,Int.reduceLT,Int.reduceToNat,RunS.l H1]
 refine Wa0 (WB4 H1 λh2 H2=>WR4 ?_)
 refine Wa0 (Wh0 λh3 o3=>cf7 ?_)
 have H3:=RunS.old H2 o3
 have H4:=RunS.new H3 (.cells #[.int .i64 0,.int .i64 0,.int .i64 0,.int .i64 0,.int .i64 0,.int .i64 0,.int .i64 0] 23)
 generalize h3.push (.cells #[.int .i64 0,.int .i64 0,.int .i64 0,.int .i64 0,.int .i64 0,.int .i64 0,.int .i64 0] 23)=h4 at *
 generalize h3.size=N2 at *
 refine st7 (Wd6 (vs:=cfc x.m.p.c) (RunS.loc H4) rfl (by simp [cfc,Wi6]) λh5 w=>?_)
 have H5:=RunS.wr H4 w.new w.old
 clear H1 H2 H3 H4 o3 w
 try simp +decide only [Wa7,bsx,Nat.reduceAdd,Int.reduceLE,Int.reduceLT,Int.reduceToNat,rsx,g_s,Wb6,RunS.l2 H5,RunS.r H5,RunS.tc H5]
 refine Wa6 (λc=>?_) (λc=>?_)
 ·rw [if_pos c] at k
  refine Wa0 (WH5 H5 (by decide) O.st λh6 H6 u6=>?_)
  try simp only [Wa7,bsx,Nat.reduceAdd,Int.reduceLE,Int.reduceLT,Int.reduceToNat]
  refine RunS.stR (i:=4) H6 rfl u6 λh7 H7=>?_
  try simp +decide only [Wa7,bsx,Nat.reduceAdd,Int.reduceLE,Int.reduceLT,Int.reduceToNat,rsx,g_s,Wb6,RunS.l2 H7,RunS.r H7,B.len]
  refine Wa0 (RunS.feed H7 λq R' HF re=>?_)
  try simp only [Wa7,bsx,Nat.reduceAdd,Int.reduceLE,Int.reduceLT,Int.reduceToNat]
  refine Wa0 (Wu5 (Wl0 _) ?_)
  try simp only [Wa7,bsx,Nat.reduceAdd,Int.reduceLE,Int.reduceLT,Int.reduceToNat]
  have hus:((x.load 2).2.s 4 (x.load 2).1).m.used < 1099511627776:=by
   have e:((x.load 2).2.s 4 (x.load 2).1).m.used=x.m.used:=by
    show (x.m.load 2).2.used=x.m.used
    unfold Mac.load
    dsimp only
    have:=(Wp4 x.m 2).2.2.2.1
    split <;> exact this
   rw [e];exact O.us
  have hb:=(W94 HF)
  obtain ⟨fa,fc,FF,_⟩:=hb
  refine Wa0 (W24 HF hus (λhn=>?_) (λhn h8 H8=>?_))
  ·try simp only [Wa7,bsx,Nat.reduceAdd,Int.reduceLE,Int.reduceLT,Int.reduceToNat]
   refine Wa0 (WN6 (Wl0 _) ?_)
   try simp only [Wa7,bsx,Nat.reduceAdd,Int.reduceLE,Int.reduceLT,Int.reduceToNat]
   refine RunS.stR (i:=5) H7 rfl (Wt1 _) λh9 H9=>RunS.stP H9 λh10 H10=>k h10 ?_
   have e:(((x.load 2).2.s 4 (x.load 2).1).m.next (Wf3 (s64 (x.load 2).1)))=(0,((x.load 2).2.s 4 (x.load 2).1).m):=by unfold Mac.next;rw [if_pos hn]
   rw [e]
   exact RunS.drp (RunS.drp (RunS.none H10))
  ·try simp only [Wa7,bsx,Nat.reduceAdd,Int.reduceLE,Int.reduceLT,Int.reduceToNat]
   refine Wa0 (WN6 (Wl0 _) ?_)
   try simp only [Wa7,bsx,Nat.reduceAdd,Int.reduceLE,Int.reduceLT,Int.reduceToNat]
   refine RunS.stR (i:=5) (re h8 _ H8) rfl (Wt1 _) λh9 H9=>RunS.stP H9 λh10 H10=>k h10 ?_
   have e:(((x.load 2).2.s 4 (x.load 2).1).m.next (Wf3 (s64 (x.load 2).1)))=(drawn ((x.load 2).2.s 4 (x.load 2).1).m.b ((x.load 2).2.s 4 (x.load 2).1).m.used % Wf3 (s64 (x.load 2).1),Mac.feed ((x.load 2).2.s 4 (x.load 2).1).m (((x.load 2).2.s 4 (x.load 2).1).m.used+1)):=by
    unfold Mac.next Mac.take;rw [if_neg (by omega)];rfl
   rw [e]
   exact RunS.drp (RunS.drp (RunS.none H10))
 rw [if_neg c] at k
 refine Wa6 (λc=>?_) (λc=>?_)
 ·rw [if_pos c] at k
  exact Wa0 (Wq7 H5 [x.f.g 5] rfl (Wt2 (B.g 5)) rfl (by omega) λh6 b' o' _ _ H6=>k h6 (RunS.drp (RunS.drp (RunS.none H6))))
 rw [if_neg c] at k
 refine Wa6 (λc=>?_) (λc=>?_)
 ·rw [if_pos c] at k
  refine Wa6 (λc2=>?_) (λc2=>?_)
  ·rw [if_pos c2] at k
   refine Wa0 (Yr2 (Wl0 _) λh6 o6=>?_)
   have H6:=RunS.old H5 o6
   try simp only [Wa7,bsx,Nat.reduceAdd,Int.reduceLE,Int.reduceLT,Int.reduceToNat,RunS.l2 H6,RunS.c H6]
   refine Wj3 rfl (Wb5 rfl (Wb5 rfl ?_))
   try simp only [Wa7,bsx,Nat.reduceAdd,Int.reduceLE,Int.reduceLT,Int.reduceToNat,RunS.l2 H6,RunS.c H6]
   refine Wa0 (WI5 H6 (s:=YI4 (s64 (x.f.g 4))) λh7 H7=>?_)
   exact RunS.stP H7 λh8 H8=>k h8 (RunS.drp (RunS.drp (RunS.none H8)))
  ·rw [if_neg c2] at k
   refine RunS.stR (i:=3) H5 rfl (Wt1 _) λh6 H6=>RunS.stP H6 λh7 H7=>?_
   have O7:=RunS.loc H7
   have l5:∀F:Value→Prop,ldH h7 ⟨N2,5,none⟩ F=F (.int .i64 x.m.p.c.probes):=λF=>by unfold ldH;rw [Wb8 O7];rfl
   try simp +decide only [Wa7,bsx,Nat.reduceAdd,Int.reduceLE,Int.reduceLT,Int.reduceToNat,rsx,g_s,Wb6,RunS.l2 H7,RunS.r H7,B.len,l5]
   refine Wa6 (λc3=>?_) (λc3=>?_)
   ·rw [if_pos c3] at k
    exact RunS.stP H7 λh8 H8=>k h8 (RunS.drp (RunS.drp (RunS.none H8)))
   ·rw [if_neg c3] at k
    exact k h7 (RunS.drp (RunS.drp (RunS.none H7)))
 rw [if_neg c] at k
 refine Wa6 (λc=>?_) (λc=>by omega)
 have O5:=RunS.loc H5
 have l3:∀F:Value→Prop,ldH h5 ⟨N2,3,none⟩ F=F (.int .i64 x.m.p.c.level):=λF=>by unfold ldH;rw [Wb8 O5];rfl
 try simp +decide only [Wa7,bsx,Nat.reduceAdd,Int.reduceLE,Int.reduceLT,Int.reduceToNat,rsx,g_s,Wb6,RunS.l2 H5,RunS.r H5,l3]
 refine Wa6 (λc2=>?_) (λc2=>?_)
 ·rw [if_pos c2] at k
  refine Wa0 (Wq8 H5 (U.lit rfl) U0 U0 (by omega) λh6 b' o' _ st H6=>?_)
  have e2:Wa2 h6 ⟨b,o+4,none⟩=some (.int .u64 (x.f.g 2)):=by
   have e:(((((x.s 7 1).s 8 0).s 9 0).pc 90).f).g 2=x.f.g 2:=by try simp +decide only [Wa7,bsx,Nat.reduceAdd,Int.reduceLE,Int.reduceLT,Int.reduceToNat,rsx,g_s,Wb6,B.len]
   rw [← e]
   exact st b o 4 _ rfl rfl
  have ld2:∀F:Value→Prop,ldH h6 ⟨b,o+4,none⟩ F=F (.int .u64 (x.f.g 2)):=λF=>by unfold ldH;rw [e2]
  try simp only [Wa7,bsx,Nat.reduceAdd,Int.reduceLE,Int.reduceLT,Int.reduceToNat,RunS.l2 H6,ld2]
  refine Wa0 (Yp1 H6 [x.f.g 2] rfl (Wt2 (B.g 2)) (by omega) ?_ λh7 b'' o'' _ _ H7=>k h7 (RunS.drp (RunS.drp (RunS.none H7))))
  have l1:=WH6 x 7 1
  have l2:=WH6 (x.s 7 1) 8 0
  have l3:=WH6 ((x.s 7 1).s 8 0) 9 0
  have l4:=WN0 (((x.s 7 1).s 8 0).s 9 0) 90
  show ((((((x.s 7 1).s 8 0).s 9 0).pc 90).t.fr) ++ [_]).length < _
  rw [List.length_append]
  simp only [List.length_singleton]
  omega
 ·rw [if_neg c2] at k
  refine Wa0 (YU8 H5 (by decide) (Wt1 _) O.st λh6 H6=>?_)
  try simp only [Wa7,bsx,Nat.reduceAdd,Int.reduceLE,Int.reduceLT,Int.reduceToNat]
  exact RunS.stR (i:=3) H6 rfl U0 λh7 H7=>RunS.stP H7 λh8 H8=>k h8 (RunS.drp (RunS.drp (RunS.none H8)))
theorem W45 (H:Sat h (RunS M T tv (some (b,o)) x R)) (O:Ok x) (hp:8≤x.f.pc∧x.f.pc≤9) (k:∀h',Sat h' (RunS M T tv none (WQ3 x) R)→K (.tuple #[]) h') :
  Wa5 Tryz.prog 184 #[rV M T b o] h K:=by
 refine call184 ?_
 unfold F184 g184 cf ce bd lP lI nP da3 de2 dl2 dl3
 have B:=RunS.fB H
 have P:=RunS.pl H
 have hd:=O.fr
 unfold WQ3 at k
 dsimp only at k
 have H1:=RunS.new H (.cells #[mP M,mP T,fP b o] 206);generalize h.push (.cells #[mP M,mP T,fP b o] 206)=h1 at *;generalize h.size=N at *
 try simp only [Wa7,bsx,Nat.reduceAdd,Int.reduceLE,Int.reduceLT,Int.reduceToNat,RunS.l H1]
 refine Wa0 (WI4 H1 λh2 H2=>?_)
 try simp only [Wa7,bsx,Nat.reduceAdd,Int.reduceLE,Int.reduceLT,Int.reduceToNat]
 refine Wj3 rfl (Wb5 rfl (Wb5 rfl ?_))
 have H3:=RunS.new H2 (.cells #[.int .i64 0,.int .i64 0] 338)
 generalize h2.push (.cells #[.int .i64 0,.int .i64 0] 338)=h3 at *
 generalize h2.size=N2 at *
 refine stR (RunS.loc H3) rfl trivial λh4 w4=>stR w4.new rfl trivial λh5 w5=>?_
 have H5:=RunS.wr (RunS.wr H3 w4.new w4.old) w5.new w5.old
 clear H1 H2 H3 w4 w5
 generalize hs:WV8 x=s at *
 have O5:=RunS.loc H5
 have l0:∀F:Value→Prop,ldH h5 ⟨N2,0,none⟩ F=F (.int .i64 s.lo):=λF=>by unfold ldH;rw [Wb8 O5];rfl
 have l1:∀F:Value→Prop,ldH h5 ⟨N2,1,none⟩ F=F (.int .i64 s.hi):=λF=>by unfold ldH;rw [Wb8 O5];rfl
 try simp +decide only [Wa7,bsx,Nat.reduceAdd,Int.reduceLE,Int.reduceLT,Int.reduceToNat,rsx,g_s,Wb6,RunS.l2 H5,RunS.r H5,RunS.tc H5,l0,l1]
 refine Wa6 (λc=>?_) (λc=>?_)
 ·rw [if_pos c] at k
  refine Wa0 (WN7 λh6 o6=>?_)
  have H6:=RunS.old H5 o6
  have O6:=RunS.loc H6
  have m0:∀F:Value→Prop,ldH h6 ⟨N2,0,none⟩ F=F (.int .i64 s.lo):=λF=>by unfold ldH;rw [Wb8 O6];rfl
  have m1:∀F:Value→Prop,ldH h6 ⟨N2,1,none⟩ F=F (.int .i64 s.hi):=λF=>by unfold ldH;rw [Wb8 O6];rfl
  try simp +decide only [Wa7,bsx,Nat.reduceAdd,Int.reduceLE,Int.reduceLT,Int.reduceToNat,rsx,g_s,Wb6,RunS.l2 H6,RunS.r H6,m0,m1]
  refine Wc3 (λc2=>?_) (λc2=>?_)
  ·rw [if_pos c2] at k
   exact RunS.stP H6 λh7 H7=>k h7 (RunS.drp (RunS.drp (RunS.none H7)))
  ·rw [if_neg (by rw [c2];simp)] at k
   refine Wa0 (WI3 λh7 o7=>?_)
   have H7:=RunS.old H6 o7
   have hm:=Yr3 s
   try simp only [Wa7,bsx,Nat.reduceAdd,Int.reduceLE,Int.reduceLT,Int.reduceToNat,RunS.l2 H7]
   refine Wa0 (WI6 H7 ⟨by omega,by omega⟩ λh8 H8=>?_)
   try simp only [Wa7,bsx,Nat.reduceAdd,Int.reduceLE,Int.reduceLT,Int.reduceToNat,RunS.l2 H8]
   exact Wa0 (Wq7 H8 [Ye5 x s.mid] rfl (Wt2 (Wt1 _)) rfl (by omega) λh9 b' o' _ _ H9=>k h9 (RunS.drp (RunS.drp (RunS.none H9))))
 rw [if_neg c] at k
 refine Wa6 (λc=>?_) (λc=>by omega)
 refine Wa0 (Yr4 λh6 o6=>?_)
 have H6:=RunS.old H5 o6
 try simp only [Wa7,bsx,Nat.reduceAdd,Int.reduceLE,Int.reduceLT,Int.reduceToNat,RunS.l2 H6]
 refine Wj3 rfl (Wb5 rfl (Wb5 rfl ?_))
 try simp only [Wa7,bsx,Nat.reduceAdd,Int.reduceLE,Int.reduceLT,Int.reduceToNat,RunS.l2 H6]
 refine Wa0 (WI5 H6 λh7 H7=>?_)
 try simp only [Wa7,bsx,Nat.reduceAdd,Int.reduceLE,Int.reduceLT,Int.reduceToNat,RunS.l2 H7]
 exact RunS.stP H7 λh8 H8=>k h8 (RunS.drp (RunS.drp (RunS.none H8)))
theorem Yg6 (H:Sat h (RunS M T tv (some (b,o)) x R)) (O:Ok x) (k:∀h',Sat h' (RunS M T tv none (Yy7 x) R)→K (.tuple #[]) h') :
  Wa5 Tryz.prog 185 #[rV M T b o] h K:=by
 refine call185 ?_
 unfold F185 g185 cf bd lP lI nP da3 dc3 de2 Wu0 dl3 ce
 have B:=RunS.fB H
 have P:=RunS.pl H
 have hd:=O.fr
 have r0:=RunS.ret H 0
 have r1:=RunS.ret H 1
 unfold Yy7 at k
 dsimp only at k
 have H1:=RunS.new H (.cells #[mP M,mP T,fP b o] 206);generalize h.push (.cells #[mP M,mP T,fP b o] 206)=h1 at *;generalize h.size=N at *
 try simp only [Wa7,bsx,Nat.reduceAdd,Int.reduceLE,Int.reduceLT,Int.reduceToNat,RunS.l H1]
 refine Wa0 (WI4 H1 λh2 H2=>?_)
 try simp only [Wa7,bsx,Nat.reduceAdd,Int.reduceLE,Int.reduceLT,Int.reduceToNat]
 refine Wj3 rfl (Wb5 rfl (Wb5 rfl ?_))
 try simp only [Wa7,bsx,Nat.reduceAdd,Int.reduceLE,Int.reduceLT,Int.reduceToNat,RunS.l H2]
 have hsl:iN (WV8 x).lo:=by
  have hg:=B.g 6
  have g0:=hg.1
  have g1:=hg.2
  unfold WV8
  constructor <;> simp only <;> omega
 refine Wa0 (WI6 H2 hsl λh3 H3=>?_)
 try simp only [Wa7,bsx,Nat.reduceAdd,Int.reduceLE,Int.reduceLT,Int.reduceToNat,RunS.l H3]
 refine Wa0 (Wg5 3 rfl H3 λh4 H4=>?_)
 clear H1 H2 H3
 have hpl:U (Ye5 x (WV8 x).lo):=Wt1 _
 generalize Ye5 x (WV8 x).lo=place at *
 try simp +decide only [Wa7,bsx,Nat.reduceAdd,Int.reduceLE,Int.reduceLT,Int.reduceToNat,rsx,g_s,Wb6,RunS.l H4,RunS.r H4,RunS.tc H4]
 refine Wa6 (λc=>?_) (λc=>?_)
 ·rw [if_pos c] at k
  exact Wa0 (Wq7 H4 [place] rfl (Wt2 hpl) rfl (by omega) λh5 b' o' _ _ H5=>k h5 (RunS.drp (RunS.none H5)))
 rw [if_neg c] at k
 refine Wa6 (λc=>?_) (λc=>?_)
 ·rw [if_pos c] at k
  refine Wa6 (λc2=>?_) (λc2=>?_)
  ·rw [if_pos c2] at k
   exact RunS.stR (i:=3) H4 rfl U0 λh5 H5=>RunS.stP H5 λh6 H6=>k h6 (RunS.drp (RunS.none H6))
  ·rw [if_neg c2] at k
   refine RunS.stR (i:=3) H4 rfl r0 λh5 H5=>?_
   try simp +decide only [Wa7,bsx,Nat.reduceAdd,Int.reduceLE,Int.reduceLT,Int.reduceToNat,rsx,g_s,Wb6,RunS.l H5,RunS.r H5,B.len]
   refine Wa0 (WB4 H5 λh6 H6=>WR4 ?_)
   try simp +decide only [Wa7,bsx,Nat.reduceAdd,Int.reduceLE,Int.reduceLT,Int.reduceToNat,rsx,g_s,Wb6,RunS.l H6,RunS.c H6,B.len]
   refine Wa0 (Wf8 P (Wl0 _) (by decide) λh7 o7=>?_)
   have H7:=RunS.old H6 o7
   try simp only [Wa7,bsx,Nat.reduceAdd,Int.reduceLE,Int.reduceLT,Int.reduceToNat,RunS.l H7]
   refine Wa0 (Wg5 3 rfl H7 λh8 H8=>?_)
   try simp +decide only [Wa7,bsx,Nat.reduceAdd,Int.reduceLE,Int.reduceLT,Int.reduceToNat,rsx,g_s,Wb6,RunS.l H8,B.len]
   refine Wa0 (Wi0 r0 ?_)
   try simp +decide only [Wa7,bsx,Nat.reduceAdd,Int.reduceLE,Int.reduceLT,Int.reduceToNat,rsx,g_s,Wb6,RunS.l H8]
   refine Wa0 (WM9 H8 (Wx3 P _ _) (WX1 _) O.st λh9 H9=>?_)
   refine RunS.stP H9 λh10 H10=>?_
   refine Wa6 (λc3=>?_) (λc3=>?_)
   ·rw [if_pos c3] at k
    exact RunS.stP H10 λh11 H11=>k h11 (RunS.drp (RunS.none H11))
   ·rw [if_neg c3] at k
    exact k h10 (RunS.drp (RunS.none H10))
 rw [if_neg c] at k
 refine Wa6 (λc=>?_) (λc=>?_)
 ·rw [if_pos c] at k
  refine Wa0 (Wq4 (B.g 3) ?_)
  try simp +decide only [Wa7,bsx,Nat.reduceAdd,Int.reduceLE,Int.reduceLT,Int.reduceToNat,rsx,g_s,Wb6,RunS.al H4]
  refine Wa0 (Wx4 H4 (B.g 3) O.st λh5 H5=>?_)
  try simp +decide only [Wa7,bsx,Nat.reduceAdd,Int.reduceLE,Int.reduceLT,Int.reduceToNat,rsx,g_s,Wb6,RunS.al H5]
  exact Wa0 (Wx5 H5 (show x.t.fr.length < _ by omega) λh6 H6=>k h6 (RunS.drp H6))
 have e2:Int.fdiv place 2=place / 2:=Ws1 (by omega)
 have e3:Int.tdiv place 2=place / 2:=Int.tdiv_eq_ediv_of_nonneg hpl.1
 have hu:U (place / 2):=⟨by have:=hpl.1;omega,by have:=hpl.2;have:=hpl.1;omega⟩
 rw [if_neg c] at k
 refine Wa6 (λc=>?_) (λc=>?_)
 ·rw [if_pos c] at k
  try simp only [Wa7,bsx,Nat.reduceAdd,Int.reduceLE,Int.reduceLT,Int.reduceToNat,e2,e3,hu.u64]
  try refine ⟨by decide,?_⟩
  exact Wa0 (Wq7 H4 [place / 2] rfl (Wt2 hu) rfl (by omega) λh5 b' o' _ _ H5=>k h5 (RunS.drp (RunS.none H5)))
 rw [if_neg c] at k
 refine Wa6 (λc=>?_) (λc=>?_)
 ·rw [if_pos c] at k
  refine Wa6 (λc2=>?_) (λc2=>?_)
  ·rw [if_pos c2] at k
   exact Wa0 (Wx5 H4 (by omega) λh5 H5=>k h5 (RunS.drp H5))
  ·rw [if_neg c2] at k
   refine Wa0 (Ws5 H4 λh5 H5=>?_)
   try simp +decide only [Wa7,bsx,Nat.reduceAdd,Int.reduceLE,Int.reduceLT,Int.reduceToNat,rsx,g_s,Wb6,RunS.al H5]
   refine Wa0 (Wq4 (B.g 3) ?_)
   try simp +decide only [Wa7,bsx,Nat.reduceAdd,Int.reduceLE,Int.reduceLT,Int.reduceToNat,rsx,g_s,Wb6,RunS.al H5]
   refine Wa0 (Wq5 (B.g 3) ?_)
   try simp +decide only [Wa7,bsx,Nat.reduceAdd,Int.reduceLE,Int.reduceLT,Int.reduceToNat,rsx,g_s,Wb6,RunS.al H5,e2,e3,hu.u64]
   refine Wa0 (Ws5 H5 λh6 H6=>?_)
   try simp +decide only [Wa7,bsx,Nat.reduceAdd,Int.reduceLE,Int.reduceLT,Int.reduceToNat,rsx,g_s,Wb6,RunS.al H6,e2,e3,hu.u64]
   refine Wa0 (YU9 H6 (Yr5 P _) (Yr5 P _) WG4 O.st λh7 H7=>?_)
   try simp +decide only [Wa7,bsx,Nat.reduceAdd,Int.reduceLE,Int.reduceLT,Int.reduceToNat,rsx,g_s,Wb6,RunS.al H7]
   exact Wa0 (Wx5 H7 (show x.t.fr.length < _ by omega) λh8 H8=>k h8 (RunS.drp H8))
 rw [if_neg c] at k
 exact k h4 (RunS.drp (RunS.none H4))
end
end
section
set_option maxRecDepth 100000

end
section
open Mod
def Thr.setPl (t:Thr) (p s w:List Int):Thr:={ t with pred:=p,succ:=s,word:=w }
section
variable {K:Value→Wa1→Prop} {h:Wa1} {M T b o N:Nat} {tv:Value} {fo:Option (Nat × Nat)} {x:Run} {R:Hp}
end
end
section
open Mod
section
variable {K:Value→Wa1→Prop} {h:Wa1} {M T b o N:Nat} {tv:Value} {fo:Option (Nat × Nat)} {x:Run} {R:Hp}
end
end
section
open Mod
section
variable {K:Value→Wa1→Prop} {h:Wa1} {M T b o N:Nat} {tv:Value} {fo:Option (Nat × Nat)} {x:Run} {R:Hp}
end
end
section
open Mod
section
variable {K:Value→Wa1→Prop} {h:Wa1} {M T b o N:Nat} {tv:Value} {fo:Option (Nat × Nat)} {x:Run} {R:Hp}
end
end
section
set_option maxRecDepth 100000

end
section
open Mod
section
variable {K:Value→Wa1→Prop} {h:Wa1} {M T b o N:Nat} {tv:Value} {fo:Option (Nat × Nat)} {x:Run} {R:Hp}
end
end
section
open Mod
theorem and1 {n:Int} (h:U n):Mod.u64 ((((BitVec.ofInt 64 n) &&& (BitVec.ofInt 64 1)).toNat:Nat):Int)=n % 2:=by
 obtain ⟨h0,h1⟩:=h
 have e:(BitVec.ofInt 64 n).toNat=n.toNat:=by
  rw [BitVec.toNat_ofInt]
  omega
 rw [BitVec.toNat_and,e,show (BitVec.ofInt 64 1).toNat=1 from rfl,Nat.and_one_is_mod]
 unfold Mod.u64
 omega
section
variable {K:Value→Wa1→Prop} {h:Wa1} {M T b o N:Nat} {tv:Value} {fo:Option (Nat × Nat)} {x:Run} {R:Hp}
end
end
section
open Mod
section
variable {K:Value→Wa1→Prop} {h:Wa1} {M T b o N:Nat} {tv:Value} {fo:Option (Nat × Nat)} {x:Run} {R:Hp}
theorem YK3 {u v w:Int} (h1:U u) (h2:U v) (h3:U w):∀y ∈ [u,v,w],U y:=by
 intro y hy
 simp only [List.mem_cons,List.not_mem_nil,or_false] at hy
 rcases hy with rfl | rfl | rfl
 ·exact h1
 ·exact h2
 ·exact h3
theorem W46 (H:Sat h (RunS M T tv (some (b,o)) x R)) (O:Ok x) (k:∀h',Sat h' (RunS M T tv none (WQ4 x) R)→K (.tuple #[]) h') :
  Wa5 Tryz.prog 123 #[rV M T b o] h K:=by
 refine call123 ?_
 unfold F123 g123 cf lP lI nP dl3
 have hp:=O.pc
 unfold WQ4 at k
 have H1:=RunS.new H (.cells #[mP M,mP T,fP b o] 206);generalize h.push (.cells #[mP M,mP T,fP b o] 206)=h1 at *;generalize h.size=N at *
 try simp +decide only [Wa7,bsx,Nat.reduceAdd,Int.reduceLE,Int.reduceLT,Int.reduceToNat,rsx,g_s,Wb6,RunS.al H1]
 refine Wa6 (λc=>?_) (λc=>?_)
 ·rw [if_pos c] at k
  exact Wa0 (W43 H1 O c λh2 H2=>k h2 (RunS.drp H2))
 rw [if_neg c] at k
 refine Wa6 (λc=>?_) (λc=>?_)
 ·rw [if_pos c] at k
  exact Wa0 (W44 H1 O (by omega) λh2 H2=>k h2 (RunS.drp H2))
 rw [if_neg c] at k
 refine Wa6 (λc=>?_) (λc=>?_)
 ·rw [if_pos c] at k
  exact Wa0 (W45 H1 O (by omega) λh2 H2=>k h2 (RunS.drp H2))
 rw [if_neg c] at k
 exact Wa0 (Yg6 H1 O λh2 H2=>k h2 (RunS.drp H2))
theorem W47 (H:Sat h (RunS M T tv (some (b,o)) x R)) (O:Ok x) (k:∀h',Sat h' (RunS M T tv none (WG2 x) R)→K (.tuple #[]) h') :
  Wa5 Tryz.prog 189 #[rV M T b o] h K:=by
 refine call189 ?_
 unfold F189 g189 cf ce bd lP lI nP da3
 have B:=RunS.fB H
 have P:=RunS.pl H
 have hd:=O.fr
 have r0:=RunS.ret H 0
 unfold WG2 at k
 dsimp only at k
 have H1:=RunS.new H (.cells #[mP M,mP T,fP b o] 207);generalize h.push (.cells #[mP M,mP T,fP b o] 207)=h1 at *;generalize h.size=N at *
 try simp +decide only [Wa7,bsx,Nat.reduceAdd,Int.reduceLE,Int.reduceLT,Int.reduceToNat,rsx,g_s,Wb6,RunS.al H1]
 refine Wa0 (Wg5 0 rfl H1 λh2 H2=>?_)
 try simp +decide only [Wa7,bsx,Nat.reduceAdd,Int.reduceLE,Int.reduceLT,Int.reduceToNat,rsx,g_s,Wb6,RunS.al H2]
 refine Wa6 (λc=>?_) (λc=>?_)
 ·rw [if_pos c] at k
  refine Wa0 (Ws5 H2 λh3 H3=>?_)
  try simp +decide only [Wa7,bsx,Nat.reduceAdd,Int.reduceLE,Int.reduceLT,Int.reduceToNat,rsx,g_s,Wb6,RunS.al H3]
  exact Wa0 (Wq7 H3 [0,u64 (x.at 1)] rfl (Yr6 U0 (Wt1 _)) rfl (by omega) λh4 b' o' _ _ H4=>k h4 (RunS.drp (RunS.none H4)))
 rw [if_neg c] at k
 refine Wa6 (λc=>?_) (λc=>?_)
 ·rw [if_pos c] at k
  refine RunS.stR (i:=0) H2 rfl r0 λh3 H3=>RunS.stP H3 λh4 H4=>?_
  have l1:=WH6 x 0 (x.ret 0)
  have l2:=WN0 (x.s 0 (x.ret 0)) 2
  try simp +decide only [Wa7,bsx,Nat.reduceAdd,Int.reduceLE,Int.reduceLT,Int.reduceToNat,rsx,g_s,Wb6,RunS.al H4]
  refine Wa0 (Wg5 0 rfl H4 λh5 H5=>?_)
  try simp +decide only [Wa7,bsx,Nat.reduceAdd,Int.reduceLE,Int.reduceLT,Int.reduceToNat,rsx,g_s,Wb6,RunS.al H5,B.len]
  refine Wa0 (Wq4 r0 ?_)
  try simp +decide only [Wa7,bsx,Nat.reduceAdd,Int.reduceLE,Int.reduceLT,Int.reduceToNat,rsx,g_s,Wb6,RunS.al H5]
  refine Wc3 (λc2=>?_) (λc2=>?_)
  ·rw [if_pos c2] at k
   exact Wa0 (Wq7 H5 [1] rfl (Wt2 (U.lit rfl)) rfl (by omega) λh6 b' o' _ _ H6=>k h6 (RunS.drp (RunS.none H6)))
  ·rw [if_neg (by rw [c2];simp)] at k
   refine Wa0 (Wg5 0 rfl H5 λh6 H6=>?_)
   try simp +decide only [Wa7,bsx,Nat.reduceAdd,Int.reduceLE,Int.reduceLT,Int.reduceToNat,rsx,g_s,Wb6,RunS.al H6,B.len]
   refine Wa0 (Wi0 r0 ?_)
   try simp +decide only [Wa7,bsx,Nat.reduceAdd,Int.reduceLE,Int.reduceLT,Int.reduceToNat,rsx,g_s,Wb6,RunS.al H6]
   refine Wa6 (λc3=>?_) (λc3=>?_)
   ·rw [if_pos c3] at k
    exact Wa0 (Wq8 H6 (U.lit rfl) U0 U0 (by omega) λh7 b' o' _ _ H7=>k h7 (RunS.drp (RunS.none H7)))
   ·rw [if_neg c3] at k
    exact k h6 (RunS.drp (RunS.none H6))
 rw [if_neg c] at k
 refine Wa6 (λc=>?_) (λc=>?_)
 ·rw [if_pos c] at k
  refine Wa0 (Ww0 H2 (B.g 0) (by decide) λh3 H3=>?_)
  try simp +decide only [Wa7,bsx,Nat.reduceAdd,Int.reduceLE,Int.reduceLT,Int.reduceToNat,rsx,g_s,Wb6,RunS.al H3]
  refine Wa0 (WH5 H3 (Wx3 P _ _) O.st λh4 H4 u4=>?_)
  try simp +decide only [Wa7,bsx,Nat.reduceAdd,Int.reduceLE,Int.reduceLT,Int.reduceToNat,rsx,g_s,Wb6,RunS.al H4]
  exact RunS.stR (i:=1) H4 rfl u4 λh5 H5=>RunS.stP H5 λh6 H6=>k h6 (RunS.drp (RunS.none H6))
 rw [if_neg c] at k
 refine Wa6 (λc=>?_) (λc=>?_)
 ·rw [if_pos c] at k
  refine Wa0 (Ww0 H2 (B.g 0) (by decide) λh3 H3=>?_)
  try simp +decide only [Wa7,bsx,Nat.reduceAdd,Int.reduceLE,Int.reduceLT,Int.reduceToNat,rsx,g_s,Wb6,RunS.al H3]
  refine Wa0 (WH5 H3 (Wx3 P _ _) O.st λh4 H4 u4=>?_)
  try simp +decide only [Wa7,bsx,Nat.reduceAdd,Int.reduceLE,Int.reduceLT,Int.reduceToNat,rsx,g_s,Wb6,RunS.al H4]
  refine RunS.stR (i:=2) H4 rfl u4 λh5 H5=>RunS.stP H5 λh6 H6=>?_
  have l1:=WH6 (x.load (x.nodeW (x.f.g 0) 1)).2 2 (x.load (x.nodeW (x.f.g 0) 1)).1
  have l2:=WN0 ((x.load (x.nodeW (x.f.g 0) 1)).2.s 2 (x.load (x.nodeW (x.f.g 0) 1)).1) 4
  rw [Yp3] at l1
  try simp +decide only [Wa7,bsx,Nat.reduceAdd,Int.reduceLE,Int.reduceLT,Int.reduceToNat,rsx,g_s,Wb6,RunS.al H6,B.len]
  refine Wa6 (λc2=>?_) (λc2=>?_)
  ·rw [if_pos c2] at k
   exact Wa0 (Wq8 H6 (U.lit rfl) (B.g 1) u4 (by omega) λh7 b' o' _ _ H7=>k h7 (RunS.drp (RunS.none H7)))
  ·rw [if_neg c2] at k
   exact k h6 (RunS.drp (RunS.none H6))
 rw [if_neg c] at k
 exact k h2 (RunS.drp (RunS.none H2))
theorem W48 (H:Sat h (RunS M T tv (some (b,o)) x R)) (O:Ok x) (k:∀h',Sat h' (RunS M T tv none (WG3 x) R)→K (.tuple #[]) h') :
  Wa5 Tryz.prog 124 #[rV M T b o] h K:=by
 refine call124 ?_
 unfold F124 g124 cf ce bd lP lI nP da3 dl3
 have B:=RunS.fB H
 have P:=RunS.pl H
 have hd:=O.fr
 unfold WG3 at k
 dsimp only at k
 have H1:=RunS.new H (.cells #[mP M,mP T,fP b o] 207);generalize h.push (.cells #[mP M,mP T,fP b o] 207)=h1 at *;generalize h.size=N at *
 try simp +decide only [Wa7,bsx,Nat.reduceAdd,Int.reduceLE,Int.reduceLT,Int.reduceToNat,rsx,g_s,Wb6,RunS.al H1]
 refine Wa0 (Wg5 0 rfl H1 λh2 H2=>?_)
 try simp +decide only [Wa7,bsx,Nat.reduceAdd,Int.reduceLE,Int.reduceLT,Int.reduceToNat,rsx,g_s,Wb6,RunS.al H2]
 refine Wa6 (λc=>?_) (λc=>?_)
 ·rw [if_pos c] at k
  refine Wa0 (Ww0 H2 (B.g 0) (by decide) λh3 H3=>?_)
  try simp +decide only [Wa7,bsx,Nat.reduceAdd,Int.reduceLE,Int.reduceLT,Int.reduceToNat,rsx,g_s,Wb6,RunS.al H3]
  refine Wa0 (WH5 H3 (Wx3 P _ _) O.st λh4 H4 u4=>?_)
  try simp +decide only [Wa7,bsx,Nat.reduceAdd,Int.reduceLE,Int.reduceLT,Int.reduceToNat,rsx,g_s,Wb6,RunS.al H4]
  exact RunS.stR (i:=3) H4 rfl u4 λh5 H5=>RunS.stP H5 λh6 H6=>k h6 (RunS.drp (RunS.none H6))
 rw [if_neg c] at k
 refine Wa6 (λc=>?_) (λc=>?_)
 ·rw [if_pos c] at k
  refine RunS.stP H2 λh3 H3=>?_
  have l1:=WN0 x 0
  try simp +decide only [Wa7,bsx,Nat.reduceAdd,Int.reduceLE,Int.reduceLT,Int.reduceToNat,rsx,g_s,Wb6,RunS.al H3]
  refine Wa0 (Wx4 H3 (B.g 0) O.st λh4 H4=>?_)
  try simp +decide only [Wa7,bsx,Nat.reduceAdd,Int.reduceLE,Int.reduceLT,Int.reduceToNat,rsx,g_s,Wb6,RunS.al H4]
  refine Wc3 (λc2=>?_) (λc2=>?_)
  ·rw [if_pos c2] at k
   exact Wa0 (Wq7 H4 [1] rfl (Wt2 (U.lit rfl)) rfl (show (x.pc 0).t.fr.length < _ by omega) λh6 b' o' _ _ H6=>k h6 (RunS.drp (RunS.none H6)))
  ·rw [if_neg (by rw [c2];simp)] at k
   exact k h4 (RunS.drp (RunS.none H4))
 rw [if_neg c] at k
 refine Wa6 (λc=>?_) (λc=>?_)
 ·rw [if_pos c] at k
  refine Wa0 (Wi0 (B.g 0) ?_)
  try simp +decide only [Wa7,bsx,Nat.reduceAdd,Int.reduceLE,Int.reduceLT,Int.reduceToNat,rsx,g_s,Wb6,RunS.al H2]
  exact Wa0 (Wq7 H2 [Wx9 (x.f.g 0)] rfl (Wt2 (WX1 _)) rfl (by omega) λh6 b' o' _ _ H6=>k h6 (by rw [WR3];exact RunS.drp (RunS.none H6)))
 rw [if_neg c] at k
 refine Wa6 (λc=>?_) (λc=>?_)
 ·rw [if_pos c] at k
  exact Wa0 (Wq8 H2 (U.lit rfl) (B.g 1) (B.g 2) (by omega) λh7 b' o' _ _ H7=>k h7 (RunS.drp (RunS.none H7)))
 rw [if_neg c] at k
 exact Wa0 (W47 H2 O λh3 H3=>k h3 (RunS.drp H3))
theorem WI7 (H:Sat h (RunS M T tv (some (b,o)) x R)) (O:Ok x) (k:∀h',Sat h' (RunS M T tv none (WK3 x) R)→K (.tuple #[]) h') :
  Wa5 Tryz.prog 192 #[rV M T b o] h K:=by
 refine call192 ?_
 unfold F192 g192 cf ce bd lP nP da3
 have B:=RunS.fB H
 have P:=RunS.pl H
 unfold WK3 at k
 dsimp only at k
 have H1:=RunS.new H (.cells #[mP M,mP T,fP b o] 208);generalize h.push (.cells #[mP M,mP T,fP b o] 208)=h1 at *;generalize h.size=N at *
 try simp +decide only [Wa7,bsx,Nat.reduceAdd,Int.reduceLE,Int.reduceLT,Int.reduceToNat,rsx,g_s,Wb6,RunS.al H1]
 refine Wa0 (Wg5 1 rfl H1 λh2 H2=>?_)
 try simp +decide only [Wa7,bsx,Nat.reduceAdd,Int.reduceLE,Int.reduceLT,Int.reduceToNat,rsx,g_s,Wb6,RunS.al H2]
 refine RunS.stP H2 λh3 H3=>?_
 try simp +decide only [Wa7,bsx,Nat.reduceAdd,Int.reduceLE,Int.reduceLT,Int.reduceToNat,rsx,g_s,Wb6,RunS.al H3]
 refine Wa0 (Wi0 (B.g 1) ?_)
 try simp +decide only [Wa7,bsx,Nat.reduceAdd,Int.reduceLE,Int.reduceLT,Int.reduceToNat,rsx,g_s,Wb6,RunS.al H3]
 refine Wa0 (Wx4 H3 (B.g 1) O.st λh4 H4=>?_)
 try simp +decide only [Wa7,bsx,Nat.reduceAdd,Int.reduceLE,Int.reduceLT,Int.reduceToNat,rsx,g_s,Wb6,RunS.al H4]
 refine Wc3 (λc2=>?_) (λc2=>?_)
 ·rw [if_pos c2] at k
  try simp +decide only [Wa7,bsx,Nat.reduceAdd,Int.reduceLE,Int.reduceLT,Int.reduceToNat,rsx,g_s,Wb6,RunS.al H4]
  exact Wa0 (YJ6 H4 Args.none (by omega) λh5 H5=>k h5 (RunS.drp H5))
 ·rw [if_neg (by rw [c2];simp)] at k
  exact k h4 (RunS.drp (RunS.none H4))
theorem W49 (H:Sat h (RunS M T tv (some (b,o)) x R)) (O:Ok x) (k:∀h',Sat h' (RunS M T tv none (WQ5 x) R)→K (.tuple #[]) h') :
  Wa5 Tryz.prog 193 #[rV M T b o] h K:=by
 refine call193 ?_
 unfold F193 g193 cf bd lP lI nP da3 dl3
 have B:=RunS.fB H
 have P:=RunS.pl H
 have hd:=O.fr
 have r0:=RunS.ret H 0
 have r1:=RunS.ret H 1
 unfold WQ5 at k
 dsimp only at k
 have H1:=RunS.new H (.cells #[mP M,mP T,fP b o] 208);generalize h.push (.cells #[mP M,mP T,fP b o] 208)=h1 at *;generalize h.size=N at *
 try simp +decide only [Wa7,bsx,Nat.reduceAdd,Int.reduceLE,Int.reduceLT,Int.reduceToNat,rsx,g_s,Wb6,RunS.al H1]
 refine Wa6 (λc=>?_) (λc=>?_)
 ·rw [if_pos c] at k
  exact Wa0 (Wq7 H1 [x.f.g 0] rfl (Wt2 (B.g 0)) rfl (by omega) λh4 b' o' _ _ H4=>k h4 (RunS.drp (RunS.none H4)))
 rw [if_neg c] at k
 refine Wa6 (λc=>?_) (λc=>?_)
 ·rw [if_pos c] at k
  refine RunS.stR (i:=1) H1 rfl r0 λh2 H2=>?_
  try simp +decide only [Wa7,bsx,Nat.reduceAdd,Int.reduceLE,Int.reduceLT,Int.reduceToNat,rsx,g_s,Wb6,RunS.al H2]
  refine RunS.stR (i:=2) H2 rfl r1 λh3 H3=>RunS.stP H3 λh4 H4=>?_
  try simp +decide only [Wa7,bsx,Nat.reduceAdd,Int.reduceLE,Int.reduceLT,Int.reduceToNat,rsx,g_s,Wb6,RunS.al H4]
  refine Wa0 (Wg5 1 rfl H4 λh5 H5=>?_)
  try simp +decide only [Wa7,bsx,Nat.reduceAdd,Int.reduceLE,Int.reduceLT,Int.reduceToNat,rsx,g_s,Wb6,RunS.al H5,B.len]
  refine Wa0 (Wq4 r0 ?_)
  try simp +decide only [Wa7,bsx,Nat.reduceAdd,Int.reduceLE,Int.reduceLT,Int.reduceToNat,rsx,g_s,Wb6,RunS.al H5]
  refine Wc3 (λc2=>?_) (λc2=>?_)
  ·rw [if_neg (by simpa using c2)] at k
   exact Wa0 (YJ6 H5 Args.none (by omega) λh6 H6=>k h6 (RunS.drp H6))
  ·rw [if_pos (by simpa using c2)] at k
   exact k h5 (RunS.drp (RunS.none H5))
 rw [if_neg c] at k
 refine Wa6 (λc=>?_) (λc=>?_)
 ·rw [if_pos c] at k
  refine RunS.stP H1 λh2 H2=>?_
  try simp +decide only [Wa7,bsx,Nat.reduceAdd,Int.reduceLE,Int.reduceLT,Int.reduceToNat,rsx,g_s,Wb6,RunS.al H2]
  refine Wa0 (WH5 H2 (by decide) O.st λh3 H3 u3=>?_)
  try simp +decide only [Wa7,bsx,Nat.reduceAdd,Int.reduceLE,Int.reduceLT,Int.reduceToNat,rsx,g_s,Wb6,RunS.al H3]
  refine Wa0 (W42 (Wl0 _) ?_)
  try simp +decide only [Wa7,bsx,Nat.reduceAdd,Int.reduceLE,Int.reduceLT,Int.reduceToNat,rsx,g_s,Wb6,RunS.al H3]
  refine Wc3 (λc2=>?_) (λc2=>?_)
  ·rw [if_pos c2] at k
   exact RunS.stP H3 λh4 H4=>k h4 (RunS.drp (RunS.none H4))
  ·rw [if_neg (by rw [c2];simp)] at k
   exact k h3 (RunS.drp (RunS.none H3))
 rw [if_neg c] at k
 refine Wa6 (λc=>?_) (λc=>?_)
 ·rw [if_pos c] at k
  exact Wa0 (WI7 H1 O λh2 H2=>k h2 (RunS.drp H2))
 rw [if_neg c] at k
 exact k h1 (RunS.drp (RunS.none H1))
theorem YQ7:und Tryz.prog 197=.pointer 203:=by kernel_rfl
theorem Yr7 {P:Program} (d:Nat) {t el:TypeId} {a b:Addr} (hu:P.underlying t=some (.pointer el)) (hth:Wf2 P el=true) (hsz:siz P el≠0) (F:Bool→Wa1→Prop) (h:Wa1) (H:hp P (sameAddr a b) F h):hp P (Op.equalIn (d+1) t (.pointer (some a)) (.pointer (some b))) F h:=by
 simp only [Op.equalIn,Wa8,Wb1 hu,We2 hth]
 rw [if_pos hsz]
 exact H
theorem YK4 {h:Wa1} {p q:Nat} {K:Value→Wa1→Prop} (k:K (.bool true) h):YM9 Tryz.prog .eql 197 (some ⟨p,q,none⟩) (some ⟨p,q,none⟩) h K:=by
 unfold YM9
 rw [Wf6 (by simp) (by simp) (by simp) (by simp),Wf1]
 refine Yr7 9999 (Wc8 YQ7 (by simp)) W99 (by rw [WM8];omega) _ _ ?_
 unfold sameAddr
 simp only [beq_self_eq_true,if_true]
 exact k
theorem WC5 (H:Sat h (RunS M T tv (some (b,o)) x R)) (O:Ok x) {at_:Nat} {next place:Int} (ha:at_≤8) (hp:U place)
  (k1:WP9 (x.ret 0)=true→∀h',Wa2 h' ⟨b,o+1,none⟩=some (.int .i64 0)→Sat h' (RunS M T tv none (Wp2 x at_ next place) R)→K (.tuple #[]) h')
  (k0:WP9 (x.ret 0)=false→∀h',Sat h' (RunS M T tv (some (b,o)) (Wp2 x at_ next place) R)→K (.tuple #[]) h') :
  Wa5 Tryz.prog 190 #[rV M T b o,.int .i64 (at_:Int),.int .i64 next,.int .u64 place] h K:=by
 refine call190 ?_
 unfold F190 g190 cf bd lP lI nP da3
 have B:=RunS.fB H
 have hd:=O.fr
 have r0:=RunS.ret H 0
 have r1:=RunS.ret H 1
 unfold Wp2 at k1 k0
 dsimp only at k1 k0
 have e1:s64 ((at_:Int)+1)=((at_+1:Nat):Int):=by unfold s64;omega
 have H1:=RunS.new H (.cells #[mP M,mP T,fP b o] 208);generalize h.push (.cells #[mP M,mP T,fP b o] 208)=h1 at *;generalize h.size=N at *
 try simp +decide only [Wa7,bsx,Nat.reduceAdd,Int.reduceLE,Int.reduceLT,Int.reduceToNat,rsx,g_s,Wb6,RunS.al H1,e1]
 refine ⟨by omega,by omega,?_⟩
 rw [show o+(2+at_)=o+(at_+2) by omega]
 refine RunS.stR (i:=at_) H1 (by rw [Nat.ble_eq];omega) r0 λh2 H2=>?_
 refine ⟨by omega,by omega,?_⟩
 rw [show o+(2+(at_+1))=o+(at_+1+2) by omega]
 refine RunS.stR (i:=at_+1) H2 (by rw [Nat.ble_eq];omega) r1 λh3 H3=>RunS.stP H3 λh4 H4=>?_
 try simp +decide only [Wa7,bsx,Nat.reduceAdd,Int.reduceLE,Int.reduceLT,Int.reduceToNat,rsx,g_s,Wb6,RunS.al H4]
 have hfl:(((x.s at_ (x.ret 0)).s (at_+1) (x.ret 1)).pc next).t.fr.length≤x.t.fr.length+3:=by
  have l1:=WH6 x at_ (x.ret 0)
  have l2:=WH6 (x.s at_ (x.ret 0)) (at_+1) (x.ret 1)
  have l3:=WN0 ((x.s at_ (x.ret 0)).s (at_+1) (x.ret 1)) next
  omega
 refine Wa0 (Wg5 at_ (by rw [Nat.ble_eq];omega) H4 λh5 H5=>?_)
 have eg:(((x.s at_ (x.ret 0)).s (at_+1) (x.ret 1)).pc next).f.g at_=x.ret 0:=by
  rw [WD5,f_s,f_s,YV3,Wb6 _ (by omega),g_s B.len (by omega)]
 rw [eg]
 try simp +decide only [Wa7,bsx,Nat.reduceAdd,Int.reduceLE,Int.reduceLT,Int.reduceToNat,rsx,g_s,Wb6,RunS.al H5]
 refine Wa0 (Wq4 r0 ?_)
 try simp +decide only [Wa7,bsx,Nat.reduceAdd,Int.reduceLE,Int.reduceLT,Int.reduceToNat,rsx,g_s,Wb6,RunS.al H5]
 refine Wc3 (λc=>?_) (λc=>?_)
 ·rw [if_pos c] at k1
  refine Wa0 (Wq7 H5 [place] rfl (Wt2 hp) rfl (by omega) λh6 b' o' _ st H6=>k1 c h6 ?_ (RunS.drp (RunS.none H6)))
  refine st b o 1 _ rfl ?_
  rw [WD5]
  rfl
 ·rw [if_neg (by rw [c];simp)] at k0
  exact k0 c h5 (RunS.drp H5)
theorem WI8 (H:Sat h (RunS M T tv (some (b,o)) x R)) (O:Ok x) {at_:Nat} {place:Int} (ha:at_≤8) (hp:U place) (k:∀h',Sat h' (RunS M T tv none (WK4 x at_ place) R)→K (.tuple #[]) h') :
  Wa5 Tryz.prog 191 #[rV M T b o,.int .i64 (at_:Int),.int .u64 place] h K:=by
 refine call191 ?_
 unfold F191 g191 cf ce bd lP lI nP da3
 have B:=RunS.fB H
 have P:=RunS.pl H
 unfold WK4 at k
 dsimp only at k
 have H1:=RunS.new H (.cells #[mP M,mP T,fP b o] 208);generalize h.push (.cells #[mP M,mP T,fP b o] 208)=h1 at *;generalize h.size=N at *
 try simp +decide only [Wa7,bsx,Nat.reduceAdd,Int.reduceLE,Int.reduceLT,Int.reduceToNat,rsx,g_s,Wb6,RunS.al H1]
 refine Wa0 (Wg5 1 rfl H1 λh2 H2=>?_)
 try simp +decide only [Wa7,bsx,Nat.reduceAdd,Int.reduceLE,Int.reduceLT,Int.reduceToNat,rsx,g_s,Wb6,RunS.al H2]
 refine Wa0 (Wg5 at_ (by rw [Nat.ble_eq];omega) H2 λh3 H3=>?_)
 try simp +decide only [Wa7,bsx,Nat.reduceAdd,Int.reduceLE,Int.reduceLT,Int.reduceToNat,rsx,g_s,Wb6,RunS.al H3]
 refine RunS.stP H3 λh4 H4=>?_
 try simp +decide only [Wa7,bsx,Nat.reduceAdd,Int.reduceLE,Int.reduceLT,Int.reduceToNat,rsx,g_s,Wb6,RunS.al H4]
 refine Wa0 (Ws5 H4 λh5 H5=>?_)
 try simp +decide only [Wa7,bsx,Nat.reduceAdd,Int.reduceLE,Int.reduceLT,Int.reduceToNat,rsx,g_s,Wb6,RunS.al H5]
 refine Wa0 (Wi0 (B.g at_) ?_)
 try simp +decide only [Wa7,bsx,Nat.reduceAdd,Int.reduceLE,Int.reduceLT,Int.reduceToNat,rsx,g_s,Wb6,RunS.al H5]
 refine Wa0 (Wq5 (B.g 1) ?_)
 try simp +decide only [Wa7,bsx,Nat.reduceAdd,Int.reduceLE,Int.reduceLT,Int.reduceToNat,rsx,g_s,Wb6,RunS.al H5]
 refine Wa0 (Ws5 H5 λh6 H6=>?_)
 try simp +decide only [Wa7,bsx,Nat.reduceAdd,Int.reduceLE,Int.reduceLT,Int.reduceToNat,rsx,g_s,Wb6,RunS.al H6]
 refine Wa0 (Wi0 (B.g 1) ?_)
 try simp +decide only [Wa7,bsx,Nat.reduceAdd,Int.reduceLE,Int.reduceLT,Int.reduceToNat,rsx,g_s,Wb6,RunS.al H6]
 refine Wa0 (Wq5 (B.g at_) ?_)
 try simp +decide only [Wa7,bsx,Nat.reduceAdd,Int.reduceLE,Int.reduceLT,Int.reduceToNat,rsx,g_s,Wb6,RunS.al H6]
 refine Wa0 (YV0 H6 (Yr5 P _) (Yr5 P _) WG4 WG4 O.st λh7 H7=>?_)
 try simp +decide only [Wa7,bsx,Nat.reduceAdd,Int.reduceLE,Int.reduceLT,Int.reduceToNat,rsx,g_s,Wb6,RunS.al H7]
 refine Wc3 (λc=>?_) (λc=>?_)
 ·rw [if_pos c] at k
  exact RunS.stR (i:=0) H7 rfl hp λh8 H8=>k h8 (RunS.drp (RunS.none H8))
 ·rw [if_neg (by rw [c];simp)] at k
  exact k h7 (RunS.drp (RunS.none H7))
theorem W50 (H:Sat h (RunS M T tv (some (b,o)) x R)) (O:Ok x) (k:∀h',Sat h' (RunS M T tv none (WQ6 x) R)→K (.tuple #[]) h') :
  Wa5 Tryz.prog 125 #[rV M T b o] h K:=by
 refine call125 ?_
 unfold F125 g125 cf bd lP lI nP da3 dl3
 have B:=RunS.fB H
 have P:=RunS.pl H
 have hd:=O.fr
 unfold WQ6 at k
 dsimp only at k
 have hl:U (u64 (2*x.f.g 0)):=Wt1 _
 have H1:=RunS.new H (.cells #[mP M,mP T,fP b o] 208);generalize h.push (.cells #[mP M,mP T,fP b o] 208)=h1 at *;generalize h.size=N at *
 try simp +decide only [Wa7,bsx,Nat.reduceAdd,Int.reduceLE,Int.reduceLT,Int.reduceToNat,rsx,g_s,Wb6,RunS.al H1]
 generalize hle:u64 (2*x.f.g 0)=left at *
 refine Wa6 (λc=>?_) (λc=>?_)
 ·rw [if_pos c] at k
  exact Wa0 (Wq7 H1 [left] rfl (Wt2 hl) rfl (by omega) λh4 b' o' _ _ H4=>k h4 (RunS.drp (RunS.none H4)))
 rw [if_neg c] at k
 refine Wa6 (λc=>?_) (λc=>?_)
 ·rw [if_pos c] at k
  refine Wa0 (WC5 (at_:=3) H1 O (by omega) hl (λcm h2 e2 H2=>?_) λcm h2 H2=>?_)
  ·rw [if_pos cm] at k
   refine ⟨λvs h'=>vs = [.bool false]∧h' = h2,?_,?_⟩
   ·refine Wc5 e2 ?_
    try simp only [Wa7,bsx,Nat.reduceAdd,Int.reduceLE,Int.reduceLT,Int.reduceToNat]
    rw [show ((0:Int) == 6)=false from rfl]
    try simp only [Wa7,bsx,Nat.reduceAdd,Int.reduceLE,Int.reduceLT,Int.reduceToNat]
   rintro v30 g31 h32 ⟨e,rfl⟩
   cases e
   try simp only [Wa7,bsx,Nat.reduceAdd,Int.reduceLE,Int.reduceLT,Int.reduceToNat]
   exact k h32 (RunS.drp H2)
  ·rw [if_neg (by rw [cm];simp)] at k
   have epc:(Wp2 x 3 6 left).f.pc=6:=by
    unfold Wp2
    dsimp only
    rw [if_neg (by rw [cm];simp)]
    try simp +decide only [Wa7,bsx,Nat.reduceAdd,Int.reduceLE,Int.reduceLT,Int.reduceToNat,rsx,g_s,Wb6,B.len]
   have efl:(Wp2 x 3 6 left).t.fr.length≤x.t.fr.length+3:=by
    unfold Wp2
    dsimp only
    rw [if_neg (by rw [cm];simp)]
    have l1:=WH6 x 3 (x.ret 0)
    have l2:=WH6 (x.s 3 (x.ret 0)) (3+1) (x.ret 1)
    have l3:=WN0 ((x.s 3 (x.ret 0)).s (3+1) (x.ret 1)) 6
    omega
   refine ⟨λvs h'=>vs = [.bool true]∧h' = h2,?_,?_⟩
   ·try simp +decide only [Wa7,bsx,Nat.reduceAdd,Int.reduceLE,Int.reduceLT,Int.reduceToNat,rsx,g_s,Wb6,RunS.al H2,epc]
    rw [show ((6:Int) == 6)=true from rfl]
    try simp only [Wa7,bsx,Nat.reduceAdd,Int.reduceLE,Int.reduceLT,Int.reduceToNat]
    refine Wa0 (YP2 H2 (λhn=>absurd hn (List.length_pos_iff.1 (YV7 H2))) λb2 o2 _ hbo _=>?_)
    obtain ⟨rfl,rfl⟩:=hbo b o rfl
    try simp only [Wa7,bsx,Nat.reduceAdd,Int.reduceLE,Int.reduceLT,Int.reduceToNat]
    exact YK4 (by simp only [Wa9];trivial)
   rintro v30 g31 h32 ⟨e,rfl⟩
   cases e
   try simp +decide only [Wa7,bsx,Nat.reduceAdd,Int.reduceLE,Int.reduceLT,Int.reduceToNat,rsx,g_s,Wb6,RunS.al H2]
   exact Wa0 (Wq7 H2 [u64 (left+1)] rfl (Wt2 (Wt1 _)) rfl (by omega) λh4 b' o' _ _ H4=>k h4 (RunS.drp (RunS.none H4)))
 rw [if_neg c] at k
 refine Wa6 (λc=>?_) (λc=>?_)
 ·rw [if_pos c] at k
  exact Wa0 (WC5 (at_:=5) H1 O (by omega) (Wt1 _) (λcm h2 e2 H2=>k h2 (RunS.drp H2)) λcm h2 H2=>k h2 (RunS.drp (RunS.none H2)))
 rw [if_neg c] at k
 refine Wa6 (λc=>?_) (λc=>?_)
 ·rw [if_pos c] at k
  refine ⟨λvs h'=>(∃w,vs = [.bool (decide (x.f.g 4≤x.f.g 6∧x.f.g 4 < x.f.g 2)),w])∧h' = h1,?_,?_⟩
  ·refine Wa6 (λc2=>?_) (λc2=>?_)
   ·rw [show decide (x.f.g 4 < x.f.g 2)=decide (x.f.g 4≤x.f.g 6∧x.f.g 4 < x.f.g 2) by rw [decide_eq_decide];omega]
    exact ⟨⟨_,rfl⟩,by trivial⟩
   ·rw [decide_eq_false (p:=x.f.g 4≤x.f.g 6∧x.f.g 4 < x.f.g 2) (by omega)]
    exact ⟨⟨_,rfl⟩,by trivial⟩
  rintro v57 v58 g59 h60 ⟨⟨w,e⟩,rfl⟩
  cases e
  try simp only [Wa7,bsx,Nat.reduceAdd,Int.reduceLE,Int.reduceLT,Int.reduceToNat]
  refine Wa6 (λc2=>?_) (λc2=>?_)
  ·rw [if_pos c2] at k
   try simp +decide only [Wa7,bsx,Nat.reduceAdd,Int.reduceLE,Int.reduceLT,Int.reduceToNat,rsx,g_s,Wb6,RunS.al H1]
   exact Wa0 (WI8 (at_:=3) H1 O (by omega) hl λh2 H2=>k h2 (RunS.drp H2))
  rw [if_neg c2] at k
  refine ⟨λvs h'=>(∃w,vs = [.bool (decide (x.f.g 6 < x.f.g 4∧x.f.g 6 < x.f.g 2)),w])∧h' = h60,?_,?_⟩
  ·try simp +decide only [Wa7,bsx,Nat.reduceAdd,Int.reduceLE,Int.reduceLT,Int.reduceToNat,rsx,g_s,Wb6,RunS.al H1]
   refine Wa6 (λc2=>?_) (λc2=>?_)
   ·rw [show decide (x.f.g 6 < x.f.g 2)=decide (x.f.g 6 < x.f.g 4∧x.f.g 6 < x.f.g 2) by rw [decide_eq_decide];omega]
    exact ⟨_,rfl⟩
   ·rw [decide_eq_false (p:=x.f.g 6 < x.f.g 4∧x.f.g 6 < x.f.g 2) (by omega)]
    exact ⟨_,rfl⟩
  rintro v57 v58 g59 h60 ⟨⟨w,e⟩,rfl⟩
  cases e
  try simp +decide only [Wa7,bsx,Nat.reduceAdd,Int.reduceLE,Int.reduceLT,Int.reduceToNat,rsx,g_s,Wb6,RunS.al H1]
  refine Wa6 (λc3=>?_) (λc3=>?_)
  ·rw [if_pos c3] at k
   exact Wa0 (WI8 (at_:=5) H1 O (by omega) (Wt1 _) λh2 H2=>k h2 (RunS.drp H2))
  ·rw [if_neg c3] at k
   exact Wa0 (WI7 H1 O λh2 H2=>k h2 (RunS.drp H2))
 rw [if_neg c] at k
 exact Wa0 (W49 H1 O λh2 H2=>k h2 (RunS.drp H2))
theorem WY2 (H:Sat h (RunS M T tv fo x R)) (O:Ok x) (k:∀h',Sat h' (RunS M T tv none (Wo4 x) R)→K (.tuple #[]) h') :
  Wa5 Tryz.prog 67 #[mP M,mP T] h K:=by
 refine call67 ?_
 unfold F67 cf bd lI nP dl3
 unfold Wo4 at k
 dsimp only at k
 refine Wa0 (YP2 H (λe=>?_) λb o hne _ H1=>?_)
 ·rw [if_pos e] at k
  try simp only [Wa7,bsx,Nat.reduceAdd,Int.reduceLE,Int.reduceLT,Int.reduceToNat]
  refine ⟨λvs h'=>vs = [.bool true]∧h' = h,⟨rfl,rfl⟩,?_⟩
  rintro v4 g6 h7 ⟨e,rfl⟩
  cases e
  try simp only [Wa7,bsx,Nat.reduceAdd,Int.reduceLE,Int.reduceLT,Int.reduceToNat]
  exact k _ (RunS.none H)
 ·rw [if_neg hne] at k
  try simp only [Wa7,bsx,Nat.reduceAdd,Int.reduceLE,Int.reduceLT,Int.reduceToNat]
  refine ⟨λvs h'=>vs = [.bool false]∧h' = h,⟨rfl,rfl⟩,?_⟩
  rintro v4 g6 h7 ⟨e,rfl⟩
  cases e
  try simp only [Wa7,bsx,Nat.reduceAdd,Int.reduceLE,Int.reduceLT,Int.reduceToNat]
  have B:=RunS.fB H1
  have H2:=RunS.new H1 (.cells #[.pointer none,.pointer none,.pointer none] 200)
  generalize h7.push (.cells #[.pointer none,.pointer none,.pointer none] 200)=h2 at *
  generalize h7.size=N at *
  refine st3 (Wd6 (vs:=[mP M,mP T,fP b o]) (RunS.loc H2) rfl (by simp [Wi6]) λh3 w=>?_)
  have H3:Sat h3 (RunS M T tv (some (b,o)) x (pt N (.cells #[mP M,mP T,fP b o] 200)*R)):=RunS.wr H2 w.new w.old
  clear H2 w
  try simp +decide only [Wa7,bsx,Nat.reduceAdd,Int.reduceLE,Int.reduceLT,Int.reduceToNat,rsx,g_s,Wb6,RunS.al H3]
  refine ⟨λvs h'=>(∃w1 w2,vs = [.bool (decide (x.f.pc=90∧11≤x.f.fn∧x.f.fn≤13)),w1,w2])∧h' = h3,?_,?_⟩
  ·refine Wa6 (λc=>?_) (λc=>?_)
   ·refine Wa6 (λc2=>?_) (λc2=>?_)
    ·rw [show decide (x.f.fn≤13)=decide (x.f.pc=90∧11≤x.f.fn∧x.f.fn≤13) by rw [decide_eq_decide];omega]
     exact ⟨⟨_,_,rfl⟩,by trivial⟩
    ·rw [decide_eq_false (p:=x.f.pc=90∧11≤x.f.fn∧x.f.fn≤13) (by omega)]
     exact ⟨⟨_,_,rfl⟩,by trivial⟩
   ·rw [decide_eq_false (p:=x.f.pc=90∧11≤x.f.fn∧x.f.fn≤13) (by omega)]
    exact ⟨⟨_,_,rfl⟩,by trivial⟩
  rintro v21 v22 v23 g24 h25 ⟨⟨w1,w2,e⟩,rfl⟩
  cases e
  try simp +decide only [Wa7,bsx,Nat.reduceAdd,Int.reduceLE,Int.reduceLT,Int.reduceToNat,rsx,g_s,Wb6,RunS.al H3]
  refine Wa6 (λc=>?_) (λc=>?_)
  ·rw [if_pos c] at k
   exact Wa0 (YV6 H3 [x.f.g 7,x.f.g 8,x.f.g 9] rfl (YK3 (B.g 7) (B.g 8) (B.g 9)) rfl λh4 H4=>k h4 (RunS.drp H4))
  rw [if_neg c] at k
  refine Wa6 (λc=>?_) (λc=>?_)
  ·rw [if_pos c] at k
   exact Wa0 (Yg5 H3 O.st (by have:=O.fr;omega) λh4 H4=>k h4 (RunS.drp H4))
  rw [if_neg c] at k
  refine Wa6 (λc=>?_) (λc=>?_)
  ·rw [if_pos c] at k
   exact Wa0 (W46 H3 O λh4 H4=>k h4 (RunS.drp H4))
  rw [if_neg c] at k
  refine ⟨λvs h'=>(∃w,vs = [.bool (decide (x.f.fn=12∨x.f.fn=13)),w])∧h' = h25,?_,?_⟩
  ·refine Wa6 (λc=>?_) (λc=>?_)
   ·rw [decide_eq_true (p:=x.f.fn=12∨x.f.fn=13) (.inl c)]
    exact ⟨⟨_,rfl⟩,by trivial⟩
   ·rw [show (x.f.fn == 13)=decide (x.f.fn=12∨x.f.fn=13) by rw [Bool.eq_iff_iff,beq_iff_eq,decide_eq_true_iff];omega]
    exact ⟨⟨_,rfl⟩,by trivial⟩
  rintro v61 v62 g63 h64 ⟨⟨w,e⟩,rfl⟩
  cases e
  try simp +decide only [Wa7,bsx,Nat.reduceAdd,Int.reduceLE,Int.reduceLT,Int.reduceToNat,rsx,g_s,Wb6,RunS.al H3]
  refine Wa6 (λc=>?_) (λc=>?_)
  ·rw [if_pos c] at k
   exact Wa0 (W48 H3 O λh4 H4=>k h4 (RunS.drp H4))
  rw [if_neg c] at k
  refine Wa6 (λc=>?_) (λc=>?_)
  ·rw [if_pos c] at k
   exact Wa0 (W50 H3 O λh4 H4=>k h4 (RunS.drp H4))
  rw [if_neg c] at k
  exact Wa0 (WR9 H3 O λh4 H4=>k h4 (RunS.drp H4))
end
end
section
open Mod
section
variable {K:Value→Wa1→Prop} {h:Wa1} {M T b o N:Nat} {tv:Value} {fo:Option (Nat × Nat)} {x:Run} {R:Hp}
end
end
section
open Mod
section
variable {K:Value→Wa1→Prop} {h:Wa1} {M T b o N:Nat} {tv:Value} {fo:Option (Nat × Nat)} {x:Run} {R:Hp}
end
end
section
open Mod
section
variable {K:Value→Wa1→Prop} {h:Wa1} {M T b o N:Nat} {tv:Value} {fo:Option (Nat × Nat)} {x:Run} {R:Hp}
end
end
section
open Mod
theorem Ya6 {d:Run→Run}:∀ {n m:Nat} {x z w:Run},Mod.bits d n x=some z→Mod.bits d m x=some w→z=w
 | 0,0,x,z,w,h1,h2=>by
  rw [h1] at h2;exact Option.some.inj h2
 | 0,m+1,x,z,w,h1,h2=>by
  unfold Mod.bits at h1 h2
  split at h1
  ·rename_i c
   rw [if_pos c] at h2
   rw [h1] at h2;exact Option.some.inj h2
  ·cases h1
 | n+1,0,x,z,w,h1,h2=>by
  unfold Mod.bits at h1 h2
  split at h2
  ·rename_i c
   rw [if_pos c] at h1
   rw [h1] at h2;exact Option.some.inj h2
  ·cases h2
 | n+1,m+1,x,z,w,h1,h2=>by
  unfold Mod.bits at h1 h2
  split at h1
  ·rename_i c
   rw [if_pos c] at h2
   rw [h1] at h2;exact Option.some.inj h2
  ·rename_i c
   rw [if_neg c] at h2
   exact Ya6 h1 h2
open Classical in
noncomputable def Yg7 (d:Run→Run) (x:Run):Run:=if h:∃z,∃n,Mod.bits d n x=some z then h.choose else x
def Wc9 (m:Mac) (k:Nat):Thr:=m.th.getD k (WC3 m.p.c)
def Wl8 (t:Thr):Cl:=⟨s64 (t.ret.getD 0 0),u32 (t.ret.getD 1 0),u32 (t.ret.getD 2 0)⟩
def cl0:Cl:=⟨0,0,0⟩
def DS.enter (ins:Int) (calls:List (List Cl)) (s:DS) (k:Nat):Option DS:=
 if (Wc9 s.m k).fr = [] then
  if (calls.getD k []).length≤(s.nx.getD k 0).toNat then none
  else some ⟨s.m.setTh (s.m.th.set k ((Wc9 s.m k).push (ins+((calls.getD k []).getD (s.nx.getD k 0).toNat cl0).op) [((calls.getD k []).getD (s.nx.getD k 0).toNat cl0).key,((calls.getD k []).getD (s.nx.getD k 0).toNat cl0).val])),s.nx.set k (s.nx.getD k 0+1),s.cu.set k ((calls.getD k []).getD (s.nx.getD k 0).toNat cl0),s.ev ++ [⟨k,false,(calls.getD k []).getD (s.nx.getD k 0).toNat cl0,cl0⟩]⟩
 else some s
noncomputable def DS.go (d:Run→Run) (s:DS) (k:Nat):DS:=
 if (Yg7 d ⟨s.m.quiet,Wc9 s.m k,k⟩).t.fr = [] then ⟨(Yg7 d ⟨s.m.quiet,Wc9 s.m k,k⟩).m.setTh (s.m.th.set k (Yg7 d ⟨s.m.quiet,Wc9 s.m k,k⟩).t),s.nx,s.cu,s.ev ++ [⟨k,true,cl0,Wl8 (Yg7 d ⟨s.m.quiet,Wc9 s.m k,k⟩).t⟩]⟩
 else ⟨(Yg7 d ⟨s.m.quiet,Wc9 s.m k,k⟩).m.setTh (s.m.th.set k (Yg7 d ⟨s.m.quiet,Wc9 s.m k,k⟩).t),s.nx,s.cu,s.ev⟩
noncomputable def DS.pick (d:Run→Run) (ins:Int) (calls:List (List Cl)) (s:DS) (k:Int):DS:=match s.enter ins calls k.toNat with
 | none=>s
 | some s1=>s1.go d k.toNat
structure Yg8 (d:Run→Run) (W:Run→Prop) (ins:Int) (Inv:Nat→Mac→Prop):Prop where
 mono:∀(i:Nat) (m:Mac),Inv i m→Inv (i+1) m
 wd:∀i m,Inv i m→YY0 m∧2 < m.mm.w.length
 push:∀(i:Nat) (m:Mac) (k:Nat) (t:Thr) (c:Cl),Inv i m→m.th[k]? = some t→t.fr = []→0≤c.op∧c.op≤2→V c.key→V c.val→Inv i (m.setTh (m.th.set k (t.push (ins+c.op) [c.key,c.val])))
 step:∀(i:Nat) (m:Mac) (k:Nat) (t:Thr),Inv i m→i < 100000→m.th[k]? = some t→t.fr≠[]→∃n z,Mod.bits d n ⟨m.quiet,t,k⟩=some z∧YM4 d W n ⟨m.quiet,t,k⟩∧z.id=k∧z.m.th=m.th∧Inv (i+1) (z.m.setTh (m.th.set k z.t))
section
variable {K:Value→Wa1→Prop} {h:Wa1} {M:Nat} {B:DB} {Ts:List Nat} {R:Hp} {d:Run→Run} {W:Run→Prop} {ins:Int} {Inv:Nat→Mac→Prop} {calls:List (List Cl)}
end
end
section
open Mod
section
variable {K:Value→Wa1→Prop} {h:Wa1} {M:Nat} {Ts:List Nat} {R:Hp} {d:Run→Run} {W:Run→Prop} {ins:Int} {Inv:Nat→Mac→Prop} {calls:List (List Cl)} {W02:List Int} {m:Mac}
end
end
section
open Mod
theorem YQ8:und Tryz.prog 26=.slice 3:=by kernel_rfl
theorem YA2:Wf2 Tryz.prog 3=true:=by kernel_rfl
theorem YQ9:zer Tryz.prog 3=some (.int .i64 0):=by kernel_rfl
theorem Ya7:siz Tryz.prog 3=1:=by kernel_rfl
theorem YF5:byt Tryz.prog 3=8:=by kernel_rfl
theorem Ya8 {h:Wa1} {row:List Value} {t:TypeId}:Sees (h.push (.cells row.toArray t)) (some ⟨h.size,0,none⟩) row:=by
 intro i v hi
 refine ⟨_,rfl,?_⟩
 rw [Wc2,Nat.zero_add]
 exact Wd3 (t:=t) (row:=row) (by simp) hi
section
variable {K:Value→Wa1→Prop} {h:Wa1} {R:Hp}
theorem YR0 {a:Option Addr} {l c:Nat} {xs:List Int} {x:Int} {X:Hp} {F:Value→Wa1→Prop} (H:Sat h (We4 3 1 a l c (xs.map iv)*X)) (hl:l≤60000)
  (k:∀a' c' h',Sat h' (We4 3 1 a' (l+1) c' ((xs ++ [x]).map iv)*X)→F (.slice a' (l+1) c') h') :
  Wq0 Tryz.prog #[26,26] 26 #[.slice a l c,.slice (some ⟨h.size,0,none⟩) 1 1] (h.push (.cells #[.int .i64 x] 3)) F:=by
 have H1:=H.push (.cells [iv x].toArray 3)
 have hs:Sees (h.push (.cells [iv x].toArray 3)) (some ⟨h.size,0,none⟩) [iv x]:=Ya8
 have e:(.cells #[.int .i64 x] 3:Obj)=.cells [iv x].toArray 3:=rfl
 rw [e]
 have H2:Sat (h.push (.cells [iv x].toArray 3)) (We4 3 (siz Tryz.prog 3) a l c (xs.map iv)*X):=by
  rw [Ya7];exact H1.drop
 refine H2.app YQ8 YA2 YQ9 (by rw [Ya7];rfl) hs (n:=1) (by rw [Ya7];rfl) (by simp [Wi6]) (by rw [YF5];omega) (by rw [YF5];omega) λa' c' h' H3=>k a' c' h' ?_
 rw [Ya7] at H3
 rw [List.map_append]
 exact H3
end
end
section
open Go.ChangeShapes Go.WideShapes Go.ChangeAt Go.RowKit
theorem Yr8 {h h0:Wa1} (H:Sat h (Yy4 h0)):Old h0.size h0 h:=by
 rw [← Wr7 (Yy4 h0),Wu1] at H
 exact H.fullOld
section
variable {H:Type} {enc:TypeId × Value→H} {W:World} {fuel:Nat} {cs:List Value} {x:DataW H × List MemPlace}
theorem Wo7 (h:DataW.trod enc Tryz.prog W 0 (λ_=>true) true fuel 3 cs=some x):∃e:Int,cs = [iv e]:=by
 obtain ⟨n,u,_,r⟩:=DataW.trod_int Tryz.underlying3 h
 exact ⟨n,u⟩
theorem W51:Program.cellsOf Tryz.prog 23=7:=by kernel_rfl
theorem Yg9 (h:DataW.trod enc Tryz.prog W 0 (λ_=>true) true fuel 23 cs=some x):∃c:Mod.Cf,cs = [.int .i64 c.algo,.int .i64 c.threads,.int .i64 c.nodes,.int .i64 c.level,.int .i64 c.batch,.int .i64 c.probes,.int .i64 c.scan]:=by
 have hl:=Yn2 Tryz.underlying23 h
 rw [W51] at hl
 obtain ⟨_,_,e0⟩:=Wj6 Tryz.underlying23 h 0 _ rfl
 obtain ⟨n0,u0⟩:=Wo7 e0
 have q0:(cs.drop 0).take (Program.cellsOf Tryz.prog 3) = [.int .i64 n0]:=u0
 rw [Wh9] at q0
 obtain ⟨_,_,e1⟩:=Wj6 Tryz.underlying23 h 1 _ rfl
 obtain ⟨n1,u1⟩:=Wo7 e1
 have q1:(cs.drop 1).take (Program.cellsOf Tryz.prog 3) = [.int .i64 n1]:=u1
 rw [Wh9] at q1
 obtain ⟨_,_,e2⟩:=Wj6 Tryz.underlying23 h 2 _ rfl
 obtain ⟨n2,u2⟩:=Wo7 e2
 have q2:(cs.drop 2).take (Program.cellsOf Tryz.prog 3) = [.int .i64 n2]:=u2
 rw [Wh9] at q2
 obtain ⟨_,_,e3⟩:=Wj6 Tryz.underlying23 h 3 _ rfl
 obtain ⟨n3,u3⟩:=Wo7 e3
 have q3:(cs.drop 3).take (Program.cellsOf Tryz.prog 3) = [.int .i64 n3]:=u3
 rw [Wh9] at q3
 obtain ⟨_,_,e4⟩:=Wj6 Tryz.underlying23 h 4 _ rfl
 obtain ⟨n4,u4⟩:=Wo7 e4
 have q4:(cs.drop 4).take (Program.cellsOf Tryz.prog 3) = [.int .i64 n4]:=u4
 rw [Wh9] at q4
 obtain ⟨_,_,e5⟩:=Wj6 Tryz.underlying23 h 5 _ rfl
 obtain ⟨n5,u5⟩:=Wo7 e5
 have q5:(cs.drop 5).take (Program.cellsOf Tryz.prog 3) = [.int .i64 n5]:=u5
 rw [Wh9] at q5
 obtain ⟨_,_,e6⟩:=Wj6 Tryz.underlying23 h 6 _ rfl
 obtain ⟨n6,u6⟩:=Wo7 e6
 have q6:(cs.drop 6).take (Program.cellsOf Tryz.prog 3) = [.int .i64 n6]:=u6
 rw [Wh9] at q6
 refine ⟨⟨n0,n1,n2,n3,n4,n5,n6⟩,?_⟩
 rcases cs with _ | ⟨c0,cs⟩;· simp at hl
 rcases cs with _ | ⟨c1,cs⟩;· simp at hl
 rcases cs with _ | ⟨c2,cs⟩;· simp at hl
 rcases cs with _ | ⟨c3,cs⟩;· simp at hl
 rcases cs with _ | ⟨c4,cs⟩;· simp at hl
 rcases cs with _ | ⟨c5,cs⟩;· simp at hl
 rcases cs with _ | ⟨c6,cs⟩;· simp at hl
 rcases cs with _ | ⟨c7,cs⟩
 ·simp at q0 q1 q2 q3 q4 q5 q6
  rw [q0,q1,q2,q3,q4,q5,q6]
 ·simp at hl
end
section
variable {H:Type} {enc:TypeId × Value→H} {W:World} {v:Value} {d:DataW H} {ps:List MemPlace} {r:Reach} {b0:Nat}
theorem Yr9 (hval:Value.okWide Tryz.prog W r b0 23 v) (h:DataW.Trod enc Tryz.prog W 0 (λ_=>true) true 23 v d ps):∃c:Mod.Cf,v=.agg #[.int .i64 c.algo,.int .i64 c.threads,.int .i64 c.nodes,.int .i64 c.level,.int .i64 c.batch,.int .i64 c.probes,.int .i64 c.scan]:=by
 obtain ⟨vs,rfl,hsz⟩:=okWide_struct Tryz.underlying23 hval
 obtain ⟨fuel,hf⟩:=h
 obtain ⟨l⟩:=vs
 have hf:DataW.trod enc Tryz.prog W 0 (λ_=>true) true fuel 23 l=some (d,ps):=hf
 obtain ⟨c,q⟩:=Yg9 hf
 exact ⟨c,by rw [q]⟩
end
end
section
open Mod
section
variable {K:Value→Wa1→Prop} {h:Wa1} {M:Nat} {Ts:List Nat} {R:Hp} {d:Run→Run} {W:Run→Prop} {ins:Int} {Inv:Nat→Mac→Prop} {m:Mac}
theorem YF6 (G:Yg8 d W ins Inv) {i:Nat}:∀ {j:Nat},i≤j→Inv i m→Inv j m
 | 0,h,H=>by
  have:i=0:=by omega
  subst this;exact H
 | j+1,h,H=>by
  by_cases e:i=j+1
  ·subst e;exact H
  ·exact G.mono j m (YF6 G (by omega) H)
theorem Wk2 {m:Mac} {k:Nat} (h:k < m.th.length):m.th[k]? = some (Wc9 m k):=by
 unfold Wc9;rw [List.getElem?_eq_getElem h];simp [h]
theorem Wz4 {m z:Mac} {k:Nat} {t:Thr} (h:k < m.th.length):Wc9 (z.setTh (m.th.set k t)) k=t:=by
 unfold Wc9 Mod.Mac.setTh
 rw [List.getD_eq_getElem?_getD]
 simp [h]
end
end
section
set_option maxRecDepth 100000
abbrev g23 (K:Value→Wa1→Prop) (h H1:Wa1) (xa:Option Addr) (xb xc:Nat) (xd:Bool):Prop:=
 (dl7 H1 h.size λa b c d e f g=>cf 13 #[.agg #[a,b,c,d,e,f,g],.slice xa xb xc,.bool xd] H1 λa b=>We3 a λc=>Wb7 c 0 λc=>Wd0 c λc=>We3 a λa=>Wb7 a 1 λa=>asInt .i64 a λa=>ifB (a != 0) (K (.tuple #[.pointer none,.int .i64 a]) b) (exI λI15=>(lI .i64 (Array.push b (.cells #[.pointer c,.nilFunc,.int .i64 0] 131)) ⟨h.size,0,none⟩ λa=>ifB (a == 0) (Wa7 (.pointer (some ⟨b.size,0,none⟩)) (stH (Array.push b (.cells #[.pointer c,.nilFunc,.int .i64 0] 131)) ⟨b.size,1,none⟩ (.func (.func 67) #[] #[]) λd=>Wa7 (.pointer (some ⟨b.size,0,none⟩)) (stH d ⟨b.size,2,none⟩ (.int .i64 11) λd=>I15 [.bool true,.tuple #[]] d))) (ifB (a == 1) (Wa7 (.pointer (some ⟨b.size,0,none⟩)) (stH (Array.push b (.cells #[.pointer c,.nilFunc,.int .i64 0] 131)) ⟨b.size,1,none⟩ (.func (.func 68) #[] #[]) λa=>Wa7 (.pointer (some ⟨b.size,0,none⟩)) (stH a ⟨b.size,2,none⟩ (.int .i64 21) λa=>I15 [.bool false,.bool true] a))) (Wa7 (.pointer (some ⟨b.size,0,none⟩)) (stH (Array.push b (.cells #[.pointer c,.nilFunc,.int .i64 0] 131)) ⟨b.size,1,none⟩ (.func (.func 69) #[] #[]) λa=>Wa7 (.pointer (some ⟨b.size,0,none⟩)) (stH a ⟨b.size,2,none⟩ (.int .i64 31) λa=>I15 [.bool false,.bool false] a)))))∧(∀(a c:Value) (d:Env) (d:Wa1),(I15 [a,c] d)→(K (.tuple #[.pointer (some ⟨b.size,0,none⟩),.int .i64 0]) d))))
def F23 (K:Value→Wa1→Prop) (h:Wa1) (xa xb xc xd xe xf xg:Int) (xh:Option Addr) (xi xj:Nat) (xk:Bool):Prop:=
 (g23 K h (Array.push h (.cells #[.int .i64 xa,.int .i64 xb,.int .i64 xc,.int .i64 xd,.int .i64 xe,.int .i64 xf,.int .i64 xg] 23)) xh xi xj xk)
theorem call23 {K:Value→Wa1→Prop} {h:Wa1} {xa xb xc xd xe xf xg:Int} {xh:Option Addr} {xi xj:Nat} {xk:Bool} (H:F23 K h xa xb xc xd xe xf xg xh xi xj xk):Wa5 Tryz.prog 23 #[(.agg #[(.int .i64 xa),(.int .i64 xb),(.int .i64 xc),(.int .i64 xd),(.int .i64 xe),(.int .i64 xf),(.int .i64 xg)]),(.slice xh xi xj),(.bool xk)] h K:=
 Wa4 Tryz.func23 (by kernel_rfl) (Eq.mp (by kernel_rfl) H)
abbrev g24 (K:Value→Wa1→Prop) (h H1:Wa1) (xa:Option Addr) (xb:Int):Prop:=
 (ifB (Option.isNone xa) (K (.int .i64 1) H1) (cf 70 #[.pointer xa,.int .i64 xb] H1 λa b=>Wd0 a λa=>ifB (Option.isNone a) (K (.int .i64 2) b) (dl3 b h.size λa c d=>cf 71 #[.agg #[a,c,d]] b λa b=>asBool a λa=>ifB (!a) (K (.int .i64 1) b) (cf 72 #[.pointer xa,.int .i64 xb] b λa b=>asBool a λa=>ifB a (K (.int .i64 5) b) (nP xa λa=>ldH b (Addr.add a 2) λc=>asInt .i64 c λd=>ldH b ⟨h.size,0,none⟩ λe=>asInt .i64 e λf=>ldH b ⟨h.size,1,none⟩ λg=>asInt .u32 g λi=>ldH b ⟨h.size,2,none⟩ λj=>asInt .u32 j λk=>(cf 70 #[.pointer xa,.int .i64 xb] b λl m=>Wd0 l λl=>ce m h.size 2 j (ce m h.size 1 g (ce m h.size 0 e (((Wa2 m (Addr.add a 2))=(some c))∧(((Wa2 (Array.push m (.cells #[.int .u64 (IntKind.wrap .u64 i),.int .u64 (IntKind.wrap .u64 k)] 70)) ⟨h.size,0,none⟩)=(some e))∧(((Wa2 (Array.push m (.cells #[.int .u64 (IntKind.wrap .u64 i),.int .u64 (IntKind.wrap .u64 k)] 70)) (Addr.add a 2))=(some c))∧(cf 73 #[.pointer l,.int .i64 (IntKind.wrap .i64 (d+f)),.slice (some ⟨m.size,0,none⟩) 2 2] (Array.push m (.cells #[.int .u64 (IntKind.wrap .u64 i),.int .u64 (IntKind.wrap .u64 k)] 70)) λl l=>K (.int .i64 0) l)))))))∧(((Wa2 (Array.push b (.cells #[.int .u64 (IntKind.wrap .u64 i),.int .u64 (IntKind.wrap .u64 k)] 70)) ⟨h.size,0,none⟩)=(some e))∧(((Wa2 (Array.push b (.cells #[.int .u64 (IntKind.wrap .u64 i),.int .u64 (IntKind.wrap .u64 k)] 70)) (Addr.add a 2))=(some c))∧(cf 70 #[.pointer xa,.int .i64 xb] (Array.push b (.cells #[.int .u64 (IntKind.wrap .u64 i),.int .u64 (IntKind.wrap .u64 k)] 70)) λi k=>Wd0 i λi=>ce k h.size 2 j (ce k h.size 1 g (ce k h.size 0 e (((Wa2 k (Addr.add a 2))=(some c))∧(cf 73 #[.pointer i,.int .i64 (IntKind.wrap .i64 (d+f)),.slice (some ⟨b.size,0,none⟩) 2 2] k λa a=>K (.int .i64 0) a))))))))))))
def F24 (K:Value→Wa1→Prop) (h:Wa1) (xa:Option Addr) (xb xc xd xe:Int):Prop:=
 (g24 K h (Array.push h (.cells #[.int .i64 xc,.int .u32 xd,.int .u32 xe] 54)) xa xb)
theorem call24 {K:Value→Wa1→Prop} {h:Wa1} {xa:Option Addr} {xb xc xd xe:Int} (H:F24 K h xa xb xc xd xe):Wa5 Tryz.prog 24 #[(.pointer xa),(.int .i64 xb),(.agg #[(.int .i64 xc),(.int .u32 xd),(.int .u32 xe)])] h K:=
 Wa4 Tryz.func24 (by kernel_rfl) (Eq.mp (by kernel_rfl) H)
def F59 (K:Value→Wa1→Prop) (h:Wa1) (xa:Option Addr):Prop:=
 (ifB (Option.isNone xa) (K (.pointer none) h) (nP xa λa=>lP h a λa=>K (.pointer a) h))
theorem call59 {K:Value→Wa1→Prop} {h:Wa1} {xa:Option Addr} (H:F59 K h xa):Wa5 Tryz.prog 59 #[(.pointer xa)] h K:=
 Wa4 Tryz.func59 (by kernel_rfl) (Eq.mp (by kernel_rfl) H)
abbrev g64 (K:Value→Wa1→Prop) (h H1 H2:Wa1) (xa:Option Addr) (xb:Int):Prop:=
 (dl3 H2 h.size λa b c=>cf 24 #[.pointer xa,.int .i64 xb,.agg #[a,b,c]] H2 λa b=>asInt .i64 a λa=>ifB (a != 0) (dw3 b H1.size (.int .i64 0) (.int .u32 0) (.int .u32 0) λc=>dl3 c H1.size λd e f=>K (.tuple #[.agg #[d,e,f],.int .i64 a]) c) (cf 118 #[.pointer xa,.int .i64 xb] b λa b=>asAgg a λa=>We5 a 3 (de3 a λa c d=>dw3 b H1.size a c d λa=>dl3 a H1.size λb c d=>K (.tuple #[.agg #[b,c,d],.int .i64 0]) a)))
def F64 (K:Value→Wa1→Prop) (h:Wa1) (xa:Option Addr) (xb xc xd xe:Int):Prop:=
 (g64 K h (Array.push h (.cells #[.int .i64 xc,.int .u32 xd,.int .u32 xe] 54)) (Array.push (Array.push h (.cells #[.int .i64 xc,.int .u32 xd,.int .u32 xe] 54)) (.cells #[.int .i64 0,.int .u32 0,.int .u32 0] 81)) xa xb)
theorem call64 {K:Value→Wa1→Prop} {h:Wa1} {xa:Option Addr} {xb xc xd xe:Int} (H:F64 K h xa xb xc xd xe):Wa5 Tryz.prog 64 #[(.pointer xa),(.int .i64 xb),(.agg #[(.int .i64 xc),(.int .u32 xd),(.int .u32 xe)])] h K:=
 Wa4 Tryz.func64 (by kernel_rfl) (Eq.mp (by kernel_rfl) H)
def F65 (K:Value→Wa1→Prop) (h:Wa1) (xa:Option Addr):Prop:=
 (ifB (Option.isNone xa) (K (.int .i64 1) h) (cf 111 #[.pointer xa] h λa b=>asBool a λa=>ifB (!a) (K (.int .i64 5) b) (exI λI3=>(nP xa λa=>lI .i64 b (Addr.add a 2) λa=>ifB (a == 31) (cf 70 #[.pointer xa,.int .i64 0] b λa c=>Wd0 a λa=>cf 73 #[.pointer a,.int .i64 34,.slice none 0 0] c λa a=>cf 118 #[.pointer xa,.int .i64 0] a λa c=>asAgg a λa=>We5 a 3 (de3 a λa a a=>I3 [] c)) (I3 [] b))∧(∀(a:Env) (a:Wa1),(I3 [] a)→(cf 119 #[.pointer xa] a λa b=>asInt .i64 a λa=>exI λI23=>exM λm24=>(I23 [.tuple #[],.int .i64 0] b)∧(∀(b c:Value) (d:Env) (d:Wa1),(I23 [b,c] d)→(asInt .i64 c λe=>ifB (decide (e < a)) (asInt .i64 c λa=>cf 70 #[.pointer xa,.int .i64 a] d λe f=>Wd0 e λe=>cf 73 #[.pointer e,.int .i64 6,.slice none 0 0] f λe e=>cf 118 #[.pointer xa,.int .i64 a] e λe f=>asAgg e λe=>We5 e 3 (de3 e λe e e=>asInt .i64 c λe=>(I23 [.int .i64 a,.int .i64 (IntKind.wrap .i64 (e+1))] f)∧((m24 [.int .i64 a,.int .i64 (IntKind.wrap .i64 (e+1))] f) < (m24 [b,c] d)))) (K (.int .i64 0) d))))))))
theorem call65 {K:Value→Wa1→Prop} {h:Wa1} {xa:Option Addr} (H:F65 K h xa):Wa5 Tryz.prog 65 #[(.pointer xa)] h K:=
 Wa4 Tryz.func65 (by kernel_rfl) (Eq.mp (by kernel_rfl) H)
def F70 (K:Value→Wa1→Prop) (h:Wa1) (xa:Option Addr) (xb:Int):Prop:=
 (cf 59 #[.pointer xa] h λa b=>Wd0 a λa=>cf 91 #[.pointer a,.int .i64 xb] b λa b=>Wd0 a λa=>K (.pointer a) b)
theorem call70 {K:Value→Wa1→Prop} {h:Wa1} {xa:Option Addr} {xb:Int} (H:F70 K h xa xb):Wa5 Tryz.prog 70 #[(.pointer xa),(.int .i64 xb)] h K:=
 Wa4 Tryz.func70 (by kernel_rfl) (Eq.mp (by kernel_rfl) H)
def F72 (K:Value→Wa1→Prop) (h:Wa1) (xa:Option Addr) (xb:Int):Prop:=
 (cf 70 #[.pointer xa,.int .i64 xb] h λa b=>Wd0 a λa=>cf 120 #[.pointer a] b λa b=>Wd0 a λa=>K (.bool (!(Option.isNone a))) b)
theorem call72 {K:Value→Wa1→Prop} {h:Wa1} {xa:Option Addr} {xb:Int} (H:F72 K h xa xb):Wa5 Tryz.prog 72 #[(.pointer xa),(.int .i64 xb)] h K:=
 Wa4 Tryz.func72 (by kernel_rfl) (Eq.mp (by kernel_rfl) H)
def F111 (K:Value→Wa1→Prop) (h:Wa1) (xa:Option Addr):Prop:=
 (cf 119 #[.pointer xa] h λa b=>asInt .i64 a λa=>exI λI3=>exM λm4=>(I3 [.bool false,.tuple #[],.int .i64 0] b)∧(∀(b c d:Value) (e:Env) (e:Wa1),(I3 [b,c,d] e)→(asInt .i64 d λf=>ifB (decide (f < a)) (asInt .i64 d λa=>cf 72 #[.pointer xa,.int .i64 a] e λf g=>asBool f λf=>ifB f (K (.bool false) g) (asInt .i64 d λf=>(I3 [b,.int .i64 a,.int .i64 (IntKind.wrap .i64 (f+1))] g)∧((m4 [b,.int .i64 a,.int .i64 (IntKind.wrap .i64 (f+1))] g) < (m4 [b,c,d] e)))) (K (.bool true) e))))
theorem call111 {K:Value→Wa1→Prop} {h:Wa1} {xa:Option Addr} (H:F111 K h xa):Wa5 Tryz.prog 111 #[(.pointer xa)] h K:=
 Wa4 Tryz.func111 (by kernel_rfl) (Eq.mp (by kernel_rfl) H)
def F118 (K:Value→Wa1→Prop) (h:Wa1) (xa:Option Addr) (xb:Int):Prop:=
 (exI λI0=>exM λm1=>(I0 [.tuple #[],.tuple #[]] (Array.push h (.cells #[.int .i64 0,.int .u32 0,.int .u32 0] 81)))∧(∀(a b:Value) (c:Env) (c:Wa1),(I0 [a,b] c)→(cf 72 #[.pointer xa,.int .i64 xb] c λd e=>asBool d λd=>ifB d (cf 159 #[.pointer xa,.int .i64 xb] e λd f=>We3 d λg=>Wb7 g 0 λg=>asAgg g λg=>We5 g 3 (de3 g λg i j=>We3 d λk=>Wb7 k 1 λk=>asBool k λk=>stH (Array.push f (.cells #[.int .i64 0,.int .u32 0,.int .u32 0] 81)) ⟨f.size,0,none⟩ g λg=>stH g ⟨f.size,1,none⟩ i λg=>stH g ⟨f.size,2,none⟩ j λg=>ifB k (dl3 g f.size λf i j=>dw3 g h.size f i j λf=>dl3 f h.size λi j l=>K (.agg #[i,j,l]) f) ((I0 [.bool k,d] g)∧((m1 [.bool k,d] g) < (m1 [a,b] c))))) (dw3 e h.size (.int .i64 0) (.int .u32 0) (.int .u32 0) λa=>dl3 a h.size λb c d=>K (.agg #[b,c,d]) a))))
theorem call118 {K:Value→Wa1→Prop} {h:Wa1} {xa:Option Addr} {xb:Int} (H:F118 K h xa xb):Wa5 Tryz.prog 118 #[(.pointer xa),(.int .i64 xb)] h K:=
 Wa4 Tryz.func118 (by kernel_rfl) (Eq.mp (by kernel_rfl) H)
def F119 (K:Value→Wa1→Prop) (h:Wa1) (xa:Option Addr):Prop:=
 (cf 59 #[.pointer xa] h λa b=>Wd0 a λa=>cf 79 #[.pointer a] b λa b=>asAgg a λa=>We5 a 15 (Wu0 a λa c d e f g i j k l m n o p q=>cf 80 #[.agg #[a,c,d,e,f,g,i,j,k,l,m,n,o,p,q]] b λa b=>asAgg a λa=>We5 a 7 (de7 a λa a c c c c c=>asInt .i64 a λa=>K (.int .i64 a) b)))
theorem call119 {K:Value→Wa1→Prop} {h:Wa1} {xa:Option Addr} (H:F119 K h xa):Wa5 Tryz.prog 119 #[(.pointer xa)] h K:=
 Wa4 Tryz.func119 (by kernel_rfl) (Eq.mp (by kernel_rfl) H)
def F159 (K:Value→Wa1→Prop) (h:Wa1) (xa:Option Addr) (xb:Int):Prop:=
 (exI λI0=>(cf 72 #[.pointer xa,.int .i64 xb] (Array.push h (.cells #[.int .i64 0,.int .u32 0,.int .u32 0] 81)) λa b=>asBool a λa=>ifB (!a) (I0 [.bool true] b) (nP xa λa=>lP b a λa=>nP xa λc=>ldH b (Addr.add c 1) λc=>cf 93 #[.pointer a,.int .i64 xb,c] b λa b=>asBool a λa=>I0 [.bool a] b))∧(∀(a:Value) (b:Env) (b:Wa1),(I0 [a] b)→(asBool a λa=>ifB a (dw3 b h.size (.int .i64 0) (.int .u32 0) (.int .u32 0) λa=>dl3 a h.size λc d e=>K (.tuple #[.agg #[c,d,e],.bool false]) a) (cf 70 #[.pointer xa,.int .i64 xb] b λa b=>Wd0 a λa=>nP a λa=>ldH b (Addr.add a 2) λc=>ldH b (Addr.add a 3) λd=>ldH b (Addr.add a 4) λa=>stH (Array.push b (.cells #[.int .u64 0,.int .u64 0,.int .u64 0] 106)) ⟨b.size,0,none⟩ c λc=>stH c ⟨b.size,1,none⟩ d λc=>stH c ⟨b.size,2,none⟩ a λa=>bd 0 3 (lI .u64 a ⟨b.size,0,none⟩ λc=>bd 1 3 (lI .u64 a ⟨b.size,1,none⟩ λd=>bd 2 3 (lI .u64 a ⟨b.size,2,none⟩ λb=>dw3 a h.size (.int .i64 (IntKind.wrap .i64 c)) (.int .u32 (IntKind.wrap .u32 d)) (.int .u32 (IntKind.wrap .u32 b)) λa=>dl3 a h.size λb c d=>K (.tuple #[.agg #[b,c,d],.bool true]) a)))))))
theorem call159 {K:Value→Wa1→Prop} {h:Wa1} {xa:Option Addr} {xb:Int} (H:F159 K h xa xb):Wa5 Tryz.prog 159 #[(.pointer xa),(.int .i64 xb)] h K:=
 Wa4 Tryz.func159 (by kernel_rfl) (Eq.mp (by kernel_rfl) H)
def F18 (K:Value→Wa1→Prop) (h:Wa1) (xa:Option Addr):Prop:=
 (cf 19 #[.pointer xa] h λa b=>We3 a λc=>Wb7 c 0 λc=>Wb2 c λc c d=>We3 a λa=>Wb7 a 1 λa=>asInt .i64 a λa=>K (.tuple #[.int .i64 (c:Int),.int .i64 a]) b)
theorem call18 {K:Value→Wa1→Prop} {h:Wa1} {xa:Option Addr} (H:F18 K h xa):Wa5 Tryz.prog 18 #[(.pointer xa)] h K:=
 Wa4 Tryz.func18 (by kernel_rfl) (Eq.mp (by kernel_rfl) H)
def F19 (K:Value→Wa1→Prop) (h:Wa1) (xa:Option Addr):Prop:=
 (cf 57 #[.pointer xa] h λa b=>asInt .i64 a λa=>ifB (a != 0) (K (.tuple #[.slice none 0 0,.int .i64 a]) b) (cf 59 #[.pointer xa] b λa b=>Wd0 a λa=>cf 58 #[.pointer a] b λa b=>Wb2 a λa c d=>cf 59 #[.pointer xa] b λb e=>Wd0 b λb=>cf 7 #[.pointer b] e λb e=>Wb2 b λb f g=>exI λI19=>exM λm20=>(I19 [.slice a c d,.tuple #[],.int .i64 0] e)∧(∀(a c d:Value) (e:Env) (e:Wa1),(I19 [a,c,d] e)→(asInt .i64 d λg=>ifB (decide (g < (f:Int))) (asI d λg=>bd g (f:Int) (Wd4 (.pointer b) λb=>lS e (Addr.add b (g.toNat*1)) λb f g=>Wb2 a λi j k=>Wq0 Tryz.prog #[44,44] 44 #[.slice i j k,.slice b f g] e λi j=>Wb2 i λi k l=>asInt .i64 d λm=>(I19 [.slice i k l,.slice b f g,.int .i64 (IntKind.wrap .i64 (m+1))] j)∧((m20 [.slice i k l,.slice b f g,.int .i64 (IntKind.wrap .i64 (m+1))] j) < (m20 [a,c,d] e)))) (Wb2 a λb c d=>cf 60 #[.slice b c d,.func (.func 61) #[] #[]] e λb b=>Wb2 a λa c d=>K (.tuple #[.slice a c d,.int .i64 0]) b)))))
theorem call19 {K:Value→Wa1→Prop} {h:Wa1} {xa:Option Addr} (H:F19 K h xa):Wa5 Tryz.prog 19 #[(.pointer xa)] h K:=
 Wa4 Tryz.func19 (by kernel_rfl) (Eq.mp (by kernel_rfl) H)
def F20 (K:Value→Wa1→Prop) (h:Wa1) (xa:Option Addr):Prop:=
 (cf 57 #[.pointer xa] h λa b=>asInt .i64 a λa=>ifB (a != 0) (K (.tuple #[.slice none 0 0,.int .i64 a]) b) (exI λI3=>exM λm4=>(I3 [.slice none 0 0,.tuple #[],.tuple #[]] b)∧(∀(a b c:Value) (d:Env) (d:Wa1),(I3 [a,b,c] d)→(cf 64 #[.pointer xa,.int .i64 0,.agg #[.int .i64 1,.int .u32 0,.int .u32 0]] d λe f=>We3 e λg=>Wb7 g 0 λg=>asAgg g λg=>We5 g 3 (de3 g λg i j=>We3 e λk=>Wb7 k 1 λk=>asInt .i64 k λk=>stH (Array.push f (.cells #[.int .i64 0,.int .u32 0,.int .u32 0] 81)) ⟨f.size,0,none⟩ g λg=>stH g ⟨f.size,1,none⟩ i λg=>stH g ⟨f.size,2,none⟩ j λg=>exI λI24=>(ifB (k != 0) (I24 [.bool true] g) (lI .i64 g ⟨f.size,0,none⟩ λi=>I24 [.bool (i != 2)] g))∧(∀(g:Value) (i:Env) (i:Wa1),(I24 [g] i)→(asBool g λg=>ifB g (Wb2 a λg j l=>cf 65 #[.pointer xa] i λm n=>asInt .i64 m λm=>K (.tuple #[.slice g j l,.int .i64 m]) n) (Wb2 a λg j l=>lI .u32 i ⟨f.size,1,none⟩ λm=>lI .u32 i ⟨f.size,2,none⟩ λf=>Wq0 Tryz.prog #[44,44] 44 #[.slice g j l,.slice (some ⟨i.size,0,none⟩) 1 1] (Array.push i (.cells #[.int .u32 m,.int .u32 f] 90)) λf g=>Wb2 f λf i j=>(I3 [.slice f i j,.int .i64 k,e] g)∧((m4 [.slice f i j,.int .i64 k,e] g) < (m4 [a,b,c] d))))))))))
theorem call20 {K:Value→Wa1→Prop} {h:Wa1} {xa:Option Addr} (H:F20 K h xa):Wa5 Tryz.prog 20 #[(.pointer xa)] h K:=
 Wa4 Tryz.func20 (by kernel_rfl) (Eq.mp (by kernel_rfl) H)
def F21 (K:Value→Wa1→Prop) (h:Wa1) (xa:Option Addr):Prop:=
 (cf 59 #[.pointer xa] h λa b=>Wd0 a λa=>cf 38 #[.pointer a] b λa b=>Wd0 a λa=>cf 66 #[.pointer a,.int .i64 1] b λa b=>asInt .i64 a λa=>K (.int .i64 a) b)
theorem call21 {K:Value→Wa1→Prop} {h:Wa1} {xa:Option Addr} (H:F21 K h xa):Wa5 Tryz.prog 21 #[(.pointer xa)] h K:=
 Wa4 Tryz.func21 (by kernel_rfl) (Eq.mp (by kernel_rfl) H)
def F57 (K:Value→Wa1→Prop) (h:Wa1) (xa:Option Addr):Prop:=
 (ifB (Option.isNone xa) (K (.int .i64 1) h) (cf 111 #[.pointer xa] h λa b=>asBool a λa=>ifB (!a) (K (.int .i64 5) b) (K (.int .i64 0) b)))
theorem call57 {K:Value→Wa1→Prop} {h:Wa1} {xa:Option Addr} (H:F57 K h xa):Wa5 Tryz.prog 57 #[(.pointer xa)] h K:=
 Wa4 Tryz.func57 (by kernel_rfl) (Eq.mp (by kernel_rfl) H)
def F22 (K:Value→Wa1→Prop) (h:Wa1)  : Prop:=
 (cf 23 #[.agg #[.int .i64 0,.int .i64 1,.int .i64 2,.int .i64 1,.int .i64 1,.int .i64 1,.int .i64 1],.slice none 0 0,.bool true] h λa b=>We3 a λc=>Wb7 c 0 λc=>Wd0 c λc=>We3 a λa=>Wb7 a 1 λa=>asInt .i64 a λa=>cf 64 #[.pointer c,.int .i64 0,.agg #[.int .i64 0,.int .u32 5,.int .u32 1]] b λb b=>cf 18 #[.pointer c] b λb d=>We3 b λe=>Wb7 e 0 λe=>asInt .i64 e λe=>We3 b λb=>Wb7 b 1 λb=>asInt .i64 b λb=>cf 20 #[.pointer c] d λc d=>We3 c λf=>Wb7 f 0 λf=>Wb2 f λf g i=>We3 c λc=>Wb7 c 1 λc=>asInt .i64 c λc=>ifB (a == 0) (ifB (b == 0) (ifB (c == 0) (ifB (e == 1) (ifB ((g:Int) == 1) (bd 0 (g:Int) (Wd4 (.pointer f) λa=>da2 d a λa b=>WS7 Tryz.prog 90 (.agg #[a,b]) (.agg #[.int .u32 5,.int .u32 1]) λa=>K (.bool a) d)) (K (.bool false) d)) (K (.bool false) d)) (K (.bool false) d)) (K (.bool false) d)) (K (.bool false) d))
theorem call22 {K:Value→Wa1→Prop} {h:Wa1}  (H:F22 K h ):Wa5 Tryz.prog 22 #[] h K:=
 Wa4 Tryz.func22 (by kernel_rfl) (Eq.mp (by kernel_rfl) H)
def F5 (K:Value→Wa1→Prop) (h:Wa1) (xa xb xc xd xe xf xg:Int):Prop:=
 (cf 18 #[.pointer none] (Array.push h (.cells #[.int .i64 xa,.int .i64 xb,.int .i64 xc,.int .i64 xd,.int .i64 xe,.int .i64 xf,.int .i64 xg] 23)) λa b=>We3 a λc=>Wb7 c 0 λc=>asInt .i64 c λc=>We3 a λa=>Wb7 a 1 λa=>asInt .i64 a λa=>cf 19 #[.pointer none] b λb c=>We3 b λd=>Wb7 d 0 λd=>Wb2 d λd d d=>We3 b λb=>Wb7 b 1 λb=>asInt .i64 b λb=>cf 20 #[.pointer none] c λc d=>We3 c λe=>Wb7 e 0 λe=>Wb2 e λe e e=>We3 c λc=>Wb7 c 1 λc=>asInt .i64 c λc=>exI λI28=>(ifB (a != 1) (I28 [.bool true,.bool true,.bool true] d) (ifB (b != 1) (I28 [.bool (b != 1),.bool true,.bool true] d) (ifB (c != 1) (I28 [.bool (b != 1),.bool (c != 1),.bool true] d) (cf 21 #[.pointer none] d λa d=>asInt .i64 a λa=>I28 [.bool (b != 1),.bool (c != 1),.bool (a != 0)] d))))∧(∀(a b c:Value) (d:Env) (d:Wa1),(I28 [a,b,c] d)→(asBool c λa=>ifB a (K (.bool false) d) (dl7 d h.size λa b c e f g i=>cf 11 #[.agg #[a,b,c,e,f,g,i]] d λa b=>asBool a λa=>ifB (!a) (cf 22 #[] b λa c=>asBool a λa=>K (.bool a) c) (dl7 b h.size λa c d e f g i=>cf 23 #[.agg #[a,c,d,e,f,g,i],.slice none 0 0,.bool false] b λa b=>We3 a λc=>Wb7 c 0 λc=>Wd0 c λc=>We3 a λa=>Wb7 a 1 λa=>asInt .i64 a λa=>cf 24 #[.pointer c,.int .i64 0,.agg #[.int .i64 1,.int .u32 0,.int .u32 0]] b λb d=>asInt .i64 b λb=>cf 18 #[.pointer c] d λb d=>We3 b λe=>Wb7 e 0 λe=>asInt .i64 e λe=>We3 b λb=>Wb7 b 1 λb=>asInt .i64 b λb=>cf 19 #[.pointer c] d λd f=>We3 d λg=>Wb7 g 0 λg=>Wb2 g λg g i=>We3 d λd=>Wb7 d 1 λd=>asInt .i64 d λd=>cf 20 #[.pointer c] f λf i=>We3 f λj=>Wb7 j 0 λj=>Wb2 j λj j k=>We3 f λf=>Wb7 f 1 λf=>asInt .i64 f λf=>ifB (a == 0) (ifB (b == 5) (ifB (d == 5) (ifB (f == 5) (ifB ((IntKind.wrap .i64 ((IntKind.wrap .i64 (e+(g:Int)))+(j:Int))) == 0) (cf 21 #[.pointer c] i λa b=>asInt .i64 a λa=>ifB (a == 0) (cf 22 #[] b λa c=>asBool a λa=>K (.bool a) c) (K (.bool false) b)) (K (.bool false) i)) (K (.bool false) i)) (K (.bool false) i)) (K (.bool false) i)) (K (.bool false) i))))))
theorem call5 {K:Value→Wa1→Prop} {h:Wa1} {xa xb xc xd xe xf xg:Int} (H:F5 K h xa xb xc xd xe xf xg):Wa5 Tryz.prog 5 #[(.agg #[(.int .i64 xa),(.int .i64 xb),(.int .i64 xc),(.int .i64 xd),(.int .i64 xe),(.int .i64 xf),(.int .i64 xg)])] h K:=
 Wa4 Tryz.func5 (by kernel_rfl) (Eq.mp (by kernel_rfl) H)
def F58 (K:Value→Wa1→Prop) (h:Wa1) (xa:Option Addr):Prop:=
 (cf 112 #[.pointer xa] h λa b=>We3 a λc=>Wb7 c 0 λc=>asAgg c λc=>We5 c 16 (YS4 c λc d e f g i j k l m n o p q r s=>We3 a λa=>Wb7 a 1 λa=>asBool a λa=>stH (Array.push b (.cells #[.int .i64 0,.int .i64 0,.int .i64 0,.int .i64 0,.int .i64 0,.int .i64 0,.int .i64 0,.int .i64 0,.int .i64 0,.int .i64 0,.int .i64 0,.int .i64 0,.int .i64 0,.int .i64 0,.int .i64 0,.slice none 0 0] 186)) ⟨b.size,0,none⟩ c λc=>stH c ⟨b.size,1,none⟩ d λc=>stH c ⟨b.size,2,none⟩ e λc=>stH c ⟨b.size,3,none⟩ f λc=>stH c ⟨b.size,4,none⟩ g λc=>stH c ⟨b.size,5,none⟩ i λc=>stH c ⟨b.size,6,none⟩ j λc=>stH c ⟨b.size,7,none⟩ k λc=>stH c ⟨b.size,8,none⟩ l λc=>stH c ⟨b.size,9,none⟩ m λc=>stH c ⟨b.size,10,none⟩ n λc=>stH c ⟨b.size,11,none⟩ o λc=>stH c ⟨b.size,12,none⟩ p λc=>stH c ⟨b.size,13,none⟩ q λc=>stH c ⟨b.size,14,none⟩ r λc=>stH c ⟨b.size,15,none⟩ s λc=>ifB (!a) (K (.slice none 0 0) c) (WP8 c b.size λa d e f g i j k l m n o p q r s=>cf 113 #[.agg #[a,d,e,f,g,i,j,k,l,m,n,o,p,q,r,s],.int .i64 0] c λa c=>Wb2 a λa d e=>exI λI61=>exM λm62=>(I61 [.slice none 0 0,.int .i64 0] c)∧(∀(c e:Value) (f:Env) (f:Wa1),(I61 [c,e] f)→(asInt .i64 e λg=>ifB (decide (g < (d:Int))) (asI e λg=>bd g (d:Int) (Wd4 (.pointer a) λa=>ldH f (Addr.add a (g.toNat*2)) λd=>ldH f (Addr.add (Addr.add a (g.toNat*2)) 1) λa=>stH (Array.push f (.cells #[.int .i64 0,.bool false] 192)) ⟨f.size,0,none⟩ d λd=>stH d ⟨f.size,1,none⟩ a λa=>WP8 a b.size λd g i j k l m n o p q r s t u v=>dl2 a f.size λw x=>cf 114 #[.agg #[d,g,i,j,k,l,m,n,o,p,q,r,s,t,u,v],.agg #[w,x]] a λa d=>asBool a λa=>ifB (!a) (Wb2 c λa g i=>WP8 d b.size λb j k l m n o p q r s t u v w x=>lI .i64 d ⟨f.size,0,none⟩ λy=>cf 115 #[.agg #[b,j,k,l,m,n,o,p,q,r,s,t,u,v,w,x],.int .i64 y] d λb j=>asAgg b λb=>We5 b 2 (de2 b λb k=>Wq0 Tryz.prog #[44,44] 44 #[.slice a g i,.slice (some ⟨j.size,0,none⟩) 1 1] (Array.push j (.cells #[b,k] 90)) λa b=>Wb2 a λa g i=>asInt .i64 e λj=>(I61 [.slice a g i,.int .i64 (IntKind.wrap .i64 (j+1))] b)∧((m62 [.slice a g i,.int .i64 (IntKind.wrap .i64 (j+1))] b) < (m62 [c,e] f)))) (asInt .i64 e λa=>(I61 [c,.int .i64 (IntKind.wrap .i64 (a+1))] d)∧((m62 [c,.int .i64 (IntKind.wrap .i64 (a+1))] d) < (m62 [c,e] f))))) (Wb2 c λa b c=>K (.slice a b c) f))))))
theorem call58 {K:Value→Wa1→Prop} {h:Wa1} {xa:Option Addr} (H:F58 K h xa):Wa5 Tryz.prog 58 #[(.pointer xa)] h K:=
 Wa4 Tryz.func58 (by kernel_rfl) (Eq.mp (by kernel_rfl) H)
abbrev g112 (K:Value→Wa1→Prop) (h H1:Wa1) (xa:Option Addr):Prop:=
 (exI λI0=>(ifB (Option.isNone xa) (I0 [.bool true] H1) (cf 79 #[.pointer xa] H1 λa b=>asAgg a λa=>We5 a 15 (Wu0 a λa c d e f g i j k l m n o p q=>cf 80 #[.agg #[a,c,d,e,f,g,i,j,k,l,m,n,o,p,q]] b λa b=>asAgg a λa=>We5 a 7 (de7 a λa c c c c c c=>asInt .i64 a λa=>I0 [.bool (a == 0)] b))))∧(∀(a:Value) (b:Env) (b:Wa1),(I0 [a] b)→(asBool a λa=>ifB a (YM2 b h.size (.int .i64 0) (.int .i64 0) (.int .i64 0) (.int .i64 0) (.int .i64 0) (.int .i64 0) (.int .i64 0) (.int .i64 0) (.int .i64 0) (.int .i64 0) (.int .i64 0) (.int .i64 0) (.int .i64 0) (.int .i64 0) (.int .i64 0) (.slice none 0 0) λa=>WP8 a h.size λc d e f g i j k l m n o p q r s=>K (.tuple #[.agg #[c,d,e,f,g,i,j,k,l,m,n,o,p,q,r,s],.bool false]) a) (cf 79 #[.pointer xa] b λa b=>asAgg a λa=>We5 a 15 (Wu0 a λa c d e f g i j k l m n o p q=>cf 81 #[.pointer xa] b λb r=>Wd0 b λb=>cf 82 #[.pointer b] r λb r=>Wb2 b λb s t=>YM2 r h.size a c d e f g i j k l m n o p q (.slice b s t) λa=>WP8 a h.size λb c d e f g i j k l m n o p q r=>K (.tuple #[.agg #[b,c,d,e,f,g,i,j,k,l,m,n,o,p,q,r],.bool true]) a)))))
def F112 (K:Value→Wa1→Prop) (h:Wa1) (xa:Option Addr):Prop:=
 (g112 K h (Array.push h (.cells #[.int .i64 0,.int .i64 0,.int .i64 0,.int .i64 0,.int .i64 0,.int .i64 0,.int .i64 0,.int .i64 0,.int .i64 0,.int .i64 0,.int .i64 0,.int .i64 0,.int .i64 0,.int .i64 0,.int .i64 0,.slice none 0 0] 186)) xa)
theorem call112 {K:Value→Wa1→Prop} {h:Wa1} {xa:Option Addr} (H:F112 K h xa):Wa5 Tryz.prog 112 #[(.pointer xa)] h K:=
 Wa4 Tryz.func112 (by kernel_rfl) (Eq.mp (by kernel_rfl) H)
def F60 (K:Value→Wa1→Prop) (h:Wa1) (xa:Option Addr) (xb xc:Nat) (xd:Value):Prop:=
 (cf 87 #[.int .u64 (IntKind.wrap .u64 ((xb:Nat):Int))] h λa b=>asInt .i64 a λa=>cf 116 #[.slice xa xb xc,.int .i64 0,.int .i64 ((xb:Nat):Int),.int .i64 a,xd] b λa a=>K (.tuple #[]) a)
theorem call60 {K:Value→Wa1→Prop} {h:Wa1} {xa:Option Addr} {xb xc:Nat} {xd:Value} (H:F60 K h xa xb xc xd):Wa5 Tryz.prog 60 #[(.slice xa xb xc),xd] h K:=
 Wa4 Tryz.func60 (by kernel_rfl) (Eq.mp (by kernel_rfl) H)
def F116 (K:Value→Wa1→Prop) (h:Wa1) (xa:Option Addr) (xb xc:Nat) (xd xe xf:Int) (xg:Value):Prop:=
 (exI λI0=>exM λm1=>(I0 [.int .i64 xd,.int .i64 xe,.int .i64 xf,.bool true,.bool true,.tuple #[],.tuple #[],.tuple #[],.tuple #[],.tuple #[],.tuple #[],.tuple #[],.tuple #[],.tuple #[],.tuple #[],.tuple #[]] h)∧(∀(a b c d e f g i j k l m n o p q:Value) (r:Env) (r:Wa1),(I0 [a,b,c,d,e,f,g,i,j,k,l,m,n,o,p,q] r)→(asInt .i64 b λs=>asInt .i64 a λt=>ifB (decide ((IntKind.wrap .i64 (s - t))≤12)) (asInt .i64 a λu=>asInt .i64 b λv=>cf 170 #[.slice xa xb xc,.int .i64 u,.int .i64 v,xg] r λu u=>K (.tuple #[]) u) (asInt .i64 c λu=>ifB (u == 0) (asInt .i64 a λu=>asInt .i64 b λv=>cf 171 #[.slice xa xb xc,.int .i64 u,.int .i64 v,xg] r λu u=>K (.tuple #[]) u) (exI λI31=>(asBool d λu=>ifB (!u) (asInt .i64 a λu=>asInt .i64 b λv=>cf 172 #[.slice xa xb xc,.int .i64 u,.int .i64 v,xg] r λu u=>asInt .i64 c λv=>I31 [.int .i64 (IntKind.wrap .i64 (v - 1))] u) (I31 [c] r))∧(∀(u:Value) (v:Env) (v:Wa1),(I31 [u] v)→(asInt .i64 a λw=>asInt .i64 b λx=>cf 173 #[.slice xa xb xc,.int .i64 w,.int .i64 x,xg] v λv w=>We3 v λx=>Wb7 x 0 λx=>asInt .i64 x λx=>We3 v λy=>Wb7 y 1 λy=>asInt .i64 y λy=>exI λI51=>(ifB (y == 2) (asInt .i64 a λz=>asInt .i64 b λA=>cf 174 #[.slice xa xb xc,.int .i64 z,.int .i64 A,xg] w λz z=>asInt .i64 b λA=>asInt .i64 a λB=>I51 [.int .i64 (IntKind.wrap .i64 ((IntKind.wrap .i64 (A - 1)) - (IntKind.wrap .i64 (x - B)))),.int .i64 1] z) (I51 [.int .i64 x,.int .i64 y] w))∧(∀(w x:Value) (y:Env) (y:Wa1),(I51 [w,x] y)→(exI λI62=>(exI λI63=>(asBool d λz=>ifB z (asBool e λz=>ifB z (asInt .i64 x λA=>I63 [.bool z,.bool (A == 1)] y) (I63 [.bool z,.bool false] y)) (I63 [.bool false,.bool false] y))∧(∀(y z:Value) (A:Env) (A:Wa1),(I63 [y,z] A)→(asBool z λy=>ifB y (asInt .i64 a λy=>asInt .i64 b λz=>cf 175 #[.slice xa xb xc,.int .i64 y,.int .i64 z,xg] A λy z=>asBool y λy=>ifB y (K (.tuple #[]) z) (I62 [] z)) (I62 [] A))))∧(∀(y:Env) (y:Wa1),(I62 [] y)→(exI λI79=>(asInt .i64 a λz=>ifB (decide (z > 0)) (asInt .i64 a λz=>((0:Int)≤(IntKind.wrap .i64 (z - 1)))∧((((IntKind.wrap .i64 (z - 1)):Int) < ((xb:Nat):Int))∧(Wd4 (.pointer xa) λA=>ldH y (Addr.add A ((IntKind.wrap .i64 (z - 1)).toNat*2)) λB=>ldH y (Addr.add (Addr.add A ((IntKind.wrap .i64 (z - 1)).toNat*2)) 1) λz=>asInt .i64 w λA=>bd A ((xb:Nat):Int) (Wd4 (.pointer xa) λC=>ldH y (Addr.add C (A.toNat*2)) λD=>ldH y (Addr.add (Addr.add C (A.toNat*2)) 1) λA=>Wn2 Tryz.prog xg #[.agg #[B,z],.agg #[D,A]] y λz A=>asInt .i64 z λz=>I79 [.bool (!(decide (z < 0)))] A)))) (I79 [.bool false] y))∧(∀(y:Value) (z:Env) (z:Wa1),(I79 [y] z)→(asBool y λy=>ifB y (asInt .i64 a λy=>asInt .i64 b λA=>asInt .i64 w λB=>cf 176 #[.slice xa xb xc,.int .i64 y,.int .i64 A,.int .i64 B,xg] z λy A=>asInt .i64 y λy=>(I0 [.int .i64 y,b,u,d,e,.int .i64 (IntKind.wrap .i64 (s - t)),w,x,.int .i64 y,k,l,m,n,o,v,q] A)∧((m1 [.int .i64 y,b,u,d,e,.int .i64 (IntKind.wrap .i64 (s - t)),w,x,.int .i64 y,k,l,m,n,o,v,q] A) < (m1 [a,b,c,d,e,f,g,i,j,k,l,m,n,o,p,q] r))) (asInt .i64 a λy=>asInt .i64 b λA=>asInt .i64 w λB=>cf 177 #[.slice xa xb xc,.int .i64 y,.int .i64 A,.int .i64 B,xg] z λy z=>We3 y λA=>Wb7 A 0 λA=>asInt .i64 A λA=>We3 y λB=>Wb7 B 1 λB=>asBool B λB=>asInt .i64 a λC=>asInt .i64 b λD=>((8:Int)≠0)∧(ifB (decide ((IntKind.wrap .i64 (A - C)) < (IntKind.wrap .i64 (D - A)))) (asInt .i64 a λE=>asInt .i64 u λF=>cf 116 #[.slice xa xb xc,.int .i64 E,.int .i64 A,.int .i64 F,xg] z λE E=>(I0 [.int .i64 (IntKind.wrap .i64 (A+1)),b,u,.bool (decide ((IntKind.wrap .i64 (A - C)) ≥ (IntKind.wrap .i64 (Int.tdiv (IntKind.wrap .i64 (s - t)) 8)))),.bool B,.int .i64 (IntKind.wrap .i64 (s - t)),w,x,j,.int .i64 A,.bool B,.int .i64 (IntKind.wrap .i64 (A - C)),.int .i64 (IntKind.wrap .i64 (D - A)),.int .i64 (IntKind.wrap .i64 (Int.tdiv (IntKind.wrap .i64 (s - t)) 8)),v,y] E)∧((m1 [.int .i64 (IntKind.wrap .i64 (A+1)),b,u,.bool (decide ((IntKind.wrap .i64 (A - C)) ≥ (IntKind.wrap .i64 (Int.tdiv (IntKind.wrap .i64 (s - t)) 8)))),.bool B,.int .i64 (IntKind.wrap .i64 (s - t)),w,x,j,.int .i64 A,.bool B,.int .i64 (IntKind.wrap .i64 (A - C)),.int .i64 (IntKind.wrap .i64 (D - A)),.int .i64 (IntKind.wrap .i64 (Int.tdiv (IntKind.wrap .i64 (s - t)) 8)),v,y] E) < (m1 [a,b,c,d,e,f,g,i,j,k,l,m,n,o,p,q] r))) (asInt .i64 b λE=>asInt .i64 u λF=>cf 116 #[.slice xa xb xc,.int .i64 (IntKind.wrap .i64 (A+1)),.int .i64 E,.int .i64 F,xg] z λz z=>(I0 [a,.int .i64 A,u,.bool (decide ((IntKind.wrap .i64 (D - A)) ≥ (IntKind.wrap .i64 (Int.tdiv (IntKind.wrap .i64 (s - t)) 8)))),.bool B,.int .i64 (IntKind.wrap .i64 (s - t)),w,x,j,.int .i64 A,.bool B,.int .i64 (IntKind.wrap .i64 (A - C)),.int .i64 (IntKind.wrap .i64 (D - A)),.int .i64 (IntKind.wrap .i64 (Int.tdiv (IntKind.wrap .i64 (s - t)) 8)),v,y] z)∧((m1 [a,.int .i64 A,u,.bool (decide ((IntKind.wrap .i64 (D - A)) ≥ (IntKind.wrap .i64 (Int.tdiv (IntKind.wrap .i64 (s - t)) 8)))),.bool B,.int .i64 (IntKind.wrap .i64 (s - t)),w,x,j,.int .i64 A,.bool B,.int .i64 (IntKind.wrap .i64 (A - C)),.int .i64 (IntKind.wrap .i64 (D - A)),.int .i64 (IntKind.wrap .i64 (Int.tdiv (IntKind.wrap .i64 (s - t)) 8)),v,y] z) < (m1 [a,b,c,d,e,f,g,i,j,k,l,m,n,o,p,q] r))))))))))))))))))
theorem call116 {K:Value→Wa1→Prop} {h:Wa1} {xa:Option Addr} {xb xc:Nat} {xd xe xf:Int} {xg:Value} (H:F116 K h xa xb xc xd xe xf xg):Wa5 Tryz.prog 116 #[(.slice xa xb xc),(.int .i64 xd),(.int .i64 xe),(.int .i64 xf),xg] h K:=
 Wa4 Tryz.func116 (by kernel_rfl) (Eq.mp (by kernel_rfl) H)
def F170 (K:Value→Wa1→Prop) (h:Wa1) (xa:Option Addr) (xb xc:Nat) (xd xe:Int) (xf:Value):Prop:=
 (exI λI0=>exM λm1=>(I0 [.int .i64 (IntKind.wrap .i64 (xd+1)),.tuple #[]] h)∧(∀(a b:Value) (c:Env) (c:Wa1),(I0 [a,b] c)→(asInt .i64 a λd=>ifB (decide (d < xe)) (asInt .i64 a λd=>exI λI8=>exM λm9=>(I8 [.int .i64 d] c)∧(∀(d:Value) (e:Env) (e:Wa1),(I8 [d] e)→(exI λI13=>(asInt .i64 d λf=>ifB (decide (f > xd)) (asInt .i64 d λf=>bd f ((xb:Nat):Int) (Wd4 (.pointer xa) λg=>ldH e (Addr.add g (f.toNat*2)) λi=>ldH e (Addr.add (Addr.add g (f.toNat*2)) 1) λf=>asInt .i64 d λg=>((0:Int)≤(IntKind.wrap .i64 (g - 1)))∧((((IntKind.wrap .i64 (g - 1)):Int) < ((xb:Nat):Int))∧(Wd4 (.pointer xa) λj=>ldH e (Addr.add j ((IntKind.wrap .i64 (g - 1)).toNat*2)) λk=>ldH e (Addr.add (Addr.add j ((IntKind.wrap .i64 (g - 1)).toNat*2)) 1) λg=>Wn2 Tryz.prog xf #[.agg #[i,f],.agg #[k,g]] e λf g=>asInt .i64 f λf=>I13 [.bool (decide (f < 0))] g)))) (I13 [.bool false] e))∧(∀(f:Value) (g:Env) (g:Wa1),(I13 [f] g)→(asBool f λf=>ifB f (asInt .i64 d λf=>asInt .i64 d λi=>asInt .i64 d λj=>((0:Int)≤(IntKind.wrap .i64 (j - 1)))∧((((IntKind.wrap .i64 (j - 1)):Int) < ((xb:Nat):Int))∧(Wd4 (.pointer xa) λk=>ldH g (Addr.add k ((IntKind.wrap .i64 (j - 1)).toNat*2)) λl=>ldH g (Addr.add (Addr.add k ((IntKind.wrap .i64 (j - 1)).toNat*2)) 1) λj=>asInt .i64 d λk=>bd k ((xb:Nat):Int) (Wd4 (.pointer xa) λm=>ldH g (Addr.add m (k.toNat*2)) λn=>ldH g (Addr.add (Addr.add m (k.toNat*2)) 1) λk=>bd f ((xb:Nat):Int) (Wd4 (.pointer xa) λm=>stH g (Addr.add m (f.toNat*2)) l λl=>stH l (Addr.add (Addr.add m (f.toNat*2)) 1) j λf=>((0:Int)≤(IntKind.wrap .i64 (i - 1)))∧((((IntKind.wrap .i64 (i - 1)):Int) < ((xb:Nat):Int))∧(Wd4 (.pointer xa) λj=>stH f (Addr.add j ((IntKind.wrap .i64 (i - 1)).toNat*2)) n λf=>stH f (Addr.add (Addr.add j ((IntKind.wrap .i64 (i - 1)).toNat*2)) 1) k λf=>asInt .i64 d λi=>(I8 [.int .i64 (IntKind.wrap .i64 (i - 1))] f)∧((m9 [.int .i64 (IntKind.wrap .i64 (i - 1))] f) < (m9 [d] e))))))))) (asInt .i64 a λe=>(I0 [.int .i64 (IntKind.wrap .i64 (e+1)),d] g)∧((m1 [.int .i64 (IntKind.wrap .i64 (e+1)),d] g) < (m1 [a,b] c)))))))) (K (.tuple #[]) c))))
theorem call170 {K:Value→Wa1→Prop} {h:Wa1} {xa:Option Addr} {xb xc:Nat} {xd xe:Int} {xf:Value} (H:F170 K h xa xb xc xd xe xf):Wa5 Tryz.prog 170 #[(.slice xa xb xc),(.int .i64 xd),(.int .i64 xe),xf] h K:=
 Wa4 Tryz.func170 (by kernel_rfl) (Eq.mp (by kernel_rfl) H)
def F38 (K:Value→Wa1→Prop) (h:Wa1) (xa:Option Addr):Prop:=
 (ifB (Option.isNone xa) (K (.pointer none) h) (nP xa λa=>lP h (Addr.add a 16) λa=>K (.pointer a) h))
theorem call38 {K:Value→Wa1→Prop} {h:Wa1} {xa:Option Addr} (H:F38 K h xa):Wa5 Tryz.prog 38 #[(.pointer xa)] h K:=
 Wa4 Tryz.func38 (by kernel_rfl) (Eq.mp (by kernel_rfl) H)
def F66 (K:Value→Wa1→Prop) (h:Wa1) (xa:Option Addr) (xb:Int):Prop:=
 (ifB (Option.isNone xa) (K (.int .i64 0) h) (nP xa λa=>lS h a λa b c=>exI λI5=>exM λm6=>(I5 [.int .i64 0,.tuple #[],.int .i64 0] h)∧(∀(c d e:Value) (f:Env) (f:Wa1),(I5 [c,d,e] f)→(asInt .i64 e λg=>ifB (decide (g < (b:Int))) (asI e λg=>bd g (b:Int) (Wd4 (.pointer a) λa=>lI .i64 f (Addr.add a (g.toNat*1)) λa=>ifB (a == xb) (asInt .i64 c λb=>asInt .i64 e λg=>(I5 [.int .i64 (IntKind.wrap .i64 (b+1)),.int .i64 a,.int .i64 (IntKind.wrap .i64 (g+1))] f)∧((m6 [.int .i64 (IntKind.wrap .i64 (b+1)),.int .i64 a,.int .i64 (IntKind.wrap .i64 (g+1))] f) < (m6 [c,d,e] f))) (asInt .i64 e λb=>(I5 [c,.int .i64 a,.int .i64 (IntKind.wrap .i64 (b+1))] f)∧((m6 [c,.int .i64 a,.int .i64 (IntKind.wrap .i64 (b+1))] f) < (m6 [c,d,e] f))))) (asInt .i64 c λa=>K (.int .i64 a) f)))))
theorem call66 {K:Value→Wa1→Prop} {h:Wa1} {xa:Option Addr} {xb:Int} (H:F66 K h xa xb):Wa5 Tryz.prog 66 #[(.pointer xa),(.int .i64 xb)] h K:=
 Wa4 Tryz.func66 (by kernel_rfl) (Eq.mp (by kernel_rfl) H)
end
section
open Mod
abbrev qC (M f:Nat) (ins:Int):List Value:=[mP M,.func (.func f) #[] #[],.int .i64 ins]
def suS (Q M f:Nat) (ins:Int) (Ts:List Nat) (m:Mac):Hp:=pt Q (.cells (qC M f ins).toArray 131)*Wu3 M Ts m
theorem Ws6 {h:Wa1} {Q M f:Nat} {ins:Int} {Ts:List Nat} {m:Mac} {R:Hp}:Sat h (suS Q M f ins Ts m*R)↔Sat h (pt Q (.cells (qC M f ins).toArray 131)*(Wu3 M Ts m*R)):=by
 unfold suS
 rw [Wc7]
theorem Wg6 {h:Wa1} {Q M f:Nat} {ins:Int} {Ts:List Nat} {m:Mac} {R:Hp}:Sat h (suS Q M f ins Ts m*R)↔Sat h (Wu3 M Ts m*(pt Q (.cells (qC M f ins).toArray 131)*R)):=by
 rw [Ws6,Wb4]
def YF7 (c:Cl):Bool:=c.op == 0 || ((c.op == 1 || c.op == 2) && (c.key == 0 && c.val == 0))
def Ys0 (d:Run→Run) (k:Int):Nat→Mac→Option Mac
 | 0,_=>none
 | n+1,m=>match m.step k d 40 with
  | none=>none
  | some (true,m)=>Ys0 d k n m
  | some (false,m)=>some m
theorem WI9 {h:Wa1} {M:Nat} {Ts:List Nat} {m:Mac} {R:Hp} (H:Sat h (Wu3 M Ts m*R)):Ts.length=m.th.length:=by
 obtain ⟨_,_,hl,_⟩:=Wf7.1 H
 exact hl.1
section
variable {K:Value→Wa1→Prop} {h:Wa1} {Q M f:Nat} {ins:Int} {Ts:List Nat} {m:Mac} {R:Hp}
theorem Wq9 (H:Sat h (suS Q M f ins Ts m*R)) (k:K (mP M) h):Wa5 Tryz.prog 59 #[mP Q] h K:=by
 refine call59 ?_
 unfold F59 lP nP
 have H1:=Ws6.1 H
 refine Wc3 (λhh=>by cases hh) (λ_=>?_)
 try simp only [Wa7,bsx,Nat.reduceAdd,Int.reduceLE,Int.reduceLT,Int.reduceToNat]
 refine ldR H1.at rfl ?_
 try simp only [Wa7,bsx,Nat.reduceAdd,Int.reduceLE,Int.reduceLT,Int.reduceToNat]
 exact k
theorem Ys1 (k:K (.pointer none) h):Wa5 Tryz.prog 59 #[.pointer none] h K:=by
 refine call59 ?_
 unfold F59 lP nP
 exact Wc3 (λ_=>k) (λhh=>by cases hh)
theorem Wi2 (H:Sat h (suS Q M f ins Ts m*R)) {i:Int} (k0:(i < 0∨m.th.length≤i)→K (.pointer none) h) (k:∀T,0≤i→Ts[i.toNat]? = some T→K (mP T) h) :
  Wa5 Tryz.prog 70 #[mP Q,.int .i64 i] h K:=by
 refine call70 ?_
 unfold F70 cf
 refine Wa0 (Wq9 H ?_)
 try simp only [Wa7,bsx,Nat.reduceAdd,Int.reduceLE,Int.reduceLT,Int.reduceToNat]
 refine Wa0 (WI1 (Wg6.1 H) (λc=>?_) λT h0 hT=>?_)
 ·try simp only [Wa7,bsx,Nat.reduceAdd,Int.reduceLE,Int.reduceLT,Int.reduceToNat]
  exact k0 c
 ·try simp only [Wa7,bsx,Nat.reduceAdd,Int.reduceLE,Int.reduceLT,Int.reduceToNat]
  exact k T h0 hT
theorem Ww5 (H:Sat h (suS Q M f ins Ts m*R)) (k:∀h',Old h.size h h'→K (.int .i64 m.p.c.threads) h'):Wa5 Tryz.prog 119 #[mP Q] h K:=by
 refine call119 ?_
 unfold F119 cf de7 Wu0
 refine Wa0 (Wq9 H ?_)
 try simp only [Wa7,bsx,Nat.reduceAdd,Int.reduceLE,Int.reduceLT,Int.reduceToNat]
 obtain ⟨a,c,hl,H1⟩:=Wf7.1 (Wg6.1 H)
 refine Wa0 (Wk1 H1 λh1 o1=>WR4 ?_)
 refine Wa0 (Wh0 λh2 o2=>cf7 ?_)
 try simp only [Wa7,bsx,Nat.reduceAdd,Int.reduceLE,Int.reduceLT,Int.reduceToNat]
 exact k h2 (o1.trans (o2.mono o1.1))
theorem Yh0 (H:Sat h (suS Q M f ins Ts m*R)) {k T:Nat} (hk:Ts[k]? = some T) (hlt:k < m.th.length) {F:Value→Wa1→Prop} (k0:(Wc9 m k).fr = []→F (.pointer none) h) (k1:∀b o,(Wc9 m k).fr≠[]→F (.pointer (some ⟨b,o,none⟩)) h) :
  Wa5 Tryz.prog 120 #[mP T] h F:=by
 obtain ⟨tv,Q2,H2,re2⟩:=Wq6 (Wg6.1 H) hk (Wk2 hlt)
 exact YP2 H2 (λe=>k0 e) λb o hne _ _=>k1 b o hne
theorem Ws7 (H:Sat h (suS Q M f ins Ts m*R)) {i:Nat} (hi:i < m.th.length) (k:K (.bool (!(Wc9 m i).fr.isEmpty)) h):Wa5 Tryz.prog 72 #[mP Q,.int .i64 i] h K:=by
 refine call72 ?_
 unfold F72 cf
 refine Wa0 (Wi2 H (λc=>by omega) λT _ hT=>?_)
 try simp only [Wa7,bsx,Nat.reduceAdd,Int.reduceLE,Int.reduceLT,Int.reduceToNat]
 rw [Int.toNat_natCast] at hT
 refine Wa0 (Yh0 H hT hi (λe=>?_) λb o hne=>?_)
 ·try simp only [Wa7,bsx,Nat.reduceAdd,Int.reduceLE,Int.reduceLT,Int.reduceToNat]
  rw [e] at k
  exact k
 ·try simp only [Wa7,bsx,Nat.reduceAdd,Int.reduceLE,Int.reduceLT,Int.reduceToNat]
  cases e:(Wc9 m i).fr with
  | nil=>exact absurd e hne
  | cons a l=>rw [e] at k;exact k
theorem WY3 {c:Cl} (k:∀h',Old h.size h h'→K (.bool (YF7 c)) h'):Wa5 Tryz.prog 71 #[.agg #[.int .i64 c.op,.int .u32 c.key,.int .u32 c.val]] h K:=by
 refine WK2 (c:=⟨c.op,c.key,c.val⟩) λh' o=>?_
 exact k h' o
theorem WJ0 (H:Sat h (suS Q M f ins Ts m*R)) {k T:Nat} {op:Int} {c:Cl} (hk:Ts[k]? = some T) (hk2:k < m.th.length) (he:(Wc9 m k).fr = []) (hc:U c.key) (hv:U c.val) {F:Value→Wa1→Prop}
  (kk:∀h',Sat h' (suS Q M f ins Ts (m.setTh (m.th.set k ((Wc9 m k).push op [c.key,c.val])))*R)→F (.tuple #[]) h') :
  Wa5 Tryz.prog 73 #[mP T,.int .i64 op,.slice (some ⟨h.size,0,none⟩) 2 2] (h.push (.cells #[.int .u64 c.key,.int .u64 c.val] 70)) F:=by
 obtain ⟨tv,Q2,H2,re2⟩:=Wq6 (Wg6.1 H) hk (Wk2 hk2)
 exact Yp1 H2 [c.key,c.val] rfl (Yr6 hc hv) (by omega) (by show (Wc9 m k).fr.length < _;rw [he];decide) λh' b o _ _ H3=>kk h' (Wg6.2 (re2 _ _ _ rfl (RunS.none H3)))
theorem WC6 (H:Sat h (suS Q M f ins Ts m*R)) {i:Int} {c:Cl} (hins:0≤ins∧ins≤100) (hc:V c.key∧V c.val)
  (k2:(i < 0∨m.th.length≤i)→∀h',Sat h' (suS Q M f ins Ts m*R)→K (.int .i64 2) h')
  (k1:0≤i∧i < m.th.length→YF7 c=false→∀h',Sat h' (suS Q M f ins Ts m*R)→K (.int .i64 1) h')
  (k5:0≤i∧i < m.th.length→YF7 c=true→(Wc9 m i.toNat).fr≠[]→∀h',Sat h' (suS Q M f ins Ts m*R)→K (.int .i64 5) h')
  (k0:0≤i∧i < m.th.length→YF7 c=true→(Wc9 m i.toNat).fr = []→∀h',Sat h' (suS Q M f ins Ts (m.setTh (m.th.set i.toNat ((Wc9 m i.toNat).push (ins+c.op) [c.key,c.val])))*R)→K (.int .i64 0) h') :
  Wa5 Tryz.prog 24 #[mP Q,.int .i64 i,.agg #[.int .i64 c.op,.int .u32 c.key,.int .u32 c.val]] h K:=by
 refine call24 ?_
 unfold F24 g24 cf ce nP dl3
 have H1:=H.push (.cells (clc c).toArray 54)
 rw [show h.push (.cells #[.int .i64 c.op,.int .u32 c.key,.int .u32 c.val] 54)=h.push (.cells (clc c).toArray 54) from rfl]
 generalize h.push (.cells (clc c).toArray 54)=h1 at *
 generalize h.size=CB at *
 rw [Wb4] at H1
 refine Wc3 (λhh=>by cases hh) (λ_=>?_)
 refine Wa0 (Wi2 H1 (λcc=>?_) λT h0 hT=>?_)
 ·try simp only [Wa7,bsx,Nat.reduceAdd,Int.reduceLE,Int.reduceLT,Int.reduceToNat]
  exact k2 cc h1 H1.drop2
 try simp only [Wa7,bsx,Nat.reduceAdd,Int.reduceLE,Int.reduceLT,Int.reduceToNat]
 have hT':=hT
 have hlen:=WI9 (Wg6.1 H)
 have hlt:i.toNat < m.th.length:=by rw [← hlen];exact (List.getElem?_eq_some_iff.1 hT).1
 have hir:0≤i∧i < m.th.length:=by omega
 have O:=H1.at2
 refine ldR O rfl (ldR O rfl (ldR O rfl ?_))
 refine Wa0 (WY3 λh2 o2=>?_)
 have H2:=H1.old o2
 clear H1 O
 try simp only [Wa7,bsx,Nat.reduceAdd,Int.reduceLE,Int.reduceLT,Int.reduceToNat]
 refine Wc3 (λhr=>k1 hir (by simpa using hr) h2 H2.drop2) (λhr=>?_)
 have hr:YF7 c=true:=by simpa using hr
 obtain ⟨ii,hii⟩ : ∃ii:Nat,i=ii:=⟨i.toNat,by omega⟩
 subst hii
 rw [Int.toNat_natCast] at *
 refine Wa0 (Ws7 H2 hlt ?_)
 try simp only [Wa7,bsx,Nat.reduceAdd,Int.reduceLE,Int.reduceLT,Int.reduceToNat]
 refine Wc3 (λhb=>k5 hir hr (λe=>by rw [e] at hb;cases hb) h2 H2.drop2) (λhb=>?_)
 have he:(Wc9 m ii).fr = []:=by
  cases e:(Wc9 m ii).fr with
  | nil=>rfl
  | cons a l=>rw [e] at hb;cases hb
 have hop:0≤c.op∧c.op≤2:=by
  unfold YF7 at hr
  simp only [Bool.or_eq_true,Bool.and_eq_true,beq_iff_eq] at hr
  omega
 obtain ⟨hkey,hval⟩:=hc
 have hu1:Mod.u64 c.key=c.key:=by have:=hkey.1;have:=hkey.2;unfold Mod.u64;omega
 have hu2:Mod.u64 c.val=c.val:=by have:=hval.1;have:=hval.2;unfold Mod.u64;omega
 have hu3:s64 (ins+c.op)=ins+c.op:=by unfold s64;omega
 have OQ:=(Ws6.1 H2).at
 have OC:=H2.at2
 refine ldR OQ rfl ?_
 try simp only [Wa7,bsx,Nat.reduceAdd,Int.reduceLE,Int.reduceLT,Int.reduceToNat]
 refine ldR OC rfl ?_
 try simp only [Wa7,bsx,Nat.reduceAdd,Int.reduceLE,Int.reduceLT,Int.reduceToNat]
 refine ldR OC rfl ?_
 try simp only [Wa7,bsx,Nat.reduceAdd,Int.reduceLE,Int.reduceLT,Int.reduceToNat]
 refine ldR OC rfl ?_
 try simp only [Wa7,bsx,Nat.reduceAdd,Int.reduceLE,Int.reduceLT,Int.reduceToNat,hu1,hu2,hu3]
 refine ⟨?_,?_⟩
 ·refine Wa0 (Wi2 H2 (λcc=>by omega) λT2 _ hT2=>?_)
  rw [Int.toNat_natCast,hT] at hT2
  cases hT2
  try simp only [Wa7,bsx,Nat.reduceAdd,Int.reduceLE,Int.reduceLT,Int.reduceToNat]
  repeat (first | refine ⟨Wc6 (Wd3 OC rfl),?_⟩ | refine ⟨Wc6 (Wd3 OQ rfl),?_⟩ | refine ⟨Wd3 OC rfl,?_⟩ | refine ⟨Wd3 OQ rfl,?_⟩)
  refine Wa0 (WJ0 H2 hT hlt he ⟨hkey.1,by have:=hkey.2;omega⟩ ⟨hval.1,by have:=hval.2;omega⟩ λh3 H3=>?_)
  exact k0 hir hr he h3 H3.drop2
 ·repeat (first | refine ⟨Wc6 (Wd3 OC rfl),?_⟩ | refine ⟨Wc6 (Wd3 OQ rfl),?_⟩ | refine ⟨Wd3 OC rfl,?_⟩ | refine ⟨Wd3 OQ rfl,?_⟩)
  have H3:=H2.push (.cells (uvs [c.key,c.val]).toArray 70)
  rw [Wb4] at H3
  have OC3:=H3.at3
  have OQ3:=(Ws6.1 H3).at
  have e:h2.push (.cells #[.int .u64 c.key,.int .u64 c.val] 70)=h2.push (.cells (uvs [c.key,c.val]).toArray 70):=rfl
  rw [e]
  refine Wa0 (Wi2 H3 (λcc=>by omega) λT2 _ hT2=>?_)
  rw [Int.toNat_natCast,hT] at hT2
  cases hT2
  try simp only [Wa7,bsx,Nat.reduceAdd,Int.reduceLE,Int.reduceLT,Int.reduceToNat]
  rw [← e]
  repeat (first | refine ⟨Wc6 (Wd3 OC rfl),?_⟩ | refine ⟨Wc6 (Wd3 OQ rfl),?_⟩)
  refine Wa0 (WJ0 H2 hT hlt he ⟨hkey.1,by have:=hkey.2;omega⟩ ⟨hval.1,by have:=hval.2;omega⟩ λh3 H3=>?_)
  exact k0 hir hr he h3 H3.drop2
theorem WJ1 (H:Sat h (suS Q M f ins Ts m*R)) (ht:m.p.c.threads=m.th.length) (k:∀h',Sat h' (suS Q M f ins Ts m*R)→K (.bool (m.th.all λt=>t.fr.isEmpty)) h'):Wa5 Tryz.prog 111 #[mP Q] h K:=by
 refine call111 ?_
 unfold F111 cf
 refine Wa0 (Ww5 H λh1 o1=>?_)
 have H1:=H.old o1
 try simp only [Wa7,bsx,Nat.reduceAdd,Int.reduceLE,Int.reduceLT,Int.reduceToNat]
 rw [ht]
 have h6:m.th.length≤6:=by obtain ⟨_,_,hl,_⟩:=Wf7.1 (Wg6.1 H);exact hl.2
 refine ⟨λvs h'=>∃(u v:Value) (j:Nat),vs = [u,v,.int .i64 j]∧j≤m.th.length∧(m.th.take j).all (λt=>t.fr.isEmpty)=true∧Sat h' (suS Q M f ins Ts m*R),λvs _=>match vs with | [_,_,.int _ i]=>((m.th.length:Int) - i).toNat | _=>0,⟨_,_,0,rfl,Nat.zero_le _,rfl,H1⟩,?_⟩
 rintro v5 v6 v7 g8 h9 ⟨u,v,j,e,hj,hall,HJ⟩
 cases e
 try simp only [Wa7,bsx,Nat.reduceAdd,Int.reduceLE,Int.reduceLT,Int.reduceToNat]
 refine Wa6 (λc1=>?_) (λc1=>?_)
 ·have hj2:j < m.th.length:=by omega
  have et:Wc9 m j=m.th[j]:=by unfold Wc9;simp [hj2]
  refine Wa0 (Ws7 HJ hj2 ?_)
  try simp only [Wa7,bsx,Nat.reduceAdd,Int.reduceLE,Int.reduceLT,Int.reduceToNat]
  rw [et]
  refine Wc3 (λhb=>?_) (λhb=>?_)
  ·have e:(m.th.all λt=>t.fr.isEmpty)=false:=by
    apply Decidable.byContradiction
    intro hn
    rw [Bool.not_eq_false] at hn
    have:=List.all_eq_true.1 hn _ (List.getElem_mem hj2)
    rw [this] at hb;cases hb
   have kk:=k h9 HJ
   rw [e] at kk
   exact kk
  ·rw [Wv8 j (by omega)]
   refine ⟨⟨_,_,j+1,rfl,by omega,?_,HJ⟩,?_⟩
   ·rw [List.take_succ_eq_append_getElem hj2,List.all_append,hall,List.all_cons,List.all_nil]
    simpa using hb
   ·show ((m.th.length:Int) - ((j+1:Nat):Int)).toNat < ((m.th.length:Int) - (j:Int)).toNat
    omega
 ·rw [List.take_of_length_le (by omega)] at hall
  have kk:=k h9 HJ
  rw [hall] at kk
  exact kk
variable {d:Run→Run} {W:Run→Prop} {Inv:Nat→Mac→Prop}
theorem W52 (D:DoC f d W) (H:Sat h (suS Q M f ins Ts m*R)) {i n:Nat} {z:Run} (hi:i < m.th.length) (he:(Wc9 m i).fr≠[])
  (hz:Mod.bits d n ⟨m.quiet,Wc9 m i,i⟩=some z) (hs:YM4 d W n ⟨m.quiet,Wc9 m i,i⟩) (hid:z.id=i)
  (k1:z.t.fr≠[]→∀h',Sat h' (suS Q M f ins Ts (z.m.setTh (m.th.set i z.t))*R)→K (.tuple #[.agg #[.int .i64 0,.int .u32 0,.int .u32 0],.bool false]) h')
  (k0:z.t.fr = []→∀h',Sat h' (suS Q M f ins Ts (z.m.setTh (m.th.set i z.t))*R)→K (.tuple #[.agg #[.int .i64 (Wl8 z.t).op,.int .u32 (Wl8 z.t).key,.int .u32 (Wl8 z.t).val],.bool true]) h') :
  Wa5 Tryz.prog 159 #[mP Q,.int .i64 i] h K:=by
 refine call159 ?_
 unfold F159 cf bd lP lI nP dl3 dw3
 have H1:=H.push (.cells #[.int .i64 0,.int .u32 0,.int .u32 0] 81)
 generalize h.push (.cells #[.int .i64 0,.int .u32 0,.int .u32 0] 81)=h1 at *
 generalize h.size=AB at *
 have hlen:=WI9 (Wg6.1 H)
 obtain ⟨T,hT⟩ : ∃T,Ts[i]? = some T:=⟨_,List.getElem?_eq_getElem (by omega)⟩
 have hthr:Wc9 (z.m.setTh (m.th.set i z.t)) i=z.t:=Wz4 hi
 have hl2:(z.m.setTh (m.th.set i z.t)).th.length=m.th.length:=by show (m.th.set i z.t).length=_;rw [List.length_set]
 refine ⟨λvs h'=>vs = [.bool (!z.t.fr.isEmpty)]∧Sat h' (suS Q M f ins Ts (z.m.setTh (m.th.set i z.t))*(pt AB (.cells #[.int .i64 0,.int .u32 0,.int .u32 0] 81)*R)),?_,?_⟩
 ·rw [Wb4] at H1
  refine Wa0 (Ws7 H1 hi ?_)
  try simp only [Wa7,bsx,Nat.reduceAdd,Int.reduceLE,Int.reduceLT,Int.reduceToNat]
  refine Wc3 (λhb=>?_) (λ_=>?_)
  ·exact absurd (List.isEmpty_iff.1 (by simpa using hb)) he
  have OQ:=(Ws6.1 H1).at
  refine ldR OQ rfl ?_
  try simp only [Wa7,bsx,Nat.reduceAdd,Int.reduceLE,Int.reduceLT,Int.reduceToNat]
  refine ldR OQ rfl ?_
  refine Wa0 (WS0 D (Wg6.1 H1) (n:=n) (z:=z) (i:=i) (by omega) (by rw [Int.toNat_natCast];exact Wk2 hi) hz hs hid λh' H2=>?_)
  rw [Int.toNat_natCast] at H2
  try simp only [Wa7,bsx,Nat.reduceAdd,Int.reduceLE,Int.reduceLT,Int.reduceToNat]
  first | exact ⟨rfl,Wg6.2 H2⟩ | exact Wg6.2 H2
 generalize z.m.setTh (m.th.set i z.t)=m2 at *
 rintro v12 g13 h14 ⟨e,H2⟩
 cases e
 try simp only [Wa7,bsx,Nat.reduceAdd,Int.reduceLE,Int.reduceLT,Int.reduceToNat]
 refine Wc3 (λhb=>?_) (λhb=>?_)
 ·have hne:z.t.fr≠[]:=λe=>by rw [e] at hb;cases hb
  rw [Wb4] at H2
  refine Wd6 (vs:=[.int .i64 0,.int .u32 0,.int .u32 0]) H2.at rfl (by simp [Wi6]) λh2 w=>?_
  have H3:=H2.wr w.new w.old
  refine ldR H3.at rfl (ldR H3.at rfl (ldR H3.at rfl ?_))
  exact k1 hne h2 H3.drop
 ·have hnil:z.t.fr = []:=by
   cases e:z.t.fr with
   | nil=>rfl
   | cons a l=>rw [e] at hb;cases hb
  refine Wa0 (Wi2 H2 (λcc=>by omega) λT2 _ hT2=>?_)
  rw [Int.toNat_natCast,hT] at hT2
  cases hT2
  try simp only [Wa7,bsx,Nat.reduceAdd,Int.reduceLE,Int.reduceLT,Int.reduceToNat]
  obtain ⟨tv,Q2,H3,re⟩:=Wq6 (Wg6.1 H2) hT (Wk2 (by omega))
  rw [hthr] at H3
  obtain ⟨B,O⟩:=WR0 (RunS.thr H3)
  refine ldR O rfl (ldR O rfl (ldR O rfl ?_))
  have H4:=H2.push (.cells #[.int .u64 0,.int .u64 0,.int .u64 0] 106)
  generalize h14.push (.cells #[.int .u64 0,.int .u64 0,.int .u64 0] 106)=h15 at *
  generalize h14.size=RB at *
  refine Wd6 (vs:=[.int .u64 (z.t.ret.getD 0 0),.int .u64 (z.t.ret.getD 1 0),.int .u64 (z.t.ret.getD 2 0)]) H4.at rfl (by simp [Wi6]) λh16 w=>?_
  have H5:=H4.wr w.new w.old
  refine ldR H5.at rfl ?_
  try simp only [Wa7,bsx,Nat.reduceAdd,Int.reduceLE,Int.reduceLT,Int.reduceToNat]
  refine ldR H5.at rfl ?_
  try simp only [Wa7,bsx,Nat.reduceAdd,Int.reduceLE,Int.reduceLT,Int.reduceToNat]
  refine ldR H5.at rfl ?_
  try simp only [Wa7,bsx,Nat.reduceAdd,Int.reduceLE,Int.reduceLT,Int.reduceToNat,WM5]
  have H6:Sat h16 (pt AB (.cells #[.int .i64 0,.int .u32 0,.int .u32 0] 81)*(suS Q M f ins Ts m2*R)):=by
   have:=H5.drop
   rw [Wb4] at this
   exact this
  refine Wd6 (vs:=[.int .i64 (s64 (z.t.ret.getD 0 0)),.int .u32 (u32 (z.t.ret.getD 1 0)),.int .u32 (u32 (z.t.ret.getD 2 0))]) H6.at rfl (by simp [Wi6]) λh17 w2=>?_
  have H7:=H6.wr w2.new w2.old
  refine ldR H7.at rfl (ldR H7.at rfl (ldR H7.at rfl ?_))
  exact k0 hnil h17 H7.drop
end
end
end Go.Proofs.YtooaemmlgkdfoaaGreat
section
namespace Go.Proofs.YtooaemmlgkdfoaaGreat.Mod
inductive Lo:Run→Run→Prop
 | refl (x:Run):Lo x x
 | load {x y:Run} {a:Int} (h:Lo x y):Lo x (y.load a).2
 | store {x y:Run} {a v:Int} (h:Lo x y):Lo x (y.store a v)
 | cas {x y:Run} {a o v:Int} (h:Lo x y):Lo x (y.cas a o v).2
 | add {x y:Run} {a v:Int} (h:Lo x y):Lo x (y.add a v).2
 | swing {x y:Run} {a w p:Int} {b:Bool} (h:Lo x y):Lo x (y.swing a w p b).2
 | swingA {x y:Run} {a w p:Int} (h:Lo x y):Lo x (y.swingA a w p).2
 | swingM {x y:Run} {a w p:Int} {b:Bool} (h:Lo x y):Lo x (y.swingM a w p b).2
 | drop1 {x y:Run} {a:Int} (h:Lo x y):Lo x (y.drop1 a).2
 | guard {x y:Run} {a b:Int} (h:Lo x y):Lo x (y.guard a b)
 | gh {x y:Run} {f:Gh→Gh} (h:Lo x y):Lo x (y.gh f)
 | s {x y:Run} {i:Nat} {v:Int} (h:Lo x y):Lo x (y.s i v)
 | pc {x y:Run} {i:Int} (h:Lo x y):Lo x (y.pc i)
 | fo {x y:Run} {l:List Int} (h:Lo x y):Lo x (y.fo l)
 | re {x y:Run} {l:List Int} (h:Lo x y):Lo x (y.re l)
 | setPl {x y:Run} {p s w:List Int} (h:Lo x y):Lo x (y.setPl p s w)
 | next {x y:Run} {k:Int} (h:Lo x y):Lo x { y with m:=(y.m.next k).2 }
 | lvl {x y:Run} {k:Int} (h:Lo x y):Lo x { y with m:=(y.m.lvl k).2 }
 | dcas {x y:Run} {a o v b p q:Int} (h:Lo x y):Lo x { y with m:=(y.m.dcas a o v b p q).2 }
 | dcss {x y:Run} {a o v b p:Int} (h:Lo x y):Lo x { y with m:=(y.m.dcss a o v b p).2 }
inductive Tch:Run→Prop
 | load {y:Run} {a:Int}:Tch (y.load a).2
 | store {y:Run} {a v:Int}:Tch (y.store a v)
 | cas {y:Run} {a o v:Int}:Tch (y.cas a o v).2
 | add {y:Run} {a v:Int}:Tch (y.add a v).2
 | swing {y:Run} {a w p:Int} {b:Bool}:Tch (y.swing a w p b).2
 | swingA {y:Run} {a w p:Int}:Tch (y.swingA a w p).2
 | swingM {y:Run} {a w p:Int} {b:Bool}:Tch (y.swingM a w p b).2
 | drop1 {y:Run} {a:Int}:Tch (y.drop1 a).2
 | guard {y:Run} {a b:Int}:Tch (y.guard a b)
 | dcas {y:Run} {a o v b p q:Int}:Tch { y with m:=(y.m.dcas a o v b p q).2 }
 | dcss {y:Run} {a o v b p:Int}:Tch { y with m:=(y.m.dcss a o v b p).2 }
 | s {y:Run} {i:Nat} {v:Int} (h:Tch y):Tch (y.s i v)
 | pc {y:Run} {i:Int} (h:Tch y):Tch (y.pc i)
 | gh {y:Run} {f:Gh→Gh} (h:Tch y):Tch (y.gh f)
 | fo {y:Run} {l:List Int} (h:Tch y):Tch (y.fo l)
 | re {y:Run} {l:List Int} (h:Tch y):Tch (y.re l)
 | setPl {y:Run} {p s w:List Int} (h:Tch y):Tch (y.setPl p s w)
 | next {y:Run} {k:Int} (h:Tch y):Tch { y with m:=(y.m.next k).2 }
 | lvl {y:Run} {k:Int} (h:Tch y):Tch { y with m:=(y.m.lvl k).2 }
 | push {y:Run} {i:Int} {r:List Int} (h:Tch y):Tch (y.push i r)
 | pop {y:Run} {r:List Int} (h:Tch y):Tch (y.pop r)
 | call {y:Run} {i j:Int} {r:List Int} (h:Tch y):Tch (y.call i j r)
 | fin {y:Run} {i j k:Int} (h:Tch y):Tch (y.fin i j k)
inductive St:Nat→Run→Run→Prop
 | refl {n:Nat} (x:Run):St n x x
 | load {n:Nat} {x y:Run} {a:Int} (h:St n x y):St (n+1) x (y.load a).2
 | store {n:Nat} {x y:Run} {a v:Int} (h:St n x y):St (n+1) x (y.store a v)
 | cas {n:Nat} {x y:Run} {a o v:Int} (h:St n x y):St (n+1) x (y.cas a o v).2
 | add {n:Nat} {x y:Run} {a v:Int} (h:St n x y):St (n+1) x (y.add a v).2
 | dcas {n:Nat} {x y:Run} {a o v b p q:Int} (h:St n x y):St (n+1) x { y with m:=(y.m.dcas a o v b p q).2 }
 | dcss {n:Nat} {x y:Run} {a o v b p:Int} (h:St n x y):St (n+1) x { y with m:=(y.m.dcss a o v b p).2 }
 | next {n:Nat} {x y:Run} {k:Int} (h:St n x y):St (n+1) x { y with m:=(y.m.next k).2 }
 | lvl {n:Nat} {x y:Run} {k:Int} (h:St n x y):St (n+1) x { y with m:=(y.m.lvl k).2 }
 | gh {n:Nat} {x y:Run} {f:Gh→Gh} (h:St n x y):St n x (y.gh f)
 | s {n:Nat} {x y:Run} {i:Nat} {v:Int} (h:St n x y):St (n+1) x (y.s i v)
 | pc {n:Nat} {x y:Run} {i:Int} (h:St n x y):St (n+1) x (y.pc i)
 | push {n:Nat} {x y:Run} {i:Int} {r:List Int} (h:St n x y):St (n+1) x (y.push i r)
 | pop {n:Nat} {x y:Run} {r:List Int} (h:St n x y):St n x (y.pop r)
 | fo {n:Nat} {x y:Run} {l:List Int} (hl:l.length≤y.t.found.length+1) (h:St n x y):St (n+1) x (y.fo l)
 | re {n:Nat} {x y:Run} {l:List Int} (hl:l.length≤y.t.retired.length+1) (h:St n x y):St (n+1) x (y.re l)
 | part {n:Nat} {x y:Run} {p:Int→Bool} (h:St n x y):St (n+1) x ((y.re (y.t.retired.filter p)).fo (y.t.retired.filter λn=>!p n))
 | setPl {n:Nat} {x y:Run} {p s w:List Int} (h1:p.length=y.t.pred.length) (h2:s.length=y.t.succ.length) (h3:w.length=y.t.word.length) (h:St n x y):St n x (y.setPl p s w)
 | up {n k:Nat} {x y:Run} (h:St n x y):St (n+k) x y
section
variable {x y:Run} {n:Nat}
theorem St.swing {a w p:Int} {b:Bool} (h:St n x y):St (n+1) x (y.swing a w p b).2:=St.cas h
theorem St.swingA {a w p:Int} (h:St n x y):St (n+1) x (y.swingA a w p).2:=St.cas h
theorem St.swingM {a w p:Int} {b:Bool} (h:St n x y):St (n+1) x (y.swingM a w p b).2:=St.cas h
theorem St.drop1 {a:Int} (h:St n x y):St (n+1) x (y.drop1 a).2:=St.add h
theorem St.guard {a b:Int} (h:St n x y):St (n+1) x (y.guard a b):=St.store h
theorem St.call {i j:Int} {r:List Int} (h:St n x y):St (n+2) x (y.call i j r):=St.push (St.pc h)
theorem St.fin {i j k:Int} (h:St n x y):St (n+5) x (y.fin i j k):=St.call (St.s (St.s (St.s h)))
end
structure Fix (x y:Run):Prop where
 p:y.m.p=x.m.p
 id:y.id=x.id
 th:y.m.th=x.m.th
 b:y.m.b=x.m.b
 w:y.m.mm.w.length=x.m.mm.w.length
 pr:y.t.pred.length=x.t.pred.length
 su:y.t.succ.length=x.t.succ.length
 wo:y.t.word.length=x.t.word.length
structure FixM (m n:Mac):Prop where
 p:n.p=m.p
 th:n.th=m.th
 b:n.b=m.b
 w:n.mm.w.length=m.mm.w.length
 st:n.mm.st≤m.mm.st+1
 us:n.used≤m.used+1
theorem FixM.touch (m:Mac) (a:Int):FixM m (m.touch a)∧(m.touch a).mm=m.mm∧(m.touch a).used=m.used:=by
 unfold Mac.touch
 split <;> exact ⟨⟨rfl,rfl,rfl,rfl,by show m.mm.st≤_;omega,by show m.used≤_;omega⟩,rfl,rfl⟩
theorem FixM.of {m n k:Mac} (h:FixM m n) (hn:n.mm=m.mm∧n.used=m.used) (e:k.p=n.p∧k.th=n.th∧k.b=n.b∧k.used=n.used) (ew:k.mm.w.length=n.mm.w.length) (es:k.mm.st≤n.mm.st+1):FixM m k:=
 ⟨e.1.trans h.p,e.2.1.trans h.th,e.2.2.1.trans h.b,ew.trans h.w,by rw [← hn.1];exact es,by rw [e.2.2.2,hn.2];omega⟩
theorem FixM.load (m:Mac) (a:Int):FixM m (m.load a).2:=by
 have t:=FixM.touch m a
 unfold Mac.load;dsimp only
 split
 ·exact t.1.of t.2 ⟨rfl,rfl,rfl,rfl⟩ rfl (Int.le_refl _)
 ·exact t.1.of t.2 ⟨rfl,rfl,rfl,rfl⟩ rfl (by show (m.touch a).mm.st≤_;omega)
theorem FixM.store (m:Mac) (a v:Int):FixM m (m.store a v):=by
 have t:=FixM.touch m a
 unfold Mac.store;dsimp only
 split
 ·exact t.1.of t.2 ⟨rfl,rfl,rfl,rfl⟩ (by show (List.set _ _ _).length=_;rw [List.length_set];rfl) (Int.le_refl _)
 ·exact t.1.of t.2 ⟨rfl,rfl,rfl,rfl⟩ rfl (by show (m.touch a).mm.st≤_;omega)
theorem FixM.add (m:Mac) (a v:Int):FixM m (m.add a v).2:=by
 have t:=FixM.touch m a
 unfold Mac.add;dsimp only
 split
 ·exact t.1.of t.2 ⟨rfl,rfl,rfl,rfl⟩ (by show (List.set _ _ _).length=_;rw [List.length_set];rfl) (Int.le_refl _)
 ·exact t.1.of t.2 ⟨rfl,rfl,rfl,rfl⟩ rfl (by show (m.touch a).mm.st≤_;omega)
theorem YR1 (m:Mm) (a o n:Int):(m.cas a o n).st=m.st+1∧(m.cas a o n).w.length=m.w.length:=by unfold Mm.cas;split <;> exact ⟨rfl,by simp [Mm.tick,Mm.put]⟩
theorem YK5 (m:Mm) (a o n b p q:Int):(m.dcas a o n b p q).st=m.st+1∧(m.dcas a o n b p q).w.length=m.w.length:=by unfold Mm.dcas;split <;> exact ⟨rfl,by simp [Mm.tick,Mm.put]⟩
theorem YK6 (m:Mm) (a o n b p:Int):(m.dcss a o n b p).st=m.st+1∧(m.dcss a o n b p).w.length=m.w.length:=by unfold Mm.dcss;split <;> exact ⟨rfl,by simp [Mm.tick,Mm.put]⟩
theorem FixM.cas (m:Mac) (a o n:Int):FixM m (m.cas a o n).2:=by
 have t:=FixM.touch m a
 have h:=YR1 (m.touch a).mm a o n
 unfold Mac.cas;dsimp only
 split
 ·exact t.1.of t.2 ⟨rfl,rfl,rfl,rfl⟩ h.2 (by show ((m.touch a).mm.cas a o n).st≤_;omega)
 ·exact t.1.of t.2 ⟨rfl,rfl,rfl,rfl⟩ rfl (by show (m.touch a).mm.st≤_;omega)
theorem FixM.touch2 (m:Mac) (a b:Int):FixM m ((m.touch a).touch b)∧((m.touch a).touch b).mm=m.mm∧((m.touch a).touch b).used=m.used:=by
 have t:=FixM.touch m a
 have t2:=FixM.touch (m.touch a) b
 have e1:=t2.2.1.trans t.2.1
 have e2:=t2.2.2.trans t.2.2
 exact ⟨⟨t2.1.p.trans t.1.p,t2.1.th.trans t.1.th,t2.1.b.trans t.1.b,t2.1.w.trans t.1.w,by rw [e1];omega,by rw [e2];omega⟩,e1,e2⟩
theorem FixM.dcas (m:Mac) (a o n b p q:Int):FixM m (m.dcas a o n b p q).2:=by
 have t:=FixM.touch2 m a b
 have h:=YK5 ((m.touch a).touch b).mm a o n b p q
 unfold Mac.dcas;dsimp only
 split
 ·exact t.1.of t.2 ⟨rfl,rfl,rfl,rfl⟩ h.2 (by show (((m.touch a).touch b).mm.dcas a o n b p q).st≤_;omega)
 ·exact t.1.of t.2 ⟨rfl,rfl,rfl,rfl⟩ rfl (by show ((m.touch a).touch b).mm.st≤_;omega)
theorem FixM.dcss (m:Mac) (a o n b p:Int):FixM m (m.dcss a o n b p).2:=by
 have t:=FixM.touch2 m a b
 have h:=YK6 ((m.touch a).touch b).mm a o n b p
 unfold Mac.dcss;dsimp only
 split
 ·exact t.1.of t.2 ⟨rfl,rfl,rfl,rfl⟩ h.2 (by show (((m.touch a).touch b).mm.dcss a o n b p).st≤_;omega)
 ·exact t.1.of t.2 ⟨rfl,rfl,rfl,rfl⟩ rfl (by show ((m.touch a).touch b).mm.st≤_;omega)
theorem FixM.refl (m:Mac):FixM m m:=⟨rfl,rfl,rfl,rfl,by omega,by omega⟩
theorem FixM.next (m:Mac) (n:Int):FixM m (m.next n).2:=by
 unfold Mac.next
 split
 ·exact FixM.refl m
 ·exact ⟨rfl,rfl,rfl,rfl,by show m.mm.st≤_;omega,Int.le_refl _⟩
theorem FixM.lvl (m:Mac) (n:Int):FixM m (m.lvl n).2:=by
 unfold Mac.lvl
 split
 ·exact FixM.refl m
 ·exact ⟨rfl,rfl,rfl,rfl,by show m.mm.st≤_;omega,Int.le_refl _⟩
theorem Fix.m {x y:Run} {m:Mac} (h:Fix x y) (e:FixM y.m m):Fix x { y with m:=m }:=⟨e.p.trans h.p,h.id,e.th.trans h.th,e.b.trans h.b,e.w.trans h.w,h.pr,h.su,h.wo⟩
theorem Fix.t {x y:Run} {t:Thr} (h:Fix x y) (h1:t.pred.length=y.t.pred.length) (h2:t.succ.length=y.t.succ.length) (h3:t.word.length=y.t.word.length):Fix x { y with t:=t }:=⟨h.p,h.id,h.th,h.b,h.w,h1.trans h.pr,h2.trans h.su,h3.trans h.wo⟩
theorem Thr.pop_pl (t:Thr) (r:List Int):(t.pop r).pred=t.pred∧(t.pop r).succ=t.succ∧(t.pop r).word=t.word:=by unfold Thr.pop;split <;> exact ⟨rfl,rfl,rfl⟩
theorem St.fix {n:Nat} {x y:Run} (h:St n x y):Fix x y:=by
 induction h with
 | refl x=>exact ⟨rfl,rfl,rfl,rfl,rfl,rfl,rfl,rfl⟩
 | load _ ih=>exact ih.m (FixM.load _ _)
 | store _ ih=>exact ih.m (FixM.store _ _ _)
 | cas _ ih=>exact ih.m (FixM.cas _ _ _ _)
 | add _ ih=>exact ih.m (FixM.add _ _ _)
 | dcas _ ih=>exact ih.m (FixM.dcas _ _ _ _ _ _ _)
 | dcss _ ih=>exact ih.m (FixM.dcss _ _ _ _ _ _)
 | next _ ih=>exact ih.m (FixM.next _ _)
 | lvl _ ih=>exact ih.m (FixM.lvl _ _)
 | gh _ ih=>exact ih.m ⟨rfl,rfl,rfl,rfl,by show Mm.st _≤_;exact Int.le_add_one (Int.le_refl _),by show Mac.used _≤_;exact Int.le_add_one (Int.le_refl _)⟩
 | s _ ih=>exact ih.t rfl rfl rfl
 | pc _ ih=>exact ih.t rfl rfl rfl
 | push _ ih=>exact ih.t rfl rfl rfl
 | pop _ ih=>exact ih.t (by rw [(Thr.pop_pl _ _).1]) (by rw [(Thr.pop_pl _ _).2.1]) (by rw [(Thr.pop_pl _ _).2.2])
 | fo _ _ ih=>exact ih.t rfl rfl rfl
 | re _ _ ih=>exact ih.t rfl rfl rfl
 | part _ ih=>exact ih.t rfl rfl rfl
 | setPl h1 h2 h3 _ ih=>exact ih.t h1 h2 h3
 | up _ ih=>exact ih
def Run.P (x:Run):Nat:=x.m.mm.st.toNat+x.m.used.toNat+x.t.retired.length+x.t.found.length+x.t.fr.length
theorem YR2 (p:Int→Bool):∀l:List Int,(l.filter p).length+(l.filter λn=>!p n).length=l.length
 | []=>rfl
 | a :: l=>by
  have ih:=YR2 p l
  cases h:p a <;> simp [List.filter_cons,h] <;> omega
theorem P_m {x:Run} {m:Mac} (h:FixM x.m m):({ x with m:=m }:Run).P≤x.P+2:=by
 have h1:=h.st
 have h2:=h.us
 unfold Run.P
 dsimp only
 omega
theorem YF8 (x:Run) (f:Frm):(x.setF f).P≤x.P+2:=by
 unfold Run.P
 show x.m.mm.st.toNat+x.m.used.toNat+x.t.retired.length+x.t.found.length+(x.t.fr.dropLast ++ [f]).length≤_
 simp
 omega
theorem St.P {n:Nat} {x y:Run} (h:St n x y):y.P≤x.P+2*n:=by
 induction h with
 | refl x=>omega
 | @load _ _ y a _ ih=>have:=P_m (x:=y) (FixM.load y.m a);exact Nat.le_trans this (by omega)
 | @store _ _ y a v _ ih=>have:=P_m (x:=y) (FixM.store y.m a v);exact Nat.le_trans this (by omega)
 | @cas _ _ y a o v _ ih=>have:=P_m (x:=y) (FixM.cas y.m a o v);exact Nat.le_trans this (by omega)
 | @add _ _ y a v _ ih=>have:=P_m (x:=y) (FixM.add y.m a v);exact Nat.le_trans this (by omega)
 | @dcas _ _ y a o v b p q _ ih=>have:=P_m (x:=y) (FixM.dcas y.m a o v b p q);exact Nat.le_trans this (by omega)
 | @dcss _ _ y a o v b p _ ih=>have:=P_m (x:=y) (FixM.dcss y.m a o v b p);exact Nat.le_trans this (by omega)
 | @next _ _ y k _ ih=>have:=P_m (x:=y) (FixM.next y.m k);exact Nat.le_trans this (by omega)
 | @lvl _ _ y k _ ih=>have:=P_m (x:=y) (FixM.lvl y.m k);exact Nat.le_trans this (by omega)
 | @gh _ _ y f _ ih=>have:(y.gh f).P=y.P:=rfl;omega
 | @s _ _ y i v _ ih=>have:=YF8 y (y.f.s i v);exact Nat.le_trans this (by omega)
 | @pc _ _ y i _ ih=>have:=YF8 y (y.f.at i);exact Nat.le_trans this (by omega)
 | @push _ _ y i r _ ih=>
  have:(y.push i r).P=y.P+1:=by
   unfold Run.P
   show y.m.mm.st.toNat+y.m.used.toNat+y.t.retired.length+y.t.found.length+(y.t.fr ++ [_]).length=_
   simp
   omega
  omega
 | @pop _ _ y r _ ih=>
  have:(y.pop r).P≤y.P:=by
   unfold Run.P Run.pop Thr.pop
   split
   ·exact Nat.le_refl _
   ·dsimp only
    simp
  omega
 | @fo _ _ y l hl _ ih=>
  have:(y.fo l).P≤y.P+1:=by
   unfold Run.P
   show y.m.mm.st.toNat+y.m.used.toNat+y.t.retired.length+l.length+y.t.fr.length≤_
   omega
  omega
 | @re _ _ y l hl _ ih=>
  have:(y.re l).P≤y.P+1:=by
   unfold Run.P
   show y.m.mm.st.toNat+y.m.used.toNat+l.length+y.t.found.length+y.t.fr.length≤_
   omega
  omega
 | @part _ _ y p _ ih=>
  have h:=YR2 p y.t.retired
  have:((y.re (y.t.retired.filter p)).fo (y.t.retired.filter λn=>!p n)).P≤y.P:=by
   unfold Run.P
   show y.m.mm.st.toNat+y.m.used.toNat+(y.t.retired.filter p).length+(y.t.retired.filter λn=>!p n).length+y.t.fr.length≤_
   omega
  omega
 | @setPl _ _ y p s w _ _ _ _ ih=>have:(y.setPl p s w).P=y.P:=rfl;omega
 | up _ ih=>omega
theorem YA3 (x:Run):St 12 x (alloc x):=by
 unfold alloc;dsimp only
 repeat' split
 all_goals (with_reducible repeat' (first | apply St.refl | assumption | apply St.load | apply St.store | apply St.cas | apply St.add | apply St.swing | apply St.swingA | apply St.swingM | apply St.drop1 | apply St.guard | apply St.next | apply St.lvl | apply St.dcas | apply St.dcss | apply St.gh | apply St.call | apply St.fin | apply St.s | apply St.pc | apply St.push | apply St.pop))
theorem Yh1 (x:Run):St 12 x (Wr8 x):=by
 unfold Wr8;dsimp only
 repeat' split
 all_goals (with_reducible repeat' (first | apply St.refl | assumption | apply St.load | apply St.store | apply St.cas | apply St.add | apply St.swing | apply St.swingA | apply St.swingM | apply St.drop1 | apply St.guard | apply St.next | apply St.lvl | apply St.dcas | apply St.dcss | apply St.gh | apply St.call | apply St.fin | apply St.s | apply St.pc | apply St.push | apply St.pop))
theorem Yh2 (x:Run):St 12 x (Wr9 x):=by
 unfold Wr9
 repeat' split
 ·(with_reducible repeat' (first | apply St.refl | assumption | apply St.load | apply St.store | apply St.cas | apply St.add | apply St.swing | apply St.swingA | apply St.swingM | apply St.drop1 | apply St.guard | apply St.next | apply St.lvl | apply St.dcas | apply St.dcss | apply St.gh | apply St.call | apply St.fin | apply St.s | apply St.pc | apply St.push | apply St.pop))
 ·exact YA3 x
 ·exact Yh1 x
 ·(with_reducible repeat' (first | apply St.refl | assumption | apply St.load | apply St.store | apply St.cas | apply St.add | apply St.swing | apply St.swingA | apply St.swingM | apply St.drop1 | apply St.guard | apply St.next | apply St.lvl | apply St.dcas | apply St.dcss | apply St.gh | apply St.call | apply St.fin | apply St.s | apply St.pc | apply St.push | apply St.pop))
theorem Yh3 (x:Run):St 12 x (Ws0 x):=by
 unfold Ws0;dsimp only
 repeat' split
 all_goals (with_reducible repeat' (first | apply St.refl | assumption | apply St.load | apply St.store | apply St.cas | apply St.add | apply St.swing | apply St.swingA | apply St.swingM | apply St.drop1 | apply St.guard | apply St.next | apply St.lvl | apply St.dcas | apply St.dcss | apply St.gh | apply St.call | apply St.fin | apply St.s | apply St.pc | apply St.push | apply St.pop))
theorem YK7 (x:Run):St 12 x (Yy6 x):=by
 unfold Yy6;dsimp only
 repeat' split
 all_goals (with_reducible repeat' (first | apply St.refl | assumption | apply St.load | apply St.store | apply St.cas | apply St.add | apply St.swing | apply St.swingA | apply St.swingM | apply St.drop1 | apply St.guard | apply St.next | apply St.lvl | apply St.dcas | apply St.dcss | apply St.gh | apply St.call | apply St.fin | apply St.s | apply St.pc | apply St.push | apply St.pop))
theorem Ys2 (x:Run):St 12 x (Wz0 x):=by
 unfold Wz0;dsimp only
 have h2:St 2 x ((x.gh λg=>g.turn (s64 (x.f.g 0)) 1 2 2).re ((x.gh λg=>g.turn (s64 (x.f.g 0)) 1 2 2).t.retired ++ [s64 (x.f.g 0)])):=St.re (by simp) (St.gh (St.refl _))
 split
 ·exact St.up (k:=9) (St.push (St.pop h2))
 ·exact St.up (k:=10) (St.pop h2)
theorem YA4 {x y:Run} {N:Nat} (all:Int) (h:St N x y):St (N+2) x (Wz1 y all):=by
 unfold Wz1
 split
 ·exact St.pc (St.part h)
 ·exact St.up (k:=2) h
theorem YA5 {x y:Run} {N:Nat} (h:St N x y):St (N+2) x (W20 y):=by
 unfold W20
 split
 ·exact St.up (k:=2) (St.pop h)
 ·rename_i n rest e
  exact St.push (St.fo (by rw [e];simp;omega) h)
theorem YK8 (x:Run):St 12 x (scan x):=by
 have h0:St 1 x (if x.f.pc=0 then x.fo [] else x):=by
  split
  ·exact St.fo (by simp) (St.refl _)
  ·exact St.refl _
 unfold scan
 dsimp only
 generalize (if x.f.pc=0 then x.fo [] else x)=y at *
 split
 ·exact St.up (k:=8) (St.pc (St.fo (by simp) (St.load h0)))
 ·exact St.up (k:=7) (YA5 (YA4 _ h0))
theorem W53 (x:Run):St 12 x (Wn6 x):=by
 unfold Wn6
 repeat' split
 ·(with_reducible repeat' (first | apply St.refl | assumption | apply St.load | apply St.store | apply St.cas | apply St.add | apply St.swing | apply St.swingA | apply St.swingM | apply St.drop1 | apply St.guard | apply St.next | apply St.lvl | apply St.dcas | apply St.dcss | apply St.gh | apply St.call | apply St.fin | apply St.s | apply St.pc | apply St.push | apply St.pop))
 ·exact Yh3 x
 ·exact YK7 x
 ·exact Ys2 x
 ·exact YK8 x
 ·exact Yh2 x
theorem YA6 (x:Run):St 12 x (WQ0 x):=by
 unfold WQ0;dsimp only
 repeat' split
 all_goals (with_reducible repeat' (first | apply St.refl | assumption | apply St.load | apply St.store | apply St.cas | apply St.add | apply St.swing | apply St.swingA | apply St.swingM | apply St.drop1 | apply St.guard | apply St.next | apply St.lvl | apply St.dcas | apply St.dcss | apply St.gh | apply St.call | apply St.fin | apply St.s | apply St.pc | apply St.push | apply St.pop))
theorem YA7 (x:Run):St 12 x (WQ2 x):=by
 unfold WQ2;dsimp only
 repeat' split
 all_goals (with_reducible repeat' (first | apply St.refl | assumption | apply St.load | apply St.store | apply St.cas | apply St.add | apply St.swing | apply St.swingA | apply St.swingM | apply St.drop1 | apply St.guard | apply St.next | apply St.lvl | apply St.dcas | apply St.dcss | apply St.gh | apply St.call | apply St.fin | apply St.s | apply St.pc | apply St.push | apply St.pop))
theorem W54 (x:Run):St 12 x (Wn7 x):=by
 unfold Wn7 WQ1;dsimp only
 repeat' split
 all_goals (with_reducible repeat' (first | apply St.refl | assumption | apply St.load | apply St.store | apply St.cas | apply St.add | apply St.swing | apply St.swingA | apply St.swingM | apply St.drop1 | apply St.guard | apply St.next | apply St.lvl | apply St.dcas | apply St.dcss | apply St.gh | apply St.call | apply St.fin | apply St.s | apply St.pc | apply St.push | apply St.pop))
theorem YA8 (x:Run):St 12 x (WQ3 x):=by
 unfold WQ3 WQ1;dsimp only
 repeat' split
 all_goals (with_reducible repeat' (first | apply St.refl | assumption | apply St.load | apply St.store | apply St.cas | apply St.add | apply St.swing | apply St.swingA | apply St.swingM | apply St.drop1 | apply St.guard | apply St.next | apply St.lvl | apply St.dcas | apply St.dcss | apply St.gh | apply St.call | apply St.fin | apply St.s | apply St.pc | apply St.push | apply St.pop))
theorem YK9 (x:Run):St 12 x (Yy7 x):=by
 unfold Yy7 WV9;dsimp only
 repeat' split
 all_goals (with_reducible repeat' (first | apply St.refl | assumption | apply St.load | apply St.store | apply St.cas | apply St.add | apply St.swing | apply St.swingA | apply St.swingM | apply St.drop1 | apply St.guard | apply St.next | apply St.lvl | apply St.dcas | apply St.dcss | apply St.gh | apply St.call | apply St.fin | apply St.s | apply St.pc | apply St.push | apply St.pop))
theorem YA9 (x:Run):St 12 x (WQ4 x):=by
 unfold WQ4
 try dsimp only
 repeat' split
 all_goals first | with_reducible exact YA7 x | with_reducible exact W54 x | with_reducible exact YA8 x | with_reducible exact YK9 x | (with_reducible repeat' (first | apply St.refl | assumption | apply St.load | apply St.store | apply St.cas | apply St.add | apply St.swing | apply St.swingA | apply St.swingM | apply St.drop1 | apply St.guard | apply St.next | apply St.lvl | apply St.dcas | apply St.dcss | apply St.gh | apply St.call | apply St.fin | apply St.s | apply St.pc | apply St.push | apply St.pop))
theorem YB0 (x:Run):St 12 x (WG2 x):=by
 unfold WG2;dsimp only
 repeat' split
 all_goals (with_reducible repeat' (first | apply St.refl | assumption | apply St.load | apply St.store | apply St.cas | apply St.add | apply St.swing | apply St.swingA | apply St.swingM | apply St.drop1 | apply St.guard | apply St.next | apply St.lvl | apply St.dcas | apply St.dcss | apply St.gh | apply St.call | apply St.fin | apply St.s | apply St.pc | apply St.push | apply St.pop))
theorem YB1 (x:Run):St 12 x (WG3 x):=by
 unfold WG3;dsimp only
 repeat' split
 all_goals first | with_reducible exact YB0 x | (with_reducible repeat' (first | apply St.refl | assumption | apply St.load | apply St.store | apply St.cas | apply St.add | apply St.swing | apply St.swingA | apply St.swingM | apply St.drop1 | apply St.guard | apply St.next | apply St.lvl | apply St.dcas | apply St.dcss | apply St.gh | apply St.call | apply St.fin | apply St.s | apply St.pc | apply St.push | apply St.pop))
theorem Ya9 (x:Run):St 12 x (WK3 x):=by
 unfold WK3;dsimp only
 repeat' split
 all_goals (with_reducible repeat' (first | apply St.refl | assumption | apply St.load | apply St.store | apply St.cas | apply St.add | apply St.swing | apply St.swingA | apply St.swingM | apply St.drop1 | apply St.guard | apply St.next | apply St.lvl | apply St.dcas | apply St.dcss | apply St.gh | apply St.call | apply St.fin | apply St.s | apply St.pc | apply St.push | apply St.pop))
theorem YB2 (x:Run):St 12 x (WQ5 x):=by
 unfold WQ5;dsimp only
 repeat' split
 all_goals first | with_reducible exact Ya9 x | (with_reducible repeat' (first | apply St.refl | assumption | apply St.load | apply St.store | apply St.cas | apply St.add | apply St.swing | apply St.swingA | apply St.swingM | apply St.drop1 | apply St.guard | apply St.next | apply St.lvl | apply St.dcas | apply St.dcss | apply St.gh | apply St.call | apply St.fin | apply St.s | apply St.pc | apply St.push | apply St.pop))
theorem WY4 (x:Run) (a:Nat) (i j:Int):St 5 x (Wp2 x a i j):=by
 unfold Wp2;dsimp only
 repeat' split
 all_goals (with_reducible repeat' (first | apply St.refl | assumption | apply St.load | apply St.store | apply St.cas | apply St.add | apply St.swing | apply St.swingA | apply St.swingM | apply St.drop1 | apply St.guard | apply St.next | apply St.lvl | apply St.dcas | apply St.dcss | apply St.gh | apply St.call | apply St.fin | apply St.s | apply St.pc | apply St.push | apply St.pop))
theorem YB3 (x:Run) (a:Nat) (j:Int):St 12 x (WK4 x a j):=by
 unfold WK4;dsimp only
 repeat' split
 all_goals (with_reducible repeat' (first | apply St.refl | assumption | apply St.load | apply St.store | apply St.cas | apply St.add | apply St.swing | apply St.swingA | apply St.swingM | apply St.drop1 | apply St.guard | apply St.next | apply St.lvl | apply St.dcas | apply St.dcss | apply St.gh | apply St.call | apply St.fin | apply St.s | apply St.pc | apply St.push | apply St.pop))
theorem YB4 (x:Run):St 12 x (WQ6 x):=by
 unfold WQ6;dsimp only
 repeat' split
 all_goals first | with_reducible exact St.up (k:=7) (WY4 _ _ _ _) | with_reducible exact St.up (k:=5) (St.call (WY4 _ _ _ _)) | with_reducible exact YB3 _ _ _ | with_reducible exact Ya9 x | with_reducible exact YB2 x | (with_reducible repeat' (first | apply St.refl | assumption | apply St.load | apply St.store | apply St.cas | apply St.add | apply St.swing | apply St.swingA | apply St.swingM | apply St.drop1 | apply St.guard | apply St.next | apply St.lvl | apply St.dcas | apply St.dcss | apply St.gh | apply St.call | apply St.fin | apply St.s | apply St.pc | apply St.push | apply St.pop))
theorem Yh4 (x:Run):St 12 x (Wo4 x):=by
 unfold Wo4
 try dsimp only
 repeat' split
 all_goals first | with_reducible exact YA6 x | with_reducible exact YA9 x | with_reducible exact YB1 x | with_reducible exact YB4 x | with_reducible exact W53 x | (with_reducible repeat' (first | apply St.refl | assumption | apply St.load | apply St.store | apply St.cas | apply St.add | apply St.swing | apply St.swingA | apply St.swingM | apply St.drop1 | apply St.guard | apply St.next | apply St.lvl | apply St.dcas | apply St.dcss | apply St.gh | apply St.call | apply St.fin | apply St.s | apply St.pc | apply St.push | apply St.pop))
end Go.Proofs.YtooaemmlgkdfoaaGreat.Mod
end
namespace Go.Proofs.YtooaemmlgkdfoaaGreat
section
open Mod
structure Rest (Q:Frm→Prop) (x:Run):Prop where
 a:∀f ∈ x.t.fr.dropLast,Q f
structure AllF (Q:Frm→Prop) (x:Run):Prop where
 a:∀f ∈ x.t.fr,Q f
section
variable {Q:Frm→Prop} {x:Run}
theorem AllF.rest (h:AllF Q x):Rest Q x:=⟨λf hf=>h.a f (List.dropLast_subset _ hf)⟩
theorem AllF.top (h:AllF Q x) (hne:x.t.fr≠[]):Q x.f:=by
 have e:x.f=x.t.fr.getLast hne:=by
  show x.t.fr.getLast?.getD dfF=_
  rw [List.getLast?_eq_some_getLast hne]
  rfl
 rw [e]
 exact h.a _ (List.getLast_mem hne)
theorem Rest.setF {f:Frm} (h:Rest Q x):Rest Q (x.setF f):=by
 constructor
 intro g hg
 have hg:g ∈ (x.t.fr.dropLast ++ [f]).dropLast:=hg
 rw [List.dropLast_append_of_ne_nil (by simp)] at hg
 simp at hg
 exact h.a g hg
theorem Rest.s {i:Nat} {v:Int} (h:Rest Q x):Rest Q (x.s i v):=h.setF
theorem Rest.pc {i:Int} (h:Rest Q x):Rest Q (x.pc i):=h.setF
theorem Rest.m {m:Mac} (h:Rest Q x):Rest Q { x with m:=m }:=⟨h.a⟩
theorem Lo.rest {y:Run} (h:Lo x y) (r:Rest Q x):Rest Q y:=by
 induction h with
 | refl=>exact r
 | s _ ih=>exact ih.s
 | pc _ ih=>exact ih.pc
 | _=>rename_i ih;exact ⟨ih.a⟩
theorem Rest.all {f:Frm} (h:Rest Q x) (hf:Q f):AllF Q (x.setF f):=by
 constructor
 intro g hg
 have hg:g ∈ x.t.fr.dropLast ++ [f]:=hg
 rcases List.mem_append.1 hg with h1 | h1
 ·exact h.a g h1
 ·rw [List.mem_singleton.1 h1];exact hf
theorem Rest.allPc {i:Int} (h:Rest Q x) (hf:Q (x.f.at i)):AllF Q (x.pc i):=h.all hf
theorem Rest.allS {i:Nat} {v:Int} (h:Rest Q x) (hf:Q (x.f.s i v)):AllF Q (x.s i v):=h.all hf
theorem Rest.pop {r:List Int} (h:Rest Q x):AllF Q (x.pop r):=by
 constructor
 intro g hg
 have hg:g ∈ (x.t.pop r).fr:=hg
 unfold Thr.pop at hg
 split at hg
 ·rename_i e;rw [e] at hg;cases hg
 ·exact h.a g hg
theorem AllF.push {i:Int} {r:List Int} (h:AllF Q x) (hf:Q ⟨i,0,pad 10 r⟩):AllF Q (x.push i r):=by
 constructor
 intro g hg
 have hg:g ∈ x.t.fr ++ [⟨i,0,pad 10 r⟩]:=hg
 rcases List.mem_append.1 hg with h1 | h1
 ·exact h.a g h1
 ·rw [List.mem_singleton.1 h1];exact hf
theorem Rest.call {i j:Int} {r:List Int} (h:Rest Q x) (hf:Q (x.f.at i)) (hg:Q ⟨j,0,pad 10 r⟩):AllF Q (x.call i j r):=AllF.push (h.allPc hf) hg
theorem Rest.fin {i j k:Int} (h:Rest Q x) (hf:Q ((((x.f.s 7 i).s 8 j).s 9 k).at 90)) (hg:Q ⟨4,0,pad 10 []⟩):AllF Q (x.fin i j k):=by
 unfold Run.fin
 refine Rest.call (by (focus (refine Lo.rest ?_ (by assumption);(with_reducible repeat' constructor)))) ?_ hg
 rw [f_s,f_s,f_s]
 exact hf
theorem AllF.load {a:Int} (h:AllF Q x):AllF Q (x.load a).2:=⟨h.a⟩
theorem AllF.store {a v:Int} (h:AllF Q x):AllF Q (x.store a v):=⟨h.a⟩
theorem AllF.cas {a o n:Int} (h:AllF Q x):AllF Q (x.cas a o n).2:=⟨h.a⟩
theorem AllF.add {a v:Int} (h:AllF Q x):AllF Q (x.add a v).2:=⟨h.a⟩
theorem AllF.swing {a v w:Int} {b:Bool} (h:AllF Q x):AllF Q (x.swing a v w b).2:=⟨h.a⟩
theorem AllF.swingA {a v w:Int} (h:AllF Q x):AllF Q (x.swingA a v w).2:=⟨h.a⟩
theorem AllF.swingM {a v w:Int} {b:Bool} (h:AllF Q x):AllF Q (x.swingM a v w b).2:=⟨h.a⟩
theorem AllF.drop1 {a:Int} (h:AllF Q x):AllF Q (x.drop1 a).2:=⟨h.a⟩
theorem AllF.guard {a v:Int} (h:AllF Q x):AllF Q (x.guard a v):=⟨h.a⟩
theorem AllF.gh {f:Gh→Gh} (h:AllF Q x):AllF Q (x.gh f):=⟨h.a⟩
theorem AllF.fo {l:List Int} (h:AllF Q x):AllF Q (x.fo l):=⟨h.a⟩
theorem AllF.re {l:List Int} (h:AllF Q x):AllF Q (x.re l):=⟨h.a⟩
theorem AllF.setPl {p s w:List Int} (h:AllF Q x):AllF Q (x.setPl p s w):=⟨h.a⟩
theorem AllF.m {m:Mac} (h:AllF Q x):AllF Q { x with m:=m }:=⟨h.a⟩
end
theorem Wk8 (f:Frm) (i:Int):(f.at i).r.length=f.r.length:=rfl
theorem Ws8 (f:Frm) (i:Nat) (v:Int):(f.s i v).r.length=f.r.length:=by unfold Frm.s;simp
def Ww2 (sl th:Int) (f:Frm):Prop:=f.r.length=10∧((f.fn=1∨f.fn=2∨f.fn=3)∧0≤f.pc∧f.pc≤2∨f.fn=4∧0≤f.pc∧f.pc≤sl∨f.fn=5∧f.pc=0∨f.fn=6∧0≤f.pc∧f.pc≤sl*th+1)
section
variable {Q:Frm→Prop} {x:Run} {sl th:Int}
theorem Ys3 (hQ:∀f,Ww2 sl th f→Q f) (h:AllF Q x) (o:Ww2 sl th x.f) (e:x.f.fn=1):AllF Q (alloc x):=by
 have r:=h.rest
 obtain ⟨len,o2⟩:=o
 unfold alloc;dsimp only
 repeat' split
 all_goals ((repeat (with_reducible first | apply AllF.load | apply AllF.store | apply AllF.cas | apply AllF.add | apply AllF.swing | apply AllF.swingA | apply AllF.swingM | apply AllF.drop1 | apply AllF.guard | apply AllF.gh | apply AllF.fo | apply AllF.re | apply AllF.setPl));first | with_reducible assumption | ((with_reducible first | apply Rest.pop | apply Rest.call | apply Rest.allPc | apply Rest.allS | apply Rest.fin);(focus (refine Lo.rest ?_ (by assumption);(with_reducible repeat' constructor)))))
 all_goals (refine hQ _ ?_;((try simp only [WD5,f_s,Wj1,Wf9,Wp8,Wp9,WK9]);unfold Ww2;(try simp only [Wp0,WK8,Wo9,WK7,Wk8,Ws8]);omega))
theorem W55 (hQ:∀f,Ww2 sl th f→Q f) (h:AllF Q x) (o:Ww2 sl th x.f) (e:x.f.fn=2):AllF Q (Wr8 x):=by
 have r:=h.rest
 obtain ⟨len,o2⟩:=o
 unfold Wr8;dsimp only
 repeat' split
 all_goals ((repeat (with_reducible first | apply AllF.load | apply AllF.store | apply AllF.cas | apply AllF.add | apply AllF.swing | apply AllF.swingA | apply AllF.swingM | apply AllF.drop1 | apply AllF.guard | apply AllF.gh | apply AllF.fo | apply AllF.re | apply AllF.setPl));first | with_reducible assumption | ((with_reducible first | apply Rest.pop | apply Rest.call | apply Rest.allPc | apply Rest.allS | apply Rest.fin);(focus (refine Lo.rest ?_ (by assumption);(with_reducible repeat' constructor)))))
 all_goals (refine hQ _ ?_;((try simp only [WD5,f_s,Wj1,Wf9,Wp8,Wp9,WK9]);unfold Ww2;(try simp only [Wp0,WK8,Wo9,WK7,Wk8,Ws8]);omega))
theorem W56 (hQ:∀f,Ww2 sl th f→Q f) (h:AllF Q x) (o:Ww2 sl th x.f) (e:x.f.fn=3):AllF Q (Ws0 x):=by
 have r:=h.rest
 obtain ⟨len,o2⟩:=o
 unfold Ws0;dsimp only
 repeat' split
 all_goals ((repeat (with_reducible first | apply AllF.load | apply AllF.store | apply AllF.cas | apply AllF.add | apply AllF.swing | apply AllF.swingA | apply AllF.swingM | apply AllF.drop1 | apply AllF.guard | apply AllF.gh | apply AllF.fo | apply AllF.re | apply AllF.setPl));first | with_reducible assumption | ((with_reducible first | apply Rest.pop | apply Rest.call | apply Rest.allPc | apply Rest.allS | apply Rest.fin);(focus (refine Lo.rest ?_ (by assumption);(with_reducible repeat' constructor)))))
 all_goals (refine hQ _ ?_;((try simp only [WD5,f_s,Wj1,Wf9,Wp8,Wp9,WK9]);unfold Ww2;(try simp only [Wp0,WK8,Wo9,WK7,Wk8,Ws8]);omega))
theorem YB5 (hQ:∀f,Ww2 sl th f→Q f) (h:AllF Q x) (hs:sl=x.m.p.slots) (o:Ww2 sl th x.f) (e:x.f.fn=4):AllF Q (Yy6 x):=by
 have r:=h.rest
 obtain ⟨len,o2⟩:=o
 unfold Yy6;dsimp only
 repeat' split
 all_goals ((repeat (with_reducible first | apply AllF.load | apply AllF.store | apply AllF.cas | apply AllF.add | apply AllF.swing | apply AllF.swingA | apply AllF.swingM | apply AllF.drop1 | apply AllF.guard | apply AllF.gh | apply AllF.fo | apply AllF.re | apply AllF.setPl));first | with_reducible assumption | ((with_reducible first | apply Rest.pop | apply Rest.call | apply Rest.allPc | apply Rest.allS | apply Rest.fin);(focus (refine Lo.rest ?_ (by assumption);(with_reducible repeat' constructor)))))
 all_goals (refine hQ _ ?_;((try simp only [WD5,f_s,Wj1,Wf9,Wp8,Wp9,WK9]);unfold Ww2;(try simp only [Wp0,WK8,Wo9,WK7,Wk8,Ws8]);omega))
theorem Ys4 {fn:Int} {l:List Int} (h:1≤fn∧fn≤6) (hs:0≤sl) (ht:0≤sl*th):Ww2 sl th ⟨fn,0,pad 10 l⟩:=by
 refine ⟨WH4 _ _,?_⟩
 dsimp only
 omega
theorem Yh5 (hQ:∀f,Ww2 sl th f→Q f) (h:AllF Q x) (hs:0≤sl) (ht:0≤sl*th):AllF Q (Wz0 x):=by
 have r:=h.rest
 unfold Wz0;dsimp only
 split
 ·refine AllF.push ?_ (hQ _ (Ys4 (by omega) hs ht))
  ((repeat (with_reducible first | apply AllF.load | apply AllF.store | apply AllF.cas | apply AllF.add | apply AllF.swing | apply AllF.swingA | apply AllF.swingM | apply AllF.drop1 | apply AllF.guard | apply AllF.gh | apply AllF.fo | apply AllF.re | apply AllF.setPl));first | with_reducible assumption | ((with_reducible first | apply Rest.pop | apply Rest.call | apply Rest.allPc | apply Rest.allS | apply Rest.fin);(focus (refine Lo.rest ?_ (by assumption);(with_reducible repeat' constructor)))))
 ·((repeat (with_reducible first | apply AllF.load | apply AllF.store | apply AllF.cas | apply AllF.add | apply AllF.swing | apply AllF.swingA | apply AllF.swingM | apply AllF.drop1 | apply AllF.guard | apply AllF.gh | apply AllF.fo | apply AllF.re | apply AllF.setPl));first | with_reducible assumption | ((with_reducible first | apply Rest.pop | apply Rest.call | apply Rest.allPc | apply Rest.allS | apply Rest.fin);(focus (refine Lo.rest ?_ (by assumption);(with_reducible repeat' constructor)))))
theorem Ys5 (hQ:∀f,Ww2 sl th f→Q f) (h:AllF Q x) {all:Int} (ha:all=sl*th) (h0:0≤all) (o:Ww2 sl th x.f) (e:x.f.fn=6):AllF Q (Wz1 x all):=by
 have r:=h.rest
 obtain ⟨len,o2⟩:=o
 unfold Wz1
 split
 ·refine Rest.allPc (by (focus (refine Lo.rest ?_ (by assumption);(with_reducible repeat' constructor)))) (hQ _ ?_)
  show Ww2 sl th (x.f.at (x.f.pc+1))
  ((try simp only [WD5,f_s,Wj1,Wf9,Wp8,Wp9,WK9]);unfold Ww2;(try simp only [Wp0,WK8,Wo9,WK7,Wk8,Ws8]);omega)
 ·exact h
theorem Ys6 (hQ:∀f,Ww2 sl th f→Q f) (h:AllF Q x) (hs:0≤sl) (ht:0≤sl*th):AllF Q (W20 x):=by
 have r:=h.rest
 unfold W20
 split
 ·((repeat (with_reducible first | apply AllF.load | apply AllF.store | apply AllF.cas | apply AllF.add | apply AllF.swing | apply AllF.swingA | apply AllF.swingM | apply AllF.drop1 | apply AllF.guard | apply AllF.gh | apply AllF.fo | apply AllF.re | apply AllF.setPl));first | with_reducible assumption | ((with_reducible first | apply Rest.pop | apply Rest.call | apply Rest.allPc | apply Rest.allS | apply Rest.fin);(focus (refine Lo.rest ?_ (by assumption);(with_reducible repeat' constructor)))))
 ·refine AllF.push ?_ (hQ _ (Ys4 (by omega) hs ht))
  exact h.fo
theorem YB6 (hQ:∀f,Ww2 sl th f→Q f) (h:AllF Q x) (hs:sl=x.m.p.slots) (ht:th=x.m.p.c.threads) (s0:0≤sl) (t0:0≤sl*th) (o:Ww2 sl th x.f) (e:x.f.fn=6):AllF Q (scan x):=by
 have hy:AllF Q (if x.f.pc=0 then x.fo [] else x)∧(if x.f.pc=0 then x.fo [] else x).f=x.f:=by
  split
  ·exact ⟨h.fo,rfl⟩
  ·exact ⟨h,rfl⟩
 unfold scan
 dsimp only
 generalize (if x.f.pc=0 then x.fo [] else x)=y at *
 obtain ⟨h2,ef⟩:=hy
 have r:=h2.rest
 rw [← hs,← ht]
 split
 ·rename_i c
  obtain ⟨len,o2⟩:=o
  refine Rest.allPc (by (focus (refine Lo.rest ?_ (by assumption);(with_reducible repeat' constructor)))) (hQ _ ?_)
  show Ww2 sl th (y.f.at (y.f.pc+1))
  rw [ef] at c ⊢
  ((try simp only [WD5,f_s,Wj1,Wf9,Wp8,Wp9,WK9]);unfold Ww2;(try simp only [Wp0,WK8,Wo9,WK7,Wk8,Ws8]);omega)
 ·rename_i c
  exact Ys6 hQ (Ys5 hQ h2 rfl t0 (by rw [ef];exact o) (by rw [ef];exact e)) s0 t0
theorem W57 (hQ:∀f,Ww2 sl th f→Q f) (h:AllF Q x) (o:Ww2 sl th x.f):AllF Q (Wr9 x):=by
 have r:=h.rest
 unfold Wr9
 split
 ·exact h
 split
 ·exact Ys3 hQ h o (by assumption)
 split
 ·exact W55 hQ h o (by assumption)
 ·((repeat (with_reducible first | apply AllF.load | apply AllF.store | apply AllF.cas | apply AllF.add | apply AllF.swing | apply AllF.swingA | apply AllF.swingM | apply AllF.drop1 | apply AllF.guard | apply AllF.gh | apply AllF.fo | apply AllF.re | apply AllF.setPl));first | with_reducible assumption | ((with_reducible first | apply Rest.pop | apply Rest.call | apply Rest.allPc | apply Rest.allS | apply Rest.fin);(focus (refine Lo.rest ?_ (by assumption);(with_reducible repeat' constructor)))))
theorem WY5 (hQ:∀f,Ww2 sl th f→Q f) (h:AllF Q x) (hs:sl=x.m.p.slots) (ht:th=x.m.p.c.threads) (s0:0≤sl) (t0:0≤sl*th) (o:Ww2 sl th x.f):AllF Q (Wn6 x):=by
 unfold Wn6
 split
 ·exact h
 split
 ·exact W56 hQ h o (by assumption)
 split
 ·exact YB5 hQ h hs o (by assumption)
 split
 ·exact Yh5 hQ h s0 t0
 split
 ·exact YB6 hQ h hs ht s0 t0 o (by assumption)
 ·exact W57 hQ h o
end
end
section
open Mod
def fA (sl th fn pc:Int):Bool:=
 if fn=4 then decide (pc < sl) else if fn=5 then false else if fn=6 then decide (pc < sl*th)
 else if fn=10 then decide (pc=0) else if fn=14 then decide (pc≠1) else if fn=35 then decide (pc=0) else if fn=36 then decide (pc≠1)
 else decide (pc≠90)
def fW (fn pc:Int):Nat:=
 if fn=5 then 3 else if fn=6 then 2
 else if fn=20 then (if pc=0 then 2 else 1)
 else if fn=21 then (if pc=17 then 6 else if pc=8∨pc=1∨pc=12 then 3 else 2)
 else if fn=22∨fn=23 then (if pc=12 then 6 else if pc=1∨pc=7 then 3 else 2)
 else if fn=10 then (if pc=0 then 2 else 1)
 else if fn=11 then (if pc=6 then 6 else if pc=7∨pc=9 then 5 else if pc=8 then 4 else if pc=1∨pc=5∨pc=10∨pc=11∨pc=13∨pc=14 then 3 else 2)
 else if fn=12∨fn=13 then (if pc=6 then 6 else if pc=1 then 4 else if pc=0 then 3 else 2)
 else if fn=14 then (if pc=5∨pc=6 then 4 else if pc=0∨pc=1∨pc=4 then 3 else 2)
 else if fn=31 then (if pc=16 then 4 else if pc=1∨pc=7∨pc=11∨pc=12 then 3 else 2)
 else if fn=32∨fn=33 then (if pc=5 then 4 else if pc=2∨pc=6∨pc=12∨pc=13 then 3 else 2)
 else if fn=34 then (if pc=2∨pc=4 then 3 else 2)
 else if fn=35 then (if pc=2 then 6 else 2)
 else if fn=36 then (if pc=4 then 3 else 2)
 else 1
def fR (fn:Int):Nat:=if fn≤4 then 0 else if fn≤6 then 1 else if fn=10 then 2 else if fn=14∨fn=35 then 3 else 4
theorem YR3 (fn:Int):fR fn≤4:=by
 unfold fR;repeat' split
 all_goals omega
theorem YL0 {c:Prop} [Decidable c] {a b:Nat} (ha:1≤a∧a≤6) (hb:1≤b∧b≤6):1≤(if c then a else b)∧(if c then a else b)≤6:=by
 split
 ·exact ha
 ·exact hb
theorem Ys7 (fn pc:Int):1≤fW fn pc∧fW fn pc≤6:=by
 unfold fW
 repeat' (first | with_reducible apply YL0 | exact ⟨by decide,by decide⟩)
section
variable (sl th:Int)
def muL:List Frm→Nat
 | []=>0
 | f :: l=>fW f.fn f.pc+if fA sl th f.fn f.pc=true then 0 else muL l
def onR (fn:Int):List Frm→Prop
 | []=>True
 | f :: _=>fA sl th f.fn f.pc=true∨fR fn < fR f.fn
def Ys8:List Frm→Prop
 | []=>True
 | f :: l=>onR sl th f.fn l∧Ys8 l
theorem YF9:∀ {l:List Frm} {fn:Int},onR sl th fn l→Ys8 sl th l→muL sl th l≤6*(5 - fR fn)
 | [],_,_,_=>Nat.zero_le _
 | f :: l,fn,h1,h2=>by
  unfold muL
  have hw:=(Ys7 f.fn f.pc).2
  have hr:=YR3 fn
  have hr2:=YR3 f.fn
  split
  ·omega
  ·rename_i c
   rcases h1 with h1 | h1
   ·exact absurd h1 c
   ·have ih:=YF9 h2.1 h2.2
    omega
def rst (x:Run):List Frm:=x.t.fr.dropLast.reverse
def mu (x:Run):Nat:=muL sl th x.t.fr.reverse
structure Adj (x:Run):Prop where
 a:Ys8 sl th x.t.fr.reverse
structure AdjR (fn:Int) (l:List Frm) (x:Run):Prop where
 f:x.f.fn=fn
 e:rst x=l
 o:onR sl th fn l
 a:Ys8 sl th l
end
section
variable {sl th:Int} {x y:Run} {fn:Int} {l:List Frm}
theorem WC7 (h:x.t.fr≠[]):x.t.fr.reverse=x.f :: rst x:=by
 conv=>lhs;rw [W97 h]
 simp [rst,Run.f]
theorem Adj.r (h:Adj sl th x) (hne:x.t.fr≠[]):AdjR sl th x.f.fn (rst x) x:=by
 have h:=h.a
 rw [WC7 hne] at h
 exact ⟨rfl,rfl,h.1,h.2⟩
theorem YB7 (x:Run) (f:Frm):rst (x.setF f)=rst x:=by
 show (x.t.fr.dropLast ++ [f]).dropLast.reverse=_
 rw [List.dropLast_append_of_ne_nil (by simp)]
 simp [rst]
theorem AdjR.setF {f:Frm} (h:AdjR sl th fn l x) (hf:f.fn=fn):AdjR sl th fn l (x.setF f):=⟨by rw [Yp2];exact hf,by rw [YB7];exact h.e,h.o,h.a⟩
theorem AdjR.s {i:Nat} {v:Int} (h:AdjR sl th fn l x):AdjR sl th fn l (x.s i v):=h.setF h.f
theorem AdjR.pc {i:Int} (h:AdjR sl th fn l x):AdjR sl th fn l (x.pc i):=h.setF h.f
theorem AdjR.gh {f:Gh→Gh} (h:AdjR sl th fn l x):AdjR sl th fn l (x.gh f):=⟨h.f,h.e,h.o,h.a⟩
theorem AdjR.fo {k:List Int} (h:AdjR sl th fn l x):AdjR sl th fn l (x.fo k):=⟨h.f,h.e,h.o,h.a⟩
theorem AdjR.re {k:List Int} (h:AdjR sl th fn l x):AdjR sl th fn l (x.re k):=⟨h.f,h.e,h.o,h.a⟩
theorem AdjR.all (h:AdjR sl th fn l x) (hne:x.t.fr≠[]):Adj sl th x:=by
 constructor
 rw [WC7 hne]
 exact ⟨by rw [h.f,h.e];exact h.o,by rw [h.e];exact h.a⟩
theorem We1 (x:Run) (f:Frm):(x.setF f).t.fr≠[]:=by
 show x.t.fr.dropLast ++ [f]≠[]
 simp
theorem Lo.adjR (h:Lo x y) (r:AdjR sl th fn l x):AdjR sl th fn l y:=by
 induction h with
 | refl=>exact r
 | s _ ih=>exact ih.s
 | pc _ ih=>exact ih.pc
 | _=>rename_i ih;exact ⟨ih.f,ih.e,ih.o,ih.a⟩
theorem Lo.ne (h:Lo x y) (r:x.t.fr≠[]):y.t.fr≠[]:=by
 induction h with
 | refl=>exact r
 | s _ ih=>exact We1 _ _
 | pc _ ih=>exact We1 _ _
 | _=>rename_i ih;exact ih
theorem AdjR.allPc {i:Int} (h:AdjR sl th fn l x):Adj sl th (x.pc i):=h.pc.all (We1 _ _)
theorem AdjR.allS {i:Nat} {v:Int} (h:AdjR sl th fn l x):Adj sl th (x.s i v):=h.s.all (We1 _ _)
theorem AdjR.pop {r:List Int} (h:AdjR sl th fn l x):Adj sl th (x.pop r):=by
 constructor
 show Ys8 sl th (x.t.pop r).fr.reverse
 unfold Thr.pop
 split
 ·rename_i e;rw [e];trivial
 ·show Ys8 sl th (rst x)
  rw [h.e];exact h.a
theorem Adj.push {i:Int} {r:List Int} (h:Adj sl th x) (ho:onR sl th i x.t.fr.reverse):Adj sl th (x.push i r):=by
 constructor
 show Ys8 sl th (x.t.fr ++ [(⟨i,0,pad 10 r⟩ : Frm)]).reverse
 rw [List.reverse_append]
 show Ys8 sl th (⟨i,0,pad 10 r⟩ :: x.t.fr.reverse)
 exact ⟨ho,h.a⟩
theorem AdjR.call {i j:Int} {r:List Int} (h:AdjR sl th fn l x) (hd:fA sl th fn i=true∨fR j < fR fn):Adj sl th (x.call i j r):=by
 refine Adj.push h.allPc ?_
 rw [show (x.pc i).t.fr.reverse=(x.pc i).f :: rst (x.pc i) from WC7 (We1 _ _)]
 show fA sl th (x.pc i).f.fn (x.pc i).f.pc=true∨_ < fR (x.pc i).f.fn
 rw [WD5,Wp0,Wo9,h.f]
 exact hd
theorem AdjR.fin {i j k:Int} (h:AdjR sl th fn l x) (hd:fR 4 < fR fn):Adj sl th (x.fin i j k):=by
 unfold Run.fin
 exact (h.s.s.s).call (.inr hd)
structure Act (x:Run):Prop where
 a:x.m.acted=true
theorem Wl9 (m:Mac) (a:Int):(m.touch a).acted=true:=by unfold Mac.touch;split <;> rfl
theorem Act.load {a:Int}:Act (x.load a).2:=by
 constructor
 show (x.m.load a).2.acted=true
 unfold Mac.load;dsimp only
 split <;> exact Wl9 _ _
theorem Act.store {a v:Int}:Act (x.store a v):=by
 constructor
 show (x.m.store a v).acted=true
 unfold Mac.store;dsimp only
 split <;> exact Wl9 _ _
theorem Act.cas {a o v:Int}:Act (x.cas a o v).2:=by
 constructor
 show (x.m.cas a o v).2.acted=true
 unfold Mac.cas;dsimp only
 split <;> exact Wl9 _ _
theorem Act.add {a v:Int}:Act (x.add a v).2:=by
 constructor
 show (x.m.add a v).2.acted=true
 unfold Mac.add;dsimp only
 split <;> exact Wl9 _ _
theorem Act.swing {a v w:Int} {b:Bool}:Act (x.swing a v w b).2:=Act.cas
theorem Act.swingA {a v w:Int}:Act (x.swingA a v w).2:=Act.cas
theorem Act.swingM {a v w:Int} {b:Bool}:Act (x.swingM a v w b).2:=Act.cas
theorem Act.drop1 {a:Int}:Act (x.drop1 a).2:=Act.add
theorem Act.guard {a b:Int}:Act (x.guard a b):=Act.store
theorem Act.dcas {a o n b p q:Int}:Act { x with m:=(x.m.dcas a o n b p q).2 }:=by
 constructor
 show (x.m.dcas a o n b p q).2.acted=true
 unfold Mac.dcas;dsimp only
 split <;> exact Wl9 _ _
theorem Act.dcss {a o n b p:Int}:Act { x with m:=(x.m.dcss a o n b p).2 }:=by
 constructor
 show (x.m.dcss a o n b p).2.acted=true
 unfold Mac.dcss;dsimp only
 split <;> exact Wl9 _ _
theorem Act.next {n:Int} (h:Act x):Act { x with m:=(x.m.next n).2 }:=by
 constructor
 show (x.m.next n).2.acted=true
 unfold Mac.next
 split <;> exact h.a
theorem Act.lvl {n:Int} (h:Act x):Act { x with m:=(x.m.lvl n).2 }:=by
 constructor
 show (x.m.lvl n).2.acted=true
 unfold Mac.lvl
 split <;> exact h.a
theorem Tch.act (h:Tch x):Act x:=by
 induction h with
 | load=>exact Act.load
 | store=>exact Act.store
 | cas=>exact Act.cas
 | add=>exact Act.add
 | swing=>exact Act.swing
 | swingA=>exact Act.swingA
 | swingM=>exact Act.swingM
 | drop1=>exact Act.drop1
 | guard=>exact Act.guard
 | dcas=>exact Act.dcas
 | dcss=>exact Act.dcss
 | next _ ih=>exact ih.next
 | lvl _ ih=>exact ih.lvl
 | _=>rename_i ih;exact ⟨ih.a⟩
theorem YG0 (h:x.t.fr≠[]):mu sl th x=fW x.f.fn x.f.pc+if fA sl th x.f.fn x.f.pc=true then 0 else muL sl th (rst x):=by
 unfold mu
 rw [WC7 h]
 rfl
theorem WS5 (x:Run) (i:Int) (r:List Int):mu sl th (x.push i r)=fW i 0+if fA sl th i 0=true then 0 else mu sl th x:=by
 unfold mu
 show muL sl th (x.t.fr ++ [(⟨i,0,pad 10 r⟩ : Frm)]).reverse=_
 rw [List.reverse_append]
 rfl
theorem Ys9 (r:List Int) (h:x.t.fr≠[]):mu sl th (x.pop r)=muL sl th (rst x):=by
 unfold mu
 show muL sl th (x.t.pop r).fr.reverse=_
 unfold Thr.pop
 rw [if_neg h]
 rfl
section
variable {x0:Run} {pc0:Int}
theorem AdjR.mu (h0:AdjR sl th fn l x0) (hne:x0.t.fr≠[]) (hp:x0.f.pc=pc0):mu sl th x0=fW fn pc0+if fA sl th fn pc0=true then 0 else muL sl th l:=by
 rw [YG0 hne,h0.f,h0.e,hp]
theorem AdjR.muPc (h:AdjR sl th fn l y) (i:Int):Proofs.YtooaemmlgkdfoaaGreat.mu sl th (y.pc i)=fW fn i+if fA sl th fn i=true then 0 else muL sl th l:=
 h.pc.mu (We1 _ _) (by rw [WD5];rfl)
theorem AdjR.ltPc {i:Int} (h0:AdjR sl th fn l x0) (hne:x0.t.fr≠[]) (hp:x0.f.pc=pc0) (h:AdjR sl th fn l y)
  (hlt:(fW fn i+if fA sl th fn i=true then 0 else muL sl th l) < fW fn pc0+if fA sl th fn pc0=true then 0 else muL sl th l):Proofs.YtooaemmlgkdfoaaGreat.mu sl th (y.pc i) < Proofs.YtooaemmlgkdfoaaGreat.mu sl th x0:=by
 rw [h0.mu hne hp,h.muPc]
 exact hlt
theorem AdjR.ltCall {i j:Int} {r:List Int} (h0:AdjR sl th fn l x0) (hne:x0.t.fr≠[]) (hp:x0.f.pc=pc0) (h:AdjR sl th fn l y)
  (hlt:(fW j 0+if fA sl th j 0=true then 0 else fW fn i+if fA sl th fn i=true then 0 else muL sl th l) < fW fn pc0+if fA sl th fn pc0=true then 0 else muL sl th l):Proofs.YtooaemmlgkdfoaaGreat.mu sl th (y.call i j r) < Proofs.YtooaemmlgkdfoaaGreat.mu sl th x0:=by
 show Proofs.YtooaemmlgkdfoaaGreat.mu sl th ((y.pc i).push j r) < _
 rw [h0.mu hne hp,WS5,h.muPc]
 exact hlt
theorem AdjR.ltFin {i j k:Int} (h0:AdjR sl th fn l x0) (hne:x0.t.fr≠[]) (hp:x0.f.pc=pc0) (h:AdjR sl th fn l y)
  (hlt:(fW 4 0+if fA sl th 4 0=true then 0 else fW fn 90+if fA sl th fn 90=true then 0 else muL sl th l) < fW fn pc0+if fA sl th fn pc0=true then 0 else muL sl th l):Proofs.YtooaemmlgkdfoaaGreat.mu sl th (y.fin i j k) < Proofs.YtooaemmlgkdfoaaGreat.mu sl th x0:=
 h0.ltCall hne hp (h.s.s.s) hlt
theorem AdjR.ltPop {r:List Int} (h0:AdjR sl th fn l x0) (hne:x0.t.fr≠[]) (hp:x0.f.pc=pc0) (h:AdjR sl th fn l y) (hny:y.t.fr≠[])
  (hlt:muL sl th l < fW fn pc0+if fA sl th fn pc0=true then 0 else muL sl th l):Proofs.YtooaemmlgkdfoaaGreat.mu sl th (y.pop r) < Proofs.YtooaemmlgkdfoaaGreat.mu sl th x0:=by
 rw [h0.mu hne hp,Ys9 r hny,h.e]
 exact hlt
end
def Nx (sl th:Int) (x y:Run):Prop:=Adj sl th y∧(Act y∨mu sl th y < mu sl th x)
end
end
section
open Mod
structure RunOk (Q:Mod.Cf→Frm→Prop) (c:Mod.Cf) (x:Run) (B:Nat):Prop where
 p:x.m.p=Wc1 c
 q:AllF (Q c) x
 a:Adj (Wc1 c).slots c.threads x
 pr:(x.t.pred.length:Int)=c.level
 su:(x.t.succ.length:Int)=c.level
 wo:(x.t.word.length:Int)=c.level
 P:x.P≤B
structure YS5 (d:Run→Run) (Q:Mod.Cf→Frm→Prop) (W:Run→Prop) (ins:Int):Prop where
 st:∀x,St 12 x (d x)
 all:∀c x,okC c=true→x.m.p=Wc1 c→x.t.fr≠[]→AllF (Q c) x→AllF (Q c) (d x)
 nx:∀c x,okC c=true→x.m.p=Wc1 c→x.t.fr≠[]→AllF (Q c) x→Adj (Wc1 c).slots c.threads x→Nx (Wc1 c).slots c.threads x (d x)
 w:∀c x B,okC c=true→RunOk Q c x B→B < 200000000→x.t.fr≠[]→0≤x.id∧x.id≤6→W x
 new:∀c op l,okC c=true→0≤op∧op≤2→Q c ⟨ins+op,0,pad 10 l⟩
section
variable {d:Run→Run} {Q:Mod.Cf→Frm→Prop} {W:Run→Prop} {ins:Int} {c:Mod.Cf}
theorem RunOk.mono {x:Run} {B C:Nat} (h:RunOk Q c x B) (hb:B≤C):RunOk Q c x C:=⟨h.p,h.q,h.a,h.pr,h.su,h.wo,Nat.le_trans h.P hb⟩
theorem RunOk.bit (D:YS5 d Q W ins) (hc:okC c=true) {x:Run} {B:Nat} (h:RunOk Q c x B) (hne:x.t.fr≠[]):RunOk Q c (d x) (B+24)∧Nx (Wc1 c).slots c.threads x (d x):=by
 have s:=D.st x
 have f:=s.fix
 have n:=D.nx c x hc h.p hne h.q h.a
 have hP:=s.P
 have:=h.P
 exact ⟨⟨f.p.trans h.p,D.all c x hc h.p hne h.q,n.1,by rw [f.pr];exact h.pr,by rw [f.su];exact h.su,by rw [f.wo];exact h.wo,by omega⟩,n⟩
theorem YV8 {sl th:Int} {x:Run} (h:Adj sl th x):mu sl th x≤36:=by
 by_cases hne:x.t.fr = []
 ·unfold mu
  rw [hne]
  exact Nat.zero_le _
 ·rw [YG0 hne]
  have r:=h.r hne
  have h1:=YF9 sl th r.o r.a
  have h2:=(Ys7 x.f.fn x.f.pc).2
  split <;> omega
theorem Yb0 (D:YS5 d Q W ins) (hc:okC c=true):∀(n:Nat) (x:Run) (B:Nat),mu (Wc1 c).slots c.threads x≤n→RunOk Q c x B→B+24*(n+1) < 200000000→0≤x.id∧x.id≤6 →
  ∃k z,Mod.bits d k x=some z∧YM4 d W k x∧Fix x z∧RunOk Q c z (B+24*(n+1))
 | n,x,B,hm,h,hB,hid=>by
  by_cases c0:done x=true
  ·refine ⟨0,x,?_,trivial,⟨rfl,rfl,rfl,rfl,rfl,rfl,rfl,rfl⟩,h.mono (by omega)⟩
   unfold Mod.bits
   unfold done at c0
   rw [if_pos c0]
  ·have hne:x.t.fr≠[]:=by
    intro e
    unfold done at c0
    rw [e] at c0
    simp at c0
   have hb:∀k,Mod.bits d (k+1) x=Mod.bits d k (d x):=by
    intro k
    unfold done at c0
    conv=>lhs;unfold Mod.bits
    rw [if_neg c0]
   obtain ⟨h1,n1⟩:=h.bit D hc hne
   have hw:=D.w c x B hc h (by omega) hne hid
   have f:=(D.st x).fix
   rcases n1.2 with a | lt
   ·refine ⟨1,d x,?_,.inr ⟨hw,trivial⟩,f,h1.mono (by omega)⟩
    rw [hb]
    unfold Mod.bits
    rw [a.a]
    rfl
   ·cases n with
    | zero=>omega
    | succ n=>
     obtain ⟨k,z,e1,e2,e3,e4⟩:=Yb0 D hc n (d x) (B+24) (by omega) h1 (by omega) (by rw [f.id];exact hid)
     refine ⟨k+1,z,by rw [hb];exact e1,.inr ⟨hw,e2⟩,⟨e3.p.trans f.p,e3.id.trans f.id,e3.th.trans f.th,e3.b.trans f.b,e3.w.trans f.w,e3.pr.trans f.pr,e3.su.trans f.su,e3.wo.trans f.wo⟩,e4.mono (by omega)⟩
structure YV9 (Q:Mod.Cf→Frm→Prop) (c:Mod.Cf) (t:Thr):Prop where
 q:∀f ∈ t.fr,Q c f
 a:Ys8 (Wc1 c).slots c.threads t.fr.reverse
 pr:(t.pred.length:Int)=c.level
 su:(t.succ.length:Int)=c.level
 wo:(t.word.length:Int)=c.level
def Mod.Thr.L (t:Thr):Nat:=t.retired.length+t.found.length+max t.fr.length 1
def WZ5 (l:List Thr):Nat:=(l.map Mod.Thr.L).sum
theorem WE6:∀ {l:List Thr} {k:Nat} {t t':Thr},l[k]? = some t→WZ5 (l.set k t')+t.L=WZ5 l+t'.L
 | [],_,_,_,h=>by simp at h
 | a :: l,0,t,t',h=>by
  simp only [List.getElem?_cons_zero,Option.some.injEq] at h
  subst h
  simp only [List.set_cons_zero,WZ5,List.map_cons,List.sum_cons]
  omega
 | a :: l,k+1,t,t',h=>by
  simp only [List.getElem?_cons_succ] at h
  have ih:=WE6 (t':=t') h
  simp only [List.set_cons_succ,WZ5,List.map_cons,List.sum_cons] at *
  omega
def Mod.Mac.T (m:Mac):Nat:=m.mm.st.toNat+m.used.toNat+WZ5 m.th
structure MacOk (Q:Mod.Cf→Frm→Prop) (c:Mod.Cf) (i:Nat) (m:Mac):Prop where
 ok:okC c=true
 p:m.p=Wc1 c
 w:(m.mm.w.length:Int)=(Wc1 c).size
 n:m.th.length≤6
 t:∀t ∈ m.th,YV9 Q c t
 T:m.T≤1000*i+2000
theorem MacOk.good (D:YS5 d Q W ins):Yg8 d W ins (MacOk Q c) where
 mono i m h:=⟨h.ok,h.p,h.w,h.n,h.t,Nat.le_trans h.T (by omega)⟩
 wd i m h:=by
  have B:=Wp5 h.ok
  have e:(m.mm.w.length:Int)=m.p.size:=by rw [h.p];exact h.w
  refine ⟨⟨by rw [h.p];rfl,e⟩,?_⟩
  have h1:=B.li
  have h2:=B.nd
  have h3:=B.tr
  have h4:=B.si
  rw [h.p] at e
  omega
 push i m k t cl h ht he ho hk hv:=by
  have hm:=List.mem_of_getElem? ht
  have o:=h.t t hm
  refine ⟨h.ok,h.p,h.w,?_,?_,?_⟩
  ·show (m.th.set k _).length≤6
   rw [List.length_set];exact h.n
  ·intro u hu
   rcases List.mem_or_eq_of_mem_set hu with hu | rfl
   ·exact h.t u hu
   ·refine ⟨?_,?_,o.pr,o.su,o.wo⟩
    ·intro f hf
     have hf:f ∈ t.fr ++ [⟨ins+cl.op,0,pad 10 [cl.key,cl.val]⟩]:=hf
     rw [he] at hf
     rw [List.mem_singleton.1 hf]
     exact D.new c cl.op _ h.ok ho
    ·show Ys8 _ _ (t.fr ++ [(⟨ins+cl.op,0,pad 10 [cl.key,cl.val]⟩ : Frm)]).reverse
     rw [he]
     exact ⟨trivial,trivial⟩
  ·have e:=WE6 (t':=t.push (ins+cl.op) [cl.key,cl.val]) ht
   have e2:(t.push (ins+cl.op) [cl.key,cl.val]).L=t.L:=by
    show t.retired.length+t.found.length+max (t.fr ++ [_]).length 1=t.retired.length+t.found.length+max t.fr.length 1
    rw [he]
    rfl
   have h2:m.mm.st.toNat+m.used.toNat+WZ5 m.th≤1000*i+2000:=h.T
   show m.mm.st.toNat+m.used.toNat+WZ5 (m.th.set k (t.push (ins+cl.op) [cl.key,cl.val]))≤_
   omega
 step i m k t h hi ht hne:=by
  have hm:=List.mem_of_getElem? ht
  have o:=h.t t hm
  have hk:=(List.getElem?_eq_some_iff.1 ht).1
  have hn:=h.n
  have hL:1≤t.fr.length:=List.length_pos_iff.2 hne
  have hT:m.mm.st.toNat+m.used.toNat+WZ5 m.th≤1000*i+2000:=h.T
  have e0:=λt'=>WE6 (t':=t') ht
  have e1:=e0 t
  have eT:t.L=t.retired.length+t.found.length+t.fr.length:=by
   unfold Mod.Thr.L
   rw [Nat.max_eq_left hL]
  have hs:WZ5 (m.th.set k ⟨[],[],[],[],[],[],[]⟩)+t.L=WZ5 m.th+1:=e0 _
  have hR:RunOk Q c ⟨m.quiet,t,k⟩ (m.mm.st.toNat+m.used.toNat+t.L):=by
   refine ⟨h.p,⟨o.q⟩,⟨o.a⟩,o.pr,o.su,o.wo,?_⟩
   show m.mm.st.toNat+m.used.toNat+t.retired.length+t.found.length+t.fr.length≤_
   omega
  obtain ⟨n,z,hb,hsf,f,hz⟩:=Yb0 D h.ok 36 _ _ (YV8 hR.a) hR (by omega) ⟨by show (0:Int)≤(k:Int);omega,by show (k:Int)≤6;omega⟩
  refine ⟨n,z,hb,hsf,f.id,f.th,h.ok,?_,?_,?_,?_,?_⟩
  ·exact f.p.trans h.p
  ·show (z.m.mm.w.length:Int)=_
   rw [f.w]
   exact h.w
  ·show (m.th.set k z.t).length≤6
   rw [List.length_set];exact hn
  ·intro u hu
   rcases List.mem_or_eq_of_mem_set hu with hu | rfl
   ·exact h.t u hu
   ·exact ⟨hz.q.a,hz.a.a,hz.pr,hz.su,hz.wo⟩
  ·have e2:=e0 z.t
   have hP:z.m.mm.st.toNat+z.m.used.toNat+z.t.retired.length+z.t.found.length+z.t.fr.length≤_:=hz.P
   have hz2:z.t.L≤z.t.retired.length+z.t.found.length+z.t.fr.length+1:=by
    unfold Mod.Thr.L
    have:max z.t.fr.length 1≤z.t.fr.length+1:=Nat.max_le.2 ⟨by omega,by omega⟩
    omega
   show z.m.mm.st.toNat+z.m.used.toNat+WZ5 (m.th.set k z.t)≤_
   omega
theorem Wu6 (m:Mm) (a v:Int):(m.store a v).w.length=m.w.length∧(m.store a v).st.toNat≤m.st.toNat+1:=by
 unfold Mm.store
 split
 ·exact ⟨by simp [Mm.tick,Mm.put],by show (m.st+1).toNat≤_;omega⟩
 ·exact ⟨rfl,by omega⟩
theorem WB5 (f:Nat→Int × Int):∀(l:List Nat) (m:Mm),(l.foldl (λ(m:Mm) (i:Nat)=>m.store (f i).1 (f i).2) m).w.length=m.w.length∧(l.foldl (λ(m:Mm) (i:Nat)=>m.store (f i).1 (f i).2) m).st.toNat≤m.st.toNat+l.length
 | [],m=>⟨rfl,by simp⟩
 | i :: l,m=>by
  have h1:=Wu6 m (f i).1 (f i).2
  have h2:=WB5 f l (m.store (f i).1 (f i).2)
  simp only [List.foldl_cons,List.length_cons]
  exact ⟨h2.1.trans h1.1,by omega⟩
theorem YL1 {c:Mod.Cf} (h:okC c=true):((lay (Wc1 c)).w.length:Int)=(Wc1 c).size∧(lay (Wc1 c)).st.toNat≤200:=by
 have B:=Wp5 h
 have b1:=B.no
 have b2:=B.lv
 have b3:=B.se
 have b4:=B.si
 have b5:=B.tr
 have b6:=B.nd
 have b7:=B.li
 unfold lay
 dsimp only
 generalize hm0:(⟨List.replicate (Wc1 c).size.toNat 0,0,false,[]⟩ : Mm)=m0
 have h0:(m0.w.length:Int)=(Wc1 c).size∧m0.st.toNat=0:=by
  subst hm0
  exact ⟨by simp;omega,rfl⟩
 have h1:=Wu6 m0 0 (Wm6 ((Wc1 c).sent+1) false 0)
 generalize m0.store 0 (Wm6 ((Wc1 c).sent+1) false 0)=m1 at *
 have h2:=WB5 (λi=>((Wc1 c).link ((Wc1 c).sent+1+i),(Wc1 c).sent+1+i+1)) (List.range ((Wc1 c).c.nodes - ((Wc1 c).sent+1)).toNat) m1
 rw [List.length_range] at h2
 generalize hm2:(List.range ((Wc1 c).c.nodes - ((Wc1 c).sent+1)).toNat).foldl (λ(m:Mm) (i:Nat)=>m.store ((Wc1 c).link ((Wc1 c).sent+1+i)) ((Wc1 c).sent+1+i+1)) m1=m2
 have h2:m2.w.length=m1.w.length∧m2.st.toNat≤m1.st.toNat+((Wc1 c).c.nodes - ((Wc1 c).sent+1)).toNat:=by subst hm2;exact h2
 have h3:=Wu6 m2 2 1
 generalize m2.store 2 1=m3 at *
 split
 ·exact ⟨by omega,by omega⟩
 ·have h4:=Wu6 m3 ((Wc1 c).node 1 3) (Wc1 c).c.level
  generalize m3.store ((Wc1 c).node 1 3) (Wc1 c).c.level=m4 at *
  have h5:=Wu6 m4 ((Wc1 c).node 2 0) 18446744073709551615
  generalize m4.store ((Wc1 c).node 2 0) 18446744073709551615=m5 at *
  have h6:=WB5 (λi=>((Wc1 c).node 1 (5+i),Wm6 2 false 0)) (List.range (Wc1 c).c.level.toNat) m5
  rw [List.length_range] at h6
  dsimp only at h6
  exact ⟨by omega,by omega⟩
theorem Yb1 (c:Mod.Cf):∀n:Nat,WZ5 (List.replicate n (WC3 c))=n
 | 0=>rfl
 | n+1=>by
  have ih:=Yb1 c n
  simp only [List.replicate_succ,WZ5,List.map_cons,List.sum_cons] at *
  have:(WC3 c).L=1:=rfl
  omega
theorem MacOk.new (hc:okC c=true) (b:List Int) (g:Bool):MacOk Q c 0 (Wn1 c b g):=by
 have hl:=YL1 hc
 have B:=Wp5 hc
 have b1:1≤c.threads∧c.threads≤6:=B.th
 have b2:1≤c.level∧c.level≤6:=B.lv
 refine ⟨hc,rfl,hl.1,?_,?_,?_⟩
 ·show (List.replicate c.threads.toNat (WC3 c)).length≤6
  rw [List.length_replicate];omega
 ·intro t ht
  have ht:t ∈ List.replicate c.threads.toNat (WC3 c):=ht
  rw [(List.mem_replicate.1 ht).2]
  refine ⟨λf hf=>(by cases hf),trivial,?_,?_,?_⟩ <;> (show ((List.replicate c.level.toNat (0:Int)).length:Int)=c.level;rw [List.length_replicate];omega)
 ·show (lay (Wc1 c)).st.toNat+(0:Int).toNat+WZ5 (List.replicate c.threads.toNat (WC3 c))≤_
  rw [Yb1]
  have:(0:Int).toNat=0:=rfl
  omega
end
end
end Go.Proofs.YtooaemmlgkdfoaaGreat
