/- Part 9 of what the proofs of this seat rest on: see the last text of the claim. -/
import Derived.Test.YtooaemmlgkdfoaaGreatQ8090446f5205
import Derived.Test.YtooaemmlgkdfoaaGreatProg
set_option linter.unusedSimpArgs false
set_option linter.unusedVariables false
set_option linter.ambiguousOpen false
set_option maxRecDepth 20000
namespace Go.Proofs.YtooaemmlgkdfoaaGreat
section
open Mod
abbrev rV (M T b o:Nat):Value:=.agg #[mP M,mP T,fP b o]
theorem Ww0 {p:Pl} (B:PlB p) (n f:Int):iN (p.node n f):=by
 have h1:=B.no
 have h2:=B.wi
 have h3:=B.nd
 have h4:=B.li
 unfold Pl.node
 split
 ·rename_i c
  have:(n - 1)*p.width≤64*11:=Int.mul_le_mul (by omega) (by omega) (by omega) (by omega)
  have h0:0≤(n - 1)*p.width:=Int.mul_nonneg (by omega) (by omega)
  constructor <;> omega
 ·constructor <;> omega
theorem Yp1 {p:Pl} (B:PlB p) (n:Int):iN (p.at n):=by
 have h1:=B.tr
 have h2:=B.si
 have h3:=B.nd
 have h4:=B.li
 unfold Pl.at
 split <;> constructor <;> omega
theorem Yp2 {u v:Int} (h1:U u) (h2:U v):∀w ∈ [u,v],U w:=by
 intro w hw
 simp only [List.mem_cons,List.not_mem_nil,or_false] at hw
 rcases hw with rfl | rfl
 ·exact h1
 ·exact h2
section
variable {K:Value→Wa1→Prop} {h:Wa1} {M T b o N:Nat} {tv:Value} {fo:Option (Nat × Nat)} {x:Run} {R:Hp}
theorem Wf9 (i:Nat) (hi:Nat.ble (i+1) 10=true) (H:Sat h (RunS M T tv (some (b,o)) x R)) (k:∀h',Sat h' (RunS M T tv (some (b,o)) x R)→K (.int .u64 (x.f.g i)) h') :
  Wa6 Tryz.prog 186 #[rV M T b o,.int .i64 (i:Int)] h K:=by
 refine call186 ?_
 unfold F186 g186 bd lP nP
 have H1:=RunS.new H (.cells #[mP M,mP T,fP b o] 200);generalize h.push (.cells #[mP M,mP T,fP b o] 200)=h1 at *;generalize h.size=N at *
 have hi':i < 10:=by rw [Nat.ble_eq] at hi;omega
 try simp only [Wa9,bsx,Nat.reduceAdd,Int.reduceLE,Int.reduceLT,Int.reduceToNat,RunS.l H1]
 refine ⟨by omega,by omega,?_⟩
 rw [show o+(2+i)=o+(i+2) by omega,RunS.rg H1 hi]
 try simp only [Wa9,bsx,Nat.reduceAdd,Int.reduceLE,Int.reduceLT,Int.reduceToNat]
 exact k h1 (RunS.drp H1)
theorem Wu7 (H:Sat h (RunS M T tv (some (b,o)) x R)) {pc fn:Int} {a:Option Addr} {l c:Nat} {rs:List Int} (A:Args R a l c rs) (hl:l≤10) (hd:x.t.fr.length < 1073741823)
  (k:∀h' b' o',¬ (b' = b∧o' = o)→WV2 h' (some (b,o)) (x.pc pc).f→Sat h' (RunS M T tv (some (b',o')) (x.call pc fn rs) R)→K (.tuple #[]) h') :
  Wa6 Tryz.prog 178 #[rV M T b o,.int .i64 pc,.int .i64 fn,.slice a l c] h K:=by
 refine call178 ?_
 unfold F178 g178 cf lP nP
 have H1:=RunS.new H (.cells #[mP M,mP T,fP b o] 200);generalize h.push (.cells #[mP M,mP T,fP b o] 200)=h1 at *;generalize h.size=N at *
 try simp only [Wa9,bsx,Nat.reduceAdd,Int.reduceLE,Int.reduceLT,Int.reduceToNat,RunS.l H1]
 refine RunS.stP H1 λh2 H2=>?_
 try simp only [Wa9,bsx,Nat.reduceAdd,Int.reduceLE,Int.reduceLT,Int.reduceToNat,RunS.l H2]
 refine Wa0 (YH3 H2 A.skip hl (by show (x.t.fr.dropLast ++ [_]).length < _;simp;omega) λh3 b' o' h1 h2 H3=>k h3 b' o' (λe=>h1 b o rfl e) h2 (RunS.drp H3))
theorem YT1 (H:Sat h (RunS M T tv fo x R)) {l:Nat} (rs:List Int) {ty:TypeId} (hr:rs.length=l) (hu:∀v ∈ rs,U v) (hl:Nat.ble l 3=true) (k:∀h',Sat h' (RunS M T tv none (x.pop rs) R)→K (.tuple #[]) h') :
 Wa6 Tryz.prog 121 #[mP T,.slice (some ⟨h.size,0,none⟩) l l] (h.push (.cells (uvs rs).toArray ty)) K:=Yc8 H rs hr hu (Nat.le_of_ble_eq_true hl) k
theorem Wq0 (H:Sat h (RunS M T tv (some (b,o)) x R)) {pc fn:Int} {l:Nat} (rs:List Int) {ty:TypeId} (hr:rs.length=l) (hu:∀v ∈ rs,U v) (hl:Nat.ble l 10=true) (hd:x.t.fr.length < 1073741823)
  (k:∀h' b' o',¬ (b' = b∧o' = o)→WV2 h' (some (b,o)) (x.pc pc).f→Sat h' (RunS M T tv (some (b',o')) (x.call pc fn rs) R)→K (.tuple #[]) h') :
  Wa6 Tryz.prog 178 #[rV M T b o,.int .i64 pc,.int .i64 fn,.slice (some ⟨h.size,0,none⟩) l l] (h.push (.cells (uvs rs).toArray ty)) K:=
 Wu7 (RunS.new H (.cells (uvs rs).toArray ty)) (Args.mk' hr hu) (Nat.le_of_ble_eq_true hl) hd λh' b' o' h1 h2 H'=>k h' b' o' h1 h2 (RunS.drp H')
theorem Wr7 (H:Sat h (RunS M T tv fo x R)) {pl:Int} (k:∀h',Sat h' (RunS M T tv fo x R)→K (.int .i64 (x.at pl)) h') :
  Wa6 Tryz.prog 179 #[rV M T b o,.int .u64 pl] h K:=by
 refine call179 ?_
 unfold F179 g179 cf lP Wv2
 have H1:=RunS.new H (.cells #[mP M,mP T,fP b o] 200);generalize h.push (.cells #[mP M,mP T,fP b o] 200)=h1 at *;generalize h.size=N at *
 try simp only [Wa9,bsx,Nat.reduceAdd,Int.reduceLE,Int.reduceLT,Int.reduceToNat,RunS.l H1]
 refine Wa0 (WA0 H1 λh2 H2=>WR1 ?_)
 refine Wa0 (WE9 (RunS.pl H) (Wk4 _) λh3 o3=>?_)
 try simp only [Wa9,bsx,Nat.reduceAdd,Int.reduceLE,Int.reduceLT,Int.reduceToNat]
 exact k h3 (RunS.drp (RunS.old H2 o3))
theorem Wu8 (H:Sat h (RunS M T tv fo x R)) {w f:Int} (hw:U w) (hf:iN f) (k:∀h',Sat h' (RunS M T tv fo x R)→K (.int .i64 (x.nodeW w f)) h') :
  Wa6 Tryz.prog 181 #[rV M T b o,.int .u64 w,.int .i64 f] h K:=by
 refine call181 ?_
 unfold F181 g181 cf lP Wv2
 have H1:=RunS.new H (.cells #[mP M,mP T,fP b o] 200);generalize h.push (.cells #[mP M,mP T,fP b o] 200)=h1 at *;generalize h.size=N at *
 try simp only [Wa9,bsx,Nat.reduceAdd,Int.reduceLE,Int.reduceLT,Int.reduceToNat,RunS.l H1]
 refine Wa0 (WA0 H1 λh2 H2=>WR1 ?_)
 refine Wa0 (Wh4 hw ?_)
 try simp only [Wa9,bsx,Nat.reduceAdd,Int.reduceLE,Int.reduceLT,Int.reduceToNat]
 refine Wa0 (Wf5 (RunS.pl H) (WP3 _) hf λh3 o3=>?_)
 try simp only [Wa9,bsx,Nat.reduceAdd,Int.reduceLE,Int.reduceLT,Int.reduceToNat]
 exact k h3 (RunS.drp (RunS.old H2 o3))
theorem Ww1 (H:Sat h (RunS M T tv fo x R)) {pl w ptr:Int} {d:Bool} (hw:U w) (hs:x.m.mm.st < 1099511627776) (k:∀h',Sat h' (RunS M T tv fo (x.swing pl w ptr d).2 R)→K (.bool (x.swing pl w ptr d).1) h') :
  Wa6 Tryz.prog 187 #[rV M T b o,.int .u64 pl,.int .u64 w,.int .i64 ptr,.bool d] h K:=by
 refine call187 ?_
 unfold F187 g187 cf ce dl3
 have H1:=RunS.new H (.cells #[mP M,mP T,fP b o] 200);generalize h.push (.cells #[mP M,mP T,fP b o] 200)=h1 at *;generalize h.size=N at *
 try simp only [Wa9,bsx,Nat.reduceAdd,Int.reduceLE,Int.reduceLT,Int.reduceToNat,RunS.l H1]
 refine Wa0 (Wr7 H1 λh2 H2=>?_)
 try simp only [Wa9,bsx,Nat.reduceAdd,Int.reduceLE,Int.reduceLT,Int.reduceToNat,RunS.l H2]
 refine Wa0 (Wp9 hw ?_)
 try simp only [Wa9,bsx,Nat.reduceAdd,Int.reduceLE,Int.reduceLT,Int.reduceToNat,RunS.l H2]
 refine Wa0 (YS3 H2 (Yp1 (RunS.pl H) _) WE8 hs λh3 H3=>?_)
 try simp only [Wa9,bsx,Nat.reduceAdd,Int.reduceLE,Int.reduceLT,Int.reduceToNat]
 exact k h3 (RunS.drp H3)
theorem Wq1 (H:Sat h (RunS M T tv (some (b,o)) x R)) {k7 k8 k9:Int} (h7:U k7) (h8:U k8) (h9:U k9) (hd:x.t.fr.length < 1073741823)
  (k:∀h' b' o',¬ (b' = b∧o' = o)→WV2 h' (some (b,o)) ((((x.s 7 k7).s 8 k8).s 9 k9).pc 90).f→Sat h' (RunS M T tv (some (b',o')) (x.fin k7 k8 k9) R)→K (.tuple #[]) h') :
  Wa6 Tryz.prog 188 #[rV M T b o,.int .u64 k7,.int .u64 k8,.int .u64 k9] h K:=by
 refine call188 ?_
 unfold F188 g188 cf ce bd lP nP dl3
 have H1:=RunS.new H (.cells #[mP M,mP T,fP b o] 200);generalize h.push (.cells #[mP M,mP T,fP b o] 200)=h1 at *;generalize h.size=N at *
 try simp only [Wa9,bsx,Nat.reduceAdd,Int.reduceLE,Int.reduceLT,Int.reduceToNat,RunS.l H1]
 refine RunS.stR (i:=7) H1 rfl h7 λh2 H2=>?_
 try simp only [Wa9,bsx,Nat.reduceAdd,Int.reduceLE,Int.reduceLT,Int.reduceToNat,RunS.l H2]
 refine RunS.stR (i:=8) H2 rfl h8 λh3 H3=>?_
 try simp only [Wa9,bsx,Nat.reduceAdd,Int.reduceLE,Int.reduceLT,Int.reduceToNat,RunS.l H3]
 refine RunS.stR (i:=9) H3 rfl h9 λh4 H4=>?_
 try simp only [Wa9,bsx,Nat.reduceAdd,Int.reduceLE,Int.reduceLT,Int.reduceToNat,RunS.l H4]
 refine Wa0 (Wu7 H4 Args.none (by omega) ?_ λh5 b' o' h1 h2 H5=>k h5 b' o' h1 h2 (RunS.drp H5))
 have e:=List.length_pos_iff.2 (W06 (RunS.thr H))
 show ((((x.t.fr.dropLast ++ [_]).dropLast ++ [_]).dropLast) ++ [_]).length < _
 simp
 omega
theorem YT2 (H:Sat h (RunS M T tv (some (b,o)) x R)):0 < x.t.fr.length:=List.length_pos_iff.2 (W06 (RunS.thr H))
theorem Yd9 (H:Sat h (RunS M T tv (some (b,o)) x R)) (hs:x.m.mm.st < 1099511627776) (hd:x.t.fr.length < 1073741823) (k:∀h',Sat h' (RunS M T tv none (WN9 x) R)→K (.tuple #[]) h') :
  Wa6 Tryz.prog 122 #[rV M T b o] h K:=by
 refine call122 ?_
 unfold F122 g122 cf ce bd lP lI nP dl3
 have B:=RunS.fB H
 have P:=RunS.pl H
 unfold WN9 at k
 have H1:=RunS.new H (.cells #[mP M,mP T,fP b o] 200);generalize h.push (.cells #[mP M,mP T,fP b o] 200)=h1 at *;generalize h.size=N at *
 try simp +decide only [Wa9,bsx,Nat.reduceAdd,Int.reduceLE,Int.reduceLT,Int.reduceToNat,rsx,g_s,Wb5,RunS.l H1,RunS.r H1,RunS.tc H1]
 refine Wa7 (λc=>?_) (λc=>?_)
 ·rw [if_pos c] at k
  refine Wa0 (Wr7 H1 λh2 H2=>?_)
  try simp +decide only [Wa9,bsx,Nat.reduceAdd,Int.reduceLE,Int.reduceLT,Int.reduceToNat,rsx,g_s,Wb5,RunS.l H2,RunS.c H2]
  refine Wa0 (Wq0 H2 [1,u64 (x.at (x.f.g 0))] rfl (Yp2 (U.lit rfl) (Ws3 _)) rfl hd λh4 b' o' _ _ H4=>k h4 (RunS.drp (RunS.none H4)))
 ·rw [if_neg c] at k
  have hr:=(RunS.B H).ret.2
  have hr0:U (x.ret 0):=WU4 hr 0
  refine Wa0 (Wh4 hr0 ?_)
  try simp +decide only [Wa9,bsx,Nat.reduceAdd,Int.reduceLE,Int.reduceLT,Int.reduceToNat,rsx,g_s,Wb5,RunS.l H1]
  refine Wa7 (λc2=>?_) (λc2=>?_)
  ·rw [if_pos c2] at k
   exact Wa0 (YT1 H1 [x.ret 0,1099511627776] rfl (Yp2 hr0 (U.lit rfl)) rfl λh2 H2=>k h2 (RunS.drp H2))
  ·rw [if_neg c2] at k
   refine Wa0 (Wu8 H1 hr0 (by decide) λh2 H2=>?_)
   try simp only [Wa9,bsx,Nat.reduceAdd,Int.reduceLE,Int.reduceLT,Int.reduceToNat,RunS.l H2]
   refine Wa0 (WF9 H2 (Ww0 P _ _) hs λh3 H3 u3=>?_)
   try simp only [Wa9,bsx,Nat.reduceAdd,Int.reduceLE,Int.reduceLT,Int.reduceToNat,RunS.l H3]
   exact Wa0 (YT1 H3 [x.ret 0,(x.load (x.nodeW (x.ret 0) 0)).1] rfl (Yp2 hr0 u3) rfl λh4 H4=>k h4 (RunS.drp H4))
end
end
section
open Mod
theorem YN9 {n:Int} (h:U n):Mod.u64 ((((BitVec.ofInt 64 n) &&& (BitVec.ofInt 64 255)).toNat:Nat):Int)=n % 256:=by
 have h0:=h.1
 have h1:=h.2
 rw [BitVec.toNat_and,h.bv,show (BitVec.ofInt 64 255).toNat=2 ^ 8 - 1 from rfl,Nat.and_two_pow_sub_one_eq_mod]
 unfold Mod.u64
 omega
theorem YO0 (a b:Int):U (((Nat.lor (Mod.u64 a).toNat (Mod.u64 b).toNat:Nat)):Int):=by
 have ha:=Ws3 a
 have hb:=Ws3 b
 have:=Nat.or_lt_two_pow (x:=(Mod.u64 a).toNat) (y:=(Mod.u64 b).toNat) (n:=64) (by have:=ha.1;have:=ha.2;omega) (by have:=hb.1;have:=hb.2;omega)
 constructor
 ·omega
 ·have e:(Mod.u64 a).toNat ||| (Mod.u64 b).toNat=Nat.lor (Mod.u64 a).toNat (Mod.u64 b).toNat:=rfl
  rw [e] at this
  omega
theorem YO1 (a b:Int):Mod.u64 ((((BitVec.ofInt 64 (Mod.u64 a)) ||| (BitVec.ofInt 64 (Mod.u64 b))).toNat:Nat):Int)=((Nat.lor (Mod.u64 a).toNat (Mod.u64 b).toNat:Nat):Int):=by
 rw [BitVec.toNat_or,(Ws3 a).bv,(Ws3 b).bv]
 exact (YO0 a b).u64
section
variable {K:Value→Wa1→Prop} {h:Wa1} {M T b o N:Nat} {tv:Value} {fo:Option (Nat × Nat)} {x:Run} {R:Hp}
theorem WH0 (H:Sat h (RunS M T tv (some (b,o)) x R)) (k:∀h',Sat h' (RunS M T tv (some (b,o)) x R)→K (spV (WU0 x)) h') :
  Wa6 Tryz.prog 266 #[rV M T b o] h K:=by
 refine call266 ?_
 unfold F266 g266 bd lP lI nP dl2
 have B:=RunS.fB H
 have H1:=RunS.new H (.cells #[mP M,mP T,fP b o] 206);generalize h.push (.cells #[mP M,mP T,fP b o] 206)=h1 at *;generalize h.size=N at *
 have H2:=RunS.new H1 (.cells #[.int .i64 0,.int .i64 0] 338)
 generalize h1.push (.cells #[.int .i64 0,.int .i64 0] 338)=h2 at *
 generalize h1.size=N2 at *
 try simp +decide only [Wa9,bsx,Nat.reduceAdd,Int.reduceLE,Int.reduceLT,Int.reduceToNat,rsx,g_s,Wb5,RunS.l2 H2,RunS.r H2,YN9 (B.g 6)]
 have hg:=B.g 6
 have g0:=hg.1
 have g1:=hg.2
 rw [Wr3 (by omega),show s64 (x.f.g 6 / 256)=x.f.g 6 / 256 by unfold s64;omega,show s64 (x.f.g 6 % 256)=x.f.g 6 % 256 by unfold s64;omega]
 refine stR (RunS.loc H2) rfl trivial λh3 w3=>stR w3.new rfl trivial λh4 w4=>ldR w4.new rfl (ldR w4.new rfl ?_)
 exact k h4 (RunS.drp (RunS.drp (RunS.wr (RunS.wr H2 w3.new w3.old) w4.new w4.old)))
theorem WH1 (H:Sat h (RunS M T tv (some (b,o)) x R)) {s:Sp} (k:∀h',Sat h' (RunS M T tv (some (b,o)) (WO0 x s) R)→K (.tuple #[]) h') :
  Wa6 Tryz.prog 263 #[rV M T b o,spV s] h K:=by
 refine call263 ?_
 unfold F263 g263 bd lP lI nP
 have H1:=RunS.new H (.cells #[mP M,mP T,fP b o] 206);generalize h.push (.cells #[mP M,mP T,fP b o] 206)=h1 at *;generalize h.size=N at *
 have H2:=RunS.new H1 (.cells #[.int .i64 s.lo,.int .i64 s.hi] 338)
 generalize h1.push (.cells #[.int .i64 s.lo,.int .i64 s.hi] 338)=h2 at *
 generalize h1.size=N2 at *
 have O:=RunS.loc H2
 have l0:∀F:Value→Prop,ldH h2 ⟨N2,0,none⟩ F=F (.int .i64 s.lo):=λF=>by unfold ldH;rw [Wb6 O];rfl
 have l1:∀F:Value→Prop,ldH h2 ⟨N2,1,none⟩ F=F (.int .i64 s.hi):=λF=>by unfold ldH;rw [Wb6 O];rfl
 try simp +decide only [Wa9,bsx,Nat.reduceAdd,Int.reduceLE,Int.reduceLT,Int.reduceToNat,rsx,g_s,Wb5,RunS.l2 H2,l0,l1,YO1]
 exact RunS.stR (i:=6) H2 rfl (YO0 _ _) λh3 H3=>k h3 (RunS.drp (RunS.drp H3))
theorem WH2 (H:Sat h (RunS M T tv (some (b,o)) x R)) {l:Int} (hl:iN l) (k:∀h',Sat h' (RunS M T tv (some (b,o)) x R)→K (.int .u64 (Yb7 x l)) h') :
  Wa6 Tryz.prog 268 #[rV M T b o,.int .i64 l] h K:=by
 refine call268 ?_
 unfold F268 g268 cf bd lP lI nP
 have H1:=RunS.new H (.cells #[mP M,mP T,fP b o] 206);generalize h.push (.cells #[mP M,mP T,fP b o] 206)=h1 at *;generalize h.size=N at *
 try simp +decide only [Wa9,bsx,Nat.reduceAdd,Int.reduceLE,Int.reduceLT,Int.reduceToNat,rsx,g_s,Wb5,RunS.l H1,RunS.r H1]
 refine Wa0 (Yx9 hl ?_)
 try simp only [Wa9,bsx,Nat.reduceAdd,Int.reduceLE,Int.reduceLT,Int.reduceToNat]
 exact k h1 (RunS.drp H1)
theorem Ww2 (H:Sat h (RunS M T tv (some (b,o)) x R)) {ok:Bool} (hd:x.t.fr.length < 1000000002) (k:∀h',Sat h' (RunS M T tv none (WU1 x ok) R)→K (.tuple #[]) h') :
  Wa6 Tryz.prog 271 #[rV M T b o,.bool ok] h K:=by
 refine call271 ?_
 unfold F271 g271 cf bd lP nP da3
 have H1:=RunS.new H (.cells #[mP M,mP T,fP b o] 206);generalize h.push (.cells #[mP M,mP T,fP b o] 206)=h1 at *;generalize h.size=N at *
 unfold WU1 at k
 cases ok with
 | true=>
  try simp only [Wa9,bsx,Nat.reduceAdd,Int.reduceLE,Int.reduceLT,Int.reduceToNat,RunS.l H1]
  exact Wa0 (Wq1 H1 U0 U0 U0 (by omega) λh2 b' o' _ _ H2=>k h2 (RunS.drp (RunS.none H2)))
 | false=>
  try simp only [Wa9,bsx,Nat.reduceAdd,Int.reduceLE,Int.reduceLT,Int.reduceToNat,RunS.l H1]
  refine RunS.stR (i:=3) H1 rfl U0 λh2 H2=>?_
  try simp only [Wa9,bsx,Nat.reduceAdd,Int.reduceLE,Int.reduceLT,Int.reduceToNat,RunS.l H2]
  exact RunS.stP H2 λh3 H3=>k h3 (RunS.drp (RunS.none H3))
theorem RunS.ret (H:Sat h (RunS M T tv fo x R)) (i:Nat):U (x.ret i):=WU4 (RunS.B H).ret.2 i
theorem W20 (H:Sat h (RunS M T tv (some (b,o)) x R)) (O:Ok x) (hp:x.f.pc≤3) (k:∀h',Sat h' (RunS M T tv none (WO1 x) R)→K (.tuple #[]) h') :
  Wa6 Tryz.prog 182 #[rV M T b o] h K:=by
 refine call182 ?_
 unfold F182 g182 cf ce bd lP lI nP da3 Wv2
 have B:=RunS.fB H
 have P:=RunS.pl H
 have hp0:=O.pc
 have hd:=O.fr
 have r0:=RunS.ret H 0
 unfold WO1 at k
 dsimp only at k
 have H1:=RunS.new H (.cells #[mP M,mP T,fP b o] 206);generalize h.push (.cells #[mP M,mP T,fP b o] 206)=h1 at *;generalize h.size=N at *
 try simp +decide only [Wa9,bsx,Nat.reduceAdd,Int.reduceLE,Int.reduceLT,Int.reduceToNat,rsx,g_s,Wb5,RunS.l H1,RunS.r H1,RunS.tc H1]
 refine Wa7 (λc=>?_) (λc=>?_)
 ·rw [if_pos c] at k
  exact Wa0 (Wu7 H1 Args.none (by omega) (by omega) λh2 b' o' _ _ H2=>k h2 (RunS.drp (RunS.none H2)))
 rw [if_neg c] at k
 refine Wa7 (λc=>?_) (λc=>?_)
 ·rw [if_pos c] at k
  refine RunS.stR (i:=2) H1 rfl r0 λh2 H2=>?_
  try simp +decide only [Wa9,bsx,Nat.reduceAdd,Int.reduceLE,Int.reduceLT,Int.reduceToNat,rsx,g_s,Wb5,RunS.l H2,RunS.r H2,B.len]
  refine Wd0 (λc2=>?_) (λc2=>?_)
  ·have c2':x.ret 0≠0:=by simpa [Run.ret] using c2
   rw [if_pos c2'] at k
   exact RunS.stP H2 λh3 H3=>k h3 (RunS.drp (RunS.none H3))
  ·have c2':¬ x.ret 0≠0:=by simpa [Run.ret] using c2
   rw [if_neg c2'] at k
   have hfl:=WG0 x 2 (x.ret 0)
   refine ⟨λvs h'=>(∃w,vs = [.bool (decide (x.f.g 3=0∧x.t.retired.length > 0)),w])∧Sat h' (RunS M T tv (some (b,o)) (x.s 2 (x.ret 0)) (pt N (.cells #[mP M,mP T,fP b o] 206)*R)),?_,?_⟩
   ·refine Wa7 (λc3=>?_) (λc3=>?_)
    ·refine Wa0 (WA9 (RunS.thr H2) ?_)
     try simp only [Wa9,bsx,Nat.reduceAdd,Int.reduceLE,Int.reduceLT,Int.reduceToNat]
     have e:decide (((x.s 2 (x.ret 0)).t.retired.length:Int) > 0)=decide (x.f.g 3=0∧x.t.retired.length > 0):=by
      rw [decide_eq_decide]
      have e2:(x.s 2 (x.ret 0)).t.retired=x.t.retired:=rfl
      rw [e2]
      omega
     rw [e]
     exact ⟨⟨_,rfl⟩,H2⟩
    ·exact ⟨⟨_,by rw [decide_eq_false (λhh=>c3 hh.1)]⟩,H2⟩
   rintro v32 v33 g34 h35 ⟨⟨w,e⟩,H3⟩
   cases e
   try simp only [Wa9,bsx,Nat.reduceAdd,Int.reduceLE,Int.reduceLT,Int.reduceToNat]
   refine Wa7 (λc3=>?_) (λc3=>?_)
   ·rw [if_pos c3] at k
    refine RunS.stR (i:=3) H3 rfl (U.lit rfl) λh4 H4=>?_
    have hfl2:=WG0 (x.s 2 (x.ret 0)) 3 1
    try simp only [Wa9,bsx,Nat.reduceAdd,Int.reduceLE,Int.reduceLT,Int.reduceToNat,RunS.l H4]
    exact Wa0 (Wu7 H4 Args.none (by omega) (by omega) λh5 b' o' _ _ H5=>k h5 (RunS.drp (RunS.none H5)))
   ·rw [if_neg c3] at k
    try simp only [Wa9,bsx,Nat.reduceAdd,Int.reduceLE,Int.reduceLT,Int.reduceToNat,RunS.l H3]
    exact Wa0 (Wq1 H3 (U.lit rfl) U0 U0 (by omega) λh5 b' o' _ _ H5=>k h5 (RunS.drp (RunS.none H5)))
 rw [if_neg c] at k
 refine Wa7 (λc=>?_) (λc=>?_)
 ·rw [if_pos c] at k
  refine Wa0 (WA0 H1 λh2 H2=>WR1 ?_)
  try simp only [Wa9,bsx,Nat.reduceAdd,Int.reduceLE,Int.reduceLT,Int.reduceToNat,RunS.c H2,RunS.l H2]
  refine Wa0 (Wf5 P (Wk4 _) (by decide) λh3 o3=>?_)
  have H3:=RunS.old H2 o3
  try simp only [Wa9,bsx,Nat.reduceAdd,Int.reduceLE,Int.reduceLT,Int.reduceToNat,RunS.c H3,RunS.l H3]
  refine Wa0 (WL4 H3 (Ww0 P _ _) (B.g 0) O.st λh4 H4=>?_)
  exact RunS.stP H4 λh5 H5=>k h5 (RunS.drp (RunS.none H5))
 rw [if_neg c] at k
 refine Wa7 (λc=>?_) (λc=>by omega)
 ·refine Wa0 (WA0 H1 λh2 H2=>WR1 ?_)
  try simp only [Wa9,bsx,Nat.reduceAdd,Int.reduceLE,Int.reduceLT,Int.reduceToNat,RunS.c H2,RunS.l H2]
  refine Wa0 (Wf5 P (Wk4 _) (by decide) λh3 o3=>?_)
  have H3:=RunS.old H2 o3
  try simp only [Wa9,bsx,Nat.reduceAdd,Int.reduceLE,Int.reduceLT,Int.reduceToNat,RunS.c H3,RunS.l H3]
  refine Wa0 (WL4 H3 (Ww0 P _ _) (B.g 1) O.st λh4 H4=>?_)
  exact RunS.stR (i:=3) H4 rfl U0 λh5 H5=>RunS.stP H5 λh6 H6=>k h6 (RunS.drp (RunS.none H6))
theorem RunS.feed (H:Sat h (RunS M T tv fo x R)) (k:∀q R',Sat h (fdS q x.m.b x.m.used*R')→(∀h' u,Sat h' (fdS q x.m.b u*R')→Sat h' (RunS M T tv fo { x with m:=Mac.feed x.m u } R))→K (mP q) h) :
 Wa6 Tryz.prog 260 #[mP M] h K:=W05 H λq R' H1 re=>k q R' H1 λh' u H2=>re h' u H2
theorem W21 (H:Sat h (RunS M T tv (some (b,o)) x R)) (O:Ok x) (hp:4≤x.f.pc∧x.f.pc≤7) (k:∀h',Sat h' (RunS M T tv none (Wn1 x) R)→K (.tuple #[]) h') :
  Wa6 Tryz.prog 183 #[rV M T b o] h K:=by
 refine call183 ?_
 unfold F183 g183 cf ce bd lP lI nP da3 de2 de7 Wv2 dl3
 have B:=RunS.fB H
 have P:=RunS.pl H
 have hd:=O.fr
 have r1:=RunS.ret H 1
 unfold Wn1 at k
 dsimp only at k
 have H1:=RunS.new H (.cells #[mP M,mP T,fP b o] 206);generalize h.push (.cells #[mP M,mP T,fP b o] 206)=h1 at *;generalize h.size=N at *
 try simp only [Wa9,bsx,Nat.reduceAdd,Int.reduceLE,Int.reduceLT,Int.reduceToNat,RunS.l H1]
 refine Wa0 (WA0 H1 λh2 H2=>WR1 ?_)
 refine Wa0 (Wh5 λh3 o3=>cf7 ?_)
 have H3:=RunS.old H2 o3
 have H4:=RunS.new H3 (.cells #[.int .i64 0,.int .i64 0,.int .i64 0,.int .i64 0,.int .i64 0,.int .i64 0,.int .i64 0] 23)
 generalize h3.push (.cells #[.int .i64 0,.int .i64 0,.int .i64 0,.int .i64 0,.int .i64 0,.int .i64 0,.int .i64 0] 23)=h4 at *
 generalize h3.size=N2 at *
 refine st7 (Wd3 (vs:=cfc x.m.p.c) (RunS.loc H4) rfl (by simp [cfc,Wi3]) λh5 w=>?_)
 have H5:=RunS.wr H4 w.new w.old
 clear H1 H2 H3 H4 o3 w
 try simp +decide only [Wa9,bsx,Nat.reduceAdd,Int.reduceLE,Int.reduceLT,Int.reduceToNat,rsx,g_s,Wb5,RunS.l2 H5,RunS.r H5,RunS.tc H5]
 refine Wa7 (λc=>?_) (λc=>?_)
 ·rw [if_pos c] at k
  refine Wa0 (WF9 H5 (by decide) O.st λh6 H6 u6=>?_)
  try simp only [Wa9,bsx,Nat.reduceAdd,Int.reduceLE,Int.reduceLT,Int.reduceToNat]
  refine RunS.stR (i:=4) H6 rfl u6 λh7 H7=>?_
  try simp +decide only [Wa9,bsx,Nat.reduceAdd,Int.reduceLE,Int.reduceLT,Int.reduceToNat,rsx,g_s,Wb5,RunS.l2 H7,RunS.r H7,B.len]
  refine Wa0 (RunS.feed H7 λq R' HF re=>?_)
  try simp only [Wa9,bsx,Nat.reduceAdd,Int.reduceLE,Int.reduceLT,Int.reduceToNat]
  refine Wa0 (Wt3 (Wk4 _) ?_)
  try simp only [Wa9,bsx,Nat.reduceAdd,Int.reduceLE,Int.reduceLT,Int.reduceToNat]
  have hus:((x.load 2).2.s 4 (x.load 2).1).m.used < 1099511627776:=by
   have e:((x.load 2).2.s 4 (x.load 2).1).m.used=x.m.used:=by
    show (x.m.load 2).2.used=x.m.used
    unfold Mac.load
    dsimp only
    have:=(Wo8 x.m 2).2.2.2.1
    split <;> exact this
   rw [e];exact O.us
  have hb:=(W66 HF)
  obtain ⟨fa,fc,FF,_⟩:=hb
  refine Wa0 (W01 HF hus (λhn=>?_) (λhn h8 H8=>?_))
  ·try simp only [Wa9,bsx,Nat.reduceAdd,Int.reduceLE,Int.reduceLT,Int.reduceToNat]
   refine Wa0 (WL9 (Wk4 _) ?_)
   try simp only [Wa9,bsx,Nat.reduceAdd,Int.reduceLE,Int.reduceLT,Int.reduceToNat]
   refine RunS.stR (i:=5) H7 rfl (Ws3 _) λh9 H9=>RunS.stP H9 λh10 H10=>k h10 ?_
   have e:(((x.load 2).2.s 4 (x.load 2).1).m.next (Wf1 (s64 (x.load 2).1)))=(0,((x.load 2).2.s 4 (x.load 2).1).m):=by unfold Mac.next;rw [if_pos hn]
   rw [e]
   exact RunS.drp (RunS.drp (RunS.none H10))
  ·try simp only [Wa9,bsx,Nat.reduceAdd,Int.reduceLE,Int.reduceLT,Int.reduceToNat]
   refine Wa0 (WL9 (Wk4 _) ?_)
   try simp only [Wa9,bsx,Nat.reduceAdd,Int.reduceLE,Int.reduceLT,Int.reduceToNat]
   refine RunS.stR (i:=5) (re h8 _ H8) rfl (Ws3 _) λh9 H9=>RunS.stP H9 λh10 H10=>k h10 ?_
   have e:(((x.load 2).2.s 4 (x.load 2).1).m.next (Wf1 (s64 (x.load 2).1)))=(drawn ((x.load 2).2.s 4 (x.load 2).1).m.b ((x.load 2).2.s 4 (x.load 2).1).m.used % Wf1 (s64 (x.load 2).1),Mac.feed ((x.load 2).2.s 4 (x.load 2).1).m (((x.load 2).2.s 4 (x.load 2).1).m.used+1)):=by
    unfold Mac.next Mac.take;rw [if_neg (by omega)];rfl
   rw [e]
   exact RunS.drp (RunS.drp (RunS.none H10))
 rw [if_neg c] at k
 refine Wa7 (λc=>?_) (λc=>?_)
 ·rw [if_pos c] at k
  exact Wa0 (Wq0 H5 [x.f.g 5] rfl (Ws4 (B.g 5)) rfl (by omega) λh6 b' o' _ _ H6=>k h6 (RunS.drp (RunS.drp (RunS.none H6))))
 rw [if_neg c] at k
 refine Wa7 (λc=>?_) (λc=>?_)
 ·rw [if_pos c] at k
  refine Wa7 (λc2=>?_) (λc2=>?_)
  ·rw [if_pos c2] at k
   refine Wa0 (Yo8 (Wk4 _) λh6 o6=>?_)
   have H6:=RunS.old H5 o6
   try simp only [Wa9,bsx,Nat.reduceAdd,Int.reduceLE,Int.reduceLT,Int.reduceToNat,RunS.l2 H6,RunS.c H6]
   refine Wi0 rfl (Wa5 rfl (Wa5 rfl ?_))
   try simp only [Wa9,bsx,Nat.reduceAdd,Int.reduceLE,Int.reduceLT,Int.reduceToNat,RunS.l2 H6,RunS.c H6]
   refine Wa0 (WH1 H6 (s:=YG2 (s64 (x.f.g 4))) λh7 H7=>?_)
   exact RunS.stP H7 λh8 H8=>k h8 (RunS.drp (RunS.drp (RunS.none H8)))
  ·rw [if_neg c2] at k
   refine RunS.stR (i:=3) H5 rfl (Ws3 _) λh6 H6=>RunS.stP H6 λh7 H7=>?_
   have O7:=RunS.loc H7
   have l5:∀F:Value→Prop,ldH h7 ⟨N2,5,none⟩ F=F (.int .i64 x.m.p.c.probes):=λF=>by unfold ldH;rw [Wb6 O7];rfl
   try simp +decide only [Wa9,bsx,Nat.reduceAdd,Int.reduceLE,Int.reduceLT,Int.reduceToNat,rsx,g_s,Wb5,RunS.l2 H7,RunS.r H7,B.len,l5]
   refine Wa7 (λc3=>?_) (λc3=>?_)
   ·rw [if_pos c3] at k
    exact RunS.stP H7 λh8 H8=>k h8 (RunS.drp (RunS.drp (RunS.none H8)))
   ·rw [if_neg c3] at k
    exact k h7 (RunS.drp (RunS.drp (RunS.none H7)))
 rw [if_neg c] at k
 refine Wa7 (λc=>?_) (λc=>by omega)
 have O5:=RunS.loc H5
 have l3:∀F:Value→Prop,ldH h5 ⟨N2,3,none⟩ F=F (.int .i64 x.m.p.c.level):=λF=>by unfold ldH;rw [Wb6 O5];rfl
 try simp +decide only [Wa9,bsx,Nat.reduceAdd,Int.reduceLE,Int.reduceLT,Int.reduceToNat,rsx,g_s,Wb5,RunS.l2 H5,RunS.r H5,l3]
 refine Wa7 (λc2=>?_) (λc2=>?_)
 ·rw [if_pos c2] at k
  refine Wa0 (Wq1 H5 (U.lit rfl) U0 U0 (by omega) λh6 b' o' _ st H6=>?_)
  have e2:Wa2 h6 ⟨b,o+4,none⟩=some (.int .u64 (x.f.g 2)):=by
   have e:(((((x.s 7 1).s 8 0).s 9 0).pc 90).f).g 2=x.f.g 2:=by try simp +decide only [Wa9,bsx,Nat.reduceAdd,Int.reduceLE,Int.reduceLT,Int.reduceToNat,rsx,g_s,Wb5,B.len]
   rw [← e]
   exact st b o 4 _ rfl rfl
  have ld2:∀F:Value→Prop,ldH h6 ⟨b,o+4,none⟩ F=F (.int .u64 (x.f.g 2)):=λF=>by unfold ldH;rw [e2]
  try simp only [Wa9,bsx,Nat.reduceAdd,Int.reduceLE,Int.reduceLT,Int.reduceToNat,RunS.l2 H6,ld2]
  refine Wa0 (Ym7 H6 [x.f.g 2] rfl (Ws4 (B.g 2)) (by omega) ?_ λh7 b'' o'' _ _ H7=>k h7 (RunS.drp (RunS.drp (RunS.none H7))))
  have l1:=WG0 x 7 1
  have l2:=WG0 (x.s 7 1) 8 0
  have l3:=WG0 ((x.s 7 1).s 8 0) 9 0
  have l4:=WL5 (((x.s 7 1).s 8 0).s 9 0) 90
  show ((((((x.s 7 1).s 8 0).s 9 0).pc 90).t.fr) ++ [_]).length < _
  rw [List.length_append]
  simp only [List.length_singleton]
  omega
 ·rw [if_neg c2] at k
  refine Wa0 (YS3 H5 (by decide) (Ws3 _) O.st λh6 H6=>?_)
  try simp only [Wa9,bsx,Nat.reduceAdd,Int.reduceLE,Int.reduceLT,Int.reduceToNat]
  exact RunS.stR (i:=3) H6 rfl U0 λh7 H7=>RunS.stP H7 λh8 H8=>k h8 (RunS.drp (RunS.drp (RunS.none H8)))
theorem W22 (H:Sat h (RunS M T tv (some (b,o)) x R)) (O:Ok x) (hp:8≤x.f.pc∧x.f.pc≤9) (k:∀h',Sat h' (RunS M T tv none (WO2 x) R)→K (.tuple #[]) h') :
  Wa6 Tryz.prog 184 #[rV M T b o] h K:=by
 refine call184 ?_
 unfold F184 g184 cf ce bd lP lI nP da3 de2 dl2 dl3
 have B:=RunS.fB H
 have P:=RunS.pl H
 have hd:=O.fr
 unfold WO2 at k
 dsimp only at k
 have H1:=RunS.new H (.cells #[mP M,mP T,fP b o] 206);generalize h.push (.cells #[mP M,mP T,fP b o] 206)=h1 at *;generalize h.size=N at *
 try simp only [Wa9,bsx,Nat.reduceAdd,Int.reduceLE,Int.reduceLT,Int.reduceToNat,RunS.l H1]
 refine Wa0 (WH0 H1 λh2 H2=>?_)
 try simp only [Wa9,bsx,Nat.reduceAdd,Int.reduceLE,Int.reduceLT,Int.reduceToNat]
 refine Wi0 rfl (Wa5 rfl (Wa5 rfl ?_))
 have H3:=RunS.new H2 (.cells #[.int .i64 0,.int .i64 0] 338)
 generalize h2.push (.cells #[.int .i64 0,.int .i64 0] 338)=h3 at *
 generalize h2.size=N2 at *
 refine stR (RunS.loc H3) rfl trivial λh4 w4=>stR w4.new rfl trivial λh5 w5=>?_
 have H5:=RunS.wr (RunS.wr H3 w4.new w4.old) w5.new w5.old
 clear H1 H2 H3 w4 w5
 generalize hs:WU0 x=s at *
 have O5:=RunS.loc H5
 have l0:∀F:Value→Prop,ldH h5 ⟨N2,0,none⟩ F=F (.int .i64 s.lo):=λF=>by unfold ldH;rw [Wb6 O5];rfl
 have l1:∀F:Value→Prop,ldH h5 ⟨N2,1,none⟩ F=F (.int .i64 s.hi):=λF=>by unfold ldH;rw [Wb6 O5];rfl
 try simp +decide only [Wa9,bsx,Nat.reduceAdd,Int.reduceLE,Int.reduceLT,Int.reduceToNat,rsx,g_s,Wb5,RunS.l2 H5,RunS.r H5,RunS.tc H5,l0,l1]
 refine Wa7 (λc=>?_) (λc=>?_)
 ·rw [if_pos c] at k
  refine Wa0 (WM0 λh6 o6=>?_)
  have H6:=RunS.old H5 o6
  have O6:=RunS.loc H6
  have m0:∀F:Value→Prop,ldH h6 ⟨N2,0,none⟩ F=F (.int .i64 s.lo):=λF=>by unfold ldH;rw [Wb6 O6];rfl
  have m1:∀F:Value→Prop,ldH h6 ⟨N2,1,none⟩ F=F (.int .i64 s.hi):=λF=>by unfold ldH;rw [Wb6 O6];rfl
  try simp +decide only [Wa9,bsx,Nat.reduceAdd,Int.reduceLE,Int.reduceLT,Int.reduceToNat,rsx,g_s,Wb5,RunS.l2 H6,RunS.r H6,m0,m1]
  refine Wd0 (λc2=>?_) (λc2=>?_)
  ·rw [if_pos c2] at k
   exact RunS.stP H6 λh7 H7=>k h7 (RunS.drp (RunS.drp (RunS.none H7)))
  ·rw [if_neg (by rw [c2];simp)] at k
   refine Wa0 (WG9 λh7 o7=>?_)
   have H7:=RunS.old H6 o7
   have hm:=Yo9 s
   try simp only [Wa9,bsx,Nat.reduceAdd,Int.reduceLE,Int.reduceLT,Int.reduceToNat,RunS.l2 H7]
   refine Wa0 (WH2 H7 ⟨by omega,by omega⟩ λh8 H8=>?_)
   try simp only [Wa9,bsx,Nat.reduceAdd,Int.reduceLE,Int.reduceLT,Int.reduceToNat,RunS.l2 H8]
   exact Wa0 (Wq0 H8 [Yb7 x s.mid] rfl (Ws4 (Ws3 _)) rfl (by omega) λh9 b' o' _ _ H9=>k h9 (RunS.drp (RunS.drp (RunS.none H9))))
 rw [if_neg c] at k
 refine Wa7 (λc=>?_) (λc=>by omega)
 refine Wa0 (Yp0 λh6 o6=>?_)
 have H6:=RunS.old H5 o6
 try simp only [Wa9,bsx,Nat.reduceAdd,Int.reduceLE,Int.reduceLT,Int.reduceToNat,RunS.l2 H6]
 refine Wi0 rfl (Wa5 rfl (Wa5 rfl ?_))
 try simp only [Wa9,bsx,Nat.reduceAdd,Int.reduceLE,Int.reduceLT,Int.reduceToNat,RunS.l2 H6]
 refine Wa0 (WH1 H6 λh7 H7=>?_)
 try simp only [Wa9,bsx,Nat.reduceAdd,Int.reduceLE,Int.reduceLT,Int.reduceToNat,RunS.l2 H7]
 exact RunS.stP H7 λh8 H8=>k h8 (RunS.drp (RunS.drp (RunS.none H8)))
theorem Ye0 (H:Sat h (RunS M T tv (some (b,o)) x R)) (O:Ok x) (k:∀h',Sat h' (RunS M T tv none (Yw6 x) R)→K (.tuple #[]) h') :
  Wa6 Tryz.prog 185 #[rV M T b o] h K:=by
 refine call185 ?_
 unfold F185 g185 cf bd lP lI nP da3 dc3 de2 Wv2 dl3 ce
 have B:=RunS.fB H
 have P:=RunS.pl H
 have hd:=O.fr
 have r0:=RunS.ret H 0
 have r1:=RunS.ret H 1
 unfold Yw6 at k
 dsimp only at k
 have H1:=RunS.new H (.cells #[mP M,mP T,fP b o] 206);generalize h.push (.cells #[mP M,mP T,fP b o] 206)=h1 at *;generalize h.size=N at *
 try simp only [Wa9,bsx,Nat.reduceAdd,Int.reduceLE,Int.reduceLT,Int.reduceToNat,RunS.l H1]
 refine Wa0 (WH0 H1 λh2 H2=>?_)
 try simp only [Wa9,bsx,Nat.reduceAdd,Int.reduceLE,Int.reduceLT,Int.reduceToNat]
 refine Wi0 rfl (Wa5 rfl (Wa5 rfl ?_))
 try simp only [Wa9,bsx,Nat.reduceAdd,Int.reduceLE,Int.reduceLT,Int.reduceToNat,RunS.l H2]
 have hsl:iN (WU0 x).lo:=by
  have hg:=B.g 6
  have g0:=hg.1
  have g1:=hg.2
  unfold WU0
  constructor <;> simp only <;> omega
 refine Wa0 (WH2 H2 hsl λh3 H3=>?_)
 try simp only [Wa9,bsx,Nat.reduceAdd,Int.reduceLE,Int.reduceLT,Int.reduceToNat,RunS.l H3]
 refine Wa0 (Wf9 3 rfl H3 λh4 H4=>?_)
 clear H1 H2 H3
 have hpl:U (Yb7 x (WU0 x).lo):=Ws3 _
 generalize Yb7 x (WU0 x).lo=place at *
 try simp +decide only [Wa9,bsx,Nat.reduceAdd,Int.reduceLE,Int.reduceLT,Int.reduceToNat,rsx,g_s,Wb5,RunS.l H4,RunS.r H4,RunS.tc H4]
 refine Wa7 (λc=>?_) (λc=>?_)
 ·rw [if_pos c] at k
  exact Wa0 (Wq0 H4 [place] rfl (Ws4 hpl) rfl (by omega) λh5 b' o' _ _ H5=>k h5 (RunS.drp (RunS.none H5)))
 rw [if_neg c] at k
 refine Wa7 (λc=>?_) (λc=>?_)
 ·rw [if_pos c] at k
  refine Wa7 (λc2=>?_) (λc2=>?_)
  ·rw [if_pos c2] at k
   exact RunS.stR (i:=3) H4 rfl U0 λh5 H5=>RunS.stP H5 λh6 H6=>k h6 (RunS.drp (RunS.none H6))
  ·rw [if_neg c2] at k
   refine RunS.stR (i:=3) H4 rfl r0 λh5 H5=>?_
   try simp +decide only [Wa9,bsx,Nat.reduceAdd,Int.reduceLE,Int.reduceLT,Int.reduceToNat,rsx,g_s,Wb5,RunS.l H5,RunS.r H5,B.len]
   refine Wa0 (WA0 H5 λh6 H6=>WR1 ?_)
   try simp +decide only [Wa9,bsx,Nat.reduceAdd,Int.reduceLE,Int.reduceLT,Int.reduceToNat,rsx,g_s,Wb5,RunS.l H6,RunS.c H6,B.len]
   refine Wa0 (Wf5 P (Wk4 _) (by decide) λh7 o7=>?_)
   have H7:=RunS.old H6 o7
   try simp only [Wa9,bsx,Nat.reduceAdd,Int.reduceLE,Int.reduceLT,Int.reduceToNat,RunS.l H7]
   refine Wa0 (Wf9 3 rfl H7 λh8 H8=>?_)
   try simp +decide only [Wa9,bsx,Nat.reduceAdd,Int.reduceLE,Int.reduceLT,Int.reduceToNat,rsx,g_s,Wb5,RunS.l H8,B.len]
   refine Wa0 (Wh4 r0 ?_)
   try simp +decide only [Wa9,bsx,Nat.reduceAdd,Int.reduceLE,Int.reduceLT,Int.reduceToNat,rsx,g_s,Wb5,RunS.l H8]
   refine Wa0 (WL4 H8 (Ww0 P _ _) (WV4 _) O.st λh9 H9=>?_)
   refine RunS.stP H9 λh10 H10=>?_
   refine Wa7 (λc3=>?_) (λc3=>?_)
   ·rw [if_pos c3] at k
    exact RunS.stP H10 λh11 H11=>k h11 (RunS.drp (RunS.none H11))
   ·rw [if_neg c3] at k
    exact k h10 (RunS.drp (RunS.none H10))
 rw [if_neg c] at k
 refine Wa7 (λc=>?_) (λc=>?_)
 ·rw [if_pos c] at k
  refine Wa0 (Wp8 (B.g 3) ?_)
  try simp +decide only [Wa9,bsx,Nat.reduceAdd,Int.reduceLE,Int.reduceLT,Int.reduceToNat,rsx,g_s,Wb5,RunS.al H4]
  refine Wa0 (Ww1 H4 (B.g 3) O.st λh5 H5=>?_)
  try simp +decide only [Wa9,bsx,Nat.reduceAdd,Int.reduceLE,Int.reduceLT,Int.reduceToNat,rsx,g_s,Wb5,RunS.al H5]
  exact Wa0 (Ww2 H5 (show x.t.fr.length < _ by omega) λh6 H6=>k h6 (RunS.drp H6))
 have e2:Int.fdiv place 2=place / 2:=Wr3 (by omega)
 have e3:Int.tdiv place 2=place / 2:=Int.tdiv_eq_ediv_of_nonneg hpl.1
 have hu:U (place / 2):=⟨by have:=hpl.1;omega,by have:=hpl.2;have:=hpl.1;omega⟩
 rw [if_neg c] at k
 refine Wa7 (λc=>?_) (λc=>?_)
 ·rw [if_pos c] at k
  try simp only [Wa9,bsx,Nat.reduceAdd,Int.reduceLE,Int.reduceLT,Int.reduceToNat,e2,e3,hu.u64]
  try refine ⟨by decide,?_⟩
  exact Wa0 (Wq0 H4 [place / 2] rfl (Ws4 hu) rfl (by omega) λh5 b' o' _ _ H5=>k h5 (RunS.drp (RunS.none H5)))
 rw [if_neg c] at k
 refine Wa7 (λc=>?_) (λc=>?_)
 ·rw [if_pos c] at k
  refine Wa7 (λc2=>?_) (λc2=>?_)
  ·rw [if_pos c2] at k
   exact Wa0 (Ww2 H4 (by omega) λh5 H5=>k h5 (RunS.drp H5))
  ·rw [if_neg c2] at k
   refine Wa0 (Wr7 H4 λh5 H5=>?_)
   try simp +decide only [Wa9,bsx,Nat.reduceAdd,Int.reduceLE,Int.reduceLT,Int.reduceToNat,rsx,g_s,Wb5,RunS.al H5]
   refine Wa0 (Wp8 (B.g 3) ?_)
   try simp +decide only [Wa9,bsx,Nat.reduceAdd,Int.reduceLE,Int.reduceLT,Int.reduceToNat,rsx,g_s,Wb5,RunS.al H5]
   refine Wa0 (Wp9 (B.g 3) ?_)
   try simp +decide only [Wa9,bsx,Nat.reduceAdd,Int.reduceLE,Int.reduceLT,Int.reduceToNat,rsx,g_s,Wb5,RunS.al H5,e2,e3,hu.u64]
   refine Wa0 (Wr7 H5 λh6 H6=>?_)
   try simp +decide only [Wa9,bsx,Nat.reduceAdd,Int.reduceLE,Int.reduceLT,Int.reduceToNat,rsx,g_s,Wb5,RunS.al H6,e2,e3,hu.u64]
   refine Wa0 (YS4 H6 (Yp1 P _) (Yp1 P _) WE8 O.st λh7 H7=>?_)
   try simp +decide only [Wa9,bsx,Nat.reduceAdd,Int.reduceLE,Int.reduceLT,Int.reduceToNat,rsx,g_s,Wb5,RunS.al H7]
   exact Wa0 (Ww2 H7 (show x.t.fr.length < _ by omega) λh8 H8=>k h8 (RunS.drp H8))
 rw [if_neg c] at k
 exact k h4 (RunS.drp (RunS.none H4))
end
end
section
set_option maxRecDepth 100000

end
section
open Mod
def Thr.setPl (t:Thr) (p s w:List Int):Thr:={ t with pred:=p,succ:=s,word:=w }
section
variable {K:Value→Wa1→Prop} {h:Wa1} {M T b o N:Nat} {tv:Value} {fo:Option (Nat × Nat)} {x:Run} {R:Hp}
end
end
section
open Mod
section
variable {K:Value→Wa1→Prop} {h:Wa1} {M T b o N:Nat} {tv:Value} {fo:Option (Nat × Nat)} {x:Run} {R:Hp}
end
end
section
open Mod
section
variable {K:Value→Wa1→Prop} {h:Wa1} {M T b o N:Nat} {tv:Value} {fo:Option (Nat × Nat)} {x:Run} {R:Hp}
end
end
section
open Mod
section
variable {K:Value→Wa1→Prop} {h:Wa1} {M T b o N:Nat} {tv:Value} {fo:Option (Nat × Nat)} {x:Run} {R:Hp}
end
end
section
set_option maxRecDepth 100000

end
section
open Mod
section
variable {K:Value→Wa1→Prop} {h:Wa1} {M T b o N:Nat} {tv:Value} {fo:Option (Nat × Nat)} {x:Run} {R:Hp}
end
end
section
open Mod
theorem and1 {n:Int} (h:U n):Mod.u64 ((((BitVec.ofInt 64 n) &&& (BitVec.ofInt 64 1)).toNat:Nat):Int)=n % 2:=by
 obtain ⟨h0,h1⟩:=h
 have e:(BitVec.ofInt 64 n).toNat=n.toNat:=by
  rw [BitVec.toNat_ofInt]
  omega
 rw [BitVec.toNat_and,e,show (BitVec.ofInt 64 1).toNat=1 from rfl,Nat.and_one_is_mod]
 unfold Mod.u64
 omega
section
variable {K:Value→Wa1→Prop} {h:Wa1} {M T b o N:Nat} {tv:Value} {fo:Option (Nat × Nat)} {x:Run} {R:Hp}
end
end
section
open Mod
section
variable {K:Value→Wa1→Prop} {h:Wa1} {M T b o N:Nat} {tv:Value} {fo:Option (Nat × Nat)} {x:Run} {R:Hp}
theorem YI1 {u v w:Int} (h1:U u) (h2:U v) (h3:U w):∀y ∈ [u,v,w],U y:=by
 intro y hy
 simp only [List.mem_cons,List.not_mem_nil,or_false] at hy
 rcases hy with rfl | rfl | rfl
 ·exact h1
 ·exact h2
 ·exact h3
theorem W23 (H:Sat h (RunS M T tv (some (b,o)) x R)) (O:Ok x) (k:∀h',Sat h' (RunS M T tv none (WO3 x) R)→K (.tuple #[]) h') :
  Wa6 Tryz.prog 123 #[rV M T b o] h K:=by
 refine call123 ?_
 unfold F123 g123 cf lP lI nP dl3
 have hp:=O.pc
 unfold WO3 at k
 have H1:=RunS.new H (.cells #[mP M,mP T,fP b o] 206);generalize h.push (.cells #[mP M,mP T,fP b o] 206)=h1 at *;generalize h.size=N at *
 try simp +decide only [Wa9,bsx,Nat.reduceAdd,Int.reduceLE,Int.reduceLT,Int.reduceToNat,rsx,g_s,Wb5,RunS.al H1]
 refine Wa7 (λc=>?_) (λc=>?_)
 ·rw [if_pos c] at k
  exact Wa0 (W20 H1 O c λh2 H2=>k h2 (RunS.drp H2))
 rw [if_neg c] at k
 refine Wa7 (λc=>?_) (λc=>?_)
 ·rw [if_pos c] at k
  exact Wa0 (W21 H1 O (by omega) λh2 H2=>k h2 (RunS.drp H2))
 rw [if_neg c] at k
 refine Wa7 (λc=>?_) (λc=>?_)
 ·rw [if_pos c] at k
  exact Wa0 (W22 H1 O (by omega) λh2 H2=>k h2 (RunS.drp H2))
 rw [if_neg c] at k
 exact Wa0 (Ye0 H1 O λh2 H2=>k h2 (RunS.drp H2))
theorem W24 (H:Sat h (RunS M T tv (some (b,o)) x R)) (O:Ok x) (k:∀h',Sat h' (RunS M T tv none (WE6 x) R)→K (.tuple #[]) h') :
  Wa6 Tryz.prog 189 #[rV M T b o] h K:=by
 refine call189 ?_
 unfold F189 g189 cf ce bd lP lI nP da3
 have B:=RunS.fB H
 have P:=RunS.pl H
 have hd:=O.fr
 have r0:=RunS.ret H 0
 unfold WE6 at k
 dsimp only at k
 have H1:=RunS.new H (.cells #[mP M,mP T,fP b o] 207);generalize h.push (.cells #[mP M,mP T,fP b o] 207)=h1 at *;generalize h.size=N at *
 try simp +decide only [Wa9,bsx,Nat.reduceAdd,Int.reduceLE,Int.reduceLT,Int.reduceToNat,rsx,g_s,Wb5,RunS.al H1]
 refine Wa0 (Wf9 0 rfl H1 λh2 H2=>?_)
 try simp +decide only [Wa9,bsx,Nat.reduceAdd,Int.reduceLE,Int.reduceLT,Int.reduceToNat,rsx,g_s,Wb5,RunS.al H2]
 refine Wa7 (λc=>?_) (λc=>?_)
 ·rw [if_pos c] at k
  refine Wa0 (Wr7 H2 λh3 H3=>?_)
  try simp +decide only [Wa9,bsx,Nat.reduceAdd,Int.reduceLE,Int.reduceLT,Int.reduceToNat,rsx,g_s,Wb5,RunS.al H3]
  exact Wa0 (Wq0 H3 [0,u64 (x.at 1)] rfl (Yp2 U0 (Ws3 _)) rfl (by omega) λh4 b' o' _ _ H4=>k h4 (RunS.drp (RunS.none H4)))
 rw [if_neg c] at k
 refine Wa7 (λc=>?_) (λc=>?_)
 ·rw [if_pos c] at k
  refine RunS.stR (i:=0) H2 rfl r0 λh3 H3=>RunS.stP H3 λh4 H4=>?_
  have l1:=WG0 x 0 (x.ret 0)
  have l2:=WL5 (x.s 0 (x.ret 0)) 2
  try simp +decide only [Wa9,bsx,Nat.reduceAdd,Int.reduceLE,Int.reduceLT,Int.reduceToNat,rsx,g_s,Wb5,RunS.al H4]
  refine Wa0 (Wf9 0 rfl H4 λh5 H5=>?_)
  try simp +decide only [Wa9,bsx,Nat.reduceAdd,Int.reduceLE,Int.reduceLT,Int.reduceToNat,rsx,g_s,Wb5,RunS.al H5,B.len]
  refine Wa0 (Wp8 r0 ?_)
  try simp +decide only [Wa9,bsx,Nat.reduceAdd,Int.reduceLE,Int.reduceLT,Int.reduceToNat,rsx,g_s,Wb5,RunS.al H5]
  refine Wd0 (λc2=>?_) (λc2=>?_)
  ·rw [if_pos c2] at k
   exact Wa0 (Wq0 H5 [1] rfl (Ws4 (U.lit rfl)) rfl (by omega) λh6 b' o' _ _ H6=>k h6 (RunS.drp (RunS.none H6)))
  ·rw [if_neg (by rw [c2];simp)] at k
   refine Wa0 (Wf9 0 rfl H5 λh6 H6=>?_)
   try simp +decide only [Wa9,bsx,Nat.reduceAdd,Int.reduceLE,Int.reduceLT,Int.reduceToNat,rsx,g_s,Wb5,RunS.al H6,B.len]
   refine Wa0 (Wh4 r0 ?_)
   try simp +decide only [Wa9,bsx,Nat.reduceAdd,Int.reduceLE,Int.reduceLT,Int.reduceToNat,rsx,g_s,Wb5,RunS.al H6]
   refine Wa7 (λc3=>?_) (λc3=>?_)
   ·rw [if_pos c3] at k
    exact Wa0 (Wq1 H6 (U.lit rfl) U0 U0 (by omega) λh7 b' o' _ _ H7=>k h7 (RunS.drp (RunS.none H7)))
   ·rw [if_neg c3] at k
    exact k h6 (RunS.drp (RunS.none H6))
 rw [if_neg c] at k
 refine Wa7 (λc=>?_) (λc=>?_)
 ·rw [if_pos c] at k
  refine Wa0 (Wu8 H2 (B.g 0) (by decide) λh3 H3=>?_)
  try simp +decide only [Wa9,bsx,Nat.reduceAdd,Int.reduceLE,Int.reduceLT,Int.reduceToNat,rsx,g_s,Wb5,RunS.al H3]
  refine Wa0 (WF9 H3 (Ww0 P _ _) O.st λh4 H4 u4=>?_)
  try simp +decide only [Wa9,bsx,Nat.reduceAdd,Int.reduceLE,Int.reduceLT,Int.reduceToNat,rsx,g_s,Wb5,RunS.al H4]
  exact RunS.stR (i:=1) H4 rfl u4 λh5 H5=>RunS.stP H5 λh6 H6=>k h6 (RunS.drp (RunS.none H6))
 rw [if_neg c] at k
 refine Wa7 (λc=>?_) (λc=>?_)
 ·rw [if_pos c] at k
  refine Wa0 (Wu8 H2 (B.g 0) (by decide) λh3 H3=>?_)
  try simp +decide only [Wa9,bsx,Nat.reduceAdd,Int.reduceLE,Int.reduceLT,Int.reduceToNat,rsx,g_s,Wb5,RunS.al H3]
  refine Wa0 (WF9 H3 (Ww0 P _ _) O.st λh4 H4 u4=>?_)
  try simp +decide only [Wa9,bsx,Nat.reduceAdd,Int.reduceLE,Int.reduceLT,Int.reduceToNat,rsx,g_s,Wb5,RunS.al H4]
  refine RunS.stR (i:=2) H4 rfl u4 λh5 H5=>RunS.stP H5 λh6 H6=>?_
  have l1:=WG0 (x.load (x.nodeW (x.f.g 0) 1)).2 2 (x.load (x.nodeW (x.f.g 0) 1)).1
  have l2:=WL5 ((x.load (x.nodeW (x.f.g 0) 1)).2.s 2 (x.load (x.nodeW (x.f.g 0) 1)).1) 4
  rw [Ym9] at l1
  try simp +decide only [Wa9,bsx,Nat.reduceAdd,Int.reduceLE,Int.reduceLT,Int.reduceToNat,rsx,g_s,Wb5,RunS.al H6,B.len]
  refine Wa7 (λc2=>?_) (λc2=>?_)
  ·rw [if_pos c2] at k
   exact Wa0 (Wq1 H6 (U.lit rfl) (B.g 1) u4 (by omega) λh7 b' o' _ _ H7=>k h7 (RunS.drp (RunS.none H7)))
  ·rw [if_neg c2] at k
   exact k h6 (RunS.drp (RunS.none H6))
 rw [if_neg c] at k
 exact k h2 (RunS.drp (RunS.none H2))
theorem W25 (H:Sat h (RunS M T tv (some (b,o)) x R)) (O:Ok x) (k:∀h',Sat h' (RunS M T tv none (WE7 x) R)→K (.tuple #[]) h') :
  Wa6 Tryz.prog 124 #[rV M T b o] h K:=by
 refine call124 ?_
 unfold F124 g124 cf ce bd lP lI nP da3 dl3
 have B:=RunS.fB H
 have P:=RunS.pl H
 have hd:=O.fr
 unfold WE7 at k
 dsimp only at k
 have H1:=RunS.new H (.cells #[mP M,mP T,fP b o] 207);generalize h.push (.cells #[mP M,mP T,fP b o] 207)=h1 at *;generalize h.size=N at *
 try simp +decide only [Wa9,bsx,Nat.reduceAdd,Int.reduceLE,Int.reduceLT,Int.reduceToNat,rsx,g_s,Wb5,RunS.al H1]
 refine Wa0 (Wf9 0 rfl H1 λh2 H2=>?_)
 try simp +decide only [Wa9,bsx,Nat.reduceAdd,Int.reduceLE,Int.reduceLT,Int.reduceToNat,rsx,g_s,Wb5,RunS.al H2]
 refine Wa7 (λc=>?_) (λc=>?_)
 ·rw [if_pos c] at k
  refine Wa0 (Wu8 H2 (B.g 0) (by decide) λh3 H3=>?_)
  try simp +decide only [Wa9,bsx,Nat.reduceAdd,Int.reduceLE,Int.reduceLT,Int.reduceToNat,rsx,g_s,Wb5,RunS.al H3]
  refine Wa0 (WF9 H3 (Ww0 P _ _) O.st λh4 H4 u4=>?_)
  try simp +decide only [Wa9,bsx,Nat.reduceAdd,Int.reduceLE,Int.reduceLT,Int.reduceToNat,rsx,g_s,Wb5,RunS.al H4]
  exact RunS.stR (i:=3) H4 rfl u4 λh5 H5=>RunS.stP H5 λh6 H6=>k h6 (RunS.drp (RunS.none H6))
 rw [if_neg c] at k
 refine Wa7 (λc=>?_) (λc=>?_)
 ·rw [if_pos c] at k
  refine RunS.stP H2 λh3 H3=>?_
  have l1:=WL5 x 0
  try simp +decide only [Wa9,bsx,Nat.reduceAdd,Int.reduceLE,Int.reduceLT,Int.reduceToNat,rsx,g_s,Wb5,RunS.al H3]
  refine Wa0 (Ww1 H3 (B.g 0) O.st λh4 H4=>?_)
  try simp +decide only [Wa9,bsx,Nat.reduceAdd,Int.reduceLE,Int.reduceLT,Int.reduceToNat,rsx,g_s,Wb5,RunS.al H4]
  refine Wd0 (λc2=>?_) (λc2=>?_)
  ·rw [if_pos c2] at k
   exact Wa0 (Wq0 H4 [1] rfl (Ws4 (U.lit rfl)) rfl (show (x.pc 0).t.fr.length < _ by omega) λh6 b' o' _ _ H6=>k h6 (RunS.drp (RunS.none H6)))
  ·rw [if_neg (by rw [c2];simp)] at k
   exact k h4 (RunS.drp (RunS.none H4))
 rw [if_neg c] at k
 refine Wa7 (λc=>?_) (λc=>?_)
 ·rw [if_pos c] at k
  refine Wa0 (Wh4 (B.g 0) ?_)
  try simp +decide only [Wa9,bsx,Nat.reduceAdd,Int.reduceLE,Int.reduceLT,Int.reduceToNat,rsx,g_s,Wb5,RunS.al H2]
  exact Wa0 (Wq0 H2 [Ww5 (x.f.g 0)] rfl (Ws4 (WV4 _)) rfl (by omega) λh6 b' o' _ _ H6=>k h6 (by rw [WP4];exact RunS.drp (RunS.none H6)))
 rw [if_neg c] at k
 refine Wa7 (λc=>?_) (λc=>?_)
 ·rw [if_pos c] at k
  exact Wa0 (Wq1 H2 (U.lit rfl) (B.g 1) (B.g 2) (by omega) λh7 b' o' _ _ H7=>k h7 (RunS.drp (RunS.none H7)))
 rw [if_neg c] at k
 exact Wa0 (W24 H2 O λh3 H3=>k h3 (RunS.drp H3))
theorem WH3 (H:Sat h (RunS M T tv (some (b,o)) x R)) (O:Ok x) (k:∀h',Sat h' (RunS M T tv none (WI7 x) R)→K (.tuple #[]) h') :
  Wa6 Tryz.prog 192 #[rV M T b o] h K:=by
 refine call192 ?_
 unfold F192 g192 cf ce bd lP nP da3
 have B:=RunS.fB H
 have P:=RunS.pl H
 unfold WI7 at k
 dsimp only at k
 have H1:=RunS.new H (.cells #[mP M,mP T,fP b o] 208);generalize h.push (.cells #[mP M,mP T,fP b o] 208)=h1 at *;generalize h.size=N at *
 try simp +decide only [Wa9,bsx,Nat.reduceAdd,Int.reduceLE,Int.reduceLT,Int.reduceToNat,rsx,g_s,Wb5,RunS.al H1]
 refine Wa0 (Wf9 1 rfl H1 λh2 H2=>?_)
 try simp +decide only [Wa9,bsx,Nat.reduceAdd,Int.reduceLE,Int.reduceLT,Int.reduceToNat,rsx,g_s,Wb5,RunS.al H2]
 refine RunS.stP H2 λh3 H3=>?_
 try simp +decide only [Wa9,bsx,Nat.reduceAdd,Int.reduceLE,Int.reduceLT,Int.reduceToNat,rsx,g_s,Wb5,RunS.al H3]
 refine Wa0 (Wh4 (B.g 1) ?_)
 try simp +decide only [Wa9,bsx,Nat.reduceAdd,Int.reduceLE,Int.reduceLT,Int.reduceToNat,rsx,g_s,Wb5,RunS.al H3]
 refine Wa0 (Ww1 H3 (B.g 1) O.st λh4 H4=>?_)
 try simp +decide only [Wa9,bsx,Nat.reduceAdd,Int.reduceLE,Int.reduceLT,Int.reduceToNat,rsx,g_s,Wb5,RunS.al H4]
 refine Wd0 (λc2=>?_) (λc2=>?_)
 ·rw [if_pos c2] at k
  try simp +decide only [Wa9,bsx,Nat.reduceAdd,Int.reduceLE,Int.reduceLT,Int.reduceToNat,rsx,g_s,Wb5,RunS.al H4]
  exact Wa0 (YH4 H4 Args.none (by omega) λh5 H5=>k h5 (RunS.drp H5))
 ·rw [if_neg (by rw [c2];simp)] at k
  exact k h4 (RunS.drp (RunS.none H4))
theorem W26 (H:Sat h (RunS M T tv (some (b,o)) x R)) (O:Ok x) (k:∀h',Sat h' (RunS M T tv none (WO4 x) R)→K (.tuple #[]) h') :
  Wa6 Tryz.prog 193 #[rV M T b o] h K:=by
 refine call193 ?_
 unfold F193 g193 cf bd lP lI nP da3 dl3
 have B:=RunS.fB H
 have P:=RunS.pl H
 have hd:=O.fr
 have r0:=RunS.ret H 0
 have r1:=RunS.ret H 1
 unfold WO4 at k
 dsimp only at k
 have H1:=RunS.new H (.cells #[mP M,mP T,fP b o] 208);generalize h.push (.cells #[mP M,mP T,fP b o] 208)=h1 at *;generalize h.size=N at *
 try simp +decide only [Wa9,bsx,Nat.reduceAdd,Int.reduceLE,Int.reduceLT,Int.reduceToNat,rsx,g_s,Wb5,RunS.al H1]
 refine Wa7 (λc=>?_) (λc=>?_)
 ·rw [if_pos c] at k
  exact Wa0 (Wq0 H1 [x.f.g 0] rfl (Ws4 (B.g 0)) rfl (by omega) λh4 b' o' _ _ H4=>k h4 (RunS.drp (RunS.none H4)))
 rw [if_neg c] at k
 refine Wa7 (λc=>?_) (λc=>?_)
 ·rw [if_pos c] at k
  refine RunS.stR (i:=1) H1 rfl r0 λh2 H2=>?_
  try simp +decide only [Wa9,bsx,Nat.reduceAdd,Int.reduceLE,Int.reduceLT,Int.reduceToNat,rsx,g_s,Wb5,RunS.al H2]
  refine RunS.stR (i:=2) H2 rfl r1 λh3 H3=>RunS.stP H3 λh4 H4=>?_
  try simp +decide only [Wa9,bsx,Nat.reduceAdd,Int.reduceLE,Int.reduceLT,Int.reduceToNat,rsx,g_s,Wb5,RunS.al H4]
  refine Wa0 (Wf9 1 rfl H4 λh5 H5=>?_)
  try simp +decide only [Wa9,bsx,Nat.reduceAdd,Int.reduceLE,Int.reduceLT,Int.reduceToNat,rsx,g_s,Wb5,RunS.al H5,B.len]
  refine Wa0 (Wp8 r0 ?_)
  try simp +decide only [Wa9,bsx,Nat.reduceAdd,Int.reduceLE,Int.reduceLT,Int.reduceToNat,rsx,g_s,Wb5,RunS.al H5]
  refine Wd0 (λc2=>?_) (λc2=>?_)
  ·rw [if_neg (by simpa using c2)] at k
   exact Wa0 (YH4 H5 Args.none (by omega) λh6 H6=>k h6 (RunS.drp H6))
  ·rw [if_pos (by simpa using c2)] at k
   exact k h5 (RunS.drp (RunS.none H5))
 rw [if_neg c] at k
 refine Wa7 (λc=>?_) (λc=>?_)
 ·rw [if_pos c] at k
  refine RunS.stP H1 λh2 H2=>?_
  try simp +decide only [Wa9,bsx,Nat.reduceAdd,Int.reduceLE,Int.reduceLT,Int.reduceToNat,rsx,g_s,Wb5,RunS.al H2]
  refine Wa0 (WF9 H2 (by decide) O.st λh3 H3 u3=>?_)
  try simp +decide only [Wa9,bsx,Nat.reduceAdd,Int.reduceLE,Int.reduceLT,Int.reduceToNat,rsx,g_s,Wb5,RunS.al H3]
  refine Wa0 (W19 (Wk4 _) ?_)
  try simp +decide only [Wa9,bsx,Nat.reduceAdd,Int.reduceLE,Int.reduceLT,Int.reduceToNat,rsx,g_s,Wb5,RunS.al H3]
  refine Wd0 (λc2=>?_) (λc2=>?_)
  ·rw [if_pos c2] at k
   exact RunS.stP H3 λh4 H4=>k h4 (RunS.drp (RunS.none H4))
  ·rw [if_neg (by rw [c2];simp)] at k
   exact k h3 (RunS.drp (RunS.none H3))
 rw [if_neg c] at k
 refine Wa7 (λc=>?_) (λc=>?_)
 ·rw [if_pos c] at k
  exact Wa0 (WH3 H1 O λh2 H2=>k h2 (RunS.drp H2))
 rw [if_neg c] at k
 exact k h1 (RunS.drp (RunS.none H1))
theorem YO2:und Tryz.prog 197=.pointer 203:=by kernel_rfl
theorem Yp3 {P:Program} (d:Nat) {t el:TypeId} {a b:Addr} (hu:P.underlying t=some (.pointer el)) (hth:Wf0 P el=true) (hsz:siz P el≠0) (F:Bool→Wa1→Prop) (h:Wa1) (H:hp P (sameAddr a b) F h):hp P (Op.equalIn (d+1) t (.pointer (some a)) (.pointer (some b))) F h:=by
 simp only [Op.equalIn,Wa8,Wb2 hu,We1 hth]
 rw [if_pos hsz]
 exact H
theorem YI2 {h:Wa1} {p q:Nat} {K:Value→Wa1→Prop} (k:K (.bool true) h):YK2 Tryz.prog .eql 197 (some ⟨p,q,none⟩) (some ⟨p,q,none⟩) h K:=by
 unfold YK2
 rw [Wf4 (by simp) (by simp) (by simp) (by simp),We9]
 refine Yp3 9999 (Wc5 YO2 (by simp)) W71 (by rw [WL3];omega) _ _ ?_
 unfold sameAddr
 simp only [beq_self_eq_true,if_true]
 exact k
theorem WB1 (H:Sat h (RunS M T tv (some (b,o)) x R)) (O:Ok x) {at_:Nat} {next place:Int} (ha:at_≤8) (hp:U place)
  (k1:WN8 (x.ret 0)=true→∀h',Wa2 h' ⟨b,o+1,none⟩=some (.int .i64 0)→Sat h' (RunS M T tv none (Wo6 x at_ next place) R)→K (.tuple #[]) h')
  (k0:WN8 (x.ret 0)=false→∀h',Sat h' (RunS M T tv (some (b,o)) (Wo6 x at_ next place) R)→K (.tuple #[]) h') :
  Wa6 Tryz.prog 190 #[rV M T b o,.int .i64 (at_:Int),.int .i64 next,.int .u64 place] h K:=by
 refine call190 ?_
 unfold F190 g190 cf bd lP lI nP da3
 have B:=RunS.fB H
 have hd:=O.fr
 have r0:=RunS.ret H 0
 have r1:=RunS.ret H 1
 unfold Wo6 at k1 k0
 dsimp only at k1 k0
 have e1:s64 ((at_:Int)+1)=((at_+1:Nat):Int):=by unfold s64;omega
 have H1:=RunS.new H (.cells #[mP M,mP T,fP b o] 208);generalize h.push (.cells #[mP M,mP T,fP b o] 208)=h1 at *;generalize h.size=N at *
 try simp +decide only [Wa9,bsx,Nat.reduceAdd,Int.reduceLE,Int.reduceLT,Int.reduceToNat,rsx,g_s,Wb5,RunS.al H1,e1]
 refine ⟨by omega,by omega,?_⟩
 rw [show o+(2+at_)=o+(at_+2) by omega]
 refine RunS.stR (i:=at_) H1 (by rw [Nat.ble_eq];omega) r0 λh2 H2=>?_
 refine ⟨by omega,by omega,?_⟩
 rw [show o+(2+(at_+1))=o+(at_+1+2) by omega]
 refine RunS.stR (i:=at_+1) H2 (by rw [Nat.ble_eq];omega) r1 λh3 H3=>RunS.stP H3 λh4 H4=>?_
 try simp +decide only [Wa9,bsx,Nat.reduceAdd,Int.reduceLE,Int.reduceLT,Int.reduceToNat,rsx,g_s,Wb5,RunS.al H4]
 have hfl:(((x.s at_ (x.ret 0)).s (at_+1) (x.ret 1)).pc next).t.fr.length≤x.t.fr.length+3:=by
  have l1:=WG0 x at_ (x.ret 0)
  have l2:=WG0 (x.s at_ (x.ret 0)) (at_+1) (x.ret 1)
  have l3:=WL5 ((x.s at_ (x.ret 0)).s (at_+1) (x.ret 1)) next
  omega
 refine Wa0 (Wf9 at_ (by rw [Nat.ble_eq];omega) H4 λh5 H5=>?_)
 have eg:(((x.s at_ (x.ret 0)).s (at_+1) (x.ret 1)).pc next).f.g at_=x.ret 0:=by
  rw [WC0,f_s,f_s,YS8,Wb5 _ (by omega),g_s B.len (by omega)]
 rw [eg]
 try simp +decide only [Wa9,bsx,Nat.reduceAdd,Int.reduceLE,Int.reduceLT,Int.reduceToNat,rsx,g_s,Wb5,RunS.al H5]
 refine Wa0 (Wp8 r0 ?_)
 try simp +decide only [Wa9,bsx,Nat.reduceAdd,Int.reduceLE,Int.reduceLT,Int.reduceToNat,rsx,g_s,Wb5,RunS.al H5]
 refine Wd0 (λc=>?_) (λc=>?_)
 ·rw [if_pos c] at k1
  refine Wa0 (Wq0 H5 [place] rfl (Ws4 hp) rfl (by omega) λh6 b' o' _ st H6=>k1 c h6 ?_ (RunS.drp (RunS.none H6)))
  refine st b o 1 _ rfl ?_
  rw [WC0]
  rfl
 ·rw [if_neg (by rw [c];simp)] at k0
  exact k0 c h5 (RunS.drp H5)
theorem WH4 (H:Sat h (RunS M T tv (some (b,o)) x R)) (O:Ok x) {at_:Nat} {place:Int} (ha:at_≤8) (hp:U place) (k:∀h',Sat h' (RunS M T tv none (WI8 x at_ place) R)→K (.tuple #[]) h') :
  Wa6 Tryz.prog 191 #[rV M T b o,.int .i64 (at_:Int),.int .u64 place] h K:=by
 refine call191 ?_
 unfold F191 g191 cf ce bd lP lI nP da3
 have B:=RunS.fB H
 have P:=RunS.pl H
 unfold WI8 at k
 dsimp only at k
 have H1:=RunS.new H (.cells #[mP M,mP T,fP b o] 208);generalize h.push (.cells #[mP M,mP T,fP b o] 208)=h1 at *;generalize h.size=N at *
 try simp +decide only [Wa9,bsx,Nat.reduceAdd,Int.reduceLE,Int.reduceLT,Int.reduceToNat,rsx,g_s,Wb5,RunS.al H1]
 refine Wa0 (Wf9 1 rfl H1 λh2 H2=>?_)
 try simp +decide only [Wa9,bsx,Nat.reduceAdd,Int.reduceLE,Int.reduceLT,Int.reduceToNat,rsx,g_s,Wb5,RunS.al H2]
 refine Wa0 (Wf9 at_ (by rw [Nat.ble_eq];omega) H2 λh3 H3=>?_)
 try simp +decide only [Wa9,bsx,Nat.reduceAdd,Int.reduceLE,Int.reduceLT,Int.reduceToNat,rsx,g_s,Wb5,RunS.al H3]
 refine RunS.stP H3 λh4 H4=>?_
 try simp +decide only [Wa9,bsx,Nat.reduceAdd,Int.reduceLE,Int.reduceLT,Int.reduceToNat,rsx,g_s,Wb5,RunS.al H4]
 refine Wa0 (Wr7 H4 λh5 H5=>?_)
 try simp +decide only [Wa9,bsx,Nat.reduceAdd,Int.reduceLE,Int.reduceLT,Int.reduceToNat,rsx,g_s,Wb5,RunS.al H5]
 refine Wa0 (Wh4 (B.g at_) ?_)
 try simp +decide only [Wa9,bsx,Nat.reduceAdd,Int.reduceLE,Int.reduceLT,Int.reduceToNat,rsx,g_s,Wb5,RunS.al H5]
 refine Wa0 (Wp9 (B.g 1) ?_)
 try simp +decide only [Wa9,bsx,Nat.reduceAdd,Int.reduceLE,Int.reduceLT,Int.reduceToNat,rsx,g_s,Wb5,RunS.al H5]
 refine Wa0 (Wr7 H5 λh6 H6=>?_)
 try simp +decide only [Wa9,bsx,Nat.reduceAdd,Int.reduceLE,Int.reduceLT,Int.reduceToNat,rsx,g_s,Wb5,RunS.al H6]
 refine Wa0 (Wh4 (B.g 1) ?_)
 try simp +decide only [Wa9,bsx,Nat.reduceAdd,Int.reduceLE,Int.reduceLT,Int.reduceToNat,rsx,g_s,Wb5,RunS.al H6]
 refine Wa0 (Wp9 (B.g at_) ?_)
 try simp +decide only [Wa9,bsx,Nat.reduceAdd,Int.reduceLE,Int.reduceLT,Int.reduceToNat,rsx,g_s,Wb5,RunS.al H6]
 refine Wa0 (YS5 H6 (Yp1 P _) (Yp1 P _) WE8 WE8 O.st λh7 H7=>?_)
 try simp +decide only [Wa9,bsx,Nat.reduceAdd,Int.reduceLE,Int.reduceLT,Int.reduceToNat,rsx,g_s,Wb5,RunS.al H7]
 refine Wd0 (λc=>?_) (λc=>?_)
 ·rw [if_pos c] at k
  exact RunS.stR (i:=0) H7 rfl hp λh8 H8=>k h8 (RunS.drp (RunS.none H8))
 ·rw [if_neg (by rw [c];simp)] at k
  exact k h7 (RunS.drp (RunS.none H7))
theorem W27 (H:Sat h (RunS M T tv (some (b,o)) x R)) (O:Ok x) (k:∀h',Sat h' (RunS M T tv none (WO5 x) R)→K (.tuple #[]) h') :
  Wa6 Tryz.prog 125 #[rV M T b o] h K:=by
 refine call125 ?_
 unfold F125 g125 cf bd lP lI nP da3 dl3
 have B:=RunS.fB H
 have P:=RunS.pl H
 have hd:=O.fr
 unfold WO5 at k
 dsimp only at k
 have hl:U (u64 (2*x.f.g 0)):=Ws3 _
 have H1:=RunS.new H (.cells #[mP M,mP T,fP b o] 208);generalize h.push (.cells #[mP M,mP T,fP b o] 208)=h1 at *;generalize h.size=N at *
 try simp +decide only [Wa9,bsx,Nat.reduceAdd,Int.reduceLE,Int.reduceLT,Int.reduceToNat,rsx,g_s,Wb5,RunS.al H1]
 generalize hle:u64 (2*x.f.g 0)=left at *
 refine Wa7 (λc=>?_) (λc=>?_)
 ·rw [if_pos c] at k
  exact Wa0 (Wq0 H1 [left] rfl (Ws4 hl) rfl (by omega) λh4 b' o' _ _ H4=>k h4 (RunS.drp (RunS.none H4)))
 rw [if_neg c] at k
 refine Wa7 (λc=>?_) (λc=>?_)
 ·rw [if_pos c] at k
  refine Wa0 (WB1 (at_:=3) H1 O (by omega) hl (λcm h2 e2 H2=>?_) λcm h2 H2=>?_)
  ·rw [if_pos cm] at k
   refine ⟨λvs h'=>vs = [.bool false]∧h' = h2,?_,?_⟩
   ·refine Wc4 e2 ?_
    try simp only [Wa9,bsx,Nat.reduceAdd,Int.reduceLE,Int.reduceLT,Int.reduceToNat]
    rw [show ((0:Int) == 6)=false from rfl]
    try simp only [Wa9,bsx,Nat.reduceAdd,Int.reduceLE,Int.reduceLT,Int.reduceToNat]
   rintro v30 g31 h32 ⟨e,rfl⟩
   cases e
   try simp only [Wa9,bsx,Nat.reduceAdd,Int.reduceLE,Int.reduceLT,Int.reduceToNat]
   exact k h32 (RunS.drp H2)
  ·rw [if_neg (by rw [cm];simp)] at k
   have epc:(Wo6 x 3 6 left).f.pc=6:=by
    unfold Wo6
    dsimp only
    rw [if_neg (by rw [cm];simp)]
    try simp +decide only [Wa9,bsx,Nat.reduceAdd,Int.reduceLE,Int.reduceLT,Int.reduceToNat,rsx,g_s,Wb5,B.len]
   have efl:(Wo6 x 3 6 left).t.fr.length≤x.t.fr.length+3:=by
    unfold Wo6
    dsimp only
    rw [if_neg (by rw [cm];simp)]
    have l1:=WG0 x 3 (x.ret 0)
    have l2:=WG0 (x.s 3 (x.ret 0)) (3+1) (x.ret 1)
    have l3:=WL5 ((x.s 3 (x.ret 0)).s (3+1) (x.ret 1)) 6
    omega
   refine ⟨λvs h'=>vs = [.bool true]∧h' = h2,?_,?_⟩
   ·try simp +decide only [Wa9,bsx,Nat.reduceAdd,Int.reduceLE,Int.reduceLT,Int.reduceToNat,rsx,g_s,Wb5,RunS.al H2,epc]
    rw [show ((6:Int) == 6)=true from rfl]
    try simp only [Wa9,bsx,Nat.reduceAdd,Int.reduceLE,Int.reduceLT,Int.reduceToNat]
    refine Wa0 (YQ1 H2 (λhn=>absurd hn (List.length_pos_iff.1 (YT2 H2))) λb2 o2 _ hbo _=>?_)
    obtain ⟨rfl,rfl⟩:=hbo b o rfl
    try simp only [Wa9,bsx,Nat.reduceAdd,Int.reduceLE,Int.reduceLT,Int.reduceToNat]
    exact YI2 (by simp only [Wb0];trivial)
   rintro v30 g31 h32 ⟨e,rfl⟩
   cases e
   try simp +decide only [Wa9,bsx,Nat.reduceAdd,Int.reduceLE,Int.reduceLT,Int.reduceToNat,rsx,g_s,Wb5,RunS.al H2]
   exact Wa0 (Wq0 H2 [u64 (left+1)] rfl (Ws4 (Ws3 _)) rfl (by omega) λh4 b' o' _ _ H4=>k h4 (RunS.drp (RunS.none H4)))
 rw [if_neg c] at k
 refine Wa7 (λc=>?_) (λc=>?_)
 ·rw [if_pos c] at k
  exact Wa0 (WB1 (at_:=5) H1 O (by omega) (Ws3 _) (λcm h2 e2 H2=>k h2 (RunS.drp H2)) λcm h2 H2=>k h2 (RunS.drp (RunS.none H2)))
 rw [if_neg c] at k
 refine Wa7 (λc=>?_) (λc=>?_)
 ·rw [if_pos c] at k
  refine ⟨λvs h'=>(∃w,vs = [.bool (decide (x.f.g 4≤x.f.g 6∧x.f.g 4 < x.f.g 2)),w])∧h' = h1,?_,?_⟩
  ·refine Wa7 (λc2=>?_) (λc2=>?_)
   ·rw [show decide (x.f.g 4 < x.f.g 2)=decide (x.f.g 4≤x.f.g 6∧x.f.g 4 < x.f.g 2) by rw [decide_eq_decide];omega]
    exact ⟨⟨_,rfl⟩,by trivial⟩
   ·rw [decide_eq_false (p:=x.f.g 4≤x.f.g 6∧x.f.g 4 < x.f.g 2) (by omega)]
    exact ⟨⟨_,rfl⟩,by trivial⟩
  rintro v57 v58 g59 h60 ⟨⟨w,e⟩,rfl⟩
  cases e
  try simp only [Wa9,bsx,Nat.reduceAdd,Int.reduceLE,Int.reduceLT,Int.reduceToNat]
  refine Wa7 (λc2=>?_) (λc2=>?_)
  ·rw [if_pos c2] at k
   try simp +decide only [Wa9,bsx,Nat.reduceAdd,Int.reduceLE,Int.reduceLT,Int.reduceToNat,rsx,g_s,Wb5,RunS.al H1]
   exact Wa0 (WH4 (at_:=3) H1 O (by omega) hl λh2 H2=>k h2 (RunS.drp H2))
  rw [if_neg c2] at k
  refine ⟨λvs h'=>(∃w,vs = [.bool (decide (x.f.g 6 < x.f.g 4∧x.f.g 6 < x.f.g 2)),w])∧h' = h60,?_,?_⟩
  ·try simp +decide only [Wa9,bsx,Nat.reduceAdd,Int.reduceLE,Int.reduceLT,Int.reduceToNat,rsx,g_s,Wb5,RunS.al H1]
   refine Wa7 (λc2=>?_) (λc2=>?_)
   ·rw [show decide (x.f.g 6 < x.f.g 2)=decide (x.f.g 6 < x.f.g 4∧x.f.g 6 < x.f.g 2) by rw [decide_eq_decide];omega]
    exact ⟨_,rfl⟩
   ·rw [decide_eq_false (p:=x.f.g 6 < x.f.g 4∧x.f.g 6 < x.f.g 2) (by omega)]
    exact ⟨_,rfl⟩
  rintro v57 v58 g59 h60 ⟨⟨w,e⟩,rfl⟩
  cases e
  try simp +decide only [Wa9,bsx,Nat.reduceAdd,Int.reduceLE,Int.reduceLT,Int.reduceToNat,rsx,g_s,Wb5,RunS.al H1]
  refine Wa7 (λc3=>?_) (λc3=>?_)
  ·rw [if_pos c3] at k
   exact Wa0 (WH4 (at_:=5) H1 O (by omega) (Ws3 _) λh2 H2=>k h2 (RunS.drp H2))
  ·rw [if_neg c3] at k
   exact Wa0 (WH3 H1 O λh2 H2=>k h2 (RunS.drp H2))
 rw [if_neg c] at k
 exact Wa0 (W26 H1 O λh2 H2=>k h2 (RunS.drp H2))
theorem WW4 (H:Sat h (RunS M T tv fo x R)) (O:Ok x) (k:∀h',Sat h' (RunS M T tv none (Wl1 x) R)→K (.tuple #[]) h') :
  Wa6 Tryz.prog 67 #[mP M,mP T] h K:=by
 refine call67 ?_
 unfold F67 cf bd lI nP dl3
 unfold Wl1 at k
 dsimp only at k
 refine Wa0 (YQ1 H (λe=>?_) λb o hne _ H1=>?_)
 ·rw [if_pos e] at k
  try simp only [Wa9,bsx,Nat.reduceAdd,Int.reduceLE,Int.reduceLT,Int.reduceToNat]
  refine ⟨λvs h'=>vs = [.bool true]∧h' = h,⟨rfl,rfl⟩,?_⟩
  rintro v4 g6 h7 ⟨e,rfl⟩
  cases e
  try simp only [Wa9,bsx,Nat.reduceAdd,Int.reduceLE,Int.reduceLT,Int.reduceToNat]
  exact k _ (RunS.none H)
 ·rw [if_neg hne] at k
  try simp only [Wa9,bsx,Nat.reduceAdd,Int.reduceLE,Int.reduceLT,Int.reduceToNat]
  refine ⟨λvs h'=>vs = [.bool false]∧h' = h,⟨rfl,rfl⟩,?_⟩
  rintro v4 g6 h7 ⟨e,rfl⟩
  cases e
  try simp only [Wa9,bsx,Nat.reduceAdd,Int.reduceLE,Int.reduceLT,Int.reduceToNat]
  have B:=RunS.fB H1
  have H2:=RunS.new H1 (.cells #[.pointer none,.pointer none,.pointer none] 200)
  generalize h7.push (.cells #[.pointer none,.pointer none,.pointer none] 200)=h2 at *
  generalize h7.size=N at *
  refine st3 (Wd3 (vs:=[mP M,mP T,fP b o]) (RunS.loc H2) rfl (by simp [Wi3]) λh3 w=>?_)
  have H3:Sat h3 (RunS M T tv (some (b,o)) x (pt N (.cells #[mP M,mP T,fP b o] 200)*R)):=RunS.wr H2 w.new w.old
  clear H2 w
  try simp +decide only [Wa9,bsx,Nat.reduceAdd,Int.reduceLE,Int.reduceLT,Int.reduceToNat,rsx,g_s,Wb5,RunS.al H3]
  refine ⟨λvs h'=>(∃w1 w2,vs = [.bool (decide (x.f.pc=90∧11≤x.f.fn∧x.f.fn≤13)),w1,w2])∧h' = h3,?_,?_⟩
  ·refine Wa7 (λc=>?_) (λc=>?_)
   ·refine Wa7 (λc2=>?_) (λc2=>?_)
    ·rw [show decide (x.f.fn≤13)=decide (x.f.pc=90∧11≤x.f.fn∧x.f.fn≤13) by rw [decide_eq_decide];omega]
     exact ⟨⟨_,_,rfl⟩,by trivial⟩
    ·rw [decide_eq_false (p:=x.f.pc=90∧11≤x.f.fn∧x.f.fn≤13) (by omega)]
     exact ⟨⟨_,_,rfl⟩,by trivial⟩
   ·rw [decide_eq_false (p:=x.f.pc=90∧11≤x.f.fn∧x.f.fn≤13) (by omega)]
    exact ⟨⟨_,_,rfl⟩,by trivial⟩
  rintro v21 v22 v23 g24 h25 ⟨⟨w1,w2,e⟩,rfl⟩
  cases e
  try simp +decide only [Wa9,bsx,Nat.reduceAdd,Int.reduceLE,Int.reduceLT,Int.reduceToNat,rsx,g_s,Wb5,RunS.al H3]
  refine Wa7 (λc=>?_) (λc=>?_)
  ·rw [if_pos c] at k
   exact Wa0 (YT1 H3 [x.f.g 7,x.f.g 8,x.f.g 9] rfl (YI1 (B.g 7) (B.g 8) (B.g 9)) rfl λh4 H4=>k h4 (RunS.drp H4))
  rw [if_neg c] at k
  refine Wa7 (λc=>?_) (λc=>?_)
  ·rw [if_pos c] at k
   exact Wa0 (Yd9 H3 O.st (by have:=O.fr;omega) λh4 H4=>k h4 (RunS.drp H4))
  rw [if_neg c] at k
  refine Wa7 (λc=>?_) (λc=>?_)
  ·rw [if_pos c] at k
   exact Wa0 (W23 H3 O λh4 H4=>k h4 (RunS.drp H4))
  rw [if_neg c] at k
  refine ⟨λvs h'=>(∃w,vs = [.bool (decide (x.f.fn=12∨x.f.fn=13)),w])∧h' = h25,?_,?_⟩
  ·refine Wa7 (λc=>?_) (λc=>?_)
   ·rw [decide_eq_true (p:=x.f.fn=12∨x.f.fn=13) (.inl c)]
    exact ⟨⟨_,rfl⟩,by trivial⟩
   ·rw [show (x.f.fn == 13)=decide (x.f.fn=12∨x.f.fn=13) by rw [Bool.eq_iff_iff,beq_iff_eq,decide_eq_true_iff];omega]
    exact ⟨⟨_,rfl⟩,by trivial⟩
  rintro v61 v62 g63 h64 ⟨⟨w,e⟩,rfl⟩
  cases e
  try simp +decide only [Wa9,bsx,Nat.reduceAdd,Int.reduceLE,Int.reduceLT,Int.reduceToNat,rsx,g_s,Wb5,RunS.al H3]
  refine Wa7 (λc=>?_) (λc=>?_)
  ·rw [if_pos c] at k
   exact Wa0 (W25 H3 O λh4 H4=>k h4 (RunS.drp H4))
  rw [if_neg c] at k
  refine Wa7 (λc=>?_) (λc=>?_)
  ·rw [if_pos c] at k
   exact Wa0 (W27 H3 O λh4 H4=>k h4 (RunS.drp H4))
  rw [if_neg c] at k
  exact Wa0 (WP9 H3 O λh4 H4=>k h4 (RunS.drp H4))
end
end
section
open Mod
section
variable {K:Value→Wa1→Prop} {h:Wa1} {M T b o N:Nat} {tv:Value} {fo:Option (Nat × Nat)} {x:Run} {R:Hp}
end
end
section
open Mod
section
variable {K:Value→Wa1→Prop} {h:Wa1} {M T b o N:Nat} {tv:Value} {fo:Option (Nat × Nat)} {x:Run} {R:Hp}
end
end
section
open Mod
section
variable {K:Value→Wa1→Prop} {h:Wa1} {M T b o N:Nat} {tv:Value} {fo:Option (Nat × Nat)} {x:Run} {R:Hp}
end
end
section
open Mod
theorem W78 {d:Run→Run}:∀ {n m:Nat} {x z w:Run},Mod.bits d n x=some z→Mod.bits d m x=some w→z=w
 | 0,0,x,z,w,h1,h2=>by
  rw [h1] at h2;exact Option.some.inj h2
 | 0,m+1,x,z,w,h1,h2=>by
  unfold Mod.bits at h1 h2
  split at h1
  ·rename_i c
   rw [if_pos c] at h2
   rw [h1] at h2;exact Option.some.inj h2
  ·cases h1
 | n+1,0,x,z,w,h1,h2=>by
  unfold Mod.bits at h1 h2
  split at h2
  ·rename_i c
   rw [if_pos c] at h1
   rw [h1] at h2;exact Option.some.inj h2
  ·cases h2
 | n+1,m+1,x,z,w,h1,h2=>by
  unfold Mod.bits at h1 h2
  split at h1
  ·rename_i c
   rw [if_pos c] at h2
   rw [h1] at h2;exact Option.some.inj h2
  ·rename_i c
   rw [if_neg c] at h2
   exact W78 h1 h2
open Classical in
noncomputable def Ye1 (d:Run→Run) (x:Run):Run:=if h:∃z,∃n,Mod.bits d n x=some z then h.choose else x
def Wk1 (m:Mac) (k:Nat):Thr:=m.th.getD k (WB9 m.p.c)
def Yp4 (t:Thr):Cl:=⟨s64 (t.ret.getD 0 0),u32 (t.ret.getD 1 0),u32 (t.ret.getD 2 0)⟩
def cl0:Cl:=⟨0,0,0⟩
def DS.enter (ins:Int) (calls:List (List Cl)) (s:DS) (k:Nat):Option DS:=
 if (Wk1 s.m k).fr = [] then
  if (calls.getD k []).length≤(s.nx.getD k 0).toNat then none
  else some ⟨s.m.setTh (s.m.th.set k ((Wk1 s.m k).push (ins+((calls.getD k []).getD (s.nx.getD k 0).toNat cl0).op) [((calls.getD k []).getD (s.nx.getD k 0).toNat cl0).key,((calls.getD k []).getD (s.nx.getD k 0).toNat cl0).val])),s.nx.set k (s.nx.getD k 0+1),s.cu.set k ((calls.getD k []).getD (s.nx.getD k 0).toNat cl0),s.ev ++ [⟨k,false,(calls.getD k []).getD (s.nx.getD k 0).toNat cl0,cl0⟩]⟩
 else some s
noncomputable def DS.go (d:Run→Run) (s:DS) (k:Nat):DS:=
 if (Ye1 d ⟨s.m.quiet,Wk1 s.m k,k⟩).t.fr = [] then ⟨(Ye1 d ⟨s.m.quiet,Wk1 s.m k,k⟩).m.setTh (s.m.th.set k (Ye1 d ⟨s.m.quiet,Wk1 s.m k,k⟩).t),s.nx,s.cu,s.ev ++ [⟨k,true,cl0,Yp4 (Ye1 d ⟨s.m.quiet,Wk1 s.m k,k⟩).t⟩]⟩
 else ⟨(Ye1 d ⟨s.m.quiet,Wk1 s.m k,k⟩).m.setTh (s.m.th.set k (Ye1 d ⟨s.m.quiet,Wk1 s.m k,k⟩).t),s.nx,s.cu,s.ev⟩
noncomputable def DS.pick (d:Run→Run) (ins:Int) (calls:List (List Cl)) (s:DS) (k:Int):DS:=match s.enter ins calls k.toNat with
 | none=>s
 | some s1=>s1.go d k.toNat
structure YI3 (d:Run→Run) (W:Run→Prop) (ins:Int) (Inv:Nat→Mac→Prop):Prop where
 mono:∀(i:Nat) (m:Mac),Inv i m→Inv (i+1) m
 wd:∀i m,Inv i m→YV5 m∧2 < m.mm.w.length
 push:∀(i:Nat) (m:Mac) (k:Nat) (t:Thr) (c:Cl),Inv i m→m.th[k]? = some t→t.fr = []→0≤c.op∧c.op≤2→V c.key→V c.val→Inv i (m.setTh (m.th.set k (t.push (ins+c.op) [c.key,c.val])))
 step:∀(i:Nat) (m:Mac) (k:Nat) (t:Thr),Inv i m→i < 100000→m.th[k]? = some t→t.fr≠[]→∃n z,Mod.bits d n ⟨m.quiet,t,k⟩=some z∧YN2 d W n ⟨m.quiet,t,k⟩∧z.id=k∧z.m.th=m.th∧Inv (i+1) (z.m.setTh (m.th.set k z.t))
section
variable {K:Value→Wa1→Prop} {h:Wa1} {M:Nat} {B:DB} {Ts:List Nat} {R:Hp} {d:Run→Run} {W:Run→Prop} {ins:Int} {Inv:Nat→Mac→Prop} {calls:List (List Cl)}
end
end
section
open Mod
section
variable {K:Value→Wa1→Prop} {h:Wa1} {M:Nat} {Ts:List Nat} {R:Hp} {d:Run→Run} {W:Run→Prop} {ins:Int} {Inv:Nat→Mac→Prop} {calls:List (List Cl)} {WX9:List Int} {m:Mac}
end
end
section
open Mod
theorem YO3:und Tryz.prog 26=.slice 3:=by kernel_rfl
theorem Yy0:Wf0 Tryz.prog 3=true:=by kernel_rfl
theorem YO4:zer Tryz.prog 3=some (.int .i64 0):=by kernel_rfl
theorem W79:siz Tryz.prog 3=1:=by kernel_rfl
theorem YD7:byt Tryz.prog 3=8:=by kernel_rfl
theorem W80 {h:Wa1} {row:List Value} {t:TypeId}:Sees (h.push (.cells row.toArray t)) (some ⟨h.size,0,none⟩) row:=by
 intro i v hi
 refine ⟨_,rfl,?_⟩
 rw [Wc1,Nat.zero_add]
 exact Wd9 (t:=t) (row:=row) (by simp) hi
section
variable {K:Value→Wa1→Prop} {h:Wa1} {R:Hp}
theorem YO5 {a:Option Addr} {l c:Nat} {xs:List Int} {x:Int} {X:Hp} {F:Value→Wa1→Prop} (H:Sat h (We7 3 1 a l c (xs.map iv)*X)) (hl:l≤60000)
  (k:∀a' c' h',Sat h' (We7 3 1 a' (l+1) c' ((xs ++ [x]).map iv)*X)→F (.slice a' (l+1) c') h') :
  Ws0 Tryz.prog #[26,26] 26 #[.slice a l c,.slice (some ⟨h.size,0,none⟩) 1 1] (h.push (.cells #[.int .i64 x] 3)) F:=by
 have H1:=H.push (.cells [iv x].toArray 3)
 have hs:Sees (h.push (.cells [iv x].toArray 3)) (some ⟨h.size,0,none⟩) [iv x]:=W80
 have e:(.cells #[.int .i64 x] 3:Obj)=.cells [iv x].toArray 3:=rfl
 rw [e]
 have H2:Sat (h.push (.cells [iv x].toArray 3)) (We7 3 (siz Tryz.prog 3) a l c (xs.map iv)*X):=by
  rw [W79];exact H1.drop
 refine H2.app YO3 Yy0 YO4 (by rw [W79];rfl) hs (n:=1) (by rw [W79];rfl) (by simp [Wi3]) (by rw [YD7];omega) (by rw [YD7];omega) λa' c' h' H3=>k a' c' h' ?_
 rw [W79] at H3
 rw [List.map_append]
 exact H3
end
end
section
open Go.ChangeShapes Go.WideShapes Go.ChangeAt Go.RowKit
theorem Yp5 {h h0:Wa1} (H:Sat h (Yw3 h0)):Old h0.size h0 h:=by
 rw [← Wu3 (Yw3 h0),Wt2] at H
 exact H.fullOld
section
variable {H:Type} {enc:TypeId × Value→H} {W:World} {fuel:Nat} {cs:List Value} {x:DataW H × List MemPlace}
theorem Wo0 (h:DataW.trod enc Tryz.prog W 0 (λ_=>true) true fuel 3 cs=some x):∃e:Int,cs = [iv e]:=by
 obtain ⟨n,u,_,r⟩:=DataW.trod_int Tryz.underlying3 h
 exact ⟨n,u⟩
theorem W28:Program.cellsOf Tryz.prog 23=7:=by kernel_rfl
theorem Ye2 (h:DataW.trod enc Tryz.prog W 0 (λ_=>true) true fuel 23 cs=some x):∃c:Mod.Cf,cs = [.int .i64 c.algo,.int .i64 c.threads,.int .i64 c.nodes,.int .i64 c.level,.int .i64 c.batch,.int .i64 c.probes,.int .i64 c.scan]:=by
 have hl:=Yk7 Tryz.underlying23 h
 rw [W28] at hl
 obtain ⟨_,_,e0⟩:=Wj1 Tryz.underlying23 h 0 _ rfl
 obtain ⟨n0,u0⟩:=Wo0 e0
 have q0:(cs.drop 0).take (Program.cellsOf Tryz.prog 3) = [.int .i64 n0]:=u0
 rw [Wh3] at q0
 obtain ⟨_,_,e1⟩:=Wj1 Tryz.underlying23 h 1 _ rfl
 obtain ⟨n1,u1⟩:=Wo0 e1
 have q1:(cs.drop 1).take (Program.cellsOf Tryz.prog 3) = [.int .i64 n1]:=u1
 rw [Wh3] at q1
 obtain ⟨_,_,e2⟩:=Wj1 Tryz.underlying23 h 2 _ rfl
 obtain ⟨n2,u2⟩:=Wo0 e2
 have q2:(cs.drop 2).take (Program.cellsOf Tryz.prog 3) = [.int .i64 n2]:=u2
 rw [Wh3] at q2
 obtain ⟨_,_,e3⟩:=Wj1 Tryz.underlying23 h 3 _ rfl
 obtain ⟨n3,u3⟩:=Wo0 e3
 have q3:(cs.drop 3).take (Program.cellsOf Tryz.prog 3) = [.int .i64 n3]:=u3
 rw [Wh3] at q3
 obtain ⟨_,_,e4⟩:=Wj1 Tryz.underlying23 h 4 _ rfl
 obtain ⟨n4,u4⟩:=Wo0 e4
 have q4:(cs.drop 4).take (Program.cellsOf Tryz.prog 3) = [.int .i64 n4]:=u4
 rw [Wh3] at q4
 obtain ⟨_,_,e5⟩:=Wj1 Tryz.underlying23 h 5 _ rfl
 obtain ⟨n5,u5⟩:=Wo0 e5
 have q5:(cs.drop 5).take (Program.cellsOf Tryz.prog 3) = [.int .i64 n5]:=u5
 rw [Wh3] at q5
 obtain ⟨_,_,e6⟩:=Wj1 Tryz.underlying23 h 6 _ rfl
 obtain ⟨n6,u6⟩:=Wo0 e6
 have q6:(cs.drop 6).take (Program.cellsOf Tryz.prog 3) = [.int .i64 n6]:=u6
 rw [Wh3] at q6
 refine ⟨⟨n0,n1,n2,n3,n4,n5,n6⟩,?_⟩
 rcases cs with _ | ⟨c0,cs⟩;· simp at hl
 rcases cs with _ | ⟨c1,cs⟩;· simp at hl
 rcases cs with _ | ⟨c2,cs⟩;· simp at hl
 rcases cs with _ | ⟨c3,cs⟩;· simp at hl
 rcases cs with _ | ⟨c4,cs⟩;· simp at hl
 rcases cs with _ | ⟨c5,cs⟩;· simp at hl
 rcases cs with _ | ⟨c6,cs⟩;· simp at hl
 rcases cs with _ | ⟨c7,cs⟩
 ·simp at q0 q1 q2 q3 q4 q5 q6
  rw [q0,q1,q2,q3,q4,q5,q6]
 ·simp at hl
end
section
variable {H:Type} {enc:TypeId × Value→H} {W:World} {v:Value} {d:DataW H} {ps:List MemPlace} {r:Reach} {b0:Nat}
theorem Yp6 (hval:Value.okWide Tryz.prog W r b0 23 v) (h:DataW.Trod enc Tryz.prog W 0 (λ_=>true) true 23 v d ps):∃c:Mod.Cf,v=.agg #[.int .i64 c.algo,.int .i64 c.threads,.int .i64 c.nodes,.int .i64 c.level,.int .i64 c.batch,.int .i64 c.probes,.int .i64 c.scan]:=by
 obtain ⟨vs,rfl,hsz⟩:=okWide_struct Tryz.underlying23 hval
 obtain ⟨fuel,hf⟩:=h
 obtain ⟨l⟩:=vs
 have hf:DataW.trod enc Tryz.prog W 0 (λ_=>true) true fuel 23 l=some (d,ps):=hf
 obtain ⟨c,q⟩:=Ye2 hf
 exact ⟨c,by rw [q]⟩
end
end
section
set_option maxRecDepth 100000
def F3 (K:Value→Wa1→Prop) (h:Wa1) (xa xb xc xd xe xf xg:Int):Prop:=
 (exI λI0=>(cf 7 #[.pointer none] (Array.push h (.cells #[.int .i64 xa,.int .i64 xb,.int .i64 xc,.int .i64 xd,.int .i64 xe,.int .i64 xf,.int .i64 xg] 23)) λa b=>Wb4 a λa a c=>ifB ((a:Int) != 0) (I0 [.bool true,.bool true,.bool true] b) (cf 8 #[.pointer none] b λa b=>Wb4 a λa a c=>ifB ((a:Int) != 0) (I0 [.bool ((a:Int) != 0),.bool true,.bool true] b) (cf 9 #[.pointer none] b λb c=>asInt .i64 b λb=>ifB (b != 0) (I0 [.bool ((a:Int) != 0),.bool (b != 0),.bool true] c) (cf 10 #[.pointer none] c λc d=>asBool c λc=>I0 [.bool ((a:Int) != 0),.bool (b != 0),.bool c] d))))∧(∀(a b c:Value) (d:Env) (d:Wa1),(I0 [a,b,c] d)→(asBool c λa=>ifB a (K (.bool false) d) (exI λI23=>(dl7 d h.size λa b c e f g i=>cf 11 #[.agg #[a,b,c,e,f,g,i]] d λa b=>asBool a λa=>ifB (!a) (I23 [.bool true] b) (lI .i64 b ⟨h.size,0,none⟩ λa=>I23 [.bool (a == 0)] b))∧(∀(a:Value) (b:Env) (b:Wa1),(I23 [a] b)→(asBool a λa=>ifB a (cf 12 #[] b λa c=>asBool a λa=>K (.bool a) c) (dl7 b h.size λa c d e f g i=>cf 13 #[.agg #[a,c,d,e,f,g,i],.slice none 0 0,.bool true] b λa b=>Wh0 a λc=>Wb9 c 0 λc=>Wd2 c λc=>Wh0 a λa=>Wb9 a 1 λa=>asInt .i64 a λa=>ifB (!(Option.isNone c)) (cf 7 #[.pointer c] b λa d=>Wb4 a λa a e=>ifB ((a:Int) == 0) (cf 8 #[.pointer c] d λa e=>Wb4 a λa a f=>ifB ((a:Int) == 0) (cf 9 #[.pointer c] e λa f=>asInt .i64 a λa=>ifB (a == 0) (cf 10 #[.pointer c] f λa c=>asBool a λa=>ifB (!a) (cf 12 #[] c λa g=>asBool a λa=>K (.bool a) g) (K (.bool false) c)) (K (.bool false) f)) (K (.bool false) e)) (K (.bool false) d)) (K (.bool false) b))))))))
theorem call3 {K:Value→Wa1→Prop} {h:Wa1} {xa xb xc xd xe xf xg:Int} (H:F3 K h xa xb xc xd xe xf xg):Wa6 Tryz.prog 3 #[(.agg #[(.int .i64 xa),(.int .i64 xb),(.int .i64 xc),(.int .i64 xd),(.int .i64 xe),(.int .i64 xf),(.int .i64 xg)])] h K:=
 Wa4 Tryz.func3 (by kernel_rfl) (Eq.mp (by kernel_rfl) H)
def F7 (K:Value→Wa1→Prop) (h:Wa1) (xa:Option Addr):Prop:=
 (cf 28 #[.pointer xa] h λa b=>Wh0 a λc=>Wb9 c 0 λc=>asAgg c λc=>We8 c 16 (Ys7 c λc d e f g i j k l m n o p q r s=>Wh0 a λa=>Wb9 a 1 λa=>asBool a λa=>stH (Array.push b (.cells #[.int .i64 0,.int .i64 0,.int .i64 0,.int .i64 0,.int .i64 0,.int .i64 0,.int .i64 0,.int .i64 0,.int .i64 0,.int .i64 0,.int .i64 0,.int .i64 0,.int .i64 0,.int .i64 0,.int .i64 0,.slice none 0 0] 65)) ⟨b.size,0,none⟩ c λc=>stH c ⟨b.size,1,none⟩ d λc=>stH c ⟨b.size,2,none⟩ e λc=>stH c ⟨b.size,3,none⟩ f λc=>stH c ⟨b.size,4,none⟩ g λc=>stH c ⟨b.size,5,none⟩ i λc=>stH c ⟨b.size,6,none⟩ j λc=>stH c ⟨b.size,7,none⟩ k λc=>stH c ⟨b.size,8,none⟩ l λc=>stH c ⟨b.size,9,none⟩ m λc=>stH c ⟨b.size,10,none⟩ n λc=>stH c ⟨b.size,11,none⟩ o λc=>stH c ⟨b.size,12,none⟩ p λc=>stH c ⟨b.size,13,none⟩ q λc=>stH c ⟨b.size,14,none⟩ r λc=>stH c ⟨b.size,15,none⟩ s λc=>ifB (!a) (K (.slice none 0 0) c) (WB7 c b.size λa d e f g i j k l m n o p q r s=>cf 29 #[.agg #[a,d,e,f,g,i,j,k,l,m,n,o,p,q,r,s]] c λa c=>asInt .i64 a λa=>Wl8 Tryz.prog 44 a a c λa c=>Wb4 a λa d e=>WB7 c b.size λf g i j k l m n o p q r s t u v=>cf 29 #[.agg #[f,g,i,j,k,l,m,n,o,p,q,r,s,t,u,v]] c λc f=>asInt .i64 c λc=>exI λI83=>exM λm84=>(I83 [.tuple #[],.int .i64 0] f)∧(∀(f g:Value) (i:Env) (i:Wa1),(I83 [f,g] i)→(asInt .i64 g λj=>ifB (decide (j < c)) (asInt .i64 g λc=>ifB (decide (c > 0)) (WB7 i b.size λb j k l m n o p q r s t u v w x=>cf 30 #[.agg #[b,j,k,l,m,n,o,p,q,r,s,t,u,v,w,x],.int .i64 c] i λb j=>Wb4 b λb k l=>bd c (d:Int) (Wd7 (.pointer a) λm=>stH j (Addr.add m (c.toNat*1)) (.slice b k l) λb=>asInt .i64 g λj=>(I83 [.int .i64 c,.int .i64 (IntKind.wrap .i64 (j+1))] b)∧((m84 [.int .i64 c,.int .i64 (IntKind.wrap .i64 (j+1))] b) < (m84 [f,g] i)))) (asInt .i64 g λb=>(I83 [.int .i64 c,.int .i64 (IntKind.wrap .i64 (b+1))] i)∧((m84 [.int .i64 c,.int .i64 (IntKind.wrap .i64 (b+1))] i) < (m84 [f,g] i)))) (K (.slice a d e) i))))))
theorem call7 {K:Value→Wa1→Prop} {h:Wa1} {xa:Option Addr} (H:F7 K h xa):Wa6 Tryz.prog 7 #[(.pointer xa)] h K:=
 Wa4 Tryz.func7 (by kernel_rfl) (Eq.mp (by kernel_rfl) H)
def F8 (K:Value→Wa1→Prop) (h:Wa1) (xa:Option Addr):Prop:=
 (cf 28 #[.pointer xa] h λa b=>Wh0 a λc=>Wb9 c 0 λc=>asAgg c λc=>We8 c 16 (Ys7 c λc d e f g i j k l m n o p q r s=>Wh0 a λa=>Wb9 a 1 λa=>asBool a λa=>stH (Array.push b (.cells #[.int .i64 0,.int .i64 0,.int .i64 0,.int .i64 0,.int .i64 0,.int .i64 0,.int .i64 0,.int .i64 0,.int .i64 0,.int .i64 0,.int .i64 0,.int .i64 0,.int .i64 0,.int .i64 0,.int .i64 0,.slice none 0 0] 65)) ⟨b.size,0,none⟩ c λc=>stH c ⟨b.size,1,none⟩ d λc=>stH c ⟨b.size,2,none⟩ e λc=>stH c ⟨b.size,3,none⟩ f λc=>stH c ⟨b.size,4,none⟩ g λc=>stH c ⟨b.size,5,none⟩ i λc=>stH c ⟨b.size,6,none⟩ j λc=>stH c ⟨b.size,7,none⟩ k λc=>stH c ⟨b.size,8,none⟩ l λc=>stH c ⟨b.size,9,none⟩ m λc=>stH c ⟨b.size,10,none⟩ n λc=>stH c ⟨b.size,11,none⟩ o λc=>stH c ⟨b.size,12,none⟩ p λc=>stH c ⟨b.size,13,none⟩ q λc=>stH c ⟨b.size,14,none⟩ r λc=>stH c ⟨b.size,15,none⟩ s λc=>ifB (!a) (K (.slice none 0 0) c) (WB7 c b.size λa d e f g i j k l m n o p q r s=>cf 29 #[.agg #[a,d,e,f,g,i,j,k,l,m,n,o,p,q,r,s]] c λa c=>asInt .i64 a λa=>exI λI59=>exM λm60=>(I59 [.slice none 0 0,.tuple #[],.int .i64 0] c)∧(∀(c d e:Value) (f:Env) (f:Wa1),(I59 [c,d,e] f)→(asInt .i64 e λg=>ifB (decide (g < a)) (asInt .i64 e λa=>WB7 f b.size λb g i j k l m n o p q r s t u v=>cf 31 #[.agg #[b,g,i,j,k,l,m,n,o,p,q,r,s,t,u,v],.int .i64 a] f λb g=>asInt .u64 b λb=>cf 32 #[.int .u64 b] g λb g=>asBool b λb=>ifB b (Wb4 c λb i j=>Ws0 Tryz.prog #[26,26] 26 #[.slice b i j,.slice (some ⟨g.size,0,none⟩) 1 1] (Array.push g (.cells #[.int .i64 a] 3)) λb i=>Wb4 b λb j k=>asInt .i64 e λl=>(I59 [.slice b j k,.int .i64 a,.int .i64 (IntKind.wrap .i64 (l+1))] i)∧((m60 [.slice b j k,.int .i64 a,.int .i64 (IntKind.wrap .i64 (l+1))] i) < (m60 [c,d,e] f))) (asInt .i64 e λb=>(I59 [c,.int .i64 a,.int .i64 (IntKind.wrap .i64 (b+1))] g)∧((m60 [c,.int .i64 a,.int .i64 (IntKind.wrap .i64 (b+1))] g) < (m60 [c,d,e] f)))) (Wb4 c λa b c=>K (.slice a b c) f))))))
theorem call8 {K:Value→Wa1→Prop} {h:Wa1} {xa:Option Addr} (H:F8 K h xa):Wa6 Tryz.prog 8 #[(.pointer xa)] h K:=
 Wa4 Tryz.func8 (by kernel_rfl) (Eq.mp (by kernel_rfl) H)
def F9 (K:Value→Wa1→Prop) (h:Wa1) (xa:Option Addr):Prop:=
 (cf 7 #[.pointer xa] h λa b=>Wb4 a λa c d=>exI λI5=>exM λm6=>(I5 [.int .i64 0,.tuple #[],.int .i64 0] b)∧(∀(b d e:Value) (f:Env) (f:Wa1),(I5 [b,d,e] f)→(asInt .i64 e λg=>ifB (decide (g < (c:Int))) (asI e λg=>bd g (c:Int) (Wd7 (.pointer a) λa=>lS f (Addr.add a (g.toNat*1)) λa c g=>asInt .i64 b λi=>asInt .i64 e λj=>(I5 [.int .i64 (IntKind.wrap .i64 (i+(c:Int))),.slice a c g,.int .i64 (IntKind.wrap .i64 (j+1))] f)∧((m6 [.int .i64 (IntKind.wrap .i64 (i+(c:Int))),.slice a c g,.int .i64 (IntKind.wrap .i64 (j+1))] f) < (m6 [b,d,e] f)))) (asInt .i64 b λa=>K (.int .i64 a) f))))
theorem call9 {K:Value→Wa1→Prop} {h:Wa1} {xa:Option Addr} (H:F9 K h xa):Wa6 Tryz.prog 9 #[(.pointer xa)] h K:=
 Wa4 Tryz.func9 (by kernel_rfl) (Eq.mp (by kernel_rfl) H)
def F10 (K:Value→Wa1→Prop) (h:Wa1) (xa:Option Addr):Prop:=
 (cf 28 #[.pointer xa] h λa b=>Wh0 a λc=>Wb9 c 0 λc=>asAgg c λc=>We8 c 16 (Ys7 c λc d e f g i j k l m n o p q r s=>Wh0 a λa=>Wb9 a 1 λa=>asBool a λa=>stH (Array.push b (.cells #[.int .i64 0,.int .i64 0,.int .i64 0,.int .i64 0,.int .i64 0,.int .i64 0,.int .i64 0,.int .i64 0,.int .i64 0,.int .i64 0,.int .i64 0,.int .i64 0,.int .i64 0,.int .i64 0,.int .i64 0,.slice none 0 0] 65)) ⟨b.size,0,none⟩ c λc=>stH c ⟨b.size,1,none⟩ d λc=>stH c ⟨b.size,2,none⟩ e λc=>stH c ⟨b.size,3,none⟩ f λc=>stH c ⟨b.size,4,none⟩ g λc=>stH c ⟨b.size,5,none⟩ i λc=>stH c ⟨b.size,6,none⟩ j λc=>stH c ⟨b.size,7,none⟩ k λc=>stH c ⟨b.size,8,none⟩ l λc=>stH c ⟨b.size,9,none⟩ m λc=>stH c ⟨b.size,10,none⟩ n λc=>stH c ⟨b.size,11,none⟩ o λc=>stH c ⟨b.size,12,none⟩ p λc=>stH c ⟨b.size,13,none⟩ q λc=>stH c ⟨b.size,14,none⟩ r λc=>stH c ⟨b.size,15,none⟩ s λc=>ifB (!a) (K (.bool false) c) (cf 7 #[.pointer xa] c λa c=>Wb4 a λa d e=>exI λI45=>exM λm46=>(I45 [.bool false,.tuple #[],.tuple #[],.tuple #[],.int .i64 0] c)∧(∀(c f g i j:Value) (k:Env) (k:Wa1),(I45 [c,f,g,i,j] k)→(asInt .i64 j λl=>ifB (decide (l < (d:Int))) (asInt .i64 j λl=>asI j λm=>bd m (d:Int) (Wd7 (.pointer a) λn=>lS k (Addr.add n (m.toNat*1)) λm n o=>ifB (l == 0) (asInt .i64 j λp=>(I45 [c,.int .i64 l,.slice m n o,i,.int .i64 (IntKind.wrap .i64 (p+1))] k)∧((m46 [c,.int .i64 l,.slice m n o,i,.int .i64 (IntKind.wrap .i64 (p+1))] k) < (m46 [c,f,g,i,j] k))) (ldH k ⟨b.size,15,none⟩ λp=>Wb4 p λq r s=>bd 2 (r:Int) (Wd7 (.pointer q) λq=>ldH k (Addr.add q 2) λr=>asInt .u64 r λs=>cf 33 #[.int .i64 l] k λt u=>asInt .i64 t λt=>((Wa2 u (Addr.add q 2))=(some r))∧(ce u b.size 15 p (exI λI73=>(cf 34 #[.slice m n o] u λp q=>asBool p λp=>ifB (!p) (I73 [.bool true,.tuple #[],.bool true] q) (WB7 q b.size λp r u v w x y z A B C D E F G H=>cf 35 #[.agg #[p,r,u,v,w,x,y,z,A,B,C,D,E,F,G,H],.slice a d e,.int .i64 l] q λa d=>asBool a λa=>ifB (!a) (I73 [.bool (!a),.tuple #[],.bool true] d) (ifB (decide (t ≥ (IntKind.wrap .i64 s))) (WB7 d b.size λe p q r u v w x y z A B C D E F=>cf 31 #[.agg #[e,p,q,r,u,v,w,x,y,z,A,B,C,D,E,F],.int .i64 l] d λe p=>asInt .u64 e λe=>cf 36 #[.int .u64 e] p λe p=>asInt .i64 e λe=>I73 [.bool (!a),.bool (e != 0),.bool (e != 0)] p) (I73 [.bool (!a),.bool false,.bool false] d))))∧(∀(a d e:Value) (p:Env) (p:Wa1),(I73 [a,d,e] p)→(asBool e λa=>ifB a (K (.bool false) p) (asInt .i64 j λa=>(I45 [c,.int .i64 l,.slice m n o,.bool (decide (t ≥ (IntKind.wrap .i64 s))),.int .i64 (IntKind.wrap .i64 (a+1))] p)∧((m46 [c,.int .i64 l,.slice m n o,.bool (decide (t ≥ (IntKind.wrap .i64 s))),.int .i64 (IntKind.wrap .i64 (a+1))] p) < (m46 [c,f,g,i,j] k))))))))))) (WB7 k b.size λa c d e f g i j l m n o p q r s=>cf 38 #[.pointer xa] k λk t=>Wd2 k λk=>ce t b.size 0 a (ce t b.size 1 c (ce t b.size 2 d (ce t b.size 3 e (ce t b.size 4 f (ce t b.size 5 g (ce t b.size 6 i (ce t b.size 7 j (ce t b.size 8 l (ce t b.size 9 m (ce t b.size 10 n (ce t b.size 11 o (ce t b.size 12 p (ce t b.size 13 q (ce t b.size 14 r (ce t b.size 15 s (cf 37 #[.agg #[a,c,d,e,f,g,i,j,l,m,n,o,p,q,r,s],.pointer k] t λa b=>asBool a λa=>K (.bool a) b))))))))))))))))))))))
theorem call10 {K:Value→Wa1→Prop} {h:Wa1} {xa:Option Addr} (H:F10 K h xa):Wa6 Tryz.prog 10 #[(.pointer xa)] h K:=
 Wa4 Tryz.func10 (by kernel_rfl) (Eq.mp (by kernel_rfl) H)
def F12 (K:Value→Wa1→Prop) (h:Wa1)  : Prop:=
 (cf 13 #[.agg #[.int .i64 0,.int .i64 1,.int .i64 4,.int .i64 3,.int .i64 1,.int .i64 1,.int .i64 1],.slice none 0 0,.bool true] h λa b=>Wh0 a λc=>Wb9 c 0 λc=>Wd2 c λc=>Wh0 a λa=>Wb9 a 1 λa=>asInt .i64 a λa=>ifB (Option.isNone c) (K (.bool false) b) (cf 40 #[] b λa b=>asAgg a λa=>We8 a 2 (de2 a λa d=>cf 41 #[.agg #[a,d],.pointer c,.int .i64 0,.agg #[.int .i64 0,.int .u32 5,.int .u32 1]] b λa a=>cf 7 #[.pointer c] a λa b=>Wb4 a λa d e=>ifB ((d:Int) == 8) (bd 1 (d:Int) (Wd7 (.pointer a) λe=>lS b (Addr.add e 1) λe e f=>ifB ((e:Int) == 1) (bd 1 (d:Int) (Wd7 (.pointer a) λa=>lS b (Addr.add a 1) λa d e=>bd 0 (d:Int) (Wd7 (.pointer a) λa=>da2 b a λa d=>WM4 Tryz.prog 90 (.agg #[a,d]) (.agg #[.int .u32 5,.int .u32 1]) λa=>ifB a (cf 9 #[.pointer c] b λa c=>asInt .i64 a λa=>K (.bool (a == 1)) c) (K (.bool false) b)))) (K (.bool false) b))) (K (.bool false) b))))
theorem call12 {K:Value→Wa1→Prop} {h:Wa1}  (H:F12 K h ):Wa6 Tryz.prog 12 #[] h K:=
 Wa4 Tryz.func12 (by kernel_rfl) (Eq.mp (by kernel_rfl) H)
abbrev g28 (K:Value→Wa1→Prop) (h H1:Wa1) (xa:Option Addr):Prop:=
 (exI λI0=>(ifB (Option.isNone xa) (I0 [.bool true,.bool true] H1) (cf 79 #[.pointer xa] H1 λa b=>asAgg a λa=>We8 a 15 (Wv2 a λa c d e f g i j k l m n o p q=>cf 80 #[.agg #[a,c,d,e,f,g,i,j,k,l,m,n,o,p,q]] b λa b=>asAgg a λa=>We8 a 7 (de7 a λa c c c c c c=>asInt .i64 a λa=>ifB (a != 0) (I0 [.bool (a != 0),.bool true] b) (cf 79 #[.pointer xa] b λb c=>asAgg b λb=>We8 b 15 (Wv2 b λb d e f g i j k l m n o p q r=>cf 44 #[.agg #[b,d,e,f,g,i,j,k,l,m,n,o,p,q,r]] c λb c=>asInt .i64 b λb=>I0 [.bool (a != 0),.bool (b == 0)] c))))))∧(∀(a b:Value) (c:Env) (c:Wa1),(I0 [a,b] c)→(asBool b λa=>ifB a (YL6 c h.size (.int .i64 0) (.int .i64 0) (.int .i64 0) (.int .i64 0) (.int .i64 0) (.int .i64 0) (.int .i64 0) (.int .i64 0) (.int .i64 0) (.int .i64 0) (.int .i64 0) (.int .i64 0) (.int .i64 0) (.int .i64 0) (.int .i64 0) (.slice none 0 0) λa=>WB7 a h.size λb d e f g i j k l m n o p q r s=>K (.tuple #[.agg #[b,d,e,f,g,i,j,k,l,m,n,o,p,q,r,s],.bool false]) a) (cf 79 #[.pointer xa] c λa b=>asAgg a λa=>We8 a 15 (Wv2 a λa c d e f g i j k l m n o p q=>cf 81 #[.pointer xa] b λb r=>Wd2 b λb=>cf 82 #[.pointer b] r λb r=>Wb4 b λb s t=>YL6 r h.size a c d e f g i j k l m n o p q (.slice b s t) λa=>WB7 a h.size λb c d e f g i j k l m n o p q r=>K (.tuple #[.agg #[b,c,d,e,f,g,i,j,k,l,m,n,o,p,q,r],.bool true]) a)))))
def F28 (K:Value→Wa1→Prop) (h:Wa1) (xa:Option Addr):Prop:=
 (g28 K h (Array.push h (.cells #[.int .i64 0,.int .i64 0,.int .i64 0,.int .i64 0,.int .i64 0,.int .i64 0,.int .i64 0,.int .i64 0,.int .i64 0,.int .i64 0,.int .i64 0,.int .i64 0,.int .i64 0,.int .i64 0,.int .i64 0,.slice none 0 0] 65)) xa)
theorem call28 {K:Value→Wa1→Prop} {h:Wa1} {xa:Option Addr} (H:F28 K h xa):Wa6 Tryz.prog 28 #[(.pointer xa)] h K:=
 Wa4 Tryz.func28 (by kernel_rfl) (Eq.mp (by kernel_rfl) H)
abbrev g29 (K:Value→Wa1→Prop) (h H1:Wa1):Prop:=
 (W64 H1 ⟨h.size,0,none⟩ λa b c d e f g i j k l m n o p=>cf 80 #[.agg #[a,b,c,d,e,f,g,i,j,k,l,m,n,o,p]] H1 λa b=>asAgg a λa=>We8 a 7 (de7 a λa a a a c c c=>asInt .i64 a λa=>((0:Int)≤a)∧(K (.int .i64 (IntKind.wrap .i64 (1*(2 ^ (min a.toNat 64))))) b)))
def F29 (K:Value→Wa1→Prop) (h:Wa1) (xa xb xc xd xe xf xg xh xi xj xk xl xm xn xo:Int) (xp:Option Addr) (xq xr:Nat):Prop:=
 (g29 K h (Array.push h (.cells #[.int .i64 xa,.int .i64 xb,.int .i64 xc,.int .i64 xd,.int .i64 xe,.int .i64 xf,.int .i64 xg,.int .i64 xh,.int .i64 xi,.int .i64 xj,.int .i64 xk,.int .i64 xl,.int .i64 xm,.int .i64 xn,.int .i64 xo,.slice xp xq xr] 65)))
theorem call29 {K:Value→Wa1→Prop} {h:Wa1} {xa xb xc xd xe xf xg xh xi xj xk xl xm xn xo:Int} {xp:Option Addr} {xq xr:Nat} (H:F29 K h xa xb xc xd xe xf xg xh xi xj xk xl xm xn xo xp xq xr):Wa6 Tryz.prog 29 #[(.agg #[(.int .i64 xa),(.int .i64 xb),(.int .i64 xc),(.int .i64 xd),(.int .i64 xe),(.int .i64 xf),(.int .i64 xg),(.int .i64 xh),(.int .i64 xi),(.int .i64 xj),(.int .i64 xk),(.int .i64 xl),(.int .i64 xm),(.int .i64 xn),(.int .i64 xo),(.slice xp xq xr)])] h K:=
 Wa4 Tryz.func29 (by kernel_rfl) (Eq.mp (by kernel_rfl) H)
abbrev g30 (K:Value→Wa1→Prop) (h H1:Wa1) (xa:Int):Prop:=
 (WB7 H1 h.size λa b c d e f g i j k l m n o p q=>cf 83 #[.agg #[a,b,c,d,e,f,g,i,j,k,l,m,n,o,p,q],.int .i64 xa] H1 λa b=>Wb4 a λa c d=>exI λI21=>exM λm22=>(I21 [.slice none 0 0,.tuple #[],.int .i64 0] b)∧(∀(b d e:Value) (f:Env) (f:Wa1),(I21 [b,d,e] f)→(asInt .i64 e λg=>ifB (decide (g < (c:Int))) (asI e λg=>bd g (c:Int) (Wd7 (.pointer a) λa=>lI .i64 f (Addr.add a (g.toNat*1)) λa=>Wb4 b λc g i=>WB7 f h.size λj k l m n o p q r s t u v w x y=>cf 84 #[.agg #[j,k,l,m,n,o,p,q,r,s,t,u,v,w,x,y],.int .i64 a] f λj k=>asAgg j λj=>We8 j 2 (de2 j λj l=>Ws0 Tryz.prog #[44,44] 44 #[.slice c g i,.slice (some ⟨k.size,0,none⟩) 1 1] (Array.push k (.cells #[j,l] 90)) λc g=>Wb4 c λc i j=>asInt .i64 e λk=>(I21 [.slice c i j,.int .i64 a,.int .i64 (IntKind.wrap .i64 (k+1))] g)∧((m22 [.slice c i j,.int .i64 a,.int .i64 (IntKind.wrap .i64 (k+1))] g) < (m22 [b,d,e] f))))) (Wb4 b λa b c=>K (.slice a b c) f))))
def F30 (K:Value→Wa1→Prop) (h:Wa1) (xa xb xc xd xe xf xg xh xi xj xk xl xm xn xo:Int) (xp:Option Addr) (xq xr:Nat) (xs:Int):Prop:=
 (g30 K h (Array.push h (.cells #[.int .i64 xa,.int .i64 xb,.int .i64 xc,.int .i64 xd,.int .i64 xe,.int .i64 xf,.int .i64 xg,.int .i64 xh,.int .i64 xi,.int .i64 xj,.int .i64 xk,.int .i64 xl,.int .i64 xm,.int .i64 xn,.int .i64 xo,.slice xp xq xr] 65)) xs)
theorem call30 {K:Value→Wa1→Prop} {h:Wa1} {xa xb xc xd xe xf xg xh xi xj xk xl xm xn xo:Int} {xp:Option Addr} {xq xr:Nat} {xs:Int} (H:F30 K h xa xb xc xd xe xf xg xh xi xj xk xl xm xn xo xp xq xr xs):Wa6 Tryz.prog 30 #[(.agg #[(.int .i64 xa),(.int .i64 xb),(.int .i64 xc),(.int .i64 xd),(.int .i64 xe),(.int .i64 xf),(.int .i64 xg),(.int .i64 xh),(.int .i64 xi),(.int .i64 xj),(.int .i64 xk),(.int .i64 xl),(.int .i64 xm),(.int .i64 xn),(.int .i64 xo),(.slice xp xq xr)]),(.int .i64 xs)] h K:=
 Wa4 Tryz.func30 (by kernel_rfl) (Eq.mp (by kernel_rfl) H)
abbrev g31 (K:Value→Wa1→Prop) (h H1:Wa1) (xa:Int):Prop:=
 (ldH H1 ⟨h.size,15,none⟩ λa=>Wb4 a λb c d=>W64 H1 ⟨h.size,0,none⟩ λd e f g i j k l m n o p q r s=>cf 85 #[.agg #[d,e,f,g,i,j,k,l,m,n,o,p,q,r,s],.int .i64 xa] H1 λd e=>asInt .i64 d λd=>ce e h.size 15 a (bd d (c:Int) (Wd7 (.pointer b) λa=>lI .u64 e (Addr.add a (d.toNat*1)) λa=>K (.int .u64 a) e)))
def F31 (K:Value→Wa1→Prop) (h:Wa1) (xa xb xc xd xe xf xg xh xi xj xk xl xm xn xo:Int) (xp:Option Addr) (xq xr:Nat) (xs:Int):Prop:=
 (g31 K h (Array.push h (.cells #[.int .i64 xa,.int .i64 xb,.int .i64 xc,.int .i64 xd,.int .i64 xe,.int .i64 xf,.int .i64 xg,.int .i64 xh,.int .i64 xi,.int .i64 xj,.int .i64 xk,.int .i64 xl,.int .i64 xm,.int .i64 xn,.int .i64 xo,.slice xp xq xr] 65)) xs)
theorem call31 {K:Value→Wa1→Prop} {h:Wa1} {xa xb xc xd xe xf xg xh xi xj xk xl xm xn xo:Int} {xp:Option Addr} {xq xr:Nat} {xs:Int} (H:F31 K h xa xb xc xd xe xf xg xh xi xj xk xl xm xn xo xp xq xr xs):Wa6 Tryz.prog 31 #[(.agg #[(.int .i64 xa),(.int .i64 xb),(.int .i64 xc),(.int .i64 xd),(.int .i64 xe),(.int .i64 xf),(.int .i64 xg),(.int .i64 xh),(.int .i64 xi),(.int .i64 xj),(.int .i64 xk),(.int .i64 xl),(.int .i64 xm),(.int .i64 xn),(.int .i64 xo),(.slice xp xq xr)]),(.int .i64 xs)] h K:=
 Wa4 Tryz.func31 (by kernel_rfl) (Eq.mp (by kernel_rfl) H)
def F40 (K:Value→Wa1→Prop) (h:Wa1)  : Prop:=
 (stH (Array.push h (.cells #[.nilFunc,.int .i64 0] 86)) ⟨h.size,0,none⟩ (.func (.func 67) #[] #[]) λa=>stH a ⟨h.size,1,none⟩ (.int .i64 11) λa=>dl2 a h.size λb c=>K (.agg #[b,c]) a)
theorem call40 {K:Value→Wa1→Prop} {h:Wa1}  (H:F40 K h ):Wa6 Tryz.prog 40 #[] h K:=
 Wa4 Tryz.func40 (by kernel_rfl) (Eq.mp (by kernel_rfl) H)
abbrev g83 (K:Value→Wa1→Prop) (h H1:Wa1) (xa:Int):Prop:=
 (WB7 H1 h.size λa b c d e f g i j k l m n o p q=>cf 31 #[.agg #[a,b,c,d,e,f,g,i,j,k,l,m,n,o,p,q],.int .i64 xa] H1 λa b=>asInt .u64 a λa=>cf 36 #[.int .u64 a] b λa b=>asInt .i64 a λa=>W64 b ⟨h.size,0,none⟩ λc d e f g i j k l m n o p q r=>cf 80 #[.agg #[c,d,e,f,g,i,j,k,l,m,n,o,p,q,r]] b λb c=>asAgg b λb=>We8 b 7 (de7 b λb b b d d d d=>asInt .i64 b λb=>exI λI48=>exM λm49=>(I48 [.slice none 0 0,.int .i64 a,.tuple #[],.int .i64 0] c)∧(∀(a c d e:Value) (f:Env) (f:Wa1),(I48 [a,c,d,e] f)→(asInt .i64 e λg=>ifB (decide (g < b)) (W64 f ⟨h.size,0,none⟩ λb g i j k l m n o p q r s t u=>asInt .i64 c λv=>cf 99 #[.agg #[b,g,i,j,k,l,m,n,o,p,q,r,s,t,u],.int .i64 v,.int .i64 2] f λb g=>asInt .i64 b λb=>ifB (decide (b < 0)) (Wb4 a λi j k=>K (.slice i j k) g) (Wb4 a λi j k=>asInt .i64 c λl=>Ws0 Tryz.prog #[26,26] 26 #[.slice i j k,.slice (some ⟨g.size,0,none⟩) 1 1] (Array.push g (.cells #[.int .i64 l] 3)) λg i=>Wb4 g λg j k=>lS i ⟨h.size,15,none⟩ λl m n=>bd b (m:Int) (Wd7 (.pointer l) λl=>lI .u64 i (Addr.add l (b.toNat*1)) λl=>asInt .i64 e λm=>(I48 [.slice g j k,.int .i64 (IntKind.wrap .i64 l),.int .i64 b,.int .i64 (IntKind.wrap .i64 (m+1))] i)∧((m49 [.slice g j k,.int .i64 (IntKind.wrap .i64 l),.int .i64 b,.int .i64 (IntKind.wrap .i64 (m+1))] i) < (m49 [a,c,d,e] f))))) (Wb4 a λa b c=>K (.slice a b c) f)))))
def F83 (K:Value→Wa1→Prop) (h:Wa1) (xa xb xc xd xe xf xg xh xi xj xk xl xm xn xo:Int) (xp:Option Addr) (xq xr:Nat) (xs:Int):Prop:=
 (g83 K h (Array.push h (.cells #[.int .i64 xa,.int .i64 xb,.int .i64 xc,.int .i64 xd,.int .i64 xe,.int .i64 xf,.int .i64 xg,.int .i64 xh,.int .i64 xi,.int .i64 xj,.int .i64 xk,.int .i64 xl,.int .i64 xm,.int .i64 xn,.int .i64 xo,.slice xp xq xr] 65)) xs)
theorem call83 {K:Value→Wa1→Prop} {h:Wa1} {xa xb xc xd xe xf xg xh xi xj xk xl xm xn xo:Int} {xp:Option Addr} {xq xr:Nat} {xs:Int} (H:F83 K h xa xb xc xd xe xf xg xh xi xj xk xl xm xn xo xp xq xr xs):Wa6 Tryz.prog 83 #[(.agg #[(.int .i64 xa),(.int .i64 xb),(.int .i64 xc),(.int .i64 xd),(.int .i64 xe),(.int .i64 xf),(.int .i64 xg),(.int .i64 xh),(.int .i64 xi),(.int .i64 xj),(.int .i64 xk),(.int .i64 xl),(.int .i64 xm),(.int .i64 xn),(.int .i64 xo),(.slice xp xq xr)]),(.int .i64 xs)] h K:=
 Wa4 Tryz.func83 (by kernel_rfl) (Eq.mp (by kernel_rfl) H)
abbrev g84 (K:Value→Wa1→Prop) (h H1 H2:Wa1) (xa:Int):Prop:=
 (ldH H2 ⟨h.size,15,none⟩ λa=>Wb4 a λb c d=>W64 H2 ⟨h.size,0,none⟩ λd e f g i j k l m n o p q r s=>ldH H2 ⟨h.size,15,none⟩ λt=>Wb4 t λu v w=>W64 H2 ⟨h.size,0,none⟩ λw x y z A B C D E F G H I J L=>cf 99 #[.agg #[d,e,f,g,i,j,k,l,m,n,o,p,q,r,s],.int .i64 xa,.int .i64 0] H2 λd e=>asInt .i64 d λd=>ce e h.size 0 w (((Wa2 e (Addr.add ⟨h.size,0,none⟩ 1))=(some x))∧(((Wa2 e (Addr.add ⟨h.size,0,none⟩ 2))=(some y))∧(((Wa2 e (Addr.add ⟨h.size,0,none⟩ 3))=(some z))∧(((Wa2 e (Addr.add ⟨h.size,0,none⟩ 4))=(some A))∧(((Wa2 e (Addr.add ⟨h.size,0,none⟩ 5))=(some B))∧(((Wa2 e (Addr.add ⟨h.size,0,none⟩ 6))=(some C))∧(((Wa2 e (Addr.add ⟨h.size,0,none⟩ 7))=(some D))∧(((Wa2 e (Addr.add ⟨h.size,0,none⟩ 8))=(some E))∧(((Wa2 e (Addr.add ⟨h.size,0,none⟩ 9))=(some F))∧(((Wa2 e (Addr.add ⟨h.size,0,none⟩ 10))=(some G))∧(((Wa2 e (Addr.add ⟨h.size,0,none⟩ 11))=(some H))∧(((Wa2 e (Addr.add ⟨h.size,0,none⟩ 12))=(some I))∧(((Wa2 e (Addr.add ⟨h.size,0,none⟩ 13))=(some J))∧(((Wa2 e (Addr.add ⟨h.size,0,none⟩ 14))=(some L))∧(ce e h.size 15 t (ce e h.size 15 a (bd d (c:Int) (Wd7 (.pointer b) λb=>ldH e (Addr.add b (d.toNat*1)) λc=>asInt .u64 c λf=>cf 99 #[.agg #[w,x,y,z,A,B,C,D,E,F,G,H,I,J,L],.int .i64 xa,.int .i64 1] e λe g=>asInt .i64 e λe=>((Wa2 g (Addr.add b (d.toNat*1)))=(some c))∧(ce g h.size 15 t (ce g h.size 15 a (bd e (v:Int) (Wd7 (.pointer u) λa=>lI .u64 g (Addr.add a (e.toNat*1)) λa=>dw2 g H1.size (.int .u32 (IntKind.wrap .u32 f)) (.int .u32 (IntKind.wrap .u32 a)) λa=>dl2 a H1.size λb c=>K (.agg #[b,c]) a)))))))))))))))))))))))
def F84 (K:Value→Wa1→Prop) (h:Wa1) (xa xb xc xd xe xf xg xh xi xj xk xl xm xn xo:Int) (xp:Option Addr) (xq xr:Nat) (xs:Int):Prop:=
 (g84 K h (Array.push h (.cells #[.int .i64 xa,.int .i64 xb,.int .i64 xc,.int .i64 xd,.int .i64 xe,.int .i64 xf,.int .i64 xg,.int .i64 xh,.int .i64 xi,.int .i64 xj,.int .i64 xk,.int .i64 xl,.int .i64 xm,.int .i64 xn,.int .i64 xo,.slice xp xq xr] 65)) (Array.push (Array.push h (.cells #[.int .i64 xa,.int .i64 xb,.int .i64 xc,.int .i64 xd,.int .i64 xe,.int .i64 xf,.int .i64 xg,.int .i64 xh,.int .i64 xi,.int .i64 xj,.int .i64 xk,.int .i64 xl,.int .i64 xm,.int .i64 xn,.int .i64 xo,.slice xp xq xr] 65)) (.cells #[.int .u32 0,.int .u32 0] 90)) xs)
theorem call84 {K:Value→Wa1→Prop} {h:Wa1} {xa xb xc xd xe xf xg xh xi xj xk xl xm xn xo:Int} {xp:Option Addr} {xq xr:Nat} {xs:Int} (H:F84 K h xa xb xc xd xe xf xg xh xi xj xk xl xm xn xo xp xq xr xs):Wa6 Tryz.prog 84 #[(.agg #[(.int .i64 xa),(.int .i64 xb),(.int .i64 xc),(.int .i64 xd),(.int .i64 xe),(.int .i64 xf),(.int .i64 xg),(.int .i64 xh),(.int .i64 xi),(.int .i64 xj),(.int .i64 xk),(.int .i64 xl),(.int .i64 xm),(.int .i64 xn),(.int .i64 xo),(.slice xp xq xr)]),(.int .i64 xs)] h K:=
 Wa4 Tryz.func84 (by kernel_rfl) (Eq.mp (by kernel_rfl) H)
end
section
open Mod
def Wk2 (p:Pl) (w:List Int):Nat→Int→List Int
 | 0,_=>[]
 | n+1,i=>if p.node i 2 < 0 then [] else i :: Wk2 p w n (s64 (w.getD (p.node i 2).toNat 0))
def Wv3 (p:Pl) (w:List Int) (i:Int):Int:=Ww5 (w.getD (p.at i).toNat 0)
abbrev Bp:=Int × Int
def bpc (x:Bp):List Value:=[.int .u32 x.1,.int .u32 x.2]
def Wt4 (p:Pl) (w:List Int) (i:Int):Bp:=(u32 (w.getD (p.node i 0).toNat 0),u32 (w.getD (p.node i 1).toNat 0))
def WB2 (p:Pl) (w:List Int) (i:Int):List Bp:=(Wk2 p w p.c.nodes.toNat (Wv3 p w i)).map (Wt4 p w)
def Wg0 (p:Pl) (w:List Int):List (List Bp):=(List.range (2 ^ p.c.level.toNat)).map λ(i:Nat)=>if i=0 then [] else WB2 p w i
structure YD8 (p:Pl) (w:List Int):Prop where
 P:PlB p
 hw:(w.length:Int)=p.size
 hu:∀v ∈ w,U v
 nd:p.nodes+p.c.nodes*p.width=p.tree
 tr:p.size - p.tree=2 ^ p.c.level.toNat
abbrev vwc (p:Pl) (a:Option Addr) (n c:Nat):List Value:=[.int .i64 p.c.algo,.int .i64 p.c.threads,.int .i64 p.c.nodes,.int .i64 p.c.level,.int .i64 p.c.batch,.int .i64 p.c.probes,.int .i64 p.c.scan,.int .i64 p.slots,.int .i64 p.width,.int .i64 p.sent,.int .i64 p.hazards,.int .i64 p.links,.int .i64 p.nodes,.int .i64 p.tree,.int .i64 p.size,.slice a n c]
def vwV (p:Pl) (a:Option Addr) (n c:Nat):Value:=.agg #[.int .i64 p.c.algo,.int .i64 p.c.threads,.int .i64 p.c.nodes,.int .i64 p.c.level,.int .i64 p.c.batch,.int .i64 p.c.probes,.int .i64 p.c.scan,.int .i64 p.slots,.int .i64 p.width,.int .i64 p.sent,.int .i64 p.hazards,.int .i64 p.links,.int .i64 p.nodes,.int .i64 p.tree,.int .i64 p.size,.slice a n c]
theorem Yp7 (h:Wa1) (p:Pl) (a:Option Addr) (n c:Nat):h.push (.cells #[.int .i64 p.c.algo,.int .i64 p.c.threads,.int .i64 p.c.nodes,.int .i64 p.c.level,.int .i64 p.c.batch,.int .i64 p.c.probes,.int .i64 p.c.scan,.int .i64 p.slots,.int .i64 p.width,.int .i64 p.sent,.int .i64 p.hazards,.int .i64 p.links,.int .i64 p.nodes,.int .i64 p.tree,.int .i64 p.size,.slice a n c] 65)=h.push (.cells (vwc p a n c).toArray 65):=rfl
theorem YV6 {p:Pl} {a:Option Addr} {n c:Nat} {F:Value→Value→Value→Value→Value→Value→Value→Value→Value→Value→Value→Value→Value→Value→Value→Value→Prop} (k:F (.int .i64 p.c.algo) (.int .i64 p.c.threads) (.int .i64 p.c.nodes) (.int .i64 p.c.level) (.int .i64 p.c.batch) (.int .i64 p.c.probes) (.int .i64 p.c.scan) (.int .i64 p.slots) (.int .i64 p.width) (.int .i64 p.sent) (.int .i64 p.hazards) (.int .i64 p.links) (.int .i64 p.nodes) (.int .i64 p.tree) (.int .i64 p.size) (.slice a n c)):asAgg (vwV p a n c) λvs=>We8 vs 16 (Wb9 vs 0 λv0=>Wb9 vs 1 λv1=>Wb9 vs 2 λv2=>Wb9 vs 3 λv3=>Wb9 vs 4 λv4=>Wb9 vs 5 λv5=>Wb9 vs 6 λv6=>Wb9 vs 7 λv7=>Wb9 vs 8 λv8=>Wb9 vs 9 λv9=>Wb9 vs 10 λv10=>Wb9 vs 11 λv11=>Wb9 vs 12 λv12=>Wb9 vs 13 λv13=>Wb9 vs 14 λv14=>Wb9 vs 15 λv15=>F v0 v1 v2 v3 v4 v5 v6 v7 v8 v9 v10 v11 v12 v13 v14 v15):=k
theorem Yp8 {h:Wa1} {N:Nat} {p:Pl} {a:Option Addr} {n c:Nat} {ty:TypeId} {F:Value→Value→Value→Value→Value→Value→Value→Value→Value→Value→Value→Value→Value→Value→Value→Prop} (O:h[N]? = some (.cells (vwc p a n c).toArray ty)) (k:F (.int .i64 p.c.algo) (.int .i64 p.c.threads) (.int .i64 p.c.nodes) (.int .i64 p.c.level) (.int .i64 p.c.batch) (.int .i64 p.c.probes) (.int .i64 p.c.scan) (.int .i64 p.slots) (.int .i64 p.width) (.int .i64 p.sent) (.int .i64 p.hazards) (.int .i64 p.links) (.int .i64 p.nodes) (.int .i64 p.tree) (.int .i64 p.size)) :
  ldH h ⟨N,0,none⟩ λv0=>ldH h ⟨N,1,none⟩ λv1=>ldH h ⟨N,2,none⟩ λv2=>ldH h ⟨N,3,none⟩ λv3=>ldH h ⟨N,4,none⟩ λv4=>ldH h ⟨N,5,none⟩ λv5=>ldH h ⟨N,6,none⟩ λv6=>ldH h ⟨N,7,none⟩ λv7=>ldH h ⟨N,8,none⟩ λv8=>ldH h ⟨N,9,none⟩ λv9=>ldH h ⟨N,10,none⟩ λv10=>ldH h ⟨N,11,none⟩ λv11=>ldH h ⟨N,12,none⟩ λv12=>ldH h ⟨N,13,none⟩ λv13=>ldH h ⟨N,14,none⟩ λv14=>F v0 v1 v2 v3 v4 v5 v6 v7 v8 v9 v10 v11 v12 v13 v14:=
 ldR O rfl (ldR O rfl (ldR O rfl (ldR O rfl (ldR O rfl (ldR O rfl (ldR O rfl (ldR O rfl (ldR O rfl (ldR O rfl (ldR O rfl (ldR O rfl (ldR O rfl (ldR O rfl (ldR O rfl k))))))))))))))
theorem W29 {h:Wa1} {N:Nat} {p:Pl} {a:Option Addr} {n c:Nat} {ty:TypeId} {F:Value→Value→Value→Value→Value→Value→Value→Value→Value→Value→Value→Value→Value→Value→Value→Value→Prop} (O:h[N]? = some (.cells (vwc p a n c).toArray ty)) (k:F (.int .i64 p.c.algo) (.int .i64 p.c.threads) (.int .i64 p.c.nodes) (.int .i64 p.c.level) (.int .i64 p.c.batch) (.int .i64 p.c.probes) (.int .i64 p.c.scan) (.int .i64 p.slots) (.int .i64 p.width) (.int .i64 p.sent) (.int .i64 p.hazards) (.int .i64 p.links) (.int .i64 p.nodes) (.int .i64 p.tree) (.int .i64 p.size) (.slice a n c)) :
  ldH h ⟨N,0,none⟩ λv0=>ldH h ⟨N,1,none⟩ λv1=>ldH h ⟨N,2,none⟩ λv2=>ldH h ⟨N,3,none⟩ λv3=>ldH h ⟨N,4,none⟩ λv4=>ldH h ⟨N,5,none⟩ λv5=>ldH h ⟨N,6,none⟩ λv6=>ldH h ⟨N,7,none⟩ λv7=>ldH h ⟨N,8,none⟩ λv8=>ldH h ⟨N,9,none⟩ λv9=>ldH h ⟨N,10,none⟩ λv10=>ldH h ⟨N,11,none⟩ λv11=>ldH h ⟨N,12,none⟩ λv12=>ldH h ⟨N,13,none⟩ λv13=>ldH h ⟨N,14,none⟩ λv14=>ldH h ⟨N,15,none⟩ λv15=>F v0 v1 v2 v3 v4 v5 v6 v7 v8 v9 v10 v11 v12 v13 v14 v15:=
 ldR O rfl (ldR O rfl (ldR O rfl (ldR O rfl (ldR O rfl (ldR O rfl (ldR O rfl (ldR O rfl (ldR O rfl (ldR O rfl (ldR O rfl (ldR O rfl (ldR O rfl (ldR O rfl (ldR O rfl (ldR O rfl k)))))))))))))))
theorem Ys9 {h:Wa1} {b:Nat} {v0 v1 v2 v3 v4 v5 v6 v7 v8 v9 v10 v11 v12 v13 v14 v15:Value} {K:Wa1→Prop} (H:stN h ⟨b,0,none⟩ 0 [v0,v1,v2,v3,v4,v5,v6,v7,v8,v9,v10,v11,v12,v13,v14,v15] K) :
 stH h ⟨b,0,none⟩ v0 λh=>stH h ⟨b,1,none⟩ v1 λh=>stH h ⟨b,2,none⟩ v2 λh=>stH h ⟨b,3,none⟩ v3 λh=>stH h ⟨b,4,none⟩ v4 λh=>stH h ⟨b,5,none⟩ v5 λh=>stH h ⟨b,6,none⟩ v6 λh=>stH h ⟨b,7,none⟩ v7 λh=>stH h ⟨b,8,none⟩ v8 λh=>stH h ⟨b,9,none⟩ v9 λh=>stH h ⟨b,10,none⟩ v10 λh=>stH h ⟨b,11,none⟩ v11 λh=>stH h ⟨b,12,none⟩ v12 λh=>stH h ⟨b,13,none⟩ v13 λh=>stH h ⟨b,14,none⟩ v14 λh=>stH h ⟨b,15,none⟩ v15 K:=H
theorem Yp9 {h:Wa1} {a:Option Addr} {w:List Int} (S:Sees h a (uvs w)) {i:Nat} (hi:i < w.length):∃ad,a=some ad∧Wa2 h (ad.add i)=some (.int .u64 (w.getD i 0)):=by
 refine S i _ ?_
 unfold uvs
 rw [List.getElem?_map,List.getElem?_eq_getElem hi]
 simp [hi]
theorem W30 {p:Pl} {w:List Int} (V:YD8 p w) {i f:Int} (h:¬ p.node i f < 0):0≤p.node i f∧p.node i f < w.length:=by
 have b1:=V.P.wi
 have b2:=V.P.no
 have b3:=V.P.si
 have b4:=V.P.nd
 have b5:=V.P.li
 have b6:=V.nd
 have b7:=V.hw
 unfold Pl.node at *
 split at h
 ·rename_i c
  rw [if_pos c]
  have h1:(i - 1)*p.width≤(p.c.nodes - 1)*p.width:=Int.mul_le_mul_of_nonneg_right (by omega) (by omega)
  have h2:0≤(i - 1)*p.width:=Int.mul_nonneg (by omega) (by omega)
  have h3:(p.c.nodes - 1)*p.width=p.c.nodes*p.width - p.width:=by rw [Int.sub_mul,Int.one_mul]
  omega
 ·omega
theorem Yq0 {p:Pl} (P:PlB p) {i f g:Int} (h:¬ p.node i f < 0) (hg:0≤g∧g < p.width):¬ p.node i g < 0:=by
 have b1:=P.wi
 have b4:=P.nd
 have b5:=P.li
 unfold Pl.node at *
 split at h
 ·rename_i c
  rw [if_pos ⟨c.1,c.2.1,hg.1,hg.2⟩]
  have h2:0≤(i - 1)*p.width:=Int.mul_nonneg (by omega) (by omega)
  omega
 ·omega
theorem WM2 {p:Pl} {w:List Int}:∀ {n:Nat} {i j:Int},j ∈ Wk2 p w n i→¬ p.node j 2 < 0
 | 0,_,_,h=>by cases h
 | n+1,i,j,h=>by
  unfold Wk2 at h
  split at h
  ·cases h
  ·rename_i c
   rcases List.mem_cons.1 h with rfl | h
   ·exact c
   ·exact WM2 h
theorem Ww3 {p:Pl} {w:List Int}:∀(n:Nat) (i:Int),(Wk2 p w n i).length≤n
 | 0,_=>Nat.le_refl _
 | n+1,i=>by
  unfold Wk2
  split
  ·simp
  ·simp only [List.length_cons]
   have:=Ww3 (p:=p) (w:=w) n (s64 (w.getD (p.node i 2).toNat 0))
   omega
theorem Sat.drop3 {h:Wa1} {A B C R:Hp} (H:Sat h (A*(B*(C*R)))):Sat h (A*(B*R)):=by
 rw [YC4] at H
 exact H.drop
theorem YO6:und Tryz.prog 44=.slice 90:=by kernel_rfl
theorem Yy1:Wf0 Tryz.prog 90=true:=by kernel_rfl
theorem YO7:zer Tryz.prog 90=some (.agg #[.int .u32 0,.int .u32 0]):=by kernel_rfl
theorem W81:siz Tryz.prog 90=2:=by kernel_rfl
theorem YD9:byt Tryz.prog 90=8:=by kernel_rfl
theorem YO8:Wm5 Tryz.prog 44 = [.slice none 0 0]:=by kernel_rfl
theorem YI4:byt Tryz.prog 44=24:=by kernel_rfl
theorem Yq1 (n:Nat) (h:n < 100000):s64 (n:Int)=n:=by unfold s64;omega
section
variable {K:Value→Wa1→Prop} {h:Wa1} {R:Hp} {p:Pl} {w:List Int} {a:Option Addr} {c:Nat}
theorem YO9 {a:Option Addr} {l c:Nat} {xs:List Bp} {x:Bp} {X:Hp} {F:Value→Wa1→Prop} (H:Sat h (We7 90 2 a l c (xs.flatMap bpc)*X)) (hl:l≤60000)
  (k:∀a' c' h',Sat h' (We7 90 2 a' (l+1) c' ((xs ++ [x]).flatMap bpc)*X)→F (.slice a' (l+1) c') h') :
  Ws0 Tryz.prog #[44,44] 44 #[.slice a l c,.slice (some ⟨h.size,0,none⟩) 1 1] (h.push (.cells #[.int .u32 x.1,.int .u32 x.2] 90)) F:=by
 have H1:=H.push (.cells (bpc x).toArray 90)
 have hs:Sees (h.push (.cells (bpc x).toArray 90)) (some ⟨h.size,0,none⟩) (bpc x):=W80
 have e:(.cells #[.int .u32 x.1,.int .u32 x.2] 90:Obj)=.cells (bpc x).toArray 90:=rfl
 rw [e]
 have H2:Sat (h.push (.cells (bpc x).toArray 90)) (We7 90 (siz Tryz.prog 90) a l c (xs.flatMap bpc)*X):=by
  rw [W81];exact H1.drop
 refine H2.app YO6 Yy1 YO7 (by rw [W81];rfl) hs (n:=1) (by rw [W81];rfl) (by simp [bpc,Wi3]) (by rw [YD9];omega) (by rw [YD9];omega) λa' c' h' H3=>k a' c' h' ?_
 rw [W81] at H3
 rw [List.flatMap_append,List.flatMap_singleton]
 exact H3
theorem WB3 (P:PlB p) (H:Sat h R) {n:Nat} (k:∀h',Sat h' R→K (.int .i64 ((2 ^ p.c.level.toNat:Nat):Int)) h'):Wa6 Tryz.prog 29 #[vwV p a n c] h K:=by
 refine call29 ?_
 unfold F29 g29 cf W64 de7
 rw [Yp7]
 have H1:=H.push (.cells (vwc p a n c).toArray 65)
 generalize h.push (.cells (vwc p a n c).toArray 65)=h1 at *
 generalize h.size=N at *
 refine Yp8 H1.at ?_
 refine Wa0 (Wh5 λh2 o2=>cf7 ?_)
 try simp only [Wa9,bsx,Nat.reduceAdd,Int.reduceLE,Int.reduceLT,Int.reduceToNat]
 have hl:=P.lv
 refine ⟨by omega,?_⟩
 have e:min p.c.level.toNat 64=p.c.level.toNat:=by omega
 have e2:2 ^ p.c.level.toNat≤2 ^ 6:=Nat.pow_le_pow_right (by decide) (by omega)
 have e3:((2 ^ p.c.level.toNat:Nat):Int)=(2:Int) ^ p.c.level.toNat:=by simp
 rw [e,Int.one_mul,← e3,Yq1 _ (by omega)]
 exact k h2 (H1.old o2).drop
theorem Ye3 (V:YD8 p w) (H:Sat h (We7 70 1 a w.length c (uvs w)*R)) {i:Int} (hi:0≤i∧i < 2 ^ p.c.level.toNat) (k:∀h',Sat h' (We7 70 1 a w.length c (uvs w)*R)→K (.int .u64 (w.getD (p.at i).toNat 0)) h') :
  Wa6 Tryz.prog 31 #[vwV p a w.length c,.int .i64 i] h K:=by
 refine call31 ?_
 unfold F31 g31 cf ce bd lI W64
 rw [Yp7]
 have H1:=H.push (.cells (vwc p a w.length c).toArray 65)
 generalize h.push (.cells (vwc p a w.length c).toArray 65)=h1 at *
 generalize h.size=N at *
 have b1:=V.P.lv
 have b2:=V.P.si
 have b3:=V.tr
 have b4:=V.hw
 have b5:=V.P.tr
 have b6:=V.P.nd
 have b7:=V.P.li
 refine ldR H1.at rfl ?_
 try simp only [Wa9,bsx,Nat.reduceAdd,Int.reduceLE,Int.reduceLT,Int.reduceToNat]
 refine Yp8 H1.at ?_
 refine Wa0 (WE9 V.P ⟨by omega,by omega⟩ λh2 o2=>?_)
 have H2:=H1.old o2
 try simp only [Wa9,bsx,Nat.reduceAdd,Int.reduceLE,Int.reduceLT,Int.reduceToNat]
 have ea:p.at i=p.tree+i:=by unfold Pl.at;rw [if_pos (by omega)]
 obtain ⟨ad,e,hc⟩:=Yp9 H2.drop.own.sees (i:=(p.at i).toNat) (by omega)
 subst e
 refine ⟨Wd9 H2.at rfl,by omega,by omega,?_⟩
 try simp only [Wa9,bsx,Nat.reduceAdd,Int.reduceLE,Int.reduceLT,Int.reduceToNat]
 refine Wc4 hc ?_
 try simp only [Wa9,bsx,Nat.reduceAdd,Int.reduceLE,Int.reduceLT,Int.reduceToNat]
 exact k h2 H2.drop
theorem Ye4 (V:YD8 p w) (H:Sat h (We7 70 1 a w.length c (uvs w)*R)) {i:Int} (hi:¬ p.node i 2 < 0) (k:∀h',Sat h' (We7 70 1 a w.length c (uvs w)*R)→K (.agg #[.int .u32 (Wt4 p w i).1,.int .u32 (Wt4 p w i).2]) h') :
  Wa6 Tryz.prog 84 #[vwV p a w.length c,.int .i64 i] h K:=by
 refine call84 ?_
 unfold F84 g84 cf ce bd lI W64 dl2 dw2
 rw [Yp7]
 have H1:=H.push (.cells (vwc p a w.length c).toArray 65)
 generalize h.push (.cells (vwc p a w.length c).toArray 65)=h1 at *
 generalize h.size=N at *
 have H2:=H1.push (.cells #[.int .u32 0,.int .u32 0] 90)
 generalize h1.push (.cells #[.int .u32 0,.int .u32 0] 90)=h2 at *
 generalize h1.size=N2 at *
 have b1:=V.P.wi
 have b2:=V.P.no
 have hin:iN i:=by
  unfold Pl.node at hi
  split at hi
  ·exact ⟨by omega,by omega⟩
  ·omega
 have n0:=W30 V (Yq0 V.P hi (g:=0) (by omega))
 have n1:=W30 V (Yq0 V.P hi (g:=1) (by omega))
 refine ldR H2.at2 rfl ?_
 try simp only [Wa9,bsx,Nat.reduceAdd,Int.reduceLE,Int.reduceLT,Int.reduceToNat]
 refine W29 H2.at2 ?_
 try simp only [Wa9,bsx,Nat.reduceAdd,Int.reduceLE,Int.reduceLT,Int.reduceToNat]
 refine Yp8 H2.at2 ?_
 refine Wa0 (Wf5 V.P hin ⟨by omega,by omega⟩ λh3 o3=>?_)
 have H3:=H2.old o3
 try simp only [Wa9,bsx,Nat.reduceAdd,Int.reduceLE,Int.reduceLT,Int.reduceToNat]
 have S3:=H3.drop.drop.own.sees
 obtain ⟨ad,e,hc⟩:=Yp9 S3 (i:=(p.node i 0).toNat) (by omega)
 subst e
 have O3:=H3.at2
 repeat (refine ⟨Wd9 O3 rfl,?_⟩)
 refine ⟨by omega,by omega,?_⟩
 try simp only [Wa9,bsx,Nat.reduceAdd,Int.reduceLE,Int.reduceLT,Int.reduceToNat]
 refine Wc4 hc ?_
 try simp only [Wa9,bsx,Nat.reduceAdd,Int.reduceLE,Int.reduceLT,Int.reduceToNat]
 refine Wa0 (Wf5 V.P hin ⟨by omega,by omega⟩ λh4 o4=>?_)
 have H4:=H3.old o4
 try simp only [Wa9,bsx,Nat.reduceAdd,Int.reduceLE,Int.reduceLT,Int.reduceToNat]
 obtain ⟨ad2,e,hc2⟩:=Yp9 H4.drop.drop.own.sees (i:=(p.node i 1).toNat) (by omega)
 cases e
 obtain ⟨_,e,hcA⟩:=Yp9 H4.drop.drop.own.sees (i:=(p.node i 0).toNat) (by omega)
 cases e
 have O4:=H4.at2
 repeat (first | refine ⟨Wd9 O4 rfl,?_⟩ | refine ⟨Wd9 H4.at rfl,?_⟩ | refine ⟨hcA,?_⟩)
 refine ⟨by omega,by omega,?_⟩
 try simp only [Wa9,bsx,Nat.reduceAdd,Int.reduceLE,Int.reduceLT,Int.reduceToNat]
 refine Wc4 hc2 ?_
 try simp only [Wa9,bsx,Nat.reduceAdd,Int.reduceLE,Int.reduceLT,Int.reduceToNat,WL0]
 refine H4.st (i:=0) rfl trivial λh5 H5=>?_
 refine H5.st (i:=1) rfl trivial λh6 H6=>?_
 refine ldR H6.at rfl (ldR H6.at rfl ?_)
 exact k h6 H6.drop.drop
theorem W31 (V:YD8 p w) (H:Sat h (We7 70 1 a w.length c (uvs w)*R)) {i:Int} (hi:0≤i∧i < 2 ^ p.c.level.toNat)
  (k:∀h' a2 c2,Sat h' (We7 3 1 a2 (Wk2 p w p.c.nodes.toNat (Wv3 p w i)).length c2 ((Wk2 p w p.c.nodes.toNat (Wv3 p w i)).map iv)*(We7 70 1 a w.length c (uvs w)*R))→K (.slice a2 (Wk2 p w p.c.nodes.toNat (Wv3 p w i)).length c2) h') :
  Wa6 Tryz.prog 83 #[vwV p a w.length c,.int .i64 i] h K:=by
 refine call83 ?_
 unfold F83 g83 cf bd lS lI W64 de7 WB7
 rw [Yp7]
 have H1:=H.push (.cells (vwc p a w.length c).toArray 65)
 generalize h.push (.cells (vwc p a w.length c).toArray 65)=h1 at *
 generalize h.size=N at *
 have b1:=V.P.wi
 have b2:=V.P.no
 refine W29 H1.at ?_
 have H1b:Sat h1 (We7 70 1 a w.length c (uvs w)*(pt N (.cells (vwc p a w.length c).toArray 65)*R)):=by rw [Wc3];exact H1
 refine Wa0 (Ye3 V H1b hi λh2 H2=>?_)
 try simp only [Wa9,bsx,Nat.reduceAdd,Int.reduceLE,Int.reduceLT,Int.reduceToNat]
 refine Wa0 (Wh4 (WU4 V.hu _) ?_)
 try simp only [Wa9,bsx,Nat.reduceAdd,Int.reduceLE,Int.reduceLT,Int.reduceToNat]
 refine Yp8 H2.at2 ?_
 refine Wa0 (Wh5 λh3 o3=>cf7 ?_)
 try simp only [Wa9,bsx,Nat.reduceAdd,Int.reduceLE,Int.reduceLT,Int.reduceToNat]
 have H3:=(H2.old o3).own_new 3 1
 rw [show Ww5 (w.getD (p.at i).toNat 0)=Wv3 p w i from rfl]
 have hcur:iN (Wv3 p w i):=WP3 _
 generalize Wv3 p w i=cur0 at *
 have hlen:=Ww3 (p:=p) (w:=w) p.c.nodes.toNat cur0
 generalize hL:Wk2 p w p.c.nodes.toNat cur0=L at *
 refine ⟨λvs h'=>∃(a2:Option Addr) (c2:Nat) (cur:Int) (u:Value) (j:Nat),vs = [.slice a2 j c2,.int .i64 cur,u,.int .i64 j]∧(j:Int)≤p.c.nodes∧j≤L.length∧iN cur∧L.drop j=Wk2 p w (p.c.nodes.toNat - j) cur∧Sat h' (We7 3 1 a2 j c2 ((L.take j).map iv)*(We7 70 1 a w.length c (uvs w)*(pt N (.cells (vwc p a w.length c).toArray 65)*R))),λvs _=>match vs with | [_,_,_,.int _ i]=>(p.c.nodes - i).toNat | _=>0,
  ⟨none,0,cur0,_,0,rfl,by omega,Nat.zero_le _,hcur,by rw [List.drop_zero,Nat.sub_zero,hL],H3⟩,?_⟩
 rintro v50 v51 v52 v53 g54 h55 ⟨a2,c2,cur,u,j,e,hj,hjl,hcu,hd,HJ⟩
 cases e
 try simp only [Wa9,bsx,Nat.reduceAdd,Int.reduceLE,Int.reduceLT,Int.reduceToNat]
 refine Wa7 (λc1=>?_) (λc1=>?_)
 ·refine Yp8 HJ.at3 ?_
  refine Wa0 (Wf5 V.P hcu ⟨by omega,by omega⟩ λh4 o4=>?_)
  have H4:=HJ.old o4
  try simp only [Wa9,bsx,Nat.reduceAdd,Int.reduceLE,Int.reduceLT,Int.reduceToNat]
  have hk:p.c.nodes.toNat - j=(p.c.nodes.toNat - (j+1))+1:=by omega
  rw [hk] at hd
  unfold Wk2 at hd
  refine Wa7 (λc2=>?_) (λc2=>?_)
  ·rw [if_pos c2] at hd
   have ej:L.length=j:=by have:=List.drop_eq_nil_iff.1 hd;omega
   rw [← ej,List.take_length] at H4
   rw [← ej]
   exact k h4 _ _ (Sat.drop3 H4)
  ·rw [if_neg c2] at hd
   have hjl2:j < L.length:=by
    apply Decidable.byContradiction
    intro hn
    rw [List.drop_eq_nil_iff.2 (by omega)] at hd
    cases hd
   rw [List.drop_eq_getElem_cons hjl2] at hd
   injection hd with hd1 hd2
   refine YO5 H4 (by omega) λa5 c5 h5 H5=>?_
   rw [← hd1,← List.take_succ_eq_append_getElem hjl2] at H5
   try simp only [Wa9,bsx,Nat.reduceAdd,Int.reduceLE,Int.reduceLT,Int.reduceToNat]
   refine ldR H5.at3 rfl ?_
   try simp only [Wa9,bsx,Nat.reduceAdd,Int.reduceLE,Int.reduceLT,Int.reduceToNat]
   have hn:=W30 V c2
   obtain ⟨ad,e,hc⟩:=Yp9 H5.drop.own.sees (i:=(p.node cur 2).toNat) (by omega)
   subst e
   refine ⟨by omega,by omega,?_⟩
   try simp only [Wa9,bsx,Nat.reduceAdd,Int.reduceLE,Int.reduceLT,Int.reduceToNat]
   refine Wc4 hc ?_
   try simp only [Wa9,bsx,Nat.reduceAdd,Int.reduceLE,Int.reduceLT,Int.reduceToNat]
   rw [Wy1 j (by omega)]
   refine ⟨⟨a5,c5,_,_,j+1,rfl,by omega,by omega,Wk4 _,by rw [hd2],H5⟩,?_⟩
   show (p.c.nodes - ((j+1:Nat):Int)).toNat < (p.c.nodes - (j:Int)).toNat
   omega
 ·have ej:p.c.nodes.toNat - j=0:=by omega
  rw [ej] at hd
  have ej:L.length=j:=by have:=List.drop_eq_nil_iff.1 (show L.drop j = [] from hd);omega
  rw [← ej,List.take_length] at HJ
  rw [← ej]
  exact k h55 _ _ (Sat.drop3 HJ)
end
end
section
open Mod
abbrev vw0:Value:=.agg #[.int .i64 0,.int .i64 0,.int .i64 0,.int .i64 0,.int .i64 0,.int .i64 0,.int .i64 0,.int .i64 0,.int .i64 0,.int .i64 0,.int .i64 0,.int .i64 0,.int .i64 0,.int .i64 0,.int .i64 0,.slice none 0 0]
def bpV (q:(Option Addr × Nat) × List Bp):Value:=.slice q.1.1 q.2.length q.1.2
def bpS:List (Option Addr × Nat)→List (List Bp)→Hp
 | p :: ps,l :: ls=>We7 90 2 p.1 l.length p.2 (l.flatMap bpc)*bpS ps ls
 | _,_=>emp
theorem WQ6 (p:Option Addr × Nat) (l:List Bp):∀(ps:List (Option Addr × Nat)) (ls:List (List Bp)),ps.length=ls.length→bpS (ps ++ [p]) (ls ++ [l])=bpS ps ls*We7 90 2 p.1 l.length p.2 (l.flatMap bpc)
 | [],[],_=>by
  show _*emp=emp*_
  rw [Wt2]
 | [],_ :: _,h=>by simp at h
 | _ :: _,[],h=>by simp at h
 | a :: ps,b :: ls,h=>by
  show _*bpS (ps ++ [p]) (ls ++ [l])=(_*bpS ps ls)*_
  rw [WQ6 p l ps ls (by simpa using h),Wc6]
theorem W82 {h:Wa1}:∀ {ps:List (Option Addr × Nat)} {ls:List (List Bp)} {R:Hp},ps.length=ls.length→Sat h (bpS ps ls*R)→∀i,i < ls.length→∃p,ps[i]? = some p∧Sees h p.1 ((ls.getD i []).flatMap bpc)
 | [],[],_,_,_,i,hi=>by simp at hi
 | [],_ :: _,_,hl,_,_,_=>by simp at hl
 | _ :: _,[],_,hl,_,_,_=>by simp at hl
 | p :: ps,l :: ls,R,hl,H,i,hi=>by
  have H:Sat h ((We7 90 2 p.1 l.length p.2 (l.flatMap bpc)*bpS ps ls)*R):=H
  rw [Wc6] at H
  cases i with
  | zero=>exact ⟨p,rfl,H.own.sees⟩
  | succ i=>
   have:=W82 (by simpa using hl) H.drop i (by simpa using hi)
   simpa using this
theorem WH5 (p:Pl) (w:List Int):(Wg0 p w).length=2 ^ p.c.level.toNat:=by unfold Wg0;simp
theorem Ye5 {p:Pl} {w:List Int} {i:Nat} (h:i < (Wg0 p w).length):(Wg0 p w)[i]=if i=0 then [] else WB2 p w i:=by
 simp only [Wg0,List.getElem_map,List.getElem_range]
def Ws5 (n:Nat) (ps:List (Option Addr × Nat)) (ls:List (List Bp)):List Value:=(ps.zip ls).map bpV ++ List.replicate (n - ls.length) (.slice none 0 0)
theorem Yq2 {n:Nat} {ps:List (Option Addr × Nat)} {ls:List (List Bp)} (h:ps.length=ls.length) (hn:ls.length≤n):(Ws5 n ps ls).length=n:=by
 unfold Ws5
 simp [h]
 omega
theorem WW5 {n:Nat} {ps:List (Option Addr × Nat)} {ls:List (List Bp)} {p:Option Addr × Nat} {l:List Bp} (h:ps.length=ls.length) (hn:ls.length < n):(Ws5 n ps ls).set ls.length (bpV (p,l))=Ws5 n (ps ++ [p]) (ls ++ [l]):=by
 unfold Ws5
 have e1:n - ls.length=(n - (ls ++ [l]).length)+1:=by simp;omega
 have e2:((ps.zip ls).map bpV).length=ls.length:=by simp [h]
 rw [e1,List.replicate_succ,List.set_append_right _ _ (by rw [e2];omega),e2,Nat.sub_self,List.set_cons_zero,List.zip_append h]
 simp
theorem Yq3 {n:Nat} {ps:List (Option Addr × Nat)} {ls:List (List Bp)} (h:ps.length=ls.length) (hn:ls.length < n):Ws5 n ps ls=Ws5 n (ps ++ [(none,0)]) (ls ++ [[]]):=by
 rw [← WW5 h hn]
 unfold Ws5
 have e1:n - ls.length=(n - ls.length - 1)+1:=by omega
 have e2:((ps.zip ls).map bpV).length=ls.length:=by simp [h]
 rw [e1,List.replicate_succ,List.set_append_right _ _ (by rw [e2];omega),e2,Nat.sub_self,List.set_cons_zero]
 rfl
section
variable {K:Value→Wa1→Prop} {h:Wa1} {R:Hp} {p:Pl} {w:List Int} {a:Option Addr} {c M:Nat} {tv:Value} {s:Mac}
theorem WQ7 (H:Sat h R) (k:∀h',Sat h' R→K (.tuple #[vw0,.bool false]) h'):Wa6 Tryz.prog 28 #[.pointer none] h K:=by
 refine call28 ?_
 unfold F28 g28 cf de7 Wv2 WB7 YL6
 have H1:=H.push (.cells #[.int .i64 0,.int .i64 0,.int .i64 0,.int .i64 0,.int .i64 0,.int .i64 0,.int .i64 0,.int .i64 0,.int .i64 0,.int .i64 0,.int .i64 0,.int .i64 0,.int .i64 0,.int .i64 0,.int .i64 0,.slice none 0 0] 65)
 generalize h.push (.cells #[.int .i64 0,.int .i64 0,.int .i64 0,.int .i64 0,.int .i64 0,.int .i64 0,.int .i64 0,.int .i64 0,.int .i64 0,.int .i64 0,.int .i64 0,.int .i64 0,.int .i64 0,.int .i64 0,.int .i64 0,.slice none 0 0] 65)=h1 at *
 generalize h.size=N at *
 refine ⟨λvs h'=>vs = [.bool true,.bool true]∧h' = h1,?_,?_⟩
 ·refine Wd0 (λ_=>⟨rfl,rfl⟩) (λhh=>by cases hh)
 rintro v1 v2 g3 h4 ⟨e,rfl⟩
 cases e
 try simp only [Wa9,bsx,Nat.reduceAdd,Int.reduceLE,Int.reduceLT,Int.reduceToNat]
 refine Ys9 (Wd3 (vs:=[.int .i64 0,.int .i64 0,.int .i64 0,.int .i64 0,.int .i64 0,.int .i64 0,.int .i64 0,.int .i64 0,.int .i64 0,.int .i64 0,.int .i64 0,.int .i64 0,.int .i64 0,.int .i64 0,.int .i64 0,.slice none 0 0]) H1.at rfl (by simp [Wi3]) λh5 x=>?_)
 have H5:=H1.wr x.new x.old
 have O:=H5.at
 refine ldR O rfl (ldR O rfl (ldR O rfl (ldR O rfl (ldR O rfl (ldR O rfl (ldR O rfl (ldR O rfl (ldR O rfl (ldR O rfl (ldR O rfl (ldR O rfl (ldR O rfl (ldR O rfl (ldR O rfl (ldR O rfl ?_)))))))))))))))
 exact k h5 H5.drop
theorem W32 (H:Sat h (Wf2 M tv s*R)) (hc:s.p.c.algo≠0) (k:∀h',Sat h' (Wf2 M tv s*R)→K (.tuple #[vw0,.bool false]) h'):Wa6 Tryz.prog 28 #[mP M] h K:=by
 refine call28 ?_
 unfold F28 g28 cf de7 Wv2 WB7 YL6
 have H1:=H.push (.cells #[.int .i64 0,.int .i64 0,.int .i64 0,.int .i64 0,.int .i64 0,.int .i64 0,.int .i64 0,.int .i64 0,.int .i64 0,.int .i64 0,.int .i64 0,.int .i64 0,.int .i64 0,.int .i64 0,.int .i64 0,.slice none 0 0] 65)
 generalize h.push (.cells #[.int .i64 0,.int .i64 0,.int .i64 0,.int .i64 0,.int .i64 0,.int .i64 0,.int .i64 0,.int .i64 0,.int .i64 0,.int .i64 0,.int .i64 0,.int .i64 0,.int .i64 0,.int .i64 0,.int .i64 0,.slice none 0 0] 65)=h1 at *
 generalize h.size=N at *
 refine ⟨λvs h'=>(∃u,vs = [u,.bool true])∧Sat h' (pt N (.cells #[.int .i64 0,.int .i64 0,.int .i64 0,.int .i64 0,.int .i64 0,.int .i64 0,.int .i64 0,.int .i64 0,.int .i64 0,.int .i64 0,.int .i64 0,.int .i64 0,.int .i64 0,.int .i64 0,.int .i64 0,.slice none 0 0] 65)*(Wf2 M tv s*R)),?_,?_⟩
 ·refine Wd0 (λhh=>by cases hh) (λ_=>?_)
  rw [Wc3] at H1
  refine Wa0 (Wm1 H1 λh2 o2=>WR1 ?_)
  have H2:=H1.old o2
  refine Wa0 (Wh5 λh3 o3=>cf7 ?_)
  have H3:=H2.old o3
  rw [Wc3] at H3
  try simp only [Wa9,bsx,Nat.reduceAdd,Int.reduceLE,Int.reduceLT,Int.reduceToNat]
  refine Wd0 (λ_=>?_) (λhh=>?_)
  ·refine ⟨⟨.bool true,?_⟩,H3⟩
   rw [show (s.p.c.algo != 0)=true from bne_iff_ne.2 hc]
  ·rw [show (s.p.c.algo != 0)=true from bne_iff_ne.2 hc] at hh
   cases hh
 rintro v1 v2 g3 h4 ⟨⟨u,e⟩,H4⟩
 cases e
 try simp only [Wa9,bsx,Nat.reduceAdd,Int.reduceLE,Int.reduceLT,Int.reduceToNat]
 refine Ys9 (Wd3 (vs:=[.int .i64 0,.int .i64 0,.int .i64 0,.int .i64 0,.int .i64 0,.int .i64 0,.int .i64 0,.int .i64 0,.int .i64 0,.int .i64 0,.int .i64 0,.int .i64 0,.int .i64 0,.int .i64 0,.int .i64 0,.slice none 0 0]) H4.at rfl (by simp [Wi3]) λh5 x=>?_)
 have H5:=H4.wr x.new x.old
 have O:=H5.at
 refine ldR O rfl (ldR O rfl (ldR O rfl (ldR O rfl (ldR O rfl (ldR O rfl (ldR O rfl (ldR O rfl (ldR O rfl (ldR O rfl (ldR O rfl (ldR O rfl (ldR O rfl (ldR O rfl (ldR O rfl (ldR O rfl ?_)))))))))))))))
 exact k h5 H5.drop
theorem Yy2 (H:Sat h (Wf2 M tv s*R)) (hc:s.p.c.algo=0) (hz:s.p.size≠0) (k:∀h' a c,Sat h' (We7 70 1 a s.mm.w.length c (uvs s.mm.w)*(Wf2 M tv s*R))→K (.tuple #[vwV s.p a s.mm.w.length c,.bool true]) h'):Wa6 Tryz.prog 28 #[mP M] h K:=by
 refine call28 ?_
 unfold F28 g28 cf de7 Wv2 WB7 YL6
 have H1:=H.push (.cells #[.int .i64 0,.int .i64 0,.int .i64 0,.int .i64 0,.int .i64 0,.int .i64 0,.int .i64 0,.int .i64 0,.int .i64 0,.int .i64 0,.int .i64 0,.int .i64 0,.int .i64 0,.int .i64 0,.int .i64 0,.slice none 0 0] 65)
 generalize h.push (.cells #[.int .i64 0,.int .i64 0,.int .i64 0,.int .i64 0,.int .i64 0,.int .i64 0,.int .i64 0,.int .i64 0,.int .i64 0,.int .i64 0,.int .i64 0,.int .i64 0,.int .i64 0,.int .i64 0,.int .i64 0,.slice none 0 0] 65)=h1 at *
 generalize h.size=N at *
 refine ⟨λvs h'=>(∃u,vs = [u,.bool false])∧Sat h' (Wf2 M tv s*(pt N (.cells #[.int .i64 0,.int .i64 0,.int .i64 0,.int .i64 0,.int .i64 0,.int .i64 0,.int .i64 0,.int .i64 0,.int .i64 0,.int .i64 0,.int .i64 0,.int .i64 0,.int .i64 0,.int .i64 0,.int .i64 0,.slice none 0 0] 65)*R)),?_,?_⟩
 ·refine Wd0 (λhh=>by cases hh) (λ_=>?_)
  rw [Wc3] at H1
  refine Wa0 (Wm1 H1 λh2 o2=>WR1 ?_)
  have H2:=H1.old o2
  refine Wa0 (Wh5 λh3 o3=>cf7 ?_)
  have H3:=H2.old o3
  try simp only [Wa9,bsx,Nat.reduceAdd,Int.reduceLE,Int.reduceLT,Int.reduceToNat]
  refine Wd0 (λhh=>?_) (λ_=>?_)
  ·rw [hc] at hh;simp at hh
  ·refine Wa0 (Wm1 H3 λh4 o4=>WR1 ?_)
   have H4:=H3.old o4
   refine Wa0 (WF1 λh5 o5=>?_)
   have H5:=H4.old o5
   try simp only [Wa9,bsx,Nat.reduceAdd,Int.reduceLE,Int.reduceLT,Int.reduceToNat]
   refine ⟨⟨.bool (s.p.c.algo != 0),?_⟩,H5⟩
   rw [show (s.p.size == 0)=false from beq_eq_false_iff_ne.2 hz]
 rintro v1 v2 g3 h4 ⟨⟨u,e⟩,H4⟩
 cases e
 try simp only [Wa9,bsx,Nat.reduceAdd,Int.reduceLE,Int.reduceLT,Int.reduceToNat]
 refine Wa0 (Wm1 H4 λh5 o5=>WR1 ?_)
 have H5:=H4.old o5
 refine Wa0 (Yc7 H5 λq R' HM re=>?_)
 try simp only [Wa9,bsx,Nat.reduceAdd,Int.reduceLE,Int.reduceLT,Int.reduceToNat]
 refine Wa0 (Yd7 HM λh6 a c o6 fb own=>?_)
 have H6:=own _ H5
 try simp only [Wa9,bsx,Nat.reduceAdd,Int.reduceLE,Int.reduceLT,Int.reduceToNat]
 have H6:Sat h6 (pt N (.cells #[.int .i64 0,.int .i64 0,.int .i64 0,.int .i64 0,.int .i64 0,.int .i64 0,.int .i64 0,.int .i64 0,.int .i64 0,.int .i64 0,.int .i64 0,.int .i64 0,.int .i64 0,.int .i64 0,.int .i64 0,.slice none 0 0] 65)*(We7 70 1 a s.mm.w.length c (uvs s.mm.w)*(Wf2 M tv s*R))):=Sat.ac H6 (by ac_rfl)
 refine Ys9 (Wd3 (vs:=vwc s.p a s.mm.w.length c) H6.at rfl (by simp [Wi3]) λh7 x=>?_)
 have H7:=H6.wr x.new x.old
 have O:=H7.at
 refine ldR O rfl (ldR O rfl (ldR O rfl (ldR O rfl (ldR O rfl (ldR O rfl (ldR O rfl (ldR O rfl (ldR O rfl (ldR O rfl (ldR O rfl (ldR O rfl (ldR O rfl (ldR O rfl (ldR O rfl (ldR O rfl ?_)))))))))))))))
 exact k h7 a c H7.drop
theorem Ye6 (V:YD8 p w) (H:Sat h (We7 70 1 a w.length c (uvs w)*R)) {i:Int} (hi:0≤i∧i < 2 ^ p.c.level.toNat)
  (k:∀h' a2 c2,Sat h' (We7 90 2 a2 (WB2 p w i).length c2 ((WB2 p w i).flatMap bpc)*(We7 70 1 a w.length c (uvs w)*R))→K (.slice a2 (WB2 p w i).length c2) h') :
  Wa6 Tryz.prog 30 #[vwV p a w.length c,.int .i64 i] h K:=by
 refine call30 ?_
 unfold F30 g30 cf bd lI de2 WB7
 rw [Yp7]
 have H1:=H.push (.cells (vwc p a w.length c).toArray 65)
 generalize h.push (.cells (vwc p a w.length c).toArray 65)=h1 at *
 generalize h.size=N at *
 refine W29 H1.at ?_
 rw [Wc3] at H1
 have b2:=V.P.no
 refine Wa0 (W31 V H1 hi λh2 a2 c2 H2=>?_)
 try simp only [Wa9,bsx,Nat.reduceAdd,Int.reduceLE,Int.reduceLT,Int.reduceToNat]
 unfold WB2 at k
 have hok:∀j ∈ Wk2 p w p.c.nodes.toNat (Wv3 p w i),¬ p.node j 2 < 0:=λj hj=>WM2 hj
 have hlen:=Ww3 (p:=p) (w:=w) p.c.nodes.toNat (Wv3 p w i)
 generalize Wk2 p w p.c.nodes.toNat (Wv3 p w i)=L at *
 have H2:=H2.own_new 90 2
 refine ⟨λvs h'=>∃(a3:Option Addr) (c3:Nat) (u:Value) (j:Nat),vs = [.slice a3 j c3,u,.int .i64 j]∧j≤L.length∧Sat h' (We7 90 2 a3 j c3 (((L.take j).map (Wt4 p w)).flatMap bpc)*(We7 3 1 a2 L.length c2 (L.map iv)*(We7 70 1 a w.length c (uvs w)*(pt N (.cells (vwc p a w.length c).toArray 65)*R)))),λvs _=>match vs with | [_,_,.int _ i]=>(L.length - i).toNat | _=>0,
  ⟨none,0,_,0,rfl,Nat.zero_le _,H2⟩,?_⟩
 rintro v23 v24 v25 g26 h27 ⟨a3,c3,u,j,e,hj,HJ⟩
 cases e
 try simp only [Wa9,bsx,Nat.reduceAdd,Int.reduceLE,Int.reduceLT,Int.reduceToNat]
 refine Wa7 (λc1=>?_) (λc1=>?_)
 ·have hj2:j < L.length:=by omega
  obtain ⟨ad,e,hc⟩:=HJ.drop.own.sees j (iv L[j]) (by rw [List.getElem?_map,List.getElem?_eq_getElem hj2];rfl)
  subst e
  refine ⟨by omega,by omega,?_⟩
  try simp only [Wa9,bsx,Nat.reduceAdd,Int.reduceLE,Int.reduceLT,Int.reduceToNat]
  refine Wc4 hc ?_
  unfold iv
  try simp only [Wa9,bsx,Nat.reduceAdd,Int.reduceLE,Int.reduceLT,Int.reduceToNat]
  refine W29 (HJ.drop.drop.drop).at ?_
  have HJ2:Sat h27 (We7 70 1 a w.length c (uvs w)*(We7 90 2 a3 j c3 (((L.take j).map (Wt4 p w)).flatMap bpc)*(We7 3 1 (some ad) L.length c2 (L.map iv)*(pt N (.cells (vwc p a w.length c).toArray 65)*R)))):=Sat.ac HJ (by ac_rfl)
  refine Wa0 (Ye4 V HJ2 (hok _ (List.getElem_mem hj2)) λh3 H3=>?_)
  have H3:Sat h3 (We7 90 2 a3 j c3 (((L.take j).map (Wt4 p w)).flatMap bpc)*(We7 3 1 (some ad) L.length c2 (L.map iv)*(We7 70 1 a w.length c (uvs w)*(pt N (.cells (vwc p a w.length c).toArray 65)*R)))):=Sat.ac H3 (by ac_rfl)
  try simp only [Wa9,bsx,Nat.reduceAdd,Int.reduceLE,Int.reduceLT,Int.reduceToNat]
  refine Wi0 rfl (Wa5 rfl (Wa5 rfl ?_))
  refine YO9 (x:=Wt4 p w L[j]) H3 (by omega) λa4 c4 h4 H4=>?_
  have e4:(L.take j).map (Wt4 p w) ++ [Wt4 p w L[j]]=(L.take (j+1)).map (Wt4 p w):=by rw [List.take_succ_eq_append_getElem hj2,List.map_append];rfl
  rw [e4] at H4
  try simp only [Wa9,bsx,Nat.reduceAdd,Int.reduceLE,Int.reduceLT,Int.reduceToNat]
  rw [Wy1 j (by omega)]
  refine ⟨⟨a4,c4,_,j+1,rfl,by omega,H4⟩,?_⟩
  show ((L.length:Int) - ((j+1:Nat):Int)).toNat < ((L.length:Int) - (j:Int)).toNat
  omega
 ·have ej:j=L.length:=by omega
  subst ej
  rw [List.take_length] at HJ
  rw [show (L.map (Wt4 p w)).length=L.length by simp] at k
  exact k h27 a3 c3 (Sat.drop3 (Sat.drop2 HJ))
theorem Yy3 {n:Nat} (hn:n≤4096) (k:K (.slice (some ⟨h.size,0,none⟩) n n) (h.push (.cells (Ws5 n [] []).toArray 44))):Wl8 Tryz.prog 44 (n:Int) (n:Int) h K:=by
 unfold Wl8
 refine ⟨by omega,by omega,by omega,by rw [YI4];omega,?_⟩
 rw [YO8,WQ2,Int.toNat_natCast]
 exact k
theorem WH6 (V:YD8 s.p s.mm.w) (hc:s.p.c.algo=0) (H:Sat h (Wf2 M tv s*R))
  (k:∀h' B ps,ps.length=(Wg0 s.p s.mm.w).length→Sat h' (pt B (.cells (((ps.zip (Wg0 s.p s.mm.w)).map bpV).toArray) 44)*(bpS ps (Wg0 s.p s.mm.w)*(Wf2 M tv s*R)))→K (.slice (some ⟨B,0,none⟩) (Wg0 s.p s.mm.w).length (Wg0 s.p s.mm.w).length) h') :
  Wa6 Tryz.prog 7 #[mP M] h K:=by
 refine call7 ?_
 unfold F7 cf bd Ys7 WB7
 have b1:=V.P.si
 have b2:=V.P.tr
 have b3:=V.P.nd
 have b4:=V.P.li
 have b5:=V.P.lv
 refine Wa0 (Yy2 H hc (by omega) λh1 a c H1=>?_)
 try simp only [Wa9,bsx,Nat.reduceAdd,Int.reduceLE,Int.reduceLT,Int.reduceToNat]
 refine Wp4 (YV6 ?_)
 try simp only [Wa9,bsx,Nat.reduceAdd,Int.reduceLE,Int.reduceLT,Int.reduceToNat]
 refine Wm4 ?_
 try simp only [Wa9,bsx,Nat.reduceAdd,Int.reduceLE,Int.reduceLT,Int.reduceToNat]
 generalize hw:s.mm.w=w at *
 generalize hp:s.p=p at *
 have H2:=H1.push (.cells #[.int .i64 0,.int .i64 0,.int .i64 0,.int .i64 0,.int .i64 0,.int .i64 0,.int .i64 0,.int .i64 0,.int .i64 0,.int .i64 0,.int .i64 0,.int .i64 0,.int .i64 0,.int .i64 0,.int .i64 0,.slice none 0 0] 65)
 generalize h1.push (.cells #[.int .i64 0,.int .i64 0,.int .i64 0,.int .i64 0,.int .i64 0,.int .i64 0,.int .i64 0,.int .i64 0,.int .i64 0,.int .i64 0,.int .i64 0,.int .i64 0,.int .i64 0,.int .i64 0,.int .i64 0,.slice none 0 0] 65)=h2 at *
 generalize h1.size=N at *
 refine Ys9 (Wd3 (vs:=vwc p a w.length c) H2.at rfl (by simp [Wi3]) λh3 x=>?_)
 have H3:=H2.wr x.new x.old
 clear H1 H2 x
 refine W29 H3.at ?_
 refine Wa0 (WB3 V.P H3 λh4 H4=>?_)
 try simp only [Wa9,bsx,Nat.reduceAdd,Int.reduceLE,Int.reduceLT,Int.reduceToNat]
 have hpow:2 ^ p.c.level.toNat≤2 ^ 6:=Nat.pow_le_pow_right (by decide) (by omega)
 have hcast:((2 ^ p.c.level.toNat:Nat):Int)=(2:Int) ^ p.c.level.toNat:=by simp
 have hll:=WH5 p w
 have hat:∀i (h:i < (Wg0 p w).length),(Wg0 p w)[i]=if i=0 then [] else WB2 p w i:=λi h=>Ye5 h
 refine Yy3 (by omega) ?_
 try simp only [Wa9,bsx,Nat.reduceAdd,Int.reduceLE,Int.reduceLT,Int.reduceToNat]
 have H5:=H4.push (.cells (Ws5 (2 ^ p.c.level.toNat) [] []).toArray 44)
 generalize h4.push (.cells (Ws5 (2 ^ p.c.level.toNat) [] []).toArray 44)=h5 at *
 generalize h4.size=B at *
 refine W29 H5.at2 ?_
 refine Wa0 (WB3 V.P H5 λh6 H6=>?_)
 try simp only [Wa9,bsx,Nat.reduceAdd,Int.reduceLE,Int.reduceLT,Int.reduceToNat]
 generalize Wg0 p w=LS at *
 rw [← hll] at hpow hcast H6 ⊢
 have H6:Sat h6 (pt B (.cells (Ws5 LS.length [] []).toArray 44)*(bpS [] []*(pt N (.cells (vwc p a w.length c).toArray 65)*(We7 70 1 a w.length c (uvs w)*(Wf2 M tv s*R))))):=by
  show Sat h6 (_*(emp*_))
  rw [Wu3]
  exact H6
 refine ⟨λvs h'=>∃(u:Value) (j:Nat) (ps:List (Option Addr × Nat)),vs = [u,.int .i64 j]∧j≤LS.length∧ps.length=(LS.take j).length∧Sat h' (pt B (.cells (Ws5 LS.length ps (LS.take j)).toArray 44)*(bpS ps (LS.take j)*(pt N (.cells (vwc p a w.length c).toArray 65)*(We7 70 1 a w.length c (uvs w)*(Wf2 M tv s*R))))),λvs _=>match vs with | [_,.int _ i]=>((LS.length:Int) - i).toNat | _=>0,
  ⟨_,0,[],rfl,Nat.zero_le _,rfl,H6⟩,?_⟩
 rintro v85 v86 g87 h88 ⟨u,j,ps,e,hj,hps,HJ⟩
 cases e
 try simp only [Wa9,bsx,Nat.reduceAdd,Int.reduceLE,Int.reduceLT,Int.reduceToNat]
 have htl:(LS.take j).length=j:=by rw [List.length_take];omega
 refine Wa7 (λc1=>?_) (λc1=>?_)
 ·have hj2:j < LS.length:=by omega
  have hdec:((LS.length:Int) - ((j+1:Nat):Int)).toNat < ((LS.length:Int) - (j:Int)).toNat:=by omega
  refine Wa7 (λc2=>?_) (λc2=>?_)
  ·refine W29 HJ.at3 ?_
   have HJ2:Sat h88 (We7 70 1 a w.length c (uvs w)*(pt B (.cells (Ws5 LS.length ps (LS.take j)).toArray 44)*(bpS ps (LS.take j)*(pt N (.cells (vwc p a w.length c).toArray 65)*(Wf2 M tv s*R))))):=Sat.ac HJ (by ac_rfl)
   refine Wa0 (Ye6 V HJ2 (by rw [← hcast];omega) λh7 a7 c7 H7=>?_)
   try simp only [Wa9,bsx,Nat.reduceAdd,Int.reduceLE,Int.reduceLT,Int.reduceToNat]
   refine ⟨by omega,by omega,?_⟩
   have ea:WB2 p w j=LS[j]:=by rw [hat j hj2,if_neg (by omega)]
   rw [ea] at H7 ⊢
   have H7:Sat h7 (pt B (.cells (Ws5 LS.length ps (LS.take j)).toArray 44)*(bpS ps (LS.take j)*(We7 90 2 a7 (LS[j]).length c7 ((LS[j]).flatMap bpc)*(pt N (.cells (vwc p a w.length c).toArray 65)*(We7 70 1 a w.length c (uvs w)*(Wf2 M tv s*R)))))):=Sat.ac H7 (by ac_rfl)
   refine WU5 (row:=Ws5 LS.length ps (LS.take j)) (i:=j) H7 (by rw [Yq2 hps (by omega)];omega) trivial λh8 H8=>?_
   have es:=WW5 (n:=LS.length) (p:=(a7,c7)) (l:=LS[j]) hps (by omega)
   rw [htl] at es
   rw [show (Value.slice a7 (LS[j]).length c7)=bpV ((a7,c7),LS[j]) from rfl,es,← Wc6 (bpS ps _),← WQ6 (a7,c7) LS[j] ps (LS.take j) hps,← List.take_succ_eq_append_getElem hj2] at H8
   try simp only [Wa9,bsx,Nat.reduceAdd,Int.reduceLE,Int.reduceLT,Int.reduceToNat]
   rw [Wy1 j (by omega)]
   exact ⟨⟨_,j+1,ps ++ [(a7,c7)],rfl,by omega,by rw [List.length_append,hps,htl,List.length_take];simp;omega,H8⟩,hdec⟩
  ·have e0:j=0:=by omega
   subst e0
   have ea:LS[0] = []:=by rw [hat 0 hj2,if_pos rfl]
   have e1:LS.take (0+1)=LS.take 0 ++ [[]]:=by rw [List.take_succ_eq_append_getElem hj2,ea]
   rw [Yq3 hps (by omega),← e1] at HJ
   have HJ:=HJ
   rw [Wc3] at HJ
   have HJ3:=HJ.own_new 90 2
   have e2:=WQ6 (none,0) [] ps (LS.take 0) hps
   rw [← e1] at e2
   try simp only [Wa9,bsx,Nat.reduceAdd,Int.reduceLE,Int.reduceLT,Int.reduceToNat]
   rw [show s64 (((0:Nat):Int)+1)=((0+1:Nat):Int) from Wy1 0 (by omega)]
   refine ⟨⟨_,0+1,ps ++ [(none,0)],rfl,by omega,by rw [List.length_append,hps,htl,List.length_take];simp;omega,?_⟩,hdec⟩
   rw [e2]
   exact Sat.ac HJ3 (by show _=_*((bpS ps (LS.take 0)*We7 90 2 none 0 0 [])*_);ac_rfl)
 ·have ej:j=LS.length:=by omega
  subst ej
  have e1:LS.take LS.length=LS:=List.take_length
  rw [e1] at HJ hps
  have e2:Ws5 LS.length ps LS=(ps.zip LS).map bpV:=by unfold Ws5;rw [show LS.length - LS.length=0 by omega];simp
  rw [e2] at HJ
  have HJ2:Sat h88 (pt N (.cells (vwc p a w.length c).toArray 65)*(We7 70 1 a w.length c (uvs w)*(pt B (.cells ((ps.zip LS).map bpV).toArray 44)*(bpS ps LS*(Wf2 M tv s*R))))):=Sat.ac HJ (by ac_rfl)
  exact k h88 B ps (by omega) HJ2.drop.drop
theorem Yq4 (V:YD8 s.p s.mm.w) (hc:s.p.c.algo=0) (H:Sat h (Wf2 M tv s*R)) (hsm:(Wg0 s.p s.mm.w).flatten.length < 100000)
  (k:∀h',Sat h' (Wf2 M tv s*R)→K (.int .i64 (Wg0 s.p s.mm.w).flatten.length) h'):Wa6 Tryz.prog 9 #[mP M] h K:=by
 refine call9 ?_
 unfold F9 cf bd lS
 refine Wa0 (WH6 V hc H λh1 B ps hps H1=>?_)
 have hll:=WH5 s.p s.mm.w
 have b5:=V.P.lv
 have hpow:2 ^ s.p.c.level.toNat≤2 ^ 6:=Nat.pow_le_pow_right (by decide) (by omega)
 generalize Wg0 s.p s.mm.w=LS at *
 try simp only [Wa9,bsx,Nat.reduceAdd,Int.reduceLE,Int.reduceLT,Int.reduceToNat]
 refine ⟨λvs h'=>∃(u:Value) (j:Nat),vs = [.int .i64 (LS.take j).flatten.length,u,.int .i64 j]∧j≤LS.length∧h' = h1,λvs _=>match vs with | [_,_,.int _ i]=>((LS.length:Int) - i).toNat | _=>0,⟨_,0,rfl,Nat.zero_le _,rfl⟩,?_⟩
 rintro v7 v8 v9 g10 h11 ⟨u,j,e,hj,rfl⟩
 cases e
 try simp only [Wa9,bsx,Nat.reduceAdd,Int.reduceLE,Int.reduceLT,Int.reduceToNat]
 refine Wa7 (λc1=>?_) (λc1=>?_)
 ·have hj2:j < LS.length:=by omega
  have hz:j < (ps.zip LS).length:=by rw [List.length_zip];omega
  have hcell:Wa2 h11 ⟨B,j,none⟩=some (.slice (ps[j]'(by omega)).1 (LS[j]).length (ps[j]'(by omega)).2):=by
   rw [Wb6 H1.at]
   simp [bpV,hj2,hps]
  refine ⟨by omega,by omega,?_⟩
  try simp only [Wa9,bsx,Nat.reduceAdd,Int.reduceLE,Int.reduceLT,Int.reduceToNat]
  refine Wc4 hcell ?_
  try simp only [Wa9,bsx,Nat.reduceAdd,Int.reduceLE,Int.reduceLT,Int.reduceToNat]
  have e1:(LS.take (j+1)).flatten.length=(LS.take j).flatten.length+(LS[j]).length:=by rw [List.take_succ_eq_append_getElem hj2,List.flatten_append,List.length_append,List.flatten_singleton]
  have e2:(LS.take (j+1)).flatten.length≤LS.flatten.length:=by
   conv=>rhs;rw [← List.take_append_drop (j+1) LS,List.flatten_append,List.length_append]
   omega
  rw [Wy1 j (by omega),show s64 (((LS.take j).flatten.length:Int)+((LS[j]).length:Int))=((LS.take (j+1)).flatten.length:Int) from by rw [e1,← Int.natCast_add];exact Yq1 _ (by omega)]
  refine ⟨by first | exact ⟨_,j+1,rfl,by omega,rfl⟩ | exact ⟨_,j+1,rfl,by omega⟩,?_⟩
  show ((LS.length:Int) - ((j+1:Nat):Int)).toNat < ((LS.length:Int) - (j:Int)).toNat
  omega
 ·rw [show j=LS.length by omega,List.take_length]
  exact k h11 H1.drop.drop
theorem WM3 (H:Sat h R) (k:∀h',Sat h' (R)→K (.slice none 0 0) h'):Wa6 Tryz.prog 7 #[.pointer none] h K:=by
 refine call7 ?_
 unfold F7 cf bd Ys7 WB7
 refine Wa0 (WQ7 H λh1 H1=>?_)
 have H2:=H1.push (.cells #[.int .i64 0,.int .i64 0,.int .i64 0,.int .i64 0,.int .i64 0,.int .i64 0,.int .i64 0,.int .i64 0,.int .i64 0,.int .i64 0,.int .i64 0,.int .i64 0,.int .i64 0,.int .i64 0,.int .i64 0,.slice none 0 0] 65)
 try simp only [Wa9,bsx,Nat.reduceAdd,Int.reduceLE,Int.reduceLT,Int.reduceToNat]
 refine Wp4 ?_
 try simp only [Wa9,bsx,Nat.reduceAdd,Int.reduceLE,Int.reduceLT,Int.reduceToNat]
 refine Wi0 rfl ?_
 refine Wa5 rfl (Wa5 rfl (Wa5 rfl (Wa5 rfl (Wa5 rfl (Wa5 rfl (Wa5 rfl (Wa5 rfl (Wa5 rfl (Wa5 rfl (Wa5 rfl (Wa5 rfl (Wa5 rfl (Wa5 rfl (Wa5 rfl (Wa5 rfl ?_)))))))))))))))
 try simp only [Wa9,bsx,Nat.reduceAdd,Int.reduceLE,Int.reduceLT,Int.reduceToNat]
 refine Wm4 ?_
 try simp only [Wa9,bsx,Nat.reduceAdd,Int.reduceLE,Int.reduceLT,Int.reduceToNat]
 generalize h1.push (.cells #[.int .i64 0,.int .i64 0,.int .i64 0,.int .i64 0,.int .i64 0,.int .i64 0,.int .i64 0,.int .i64 0,.int .i64 0,.int .i64 0,.int .i64 0,.int .i64 0,.int .i64 0,.int .i64 0,.int .i64 0,.slice none 0 0] 65)=h2 at *
 generalize h1.size=N at *
 refine Ys9 (Wd3 (vs:=[.int .i64 0,.int .i64 0,.int .i64 0,.int .i64 0,.int .i64 0,.int .i64 0,.int .i64 0,.int .i64 0,.int .i64 0,.int .i64 0,.int .i64 0,.int .i64 0,.int .i64 0,.int .i64 0,.int .i64 0,.slice none 0 0]) H2.at rfl (by simp [Wi3]) λh3 x=>?_)
 have H3:=H2.wr x.new x.old
 exact k h3 H3.drop
theorem WW6 (H:Sat h (Wf2 M tv s*R)) (hc:s.p.c.algo≠0) (k:∀h',Sat h' (Wf2 M tv s*R)→K (.slice none 0 0) h'):Wa6 Tryz.prog 7 #[mP M] h K:=by
 refine call7 ?_
 unfold F7 cf bd Ys7 WB7
 refine Wa0 (W32 H hc λh1 H1=>?_)
 have H2:=H1.push (.cells #[.int .i64 0,.int .i64 0,.int .i64 0,.int .i64 0,.int .i64 0,.int .i64 0,.int .i64 0,.int .i64 0,.int .i64 0,.int .i64 0,.int .i64 0,.int .i64 0,.int .i64 0,.int .i64 0,.int .i64 0,.slice none 0 0] 65)
 try simp only [Wa9,bsx,Nat.reduceAdd,Int.reduceLE,Int.reduceLT,Int.reduceToNat]
 refine Wp4 ?_
 try simp only [Wa9,bsx,Nat.reduceAdd,Int.reduceLE,Int.reduceLT,Int.reduceToNat]
 refine Wi0 rfl ?_
 refine Wa5 rfl (Wa5 rfl (Wa5 rfl (Wa5 rfl (Wa5 rfl (Wa5 rfl (Wa5 rfl (Wa5 rfl (Wa5 rfl (Wa5 rfl (Wa5 rfl (Wa5 rfl (Wa5 rfl (Wa5 rfl (Wa5 rfl (Wa5 rfl ?_)))))))))))))))
 try simp only [Wa9,bsx,Nat.reduceAdd,Int.reduceLE,Int.reduceLT,Int.reduceToNat]
 refine Wm4 ?_
 try simp only [Wa9,bsx,Nat.reduceAdd,Int.reduceLE,Int.reduceLT,Int.reduceToNat]
 generalize h1.push (.cells #[.int .i64 0,.int .i64 0,.int .i64 0,.int .i64 0,.int .i64 0,.int .i64 0,.int .i64 0,.int .i64 0,.int .i64 0,.int .i64 0,.int .i64 0,.int .i64 0,.int .i64 0,.int .i64 0,.int .i64 0,.slice none 0 0] 65)=h2 at *
 generalize h1.size=N at *
 refine Ys9 (Wd3 (vs:=[.int .i64 0,.int .i64 0,.int .i64 0,.int .i64 0,.int .i64 0,.int .i64 0,.int .i64 0,.int .i64 0,.int .i64 0,.int .i64 0,.int .i64 0,.int .i64 0,.int .i64 0,.int .i64 0,.int .i64 0,.slice none 0 0]) H2.at rfl (by simp [Wi3]) λh3 x=>?_)
 have H3:=H2.wr x.new x.old
 exact k h3 H3.drop
theorem Ye7 (H:Sat h R) (k:∀h',Sat h' (R)→K (.slice none 0 0) h'):Wa6 Tryz.prog 8 #[.pointer none] h K:=by
 refine call8 ?_
 unfold F8 cf Ys7 WB7
 refine Wa0 (WQ7 H λh1 H1=>?_)
 have H2:=H1.push (.cells #[.int .i64 0,.int .i64 0,.int .i64 0,.int .i64 0,.int .i64 0,.int .i64 0,.int .i64 0,.int .i64 0,.int .i64 0,.int .i64 0,.int .i64 0,.int .i64 0,.int .i64 0,.int .i64 0,.int .i64 0,.slice none 0 0] 65)
 try simp only [Wa9,bsx,Nat.reduceAdd,Int.reduceLE,Int.reduceLT,Int.reduceToNat]
 refine Wp4 ?_
 try simp only [Wa9,bsx,Nat.reduceAdd,Int.reduceLE,Int.reduceLT,Int.reduceToNat]
 refine Wi0 rfl ?_
 refine Wa5 rfl (Wa5 rfl (Wa5 rfl (Wa5 rfl (Wa5 rfl (Wa5 rfl (Wa5 rfl (Wa5 rfl (Wa5 rfl (Wa5 rfl (Wa5 rfl (Wa5 rfl (Wa5 rfl (Wa5 rfl (Wa5 rfl (Wa5 rfl ?_)))))))))))))))
 try simp only [Wa9,bsx,Nat.reduceAdd,Int.reduceLE,Int.reduceLT,Int.reduceToNat]
 refine Wm4 ?_
 try simp only [Wa9,bsx,Nat.reduceAdd,Int.reduceLE,Int.reduceLT,Int.reduceToNat]
 generalize h1.push (.cells #[.int .i64 0,.int .i64 0,.int .i64 0,.int .i64 0,.int .i64 0,.int .i64 0,.int .i64 0,.int .i64 0,.int .i64 0,.int .i64 0,.int .i64 0,.int .i64 0,.int .i64 0,.int .i64 0,.int .i64 0,.slice none 0 0] 65)=h2 at *
 generalize h1.size=N at *
 refine Ys9 (Wd3 (vs:=[.int .i64 0,.int .i64 0,.int .i64 0,.int .i64 0,.int .i64 0,.int .i64 0,.int .i64 0,.int .i64 0,.int .i64 0,.int .i64 0,.int .i64 0,.int .i64 0,.int .i64 0,.int .i64 0,.int .i64 0,.slice none 0 0]) H2.at rfl (by simp [Wi3]) λh3 x=>?_)
 have H3:=H2.wr x.new x.old
 exact k h3 H3.drop
theorem Yq5 (H:Sat h (Wf2 M tv s*R)) (hc:s.p.c.algo≠0) (k:∀h',Sat h' (Wf2 M tv s*R)→K (.slice none 0 0) h'):Wa6 Tryz.prog 8 #[mP M] h K:=by
 refine call8 ?_
 unfold F8 cf Ys7 WB7
 refine Wa0 (W32 H hc λh1 H1=>?_)
 have H2:=H1.push (.cells #[.int .i64 0,.int .i64 0,.int .i64 0,.int .i64 0,.int .i64 0,.int .i64 0,.int .i64 0,.int .i64 0,.int .i64 0,.int .i64 0,.int .i64 0,.int .i64 0,.int .i64 0,.int .i64 0,.int .i64 0,.slice none 0 0] 65)
 try simp only [Wa9,bsx,Nat.reduceAdd,Int.reduceLE,Int.reduceLT,Int.reduceToNat]
 refine Wp4 ?_
 try simp only [Wa9,bsx,Nat.reduceAdd,Int.reduceLE,Int.reduceLT,Int.reduceToNat]
 refine Wi0 rfl ?_
 refine Wa5 rfl (Wa5 rfl (Wa5 rfl (Wa5 rfl (Wa5 rfl (Wa5 rfl (Wa5 rfl (Wa5 rfl (Wa5 rfl (Wa5 rfl (Wa5 rfl (Wa5 rfl (Wa5 rfl (Wa5 rfl (Wa5 rfl (Wa5 rfl ?_)))))))))))))))
 try simp only [Wa9,bsx,Nat.reduceAdd,Int.reduceLE,Int.reduceLT,Int.reduceToNat]
 refine Wm4 ?_
 try simp only [Wa9,bsx,Nat.reduceAdd,Int.reduceLE,Int.reduceLT,Int.reduceToNat]
 generalize h1.push (.cells #[.int .i64 0,.int .i64 0,.int .i64 0,.int .i64 0,.int .i64 0,.int .i64 0,.int .i64 0,.int .i64 0,.int .i64 0,.int .i64 0,.int .i64 0,.int .i64 0,.int .i64 0,.int .i64 0,.int .i64 0,.slice none 0 0] 65)=h2 at *
 generalize h1.size=N at *
 refine Ys9 (Wd3 (vs:=[.int .i64 0,.int .i64 0,.int .i64 0,.int .i64 0,.int .i64 0,.int .i64 0,.int .i64 0,.int .i64 0,.int .i64 0,.int .i64 0,.int .i64 0,.int .i64 0,.int .i64 0,.int .i64 0,.int .i64 0,.slice none 0 0]) H2.at rfl (by simp [Wi3]) λh3 x=>?_)
 have H3:=H2.wr x.new x.old
 exact k h3 H3.drop
theorem Ye8 (H:Sat h R) (k:∀h',Sat h' (R)→K (.bool false) h'):Wa6 Tryz.prog 10 #[.pointer none] h K:=by
 refine call10 ?_
 unfold F10 cf ce bd lS Ys7 WB7
 refine Wa0 (WQ7 H λh1 H1=>?_)
 have H2:=H1.push (.cells #[.int .i64 0,.int .i64 0,.int .i64 0,.int .i64 0,.int .i64 0,.int .i64 0,.int .i64 0,.int .i64 0,.int .i64 0,.int .i64 0,.int .i64 0,.int .i64 0,.int .i64 0,.int .i64 0,.int .i64 0,.slice none 0 0] 65)
 try simp only [Wa9,bsx,Nat.reduceAdd,Int.reduceLE,Int.reduceLT,Int.reduceToNat]
 refine Wp4 ?_
 try simp only [Wa9,bsx,Nat.reduceAdd,Int.reduceLE,Int.reduceLT,Int.reduceToNat]
 refine Wi0 rfl ?_
 refine Wa5 rfl (Wa5 rfl (Wa5 rfl (Wa5 rfl (Wa5 rfl (Wa5 rfl (Wa5 rfl (Wa5 rfl (Wa5 rfl (Wa5 rfl (Wa5 rfl (Wa5 rfl (Wa5 rfl (Wa5 rfl (Wa5 rfl (Wa5 rfl ?_)))))))))))))))
 try simp only [Wa9,bsx,Nat.reduceAdd,Int.reduceLE,Int.reduceLT,Int.reduceToNat]
 refine Wm4 ?_
 try simp only [Wa9,bsx,Nat.reduceAdd,Int.reduceLE,Int.reduceLT,Int.reduceToNat]
 generalize h1.push (.cells #[.int .i64 0,.int .i64 0,.int .i64 0,.int .i64 0,.int .i64 0,.int .i64 0,.int .i64 0,.int .i64 0,.int .i64 0,.int .i64 0,.int .i64 0,.int .i64 0,.int .i64 0,.int .i64 0,.int .i64 0,.slice none 0 0] 65)=h2 at *
 generalize h1.size=N at *
 refine Ys9 (Wd3 (vs:=[.int .i64 0,.int .i64 0,.int .i64 0,.int .i64 0,.int .i64 0,.int .i64 0,.int .i64 0,.int .i64 0,.int .i64 0,.int .i64 0,.int .i64 0,.int .i64 0,.int .i64 0,.int .i64 0,.int .i64 0,.slice none 0 0]) H2.at rfl (by simp [Wi3]) λh3 x=>?_)
 have H3:=H2.wr x.new x.old
 exact k h3 H3.drop
theorem Yq6 (H:Sat h (Wf2 M tv s*R)) (hc:s.p.c.algo≠0) (k:∀h',Sat h' (Wf2 M tv s*R)→K (.bool false) h'):Wa6 Tryz.prog 10 #[mP M] h K:=by
 refine call10 ?_
 unfold F10 cf ce bd lS Ys7 WB7
 refine Wa0 (W32 H hc λh1 H1=>?_)
 have H2:=H1.push (.cells #[.int .i64 0,.int .i64 0,.int .i64 0,.int .i64 0,.int .i64 0,.int .i64 0,.int .i64 0,.int .i64 0,.int .i64 0,.int .i64 0,.int .i64 0,.int .i64 0,.int .i64 0,.int .i64 0,.int .i64 0,.slice none 0 0] 65)
 try simp only [Wa9,bsx,Nat.reduceAdd,Int.reduceLE,Int.reduceLT,Int.reduceToNat]
 refine Wp4 ?_
 try simp only [Wa9,bsx,Nat.reduceAdd,Int.reduceLE,Int.reduceLT,Int.reduceToNat]
 refine Wi0 rfl ?_
 refine Wa5 rfl (Wa5 rfl (Wa5 rfl (Wa5 rfl (Wa5 rfl (Wa5 rfl (Wa5 rfl (Wa5 rfl (Wa5 rfl (Wa5 rfl (Wa5 rfl (Wa5 rfl (Wa5 rfl (Wa5 rfl (Wa5 rfl (Wa5 rfl ?_)))))))))))))))
 try simp only [Wa9,bsx,Nat.reduceAdd,Int.reduceLE,Int.reduceLT,Int.reduceToNat]
 refine Wm4 ?_
 try simp only [Wa9,bsx,Nat.reduceAdd,Int.reduceLE,Int.reduceLT,Int.reduceToNat]
 generalize h1.push (.cells #[.int .i64 0,.int .i64 0,.int .i64 0,.int .i64 0,.int .i64 0,.int .i64 0,.int .i64 0,.int .i64 0,.int .i64 0,.int .i64 0,.int .i64 0,.int .i64 0,.int .i64 0,.int .i64 0,.int .i64 0,.slice none 0 0] 65)=h2 at *
 generalize h1.size=N at *
 refine Ys9 (Wd3 (vs:=[.int .i64 0,.int .i64 0,.int .i64 0,.int .i64 0,.int .i64 0,.int .i64 0,.int .i64 0,.int .i64 0,.int .i64 0,.int .i64 0,.int .i64 0,.int .i64 0,.int .i64 0,.int .i64 0,.int .i64 0,.slice none 0 0]) H2.at rfl (by simp [Wi3]) λh3 x=>?_)
 have H3:=H2.wr x.new x.old
 exact k h3 H3.drop
theorem Yy4 (H:Sat h R) (k:∀h',Sat h' (R)→K (.int .i64 0) h'):Wa6 Tryz.prog 9 #[.pointer none] h K:=by
 refine call9 ?_
 unfold F9 cf bd lS
 refine Wa0 (WM3 H λh1 H1=>?_)
 try simp only [Wa9,bsx,Nat.reduceAdd,Int.reduceLE,Int.reduceLT,Int.reduceToNat]
 refine ⟨λvs h'=>(∃u,vs = [.int .i64 0,u,.int .i64 0])∧h' = h1,λ_ _=>0,⟨⟨_,rfl⟩,rfl⟩,?_⟩
 rintro v7 v8 v9 g10 h11 ⟨⟨u,e⟩,rfl⟩
 cases e
 try simp only [Wa9,bsx,Nat.reduceAdd,Int.reduceLE,Int.reduceLT,Int.reduceToNat]
 refine Wa7 (λhh=>by omega) (λ_=>?_)
 exact k h11 H1
theorem YI5 (H:Sat h (Wf2 M tv s*R)) (hc:s.p.c.algo≠0) (k:∀h',Sat h' (Wf2 M tv s*R)→K (.int .i64 0) h'):Wa6 Tryz.prog 9 #[mP M] h K:=by
 refine call9 ?_
 unfold F9 cf bd lS
 refine Wa0 (WW6 H hc λh1 H1=>?_)
 try simp only [Wa9,bsx,Nat.reduceAdd,Int.reduceLE,Int.reduceLT,Int.reduceToNat]
 refine ⟨λvs h'=>(∃u,vs = [.int .i64 0,u,.int .i64 0])∧h' = h1,λ_ _=>0,⟨⟨_,rfl⟩,rfl⟩,?_⟩
 rintro v7 v8 v9 g10 h11 ⟨⟨u,e⟩,rfl⟩
 cases e
 try simp only [Wa9,bsx,Nat.reduceAdd,Int.reduceLE,Int.reduceLT,Int.reduceToNat]
 refine Wa7 (λhh=>by omega) (λ_=>?_)
 exact k h11 H1
end
end
section
open Mod
section
variable {K:Value→Wa1→Prop} {h:Wa1} {M:Nat} {Ts:List Nat} {R:Hp} {d:Run→Run} {W:Run→Prop} {ins:Int} {Inv:Nat→Mac→Prop} {m:Mac}
theorem YE0 (G:YI3 d W ins Inv) {i:Nat}:∀ {j:Nat},i≤j→Inv i m→Inv j m
 | 0,h,H=>by
  have:i=0:=by omega
  subst this;exact H
 | j+1,h,H=>by
  by_cases e:i=j+1
  ·subst e;exact H
  ·exact G.mono j m (YE0 G (by omega) H)
theorem Wq2 {m:Mac} {k:Nat} (h:k < m.th.length):m.th[k]? = some (Wk1 m k):=by
 unfold Wk1;rw [List.getElem?_eq_getElem h];simp [h]
theorem WH7 {m z:Mac} {k:Nat} {t:Thr} (h:k < m.th.length):Wk1 (z.setTh (m.th.set k t)) k=t:=by
 unfold Wk1 Mod.Mac.setTh
 rw [List.getD_eq_getElem?_getD]
 simp [h]
theorem al1 {i n N:Nat} (h:N - i=n+1):i+1≤N:=by omega
theorem al4 {i n N:Nat} (h:N - i=n+1):N - (i+1)=n:=by omega
theorem al2 (i:Nat) (h:i < 100000):((100000:Int) - ((i+1:Nat):Int)).toNat < ((100000:Int) - (i:Int)).toNat:=by omega
theorem al3 {i i0 n N:Nat} (h:N - i=n+1) (h2:i0+N≤90000):i < 100000:=by omega
theorem al5 {i i0 n N:Nat} (h:N - i=n+1) (h2:i0+N≤90000):i0+i < 100000:=by omega
theorem al6 {i i0 n N:Nat} (h:N - i=n+1):i0+i+1≤i0+N:=by omega
theorem Yy5 (j:Nat) (h:j < 100000):s64 ((j:Int)+1)=((j+1:Nat):Int):=by unfold s64;omega
theorem Ye9 {m:Mac} {k:Nat} (h:k < m.th.length):m.setTh (m.th.set k (Wk1 m k))=m:=by
 have ht:=Wq2 h
 unfold Mod.Mac.setTh
 have:m.th.set k (Wk1 m k)=m.th:=by
  apply List.ext_getElem (by simp)
  intro i h1 h2
  rw [List.getElem_set]
  split
  ·rename_i e;subst e;exact (List.getElem?_eq_some_iff.1 ht).2.symm ▸ rfl
  ·rfl
 rw [this]
theorem Yf0 {f:Nat} (D:DoC f d W) (G:YI3 d W ins Inv) (hins:0≤ins∧ins≤100) {k T i0 N:Nat} {t:Thr} {c:Cl} {m':Mac} (H:Sat h (Wr5 M Ts m*R)) (hT:Ts[k]? = some T) (ht:m.th[k]? = some t) (he:t.fr = []) (hI:Inv i0 m) (hi0:i0+N≤90000)
  (hc:(0≤c.op∧c.op≤2)∧V c.key∧V c.val) (ha:WO6 d k N (m.setTh (m.th.set k (t.push (ins+c.op) [c.key,c.val])))=some m')
  (kk:∀h',Inv (i0+N) m'→m'.th.length=m.th.length→(Wk1 m' k).fr = []→Sat h' (Wr5 M Ts m' * R)→K (.tuple #[.agg #[.int .i64 (Yp4 (Wk1 m' k)).op,.int .u32 (Yp4 (Wk1 m' k)).key,.int .u32 (Yp4 (Wk1 m' k)).val],.bool true]) h') :
  Wa6 Tryz.prog 41 #[.agg #[.func (.func f) #[] #[],.int .i64 ins],mP M,.int .i64 k,.agg #[.int .i64 c.op,.int .u32 c.key,.int .u32 c.val]] h K:=by
 refine call41 ?_
 unfold F41 g41 cf lI de3 dl3 dw3
 have hlt:k < m.th.length:=(List.getElem?_eq_some_iff.1 ht).1
 have H1:=H.push (.cells #[.func (.func f) #[] #[],.int .i64 ins] 86)
 generalize h.push (.cells #[.func (.func f) #[] #[],.int .i64 ins] 86)=h1 at *
 generalize h.size=QB at *
 have H2:=H1.push (.cells (clc c).toArray 54)
 rw [show (.cells #[.int .i64 c.op,.int .u32 c.key,.int .u32 c.val] 54:Obj)=.cells (clc c).toArray 54 from rfl]
 generalize h1.push (.cells (clc c).toArray 54)=h2 at *
 generalize h1.size=CB at *
 have H3:=H2.push (.cells (clc cl0).toArray 81)
 rw [show (.cells #[.int .i64 0,.int .u32 0,.int .u32 0] 81:Obj)=.cells (clc cl0).toArray 81 from rfl]
 generalize h2.push (.cells (clc cl0).toArray 81)=h3 at *
 generalize h2.size=AB at *
 have H4:Sat h3 (Wr5 M Ts m*(pt QB (.cells #[.func (.func f) #[] #[],.int .i64 ins] 86)*(pt CB (.cells (clc c).toArray 54)*(pt AB (.cells (clc cl0).toArray 81)*R)))):=Sat.ac H3 (by ac_rfl)
 refine Wa0 (WG5 H4 (λhh=>by omega) λT2 _ hT2=>?_)
 rw [Int.toNat_natCast,hT] at hT2
 cases hT2
 try simp only [Wa9,bsx,Nat.reduceAdd,Int.reduceLE,Int.reduceLT,Int.reduceToNat]
 obtain ⟨⟨op0,op2⟩,hkey,hval⟩:=hc
 have hu1:Mod.u64 c.key=c.key:=by have:=hkey.1;have:=hkey.2;unfold Mod.u64;omega
 have hu2:Mod.u64 c.val=c.val:=by have:=hval.1;have:=hval.2;unfold Mod.u64;omega
 have hu3:s64 (ins+c.op)=ins+c.op:=by unfold s64;omega
 refine ldR H4.at2 rfl ?_
 try simp only [Wa9,bsx,Nat.reduceAdd,Int.reduceLE,Int.reduceLT,Int.reduceToNat]
 refine ldR H4.at3 rfl ?_
 try simp only [Wa9,bsx,Nat.reduceAdd,Int.reduceLE,Int.reduceLT,Int.reduceToNat]
 refine ldR H4.at3 rfl ?_
 try simp only [Wa9,bsx,Nat.reduceAdd,Int.reduceLE,Int.reduceLT,Int.reduceToNat]
 refine ldR H4.at3 rfl ?_
 try simp only [Wa9,bsx,Nat.reduceAdd,Int.reduceLE,Int.reduceLT,Int.reduceToNat,hu1,hu2,hu3]
 obtain ⟨tv,Q,H5,re⟩:=WA1 H4 hT ht
 refine Wa0 (Ym7 H5 [c.key,c.val] rfl (Yp2 ⟨hkey.1,by have:=hkey.2;omega⟩ ⟨hval.1,by have:=hval.2;omega⟩) (by omega) (by show t.fr.length < _;rw [he];decide) λh4 b o _ _ H6=>?_)
 have H7:=re h4 _ _ rfl (RunS.none H6)
 have hI1:=G.push i0 m k t c hI ht he ⟨op0,op2⟩ hkey hval
 have hm0:(Wk1 (m.setTh (m.th.set k (t.push (ins+c.op) [c.key,c.val]))) k).fr≠[]:=by
  rw [WH7 hlt];unfold Mod.Thr.push;simp
 have hl0:(m.setTh (m.th.set k (t.push (ins+c.op) [c.key,c.val]))).th.length=m.th.length:=by
  show (m.th.set k _).length=_;rw [List.length_set]
 have H7:Sat h4 (Wr5 M Ts (m.setTh (m.th.set k (t.push (ins+c.op) [c.key,c.val])))*(pt QB (.cells #[.func (.func f) #[] #[],.int .i64 ins] 86)*(pt CB (.cells (clc c).toArray 54)*(pt AB (.cells (clc cl0).toArray 81)*R)))):=H7
 generalize m.setTh (m.th.set k (t.push (ins+c.op) [c.key,c.val]))=m0 at *
 try simp only [Wa9,bsx,Nat.reduceAdd,Int.reduceLE,Int.reduceLT,Int.reduceToNat]
 refine ⟨λvs h'=>∃(i:Nat) (w:Value) (mi:Mac),vs = [w,.int .i64 i]∧i≤N∧WO6 d k (N - i) mi=some m'∧Inv (i0+i) mi∧mi.th.length=m.th.length∧(Wk1 mi k).fr≠[]∧Sat h' (Wr5 M Ts mi*(pt QB (.cells #[.func (.func f) #[] #[],.int .i64 ins] 86)*(pt CB (.cells (clc c).toArray 54)*(pt AB (.cells (clc cl0).toArray 81)*R)))),λvs _=>match vs with | [_,.int _ i]=>(100000 - i).toNat | _=>0,⟨0,_,m0,rfl,Nat.zero_le _,ha,hI1,hl0,hm0,H7⟩,?_⟩
 rintro v21 v22 g23 h24 ⟨i,w,mi,e,hi,hai,hIi,hli,hfi,H8⟩
 cases e
 try simp only [Wa9,bsx,Nat.reduceAdd,Int.reduceLE,Int.reduceLT,Int.reduceToNat]
 have hN:∃n,N - i=n+1:=by
  cases hNi:N - i with
  | zero=>rw [hNi] at hai;unfold WO6 at hai;cases hai
  | succ n=>exact ⟨n,rfl⟩
 obtain ⟨n,hn⟩:=hN
 rw [hn] at hai
 unfold WO6 at hai
 have hfl:mi.fault=false:=by
  cases hh:mi.fault with
  | false=>rfl
  | true=>rw [hh] at hai;simp at hai
 rw [hfl] at hai
 simp only [Bool.false_eq_true,if_false] at hai
 refine ⟨λvs h'=>vs = [.bool true]∧Sat h' (Wr5 M Ts mi*(pt QB (.cells #[.func (.func f) #[] #[],.int .i64 ins] 86)*(pt CB (.cells (clc c).toArray 54)*(pt AB (.cells (clc cl0).toArray 81)*R)))),?_,?_⟩
 ·have e1:decide ((i:Int) < 100000)=true:=decide_eq_true (by have:=al3 hn hi0;exact Int.ofNat_lt.2 this)
  rw [e1]
  simp only [Wd1]
  obtain ⟨a,cc,hl,H9⟩:=Wh6.1 H8
  refine Wa0 (Yc6 H9 λh' H10=>?_)
  rw [hfl]
  try simp only [Wa9,bsx,Nat.reduceAdd,Int.reduceLE,Int.reduceLT,Int.reduceToNat]
  exact Wh6.2 ⟨a,cc,hl,H10⟩
 rintro v30 g31 h32 ⟨e,H9⟩
 cases e
 try simp only [Wa9,bsx,Nat.reduceAdd,Int.reduceLE,Int.reduceLT,Int.reduceToNat]
 refine ldR H9.at2 rfl ?_
 have hlt2:k < mi.th.length:=by omega
 obtain ⟨nn,z,hb,hs,hid,hzt,hI2⟩:=G.step (i0+i) mi k _ hIi (al5 hn hi0) (Wq2 hlt2) hfi
 refine Wa0 (WQ1 D H9 (n:=nn) (z:=z) (i:=k) (by omega) (by rw [Int.toNat_natCast];exact Wq2 hlt2) hb hs hid λh' H10=>?_)
 rw [Int.toNat_natCast] at H10
 have hstep:mi.step k d 40=some (!z.t.fr.isEmpty,z.m.setTh (mi.th.set k z.t)):=by
  unfold Mod.Mac.step at hai ⊢
  rw [if_neg (by omega),Int.toNat_natCast] at hai ⊢
  cases hb4:Mod.bits d 40 ⟨{ mi with acted:=false },mi.th.getD k (WB9 mi.p.c),k⟩ with
  | none=>rw [hb4] at hai;cases hai
  | some y=>
   have ey:z=y:=W78 hb hb4
   subst ey
   show some (!z.t.fr.isEmpty,{ z.m with th:=z.m.th.set k z.t })=_
   rw [hzt]
   rfl
 rw [hstep] at hai
 try simp only [Wa9,bsx,Nat.reduceAdd,Int.reduceLE,Int.reduceLT,Int.reduceToNat]
 cases hzf:z.t.fr with
 | nil=>
  rw [hzf] at hai
  have hm':z.m.setTh (mi.th.set k z.t)=m':=Option.some.inj hai
  rw [hm'] at H10 hI2
  have hthr:Wk1 m' k=z.t:=by rw [← hm'];exact WH7 hlt2
  have hl9:m'.th.length=m.th.length:=by
   rw [← hm'];show (mi.th.set k z.t).length=_;rw [List.length_set];exact hli
  have hlt9:k < m'.th.length:=by omega
  obtain ⟨tv2,Q2,H11,re2⟩:=WA1 H10 hT (Wq2 hlt9)
  refine Wd0 (λ_=>?_) (λhh=>by simp at hh)
  refine Wa0 (W17 (RunS.thr H11) λh5 H12=>?_)
  have H13:=re2 h5 ⟨m',Wk1 m' k,k⟩ (pt QB (.cells #[.func (.func f) #[] #[],.int .i64 ins] 86)*(pt CB (.cells (clc c).toArray 54)*(pt AB (.cells (clc cl0).toArray 81)*R))) rfl (RunS.ofThr H12)
  have H13:Sat h5 (Wr5 M Ts (m'.setTh (m'.th.set k (Wk1 m' k)))*(pt QB (.cells #[.func (.func f) #[] #[],.int .i64 ins] 86)*(pt CB (.cells (clc c).toArray 54)*(pt AB (.cells (clc cl0).toArray 81)*R)))):=H13
  rw [Ye9 hlt9] at H13
  try simp only [Wa9,bsx,Nat.reduceAdd,Int.reduceLE,Int.reduceLT,Int.reduceToNat]
  refine Wi0 rfl (Wa5 rfl (Wa5 rfl (Wa5 rfl ?_)))
  rw [YL7] at H13
  have O:=H13.at
  refine st3 (Wd3 (vs:=clc (Yp4 (Wk1 m' k))) H13.at rfl (by simp [clc,Wi3]) λh6 w=>?_)
  have H14:=H13.wr w.new w.old
  refine ldR H14.at rfl (ldR H14.at rfl (ldR H14.at rfl ?_))
  rw [← YL7] at H14
  exact kk h6 (YE0 G (al6 hn) hI2) hl9 (by rw [hthr,hzf]) H14.drop2.drop2.drop2
 | cons a l=>
  rw [hzf] at hai
  have hai:WO6 d k n (z.m.setTh (mi.th.set k z.t))=some m':=hai
  refine Wd0 (λhh=>by simp at hh) (λ_=>?_)
  have hb8:i < 100000:=al3 hn hi0
  have e2:=Yy5 i hb8
  rw [e2]
  refine ⟨⟨i+1,_,_,rfl,al1 hn,by rw [al4 hn];exact hai,hI2,?_,?_,H10⟩,?_⟩
  ·show (mi.th.set k z.t).length=_;rw [List.length_set];exact hli
  ·rw [WH7 hlt2,hzf];simp
  ·exact al2 i hb8
end
end
end Go.Proofs.YtooaemmlgkdfoaaGreat
section
namespace Go.Proofs.YtooaemmlgkdfoaaGreat.Mod
inductive Lo:Run→Run→Prop
 | refl (x:Run):Lo x x
 | load {x y:Run} {a:Int} (h:Lo x y):Lo x (y.load a).2
 | store {x y:Run} {a v:Int} (h:Lo x y):Lo x (y.store a v)
 | cas {x y:Run} {a o v:Int} (h:Lo x y):Lo x (y.cas a o v).2
 | add {x y:Run} {a v:Int} (h:Lo x y):Lo x (y.add a v).2
 | swing {x y:Run} {a w p:Int} {b:Bool} (h:Lo x y):Lo x (y.swing a w p b).2
 | swingA {x y:Run} {a w p:Int} (h:Lo x y):Lo x (y.swingA a w p).2
 | swingM {x y:Run} {a w p:Int} {b:Bool} (h:Lo x y):Lo x (y.swingM a w p b).2
 | drop1 {x y:Run} {a:Int} (h:Lo x y):Lo x (y.drop1 a).2
 | guard {x y:Run} {a b:Int} (h:Lo x y):Lo x (y.guard a b)
 | gh {x y:Run} {f:Gh→Gh} (h:Lo x y):Lo x (y.gh f)
 | s {x y:Run} {i:Nat} {v:Int} (h:Lo x y):Lo x (y.s i v)
 | pc {x y:Run} {i:Int} (h:Lo x y):Lo x (y.pc i)
 | fo {x y:Run} {l:List Int} (h:Lo x y):Lo x (y.fo l)
 | re {x y:Run} {l:List Int} (h:Lo x y):Lo x (y.re l)
 | setPl {x y:Run} {p s w:List Int} (h:Lo x y):Lo x (y.setPl p s w)
 | next {x y:Run} {k:Int} (h:Lo x y):Lo x { y with m:=(y.m.next k).2 }
 | lvl {x y:Run} {k:Int} (h:Lo x y):Lo x { y with m:=(y.m.lvl k).2 }
 | dcas {x y:Run} {a o v b p q:Int} (h:Lo x y):Lo x { y with m:=(y.m.dcas a o v b p q).2 }
 | dcss {x y:Run} {a o v b p:Int} (h:Lo x y):Lo x { y with m:=(y.m.dcss a o v b p).2 }
inductive Tch:Run→Prop
 | load {y:Run} {a:Int}:Tch (y.load a).2
 | store {y:Run} {a v:Int}:Tch (y.store a v)
 | cas {y:Run} {a o v:Int}:Tch (y.cas a o v).2
 | add {y:Run} {a v:Int}:Tch (y.add a v).2
 | swing {y:Run} {a w p:Int} {b:Bool}:Tch (y.swing a w p b).2
 | swingA {y:Run} {a w p:Int}:Tch (y.swingA a w p).2
 | swingM {y:Run} {a w p:Int} {b:Bool}:Tch (y.swingM a w p b).2
 | drop1 {y:Run} {a:Int}:Tch (y.drop1 a).2
 | guard {y:Run} {a b:Int}:Tch (y.guard a b)
 | dcas {y:Run} {a o v b p q:Int}:Tch { y with m:=(y.m.dcas a o v b p q).2 }
 | dcss {y:Run} {a o v b p:Int}:Tch { y with m:=(y.m.dcss a o v b p).2 }
 | s {y:Run} {i:Nat} {v:Int} (h:Tch y):Tch (y.s i v)
 | pc {y:Run} {i:Int} (h:Tch y):Tch (y.pc i)
 | gh {y:Run} {f:Gh→Gh} (h:Tch y):Tch (y.gh f)
 | fo {y:Run} {l:List Int} (h:Tch y):Tch (y.fo l)
 | re {y:Run} {l:List Int} (h:Tch y):Tch (y.re l)
 | setPl {y:Run} {p s w:List Int} (h:Tch y):Tch (y.setPl p s w)
 | next {y:Run} {k:Int} (h:Tch y):Tch { y with m:=(y.m.next k).2 }
 | lvl {y:Run} {k:Int} (h:Tch y):Tch { y with m:=(y.m.lvl k).2 }
 | push {y:Run} {i:Int} {r:List Int} (h:Tch y):Tch (y.push i r)
 | pop {y:Run} {r:List Int} (h:Tch y):Tch (y.pop r)
 | call {y:Run} {i j:Int} {r:List Int} (h:Tch y):Tch (y.call i j r)
 | fin {y:Run} {i j k:Int} (h:Tch y):Tch (y.fin i j k)
inductive St:Nat→Run→Run→Prop
 | refl {n:Nat} (x:Run):St n x x
 | load {n:Nat} {x y:Run} {a:Int} (h:St n x y):St (n+1) x (y.load a).2
 | store {n:Nat} {x y:Run} {a v:Int} (h:St n x y):St (n+1) x (y.store a v)
 | cas {n:Nat} {x y:Run} {a o v:Int} (h:St n x y):St (n+1) x (y.cas a o v).2
 | add {n:Nat} {x y:Run} {a v:Int} (h:St n x y):St (n+1) x (y.add a v).2
 | dcas {n:Nat} {x y:Run} {a o v b p q:Int} (h:St n x y):St (n+1) x { y with m:=(y.m.dcas a o v b p q).2 }
 | dcss {n:Nat} {x y:Run} {a o v b p:Int} (h:St n x y):St (n+1) x { y with m:=(y.m.dcss a o v b p).2 }
 | next {n:Nat} {x y:Run} {k:Int} (h:St n x y):St (n+1) x { y with m:=(y.m.next k).2 }
 | lvl {n:Nat} {x y:Run} {k:Int} (h:St n x y):St (n+1) x { y with m:=(y.m.lvl k).2 }
 | gh {n:Nat} {x y:Run} {f:Gh→Gh} (h:St n x y):St n x (y.gh f)
 | s {n:Nat} {x y:Run} {i:Nat} {v:Int} (h:St n x y):St (n+1) x (y.s i v)
 | pc {n:Nat} {x y:Run} {i:Int} (h:St n x y):St (n+1) x (y.pc i)
 | push {n:Nat} {x y:Run} {i:Int} {r:List Int} (h:St n x y):St (n+1) x (y.push i r)
 | pop {n:Nat} {x y:Run} {r:List Int} (h:St n x y):St n x (y.pop r)
 | fo {n:Nat} {x y:Run} {l:List Int} (hl:l.length≤y.t.found.length+1) (h:St n x y):St (n+1) x (y.fo l)
 | re {n:Nat} {x y:Run} {l:List Int} (hl:l.length≤y.t.retired.length+1) (h:St n x y):St (n+1) x (y.re l)
 | part {n:Nat} {x y:Run} {p:Int→Bool} (h:St n x y):St (n+1) x ((y.re (y.t.retired.filter p)).fo (y.t.retired.filter λn=>!p n))
 | setPl {n:Nat} {x y:Run} {p s w:List Int} (h1:p.length=y.t.pred.length) (h2:s.length=y.t.succ.length) (h3:w.length=y.t.word.length) (h:St n x y):St n x (y.setPl p s w)
 | up {n k:Nat} {x y:Run} (h:St n x y):St (n+k) x y
section
variable {x y:Run} {n:Nat}
theorem St.swing {a w p:Int} {b:Bool} (h:St n x y):St (n+1) x (y.swing a w p b).2:=St.cas h
theorem St.swingA {a w p:Int} (h:St n x y):St (n+1) x (y.swingA a w p).2:=St.cas h
theorem St.swingM {a w p:Int} {b:Bool} (h:St n x y):St (n+1) x (y.swingM a w p b).2:=St.cas h
theorem St.drop1 {a:Int} (h:St n x y):St (n+1) x (y.drop1 a).2:=St.add h
theorem St.guard {a b:Int} (h:St n x y):St (n+1) x (y.guard a b):=St.store h
theorem St.call {i j:Int} {r:List Int} (h:St n x y):St (n+2) x (y.call i j r):=St.push (St.pc h)
theorem St.fin {i j k:Int} (h:St n x y):St (n+5) x (y.fin i j k):=St.call (St.s (St.s (St.s h)))
end
structure Fix (x y:Run):Prop where
 p:y.m.p=x.m.p
 id:y.id=x.id
 th:y.m.th=x.m.th
 b:y.m.b=x.m.b
 w:y.m.mm.w.length=x.m.mm.w.length
 pr:y.t.pred.length=x.t.pred.length
 su:y.t.succ.length=x.t.succ.length
 wo:y.t.word.length=x.t.word.length
structure FixM (m n:Mac):Prop where
 p:n.p=m.p
 th:n.th=m.th
 b:n.b=m.b
 w:n.mm.w.length=m.mm.w.length
 st:n.mm.st≤m.mm.st+1
 us:n.used≤m.used+1
theorem FixM.touch (m:Mac) (a:Int):FixM m (m.touch a)∧(m.touch a).mm=m.mm∧(m.touch a).used=m.used:=by
 unfold Mac.touch
 split <;> exact ⟨⟨rfl,rfl,rfl,rfl,by show m.mm.st≤_;omega,by show m.used≤_;omega⟩,rfl,rfl⟩
theorem FixM.of {m n k:Mac} (h:FixM m n) (hn:n.mm=m.mm∧n.used=m.used) (e:k.p=n.p∧k.th=n.th∧k.b=n.b∧k.used=n.used) (ew:k.mm.w.length=n.mm.w.length) (es:k.mm.st≤n.mm.st+1):FixM m k:=
 ⟨e.1.trans h.p,e.2.1.trans h.th,e.2.2.1.trans h.b,ew.trans h.w,by rw [← hn.1];exact es,by rw [e.2.2.2,hn.2];omega⟩
theorem FixM.load (m:Mac) (a:Int):FixM m (m.load a).2:=by
 have t:=FixM.touch m a
 unfold Mac.load;dsimp only
 split
 ·exact t.1.of t.2 ⟨rfl,rfl,rfl,rfl⟩ rfl (Int.le_refl _)
 ·exact t.1.of t.2 ⟨rfl,rfl,rfl,rfl⟩ rfl (by show (m.touch a).mm.st≤_;omega)
theorem FixM.store (m:Mac) (a v:Int):FixM m (m.store a v):=by
 have t:=FixM.touch m a
 unfold Mac.store;dsimp only
 split
 ·exact t.1.of t.2 ⟨rfl,rfl,rfl,rfl⟩ (by show (List.set _ _ _).length=_;rw [List.length_set];rfl) (Int.le_refl _)
 ·exact t.1.of t.2 ⟨rfl,rfl,rfl,rfl⟩ rfl (by show (m.touch a).mm.st≤_;omega)
theorem FixM.add (m:Mac) (a v:Int):FixM m (m.add a v).2:=by
 have t:=FixM.touch m a
 unfold Mac.add;dsimp only
 split
 ·exact t.1.of t.2 ⟨rfl,rfl,rfl,rfl⟩ (by show (List.set _ _ _).length=_;rw [List.length_set];rfl) (Int.le_refl _)
 ·exact t.1.of t.2 ⟨rfl,rfl,rfl,rfl⟩ rfl (by show (m.touch a).mm.st≤_;omega)
theorem YP0 (m:Mm) (a o n:Int):(m.cas a o n).st=m.st+1∧(m.cas a o n).w.length=m.w.length:=by unfold Mm.cas;split <;> exact ⟨rfl,by simp [Mm.tick,Mm.put]⟩
theorem YI6 (m:Mm) (a o n b p q:Int):(m.dcas a o n b p q).st=m.st+1∧(m.dcas a o n b p q).w.length=m.w.length:=by unfold Mm.dcas;split <;> exact ⟨rfl,by simp [Mm.tick,Mm.put]⟩
theorem YI7 (m:Mm) (a o n b p:Int):(m.dcss a o n b p).st=m.st+1∧(m.dcss a o n b p).w.length=m.w.length:=by unfold Mm.dcss;split <;> exact ⟨rfl,by simp [Mm.tick,Mm.put]⟩
theorem FixM.cas (m:Mac) (a o n:Int):FixM m (m.cas a o n).2:=by
 have t:=FixM.touch m a
 have h:=YP0 (m.touch a).mm a o n
 unfold Mac.cas;dsimp only
 split
 ·exact t.1.of t.2 ⟨rfl,rfl,rfl,rfl⟩ h.2 (by show ((m.touch a).mm.cas a o n).st≤_;omega)
 ·exact t.1.of t.2 ⟨rfl,rfl,rfl,rfl⟩ rfl (by show (m.touch a).mm.st≤_;omega)
theorem FixM.touch2 (m:Mac) (a b:Int):FixM m ((m.touch a).touch b)∧((m.touch a).touch b).mm=m.mm∧((m.touch a).touch b).used=m.used:=by
 have t:=FixM.touch m a
 have t2:=FixM.touch (m.touch a) b
 have e1:=t2.2.1.trans t.2.1
 have e2:=t2.2.2.trans t.2.2
 exact ⟨⟨t2.1.p.trans t.1.p,t2.1.th.trans t.1.th,t2.1.b.trans t.1.b,t2.1.w.trans t.1.w,by rw [e1];omega,by rw [e2];omega⟩,e1,e2⟩
theorem FixM.dcas (m:Mac) (a o n b p q:Int):FixM m (m.dcas a o n b p q).2:=by
 have t:=FixM.touch2 m a b
 have h:=YI6 ((m.touch a).touch b).mm a o n b p q
 unfold Mac.dcas;dsimp only
 split
 ·exact t.1.of t.2 ⟨rfl,rfl,rfl,rfl⟩ h.2 (by show (((m.touch a).touch b).mm.dcas a o n b p q).st≤_;omega)
 ·exact t.1.of t.2 ⟨rfl,rfl,rfl,rfl⟩ rfl (by show ((m.touch a).touch b).mm.st≤_;omega)
theorem FixM.dcss (m:Mac) (a o n b p:Int):FixM m (m.dcss a o n b p).2:=by
 have t:=FixM.touch2 m a b
 have h:=YI7 ((m.touch a).touch b).mm a o n b p
 unfold Mac.dcss;dsimp only
 split
 ·exact t.1.of t.2 ⟨rfl,rfl,rfl,rfl⟩ h.2 (by show (((m.touch a).touch b).mm.dcss a o n b p).st≤_;omega)
 ·exact t.1.of t.2 ⟨rfl,rfl,rfl,rfl⟩ rfl (by show ((m.touch a).touch b).mm.st≤_;omega)
theorem FixM.refl (m:Mac):FixM m m:=⟨rfl,rfl,rfl,rfl,by omega,by omega⟩
theorem FixM.next (m:Mac) (n:Int):FixM m (m.next n).2:=by
 unfold Mac.next
 split
 ·exact FixM.refl m
 ·exact ⟨rfl,rfl,rfl,rfl,by show m.mm.st≤_;omega,Int.le_refl _⟩
theorem FixM.lvl (m:Mac) (n:Int):FixM m (m.lvl n).2:=by
 unfold Mac.lvl
 split
 ·exact FixM.refl m
 ·exact ⟨rfl,rfl,rfl,rfl,by show m.mm.st≤_;omega,Int.le_refl _⟩
theorem Fix.m {x y:Run} {m:Mac} (h:Fix x y) (e:FixM y.m m):Fix x { y with m:=m }:=⟨e.p.trans h.p,h.id,e.th.trans h.th,e.b.trans h.b,e.w.trans h.w,h.pr,h.su,h.wo⟩
theorem Fix.t {x y:Run} {t:Thr} (h:Fix x y) (h1:t.pred.length=y.t.pred.length) (h2:t.succ.length=y.t.succ.length) (h3:t.word.length=y.t.word.length):Fix x { y with t:=t }:=⟨h.p,h.id,h.th,h.b,h.w,h1.trans h.pr,h2.trans h.su,h3.trans h.wo⟩
theorem Thr.pop_pl (t:Thr) (r:List Int):(t.pop r).pred=t.pred∧(t.pop r).succ=t.succ∧(t.pop r).word=t.word:=by unfold Thr.pop;split <;> exact ⟨rfl,rfl,rfl⟩
theorem St.fix {n:Nat} {x y:Run} (h:St n x y):Fix x y:=by
 induction h with
 | refl x=>exact ⟨rfl,rfl,rfl,rfl,rfl,rfl,rfl,rfl⟩
 | load _ ih=>exact ih.m (FixM.load _ _)
 | store _ ih=>exact ih.m (FixM.store _ _ _)
 | cas _ ih=>exact ih.m (FixM.cas _ _ _ _)
 | add _ ih=>exact ih.m (FixM.add _ _ _)
 | dcas _ ih=>exact ih.m (FixM.dcas _ _ _ _ _ _ _)
 | dcss _ ih=>exact ih.m (FixM.dcss _ _ _ _ _ _)
 | next _ ih=>exact ih.m (FixM.next _ _)
 | lvl _ ih=>exact ih.m (FixM.lvl _ _)
 | gh _ ih=>exact ih.m ⟨rfl,rfl,rfl,rfl,by show Mm.st _≤_;exact Int.le_add_one (Int.le_refl _),by show Mac.used _≤_;exact Int.le_add_one (Int.le_refl _)⟩
 | s _ ih=>exact ih.t rfl rfl rfl
 | pc _ ih=>exact ih.t rfl rfl rfl
 | push _ ih=>exact ih.t rfl rfl rfl
 | pop _ ih=>exact ih.t (by rw [(Thr.pop_pl _ _).1]) (by rw [(Thr.pop_pl _ _).2.1]) (by rw [(Thr.pop_pl _ _).2.2])
 | fo _ _ ih=>exact ih.t rfl rfl rfl
 | re _ _ ih=>exact ih.t rfl rfl rfl
 | part _ ih=>exact ih.t rfl rfl rfl
 | setPl h1 h2 h3 _ ih=>exact ih.t h1 h2 h3
 | up _ ih=>exact ih
def Run.P (x:Run):Nat:=x.m.mm.st.toNat+x.m.used.toNat+x.t.retired.length+x.t.found.length+x.t.fr.length
theorem YP1 (p:Int→Bool):∀l:List Int,(l.filter p).length+(l.filter λn=>!p n).length=l.length
 | []=>rfl
 | a :: l=>by
  have ih:=YP1 p l
  cases h:p a <;> simp [List.filter_cons,h] <;> omega
theorem P_m {x:Run} {m:Mac} (h:FixM x.m m):({ x with m:=m }:Run).P≤x.P+2:=by
 have h1:=h.st
 have h2:=h.us
 unfold Run.P
 dsimp only
 omega
theorem YE1 (x:Run) (f:Frm):(x.setF f).P≤x.P+2:=by
 unfold Run.P
 show x.m.mm.st.toNat+x.m.used.toNat+x.t.retired.length+x.t.found.length+(x.t.fr.dropLast ++ [f]).length≤_
 simp
 omega
theorem St.P {n:Nat} {x y:Run} (h:St n x y):y.P≤x.P+2*n:=by
 induction h with
 | refl x=>omega
 | @load _ _ y a _ ih=>have:=P_m (x:=y) (FixM.load y.m a);exact Nat.le_trans this (by omega)
 | @store _ _ y a v _ ih=>have:=P_m (x:=y) (FixM.store y.m a v);exact Nat.le_trans this (by omega)
 | @cas _ _ y a o v _ ih=>have:=P_m (x:=y) (FixM.cas y.m a o v);exact Nat.le_trans this (by omega)
 | @add _ _ y a v _ ih=>have:=P_m (x:=y) (FixM.add y.m a v);exact Nat.le_trans this (by omega)
 | @dcas _ _ y a o v b p q _ ih=>have:=P_m (x:=y) (FixM.dcas y.m a o v b p q);exact Nat.le_trans this (by omega)
 | @dcss _ _ y a o v b p _ ih=>have:=P_m (x:=y) (FixM.dcss y.m a o v b p);exact Nat.le_trans this (by omega)
 | @next _ _ y k _ ih=>have:=P_m (x:=y) (FixM.next y.m k);exact Nat.le_trans this (by omega)
 | @lvl _ _ y k _ ih=>have:=P_m (x:=y) (FixM.lvl y.m k);exact Nat.le_trans this (by omega)
 | @gh _ _ y f _ ih=>have:(y.gh f).P=y.P:=rfl;omega
 | @s _ _ y i v _ ih=>have:=YE1 y (y.f.s i v);exact Nat.le_trans this (by omega)
 | @pc _ _ y i _ ih=>have:=YE1 y (y.f.at i);exact Nat.le_trans this (by omega)
 | @push _ _ y i r _ ih=>
  have:(y.push i r).P=y.P+1:=by
   unfold Run.P
   show y.m.mm.st.toNat+y.m.used.toNat+y.t.retired.length+y.t.found.length+(y.t.fr ++ [_]).length=_
   simp
   omega
  omega
 | @pop _ _ y r _ ih=>
  have:(y.pop r).P≤y.P:=by
   unfold Run.P Run.pop Thr.pop
   split
   ·exact Nat.le_refl _
   ·dsimp only
    simp
  omega
 | @fo _ _ y l hl _ ih=>
  have:(y.fo l).P≤y.P+1:=by
   unfold Run.P
   show y.m.mm.st.toNat+y.m.used.toNat+y.t.retired.length+l.length+y.t.fr.length≤_
   omega
  omega
 | @re _ _ y l hl _ ih=>
  have:(y.re l).P≤y.P+1:=by
   unfold Run.P
   show y.m.mm.st.toNat+y.m.used.toNat+l.length+y.t.found.length+y.t.fr.length≤_
   omega
  omega
 | @part _ _ y p _ ih=>
  have h:=YP1 p y.t.retired
  have:((y.re (y.t.retired.filter p)).fo (y.t.retired.filter λn=>!p n)).P≤y.P:=by
   unfold Run.P
   show y.m.mm.st.toNat+y.m.used.toNat+(y.t.retired.filter p).length+(y.t.retired.filter λn=>!p n).length+y.t.fr.length≤_
   omega
  omega
 | @setPl _ _ y p s w _ _ _ _ ih=>have:(y.setPl p s w).P=y.P:=rfl;omega
 | up _ ih=>omega
theorem Yy6 (x:Run):St 12 x (alloc x):=by
 unfold alloc;dsimp only
 repeat' split
 all_goals (with_reducible repeat' (first | apply St.refl | assumption | apply St.load | apply St.store | apply St.cas | apply St.add | apply St.swing | apply St.swingA | apply St.swingM | apply St.drop1 | apply St.guard | apply St.next | apply St.lvl | apply St.dcas | apply St.dcss | apply St.gh | apply St.call | apply St.fin | apply St.s | apply St.pc | apply St.push | apply St.pop))
theorem Yf1 (x:Run):St 12 x (Wr0 x):=by
 unfold Wr0;dsimp only
 repeat' split
 all_goals (with_reducible repeat' (first | apply St.refl | assumption | apply St.load | apply St.store | apply St.cas | apply St.add | apply St.swing | apply St.swingA | apply St.swingM | apply St.drop1 | apply St.guard | apply St.next | apply St.lvl | apply St.dcas | apply St.dcss | apply St.gh | apply St.call | apply St.fin | apply St.s | apply St.pc | apply St.push | apply St.pop))
theorem Yf2 (x:Run):St 12 x (Wr1 x):=by
 unfold Wr1
 repeat' split
 ·(with_reducible repeat' (first | apply St.refl | assumption | apply St.load | apply St.store | apply St.cas | apply St.add | apply St.swing | apply St.swingA | apply St.swingM | apply St.drop1 | apply St.guard | apply St.next | apply St.lvl | apply St.dcas | apply St.dcss | apply St.gh | apply St.call | apply St.fin | apply St.s | apply St.pc | apply St.push | apply St.pop))
 ·exact Yy6 x
 ·exact Yf1 x
 ·(with_reducible repeat' (first | apply St.refl | assumption | apply St.load | apply St.store | apply St.cas | apply St.add | apply St.swing | apply St.swingA | apply St.swingM | apply St.drop1 | apply St.guard | apply St.next | apply St.lvl | apply St.dcas | apply St.dcss | apply St.gh | apply St.call | apply St.fin | apply St.s | apply St.pc | apply St.push | apply St.pop))
theorem Yf3 (x:Run):St 12 x (Wr2 x):=by
 unfold Wr2;dsimp only
 repeat' split
 all_goals (with_reducible repeat' (first | apply St.refl | assumption | apply St.load | apply St.store | apply St.cas | apply St.add | apply St.swing | apply St.swingA | apply St.swingM | apply St.drop1 | apply St.guard | apply St.next | apply St.lvl | apply St.dcas | apply St.dcss | apply St.gh | apply St.call | apply St.fin | apply St.s | apply St.pc | apply St.push | apply St.pop))
theorem YI8 (x:Run):St 12 x (Yw5 x):=by
 unfold Yw5;dsimp only
 repeat' split
 all_goals (with_reducible repeat' (first | apply St.refl | assumption | apply St.load | apply St.store | apply St.cas | apply St.add | apply St.swing | apply St.swingA | apply St.swingM | apply St.drop1 | apply St.guard | apply St.next | apply St.lvl | apply St.dcas | apply St.dcss | apply St.gh | apply St.call | apply St.fin | apply St.s | apply St.pc | apply St.push | apply St.pop))
theorem Yq7 (x:Run):St 12 x (Wx6 x):=by
 unfold Wx6;dsimp only
 have h2:St 2 x ((x.gh λg=>g.turn (s64 (x.f.g 0)) 1 2 2).re ((x.gh λg=>g.turn (s64 (x.f.g 0)) 1 2 2).t.retired ++ [s64 (x.f.g 0)])):=St.re (by simp) (St.gh (St.refl _))
 split
 ·exact St.up (k:=9) (St.push (St.pop h2))
 ·exact St.up (k:=10) (St.pop h2)
theorem Yy7 {x y:Run} {N:Nat} (all:Int) (h:St N x y):St (N+2) x (Wx7 y all):=by
 unfold Wx7
 split
 ·exact St.pc (St.part h)
 ·exact St.up (k:=2) h
theorem Yy8 {x y:Run} {N:Nat} (h:St N x y):St (N+2) x (WZ7 y):=by
 unfold WZ7
 split
 ·exact St.up (k:=2) (St.pop h)
 ·rename_i n rest e
  exact St.push (St.fo (by rw [e];simp;omega) h)
theorem YI9 (x:Run):St 12 x (scan x):=by
 have h0:St 1 x (if x.f.pc=0 then x.fo [] else x):=by
  split
  ·exact St.fo (by simp) (St.refl _)
  ·exact St.refl _
 unfold scan
 dsimp only
 generalize (if x.f.pc=0 then x.fo [] else x)=y at *
 split
 ·exact St.up (k:=8) (St.pc (St.fo (by simp) (St.load h0)))
 ·exact St.up (k:=7) (Yy8 (Yy7 _ h0))
theorem W33 (x:Run):St 12 x (Wn0 x):=by
 unfold Wn0
 repeat' split
 ·(with_reducible repeat' (first | apply St.refl | assumption | apply St.load | apply St.store | apply St.cas | apply St.add | apply St.swing | apply St.swingA | apply St.swingM | apply St.drop1 | apply St.guard | apply St.next | apply St.lvl | apply St.dcas | apply St.dcss | apply St.gh | apply St.call | apply St.fin | apply St.s | apply St.pc | apply St.push | apply St.pop))
 ·exact Yf3 x
 ·exact YI8 x
 ·exact Yq7 x
 ·exact YI9 x
 ·exact Yf2 x
theorem Yy9 (x:Run):St 12 x (WN9 x):=by
 unfold WN9;dsimp only
 repeat' split
 all_goals (with_reducible repeat' (first | apply St.refl | assumption | apply St.load | apply St.store | apply St.cas | apply St.add | apply St.swing | apply St.swingA | apply St.swingM | apply St.drop1 | apply St.guard | apply St.next | apply St.lvl | apply St.dcas | apply St.dcss | apply St.gh | apply St.call | apply St.fin | apply St.s | apply St.pc | apply St.push | apply St.pop))
theorem Yz0 (x:Run):St 12 x (WO1 x):=by
 unfold WO1;dsimp only
 repeat' split
 all_goals (with_reducible repeat' (first | apply St.refl | assumption | apply St.load | apply St.store | apply St.cas | apply St.add | apply St.swing | apply St.swingA | apply St.swingM | apply St.drop1 | apply St.guard | apply St.next | apply St.lvl | apply St.dcas | apply St.dcss | apply St.gh | apply St.call | apply St.fin | apply St.s | apply St.pc | apply St.push | apply St.pop))
theorem W34 (x:Run):St 12 x (Wn1 x):=by
 unfold Wn1 WO0;dsimp only
 repeat' split
 all_goals (with_reducible repeat' (first | apply St.refl | assumption | apply St.load | apply St.store | apply St.cas | apply St.add | apply St.swing | apply St.swingA | apply St.swingM | apply St.drop1 | apply St.guard | apply St.next | apply St.lvl | apply St.dcas | apply St.dcss | apply St.gh | apply St.call | apply St.fin | apply St.s | apply St.pc | apply St.push | apply St.pop))
theorem Yz1 (x:Run):St 12 x (WO2 x):=by
 unfold WO2 WO0;dsimp only
 repeat' split
 all_goals (with_reducible repeat' (first | apply St.refl | assumption | apply St.load | apply St.store | apply St.cas | apply St.add | apply St.swing | apply St.swingA | apply St.swingM | apply St.drop1 | apply St.guard | apply St.next | apply St.lvl | apply St.dcas | apply St.dcss | apply St.gh | apply St.call | apply St.fin | apply St.s | apply St.pc | apply St.push | apply St.pop))
theorem YJ0 (x:Run):St 12 x (Yw6 x):=by
 unfold Yw6 WU1;dsimp only
 repeat' split
 all_goals (with_reducible repeat' (first | apply St.refl | assumption | apply St.load | apply St.store | apply St.cas | apply St.add | apply St.swing | apply St.swingA | apply St.swingM | apply St.drop1 | apply St.guard | apply St.next | apply St.lvl | apply St.dcas | apply St.dcss | apply St.gh | apply St.call | apply St.fin | apply St.s | apply St.pc | apply St.push | apply St.pop))
theorem Yz2 (x:Run):St 12 x (WO3 x):=by
 unfold WO3
 try dsimp only
 repeat' split
 all_goals first | with_reducible exact Yz0 x | with_reducible exact W34 x | with_reducible exact Yz1 x | with_reducible exact YJ0 x | (with_reducible repeat' (first | apply St.refl | assumption | apply St.load | apply St.store | apply St.cas | apply St.add | apply St.swing | apply St.swingA | apply St.swingM | apply St.drop1 | apply St.guard | apply St.next | apply St.lvl | apply St.dcas | apply St.dcss | apply St.gh | apply St.call | apply St.fin | apply St.s | apply St.pc | apply St.push | apply St.pop))
theorem Yz3 (x:Run):St 12 x (WE6 x):=by
 unfold WE6;dsimp only
 repeat' split
 all_goals (with_reducible repeat' (first | apply St.refl | assumption | apply St.load | apply St.store | apply St.cas | apply St.add | apply St.swing | apply St.swingA | apply St.swingM | apply St.drop1 | apply St.guard | apply St.next | apply St.lvl | apply St.dcas | apply St.dcss | apply St.gh | apply St.call | apply St.fin | apply St.s | apply St.pc | apply St.push | apply St.pop))
theorem Yz4 (x:Run):St 12 x (WE7 x):=by
 unfold WE7;dsimp only
 repeat' split
 all_goals first | with_reducible exact Yz3 x | (with_reducible repeat' (first | apply St.refl | assumption | apply St.load | apply St.store | apply St.cas | apply St.add | apply St.swing | apply St.swingA | apply St.swingM | apply St.drop1 | apply St.guard | apply St.next | apply St.lvl | apply St.dcas | apply St.dcss | apply St.gh | apply St.call | apply St.fin | apply St.s | apply St.pc | apply St.push | apply St.pop))
theorem W83 (x:Run):St 12 x (WI7 x):=by
 unfold WI7;dsimp only
 repeat' split
 all_goals (with_reducible repeat' (first | apply St.refl | assumption | apply St.load | apply St.store | apply St.cas | apply St.add | apply St.swing | apply St.swingA | apply St.swingM | apply St.drop1 | apply St.guard | apply St.next | apply St.lvl | apply St.dcas | apply St.dcss | apply St.gh | apply St.call | apply St.fin | apply St.s | apply St.pc | apply St.push | apply St.pop))
theorem Yz5 (x:Run):St 12 x (WO4 x):=by
 unfold WO4;dsimp only
 repeat' split
 all_goals first | with_reducible exact W83 x | (with_reducible repeat' (first | apply St.refl | assumption | apply St.load | apply St.store | apply St.cas | apply St.add | apply St.swing | apply St.swingA | apply St.swingM | apply St.drop1 | apply St.guard | apply St.next | apply St.lvl | apply St.dcas | apply St.dcss | apply St.gh | apply St.call | apply St.fin | apply St.s | apply St.pc | apply St.push | apply St.pop))
theorem WW7 (x:Run) (a:Nat) (i j:Int):St 5 x (Wo6 x a i j):=by
 unfold Wo6;dsimp only
 repeat' split
 all_goals (with_reducible repeat' (first | apply St.refl | assumption | apply St.load | apply St.store | apply St.cas | apply St.add | apply St.swing | apply St.swingA | apply St.swingM | apply St.drop1 | apply St.guard | apply St.next | apply St.lvl | apply St.dcas | apply St.dcss | apply St.gh | apply St.call | apply St.fin | apply St.s | apply St.pc | apply St.push | apply St.pop))
theorem Yz6 (x:Run) (a:Nat) (j:Int):St 12 x (WI8 x a j):=by
 unfold WI8;dsimp only
 repeat' split
 all_goals (with_reducible repeat' (first | apply St.refl | assumption | apply St.load | apply St.store | apply St.cas | apply St.add | apply St.swing | apply St.swingA | apply St.swingM | apply St.drop1 | apply St.guard | apply St.next | apply St.lvl | apply St.dcas | apply St.dcss | apply St.gh | apply St.call | apply St.fin | apply St.s | apply St.pc | apply St.push | apply St.pop))
theorem Yz7 (x:Run):St 12 x (WO5 x):=by
 unfold WO5;dsimp only
 repeat' split
 all_goals first | with_reducible exact St.up (k:=7) (WW7 _ _ _ _) | with_reducible exact St.up (k:=5) (St.call (WW7 _ _ _ _)) | with_reducible exact Yz6 _ _ _ | with_reducible exact W83 x | with_reducible exact Yz5 x | (with_reducible repeat' (first | apply St.refl | assumption | apply St.load | apply St.store | apply St.cas | apply St.add | apply St.swing | apply St.swingA | apply St.swingM | apply St.drop1 | apply St.guard | apply St.next | apply St.lvl | apply St.dcas | apply St.dcss | apply St.gh | apply St.call | apply St.fin | apply St.s | apply St.pc | apply St.push | apply St.pop))
theorem Yf4 (x:Run):St 12 x (Wl1 x):=by
 unfold Wl1
 try dsimp only
 repeat' split
 all_goals first | with_reducible exact Yy9 x | with_reducible exact Yz2 x | with_reducible exact Yz4 x | with_reducible exact Yz7 x | with_reducible exact W33 x | (with_reducible repeat' (first | apply St.refl | assumption | apply St.load | apply St.store | apply St.cas | apply St.add | apply St.swing | apply St.swingA | apply St.swingM | apply St.drop1 | apply St.guard | apply St.next | apply St.lvl | apply St.dcas | apply St.dcss | apply St.gh | apply St.call | apply St.fin | apply St.s | apply St.pc | apply St.push | apply St.pop))
end Go.Proofs.YtooaemmlgkdfoaaGreat.Mod
end
