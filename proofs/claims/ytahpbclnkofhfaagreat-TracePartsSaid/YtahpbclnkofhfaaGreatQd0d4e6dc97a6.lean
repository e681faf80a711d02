/- Part 9 of what the proofs of this seat rest on: see the last text of the claim. -/
import Derived.Test.YtahpbclnkofhfaaGreatQ241fba2ecfed
import Derived.Test.YtahpbclnkofhfaaGreatProg
set_option linter.unusedSimpArgs false
set_option linter.unusedVariables false
set_option linter.ambiguousOpen false
set_option maxRecDepth 20000
namespace Go.Proofs.YtahpbclnkofhfaaGreat
section
open Mod
section
variable {K:kQ} {h:Wa1} {M T b o N:Nat} {tv:Value} {fo:Option (Nat × Nat)} {x:Run} {R:Hp}
theorem YU7 {u v w:Int} (h1:U u) (h2:U v) (h3:U w):∀y ∈ [u,v,w],U y:=by
 intro y hy
 simp only [List.mem_cons,List.not_mem_nil,or_false] at hy
 rcases hy with rfl | rfl | rfl
 ·exact h1
 ·exact h2
 ·exact h3
theorem W73 (H:Sat h (RunS M T tv (some (b,o)) x R)) (O:Ok x) (k:∀h',Sat h' (RunS M T tv none (WH4 x) R)->K (.tuple #[]) h') :
  Wa4 Tryz.prog 108 #[rV M T b o] h K:=by
 refine call108 ?_
 unfold F108 g108 cf lP lI nP dl3
 have hp:=O.pc
 unfold WH4 at k
 have H1:=RunS.new H (.cells #[mP M,mP T,fP b o] 193);generalize h.push (.cells #[mP M,mP T,fP b o] 193)=h1 at *;generalize h.size=N at *
 refine ss H1 ?_
 refine Wa7 (λc=>?_) (λc=>?_)
 ·rw [if_pos c] at k
  exact Wa0 (W70 H1 O c λh2 H2=>k h2 (RunS.drp H2))
 rw [if_neg c] at k
 refine Wa7 (λc=>?_) (λc=>?_)
 ·rw [if_pos c] at k
  exact Wa0 (W71 H1 O (by omega) λh2 H2=>k h2 (RunS.drp H2))
 rw [if_neg c] at k
 refine Wa7 (λc=>?_) (λc=>?_)
 ·rw [if_pos c] at k
  exact Wa0 (W72 H1 O (by omega) λh2 H2=>k h2 (RunS.drp H2))
 rw [if_neg c] at k
 exact Wa0 (Yl6 H1 O λh2 H2=>k h2 (RunS.drp H2))
theorem W74 (H:Sat h (RunS M T tv (some (b,o)) x R)) (O:Ok x) (k:∀h',Sat h' (RunS M T tv none (WB1 x) R)->K (.tuple #[]) h') :
  Wa4 Tryz.prog 156 #[rV M T b o] h K:=by
 refine call156 ?_
 unfold F156 g156 cf ce bd lP lI nP da3
 have B:=RunS.fB H
 have P:=RunS.pl H
 have hd:=O.fr
 have r0:=RunS.ret H 0
 unfold WB1 at k
 dsimp only at k
 have H1:=RunS.new H (.cells #[mP M,mP T,fP b o] 194);generalize h.push (.cells #[mP M,mP T,fP b o] 194)=h1 at *;generalize h.size=N at *
 refine ss H1 ?_
 refine Wa0 (Wg4 0 rfl H1 λh2 H2=>?_)
 refine ss H2 ?_
 refine Wa7 (λc=>?_) (λc=>?_)
 ·rw [if_pos c] at k
  refine Wa0 (Wr6 H2 λh3 H3=>?_)
  refine ss H3 ?_
  exact Wa0 (Wq0 H3 [0,u64 (x.at 1)] rfl (Yy7 U0 (Ws3 _)) rfl (by omega) λh4 b' o' _ _ H4=>k h4 (RunS.drp (RunS.none H4)))
 rw [if_neg c] at k
 refine Wa7 (λc=>?_) (λc=>?_)
 ·rw [if_pos c] at k
  refine RunS.stR (i:=0) H2 rfl r0 λh3 H3=>RunS.stP H3 λh4 H4=>?_
  have l1:=WI5 x 0 (x.ret 0)
  have l2:=WP1 (x.s 0 (x.ret 0)) 2
  refine ss H4 ?_
  refine Wa0 (Wg4 0 rfl H4 λh5 H5=>?_)
  try simp +decide only [Wc5,bsx,Nat.reduceAdd,Int.reduceLE,Int.reduceLT,Int.reduceToNat,rsx,g_s,Wc9,RunS.al H5,B.len]
  refine Wa0 (Wp8 r0 ?_)
  refine ss H5 ?_
  refine Wb7 (λc2=>?_) (λc2=>?_)
  ·rw [if_pos c2] at k
   exact Wa0 (Wq0 H5 [1] rfl (Ws4 (U.lit rfl)) rfl (by omega) λh6 b' o' _ _ H6=>k h6 (RunS.drp (RunS.none H6)))
  ·rw [if_neg (by rw [c2];simp)] at k
   refine Wa0 (Wg4 0 rfl H5 λh6 H6=>?_)
   try simp +decide only [Wc5,bsx,Nat.reduceAdd,Int.reduceLE,Int.reduceLT,Int.reduceToNat,rsx,g_s,Wc9,RunS.al H6,B.len]
   refine Wa0 (Wj2 r0 ?_)
   refine ss H6 ?_
   refine Wa7 (λc3=>?_) (λc3=>?_)
   ·rw [if_pos c3] at k
    exact Wa0 (Wq1 H6 (U.lit rfl) U0 U0 (by omega) λh7 b' o' _ _ H7=>k h7 (RunS.drp (RunS.none H7)))
   ·rw [if_neg c3] at k
    exact k h6 (RunS.drp (RunS.none H6))
 rw [if_neg c] at k
 refine Wa7 (λc=>?_) (λc=>?_)
 ·rw [if_pos c] at k
  refine Wa0 (Wv2 H2 (B.g 0) (by decide) λh3 H3=>?_)
  refine ss H3 ?_
  refine Wa0 (WI4 H3 (Wx1 P _ _) O.st λh4 H4 u4=>?_)
  refine ss H4 ?_
  exact RunS.stR (i:=1) H4 rfl u4 λh5 H5=>RunS.stP H5 λh6 H6=>k h6 (RunS.drp (RunS.none H6))
 rw [if_neg c] at k
 refine Wa7 (λc=>?_) (λc=>?_)
 ·rw [if_pos c] at k
  refine Wa0 (Wv2 H2 (B.g 0) (by decide) λh3 H3=>?_)
  refine ss H3 ?_
  refine Wa0 (WI4 H3 (Wx1 P _ _) O.st λh4 H4 u4=>?_)
  refine ss H4 ?_
  refine RunS.stR (i:=2) H4 rfl u4 λh5 H5=>RunS.stP H5 λh6 H6=>?_
  have l1:=WI5 (x.load (x.nodeW (x.f.g 0) 1)).2 2 (x.load (x.nodeW (x.f.g 0) 1)).1
  have l2:=WP1 ((x.load (x.nodeW (x.f.g 0) 1)).2.s 2 (x.load (x.nodeW (x.f.g 0) 1)).1) 4
  rw [Yw4] at l1
  try simp +decide only [Wc5,bsx,Nat.reduceAdd,Int.reduceLE,Int.reduceLT,Int.reduceToNat,rsx,g_s,Wc9,RunS.al H6,B.len]
  refine Wa7 (λc2=>?_) (λc2=>?_)
  ·rw [if_pos c2] at k
   exact Wa0 (Wq1 H6 (U.lit rfl) (B.g 1) u4 (by omega) λh7 b' o' _ _ H7=>k h7 (RunS.drp (RunS.none H7)))
  ·rw [if_neg c2] at k
   exact k h6 (RunS.drp (RunS.none H6))
 rw [if_neg c] at k
 exact k h2 (RunS.drp (RunS.none H2))
theorem W75 (H:Sat h (RunS M T tv (some (b,o)) x R)) (O:Ok x) (k:∀h',Sat h' (RunS M T tv none (WB2 x) R)->K (.tuple #[]) h') :
  Wa4 Tryz.prog 109 #[rV M T b o] h K:=by
 refine call109 ?_
 unfold F109 g109 cf ce bd lP lI nP da3 dl3
 have B:=RunS.fB H
 have P:=RunS.pl H
 have hd:=O.fr
 unfold WB2 at k
 dsimp only at k
 have H1:=RunS.new H (.cells #[mP M,mP T,fP b o] 194);generalize h.push (.cells #[mP M,mP T,fP b o] 194)=h1 at *;generalize h.size=N at *
 refine ss H1 ?_
 refine Wa0 (Wg4 0 rfl H1 λh2 H2=>?_)
 refine ss H2 ?_
 refine Wa7 (λc=>?_) (λc=>?_)
 ·rw [if_pos c] at k
  refine Wa0 (Wv2 H2 (B.g 0) (by decide) λh3 H3=>?_)
  refine ss H3 ?_
  refine Wa0 (WI4 H3 (Wx1 P _ _) O.st λh4 H4 u4=>?_)
  refine ss H4 ?_
  exact RunS.stR (i:=3) H4 rfl u4 λh5 H5=>RunS.stP H5 λh6 H6=>k h6 (RunS.drp (RunS.none H6))
 rw [if_neg c] at k
 refine Wa7 (λc=>?_) (λc=>?_)
 ·rw [if_pos c] at k
  refine RunS.stP H2 λh3 H3=>?_
  have l1:=WP1 x 0
  refine ss H3 ?_
  refine Wa0 (Wx2 H3 (B.g 0) O.st λh4 H4=>?_)
  refine ss H4 ?_
  refine Wb7 (λc2=>?_) (λc2=>?_)
  ·rw [if_pos c2] at k
   exact Wa0 (Wq0 H4 [1] rfl (Ws4 (U.lit rfl)) rfl (show (x.pc 0).t.fr.length < _ by omega) λh6 b' o' _ _ H6=>k h6 (RunS.drp (RunS.none H6)))
  ·rw [if_neg (by rw [c2];simp)] at k
   exact k h4 (RunS.drp (RunS.none H4))
 rw [if_neg c] at k
 refine Wa7 (λc=>?_) (λc=>?_)
 ·rw [if_pos c] at k
  refine Wa0 (Wj2 (B.g 0) ?_)
  refine ss H2 ?_
  exact Wa0 (Wq0 H2 [Wz7 (x.f.g 0)] rfl (Ws4 (WY7 _)) rfl (by omega) λh6 b' o' _ _ H6=>k h6 (by rw [WS5];exact RunS.drp (RunS.none H6)))
 rw [if_neg c] at k
 refine Wa7 (λc=>?_) (λc=>?_)
 ·rw [if_pos c] at k
  exact Wa0 (Wq1 H2 (U.lit rfl) (B.g 1) (B.g 2) (by omega) λh7 b' o' _ _ H7=>k h7 (RunS.drp (RunS.none H7)))
 rw [if_neg c] at k
 exact Wa0 (W74 H2 O λh3 H3=>k h3 (RunS.drp H3))
theorem WJ8 (H:Sat h (RunS M T tv (some (b,o)) x R)) (O:Ok x) (k:∀h',Sat h' (RunS M T tv none (WD5 x) R)->K (.tuple #[]) h') :
  Wa4 Tryz.prog 159 #[rV M T b o] h K:=by
 refine call159 ?_
 unfold F159 g159 cf ce bd lP nP da3
 have B:=RunS.fB H
 have P:=RunS.pl H
 unfold WD5 at k
 dsimp only at k
 have H1:=RunS.new H (.cells #[mP M,mP T,fP b o] 195);generalize h.push (.cells #[mP M,mP T,fP b o] 195)=h1 at *;generalize h.size=N at *
 refine ss H1 ?_
 refine Wa0 (Wg4 1 rfl H1 λh2 H2=>?_)
 refine ss H2 ?_
 refine RunS.stP H2 λh3 H3=>?_
 refine ss H3 ?_
 refine Wa0 (Wj2 (B.g 1) ?_)
 refine ss H3 ?_
 refine Wa0 (Wx2 H3 (B.g 1) O.st λh4 H4=>?_)
 refine ss H4 ?_
 refine Wb7 (λc2=>?_) (λc2=>?_)
 ·rw [if_pos c2] at k
  try simp +decide only [Wc5,bsx,Nat.reduceAdd,Int.reduceLE,Int.reduceLT,Int.reduceToNat,rsx,g_s,Wc9,RunS.al H4]
  exact Wa0 (YU0 H4 Args.none (by omega) λh5 H5=>k h5 (RunS.drp H5))
 ·rw [if_neg (by rw [c2];simp)] at k
  exact k h4 (RunS.drp (RunS.none H4))
theorem W76 (H:Sat h (RunS M T tv (some (b,o)) x R)) (O:Ok x) (k:∀h',Sat h' (RunS M T tv none (WH5 x) R)->K (.tuple #[]) h') :
  Wa4 Tryz.prog 160 #[rV M T b o] h K:=by
 refine call160 ?_
 unfold F160 g160 cf bd lP lI nP da3 dl3
 have B:=RunS.fB H
 have P:=RunS.pl H
 have hd:=O.fr
 have r0:=RunS.ret H 0
 have r1:=RunS.ret H 1
 unfold WH5 at k
 dsimp only at k
 have H1:=RunS.new H (.cells #[mP M,mP T,fP b o] 195);generalize h.push (.cells #[mP M,mP T,fP b o] 195)=h1 at *;generalize h.size=N at *
 refine ss H1 ?_
 refine Wa7 (λc=>?_) (λc=>?_)
 ·rw [if_pos c] at k
  exact Wa0 (Wq0 H1 [x.f.g 0] rfl (Ws4 (B.g 0)) rfl (by omega) λh4 b' o' _ _ H4=>k h4 (RunS.drp (RunS.none H4)))
 rw [if_neg c] at k
 refine Wa7 (λc=>?_) (λc=>?_)
 ·rw [if_pos c] at k
  refine RunS.stR (i:=1) H1 rfl r0 λh2 H2=>?_
  try simp +decide only [Wc5,bsx,Nat.reduceAdd,Int.reduceLE,Int.reduceLT,Int.reduceToNat,rsx,g_s,Wc9,RunS.al H2]
  refine RunS.stR (i:=2) H2 rfl r1 λh3 H3=>RunS.stP H3 λh4 H4=>?_
  refine ss H4 ?_
  refine Wa0 (Wg4 1 rfl H4 λh5 H5=>?_)
  try simp +decide only [Wc5,bsx,Nat.reduceAdd,Int.reduceLE,Int.reduceLT,Int.reduceToNat,rsx,g_s,Wc9,RunS.al H5,B.len]
  refine Wa0 (Wp8 r0 ?_)
  refine ss H5 ?_
  refine Wb7 (λc2=>?_) (λc2=>?_)
  ·rw [if_neg (by simpa using c2)] at k
   exact Wa0 (YU0 H5 Args.none (by omega) λh6 H6=>k h6 (RunS.drp H6))
  ·rw [if_pos (by simpa using c2)] at k
   exact k h5 (RunS.drp (RunS.none H5))
 rw [if_neg c] at k
 refine Wa7 (λc=>?_) (λc=>?_)
 ·rw [if_pos c] at k
  refine RunS.stP H1 λh2 H2=>?_
  refine ss H2 ?_
  refine Wa0 (WI4 H2 (by decide) O.st λh3 H3 u3=>?_)
  refine ss H3 ?_
  refine Wa0 (W69 (Wm7 _) ?_)
  refine ss H3 ?_
  refine Wb7 (λc2=>?_) (λc2=>?_)
  ·rw [if_pos c2] at k
   exact RunS.stP H3 λh4 H4=>k h4 (RunS.drp (RunS.none H4))
  ·rw [if_neg (by rw [c2];simp)] at k
   exact k h3 (RunS.drp (RunS.none H3))
 rw [if_neg c] at k
 refine Wa7 (λc=>?_) (λc=>?_)
 ·rw [if_pos c] at k
  exact Wa0 (WJ8 H1 O λh2 H2=>k h2 (RunS.drp H2))
 rw [if_neg c] at k
 exact k h1 (RunS.drp (RunS.none H1))
theorem Y27:und Tryz.prog 184=.pointer 190:=by kernel_rfl
theorem Yy8 {P:Program} (d:Nat) {t el:TypeId} {a b:Addr} (hu:P.underlying t=some (.pointer el)) (hth:We9 P el=true) (hsz:siz P el≠0) (F:Bool->Wa1->Prop) (h:Wa1) (H:hp P (sameAddr a b) F h):hp P (Op.equalIn (d+1) t (.pointer (some a)) (.pointer (some b))) F h:=by
 simp only [Op.equalIn,Wa5,Wa8 hu,Wd4 hth]
 rw [if_pos hsz]
 exact H
theorem YU8 {h:Wa1} {p q:Nat} {K:kQ} (k:K (.bool true) h):YO7 Tryz.prog .eql 184 (some ⟨p,q,none⟩) (some ⟨p,q,none⟩) h K:=by
 unfold YO7
 rw [Wf8 (by simp) (by simp) (by simp) (by simp),Wf0]
 refine Yy8 9999 (Wb9 Y27 (by simp)) Yd6 (by rw [WO9];omega) _ _ ?_
 unfold sameAddr
 simp only [beq_self_eq_true,if_true]
 exact k
theorem WC8 (H:Sat h (RunS M T tv (some (b,o)) x R)) (O:Ok x) {at_:Nat} {next place:Int} (ha:at_<=8) (hp:U place)
  (k1:WR4 (x.ret 0)=true->∀h',Wa3 h' ⟨b,o+1,none⟩=some (iQ 0)->Sat h' (RunS M T tv none (Wm6 x at_ next place) R)->K (.tuple #[]) h')
  (k0:WR4 (x.ret 0)=false->∀h',Sat h' (RunS M T tv (some (b,o)) (Wm6 x at_ next place) R)->K (.tuple #[]) h') :
  Wa4 Tryz.prog 157 #[rV M T b o,iQ (at_:Int),iQ next,uQ place] h K:=by
 refine call157 ?_
 unfold F157 g157 cf bd lP lI nP da3
 have B:=RunS.fB H
 have hd:=O.fr
 have r0:=RunS.ret H 0
 have r1:=RunS.ret H 1
 unfold Wm6 at k1 k0
 dsimp only at k1 k0
 have e1:s64 ((at_:Int)+1)=((at_+1:Nat):Int):=by unfold s64;omega
 have H1:=RunS.new H (.cells #[mP M,mP T,fP b o] 195);generalize h.push (.cells #[mP M,mP T,fP b o] 195)=h1 at *;generalize h.size=N at *
 try simp +decide only [Wc5,bsx,Nat.reduceAdd,Int.reduceLE,Int.reduceLT,Int.reduceToNat,rsx,g_s,Wc9,RunS.al H1,e1]
 refine ⟨by omega,by omega,?_⟩
 rw [show o+(2+at_)=o+(at_+2) by omega]
 refine RunS.stR (i:=at_) H1 (by rw [Nat.ble_eq];omega) r0 λh2 H2=>?_
 refine ⟨by omega,by omega,?_⟩
 rw [show o+(2+(at_+1))=o+(at_+1+2) by omega]
 refine RunS.stR (i:=at_+1) H2 (by rw [Nat.ble_eq];omega) r1 λh3 H3=>RunS.stP H3 λh4 H4=>?_
 refine ss H4 ?_
 have hfl:(((x.s at_ (x.ret 0)).s (at_+1) (x.ret 1)).pc next).t.fr.length<=x.t.fr.length+3:=by
  have l1:=WI5 x at_ (x.ret 0)
  have l2:=WI5 (x.s at_ (x.ret 0)) (at_+1) (x.ret 1)
  have l3:=WP1 ((x.s at_ (x.ret 0)).s (at_+1) (x.ret 1)) next
  omega
 refine Wa0 (Wg4 at_ (by rw [Nat.ble_eq];omega) H4 λh5 H5=>?_)
 have eg:(((x.s at_ (x.ret 0)).s (at_+1) (x.ret 1)).pc next).f.g at_=x.ret 0:=by
  rw [YP8,f_s,f_s,Y84,Wc9 _ (by omega),g_s B.len (by omega)]
 rw [eg]
 refine ss H5 ?_
 refine Wa0 (Wp8 r0 ?_)
 refine ss H5 ?_
 refine Wb7 (λc=>?_) (λc=>?_)
 ·rw [if_pos c] at k1
  refine Wa0 (Wq0 H5 [place] rfl (Ws4 hp) rfl (by omega) λh6 b' o' _ st H6=>k1 c h6 ?_ (RunS.drp (RunS.none H6)))
  refine st b o 1 _ rfl ?_
  rw [YP8]
  rfl
 ·rw [if_neg (by rw [c];simp)] at k0
  exact k0 c h5 (RunS.drp H5)
theorem WJ9 (H:Sat h (RunS M T tv (some (b,o)) x R)) (O:Ok x) {at_:Nat} {place:Int} (ha:at_<=8) (hp:U place) (k:∀h',Sat h' (RunS M T tv none (WD6 x at_ place) R)->K (.tuple #[]) h') :
  Wa4 Tryz.prog 158 #[rV M T b o,iQ (at_:Int),uQ place] h K:=by
 refine call158 ?_
 unfold F158 g158 cf ce bd lP lI nP da3
 have B:=RunS.fB H
 have P:=RunS.pl H
 unfold WD6 at k
 dsimp only at k
 have H1:=RunS.new H (.cells #[mP M,mP T,fP b o] 195);generalize h.push (.cells #[mP M,mP T,fP b o] 195)=h1 at *;generalize h.size=N at *
 refine ss H1 ?_
 refine Wa0 (Wg4 1 rfl H1 λh2 H2=>?_)
 refine ss H2 ?_
 refine Wa0 (Wg4 at_ (by rw [Nat.ble_eq];omega) H2 λh3 H3=>?_)
 refine ss H3 ?_
 refine RunS.stP H3 λh4 H4=>?_
 refine ss H4 ?_
 refine Wa0 (Wr6 H4 λh5 H5=>?_)
 refine ss H5 ?_
 refine Wa0 (Wj2 (B.g at_) ?_)
 refine ss H5 ?_
 refine Wa0 (Wp9 (B.g 1) ?_)
 refine ss H5 ?_
 refine Wa0 (Wr6 H5 λh6 H6=>?_)
 refine ss H6 ?_
 refine Wa0 (Wj2 (B.g 1) ?_)
 refine ss H6 ?_
 refine Wa0 (Wp9 (B.g at_) ?_)
 refine ss H6 ?_
 refine Wa0 (Y81 H6 (Yy6 P _) (Yy6 P _) WH7 WH7 O.st λh7 H7=>?_)
 refine ss H7 ?_
 refine Wb7 (λc=>?_) (λc=>?_)
 ·rw [if_pos c] at k
  exact RunS.stR (i:=0) H7 rfl hp λh8 H8=>k h8 (RunS.drp (RunS.none H8))
 ·rw [if_neg (by rw [c];simp)] at k
  exact k h7 (RunS.drp (RunS.none H7))
theorem W77 (H:Sat h (RunS M T tv (some (b,o)) x R)) (O:Ok x) (k:∀h',Sat h' (RunS M T tv none (WH6 x) R)->K (.tuple #[]) h') :
  Wa4 Tryz.prog 110 #[rV M T b o] h K:=by
 refine call110 ?_
 unfold F110 g110 cf bd lP lI nP da3 dl3
 have B:=RunS.fB H
 have P:=RunS.pl H
 have hd:=O.fr
 unfold WH6 at k
 dsimp only at k
 have hl:U (u64 (2*x.f.g 0)):=Ws3 _
 have H1:=RunS.new H (.cells #[mP M,mP T,fP b o] 195);generalize h.push (.cells #[mP M,mP T,fP b o] 195)=h1 at *;generalize h.size=N at *
 refine ss H1 ?_
 generalize hle:u64 (2*x.f.g 0)=left at *
 refine Wa7 (λc=>?_) (λc=>?_)
 ·rw [if_pos c] at k
  exact Wa0 (Wq0 H1 [left] rfl (Ws4 hl) rfl (by omega) λh4 b' o' _ _ H4=>k h4 (RunS.drp (RunS.none H4)))
 rw [if_neg c] at k
 refine Wa7 (λc=>?_) (λc=>?_)
 ·rw [if_pos c] at k
  refine Wa0 (WC8 (at_:=3) H1 O (by omega) hl (λcm h2 e2 H2=>?_) λcm h2 H2=>?_)
  ·rw [if_pos cm] at k
   refine ⟨λvs h'=>vs = [.bool false]/\h' = h2,?_,?_⟩
   ·refine Wb5 e2 ?_
    refine sb ?_
    rw [show ((0:Int) == 6)=false from rfl]
    try simp only [Wc5,bsx,Nat.reduceAdd,Int.reduceLE,Int.reduceLT,Int.reduceToNat]
   rintro v30 g31 h32 ⟨e,rfl⟩
   cases e
   refine sb ?_
   exact k h32 (RunS.drp H2)
  ·rw [if_neg (by rw [cm];simp)] at k
   have epc:(Wm6 x 3 6 left).f.pc=6:=by
    unfold Wm6
    dsimp only
    rw [if_neg (by rw [cm];simp)]
    try simp +decide only [Wc5,bsx,Nat.reduceAdd,Int.reduceLE,Int.reduceLT,Int.reduceToNat,rsx,g_s,Wc9,B.len]
   have efl:(Wm6 x 3 6 left).t.fr.length<=x.t.fr.length+3:=by
    unfold Wm6
    dsimp only
    rw [if_neg (by rw [cm];simp)]
    have l1:=WI5 x 3 (x.ret 0)
    have l2:=WI5 (x.s 3 (x.ret 0)) (3+1) (x.ret 1)
    have l3:=WP1 ((x.s 3 (x.ret 0)).s (3+1) (x.ret 1)) 6
    omega
   refine ⟨λvs h'=>vs = [.bool true]/\h' = h2,?_,?_⟩
   ·try simp +decide only [Wc5,bsx,Nat.reduceAdd,Int.reduceLE,Int.reduceLT,Int.reduceToNat,rsx,g_s,Wc9,RunS.al H2,epc]
    rw [show ((6:Int) == 6)=true from rfl]
    refine sb ?_
    refine Wa0 (Y14 H2 (λhn=>absurd hn (List.length_pos_iff.1 (Y88 H2))) λb2 o2 _ hbo _=>?_)
    obtain ⟨rfl,rfl⟩:=hbo b o rfl
    refine sb ?_
    exact YU8 (by simp only [Wa6];trivial)
   rintro v30 g31 h32 ⟨e,rfl⟩
   cases e
   refine ss H2 ?_
   exact Wa0 (Wq0 H2 [u64 (left+1)] rfl (Ws4 (Ws3 _)) rfl (by omega) λh4 b' o' _ _ H4=>k h4 (RunS.drp (RunS.none H4)))
 rw [if_neg c] at k
 refine Wa7 (λc=>?_) (λc=>?_)
 ·rw [if_pos c] at k
  exact Wa0 (WC8 (at_:=5) H1 O (by omega) (Ws3 _) (λcm h2 e2 H2=>k h2 (RunS.drp H2)) λcm h2 H2=>k h2 (RunS.drp (RunS.none H2)))
 rw [if_neg c] at k
 refine Wa7 (λc=>?_) (λc=>?_)
 ·rw [if_pos c] at k
  refine ⟨λvs h'=>(∃w,vs = [.bool (decide (x.f.g 4<=x.f.g 6/\x.f.g 4 < x.f.g 2)),w])/\h' = h1,?_,?_⟩
  ·refine Wa7 (λc2=>?_) (λc2=>?_)
   ·rw [show decide (x.f.g 4 < x.f.g 2)=decide (x.f.g 4<=x.f.g 6/\x.f.g 4 < x.f.g 2) by rw [decide_eq_decide];omega]
    exact ⟨⟨_,rfl⟩,by trivial⟩
   ·rw [decide_eq_false (p:=x.f.g 4<=x.f.g 6/\x.f.g 4 < x.f.g 2) (by omega)]
    exact ⟨⟨_,rfl⟩,by trivial⟩
  rintro v57 v58 g59 h60 ⟨⟨w,e⟩,rfl⟩
  cases e
  refine sb ?_
  refine Wa7 (λc2=>?_) (λc2=>?_)
  ·rw [if_pos c2] at k
   refine ss H1 ?_
   exact Wa0 (WJ9 (at_:=3) H1 O (by omega) hl λh2 H2=>k h2 (RunS.drp H2))
  rw [if_neg c2] at k
  refine ⟨λvs h'=>(∃w,vs = [.bool (decide (x.f.g 6 < x.f.g 4/\x.f.g 6 < x.f.g 2)),w])/\h' = h60,?_,?_⟩
  ·refine ss H1 ?_
   refine Wa7 (λc2=>?_) (λc2=>?_)
   ·rw [show decide (x.f.g 6 < x.f.g 2)=decide (x.f.g 6 < x.f.g 4/\x.f.g 6 < x.f.g 2) by rw [decide_eq_decide];omega]
    exact ⟨_,rfl⟩
   ·rw [decide_eq_false (p:=x.f.g 6 < x.f.g 4/\x.f.g 6 < x.f.g 2) (by omega)]
    exact ⟨_,rfl⟩
  rintro v57 v58 g59 h60 ⟨⟨w,e⟩,rfl⟩
  cases e
  refine ss H1 ?_
  refine Wa7 (λc3=>?_) (λc3=>?_)
  ·rw [if_pos c3] at k
   exact Wa0 (WJ9 (at_:=5) H1 O (by omega) (Ws3 _) λh2 H2=>k h2 (RunS.drp H2))
  ·rw [if_neg c3] at k
   exact Wa0 (WJ8 H1 O λh2 H2=>k h2 (RunS.drp H2))
 rw [if_neg c] at k
 exact Wa0 (W76 H1 O λh2 H2=>k h2 (RunS.drp H2))
theorem WZ9 (H:Sat h (RunS M T tv fo x R)) (O:Ok x) (k:∀h',Sat h' (RunS M T tv none (Wg0 x) R)->K (.tuple #[]) h') :
  Wa4 Tryz.prog 63 #[mP M,mP T] h K:=by
 refine call63 ?_
 unfold F63 cf bd lI nP dl3
 unfold Wg0 at k
 dsimp only at k
 refine Wa0 (Y14 H (λe=>?_) λb o hne _ H1=>?_)
 ·rw [if_pos e] at k
  refine sb ?_
  refine ⟨λvs h'=>vs = [.bool true]/\h' = h,⟨rfl,rfl⟩,?_⟩
  rintro v4 g6 h7 ⟨e,rfl⟩
  cases e
  refine sb ?_
  exact k _ (RunS.none H)
 ·rw [if_neg hne] at k
  refine sb ?_
  refine ⟨λvs h'=>vs = [.bool false]/\h' = h,⟨rfl,rfl⟩,?_⟩
  rintro v4 g6 h7 ⟨e,rfl⟩
  cases e
  refine sb ?_
  have B:=RunS.fB H1
  have H2:=RunS.new H1 (.cells #[.pointer none,.pointer none,.pointer none] 187)
  generalize h7.push (.cells #[.pointer none,.pointer none,.pointer none] 187)=h2 at *
  generalize h7.size=N at *
  refine st3 (We3 (vs:=[mP M,mP T,fP b o]) (RunS.loc H2) rfl (by simp [Wh0]) λh3 w=>?_)
  have H3:Sat h3 (RunS M T tv (some (b,o)) x (pt N (.cells #[mP M,mP T,fP b o] 187)*R)):=RunS.wr H2 w.new w.old
  clear H2 w
  refine ss H3 ?_
  refine ⟨λvs h'=>(∃w1 w2,vs = [.bool (decide (x.f.pc=90/\11<=x.f.fn/\x.f.fn<=13)),w1,w2])/\h' = h3,?_,?_⟩
  ·refine Wa7 (λc=>?_) (λc=>?_)
   ·refine Wa7 (λc2=>?_) (λc2=>?_)
    ·rw [show decide (x.f.fn<=13)=decide (x.f.pc=90/\11<=x.f.fn/\x.f.fn<=13) by rw [decide_eq_decide];omega]
     exact ⟨⟨_,_,rfl⟩,by trivial⟩
    ·rw [decide_eq_false (p:=x.f.pc=90/\11<=x.f.fn/\x.f.fn<=13) (by omega)]
     exact ⟨⟨_,_,rfl⟩,by trivial⟩
   ·rw [decide_eq_false (p:=x.f.pc=90/\11<=x.f.fn/\x.f.fn<=13) (by omega)]
    exact ⟨⟨_,_,rfl⟩,by trivial⟩
  rintro v21 v22 v23 g24 h25 ⟨⟨w1,w2,e⟩,rfl⟩
  cases e
  refine ss H3 ?_
  refine Wa7 (λc=>?_) (λc=>?_)
  ·rw [if_pos c] at k
   exact Wa0 (Y87 H3 [x.f.g 7,x.f.g 8,x.f.g 9] rfl (YU7 (B.g 7) (B.g 8) (B.g 9)) rfl λh4 H4=>k h4 (RunS.drp H4))
  rw [if_neg c] at k
  refine Wa7 (λc=>?_) (λc=>?_)
  ·rw [if_pos c] at k
   exact Wa0 (Yl5 H3 O.st (by have:=O.fr;omega) λh4 H4=>k h4 (RunS.drp H4))
  rw [if_neg c] at k
  refine Wa7 (λc=>?_) (λc=>?_)
  ·rw [if_pos c] at k
   exact Wa0 (W73 H3 O λh4 H4=>k h4 (RunS.drp H4))
  rw [if_neg c] at k
  refine ⟨λvs h'=>(∃w,vs = [.bool (decide (x.f.fn=12\/x.f.fn=13)),w])/\h' = h25,?_,?_⟩
  ·refine Wa7 (λc=>?_) (λc=>?_)
   ·rw [decide_eq_true (p:=x.f.fn=12\/x.f.fn=13) (.inl c)]
    exact ⟨⟨_,rfl⟩,by trivial⟩
   ·rw [show (x.f.fn == 13)=decide (x.f.fn=12\/x.f.fn=13) by rw [Bool.eq_iff_iff,beq_iff_eq,decide_eq_true_iff];omega]
    exact ⟨⟨_,rfl⟩,by trivial⟩
  rintro v61 v62 g63 h64 ⟨⟨w,e⟩,rfl⟩
  cases e
  refine ss H3 ?_
  refine Wa7 (λc=>?_) (λc=>?_)
  ·rw [if_pos c] at k
   exact Wa0 (W75 H3 O λh4 H4=>k h4 (RunS.drp H4))
  rw [if_neg c] at k
  refine Wa7 (λc=>?_) (λc=>?_)
  ·rw [if_pos c] at k
   exact Wa0 (W77 H3 O λh4 H4=>k h4 (RunS.drp H4))
  rw [if_neg c] at k
  exact Wa0 (WT0 H3 O λh4 H4=>k h4 (RunS.drp H4))
end
end
section
open Mod
section
variable {K:kQ} {h:Wa1} {M T b o N:Nat} {tv:Value} {fo:Option (Nat × Nat)} {x:Run} {R:Hp}
end
end
section
open Mod
section
variable {K:kQ} {h:Wa1} {M T b o N:Nat} {tv:Value} {fo:Option (Nat × Nat)} {x:Run} {R:Hp}
end
end
section
open Mod
section
variable {K:kQ} {h:Wa1} {M T b o N:Nat} {tv:Value} {fo:Option (Nat × Nat)} {x:Run} {R:Hp}
end
end
section
open Mod
theorem Ye6 {d:Run->Run}:∀ {n m:Nat} {x z w:Run},Mod.bits d n x=some z->Mod.bits d m x=some w->z=w
 | 0,0,x,z,w,h1,h2=>by
  rw [h1] at h2;exact Option.some.inj h2
 | 0,m+1,x,z,w,h1,h2=>by
  unfold Mod.bits at h1 h2
  split at h1
  ·rename_i c
   rw [if_pos c] at h2
   rw [h1] at h2;exact Option.some.inj h2
  ·cases h1
 | n+1,0,x,z,w,h1,h2=>by
  unfold Mod.bits at h1 h2
  split at h2
  ·rename_i c
   rw [if_pos c] at h1
   rw [h1] at h2;exact Option.some.inj h2
  ·cases h2
 | n+1,m+1,x,z,w,h1,h2=>by
  unfold Mod.bits at h1 h2
  split at h1
  ·rename_i c
   rw [if_pos c] at h2
   rw [h1] at h2;exact Option.some.inj h2
  ·rename_i c
   rw [if_neg c] at h2
   exact Ye6 h1 h2
open Classical in
noncomputable def Wq2 (d:Run->Run) (x:Run):Run:=if h:∃z,∃n,Mod.bits d n x=some z then h.choose else x
theorem WE8 {d:Run->Run} {n:Nat} {x z:Run} (h:Mod.bits d n x=some z):Wq2 d x=z:=by
 have hh:∃z,∃n,Mod.bits d n x=some z:=⟨z,n,h⟩
 unfold Wq2
 rw [dif_pos hh]
 obtain ⟨m,hm⟩:=hh.choose_spec
 exact Ye6 hm h
def We2 (m:Mac) (k:Nat):Thr:=m.th.getD k (Wu6 m.p.c)
def Yy9 (t:Thr):Cl:=⟨s64 (t.ret.getD 0 0),u32 (t.ret.getD 1 0),u32 (t.ret.getD 2 0)⟩
def cl0:Cl:=⟨0,0,0⟩
def DS.enter (ins:Int) (calls:List (List Cl)) (s:DS) (k:Nat):Option DS:=
 if (We2 s.m k).fr = [] then
  if (calls.getD k []).length<=(s.nx.getD k 0).toNat then none
  else some ⟨s.m.setTh (s.m.th.set k ((We2 s.m k).push (ins+((calls.getD k []).getD (s.nx.getD k 0).toNat cl0).op) [((calls.getD k []).getD (s.nx.getD k 0).toNat cl0).key,((calls.getD k []).getD (s.nx.getD k 0).toNat cl0).val])),s.nx.set k (s.nx.getD k 0+1),s.cu.set k ((calls.getD k []).getD (s.nx.getD k 0).toNat cl0),s.ev ++ [⟨k,false,(calls.getD k []).getD (s.nx.getD k 0).toNat cl0,cl0⟩]⟩
 else some s
noncomputable def DS.go (d:Run->Run) (s:DS) (k:Nat):DS:=
 if (Wq2 d ⟨s.m.quiet,We2 s.m k,k⟩).t.fr = [] then ⟨(Wq2 d ⟨s.m.quiet,We2 s.m k,k⟩).m.setTh (s.m.th.set k (Wq2 d ⟨s.m.quiet,We2 s.m k,k⟩).t),s.nx,s.cu,s.ev ++ [⟨k,true,cl0,Yy9 (Wq2 d ⟨s.m.quiet,We2 s.m k,k⟩).t⟩]⟩
 else ⟨(Wq2 d ⟨s.m.quiet,We2 s.m k,k⟩).m.setTh (s.m.th.set k (Wq2 d ⟨s.m.quiet,We2 s.m k,k⟩).t),s.nx,s.cu,s.ev⟩
noncomputable def DS.pick (d:Run->Run) (ins:Int) (calls:List (List Cl)) (s:DS) (k:Int):DS:=match s.enter ins calls k.toNat with
 | none=>s
 | some s1=>s1.go d k.toNat
structure YJ3 (d:Run->Run) (W:Run->Prop) (ins:Int) (Inv:Nat->Mac->Prop):Prop where
 mono:∀(i:Nat) (m:Mac),Inv i m->Inv (i+1) m
 wd:∀i m,Inv i m->Zb0 m/\2 < m.mm.w.length
 push:∀(i:Nat) (m:Mac) (k:Nat) (t:Thr) (c:Cl),Inv i m->m.th[k]? = some t->t.fr = []->0<=c.op/\c.op<=2->V c.key->V c.val->Inv i (m.setTh (m.th.set k (t.push (ins+c.op) [c.key,c.val])))
 step:∀(i:Nat) (m:Mac) (k:Nat) (t:Thr),Inv i m->i < 100000->m.th[k]? = some t->t.fr≠[]->∃n z,Mod.bits d n ⟨m.quiet,t,k⟩=some z/\YX5 d W n ⟨m.quiet,t,k⟩/\z.id=k/\z.m.th=m.th/\Inv (i+1) (z.m.setTh (m.th.set k z.t))
structure Y55 (h:Wa1) (ca:Option Addr) (cl:Nat) (pa:Option Addr) (pl:Nat) (calls:List (List Cl)) (Wc6:List Int):Prop where
 cs:cl=calls.length
 row:∀i,i < calls.length->∃a c,(∃ad,ca=some ad/\Wa3 h (ad.add i)=some (.slice a (calls.getD i []).length c))/\Sees h a ((calls.getD i []).flatMap clc)
 ps:pl=Wc6.length
 pk:Sees h pa (Wc6.map iv)
section
variable {K:kQ} {h:Wa1} {M:Nat} {B:DB} {Ts:List Nat} {R:Hp} {d:Run->Run} {W:Run->Prop} {ins:Int} {Inv:Nat->Mac->Prop} {calls:List (List Cl)}
end
end
section
open Mod
theorem YU9 {K:kQ} {h:Wa1} {n:Nat} (hn:n<=4096) (k:K (.slice (some (aQ h.size)) n n) (h.push (.cells ((List.replicate n (0:Int)).map iv).toArray 3))):Wm5 Tryz.prog 3 (n:Int) (n:Int) h K:=by
 refine YQ2 (by omega) ?_
 rw [Int.toNat_natCast]
 exact k
def W17 (c:Mod.Cf) (ca:Option Addr) (cl cc:Nat) (pa:Option Addr) (pl pc:Nat) (da:Option Addr) (dl dc:Nat):List Value:=[iQ c.algo,iQ c.threads,iQ c.nodes,iQ c.level,iQ c.batch,iQ c.probes,iQ c.scan,.slice ca cl cc,.slice pa pl pc,.slice da dl dc]
section
variable {K:kQ} {h:Wa1} {M:Nat} {Ts:List Nat} {R:Hp} {d:Run->Run} {W:Run->Prop} {ins:Int} {Inv:Nat->Mac->Prop} {calls:List (List Cl)} {Wc6:List Int} {m:Mac}
end
end
section
open Mod
def u8v (n:Int):Value:=.int .u8 n
structure YV0 (h:Wa1) (ca:Option Addr) (cl:Nat) (pa:Option Addr) (pl:Nat) (da:Option Addr) (dl:Nat) (calls:List (List Cl)) (Wc6 draws:List Int):Prop where
 f:Y55 h ca cl pa pl calls Wc6
 ds:dl=draws.length
 dr:Sees h da (draws.map u8v)
structure Zb1 (calls:List (List Cl)) (Wc6 draws:List Int):Prop where
 cl:∀l ∈ calls,∀c ∈ l,V c.key/\V c.val
 dr:∀n ∈ draws,0<=n/\n < 256
section
variable {K:kQ} {h:Wa1} {R:Hp}
end
end
section
open Go.ChangeShapes Go.WideShapes Go.ChangeAt Go.RowKit
theorem Yz0 {h h0:Wa1} (H:Sat h (Yt8 h0)):Old h0.size h0 h:=by
 rw [<- Wi4 (Yt8 h0),Wt1] at H
 exact H.fullOld
theorem Yz1 {h h0:Wa1} {P:Hp} (H:Sat h (P*Yt8 h0)):Old h0.size h0 h:=by
 rw [Wt1] at H
 exact H.fullOld
section
variable {H:Type} {enc:TypeId × Value->H} {W:World} {fuel:Nat} {cs:List Value} {x:DataW H × List MemPlace}
end
section
variable {H:Type} {enc:TypeId × Value->H} {W:World} {v:Value} {d:DataW H} {ps:List MemPlace} {r:Reach} {b0:Nat}
end
end
section
open Mod
section
variable {K:kQ} {h:Wa1} {M:Nat} {Ts:List Nat} {R:Hp} {d:Run->Run} {W:Run->Prop} {ins:Int} {Inv:Nat->Mac->Prop} {m:Mac}
theorem Wi5 {m:Mac} {k:Nat} (h:k < m.th.length):m.th[k]? = some (We2 m k):=by
 unfold We2;rw [List.getElem?_eq_getElem h];simp [h]
theorem WK0 {m z:Mac} {k:Nat} {t:Thr} (h:k < m.th.length):We2 (z.setTh (m.th.set k t)) k=t:=by
 unfold We2 Mod.Mac.setTh
 rw [List.getD_eq_getElem?_getD]
 simp [h]
end
end
section
set_option maxRecDepth 100000
abbrev g30 (K:kQ) (h H1:Wa1) (xa:Option Addr) (xb xc:Nat) (xd:Bool):Prop:=
 (dl7 H1 h.size λa b c d e f g=>cf 62 #[.agg #[a,b,c,d,e,f,g],.slice xa xb xc,.bool xd] H1 λa b=>Wg5 a λc=>Wc2 c 0 λc=>Wc8 c λc=>Wg5 a λa=>Wc2 a 1 λa=>asInt .i64 a λa=>ifB (a != 0) (K (.tuple #[.pointer none,iQ a]) b) (exI λI15=>(lI .i64 (Array.push b (.cells #[.pointer c,.nilFunc,iQ 0] 115)) (aQ h.size) λa=>ifB (a == 0) (Wc5 (.pointer (some (aQ b.size))) (stH (Array.push b (.cells #[.pointer c,.nilFunc,iQ 0] 115)) ⟨b.size,1,none⟩ (.func (.func 63) #[] #[]) λd=>Wc5 (.pointer (some (aQ b.size))) (stH d ⟨b.size,2,none⟩ (iQ 11) λd=>I15 [.bool true,.tuple #[]] d))) (ifB (a == 1) (Wc5 (.pointer (some (aQ b.size))) (stH (Array.push b (.cells #[.pointer c,.nilFunc,iQ 0] 115)) ⟨b.size,1,none⟩ (.func (.func 64) #[] #[]) λa=>Wc5 (.pointer (some (aQ b.size))) (stH a ⟨b.size,2,none⟩ (iQ 21) λa=>I15 [.bool false,.bool true] a))) (Wc5 (.pointer (some (aQ b.size))) (stH (Array.push b (.cells #[.pointer c,.nilFunc,iQ 0] 115)) ⟨b.size,1,none⟩ (.func (.func 65) #[] #[]) λa=>Wc5 (.pointer (some (aQ b.size))) (stH a ⟨b.size,2,none⟩ (iQ 31) λa=>I15 [.bool false,.bool false] a)))))/\(∀(a c:Value) (d:Env) (d:Wa1),(I15 [a,c] d)->(K (.tuple #[.pointer (some (aQ b.size)),iQ 0]) d))))
def F30 (K:kQ) (h:Wa1) (xa xb xc xd xe xf xg:Int) (xh:Option Addr) (xi xj:Nat) (xk:Bool):Prop:=
 (g30 K h (Array.push h (.cells #[iQ xa,iQ xb,iQ xc,iQ xd,iQ xe,iQ xf,iQ xg] 23)) xh xi xj xk)
theorem call30 {K:kQ} {h:Wa1} {xa xb xc xd xe xf xg:Int} {xh:Option Addr} {xi xj:Nat} {xk:Bool} (H:F30 K h xa xb xc xd xe xf xg xh xi xj xk):Wa4 Tryz.prog 30 #[(.agg #[(iQ xa),(iQ xb),(iQ xc),(iQ xd),(iQ xe),(iQ xf),(iQ xg)]),(.slice xh xi xj),(.bool xk)] h K:=
 cQ Tryz.func30 H
abbrev g77 (K:kQ) (h H1:Wa1) (xa:Option Addr) (xb:Int):Prop:=
 (ifB (Option.isNone xa) (K (iQ 1) H1) (cf 121 #[.pointer xa,iQ xb] H1 λa b=>Wc8 a λa=>ifB (Option.isNone a) (K (iQ 2) b) (dl3 b h.size λa c d=>cf 61 #[.agg #[a,c,d]] b λa b=>asBool a λa=>ifB (!a) (K (iQ 1) b) (cf 66 #[.pointer xa,iQ xb] b λa b=>asBool a λa=>ifB a (K (iQ 5) b) (nP xa λa=>ldH b (Addr.add a 2) λc=>asInt .i64 c λd=>ldH b (aQ h.size) λe=>asInt .i64 e λf=>ldH b ⟨h.size,1,none⟩ λg=>asInt .u32 g λi=>ldH b ⟨h.size,2,none⟩ λj=>asInt .u32 j λk=>(cf 121 #[.pointer xa,iQ xb] b λl m=>Wc8 l λl=>ce m h.size 2 j (ce m h.size 1 g (ce m h.size 0 e (((Wa3 m (Addr.add a 2))=(some c))/\(((Wa3 (Array.push m (.cells #[uQ (IntKind.wrap .u64 i),uQ (IntKind.wrap .u64 k)] 178)) (aQ h.size))=(some e))/\(((Wa3 (Array.push m (.cells #[uQ (IntKind.wrap .u64 i),uQ (IntKind.wrap .u64 k)] 178)) (Addr.add a 2))=(some c))/\(cf 130 #[.pointer l,iQ (IntKind.wrap .i64 (d+f)),.slice (some (aQ m.size)) 2 2] (Array.push m (.cells #[uQ (IntKind.wrap .u64 i),uQ (IntKind.wrap .u64 k)] 178)) λl l=>K (iQ 0) l)))))))/\(((Wa3 (Array.push b (.cells #[uQ (IntKind.wrap .u64 i),uQ (IntKind.wrap .u64 k)] 178)) (aQ h.size))=(some e))/\(((Wa3 (Array.push b (.cells #[uQ (IntKind.wrap .u64 i),uQ (IntKind.wrap .u64 k)] 178)) (Addr.add a 2))=(some c))/\(cf 121 #[.pointer xa,iQ xb] (Array.push b (.cells #[uQ (IntKind.wrap .u64 i),uQ (IntKind.wrap .u64 k)] 178)) λi k=>Wc8 i λi=>ce k h.size 2 j (ce k h.size 1 g (ce k h.size 0 e (((Wa3 k (Addr.add a 2))=(some c))/\(cf 130 #[.pointer i,iQ (IntKind.wrap .i64 (d+f)),.slice (some (aQ b.size)) 2 2] k λa a=>K (iQ 0) a))))))))))))
def F77 (K:kQ) (h:Wa1) (xa:Option Addr) (xb xc xd xe:Int):Prop:=
 (g77 K h (Array.push h (.cells #[iQ xc,.int .u32 xd,.int .u32 xe] 41)) xa xb)
theorem call77 {K:kQ} {h:Wa1} {xa:Option Addr} {xb xc xd xe:Int} (H:F77 K h xa xb xc xd xe):Wa4 Tryz.prog 77 #[(.pointer xa),(iQ xb),(.agg #[(iQ xc),(.int .u32 xd),(.int .u32 xe)])] h K:=
 cQ Tryz.func77 H
def F31 (K:kQ) (h:Wa1) (xa:Option Addr):Prop:=
 (ifB (Option.isNone xa) (K (.pointer none) h) (nP xa λa=>lP h a λa=>K (.pointer a) h))
theorem call31 {K:kQ} {h:Wa1} {xa:Option Addr} (H:F31 K h xa):Wa4 Tryz.prog 31 #[(.pointer xa)] h K:=
 cQ Tryz.func31 H
def F121 (K:kQ) (h:Wa1) (xa:Option Addr) (xb:Int):Prop:=
 (cf 31 #[.pointer xa] h λa b=>Wc8 a λa=>cf 196 #[.pointer a,iQ xb] b λa b=>Wc8 a λa=>K (.pointer a) b)
theorem call121 {K:kQ} {h:Wa1} {xa:Option Addr} {xb:Int} (H:F121 K h xa xb):Wa4 Tryz.prog 121 #[(.pointer xa),(iQ xb)] h K:=
 cQ Tryz.func121 H
def F66 (K:kQ) (h:Wa1) (xa:Option Addr) (xb:Int):Prop:=
 (cf 121 #[.pointer xa,iQ xb] h λa b=>Wc8 a λa=>cf 105 #[.pointer a] b λa b=>Wc8 a λa=>K (.bool (!(Option.isNone a))) b)
theorem call66 {K:kQ} {h:Wa1} {xa:Option Addr} {xb:Int} (H:F66 K h xa xb):Wa4 Tryz.prog 66 #[(.pointer xa),(iQ xb)] h K:=
 cQ Tryz.func66 H
def F68 (K:kQ) (h:Wa1) (xa:Option Addr) (xb:Int):Prop:=
 (exI λI0=>(cf 66 #[.pointer xa,iQ xb] (Array.push h (.cells #[iQ 0,.int .u32 0,.int .u32 0] 43)) λa b=>asBool a λa=>ifB (!a) (I0 [.bool true] b) (nP xa λa=>lP b a λa=>nP xa λc=>ldH b (Addr.add c 1) λc=>cf 123 #[.pointer a,iQ xb,c] b λa b=>asBool a λa=>I0 [.bool a] b))/\(∀(a:Value) (b:Env) (b:Wa1),(I0 [a] b)->(asBool a λa=>ifB a (dw3 b h.size (iQ 0) (.int .u32 0) (.int .u32 0) λa=>dl3 a h.size λc d e=>K (.tuple #[.agg #[c,d,e],.bool false]) a) (cf 121 #[.pointer xa,iQ xb] b λa b=>Wc8 a λa=>nP a λa=>ldH b (Addr.add a 2) λc=>ldH b (Addr.add a 3) λd=>ldH b (Addr.add a 4) λa=>stH (Array.push b (.cells #[uQ 0,uQ 0,uQ 0] 179)) (aQ b.size) c λc=>stH c ⟨b.size,1,none⟩ d λc=>stH c ⟨b.size,2,none⟩ a λa=>bd 0 3 (lI .u64 a (aQ b.size) λc=>bd 1 3 (lI .u64 a ⟨b.size,1,none⟩ λd=>bd 2 3 (lI .u64 a ⟨b.size,2,none⟩ λb=>dw3 a h.size (iQ (IntKind.wrap .i64 c)) (.int .u32 (IntKind.wrap .u32 d)) (.int .u32 (IntKind.wrap .u32 b)) λa=>dl3 a h.size λb c d=>K (.tuple #[.agg #[b,c,d],.bool true]) a)))))))
theorem call68 {K:kQ} {h:Wa1} {xa:Option Addr} {xb:Int} (H:F68 K h xa xb):Wa4 Tryz.prog 68 #[(.pointer xa),(iQ xb)] h K:=
 cQ Tryz.func68 H
end
section
open Mod
abbrev qC (M f:Nat) (ins:Int):List Value:=[mP M,.func (.func f) #[] #[],iQ ins]
def suS (Q M f:Nat) (ins:Int) (Ts:List Nat) (m:Mac):Hp:=pt Q (.cells (qC M f ins).toArray 115)*Wv4 M Ts m
theorem Wt5 {h:Wa1} {Q M f:Nat} {ins:Int} {Ts:List Nat} {m:Mac} {R:Hp}:Sat h (suS Q M f ins Ts m*R)↔Sat h (pt Q (.cells (qC M f ins).toArray 115)*(Wv4 M Ts m*R)):=by
 unfold suS
 rw [Wc4]
theorem Wl0 {h:Wa1} {Q M f:Nat} {ins:Int} {Ts:List Nat} {m:Mac} {R:Hp}:Sat h (suS Q M f ins Ts m*R)↔Sat h (Wv4 M Ts m*(pt Q (.cells (qC M f ins).toArray 115)*R)):=by
 rw [Wt5,Wb8]
def WL5 (c:Cl):Bool:=c.op == 0 || ((c.op == 1 || c.op == 2) && (c.key == 0 && c.val == 0))
theorem W00 {h:Wa1} {M:Nat} {Ts:List Nat} {m:Mac} {R:Hp} (H:Sat h (Wv4 M Ts m*R)):Ts.length=m.th.length:=by
 obtain ⟨_,_,hl,_⟩:=Wi2.1 H
 exact hl.1
section
variable {K:kQ} {h:Wa1} {Q M f:Nat} {ins:Int} {Ts:List Nat} {m:Mac} {R:Hp}
theorem WB8 (H:Sat h (suS Q M f ins Ts m*R)) (k:K (mP M) h):Wa4 Tryz.prog 31 #[mP Q] h K:=by
 refine call31 ?_
 unfold F31 lP nP
 have H1:=Wt5.1 H
 refine Wb7 (λhh=>by cases hh) (λ_=>?_)
 refine sb ?_
 refine ldR H1.at rfl ?_
 refine sb ?_
 exact k
theorem Wl1 (H:Sat h (suS Q M f ins Ts m*R)) {i:Int} (k0:(i < 0\/m.th.length<=i)->K (.pointer none) h) (k:∀T,0<=i->Ts[i.toNat]? = some T->K (mP T) h) :
  Wa4 Tryz.prog 121 #[mP Q,iQ i] h K:=by
 refine call121 ?_
 unfold F121 cf
 refine Wa0 (WB8 H ?_)
 refine sb ?_
 refine Wa0 (WJ0 (Wl0.1 H) (λc=>?_) λT h0 hT=>?_)
 ·refine sb ?_
  exact k0 c
 ·refine sb ?_
  exact k T h0 hT
theorem Yl7 (H:Sat h (suS Q M f ins Ts m*R)) {k T:Nat} (hk:Ts[k]? = some T) (hlt:k < m.th.length) {F:kQ} (k0:(We2 m k).fr = []->F (.pointer none) h) (k1:∀b o,(We2 m k).fr≠[]->F (.pointer (some ⟨b,o,none⟩)) h) :
  Wa4 Tryz.prog 105 #[mP T] h F:=by
 obtain ⟨tv,Q2,H2,re2⟩:=Wu8 (Wl0.1 H) hk (Wi5 hlt)
 exact Y14 H2 (λe=>k0 e) λb o hne _ _=>k1 b o hne
theorem Wx4 (H:Sat h (suS Q M f ins Ts m*R)) {i:Nat} (hi:i < m.th.length) (k:K (.bool (!(We2 m i).fr.isEmpty)) h):Wa4 Tryz.prog 66 #[mP Q,iQ i] h K:=by
 refine call66 ?_
 unfold F66 cf
 refine Wa0 (Wl1 H (λc=>by omega) λT _ hT=>?_)
 refine sb ?_
 rw [Int.toNat_natCast] at hT
 refine Wa0 (Yl7 H hT hi (λe=>?_) λb o hne=>?_)
 ·refine sb ?_
  rw [e] at k
  exact k
 ·refine sb ?_
  cases e:(We2 m i).fr with
  | nil=>exact absurd e hne
  | cons a l=>rw [e] at k;exact k
theorem WC9 {c:Cl} (k:∀h',Old h.size h h'->K (.bool (WL5 c)) h'):Wa4 Tryz.prog 61 #[.agg #[iQ c.op,.int .u32 c.key,.int .u32 c.val]] h K:=by
 refine WM3 (c:=⟨c.op,c.key,c.val⟩) λh' o=>?_
 exact k h' o
theorem WK1 (H:Sat h (suS Q M f ins Ts m*R)) {k T:Nat} {op:Int} {c:Cl} (hk:Ts[k]? = some T) (hk2:k < m.th.length) (he:(We2 m k).fr = []) (hc:U c.key) (hv:U c.val) {F:kQ}
  (kk:∀h',Sat h' (suS Q M f ins Ts (m.setTh (m.th.set k ((We2 m k).push op [c.key,c.val])))*R)->F (.tuple #[]) h') :
  Wa4 Tryz.prog 130 #[mP T,iQ op,.slice (some (aQ h.size)) 2 2] (h.push (.cells #[uQ c.key,uQ c.val] 178)) F:=by
 obtain ⟨tv,Q2,H2,re2⟩:=Wu8 (Wl0.1 H) hk (Wi5 hk2)
 exact Yw1 H2 [c.key,c.val] rfl (Yy7 hc hv) (by omega) (by show (We2 m k).fr.length < _;rw [he];decide) λh' b o _ _ H3=>kk h' (Wl0.2 (re2 _ _ _ rfl (RunS.none H3)))
theorem W01 (H:Sat h (suS Q M f ins Ts m*R)) {i:Int} {c:Cl} (hins:0<=ins/\ins<=100) (hc:V c.key/\V c.val)
  (k2:(i < 0\/m.th.length<=i)->∀h',Sat h' (suS Q M f ins Ts m*R)->K (iQ 2) h')
  (k1:0<=i/\i < m.th.length->WL5 c=false->∀h',Sat h' (suS Q M f ins Ts m*R)->K (iQ 1) h')
  (k5:0<=i/\i < m.th.length->WL5 c=true->(We2 m i.toNat).fr≠[]->∀h',Sat h' (suS Q M f ins Ts m*R)->K (iQ 5) h')
  (k0:0<=i/\i < m.th.length->WL5 c=true->(We2 m i.toNat).fr = []->∀h',Sat h' (suS Q M f ins Ts (m.setTh (m.th.set i.toNat ((We2 m i.toNat).push (ins+c.op) [c.key,c.val])))*R)->K (iQ 0) h') :
  Wa4 Tryz.prog 77 #[mP Q,iQ i,.agg #[iQ c.op,.int .u32 c.key,.int .u32 c.val]] h K:=by
 refine call77 ?_
 unfold F77 g77 cf ce nP dl3
 have H1:=H.push (.cells (clc c).toArray 41)
 rw [show h.push (.cells #[iQ c.op,.int .u32 c.key,.int .u32 c.val] 41)=h.push (.cells (clc c).toArray 41) from rfl]
 generalize h.push (.cells (clc c).toArray 41)=h1 at *
 generalize h.size=CB at *
 rw [Wb8] at H1
 refine Wb7 (λhh=>by cases hh) (λ_=>?_)
 refine Wa0 (Wl1 H1 (λcc=>?_) λT h0 hT=>?_)
 ·refine sb ?_
  exact k2 cc h1 H1.drop2
 refine sb ?_
 have hT':=hT
 have hlen:=W00 (Wl0.1 H)
 have hlt:i.toNat < m.th.length:=by rw [<- hlen];exact (List.getElem?_eq_some_iff.1 hT).1
 have hir:0<=i/\i < m.th.length:=by omega
 have O:=H1.at2
 refine ldR O rfl (ldR O rfl (ldR O rfl ?_))
 refine Wa0 (WC9 λh2 o2=>?_)
 have H2:=H1.old o2
 clear H1 O
 refine sb ?_
 refine Wb7 (λhr=>k1 hir (by simpa using hr) h2 H2.drop2) (λhr=>?_)
 have hr:WL5 c=true:=by simpa using hr
 obtain ⟨ii,hii⟩ : ∃ii:Nat,i=ii:=⟨i.toNat,by omega⟩
 subst hii
 rw [Int.toNat_natCast] at *
 refine Wa0 (Wx4 H2 hlt ?_)
 refine sb ?_
 refine Wb7 (λhb=>k5 hir hr (λe=>by rw [e] at hb;cases hb) h2 H2.drop2) (λhb=>?_)
 have he:(We2 m ii).fr = []:=by
  cases e:(We2 m ii).fr with
  | nil=>rfl
  | cons a l=>rw [e] at hb;cases hb
 have hop:0<=c.op/\c.op<=2:=by
  unfold WL5 at hr
  simp only [Bool.or_eq_true,Bool.and_eq_true,beq_iff_eq] at hr
  omega
 obtain ⟨hkey,hval⟩:=hc
 have hu1:Mod.u64 c.key=c.key:=by have:=hkey.1;have:=hkey.2;unfold Mod.u64;omega
 have hu2:Mod.u64 c.val=c.val:=by have:=hval.1;have:=hval.2;unfold Mod.u64;omega
 have hu3:s64 (ins+c.op)=ins+c.op:=by unfold s64;omega
 have OQ:=(Wt5.1 H2).at
 have OC:=H2.at2
 refine ldR OQ rfl ?_
 refine sb ?_
 refine ldR OC rfl ?_
 refine sb ?_
 refine ldR OC rfl ?_
 refine sb ?_
 refine ldR OC rfl ?_
 try simp only [Wc5,bsx,Nat.reduceAdd,Int.reduceLE,Int.reduceLT,Int.reduceToNat,hu1,hu2,hu3]
 refine ⟨?_,?_⟩
 ·refine Wa0 (Wl1 H2 (λcc=>by omega) λT2 _ hT2=>?_)
  rw [Int.toNat_natCast,hT] at hT2
  cases hT2
  refine sb ?_
  repeat (first | refine ⟨Wc3 (Wd3 OC rfl),?_⟩ | refine ⟨Wc3 (Wd3 OQ rfl),?_⟩ | refine ⟨Wd3 OC rfl,?_⟩ | refine ⟨Wd3 OQ rfl,?_⟩)
  refine Wa0 (WK1 H2 hT hlt he ⟨hkey.1,by have:=hkey.2;omega⟩ ⟨hval.1,by have:=hval.2;omega⟩ λh3 H3=>?_)
  exact k0 hir hr he h3 H3.drop2
 ·repeat (first | refine ⟨Wc3 (Wd3 OC rfl),?_⟩ | refine ⟨Wc3 (Wd3 OQ rfl),?_⟩ | refine ⟨Wd3 OC rfl,?_⟩ | refine ⟨Wd3 OQ rfl,?_⟩)
  have H3:=H2.push (.cells (uvs [c.key,c.val]).toArray 178)
  rw [Wb8] at H3
  have OC3:=H3.at3
  have OQ3:=(Wt5.1 H3).at
  have e:h2.push (.cells #[uQ c.key,uQ c.val] 178)=h2.push (.cells (uvs [c.key,c.val]).toArray 178):=rfl
  rw [e]
  refine Wa0 (Wl1 H3 (λcc=>by omega) λT2 _ hT2=>?_)
  rw [Int.toNat_natCast,hT] at hT2
  cases hT2
  refine sb ?_
  rw [<- e]
  repeat (first | refine ⟨Wc3 (Wd3 OC rfl),?_⟩ | refine ⟨Wc3 (Wd3 OQ rfl),?_⟩)
  refine Wa0 (WK1 H2 hT hlt he ⟨hkey.1,by have:=hkey.2;omega⟩ ⟨hval.1,by have:=hval.2;omega⟩ λh3 H3=>?_)
  exact k0 hir hr he h3 H3.drop2
variable {d:Run->Run} {W:Run->Prop} {Inv:Nat->Mac->Prop}
theorem W78 (D:DoC f d W) (H:Sat h (suS Q M f ins Ts m*R)) {i n:Nat} {z:Run} (hi:i < m.th.length) (he:(We2 m i).fr≠[])
  (hz:Mod.bits d n ⟨m.quiet,We2 m i,i⟩=some z) (hs:YX5 d W n ⟨m.quiet,We2 m i,i⟩) (hid:z.id=i)
  (k1:z.t.fr≠[]->∀h',Sat h' (suS Q M f ins Ts (z.m.setTh (m.th.set i z.t))*R)->K (.tuple #[.agg #[iQ 0,.int .u32 0,.int .u32 0],.bool false]) h')
  (k0:z.t.fr = []->∀h',Sat h' (suS Q M f ins Ts (z.m.setTh (m.th.set i z.t))*R)->K (.tuple #[.agg #[iQ (Yy9 z.t).op,.int .u32 (Yy9 z.t).key,.int .u32 (Yy9 z.t).val],.bool true]) h') :
  Wa4 Tryz.prog 68 #[mP Q,iQ i] h K:=by
 refine call68 ?_
 unfold F68 cf bd lP lI nP dl3 dw3
 have H1:=H.push (.cells #[iQ 0,.int .u32 0,.int .u32 0] 43)
 generalize h.push (.cells #[iQ 0,.int .u32 0,.int .u32 0] 43)=h1 at *
 generalize h.size=AB at *
 have hlen:=W00 (Wl0.1 H)
 obtain ⟨T,hT⟩ : ∃T,Ts[i]? = some T:=⟨_,List.getElem?_eq_getElem (by omega)⟩
 have hthr:We2 (z.m.setTh (m.th.set i z.t)) i=z.t:=WK0 hi
 have hl2:(z.m.setTh (m.th.set i z.t)).th.length=m.th.length:=by show (m.th.set i z.t).length=_;rw [List.length_set]
 refine ⟨λvs h'=>vs = [.bool (!z.t.fr.isEmpty)]/\Sat h' (suS Q M f ins Ts (z.m.setTh (m.th.set i z.t))*(pt AB (.cells #[iQ 0,.int .u32 0,.int .u32 0] 43)*R)),?_,?_⟩
 ·rw [Wb8] at H1
  refine Wa0 (Wx4 H1 hi ?_)
  refine sb ?_
  refine Wb7 (λhb=>?_) (λ_=>?_)
  ·exact absurd (List.isEmpty_iff.1 (by simpa using hb)) he
  have OQ:=(Wt5.1 H1).at
  refine ldR OQ rfl ?_
  refine sb ?_
  refine ldR OQ rfl ?_
  refine Wa0 (WT1 D (Wl0.1 H1) (n:=n) (z:=z) (i:=i) (by omega) (by rw [Int.toNat_natCast];exact Wi5 hi) hz hs hid λh' H2=>?_)
  rw [Int.toNat_natCast] at H2
  refine sb ?_
  first | exact ⟨rfl,Wl0.2 H2⟩ | exact Wl0.2 H2
 generalize z.m.setTh (m.th.set i z.t)=m2 at *
 rintro v12 g13 h14 ⟨e,H2⟩
 cases e
 refine sb ?_
 refine Wb7 (λhb=>?_) (λhb=>?_)
 ·have hne:z.t.fr≠[]:=λe=>by rw [e] at hb;cases hb
  rw [Wb8] at H2
  refine We3 (vs:=[iQ 0,.int .u32 0,.int .u32 0]) H2.at rfl (by simp [Wh0]) λh2 w=>?_
  have H3:=H2.wr w.new w.old
  refine ldR H3.at rfl (ldR H3.at rfl (ldR H3.at rfl ?_))
  exact k1 hne h2 H3.drop
 ·have hnil:z.t.fr = []:=by
   cases e:z.t.fr with
   | nil=>rfl
   | cons a l=>rw [e] at hb;cases hb
  refine Wa0 (Wl1 H2 (λcc=>by omega) λT2 _ hT2=>?_)
  rw [Int.toNat_natCast,hT] at hT2
  cases hT2
  refine sb ?_
  obtain ⟨tv,Q2,H3,re⟩:=Wu8 (Wl0.1 H2) hT (Wi5 (by omega))
  rw [hthr] at H3
  obtain ⟨B,O⟩:=WS2 (RunS.thr H3)
  refine ldR O rfl (ldR O rfl (ldR O rfl ?_))
  have H4:=H2.push (.cells #[uQ 0,uQ 0,uQ 0] 179)
  generalize h14.push (.cells #[uQ 0,uQ 0,uQ 0] 179)=h15 at *
  generalize h14.size=RB at *
  refine We3 (vs:=[uQ (z.t.ret.getD 0 0),uQ (z.t.ret.getD 1 0),uQ (z.t.ret.getD 2 0)]) H4.at rfl (by simp [Wh0]) λh16 w=>?_
  have H5:=H4.wr w.new w.old
  refine ldR H5.at rfl ?_
  refine sb ?_
  refine ldR H5.at rfl ?_
  refine sb ?_
  refine ldR H5.at rfl ?_
  try simp only [Wc5,bsx,Nat.reduceAdd,Int.reduceLE,Int.reduceLT,Int.reduceToNat,Yj6]
  have H6:Sat h16 (pt AB (.cells #[iQ 0,.int .u32 0,.int .u32 0] 43)*(suS Q M f ins Ts m2*R)):=by
   have:=H5.drop
   rw [Wb8] at this
   exact this
  refine We3 (vs:=[iQ (s64 (z.t.ret.getD 0 0)),.int .u32 (u32 (z.t.ret.getD 1 0)),.int .u32 (u32 (z.t.ret.getD 2 0))]) H6.at rfl (by simp [Wh0]) λh17 w2=>?_
  have H7:=H6.wr w2.new w2.old
  refine ldR H7.at rfl (ldR H7.at rfl (ldR H7.at rfl ?_))
  exact k0 hnil h17 H7.drop
end
end
end Go.Proofs.YtahpbclnkofhfaaGreat
section
namespace Go.Proofs.YtahpbclnkofhfaaGreat.Mod
inductive Lo:Run->Run->Prop
 | refl (x:Run):Lo x x
 | load {x y:Run} {a:Int} (h:Lo x y):Lo x (y.load a).2
 | store {x y:Run} {a v:Int} (h:Lo x y):Lo x (y.store a v)
 | cas {x y:Run} {a o v:Int} (h:Lo x y):Lo x (y.cas a o v).2
 | add {x y:Run} {a v:Int} (h:Lo x y):Lo x (y.add a v).2
 | swing {x y:Run} {a w p:Int} {b:Bool} (h:Lo x y):Lo x (y.swing a w p b).2
 | swingA {x y:Run} {a w p:Int} (h:Lo x y):Lo x (y.swingA a w p).2
 | swingM {x y:Run} {a w p:Int} {b:Bool} (h:Lo x y):Lo x (y.swingM a w p b).2
 | drop1 {x y:Run} {a:Int} (h:Lo x y):Lo x (y.drop1 a).2
 | guard {x y:Run} {a b:Int} (h:Lo x y):Lo x (y.guard a b)
 | gh {x y:Run} {f:Gh->Gh} (h:Lo x y):Lo x (y.gh f)
 | s {x y:Run} {i:Nat} {v:Int} (h:Lo x y):Lo x (y.s i v)
 | pc {x y:Run} {i:Int} (h:Lo x y):Lo x (y.pc i)
 | fo {x y:Run} {l:List Int} (h:Lo x y):Lo x (y.fo l)
 | re {x y:Run} {l:List Int} (h:Lo x y):Lo x (y.re l)
 | setPl {x y:Run} {p s w:List Int} (h:Lo x y):Lo x (y.setPl p s w)
 | next {x y:Run} {k:Int} (h:Lo x y):Lo x { y with m:=(y.m.next k).2 }
 | lvl {x y:Run} {k:Int} (h:Lo x y):Lo x { y with m:=(y.m.lvl k).2 }
 | dcas {x y:Run} {a o v b p q:Int} (h:Lo x y):Lo x { y with m:=(y.m.dcas a o v b p q).2 }
 | dcss {x y:Run} {a o v b p:Int} (h:Lo x y):Lo x { y with m:=(y.m.dcss a o v b p).2 }
inductive Tch:Run->Prop
 | load {y:Run} {a:Int}:Tch (y.load a).2
 | store {y:Run} {a v:Int}:Tch (y.store a v)
 | cas {y:Run} {a o v:Int}:Tch (y.cas a o v).2
 | add {y:Run} {a v:Int}:Tch (y.add a v).2
 | swing {y:Run} {a w p:Int} {b:Bool}:Tch (y.swing a w p b).2
 | swingA {y:Run} {a w p:Int}:Tch (y.swingA a w p).2
 | swingM {y:Run} {a w p:Int} {b:Bool}:Tch (y.swingM a w p b).2
 | drop1 {y:Run} {a:Int}:Tch (y.drop1 a).2
 | guard {y:Run} {a b:Int}:Tch (y.guard a b)
 | dcas {y:Run} {a o v b p q:Int}:Tch { y with m:=(y.m.dcas a o v b p q).2 }
 | dcss {y:Run} {a o v b p:Int}:Tch { y with m:=(y.m.dcss a o v b p).2 }
 | s {y:Run} {i:Nat} {v:Int} (h:Tch y):Tch (y.s i v)
 | pc {y:Run} {i:Int} (h:Tch y):Tch (y.pc i)
 | gh {y:Run} {f:Gh->Gh} (h:Tch y):Tch (y.gh f)
 | fo {y:Run} {l:List Int} (h:Tch y):Tch (y.fo l)
 | re {y:Run} {l:List Int} (h:Tch y):Tch (y.re l)
 | setPl {y:Run} {p s w:List Int} (h:Tch y):Tch (y.setPl p s w)
 | next {y:Run} {k:Int} (h:Tch y):Tch { y with m:=(y.m.next k).2 }
 | lvl {y:Run} {k:Int} (h:Tch y):Tch { y with m:=(y.m.lvl k).2 }
 | push {y:Run} {i:Int} {r:List Int} (h:Tch y):Tch (y.push i r)
 | pop {y:Run} {r:List Int} (h:Tch y):Tch (y.pop r)
 | call {y:Run} {i j:Int} {r:List Int} (h:Tch y):Tch (y.call i j r)
 | fin {y:Run} {i j k:Int} (h:Tch y):Tch (y.fin i j k)
inductive St:Nat->Run->Run->Prop
 | refl {n:Nat} (x:Run):St n x x
 | load {n:Nat} {x y:Run} {a:Int} (h:St n x y):St (n+1) x (y.load a).2
 | store {n:Nat} {x y:Run} {a v:Int} (h:St n x y):St (n+1) x (y.store a v)
 | cas {n:Nat} {x y:Run} {a o v:Int} (h:St n x y):St (n+1) x (y.cas a o v).2
 | add {n:Nat} {x y:Run} {a v:Int} (h:St n x y):St (n+1) x (y.add a v).2
 | dcas {n:Nat} {x y:Run} {a o v b p q:Int} (h:St n x y):St (n+1) x { y with m:=(y.m.dcas a o v b p q).2 }
 | dcss {n:Nat} {x y:Run} {a o v b p:Int} (h:St n x y):St (n+1) x { y with m:=(y.m.dcss a o v b p).2 }
 | next {n:Nat} {x y:Run} {k:Int} (h:St n x y):St (n+1) x { y with m:=(y.m.next k).2 }
 | lvl {n:Nat} {x y:Run} {k:Int} (h:St n x y):St (n+1) x { y with m:=(y.m.lvl k).2 }
 | gh {n:Nat} {x y:Run} {f:Gh->Gh} (h:St n x y):St n x (y.gh f)
 | s {n:Nat} {x y:Run} {i:Nat} {v:Int} (h:St n x y):St (n+1) x (y.s i v)
 | pc {n:Nat} {x y:Run} {i:Int} (h:St n x y):St (n+1) x (y.pc i)
 | push {n:Nat} {x y:Run} {i:Int} {r:List Int} (h:St n x y):St (n+1) x (y.push i r)
 | pop {n:Nat} {x y:Run} {r:List Int} (h:St n x y):St n x (y.pop r)
 | fo {n:Nat} {x y:Run} {l:List Int} (hl:l.length<=y.t.found.length+1) (h:St n x y):St (n+1) x (y.fo l)
 | re {n:Nat} {x y:Run} {l:List Int} (hl:l.length<=y.t.retired.length+1) (h:St n x y):St (n+1) x (y.re l)
 | part {n:Nat} {x y:Run} {p:Int->Bool} (h:St n x y):St (n+1) x ((y.re (y.t.retired.filter p)).fo (y.t.retired.filter λn=>!p n))
 | setPl {n:Nat} {x y:Run} {p s w:List Int} (h1:p.length=y.t.pred.length) (h2:s.length=y.t.succ.length) (h3:w.length=y.t.word.length) (h:St n x y):St n x (y.setPl p s w)
 | up {n k:Nat} {x y:Run} (h:St n x y):St (n+k) x y
section
variable {x y:Run} {n:Nat}
theorem St.swing {a w p:Int} {b:Bool} (h:St n x y):St (n+1) x (y.swing a w p b).2:=St.cas h
theorem St.swingA {a w p:Int} (h:St n x y):St (n+1) x (y.swingA a w p).2:=St.cas h
theorem St.swingM {a w p:Int} {b:Bool} (h:St n x y):St (n+1) x (y.swingM a w p b).2:=St.cas h
theorem St.drop1 {a:Int} (h:St n x y):St (n+1) x (y.drop1 a).2:=St.add h
theorem St.guard {a b:Int} (h:St n x y):St (n+1) x (y.guard a b):=St.store h
theorem St.call {i j:Int} {r:List Int} (h:St n x y):St (n+2) x (y.call i j r):=St.push (St.pc h)
theorem St.fin {i j k:Int} (h:St n x y):St (n+5) x (y.fin i j k):=St.call (St.s (St.s (St.s h)))
end
structure Fix (x y:Run):Prop where
 p:y.m.p=x.m.p
 id:y.id=x.id
 th:y.m.th=x.m.th
 b:y.m.b=x.m.b
 w:y.m.mm.w.length=x.m.mm.w.length
 pr:y.t.pred.length=x.t.pred.length
 su:y.t.succ.length=x.t.succ.length
 wo:y.t.word.length=x.t.word.length
structure FixM (m n:Mac):Prop where
 p:n.p=m.p
 th:n.th=m.th
 b:n.b=m.b
 w:n.mm.w.length=m.mm.w.length
 st:n.mm.st<=m.mm.st+1
 us:n.used<=m.used+1
theorem FixM.touch (m:Mac) (a:Int):FixM m (m.touch a)/\(m.touch a).mm=m.mm/\(m.touch a).used=m.used:=by
 unfold Mac.touch
 split <;> exact ⟨⟨rfl,rfl,rfl,rfl,by show m.mm.st<=_;omega,by show m.used<=_;omega⟩,rfl,rfl⟩
theorem FixM.of {m n k:Mac} (h:FixM m n) (hn:n.mm=m.mm/\n.used=m.used) (e:k.p=n.p/\k.th=n.th/\k.b=n.b/\k.used=n.used) (ew:k.mm.w.length=n.mm.w.length) (es:k.mm.st<=n.mm.st+1):FixM m k:=
 ⟨e.1.trans h.p,e.2.1.trans h.th,e.2.2.1.trans h.b,ew.trans h.w,by rw [<- hn.1];exact es,by rw [e.2.2.2,hn.2];omega⟩
theorem FixM.load (m:Mac) (a:Int):FixM m (m.load a).2:=by
 have t:=FixM.touch m a
 unfold Mac.load;dsimp only
 split
 ·exact t.1.of t.2 ⟨rfl,rfl,rfl,rfl⟩ rfl (Int.le_refl _)
 ·exact t.1.of t.2 ⟨rfl,rfl,rfl,rfl⟩ rfl (by show (m.touch a).mm.st<=_;omega)
theorem FixM.store (m:Mac) (a v:Int):FixM m (m.store a v):=by
 have t:=FixM.touch m a
 unfold Mac.store;dsimp only
 split
 ·exact t.1.of t.2 ⟨rfl,rfl,rfl,rfl⟩ (by show (List.set _ _ _).length=_;rw [List.length_set];rfl) (Int.le_refl _)
 ·exact t.1.of t.2 ⟨rfl,rfl,rfl,rfl⟩ rfl (by show (m.touch a).mm.st<=_;omega)
theorem FixM.add (m:Mac) (a v:Int):FixM m (m.add a v).2:=by
 have t:=FixM.touch m a
 unfold Mac.add;dsimp only
 split
 ·exact t.1.of t.2 ⟨rfl,rfl,rfl,rfl⟩ (by show (List.set _ _ _).length=_;rw [List.length_set];rfl) (Int.le_refl _)
 ·exact t.1.of t.2 ⟨rfl,rfl,rfl,rfl⟩ rfl (by show (m.touch a).mm.st<=_;omega)
theorem Y28 (m:Mm) (a o n:Int):(m.cas a o n).st=m.st+1/\(m.cas a o n).w.length=m.w.length:=by unfold Mm.cas;split <;> exact ⟨rfl,by simp [Mm.tick,Mm.put]⟩
theorem YV1 (m:Mm) (a o n b p q:Int):(m.dcas a o n b p q).st=m.st+1/\(m.dcas a o n b p q).w.length=m.w.length:=by unfold Mm.dcas;split <;> exact ⟨rfl,by simp [Mm.tick,Mm.put]⟩
theorem YV2 (m:Mm) (a o n b p:Int):(m.dcss a o n b p).st=m.st+1/\(m.dcss a o n b p).w.length=m.w.length:=by unfold Mm.dcss;split <;> exact ⟨rfl,by simp [Mm.tick,Mm.put]⟩
theorem FixM.cas (m:Mac) (a o n:Int):FixM m (m.cas a o n).2:=by
 have t:=FixM.touch m a
 have h:=Y28 (m.touch a).mm a o n
 unfold Mac.cas;dsimp only
 split
 ·exact t.1.of t.2 ⟨rfl,rfl,rfl,rfl⟩ h.2 (by show ((m.touch a).mm.cas a o n).st<=_;omega)
 ·exact t.1.of t.2 ⟨rfl,rfl,rfl,rfl⟩ rfl (by show (m.touch a).mm.st<=_;omega)
theorem FixM.touch2 (m:Mac) (a b:Int):FixM m ((m.touch a).touch b)/\((m.touch a).touch b).mm=m.mm/\((m.touch a).touch b).used=m.used:=by
 have t:=FixM.touch m a
 have t2:=FixM.touch (m.touch a) b
 have e1:=t2.2.1.trans t.2.1
 have e2:=t2.2.2.trans t.2.2
 exact ⟨⟨t2.1.p.trans t.1.p,t2.1.th.trans t.1.th,t2.1.b.trans t.1.b,t2.1.w.trans t.1.w,by rw [e1];omega,by rw [e2];omega⟩,e1,e2⟩
theorem FixM.dcas (m:Mac) (a o n b p q:Int):FixM m (m.dcas a o n b p q).2:=by
 have t:=FixM.touch2 m a b
 have h:=YV1 ((m.touch a).touch b).mm a o n b p q
 unfold Mac.dcas;dsimp only
 split
 ·exact t.1.of t.2 ⟨rfl,rfl,rfl,rfl⟩ h.2 (by show (((m.touch a).touch b).mm.dcas a o n b p q).st<=_;omega)
 ·exact t.1.of t.2 ⟨rfl,rfl,rfl,rfl⟩ rfl (by show ((m.touch a).touch b).mm.st<=_;omega)
theorem FixM.dcss (m:Mac) (a o n b p:Int):FixM m (m.dcss a o n b p).2:=by
 have t:=FixM.touch2 m a b
 have h:=YV2 ((m.touch a).touch b).mm a o n b p
 unfold Mac.dcss;dsimp only
 split
 ·exact t.1.of t.2 ⟨rfl,rfl,rfl,rfl⟩ h.2 (by show (((m.touch a).touch b).mm.dcss a o n b p).st<=_;omega)
 ·exact t.1.of t.2 ⟨rfl,rfl,rfl,rfl⟩ rfl (by show ((m.touch a).touch b).mm.st<=_;omega)
theorem FixM.refl (m:Mac):FixM m m:=⟨rfl,rfl,rfl,rfl,by omega,by omega⟩
theorem FixM.next (m:Mac) (n:Int):FixM m (m.next n).2:=by
 unfold Mac.next
 split
 ·exact FixM.refl m
 ·exact ⟨rfl,rfl,rfl,rfl,by show m.mm.st<=_;omega,Int.le_refl _⟩
theorem FixM.lvl (m:Mac) (n:Int):FixM m (m.lvl n).2:=by
 unfold Mac.lvl
 split
 ·exact FixM.refl m
 ·exact ⟨rfl,rfl,rfl,rfl,by show m.mm.st<=_;omega,Int.le_refl _⟩
theorem Fix.m {x y:Run} {m:Mac} (h:Fix x y) (e:FixM y.m m):Fix x { y with m:=m }:=⟨e.p.trans h.p,h.id,e.th.trans h.th,e.b.trans h.b,e.w.trans h.w,h.pr,h.su,h.wo⟩
theorem Fix.t {x y:Run} {t:Thr} (h:Fix x y) (h1:t.pred.length=y.t.pred.length) (h2:t.succ.length=y.t.succ.length) (h3:t.word.length=y.t.word.length):Fix x { y with t:=t }:=⟨h.p,h.id,h.th,h.b,h.w,h1.trans h.pr,h2.trans h.su,h3.trans h.wo⟩
theorem Thr.pop_pl (t:Thr) (r:List Int):(t.pop r).pred=t.pred/\(t.pop r).succ=t.succ/\(t.pop r).word=t.word:=by unfold Thr.pop;split <;> exact ⟨rfl,rfl,rfl⟩
theorem St.fix {n:Nat} {x y:Run} (h:St n x y):Fix x y:=by
 induction h with
 | refl x=>exact ⟨rfl,rfl,rfl,rfl,rfl,rfl,rfl,rfl⟩
 | load _ ih=>exact ih.m (FixM.load _ _)
 | store _ ih=>exact ih.m (FixM.store _ _ _)
 | cas _ ih=>exact ih.m (FixM.cas _ _ _ _)
 | add _ ih=>exact ih.m (FixM.add _ _ _)
 | dcas _ ih=>exact ih.m (FixM.dcas _ _ _ _ _ _ _)
 | dcss _ ih=>exact ih.m (FixM.dcss _ _ _ _ _ _)
 | next _ ih=>exact ih.m (FixM.next _ _)
 | lvl _ ih=>exact ih.m (FixM.lvl _ _)
 | gh _ ih=>exact ih.m ⟨rfl,rfl,rfl,rfl,by show Mm.st _<=_;exact Int.le_add_one (Int.le_refl _),by show Mac.used _<=_;exact Int.le_add_one (Int.le_refl _)⟩
 | s _ ih=>exact ih.t rfl rfl rfl
 | pc _ ih=>exact ih.t rfl rfl rfl
 | push _ ih=>exact ih.t rfl rfl rfl
 | pop _ ih=>exact ih.t (by rw [(Thr.pop_pl _ _).1]) (by rw [(Thr.pop_pl _ _).2.1]) (by rw [(Thr.pop_pl _ _).2.2])
 | fo _ _ ih=>exact ih.t rfl rfl rfl
 | re _ _ ih=>exact ih.t rfl rfl rfl
 | part _ ih=>exact ih.t rfl rfl rfl
 | setPl h1 h2 h3 _ ih=>exact ih.t h1 h2 h3
 | up _ ih=>exact ih
def Run.P (x:Run):Nat:=x.m.mm.st.toNat+x.m.used.toNat+x.t.retired.length+x.t.found.length+x.t.fr.length
theorem Y29 (p:Int->Bool):∀l:List Int,(l.filter p).length+(l.filter λn=>!p n).length=l.length
 | []=>rfl
 | a :: l=>by
  have ih:=Y29 p l
  cases h:p a <;> simp [List.filter_cons,h] <;> omega
theorem P_m {x:Run} {m:Mac} (h:FixM x.m m):({ x with m:=m }:Run).P<=x.P+2:=by
 have h1:=h.st
 have h2:=h.us
 unfold Run.P
 dsimp only
 omega
theorem YQ6 (x:Run) (f:Frm):(x.setF f).P<=x.P+2:=by
 unfold Run.P
 show x.m.mm.st.toNat+x.m.used.toNat+x.t.retired.length+x.t.found.length+(x.t.fr.dropLast ++ [f]).length<=_
 simp
 omega
theorem St.P {n:Nat} {x y:Run} (h:St n x y):y.P<=x.P+2*n:=by
 induction h with
 | refl x=>omega
 | @load _ _ y a _ ih=>have:=P_m (x:=y) (FixM.load y.m a);exact Nat.le_trans this (by omega)
 | @store _ _ y a v _ ih=>have:=P_m (x:=y) (FixM.store y.m a v);exact Nat.le_trans this (by omega)
 | @cas _ _ y a o v _ ih=>have:=P_m (x:=y) (FixM.cas y.m a o v);exact Nat.le_trans this (by omega)
 | @add _ _ y a v _ ih=>have:=P_m (x:=y) (FixM.add y.m a v);exact Nat.le_trans this (by omega)
 | @dcas _ _ y a o v b p q _ ih=>have:=P_m (x:=y) (FixM.dcas y.m a o v b p q);exact Nat.le_trans this (by omega)
 | @dcss _ _ y a o v b p _ ih=>have:=P_m (x:=y) (FixM.dcss y.m a o v b p);exact Nat.le_trans this (by omega)
 | @next _ _ y k _ ih=>have:=P_m (x:=y) (FixM.next y.m k);exact Nat.le_trans this (by omega)
 | @lvl _ _ y k _ ih=>have:=P_m (x:=y) (FixM.lvl y.m k);exact Nat.le_trans this (by omega)
 | @gh _ _ y f _ ih=>have:(y.gh f).P=y.P:=rfl;omega
 | @s _ _ y i v _ ih=>have:=YQ6 y (y.f.s i v);exact Nat.le_trans this (by omega)
 | @pc _ _ y i _ ih=>have:=YQ6 y (y.f.at i);exact Nat.le_trans this (by omega)
 | @push _ _ y i r _ ih=>
  have:(y.push i r).P=y.P+1:=by
   unfold Run.P
   show y.m.mm.st.toNat+y.m.used.toNat+y.t.retired.length+y.t.found.length+(y.t.fr ++ [_]).length=_
   simp
   omega
  omega
 | @pop _ _ y r _ ih=>
  have:(y.pop r).P<=y.P:=by
   unfold Run.P Run.pop Thr.pop
   split
   ·exact Nat.le_refl _
   ·dsimp only
    simp
  omega
 | @fo _ _ y l hl _ ih=>
  have:(y.fo l).P<=y.P+1:=by
   unfold Run.P
   show y.m.mm.st.toNat+y.m.used.toNat+y.t.retired.length+l.length+y.t.fr.length<=_
   omega
  omega
 | @re _ _ y l hl _ ih=>
  have:(y.re l).P<=y.P+1:=by
   unfold Run.P
   show y.m.mm.st.toNat+y.m.used.toNat+l.length+y.t.found.length+y.t.fr.length<=_
   omega
  omega
 | @part _ _ y p _ ih=>
  have h:=Y29 p y.t.retired
  have:((y.re (y.t.retired.filter p)).fo (y.t.retired.filter λn=>!p n)).P<=y.P:=by
   unfold Run.P
   show y.m.mm.st.toNat+y.m.used.toNat+(y.t.retired.filter p).length+(y.t.retired.filter λn=>!p n).length+y.t.fr.length<=_
   omega
  omega
 | @setPl _ _ y p s w _ _ _ _ ih=>have:(y.setPl p s w).P=y.P:=rfl;omega
 | up _ ih=>omega
theorem YJ4 (x:Run):St 12 x (alloc x):=by
 unfold alloc;dsimp only
 repeat' split
 all_goals exact Wp2
theorem Yl8 (x:Run):St 12 x (Wo1 x):=by
 unfold Wo1;dsimp only
 repeat' split
 all_goals exact Wp2
theorem Yl9 (x:Run):St 12 x (Wo2 x):=by
 unfold Wo2
 repeat' split
 ·exact Wp2
 ·exact YJ4 x
 ·exact Yl8 x
 ·exact Wp2
theorem Ym0 (x:Run):St 12 x (Wo3 x):=by
 unfold Wo3;dsimp only
 repeat' split
 all_goals exact Wp2
theorem YV3 (x:Run):St 12 x (Yt9 x):=by
 unfold Yt9;dsimp only
 repeat' split
 all_goals exact Wp2
theorem Yz2 (x:Run):St 12 x (Wt2 x):=by
 unfold Wt2;dsimp only
 have h2:St 2 x ((x.gh λg=>g.turn (s64 (x.f.g 0)) 1 2 2).re ((x.gh λg=>g.turn (s64 (x.f.g 0)) 1 2 2).t.retired ++ [s64 (x.f.g 0)])):=St.re (by simp) (St.gh (St.refl _))
 split
 ·exact St.up (k:=9) (St.push (St.pop h2))
 ·exact St.up (k:=10) (St.pop h2)
theorem YJ5 {x y:Run} {N:Nat} (all:Int) (h:St N x y):St (N+2) x (Wv3 y all):=by
 unfold Wv3
 split
 ·exact St.pc (St.part h)
 ·exact St.up (k:=2) h
theorem YJ6 {x y:Run} {N:Nat} (h:St N x y):St (N+2) x (WR5 y):=by
 unfold WR5
 split
 ·exact St.up (k:=2) (St.pop h)
 ·rename_i n rest e
  exact St.push (St.fo (by rw [e];simp;omega) h)
theorem YV4 (x:Run):St 12 x (scan x):=by
 have h0:St 1 x (if x.f.pc=0 then x.fo [] else x):=by
  split
  ·exact St.fo (by simp) (St.refl _)
  ·exact St.refl _
 unfold scan
 dsimp only
 generalize (if x.f.pc=0 then x.fo [] else x)=y at *
 split
 ·exact St.up (k:=8) (St.pc (St.fo (by simp) (St.load h0)))
 ·exact St.up (k:=7) (YJ6 (YJ5 _ h0))
theorem W79 (x:Run):St 12 x (Wk7 x):=by
 unfold Wk7
 repeat' split
 ·exact Wp2
 ·exact Ym0 x
 ·exact YV3 x
 ·exact Yz2 x
 ·exact YV4 x
 ·exact Yl9 x
theorem YJ7 (x:Run):St 12 x (WH0 x):=by
 unfold WH0;dsimp only
 repeat' split
 all_goals exact Wp2
theorem YJ8 (x:Run):St 12 x (WH2 x):=by
 unfold WH2;dsimp only
 repeat' split
 all_goals exact Wp2
theorem W80 (x:Run):St 12 x (Wk8 x):=by
 unfold Wk8 WH1;dsimp only
 repeat' split
 all_goals exact Wp2
theorem YJ9 (x:Run):St 12 x (WH3 x):=by
 unfold WH3 WH1;dsimp only
 repeat' split
 all_goals exact Wp2
theorem YV5 (x:Run):St 12 x (Yu1 x):=by
 unfold Yu1 WR6;dsimp only
 repeat' split
 all_goals exact Wp2
theorem YK0 (x:Run):St 12 x (WH4 x):=by
 unfold WH4
 try dsimp only
 repeat' split
 all_goals first | with_reducible exact YJ8 x | with_reducible exact W80 x | with_reducible exact YJ9 x | with_reducible exact YV5 x | exact Wp2
theorem YK1 (x:Run):St 12 x (WB1 x):=by
 unfold WB1;dsimp only
 repeat' split
 all_goals exact Wp2
theorem YK2 (x:Run):St 12 x (WB2 x):=by
 unfold WB2;dsimp only
 repeat' split
 all_goals first | with_reducible exact YK1 x | exact Wp2
theorem Ye7 (x:Run):St 12 x (WD5 x):=by
 unfold WD5;dsimp only
 repeat' split
 all_goals exact Wp2
theorem YK3 (x:Run):St 12 x (WH5 x):=by
 unfold WH5;dsimp only
 repeat' split
 all_goals first | with_reducible exact Ye7 x | exact Wp2
theorem W02 (x:Run) (a:Nat) (i j:Int):St 5 x (Wm6 x a i j):=by
 unfold Wm6;dsimp only
 repeat' split
 all_goals exact Wp2
theorem YK4 (x:Run) (a:Nat) (j:Int):St 12 x (WD6 x a j):=by
 unfold WD6;dsimp only
 repeat' split
 all_goals exact Wp2
theorem YK5 (x:Run):St 12 x (WH6 x):=by
 unfold WH6;dsimp only
 repeat' split
 all_goals first | with_reducible exact St.up (k:=7) (W02 _ _ _ _) | with_reducible exact St.up (k:=5) (St.call (W02 _ _ _ _)) | with_reducible exact YK4 _ _ _ | with_reducible exact Ye7 x | with_reducible exact YK3 x | exact Wp2
theorem Ym1 (x:Run):St 12 x (Wg0 x):=by
 unfold Wg0
 try dsimp only
 repeat' split
 all_goals first | with_reducible exact YJ7 x | with_reducible exact YK0 x | with_reducible exact YK2 x | with_reducible exact YK5 x | with_reducible exact W79 x | exact Wp2
end Go.Proofs.YtahpbclnkofhfaaGreat.Mod
end
namespace Go.Proofs.YtahpbclnkofhfaaGreat
section
open Mod
structure Rest (Q:Frm->Prop) (x:Run):Prop where
 a:∀f ∈ x.t.fr.dropLast,Q f
structure AllF (Q:Frm->Prop) (x:Run):Prop where
 a:∀f ∈ x.t.fr,Q f
section
variable {Q:Frm->Prop} {x:Run}
theorem AllF.rest (h:AllF Q x):Rest Q x:=⟨λf hf=>h.a f (List.dropLast_subset _ hf)⟩
theorem AllF.top (h:AllF Q x) (hne:x.t.fr≠[]):Q x.f:=by
 have e:x.f=x.t.fr.getLast hne:=by
  show x.t.fr.getLast?.getD dfF=_
  rw [List.getLast?_eq_some_getLast hne]
  rfl
 rw [e]
 exact h.a _ (List.getLast_mem hne)
theorem Rest.setF {f:Frm} (h:Rest Q x):Rest Q (x.setF f):=by
 constructor
 intro g hg
 have hg:g ∈ (x.t.fr.dropLast ++ [f]).dropLast:=hg
 rw [List.dropLast_append_of_ne_nil (by simp)] at hg
 simp at hg
 exact h.a g hg
theorem Rest.s {i:Nat} {v:Int} (h:Rest Q x):Rest Q (x.s i v):=h.setF
theorem Rest.pc {i:Int} (h:Rest Q x):Rest Q (x.pc i):=h.setF
theorem Rest.m {m:Mac} (h:Rest Q x):Rest Q { x with m:=m }:=⟨h.a⟩
theorem Lo.rest {y:Run} (h:Lo x y) (r:Rest Q x):Rest Q y:=by
 induction h with
 | refl=>exact r
 | s _ ih=>exact ih.s
 | pc _ ih=>exact ih.pc
 | _=>rename_i ih;exact ⟨ih.a⟩
theorem Rest.all {f:Frm} (h:Rest Q x) (hf:Q f):AllF Q (x.setF f):=by
 constructor
 intro g hg
 have hg:g ∈ x.t.fr.dropLast ++ [f]:=hg
 rcases List.mem_append.1 hg with h1 | h1
 ·exact h.a g h1
 ·rw [List.mem_singleton.1 h1];exact hf
theorem Rest.allPc {i:Int} (h:Rest Q x) (hf:Q (x.f.at i)):AllF Q (x.pc i):=h.all hf
theorem Rest.allS {i:Nat} {v:Int} (h:Rest Q x) (hf:Q (x.f.s i v)):AllF Q (x.s i v):=h.all hf
theorem Rest.pop {r:List Int} (h:Rest Q x):AllF Q (x.pop r):=by
 constructor
 intro g hg
 have hg:g ∈ (x.t.pop r).fr:=hg
 unfold Thr.pop at hg
 split at hg
 ·rename_i e;rw [e] at hg;cases hg
 ·exact h.a g hg
theorem AllF.push {i:Int} {r:List Int} (h:AllF Q x) (hf:Q ⟨i,0,pad 10 r⟩):AllF Q (x.push i r):=by
 constructor
 intro g hg
 have hg:g ∈ x.t.fr ++ [⟨i,0,pad 10 r⟩]:=hg
 rcases List.mem_append.1 hg with h1 | h1
 ·exact h.a g h1
 ·rw [List.mem_singleton.1 h1];exact hf
theorem Rest.call {i j:Int} {r:List Int} (h:Rest Q x) (hf:Q (x.f.at i)) (hg:Q ⟨j,0,pad 10 r⟩):AllF Q (x.call i j r):=AllF.push (h.allPc hf) hg
theorem Rest.fin {i j k:Int} (h:Rest Q x) (hf:Q ((((x.f.s 7 i).s 8 j).s 9 k).at 90)) (hg:Q ⟨4,0,pad 10 []⟩):AllF Q (x.fin i j k):=by
 unfold Run.fin
 refine Rest.call (by exact Wh1) ?_ hg
 rw [f_s,f_s,f_s]
 exact hf
theorem AllF.load {a:Int} (h:AllF Q x):AllF Q (x.load a).2:=⟨h.a⟩
theorem AllF.store {a v:Int} (h:AllF Q x):AllF Q (x.store a v):=⟨h.a⟩
theorem AllF.cas {a o n:Int} (h:AllF Q x):AllF Q (x.cas a o n).2:=⟨h.a⟩
theorem AllF.add {a v:Int} (h:AllF Q x):AllF Q (x.add a v).2:=⟨h.a⟩
theorem AllF.swing {a v w:Int} {b:Bool} (h:AllF Q x):AllF Q (x.swing a v w b).2:=⟨h.a⟩
theorem AllF.swingA {a v w:Int} (h:AllF Q x):AllF Q (x.swingA a v w).2:=⟨h.a⟩
theorem AllF.swingM {a v w:Int} {b:Bool} (h:AllF Q x):AllF Q (x.swingM a v w b).2:=⟨h.a⟩
theorem AllF.drop1 {a:Int} (h:AllF Q x):AllF Q (x.drop1 a).2:=⟨h.a⟩
theorem AllF.guard {a v:Int} (h:AllF Q x):AllF Q (x.guard a v):=⟨h.a⟩
theorem AllF.gh {f:Gh->Gh} (h:AllF Q x):AllF Q (x.gh f):=⟨h.a⟩
theorem AllF.fo {l:List Int} (h:AllF Q x):AllF Q (x.fo l):=⟨h.a⟩
theorem AllF.re {l:List Int} (h:AllF Q x):AllF Q (x.re l):=⟨h.a⟩
theorem AllF.setPl {p s w:List Int} (h:AllF Q x):AllF Q (x.setPl p s w):=⟨h.a⟩
theorem AllF.m {m:Mac} (h:AllF Q x):AllF Q { x with m:=m }:=⟨h.a⟩
end
theorem Yz3 (f:Frm) (i:Int):(f.at i).r.length=f.r.length:=rfl
theorem Ym2 (f:Frm) (i:Nat) (v:Int):(f.s i v).r.length=f.r.length:=by unfold Frm.s;simp
def Wz1 (sl th:Int) (f:Frm):Prop:=f.r.length=10/\((f.fn=1\/f.fn=2\/f.fn=3)/\0<=f.pc/\f.pc<=2\/f.fn=4/\0<=f.pc/\f.pc<=sl\/f.fn=5/\f.pc=0\/f.fn=6/\0<=f.pc/\f.pc<=sl*th+1)
section
variable {Q:Frm->Prop} {x:Run} {sl th:Int}
theorem Yz4 (hQ:∀f,Wz1 sl th f->Q f) (h:AllF Q x) (o:Wz1 sl th x.f) (e:x.f.fn=1):AllF Q (alloc x):=by
 have r:=h.rest
 obtain ⟨len,o2⟩:=o
 unfold alloc;dsimp only
 repeat' split
 all_goals (refine WN0 ?_;first | with_reducible assumption | ((with_reducible first | apply Rest.pop | apply Rest.call | apply Rest.allPc | apply Rest.allS | apply Rest.fin);exact Wh1))
 all_goals (refine hQ _ ?_;exact YX4)
theorem W81 (hQ:∀f,Wz1 sl th f->Q f) (h:AllF Q x) (o:Wz1 sl th x.f) (e:x.f.fn=2):AllF Q (Wo1 x):=by
 have r:=h.rest
 obtain ⟨len,o2⟩:=o
 unfold Wo1;dsimp only
 repeat' split
 all_goals (refine WN0 ?_;first | with_reducible assumption | ((with_reducible first | apply Rest.pop | apply Rest.call | apply Rest.allPc | apply Rest.allS | apply Rest.fin);exact Wh1))
 all_goals (refine hQ _ ?_;exact YX4)
theorem W82 (hQ:∀f,Wz1 sl th f->Q f) (h:AllF Q x) (o:Wz1 sl th x.f) (e:x.f.fn=3):AllF Q (Wo3 x):=by
 have r:=h.rest
 obtain ⟨len,o2⟩:=o
 unfold Wo3;dsimp only
 repeat' split
 all_goals (refine WN0 ?_;first | with_reducible assumption | ((with_reducible first | apply Rest.pop | apply Rest.call | apply Rest.allPc | apply Rest.allS | apply Rest.fin);exact Wh1))
 all_goals (refine hQ _ ?_;exact YX4)
theorem YK6 (hQ:∀f,Wz1 sl th f->Q f) (h:AllF Q x) (hs:sl=x.m.p.slots) (o:Wz1 sl th x.f) (e:x.f.fn=4):AllF Q (Yt9 x):=by
 have r:=h.rest
 obtain ⟨len,o2⟩:=o
 unfold Yt9;dsimp only
 repeat' split
 all_goals (refine WN0 ?_;first | with_reducible assumption | ((with_reducible first | apply Rest.pop | apply Rest.call | apply Rest.allPc | apply Rest.allS | apply Rest.fin);exact Wh1))
 all_goals (refine hQ _ ?_;exact YX4)
theorem Yz5 {fn:Int} {l:List Int} (h:1<=fn/\fn<=6) (hs:0<=sl) (ht:0<=sl*th):Wz1 sl th ⟨fn,0,pad 10 l⟩:=by
 refine ⟨Ww6 _ _,?_⟩
 dsimp only
 omega
theorem Ym3 (hQ:∀f,Wz1 sl th f->Q f) (h:AllF Q x) (hs:0<=sl) (ht:0<=sl*th):AllF Q (Wt2 x):=by
 have r:=h.rest
 unfold Wt2;dsimp only
 split
 ·refine AllF.push ?_ (hQ _ (Yz5 (by omega) hs ht))
  (refine WN0 ?_;first | with_reducible assumption | ((with_reducible first | apply Rest.pop | apply Rest.call | apply Rest.allPc | apply Rest.allS | apply Rest.fin);exact Wh1))
 ·(refine WN0 ?_;first | with_reducible assumption | ((with_reducible first | apply Rest.pop | apply Rest.call | apply Rest.allPc | apply Rest.allS | apply Rest.fin);exact Wh1))
theorem Yz6 (hQ:∀f,Wz1 sl th f->Q f) (h:AllF Q x) {all:Int} (ha:all=sl*th) (h0:0<=all) (o:Wz1 sl th x.f) (e:x.f.fn=6):AllF Q (Wv3 x all):=by
 have r:=h.rest
 obtain ⟨len,o2⟩:=o
 unfold Wv3
 split
 ·refine Rest.allPc (by exact Wh1) (hQ _ ?_)
  show Wz1 sl th (x.f.at (x.f.pc+1))
  exact YX4
 ·exact h
theorem Yz7 (hQ:∀f,Wz1 sl th f->Q f) (h:AllF Q x) (hs:0<=sl) (ht:0<=sl*th):AllF Q (WR5 x):=by
 have r:=h.rest
 unfold WR5
 split
 ·(refine WN0 ?_;first | with_reducible assumption | ((with_reducible first | apply Rest.pop | apply Rest.call | apply Rest.allPc | apply Rest.allS | apply Rest.fin);exact Wh1))
 ·refine AllF.push ?_ (hQ _ (Yz5 (by omega) hs ht))
  exact h.fo
theorem YK7 (hQ:∀f,Wz1 sl th f->Q f) (h:AllF Q x) (hs:sl=x.m.p.slots) (ht:th=x.m.p.c.threads) (s0:0<=sl) (t0:0<=sl*th) (o:Wz1 sl th x.f) (e:x.f.fn=6):AllF Q (scan x):=by
 have hy:AllF Q (if x.f.pc=0 then x.fo [] else x)/\(if x.f.pc=0 then x.fo [] else x).f=x.f:=by
  split
  ·exact ⟨h.fo,rfl⟩
  ·exact ⟨h,rfl⟩
 unfold scan
 dsimp only
 generalize (if x.f.pc=0 then x.fo [] else x)=y at *
 obtain ⟨h2,ef⟩:=hy
 have r:=h2.rest
 rw [<- hs,<- ht]
 split
 ·rename_i c
  obtain ⟨len,o2⟩:=o
  refine Rest.allPc (by exact Wh1) (hQ _ ?_)
  show Wz1 sl th (y.f.at (y.f.pc+1))
  rw [ef] at c ⊢
  exact YX4
 ·rename_i c
  exact Yz7 hQ (Yz6 hQ h2 rfl t0 (by rw [ef];exact o) (by rw [ef];exact e)) s0 t0
theorem W83 (hQ:∀f,Wz1 sl th f->Q f) (h:AllF Q x) (o:Wz1 sl th x.f):AllF Q (Wo2 x):=by
 have r:=h.rest
 unfold Wo2
 split
 ·exact h
 split
 ·exact Yz4 hQ h o (by assumption)
 split
 ·exact W81 hQ h o (by assumption)
 ·(refine WN0 ?_;first | with_reducible assumption | ((with_reducible first | apply Rest.pop | apply Rest.call | apply Rest.allPc | apply Rest.allS | apply Rest.fin);exact Wh1))
theorem W03 (hQ:∀f,Wz1 sl th f->Q f) (h:AllF Q x) (hs:sl=x.m.p.slots) (ht:th=x.m.p.c.threads) (s0:0<=sl) (t0:0<=sl*th) (o:Wz1 sl th x.f):AllF Q (Wk7 x):=by
 unfold Wk7
 split
 ·exact h
 split
 ·exact W82 hQ h o (by assumption)
 split
 ·exact YK6 hQ h hs o (by assumption)
 split
 ·exact Ym3 hQ h s0 t0
 split
 ·exact YK7 hQ h hs ht s0 t0 o (by assumption)
 ·exact W83 hQ h o
end
end
section
open Mod
def fA (sl th fn pc:Int):Bool:=
 if fn=4 then decide (pc < sl) else if fn=5 then false else if fn=6 then decide (pc < sl*th)
 else if fn=10 then decide (pc=0) else if fn=14 then decide (pc≠1) else if fn=35 then decide (pc=0) else if fn=36 then decide (pc≠1)
 else decide (pc≠90)
def fW (fn pc:Int):Nat:=
 if fn=5 then 3 else if fn=6 then 2
 else if fn=20 then (if pc=0 then 2 else 1)
 else if fn=21 then (if pc=17 then 6 else if pc=8\/pc=1\/pc=12 then 3 else 2)
 else if fn=22\/fn=23 then (if pc=12 then 6 else if pc=1\/pc=7 then 3 else 2)
 else if fn=10 then (if pc=0 then 2 else 1)
 else if fn=11 then (if pc=6 then 6 else if pc=7\/pc=9 then 5 else if pc=8 then 4 else if pc=1\/pc=5\/pc=10\/pc=11\/pc=13\/pc=14 then 3 else 2)
 else if fn=12\/fn=13 then (if pc=6 then 6 else if pc=1 then 4 else if pc=0 then 3 else 2)
 else if fn=14 then (if pc=5\/pc=6 then 4 else if pc=0\/pc=1\/pc=4 then 3 else 2)
 else if fn=31 then (if pc=16 then 4 else if pc=1\/pc=7\/pc=11\/pc=12 then 3 else 2)
 else if fn=32\/fn=33 then (if pc=5 then 4 else if pc=2\/pc=6\/pc=12\/pc=13 then 3 else 2)
 else if fn=34 then (if pc=2\/pc=4 then 3 else 2)
 else if fn=35 then (if pc=2 then 6 else 2)
 else if fn=36 then (if pc=4 then 3 else 2)
 else 1
def fR (fn:Int):Nat:=if fn<=4 then 0 else if fn<=6 then 1 else if fn=10 then 2 else if fn=14\/fn=35 then 3 else 4
theorem Y30 (fn:Int):fR fn<=4:=by
 unfold fR;repeat' split
 all_goals omega
theorem YV6 {c:Prop} [Decidable c] {a b:Nat} (ha:1<=a/\a<=6) (hb:1<=b/\b<=6):1<=(if c then a else b)/\(if c then a else b)<=6:=by
 split
 ·exact ha
 ·exact hb
theorem Yz8 (fn pc:Int):1<=fW fn pc/\fW fn pc<=6:=by
 unfold fW
 repeat' (first | with_reducible apply YV6 | exact ⟨by decide,by decide⟩)
section
variable (sl th:Int)
def muL:List Frm->Nat
 | []=>0
 | f :: l=>fW f.fn f.pc+if fA sl th f.fn f.pc=true then 0 else muL l
def onR (fn:Int):List Frm->Prop
 | []=>True
 | f :: _=>fA sl th f.fn f.pc=true\/fR fn < fR f.fn
def YD7:List Frm->Prop
 | []=>True
 | f :: l=>onR sl th f.fn l/\YD7 l
theorem YQ7:∀ {l:List Frm} {fn:Int},onR sl th fn l->YD7 sl th l->muL sl th l<=6*(5 - fR fn)
 | [],_,_,_=>Nat.zero_le _
 | f :: l,fn,h1,h2=>by
  unfold muL
  have hw:=(Yz8 f.fn f.pc).2
  have hr:=Y30 fn
  have hr2:=Y30 f.fn
  split
  ·omega
  ·rename_i c
   rcases h1 with h1 | h1
   ·exact absurd h1 c
   ·have ih:=YQ7 h2.1 h2.2
    omega
def rst (x:Run):List Frm:=x.t.fr.dropLast.reverse
def mu (x:Run):Nat:=muL sl th x.t.fr.reverse
structure Adj (x:Run):Prop where
 a:YD7 sl th x.t.fr.reverse
structure AdjR (fn:Int) (l:List Frm) (x:Run):Prop where
 f:x.f.fn=fn
 e:rst x=l
 o:onR sl th fn l
 a:YD7 sl th l
end
section
variable {sl th:Int} {x y:Run} {fn:Int} {l:List Frm}
theorem WD0 (h:x.t.fr≠[]):x.t.fr.reverse=x.f :: rst x:=by
 conv=>lhs;rw [WS1 h]
 simp [rst,Run.f]
theorem Adj.r (h:Adj sl th x) (hne:x.t.fr≠[]):AdjR sl th x.f.fn (rst x) x:=by
 have h:=h.a
 rw [WD0 hne] at h
 exact ⟨rfl,rfl,h.1,h.2⟩
theorem YK8 (x:Run) (f:Frm):rst (x.setF f)=rst x:=by
 show (x.t.fr.dropLast ++ [f]).dropLast.reverse=_
 rw [List.dropLast_append_of_ne_nil (by simp)]
 simp [rst]
theorem AdjR.setF {f:Frm} (h:AdjR sl th fn l x) (hf:f.fn=fn):AdjR sl th fn l (x.setF f):=⟨by rw [WY5];exact hf,by rw [YK8];exact h.e,h.o,h.a⟩
theorem AdjR.s {i:Nat} {v:Int} (h:AdjR sl th fn l x):AdjR sl th fn l (x.s i v):=h.setF h.f
theorem AdjR.pc {i:Int} (h:AdjR sl th fn l x):AdjR sl th fn l (x.pc i):=h.setF h.f
theorem AdjR.gh {f:Gh->Gh} (h:AdjR sl th fn l x):AdjR sl th fn l (x.gh f):=⟨h.f,h.e,h.o,h.a⟩
theorem AdjR.fo {k:List Int} (h:AdjR sl th fn l x):AdjR sl th fn l (x.fo k):=⟨h.f,h.e,h.o,h.a⟩
theorem AdjR.re {k:List Int} (h:AdjR sl th fn l x):AdjR sl th fn l (x.re k):=⟨h.f,h.e,h.o,h.a⟩
theorem AdjR.all (h:AdjR sl th fn l x) (hne:x.t.fr≠[]):Adj sl th x:=by
 constructor
 rw [WD0 hne]
 exact ⟨by rw [h.f,h.e];exact h.o,by rw [h.e];exact h.a⟩
theorem Wn1 (x:Run) (f:Frm):(x.setF f).t.fr≠[]:=by
 show x.t.fr.dropLast ++ [f]≠[]
 simp
theorem Lo.adjR (h:Lo x y) (r:AdjR sl th fn l x):AdjR sl th fn l y:=by
 induction h with
 | refl=>exact r
 | s _ ih=>exact ih.s
 | pc _ ih=>exact ih.pc
 | _=>rename_i ih;exact ⟨ih.f,ih.e,ih.o,ih.a⟩
theorem Lo.ne (h:Lo x y) (r:x.t.fr≠[]):y.t.fr≠[]:=by
 induction h with
 | refl=>exact r
 | s _ ih=>exact Wn1 _ _
 | pc _ ih=>exact Wn1 _ _
 | _=>rename_i ih;exact ih
theorem AdjR.allPc {i:Int} (h:AdjR sl th fn l x):Adj sl th (x.pc i):=h.pc.all (Wn1 _ _)
theorem AdjR.allS {i:Nat} {v:Int} (h:AdjR sl th fn l x):Adj sl th (x.s i v):=h.s.all (Wn1 _ _)
theorem AdjR.pop {r:List Int} (h:AdjR sl th fn l x):Adj sl th (x.pop r):=by
 constructor
 show YD7 sl th (x.t.pop r).fr.reverse
 unfold Thr.pop
 split
 ·rename_i e;rw [e];trivial
 ·show YD7 sl th (rst x)
  rw [h.e];exact h.a
theorem Adj.push {i:Int} {r:List Int} (h:Adj sl th x) (ho:onR sl th i x.t.fr.reverse):Adj sl th (x.push i r):=by
 constructor
 show YD7 sl th (x.t.fr ++ [(⟨i,0,pad 10 r⟩ : Frm)]).reverse
 rw [List.reverse_append]
 show YD7 sl th (⟨i,0,pad 10 r⟩ :: x.t.fr.reverse)
 exact ⟨ho,h.a⟩
theorem AdjR.call {i j:Int} {r:List Int} (h:AdjR sl th fn l x) (hd:fA sl th fn i=true\/fR j < fR fn):Adj sl th (x.call i j r):=by
 refine Adj.push h.allPc ?_
 rw [show (x.pc i).t.fr.reverse=(x.pc i).f :: rst (x.pc i) from WD0 (Wn1 _ _)]
 show fA sl th (x.pc i).f.fn (x.pc i).f.pc=true\/_ < fR (x.pc i).f.fn
 rw [YP8,Yw3,Yw2,h.f]
 exact hd
theorem AdjR.fin {i j k:Int} (h:AdjR sl th fn l x) (hd:fR 4 < fR fn):Adj sl th (x.fin i j k):=by
 unfold Run.fin
 exact (h.s.s.s).call (.inr hd)
structure Act (x:Run):Prop where
 a:x.m.acted=true
theorem Wm2 (m:Mac) (a:Int):(m.touch a).acted=true:=by unfold Mac.touch;split <;> rfl
theorem Act.load {a:Int}:Act (x.load a).2:=by
 constructor
 show (x.m.load a).2.acted=true
 unfold Mac.load;dsimp only
 split <;> exact Wm2 _ _
theorem Act.store {a v:Int}:Act (x.store a v):=by
 constructor
 show (x.m.store a v).acted=true
 unfold Mac.store;dsimp only
 split <;> exact Wm2 _ _
theorem Act.cas {a o v:Int}:Act (x.cas a o v).2:=by
 constructor
 show (x.m.cas a o v).2.acted=true
 unfold Mac.cas;dsimp only
 split <;> exact Wm2 _ _
theorem Act.add {a v:Int}:Act (x.add a v).2:=by
 constructor
 show (x.m.add a v).2.acted=true
 unfold Mac.add;dsimp only
 split <;> exact Wm2 _ _
theorem Act.swing {a v w:Int} {b:Bool}:Act (x.swing a v w b).2:=Act.cas
theorem Act.swingA {a v w:Int}:Act (x.swingA a v w).2:=Act.cas
theorem Act.swingM {a v w:Int} {b:Bool}:Act (x.swingM a v w b).2:=Act.cas
theorem Act.drop1 {a:Int}:Act (x.drop1 a).2:=Act.add
theorem Act.guard {a b:Int}:Act (x.guard a b):=Act.store
theorem Act.dcas {a o n b p q:Int}:Act { x with m:=(x.m.dcas a o n b p q).2 }:=by
 constructor
 show (x.m.dcas a o n b p q).2.acted=true
 unfold Mac.dcas;dsimp only
 split <;> exact Wm2 _ _
theorem Act.dcss {a o n b p:Int}:Act { x with m:=(x.m.dcss a o n b p).2 }:=by
 constructor
 show (x.m.dcss a o n b p).2.acted=true
 unfold Mac.dcss;dsimp only
 split <;> exact Wm2 _ _
theorem Act.next {n:Int} (h:Act x):Act { x with m:=(x.m.next n).2 }:=by
 constructor
 show (x.m.next n).2.acted=true
 unfold Mac.next
 split <;> exact h.a
theorem Act.lvl {n:Int} (h:Act x):Act { x with m:=(x.m.lvl n).2 }:=by
 constructor
 show (x.m.lvl n).2.acted=true
 unfold Mac.lvl
 split <;> exact h.a
theorem Tch.act (h:Tch x):Act x:=by
 induction h with
 | load=>exact Act.load
 | store=>exact Act.store
 | cas=>exact Act.cas
 | add=>exact Act.add
 | swing=>exact Act.swing
 | swingA=>exact Act.swingA
 | swingM=>exact Act.swingM
 | drop1=>exact Act.drop1
 | guard=>exact Act.guard
 | dcas=>exact Act.dcas
 | dcss=>exact Act.dcss
 | next _ ih=>exact ih.next
 | lvl _ ih=>exact ih.lvl
 | _=>rename_i ih;exact ⟨ih.a⟩
theorem YQ8 (h:x.t.fr≠[]):mu sl th x=fW x.f.fn x.f.pc+if fA sl th x.f.fn x.f.pc=true then 0 else muL sl th (rst x):=by
 unfold mu
 rw [WD0 h]
 rfl
theorem WT5 (x:Run) (i:Int) (r:List Int):mu sl th (x.push i r)=fW i 0+if fA sl th i 0=true then 0 else mu sl th x:=by
 unfold mu
 show muL sl th (x.t.fr ++ [(⟨i,0,pad 10 r⟩ : Frm)]).reverse=_
 rw [List.reverse_append]
 rfl
theorem Yz9 (r:List Int) (h:x.t.fr≠[]):mu sl th (x.pop r)=muL sl th (rst x):=by
 unfold mu
 show muL sl th (x.t.pop r).fr.reverse=_
 unfold Thr.pop
 rw [if_neg h]
 rfl
section
variable {x0:Run} {pc0:Int}
theorem AdjR.mu (h0:AdjR sl th fn l x0) (hne:x0.t.fr≠[]) (hp:x0.f.pc=pc0):mu sl th x0=fW fn pc0+if fA sl th fn pc0=true then 0 else muL sl th l:=by
 rw [YQ8 hne,h0.f,h0.e,hp]
theorem AdjR.muPc (h:AdjR sl th fn l y) (i:Int):Proofs.YtahpbclnkofhfaaGreat.mu sl th (y.pc i)=fW fn i+if fA sl th fn i=true then 0 else muL sl th l:=
 h.pc.mu (Wn1 _ _) (by rw [YP8];rfl)
theorem AdjR.ltPc {i:Int} (h0:AdjR sl th fn l x0) (hne:x0.t.fr≠[]) (hp:x0.f.pc=pc0) (h:AdjR sl th fn l y)
  (hlt:(fW fn i+if fA sl th fn i=true then 0 else muL sl th l) < fW fn pc0+if fA sl th fn pc0=true then 0 else muL sl th l):Proofs.YtahpbclnkofhfaaGreat.mu sl th (y.pc i) < Proofs.YtahpbclnkofhfaaGreat.mu sl th x0:=by
 rw [h0.mu hne hp,h.muPc]
 exact hlt
theorem AdjR.ltCall {i j:Int} {r:List Int} (h0:AdjR sl th fn l x0) (hne:x0.t.fr≠[]) (hp:x0.f.pc=pc0) (h:AdjR sl th fn l y)
  (hlt:(fW j 0+if fA sl th j 0=true then 0 else fW fn i+if fA sl th fn i=true then 0 else muL sl th l) < fW fn pc0+if fA sl th fn pc0=true then 0 else muL sl th l):Proofs.YtahpbclnkofhfaaGreat.mu sl th (y.call i j r) < Proofs.YtahpbclnkofhfaaGreat.mu sl th x0:=by
 show Proofs.YtahpbclnkofhfaaGreat.mu sl th ((y.pc i).push j r) < _
 rw [h0.mu hne hp,WT5,h.muPc]
 exact hlt
theorem AdjR.ltFin {i j k:Int} (h0:AdjR sl th fn l x0) (hne:x0.t.fr≠[]) (hp:x0.f.pc=pc0) (h:AdjR sl th fn l y)
  (hlt:(fW 4 0+if fA sl th 4 0=true then 0 else fW fn 90+if fA sl th fn 90=true then 0 else muL sl th l) < fW fn pc0+if fA sl th fn pc0=true then 0 else muL sl th l):Proofs.YtahpbclnkofhfaaGreat.mu sl th (y.fin i j k) < Proofs.YtahpbclnkofhfaaGreat.mu sl th x0:=
 h0.ltCall hne hp (h.s.s.s) hlt
theorem AdjR.ltPop {r:List Int} (h0:AdjR sl th fn l x0) (hne:x0.t.fr≠[]) (hp:x0.f.pc=pc0) (h:AdjR sl th fn l y) (hny:y.t.fr≠[])
  (hlt:muL sl th l < fW fn pc0+if fA sl th fn pc0=true then 0 else muL sl th l):Proofs.YtahpbclnkofhfaaGreat.mu sl th (y.pop r) < Proofs.YtahpbclnkofhfaaGreat.mu sl th x0:=by
 rw [h0.mu hne hp,Yz9 r hny,h.e]
 exact hlt
end
def Nx (sl th:Int) (x y:Run):Prop:=Adj sl th y/\(Act y\/mu sl th y < mu sl th x)
end
end
section
open Mod
structure RunOk (Q:Mod.Cf->Frm->Prop) (c:Mod.Cf) (x:Run) (B:Nat):Prop where
 p:x.m.p=Wb6 c
 q:AllF (Q c) x
 a:Adj (Wb6 c).slots c.threads x
 pr:(x.t.pred.length:Int)=c.level
 su:(x.t.succ.length:Int)=c.level
 wo:(x.t.word.length:Int)=c.level
 P:x.P<=B
structure YD8 (d:Run->Run) (Q:Mod.Cf->Frm->Prop) (W:Run->Prop) (ins:Int):Prop where
 st:∀x,St 12 x (d x)
 all:∀c x,okC c=true->x.m.p=Wb6 c->x.t.fr≠[]->AllF (Q c) x->AllF (Q c) (d x)
 nx:∀c x,okC c=true->x.m.p=Wb6 c->x.t.fr≠[]->AllF (Q c) x->Adj (Wb6 c).slots c.threads x->Nx (Wb6 c).slots c.threads x (d x)
 w:∀c x B,okC c=true->RunOk Q c x B->B < 200000000->x.t.fr≠[]->0<=x.id/\x.id<=6->W x
 new:∀c op l,okC c=true->0<=op/\op<=2->Q c ⟨ins+op,0,pad 10 l⟩
section
variable {d:Run->Run} {Q:Mod.Cf->Frm->Prop} {W:Run->Prop} {ins:Int} {c:Mod.Cf}
theorem RunOk.mono {x:Run} {B C:Nat} (h:RunOk Q c x B) (hb:B<=C):RunOk Q c x C:=⟨h.p,h.q,h.a,h.pr,h.su,h.wo,Nat.le_trans h.P hb⟩
theorem RunOk.bit (D:YD8 d Q W ins) (hc:okC c=true) {x:Run} {B:Nat} (h:RunOk Q c x B) (hne:x.t.fr≠[]):RunOk Q c (d x) (B+24)/\Nx (Wb6 c).slots c.threads x (d x):=by
 have s:=D.st x
 have f:=s.fix
 have n:=D.nx c x hc h.p hne h.q h.a
 have hP:=s.P
 have:=h.P
 exact ⟨⟨f.p.trans h.p,D.all c x hc h.p hne h.q,n.1,by rw [f.pr];exact h.pr,by rw [f.su];exact h.su,by rw [f.wo];exact h.wo,by omega⟩,n⟩
theorem Y89 {sl th:Int} {x:Run} (h:Adj sl th x):mu sl th x<=36:=by
 by_cases hne:x.t.fr = []
 ·unfold mu
  rw [hne]
  exact Nat.zero_le _
 ·rw [YQ8 hne]
  have r:=h.r hne
  have h1:=YQ7 sl th r.o r.a
  have h2:=(Yz8 x.f.fn x.f.pc).2
  split <;> omega
theorem Ye8 (D:YD8 d Q W ins) (hc:okC c=true):∀(n:Nat) (x:Run) (B:Nat),mu (Wb6 c).slots c.threads x<=n->RunOk Q c x B->B+24*(n+1) < 200000000->0<=x.id/\x.id<=6 ->
  ∃k z,Mod.bits d k x=some z/\YX5 d W k x/\Fix x z/\RunOk Q c z (B+24*(n+1))
 | n,x,B,hm,h,hB,hid=>by
  by_cases c0:done x=true
  ·refine ⟨0,x,?_,trivial,⟨rfl,rfl,rfl,rfl,rfl,rfl,rfl,rfl⟩,h.mono (by omega)⟩
   unfold Mod.bits
   unfold done at c0
   rw [if_pos c0]
  ·have hne:x.t.fr≠[]:=by
    intro e
    unfold done at c0
    rw [e] at c0
    simp at c0
   have hb:∀k,Mod.bits d (k+1) x=Mod.bits d k (d x):=by
    intro k
    unfold done at c0
    conv=>lhs;unfold Mod.bits
    rw [if_neg c0]
   obtain ⟨h1,n1⟩:=h.bit D hc hne
   have hw:=D.w c x B hc h (by omega) hne hid
   have f:=(D.st x).fix
   rcases n1.2 with a | lt
   ·refine ⟨1,d x,?_,.inr ⟨hw,trivial⟩,f,h1.mono (by omega)⟩
    rw [hb]
    unfold Mod.bits
    rw [a.a]
    rfl
   ·cases n with
    | zero=>omega
    | succ n=>
     obtain ⟨k,z,e1,e2,e3,e4⟩:=Ye8 D hc n (d x) (B+24) (by omega) h1 (by omega) (by rw [f.id];exact hid)
     refine ⟨k+1,z,by rw [hb];exact e1,.inr ⟨hw,e2⟩,⟨e3.p.trans f.p,e3.id.trans f.id,e3.th.trans f.th,e3.b.trans f.b,e3.w.trans f.w,e3.pr.trans f.pr,e3.su.trans f.su,e3.wo.trans f.wo⟩,e4.mono (by omega)⟩
structure Y90 (Q:Mod.Cf->Frm->Prop) (c:Mod.Cf) (t:Thr):Prop where
 q:∀f ∈ t.fr,Q c f
 a:YD7 (Wb6 c).slots c.threads t.fr.reverse
 pr:(t.pred.length:Int)=c.level
 su:(t.succ.length:Int)=c.level
 wo:(t.word.length:Int)=c.level
def Mod.Thr.L (t:Thr):Nat:=t.retired.length+t.found.length+max t.fr.length 1
def Ye9 (l:List Thr):Nat:=(l.map Mod.Thr.L).sum
theorem WT6:∀ {l:List Thr} {k:Nat} {t t':Thr},l[k]? = some t->Ye9 (l.set k t')+t.L=Ye9 l+t'.L
 | [],_,_,_,h=>by simp at h
 | a :: l,0,t,t',h=>by
  simp only [List.getElem?_cons_zero,Option.some.injEq] at h
  subst h
  simp only [List.set_cons_zero,Ye9,List.map_cons,List.sum_cons]
  omega
 | a :: l,k+1,t,t',h=>by
  simp only [List.getElem?_cons_succ] at h
  have ih:=WT6 (t':=t') h
  simp only [List.set_cons_succ,Ye9,List.map_cons,List.sum_cons] at *
  omega
def Mod.Mac.T (m:Mac):Nat:=m.mm.st.toNat+m.used.toNat+Ye9 m.th
structure MacOk (Q:Mod.Cf->Frm->Prop) (c:Mod.Cf) (i:Nat) (m:Mac):Prop where
 ok:okC c=true
 p:m.p=Wb6 c
 w:(m.mm.w.length:Int)=(Wb6 c).size
 n:m.th.length<=6
 t:∀t ∈ m.th,Y90 Q c t
 T:m.T<=1000*i+2000
theorem MacOk.good (D:YD8 d Q W ins):YJ3 d W ins (MacOk Q c) where
 mono i m h:=⟨h.ok,h.p,h.w,h.n,h.t,Nat.le_trans h.T (by omega)⟩
 wd i m h:=by
  have B:=Wv0 h.ok
  have e:(m.mm.w.length:Int)=m.p.size:=by rw [h.p];exact h.w
  refine ⟨⟨by rw [h.p];rfl,e⟩,?_⟩
  have h1:=B.li
  have h2:=B.nd
  have h3:=B.tr
  have h4:=B.si
  rw [h.p] at e
  omega
 push i m k t cl h ht he ho hk hv:=by
  have hm:=List.mem_of_getElem? ht
  have o:=h.t t hm
  refine ⟨h.ok,h.p,h.w,?_,?_,?_⟩
  ·show (m.th.set k _).length<=6
   rw [List.length_set];exact h.n
  ·intro u hu
   rcases List.mem_or_eq_of_mem_set hu with hu | rfl
   ·exact h.t u hu
   ·refine ⟨?_,?_,o.pr,o.su,o.wo⟩
    ·intro f hf
     have hf:f ∈ t.fr ++ [⟨ins+cl.op,0,pad 10 [cl.key,cl.val]⟩]:=hf
     rw [he] at hf
     rw [List.mem_singleton.1 hf]
     exact D.new c cl.op _ h.ok ho
    ·show YD7 _ _ (t.fr ++ [(⟨ins+cl.op,0,pad 10 [cl.key,cl.val]⟩ : Frm)]).reverse
     rw [he]
     exact ⟨trivial,trivial⟩
  ·have e:=WT6 (t':=t.push (ins+cl.op) [cl.key,cl.val]) ht
   have e2:(t.push (ins+cl.op) [cl.key,cl.val]).L=t.L:=by
    show t.retired.length+t.found.length+max (t.fr ++ [_]).length 1=t.retired.length+t.found.length+max t.fr.length 1
    rw [he]
    rfl
   have h2:m.mm.st.toNat+m.used.toNat+Ye9 m.th<=1000*i+2000:=h.T
   show m.mm.st.toNat+m.used.toNat+Ye9 (m.th.set k (t.push (ins+cl.op) [cl.key,cl.val]))<=_
   omega
 step i m k t h hi ht hne:=by
  have hm:=List.mem_of_getElem? ht
  have o:=h.t t hm
  have hk:=(List.getElem?_eq_some_iff.1 ht).1
  have hn:=h.n
  have hL:1<=t.fr.length:=List.length_pos_iff.2 hne
  have hT:m.mm.st.toNat+m.used.toNat+Ye9 m.th<=1000*i+2000:=h.T
  have e0:=λt'=>WT6 (t':=t') ht
  have e1:=e0 t
  have eT:t.L=t.retired.length+t.found.length+t.fr.length:=by
   unfold Mod.Thr.L
   rw [Nat.max_eq_left hL]
  have hs:Ye9 (m.th.set k ⟨[],[],[],[],[],[],[]⟩)+t.L=Ye9 m.th+1:=e0 _
  have hR:RunOk Q c ⟨m.quiet,t,k⟩ (m.mm.st.toNat+m.used.toNat+t.L):=by
   refine ⟨h.p,⟨o.q⟩,⟨o.a⟩,o.pr,o.su,o.wo,?_⟩
   show m.mm.st.toNat+m.used.toNat+t.retired.length+t.found.length+t.fr.length<=_
   omega
  obtain ⟨n,z,hb,hsf,f,hz⟩:=Ye8 D h.ok 36 _ _ (Y89 hR.a) hR (by omega) ⟨by show (0:Int)<=(k:Int);omega,by show (k:Int)<=6;omega⟩
  refine ⟨n,z,hb,hsf,f.id,f.th,h.ok,?_,?_,?_,?_,?_⟩
  ·exact f.p.trans h.p
  ·show (z.m.mm.w.length:Int)=_
   rw [f.w]
   exact h.w
  ·show (m.th.set k z.t).length<=6
   rw [List.length_set];exact hn
  ·intro u hu
   rcases List.mem_or_eq_of_mem_set hu with hu | rfl
   ·exact h.t u hu
   ·exact ⟨hz.q.a,hz.a.a,hz.pr,hz.su,hz.wo⟩
  ·have e2:=e0 z.t
   have hP:z.m.mm.st.toNat+z.m.used.toNat+z.t.retired.length+z.t.found.length+z.t.fr.length<=_:=hz.P
   have hz2:z.t.L<=z.t.retired.length+z.t.found.length+z.t.fr.length+1:=by
    unfold Mod.Thr.L
    have:max z.t.fr.length 1<=z.t.fr.length+1:=Nat.max_le.2 ⟨by omega,by omega⟩
    omega
   show z.m.mm.st.toNat+z.m.used.toNat+Ye9 (m.th.set k z.t)<=_
   omega
theorem Wt6 (m:Mm) (a v:Int):(m.store a v).w.length=m.w.length/\(m.store a v).st.toNat<=m.st.toNat+1:=by
 unfold Mm.store
 split
 ·exact ⟨by simp [Mm.tick,Mm.put],by show (m.st+1).toNat<=_;omega⟩
 ·exact ⟨rfl,by omega⟩
theorem WB9 (f:Nat->Int × Int):∀(l:List Nat) (m:Mm),(l.foldl (λ(m:Mm) (i:Nat)=>m.store (f i).1 (f i).2) m).w.length=m.w.length/\(l.foldl (λ(m:Mm) (i:Nat)=>m.store (f i).1 (f i).2) m).st.toNat<=m.st.toNat+l.length
 | [],m=>⟨rfl,by simp⟩
 | i :: l,m=>by
  have h1:=Wt6 m (f i).1 (f i).2
  have h2:=WB9 f l (m.store (f i).1 (f i).2)
  simp only [List.foldl_cons,List.length_cons]
  exact ⟨h2.1.trans h1.1,by omega⟩
theorem YV7 {c:Mod.Cf} (h:okC c=true):((lay (Wb6 c)).w.length:Int)=(Wb6 c).size/\(lay (Wb6 c)).st.toNat<=200:=by
 have B:=Wv0 h
 have b1:=B.no
 have b2:=B.lv
 have b3:=B.se
 have b4:=B.si
 have b5:=B.tr
 have b6:=B.nd
 have b7:=B.li
 unfold lay
 dsimp only
 generalize hm0:(⟨List.replicate (Wb6 c).size.toNat 0,0,false,[]⟩ : Mm)=m0
 have h0:(m0.w.length:Int)=(Wb6 c).size/\m0.st.toNat=0:=by
  subst hm0
  exact ⟨by simp;omega,rfl⟩
 have h1:=Wt6 m0 0 (Wl2 ((Wb6 c).sent+1) false 0)
 generalize m0.store 0 (Wl2 ((Wb6 c).sent+1) false 0)=m1 at *
 have h2:=WB9 (λi=>((Wb6 c).link ((Wb6 c).sent+1+i),(Wb6 c).sent+1+i+1)) (List.range ((Wb6 c).c.nodes - ((Wb6 c).sent+1)).toNat) m1
 rw [List.length_range] at h2
 generalize hm2:(List.range ((Wb6 c).c.nodes - ((Wb6 c).sent+1)).toNat).foldl (λ(m:Mm) (i:Nat)=>m.store ((Wb6 c).link ((Wb6 c).sent+1+i)) ((Wb6 c).sent+1+i+1)) m1=m2
 have h2:m2.w.length=m1.w.length/\m2.st.toNat<=m1.st.toNat+((Wb6 c).c.nodes - ((Wb6 c).sent+1)).toNat:=by subst hm2;exact h2
 have h3:=Wt6 m2 2 1
 generalize m2.store 2 1=m3 at *
 split
 ·exact ⟨by omega,by omega⟩
 ·have h4:=Wt6 m3 ((Wb6 c).node 1 3) (Wb6 c).c.level
  generalize m3.store ((Wb6 c).node 1 3) (Wb6 c).c.level=m4 at *
  have h5:=Wt6 m4 ((Wb6 c).node 2 0) 18446744073709551615
  generalize m4.store ((Wb6 c).node 2 0) 18446744073709551615=m5 at *
  have h6:=WB9 (λi=>((Wb6 c).node 1 (5+i),Wl2 2 false 0)) (List.range (Wb6 c).c.level.toNat) m5
  rw [List.length_range] at h6
  dsimp only at h6
  exact ⟨by omega,by omega⟩
theorem Yf0 (c:Mod.Cf):∀n:Nat,Ye9 (List.replicate n (Wu6 c))=n
 | 0=>rfl
 | n+1=>by
  have ih:=Yf0 c n
  simp only [List.replicate_succ,Ye9,List.map_cons,List.sum_cons] at *
  have:(Wu6 c).L=1:=rfl
  omega
theorem MacOk.new (hc:okC c=true) (b:List Int) (g:Bool):MacOk Q c 0 (Wg7 c b g):=by
 have hl:=YV7 hc
 have B:=Wv0 hc
 have b1:1<=c.threads/\c.threads<=6:=B.th
 have b2:1<=c.level/\c.level<=6:=B.lv
 refine ⟨hc,rfl,hl.1,?_,?_,?_⟩
 ·show (List.replicate c.threads.toNat (Wu6 c)).length<=6
  rw [List.length_replicate];omega
 ·intro t ht
  have ht:t ∈ List.replicate c.threads.toNat (Wu6 c):=ht
  rw [(List.mem_replicate.1 ht).2]
  refine ⟨λf hf=>(by cases hf),trivial,?_,?_,?_⟩ <;> (show ((List.replicate c.level.toNat (0:Int)).length:Int)=c.level;rw [List.length_replicate];omega)
 ·show (lay (Wb6 c)).st.toNat+(0:Int).toNat+Ye9 (List.replicate c.threads.toNat (Wu6 c))<=_
  rw [Yf0]
  have:(0:Int).toNat=0:=rfl
  omega
end
end
section
open Mod
theorem Sat.drop3q {h:Wa1} {A B C R:Hp} (H:Sat h (A*(B*(C*R)))):Sat h (A*(B*R)):=by
 rw [YD5] at H
 exact H.drop
section
variable {K:kQ} {h:Wa1} {Q M f:Nat} {ins:Int} {Ts:List Nat} {m:Mac} {R:Hp} {d:Run->Run} {W:Run->Prop} {Inv:Nat->Mac->Prop}
def YK9 (a:Int):Nat:=if a=0 then 63 else if a=1 then 64 else 65
def WD7 (a:Int):Int:=if a=0 then 11 else if a=1 then 21 else 31
theorem Ym4 {c:Mod.Cf} {a:Option Addr} {cc:Nat} {bs:List Int} {gh:Bool} (H:Sat h R) (hs:∀h' P,Sat h' (P*R)->Sees h' a (bs.map λn=>.int .u8 n)) (hl:bs.length<=65536) (hr:∀n ∈ bs,0<=n/\n < 256)
  (k0:okC c=false->∀h',Sat h' R->K (.tuple #[.pointer none,iQ 6]) h') (k1:okC c=true->∀h' Q M Ts,Sat h' (suS Q M (YK9 c.algo) (WD7 c.algo) Ts (Wg7 c bs gh)*R)->K (.tuple #[mP Q,iQ 0]) h') :
  Wa4 Tryz.prog 30 #[cfV c,.slice a bs.length cc,.bool gh] h K:=by
 refine call30 ?_
 unfold F30 g30 cf lI dl7
 have H1:=H.push (.cells (cfc c).toArray 23)
 rw [show h.push (.cells #[iQ c.algo,iQ c.threads,iQ c.nodes,iQ c.level,iQ c.batch,iQ c.probes,iQ c.scan] 23)=h.push (.cells (cfc c).toArray 23) from rfl]
 generalize h.push (.cells (cfc c).toArray 23)=h1 at *
 generalize h.size=CB at *
 have O:=H1.at
 refine ldR O rfl (ldR O rfl (ldR O rfl (ldR O rfl (ldR O rfl (ldR O rfl (ldR O rfl ?_))))))
 refine Wa0 (WZ7 (c:=c) H1 (λh' P HP=>hs h' emp (by rw [Wi4];exact HP.drop.drop)) hl hr (λhc h2 H2=>?_) λhc h2 M Ts H2=>?_)
 ·refine sb ?_
  refine Ww8 ?_
  refine sb ?_
  refine Ww9 ?_
  refine sb ?_
  refine Wb7 (λ_=>?_) (λhh=>by simp at hh)
  exact k0 hc h2 H2.drop
 ·refine sb ?_
  refine Ww8 ?_
  refine sb ?_
  refine Ww9 ?_
  refine sb ?_
  refine Wb7 (λhh=>by simp at hh) (λ_=>?_)
  generalize Wg7 c bs gh=m at *
  have H3:=H2.push (.cells #[mP M,.nilFunc,iQ 0] 115)
  generalize h2.push (.cells #[mP M,.nilFunc,iQ 0] 115)=h3 at *
  generalize h2.size=QB at *
  refine ⟨λ_ h'=>Sat h' (suS QB M (YK9 c.algo) (WD7 c.algo) Ts m*R),?_,?_⟩
  ·have OC:=(H3.drop.drop).at
   refine ldR OC rfl ?_
   refine sb ?_
   refine Wb7 (λe=>?_) (λe=>?_)
   ·have e:c.algo=0:=by simpa using e
    refine H3.st (i:=1) rfl trivial λh4 H4=>?_
    refine H4.st (i:=2) rfl trivial λh5 H5=>?_
    unfold YK9 WD7
    rw [if_pos e,if_pos e]
    exact Wt5.2 (H5.drop3q)
   ·have e:¬ c.algo=0:=by simpa using e
    refine Wb7 (λe1=>?_) (λe1=>?_)
    ·have e1:c.algo=1:=by simpa using e1
     refine H3.st (i:=1) rfl trivial λh4 H4=>?_
     refine H4.st (i:=2) rfl trivial λh5 H5=>?_
     unfold YK9 WD7
     rw [if_neg e,if_neg e,if_pos e1,if_pos e1]
     exact Wt5.2 (H5.drop3q)
    ·have e1:¬ c.algo=1:=by simpa using e1
     refine H3.st (i:=1) rfl trivial λh4 H4=>?_
     refine H4.st (i:=2) rfl trivial λh5 H5=>?_
     unfold YK9 WD7
     rw [if_neg e,if_neg e,if_neg e1,if_neg e1]
     exact Wt5.2 (H5.drop3q)
  ·rintro v24 v25 g26 h27 H4
   exact k1 hc h27 QB M Ts H4
end
end
section
set_option maxRecDepth 100000
def F22 (K:kQ) (h:Wa1) (xa:Option Addr) (xb xc:Nat) (xd:Int):Prop:=
 (cf 49 #[.slice xa xb xc,.func (.func 50) #[] #[.pointer (some (aQ h.size))]] (Array.push h (.cells #[iQ xd] 3)) λa b=>Wb3 a λa c d=>K (.slice a c d) b)
theorem call22 {K:kQ} {h:Wa1} {xa:Option Addr} {xb xc:Nat} {xd:Int} (H:F22 K h xa xb xc xd):Wa4 Tryz.prog 22 #[(.slice xa xb xc),(iQ xd)] h K:=
 cQ Tryz.func22 H
def F23 (K:kQ) (h:Wa1) (xa:Option Addr) (xb xc:Nat) (xd:Int):Prop:=
 (cf 49 #[.slice xa xb xc,.func (.func 51) #[] #[.pointer (some (aQ h.size))]] (Array.push h (.cells #[iQ xd] 3)) λa b=>Wb3 a λa c d=>K (.slice a c d) b)
theorem call23 {K:kQ} {h:Wa1} {xa:Option Addr} {xb xc:Nat} {xd:Int} (H:F23 K h xa xb xc xd):Wa4 Tryz.prog 23 #[(.slice xa xb xc),(iQ xd)] h K:=
 cQ Tryz.func23 H
def F24 (K:kQ) (h:Wa1) (xa:Option Addr) (xb xc:Nat):Prop:=
 (cf 49 #[.slice xa xb xc,.func (.func 53) #[] #[]] h λa b=>Wb3 a λa a c=>K (iQ (a:Int)) b)
theorem call24 {K:kQ} {h:Wa1} {xa:Option Addr} {xb xc:Nat} (H:F24 K h xa xb xc):Wa4 Tryz.prog 24 #[(.slice xa xb xc)] h K:=
 cQ Tryz.func24 H
abbrev g14 (K:kQ) (h H1:Wa1):Prop:=
 (YZ6 H1 h.size λa b c d e f g i j k=>cf 29 #[.agg #[a,b,c,d,e,f,g,i,j,k]] H1 λa b=>asBool a λa=>ifB (!a) (K (.tuple #[.slice none 0 0,iQ 1]) b) (da7 b (aQ h.size) λa c d e f g i=>lS b ⟨h.size,9,none⟩ λj k l=>cf 30 #[.agg #[a,c,d,e,f,g,i],.slice j k l,.bool false] b λa b=>Wg5 a λc=>Wc2 c 0 λc=>Wc8 c λc=>Wg5 a λa=>Wc2 a 1 λa=>asInt .i64 a λa=>ifB (a != 0) (K (.tuple #[.slice none 0 0,iQ a]) b) (YZ6 b h.size λa d e f g i j k l m=>lI .i64 b (Addr.add (aQ h.size) 1) λn=>Wm5 Tryz.prog 3 n n b λb n=>Wb3 b λb o p=>ce n h.size 0 a (ce n h.size 1 d (ce n h.size 2 e (ce n h.size 3 f (ce n h.size 4 g (ce n h.size 5 i (ce n h.size 6 j (ce n h.size 7 k (ce n h.size 8 l (ce n h.size 9 m (cf 31 #[.pointer c] (Array.push n (.cells #[.pointer c,a,d,e,f,g,i,j,k,l,m,.slice b o p,.slice none 0 0] 89)) λa b=>Wc8 a λa=>cf 32 #[.pointer a] b λa b=>Wc8 a λa=>cf 38 #[.pointer a,.bool true] b λa a=>lS a ⟨h.size,8,none⟩ λb c d=>exI λI61=>exM λm62=>(I61 [.tuple #[],iQ 0] a)/\(∀(a d:Value) (e:Env) (e:Wa1),(I61 [a,d] e)->(asInt .i64 d λf=>ifB (decide (f < (c:Int))) (asI d λf=>bd f (c:Int) (Wd1 (.pointer b) λb=>lI .i64 e (Addr.add b (f.toNat*1)) λb=>cf 39 #[.pointer (some (aQ n.size)),iQ b] e λc c=>Wc5 (.pointer (some (aQ n.size))) (lS c ⟨n.size,12,none⟩ λf f g=>cf 40 #[.pointer (some (aQ n.size)),iQ b,iQ (f:Int)] c λc c=>asInt .i64 d λf=>(I61 [iQ b,iQ (IntKind.wrap .i64 (f+1))] c)/\((m62 [iQ b,iQ (IntKind.wrap .i64 (f+1))] c) < (m62 [a,d] e))))) (Wc5 (.pointer (some (aQ n.size))) (lS e ⟨n.size,12,none⟩ λa b c=>K (.tuple #[.slice a b c,iQ 0]) e)))))))))))))))))
def F14 (K:kQ) (h:Wa1) (xa xb xc xd xe xf xg:Int) (xh:Option Addr) (xi xj:Nat) (xk:Option Addr) (xl xm:Nat) (xn:Option Addr) (xo xp:Nat):Prop:=
 (g14 K h (Array.push h (.cells #[iQ xa,iQ xb,iQ xc,iQ xd,iQ xe,iQ xf,iQ xg,.slice xh xi xj,.slice xk xl xm,.slice xn xo xp] 28)))
theorem call14 {K:kQ} {h:Wa1} {xa xb xc xd xe xf xg:Int} {xh:Option Addr} {xi xj:Nat} {xk:Option Addr} {xl xm:Nat} {xn:Option Addr} {xo xp:Nat} (H:F14 K h xa xb xc xd xe xf xg xh xi xj xk xl xm xn xo xp):Wa4 Tryz.prog 14 #[(.agg #[(iQ xa),(iQ xb),(iQ xc),(iQ xd),(iQ xe),(iQ xf),(iQ xg),(.slice xh xi xj),(.slice xk xl xm),(.slice xn xo xp)])] h K:=
 cQ Tryz.func14 H
abbrev g37 (K:kQ) (h H1:Wa1):Prop:=
 (exI λI0=>(lI .i64 H1 ⟨h.size,1,none⟩ λa=>ifB (decide (a < 0)) (I0 [.bool true,.bool true,.bool true,.bool true] H1) (lI .i64 H1 ⟨h.size,1,none⟩ λa=>ifB (decide (a > 5)) (I0 [.bool (decide (a > 5)),.bool true,.bool true,.bool true] H1) (lI .i64 H1 (aQ h.size) λb=>ifB (decide (b < 0)) (I0 [.bool (decide (a > 5)),.bool (decide (b < 0)),.bool true,.bool true] H1) (lI .i64 H1 (aQ h.size) λc=>ifB (decide (c >= 6)) (I0 [.bool (decide (a > 5)),.bool (decide (b < 0)),.bool (decide (c >= 6)),.bool true] H1) (lI .i64 H1 ⟨h.size,4,none⟩ λd=>lI .i64 H1 ⟨h.size,5,none⟩ λe=>lI .i64 H1 ⟨h.size,7,none⟩ λf=>lI .i64 H1 ⟨h.size,8,none⟩ λg=>Wg1 (λi j=>WL7 i j) Tryz.prog 3 [iQ d,iQ e,iQ f,iQ g] λd=>I0 [.bool (decide (a > 5)),.bool (decide (b < 0)),.bool (decide (c >= 6)),.bool (decide (d < 0))] H1)))))/\(∀(a b c d:Value) (e:Env) (e:Wa1),(I0 [a,b,c,d] e)->(asBool d λa=>ifB a (K (.string (⟨#[63]⟩ : ByteArray)) e) (lI .i64 e (aQ h.size) λa=>ldH e ⟨h.size,1,none⟩ λb=>asInt .i64 b λc=>ldH e ⟨h.size,3,none⟩ λd=>asInt .i64 d λf=>ldH e ⟨h.size,4,none⟩ λg=>asInt .i64 g λi=>ldH e ⟨h.size,5,none⟩ λj=>asInt .i64 j λk=>cf 73 #[iQ a] e λa e=>Wd9 a λa=>ce e h.size 5 j (ce e h.size 4 g (ce e h.size 3 d (ce e h.size 1 b (cf 74 #[] e λe l=>asAgg e λe=>Wg6 e 6 (de6 e λe m n o p q=>ce l h.size 5 j (ce l h.size 4 g (ce l h.size 3 d (ce l h.size 1 b (bd c 6 (Wz8 Tryz.prog 9 #[e,m,n,o,p,q] (c.toNat*1) λc=>Wd9 c λc=>cf 75 #[iQ f,iQ i,iQ k] l λd e=>Wd9 d λd=>ce e h.size 1 b (exI λI54=>(lI .i64 (Array.push e (.cells #[.string a,.string c,.string d] 9)) ⟨h.size,1,none⟩ λb=>cf 52 #[iQ b] (Array.push e (.cells #[.string a,.string c,.string d] 9)) λa b=>asBool a λa=>ifB a (lI .i64 b ⟨h.size,6,none⟩ λa=>lI .i64 b ⟨h.size,7,none⟩ λc=>lI .i64 b ⟨h.size,8,none⟩ λd=>cf 75 #[iQ a,iQ c,iQ d] b λa c=>Wd9 a λa=>Wp5 Tryz.prog #[139,139] 139 #[.slice (some (aQ e.size)) 3 3,.slice (some (aQ c.size)) 1 1] (Array.push c (.cells #[.string a] 9)) λa c=>Wb3 a λa d f=>I54 [.slice a d f] c) (I54 [.slice (some (aQ e.size)) 3 3] b))/\(∀(a:Value) (b:Env) (b:Wa1),(I54 [a] b)->(exI λI77=>(lI .i64 b ⟨h.size,1,none⟩ λc=>cf 54 #[iQ c] b λb c=>asBool b λb=>ifB b (exI λI83=>(ldH c ⟨h.size,2,none⟩ λb=>asBool b λb=>ifB b (I83 [.string (⟨#[100,111,110,101]⟩ : ByteArray)] c) (I83 [.string (⟨#[109,105,115,115,101,100]⟩ : ByteArray)] c))/\(∀(b:Value) (d:Env) (d:Wa1),(I83 [b] d)->(Wb3 a λe f g=>Wd9 b λi=>Wp5 Tryz.prog #[139,139] 139 #[.slice e f g,.slice (some (aQ d.size)) 1 1] (Array.push d (.cells #[.string i] 9)) λd e=>Wb3 d λd f g=>I77 [.slice d f g,b] e))) (I77 [a,.tuple #[]] c))/\(∀(a b:Value) (c:Env) (c:Wa1),(I77 [a,b] c)->(Wb3 a λa b d=>cf 76 #[.slice a b d,.string (⟨#[32]⟩ : ByteArray)] c λa b=>Wd9 a λa=>K (.string a) b)))))))))))))))))))
def F37 (K:kQ) (h:Wa1) (xa xb:Int) (xc:Bool) (xd xe xf xg xh xi:Int):Prop:=
 (g37 K h (Array.push h (.cells #[iQ xa,iQ xb,.bool xc,iQ xd,iQ xe,iQ xf,iQ xg,iQ xh,iQ xi] 51)))
theorem call37 {K:kQ} {h:Wa1} {xa xb:Int} {xc:Bool} {xd xe xf xg xh xi:Int} (H:F37 K h xa xb xc xd xe xf xg xh xi):Wa4 Tryz.prog 37 #[(.agg #[(iQ xa),(iQ xb),(.bool xc),(iQ xd),(iQ xe),(iQ xf),(iQ xg),(iQ xh),(iQ xi)])] h K:=
 cQ Tryz.func37 H
def F49 (K:kQ) (h:Wa1) (xa:Option Addr) (xb xc:Nat) (xd:Value):Prop:=
 (Wh0 xd (cf 91 #[.slice xa xb xc] (Array.push h (.cells #[xd] 101)) λa b=>Wb3 a λa c d=>cf 90 #[.slice a c d,.func (.func 92) #[] #[.pointer (some (aQ h.size))]] b λa b=>Wb3 a λa c d=>K (.slice a c d) b))
theorem call49 {K:kQ} {h:Wa1} {xa:Option Addr} {xb xc:Nat} {xd:Value} (H:F49 K h xa xb xc xd):Wa4 Tryz.prog 49 #[(.slice xa xb xc),xd] h K:=
 cQ Tryz.func49 H
abbrev g50 (K:kQ) (h H1:Wa1) (c0:Value):Prop:=
 (lI .i64 H1 (aQ h.size) λa=>Wd1 c0 λb=>lI .i64 H1 b λb=>K (.bool (a == b)) H1)
def F50 (K:kQ) (h:Wa1) (xa xb:Int) (xc:Bool) (xd xe xf xg xh xi:Int) (c0:Value):Prop:=
 (g50 K h (Array.push h (.cells #[iQ xa,iQ xb,.bool xc,iQ xd,iQ xe,iQ xf,iQ xg,iQ xh,iQ xi] 51)) c0)
theorem call50 {K:kQ} {h:Wa1} {xa xb:Int} {xc:Bool} {xd xe xf xg xh xi:Int} {c0:Value} (H:F50 K h xa xb xc xd xe xf xg xh xi c0):Wa4 Tryz.prog 50 #[(.agg #[(iQ xa),(iQ xb),(.bool xc),(iQ xd),(iQ xe),(iQ xf),(iQ xg),(iQ xh),(iQ xi)]),c0] h K:=
 cQ Tryz.func50 H
abbrev g51 (K:kQ) (h H1:Wa1) (c0:Value):Prop:=
 (lI .i64 H1 ⟨h.size,3,none⟩ λa=>ifB (a == 3) (lI .i64 H1 ⟨h.size,4,none⟩ λa=>Wd1 c0 λb=>lI .i64 H1 b λb=>ifB (a == b) (K (.bool true) H1) (lI .i64 H1 ⟨h.size,1,none⟩ λa=>cf 52 #[iQ a] H1 λa b=>asBool a λa=>ifB a (lI .i64 b ⟨h.size,6,none⟩ λa=>ifB (a == 3) (lI .i64 b ⟨h.size,7,none⟩ λa=>Wd1 c0 λc=>lI .i64 b c λc=>K (.bool (a == c)) b) (K (.bool false) b)) (K (.bool false) b))) (lI .i64 H1 ⟨h.size,1,none⟩ λa=>cf 52 #[iQ a] H1 λa b=>asBool a λa=>ifB a (lI .i64 b ⟨h.size,6,none⟩ λa=>ifB (a == 3) (lI .i64 b ⟨h.size,7,none⟩ λa=>Wd1 c0 λc=>lI .i64 b c λc=>K (.bool (a == c)) b) (K (.bool false) b)) (K (.bool false) b)))
def F51 (K:kQ) (h:Wa1) (xa xb:Int) (xc:Bool) (xd xe xf xg xh xi:Int) (c0:Value):Prop:=
 (g51 K h (Array.push h (.cells #[iQ xa,iQ xb,.bool xc,iQ xd,iQ xe,iQ xf,iQ xg,iQ xh,iQ xi] 51)) c0)
theorem call51 {K:kQ} {h:Wa1} {xa xb:Int} {xc:Bool} {xd xe xf xg xh xi:Int} {c0:Value} (H:F51 K h xa xb xc xd xe xf xg xh xi c0):Wa4 Tryz.prog 51 #[(.agg #[(iQ xa),(iQ xb),(.bool xc),(iQ xd),(iQ xe),(iQ xf),(iQ xg),(iQ xh),(iQ xi)]),c0] h K:=
 cQ Tryz.func51 H
def F52 (K:kQ) (h:Wa1) (xa:Int):Prop:=
 (ifB (xa == 4) (K (.bool true) h) (K (.bool (xa == 5)) h))
theorem call52 {K:kQ} {h:Wa1} {xa:Int} (H:F52 K h xa):Wa4 Tryz.prog 52 #[(iQ xa)] h K:=
 cQ Tryz.func52 H
abbrev g53 (K:kQ) (h H1:Wa1):Prop:=
 (lI .i64 H1 ⟨h.size,1,none⟩ λa=>cf 54 #[iQ a] H1 λa b=>asBool a λa=>ifB a (ldH b ⟨h.size,2,none⟩ λa=>asBool a λa=>K (.bool (!a)) b) (K (.bool false) b))
def F53 (K:kQ) (h:Wa1) (xa xb:Int) (xc:Bool) (xd xe xf xg xh xi:Int):Prop:=
 (g53 K h (Array.push h (.cells #[iQ xa,iQ xb,.bool xc,iQ xd,iQ xe,iQ xf,iQ xg,iQ xh,iQ xi] 51)))
theorem call53 {K:kQ} {h:Wa1} {xa xb:Int} {xc:Bool} {xd xe xf xg xh xi:Int} (H:F53 K h xa xb xc xd xe xf xg xh xi):Wa4 Tryz.prog 53 #[(.agg #[(iQ xa),(iQ xb),(.bool xc),(iQ xd),(iQ xe),(iQ xf),(iQ xg),(iQ xh),(iQ xi)])] h K:=
 cQ Tryz.func53 H
def F54 (K:kQ) (h:Wa1) (xa:Int):Prop:=
 (ifB (xa == 2) (K (.bool true) h) (cf 52 #[iQ xa] h λa b=>asBool a λa=>K (.bool a) b))
theorem call54 {K:kQ} {h:Wa1} {xa:Int} (H:F54 K h xa):Wa4 Tryz.prog 54 #[(iQ xa)] h K:=
 cQ Tryz.func54 H
abbrev g29 (K:kQ) (h H1:Wa1):Prop:=
 (exI λI0=>(da7 H1 (aQ h.size) λa b c d e f g=>cf 59 #[.agg #[a,b,c,d,e,f,g]] H1 λa b=>asInt .i64 a λa=>ifB (a != 0) (I0 [.bool true,.bool true,.bool true,.bool true] b) (lS b ⟨h.size,7,none⟩ λa a c=>lI .i64 b (Addr.add (aQ h.size) 1) λc=>ifB ((a:Int) != c) (I0 [.bool ((a:Int) != c),.bool true,.bool true,.bool true] b) (YZ6 b h.size λd e f g i j k l m n=>cf 60 #[.agg #[d,e,f,g,i,j,k,l,m,n]] b λb d=>asInt .i64 b λb=>ifB (decide (b > 48)) (I0 [.bool ((a:Int) != c),.bool (decide (b > 48)),.bool true,.bool true] d) (lS d ⟨h.size,8,none⟩ λe e f=>ifB (decide ((e:Int) > 60000)) (I0 [.bool ((a:Int) != c),.bool (decide (b > 48)),.bool (decide ((e:Int) > 60000)),.bool true] d) (lS d ⟨h.size,9,none⟩ λf f g=>I0 [.bool ((a:Int) != c),.bool (decide (b > 48)),.bool (decide ((e:Int) > 60000)),.bool (decide ((f:Int) > 4096))] d)))))/\(∀(a b c d:Value) (e:Env) (e:Wa1),(I0 [a,b,c,d] e)->(asBool d λa=>ifB a (K (.bool false) e) (lS e ⟨h.size,7,none⟩ λa b c=>exI λI49=>exM λm50=>(I49 [.bool false,.tuple #[],iQ 0,.tuple #[]] e)/\(∀(c d e f:Value) (g:Env) (g:Wa1),(I49 [c,d,e,f] g)->(asInt .i64 e λi=>ifB (decide (i < (b:Int))) (asI e λi=>bd i (b:Int) (Wd1 (.pointer a) λa=>lS g (Addr.add a (i.toNat*1)) λa b i=>exI λI64=>exM λm65=>(I64 [c,iQ 0] g)/\(∀(j k:Value) (l:Env) (l:Wa1),(I64 [j,k] l)->(asInt .i64 k λm=>ifB (decide (m < (b:Int))) (asI k λm=>bd m (b:Int) (Wd1 (.pointer a) λn=>ldH l (Addr.add n (m.toNat*3)) λo=>ldH l (Addr.add (Addr.add n (m.toNat*3)) 1) λp=>ldH l (Addr.add (Addr.add n (m.toNat*3)) 2) λm=>stH (Array.push l (.cells #[iQ 0,.int .u32 0,.int .u32 0] 41)) (aQ l.size) o λn=>stH n ⟨l.size,1,none⟩ p λn=>stH n ⟨l.size,2,none⟩ m λm=>dl3 m l.size λn o p=>cf 61 #[.agg #[n,o,p]] m λm n=>asBool m λm=>ifB (!m) (K (.bool false) n) (asInt .i64 k λm=>(I64 [j,iQ (IntKind.wrap .i64 (m+1))] n)/\((m65 [j,iQ (IntKind.wrap .i64 (m+1))] n) < (m65 [j,k] l))))) (asInt .i64 e λm=>(I49 [j,.slice a b i,iQ (IntKind.wrap .i64 (m+1)),k] l)/\((m50 [j,.slice a b i,iQ (IntKind.wrap .i64 (m+1)),k] l) < (m50 [c,d,e,f] g))))))) (lS g ⟨h.size,8,none⟩ λa b d=>exI λI91=>exM λm92=>(I91 [c,.tuple #[],iQ 0] g)/\(∀(c d e:Value) (f:Env) (f:Wa1),(I91 [c,d,e] f)->(asInt .i64 e λg=>ifB (decide (g < (b:Int))) (asI e λg=>bd g (b:Int) (Wd1 (.pointer a) λa=>lI .i64 f (Addr.add a (g.toNat*1)) λa=>exI λI103=>(ifB (decide (a < 0)) (I103 [.bool true] f) (lI .i64 f (Addr.add (aQ h.size) 1) λb=>I103 [.bool (decide (a >= b))] f))/\(∀(b:Value) (g:Env) (g:Wa1),(I103 [b] g)->(asBool b λb=>ifB b (K (.bool false) g) (asInt .i64 e λb=>(I91 [c,iQ a,iQ (IntKind.wrap .i64 (b+1))] g)/\((m92 [c,iQ a,iQ (IntKind.wrap .i64 (b+1))] g) < (m92 [c,d,e] f))))))) (K (.bool true) f))))))))))
def F29 (K:kQ) (h:Wa1) (xa xb xc xd xe xf xg:Int) (xh:Option Addr) (xi xj:Nat) (xk:Option Addr) (xl xm:Nat) (xn:Option Addr) (xo xp:Nat):Prop:=
 (g29 K h (Array.push h (.cells #[iQ xa,iQ xb,iQ xc,iQ xd,iQ xe,iQ xf,iQ xg,.slice xh xi xj,.slice xk xl xm,.slice xn xo xp] 28)))
theorem call29 {K:kQ} {h:Wa1} {xa xb xc xd xe xf xg:Int} {xh:Option Addr} {xi xj:Nat} {xk:Option Addr} {xl xm:Nat} {xn:Option Addr} {xo xp:Nat} (H:F29 K h xa xb xc xd xe xf xg xh xi xj xk xl xm xn xo xp):Wa4 Tryz.prog 29 #[(.agg #[(iQ xa),(iQ xb),(iQ xc),(iQ xd),(iQ xe),(iQ xf),(iQ xg),(.slice xh xi xj),(.slice xk xl xm),(.slice xn xo xp)])] h K:=
 cQ Tryz.func29 H
def F39 (K:kQ) (h:Wa1) (xa:Option Addr) (xb:Int):Prop:=
 (exI λI0=>(nP xa λa=>lP h a λa=>cf 66 #[.pointer a,iQ xb] h λa b=>asBool a λa=>ifB (!a) (nP xa λa=>lS b (Addr.add a 11) λa c d=>bd xb (c:Int) (Wd1 (.pointer a) λa=>lI .i64 b (Addr.add a (xb.toNat*1)) λa=>nP xa λc=>lS b (Addr.add c 8) λc d e=>bd xb (d:Int) (Wd1 (.pointer c) λc=>lS b (Addr.add c (xb.toNat*1)) λc c d=>ifB (decide (a >= (c:Int))) (K (.tuple #[]) b) (nP xa λa=>lP b a λa=>nP xa λc=>lS b (Addr.add c 8) λc d e=>bd xb (d:Int) (Wd1 (.pointer c) λc=>lS b (Addr.add c (xb.toNat*1)) λc d e=>nP xa λe=>lS b (Addr.add e 11) λe f g=>bd xb (f:Int) (Wd1 (.pointer e) λe=>lI .i64 b (Addr.add e (xb.toNat*1)) λe=>bd e (d:Int) (Wd1 (.pointer c) λc=>ldH b (Addr.add c (e.toNat*3)) λd=>ldH b (Addr.add (Addr.add c (e.toNat*3)) 1) λf=>ldH b (Addr.add (Addr.add c (e.toNat*3)) 2) λc=>cf 77 #[.pointer a,iQ xb,.agg #[d,f,c]] b λa c=>asInt .i64 a λa=>nP xa λa=>lS c (Addr.add a 11) λa d e=>bd xb (d:Int) (Wd1 (.pointer a) λe=>lI .i64 c (Addr.add e (xb.toNat*1)) λe=>bd xb (d:Int) (Wd1 (.pointer a) λa=>stH c (Addr.add a (xb.toNat*1)) (iQ (IntKind.wrap .i64 (e+1))) λa=>I0 [] a))))))))) (I0 [] b))/\(∀(a:Env) (a:Wa1),(I0 [] a)->(nP xa λb=>lP a b λb=>cf 68 #[.pointer b,iQ xb] a λa a=>K (.tuple #[]) a)))
theorem call39 {K:kQ} {h:Wa1} {xa:Option Addr} {xb:Int} (H:F39 K h xa xb):Wa4 Tryz.prog 39 #[(.pointer xa),(iQ xb)] h K:=
 cQ Tryz.func39 H
def F40 (K:kQ) (h:Wa1) (xa:Option Addr) (xb xc:Int):Prop:=
 (nP xa λa=>lP h a λa=>cf 31 #[.pointer a] h λa b=>Wc8 a λa=>cf 32 #[.pointer a] b λb c=>Wc8 b λb=>cf 78 #[.pointer b] c λb c=>Wb3 b λb d e=>Wg1 (λf g=>WL7 f g) Tryz.prog 3 [iQ xc,iQ (d:Int)] λf=>((0:Int)<=f)/\(((f:Int)<=(d:Int))/\(exI λI17=>exM λm18=>(I17 [iQ 0,.tuple #[],.tuple #[]] c)/\(∀(c g i:Value) (j:Env) (j:Wa1),(I17 [c,g,i] j)->(asInt .i64 c λk=>ifB (decide (k < (((d - f.toNat):Nat):Int))) (asI c λk=>((0:Int)<=k)/\(((k:Int) < (((d - f.toNat):Nat):Int))/\(Wd1 (.pointer (WM9 b f.toNat e 4)) λb=>ldH j (Addr.add b (k.toNat*4)) λd=>ldH j (Addr.add (Addr.add b (k.toNat*4)) 1) λe=>ldH j (Addr.add (Addr.add b (k.toNat*4)) 2) λf=>ldH j (Addr.add (Addr.add b (k.toNat*4)) 3) λb=>stH (Array.push j (.cells #[iQ 0,iQ 0,iQ 0,.bool false] 144)) (aQ j.size) d λd=>stH d ⟨j.size,1,none⟩ e λd=>stH d ⟨j.size,2,none⟩ f λd=>stH d ⟨j.size,3,none⟩ b λb=>lI .i64 b (aQ j.size) λd=>ldH b ⟨j.size,3,none⟩ λe=>asBool e λe=>stH (Array.push b (.cells #[iQ 0,iQ 0,.bool false,iQ 0,iQ 0,iQ 0,iQ 0,iQ 0,iQ 0] 51)) (aQ b.size) (iQ xb) λf=>stH f ⟨b.size,1,none⟩ (iQ d) λd=>stH d ⟨b.size,2,none⟩ (.bool e) λd=>stH d ⟨b.size,3,none⟩ (iQ 0) λd=>stH d ⟨b.size,4,none⟩ (iQ 0) λd=>stH d ⟨b.size,5,none⟩ (iQ 0) λd=>stH d ⟨b.size,6,none⟩ (iQ 0) λd=>stH d ⟨b.size,7,none⟩ (iQ 0) λd=>stH d ⟨b.size,8,none⟩ (iQ 0) λd=>ldH d ⟨j.size,1,none⟩ λe=>asInt .i64 e λf=>cf 79 #[.pointer a] d λd k=>asAgg d λd=>Wg6 d 15 (Ww2 d λd l m n o p q r s t u v w x y=>ce k j.size 1 e (cf 80 #[.agg #[d,l,m,n,o,p,q,r,s,t,u,v,w,x,y],iQ f] k λd e=>Wg5 d λf=>Wc2 f 0 λf=>asInt .i64 f λf=>Wg5 d λk=>Wc2 k 1 λk=>asInt .i64 k λk=>Wg5 d λl=>Wc2 l 2 λl=>asInt .i64 l λl=>stH e ⟨b.size,3,none⟩ (iQ f) λe=>stH e ⟨b.size,4,none⟩ (iQ k) λe=>stH e ⟨b.size,5,none⟩ (iQ l) λe=>ldH e ⟨j.size,2,none⟩ λf=>asInt .i64 f λk=>cf 79 #[.pointer a] e λa e=>asAgg a λa=>Wg6 a 15 (Ww2 a λa l m n o p q r s t u v w x y=>ce e j.size 2 f (cf 80 #[.agg #[a,l,m,n,o,p,q,r,s,t,u,v,w,x,y],iQ k] e λa e=>Wg5 a λf=>Wc2 f 0 λf=>asInt .i64 f λf=>Wg5 a λk=>Wc2 k 1 λk=>asInt .i64 k λk=>Wg5 a λl=>Wc2 l 2 λl=>asInt .i64 l λl=>stH e ⟨b.size,6,none⟩ (iQ f) λe=>stH e ⟨b.size,7,none⟩ (iQ k) λe=>stH e ⟨b.size,8,none⟩ (iQ l) λe=>nP xa λf=>ldH e (Addr.add f 12) λk=>Wb3 k λl m n=>dl9 e b.size λb o p q r s t u v=>((Wa3 (Array.push e (.cells #[b,o,p,q,r,s,t,u,v] 51)) (Addr.add f 12))=(some k))/\(Wp5 Tryz.prog #[47,47] 47 #[.slice l m n,.slice (some (aQ e.size)) 1 1] (Array.push e (.cells #[b,o,p,q,r,s,t,u,v] 51)) λb e=>Wb3 b λb f k=>nP xa λl=>stH e (Addr.add l 12) (.slice b f k) λb=>asInt .i64 c λe=>(I17 [iQ (IntKind.wrap .i64 (e+1)),d,a] b)/\((m18 [iQ (IntKind.wrap .i64 (e+1)),d,a] b) < (m18 [c,g,i] j)))))))))) (K (.tuple #[]) j))))))
theorem call40 {K:kQ} {h:Wa1} {xa:Option Addr} {xb xc:Int} (H:F40 K h xa xb xc):Wa4 Tryz.prog 40 #[(.pointer xa),(iQ xb),(iQ xc)] h K:=
 cQ Tryz.func40 H
def F73 (K:kQ) (h:Wa1) (xa:Int):Prop:=
 (cf 128 #[.agg #[iQ 2,.int .u32 (IntKind.wrap .u32 xa),.int .u32 0]] h λa b=>Wd9 a λa=>cf 127 #[.string a,.string (⟨#[32,48]⟩ : ByteArray)] b λa b=>Wd9 a λa=>K (.string a) b)
theorem call73 {K:kQ} {h:Wa1} {xa:Int} (H:F73 K h xa):Wa4 Tryz.prog 73 #[(iQ xa)] h K:=
 cQ Tryz.func73 H
def F74 (K:kQ) (h:Wa1)  : Prop:=
 (stH (Array.push h (.cells #[.string (⟨#[]⟩ : ByteArray),.string (⟨#[]⟩ : ByteArray),.string (⟨#[]⟩ : ByteArray),.string (⟨#[]⟩ : ByteArray),.string (⟨#[]⟩ : ByteArray),.string (⟨#[]⟩ : ByteArray)] 136)) (aQ h.size) (.string (⟨#[108,111,97,100]⟩ : ByteArray)) λa=>stH a ⟨h.size,1,none⟩ (.string (⟨#[115,116,111,114,101]⟩ : ByteArray)) λa=>stH a ⟨h.size,2,none⟩ (.string (⟨#[99,97,115]⟩ : ByteArray)) λa=>stH a ⟨h.size,3,none⟩ (.string (⟨#[97,100,100]⟩ : ByteArray)) λa=>stH a ⟨h.size,4,none⟩ (.string (⟨#[100,99,97,115]⟩ : ByteArray)) λa=>stH a ⟨h.size,5,none⟩ (.string (⟨#[100,99,115,115]⟩ : ByteArray)) λa=>dl6 a h.size λb c d e f g=>K (.agg #[b,c,d,e,f,g]) a)
theorem call74 {K:kQ} {h:Wa1}  (H:F74 K h ):Wa4 Tryz.prog 74 #[] h K:=
 cQ Tryz.func74 H
def F75 (K:kQ) (h:Wa1) (xa xb xc:Int):Prop:=
 (ifB (xa == 0) (cf 73 #[iQ xb] h λa b=>Wd9 a λa=>(((((5+a.size):Nat):Int):Int)<=9223372036854775807)/\(K (.string ((⟨#[119,111,114,100,32]⟩ : ByteArray) ++ a)) b)) (ifB (xa == 1) (cf 73 #[iQ xb] h λa b=>Wd9 a λa=>(((((5+a.size):Nat):Int):Int)<=9223372036854775807)/\((((((((⟨#[115,108,111,116,32]⟩ : ByteArray) ++ a).size+1):Nat):Int):Int)<=9223372036854775807)/\(cf 73 #[iQ xc] b λb c=>Wd9 b λb=>((((((((⟨#[115,108,111,116,32]⟩ : ByteArray) ++ a) ++ (⟨#[32]⟩ : ByteArray)).size+b.size):Nat):Int):Int)<=9223372036854775807)/\(K (.string ((((⟨#[115,108,111,116,32]⟩ : ByteArray) ++ a) ++ (⟨#[32]⟩ : ByteArray)) ++ b)) c)))) (ifB (xa == 2) (cf 73 #[iQ xb] h λa b=>Wd9 a λa=>(((((5+a.size):Nat):Int):Int)<=9223372036854775807)/\(K (.string ((⟨#[108,105,110,107,32]⟩ : ByteArray) ++ a)) b)) (ifB (xa == 3) (cf 73 #[iQ xb] h λa b=>Wd9 a λa=>(((((5+a.size):Nat):Int):Int)<=9223372036854775807)/\((((((((⟨#[110,111,100,101,32]⟩ : ByteArray) ++ a).size+1):Nat):Int):Int)<=9223372036854775807)/\(cf 73 #[iQ xc] b λb c=>Wd9 b λb=>((((((((⟨#[110,111,100,101,32]⟩ : ByteArray) ++ a) ++ (⟨#[32]⟩ : ByteArray)).size+b.size):Nat):Int):Int)<=9223372036854775807)/\(K (.string ((((⟨#[110,111,100,101,32]⟩ : ByteArray) ++ a) ++ (⟨#[32]⟩ : ByteArray)) ++ b)) c)))) (ifB (xa == 4) (cf 73 #[iQ xb] h λa b=>Wd9 a λa=>(((((5+a.size):Nat):Int):Int)<=9223372036854775807)/\(K (.string ((⟨#[116,114,101,101,32]⟩ : ByteArray) ++ a)) b)) (K (.string (⟨#[110,111,110,101]⟩ : ByteArray)) h))))))
theorem call75 {K:kQ} {h:Wa1} {xa xb xc:Int} (H:F75 K h xa xb xc):Wa4 Tryz.prog 75 #[(iQ xa),(iQ xb),(iQ xc)] h K:=
 cQ Tryz.func75 H
def F76 (K:kQ) (h:Wa1) (xa:Option Addr) (xb xc:Nat) (xd:ByteArray):Prop:=
 (ifB (((xb:Nat):Int) == 0) (K (.string (⟨#[]⟩ : ByteArray)) h) (ifB (((xb:Nat):Int) == 1) (bd 0 ((xb:Nat):Int) (Wd1 (.pointer xa) λa=>ldH h a λa=>Wd9 a λa=>K (.string a) h)) (exI λI3=>(ifB (decide (((xd.size:Nat):Int) > 0)) (exI λI4=>((((IntKind.wrap .i64 (((xb:Nat):Int) - 1)):Int)≠0)/\(ifB (decide (((xd.size:Nat):Int) >= (IntKind.wrap .i64 (Int.tdiv 9223372036854775807 (IntKind.wrap .i64 (((xb:Nat):Int) - 1)))))) False (I4 [] h)))/\(∀(a:Env) (a:Wa1),(I4 [] a)->(I3 [iQ (IntKind.wrap .i64 (0+(IntKind.wrap .i64 (((xd.size:Nat):Int)*(IntKind.wrap .i64 (((xb:Nat):Int) - 1))))))] a))) (I3 [iQ 0] h))/\(∀(a:Value) (b:Env) (b:Wa1),(I3 [a] b)->(exI λI10=>exM λm11=>(I10 [a,.tuple #[],iQ 0] b)/\(∀(a b c:Value) (d:Env) (d:Wa1),(I10 [a,b,c] d)->(asInt .i64 c λe=>ifB (decide (e < ((xb:Nat):Int))) (asI c λe=>bd e ((xb:Nat):Int) (Wd1 (.pointer xa) λf=>ldH d (Addr.add f (e.toNat*1)) λe=>Wd9 e λe=>exI λI22=>(asInt .i64 a λf=>ifB (decide (((e.size:Nat):Int) > (IntKind.wrap .i64 (9223372036854775807 - f)))) False (I22 [] d))/\(∀(f:Env) (f:Wa1),(I22 [] f)->(asInt .i64 a λg=>asInt .i64 c λi=>(I10 [iQ (IntKind.wrap .i64 (g+((e.size:Nat):Int))),.string e,iQ (IntKind.wrap .i64 (i+1))] f)/\((m11 [iQ (IntKind.wrap .i64 (g+((e.size:Nat):Int))),.string e,iQ (IntKind.wrap .i64 (i+1))] f) < (m11 [a,b,c] d)))))) (asInt .i64 a λa=>cf 129 #[.pointer (some (aQ d.size)),iQ a] (Array.push d (.cells #[.pointer none,.slice none 0 0] 162)) λa a=>bd 0 ((xb:Nat):Int) (Wd1 (.pointer xa) λb=>ldH a b λb=>Wd9 b λb=>cf 94 #[.pointer (some (aQ d.size)),.string b] a λa a=>((0:Int)<=1)/\(((1:Int)<=((xb:Nat):Int))/\(exI λI36=>exM λm37=>(I36 [.tuple #[],iQ 0] a)/\(∀(a b:Value) (c:Env) (c:Wa1),(I36 [a,b] c)->(asInt .i64 b λe=>ifB (decide (e < (((xb - 1):Nat):Int))) (asI b λe=>((0:Int)<=e)/\(((e:Int) < (((xb - 1):Nat):Int))/\(Wd1 (.pointer (WM9 xa 1 xc 1)) λf=>ldH c (Addr.add f (e.toNat*1)) λe=>Wd9 e λe=>cf 94 #[.pointer (some (aQ d.size)),.string xd] c λf f=>cf 94 #[.pointer (some (aQ d.size)),.string e] f λf f=>asInt .i64 b λg=>(I36 [.string e,iQ (IntKind.wrap .i64 (g+1))] f)/\((m37 [.string e,iQ (IntKind.wrap .i64 (g+1))] f) < (m37 [a,b] c))))) (cf 97 #[.pointer (some (aQ d.size))] c λa b=>Wd9 a λa=>K (.string a) b))))))))))))))
theorem call76 {K:kQ} {h:Wa1} {xa:Option Addr} {xb xc:Nat} {xd:ByteArray} (H:F76 K h xa xb xc xd):Wa4 Tryz.prog 76 #[(.slice xa xb xc),(.string xd)] h K:=
 cQ Tryz.func76 H
def F90 (K:kQ) (h:Wa1) (xa:Option Addr) (xb xc:Nat) (xd:Value):Prop:=
 (cf 135 #[.slice xa xb xc,xd] h λa b=>asInt .i64 a λa=>ifB (a == (-1)) (K (.slice xa xb xc) b) (exI λI3=>exM λm4=>(I3 [iQ a,iQ (IntKind.wrap .i64 (a+1))] b)/\(∀(a b:Value) (c:Env) (c:Wa1),(I3 [a,b] c)->(asInt .i64 b λd=>ifB (decide (d < ((xb:Nat):Int))) (exI λI10=>(asInt .i64 b λd=>bd d ((xb:Nat):Int) (Wd1 (.pointer xa) λe=>ldH c (Addr.add e (d.toNat*9)) λf=>ldH c (Addr.add (Addr.add e (d.toNat*9)) 1) λg=>ldH c (Addr.add (Addr.add e (d.toNat*9)) 2) λi=>ldH c (Addr.add (Addr.add e (d.toNat*9)) 3) λj=>ldH c (Addr.add (Addr.add e (d.toNat*9)) 4) λk=>ldH c (Addr.add (Addr.add e (d.toNat*9)) 5) λl=>ldH c (Addr.add (Addr.add e (d.toNat*9)) 6) λm=>ldH c (Addr.add (Addr.add e (d.toNat*9)) 7) λn=>ldH c (Addr.add (Addr.add e (d.toNat*9)) 8) λd=>stH (Array.push c (.cells #[iQ 0,iQ 0,.bool false,iQ 0,iQ 0,iQ 0,iQ 0,iQ 0,iQ 0] 51)) (aQ c.size) f λe=>stH e ⟨c.size,1,none⟩ g λe=>stH e ⟨c.size,2,none⟩ i λe=>stH e ⟨c.size,3,none⟩ j λe=>stH e ⟨c.size,4,none⟩ k λe=>stH e ⟨c.size,5,none⟩ l λe=>stH e ⟨c.size,6,none⟩ m λe=>stH e ⟨c.size,7,none⟩ n λe=>stH e ⟨c.size,8,none⟩ d λd=>dl9 d c.size λe f g i j k l m n=>Wl3 Tryz.prog xd #[.agg #[e,f,g,i,j,k,l,m,n]] d λd e=>asBool d λd=>ifB (!d) (asInt .i64 a λd=>dl9 e c.size λf g i j k l m n o=>bd d ((xb:Nat):Int) (Wd1 (.pointer xa) λp=>stH e (Addr.add p (d.toNat*9)) f λf=>stH f (Addr.add (Addr.add p (d.toNat*9)) 1) g λf=>stH f (Addr.add (Addr.add p (d.toNat*9)) 2) i λf=>stH f (Addr.add (Addr.add p (d.toNat*9)) 3) j λf=>stH f (Addr.add (Addr.add p (d.toNat*9)) 4) k λf=>stH f (Addr.add (Addr.add p (d.toNat*9)) 5) l λf=>stH f (Addr.add (Addr.add p (d.toNat*9)) 6) m λf=>stH f (Addr.add (Addr.add p (d.toNat*9)) 7) n λf=>stH f (Addr.add (Addr.add p (d.toNat*9)) 8) o λd=>asInt .i64 a λf=>I10 [iQ (IntKind.wrap .i64 (f+1))] d)) (I10 [a] e)))/\(∀(d:Value) (e:Env) (e:Wa1),(I10 [d] e)->(asInt .i64 b λf=>(I3 [d,iQ (IntKind.wrap .i64 (f+1))] e)/\((m4 [d,iQ (IntKind.wrap .i64 (f+1))] e) < (m4 [a,b] c))))) (asInt .i64 a λb=>((0:Int)<=b)/\(((b:Int)<=((xb:Nat):Int))/\(Y44 Tryz.prog #[47] 0 #[.slice (WM9 xa b.toNat xc 9) (xb - b.toNat) (xc - b.toNat)] c λb b=>asInt .i64 a λa=>((0:Int)<=a)/\(((a:Int)<=((xc:Nat):Int))/\(K (.slice (WM9 xa 0 xc 9) (a.toNat - 0) (xc - 0)) b)))))))))
theorem call90 {K:kQ} {h:Wa1} {xa:Option Addr} {xb xc:Nat} {xd:Value} (H:F90 K h xa xb xc xd):Wa4 Tryz.prog 90 #[(.slice xa xb xc),xd] h K:=
 cQ Tryz.func90 H
def F91 (K:kQ) (h:Wa1) (xa:Option Addr) (xb xc:Nat):Prop:=
 (ifB (Option.isNone xa) (K (.slice none 0 0) h) (Wp5 Tryz.prog #[47,47] 47 #[.slice (some (aQ h.size)) 0 0,.slice xa xb xc] (Array.push h (.cells #[] 51)) λa b=>Wb3 a λa c d=>K (.slice a c d) b))
theorem call91 {K:kQ} {h:Wa1} {xa:Option Addr} {xb xc:Nat} (H:F91 K h xa xb xc):Wa4 Tryz.prog 91 #[(.slice xa xb xc)] h K:=
 cQ Tryz.func91 H
abbrev g92 (K:kQ) (h H1:Wa1) (c0:Value):Prop:=
 (Wd1 c0 λa=>ldH H1 a λa=>dl9 H1 h.size λb c d e f g i j k=>Wl3 Tryz.prog a #[.agg #[b,c,d,e,f,g,i,j,k]] H1 λa b=>asBool a λa=>K (.bool (!a)) b)
def F92 (K:kQ) (h:Wa1) (xa xb:Int) (xc:Bool) (xd xe xf xg xh xi:Int) (c0:Value):Prop:=
 (g92 K h (Array.push h (.cells #[iQ xa,iQ xb,.bool xc,iQ xd,iQ xe,iQ xf,iQ xg,iQ xh,iQ xi] 51)) c0)
theorem call92 {K:kQ} {h:Wa1} {xa xb:Int} {xc:Bool} {xd xe xf xg xh xi:Int} {c0:Value} (H:F92 K h xa xb xc xd xe xf xg xh xi c0):Wa4 Tryz.prog 92 #[(.agg #[(iQ xa),(iQ xb),(.bool xc),(iQ xd),(iQ xe),(iQ xf),(iQ xg),(iQ xh),(iQ xi)]),c0] h K:=
 cQ Tryz.func92 H
abbrev g60 (K:kQ) (h H1:Wa1):Prop:=
 (lS H1 ⟨h.size,7,none⟩ λa b c=>exI λI4=>exM λm5=>(I4 [iQ 0,.tuple #[],iQ 0] H1)/\(∀(c d e:Value) (f:Env) (f:Wa1),(I4 [c,d,e] f)->(asInt .i64 e λg=>ifB (decide (g < (b:Int))) (asI e λg=>bd g (b:Int) (Wd1 (.pointer a) λa=>lS f (Addr.add a (g.toNat*1)) λa b g=>asInt .i64 c λi=>asInt .i64 e λj=>(I4 [iQ (IntKind.wrap .i64 (i+(b:Int))),.slice a b g,iQ (IntKind.wrap .i64 (j+1))] f)/\((m5 [iQ (IntKind.wrap .i64 (i+(b:Int))),.slice a b g,iQ (IntKind.wrap .i64 (j+1))] f) < (m5 [c,d,e] f)))) (asInt .i64 c λa=>K (iQ a) f))))
def F60 (K:kQ) (h:Wa1) (xa xb xc xd xe xf xg:Int) (xh:Option Addr) (xi xj:Nat) (xk:Option Addr) (xl xm:Nat) (xn:Option Addr) (xo xp:Nat):Prop:=
 (g60 K h (Array.push h (.cells #[iQ xa,iQ xb,iQ xc,iQ xd,iQ xe,iQ xf,iQ xg,.slice xh xi xj,.slice xk xl xm,.slice xn xo xp] 28)))
theorem call60 {K:kQ} {h:Wa1} {xa xb xc xd xe xf xg:Int} {xh:Option Addr} {xi xj:Nat} {xk:Option Addr} {xl xm:Nat} {xn:Option Addr} {xo xp:Nat} (H:F60 K h xa xb xc xd xe xf xg xh xi xj xk xl xm xn xo xp):Wa4 Tryz.prog 60 #[(.agg #[(iQ xa),(iQ xb),(iQ xc),(iQ xd),(iQ xe),(iQ xf),(iQ xg),(.slice xh xi xj),(.slice xk xl xm),(.slice xn xo xp)])] h K:=
 cQ Tryz.func60 H
def F135 (K:kQ) (h:Wa1) (xa:Option Addr) (xb xc:Nat) (xd:Value):Prop:=
 (exI λI0=>exM λm1=>(I0 [iQ 0,.tuple #[],iQ 0] h)/\(∀(a b c:Value) (d:Env) (d:Wa1),(I0 [a,b,c] d)->(asInt .i64 c λe=>ifB (decide (e < ((xb:Nat):Int))) (asInt .i64 c λe=>bd e ((xb:Nat):Int) (Wd1 (.pointer xa) λf=>ldH d (Addr.add f (e.toNat*9)) λg=>ldH d (Addr.add (Addr.add f (e.toNat*9)) 1) λi=>ldH d (Addr.add (Addr.add f (e.toNat*9)) 2) λj=>ldH d (Addr.add (Addr.add f (e.toNat*9)) 3) λk=>ldH d (Addr.add (Addr.add f (e.toNat*9)) 4) λl=>ldH d (Addr.add (Addr.add f (e.toNat*9)) 5) λm=>ldH d (Addr.add (Addr.add f (e.toNat*9)) 6) λn=>ldH d (Addr.add (Addr.add f (e.toNat*9)) 7) λo=>ldH d (Addr.add (Addr.add f (e.toNat*9)) 8) λf=>Wl3 Tryz.prog xd #[.agg #[g,i,j,k,l,m,n,o,f]] d λf g=>asBool f λf=>ifB f (K (iQ e) g) (asInt .i64 c λf=>(I0 [a,iQ e,iQ (IntKind.wrap .i64 (f+1))] g)/\((m1 [a,iQ e,iQ (IntKind.wrap .i64 (f+1))] g) < (m1 [a,b,c] d))))) (K (iQ (-1)) d))))
theorem call135 {K:kQ} {h:Wa1} {xa:Option Addr} {xb xc:Nat} {xd:Value} (H:F135 K h xa xb xc xd):Wa4 Tryz.prog 135 #[(.slice xa xb xc),xd] h K:=
 cQ Tryz.func135 H
abbrev g13 (K:kQ) (h H1 H2:Wa1):Prop:=
 (cf 14 #[.agg #[iQ 0,iQ 1,iQ 2,iQ 1,iQ 1,iQ 1,iQ 1,.slice (some (aQ H1.size)) 1 1,.slice (some (aQ H2.size)) 1 1,.slice none 0 0]] (Array.push H2 (.cells #[iQ 0] 3)) λa b=>Wg5 a λc=>Wc2 c 0 λc=>Wb3 c λc d e=>Wg5 a λa=>Wc2 a 1 λa=>asInt .i64 a λa=>ifB (a == 0) (ifB ((d:Int) == 1) (bd 0 (d:Int) (Wd1 (.pointer c) λa=>da9 b a λa c d e f g h i j=>cf 37 #[.agg #[a,c,d,e,f,g,h,i,j]] b λa c=>Wd9 a λa=>K (.bool (a.toList == (⟨#[48,32,108,111,97,100,32,119,111,114,100,32,48]⟩ : ByteArray).toList)) c)) (K (.bool false) b)) (K (.bool false) b))
def F13 (K:kQ) (h:Wa1)  : Prop:=
 (g13 K h (Array.push h (.cells #[iQ 0,.int .u32 1,.int .u32 0] 41)) (Array.push (Array.push h (.cells #[iQ 0,.int .u32 1,.int .u32 0] 41)) (.cells #[.slice (some (aQ h.size)) 1 1] 58)))
theorem call13 {K:kQ} {h:Wa1}  (H:F13 K h ):Wa4 Tryz.prog 13 #[] h K:=
 cQ Tryz.func13 H
def F6 (K:kQ) (h:Wa1) (xa:Option Addr) (xb xc:Nat) (xd xe:Int):Prop:=
 (ifB (decide (((xb:Nat):Int) > 200)) (cf 13 #[] h λa b=>asBool a λa=>K (.bool a) b) (cf 22 #[.slice xa xb xc,iQ xd] h λa b=>Wb3 a λa c d=>cf 23 #[.slice xa xb xc,iQ xe] b λb d=>Wb3 b λb e f=>exI λI13=>exM λm14=>(I13 [.bool false,iQ 0,iQ 0,iQ 0,iQ 0] d)/\(∀(d f g i j:Value) (k:Env) (k:Wa1),(I13 [d,f,g,i,j] k)->(asInt .i64 j λl=>ifB (decide (l < ((xb:Nat):Int))) (exI λI23=>(asInt .i64 j λl=>bd l ((xb:Nat):Int) (Wd1 (.pointer xa) λm=>ldH k (Addr.add m (l.toNat*9)) λn=>ldH k (Addr.add (Addr.add m (l.toNat*9)) 1) λo=>ldH k (Addr.add (Addr.add m (l.toNat*9)) 2) λp=>ldH k (Addr.add (Addr.add m (l.toNat*9)) 3) λq=>ldH k (Addr.add (Addr.add m (l.toNat*9)) 4) λr=>ldH k (Addr.add (Addr.add m (l.toNat*9)) 5) λs=>ldH k (Addr.add (Addr.add m (l.toNat*9)) 6) λt=>ldH k (Addr.add (Addr.add m (l.toNat*9)) 7) λu=>ldH k (Addr.add (Addr.add m (l.toNat*9)) 8) λl=>stH (Array.push k (.cells #[iQ 0,iQ 0,.bool false,iQ 0,iQ 0,iQ 0,iQ 0,iQ 0,iQ 0] 51)) (aQ k.size) n λm=>stH m ⟨k.size,1,none⟩ o λm=>stH m ⟨k.size,2,none⟩ p λm=>stH m ⟨k.size,3,none⟩ q λm=>stH m ⟨k.size,4,none⟩ r λm=>stH m ⟨k.size,5,none⟩ s λm=>stH m ⟨k.size,6,none⟩ t λm=>stH m ⟨k.size,7,none⟩ u λm=>stH m ⟨k.size,8,none⟩ l λl=>exI λI44=>(lI .i64 l (aQ k.size) λm=>ifB (m == xd) (exI λI47=>(asInt .i64 f λm=>ifB (decide (m >= (c:Int))) (I47 [.bool true] l) (asInt .i64 f λm=>bd m (c:Int) (Wd1 (.pointer a) λa=>ldH l (Addr.add a (m.toNat*9)) λn=>ldH l (Addr.add (Addr.add a (m.toNat*9)) 1) λo=>ldH l (Addr.add (Addr.add a (m.toNat*9)) 2) λp=>ldH l (Addr.add (Addr.add a (m.toNat*9)) 3) λq=>ldH l (Addr.add (Addr.add a (m.toNat*9)) 4) λr=>ldH l (Addr.add (Addr.add a (m.toNat*9)) 5) λs=>ldH l (Addr.add (Addr.add a (m.toNat*9)) 6) λt=>ldH l (Addr.add (Addr.add a (m.toNat*9)) 7) λu=>ldH l (Addr.add (Addr.add a (m.toNat*9)) 8) λa=>dl9 l k.size λm v w x y z A B C=>WQ0 Tryz.prog 51 (.agg #[n,o,p,q,r,s,t,u,a]) (.agg #[m,v,w,x,y,z,A,B,C]) λa=>I47 [.bool (!a)] l)))/\(∀(a:Value) (m:Env) (m:Wa1),(I47 [a] m)->(asBool a λa=>ifB a (K (.bool false) m) (asInt .i64 f λa=>I44 [d,iQ (IntKind.wrap .i64 (a+1))] m)))) (I44 [d,f] l))/\(∀(a l:Value) (m:Env) (m:Wa1),(I44 [a,l] m)->(exI λI79=>(exI λI80=>(lI .i64 m ⟨k.size,3,none⟩ λn=>ifB (n == 3) (lI .i64 m ⟨k.size,4,none⟩ λn=>ifB (n == xe) (I80 [.bool (n == xe),.tuple #[],.tuple #[],.tuple #[],.bool true] m) (lI .i64 m ⟨k.size,1,none⟩ λo=>ifB (decide (o >= 4)) (lI .i64 m ⟨k.size,1,none⟩ λo=>ifB (decide (o<=5)) (lI .i64 m ⟨k.size,6,none⟩ λp=>ifB (p == 3) (lI .i64 m ⟨k.size,7,none⟩ λq=>I80 [.bool (n == xe),.bool (decide (o<=5)),.bool (p == 3),.bool (q == xe),.bool (q == xe)] m) (I80 [.bool (n == xe),.bool (decide (o<=5)),.bool (p == 3),.bool false,.bool false] m)) (I80 [.bool (n == xe),.bool (decide (o<=5)),.bool false,.bool false,.bool false] m)) (I80 [.bool (n == xe),.bool false,.bool false,.bool false,.bool false] m))) (lI .i64 m ⟨k.size,1,none⟩ λn=>ifB (decide (n >= 4)) (lI .i64 m ⟨k.size,1,none⟩ λn=>ifB (decide (n<=5)) (lI .i64 m ⟨k.size,6,none⟩ λo=>ifB (o == 3) (lI .i64 m ⟨k.size,7,none⟩ λp=>I80 [.bool false,.bool (decide (n<=5)),.bool (o == 3),.bool (p == xe),.bool (p == xe)] m) (I80 [.bool false,.bool (decide (n<=5)),.bool (o == 3),.bool false,.bool false] m)) (I80 [.bool false,.bool (decide (n<=5)),.bool false,.bool false,.bool false] m)) (I80 [.bool false,.bool false,.bool false,.bool false,.bool false] m)))/\(∀(m n o p q:Value) (r:Env) (r:Wa1),(I80 [m,n,o,p,q] r)->(asBool q λm=>ifB m (exI λI109=>(asInt .i64 g λm=>ifB (decide (m >= (e:Int))) (I109 [.bool true] r) (asInt .i64 g λm=>bd m (e:Int) (Wd1 (.pointer b) λb=>ldH r (Addr.add b (m.toNat*9)) λn=>ldH r (Addr.add (Addr.add b (m.toNat*9)) 1) λo=>ldH r (Addr.add (Addr.add b (m.toNat*9)) 2) λp=>ldH r (Addr.add (Addr.add b (m.toNat*9)) 3) λq=>ldH r (Addr.add (Addr.add b (m.toNat*9)) 4) λs=>ldH r (Addr.add (Addr.add b (m.toNat*9)) 5) λt=>ldH r (Addr.add (Addr.add b (m.toNat*9)) 6) λu=>ldH r (Addr.add (Addr.add b (m.toNat*9)) 7) λv=>ldH r (Addr.add (Addr.add b (m.toNat*9)) 8) λb=>dl9 r k.size λm w x y z A B C D=>WQ0 Tryz.prog 51 (.agg #[n,o,p,q,s,t,u,v,b]) (.agg #[m,w,x,y,z,A,B,C,D]) λb=>I109 [.bool (!b)] r)))/\(∀(b:Value) (m:Env) (m:Wa1),(I109 [b] m)->(asBool b λb=>ifB b (K (.bool false) m) (asInt .i64 g λb=>I79 [a,iQ (IntKind.wrap .i64 (b+1))] m)))) (I79 [a,g] r))))/\(∀(a b:Value) (m:Env) (m:Wa1),(I79 [a,b] m)->(exI λI141=>(ldH m ⟨k.size,2,none⟩ λn=>asBool n λn=>ifB (!n) (lI .i64 m ⟨k.size,1,none⟩ λn=>ifB (n == 2) (I141 [.bool true,.bool true,.bool true] m) (lI .i64 m ⟨k.size,1,none⟩ λn=>ifB (n == 4) (I141 [.bool (n == 4),.bool true,.bool true] m) (lI .i64 m ⟨k.size,1,none⟩ λo=>I141 [.bool (n == 4),.bool (o == 5),.bool (o == 5)] m))) (I141 [.tuple #[],.tuple #[],.bool false] m))/\(∀(m n o:Value) (p:Env) (p:Wa1),(I141 [m,n,o] p)->(asBool o λm=>ifB m (asInt .i64 i λm=>I23 [a,l,b,iQ (IntKind.wrap .i64 (m+1))] p) (I23 [a,l,b,i] p)))))))))/\(∀(a b l m:Value) (n:Env) (n:Wa1),(I23 [a,b,l,m] n)->(asInt .i64 j λo=>(I13 [a,b,l,m,iQ (IntKind.wrap .i64 (o+1))] n)/\((m14 [a,b,l,m,iQ (IntKind.wrap .i64 (o+1))] n) < (m14 [d,f,g,i,j] k))))) (asInt .i64 f λa=>ifB (a == (c:Int)) (asInt .i64 g λa=>ifB (a == (e:Int)) (cf 24 #[.slice xa xb xc] k λa b=>asInt .i64 a λa=>asInt .i64 i λc=>ifB (a == c) (cf 13 #[] b λa c=>asBool a λa=>K (.bool a) c) (K (.bool false) b)) (K (.bool false) k)) (K (.bool false) k))))))
theorem call6 {K:kQ} {h:Wa1} {xa:Option Addr} {xb xc:Nat} {xd xe:Int} (H:F6 K h xa xb xc xd xe):Wa4 Tryz.prog 6 #[(.slice xa xb xc),(iQ xd),(iQ xe)] h K:=
 cQ Tryz.func6 H
def F129 (K:kQ) (h:Wa1) (xa:Option Addr) (xb:Int):Prop:=
 (cf 136 #[.pointer xa] h λa a=>exI λI2=>(ifB (decide (xb < 0)) False (I2 [] a))/\(∀(a:Env) (a:Wa1),(I2 [] a)->(nP xa λb=>lS a (Addr.add b 1) λb b b=>nP xa λc=>ldH a (Addr.add c 1) λd=>Wb3 d λe e f=>((Wa3 a (Addr.add c 1))=(some d))/\(ifB (decide ((IntKind.wrap .i64 ((b:Int) - (e:Int))) < xb)) (cf 200 #[.pointer xa,iQ xb] a λb b=>K (.tuple #[]) b) (K (.tuple #[]) a)))))
theorem call129 {K:kQ} {h:Wa1} {xa:Option Addr} {xb:Int} (H:F129 K h xa xb):Wa4 Tryz.prog 129 #[(.pointer xa),(iQ xb)] h K:=
 cQ Tryz.func129 H
def F200 (K:kQ) (h:Wa1) (xa:Option Addr) (xb:Int):Prop:=
 (nP xa λa=>lS h (Addr.add a 1) λa a a=>nP xa λb=>ldH h (Addr.add b 1) λc=>Wb3 c λd d e=>((Wa3 h (Addr.add b 1))=(some c))/\(Yp1 Tryz.prog (.func (.func 276) #[] #[]) #[iQ (IntKind.wrap .i64 ((IntKind.wrap .i64 (2*(a:Int)))+xb))] h λa e=>Wb3 a λa f f=>((Wa3 e (Addr.add b 1))=(some c))/\(((0:Int)<=(d:Int))/\((((d:Int):Int)<=(f:Int))/\(nP xa λb=>lS e (Addr.add b 1) λb c g=>WQ1 Tryz.prog #[26,26] 3 #[.slice (WM9 a 0 f 1) ((d:Int).toNat - 0) (f - 0),.slice b c g] e λb c=>asInt .i64 b λb=>nP xa λb=>stH c (Addr.add b 1) (.slice (WM9 a 0 f 1) ((d:Int).toNat - 0) (f - 0)) λa=>K (.tuple #[]) a)))))
theorem call200 {K:kQ} {h:Wa1} {xa:Option Addr} {xb:Int} (H:F200 K h xa xb):Wa4 Tryz.prog 200 #[(.pointer xa),(iQ xb)] h K:=
 cQ Tryz.func200 H
def F131 (K:kQ) (h:Wa1) (xa:Option Addr) (xb xc:Nat):Prop:=
 (ifB (Option.isNone xa) (K (.slice none 0 0) h) (Wp5 Tryz.prog #[124,124] 124 #[.slice (some (aQ h.size)) 0 0,.slice xa xb xc] (Array.push h (.cells #[] 144)) λa b=>Wb3 a λa c d=>K (.slice a c d) b))
theorem call131 {K:kQ} {h:Wa1} {xa:Option Addr} {xb xc:Nat} (H:F131 K h xa xb xc):Wa4 Tryz.prog 131 #[(.slice xa xb xc)] h K:=
 cQ Tryz.func131 H
end
section
theorem Ym5 {K:kQ} {h:Wa1} (c:Cf) (k1:c.Right->∀h',Old h.size h h'->K (iQ 0) h') (k0:¬ c.Right->∀h',Old h.size h h'->K (iQ 6) h') :
  Wa4 Tryz.prog 59 #[.agg c.vals] h K:=by
 refine call59 ?_
 unfold F59 g59 cf Ww2 dl7
 have p1:=We4 h c.vals 23
 rw [show h.push (.cells #[iQ c.a,iQ c.t,iQ c.n,iQ c.l,iQ c.b,iQ c.p,iQ c.s] 23)=h.push (.cells c.vals 23) from rfl]
 generalize h.push (.cells c.vals 23)=h1 at *
 have o1:=p1.toOld
 iterate 7 (refine ldR p1.new rfl ?_)
 have key:∀(cs:Array Value) (e:Int),(∃v0 v1 v2 v3 v4 v5 v6 v7 v8 v9 v10 v11 v12 v13 v14,cs=#[v0,v1,v2,v3,v4,v5,v6,v7,v8,v9,v10,v11,v12,v13,v14]/\∀y ∈ [v0,v1,v2,v3,v4,v5,v6,v7,v8,v9,v10,v11,v12,v13,v14],Wh0 y True)->∀h8,Old h.size h h8 ->
   (∀h',Old h.size h h'->K (iQ e) h') ->
   (Wg5 (.tuple #[.agg cs,iQ e]) (λvs9=>(Wc2 vs9 0 (λv10=>(asAgg v10 (λvs11=>(Wg6 vs11 15 (Wc2 vs11 0 (λv12=>(Wc2 vs11 1 (λv13=>(Wc2 vs11 2 (λv14=>(Wc2 vs11 3 (λv15=>(Wc2 vs11 4 (λv16=>(Wc2 vs11 5 (λv17=>(Wc2 vs11 6 (λv18=>(Wc2 vs11 7 (λv19=>(Wc2 vs11 8 (λv20=>(Wc2 vs11 9 (λv21=>(Wc2 vs11 10 (λv22=>(Wc2 vs11 11 (λv23=>(Wc2 vs11 12 (λv24=>(Wc2 vs11 13 (λv25=>(Wc2 vs11 14 (λv26=>(Wg5 (.tuple #[.agg cs,iQ e]) (λvs27=>(Wc2 vs27 1 (λv28=>(asInt .i64 v28 (λn29=>(stH (Array.push h8 (.cells Wh9 117)) (aQ h8.size) v12 (λh30=>(stH h30 ⟨h8.size,1,none⟩ v13 (λh31=>(stH h31 ⟨h8.size,2,none⟩ v14 (λh32=>(stH h32 ⟨h8.size,3,none⟩ v15 (λh33=>(stH h33 ⟨h8.size,4,none⟩ v16 (λh34=>(stH h34 ⟨h8.size,5,none⟩ v17 (λh35=>(stH h35 ⟨h8.size,6,none⟩ v18 (λh36=>(stH h36 ⟨h8.size,7,none⟩ v19 (λh37=>(stH h37 ⟨h8.size,8,none⟩ v20 (λh38=>(stH h38 ⟨h8.size,9,none⟩ v21 (λh39=>(stH h39 ⟨h8.size,10,none⟩ v22 (λh40=>(stH h40 ⟨h8.size,11,none⟩ v23 (λh41=>(stH h41 ⟨h8.size,12,none⟩ v24 (λh42=>(stH h42 ⟨h8.size,13,none⟩ v25 (λh43=>(stH h43 ⟨h8.size,14,none⟩ v26 (λh44=>(K (iQ n29) h44)))))))))))))))))))))))))))))))))))))))))))))))))))))))))))))))))))))))))):=by
  rintro cs e ⟨v0,v1,v2,v3,v4,v5,v6,v7,v8,v9,v10,v11,v12,v13,v14,rfl,hone⟩ h8 o8 k
  simp only [We8,YZ2,YZ3,Wy6]
  refine Wu4 rfl ?_
  iterate 15 (refine Wc7 rfl ?_)
  simp only [Wa2]
  have p:=We4 h8 Wh9 117
  generalize h8.push (.cells Wh9 117)=h9 at *
  refine YG4 (We3 p.new rfl hone λh44 w=>?_)
  exact k _ (w.toOld (o8.trans (p.toOld.mono o8.1)) o8.1)
 refine Wa0 (Yc9 c (λhr h8 o8=>?_) (λhr h8 o8=>?_))
 ·exact key _ _ ⟨_,_,_,_,_,_,_,_,_,_,_,_,_,_,_,rfl,by simp [Wh0]⟩ h8 (o1.trans (o8.mono o1.1)) (k1 hr)
 ·exact key _ _ ⟨_,_,_,_,_,_,_,_,_,_,_,_,_,_,_,rfl,by simp [Wh0]⟩ h8 (o1.trans (o8.mono o1.1)) (k0 hr)
end
section

end
section
open Mod
def YL0 (c:Mod.Cf) (calls:List (List Cl)) (Wc6 draws:List Int):Bool:=
 okC c && (((calls.length:Int) == c.threads) && (decide (calls.flatten.length<=48) && (decide (Wc6.length<=60000) && (decide (draws.length<=4096) && (calls.all (λl=>l.all WL5) && Wc6.all λk=>decide (0<=k) && decide (k < c.threads))))))
theorem Wr7 (n:Nat) (h:n < 2 ^ 62):s64 (n:Int)=n:=by unfold s64;omega
theorem YA0 {α:Type} {L:List (List α)} {j:Nat} (hj:j < L.length):(L.take (j+1)).flatten.length=(L.take j).flatten.length+(L[j]).length:=by
 rw [List.take_succ_eq_append_getElem hj,List.flatten_append,List.length_append,List.flatten_singleton]
theorem Y31 {α:Type} {L:List (List α)} (j:Nat):(L.take j).flatten.length<=L.flatten.length:=by
 conv=>rhs;rw [<- List.take_append_drop j L,List.flatten_append,List.length_append]
 omega
theorem W04 {K:kQ} {h:Wa1} {c:Mod.Cf} (k1:okC c=true->∀h',Old h.size h h'->K (iQ 0) h') (k0:okC c=false->∀h',Old h.size h h'->K (iQ 6) h') :
  Wa4 Tryz.prog 59 #[.agg #[iQ c.algo,iQ c.threads,iQ c.nodes,iQ c.level,iQ c.batch,iQ c.probes,iQ c.scan]] h K:=by
 refine Ym5 (Y20 c) (λhr h' o=>k1 ((Wu9 c).1 hr) h' o) (λhr h' o=>k0 ?_ h' o)
 rw [<- Bool.not_eq_true]
 exact λhh=>hr ((Wu9 c).2 hh)
section
variable {K:kQ} {h:Wa1} {R:Hp} {c:Mod.Cf} {ca pa da:Option Addr} {cl cc pl pc dl dc:Nat} {calls:List (List Cl)} {Wc6 draws:List Int}
theorem W05 (H:Sat h R) (hS:∀h' P,Sat h' (P*R)->YV0 h' ca cl pa pl da dl calls Wc6 draws) (hn:calls.flatten.length < 2 ^ 60) (hn2:calls.length < 2 ^ 60) (k:∀h',Sat h' R->K (iQ calls.flatten.length) h') :
  Wa4 Tryz.prog 60 #[.agg #[iQ c.algo,iQ c.threads,iQ c.nodes,iQ c.level,iQ c.batch,iQ c.probes,iQ c.scan,.slice ca cl cc,.slice pa pl pc,.slice da dl dc]] h K:=by
 refine call60 ?_
 unfold F60 g60 bd lS
 have H1:=H.push (.cells (W17 c ca cl cc pa pl pc da dl dc).toArray 28)
 rw [show h.push (.cells #[iQ c.algo,iQ c.threads,iQ c.nodes,iQ c.level,iQ c.batch,iQ c.probes,iQ c.scan,.slice ca cl cc,.slice pa pl pc,.slice da dl dc] 28)=h.push (.cells (W17 c ca cl cc pa pl pc da dl dc).toArray 28) from rfl]
 generalize h.push (.cells (W17 c ca cl cc pa pl pc da dl dc).toArray 28)=h1 at *
 generalize h.size=SB at *
 have I:=hS h1 _ H1
 have ecl:=I.f.cs
 subst ecl
 refine ldR H1.at rfl ?_
 refine sb ?_
 refine ⟨λvs h'=>(∃(u:Value) (j:Nat),vs = [.int .i64 (calls.take j).flatten.length,u,.int .i64 j]/\j<=calls.length)/\h' = h1,λvs _=>match vs with | [_,_,.int _ i]=>((calls.length:Int) - i).toNat | _=>0,⟨⟨_,0,rfl,Nat.zero_le _⟩,rfl⟩,?_⟩
 rintro v6 v7 v8 g9 h10 ⟨⟨u,j,e,hj⟩,rfl⟩
 cases e
 refine sb ?_
 refine Wa7 (λc1=>?_) (λc1=>?_)
 ·have hj2:j < calls.length:=by omega
  obtain ⟨ra,rc,⟨ad,ea,hc⟩,_⟩:=I.f.row j hj2
  have eg:calls.getD j []=calls[j]:=by rw [List.getD_eq_getElem?_getD,List.getElem?_eq_getElem hj2];rfl
  rw [eg] at hc
  subst ea
  refine ⟨by omega,by omega,?_⟩
  refine sb ?_
  refine Wb5 hc ?_
  refine sb ?_
  have e3:=YA0 hj2
  have e4:=Y31 (L:=calls) (j+1)
  rw [show s64 (((calls.take j).flatten.length:Int)+((calls[j]).length:Int))=((calls.take (j+1)).flatten.length:Int) from by rw [e3,<- Int.natCast_add];exact Wr7 _ (by omega),show s64 ((j:Int)+1)=((j+1:Nat):Int) from by rw [<- Int.natCast_add_one];exact Wr7 _ (by omega)]
  refine ⟨by first | exact ⟨⟨_,j+1,rfl,by omega⟩,rfl⟩ | exact ⟨_,j+1,rfl,by omega⟩,?_⟩
  show ((calls.length:Int) - ((j+1:Nat):Int)).toNat < ((calls.length:Int) - (j:Int)).toNat
  omega
 ·rw [show j=calls.length by omega,List.take_length]
  exact k h10 H1.drop
theorem W06 (H:Sat h R) (hS:∀h' P,Sat h' (P*R)->YV0 h' ca cl pa pl da dl calls Wc6 draws) (hn:calls.flatten.length < 2 ^ 60) (hn2:calls.length < 2 ^ 60) (hn3:Wc6.length < 2 ^ 60)
  (hV:∀l ∈ calls,l.length < 2 ^ 60) (k:∀h',Sat h' R->K (.bool (YL0 c calls Wc6 draws)) h') :
  Wa4 Tryz.prog 29 #[.agg #[iQ c.algo,iQ c.threads,iQ c.nodes,iQ c.level,iQ c.batch,iQ c.probes,iQ c.scan,.slice ca cl cc,.slice pa pl pc,.slice da dl dc]] h K:=by
 refine call29 ?_
 unfold F29 g29 cf bd lS lI da7 dl3 YZ6
 have H1:=H.push (.cells (W17 c ca cl cc pa pl pc da dl dc).toArray 28)
 rw [show h.push (.cells #[iQ c.algo,iQ c.threads,iQ c.nodes,iQ c.level,iQ c.batch,iQ c.probes,iQ c.scan,.slice ca cl cc,.slice pa pl pc,.slice da dl dc] 28)=h.push (.cells (W17 c ca cl cc pa pl pc da dl dc).toArray 28) from rfl]
 generalize h.push (.cells (W17 c ca cl cc pa pl pc da dl dc).toArray 28)=h1 at *
 generalize h.size=SB at *
 have I:=hS h1 _ H1
 have ecl:=I.f.cs
 have epl:=I.f.ps
 have edl:=I.ds
 subst ecl epl edl
 have hS1:∀h' P,Sat h' (P*(pt SB (.cells (W17 c ca calls.length cc pa Wc6.length pc da draws.length dc).toArray 28)*R))->YV0 h' ca calls.length pa Wc6.length da draws.length calls Wc6 draws:=λh' P HP=>hS h' emp (by rw [Wi4];exact HP.drop.drop)
 obtain ⟨b0,hb0⟩ : ∃b0:Bool,b0=(okC c && (((calls.length:Int) == c.threads) && (decide (calls.flatten.length<=48) && (decide (Wc6.length<=60000) && decide (draws.length<=4096))))):=⟨_,rfl⟩
 have hsc:YL0 c calls Wc6 draws=(b0 && (calls.all (λl=>l.all WL5) && Wc6.all λk=>decide (0<=k) && decide (k < c.threads))):=by
  rw [hb0]
  unfold YL0
  simp only [Bool.and_assoc]
 rw [hsc] at k
 refine ⟨λvs h'=>(∃u1 u2 u3,vs = [u1,u2,u3,.bool (!b0)])/\Sat h' (pt SB (.cells (W17 c ca calls.length cc pa Wc6.length pc da draws.length dc).toArray 28)*R),?_,?_⟩
 ·have O:=H1.at
  refine ldR O rfl (ldR O rfl (ldR O rfl (ldR O rfl (ldR O rfl (ldR O rfl (ldR O rfl ?_))))))
  refine Wa0 (W04 (c:=c) (λhc h2 o2=>?_) λhc h2 o2=>?_)
  rotate_left
  ·refine sb ?_
   refine Wb7 (λ_=>?_) (λhh=>by simp at hh)
   rw [hc,Bool.false_and] at hb0
   subst hb0
   exact ⟨⟨_,_,_,rfl⟩,H1.old o2⟩
  have H2:=H1.old o2
  rw [hc,Bool.true_and] at hb0
  refine sb ?_
  refine Wb7 (λhh=>by simp at hh) (λ_=>?_)
  have O:=H2.at
  refine ldR O rfl ?_
  refine sb ?_
  refine ldR O rfl ?_
  refine sb ?_
  refine Wb7 (λhh=>?_) (λhh=>?_)
  ·have e:((calls.length:Int) == c.threads)=false:=by simpa using hh
   rw [e,Bool.false_and] at hb0
   subst hb0
   exact ⟨⟨_,_,_,rfl⟩,H2⟩
  have e:((calls.length:Int) == c.threads)=true:=by simpa using hh
  rw [e,Bool.true_and] at hb0
  refine ldR O rfl (ldR O rfl (ldR O rfl (ldR O rfl (ldR O rfl (ldR O rfl (ldR O rfl (ldR O rfl (ldR O rfl (ldR O rfl ?_)))))))))
  refine Wa0 (W05 (c:=c) H2 hS1 hn hn2 λh3 H3=>?_)
  refine sb ?_
  have O:=H3.at
  refine Wa7 (λhh=>?_) (λhh=>?_)
  ·rw [decide_eq_false (show ¬ calls.flatten.length<=48 by omega),Bool.false_and] at hb0
   subst hb0
   exact ⟨⟨_,_,_,rfl⟩,H3⟩
  rw [decide_eq_true (show calls.flatten.length<=48 by omega),Bool.true_and] at hb0
  refine ldR O rfl ?_
  refine sb ?_
  refine Wa7 (λhh=>?_) (λhh=>?_)
  ·rw [decide_eq_false (show ¬ Wc6.length<=60000 by omega),Bool.false_and] at hb0
   subst hb0
   exact ⟨⟨_,_,_,rfl⟩,H3⟩
  rw [decide_eq_true (show Wc6.length<=60000 by omega),Bool.true_and] at hb0
  refine ldR O rfl ?_
  refine sb ?_
  have e9:decide ((draws.length:Int) > 4096) = !b0:=by
   rw [hb0,<- decide_not,decide_eq_decide]
   omega
  rw [e9]
  exact ⟨⟨_,_,_,rfl⟩,H3⟩
 rintro v38 v39 v40 v41 g42 h43 ⟨⟨u1,u2,u3,e⟩,H2⟩
 cases e
 refine sb ?_
 refine Wb7 (λhh=>?_) (λhh=>?_)
 ·have e:b0=false:=by simpa using hh
  rw [e,Bool.false_and] at k
  exact k h43 H2.drop
 have e:b0=true:=by simpa using hh
 rw [e,Bool.true_and] at k
 have I2:=hS1 h43 emp (by rw [Wi4];exact H2)
 refine ldR H2.at rfl ?_
 refine sb ?_
 refine ⟨λvs h'=>(∃(w u v:Value) (j:Nat),vs = [w,u,.int .i64 j,v]/\j<=calls.length/\(calls.take j).all (λl=>l.all WL5)=true)/\Sat h' (pt SB (.cells (W17 c ca calls.length cc pa Wc6.length pc da draws.length dc).toArray 28)*R),λvs _=>match vs with | [_,_,.int _ i,_]=>((calls.length:Int) - i).toNat | _=>0,⟨⟨_,_,_,0,rfl,Nat.zero_le _,rfl⟩,H2⟩,?_⟩
 rintro v51 v52 v53 v54 g55 h56 ⟨⟨w,u,v,j,e,hj,hall⟩,HJ⟩
 cases e
 refine sb ?_
 have IJ:=hS1 h56 emp (by rw [Wi4];exact HJ)
 refine Wa7 (λc1=>?_) (λc1=>?_)
 ·have hj2:j < calls.length:=by omega
  obtain ⟨ra,rc,⟨ad,ea,hc⟩,hrow56⟩:=IJ.f.row j hj2
  have eg:calls.getD j []=calls[j]:=by rw [List.getD_eq_getElem?_getD,List.getElem?_eq_getElem hj2];rfl
  rw [eg] at hc hrow56
  subst ea
  refine ⟨by omega,by omega,?_⟩
  refine sb ?_
  refine Wb5 hc ?_
  refine sb ?_
  have hlen:=hV _ (List.getElem_mem hj2)
  have hmem:calls.all (λl=>l.all WL5)=true->(calls[j]).all WL5=true:=λh=>List.all_eq_true.1 h _ (List.getElem_mem hj2)
  have htk:(calls.take (j+1)).all (λl=>l.all WL5)=(calls[j]).all WL5:=by
   rw [List.take_succ_eq_append_getElem hj2,List.all_append,hall,List.all_cons,List.all_nil,Bool.true_and,Bool.and_true]
  refine ⟨λvs h'=>(∃(w:Value) (i:Nat),vs = [w,.int .i64 i]/\i<=(calls[j]).length/\((calls[j]).take i).all WL5=true)/\Old h56.size h56 h'/\Sat h' (pt SB (.cells (W17 c (some ad) calls.length cc pa Wc6.length pc da draws.length dc).toArray 28)*R),λvs _=>match vs with | [_,.int _ i]=>(((calls[j]).length:Int) - i).toNat | _=>0,⟨⟨_,0,rfl,Nat.zero_le _,rfl⟩,Old.refl _ _,HJ⟩,?_⟩
  rintro v66 v67 g68 h69 ⟨⟨w2,i,e,hi,hall2⟩,o69,HI⟩
  cases e
  refine sb ?_
  refine Wa7 (λc2=>?_) (λc2=>?_)
  ·have hi2:i < (calls[j]).length:=by omega
   have hrow:=(hrow56.old o69)
   have g0:=Wi3 WB7 hi2 (j:=0) (by omega)
   have g1:=Wi3 WB7 hi2 (j:=1) (by omega)
   have g2:=Wi3 WB7 hi2 (j:=2) (by omega)
   obtain ⟨ad3,ea3,q0⟩:=hrow (i*3+0) (.int .i64 (calls[j])[i].op) g0
   subst ea3
   obtain ⟨_,ea4,q1⟩:=hrow (i*3+1) (.int .u32 (calls[j])[i].key) g1
   cases ea4
   obtain ⟨_,ea4,q2⟩:=hrow (i*3+2) (.int .u32 (calls[j])[i].val) g2
   cases ea4
   refine ⟨by omega,by omega,?_⟩
   have aa:∀i,(ad3.add (i*3)).add 1=ad3.add (i*3+1):=λi=>Wr0 _ _ _
   have ab:∀i,(ad3.add (i*3)).add 2=ad3.add (i*3+2):=λi=>Wr0 _ _ _
   rw [Nat.add_zero] at q0
   try simp only [Wc5,bsx,Nat.reduceAdd,Int.reduceLE,Int.reduceLT,Int.reduceToNat,aa,ab]
   refine Wb5 q0 (Wb5 q1 (Wb5 q2 ?_))
   have H5:=HI.push (.cells #[iQ 0,.int .u32 0,.int .u32 0] 41)
   have p5:=(We4 h69 #[iQ 0,.int .u32 0,.int .u32 0] 41).toOld
   generalize h69.push (.cells #[iQ 0,.int .u32 0,.int .u32 0] 41)=h70 at *
   obtain ⟨LB,hLB⟩ : ∃LB,h69.size=LB:=⟨_,rfl⟩
   rw [hLB] at H5 p5 ⊢
   refine We3 (vs:=clc (calls[j])[i]) H5.at rfl (by simp [clc,Wh0]) λh71 x=>?_
   have H6:=H5.wr x.new x.old
   have o71:=x.toOld p5 (Nat.le_refl _)
   refine ldR H6.at rfl (ldR H6.at rfl (ldR H6.at rfl ?_))
   refine Wa0 (WC9 λh72 o72=>?_)
   have H7:=(H6.old o72).drop
   have o72':Old h56.size h56 h72:=o69.trans ((o71.trans (o72.mono (by rw [<- hLB];exact o71.1))).mono (by rw [<- hLB];exact o69.1))
   have hmem2:(calls[j]).all WL5=true->WL5 (calls[j])[i]=true:=λh=>List.all_eq_true.1 h _ (List.getElem_mem hi2)
   refine sb ?_
   refine Wb7 (λhh=>?_) (λhh=>?_)
   ·have e:WL5 (calls[j])[i]=false:=by simpa using hh
    have e2:calls.all (λl=>l.all WL5)=false:=by
     rw [<- Bool.not_eq_true]
     intro hx
     rw [hmem2 (hmem hx)] at e;cases e
    rw [e2,Bool.false_and] at k
    exact k h72 H7.drop
   ·have e:WL5 (calls[j])[i]=true:=by simpa using hh
    rw [show s64 ((i:Int)+1)=((i+1:Nat):Int) from by rw [<- Int.natCast_add_one];exact Wr7 _ (by omega)]
    refine ⟨⟨⟨_,i+1,rfl,by omega,?_⟩,o72',H7⟩,?_⟩
    ·rw [List.take_succ_eq_append_getElem hi2,List.all_append,hall2,List.all_cons,List.all_nil,e];rfl
    ·show (((calls[j]).length:Int) - ((i+1:Nat):Int)).toNat < (((calls[j]).length:Int) - (i:Int)).toNat
     omega
  ·rw [List.take_of_length_le (by omega)] at hall2
   rw [show s64 ((j:Int)+1)=((j+1:Nat):Int) from by rw [<- Int.natCast_add_one];exact Wr7 _ (by omega)]
   refine ⟨⟨⟨_,_,_,j+1,rfl,by omega,by rw [htk];exact hall2⟩,HI⟩,?_⟩
   show ((calls.length:Int) - ((j+1:Nat):Int)).toNat < ((calls.length:Int) - (j:Int)).toNat
   omega
 rw [List.take_of_length_le (by omega)] at hall
 rw [hall,Bool.true_and] at k
 refine ldR HJ.at rfl ?_
 refine sb ?_
 refine ⟨λvs h'=>(∃(w u:Value) (j:Nat),vs = [w,u,.int .i64 j]/\j<=Wc6.length/\(Wc6.take j).all (λk=>decide (0<=k) && decide (k < c.threads))=true)/\h' = h56,λvs _=>match vs with | [_,_,.int _ i]=>((Wc6.length:Int) - i).toNat | _=>0,⟨⟨_,_,0,rfl,Nat.zero_le _,rfl⟩,rfl⟩,?_⟩
 rintro v93 v94 v95 g96 h97 ⟨⟨w,u,j,e,hj,hall⟩,rfl⟩
 cases e
 refine sb ?_
 refine Wa7 (λc1=>?_) (λc1=>?_)
 ·have hj2:j < Wc6.length:=by omega
  obtain ⟨ad,ea,hc⟩:=IJ.f.pk j (.int .i64 Wc6[j]) (by rw [List.getElem?_map,List.getElem?_eq_getElem hj2];rfl)
  subst ea
  refine ⟨by omega,by omega,?_⟩
  refine sb ?_
  refine Wb5 hc ?_
  refine sb ?_
  have hmem:Wc6.all (λk=>decide (0<=k) && decide (k < c.threads))=true->(decide (0<=Wc6[j]) && decide (Wc6[j] < c.threads))=true:=λh=>List.all_eq_true.1 h _ (List.getElem_mem hj2)
  refine ⟨λvs h'=>vs = [.bool (!(decide (0<=Wc6[j]) && decide (Wc6[j] < c.threads)))]/\h' = h97,?_,?_⟩
  ·refine Wa7 (λhh=>?_) (λhh=>?_)
   ·rw [decide_eq_false (show ¬ 0<=Wc6[j] by omega)]
    exact ⟨rfl,rfl⟩
   ·refine ldR HJ.at rfl ?_
    refine sb ?_
    rw [decide_eq_true (show 0<=Wc6[j] by omega),Bool.true_and]
    first | exact ⟨by congr 2;rw [<- decide_not,decide_eq_decide];omega,rfl⟩ | (congr 2;rw [<- decide_not,decide_eq_decide];omega)
  rintro v106 g107 h108 ⟨e,rfl⟩
  cases e
  refine sb ?_
  refine Wb7 (λhh=>?_) (λhh=>?_)
  ·have e:(decide (0<=Wc6[j]) && decide (Wc6[j] < c.threads))=false:=by rwa [Bool.not_eq_true'] at hh
   have e2:Wc6.all (λk=>decide (0<=k) && decide (k < c.threads))=false:=by
    rw [<- Bool.not_eq_true]
    intro hx
    rw [hmem hx] at e;cases e
   rw [e2] at k
   exact k h108 HJ.drop
  ·have e:(decide (0<=Wc6[j]) && decide (Wc6[j] < c.threads))=true:=by rwa [Bool.not_eq_false'] at hh
   rw [show s64 ((j:Int)+1)=((j+1:Nat):Int) from by rw [<- Int.natCast_add_one];exact Wr7 _ (by omega)]
   have e9:(Wc6.take (j+1)).all (λk=>decide (0<=k) && decide (k < c.threads))=true:=by
    rw [List.take_succ_eq_append_getElem hj2,List.all_append,hall,List.all_cons,List.all_nil,e];rfl
   refine ⟨by first | exact ⟨⟨_,_,j+1,rfl,by omega,e9⟩,rfl⟩ | exact ⟨_,_,j+1,rfl,by omega,e9⟩,?_⟩
   show ((Wc6.length:Int) - ((j+1:Nat):Int)).toNat < ((Wc6.length:Int) - (j:Int)).toNat
   omega
 ·rw [List.take_of_length_le (by omega)] at hall
  rw [hall] at k
  exact k h97 HJ.drop
end
end
section
structure Ev8 where
 th:Int
 bk:Bool
 c:C3
 a:C3
abbrev Ev8.cells (e:Ev8):List Value:=[iQ e.th,.bool e.bk,iQ e.c.o,.int .u32 e.c.k,.int .u32 e.c.v,iQ e.a.o,.int .u32 e.a.k,.int .u32 e.a.v]
end
section

end
section
set_option maxRecDepth 100000

end
section
open Mod
structure RnSt where
 m:Mac
 nx:List Int
 ev:List EvM
 cu:Int->Option Cl
 idle:Int
 gap:Int
 most:Int
def c3 (c:Cl):C3:=⟨c.op,c.key,c.val⟩
def RnSt.invoke (s:RnSt) (k:Int) (c:Cl):RnSt:=match s.cu k with
 | none=>{ s with cu:=λt=>if t=k then some c else s.cu t,ev:=s.ev ++ [⟨k,false,c,cl0⟩] }
 | some _=>s
def RnSt.respond (s:RnSt) (k:Int) (a:Cl):RnSt:=match s.cu k with
 | some c=>if Y01 (c3 c) (c3 a) then { s with cu:=λt=>if t=k then none else s.cu t,ev:=s.ev ++ [⟨k,true,cl0,a⟩] } else s
 | none=>s
def RnSt.begin (ins:Int) (calls:List (List Cl)) (s:RnSt) (k:Nat):Option RnSt:=
 if (calls.getD k []).length<=(s.nx.getD k 0).toNat then none
 else some (RnSt.invoke { s with m:=s.m.setTh (s.m.th.set k ((We2 s.m k).push (ins+((calls.getD k []).getD (s.nx.getD k 0).toNat cl0).op) [((calls.getD k []).getD (s.nx.getD k 0).toNat cl0).key,((calls.getD k []).getD (s.nx.getD k 0).toNat cl0).val])),nx:=s.nx.set k (s.nx.getD k 0+1) } k ((calls.getD k []).getD (s.nx.getD k 0).toNat cl0))
noncomputable def RnSt.go (d:Run->Run) (s:RnSt) (k:Nat):RnSt:=
 if (Wq2 d ⟨s.m.quiet,We2 s.m k,k⟩).t.fr = [] then { RnSt.respond { s with m:=(Wq2 d ⟨s.m.quiet,We2 s.m k,k⟩).m.setTh (s.m.th.set k (Wq2 d ⟨s.m.quiet,We2 s.m k,k⟩).t) } k (Yy9 (Wq2 d ⟨s.m.quiet,We2 s.m k,k⟩).t) with gap:=0 }
 else { s with m:=(Wq2 d ⟨s.m.quiet,We2 s.m k,k⟩).m.setTh (s.m.th.set k (Wq2 d ⟨s.m.quiet,We2 s.m k,k⟩).t),gap:=s.gap+1,most:=max s.most (s.gap+1) }
noncomputable def RnSt.pick (d:Run->Run) (ins:Int) (calls:List (List Cl)) (s:RnSt) (k:Int):RnSt:=
 if (We2 s.m k.toNat).fr = [] then match s.begin ins calls k.toNat with
  | none=>{ s with idle:=s.idle+1 }
  | some s1=>s1.go d k.toNat
 else s.go d k.toNat
structure RX where
 RB:Nat
 NB:Nat
 Q:Nat
 M:Nat
 f:Nat
 ins:Int
 Ts:List Nat
 c:Mod.Cf
 ca:Option Addr
 cl:Nat
 cc:Nat
 pa:Option Addr
 pl:Nat
 pc:Nat
 da:Option Addr
 dl:Nat
 dc:Nat
 n:Nat
section
variable {K:kQ} {h:Wa1} {X:RX} {s:RnSt} {R:Hp}
end
end
section
set_option maxHeartbeats 1000000
open Mod
structure WK2 (calls:List (List Cl)):Prop where
 n:1<=calls.length/\calls.length<=6
 cl:∀l ∈ calls,l.length<=1000/\∀c ∈ l,WL5 c=true/\V c.key/\V c.val
theorem YA1 {c:Cl} (h:WL5 c=true):0<=c.op/\c.op<=2:=by
 unfold WL5 at h
 simp only [Bool.or_eq_true,Bool.and_eq_true,beq_iff_eq] at h
 omega
section
variable {K:kQ} {h:Wa1} {X:RX} {s:RnSt} {R:Hp} {calls:List (List Cl)} {Wc6:List Int}
variable {d:Run->Run} {W:Run->Prop} {Inv:Nat->Mac->Prop}
end
end
section
set_option maxHeartbeats 1000000
open Mod
section
variable {K:kQ} {h:Wa1} {X:RX} {s:RnSt} {R:Hp} {calls:List (List Cl)} {Wc6 draws:List Int}
theorem Ym6 {Q M f:Nat} {ins:Int} {Ts:List Nat} {m:Mac} (H:Sat h (suS Q M f ins Ts m*R)) (k:∀q R',Sat h (Wm4 q m.mm*R')->K (mP q) h):Wa4 Tryz.prog 32 #[mP M] h K:=by
 obtain ⟨a,c,hl,H1⟩:=Wi2.1 (Wl0.1 H)
 exact WO8 H1 λq R' HM _=>k q R' HM
theorem YL1 {n:Nat} {t:Int} (ht:(n:Int)=t) (hn:n<=4096) (k:K (.slice (some (aQ h.size)) n n) (h.push (.cells ((List.replicate n (0:Int)).map iv).toArray 3))):Wm5 Tryz.prog 3 t t h K:=by
 subst ht
 exact YU9 hn k
variable {d:Run->Run} {W:Run->Prop} {Inv:Nat->Mac->Prop}
end
end
section
set_option maxHeartbeats 1000000
open Mod
section
variable {K:kQ} {h:Wa1} {R:Hp}
end
end
section
open Mod
section
variable {x:Run} {sl th:Int}
theorem YL2 (hs:0 < sl) (hne:x.t.fr≠[]) (h:Adj sl th x) (e:x.f.fn=1):Nx sl th x (alloc x):=by
 have r:=h.r hne
 rw [e] at r
 unfold alloc;dsimp only
 repeat' split
 all_goals exact W19
theorem Ym7 (hs:0 < sl) (hne:x.t.fr≠[]) (h:Adj sl th x) (e:x.f.fn=2):Nx sl th x (Wo1 x):=by
 have r:=h.r hne
 rw [e] at r
 unfold Wo1;dsimp only
 repeat' split
 all_goals exact W19
theorem Ym8 (hs:0 < sl) (hne:x.t.fr≠[]) (h:Adj sl th x) (e:x.f.fn=3):Nx sl th x (Wo3 x):=by
 have r:=h.r hne
 rw [e] at r
 unfold Wo3;dsimp only
 repeat' split
 all_goals exact W19
theorem YV8 (hsl:sl=x.m.p.slots) (hs:0 < sl) (hne:x.t.fr≠[]) (h:Adj sl th x) (e:x.f.fn=4):Nx sl th x (Yt9 x):=by
 have r:=h.r hne
 rw [e] at r
 unfold Yt9;dsimp only
 split
 ·rename_i c
  refine ⟨by exact YY0,.inr (AdjR.ltPop r hne rfl r hne ?_)⟩
  have c2:fA sl th 4 x.f.pc=false:=by simp [fA];omega
  rw [c2]
  simp [fW]
 ·exact W19
theorem YV9 (y:Run) (r:List Int) (h:y.t.fr≠[]):(y.pop r).t.fr.reverse=rst y:=by
 show (y.t.pop r).fr.reverse=_
 unfold Thr.pop
 rw [if_neg h]
 rfl
theorem YA2 (ha:0 < sl*th) (hne:x.t.fr≠[]) (h:Adj sl th x) (e:x.f.fn=5):Nx sl th x (Wt2 x):=by
 have r:=h.r hne
 rw [e] at r
 unfold Wt2;dsimp only
 generalize hz:((x.gh λg=>g.turn (s64 (x.f.g 0)) 1 2 2).re ((x.gh λg=>g.turn (s64 (x.f.g 0)) 1 2 2).t.retired ++ [s64 (x.f.g 0)]))=z
 have hzn:z.t.fr≠[]:=by subst hz;exact hne
 have rz:AdjR sl th 5 (rst x) z:=by subst hz;exact r.gh.re
 have hm:mu sl th x=3+muL sl th (rst x):=by
  rw [r.mu hne rfl]
  simp [fW,fA]
 have hp:(z.pop []).t.fr.reverse=rst x:=by rw [YV9 _ _ hzn];exact rz.e
 split
 ·refine ⟨Adj.push rz.pop ?_,.inr ?_⟩
  ·rw [hp]
   cases hl:rst x with
   | nil=>trivial
   | cons f l=>
    have o:=r.o
    rw [hl] at o
    exact o
  ·rw [WT5,hm]
   simp [fW,fA,ha]
   omega
 ·refine ⟨rz.pop,.inr ?_⟩
  rw [Yz9 _ hzn,rz.e,hm]
  omega
theorem AdjR.push {fn i:Int} {l:List Frm} {r:List Int} {y:Run} (h:AdjR sl th fn l y) (hne:y.t.fr≠[]) (hd:fR i < fR fn):Adj sl th (y.push i r):=by
 refine Adj.push (h.all hne) ?_
 rw [WD0 hne]
 exact .inr (by rw [h.f];exact hd)
theorem YW0 (hsl:sl=x.m.p.slots) (hth:th=x.m.p.c.threads) (hne:x.t.fr≠[]) (h:Adj sl th x) (e:x.f.fn=6):Nx sl th x (scan x):=by
 have r:=h.r hne
 rw [e] at r
 have h0:∀y:Run,y=(if x.f.pc=0 then x.fo [] else x)->AdjR sl th 6 (rst x) y/\y.t.fr≠[]/\y.f.pc=x.f.pc:=by
  rintro y rfl
  split
  ·exact ⟨r.fo,hne,rfl⟩
  ·exact ⟨r,hne,rfl⟩
 unfold scan
 dsimp only
 generalize hy:(if x.f.pc=0 then x.fo [] else x)=y
 obtain ⟨ry,hny,hpc⟩:=h0 y hy.symm
 rw [<- hsl,<- hth]
 split
 ·exact ⟨by exact YY0,.inl (by (focus (refine Tch.act ?_;(with_reducible repeat' constructor))))⟩
 ·rename_i c
  have hm:mu sl th x=2+muL sl th (rst x):=by
   rw [r.mu hne rfl]
   have c2:fA sl th 6 x.f.pc=false:=by simp [fA];omega
   rw [c2]
   simp [fW]
  have hA:AdjR sl th 6 (rst x) (Wv3 y (sl*th))/\(Wv3 y (sl*th)).t.fr≠[]:=by
   unfold Wv3
   split
   ·exact ⟨by exact YY1,Wn1 _ _⟩
   ·exact ⟨ry,hny⟩
  generalize Wv3 y (sl*th)=z at *
  obtain ⟨rz,hzn⟩:=hA
  unfold WR5
  split
  ·refine ⟨rz.pop,.inr ?_⟩
   rw [Yz9 _ hzn,rz.e,hm]
   omega
  ·rename_i n rest e2
   refine ⟨AdjR.push (l:=rst x) (fn:=6) (by exact YY1) hzn (by decide),.inr ?_⟩
   rw [WT5,hm]
   simp [fW,fA]
   omega
theorem Ym9 (hs:0 < sl) (hne:x.t.fr≠[]) (h:Adj sl th x) (e:x.f.fn=1\/x.f.fn=2):Nx sl th x (Wo2 x):=by
 unfold Wo2
 rw [if_neg hne]
 rcases e with e | e
 ·rw [if_pos e];exact YL2 hs hne h e
 ·rw [if_neg (by omega),if_pos e];exact Ym7 hs hne h e
theorem W84 (hsl:sl=x.m.p.slots) (hth:th=x.m.p.c.threads) (hs:0 < sl) (ha:0 < sl*th) (hne:x.t.fr≠[]) (h:Adj sl th x) (e:1<=x.f.fn/\x.f.fn<=6):Nx sl th x (Wk7 x):=by
 unfold Wk7
 rw [if_neg hne]
 by_cases e3:x.f.fn=3
 ·rw [if_pos e3];exact Ym8 hs hne h e3
 rw [if_neg e3]
 by_cases e4:x.f.fn=4
 ·rw [if_pos e4];exact YV8 hsl hs hne h e4
 rw [if_neg e4]
 by_cases e5:x.f.fn=5
 ·rw [if_pos e5];exact YA2 ha hne h e5
 rw [if_neg e5]
 by_cases e6:x.f.fn=6
 ·rw [if_pos e6];exact YW0 hsl hth hne h e6
 rw [if_neg e6]
 exact Ym9 hs hne h (by omega)
end
end
section
open Mod
section
variable {x:Run} {L sl th:Int}
theorem YW1 (x:Run) (a:Int):(x.drop1 a).2.f=x.f:=rfl
theorem YL3 (x:Run) (a b c:Int):(x.swingA a b c).2.f=x.f:=rfl
end
end
section
set_option maxHeartbeats 1000000
open Mod
section
variable {x:Run} {L sl th:Int}
end
end
section
open Mod
section
variable {x:Run} {L sl th:Int}
end
end
section
open Mod
theorem Yf1 {c:Mod.Cf} (h:okC c=true):0 < (Wb6 c).slots/\0 < (Wb6 c).slots*c.threads/\(Wb6 c).slots*c.threads<=84/\(Wb6 c).slots<=14/\1<=c.level/\c.level<=6:=by
 have B:=Wv0 h
 have h1:2<=(Wb6 c).slots/\(Wb6 c).slots<=14:=B.sl
 have h2:1<=c.threads/\c.threads<=6:=B.th
 have h3:1<=c.level/\c.level<=6:=B.lv
 refine ⟨by omega,Int.mul_pos (by omega) (by omega),?_,h1.2,h3.1,h3.2⟩
 exact Int.le_trans (Int.mul_le_mul h1.2 h2.2 (by omega) (by omega)) (by decide)
theorem RunOk.ok {Q:Mod.Cf->Frm->Prop} {c:Mod.Cf} {x:Run} {B:Nat} (h:RunOk Q c x B) (hB:B < 200000000) (hid:0<=x.id/\x.id<=6) (hp:0<=x.f.pc/\x.f.pc<=100):Ok x:=by
 have hP:x.m.mm.st.toNat+x.m.used.toNat+x.t.retired.length+x.t.found.length+x.t.fr.length<=B:=h.P
 exact ⟨by omega,by omega,by omega,by omega,by omega,⟨by omega,by omega⟩,hp⟩
theorem Y91 {sl th:Int} {f:Frm} (h:Wz1 sl th f) (h1:0<=sl/\sl<=14) (h2:sl*th<=84):0<=f.pc/\f.pc<=100:=by
 unfold Wz1 at h
 omega
end
section
open Mod
theorem f_m (x:Run) (m:Mac):({ x with m:=m }:Run).f=x.f:=rfl
theorem YW2 (x:Run) (a b c:Int) (d:Bool):(x.swing a b c d).2.f=x.f:=rfl
theorem YL4 (x:Run) (a b c:Int) (d:Bool):(x.swingM a b c d).2.f=x.f:=rfl
theorem YW3 (x:Run) (a b:Int):(x.guard a b).f=x.f:=rfl
def Ws1 (sl th:Int) (f:Frm):Prop:=Wz1 sl th f\/f.r.length=10/\(f.fn=10/\0<=f.pc/\f.pc<=1\/f.fn=11/\(0<=f.pc/\f.pc<=14\/f.pc=90)\/(f.fn=12\/f.fn=13)/\(0<=f.pc/\f.pc<=7\/f.pc=90)\/f.fn=14/\0<=f.pc/\f.pc<=7)
theorem Wt7 {sl th fn:Int} {l:List Int} (h:1<=fn/\fn<=6\/10<=fn/\fn<=14) (hs:0<=sl) (ht:0<=sl*th):Ws1 sl th ⟨fn,0,pad 10 l⟩:=by
 by_cases c:fn<=6
 ·exact .inl (Yz5 (by omega) hs ht)
 ·refine .inr ⟨Ww6 _ _,?_⟩
  dsimp only
  omega
theorem Y92 {sl th:Int} {f:Frm} (h:Ws1 sl th f) (e:¬ (10<=f.fn/\f.fn<=14)):Wz1 sl th f:=by
 unfold Ws1 at h
 rcases h with h | ⟨_,h⟩
 ·exact h
 ·omega
theorem YL5 {sl th:Int} {f:Frm} (h:Ws1 sl th f) (e:10<=f.fn/\f.fn<=14):f.r.length=10/\(f.fn=10/\0<=f.pc/\f.pc<=1\/f.fn=11/\(0<=f.pc/\f.pc<=14\/f.pc=90)\/(f.fn=12\/f.fn=13)/\(0<=f.pc/\f.pc<=7\/f.pc=90)\/f.fn=14/\0<=f.pc/\f.pc<=7):=by
 unfold Ws1 Wz1 at h
 rcases h with h | h
 ·omega
 ·exact h
section
variable {x:Run} {sl th:Int}
theorem YA3 (h:AllF (Ws1 sl th) x) (s0:0<=sl) (t0:0<=sl*th) (len:x.f.r.length=10) (e:x.f.fn=10):AllF (Ws1 sl th) (WH0 x):=by
 have r:=h.rest
 unfold WH0;dsimp only
 repeat' split
 all_goals (refine WN0 ?_;first | with_reducible assumption | ((with_reducible first | apply Rest.pop | apply Rest.call | apply Rest.allPc | apply Rest.allS | apply Rest.fin);exact Wh1))
 all_goals first | (with_reducible apply Wt7;omega;assumption;assumption) | exact Yg5
theorem YA4 (h:AllF (Ws1 sl th) x) (s0:0<=sl) (t0:0<=sl*th) (len:x.f.r.length=10) (e:x.f.fn=11):AllF (Ws1 sl th) (WH2 x):=by
 have r:=h.rest
 unfold WH2;dsimp only
 repeat' split
 all_goals (refine WN0 ?_;first | with_reducible assumption | ((with_reducible first | apply Rest.pop | apply Rest.call | apply Rest.allPc | apply Rest.allS | apply Rest.fin);exact Wh1))
 all_goals first | (with_reducible apply Wt7;omega;assumption;assumption) | exact Yg5
theorem W07 (h:AllF (Ws1 sl th) x) (s0:0<=sl) (t0:0<=sl*th) (len:x.f.r.length=10) (e:x.f.fn=11):AllF (Ws1 sl th) (Wk8 x):=by
 have r:=h.rest
 unfold Wk8 WH1;dsimp only
 split
 ·refine Rest.allPc (Rest.s (Rest.m (by exact Wh1))) ?_
  exact Yg5
 repeat' split
 all_goals first | (refine AllF.push ?_ (Wt7 (by omega) s0 t0)) | skip
 all_goals (refine WN0 ?_;first | with_reducible assumption | ((with_reducible first | apply Rest.pop | apply Rest.call | apply Rest.allPc | apply Rest.allS | apply Rest.fin);exact Wh1))
 all_goals first | (with_reducible apply Wt7;omega;assumption;assumption) | exact Yg5
theorem YA5 (h:AllF (Ws1 sl th) x) (s0:0<=sl) (t0:0<=sl*th) (len:x.f.r.length=10) (e:x.f.fn=11):AllF (Ws1 sl th) (WH3 x):=by
 have r:=h.rest
 unfold WH3 WH1;dsimp only
 repeat' split
 all_goals (refine WN0 ?_;first | with_reducible assumption | ((with_reducible first | apply Rest.pop | apply Rest.call | apply Rest.allPc | apply Rest.allS | apply Rest.fin);exact Wh1))
 all_goals first | (with_reducible apply Wt7;omega;assumption;assumption) | exact Yg5
theorem YL6 (h:AllF (Ws1 sl th) x) (s0:0<=sl) (t0:0<=sl*th) (len:x.f.r.length=10) (e:x.f.fn=11):AllF (Ws1 sl th) (Yu1 x):=by
 have r:=h.rest
 unfold Yu1 WR6;dsimp only
 repeat' split
 all_goals (refine WN0 ?_;first | with_reducible assumption | ((with_reducible first | apply Rest.pop | apply Rest.call | apply Rest.allPc | apply Rest.allS | apply Rest.fin);exact Wh1))
 all_goals first | (with_reducible apply Wt7;omega;assumption;assumption) | with_reducible exact Rest.m r | exact Yg5
theorem YA6 (h:AllF (Ws1 sl th) x) (s0:0<=sl) (t0:0<=sl*th) (len:x.f.r.length=10) (e:x.f.fn=11):AllF (Ws1 sl th) (WH4 x):=by
 unfold WH4
 repeat' split
 ·exact YA4 h s0 t0 len e
 ·exact W07 h s0 t0 len e
 ·exact YA5 h s0 t0 len e
 ·exact YL6 h s0 t0 len e
theorem YA7 (h:AllF (Ws1 sl th) x) (s0:0<=sl) (t0:0<=sl*th) (len:x.f.r.length=10) (e:x.f.fn=12\/x.f.fn=13):AllF (Ws1 sl th) (WB1 x):=by
 have r:=h.rest
 unfold WB1;dsimp only
 repeat' split
 all_goals (refine WN0 ?_;first | with_reducible assumption | ((with_reducible first | apply Rest.pop | apply Rest.call | apply Rest.allPc | apply Rest.allS | apply Rest.fin);exact Wh1))
 all_goals first | (with_reducible apply Wt7;omega;assumption;assumption) | exact Yg5
theorem YA8 (h:AllF (Ws1 sl th) x) (s0:0<=sl) (t0:0<=sl*th) (len:x.f.r.length=10) (e:x.f.fn=12\/x.f.fn=13):AllF (Ws1 sl th) (WB2 x):=by
 have r:=h.rest
 unfold WB2;dsimp only
 repeat' split
 all_goals first | exact YA7 h s0 t0 len e | skip
 all_goals (refine WN0 ?_;first | with_reducible assumption | ((with_reducible first | apply Rest.pop | apply Rest.call | apply Rest.allPc | apply Rest.allS | apply Rest.fin);exact Wh1))
 all_goals first | (with_reducible apply Wt7;omega;assumption;assumption) | exact Yg5
theorem W08 (h:AllF (Ws1 sl th) x) (len:x.f.r.length=10) (e:x.f.fn=14):AllF (Ws1 sl th) (WD5 x):=by
 have r:=h.rest
 unfold WD5;dsimp only
 repeat' split
 all_goals (refine WN0 ?_;first | with_reducible assumption | ((with_reducible first | apply Rest.pop | apply Rest.call | apply Rest.allPc | apply Rest.allS | apply Rest.fin);exact Wh1))
 all_goals exact Yg5
theorem YA9 (h:AllF (Ws1 sl th) x) (s0:0<=sl) (t0:0<=sl*th) (len:x.f.r.length=10) (e:x.f.fn=14):AllF (Ws1 sl th) (WH5 x):=by
 have r:=h.rest
 unfold WH5;dsimp only
 repeat' split
 all_goals first | exact W08 h len e | skip
 all_goals (refine WN0 ?_;first | with_reducible assumption | ((with_reducible first | apply Rest.pop | apply Rest.call | apply Rest.allPc | apply Rest.allS | apply Rest.fin);exact Wh1))
 all_goals first | (with_reducible apply Wt7;omega;assumption;assumption) | exact Yg5
theorem YB0 {i:Nat} {p:Int} (h:AllF (Ws1 sl th) x) (len:x.f.r.length=10) (e:x.f.fn=14):AllF (Ws1 sl th) (WD6 x i p):=by
 have r:=h.rest
 unfold WD6;dsimp only
 split
 ·refine Rest.allS (Rest.m (by exact Wh1)) ?_
  exact Yg5
 ·refine AllF.m ?_
  (refine WN0 ?_;first | with_reducible assumption | ((with_reducible first | apply Rest.pop | apply Rest.call | apply Rest.allPc | apply Rest.allS | apply Rest.fin);exact Wh1))
  exact Yg5
theorem YB1 (h:AllF (Ws1 sl th) x) (s0:0<=sl) (t0:0<=sl*th) (len:x.f.r.length=10) (e:x.f.fn=14):AllF (Ws1 sl th) (WH6 x):=by
 have r:=h.rest
 unfold WH6 Wm6;dsimp only
 repeat' split
 all_goals first | exact YA9 h s0 t0 len e | exact YB0 h len e | exact W08 h len e | skip
 all_goals (refine WN0 ?_;first | with_reducible assumption | ((with_reducible first | apply Rest.pop | apply Rest.call | apply Rest.allPc | apply Rest.allS | apply Rest.fin);exact Wh1))
 all_goals first | (with_reducible apply Wt7;omega;assumption;assumption) | exact Yg5
theorem W85 (h:AllF (Ws1 sl th) x) (hs:sl=x.m.p.slots) (ht:th=x.m.p.c.threads) (s0:0<=sl) (t0:0<=sl*th) (hne:x.t.fr≠[]):AllF (Ws1 sl th) (Wg0 x):=by
 have r:=h.rest
 have o:=h.top hne
 unfold Wg0
 rw [if_neg hne]
 dsimp only
 split
 ·(refine WN0 ?_;first | with_reducible assumption | ((with_reducible first | apply Rest.pop | apply Rest.call | apply Rest.allPc | apply Rest.allS | apply Rest.fin);exact Wh1))
 split
 ·exact YA3 h s0 t0 (YL5 o (by omega)).1 (by assumption)
 split
 ·exact YA6 h s0 t0 (YL5 o (by omega)).1 (by assumption)
 split
 ·exact YA8 h s0 t0 (YL5 o (by omega)).1 (by assumption)
 split
 ·exact YB1 h s0 t0 (YL5 o (by omega)).1 (by assumption)
 ·exact W03 (λf hf=>.inl hf) h hs ht s0 t0 (Y92 o (by omega))
theorem YL7 (hs:0 < sl) (ha:0 < sl*th) (hne:x.t.fr≠[]) (h:Adj sl th x) (e:x.f.fn=10) (hp:0<=x.f.pc/\x.f.pc<=1):Nx sl th x (WH0 x):=by
 have r:=h.r hne
 rw [e] at r
 unfold WH0;dsimp only
 split
 ·exact W19
 have e1:x.f.pc=1:=by omega
 split
 all_goals exact W19
theorem YL8 (hs:0 < sl) (ha:0 < sl*th) (hne:x.t.fr≠[]) (h:Adj sl th x) (e:x.f.fn=11) (hp:0<=x.f.pc/\x.f.pc<=3):Nx sl th x (WH2 x):=by
 have r:=h.r hne
 rw [e] at r
 unfold WH2;dsimp only
 repeat' split
 all_goals exact WU6
theorem W86 (hs:0 < sl) (ha:0 < sl*th) (hne:x.t.fr≠[]) (h:Adj sl th x) (e:x.f.fn=11) (hp:4<=x.f.pc/\x.f.pc<=7):Nx sl th x (Wk8 x):=by
 have r:=h.r hne
 rw [e] at r
 unfold Wk8 WH1;dsimp only
 split
 ·exact WU6
 split
 ·exact W19
 split
 ·split
  ·exact W19
  ·split
   all_goals exact W19
 have e1:x.f.pc=7:=by omega
 split
 ·have ra:AdjR sl th 4 (((((x.s 7 1).s 8 0).s 9 0).pc 90).f :: rst x) (x.fin 1 0 0):=by
   have h1:Adj sl th (((((x.s 7 1).s 8 0).s 9 0).pc 90)):=(r.s.s.s).allPc
   have h2:=h1.a
   rw [show (((((x.s 7 1).s 8 0).s 9 0).pc 90)).t.fr.reverse=(((((x.s 7 1).s 8 0).s 9 0).pc 90)).f :: rst (((((x.s 7 1).s 8 0).s 9 0).pc 90)) from WD0 (Wn1 _ _)] at h2
   have er:rst ((((x.s 7 1).s 8 0).s 9 0).pc 90)=rst x:=(r.s.s.s).pc.e
   have er2:rst (x.fin 1 0 0)=(((((x.s 7 1).s 8 0).s 9 0).pc 90).f :: rst x):=by
    show ((((((x.s 7 1).s 8 0).s 9 0).pc 90).t.fr ++ [(⟨4,0,pad 10 []⟩ : Frm)]).dropLast).reverse=_
    rw [List.dropLast_concat,show (((((x.s 7 1).s 8 0).s 9 0).pc 90)).t.fr.reverse=(((((x.s 7 1).s 8 0).s 9 0).pc 90)).f :: rst (((((x.s 7 1).s 8 0).s 9 0).pc 90)) from WD0 (Wn1 _ _)]
    exact congrArg _ er
   refine ⟨?_,er2,?_,?_⟩
   ·show ((((((x.s 7 1).s 8 0).s 9 0).pc 90).t.fr ++ [(⟨4,0,pad 10 []⟩ : Frm)]).getLast?.getD dfF).fn=4
    simp
   ·refine .inr ?_
    rw [(r.s.s.s).pc.f]
    decide
   ·rw [<- er];exact h2
  have hn:(x.fin 1 0 0).t.fr≠[]:=by
   show (((((x.s 7 1).s 8 0).s 9 0).pc 90).t.fr ++ [_])≠[]
   simp
  refine ⟨Adj.push (ra.all hn) ?_,.inr ?_⟩
  ·rw [WD0 hn]
   refine .inl ?_
   show fA sl th (x.fin 1 0 0).f.fn (x.fin 1 0 0).f.pc=true
   rw [ra.f]
   have:(x.fin 1 0 0).f.pc=0:=by
    show ((((((x.s 7 1).s 8 0).s 9 0).pc 90).t.fr ++ [(⟨4,0,pad 10 []⟩ : Frm)]).getLast?.getD dfF).pc=0
    simp
   rw [this]
   simp [fA,hs]
  ·have hpf:(x.fin 1 0 0).f.pc=0:=by
    show ((((((x.s 7 1).s 8 0).s 9 0).pc 90).t.fr ++ [(⟨4,0,pad 10 []⟩ : Frm)]).getLast?.getD dfF).pc=0
    simp
   rw [WT5,ra.mu hn hpf,r.mu hne e1]
   simp [fW,fA,hs]
 ·exact W19
theorem YL9 (hs:0 < sl) (ha:0 < sl*th) (hne:x.t.fr≠[]) (h:Adj sl th x) (e:x.f.fn=11) (hp:8<=x.f.pc/\x.f.pc<=9):Nx sl th x (WH3 x):=by
 have r:=h.r hne
 rw [e] at r
 unfold WH3 WH1;dsimp only
 split
 ·split
  all_goals exact W19
 have e1:x.f.pc=9:=by omega
 exact W19
theorem YW4 (hs:0 < sl) (ha:0 < sl*th) (hne:x.t.fr≠[]) (h:Adj sl th x) (e:x.f.fn=11) (hp:10<=x.f.pc/\x.f.pc<=14):Nx sl th x (Yu1 x):=by
 have r:=h.r hne
 rw [e] at r
 unfold Yu1 WR6;dsimp only
 repeat' split
 all_goals first | exact WU6 | omega | contradiction
theorem YM0 (hs:0 < sl) (ha:0 < sl*th) (hne:x.t.fr≠[]) (h:Adj sl th x) (e:x.f.fn=11) (hp:0<=x.f.pc/\x.f.pc<=14):Nx sl th x (WH4 x):=by
 unfold WH4
 repeat' split
 ·exact YL8 hs ha hne h e (by omega)
 ·exact W86 hs ha hne h e (by omega)
 ·exact YL9 hs ha hne h e (by omega)
 ·exact YW4 hs ha hne h e (by omega)
theorem Yn0 (hs:0 < sl) (ha:0 < sl*th) (hne:x.t.fr≠[]) (h:Adj sl th x) (e:x.f.fn=12) (hp:0<=x.f.pc/\x.f.pc<=3):Nx sl th x (WB1 x):=by
 have r:=h.r hne
 rw [e] at r
 unfold WB1;dsimp only
 repeat' split
 all_goals first | exact WU6 | omega
theorem Yn1 (hs:0 < sl) (ha:0 < sl*th) (hne:x.t.fr≠[]) (h:Adj sl th x) (e:x.f.fn=13) (hp:0<=x.f.pc/\x.f.pc<=3):Nx sl th x (WB1 x):=by
 have r:=h.r hne
 rw [e] at r
 unfold WB1;dsimp only
 repeat' split
 all_goals first | exact WU6 | omega
theorem Yn2 (hs:0 < sl) (ha:0 < sl*th) (hne:x.t.fr≠[]) (h:Adj sl th x) (e:x.f.fn=12) (hp:0<=x.f.pc/\x.f.pc<=7):Nx sl th x (WB2 x):=by
 have r:=h.r hne
 rw [e] at r
 unfold WB2;dsimp only
 repeat' split
 all_goals first | exact WU6 | exact Yn0 hs ha hne h e (by omega)
theorem Yn3 (hs:0 < sl) (ha:0 < sl*th) (hne:x.t.fr≠[]) (h:Adj sl th x) (e:x.f.fn=13) (hp:0<=x.f.pc/\x.f.pc<=7):Nx sl th x (WB2 x):=by
 have r:=h.r hne
 rw [e] at r
 unfold WB2;dsimp only
 repeat' split
 all_goals first | exact WU6 | exact Yn1 hs ha hne h e (by omega)
theorem Yf2 (hs:0 < sl) (hne:x.t.fr≠[]) (h:Adj sl th x) (e:x.f.fn=14):Nx sl th x (WD5 x):=by
 have r:=h.r hne
 rw [e] at r
 unfold WD5;dsimp only
 repeat' split
 all_goals exact W19
theorem YM1 (hs:0 < sl) (ha:0 < sl*th) (hne:x.t.fr≠[]) (h:Adj sl th x) (e:x.f.fn=14) (hp:0<=x.f.pc/\x.f.pc<=3):Nx sl th x (WH5 x):=by
 have r:=h.r hne
 rw [e] at r
 unfold WH5;dsimp only
 repeat' split
 all_goals first | exact W19 | exact Yf2 hs hne h e | omega
theorem YM2 {i:Nat} {p:Int} (hs:0 < sl) (ha:0 < sl*th) (hne:x.t.fr≠[]) (h:Adj sl th x) (e:x.f.fn=14):Nx sl th x (WD6 x i p):=by
 have r:=h.r hne
 rw [e] at r
 unfold WD6;dsimp only
 split
 all_goals exact WU6
theorem YM3 (hs:0 < sl) (ha:0 < sl*th) (hne:x.t.fr≠[]) (h:Adj sl th x) (e:x.f.fn=14) (hp:0<=x.f.pc/\x.f.pc<=7):Nx sl th x (WH6 x):=by
 have r:=h.r hne
 rw [e] at r
 unfold WH6 Wm6;dsimp only
 repeat' split
 all_goals first | exact W19 | exact YM1 hs ha hne h e (by omega) | exact YM2 hs ha hne h e | exact Yf2 hs hne h e | contradiction
theorem Y32 {f:Frm} (o:Ws1 sl th f):(1<=f.fn/\f.fn<=6)\/f.fn=10/\0<=f.pc/\f.pc<=1\/f.fn=11/\(0<=f.pc/\f.pc<=14\/f.pc=90)\/(f.fn=12\/f.fn=13)/\(0<=f.pc/\f.pc<=7\/f.pc=90)\/f.fn=14/\0<=f.pc/\f.pc<=7:=by
 unfold Ws1 Wz1 at o
 omega
theorem Yn4 (hsl:sl=x.m.p.slots) (hth:th=x.m.p.c.threads) (hs:0 < sl) (ha:0 < sl*th) (hne:x.t.fr≠[]) (h:Adj sl th x) (o:Ws1 sl th x.f):Nx sl th x (Wg0 x):=by
 have o1:=Y32 o
 have r:=h.r hne
 unfold Wg0
 rw [if_neg hne]
 dsimp only
 split
 ·rename_i c
  refine ⟨r.pop,.inr (AdjR.ltPop r hne c.1 r hne ?_)⟩
  have c2:fA sl th x.f.fn 90=false:=by
   have:x.f.fn=11\/x.f.fn=12\/x.f.fn=13:=by omega
   rcases this with e | e | e <;> rw [e] <;> simp [fA]
  rw [c2]
  have:=(Yz8 x.f.fn 90).1
  simp
  omega
 split
 ·exact YL7 hs ha hne h (by assumption) (by omega)
 split
 ·exact YM0 hs ha hne h (by assumption) (by omega)
 split
 ·rename_i c
  rcases c with c | c
  ·exact Yn2 hs ha hne h c (by omega)
  ·exact Yn3 hs ha hne h c (by omega)
 split
 ·exact YM3 hs ha hne h (by assumption) (by omega)
 ·exact W84 hsl hth hs ha hne h (by omega)
end
def MoQ (c:Mod.Cf) (f:Frm):Prop:=Ws1 (Wb6 c).slots c.threads f
theorem Yn5:YD8 Wg0 MoQ Ok 11 where
 st:=Ym1
 all c x hc hp hne h:=by
  obtain ⟨a1,a2,a3,a4,a5,a6⟩:=Yf1 hc
  exact W85 h (by rw [hp]) (by rw [hp];rfl) (by omega) (by omega) hne
 nx c x hc hp hne h a:=by
  obtain ⟨a1,a2,a3,a4,a5,a6⟩:=Yf1 hc
  exact Yn4 (by rw [hp]) (by rw [hp];rfl) a1 a2 hne a (h.top hne)
 w c x B hc h hB hne hid:=by
  obtain ⟨a1,a2,a3,a4,a5,a6⟩:=Yf1 hc
  have o:Ws1 (Wb6 c).slots c.threads x.f:=h.q.top hne
  refine h.ok hB hid ?_
  rcases o with o | ⟨_,o⟩
  ·exact Y91 o ⟨by omega,a4⟩ a3
  ·omega
 new c op l hc ho:=by
  obtain ⟨a1,a2,a3,a4,a5,a6⟩:=Yf1 hc
  exact Wt7 (by omega) (by omega) (by omega)
theorem YB2:DoC 63 Wg0 Ok:=λh M T tv x R K H hw k=>WZ9 H hw k
end
section
open Mod
section
variable {x:Run} {L sl th:Int}
end
end
section
open Mod
section
variable {x:Run} {L sl th:Int}
end
end
section
open Mod
section
variable {K:kQ} {h:Wa1} {R:Hp} {calls:List (List Cl)} {Wc6 draws:List Int}
end
end
end Go.Proofs.YtahpbclnkofhfaaGreat
