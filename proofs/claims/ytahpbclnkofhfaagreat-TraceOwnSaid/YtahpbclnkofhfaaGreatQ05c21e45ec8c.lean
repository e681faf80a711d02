/- Part 12 of what the proofs of this seat rest on: see the last text of the claim. -/
import Derived.Test.YtahpbclnkofhfaaGreatQfe5c360ae00a
import Derived.Test.YtahpbclnkofhfaaGreatProg
set_option linter.unusedSimpArgs false
set_option linter.unusedVariables false
set_option linter.ambiguousOpen false
set_option maxRecDepth 20000
namespace Go.Proofs.YtahpbclnkofhfaaGreat
section
set_option maxHeartbeats 1000000
open Mod
section
variable {x:Run} {L sl th:Int}
theorem WX1 {y:Run} {l:List Frm} (r:AdjR sl th 20 l y):Adj sl th (Wo5 y):=by
 unfold Wo5;dsimp only
 split
 all_goals exact Yk1
theorem Yh8 {y:Run} {l:List Frm} {w:Int} (r:AdjR sl th 20 l y):Adj sl th (WG3 y w):=by
 unfold WG3;dsimp only
 repeat' split
 ·exact Yk1
 ·exact WX1 (l:=l) (by exact W38)
 ·exact Yk1
theorem WX2 {y:Run} (h:Tch y):Tch (Wo5 y):=by
 unfold Wo5;dsimp only
 split
 all_goals (with_reducible repeat' (first | assumption | constructor))
theorem Yh9 {y:Run} {w:Int} (h:Tch y):Tch (WG3 y w):=by
 unfold WG3;dsimp only
 repeat' split
 ·with_reducible repeat' (first | assumption | constructor)
 ·exact WX2 (by with_reducible repeat' (first | assumption | constructor))
 ·with_reducible repeat' (first | assumption | constructor)
theorem Zm6 (hs:0 < sl) (hne:x.t.fr≠[]) (h:Adj sl th x) (e:x.f.fn=20) (hp:3<=x.f.pc/\x.f.pc<=7):Nx sl th x (WT2 x):=by
 have r:=h.r hne
 rw [e] at r
 unfold WT2;dsimp only
 repeat' split
 all_goals first
  | exact ⟨Yh8 (l:=rst x) (by exact W38),.inl (Tch.act (Yh9 (by (with_reducible repeat' constructor))))⟩
  | exact ⟨WX1 (l:=rst x) (by exact W38),.inl (Tch.act (WX2 (by (with_reducible repeat' constructor))))⟩
  | exact Wm0
  | omega
theorem Zm7 (hs:0 < sl) (hne:x.t.fr≠[]) (h:Adj sl th x) (e:x.f.fn=20) (hp:0<=x.f.pc/\x.f.pc<=8):Nx sl th x (WT3 x):=by
 have r:=h.r hne
 rw [e] at r
 unfold WT3;dsimp only
 repeat' split
 all_goals first
  | exact Zm6 hs hne h e (by omega)
  | exact ⟨Yh8 (l:=rst x) (by exact W38),.inl (Tch.act (Yh9 (by (with_reducible repeat' constructor))))⟩
  | exact Wm0
theorem Y68 (hsl:sl=x.m.p.slots) (hth:th=x.m.p.c.threads) (hs:0 < sl) (ha:0 < sl*th) (hne:x.t.fr≠[]) (h:Adj sl th x) (e:1<=x.f.fn/\x.f.fn<=6\/x.f.fn=20/\0<=x.f.pc/\x.f.pc<=8):Nx sl th x (WB2 x):=by
 unfold WB2
 rw [if_neg hne]
 by_cases c:x.f.fn=20
 ·rw [if_pos c];exact Zm7 hs hne h c (by omega)
 ·rw [if_neg c];exact WH7 hsl hth hs ha hne h (by omega)
theorem Y69 (hs:0 < sl) (ha:0 < sl*th) (hne:x.t.fr≠[]) (h:Adj sl th x) (e:x.f.fn=21) (hp:0<=x.f.pc/\x.f.pc<=2):Nx sl th x (WB3 x):=by
 have r:=h.r hne
 rw [e] at r
 unfold WB3;dsimp only
 repeat' split
 all_goals first | exact WY7 | omega
theorem Zm8 (hs:0 < sl) (hne:x.t.fr≠[]) (h:Adj sl th x) (e:x.f.fn=21) (hp:3<=x.f.pc/\x.f.pc<=7):Nx sl th x (WZ4 x):=by
 have r:=h.r hne
 rw [e] at r
 unfold WZ4;dsimp only
 repeat' split
 all_goals first | exact Wm0 | omega
theorem YM9 (hs:0 < sl) (hne:x.t.fr≠[]) (h:Adj sl th x) (e:x.f.fn=21) (hp:8<=x.f.pc/\x.f.pc<=11):Nx sl th x (Wu4 x):=by
 have r:=h.r hne
 rw [e] at r
 unfold Wu4;dsimp only
 repeat' split
 all_goals first | exact Wm0 | omega
theorem YN0 (hs:0 < sl) (hne:x.t.fr≠[]) (h:Adj sl th x) (e:x.f.fn=21) (hp:12<=x.f.pc/\x.f.pc<=14):Nx sl th x (Wu5 x):=by
 have r:=h.r hne
 rw [e] at r
 unfold Wu5;dsimp only
 repeat' split
 all_goals first | exact Wm0 | omega
theorem YN1 (hs:0 < sl) (hne:x.t.fr≠[]) (h:Adj sl th x) (e:x.f.fn=21) (hp:15<=x.f.pc/\x.f.pc<=17):Nx sl th x (Wu6 x):=by
 have r:=h.r hne
 rw [e] at r
 unfold Wu6;dsimp only
 repeat' split
 ·exact Wm0
 ·exact Wm0
 ·exact Wm0
 ·have e9:x.f.pc=16:=by omega
  exact Wm0
theorem Y70 (hs:0 < sl) (ha:0 < sl*th) (hne:x.t.fr≠[]) (h:Adj sl th x) (e:x.f.fn=21) (hp:0<=x.f.pc/\x.f.pc<=17):Nx sl th x (WB4 x):=by
 unfold WB4
 repeat' split
 ·exact Y69 hs ha hne h e (by omega)
 ·exact Zm8 hs hne h e (by omega)
 ·exact YM9 hs hne h e (by omega)
 ·exact YN0 hs hne h e (by omega)
 ·exact YN1 hs hne h e (by omega)
theorem Yt6 (hs:0 < sl) (hne:x.t.fr≠[]) (h:Adj sl th x) (e:x.f.fn=22) (hp:0<=x.f.pc/\x.f.pc<=3):Nx sl th x (Wv3 x):=by
 have r:=h.r hne
 rw [e] at r
 unfold Wv3 Wv2;dsimp only
 repeat' split
 all_goals first | exact Wm0 | omega
theorem Yt7 (hs:0 < sl) (hne:x.t.fr≠[]) (h:Adj sl th x) (e:x.f.fn=23) (hp:0<=x.f.pc/\x.f.pc<=3):Nx sl th x (Wv3 x):=by
 have r:=h.r hne
 rw [e] at r
 unfold Wv3 Wv2;dsimp only
 repeat' split
 all_goals first | exact Wm0 | omega
theorem Y71 (hs:0 < sl) (hne:x.t.fr≠[]) (h:Adj sl th x) (e:x.f.fn=22\/x.f.fn=23) (hp:0<=x.f.pc/\x.f.pc<=3):Nx sl th x (Wv3 x):=by
 rcases e with e | e
 ·exact Yt6 hs hne h e hp
 ·exact Yt7 hs hne h e hp
theorem Yt8 (hs:0 < sl) (hne:x.t.fr≠[]) (h:Adj sl th x) (e:x.f.fn=22) (hp:4<=x.f.pc/\x.f.pc<=6):Nx sl th x (Wv4 x):=by
 have r:=h.r hne
 rw [e] at r
 unfold Wv4;dsimp only
 repeat' split
 all_goals first | exact Wm0 | omega
theorem Yt9 (hs:0 < sl) (hne:x.t.fr≠[]) (h:Adj sl th x) (e:x.f.fn=23) (hp:4<=x.f.pc/\x.f.pc<=6):Nx sl th x (Wv4 x):=by
 have r:=h.r hne
 rw [e] at r
 unfold Wv4;dsimp only
 repeat' split
 all_goals first | exact Wm0 | omega
theorem Y72 (hs:0 < sl) (hne:x.t.fr≠[]) (h:Adj sl th x) (e:x.f.fn=22\/x.f.fn=23) (hp:4<=x.f.pc/\x.f.pc<=6):Nx sl th x (Wv4 x):=by
 rcases e with e | e
 ·exact Yt8 hs hne h e hp
 ·exact Yt9 hs hne h e hp
theorem Yu0 (hs:0 < sl) (hne:x.t.fr≠[]) (h:Adj sl th x) (e:x.f.fn=22) (hp:7<=x.f.pc/\x.f.pc<=8):Nx sl th x (Wv5 x):=by
 have r:=h.r hne
 rw [e] at r
 unfold Wv5;dsimp only
 repeat' split
 all_goals first | exact Wm0 | omega
theorem Yu1 (hs:0 < sl) (hne:x.t.fr≠[]) (h:Adj sl th x) (e:x.f.fn=23) (hp:7<=x.f.pc/\x.f.pc<=8):Nx sl th x (Wv5 x):=by
 have r:=h.r hne
 rw [e] at r
 unfold Wv5;dsimp only
 repeat' split
 all_goals first | exact Wm0 | omega
theorem Y73 (hs:0 < sl) (hne:x.t.fr≠[]) (h:Adj sl th x) (e:x.f.fn=22\/x.f.fn=23) (hp:7<=x.f.pc/\x.f.pc<=8):Nx sl th x (Wv5 x):=by
 rcases e with e | e
 ·exact Yu0 hs hne h e hp
 ·exact Yu1 hs hne h e hp
theorem Yi0 (hs:0 < sl) (hne:x.t.fr≠[]) (h:Adj sl th x) (e:x.f.fn=22) (hp:9<=x.f.pc/\x.f.pc<=13):Nx sl th x (Wo6 x):=by
 have r:=h.r hne
 rw [e] at r
 unfold Wo6 Wv2;dsimp only
 repeat' split
 ·exact Wm0
 ·exact Wm0
 ·exact Wm0
 ·exact Wm0
 ·exact Wm0
 ·have e9:x.f.pc=13:=by omega
  exact Wm0
theorem Yi1 (hs:0 < sl) (hne:x.t.fr≠[]) (h:Adj sl th x) (e:x.f.fn=23) (hp:9<=x.f.pc/\x.f.pc<=13):Nx sl th x (Wo6 x):=by
 have r:=h.r hne
 rw [e] at r
 unfold Wo6 Wv2;dsimp only
 repeat' split
 ·exact Wm0
 ·exact Wm0
 ·exact Wm0
 ·exact Wm0
 ·exact Wm0
 ·have e9:x.f.pc=13:=by omega
  exact Wm0
theorem YN2 (hs:0 < sl) (hne:x.t.fr≠[]) (h:Adj sl th x) (e:x.f.fn=22\/x.f.fn=23) (hp:9<=x.f.pc/\x.f.pc<=13):Nx sl th x (Wo6 x):=by
 rcases e with e | e
 ·exact Yi0 hs hne h e hp
 ·exact Yi1 hs hne h e hp
theorem Y74 (hs:0 < sl) (hne:x.t.fr≠[]) (h:Adj sl th x) (e:x.f.fn=22\/x.f.fn=23) (hp:0<=x.f.pc/\x.f.pc<=13):Nx sl th x (WB5 x):=by
 unfold WB5
 repeat' split
 ·exact Y71 hs hne h e (by omega)
 ·exact Y72 hs hne h e (by omega)
 ·exact Y73 hs hne h e (by omega)
 ·exact YN2 hs hne h e (by omega)
theorem ZI3 {f:Frm} (o:Wl9 L sl th f) (hs:0 < sl):(1<=f.fn/\f.fn<=6\/f.fn=20/\0<=f.pc/\f.pc<=8)\/f.fn=21/\(0<=f.pc/\f.pc<=17\/f.pc=90)\/(f.fn=22\/f.fn=23)/\(0<=f.pc/\f.pc<=13\/f.pc=90):=by
 unfold Wl9 Wx8 at o
 omega
theorem Yi2 (hsl:sl=x.m.p.slots) (hth:th=x.m.p.c.threads) (hs:0 < sl) (ha:0 < sl*th) (hne:x.t.fr≠[]) (h:Adj sl th x) (o:Wl9 L sl th x.f):Nx sl th x (Wi0 x):=by
 have o1:=ZI3 o hs
 have r:=h.r hne
 unfold Wi0
 rw [if_neg hne]
 dsimp only
 split
 ·exact Y68 hsl hth hs ha hne h (by omega)
 split
 ·rename_i c c9
  refine ⟨r.pop,.inr (AdjR.ltPop r hne c9 r hne ?_)⟩
  have c2:fA sl th x.f.fn 90=false:=by
   have:x.f.fn=21\/x.f.fn=22\/x.f.fn=23:=by omega
   rcases this with e | e | e <;> rw [e] <;> simp [fA]
  rw [c2]
  have:=(Yh4 x.f.fn 90).1
  simp
  omega
 split
 ·exact Y70 hs ha hne h (by assumption) (by omega)
 ·exact Y74 hs hne h (by omega) (by omega)
end
end
section
open Mod
theorem Y75 {n L:Int} (h:0<=s64 n/\s64 n < L) (hn:(s64 n).toNat≠0) (hL:L<=6):0<=s64 (Mod.u64 (n - 1))/\s64 (Mod.u64 (n - 1)) < L:=by
 unfold s64 Mod.u64 at *
 repeat' split
 all_goals (split at h <;> split at hn <;> omega)
theorem Y76 {L:Int} (hL:1<=L/\L<=6):0<=s64 (Mod.u64 (L - 1))/\s64 (Mod.u64 (L - 1)) < L:=by
 unfold s64 Mod.u64
 split <;> omega
section
variable {x:Run} {L sl th:Int}
theorem WX3 {f:Frm} (len:f.r.length=10) (e:f.fn=20) (hp:0<=f.pc/\f.pc<=8) (hg:0<=s64 (f.g 1)/\s64 (f.g 1) < L):Wl9 L sl th f:=.inr ⟨len,.inr (.inr ⟨e,hp.1,hp.2,λ_=>hg⟩)⟩
structure ZI4 (L:Int) (f:Frm):Prop where
 len:f.r.length=10
 fn:f.fn=20
 g:0<=s64 (f.g 1)/\s64 (f.g 1) < L
theorem WX4 {y:Run} (hL:L<=6) (r:Rest (Wl9 L sl th) y) (o:ZI4 L y.f):AllF (Wl9 L sl th) (Wo5 y):=by
 obtain ⟨len,e,g⟩:=o
 unfold Wo5;dsimp only
 split
 ·(refine Wm1 ?_;first | with_reducible assumption | ((with_reducible first | apply Rest.pop | apply Rest.call | apply Rest.allPc | apply Rest.allS | apply Rest.fin);exact Wd0))
 ·rename_i c
  (refine Wm1 ?_;first | with_reducible assumption | ((with_reducible first | apply Rest.pop | apply Rest.call | apply Rest.allPc | apply Rest.allS | apply Rest.fin);exact Wd0))
  rw [f_s]
  refine WX3 (by simp only [Wh4,Wj1];assumption) (by simp only [Wt0,WU3];assumption) ⟨by show (0:Int)<=1;omega,by show (1:Int)<=8;omega⟩ ?_
  have e1:(((y.setPl (y.t.pred.set (s64 (y.f.g 1)).toNat (y.f.g 2)) (y.t.succ.set (s64 (y.f.g 1)).toNat (Wg8 (y.f.g 3))) (y.t.word.set (s64 (y.f.g 1)).toNat (y.f.g 3))).f.s 1 (Mod.u64 (y.f.g 1 - 1))).at 1).g 1=Mod.u64 (y.f.g 1 - 1):=by
   rw [WP0]
   exact g_s (show (y.f).r.length=10 from len) (by decide) _
  rw [e1]
  exact Y75 g c hL
theorem Yi3 {y:Run} {w:Int} (hL:L<=6) (r:Rest (Wl9 L sl th) y) (o:ZI4 L y.f):AllF (Wl9 L sl th) (WG3 y w):=by
 obtain ⟨len,e,g⟩:=o
 have g2:((y.f.s 3 w)).g 1=y.f.g 1:=Wa7 _ (by decide) _
 unfold WG3;dsimp only
 repeat' split
 ·(refine Wm1 ?_;first | with_reducible assumption | ((with_reducible first | apply Rest.pop | apply Rest.call | apply Rest.allPc | apply Rest.allS | apply Rest.fin);exact Wd0))
  rw [f_s]
  exact WX3 (by simp only [Wh4,Wj1];assumption) (by simp only [Wt0,WU3];assumption) ⟨by show (0:Int)<=8;omega,by show (8:Int)<=8;omega⟩ (by rw [WP0,g2];exact g)
 ·exact WX4 hL (by exact Wd0) ⟨by rw [f_s,Wj1];exact len,by rw [f_s];exact e,by rw [f_s,g2];exact g⟩
 ·(refine Wm1 ?_;first | with_reducible assumption | ((with_reducible first | apply Rest.pop | apply Rest.call | apply Rest.allPc | apply Rest.allS | apply Rest.fin);exact Wd0))
  rw [f_s]
  exact WX3 (by simp only [Wh4,Wj1];assumption) (by simp only [Wt0,WU3];assumption) ⟨by show (0:Int)<=3;omega,by show (3:Int)<=8;omega⟩ (by rw [WP0,g2];exact g)
theorem Y77 (hL:L<=6) (h:AllF (Wl9 L sl th) x) (o:Wl9 L sl th x.f) (e:x.f.fn=20) (hp:x.f.pc≠0):AllF (Wl9 L sl th) (WT2 x):=by
 have r:=h.rest
 obtain ⟨len,o1,o2,o3⟩:=Zz6 o e
 have g:=o3 hp
 unfold WT2;dsimp only
 repeat' split
 all_goals first
  | exact Yi3 hL (by exact Wd0) ⟨len,e,g⟩
  | exact WX4 hL (by exact Wd0) ⟨len,e,g⟩
  | skip
 all_goals (refine Wm1 ?_;first | with_reducible assumption | ((with_reducible first | apply Rest.pop | apply Rest.call | apply Rest.allPc | apply Rest.allS | apply Rest.fin);exact Wd0))
 all_goals exact ZP8
theorem Y78 (hL:1<=L/\L<=6) (hl:L=x.m.p.c.level) (h:AllF (Wl9 L sl th) x) (o:Wl9 L sl th x.f) (e:x.f.fn=20):AllF (Wl9 L sl th) (WT3 x):=by
 have r:=h.rest
 obtain ⟨len,o1,o2,o3⟩:=Zz6 o e
 unfold WT3;dsimp only
 split
 ·(refine Wm1 ?_;first | with_reducible assumption | ((with_reducible first | apply Rest.pop | apply Rest.call | apply Rest.allPc | apply Rest.allS | apply Rest.fin);exact Wd0))
  rw [f_s,f_s]
  refine WX3 (by simp only [Wh4,Wj1];assumption) (by simp only [Wt0,WU3];assumption) ⟨by show (0:Int)<=1;omega,by show (1:Int)<=8;omega⟩ ?_
  rw [WP0,g_s (by rw [Wj1];exact len) (by decide),<- hl]
  exact Y76 hL
 rename_i c
 have g:=o3 c
 repeat' split
 all_goals first
  | exact Y77 hL.2 h o e c
  | exact Yi3 hL.2 (by exact Wd0) ⟨len,e,g⟩
  | skip
 all_goals (refine Wm1 ?_;first | with_reducible assumption | ((with_reducible first | apply Rest.pop | apply Rest.call | apply Rest.allPc | apply Rest.allS | apply Rest.fin);exact Wd0))
 ·exact ZP8
 ·refine .inr ⟨by rw [Wh4];exact len,.inr (.inr ⟨e,by show (0:Int)<=0;omega,by show (0:Int)<=8;omega,λhh=>absurd rfl hh⟩)⟩
theorem YN3 (hL:1<=L/\L<=6) (hl:L=x.m.p.c.level) (hs:sl=x.m.p.slots) (ht:th=x.m.p.c.threads) (s0:0<=sl) (t0:0<=sl*th) (h:AllF (Wl9 L sl th) x) (o:Wl9 L sl th x.f) (e:¬ (21<=x.f.fn/\x.f.fn<=23)):AllF (Wl9 L sl th) (WB2 x):=by
 unfold WB2
 split
 ·exact h
 split
 ·exact Y78 hL hl h o (by assumption)
 ·exact WD1 (λf hf=>.inl hf) h hs ht s0 t0 (ZO9 o (by omega))
theorem YD1 (m:Mac) (hl:1<=L/\L<=6):1<=Mod.u64 (m.lvl L).1/\Mod.u64 (m.lvl L).1<=L:=by
 have:=Zz5 m hl.1
 unfold Mod.u64
 omega
theorem YN4 (h:AllF (Wl9 L sl th) x) (hL:L=x.m.p.c.level) (hl:1<=L/\L<=6) (s0:0<=sl) (t0:0<=sl*th) (o:Wl9 L sl th x.f) (e:x.f.fn=21) (hp:0<=x.f.pc/\x.f.pc<=2):AllF (Wl9 L sl th) (WB3 x):=by
 have r:=h.rest
 obtain ⟨len,o1,o2,o3,o4⟩:=Yt1 o e
 unfold WB3;dsimp only
 repeat' split
 ·(refine Wm1 ?_;first | with_reducible assumption | ((with_reducible first | apply Rest.pop | apply Rest.call | apply Rest.allPc | apply Rest.allS | apply Rest.fin);exact Wd0))
  ·exact YS3
  ·exact Ww0 (by omega) s0 t0
 ·(refine Wm1 ?_;first | with_reducible assumption | ((with_reducible first | apply Rest.pop | apply Rest.call | apply Rest.allPc | apply Rest.allS | apply Rest.fin);exact Wd0))
  exact YS3
 ·(refine Wm1 ?_;first | with_reducible assumption | ((with_reducible first | apply Rest.pop | apply Rest.call | apply Rest.allPc | apply Rest.allS | apply Rest.fin);exact Wd0))
  ·exact YS3
  ·exact Ww0 (by omega) s0 t0
 ·(refine Wm1 ?_;first | with_reducible assumption | ((with_reducible first | apply Rest.pop | apply Rest.call | apply Rest.allPc | apply Rest.allS | apply Rest.fin);exact Wd0))
  ·exact YS3
  ·exact Ww0 (by omega) s0 t0
 ·refine Rest.allPc (Rest.s (Rest.m (by exact Wd0))) ?_
  rw [f_s]
  have ef:∀m:Mac,(⟨m,((x.add 3 1).2.s 4 (Wg6 (u32 (x.f.g 0)) (u32 (x.add 3 1).1))).t,((x.add 3 1).2.s 4 (Wg6 (u32 (x.f.g 0)) (u32 (x.add 3 1).1))).id⟩ : Run).f=x.f.s 4 (Wg6 (u32 (x.f.g 0)) (u32 (x.add 3 1).1)):=λm=>by
   show ((x.add 3 1).2.s 4 (Wg6 (u32 (x.f.g 0)) (u32 (x.add 3 1).1))).f=_
   rw [f_s]
   rfl
  rw [ef]
  have hv:=YD1 ((x.add 3 1).2.s 4 (Wg6 (u32 (x.f.g 0)) (u32 (x.add 3 1).1))).m hl
  have ep:((x.add 3 1).2.s 4 (Wg6 (u32 (x.f.g 0)) (u32 (x.add 3 1).1))).m.p.c.level=L:=by rw [hL];exact congrArg (λp:Pl=>p.c.level) (St.fix (St.s (St.add (St.refl x)):St 2 x ((x.add 3 1).2.s 4 (Wg6 (u32 (x.f.g 0)) (u32 (x.add 3 1).1))))).p
  rw [ep]
  generalize Mod.u64 (((x.add 3 1).2.s 4 (Wg6 (u32 (x.f.g 0)) (u32 (x.add 3 1).1))).m.lvl L).1=v at *
  refine .inr ⟨by simp only [Wh4,Wj1];exact len,.inl ⟨e,.inl ⟨by show (0:Int)<=3;omega,by show (3:Int)<=17;omega⟩,λ_ _=>?_,λhh=>?_,λhh=>?_⟩⟩
  ·rw [WP0,g_s (by rw [Wj1];exact len) (by decide)]
   exact hv
  ·simp only [Wz0] at hh;omega
  ·simp only [Wz0] at hh;omega
 ·exact h
theorem YN5 (h:AllF (Wl9 L sl th) x) (hL:L=x.m.p.c.level) (hl:1<=L/\L<=6) (s0:0<=sl) (t0:0<=sl*th) (o:Wl9 L sl th x.f) (e:x.f.fn=21) (h9:x.f.pc≠90):AllF (Wl9 L sl th) (WB4 x):=by
 obtain ⟨len,o1,o2,o3,o4⟩:=Yt1 o e
 unfold WB4
 repeat' split
 ·exact YN4 h hL hl s0 t0 o e (by omega)
 ·exact Y66 h hL hl s0 t0 o e (by omega)
 ·exact Yt4 h hL hl s0 t0 o e (by omega)
 ·exact Yt3 h hL hl s0 t0 o e (by omega)
 ·exact Yt2 h hL hl s0 t0 o e
theorem YN6 (h:AllF (Wl9 L sl th) x) (s0:0<=sl) (t0:0<=sl*th) (o:Wl9 L sl th x.f) (e:x.f.fn=22\/x.f.fn=23):AllF (Wl9 L sl th) (WB5 x):=by
 unfold WB5
 repeat' split
 ·exact YM6 h s0 t0 o e
 ·exact YM7 h s0 t0 o e
 ·exact YM8 h s0 t0 o e
 ·exact Yt5 h s0 t0 o e
theorem W82 (h:AllF (Wl9 L sl th) x) (hL:L=x.m.p.c.level) (hl:1<=L/\L<=6) (hs:sl=x.m.p.slots) (ht:th=x.m.p.c.threads) (s0:0<=sl) (t0:0<=sl*th) (hne:x.t.fr≠[]):AllF (Wl9 L sl th) (Wi0 x):=by
 have r:=h.rest
 have o:=h.top hne
 unfold Wi0
 rw [if_neg hne]
 dsimp only
 split
 ·exact YN3 hl hL hs ht s0 t0 h o (by omega)
 split
 ·(refine Wm1 ?_;first | with_reducible assumption | ((with_reducible first | apply Rest.pop | apply Rest.call | apply Rest.allPc | apply Rest.allS | apply Rest.fin);exact Wd0))
 split
 ·exact YN5 h hL hl s0 t0 o (by assumption) (by assumption)
 ·exact YN6 h s0 t0 o (by omega)
end
end
section
open Mod
theorem WA2 {c:Mod.Cf} (h:okC c=true):0 < (Wb9 c).slots/\0 < (Wb9 c).slots*c.threads/\(Wb9 c).slots*c.threads<=84/\(Wb9 c).slots<=14/\1<=c.level/\c.level<=6:=by
 have B:=Wt1 h
 have h1:2<=(Wb9 c).slots/\(Wb9 c).slots<=14:=B.sl
 have h2:1<=c.threads/\c.threads<=6:=B.th
 have h3:1<=c.level/\c.level<=6:=B.lv
 refine ⟨by omega,Int.mul_pos (by omega) (by omega),?_,h1.2,h3.1,h3.2⟩
 exact Int.le_trans (Int.mul_le_mul h1.2 h2.2 (by omega) (by omega)) (by decide)
theorem RunOk.ok {Q:Mod.Cf->Frm->Prop} {c:Mod.Cf} {x:Run} {B:Nat} (h:RunOk Q c x B) (hB:B < 200000000) (hid:0<=x.id/\x.id<=6) (hp:0<=x.f.pc/\x.f.pc<=100):Ok x:=by
 have hP:x.m.mm.st.toNat+x.m.used.toNat+x.t.retired.length+x.t.found.length+x.t.fr.length<=B:=h.P
 exact ⟨by omega,by omega,by omega,by omega,by omega,⟨by omega,by omega⟩,hp⟩
theorem Zz7 {sl th:Int} {f:Frm} (h:Wx8 sl th f) (h1:0<=sl/\sl<=14) (h2:sl*th<=84):0<=f.pc/\f.pc<=100:=by
 unfold Wx8 at h
 omega
def SuQ (c:Mod.Cf) (f:Frm):Prop:=Wl9 c.level (Wb9 c).slots c.threads f
def SuW (x:Run):Prop:=Ok x/\FOk x/\(x.f.fn=21->ZO4 x)
theorem Yi4:YL8 Wi0 SuQ SuW 21 where
 st:=Yh2
 all c x hc hp hne h:=by
  obtain ⟨a1,a2,a3,a4,a5,a6⟩:=WA2 hc
  exact W82 h (by rw [hp];rfl) ⟨a5,a6⟩ (by rw [hp]) (by rw [hp];rfl) (by omega) (by omega) hne
 nx c x hc hp hne h a:=by
  obtain ⟨a1,a2,a3,a4,a5,a6⟩:=WA2 hc
  exact Yi2 (by rw [hp]) (by rw [hp];rfl) a1 a2 hne a (h.top hne)
 w c x B hc h hB hne hid:=by
  obtain ⟨a1,a2,a3,a4,a5,a6⟩:=WA2 hc
  have o:Wl9 c.level (Wb9 c).slots c.threads x.f:=h.q.top hne
  have hpr:=h.pr
  have hsu:=h.su
  have hwo:=h.wo
  refine ⟨h.ok hB hid ?_,λe hp=>?_,λe=>?_⟩
  ·rcases o with o | ⟨_,o⟩
   ·exact Zz7 o ⟨by omega,a4⟩ a3
   ·omega
  ·obtain ⟨len,o1,o2,o3⟩:=Zz6 o e
   have g:=o3 hp
   exact ⟨⟨g.1,by omega⟩,by omega,by omega,by omega⟩
  ·obtain ⟨len,o1,o2,o3,o4⟩:=Yt1 o e
   refine ⟨⟨by omega,by omega,by omega,by omega⟩,λe2=>?_,λe2=>?_,λe2 e3=>?_⟩
   ·have g1:=o2 (by omega) (by omega)
    have g2:=o3 (by omega)
    omega
   ·have g1:=o2 (by omega) (by omega)
    omega
   ·have g1:=o2 (by omega) (by omega)
    have g2:=o3 (by omega)
    omega
 new c op l hc ho:=by
  obtain ⟨a1,a2,a3,a4,a5,a6⟩:=WA2 hc
  exact Ww0 (by omega) (by omega) (by omega)
theorem Yu2:DoC 64 Wi0 SuW:=λh M T tv x R K H hw k=>WZ9 H hw.1 hw.2.1 hw.2.2 k
end
section
open Mod
theorem f_m (x:Run) (m:Mac):({ x with m:=m }:Run).f=x.f:=rfl
theorem WH8 (x:Run) (a b c:Int) (d:Bool):(x.swing a b c d).2.f=x.f:=rfl
theorem Wz9 (x:Run) (a b c:Int) (d:Bool):(x.swingM a b c d).2.f=x.f:=rfl
theorem WH9 (x:Run) (a b:Int):(x.guard a b).f=x.f:=rfl
def WA3 (sl th:Int) (f:Frm):Prop:=Wx8 sl th f\/f.r.length=10/\(f.fn=10/\0<=f.pc/\f.pc<=1\/f.fn=11/\(0<=f.pc/\f.pc<=14\/f.pc=90)\/(f.fn=12\/f.fn=13)/\(0<=f.pc/\f.pc<=7\/f.pc=90)\/f.fn=14/\0<=f.pc/\f.pc<=7)
theorem WD4 {sl th fn:Int} {l:List Int} (h:1<=fn/\fn<=6\/10<=fn/\fn<=14) (hs:0<=sl) (ht:0<=sl*th):WA3 sl th ⟨fn,0,pad 10 l⟩:=by
 by_cases c:fn<=6
 ·exact .inl (Yh3 (by omega) hs ht)
 ·refine .inr ⟨Wy9 _ _,?_⟩
  dsimp only
  omega
theorem ZP0 {sl th:Int} {f:Frm} (h:WA3 sl th f) (e:¬ (10<=f.fn/\f.fn<=14)):Wx8 sl th f:=by
 unfold WA3 at h
 rcases h with h | ⟨_,h⟩
 ·exact h
 ·omega
theorem Zm9 {sl th:Int} {f:Frm} (h:WA3 sl th f) (e:10<=f.fn/\f.fn<=14):f.r.length=10/\(f.fn=10/\0<=f.pc/\f.pc<=1\/f.fn=11/\(0<=f.pc/\f.pc<=14\/f.pc=90)\/(f.fn=12\/f.fn=13)/\(0<=f.pc/\f.pc<=7\/f.pc=90)\/f.fn=14/\0<=f.pc/\f.pc<=7):=by
 unfold WA3 Wx8 at h
 rcases h with h | h
 ·omega
 ·exact h
section
variable {x:Run} {sl th:Int}
theorem Y79 (h:AllF (WA3 sl th) x) (s0:0<=sl) (t0:0<=sl*th) (len:x.f.r.length=10) (e:x.f.fn=10):AllF (WA3 sl th) (WS4 x):=by
 have r:=h.rest
 unfold WS4;dsimp only
 repeat' split
 all_goals (refine Wm1 ?_;first | with_reducible assumption | ((with_reducible first | apply Rest.pop | apply Rest.call | apply Rest.allPc | apply Rest.allS | apply Rest.fin);exact Wd0))
 all_goals first | (with_reducible apply WD4;omega;assumption;assumption) | exact YE4
theorem Y80 (h:AllF (WA3 sl th) x) (s0:0<=sl) (t0:0<=sl*th) (len:x.f.r.length=10) (e:x.f.fn=11):AllF (WA3 sl th) (WS6 x):=by
 have r:=h.rest
 unfold WS6;dsimp only
 repeat' split
 all_goals (refine Wm1 ?_;first | with_reducible assumption | ((with_reducible first | apply Rest.pop | apply Rest.call | apply Rest.allPc | apply Rest.allS | apply Rest.fin);exact Wd0))
 all_goals first | (with_reducible apply WD4;omega;assumption;assumption) | exact YE4
theorem Yi5 (h:AllF (WA3 sl th) x) (s0:0<=sl) (t0:0<=sl*th) (len:x.f.r.length=10) (e:x.f.fn=11):AllF (WA3 sl th) (Wo4 x):=by
 have r:=h.rest
 unfold Wo4 WS5;dsimp only
 split
 ·refine Rest.allPc (Rest.s (Rest.m (by exact Wd0))) ?_
  exact YE4
 repeat' split
 all_goals first | (refine AllF.push ?_ (WD4 (by omega) s0 t0)) | skip
 all_goals (refine Wm1 ?_;first | with_reducible assumption | ((with_reducible first | apply Rest.pop | apply Rest.call | apply Rest.allPc | apply Rest.allS | apply Rest.fin);exact Wd0))
 all_goals first | (with_reducible apply WD4;omega;assumption;assumption) | exact YE4
theorem Y81 (h:AllF (WA3 sl th) x) (s0:0<=sl) (t0:0<=sl*th) (len:x.f.r.length=10) (e:x.f.fn=11):AllF (WA3 sl th) (WS7 x):=by
 have r:=h.rest
 unfold WS7 WS5;dsimp only
 repeat' split
 all_goals (refine Wm1 ?_;first | with_reducible assumption | ((with_reducible first | apply Rest.pop | apply Rest.call | apply Rest.allPc | apply Rest.allS | apply Rest.fin);exact Wd0))
 all_goals first | (with_reducible apply WD4;omega;assumption;assumption) | exact YE4
theorem Zn0 (h:AllF (WA3 sl th) x) (s0:0<=sl) (t0:0<=sl*th) (len:x.f.r.length=10) (e:x.f.fn=11):AllF (WA3 sl th) (YX1 x):=by
 have r:=h.rest
 unfold YX1 W55;dsimp only
 repeat' split
 all_goals (refine Wm1 ?_;first | with_reducible assumption | ((with_reducible first | apply Rest.pop | apply Rest.call | apply Rest.allPc | apply Rest.allS | apply Rest.fin);exact Wd0))
 all_goals first | (with_reducible apply WD4;omega;assumption;assumption) | with_reducible exact Rest.m r | exact YE4
theorem Y82 (h:AllF (WA3 sl th) x) (s0:0<=sl) (t0:0<=sl*th) (len:x.f.r.length=10) (e:x.f.fn=11):AllF (WA3 sl th) (WS8 x):=by
 unfold WS8
 repeat' split
 ·exact Y80 h s0 t0 len e
 ·exact Yi5 h s0 t0 len e
 ·exact Y81 h s0 t0 len e
 ·exact Zn0 h s0 t0 len e
theorem Y83 (h:AllF (WA3 sl th) x) (s0:0<=sl) (t0:0<=sl*th) (len:x.f.r.length=10) (e:x.f.fn=12\/x.f.fn=13):AllF (WA3 sl th) (WM3 x):=by
 have r:=h.rest
 unfold WM3;dsimp only
 repeat' split
 all_goals (refine Wm1 ?_;first | with_reducible assumption | ((with_reducible first | apply Rest.pop | apply Rest.call | apply Rest.allPc | apply Rest.allS | apply Rest.fin);exact Wd0))
 all_goals first | (with_reducible apply WD4;omega;assumption;assumption) | exact YE4
theorem Y84 (h:AllF (WA3 sl th) x) (s0:0<=sl) (t0:0<=sl*th) (len:x.f.r.length=10) (e:x.f.fn=12\/x.f.fn=13):AllF (WA3 sl th) (WM4 x):=by
 have r:=h.rest
 unfold WM4;dsimp only
 repeat' split
 all_goals first | exact Y83 h s0 t0 len e | skip
 all_goals (refine Wm1 ?_;first | with_reducible assumption | ((with_reducible first | apply Rest.pop | apply Rest.call | apply Rest.allPc | apply Rest.allS | apply Rest.fin);exact Wd0))
 all_goals first | (with_reducible apply WD4;omega;assumption;assumption) | exact YE4
theorem Yi6 (h:AllF (WA3 sl th) x) (len:x.f.r.length=10) (e:x.f.fn=14):AllF (WA3 sl th) (WO7 x):=by
 have r:=h.rest
 unfold WO7;dsimp only
 repeat' split
 all_goals (refine Wm1 ?_;first | with_reducible assumption | ((with_reducible first | apply Rest.pop | apply Rest.call | apply Rest.allPc | apply Rest.allS | apply Rest.fin);exact Wd0))
 all_goals exact YE4
theorem Y85 (h:AllF (WA3 sl th) x) (s0:0<=sl) (t0:0<=sl*th) (len:x.f.r.length=10) (e:x.f.fn=14):AllF (WA3 sl th) (WS9 x):=by
 have r:=h.rest
 unfold WS9;dsimp only
 repeat' split
 all_goals first | exact Yi6 h len e | skip
 all_goals (refine Wm1 ?_;first | with_reducible assumption | ((with_reducible first | apply Rest.pop | apply Rest.call | apply Rest.allPc | apply Rest.allS | apply Rest.fin);exact Wd0))
 all_goals first | (with_reducible apply WD4;omega;assumption;assumption) | exact YE4
theorem Y86 {i:Nat} {p:Int} (h:AllF (WA3 sl th) x) (len:x.f.r.length=10) (e:x.f.fn=14):AllF (WA3 sl th) (WO8 x i p):=by
 have r:=h.rest
 unfold WO8;dsimp only
 split
 ·refine Rest.allS (Rest.m (by exact Wd0)) ?_
  exact YE4
 ·refine AllF.m ?_
  (refine Wm1 ?_;first | with_reducible assumption | ((with_reducible first | apply Rest.pop | apply Rest.call | apply Rest.allPc | apply Rest.allS | apply Rest.fin);exact Wd0))
  exact YE4
theorem Y87 (h:AllF (WA3 sl th) x) (s0:0<=sl) (t0:0<=sl*th) (len:x.f.r.length=10) (e:x.f.fn=14):AllF (WA3 sl th) (WT0 x):=by
 have r:=h.rest
 unfold WT0 Wr6;dsimp only
 repeat' split
 all_goals first | exact Y85 h s0 t0 len e | exact Y86 h len e | exact Yi6 h len e | skip
 all_goals (refine Wm1 ?_;first | with_reducible assumption | ((with_reducible first | apply Rest.pop | apply Rest.call | apply Rest.allPc | apply Rest.allS | apply Rest.fin);exact Wd0))
 all_goals first | (with_reducible apply WD4;omega;assumption;assumption) | exact YE4
theorem Yu3 (h:AllF (WA3 sl th) x) (hs:sl=x.m.p.slots) (ht:th=x.m.p.c.threads) (s0:0<=sl) (t0:0<=sl*th) (hne:x.t.fr≠[]):AllF (WA3 sl th) (Wh5 x):=by
 have r:=h.rest
 have o:=h.top hne
 unfold Wh5
 rw [if_neg hne]
 dsimp only
 split
 ·(refine Wm1 ?_;first | with_reducible assumption | ((with_reducible first | apply Rest.pop | apply Rest.call | apply Rest.allPc | apply Rest.allS | apply Rest.fin);exact Wd0))
 split
 ·exact Y79 h s0 t0 (Zm9 o (by omega)).1 (by assumption)
 split
 ·exact Y82 h s0 t0 (Zm9 o (by omega)).1 (by assumption)
 split
 ·exact Y84 h s0 t0 (Zm9 o (by omega)).1 (by assumption)
 split
 ·exact Y87 h s0 t0 (Zm9 o (by omega)).1 (by assumption)
 ·exact WD1 (λf hf=>.inl hf) h hs ht s0 t0 (ZP0 o (by omega))
theorem Zn1 (hs:0 < sl) (ha:0 < sl*th) (hne:x.t.fr≠[]) (h:Adj sl th x) (e:x.f.fn=10) (hp:0<=x.f.pc/\x.f.pc<=1):Nx sl th x (WS4 x):=by
 have r:=h.r hne
 rw [e] at r
 unfold WS4;dsimp only
 split
 ·exact Wm0
 have e1:x.f.pc=1:=by omega
 split
 all_goals exact Wm0
theorem Zn2 (hs:0 < sl) (ha:0 < sl*th) (hne:x.t.fr≠[]) (h:Adj sl th x) (e:x.f.fn=11) (hp:0<=x.f.pc/\x.f.pc<=3):Nx sl th x (WS6 x):=by
 have r:=h.r hne
 rw [e] at r
 unfold WS6;dsimp only
 repeat' split
 all_goals exact WY7
theorem Yu4 (hs:0 < sl) (ha:0 < sl*th) (hne:x.t.fr≠[]) (h:Adj sl th x) (e:x.f.fn=11) (hp:4<=x.f.pc/\x.f.pc<=7):Nx sl th x (Wo4 x):=by
 have r:=h.r hne
 rw [e] at r
 unfold Wo4 WS5;dsimp only
 split
 ·exact WY7
 split
 ·exact Wm0
 split
 ·split
  ·exact Wm0
  ·split
   all_goals exact Wm0
 have e1:x.f.pc=7:=by omega
 split
 ·have ra:AdjR sl th 4 (((((x.s 7 1).s 8 0).s 9 0).pc 90).f :: rst x) (x.fin 1 0 0):=by
   have h1:Adj sl th (((((x.s 7 1).s 8 0).s 9 0).pc 90)):=(r.s.s.s).allPc
   have h2:=h1.a
   rw [show (((((x.s 7 1).s 8 0).s 9 0).pc 90)).t.fr.reverse=(((((x.s 7 1).s 8 0).s 9 0).pc 90)).f :: rst (((((x.s 7 1).s 8 0).s 9 0).pc 90)) from WO4 (Ws1 _ _)] at h2
   have er:rst ((((x.s 7 1).s 8 0).s 9 0).pc 90)=rst x:=(r.s.s.s).pc.e
   have er2:rst (x.fin 1 0 0)=(((((x.s 7 1).s 8 0).s 9 0).pc 90).f :: rst x):=by
    show ((((((x.s 7 1).s 8 0).s 9 0).pc 90).t.fr ++ [(⟨4,0,pad 10 []⟩ : Frm)]).dropLast).reverse=_
    rw [List.dropLast_concat,show (((((x.s 7 1).s 8 0).s 9 0).pc 90)).t.fr.reverse=(((((x.s 7 1).s 8 0).s 9 0).pc 90)).f :: rst (((((x.s 7 1).s 8 0).s 9 0).pc 90)) from WO4 (Ws1 _ _)]
    exact congrArg _ er
   refine ⟨?_,er2,?_,?_⟩
   ·show ((((((x.s 7 1).s 8 0).s 9 0).pc 90).t.fr ++ [(⟨4,0,pad 10 []⟩ : Frm)]).getLast?.getD dfF).fn=4
    simp
   ·refine .inr ?_
    rw [(r.s.s.s).pc.f]
    decide
   ·rw [<- er];exact h2
  have hn:(x.fin 1 0 0).t.fr≠[]:=by
   show (((((x.s 7 1).s 8 0).s 9 0).pc 90).t.fr ++ [_])≠[]
   simp
  refine ⟨Adj.push (ra.all hn) ?_,.inr ?_⟩
  ·rw [WO4 hn]
   refine .inl ?_
   show fA sl th (x.fin 1 0 0).f.fn (x.fin 1 0 0).f.pc=true
   rw [ra.f]
   have:(x.fin 1 0 0).f.pc=0:=by
    show ((((((x.s 7 1).s 8 0).s 9 0).pc 90).t.fr ++ [(⟨4,0,pad 10 []⟩ : Frm)]).getLast?.getD dfF).pc=0
    simp
   rw [this]
   simp [fA,hs]
  ·have hpf:(x.fin 1 0 0).f.pc=0:=by
    show ((((((x.s 7 1).s 8 0).s 9 0).pc 90).t.fr ++ [(⟨4,0,pad 10 []⟩ : Frm)]).getLast?.getD dfF).pc=0
    simp
   rw [W78,ra.mu hn hpf,r.mu hne e1]
   simp [fW,fA,hs]
 ·exact Wm0
theorem Zn3 (hs:0 < sl) (ha:0 < sl*th) (hne:x.t.fr≠[]) (h:Adj sl th x) (e:x.f.fn=11) (hp:8<=x.f.pc/\x.f.pc<=9):Nx sl th x (WS7 x):=by
 have r:=h.r hne
 rw [e] at r
 unfold WS7 WS5;dsimp only
 split
 ·split
  all_goals exact Wm0
 have e1:x.f.pc=9:=by omega
 exact Wm0
theorem Zz8 (hs:0 < sl) (ha:0 < sl*th) (hne:x.t.fr≠[]) (h:Adj sl th x) (e:x.f.fn=11) (hp:10<=x.f.pc/\x.f.pc<=14):Nx sl th x (YX1 x):=by
 have r:=h.r hne
 rw [e] at r
 unfold YX1 W55;dsimp only
 repeat' split
 all_goals first | exact WY7 | omega | contradiction
theorem Zn4 (hs:0 < sl) (ha:0 < sl*th) (hne:x.t.fr≠[]) (h:Adj sl th x) (e:x.f.fn=11) (hp:0<=x.f.pc/\x.f.pc<=14):Nx sl th x (WS8 x):=by
 unfold WS8
 repeat' split
 ·exact Zn2 hs ha hne h e (by omega)
 ·exact Yu4 hs ha hne h e (by omega)
 ·exact Zn3 hs ha hne h e (by omega)
 ·exact Zz8 hs ha hne h e (by omega)
theorem YN7 (hs:0 < sl) (ha:0 < sl*th) (hne:x.t.fr≠[]) (h:Adj sl th x) (e:x.f.fn=12) (hp:0<=x.f.pc/\x.f.pc<=3):Nx sl th x (WM3 x):=by
 have r:=h.r hne
 rw [e] at r
 unfold WM3;dsimp only
 repeat' split
 all_goals first | exact WY7 | omega
theorem YN8 (hs:0 < sl) (ha:0 < sl*th) (hne:x.t.fr≠[]) (h:Adj sl th x) (e:x.f.fn=13) (hp:0<=x.f.pc/\x.f.pc<=3):Nx sl th x (WM3 x):=by
 have r:=h.r hne
 rw [e] at r
 unfold WM3;dsimp only
 repeat' split
 all_goals first | exact WY7 | omega
theorem YN9 (hs:0 < sl) (ha:0 < sl*th) (hne:x.t.fr≠[]) (h:Adj sl th x) (e:x.f.fn=12) (hp:0<=x.f.pc/\x.f.pc<=7):Nx sl th x (WM4 x):=by
 have r:=h.r hne
 rw [e] at r
 unfold WM4;dsimp only
 repeat' split
 all_goals first | exact WY7 | exact YN7 hs ha hne h e (by omega)
theorem YO0 (hs:0 < sl) (ha:0 < sl*th) (hne:x.t.fr≠[]) (h:Adj sl th x) (e:x.f.fn=13) (hp:0<=x.f.pc/\x.f.pc<=7):Nx sl th x (WM4 x):=by
 have r:=h.r hne
 rw [e] at r
 unfold WM4;dsimp only
 repeat' split
 all_goals first | exact WY7 | exact YN8 hs ha hne h e (by omega)
theorem YD2 (hs:0 < sl) (hne:x.t.fr≠[]) (h:Adj sl th x) (e:x.f.fn=14):Nx sl th x (WO7 x):=by
 have r:=h.r hne
 rw [e] at r
 unfold WO7;dsimp only
 repeat' split
 all_goals exact Wm0
theorem Zn5 (hs:0 < sl) (ha:0 < sl*th) (hne:x.t.fr≠[]) (h:Adj sl th x) (e:x.f.fn=14) (hp:0<=x.f.pc/\x.f.pc<=3):Nx sl th x (WS9 x):=by
 have r:=h.r hne
 rw [e] at r
 unfold WS9;dsimp only
 repeat' split
 all_goals first | exact Wm0 | exact YD2 hs hne h e | omega
theorem Zn6 {i:Nat} {p:Int} (hs:0 < sl) (ha:0 < sl*th) (hne:x.t.fr≠[]) (h:Adj sl th x) (e:x.f.fn=14):Nx sl th x (WO8 x i p):=by
 have r:=h.r hne
 rw [e] at r
 unfold WO8;dsimp only
 split
 all_goals exact WY7
theorem Zn7 (hs:0 < sl) (ha:0 < sl*th) (hne:x.t.fr≠[]) (h:Adj sl th x) (e:x.f.fn=14) (hp:0<=x.f.pc/\x.f.pc<=7):Nx sl th x (WT0 x):=by
 have r:=h.r hne
 rw [e] at r
 unfold WT0 Wr6;dsimp only
 repeat' split
 all_goals first | exact Wm0 | exact Zn5 hs ha hne h e (by omega) | exact Zn6 hs ha hne h e | exact YD2 hs hne h e | contradiction
theorem ZI5 {f:Frm} (o:WA3 sl th f):(1<=f.fn/\f.fn<=6)\/f.fn=10/\0<=f.pc/\f.pc<=1\/f.fn=11/\(0<=f.pc/\f.pc<=14\/f.pc=90)\/(f.fn=12\/f.fn=13)/\(0<=f.pc/\f.pc<=7\/f.pc=90)\/f.fn=14/\0<=f.pc/\f.pc<=7:=by
 unfold WA3 Wx8 at o
 omega
theorem YO1 (hsl:sl=x.m.p.slots) (hth:th=x.m.p.c.threads) (hs:0 < sl) (ha:0 < sl*th) (hne:x.t.fr≠[]) (h:Adj sl th x) (o:WA3 sl th x.f):Nx sl th x (Wh5 x):=by
 have o1:=ZI5 o
 have r:=h.r hne
 unfold Wh5
 rw [if_neg hne]
 dsimp only
 split
 ·rename_i c
  refine ⟨r.pop,.inr (AdjR.ltPop r hne c.1 r hne ?_)⟩
  have c2:fA sl th x.f.fn 90=false:=by
   have:x.f.fn=11\/x.f.fn=12\/x.f.fn=13:=by omega
   rcases this with e | e | e <;> rw [e] <;> simp [fA]
  rw [c2]
  have:=(Yh4 x.f.fn 90).1
  simp
  omega
 split
 ·exact Zn1 hs ha hne h (by assumption) (by omega)
 split
 ·exact Zn4 hs ha hne h (by assumption) (by omega)
 split
 ·rename_i c
  rcases c with c | c
  ·exact YN9 hs ha hne h c (by omega)
  ·exact YO0 hs ha hne h c (by omega)
 split
 ·exact Zn7 hs ha hne h (by assumption) (by omega)
 ·exact WH7 hsl hth hs ha hne h (by omega)
end
def MoQ (c:Mod.Cf) (f:Frm):Prop:=WA3 (Wb9 c).slots c.threads f
theorem W34:YL8 Wh5 MoQ Ok 11 where
 st:=YL0
 all c x hc hp hne h:=by
  obtain ⟨a1,a2,a3,a4,a5,a6⟩:=WA2 hc
  exact Yu3 h (by rw [hp]) (by rw [hp];rfl) (by omega) (by omega) hne
 nx c x hc hp hne h a:=by
  obtain ⟨a1,a2,a3,a4,a5,a6⟩:=WA2 hc
  exact YO1 (by rw [hp]) (by rw [hp];rfl) a1 a2 hne a (h.top hne)
 w c x B hc h hB hne hid:=by
  obtain ⟨a1,a2,a3,a4,a5,a6⟩:=WA2 hc
  have o:WA3 (Wb9 c).slots c.threads x.f:=h.q.top hne
  refine h.ok hB hid ?_
  rcases o with o | ⟨_,o⟩
  ·exact Zz7 o ⟨by omega,a4⟩ a3
  ·omega
 new c op l hc ho:=by
  obtain ⟨a1,a2,a3,a4,a5,a6⟩:=WA2 hc
  exact WD4 (by omega) (by omega) (by omega)
theorem Yi7:DoC 63 Wh5 Ok:=λh M T tv x R K H hw k=>Yg1 H hw k
end
section
open Mod
def Wn7 (L sl th:Int) (f:Frm):Prop:=Wx8 sl th f\/f.r.length=10/\(f.fn=31/\(0<=f.pc/\f.pc<=18\/f.pc=90)/\(3<=f.pc->f.pc<=16->1<=f.g 3/\f.g 3<=L)/\(12<=f.pc->f.pc<=15->f.g 5 < f.g 3) \/
 (f.fn=32\/f.fn=33)/\(0<=f.pc/\f.pc<=14\/f.pc=90)\/f.fn=34/\(0<=f.pc/\f.pc<=5\/f.pc=90)\/f.fn=35/\0<=f.pc/\f.pc<=2\/f.fn=36/\0<=f.pc/\f.pc<=6\/f.fn=30/\0<=f.pc/\f.pc<=6/\(f.pc≠0->0<=s64 (f.g 2)/\s64 (f.g 2) < L))
theorem Ws4 {L sl th fn:Int} {l:List Int} (h:1<=fn/\fn<=6\/30<=fn/\fn<=36) (hs:0<=sl) (ht:0<=sl*th):Wn7 L sl th ⟨fn,0,pad 10 l⟩:=by
 by_cases c:fn<=6
 ·exact .inl (Yh3 (by omega) hs ht)
 ·refine .inr ⟨Wy9 _ _,?_⟩
  dsimp only
  omega
theorem ZP1 {L sl th:Int} {f:Frm} (h:Wn7 L sl th f) (e:¬ (30<=f.fn/\f.fn<=36)):Wx8 sl th f:=by
 unfold Wn7 at h
 rcases h with h | ⟨_,h⟩
 ·exact h
 ·omega
theorem Zz9 {L sl th:Int} {f:Frm} (h:Wn7 L sl th f) (e:30<=f.fn/\f.fn<=36):f.r.length=10/\(f.fn=31/\(0<=f.pc/\f.pc<=18\/f.pc=90)/\(3<=f.pc->f.pc<=16->1<=f.g 3/\f.g 3<=L)/\(12<=f.pc->f.pc<=15->f.g 5 < f.g 3) \/
 (f.fn=32\/f.fn=33)/\(0<=f.pc/\f.pc<=14\/f.pc=90)\/f.fn=34/\(0<=f.pc/\f.pc<=5\/f.pc=90)\/f.fn=35/\0<=f.pc/\f.pc<=2\/f.fn=36/\0<=f.pc/\f.pc<=6\/f.fn=30/\0<=f.pc/\f.pc<=6/\(f.pc≠0->0<=s64 (f.g 2)/\s64 (f.g 2) < L)):=by
 unfold Wn7 Wx8 at h
 rcases h with h | h
 ·omega
 ·exact h
theorem ZI6 {L sl th:Int} {f:Frm} (h:Wn7 L sl th f) (e:f.fn=31):f.r.length=10/\(0<=f.pc/\f.pc<=18\/f.pc=90)/\(3<=f.pc->f.pc<=16->1<=f.g 3/\f.g 3<=L)/\(12<=f.pc->f.pc<=15->f.g 5 < f.g 3):=by
 have h:=Zz9 h (by omega)
 refine ⟨h.1,?_⟩
 rcases h.2 with h1 | h1 | h1 | h1 | h1 | h1
 ·exact h1.2
 all_goals omega
theorem ZI7 {L sl th:Int} {f:Frm} (h:Wn7 L sl th f) (e:f.fn=30):f.r.length=10/\0<=f.pc/\f.pc<=6/\(f.pc≠0->0<=s64 (f.g 2)/\s64 (f.g 2) < L):=by
 have h:=Zz9 h (by omega)
 refine ⟨h.1,?_⟩
 rcases h.2 with h1 | h1 | h1 | h1 | h1 | h1
 ·omega
 ·omega
 ·omega
 ·omega
 ·omega
 ·exact h1.2
section
variable {x:Run} {L sl th:Int}
theorem ZA0 {f:Frm} (len:f.r.length=10) (e:f.fn=31) (hp:0<=f.pc/\f.pc<=18\/f.pc=90) (h3:3<=f.pc->f.pc<=16->1<=f.g 3/\f.g 3<=L) (h5:12<=f.pc->f.pc<=15->f.g 5 < f.g 3):Wn7 L sl th f:=.inr ⟨len,.inl ⟨e,hp,h3,h5⟩⟩
theorem ZA1 {f:Frm} (len:f.r.length=10) (e:f.fn=32\/f.fn=33) (hp:0<=f.pc/\f.pc<=14\/f.pc=90):Wn7 L sl th f:=.inr ⟨len,.inr (.inl ⟨e,hp⟩)⟩
theorem ZA2 {f:Frm} (len:f.r.length=10) (e:f.fn=34) (hp:0<=f.pc/\f.pc<=5\/f.pc=90):Wn7 L sl th f:=.inr ⟨len,.inr (.inr (.inl ⟨e,hp⟩))⟩
theorem ZA3 {f:Frm} (len:f.r.length=10) (e:f.fn=35) (hp:0<=f.pc/\f.pc<=2):Wn7 L sl th f:=.inr ⟨len,.inr (.inr (.inr (.inl ⟨e,hp.1,hp.2⟩)))⟩
theorem ZA4 {f:Frm} (len:f.r.length=10) (e:f.fn=36) (hp:0<=f.pc/\f.pc<=6):Wn7 L sl th f:=.inr ⟨len,.inr (.inr (.inr (.inr (.inl ⟨e,hp.1,hp.2⟩))))⟩
structure Zn8 (L:Int) (f:Frm):Prop where
 len:f.r.length=10
 fn:f.fn=30
 g:0<=s64 (f.g 2)/\s64 (f.g 2) < L
theorem W83 {f:Frm} (len:f.r.length=10) (e:f.fn=30) (hp:0<=f.pc/\f.pc<=6) (hg:0<=s64 (f.g 2)/\s64 (f.g 2) < L):Wn7 L sl th f:=.inr ⟨len,.inr (.inr (.inr (.inr (.inr ⟨e,hp.1,hp.2,λ_=>hg⟩))))⟩
theorem WX5 {y:Run} (hL:L<=6) (r:Rest (Wn7 L sl th) y) (o:Zn8 L y.f):AllF (Wn7 L sl th) (Wm9 y):=by
 obtain ⟨len,e,g⟩:=o
 unfold Wm9;dsimp only
 split
 ·(refine Wm1 ?_;first | with_reducible assumption | ((with_reducible first | apply Rest.pop | apply Rest.call | apply Rest.allPc | apply Rest.allS | apply Rest.fin);exact Wd0))
 ·rename_i c
  (refine Wm1 ?_;first | with_reducible assumption | ((with_reducible first | apply Rest.pop | apply Rest.call | apply Rest.allPc | apply Rest.allS | apply Rest.fin);exact Wd0))
  rw [f_s]
  refine W83 (by simp only [Wh4,Wj1];assumption) (by simp only [Wt0,WU3];assumption) ⟨by show (0:Int)<=1;omega,by show (1:Int)<=6;omega⟩ ?_
  have e1:(((y.setPl (y.t.pred.set (s64 (y.f.g 2)).toNat (y.f.g 3)) (y.t.succ.set (s64 (y.f.g 2)).toNat (Wg8 (y.f.g 4))) (y.t.word.set (s64 (y.f.g 2)).toNat (y.f.g 4))).f.s 2 (Mod.u64 (y.f.g 2 - 1))).at 1).g 2=Mod.u64 (y.f.g 2 - 1):=by
   rw [WP0]
   exact g_s (show (y.f).r.length=10 from len) (by decide) _
  rw [e1]
  exact Y75 g c hL
theorem WX6 {y:Run} (r:Rest (Wn7 L sl th) y) (o:Zn8 L y.f):AllF (Wn7 L sl th) (WF1 y):=by
 obtain ⟨len,e,g⟩:=o
 unfold WF1
 (refine Wm1 ?_;first | with_reducible assumption | ((with_reducible first | apply Rest.pop | apply Rest.call | apply Rest.allPc | apply Rest.allS | apply Rest.fin);exact Wd0))
 rw [f_s]
 exact W83 (by simp only [Wh4,Wj1];assumption) (by simp only [Wt0,WU3];assumption) ⟨by show (0:Int)<=1;omega,by show (1:Int)<=6;omega⟩ (by rw [WP0,Wa7 _ (by decide)];exact g)
theorem YO2 (hL:L<=6) (r:Rest (Wn7 L sl th) x) (o:Zn8 L x.f):AllF (Wn7 L sl th) (WB6 x):=by
 obtain ⟨len,e,g⟩:=o
 unfold WB6;dsimp only
 repeat' split
 ·(refine Wm1 ?_;first | with_reducible assumption | ((with_reducible first | apply Rest.pop | apply Rest.call | apply Rest.allPc | apply Rest.allS | apply Rest.fin);exact Wd0))
  exact .inr ⟨by rw [Wh4];exact len,.inr (.inr (.inr (.inr (.inr ⟨e,by show (0:Int)<=0;omega,by show (0:Int)<=6;omega,λhh=>absurd rfl hh⟩))))⟩
 ·exact WX6 (by exact Wd0) ⟨by rw [f_s,Wj1];exact len,by rw [f_s];exact e,by rw [f_s,Wa7 _ (by decide)];exact g⟩
 ·(refine Wm1 ?_;first | with_reducible assumption | ((with_reducible first | apply Rest.pop | apply Rest.call | apply Rest.allPc | apply Rest.allS | apply Rest.fin);exact Wd0))
  exact ZM0
 ·(refine Wm1 ?_;first | with_reducible assumption | ((with_reducible first | apply Rest.pop | apply Rest.call | apply Rest.allPc | apply Rest.allS | apply Rest.fin);exact Wd0))
  exact ZM0
theorem Y88 (hL:1<=L/\L<=6) (hl:L=x.m.p.c.level) (h:AllF (Wn7 L sl th) x) (o:Wn7 L sl th x.f) (e:x.f.fn=30):AllF (Wn7 L sl th) (WT4 x):=by
 have r:=h.rest
 obtain ⟨len,o1,o2,o3⟩:=ZI7 o e
 unfold WT4;dsimp only
 split
 ·(refine Wm1 ?_;first | with_reducible assumption | ((with_reducible first | apply Rest.pop | apply Rest.call | apply Rest.allPc | apply Rest.allS | apply Rest.fin);exact Wd0))
  rw [f_s,f_s,f_s,f_s]
  refine W83 (by simp only [Wh4,Wj1];assumption) (by simp only [Wt0,WU3];assumption) ⟨by show (0:Int)<=1;omega,by show (1:Int)<=6;omega⟩ ?_
  rw [WP0,g_s (by rw [Wj1,Wj1,Wj1];exact len) (by decide)]
  have e2:(x.load 1).2.m.p.c.level=L:=by rw [hl];exact congrArg (λp:Pl=>p.c.level) (St.fix (St.load (St.refl x):St 1 x (x.load 1).2)).p
  first | rw [<- hl] | rw [e2] | skip
  exact Y76 hL
 rename_i c
 have g:=o3 c
 have o9:Zn8 L x.f:=⟨len,e,g⟩
 repeat' split
 all_goals first
  | exact YO2 hL.2 r o9
  | exact WX5 hL.2 (by exact Wd0) ⟨by rw [WF2,f_s];exact (Wj1 _ _ _).trans len,by rw [WF2,f_s];exact e,by rw [WF2,f_s,WP0,Wa7 _ (by decide)];exact g⟩
  | exact WX5 hL.2 (by exact Wd0) ⟨len,e,g⟩
  | exact WX6 (by exact Wd0) ⟨len,e,g⟩
  | exact WX6 (by exact Wd0) ⟨by rw [Wm4,WF2];exact len,by rw [Wm4,WF2];exact e,by rw [Wm4,WF2];exact g⟩
  | skip
 all_goals (refine Wm1 ?_;first | with_reducible assumption | ((with_reducible first | apply Rest.pop | apply Rest.call | apply Rest.allPc | apply Rest.allS | apply Rest.fin);exact Wd0))
 all_goals exact ZM0
theorem YO3 (h:AllF (Wn7 L sl th) x) (s0:0<=sl) (t0:0<=sl*th) (len:x.f.r.length=10) (e:x.f.fn=34):AllF (Wn7 L sl th) (WB7 x):=by
 have r:=h.rest
 unfold WB7;dsimp only
 repeat' split
 all_goals (refine Wm1 ?_;first | with_reducible assumption | ((with_reducible first | apply Rest.pop | apply Rest.call | apply Rest.allPc | apply Rest.allS | apply Rest.fin);exact Wd0))
 all_goals first | (with_reducible apply Ws4;omega;assumption;assumption) | exact ZL8
theorem YO4 (h:AllF (Wn7 L sl th) x) (s0:0<=sl) (t0:0<=sl*th) (len:x.f.r.length=10) (e:x.f.fn=35):AllF (Wn7 L sl th) (WB8 x):=by
 have r:=h.rest
 unfold WB8;dsimp only
 repeat' split
 all_goals (refine Wm1 ?_;first | with_reducible assumption | ((with_reducible first | apply Rest.pop | apply Rest.call | apply Rest.allPc | apply Rest.allS | apply Rest.fin);exact Wd0))
 all_goals first | (with_reducible apply Ws4;omega;assumption;assumption) | exact ZL9
theorem YO5 (h:AllF (Wn7 L sl th) x) (s0:0<=sl) (t0:0<=sl*th) (len:x.f.r.length=10) (e:x.f.fn=36):AllF (Wn7 L sl th) (WB9 x):=by
 have r:=h.rest
 unfold WB9 Wv6;dsimp only
 repeat' split
 all_goals (refine Wm1 ?_;first | with_reducible assumption | ((with_reducible first | apply Rest.pop | apply Rest.call | apply Rest.allPc | apply Rest.allS | apply Rest.fin);exact Wd0))
 all_goals first | (with_reducible apply Ws4;omega;assumption;assumption) | exact ZC7
theorem YO6 (h:AllF (Wn7 L sl th) x) (s0:0<=sl) (t0:0<=sl*th) (len:x.f.r.length=10) (e:x.f.fn=36):AllF (Wn7 L sl th) (WC0 x):=by
 have r:=h.rest
 unfold WC0 Wv6;dsimp only
 repeat' split
 all_goals first | exact YO5 h s0 t0 len e | skip
 all_goals (refine Wm1 ?_;first | with_reducible assumption | ((with_reducible first | apply Rest.pop | apply Rest.call | apply Rest.allPc | apply Rest.allS | apply Rest.fin);exact Wd0))
 all_goals first | (with_reducible apply Ws4;omega;assumption;assumption) | exact ZC7
theorem Y89 (h:AllF (Wn7 L sl th) x) (s0:0<=sl) (t0:0<=sl*th) (len:x.f.r.length=10) (e:x.f.fn=31) (o1:0<=x.f.pc/\x.f.pc<=18\/x.f.pc=90) (o2:3<=x.f.pc->x.f.pc<=16->1<=x.f.g 3/\x.f.g 3<=L) (o3:12<=x.f.pc->x.f.pc<=15->x.f.g 5 < x.f.g 3) (hp:3<=x.f.pc/\x.f.pc<=6):AllF (Wn7 L sl th) (WZ5 x):=by
 have r:=h.rest
 unfold WZ5;dsimp only
 repeat' split
 all_goals (refine Wm1 ?_;first | with_reducible assumption | ((with_reducible first | apply Rest.pop | apply Rest.call | apply Rest.allPc | apply Rest.allS | apply Rest.fin);exact Wd0))
 all_goals first | (with_reducible apply Ws4;omega;assumption;assumption) | exact W96
theorem Yu5 (h:AllF (Wn7 L sl th) x) (s0:0<=sl) (t0:0<=sl*th) (len:x.f.r.length=10) (e:x.f.fn=31) (o1:0<=x.f.pc/\x.f.pc<=18\/x.f.pc=90) (o2:3<=x.f.pc->x.f.pc<=16->1<=x.f.g 3/\x.f.g 3<=L) (o3:12<=x.f.pc->x.f.pc<=15->x.f.g 5 < x.f.g 3) (hp:7<=x.f.pc/\x.f.pc<=10):AllF (Wn7 L sl th) (Wu7 x):=by
 have r:=h.rest
 unfold Wu7;dsimp only
 repeat' split
 all_goals first | exact h | (refine Wm1 ?_;first | with_reducible assumption | ((with_reducible first | apply Rest.pop | apply Rest.call | apply Rest.allPc | apply Rest.allS | apply Rest.fin);exact Wd0)) | skip
 all_goals first | (with_reducible apply Ws4;omega;assumption;assumption) | exact W96
theorem Yu6 (h:AllF (Wn7 L sl th) x) (s0:0<=sl) (t0:0<=sl*th) (len:x.f.r.length=10) (e:x.f.fn=31) (o1:0<=x.f.pc/\x.f.pc<=18\/x.f.pc=90) (o2:3<=x.f.pc->x.f.pc<=16->1<=x.f.g 3/\x.f.g 3<=L) (o3:12<=x.f.pc->x.f.pc<=15->x.f.g 5 < x.f.g 3) (hp:11<=x.f.pc/\x.f.pc<=14):AllF (Wn7 L sl th) (Wu8 x):=by
 have r:=h.rest
 unfold Wu8;dsimp only
 repeat' split
 all_goals first | exact h | (refine Wm1 ?_;first | with_reducible assumption | ((with_reducible first | apply Rest.pop | apply Rest.call | apply Rest.allPc | apply Rest.allS | apply Rest.fin);exact Wd0)) | skip
 all_goals first | (with_reducible apply Ws4;omega;assumption;assumption) | exact W96
theorem YO7 (h:AllF (Wn7 L sl th) x) (s0:0<=sl) (t0:0<=sl*th) (len:x.f.r.length=10) (e:x.f.fn=31) (o1:0<=x.f.pc/\x.f.pc<=18\/x.f.pc=90) (o2:3<=x.f.pc->x.f.pc<=16->1<=x.f.g 3/\x.f.g 3<=L) (o3:12<=x.f.pc->x.f.pc<=15->x.f.g 5 < x.f.g 3) (hp:15<=x.f.pc/\x.f.pc<=18):AllF (Wn7 L sl th) (WC2 x):=by
 have r:=h.rest
 unfold WC2;dsimp only
 repeat' split
 all_goals (refine Wm1 ?_;first | with_reducible assumption | ((with_reducible first | apply Rest.pop | apply Rest.call | apply Rest.allPc | apply Rest.allS | apply Rest.fin);exact Wd0))
 all_goals first | (with_reducible apply Ws4;omega;assumption;assumption) | exact W96
theorem YO8 (h:AllF (Wn7 L sl th) x) (hL:L=x.m.p.c.level) (hl:1<=L/\L<=6) (s0:0<=sl) (t0:0<=sl*th) (len:x.f.r.length=10) (e:x.f.fn=31) (hp:0<=x.f.pc/\x.f.pc<=2):AllF (Wn7 L sl th) (WC1 x):=by
 have r:=h.rest
 unfold WC1;dsimp only
 repeat' split
 ·(refine Wm1 ?_;first | with_reducible assumption | ((with_reducible first | apply Rest.pop | apply Rest.call | apply Rest.allPc | apply Rest.allS | apply Rest.fin);exact Wd0))
  ·exact W96
  ·exact Ws4 (by omega) s0 t0
 ·(refine Wm1 ?_;first | with_reducible assumption | ((with_reducible first | apply Rest.pop | apply Rest.call | apply Rest.allPc | apply Rest.allS | apply Rest.fin);exact Wd0))
  exact W96
 ·(refine Wm1 ?_;first | with_reducible assumption | ((with_reducible first | apply Rest.pop | apply Rest.call | apply Rest.allPc | apply Rest.allS | apply Rest.fin);exact Wd0))
  ·exact W96
  ·exact Ws4 (by omega) s0 t0
 ·(refine Wm1 ?_;first | with_reducible assumption | ((with_reducible first | apply Rest.pop | apply Rest.call | apply Rest.allPc | apply Rest.allS | apply Rest.fin);exact Wd0))
  ·exact W96
  ·exact Ws4 (by omega) s0 t0
 ·refine Rest.allPc (Rest.s (Rest.m (by exact Wd0))) ?_
  rw [f_s]
  have ef:∀m:Mac,(⟨m,((x.add 3 1).2.s 4 (Wg6 (u32 (x.f.g 0)) (u32 (x.add 3 1).1))).t,((x.add 3 1).2.s 4 (Wg6 (u32 (x.f.g 0)) (u32 (x.add 3 1).1))).id⟩ : Run).f=x.f.s 4 (Wg6 (u32 (x.f.g 0)) (u32 (x.add 3 1).1)):=λm=>by
   show ((x.add 3 1).2.s 4 (Wg6 (u32 (x.f.g 0)) (u32 (x.add 3 1).1))).f=_
   rw [f_s]
   rfl
  rw [ef]
  have hv:=YD1 ((x.add 3 1).2.s 4 (Wg6 (u32 (x.f.g 0)) (u32 (x.add 3 1).1))).m hl
  have ep:((x.add 3 1).2.s 4 (Wg6 (u32 (x.f.g 0)) (u32 (x.add 3 1).1))).m.p.c.level=L:=by rw [hL];exact congrArg (λp:Pl=>p.c.level) (St.fix (St.s (St.add (St.refl x)):St 2 x ((x.add 3 1).2.s 4 (Wg6 (u32 (x.f.g 0)) (u32 (x.add 3 1).1))))).p
  rw [ep]
  generalize Mod.u64 (((x.add 3 1).2.s 4 (Wg6 (u32 (x.f.g 0)) (u32 (x.add 3 1).1))).m.lvl L).1=v at *
  refine .inr ⟨by simp only [Wh4,Wj1];exact len,.inl ⟨e,.inl ⟨by show (0:Int)<=3;omega,by show (3:Int)<=18;omega⟩,λ_ _=>?_,λhh=>?_⟩⟩
  ·rw [WP0,g_s (by rw [Wj1];exact len) (by decide)]
   exact hv
  ·simp only [Wz0] at hh;omega
 ·exact h
theorem YO9 (h:AllF (Wn7 L sl th) x) (hL:L=x.m.p.c.level) (hl:1<=L/\L<=6) (s0:0<=sl) (t0:0<=sl*th) (o:Wn7 L sl th x.f) (e:x.f.fn=31) (h9:x.f.pc≠90):AllF (Wn7 L sl th) (WC3 x):=by
 obtain ⟨len,o1,o2,o3⟩:=ZI6 o e
 unfold WC3
 repeat' split
 ·exact YO8 h hL hl s0 t0 len e (by omega)
 ·exact Y89 h s0 t0 len e o1 o2 o3 (by omega)
 ·exact Yu5 h s0 t0 len e o1 o2 o3 (by omega)
 ·exact Yu6 h s0 t0 len e o1 o2 o3 (by omega)
 ·exact YO7 h s0 t0 len e o1 o2 o3 (by omega)
theorem YP0 (h:AllF (Wn7 L sl th) x) (s0:0<=sl) (t0:0<=sl*th) (len:x.f.r.length=10) (e:x.f.fn=32\/x.f.fn=33):AllF (Wn7 L sl th) (Ww9 x):=by
 have r:=h.rest
 unfold Ww9;dsimp only
 repeat' split
 all_goals first | exact h | (refine Wm1 ?_;first | with_reducible assumption | ((with_reducible first | apply Rest.pop | apply Rest.call | apply Rest.allPc | apply Rest.allS | apply Rest.fin);exact Wd0)) | skip
 all_goals first | (with_reducible apply Ws4;omega;assumption;assumption) | exact Ze1
theorem Zn9 (h:AllF (Wn7 L sl th) x) (s0:0<=sl) (t0:0<=sl*th) (len:x.f.r.length=10) (e:x.f.fn=32\/x.f.fn=33):AllF (Wn7 L sl th) (YH5 x):=by
 have r:=h.rest
 unfold YH5;dsimp only
 repeat' split
 all_goals first | exact h | (refine Wm1 ?_;first | with_reducible assumption | ((with_reducible first | apply Rest.pop | apply Rest.call | apply Rest.allPc | apply Rest.allS | apply Rest.fin);exact Wd0)) | skip
 all_goals first | (with_reducible apply Ws4;omega;assumption;assumption) | exact Ze1
theorem YP1 (h:AllF (Wn7 L sl th) x) (s0:0<=sl) (t0:0<=sl*th) (len:x.f.r.length=10) (e:x.f.fn=32\/x.f.fn=33):AllF (Wn7 L sl th) (Wx0 x):=by
 have r:=h.rest
 unfold Wx0;dsimp only
 repeat' split
 all_goals first | exact h | (refine Wm1 ?_;first | with_reducible assumption | ((with_reducible first | apply Rest.pop | apply Rest.call | apply Rest.allPc | apply Rest.allS | apply Rest.fin);exact Wd0)) | skip
 all_goals first | (with_reducible apply Ws4;omega;assumption;assumption) | exact Ze1
theorem Y90 (h:AllF (Wn7 L sl th) x) (s0:0<=sl) (t0:0<=sl*th) (len:x.f.r.length=10) (e:x.f.fn=32\/x.f.fn=33):AllF (Wn7 L sl th) (WM7 x):=by
 have r:=h.rest
 unfold WM7;dsimp only
 repeat' split
 all_goals first | exact h | (refine Wm1 ?_;first | with_reducible assumption | ((with_reducible first | apply Rest.pop | apply Rest.call | apply Rest.allPc | apply Rest.allS | apply Rest.fin);exact Wd0)) | skip
 all_goals first | (with_reducible apply Ws4;omega;assumption;assumption) | exact Ze1
theorem YP2 (h:AllF (Wn7 L sl th) x) (s0:0<=sl) (t0:0<=sl*th) (len:x.f.r.length=10) (e:x.f.fn=32\/x.f.fn=33):AllF (Wn7 L sl th) (Wx1 x):=by
 unfold Wx1
 repeat' split
 ·exact YP0 h s0 t0 len e
 ·exact Zn9 h s0 t0 len e
 ·exact YP1 h s0 t0 len e
 ·exact Y90 h s0 t0 len e
theorem Yi8 (h:AllF (Wn7 L sl th) x) (hL:L=x.m.p.c.level) (hl:1<=L/\L<=6) (hs:sl=x.m.p.slots) (ht:th=x.m.p.c.threads) (s0:0<=sl) (t0:0<=sl*th) (hne:x.t.fr≠[]):AllF (Wn7 L sl th) (Wl2 x):=by
 have r:=h.rest
 have o:=h.top hne
 unfold Wl2
 rw [if_neg hne]
 dsimp only
 split
 ·unfold Ws8
  rw [if_neg hne]
  split
  ·exact Y88 hl hL h o (by assumption)
  ·exact WD1 (λf hf=>.inl hf) h hs ht s0 t0 (ZP1 o (by omega))
 have len:=(Zz9 o (by omega)).1
 split
 ·(refine Wm1 ?_;first | with_reducible assumption | ((with_reducible first | apply Rest.pop | apply Rest.call | apply Rest.allPc | apply Rest.allS | apply Rest.fin);exact Wd0))
 split
 ·exact YO9 h hL hl s0 t0 o (by assumption) (by assumption)
 split
 ·exact YO3 h s0 t0 len (by assumption)
 split
 ·exact YO4 h s0 t0 len (by assumption)
 split
 ·exact YO6 h s0 t0 len (by assumption)
 ·exact YP2 h s0 t0 len (by omega)
end
end
section
open Mod
section
variable {x:Run} {L sl th:Int}
theorem Yu7 {y:Run} {l:List Frm} (r:AdjR sl th 30 l y):Adj sl th (Wm9 y):=by
 unfold Wm9;dsimp only
 split
 all_goals exact Yk1
theorem Yu8 {y:Run} (h:Tch y):Tch (Wm9 y):=by
 unfold Wm9;dsimp only
 split
 all_goals (with_reducible repeat' (first | assumption | constructor))
theorem Yi9 {y:Run} {l:List Frm} (r:AdjR sl th 30 l y):Adj sl th (WF1 y):=by
 unfold WF1
 exact Yk1
theorem Yj0 {y:Run} (h:Tch y):Tch (WF1 y):=by
 unfold WF1
 with_reducible repeat' (first | assumption | constructor)
theorem Y91 (hs:0 < sl) (hne:x.t.fr≠[]) (h:Adj sl th x) (e:x.f.fn=30):Nx sl th x (WB6 x):=by
 have r:=h.r hne
 rw [e] at r
 unfold WB6;dsimp only
 repeat' split
 all_goals first
  | (refine ⟨Yi9 (l:=rst x) ?_,.inl (Tch.act (Yj0 ?_))⟩;exact W38;(with_reducible repeat' constructor);done)
  | exact Wm0
theorem Zo0 {y:Run} {l:List Frm} (r:AdjR sl th 30 l y) (h:Tch y):Nx sl th x (WF1 y):=⟨Yi9 r,.inl (Tch.act (Yj0 h))⟩
theorem YP3 {y:Run} {l:List Frm} (r:AdjR sl th 30 l y) (h:Tch y):Nx sl th x (Wm9 y):=⟨Yu7 r,.inl (Tch.act (Yu8 h))⟩
theorem Zo1 (hs:0 < sl) (hne:x.t.fr≠[]) (h:Adj sl th x) (e:x.f.fn=30):Nx sl th x (WT4 x):=by
 have r:=h.r hne
 rw [e] at r
 unfold WT4;dsimp only
 repeat' split
 all_goals first
  | (with_reducible apply Y91 hs hne h e)
  | ((with_reducible apply Zo0 (l:=rst x));exact W38;(with_reducible repeat' constructor);done)
  | ((with_reducible apply YP3 (l:=rst x));exact W38;(with_reducible repeat' constructor);done)
  | exact Wm0
theorem Y92 (hs:0 < sl) (ha:0 < sl*th) (hne:x.t.fr≠[]) (h:Adj sl th x) (e:x.f.fn=34) (hp:0<=x.f.pc/\x.f.pc<=5):Nx sl th x (WB7 x):=by
 have r:=h.r hne
 rw [e] at r
 unfold WB7;dsimp only
 repeat' split
 all_goals first | exact Wm0 | ((have e1:x.f.pc=5:=by omega);exact Wm0) | omega
theorem Y93 (hs:0 < sl) (ha:0 < sl*th) (hne:x.t.fr≠[]) (h:Adj sl th x) (e:x.f.fn=35) (hp:0<=x.f.pc/\x.f.pc<=2):Nx sl th x (WB8 x):=by
 have r:=h.r hne
 rw [e] at r
 unfold WB8;dsimp only
 repeat' split
 all_goals first | exact Wm0 | ((have e1:x.f.pc=2:=by omega);exact Wm0) | omega
theorem Y94 (hs:0 < sl) (ha:0 < sl*th) (hne:x.t.fr≠[]) (h:Adj sl th x) (e:x.f.fn=36) (hp:4<=x.f.pc/\x.f.pc<=6):Nx sl th x (WB9 x):=by
 have r:=h.r hne
 rw [e] at r
 unfold WB9 Wv6;dsimp only
 repeat' split
 all_goals first | exact Wm0 | omega
theorem Y95 (hs:0 < sl) (ha:0 < sl*th) (hne:x.t.fr≠[]) (h:Adj sl th x) (e:x.f.fn=36) (hp:0<=x.f.pc/\x.f.pc<=6):Nx sl th x (WC0 x):=by
 have r:=h.r hne
 rw [e] at r
 unfold WC0 Wv6;dsimp only
 repeat' split
 all_goals first | exact Wm0 | exact Y94 hs ha hne h e (by omega) | omega
theorem Y96 (hs:0 < sl) (ha:0 < sl*th) (hne:x.t.fr≠[]) (h:Adj sl th x) (e:x.f.fn=31) (hp:0<=x.f.pc/\x.f.pc<=2):Nx sl th x (WC1 x):=by
 have r:=h.r hne
 rw [e] at r
 unfold WC1;dsimp only
 repeat' split
 all_goals first | exact WY7 | omega
theorem Zo2 (hs:0 < sl) (ha:0 < sl*th) (hne:x.t.fr≠[]) (h:Adj sl th x) (e:x.f.fn=31) (hp:3<=x.f.pc/\x.f.pc<=6):Nx sl th x (WZ5 x):=by
 have r:=h.r hne
 rw [e] at r
 unfold WZ5;dsimp only
 repeat' split
 all_goals first | exact Wm0 | omega
theorem YP4 (hs:0 < sl) (ha:0 < sl*th) (hne:x.t.fr≠[]) (h:Adj sl th x) (e:x.f.fn=31) (hp:7<=x.f.pc/\x.f.pc<=10):Nx sl th x (Wu7 x):=by
 have r:=h.r hne
 rw [e] at r
 unfold Wu7;dsimp only
 repeat' split
 all_goals first | exact Wm0 | omega
theorem YP5 (hs:0 < sl) (ha:0 < sl*th) (hne:x.t.fr≠[]) (h:Adj sl th x) (e:x.f.fn=31) (hp:11<=x.f.pc/\x.f.pc<=14):Nx sl th x (Wu8 x):=by
 have r:=h.r hne
 rw [e] at r
 unfold Wu8;dsimp only
 repeat' split
 all_goals first | exact Wm0 | omega
theorem Y97 (hs:0 < sl) (ha:0 < sl*th) (hne:x.t.fr≠[]) (h:Adj sl th x) (e:x.f.fn=31) (hp:15<=x.f.pc/\x.f.pc<=18):Nx sl th x (WC2 x):=by
 have r:=h.r hne
 rw [e] at r
 unfold WC2;dsimp only
 repeat' split
 all_goals first | exact Wm0 | ((have e1:x.f.pc=18:=by omega);exact Wm0) | omega
theorem Y98 (hs:0 < sl) (ha:0 < sl*th) (hne:x.t.fr≠[]) (h:Adj sl th x) (e:x.f.fn=31) (hp:0<=x.f.pc/\x.f.pc<=18):Nx sl th x (WC3 x):=by
 unfold WC3
 repeat' split
 ·exact Y96 hs ha hne h e (by omega)
 ·exact Zo2 hs ha hne h e (by omega)
 ·exact YP4 hs ha hne h e (by omega)
 ·exact YP5 hs ha hne h e (by omega)
 ·exact Y97 hs ha hne h e (by omega)
theorem Yu9 (hs:0 < sl) (ha:0 < sl*th) (hne:x.t.fr≠[]) (h:Adj sl th x) (e:x.f.fn=32) (hp:0<=x.f.pc/\x.f.pc<=4):Nx sl th x (Ww9 x):=by
 have r:=h.r hne
 rw [e] at r
 unfold Ww9;dsimp only
 repeat' split
 all_goals first | exact Wm0 | omega
theorem Y99 (hs:0 < sl) (ha:0 < sl*th) (hne:x.t.fr≠[]) (h:Adj sl th x) (e:x.f.fn=32) (hp:5<=x.f.pc/\x.f.pc<=8):Nx sl th x (YH5 x):=by
 have r:=h.r hne
 rw [e] at r
 unfold YH5;dsimp only
 repeat' split
 all_goals first | exact Wm0 | omega
theorem Yv0 (hs:0 < sl) (ha:0 < sl*th) (hne:x.t.fr≠[]) (h:Adj sl th x) (e:x.f.fn=32) (hp:9<=x.f.pc/\x.f.pc<=10):Nx sl th x (Wx0 x):=by
 have r:=h.r hne
 rw [e] at r
 unfold Wx0;dsimp only
 repeat' split
 all_goals first | exact Wm0 | omega
theorem YP6 (hs:0 < sl) (ha:0 < sl*th) (hne:x.t.fr≠[]) (h:Adj sl th x) (e:x.f.fn=32) (hp:11<=x.f.pc/\x.f.pc<=14):Nx sl th x (WM7 x):=by
 have r:=h.r hne
 rw [e] at r
 unfold WM7;dsimp only
 repeat' split
 all_goals first | exact Wm0 | ((have e1:x.f.pc=14:=by omega);exact Wm0) | omega
theorem Yv1 (hs:0 < sl) (ha:0 < sl*th) (hne:x.t.fr≠[]) (h:Adj sl th x) (e:x.f.fn=32) (hp:0<=x.f.pc/\x.f.pc<=14):Nx sl th x (Wx1 x):=by
 unfold Wx1
 repeat' split
 ·exact Yu9 hs ha hne h e (by omega)
 ·exact Y99 hs ha hne h e (by omega)
 ·exact Yv0 hs ha hne h e (by omega)
 ·exact YP6 hs ha hne h e (by omega)
theorem Yv2 (hs:0 < sl) (ha:0 < sl*th) (hne:x.t.fr≠[]) (h:Adj sl th x) (e:x.f.fn=33) (hp:0<=x.f.pc/\x.f.pc<=4):Nx sl th x (Ww9 x):=by
 have r:=h.r hne
 rw [e] at r
 unfold Ww9;dsimp only
 repeat' split
 all_goals first | exact Wm0 | omega
theorem Za0 (hs:0 < sl) (ha:0 < sl*th) (hne:x.t.fr≠[]) (h:Adj sl th x) (e:x.f.fn=33) (hp:5<=x.f.pc/\x.f.pc<=8):Nx sl th x (YH5 x):=by
 have r:=h.r hne
 rw [e] at r
 unfold YH5;dsimp only
 repeat' split
 all_goals first | exact Wm0 | omega
theorem Yv3 (hs:0 < sl) (ha:0 < sl*th) (hne:x.t.fr≠[]) (h:Adj sl th x) (e:x.f.fn=33) (hp:9<=x.f.pc/\x.f.pc<=10):Nx sl th x (Wx0 x):=by
 have r:=h.r hne
 rw [e] at r
 unfold Wx0;dsimp only
 repeat' split
 all_goals first | exact Wm0 | omega
theorem YP7 (hs:0 < sl) (ha:0 < sl*th) (hne:x.t.fr≠[]) (h:Adj sl th x) (e:x.f.fn=33) (hp:11<=x.f.pc/\x.f.pc<=14):Nx sl th x (WM7 x):=by
 have r:=h.r hne
 rw [e] at r
 unfold WM7;dsimp only
 repeat' split
 all_goals first | exact Wm0 | ((have e1:x.f.pc=14:=by omega);exact Wm0) | omega
theorem Yv4 (hs:0 < sl) (ha:0 < sl*th) (hne:x.t.fr≠[]) (h:Adj sl th x) (e:x.f.fn=33) (hp:0<=x.f.pc/\x.f.pc<=14):Nx sl th x (Wx1 x):=by
 unfold Wx1
 repeat' split
 ·exact Yv2 hs ha hne h e (by omega)
 ·exact Za0 hs ha hne h e (by omega)
 ·exact Yv3 hs ha hne h e (by omega)
 ·exact YP7 hs ha hne h e (by omega)
theorem ZI8 {f:Frm} (o:Wn7 L sl th f):(1<=f.fn/\f.fn<=6)\/f.fn=30/\0<=f.pc/\f.pc<=6\/f.fn=31/\(0<=f.pc/\f.pc<=18\/f.pc=90)\/(f.fn=32\/f.fn=33)/\(0<=f.pc/\f.pc<=14\/f.pc=90)\/f.fn=34/\(0<=f.pc/\f.pc<=5\/f.pc=90)\/f.fn=35/\0<=f.pc/\f.pc<=2\/f.fn=36/\0<=f.pc/\f.pc<=6:=by
 unfold Wn7 Wx8 at o
 omega
theorem Yv5 (hsl:sl=x.m.p.slots) (hth:th=x.m.p.c.threads) (hs:0 < sl) (ha:0 < sl*th) (hne:x.t.fr≠[]) (h:Adj sl th x) (o:Wn7 L sl th x.f):Nx sl th x (Wl2 x):=by
 have o1:=ZI8 o
 have r:=h.r hne
 unfold Wl2
 rw [if_neg hne]
 dsimp only
 split
 ·unfold Ws8
  rw [if_neg hne]
  split
  ·exact Zo1 hs hne h (by assumption)
  ·exact WH7 hsl hth hs ha hne h (by omega)
 split
 ·rename_i c c9
  refine ⟨r.pop,.inr (AdjR.ltPop r hne c9 r hne ?_)⟩
  have c2:fA sl th x.f.fn 90=false:=by
   have:x.f.fn=31\/x.f.fn=32\/x.f.fn=33\/x.f.fn=34:=by omega
   rcases this with e | e | e | e <;> rw [e] <;> simp [fA]
  rw [c2]
  have:=(Yh4 x.f.fn 90).1
  simp
  omega
 split
 ·exact Y98 hs ha hne h (by assumption) (by omega)
 split
 ·exact Y92 hs ha hne h (by assumption) (by omega)
 split
 ·exact Y93 hs ha hne h (by assumption) (by omega)
 split
 ·exact Y95 hs ha hne h (by assumption) (by omega)
 ·have:x.f.fn=32\/x.f.fn=33:=by omega
  rcases this with e | e
  ·exact Yv1 hs ha hne h e (by omega)
  ·exact Yv4 hs ha hne h e (by omega)
end
def LnQ (c:Mod.Cf) (f:Frm):Prop:=Wn7 c.level (Wb9 c).slots c.threads f
def LnW (x:Run):Prop:=Ok x/\LOk x/\(x.f.fn=31->ZO5 x)
theorem Yv6:YL8 Wl2 LnQ LnW 31 where
 st:=Ys6
 all c x hc hp hne h:=by
  obtain ⟨a1,a2,a3,a4,a5,a6⟩:=WA2 hc
  exact Yi8 h (by rw [hp];rfl) ⟨a5,a6⟩ (by rw [hp]) (by rw [hp];rfl) (by omega) (by omega) hne
 nx c x hc hp hne h a:=by
  obtain ⟨a1,a2,a3,a4,a5,a6⟩:=WA2 hc
  exact Yv5 (by rw [hp]) (by rw [hp];rfl) a1 a2 hne a (h.top hne)
 w c x B hc h hB hne hid:=by
  obtain ⟨a1,a2,a3,a4,a5,a6⟩:=WA2 hc
  have o:Wn7 c.level (Wb9 c).slots c.threads x.f:=h.q.top hne
  have hpr:=h.pr
  have hsu:=h.su
  have hwo:=h.wo
  refine ⟨h.ok hB hid ?_,λe hp=>?_,λe=>?_⟩
  ·rcases o with o | ⟨_,o⟩
   ·exact Zz7 o ⟨by omega,a4⟩ a3
   ·omega
  ·obtain ⟨len,o1,o2,o3⟩:=ZI7 o e
   have g:=o3 hp
   exact ⟨⟨g.1,by omega⟩,by omega,by omega,by omega⟩
  ·obtain ⟨len,o1,o2,o3⟩:=ZI6 o e
   refine ⟨⟨by omega,by omega,by omega,by omega⟩,λe2 e3=>?_⟩
   have g1:=o2 (by omega) (by omega)
   have g2:=o3 (by omega) (by omega)
   omega
 new c op l hc ho:=by
  obtain ⟨a1,a2,a3,a4,a5,a6⟩:=WA2 hc
  exact Ws4 (by omega) (by omega) (by omega)
theorem YP8:DoC 65 Wl2 LnW:=λh M T tv x R K H hw k=>W75 H hw.1 hw.2.1 hw.2.2 k
end
section
open Mod
theorem Zo3 (c:Cl):WQ5 (clL c)=true:=by
 have:=Y28 c.op
 unfold clL
 split
 ·rfl
 ·rename_i h
  unfold WQ5
  simp only [Bool.or_eq_true,Bool.and_eq_true,beq_iff_eq,and_true]
  omega
theorem WX7 (th n:Nat) (calls:List (List Cl)):(Wg5 th n calls).flatten.length<=n*th:=by
 induction th with
 | zero=>simp [Wg5]
 | succ j ih=>
  rw [WX0,List.flatten_append,List.length_append,List.flatten_singleton,W80,Nat.mul_succ]
  omega
theorem Yv7 {c:Mod.Cf} (hc:okC c=true) {calls:List (List Cl)} {Wc3 draws:List Int} {n m:Nat} (hn:n<=8) (hm:m<=60000):Y60 c (Wg5 c.threads.toNat n calls) (Wl5 c.threads m Wc3) (draws.take 4096)=true:=by
 have B:=Wt1 hc
 have hth:1<=c.threads/\c.threads<=6:=B.th
 have hf:=WX7 c.threads.toNat n calls
 have hnt:n*c.threads.toNat<=8*6:=Nat.mul_le_mul hn (by omega)
 unfold Y60
 rw [hc,Wx7]
 simp only [Bool.and_eq_true,beq_iff_eq,decide_eq_true_eq,List.all_eq_true]
 refine ⟨trivial,by omega,by omega,?_,?_,?_,?_⟩
 ·unfold Wl5;rw [List.length_map,List.length_take];omega
 ·rw [List.length_take];omega
 ·intro l hl x hx
  unfold Wg5 at hl
  obtain ⟨i,_,rfl⟩:=List.mem_map.1 hl
  unfold WQ3 at hx
  obtain ⟨y,_,rfl⟩:=List.mem_map.1 hx
  exact Zo3 y
 ·intro k hk
  unfold Wl5 at hk
  obtain ⟨k0,_,rfl⟩:=List.mem_map.1 hk
  exact Y29 hth k0
theorem Zo4 {th:Int} {n m:Nat} {calls:List (List Cl)} {Wc3 draws:List Int} (hn:n<=1000) (R:ZC2 calls Wc3 draws):ZC2 (Wg5 th.toNat n calls) (Wl5 th m Wc3) (draws.take 4096):=
 ⟨λl hl x hx=>((Yg6 R hn l hl).2 x hx).2,λx hx=>R.dr x (List.mem_of_mem_take hx)⟩
section
variable {K:kQ} {h:Wa2} {R:Hp} {calls:List (List Cl)} {Wc3 draws:List Int}
end
end
end Go.Proofs.YtahpbclnkofhfaaGreat
section
namespace Go.Proofs.YtahpbclnkofhfaaGreat.Mod
def Ans (fn:Int):Prop:=11<=fn/\fn<=13\/21<=fn/\fn<=23\/31<=fn/\fn<=33
def Fit (fn i j k:Int):Prop:=(fn % 10=1->(i=0\/i=1)/\j=0/\k=0)/\(fn % 10≠1->i=2\/i=3/\j=0/\k=0)
inductive WA5 (p:Pl):Int->Prop
 | node (n f:Int):WA5 p (p.node n f)
 | link (n:Int):WA5 p (p.link n)
 | at (n:Int):WA5 p (p.at n)
 | lit {a:Int} (h:0<=a/\a < 8):WA5 p a
inductive On (x:Run):Bool->Bool->Run->Prop
 | refl:On x false false x
 | load {y:Run} {a:Int} (h:On x false false y):On x true false (y.load a).2
 | store {y:Run} {a v:Int} (h:On x false false y) (ha:WA5 x.m.p a):On x true false (y.store a v)
 | own {y:Run} {i v:Int} (h:On x false false y):On x true false (y.store (x.m.p.haz x.id i) v)
 | cas {y:Run} {a o v:Int} (h:On x false false y) (ha:WA5 x.m.p a):On x true false (y.cas a o v).2
 | add {y:Run} {a v:Int} (h:On x false false y) (ha:WA5 x.m.p a):On x true false (y.add a v).2
 | dcas {y:Run} {a o v b p q:Int} (h:On x false false y) (ha:WA5 x.m.p a) (hb:WA5 x.m.p b):On x true false { y with m:=(y.m.dcas a o v b p q).2 }
 | dcss {y:Run} {a o v b p:Int} (h:On x false false y) (ha:WA5 x.m.p a) (hb:WA5 x.m.p b):On x true false { y with m:=(y.m.dcss a o v b p).2 }
 | next {b:Bool} {y:Run} {k:Int} (h:On x b false y):On x b false { y with m:=(y.m.next k).2 }
 | lvl {b:Bool} {y:Run} {k:Int} (h:On x b false y):On x b false { y with m:=(y.m.lvl k).2 }
 | gh {b q:Bool} {y:Run} {f:Gh->Gh} (h:On x b q y):On x b q (y.gh f)
 | s {b:Bool} {y:Run} {i:Nat} {v:Int} (h:On x b false y):On x b false (y.s i v)
 | pc {b:Bool} {y:Run} {i:Int} (h:On x b false y) (hi:Ans x.f.fn->i≠90):On x b false (y.pc i)
 | call {b:Bool} {y:Run} {i j:Int} {r:List Int} (h:On x b false y) (hi:Ans x.f.fn->i≠90) (hj:¬ Ans j):On x b true (y.call i j r)
 | fin {b:Bool} {y:Run} {i j k:Int} (h:On x b false y) (hi:Ans x.f.fn->Fit x.f.fn i j k):On x b true (y.fin i j k)
 | pop {b:Bool} {y:Run} {r:List Int} (h:On x b false y) (hn:¬ Ans x.f.fn):On x b true (y.pop r)
 | push {b q:Bool} {y:Run} {j:Int} {r:List Int} (h:On x b q y) (hj:¬ Ans j):On x b true (y.push j r)
 | fo {b:Bool} {y:Run} {l:List Int} (h:On x b false y):On x b false (y.fo l)
 | re {b:Bool} {y:Run} {l:List Int} (h:On x b false y):On x b false (y.re l)
 | setPl {b:Bool} {y:Run} {p s w:List Int} (h:On x b false y):On x b false (y.setPl p s w)
section
variable {x y:Run} {b:Bool}
theorem On.swing {a w p:Int} {c:Bool} (h:On x false false y) (ha:WA5 x.m.p (y.at a)):On x true false (y.swing a w p c).2:=On.cas h ha
theorem On.swingA {a w p:Int} (h:On x false false y) (ha:WA5 x.m.p a):On x true false (y.swingA a w p).2:=On.cas h ha
theorem On.swingM {a w p:Int} {c:Bool} (h:On x false false y) (ha:WA5 x.m.p a):On x true false (y.swingM a w p c).2:=On.cas h ha
theorem On.drop1 {a:Int} (h:On x false false y) (ha:WA5 x.m.p (y.na a 2)):On x true false (y.drop1 a).2:=On.add h ha
end
structure Ob (x y:Run):Prop where
 a:∃b q,On x b q y
theorem Ob.of {x y:Run} {b q:Bool} (h:On x b q y):Ob x y:=⟨b,q,h⟩
theorem ZQ8 {P:Prop} (h:P:=by ((with_reducible repeat' (first | assumption | exact On.refl | apply On.load | apply On.cas | apply On.add | apply On.swing | apply On.swingA | apply On.swingM | apply On.drop1 | apply On.own | apply On.next | apply On.lvl | apply On.dcas | apply On.dcss | apply On.gh | apply On.call | apply On.fin | apply On.s | apply On.pc | apply On.push | apply On.pop | apply On.fo | apply On.re | apply On.setPl | apply On.store));all_goals (first | assumption | exact WA5.node _ _ | exact WA5.at _ | exact WA5.link _ | exact WA5.lit (by decide) | (intro hx;first | exact absurd hx nA | decide | omega | (unfold Fit;omega)) | (unfold Ans;omega)))):P:=h
theorem Wp4 {P:Prop} (h:P:=by (apply Ob.of;((with_reducible repeat' (first | assumption | exact On.refl | apply On.load | apply On.cas | apply On.add | apply On.swing | apply On.swingA | apply On.swingM | apply On.drop1 | apply On.own | apply On.next | apply On.lvl | apply On.dcas | apply On.dcss | apply On.gh | apply On.call | apply On.fin | apply On.s | apply On.pc | apply On.push | apply On.pop | apply On.fo | apply On.re | apply On.setPl | apply On.store));all_goals (first | assumption | exact WA5.node _ _ | exact WA5.at _ | exact WA5.link _ | exact WA5.lit (by decide) | (intro hx;first | exact absurd hx nA | decide | omega | (unfold Fit;omega)) | (unfold Ans;omega))))):P:=h
theorem Zo5 {x:Run} (nA:¬ Ans x.f.fn):Ob x (alloc x):=by
 unfold alloc;dsimp only
 repeat' split
 all_goals exact Wp4
theorem YP9 {x:Run} (nA:¬ Ans x.f.fn):Ob x (Wu1 x):=by
 unfold Wu1;dsimp only
 repeat' split
 all_goals exact Wp4
theorem YQ0 {x:Run} (nA:¬ Ans x.f.fn):Ob x (Wu2 x):=by
 unfold Wu2
 try dsimp only
 repeat' split
 all_goals first | with_reducible exact Zo5 nA | with_reducible exact YP9 nA | exact Wp4
theorem YQ1 {x:Run} (nA:¬ Ans x.f.fn):Ob x (Wu3 x):=by
 unfold Wu3;dsimp only
 repeat' split
 all_goals exact Wp4
theorem ZA5 {x:Run} (nA:¬ Ans x.f.fn):Ob x (YW9 x):=by
 unfold YW9;dsimp only
 repeat' split
 all_goals exact Wp4
theorem Za1 {x:Run} (nA:¬ Ans x.f.fn):Ob x (WB1 x):=by
 unfold WB1;dsimp only
 repeat' split
 all_goals exact Wp4
theorem Zo6 {x y:Run} {b:Bool} {all:Int} (nA:¬ Ans x.f.fn) (h:On x b false y):On x b false (WF0 y all):=by
 unfold WF0
 split
 ·exact On.pc (On.fo (On.re h)) λhx=>absurd hx nA
 ·exact h
theorem Zo7 {x y:Run} {b:Bool} (nA:¬ Ans x.f.fn) (h:On x b false y):On x b true (W54 y):=by
 unfold W54
 split
 ·exact On.pop h nA
 ·exact On.push (On.fo h) (by unfold Ans;omega)
theorem ZA6 {x:Run} (nA:¬ Ans x.f.fn):Ob x (scan x):=by
 have h0:On x false false (if x.f.pc=0 then x.fo [] else x):=by
  split
  ·exact On.fo On.refl
  ·exact On.refl
 unfold scan
 dsimp only
 generalize (if x.f.pc=0 then x.fo [] else x)=y at *
 split
 ·exact Ob.of (On.pc (On.fo (On.load h0)) λhx=>absurd hx nA)
 ·exact Ob.of (Zo7 nA (Zo6 nA h0))
theorem WI0 {x:Run} (nA:¬ Ans x.f.fn):Ob x (Wl1 x):=by
 unfold Wl1
 try dsimp only
 repeat' split
 all_goals first | with_reducible exact YQ1 nA | with_reducible exact ZA5 nA | with_reducible exact Za1 nA | with_reducible exact ZA6 nA | with_reducible exact YQ0 nA | exact Wp4
theorem Zo8 {x:Run} (nA:¬ Ans x.f.fn):Ob x (WS4 x):=by
 unfold WS4;dsimp only
 repeat' split
 all_goals exact Wp4
theorem Zo9 {x:Run} (e:x.f.fn=11):Ob x (WS6 x):=by
 unfold WS6;dsimp only
 repeat' split
 all_goals exact Wp4
theorem Yv8 {x:Run} (e:x.f.fn=11):Ob x (Wo4 x):=by
 unfold Wo4 WS5;dsimp only
 repeat' split
 all_goals exact Wp4
theorem Zp0 {x:Run} (e:x.f.fn=11):Ob x (WS7 x):=by
 unfold WS7 WS5;dsimp only
 repeat' split
 all_goals exact Wp4
theorem ZA7 {x:Run} (e:x.f.fn=11):Ob x (YX1 x):=by
 unfold YX1 W55;dsimp only
 repeat' split
 all_goals exact Wp4
theorem Zp1 {x:Run} (e:x.f.fn=11):Ob x (WS8 x):=by
 unfold WS8
 try dsimp only
 repeat' split
 all_goals first | with_reducible exact Zo9 e | with_reducible exact Yv8 e | with_reducible exact Zp0 e | with_reducible exact ZA7 e | exact Wp4
theorem Zp2 {x:Run} (e:x.f.fn=12\/x.f.fn=13):Ob x (WM3 x):=by
 unfold WM3;dsimp only
 repeat' split
 all_goals exact Wp4
theorem Zp3 {x:Run} (e:x.f.fn=12\/x.f.fn=13):Ob x (WM4 x):=by
 unfold WM4
 try dsimp only
 repeat' split
 all_goals first | with_reducible exact Zp2 e | exact Wp4
theorem YD3 {x:Run} (nA:¬ Ans x.f.fn):Ob x (WO7 x):=by
 unfold WO7;dsimp only
 repeat' split
 all_goals exact Wp4
theorem Zp4 {x:Run} (nA:¬ Ans x.f.fn):Ob x (WS9 x):=by
 unfold WS9
 try dsimp only
 repeat' split
 all_goals first | with_reducible exact YD3 nA | exact Wp4
theorem Za2 {x:Run} {a:Nat} {i j:Int} (nA:¬ Ans x.f.fn):Ob x (Wr6 x a i j):=by
 unfold Wr6;dsimp only
 repeat' split
 all_goals exact Wp4
theorem Zp5 {x:Run} {a:Nat} {j:Int} (nA:¬ Ans x.f.fn):Ob x (WO8 x a j):=by
 unfold WO8;dsimp only
 repeat' split
 all_goals exact Wp4
theorem Zp6 {x:Run} (nA:¬ Ans x.f.fn):Ob x (WT0 x):=by
 unfold WT0;dsimp only
 repeat' split
 all_goals first | with_reducible exact Zp5 nA | with_reducible exact YD3 nA | with_reducible exact Zp4 nA | with_reducible exact Za2 nA | (rename_i c;unfold Wr6;dsimp only;rw [if_neg c];exact Wp4) | exact Wp4
def Bit (x y:Run):Prop:=Ans x.f.fn/\x.f.pc=90/\y=x.pop [x.f.g 7,x.f.g 8,x.f.g 9]\/(Ans x.f.fn->x.f.pc≠90)/\Ob x y
theorem Yv9 {x:Run} (hq:x.f.fn<=6\/10<=x.f.fn/\x.f.fn<=14) (hne:x.t.fr≠[]):Bit x (Wh5 x):=by
 unfold Wh5
 rw [if_neg hne]
 dsimp only
 split
 ·rename_i c;exact .inl ⟨.inl c.2,c.1,rfl⟩
 rename_i c
 refine .inr ⟨λh e=>c ⟨e,by unfold Ans at h;omega⟩,?_⟩
 repeat' split
 ·exact Zo8 (by unfold Ans;omega)
 ·exact Zp1 (by assumption)
 ·exact Zp3 (by assumption)
 ·exact Zp6 (by unfold Ans;omega)
 ·exact WI0 (by unfold Ans;omega)
theorem W35 {x y:Run} {b:Bool} (nA:¬ Ans x.f.fn) (h:On x b false y):Ob x (Wo5 y):=by
 unfold Wo5;dsimp only
 split
 all_goals exact Wp4
theorem W84 {x y:Run} {b:Bool} {w:Int} (nA:¬ Ans x.f.fn) (h:On x b false y):Ob x (WG3 y w):=by
 unfold WG3;dsimp only
 have h1:On x b false (y.s 3 w):=On.s h
 repeat' split
 ·exact Wp4
 ·exact W35 nA h1
 ·exact Wp4
theorem Zp7 {x:Run} (nA:¬ Ans x.f.fn):Ob x (WT2 x):=by
 unfold WT2
 try dsimp only
 repeat' split
 all_goals first | with_reducible exact W84 nA (On.load On.refl) | with_reducible exact W35 nA (On.load On.refl) | exact W84 nA (On.cas On.refl (WA5.node _ _)) | exact Wp4
theorem Zp8 {x:Run} (nA:¬ Ans x.f.fn):Ob x (WT3 x):=by
 unfold WT3
 try dsimp only
 repeat' split
 all_goals first | with_reducible exact Zp7 nA | with_reducible exact W84 nA (On.load On.refl) | exact Wp4
theorem Za3 {x:Run} (nA:¬ Ans x.f.fn):Ob x (WB2 x):=by
 unfold WB2
 try dsimp only
 repeat' split
 all_goals first | with_reducible exact Zp8 nA | with_reducible exact WI0 nA | exact Wp4
theorem Za4 {x:Run} (e:x.f.fn=21):Ob x (WB3 x):=by
 unfold WB3;dsimp only
 repeat' split
 all_goals exact Wp4
theorem Zp9 {x:Run} (e:x.f.fn=21) (hp:x.f.pc<=7):Ob x (WZ4 x):=by
 unfold WZ4;dsimp only
 repeat' split
 all_goals exact Wp4
theorem YQ2 {x:Run} (e:x.f.fn=21):Ob x (Wu4 x):=by
 unfold Wu4;dsimp only
 repeat' split
 all_goals exact Wp4
theorem YQ3 {x:Run} (e:x.f.fn=21):Ob x (Wu5 x):=by
 unfold Wu5;dsimp only
 repeat' split
 all_goals exact Wp4
theorem YQ4 {x:Run} (e:x.f.fn=21):Ob x (Wu6 x):=by
 unfold Wu6;dsimp only
 repeat' split
 all_goals exact Wp4
theorem Za5 {x:Run} (e:x.f.fn=21):Ob x (WB4 x):=by
 unfold WB4
 try dsimp only
 repeat' split
 all_goals first | with_reducible exact Za4 e | with_reducible exact Zp9 e (by assumption) | with_reducible exact YQ2 e | with_reducible exact YQ3 e | with_reducible exact YQ4 e | exact Wp4
theorem Za6 {x:Run} (e:x.f.fn=22\/x.f.fn=23):Ob x (Wv3 x):=by
 unfold Wv3 Wv2;dsimp only
 repeat' split
 all_goals exact Wp4
theorem Za7 {x:Run} (e:x.f.fn=22\/x.f.fn=23):Ob x (Wv4 x):=by
 unfold Wv4;dsimp only
 repeat' split
 all_goals exact Wp4
theorem Za8 {x:Run} (e:x.f.fn=22\/x.f.fn=23):Ob x (Wv5 x):=by
 unfold Wv5;dsimp only
 repeat' split
 all_goals exact Wp4
theorem YQ5 {x:Run} (e:x.f.fn=22\/x.f.fn=23):Ob x (Wo6 x):=by
 unfold Wo6 Wv2;dsimp only
 repeat' split
 all_goals exact Wp4
theorem Za9 {x:Run} (e:x.f.fn=22\/x.f.fn=23):Ob x (WB5 x):=by
 unfold WB5
 try dsimp only
 repeat' split
 all_goals first | with_reducible exact Za6 e | with_reducible exact Za7 e | with_reducible exact Za8 e | with_reducible exact YQ5 e | exact Wp4
theorem W85 {x:Run} (hq:x.f.fn<=6\/20<=x.f.fn/\x.f.fn<=23) (hne:x.t.fr≠[]):Bit x (Wi0 x):=by
 unfold Wi0
 rw [if_neg hne]
 dsimp only
 split
 ·have nA:¬ Ans x.f.fn:=by unfold Ans;omega
  exact .inr ⟨λh=>absurd h nA,Za3 nA⟩
 split
 ·exact .inl ⟨by unfold Ans;omega,by assumption,rfl⟩
 refine .inr ⟨λh=>by assumption,?_⟩
 split
 ·exact Za5 (by assumption)
 ·exact Za9 (by omega)
theorem YQ6 {x y:Run} {b:Bool} (nA:¬ Ans x.f.fn) (h:On x b false y):Ob x (Wm9 y):=by
 unfold Wm9;dsimp only
 split
 all_goals exact Wp4
theorem YD4 {x y:Run} {b:Bool} (nA:¬ Ans x.f.fn) (h:On x b false y):On x b false (WF1 y):=by
 unfold WF1
 exact On.pc (On.s h) λhx=>absurd hx nA
theorem Zb0 {x:Run} (nA:¬ Ans x.f.fn):Ob x (WB6 x):=by
 have h1:On x true false (x.load 1).2:=On.load On.refl
 unfold WB6;dsimp only
 repeat' split
 all_goals first | (with_reducible apply Ob.of;with_reducible apply YD4 nA;with_reducible apply On.s;with_reducible exact h1) | exact Wp4
theorem Zq0 {x:Run} (nA:¬ Ans x.f.fn):Ob x (WT4 x):=by
 unfold WT4;dsimp only
 repeat' split
 all_goals first | with_reducible exact Zb0 nA | (with_reducible apply YQ6 nA (b:=true);exact ZQ8) | (with_reducible apply Ob.of;with_reducible apply YD4 nA (b:=true);exact ZQ8) | exact Wp4
theorem Yw0 {x:Run} (nA:¬ Ans x.f.fn):Ob x (Ws8 x):=by
 unfold Ws8
 try dsimp only
 repeat' split
 all_goals first | with_reducible exact Zq0 nA | with_reducible exact WI0 nA | exact Wp4
theorem Zb1 {x:Run} (nA:¬ Ans x.f.fn):Ob x (WB7 x):=by
 unfold WB7;dsimp only
 repeat' split
 all_goals exact Wp4
theorem Zb2 {x:Run} (nA:¬ Ans x.f.fn):Ob x (WB8 x):=by
 unfold WB8;dsimp only
 repeat' split
 all_goals exact Wp4
theorem Zb3 {x:Run} (nA:¬ Ans x.f.fn):Ob x (WB9 x):=by
 unfold WB9 Wv6;dsimp only
 repeat' split
 all_goals exact Wp4
theorem Zb4 {x:Run} (nA:¬ Ans x.f.fn):Ob x (WC0 x):=by
 unfold WC0 Wv6 Run.guard
 try dsimp only
 repeat' split
 all_goals first | with_reducible exact Zb3 nA | exact Wp4
theorem Zb5 {x:Run} (e:x.f.fn=31):Ob x (WC1 x):=by
 unfold WC1;dsimp only
 repeat' split
 all_goals exact Wp4
theorem Zq1 {x:Run} (e:x.f.fn=31) (hp:x.f.pc<=6):Ob x (WZ5 x):=by
 unfold WZ5;dsimp only
 repeat' split
 all_goals exact Wp4
theorem YQ7 {x:Run} (e:x.f.fn=31):Ob x (Wu7 x):=by
 unfold Wu7;dsimp only
 repeat' split
 all_goals exact Wp4
theorem YQ8 {x:Run} (e:x.f.fn=31):Ob x (Wu8 x):=by
 unfold Wu8;dsimp only
 repeat' split
 all_goals exact Wp4
theorem Zb6 {x:Run} (e:x.f.fn=31):Ob x (WC2 x):=by
 unfold WC2;dsimp only
 repeat' split
 all_goals exact Wp4
theorem Zb7 {x:Run} (e:x.f.fn=31):Ob x (WC3 x):=by
 unfold WC3
 try dsimp only
 repeat' split
 all_goals first | with_reducible exact Zb5 e | with_reducible exact Zq1 e (by assumption) | with_reducible exact YQ7 e | with_reducible exact YQ8 e | with_reducible exact Zb6 e | exact Wp4
theorem Zb8 {x:Run} (e:x.f.fn=32\/x.f.fn=33):Ob x (Ww9 x):=by
 unfold Ww9 Run.guard;dsimp only
 repeat' split
 all_goals exact Wp4
theorem ZA8 {x:Run} (e:x.f.fn=32\/x.f.fn=33):Ob x (YH5 x):=by
 unfold YH5;dsimp only
 repeat' split
 all_goals exact Wp4
theorem Zb9 {x:Run} (e:x.f.fn=32\/x.f.fn=33):Ob x (Wx0 x):=by
 unfold Wx0;dsimp only
 repeat' split
 all_goals exact Wp4
theorem Zq2 {x:Run} (e:x.f.fn=32\/x.f.fn=33):Ob x (WM7 x):=by
 unfold WM7;dsimp only
 repeat' split
 all_goals exact Wp4
theorem Zc0 {x:Run} (e:x.f.fn=32\/x.f.fn=33):Ob x (Wx1 x):=by
 unfold Wx1
 try dsimp only
 repeat' split
 all_goals first | with_reducible exact Zb8 e | with_reducible exact ZA8 e | with_reducible exact Zb9 e | with_reducible exact Zq2 e | exact Wp4
theorem Yj1 {x:Run} (hq:x.f.fn<=6\/30<=x.f.fn/\x.f.fn<=36) (hne:x.t.fr≠[]):Bit x (Wl2 x):=by
 unfold Wl2
 rw [if_neg hne]
 dsimp only
 split
 ·have nA:¬ Ans x.f.fn:=by unfold Ans;omega
  exact .inr ⟨λh=>absurd h nA,Yw0 nA⟩
 split
 ·by_cases c:x.f.fn<=33
  ·exact .inl ⟨by unfold Ans;omega,by assumption,rfl⟩
  ·have nA:¬ Ans x.f.fn:=by unfold Ans;omega
   exact .inr ⟨λh=>absurd h nA,Ob.of (On.pop On.refl nA)⟩
 refine .inr ⟨λh=>by assumption,?_⟩
 repeat' split
 ·exact Zb7 (by assumption)
 ·exact Zb1 (by unfold Ans;omega)
 ·exact Zb2 (by unfold Ans;omega)
 ·exact Zb4 (by unfold Ans;omega)
 ·exact Zc0 (by omega)
end Go.Proofs.YtahpbclnkofhfaaGreat.Mod
end
namespace Go.Proofs.YtahpbclnkofhfaaGreat
section
open Mod
structure Zc1 (p:Pl) (id:Int) (n:Nat) (e:Acc):Prop where
 a:0<=e.a/\e.a < n
 k:e.kind=0/\e.b = -1\/(e.kind=1/\e.b = -1/\(WA5 p e.a\/∃i,e.a=p.haz id i)\/((e.kind=2\/e.kind=3)/\e.b = -1/\WA5 p e.a\/(e.kind=4\/e.kind=5)/\WA5 p e.a/\WA5 p e.b/\0<=e.b/\e.b < n))
structure One (p:Pl) (id:Int) (m n:Mm):Prop where
 wt:n.wt=m.wt
 w:n.w.length=m.w.length
 st:n.st=m.st/\n.lg=m.lg\/n.st=m.st+1/\∃e,Zc1 p id m.w.length e/\n.lg=if m.wt then m.lg ++ [e] else m.lg
theorem One.refl (p:Pl) (id:Int) (m:Mm):One p id m m:=⟨rfl,rfl,.inl ⟨rfl,rfl⟩⟩
theorem WN3 {m:Mm} {a:Int} (h:m.ok a=true):0<=a/\a < m.w.length:=by
 unfold Mm.ok at h
 simpa using h
theorem WA4 (m:Mac) (a:Int):(m.touch a).acted=true:=by
 unfold Mac.touch
 split <;> rfl
theorem WG0 (m:Mac) (a:Int):(m.touch a).mm=m.mm:=(FixM.touch m a).2.1
section
variable {p:Pl} {id:Int} {m:Mac} {a b o v c q:Int}
theorem Zq3:(m.load a).2.acted=true/\One p id m.mm (m.load a).2.mm:=by
 unfold Mac.load
 dsimp only
 rw [WG0]
 split
 ·rename_i h
  exact ⟨WA4 m a,rfl,rfl,.inr ⟨rfl,_,⟨WN3 h,.inl ⟨rfl,rfl⟩⟩,rfl⟩⟩
 ·exact ⟨WA4 m a,by show One p id m.mm (m.touch a).mm;rw [WG0];exact One.refl _ _ _⟩
theorem Yj2 (ha:WA5 p a\/∃i,a=p.haz id i):(m.store a v).acted=true/\One p id m.mm (m.store a v).mm:=by
 unfold Mac.store
 dsimp only
 rw [WG0]
 split
 ·rename_i h
  exact ⟨WA4 m a,rfl,List.length_set,.inr ⟨rfl,_,⟨WN3 h,.inr (.inl ⟨rfl,rfl,ha⟩)⟩,rfl⟩⟩
 ·exact ⟨WA4 m a,by show One p id m.mm (m.touch a).mm;rw [WG0];exact One.refl _ _ _⟩
theorem ZA9 (ha:WA5 p a):(m.cas a o v).2.acted=true/\One p id m.mm (m.cas a o v).2.mm:=by
 unfold Mac.cas
 dsimp only
 rw [WG0]
 split
 ·rename_i h
  refine ⟨WA4 m a,?_⟩
  show One p id m.mm (m.mm.cas a o v)
  unfold Mm.cas
  split
  ·exact ⟨rfl,List.length_set,.inr ⟨rfl,_,⟨WN3 h,.inr (.inr (.inl ⟨.inl rfl,rfl,ha⟩))⟩,rfl⟩⟩
  ·exact ⟨rfl,rfl,.inr ⟨rfl,_,⟨WN3 h,.inr (.inr (.inl ⟨.inl rfl,rfl,ha⟩))⟩,rfl⟩⟩
 ·exact ⟨WA4 m a,by show One p id m.mm (m.touch a).mm;rw [WG0];exact One.refl _ _ _⟩
theorem ZB0 (ha:WA5 p a):(m.add a v).2.acted=true/\One p id m.mm (m.add a v).2.mm:=by
 unfold Mac.add
 dsimp only
 rw [WG0]
 split
 ·rename_i h
  exact ⟨WA4 m a,rfl,List.length_set,.inr ⟨rfl,_,⟨WN3 h,.inr (.inr (.inl ⟨.inr rfl,rfl,ha⟩))⟩,rfl⟩⟩
 ·exact ⟨WA4 m a,by show One p id m.mm (m.touch a).mm;rw [WG0];exact One.refl _ _ _⟩
theorem W86 (m:Mac) (a b:Int):((m.touch a).touch b).mm=m.mm:=by rw [WG0,WG0]
theorem Zq4 (ha:WA5 p a) (hb:WA5 p b):(m.dcas a o v b c q).2.acted=true/\One p id m.mm (m.dcas a o v b c q).2.mm:=by
 unfold Mac.dcas
 dsimp only
 rw [W86]
 split
 ·rename_i h
  refine ⟨WA4 _ b,?_⟩
  show One p id m.mm (m.mm.dcas a o v b c q)
  unfold Mm.dcas
  split
  ·exact ⟨rfl,by show ((m.mm.w.set _ _).set _ _).length=_;rw [List.length_set,List.length_set],.inr ⟨rfl,_,⟨WN3 h.1,.inr (.inr (.inr ⟨.inl rfl,ha,hb,WN3 h.2.1⟩))⟩,rfl⟩⟩
  ·exact ⟨rfl,rfl,.inr ⟨rfl,_,⟨WN3 h.1,.inr (.inr (.inr ⟨.inl rfl,ha,hb,WN3 h.2.1⟩))⟩,rfl⟩⟩
 ·exact ⟨WA4 _ b,by show One p id m.mm ((m.touch a).touch b).mm;rw [W86];exact One.refl _ _ _⟩
theorem Zq5 (ha:WA5 p a) (hb:WA5 p b):(m.dcss a o v b c).2.acted=true/\One p id m.mm (m.dcss a o v b c).2.mm:=by
 unfold Mac.dcss
 dsimp only
 rw [W86]
 split
 ·rename_i h
  refine ⟨WA4 _ b,?_⟩
  show One p id m.mm (m.mm.dcss a o v b c)
  unfold Mm.dcss
  split
  ·exact ⟨rfl,List.length_set,.inr ⟨rfl,_,⟨WN3 h.1,.inr (.inr (.inr ⟨.inr rfl,ha,hb,WN3 h.2⟩))⟩,rfl⟩⟩
  ·exact ⟨rfl,rfl,.inr ⟨rfl,_,⟨WN3 h.1,.inr (.inr (.inr ⟨.inr rfl,ha,hb,WN3 h.2⟩))⟩,rfl⟩⟩
 ·exact ⟨WA4 _ b,by show One p id m.mm ((m.touch a).touch b).mm;rw [W86];exact One.refl _ _ _⟩
end
theorem ZB1 (m:Mac) (k:Int):(m.next k).2.mm=m.mm/\(m.next k).2.acted=m.acted:=by
 unfold Mac.next
 split <;> exact ⟨rfl,rfl⟩
theorem ZI9 (m:Mac) (k:Int):(m.lvl k).2.mm=m.mm/\(m.lvl k).2.acted=m.acted:=by
 unfold Mac.lvl
 split <;> exact ⟨rfl,rfl⟩
structure Mo1 (x y:Run) (b:Bool):Prop where
 f:b=false->y.m.mm=x.m.mm/\y.m.acted=x.m.acted
 t:b=true->y.m.acted=true/\One x.m.p x.id x.m.mm y.m.mm
theorem Mo1.t1 {x y z:Run} (h:Mo1 x y false) (e:z.m.acted=true/\One x.m.p x.id y.m.mm z.m.mm):Mo1 x z true:=
 ⟨λe=>(by cases e),λ_=>⟨e.1,by rw [<- (h.f rfl).1];exact e.2⟩⟩
theorem Mo1.same {x y z:Run} {b:Bool} (h:Mo1 x y b) (e:z.m.mm=y.m.mm/\z.m.acted=y.m.acted):Mo1 x z b:=
 ⟨λc=>⟨e.1.trans (h.f c).1,e.2.trans (h.f c).2⟩,λc=>⟨e.2.trans (h.t c).1,by rw [e.1];exact (h.t c).2⟩⟩
theorem Mod.On.mm {x y:Run} {b q:Bool} (h:On x b q y):Mo1 x y b:=by
 induction h with
 | refl=>exact ⟨λ_=>⟨rfl,rfl⟩,λe=>by cases e⟩
 | load _ ih=>exact ih.t1 Zq3
 | store _ ha ih=>exact ih.t1 (Yj2 (.inl ha))
 | own _ ih=>exact ih.t1 (Yj2 (.inr ⟨_,rfl⟩))
 | cas _ ha ih=>exact ih.t1 (ZA9 ha)
 | add _ ha ih=>exact ih.t1 (ZB0 ha)
 | dcas _ ha hb ih=>exact ih.t1 (Zq4 ha hb)
 | dcss _ ha hb ih=>exact ih.t1 (Zq5 ha hb)
 | next _ ih=>exact ih.same (ZB1 _ _)
 | lvl _ ih=>exact ih.same (ZI9 _ _)
 | gh _ ih=>exact ih.same ⟨rfl,rfl⟩
 | s _ ih=>exact ih.same ⟨rfl,rfl⟩
 | pc _ _ ih=>exact ih.same ⟨rfl,rfl⟩
 | call _ _ _ ih=>exact ih.same ⟨rfl,rfl⟩
 | fin _ _ ih=>exact ih.same ⟨rfl,rfl⟩
 | pop _ _ ih=>exact ih.same ⟨rfl,rfl⟩
 | push _ _ ih=>exact ih.same ⟨rfl,rfl⟩
 | fo _ ih=>exact ih.same ⟨rfl,rfl⟩
 | re _ ih=>exact ih.same ⟨rfl,rfl⟩
 | setPl _ ih=>exact ih.same ⟨rfl,rfl⟩
structure W87 (f:Frm):Prop where
 len:f.r.length=10
 a:Ans f.fn->f.pc=90->Fit f.fn (f.g 7) (f.g 8) (f.g 9)
def Bot (fn:Int) (l:List Frm):Prop:=∃f r,l=f :: r/\f.fn=fn
structure Frs (x y:Run) (q:Bool):Prop where
 a:∀f ∈ y.t.fr,W87 f
 b:∀fn,Ans fn->Bot fn x.t.fr->Bot fn y.t.fr
 c:q=false->y.t.fr≠[]/\y.t.fr.dropLast=x.t.fr.dropLast/\y.f.fn=x.f.fn/\(Ans x.f.fn->y.f.pc≠90)
theorem ZB2 {j:Int} {r:List Int} (hj:¬ Ans j):W87 ⟨j,0,pad 10 r⟩:=⟨Wy9 _ _,λh=>absurd h hj⟩
theorem Bot.app {fn:Int} {l k:List Frm} (h:Bot fn l):Bot fn (l ++ k):=by
 obtain ⟨f,r,e,ef⟩:=h
 exact ⟨f,r ++ k,by rw [e];rfl,ef⟩
theorem Bot.top {fn:Int} {y:Run} {f:Frm} (h:Bot fn y.t.fr) (hne:y.t.fr≠[]) (hf:f.fn=y.f.fn):Bot fn (y.setF f).t.fr:=by
 obtain ⟨g,r,e,eg⟩:=h
 have s:=W61 hne
 show Bot fn (y.t.fr.dropLast ++ [f])
 cases hd:y.t.fr.dropLast with
 | nil=>
  rw [hd,e] at s
  refine ⟨f,[],rfl,hf.trans ?_⟩
  have:g=y.t.top:=by cases s;rfl
  rw [<- eg,this]
  rfl
 | cons g2 r2=>
  rw [hd,e] at s
  have:g=g2:=by cases s;rfl
  exact ⟨g2,r2 ++ [f],rfl,by rw [<- this];exact eg⟩
theorem YD5 {y:Run} {f g:Frm} (h:∀f ∈ y.t.fr,W87 f) (hf:W87 f) (hg:g ∈ (y.setF f).t.fr):W87 g:=by
 have hg:g ∈ y.t.fr.dropLast ++ [f]:=hg
 rcases List.mem_append.1 hg with h1 | h1
 ·exact h g (List.dropLast_subset _ h1)
 ·rw [List.mem_singleton.1 h1];exact hf
theorem Zq6 {y:Run} {j:Int} {r:List Int} {g:Frm} (h:∀f ∈ y.t.fr,W87 f) (hj:¬ Ans j) (hg:g ∈ (y.push j r).t.fr):W87 g:=by
 have hg:g ∈ y.t.fr ++ [⟨j,0,pad 10 r⟩]:=hg
 rcases List.mem_append.1 hg with h1 | h1
 ·exact h g h1
 ·rw [List.mem_singleton.1 h1];exact ZB2 hj
theorem YD6 {t:Thr} (h:t.fr≠[]):t.top ∈ t.fr:=by
 have e:t.top=t.fr.getLast h:=by
  show t.fr.getLast?.getD dfF=_
  rw [List.getLast?_eq_some_getLast h]
  rfl
 rw [e]
 exact List.getLast_mem h
theorem Frs.same {x y z:Run} {q:Bool} (h:Frs x y q) (e:z.t.fr=y.t.fr):Frs x z q:=by
 have ef:z.f=y.f:=by show z.t.fr.getLast?.getD dfF=y.t.fr.getLast?.getD dfF;rw [e]
 exact ⟨by rw [e];exact h.a,by rw [e];exact h.b,by rw [e,ef];exact h.c⟩
theorem Frs.set {x y:Run} {f:Frm} (h:Frs x y false) (hf:W87 f) (e1:f.fn=y.f.fn) (e2:Ans x.f.fn->f.pc≠90):Frs x (y.setF f) false:=by
 obtain ⟨c1,c2,c3,c4⟩:=h.c rfl
 refine ⟨λg hg=>YD5 h.a hf hg,λfn ha hb=>(h.b fn ha hb).top c1 e1,λ_=>⟨Ws1 _ _,?_,?_,?_⟩⟩
 ·show (y.t.fr.dropLast ++ [f]).dropLast=_
  rw [List.dropLast_append_of_ne_nil (by simp)]
  simpa using c2
 ·rw [WU2,e1];exact c3
 ·rw [WU2];exact e2
theorem Frs.push {x y:Run} {q:Bool} {j:Int} {r:List Int} (ha:∀f ∈ y.t.fr,W87 f) (hb:∀fn,Ans fn->Bot fn x.t.fr->Bot fn y.t.fr) (hj:¬ Ans j):Frs x (y.push j r) true:=
 ⟨λg hg=>Zq6 ha hj hg,λfn a b=>(hb fn a b).app,λe=>by cases e⟩
theorem Frs.topFit {x y:Run} (h:Frs x y false):W87 y.f:=h.a _ (YD6 (h.c rfl).1)
theorem Mod.On.frs {x y:Run} {b q:Bool} (h:On x b q y) (hne:x.t.fr≠[]) (hA:∀f ∈ x.t.fr,W87 f) (hp:Ans x.f.fn->x.f.pc≠90):Frs x y q:=by
 induction h with
 | refl=>exact ⟨hA,λ_ _ h=>h,λ_=>⟨hne,rfl,rfl,hp⟩⟩
 | load _ ih=>exact ih.same rfl
 | store _ ha ih=>exact ih.same rfl
 | own _ ih=>exact ih.same rfl
 | cas _ ha ih=>exact ih.same rfl
 | add _ ha ih=>exact ih.same rfl
 | dcas _ ha hb ih=>exact ih.same rfl
 | dcss _ ha hb ih=>exact ih.same rfl
 | next _ ih=>exact ih.same rfl
 | lvl _ ih=>exact ih.same rfl
 | gh _ ih=>exact ih.same rfl
 | fo _ ih=>exact ih.same rfl
 | re _ ih=>exact ih.same rfl
 | setPl _ ih=>exact ih.same rfl
 | @s _ y i v _ ih=>
  have c4:=(ih.c rfl).2.2.2
  have c3:=(ih.c rfl).2.2.1
  refine ih.set (f:=y.f.s i v) ⟨by rw [Wj1];exact ih.topFit.len,λh1 h2=>?_⟩ rfl c4
  exact absurd h2 (c4 (by rw [<- c3];exact h1))
 | @pc _ y i _ hi ih=>
  have c3:=(ih.c rfl).2.2.1
  refine ih.set (f:=y.f.at i) ⟨ih.topFit.len,λh1 h2=>?_⟩ rfl hi
  exact absurd h2 (hi (by rw [<- c3];exact h1))
 | @call _ y i j r _ hi hj ih=>
  have c3:=(ih.c rfl).2.2.1
  have:=ih.set (f:=y.f.at i) ⟨ih.topFit.len,λh1 h2=>absurd h2 (hi (by rw [<- c3];exact h1))⟩ rfl hi
  exact Frs.push (q:=true) this.a this.b hj
 | @fin _ y i j k _ hf ih=>
  obtain ⟨c1,c2,c3,c4⟩:=ih.c rfl
  have l0:=ih.topFit.len
  have e:y.fin i j k=(y.setF ((((y.f.s 7 i).s 8 j).s 9 k).at 90)).push 4 []:=by
   unfold Run.fin Run.call Run.pc
   rw [f_s,f_s,f_s]
   unfold Run.s Run.setF Thr.setTop
   simp
  rw [e]
  have l1:(y.f.s 7 i).r.length=10:=by rw [Wj1];exact l0
  have l2:((y.f.s 7 i).s 8 j).r.length=10:=by rw [Wj1];exact l1
  have g9:(((y.f.s 7 i).s 8 j).s 9 k).g 9=k:=g_s l2 (by decide) k
  have g8:(((y.f.s 7 i).s 8 j).s 9 k).g 8=j:=(Wa7 _ (by decide) k).trans (g_s l1 (by decide) j)
  have g7:(((y.f.s 7 i).s 8 j).s 9 k).g 7=i:=((Wa7 _ (by decide) k).trans (Wa7 _ (by decide) j)).trans (g_s l0 (by decide) i)
  refine Frs.push (q:=true) (λg hg=>YD5 ih.a ⟨by rw [Wh4,Wj1];exact l2,λh1 _=>?_⟩ hg) (λfn a b=>(ih.b fn a b).top c1 rfl) (by unfold Ans;omega)
  have h2:Ans x.f.fn:=by rw [<- c3];exact h1
  show Fit y.f.fn ((((y.f.s 7 i).s 8 j).s 9 k).g 7) ((((y.f.s 7 i).s 8 j).s 9 k).g 8) ((((y.f.s 7 i).s 8 j).s 9 k).g 9)
  rw [g7,g8,g9,c3]
  exact hf h2
 | @pop _ y r _ hn ih=>
  obtain ⟨c1,c2,c3,c4⟩:=ih.c rfl
  have e:(y.pop r).t.fr=y.t.fr.dropLast:=by
   show (y.t.pop r).fr=_
   unfold Thr.pop
   rw [if_neg c1]
  refine ⟨λg hg=>ih.a g (List.dropLast_subset _ (by rw [<- e];exact hg)),λfn a hb=>?_,λe=>by cases e⟩
  rw [e,c2]
  obtain ⟨f,l,e1,e2⟩:=hb
  cases l with
  | nil=>
   exfalso
   have:x.f=f:=by show x.t.fr.getLast?.getD dfF=f;rw [e1];rfl
   rw [this,e2] at hn
   exact hn a
  | cons g l=>exact ⟨f,(g :: l).dropLast,by rw [e1];rfl,e2⟩
 | push _ hj ih=>exact Frs.push (q:=true) ih.a ih.b hj
theorem ZR8 (a b c:Int):pad 3 [a,b,c] = [a,b,c]:=rfl
theorem Mod.Bit.frs {x y:Run} (h:Bit x y) (hne:x.t.fr≠[]) (hA:∀f ∈ x.t.fr,W87 f) :
  (∀f ∈ y.t.fr,W87 f)/\∀fn,Ans fn->Bot fn x.t.fr->Bot fn y.t.fr\/y.t.fr = []/\Fit fn (y.t.ret.getD 0 0) (y.t.ret.getD 1 0) (y.t.ret.getD 2 0):=by
 rcases h with ⟨h1,h2,rfl⟩ | ⟨h1,b,q,h2⟩
 ·have e:(x.pop [x.f.g 7,x.f.g 8,x.f.g 9]).t = { x.t with fr:=x.t.fr.dropLast,ret:=[x.f.g 7,x.f.g 8,x.f.g 9] }:=by
   show x.t.pop _=_
   unfold Thr.pop
   rw [if_neg hne,ZR8]
  rw [e]
  refine ⟨λf hf=>hA f (List.dropLast_subset _ hf),λfn ha hb=>?_⟩
  obtain ⟨f,l,e1,e2⟩:=hb
  cases l with
  | nil=>
   have e3:x.f=f:=by show x.t.fr.getLast?.getD dfF=f;rw [e1];rfl
   have:=(hA _ (YD6 hne)).a h1 h2
   rw [show x.t.top=f from e3,e2] at this
   refine .inr ⟨by show x.t.fr.dropLast = [];rw [e1];rfl,?_⟩
   show Fit fn (x.f.g 7) (x.f.g 8) (x.f.g 9)
   rw [e3]
   exact this
  | cons g l=>exact .inl ⟨f,(g :: l).dropLast,by show x.t.fr.dropLast=_;rw [e1];rfl,e2⟩
 ·have f:=h2.frs hne hA h1
  exact ⟨f.a,λfn a b=>.inl (f.b fn a b)⟩
theorem Mod.Bit.mm {x y:Run} (h:Bit x y):Mo1 x y false\/Mo1 x y true:=by
 rcases h with ⟨h1,h2,rfl⟩ | ⟨h1,b,q,h2⟩
 ·exact .inl ⟨λ_=>⟨rfl,rfl⟩,λe=>by cases e⟩
 ·cases b
  ·exact .inl h2.mm
  ·exact .inr h2.mm
def W88 (d:Run->Run) (Q:Mod.Cf->Frm->Prop):Prop:=∀c x,AllF (Q c) x->x.t.fr≠[]->Bit x (d x)
theorem Yj3:W88 Wh5 MoQ:=λc x h hne=>by
 refine Yv9 ?_ hne
 have o:WA3 _ _ x.f:=h.top hne
 unfold WA3 Wx8 at o
 omega
theorem Yw1:W88 Wi0 SuQ:=λc x h hne=>by
 refine W85 ?_ hne
 have o:Wl9 _ _ _ x.f:=h.top hne
 unfold Wl9 Wx8 at o
 omega
theorem YQ9:W88 Wl2 LnQ:=λc x h hne=>by
 refine Yj1 ?_ hne
 have o:Wn7 _ _ _ x.f:=h.top hne
 unfold Wn7 Wx8 at o
 omega
section
variable {d:Run->Run} {Q:Mod.Cf->Frm->Prop} {W:Run->Prop} {ins:Int} {c:Mod.Cf}
theorem WK6 {x z:Run} {n:Nat} (h:Mod.bits d n x=some z) (hs:x.m.acted=true\/x.t.fr = []):z=x:=by
 have e:(x.m.acted || x.t.fr.isEmpty)=true:=by
  rcases hs with h | h <;> simp [h]
 cases n <;> (unfold Mod.bits at h;rw [if_pos e] at h;cases h;rfl)
structure Stp (p:Pl) (x z:Run):Prop where
 one:One p x.id x.m.mm z.m.mm
 all:∀f ∈ z.t.fr,W87 f
 bot:∀fn,Ans fn->Bot fn x.t.fr->Bot fn z.t.fr\/z.t.fr = []/\Fit fn (z.t.ret.getD 0 0) (z.t.ret.getD 1 0) (z.t.ret.getD 2 0)
theorem YD7 (D:YL8 d Q W ins) (hB:W88 d Q) (hc:okC c=true):∀(n:Nat) (x z:Run),Mod.bits d n x=some z->x.m.acted=false->AllF (Q c) x->x.m.p=Wb9 c->(∀f ∈ x.t.fr,W87 f)->Stp (Wb9 c) x z
 | 0,x,z,h,ha,hQ,hp,hF=>by
  have hs:x.t.fr = []:=by
   unfold Mod.bits at h
   split at h
   ·rename_i c;rw [ha] at c;simpa using c
   ·cases h
  have:=WK6 h (.inr hs)
  subst this
  exact ⟨One.refl _ _ _,hF,λ_ _ h=>.inl h⟩
 | n+1,x,z,h,ha,hQ,hp,hF=>by
  by_cases hs:x.t.fr = []
  ·have:=WK6 h (.inr hs)
   subst this
   exact ⟨One.refl _ _ _,hF,λ_ _ h=>.inl h⟩
  have h:Mod.bits d n (d x)=some z:=by
   unfold Mod.bits at h
   rwa [if_neg (by rw [ha];simpa using hs)] at h
  have b:=hB c x hQ hs
  have f:=b.frs hs hF
  have fx:=(D.st x).fix
  have Q2:=D.all c x hc hp hs hQ
  by_cases hac:(d x).m.acted=true
  ·have:=WK6 h (.inl hac)
   subst this
   refine ⟨?_,f.1,f.2⟩
   rcases b.mm with m | m
   ·rw [(m.f rfl).2,ha] at hac;cases hac
   ·have:=(m.t rfl).2;rwa [hp] at this
  ·have hac:(d x).m.acted=false:=by simpa using hac
   have em:(d x).m.mm=x.m.mm:=by
    rcases b.mm with m | m
    ·exact (m.f rfl).1
    ·rw [(m.t rfl).1] at hac;cases hac
   have ih:=YD7 D hB hc n (d x) z h hac Q2 (fx.p.trans hp) f.1
   refine ⟨by have:=ih.one;rwa [fx.id,em] at this,ih.all,λfn a b1=>?_⟩
   rcases f.2 fn a b1 with b2 | ⟨b2,b3⟩
   ·exact ih.bot fn a b2
   ·have:=WK6 h (.inr b2)
    subst this
    exact .inr ⟨b2,b3⟩
theorem YD8 (D:YL8 d Q W ins) (hB:W88 d Q) {i n k:Nat} {m:Mac} {t:Thr} {z:Run} (h:MacOk Q c i m) (ht:m.th[k]? = some t) (hF:∀f ∈ t.fr,W87 f) (hz:Mod.bits d n ⟨m.quiet,t,k⟩=some z):Stp (Wb9 c) ⟨m.quiet,t,k⟩ z:=
 YD7 D hB h.ok n _ z hz rfl ⟨(h.t t (List.mem_of_getElem? ht)).q⟩ h.p hF
end
end
section
set_option maxHeartbeats 1000000
open Mod
section
variable {d:Run->Run} {Q:Mod.Cf->Frm->Prop} {W:Run->Prop} {ins:Int} {c:Mod.Cf} {calls:List (List Cl)} {s:RnSt} {Inv:Nat->Mac->Prop}
theorem ZJ0 {l:List Int} {k:Nat} (hk:k < calls.length) (hq:(l.getD k 0).toNat < (calls.getD k []).length) (hn:∀k,k < calls.length->0<=l.getD k 0/\l.getD k 0<=(calls.getD k []).length):∀k',k' < calls.length->0<=(l.set k (l.getD k 0+1)).getD k' 0/\(l.set k (l.getD k 0+1)).getD k' 0<=(calls.getD k' []).length:=by
 intro k' hk'
 have:=hn k' hk'
 by_cases ek:k=k'
 ·subst ek
  rw [List.getD_eq_getElem?_getD (l:=l.set k _),List.getElem?_set]
  split
  ·split
   ·simp only [Option.getD_some];omega
   ·simp only [Option.getD_none];omega
  ·rename_i hh;exact absurd rfl hh
 ·rw [List.getD_eq_getElem?_getD,List.getElem?_set_ne ek,<- List.getD_eq_getElem?_getD]
  exact this
end
end
end Go.Proofs.YtahpbclnkofhfaaGreat
section
namespace Go.Proofs.YtahpbclnkofhfaaGreat.Mod
def Mm.uw (m:Mm):Mm:={ m with wt:=false,lg:=[] }
def Mac.uw (m:Mac):Mac:={ m with g:=none,mm:=m.mm.uw }
def Run.uw (x:Run):Run:={ x with m:=x.m.uw }
section
variable (x:Run)
end
end Go.Proofs.YtahpbclnkofhfaaGreat.Mod
end
namespace Go.Proofs.YtahpbclnkofhfaaGreat
section
set_option maxHeartbeats 1000000
open Mod
def Mod.Pl.whr (p:Pl) (a:Int):Int × Int × Int:=
 if a < 0\/p.size<=a then (5,0,0) else if a < p.hazards then (0,a,0) else if a < p.links then (1,(a - p.hazards) / p.slots,(a - p.hazards) % p.slots)
 else if a < p.nodes then (2,a - p.links+1,0) else if a < p.tree then (3,(a - p.nodes) / p.width+1,(a - p.nodes) % p.width) else (4,a - p.tree,0)
structure TSt where
 th:Int
 kind:Int
 done:Bool
 w1:Int × Int × Int
 w2:Int × Int × Int
def tsc (x:TSt):List Value:=[iQ x.th,iQ x.kind,.bool x.done,iQ x.w1.1,iQ x.w1.2.1,iQ x.w1.2.2,iQ x.w2.1,iQ x.w2.2.1,iQ x.w2.2.2]
theorem ZB3 (x:TSt):(tsc x).length=9:=rfl
def Wk8 (p:Pl) (k:Int) (a:Acc):TSt:=⟨k,a.kind,a.done,p.whr a.a,p.whr a.b⟩
structure TrS where
 m:Mac
 nx:List Int
 l:List TSt
def TrS.note (s:TrS) (k:Int):TrS:={ s with l:=s.l ++ (s.m.mm.lg.drop s.l.length).map (Wk8 s.m.p k) }
def TrS.enter (ins:Int) (calls:List (List Cl)) (s:TrS) (k:Nat):Option TrS:=
 if (We8 s.m k).fr = [] then
  if (calls.getD k []).length<=(s.nx.getD k 0).toNat then none
  else some { s with m:=s.m.setTh (s.m.th.set k ((We8 s.m k).push (ins+((calls.getD k []).getD (s.nx.getD k 0).toNat cl0).op) [((calls.getD k []).getD (s.nx.getD k 0).toNat cl0).key,((calls.getD k []).getD (s.nx.getD k 0).toNat cl0).val])),nx:=s.nx.set k (s.nx.getD k 0+1) }
 else some s
noncomputable def TrS.go (d:Run->Run) (s:TrS) (k:Nat):TrS:={ s with m:=(Wx6 d ⟨s.m.quiet,We8 s.m k,k⟩).m.setTh (s.m.th.set k (Wx6 d ⟨s.m.quiet,We8 s.m k,k⟩).t) }
noncomputable def TrS.pick (d:Run->Run) (ins:Int) (calls:List (List Cl)) (s:TrS) (k:Int):TrS:=match s.enter ins calls k.toNat with
 | none=>s
 | some s1=>s1.go d k.toNat
noncomputable def Zc2 (d:Run->Run) (ins:Int) (calls:List (List Cl)) (m:Mac) (Wc3:List Int):TrS:=Wc3.foldl (λs k=>(s.pick d ins calls k).note k) ⟨m,List.replicate calls.length 0,[]⟩
structure TrOk (Inv:Nat->Mac->Prop) (calls:List (List Cl)) (j:Nat) (s:TrS):Prop where
 inv:Inv j s.m
 th:s.m.th.length=calls.length
 nx:∀k,k < calls.length->0<=s.nx.getD k 0/\s.nx.getD k 0<=(calls.getD k []).length
def ZQ9 (p:Pl) (n:Nat) (x:TSt):Prop:=∃e,Zc1 p x.th n e/\x=Wk8 p x.th e
structure TrFit (c:Mod.Cf) (s:TrS):Prop where
 all:∀(k:Nat) t,s.m.th[k]? = some t->∀f ∈ t.fr,W87 f
 wt:s.m.mm.wt=true
 lg:s.m.mm.lg.length=s.l.length
 en:∀x ∈ s.l,ZQ9 (Wb9 c) (Wb9 c).size.toNat x
section
variable {d:Run->Run} {Q:Mod.Cf->Frm->Prop} {W:Run->Prop} {ins:Int} {c:Mod.Cf} {calls:List (List Cl)} {s:TrS}
structure ZB4 (calls:List (List Cl)) (Inv:Nat->Mac->Prop) (j k:Nat) (s s1:TrS):Prop where
 inv:Inv j s1.m
 th:s1.m.th.length=calls.length
 nx:∀k,k < calls.length->0<=s1.nx.getD k 0/\s1.nx.getD k 0<=(calls.getD k []).length
 l:s1.l=s.l
 mm:s1.m.mm=s.m.mm
 ne:(We8 s1.m k).fr≠[]
 all:∀(k:Nat) t,s1.m.th[k]? = some t->∀f ∈ t.fr,W87 f
theorem ZJ1 {Inv:Nat->Mac->Prop} (G:Zj7 d W ins Inv) (C:WW9 calls) {j k:Nat} (hk:k < calls.length) (O:TrOk Inv calls j s) (F:TrFit c s) :
  s.pick d ins calls k=s\/∃s1,s.pick d ins calls k=s1.go d k/\ZB4 calls Inv j k s s1:=by
 have hk2:k < s.m.th.length:=by rw [O.th];exact hk
 have ht:=Wl4 hk2
 unfold TrS.pick TrS.enter
 rw [Int.toNat_natCast]
 by_cases he:(We8 s.m k).fr = []
 ·rw [if_pos he]
  by_cases hlt:(calls.getD k []).length<=(s.nx.getD k 0).toNat
  ·rw [if_pos hlt]
   exact .inl rfl
  rw [if_neg hlt]
  refine .inr ⟨_,rfl,?_⟩
  have hmem:calls.getD k [] ∈ calls:=by
   have:calls.getD k []=calls[k]:=by rw [List.getD_eq_getElem?_getD,List.getElem?_eq_getElem hk];rfl
   rw [this];exact List.getElem_mem hk
  have hqlt:(s.nx.getD k 0).toNat < (calls.getD k []).length:=by omega
  have hcq:(calls.getD k []).getD (s.nx.getD k 0).toNat cl0=(calls.getD k [])[(s.nx.getD k 0).toNat]:=by rw [List.getD_eq_getElem?_getD,List.getElem?_eq_getElem hqlt];rfl
  have hcB:=(C.cl _ hmem).2 _ (List.getElem_mem hqlt)
  rw [<- hcq] at hcB
  generalize (calls.getD k []).getD (s.nx.getD k 0).toNat cl0=cq at *
  refine ⟨G.push j s.m k _ cq O.inv ht he (Y62 hcB.1) hcB.2.1 hcB.2.2,?_,ZJ0 hk hqlt O.nx,rfl,rfl,?_,?_⟩
  ·show (s.m.th.set k _).length=_
   rw [List.length_set];exact O.th
  ·show (We8 (s.m.setTh _) k).fr≠[]
   rw [WW6 hk2]
   unfold Mod.Thr.push
   simp
  ·intro k' t h f hf
   have h:(s.m.th.set k ((We8 s.m k).push (ins+cq.op) [cq.key,cq.val]))[k']? = some t:=h
   rw [List.getElem?_set] at h
   split at h
   ·try rw [if_pos (by omega)] at h
    have h:=Option.some.inj h
    subst h
    have hf:f ∈ (We8 s.m k).fr ++ [⟨ins+cq.op,0,pad 10 [cq.key,cq.val]⟩]:=hf
    rw [he] at hf
    rw [List.mem_singleton.1 hf]
    exact ⟨Wy9 _ _,λ_ h=>by cases h⟩
   ·exact F.all k' t h f hf
 ·rw [if_neg he]
  exact .inr ⟨s,rfl,O.inv,O.th,O.nx,rfl,rfl,he,F.all⟩
structure TrR (c:Mod.Cf) (k:Int) (s t:TrS):Prop where
 a:t.l=s.l/\t.m.mm.st=s.m.mm.st\/t.m.mm.st=s.m.mm.st+1/\∃e,Zc1 (Wb9 c) k (Wb9 c).size.toNat e/\t.l=s.l ++ [Wk8 (Wb9 c) k e]
theorem ZB5 (D:YL8 d Q W ins) (hB:W88 d Q) (C:WW9 calls) {j k:Nat} (hk:k < calls.length) (hj:j < 100000) (O:TrOk (MacOk Q c) calls j s) (F:TrFit c s) :
  TrOk (MacOk Q c) calls (j+1) ((s.pick d ins calls k).note k)/\TrFit c ((s.pick d ins calls k).note k)/\TrR c k s ((s.pick d ins calls k).note k):=by
 have G:=MacOk.good (c:=c) D
 have hno:s.note k=s:=by
  unfold TrS.note
  rw [List.drop_eq_nil_of_le (by rw [F.lg];exact Nat.le_refl _),List.map_nil,List.append_nil]
 rcases ZJ1 G C hk O F with e | ⟨s1,e,B⟩
 ·rw [e,hno]
  exact ⟨⟨G.mono _ _ O.inv,O.th,O.nx⟩,F,⟨.inl ⟨rfl,rfl⟩⟩⟩
 rw [e]
 have hk3:k < s1.m.th.length:=by rw [B.th];exact hk
 have ht:=Wl4 hk3
 obtain ⟨nn,z,hz,_,_,hzt,hI2⟩:=G.step j s1.m k _ B.inv hj ht B.ne
 have hzs:Wx6 d ⟨s1.m.quiet,We8 s1.m k,k⟩=z:=WQ2 hz
 have S:=YD8 D hB B.inv ht (B.all k _ ht) hz
 have o:=S.one
 have e2:(⟨s1.m.quiet,We8 s1.m k,(k:Int)⟩ : Run).m.mm=s.m.mm:=B.mm
 rw [e2] at o
 have hw:(s.m.mm.w.length:Int)=(Wb9 c).size:=O.inv.w
 have hwn:s.m.mm.w.length=(Wb9 c).size.toNat:=by omega
 have hp:z.m.p=Wb9 c:=hI2.p
 have hgo:s1.go d k = { s1 with m:=z.m.setTh (s1.m.th.set k z.t) }:=by
  unfold TrS.go
  rw [hzs]
 have hall:∀(k':Nat) t,(s1.m.th.set k z.t)[k']? = some t->∀f ∈ t.fr,W87 f:=by
  intro k' t h
  rw [List.getElem?_set] at h
  split at h
  ·try rw [if_pos (by omega)] at h
   have h:=Option.some.inj h
   subst h
   exact S.all
  ·exact B.all k' t h
 have ht2:(s1.m.th.set k z.t).length=calls.length:=by rw [List.length_set];exact B.th
 rw [hgo]
 refine ⟨⟨hI2,ht2,B.nx⟩,?_⟩
 rcases o.st with ⟨q1,q2⟩ | ⟨q1,a,q2,q3⟩
 ·have en:(TrS.note { s1 with m:=z.m.setTh (s1.m.th.set k z.t) } k).l=s.l:=by
   show s1.l ++ (z.m.mm.lg.drop s1.l.length).map _=_
   rw [B.l,q2,List.drop_eq_nil_of_le (by rw [F.lg];exact Nat.le_refl _),List.map_nil,List.append_nil]
  refine ⟨⟨hall,o.wt.trans F.wt,?_,?_⟩,⟨.inl ⟨en,q1⟩⟩⟩
  ·rw [en]
   show z.m.mm.lg.length=_
   rw [q2];exact F.lg
  ·rw [en];exact F.en
 ·rw [hwn] at q2
  rw [F.wt,if_pos rfl] at q3
  have en:(TrS.note { s1 with m:=z.m.setTh (s1.m.th.set k z.t) } k).l=s.l ++ [Wk8 (Wb9 c) k a]:=by
   show s1.l ++ (z.m.mm.lg.drop s1.l.length).map (Wk8 z.m.p k)=_
   rw [B.l,q3,hp,<- F.lg,List.drop_left]
   rfl
  refine ⟨⟨hall,o.wt.trans F.wt,?_,?_⟩,⟨.inr ⟨q1,a,q2,en⟩⟩⟩
  ·rw [en]
   show z.m.mm.lg.length=_
   rw [q3,List.length_append,List.length_append,F.lg]
   rfl
  ·rw [en]
   intro x hx
   rcases List.mem_append.1 hx with h | h
   ·exact F.en x h
   ·rw [List.mem_singleton.1 h]
    exact ⟨a,q2,rfl⟩
end
end
section
set_option maxRecDepth 100000
def F38 (K:kQ) (h:Wa2) (xa:Option Addr) (xb:Bool):Prop:=
 (ifB (!(Option.isNone xa)) (nP xa λa=>stH h (Addr.add a 2) (.bool xb) λa=>K (.tuple #[]) a) (K (.tuple #[]) h))
theorem call38 {K:kQ} {h:Wa2} {xa:Option Addr} {xb:Bool} (H:F38 K h xa xb):Wa5 Tryz.prog 38 #[(.pointer xa),(.bool xb)] h K:=
 cQ Tryz.func38 H
def F78 (K:kQ) (h:Wa2) (xa:Option Addr):Prop:=
 (ifB (Option.isNone xa) (K (.slice none 0 0) h) (nP xa λa=>lS h (Addr.add a 3) λa b c=>cf 131 #[.slice a b c] h λa b=>Wb3 a λa c d=>K (.slice a c d) b))
theorem call78 {K:kQ} {h:Wa2} {xa:Option Addr} (H:F78 K h xa):Wa5 Tryz.prog 78 #[(.pointer xa)] h K:=
 cQ Tryz.func78 H
end
section
set_option maxHeartbeats 1000000
open Mod
theorem YR0 {K:kQ} {h:Wa2} {p:Pl} {a:Int} (B:PlB p) (ha:iN a) (k:∀h',Old h.size h h'->K (.tuple #[iQ (p.whr a).1,iQ (p.whr a).2.1,iQ (p.whr a).2.2]) h'):Wa5 Tryz.prog 80 #[plV p,iQ a] h K:=by
 refine call80 ?_
 unfold F80 g80 lI
 have b0:=B.sl
 have b1:=B.wi
 have b2:=B.hz
 have b3:=B.tr
 have b4:=B.nd
 have b5:=B.li
 have b6:=B.si
 unfold Mod.Pl.whr at k
 rw [WT6]
 have p1:=Wf2 h (plc p).toArray 117
 generalize h.push (.cells (plc p).toArray 117)=h1 at *
 have o1:=p1.toOld
 refine ⟨λvs h'=>(∃w,vs = [.bool (decide (a < 0) || decide (a >= p.size)),w])/\h' = h1,?_,?_⟩
 ·refine Wa3 (λq=>⟨⟨_,by rw [decide_eq_true q];rfl⟩,by trivial⟩) (λq=>?_)
  refine ldR p1.new rfl ?_
  simp only [Wa4]
  exact ⟨⟨_,by rw [decide_eq_false q,Bool.false_or]⟩,by trivial⟩
 rintro v3 v4 g5 h6 ⟨⟨_,e⟩,rfl⟩
 cases e
 simp only [Wa9]
 refine Wb6 (λq=>?_) (λq=>?_)
 ·rw [Bool.or_eq_true,decide_eq_true_eq,decide_eq_true_eq] at q
  rw [if_pos (by omega)] at k
  exact k _ o1
 rw [Bool.or_eq_false_iff,decide_eq_false_iff_not,decide_eq_false_iff_not] at q
 rw [if_neg (by omega)] at k
 refine ldR p1.new rfl ?_
 simp only [Wa4]
 refine Wa3 (λq1=>?_) (λq1=>?_)
 ·rw [if_pos (by omega)] at k
  exact k _ o1
 rw [if_neg (by omega)] at k
 refine ldR p1.new rfl ?_
 simp only [Wa4]
 refine Wa3 (λq2=>?_) (λq2=>?_)
 ·rw [if_pos q2] at k
  refine ldR p1.new rfl ?_
  simp only [Wa4]
  refine ldR p1.new rfl ?_
  simp only [Wa4]
  refine ⟨by omega,ldR p1.new rfl ?_⟩
  simp only [Wa4]
  refine ldR p1.new rfl ?_
  simp only [Wa4]
  refine ⟨by omega,?_⟩
  have hd0:0<=(a - p.hazards) / p.slots:=Int.ediv_nonneg (by omega) (by omega)
  have hd1:(a - p.hazards) / p.slots<=a - p.hazards:=Int.ediv_le_self _ (by omega)
  rw [Wb5 (n:=a - p.hazards) (by omega) (by omega),Int.tdiv_eq_ediv_of_nonneg (by omega),Wb5 (n:=(a - p.hazards) / p.slots) (by omega) (by omega),Int.tmod_eq_emod_of_nonneg (by omega)]
  exact k _ o1
 rw [if_neg q2] at k
 refine ldR p1.new rfl ?_
 simp only [Wa4]
 refine Wa3 (λq3=>?_) (λq3=>?_)
 ·rw [if_pos q3] at k
  refine ldR p1.new rfl ?_
  simp only [Wa4]
  rw [Wb5 (n:=a - p.links) (by omega) (by omega),Wb5 (n:=a - p.links+1) (by omega) (by omega)]
  exact k _ o1
 rw [if_neg q3] at k
 refine ldR p1.new rfl ?_
 simp only [Wa4]
 refine Wa3 (λq4=>?_) (λq4=>?_)
 ·rw [if_pos q4] at k
  refine ldR p1.new rfl ?_
  simp only [Wa4]
  refine ldR p1.new rfl ?_
  simp only [Wa4]
  refine ⟨by omega,ldR p1.new rfl ?_⟩
  simp only [Wa4]
  refine ldR p1.new rfl ?_
  simp only [Wa4]
  refine ⟨by omega,?_⟩
  have hd0:0<=(a - p.nodes) / p.width:=Int.ediv_nonneg (by omega) (by omega)
  have hd1:(a - p.nodes) / p.width<=a - p.nodes:=Int.ediv_le_self _ (by omega)
  rw [Wb5 (n:=a - p.nodes) (by omega) (by omega),Int.tdiv_eq_ediv_of_nonneg (by omega),Wb5 (n:=(a - p.nodes) / p.width) (by omega) (by omega),Wb5 (n:=(a - p.nodes) / p.width+1) (by omega) (by omega),Int.tmod_eq_emod_of_nonneg (by omega)]
  exact k _ o1
 ·rw [if_neg q4] at k
  refine ldR p1.new rfl ?_
  simp only [Wa4]
  rw [Wb5 (by omega) (by omega)]
  exact k _ o1
abbrev trC (X:RX) (la:Option Addr) (ln lc:Nat):List Value:=[mP X.Q,iQ X.c.algo,iQ X.c.threads,iQ X.c.nodes,iQ X.c.level,iQ X.c.batch,iQ X.c.probes,iQ X.c.scan,.slice X.ca X.cl X.cc,.slice X.pa X.pl X.pc,.slice X.da X.dl X.dc,.slice (some ⟨X.NB,0,none⟩) X.n X.n,.slice la ln lc]
def trS (X:RX) (s:TrS):Hp:=ex λla=>ex λlc=>pr (s.nx.length=X.n)
 (pt X.RB (.cells (trC X la s.l.length lc).toArray 89)*(Wf1 51 9 la s.l.length lc (s.l.flatMap tsc)*(pt X.NB (.cells (s.nx.map iv).toArray 3)*suS X.Q X.M X.f X.ins X.Ts s.m)))
theorem Ww5 {h:Wa2} {X:RX} {s:TrS} {R:Hp}:Sat h (trS X s*R)↔∃la lc,s.nx.length=X.n /\
  Sat h (pt X.RB (.cells (trC X la s.l.length lc).toArray 89)*(Wf1 51 9 la s.l.length lc (s.l.flatMap tsc)*(pt X.NB (.cells (s.nx.map iv).toArray 3)*(suS X.Q X.M X.f X.ins X.Ts s.m*R)))):=by
 unfold trS
 simp only [Sat.ex,Sat.pr,Wc7]
theorem ZJ2:und Tryz.prog 47=.slice 51:=by kernel_rfl
theorem Zq7:Wf4 Tryz.prog 51=true:=by kernel_rfl
theorem ZJ3:zer Tryz.prog 51=some (.agg #[iQ 0,iQ 0,.bool false,iQ 0,iQ 0,iQ 0,iQ 0,iQ 0,iQ 0]):=by kernel_rfl
theorem YD9:siz Tryz.prog 51=9:=by kernel_rfl
theorem Zu0:byt Tryz.prog 51=72:=by kernel_rfl
theorem ZJ4:und Tryz.prog 124=.slice 144:=by kernel_rfl
theorem Zq8:Wf4 Tryz.prog 144=true:=by kernel_rfl
theorem ZJ5:zer Tryz.prog 144=some (.agg #[iQ 0,iQ 0,iQ 0,.bool false]):=by kernel_rfl
theorem Zc3:siz Tryz.prog 144=4:=by kernel_rfl
theorem Zu1:byt Tryz.prog 144=32:=by kernel_rfl
section
variable {K:kQ} {h:Wa2} {X:RX} {s:TrS} {R:Hp} {calls:List (List Cl)} {Wc3:List Int}
theorem Zu2 (H:Sat h (trS X s*R)) {k:Nat} (hk:k < X.n):Wa1 h ⟨X.NB,k,none⟩=some (iQ (s.nx.getD k 0)):=by
 obtain ⟨la,lc,hl,H1⟩:=Ww5.1 H
 have hk2:k < s.nx.length:=by omega
 rw [Wc1 (H1.drop.drop).at]
 simp [hk2,iv]
theorem Zq9 (H:Sat h (trS X s*R)) {k:Nat} (hk:k < X.n) {v:Int} {F:Wa2->Prop} (kk:∀h',Sat h' (trS X { s with nx:=s.nx.set k v }*R)->F h'):stH h ⟨X.NB,k,none⟩ (iQ v) F:=by
 obtain ⟨la,lc,hl,H1⟩:=Ww5.1 H
 have hk2:k < s.nx.length:=by omega
 rw [Yz9] at H1
 refine WC4 (row:=s.nx.map iv) (i:=k) H1 (by simpa using hk2) trivial λh' H'=>kk h' ?_
 have e:(s.nx.map iv).set k (iQ v)=(s.nx.set k v).map iv:=by rw [List.map_set];try rfl
 rw [e,<- Yz9] at H'
 exact Ww5.2 ⟨la,lc,by simp [hl],H'⟩
theorem WX8 (H:Sat h (trS X s*R)):∃la lc,h[X.RB]? = some (.cells (trC X la s.l.length lc).toArray 89):=by
 obtain ⟨la,lc,hl,H1⟩:=Ww5.1 H
 exact ⟨la,lc,H1.at⟩
theorem YE0 (H:Sat h (trS X s*R)):∃Q':Hp,Sat h (suS X.Q X.M X.f X.ins X.Ts s.m*(Q' * R))/\∀h' m' P,Sat h' (suS X.Q X.M X.f X.ins X.Ts m' * (Q' * P))->Sat h' (trS X { s with m:=m' }*P):=by
 obtain ⟨la,lc,hl,H1⟩:=Ww5.1 H
 refine ⟨pt X.RB (.cells (trC X la s.l.length lc).toArray 89)*(Wf1 51 9 la s.l.length lc (s.l.flatMap tsc)*pt X.NB (.cells (s.nx.map iv).toArray 3)),Sat.ac H1 (by ac_rfl),λh' m' P H'=>?_⟩
 exact Ww5.2 ⟨la,lc,hl,Sat.ac H' (by ac_rfl)⟩
theorem Yj4 {a:Option Addr} {n c:Nat} {lg:List Acc} (hs:Sees h a (lg.flatMap WZ6)) (hn:lg.length=n) (h0:a=none->n=0) (hb:n<=1000000) (k:∀h' a' c',Old h.size h h'->(∀P:Hp,Sat h P->Sat h' (Wf1 144 4 a' n c' (lg.flatMap WZ6)*P))->K (.slice a' n c') h') :
  Wa5 Tryz.prog 131 #[.slice a n c] h K:=by
 refine call131 ?_
 unfold F131
 refine Wb6 (λhh=>?_) (λhh=>?_)
 ·have ea:a=none:=by cases a with | none=>rfl | some x=>cases hh
  have hn0:=h0 ea
  subst hn0
  have e0:lg = []:=List.length_eq_zero_iff.1 hn
  subst e0
  exact k h none 0 (Old.refl _ _) λP HP=>HP.own_new 144 4
 ·have o1:Old h.size h (h.push (.cells #[] 144)):=(Old.refl _ _).push _ (Nat.le_refl _)
  have hs1:=hs.old o1
  have ow:Own (h.push (.cells #[] 144)) 144 (siz Tryz.prog 144) (some (aQ h.size)) 0 0 []:=⟨by simp,Nat.le_refl _,.inr ⟨h.size,#[],rfl,by simp,by simp,by simp⟩⟩
  have sz:(h.push (.cells #[] 144)).size=h.size+1:=by simp
  generalize h.push (.cells #[] 144)=h1 at *
  refine WI9 ZJ4 Zq8 ZJ5 (by rw [Zc3];rfl) ow hs1 (n:=n) (by rw [Zc3,WJ2 W56,hn]) (λy hy=>?_) (by rw [Zu1];omega) (by rw [Zu1];omega) λa' c' h2 o' hsz old ha=>?_
  ·obtain ⟨x,_,hx⟩:=List.mem_flatMap.1 hy
   simp only [WZ6,List.mem_cons,List.not_mem_nil,or_false] at hx
   rcases hx with rfl | rfl | rfl | rfl <;> trivial
  rw [Nat.zero_add] at o' ⊢
  try simp only [Wb8,bsx,Nat.reduceAdd,Int.reduceLE,Int.reduceLT,Int.reduceToNat]
  have o2:Old h.size h h2:=⟨by omega,λb hb=>(old b (by omega) λad ea=>by cases ea;exact λe=>by simp at e;omega).trans (o1.2 b hb)⟩
  have fb:∀b,blk a' b->h.size<=b:=by
   rintro b ⟨ad,e,rfl⟩
   rcases ha with ha | ⟨ha,_⟩
   ·rw [e] at ha;cases ha;exact Nat.le_refl _
   ·rw [e] at ha;cases ha;show h.size<=h1.size;omega
  rw [Zc3,List.nil_append] at o'
  exact k h2 a' c' o2 λP HP=>HP.mk_new o2 (λb hb=>⟨fb b hb,o'.lt2 hb⟩) o'.nd λh'' e=>o'.congr e
theorem Yw2 {q:Nat} {m:Mm} (H:Sat h (Wp2 q m*R)) (hb:m.lg.length<=1000000) (k:∀h' a c,Old h.size h h'->(∀P:Hp,Sat h P->Sat h' (Wf1 144 4 a m.lg.length c (m.lg.flatMap WZ6)*P))->K (.slice a m.lg.length c) h') :
  Wa5 Tryz.prog 78 #[mP q] h K:=by
 refine call78 ?_
 unfold F78 cf lS nP
 obtain ⟨b,la,lc,MB,H1⟩:=Wo7.1 H
 refine Wb6 (λhh=>by cases hh) (λ_=>?_)
 try simp only [Wb8,bsx,Nat.reduceAdd,Int.reduceLE,Int.reduceLT,Int.reduceToNat]
 refine H1.ld rfl ?_
 try simp only [Wb8,bsx,Nat.reduceAdd,Int.reduceLE,Int.reduceLT,Int.reduceToNat]
 have ow:=H1.drop.drop.own
 refine Wa0 (Yj4 ow.sees rfl (λe=>?_) hb λh2 a c o2 own=>?_)
 ·obtain ⟨_,h2,h3⟩:=ow
  rcases h3 with ⟨_,hc⟩ | ⟨b,row,e2,_⟩
  ·omega
  ·rw [e] at e2;cases e2
 ·try simp only [Wb8,bsx,Nat.reduceAdd,Int.reduceLE,Int.reduceLT,Int.reduceToNat]
  exact k h2 a c o2 own
theorem W89 {q:Nat} {m:Mm} {on:Bool} (H:Sat h (Wp2 q m*R)) (k:∀h',Sat h' (Wp2 q { m with wt:=on }*R)->K (.tuple #[]) h'):Wa5 Tryz.prog 38 #[mP q,.bool on] h K:=by
 refine call38 ?_
 unfold F38 nP
 obtain ⟨b,la,lc,MB,H1⟩:=Wo7.1 H
 refine Wb6 (λ_=>?_) (λhh=>by cases hh)
 try simp only [Wb8,bsx,Nat.reduceAdd,Int.reduceLE,Int.reduceLT,Int.reduceToNat]
 refine H1.st (i:=2) rfl trivial λh' H'=>k h' (Wo7.2 ⟨b,la,lc,⟨MB.len,MB.st,MB.lg,MB.us⟩,H'⟩)
def TrI (d:Run->Run) (X:RX) (R:Hp) (calls:List (List Cl)) (Inv:Nat->Mac->Prop) (j k:Nat) (s:TrS) (h':Wa2):Prop:=
 ∃s1:TrS,s.pick d X.ins calls k=s1.go d k/\Inv j s1.m/\s1.m.th.length=calls.length/\(∀k,k < calls.length->0<=s1.nx.getD k 0/\s1.nx.getD k 0<=(calls.getD k []).length)/\s1.l=s.l/\(We8 s1.m k).fr≠[]/\Sat h' (trS X s1*R)
variable {d:Run->Run} {W:Run->Prop} {Inv:Nat->Mac->Prop}
theorem Yw3 (D:DoC X.f d W) (G:Zj7 d W X.ins Inv) (C:WW9 calls) (hn:X.n=calls.length) (hins:0<=X.ins/\X.ins<=100) (H:Sat h (trS X s*R)) (hS:∀h' P,Sat h' (P*R)->ZL0 h' X.ca X.cl X.pa X.pl calls Wc3) {j k:Nat} (hk:k < calls.length) (hj:j < 100000) (O:TrOk Inv calls j s)
  (kk:∀h',TrOk Inv calls (j+1) (s.pick d X.ins calls k)->(s.pick d X.ins calls k).l=s.l->Sat h' (trS X (s.pick d X.ins calls k)*R)->K (.tuple #[]) h') :
  Wa5 Tryz.prog 39 #[mP X.RB,iQ k] h K:=by
 refine call39 ?_
 unfold F39 cf bd lS lP lI nP
 have hk2:k < s.m.th.length:=by rw [O.th];exact hk
 have hC:=C.n
 refine ⟨λ_ h'=>TrI d X R calls Inv j k s h',?_,?_⟩
 ·obtain ⟨la,lc,O1⟩:=WX8 H
  try simp only [Wb8,bsx,Nat.reduceAdd,Int.reduceLE,Int.reduceLT,Int.reduceToNat]
  refine ldR O1 rfl ?_
  try simp only [Wb8,bsx,Nat.reduceAdd,Int.reduceLE,Int.reduceLT,Int.reduceToNat]
  obtain ⟨Q',H2,re⟩:=YE0 H
  refine Wa0 (WH5 H2 hk2 ?_)
  try simp only [Wb8,bsx,Nat.reduceAdd,Int.reduceLE,Int.reduceLT,Int.reduceToNat]
  refine Wb6 (λhb=>?_) (λhb=>?_)
  ·have he:(We8 s.m k).fr = []:=List.isEmpty_iff.1 (by simpa using hb)
   have scr:∀ {h':Wa2} {P:Hp},Sat h' (P*R)->ZL0 h' X.ca X.cl X.pa X.pl calls Wc3:=λH'=>hS _ _ H'
   have F0:=scr H
   have hcs:=F0.cs
   have cN:=Zu2 H (k:=k) (by omega)
   have hnx:=O.nx k hk
   obtain ⟨ra,rc,⟨ad,ea2,hcr⟩,hrow⟩:=F0.row k hk
   refine ldR O1 rfl ?_
   try simp only [Wb8,bsx,Nat.reduceAdd,Int.reduceLE,Int.reduceLT,Int.reduceToNat]
   refine ⟨by omega,by omega,?_⟩
   refine Wb4 cN ?_
   try simp only [Wb8,bsx,Nat.reduceAdd,Int.reduceLE,Int.reduceLT,Int.reduceToNat]
   refine ldR O1 rfl ?_
   rw [ea2]
   try simp only [Wb8,bsx,Nat.reduceAdd,Int.reduceLE,Int.reduceLT,Int.reduceToNat]
   refine ⟨by omega,by omega,?_⟩
   refine Wb4 hcr ?_
   try simp only [Wb8,bsx,Nat.reduceAdd,Int.reduceLE,Int.reduceLT,Int.reduceToNat]
   refine Wa3 (λc1=>?_) (λc1=>?_)
   ·have e:s.pick d X.ins calls k=s:=by
     unfold TrS.pick TrS.enter
     rw [Int.toNat_natCast,if_pos he,if_pos (by omega)]
    rw [e] at kk
    exact kk h ⟨G.mono _ _ O.inv,O.th,O.nx⟩ rfl H
   refine ldR O1 rfl ?_
   try simp only [Wb8,bsx,Nat.reduceAdd,Int.reduceLE,Int.reduceLT,Int.reduceToNat]
   refine ldR O1 rfl ?_
   rw [ea2]
   try simp only [Wb8,bsx,Nat.reduceAdd,Int.reduceLE,Int.reduceLT,Int.reduceToNat]
   refine ⟨by omega,by omega,?_⟩
   refine Wb4 hcr ?_
   try simp only [Wb8,bsx,Nat.reduceAdd,Int.reduceLE,Int.reduceLT,Int.reduceToNat]
   refine ldR O1 rfl ?_
   try simp only [Wb8,bsx,Nat.reduceAdd,Int.reduceLE,Int.reduceLT,Int.reduceToNat]
   refine ⟨by omega,by omega,?_⟩
   refine Wb4 cN ?_
   try simp only [Wb8,bsx,Nat.reduceAdd,Int.reduceLE,Int.reduceLT,Int.reduceToNat]
   refine ⟨by omega,by omega,?_⟩
   generalize hq:(s.nx.getD k 0).toNat=q at *
   have hqlt:q < (calls.getD k []).length:=by omega
   have hmem:calls.getD k [] ∈ calls:=by
    have:calls.getD k []=calls[k]:=by rw [List.getD_eq_getElem?_getD,List.getElem?_eq_getElem hk];rfl
    rw [this];exact List.getElem_mem hk
   have hcq:(calls.getD k []).getD q cl0=(calls.getD k [])[q]:=by rw [List.getD_eq_getElem?_getD,List.getElem?_eq_getElem hqlt];rfl
   have hcB:=(C.cl _ hmem).2 _ (List.getElem_mem hqlt)
   have hlen:=(C.cl _ hmem).1
   have g0:=Wh3 Wz3 hqlt (j:=0) (by omega)
   have g1:=Wh3 Wz3 hqlt (j:=1) (by omega)
   have g2:=Wh3 Wz3 hqlt (j:=2) (by omega)
   rw [<- hcq] at g0 g1 g2 hcB
   have hbeg:s.enter X.ins calls k=some { s with m:=s.m.setTh (s.m.th.set k ((We8 s.m k).push (X.ins+((calls.getD k []).getD q cl0).op) [((calls.getD k []).getD q cl0).key,((calls.getD k []).getD q cl0).val])),nx:=s.nx.set k (s.nx.getD k 0+1) }:=by
    unfold TrS.enter
    rw [if_pos he,hq,if_neg (by omega)]
   generalize (calls.getD k []).getD q cl0=cq at *
   obtain ⟨ad3,ea3,q0⟩:=hrow (q*3+0) (.int .i64 cq.op) g0
   subst ea3
   obtain ⟨_,ea4,q1⟩:=hrow (q*3+1) (.int .u32 cq.key) g1
   cases ea4
   obtain ⟨_,ea4,q2⟩:=hrow (q*3+2) (.int .u32 cq.val) g2
   cases ea4
   have aa:∀i,(ad3.add (q*3)).add i=ad3.add (q*3+i):=λi=>Ww3 _ _ _
   rw [Nat.add_zero] at q0
   try simp only [Wb8,bsx,Nat.reduceAdd,Int.reduceLE,Int.reduceLT,Int.reduceToNat,aa]
   refine Wb4 q0 (Wb4 q1 (Wb4 q2 ?_))
   obtain ⟨hok,hkey,hval⟩:=hcB
   refine Wa0 (Yh0 H2 (i:=k) (c:=cq) hins ⟨hkey,hval⟩ (λhh=>by omega) (λ_ hh=>by rw [hok] at hh;cases hh) (λ_ _ hh=>absurd he (by rw [Int.toNat_natCast] at hh;exact hh)) λ_ _ _ h5 H5=>?_)
   rw [Int.toNat_natCast] at H5
   have H6:=re _ _ _ H5
   try simp only [Wb8,bsx,Nat.reduceAdd,Int.reduceLE,Int.reduceLT,Int.reduceToNat]
   obtain ⟨la5,lc5,O5⟩:=WX8 H6
   have cN5:=Zu2 H6 (k:=k) (by omega)
   refine ldR O5 rfl ?_
   try simp only [Wb8,bsx,Nat.reduceAdd,Int.reduceLE,Int.reduceLT,Int.reduceToNat]
   refine ⟨by omega,by omega,?_⟩
   refine Wb4 cN5 ?_
   try simp only [Wb8,bsx,Nat.reduceAdd,Int.reduceLE,Int.reduceLT,Int.reduceToNat]
   refine ⟨by omega,by omega,?_⟩
   have hs1:s64 (s.nx.getD k 0+1)=s.nx.getD k 0+1:=by unfold s64;omega
   rw [hs1]
   refine Zq9 H6 (by omega) λh7 H7=>?_
   refine ⟨{ m:=s.m.setTh (s.m.th.set k ((We8 s.m k).push (X.ins+cq.op) [cq.key,cq.val])),nx:=s.nx.set k (s.nx.getD k 0+1),l:=s.l },?_,?_,?_,?_,rfl,?_,H7⟩
   ·unfold TrS.pick
    rw [Int.toNat_natCast,hbeg]
   ·exact G.push j s.m k (We8 s.m k) cq O.inv (Wl4 hk2) he (Y62 hok) hkey hval
   ·show (s.m.th.set k _).length=_
    rw [List.length_set];exact O.th
   ·intro k' hk'
    have:=O.nx k' hk'
    show 0<=(s.nx.set k _).getD k' 0/\(s.nx.set k _).getD k' 0<=_
    by_cases ek:k=k'
    ·subst ek
     rw [List.getD_eq_getElem?_getD,List.getElem?_set]
     split
     ·split
      ·simp only [Option.getD_some];omega
      ·simp only [Option.getD_none];omega
     ·rename_i hh;exact absurd rfl hh
    ·rw [List.getD_eq_getElem?_getD,List.getElem?_set_ne ek,<- List.getD_eq_getElem?_getD]
     exact this
   ·have e9:We8 (s.m.setTh (s.m.th.set k ((We8 s.m k).push (X.ins+cq.op) [cq.key,cq.val]))) k=(We8 s.m k).push (X.ins+cq.op) [cq.key,cq.val]:=WW6 hk2
    show (We8 (s.m.setTh (s.m.th.set k ((We8 s.m k).push (X.ins+cq.op) [cq.key,cq.val]))) k).fr≠[]
    rw [e9];unfold Mod.Thr.push;simp
  ·have hne:(We8 s.m k).fr≠[]:=λe=>by rw [e] at hb;cases hb
   refine ⟨s,?_,O.inv,O.th,O.nx,rfl,hne,H⟩
   unfold TrS.pick TrS.enter
   rw [Int.toNat_natCast,if_neg hne]
 rintro g63 h64 ⟨s1,ep,hI1,ht1,hn1,hl1,hne1,H1⟩
 obtain ⟨la,lc,O1⟩:=WX8 H1
 try simp only [Wb8,bsx,Nat.reduceAdd,Int.reduceLE,Int.reduceLT,Int.reduceToNat]
 refine ldR O1 rfl ?_
 try simp only [Wb8,bsx,Nat.reduceAdd,Int.reduceLE,Int.reduceLT,Int.reduceToNat]
 obtain ⟨Q',H2,re⟩:=YE0 H1
 have hk3:k < s1.m.th.length:=by omega
 obtain ⟨nn,z,hz,hs,hid,_,hI2⟩:=G.step j s1.m k _ hI1 hj (Wl4 hk3) hne1
 have hzs:Wx6 d ⟨s1.m.quiet,We8 s1.m k,k⟩=z:=WQ2 hz
 have hgo:s1.go d k = { s1 with m:=z.m.setTh (s1.m.th.set k z.t) }:=by
  unfold TrS.go
  rw [hzs]
 have ht2:(z.m.setTh (s1.m.th.set k z.t)).th.length=calls.length:=by
  show (s1.m.th.set k z.t).length=_
  rw [List.length_set];exact ht1
 rw [ep,hgo] at kk
 refine Wa0 (Ys2 D H2 (n:=nn) (z:=z) hk3 hne1 hz hs hid (λhne2 h3 H3=>?_) λhnil h3 H3=>?_)
 all_goals exact kk h3 ⟨hI2,ht2,hn1⟩ hl1 (re _ _ _ H3)
end
end
section
open Mod
theorem Zc4 {v0 v1 v2:Value} {F:Value->Prop} (k:F v0):Wc2 #[v0,v1,v2] 0 F:=k
theorem Zc5 {v0 v1 v2:Value} {F:Value->Prop} (k:F v1):Wc2 #[v0,v1,v2] 1 F:=k
theorem Zc6 {v0 v1 v2:Value} {F:Value->Prop} (k:F v2):Wc2 #[v0,v1,v2] 2 F:=k
theorem ZP2 {v0 v1 v2 v3 v4 v5 v6 v7 v8 v9:Value} {F:Value->Value->Value->Value->Value->Value->Value->Value->Value->Value->Prop} (k:F v0 v1 v2 v3 v4 v5 v6 v7 v8 v9):asAgg (.agg #[v0,v1,v2,v3,v4,v5,v6,v7,v8,v9]) λvs=>We2 vs 10 (Wc2 vs 0 λa=>Wc2 vs 1 λb=>Wc2 vs 2 λc=>Wc2 vs 3 λd=>Wc2 vs 4 λe=>Wc2 vs 5 λf=>Wc2 vs 6 λg=>Wc2 vs 7 λh=>Wc2 vs 8 λi=>Wc2 vs 9 λj=>F a b c d e f g h i j):=k
section
variable {K:kQ} {h:Wa2} {R:Hp} {calls:List (List Cl)} {Wc3 draws:List Int}
theorem Zc7 {c:Mod.Cf} (H:Sat h R) (k1:okC c=true->∀h',Sat h' R->K (.bool true) h') (k0:okC c=false->∀h',Sat h' R->K (.bool false) h') :
  Wa5 Tryz.prog 9 #[.agg #[iQ c.algo,iQ c.threads,iQ c.nodes,iQ c.level,iQ c.batch,iQ c.probes,iQ c.scan]] h K:=by
 refine YM1 (ZB9 c) (λhr h' o=>k1 ((Wt6 c).1 hr) h' (H.old o)) (λhr h' o=>k0 ?_ h' (H.old o))
 rw [<- Bool.not_eq_true]
 exact λhh=>hr ((Wt6 c).2 hh)
end
theorem ZJ6 {c:Mod.Cf} (hc:okC c=true):∃(d:Run->Run) (W:Run->Prop) (Q:Mod.Cf->Frm->Prop),DoC (Y59 c.algo) d W/\YL8 d Q W (WD3 c.algo)/\W88 d Q/\(WD3 c.algo=11\/WD3 c.algo=21\/WD3 c.algo=31):=by
 unfold Y59 WD3
 by_cases h0:c.algo=0
 ·rw [if_pos h0,if_pos h0]
  exact ⟨_,_,_,Yi7,W34,Yj3,.inl rfl⟩
 ·rw [if_neg h0,if_neg h0]
  by_cases h1:c.algo=1
  ·rw [if_pos h1,if_pos h1]
   exact ⟨_,_,_,Yu2,Yi4,Yw1,.inr (.inl rfl)⟩
  ·rw [if_neg h1,if_neg h1]
   exact ⟨_,_,_,YP8,Yv6,YQ9,.inr (.inr rfl)⟩
theorem YE1 {h:Wa2} {b:Nat} {row:List Value} {t:TypeId} (hb:h[b]? = some (.cells row.toArray t)):Sees h (some (aQ b)) row:=by
 intro i v hi
 refine ⟨_,rfl,?_⟩
 rw [Wc4,Nat.zero_add]
 exact Wd3 hb hi
end
section
set_option maxHeartbeats 1000000
open Mod
section
variable {K:kQ} {h:Wa2} {X:RX} {s:TrS} {R:Hp} {calls:List (List Cl)} {Wc3 draws:List Int}
theorem Yw4 {Q M f:Nat} {ins:Int} {Ts:List Nat} {m:Mac} (H:Sat h (suS Q M f ins Ts m*R)) (k:∀q R',Sat h (Wp2 q m.mm*R')->(∀h' m',Sat h' (Wp2 q m' * R')->Sat h' (suS Q M f ins Ts (m.setM m')*R))->K (mP q) h):Wa5 Tryz.prog 32 #[mP M] h K:=by
 obtain ⟨a,c,hl,H1⟩:=Wk7.1 (Wp0.1 H)
 exact W21 H1 λq R' HM re=>k q R' HM λh' m' H'=>Wp0.2 (Wk7.2 ⟨a,c,hl,re h' m' H'⟩)
theorem WX9 {Q M f:Nat} {ins:Int} {Ts:List Nat} {m:Mac} (H:Sat h (suS Q M f ins Ts m*R)) (k:PlB m.p->∀h',Old h.size h h'->K (plV m.p) h'):Wa5 Tryz.prog 79 #[mP M] h K:=by
 obtain ⟨a,c,hl,H1⟩:=Wk7.1 (Wp0.1 H)
 exact WC6 H1 (k (YY3 H1))
theorem ZP3 (x:TSt):(tsc x).toArray=#[iQ x.th,iQ x.kind,.bool x.done,iQ x.w1.1,iQ x.w1.2.1,iQ x.w1.2.2,iQ x.w2.1,iQ x.w2.2.1,iQ x.w2.2.2]:=rfl
theorem ZP4 {e:TSt} {la:Option Addr} {lc:Nat} {l:List TSt} {G:Hp} (H:Sat h (pt X.RB (.cells (trC X la l.length lc).toArray 89)*(Wf1 51 9 la l.length lc (l.flatMap tsc)*G))) (hb:l.length<=1000000) {F:Wa2->Prop}
  (k:∀h' la' lc',Sat h' (pt X.RB (.cells (trC X la' (l ++ [e]).length lc').toArray 89)*(Wf1 51 9 la' (l ++ [e]).length lc' ((l ++ [e]).flatMap tsc)*G))->F h') :
  Wt2 Tryz.prog #[47,47] 47 #[.slice la l.length lc,.slice (some (aQ h.size)) 1 1] (h.push (.cells #[iQ e.th,iQ e.kind,.bool e.done,iQ e.w1.1,iQ e.w1.2.1,iQ e.w1.2.2,iQ e.w2.1,iQ e.w2.2.1,iQ e.w2.2.2] 51))
   λv h'=>Wb3 v λo k1 k2=>stH h' ⟨X.RB,12,none⟩ (.slice o k1 k2) F:=by
 have H2:=H.push (.cells (tsc e).toArray 51)
 have hs:Sees (h.push (.cells (tsc e).toArray 51)) (some (aQ h.size)) (tsc e):=λj v hj=>⟨_,rfl,by rw [Wc4,Nat.zero_add,Wc1 H2.at];simpa using hj⟩
 rw [<- ZP3]
 generalize h.push (.cells (tsc e).toArray 51)=h2 at *
 generalize h.size=N at *
 have H3:=H2.drop
 rw [Wb7,<- YD9] at H3
 refine H3.app ZJ2 Zq7 ZJ3 (by rw [YD9];rfl) hs (n:=1) (by rw [YD9];rfl) (λy hy=>?_) (by rw [Zu0];omega) (by rw [Zu0];omega) λa' c' h3 H4=>?_
 ·simp only [tsc,List.mem_cons,List.not_mem_nil,or_false] at hy
  rcases hy with rfl | rfl | rfl | rfl | rfl | rfl | rfl | rfl | rfl <;> trivial
 rw [YD9,Wb7] at H4
 refine sb ?_
 refine H4.st (i:=12) rfl trivial λh4 H5=>k h4 a' c' ?_
 have e1:(l ++ [e]).length=l.length+1:=by simp
 have e2:(l ++ [e]).flatMap tsc=l.flatMap tsc ++ tsc e:=by simp
 rw [e1,e2]
 exact H5
theorem WY0 {p:Pl} {a:Int} {v0 v1 v2 v3 v4 v5 v6 v7 v8 v9 v10 v11 v12 v13 v14:Value} (e:plV p=.agg #[v0,v1,v2,v3,v4,v5,v6,v7,v8,v9,v10,v11,v12,v13,v14]) (B:PlB p) (ha:iN a) (k:∀h',Old h.size h h'->K (.tuple #[iQ (p.whr a).1,iQ (p.whr a).2.1,iQ (p.whr a).2.2]) h') :
  Wa5 Tryz.prog 80 #[.agg #[v0,v1,v2,v3,v4,v5,v6,v7,v8,v9,v10,v11,v12,v13,v14],iQ a] h K:=by
 rw [<- e]
 exact YR0 B ha k
def ZP5 (X:RX) (s:TrS) (kk:Int) (R:Hp) (a:Option Addr) (c:Nat) (vs:List Value) (h':Wa2):Prop:=
 ∃(i:Nat) (u1 u2:Value),vs = [iQ i,u1,u2]/\i<=s.m.mm.lg.length - s.l.length /\
  Sat h' (trS X { s with l:=s.l ++ ((s.m.mm.lg.drop s.l.length).take i).map (Wk8 s.m.p kk) }*(Wf1 144 4 a s.m.mm.lg.length c (s.m.mm.lg.flatMap WZ6)*R))
theorem Yw5 {kk:Int} (H:Sat h (trS X s*R)) (hle:s.l.length<=s.m.mm.lg.length) (hb:s.m.mm.lg.length<=100000) (hE:∀e ∈ s.m.mm.lg.drop s.l.length,iN e.a/\iN e.b)
  (k:∀h',Sat h' (trS X (s.note kk)*R)->K (.tuple #[]) h'):Wa5 Tryz.prog 40 #[mP X.RB,iQ kk,iQ (s.l.length:Nat)] h K:=by
 refine call40 ?_
 unfold F40 cf ce lP lI nP Wm8 dl9
 obtain ⟨la,lc,O1⟩:=WX8 H
 try simp only [Wb8,bsx,Nat.reduceAdd,Int.reduceLE,Int.reduceLT,Int.reduceToNat]
 refine ldR O1 rfl ?_
 try simp only [Wb8,bsx,Nat.reduceAdd,Int.reduceLE,Int.reduceLT,Int.reduceToNat]
 obtain ⟨Q',H2,re⟩:=YE0 H
 refine Wa0 (WN1 H2 ?_)
 try simp only [Wb8,bsx,Nat.reduceAdd,Int.reduceLE,Int.reduceLT,Int.reduceToNat]
 refine Wa0 (YM2 H2 λq R' HM=>?_)
 try simp only [Wb8,bsx,Nat.reduceAdd,Int.reduceLE,Int.reduceLT,Int.reduceToNat]
 refine Wa0 (Yw2 HM (by omega) λh4 a c o4 own=>?_)
 have H4:=own _ H
 rw [Wb7] at H4
 try simp only [Wb8,bsx,Nat.reduceAdd,Int.reduceLE,Int.reduceLT,Int.reduceToNat]
 rw [Wq1,YB6,show min (s.l.length:Int) (s.m.mm.lg.length:Int)=(s.l.length:Int) by omega]
 refine ⟨by omega,by omega,?_⟩
 simp only [Int.toNat_natCast]
 refine ⟨ZP5 X s kk R a c,λvs _=>match vs with | [.int _ i,_,_]=>((s.m.mm.lg.length - s.l.length:Nat) - i:Int).toNat | _=>0,⟨0,_,_,rfl,Nat.zero_le _,?_⟩,?_⟩
 ·rw [List.take_zero,List.map_nil,List.append_nil]
  exact H4
 rintro v19 v20 v21 g22 h23 ⟨i,u1,u2,e,hi,H5⟩
 cases e
 refine sb ?_
 refine Wa3 (λc1=>?_) (λc1=>?_)
 ·have hi2:s.l.length+i < s.m.mm.lg.length:=by omega
  refine ⟨by omega,by omega,?_⟩
  have ow:=H5.drop.own
  have hlc:=ow.2.1
  have hsub:=ow.sees.subn (n:=4) (i:=s.l.length) (m:=c) (by rw [WJ2 W56];omega) (by omega)
  have g:∀j,j < 4->((s.m.mm.lg.flatMap WZ6).drop (s.l.length*4))[i*4+j]? = (WZ6 s.m.mm.lg[s.l.length+i])[j]?:=λj hj=>by
   rw [List.getElem?_drop,show s.l.length*4+(i*4+j)=(s.l.length+i)*4+j by omega]
   exact Wh3 W56 hi2 hj
  have hmem:s.m.mm.lg[s.l.length+i] ∈ s.m.mm.lg.drop s.l.length:=by
   rw [List.mem_iff_getElem?]
   exact ⟨i,by rw [List.getElem?_drop,List.getElem?_eq_getElem hi2]⟩
  have hnext:(s.m.mm.lg.drop s.l.length).take (i+1)=(s.m.mm.lg.drop s.l.length).take i ++ [s.m.mm.lg[s.l.length+i]]:=by
   rw [List.take_succ_eq_append_getElem (by rw [List.length_drop];omega)]
   simp
  have hEa:=hE _ hmem
  generalize s.m.mm.lg[s.l.length+i]=e at *
  obtain ⟨ad,ea,q0⟩:=hsub (i*4+0) (.int .i64 e.kind) (g 0 (by omega))
  rw [ea] at hsub ⊢
  obtain ⟨_,ea1,q1⟩:=hsub (i*4+1) (.int .i64 e.a) (g 1 (by omega))
  cases ea1
  obtain ⟨_,ea1,q2⟩:=hsub (i*4+2) (.int .i64 e.b) (g 2 (by omega))
  cases ea1
  obtain ⟨_,ea1,q3⟩:=hsub (i*4+3) (.bool e.done) (g 3 (by omega))
  cases ea1
  clear hsub g ea
  have aa:∀j,(ad.add (i*4)).add j=ad.add (i*4+j):=λj=>Ww3 _ _ _
  rw [Nat.add_zero] at q0
  try simp only [Wb8,bsx,Nat.reduceAdd,Int.reduceLE,Int.reduceLT,Int.reduceToNat,aa]
  refine Wb4 q0 (Wb4 q1 (Wb4 q2 (Wb4 q3 ?_)))
  have H6:=H5.push (.cells #[iQ 0,iQ 0,iQ 0,.bool false] 144)
  generalize h23.push (.cells #[iQ 0,iQ 0,iQ 0,.bool false] 144)=h6 at *
  generalize h23.size=AB at *
  refine Wd9 (vs:=WZ6 e) H6.at rfl (by simp [WZ6,Wi4]) λh7 w=>?_
  have H7:=H6.wr w.new w.old
  clear H6 w
  refine ldR H7.at rfl ?_
  refine sb ?_
  refine ldR H7.at rfl ?_
  refine sb ?_
  have H8:=H7.push (.cells #[iQ 0,iQ 0,.bool false,iQ 0,iQ 0,iQ 0,iQ 0,iQ 0,iQ 0] 51)
  generalize h7.push (.cells #[iQ 0,iQ 0,.bool false,iQ 0,iQ 0,iQ 0,iQ 0,iQ 0,iQ 0] 51)=h8 at *
  generalize h7.size=SB at *
  refine Wd9 (vs:=tsc ⟨kk,e.kind,e.done,(0,0,0),(0,0,0)⟩) H8.at rfl (by simp [tsc,Wi4]) λh9 w=>?_
  have H9:=H8.wr w.new w.old
  clear H8 w H7
  refine ldR H9.at2 rfl ?_
  refine sb ?_
  have su:∀ {h':Wa2} {P:Hp},Sat h' (P*(trS X { s with l:=s.l ++ ((s.m.mm.lg.drop s.l.length).take i).map (Wk8 s.m.p kk) }*(Wf1 144 4 a s.m.mm.lg.length c (s.m.mm.lg.flatMap WZ6)*R)))->∃Q'':Hp,Sat h' (suS X.Q X.M X.f X.ins X.Ts s.m*Q''):=λH'=>by
   obtain ⟨Q1,H2,_⟩:=YE0 H'.drop
   exact ⟨_,H2⟩
  obtain ⟨Q1,Hsu⟩:=su H9.drop
  refine Wa0 (WX9 Hsu λB h10 o10=>WF3 ?_)
  have H10:=H9.old o10
  refine ⟨Wd3 H10.at2 rfl,?_⟩
  refine Wa0 (WY0 rfl B hEa.1 λh11 o11=>?_)
  have H11:=H10.old o11
  refine sb ?_
  refine Zc4 ?_
  refine sb ?_
  refine Zc5 ?_
  refine sb ?_
  refine Zc6 ?_
  refine sb ?_
  refine H11.st (i:=3) rfl trivial λh12 H12=>?_
  refine H12.st (i:=4) rfl trivial λh13 H13=>?_
  refine H13.st (i:=5) rfl trivial λh14 H14=>?_
  clear H9 H10 H11 H12 H13 Hsu
  refine ldR H14.at2 rfl ?_
  refine sb ?_
  obtain ⟨Q2,Hsu⟩:=su H14.drop
  refine Wa0 (WX9 Hsu λ_ h15 o15=>WF3 ?_)
  have H15:=H14.old o15
  refine ⟨Wd3 H15.at2 rfl,?_⟩
  refine Wa0 (WY0 rfl B hEa.2 λh16 o16=>?_)
  have H16:=H15.old o16
  refine sb ?_
  refine Zc4 ?_
  refine sb ?_
  refine Zc5 ?_
  refine sb ?_
  refine Zc6 ?_
  refine sb ?_
  refine H16.st (i:=6) rfl trivial λh17 H17=>?_
  refine H17.st (i:=7) rfl trivial λh18 H18=>?_
  refine H18.st (i:=8) rfl trivial λh19 H19=>?_
  have H20:Sat h19 (pt SB (.cells (tsc (Wk8 s.m.p kk e)).toArray 51)*_):=H19
  clear H14 H15 H16 H17 H18 H19 Hsu
  have H21:=Sat.ac H20 (show _=trS X { s with l:=s.l ++ ((s.m.mm.lg.drop s.l.length).take i).map (Wk8 s.m.p kk) }*(pt SB (.cells (tsc (Wk8 s.m.p kk e)).toArray 51)*(pt AB (.cells (WZ6 e).toArray 144)*(Wf1 144 4 a s.m.mm.lg.length c (s.m.mm.lg.flatMap WZ6)*R))) by ac_rfl)
  clear H20
  obtain ⟨la,lc,hl,H22⟩:=Ww5.1 H21
  have hll:(s.l ++ ((s.m.mm.lg.drop s.l.length).take i).map (Wk8 s.m.p kk)).length<=1000000:=by
   rw [List.length_append,List.length_map,List.length_take]
   omega
  have en:s.l ++ ((s.m.mm.lg.drop s.l.length).take (i+1)).map (Wk8 s.m.p kk)=(s.l ++ ((s.m.mm.lg.drop s.l.length).take i).map (Wk8 s.m.p kk)) ++ [Wk8 s.m.p kk e]:=by
   rw [hnext,List.map_append,<- List.append_assoc]
   rfl
  refine ldR H22.at rfl ?_
  refine sb ?_
  have OS:=H22.drop.drop.drop.drop.at
  refine ldR OS rfl (ldR OS rfl (ldR OS rfl (ldR OS rfl (ldR OS rfl (ldR OS rfl (ldR OS rfl (ldR OS rfl (ldR OS rfl ?_))))))))
  refine ⟨Wc8 (Wd3 H22.at rfl),?_⟩
  refine ZP4 (e:=Wk8 s.m.p kk e) H22 hll λh23 la' lc' H23=>?_
  rw [<- en] at H23
  have H24:=Sat.ac ((Ww5 (s:={ s with l:=s.l ++ ((s.m.mm.lg.drop s.l.length).take (i+1)).map (Wk8 s.m.p kk) })).2 ⟨la',lc',hl,H23⟩) (show _=pt SB (.cells (tsc (Wk8 s.m.p kk e)).toArray 51)*(pt AB (.cells (WZ6 e).toArray 144)*(trS X { s with l:=s.l ++ ((s.m.mm.lg.drop s.l.length).take (i+1)).map (Wk8 s.m.p kk) }*(Wf1 144 4 a s.m.mm.lg.length c (s.m.mm.lg.flatMap WZ6)*R))) by ac_rfl)
  rw [show s64 ((i:Int)+1)=((i+1:Nat):Int) from by rw [<- Int.natCast_add_one];exact Wv9 _ (by omega)]
  refine ⟨⟨i+1,_,_,rfl,by omega,H24.drop.drop⟩,?_⟩
  show (((s.m.mm.lg.length - s.l.length:Nat):Int) - ((i+1:Nat):Int)).toNat < (((s.m.mm.lg.length - s.l.length:Nat):Int) - (i:Int)).toNat
  omega
 ·have ei:(s.m.mm.lg.drop s.l.length).take i=s.m.mm.lg.drop s.l.length:=List.take_of_length_le (by rw [List.length_drop];omega)
  rw [ei] at H5
  rw [Wb7] at H5
  exact k h23 H5.drop
end
section
variable {d:Run->Run} {Q:Mod.Cf->Frm->Prop} {W:Run->Prop} {ins:Int} {c:Mod.Cf} {calls:List (List Cl)} {s:TrS}
theorem ZP6 (D:YL8 d Q W ins) (hB:W88 d Q) (C:WW9 calls) {j k:Nat} (hk:k < calls.length) (hj:j < 100000) (O:TrOk (MacOk Q c) calls j s) (F:TrFit c s) :
  (s.pick d ins calls k).m.mm.lg=s.m.mm.lg\/∃e,Zc1 (Wb9 c) k (Wb9 c).size.toNat e/\(s.pick d ins calls k).m.mm.lg=s.m.mm.lg ++ [e]:=by
 have G:=MacOk.good (c:=c) D
 rcases ZJ1 G C hk O F with e | ⟨s1,e,B⟩
 ·rw [e];exact .inl rfl
 rw [e]
 have hk3:k < s1.m.th.length:=by rw [B.th];exact hk
 have ht:=Wl4 hk3
 obtain ⟨nn,z,hz,_,_,hzt,hI2⟩:=G.step j s1.m k _ B.inv hj ht B.ne
 have hzs:Wx6 d ⟨s1.m.quiet,We8 s1.m k,k⟩=z:=WQ2 hz
 have S:=YD8 D hB B.inv ht (B.all k _ ht) hz
 have o:=S.one
 have e2:(⟨s1.m.quiet,We8 s1.m k,(k:Int)⟩ : Run).m.mm=s.m.mm:=B.mm
 rw [e2] at o
 have hw:(s.m.mm.w.length:Int)=(Wb9 c).size:=O.inv.w
 have hwn:s.m.mm.w.length=(Wb9 c).size.toNat:=by omega
 have hgo:(s1.go d k).m.mm=z.m.mm:=by
  unfold TrS.go
  rw [hzs]
  rfl
 rw [hgo]
 rcases o.st with ⟨_,q2⟩ | ⟨_,a,q2,q3⟩
 ·exact .inl q2
 ·rw [hwn] at q2
  rw [F.wt,if_pos rfl] at q3
  exact .inr ⟨a,q2,q3⟩
end
def Mod.Mac.watch (m:Mac):Mac:=m.setM { m.mm with wt:=true }
theorem WK7 {m:Mm} (h:m.wt=false/\m.lg = []) (a v:Int):(m.store a v).wt=false/\(m.store a v).lg = []:=by
 unfold Mm.store
 split
 ·refine ⟨h.1,?_⟩
  show (if m.wt=true then m.lg ++ [_] else m.lg) = []
  rw [h.1,h.2];rfl
 ·exact h
theorem W90 (f:Nat->Int × Int):∀(l:List Nat) (m:Mm),m.wt=false/\m.lg = []->(l.foldl (λm i=>m.store (f i).1 (f i).2) m).wt=false/\(l.foldl (λm i=>m.store (f i).1 (f i).2) m).lg = []
 | [],m,h=>h
 | i :: l,m,h=>W90 f l _ (WK7 h _ _)
theorem ZJ7 (p:Pl):(lay p).wt=false/\(lay p).lg = []:=by
 unfold lay
 dsimp only
 have h2:=λ(m:Mm) (h:m.wt=false/\m.lg = []) (a b:Int)=>WK7 (W90 (λi=>(p.link (p.sent+1+i),p.sent+1+i+1)) (List.range (p.c.nodes - (p.sent+1)).toNat) m h) a b
 have h1:=h2 _ (WK7 (m:=⟨List.replicate p.size.toNat 0,0,false,[]⟩) ⟨rfl,rfl⟩ 0 (Wp3 (p.sent+1) false 0)) 2 1
 split
 ·exact h1
 ·exact W90 (λi=>(p.node 1 (5+i),Wp3 2 false 0)) _ _ (WK7 (WK7 h1 _ _) _ _)
def ts0 (m:Mac) (n:Nat):TrS:=⟨m,List.replicate n 0,[]⟩
section
variable {Q:Mod.Cf->Frm->Prop} {c:Mod.Cf} {calls:List (List Cl)}
theorem MacOk.watch {i:Nat} {m:Mac} (h:MacOk Q c i m):MacOk Q c i m.watch:=⟨h.ok,h.p,h.w,h.n,h.t,h.T⟩
theorem TrFit.new (b:List Int) (g:Bool) (n:Nat):TrFit c (ts0 (Wi7 c b g).watch n):=by
 have h:∀(k:Nat) t,(Wi7 c b g).th[k]? = some t->t=WE2 c:=λk t h=>(List.mem_replicate.1 (List.mem_of_getElem? (show (List.replicate c.threads.toNat (WE2 c))[k]? = some t from h))).2
 refine ⟨λk t e f hf=>?_,rfl,?_,λx hx=>by cases hx⟩
 ·rw [h k t e] at hf
  cases hf
 ·show (lay (Wb9 c)).lg.length=_
  rw [(ZJ7 _).2]
  rfl
theorem TrOk.new (hc:okC c=true) (b:List Int) (g:Bool) (hl:(calls.length:Int)=c.threads):TrOk (MacOk Q c) calls 0 (ts0 (Wi7 c b g).watch calls.length):=by
 refine ⟨(MacOk.new hc b g).watch,?_,λk hk=>?_⟩
 ·show (List.replicate c.threads.toNat (WE2 c)).length=_
  rw [List.length_replicate]
  omega
 ·have e:(ts0 (Wi7 c b g).watch calls.length).nx.getD k 0=0:=by
   show (List.replicate calls.length (0:Int)).getD k 0=0
   rw [List.getD_eq_getElem?_getD,List.getElem?_replicate]
   split <;> rfl
  rw [e]
  omega
end
end
section
set_option maxHeartbeats 1000000
open Mod
theorem ZJ8 {p:Pl} {id:Int} {n:Nat} {e:Acc} (h:Zc1 p id n e) (hn:n<=4096):iN e.a/\iN e.b:=by
 have h1:=h.a
 have h2:=h.k
 have e1:∀x:Int,-1<=x/\x < 4096->iN x:=λx hx=>by unfold iN;omega
 exact ⟨e1 _ (by omega),e1 _ (by omega)⟩
section
variable {K:kQ} {h:Wa2} {X:RX} {s:TrS} {R:Hp} {calls:List (List Cl)} {Wc3 draws:List Int}
variable {d:Run->Run} {Q:Mod.Cf->Frm->Prop} {W:Run->Prop}
theorem Yj5 {c:Mod.Cf} {ca pa da:Option Addr} {cl cc pl pc dl dc:Nat} (H:Sat h R) (hS:∀h' P,Sat h' (P*R)->ScrI h' ca cl pa pl da dl calls Wc3 draws) (hR:ZC2 calls Wc3 draws)
  (hn:calls.flatten.length < 2 ^ 60) (hn2:calls.length < 2 ^ 60) (hn3:Wc3.length < 2 ^ 60) (hV:∀l ∈ calls,l.length < 2 ^ 60)
  (D:DoC (Y59 c.algo) d W) (DO:YL8 d Q W (WD3 c.algo)) (hB:W88 d Q)
  (k0:Y60 c calls Wc3 draws=false->∀h',Sat h' R->K (.tuple #[.slice none 0 0,iQ 1]) h')
  (k1:Y60 c calls Wc3 draws=true->∀h' la lc s,s=Zc2 d (WD3 c.algo) calls (Wi7 c draws false).watch Wc3->s.l.length<=Wc3.length->TrOk (MacOk Q c) calls Wc3.length s->TrFit c s->Sat h' (Wf1 51 9 la s.l.length lc (s.l.flatMap tsc)*R) ->
   K (.tuple #[.slice la s.l.length lc,iQ 0]) h') :
  Wa5 Tryz.prog 14 #[.agg #[iQ c.algo,iQ c.threads,iQ c.nodes,iQ c.level,iQ c.batch,iQ c.probes,iQ c.scan,.slice ca cl cc,.slice pa pl pc,.slice da dl dc]] h K:=by
 refine call14 ?_
 unfold F14 g14 cf ce bd lS lI da7 YS2
 have H1:=H.push (.cells (Wz7 c ca cl cc pa pl pc da dl dc).toArray 28)
 rw [show h.push (.cells #[iQ c.algo,iQ c.threads,iQ c.nodes,iQ c.level,iQ c.batch,iQ c.probes,iQ c.scan,.slice ca cl cc,.slice pa pl pc,.slice da dl dc] 28)=h.push (.cells (Wz7 c ca cl cc pa pl pc da dl dc).toArray 28) from rfl]
 generalize h.push (.cells (Wz7 c ca cl cc pa pl pc da dl dc).toArray 28)=h1 at *
 generalize h.size=SB at *
 have I:=hS h1 _ H1
 have ecl:=I.f.cs
 have epl:=I.f.ps
 have edl:=I.ds
 subst ecl epl edl
 have O:=H1.at
 refine ldR O rfl (ldR O rfl (ldR O rfl (ldR O rfl (ldR O rfl (ldR O rfl (ldR O rfl (ldR O rfl (ldR O rfl (ldR O rfl ?_)))))))))
 have hS2:∀h' P,Sat h' (P*(pt SB (.cells (Wz7 c ca calls.length cc pa Wc3.length pc da draws.length dc).toArray 28)*R))->ScrI h' ca calls.length pa Wc3.length da draws.length calls Wc3 draws:=λh' P HP=>hS h' emp (by rw [Wl0];exact HP.drop.drop)
 refine Wa0 (Yh7 (c:=c) H1 hS2 hn hn2 hn3 hV λh3 H3=>?_)
 refine sb ?_
 refine Wb6 (λhh=>?_) (λhh=>?_)
 ·have e:Y60 c calls Wc3 draws=false:=by simpa using hh
  exact k0 e h3 H3.drop
 have hsc:Y60 c calls Wc3 draws=true:=by simpa using hh
 have hsc2:=hsc
 unfold Y60 at hsc2
 simp only [Bool.and_eq_true,beq_iff_eq,decide_eq_true_eq,List.all_eq_true] at hsc2
 obtain ⟨hok,hct,hf48,hp6,hd4,hcl,hpk⟩:=hsc2
 have B:=Wt1 hok
 have hthr:1<=c.threads/\c.threads<=6:=B.th
 have C:WW9 calls:=⟨by omega,λl hl=>⟨by
  have:l.length<=calls.flatten.length:=by
   obtain ⟨i,hi,rfl⟩:=List.getElem_of_mem hl
   have e1:=Y61 hi
   have e2:=ZI2 (L:=calls) (i+1)
   omega
  omega,λx hx=>⟨hcl l hl x hx,hR.cl l hl x hx⟩⟩⟩
 have O:=H3.at
 refine ldR O rfl (ldR O rfl (ldR O rfl (ldR O rfl (ldR O rfl (ldR O rfl (ldR O rfl (ldR O rfl ?_)))))))
 refine sb ?_
 refine Wa0 (YL9 (c:=c) (bs:=draws) H3 (λh' P HP=>(hS2 h' P HP).dr) (by omega) hR.dr (λhx=>by rw [hok] at hx;cases hx) λ_ h4 Qq M Ts H4=>?_)
 have TO:TrOk (MacOk Q c) calls 0 (ts0 (Wi7 c draws false).watch calls.length):=TrOk.new hok draws false hct
 have TF:TrFit c (ts0 (Wi7 c draws false).watch calls.length):=TrFit.new draws false _
 generalize hm0:Wi7 c draws false=m0 at *
 refine sb ?_
 refine WC7 ?_
 refine sb ?_
 refine WC8 ?_
 refine sb ?_
 refine Wb6 (λhx=>by simp at hx) (λ_=>?_)
 have O:=H4.at2
 refine ldR O rfl (ldR O rfl (ldR O rfl (ldR O rfl (ldR O rfl (ldR O rfl (ldR O rfl (ldR O rfl (ldR O rfl (ldR O rfl (ldR O rfl ?_))))))))))
 refine sb ?_
 refine Zm3 hct (by omega) ?_
 refine sb ?_
 have H5:=H4.push (.cells ((List.replicate calls.length (0:Int)).map iv).toArray 3)
 generalize h4.push (.cells ((List.replicate calls.length (0:Int)).map iv).toArray 3)=h5 at *
 generalize h4.size=NB at *
 have O5:=(H5.drop.drop).at
 have H6:=H5.push (.cells #[mP Qq,iQ c.algo,iQ c.threads,iQ c.nodes,iQ c.level,iQ c.batch,iQ c.probes,iQ c.scan,.slice ca calls.length cc,.slice pa Wc3.length pc,.slice da draws.length dc,.slice (some (aQ NB)) calls.length calls.length,.slice none 0 0] 89)
 repeat (first | refine ⟨Wc8 (Wd3 O5 rfl),?_⟩ | refine ⟨Wd3 O5 rfl,?_⟩)
 generalize h5.push (.cells #[mP Qq,iQ c.algo,iQ c.threads,iQ c.nodes,iQ c.level,iQ c.batch,iQ c.probes,iQ c.scan,.slice ca calls.length cc,.slice pa Wc3.length pc,.slice da draws.length dc,.slice (some (aQ NB)) calls.length calls.length,.slice none 0 0] 89)=h6 at *
 generalize h5.size=RB at *
 obtain ⟨X,hX⟩ : ∃X:RX,X=⟨RB,NB,Qq,M,Y59 c.algo,WD3 c.algo,Ts,c,ca,calls.length,cc,pa,Wc3.length,pc,da,draws.length,dc,calls.length⟩:=⟨_,rfl⟩
 generalize hFR:pt SB (.cells (Wz7 c ca calls.length cc pa Wc3.length pc da draws.length dc).toArray 28)*R=FR at H6 hS2
 refine Wa0 (WN1 (H6.drop.drop) ?_)
 refine sb ?_
 have H6':=Sat.ac H6 (show _=suS Qq M (Y59 c.algo) (WD3 c.algo) Ts m0*(pt RB (.cells #[mP Qq,iQ c.algo,iQ c.threads,iQ c.nodes,iQ c.level,iQ c.batch,iQ c.probes,iQ c.scan,.slice ca calls.length cc,.slice pa Wc3.length pc,.slice da draws.length dc,.slice (some (aQ NB)) calls.length calls.length,.slice none 0 0] 89)*(pt NB (.cells ((List.replicate calls.length (0:Int)).map iv).toArray 3)*FR)) by ac_rfl)
 refine Wa0 (Yw4 H6' λq R' HM re=>?_)
 refine sb ?_
 refine Wa0 (W89 HM λh7 H7=>?_)
 have H7:=re _ _ H7
 have H8:Sat h7 (trS X (ts0 m0.watch calls.length)*FR):=by
  have H9:=H7.own_new 51 9
  rw [hX]
  refine Ww5.2 ⟨none,0,by show (List.replicate _ _).length=_;simp,?_⟩
  exact Sat.ac H9 (by show _=pt RB _*(Wf1 51 9 none 0 0 []*(pt NB _*(suS Qq M (Y59 c.algo) (WD3 c.algo) Ts m0.watch*FR)));unfold Mac.watch;ac_rfl)
 clear H1 H3 H4 H5 H6 H6' H7 HM re I O O5
 have eRB:RB=X.RB:=by rw [hX]
 have ei:WD3 c.algo=X.ins:=by rw [hX]
 have DX:DoC X.f d W:=by rw [hX];exact D
 have GX:Zj7 d W X.ins (MacOk Q c):=by rw [hX];exact MacOk.good DO
 have scr:∀ {h':Wa2} {s:TrS},Sat h' (trS X s*FR)->h'[SB]? = some (.cells (Wz7 c ca calls.length cc pa Wc3.length pc da draws.length dc).toArray 28)/\ScrI h' ca calls.length pa Wc3.length da draws.length calls Wc3 draws:=by
  intro h' s H'
  refine ⟨?_,hS2 h' _ H'⟩
  rw [<- hFR] at H'
  exact H'.drop.at
 obtain ⟨sc,sI⟩:=scr H8
 refine ldR sc rfl ?_
 refine sb ?_
 have hS7:∀h' P,Sat h' (P*FR)->ZL0 h' X.ca X.cl X.pa X.pl calls Wc3:=by
  intro h' P HP
  rw [hX]
  exact (hS2 h' P HP).f
 have hXn:X.n=calls.length:=by rw [hX]
 have hins:0<=X.ins/\X.ins<=100:=by
  rw [<- ei]
  unfold WD3
  repeat' split
  all_goals decide
 have hsz:(Wb9 c).size.toNat<=4096:=by
  have b3:=B.tr
  have b6:=B.si
  omega
 refine ⟨λvs h'=>∃(u:Value) (j:Nat) (s:TrS),s=(Wc3.take j).foldl (λs k=>(s.pick d X.ins calls k).note k) (ts0 m0.watch calls.length)/\vs = [u,.int .i64 j]/\j<=Wc3.length/\s.l.length<=j/\TrOk (MacOk Q c) calls j s/\TrFit c s/\Sat h' (trS X s*FR),λvs _=>match vs with | [_,.int _ i]=>((Wc3.length:Int) - i).toNat | _=>0,⟨_,0,_,rfl,rfl,Nat.zero_le _,Nat.le_refl _,TO,TF,H8⟩,?_⟩
 rintro v63 v64 g65 h66 ⟨u,j,sj,hsj,e,hj,hlj,OJ,FJ,HJ⟩
 cases e
 refine sb ?_
 obtain ⟨scJ,sIJ⟩:=scr HJ
 refine Wa3 (λc1=>?_) (λc1=>?_)
 ·have hjlt:j < Wc3.length:=by omega
  obtain ⟨ad,ea,hc⟩:=sIJ.f.pk j (.int .i64 Wc3[j]) (by rw [List.getElem?_map,List.getElem?_eq_getElem hjlt];rfl)
  subst ea
  refine ⟨by omega,by omega,?_⟩
  refine sb ?_
  refine Wb4 hc ?_
  refine sb ?_
  have hp:=hpk _ (List.getElem_mem hjlt)
  have hnext:(Wc3.take (j+1)).foldl (λs k=>(s.pick d X.ins calls k).note k) (ts0 m0.watch calls.length)=(sj.pick d X.ins calls Wc3[j]).note Wc3[j]:=by
   rw [List.take_succ_eq_append_getElem hjlt,List.foldl_append,<- hsj]
   rfl
  obtain ⟨kk,hkk⟩ : ∃kk:Nat,Wc3[j]=kk:=⟨Wc3[j].toNat,by omega⟩
  rw [hkk] at hp hnext ⊢
  rw [eRB]
  have DO':YL8 d Q W X.ins:=by rw [<- ei];exact DO
  obtain ⟨O1,F1,⟨T1⟩⟩:=ZB5 DO' hB C (k:=kk) (by omega) (by omega) OJ FJ
  have LG:=ZP6 DO' hB C (k:=kk) (by omega) (by omega) OJ FJ
  have hlg:=FJ.lg
  refine Wa0 (Yw3 DX GX C hXn hins HJ hS7 (j:=j) (k:=kk) (by omega) (by omega) OJ λh67 D67 e67 H67=>?_)
  generalize hs1:sj.pick d X.ins calls kk=s1 at *
  have hlen:s1.m.mm.lg.length<=sj.l.length+1/\sj.l.length<=s1.m.mm.lg.length:=by
   rcases LG with e | ⟨e,_,q⟩
   ·rw [e];omega
   ·rw [q,List.length_append]
    simp only [List.length_cons,List.length_nil]
    omega
  obtain ⟨la,lc,OR⟩:=WX8 H67
  refine ldR OR rfl ?_
  refine sb ?_
  refine Wa0 (Yw5 H67 (by rw [e67];omega) (by omega) (λe he=>?_) λh68 H68=>?_)
  ·rw [e67,<- hlg] at he
   rcases LG with q | ⟨e2,q1,q⟩
   ·rw [q,List.drop_length] at he
    cases he
   ·rw [q,List.drop_left] at he
    rw [List.mem_singleton.1 he]
    exact ZJ8 q1 hsz
  rw [show s64 ((j:Int)+1)=((j+1:Nat):Int) from by rw [<- Int.natCast_add_one];exact Wv9 _ (by omega)]
  refine ⟨⟨_,j+1,_,hnext.symm,rfl,by omega,?_,O1,F1,H68⟩,?_⟩
  ·rcases T1 with ⟨q,_⟩ | ⟨_,_,_,q⟩
   ·rw [q];omega
   ·rw [q,List.length_append]
    simp only [List.length_cons,List.length_nil]
    omega
  ·show ((Wc3.length:Int) - ((j+1:Nat):Int)).toNat < ((Wc3.length:Int) - (j:Int)).toNat
   omega
 have ej:j=Wc3.length:=by omega
 subst ej
 rw [List.take_length,<- ei] at hsj
 obtain ⟨la,lc,hl,H0⟩:=Ww5.1 HJ
 rw [eRB]
 refine ldR H0.at rfl ?_
 refine sb ?_
 have H1:=Sat.ac H0 (show _=(pt X.RB (.cells (trC X la sj.l.length lc).toArray 89)*(pt X.NB (.cells (sj.nx.map iv).toArray 3)*suS X.Q X.M X.f X.ins X.Ts sj.m))*(Wf1 51 9 la sj.l.length lc (sj.l.flatMap tsc)*FR) by ac_rfl)
 rw [<- hFR] at H1
 refine k1 hsc h66 la lc sj ?_ hlj OJ FJ ?_
 ·rw [hsj];rfl
 ·exact (Sat.ac H1.drop (show _=pt SB _*(Wf1 51 9 la sj.l.length lc (sj.l.flatMap tsc)*R) by ac_rfl)).drop
end
end
section
set_option maxHeartbeats 1000000
theorem W36:∀(n t:Nat) (acc:Array Value),(∀v ∈ acc.toList,Wi4 v True)->(Extern.BytealgMakeNoZero.digits n t acc).size=acc.size+n/\∀v ∈ (Extern.BytealgMakeNoZero.digits n t acc).toList,Wi4 v True
 | 0,t,acc,h=>⟨rfl,h⟩
 | n+1,t,acc,h=>by
  unfold Extern.BytealgMakeNoZero.digits
  have:=W36 n (t / 256) (acc.push (.int .u8 (Int.ofNat (t % 256)))) (λv hv=>by
   rw [Array.toList_push,List.mem_append] at hv
   rcases hv with hv | hv
   ·exact h v hv
   ·rw [List.mem_singleton.1 hv];trivial)
  refine ⟨?_,this.2⟩
  rw [this.1,Array.size_push];omega
theorem YR1 {P:Program} {f:FuncId} {fn:Func} {h:Wa2} {elem t:TypeId} {n:Int} {ps rs:Array TypeId} {K:kQ} (h1:P.funcs[f]? = some fn) (h2:(fn.name == "runtime.NumGoroutine")=false) (h3:fn.body.isNone=true) (h4:(Extern.findNext fn).isNone=true)
  (h5:Extern.find fn=some (Extern.BytealgMakeNoZero.makeNoZero ps rs)) (h6:rs[0]? = some t) (h7:P.underlying t=some (.slice elem)) (hn:0<=n/\n<=2 ^ 48)
  (k:∀(cap:Nat) (row:Array Value),n.toNat<=cap->row.size=cap->(∀v ∈ row.toList,Wi4 v True)->K (.slice (some (aQ h.size)) n.toNat cap) (h.push (.cells row elem))):ZC6 P f #[iQ n] h K:=by
 unfold ZC6 callFunc
 have h4':Extern.findNext fn=none:=Option.isNone_iff_eq_none.1 h4
 clear h4
 rw [Wa6,Wp5,h1]
 show hp P (if (fn.name == "runtime.NumGoroutine")=true then _ else _) _ h
 rw [h2]
 show hp P (if fn.body.isNone=true then _ else _) _ h
 rw [h3,if_pos rfl,Wa6]
 show hp P (match Extern.findNext fn with | some e=>e #[.int .i64 n] | _=>_) _ h
 generalize Extern.findNext fn=o1 at *
 subst h4'
 show hp P (match Extern.find fn with | some e=>(do let x <- e #[.int .i64 n];pure (Next.value x)) | none=>_) _ h
 generalize Extern.find fn=o2 at *
 subst h5
 show hp P (do let x <- Extern.BytealgMakeNoZero.makeNoZero ps rs #[iQ n];pure (Next.value x)) _ h
 rw [Wa6]
 have eu:Extern.BytealgMakeNoZero.makeNoZero ps rs #[iQ n]=(do
   let some t:=rs[0]? | stuck "bytealg.MakeNoZero: no result type"
   let .slice elem <- underlying t | stuck "bytealg.MakeNoZero: slice type expected"
   if n < 0 || n > 2 ^ 48 then runtimePanic (.error "makeslice: len out of range")
   let cap <- choose (.appendCap n.toNat 0 elem)
   askRoom cap
   let bytes <- choose (.extern "internal/bytealg.MakeNoZero.bytes" 0)
   let a <- newRow elem (Extern.BytealgMakeNoZero.digits cap bytes #[])
   pure (.slice (some a) n.toNat cap)):=rfl
 rw [eu]
 clear eu
 simp only [h6,Wa6,Wa8 h7,Wc0]
 rw [if_neg (by simp only [Bool.or_eq_true,decide_eq_true_eq];omega)]
 show ∀tp,_
 intro tp
 rw [if_neg (by simp [Question.forced])]
 obtain ⟨cap,hcp⟩ : ∃cap,cap=(Question.appendCap n.toNat 0 elem).cut tp:=⟨_,rfl⟩
 have hcap2:n.toNat<=cap:=by rw [hcp];simp [Question.cut]
 rw [<- hcp]
 show hp P (do
    askRoom cap
    let bytes <- choose (Question.extern "internal/bytealg.MakeNoZero.bytes" 0)
    let a <- newRow elem (Extern.BytealgMakeNoZero.digits cap bytes #[])
    pure (Value.slice (some a) n.toNat cap)) _ h
 simp only [Wa6,Wc0,Wt4]
 show ∀tp,_
 intro tp2
 rw [if_neg (by simp [Question.forced])]
 have dd:=W36 cap ((Question.extern "internal/bytealg.MakeNoZero.bytes" 0).cut tp2) #[] (λv hv=>by simp at hv)
 exact k cap _ hcap2 (by rw [dd.1];simp) dd.2
theorem YR2 {h:Wa2} {n:Int} {K:kQ} (hn:0<=n/\n<=2 ^ 48) (k:∀(cap:Nat) (row:Array Value),n.toNat<=cap->row.size=cap->(∀v ∈ row.toList,Wi4 v True)->K (.slice (some (aQ h.size)) n.toNat cap) (h.push (.cells row 5))) :
  YR8 Tryz.prog (.func (.func 276) #[] #[]) #[iQ n] h K:=by
 unfold YR8
 exact YR1 (elem:=5) (t:=26) (ps:=#[3]) (rs:=#[26]) Tryz.func276 (by kernel_rfl) (by kernel_rfl) (by kernel_rfl) (by kernel_rfl) rfl (by kernel_rfl) hn k
theorem Zc8 {h:Wa2} {p:Nat} {q:Option Addr} {n:Int} {K:kQ} (e:h[p]? = some (.cells #[.pointer q,.slice none 0 0] 162)) (hq:q=none\/q=some (aQ p)) (hn:0<=n/\n<=2 ^ 40)
  (k:∀h',Bld h' p ⟨#[]⟩->h.size<=h'.size->(∀c,c < p->h'[c]? = h[c]?)->K (.tuple #[]) h') :
  Wa5 Tryz.prog 200 #[.pointer (some (aQ p)),iQ n] h K:=by
 refine call200 ?_
 unfold F200 lS nP
 have hp1:p < h.size:=(Array.getElem?_eq_some_iff.1 e).1
 simp only [Wb8,Wb1]
 refine ldR e rfl ?_
 simp only [Wb0]
 refine ldR e rfl ?_
 simp only [Wb0]
 refine ⟨Wd3 e rfl,?_⟩
 have ew:IntKind.i64.wrap (IntKind.i64.wrap (2*((0:Nat):Int))+n)=n:=by
  rw [show (2*((0:Nat):Int))=0 from rfl,show IntKind.i64.wrap 0=0 by decide,Int.zero_add]
  exact Wk5 (by omega) (by omega)
 rw [ew]
 refine YR2 (by omega) λcap row hcap hrow hone=>?_
 have e1:(h.push (.cells row 5))[p]? = some (.cells #[.pointer q,.slice none 0 0] 162):=(Wj0 _ _ _ hp1).trans e
 have n1:(h.push (.cells row 5))[h.size]? = some (.cells row 5):=by simp
 have s1:(h.push (.cells row 5)).size=h.size+1:=by simp
 have o1:∀c,c < h.size->(h.push (.cells row 5))[c]? = h[c]?:=λc hc=>Wj0 _ _ _ hc
 generalize h.push (.cells row 5)=h1 at *
 simp only [Wb0]
 refine ⟨Wd3 e1 rfl,by omega,by omega,?_⟩
 refine ldR e1 rfl ?_
 simp only [Wb0]
 rw [Yb9]
 have ow:Own h1 5 (siz Tryz.prog 5) (some (aQ h.size)) 0 cap []:=⟨by simp,Nat.zero_le _,.inr ⟨h.size,row,rfl,n1,by rw [WE1];omega,by simp⟩⟩
 refine Zg3 (i:=0) (m:=0) (vs:=[]) WS0 W13 ow (λi v hv=>by simp at hv) (by simp) (by simp) (λy hy=>by cases hy) (by omega) (.inl rfl) λh2 ow2 fr2 s2=>?_
 simp only [iv,Wa4,Wb8,Wb1]
 have e2:h2[p]? = some (.cells #[.pointer q,.slice none 0 0] 162):=(fr2.2 p (by omega) (λhb=>by obtain ⟨ad,ea,eb⟩:=hb;cases ea;simp at eb;omega)).trans e1
 refine stR e2 rfl trivial λh3 w=>?_
 have ow3:=ow2.keep (h':=h3) λad ea=>by cases ea;exact w.old _ (by show h.size≠p;omega)
 rw [WE1] at ow3
 refine k h3 ⟨q,_,0,cap - 0,w.new,hq,?_,λad ea=>by cases ea;exact hp1⟩ (by rw [w.size,s2];omega) (λc hc=>?_)
 ·rw [show bcs ⟨#[]⟩ = [] from rfl]
  simpa using ow3
 ·exact (w.old c (by show c≠p;omega)).trans ((fr2.2 c (by omega) (λhb=>by obtain ⟨ad,ea,eb⟩:=hb;cases ea;simp at eb;omega)).trans (o1 c (by omega)))
theorem Zc9 {h:Wa2} {p:Nat} {n:Int} {K:kQ} (e:h[p]? = some (.cells #[.pointer none,.slice none 0 0] 162)) (hn:0<=n/\n<=2 ^ 40)
  (k:∀h',Bld h' p ⟨#[]⟩->h.size<=h'.size->(∀c,c < p->h'[c]? = h[c]?)->K (.tuple #[]) h') :
  Wa5 Tryz.prog 129 #[.pointer (some (aQ p)),iQ n] h K:=by
 refine call129 ?_
 unfold F129 cf lS nP
 refine Wa0 (WF7 e (.inl rfl) λh1 e1 s1 o1=>?_)
 refine ⟨λ_ h'=>h' = h1,Wa3 (λc=>by omega) (λ_=>rfl),?_⟩
 rintro g h4 rfl
 simp only [Wb8,Wb1]
 refine ldR e1 rfl ?_
 simp only [Wb0]
 refine ldR e1 rfl ?_
 simp only [Wb0]
 refine ⟨Wd3 e1 rfl,?_⟩
 refine Wa3 (λc=>?_) (λc=>?_)
 ·exact Wa0 (Zc8 e1 (.inr rfl) hn λh5 B h6 h7=>k h5 B (by omega) λc hc=>(h7 c hc).trans (o1 c (by omega)))
 ·exact k h4 ⟨_,none,0,0,e1,.inr rfl,by simpa [bcs] using Own.nil _ _ _,λad ea=>by cases ea⟩ (by omega) λc hc=>o1 c (by omega)
def Yw6 (sep:ByteArray):List ByteArray->ByteArray
 | []=>⟨#[]⟩
 | x :: l=>l.foldl (λs y=>s ++ sep ++ y) x
def Yj6 (l:List ByteArray):Nat:=(l.map ByteArray.size).sum
theorem WY1 (l:List ByteArray) {i:Nat} (hi:i < l.length):Yj6 (l.take (i+1))=Yj6 (l.take i)+l[i].size:=by
 unfold Yj6
 rw [List.take_succ_eq_append_getElem hi,List.map_append,List.sum_append]
 simp
theorem WY2 (l:List ByteArray) (i:Nat):Yj6 (l.take i)<=Yj6 l:=by
 have e:Yj6 l=Yj6 (l.take i)+Yj6 (l.drop i):=by
  unfold Yj6
  rw [<- List.sum_append,<- List.map_append,List.take_append_drop]
 omega
theorem WY3 (sep:ByteArray):∀(l:List ByteArray) (x:ByteArray),(l.foldl (λs y=>s ++ sep ++ y) x).size=x.size+sep.size*l.length+Yj6 l
 | [],x=>by simp [Yj6]
 | y :: l,x=>by
  rw [List.foldl_cons,WY3 sep l]
  rw [ByteArray.size_append,ByteArray.size_append]
  unfold Yj6
  rw [List.map_cons,List.sum_cons,List.length_cons,Nat.mul_succ]
  omega
theorem Zd0 (x:ByteArray):(⟨#[]⟩ : ByteArray) ++ x=x:=by
 have e:(⟨#[]⟩ : ByteArray)=ByteArray.empty:=rfl
 rw [e,ByteArray.empty_append]
theorem ZR0 (a:Addr):a.add 0=a:=by cases a;simp [Addr.add]
theorem YR3 (sep:ByteArray) (l:List ByteArray):(Yw6 sep l).size<=sep.size*l.length+Yj6 l:=by
 cases l with
 | nil=>exact Nat.zero_le _
 | cons x l=>
  have:=WY3 sep l x
  show (l.foldl (λs y=>s ++ sep ++ y) x).size<=_
  rw [this]
  unfold Yj6
  rw [List.map_cons,List.sum_cons,List.length_cons,Nat.mul_succ]
  omega
theorem YR4 (sep:ByteArray) (l:List ByteArray) {i:Nat} (hi:i+1 < l.length):Yw6 sep (l.take (i+2))=Yw6 sep (l.take (i+1)) ++ sep ++ l[i+1]:=by
 cases l with
 | nil=>simp at hi
 | cons x l=>
  have hi2:i < l.length:=by simp at hi;omega
  rw [List.take_succ_cons,List.take_succ_cons,List.take_succ_eq_append_getElem hi2]
  show (l.take i ++ [l[i]]).foldl (λs y=>s ++ sep ++ y) x=_
  rw [List.foldl_append]
  rfl
theorem Zd1 {h:Wa2} {a:Option Addr} {n c:Nat} {l:List ByteArray} {sep:ByteArray} {K:kQ} (hs:Sees h a (l.map .string)) (hn:l.length=n) (hc:n<=c) (h0:sep.size≠0) (hb:sep.size*n+Yj6 l<=2 ^ 29) (k:∀h',Old h.size h h'->K (.string (Yw6 sep l)) h') :
  Wa5 Tryz.prog 76 #[.slice a n c,.string sep] h K:=by
 refine call76 ?_
 unfold F76 cf bd
 subst hn
 have hlen:l.length<=2 ^ 29:=by
  have:l.length<=sep.size*l.length:=Nat.le_mul_of_pos_left _ (by omega)
  omega
 have ld:∀ {h':Wa2},Old h.size h h'->∀(i:Nat) (hi:i < l.length) {F:Value->Prop},F (.string l[i])->Wd2 (.pointer a) λa0=>ldH h' (a0.add i) F:=by
  intro h' o i hi F f
  obtain ⟨ad,e,hc⟩:=hs i (.string l[i]) (by rw [List.getElem?_map,List.getElem?_eq_getElem hi];rfl)
  subst e
  have hb:=hs.old o
  obtain ⟨_,e2,hc2⟩:=hb i (.string l[i]) (by rw [List.getElem?_map,List.getElem?_eq_getElem hi];rfl)
  cases e2
  exact Wb4 hc2 f
 have ld0:∀ {h':Wa2},Old h.size h h'->∀(hi:0 < l.length) {F:Value->Prop},F (.string l[0])->Wd2 (.pointer a) λa0=>ldH h' a0 F:=by
  intro h' o hi F f
  have:=ld o 0 hi f
  simp only [ZR0] at this
  exact this
 refine Wb6 (λq=>?_) (λq=>?_)
 ·have e:l = []:=List.length_eq_zero_iff.1 (by simpa using q)
  rw [e] at k
  exact k h (Old.refl _ _)
 refine Wb6 (λq1=>?_) (λq1=>?_)
 ·have e1:l.length=1:=by simp at q1;omega
  refine ⟨by omega,by omega,?_⟩
  obtain ⟨x,e⟩:=List.length_eq_one_iff.1 e1
  subst e
  exact ld0 (Old.refl _ _) (by simp) (F:=λv1=>We4 v1 λs2=>K (.string s2) h) (k h (Old.refl _ _))
 have h2:2<=l.length:=by
  have a1:¬ l.length=0:=λe=>by simp [e] at q
  have a2:¬ l.length=1:=λe=>by simp [e] at q1
  omega
 have hn1:IntKind.i64.wrap ((l.length:Int) - 1)=((l.length - 1:Nat):Int):=by rw [Wk5 (by omega) (by omega)];omega
 have hmul:sep.size*(l.length - 1)<=sep.size*l.length:=Nat.mul_le_mul_left _ (by omega)
 rw [hn1]
 refine ⟨λvs h'=>∃n0:Nat,n0<=sep.size*l.length/\vs = [iQ n0]/\h' = h,?_,?_⟩
 ·refine Wa3 (λq2=>?_) (λq2=>⟨0,by omega,rfl,rfl⟩)
  refine ⟨λ_ h'=>h' = h,?_,?_⟩
  ·refine ⟨by omega,Wa3 (λq3=>?_) λ_=>rfl⟩
   exfalso
   have t1:Int.tdiv 9223372036854775807 ((l.length - 1:Nat):Int)=9223372036854775807 / ((l.length - 1:Nat):Int):=Int.tdiv_eq_ediv_of_nonneg (by omega)
   have t2:(2:Int) ^ 30<=9223372036854775807 / ((l.length - 1:Nat):Int):=by
    rw [Int.le_ediv_iff_mul_le (by omega)]
    omega
   have t3:9223372036854775807 / ((l.length - 1:Nat):Int)<=9223372036854775807:=Int.ediv_le_self _ (by omega)
   rw [t1,Wk5 (by omega) (by omega)] at q3
   have:sep.size<=sep.size*l.length:=Nat.le_mul_of_pos_right _ (by omega)
   omega
  ·rintro g h' rfl
   refine ⟨sep.size*(l.length - 1),hmul,?_,rfl⟩
   have e1:IntKind.i64.wrap ((sep.size:Int)*((l.length - 1:Nat):Int))=((sep.size*(l.length - 1):Nat):Int):=by
    rw [<- Int.natCast_mul,Wk5 (by omega) (by omega)]
   rw [e1,Int.zero_add,Wk5 (by omega) (by omega)]
 rintro v7 g8 h9 ⟨n0,hn0,e,rfl⟩
 cases e
 refine ⟨λvs h'=>∃(m i:Nat) (u:Value),vs = [.int .i64 m,u,.int .i64 i]/\i<=l.length/\m<=n0+Yj6 (l.take i)/\h' = h9,λvs _=>match vs with | [_,_,.int _ i]=>((l.length:Int) - i).toNat | _=>0,⟨n0,0,_,rfl,Nat.zero_le _,by omega,rfl⟩,?_⟩
 rintro v12 v13 v14 g15 h16 ⟨m,i,u,e,hi,hm,rfl⟩
 cases e
 have hsl:=WY2 l i
 simp only [Wa4]
 refine Wa3 (λc1=>?_) (λc1=>?_)
 ·have hilt:i < l.length:=by omega
  have hst:=WY1 l hilt
  have hsl2:=WY2 l (i+1)
  simp only [asI]
  refine ⟨by omega,by omega,?_⟩
  simp only [Int.toNat_natCast,Nat.mul_one]
  refine ld (Old.refl _ _) i hilt ?_
  simp only [We4]
  refine ⟨λ_ h'=>h' = h16,Wa3 (λq3=>?_) (λ_=>rfl),?_⟩
  ·rw [Wk5 (by omega) (by omega)] at q3
   omega
  rintro g h' rfl
  rw [Wk5 (by omega) (by omega),Wk5 (by omega) (by omega)]
  refine ⟨⟨m+l[i].size,i+1,_,by rw [Int.natCast_add,Int.natCast_add];rfl,by omega,by omega,rfl⟩,?_⟩
  show ((l.length:Int) - ((i:Int)+1)).toNat < ((l.length:Int) - (i:Int)).toNat
  omega
 have pp:(h16.push (.cells #[.pointer none,.slice none 0 0] 162))[h16.size]? = some (.cells #[.pointer none,.slice none 0 0] 162):=by simp
 have o1:Old h16.size h16 (h16.push (.cells #[.pointer none,.slice none 0 0] 162)):=(Old.refl _ _).push _ (Nat.le_refl _)
 generalize h16.push (.cells #[.pointer none,.slice none 0 0] 162)=h17 at *
 refine Wa0 (Zc9 pp (by omega) λh30 B30 s30 o30=>?_)
 have o2:Old h16.size h16 h30:=⟨by have:=o1.1;omega,λb hb=>(o30 b hb).trans (o1.2 b hb)⟩
 refine ⟨by omega,by omega,?_⟩
 refine ld0 o2 (by omega) ?_
 simp only [We4]
 have z0:l[0].size<=Yj6 l:=by
  have:=WY1 l (i:=0) (by omega)
  have:=WY2 l (0+1)
  omega
 refine Wa0 (Wr9 B30 (by show 0+l[0].size<=_;omega) λh35 B35 s35 o35=>?_)
 rw [Zd0] at B35
 have o3:Old h16.size h16 h35:=⟨by have:=o2.1;omega,λb hb=>(o35 b hb).trans (o2.2 b hb)⟩
 refine ⟨by omega,by omega,?_⟩
 refine ⟨λvs h'=>∃(i:Nat) (u:Value),vs = [u,.int .i64 i]/\i<=l.length - 1/\Bld h' h16.size (Yw6 sep (l.take (i+1)))/\Old h16.size h16 h',λvs _=>match vs with | [_,.int _ i]=>((l.length:Int) - i).toNat | _=>0,⟨0,_,rfl,by omega,?_,o3⟩,?_⟩
 ·rw [List.take_succ_eq_append_getElem (by omega)]
  exact B35
 rintro v38 v39 g40 h41 ⟨i,u,e,hi,B41,o41⟩
 cases e
 have jz:=YR3 sep (l.take (i+1))
 have js:=WY2 l (i+1)
 have jl:sep.size*(l.take (i+1)).length<=sep.size*(i+1):=Nat.mul_le_mul_left _ (by rw [List.length_take];omega)
 simp only [Wa4]
 refine Wa3 (λc1=>?_) (λc1=>?_)
 ·have hilt:i+1 < l.length:=by omega
  have hst:=WY1 l hilt
  have hsl2:=WY2 l (i+1+1)
  have jm:sep.size*(i+1)+sep.size<=sep.size*l.length:=by rw [<- Nat.mul_succ];exact Nat.mul_le_mul_left _ (by omega)
  simp only [asI]
  refine ⟨by omega,by omega,?_⟩
  simp only [Int.toNat_natCast,Nat.mul_one]
  have hsub:=(hs.old o41).subn (n:=1) (i:=1) (m:=c) (by rw [List.length_map];omega) (by omega)
  obtain ⟨ad,e,hc1⟩:=hsub i (.string l[i+1]) (by rw [List.getElem?_drop,List.getElem?_map,show 1*1+i=i+1 by omega,List.getElem?_eq_getElem hilt];rfl)
  rw [e]
  simp only [Wb1]
  refine Wb4 hc1 ?_
  simp only [We4]
  refine Wa0 (Wr9 B41 (by omega) λh48 B48 s48 o48=>?_)
  refine Wa0 (Wr9 B48 (by rw [ByteArray.size_append];omega) λh50 B50 s50 o50=>?_)
  rw [<- YR4 sep l hilt] at B50
  rw [Wk5 (by omega) (by omega)]
  refine ⟨⟨i+1,_,rfl,by omega,B50,⟨by have:=o41.1;omega,λb hb=>(o50 b hb).trans ((o48 b hb).trans (o41.2 b hb))⟩⟩,?_⟩
  show ((l.length:Int) - ((i:Int)+1)).toNat < ((l.length:Int) - (i:Int)).toNat
  omega
 have ei:l.take (i+1)=l:=List.take_of_length_le (by omega)
 rw [ei] at B41 jz
 have hz:(Yw6 sep l).size≠0:=by
  cases l with
  | nil=>simp at h2
  | cons x l=>
   have:=WY3 sep l x
   show (l.foldl (λs y=>s ++ sep ++ y) x).size≠0
   rw [this]
   have hl1:1<=l.length:=by simp at h2;omega
   have:sep.size*1<=sep.size*l.length:=Nat.mul_le_mul_left _ hl1
   omega
 refine Wa0 (Ym4 B41 hz (by omega) λh53 s53 o53=>?_)
 simp only [We4]
 exact k h53 ⟨by have:=o41.1;omega,λb hb=>(o53 b (by omega)).trans (o41.2 b hb)⟩
end
section
set_option maxHeartbeats 1000000
open Mod
section
variable {K:kQ} {h:Wa2} {R:Hp}
theorem WK8 {x:Int} (h0:0<=x) (h1:x < 4294967296) (k:∀h',Old h.size h h'->K (.string (dgI x)) h'):Wa5 Tryz.prog 73 #[iv x] h K:=by
 refine call73 ?_
 unfold F73 cf
 obtain ⟨n,rfl⟩ : ∃n:Nat,x=n:=⟨x.toNat,by omega⟩
 rw [YV8 (n:=n) (by omega)]
 refine Wa0 (W52 (a:=n) (b:=0) (by omega) (by omega) λh1 o1=>?_)
 simp only [We4]
 have e:dg n ++ (⟨#[32]⟩ : ByteArray) ++ dg 0=dg n ++ (⟨#[32,48]⟩ : ByteArray):=by
  rw [ByteArray.append_assoc];rfl
 rw [e]
 have:=Ym1 n
 refine Wa0 (WS2 (by omega) (show (2:Nat) < 2 ^ 60 by omega) ?_)
 exact k _ o1
theorem YR5 (k:∀h',Old h.size h h'->K (.string ⟨#[119,111,114,100,32,48]⟩) h'):Wa5 Tryz.prog 75 #[iQ 0,iQ 0,iQ 0] h K:=by
 refine call75 ?_
 unfold F75 cf
 refine Wb6 (λ_=>?_) (λhh=>by simp at hh)
 refine Wa0 (WK8 (x:=0) (by omega) (by omega) λh1 o1=>?_)
 simp only [We4]
 refine ⟨by rw [show (dgI 0).size=1 by decide +kernel];omega,?_⟩
 rw [show (⟨#[119,111,114,100,32]⟩ : ByteArray) ++ dgI 0=⟨#[119,111,114,100,32,48]⟩ by decide +kernel]
 exact k h1 o1
theorem YR6 (k:∀h',Old h.size h h'->K (.agg #[.string ⟨#[108,111,97,100]⟩,.string ⟨#[115,116,111,114,101]⟩,.string ⟨#[99,97,115]⟩,.string ⟨#[97,100,100]⟩,.string ⟨#[100,99,97,115]⟩,.string ⟨#[100,99,115,115]⟩]) h'):Wa5 Tryz.prog 74 #[] h K:=by
 refine call74 ?_
 unfold F74 dl6
 have p1:=Wf2 h #[.string ⟨#[]⟩,.string ⟨#[]⟩,.string ⟨#[]⟩,.string ⟨#[]⟩,.string ⟨#[]⟩,.string ⟨#[]⟩] 136
 generalize h.push (.cells #[.string ⟨#[]⟩,.string ⟨#[]⟩,.string ⟨#[]⟩,.string ⟨#[]⟩,.string ⟨#[]⟩,.string ⟨#[]⟩] 136)=h1 at *
 refine Wd9 (vs:=[.string ⟨#[108,111,97,100]⟩,.string ⟨#[115,116,111,114,101]⟩,.string ⟨#[99,97,115]⟩,.string ⟨#[97,100,100]⟩,.string ⟨#[100,99,97,115]⟩,.string ⟨#[100,99,115,115]⟩]) p1.new rfl (by simp [Wi4]) λh2 w=>?_
 have Q:=w.new
 refine ldR Q rfl (ldR Q rfl (ldR Q rfl (ldR Q rfl (ldR Q rfl (ldR Q rfl ?_)))))
 exact k h2 (w.toOld p1.toOld (Nat.le_refl _))
theorem Yj7 (k:K (.bool false) h):Wa5 Tryz.prog 52 #[iQ 0] h K:=by
 refine call52 ?_
 unfold F52
 exact Wb6 (λhh=>by simp at hh) (λ_=>k)
theorem Yw7 (k:K (.bool false) h):Wa5 Tryz.prog 54 #[iQ 0] h K:=by
 refine call54 ?_
 unfold F54 cf
 exact Wb6 (λhh=>by simp at hh) (λ_=>Wa0 (Yj7 k))
theorem YR7 (k:∀h',Old h.size h h'->K (.string ⟨#[48,32,108,111,97,100,32,119,111,114,100,32,48]⟩) h') :
  Wa5 Tryz.prog 37 #[.agg #[iQ 0,iQ 0,.bool false,iQ 0,iQ 0,iQ 0,iQ 5,iQ 0,iQ 0]] h K:=by
 refine call37 ?_
 unfold F37 g37 cf ce bd lI de6
 have p1:=Wf2 h #[iQ 0,iQ 0,.bool false,iQ 0,iQ 0,iQ 0,iQ 5,iQ 0,iQ 0] 51
 generalize h.push (.cells #[iQ 0,iQ 0,.bool false,iQ 0,iQ 0,iQ 0,iQ 5,iQ 0,iQ 0] 51)=h1 at *
 have o1:=p1.toOld
 have Q:=p1.new
 refine ⟨λvs h'=>(∃v1 v2 v3,vs = [v1,v2,v3,.bool false])/\h' = h1,?_,?_⟩
 ·refine ldR Q rfl ?_
  simp only [Wa4]
  refine Wb6 (λhh=>by simp at hh) (λ_=>?_)
  refine ldR Q rfl ?_
  simp only [Wa4]
  refine Wb6 (λhh=>by simp at hh) (λ_=>?_)
  refine ldR Q rfl ?_
  simp only [Wa4]
  refine Wb6 (λhh=>by simp at hh) (λ_=>?_)
  refine ldR Q rfl ?_
  simp only [Wa4]
  refine Wb6 (λhh=>by simp at hh) (λ_=>?_)
  refine ldR Q rfl ?_
  simp only [Wa4]
  refine ldR Q rfl ?_
  simp only [Wa4]
  refine ldR Q rfl ?_
  simp only [Wa4]
  refine ldR Q rfl ?_
  simp only [Wa4]
  unfold Wh7
  simp only [Yz3,Wa4]
  unfold Wh7.go Wh7.go Wh7.go Wh7.go
  simp only [Wa4]
  exact ⟨⟨_,_,_,rfl⟩,by trivial⟩
 rintro v20 v21 v22 v23 g24 h25 ⟨⟨v1,v2,v3,e⟩,rfl⟩
 cases e
 simp only [Wa9,Wc5]
 refine ldR Q rfl ?_
 simp only [Wa4]
 refine ldR Q rfl ?_
 simp only [Wa4]
 refine ldR Q rfl ?_
 simp only [Wa4]
 refine ldR Q rfl ?_
 simp only [Wa4]
 refine ldR Q rfl ?_
 simp only [Wa4]
 have hlt:h.size < h25.size:=(Array.getElem?_eq_some_iff.1 Q).1
 refine Wa0 (WK8 (x:=0) (by omega) (by omega) λh3 o3=>?_)
 have Q3:=(o3.2 h.size hlt).trans Q
 simp only [We4]
 repeat (first | refine ⟨Wd3 Q3 rfl,?_⟩)
 refine Wa0 (YR6 λh4 o4=>?_)
 have Q4:=(o4.2 h.size (by have:=o3.1;omega)).trans Q3
 simp only [WJ1]
 refine WE0 rfl (Wd1 rfl (Wd1 rfl (Wd1 rfl (Wd1 rfl (Wd1 rfl (Wd1 rfl ?_))))))
 repeat (first | refine ⟨Wd3 Q4 rfl,?_⟩)
 refine ⟨by omega,by omega,?_⟩
 refine YW3 (cs:=[.string ⟨#[108,111,97,100]⟩,.string ⟨#[115,116,111,114,101]⟩,.string ⟨#[99,97,115]⟩,.string ⟨#[97,100,100]⟩,.string ⟨#[100,99,97,115]⟩,.string ⟨#[100,99,115,115]⟩]) (i:=0) (v:=.string ⟨#[108,111,97,100]⟩) (by kernel_rfl) (by kernel_rfl) rfl ?_
 simp only [We4]
 refine Wa0 (YR5 λh5 o5=>?_)
 have hl4:h.size < h4.size:=(Array.getElem?_eq_some_iff.1 Q4).1
 have Q5:=(o5.2 h.size hl4).trans Q4
 simp only [We4]
 refine ⟨Wd3 Q5 rfl,?_⟩
 have hl5:h.size < h5.size:=(Array.getElem?_eq_some_iff.1 Q5).1
 have oo5:Old h.size h h5:=((o1.trans (o3.mono (by omega))).trans (o4.mono (by have:=o3.1;omega))).trans (o5.mono (by omega))
 rw [show dgI 0=⟨#[48]⟩ by decide +kernel]
 have p6:=Wf2 h5 #[.string ⟨#[48]⟩,.string ⟨#[108,111,97,100]⟩,.string ⟨#[119,111,114,100,32,48]⟩] 9
 have o6:=p6.toOld
 have Q6:=(o6.2 h.size hl5).trans Q5
 generalize h5.push (.cells #[.string ⟨#[48]⟩,.string ⟨#[108,111,97,100]⟩,.string ⟨#[119,111,114,100,32,48]⟩] 9)=h6 at *
 refine ⟨λvs h'=>vs = [.slice (some (aQ h5.size)) 3 3]/\h' = h6,?_,?_⟩
 ·refine ldR Q6 rfl ?_
  simp only [Wa4]
  refine Wa0 (Yj7 ?_)
  simp only [Wa9,Wc5]
  exact ⟨by trivial,by trivial⟩
 rintro v74 g75 h76 ⟨e,rfl⟩
 cases e
 refine ⟨λvs h'=>(∃u,vs = [.slice (some (aQ h5.size)) 3 3,u])/\h' = h76,?_,?_⟩
 ·refine ldR Q6 rfl ?_
  simp only [Wa4]
  refine Wa0 (Yw7 ?_)
  simp only [Wa9,Wc5]
  exact ⟨⟨_,rfl⟩,by trivial⟩
 rintro v98 v99 g100 h101 ⟨⟨u,e⟩,rfl⟩
 cases e
 simp only [Wb0]
 refine Wa0 (Zd1 (l:=[⟨#[48]⟩,⟨#[108,111,97,100]⟩,⟨#[119,111,114,100,32,48]⟩]) (sep:=⟨#[32]⟩) (λi v hi=>⟨_,rfl,?_⟩) rfl (by omega) (by decide) (by decide) λh7 o7=>?_)
 ·rw [Wc4,Nat.zero_add]
  exact Wd3 p6.new hi
 simp only [We4]
 rw [show Yw6 ⟨#[32]⟩ [⟨#[48]⟩,⟨#[108,111,97,100]⟩,⟨#[119,111,114,100,32,48]⟩]=⟨#[48,32,108,111,97,100,32,119,111,114,100,32,48]⟩ by decide +kernel]
 have hl6:h.size < h101.size:=(Array.getElem?_eq_some_iff.1 Q6).1
 exact k h7 ((oo5.trans (o6.mono (by omega))).trans (o7.mono (by omega)))
noncomputable def x34:TrS:=Zc2 Wh5 11 [[⟨0,1,0⟩]] (Wi7 ⟨0,1,2,1,1,1,1⟩ [] false).watch [0]
theorem ZP7:x34.l = [⟨0,0,false,(0,0,0),(5,0,0)⟩]:=by
 unfold x34 Zc2
 rw [List.foldl_cons,List.foldl_nil]
 have e0:TrS.enter 11 [[⟨0,1,0⟩]] ⟨(Wi7 ⟨0,1,2,1,1,1,1⟩ [] false).watch,List.replicate 1 0,[]⟩ 0=some ⟨((Wi7 ⟨0,1,2,1,1,1,1⟩ [] false).watch).setTh [(WE2 ⟨0,1,2,1,1,1,1⟩).push 11 [1,0]],[1],[]⟩:=by
  unfold TrS.enter
  rw [if_pos (show (We8 (Wi7 ⟨0,1,2,1,1,1,1⟩ [] false).watch 0).fr = [] from rfl),if_neg (by decide)]
  rfl
 have e1:TrS.pick Wh5 11 [[⟨0,1,0⟩]] ⟨(Wi7 ⟨0,1,2,1,1,1,1⟩ [] false).watch,List.replicate 1 0,[]⟩ 0=TrS.go Wh5 ⟨((Wi7 ⟨0,1,2,1,1,1,1⟩ [] false).watch).setTh [(WE2 ⟨0,1,2,1,1,1,1⟩).push 11 [1,0]],[1],[]⟩ 0:=by
  unfold TrS.pick
  show (match TrS.enter 11 [[⟨0,1,0⟩]] ⟨(Wi7 ⟨0,1,2,1,1,1,1⟩ [] false).watch,List.replicate 1 0,[]⟩ 0 with | none=>(⟨(Wi7 ⟨0,1,2,1,1,1,1⟩ [] false).watch,List.replicate 1 0,[]⟩ : TrS) | some s1=>s1.go Wh5 0)=_
  rw [e0]
 show ((TrS.pick Wh5 11 [[⟨0,1,0⟩]] ⟨(Wi7 ⟨0,1,2,1,1,1,1⟩ [] false).watch,List.replicate 1 0,[]⟩ 0).note 0).l=_
 rw [e1]
 have hb:((Mod.bits Wh5 9 ⟨Mac.quiet (((Wi7 ⟨0,1,2,1,1,1,1⟩ [] false).watch).setTh [(WE2 ⟨0,1,2,1,1,1,1⟩).push 11 [1,0]]),(WE2 ⟨0,1,2,1,1,1,1⟩).push 11 [1,0],0⟩).map λz=>(z.m.mm.lg.map (Wk8 z.m.p 0)).map λx=>(x.th,x.kind,x.done,x.w1,x.w2))=some [(0,0,false,(0,0,0),(5,0,0))]:=by kernel_rfl
 obtain ⟨z,hz,hl⟩ : ∃z,Mod.bits Wh5 9 ⟨Mac.quiet (((Wi7 ⟨0,1,2,1,1,1,1⟩ [] false).watch).setTh [(WE2 ⟨0,1,2,1,1,1,1⟩).push 11 [1,0]]),(WE2 ⟨0,1,2,1,1,1,1⟩).push 11 [1,0],0⟩=some z/\(z.m.mm.lg.map (Wk8 z.m.p 0)).map (λx=>(x.th,x.kind,x.done,x.w1,x.w2)) = [(0,0,false,(0,0,0),(5,0,0))]:=by
  rw [Option.map_eq_some_iff] at hb
  exact hb
 have hs:=WQ2 hz
 show (TrS.note { m:=(Wx6 Wh5 ⟨Mac.quiet (((Wi7 ⟨0,1,2,1,1,1,1⟩ [] false).watch).setTh [(WE2 ⟨0,1,2,1,1,1,1⟩).push 11 [1,0]]),(WE2 ⟨0,1,2,1,1,1,1⟩).push 11 [1,0],0⟩).m.setTh _,nx:=_,l:=_ } 0).l=_
 rw [hs]
 show [] ++ (z.m.mm.lg.drop 0).map (Wk8 z.m.p 0)=_
 rw [List.drop_zero,List.nil_append]
 generalize z.m.mm.lg.map (Wk8 z.m.p 0)=L at hl ⊢
 match L,hl with
 | [⟨a,b,c,d,e⟩],hl=>
  simp only [List.map_cons,List.map_nil,List.cons.injEq,Prod.mk.injEq,and_true] at hl
  obtain ⟨rfl,rfl,rfl,rfl,rfl⟩:=hl
  rfl
theorem Yj8 (H:Sat h R) (k:∀h',Sat h' R->K (.bool true) h'):Wa5 Tryz.prog 13 #[] h K:=by
 refine call13 ?_
 unfold F13 g13 cf bd da9
 have H1:=H.push (.cells (clc ⟨0,1,0⟩).toArray 41)
 rw [show h.push (.cells #[iQ 0,.int .u32 1,.int .u32 0] 41)=h.push (.cells (clc ⟨0,1,0⟩).toArray 41) from rfl]
 generalize h.push (.cells (clc ⟨0,1,0⟩).toArray 41)=h1 at *
 generalize h.size=B1 at *
 have H2:=H1.push (.cells [Value.slice (some (aQ B1)) 1 1].toArray 58)
 rw [show h1.push (.cells #[.slice (some (aQ B1)) 1 1] 58)=h1.push (.cells [Value.slice (some (aQ B1)) 1 1].toArray 58) from rfl]
 generalize h1.push (.cells [Value.slice (some (aQ B1)) 1 1].toArray 58)=h2 at *
 generalize h1.size=B2 at *
 have H3:=H2.push (.cells [Value.int .i64 0].toArray 3)
 rw [show h2.push (.cells #[iQ 0] 3)=h2.push (.cells [Value.int .i64 0].toArray 3) from rfl]
 generalize h2.push (.cells [Value.int .i64 0].toArray 3)=h3 at *
 generalize h2.size=B3 at *
 have hc:okC ⟨0,1,2,1,1,1,1⟩=true:=by decide
 have hsc:Y60 ⟨0,1,2,1,1,1,1⟩ [[⟨0,1,0⟩]] [0] []=true:=by decide
 have hS:∀h' P,Sat h' (P*(pt B3 (.cells [Value.int .i64 0].toArray 3)*(pt B2 (.cells [Value.slice (some (aQ B1)) 1 1].toArray 58)*(pt B1 (.cells (clc ⟨0,1,0⟩).toArray 41)*R))))->ScrI h' (some (aQ B2)) 1 (some (aQ B3)) 1 none 0 [[⟨0,1,0⟩]] [0] []:=by
  intro h' P HP
  refine ⟨⟨rfl,λi hi=>?_,rfl,?_⟩,rfl,λi v hv=>by simp at hv⟩
  ·have hi:i < 1:=hi
   have e0:i=0:=by omega
   subst e0
   refine ⟨some (aQ B1),1,⟨_,rfl,?_⟩,?_⟩
   ·rw [Wc4]
    exact Wd3 HP.drop.drop.at rfl
   ·exact YE1 HP.drop.drop.drop.at
  ·exact YE1 HP.drop.at
 refine Wa0 (Yj5 (c:=⟨0,1,2,1,1,1,1⟩) (calls:=[[⟨0,1,0⟩]]) (Wc3:=[0]) (draws:=[]) H3 hS ⟨λl hl x hx=>?_,λx hx=>by cases hx⟩ (by decide) (by decide) (by decide) (λl hl=>?_) Yi7 W34 Yj3 (λhh=>by rw [hsc] at hh;cases hh) λ_ h4 la lc s es _ _ _ H4=>?_)
 ·rw [List.mem_singleton.1 hl] at hx
  rw [List.mem_singleton.1 hx]
  exact ⟨⟨by decide,by decide⟩,⟨by decide,by decide⟩⟩
 ·rw [List.mem_singleton.1 hl]
  decide
 have el:s.l = [⟨0,0,false,(0,0,0),(5,0,0)⟩]:=by
  rw [es];exact ZP7
 rw [el] at H4 ⊢
 refine sb ?_
 refine WC7 ?_
 refine sb ?_
 refine WC8 ?_
 refine sb ?_
 refine Wb6 (λ_=>?_) (λhh=>by simp at hh)
 refine Wb6 (λ_=>?_) (λhh=>by simp at hh)
 have hs:=H4.own.sees
 obtain ⟨ad,ea,q0⟩:=hs 0 _ rfl
 subst ea
 rw [ZR0] at q0
 obtain ⟨_,ea,q1⟩:=hs 1 _ rfl
 cases ea
 obtain ⟨_,ea,q2⟩:=hs 2 _ rfl
 cases ea
 obtain ⟨_,ea,q3⟩:=hs 3 _ rfl
 cases ea
 obtain ⟨_,ea,q4⟩:=hs 4 _ rfl
 cases ea
 obtain ⟨_,ea,q5⟩:=hs 5 _ rfl
 cases ea
 obtain ⟨_,ea,q6⟩:=hs 6 _ rfl
 cases ea
 obtain ⟨_,ea,q7⟩:=hs 7 _ rfl
 cases ea
 obtain ⟨_,ea,q8⟩:=hs 8 _ rfl
 cases ea
 refine ⟨by decide,?_⟩
 show ldH h4 ad _
 refine Wb4 q0 (Wb4 q1 (Wb4 q2 (Wb4 q3 (Wb4 q4 (Wb4 q5 (Wb4 q6 (Wb4 q7 (Wb4 q8 ?_))))))))
 refine Wa0 (YR7 λh5 o5=>?_)
 simp only [We4]
 rw [beq_self_eq_true]
 exact k h5 (H4.old o5).drop.drop.drop.drop
end
end
section
set_option maxRecDepth 100000
abbrev g4 (K:kQ) (h H1 H2:Wa2):Prop:=
 (dl7 H2 H1.size λa b c d e f g=>cf 9 #[.agg #[a,b,c,d,e,f,g]] H2 λa b=>asBool a λa=>ifB (!a) (cf 13 #[] b λa c=>asBool a λa=>K (.bool a) c) (YS2 b h.size λa c d e f g i j k l=>dl7 b H1.size λm n o p q r s=>cf 11 #[.agg #[a,c,d,e,f,g,i,j,k,l],.agg #[m,n,o,p,q,r,s],iQ 4,iQ 1000] b λa b=>asAgg a λa=>We2 a 10 (ZQ3 a λa c d e f g i j k l=>cf 14 #[.agg #[a,c,d,e,f,g,i,j,k,l]] b λa b=>Wh0 a λc=>Wc2 c 0 λc=>Wb3 c λc d e=>Wh0 a λa=>Wc2 a 1 λa=>asInt .i64 a λa=>exI λI53=>exM λm54=>(I53 [.bool false,iQ 0] b)/\(∀(b e:Value) (f:Env) (f:Wa2),(I53 [b,e] f)->(asInt .i64 e λg=>ifB (decide (g < (d:Int))) (asInt .i64 e λg=>bd g (d:Int) (Wd2 (.pointer c) λc=>ldH f (Addr.add c (g.toNat*9)) λd=>ldH f (Addr.add (Addr.add c (g.toNat*9)) 1) λi=>ldH f (Addr.add (Addr.add c (g.toNat*9)) 2) λj=>ldH f (Addr.add (Addr.add c (g.toNat*9)) 3) λk=>ldH f (Addr.add (Addr.add c (g.toNat*9)) 4) λl=>ldH f (Addr.add (Addr.add c (g.toNat*9)) 5) λm=>ldH f (Addr.add (Addr.add c (g.toNat*9)) 6) λn=>ldH f (Addr.add (Addr.add c (g.toNat*9)) 7) λo=>ldH f (Addr.add (Addr.add c (g.toNat*9)) 8) λc=>stH (Array.push f (.cells #[iQ 0,iQ 0,.bool false,iQ 0,iQ 0,iQ 0,iQ 0,iQ 0,iQ 0] 51)) (aQ f.size) d λd=>stH d ⟨f.size,1,none⟩ i λd=>stH d ⟨f.size,2,none⟩ j λd=>stH d ⟨f.size,3,none⟩ k λd=>stH d ⟨f.size,4,none⟩ l λd=>stH d ⟨f.size,5,none⟩ m λd=>stH d ⟨f.size,6,none⟩ n λd=>stH d ⟨f.size,7,none⟩ o λd=>stH d ⟨f.size,8,none⟩ c λc=>exI λI80=>(lI .i64 c ⟨f.size,3,none⟩ λd=>ifB (d == 1) (lI .i64 c ⟨f.size,1,none⟩ λd=>ifB (d != 0) (lI .i64 c ⟨f.size,1,none⟩ λg=>ifB (g != 1) (I80 [.bool (d != 0),.bool true,.bool true,.tuple #[],.bool true] c) (lI .i64 c ⟨f.size,4,none⟩ λg=>lI .i64 c (aQ f.size) λi=>ifB (g != i) (I80 [.bool (d != 0),.bool (g != i),.bool (g != i),.tuple #[],.bool true] c) (lI .i64 c ⟨f.size,1,none⟩ λj=>ifB (decide (j > 3)) (lI .i64 c ⟨f.size,6,none⟩ λj=>I80 [.bool (d != 0),.bool (g != i),.bool (g != i),.bool (j == 1),.bool (j == 1)] c) (I80 [.bool (d != 0),.bool (g != i),.bool (g != i),.bool false,.bool false] c)))) (lI .i64 c ⟨f.size,1,none⟩ λg=>ifB (decide (g > 3)) (lI .i64 c ⟨f.size,6,none⟩ λg=>I80 [.bool (d != 0),.tuple #[],.bool false,.bool (g == 1),.bool (g == 1)] c) (I80 [.bool (d != 0),.tuple #[],.bool false,.bool false,.bool false] c))) (lI .i64 c ⟨f.size,1,none⟩ λd=>ifB (decide (d > 3)) (lI .i64 c ⟨f.size,6,none⟩ λd=>I80 [.bool false,.tuple #[],.bool false,.bool (d == 1),.bool (d == 1)] c) (I80 [.bool false,.tuple #[],.bool false,.bool false,.bool false] c)))/\(∀(c d g i j:Value) (k:Env) (k:Wa2),(I80 [c,d,g,i,j] k)->(asBool j λc=>ifB c (K (.bool false) k) (asInt .i64 e λc=>(I53 [b,iQ (IntKind.wrap .i64 (c+1))] k)/\((m54 [b,iQ (IntKind.wrap .i64 (c+1))] k) < (m54 [b,e] f))))))) (ifB (a == 0) (cf 13 #[] f λa b=>asBool a λa=>K (.bool a) b) (K (.bool false) f)))))))
def F4 (K:kQ) (h:Wa2) (xa xb xc xd xe xf xg:Int) (xh:Option Addr) (xi xj:Nat) (xk:Option Addr) (xl xm:Nat) (xn:Option Addr) (xo xp:Nat) (xq xr xs xt xu xv xw:Int):Prop:=
 (g4 K h (Array.push h (.cells #[iQ xa,iQ xb,iQ xc,iQ xd,iQ xe,iQ xf,iQ xg,.slice xh xi xj,.slice xk xl xm,.slice xn xo xp] 28)) (Array.push (Array.push h (.cells #[iQ xa,iQ xb,iQ xc,iQ xd,iQ xe,iQ xf,iQ xg,.slice xh xi xj,.slice xk xl xm,.slice xn xo xp] 28)) (.cells #[iQ xq,iQ xr,iQ xs,iQ xt,iQ xu,iQ xv,iQ xw] 23)))
theorem call4 {K:kQ} {h:Wa2} {xa xb xc xd xe xf xg:Int} {xh:Option Addr} {xi xj:Nat} {xk:Option Addr} {xl xm:Nat} {xn:Option Addr} {xo xp:Nat} {xq xr xs xt xu xv xw:Int} (H:F4 K h xa xb xc xd xe xf xg xh xi xj xk xl xm xn xo xp xq xr xs xt xu xv xw):Wa5 Tryz.prog 4 #[(.agg #[(iQ xa),(iQ xb),(iQ xc),(iQ xd),(iQ xe),(iQ xf),(iQ xg),(.slice xh xi xj),(.slice xk xl xm),(.slice xn xo xp)]),(.agg #[(iQ xq),(iQ xr),(iQ xs),(iQ xt),(iQ xu),(iQ xv),(iQ xw)])] h K:=
 cQ Tryz.func4 H
end
end Go.Proofs.YtahpbclnkofhfaaGreat
