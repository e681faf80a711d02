/- Part 5 of what the proofs of this seat rest on: see the last text of the claim. -/
import Derived.Test.YtahpbclnkofhfaaGreatQ6635b561c028
import Init
set_option linter.unusedSimpArgs false
set_option linter.unusedVariables false
set_option linter.ambiguousOpen false
set_option maxRecDepth 20000
namespace Go.Proofs.YtahpbclnkofhfaaGreat
section

end
section
theorem Sees.old {h h':Wa2} {a:Option Addr} {vs:List Value} (H:Sees h a vs) (ho:Old h.size h h'):Sees h' a vs:=by
 intro i v hi
 obtain ⟨ad,e,hc⟩:=H i v hi
 exact ⟨ad,e,(Wg0 (ho.2 _ (Wr5 hc))).trans hc⟩
structure RI (h:Wa2) (a:Option Addr) (l c:Nat) (xs:List Int):Prop where
 s:Sees h a (xs.map iv)
 len:xs.length=l
 cap:l<=c
theorem RI.old {h h':Wa2} {a:Option Addr} {l c:Nat} {xs:List Int} (H:RI h a l c xs) (ho:Old h.size h h'):RI h' a l c xs:=⟨H.s.old ho,H.len,H.cap⟩
theorem RI.at {h:Wa2} {a:Option Addr} {l c:Nat} {xs:List Int} (H:RI h a l c xs) {i:Nat} (hi:i < xs.length):∃ad,a=some ad/\Wa1 h (ad.add i)=some (iv xs[i]):=H.s i (iv xs[i]) (by simp [hi])
theorem OwnI.ri {h:Wa2} {a:Option Addr} {l c:Nat} {xs:List Int} (H:OwnI h a l c xs):RI h a l c xs:=⟨H.sees,by have:=H.1;simpa using this,H.2.1⟩
theorem RI.none_len {h:Wa2} {l c:Nat} {xs:List Int} (H:RI h none l c xs):l=0:=by
 rcases Nat.eq_zero_or_pos l with e | e
 ·exact e
 ·obtain ⟨ad,e2,_⟩:=H.at (i:=0) (by have:=H.len;omega)
  cases e2
theorem Wm3 {i:Nat} (h:i < 2 ^ 62):IntKind.i64.wrap ((i:Int)+1)=((i+1:Nat):Int):=by
 rw [Wb5 (by omega) (by omega)];omega
theorem Zv4 {h:Wa2} {a a2:Option Addr} {l2 c2:Nat} {ys:List Int} {K:kQ} (hs:RI h a2 l2 c2 ys) (hl2:l2<=2 ^ 40)
  (H0:l2=0->K (.slice a 0 0) h) (H:∀cap h',OwnI h' (some (aQ h.size)) l2 cap ys->h'.size=h.size+1->Old h.size h h'->K (.slice (some (aQ h.size)) l2 cap) h') :
  Wt2 Tryz.prog #[25,25] 25 #[.slice a 0 0,.slice a2 l2 c2] h K:=by
 refine Zg0 (P:=Tryz.prog) (t:=25) (elem:=3) (z:=iQ 0) (K:=K) (ys:=ys.map iv) (n:=l2) WP6 WJ0 W50 (by rw [Wl7];rfl) hs.s (by rw [Wl7];simp [hs.len]) ?_ (by rw [WA9];omega) (by rw [WA9];omega) H0 ?_
 ·intro y hy
  obtain ⟨n,_,rfl⟩:=List.mem_map.1 hy
  trivial
 ·intro cap h' h1 h2 h3
  rw [Wl7] at h1
  exact H cap h' h1 h2 h3
def New (h0 h:Wa2) (a:Option Addr) (l c:Nat) (xs:List Int):Prop:=(l=0/\c=0/\xs = [])\/(OwnI h a l c xs/\∀ad,a=some ad->h0.size<=ad.block)
theorem YV5 {K:kQ} {h:Wa2} {a:Option Addr} {l c:Nat} {xs:List Int} (H:RI h a l c xs) (hl:l<=2 ^ 40)
  (k:∀a' c' h',New h h' a' l c' xs->Old h.size h h'->K (.slice a' l c') h'):Wa5 Tryz.prog 81 #[.slice a l c] h K:=by
 refine call81 ?_
 unfold F81
 refine Wb6 (λhq=>?_) (λhq=>?_)
 ·have e1:a=none:=by simpa using hq
  subst e1
  obtain rfl:=H.none_len
  have:xs = []:=by simpa using H.len
  subst this
  exact k _ _ _ (.inl ⟨rfl,rfl,rfl⟩) (Old.refl _ _)
 ·have o1:Old h.size h (h.push (.cells #[] 3)):=(Old.refl _ _).push _ (Nat.le_refl _)
  refine Zv4 (H.old o1) hl ?_ ?_
  ·rintro rfl
   have:xs = []:=by simpa using H.len
   subst this
   simp only [Wb0]
   exact k _ _ _ (.inl ⟨rfl,rfl,rfl⟩) o1
  ·intro cap h' h1 h2 h3
   simp only [Wb0]
   exact k _ _ _ (.inr ⟨h1,λad e=>by cases e;simp⟩) (o1.trans (h3.mono (by simp)))
end
end Go.Proofs.YtahpbclnkofhfaaGreat
