/- Part 5 of what the proofs of this seat rest on: see the last text of the claim. -/
import Derived.Test.YtahpbclnkofhfaaGreatQ7c34f1afd15f
import Init
set_option linter.unusedSimpArgs false
set_option linter.unusedVariables false
set_option linter.ambiguousOpen false
set_option maxRecDepth 20000
open Go.Proofs.Tryz (prog)
namespace Go.Proofs.YtahpbclnkofhfaaGreat
section

end
section
theorem N5.old {h h':A2} {a:rQ} {vs:List vQ} (H:N5 h a vs) (ho:G9 h.size h h'):N5 h' a vs:=by
 intro i v hi
 obtain ⟨ad,e,hc⟩:=H i v hi
 exact ⟨ad,e,(T5 (ho.2 _ (BS hc))).trans hc⟩
structure RI (h:A2) (a:rQ) (l c:Nat) (xs:List Int):Prop where
 s:N5 h a (xs.map iv)
 len:xs.length=l
 cap:l<=c
theorem RI.old {h h':A2} {a:rQ} {l c:Nat} {xs:List Int} (H:RI h a l c xs) (ho:G9 h.size h h'):RI h' a l c xs:=⟨H.s.old ho,H.len,H.cap⟩
theorem RI.at {h:A2} {a:rQ} {l c:Nat} {xs:List Int} (H:RI h a l c xs) {i:Nat} (hi:i < xs.length):∃ad,a=some ad/\A3 h (ad.add i)=some (iv xs[i]):=H.s i (iv xs[i]) (by simp [hi])
theorem ID.ri {h:A2} {a:rQ} {l c:Nat} {xs:List Int} (H:ID h a l c xs):RI h a l c xs:=⟨H.sees,by have:=H.1;simpa using this,H.2.1⟩
theorem RI.none_len {h:A2} {l c:Nat} {xs:List Int} (H:RI h none l c xs):l=0:=by
 rcases Nat.eq_zero_or_pos l with e | e
 ·exact e
 ·obtain ⟨ad,e2,_⟩:=H.at (i:=0) (by have:=H.len;omega)
  cases e2
theorem N8 {i:Nat} (h:i < 2 ^ 62):IntKind.i64.wrap ((i:Int)+1)=((i+1:Nat):Int):=by
 rw [E3 (by omega) (by omega)];omega
theorem S12 {h:A2} {a a2:rQ} {l2 c2:Nat} {ys:List Int} {K:kQ} (hs:RI h a2 l2 c2 ys) (hl2:l2<=2 ^ 40)
  (H0:l2=0->K (lQ a 0 0) h) (H:∀cap h',ID h' (some (aQ h.size)) l2 cap ys->h'.size=h.size+1->G9 h.size h h'->K (lQ (some (aQ h.size)) l2 cap) h') :
  U4 prog #[25,25] 25 #[lQ a 0 0,lQ a2 l2 c2] h K:=by
 refine SH5 (P:=prog) (t:=25) (elem:=3) (z:=iQ 0) (K:=K) (ys:=ys.map iv) (n:=l2) JL Is Mr (by rw [Z8];rfl) hs.s (by rw [Z8];simp [hs.len]) ?_ (by rw [ES];omega) (by rw [ES];omega) H0 ?_
 ·intro y hy
  obtain ⟨n,_,rfl⟩:=Ga.1 hy
  trivial
 ·intro cap h' h1 h2 h3
  rw [Z8] at h1
  exact H cap h' h1 h2 h3
def New (h0 h:A2) (a:rQ) (l c:Nat) (xs:List Int):Prop:=(l=0/\c=0/\xs = [])\/(ID h a l c xs/\∀ad,a=some ad->h0.size<=ad.block)
theorem Sm9 {K:kQ} {h:A2} {a:rQ} {l c:Nat} {xs:List Int} (H:RI h a l c xs) (hl:l<=2 ^ 40)
  (k:∀a' c' h',New h h' a' l c' xs->G9 h.size h h'->K (lQ a' l c') h'):A4 prog 81 #[lQ a l c] h K:=by
 refine call81 ?_
 unfold F81
 apply D1<;>intro hq
 ·have e1:a=none:=by simpa using hq
  subst e1
  obtain rfl:=H.none_len
  have:xs = []:=by simpa using H.len
  subst this
  exact k _ _ _ (.inl ⟨rfl,rfl,rfl⟩) (G9.refl _ _)
 ·have o1:G9 h.size h (h.push (oQ #[] 3)):=(G9.refl _ _).push _ (G0 _)
  refine S12 (H.old o1) hl ?_ ?_
  ·rintro rfl
   have:xs = []:=by simpa using H.len
   subst this
   simp only [D6]
   exact k _ _ _ (.inl ⟨rfl,rfl,rfl⟩) o1
  ·intro cap h' h1 h2 h3
   simp only [D6]
   exact k _ _ _ (.inr ⟨h1,λad e=>by cases e;simp⟩) (o1.trans (h3.mono (by simp)))
end
end Go.Proofs.YtahpbclnkofhfaaGreat
