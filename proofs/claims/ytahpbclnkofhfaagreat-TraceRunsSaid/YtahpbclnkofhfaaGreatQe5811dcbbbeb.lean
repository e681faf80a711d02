/- Part 6 of what the proofs of this seat rest on: see the last text of the claim. -/
import Derived.Test.YtahpbclnkofhfaaGreatQ1e06ead142b2
import Derived.WalkKit
import Derived.ProofKit
import Derived.OpenShut
import Derived.ShutString
import Derived.ChangeOld
import Derived.Below
import Derived.Carry
import Derived.SizedLaws
import Derived.Test.YtahpbclnkofhfaaGreatProg
set_option linter.unusedSimpArgs false
set_option linter.unusedVariables false
set_option linter.ambiguousOpen false
set_option maxRecDepth 20000
namespace Go.Proofs.YtahpbclnkofhfaaGreat
section
open Go.ChangeShapes Go.WideShapes Go.ChangeAt Go.RowKit
theorem Sn4:ownKnob Tryz.prog.godebug=none:=by kernel_rfl
theorem QR:laidOutB Tryz.prog=true:=by kernel_rfl
theorem Sn5 {W W':World} (h:G4 W.heap.size W.heap W'.heap) {p:MemPlace} (hp:p.block < W.heap.size):W.sameAt W' p:=by
 cases p with
 | cell b o=>exact World.cell?_of_block (w:=W) (h.2 b hp)
 | map b=>exact h.2 b hp
theorem QS {H:Type} {enc:TypeId × Value->H} {P:Program} {t:TypeId} (hl:laidOutB P=true) (hr:P.readableRec t=true) (hrow:t < P.types.size) {W W':World} {v:Value} {d:DataW H} {ps:List MemPlace}
  (h:DataW.Trod enc P W 0 (λ_=>true) true t v d ps) (hb:G4 W.heap.size W.heap W'.heap) :
  DataW.Trod enc P W' 0 (λb=>decide (b < W.heap.size)) true t v d ps:=by
 have hlt:∀x ∈ ps,x.block < W.heap.size:=by obtain ⟨m,hm⟩:=h;exact DataW.trod_lt m _ _ _ hm
 exact WideElems.Trod_stays hl hr hrow h (λx hx=>Sn5 hb (hlt x hx)) (λx hx=>by simpa using hlt x hx)
theorem Za {W W':World} (ho:G4 W.heap.size W.heap W'.heap) (hos:W'.os=W.os) (hout:W'.output=W.output) (may:MemPlace->Prop):W.keptBut W' may:=by
 refine ⟨hos,hout,λi hi=>?_⟩
 rw [ho.2 i hi]
 split <;> simp_all
end
section
theorem L9 (cs:Array Value) (F:Array Value->Prop):J6 (.tuple cs) F=F cs:=rfl
theorem SP9 (a b:Value) (F:Value->Prop):D2 #[a,b] 0 F=F a:=rfl
theorem SQ0 (a b:Value) (F:Value->Prop):D2 #[a,b] 1 F=F b:=rfl
theorem QT:Ci Tryz.prog 3=some .i64:=by kernel_rfl
theorem Aw (f:Int->Int->Int) (a b:Int) (F:Int->Prop):O4 f Tryz.prog 3 [iQ a,iQ b] F=F (f a b):=by
 unfold O4
 simp only [QT,A6]
 unfold O4.go
 simp only [A6]
 rfl
end
section
theorem Co (cs:Array Value) (F:Array Value->Prop):asAgg (.agg cs) F=F cs:=rfl
theorem Ax {cs:Array Value} {n:Nat} {X:Prop} (h:cs.size=n) (x:X):G0 cs n X:=by
 unfold G0
 rw [show Nat.beq cs.size n=true by rw [h];exact Nat.beq_refl n]
 exact x
theorem E6 {cs:List Value} {i:Nat} {v:Value} {F:Value->Prop} (h:cs[i]? = some v) (x:F v):D2 cs.toArray i F:=by unfold D2;rw [List.getElem?_toArray,h];exact x
theorem E9 {h:A2} {b i:Nat} {v:Value} {row:List Value} {t:TypeId} (hb:h[b]? = some (oQ row.toArray t)) (e:row[i]? = some v):A3 h ⟨b,i,none⟩=some v:=by
 rw [E0 hb,List.getElem?_toArray];exact e
theorem C5 {h:A2} {b i:Nat} {v:Value} {row:List Value} {t:TypeId} {K:Value->Prop} (hb:h[b]? = some (oQ row.toArray t)) (e:row[i]? = some v) (k:K v):D1 h ⟨b,i,none⟩ K:=
 D3 (E9 hb e) k
structure Jt (h:A2) (b:Nat) (row:Array Value) (t:TypeId) (h':A2):Prop where
 size:h'.size=h.size
 new:h'[b]? = some (oQ row t)
 old:∀c,c≠b->h'[c]? = h[c]?
theorem Jt.trans {h h' h'':A2} {b:Nat} {row row':Array Value} {t t':TypeId} (x:Jt h b row t h') (y:Jt h' b row' t' h''):Jt h b row' t' h'':=
 ⟨y.size.trans x.size,y.new,λc hc=>(y.old c hc).trans (x.old c hc)⟩
theorem Jt.toOld {N:Nat} {g h h':A2} {b:Nat} {row:Array Value} {t:TypeId} (x:Jt h b row t h') (o:G4 N g h) (hb:N<=b):G4 N g h':=
 ⟨by rw [x.size];exact o.1,λc hc=>(x.old c (by omega)).trans (o.2 c hc)⟩
theorem stR {h:A2} {b i:Nat} {v:Value} {row:List Value} {t:TypeId} {K:A2->Prop} (hb:h[b]? = some (oQ row.toArray t)) (hi:Nat.ble (i+1) row.length=true) (ho:J3 v True)
  (k:∀h',Jt h b (row.set i v).toArray t h'->K h'):C4 h ⟨b,i,none⟩ v K:=by
 have hlt:=(Array.getElem?_eq_some_iff.1 hb).1
 refine KS hb (by rw [List.size_toArray];exact Nat.le_of_ble_eq_true hi) ho ?_
 rintro h' rfl
 exact k _ ⟨by simp,by rw [T4 hlt,List.setIfInBounds_toArray],λc hc=>U5 hc⟩
theorem F6 {vs:List Value} {h:A2} {b:Nat} {row:Array Value} {t:TypeId} {K:A2->Prop} (hb:h[b]? = some (oQ row t)) (hl:vs.length=row.size) (ho:∀y ∈ vs,J3 y True)
  (k:∀h',Jt h b vs.toArray t h'->K h'):NX h (aQ b) 0 vs K:=by
 have hlt:=(Array.getElem?_eq_some_iff.1 hb).1
 refine GB vs h b 0 0 row t K hb (by omega) ho ?_
 intro row' h1 h2
 have e:row' = vs.toArray:=by
  apply Array.ext_getElem?
  intro j
  rw [h2 j]
  by_cases hj:j < vs.length
  ·rw [if_pos (by omega)];simp
  ·rw [if_neg (by omega),Array.getElem?_eq_none (by omega),Array.getElem?_eq_none (by simp;omega)]
 subst e
 exact k _ ⟨by simp,T4 hlt,λc hc=>U5 hc⟩
theorem st3 {h:A2} {b:Nat} {v0 v1 v2:Value} {K:A2->Prop} (H:NX h (aQ b) 0 [v0,v1,v2] K):C4 h (aQ b) v0 λh=>C4 h ⟨b,1,none⟩ v1 λh=>C4 h ⟨b,2,none⟩ v2 K:=H
theorem st7 {h:A2} {b:Nat} {v0 v1 v2 v3 v4 v5 v6:Value} {K:A2->Prop} (H:NX h (aQ b) 0 [v0,v1,v2,v3,v4,v5,v6] K) :
 C4 h (aQ b) v0 λh=>C4 h ⟨b,1,none⟩ v1 λh=>C4 h ⟨b,2,none⟩ v2 λh=>C4 h ⟨b,3,none⟩ v3 λh=>C4 h ⟨b,4,none⟩ v4 λh=>C4 h ⟨b,5,none⟩ v5 λh=>C4 h ⟨b,6,none⟩ v6 K:=H
theorem Mn {h:A2} {b:Nat} {v0 v1 v2 v3 v4 v5 v6 v7 v8 v9 v10 v11 v12 v13 v14:Value} {K:A2->Prop} (H:NX h (aQ b) 0 [v0,v1,v2,v3,v4,v5,v6,v7,v8,v9,v10,v11,v12,v13,v14] K) :
 C4 h (aQ b) v0 λh=>C4 h ⟨b,1,none⟩ v1 λh=>C4 h ⟨b,2,none⟩ v2 λh=>C4 h ⟨b,3,none⟩ v3 λh=>C4 h ⟨b,4,none⟩ v4 λh=>C4 h ⟨b,5,none⟩ v5 λh=>C4 h ⟨b,6,none⟩ v6 λh=>
 C4 h ⟨b,7,none⟩ v7 λh=>C4 h ⟨b,8,none⟩ v8 λh=>C4 h ⟨b,9,none⟩ v9 λh=>C4 h ⟨b,10,none⟩ v10 λh=>C4 h ⟨b,11,none⟩ v11 λh=>C4 h ⟨b,12,none⟩ v12 λh=>C4 h ⟨b,13,none⟩ v13 λh=>C4 h ⟨b,14,none⟩ v14 K:=H
structure UZ (h:A2) (row:Array Value) (t:TypeId) (h':A2):Prop where
 size:h'.size=h.size+1
 new:h'[h.size]? = some (oQ row t)
 old:∀c,c < h.size->h'[c]? = h[c]?
theorem J8 (h:A2) (row:Array Value) (t:TypeId):UZ h row t (h.push (oQ row t)):=⟨by simp,Z6 _ _,λc hc=>S4 _ _ _ hc⟩
theorem UZ.toOld {h h':A2} {row:Array Value} {t:TypeId} (x:UZ h row t h'):G4 h.size h h':=⟨by rw [x.size];omega,x.old⟩
end
section
def Fr (S:Nat->Prop) (h h':A2):Prop:=h.size<=h'.size/\∀b,b < h.size->¬ S b->h'[b]? = h[b]?
def GN (a:Option Addr) (b:Nat):Prop:=∃ad,a=some ad/\ad.block=b
theorem Fr.refl (S:Nat->Prop) (h:A2):Fr S h h:=⟨Nat.le_refl _,λ_ _ _=>rfl⟩
theorem Fr.mono {S T:Nat->Prop} {h h':A2} (x:Fr S h h') (H:∀b,b < h.size->S b->T b):Fr T h h':=⟨x.1,λb hb hT=>x.2 b hb λhS=>hT (H b hb hS)⟩
theorem G4.fr {h h':A2} (S:Nat->Prop) (o:G4 h.size h h'):Fr S h h':=⟨o.1,λb hb _=>o.2 b hb⟩
section
variable {α:Type} {f:α->List Value} {n:Nat}
theorem EG (hf:∀x,(f x).length=n) (l:List α):(l.flatMap f).length=l.length*n:=by
 induction l with
 | nil=>simp
 | cons x l ih=>rw [List.flatMap_cons,List.length_append,ih,hf,List.length_cons,Nat.add_mul];omega
theorem N3 (hf:∀x,(f x).length=n) {l:List α}:∀ {i:Nat} (hi:i < l.length) {j:Nat},j < n->(l.flatMap f)[i*n+j]? = (f l[i])[j]?:=by
 induction l with
 | nil=>intro i hi;simp at hi
 | cons x l ih=>
  intro i hi j hj
  rw [List.flatMap_cons]
  cases i with
  | zero=>rw [List.getElem?_append_left (by rw [hf];omega)];simp
  | succ i=>
   have e:(i+1)*n+j=n+(i*n+j):=by rw [Nat.add_mul];omega
   rw [List.getElem?_append_right (by rw [hf,e];omega),hf,e,Nat.add_sub_cancel_left]
   exact ih (by simpa using hi) hj
theorem Zb (hf:∀x,(f x).length=n) (l:List α):∀i,(l.flatMap f).take (i*n)=(l.take i).flatMap f:=by
 induction l with
 | nil=>intro i;simp
 | cons x l ih=>
  intro i
  cases i with
  | zero=>simp
  | succ i=>
   rw [List.flatMap_cons,List.take_succ_cons,List.flatMap_cons,List.take_append,hf,List.take_of_length_le (by rw [hf,Nat.add_mul];omega),show (i+1)*n - n=i*n by rw [Nat.add_mul];omega,ih]
structure SX (f:α->List Value) (h:A2) (a:Option Addr) (l c:Nat) (xs:List α):Prop where
 s:N8 h a (xs.flatMap f)
 len:xs.length=l
 cap:l<=c
theorem SX.old {h h':A2} {a:Option Addr} {l c:Nat} {xs:List α} (H:SX f h a l c xs) (ho:G4 h.size h h'):SX f h' a l c xs:=⟨H.s.old ho,H.len,H.cap⟩
theorem SX.at (hf:∀x,(f x).length=n) (hn:0 < n) {h:A2} {a:Option Addr} {l c:Nat} {xs:List α} (H:SX f h a l c xs) {i:Nat} (hi:i < xs.length) :
  ∃ad,a=some ad/\∀(j:Nat) (v:Value),(f xs[i])[j]? = some v->A3 h ((ad.add (i*n)).add j)=some v:=by
 have h0:(xs.flatMap f)[i*n+0]? = (f xs[i])[0]?:=N3 hf hi hn
 have h1:(f xs[i])[0]? = some ((f xs[i])[0]'(by rw [hf];exact hn)):=List.getElem?_eq_getElem _
 rw [h1] at h0
 obtain ⟨ad,e,_⟩:=H.s _ _ h0
 refine ⟨ad,e,λj v hv=>?_⟩
 have hj:j < n:=by have:=(List.getElem?_eq_some_iff.1 hv).1;rwa [hf] at this
 obtain ⟨ad',e',hc⟩:=H.s (i*n+j) v ((N3 hf hi hj).trans hv)
 rw [e] at e';cases e'
 rw [BH];exact hc
theorem N8.subn {h:A2} {a:Option Addr} {vs:List Value} (H:N8 h a vs) {i m:Nat} (hm:vs.length<=m*n) (hi:i<=m):N8 h (FD a i m n) (vs.drop (i*n)):=by
 intro j v hj
 unfold FD
 rw [List.getElem?_drop] at hj
 have hlt:i*n+j < vs.length:=(List.getElem?_eq_some_iff.1 hj).1
 obtain ⟨ad,rfl,hc⟩:=H _ _ hj
 have hne:m≠i:=λe=>by subst e;omega
 rw [if_neg hne]
 exact ⟨_,rfl,by rw [BH];exact hc⟩
theorem Ng (a:Option Addr) (c n:Nat):FD a 0 c n=a:=by
 unfold FD
 split
 ·rfl
 ·rw [Nat.zero_mul];cases a <;> rfl
end
theorem CG.take {h:A2} {t:TypeId} {n:Nat} {a:Option Addr} {l c:Nat} {xs:List Value} (H:CG h t n a l c xs) {i:Nat} (hi:i<=l):CG h t n a i c (xs.take (i*n)):=by
 obtain ⟨h1,h2,h3⟩:=H
 have him:i*n<=l*n:=Nat.mul_le_mul_right _ hi
 refine ⟨by simp;omega,by omega,h3.imp id ?_⟩
 rintro ⟨b,row,e,hb,hs,ht⟩
 exact ⟨b,row,e,hb,hs,by rw [<- ht,List.take_take,Nat.min_eq_left him]⟩
theorem CG.lt2 {h:A2} {t:TypeId} {n:Nat} {a:Option Addr} {l c:Nat} {xs:List Value} (H:CG h t n a l c xs) {b:Nat} (hb:GN a b):b < h.size:=by
 obtain ⟨ad,e,rfl⟩:=hb
 exact H.lt ad e
theorem CG.write {h:A2} {t:TypeId} {n:Nat} {a:Option Addr} {ad:Addr} {l c:Nat} {xs vs:List Value} {off:Nat} {K:A2->Prop} (ho:CG h t n a l c xs) (ea:a=some ad) (hv:off+vs.length<=c*n) (hone:∀y ∈ vs,J3 y True)
  (k:∀h',(∀i,i*n<=off->i<=l->CG h' t n a i c (xs.take (i*n)))->(off+vs.length<=l*n->CG h' t n a l c (xs.take off ++ vs ++ xs.drop (off+vs.length)))->Fr (GN a) h h'->h'.size=h.size->K h'):NX h (ad.add off) 0 vs K:=by
 obtain ⟨h1,h2,h3⟩:=ho
 rcases h3 with ⟨rfl,hc0⟩ | ⟨b,row,e,hb,hs,ht⟩
 ·cases ea
 rw [ea] at e;cases e
 rw [E1,Nat.zero_add]
 have hlt:=(Array.getElem?_eq_some_iff.1 hb).1
 refine GB vs h b off 0 row t K hb (by omega) hone ?_
 intro row' r1 r2
 have hl:l*n<=c*n:=Nat.mul_le_mul_right _ h2
 refine k _ (λi hi hil=>⟨?_,by omega,.inr ⟨b,row',ea,T4 hlt,by rw [r1,hs],?_⟩⟩) (λhin=>⟨?_,h2,.inr ⟨b,row',ea,T4 hlt,by rw [r1,hs],?_⟩⟩) ⟨by simp,λb' hb' hne=>U5 (λe=>hne ⟨_,ea,e.symm⟩)⟩ (by simp)
 ·have:=Nat.mul_le_mul_right n hil
  rw [List.length_take];omega
 ·have:=Nat.mul_le_mul_right n hil
  rw [<- ht,List.take_take,Nat.min_eq_left this]
  apply List.ext_getElem?
  intro j
  rw [List.getElem?_take,List.getElem?_take]
  split
  ·rw [Array.getElem?_toList,r2 j,if_neg (by omega),Array.getElem?_toList]
  ·rfl
 ·rw [List.length_append,List.length_append,List.length_take,List.length_drop];omega
 ·apply List.ext_getElem?
  intro j
  have hx:∀j,j < l*n->xs[j]? = row[j]?:=λj hj=>by rw [<- ht,List.getElem?_take,if_pos hj,Array.getElem?_toList]
  rw [List.getElem?_take,Array.getElem?_toList,r2 j]
  by_cases c1:j < off
  ·rw [if_pos (by omega),if_neg (by omega),List.append_assoc,List.getElem?_append_left (by rw [List.length_take];omega),List.getElem?_take,if_pos c1,hx j (by omega)]
  ·by_cases c2:j < off+vs.length
   ·rw [if_pos (by omega),if_pos (by omega),List.append_assoc,List.getElem?_append_right (by rw [List.length_take];omega),List.length_take,Nat.min_eq_left (by omega),List.getElem?_append_left (by omega)]
    congr 1 <;> omega
   ·rw [List.append_assoc,List.getElem?_append_right (by rw [List.length_take];omega),List.length_take,Nat.min_eq_left (by omega),List.getElem?_append_right (by omega),List.getElem?_drop]
    by_cases c3:j < l*n
    ·rw [if_pos c3,if_neg (by omega),<- hx j c3]
     congr 1 <;> omega
    ·rw [if_neg c3]
     symm;apply List.getElem?_eq_none;omega
theorem QU {P:Program} {h:A2} {a:Option Addr} {vs:List Value} {m sz l c:Nat} {F:Array Value->A2->Prop} (hs:N8 h a vs) (hn:vs.length=m*sz) (k:F vs.toArray h):hp P (Builtin.firstCells sz m (lQ a l c)) F h:=by
 cases a with
 | none=>
  have:vs = []:=by
   cases vs with
   | nil=>rfl
   | cons y ys=>obtain ⟨ad,e,_⟩:=hs 0 y rfl;cases e
  subst this;exact k
 | some ad=>
  show hp P (loadCells ad (m*sz)) F h
  refine M2 ad _ 0 [] F ?_
  rw [<- hn]
  refine Dp vs 0 [] _ (λj v hj=>?_) (by simpa using k)
  obtain ⟨ad',e,hc⟩:=hs j v hj
  cases e;rwa [Nat.zero_add]
theorem Sn6 {P:Program} {t elem rt:TypeId} {h:A2} {a a2 a3:Option Addr} {l c i dl dc sl sc m:Nat} {xs vs:List Value} {K:kQ}
  (hu:AH P t=.slice elem) (hth:J7 P elem=true) (ho:CG h elem (L7 P elem) a l c xs) (hs:N8 h a2 vs) (hm:m=min sl dl) (hn:vs.length=m*L7 P elem) (hone:∀y ∈ vs,J3 y True) (hi:i+m<=l)
  (h3:m=0\/∃ad,a=some ad/\a3=some (ad.add (i*L7 P elem)))
  (k:∀h',CG h' elem (L7 P elem) a l c (xs.take (i*L7 P elem) ++ vs ++ xs.drop ((i+m)*L7 P elem))->Fr (GN a) h h'->h'.size=h.size->K (iv m) h') :
  HO P #[t,t] rt #[lQ a3 dl dc,lQ a2 sl sc] h K:=by
 have hu':=D9 hu (by simp)
 unfold HO Builtin.copy_
 simp only [List.getElem?_toArray,List.getElem?_cons_zero,List.getElem?_cons_succ,A8,D6,C0 hu',I8 hth]
 show hp P (Builtin.lenOf _) _ h
 simp only [Builtin.lenOf,D6,A8,I8 hth]
 have em:Nat.min sl dl=m:=hm.symm
 rw [em]
 refine QU hs hn ?_
 rcases Nat.eq_zero_or_pos m with e0 | hp0
 ·have:vs = []:=by rw [e0] at hn;simpa using hn
  subst this
  subst e0
  have fin:=k h (by simpa using ho) (Fr.refl _ _) rfl
  cases a3 with
  | none=>exact fin
  | some ad=>exact fin
 ·obtain ⟨ad,ea,e3⟩:=h3.resolve_left (by omega)
  subst e3
  simp only [A8]
  refine X4 _ _ h 0 _ ?_
  have hbd:i*L7 P elem+vs.length<=l*L7 P elem:=by rw [hn,<- Nat.add_mul];exact Nat.mul_le_mul_right _ hi
  have hcl:l*L7 P elem<=c*L7 P elem:=Nat.mul_le_mul_right _ ho.2.1
  refine CG.write ho ea (by omega) (by simpa using hone) λh' w1 w2 w3 w4=>?_
  have:=w2 hbd
  simp only [D6]
  refine k h' ?_ w3 w4
  rw [Nat.add_mul,<- hn];exact this
end
section
abbrev Pr:=Int × Int
def plt (p q:Pr):Prop:=p.1 < q.1\/(p.1=q.1/\p.2 < q.2)
instance (p q:Pr):Decidable (plt p q):=by unfold plt;infer_instance
def SV1 (p:Pr):List Pr->List Pr
 | []=>[p]
 | q :: r=>if plt q p then q :: SV1 p r else p :: q :: r
def XM (ps:List Pr):Nat->List Pr
 | 0=>[]
 | i+1=>match ps[i]? with
  | none=>XM ps i
  | some x=>if 0 < i/\ps[i - 1]? = some x then XM ps i else XM ps i ++ [x]
def SV2 (ps:List Pr) (k:Int):Nat:=(ps.findIdx? λp=>p.1 != k).getD ps.length
def SL8 (ps:List Pr):List Pr:=match ps with
 | []=>[]
 | p :: _=>XM (ps.take (SV2 ps p.1)) (SV2 ps p.1)
end
section
set_option maxRecDepth 100000

end
section

end
section

end
section
structure Va (es:List MapEntry) (kvs:List (Int × Value)):Prop where
 eq:es.map (λe=>(e.key,e.val))=kvs.map λx=>(Value.int .i64 x.1,x.2)
 nd:(kvs.map Prod.fst).Nodup
def CJ (kvs:List (Int × Value)) (k:Int):Option Value:=(kvs.find? λx=>x.1 == k).map Prod.snd
theorem Va.cons {e:MapEntry} {es:List MapEntry} {kvs:List (Int × Value)} (H:Va (e :: es) kvs):∃k v kvs',kvs=(k,v) :: kvs'/\e.key=iQ k/\e.val=v/\Va es kvs'/\k ∉ kvs'.map Prod.fst:=by
 cases kvs with
 | nil=>have:=H.eq;simp at this
 | cons x kvs'=>
  obtain ⟨k,v⟩:=x
  have h1:=H.eq
  simp only [List.map_cons,List.cons.injEq,Prod.mk.injEq] at h1
  have h2:=H.nd
  simp only [List.map_cons,List.nodup_cons] at h2
  exact ⟨k,v,kvs',rfl,h1.1.1,h1.1.2,⟨h1.2,h2.2⟩,h2.1⟩
theorem Ot {kind:IntKind} {k:Int}:∀ {es:List MapEntry} {kvs:List (Int × Value)} (i:Nat),Va es kvs ->
  ∃r,Instr.findNow (.int kind) (iQ k) es i=some r/\((r=none/\CJ kvs k=none/\k ∉ kvs.map Prod.fst)\/∃j v,r=some (i+j,v)/\CJ kvs k=some v/\kvs[j]? = some (k,v)):=by
 intro es
 induction es with
 | nil=>
  intro kvs i H
  have:kvs = []:=by have:=H.eq;simpa using this.symm
  subst this
  exact ⟨none,rfl,.inl ⟨rfl,rfl,by simp⟩⟩
 | cons e es ih=>
  intro kvs i H
  obtain ⟨k',v,kvs',rfl,hk,hv,H',hn⟩:=H.cons
  unfold Instr.findNow
  rw [hk]
  by_cases e1:k=k'
  ·subst e1
   refine ⟨some (i,e.val),?_,.inr ⟨0,v,by rw [hv];rfl,by simp [CJ],rfl⟩⟩
   simp [Instr.sameNow]
  ·obtain ⟨r,h1,h2⟩:=ih (i+1) H'
   refine ⟨r,?_,?_⟩
   ·have:Instr.sameNow (.int kind) (iQ k) (iQ k')=some false:=by simp [Instr.sameNow,e1]
    rw [this];exact h1
   ·have hm:CJ ((k',v) :: kvs') k=CJ kvs' k:=by
     unfold CJ
     rw [List.find?_cons_of_neg (by simpa using λh=>e1 h.symm)]
    rcases h2 with ⟨rfl,h3,h4⟩ | ⟨j,v',h3,h4,h5⟩
    ·refine .inl ⟨rfl,by rw [hm,h3],?_⟩
     simp only [List.map_cons,List.mem_cons,not_or]
     exact ⟨e1,h4⟩
    ·exact .inr ⟨j+1,v',by rw [h3];congr 2;omega,by rw [hm,h4],by simpa using h5⟩
theorem KU {kvs:List (Int × Value)} {k:Int} {v:Value} (nd:(kvs.map Prod.fst).Nodup) (h:(k,v) ∈ kvs):CJ kvs k=some v:=by
 unfold CJ
 induction kvs with
 | nil=>cases h
 | cons x kvs ih=>
  simp only [List.map_cons,List.nodup_cons] at nd
  rcases List.mem_cons.1 h with rfl | h
  ·simp
  ·have:x.1≠k:=λe=>nd.1 (by rw [e];exact List.mem_map.2 ⟨_,h,rfl⟩)
   rw [List.find?_cons_of_neg (by simpa using this)]
   exact ih nd.2 h
theorem IR {kvs:List (Int × Value)} {k:Int} (h:k ∉ kvs.map Prod.fst):CJ kvs k=none:=by
 unfold CJ
 rw [Option.map_eq_none_iff,List.find?_eq_none]
 intro x hx e
 exact h (List.mem_map.2 ⟨x,hx,by simpa using e⟩)
def DF (h:A2) (m:Nat) (f:Int->Option Value):Prop:=∃es c kvs,h[m]? = some (.map es c)/\Va es.toList kvs/\∀k,CJ kvs k=f k
theorem DF.keep {h h':A2} {m:Nat} {f:Int->Option Value} (H:DF h m f) (e:h'[m]? = h[m]?):DF h' m f:=by
 obtain ⟨es,c,kvs,h1,h2,h3⟩:=H
 exact ⟨es,c,kvs,e.trans h1,h2,h3⟩
theorem DF.lt {h:A2} {m:Nat} {f:Int->Option Value} (H:DF h m f):m < h.size:=by
 obtain ⟨es,c,kvs,h1,_⟩:=H
 exact (Array.getElem?_eq_some_iff.1 h1).1
theorem DF.new (h:A2):DF (h.push (.map #[] 0)) h.size (λ_=>none):=⟨#[],0,[],Z6 _ _,⟨rfl,List.nodup_nil⟩,λ_=>rfl⟩
section
variable {P:Program} {t kt et:TypeId}
theorem IS {h:A2} {m:Nat} {es:Array MapEntry} {c:Nat} (e:h[m]? = some (.map es c)) (F:Obj->A2->Prop):hp P (getObj m) F h=F (.map es c) h:=by
 simp only [getObj,hp,e]
theorem GE {h:A2} {m:Nat} {es es':Array MapEntry} {c c':Nat} (e:h[m]? = some (.map es c)) (F:Unit->A2->Prop):hp P (setObj m (.map es' c')) F h=F () (h.setIfInBounds m (.map es' c')):=by
 simp only [setObj,hp,e]
theorem DQ {n:Nat} {b:Bool} {v:Value} {k:IntKind} (hu:P.underlying t=some (.int k)) (F:Unit->A2->Prop) (h:A2):hp P (Instr.checkKey b (n+1) t v) F h=F () h:=by
 simp only [Instr.checkKey,A8,C0 hu]
 cases v <;> rfl
theorem EY {k:Int} {es:List MapEntry} {kvs:List (Int × Value)} (hu:P.underlying kt=some (.int .i64)) (H:Va es kvs) {F:Option (Nat × Value)->A2->Prop} {h:A2}
  (H0:CJ kvs k=none->k ∉ kvs.map Prod.fst->F none h) (H1:∀j v,CJ kvs k=some v->kvs[j]? = some (k,v)->F (some (j,v)) h):hp P (Instr.findKey kt (iQ k) es) F h:=by
 obtain ⟨r,h1,h2⟩:=Ot (kind:=.i64) (k:=k) 0 H
 unfold Instr.findKey
 simp only [A8,C0 hu,h1]
 rcases h2 with ⟨rfl,h3,h4⟩ | ⟨j,v,rfl,h3,h4⟩
 ·exact H0 h3 h4
 ·rw [Nat.zero_add];exact H1 j v h3 h4
theorem XN {h:A2} {m:Nat} {f:Int->Option Value} {k:Int} {ok:Bool} {z:Value} {K:kQ} (hu:AH P t=.map kt et) (hk:AH P kt=.int .i64) (hz:Gw P et=some z) (H:DF h m f)
  (kk:K (if ok then .tuple #[(f k).getD z,dQ (f k).isSome] else (f k).getD z) h):Jm P t (.map (some m)) (iQ k) ok h K:=by
 obtain ⟨es,c,kvs,h1,h2,h3⟩:=H
 unfold Jm Instr.lookup
 have hku:=D9 hk (by simp)
 simp only [A8,C0 (D9 hu (by simp)),IS h1,D6,DQ hku]
 refine EY hku h2 (λe _=>?_) (λj v e _=>?_)
 ·rw [h3] at e
  simp only [A8,R9 hz,D6]
  rw [e] at kk
  exact kk
 ·rw [h3] at e
  rw [e] at kk
  exact kk
theorem Sn7 {h:A2} {k:Int} {ok:Bool} {z:Value} {K:kQ} (hu:AH P t=.map kt et) (hk:AH P kt=.int .i64) (hz:Gw P et=some z)
  (kk:K (if ok then .tuple #[z,dQ false] else z) h):Jm P t (.map none) (iQ k) ok h K:=by
 unfold Jm Instr.lookup
 have hku:=D9 hk (by simp)
 simp only [A8,C0 (D9 hu (by simp)),D6,DQ hku]
 refine EY (kvs:=[]) hku ⟨rfl,List.nodup_nil⟩ (λe _=>?_) (λj v e _=>by cases e)
 simp only [A8,R9 hz,D6]
 exact kk
theorem Va.push {es:List MapEntry} {kvs:List (Int × Value)} {k:Int} {v:Value} {c:Nat} (H:Va es kvs) (hk:k ∉ kvs.map Prod.fst):Va (es ++ [{ key:=iQ k,val:=v,born:=c }]) (kvs ++ [(k,v)]):=by
 refine ⟨by rw [List.map_append,List.map_append,H.eq];rfl,?_⟩
 rw [List.map_append,List.nodup_append]
 exact ⟨H.nd,by simp,λa ha b hb=>by simp at hb;subst hb;exact λe=>hk (e ▸ ha)⟩
theorem Va.modify {es:List MapEntry} {kvs:List (Int × Value)} {k:Int} {v v0:Value} {j:Nat} (H:Va es kvs) (hj:kvs[j]? = some (k,v0)):Va (es.modify j λe=>{ e with key:=iQ k,val:=v }) (kvs.set j (k,v)):=by
 have hlen:es.length=kvs.length:=by have:=congrArg List.length H.eq;simpa using this
 have hjl:=(List.getElem?_eq_some_iff.1 hj).1
 refine ⟨?_,?_⟩
 ·apply List.ext_getElem?
  intro i
  have h0:=congrArg (λL=>L[i]?) H.eq
  simp only [List.getElem?_map] at h0
  rw [List.getElem?_map,List.getElem?_map,List.getElem?_modify,List.getElem?_set]
  by_cases e:j=i
  ·subst e
   rw [if_pos rfl,if_pos hjl]
   rw [List.getElem?_eq_getElem (by omega)]
   simp
  ·rw [if_neg e]
   simp only [if_neg e]
   simpa using h0
 ·have:(kvs.set j (k,v)).map Prod.fst=kvs.map Prod.fst:=by
   apply List.ext_getElem?
   intro i
   rw [List.getElem?_map,List.getElem?_map,List.getElem?_set]
   by_cases e:j=i
   ·subst e
    rw [if_pos rfl,if_pos hjl,hj];rfl
   ·rw [if_neg e]
  rw [this];exact H.nd
theorem Zc {kvs:List (Int × Value)} {k:Int} {v:Value} (hk:k ∉ kvs.map Prod.fst) (k':Int):CJ (kvs ++ [(k,v)]) k' = if k' = k then some v else CJ kvs k':=by
 unfold CJ
 rw [List.find?_append]
 by_cases e:k' = k
 ·subst e
  have:=IR hk
  unfold CJ at this
  rw [Option.map_eq_none_iff] at this
  rw [this,if_pos rfl];simp
 ·rw [if_neg e]
  have:([(k,v)]:List (Int × Value)).find? (λx=>x.1 == k')=none:=by simpa using λh=>e h.symm
  rw [this];simp
theorem Sn8 {kvs:List (Int × Value)} {k:Int} {v v0:Value} {j:Nat} (nd:(kvs.map Prod.fst).Nodup) (hj:kvs[j]? = some (k,v0)) (k':Int):CJ (kvs.set j (k,v)) k' = if k' = k then some v else CJ kvs k':=by
 have hjl:=(List.getElem?_eq_some_iff.1 hj).1
 have nd2:((kvs.set j (k,v)).map Prod.fst).Nodup:=by
  have:(kvs.set j (k,v)).map Prod.fst=kvs.map Prod.fst:=by
   apply List.ext_getElem?
   intro i
   rw [List.getElem?_map,List.getElem?_map,List.getElem?_set]
   by_cases e:j=i
   ·subst e
    rw [if_pos rfl,if_pos hjl,hj];rfl
   ·rw [if_neg e]
  rw [this];exact nd
 by_cases e:k' = k
 ·subst e
  rw [if_pos rfl]
  exact KU nd2 (List.mem_of_getElem? (i:=j) (by rw [List.getElem?_set,if_pos rfl,if_pos hjl]))
 ·rw [if_neg e]
  cases hm:CJ kvs k' with
  | none=>
   apply IR
   intro hin
   obtain ⟨x,hx,ex⟩:=List.mem_map.1 hin
   rcases List.mem_or_eq_of_mem_set hx with hx | rfl
   ·have:=KU nd (k:=k') (v:=x.2) (by rw [<- ex];exact hx)
    rw [hm] at this;cases this
   ·exact e ex.symm
  | some w=>
   have hin:(k',w) ∈ kvs:=by
    unfold CJ at hm
    obtain ⟨x,hx,ex⟩:=Option.map_eq_some_iff.1 hm
    have h1:=List.mem_of_find?_eq_some hx
    have h2:=List.find?_some hx
    have:x=(k',w):=by
     have h3:x.1=k':=by simpa using h2
     rw [<- h3,<- ex]
    rw [<- this];exact h1
   apply KU nd2
   obtain ⟨i,hi,ei⟩:=List.getElem_of_mem hin
   refine List.mem_of_getElem? (i:=i) ?_
   rw [List.getElem?_set]
   by_cases e2:j=i
   ·subst e2
    rw [List.getElem?_eq_getElem hi,ei] at hj
    cases hj;exact absurd rfl e
   ·rw [if_neg e2,List.getElem?_eq_getElem hi,ei]
theorem SQ1 {h:A2} {m:Nat} {f:Int->Option Value} {k:Int} {v:Value} {K:A2->Prop} (hu:AH P t=.map kt et) (hk:AH P kt=.int .i64) (H:DF h m f)
  (kk:∀h',DF h' m (λk'=>if k' = k then some v else f k')->h'.size=h.size->(∀c,c≠m->h'[c]? = h[c]?)->K h'):XB P t (.map (some m)) (iQ k) v h K:=by
 have hm:=H.lt
 obtain ⟨es,c,kvs,h1,h2,h3⟩:=H
 unfold XB Instr.mapUpdate
 have hku:=D9 hk (by simp)
 simp only [A8,C0 (D9 hu (by simp)),IS h1,DQ hku]
 refine EY hku h2 (λe hn=>?_) (λj v0 e hj=>?_)
 ·simp only [GE h1]
  refine kk _ ⟨_,_,kvs ++ [(k,v)],T4 hm,?_,λk'=>?_⟩ (by simp) (λc hc=>U5 hc)
  ·rw [Array.toList_push];exact h2.push hn
  ·rw [Zc hn,h3]
 ·have hlen:es.toList.length=kvs.length:=by have:=congrArg List.length h2.eq;simpa using this
  have hjl:=(List.getElem?_eq_some_iff.1 hj).1
  have hkey:((es[j]?).map (·.key)).getD (iQ k)=iQ k:=by
   have h0:=congrArg (λL=>L[j]?) h2.eq
   simp only [List.getElem?_map,hj,Array.getElem?_toList] at h0
   cases hes:es[j]? with
   | none=>rw [hes] at h0;simp at h0
   | some x=>
    rw [hes] at h0
    simp only [Option.map_some,Option.some.injEq,Prod.mk.injEq] at h0
    simp [h0.1]
  rw [A8,hkey]
  have hst:∀(F:kQ),F (iQ k) h->hp P (Instr.keyThatStays (iQ k) (iQ k)) F h:=by
   intro F x
   unfold Instr.keyThatStays
   have:Instr.sameBits 10000 (iQ k) (iQ k)=true:=by simp [Instr.sameBits]
   rw [if_pos this];exact x
  refine hst _ ?_
  simp only [GE h1]
  refine kk _ ⟨_,_,kvs.set j (k,v),T4 hm,?_,λk'=>?_⟩ (by simp) (λc hc=>U5 hc)
  ·rw [Array.toList_modify];exact h2.modify hj
  ·rw [Sn8 h2.nd hj,h3]
theorem IT {α β:Type} (f:α->β):∀(l:List α) (j:Nat),(l.eraseIdx j).map f=(l.map f).eraseIdx j:=by
 intro l
 induction l with
 | nil=>intro j;rfl
 | cons x l ih=>
  intro j
  cases j with
  | zero=>rfl
  | succ j=>simp only [List.eraseIdx_cons_succ,List.map_cons,ih]
theorem Va.erase {es:List MapEntry} {kvs:List (Int × Value)} (H:Va es kvs) (j:Nat):Va (es.eraseIdx j) (kvs.eraseIdx j):=by
 refine ⟨?_,?_⟩
 ·rw [IT,IT,H.eq]
 ·rw [IT];exact H.nd.sublist (List.eraseIdx_sublist _ _)
theorem Vb {kvs:List (Int × Value)} {k:Int} {v0:Value} {j:Nat} (nd:(kvs.map Prod.fst).Nodup) (hj:kvs[j]? = some (k,v0)) (k':Int):CJ (kvs.eraseIdx j) k' = if k' = k then none else CJ kvs k':=by
 induction kvs generalizing j with
 | nil=>simp at hj
 | cons x kvs ih=>
  simp only [List.map_cons,List.nodup_cons] at nd
  cases j with
  | zero=>
   simp only [List.getElem?_cons_zero,Option.some.injEq] at hj
   subst hj
   rw [List.eraseIdx_cons_zero]
   by_cases e:k' = k
   ·subst e;rw [if_pos rfl];exact IR nd.1
   ·rw [if_neg e]
    unfold CJ
    rw [List.find?_cons_of_neg (by simpa using λh=>e h.symm)]
  | succ j=>
   simp only [List.getElem?_cons_succ] at hj
   rw [List.eraseIdx_cons_succ]
   have hin:k ∈ kvs.map Prod.fst:=List.mem_map.2 ⟨_,List.mem_of_getElem? hj,rfl⟩
   have hxk:x.1≠k:=λe=>nd.1 (e ▸ hin)
   have:=ih nd.2 hj
   unfold CJ at this ⊢
   by_cases e:x.1=k'
   ·rw [List.find?_cons_of_pos (by simpa using e),List.find?_cons_of_pos (by simpa using e),if_neg (by rw [<- e];exact hxk)]
   ·rw [List.find?_cons_of_neg (by simpa using e),List.find?_cons_of_neg (by simpa using e)]
    exact this
theorem SQ2 {h:A2} {m:Nat} {f:Int->Option Value} {k:Int} {rt:TypeId} {K:kQ} (hu:AH P t=.map kt et) (hk:AH P kt=.int .i64) (H:DF h m f)
  (kk:∀h',DF h' m (λk'=>if k' = k then none else f k')->h'.size=h.size->(∀c,c≠m->h'[c]? = h[c]?)->K tQ h'):XC P #[t,kt] rt #[.map (some m),iQ k] h K:=by
 have hm:=H.lt
 obtain ⟨es,c,kvs,h1,h2,h3⟩:=H
 have hku:=D9 hk (by simp)
 unfold XC Builtin.delete_
 simp only [List.getElem?_toArray,List.getElem?_cons_zero,List.getElem?_cons_succ,A8,C0 (D9 hu (by simp)),IS h1,DQ hku]
 refine EY hku h2 (λe hn=>?_) (λj v0 e hj=>?_)
 ·simp only [A8,GE h1,D6]
  refine kk _ ⟨_,_,kvs,T4 hm,h2,λk'=>?_⟩ (by simp) (λc hc=>U5 hc)
  rw [h3]
  show f k' = if k' = k then none else f k'
  split
  ·subst k';rw [<- h3,e]
  ·rfl
 ·simp only [A8,GE h1,D6]
  refine kk _ ⟨_,_,kvs.eraseIdx j,T4 hm,?_,λk'=>?_⟩ (by simp) (λc hc=>U5 hc)
  ·have:(es.eraseIdxIfInBounds j).toList=es.toList.eraseIdx j:=by
    unfold Array.eraseIdxIfInBounds
    split
    ·rw [Array.toList_eraseIdx]
    ·rw [List.eraseIdx_of_length_le (by simpa using Nat.not_lt.1 ‹_›)]
   rw [this];exact h2.erase j
  ·rw [Vb h2.nd hj,h3]
end
end
section
set_option maxRecDepth 100000
variable {K:kQ} {h:A2}
abbrev cf (f:FuncId):Array Value->A2->(Value->A2->Prop)->Prop:=AQ Tryz.prog (.func (.func f) #[] #[])
abbrev nP (o:Option Addr) (F:Addr->Prop):Prop:=B4 (pQ o) (E5 (pQ o) F)
abbrev lI (k:IntKind) (h:A2) (a:Addr) (F:Int->Prop):Prop:=D1 h a (λv=>asInt k v F)
abbrev lP (h:A2) (a:Addr) (F:Option Addr->Prop):Prop:=D1 h a (λv=>C2 v F)
abbrev lS (h:A2) (a:Addr) (F:Option Addr->Nat->Nat->Prop):Prop:=D1 h a (λv=>C8 v F)
abbrev bd (n m:Int) (X:Prop):Prop:=((0:Int)<=n)/\((n < m)/\X)
abbrev ce (h:A2) (b i:Nat) (v:Value) (X:Prop):Prop:=(A3 h ⟨b,i,none⟩=some v)/\X
def F94 (K:kQ) (h:A2) (xa:Option Addr) (xb:ByteArray):Prop:=
 (cf 136 #[pQ xa] h λa a=>nP xa λb=>lS a (b.add 1) λb c d=>T2 Tryz.prog #[26,9] 26 #[lQ b c d,.string xb] a λa b=>C8 a λa c d=>nP xa λe=>C4 b (e.add 1) (lQ a c d) λa=>K (.tuple #[iQ ((xb.size:Nat):Int),.nilIface]) a)
theorem call94 {xa:Option Addr} {xb:ByteArray} (H:F94 K h xa xb):A5 Tryz.prog 94 #[(pQ xa),(.string xb)] h K:=
 cQ Tryz.func94 H
def F97 (K:kQ) (h:A2) (xa:Option Addr):Prop:=
 (nP xa λa=>lS h (a.add 1) λa b c=>nP xa λd=>D1 h (d.add 1) λe=>C8 e λf f g=>SO5 Tryz.prog #[26] 226 #[lQ a b c] h λa b=>C2 a λa=>((A3 b (d.add 1))=(some e))/\(SO6 Tryz.prog #[226,3] 9 #[pQ a,iQ (f:Int)] b λa b=>G9 a λa=>K (.string a) b))
theorem call97 {xa:Option Addr} (H:F97 K h xa):A5 Tryz.prog 97 #[(pQ xa)] h K:=
 cQ Tryz.func97 H
def F136 (K:kQ) (h:A2) (xa:Option Addr):Prop:=
 (nP xa λa=>lP h a λa=>D0 (Option.isNone a) (Mf Tryz.prog 160 267 (pQ xa) h λa b=>Ke Tryz.prog (.func (.func 203) #[] #[]) #[a] b λa b=>Mf Tryz.prog 267 160 a b λa b=>C2 a λa=>nP xa λc=>C4 b c (pQ a) λa=>K tQ a) (nP xa λa=>lP h a λa=>Qb Tryz.prog .neq 160 a xa h λa b=>asBool a λa=>D0 a False (K tQ b)))
theorem call136 {xa:Option Addr} (H:F136 K h xa):A5 Tryz.prog 136 #[(pQ xa)] h K:=
 cQ Tryz.func136 H
def F127 (K:kQ) (h:A2) (xa xb:ByteArray):Prop:=
 (cf 198 #[.string xa,.string xb] h λa b=>G9 a λa=>K (.string a) b)
theorem call127 {xa xb:ByteArray} (H:F127 K h xa xb):A5 Tryz.prog 127 #[(.string xa),(.string xb)] h K:=
 cQ Tryz.func127 H
abbrev G3 (h:A2) (a:Addr) (F:Value->Value->Value->Prop):Prop:=D1 h a λv0=>D1 h (a.add 1) λv1=>D1 h (a.add 2) λv2=>F v0 v1 v2
abbrev da5 (h:A2) (a:Addr) (F:Value->Value->Value->Value->Value->Prop):Prop:=D1 h a λv0=>D1 h (a.add 1) λv1=>D1 h (a.add 2) λv2=>D1 h (a.add 3) λv3=>D1 h (a.add 4) λv4=>F v0 v1 v2 v3 v4
abbrev da7 (h:A2) (a:Addr) (F:Value->Value->Value->Value->Value->Value->Value->Prop):Prop:=D1 h a λv0=>D1 h (a.add 1) λv1=>D1 h (a.add 2) λv2=>D1 h (a.add 3) λv3=>D1 h (a.add 4) λv4=>D1 h (a.add 5) λv5=>D1 h (a.add 6) λv6=>F v0 v1 v2 v3 v4 v5 v6
abbrev da9 (h:A2) (a:Addr) (F:Value->Value->Value->Value->Value->Value->Value->Value->Value->Prop):Prop:=D1 h a λv0=>D1 h (a.add 1) λv1=>D1 h (a.add 2) λv2=>D1 h (a.add 3) λv3=>D1 h (a.add 4) λv4=>D1 h (a.add 5) λv5=>D1 h (a.add 6) λv6=>D1 h (a.add 7) λv7=>D1 h (a.add 8) λv8=>F v0 v1 v2 v3 v4 v5 v6 v7 v8
abbrev SF3 (h:A2) (a:Addr) (F:Value->Value->Value->Value->Value->Value->Value->Value->Value->Value->Value->Value->Value->Value->Value->Prop):Prop:=D1 h a λv0=>D1 h (a.add 1) λv1=>D1 h (a.add 2) λv2=>D1 h (a.add 3) λv3=>D1 h (a.add 4) λv4=>D1 h (a.add 5) λv5=>D1 h (a.add 6) λv6=>D1 h (a.add 7) λv7=>D1 h (a.add 8) λv8=>D1 h (a.add 9) λv9=>D1 h (a.add 10) λv10=>D1 h (a.add 11) λv11=>D1 h (a.add 12) λv12=>D1 h (a.add 13) λv13=>D1 h (a.add 14) λv14=>F v0 v1 v2 v3 v4 v5 v6 v7 v8 v9 v10 v11 v12 v13 v14
abbrev dc3 (h:A2) (b:Nat) (v0 v1 v2:Value) (X:Prop):Prop:=ce h b 0 v0 (ce h b 1 v1 (ce h b 2 v2 X))
abbrev Sn9 (h:A2) (b:Nat) (v0 v1 v2 v3 v4 v5 v6 v7 v8 v9 v10 v11 v12 v13 v14:Value) (X:Prop):Prop:=ce h b 0 v0 (ce h b 1 v1 (ce h b 2 v2 (ce h b 3 v3 (ce h b 4 v4 (ce h b 5 v5 (ce h b 6 v6 (ce h b 7 v7 (ce h b 8 v8 (ce h b 9 v9 (ce h b 10 v10 (ce h b 11 v11 (ce h b 12 v12 (ce h b 13 v13 (ce h b 14 v14 X))))))))))))))
abbrev de2 (s:Array Value) (F:Value->Value->Prop):Prop:=D2 s 0 λv0=>D2 s 1 λv1=>F v0 v1
abbrev de3 (s:Array Value) (F:Value->Value->Value->Prop):Prop:=D2 s 0 λv0=>D2 s 1 λv1=>D2 s 2 λv2=>F v0 v1 v2
abbrev de5 (s:Array Value) (F:Value->Value->Value->Value->Value->Prop):Prop:=D2 s 0 λv0=>D2 s 1 λv1=>D2 s 2 λv2=>D2 s 3 λv3=>D2 s 4 λv4=>F v0 v1 v2 v3 v4
abbrev de6 (s:Array Value) (F:Value->Value->Value->Value->Value->Value->Prop):Prop:=D2 s 0 λv0=>D2 s 1 λv1=>D2 s 2 λv2=>D2 s 3 λv3=>D2 s 4 λv4=>D2 s 5 λv5=>F v0 v1 v2 v3 v4 v5
abbrev Nh (s:Array Value) (F:Value->Value->Value->Value->Value->Value->Value->Prop):Prop:=D2 s 0 λv0=>D2 s 1 λv1=>D2 s 2 λv2=>D2 s 3 λv3=>D2 s 4 λv4=>D2 s 5 λv5=>D2 s 6 λv6=>F v0 v1 v2 v3 v4 v5 v6
abbrev SV3 (s:Array Value) (F:Value->Value->Value->Value->Value->Value->Value->Value->Value->Value->Prop):Prop:=D2 s 0 λv0=>D2 s 1 λv1=>D2 s 2 λv2=>D2 s 3 λv3=>D2 s 4 λv4=>D2 s 5 λv5=>D2 s 6 λv6=>D2 s 7 λv7=>D2 s 8 λv8=>D2 s 9 λv9=>F v0 v1 v2 v3 v4 v5 v6 v7 v8 v9
abbrev N0 (s:Array Value) (F:Value->Value->Value->Value->Value->Value->Value->Value->Value->Value->Value->Value->Value->Value->Value->Prop):Prop:=D2 s 0 λv0=>D2 s 1 λv1=>D2 s 2 λv2=>D2 s 3 λv3=>D2 s 4 λv4=>D2 s 5 λv5=>D2 s 6 λv6=>D2 s 7 λv7=>D2 s 8 λv8=>D2 s 9 λv9=>D2 s 10 λv10=>D2 s 11 λv11=>D2 s 12 λv12=>D2 s 13 λv13=>D2 s 14 λv14=>F v0 v1 v2 v3 v4 v5 v6 v7 v8 v9 v10 v11 v12 v13 v14
abbrev Ou (h:A2) (b:Nat) (F:Value->Value->Prop):Prop:=D1 h (aQ b) λv0=>D1 h ⟨b,1,none⟩ λv1=>F v0 v1
abbrev L1 (h:A2) (b:Nat) (F:Value->Value->Value->Prop):Prop:=D1 h (aQ b) λv0=>D1 h ⟨b,1,none⟩ λv1=>D1 h ⟨b,2,none⟩ λv2=>F v0 v1 v2
abbrev dl4 (h:A2) (b:Nat) (F:Value->Value->Value->Value->Prop):Prop:=D1 h (aQ b) λv0=>D1 h ⟨b,1,none⟩ λv1=>D1 h ⟨b,2,none⟩ λv2=>D1 h ⟨b,3,none⟩ λv3=>F v0 v1 v2 v3
abbrev dl5 (h:A2) (b:Nat) (F:Value->Value->Value->Value->Value->Prop):Prop:=D1 h (aQ b) λv0=>D1 h ⟨b,1,none⟩ λv1=>D1 h ⟨b,2,none⟩ λv2=>D1 h ⟨b,3,none⟩ λv3=>D1 h ⟨b,4,none⟩ λv4=>F v0 v1 v2 v3 v4
abbrev dl6 (h:A2) (b:Nat) (F:Value->Value->Value->Value->Value->Value->Prop):Prop:=D1 h (aQ b) λv0=>D1 h ⟨b,1,none⟩ λv1=>D1 h ⟨b,2,none⟩ λv2=>D1 h ⟨b,3,none⟩ λv3=>D1 h ⟨b,4,none⟩ λv4=>D1 h ⟨b,5,none⟩ λv5=>F v0 v1 v2 v3 v4 v5
abbrev PY (h:A2) (b:Nat) (F:Value->Value->Value->Value->Value->Value->Value->Prop):Prop:=D1 h (aQ b) λv0=>D1 h ⟨b,1,none⟩ λv1=>D1 h ⟨b,2,none⟩ λv2=>D1 h ⟨b,3,none⟩ λv3=>D1 h ⟨b,4,none⟩ λv4=>D1 h ⟨b,5,none⟩ λv5=>D1 h ⟨b,6,none⟩ λv6=>F v0 v1 v2 v3 v4 v5 v6
abbrev dl9 (h:A2) (b:Nat) (F:Value->Value->Value->Value->Value->Value->Value->Value->Value->Prop):Prop:=D1 h (aQ b) λv0=>D1 h ⟨b,1,none⟩ λv1=>D1 h ⟨b,2,none⟩ λv2=>D1 h ⟨b,3,none⟩ λv3=>D1 h ⟨b,4,none⟩ λv4=>D1 h ⟨b,5,none⟩ λv5=>D1 h ⟨b,6,none⟩ λv6=>D1 h ⟨b,7,none⟩ λv7=>D1 h ⟨b,8,none⟩ λv8=>F v0 v1 v2 v3 v4 v5 v6 v7 v8
abbrev EH (h:A2) (b:Nat) (F:Value->Value->Value->Value->Value->Value->Value->Value->Value->Value->Prop):Prop:=D1 h (aQ b) λv0=>D1 h ⟨b,1,none⟩ λv1=>D1 h ⟨b,2,none⟩ λv2=>D1 h ⟨b,3,none⟩ λv3=>D1 h ⟨b,4,none⟩ λv4=>D1 h ⟨b,5,none⟩ λv5=>D1 h ⟨b,6,none⟩ λv6=>D1 h ⟨b,7,none⟩ λv7=>D1 h ⟨b,8,none⟩ λv8=>D1 h ⟨b,9,none⟩ λv9=>F v0 v1 v2 v3 v4 v5 v6 v7 v8 v9
abbrev SV4 (h:A2) (b:Nat) (F:Value->Value->Value->Value->Value->Value->Value->Value->Value->Value->Value->Value->Prop):Prop:=D1 h (aQ b) λv0=>D1 h ⟨b,1,none⟩ λv1=>D1 h ⟨b,2,none⟩ λv2=>D1 h ⟨b,3,none⟩ λv3=>D1 h ⟨b,4,none⟩ λv4=>D1 h ⟨b,5,none⟩ λv5=>D1 h ⟨b,6,none⟩ λv6=>D1 h ⟨b,7,none⟩ λv7=>D1 h ⟨b,8,none⟩ λv8=>D1 h ⟨b,9,none⟩ λv9=>D1 h ⟨b,10,none⟩ λv10=>D1 h ⟨b,11,none⟩ λv11=>F v0 v1 v2 v3 v4 v5 v6 v7 v8 v9 v10 v11
abbrev Bs (h:A2) (b:Nat) (F:Value->Value->Value->Value->Value->Value->Value->Value->Value->Value->Value->Value->Value->Value->Value->Prop):Prop:=D1 h (aQ b) λv0=>D1 h ⟨b,1,none⟩ λv1=>D1 h ⟨b,2,none⟩ λv2=>D1 h ⟨b,3,none⟩ λv3=>D1 h ⟨b,4,none⟩ λv4=>D1 h ⟨b,5,none⟩ λv5=>D1 h ⟨b,6,none⟩ λv6=>D1 h ⟨b,7,none⟩ λv7=>D1 h ⟨b,8,none⟩ λv8=>D1 h ⟨b,9,none⟩ λv9=>D1 h ⟨b,10,none⟩ λv10=>D1 h ⟨b,11,none⟩ λv11=>D1 h ⟨b,12,none⟩ λv12=>D1 h ⟨b,13,none⟩ λv13=>D1 h ⟨b,14,none⟩ λv14=>F v0 v1 v2 v3 v4 v5 v6 v7 v8 v9 v10 v11 v12 v13 v14
abbrev dw2 (h:A2) (b:Nat) (v0 v1:Value) (F:A2->Prop):Prop:=C4 h (aQ b) v0 λh1=>C4 h1 ⟨b,1,none⟩ v1 λh2=>F h2
abbrev dw3 (h:A2) (b:Nat) (v0 v1 v2:Value) (F:A2->Prop):Prop:=C4 h (aQ b) v0 λh1=>C4 h1 ⟨b,1,none⟩ v1 λh2=>C4 h2 ⟨b,2,none⟩ v2 λh3=>F h3
abbrev dw5 (h:A2) (b:Nat) (v0 v1 v2 v3 v4:Value) (F:A2->Prop):Prop:=C4 h (aQ b) v0 λh1=>C4 h1 ⟨b,1,none⟩ v1 λh2=>C4 h2 ⟨b,2,none⟩ v2 λh3=>C4 h3 ⟨b,3,none⟩ v3 λh4=>C4 h4 ⟨b,4,none⟩ v4 λh5=>F h5
abbrev dw7 (h:A2) (b:Nat) (v0 v1 v2 v3 v4 v5 v6:Value) (F:A2->Prop):Prop:=C4 h (aQ b) v0 λh1=>C4 h1 ⟨b,1,none⟩ v1 λh2=>C4 h2 ⟨b,2,none⟩ v2 λh3=>C4 h3 ⟨b,3,none⟩ v3 λh4=>C4 h4 ⟨b,4,none⟩ v4 λh5=>C4 h5 ⟨b,5,none⟩ v5 λh6=>C4 h6 ⟨b,6,none⟩ v6 λh7=>F h7
abbrev So0 (h:A2) (b:Nat) (v0 v1 v2 v3 v4 v5 v6 v7 v8 v9:Value) (F:A2->Prop):Prop:=C4 h (aQ b) v0 λh1=>C4 h1 ⟨b,1,none⟩ v1 λh2=>C4 h2 ⟨b,2,none⟩ v2 λh3=>C4 h3 ⟨b,3,none⟩ v3 λh4=>C4 h4 ⟨b,4,none⟩ v4 λh5=>C4 h5 ⟨b,5,none⟩ v5 λh6=>C4 h6 ⟨b,6,none⟩ v6 λh7=>C4 h7 ⟨b,7,none⟩ v7 λh8=>C4 h8 ⟨b,8,none⟩ v8 λh9=>C4 h9 ⟨b,9,none⟩ v9 λh10=>F h10
abbrev Vc (h:A2) (b:Nat) (v0 v1 v2 v3 v4 v5 v6 v7 v8 v9 v10 v11 v12 v13 v14:Value) (F:A2->Prop):Prop:=C4 h (aQ b) v0 λh1=>C4 h1 ⟨b,1,none⟩ v1 λh2=>C4 h2 ⟨b,2,none⟩ v2 λh3=>C4 h3 ⟨b,3,none⟩ v3 λh4=>C4 h4 ⟨b,4,none⟩ v4 λh5=>C4 h5 ⟨b,5,none⟩ v5 λh6=>C4 h6 ⟨b,6,none⟩ v6 λh7=>C4 h7 ⟨b,7,none⟩ v7 λh8=>C4 h8 ⟨b,8,none⟩ v8 λh9=>C4 h9 ⟨b,9,none⟩ v9 λh10=>C4 h10 ⟨b,10,none⟩ v10 λh11=>C4 h11 ⟨b,11,none⟩ v11 λh12=>C4 h12 ⟨b,12,none⟩ v12 λh13=>C4 h13 ⟨b,13,none⟩ v13 λh14=>C4 h14 ⟨b,14,none⟩ v14 λh15=>F h15
abbrev g128 (K:kQ) (h H1:A2):Prop:=
 (L1 H1 h.size λa b c=>cf 197 #[.agg #[a,b,c]] H1 λa b=>asBool a λa=>D0 (!a) (K (.string (⟨#[63]⟩ : ByteArray)) b) (lI .i64 b (aQ h.size) λa=>D0 (a == 0) (K (.string (⟨#[100,111,110,101]⟩ : ByteArray)) b) (D0 (a == 1) (K (.string (⟨#[102,117,108,108]⟩ : ByteArray)) b) (D0 (a == 3) (K (.string (⟨#[101,109,112,116,121]⟩ : ByteArray)) b) (lI .u32 b ⟨h.size,1,none⟩ λa=>D1 b ⟨h.size,2,none⟩ λc=>asInt .u32 c λd=>cf 199 #[.int .u32 a] b λa b=>G9 a λa=>ce b h.size 2 c ((((((a.size+1):Nat):Int):Int)<=9223372036854775807)/\(cf 199 #[.int .u32 d] b λb c=>G9 b λb=>((((((a ++ (⟨#[32]⟩ : ByteArray)).size+b.size):Nat):Int):Int)<=9223372036854775807)/\(K (.string ((a ++ (⟨#[32]⟩ : ByteArray)) ++ b)) c))))))))
def F128 (K:kQ) (h:A2) (xa xb xc:Int):Prop:=
 (g128 K h (h.push (oQ #[iQ xa,.int .u32 xb,.int .u32 xc] 43)))
theorem call128 {xa xb xc:Int} (H:F128 K h xa xb xc):A5 Tryz.prog 128 #[(.agg #[(iQ xa),(.int .u32 xb),(.int .u32 xc)])] h K:=
 cQ Tryz.func128 H
def F198 (K:kQ) (h:A2) (xa xb:ByteArray):Prop:=
 (cf 275 #[.string xa,.string xb] h λa b=>asBool a λa=>D0 a (((0:Int)<=(IntKind.wrap .i64 (((xa.size:Nat):Int) - ((xb.size:Nat):Int))))/\((((IntKind.wrap .i64 (((xa.size:Nat):Int) - ((xb.size:Nat):Int))):Int)<=((xa.size:Nat):Int))/\(K (.string (xa.extract 0 (IntKind.wrap .i64 (((xa.size:Nat):Int) - ((xb.size:Nat):Int))).toNat)) b))) (K (.string xa) b))
theorem call198 {xa xb:ByteArray} (H:F198 K h xa xb):A5 Tryz.prog 198 #[(.string xa),(.string xb)] h K:=
 cQ Tryz.func198 H
abbrev g197 (K:kQ) (h H1:A2):Prop:=
 (lI .i64 H1 (aQ h.size) λa=>D0 (a == 2) (K (dQ true) H1) (O0 λI2=>(D0 (a == 0) (I2 [dQ true] H1) (D0 (a == 1) (I2 [dQ true] H1) (I2 [dQ (a == 3)] H1)))/\(∀(a:Value) (b:F8) (b:A2),(I2 [a] b)->(asBool a λa=>D0 a (lI .u32 b ⟨h.size,1,none⟩ λa=>D0 (a == 0) (lI .u32 b ⟨h.size,2,none⟩ λa=>K (dQ (a == 0)) b) (K (dQ false) b)) (K (dQ false) b)))))
def F197 (K:kQ) (h:A2) (xa xb xc:Int):Prop:=
 (g197 K h (h.push (oQ #[iQ xa,.int .u32 xb,.int .u32 xc] 43)))
theorem call197 {xa xb xc:Int} (H:F197 K h xa xb xc):A5 Tryz.prog 197 #[(.agg #[(iQ xa),(.int .u32 xb),(.int .u32 xc)])] h K:=
 cQ Tryz.func197 H
def F199 (K:kQ) (h:A2) (xa:Int):Prop:=
 (O0 λI0=>Hg λm1=>(I0 [.int .u32 xa,.string (⟨#[]⟩ : ByteArray),.string (⟨#[]⟩ : ByteArray)] h)/\(∀(a b c:Value) (d:F8) (d:A2),(I0 [a,b,c] d)->(asInt .u32 a λe=>((10:Int)≠0)/\(Mf Tryz.prog 26 9 (lQ (some (aQ d.size)) 1 1) (d.push (oQ #[.int .u8 (IntKind.wrap .u8 (IntKind.wrap .u32 (48+(Int.tmod e 10))))] 5)) λe f=>G9 e λe=>G9 c λg=>(((((e.size+g.size):Nat):Int):Int)<=9223372036854775807)/\(asInt .u32 a λi=>((10:Int)≠0)/\(D0 ((IntKind.wrap .u32 (Int.tdiv i 10)) == 0) (K (.string (e ++ g)) f) ((I0 [.int .u32 (IntKind.wrap .u32 (Int.tdiv i 10)),b,.string (e ++ g)] f)/\((m1 [.int .u32 (IntKind.wrap .u32 (Int.tdiv i 10)),b,.string (e ++ g)] f) < (m1 [a,b,c] d)))))))))
theorem call199 {xa:Int} (H:F199 K h xa):A5 Tryz.prog 199 #[(.int .u32 xa)] h K:=
 cQ Tryz.func199 H
def F275 (K:kQ) (h:A2) (xa xb:ByteArray):Prop:=
 (D0 (decide (((xa.size:Nat):Int) >= ((xb.size:Nat):Int))) (((0:Int)<=(IntKind.wrap .i64 (((xa.size:Nat):Int) - ((xb.size:Nat):Int))))/\((((IntKind.wrap .i64 (((xa.size:Nat):Int) - ((xb.size:Nat):Int))):Int)<=((xa.size:Nat):Int))/\(K (dQ ((xa.extract (IntKind.wrap .i64 (((xa.size:Nat):Int) - ((xb.size:Nat):Int))).toNat xa.size).toList == xb.toList)) h))) (K (dQ false) h))
theorem call275 {xa xb:ByteArray} (H:F275 K h xa xb):A5 Tryz.prog 275 #[(.string xa),(.string xb)] h K:=
 cQ Tryz.func275 H
end
section
def dch (n:Nat):UInt8:=UInt8.ofNat (48+n % 10)
def dgA:Nat->Nat->ByteArray->ByteArray
 | 0,_,acc=>acc
 | f+1,n,acc=>if n < 10 then ⟨#[dch n]⟩ ++ acc else dgA f (n / 10) (⟨#[dch n]⟩ ++ acc)
def dg (n:Nat):ByteArray:=dgA 20 n ⟨#[]⟩
theorem FM (u:UInt8):(⟨#[u]⟩ : ByteArray).size=1:=rfl
theorem So1:∀f n acc,(dgA f n acc).size<=acc.size+f:=by
 intro f
 induction f with
 | zero=>intro n acc;exact Nat.le_refl _
 | succ f ih=>
  intro n acc
  unfold dgA
  split
  ·rw [ByteArray.size_append,FM];omega
  ·have:=ih (n / 10) (⟨#[dch n]⟩ ++ acc)
   rw [ByteArray.size_append,FM] at this
   omega
theorem Ov (n:Nat):(dg n).size<=20:=by
 have:=So1 20 n ⟨#[]⟩
 have e:(⟨#[]⟩ : ByteArray).size=0:=rfl
 unfold dg;omega
theorem SV5 {n:Nat} (h:n < 256):IntKind.u8.wrap (n:Int)=(n:Int):=by
 unfold IntKind.wrap IntKind.signed IntKind.bits
 have e:(n:Int) % 2 ^ 8=n:=Int.emod_eq_of_lt (by omega) (by omega)
 simp only [e]
 rw [if_neg (by simp)]
theorem Vd {n:Nat} (h:n < 4294967296):IntKind.u32.wrap (n:Int)=(n:Int):=by
 unfold IntKind.wrap IntKind.signed IntKind.bits
 have e:(n:Int) % 2 ^ 32=n:=Int.emod_eq_of_lt (by omega) (by omega)
 simp only [e]
 rw [if_neg (by simp)]
theorem Kn {n:Nat} (h:n < 18446744073709551616):IntKind.u64.wrap (n:Int)=(n:Int):=by
 unfold IntKind.wrap IntKind.signed IntKind.bits
 have e:(n:Int) % 2 ^ 64=n:=Int.emod_eq_of_lt (by omega) (by omega)
 simp only [e]
 rw [if_neg (by simp)]
theorem SQ3 (n:Nat):Int.tmod (n:Int) 10=((n % 10:Nat):Int):=rfl
theorem SQ4 (n:Nat):Int.tdiv (n:Int) 10=((n / 10:Nat):Int):=rfl
theorem IU:AH Tryz.prog 26=.slice 5:=by kernel_rfl
theorem So2:AH Tryz.prog 5=.int .u8:=by kernel_rfl
theorem XO:AH Tryz.prog 9=.string:=by kernel_rfl
theorem So3 {h:A2} {b:Nat} {v:Int} {t:TypeId} {K:kQ} (e:h[b]? = some (oQ #[.int .u8 v] t)) (k:K (.string ⟨#[UInt8.ofNat v.toNat]⟩) h):Mf Tryz.prog 26 9 (lQ (some (aQ b)) 1 1) h K:=by
 unfold Mf convert
 simp only [A8,C0 (D9 IU (by simp)),C0 (D9 XO (by simp)),C0 (D9 So2 (by simp))]
 show hp Tryz.prog (Conv.bytesToString _) K h
 unfold Conv.bytesToString
 simp only [A8]
 show hp Tryz.prog (loadCellsFrom (aQ b) 0 1 #[]) _ h
 refine M2 _ _ 0 [] _ ?_
 refine D3 (v:=.int .u8 v) ?_ ?_
 ·rw [E1];exact X8 e
 show hp Tryz.prog _ _ h
 simp only [List.reverse_cons,List.reverse_nil,List.nil_append,List.forIn_toArray]
 exact k
theorem Ju {K:kQ} {h:A2} {n:Nat} (hn:n < 4294967296) (k:∀h',G4 h.size h h'->K (.string (dg n)) h'):A5 Tryz.prog 199 #[.int .u32 n] h K:=by
 refine call199 ?_
 unfold F199
 refine ⟨λvs h'=>∃v,∃m f:Nat,∃s:ByteArray,vs = [.int .u32 m,v,.string s]/\m < 4294967296/\m < 10 ^ (f+1)/\dgA (f+1) m s=dg n/\s.size+(f+1)<=20/\G4 h.size h h',λvs _=>(match vs with | [.int _ m,_,_]=>m.toNat | _=>0),
  ⟨_,n,19,⟨#[]⟩,rfl,hn,by omega,rfl,Nat.le_refl _,G4.refl _ _⟩,?_⟩
 rintro v2 v3 v4 g5 h6 ⟨w,m,f,s,e,hm,hf,hr,hs,o6⟩
 cases e
 simp only [A6,G9,SQ3,SQ4]
 refine ⟨by omega,?_⟩
 have e1:IntKind.u32.wrap (48+((m % 10:Nat):Int))=((48+m % 10:Nat):Int):=by
  rw [show (48:Int)+((m % 10:Nat):Int)=((48+m % 10:Nat):Int) by omega];exact Vd (by omega)
 rw [e1,SV5 (by omega),Vd (n:=m / 10) (by omega)]
 have p:=J8 h6 #[.int .u8 ((48+m % 10:Nat):Int)] 5
 generalize h6.push (oQ #[.int .u8 ((48+m % 10:Nat):Int)] 5)=h7 at *
 refine So3 p.new ?_
 have ec:UInt8.ofNat ((48+m % 10:Nat):Int).toNat=dch m:=rfl
 rw [ec]
 refine ⟨by rw [FM];omega,by omega,?_⟩
 have ok:=o6.trans (p.toOld.mono o6.1)
 unfold dgA at hr
 refine C7 (λh0=>?_) (λh0=>?_)
 ·have hlt:m < 10:=by simp at h0;omega
  rw [if_pos hlt] at hr
  rw [hr]
  exact k _ ok
 ·have hge:¬ m < 10:=by intro hlt;simp at h0;omega
  rw [if_neg hge] at hr
  obtain ⟨f,rfl⟩ : ∃f',f=f' + 1:=⟨f - 1,by
   cases f with
   | zero=>simp at hf;omega
   | succ f=>rfl⟩
  refine ⟨⟨_,m / 10,f,_,rfl,by omega,by rw [Nat.pow_succ] at hf;omega,hr,by rw [ByteArray.size_append,FM];omega,ok⟩,?_⟩
  show ((m / 10:Nat):Int).toNat < (m:Int).toNat
  omega
end
section
theorem If {P:Program} (r:Nat) (F:Option (TypeId × Nat)->A2->Prop) (h:A2):hp P (shape r) F h=F (Cw h r) h:=rfl
theorem Ni {P:Program} {h:A2} {b:Nat} {row:Array Value} {t:TypeId} (e:h[b]? = some (oQ row t)) (F:Option (Addr × TypeId)->A2->Prop):hp P (viewAt b) F h=F none h:=by
 unfold viewAt
 have:Cw h b=some (t,row.size):=by unfold Cw;rw [e]
 simp only [A8,If,this];rfl
theorem Ve {P:Program} {h:A2} {b:Nat} {row:Array Value} {t:TypeId} (e:h[b]? = some (oQ row t)) (F:Option Nat->A2->Prop):hp P (cellsIn b) F h=F (some row.size) h:=by
 unfold cellsIn
 have:Cw h b=some (t,row.size):=by unfold Cw;rw [e]
 simp only [A8,If,this];rfl
theorem KV:AH Tryz.prog 160=.pointer 162:=by kernel_rfl
theorem Ow:AH Tryz.prog 267=.unsafePointer:=by kernel_rfl
theorem Ox:J7 Tryz.prog 162=true:=by kernel_rfl
theorem So4:L7 Tryz.prog 162=2:=by kernel_rfl
theorem SQ5:liesAt Tryz.prog Tryz.prog.depth 162 (2 / Tryz.prog.cellsOf 162) 0 162 1=true:=by kernel_rfl
theorem SF4 {h:A2} {p:Nat} {v0 v1:Value} {K:kQ} (e:h[p]? = some (oQ #[v0,v1] 162)) (k:K (pQ (some (aQ p))) h):Mf Tryz.prog 160 267 (pQ (some (aQ p))) h K:=by
 unfold Mf convert
 simp only [A8,C0 (D9 KV (by simp)),C0 (D9 Ow (by simp))]
 unfold Conv.unsafePointer
 simp only [A8,C0 (D9 KV (by simp)),C0 (D9 Ow (by simp)),Conv.seenAt,Ni e,D6,Ve e,I8 Ox,So4]
 exact k
theorem Zd {h:A2} {p:Nat} {v0 v1:Value} {K:kQ} (e:h[p]? = some (oQ #[v0,v1] 162)) (k:K (pQ (some (aQ p))) h):Mf Tryz.prog 267 160 (pQ (some (aQ p))) h K:=by
 unfold Mf convert
 simp only [A8,C0 (D9 KV (by simp)),C0 (D9 Ow (by simp))]
 unfold Conv.unsafePointer
 have:Cw h p=some (162,2):=by unfold Cw;rw [e];rfl
 simp only [A8,C0 (D9 KV (by simp)),C0 (D9 Ow (by simp)),Conv.seenAt,Ni e,D6,I8 Ox,So4,variablesAt,Bq,If,this,SQ5]
 exact k
theorem So5 {P:Program} {f:FuncId} {fn:Func} {h:A2} {v:Value} {K:kQ} (h1:P.funcs[f]? = some fn) (h2:(fn.name == "runtime.NumGoroutine")=false) (h3:fn.body.isNone=true) (h4:(Extern.findNext fn).isNone=true)
  (h5:Extern.find fn=some Extern.AbiNoEscape.same) (k:K v h):Sk5 P f #[v] h K:=by
 unfold Sk5 callFunc
 have h4':Extern.findNext fn=none:=Option.isNone_iff_eq_none.1 h4
 clear h4
 rw [A8,Bq,h1]
 show hp P (if (fn.name == "runtime.NumGoroutine")=true then _ else _) _ h
 rw [h2]
 show hp P (if fn.body.isNone=true then _ else _) _ h
 rw [h3,if_pos rfl,A8]
 show hp P (match Extern.findNext fn with | some e=>e #[v] | _=>_) _ h
 generalize Extern.findNext fn=o1 at *
 subst h4'
 show hp P (match Extern.find fn with | some e=>(do let x <- e #[v];pure (Next.value x)) | none=>_) _ h
 generalize Extern.find fn=o2 at *
 subst h5
 exact k
theorem Oy {h:A2} {v:Value} {K:kQ} (k:K v h):Ke Tryz.prog (.func (.func 203) #[] #[]) #[v] h K:=by
 unfold Ke
 exact So5 Tryz.func203 (by kernel_rfl) (by kernel_rfl) (by kernel_rfl) (by kernel_rfl) k
theorem Ze {P:Program} (d:Nat) {t el:TypeId} {a b:Addr} (hu:P.underlying t=some (.pointer el)) (hth:J7 P el=true) (hsz:L7 P el≠0) (F:Bool->A2->Prop) (h:A2) (H:hp P (sameAddr a b) F h):hp P (Op.equalIn (d+1) t (.pointer (some a)) (.pointer (some b))) F h:=by
 simp only [Op.equalIn,A8,C0 hu,I8 hth]
 rw [if_pos hsz]
 exact H
theorem So6 {h:A2} {p:Nat} {K:kQ} (k:K (dQ false) h):Qb Tryz.prog .neq 160 (some (aQ p)) (some (aQ p)) h K:=by
 unfold Qb
 rw [U4 (by simp) (by simp) (by simp) (by simp),O8]
 refine Ze 9999 (D9 KV (by simp)) Ox (by rw [So4];omega) _ _ ?_
 unfold sameAddr
 simp only [beq_self_eq_true,if_true]
 exact k
theorem FN {h:A2} {p:Nat} {q:Option Addr} {v:Value} {K:kQ} (e:h[p]? = some (oQ #[pQ q,v] 162)) (hq:q=none\/q=some (aQ p))
  (k:∀h',h'[p]? = some (oQ #[pQ (some (aQ p)),v] 162)->h'.size=h.size->(∀c,c≠p->h'[c]? = h[c]?)->K tQ h') :
  A5 Tryz.prog 136 #[pQ (some (aQ p))] h K:=by
 refine call136 ?_
 unfold F136 lP nP
 simp only [B4,C9]
 refine C5 e rfl ?_
 simp only [C2]
 rcases hq with rfl | rfl
 ·simp only [Option.isNone_none,G2]
  refine SF4 e (Oy (Zd e ?_))
  simp only [C2]
  refine stR e rfl trivial λh' w=>?_
  refine k h' ?_ w.size (λc hc=>w.old c hc)
  have:=w.new
  exact this
 ·simp only [Option.isNone_some,E2]
  refine C5 e rfl ?_
  simp only [C2]
  refine So6 ?_
  simp only [B6,E2]
  exact k h e rfl λ_ _=>rfl
end
section
def PZ (s:ByteArray):List Value:=s.data.toList.map λb=>.int .u8 b.toNat
theorem Oz (s:ByteArray):(PZ s).length=s.size:=by unfold PZ;rw [List.length_map,Array.length_toList];rfl
theorem Vf (s x:ByteArray):PZ (s ++ x)=PZ s ++ PZ x:=by
 unfold PZ
 rw [ByteArray.data_append,Array.toList_append,List.map_append]
theorem So7 {P:Program} {t t2 elem:TypeId} {z:Value} {h:A2} {a:Option Addr} {l c n:Nat} {s:ByteArray} {xs ys:List Value} {K:kQ} (hu2:AH P t2=.string) (hns:s.size=n) (hys:ys=PZ s)
  (hu:AH P t=.slice elem) (hth:J7 P elem=true) (hz:Gw P elem=some z) (hzs:z.cells.size=L7 P elem)
  (ho:CG h elem (L7 P elem) a l c xs) (hn:ys.length=n*L7 P elem) (hone:∀y ∈ ys,J3 y True) (hb0:0 < Eo P elem) (hb:(2*(l+n)+512)*Eo P elem<=2 ^ 48)
  (H:∀a' c' h',CG h' elem (L7 P elem) a' (l+n) c' (xs ++ ys)->h.size<=h'.size->(∀b,b < h.size->(∀ad,a=some ad->ad.block≠b)->h'[b]? = h[b]?)->(a' = a\/a' = some (aQ h.size))->K (lQ a' (l+n) c') h') :
  T2 P #[t,t2] t #[lQ a l c,.string s] h K:=by
 have hu':=D9 hu (by simp)
 obtain ⟨info,hinfo⟩:=Cj hth
 have hbyt:info.bytes=Eo P elem:=by unfold Eo;rw [hinfo]
 have hu2':=D9 hu2 (by simp)
 have first:∀(F:Array Value->A2->Prop),F ys.toArray h->hp P (Builtin.firstCells (L7 P elem) n (.string s)) F h:=by
  intro F k
  subst hys hns
  show F ((s.extract 0 s.size).data.map λb=>Value.int .u8 b.toNat) h
  rw [ByteArray.extract_zero_size]
  have e:(PZ s).toArray=s.data.map λb=>Value.int .u8 b.toNat:=by
   unfold PZ
   rw [<- Array.toList_map]
  rw [<- e];exact k
 unfold T2 Builtin.append_
 simp only [List.getElem?_toArray,List.getElem?_cons_zero,List.getElem?_cons_succ,A8,D6,C0 hu',C0 hu2',I8 hth,Bool.false_eq_true,if_false]
 show hp P (Builtin.lenOf _) _ h
 simp only [Builtin.lenOf,D6,hns]
 rw [Er]
 obtain ⟨hl,hlc,hor⟩:=ho
 split
 ·rename_i hcap
  simp only [A8]
  show hp P (if (!false)=true then _ else _) _ h
  refine first _ ?_
  rcases hor with ⟨rfl,rfl⟩ | ⟨b,row,rfl,hb2,hrs,hrt⟩
  ·have e1:l+n=0:=by omega
   have e2:n=0:=by omega
   subst e2
   have:ys = []:=by simpa using hn
   subst this
   simp only [A8,D6]
   refine H none 0 h ⟨by simp [hl],by omega,.inl ⟨rfl,rfl⟩⟩ (Nat.le_refl _) (λ_ _ _=>rfl) (.inl rfl)
  ·simp only [A8]
   have hlt:=(Array.getElem?_eq_some_iff.1 hb2).1
   have hmul:(l+n)*L7 P elem<=c*L7 P elem:=Nat.mul_le_mul_right _ hcap
   rw [Nat.add_mul] at hmul
   refine X4 _ _ h 0 _ ?_
   rw [E1]
   refine GB ys h b _ 0 row elem _ hb2 (by omega) hone ?_
   intro row' h1 h2
   simp only [D6]
   refine H (some (aQ b)) c _ ⟨by simp [hl,hn,Nat.add_mul],hcap,.inr ⟨b,row',rfl,T4 hlt,by rw [h1,hrs],?_⟩⟩ (by simp) (λb' hb' hne=>U5 (Ne.symm (hne _ rfl))) (.inl rfl)
   apply List.ext_getElem?
   intro j
   rw [List.getElem?_take,Array.getElem?_toList,h2 j]
   rw [Nat.add_mul]
   by_cases c1:j < l*L7 P elem
   ·rw [if_pos (by omega),if_neg (by omega),List.getElem?_append_left (by omega),<- hrt,List.getElem?_take,if_pos c1,Array.getElem?_toList]
   ·rw [List.getElem?_append_right (by omega)]
    by_cases c2:j < l*L7 P elem+n*L7 P elem
    ·rw [if_pos c2,if_pos (by omega)]
     congr 1;omega
    ·rw [if_neg c2]
     symm;apply List.getElem?_eq_none;omega
 ·rename_i hcap
  simp only [A8,D6]
  have hbound:¬ Builtin.nextslicecap (l+n) c*info.bytes > 2 ^ 48:=by
   rw [hbyt]
   have:=Nat.le_trans (Nat.mul_le_mul_right (Eo P elem) (EW (l+n) c (by omega))) hb
   omega
  simp only [A8,D6,S3 hinfo,Er]
  rw [if_neg (by rw [hbyt];intro x;rcases x.2 with y | y <;> first | exact y | omega),if_neg hbound]
  show ∀tp,_
  intro tp
  rw [if_neg (by simp [Question.forced])]
  obtain ⟨cap,hcp⟩ : ∃cap,cap=(Question.appendCap (l+n) c elem).cut tp:=⟨_,rfl⟩
  have hcap2:l+n<=cap:=by rw [hcp];simp [Question.cut]
  rw [<- hcp]
  rw [show (Sem.pure cap:Sem Nat)=pure cap from rfl]
  simp only [A8,D6,S3 hinfo,Ck]
  have old:∀(F:Array Value->A2->Prop),F xs.toArray h->hp P (Builtin.firstCells (L7 P elem) l (lQ a l c)) F h:=by
   intro F k
   rcases hor with ⟨rfl,rfl⟩ | ⟨b,row,rfl,hb2,hrs,hrt⟩
   ·have:l=0:=by omega
    subst this
    have:xs = []:=by simpa using hl
    subst this;exact k
   ·show hp P (loadCells (aQ b) (l*L7 P elem)) F h
    refine M2 _ _ 0 [] F ?_
    rw [<- hl]
    refine Dp xs 0 [] _ (λj v hj=>?_) (by simpa using k)
    rw [E1,E0 hb2,Nat.zero_add,Nat.zero_add,<- Array.getElem?_toList]
    rw [<- hrt,List.getElem?_take] at hj
    split at hj
    ·exact hj
    ·cases hj
  refine old _ ?_
  rw [A8,if_pos (show (!false)=true from rfl)]
  refine first _ ?_
  simp only [A8]
  simp only [R9 hz]
  show K (lQ (some (aQ h.size)) (l+n) cap) (h.push _)
  have hzc:(Builtin.zeroCells z.cells (cap - (l+n))).size=(cap - (l+n))*L7 P elem:=by rw [BI,hzs]
  refine H _ cap _ ⟨by simp [hl,hn,Nat.add_mul],hcap2,.inr ⟨h.size,_,rfl,Z6 _ _,?_,?_⟩⟩ (by simp) (λb hb' _=>S4 _ _ _ hb') (.inr rfl)
  ·simp only [Array.size_append,hzc,List.size_toArray,hl,hn,<- Nat.add_mul]
   congr 1;omega
  ·simp only [Array.toList_append,List.toList_toArray]
   rw [List.take_left' (by simp [hl,hn,Nat.add_mul])]
theorem KW:J7 Tryz.prog 5=true:=by kernel_rfl
theorem So8:Gw Tryz.prog 5=some (.int .u8 0):=by kernel_rfl
theorem EI:L7 Tryz.prog 5=1:=by kernel_rfl
theorem QV:Eo Tryz.prog 5=1:=by kernel_rfl
def Bld (h:A2) (p:Nat) (s:ByteArray):Prop:=
 ∃q a l c,h[p]? = some (oQ #[pQ q,lQ a l c] 162)/\(q=none\/q=some (aQ p))/\CG h 5 1 a l c (PZ s)/\∀ad,a=some ad->p < ad.block
theorem Cp {h:A2} {p:Nat} {s x:ByteArray} {K:kQ} (H:Bld h p s) (hx:s.size+x.size<=2 ^ 30)
  (k:∀h',Bld h' p (s ++ x)->h.size<=h'.size->(∀c,c < p->h'[c]? = h[c]?)->K (.tuple #[iQ x.size,.nilIface]) h') :
  A5 Tryz.prog 94 #[pQ (some (aQ p)),.string x] h K:=by
 refine call94 ?_
 unfold F94 cf lS nP
 obtain ⟨q,a,l,c,h1,h2,h3,h4⟩:=H
 refine A0 (FN h1 h2 λh1' e1 s1 o1=>?_)
 simp only [B4,C9]
 refine C5 e1 rfl ?_
 simp only [C6]
 have own1:CG h1' 5 1 a l c (PZ s):=h3.keep λad e=>o1 _ (by have:=h4 ad e;omega)
 have hls:l=s.size:=by have:=h3.1;rw [Oz] at this;omega
 have hp1:p < h1'.size:=(Array.getElem?_eq_some_iff.1 e1).1
 refine So7 (elem:=5) (z:=.int .u8 0) (n:=x.size) (xs:=PZ s) (ys:=PZ x) XO rfl rfl IU KW So8 (by rw [EI];rfl) (by rw [EI];exact own1) (by rw [EI,Oz];omega) ?_ (by rw [QV];omega) (by rw [QV];omega) ?_
 ·intro y hy
  unfold PZ at hy
  obtain ⟨b,_,rfl⟩:=List.mem_map.1 hy
  exact trivial
 intro a' c' h8 own8 hs8 old8 hor
 rw [EI] at own8
 simp only [C6,B4,C9]
 have e8:h8[p]? = some (oQ #[pQ (some (aQ p)),lQ a l c] 162):=(old8 p hp1 (λad e=>by have:=h4 ad e;omega)).trans e1
 refine stR e8 rfl trivial λh13 w=>?_
 have hge:∀ad,a' = some ad->p < ad.block:=by
  intro ad e
  rcases hor with rfl | rfl
  ·exact h4 ad e
  ·cases e;exact hp1
 refine k h13 ⟨_,a',l+x.size,c',w.new,.inr rfl,?_,hge⟩ (by rw [w.size];omega) (λb hb=>?_)
 ·rw [Vf]
  exact own8.keep λad e=>w.old _ (by have:=hge ad e;show ad.block≠p;omega)
 ·exact (w.old b (by show b≠p;omega)).trans ((old8 b (by omega) (λad e=>by have:=h4 ad e;omega)).trans (o1 b (by omega)))
theorem OA {P:Program} {h:A2}:∀(l:List UInt8) (a:Addr) (acc:ByteArray) (F:ByteArray->A2->Prop),(∀(j:Nat) (x:UInt8),l[j]? = some x->A3 h (a.add j)=some (.int .u8 x.toNat))->F ⟨acc.data ++ l.toArray⟩ h->hp P (loadBytes a acc l.length) F h:=by
 intro l
 induction l with
 | nil=>
  intro a acc F _ k
  have e:(⟨acc.data ++ ([]:List UInt8).toArray⟩ : ByteArray)=acc:=by apply ByteArray.ext;simp
  rw [e] at k;exact k
 | cons x l ih=>
  intro a acc F hc k
  unfold List.length loadBytes
  rw [A8]
  have h0:=hc 0 x rfl
  rw [add_zero] at h0
  simp only [load,hp,h0]
  show hp P (loadBytes (a.add 1) (acc.push (((x.toNat:Int).toNat).toUInt8)) l.length) F h
  have hx:((x.toNat:Int).toNat).toUInt8=x:=by simp
  rw [hx]
  refine ih _ _ _ (λj y hj=>?_) ?_
  ·have:=hc (j+1) y (by simpa using hj)
   rw [BH,Nat.add_comm 1 j];exact this
  ·have e:(⟨(acc.push x).data ++ l.toArray⟩ : ByteArray)=⟨acc.data ++ (x :: l).toArray⟩:=by
    apply ByteArray.ext
    simp [ByteArray.push]
   rw [e];exact k
theorem Vg {P:Program} {e:TypeId} (hc:P.cellsOf e=1) (count n:Nat) (hn:n<=count):liesAt P P.depth e count 0 e n=true:=by
 have hd:P.depth=(2*(P.types.size+Made.depth)+1)+1:=rfl
 rw [hd]
 simp only [liesAt,Bool.or_eq_true]
 left
 rw [hd]
 simp [rowAt,hc,hn,sameLayout]
theorem KX:Tryz.prog.cellsOf 5=1:=by kernel_rfl
theorem Zf:AH Tryz.prog 226=.pointer 5:=by kernel_rfl
theorem QW {h:A2} {p:Nat} {s:ByteArray} {K:kQ} (H:Bld h p s) (h0:s.size≠0) (hs:s.size < 2 ^ 60) (k:∀h',h'.size=h.size->(∀c,c<=p->h'[c]? = h[c]?)->K (.string s) h') :
  A5 Tryz.prog 97 #[pQ (some (aQ p))] h K:=by
 refine call97 ?_
 unfold F97 lS nP
 obtain ⟨q,a,l,c,h1,h2,h3,h4⟩:=H
 have hls:l=s.size:=by have:=h3.1;rw [Oz] at this;omega
 obtain ⟨g1,g2,g3⟩:=h3
 rcases g3 with ⟨rfl,hc0⟩ | ⟨b,row,rfl,hb,hrs,hrt⟩
 ·omega
 have hbp:p < b:=h4 _ rfl
 simp only [B4,C9]
 refine C5 h1 rfl ?_
 simp only [C6]
 refine C5 h1 rfl ?_
 simp only [C6]
 have hu:∀ {K:kQ},K (pQ (some (aQ b))) h->SO5 Tryz.prog #[26] 226 #[lQ (some (aQ b)) l c] h K:=by
  intro K kk
  obtain ⟨c',rfl⟩ : ∃c',c=c' + 1:=⟨c - 1,by omega⟩
  exact kk
 refine hu ?_
 simp only [C2]
 refine ⟨?_,?_⟩
 ·rw [E1,E0 h1];rfl
 have hn0:¬ ((l:Nat):Int) < 0:=by omega
 have hn1:¬ ((l:Nat):Int) > IntKind.i64.max:=by
  have e:IntKind.i64.max=9223372036854775807:=by decide
  omega
 have hl0:¬ ((l:Nat):Int)=0:=by omega
 have hsh:Cw h b=some (5,row.size):=by unfold Cw;rw [hb]
 have hrow:row.size=c:=by omega
 have eu:Builtin.unsafeString_ #[226,3] 9 #[pQ (some (aQ b)),iQ ((l:Nat):Int)]=(do
   if ((l:Nat):Int) < 0 then runtimePanic (.error "unsafe.String: len out of range")
   if ((l:Nat):Int) > IntKind.i64.max then unsupported (.unsafePointer "String: a length above the largest int")
   if ((l:Nat):Int)=0 then pure (.string .empty)
   else if <- variablesAt (aQ b) (<- elemOf 226) ((l:Nat):Int).toNat then do
    let s <- loadBytes (aQ b) .empty ((l:Nat):Int).toNat
    freeze (aQ b) ((l:Nat):Int).toNat
    pure (.string s)
   else unsupported (.unsafePointer "String: not so many bytes at ptr")):=rfl
 unfold SO6
 rw [eu]
 simp only [A8,D6,if_neg hn0,if_neg hn1,if_neg hl0,Int.toNat_natCast,elemOf,C0 (D9 Zf (by simp)),variablesAt,Bq,If,hsh,KX,Nat.div_one,Vg KX row.size l (by omega),if_true]
 have hlen:l=s.data.toList.length:=by rw [hls,Array.length_toList];rfl
 have hload:∀ {F:ByteArray->A2->Prop},F s h->hp Tryz.prog (loadBytes (aQ b) .empty l) F h:=by
  intro F kk
  rw [hlen]
  refine OA _ _ _ _ (λj x hj=>?_) ?_
  ·rw [E1,E0 hb,Nat.zero_add,<- Array.getElem?_toList]
   have hx:(PZ s)[j]? = some (.int .u8 x.toNat):=by unfold PZ;rw [List.getElem?_map,hj];rfl
   rw [<- hrt,List.getElem?_take] at hx
   split at hx
   ·exact hx
   ·cases hx
  ·have e:(⟨ByteArray.empty.data ++ s.data.toList.toArray⟩ : ByteArray)=s:=by
    apply ByteArray.ext;simp
   rw [e];exact kk
 refine hload ?_
 show K (.string s) (freezeAt h (aQ b) l)
 refine k _ ?_ (λx hx=>?_)
 ·unfold freezeAt
  split
  ·rfl
  ·simp
 ·unfold freezeAt
  split
  ·rfl
  ·rw [Array.getElem?_modify,if_neg (show ¬ ((aQ b) : Addr).block=x from by show ¬ b=x;omega)]
end
section
structure Ro where
 c0:Int
 c1:Int
 c2:Int
 c3:Int
 c4:Int
 c5:Int
 c6:Int
abbrev Ro.cells (r:Ro):List Value:=[iv r.c0,iv r.c1,iv r.c2,iv r.c3,iv r.c4,iv r.c5,iv r.c6]
def dgI (x:Int):ByteArray:=dg x.toNat
theorem QX {K:kQ} {h:A2} {a b:Int} (k:∀h',G4 h.size h h'->K (dQ true) h'):A5 Tryz.prog 197 #[.agg #[iQ 2,.int .u32 a,.int .u32 b]] h K:=by
 refine call197 ?_
 unfold F197 g197 lI
 have p:=J8 h #[iQ 2,.int .u32 a,.int .u32 b] 43
 generalize h.push (oQ #[iQ 2,.int .u32 a,.int .u32 b] 43)=h1 at *
 refine C5 p.new rfl ?_
 simp only [A6]
 exact C7 (λ_=>k _ p.toOld) (λe=>by simp at e)
theorem Mo {K:kQ} {h:A2} {a b:Nat} (ha:a < 4294967296) (hb:b < 4294967296) (k:∀h',G4 h.size h h'->K (.string (dg a ++ (⟨#[32]⟩ : ByteArray) ++ dg b)) h') :
  A5 Tryz.prog 128 #[.agg #[iQ 2,.int .u32 a,.int .u32 b]] h K:=by
 refine call128 ?_
 unfold F128 g128 cf ce lI L1
 have p:=J8 h #[iQ 2,.int .u32 a,.int .u32 b] 43
 generalize h.push (oQ #[iQ 2,.int .u32 a,.int .u32 b] 43)=h1 at *
 refine C5 p.new rfl (C5 p.new rfl (C5 p.new rfl ?_))
 refine A0 (QX λh4 o4=>?_)
 simp only [B6,Bool.not_true,E2]
 have c:∀(i:Nat) (v:Value),([iQ 2,.int .u32 a,.int .u32 b]:List Value)[i]? = some v->A3 h4 ⟨h.size,i,none⟩=some v:=λi v e=>Bw _ _ o4 (E9 p.new e)
 have ok4:=p.toOld.trans (o4.mono p.toOld.1)
 refine D3 (c 0 _ rfl) ?_
 simp only [A6]
 refine C7 (λe=>by simp at e) (λ_=>C7 (λe=>by simp at e) (λ_=>C7 (λe=>by simp at e) (λ_=>?_)))
 refine D3 (c 1 _ rfl) ?_
 simp only [A6]
 refine D3 (c 2 _ rfl) ?_
 simp only [A6]
 have sa:=Ov a
 have sb:=Ov b
 refine A0 (Ju ha λh13 o13=>?_)
 simp only [G9]
 refine ⟨Bw _ _ o13 (c 2 _ rfl),by omega,?_⟩
 refine A0 (Ju hb λh16 o16=>?_)
 simp only [G9]
 refine ⟨by rw [ByteArray.size_append,FM];omega,?_⟩
 exact k _ ((ok4.trans (o13.mono ok4.1)).trans (o16.mono (Nat.le_trans ok4.1 o13.1)))
theorem Kj {K:kQ} {h:A2} {s x:ByteArray} (hs:s.size < 2 ^ 60) (hx:x.size < 2 ^ 60) (k:K (.string s) h) :
  A5 Tryz.prog 127 #[.string (s ++ x),.string x] h K:=by
 refine call127 ?_
 unfold F127 cf
 refine A0 (call198 ?_)
 unfold F198 cf
 refine A0 (call275 ?_)
 unfold F275
 have e:IntKind.i64.wrap ((((s ++ x).size:Nat):Int) - ((x.size:Nat):Int))=((s.size:Nat):Int):=by
  rw [ByteArray.size_append,D8 (by omega) (by omega)];omega
 rw [e,Int.toNat_natCast]
 have hsz:(s ++ x).size=s.size+x.size:=ByteArray.size_append
 refine A4 (λ_=>⟨by omega,by omega,?_⟩) (λhn=>by omega)
 rw [ByteArray.extract_append_eq_right rfl hsz,ByteArray.extract_append_eq_left rfl]
 simp only [beq_self_eq_true,B6,G2]
 exact ⟨by omega,by omega,k⟩
theorem Zg {cs:List Value} {t:TypeId} {i:Nat} {v:Value} {K:Value->Prop} (hs:L7 Tryz.prog t=1) (ha:NY Tryz.prog t=false) (e:cs[i]? = some v) (k:K v):EB Tryz.prog t cs.toArray (i*1) K:=by
 have:MO Tryz.prog t cs.toArray (i*1)=some v:=by
  unfold MO
  rw [if_neg (by simp [ha]),Nat.mul_one,List.getElem?_toArray,e]
 unfold EB
 rw [this]
 exact k
end
section

end
section

end
section
set_option maxRecDepth 100000
variable {K:kQ} {h:A2}
abbrev g69 (K:kQ) (h H1:A2) (xa:Option Addr) (xb:Int):Prop:=
 (D0 (Option.isNone xa) (K (iQ 1) H1) (cf 124 #[iQ xb] H1 λa b=>asBool a λa=>D0 (!a) (K (iQ 2) b) (cf 125 #[pQ xa,iQ xb] b λa b=>asBool a λa=>D0 (!a) (K (iQ 4) b) (nP xa λa=>D1 b (a.add 1) λa=>Cd a λa=>L1 b h.size λc d e=>Jm Tryz.prog 74 (.map a) (iQ xb) false b λa b=>asAgg a λa=>G0 a 3 (de3 a λa f g=>ce b h.size 0 c (ce b h.size 1 d (ce b h.size 2 e (cf 126 #[.agg #[a,f,g],.agg #[c,d,e]] b λa b=>asBool a λa=>D0 (!a) (K (iQ 1) b) (nP xa λa=>D1 b (a.add 1) λa=>Cd a λa=>XC Tryz.prog #[74,3] 0 #[.map a,iQ xb] b λa a=>nP xa λb=>D1 a b λc=>C8 c λd e f=>L1 a h.size λg i j=>((A3 (a.push (oQ #[iQ xb,dQ true,iQ 0,.int .u32 0,.int .u32 0,g,i,j] 45)) b)=(some c))/\(T2 Tryz.prog #[32,32] 32 #[lQ d e f,lQ (some (aQ a.size)) 1 1] (a.push (oQ #[iQ xb,dQ true,iQ 0,.int .u32 0,.int .u32 0,g,i,j] 45)) λa b=>C8 a λa c d=>nP xa λe=>C4 b e (lQ a c d) λa=>K (iQ 0) a))))))))))
def F69 (K:kQ) (h:A2) (xa:Option Addr) (xb xc xd xe:Int):Prop:=
 (g69 K h (h.push (oQ #[iQ xc,.int .u32 xd,.int .u32 xe] 43)) xa xb)
theorem call69 {xa:Option Addr} {xb xc xd xe:Int} (H:F69 K h xa xb xc xd xe):A5 Tryz.prog 69 #[(pQ xa),(iQ xb),(.agg #[(iQ xc),(.int .u32 xd),(.int .u32 xe)])] h K:=
 cQ Tryz.func69 H
abbrev g122 (K:kQ) (h H1:A2) (xa:Option Addr) (xb:Int):Prop:=
 (D0 (Option.isNone xa) (K (iQ 1) H1) (cf 124 #[iQ xb] H1 λa b=>asBool a λa=>D0 (!a) (K (iQ 2) b) (L1 b h.size λa c d=>cf 61 #[.agg #[a,c,d]] b λa b=>asBool a λa=>D0 (!a) (K (iQ 1) b) (cf 125 #[pQ xa,iQ xb] b λa b=>asBool a λa=>D0 a (K (iQ 5) b) (O0 λI12=>(nP xa λa=>D1 b (a.add 1) λa=>Cd a λa=>D0 (Option.isNone a) (nP xa λa=>C4 (b.push (.map #[] 0)) (a.add 1) (.map (some b.size)) λa=>I12 [] a) (I12 [] b))/\(∀(a:F8) (a:A2),(I12 [] a)->(nP xa λb=>D1 a (b.add 1) λb=>Cd b λb=>L1 a h.size λc d e=>XB Tryz.prog 74 (.map b) (iQ xb) (.agg #[c,d,e]) a λa=>nP xa λb=>D1 a b λc=>C8 c λd e f=>L1 a h.size λg i j=>((A3 (a.push (oQ #[iQ xb,dQ false,g,i,j,iQ 0,.int .u32 0,.int .u32 0] 45)) b)=(some c))/\(T2 Tryz.prog #[32,32] 32 #[lQ d e f,lQ (some (aQ a.size)) 1 1] (a.push (oQ #[iQ xb,dQ false,g,i,j,iQ 0,.int .u32 0,.int .u32 0] 45)) λa b=>C8 a λa c d=>nP xa λe=>C4 b e (lQ a c d) λa=>K (iQ 0) a))))))))
def F122 (K:kQ) (h:A2) (xa:Option Addr) (xb xc xd xe:Int):Prop:=
 (g122 K h (h.push (oQ #[iQ xc,.int .u32 xd,.int .u32 xe] 41)) xa xb)
theorem call122 {xa:Option Addr} {xb xc xd xe:Int} (H:F122 K h xa xb xc xd xe):A5 Tryz.prog 122 #[(pQ xa),(iQ xb),(.agg #[(iQ xc),(.int .u32 xd),(.int .u32 xe)])] h K:=
 cQ Tryz.func122 H
def F124 (K:kQ) (h:A2) (xa:Int):Prop:=
 (D0 (decide (xa >= 0)) (K (dQ (decide (xa < 6))) h) (K (dQ false) h))
theorem call124 {xa:Int} (H:F124 K h xa):A5 Tryz.prog 124 #[(iQ xa)] h K:=
 cQ Tryz.func124 H
def F125 (K:kQ) (h:A2) (xa:Option Addr) (xb:Int):Prop:=
 (D0 (Option.isNone xa) (K (dQ false) h) (nP xa λa=>D1 h (a.add 1) λa=>Cd a λa=>Jm Tryz.prog 74 (.map a) (iQ xb) true h λa b=>J6 a λc=>D2 c 0 λc=>asAgg c λc=>G0 c 3 (de3 c λc d e=>J6 a λa=>D2 a 1 λa=>asBool a λa=>C4 (b.push (oQ #[iQ 0,.int .u32 0,.int .u32 0] 41)) (aQ b.size) c λc=>C4 c ⟨b.size,1,none⟩ d λc=>C4 c ⟨b.size,2,none⟩ e λb=>K (dQ a) b)))
theorem call125 {xa:Option Addr} {xb:Int} (H:F125 K h xa xb):A5 Tryz.prog 125 #[(pQ xa),(iQ xb)] h K:=
 cQ Tryz.func125 H
abbrev g126 (K:kQ) (h H1 H2:A2):Prop:=
 (O0 λI0=>(L1 H2 h.size λa b c=>cf 61 #[.agg #[a,b,c]] H2 λa b=>asBool a λa=>D0 (!a) (I0 [dQ true] b) (L1 b H1.size λa c d=>cf 197 #[.agg #[a,c,d]] b λa b=>asBool a λa=>I0 [dQ (!a)] b))/\(∀(a:Value) (b:F8) (b:A2),(I0 [a] b)->(asBool a λa=>D0 a (K (dQ false) b) (lI .i64 b (aQ h.size) λa=>lI .i64 b (aQ H1.size) λc=>D0 (c == 0) (K (dQ ((a == 0) == true)) b) (lI .i64 b (aQ H1.size) λc=>K (dQ ((a == 0) == (c == 1))) b)))))
def F126 (K:kQ) (h:A2) (xa xb xc xd xe xf:Int):Prop:=
 (g126 K h (h.push (oQ #[iQ xa,.int .u32 xb,.int .u32 xc] 41)) (Array.push (h.push (oQ #[iQ xa,.int .u32 xb,.int .u32 xc] 41)) (oQ #[iQ xd,.int .u32 xe,.int .u32 xf] 43)))
theorem call126 {xa xb xc xd xe xf:Int} (H:F126 K h xa xb xc xd xe xf):A5 Tryz.prog 126 #[(.agg #[(iQ xa),(.int .u32 xb),(.int .u32 xc)]),(.agg #[(iQ xd),(.int .u32 xe),(.int .u32 xf)])] h K:=
 cQ Tryz.func126 H
abbrev g61 (K:kQ) (h H1:A2):Prop:=
 (lI .i64 H1 (aQ h.size) λa=>D0 (a == 0) (K (dQ true) H1) (O0 λI2=>(D0 (a == 1) (I2 [dQ true] H1) (I2 [dQ (a == 2)] H1))/\(∀(a:Value) (b:F8) (b:A2),(I2 [a] b)->(asBool a λa=>D0 a (lI .u32 b ⟨h.size,1,none⟩ λa=>D0 (a == 0) (lI .u32 b ⟨h.size,2,none⟩ λa=>K (dQ (a == 0)) b) (K (dQ false) b)) (K (dQ false) b)))))
def F61 (K:kQ) (h:A2) (xa xb xc:Int):Prop:=
 (g61 K h (h.push (oQ #[iQ xa,.int .u32 xb,.int .u32 xc] 41)))
theorem call61 {xa xb xc:Int} (H:F61 K h xa xb xc):A5 Tryz.prog 61 #[(.agg #[(iQ xa),(.int .u32 xb),(.int .u32 xc)])] h K:=
 cQ Tryz.func61 H
end
section
structure C3 where
 o:Int
 k:Int
 v:Int
abbrev C3.cells (c:C3):List Value:=[iQ c.o,.int .u32 c.k,.int .u32 c.v]
def Eu (c:C3):Bool:=c.o == 0 || ((c.o == 1 || c.o == 2) && (c.k == 0 && c.v == 0))
def FO (a:C3):Bool:=a.o == 2 || ((a.o == 0 || (a.o == 1 || a.o == 3)) && (a.k == 0 && a.v == 0))
def KY (c a:C3):Bool:=Eu c && (FO a && ((c.o == 0) == (a.o == 0 || a.o == 1)))
theorem FP {K:kQ} {h:A2} {c:C3} (k:∀h',G4 h.size h h'->K (dQ (Eu c)) h'):A5 Tryz.prog 61 #[.agg c.cells.toArray] h K:=by
 refine call61 ?_
 unfold F61 g61 lI
 have p:=J8 h c.cells.toArray 41
 rw [show h.push (oQ #[iQ c.o,.int .u32 c.k,.int .u32 c.v] 41)=h.push (oQ c.cells.toArray 41) from rfl]
 generalize h.push (oQ c.cells.toArray 41)=h1 at *
 have kk:=k _ p.toOld
 unfold Eu at kk
 refine C5 p.new rfl ?_
 simp only [A6]
 refine C7 (λe=>by rw [e] at kk;exact kk) (λe=>?_)
 rw [e,Bool.false_or] at kk
 refine ⟨λvs h'=>vs = [dQ (c.o == 1 || c.o == 2)]/\h' = h1,?_,?_⟩
 ·refine C7 (λe1=>⟨by rw [e1];rfl,rfl⟩) (λe1=>⟨by rw [e1,Bool.false_or],rfl⟩)
 rintro v3 g4 h5 ⟨e3,rfl⟩
 cases e3
 simp only [B6]
 refine C7 (λe1=>?_) (λe1=>by rw [e1] at kk;exact kk)
 rw [e1,Bool.true_and] at kk
 refine C5 p.new rfl ?_
 simp only [A6]
 refine C7 (λe2=>?_) (λe2=>by rw [e2] at kk;exact kk)
 rw [e2,Bool.true_and] at kk
 refine C5 p.new rfl ?_
 simp only [A6]
 exact kk
theorem Mp {K:kQ} {h:A2} {c:C3} (k:∀h',G4 h.size h h'->K (dQ (FO c)) h'):A5 Tryz.prog 197 #[.agg c.cells.toArray] h K:=by
 refine call197 ?_
 unfold F197 g197 lI
 have p:=J8 h c.cells.toArray 43
 rw [show h.push (oQ #[iQ c.o,.int .u32 c.k,.int .u32 c.v] 43)=h.push (oQ c.cells.toArray 43) from rfl]
 generalize h.push (oQ c.cells.toArray 43)=h1 at *
 have kk:=k _ p.toOld
 unfold FO at kk
 refine C5 p.new rfl ?_
 simp only [A6]
 refine C7 (λe=>by rw [e] at kk;exact kk) (λe=>?_)
 rw [e,Bool.false_or] at kk
 refine ⟨λvs h'=>vs = [dQ (c.o == 0 || (c.o == 1 || c.o == 3))]/\h' = h1,?_,?_⟩
 ·refine C7 (λe1=>⟨by rw [e1];rfl,rfl⟩) (λe1=>?_)
  refine C7 (λe2=>⟨by rw [e1,e2];rfl,rfl⟩) (λe2=>⟨by rw [e1,e2,Bool.false_or,Bool.false_or],rfl⟩)
 rintro v3 g4 h5 ⟨e3,rfl⟩
 cases e3
 simp only [B6]
 refine C7 (λe1=>?_) (λe1=>by rw [e1] at kk;exact kk)
 rw [e1,Bool.true_and] at kk
 refine C5 p.new rfl ?_
 simp only [A6]
 refine C7 (λe2=>?_) (λe2=>by rw [e2] at kk;exact kk)
 rw [e2,Bool.true_and] at kk
 refine C5 p.new rfl ?_
 simp only [A6]
 exact kk
theorem Zh {K:kQ} {h:A2} {c a:C3} (k:∀h',G4 h.size h h'->K (dQ (KY c a)) h'):A5 Tryz.prog 126 #[.agg c.cells.toArray,.agg a.cells.toArray] h K:=by
 refine call126 ?_
 unfold F126 g126 cf lI L1
 have p:=J8 h c.cells.toArray 41
 rw [show h.push (oQ #[iQ c.o,.int .u32 c.k,.int .u32 c.v] 41)=h.push (oQ c.cells.toArray 41) from rfl]
 generalize h.push (oQ c.cells.toArray 41)=h1 at *
 have s1:=p.size
 have p2:=J8 h1 a.cells.toArray 43
 rw [show h1.push (oQ #[iQ a.o,.int .u32 a.k,.int .u32 a.v] 43)=h1.push (oQ a.cells.toArray 43) from rfl]
 generalize h1.push (oQ a.cells.toArray 43)=h2 at *
 have e2:h2[h.size]? = some (oQ c.cells.toArray 41):=(p2.old _ (by omega)).trans p.new
 have o2:=p.toOld.trans (p2.toOld.mono (by omega))
 have s2:=p2.size
 refine ⟨λvs h'=>vs = [dQ (!(Eu c && FO a))]/\G4 h2.size h2 h',?_,?_⟩
 ·refine C5 e2 rfl (C5 e2 rfl (C5 e2 rfl ?_))
  refine A0 (FP (c:=c) λh5 o5=>?_)
  simp only [B6]
  refine C7 (λe=>⟨by simp at e;rw [e];rfl,o5⟩) (λe=>?_)
  have e5:=(o5.2 _ (by omega)).trans p2.new
  refine C5 e5 rfl (C5 e5 rfl (C5 e5 rfl ?_))
  refine A0 (Mp (c:=a) λh11 o11=>?_)
  simp only [B6]
  refine ⟨?_,o5.trans (o11.mono o5.1)⟩
  have:Eu c=true:=by simpa using e
  rw [this,Bool.true_and]
 rintro v13 g14 h15 ⟨e,o15⟩
 cases e
 simp only [B6]
 have kk:=k _ (o2.trans (o15.mono o2.1))
 unfold KY at kk
 refine C7 (λe=>?_) (λe=>?_)
 ·have:(Eu c && FO a)=false:=by revert e;cases (Eu c && FO a) <;> intro e <;> first | rfl | cases e
  rw [<- Bool.and_assoc,this] at kk
  exact kk
 ·have:(Eu c && FO a)=true:=by revert e;cases (Eu c && FO a) <;> intro e <;> first | rfl | cases e
  rw [<- Bool.and_assoc,this,Bool.true_and] at kk
  have c15:=(o15.2 _ (by omega)).trans e2
  have a15:=(o15.2 _ (by omega)).trans p2.new
  refine C5 c15 rfl ?_
  simp only [A6]
  refine C5 a15 rfl ?_
  simp only [A6]
  refine C7 (λe1=>by rw [e1,Bool.true_or] at kk;exact kk) (λe1=>?_)
  rw [e1,Bool.false_or] at kk
  refine C5 a15 rfl ?_
  simp only [A6]
  exact kk
end
section

end
section
def doP (ps:List Pr) (c a:C3):Option (List Pr):=
 if KY c a then
  if a.o=0 then some (SV1 (c.k,c.v) ps)
  else if a.o=1 then some ps
  else if a.o=3 then (if ps = [] then some ps else none)
  else if (a.k,a.v) ∈ SL8 ps then (if c.o=1 then some (ps.erase (a.k,a.v)) else some ps) else none
 else none
end
section
set_option maxRecDepth 100000

end
section

end
section
variable {K:kQ} {h:A2}
def F291 (K:kQ) (h:A2) (xa:Option Addr) (xb xc:Nat):Prop:=
 (K (.func (.func 305) #[] #[pQ (some (aQ h.size))]) (h.push (oQ #[lQ xa xb xc] 25)))
theorem call291 {xa:Option Addr} {xb xc:Nat} (H:F291 K h xa xb xc):A5 Tryz.prog 291 #[(lQ xa xb xc)] h K:=
 cQ Tryz.func291 H
def F305 (K:kQ) (h:A2) (xa c0:Value):Prop:=
 (E5 c0 λa=>lS h a λa b c=>O0 λI5=>Hg λm6=>(I5 [tQ,iQ 0] h)/\(∀(c d:Value) (e:F8) (e:A2),(I5 [c,d] e)->(asInt .i64 d λf=>D0 (decide (f < (b:Int))) (Gv d λf=>bd f (b:Int) (E5 (pQ a) λa=>lI .i64 e (a.add (f.toNat*1)) λa=>AQ Tryz.prog xa #[iQ a] e λb f=>asBool b λb=>D0 (!b) (K tQ f) (asInt .i64 d λb=>(I5 [iQ a,iQ (IntKind.wrap .i64 (b+1))] f)/\((m6 [iQ a,iQ (IntKind.wrap .i64 (b+1))] f) < (m6 [c,d] e))))) (K tQ e))))
theorem call305 {xa c0:Value} (H:F305 K h xa c0):A5 Tryz.prog 305 #[xa,c0] h K:=
 cQ Tryz.func305 H
abbrev g290 (K:kQ) (h H1 H2:A2) (xa xb:Value):Prop:=
 (J3 xa (J3 xb (O0 λI0=>(D1 H2 (aQ h.size) λa=>V7 a λa=>D0 a (I0 [dQ true] H2) (D1 H2 (aQ H1.size) λa=>V7 a λa=>I0 [dQ a] H2))/\(∀(a:Value) (b:F8) (b:A2),(I0 [a] b)->(asBool a λa=>D0 a (K (.func (.func 303) #[] #[]) b) (K (.func (.func 304) #[] #[pQ (some (aQ h.size)),pQ (some (aQ H1.size))]) b))))))
def F290 (K:kQ) (h:A2) (xa xb:Value):Prop:=
 (g290 K h (h.push (oQ #[xa] 311)) (Array.push (h.push (oQ #[xa] 311)) (oQ #[xb] 102)) xa xb)
theorem call290 {xa xb:Value} (H:F290 K h xa xb):A5 Tryz.prog 290 #[xa,xb] h K:=
 cQ Tryz.func290 H
abbrev g304 (K:kQ) (h H1:A2) (xa c0 c1:Value):Prop:=
 (J3 xa (E5 c0 λa=>D1 H1 a λa=>Hh Tryz.prog a 1 H1 (λI2 a b=>asInt .i64 (a.getD 0 tQ) λa=>O0 λI6=>(E5 c1 λc=>D1 b c λc=>AQ Tryz.prog c #[iQ a] b λb c=>asBool b λb=>D0 b (D1 c (aQ h.size) λb=>AQ Tryz.prog b #[iQ a] c λa b=>asBool a λa=>I6 [dQ (!a)] b) (I6 [dQ false] c))/\(∀(a:Value) (b:F8) (b:A2),(I6 [a] b)->(asBool a λa=>D0 a (I2 .ret b) (I2 .normal b)))) (λa=>(∀b:A2,(Z5 h.size a b)->(K tQ b))) [(.ret,λa=>(∀b:A2,(Z5 h.size a b)->(K tQ b)))]))
def F304 (K:kQ) (h:A2) (xa c0 c1:Value):Prop:=
 (g304 K h (h.push (oQ #[xa] 102)) xa c0 c1)
theorem call304 {xa c0 c1:Value} (H:F304 K h xa c0 c1):A5 Tryz.prog 304 #[xa,c0,c1] h K:=
 cQ Tryz.func304 H
end
section
abbrev DR (L:List Int) (k:Nat):Array Value:=#[iv (L.getD k 0)]
theorem SQ6 {p:Nat} {a:Option Addr} {l c:Nat} {xs:List Int} (hl:l < 2 ^ 60) :
  Qt Tryz.prog (.func (.func 305) #[] #[pQ (some (aQ p))]) xs.length (DR xs)
   (λh=>A3 h (aQ p)=some (lQ a l c)/\RI h a l c xs):=by
 intro yf y1 y2 h N I X hN hev hok hy
 refine KR ?_
 rw [cl2]
 refine call305 ?_
 unfold F305 bd lS lI
 have hlen:=hev.2.len
 simp only [C9]
 refine D3 hev.1 ?_
 simp only [C6]
 refine ⟨λvs h'=>∃v,∃k:Nat,vs = [v,iv k]/\k<=l/\h.size<=h'.size/\I h.size k h',λvs _=>(match vs with | [_,.int _ n]=>l - n.toNat | _=>0),⟨_,0,rfl,by omega,Nat.le_refl _,hok.self⟩,?_⟩
 rintro v7 v8 g h10 ⟨v,k,e,hk,hs,hI⟩
 cases e
 simp only [A6,EX]
 refine A4 (λhlt=>?_) (λhge=>?_)
 ·have hlt':k < xs.length:=by omega
  obtain ⟨ad,rfl,hc⟩:=(hok.env _ _ _ hN hs hI).2.at hlt'
  refine ⟨by omega,hlt,?_⟩
  simp only [C9,Int.toNat_natCast,Nat.mul_one]
  refine D3 hc ?_
  simp only [A6]
  have hyk:=hy h.size k h10 hlt' hN (Nat.le_refl _) hs hI
  have e2:DR xs k=#[iQ xs[k]]:=by unfold DR;simp [hlt']
  rw [e2] at hyk
  refine Hn ?_ hyk
  rintro w h'' ⟨hm,⟨rfl,hI'⟩ | ⟨rfl,hX⟩⟩
  ·simp only [B6,Bool.not_true,E2]
   rw [Ac (by omega)]
   refine ⟨⟨_,k+1,rfl,by omega,Nat.le_trans hs hm.1,hI'⟩,?_⟩
   show l - ((k+1:Nat):Int).toNat < l - (k:Int).toNat
   omega
  ·simp only [B6,Bool.not_false,G2]
   exact ⟨h.size,hN,Nat.le_refl _,Nat.le_trans hs hm.1,.inr hX⟩
 ·have:k=xs.length:=by omega
  subst this
  exact ⟨h.size,hN,Nat.le_refl _,hs,.inl hI⟩
end
section
theorem Zi {L:List Int} {p:Int->Bool} {j:Nat} (hj:j < L.length) (hp:p L[j]=true) :
  ((L.take j).filter p).length < (L.filter p).length/\(L.filter p).getD ((L.take j).filter p).length 0=L[j]:=by
 have e:L.filter p=(L.take j).filter p ++ L[j] :: (L.drop (j+1)).filter p:=by
  conv=>lhs;rw [<- List.take_append_drop j L,List.filter_append,List.drop_eq_getElem_cons hj,List.filter_cons_of_pos hp]
 rw [e]
 constructor
 ·simp
 ·simp
theorem Jv {L:List Int} {p:Int->Bool} {j:Nat} (hj:j < L.length):((L.take (j+1)).filter p).length=((L.take j).filter p).length+(if p L[j] then 1 else 0):=by
 rw [List.take_succ_eq_append_getElem hj,List.filter_append,List.length_append]
 cases h:p L[j] <;> simp [h]
theorem QY {N M:Nat} {h h':A2} (o:G4 h.size h h'):Mg N M h h':=⟨o.1,λb hb _=>o.2 b hb⟩
theorem FQ {N M:Nat} {h h':A2} (o:G4 h.size h h') (hM:M<=h.size):Y2 N M h h':=⟨o.1,λb _ hb=>o.2 b (by omega)⟩
theorem Y2.trans {N M:Nat} {a b c:A2} (x:Y2 N M a b) (y:Y2 N M b c):Y2 N M a c:=⟨Nat.le_trans x.1 y.1,λi h1 h2=>(y.2 i h1 h2).trans (x.2 i h1 h2)⟩
theorem Y2.mono {N N' M:Nat} {a b:A2} (x:Y2 N M a b) (h:N<=N'):Y2 N' M a b:=⟨x.1,λi h1 h2=>x.2 i (by omega) h2⟩
theorem So9 {sp kp:Nat} {g f:Value} {L:List Int} {p:Int->Bool} {D:Int->Prop} {Ev Ek:A2->Prop} (hD:∀x ∈ L,D x) (hg:fnV g) (hseq:Qt Tryz.prog g L.length (DR L) Ev) (hst:∀h h',G4 h.size h h'->Ev h->Ev h')
  (hsk:∀h h',G4 h.size h h'->Ek h->Ek h') (hk:∀(h:A2) (x:Int) (K:kQ),Ek h->D x->(∀h',G4 h.size h h'->K (dQ (p x)) h')->AQ Tryz.prog f #[iQ x] h K) :
  Qt Tryz.prog (.func (.func 304) #[] #[pQ (some (aQ sp)),pQ (some (aQ kp))]) (L.filter p).length (DR (L.filter p))
   (λh=>A3 h (aQ sp)=some g/\A3 h (aQ kp)=some f/\Ev h/\Ek h):=by
 intro yf y1 y2 h N I X hN hev hok hy
 refine KR ?_
 rw [cl3]
 refine call304 ?_
 unfold F304 g304
 simp only [C9,Nf]
 have o1:G4 h.size h (h.push (oQ #[.func yf y1 y2] 102)):=(G4.refl _ _).push _ (Nat.le_refl _)
 have n1:=Z6 h (oQ #[.func yf y1 y2] 102)
 have s1:(h.push (oQ #[.func yf y1 y2] 102)).size=h.size+1:=by simp
 generalize h.push (oQ #[.func yf y1 y2] 102)=h1 at *
 refine D3 (Bw _ _ o1 hev.1) ?_
 refine Oq (h0:=h) (I:=I) (X:=X) (N:=N) (n:=L.length) (xs:=DR L) (Ev:=Ev) (λ_ h'=>h'[h.size]? = some (oQ #[.func yf y1 y2] 102)) (λj=>((L.take j).filter p).length) (L.filter p).length False
  hg hseq (λ_ _=>rfl) hN o1 hok (λh' e=>e.2.2.1) (hst _ _ o1 hev.2.2.1) (by simp) (by simp) (λk ha hb hsame e=>(hsame _ (Nat.le_refl _) (by omega)).trans e) n1 ?_ ?_ ?_
 ·intro M j h4 hj hM hs hS hI
  rw [s1] at hM
  have e2:(DR L j).getD 0 tQ=iQ L[j]:=by unfold DR;simp [hj]
  rw [e2]
  simp only [A6]
  have hev4:=hok.env M _ h4 (by omega) hs hI
  refine ⟨λvs h'=>∃b:Bool,vs = [dQ b]/\Y2 h1.size M h4 h'/\(if b then X M () h' else h'[h.size]? = some (oQ #[.func yf y1 y2] 102)/\I M ((L.take (j+1)).filter p).length h'),?_,?_⟩
  ·refine D3 hev4.2.1 ?_
   refine hk _ _ _ hev4.2.2.2 (hD _ (List.getElem_mem _)) λh10 o10=>?_
   simp only [B6]
   have hI10:=hok.keepI M _ h4 h10 (by omega) hs hI (QY o10)
   have hS10:h10[h.size]? = some (oQ #[.func yf y1 y2] 102):=(o10.2 _ (by omega)).trans hS
   refine C7 (λhp=>?_) (λhp=>?_)
   ·refine D3 (X8 hS10) ?_
    obtain ⟨f1,f2⟩:=Zi hj hp
    have hyk:=hy M _ h10 f1 (by omega) (by omega) (by have:=o10.1;omega) hI10
    rw [show DR (L.filter p) ((L.take j).filter p).length=#[iQ L[j]] by unfold DR;rw [f2]] at hyk
    refine Hn ?_ hyk
    rintro w h14 ⟨hm,hor⟩
    have hm4:Y2 h1.size M h4 h14:=(FQ o10 hs).trans (hm.mono (by omega))
    rcases hor with ⟨rfl,hI'⟩ | ⟨rfl,hX⟩
    ·simp only [B6,Bool.not_true]
     refine ⟨false,rfl,hm4,?_⟩
     simp only [Bool.false_eq_true,if_false]
     refine ⟨(hm.2 _ (by omega) (by omega)).trans hS10,?_⟩
     rw [Jv hj,if_pos hp];exact hI'
    ·simp only [B6,Bool.not_false]
     exact ⟨true,rfl,hm4,by simp only [if_true];exact hX⟩
   ·refine ⟨false,rfl,FQ o10 hs,?_⟩
    simp only [Bool.false_eq_true,if_false]
    refine ⟨hS10,?_⟩
    rw [Jv hj,if_neg (by simp [hp])];exact hI10
  ·rintro v16 g17 h18 ⟨b,e,hm,hb⟩
   cases e
   simp only [B6]
   cases b with
   | true=>simp only [G2];simp only [if_true] at hb;exact ⟨hm,trivial,.inl hb⟩
   | false=>simp only [E2];simp only [Bool.false_eq_true,if_false] at hb;exact ⟨hm,by have:=hm.1;omega,hb⟩
 ·intro M h20 hM hs hI h21 hsd
  refine ⟨M,by omega,by omega,by rw [hsd.1];exact hs,.inl ?_⟩
  exact hok.dI M _ h20 h21 (hsd.mono hN) hI
 ·refine ⟨λM h22 hM hs hX h23 hsd=>?_,trivial⟩
  refine ⟨M,by omega,by omega,by rw [hsd.1];exact hs,.inr ?_⟩
  rcases hX with hX | hX
  ·exact hok.dX M _ h22 h23 (hsd.mono hN) hX
  ·exact hX.1.elim
end
section

end
section
set_option maxRecDepth 100000

end
section
structure Op9 where
 th:Int
 op:Int
 key:Int
 val:Int
 kind:Int
 ak:Int
 av:Int
 fr:Int
 to:Int
abbrev Op9.cells (o:Op9):List Value:=[iQ o.th,iQ o.op,.int .u32 o.key,.int .u32 o.val,iQ o.kind,.int .u32 o.ak,.int .u32 o.av,iQ o.fr,iQ o.to]
end
section
def SZ2 (ps:List Pr) (c:C3):C3:=if Eu c then (if c.o=0 then ⟨0,0,0⟩ else match SL8 ps with | []=>⟨3,0,0⟩ | p :: _=>⟨2,p.1,p.2⟩) else ⟨1,0,0⟩
def dfC:C3:=⟨0,0,0⟩
def stP (cs:List C3):Nat->List Pr
 | 0=>[]
 | i+1=>let ps:=stP cs i;let c:=cs.getD i dfC;(doP ps c (SZ2 ps c)).getD ps
end
section
structure Op7 where
 pl:Int
 c:C3
 a:C3
abbrev Op7.cells (o:Op7):List Value:=[iQ o.pl,iQ o.c.o,.int .u32 o.c.k,.int .u32 o.c.v,iQ o.a.o,.int .u32 o.a.k,.int .u32 o.a.v]
end
section
open Go.ChangeShapes Go.WideShapes Go.ChangeAt Go.RowKit
theorem M4 {H:Type} {enc:TypeId × Value->H} {P:Program} {W:World} {base:Nat} {spare:Nat->Bool} {held:Bool} {fuel:Nat} {t:TypeId} {cs:List Value} {x:DataW H × List MemPlace} {fs:Array Field} (ht:P.underlying t=some (.struct fs))
  (h:DataW.trod enc P W base spare held fuel t cs=some x) (i:Nat) (f:Field) (hf:fs[i]? = some f):∃n y,DataW.trod enc P W base spare held n f.type ((cs.drop f.offset).take (P.cellsOf f.type))=some y:=by
 obtain ⟨xs,n,_,_,_,hlen,hfl⟩:=DataW.trod_struct ht h
 have hi:i < xs.length:=by rw [hlen];exact (Array.getElem?_eq_some_iff.1 hf).1
 exact ⟨n,xs[i],by rw [hfl i f hf,List.getElem?_eq_getElem hi]⟩
theorem Nj {H:Type} {enc:TypeId × Value->H} {P:Program} {W:World} {base:Nat} {spare:Nat->Bool} {held:Bool} {fuel:Nat} {t:TypeId} {cs:List Value} {x:DataW H × List MemPlace} {fs:Array Field} (ht:P.underlying t=some (.struct fs))
  (h:DataW.trod enc P W base spare held fuel t cs=some x):cs.length=P.cellsOf t:=by
 obtain ⟨xs,n,_,_,hl,_,_⟩:=DataW.trod_struct ht h
 exact hl
theorem Vh {H:Type} {enc:TypeId × Value->H} {W:World} {α:Type} {f:α->List Value} {n:Nat} (hf:∀x,(f x).length=n) (hn:0 < n) {ts t:TypeId} (hu:Program.underlying Tryz.prog ts=some (.slice t)) (hco:Program.cellsOf Tryz.prog t=n)
  (hcell:∀fuel cs x,DataW.trod enc Tryz.prog W 0 (λ_=>true) true fuel t cs=some x->∃e,cs=f e) {d:DataW H} {ps:List MemPlace} {a:Option Addr} {l c:Nat}
  (h:DataW.Trod enc Tryz.prog W 0 (λ_=>true) true ts (.slice a l c) d ps):∃es:List α,SX f W.heap a l c es:=by
 obtain ⟨fuel,hf0⟩:=h
 rcases DataW.trod_slice hu hf0 with ⟨hcs,_⟩ | ⟨x,l1,c1,elems,rest,m,_,hcs,_,_,hl,hm,hlen,hel,_,_⟩
 ·simp [Value.cells] at hcs
  obtain ⟨rfl,rfl,rfl⟩:=hcs
  exact ⟨[],⟨N8.nil _ _,rfl,Nat.le_refl _⟩⟩
 ·simp [Value.cells] at hcs
  obtain ⟨rfl,rfl,rfl⟩:=hcs
  have each:∀i,i < l->∃e:α,∀j v,(f e)[j]? = some v->A3 W.heap (x.add (i*n+j))=some v:=by
   intro i hi
   have:=hel i hi
   rw [List.getElem?_eq_getElem (by omega),Option.bind_eq_some_iff] at this
   obtain ⟨cs,h1,h2⟩:=this
   obtain ⟨e,rfl⟩:=hcell _ _ _ h2
   obtain ⟨_,h3,h4⟩:=World.cells?_some h1
   refine ⟨e,λj v hv=>?_⟩
   have hj:j < n:=by have:=(List.getElem?_eq_some_iff.1 hv).1;rwa [hf] at this
   rw [hco] at h1 h4
   have h5:=h4 j (by omega)
   rw [hv,BH] at h5
   exact h5
  have pick:∀m,m<=l->∃es:List α,es.length=m/\∀i (hi:i < es.length),∀j v,(f es[i])[j]? = some v->A3 W.heap (x.add (i*n+j))=some v:=by
   intro m
   induction m with
   | zero=>intro _;exact ⟨[],rfl,λi hi=>by simp at hi⟩
   | succ m ih=>
    intro hm
    obtain ⟨es,h1,h2⟩:=ih (by omega)
    obtain ⟨e,he⟩:=each m (by omega)
    refine ⟨es ++ [e],by simp [h1],λi hi j v hv=>?_⟩
    by_cases e:i < es.length
    ·rw [List.getElem_append_left e] at hv
     exact h2 i e j v hv
    ·have:i=m:=by simp at hi;omega
     subst this
     rw [List.getElem_append_right (by omega)] at hv
     simp only [h1,Nat.sub_self,List.getElem_singleton] at hv
     exact he j v hv
  obtain ⟨es,h1,h2⟩:=pick l (Nat.le_refl _)
  refine ⟨es,⟨?_,h1,hl⟩⟩
  intro q v hq
  have hqlt:q < es.length*n:=by rw [<- EG hf];exact (List.getElem?_eq_some_iff.1 hq).1
  have hi:q / n < es.length:=(Nat.div_lt_iff_lt_mul hn).2 hqlt
  have e:=N3 hf hi (j:=q % n) (Nat.mod_lt _ hn)
  have e3:q / n*n+q % n=q:=by rw [Nat.mul_comm];exact Nat.div_add_mod q n
  rw [e3,hq] at e
  have:=h2 (q / n) hi (q % n) v e.symm
  rw [e3] at this
  exact ⟨x,rfl,this⟩
theorem OB:Program.cellsOf Tryz.prog 39=1:=by kernel_rfl
theorem W8:Program.cellsOf Tryz.prog 3=1:=by kernel_rfl
theorem Mq:Program.cellsOf Tryz.prog 41=3:=by kernel_rfl
section
variable {H:Type} {enc:TypeId × Value->H} {W:World} {fuel:Nat} {cs:List Value} {x:DataW H × List MemPlace}
end
section
variable {H:Type} {enc:TypeId × Value->H} {W:World} {d:DataW H} {ps:List MemPlace} {a:Option Addr} {l c:Nat}
end
end
section
set_option maxRecDepth 100000
variable {K:kQ} {h:A2}
abbrev g59 (K:kQ) (h H1:A2):Prop:=
 (PY H1 h.size λa b c d e f g=>cf 98 #[.agg #[a,b,c,d,e,f,g]] H1 λa b=>J6 a λc=>D2 c 0 λc=>asAgg c λc=>G0 c 15 (N0 c λc d e f g i j k l m n o p q r=>J6 a λa=>D2 a 1 λa=>asInt .i64 a λa=>C4 (b.push (oQ Ae 117)) (aQ b.size) c λc=>C4 c ⟨b.size,1,none⟩ d λc=>C4 c ⟨b.size,2,none⟩ e λc=>C4 c ⟨b.size,3,none⟩ f λc=>C4 c ⟨b.size,4,none⟩ g λc=>C4 c ⟨b.size,5,none⟩ i λc=>C4 c ⟨b.size,6,none⟩ j λc=>C4 c ⟨b.size,7,none⟩ k λc=>C4 c ⟨b.size,8,none⟩ l λc=>C4 c ⟨b.size,9,none⟩ m λc=>C4 c ⟨b.size,10,none⟩ n λc=>C4 c ⟨b.size,11,none⟩ o λc=>C4 c ⟨b.size,12,none⟩ p λc=>C4 c ⟨b.size,13,none⟩ q λc=>C4 c ⟨b.size,14,none⟩ r λb=>K (iQ a) b))
def F59 (K:kQ) (h:A2) (xa xb xc xd xe xf xg:Int):Prop:=
 (g59 K h (h.push (oQ #[iQ xa,iQ xb,iQ xc,iQ xd,iQ xe,iQ xf,iQ xg] 23)))
theorem call59 {xa xb xc xd xe xf xg:Int} (H:F59 K h xa xb xc xd xe xf xg):A5 Tryz.prog 59 #[(.agg #[(iQ xa),(iQ xb),(iQ xc),(iQ xd),(iQ xe),(iQ xf),(iQ xg)])] h K:=
 cQ Tryz.func59 H
abbrev g98 (K:kQ) (h H1 H2:A2):Prop:=
 (lI .i64 H2 (aQ h.size) λa=>lI .i64 H2 ⟨h.size,1,none⟩ λb=>lI .i64 H2 ⟨h.size,2,none⟩ λc=>lI .i64 H2 ⟨h.size,3,none⟩ λd=>lI .i64 H2 ⟨h.size,4,none⟩ λe=>lI .i64 H2 ⟨h.size,5,none⟩ λf=>lI .i64 H2 ⟨h.size,6,none⟩ λg=>cf 138 #[lQ (some (aQ H2.size)) 7 7] (H2.push (oQ #[iQ a,iQ 0,iQ 2,iQ b,iQ 1,iQ 6,iQ c,iQ 1,iQ 64,iQ d,iQ 1,iQ 6,iQ e,iQ 1,iQ 16,iQ f,iQ 1,iQ 16,iQ g,iQ 1,iQ 64] 229)) λa b=>asBool a λa=>D0 (!a) (Vc b H1.size (iQ 0) (iQ 0) (iQ 0) (iQ 0) (iQ 0) (iQ 0) (iQ 0) (iQ 0) (iQ 0) (iQ 0) (iQ 0) (iQ 0) (iQ 0) (iQ 0) (iQ 0) λa=>Bs a H1.size λc d e f g i j k l m n o p q r=>K (.tuple #[.agg #[c,d,e,f,g,i,j,k,l,m,n,o,p,q,r],iQ 6]) a) (PY b h.size λa c d e f g i=>lI .i64 b ⟨h.size,3,none⟩ λj=>lI .i64 b ⟨h.size,3,none⟩ λk=>C4 (b.push (oQ Ae 117)) (aQ b.size) a λa=>C4 a ⟨b.size,1,none⟩ c λa=>C4 a ⟨b.size,2,none⟩ d λa=>C4 a ⟨b.size,3,none⟩ e λa=>C4 a ⟨b.size,4,none⟩ f λa=>C4 a ⟨b.size,5,none⟩ g λa=>C4 a ⟨b.size,6,none⟩ i λa=>C4 a ⟨b.size,7,none⟩ (iQ (IntKind.wrap .i64 ((IntKind.wrap .i64 (2*j))+2))) λa=>C4 a ⟨b.size,8,none⟩ (iQ (IntKind.wrap .i64 (5+k))) λa=>C4 a ⟨b.size,9,none⟩ (iQ 2) λa=>C4 a ⟨b.size,10,none⟩ (iQ 0) λa=>C4 a ⟨b.size,11,none⟩ (iQ 0) λa=>C4 a ⟨b.size,12,none⟩ (iQ 0) λa=>C4 a ⟨b.size,13,none⟩ (iQ 0) λa=>C4 a ⟨b.size,14,none⟩ (iQ 0) λa=>O0 λI73=>(lI .i64 a (aQ h.size) λc=>D0 (c == 0) (D1 a ⟨h.size,3,none⟩ λc=>asInt .i64 c λd=>((0:Int)<=d)/\(C4 a ⟨b.size,7,none⟩ (iQ 2) λe=>ce e h.size 3 c (C4 e ⟨b.size,8,none⟩ (iQ 3) λe=>ce e h.size 3 c (C4 e ⟨b.size,9,none⟩ (iQ 0) λe=>ce e h.size 3 c (I73 [iQ (IntKind.wrap .i64 (1*(2 ^ (min d.toNat 64))))] e))))) (I73 [iQ 0] a))/\(∀(a:Value) (c:F8) (c:A2),(I73 [a] c)->(lI .i64 c ⟨h.size,2,none⟩ λd=>lI .i64 c ⟨b.size,9,none⟩ λe=>D0 (decide (d<=e)) (Vc c H1.size (iQ 0) (iQ 0) (iQ 0) (iQ 0) (iQ 0) (iQ 0) (iQ 0) (iQ 0) (iQ 0) (iQ 0) (iQ 0) (iQ 0) (iQ 0) (iQ 0) (iQ 0) λd=>Bs d H1.size λe f g i j k l m n o p q r s t=>K (.tuple #[.agg #[e,f,g,i,j,k,l,m,n,o,p,q,r,s,t],iQ 6]) d) (C4 c ⟨b.size,10,none⟩ (iQ 8) λc=>lI .i64 c ⟨b.size,10,none⟩ λd=>lI .i64 c ⟨h.size,1,none⟩ λe=>lI .i64 c ⟨b.size,7,none⟩ λf=>C4 c ⟨b.size,11,none⟩ (iQ (IntKind.wrap .i64 (d+(IntKind.wrap .i64 (e*f))))) λc=>lI .i64 c ⟨b.size,11,none⟩ λd=>lI .i64 c ⟨h.size,2,none⟩ λe=>C4 c ⟨b.size,12,none⟩ (iQ (IntKind.wrap .i64 (d+e))) λc=>lI .i64 c ⟨b.size,12,none⟩ λd=>lI .i64 c ⟨h.size,2,none⟩ λe=>lI .i64 c ⟨b.size,8,none⟩ λf=>C4 c ⟨b.size,13,none⟩ (iQ (IntKind.wrap .i64 (d+(IntKind.wrap .i64 (e*f))))) λc=>lI .i64 c ⟨b.size,13,none⟩ λd=>asInt .i64 a λa=>C4 c ⟨b.size,14,none⟩ (iQ (IntKind.wrap .i64 (d+a))) λa=>Bs a b.size λb c d e f g i j k l m n o p q=>Vc a H1.size b c d e f g i j k l m n o p q λa=>Bs a H1.size λb c d e f g i j k l m n o p q=>K (.tuple #[.agg #[b,c,d,e,f,g,i,j,k,l,m,n,o,p,q],iQ 0]) a)))))
def F98 (K:kQ) (h:A2) (xa xb xc xd xe xf xg:Int):Prop:=
 (g98 K h (h.push (oQ #[iQ xa,iQ xb,iQ xc,iQ xd,iQ xe,iQ xf,iQ xg] 23)) (Array.push (h.push (oQ #[iQ xa,iQ xb,iQ xc,iQ xd,iQ xe,iQ xf,iQ xg] 23)) (oQ Ae 117)))
theorem call98 {xa xb xc xd xe xf xg:Int} (H:F98 K h xa xb xc xd xe xf xg):A5 Tryz.prog 98 #[(.agg #[(iQ xa),(iQ xb),(iQ xc),(iQ xd),(iQ xe),(iQ xf),(iQ xg)])] h K:=
 cQ Tryz.func98 H
def F138 (K:kQ) (h:A2) (xa:Option Addr) (xb xc:Nat):Prop:=
 (O0 λI0=>Hg λm1=>(I0 [dQ false,iQ 0] h)/\(∀(a b:Value) (c:F8) (c:A2),(I0 [a,b] c)->(asInt .i64 b λd=>D0 (decide (d < ((xb:Nat):Int))) (Gv b λd=>bd d ((xb:Nat):Int) (E5 (pQ xa) λe=>D1 c (e.add (d.toNat*3)) λf=>D1 c (Addr.add (e.add (d.toNat*3)) 1) λg=>D1 c (Addr.add (e.add (d.toNat*3)) 2) λd=>C4 (c.push (oQ #[iQ 0,iQ 0,iQ 0] 229)) (aQ c.size) f λe=>C4 e ⟨c.size,1,none⟩ g λe=>C4 e ⟨c.size,2,none⟩ d λd=>O0 λI15=>(lI .i64 d (aQ c.size) λe=>lI .i64 d ⟨c.size,1,none⟩ λf=>D0 (decide (e < f)) (I15 [dQ true] d) (lI .i64 d (aQ c.size) λe=>lI .i64 d ⟨c.size,2,none⟩ λf=>I15 [dQ (decide (e > f))] d))/\(∀(d:Value) (e:F8) (e:A2),(I15 [d] e)->(asBool d λd=>D0 d (K (dQ false) e) (asInt .i64 b λd=>(I0 [a,iQ (IntKind.wrap .i64 (d+1))] e)/\((m1 [a,iQ (IntKind.wrap .i64 (d+1))] e) < (m1 [a,b] c))))))) (K (dQ true) c))))
theorem call138 {xa:Option Addr} {xb xc:Nat} (H:F138 K h xa xb xc):A5 Tryz.prog 138 #[(lQ xa xb xc)] h K:=
 cQ Tryz.func138 H
abbrev g9 (K:kQ) (h H1:A2):Prop:=
 (O0 λI0=>(lI .i64 H1 (aQ h.size) λa=>D0 (decide (a < 0)) (I0 [dQ true,dQ true,dQ true,dQ true,dQ true,dQ true,dQ true] H1) (lI .i64 H1 (aQ h.size) λa=>D0 (decide (a > 2)) (I0 [dQ (decide (a > 2)),dQ true,dQ true,dQ true,dQ true,dQ true,dQ true] H1) (lI .i64 H1 ⟨h.size,1,none⟩ λb=>D0 (decide (b < 1)) (I0 [dQ (decide (a > 2)),dQ (decide (b < 1)),dQ true,dQ true,dQ true,dQ true,dQ true] H1) (lI .i64 H1 ⟨h.size,1,none⟩ λc=>D0 (decide (c > 6)) (I0 [dQ (decide (a > 2)),dQ (decide (b < 1)),dQ (decide (c > 6)),dQ true,dQ true,dQ true,dQ true] H1) (lI .i64 H1 ⟨h.size,2,none⟩ λd=>D0 (decide (d < 1)) (I0 [dQ (decide (a > 2)),dQ (decide (b < 1)),dQ (decide (c > 6)),dQ (decide (d < 1)),dQ true,dQ true,dQ true] H1) (lI .i64 H1 ⟨h.size,2,none⟩ λe=>D0 (decide (e > 64)) (I0 [dQ (decide (a > 2)),dQ (decide (b < 1)),dQ (decide (c > 6)),dQ (decide (d < 1)),dQ (decide (e > 64)),dQ true,dQ true] H1) (lI .i64 H1 ⟨h.size,3,none⟩ λf=>D0 (decide (f < 1)) (I0 [dQ (decide (a > 2)),dQ (decide (b < 1)),dQ (decide (c > 6)),dQ (decide (d < 1)),dQ (decide (e > 64)),dQ (decide (f < 1)),dQ true] H1) (lI .i64 H1 ⟨h.size,3,none⟩ λg=>I0 [dQ (decide (a > 2)),dQ (decide (b < 1)),dQ (decide (c > 6)),dQ (decide (d < 1)),dQ (decide (e > 64)),dQ (decide (f < 1)),dQ (decide (g > 6))] H1))))))))/\(∀(a b c d e f g:Value) (i:F8) (i:A2),(I0 [a,b,c,d,e,f,g] i)->(asBool g λa=>D0 a (K (dQ false) i) (O0 λI27=>(lI .i64 i ⟨h.size,4,none⟩ λa=>D0 (decide (a < 1)) (I27 [dQ true,dQ true,dQ true,dQ true,dQ true] i) (lI .i64 i ⟨h.size,4,none⟩ λa=>D0 (decide (a > 16)) (I27 [dQ (decide (a > 16)),dQ true,dQ true,dQ true,dQ true] i) (lI .i64 i ⟨h.size,5,none⟩ λb=>D0 (decide (b < 1)) (I27 [dQ (decide (a > 16)),dQ (decide (b < 1)),dQ true,dQ true,dQ true] i) (lI .i64 i ⟨h.size,5,none⟩ λc=>D0 (decide (c > 16)) (I27 [dQ (decide (a > 16)),dQ (decide (b < 1)),dQ (decide (c > 16)),dQ true,dQ true] i) (lI .i64 i ⟨h.size,6,none⟩ λd=>D0 (decide (d < 1)) (I27 [dQ (decide (a > 16)),dQ (decide (b < 1)),dQ (decide (c > 16)),dQ (decide (d < 1)),dQ true] i) (lI .i64 i ⟨h.size,6,none⟩ λe=>I27 [dQ (decide (a > 16)),dQ (decide (b < 1)),dQ (decide (c > 16)),dQ (decide (d < 1)),dQ (decide (e > 64))] i))))))/\(∀(a b c d e:Value) (f:F8) (f:A2),(I27 [a,b,c,d,e] f)->(asBool e λa=>D0 a (K (dQ false) f) (D1 f ⟨h.size,2,none⟩ λa=>asInt .i64 a λb=>PY f h.size λc d e g i j k=>cf 28 #[.agg #[c,d,e,g,i,j,k]] f λc d=>asInt .i64 c λc=>ce d h.size 2 a (K (dQ (decide (b > c))) d))))))))
def F9 (K:kQ) (h:A2) (xa xb xc xd xe xf xg:Int):Prop:=
 (g9 K h (h.push (oQ #[iQ xa,iQ xb,iQ xc,iQ xd,iQ xe,iQ xf,iQ xg] 23)))
theorem call9 {xa xb xc xd xe xf xg:Int} (H:F9 K h xa xb xc xd xe xf xg):A5 Tryz.prog 9 #[(.agg #[(iQ xa),(iQ xb),(iQ xc),(iQ xd),(iQ xe),(iQ xf),(iQ xg)])] h K:=
 cQ Tryz.func9 H
abbrev g28 (K:kQ) (h H1:A2):Prop:=
 (lI .i64 H1 (aQ h.size) λa=>D0 (a == 0) (K (iQ 0) H1) (K (iQ 2) H1))
def F28 (K:kQ) (h:A2) (xa xb xc xd xe xf xg:Int):Prop:=
 (g28 K h (h.push (oQ #[iQ xa,iQ xb,iQ xc,iQ xd,iQ xe,iQ xf,iQ xg] 23)))
theorem call28 {xa xb xc xd xe xf xg:Int} (H:F28 K h xa xb xc xd xe xf xg):A5 Tryz.prog 28 #[(.agg #[(iQ xa),(iQ xb),(iQ xc),(iQ xd),(iQ xe),(iQ xf),(iQ xg)])] h K:=
 cQ Tryz.func28 H
end
section
abbrev IV (X Y Z:Nat->Int) (i:Nat):Prop:=Y i<=X i/\X i<=Z i
theorem QZ {K:kQ} {h:A2} {a:Addr} {l c:Nat} {X Y Z:Nat->Int} (hl:l<=1000)
  (H:∀i,i < l->A3 h (a.add (i*3))=some (iv (X i))/\A3 h ((a.add (i*3)).add 1)=some (iv (Y i))/\A3 h ((a.add (i*3)).add 2)=some (iv (Z i)))
  (k1:(∀i,i < l->IV X Y Z i)->∀h',G4 h.size h h'->K (dQ true) h') (k0:(∃i,i < l/\¬ IV X Y Z i)->∀h',G4 h.size h h'->K (dQ false) h') :
  A5 Tryz.prog 138 #[lQ (some a) l c] h K:=by
 refine call138 ?_
 unfold F138 bd lI
 refine ⟨λvs h'=>∃i:Nat,vs = [.bool false,iv i]/\G4 h.size h h'/\i<=l/\∀j,j < i->IV X Y Z j,λvs _=>(match vs with | [_,.int _ n]=>l - n.toNat | _=>0),⟨0,rfl,G4.refl _ _,Nat.zero_le _,λj hj=>by omega⟩,?_⟩
 rintro v2 v3 g h5 ⟨i,e,ho,hi,hall⟩
 cases e
 simp only [A6,EX]
 refine A4 (λhlt=>?_) (λhge=>?_)
 ·obtain ⟨e1,e2,e3⟩:=H i (by omega)
  refine ⟨by omega,hlt,?_⟩
  simp only [C9,Int.toNat_natCast]
  refine D3 (Bw _ _ ho e1) (D3 (Bw _ _ ho e2) (D3 (Bw _ _ ho e3) ?_))
  have p:=J8 h5 #[iQ 0,iQ 0,iQ 0] 229
  generalize h5.push (oQ #[iQ 0,iQ 0,iQ 0] 229)=hp at *
  refine st3 (F6 p.new rfl (by simp [J3]) λh14 w=>?_)
  have o14:G4 h.size h h14:=w.toOld (ho.trans (p.toOld.mono ho.1)) ho.1
  refine ⟨λvs h'=>vs = [dQ (decide (¬ IV X Y Z i))]/\h' = h14,?_,?_⟩
  ·refine C5 w.new rfl ?_
   simp only [A6]
   refine C5 w.new rfl ?_
   simp only [A6]
   refine A4 (λh1=>⟨?_,by trivial⟩) (λh1=>?_)
   ·rw [decide_eq_true (by unfold IV;omega)]
   ·refine C5 w.new rfl ?_
    simp only [A6]
    refine C5 w.new rfl ?_
    simp only [A6]
    refine ⟨?_,by trivial⟩
    congr 2;rw [decide_eq_decide];unfold IV;omega
  ·rintro v24 g25 h26 ⟨e,rfl⟩
   cases e
   simp only [B6]
   refine A4 (λh1=>k0 ⟨i,by omega,h1⟩ _ o14) (λh1=>?_)
   rw [Ac (by omega)]
   refine ⟨⟨i+1,rfl,o14,by omega,λj hj=>?_⟩,?_⟩
   ·by_cases hji:j < i
    ·exact hall j hji
    ·rw [show j=i by omega];exact Decidable.of_not_not h1
   ·show l - ((i+1:Nat):Int).toNat < l - (i:Int).toNat
    omega
 ·exact k1 (λj hj=>hall j (by omega)) _ ho
structure Cf where
 a:Int
 t:Int
 n:Int
 l:Int
 b:Int
 p:Int
 s:Int
def Cf.sent (c:Cf):Int:=if c.a=0 then 0 else 2
def Cf.slots (c:Cf):Int:=if c.a=0 then 2 else 2*c.l+2
def Cf.width (c:Cf):Int:=if c.a=0 then 3 else 5+c.l
def Cf.links (c:Cf):Int:=8+c.t*c.slots
def Cf.nodes (c:Cf):Int:=c.links+c.n
def Cf.tree (c:Cf):Int:=c.nodes+c.n*c.width
def Cf.size (c:Cf):Int:=c.tree+(if c.a=0 then 2 ^ c.l.toNat else 0)
structure Cf.Right (c:Cf):Prop where
 a:0<=c.a/\c.a<=2
 t:1<=c.t/\c.t<=6
 n:1<=c.n/\c.n<=64
 l:1<=c.l/\c.l<=6
 b:1<=c.b/\c.b<=16
 p:1<=c.p/\c.p<=16
 s:1<=c.s/\c.s<=64
 z:c.sent < c.n
abbrev Cf.vals (c:Cf):Array Value:=#[iQ c.a,iQ c.t,iQ c.n,iQ c.l,iQ c.b,iQ c.p,iQ c.s]
abbrev Cf.plan (c:Cf):Array Value:=#[iQ c.a,iQ c.t,iQ c.n,iQ c.l,iQ c.b,iQ c.p,iQ c.s,iQ c.slots,iQ c.width,iQ c.sent,iQ 8,iQ c.links,iQ c.nodes,iQ c.tree,iQ c.size]
abbrev V9:Array Value:=Ae
theorem Ra {K:kQ} {h:A2} (c:Cf) (k1:c.Right->∀h',G4 h.size h h'->K (.tuple #[.agg c.plan,iQ 0]) h') (k0:¬ c.Right->∀h',G4 h.size h h'->K (.tuple #[.agg V9,iQ 6]) h') :
  A5 Tryz.prog 98 #[.agg c.vals] h K:=by
 refine call98 ?_
 unfold F98 g98 cf ce lI PY Bs Vc
 have p1:=J8 h c.vals 23
 rw [show h.push (oQ #[iQ c.a,iQ c.t,iQ c.n,iQ c.l,iQ c.b,iQ c.p,iQ c.s] 23)=h.push (oQ c.vals 23) from rfl]
 generalize h.push (oQ c.vals 23)=h1 at *
 have p2:=J8 h1 V9 117
 rw [show h1.push (oQ Ae 117)=h1.push (oQ V9 117) from rfl]
 generalize h1.push (oQ V9 117)=h2 at *
 have s1:=p1.size
 have s2:=p2.size
 have c2:h2[h.size]? = some (oQ c.vals 23):=(p2.old _ (by omega)).trans p1.new
 have o2:G4 h.size h h2:=p1.toOld.trans (p2.toOld.mono (by omega))
 rw [s1]
 have n2:h2[h.size+1]? = some (oQ V9 117):=by rw [<- s1];exact p2.new
 iterate 7 (refine C5 c2 rfl ?_;simp only [A6])
 have p3:=J8 h2 #[iQ c.a,iQ 0,iQ 2,iQ c.t,iQ 1,iQ 6,iQ c.n,iQ 1,iQ 64,iQ c.l,iQ 1,iQ 6,iQ c.b,iQ 1,iQ 16,iQ c.p,iQ 1,iQ 16,iQ c.s,iQ 1,iQ 64] 229
 generalize h2.push (oQ #[iQ c.a,iQ 0,iQ 2,iQ c.t,iQ 1,iQ 6,iQ c.n,iQ 1,iQ 64,iQ c.l,iQ 1,iQ 6,iQ c.b,iQ 1,iQ 16,iQ c.p,iQ 1,iQ 16,iQ c.s,iQ 1,iQ 64] 229)=h3 at *
 have o3:G4 h2.size h2 h3:=p3.toOld
 have c3:=(o3.2 _ (by omega)).trans c2
 have n3:=(o3.2 _ (by omega)).trans n2
 have nothing:∀(h':A2) (row:Array Value),G4 h.size h h'->h'[h.size+1]? = some (oQ row 117)->row.size=15->¬ c.Right->∀(F:A2->Prop),(∀h'',G4 h.size h h''->h''[h.size+1]? = some (oQ V9 117)->F h'') ->
   NX h' ⟨h.size+1,0,none⟩ 0 V9.toList F:=by
  intro h' row o hb hr hn F hF
  refine F6 hb (by rw [hr];rfl) (by simp [J3]) λh'' w=>?_
  exact hF _ (w.toOld o (by omega)) (by simpa using w.new)
 refine A0 (QZ (X:=λi=>[c.a,c.t,c.n,c.l,c.b,c.p,c.s].getD i 0) (Y:=λi=>[0,1,1,1,1,1,1].getD i 0) (Z:=λi=>[2,6,64,6,16,16,64].getD i 0) (by omega) ?_ (λhall h15 o15=>?_) (λhex h15 o15=>?_))
 ·intro i hi
  simp only [E1]
  have:i=0\/i=1\/i=2\/i=3\/i=4\/i=5\/i=6:=by omega
  rcases this with rfl | rfl | rfl | rfl | rfl | rfl | rfl <;> exact ⟨E9 p3.new rfl,E9 p3.new rfl,E9 p3.new rfl⟩
 ·
  have q0:0<=c.a/\c.a<=2:=hall 0 (by omega)
  have q1:1<=c.t/\c.t<=6:=hall 1 (by omega)
  have q2:1<=c.n/\c.n<=64:=hall 2 (by omega)
  have q3:1<=c.l/\c.l<=6:=hall 3 (by omega)
  have q4:1<=c.b/\c.b<=16:=hall 4 (by omega)
  have q5:1<=c.p/\c.p<=16:=hall 5 (by omega)
  have q6:1<=c.s/\c.s<=64:=hall 6 (by omega)
  have s3:=p3.size
  have c15:=(o15.2 _ (by omega)).trans c3
  have n15:=(o15.2 _ (by omega)).trans n3
  have ok15:G4 h.size h h15:=(o2.trans (o3.mono (by omega))).trans (o15.mono (by omega))
  have hs15:h.size+3<=h15.size:=by have:=o15.1;omega
  simp only [B6,Bool.not_true,E2]
  iterate 7 (refine C5 c15 rfl ?_)
  refine C5 c15 rfl ?_
  simp only [A6]
  refine C5 c15 rfl ?_
  simp only [A6]
  have p4:=J8 h15 V9 117
  rw [show h15.push (oQ Ae 117)=h15.push (oQ V9 117) from rfl]
  generalize h15.push (oQ V9 117)=h16 at *
  refine Mn (F6 p4.new rfl (by simp [J3]) λh72 w72=>?_)
  have c72:=(w72.old h.size (by omega)).trans ((p4.old _ (by omega)).trans c15)
  have n72:=(w72.old (h.size+1) (by omega)).trans ((p4.old _ (by omega)).trans n15)
  have o72:G4 h.size h h72:=w72.toOld (ok15.trans (p4.toOld.mono ok15.1)) ok15.1
  have e1:IntKind.wrap .i64 (2*c.l)=2*c.l:=D8 (by omega) (by omega)
  have e2:IntKind.wrap .i64 (2*c.l+2)=2*c.l+2:=D8 (by omega) (by omega)
  have e3:IntKind.wrap .i64 (5+c.l)=5+c.l:=D8 (by omega) (by omega)
  have w72':=w72.new
  simp only [e1,e2,e3] at w72'
  refine ⟨λvs h'=>vs = [iv (if c.a=0 then 2 ^ c.l.toNat else 0)]/\G4 h.size h h'/\h'.size=h72.size/\h'[h.size]? = some (oQ c.vals 23)/\h'[h.size+1]? = some (oQ V9 117) /\
   h'[h15.size]? = some (oQ #[iQ c.a,iQ c.t,iQ c.n,iQ c.l,iQ c.b,iQ c.p,iQ c.s,iQ c.slots,iQ c.width,iQ c.sent,iQ 0,iQ 0,iQ 0,iQ 0,iQ 0] 117),?_,?_⟩
  ·refine C5 c72 rfl ?_
   simp only [A6]
   refine C7 (λha=>?_) (λha=>?_)
   ·have ha:c.a=0:=by simpa using ha
    refine C5 c72 rfl ?_
    simp only [A6]
    refine ⟨by omega,stR w72' rfl trivial λh78 w78=>?_⟩
    refine ⟨E9 ((w78.old _ (by omega)).trans c72) rfl,stR w78.new rfl trivial λh79 w79=>?_⟩
    refine ⟨E9 ((w79.old _ (by omega)).trans ((w78.old _ (by omega)).trans c72)) rfl,stR w79.new rfl trivial λh80 w80=>?_⟩
    have w:=(w78.trans w79).trans w80
    refine ⟨E9 ((w.old _ (by omega)).trans c72) rfl,?_,w.toOld o72 ok15.1,w.size,(w.old _ (by omega)).trans c72,(w.old _ (by omega)).trans n72,?_⟩
    ·rw [if_pos ha]
     congr 2
     have:c.l.toNat<=6:=by omega
     rw [Int.one_mul,show min c.l.toNat 64=c.l.toNat by omega]
     have:∀k:Nat,k<=6->IntKind.wrap .i64 ((2:Int) ^ k)=2 ^ k:=by decide
     exact this _ (by omega)
    ·rw [w.new]
     simp only [Cf.slots,Cf.width,Cf.sent,if_pos ha]
     rfl
   ·have ha:c.a≠0:=by simpa using ha
    refine ⟨?_,o72,by trivial,c72,n72,?_⟩
    ·rw [if_neg ha]
    ·rw [w72']
     simp only [Cf.slots,Cf.width,Cf.sent,if_neg ha]
  rintro v81 g82 h83 ⟨e,o83,s83,c83,n83,m83⟩
  cases e
  refine C5 c83 rfl ?_
  simp only [A6]
  refine C5 m83 rfl ?_
  simp only [A6]
  refine A4 (λhz=>?_) (λhz=>?_)
  ·have hn:¬ c.Right:=λr=>by have:=r.z;omega
   refine Mn (nothing h83 V9 o83 n83 rfl hn _ λh102 o102 n102=>?_)
   iterate 15 (refine C5 n102 rfl ?_)
   exact k0 hn _ o102
  ·have hr:c.Right:=⟨q0,q1,q2,q3,q4,q5,q6,by omega⟩
   have hslots:2<=c.slots/\c.slots<=14:=by unfold Cf.slots;split <;> omega
   have hwidth:3<=c.width/\c.width<=11:=by unfold Cf.width;split <;> omega
   have m1:c.t*c.slots<=6*14:=Int.mul_le_mul q1.2 hslots.2 (by omega) (by omega)
   have m2:0<=c.t*c.slots:=Int.mul_nonneg (by omega) (by omega)
   have m3:c.n*c.width<=64*11:=Int.mul_le_mul q2.2 hwidth.2 (by omega) (by omega)
   have m4:0<=c.n*c.width:=Int.mul_nonneg (by omega) (by omega)
   have m5:∀k:Nat,k<=6->0<=(2:Int) ^ k/\(2:Int) ^ k<=64:=by decide
   have m6:=m5 c.l.toNat (by omega)
   refine stR m83 rfl trivial λh118 w118=>?_
   have c118:=(w118.old h.size (by omega)).trans c83
   refine C5 w118.new rfl ?_
   simp only [A6]
   refine C5 c118 rfl ?_
   simp only [A6]
   refine C5 w118.new rfl ?_
   simp only [A6]
   rw [D8 (n:=c.t*c.slots) (by omega) (by omega),D8 (n:=8+c.t*c.slots) (by omega) (by omega)]
   refine stR w118.new rfl trivial λh125 w125=>?_
   have c125:=(w125.old h.size (by omega)).trans c118
   refine C5 w125.new rfl ?_
   simp only [A6]
   refine C5 c125 rfl ?_
   simp only [A6]
   rw [D8 (n:=8+c.t*c.slots+c.n) (by omega) (by omega)]
   refine stR w125.new rfl trivial λh130 w130=>?_
   have c130:=(w130.old h.size (by omega)).trans c125
   refine C5 w130.new rfl ?_
   simp only [A6]
   refine C5 c130 rfl ?_
   simp only [A6]
   refine C5 w130.new rfl ?_
   simp only [A6]
   rw [D8 (n:=c.n*c.width) (by omega) (by omega),D8 (n:=8+c.t*c.slots+c.n+c.n*c.width) (by omega) (by omega)]
   refine stR w130.new rfl trivial λh137 w137=>?_
   refine C5 w137.new rfl ?_
   simp only [A6]
   have m7:0<=(if c.a=0 then (2:Int) ^ c.l.toNat else 0)/\(if c.a=0 then (2:Int) ^ c.l.toNat else 0)<=64:=by split <;> omega
   rw [D8 (n:=8+c.t*c.slots+c.n+c.n*c.width+(if c.a=0 then (2:Int) ^ c.l.toNat else 0)) (by omega) (by omega)]
   refine stR w137.new rfl trivial λh141 w141=>?_
   have w:=(((w118.trans w125).trans w130).trans w137).trans w141
   have r141:h141[h15.size]? = some (oQ c.plan 117):=by
    rw [w.new];rfl
   have n141:=(w.old (h.size+1) (by omega)).trans n83
   iterate 15 (refine C5 r141 rfl ?_)
   refine Mn (F6 n141 rfl (by simp [J3]) λh171 w171=>?_)
   iterate 15 (refine C5 w171.new rfl ?_)
   exact k1 hr _ (w171.toOld (w.toOld o83 (by omega)) (by omega))
 ·
  have hn:¬ c.Right:=by
   intro r
   obtain ⟨i,hi,hx⟩:=hex
   have:i=0\/i=1\/i=2\/i=3\/i=4\/i=5\/i=6:=by omega
   rcases this with rfl | rfl | rfl | rfl | rfl | rfl | rfl
   ·exact hx r.a
   ·exact hx r.t
   ·exact hx r.n
   ·exact hx r.l
   ·exact hx r.b
   ·exact hx r.p
   ·exact hx r.s
  have s3:=p3.size
  have n15:=(o15.2 _ (by omega)).trans n3
  have ok15:G4 h.size h h15:=(o2.trans (o3.mono (by omega))).trans (o15.mono (by omega))
  simp only [B6,Bool.not_false,G2]
  refine Mn (nothing h15 V9 ok15 n15 rfl hn _ λh31 o31 n31=>?_)
  iterate 15 (refine C5 n31 rfl ?_)
  exact k0 hn _ o31
end
section
open Go.ChangeShapes Go.WideShapes Go.ChangeAt Go.RowKit
end
section
abbrev FC:=Nat->Option Obj
def Hp:=FC->Prop
def Nd (_:Obj):Prop:=∀_:Unit,False->False
def Hz (σ:FC) (h:A2):Prop:=∀b o,σ b=some o->h[b]? = some o/\Nd o
theorem Hz.mk {σ:FC} {h:A2} (s:∀b o,σ b=some o->h[b]? = some o) (d:∀b o,σ b=some o->Nd o):Hz σ h:=λb o e=>⟨s b o e,d b o e⟩
theorem Hz.at {σ:FC} {h:A2} (s:Hz σ h) (b:Nat) (o:Obj) (e:σ b=some o):h[b]? = some o:=(s b o e).1
theorem Hz.nd {σ:FC} {h:A2} (s:Hz σ h) (b:Nat) (o:Obj) (e:σ b=some o):Nd o:=(s b o e).2
def A7 (h:A2) (P:Hp):Prop:=∃σ,Hz σ h/\P σ
def uni (σ τ:FC):FC:=λb=>(σ b).or (τ b)
def dis (σ τ:FC):Prop:=∀b,σ b=none\/τ b=none
instance:Mul Hp:=⟨λP Q ρ=>∃σ τ,dis σ τ/\ρ=uni σ τ/\P σ/\Q τ⟩
def Mr:Hp:=λσ=>σ=λ_=>none
def ex {α:Type} (P:α->Hp):Hp:=λσ=>∃a,P a σ
def pr (p:Prop) (P:Hp):Hp:=λσ=>p/\P σ
def pt (b:Nat) (o:Obj):Hp:=λσ=>∀c,σ c=if c=b then some o else none
def lift (D:Nat->Prop) (F:A2->Prop):Hp:=λσ=>(∀b,D b↔σ b≠none)/\∀h,Hz σ h->F h
theorem Sp0 {σ τ:FC} (d:dis σ τ):dis τ σ:=λb=>(d b).symm
theorem Sp1 {σ τ:FC} (d:dis σ τ):uni σ τ=uni τ σ:=by
 funext b
 unfold uni
 rcases d b with e | e <;> rw [e] <;> simp
theorem Nk (σ τ ρ:FC):uni (uni σ τ) ρ=uni σ (uni τ ρ):=by
 funext b;unfold uni;cases σ b <;> simp
theorem CA {σ τ:FC} {b:Nat}:uni σ τ b=none↔σ b=none/\τ b=none:=by unfold uni;cases σ b <;> simp
theorem Dh (P Q:Hp):P*Q=Q*P:=by
 have key:∀(P Q:Hp) ρ,(P*Q) ρ->(Q*P) ρ:=λP Q ρ ⟨σ,τ,d,e,p,q⟩=>⟨τ,σ,Sp0 d,e.trans (Sp1 d),q,p⟩
 funext ρ
 exact propext ⟨key P Q ρ,key Q P ρ⟩
theorem E7 (P Q R:Hp):P*Q*R=P*(Q*R):=by
 funext ρ
 refine propext ⟨?_,?_⟩
 ·rintro ⟨_,ξ,d,rfl,⟨σ,τ,d2,rfl,p,q⟩,r⟩
  refine ⟨σ,uni τ ξ,λb=>?_,Nk _ _ _,p,τ,ξ,λb=>?_,rfl,q,r⟩
  ·rcases d b with e | e
   ·exact .inl (CA.1 e).1
   ·rcases d2 b with e2 | e2
    ·exact .inl e2
    ·exact .inr (CA.2 ⟨e2,e⟩)
  ·rcases d b with e | e
   ·exact .inl (CA.1 e).2
   ·exact .inr e
 ·rintro ⟨σ,_,d,rfl,p,τ,ξ,d2,rfl,q,r⟩
  refine ⟨uni σ τ,ξ,λb=>?_,(Nk _ _ _).symm,⟨σ,τ,λb=>?_,rfl,p,q⟩,r⟩
  ·rcases d b with e | e
   ·rcases d2 b with e2 | e2
    ·exact .inl (CA.2 ⟨e,e2⟩)
    ·exact .inr e2
   ·exact .inr (CA.1 e).2
  ·exact (d b).imp id λe=>(CA.1 e).1
instance:Std.Associative (α:=Hp) (· * ·):=⟨E7⟩
instance:Std.Commutative (α:=Hp) (· * ·):=⟨Dh⟩
theorem A7.ac {h:A2} {P Q:Hp} (H:A7 h P) (e:P=Q):A7 h Q:=e ▸ H
theorem D4 (P Q R:Hp):P*(Q*R)=Q*(P*R):=by rw [<- E7,Dh P Q,E7]
theorem Hr (A B C R:Hp):A*(B*(C*R))=C*(A*(B*R)):=by rw [D4 B C,D4 A C]
theorem Sp2 (A B C D R:Hp):A*(B*(C*(D*R)))=D*(A*(B*(C*R))):=by rw [D4 C D,D4 B D,D4 A D]
theorem W9 (P:Hp):Mr*P=P:=by
 funext ρ
 refine propext ⟨?_,λp=>⟨λ_=>none,ρ,λb=>.inl rfl,by funext b;simp [uni],rfl,p⟩⟩
 rintro ⟨_,τ,d,rfl,rfl,p⟩
 have:uni (λ_=>none) τ=τ:=by funext b;simp [uni]
 rw [this];exact p
theorem SF5 {α:Type} (P:α->Hp) (R:Hp):ex P*R=ex λa=>P a*R:=by
 funext ρ
 refine propext ⟨?_,?_⟩
 ·rintro ⟨σ,τ,d,e,⟨a,p⟩,r⟩;exact ⟨a,σ,τ,d,e,p,r⟩
 ·rintro ⟨a,σ,τ,d,e,p,r⟩;exact ⟨σ,τ,d,e,⟨a,p⟩,r⟩
theorem SF6 (p:Prop) (P R:Hp):pr p P*R=pr p (P*R):=by
 funext ρ
 refine propext ⟨?_,?_⟩
 ·rintro ⟨σ,τ,d,e,⟨a,p⟩,r⟩;exact ⟨a,σ,τ,d,e,p,r⟩
 ·rintro ⟨a,σ,τ,d,e,p,r⟩;exact ⟨σ,τ,d,e,⟨a,p⟩,r⟩
theorem A7.ex {h:A2} {α:Type} {P:α->Hp} {R:Hp}:A7 h (Proofs.YtahpbclnkofhfaaGreat.ex P*R)↔∃a,A7 h (P a*R):=by
 rw [SF5]
 exact ⟨λ⟨σ,s,a,p⟩=>⟨a,σ,s,p⟩,λ⟨a,σ,s,p⟩=>⟨σ,s,a,p⟩⟩
theorem A7.pr {h:A2} {p:Prop} {P R:Hp}:A7 h (Proofs.YtahpbclnkofhfaaGreat.pr p P*R)↔p/\A7 h (P*R):=by
 rw [SF6]
 exact ⟨λ⟨σ,s,a,p⟩=>⟨a,σ,s,p⟩,λ⟨a,σ,s,p⟩=>⟨σ,s,a,p⟩⟩
theorem Hz.left {σ τ:FC} {h:A2} (s:Hz (uni σ τ) h):Hz σ h:=λb o e=>s b o (by unfold uni;rw [e];rfl)
theorem Hz.right {σ τ:FC} {h:A2} (d:dis σ τ) (s:Hz (uni σ τ) h):Hz τ h:=λb o e=>s b o (by
 unfold uni
 rcases d b with x | x
 ·rw [x];simpa using e
 ·rw [x] at e;cases e)
theorem Hz.uni {σ τ:FC} {h:A2} (s:Hz σ h) (t:Hz τ h):Hz (Proofs.YtahpbclnkofhfaaGreat.uni σ τ) h:=λb o e=>by
 unfold Proofs.YtahpbclnkofhfaaGreat.uni at e
 cases e2:σ b with
 | none=>rw [e2] at e;exact t b o (by simpa using e)
 | some o2=>rw [e2] at e;exact s b o (by rw [e2];simpa using e)
theorem Hz.lt {σ:FC} {h:A2} (s:Hz σ h) {b:Nat} (e:σ b≠none):b < h.size:=by
 cases e2:σ b with
 | none=>exact absurd e2 e
 | some o=>exact (Array.getElem?_eq_some_iff.1 (s.at b o e2)).1
theorem A7.drop {h:A2} {P R:Hp} (H:A7 h (P*R)):A7 h R:=by
 obtain ⟨_,s,σ,τ,d,rfl,p,r⟩:=H
 exact ⟨τ,s.right d,r⟩
theorem A7.mono {h:A2} {P Q R:Hp} (H:A7 h (P*R)) (f:∀σ,P σ->Q σ):A7 h (Q*R):=by
 obtain ⟨_,s,σ,τ,d,rfl,p,r⟩:=H
 exact ⟨_,s,σ,τ,d,rfl,f σ p,r⟩
theorem A7.mono2 {h:A2} {P Q R:Hp} (H:A7 h (P*R)) (f:∀σ,R σ->Q σ):A7 h (P*Q):=by
 obtain ⟨_,s,σ,τ,d,rfl,p,r⟩:=H
 exact ⟨_,s,σ,τ,d,rfl,p,f τ r⟩
theorem A7.drop2 {h:A2} {P Q R:Hp} (H:A7 h (P*(Q*R))):A7 h (P*R):=by
 rw [D4] at H;exact H.drop
theorem A7.lt {h:A2} {b:Nat} {o:Obj} {R:Hp} (H:A7 h (pt b o*R)):b < h.size:=by
 obtain ⟨_,s,σ,τ,d,rfl,p,r⟩:=H
 exact s.left.lt (by rw [p b];simp)
theorem A7.at {h:A2} {b:Nat} {o:Obj} {R:Hp} (H:A7 h (pt b o*R)):h[b]? = some o:=by
 obtain ⟨_,s,σ,τ,d,rfl,p,r⟩:=H
 exact s.left.at b o (by rw [p b];simp)
theorem A7.at2 {h:A2} {b:Nat} {o:Obj} {P R:Hp} (H:A7 h (P*(pt b o*R))):h[b]? = some o:=A7.at H.drop
theorem A7.at3 {h:A2} {b:Nat} {o:Obj} {P Q R:Hp} (H:A7 h (P*(Q*(pt b o*R)))):h[b]? = some o:=A7.at H.drop.drop
theorem A7.ld {h:A2} {b i:Nat} {row:List Value} {t:TypeId} {R:Hp} {v:Value} {K:Value->Prop} (H:A7 h (pt b (oQ row.toArray t)*R)) (e:row[i]? = some v) (k:K v):D1 h ⟨b,i,none⟩ K:=C5 H.at e k
theorem A7.old {h h':A2} {P:Hp} (H:A7 h P) (o:G4 h.size h h'):A7 h' P:=by
 obtain ⟨σ,s,p⟩:=H
 exact ⟨σ,Hz.mk (λb x e=>(o.2 b (s.lt (by rw [e];simp))).trans (s.at b x e)) s.nd,p⟩
theorem A7.push {h:A2} {R:Hp} (H:A7 h R) (o:Obj) (ho:Nd o:=by intro x e;cases e):A7 (h.push o) (pt h.size o*R):=by
 obtain ⟨τ,s,r⟩:=H
 refine ⟨uni (λc=>if c=h.size then some o else none) τ,?_,_,τ,λb=>?_,rfl,λc=>rfl,r⟩
 ·refine Hz.uni (λb x e=>?_) (Hz.mk (λb x e=>(S4 _ _ _ (s.lt (by rw [e];simp))).trans (s.at b x e)) s.nd)
  split at e
  ·rename_i hb;subst hb;cases e;exact ⟨Z6 _ _,ho⟩
  ·cases e
 ·by_cases hb:b=h.size
  ·subst hb
   right
   apply Decidable.byContradiction
   intro hn
   exact absurd (s.lt hn) (Nat.lt_irrefl _)
  ·left;rw [if_neg hb]
theorem A7.wr {h h':A2} {b:Nat} {o o':Obj} {R:Hp} (H:A7 h (pt b o*R)) (new:h'[b]? = some o') (old:∀c,c≠b->h'[c]? = h[c]?) (ho:Nd o':=by intro x e;cases e):A7 h' (pt b o' * R):=by
 obtain ⟨_,s,σ,τ,d,rfl,p,r⟩:=H
 refine ⟨uni (λc=>if c=b then some o' else none) τ,?_,_,τ,λc=>?_,rfl,λc=>rfl,r⟩
 ·refine Hz.uni (λc x e=>?_) (Hz.mk (λc x e=>(old c λhc=>?_).trans ((s.right d).at c x e)) (s.right d).nd)
  ·split at e
   ·rename_i hb;subst hb;cases e;exact ⟨new,ho⟩
   ·cases e
  ·subst hc
   rcases d c with h1 | h1
   ·rw [p c] at h1;simp at h1
   ·rw [h1] at e;cases e
 ·by_cases hc:c=b
  ·subst hc
   rcases d c with h1 | h1
   ·rw [p c] at h1;simp at h1
   ·exact .inr h1
  ·left;rw [if_neg hc]
theorem A7.st {h:A2} {b i:Nat} {row:List Value} {t:TypeId} {R:Hp} {v:Value} {K:A2->Prop} (H:A7 h (pt b (oQ row.toArray t)*R)) (hi:Nat.ble (i+1) row.length=true) (ho:J3 v True)
  (k:∀h',A7 h' (pt b (oQ (row.set i v).toArray t)*R)->K h'):C4 h ⟨b,i,none⟩ v K:=
 stR H.at hi ho λh' w=>k h' (H.wr w.new w.old)
theorem A7.opn {h:A2} {D:Nat->Prop} {F:A2->Prop} {R:Hp} (H:A7 h (lift D F*R)):F h/\(∀b,D b->b < h.size) /\
  ∀(h':A2) (D':Nat->Prop) (F':A2->Prop),Fr D h h'->(∀b,D' b->(D b\/h.size<=b)/\b < h'.size)->(∀b o,D' b->h'[b]? = some o->Nd o)->(∀h'',(∀b,D' b->h''[b]? = h'[b]?)->F' h'')->A7 h' (lift D' F' * R):=by
 obtain ⟨_,s,σ,τ,d,rfl,⟨p1,p2⟩,r⟩:=H
 refine ⟨p2 h s.left,λb hb=>s.left.lt ((p1 b).1 hb),λh' D' F' hf hD hN hF=>?_⟩
 classical
 have hsub:Hz (λb=>if D' b then h'[b]? else none) h':=λb o e=>by
  have e:(if D' b then h'[b]? else none)=some o:=e
  split at e
  ·rename_i hb;exact ⟨e,hN b o hb e⟩
  ·cases e
 refine ⟨uni (λb=>if D' b then h'[b]? else none) τ,Hz.uni hsub (Hz.mk (λb o e=>?_) (s.right d).nd),_,τ,λb=>?_,rfl,⟨λb=>?_,λh'' s''=>hF h'' λb hb=>?_⟩,r⟩
 ·have hs:=(s.right d).at b o e
  refine (hf.2 b (s.right d |>.lt (by rw [e];simp)) λhb=>?_).trans hs
  rcases d b with h1 | h1
  ·exact (p1 b).1 hb h1
  ·rw [h1] at e;cases e
 ·by_cases hb:D' b
  ·right
   rcases (hD b hb).1 with h1 | h1
   ·exact (d b).resolve_left ((p1 b).1 h1)
   ·apply Decidable.byContradiction
    intro hn
    have:=(s.right d).lt hn
    omega
  ·left;rw [if_neg hb]
 ·constructor
  ·intro hb
   show (if D' b then h'[b]? else none)≠none
   rw [if_pos hb]
   have:=(hD b hb).2
   simp [this]
  ·intro hn
   by_cases hb:D' b
   ·exact hb
   ·have hn:(if D' b then h'[b]? else none)≠none:=hn
    rw [if_neg hb] at hn;exact absurd rfl hn
 ·have hlt:=(hD b hb).2
  have e:h'[b]? = some h'[b]:=by simp [hlt]
  rw [e]
  exact s''.at b _ (by show (if D' b then h'[b]? else none)=_;rw [if_pos hb,e])
theorem A7.see {h:A2} {D:Nat->Prop} {F:A2->Prop} {R:Hp} (H:A7 h (lift D F*R)):F h:=H.opn.1
theorem Zj {D:Nat->Prop} {F G:A2->Prop} (f:∀h,F h->G h):∀σ,lift D F σ->lift D G σ:=λσ ⟨a,b⟩=>⟨a,λh s=>f h (b h s)⟩
theorem A7.mk_new {h h':A2} {D:Nat->Prop} {F:A2->Prop} {R:Hp} (H:A7 h R) (o:G4 h.size h h') (hD:∀b,D b->h.size<=b/\b < h'.size) (hN:∀b o,D b->h'[b]? = some o->Nd o) (hF:∀h'',(∀b,D b->h''[b]? = h'[b]?)->F h''):A7 h' (lift D F*R):=by
 have H0:A7 h (lift (λ_=>False) (λ_=>True)*R):=by
  rw [<- W9 R] at H
  exact H.mono λσ e=>⟨λb=>⟨False.elim,λhn=>hn (by rw [e])⟩,λ_ _=>trivial⟩
 exact H0.opn.2.2 h' D F (o.fr _) (λb hb=>⟨.inr (hD b hb).1,(hD b hb).2⟩) hN hF
def F3 (elem:TypeId) (sz:Nat) (a:Option Addr) (l c:Nat) (xs:List Value):Hp:=lift (GN a) λh=>CG h elem sz a l c xs
theorem CG.congr {h h':A2} {elem:TypeId} {sz:Nat} {a:Option Addr} {l c:Nat} {xs:List Value} (H:CG h elem sz a l c xs) (e:∀b,GN a b->h'[b]? = h[b]?):CG h' elem sz a l c xs:=H.keep λad ea=>e _ ⟨ad,ea,rfl⟩
theorem CG.nd {h:A2} {elem:TypeId} {sz:Nat} {a:Option Addr} {l c:Nat} {xs:List Value} (H:CG h elem sz a l c xs):∀b o,GN a b->h[b]? = some o->Nd o:=by
 rintro b o ⟨ad,e,rfl⟩ hb x hx
 rcases H.2.2 with ⟨e2,_⟩ | ⟨b',row,e2,hb',_⟩
 ·rw [e] at e2;cases e2
 ·rw [e] at e2;cases e2
  rw [hb'] at hb
  cases hb
  cases hx
theorem A7.own {h:A2} {elem:TypeId} {sz:Nat} {a:Option Addr} {l c:Nat} {xs:List Value} {R:Hp} (H:A7 h (F3 elem sz a l c xs*R)):CG h elem sz a l c xs:=H.see
theorem A7.own_new {h:A2} {R:Hp} (H:A7 h R) (elem:TypeId) (sz:Nat):A7 h (F3 elem sz none 0 0 []*R):=
 H.mk_new (G4.refl _ _) (λb hb=>by obtain ⟨_,e,_⟩:=hb;cases e) (λb o hb=>by obtain ⟨_,e,_⟩:=hb;cases e) λh'' _=>CG.nil _ _ _
theorem A7.app {P:Program} {t elem:TypeId} {z:Value} {h:A2} {a a2:Option Addr} {l c n n2:Nat} {xs ys:List Value} {K:kQ} {R:Hp}
  (hu:AH P t=.slice elem) (hth:J7 P elem=true) (hz:Gw P elem=some z) (hzs:z.cells.size=L7 P elem)
  (H:A7 h (F3 elem (L7 P elem) a l c xs*R)) (hs:N8 h a2 ys) (hn:ys.length=n*L7 P elem) (hone:∀y ∈ ys,J3 y True) (hb0:0 < Eo P elem) (hb:(2*(l+n)+512)*Eo P elem<=2 ^ 48)
  (k:∀a' c' h',A7 h' (F3 elem (L7 P elem) a' (l+n) c' (xs ++ ys)*R)->K (lQ a' (l+n) c') h') :
  T2 P #[t,t] t #[lQ a l c,lQ a2 n n2] h K:=by
 obtain ⟨ho,hlt,re⟩:=H.opn
 refine QO hu hth hz hzs ho hs hn hone hb0 hb λa' c' h' o' hsz old ha=>?_
 refine k a' c' h' (re h' (GN a') _ ⟨hsz,λb hb hn=>old b hb λad ea e=>hn ⟨ad,ea,e⟩⟩ (λb hb=>?_) o'.nd λh'' e=>o'.congr e)
 refine ⟨?_,o'.lt2 hb⟩
 rcases ha with ha | ha
 ·rw [ha] at hb;exact .inl hb
 ·obtain ⟨ad,e,eb⟩:=hb
  rw [ha] at e;cases e
  exact .inr (by rw [<- eb];exact Nat.le_refl _)
theorem A7.app2 {P:Program} {t elem:TypeId} {z:Value} {h:A2} {a a2:Option Addr} {l c n n2:Nat} {xs ys:List Value} {K:kQ} {R:Hp}
  (hu:AH P t=.slice elem) (hth:J7 P elem=true) (hz:Gw P elem=some z) (hzs:z.cells.size=L7 P elem)
  (H:A7 h (F3 elem (L7 P elem) a l c xs*R)) (hs:N8 h a2 ys) (hn:ys.length=n*L7 P elem) (hone:∀y ∈ ys,J3 y True) (hb0:0 < Eo P elem) (hb:(2*(l+n)+512)*Eo P elem<=2 ^ 48)
  (k1:∀c' h',A7 h' (F3 elem (L7 P elem) a (l+n) c' (xs ++ ys)*R)->K (lQ a (l+n) c') h')
  (k2:∀b c' h',¬ GN a b->A7 h' (F3 elem (L7 P elem) (some (aQ b)) (l+n) c' (xs ++ ys)*(F3 elem (L7 P elem) a l c xs*R))->K (lQ (some (aQ b)) (l+n) c') h') :
  T2 P #[t,t] t #[lQ a l c,lQ a2 n n2] h K:=by
 obtain ⟨ho,hlt,re⟩:=H.opn
 refine GC hu hth hz hzs ho hs hn hone hb0 hb λa' c' h' o' hsz old ha=>?_
 rcases ha with ha | ⟨ha,hold⟩
 ·subst ha
  exact k1 c' h' (re h' (GN a') _ ⟨hsz,λb hb hn=>old b hb λad ea e=>hn ⟨ad,ea,e⟩⟩ (λb hb=>⟨.inl hb,o'.lt2 hb⟩) o'.nd λh'' e=>o'.congr e)
 ·subst ha
  refine k2 h.size c' h' (λhb=>absurd (hlt _ hb) (Nat.lt_irrefl _)) (H.mk_new hold (λb hb=>?_) o'.nd λh'' e=>o'.congr e)
  refine ⟨?_,o'.lt2 hb⟩
  obtain ⟨ad,e,eb⟩:=hb
  cases e
  rw [<- eb];exact Nat.le_refl _
theorem A7.collect {h h':A2} {N:Nat} {o o':Obj} {R:Hp} {elem:TypeId} {sz:Nat} {a:Option Addr} {l c:Nat} {xs:List Value} (H:A7 h (pt N o*R)) (hs:h.size<=h'.size) (old:∀b,b < h.size->b≠N->h'[b]? = h[b]?) (new:h'[N]? = some o') (ow:CG h' elem sz a l c xs) (hb:∀b,GN a b->h.size<=b)
  (ho:Nd o':=by intro x e;cases e):A7 h' (F3 elem sz a l c xs*(pt N o' * R)):=by
 have hlt:=H.lt
 have H1:A7 (h.setIfInBounds N o') (pt N o' * R):=H.wr (T4 hlt) (λc hc=>U5 hc) ho
 have o1:G4 (h.setIfInBounds N o').size (h.setIfInBounds N o') h':=⟨by simpa using hs,λb hb=>by
  by_cases e:b=N
  ·subst e;rw [new,T4 hlt]
  ·rw [U5 e];exact old b (by simpa using hb) e⟩
 exact H1.mk_new o1 (λb hb'=>⟨by simpa using hb b hb',ow.lt2 hb'⟩) ow.nd λh'' e=>ow.congr e
theorem Sp3 {P:Program} {t elem:TypeId} {z:Value} {h:A2} {a a2:Option Addr} {l c n n2:Nat} {xs ys:List Value} {K:kQ}
  (hu:AH P t=.slice elem) (hth:J7 P elem=true) (hz:Gw P elem=some z) (hzs:z.cells.size=L7 P elem)
  (ho:N8 h a xs) (hl:xs.length=l*L7 P elem) (hlc:l<=c) (hs:N8 h a2 ys) (hn:ys.length=n*L7 P elem) (hone:∀y ∈ ys,J3 y True) (hb0:0 < Eo P elem) (hb:(2*(l+n)+512)*Eo P elem<=2 ^ 48)
  (k1:l+n<=c->∀ad,a=some ad->NX h (ad.add (l*L7 P elem)) 0 ys λh'=>K (lQ a (l+n) c) h')
  (k0:l+n<=c->a=none->K (lQ none (l+n) c) h)
  (k2:∀c' h',CG h' elem (L7 P elem) (some (aQ h.size)) (l+n) c' (xs ++ ys)->G4 h.size h h'->K (lQ (some (aQ h.size)) (l+n) c') h') :
  T2 P #[t,t] t #[lQ a l c,lQ a2 n n2] h K:=by
 have hu':=D9 hu (by simp)
 obtain ⟨info,hinfo⟩:=Cj hth
 have hbyt:info.bytes=Eo P elem:=by unfold Eo;rw [hinfo]
 have first:∀(F:Array Value->A2->Prop),F ys.toArray h->hp P (Builtin.firstCells (L7 P elem) n (lQ a2 n n2)) F h:=by
  intro F k
  cases a2 with
  | none=>
   have:ys = []:=by
    cases ys with
    | nil=>rfl
    | cons y ys=>obtain ⟨ad,e,_⟩:=hs 0 y rfl;cases e
   subst this;exact k
  | some ad=>
   show hp P (loadCells ad (n*L7 P elem)) F h
   refine M2 ad _ 0 [] F ?_
   rw [<- hn]
   refine Dp ys 0 [] _ (λj v hj=>?_) (by simpa using k)
   obtain ⟨ad',e,hc⟩:=hs j v hj
   cases e;rwa [Nat.zero_add]
 unfold T2 Builtin.append_
 simp only [List.getElem?_toArray,List.getElem?_cons_zero,List.getElem?_cons_succ,A8,D6,C0 hu',I8 hth,Bool.false_eq_true,if_false]
 show hp P (Builtin.lenOf _) _ h
 simp only [Builtin.lenOf,D6]
 rw [Er]
 split
 ·rename_i hcap
  simp only [A8]
  show hp P (if (!false)=true then _ else _) _ h
  refine first _ ?_
  cases a with
  | none=>
   have key:=k0 hcap rfl
   try simp only [A8,D6]
   exact key
  | some ad=>
   simp only [A8]
   refine X4 _ _ h 0 _ ?_
   try simp only [D6]
   exact k1 hcap ad rfl
 ·rename_i hcap
  simp only [A8,D6]
  have hbound:¬ Builtin.nextslicecap (l+n) c*info.bytes > 2 ^ 48:=by
   rw [hbyt]
   have:=Nat.le_trans (Nat.mul_le_mul_right (Eo P elem) (EW (l+n) c (by omega))) hb
   omega
  simp only [A8,D6,S3 hinfo,Er]
  rw [if_neg (by rw [hbyt];intro x;rcases x.2 with y | y <;> first | exact y | omega),if_neg hbound]
  show ∀tp,_
  intro tp
  rw [if_neg (by simp [Question.forced])]
  obtain ⟨cap,hcp⟩ : ∃cap,cap=(Question.appendCap (l+n) c elem).cut tp:=⟨_,rfl⟩
  have hcap2:l+n<=cap:=by rw [hcp];simp [Question.cut]
  rw [<- hcp]
  rw [show (Sem.pure cap:Sem Nat)=pure cap from rfl]
  simp only [A8,D6,S3 hinfo,Ck]
  have old:∀(F:Array Value->A2->Prop),F xs.toArray h->hp P (Builtin.firstCells (L7 P elem) l (lQ a l c)) F h:=by
   intro F k
   cases a with
   | none=>
    have:xs = []:=by
     cases xs with
     | nil=>rfl
     | cons y ys=>obtain ⟨ad,e,_⟩:=ho 0 y rfl;cases e
    subst this;exact k
   | some ad=>
    show hp P (loadCells ad (l*L7 P elem)) F h
    refine M2 ad _ 0 [] F ?_
    rw [<- hl]
    refine Dp xs 0 [] _ (λj v hj=>?_) (by simpa using k)
    obtain ⟨ad',e,hc⟩:=ho j v hj
    cases e;rwa [Nat.zero_add]
  refine old _ ?_
  rw [A8,if_pos (show (!false)=true from rfl)]
  refine first _ ?_
  simp only [A8]
  simp only [R9 hz]
  show K (lQ (some (aQ h.size)) (l+n) cap) (h.push _)
  have hzc:(Builtin.zeroCells z.cells (cap - (l+n))).size=(cap - (l+n))*L7 P elem:=by rw [BI,hzs]
  refine k2 cap _ ⟨by simp [hl,hn,Nat.add_mul],hcap2,.inr ⟨h.size,_,rfl,Z6 _ _,?_,?_⟩⟩ ⟨by simp,λb hb'=>S4 _ _ _ hb'⟩
  ·simp only [Array.size_append,hzc,List.size_toArray,hl,hn,<- Nat.add_mul]
   congr 1;omega
  ·simp only [Array.toList_append,List.toList_toArray]
   rw [List.take_left' (by simp [hl,hn,Nat.add_mul])]
def DG (h:A2) (a:Option Addr) (l c:Nat) (xs:List Int):Prop:=
 xs.length=l/\l<=c/\((a=none/\c=0)\/∃b o row,a=some ⟨b,o,none⟩/\h[b]? = some (oQ row 3)/\o+c<=row.size/\(row.toList.drop o).take l=xs.map iv)
theorem DG.of {h:A2} {a:Option Addr} {l c:Nat} {xs:List Int} (H:GM h a l c xs):DG h a l c xs:=by
 obtain ⟨h1,h2,h3⟩:=H
 refine ⟨by simpa using h1,h2,h3.imp id ?_⟩
 rintro ⟨b,row,e,hb,hs,ht⟩
 exact ⟨b,0,row,e,hb,by omega,by simpa using ht⟩
theorem DG.congr {h h':A2} {a:Option Addr} {l c:Nat} {xs:List Int} (H:DG h a l c xs) (e:∀b,GN a b->h'[b]? = h[b]?):DG h' a l c xs:=by
 obtain ⟨h1,h2,h3⟩:=H
 refine ⟨h1,h2,h3.imp id ?_⟩
 rintro ⟨b,o,row,ea,hb,r⟩
 exact ⟨b,o,row,ea,(e b ⟨_,ea,rfl⟩).trans hb,r⟩
theorem DG.lt2 {h:A2} {a:Option Addr} {l c:Nat} {xs:List Int} (H:DG h a l c xs) {b:Nat} (hb:GN a b):b < h.size:=by
 obtain ⟨ad,e,rfl⟩:=hb
 rcases H.2.2 with ⟨e2,_⟩ | ⟨b',o,row,e2,hb',_⟩
 ·rw [e] at e2;cases e2
 ·rw [e] at e2;cases e2;exact (Array.getElem?_eq_some_iff.1 hb').1
theorem DG.nd {h:A2} {a:Option Addr} {l c:Nat} {xs:List Int} (H:DG h a l c xs):∀b o,GN a b->h[b]? = some o->Nd o:=by
 rintro b o ⟨ad,e,rfl⟩ hb x hx
 rcases H.2.2 with ⟨e2,_⟩ | ⟨b',o',row,e2,hb',_⟩
 ·rw [e] at e2;cases e2
 ·rw [e] at e2;cases e2
  rw [hb'] at hb
  cases hb
  cases hx
theorem DG.ri {h:A2} {a:Option Addr} {l c:Nat} {xs:List Int} (H:DG h a l c xs):RI h a l c xs:=by
 obtain ⟨h1,h2,h3⟩:=H
 refine ⟨λi v hi=>?_,h1,h2⟩
 have hlt:i < xs.length:=by have:=(List.getElem?_eq_some_iff.1 hi).1;simpa using this
 rcases h3 with ⟨_,hc⟩ | ⟨b,o,row,e,hb,hs,ht⟩
 ·omega
 ·refine ⟨_,e,?_⟩
  rw [E1,E0 hb,<- Array.getElem?_toList]
  rw [<- ht,List.getElem?_take] at hi
  split at hi
  ·rw [List.getElem?_drop] at hi;exact hi
  ·cases hi
theorem DG.tail {h:A2} {a:Option Addr} {l c:Nat} {x:Int} {xs:List Int} (H:DG h a l c (x :: xs)):DG h (FD a 1 c 1) (l - 1) (c - 1) xs/\∀b,GN (FD a 1 c 1) b->GN a b:=by
 obtain ⟨h1,h2,h3⟩:=H
 simp only [List.length_cons] at h1
 rcases h3 with ⟨_,hc⟩ | ⟨b,o,row,e,hb,hs,ht⟩
 ·omega
 ·subst e
  unfold FD
  split
  ·rename_i hc
   have e0:l - 1=0:=by have:=h2;omega
   have ex:xs = []:=List.length_eq_zero_iff.1 (by omega)
   refine ⟨⟨by omega,by omega,.inr ⟨b,o,row,rfl,hb,by omega,?_⟩⟩,λb hb=>hb⟩
   rw [e0,ex];rfl
  ·refine ⟨⟨by omega,by omega,.inr ⟨b,o+1,row,by rw [Option.map_some,E1],hb,by omega,?_⟩⟩,?_⟩
   ·have:l=(l - 1)+1:=by omega
    rw [this] at ht
    have e2:(row.toList.drop o).drop 1=row.toList.drop (o+1):=by rw [List.drop_drop]
    have e3:=congrArg (List.drop 1) ht
    rw [List.drop_take,e2] at e3
    simpa using e3
   ·rintro b' ⟨ad,e,rfl⟩
    rw [Option.map_some,E1] at e
    cases e
    exact ⟨_,rfl,rfl⟩
def CZ (a:Option Addr) (l c:Nat) (xs:List Int):Hp:=lift (GN a) λh=>DG h a l c xs
theorem A7.ownf {h:A2} {a:Option Addr} {l c:Nat} {xs:List Int} {R:Hp} (H:A7 h (CZ a l c xs*R)):DG h a l c xs:=H.see
theorem A7.toF {h:A2} {a:Option Addr} {l c:Nat} {xs:List Int} {R:Hp} (H:A7 h (F3 3 1 a l c (xs.map iv)*R)):A7 h (CZ a l c xs*R):=H.mono (Zj λ_ h=>DG.of h)
def NdC (o:Obj):Prop:=∀x,o≠.deferred x
theorem NdC.cells {row:Array Value} {t:TypeId}:NdC (oQ row t):=λx e=>by cases e
def GU (P:Hp):Prop:=∀σ h,Hz σ h->P σ->∀b o,σ b=some o->NdC o
theorem GU.star {P Q:Hp} (hP:GU P) (hQ:GU Q):GU (P*Q):=by
 rintro σ h s ⟨σ1,σ2,d,rfl,p,q⟩ b o e
 have e':(σ1 b).or (σ2 b)=some o:=e
 cases h1:σ1 b with
 | some x=>rw [h1] at e';cases e';exact hP _ _ s.left p b _ h1
 | none=>rw [h1] at e';exact hQ _ _ (s.right d) q b _ e'
theorem GU.ex {α:Type} {P:α->Hp} (h:∀a,GU (P a)):GU (ex P):=by
 rintro σ hh s ⟨a,p⟩
 exact h a σ hh s p
theorem GU.pr {p:Prop} {P:Hp} (h:GU P):GU (pr p P):=λσ hh s q=>h σ hh s q.2
theorem GU.pt {b:Nat} {row:Array Value} {t:TypeId}:GU (pt b (oQ row t)):=by
 intro σ h s p c o e
 have p:=p c
 rw [e] at p
 split at p
 ·cases p;exact NdC.cells
 ·cases p
theorem GU.lift {D:Nat->Prop} {F:A2->Prop} (hF:∀h,F h->∀b o,D b->h[b]? = some o->NdC o):GU (lift D F):=by
 rintro σ h s ⟨p,q⟩ b o e
 exact hF h (q h s) b o ((p b).2 (by rw [e];simp)) (s.at b o e)
theorem GU.own {elem:TypeId} {sz:Nat} {a:Option Addr} {l c:Nat} {xs:List Value}:GU (F3 elem sz a l c xs):=by
 refine GU.lift ?_
 rintro h H b o ⟨ad,e,rfl⟩ hb
 rcases H.2.2 with ⟨e2,_⟩ | ⟨b',row,e2,hb',_⟩
 ·rw [e] at e2;cases e2
 ·rw [e] at e2;cases e2
  rw [hb'] at hb
  cases hb
  exact NdC.cells
theorem GU.ownf {a:Option Addr} {l c:Nat} {xs:List Int}:GU (CZ a l c xs):=by
 refine GU.lift ?_
 rintro h H b o ⟨ad,e,rfl⟩ hb
 rcases H.2.2 with ⟨e2,_⟩ | ⟨b',o',row,e2,hb',_⟩
 ·rw [e] at e2;cases e2
 ·rw [e] at e2;cases e2
  rw [hb'] at hb
  cases hb
  exact NdC.cells
def Bnd (N:Nat) (P:Hp):Prop:=∀σ,P σ->∀b,σ b≠none->b < N
theorem A7.freeze {h:A2} {P R:Hp} (H:A7 h (P*R)):∃R':Hp,(∀σ,R' σ->R σ)/\Bnd h.size R'/\A7 h (P*R'):=by
 obtain ⟨_,s,σ,τ,d,rfl,p,q⟩:=H
 refine ⟨λρ=>ρ=τ,λρ e=>by rw [e];exact q,λρ e b hb=>?_,⟨_,s,σ,τ,d,rfl,p,rfl⟩⟩
 rw [e] at hb
 exact (s.right d).lt hb
theorem A7.sameD {N:Nat} {h h':A2} {P R:Hp} (H:A7 h (P*R)) (hP:GU P) (hR:Bnd N R) (o:Z5 N h h'):A7 h' (P*R):=by
 obtain ⟨_,s,σ,τ,d,rfl,p,q⟩:=H
 refine ⟨_,Hz.mk (λb x e=>(o.2 b ?_).trans (s.at b x e)) s.nd,σ,τ,d,rfl,p,q⟩
 cases h1:σ b with
 | some y=>
  refine .inr λz e2=>?_
  have h2:=s.left.at b y h1
  rw [e2] at h2
  cases h2
  exact hP _ _ s.left p b _ h1 z rfl
 | none=>
  refine .inl (hR _ q b λh2=>?_)
  have e':(σ b).or (τ b)=some x:=e
  rw [h1,h2] at e'
  cases e'
def Rb (h0:A2):Hp:=λσ=>∀b,σ b=h0[b]?
theorem A7.full (h:A2):A7 h (Rb h):=⟨λb=>h[b]?,λb o e=>⟨e,λ_=>False.elim⟩,λ_=>rfl⟩
theorem A7.fullOld {h h0:A2} {R:Hp} (H:A7 h (Rb h0*R)):G4 h0.size h0 h:=by
 obtain ⟨_,s,σ,τ,d,rfl,p,q⟩:=H
 have hb:∀b,b < h0.size->h[b]? = h0[b]?:=by
  intro b hlt
  have e:σ b=some h0[b]:=by rw [p b];exact Array.getElem?_eq_getElem hlt
  rw [s.left.at b _ e,Array.getElem?_eq_getElem hlt]
 refine ⟨?_,hb⟩
 cases hn:h0.size with
 | zero=>omega
 | succ n=>
  have h1:=hb n (by omega)
  rw [Array.getElem?_eq_getElem (by omega:n < h0.size)] at h1
  have:=(Array.getElem?_eq_some_iff.1 h1).1
  omega
end
section
set_option maxRecDepth 100000
variable {K:kQ} {h:A2}
def F102 (K:kQ) (h:A2) (xa:Option Addr) (xb xc:Nat):Prop:=
 (T2 Tryz.prog #[26,26] 26 #[lQ (some (aQ h.size)) 0 0,lQ xa xb xc] (h.push (oQ #[] 5)) λa b=>C8 a λa c d=>K (pQ (some (aQ b.size))) (b.push (oQ #[lQ a c d,iQ 0] 236)))
theorem call102 {xa:Option Addr} {xb xc:Nat} (H:F102 K h xa xb xc):A5 Tryz.prog 102 #[(lQ xa xb xc)] h K:=
 cQ Tryz.func102 H
def F146 (K:kQ) (h:A2) (xa:Int):Prop:=
 (((0:Int)<=1)/\(((65536:Int)≠0)/\(K (iQ (IntKind.wrap .i64 (Int.tmod (Int.fdiv xa 2) 65536))) h)))
theorem call146 {xa:Int} (H:F146 K h xa):A5 Tryz.prog 146 #[(uQ xa)] h K:=
 cQ Tryz.func146 H
def F206 (K:kQ) (h:A2) (xa:Int) (xb:Bool) (xc:Int):Prop:=
 (O0 λI0=>(D0 (decide (xa < 0)) (I0 [dQ true,dQ true] h) (cf 277 #[uQ 65536,lQ (some (aQ h.size)) 1 1] (h.push (oQ #[uQ (IntKind.wrap .u64 xa)] 178)) λa b=>asBool a λa=>D0 (!a) (I0 [dQ (!a),dQ true] b) (cf 277 #[uQ 140737488355328,lQ (some (aQ b.size)) 1 1] (b.push (oQ #[uQ xc] 178)) λb c=>asBool b λb=>I0 [dQ (!a),dQ (!b)] c)))/\(∀(a b:Value) (c:F8) (c:A2),(I0 [a,b] c)->(asBool b λa=>D0 a (K (.tuple #[uQ 0,iQ 2]) c) (cf 278 #[uQ (IntKind.wrap .u64 xa),dQ xb,uQ xc] c λa b=>asInt .u64 a λa=>K (.tuple #[uQ a,iQ 0]) b))))
theorem call206 {xa:Int} {xb:Bool} {xc:Int} (H:F206 K h xa xb xc):A5 Tryz.prog 206 #[(iQ xa),(dQ xb),(uQ xc)] h K:=
 cQ Tryz.func206 H
def F211 (K:kQ) (h:A2) (xa:Option Addr):Prop:=
 (D0 (Option.isNone xa) (K (iQ 0) h) (nP xa λa=>lS h a λa a b=>K (iQ (a:Int)) h))
theorem call211 {xa:Option Addr} (H:F211 K h xa):A5 Tryz.prog 211 #[(pQ xa)] h K:=
 cQ Tryz.func211 H
def F249 (K:kQ) (h:A2) (xa xb:Int):Prop:=
 (((0:Int)<=32)/\(K (uQ (IntKind.wrap .u64 ((((BitVec.ofInt 64 (IntKind.wrap .u64 ((IntKind.wrap .u64 xa)*4294967296))) ||| (BitVec.ofInt 64 (IntKind.wrap .u64 xb))).toNat:Nat):Int))) h))
theorem call249 {xa xb:Int} (H:F249 K h xa xb):A5 Tryz.prog 249 #[(.int .u32 xa),(.int .u32 xb)] h K:=
 cQ Tryz.func249 H
def F250 (K:kQ) (h:A2) (xa:Option Addr) (xb:Int):Prop:=
 (D0 (decide (xb < 1)) (K (iQ 1) h) (cf 280 #[pQ xa] h λa b=>asInt .i64 a λa=>O0 λI3=>Hg λm4=>(I3 [iQ 0,tQ,iQ 0] b)/\(∀(b c d:Value) (e:F8) (e:A2),(I3 [b,c,d] e)->(asInt .i64 d λf=>D0 (decide (f < xb)) (asInt .i64 d λf=>((0:Int)<=f)/\(D0 ((IntKind.wrap .i64 ((((BitVec.ofInt 64 (Int.fdiv a (2 ^ (min f.toNat 64)))) &&& (BitVec.ofInt 64 1)).toNat:Nat):Int)) == 0) (K (iQ (IntKind.wrap .i64 (f+1))) e) (asInt .i64 d λa=>(I3 [b,iQ f,iQ (IntKind.wrap .i64 (a+1))] e)/\((m4 [b,iQ f,iQ (IntKind.wrap .i64 (a+1))] e) < (m4 [b,c,d] e))))) (K (iQ xb) e)))))
theorem call250 {xa:Option Addr} {xb:Int} (H:F250 K h xa xb):A5 Tryz.prog 250 #[(pQ xa),(iQ xb)] h K:=
 cQ Tryz.func250 H
def F252 (K:kQ) (h:A2) (xa:Int) (xb:Bool):Prop:=
 (((0:Int)<=1)/\(D0 xb (K (uQ (IntKind.wrap .u64 ((((BitVec.ofInt 64 (IntKind.wrap .u64 ((IntKind.wrap .u64 xa)*2))) ||| (BitVec.ofInt 64 1)).toNat:Nat):Int))) h) (K (uQ (IntKind.wrap .u64 ((IntKind.wrap .u64 xa)*2))) h)))
theorem call252 {xa:Int} {xb:Bool} (H:F252 K h xa xb):A5 Tryz.prog 252 #[(.int .u32 xa),(dQ xb)] h K:=
 cQ Tryz.func252 H
def F228 (K:kQ) (h:A2) (xa xb:Int) (xc:Bool):Prop:=
 (((65536:Int)≠0)/\(cf 285 #[uQ xa] h λa b=>asInt .u64 a λa=>((140737488355328:Int)≠0)/\(cf 278 #[uQ (Int.tmod (IntKind.wrap .u64 xb) 65536),dQ xc,uQ (Int.tmod (IntKind.wrap .u64 (a+1)) 140737488355328)] b λa b=>asInt .u64 a λa=>K (uQ a) b)))
theorem call228 {xa xb:Int} {xc:Bool} (H:F228 K h xa xb xc):A5 Tryz.prog 228 #[(uQ xa),(iQ xb),(dQ xc)] h K:=
 cQ Tryz.func228 H
def F258 (K:kQ) (h:A2) (xa:Int):Prop:=
 (K (dQ ((IntKind.wrap .u64 ((((BitVec.ofInt 64 xa) &&& (BitVec.ofInt 64 1)).toNat:Nat):Int)) == 1)) h)
theorem call258 {xa:Int} (H:F258 K h xa):A5 Tryz.prog 258 #[(uQ xa)] h K:=
 cQ Tryz.func258 H
def F260 (K:kQ) (h:A2) (xa:Int):Prop:=
 (K (uQ (IntKind.wrap .u64 ((((BitVec.ofInt 64 xa) ||| (BitVec.ofInt 64 1)).toNat:Nat):Int))) h)
theorem call260 {xa:Int} (H:F260 K h xa):A5 Tryz.prog 260 #[(uQ xa)] h K:=
 cQ Tryz.func260 H
def F261 (K:kQ) (h:A2) (xa:Int):Prop:=
 (cf 146 #[uQ xa] h λa b=>asInt .i64 a λa=>cf 228 #[uQ xa,iQ a,dQ true] b λa b=>asInt .u64 a λa=>K (uQ a) b)
theorem call261 {xa:Int} (H:F261 K h xa):A5 Tryz.prog 261 #[(uQ xa)] h K:=
 cQ Tryz.func261 H
def F213 (K:kQ) (h:A2) (xa xb:Int):Prop:=
 (cf 216 #[iQ xa] h λa b=>asInt .i64 a λa=>D0 (a == 0) (K (iQ 0) b) (O4 (λc d=>FG c d) Tryz.prog 3 [iQ xb,iQ 0] λc=>((a:Int)≠0)/\(K (iQ (IntKind.wrap .i64 (a+(Int.tmod c a)))) b)))
theorem call213 {xa xb:Int} (H:F213 K h xa xb):A5 Tryz.prog 213 #[(iQ xa),(iQ xb)] h K:=
 cQ Tryz.func213 H
def F215 (K:kQ) (h:A2) (xa:Option Addr) (xb:Int):Prop:=
 (D0 (decide (xb < 1)) (K (iQ 0) h) (cf 280 #[pQ xa] h λa b=>asInt .i64 a λa=>((xb:Int)≠0)/\(K (iQ (Int.tmod a xb)) b)))
theorem call215 {xa:Option Addr} {xb:Int} (H:F215 K h xa xb):A5 Tryz.prog 215 #[(pQ xa),(iQ xb)] h K:=
 cQ Tryz.func215 H
def F216 (K:kQ) (h:A2) (xa:Int):Prop:=
 (O0 λI0=>(D0 (decide (xa < 1)) (I0 [dQ true] h) (I0 [dQ (decide (xa > 20))] h))/\(∀(a:Value) (b:F8) (b:A2),(I0 [a] b)->(asBool a λa=>D0 a (K (iQ 0) b) (((0:Int)<=(IntKind.wrap .i64 (xa - 1)))/\(K (iQ (IntKind.wrap .i64 (1*(2 ^ (min (IntKind.wrap .i64 (xa - 1)).toNat 64))))) b)))))
theorem call216 {xa:Int} (H:F216 K h xa):A5 Tryz.prog 216 #[(iQ xa)] h K:=
 cQ Tryz.func216 H
def F218 (K:kQ) (h:A2) (xa:Int):Prop:=
 (O4 (λa b=>FG a b) Tryz.prog 3 [iQ xa,iQ 1] λa=>C4 (h.push (oQ #[iQ 0,iQ 0] 282)) (aQ h.size) (iQ 0) λb=>C4 b ⟨h.size,1,none⟩ (iQ (IntKind.wrap .i64 (a - 1))) λa=>Ou a h.size λb c=>K (.agg #[b,c]) a)
theorem call218 {xa:Int} (H:F218 K h xa):A5 Tryz.prog 218 #[(iQ xa)] h K:=
 cQ Tryz.func218 H
abbrev g221 (K:kQ) (h H1:A2):Prop:=
 (lI .i64 H1 (aQ h.size) λa=>lI .i64 H1 ⟨h.size,1,none⟩ λb=>K (dQ (decide (a >= b))) H1)
def F221 (K:kQ) (h:A2) (xa xb:Int):Prop:=
 (g221 K h (h.push (oQ #[iQ xa,iQ xb] 282)))
theorem call221 {xa xb:Int} (H:F221 K h xa xb):A5 Tryz.prog 221 #[(.agg #[(iQ xa),(iQ xb)])] h K:=
 cQ Tryz.func221 H
abbrev g223 (K:kQ) (h H1:A2):Prop:=
 (lI .i64 H1 (aQ h.size) λa=>D1 H1 ⟨h.size,1,none⟩ λb=>asInt .i64 b λc=>cf 283 #[iQ a] H1 λa d=>asInt .i64 a λa=>ce d h.size 1 b (cf 283 #[iQ c] d λb c=>asInt .i64 b λb=>((2:Int)≠0)/\(K (iQ (IntKind.wrap .i64 (Int.tdiv (IntKind.wrap .i64 (a+b)) 2))) c)))
def F223 (K:kQ) (h:A2) (xa xb:Int):Prop:=
 (g223 K h (h.push (oQ #[iQ xa,iQ xb] 282)))
theorem call223 {xa xb:Int} (H:F223 K h xa xb):A5 Tryz.prog 223 #[(.agg #[(iQ xa),(iQ xb)])] h K:=
 cQ Tryz.func223 H
abbrev g224 (K:kQ) (h H1 H2:A2) (xa:Bool):Prop:=
 (Ou H2 h.size λa b=>cf 221 #[.agg #[a,b]] H2 λa b=>asBool a λa=>D0 a (Ou b h.size λa c=>dw2 b H1.size a c λa=>Ou a H1.size λc d=>K (.agg #[c,d]) a) (D0 xa (D1 b (aQ h.size) λa=>asInt .i64 a λc=>Ou b h.size λd e=>cf 223 #[.agg #[d,e]] b λd e=>asInt .i64 d λd=>ce e h.size 0 a (dw2 e H1.size (iQ c) (iQ d) λa=>Ou a H1.size λc d=>K (.agg #[c,d]) a)) (Ou b h.size λa c=>D1 b ⟨h.size,1,none⟩ λd=>asInt .i64 d λe=>cf 223 #[.agg #[a,c]] b λa b=>asInt .i64 a λa=>ce b h.size 1 d (C4 b (aQ H1.size) (iQ (IntKind.wrap .i64 (a+1))) λa=>C4 a ⟨H1.size,1,none⟩ (iQ e) λa=>Ou a H1.size λb c=>K (.agg #[b,c]) a))))
def F224 (K:kQ) (h:A2) (xa xb:Int) (xc:Bool):Prop:=
 (g224 K h (h.push (oQ #[iQ xa,iQ xb] 282)) (Array.push (h.push (oQ #[iQ xa,iQ xb] 282)) (oQ #[iQ 0,iQ 0] 282)) xc)
theorem call224 {xa xb:Int} {xc:Bool} (H:F224 K h xa xb xc):A5 Tryz.prog 224 #[(.agg #[(iQ xa),(iQ xb)]),(dQ xc)] h K:=
 cQ Tryz.func224 H
def F226 (K:kQ) (h:A2) (xa:Int):Prop:=
 (K (dQ ((IntKind.wrap .u64 ((((BitVec.ofInt 64 xa) &&& (BitVec.ofInt 64 1)).toNat:Nat):Int)) == 1)) h)
theorem call226 {xa:Int} (H:F226 K h xa):A5 Tryz.prog 226 #[(uQ xa)] h K:=
 cQ Tryz.func226 H
def F230 (K:kQ) (h:A2) (xa xb:Int):Prop:=
 (cf 287 #[iQ xa] h λa b=>asBool a λa=>D0 a (cf 216 #[iQ xb] b λa c=>asInt .i64 a λa=>K (dQ (decide (xa < a))) c) (K (dQ false) b))
theorem call230 {xa xb:Int} (H:F230 K h xa xb):A5 Tryz.prog 230 #[(iQ xa),(iQ xb)] h K:=
 cQ Tryz.func230 H
def F235 (K:kQ) (h:A2) (xa:Option Addr) (xb:Int):Prop:=
 (D0 (!(Option.isNone xa)) (nP xa λa=>lS h a λa b c=>T2 Tryz.prog #[25,25] 25 #[lQ a b c,lQ (some (aQ h.size)) 1 1] (h.push (oQ #[iQ xb] 3)) λa b=>C8 a λa c d=>nP xa λe=>C4 b e (lQ a c d) λa=>K tQ a) (K tQ h))
theorem call235 {xa:Option Addr} {xb:Int} (H:F235 K h xa xb):A5 Tryz.prog 235 #[(pQ xa),(iQ xb)] h K:=
 cQ Tryz.func235 H
def F237 (K:kQ) (h:A2) (xa:Option Addr) (xb xc:Nat) (xd:Int):Prop:=
 (cf 289 #[lQ xa xb xc,iQ xd] h λa b=>asInt .i64 a λa=>K (dQ (decide (a >= 0))) b)
theorem call237 {xa:Option Addr} {xb xc:Nat} {xd:Int} (H:F237 K h xa xb xc xd):A5 Tryz.prog 237 #[(lQ xa xb xc),(iQ xd)] h K:=
 cQ Tryz.func237 H
def F238 (K:kQ) (h:A2) (xa:Option Addr):Prop:=
 (D0 (Option.isNone xa) (K (lQ none 0 0) h) (nP xa λa=>lS h a λa b c=>cf 81 #[lQ a b c] h λa b=>C8 a λa c d=>K (lQ a c d) b))
theorem call238 {xa:Option Addr} (H:F238 K h xa):A5 Tryz.prog 238 #[(pQ xa)] h K:=
 cQ Tryz.func238 H
def F239 (K:kQ) (h:A2) (xa:Option Addr) (xb:Value):Prop:=
 (O0 λI0=>(D0 (Option.isNone xa) (I0 [dQ true] h) (V7 xb λa=>I0 [dQ a] h))/\(∀(a:Value) (b:F8) (b:A2),(I0 [a] b)->(asBool a λa=>D0 a (∀a:A2,(Z5 h.size b a)->(K (iQ 0) a)) (nP xa λa=>lS (b.push (oQ #[lQ none 0 0] 25)) a λa c d=>cf 291 #[lQ a c d] (b.push (oQ #[lQ none 0 0] 25)) λa c=>cf 290 #[a,xb] c λa c=>Hh Tryz.prog a 1 c (λI16 a c=>asInt .i64 (a.getD 0 tQ) λa=>lS c (aQ b.size) λd e f=>T2 Tryz.prog #[25,25] 25 #[lQ d e f,lQ (some (aQ c.size)) 1 1] (c.push (oQ #[iQ a] 3)) λa c=>C8 a λa d e=>C4 c (aQ b.size) (lQ a d e) λa=>I16 .normal a) (λa=>nP xa λc=>lS a c λc c d=>lS a (aQ b.size) λd d e=>lS a (aQ b.size) λb e f=>nP xa λg=>C4 a g (lQ b e f) λa=>(∀b:A2,(Z5 h.size a b)->(K (iQ (IntKind.wrap .i64 ((c:Int) - (d:Int)))) b))) []))))
theorem call239 {xa:Option Addr} {xb:Value} (H:F239 K h xa xb):A5 Tryz.prog 239 #[(pQ xa),xb] h K:=
 cQ Tryz.func239 H
def F274 (K:kQ) (h:A2) (xa:Int):Prop:=
 (((0:Int)<=32)/\(K (.int .u32 (IntKind.wrap .u32 (Int.fdiv xa 4294967296))) h))
theorem call274 {xa:Int} (H:F274 K h xa):A5 Tryz.prog 274 #[(uQ xa)] h K:=
 cQ Tryz.func274 H
def F277 (K:kQ) (h:A2) (xa:Int) (xb:Option Addr) (xc xd:Nat):Prop:=
 (O0 λI0=>Hg λm1=>(I0 [dQ false,tQ,iQ 0] h)/\(∀(a b c:Value) (d:F8) (d:A2),(I0 [a,b,c] d)->(asInt .i64 c λe=>D0 (decide (e < ((xc:Nat):Int))) (Gv c λe=>bd e ((xc:Nat):Int) (E5 (pQ xb) λf=>lI .u64 d (f.add (e.toNat*1)) λe=>D0 (decide (e >= xa)) (K (dQ false) d) (asInt .i64 c λf=>(I0 [a,uQ e,iQ (IntKind.wrap .i64 (f+1))] d)/\((m1 [a,uQ e,iQ (IntKind.wrap .i64 (f+1))] d) < (m1 [a,b,c] d))))) (K (dQ true) d))))
theorem call277 {xa:Int} {xb:Option Addr} {xc xd:Nat} (H:F277 K h xa xb xc xd):A5 Tryz.prog 277 #[(uQ xa),(lQ xb xc xd)] h K:=
 cQ Tryz.func277 H
def F278 (K:kQ) (h:A2) (xa:Int) (xb:Bool) (xc:Int):Prop:=
 (((0:Int)<=17)/\(((0:Int)<=1)/\(D0 xb (K (uQ (IntKind.wrap .u64 ((((BitVec.ofInt 64 (IntKind.wrap .u64 ((((BitVec.ofInt 64 (IntKind.wrap .u64 (xc*131072))) ||| (BitVec.ofInt 64 (IntKind.wrap .u64 (xa*2)))).toNat:Nat):Int))) ||| (BitVec.ofInt 64 1)).toNat:Nat):Int))) h) (K (uQ (IntKind.wrap .u64 ((((BitVec.ofInt 64 (IntKind.wrap .u64 (xc*131072))) ||| (BitVec.ofInt 64 (IntKind.wrap .u64 (xa*2)))).toNat:Nat):Int))) h))))
theorem call278 {xa:Int} {xb:Bool} {xc:Int} (H:F278 K h xa xb xc):A5 Tryz.prog 278 #[(uQ xa),(dQ xb),(uQ xc)] h K:=
 cQ Tryz.func278 H
def F280 (K:kQ) (h:A2) (xa:Option Addr):Prop:=
 (D0 (Option.isNone xa) (K (iQ 0) h) (nP xa λa=>lI .i64 h (a.add 1) λa=>nP xa λb=>C4 h (b.add 1) (iQ (IntKind.wrap .i64 (a+1))) λa=>nP xa λb=>lI .i64 a (b.add 1) λb=>nP xa λc=>lS a c λc c d=>D0 (decide (b > (c:Int))) (K (iQ 0) a) (nP xa λb=>lS a b λb c d=>nP xa λd=>lI .i64 a (d.add 1) λd=>((0:Int)<=(IntKind.wrap .i64 (d - 1)))/\((((IntKind.wrap .i64 (d - 1)):Int) < (c:Int))/\(E5 (pQ b) λb=>D1 a (b.add ((IntKind.wrap .i64 (d - 1)).toNat*1)) λb=>asInt .u8 b λb=>K (iQ (IntKind.wrap .i64 b)) a)))))
theorem call280 {xa:Option Addr} (H:F280 K h xa):A5 Tryz.prog 280 #[(pQ xa)] h K:=
 cQ Tryz.func280 H
def F285 (K:kQ) (h:A2) (xa:Int):Prop:=
 (((0:Int)<=17)/\(K (uQ (Int.fdiv xa 131072)) h))
theorem call285 {xa:Int} (H:F285 K h xa):A5 Tryz.prog 285 #[(uQ xa)] h K:=
 cQ Tryz.func285 H
def F298 (K:kQ) (h:A2) (xa:Int):Prop:=
 (((0:Int)<=1)/\(K (.int .u32 (IntKind.wrap .u32 (Int.fdiv xa 2))) h))
theorem call298 {xa:Int} (H:F298 K h xa):A5 Tryz.prog 298 #[(uQ xa)] h K:=
 cQ Tryz.func298 H
def F282 (K:kQ) (h:A2) (xa xb:Int):Prop:=
 (O0 λI0=>(cf 287 #[iQ xa] h λa b=>asBool a λa=>D0 (!a) (I0 [dQ true,dQ true] b) (D0 (decide (xb < 0)) (I0 [dQ (decide (xb < 0)),dQ true] b) (cf 301 #[iQ xa] b λa b=>asInt .i64 a λa=>I0 [dQ (decide (xb < 0)),dQ (decide (a < xb))] b)))/\(∀(a b:Value) (c:F8) (c:A2),(I0 [a,b] c)->(asBool b λa=>D0 a (K (iQ 0) c) (cf 301 #[iQ xa] c λa b=>asInt .i64 a λa=>((0:Int)<=(IntKind.wrap .i64 (a - xb)))/\(K (iQ (Int.fdiv xa (2 ^ (min (IntKind.wrap .i64 (a - xb)).toNat 64)))) b)))))
theorem call282 {xa xb:Int} (H:F282 K h xa xb):A5 Tryz.prog 282 #[(iQ xa),(iQ xb)] h K:=
 cQ Tryz.func282 H
def F283 (K:kQ) (h:A2) (xa:Int):Prop:=
 (O4 (λa b=>GR a b) Tryz.prog 3 [iQ xa,iQ 1073741824] λa=>O4 (λb c=>FG b c) Tryz.prog 3 [iQ 0,iQ a] λa=>K (iQ a) h)
theorem call283 {xa:Int} (H:F283 K h xa):A5 Tryz.prog 283 #[(iQ xa)] h K:=
 cQ Tryz.func283 H
def F287 (K:kQ) (h:A2) (xa:Int):Prop:=
 (D0 (decide (xa >= 1)) (K (dQ (decide (xa<=1048576))) h) (K (dQ false) h))
theorem call287 {xa:Int} (H:F287 K h xa):A5 Tryz.prog 287 #[(iQ xa)] h K:=
 cQ Tryz.func287 H
def F289 (K:kQ) (h:A2) (xa:Option Addr) (xb xc:Nat) (xd:Int):Prop:=
 (O0 λI0=>Hg λm1=>(I0 [iQ 0,tQ,iQ 0] h)/\(∀(a b c:Value) (d:F8) (d:A2),(I0 [a,b,c] d)->(asInt .i64 c λe=>D0 (decide (e < ((xb:Nat):Int))) (asInt .i64 c λe=>bd e ((xb:Nat):Int) (E5 (pQ xa) λf=>lI .i64 d (f.add (e.toNat*1)) λf=>D0 (xd == f) (K (iQ e) d) (asInt .i64 c λf=>(I0 [a,iQ e,iQ (IntKind.wrap .i64 (f+1))] d)/\((m1 [a,iQ e,iQ (IntKind.wrap .i64 (f+1))] d) < (m1 [a,b,c] d))))) (K (iQ (-1)) d))))
theorem call289 {xa:Option Addr} {xb xc:Nat} {xd:Int} (H:F289 K h xa xb xc xd):A5 Tryz.prog 289 #[(lQ xa xb xc),(iQ xd)] h K:=
 cQ Tryz.func289 H
def F301 (K:kQ) (h:A2) (xa:Int):Prop:=
 (cf 287 #[iQ xa] h λa b=>asBool a λa=>D0 (!a) (K (iQ 0) b) (cf 308 #[uQ (IntKind.wrap .u64 xa)] b λa b=>asInt .i64 a λa=>K (iQ (IntKind.wrap .i64 (a - 1))) b))
theorem call301 {xa:Int} (H:F301 K h xa):A5 Tryz.prog 301 #[(iQ xa)] h K:=
 cQ Tryz.func301 H
def F308 (K:kQ) (h:A2) (xa:Int):Prop:=
 (cf 310 #[uQ xa] h λa b=>asInt .i64 a λa=>K (iQ a) b)
theorem call308 {xa:Int} (H:F308 K h xa):A5 Tryz.prog 308 #[(uQ xa)] h K:=
 cQ Tryz.func308 H
def F310 (K:kQ) (h:A2) (xa:Int):Prop:=
 (O0 λI0=>(D0 (decide (xa >= 4294967296)) (((0:Int)<=32)/\(I0 [uQ (Int.fdiv xa 4294967296),iQ 32] h)) (I0 [uQ xa,iQ 0] h))/\(∀(a b:Value) (c:F8) (c:A2),(I0 [a,b] c)->(O0 λI5=>(asInt .u64 a λd=>D0 (decide (d >= 65536)) (asInt .u64 a λd=>((0:Int)<=16)/\(asInt .i64 b λe=>I5 [uQ (Int.fdiv d 65536),iQ (IntKind.wrap .i64 (e+16))] c)) (I5 [a,b] c))/\(∀(a b:Value) (c:F8) (c:A2),(I5 [a,b] c)->(O0 λI13=>(asInt .u64 a λd=>D0 (decide (d >= 256)) (asInt .u64 a λd=>((0:Int)<=8)/\(asInt .i64 b λe=>I13 [uQ (Int.fdiv d 256),iQ (IntKind.wrap .i64 (e+8))] c)) (I13 [a,b] c))/\(∀(a b:Value) (c:F8) (c:A2),(I13 [a,b] c)->(asInt .i64 b λb=>asInt .u64 a λa=>((0:Int)<=(IntKind.wrap .u8 a))/\((((IntKind.wrap .u8 a):Int) < 256)/\(K (iQ (IntKind.wrap .i64 (b+(IntKind.wrap .i64 (IG (⟨#[0,1,2,2,3,3,3,3,4,4,4,4,4,4,4,4,5,5,5,5,5,5,5,5,5,5,5,5,5,5,5,5,6,6,6,6,6,6,6,6,6,6,6,6,6,6,6,6,6,6,6,6,6,6,6,6,6,6,6,6,6,6,6,6,7,7,7,7,7,7,7,7,7,7,7,7,7,7,7,7,7,7,7,7,7,7,7,7,7,7,7,7,7,7,7,7,7,7,7,7,7,7,7,7,7,7,7,7,7,7,7,7,7,7,7,7,7,7,7,7,7,7,7,7,7,7,7,7,8,8,8,8,8,8,8,8,8,8,8,8,8,8,8,8,8,8,8,8,8,8,8,8,8,8,8,8,8,8,8,8,8,8,8,8,8,8,8,8,8,8,8,8,8,8,8,8,8,8,8,8,8,8,8,8,8,8,8,8,8,8,8,8,8,8,8,8,8,8,8,8,8,8,8,8,8,8,8,8,8,8,8,8,8,8,8,8,8,8,8,8,8,8,8,8,8,8,8,8,8,8,8,8,8,8,8,8,8,8,8,8,8,8,8,8,8,8,8,8,8,8,8,8,8,8,8,8]⟩ : ByteArray) (IntKind.wrap .u8 a).toNat))))) c)))))))))
theorem call310 {xa:Int} (H:F310 K h xa):A5 Tryz.prog 310 #[(uQ xa)] h K:=
 cQ Tryz.func310 H
end
end Go.Proofs.YtahpbclnkofhfaaGreat
section
namespace Go.Proofs.YtahpbclnkofhfaaGreat.Mod
def J2 (w:Int):Int:=w / 2 % 65536
def Y9 (w:Int):Bool:=w % 2 == 1
def Vi (w:Int):Int:=w / 131072
def b2i (b:Bool):Int:=if b then 1 else 0
def Y0 (ptr:Int) (mark:Bool) (ver:Int):Int:=ver*131072+ptr*2+b2i mark
def CC (w ptr:Int) (mark:Bool):Int:=Y0 (ptr % 65536) mark ((Vi w+1) % 140737488355328)
def XP (w:Int):Int:=CC w (J2 w) true
def u64 (n:Int):Int:=n % 18446744073709551616
def F5 (n:Int):Int:=if n % 18446744073709551616 < 9223372036854775808 then n % 18446744073709551616 else n % 18446744073709551616 - 18446744073709551616
def u32 (n:Int):Int:=n % 4294967296
structure Cf where
 algo:Int
 threads:Int
 nodes:Int
 level:Int
 batch:Int
 probes:Int
 scan:Int
structure Pl where
 c:Cf
 slots:Int
 width:Int
 sent:Int
 hazards:Int
 links:Int
 nodes:Int
 tree:Int
 size:Int
def D5 (c:Cf):Pl:=
 let m:=c.algo == 0
 let slots:=if m then 2 else 2*c.level+2
 let width:=if m then 3 else 5+c.level
 let links:=8+c.threads*slots
 let nodes:=links+c.nodes
 let tree:=nodes+c.nodes*width
 ⟨c,slots,width,if m then 0 else 2,8,links,nodes,tree,tree+(if m then 2 ^ c.level.toNat else 0)⟩
def Fv (c:Cf):Bool:=decide (0<=c.algo/\c.algo<=2/\1<=c.threads/\c.threads<=6/\1<=c.nodes/\c.nodes<=64/\1<=c.level/\c.level<=6/\1<=c.batch/\c.batch<=16/\1<=c.probes/\c.probes<=16/\1<=c.scan/\c.scan<=64/\(if c.algo=0 then 0 else 2) < c.nodes)
def Pl.haz (p:Pl) (t s:Int):Int:=if 0<=t/\t < p.c.threads/\0<=s/\s < p.slots then p.hazards+t*p.slots+s else -1
def Pl.link (p:Pl) (n:Int):Int:=if 1<=n/\n<=p.c.nodes then p.links+n - 1 else -1
def Pl.node (p:Pl) (n f:Int):Int:=if 1<=n/\n<=p.c.nodes/\0<=f/\f < p.width then p.nodes+(n - 1)*p.width+f else -1
def Pl.at (p:Pl) (pos:Int):Int:=if 0<=pos/\pos < p.size - p.tree then p.tree+pos else -1
def Pl.within (p:Pl) (a:Int):Option Int:=if p.nodes<=a/\a < p.tree then some ((a - p.nodes) / p.width+1) else none
structure M6 where
 fn:Int
 pc:Int
 r:List Int
structure Thr where
 fr:List M6
 ret:List Int
 pred:List Int
 succ:List Int
 word:List Int
 retired:List Int
 found:List Int
structure Gh where
 tags:List Int
 kind:Int
 node:Int
structure Acc where
 kind:Int
 a:Int
 b:Int
 done:Bool
structure Mm where
 w:List Int
 st:Int
 wt:Bool
 lg:List Acc
structure Mac where
 p:Pl
 mm:Mm
 g:Option Gh
 b:List Int
 used:Int
 th:List Thr
 acted:Bool
 bad:Bool
def Gh.fault (g:Gh) (k i:Int):Gh:=if g.kind=0/\g.node=0 then { g with kind:=k,node:=i } else g
def Gh.turn (g:Gh) (i from_ to_ k:Int):Gh:=
 if i < 1\/g.tags.length < i then g.fault 5 i else if g.tags.getD (i - 1).toNat 0≠from_ then g.fault k i else { g with tags:=g.tags.set (i - 1).toNat to_ }
def Gh.touch (g:Gh) (i:Int):Gh:=if i < 1\/g.tags.length < i then g.fault 5 i else if g.tags.getD (i - 1).toNat 0=0 then g.fault 4 i else g
def XQ (nodes live:Int):Gh:=⟨(List.range nodes.toNat).map λ(i:Nat)=>if (i:Int) < live then 1 else 0,0,0⟩
def Mac.gh (m:Mac) (f:Gh->Gh):Mac:={ m with g:=m.g.map f }
def Mm.ok (m:Mm) (a:Int):Bool:=decide (0<=a/\a < m.w.length)
def Mm.get (m:Mm) (a:Int):Int:=m.w.getD a.toNat 0
def Mm.put (m:Mm) (a v:Int):Mm:={ m with w:=m.w.set a.toNat v }
def Mm.tick (m:Mm) (k a b:Int) (d:Bool):Mm:={ m with st:=m.st+1,lg:=if m.wt then m.lg ++ [⟨k,a,b,d⟩] else m.lg }
def Mm.store (m:Mm) (a v:Int):Mm:=if m.ok a then (m.tick 1 a (-1) true).put a v else m
def Mm.cas (m:Mm) (a o n:Int):Mm:=if m.get a=o then (m.put a n).tick 2 a (-1) true else m.tick 2 a (-1) false
def Mm.dcas (m:Mm) (a o n b p q:Int):Mm:=if m.get a=o/\m.get b=p then ((m.put a n).put b q).tick 4 a b true else m.tick 4 a b false
def Mm.dcss (m:Mm) (a o n b p:Int):Mm:=if m.get a=o/\m.get b=p then (m.put a n).tick 5 a b true else m.tick 5 a b false
def Mac.setM (m:Mac) (x:Mm):Mac:={ m with mm:=x }
def Mac.fail (m:Mac):Mac:={ m with bad:=true }
def Mac.touch (m:Mac) (a:Int):Mac:=match m.p.within a with
 | some n=>{ m with acted:=true,g:=m.g.map λg=>g.touch n }
 | none=>{ m with acted:=true }
def Mac.load (m:Mac) (a:Int):Int × Mac:=let m:=m.touch a;if m.mm.ok a then (m.mm.get a,m.setM (m.mm.tick 0 a (-1) false)) else (0,m.fail)
def Mac.store (m:Mac) (a v:Int):Mac:=let m:=m.touch a;if m.mm.ok a then m.setM ((m.mm.tick 1 a (-1) true).put a v) else m.fail
def Mac.cas (m:Mac) (a o n:Int):Bool × Mac:=let m:=m.touch a;if m.mm.ok a then (decide (m.mm.get a=o),m.setM (m.mm.cas a o n)) else (false,m.fail)
def Mac.add (m:Mac) (a d:Int):Int × Mac:=let m:=m.touch a;if m.mm.ok a then (m.mm.get a,m.setM ((m.mm.tick 3 a (-1) true).put a (u64 (m.mm.get a+d)))) else (0,m.fail)
def Mac.dcas (m:Mac) (a o n b p q:Int):Bool × Mac:=
 let m:=(m.touch a).touch b
 if m.mm.ok a=true/\m.mm.ok b=true/\a≠b then (decide (m.mm.get a=o/\m.mm.get b=p),m.setM (m.mm.dcas a o n b p q)) else (false,m.fail)
def Mac.dcss (m:Mac) (a o n b p:Int):Bool × Mac:=
 let m:=(m.touch a).touch b
 if m.mm.ok a=true/\m.mm.ok b=true then (decide (m.mm.get a=o/\m.mm.get b=p),m.setM (m.mm.dcss a o n b p)) else (false,m.fail)
def Mac.fault (m:Mac):Bool:=m.bad || match m.g with | some g=>decide (g.kind≠0\/g.node≠0) | none=>false
def Mac.take (m:Mac):Int × Mac:=(if m.used+1 > m.b.length then 0 else m.b.getD m.used.toNat 0,{ m with used:=m.used+1 })
def Mac.next (m:Mac) (n:Int):Int × Mac:=if n < 1 then (0,m) else let (c,m):=m.take;(c % n,m)
def Ur (c:Int):Nat->Nat->Int
 | 0,i=>i
 | k+1,i=>if c / 2 ^ i % 2=0 then i+1 else Ur c k (i+1)
def Mac.lvl (m:Mac) (most:Int):Int × Mac:=if most < 1 then (1,m) else let (c,m):=m.take;(Ur c most.toNat 0,m)
def lay (p:Pl):Mm:=
 let c:=p.c
 let m0:Mm:=⟨List.replicate p.size.toNat 0,0,false,[]⟩
 let first:=p.sent+1
 let m1:=m0.store 0 (Y0 first false 0)
 let m2:=(List.range (c.nodes - first).toNat).foldl (λ(m:Mm) (i:Nat)=>m.store (p.link (first+i)) (first+i+1)) m1
 let m3:=m2.store 2 1
 if c.algo=0 then m3 else
  let m4:=m3.store (p.node 1 3) c.level
  let m5:=m4.store (p.node 2 0) 18446744073709551615
  (List.range c.level.toNat).foldl (λ(m:Mm) (i:Nat)=>m.store (p.node 1 (5+i)) (Y0 2 false 0)) m5
def Ay (c:Cf):Thr:=⟨[],[0,0,0],List.replicate c.level.toNat 0,List.replicate c.level.toNat 0,List.replicate c.level.toNat 0,[],[]⟩
def J5 (c:Cf) (b:List Int) (gh:Bool):Mac:=
 let p:=D5 c
 ⟨p,lay p,if gh then some (XQ c.nodes p.sent) else none,b,0,List.replicate c.threads.toNat (Ay c),false,false⟩
structure A9 where
 m:Mac
 t:Thr
 id:Int
def Ad (n:Nat) (l:List Int):List Int:=(l ++ List.replicate n 0).take n
def Thr.push (t:Thr) (fn:Int) (r:List Int):Thr:={ t with fr:=t.fr ++ [⟨fn,0,Ad 10 r⟩] }
def Thr.pop (t:Thr) (r:List Int):Thr:=if t.fr = [] then t else { t with fr:=t.fr.dropLast,ret:=Ad 3 r }
def dfF:M6:=⟨0,0,[]⟩
def Thr.top (t:Thr):M6:=t.fr.getLast?.getD dfF
def Thr.setTop (t:Thr) (f:M6):Thr:={ t with fr:=t.fr.dropLast ++ [f] }
def M6.g (f:M6) (i:Nat):Int:=f.r.getD i 0
def M6.s (f:M6) (i:Nat) (v:Int):M6:={ f with r:=f.r.set i v }
def M6.at (f:M6) (pc:Int):M6:={ f with pc:=pc }
def A9.f (x:A9):M6:=x.t.top
def A9.setF (x:A9) (f:M6):A9:={ x with t:=x.t.setTop f }
def A9.pc (x:A9) (pc:Int):A9:=x.setF (x.f.at pc)
def A9.s (x:A9) (i:Nat) (v:Int):A9:=x.setF (x.f.s i v)
def A9.push (x:A9) (fn:Int) (r:List Int):A9:={ x with t:=x.t.push fn r }
def A9.pop (x:A9) (r:List Int):A9:={ x with t:=x.t.pop r }
def A9.call (x:A9) (pc fn:Int) (r:List Int):A9:=(x.pc pc).push fn r
def A9.fo (x:A9) (l:List Int):A9:={ x with t:={ x.t with found:=l } }
def A9.re (x:A9) (l:List Int):A9:={ x with t:={ x.t with retired:=l } }
def A9.setPl (x:A9) (p s w:List Int):A9:={ x with t:={ x.t with pred:=p,succ:=s,word:=w } }
def A9.load (x:A9) (a:Int):Int × A9:=let (v,m):=x.m.load a;(v,{ x with m:=m })
def A9.store (x:A9) (a v:Int):A9:={ x with m:=x.m.store a v }
def A9.cas (x:A9) (a o n:Int):Bool × A9:=let (v,m):=x.m.cas a o n;(v,{ x with m:=m })
def A9.add (x:A9) (a d:Int):Int × A9:=let (v,m):=x.m.add a d;(v,{ x with m:=m })
def A9.gh (x:A9) (f:Gh->Gh):A9:={ x with m:=x.m.gh f }
def alloc (x:A9):A9:=
 let f:=x.f
 let node:=J2 (f.g 0)
 if f.pc=0 then
  let (v,x):=x.load 0
  let x:=(x.s 0 v).pc 1
  if J2 v=0 then x.pop [0] else x
 else if f.pc=1 then
  let (v,x):=x.load (x.m.p.link node)
  (x.s 1 v).pc 2
 else
  let x:=x.pc 0
  let (ok,x):=x.cas 0 (f.g 0) (CC (f.g 0) (F5 (f.g 1)) false)
  if ok then (x.gh λg=>g.turn node 0 1 1).pop [node] else x
def Af (x:A9):A9:=
 let f:=x.f
 let node:=F5 (f.g 0)
 if f.pc=0 then
  let (v,x):=x.load 0
  (x.s 1 v).pc 1
 else if f.pc=1 then
  (x.store (x.m.p.link node) (J2 (f.g 1))).pc 2
 else
  let x:=x.pc 0
  let (ok,x):=x.cas 0 (f.g 1) (CC (f.g 1) node false)
  if ok then (x.gh λg=>g.turn node 2 0 3).pop [u64 node] else x
def Ag (x:A9):A9:=if x.t.fr = [] then x else if x.f.fn=1 then alloc x else if x.f.fn=2 then Af x else x.pop []
def Ah (x:A9):A9:=
 let f:=x.f
 let a:=F5 (f.g 1)
 if f.pc=0 then
  let (v,x):=x.load a
  let x:=(x.s 2 v).pc 1
  if J2 v=0 then x.pop [v] else x
 else if f.pc=1 then
  (x.store (x.m.p.haz x.id (F5 (f.g 0))) (J2 (f.g 2))).pc 2
 else
  let (v,x):=x.load a
  if v=f.g 2\/J2 v=0 then x.pop [v] else (x.s 2 v).pc 1
def Ig (x:A9):A9:=
 let f:=x.f
 if f.pc >= x.m.p.slots then x.pop [] else (x.store (x.m.p.haz x.id f.pc) 0).pc (f.pc+1)
def BJ (x:A9):A9:=
 let node:=F5 (x.f.g 0)
 let x:=x.gh λg=>g.turn node 1 2 2
 let x:=(x.re (x.t.retired ++ [node])).pop []
 if (x.t.retired.length:Int) >= x.m.p.c.scan then x.push 6 [] else x
def BK (x:A9) (all:Int):A9:=
 if x.f.pc=all then ((x.re (x.t.retired.filter λn=>x.t.found.contains n)).fo (x.t.retired.filter λn=>!x.t.found.contains n)).pc (x.f.pc+1) else x
def Fw (x:A9):A9:=match x.t.found with
 | []=>x.pop []
 | n :: rest=>(x.fo rest).push 2 [u64 n]
def scan (x:A9):A9:=
 let p:=x.m.p
 let all:=p.slots*p.c.threads
 let x:=if x.f.pc=0 then x.fo [] else x
 if x.f.pc < all then
  let (v,y):=x.load (p.haz (x.f.pc / p.slots) (x.f.pc % p.slots))
  (y.fo (y.t.found ++ [F5 v])).pc (x.f.pc+1)
 else Fw (BK x all)
def U1 (x:A9):A9:=
 if x.t.fr = [] then x else if x.f.fn=3 then Ah x else if x.f.fn=4 then Ig x else if x.f.fn=5 then BJ x else if x.f.fn=6 then scan x else Ag x
def bits (d:A9->A9):Nat->A9->Option A9
 | 0,x=>if x.m.acted || x.t.fr.isEmpty then some x else none
 | n+1,x=>if x.m.acted || x.t.fr.isEmpty then some x else bits d n (d x)
def Mac.step (m:Mac) (i:Int) (d:A9->A9) (n:Nat):Option (Bool × Mac):=
 if i < 0\/m.th.length<=i then some (false,m) else
  match bits d n ⟨{ m with acted:=false },m.th.getD i.toNat (Ay m.p.c),i⟩ with
  | none=>none
  | some x=>some (!x.t.fr.isEmpty,{ x.m with th:=x.m.th.set i.toNat x.t })
end Go.Proofs.YtahpbclnkofhfaaGreat.Mod
end
section
namespace Go.Proofs.YtahpbclnkofhfaaGreat.Mod
def Ms (n:Int):Bool:=decide (1<=n/\n<=1048576)
def Bj (n:Int):Int:=if Ms n then (Nat.log2 n.toNat:Nat) else 0
def R6 (d:Int):Int:=if d < 1\/d > 20 then 0 else 2 ^ (d - 1).toNat
def Vj (d draw:Int):Int:=let n:=R6 d;if n=0 then 0 else n+(max draw 0) % n
def SQ7 (n l:Int):Int:=if !Ms n || decide (l < 0) || decide (Bj n < l) then 0 else n / 2 ^ (Bj n - l).toNat
def OD (n d:Int):Bool:=Ms n && decide (n < R6 d)
structure Sp where
 lo:Int
 hi:Int
def Sp4 (n:Int):Sp:=⟨0,max n 1 - 1⟩
def Sp.done (s:Sp):Bool:=decide (s.lo >= s.hi)
def Ih (n:Int):Int:=max 0 (min n 1073741824)
def Sp.mid (s:Sp):Int:=(Ih s.lo+Ih s.hi) / 2
def Sp.cut (s:Sp) (is:Bool):Sp:=if s.done then s else if is then ⟨s.lo,s.mid⟩ else ⟨s.mid+1,s.hi⟩
def A9.at (x:A9) (place:Int):Int:=x.m.p.at (F5 place)
def A9.nodeW (x:A9) (w field:Int):Int:=x.m.p.node (J2 w) field
def A9.swing (x:A9) (place w ptr:Int) (dirty:Bool):Bool × A9:=x.cas (x.at place) w (CC w ptr dirty)
def A9.fin (x:A9) (k key val:Int):A9:=(((x.s 7 k).s 8 key).s 9 val).call 90 4 []
def A9.ret (x:A9) (i:Nat):Int:=x.t.ret.getD i 0
def DT (x:A9):A9:=
 if x.f.pc=0 then x.call 1 3 [1,u64 (x.at (x.f.g 0))]
 else
  let w:=x.ret 0
  if J2 w=0 then x.pop [w,1099511627776]
  else let (v,x):=x.load (x.nodeW w 0);x.pop [w,v]
def GV (x:A9):Sp:=⟨x.f.g 6 / 256,x.f.g 6 % 256⟩
def EJ (x:A9) (s:Sp):A9:=x.s 6 (((Nat.lor (u64 (u64 s.lo*256)).toNat (u64 s.hi).toNat:Nat)):Int)
def Jw (x:A9) (l:Int):Int:=u64 (SQ7 (F5 (x.f.g 5)) l)
def DU (x:A9):A9:=
 let f:=x.f
 let v:=x.ret 0
 let n:=x.t.retired.length
 if f.pc=0 then x.call 1 1 []
 else if f.pc=1 then
  let x:=x.s 2 v
  if v≠0 then x.pc 2
  else if f.g 3=0/\n > 0 then (x.s 3 1).call 0 6 []
  else x.fin 1 0 0
 else if f.pc=2 then (x.store (x.m.p.node (F5 (f.g 2)) 0) (f.g 0)).pc 3
 else ((x.store (x.m.p.node (F5 (f.g 2)) 1) (f.g 1)).s 3 0).pc 4
def X0 (x:A9):A9:=
 let f:=x.f
 let p:=x.m.p
 if f.pc=4 then
  let (v,x):=x.load 2
  let x:=x.s 4 v
  let d:=F5 v
  let (n,m):=x.m.next (R6 d)
  (({ x with m:=m }:A9).s 5 (u64 (Vj d n))).pc 5
 else if f.pc=5 then x.call 6 10 [f.g 5]
 else if f.pc=6 then
  if x.ret 1 >= f.g 0 then (EJ x (Sp4 (F5 (f.g 4)))).pc 8
  else
   let x:=(x.s 3 (u64 (f.g 3+1))).pc 4
   if F5 (u64 (f.g 3+1)) >= p.c.probes then x.pc 7 else x
 else
  if F5 (f.g 4) >= p.c.level then (x.fin 1 0 0).push 5 [f.g 2]
  else let (_,x):=x.cas 2 (f.g 4) (u64 (f.g 4+1));(x.s 3 0).pc 4
def DV (x:A9):A9:=
 let s:=GV x
 if x.f.pc=8 then (if s.done then x.pc 10 else x.call 9 10 [Jw x s.mid])
 else (EJ x (s.cut (decide (x.ret 1 >= x.f.g 0)))).pc 8
def GW (x:A9) (ok:Bool):A9:=if ok then x.fin 0 0 0 else (x.s 3 0).pc 4
def Ii (x:A9):A9:=
 let f:=x.f
 let place:=Jw x (GV x).lo
 let w:=f.g 3
 let v:=x.ret 0
 if f.pc=10 then x.call 11 10 [place]
 else if f.pc=11 then
  if x.ret 1 < f.g 0 then (x.s 3 0).pc 4
  else
   let x:=((x.s 3 v).store (x.m.p.node (F5 (f.g 2)) 2) (J2 v)).pc 13
   if place=1 then x.pc 12 else x
 else if f.pc=12 then let (ok,x):=x.swing 1 w (F5 (f.g 2)) (Y9 w);GW x ok
 else if f.pc=13 then x.call 14 10 [place / 2]
 else if f.pc=14 then
  if x.ret 1 > f.g 0 then GW x false
  else
   let (ok,m):=x.m.dcss (x.at place) w (CC w (F5 (f.g 2)) (Y9 w)) (x.at (place / 2)) (x.ret 0)
   GW { x with m:=m } ok
 else x
def DW (x:A9):A9:=if x.f.pc<=3 then DU x else if x.f.pc<=7 then X0 x else if x.f.pc<=9 then DV x else Ii x
def CS (x:A9):A9:=
 let f:=x.f
 let w:=f.g 0
 if f.pc=0 then x.call 1 3 [0,u64 (x.at 1)]
 else if f.pc=1 then
  let v:=x.ret 0
  let x:=(x.s 0 v).pc 2
  if Y9 v then x.call 0 14 [1] else if J2 v=0 then x.fin 3 0 0 else x
 else if f.pc=2 then let (v,x):=x.load (x.nodeW w 0);(x.s 1 v).pc 3
 else if f.pc=3 then
  let (v,x):=x.load (x.nodeW w 1)
  let x:=(x.s 2 v).pc 4
  if f.fn=13 then x.fin 2 (f.g 1) v else x
 else x
def CT (x:A9):A9:=
 let f:=x.f
 let w:=f.g 0
 if f.pc=4 then let (v,x):=x.load (x.nodeW w 2);(x.s 3 v).pc 5
 else if f.pc=5 then
  let x:=x.pc 0
  let (ok,x):=x.swing 1 w (F5 (f.g 3)) true
  if ok then x.call 6 14 [1] else x
 else if f.pc=6 then x.call 7 5 [u64 (J2 w)]
 else if f.pc=7 then x.fin 2 (f.g 1) (f.g 2)
 else CS x
def Dq (x:A9):A9:=
 let w:=x.f.g 1
 let place:=x.f.g 0
 let x:=x.pc 0
 let (ok,x):=x.swing place w (J2 w) false
 if ok then x.pop [] else x
def DY (x:A9):A9:=
 let f:=x.f
 if f.pc=0 then x.call 1 10 [f.g 0]
 else if f.pc=1 then
  let v:=x.ret 0
  let x:=((x.s 1 v).s 2 (x.ret 1)).pc 2
  if Y9 v then x else x.pop []
 else if f.pc=2 then
  let (v,x):=(x.pc 3).load 2
  if OD (F5 (f.g 0)) (F5 v) then x.pc 4 else x
 else if f.pc=3 then Dq x
 else x
def Z0 (x:A9) (at_:Nat) (next place:Int):A9:=
 let v:=x.ret 0
 let x:=((x.s at_ v).s (at_+1) (x.ret 1)).pc next
 if Y9 v then x.call 0 14 [place] else x
def Ds (x:A9) (at_:Nat) (place:Int):A9:=
 let f:=x.f
 let own:=f.g 1
 let low:=f.g at_
 let x:=x.pc 0
 let (ok,m):=x.m.dcas (x.at (f.g 0)) own (CC own (J2 low) false) (x.at place) low (CC low (J2 own) true)
 let x:A9:={ x with m:=m }
 if ok then x.s 0 place else x
def DZ (x:A9):A9:=
 let f:=x.f
 let left:=u64 (2*f.g 0)
 if f.pc=4 then x.call 5 10 [left]
 else if f.pc=5 then (if Y9 (x.ret 0) then Z0 x 3 6 left else (Z0 x 3 6 left).call 6 10 [u64 (left+1)])
 else if f.pc=6 then Z0 x 5 7 (u64 (left+1))
 else if f.pc=7 then
  if f.g 4<=f.g 6/\f.g 4 < f.g 2 then Ds x 3 left
  else if f.g 6 < f.g 4/\f.g 6 < f.g 2 then Ds x 5 (u64 (left+1))
  else Dq x
 else DY x
def N7 (x:A9):A9:=
 if x.t.fr = [] then x else
 let f:=x.f
 if f.pc=90/\11<=f.fn/\f.fn<=13 then x.pop [f.g 7,f.g 8,f.g 9]
 else if f.fn=10 then DT x
 else if f.fn=11 then DW x
 else if f.fn=12\/f.fn=13 then CT x
 else if f.fn=14 then DZ x
 else U1 x
end Go.Proofs.YtahpbclnkofhfaaGreat.Mod
end
section
namespace Go.Proofs.YtahpbclnkofhfaaGreat.Mod
def R5 (key ticket:Int):Int:=u32 key*4294967296+u32 ticket
def EZ (n:Int):Int:=n / 4294967296
def GF (v:Int) (gone:Bool):Int:=u32 v*2+b2i gone
def Hs (w:Int):Int:=u32 (w / 2)
def XR (w:Int):Bool:=w % 2 == 1
def GG (w:Int):Int:=if w % 2=1 then w else w+1
def A9.nlink (x:A9) (node row:Int):Int:=x.m.p.node (F5 node) (5+F5 row)
def X1 (x:A9):A9:=
 let f:=x.f
 let i:=(F5 (f.g 1)).toNat
 let x:=x.setPl (x.t.pred.set i (f.g 2)) (x.t.succ.set i (J2 (f.g 3))) (x.t.word.set i (f.g 3))
 if i=0 then x.pop [] else (x.s 1 (u64 (f.g 1 - 1))).pc 1
def Ce (x:A9) (w:Int):A9:=
 let x:=x.s 3 w
 if Y9 w then x.pc 8 else if J2 w=2 then X1 x else x.pc 3
def Ea (x:A9):A9:=
 let f:=x.f
 let curr:=J2 (f.g 3)
 if f.pc=3 then (x.store (x.m.p.haz x.id (2*F5 (f.g 1)+1)) curr).pc 4
 else if f.pc=4 then
  let (w,x):=x.load (x.nlink (f.g 2) (f.g 1))
  if w≠f.g 3 then Ce x w else x.pc 5
 else if f.pc=5 then
  let (w,x):=x.load (x.nlink curr (f.g 1))
  let x:=(x.s 4 w).pc 7
  if Y9 w then x.pc 6 else x
 else if f.pc=6 then
  let w:=CC (f.g 3) (J2 (f.g 4)) false
  let (ok,x):=x.cas (x.nlink (f.g 2) (f.g 1)) (f.g 3) w
  if ok then Ce x w else x.pc 2
 else if f.pc=7 then
  let (v,x):=x.load (x.m.p.node curr 0)
  if v >= f.g 0 then X1 x else (x.s 2 curr).pc 1
 else x
def Eb (x:A9):A9:=
 let f:=x.f
 if f.pc=0 then ((x.s 2 1).s 1 (u64 (x.m.p.c.level - 1))).pc 1
 else if f.pc=1 then (x.store (x.m.p.haz x.id (2*F5 (f.g 1))) (f.g 2)).pc 2
 else if f.pc=2 then let (w,x):=x.load (x.nlink (f.g 2) (f.g 1));Ce x w
 else if f.pc=8 then let (_,x):=x.load (x.m.p.node (F5 (f.g 2)) 4);x.pc 0
 else Ea x
def BL (x:A9):A9:=if x.t.fr = [] then x else if x.f.fn=20 then Eb x else U1 x
def A9.na (x:A9) (node field:Int):Int:=x.m.p.node (F5 node) field
def A9.swingA (x:A9) (a w to_:Int):Bool × A9:=x.cas a w (CC w (F5 to_) false)
def A9.drop1 (x:A9) (node:Int):Bool × A9:=let (v,x):=x.add (x.na node 2) 18446744073709551615;(v == 1,x)
def BM (x:A9):A9:=
 let f:=x.f
 let v:=x.ret 0
 let n:=x.t.retired.length
 if f.pc=0 then x.call 1 1 []
 else if f.pc=1 then
  let x:=x.s 2 v
  if v≠0 then x.pc 2
  else if f.g 5=0/\n > 0 then (x.s 5 1).call 0 6 []
  else x.fin 1 0 0
 else if f.pc=2 then
  let (v,x):=x.add 3 1
  let x:=x.s 4 (R5 (u32 (f.g 0)) (u32 v))
  let (l,m):=x.m.lvl x.m.p.c.level
  (({ x with m:=m }:A9).s 3 (u64 l)).pc 3
 else x
def EK (x:A9):A9:=
 let f:=x.f
 let n:=f.g 2
 let x:=if f.pc=3 then x.store (x.na n 0) (f.g 4) else if f.pc=4 then x.store (x.na n 1) (GF (u32 (f.g 1)) false)
  else if f.pc=5 then x.store (x.na n 2) 2 else if f.pc=6 then x.store (x.na n 3) (f.g 3) else if f.pc=7 then x.store (x.na n 4) 0 else x
 x.pc (f.pc+1)
def Ai (x:A9):A9:=
 let f:=x.f
 let n:=f.g 2
 let row:=f.g 5
 if f.pc=8 then (x.s 5 0).call 9 20 [f.g 4]
 else if f.pc=9 then let (w,x):=x.load (x.nlink n row);(x.s 6 w).pc 10
 else if f.pc=10 then
  let x:=x.store (x.nlink n row) (CC (f.g 6) (F5 (x.t.succ.getD row.toNat 0)) false)
  let x:=(x.s 5 (u64 (row+1))).pc 9
  if u64 (row+1) >= f.g 3 then x.pc 11 else x
 else if f.pc=11 then
  let x:=(x.s 5 1).pc 8
  let (ok,x):=x.swingA (x.nlink (x.t.pred.getD 0 0) 0) (x.t.word.getD 0 0) n
  if ok then x.pc 12 else x
 else x
def Aj (x:A9):A9:=
 let f:=x.f
 let n:=f.g 2
 let row:=f.g 5
 let su:=x.t.succ.getD row.toNat 0
 if f.pc=12 then
  if row >= f.g 3 then x.pc 15
  else
   let (w,x):=x.load (x.nlink n row)
   let x:=x.s 6 w
   if Y9 w then x.pc 15 else if J2 w≠su then x.pc 13 else x.pc 14
 else if f.pc=13 then let (_,x):=x.swingA (x.nlink n row) (f.g 6) su;x.pc 12
 else if f.pc=14 then
  let (ok,x):=x.swingA (x.nlink (x.t.pred.getD row.toNat 0) row) (x.t.word.getD row.toNat 0) n
  if ok then (x.s 5 (u64 (row+1))).pc 12 else x.call 12 20 [f.g 4]
 else x
def Ak (x:A9):A9:=
 let f:=x.f
 if f.pc=15 then
  let (z,x):=x.drop1 (f.g 2)
  if z then x.call 17 20 [f.g 4] else x.pc 16
 else if f.pc=17 then x.call 16 5 [f.g 2]
 else x.fin 0 0 0
def BN (x:A9):A9:=if x.f.pc<=2 then BM x else if x.f.pc<=7 then EK x else if x.f.pc<=11 then Ai x else if x.f.pc<=14 then Aj x else Ak x
def AS (x:A9):A9:=x.fin 2 (EZ (x.f.g 2)) (Hs (x.f.g 3))
def Az (x:A9):A9:=
 let f:=x.f
 if f.pc=0 then (x.s 6 0).call 1 3 [u64 (x.m.p.slots - 2),u64 (x.nlink 1 0)]
 else if f.pc=1 then
  let v:=x.ret 0
  let x:=((x.s 0 v).s 1 (J2 v)).pc 2
  if J2 v=2 then x.fin 3 0 0 else x
 else if f.pc=2 then
  let (v,x):=x.load (x.na (f.g 1) 1)
  let x:=(x.s 3 v).pc 3
  if XR v then x.pc 6 else x
 else if f.pc=3 then
  let (v,x):=x.load (x.na (f.g 1) 0)
  let x:=(x.s 2 v).pc 4
  if f.fn=23 then AS x else x
 else x
def AA (x:A9):A9:=
 let f:=x.f
 if f.pc=4 then
  let x:=x.pc 0
  let (ok,x):=x.cas (x.na (f.g 1) 1) (f.g 3) (GG (f.g 3))
  if ok then (x.s 6 1).pc 5 else x
 else if f.pc=5 then (x.store (x.na (f.g 1) 4) 1).pc 6
 else if f.pc=6 then let (v,x):=x.load (x.na (f.g 1) 3);(x.s 4 v).pc 7
 else x
def AC (x:A9):A9:=
 let f:=x.f
 if f.pc=7 then
  if f.g 4=0 then (if f.g 6=1 then x.pc 11 else x.pc 9)
  else
   let (w,x):=x.load (x.nlink (f.g 1) (f.g 4 - 1))
   let x:=(x.s 5 w).pc 8
   if Y9 w then (x.s 4 (u64 (f.g 4 - 1))).pc 7 else x
 else if f.pc=8 then
  let x:=x.pc 7
  let (ok,x):=x.cas (x.nlink (f.g 1) (f.g 4 - 1)) (f.g 5) (XP (f.g 5))
  if ok then x.s 4 (u64 (f.g 4 - 1)) else x
 else x
def X2 (x:A9):A9:=
 let f:=x.f
 if f.pc=9 then let (v,x):=x.load (x.nlink (f.g 1) 0);(x.s 5 v).pc 10
 else if f.pc=10 then let (_,x):=x.swingA (x.nlink 1 0) (f.g 0) (J2 (f.g 5));x.pc 0
 else if f.pc=11 then
  let (z,x):=x.drop1 (f.g 1)
  if z then x.call 12 20 [f.g 2] else x.pc 13
 else if f.pc=12 then x.call 13 5 [f.g 1]
 else AS x
def BO (x:A9):A9:=if x.f.pc<=3 then Az x else if x.f.pc<=6 then AA x else if x.f.pc<=8 then AC x else X2 x
def R3 (x:A9):A9:=
 if x.t.fr = [] then x else
 let f:=x.f
 if f.fn < 21\/23 < f.fn then BL x
 else if f.pc=90 then x.pop [f.g 7,f.g 8,f.g 9]
 else if f.fn=21 then BN x
 else BO x
end Go.Proofs.YtahpbclnkofhfaaGreat.Mod
end
