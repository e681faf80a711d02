/- Part 6 of what the proofs of this seat rest on: see the last text of the claim. -/
import Derived.Test.YtahpbclnkofhfaaGreatQa2663a0ff759
import Derived.WalkKit
import Derived.ProofKit
import Derived.OpenShut
import Derived.ShutString
import Derived.ChangeOld
import Derived.Below
import Derived.Carry
import Derived.SizedLaws
import Derived.Test.YtahpbclnkofhfaaGreatProg
set_option linter.unusedSimpArgs false
set_option linter.unusedVariables false
set_option linter.ambiguousOpen false
set_option maxRecDepth 20000
namespace Go.Proofs.YtahpbclnkofhfaaGreat
section
open Go.ChangeShapes Go.WideShapes Go.ChangeAt Go.RowKit
theorem Zg1:ownKnob Tryz.prog.godebug=none:=by kernel_rfl
theorem Yz1:laidOutB Tryz.prog=true:=by kernel_rfl
theorem Zg2 {W W':World} (h:Old W.heap.size W.heap W'.heap) {p:MemPlace} (hp:p.block < W.heap.size):W.sameAt W' p:=by
 cases p with
 | cell b o=>exact World.cell?_of_block (w:=W) (h.2 b hp)
 | map b=>exact h.2 b hp
theorem Yz2 {H:Type} {enc:TypeId × Value->H} {P:Program} {t:TypeId} (hl:laidOutB P=true) (hr:P.readableRec t=true) (hrow:t < P.types.size) {W W':World} {v:Value} {d:DataW H} {ps:List MemPlace}
  (h:DataW.Trod enc P W 0 (λ_=>true) true t v d ps) (hb:Old W.heap.size W.heap W'.heap) :
  DataW.Trod enc P W' 0 (λb=>decide (b < W.heap.size)) true t v d ps:=by
 have hlt:∀x ∈ ps,x.block < W.heap.size:=by obtain ⟨m,hm⟩:=h;exact DataW.trod_lt m _ _ _ hm
 exact WideElems.Trod_stays hl hr hrow h (λx hx=>Zg2 hb (hlt x hx)) (λx hx=>by simpa using hlt x hx)
theorem YV6 {W W':World} (ho:Old W.heap.size W.heap W'.heap) (hos:W'.os=W.os) (hout:W'.output=W.output) (may:MemPlace->Prop):W.keptBut W' may:=by
 refine ⟨hos,hout,λi hi=>?_⟩
 rw [ho.2 i hi]
 split <;> simp_all
end
section
theorem We7 (cs:Array Value) (F:Array Value->Prop):Wh0 (.tuple cs) F=F cs:=rfl
theorem ZD8 (a b:Value) (F:Value->Prop):Wc2 #[a,b] 0 F=F a:=rfl
theorem ZD9 (a b:Value) (F:Value->Prop):Wc2 #[a,b] 1 F=F b:=rfl
theorem Yz3:Wt9 Tryz.prog 3=some .i64:=by kernel_rfl
theorem Wq1 (f:Int->Int->Int) (a b:Int) (F:Int->Prop):Wh7 f Tryz.prog 3 [iQ a,iQ b] F=F (f a b):=by
 unfold Wh7
 simp only [Yz3,Wa4]
 unfold Wh7.go
 simp only [Wa4]
 rfl
end
section
theorem WJ1 (cs:Array Value) (F:Array Value->Prop):asAgg (.agg cs) F=F cs:=rfl
theorem WE0 {cs:Array Value} {n:Nat} {X:Prop} (h:cs.size=n) (x:X):We2 cs n X:=by
 unfold We2
 rw [show Nat.beq cs.size n=true by rw [h];exact Nat.beq_refl n]
 exact x
theorem Wd1 {cs:List Value} {i:Nat} {v:Value} {F:Value->Prop} (h:cs[i]? = some v) (x:F v):Wc2 cs.toArray i F:=by unfold Wc2;rw [List.getElem?_toArray,h];exact x
theorem Wd3 {h:Wa2} {b i:Nat} {v:Value} {row:List Value} {t:TypeId} (hb:h[b]? = some (.cells row.toArray t)) (e:row[i]? = some v):Wa1 h ⟨b,i,none⟩=some v:=by
 rw [Wc1 hb,List.getElem?_toArray];exact e
theorem ldR {h:Wa2} {b i:Nat} {v:Value} {row:List Value} {t:TypeId} {K:Value->Prop} (hb:h[b]? = some (.cells row.toArray t)) (e:row[i]? = some v) (k:K v):ldH h ⟨b,i,none⟩ K:=
 Wb4 (Wd3 hb e) k
structure Wrote (h:Wa2) (b:Nat) (row:Array Value) (t:TypeId) (h':Wa2):Prop where
 size:h'.size=h.size
 new:h'[b]? = some (.cells row t)
 old:∀c,c≠b->h'[c]? = h[c]?
theorem Wrote.trans {h h' h'':Wa2} {b:Nat} {row row':Array Value} {t t':TypeId} (x:Wrote h b row t h') (y:Wrote h' b row' t' h''):Wrote h b row' t' h'':=
 ⟨y.size.trans x.size,y.new,λc hc=>(y.old c hc).trans (x.old c hc)⟩
theorem Wrote.toOld {N:Nat} {g h h':Wa2} {b:Nat} {row:Array Value} {t:TypeId} (x:Wrote h b row t h') (o:Old N g h) (hb:N<=b):Old N g h':=
 ⟨by rw [x.size];exact o.1,λc hc=>(x.old c (by omega)).trans (o.2 c hc)⟩
theorem stR {h:Wa2} {b i:Nat} {v:Value} {row:List Value} {t:TypeId} {K:Wa2->Prop} (hb:h[b]? = some (.cells row.toArray t)) (hi:Nat.ble (i+1) row.length=true) (ho:Wi4 v True)
  (k:∀h',Wrote h b (row.set i v).toArray t h'->K h'):stH h ⟨b,i,none⟩ v K:=by
 have hlt:=(Array.getElem?_eq_some_iff.1 hb).1
 refine Yb6 hb (by rw [List.size_toArray];exact Nat.le_of_ble_eq_true hi) ho ?_
 rintro h' rfl
 exact k _ ⟨by simp,by rw [Wl6 hlt,List.setIfInBounds_toArray],λc hc=>Wm7 hc⟩
theorem Wd9 {vs:List Value} {h:Wa2} {b:Nat} {row:Array Value} {t:TypeId} {K:Wa2->Prop} (hb:h[b]? = some (.cells row t)) (hl:vs.length=row.size) (ho:∀y ∈ vs,Wi4 y True)
  (k:∀h',Wrote h b vs.toArray t h'->K h'):stN h (aQ b) 0 vs K:=by
 have hlt:=(Array.getElem?_eq_some_iff.1 hb).1
 refine WM2 vs h b 0 0 row t K hb (by omega) ho ?_
 intro row' h1 h2
 have e:row' = vs.toArray:=by
  apply Array.ext_getElem?
  intro j
  rw [h2 j]
  by_cases hj:j < vs.length
  ·rw [if_pos (by omega)];simp
  ·rw [if_neg (by omega),Array.getElem?_eq_none (by omega),Array.getElem?_eq_none (by simp;omega)]
 subst e
 exact k _ ⟨by simp,Wl6 hlt,λc hc=>Wm7 hc⟩
theorem st3 {h:Wa2} {b:Nat} {v0 v1 v2:Value} {K:Wa2->Prop} (H:stN h (aQ b) 0 [v0,v1,v2] K):stH h (aQ b) v0 λh=>stH h ⟨b,1,none⟩ v1 λh=>stH h ⟨b,2,none⟩ v2 K:=H
theorem st7 {h:Wa2} {b:Nat} {v0 v1 v2 v3 v4 v5 v6:Value} {K:Wa2->Prop} (H:stN h (aQ b) 0 [v0,v1,v2,v3,v4,v5,v6] K) :
 stH h (aQ b) v0 λh=>stH h ⟨b,1,none⟩ v1 λh=>stH h ⟨b,2,none⟩ v2 λh=>stH h ⟨b,3,none⟩ v3 λh=>stH h ⟨b,4,none⟩ v4 λh=>stH h ⟨b,5,none⟩ v5 λh=>stH h ⟨b,6,none⟩ v6 K:=H
theorem Zd4 {h:Wa2} {b:Nat} {v0 v1 v2 v3 v4 v5 v6 v7 v8 v9 v10 v11 v12 v13 v14:Value} {K:Wa2->Prop} (H:stN h (aQ b) 0 [v0,v1,v2,v3,v4,v5,v6,v7,v8,v9,v10,v11,v12,v13,v14] K) :
 stH h (aQ b) v0 λh=>stH h ⟨b,1,none⟩ v1 λh=>stH h ⟨b,2,none⟩ v2 λh=>stH h ⟨b,3,none⟩ v3 λh=>stH h ⟨b,4,none⟩ v4 λh=>stH h ⟨b,5,none⟩ v5 λh=>stH h ⟨b,6,none⟩ v6 λh=>
 stH h ⟨b,7,none⟩ v7 λh=>stH h ⟨b,8,none⟩ v8 λh=>stH h ⟨b,9,none⟩ v9 λh=>stH h ⟨b,10,none⟩ v10 λh=>stH h ⟨b,11,none⟩ v11 λh=>stH h ⟨b,12,none⟩ v12 λh=>stH h ⟨b,13,none⟩ v13 λh=>stH h ⟨b,14,none⟩ v14 K:=H
structure Pushed (h:Wa2) (row:Array Value) (t:TypeId) (h':Wa2):Prop where
 size:h'.size=h.size+1
 new:h'[h.size]? = some (.cells row t)
 old:∀c,c < h.size->h'[c]? = h[c]?
theorem Wf2 (h:Wa2) (row:Array Value) (t:TypeId):Pushed h row t (h.push (.cells row t)):=⟨by simp,Wo3 _ _,λc hc=>Wj0 _ _ _ hc⟩
theorem Pushed.toOld {h h':Wa2} {row:Array Value} {t:TypeId} (x:Pushed h row t h'):Old h.size h h':=⟨by rw [x.size];omega,x.old⟩
end
section
def Fr (S:Nat->Prop) (h h':Wa2):Prop:=h.size<=h'.size/\∀b,b < h.size->¬ S b->h'[b]? = h[b]?
def blk (a:Option Addr) (b:Nat):Prop:=∃ad,a=some ad/\ad.block=b
theorem Fr.refl (S:Nat->Prop) (h:Wa2):Fr S h h:=⟨Nat.le_refl _,λ_ _ _=>rfl⟩
theorem Fr.mono {S T:Nat->Prop} {h h':Wa2} (x:Fr S h h') (H:∀b,b < h.size->S b->T b):Fr T h h':=⟨x.1,λb hb hT=>x.2 b hb λhS=>hT (H b hb hS)⟩
theorem Old.fr {h h':Wa2} (S:Nat->Prop) (o:Old h.size h h'):Fr S h h':=⟨o.1,λb hb _=>o.2 b hb⟩
section
variable {α:Type} {f:α->List Value} {n:Nat}
theorem WJ2 (hf:∀x,(f x).length=n) (l:List α):(l.flatMap f).length=l.length*n:=by
 induction l with
 | nil=>simp
 | cons x l ih=>rw [List.flatMap_cons,List.length_append,ih,hf,List.length_cons,Nat.add_mul];omega
theorem Wh3 (hf:∀x,(f x).length=n) {l:List α}:∀ {i:Nat} (hi:i < l.length) {j:Nat},j < n->(l.flatMap f)[i*n+j]? = (f l[i])[j]?:=by
 induction l with
 | nil=>intro i hi;simp at hi
 | cons x l ih=>
  intro i hi j hj
  rw [List.flatMap_cons]
  cases i with
  | zero=>rw [List.getElem?_append_left (by rw [hf];omega)];simp
  | succ i=>
   have e:(i+1)*n+j=n+(i*n+j):=by rw [Nat.add_mul];omega
   rw [List.getElem?_append_right (by rw [hf,e];omega),hf,e,Nat.add_sub_cancel_left]
   exact ih (by simpa using hi) hj
theorem YV7 (hf:∀x,(f x).length=n) (l:List α):∀i,(l.flatMap f).take (i*n)=(l.take i).flatMap f:=by
 induction l with
 | nil=>intro i;simp
 | cons x l ih=>
  intro i
  cases i with
  | zero=>simp
  | succ i=>
   rw [List.flatMap_cons,List.take_succ_cons,List.flatMap_cons,List.take_append,hf,List.take_of_length_le (by rw [hf,Nat.add_mul];omega),show (i+1)*n - n=i*n by rw [Nat.add_mul];omega,ih]
structure SX (f:α->List Value) (h:Wa2) (a:Option Addr) (l c:Nat) (xs:List α):Prop where
 s:Sees h a (xs.flatMap f)
 len:xs.length=l
 cap:l<=c
theorem SX.old {h h':Wa2} {a:Option Addr} {l c:Nat} {xs:List α} (H:SX f h a l c xs) (ho:Old h.size h h'):SX f h' a l c xs:=⟨H.s.old ho,H.len,H.cap⟩
theorem SX.at (hf:∀x,(f x).length=n) (hn:0 < n) {h:Wa2} {a:Option Addr} {l c:Nat} {xs:List α} (H:SX f h a l c xs) {i:Nat} (hi:i < xs.length) :
  ∃ad,a=some ad/\∀(j:Nat) (v:Value),(f xs[i])[j]? = some v->Wa1 h ((ad.add (i*n)).add j)=some v:=by
 have h0:(xs.flatMap f)[i*n+0]? = (f xs[i])[0]?:=Wh3 hf hi hn
 have h1:(f xs[i])[0]? = some ((f xs[i])[0]'(by rw [hf];exact hn)):=List.getElem?_eq_getElem _
 rw [h1] at h0
 obtain ⟨ad,e,_⟩:=H.s _ _ h0
 refine ⟨ad,e,λj v hv=>?_⟩
 have hj:j < n:=by have:=(List.getElem?_eq_some_iff.1 hv).1;rwa [hf] at this
 obtain ⟨ad',e',hc⟩:=H.s (i*n+j) v ((Wh3 hf hi hj).trans hv)
 rw [e] at e';cases e'
 rw [Ww3];exact hc
theorem Sees.subn {h:Wa2} {a:Option Addr} {vs:List Value} (H:Sees h a vs) {i m:Nat} (hm:vs.length<=m*n) (hi:i<=m):Sees h (W95 a i m n) (vs.drop (i*n)):=by
 intro j v hj
 unfold W95
 rw [List.getElem?_drop] at hj
 have hlt:i*n+j < vs.length:=(List.getElem?_eq_some_iff.1 hj).1
 obtain ⟨ad,rfl,hc⟩:=H _ _ hj
 have hne:m≠i:=λe=>by subst e;omega
 rw [if_neg hne]
 exact ⟨_,rfl,by rw [Ww3];exact hc⟩
theorem Yb9 (a:Option Addr) (c n:Nat):W95 a 0 c n=a:=by
 unfold W95
 split
 ·rfl
 ·rw [Nat.zero_mul];cases a <;> rfl
end
theorem Own.take {h:Wa2} {t:TypeId} {n:Nat} {a:Option Addr} {l c:Nat} {xs:List Value} (H:Own h t n a l c xs) {i:Nat} (hi:i<=l):Own h t n a i c (xs.take (i*n)):=by
 obtain ⟨h1,h2,h3⟩:=H
 have him:i*n<=l*n:=Nat.mul_le_mul_right _ hi
 refine ⟨by simp;omega,by omega,h3.imp id ?_⟩
 rintro ⟨b,row,e,hb,hs,ht⟩
 exact ⟨b,row,e,hb,hs,by rw [<- ht,List.take_take,Nat.min_eq_left him]⟩
theorem Own.lt2 {h:Wa2} {t:TypeId} {n:Nat} {a:Option Addr} {l c:Nat} {xs:List Value} (H:Own h t n a l c xs) {b:Nat} (hb:blk a b):b < h.size:=by
 obtain ⟨ad,e,rfl⟩:=hb
 exact H.lt ad e
theorem Own.write {h:Wa2} {t:TypeId} {n:Nat} {a:Option Addr} {ad:Addr} {l c:Nat} {xs vs:List Value} {off:Nat} {K:Wa2->Prop} (ho:Own h t n a l c xs) (ea:a=some ad) (hv:off+vs.length<=c*n) (hone:∀y ∈ vs,Wi4 y True)
  (k:∀h',(∀i,i*n<=off->i<=l->Own h' t n a i c (xs.take (i*n)))->(off+vs.length<=l*n->Own h' t n a l c (xs.take off ++ vs ++ xs.drop (off+vs.length)))->Fr (blk a) h h'->h'.size=h.size->K h'):stN h (ad.add off) 0 vs K:=by
 obtain ⟨h1,h2,h3⟩:=ho
 rcases h3 with ⟨rfl,hc0⟩ | ⟨b,row,e,hb,hs,ht⟩
 ·cases ea
 rw [ea] at e;cases e
 rw [Wc4,Nat.zero_add]
 have hlt:=(Array.getElem?_eq_some_iff.1 hb).1
 refine WM2 vs h b off 0 row t K hb (by omega) hone ?_
 intro row' r1 r2
 have hl:l*n<=c*n:=Nat.mul_le_mul_right _ h2
 refine k _ (λi hi hil=>⟨?_,by omega,.inr ⟨b,row',ea,Wl6 hlt,by rw [r1,hs],?_⟩⟩) (λhin=>⟨?_,h2,.inr ⟨b,row',ea,Wl6 hlt,by rw [r1,hs],?_⟩⟩) ⟨by simp,λb' hb' hne=>Wm7 (λe=>hne ⟨_,ea,e.symm⟩)⟩ (by simp)
 ·have:=Nat.mul_le_mul_right n hil
  rw [List.length_take];omega
 ·have:=Nat.mul_le_mul_right n hil
  rw [<- ht,List.take_take,Nat.min_eq_left this]
  apply List.ext_getElem?
  intro j
  rw [List.getElem?_take,List.getElem?_take]
  split
  ·rw [Array.getElem?_toList,r2 j,if_neg (by omega),Array.getElem?_toList]
  ·rfl
 ·rw [List.length_append,List.length_append,List.length_take,List.length_drop];omega
 ·apply List.ext_getElem?
  intro j
  have hx:∀j,j < l*n->xs[j]? = row[j]?:=λj hj=>by rw [<- ht,List.getElem?_take,if_pos hj,Array.getElem?_toList]
  rw [List.getElem?_take,Array.getElem?_toList,r2 j]
  by_cases c1:j < off
  ·rw [if_pos (by omega),if_neg (by omega),List.append_assoc,List.getElem?_append_left (by rw [List.length_take];omega),List.getElem?_take,if_pos c1,hx j (by omega)]
  ·by_cases c2:j < off+vs.length
   ·rw [if_pos (by omega),if_pos (by omega),List.append_assoc,List.getElem?_append_right (by rw [List.length_take];omega),List.length_take,Nat.min_eq_left (by omega),List.getElem?_append_left (by omega)]
    congr 1 <;> omega
   ·rw [List.append_assoc,List.getElem?_append_right (by rw [List.length_take];omega),List.length_take,Nat.min_eq_left (by omega),List.getElem?_append_right (by omega),List.getElem?_drop]
    by_cases c3:j < l*n
    ·rw [if_pos c3,if_neg (by omega),<- hx j c3]
     congr 1 <;> omega
    ·rw [if_neg c3]
     symm;apply List.getElem?_eq_none;omega
theorem Yz4 {P:Program} {h:Wa2} {a:Option Addr} {vs:List Value} {m sz l c:Nat} {F:Array Value->Wa2->Prop} (hs:Sees h a vs) (hn:vs.length=m*sz) (k:F vs.toArray h):hp P (Builtin.firstCells sz m (.slice a l c)) F h:=by
 cases a with
 | none=>
  have:vs = []:=by
   cases vs with
   | nil=>rfl
   | cons y ys=>obtain ⟨ad,e,_⟩:=hs 0 y rfl;cases e
  subst this;exact k
 | some ad=>
  show hp P (loadCells ad (m*sz)) F h
  refine We5 ad _ 0 [] F ?_
  rw [<- hn]
  refine Wy5 vs 0 [] _ (λj v hj=>?_) (by simpa using k)
  obtain ⟨ad',e,hc⟩:=hs j v hj
  cases e;rwa [Nat.zero_add]
theorem Zg3 {P:Program} {t elem rt:TypeId} {h:Wa2} {a a2 a3:Option Addr} {l c i dl dc sl sc m:Nat} {xs vs:List Value} {K:kQ}
  (hu:und P t=.slice elem) (hth:Wf4 P elem=true) (ho:Own h elem (siz P elem) a l c xs) (hs:Sees h a2 vs) (hm:m=min sl dl) (hn:vs.length=m*siz P elem) (hone:∀y ∈ vs,Wi4 y True) (hi:i+m<=l)
  (h3:m=0\/∃ad,a=some ad/\a3=some (ad.add (i*siz P elem)))
  (k:∀h',Own h' elem (siz P elem) a l c (xs.take (i*siz P elem) ++ vs ++ xs.drop ((i+m)*siz P elem))->Fr (blk a) h h'->h'.size=h.size->K (iv m) h') :
  W37 P #[t,t] rt #[.slice a3 dl dc,.slice a2 sl sc] h K:=by
 have hu':=Wc6 hu (by simp)
 unfold W37 Builtin.copy_
 simp only [List.getElem?_toArray,List.getElem?_cons_zero,List.getElem?_cons_succ,Wa6,Wc0,Wa8 hu',Wd7 hth]
 show hp P (Builtin.lenOf _) _ h
 simp only [Builtin.lenOf,Wc0,Wa6,Wd7 hth]
 have em:Nat.min sl dl=m:=hm.symm
 rw [em]
 refine Yz4 hs hn ?_
 rcases Nat.eq_zero_or_pos m with e0 | hp0
 ·have:vs = []:=by rw [e0] at hn;simpa using hn
  subst this
  subst e0
  have fin:=k h (by simpa using ho) (Fr.refl _ _) rfl
  cases a3 with
  | none=>exact fin
  | some ad=>exact fin
 ·obtain ⟨ad,ea,e3⟩:=h3.resolve_left (by omega)
  subst e3
  simp only [Wa6]
  refine Wi9 _ _ h 0 _ ?_
  have hbd:i*siz P elem+vs.length<=l*siz P elem:=by rw [hn,<- Nat.add_mul];exact Nat.mul_le_mul_right _ hi
  have hcl:l*siz P elem<=c*siz P elem:=Nat.mul_le_mul_right _ ho.2.1
  refine Own.write ho ea (by omega) (by simpa using hone) λh' w1 w2 w3 w4=>?_
  have:=w2 hbd
  simp only [Wc0]
  refine k h' ?_ w3 w4
  rw [Nat.add_mul,<- hn];exact this
end
section
abbrev Pr:=Int × Int
def plt (p q:Pr):Prop:=p.1 < q.1\/(p.1=q.1/\p.2 < q.2)
instance (p q:Pr):Decidable (plt p q):=by unfold plt;infer_instance
def ZQ1 (p:Pr):List Pr->List Pr
 | []=>[p]
 | q :: r=>if plt q p then q :: ZQ1 p r else p :: q :: r
def Zg4 (ps:List Pr):Nat->List Pr
 | 0=>[]
 | i+1=>match ps[i]? with
  | none=>Zg4 ps i
  | some x=>if 0 < i/\ps[i - 1]? = some x then Zg4 ps i else Zg4 ps i ++ [x]
def ZQ2 (ps:List Pr) (k:Int):Nat:=(ps.findIdx? λp=>p.1 != k).getD ps.length
def ZE0 (ps:List Pr):List Pr:=match ps with
 | []=>[]
 | p :: _=>Zg4 (ps.take (ZQ2 ps p.1)) (ZQ2 ps p.1)
end
section
set_option maxRecDepth 100000

end
section

end
section

end
section
section
variable {P:Program} {t kt et:TypeId}
end
end
section
set_option maxRecDepth 100000
abbrev cf (f:FuncId):Array Value->Wa2->(Value->Wa2->Prop)->Prop:=Wv0 Tryz.prog (.func (.func f) #[] #[])
abbrev nP (o:Option Addr) (F:Addr->Prop):Prop:=Wb8 (.pointer o) (Wd2 (.pointer o) F)
abbrev lI (k:IntKind) (h:Wa2) (a:Addr) (F:Int->Prop):Prop:=ldH h a (λv=>asInt k v F)
abbrev lP (h:Wa2) (a:Addr) (F:Option Addr->Prop):Prop:=ldH h a (λv=>Wb2 v F)
abbrev lS (h:Wa2) (a:Addr) (F:Option Addr->Nat->Nat->Prop):Prop:=ldH h a (λv=>Wb3 v F)
abbrev bd (n m:Int) (X:Prop):Prop:=((0:Int)<=n)/\((n < m)/\X)
abbrev ce (h:Wa2) (b i:Nat) (v:Value) (X:Prop):Prop:=(Wa1 h ⟨b,i,none⟩=some v)/\X
def F94 (K:kQ) (h:Wa2) (xa:Option Addr) (xb:ByteArray):Prop:=
 (cf 136 #[.pointer xa] h λa a=>nP xa λb=>lS a (Addr.add b 1) λb c d=>Wt2 Tryz.prog #[26,9] 26 #[.slice b c d,.string xb] a λa b=>Wb3 a λa c d=>nP xa λe=>stH b (Addr.add e 1) (.slice a c d) λa=>K (.tuple #[iQ ((xb.size:Nat):Int),.nilIface]) a)
theorem call94 {K:kQ} {h:Wa2} {xa:Option Addr} {xb:ByteArray} (H:F94 K h xa xb):Wa5 Tryz.prog 94 #[(.pointer xa),(.string xb)] h K:=
 cQ Tryz.func94 H
def F97 (K:kQ) (h:Wa2) (xa:Option Addr):Prop:=
 (nP xa λa=>lS h (Addr.add a 1) λa b c=>nP xa λd=>ldH h (Addr.add d 1) λe=>Wb3 e λf f g=>ZL2 Tryz.prog #[26] 226 #[.slice a b c] h λa b=>Wb2 a λa=>((Wa1 b (Addr.add d 1))=(some e))/\(ZL3 Tryz.prog #[226,3] 9 #[.pointer a,iQ (f:Int)] b λa b=>We4 a λa=>K (.string a) b))
theorem call97 {K:kQ} {h:Wa2} {xa:Option Addr} (H:F97 K h xa):Wa5 Tryz.prog 97 #[(.pointer xa)] h K:=
 cQ Tryz.func97 H
def F136 (K:kQ) (h:Wa2) (xa:Option Addr):Prop:=
 (nP xa λa=>lP h a λa=>ifB (Option.isNone a) (Zd2 Tryz.prog 160 267 (.pointer xa) h λa b=>YR8 Tryz.prog (.func (.func 203) #[] #[]) #[a] b λa b=>Zd2 Tryz.prog 267 160 a b λa b=>Wb2 a λa=>nP xa λc=>stH b c (.pointer a) λa=>K (.tuple #[]) a) (nP xa λa=>lP h a λa=>Zr4 Tryz.prog .neq 160 a xa h λa b=>asBool a λa=>ifB a False (K (.tuple #[]) b)))
theorem call136 {K:kQ} {h:Wa2} {xa:Option Addr} (H:F136 K h xa):Wa5 Tryz.prog 136 #[(.pointer xa)] h K:=
 cQ Tryz.func136 H
def F127 (K:kQ) (h:Wa2) (xa xb:ByteArray):Prop:=
 (cf 198 #[.string xa,.string xb] h λa b=>We4 a λa=>K (.string a) b)
theorem call127 {K:kQ} {h:Wa2} {xa xb:ByteArray} (H:F127 K h xa xb):Wa5 Tryz.prog 127 #[(.string xa),(.string xb)] h K:=
 cQ Tryz.func127 H
abbrev da3 (h:Wa2) (a:Addr) (F:Value->Value->Value->Prop):Prop:=ldH h a λv0=>ldH h (Addr.add a 1) λv1=>ldH h (Addr.add a 2) λv2=>F v0 v1 v2
abbrev da7 (h:Wa2) (a:Addr) (F:Value->Value->Value->Value->Value->Value->Value->Prop):Prop:=ldH h a λv0=>ldH h (Addr.add a 1) λv1=>ldH h (Addr.add a 2) λv2=>ldH h (Addr.add a 3) λv3=>ldH h (Addr.add a 4) λv4=>ldH h (Addr.add a 5) λv5=>ldH h (Addr.add a 6) λv6=>F v0 v1 v2 v3 v4 v5 v6
abbrev da9 (h:Wa2) (a:Addr) (F:Value->Value->Value->Value->Value->Value->Value->Value->Value->Prop):Prop:=ldH h a λv0=>ldH h (Addr.add a 1) λv1=>ldH h (Addr.add a 2) λv2=>ldH h (Addr.add a 3) λv3=>ldH h (Addr.add a 4) λv4=>ldH h (Addr.add a 5) λv5=>ldH h (Addr.add a 6) λv6=>ldH h (Addr.add a 7) λv7=>ldH h (Addr.add a 8) λv8=>F v0 v1 v2 v3 v4 v5 v6 v7 v8
abbrev ZK7 (h:Wa2) (a:Addr) (F:Value->Value->Value->Value->Value->Value->Value->Value->Value->Value->Value->Value->Value->Value->Value->Prop):Prop:=ldH h a λv0=>ldH h (Addr.add a 1) λv1=>ldH h (Addr.add a 2) λv2=>ldH h (Addr.add a 3) λv3=>ldH h (Addr.add a 4) λv4=>ldH h (Addr.add a 5) λv5=>ldH h (Addr.add a 6) λv6=>ldH h (Addr.add a 7) λv7=>ldH h (Addr.add a 8) λv8=>ldH h (Addr.add a 9) λv9=>ldH h (Addr.add a 10) λv10=>ldH h (Addr.add a 11) λv11=>ldH h (Addr.add a 12) λv12=>ldH h (Addr.add a 13) λv13=>ldH h (Addr.add a 14) λv14=>F v0 v1 v2 v3 v4 v5 v6 v7 v8 v9 v10 v11 v12 v13 v14
abbrev dc3 (h:Wa2) (b:Nat) (v0 v1 v2:Value) (X:Prop):Prop:=ce h b 0 v0 (ce h b 1 v1 (ce h b 2 v2 X))
abbrev ZE1 (h:Wa2) (b:Nat) (v0 v1 v2 v3 v4 v5 v6 v7 v8 v9 v10 v11 v12 v13 v14:Value) (X:Prop):Prop:=ce h b 0 v0 (ce h b 1 v1 (ce h b 2 v2 (ce h b 3 v3 (ce h b 4 v4 (ce h b 5 v5 (ce h b 6 v6 (ce h b 7 v7 (ce h b 8 v8 (ce h b 9 v9 (ce h b 10 v10 (ce h b 11 v11 (ce h b 12 v12 (ce h b 13 v13 (ce h b 14 v14 X))))))))))))))
abbrev de2 (s:Array Value) (F:Value->Value->Prop):Prop:=Wc2 s 0 λv0=>Wc2 s 1 λv1=>F v0 v1
abbrev de6 (s:Array Value) (F:Value->Value->Value->Value->Value->Value->Prop):Prop:=Wc2 s 0 λv0=>Wc2 s 1 λv1=>Wc2 s 2 λv2=>Wc2 s 3 λv3=>Wc2 s 4 λv4=>Wc2 s 5 λv5=>F v0 v1 v2 v3 v4 v5
abbrev de7 (s:Array Value) (F:Value->Value->Value->Value->Value->Value->Value->Prop):Prop:=Wc2 s 0 λv0=>Wc2 s 1 λv1=>Wc2 s 2 λv2=>Wc2 s 3 λv3=>Wc2 s 4 λv4=>Wc2 s 5 λv5=>Wc2 s 6 λv6=>F v0 v1 v2 v3 v4 v5 v6
abbrev ZQ3 (s:Array Value) (F:Value->Value->Value->Value->Value->Value->Value->Value->Value->Value->Prop):Prop:=Wc2 s 0 λv0=>Wc2 s 1 λv1=>Wc2 s 2 λv2=>Wc2 s 3 λv3=>Wc2 s 4 λv4=>Wc2 s 5 λv5=>Wc2 s 6 λv6=>Wc2 s 7 λv7=>Wc2 s 8 λv8=>Wc2 s 9 λv9=>F v0 v1 v2 v3 v4 v5 v6 v7 v8 v9
abbrev Wm8 (s:Array Value) (F:Value->Value->Value->Value->Value->Value->Value->Value->Value->Value->Value->Value->Value->Value->Value->Prop):Prop:=Wc2 s 0 λv0=>Wc2 s 1 λv1=>Wc2 s 2 λv2=>Wc2 s 3 λv3=>Wc2 s 4 λv4=>Wc2 s 5 λv5=>Wc2 s 6 λv6=>Wc2 s 7 λv7=>Wc2 s 8 λv8=>Wc2 s 9 λv9=>Wc2 s 10 λv10=>Wc2 s 11 λv11=>Wc2 s 12 λv12=>Wc2 s 13 λv13=>Wc2 s 14 λv14=>F v0 v1 v2 v3 v4 v5 v6 v7 v8 v9 v10 v11 v12 v13 v14
abbrev dl2 (h:Wa2) (b:Nat) (F:Value->Value->Prop):Prop:=ldH h (aQ b) λv0=>ldH h ⟨b,1,none⟩ λv1=>F v0 v1
abbrev dl3 (h:Wa2) (b:Nat) (F:Value->Value->Value->Prop):Prop:=ldH h (aQ b) λv0=>ldH h ⟨b,1,none⟩ λv1=>ldH h ⟨b,2,none⟩ λv2=>F v0 v1 v2
abbrev dl4 (h:Wa2) (b:Nat) (F:Value->Value->Value->Value->Prop):Prop:=ldH h (aQ b) λv0=>ldH h ⟨b,1,none⟩ λv1=>ldH h ⟨b,2,none⟩ λv2=>ldH h ⟨b,3,none⟩ λv3=>F v0 v1 v2 v3
abbrev dl6 (h:Wa2) (b:Nat) (F:Value->Value->Value->Value->Value->Value->Prop):Prop:=ldH h (aQ b) λv0=>ldH h ⟨b,1,none⟩ λv1=>ldH h ⟨b,2,none⟩ λv2=>ldH h ⟨b,3,none⟩ λv3=>ldH h ⟨b,4,none⟩ λv4=>ldH h ⟨b,5,none⟩ λv5=>F v0 v1 v2 v3 v4 v5
abbrev dl7 (h:Wa2) (b:Nat) (F:Value->Value->Value->Value->Value->Value->Value->Prop):Prop:=ldH h (aQ b) λv0=>ldH h ⟨b,1,none⟩ λv1=>ldH h ⟨b,2,none⟩ λv2=>ldH h ⟨b,3,none⟩ λv3=>ldH h ⟨b,4,none⟩ λv4=>ldH h ⟨b,5,none⟩ λv5=>ldH h ⟨b,6,none⟩ λv6=>F v0 v1 v2 v3 v4 v5 v6
abbrev dl9 (h:Wa2) (b:Nat) (F:Value->Value->Value->Value->Value->Value->Value->Value->Value->Prop):Prop:=ldH h (aQ b) λv0=>ldH h ⟨b,1,none⟩ λv1=>ldH h ⟨b,2,none⟩ λv2=>ldH h ⟨b,3,none⟩ λv3=>ldH h ⟨b,4,none⟩ λv4=>ldH h ⟨b,5,none⟩ λv5=>ldH h ⟨b,6,none⟩ λv6=>ldH h ⟨b,7,none⟩ λv7=>ldH h ⟨b,8,none⟩ λv8=>F v0 v1 v2 v3 v4 v5 v6 v7 v8
abbrev YS2 (h:Wa2) (b:Nat) (F:Value->Value->Value->Value->Value->Value->Value->Value->Value->Value->Prop):Prop:=ldH h (aQ b) λv0=>ldH h ⟨b,1,none⟩ λv1=>ldH h ⟨b,2,none⟩ λv2=>ldH h ⟨b,3,none⟩ λv3=>ldH h ⟨b,4,none⟩ λv4=>ldH h ⟨b,5,none⟩ λv5=>ldH h ⟨b,6,none⟩ λv6=>ldH h ⟨b,7,none⟩ λv7=>ldH h ⟨b,8,none⟩ λv8=>ldH h ⟨b,9,none⟩ λv9=>F v0 v1 v2 v3 v4 v5 v6 v7 v8 v9
abbrev ZQ4 (h:Wa2) (b:Nat) (F:Value->Value->Value->Value->Value->Value->Value->Value->Value->Value->Value->Value->Prop):Prop:=ldH h (aQ b) λv0=>ldH h ⟨b,1,none⟩ λv1=>ldH h ⟨b,2,none⟩ λv2=>ldH h ⟨b,3,none⟩ λv3=>ldH h ⟨b,4,none⟩ λv4=>ldH h ⟨b,5,none⟩ λv5=>ldH h ⟨b,6,none⟩ λv6=>ldH h ⟨b,7,none⟩ λv7=>ldH h ⟨b,8,none⟩ λv8=>ldH h ⟨b,9,none⟩ λv9=>ldH h ⟨b,10,none⟩ λv10=>ldH h ⟨b,11,none⟩ λv11=>F v0 v1 v2 v3 v4 v5 v6 v7 v8 v9 v10 v11
abbrev WG2 (h:Wa2) (b:Nat) (F:Value->Value->Value->Value->Value->Value->Value->Value->Value->Value->Value->Value->Value->Value->Value->Prop):Prop:=ldH h (aQ b) λv0=>ldH h ⟨b,1,none⟩ λv1=>ldH h ⟨b,2,none⟩ λv2=>ldH h ⟨b,3,none⟩ λv3=>ldH h ⟨b,4,none⟩ λv4=>ldH h ⟨b,5,none⟩ λv5=>ldH h ⟨b,6,none⟩ λv6=>ldH h ⟨b,7,none⟩ λv7=>ldH h ⟨b,8,none⟩ λv8=>ldH h ⟨b,9,none⟩ λv9=>ldH h ⟨b,10,none⟩ λv10=>ldH h ⟨b,11,none⟩ λv11=>ldH h ⟨b,12,none⟩ λv12=>ldH h ⟨b,13,none⟩ λv13=>ldH h ⟨b,14,none⟩ λv14=>F v0 v1 v2 v3 v4 v5 v6 v7 v8 v9 v10 v11 v12 v13 v14
abbrev dw2 (h:Wa2) (b:Nat) (v0 v1:Value) (F:Wa2->Prop):Prop:=stH h (aQ b) v0 λh1=>stH h1 ⟨b,1,none⟩ v1 λh2=>F h2
abbrev dw3 (h:Wa2) (b:Nat) (v0 v1 v2:Value) (F:Wa2->Prop):Prop:=stH h (aQ b) v0 λh1=>stH h1 ⟨b,1,none⟩ v1 λh2=>stH h2 ⟨b,2,none⟩ v2 λh3=>F h3
abbrev dw7 (h:Wa2) (b:Nat) (v0 v1 v2 v3 v4 v5 v6:Value) (F:Wa2->Prop):Prop:=stH h (aQ b) v0 λh1=>stH h1 ⟨b,1,none⟩ v1 λh2=>stH h2 ⟨b,2,none⟩ v2 λh3=>stH h3 ⟨b,3,none⟩ v3 λh4=>stH h4 ⟨b,4,none⟩ v4 λh5=>stH h5 ⟨b,5,none⟩ v5 λh6=>stH h6 ⟨b,6,none⟩ v6 λh7=>F h7
abbrev ZN2 (h:Wa2) (b:Nat) (v0 v1 v2 v3 v4 v5 v6 v7 v8 v9:Value) (F:Wa2->Prop):Prop:=stH h (aQ b) v0 λh1=>stH h1 ⟨b,1,none⟩ v1 λh2=>stH h2 ⟨b,2,none⟩ v2 λh3=>stH h3 ⟨b,3,none⟩ v3 λh4=>stH h4 ⟨b,4,none⟩ v4 λh5=>stH h5 ⟨b,5,none⟩ v5 λh6=>stH h6 ⟨b,6,none⟩ v6 λh7=>stH h7 ⟨b,7,none⟩ v7 λh8=>stH h8 ⟨b,8,none⟩ v8 λh9=>stH h9 ⟨b,9,none⟩ v9 λh10=>F h10
abbrev Zv5 (h:Wa2) (b:Nat) (v0 v1 v2 v3 v4 v5 v6 v7 v8 v9 v10 v11 v12 v13 v14:Value) (F:Wa2->Prop):Prop:=stH h (aQ b) v0 λh1=>stH h1 ⟨b,1,none⟩ v1 λh2=>stH h2 ⟨b,2,none⟩ v2 λh3=>stH h3 ⟨b,3,none⟩ v3 λh4=>stH h4 ⟨b,4,none⟩ v4 λh5=>stH h5 ⟨b,5,none⟩ v5 λh6=>stH h6 ⟨b,6,none⟩ v6 λh7=>stH h7 ⟨b,7,none⟩ v7 λh8=>stH h8 ⟨b,8,none⟩ v8 λh9=>stH h9 ⟨b,9,none⟩ v9 λh10=>stH h10 ⟨b,10,none⟩ v10 λh11=>stH h11 ⟨b,11,none⟩ v11 λh12=>stH h12 ⟨b,12,none⟩ v12 λh13=>stH h13 ⟨b,13,none⟩ v13 λh14=>stH h14 ⟨b,14,none⟩ v14 λh15=>F h15
abbrev g128 (K:kQ) (h H1:Wa2):Prop:=
 (dl3 H1 h.size λa b c=>cf 197 #[.agg #[a,b,c]] H1 λa b=>asBool a λa=>ifB (!a) (K (.string (⟨#[63]⟩ : ByteArray)) b) (lI .i64 b (aQ h.size) λa=>ifB (a == 0) (K (.string (⟨#[100,111,110,101]⟩ : ByteArray)) b) (ifB (a == 1) (K (.string (⟨#[102,117,108,108]⟩ : ByteArray)) b) (ifB (a == 3) (K (.string (⟨#[101,109,112,116,121]⟩ : ByteArray)) b) (lI .u32 b ⟨h.size,1,none⟩ λa=>ldH b ⟨h.size,2,none⟩ λc=>asInt .u32 c λd=>cf 199 #[.int .u32 a] b λa b=>We4 a λa=>ce b h.size 2 c ((((((a.size+1):Nat):Int):Int)<=9223372036854775807)/\(cf 199 #[.int .u32 d] b λb c=>We4 b λb=>((((((a ++ (⟨#[32]⟩ : ByteArray)).size+b.size):Nat):Int):Int)<=9223372036854775807)/\(K (.string ((a ++ (⟨#[32]⟩ : ByteArray)) ++ b)) c))))))))
def F128 (K:kQ) (h:Wa2) (xa xb xc:Int):Prop:=
 (g128 K h (Array.push h (.cells #[iQ xa,.int .u32 xb,.int .u32 xc] 43)))
theorem call128 {K:kQ} {h:Wa2} {xa xb xc:Int} (H:F128 K h xa xb xc):Wa5 Tryz.prog 128 #[(.agg #[(iQ xa),(.int .u32 xb),(.int .u32 xc)])] h K:=
 cQ Tryz.func128 H
def F198 (K:kQ) (h:Wa2) (xa xb:ByteArray):Prop:=
 (cf 275 #[.string xa,.string xb] h λa b=>asBool a λa=>ifB a (((0:Int)<=(IntKind.wrap .i64 (((xa.size:Nat):Int) - ((xb.size:Nat):Int))))/\((((IntKind.wrap .i64 (((xa.size:Nat):Int) - ((xb.size:Nat):Int))):Int)<=((xa.size:Nat):Int))/\(K (.string (xa.extract 0 (IntKind.wrap .i64 (((xa.size:Nat):Int) - ((xb.size:Nat):Int))).toNat)) b))) (K (.string xa) b))
theorem call198 {K:kQ} {h:Wa2} {xa xb:ByteArray} (H:F198 K h xa xb):Wa5 Tryz.prog 198 #[(.string xa),(.string xb)] h K:=
 cQ Tryz.func198 H
abbrev g197 (K:kQ) (h H1:Wa2):Prop:=
 (lI .i64 H1 (aQ h.size) λa=>ifB (a == 2) (K (.bool true) H1) (exI λI2=>(ifB (a == 0) (I2 [.bool true] H1) (ifB (a == 1) (I2 [.bool true] H1) (I2 [.bool (a == 3)] H1)))/\(∀(a:Value) (b:Env) (b:Wa2),(I2 [a] b)->(asBool a λa=>ifB a (lI .u32 b ⟨h.size,1,none⟩ λa=>ifB (a == 0) (lI .u32 b ⟨h.size,2,none⟩ λa=>K (.bool (a == 0)) b) (K (.bool false) b)) (K (.bool false) b)))))
def F197 (K:kQ) (h:Wa2) (xa xb xc:Int):Prop:=
 (g197 K h (Array.push h (.cells #[iQ xa,.int .u32 xb,.int .u32 xc] 43)))
theorem call197 {K:kQ} {h:Wa2} {xa xb xc:Int} (H:F197 K h xa xb xc):Wa5 Tryz.prog 197 #[(.agg #[(iQ xa),(.int .u32 xb),(.int .u32 xc)])] h K:=
 cQ Tryz.func197 H
def F199 (K:kQ) (h:Wa2) (xa:Int):Prop:=
 (exI λI0=>exM λm1=>(I0 [.int .u32 xa,.string (⟨#[]⟩ : ByteArray),.string (⟨#[]⟩ : ByteArray)] h)/\(∀(a b c:Value) (d:Env) (d:Wa2),(I0 [a,b,c] d)->(asInt .u32 a λe=>((10:Int)≠0)/\(Zd2 Tryz.prog 26 9 (.slice (some (aQ d.size)) 1 1) (Array.push d (.cells #[.int .u8 (IntKind.wrap .u8 (IntKind.wrap .u32 (48+(Int.tmod e 10))))] 5)) λe f=>We4 e λe=>We4 c λg=>(((((e.size+g.size):Nat):Int):Int)<=9223372036854775807)/\(asInt .u32 a λi=>((10:Int)≠0)/\(ifB ((IntKind.wrap .u32 (Int.tdiv i 10)) == 0) (K (.string (e ++ g)) f) ((I0 [.int .u32 (IntKind.wrap .u32 (Int.tdiv i 10)),b,.string (e ++ g)] f)/\((m1 [.int .u32 (IntKind.wrap .u32 (Int.tdiv i 10)),b,.string (e ++ g)] f) < (m1 [a,b,c] d)))))))))
theorem call199 {K:kQ} {h:Wa2} {xa:Int} (H:F199 K h xa):Wa5 Tryz.prog 199 #[(.int .u32 xa)] h K:=
 cQ Tryz.func199 H
def F275 (K:kQ) (h:Wa2) (xa xb:ByteArray):Prop:=
 (ifB (decide (((xa.size:Nat):Int) >= ((xb.size:Nat):Int))) (((0:Int)<=(IntKind.wrap .i64 (((xa.size:Nat):Int) - ((xb.size:Nat):Int))))/\((((IntKind.wrap .i64 (((xa.size:Nat):Int) - ((xb.size:Nat):Int))):Int)<=((xa.size:Nat):Int))/\(K (.bool ((xa.extract (IntKind.wrap .i64 (((xa.size:Nat):Int) - ((xb.size:Nat):Int))).toNat xa.size).toList == xb.toList)) h))) (K (.bool false) h))
theorem call275 {K:kQ} {h:Wa2} {xa xb:ByteArray} (H:F275 K h xa xb):Wa5 Tryz.prog 275 #[(.string xa),(.string xb)] h K:=
 cQ Tryz.func275 H
end
section
def dch (n:Nat):UInt8:=UInt8.ofNat (48+n % 10)
def dgA:Nat->Nat->ByteArray->ByteArray
 | 0,_,acc=>acc
 | f+1,n,acc=>if n < 10 then ⟨#[dch n]⟩ ++ acc else dgA f (n / 10) (⟨#[dch n]⟩ ++ acc)
def dg (n:Nat):ByteArray:=dgA 20 n ⟨#[]⟩
theorem WJ3 (u:UInt8):(⟨#[u]⟩ : ByteArray).size=1:=rfl
theorem Zg5:∀f n acc,(dgA f n acc).size<=acc.size+f:=by
 intro f
 induction f with
 | zero=>intro n acc;exact Nat.le_refl _
 | succ f ih=>
  intro n acc
  unfold dgA
  split
  ·rw [ByteArray.size_append,WJ3];omega
  ·have:=ih (n / 10) (⟨#[dch n]⟩ ++ acc)
   rw [ByteArray.size_append,WJ3] at this
   omega
theorem Ym1 (n:Nat):(dg n).size<=20:=by
 have:=Zg5 20 n ⟨#[]⟩
 have e:(⟨#[]⟩ : ByteArray).size=0:=rfl
 unfold dg;omega
theorem ZN3 {n:Nat} (h:n < 256):IntKind.u8.wrap (n:Int)=(n:Int):=by
 unfold IntKind.wrap IntKind.signed IntKind.bits
 have e:(n:Int) % 2 ^ 8=n:=Int.emod_eq_of_lt (by omega) (by omega)
 simp only [e]
 rw [if_neg (by simp)]
theorem YV8 {n:Nat} (h:n < 4294967296):IntKind.u32.wrap (n:Int)=(n:Int):=by
 unfold IntKind.wrap IntKind.signed IntKind.bits
 have e:(n:Int) % 2 ^ 32=n:=Int.emod_eq_of_lt (by omega) (by omega)
 simp only [e]
 rw [if_neg (by simp)]
theorem W51 {n:Nat} (h:n < 18446744073709551616):IntKind.u64.wrap (n:Int)=(n:Int):=by
 unfold IntKind.wrap IntKind.signed IntKind.bits
 have e:(n:Int) % 2 ^ 64=n:=Int.emod_eq_of_lt (by omega) (by omega)
 simp only [e]
 rw [if_neg (by simp)]
theorem ZE2 (n:Nat):Int.tmod (n:Int) 10=((n % 10:Nat):Int):=rfl
theorem ZE3 (n:Nat):Int.tdiv (n:Int) 10=((n / 10:Nat):Int):=rfl
theorem WS0:und Tryz.prog 26=.slice 5:=by kernel_rfl
theorem Zg6:und Tryz.prog 5=.int .u8:=by kernel_rfl
theorem YV9:und Tryz.prog 9=.string:=by kernel_rfl
theorem Zg7 {h:Wa2} {b:Nat} {v:Int} {t:TypeId} {K:kQ} (e:h[b]? = some (.cells #[.int .u8 v] t)) (k:K (.string ⟨#[UInt8.ofNat v.toNat]⟩) h):Zd2 Tryz.prog 26 9 (.slice (some (aQ b)) 1 1) h K:=by
 unfold Zd2 convert
 simp only [Wa6,Wa8 (Wc6 WS0 (by simp)),Wa8 (Wc6 YV9 (by simp)),Wa8 (Wc6 Zg6 (by simp))]
 show hp Tryz.prog (Conv.bytesToString _) K h
 unfold Conv.bytesToString
 simp only [Wa6]
 show hp Tryz.prog (loadCellsFrom (aQ b) 0 1 #[]) _ h
 refine We5 _ _ 0 [] _ ?_
 refine Wb4 (v:=.int .u8 v) ?_ ?_
 ·rw [Wc4];exact Wk0 e
 show hp Tryz.prog _ _ h
 simp only [List.reverse_cons,List.reverse_nil,List.nil_append,List.forIn_toArray]
 exact k
theorem WS1 {K:kQ} {h:Wa2} {n:Nat} (hn:n < 4294967296) (k:∀h',Old h.size h h'->K (.string (dg n)) h'):Wa5 Tryz.prog 199 #[.int .u32 n] h K:=by
 refine call199 ?_
 unfold F199
 refine ⟨λvs h'=>∃v,∃m f:Nat,∃s:ByteArray,vs = [.int .u32 m,v,.string s]/\m < 4294967296/\m < 10 ^ (f+1)/\dgA (f+1) m s=dg n/\s.size+(f+1)<=20/\Old h.size h h',λvs _=>(match vs with | [.int _ m,_,_]=>m.toNat | _=>0),
  ⟨_,n,19,⟨#[]⟩,rfl,hn,by omega,rfl,Nat.le_refl _,Old.refl _ _⟩,?_⟩
 rintro v2 v3 v4 g5 h6 ⟨w,m,f,s,e,hm,hf,hr,hs,o6⟩
 cases e
 simp only [Wa4,We4,ZE2,ZE3]
 refine ⟨by omega,?_⟩
 have e1:IntKind.u32.wrap (48+((m % 10:Nat):Int))=((48+m % 10:Nat):Int):=by
  rw [show (48:Int)+((m % 10:Nat):Int)=((48+m % 10:Nat):Int) by omega];exact YV8 (by omega)
 rw [e1,ZN3 (by omega),YV8 (n:=m / 10) (by omega)]
 have p:=Wf2 h6 #[.int .u8 ((48+m % 10:Nat):Int)] 5
 generalize h6.push (.cells #[.int .u8 ((48+m % 10:Nat):Int)] 5)=h7 at *
 refine Zg7 p.new ?_
 have ec:UInt8.ofNat ((48+m % 10:Nat):Int).toNat=dch m:=rfl
 rw [ec]
 refine ⟨by rw [WJ3];omega,by omega,?_⟩
 have ok:=o6.trans (p.toOld.mono o6.1)
 unfold dgA at hr
 refine Wb6 (λh0=>?_) (λh0=>?_)
 ·have hlt:m < 10:=by simp at h0;omega
  rw [if_pos hlt] at hr
  rw [hr]
  exact k _ ok
 ·have hge:¬ m < 10:=by intro hlt;simp at h0;omega
  rw [if_neg hge] at hr
  obtain ⟨f,rfl⟩ : ∃f',f=f' + 1:=⟨f - 1,by
   cases f with
   | zero=>simp at hf;omega
   | succ f=>rfl⟩
  refine ⟨⟨_,m / 10,f,_,rfl,by omega,by rw [Nat.pow_succ] at hf;omega,hr,by rw [ByteArray.size_append,WJ3];omega,ok⟩,?_⟩
  show ((m / 10:Nat):Int).toNat < (m:Int).toNat
  omega
end
section
theorem WP7 {P:Program} (r:Nat) (F:Option (TypeId × Nat)->Wa2->Prop) (h:Wa2):hp P (shape r) F h=F (Ww1 h r) h:=rfl
theorem Yc0 {P:Program} {h:Wa2} {b:Nat} {row:Array Value} {t:TypeId} (e:h[b]? = some (.cells row t)) (F:Option (Addr × TypeId)->Wa2->Prop):hp P (viewAt b) F h=F none h:=by
 unfold viewAt
 have:Ww1 h b=some (t,row.size):=by unfold Ww1;rw [e]
 simp only [Wa6,WP7,this];rfl
theorem YH1 {P:Program} {h:Wa2} {b:Nat} {row:Array Value} {t:TypeId} (e:h[b]? = some (.cells row t)) (F:Option Nat->Wa2->Prop):hp P (cellsIn b) F h=F (some row.size) h:=by
 unfold cellsIn
 have:Ww1 h b=some (t,row.size):=by unfold Ww1;rw [e]
 simp only [Wa6,WP7,this];rfl
theorem Yc1:und Tryz.prog 160=.pointer 162:=by kernel_rfl
theorem Yz5:und Tryz.prog 267=.unsafePointer:=by kernel_rfl
theorem Ym2:Wf4 Tryz.prog 162=true:=by kernel_rfl
theorem Zv6:siz Tryz.prog 162=2:=by kernel_rfl
theorem ZE4:liesAt Tryz.prog Tryz.prog.depth 162 (2 / Tryz.prog.cellsOf 162) 0 162 1=true:=by kernel_rfl
theorem Zv7 {h:Wa2} {p:Nat} {v0 v1:Value} {K:kQ} (e:h[p]? = some (.cells #[v0,v1] 162)) (k:K (.pointer (some (aQ p))) h):Zd2 Tryz.prog 160 267 (.pointer (some (aQ p))) h K:=by
 unfold Zd2 convert
 simp only [Wa6,Wa8 (Wc6 Yc1 (by simp)),Wa8 (Wc6 Yz5 (by simp))]
 unfold Conv.unsafePointer
 simp only [Wa6,Wa8 (Wc6 Yc1 (by simp)),Wa8 (Wc6 Yz5 (by simp)),Conv.seenAt,Yc0 e,Wc0,YH1 e,Wd7 Ym2,Zv6]
 exact k
theorem YW0 {h:Wa2} {p:Nat} {v0 v1:Value} {K:kQ} (e:h[p]? = some (.cells #[v0,v1] 162)) (k:K (.pointer (some (aQ p))) h):Zd2 Tryz.prog 267 160 (.pointer (some (aQ p))) h K:=by
 unfold Zd2 convert
 simp only [Wa6,Wa8 (Wc6 Yc1 (by simp)),Wa8 (Wc6 Yz5 (by simp))]
 unfold Conv.unsafePointer
 have:Ww1 h p=some (162,2):=by unfold Ww1;rw [e];rfl
 simp only [Wa6,Wa8 (Wc6 Yc1 (by simp)),Wa8 (Wc6 Yz5 (by simp)),Conv.seenAt,Yc0 e,Wc0,Wd7 Ym2,Zv6,variablesAt,Wp5,WP7,this,ZE4]
 exact k
theorem Zg8 {P:Program} {f:FuncId} {fn:Func} {h:Wa2} {v:Value} {K:kQ} (h1:P.funcs[f]? = some fn) (h2:(fn.name == "runtime.NumGoroutine")=false) (h3:fn.body.isNone=true) (h4:(Extern.findNext fn).isNone=true)
  (h5:Extern.find fn=some Extern.AbiNoEscape.same) (k:K v h):ZC6 P f #[v] h K:=by
 unfold ZC6 callFunc
 have h4':Extern.findNext fn=none:=Option.isNone_iff_eq_none.1 h4
 clear h4
 rw [Wa6,Wp5,h1]
 show hp P (if (fn.name == "runtime.NumGoroutine")=true then _ else _) _ h
 rw [h2]
 show hp P (if fn.body.isNone=true then _ else _) _ h
 rw [h3,if_pos rfl,Wa6]
 show hp P (match Extern.findNext fn with | some e=>e #[v] | _=>_) _ h
 generalize Extern.findNext fn=o1 at *
 subst h4'
 show hp P (match Extern.find fn with | some e=>(do let x <- e #[v];pure (Next.value x)) | none=>_) _ h
 generalize Extern.find fn=o2 at *
 subst h5
 exact k
theorem Yc2 {h:Wa2} {v:Value} {K:kQ} (k:K v h):YR8 Tryz.prog (.func (.func 203) #[] #[]) #[v] h K:=by
 unfold YR8
 exact Zg8 Tryz.func203 (by kernel_rfl) (by kernel_rfl) (by kernel_rfl) (by kernel_rfl) k
theorem YW1 {P:Program} (d:Nat) {t el:TypeId} {a b:Addr} (hu:P.underlying t=some (.pointer el)) (hth:Wf4 P el=true) (hsz:siz P el≠0) (F:Bool->Wa2->Prop) (h:Wa2) (H:hp P (sameAddr a b) F h):hp P (Op.equalIn (d+1) t (.pointer (some a)) (.pointer (some b))) F h:=by
 simp only [Op.equalIn,Wa6,Wa8 hu,Wd7 hth]
 rw [if_pos hsz]
 exact H
theorem Zg9 {h:Wa2} {p:Nat} {K:kQ} (k:K (.bool false) h):Zr4 Tryz.prog .neq 160 (some (aQ p)) (some (aQ p)) h K:=by
 unfold Zr4
 rw [Wh2 (by simp) (by simp) (by simp) (by simp),Wf9]
 refine YW1 9999 (Wc6 Yc1 (by simp)) Ym2 (by rw [Zv6];omega) _ _ ?_
 unfold sameAddr
 simp only [beq_self_eq_true,if_true]
 exact k
theorem WF7 {h:Wa2} {p:Nat} {q:Option Addr} {v:Value} {K:kQ} (e:h[p]? = some (.cells #[.pointer q,v] 162)) (hq:q=none\/q=some (aQ p))
  (k:∀h',h'[p]? = some (.cells #[.pointer (some (aQ p)),v] 162)->h'.size=h.size->(∀c,c≠p->h'[c]? = h[c]?)->K (.tuple #[]) h') :
  Wa5 Tryz.prog 136 #[.pointer (some (aQ p))] h K:=by
 refine call136 ?_
 unfold F136 lP nP
 simp only [Wb8,Wb1]
 refine ldR e rfl ?_
 simp only [Wb2]
 rcases hq with rfl | rfl
 ·simp only [Option.isNone_none,Wd8]
  refine Zv7 e (Yc2 (YW0 e ?_))
  simp only [Wb2]
  refine stR e rfl trivial λh' w=>?_
  refine k h' ?_ w.size (λc hc=>w.old c hc)
  have:=w.new
  exact this
 ·simp only [Option.isNone_some,Wc5]
  refine ldR e rfl ?_
  simp only [Wb2]
  refine Zg9 ?_
  simp only [Wa9,Wc5]
  exact k h e rfl λ_ _=>rfl
end
section
def bcs (s:ByteArray):List Value:=s.data.toList.map λb=>.int .u8 b.toNat
theorem Ym3 (s:ByteArray):(bcs s).length=s.size:=by unfold bcs;rw [List.length_map,Array.length_toList];rfl
theorem YH2 (s x:ByteArray):bcs (s ++ x)=bcs s ++ bcs x:=by
 unfold bcs
 rw [ByteArray.data_append,Array.toList_append,List.map_append]
theorem Zh0 {P:Program} {t t2 elem:TypeId} {z:Value} {h:Wa2} {a:Option Addr} {l c n:Nat} {s:ByteArray} {xs ys:List Value} {K:kQ} (hu2:und P t2=.string) (hns:s.size=n) (hys:ys=bcs s)
  (hu:und P t=.slice elem) (hth:Wf4 P elem=true) (hz:zer P elem=some z) (hzs:z.cells.size=siz P elem)
  (ho:Own h elem (siz P elem) a l c xs) (hn:ys.length=n*siz P elem) (hone:∀y ∈ ys,Wi4 y True) (hb0:0 < byt P elem) (hb:(2*(l+n)+512)*byt P elem<=2 ^ 48)
  (H:∀a' c' h',Own h' elem (siz P elem) a' (l+n) c' (xs ++ ys)->h.size<=h'.size->(∀b,b < h.size->(∀ad,a=some ad->ad.block≠b)->h'[b]? = h[b]?)->(a' = a\/a' = some (aQ h.size))->K (.slice a' (l+n) c') h') :
  Wt2 P #[t,t2] t #[.slice a l c,.string s] h K:=by
 have hu':=Wc6 hu (by simp)
 obtain ⟨info,hinfo⟩:=Wt3 hth
 have hbyt:info.bytes=byt P elem:=by unfold byt;rw [hinfo]
 have hu2':=Wc6 hu2 (by simp)
 have first:∀(F:Array Value->Wa2->Prop),F ys.toArray h->hp P (Builtin.firstCells (siz P elem) n (.string s)) F h:=by
  intro F k
  subst hys hns
  show F ((s.extract 0 s.size).data.map λb=>Value.int .u8 b.toNat) h
  rw [ByteArray.extract_zero_size]
  have e:(bcs s).toArray=s.data.map λb=>Value.int .u8 b.toNat:=by
   unfold bcs
   rw [<- Array.toList_map]
  rw [<- e];exact k
 unfold Wt2 Builtin.append_
 simp only [List.getElem?_toArray,List.getElem?_cons_zero,List.getElem?_cons_succ,Wa6,Wc0,Wa8 hu',Wa8 hu2',Wd7 hth,Bool.false_eq_true,if_false]
 show hp P (Builtin.lenOf _) _ h
 simp only [Builtin.lenOf,Wc0,hns]
 rw [WF5]
 obtain ⟨hl,hlc,hor⟩:=ho
 split
 ·rename_i hcap
  simp only [Wa6]
  show hp P (if (!false)=true then _ else _) _ h
  refine first _ ?_
  rcases hor with ⟨rfl,rfl⟩ | ⟨b,row,rfl,hb2,hrs,hrt⟩
  ·have e1:l+n=0:=by omega
   have e2:n=0:=by omega
   subst e2
   have:ys = []:=by simpa using hn
   subst this
   simp only [Wa6,Wc0]
   refine H none 0 h ⟨by simp [hl],by omega,.inl ⟨rfl,rfl⟩⟩ (Nat.le_refl _) (λ_ _ _=>rfl) (.inl rfl)
  ·simp only [Wa6]
   have hlt:=(Array.getElem?_eq_some_iff.1 hb2).1
   have hmul:(l+n)*siz P elem<=c*siz P elem:=Nat.mul_le_mul_right _ hcap
   rw [Nat.add_mul] at hmul
   refine Wi9 _ _ h 0 _ ?_
   rw [Wc4]
   refine WM2 ys h b _ 0 row elem _ hb2 (by omega) hone ?_
   intro row' h1 h2
   simp only [Wc0]
   refine H (some (aQ b)) c _ ⟨by simp [hl,hn,Nat.add_mul],hcap,.inr ⟨b,row',rfl,Wl6 hlt,by rw [h1,hrs],?_⟩⟩ (by simp) (λb' hb' hne=>Wm7 (Ne.symm (hne _ rfl))) (.inl rfl)
   apply List.ext_getElem?
   intro j
   rw [List.getElem?_take,Array.getElem?_toList,h2 j]
   rw [Nat.add_mul]
   by_cases c1:j < l*siz P elem
   ·rw [if_pos (by omega),if_neg (by omega),List.getElem?_append_left (by omega),<- hrt,List.getElem?_take,if_pos c1,Array.getElem?_toList]
   ·rw [List.getElem?_append_right (by omega)]
    by_cases c2:j < l*siz P elem+n*siz P elem
    ·rw [if_pos c2,if_pos (by omega)]
     congr 1;omega
    ·rw [if_neg c2]
     symm;apply List.getElem?_eq_none;omega
 ·rename_i hcap
  simp only [Wa6,Wc0]
  have hbound:¬ Builtin.nextslicecap (l+n) c*info.bytes > 2 ^ 48:=by
   rw [hbyt]
   have:=Nat.le_trans (Nat.mul_le_mul_right (byt P elem) (WD9 (l+n) c (by omega))) hb
   omega
  simp only [Wa6,Wc0,Wg1 hinfo,WF5]
  rw [if_neg (by rw [hbyt];intro x;rcases x.2 with y | y <;> first | exact y | omega),if_neg hbound]
  show ∀tp,_
  intro tp
  rw [if_neg (by simp [Question.forced])]
  obtain ⟨cap,hcp⟩ : ∃cap,cap=(Question.appendCap (l+n) c elem).cut tp:=⟨_,rfl⟩
  have hcap2:l+n<=cap:=by rw [hcp];simp [Question.cut]
  rw [<- hcp]
  rw [show (Sem.pure cap:Sem Nat)=pure cap from rfl]
  simp only [Wa6,Wc0,Wg1 hinfo,Wt4]
  have old:∀(F:Array Value->Wa2->Prop),F xs.toArray h->hp P (Builtin.firstCells (siz P elem) l (.slice a l c)) F h:=by
   intro F k
   rcases hor with ⟨rfl,rfl⟩ | ⟨b,row,rfl,hb2,hrs,hrt⟩
   ·have:l=0:=by omega
    subst this
    have:xs = []:=by simpa using hl
    subst this;exact k
   ·show hp P (loadCells (aQ b) (l*siz P elem)) F h
    refine We5 _ _ 0 [] F ?_
    rw [<- hl]
    refine Wy5 xs 0 [] _ (λj v hj=>?_) (by simpa using k)
    rw [Wc4,Wc1 hb2,Nat.zero_add,Nat.zero_add,<- Array.getElem?_toList]
    rw [<- hrt,List.getElem?_take] at hj
    split at hj
    ·exact hj
    ·cases hj
  refine old _ ?_
  rw [Wa6,if_pos (show (!false)=true from rfl)]
  refine first _ ?_
  simp only [Wa6]
  simp only [Wi5 hz]
  show K (.slice (some (aQ h.size)) (l+n) cap) (h.push _)
  have hzc:(Builtin.zeroCells z.cells (cap - (l+n))).size=(cap - (l+n))*siz P elem:=by rw [Wr0,hzs]
  refine H _ cap _ ⟨by simp [hl,hn,Nat.add_mul],hcap2,.inr ⟨h.size,_,rfl,Wo3 _ _,?_,?_⟩⟩ (by simp) (λb hb' _=>Wj0 _ _ _ hb') (.inr rfl)
  ·simp only [Array.size_append,hzc,List.size_toArray,hl,hn,<- Nat.add_mul]
   congr 1;omega
  ·simp only [Array.toList_append,List.toList_toArray]
   rw [List.take_left' (by simp [hl,hn,Nat.add_mul])]
theorem W13:Wf4 Tryz.prog 5=true:=by kernel_rfl
theorem Zh1:zer Tryz.prog 5=some (.int .u8 0):=by kernel_rfl
theorem WE1:siz Tryz.prog 5=1:=by kernel_rfl
theorem Yz6:byt Tryz.prog 5=1:=by kernel_rfl
def Bld (h:Wa2) (p:Nat) (s:ByteArray):Prop:=
 ∃q a l c,h[p]? = some (.cells #[.pointer q,.slice a l c] 162)/\(q=none\/q=some (aQ p))/\Own h 5 1 a l c (bcs s)/\∀ad,a=some ad->p < ad.block
theorem Wr9 {h:Wa2} {p:Nat} {s x:ByteArray} {K:kQ} (H:Bld h p s) (hx:s.size+x.size<=2 ^ 30)
  (k:∀h',Bld h' p (s ++ x)->h.size<=h'.size->(∀c,c < p->h'[c]? = h[c]?)->K (.tuple #[iQ x.size,.nilIface]) h') :
  Wa5 Tryz.prog 94 #[.pointer (some (aQ p)),.string x] h K:=by
 refine call94 ?_
 unfold F94 cf lS nP
 obtain ⟨q,a,l,c,h1,h2,h3,h4⟩:=H
 refine Wa0 (WF7 h1 h2 λh1' e1 s1 o1=>?_)
 simp only [Wb8,Wb1]
 refine ldR e1 rfl ?_
 simp only [Wb0]
 have own1:Own h1' 5 1 a l c (bcs s):=h3.keep λad e=>o1 _ (by have:=h4 ad e;omega)
 have hls:l=s.size:=by have:=h3.1;rw [Ym3] at this;omega
 have hp1:p < h1'.size:=(Array.getElem?_eq_some_iff.1 e1).1
 refine Zh0 (elem:=5) (z:=.int .u8 0) (n:=x.size) (xs:=bcs s) (ys:=bcs x) YV9 rfl rfl WS0 W13 Zh1 (by rw [WE1];rfl) (by rw [WE1];exact own1) (by rw [WE1,Ym3];omega) ?_ (by rw [Yz6];omega) (by rw [Yz6];omega) ?_
 ·intro y hy
  unfold bcs at hy
  obtain ⟨b,_,rfl⟩:=List.mem_map.1 hy
  exact trivial
 intro a' c' h8 own8 hs8 old8 hor
 rw [WE1] at own8
 simp only [Wb0,Wb8,Wb1]
 have e8:h8[p]? = some (.cells #[.pointer (some (aQ p)),.slice a l c] 162):=(old8 p hp1 (λad e=>by have:=h4 ad e;omega)).trans e1
 refine stR e8 rfl trivial λh13 w=>?_
 have hge:∀ad,a' = some ad->p < ad.block:=by
  intro ad e
  rcases hor with rfl | rfl
  ·exact h4 ad e
  ·cases e;exact hp1
 refine k h13 ⟨_,a',l+x.size,c',w.new,.inr rfl,?_,hge⟩ (by rw [w.size];omega) (λb hb=>?_)
 ·rw [YH2]
  exact own8.keep λad e=>w.old _ (by have:=hge ad e;show ad.block≠p;omega)
 ·exact (w.old b (by show b≠p;omega)).trans ((old8 b (by omega) (λad e=>by have:=h4 ad e;omega)).trans (o1 b (by omega)))
theorem Yc3 {P:Program} {h:Wa2}:∀(l:List UInt8) (a:Addr) (acc:ByteArray) (F:ByteArray->Wa2->Prop),(∀(j:Nat) (x:UInt8),l[j]? = some x->Wa1 h (a.add j)=some (.int .u8 x.toNat))->F ⟨acc.data ++ l.toArray⟩ h->hp P (loadBytes a acc l.length) F h:=by
 intro l
 induction l with
 | nil=>
  intro a acc F _ k
  have e:(⟨acc.data ++ ([]:List UInt8).toArray⟩ : ByteArray)=acc:=by apply ByteArray.ext;simp
  rw [e] at k;exact k
 | cons x l ih=>
  intro a acc F hc k
  unfold List.length loadBytes
  rw [Wa6]
  have h0:=hc 0 x rfl
  rw [add_zero] at h0
  simp only [load,hp,h0]
  show hp P (loadBytes (a.add 1) (acc.push (((x.toNat:Int).toNat).toUInt8)) l.length) F h
  have hx:((x.toNat:Int).toNat).toUInt8=x:=by simp
  rw [hx]
  refine ih _ _ _ (λj y hj=>?_) ?_
  ·have:=hc (j+1) y (by simpa using hj)
   rw [Ww3,Nat.add_comm 1 j];exact this
  ·have e:(⟨(acc.push x).data ++ l.toArray⟩ : ByteArray)=⟨acc.data ++ (x :: l).toArray⟩:=by
    apply ByteArray.ext
    simp [ByteArray.push]
   rw [e];exact k
theorem YH3 {P:Program} {e:TypeId} (hc:P.cellsOf e=1) (count n:Nat) (hn:n<=count):liesAt P P.depth e count 0 e n=true:=by
 have hd:P.depth=(2*(P.types.size+Made.depth)+1)+1:=rfl
 rw [hd]
 simp only [liesAt,Bool.or_eq_true]
 left
 rw [hd]
 simp [rowAt,hc,hn,sameLayout]
theorem W14:Tryz.prog.cellsOf 5=1:=by kernel_rfl
theorem YW2:und Tryz.prog 226=.pointer 5:=by kernel_rfl
theorem Ym4 {h:Wa2} {p:Nat} {s:ByteArray} {K:kQ} (H:Bld h p s) (h0:s.size≠0) (hs:s.size < 2 ^ 60) (k:∀h',h'.size=h.size->(∀c,c<=p->h'[c]? = h[c]?)->K (.string s) h') :
  Wa5 Tryz.prog 97 #[.pointer (some (aQ p))] h K:=by
 refine call97 ?_
 unfold F97 lS nP
 obtain ⟨q,a,l,c,h1,h2,h3,h4⟩:=H
 have hls:l=s.size:=by have:=h3.1;rw [Ym3] at this;omega
 obtain ⟨g1,g2,g3⟩:=h3
 rcases g3 with ⟨rfl,hc0⟩ | ⟨b,row,rfl,hb,hrs,hrt⟩
 ·omega
 have hbp:p < b:=h4 _ rfl
 simp only [Wb8,Wb1]
 refine ldR h1 rfl ?_
 simp only [Wb0]
 refine ldR h1 rfl ?_
 simp only [Wb0]
 have hu:∀ {K:kQ},K (.pointer (some (aQ b))) h->ZL2 Tryz.prog #[26] 226 #[.slice (some (aQ b)) l c] h K:=by
  intro K kk
  obtain ⟨c',rfl⟩ : ∃c',c=c' + 1:=⟨c - 1,by omega⟩
  exact kk
 refine hu ?_
 simp only [Wb2]
 refine ⟨?_,?_⟩
 ·rw [Wc4,Wc1 h1];rfl
 have hn0:¬ ((l:Nat):Int) < 0:=by omega
 have hn1:¬ ((l:Nat):Int) > IntKind.i64.max:=by
  have e:IntKind.i64.max=9223372036854775807:=by decide
  omega
 have hl0:¬ ((l:Nat):Int)=0:=by omega
 have hsh:Ww1 h b=some (5,row.size):=by unfold Ww1;rw [hb]
 have hrow:row.size=c:=by omega
 have eu:Builtin.unsafeString_ #[226,3] 9 #[.pointer (some (aQ b)),iQ ((l:Nat):Int)]=(do
   if ((l:Nat):Int) < 0 then runtimePanic (.error "unsafe.String: len out of range")
   if ((l:Nat):Int) > IntKind.i64.max then unsupported (.unsafePointer "String: a length above the largest int")
   if ((l:Nat):Int)=0 then pure (.string .empty)
   else if <- variablesAt (aQ b) (<- elemOf 226) ((l:Nat):Int).toNat then do
    let s <- loadBytes (aQ b) .empty ((l:Nat):Int).toNat
    freeze (aQ b) ((l:Nat):Int).toNat
    pure (.string s)
   else unsupported (.unsafePointer "String: not so many bytes at ptr")):=rfl
 unfold ZL3
 rw [eu]
 simp only [Wa6,Wc0,if_neg hn0,if_neg hn1,if_neg hl0,Int.toNat_natCast,elemOf,Wa8 (Wc6 YW2 (by simp)),variablesAt,Wp5,WP7,hsh,W14,Nat.div_one,YH3 W14 row.size l (by omega),if_true]
 have hlen:l=s.data.toList.length:=by rw [hls,Array.length_toList];rfl
 have hload:∀ {F:ByteArray->Wa2->Prop},F s h->hp Tryz.prog (loadBytes (aQ b) .empty l) F h:=by
  intro F kk
  rw [hlen]
  refine Yc3 _ _ _ _ (λj x hj=>?_) ?_
  ·rw [Wc4,Wc1 hb,Nat.zero_add,<- Array.getElem?_toList]
   have hx:(bcs s)[j]? = some (.int .u8 x.toNat):=by unfold bcs;rw [List.getElem?_map,hj];rfl
   rw [<- hrt,List.getElem?_take] at hx
   split at hx
   ·exact hx
   ·cases hx
  ·have e:(⟨ByteArray.empty.data ++ s.data.toList.toArray⟩ : ByteArray)=s:=by
    apply ByteArray.ext;simp
   rw [e];exact kk
 refine hload ?_
 show K (.string s) (freezeAt h (aQ b) l)
 refine k _ ?_ (λx hx=>?_)
 ·unfold freezeAt
  split
  ·rfl
  ·simp
 ·unfold freezeAt
  split
  ·rfl
  ·rw [Array.getElem?_modify,if_neg (show ¬ ((aQ b) : Addr).block=x from by show ¬ b=x;omega)]
end
section
structure Ro where
 c0:Int
 c1:Int
 c2:Int
 c3:Int
 c4:Int
 c5:Int
 c6:Int
abbrev Ro.cells (r:Ro):List Value:=[iv r.c0,iv r.c1,iv r.c2,iv r.c3,iv r.c4,iv r.c5,iv r.c6]
def dgI (x:Int):ByteArray:=dg x.toNat
theorem Ym5 {K:kQ} {h:Wa2} {a b:Int} (k:∀h',Old h.size h h'->K (.bool true) h'):Wa5 Tryz.prog 197 #[.agg #[iQ 2,.int .u32 a,.int .u32 b]] h K:=by
 refine call197 ?_
 unfold F197 g197 lI
 have p:=Wf2 h #[iQ 2,.int .u32 a,.int .u32 b] 43
 generalize h.push (.cells #[iQ 2,.int .u32 a,.int .u32 b] 43)=h1 at *
 refine ldR p.new rfl ?_
 simp only [Wa4]
 exact Wb6 (λ_=>k _ p.toOld) (λe=>by simp at e)
theorem W52 {K:kQ} {h:Wa2} {a b:Nat} (ha:a < 4294967296) (hb:b < 4294967296) (k:∀h',Old h.size h h'->K (.string (dg a ++ (⟨#[32]⟩ : ByteArray) ++ dg b)) h') :
  Wa5 Tryz.prog 128 #[.agg #[iQ 2,.int .u32 a,.int .u32 b]] h K:=by
 refine call128 ?_
 unfold F128 g128 cf ce lI dl3
 have p:=Wf2 h #[iQ 2,.int .u32 a,.int .u32 b] 43
 generalize h.push (.cells #[iQ 2,.int .u32 a,.int .u32 b] 43)=h1 at *
 refine ldR p.new rfl (ldR p.new rfl (ldR p.new rfl ?_))
 refine Wa0 (Ym5 λh4 o4=>?_)
 simp only [Wa9,Bool.not_true,Wc5]
 have c:∀(i:Nat) (v:Value),([iQ 2,.int .u32 a,.int .u32 b]:List Value)[i]? = some v->Wa1 h4 ⟨h.size,i,none⟩=some v:=λi v e=>Wq0 _ _ o4 (Wd3 p.new e)
 have ok4:=p.toOld.trans (o4.mono p.toOld.1)
 refine Wb4 (c 0 _ rfl) ?_
 simp only [Wa4]
 refine Wb6 (λe=>by simp at e) (λ_=>Wb6 (λe=>by simp at e) (λ_=>Wb6 (λe=>by simp at e) (λ_=>?_)))
 refine Wb4 (c 1 _ rfl) ?_
 simp only [Wa4]
 refine Wb4 (c 2 _ rfl) ?_
 simp only [Wa4]
 have sa:=Ym1 a
 have sb:=Ym1 b
 refine Wa0 (WS1 ha λh13 o13=>?_)
 simp only [We4]
 refine ⟨Wq0 _ _ o13 (c 2 _ rfl),by omega,?_⟩
 refine Wa0 (WS1 hb λh16 o16=>?_)
 simp only [We4]
 refine ⟨by rw [ByteArray.size_append,WJ3];omega,?_⟩
 exact k _ ((ok4.trans (o13.mono ok4.1)).trans (o16.mono (Nat.le_trans ok4.1 o13.1)))
theorem WS2 {K:kQ} {h:Wa2} {s x:ByteArray} (hs:s.size < 2 ^ 60) (hx:x.size < 2 ^ 60) (k:K (.string s) h) :
  Wa5 Tryz.prog 127 #[.string (s ++ x),.string x] h K:=by
 refine call127 ?_
 unfold F127 cf
 refine Wa0 (call198 ?_)
 unfold F198 cf
 refine Wa0 (call275 ?_)
 unfold F275
 have e:IntKind.i64.wrap ((((s ++ x).size:Nat):Int) - ((x.size:Nat):Int))=((s.size:Nat):Int):=by
  rw [ByteArray.size_append,Wb5 (by omega) (by omega)];omega
 rw [e,Int.toNat_natCast]
 have hsz:(s ++ x).size=s.size+x.size:=ByteArray.size_append
 refine Wa3 (λ_=>⟨by omega,by omega,?_⟩) (λhn=>by omega)
 rw [ByteArray.extract_append_eq_right rfl hsz,ByteArray.extract_append_eq_left rfl]
 simp only [beq_self_eq_true,Wa9,Wd8]
 exact ⟨by omega,by omega,k⟩
theorem YW3 {cs:List Value} {t:TypeId} {i:Nat} {v:Value} {K:Value->Prop} (hs:siz Tryz.prog t=1) (ha:Zd9 Tryz.prog t=false) (e:cs[i]? = some v) (k:K v):WL0 Tryz.prog t cs.toArray (i*1) K:=by
 have:YE2 Tryz.prog t cs.toArray (i*1)=some v:=by
  unfold YE2
  rw [if_neg (by simp [ha]),Nat.mul_one,List.getElem?_toArray,e]
 unfold WL0
 rw [this]
 exact k
end
section

end
section

end
section
set_option maxRecDepth 100000
abbrev g61 (K:kQ) (h H1:Wa2):Prop:=
 (lI .i64 H1 (aQ h.size) λa=>ifB (a == 0) (K (.bool true) H1) (exI λI2=>(ifB (a == 1) (I2 [.bool true] H1) (I2 [.bool (a == 2)] H1))/\(∀(a:Value) (b:Env) (b:Wa2),(I2 [a] b)->(asBool a λa=>ifB a (lI .u32 b ⟨h.size,1,none⟩ λa=>ifB (a == 0) (lI .u32 b ⟨h.size,2,none⟩ λa=>K (.bool (a == 0)) b) (K (.bool false) b)) (K (.bool false) b)))))
def F61 (K:kQ) (h:Wa2) (xa xb xc:Int):Prop:=
 (g61 K h (Array.push h (.cells #[iQ xa,.int .u32 xb,.int .u32 xc] 41)))
theorem call61 {K:kQ} {h:Wa2} {xa xb xc:Int} (H:F61 K h xa xb xc):Wa5 Tryz.prog 61 #[(.agg #[(iQ xa),(.int .u32 xb),(.int .u32 xc)])] h K:=
 cQ Tryz.func61 H
end
section
structure C3 where
 o:Int
 k:Int
 v:Int
abbrev C3.cells (c:C3):List Value:=[iQ c.o,.int .u32 c.k,.int .u32 c.v]
def Yz7 (c:C3):Bool:=c.o == 0 || ((c.o == 1 || c.o == 2) && (c.k == 0 && c.v == 0))
def ZE5 (a:C3):Bool:=a.o == 2 || ((a.o == 0 || (a.o == 1 || a.o == 3)) && (a.k == 0 && a.v == 0))
def ZE6 (c a:C3):Bool:=Yz7 c && (ZE5 a && ((c.o == 0) == (a.o == 0 || a.o == 1)))
theorem WZ3 {K:kQ} {h:Wa2} {c:C3} (k:∀h',Old h.size h h'->K (.bool (Yz7 c)) h'):Wa5 Tryz.prog 61 #[.agg c.cells.toArray] h K:=by
 refine call61 ?_
 unfold F61 g61 lI
 have p:=Wf2 h c.cells.toArray 41
 rw [show h.push (.cells #[iQ c.o,.int .u32 c.k,.int .u32 c.v] 41)=h.push (.cells c.cells.toArray 41) from rfl]
 generalize h.push (.cells c.cells.toArray 41)=h1 at *
 have kk:=k _ p.toOld
 unfold Yz7 at kk
 refine ldR p.new rfl ?_
 simp only [Wa4]
 refine Wb6 (λe=>by rw [e] at kk;exact kk) (λe=>?_)
 rw [e,Bool.false_or] at kk
 refine ⟨λvs h'=>vs = [.bool (c.o == 1 || c.o == 2)]/\h' = h1,?_,?_⟩
 ·refine Wb6 (λe1=>⟨by rw [e1];rfl,rfl⟩) (λe1=>⟨by rw [e1,Bool.false_or],rfl⟩)
 rintro v3 g4 h5 ⟨e3,rfl⟩
 cases e3
 simp only [Wa9]
 refine Wb6 (λe1=>?_) (λe1=>by rw [e1] at kk;exact kk)
 rw [e1,Bool.true_and] at kk
 refine ldR p.new rfl ?_
 simp only [Wa4]
 refine Wb6 (λe2=>?_) (λe2=>by rw [e2] at kk;exact kk)
 rw [e2,Bool.true_and] at kk
 refine ldR p.new rfl ?_
 simp only [Wa4]
 exact kk
end
section

end
section
def doP (ps:List Pr) (c a:C3):Option (List Pr):=
 if ZE6 c a then
  if a.o=0 then some (ZQ1 (c.k,c.v) ps)
  else if a.o=1 then some ps
  else if a.o=3 then (if ps = [] then some ps else none)
  else if (a.k,a.v) ∈ ZE0 ps then (if c.o=1 then some (ps.erase (a.k,a.v)) else some ps) else none
 else none
end
section
set_option maxRecDepth 100000

end
section

end
section
def F291 (K:kQ) (h:Wa2) (xa:Option Addr) (xb xc:Nat):Prop:=
 (K (.func (.func 305) #[] #[.pointer (some (aQ h.size))]) (Array.push h (.cells #[.slice xa xb xc] 25)))
theorem call291 {K:kQ} {h:Wa2} {xa:Option Addr} {xb xc:Nat} (H:F291 K h xa xb xc):Wa5 Tryz.prog 291 #[(.slice xa xb xc)] h K:=
 cQ Tryz.func291 H
def F305 (K:kQ) (h:Wa2) (xa c0:Value):Prop:=
 (Wd2 c0 λa=>lS h a λa b c=>exI λI5=>exM λm6=>(I5 [.tuple #[],iQ 0] h)/\(∀(c d:Value) (e:Env) (e:Wa2),(I5 [c,d] e)->(asInt .i64 d λf=>ifB (decide (f < (b:Int))) (asI d λf=>bd f (b:Int) (Wd2 (.pointer a) λa=>lI .i64 e (Addr.add a (f.toNat*1)) λa=>Wv0 Tryz.prog xa #[iQ a] e λb f=>asBool b λb=>ifB (!b) (K (.tuple #[]) f) (asInt .i64 d λb=>(I5 [iQ a,iQ (IntKind.wrap .i64 (b+1))] f)/\((m6 [iQ a,iQ (IntKind.wrap .i64 (b+1))] f) < (m6 [c,d] e))))) (K (.tuple #[]) e))))
theorem call305 {K:kQ} {h:Wa2} {xa c0:Value} (H:F305 K h xa c0):Wa5 Tryz.prog 305 #[xa,c0] h K:=
 cQ Tryz.func305 H
abbrev g290 (K:kQ) (h H1 H2:Wa2) (xa xb:Value):Prop:=
 (Wi4 xa (Wi4 xb (exI λI0=>(ldH H2 (aQ h.size) λa=>Wk1 a λa=>ifB a (I0 [.bool true] H2) (ldH H2 (aQ H1.size) λa=>Wk1 a λa=>I0 [.bool a] H2))/\(∀(a:Value) (b:Env) (b:Wa2),(I0 [a] b)->(asBool a λa=>ifB a (K (.func (.func 303) #[] #[]) b) (K (.func (.func 304) #[] #[.pointer (some (aQ h.size)),.pointer (some (aQ H1.size))]) b))))))
def F290 (K:kQ) (h:Wa2) (xa xb:Value):Prop:=
 (g290 K h (Array.push h (.cells #[xa] 311)) (Array.push (Array.push h (.cells #[xa] 311)) (.cells #[xb] 102)) xa xb)
theorem call290 {K:kQ} {h:Wa2} {xa xb:Value} (H:F290 K h xa xb):Wa5 Tryz.prog 290 #[xa,xb] h K:=
 cQ Tryz.func290 H
abbrev g304 (K:kQ) (h H1:Wa2) (xa c0 c1:Value):Prop:=
 (Wi4 xa (Wd2 c0 λa=>ldH H1 a λa=>WQ9 Tryz.prog a 1 H1 (λI2 a b=>asInt .i64 (a.getD 0 (.tuple #[])) λa=>exI λI6=>(Wd2 c1 λc=>ldH b c λc=>Wv0 Tryz.prog c #[iQ a] b λb c=>asBool b λb=>ifB b (ldH c (aQ h.size) λb=>Wv0 Tryz.prog b #[iQ a] c λa b=>asBool a λa=>I6 [.bool (!a)] b) (I6 [.bool false] c))/\(∀(a:Value) (b:Env) (b:Wa2),(I6 [a] b)->(asBool a λa=>ifB a (I2 .ret b) (I2 .normal b)))) (λa=>(∀b:Wa2,(SameD h.size a b)->(K (.tuple #[]) b))) [(.ret,λa=>(∀b:Wa2,(SameD h.size a b)->(K (.tuple #[]) b)))]))
def F304 (K:kQ) (h:Wa2) (xa c0 c1:Value):Prop:=
 (g304 K h (Array.push h (.cells #[xa] 102)) xa c0 c1)
theorem call304 {K:kQ} {h:Wa2} {xa c0 c1:Value} (H:F304 K h xa c0 c1):Wa5 Tryz.prog 304 #[xa,c0,c1] h K:=
 cQ Tryz.func304 H
end
section
abbrev WJ4 (L:List Int) (k:Nat):Array Value:=#[iv (L.getD k 0)]
theorem ZE7 {p:Nat} {a:Option Addr} {l c:Nat} {xs:List Int} (hl:l < 2 ^ 60) :
  Zr8 Tryz.prog (.func (.func 305) #[] #[.pointer (some (aQ p))]) xs.length (WJ4 xs)
   (λh=>Wa1 h (aQ p)=some (.slice a l c)/\RI h a l c xs):=by
 intro yf y1 y2 h N I X hN hev hok hy
 refine W49 ?_
 rw [cl2]
 refine call305 ?_
 unfold F305 bd lS lI
 have hlen:=hev.2.len
 simp only [Wb1]
 refine Wb4 hev.1 ?_
 simp only [Wb0]
 refine ⟨λvs h'=>∃v,∃k:Nat,vs = [v,iv k]/\k<=l/\h.size<=h'.size/\I h.size k h',λvs _=>(match vs with | [_,.int _ n]=>l - n.toNat | _=>0),⟨_,0,rfl,by omega,Nat.le_refl _,hok.self⟩,?_⟩
 rintro v7 v8 g h10 ⟨v,k,e,hk,hs,hI⟩
 cases e
 simp only [Wa4,WG1]
 refine Wa3 (λhlt=>?_) (λhge=>?_)
 ·have hlt':k < xs.length:=by omega
  obtain ⟨ad,rfl,hc⟩:=(hok.env _ _ _ hN hs hI).2.at hlt'
  refine ⟨by omega,hlt,?_⟩
  simp only [Wb1,Int.toNat_natCast,Nat.mul_one]
  refine Wb4 hc ?_
  simp only [Wa4]
  have hyk:=hy h.size k h10 hlt' hN (Nat.le_refl _) hs hI
  have e2:WJ4 xs k=#[iQ xs[k]]:=by unfold WJ4;simp [hlt']
  rw [e2] at hyk
  refine WM0 ?_ hyk
  rintro w h'' ⟨hm,⟨rfl,hI'⟩ | ⟨rfl,hX⟩⟩
  ·simp only [Wa9,Bool.not_true,Wc5]
   rw [Wm3 (by omega)]
   refine ⟨⟨_,k+1,rfl,by omega,Nat.le_trans hs hm.1,hI'⟩,?_⟩
   show l - ((k+1:Nat):Int).toNat < l - (k:Int).toNat
   omega
  ·simp only [Wa9,Bool.not_false,Wd8]
   exact ⟨h.size,hN,Nat.le_refl _,Nat.le_trans hs hm.1,.inr hX⟩
 ·have:k=xs.length:=by omega
  subst this
  exact ⟨h.size,hN,Nat.le_refl _,hs,.inl hI⟩
end
section
theorem YW4 {L:List Int} {p:Int->Bool} {j:Nat} (hj:j < L.length) (hp:p L[j]=true) :
  ((L.take j).filter p).length < (L.filter p).length/\(L.filter p).getD ((L.take j).filter p).length 0=L[j]:=by
 have e:L.filter p=(L.take j).filter p ++ L[j] :: (L.drop (j+1)).filter p:=by
  conv=>lhs;rw [<- List.take_append_drop j L,List.filter_append,List.drop_eq_getElem_cons hj,List.filter_cons_of_pos hp]
 rw [e]
 constructor
 ·simp
 ·simp
theorem WS3 {L:List Int} {p:Int->Bool} {j:Nat} (hj:j < L.length):((L.take (j+1)).filter p).length=((L.take j).filter p).length+(if p L[j] then 1 else 0):=by
 rw [List.take_succ_eq_append_getElem hj,List.filter_append,List.length_append]
 cases h:p L[j] <;> simp [h]
theorem Ym6 {N M:Nat} {h h':Wa2} (o:Old h.size h h'):Zd3 N M h h':=⟨o.1,λb hb _=>o.2 b hb⟩
theorem WF8 {N M:Nat} {h h':Wa2} (o:Old h.size h h') (hM:M<=h.size):KeepMid N M h h':=⟨o.1,λb _ hb=>o.2 b (by omega)⟩
theorem KeepMid.trans {N M:Nat} {a b c:Wa2} (x:KeepMid N M a b) (y:KeepMid N M b c):KeepMid N M a c:=⟨Nat.le_trans x.1 y.1,λi h1 h2=>(y.2 i h1 h2).trans (x.2 i h1 h2)⟩
theorem KeepMid.mono {N N' M:Nat} {a b:Wa2} (x:KeepMid N M a b) (h:N<=N'):KeepMid N' M a b:=⟨x.1,λi h1 h2=>x.2 i (by omega) h2⟩
theorem Zh2 {sp kp:Nat} {g f:Value} {L:List Int} {p:Int->Bool} {D:Int->Prop} {Ev Ek:Wa2->Prop} (hD:∀x ∈ L,D x) (hg:fnV g) (hseq:Zr8 Tryz.prog g L.length (WJ4 L) Ev) (hst:∀h h',Old h.size h h'->Ev h->Ev h')
  (hsk:∀h h',Old h.size h h'->Ek h->Ek h') (hk:∀(h:Wa2) (x:Int) (K:kQ),Ek h->D x->(∀h',Old h.size h h'->K (.bool (p x)) h')->Wv0 Tryz.prog f #[iQ x] h K) :
  Zr8 Tryz.prog (.func (.func 304) #[] #[.pointer (some (aQ sp)),.pointer (some (aQ kp))]) (L.filter p).length (WJ4 (L.filter p))
   (λh=>Wa1 h (aQ sp)=some g/\Wa1 h (aQ kp)=some f/\Ev h/\Ek h):=by
 intro yf y1 y2 h N I X hN hev hok hy
 refine W49 ?_
 rw [cl3]
 refine call304 ?_
 unfold F304 g304
 simp only [Wb1,Yb7]
 have o1:Old h.size h (h.push (.cells #[.func yf y1 y2] 102)):=(Old.refl _ _).push _ (Nat.le_refl _)
 have n1:=Wo3 h (.cells #[.func yf y1 y2] 102)
 have s1:(h.push (.cells #[.func yf y1 y2] 102)).size=h.size+1:=by simp
 generalize h.push (.cells #[.func yf y1 y2] 102)=h1 at *
 refine Wb4 (Wq0 _ _ o1 hev.1) ?_
 refine Yb8 (h0:=h) (I:=I) (X:=X) (N:=N) (n:=L.length) (xs:=WJ4 L) (Ev:=Ev) (λ_ h'=>h'[h.size]? = some (.cells #[.func yf y1 y2] 102)) (λj=>((L.take j).filter p).length) (L.filter p).length False
  hg hseq (λ_ _=>rfl) hN o1 hok (λh' e=>e.2.2.1) (hst _ _ o1 hev.2.2.1) (by simp) (by simp) (λk ha hb hsame e=>(hsame _ (Nat.le_refl _) (by omega)).trans e) n1 ?_ ?_ ?_
 ·intro M j h4 hj hM hs hS hI
  rw [s1] at hM
  have e2:(WJ4 L j).getD 0 (.tuple #[])=iQ L[j]:=by unfold WJ4;simp [hj]
  rw [e2]
  simp only [Wa4]
  have hev4:=hok.env M _ h4 (by omega) hs hI
  refine ⟨λvs h'=>∃b:Bool,vs = [.bool b]/\KeepMid h1.size M h4 h'/\(if b then X M () h' else h'[h.size]? = some (.cells #[.func yf y1 y2] 102)/\I M ((L.take (j+1)).filter p).length h'),?_,?_⟩
  ·refine Wb4 hev4.2.1 ?_
   refine hk _ _ _ hev4.2.2.2 (hD _ (List.getElem_mem _)) λh10 o10=>?_
   simp only [Wa9]
   have hI10:=hok.keepI M _ h4 h10 (by omega) hs hI (Ym6 o10)
   have hS10:h10[h.size]? = some (.cells #[.func yf y1 y2] 102):=(o10.2 _ (by omega)).trans hS
   refine Wb6 (λhp=>?_) (λhp=>?_)
   ·refine Wb4 (Wk0 hS10) ?_
    obtain ⟨f1,f2⟩:=YW4 hj hp
    have hyk:=hy M _ h10 f1 (by omega) (by omega) (by have:=o10.1;omega) hI10
    rw [show WJ4 (L.filter p) ((L.take j).filter p).length=#[iQ L[j]] by unfold WJ4;rw [f2]] at hyk
    refine WM0 ?_ hyk
    rintro w h14 ⟨hm,hor⟩
    have hm4:KeepMid h1.size M h4 h14:=(WF8 o10 hs).trans (hm.mono (by omega))
    rcases hor with ⟨rfl,hI'⟩ | ⟨rfl,hX⟩
    ·simp only [Wa9,Bool.not_true]
     refine ⟨false,rfl,hm4,?_⟩
     simp only [Bool.false_eq_true,if_false]
     refine ⟨(hm.2 _ (by omega) (by omega)).trans hS10,?_⟩
     rw [WS3 hj,if_pos hp];exact hI'
    ·simp only [Wa9,Bool.not_false]
     exact ⟨true,rfl,hm4,by simp only [if_true];exact hX⟩
   ·refine ⟨false,rfl,WF8 o10 hs,?_⟩
    simp only [Bool.false_eq_true,if_false]
    refine ⟨hS10,?_⟩
    rw [WS3 hj,if_neg (by simp [hp])];exact hI10
  ·rintro v16 g17 h18 ⟨b,e,hm,hb⟩
   cases e
   simp only [Wa9]
   cases b with
   | true=>simp only [Wd8];simp only [if_true] at hb;exact ⟨hm,trivial,.inl hb⟩
   | false=>simp only [Wc5];simp only [Bool.false_eq_true,if_false] at hb;exact ⟨hm,by have:=hm.1;omega,hb⟩
 ·intro M h20 hM hs hI h21 hsd
  refine ⟨M,by omega,by omega,by rw [hsd.1];exact hs,.inl ?_⟩
  exact hok.dI M _ h20 h21 (hsd.mono hN) hI
 ·refine ⟨λM h22 hM hs hX h23 hsd=>?_,trivial⟩
  refine ⟨M,by omega,by omega,by rw [hsd.1];exact hs,.inr ?_⟩
  rcases hX with hX | hX
  ·exact hok.dX M _ h22 h23 (hsd.mono hN) hX
  ·exact hX.1.elim
end
section

end
section
set_option maxRecDepth 100000

end
section
structure Op9 where
 th:Int
 op:Int
 key:Int
 val:Int
 kind:Int
 ak:Int
 av:Int
 fr:Int
 to:Int
abbrev Op9.cells (o:Op9):List Value:=[iQ o.th,iQ o.op,.int .u32 o.key,.int .u32 o.val,iQ o.kind,.int .u32 o.ak,.int .u32 o.av,iQ o.fr,iQ o.to]
end
section
def ZR4 (ps:List Pr) (c:C3):C3:=if Yz7 c then (if c.o=0 then ⟨0,0,0⟩ else match ZE0 ps with | []=>⟨3,0,0⟩ | p :: _=>⟨2,p.1,p.2⟩) else ⟨1,0,0⟩
def dfC:C3:=⟨0,0,0⟩
def stP (cs:List C3):Nat->List Pr
 | 0=>[]
 | i+1=>let ps:=stP cs i;let c:=cs.getD i dfC;(doP ps c (ZR4 ps c)).getD ps
end
section
structure Op7 where
 pl:Int
 c:C3
 a:C3
abbrev Op7.cells (o:Op7):List Value:=[iQ o.pl,iQ o.c.o,.int .u32 o.c.k,.int .u32 o.c.v,iQ o.a.o,.int .u32 o.a.k,.int .u32 o.a.v]
end
section
open Go.ChangeShapes Go.WideShapes Go.ChangeAt Go.RowKit
theorem We9 {H:Type} {enc:TypeId × Value->H} {P:Program} {W:World} {base:Nat} {spare:Nat->Bool} {held:Bool} {fuel:Nat} {t:TypeId} {cs:List Value} {x:DataW H × List MemPlace} {fs:Array Field} (ht:P.underlying t=some (.struct fs))
  (h:DataW.trod enc P W base spare held fuel t cs=some x) (i:Nat) (f:Field) (hf:fs[i]? = some f):∃n y,DataW.trod enc P W base spare held n f.type ((cs.drop f.offset).take (P.cellsOf f.type))=some y:=by
 obtain ⟨xs,n,_,_,_,hlen,hfl⟩:=DataW.trod_struct ht h
 have hi:i < xs.length:=by rw [hlen];exact (Array.getElem?_eq_some_iff.1 hf).1
 exact ⟨n,xs[i],by rw [hfl i f hf,List.getElem?_eq_getElem hi]⟩
theorem Yc4 {H:Type} {enc:TypeId × Value->H} {P:Program} {W:World} {base:Nat} {spare:Nat->Bool} {held:Bool} {fuel:Nat} {t:TypeId} {cs:List Value} {x:DataW H × List MemPlace} {fs:Array Field} (ht:P.underlying t=some (.struct fs))
  (h:DataW.trod enc P W base spare held fuel t cs=some x):cs.length=P.cellsOf t:=by
 obtain ⟨xs,n,_,_,hl,_,_⟩:=DataW.trod_struct ht h
 exact hl
theorem YW5 {H:Type} {enc:TypeId × Value->H} {W:World} {α:Type} {f:α->List Value} {n:Nat} (hf:∀x,(f x).length=n) (hn:0 < n) {ts t:TypeId} (hu:Program.underlying Tryz.prog ts=some (.slice t)) (hco:Program.cellsOf Tryz.prog t=n)
  (hcell:∀fuel cs x,DataW.trod enc Tryz.prog W 0 (λ_=>true) true fuel t cs=some x->∃e,cs=f e) {d:DataW H} {ps:List MemPlace} {a:Option Addr} {l c:Nat}
  (h:DataW.Trod enc Tryz.prog W 0 (λ_=>true) true ts (.slice a l c) d ps):∃es:List α,SX f W.heap a l c es:=by
 obtain ⟨fuel,hf0⟩:=h
 rcases DataW.trod_slice hu hf0 with ⟨hcs,_⟩ | ⟨x,l1,c1,elems,rest,m,_,hcs,_,_,hl,hm,hlen,hel,_,_⟩
 ·simp [Value.cells] at hcs
  obtain ⟨rfl,rfl,rfl⟩:=hcs
  exact ⟨[],⟨Sees.nil _ _,rfl,Nat.le_refl _⟩⟩
 ·simp [Value.cells] at hcs
  obtain ⟨rfl,rfl,rfl⟩:=hcs
  have each:∀i,i < l->∃e:α,∀j v,(f e)[j]? = some v->Wa1 W.heap (x.add (i*n+j))=some v:=by
   intro i hi
   have:=hel i hi
   rw [List.getElem?_eq_getElem (by omega),Option.bind_eq_some_iff] at this
   obtain ⟨cs,h1,h2⟩:=this
   obtain ⟨e,rfl⟩:=hcell _ _ _ h2
   obtain ⟨_,h3,h4⟩:=World.cells?_some h1
   refine ⟨e,λj v hv=>?_⟩
   have hj:j < n:=by have:=(List.getElem?_eq_some_iff.1 hv).1;rwa [hf] at this
   rw [hco] at h1 h4
   have h5:=h4 j (by omega)
   rw [hv,Ww3] at h5
   exact h5
  have pick:∀m,m<=l->∃es:List α,es.length=m/\∀i (hi:i < es.length),∀j v,(f es[i])[j]? = some v->Wa1 W.heap (x.add (i*n+j))=some v:=by
   intro m
   induction m with
   | zero=>intro _;exact ⟨[],rfl,λi hi=>by simp at hi⟩
   | succ m ih=>
    intro hm
    obtain ⟨es,h1,h2⟩:=ih (by omega)
    obtain ⟨e,he⟩:=each m (by omega)
    refine ⟨es ++ [e],by simp [h1],λi hi j v hv=>?_⟩
    by_cases e:i < es.length
    ·rw [List.getElem_append_left e] at hv
     exact h2 i e j v hv
    ·have:i=m:=by simp at hi;omega
     subst this
     rw [List.getElem_append_right (by omega)] at hv
     simp only [h1,Nat.sub_self,List.getElem_singleton] at hv
     exact he j v hv
  obtain ⟨es,h1,h2⟩:=pick l (Nat.le_refl _)
  refine ⟨es,⟨?_,h1,hl⟩⟩
  intro q v hq
  have hqlt:q < es.length*n:=by rw [<- WJ2 hf];exact (List.getElem?_eq_some_iff.1 hq).1
  have hi:q / n < es.length:=(Nat.div_lt_iff_lt_mul hn).2 hqlt
  have e:=Wh3 hf hi (j:=q % n) (Nat.mod_lt _ hn)
  have e3:q / n*n+q % n=q:=by rw [Nat.mul_comm];exact Nat.div_add_mod q n
  rw [e3,hq] at e
  have:=h2 (q / n) hi (q % n) v e.symm
  rw [e3] at this
  exact ⟨x,rfl,this⟩
theorem Yc5:Program.cellsOf Tryz.prog 39=1:=by kernel_rfl
theorem Wi6:Program.cellsOf Tryz.prog 3=1:=by kernel_rfl
theorem W53:Program.cellsOf Tryz.prog 41=3:=by kernel_rfl
section
variable {H:Type} {enc:TypeId × Value->H} {W:World} {fuel:Nat} {cs:List Value} {x:DataW H × List MemPlace}
end
section
variable {H:Type} {enc:TypeId × Value->H} {W:World} {d:DataW H} {ps:List MemPlace} {a:Option Addr} {l c:Nat}
end
end
section
set_option maxRecDepth 100000
abbrev g59 (K:kQ) (h H1:Wa2):Prop:=
 (dl7 H1 h.size λa b c d e f g=>cf 98 #[.agg #[a,b,c,d,e,f,g]] H1 λa b=>Wh0 a λc=>Wc2 c 0 λc=>asAgg c λc=>We2 c 15 (Wm8 c λc d e f g i j k l m n o p q r=>Wh0 a λa=>Wc2 a 1 λa=>asInt .i64 a λa=>stH (Array.push b (.cells Ws5 117)) (aQ b.size) c λc=>stH c ⟨b.size,1,none⟩ d λc=>stH c ⟨b.size,2,none⟩ e λc=>stH c ⟨b.size,3,none⟩ f λc=>stH c ⟨b.size,4,none⟩ g λc=>stH c ⟨b.size,5,none⟩ i λc=>stH c ⟨b.size,6,none⟩ j λc=>stH c ⟨b.size,7,none⟩ k λc=>stH c ⟨b.size,8,none⟩ l λc=>stH c ⟨b.size,9,none⟩ m λc=>stH c ⟨b.size,10,none⟩ n λc=>stH c ⟨b.size,11,none⟩ o λc=>stH c ⟨b.size,12,none⟩ p λc=>stH c ⟨b.size,13,none⟩ q λc=>stH c ⟨b.size,14,none⟩ r λb=>K (iQ a) b))
def F59 (K:kQ) (h:Wa2) (xa xb xc xd xe xf xg:Int):Prop:=
 (g59 K h (Array.push h (.cells #[iQ xa,iQ xb,iQ xc,iQ xd,iQ xe,iQ xf,iQ xg] 23)))
theorem call59 {K:kQ} {h:Wa2} {xa xb xc xd xe xf xg:Int} (H:F59 K h xa xb xc xd xe xf xg):Wa5 Tryz.prog 59 #[(.agg #[(iQ xa),(iQ xb),(iQ xc),(iQ xd),(iQ xe),(iQ xf),(iQ xg)])] h K:=
 cQ Tryz.func59 H
abbrev g98 (K:kQ) (h H1 H2:Wa2):Prop:=
 (lI .i64 H2 (aQ h.size) λa=>lI .i64 H2 ⟨h.size,1,none⟩ λb=>lI .i64 H2 ⟨h.size,2,none⟩ λc=>lI .i64 H2 ⟨h.size,3,none⟩ λd=>lI .i64 H2 ⟨h.size,4,none⟩ λe=>lI .i64 H2 ⟨h.size,5,none⟩ λf=>lI .i64 H2 ⟨h.size,6,none⟩ λg=>cf 138 #[.slice (some (aQ H2.size)) 7 7] (Array.push H2 (.cells #[iQ a,iQ 0,iQ 2,iQ b,iQ 1,iQ 6,iQ c,iQ 1,iQ 64,iQ d,iQ 1,iQ 6,iQ e,iQ 1,iQ 16,iQ f,iQ 1,iQ 16,iQ g,iQ 1,iQ 64] 229)) λa b=>asBool a λa=>ifB (!a) (Zv5 b H1.size (iQ 0) (iQ 0) (iQ 0) (iQ 0) (iQ 0) (iQ 0) (iQ 0) (iQ 0) (iQ 0) (iQ 0) (iQ 0) (iQ 0) (iQ 0) (iQ 0) (iQ 0) λa=>WG2 a H1.size λc d e f g i j k l m n o p q r=>K (.tuple #[.agg #[c,d,e,f,g,i,j,k,l,m,n,o,p,q,r],iQ 6]) a) (dl7 b h.size λa c d e f g i=>lI .i64 b ⟨h.size,3,none⟩ λj=>lI .i64 b ⟨h.size,3,none⟩ λk=>stH (Array.push b (.cells Ws5 117)) (aQ b.size) a λa=>stH a ⟨b.size,1,none⟩ c λa=>stH a ⟨b.size,2,none⟩ d λa=>stH a ⟨b.size,3,none⟩ e λa=>stH a ⟨b.size,4,none⟩ f λa=>stH a ⟨b.size,5,none⟩ g λa=>stH a ⟨b.size,6,none⟩ i λa=>stH a ⟨b.size,7,none⟩ (iQ (IntKind.wrap .i64 ((IntKind.wrap .i64 (2*j))+2))) λa=>stH a ⟨b.size,8,none⟩ (iQ (IntKind.wrap .i64 (5+k))) λa=>stH a ⟨b.size,9,none⟩ (iQ 2) λa=>stH a ⟨b.size,10,none⟩ (iQ 0) λa=>stH a ⟨b.size,11,none⟩ (iQ 0) λa=>stH a ⟨b.size,12,none⟩ (iQ 0) λa=>stH a ⟨b.size,13,none⟩ (iQ 0) λa=>stH a ⟨b.size,14,none⟩ (iQ 0) λa=>exI λI73=>(lI .i64 a (aQ h.size) λc=>ifB (c == 0) (ldH a ⟨h.size,3,none⟩ λc=>asInt .i64 c λd=>((0:Int)<=d)/\(stH a ⟨b.size,7,none⟩ (iQ 2) λe=>ce e h.size 3 c (stH e ⟨b.size,8,none⟩ (iQ 3) λe=>ce e h.size 3 c (stH e ⟨b.size,9,none⟩ (iQ 0) λe=>ce e h.size 3 c (I73 [iQ (IntKind.wrap .i64 (1*(2 ^ (min d.toNat 64))))] e))))) (I73 [iQ 0] a))/\(∀(a:Value) (c:Env) (c:Wa2),(I73 [a] c)->(lI .i64 c ⟨h.size,2,none⟩ λd=>lI .i64 c ⟨b.size,9,none⟩ λe=>ifB (decide (d<=e)) (Zv5 c H1.size (iQ 0) (iQ 0) (iQ 0) (iQ 0) (iQ 0) (iQ 0) (iQ 0) (iQ 0) (iQ 0) (iQ 0) (iQ 0) (iQ 0) (iQ 0) (iQ 0) (iQ 0) λd=>WG2 d H1.size λe f g i j k l m n o p q r s t=>K (.tuple #[.agg #[e,f,g,i,j,k,l,m,n,o,p,q,r,s,t],iQ 6]) d) (stH c ⟨b.size,10,none⟩ (iQ 8) λc=>lI .i64 c ⟨b.size,10,none⟩ λd=>lI .i64 c ⟨h.size,1,none⟩ λe=>lI .i64 c ⟨b.size,7,none⟩ λf=>stH c ⟨b.size,11,none⟩ (iQ (IntKind.wrap .i64 (d+(IntKind.wrap .i64 (e*f))))) λc=>lI .i64 c ⟨b.size,11,none⟩ λd=>lI .i64 c ⟨h.size,2,none⟩ λe=>stH c ⟨b.size,12,none⟩ (iQ (IntKind.wrap .i64 (d+e))) λc=>lI .i64 c ⟨b.size,12,none⟩ λd=>lI .i64 c ⟨h.size,2,none⟩ λe=>lI .i64 c ⟨b.size,8,none⟩ λf=>stH c ⟨b.size,13,none⟩ (iQ (IntKind.wrap .i64 (d+(IntKind.wrap .i64 (e*f))))) λc=>lI .i64 c ⟨b.size,13,none⟩ λd=>asInt .i64 a λa=>stH c ⟨b.size,14,none⟩ (iQ (IntKind.wrap .i64 (d+a))) λa=>WG2 a b.size λb c d e f g i j k l m n o p q=>Zv5 a H1.size b c d e f g i j k l m n o p q λa=>WG2 a H1.size λb c d e f g i j k l m n o p q=>K (.tuple #[.agg #[b,c,d,e,f,g,i,j,k,l,m,n,o,p,q],iQ 0]) a)))))
def F98 (K:kQ) (h:Wa2) (xa xb xc xd xe xf xg:Int):Prop:=
 (g98 K h (Array.push h (.cells #[iQ xa,iQ xb,iQ xc,iQ xd,iQ xe,iQ xf,iQ xg] 23)) (Array.push (Array.push h (.cells #[iQ xa,iQ xb,iQ xc,iQ xd,iQ xe,iQ xf,iQ xg] 23)) (.cells Ws5 117)))
theorem call98 {K:kQ} {h:Wa2} {xa xb xc xd xe xf xg:Int} (H:F98 K h xa xb xc xd xe xf xg):Wa5 Tryz.prog 98 #[(.agg #[(iQ xa),(iQ xb),(iQ xc),(iQ xd),(iQ xe),(iQ xf),(iQ xg)])] h K:=
 cQ Tryz.func98 H
def F138 (K:kQ) (h:Wa2) (xa:Option Addr) (xb xc:Nat):Prop:=
 (exI λI0=>exM λm1=>(I0 [.bool false,iQ 0] h)/\(∀(a b:Value) (c:Env) (c:Wa2),(I0 [a,b] c)->(asInt .i64 b λd=>ifB (decide (d < ((xb:Nat):Int))) (asI b λd=>bd d ((xb:Nat):Int) (Wd2 (.pointer xa) λe=>ldH c (Addr.add e (d.toNat*3)) λf=>ldH c (Addr.add (Addr.add e (d.toNat*3)) 1) λg=>ldH c (Addr.add (Addr.add e (d.toNat*3)) 2) λd=>stH (Array.push c (.cells #[iQ 0,iQ 0,iQ 0] 229)) (aQ c.size) f λe=>stH e ⟨c.size,1,none⟩ g λe=>stH e ⟨c.size,2,none⟩ d λd=>exI λI15=>(lI .i64 d (aQ c.size) λe=>lI .i64 d ⟨c.size,1,none⟩ λf=>ifB (decide (e < f)) (I15 [.bool true] d) (lI .i64 d (aQ c.size) λe=>lI .i64 d ⟨c.size,2,none⟩ λf=>I15 [.bool (decide (e > f))] d))/\(∀(d:Value) (e:Env) (e:Wa2),(I15 [d] e)->(asBool d λd=>ifB d (K (.bool false) e) (asInt .i64 b λd=>(I0 [a,iQ (IntKind.wrap .i64 (d+1))] e)/\((m1 [a,iQ (IntKind.wrap .i64 (d+1))] e) < (m1 [a,b] c))))))) (K (.bool true) c))))
theorem call138 {K:kQ} {h:Wa2} {xa:Option Addr} {xb xc:Nat} (H:F138 K h xa xb xc):Wa5 Tryz.prog 138 #[(.slice xa xb xc)] h K:=
 cQ Tryz.func138 H
abbrev g9 (K:kQ) (h H1:Wa2):Prop:=
 (exI λI0=>(lI .i64 H1 (aQ h.size) λa=>ifB (decide (a < 0)) (I0 [.bool true,.bool true,.bool true,.bool true,.bool true,.bool true,.bool true] H1) (lI .i64 H1 (aQ h.size) λa=>ifB (decide (a > 2)) (I0 [.bool (decide (a > 2)),.bool true,.bool true,.bool true,.bool true,.bool true,.bool true] H1) (lI .i64 H1 ⟨h.size,1,none⟩ λb=>ifB (decide (b < 1)) (I0 [.bool (decide (a > 2)),.bool (decide (b < 1)),.bool true,.bool true,.bool true,.bool true,.bool true] H1) (lI .i64 H1 ⟨h.size,1,none⟩ λc=>ifB (decide (c > 6)) (I0 [.bool (decide (a > 2)),.bool (decide (b < 1)),.bool (decide (c > 6)),.bool true,.bool true,.bool true,.bool true] H1) (lI .i64 H1 ⟨h.size,2,none⟩ λd=>ifB (decide (d < 1)) (I0 [.bool (decide (a > 2)),.bool (decide (b < 1)),.bool (decide (c > 6)),.bool (decide (d < 1)),.bool true,.bool true,.bool true] H1) (lI .i64 H1 ⟨h.size,2,none⟩ λe=>ifB (decide (e > 64)) (I0 [.bool (decide (a > 2)),.bool (decide (b < 1)),.bool (decide (c > 6)),.bool (decide (d < 1)),.bool (decide (e > 64)),.bool true,.bool true] H1) (lI .i64 H1 ⟨h.size,3,none⟩ λf=>ifB (decide (f < 1)) (I0 [.bool (decide (a > 2)),.bool (decide (b < 1)),.bool (decide (c > 6)),.bool (decide (d < 1)),.bool (decide (e > 64)),.bool (decide (f < 1)),.bool true] H1) (lI .i64 H1 ⟨h.size,3,none⟩ λg=>I0 [.bool (decide (a > 2)),.bool (decide (b < 1)),.bool (decide (c > 6)),.bool (decide (d < 1)),.bool (decide (e > 64)),.bool (decide (f < 1)),.bool (decide (g > 6))] H1))))))))/\(∀(a b c d e f g:Value) (i:Env) (i:Wa2),(I0 [a,b,c,d,e,f,g] i)->(asBool g λa=>ifB a (K (.bool false) i) (exI λI27=>(lI .i64 i ⟨h.size,4,none⟩ λa=>ifB (decide (a < 1)) (I27 [.bool true,.bool true,.bool true,.bool true,.bool true] i) (lI .i64 i ⟨h.size,4,none⟩ λa=>ifB (decide (a > 16)) (I27 [.bool (decide (a > 16)),.bool true,.bool true,.bool true,.bool true] i) (lI .i64 i ⟨h.size,5,none⟩ λb=>ifB (decide (b < 1)) (I27 [.bool (decide (a > 16)),.bool (decide (b < 1)),.bool true,.bool true,.bool true] i) (lI .i64 i ⟨h.size,5,none⟩ λc=>ifB (decide (c > 16)) (I27 [.bool (decide (a > 16)),.bool (decide (b < 1)),.bool (decide (c > 16)),.bool true,.bool true] i) (lI .i64 i ⟨h.size,6,none⟩ λd=>ifB (decide (d < 1)) (I27 [.bool (decide (a > 16)),.bool (decide (b < 1)),.bool (decide (c > 16)),.bool (decide (d < 1)),.bool true] i) (lI .i64 i ⟨h.size,6,none⟩ λe=>I27 [.bool (decide (a > 16)),.bool (decide (b < 1)),.bool (decide (c > 16)),.bool (decide (d < 1)),.bool (decide (e > 64))] i))))))/\(∀(a b c d e:Value) (f:Env) (f:Wa2),(I27 [a,b,c,d,e] f)->(asBool e λa=>ifB a (K (.bool false) f) (ldH f ⟨h.size,2,none⟩ λa=>asInt .i64 a λb=>dl7 f h.size λc d e g i j k=>cf 28 #[.agg #[c,d,e,g,i,j,k]] f λc d=>asInt .i64 c λc=>ce d h.size 2 a (K (.bool (decide (b > c))) d))))))))
def F9 (K:kQ) (h:Wa2) (xa xb xc xd xe xf xg:Int):Prop:=
 (g9 K h (Array.push h (.cells #[iQ xa,iQ xb,iQ xc,iQ xd,iQ xe,iQ xf,iQ xg] 23)))
theorem call9 {K:kQ} {h:Wa2} {xa xb xc xd xe xf xg:Int} (H:F9 K h xa xb xc xd xe xf xg):Wa5 Tryz.prog 9 #[(.agg #[(iQ xa),(iQ xb),(iQ xc),(iQ xd),(iQ xe),(iQ xf),(iQ xg)])] h K:=
 cQ Tryz.func9 H
abbrev g28 (K:kQ) (h H1:Wa2):Prop:=
 (lI .i64 H1 (aQ h.size) λa=>ifB (a == 0) (K (iQ 0) H1) (K (iQ 2) H1))
def F28 (K:kQ) (h:Wa2) (xa xb xc xd xe xf xg:Int):Prop:=
 (g28 K h (Array.push h (.cells #[iQ xa,iQ xb,iQ xc,iQ xd,iQ xe,iQ xf,iQ xg] 23)))
theorem call28 {K:kQ} {h:Wa2} {xa xb xc xd xe xf xg:Int} (H:F28 K h xa xb xc xd xe xf xg):Wa5 Tryz.prog 28 #[(.agg #[(iQ xa),(iQ xb),(iQ xc),(iQ xd),(iQ xe),(iQ xf),(iQ xg)])] h K:=
 cQ Tryz.func28 H
end
section
abbrev W15 (X Y Z:Nat->Int) (i:Nat):Prop:=Y i<=X i/\X i<=Z i
theorem Ym7 {K:kQ} {h:Wa2} {a:Addr} {l c:Nat} {X Y Z:Nat->Int} (hl:l<=1000)
  (H:∀i,i < l->Wa1 h (a.add (i*3))=some (iv (X i))/\Wa1 h ((a.add (i*3)).add 1)=some (iv (Y i))/\Wa1 h ((a.add (i*3)).add 2)=some (iv (Z i)))
  (k1:(∀i,i < l->W15 X Y Z i)->∀h',Old h.size h h'->K (.bool true) h') (k0:(∃i,i < l/\¬ W15 X Y Z i)->∀h',Old h.size h h'->K (.bool false) h') :
  Wa5 Tryz.prog 138 #[.slice (some a) l c] h K:=by
 refine call138 ?_
 unfold F138 bd lI
 refine ⟨λvs h'=>∃i:Nat,vs = [.bool false,iv i]/\Old h.size h h'/\i<=l/\∀j,j < i->W15 X Y Z j,λvs _=>(match vs with | [_,.int _ n]=>l - n.toNat | _=>0),⟨0,rfl,Old.refl _ _,Nat.zero_le _,λj hj=>by omega⟩,?_⟩
 rintro v2 v3 g h5 ⟨i,e,ho,hi,hall⟩
 cases e
 simp only [Wa4,WG1]
 refine Wa3 (λhlt=>?_) (λhge=>?_)
 ·obtain ⟨e1,e2,e3⟩:=H i (by omega)
  refine ⟨by omega,hlt,?_⟩
  simp only [Wb1,Int.toNat_natCast]
  refine Wb4 (Wq0 _ _ ho e1) (Wb4 (Wq0 _ _ ho e2) (Wb4 (Wq0 _ _ ho e3) ?_))
  have p:=Wf2 h5 #[iQ 0,iQ 0,iQ 0] 229
  generalize h5.push (.cells #[iQ 0,iQ 0,iQ 0] 229)=hp at *
  refine st3 (Wd9 p.new rfl (by simp [Wi4]) λh14 w=>?_)
  have o14:Old h.size h h14:=w.toOld (ho.trans (p.toOld.mono ho.1)) ho.1
  refine ⟨λvs h'=>vs = [.bool (decide (¬ W15 X Y Z i))]/\h' = h14,?_,?_⟩
  ·refine ldR w.new rfl ?_
   simp only [Wa4]
   refine ldR w.new rfl ?_
   simp only [Wa4]
   refine Wa3 (λh1=>⟨?_,by trivial⟩) (λh1=>?_)
   ·rw [decide_eq_true (by unfold W15;omega)]
   ·refine ldR w.new rfl ?_
    simp only [Wa4]
    refine ldR w.new rfl ?_
    simp only [Wa4]
    refine ⟨?_,by trivial⟩
    congr 2;rw [decide_eq_decide];unfold W15;omega
  ·rintro v24 g25 h26 ⟨e,rfl⟩
   cases e
   simp only [Wa9]
   refine Wa3 (λh1=>k0 ⟨i,by omega,h1⟩ _ o14) (λh1=>?_)
   rw [Wm3 (by omega)]
   refine ⟨⟨i+1,rfl,o14,by omega,λj hj=>?_⟩,?_⟩
   ·by_cases hji:j < i
    ·exact hall j hji
    ·rw [show j=i by omega];exact Decidable.of_not_not h1
   ·show l - ((i+1:Nat):Int).toNat < l - (i:Int).toNat
    omega
 ·exact k1 (λj hj=>hall j (by omega)) _ ho
structure Cf where
 a:Int
 t:Int
 n:Int
 l:Int
 b:Int
 p:Int
 s:Int
def Cf.sent (c:Cf):Int:=if c.a=0 then 0 else 2
def Cf.slots (c:Cf):Int:=if c.a=0 then 2 else 2*c.l+2
def Cf.width (c:Cf):Int:=if c.a=0 then 3 else 5+c.l
def Cf.links (c:Cf):Int:=8+c.t*c.slots
def Cf.nodes (c:Cf):Int:=c.links+c.n
def Cf.tree (c:Cf):Int:=c.nodes+c.n*c.width
def Cf.size (c:Cf):Int:=c.tree+(if c.a=0 then 2 ^ c.l.toNat else 0)
structure Cf.Right (c:Cf):Prop where
 a:0<=c.a/\c.a<=2
 t:1<=c.t/\c.t<=6
 n:1<=c.n/\c.n<=64
 l:1<=c.l/\c.l<=6
 b:1<=c.b/\c.b<=16
 p:1<=c.p/\c.p<=16
 s:1<=c.s/\c.s<=64
 z:c.sent < c.n
abbrev Cf.vals (c:Cf):Array Value:=#[iQ c.a,iQ c.t,iQ c.n,iQ c.l,iQ c.b,iQ c.p,iQ c.s]
abbrev Cf.plan (c:Cf):Array Value:=#[iQ c.a,iQ c.t,iQ c.n,iQ c.l,iQ c.b,iQ c.p,iQ c.s,iQ c.slots,iQ c.width,iQ c.sent,iQ 8,iQ c.links,iQ c.nodes,iQ c.tree,iQ c.size]
abbrev Wk3:Array Value:=Ws5
theorem Yz8 {K:kQ} {h:Wa2} (c:Cf) (k1:c.Right->∀h',Old h.size h h'->K (.tuple #[.agg c.plan,iQ 0]) h') (k0:¬ c.Right->∀h',Old h.size h h'->K (.tuple #[.agg Wk3,iQ 6]) h') :
  Wa5 Tryz.prog 98 #[.agg c.vals] h K:=by
 refine call98 ?_
 unfold F98 g98 cf ce lI dl7 WG2 Zv5
 have p1:=Wf2 h c.vals 23
 rw [show h.push (.cells #[iQ c.a,iQ c.t,iQ c.n,iQ c.l,iQ c.b,iQ c.p,iQ c.s] 23)=h.push (.cells c.vals 23) from rfl]
 generalize h.push (.cells c.vals 23)=h1 at *
 have p2:=Wf2 h1 Wk3 117
 rw [show h1.push (.cells Ws5 117)=h1.push (.cells Wk3 117) from rfl]
 generalize h1.push (.cells Wk3 117)=h2 at *
 have s1:=p1.size
 have s2:=p2.size
 have c2:h2[h.size]? = some (.cells c.vals 23):=(p2.old _ (by omega)).trans p1.new
 have o2:Old h.size h h2:=p1.toOld.trans (p2.toOld.mono (by omega))
 rw [s1]
 have n2:h2[h.size+1]? = some (.cells Wk3 117):=by rw [<- s1];exact p2.new
 iterate 7 (refine ldR c2 rfl ?_;simp only [Wa4])
 have p3:=Wf2 h2 #[iQ c.a,iQ 0,iQ 2,iQ c.t,iQ 1,iQ 6,iQ c.n,iQ 1,iQ 64,iQ c.l,iQ 1,iQ 6,iQ c.b,iQ 1,iQ 16,iQ c.p,iQ 1,iQ 16,iQ c.s,iQ 1,iQ 64] 229
 generalize h2.push (.cells #[iQ c.a,iQ 0,iQ 2,iQ c.t,iQ 1,iQ 6,iQ c.n,iQ 1,iQ 64,iQ c.l,iQ 1,iQ 6,iQ c.b,iQ 1,iQ 16,iQ c.p,iQ 1,iQ 16,iQ c.s,iQ 1,iQ 64] 229)=h3 at *
 have o3:Old h2.size h2 h3:=p3.toOld
 have c3:=(o3.2 _ (by omega)).trans c2
 have n3:=(o3.2 _ (by omega)).trans n2
 have nothing:∀(h':Wa2) (row:Array Value),Old h.size h h'->h'[h.size+1]? = some (.cells row 117)->row.size=15->¬ c.Right->∀(F:Wa2->Prop),(∀h'',Old h.size h h''->h''[h.size+1]? = some (.cells Wk3 117)->F h'') ->
   stN h' ⟨h.size+1,0,none⟩ 0 Wk3.toList F:=by
  intro h' row o hb hr hn F hF
  refine Wd9 hb (by rw [hr];rfl) (by simp [Wi4]) λh'' w=>?_
  exact hF _ (w.toOld o (by omega)) (by simpa using w.new)
 refine Wa0 (Ym7 (X:=λi=>[c.a,c.t,c.n,c.l,c.b,c.p,c.s].getD i 0) (Y:=λi=>[0,1,1,1,1,1,1].getD i 0) (Z:=λi=>[2,6,64,6,16,16,64].getD i 0) (by omega) ?_ (λhall h15 o15=>?_) (λhex h15 o15=>?_))
 ·intro i hi
  simp only [Wc4]
  have:i=0\/i=1\/i=2\/i=3\/i=4\/i=5\/i=6:=by omega
  rcases this with rfl | rfl | rfl | rfl | rfl | rfl | rfl <;> exact ⟨Wd3 p3.new rfl,Wd3 p3.new rfl,Wd3 p3.new rfl⟩
 ·
  have q0:0<=c.a/\c.a<=2:=hall 0 (by omega)
  have q1:1<=c.t/\c.t<=6:=hall 1 (by omega)
  have q2:1<=c.n/\c.n<=64:=hall 2 (by omega)
  have q3:1<=c.l/\c.l<=6:=hall 3 (by omega)
  have q4:1<=c.b/\c.b<=16:=hall 4 (by omega)
  have q5:1<=c.p/\c.p<=16:=hall 5 (by omega)
  have q6:1<=c.s/\c.s<=64:=hall 6 (by omega)
  have s3:=p3.size
  have c15:=(o15.2 _ (by omega)).trans c3
  have n15:=(o15.2 _ (by omega)).trans n3
  have ok15:Old h.size h h15:=(o2.trans (o3.mono (by omega))).trans (o15.mono (by omega))
  have hs15:h.size+3<=h15.size:=by have:=o15.1;omega
  simp only [Wa9,Bool.not_true,Wc5]
  iterate 7 (refine ldR c15 rfl ?_)
  refine ldR c15 rfl ?_
  simp only [Wa4]
  refine ldR c15 rfl ?_
  simp only [Wa4]
  have p4:=Wf2 h15 Wk3 117
  rw [show h15.push (.cells Ws5 117)=h15.push (.cells Wk3 117) from rfl]
  generalize h15.push (.cells Wk3 117)=h16 at *
  refine Zd4 (Wd9 p4.new rfl (by simp [Wi4]) λh72 w72=>?_)
  have c72:=(w72.old h.size (by omega)).trans ((p4.old _ (by omega)).trans c15)
  have n72:=(w72.old (h.size+1) (by omega)).trans ((p4.old _ (by omega)).trans n15)
  have o72:Old h.size h h72:=w72.toOld (ok15.trans (p4.toOld.mono ok15.1)) ok15.1
  have e1:IntKind.wrap .i64 (2*c.l)=2*c.l:=Wb5 (by omega) (by omega)
  have e2:IntKind.wrap .i64 (2*c.l+2)=2*c.l+2:=Wb5 (by omega) (by omega)
  have e3:IntKind.wrap .i64 (5+c.l)=5+c.l:=Wb5 (by omega) (by omega)
  have w72':=w72.new
  simp only [e1,e2,e3] at w72'
  refine ⟨λvs h'=>vs = [iv (if c.a=0 then 2 ^ c.l.toNat else 0)]/\Old h.size h h'/\h'.size=h72.size/\h'[h.size]? = some (.cells c.vals 23)/\h'[h.size+1]? = some (.cells Wk3 117) /\
   h'[h15.size]? = some (.cells #[iQ c.a,iQ c.t,iQ c.n,iQ c.l,iQ c.b,iQ c.p,iQ c.s,iQ c.slots,iQ c.width,iQ c.sent,iQ 0,iQ 0,iQ 0,iQ 0,iQ 0] 117),?_,?_⟩
  ·refine ldR c72 rfl ?_
   simp only [Wa4]
   refine Wb6 (λha=>?_) (λha=>?_)
   ·have ha:c.a=0:=by simpa using ha
    refine ldR c72 rfl ?_
    simp only [Wa4]
    refine ⟨by omega,stR w72' rfl trivial λh78 w78=>?_⟩
    refine ⟨Wd3 ((w78.old _ (by omega)).trans c72) rfl,stR w78.new rfl trivial λh79 w79=>?_⟩
    refine ⟨Wd3 ((w79.old _ (by omega)).trans ((w78.old _ (by omega)).trans c72)) rfl,stR w79.new rfl trivial λh80 w80=>?_⟩
    have w:=(w78.trans w79).trans w80
    refine ⟨Wd3 ((w.old _ (by omega)).trans c72) rfl,?_,w.toOld o72 ok15.1,w.size,(w.old _ (by omega)).trans c72,(w.old _ (by omega)).trans n72,?_⟩
    ·rw [if_pos ha]
     congr 2
     have:c.l.toNat<=6:=by omega
     rw [Int.one_mul,show min c.l.toNat 64=c.l.toNat by omega]
     have:∀k:Nat,k<=6->IntKind.wrap .i64 ((2:Int) ^ k)=2 ^ k:=by decide
     exact this _ (by omega)
    ·rw [w.new]
     simp only [Cf.slots,Cf.width,Cf.sent,if_pos ha]
     rfl
   ·have ha:c.a≠0:=by simpa using ha
    refine ⟨?_,o72,by trivial,c72,n72,?_⟩
    ·rw [if_neg ha]
    ·rw [w72']
     simp only [Cf.slots,Cf.width,Cf.sent,if_neg ha]
  rintro v81 g82 h83 ⟨e,o83,s83,c83,n83,m83⟩
  cases e
  refine ldR c83 rfl ?_
  simp only [Wa4]
  refine ldR m83 rfl ?_
  simp only [Wa4]
  refine Wa3 (λhz=>?_) (λhz=>?_)
  ·have hn:¬ c.Right:=λr=>by have:=r.z;omega
   refine Zd4 (nothing h83 Wk3 o83 n83 rfl hn _ λh102 o102 n102=>?_)
   iterate 15 (refine ldR n102 rfl ?_)
   exact k0 hn _ o102
  ·have hr:c.Right:=⟨q0,q1,q2,q3,q4,q5,q6,by omega⟩
   have hslots:2<=c.slots/\c.slots<=14:=by unfold Cf.slots;split <;> omega
   have hwidth:3<=c.width/\c.width<=11:=by unfold Cf.width;split <;> omega
   have m1:c.t*c.slots<=6*14:=Int.mul_le_mul q1.2 hslots.2 (by omega) (by omega)
   have m2:0<=c.t*c.slots:=Int.mul_nonneg (by omega) (by omega)
   have m3:c.n*c.width<=64*11:=Int.mul_le_mul q2.2 hwidth.2 (by omega) (by omega)
   have m4:0<=c.n*c.width:=Int.mul_nonneg (by omega) (by omega)
   have m5:∀k:Nat,k<=6->0<=(2:Int) ^ k/\(2:Int) ^ k<=64:=by decide
   have m6:=m5 c.l.toNat (by omega)
   refine stR m83 rfl trivial λh118 w118=>?_
   have c118:=(w118.old h.size (by omega)).trans c83
   refine ldR w118.new rfl ?_
   simp only [Wa4]
   refine ldR c118 rfl ?_
   simp only [Wa4]
   refine ldR w118.new rfl ?_
   simp only [Wa4]
   rw [Wb5 (n:=c.t*c.slots) (by omega) (by omega),Wb5 (n:=8+c.t*c.slots) (by omega) (by omega)]
   refine stR w118.new rfl trivial λh125 w125=>?_
   have c125:=(w125.old h.size (by omega)).trans c118
   refine ldR w125.new rfl ?_
   simp only [Wa4]
   refine ldR c125 rfl ?_
   simp only [Wa4]
   rw [Wb5 (n:=8+c.t*c.slots+c.n) (by omega) (by omega)]
   refine stR w125.new rfl trivial λh130 w130=>?_
   have c130:=(w130.old h.size (by omega)).trans c125
   refine ldR w130.new rfl ?_
   simp only [Wa4]
   refine ldR c130 rfl ?_
   simp only [Wa4]
   refine ldR w130.new rfl ?_
   simp only [Wa4]
   rw [Wb5 (n:=c.n*c.width) (by omega) (by omega),Wb5 (n:=8+c.t*c.slots+c.n+c.n*c.width) (by omega) (by omega)]
   refine stR w130.new rfl trivial λh137 w137=>?_
   refine ldR w137.new rfl ?_
   simp only [Wa4]
   have m7:0<=(if c.a=0 then (2:Int) ^ c.l.toNat else 0)/\(if c.a=0 then (2:Int) ^ c.l.toNat else 0)<=64:=by split <;> omega
   rw [Wb5 (n:=8+c.t*c.slots+c.n+c.n*c.width+(if c.a=0 then (2:Int) ^ c.l.toNat else 0)) (by omega) (by omega)]
   refine stR w137.new rfl trivial λh141 w141=>?_
   have w:=(((w118.trans w125).trans w130).trans w137).trans w141
   have r141:h141[h15.size]? = some (.cells c.plan 117):=by
    rw [w.new];rfl
   have n141:=(w.old (h.size+1) (by omega)).trans n83
   iterate 15 (refine ldR r141 rfl ?_)
   refine Zd4 (Wd9 n141 rfl (by simp [Wi4]) λh171 w171=>?_)
   iterate 15 (refine ldR w171.new rfl ?_)
   exact k1 hr _ (w171.toOld (w.toOld o83 (by omega)) (by omega))
 ·
  have hn:¬ c.Right:=by
   intro r
   obtain ⟨i,hi,hx⟩:=hex
   have:i=0\/i=1\/i=2\/i=3\/i=4\/i=5\/i=6:=by omega
   rcases this with rfl | rfl | rfl | rfl | rfl | rfl | rfl
   ·exact hx r.a
   ·exact hx r.t
   ·exact hx r.n
   ·exact hx r.l
   ·exact hx r.b
   ·exact hx r.p
   ·exact hx r.s
  have s3:=p3.size
  have n15:=(o15.2 _ (by omega)).trans n3
  have ok15:Old h.size h h15:=(o2.trans (o3.mono (by omega))).trans (o15.mono (by omega))
  simp only [Wa9,Bool.not_false,Wd8]
  refine Zd4 (nothing h15 Wk3 ok15 n15 rfl hn _ λh31 o31 n31=>?_)
  iterate 15 (refine ldR n31 rfl ?_)
  exact k0 hn _ o31
end
section
open Go.ChangeShapes Go.WideShapes Go.ChangeAt Go.RowKit
end
section
abbrev W92:=Nat->Option Obj
def Hp:=W92->Prop
def Nd (_:Obj):Prop:=∀_:Unit,False->False
def Sub (σ:W92) (h:Wa2):Prop:=∀b o,σ b=some o->h[b]? = some o/\Nd o
theorem Sub.mk {σ:W92} {h:Wa2} (s:∀b o,σ b=some o->h[b]? = some o) (d:∀b o,σ b=some o->Nd o):Sub σ h:=λb o e=>⟨s b o e,d b o e⟩
theorem Sub.at {σ:W92} {h:Wa2} (s:Sub σ h) (b:Nat) (o:Obj) (e:σ b=some o):h[b]? = some o:=(s b o e).1
theorem Sub.nd {σ:W92} {h:Wa2} (s:Sub σ h) (b:Nat) (o:Obj) (e:σ b=some o):Nd o:=(s b o e).2
def Sat (h:Wa2) (P:Hp):Prop:=∃σ,Sub σ h/\P σ
def uni (σ τ:W92):W92:=λb=>(σ b).or (τ b)
def dis (σ τ:W92):Prop:=∀b,σ b=none\/τ b=none
instance:Mul Hp:=⟨λP Q ρ=>∃σ τ,dis σ τ/\ρ=uni σ τ/\P σ/\Q τ⟩
def emp:Hp:=λσ=>σ=λ_=>none
def ex {α:Type} (P:α->Hp):Hp:=λσ=>∃a,P a σ
def pr (p:Prop) (P:Hp):Hp:=λσ=>p/\P σ
def pt (b:Nat) (o:Obj):Hp:=λσ=>∀c,σ c=if c=b then some o else none
def lift (D:Nat->Prop) (F:Wa2->Prop):Hp:=λσ=>(∀b,D b↔σ b≠none)/\∀h,Sub σ h->F h
theorem Zh3 {σ τ:W92} (d:dis σ τ):dis τ σ:=λb=>(d b).symm
theorem Zh4 {σ τ:W92} (d:dis σ τ):uni σ τ=uni τ σ:=by
 funext b
 unfold uni
 rcases d b with e | e <;> rw [e] <;> simp
theorem Yc6 (σ τ ρ:W92):uni (uni σ τ) ρ=uni σ (uni τ ρ):=by
 funext b;unfold uni;cases σ b <;> simp
theorem Wv1 {σ τ:W92} {b:Nat}:uni σ τ b=none↔σ b=none/\τ b=none:=by unfold uni;cases σ b <;> simp
theorem Ww8 (P Q:Hp):P*Q=Q*P:=by
 have key:∀(P Q:Hp) ρ,(P*Q) ρ->(Q*P) ρ:=λP Q ρ ⟨σ,τ,d,e,p,q⟩=>⟨τ,σ,Zh3 d,e.trans (Zh4 d),q,p⟩
 funext ρ
 exact propext ⟨key P Q ρ,key Q P ρ⟩
theorem Wc7 (P Q R:Hp):P*Q*R=P*(Q*R):=by
 funext ρ
 refine propext ⟨?_,?_⟩
 ·rintro ⟨_,ξ,d,rfl,⟨σ,τ,d2,rfl,p,q⟩,r⟩
  refine ⟨σ,uni τ ξ,λb=>?_,Yc6 _ _ _,p,τ,ξ,λb=>?_,rfl,q,r⟩
  ·rcases d b with e | e
   ·exact .inl (Wv1.1 e).1
   ·rcases d2 b with e2 | e2
    ·exact .inl e2
    ·exact .inr (Wv1.2 ⟨e2,e⟩)
  ·rcases d b with e | e
   ·exact .inl (Wv1.1 e).2
   ·exact .inr e
 ·rintro ⟨σ,_,d,rfl,p,τ,ξ,d2,rfl,q,r⟩
  refine ⟨uni σ τ,ξ,λb=>?_,(Yc6 _ _ _).symm,⟨σ,τ,λb=>?_,rfl,p,q⟩,r⟩
  ·rcases d b with e | e
   ·rcases d2 b with e2 | e2
    ·exact .inl (Wv1.2 ⟨e,e2⟩)
    ·exact .inr e2
   ·exact .inr (Wv1.1 e).2
  ·exact (d b).imp id λe=>(Wv1.1 e).1
instance:Std.Associative (α:=Hp) (· * ·):=⟨Wc7⟩
instance:Std.Commutative (α:=Hp) (· * ·):=⟨Ww8⟩
theorem Sat.ac {h:Wa2} {P Q:Hp} (H:Sat h P) (e:P=Q):Sat h Q:=e ▸ H
theorem Wb7 (P Q R:Hp):P*(Q*R)=Q*(P*R):=by rw [<- Wc7,Ww8 P Q,Wc7]
theorem Yz9 (A B C R:Hp):A*(B*(C*R))=C*(A*(B*R)):=by rw [Wb7 B C,Wb7 A C]
theorem ZN4 (A B C D R:Hp):A*(B*(C*(D*R)))=D*(A*(B*(C*R))):=by rw [Wb7 C D,Wb7 B D,Wb7 A D]
theorem Wl0 (P:Hp):emp*P=P:=by
 funext ρ
 refine propext ⟨?_,λp=>⟨λ_=>none,ρ,λb=>.inl rfl,by funext b;simp [uni],rfl,p⟩⟩
 rintro ⟨_,τ,d,rfl,rfl,p⟩
 have:uni (λ_=>none) τ=τ:=by funext b;simp [uni]
 rw [this];exact p
theorem Zv8 {α:Type} (P:α->Hp) (R:Hp):ex P*R=ex λa=>P a*R:=by
 funext ρ
 refine propext ⟨?_,?_⟩
 ·rintro ⟨σ,τ,d,e,⟨a,p⟩,r⟩;exact ⟨a,σ,τ,d,e,p,r⟩
 ·rintro ⟨a,σ,τ,d,e,p,r⟩;exact ⟨σ,τ,d,e,⟨a,p⟩,r⟩
theorem Zv9 (p:Prop) (P R:Hp):pr p P*R=pr p (P*R):=by
 funext ρ
 refine propext ⟨?_,?_⟩
 ·rintro ⟨σ,τ,d,e,⟨a,p⟩,r⟩;exact ⟨a,σ,τ,d,e,p,r⟩
 ·rintro ⟨a,σ,τ,d,e,p,r⟩;exact ⟨σ,τ,d,e,⟨a,p⟩,r⟩
theorem Sat.ex {h:Wa2} {α:Type} {P:α->Hp} {R:Hp}:Sat h (Proofs.YtahpbclnkofhfaaGreat.ex P*R)↔∃a,Sat h (P a*R):=by
 rw [Zv8]
 exact ⟨λ⟨σ,s,a,p⟩=>⟨a,σ,s,p⟩,λ⟨a,σ,s,p⟩=>⟨σ,s,a,p⟩⟩
theorem Sat.pr {h:Wa2} {p:Prop} {P R:Hp}:Sat h (Proofs.YtahpbclnkofhfaaGreat.pr p P*R)↔p/\Sat h (P*R):=by
 rw [Zv9]
 exact ⟨λ⟨σ,s,a,p⟩=>⟨a,σ,s,p⟩,λ⟨a,σ,s,p⟩=>⟨σ,s,a,p⟩⟩
theorem Sub.left {σ τ:W92} {h:Wa2} (s:Sub (uni σ τ) h):Sub σ h:=λb o e=>s b o (by unfold uni;rw [e];rfl)
theorem Sub.right {σ τ:W92} {h:Wa2} (d:dis σ τ) (s:Sub (uni σ τ) h):Sub τ h:=λb o e=>s b o (by
 unfold uni
 rcases d b with x | x
 ·rw [x];simpa using e
 ·rw [x] at e;cases e)
theorem Sub.uni {σ τ:W92} {h:Wa2} (s:Sub σ h) (t:Sub τ h):Sub (Proofs.YtahpbclnkofhfaaGreat.uni σ τ) h:=λb o e=>by
 unfold Proofs.YtahpbclnkofhfaaGreat.uni at e
 cases e2:σ b with
 | none=>rw [e2] at e;exact t b o (by simpa using e)
 | some o2=>rw [e2] at e;exact s b o (by rw [e2];simpa using e)
theorem Sub.lt {σ:W92} {h:Wa2} (s:Sub σ h) {b:Nat} (e:σ b≠none):b < h.size:=by
 cases e2:σ b with
 | none=>exact absurd e2 e
 | some o=>exact (Array.getElem?_eq_some_iff.1 (s.at b o e2)).1
theorem Sat.drop {h:Wa2} {P R:Hp} (H:Sat h (P*R)):Sat h R:=by
 obtain ⟨_,s,σ,τ,d,rfl,p,r⟩:=H
 exact ⟨τ,s.right d,r⟩
theorem Sat.mono {h:Wa2} {P Q R:Hp} (H:Sat h (P*R)) (f:∀σ,P σ->Q σ):Sat h (Q*R):=by
 obtain ⟨_,s,σ,τ,d,rfl,p,r⟩:=H
 exact ⟨_,s,σ,τ,d,rfl,f σ p,r⟩
theorem Sat.mono2 {h:Wa2} {P Q R:Hp} (H:Sat h (P*R)) (f:∀σ,R σ->Q σ):Sat h (P*Q):=by
 obtain ⟨_,s,σ,τ,d,rfl,p,r⟩:=H
 exact ⟨_,s,σ,τ,d,rfl,p,f τ r⟩
theorem Sat.drop2 {h:Wa2} {P Q R:Hp} (H:Sat h (P*(Q*R))):Sat h (P*R):=by
 rw [Wb7] at H;exact H.drop
theorem Sat.lt {h:Wa2} {b:Nat} {o:Obj} {R:Hp} (H:Sat h (pt b o*R)):b < h.size:=by
 obtain ⟨_,s,σ,τ,d,rfl,p,r⟩:=H
 exact s.left.lt (by rw [p b];simp)
theorem Sat.at {h:Wa2} {b:Nat} {o:Obj} {R:Hp} (H:Sat h (pt b o*R)):h[b]? = some o:=by
 obtain ⟨_,s,σ,τ,d,rfl,p,r⟩:=H
 exact s.left.at b o (by rw [p b];simp)
theorem Sat.at2 {h:Wa2} {b:Nat} {o:Obj} {P R:Hp} (H:Sat h (P*(pt b o*R))):h[b]? = some o:=Sat.at H.drop
theorem Sat.at3 {h:Wa2} {b:Nat} {o:Obj} {P Q R:Hp} (H:Sat h (P*(Q*(pt b o*R)))):h[b]? = some o:=Sat.at H.drop.drop
theorem Sat.ld {h:Wa2} {b i:Nat} {row:List Value} {t:TypeId} {R:Hp} {v:Value} {K:Value->Prop} (H:Sat h (pt b (.cells row.toArray t)*R)) (e:row[i]? = some v) (k:K v):ldH h ⟨b,i,none⟩ K:=ldR H.at e k
theorem Sat.old {h h':Wa2} {P:Hp} (H:Sat h P) (o:Old h.size h h'):Sat h' P:=by
 obtain ⟨σ,s,p⟩:=H
 exact ⟨σ,Sub.mk (λb x e=>(o.2 b (s.lt (by rw [e];simp))).trans (s.at b x e)) s.nd,p⟩
theorem Sat.push {h:Wa2} {R:Hp} (H:Sat h R) (o:Obj) (ho:Nd o:=by intro x e;cases e):Sat (h.push o) (pt h.size o*R):=by
 obtain ⟨τ,s,r⟩:=H
 refine ⟨uni (λc=>if c=h.size then some o else none) τ,?_,_,τ,λb=>?_,rfl,λc=>rfl,r⟩
 ·refine Sub.uni (λb x e=>?_) (Sub.mk (λb x e=>(Wj0 _ _ _ (s.lt (by rw [e];simp))).trans (s.at b x e)) s.nd)
  split at e
  ·rename_i hb;subst hb;cases e;exact ⟨Wo3 _ _,ho⟩
  ·cases e
 ·by_cases hb:b=h.size
  ·subst hb
   right
   apply Decidable.byContradiction
   intro hn
   exact absurd (s.lt hn) (Nat.lt_irrefl _)
  ·left;rw [if_neg hb]
theorem Sat.wr {h h':Wa2} {b:Nat} {o o':Obj} {R:Hp} (H:Sat h (pt b o*R)) (new:h'[b]? = some o') (old:∀c,c≠b->h'[c]? = h[c]?) (ho:Nd o':=by intro x e;cases e):Sat h' (pt b o' * R):=by
 obtain ⟨_,s,σ,τ,d,rfl,p,r⟩:=H
 refine ⟨uni (λc=>if c=b then some o' else none) τ,?_,_,τ,λc=>?_,rfl,λc=>rfl,r⟩
 ·refine Sub.uni (λc x e=>?_) (Sub.mk (λc x e=>(old c λhc=>?_).trans ((s.right d).at c x e)) (s.right d).nd)
  ·split at e
   ·rename_i hb;subst hb;cases e;exact ⟨new,ho⟩
   ·cases e
  ·subst hc
   rcases d c with h1 | h1
   ·rw [p c] at h1;simp at h1
   ·rw [h1] at e;cases e
 ·by_cases hc:c=b
  ·subst hc
   rcases d c with h1 | h1
   ·rw [p c] at h1;simp at h1
   ·exact .inr h1
  ·left;rw [if_neg hc]
theorem Sat.st {h:Wa2} {b i:Nat} {row:List Value} {t:TypeId} {R:Hp} {v:Value} {K:Wa2->Prop} (H:Sat h (pt b (.cells row.toArray t)*R)) (hi:Nat.ble (i+1) row.length=true) (ho:Wi4 v True)
  (k:∀h',Sat h' (pt b (.cells (row.set i v).toArray t)*R)->K h'):stH h ⟨b,i,none⟩ v K:=
 stR H.at hi ho λh' w=>k h' (H.wr w.new w.old)
theorem Sat.opn {h:Wa2} {D:Nat->Prop} {F:Wa2->Prop} {R:Hp} (H:Sat h (lift D F*R)):F h/\(∀b,D b->b < h.size) /\
  ∀(h':Wa2) (D':Nat->Prop) (F':Wa2->Prop),Fr D h h'->(∀b,D' b->(D b\/h.size<=b)/\b < h'.size)->(∀b o,D' b->h'[b]? = some o->Nd o)->(∀h'',(∀b,D' b->h''[b]? = h'[b]?)->F' h'')->Sat h' (lift D' F' * R):=by
 obtain ⟨_,s,σ,τ,d,rfl,⟨p1,p2⟩,r⟩:=H
 refine ⟨p2 h s.left,λb hb=>s.left.lt ((p1 b).1 hb),λh' D' F' hf hD hN hF=>?_⟩
 classical
 have hsub:Sub (λb=>if D' b then h'[b]? else none) h':=λb o e=>by
  have e:(if D' b then h'[b]? else none)=some o:=e
  split at e
  ·rename_i hb;exact ⟨e,hN b o hb e⟩
  ·cases e
 refine ⟨uni (λb=>if D' b then h'[b]? else none) τ,Sub.uni hsub (Sub.mk (λb o e=>?_) (s.right d).nd),_,τ,λb=>?_,rfl,⟨λb=>?_,λh'' s''=>hF h'' λb hb=>?_⟩,r⟩
 ·have hs:=(s.right d).at b o e
  refine (hf.2 b (s.right d |>.lt (by rw [e];simp)) λhb=>?_).trans hs
  rcases d b with h1 | h1
  ·exact (p1 b).1 hb h1
  ·rw [h1] at e;cases e
 ·by_cases hb:D' b
  ·right
   rcases (hD b hb).1 with h1 | h1
   ·exact (d b).resolve_left ((p1 b).1 h1)
   ·apply Decidable.byContradiction
    intro hn
    have:=(s.right d).lt hn
    omega
  ·left;rw [if_neg hb]
 ·constructor
  ·intro hb
   show (if D' b then h'[b]? else none)≠none
   rw [if_pos hb]
   have:=(hD b hb).2
   simp [this]
  ·intro hn
   by_cases hb:D' b
   ·exact hb
   ·have hn:(if D' b then h'[b]? else none)≠none:=hn
    rw [if_neg hb] at hn;exact absurd rfl hn
 ·have hlt:=(hD b hb).2
  have e:h'[b]? = some h'[b]:=by simp [hlt]
  rw [e]
  exact s''.at b _ (by show (if D' b then h'[b]? else none)=_;rw [if_pos hb,e])
theorem Sat.see {h:Wa2} {D:Nat->Prop} {F:Wa2->Prop} {R:Hp} (H:Sat h (lift D F*R)):F h:=H.opn.1
theorem YW6 {D:Nat->Prop} {F G:Wa2->Prop} (f:∀h,F h->G h):∀σ,lift D F σ->lift D G σ:=λσ ⟨a,b⟩=>⟨a,λh s=>f h (b h s)⟩
theorem Sat.mk_new {h h':Wa2} {D:Nat->Prop} {F:Wa2->Prop} {R:Hp} (H:Sat h R) (o:Old h.size h h') (hD:∀b,D b->h.size<=b/\b < h'.size) (hN:∀b o,D b->h'[b]? = some o->Nd o) (hF:∀h'',(∀b,D b->h''[b]? = h'[b]?)->F h''):Sat h' (lift D F*R):=by
 have H0:Sat h (lift (λ_=>False) (λ_=>True)*R):=by
  rw [<- Wl0 R] at H
  exact H.mono λσ e=>⟨λb=>⟨False.elim,λhn=>hn (by rw [e])⟩,λ_ _=>trivial⟩
 exact H0.opn.2.2 h' D F (o.fr _) (λb hb=>⟨.inr (hD b hb).1,(hD b hb).2⟩) hN hF
def Wf1 (elem:TypeId) (sz:Nat) (a:Option Addr) (l c:Nat) (xs:List Value):Hp:=lift (blk a) λh=>Own h elem sz a l c xs
theorem Own.congr {h h':Wa2} {elem:TypeId} {sz:Nat} {a:Option Addr} {l c:Nat} {xs:List Value} (H:Own h elem sz a l c xs) (e:∀b,blk a b->h'[b]? = h[b]?):Own h' elem sz a l c xs:=H.keep λad ea=>e _ ⟨ad,ea,rfl⟩
theorem Own.nd {h:Wa2} {elem:TypeId} {sz:Nat} {a:Option Addr} {l c:Nat} {xs:List Value} (H:Own h elem sz a l c xs):∀b o,blk a b->h[b]? = some o->Nd o:=by
 rintro b o ⟨ad,e,rfl⟩ hb x hx
 rcases H.2.2 with ⟨e2,_⟩ | ⟨b',row,e2,hb',_⟩
 ·rw [e] at e2;cases e2
 ·rw [e] at e2;cases e2
  rw [hb'] at hb
  cases hb
  cases hx
theorem Sat.own {h:Wa2} {elem:TypeId} {sz:Nat} {a:Option Addr} {l c:Nat} {xs:List Value} {R:Hp} (H:Sat h (Wf1 elem sz a l c xs*R)):Own h elem sz a l c xs:=H.see
theorem Sat.own_new {h:Wa2} {R:Hp} (H:Sat h R) (elem:TypeId) (sz:Nat):Sat h (Wf1 elem sz none 0 0 []*R):=
 H.mk_new (Old.refl _ _) (λb hb=>by obtain ⟨_,e,_⟩:=hb;cases e) (λb o hb=>by obtain ⟨_,e,_⟩:=hb;cases e) λh'' _=>Own.nil _ _ _
theorem Sat.app {P:Program} {t elem:TypeId} {z:Value} {h:Wa2} {a a2:Option Addr} {l c n n2:Nat} {xs ys:List Value} {K:kQ} {R:Hp}
  (hu:und P t=.slice elem) (hth:Wf4 P elem=true) (hz:zer P elem=some z) (hzs:z.cells.size=siz P elem)
  (H:Sat h (Wf1 elem (siz P elem) a l c xs*R)) (hs:Sees h a2 ys) (hn:ys.length=n*siz P elem) (hone:∀y ∈ ys,Wi4 y True) (hb0:0 < byt P elem) (hb:(2*(l+n)+512)*byt P elem<=2 ^ 48)
  (k:∀a' c' h',Sat h' (Wf1 elem (siz P elem) a' (l+n) c' (xs ++ ys)*R)->K (.slice a' (l+n) c') h') :
  Wt2 P #[t,t] t #[.slice a l c,.slice a2 n n2] h K:=by
 obtain ⟨ho,hlt,re⟩:=H.opn
 refine Yz0 hu hth hz hzs ho hs hn hone hb0 hb λa' c' h' o' hsz old ha=>?_
 refine k a' c' h' (re h' (blk a') _ ⟨hsz,λb hb hn=>old b hb λad ea e=>hn ⟨ad,ea,e⟩⟩ (λb hb=>?_) o'.nd λh'' e=>o'.congr e)
 refine ⟨?_,o'.lt2 hb⟩
 rcases ha with ha | ha
 ·rw [ha] at hb;exact .inl hb
 ·obtain ⟨ad,e,eb⟩:=hb
  rw [ha] at e;cases e
  exact .inr (by rw [<- eb];exact Nat.le_refl _)
theorem Sat.app2 {P:Program} {t elem:TypeId} {z:Value} {h:Wa2} {a a2:Option Addr} {l c n n2:Nat} {xs ys:List Value} {K:kQ} {R:Hp}
  (hu:und P t=.slice elem) (hth:Wf4 P elem=true) (hz:zer P elem=some z) (hzs:z.cells.size=siz P elem)
  (H:Sat h (Wf1 elem (siz P elem) a l c xs*R)) (hs:Sees h a2 ys) (hn:ys.length=n*siz P elem) (hone:∀y ∈ ys,Wi4 y True) (hb0:0 < byt P elem) (hb:(2*(l+n)+512)*byt P elem<=2 ^ 48)
  (k1:∀c' h',Sat h' (Wf1 elem (siz P elem) a (l+n) c' (xs ++ ys)*R)->K (.slice a (l+n) c') h')
  (k2:∀b c' h',¬ blk a b->Sat h' (Wf1 elem (siz P elem) (some (aQ b)) (l+n) c' (xs ++ ys)*(Wf1 elem (siz P elem) a l c xs*R))->K (.slice (some (aQ b)) (l+n) c') h') :
  Wt2 P #[t,t] t #[.slice a l c,.slice a2 n n2] h K:=by
 obtain ⟨ho,hlt,re⟩:=H.opn
 refine WI9 hu hth hz hzs ho hs hn hone hb0 hb λa' c' h' o' hsz old ha=>?_
 rcases ha with ha | ⟨ha,hold⟩
 ·subst ha
  exact k1 c' h' (re h' (blk a') _ ⟨hsz,λb hb hn=>old b hb λad ea e=>hn ⟨ad,ea,e⟩⟩ (λb hb=>⟨.inl hb,o'.lt2 hb⟩) o'.nd λh'' e=>o'.congr e)
 ·subst ha
  refine k2 h.size c' h' (λhb=>absurd (hlt _ hb) (Nat.lt_irrefl _)) (H.mk_new hold (λb hb=>?_) o'.nd λh'' e=>o'.congr e)
  refine ⟨?_,o'.lt2 hb⟩
  obtain ⟨ad,e,eb⟩:=hb
  cases e
  rw [<- eb];exact Nat.le_refl _
theorem Sat.collect {h h':Wa2} {N:Nat} {o o':Obj} {R:Hp} {elem:TypeId} {sz:Nat} {a:Option Addr} {l c:Nat} {xs:List Value} (H:Sat h (pt N o*R)) (hs:h.size<=h'.size) (old:∀b,b < h.size->b≠N->h'[b]? = h[b]?) (new:h'[N]? = some o') (ow:Own h' elem sz a l c xs) (hb:∀b,blk a b->h.size<=b)
  (ho:Nd o':=by intro x e;cases e):Sat h' (Wf1 elem sz a l c xs*(pt N o' * R)):=by
 have hlt:=H.lt
 have H1:Sat (h.setIfInBounds N o') (pt N o' * R):=H.wr (Wl6 hlt) (λc hc=>Wm7 hc) ho
 have o1:Old (h.setIfInBounds N o').size (h.setIfInBounds N o') h':=⟨by simpa using hs,λb hb=>by
  by_cases e:b=N
  ·subst e;rw [new,Wl6 hlt]
  ·rw [Wm7 e];exact old b (by simpa using hb) e⟩
 exact H1.mk_new o1 (λb hb'=>⟨by simpa using hb b hb',ow.lt2 hb'⟩) ow.nd λh'' e=>ow.congr e
theorem Zh5 {P:Program} {t elem:TypeId} {z:Value} {h:Wa2} {a a2:Option Addr} {l c n n2:Nat} {xs ys:List Value} {K:kQ}
  (hu:und P t=.slice elem) (hth:Wf4 P elem=true) (hz:zer P elem=some z) (hzs:z.cells.size=siz P elem)
  (ho:Sees h a xs) (hl:xs.length=l*siz P elem) (hlc:l<=c) (hs:Sees h a2 ys) (hn:ys.length=n*siz P elem) (hone:∀y ∈ ys,Wi4 y True) (hb0:0 < byt P elem) (hb:(2*(l+n)+512)*byt P elem<=2 ^ 48)
  (k1:l+n<=c->∀ad,a=some ad->stN h (ad.add (l*siz P elem)) 0 ys λh'=>K (.slice a (l+n) c) h')
  (k0:l+n<=c->a=none->K (.slice none (l+n) c) h)
  (k2:∀c' h',Own h' elem (siz P elem) (some (aQ h.size)) (l+n) c' (xs ++ ys)->Old h.size h h'->K (.slice (some (aQ h.size)) (l+n) c') h') :
  Wt2 P #[t,t] t #[.slice a l c,.slice a2 n n2] h K:=by
 have hu':=Wc6 hu (by simp)
 obtain ⟨info,hinfo⟩:=Wt3 hth
 have hbyt:info.bytes=byt P elem:=by unfold byt;rw [hinfo]
 have first:∀(F:Array Value->Wa2->Prop),F ys.toArray h->hp P (Builtin.firstCells (siz P elem) n (.slice a2 n n2)) F h:=by
  intro F k
  cases a2 with
  | none=>
   have:ys = []:=by
    cases ys with
    | nil=>rfl
    | cons y ys=>obtain ⟨ad,e,_⟩:=hs 0 y rfl;cases e
   subst this;exact k
  | some ad=>
   show hp P (loadCells ad (n*siz P elem)) F h
   refine We5 ad _ 0 [] F ?_
   rw [<- hn]
   refine Wy5 ys 0 [] _ (λj v hj=>?_) (by simpa using k)
   obtain ⟨ad',e,hc⟩:=hs j v hj
   cases e;rwa [Nat.zero_add]
 unfold Wt2 Builtin.append_
 simp only [List.getElem?_toArray,List.getElem?_cons_zero,List.getElem?_cons_succ,Wa6,Wc0,Wa8 hu',Wd7 hth,Bool.false_eq_true,if_false]
 show hp P (Builtin.lenOf _) _ h
 simp only [Builtin.lenOf,Wc0]
 rw [WF5]
 split
 ·rename_i hcap
  simp only [Wa6]
  show hp P (if (!false)=true then _ else _) _ h
  refine first _ ?_
  cases a with
  | none=>
   have key:=k0 hcap rfl
   try simp only [Wa6,Wc0]
   exact key
  | some ad=>
   simp only [Wa6]
   refine Wi9 _ _ h 0 _ ?_
   try simp only [Wc0]
   exact k1 hcap ad rfl
 ·rename_i hcap
  simp only [Wa6,Wc0]
  have hbound:¬ Builtin.nextslicecap (l+n) c*info.bytes > 2 ^ 48:=by
   rw [hbyt]
   have:=Nat.le_trans (Nat.mul_le_mul_right (byt P elem) (WD9 (l+n) c (by omega))) hb
   omega
  simp only [Wa6,Wc0,Wg1 hinfo,WF5]
  rw [if_neg (by rw [hbyt];intro x;rcases x.2 with y | y <;> first | exact y | omega),if_neg hbound]
  show ∀tp,_
  intro tp
  rw [if_neg (by simp [Question.forced])]
  obtain ⟨cap,hcp⟩ : ∃cap,cap=(Question.appendCap (l+n) c elem).cut tp:=⟨_,rfl⟩
  have hcap2:l+n<=cap:=by rw [hcp];simp [Question.cut]
  rw [<- hcp]
  rw [show (Sem.pure cap:Sem Nat)=pure cap from rfl]
  simp only [Wa6,Wc0,Wg1 hinfo,Wt4]
  have old:∀(F:Array Value->Wa2->Prop),F xs.toArray h->hp P (Builtin.firstCells (siz P elem) l (.slice a l c)) F h:=by
   intro F k
   cases a with
   | none=>
    have:xs = []:=by
     cases xs with
     | nil=>rfl
     | cons y ys=>obtain ⟨ad,e,_⟩:=ho 0 y rfl;cases e
    subst this;exact k
   | some ad=>
    show hp P (loadCells ad (l*siz P elem)) F h
    refine We5 ad _ 0 [] F ?_
    rw [<- hl]
    refine Wy5 xs 0 [] _ (λj v hj=>?_) (by simpa using k)
    obtain ⟨ad',e,hc⟩:=ho j v hj
    cases e;rwa [Nat.zero_add]
  refine old _ ?_
  rw [Wa6,if_pos (show (!false)=true from rfl)]
  refine first _ ?_
  simp only [Wa6]
  simp only [Wi5 hz]
  show K (.slice (some (aQ h.size)) (l+n) cap) (h.push _)
  have hzc:(Builtin.zeroCells z.cells (cap - (l+n))).size=(cap - (l+n))*siz P elem:=by rw [Wr0,hzs]
  refine k2 cap _ ⟨by simp [hl,hn,Nat.add_mul],hcap2,.inr ⟨h.size,_,rfl,Wo3 _ _,?_,?_⟩⟩ ⟨by simp,λb hb'=>Wj0 _ _ _ hb'⟩
  ·simp only [Array.size_append,hzc,List.size_toArray,hl,hn,<- Nat.add_mul]
   congr 1;omega
  ·simp only [Array.toList_append,List.toList_toArray]
   rw [List.take_left' (by simp [hl,hn,Nat.add_mul])]
def OwnF (h:Wa2) (a:Option Addr) (l c:Nat) (xs:List Int):Prop:=
 xs.length=l/\l<=c/\((a=none/\c=0)\/∃b o row,a=some ⟨b,o,none⟩/\h[b]? = some (.cells row 3)/\o+c<=row.size/\(row.toList.drop o).take l=xs.map iv)
theorem OwnF.of {h:Wa2} {a:Option Addr} {l c:Nat} {xs:List Int} (H:OwnI h a l c xs):OwnF h a l c xs:=by
 obtain ⟨h1,h2,h3⟩:=H
 refine ⟨by simpa using h1,h2,h3.imp id ?_⟩
 rintro ⟨b,row,e,hb,hs,ht⟩
 exact ⟨b,0,row,e,hb,by omega,by simpa using ht⟩
theorem OwnF.congr {h h':Wa2} {a:Option Addr} {l c:Nat} {xs:List Int} (H:OwnF h a l c xs) (e:∀b,blk a b->h'[b]? = h[b]?):OwnF h' a l c xs:=by
 obtain ⟨h1,h2,h3⟩:=H
 refine ⟨h1,h2,h3.imp id ?_⟩
 rintro ⟨b,o,row,ea,hb,r⟩
 exact ⟨b,o,row,ea,(e b ⟨_,ea,rfl⟩).trans hb,r⟩
theorem OwnF.lt2 {h:Wa2} {a:Option Addr} {l c:Nat} {xs:List Int} (H:OwnF h a l c xs) {b:Nat} (hb:blk a b):b < h.size:=by
 obtain ⟨ad,e,rfl⟩:=hb
 rcases H.2.2 with ⟨e2,_⟩ | ⟨b',o,row,e2,hb',_⟩
 ·rw [e] at e2;cases e2
 ·rw [e] at e2;cases e2;exact (Array.getElem?_eq_some_iff.1 hb').1
theorem OwnF.nd {h:Wa2} {a:Option Addr} {l c:Nat} {xs:List Int} (H:OwnF h a l c xs):∀b o,blk a b->h[b]? = some o->Nd o:=by
 rintro b o ⟨ad,e,rfl⟩ hb x hx
 rcases H.2.2 with ⟨e2,_⟩ | ⟨b',o',row,e2,hb',_⟩
 ·rw [e] at e2;cases e2
 ·rw [e] at e2;cases e2
  rw [hb'] at hb
  cases hb
  cases hx
theorem OwnF.ri {h:Wa2} {a:Option Addr} {l c:Nat} {xs:List Int} (H:OwnF h a l c xs):RI h a l c xs:=by
 obtain ⟨h1,h2,h3⟩:=H
 refine ⟨λi v hi=>?_,h1,h2⟩
 have hlt:i < xs.length:=by have:=(List.getElem?_eq_some_iff.1 hi).1;simpa using this
 rcases h3 with ⟨_,hc⟩ | ⟨b,o,row,e,hb,hs,ht⟩
 ·omega
 ·refine ⟨_,e,?_⟩
  rw [Wc4,Wc1 hb,<- Array.getElem?_toList]
  rw [<- ht,List.getElem?_take] at hi
  split at hi
  ·rw [List.getElem?_drop] at hi;exact hi
  ·cases hi
theorem OwnF.tail {h:Wa2} {a:Option Addr} {l c:Nat} {x:Int} {xs:List Int} (H:OwnF h a l c (x :: xs)):OwnF h (W95 a 1 c 1) (l - 1) (c - 1) xs/\∀b,blk (W95 a 1 c 1) b->blk a b:=by
 obtain ⟨h1,h2,h3⟩:=H
 simp only [List.length_cons] at h1
 rcases h3 with ⟨_,hc⟩ | ⟨b,o,row,e,hb,hs,ht⟩
 ·omega
 ·subst e
  unfold W95
  split
  ·rename_i hc
   have e0:l - 1=0:=by have:=h2;omega
   have ex:xs = []:=List.length_eq_zero_iff.1 (by omega)
   refine ⟨⟨by omega,by omega,.inr ⟨b,o,row,rfl,hb,by omega,?_⟩⟩,λb hb=>hb⟩
   rw [e0,ex];rfl
  ·refine ⟨⟨by omega,by omega,.inr ⟨b,o+1,row,by rw [Option.map_some,Wc4],hb,by omega,?_⟩⟩,?_⟩
   ·have:l=(l - 1)+1:=by omega
    rw [this] at ht
    have e2:(row.toList.drop o).drop 1=row.toList.drop (o+1):=by rw [List.drop_drop]
    have e3:=congrArg (List.drop 1) ht
    rw [List.drop_take,e2] at e3
    simpa using e3
   ·rintro b' ⟨ad,e,rfl⟩
    rw [Option.map_some,Wc4] at e
    cases e
    exact ⟨_,rfl,rfl⟩
def WP8 (a:Option Addr) (l c:Nat) (xs:List Int):Hp:=lift (blk a) λh=>OwnF h a l c xs
theorem Sat.ownf {h:Wa2} {a:Option Addr} {l c:Nat} {xs:List Int} {R:Hp} (H:Sat h (WP8 a l c xs*R)):OwnF h a l c xs:=H.see
theorem Sat.toF {h:Wa2} {a:Option Addr} {l c:Nat} {xs:List Int} {R:Hp} (H:Sat h (Wf1 3 1 a l c (xs.map iv)*R)):Sat h (WP8 a l c xs*R):=H.mono (YW6 λ_ h=>OwnF.of h)
def NdC (o:Obj):Prop:=∀x,o≠.deferred x
theorem NdC.cells {row:Array Value} {t:TypeId}:NdC (.cells row t):=λx e=>by cases e
def NdA (P:Hp):Prop:=∀σ h,Sub σ h->P σ->∀b o,σ b=some o->NdC o
theorem NdA.star {P Q:Hp} (hP:NdA P) (hQ:NdA Q):NdA (P*Q):=by
 rintro σ h s ⟨σ1,σ2,d,rfl,p,q⟩ b o e
 have e':(σ1 b).or (σ2 b)=some o:=e
 cases h1:σ1 b with
 | some x=>rw [h1] at e';cases e';exact hP _ _ s.left p b _ h1
 | none=>rw [h1] at e';exact hQ _ _ (s.right d) q b _ e'
theorem NdA.ex {α:Type} {P:α->Hp} (h:∀a,NdA (P a)):NdA (ex P):=by
 rintro σ hh s ⟨a,p⟩
 exact h a σ hh s p
theorem NdA.pr {p:Prop} {P:Hp} (h:NdA P):NdA (pr p P):=λσ hh s q=>h σ hh s q.2
theorem NdA.pt {b:Nat} {row:Array Value} {t:TypeId}:NdA (pt b (.cells row t)):=by
 intro σ h s p c o e
 have p:=p c
 rw [e] at p
 split at p
 ·cases p;exact NdC.cells
 ·cases p
theorem NdA.lift {D:Nat->Prop} {F:Wa2->Prop} (hF:∀h,F h->∀b o,D b->h[b]? = some o->NdC o):NdA (lift D F):=by
 rintro σ h s ⟨p,q⟩ b o e
 exact hF h (q h s) b o ((p b).2 (by rw [e];simp)) (s.at b o e)
theorem NdA.own {elem:TypeId} {sz:Nat} {a:Option Addr} {l c:Nat} {xs:List Value}:NdA (Wf1 elem sz a l c xs):=by
 refine NdA.lift ?_
 rintro h H b o ⟨ad,e,rfl⟩ hb
 rcases H.2.2 with ⟨e2,_⟩ | ⟨b',row,e2,hb',_⟩
 ·rw [e] at e2;cases e2
 ·rw [e] at e2;cases e2
  rw [hb'] at hb
  cases hb
  exact NdC.cells
theorem NdA.ownf {a:Option Addr} {l c:Nat} {xs:List Int}:NdA (WP8 a l c xs):=by
 refine NdA.lift ?_
 rintro h H b o ⟨ad,e,rfl⟩ hb
 rcases H.2.2 with ⟨e2,_⟩ | ⟨b',o',row,e2,hb',_⟩
 ·rw [e] at e2;cases e2
 ·rw [e] at e2;cases e2
  rw [hb'] at hb
  cases hb
  exact NdC.cells
def Bnd (N:Nat) (P:Hp):Prop:=∀σ,P σ->∀b,σ b≠none->b < N
theorem Sat.freeze {h:Wa2} {P R:Hp} (H:Sat h (P*R)):∃R':Hp,(∀σ,R' σ->R σ)/\Bnd h.size R'/\Sat h (P*R'):=by
 obtain ⟨_,s,σ,τ,d,rfl,p,q⟩:=H
 refine ⟨λρ=>ρ=τ,λρ e=>by rw [e];exact q,λρ e b hb=>?_,⟨_,s,σ,τ,d,rfl,p,rfl⟩⟩
 rw [e] at hb
 exact (s.right d).lt hb
theorem Sat.sameD {N:Nat} {h h':Wa2} {P R:Hp} (H:Sat h (P*R)) (hP:NdA P) (hR:Bnd N R) (o:SameD N h h'):Sat h' (P*R):=by
 obtain ⟨_,s,σ,τ,d,rfl,p,q⟩:=H
 refine ⟨_,Sub.mk (λb x e=>(o.2 b ?_).trans (s.at b x e)) s.nd,σ,τ,d,rfl,p,q⟩
 cases h1:σ b with
 | some y=>
  refine .inr λz e2=>?_
  have h2:=s.left.at b y h1
  rw [e2] at h2
  cases h2
  exact hP _ _ s.left p b _ h1 z rfl
 | none=>
  refine .inl (hR _ q b λh2=>?_)
  have e':(σ b).or (τ b)=some x:=e
  rw [h1,h2] at e'
  cases e'
def YW7 (h0:Wa2):Hp:=λσ=>∀b,σ b=h0[b]?
theorem Sat.full (h:Wa2):Sat h (YW7 h):=⟨λb=>h[b]?,λb o e=>⟨e,λ_=>False.elim⟩,λ_=>rfl⟩
theorem Sat.fullOld {h h0:Wa2} {R:Hp} (H:Sat h (YW7 h0*R)):Old h0.size h0 h:=by
 obtain ⟨_,s,σ,τ,d,rfl,p,q⟩:=H
 have hb:∀b,b < h0.size->h[b]? = h0[b]?:=by
  intro b hlt
  have e:σ b=some h0[b]:=by rw [p b];exact Array.getElem?_eq_getElem hlt
  rw [s.left.at b _ e,Array.getElem?_eq_getElem hlt]
 refine ⟨?_,hb⟩
 cases hn:h0.size with
 | zero=>omega
 | succ n=>
  have h1:=hb n (by omega)
  rw [Array.getElem?_eq_getElem (by omega:n < h0.size)] at h1
  have:=(Array.getElem?_eq_some_iff.1 h1).1
  omega
end
section
set_option maxRecDepth 100000
def F102 (K:kQ) (h:Wa2) (xa:Option Addr) (xb xc:Nat):Prop:=
 (Wt2 Tryz.prog #[26,26] 26 #[.slice (some (aQ h.size)) 0 0,.slice xa xb xc] (Array.push h (.cells #[] 5)) λa b=>Wb3 a λa c d=>K (.pointer (some (aQ b.size))) (Array.push b (.cells #[.slice a c d,iQ 0] 236)))
theorem call102 {K:kQ} {h:Wa2} {xa:Option Addr} {xb xc:Nat} (H:F102 K h xa xb xc):Wa5 Tryz.prog 102 #[(.slice xa xb xc)] h K:=
 cQ Tryz.func102 H
def F146 (K:kQ) (h:Wa2) (xa:Int):Prop:=
 (((0:Int)<=1)/\(((65536:Int)≠0)/\(K (iQ (IntKind.wrap .i64 (Int.tmod (Int.fdiv xa 2) 65536))) h)))
theorem call146 {K:kQ} {h:Wa2} {xa:Int} (H:F146 K h xa):Wa5 Tryz.prog 146 #[(uQ xa)] h K:=
 cQ Tryz.func146 H
def F206 (K:kQ) (h:Wa2) (xa:Int) (xb:Bool) (xc:Int):Prop:=
 (exI λI0=>(ifB (decide (xa < 0)) (I0 [.bool true,.bool true] h) (cf 277 #[uQ 65536,.slice (some (aQ h.size)) 1 1] (Array.push h (.cells #[uQ (IntKind.wrap .u64 xa)] 178)) λa b=>asBool a λa=>ifB (!a) (I0 [.bool (!a),.bool true] b) (cf 277 #[uQ 140737488355328,.slice (some (aQ b.size)) 1 1] (Array.push b (.cells #[uQ xc] 178)) λb c=>asBool b λb=>I0 [.bool (!a),.bool (!b)] c)))/\(∀(a b:Value) (c:Env) (c:Wa2),(I0 [a,b] c)->(asBool b λa=>ifB a (K (.tuple #[uQ 0,iQ 2]) c) (cf 278 #[uQ (IntKind.wrap .u64 xa),.bool xb,uQ xc] c λa b=>asInt .u64 a λa=>K (.tuple #[uQ a,iQ 0]) b))))
theorem call206 {K:kQ} {h:Wa2} {xa:Int} {xb:Bool} {xc:Int} (H:F206 K h xa xb xc):Wa5 Tryz.prog 206 #[(iQ xa),(.bool xb),(uQ xc)] h K:=
 cQ Tryz.func206 H
def F211 (K:kQ) (h:Wa2) (xa:Option Addr):Prop:=
 (ifB (Option.isNone xa) (K (iQ 0) h) (nP xa λa=>lS h a λa a b=>K (iQ (a:Int)) h))
theorem call211 {K:kQ} {h:Wa2} {xa:Option Addr} (H:F211 K h xa):Wa5 Tryz.prog 211 #[(.pointer xa)] h K:=
 cQ Tryz.func211 H
def F249 (K:kQ) (h:Wa2) (xa xb:Int):Prop:=
 (((0:Int)<=32)/\(K (uQ (IntKind.wrap .u64 ((((BitVec.ofInt 64 (IntKind.wrap .u64 ((IntKind.wrap .u64 xa)*4294967296))) ||| (BitVec.ofInt 64 (IntKind.wrap .u64 xb))).toNat:Nat):Int))) h))
theorem call249 {K:kQ} {h:Wa2} {xa xb:Int} (H:F249 K h xa xb):Wa5 Tryz.prog 249 #[(.int .u32 xa),(.int .u32 xb)] h K:=
 cQ Tryz.func249 H
def F250 (K:kQ) (h:Wa2) (xa:Option Addr) (xb:Int):Prop:=
 (ifB (decide (xb < 1)) (K (iQ 1) h) (cf 280 #[.pointer xa] h λa b=>asInt .i64 a λa=>exI λI3=>exM λm4=>(I3 [iQ 0,.tuple #[],iQ 0] b)/\(∀(b c d:Value) (e:Env) (e:Wa2),(I3 [b,c,d] e)->(asInt .i64 d λf=>ifB (decide (f < xb)) (asInt .i64 d λf=>((0:Int)<=f)/\(ifB ((IntKind.wrap .i64 ((((BitVec.ofInt 64 (Int.fdiv a (2 ^ (min f.toNat 64)))) &&& (BitVec.ofInt 64 1)).toNat:Nat):Int)) == 0) (K (iQ (IntKind.wrap .i64 (f+1))) e) (asInt .i64 d λa=>(I3 [b,iQ f,iQ (IntKind.wrap .i64 (a+1))] e)/\((m4 [b,iQ f,iQ (IntKind.wrap .i64 (a+1))] e) < (m4 [b,c,d] e))))) (K (iQ xb) e)))))
theorem call250 {K:kQ} {h:Wa2} {xa:Option Addr} {xb:Int} (H:F250 K h xa xb):Wa5 Tryz.prog 250 #[(.pointer xa),(iQ xb)] h K:=
 cQ Tryz.func250 H
def F252 (K:kQ) (h:Wa2) (xa:Int) (xb:Bool):Prop:=
 (((0:Int)<=1)/\(ifB xb (K (uQ (IntKind.wrap .u64 ((((BitVec.ofInt 64 (IntKind.wrap .u64 ((IntKind.wrap .u64 xa)*2))) ||| (BitVec.ofInt 64 1)).toNat:Nat):Int))) h) (K (uQ (IntKind.wrap .u64 ((IntKind.wrap .u64 xa)*2))) h)))
theorem call252 {K:kQ} {h:Wa2} {xa:Int} {xb:Bool} (H:F252 K h xa xb):Wa5 Tryz.prog 252 #[(.int .u32 xa),(.bool xb)] h K:=
 cQ Tryz.func252 H
def F228 (K:kQ) (h:Wa2) (xa xb:Int) (xc:Bool):Prop:=
 (((65536:Int)≠0)/\(cf 285 #[uQ xa] h λa b=>asInt .u64 a λa=>((140737488355328:Int)≠0)/\(cf 278 #[uQ (Int.tmod (IntKind.wrap .u64 xb) 65536),.bool xc,uQ (Int.tmod (IntKind.wrap .u64 (a+1)) 140737488355328)] b λa b=>asInt .u64 a λa=>K (uQ a) b)))
theorem call228 {K:kQ} {h:Wa2} {xa xb:Int} {xc:Bool} (H:F228 K h xa xb xc):Wa5 Tryz.prog 228 #[(uQ xa),(iQ xb),(.bool xc)] h K:=
 cQ Tryz.func228 H
def F258 (K:kQ) (h:Wa2) (xa:Int):Prop:=
 (K (.bool ((IntKind.wrap .u64 ((((BitVec.ofInt 64 xa) &&& (BitVec.ofInt 64 1)).toNat:Nat):Int)) == 1)) h)
theorem call258 {K:kQ} {h:Wa2} {xa:Int} (H:F258 K h xa):Wa5 Tryz.prog 258 #[(uQ xa)] h K:=
 cQ Tryz.func258 H
def F260 (K:kQ) (h:Wa2) (xa:Int):Prop:=
 (K (uQ (IntKind.wrap .u64 ((((BitVec.ofInt 64 xa) ||| (BitVec.ofInt 64 1)).toNat:Nat):Int))) h)
theorem call260 {K:kQ} {h:Wa2} {xa:Int} (H:F260 K h xa):Wa5 Tryz.prog 260 #[(uQ xa)] h K:=
 cQ Tryz.func260 H
def F261 (K:kQ) (h:Wa2) (xa:Int):Prop:=
 (cf 146 #[uQ xa] h λa b=>asInt .i64 a λa=>cf 228 #[uQ xa,iQ a,.bool true] b λa b=>asInt .u64 a λa=>K (uQ a) b)
theorem call261 {K:kQ} {h:Wa2} {xa:Int} (H:F261 K h xa):Wa5 Tryz.prog 261 #[(uQ xa)] h K:=
 cQ Tryz.func261 H
def F213 (K:kQ) (h:Wa2) (xa xb:Int):Prop:=
 (cf 216 #[iQ xa] h λa b=>asInt .i64 a λa=>ifB (a == 0) (K (iQ 0) b) (Wh7 (λc d=>WY5 c d) Tryz.prog 3 [iQ xb,iQ 0] λc=>((a:Int)≠0)/\(K (iQ (IntKind.wrap .i64 (a+(Int.tmod c a)))) b)))
theorem call213 {K:kQ} {h:Wa2} {xa xb:Int} (H:F213 K h xa xb):Wa5 Tryz.prog 213 #[(iQ xa),(iQ xb)] h K:=
 cQ Tryz.func213 H
def F215 (K:kQ) (h:Wa2) (xa:Option Addr) (xb:Int):Prop:=
 (ifB (decide (xb < 1)) (K (iQ 0) h) (cf 280 #[.pointer xa] h λa b=>asInt .i64 a λa=>((xb:Int)≠0)/\(K (iQ (Int.tmod a xb)) b)))
theorem call215 {K:kQ} {h:Wa2} {xa:Option Addr} {xb:Int} (H:F215 K h xa xb):Wa5 Tryz.prog 215 #[(.pointer xa),(iQ xb)] h K:=
 cQ Tryz.func215 H
def F216 (K:kQ) (h:Wa2) (xa:Int):Prop:=
 (exI λI0=>(ifB (decide (xa < 1)) (I0 [.bool true] h) (I0 [.bool (decide (xa > 20))] h))/\(∀(a:Value) (b:Env) (b:Wa2),(I0 [a] b)->(asBool a λa=>ifB a (K (iQ 0) b) (((0:Int)<=(IntKind.wrap .i64 (xa - 1)))/\(K (iQ (IntKind.wrap .i64 (1*(2 ^ (min (IntKind.wrap .i64 (xa - 1)).toNat 64))))) b)))))
theorem call216 {K:kQ} {h:Wa2} {xa:Int} (H:F216 K h xa):Wa5 Tryz.prog 216 #[(iQ xa)] h K:=
 cQ Tryz.func216 H
def F218 (K:kQ) (h:Wa2) (xa:Int):Prop:=
 (Wh7 (λa b=>WY5 a b) Tryz.prog 3 [iQ xa,iQ 1] λa=>stH (Array.push h (.cells #[iQ 0,iQ 0] 282)) (aQ h.size) (iQ 0) λb=>stH b ⟨h.size,1,none⟩ (iQ (IntKind.wrap .i64 (a - 1))) λa=>dl2 a h.size λb c=>K (.agg #[b,c]) a)
theorem call218 {K:kQ} {h:Wa2} {xa:Int} (H:F218 K h xa):Wa5 Tryz.prog 218 #[(iQ xa)] h K:=
 cQ Tryz.func218 H
abbrev g221 (K:kQ) (h H1:Wa2):Prop:=
 (lI .i64 H1 (aQ h.size) λa=>lI .i64 H1 ⟨h.size,1,none⟩ λb=>K (.bool (decide (a >= b))) H1)
def F221 (K:kQ) (h:Wa2) (xa xb:Int):Prop:=
 (g221 K h (Array.push h (.cells #[iQ xa,iQ xb] 282)))
theorem call221 {K:kQ} {h:Wa2} {xa xb:Int} (H:F221 K h xa xb):Wa5 Tryz.prog 221 #[(.agg #[(iQ xa),(iQ xb)])] h K:=
 cQ Tryz.func221 H
abbrev g223 (K:kQ) (h H1:Wa2):Prop:=
 (lI .i64 H1 (aQ h.size) λa=>ldH H1 ⟨h.size,1,none⟩ λb=>asInt .i64 b λc=>cf 283 #[iQ a] H1 λa d=>asInt .i64 a λa=>ce d h.size 1 b (cf 283 #[iQ c] d λb c=>asInt .i64 b λb=>((2:Int)≠0)/\(K (iQ (IntKind.wrap .i64 (Int.tdiv (IntKind.wrap .i64 (a+b)) 2))) c)))
def F223 (K:kQ) (h:Wa2) (xa xb:Int):Prop:=
 (g223 K h (Array.push h (.cells #[iQ xa,iQ xb] 282)))
theorem call223 {K:kQ} {h:Wa2} {xa xb:Int} (H:F223 K h xa xb):Wa5 Tryz.prog 223 #[(.agg #[(iQ xa),(iQ xb)])] h K:=
 cQ Tryz.func223 H
abbrev g224 (K:kQ) (h H1 H2:Wa2) (xa:Bool):Prop:=
 (dl2 H2 h.size λa b=>cf 221 #[.agg #[a,b]] H2 λa b=>asBool a λa=>ifB a (dl2 b h.size λa c=>dw2 b H1.size a c λa=>dl2 a H1.size λc d=>K (.agg #[c,d]) a) (ifB xa (ldH b (aQ h.size) λa=>asInt .i64 a λc=>dl2 b h.size λd e=>cf 223 #[.agg #[d,e]] b λd e=>asInt .i64 d λd=>ce e h.size 0 a (dw2 e H1.size (iQ c) (iQ d) λa=>dl2 a H1.size λc d=>K (.agg #[c,d]) a)) (dl2 b h.size λa c=>ldH b ⟨h.size,1,none⟩ λd=>asInt .i64 d λe=>cf 223 #[.agg #[a,c]] b λa b=>asInt .i64 a λa=>ce b h.size 1 d (stH b (aQ H1.size) (iQ (IntKind.wrap .i64 (a+1))) λa=>stH a ⟨H1.size,1,none⟩ (iQ e) λa=>dl2 a H1.size λb c=>K (.agg #[b,c]) a))))
def F224 (K:kQ) (h:Wa2) (xa xb:Int) (xc:Bool):Prop:=
 (g224 K h (Array.push h (.cells #[iQ xa,iQ xb] 282)) (Array.push (Array.push h (.cells #[iQ xa,iQ xb] 282)) (.cells #[iQ 0,iQ 0] 282)) xc)
theorem call224 {K:kQ} {h:Wa2} {xa xb:Int} {xc:Bool} (H:F224 K h xa xb xc):Wa5 Tryz.prog 224 #[(.agg #[(iQ xa),(iQ xb)]),(.bool xc)] h K:=
 cQ Tryz.func224 H
def F226 (K:kQ) (h:Wa2) (xa:Int):Prop:=
 (K (.bool ((IntKind.wrap .u64 ((((BitVec.ofInt 64 xa) &&& (BitVec.ofInt 64 1)).toNat:Nat):Int)) == 1)) h)
theorem call226 {K:kQ} {h:Wa2} {xa:Int} (H:F226 K h xa):Wa5 Tryz.prog 226 #[(uQ xa)] h K:=
 cQ Tryz.func226 H
def F230 (K:kQ) (h:Wa2) (xa xb:Int):Prop:=
 (cf 287 #[iQ xa] h λa b=>asBool a λa=>ifB a (cf 216 #[iQ xb] b λa c=>asInt .i64 a λa=>K (.bool (decide (xa < a))) c) (K (.bool false) b))
theorem call230 {K:kQ} {h:Wa2} {xa xb:Int} (H:F230 K h xa xb):Wa5 Tryz.prog 230 #[(iQ xa),(iQ xb)] h K:=
 cQ Tryz.func230 H
def F235 (K:kQ) (h:Wa2) (xa:Option Addr) (xb:Int):Prop:=
 (ifB (!(Option.isNone xa)) (nP xa λa=>lS h a λa b c=>Wt2 Tryz.prog #[25,25] 25 #[.slice a b c,.slice (some (aQ h.size)) 1 1] (Array.push h (.cells #[iQ xb] 3)) λa b=>Wb3 a λa c d=>nP xa λe=>stH b e (.slice a c d) λa=>K (.tuple #[]) a) (K (.tuple #[]) h))
theorem call235 {K:kQ} {h:Wa2} {xa:Option Addr} {xb:Int} (H:F235 K h xa xb):Wa5 Tryz.prog 235 #[(.pointer xa),(iQ xb)] h K:=
 cQ Tryz.func235 H
def F237 (K:kQ) (h:Wa2) (xa:Option Addr) (xb xc:Nat) (xd:Int):Prop:=
 (cf 289 #[.slice xa xb xc,iQ xd] h λa b=>asInt .i64 a λa=>K (.bool (decide (a >= 0))) b)
theorem call237 {K:kQ} {h:Wa2} {xa:Option Addr} {xb xc:Nat} {xd:Int} (H:F237 K h xa xb xc xd):Wa5 Tryz.prog 237 #[(.slice xa xb xc),(iQ xd)] h K:=
 cQ Tryz.func237 H
def F238 (K:kQ) (h:Wa2) (xa:Option Addr):Prop:=
 (ifB (Option.isNone xa) (K (.slice none 0 0) h) (nP xa λa=>lS h a λa b c=>cf 81 #[.slice a b c] h λa b=>Wb3 a λa c d=>K (.slice a c d) b))
theorem call238 {K:kQ} {h:Wa2} {xa:Option Addr} (H:F238 K h xa):Wa5 Tryz.prog 238 #[(.pointer xa)] h K:=
 cQ Tryz.func238 H
def F239 (K:kQ) (h:Wa2) (xa:Option Addr) (xb:Value):Prop:=
 (exI λI0=>(ifB (Option.isNone xa) (I0 [.bool true] h) (Wk1 xb λa=>I0 [.bool a] h))/\(∀(a:Value) (b:Env) (b:Wa2),(I0 [a] b)->(asBool a λa=>ifB a (∀a:Wa2,(SameD h.size b a)->(K (iQ 0) a)) (nP xa λa=>lS (Array.push b (.cells #[.slice none 0 0] 25)) a λa c d=>cf 291 #[.slice a c d] (Array.push b (.cells #[.slice none 0 0] 25)) λa c=>cf 290 #[a,xb] c λa c=>WQ9 Tryz.prog a 1 c (λI16 a c=>asInt .i64 (a.getD 0 (.tuple #[])) λa=>lS c (aQ b.size) λd e f=>Wt2 Tryz.prog #[25,25] 25 #[.slice d e f,.slice (some (aQ c.size)) 1 1] (Array.push c (.cells #[iQ a] 3)) λa c=>Wb3 a λa d e=>stH c (aQ b.size) (.slice a d e) λa=>I16 .normal a) (λa=>nP xa λc=>lS a c λc c d=>lS a (aQ b.size) λd d e=>lS a (aQ b.size) λb e f=>nP xa λg=>stH a g (.slice b e f) λa=>(∀b:Wa2,(SameD h.size a b)->(K (iQ (IntKind.wrap .i64 ((c:Int) - (d:Int)))) b))) []))))
theorem call239 {K:kQ} {h:Wa2} {xa:Option Addr} {xb:Value} (H:F239 K h xa xb):Wa5 Tryz.prog 239 #[(.pointer xa),xb] h K:=
 cQ Tryz.func239 H
def F274 (K:kQ) (h:Wa2) (xa:Int):Prop:=
 (((0:Int)<=32)/\(K (.int .u32 (IntKind.wrap .u32 (Int.fdiv xa 4294967296))) h))
theorem call274 {K:kQ} {h:Wa2} {xa:Int} (H:F274 K h xa):Wa5 Tryz.prog 274 #[(uQ xa)] h K:=
 cQ Tryz.func274 H
def F277 (K:kQ) (h:Wa2) (xa:Int) (xb:Option Addr) (xc xd:Nat):Prop:=
 (exI λI0=>exM λm1=>(I0 [.bool false,.tuple #[],iQ 0] h)/\(∀(a b c:Value) (d:Env) (d:Wa2),(I0 [a,b,c] d)->(asInt .i64 c λe=>ifB (decide (e < ((xc:Nat):Int))) (asI c λe=>bd e ((xc:Nat):Int) (Wd2 (.pointer xb) λf=>lI .u64 d (Addr.add f (e.toNat*1)) λe=>ifB (decide (e >= xa)) (K (.bool false) d) (asInt .i64 c λf=>(I0 [a,uQ e,iQ (IntKind.wrap .i64 (f+1))] d)/\((m1 [a,uQ e,iQ (IntKind.wrap .i64 (f+1))] d) < (m1 [a,b,c] d))))) (K (.bool true) d))))
theorem call277 {K:kQ} {h:Wa2} {xa:Int} {xb:Option Addr} {xc xd:Nat} (H:F277 K h xa xb xc xd):Wa5 Tryz.prog 277 #[(uQ xa),(.slice xb xc xd)] h K:=
 cQ Tryz.func277 H
def F278 (K:kQ) (h:Wa2) (xa:Int) (xb:Bool) (xc:Int):Prop:=
 (((0:Int)<=17)/\(((0:Int)<=1)/\(ifB xb (K (uQ (IntKind.wrap .u64 ((((BitVec.ofInt 64 (IntKind.wrap .u64 ((((BitVec.ofInt 64 (IntKind.wrap .u64 (xc*131072))) ||| (BitVec.ofInt 64 (IntKind.wrap .u64 (xa*2)))).toNat:Nat):Int))) ||| (BitVec.ofInt 64 1)).toNat:Nat):Int))) h) (K (uQ (IntKind.wrap .u64 ((((BitVec.ofInt 64 (IntKind.wrap .u64 (xc*131072))) ||| (BitVec.ofInt 64 (IntKind.wrap .u64 (xa*2)))).toNat:Nat):Int))) h))))
theorem call278 {K:kQ} {h:Wa2} {xa:Int} {xb:Bool} {xc:Int} (H:F278 K h xa xb xc):Wa5 Tryz.prog 278 #[(uQ xa),(.bool xb),(uQ xc)] h K:=
 cQ Tryz.func278 H
def F280 (K:kQ) (h:Wa2) (xa:Option Addr):Prop:=
 (ifB (Option.isNone xa) (K (iQ 0) h) (nP xa λa=>lI .i64 h (Addr.add a 1) λa=>nP xa λb=>stH h (Addr.add b 1) (iQ (IntKind.wrap .i64 (a+1))) λa=>nP xa λb=>lI .i64 a (Addr.add b 1) λb=>nP xa λc=>lS a c λc c d=>ifB (decide (b > (c:Int))) (K (iQ 0) a) (nP xa λb=>lS a b λb c d=>nP xa λd=>lI .i64 a (Addr.add d 1) λd=>((0:Int)<=(IntKind.wrap .i64 (d - 1)))/\((((IntKind.wrap .i64 (d - 1)):Int) < (c:Int))/\(Wd2 (.pointer b) λb=>ldH a (Addr.add b ((IntKind.wrap .i64 (d - 1)).toNat*1)) λb=>asInt .u8 b λb=>K (iQ (IntKind.wrap .i64 b)) a)))))
theorem call280 {K:kQ} {h:Wa2} {xa:Option Addr} (H:F280 K h xa):Wa5 Tryz.prog 280 #[(.pointer xa)] h K:=
 cQ Tryz.func280 H
def F285 (K:kQ) (h:Wa2) (xa:Int):Prop:=
 (((0:Int)<=17)/\(K (uQ (Int.fdiv xa 131072)) h))
theorem call285 {K:kQ} {h:Wa2} {xa:Int} (H:F285 K h xa):Wa5 Tryz.prog 285 #[(uQ xa)] h K:=
 cQ Tryz.func285 H
def F298 (K:kQ) (h:Wa2) (xa:Int):Prop:=
 (((0:Int)<=1)/\(K (.int .u32 (IntKind.wrap .u32 (Int.fdiv xa 2))) h))
theorem call298 {K:kQ} {h:Wa2} {xa:Int} (H:F298 K h xa):Wa5 Tryz.prog 298 #[(uQ xa)] h K:=
 cQ Tryz.func298 H
def F282 (K:kQ) (h:Wa2) (xa xb:Int):Prop:=
 (exI λI0=>(cf 287 #[iQ xa] h λa b=>asBool a λa=>ifB (!a) (I0 [.bool true,.bool true] b) (ifB (decide (xb < 0)) (I0 [.bool (decide (xb < 0)),.bool true] b) (cf 301 #[iQ xa] b λa b=>asInt .i64 a λa=>I0 [.bool (decide (xb < 0)),.bool (decide (a < xb))] b)))/\(∀(a b:Value) (c:Env) (c:Wa2),(I0 [a,b] c)->(asBool b λa=>ifB a (K (iQ 0) c) (cf 301 #[iQ xa] c λa b=>asInt .i64 a λa=>((0:Int)<=(IntKind.wrap .i64 (a - xb)))/\(K (iQ (Int.fdiv xa (2 ^ (min (IntKind.wrap .i64 (a - xb)).toNat 64)))) b)))))
theorem call282 {K:kQ} {h:Wa2} {xa xb:Int} (H:F282 K h xa xb):Wa5 Tryz.prog 282 #[(iQ xa),(iQ xb)] h K:=
 cQ Tryz.func282 H
def F283 (K:kQ) (h:Wa2) (xa:Int):Prop:=
 (Wh7 (λa b=>WY6 a b) Tryz.prog 3 [iQ xa,iQ 1073741824] λa=>Wh7 (λb c=>WY5 b c) Tryz.prog 3 [iQ 0,iQ a] λa=>K (iQ a) h)
theorem call283 {K:kQ} {h:Wa2} {xa:Int} (H:F283 K h xa):Wa5 Tryz.prog 283 #[(iQ xa)] h K:=
 cQ Tryz.func283 H
def F287 (K:kQ) (h:Wa2) (xa:Int):Prop:=
 (ifB (decide (xa >= 1)) (K (.bool (decide (xa<=1048576))) h) (K (.bool false) h))
theorem call287 {K:kQ} {h:Wa2} {xa:Int} (H:F287 K h xa):Wa5 Tryz.prog 287 #[(iQ xa)] h K:=
 cQ Tryz.func287 H
def F289 (K:kQ) (h:Wa2) (xa:Option Addr) (xb xc:Nat) (xd:Int):Prop:=
 (exI λI0=>exM λm1=>(I0 [iQ 0,.tuple #[],iQ 0] h)/\(∀(a b c:Value) (d:Env) (d:Wa2),(I0 [a,b,c] d)->(asInt .i64 c λe=>ifB (decide (e < ((xb:Nat):Int))) (asInt .i64 c λe=>bd e ((xb:Nat):Int) (Wd2 (.pointer xa) λf=>lI .i64 d (Addr.add f (e.toNat*1)) λf=>ifB (xd == f) (K (iQ e) d) (asInt .i64 c λf=>(I0 [a,iQ e,iQ (IntKind.wrap .i64 (f+1))] d)/\((m1 [a,iQ e,iQ (IntKind.wrap .i64 (f+1))] d) < (m1 [a,b,c] d))))) (K (iQ (-1)) d))))
theorem call289 {K:kQ} {h:Wa2} {xa:Option Addr} {xb xc:Nat} {xd:Int} (H:F289 K h xa xb xc xd):Wa5 Tryz.prog 289 #[(.slice xa xb xc),(iQ xd)] h K:=
 cQ Tryz.func289 H
def F301 (K:kQ) (h:Wa2) (xa:Int):Prop:=
 (cf 287 #[iQ xa] h λa b=>asBool a λa=>ifB (!a) (K (iQ 0) b) (cf 308 #[uQ (IntKind.wrap .u64 xa)] b λa b=>asInt .i64 a λa=>K (iQ (IntKind.wrap .i64 (a - 1))) b))
theorem call301 {K:kQ} {h:Wa2} {xa:Int} (H:F301 K h xa):Wa5 Tryz.prog 301 #[(iQ xa)] h K:=
 cQ Tryz.func301 H
def F308 (K:kQ) (h:Wa2) (xa:Int):Prop:=
 (cf 310 #[uQ xa] h λa b=>asInt .i64 a λa=>K (iQ a) b)
theorem call308 {K:kQ} {h:Wa2} {xa:Int} (H:F308 K h xa):Wa5 Tryz.prog 308 #[(uQ xa)] h K:=
 cQ Tryz.func308 H
def F310 (K:kQ) (h:Wa2) (xa:Int):Prop:=
 (exI λI0=>(ifB (decide (xa >= 4294967296)) (((0:Int)<=32)/\(I0 [uQ (Int.fdiv xa 4294967296),iQ 32] h)) (I0 [uQ xa,iQ 0] h))/\(∀(a b:Value) (c:Env) (c:Wa2),(I0 [a,b] c)->(exI λI5=>(asInt .u64 a λd=>ifB (decide (d >= 65536)) (asInt .u64 a λd=>((0:Int)<=16)/\(asInt .i64 b λe=>I5 [uQ (Int.fdiv d 65536),iQ (IntKind.wrap .i64 (e+16))] c)) (I5 [a,b] c))/\(∀(a b:Value) (c:Env) (c:Wa2),(I5 [a,b] c)->(exI λI13=>(asInt .u64 a λd=>ifB (decide (d >= 256)) (asInt .u64 a λd=>((0:Int)<=8)/\(asInt .i64 b λe=>I13 [uQ (Int.fdiv d 256),iQ (IntKind.wrap .i64 (e+8))] c)) (I13 [a,b] c))/\(∀(a b:Value) (c:Env) (c:Wa2),(I13 [a,b] c)->(asInt .i64 b λb=>asInt .u64 a λa=>((0:Int)<=(IntKind.wrap .u8 a))/\((((IntKind.wrap .u8 a):Int) < 256)/\(K (iQ (IntKind.wrap .i64 (b+(IntKind.wrap .i64 (W01 (⟨#[0,1,2,2,3,3,3,3,4,4,4,4,4,4,4,4,5,5,5,5,5,5,5,5,5,5,5,5,5,5,5,5,6,6,6,6,6,6,6,6,6,6,6,6,6,6,6,6,6,6,6,6,6,6,6,6,6,6,6,6,6,6,6,6,7,7,7,7,7,7,7,7,7,7,7,7,7,7,7,7,7,7,7,7,7,7,7,7,7,7,7,7,7,7,7,7,7,7,7,7,7,7,7,7,7,7,7,7,7,7,7,7,7,7,7,7,7,7,7,7,7,7,7,7,7,7,7,7,8,8,8,8,8,8,8,8,8,8,8,8,8,8,8,8,8,8,8,8,8,8,8,8,8,8,8,8,8,8,8,8,8,8,8,8,8,8,8,8,8,8,8,8,8,8,8,8,8,8,8,8,8,8,8,8,8,8,8,8,8,8,8,8,8,8,8,8,8,8,8,8,8,8,8,8,8,8,8,8,8,8,8,8,8,8,8,8,8,8,8,8,8,8,8,8,8,8,8,8,8,8,8,8,8,8,8,8,8,8,8,8,8,8,8,8,8,8,8,8,8,8,8,8,8,8,8,8]⟩ : ByteArray) (IntKind.wrap .u8 a).toNat))))) c)))))))))
theorem call310 {K:kQ} {h:Wa2} {xa:Int} (H:F310 K h xa):Wa5 Tryz.prog 310 #[(uQ xa)] h K:=
 cQ Tryz.func310 H
end
end Go.Proofs.YtahpbclnkofhfaaGreat
section
namespace Go.Proofs.YtahpbclnkofhfaaGreat.Mod
def Wg8 (w:Int):Int:=w / 2 % 65536
def Wq2 (w:Int):Bool:=w % 2 == 1
def Zw0 (w:Int):Int:=w / 131072
def b2i (b:Bool):Int:=if b then 1 else 0
def Wp3 (ptr:Int) (mark:Bool) (ver:Int):Int:=ver*131072+ptr*2+b2i mark
def WB0 (w ptr:Int) (mark:Bool):Int:=Wp3 (ptr % 65536) mark ((Zw0 w+1) % 140737488355328)
def YW8 (w:Int):Int:=WB0 w (Wg8 w) true
def u64 (n:Int):Int:=n % 18446744073709551616
def s64 (n:Int):Int:=if n % 18446744073709551616 < 9223372036854775808 then n % 18446744073709551616 else n % 18446744073709551616 - 18446744073709551616
def u32 (n:Int):Int:=n % 4294967296
structure Cf where
 algo:Int
 threads:Int
 nodes:Int
 level:Int
 batch:Int
 probes:Int
 scan:Int
structure Pl where
 c:Cf
 slots:Int
 width:Int
 sent:Int
 hazards:Int
 links:Int
 nodes:Int
 tree:Int
 size:Int
def Wb9 (c:Cf):Pl:=
 let m:=c.algo == 0
 let slots:=if m then 2 else 2*c.level+2
 let width:=if m then 3 else 5+c.level
 let links:=8+c.threads*slots
 let nodes:=links+c.nodes
 let tree:=nodes+c.nodes*width
 ⟨c,slots,width,if m then 0 else 2,8,links,nodes,tree,tree+(if m then 2 ^ c.level.toNat else 0)⟩
def okC (c:Cf):Bool:=decide (0<=c.algo/\c.algo<=2/\1<=c.threads/\c.threads<=6/\1<=c.nodes/\c.nodes<=64/\1<=c.level/\c.level<=6/\1<=c.batch/\c.batch<=16/\1<=c.probes/\c.probes<=16/\1<=c.scan/\c.scan<=64/\(if c.algo=0 then 0 else 2) < c.nodes)
def Pl.haz (p:Pl) (t s:Int):Int:=if 0<=t/\t < p.c.threads/\0<=s/\s < p.slots then p.hazards+t*p.slots+s else -1
def Pl.link (p:Pl) (n:Int):Int:=if 1<=n/\n<=p.c.nodes then p.links+n - 1 else -1
def Pl.node (p:Pl) (n f:Int):Int:=if 1<=n/\n<=p.c.nodes/\0<=f/\f < p.width then p.nodes+(n - 1)*p.width+f else -1
def Pl.at (p:Pl) (pos:Int):Int:=if 0<=pos/\pos < p.size - p.tree then p.tree+pos else -1
def Pl.within (p:Pl) (a:Int):Option Int:=if p.nodes<=a/\a < p.tree then some ((a - p.nodes) / p.width+1) else none
structure Frm where
 fn:Int
 pc:Int
 r:List Int
structure Thr where
 fr:List Frm
 ret:List Int
 pred:List Int
 succ:List Int
 word:List Int
 retired:List Int
 found:List Int
structure Gh where
 tags:List Int
 kind:Int
 node:Int
structure Acc where
 kind:Int
 a:Int
 b:Int
 done:Bool
structure Mm where
 w:List Int
 st:Int
 wt:Bool
 lg:List Acc
structure Mac where
 p:Pl
 mm:Mm
 g:Option Gh
 b:List Int
 used:Int
 th:List Thr
 acted:Bool
 bad:Bool
def Gh.fault (g:Gh) (k i:Int):Gh:=if g.kind=0/\g.node=0 then { g with kind:=k,node:=i } else g
def Gh.turn (g:Gh) (i from_ to_ k:Int):Gh:=
 if i < 1\/g.tags.length < i then g.fault 5 i else if g.tags.getD (i - 1).toNat 0≠from_ then g.fault k i else { g with tags:=g.tags.set (i - 1).toNat to_ }
def Gh.touch (g:Gh) (i:Int):Gh:=if i < 1\/g.tags.length < i then g.fault 5 i else if g.tags.getD (i - 1).toNat 0=0 then g.fault 4 i else g
def Zh6 (nodes live:Int):Gh:=⟨(List.range nodes.toNat).map λ(i:Nat)=>if (i:Int) < live then 1 else 0,0,0⟩
def Mac.gh (m:Mac) (f:Gh->Gh):Mac:={ m with g:=m.g.map f }
def Mm.ok (m:Mm) (a:Int):Bool:=decide (0<=a/\a < m.w.length)
def Mm.get (m:Mm) (a:Int):Int:=m.w.getD a.toNat 0
def Mm.put (m:Mm) (a v:Int):Mm:={ m with w:=m.w.set a.toNat v }
def Mm.tick (m:Mm) (k a b:Int) (d:Bool):Mm:={ m with st:=m.st+1,lg:=if m.wt then m.lg ++ [⟨k,a,b,d⟩] else m.lg }
def Mm.store (m:Mm) (a v:Int):Mm:=if m.ok a then (m.tick 1 a (-1) true).put a v else m
def Mm.cas (m:Mm) (a o n:Int):Mm:=if m.get a=o then (m.put a n).tick 2 a (-1) true else m.tick 2 a (-1) false
def Mm.dcas (m:Mm) (a o n b p q:Int):Mm:=if m.get a=o/\m.get b=p then ((m.put a n).put b q).tick 4 a b true else m.tick 4 a b false
def Mm.dcss (m:Mm) (a o n b p:Int):Mm:=if m.get a=o/\m.get b=p then (m.put a n).tick 5 a b true else m.tick 5 a b false
def Mac.setM (m:Mac) (x:Mm):Mac:={ m with mm:=x }
def Mac.fail (m:Mac):Mac:={ m with bad:=true }
def Mac.touch (m:Mac) (a:Int):Mac:=match m.p.within a with
 | some n=>{ m with acted:=true,g:=m.g.map λg=>g.touch n }
 | none=>{ m with acted:=true }
def Mac.load (m:Mac) (a:Int):Int × Mac:=let m:=m.touch a;if m.mm.ok a then (m.mm.get a,m.setM (m.mm.tick 0 a (-1) false)) else (0,m.fail)
def Mac.store (m:Mac) (a v:Int):Mac:=let m:=m.touch a;if m.mm.ok a then m.setM ((m.mm.tick 1 a (-1) true).put a v) else m.fail
def Mac.cas (m:Mac) (a o n:Int):Bool × Mac:=let m:=m.touch a;if m.mm.ok a then (decide (m.mm.get a=o),m.setM (m.mm.cas a o n)) else (false,m.fail)
def Mac.add (m:Mac) (a d:Int):Int × Mac:=let m:=m.touch a;if m.mm.ok a then (m.mm.get a,m.setM ((m.mm.tick 3 a (-1) true).put a (u64 (m.mm.get a+d)))) else (0,m.fail)
def Mac.dcas (m:Mac) (a o n b p q:Int):Bool × Mac:=
 let m:=(m.touch a).touch b
 if m.mm.ok a=true/\m.mm.ok b=true/\a≠b then (decide (m.mm.get a=o/\m.mm.get b=p),m.setM (m.mm.dcas a o n b p q)) else (false,m.fail)
def Mac.dcss (m:Mac) (a o n b p:Int):Bool × Mac:=
 let m:=(m.touch a).touch b
 if m.mm.ok a=true/\m.mm.ok b=true then (decide (m.mm.get a=o/\m.mm.get b=p),m.setM (m.mm.dcss a o n b p)) else (false,m.fail)
def Mac.fault (m:Mac):Bool:=m.bad || match m.g with | some g=>decide (g.kind≠0\/g.node≠0) | none=>false
def Mac.take (m:Mac):Int × Mac:=(if m.used+1 > m.b.length then 0 else m.b.getD m.used.toNat 0,{ m with used:=m.used+1 })
def Mac.next (m:Mac) (n:Int):Int × Mac:=if n < 1 then (0,m) else let (c,m):=m.take;(c % n,m)
def lev (c:Int):Nat->Nat->Int
 | 0,i=>i
 | k+1,i=>if c / 2 ^ i % 2=0 then i+1 else lev c k (i+1)
def Mac.lvl (m:Mac) (most:Int):Int × Mac:=if most < 1 then (1,m) else let (c,m):=m.take;(lev c most.toNat 0,m)
def lay (p:Pl):Mm:=
 let c:=p.c
 let m0:Mm:=⟨List.replicate p.size.toNat 0,0,false,[]⟩
 let first:=p.sent+1
 let m1:=m0.store 0 (Wp3 first false 0)
 let m2:=(List.range (c.nodes - first).toNat).foldl (λ(m:Mm) (i:Nat)=>m.store (p.link (first+i)) (first+i+1)) m1
 let m3:=m2.store 2 1
 if c.algo=0 then m3 else
  let m4:=m3.store (p.node 1 3) c.level
  let m5:=m4.store (p.node 2 0) 18446744073709551615
  (List.range c.level.toNat).foldl (λ(m:Mm) (i:Nat)=>m.store (p.node 1 (5+i)) (Wp3 2 false 0)) m5
def WE2 (c:Cf):Thr:=⟨[],[0,0,0],List.replicate c.level.toNat 0,List.replicate c.level.toNat 0,List.replicate c.level.toNat 0,[],[]⟩
def Wi7 (c:Cf) (b:List Int) (gh:Bool):Mac:=
 let p:=Wb9 c
 ⟨p,lay p,if gh then some (Zh6 c.nodes p.sent) else none,b,0,List.replicate c.threads.toNat (WE2 c),false,false⟩
structure Run where
 m:Mac
 t:Thr
 id:Int
def pad (n:Nat) (l:List Int):List Int:=(l ++ List.replicate n 0).take n
def Thr.push (t:Thr) (fn:Int) (r:List Int):Thr:={ t with fr:=t.fr ++ [⟨fn,0,pad 10 r⟩] }
def Thr.pop (t:Thr) (r:List Int):Thr:=if t.fr = [] then t else { t with fr:=t.fr.dropLast,ret:=pad 3 r }
def dfF:Frm:=⟨0,0,[]⟩
def Thr.top (t:Thr):Frm:=t.fr.getLast?.getD dfF
def Thr.setTop (t:Thr) (f:Frm):Thr:={ t with fr:=t.fr.dropLast ++ [f] }
def Frm.g (f:Frm) (i:Nat):Int:=f.r.getD i 0
def Frm.s (f:Frm) (i:Nat) (v:Int):Frm:={ f with r:=f.r.set i v }
def Frm.at (f:Frm) (pc:Int):Frm:={ f with pc:=pc }
def Run.f (x:Run):Frm:=x.t.top
def Run.setF (x:Run) (f:Frm):Run:={ x with t:=x.t.setTop f }
def Run.pc (x:Run) (pc:Int):Run:=x.setF (x.f.at pc)
def Run.s (x:Run) (i:Nat) (v:Int):Run:=x.setF (x.f.s i v)
def Run.push (x:Run) (fn:Int) (r:List Int):Run:={ x with t:=x.t.push fn r }
def Run.pop (x:Run) (r:List Int):Run:={ x with t:=x.t.pop r }
def Run.call (x:Run) (pc fn:Int) (r:List Int):Run:=(x.pc pc).push fn r
def Run.fo (x:Run) (l:List Int):Run:={ x with t:={ x.t with found:=l } }
def Run.re (x:Run) (l:List Int):Run:={ x with t:={ x.t with retired:=l } }
def Run.setPl (x:Run) (p s w:List Int):Run:={ x with t:={ x.t with pred:=p,succ:=s,word:=w } }
def Run.load (x:Run) (a:Int):Int × Run:=let (v,m):=x.m.load a;(v,{ x with m:=m })
def Run.store (x:Run) (a v:Int):Run:={ x with m:=x.m.store a v }
def Run.cas (x:Run) (a o n:Int):Bool × Run:=let (v,m):=x.m.cas a o n;(v,{ x with m:=m })
def Run.add (x:Run) (a d:Int):Int × Run:=let (v,m):=x.m.add a d;(v,{ x with m:=m })
def Run.gh (x:Run) (f:Gh->Gh):Run:={ x with m:=x.m.gh f }
def alloc (x:Run):Run:=
 let f:=x.f
 let node:=Wg8 (f.g 0)
 if f.pc=0 then
  let (v,x):=x.load 0
  let x:=(x.s 0 v).pc 1
  if Wg8 v=0 then x.pop [0] else x
 else if f.pc=1 then
  let (v,x):=x.load (x.m.p.link node)
  (x.s 1 v).pc 2
 else
  let x:=x.pc 0
  let (ok,x):=x.cas 0 (f.g 0) (WB0 (f.g 0) (s64 (f.g 1)) false)
  if ok then (x.gh λg=>g.turn node 0 1 1).pop [node] else x
def Wu1 (x:Run):Run:=
 let f:=x.f
 let node:=s64 (f.g 0)
 if f.pc=0 then
  let (v,x):=x.load 0
  (x.s 1 v).pc 1
 else if f.pc=1 then
  (x.store (x.m.p.link node) (Wg8 (f.g 1))).pc 2
 else
  let x:=x.pc 0
  let (ok,x):=x.cas 0 (f.g 1) (WB0 (f.g 1) node false)
  if ok then (x.gh λg=>g.turn node 2 0 3).pop [u64 node] else x
def Wu2 (x:Run):Run:=if x.t.fr = [] then x else if x.f.fn=1 then alloc x else if x.f.fn=2 then Wu1 x else x.pop []
def Wu3 (x:Run):Run:=
 let f:=x.f
 let a:=s64 (f.g 1)
 if f.pc=0 then
  let (v,x):=x.load a
  let x:=(x.s 2 v).pc 1
  if Wg8 v=0 then x.pop [v] else x
 else if f.pc=1 then
  (x.store (x.m.p.haz x.id (s64 (f.g 0))) (Wg8 (f.g 2))).pc 2
 else
  let (v,x):=x.load a
  if v=f.g 2\/Wg8 v=0 then x.pop [v] else (x.s 2 v).pc 1
def YW9 (x:Run):Run:=
 let f:=x.f
 if f.pc >= x.m.p.slots then x.pop [] else (x.store (x.m.p.haz x.id f.pc) 0).pc (f.pc+1)
def WB1 (x:Run):Run:=
 let node:=s64 (x.f.g 0)
 let x:=x.gh λg=>g.turn node 1 2 2
 let x:=(x.re (x.t.retired ++ [node])).pop []
 if (x.t.retired.length:Int) >= x.m.p.c.scan then x.push 6 [] else x
def WF0 (x:Run) (all:Int):Run:=
 if x.f.pc=all then ((x.re (x.t.retired.filter λn=>x.t.found.contains n)).fo (x.t.retired.filter λn=>!x.t.found.contains n)).pc (x.f.pc+1) else x
def W54 (x:Run):Run:=match x.t.found with
 | []=>x.pop []
 | n :: rest=>(x.fo rest).push 2 [u64 n]
def scan (x:Run):Run:=
 let p:=x.m.p
 let all:=p.slots*p.c.threads
 let x:=if x.f.pc=0 then x.fo [] else x
 if x.f.pc < all then
  let (v,y):=x.load (p.haz (x.f.pc / p.slots) (x.f.pc % p.slots))
  (y.fo (y.t.found ++ [s64 v])).pc (x.f.pc+1)
 else W54 (WF0 x all)
def Wl1 (x:Run):Run:=
 if x.t.fr = [] then x else if x.f.fn=3 then Wu3 x else if x.f.fn=4 then YW9 x else if x.f.fn=5 then WB1 x else if x.f.fn=6 then scan x else Wu2 x
def bits (d:Run->Run):Nat->Run->Option Run
 | 0,x=>if x.m.acted || x.t.fr.isEmpty then some x else none
 | n+1,x=>if x.m.acted || x.t.fr.isEmpty then some x else bits d n (d x)
def Mac.step (m:Mac) (i:Int) (d:Run->Run) (n:Nat):Option (Bool × Mac):=
 if i < 0\/m.th.length<=i then some (false,m) else
  match bits d n ⟨{ m with acted:=false },m.th.getD i.toNat (WE2 m.p.c),i⟩ with
  | none=>none
  | some x=>some (!x.t.fr.isEmpty,{ x.m with th:=x.m.th.set i.toNat x.t })
end Go.Proofs.YtahpbclnkofhfaaGreat.Mod
end
section
namespace Go.Proofs.YtahpbclnkofhfaaGreat.Mod
def Zd5 (n:Int):Bool:=decide (1<=n/\n<=1048576)
def Ws0 (n:Int):Int:=if Zd5 n then (Nat.log2 n.toNat:Nat) else 0
def Wg4 (d:Int):Int:=if d < 1\/d > 20 then 0 else 2 ^ (d - 1).toNat
def YX0 (d draw:Int):Int:=let n:=Wg4 d;if n=0 then 0 else n+(max draw 0) % n
def ZN5 (n l:Int):Int:=if !Zd5 n || decide (l < 0) || decide (Ws0 n < l) then 0 else n / 2 ^ (Ws0 n - l).toNat
def Ym8 (n d:Int):Bool:=Zd5 n && decide (n < Wg4 d)
structure Sp where
 lo:Int
 hi:Int
def Zw1 (n:Int):Sp:=⟨0,max n 1 - 1⟩
def Sp.done (s:Sp):Bool:=decide (s.lo >= s.hi)
def YA0 (n:Int):Int:=max 0 (min n 1073741824)
def Sp.mid (s:Sp):Int:=(YA0 s.lo+YA0 s.hi) / 2
def Sp.cut (s:Sp) (is:Bool):Sp:=if s.done then s else if is then ⟨s.lo,s.mid⟩ else ⟨s.mid+1,s.hi⟩
def Run.at (x:Run) (place:Int):Int:=x.m.p.at (s64 place)
def Run.nodeW (x:Run) (w field:Int):Int:=x.m.p.node (Wg8 w) field
def Run.swing (x:Run) (place w ptr:Int) (dirty:Bool):Bool × Run:=x.cas (x.at place) w (WB0 w ptr dirty)
def Run.fin (x:Run) (k key val:Int):Run:=(((x.s 7 k).s 8 key).s 9 val).call 90 4 []
def Run.ret (x:Run) (i:Nat):Int:=x.t.ret.getD i 0
def WS4 (x:Run):Run:=
 if x.f.pc=0 then x.call 1 3 [1,u64 (x.at (x.f.g 0))]
 else
  let w:=x.ret 0
  if Wg8 w=0 then x.pop [w,1099511627776]
  else let (v,x):=x.load (x.nodeW w 0);x.pop [w,v]
def Yc7 (x:Run):Sp:=⟨x.f.g 6 / 256,x.f.g 6 % 256⟩
def WS5 (x:Run) (s:Sp):Run:=x.s 6 (((Nat.lor (u64 (u64 s.lo*256)).toNat (u64 s.hi).toNat:Nat)):Int)
def YH4 (x:Run) (l:Int):Int:=u64 (ZN5 (s64 (x.f.g 5)) l)
def WS6 (x:Run):Run:=
 let f:=x.f
 let v:=x.ret 0
 let n:=x.t.retired.length
 if f.pc=0 then x.call 1 1 []
 else if f.pc=1 then
  let x:=x.s 2 v
  if v≠0 then x.pc 2
  else if f.g 3=0/\n > 0 then (x.s 3 1).call 0 6 []
  else x.fin 1 0 0
 else if f.pc=2 then (x.store (x.m.p.node (s64 (f.g 2)) 0) (f.g 0)).pc 3
 else ((x.store (x.m.p.node (s64 (f.g 2)) 1) (f.g 1)).s 3 0).pc 4
def Wo4 (x:Run):Run:=
 let f:=x.f
 let p:=x.m.p
 if f.pc=4 then
  let (v,x):=x.load 2
  let x:=x.s 4 v
  let d:=s64 v
  let (n,m):=x.m.next (Wg4 d)
  (({ x with m:=m }:Run).s 5 (u64 (YX0 d n))).pc 5
 else if f.pc=5 then x.call 6 10 [f.g 5]
 else if f.pc=6 then
  if x.ret 1 >= f.g 0 then (WS5 x (Zw1 (s64 (f.g 4)))).pc 8
  else
   let x:=(x.s 3 (u64 (f.g 3+1))).pc 4
   if s64 (u64 (f.g 3+1)) >= p.c.probes then x.pc 7 else x
 else
  if s64 (f.g 4) >= p.c.level then (x.fin 1 0 0).push 5 [f.g 2]
  else let (_,x):=x.cas 2 (f.g 4) (u64 (f.g 4+1));(x.s 3 0).pc 4
def WS7 (x:Run):Run:=
 let s:=Yc7 x
 if x.f.pc=8 then (if s.done then x.pc 10 else x.call 9 10 [YH4 x s.mid])
 else (WS5 x (s.cut (decide (x.ret 1 >= x.f.g 0)))).pc 8
def W55 (x:Run) (ok:Bool):Run:=if ok then x.fin 0 0 0 else (x.s 3 0).pc 4
def YX1 (x:Run):Run:=
 let f:=x.f
 let place:=YH4 x (Yc7 x).lo
 let w:=f.g 3
 let v:=x.ret 0
 if f.pc=10 then x.call 11 10 [place]
 else if f.pc=11 then
  if x.ret 1 < f.g 0 then (x.s 3 0).pc 4
  else
   let x:=((x.s 3 v).store (x.m.p.node (s64 (f.g 2)) 2) (Wg8 v)).pc 13
   if place=1 then x.pc 12 else x
 else if f.pc=12 then let (ok,x):=x.swing 1 w (s64 (f.g 2)) (Wq2 w);W55 x ok
 else if f.pc=13 then x.call 14 10 [place / 2]
 else if f.pc=14 then
  if x.ret 1 > f.g 0 then W55 x false
  else
   let (ok,m):=x.m.dcss (x.at place) w (WB0 w (s64 (f.g 2)) (Wq2 w)) (x.at (place / 2)) (x.ret 0)
   W55 { x with m:=m } ok
 else x
def WS8 (x:Run):Run:=if x.f.pc<=3 then WS6 x else if x.f.pc<=7 then Wo4 x else if x.f.pc<=9 then WS7 x else YX1 x
def WM3 (x:Run):Run:=
 let f:=x.f
 let w:=f.g 0
 if f.pc=0 then x.call 1 3 [0,u64 (x.at 1)]
 else if f.pc=1 then
  let v:=x.ret 0
  let x:=(x.s 0 v).pc 2
  if Wq2 v then x.call 0 14 [1] else if Wg8 v=0 then x.fin 3 0 0 else x
 else if f.pc=2 then let (v,x):=x.load (x.nodeW w 0);(x.s 1 v).pc 3
 else if f.pc=3 then
  let (v,x):=x.load (x.nodeW w 1)
  let x:=(x.s 2 v).pc 4
  if f.fn=13 then x.fin 2 (f.g 1) v else x
 else x
def WM4 (x:Run):Run:=
 let f:=x.f
 let w:=f.g 0
 if f.pc=4 then let (v,x):=x.load (x.nodeW w 2);(x.s 3 v).pc 5
 else if f.pc=5 then
  let x:=x.pc 0
  let (ok,x):=x.swing 1 w (s64 (f.g 3)) true
  if ok then x.call 6 14 [1] else x
 else if f.pc=6 then x.call 7 5 [u64 (Wg8 w)]
 else if f.pc=7 then x.fin 2 (f.g 1) (f.g 2)
 else WM3 x
def WO7 (x:Run):Run:=
 let w:=x.f.g 1
 let place:=x.f.g 0
 let x:=x.pc 0
 let (ok,x):=x.swing place w (Wg8 w) false
 if ok then x.pop [] else x
def WS9 (x:Run):Run:=
 let f:=x.f
 if f.pc=0 then x.call 1 10 [f.g 0]
 else if f.pc=1 then
  let v:=x.ret 0
  let x:=((x.s 1 v).s 2 (x.ret 1)).pc 2
  if Wq2 v then x else x.pop []
 else if f.pc=2 then
  let (v,x):=(x.pc 3).load 2
  if Ym8 (s64 (f.g 0)) (s64 v) then x.pc 4 else x
 else if f.pc=3 then WO7 x
 else x
def Wr6 (x:Run) (at_:Nat) (next place:Int):Run:=
 let v:=x.ret 0
 let x:=((x.s at_ v).s (at_+1) (x.ret 1)).pc next
 if Wq2 v then x.call 0 14 [place] else x
def WO8 (x:Run) (at_:Nat) (place:Int):Run:=
 let f:=x.f
 let own:=f.g 1
 let low:=f.g at_
 let x:=x.pc 0
 let (ok,m):=x.m.dcas (x.at (f.g 0)) own (WB0 own (Wg8 low) false) (x.at place) low (WB0 low (Wg8 own) true)
 let x:Run:={ x with m:=m }
 if ok then x.s 0 place else x
def WT0 (x:Run):Run:=
 let f:=x.f
 let left:=u64 (2*f.g 0)
 if f.pc=4 then x.call 5 10 [left]
 else if f.pc=5 then (if Wq2 (x.ret 0) then Wr6 x 3 6 left else (Wr6 x 3 6 left).call 6 10 [u64 (left+1)])
 else if f.pc=6 then Wr6 x 5 7 (u64 (left+1))
 else if f.pc=7 then
  if f.g 4<=f.g 6/\f.g 4 < f.g 2 then WO8 x 3 left
  else if f.g 6 < f.g 4/\f.g 6 < f.g 2 then WO8 x 5 (u64 (left+1))
  else WO7 x
 else WS9 x
def Wh5 (x:Run):Run:=
 if x.t.fr = [] then x else
 let f:=x.f
 if f.pc=90/\11<=f.fn/\f.fn<=13 then x.pop [f.g 7,f.g 8,f.g 9]
 else if f.fn=10 then WS4 x
 else if f.fn=11 then WS8 x
 else if f.fn=12\/f.fn=13 then WM4 x
 else if f.fn=14 then WT0 x
 else Wl1 x
end Go.Proofs.YtahpbclnkofhfaaGreat.Mod
end
section
namespace Go.Proofs.YtahpbclnkofhfaaGreat.Mod
def Wg6 (key ticket:Int):Int:=u32 key*4294967296+u32 ticket
def WJ5 (n:Int):Int:=n / 4294967296
def WM5 (v:Int) (gone:Bool):Int:=u32 v*2+b2i gone
def WT1 (w:Int):Int:=u32 (w / 2)
def YX2 (w:Int):Bool:=w % 2 == 1
def WM6 (w:Int):Int:=if w % 2=1 then w else w+1
def Run.nlink (x:Run) (node row:Int):Int:=x.m.p.node (s64 node) (5+s64 row)
def Wo5 (x:Run):Run:=
 let f:=x.f
 let i:=(s64 (f.g 1)).toNat
 let x:=x.setPl (x.t.pred.set i (f.g 2)) (x.t.succ.set i (Wg8 (f.g 3))) (x.t.word.set i (f.g 3))
 if i=0 then x.pop [] else (x.s 1 (u64 (f.g 1 - 1))).pc 1
def WG3 (x:Run) (w:Int):Run:=
 let x:=x.s 3 w
 if Wq2 w then x.pc 8 else if Wg8 w=2 then Wo5 x else x.pc 3
def WT2 (x:Run):Run:=
 let f:=x.f
 let curr:=Wg8 (f.g 3)
 if f.pc=3 then (x.store (x.m.p.haz x.id (2*s64 (f.g 1)+1)) curr).pc 4
 else if f.pc=4 then
  let (w,x):=x.load (x.nlink (f.g 2) (f.g 1))
  if w≠f.g 3 then WG3 x w else x.pc 5
 else if f.pc=5 then
  let (w,x):=x.load (x.nlink curr (f.g 1))
  let x:=(x.s 4 w).pc 7
  if Wq2 w then x.pc 6 else x
 else if f.pc=6 then
  let w:=WB0 (f.g 3) (Wg8 (f.g 4)) false
  let (ok,x):=x.cas (x.nlink (f.g 2) (f.g 1)) (f.g 3) w
  if ok then WG3 x w else x.pc 2
 else if f.pc=7 then
  let (v,x):=x.load (x.m.p.node curr 0)
  if v >= f.g 0 then Wo5 x else (x.s 2 curr).pc 1
 else x
def WT3 (x:Run):Run:=
 let f:=x.f
 if f.pc=0 then ((x.s 2 1).s 1 (u64 (x.m.p.c.level - 1))).pc 1
 else if f.pc=1 then (x.store (x.m.p.haz x.id (2*s64 (f.g 1))) (f.g 2)).pc 2
 else if f.pc=2 then let (w,x):=x.load (x.nlink (f.g 2) (f.g 1));WG3 x w
 else if f.pc=8 then let (_,x):=x.load (x.m.p.node (s64 (f.g 2)) 4);x.pc 0
 else WT2 x
def WB2 (x:Run):Run:=if x.t.fr = [] then x else if x.f.fn=20 then WT3 x else Wl1 x
def Run.na (x:Run) (node field:Int):Int:=x.m.p.node (s64 node) field
def Run.swingA (x:Run) (a w to_:Int):Bool × Run:=x.cas a w (WB0 w (s64 to_) false)
def Run.drop1 (x:Run) (node:Int):Bool × Run:=let (v,x):=x.add (x.na node 2) 18446744073709551615;(v == 1,x)
def WB3 (x:Run):Run:=
 let f:=x.f
 let v:=x.ret 0
 let n:=x.t.retired.length
 if f.pc=0 then x.call 1 1 []
 else if f.pc=1 then
  let x:=x.s 2 v
  if v≠0 then x.pc 2
  else if f.g 5=0/\n > 0 then (x.s 5 1).call 0 6 []
  else x.fin 1 0 0
 else if f.pc=2 then
  let (v,x):=x.add 3 1
  let x:=x.s 4 (Wg6 (u32 (f.g 0)) (u32 v))
  let (l,m):=x.m.lvl x.m.p.c.level
  (({ x with m:=m }:Run).s 3 (u64 l)).pc 3
 else x
def WZ4 (x:Run):Run:=
 let f:=x.f
 let n:=f.g 2
 let x:=if f.pc=3 then x.store (x.na n 0) (f.g 4) else if f.pc=4 then x.store (x.na n 1) (WM5 (u32 (f.g 1)) false)
  else if f.pc=5 then x.store (x.na n 2) 2 else if f.pc=6 then x.store (x.na n 3) (f.g 3) else if f.pc=7 then x.store (x.na n 4) 0 else x
 x.pc (f.pc+1)
def Wu4 (x:Run):Run:=
 let f:=x.f
 let n:=f.g 2
 let row:=f.g 5
 if f.pc=8 then (x.s 5 0).call 9 20 [f.g 4]
 else if f.pc=9 then let (w,x):=x.load (x.nlink n row);(x.s 6 w).pc 10
 else if f.pc=10 then
  let x:=x.store (x.nlink n row) (WB0 (f.g 6) (s64 (x.t.succ.getD row.toNat 0)) false)
  let x:=(x.s 5 (u64 (row+1))).pc 9
  if u64 (row+1) >= f.g 3 then x.pc 11 else x
 else if f.pc=11 then
  let x:=(x.s 5 1).pc 8
  let (ok,x):=x.swingA (x.nlink (x.t.pred.getD 0 0) 0) (x.t.word.getD 0 0) n
  if ok then x.pc 12 else x
 else x
def Wu5 (x:Run):Run:=
 let f:=x.f
 let n:=f.g 2
 let row:=f.g 5
 let su:=x.t.succ.getD row.toNat 0
 if f.pc=12 then
  if row >= f.g 3 then x.pc 15
  else
   let (w,x):=x.load (x.nlink n row)
   let x:=x.s 6 w
   if Wq2 w then x.pc 15 else if Wg8 w≠su then x.pc 13 else x.pc 14
 else if f.pc=13 then let (_,x):=x.swingA (x.nlink n row) (f.g 6) su;x.pc 12
 else if f.pc=14 then
  let (ok,x):=x.swingA (x.nlink (x.t.pred.getD row.toNat 0) row) (x.t.word.getD row.toNat 0) n
  if ok then (x.s 5 (u64 (row+1))).pc 12 else x.call 12 20 [f.g 4]
 else x
def Wu6 (x:Run):Run:=
 let f:=x.f
 if f.pc=15 then
  let (z,x):=x.drop1 (f.g 2)
  if z then x.call 17 20 [f.g 4] else x.pc 16
 else if f.pc=17 then x.call 16 5 [f.g 2]
 else x.fin 0 0 0
def WB4 (x:Run):Run:=if x.f.pc<=2 then WB3 x else if x.f.pc<=7 then WZ4 x else if x.f.pc<=11 then Wu4 x else if x.f.pc<=14 then Wu5 x else Wu6 x
def Wv2 (x:Run):Run:=x.fin 2 (WJ5 (x.f.g 2)) (WT1 (x.f.g 3))
def Wv3 (x:Run):Run:=
 let f:=x.f
 if f.pc=0 then (x.s 6 0).call 1 3 [u64 (x.m.p.slots - 2),u64 (x.nlink 1 0)]
 else if f.pc=1 then
  let v:=x.ret 0
  let x:=((x.s 0 v).s 1 (Wg8 v)).pc 2
  if Wg8 v=2 then x.fin 3 0 0 else x
 else if f.pc=2 then
  let (v,x):=x.load (x.na (f.g 1) 1)
  let x:=(x.s 3 v).pc 3
  if YX2 v then x.pc 6 else x
 else if f.pc=3 then
  let (v,x):=x.load (x.na (f.g 1) 0)
  let x:=(x.s 2 v).pc 4
  if f.fn=23 then Wv2 x else x
 else x
def Wv4 (x:Run):Run:=
 let f:=x.f
 if f.pc=4 then
  let x:=x.pc 0
  let (ok,x):=x.cas (x.na (f.g 1) 1) (f.g 3) (WM6 (f.g 3))
  if ok then (x.s 6 1).pc 5 else x
 else if f.pc=5 then (x.store (x.na (f.g 1) 4) 1).pc 6
 else if f.pc=6 then let (v,x):=x.load (x.na (f.g 1) 3);(x.s 4 v).pc 7
 else x
def Wv5 (x:Run):Run:=
 let f:=x.f
 if f.pc=7 then
  if f.g 4=0 then (if f.g 6=1 then x.pc 11 else x.pc 9)
  else
   let (w,x):=x.load (x.nlink (f.g 1) (f.g 4 - 1))
   let x:=(x.s 5 w).pc 8
   if Wq2 w then (x.s 4 (u64 (f.g 4 - 1))).pc 7 else x
 else if f.pc=8 then
  let x:=x.pc 7
  let (ok,x):=x.cas (x.nlink (f.g 1) (f.g 4 - 1)) (f.g 5) (YW8 (f.g 5))
  if ok then x.s 4 (u64 (f.g 4 - 1)) else x
 else x
def Wo6 (x:Run):Run:=
 let f:=x.f
 if f.pc=9 then let (v,x):=x.load (x.nlink (f.g 1) 0);(x.s 5 v).pc 10
 else if f.pc=10 then let (_,x):=x.swingA (x.nlink 1 0) (f.g 0) (Wg8 (f.g 5));x.pc 0
 else if f.pc=11 then
  let (z,x):=x.drop1 (f.g 1)
  if z then x.call 12 20 [f.g 2] else x.pc 13
 else if f.pc=12 then x.call 13 5 [f.g 1]
 else Wv2 x
def WB5 (x:Run):Run:=if x.f.pc<=3 then Wv3 x else if x.f.pc<=6 then Wv4 x else if x.f.pc<=8 then Wv5 x else Wo6 x
def Wi0 (x:Run):Run:=
 if x.t.fr = [] then x else
 let f:=x.f
 if f.fn < 21\/23 < f.fn then WB2 x
 else if f.pc=90 then x.pop [f.g 7,f.g 8,f.g 9]
 else if f.fn=21 then WB4 x
 else WB5 x
end Go.Proofs.YtahpbclnkofhfaaGreat.Mod
end
section
namespace Go.Proofs.YtahpbclnkofhfaaGreat.Mod
def Wm9 (x:Run):Run:=
 let f:=x.f
 let i:=(s64 (f.g 2)).toNat
 let x:=x.setPl (x.t.pred.set i (f.g 3)) (x.t.succ.set i (Wg8 (f.g 4))) (x.t.word.set i (f.g 4))
 if i=0 then x.pop [f.g 5] else (x.s 2 (u64 (f.g 2 - 1))).pc 1
def WF1 (x:Run):Run:=(x.s 3 (Wg8 (x.f.g 4))).pc 1
def WB6 (x:Run):Run:=
 let f:=x.f
 let (e,x):=x.load 1
 if e≠f.g 1 then x.pc 0
 else if s64 (f.g 2)=0/\Wq2 (f.g 4)=true then WF1 (x.s 5 (Wg8 (f.g 4)))
 else if s64 (f.g 2) > 0 then x.pc 5 else x.pc 6
def WT4 (x:Run):Run:=
 let f:=x.f
 let next:=Wg8 (f.g 4)
 if f.pc=0 then
  let (e,x):=x.load 1
  ((((x.s 1 e).s 3 1).s 5 0).s 2 (u64 (x.m.p.c.level - 1))).pc 1
 else if f.pc=1 then (x.store (x.m.p.haz x.id (2*s64 (f.g 2))) (f.g 3)).pc 2
 else if f.pc=2 then
  let (w,x):=x.load (x.nlink (f.g 3) (f.g 2))
  let x:=(x.s 4 w).pc 3
  if Wg8 w=2 then Wm9 x else x
 else if f.pc=3 then (x.store (x.m.p.haz x.id (2*s64 (f.g 2)+1)) next).pc 4
 else if f.pc=4 then WB6 x
 else if f.pc=5 then
  let (w,x):=(x.pc 6).load (x.m.p.node next 5)
  if Wq2 w then WF1 x else x
 else
  let (v,x):=x.load (x.m.p.node next 0)
  if v < f.g 0 then WF1 x else Wm9 x
def Ws8 (x:Run):Run:=if x.t.fr = [] then x else if x.f.fn=30 then WT4 x else Wl1 x
def Run.swingM (x:Run) (a w to_:Int) (mk:Bool):Bool × Run:=x.cas a w (WB0 w (s64 to_) mk)
def Run.guard (x:Run) (slot node:Int):Run:=x.store (x.m.p.haz x.id (x.m.p.slots - 1 - slot % 2)) node
def WB7 (x:Run):Run:=
 let f:=x.f
 if f.pc=0 then
  let (w,x):=x.load (x.nlink 1 0)
  let x:=(((x.s 0 w).s 1 (Wg8 w)).s 2 (Wg8 w)).pc 1
  if Wq2 w then x else x.fin 0 0 0
 else if f.pc=1 then
  let (w,x):=x.load (x.nlink (f.g 1) 0)
  let x:=(x.s 2 (Wg8 w)).pc 2
  if Wq2 w then (x.s 1 (Wg8 w)).pc 1 else x
 else if f.pc=2 then x.call 3 36 [f.g 1]
 else if f.pc=3 then let (_,x):=x.swingM (x.nlink 1 0) (f.g 0) (f.g 2) false;x.pc 4
 else if f.pc=4 then x.call 5 35 [Wg8 (f.g 0),f.g 2]
 else x.fin 0 0 0
def WB8 (x:Run):Run:=
 let f:=x.f
 if f.pc=0 then let (_,x):=x.add 1 1;x.pc 1
 else if f.pc=1 then
  if f.g 0=f.g 1 then x.pop []
  else let (w,x):=x.load (x.nlink (f.g 0) 0);(x.s 2 (Wg8 w)).pc 2
 else (x.s 0 (f.g 2)).call 1 5 [f.g 0]
def Wv6 (x:Run):Run:=(x.s 2 (u64 (x.f.g 2 - 1))).pc 1
def WB9 (x:Run):Run:=
 let f:=x.f
 if f.pc=4 then
  if f.g 4=f.g 0 then x.pc 5
  else
   let (w,x):=x.load (x.nlink (f.g 4) 0)
   if Wq2 w then x.pc 5 else if f.g 4=Wg8 (f.g 3) then Wv6 x else x.pc 6
 else if f.pc=5 then
  let (w,x):=x.load (x.nlink (f.g 4) (f.g 2))
  let x:=(x.s 4 (Wg8 w)).pc 2
  if Wg8 w=2 then x.pc 6 else x
 else
  let (ok,x):=x.swingM (x.nlink 1 (f.g 2)) (f.g 3) (f.g 4) false
  if ok then Wv6 x else x.pc 1
def WC0 (x:Run):Run:=
 let f:=x.f
 if f.pc=0 then
  let (e,x):=x.load 1
  ((x.s 1 e).s 2 (u64 (x.m.p.c.level - 1))).pc 1
 else if f.pc=1 then
  if f.g 2=0 then x.pop []
  else
   let (w,x):=x.load (x.nlink 1 (f.g 2))
   let x:=((x.s 3 w).s 4 (Wg8 w)).pc 2
   if Wg8 w=2 then Wv6 x else x
 else if f.pc=2 then ((x.guard (f.g 5) (f.g 4)).s 5 (u64 (f.g 5+1))).pc 3
 else if f.pc=3 then
  let (e,x):=(x.pc 4).load 1
  if e≠f.g 1 then x.pc 0 else x
 else WB9 x
def WC1 (x:Run):Run:=
 let f:=x.f
 let v:=x.ret 0
 let n:=x.t.retired.length
 if f.pc=0 then x.call 1 1 []
 else if f.pc=1 then
  let x:=x.s 2 v
  if v≠0 then x.pc 2
  else if f.g 5=0/\n > 0 then (x.s 5 1).call 0 6 []
  else x.fin 1 0 0
 else if f.pc=2 then
  let (v,x):=x.add 3 1
  let x:=x.s 4 (Wg6 (u32 (f.g 0)) (u32 v))
  let (l,m):=x.m.lvl x.m.p.c.level
  (({ x with m:=m }:Run).s 3 (u64 l)).pc 3
 else x
def WZ5 (x:Run):Run:=
 let f:=x.f
 let n:=f.g 2
 let x:=if f.pc=3 then x.store (x.na n 0) (f.g 4) else if f.pc=4 then x.store (x.na n 1) (f.g 1)
  else if f.pc=5 then x.store (x.na n 2) 1 else if f.pc=6 then x.store (x.na n 3) (f.g 3) else x
 x.pc (f.pc+1)
def Wu7 (x:Run):Run:=
 let f:=x.f
 let n:=f.g 2
 if f.pc=7 then x.call 8 30 [f.g 4]
 else if f.pc=8 then let (w,x):=(x.s 7 (x.ret 0)).load (x.nlink n 0);(x.s 6 w).pc 9
 else if f.pc=9 then (x.store (x.nlink n 0) (WB0 (f.g 6) (s64 (x.t.succ.getD 0 0)) false)).pc 10
 else if f.pc=10 then
  let x:=(x.s 5 1).pc 7
  let (ok,x):=x.swingM (x.nlink (x.t.pred.getD 0 0) 0) (x.t.word.getD 0 0) n false
  if ok then x.pc 11 else x
 else x
def Wu8 (x:Run):Run:=
 let f:=x.f
 let n:=f.g 2
 let row:=f.g 5
 if f.pc=11 then
  if row >= f.g 3 then x.pc 17
  else let (w,x):=(x.pc 12).load (x.nlink n 0);if Wq2 w then x.pc 17 else x
 else if f.pc=12 then
  let x:=x.pc 13
  let s:=x.t.succ.getD row.toNat 0
  if s=2 then x else if s=f.g 7 then x.pc 17
  else let (w,x):=x.load (x.nlink s 0);if Wq2 w then x.pc 17 else x
 else if f.pc=13 then let (w,x):=x.load (x.nlink n row);(x.s 6 w).pc 14
 else if f.pc=14 then (x.store (x.nlink n row) (WB0 (f.g 6) (s64 (x.t.succ.getD row.toNat 0)) false)).pc 15
 else x
def WC2 (x:Run):Run:=
 let f:=x.f
 let row:=f.g 5
 if f.pc=15 then
  let (ok,x):=x.swingM (x.nlink (x.t.pred.getD row.toNat 0) row) (x.t.word.getD row.toNat 0) (f.g 2) false
  if ok then (x.s 5 (u64 (row+1))).pc 11 else x.call 16 30 [f.g 4]
 else if f.pc=16 then
  let x:=(x.s 7 (x.ret 0)).pc 11
  if x.t.succ.getD 0 0≠f.g 2 then x.pc 17 else x
 else if f.pc=17 then (x.store (x.na (f.g 2) 2) 0).pc 18
 else x.fin 0 0 0
def WC3 (x:Run):Run:=if x.f.pc<=2 then WC1 x else if x.f.pc<=6 then WZ5 x else if x.f.pc<=10 then Wu7 x else if x.f.pc<=14 then Wu8 x else WC2 x
def Ww9 (x:Run):Run:=
 let f:=x.f
 let next:=Wg8 (f.g 5)
 if f.pc=0 then
  let (e,x):=x.load 1
  ((((x.s 0 e).s 2 1).s 3 0).s 4 0).pc 1
 else if f.pc=1 then let (w,x):=x.load (x.nlink 1 0);((x.s 1 w).s 5 w).pc 2
 else if f.pc=2 then
  let x:=x.pc 3
  if next=2 then x.fin 3 0 0 else x
 else if f.pc=3 then ((x.guard (f.g 3) next).s 3 (u64 (f.g 3+1))).pc 4
 else if f.pc=4 then
  let (e,x):=(x.pc 5).load 1
  if e≠f.g 0 then x.pc 0 else x
 else x
def YH5 (x:Run):Run:=
 let f:=x.f
 let next:=Wg8 (f.g 5)
 if f.pc=5 then
  let x:=x.pc 6
  if f.g 2≠1/\f.g 4=0 then
   let (v,x):=x.load (x.na (f.g 2) 2)
   if v=1 then x.s 4 (f.g 2) else x
  else x
 else if f.pc=6 then
  if Wq2 (f.g 5) then (x.s 2 next).pc 7 else if f.fn=33 then x.pc 9 else x.pc 8
 else if f.pc=7 then let (w,x):=x.load (x.nlink (f.g 2) 0);(x.s 5 w).pc 2
 else if f.pc=8 then
  let x:=x.pc 9
  let (ok,x):=x.swingM (x.nlink (f.g 2) 0) (f.g 5) next true
  if ok then x else (x.s 3 (u64 (f.g 3 - 1))).pc 7
 else x
def Wx0 (x:Run):Run:=
 let f:=x.f
 let next:=Wg8 (f.g 5)
 if f.pc=9 then let (v,x):=x.load (x.na next 1);(x.s 6 v).pc 10
 else if f.pc=10 then
  let (v,x):=x.load (x.na next 0)
  let x:=(x.s 8 (WJ5 v)).pc 11
  let x:=if f.fn=33\/f.g 3 < u64 x.m.p.c.batch then x.pc 14 else x
  if f.g 4=0 then x.s 4 next else x
 else x
def WM7 (x:Run):Run:=
 let f:=x.f
 if f.pc=11 then
  let x:=x.pc 14
  let (ok,x):=x.swingM (x.nlink 1 0) (f.g 1) (f.g 4) true
  if ok then x.pc 12 else x
 else if f.pc=12 then x.call 13 36 [0]
 else if f.pc=13 then x.call 14 35 [Wg8 (f.g 1),f.g 4]
 else x.fin 2 (f.g 8) (f.g 6)
def Wx1 (x:Run):Run:=if x.f.pc<=4 then Ww9 x else if x.f.pc<=8 then YH5 x else if x.f.pc<=10 then Wx0 x else WM7 x
def Wl2 (x:Run):Run:=
 if x.t.fr = [] then x else
 let f:=x.f
 if f.fn < 31\/36 < f.fn then Ws8 x
 else if f.pc=90 then x.pop [f.g 7,f.g 8,f.g 9]
 else if f.fn=31 then WC3 x
 else if f.fn=34 then WB7 x
 else if f.fn=35 then WB8 x
 else if f.fn=36 then WC0 x
 else Wx1 x
end Go.Proofs.YtahpbclnkofhfaaGreat.Mod
end
namespace Go.Proofs.YtahpbclnkofhfaaGreat
section
open Mod
def U (n:Int):Prop:=0<=n/\n < 18446744073709551616
theorem U.wrap {n:Int} (h:U n):IntKind.wrap .u64 n=n:=by
 obtain ⟨m,rfl⟩ : ∃m:Nat,n=m:=⟨n.toNat,by have:=h.1;omega⟩
 exact W51 (by have:=h.2;omega)
theorem U.bv {n:Int} (h:U n):(BitVec.ofInt 64 n).toNat=n.toNat:=by
 rw [BitVec.toNat_ofInt]
 have:=h.1;have:=h.2
 omega
theorem U.and1 {n:Int} (h:U n):IntKind.wrap .u64 ((((BitVec.ofInt 64 n) &&& (BitVec.ofInt 64 1)).toNat:Nat):Int)=n % 2:=by
 rw [BitVec.toNat_and,h.bv,show (BitVec.ofInt 64 1).toNat=1 by decide,Nat.and_one_is_mod,W51 (by omega)]
 have:=h.1
 omega
theorem Yc8 {a b:Int} (k:Nat) (ha:U a) (hb:0<=b) (hk:b < ((2 ^ k:Nat):Int)) (hd:a % ((2 ^ k:Nat):Int)=0) (hs:U (a+b)):IntKind.wrap .u64 ((((BitVec.ofInt 64 a) ||| (BitVec.ofInt 64 b)).toNat:Nat):Int)=a+b:=by
 have hbU:U b:=⟨hb,by have:=hs.2;have:=ha.1;omega⟩
 rw [BitVec.toNat_or,ha.bv,hbU.bv]
 obtain ⟨m,rfl⟩ : ∃m:Nat,a=m:=⟨a.toNat,by have:=ha.1;omega⟩
 obtain ⟨n,rfl⟩ : ∃n:Nat,b=n:=⟨b.toNat,by omega⟩
 rw [Int.toNat_natCast,Int.toNat_natCast]
 have hd':m % 2 ^ k=0:=by
  have:((m % 2 ^ k:Nat):Int)=0:=by rw [Int.natCast_emod];exact hd
  omega
 obtain ⟨c,hc⟩ : ∃c,m=2 ^ k*c:=⟨m / 2 ^ k,by have:=Nat.div_add_mod m (2 ^ k);omega⟩
 have hn:n < 2 ^ k:=by omega
 rw [hc,<- Nat.two_pow_add_eq_or_of_lt hn,<- hc]
 have:=hs.2
 rw [W51 (by omega)]
 omega
theorem Wr1 {n m:Int} (h:0<=m):Int.fdiv n m=n / m:=Int.fdiv_eq_ediv_of_nonneg _ h
theorem WJ6 {n m:Int} (h:0<=n):Int.tmod n m=n % m:=Int.tmod_eq_emod_of_nonneg h
theorem Wf3 {K:kQ} {h:Wa2} {w:Int} (hw:U w) (k:K (iQ (Wg8 w)) h):Wa5 Tryz.prog 146 #[uQ w] h K:=by
 refine call146 ?_
 unfold F146
 refine ⟨by omega,by omega,?_⟩
 have:=hw.1
 rw [Wr1 (by omega),WJ6 (by omega),Wb5 (by omega) (by omega)]
 exact k
theorem Wi1 {K:kQ} {h:Wa2} {w:Int} (hw:U w) (k:K (.bool (Wq2 w)) h):Wa5 Tryz.prog 226 #[uQ w] h K:=by
 refine call226 ?_
 unfold F226
 rw [hw.and1]
 exact k
theorem YX3 {K:kQ} {h:Wa2} {w:Int} (hw:U w) (k:K (uQ (Zw0 w)) h):Wa5 Tryz.prog 285 #[uQ w] h K:=by
 refine call285 ?_
 unfold F285
 rw [Wr1 (by omega)]
 exact ⟨by omega,k⟩
theorem ZE8 (b:Bool):0<=b2i b/\b2i b<=1:=by cases b <;> decide
theorem YX4 {ptr ver:Int} {mk:Bool} (hp:0<=ptr/\ptr < 65536) (hv:0<=ver/\ver < 140737488355328):U (Wp3 ptr mk ver):=by
 have:=ZE8 mk
 unfold U Wp3
 omega
theorem W16 {K:kQ} {h:Wa2} {ptr ver:Int} {mk:Bool} (hp:0<=ptr/\ptr < 65536) (hv:0<=ver/\ver < 140737488355328) (k:K (uQ (Wp3 ptr mk ver)) h):Wa5 Tryz.prog 278 #[uQ ptr,.bool mk,uQ ver] h K:=by
 refine call278 ?_
 unfold F278
 refine ⟨by omega,by omega,?_⟩
 have e1:IntKind.wrap .u64 (ver*131072)=ver*131072:=U.wrap ⟨by omega,by omega⟩
 have e2:IntKind.wrap .u64 (ptr*2)=ptr*2:=U.wrap ⟨by omega,by omega⟩
 rw [e1,e2]
 have e3:=Yc8 (a:=ver*131072) (b:=ptr*2) 17 ⟨by omega,by omega⟩ (by omega) (by simp only [Nat.reducePow];omega) (by simp only [Nat.reducePow];omega) ⟨by omega,by omega⟩
 rw [e3]
 cases mk with
 | false=>
  simp only [Wc5]
  unfold Wp3 b2i at k
  simpa using k
 | true=>
  simp only [Wd8]
  have e4:=Yc8 (a:=ver*131072+ptr*2) (b:=1) 1 ⟨by omega,by omega⟩ (by omega) (by decide) (by simp only [Nat.reducePow];omega) ⟨by omega,by omega⟩
  rw [e4]
  unfold Wp3 b2i at k
  simpa using k
theorem Wq3 {w ptr:Int} {mk:Bool}:U (WB0 w ptr mk):=YX4 ⟨by omega,by omega⟩ ⟨by omega,by omega⟩
theorem WT5 (n:Int):IntKind.wrap .u64 n=n % 18446744073709551616:=by
 unfold IntKind.wrap IntKind.signed IntKind.bits
 have e:(2:Int) ^ 64=18446744073709551616:=rfl
 simp only [Bool.false_and,Bool.false_eq_true,if_false,e]
theorem WE3 (n:Int):IntKind.wrap .u32 n=n % 4294967296:=by
 unfold IntKind.wrap IntKind.signed IntKind.bits
 have e:(2:Int) ^ 32=4294967296:=rfl
 simp only [Bool.false_and,Bool.false_eq_true,if_false,e]
theorem WJ7 (n:Int):IntKind.wrap .i64 n=s64 n:=by
 unfold IntKind.wrap IntKind.signed IntKind.bits s64
 have e:(2:Int) ^ 64=18446744073709551616:=rfl
 have e2:(2:Int) ^ (64 - 1)=9223372036854775808:=rfl
 simp only [Bool.true_and,decide_eq_true_eq,e,e2]
 split <;> split <;> omega
theorem Wg9 {K:kQ} {h:Wa2} {w ptr:Int} {mk:Bool} (hw:U w) (k:K (uQ (WB0 w ptr mk)) h):Wa5 Tryz.prog 228 #[uQ w,iQ ptr,.bool mk] h K:=by
 refine call228 ?_
 unfold F228 cf
 refine ⟨by omega,?_⟩
 refine Wa0 (YX3 hw ?_)
 simp only [Wa4]
 refine ⟨by omega,?_⟩
 have hv:0<=Zw0 w/\Zw0 w < 140737488355328:=by have:=hw.1;have:=hw.2;unfold Zw0;omega
 rw [show IntKind.wrap .u64 (Zw0 w+1)=Zw0 w+1 from U.wrap ⟨by omega,by omega⟩,WT5,WJ6 (by omega),WJ6 (by omega)]
 rw [show ptr % 18446744073709551616 % 65536=ptr % 65536 by omega]
 refine Wa0 (W16 ⟨by omega,by omega⟩ ⟨by omega,by omega⟩ ?_)
 simp only [Wa4]
 exact k
theorem Yc9 {K:kQ} {h:Wa2} {w:Int} (hw:U w) (k:K (uQ (YW8 w)) h):Wa5 Tryz.prog 261 #[uQ w] h K:=by
 refine call261 ?_
 unfold F261 cf
 refine Wa0 (Wf3 hw ?_)
 simp only [Wa4]
 refine Wa0 (Wg9 hw ?_)
 simp only [Wa4]
 exact k
def V (n:Int):Prop:=0<=n/\n < 4294967296
theorem YX5 (n:Int):V (u32 n):=⟨by unfold u32;omega,by unfold u32;omega⟩
theorem V.u32 {n:Int} (h:V n):u32 n=n:=by unfold Mod.u32;have:=h.1;have:=h.2;omega
theorem W17 {K:kQ} {h:Wa2} {a b:Int} (ha:V a) (hb:V b) (k:K (uQ (Wg6 a b)) h):Wa5 Tryz.prog 249 #[.int .u32 a,.int .u32 b] h K:=by
 refine call249 ?_
 unfold F249
 refine ⟨by omega,?_⟩
 have:=ha.1;have:=ha.2;have:=hb.1;have:=hb.2
 rw [show IntKind.wrap .u64 a=a from U.wrap ⟨by omega,by omega⟩,show IntKind.wrap .u64 b=b from U.wrap ⟨by omega,by omega⟩,show IntKind.wrap .u64 (a*4294967296)=a*4294967296 from U.wrap ⟨by omega,by omega⟩,
  Yc8 (a:=a*4294967296) (b:=b) 32 ⟨by omega,by omega⟩ (by omega) (by simp only [Nat.reducePow];omega) (by simp only [Nat.reducePow];omega) ⟨by omega,by omega⟩]
 unfold Wg6 at k
 rw [ha.u32,hb.u32] at k
 exact k
theorem YH6 {K:kQ} {h:Wa2} {a:Int} {g:Bool} (ha:V a) (k:K (uQ (WM5 a g)) h):Wa5 Tryz.prog 252 #[.int .u32 a,.bool g] h K:=by
 refine call252 ?_
 unfold F252
 refine ⟨by omega,?_⟩
 have:=ha.1;have:=ha.2
 rw [show IntKind.wrap .u64 a=a from U.wrap ⟨by omega,by omega⟩,show IntKind.wrap .u64 (a*2)=a*2 from U.wrap ⟨by omega,by omega⟩]
 unfold WM5 b2i at k
 rw [ha.u32] at k
 cases g with
 | false=>simp only [Wc5];simpa using k
 | true=>
  simp only [Wd8]
  rw [Yc8 (a:=a*2) (b:=1) 1 ⟨by omega,by omega⟩ (by omega) (by decide) (by simp only [Nat.reducePow];omega) ⟨by omega,by omega⟩]
  simpa using k
theorem YH7 {K:kQ} {h:Wa2} {w:Int} (hw:U w) (k:K (.bool (YX2 w)) h):Wa5 Tryz.prog 258 #[uQ w] h K:=by
 refine call258 ?_
 unfold F258
 rw [hw.and1]
 exact k
theorem Yd0 {K:kQ} {h:Wa2} {n:Int} (hn:U n) (k:K (.int .u32 (WJ5 n)) h):Wa5 Tryz.prog 274 #[uQ n] h K:=by
 refine call274 ?_
 unfold F274
 have:=hn.1;have:=hn.2
 rw [Wr1 (by omega),WE3,show n / 4294967296 % 4294967296=n / 4294967296 by omega]
 exact ⟨by omega,k⟩
theorem YX6 {K:kQ} {h:Wa2} {w:Int} (k:K (.int .u32 (WT1 w)) h):Wa5 Tryz.prog 298 #[uQ w] h K:=by
 refine call298 ?_
 unfold F298
 rw [Wr1 (by omega),WE3]
 exact ⟨by omega,k⟩
theorem YH8 {K:kQ} {h:Wa2} {w:Int} (hw:U w) (k:K (uQ (WM6 w)) h):Wa5 Tryz.prog 260 #[uQ w] h K:=by
 refine call260 ?_
 unfold F260
 have:=hw.1;have:=hw.2
 have key:IntKind.wrap .u64 ((((BitVec.ofInt 64 w) ||| (BitVec.ofInt 64 1)).toNat:Nat):Int)=WM6 w:=by
  unfold WM6
  by_cases e:w % 2=1
  ·rw [if_pos e,BitVec.toNat_or,hw.bv,show (BitVec.ofInt 64 1).toNat=1 by decide]
   have e2:w.toNat ||| 1=w.toNat:=by
    apply Nat.eq_of_testBit_eq
    intro j
    rw [Nat.testBit_or]
    cases j with
    | zero=>
     rw [Nat.testBit_zero,Nat.testBit_zero]
     have:w.toNat % 2=1:=by omega
     simp [this]
    | succ j=>simp [Nat.testBit_succ]
   rw [e2,W51 (by omega)]
   omega
  ·rw [if_neg e]
   exact Yc8 (a:=w) (b:=1) 1 hw (by omega) (by decide) (by simp only [Nat.reducePow];omega) ⟨by omega,by omega⟩
 rw [key]
 exact k
end
end Go.Proofs.YtahpbclnkofhfaaGreat
