/- Part 6 of what the proofs of this seat rest on: see the last text of the claim. -/
import Derived.Test.YtahpbclnkofhfaaGreatQfcfce01ad74a
import Derived.WalkKit
import Derived.ProofKit
import Derived.OpenShut
import Derived.ShutString
import Derived.ChangeOld
import Derived.Below
import Derived.Carry
import Derived.SizedLaws
import Derived.Test.YtahpbclnkofhfaaGreatProg
set_option linter.unusedSimpArgs false
set_option linter.unusedVariables false
set_option linter.ambiguousOpen false
set_option maxRecDepth 20000
namespace Go.Proofs.YtahpbclnkofhfaaGreat
section
open Go.ChangeShapes Go.WideShapes Go.ChangeAt Go.RowKit
theorem YG0:ownKnob Tryz.prog.godebug=none:=by kernel_rfl
theorem YG1:laidOutB Tryz.prog=true:=by kernel_rfl
theorem YG2 {W W':World} (h:Old W.heap.size W.heap W'.heap) {p:MemPlace} (hp:p.block < W.heap.size):W.sameAt W' p:=by
 cases p with
 | cell b o=>exact World.cell?_of_block (w:=W) (h.2 b hp)
 | map b=>exact h.2 b hp
theorem YG3 {H:Type} {enc:TypeId × Value->H} {P:Program} {t:TypeId} (hl:laidOutB P=true) (hr:P.readableRec t=true) (hrow:t < P.types.size) {W W':World} {v:Value} {d:DataW H} {ps:List MemPlace}
  (h:DataW.Trod enc P W 0 (λ_=>true) true t v d ps) (hb:Old W.heap.size W.heap W'.heap) :
  DataW.Trod enc P W' 0 (λb=>decide (b < W.heap.size)) true t v d ps:=by
 have hlt:∀x ∈ ps,x.block < W.heap.size:=by obtain ⟨m,hm⟩:=h;exact DataW.trod_lt m _ _ _ hm
 exact WideElems.Trod_stays hl hr hrow h (λx hx=>YG2 hb (hlt x hx)) (λx hx=>by simpa using hlt x hx)
theorem Ys7 {W W':World} (ho:Old W.heap.size W.heap W'.heap) (hos:W'.os=W.os) (hout:W'.output=W.output) (may:MemPlace->Prop):W.keptBut W' may:=by
 refine ⟨hos,hout,λi hi=>?_⟩
 rw [ho.2 i hi]
 split <;> simp_all
end
section
theorem We8 (cs:Array Value) (F:Array Value->Prop):Wg5 (.tuple cs) F=F cs:=rfl
theorem YZ2 (a b:Value) (F:Value->Prop):Wc2 #[a,b] 0 F=F a:=rfl
theorem YZ3 (a b:Value) (F:Value->Prop):Wc2 #[a,b] 1 F=F b:=rfl
theorem Yc4:Wn9 Tryz.prog 3=some .i64:=by kernel_rfl
theorem Wm0 (f:Int->Int->Int) (a b:Int) (F:Int->Prop):Wg1 f Tryz.prog 3 [iQ a,iQ b] F=F (f a b):=by
 unfold Wg1
 simp only [Yc4,Wa2]
 unfold Wg1.go
 simp only [Wa2]
 rfl
end
section
theorem Wy6 (cs:Array Value) (F:Array Value->Prop):asAgg (.agg cs) F=F cs:=rfl
theorem Wu4 {cs:Array Value} {n:Nat} {X:Prop} (h:cs.size=n) (x:X):Wg6 cs n X:=by
 unfold Wg6
 rw [show Nat.beq cs.size n=true by rw [h];exact Nat.beq_refl n]
 exact x
theorem Wc7 {cs:List Value} {i:Nat} {v:Value} {F:Value->Prop} (h:cs[i]? = some v) (x:F v):Wc2 cs.toArray i F:=by unfold Wc2;rw [List.getElem?_toArray,h];exact x
theorem Wd3 {h:Wa1} {b i:Nat} {v:Value} {row:List Value} {t:TypeId} (hb:h[b]? = some (.cells row.toArray t)) (e:row[i]? = some v):Wa3 h ⟨b,i,none⟩=some v:=by
 rw [Wb4 hb,List.getElem?_toArray];exact e
theorem ldR {h:Wa1} {b i:Nat} {v:Value} {row:List Value} {t:TypeId} {K:Value->Prop} (hb:h[b]? = some (.cells row.toArray t)) (e:row[i]? = some v) (k:K v):ldH h ⟨b,i,none⟩ K:=
 Wb5 (Wd3 hb e) k
structure Wrote (h:Wa1) (b:Nat) (row:Array Value) (t:TypeId) (h':Wa1):Prop where
 size:h'.size=h.size
 new:h'[b]? = some (.cells row t)
 old:∀c,c≠b->h'[c]? = h[c]?
theorem Wrote.trans {h h' h'':Wa1} {b:Nat} {row row':Array Value} {t t':TypeId} (x:Wrote h b row t h') (y:Wrote h' b row' t' h''):Wrote h b row' t' h'':=
 ⟨y.size.trans x.size,y.new,λc hc=>(y.old c hc).trans (x.old c hc)⟩
theorem Wrote.toOld {N:Nat} {g h h':Wa1} {b:Nat} {row:Array Value} {t:TypeId} (x:Wrote h b row t h') (o:Old N g h) (hb:N<=b):Old N g h':=
 ⟨by rw [x.size];exact o.1,λc hc=>(x.old c (by omega)).trans (o.2 c hc)⟩
theorem stR {h:Wa1} {b i:Nat} {v:Value} {row:List Value} {t:TypeId} {K:Wa1->Prop} (hb:h[b]? = some (.cells row.toArray t)) (hi:Nat.ble (i+1) row.length=true) (ho:Wh0 v True)
  (k:∀h',Wrote h b (row.set i v).toArray t h'->K h'):stH h ⟨b,i,none⟩ v K:=by
 have hlt:=(Array.getElem?_eq_some_iff.1 hb).1
 refine WW6 hb (by rw [List.size_toArray];exact Nat.le_of_ble_eq_true hi) ho ?_
 rintro h' rfl
 exact k _ ⟨by simp,by rw [Wi8 hlt,List.setIfInBounds_toArray],λc hc=>Wj6 hc⟩
theorem We3 {vs:List Value} {h:Wa1} {b:Nat} {row:Array Value} {t:TypeId} {K:Wa1->Prop} (hb:h[b]? = some (.cells row t)) (hl:vs.length=row.size) (ho:∀y ∈ vs,Wh0 y True)
  (k:∀h',Wrote h b vs.toArray t h'->K h'):stN h (aQ b) 0 vs K:=by
 have hlt:=(Array.getElem?_eq_some_iff.1 hb).1
 refine WB0 vs h b 0 0 row t K hb (by omega) ho ?_
 intro row' h1 h2
 have e:row' = vs.toArray:=by
  apply Array.ext_getElem?
  intro j
  rw [h2 j]
  by_cases hj:j < vs.length
  ·rw [if_pos (by omega)];simp
  ·rw [if_neg (by omega),Array.getElem?_eq_none (by omega),Array.getElem?_eq_none (by simp;omega)]
 subst e
 exact k _ ⟨by simp,Wi8 hlt,λc hc=>Wj6 hc⟩
theorem st3 {h:Wa1} {b:Nat} {v0 v1 v2:Value} {K:Wa1->Prop} (H:stN h (aQ b) 0 [v0,v1,v2] K):stH h (aQ b) v0 λh=>stH h ⟨b,1,none⟩ v1 λh=>stH h ⟨b,2,none⟩ v2 K:=H
theorem st7 {h:Wa1} {b:Nat} {v0 v1 v2 v3 v4 v5 v6:Value} {K:Wa1->Prop} (H:stN h (aQ b) 0 [v0,v1,v2,v3,v4,v5,v6] K) :
 stH h (aQ b) v0 λh=>stH h ⟨b,1,none⟩ v1 λh=>stH h ⟨b,2,none⟩ v2 λh=>stH h ⟨b,3,none⟩ v3 λh=>stH h ⟨b,4,none⟩ v4 λh=>stH h ⟨b,5,none⟩ v5 λh=>stH h ⟨b,6,none⟩ v6 K:=H
theorem YG4 {h:Wa1} {b:Nat} {v0 v1 v2 v3 v4 v5 v6 v7 v8 v9 v10 v11 v12 v13 v14:Value} {K:Wa1->Prop} (H:stN h (aQ b) 0 [v0,v1,v2,v3,v4,v5,v6,v7,v8,v9,v10,v11,v12,v13,v14] K) :
 stH h (aQ b) v0 λh=>stH h ⟨b,1,none⟩ v1 λh=>stH h ⟨b,2,none⟩ v2 λh=>stH h ⟨b,3,none⟩ v3 λh=>stH h ⟨b,4,none⟩ v4 λh=>stH h ⟨b,5,none⟩ v5 λh=>stH h ⟨b,6,none⟩ v6 λh=>
 stH h ⟨b,7,none⟩ v7 λh=>stH h ⟨b,8,none⟩ v8 λh=>stH h ⟨b,9,none⟩ v9 λh=>stH h ⟨b,10,none⟩ v10 λh=>stH h ⟨b,11,none⟩ v11 λh=>stH h ⟨b,12,none⟩ v12 λh=>stH h ⟨b,13,none⟩ v13 λh=>stH h ⟨b,14,none⟩ v14 K:=H
structure Pushed (h:Wa1) (row:Array Value) (t:TypeId) (h':Wa1):Prop where
 size:h'.size=h.size+1
 new:h'[h.size]? = some (.cells row t)
 old:∀c,c < h.size->h'[c]? = h[c]?
theorem We4 (h:Wa1) (row:Array Value) (t:TypeId):Pushed h row t (h.push (.cells row t)):=⟨by simp,Wk6 _ _,λc hc=>Wg8 _ _ _ hc⟩
theorem Pushed.toOld {h h':Wa1} {row:Array Value} {t:TypeId} (x:Pushed h row t h'):Old h.size h h':=⟨by rw [x.size];omega,x.old⟩
end
section
def Fr (S:Nat->Prop) (h h':Wa1):Prop:=h.size<=h'.size/\∀b,b < h.size->¬ S b->h'[b]? = h[b]?
def blk (a:Option Addr) (b:Nat):Prop:=∃ad,a=some ad/\ad.block=b
theorem Fr.refl (S:Nat->Prop) (h:Wa1):Fr S h h:=⟨Nat.le_refl _,λ_ _ _=>rfl⟩
theorem Fr.mono {S T:Nat->Prop} {h h':Wa1} (x:Fr S h h') (H:∀b,b < h.size->S b->T b):Fr T h h':=⟨x.1,λb hb hT=>x.2 b hb λhS=>hT (H b hb hS)⟩
theorem Old.fr {h h':Wa1} (S:Nat->Prop) (o:Old h.size h h'):Fr S h h':=⟨o.1,λb hb _=>o.2 b hb⟩
section
variable {α:Type} {f:α->List Value} {n:Nat}
theorem Wo6 (hf:∀x,(f x).length=n) (l:List α):(l.flatMap f).length=l.length*n:=by
 induction l with
 | nil=>simp
 | cons x l ih=>rw [List.flatMap_cons,List.length_append,ih,hf,List.length_cons,Nat.add_mul];omega
theorem Wi3 (hf:∀x,(f x).length=n) {l:List α}:∀ {i:Nat} (hi:i < l.length) {j:Nat},j < n->(l.flatMap f)[i*n+j]? = (f l[i])[j]?:=by
 induction l with
 | nil=>intro i hi;simp at hi
 | cons x l ih=>
  intro i hi j hj
  rw [List.flatMap_cons]
  cases i with
  | zero=>rw [List.getElem?_append_left (by rw [hf];omega)];simp
  | succ i=>
   have e:(i+1)*n+j=n+(i*n+j):=by rw [Nat.add_mul];omega
   rw [List.getElem?_append_right (by rw [hf,e];omega),hf,e,Nat.add_sub_cancel_left]
   exact ih (by simpa using hi) hj
theorem WW8 (hf:∀x,(f x).length=n) (l:List α):∀i,(l.flatMap f).take (i*n)=(l.take i).flatMap f:=by
 induction l with
 | nil=>intro i;simp
 | cons x l ih=>
  intro i
  cases i with
  | zero=>simp
  | succ i=>
   rw [List.flatMap_cons,List.take_succ_cons,List.flatMap_cons,List.take_append,hf,List.take_of_length_le (by rw [hf,Nat.add_mul];omega),show (i+1)*n - n=i*n by rw [Nat.add_mul];omega,ih]
structure SX (f:α->List Value) (h:Wa1) (a:Option Addr) (l c:Nat) (xs:List α):Prop where
 s:Sees h a (xs.flatMap f)
 len:xs.length=l
 cap:l<=c
theorem SX.old {h h':Wa1} {a:Option Addr} {l c:Nat} {xs:List α} (H:SX f h a l c xs) (ho:Old h.size h h'):SX f h' a l c xs:=⟨H.s.old ho,H.len,H.cap⟩
theorem SX.at (hf:∀x,(f x).length=n) (hn:0 < n) {h:Wa1} {a:Option Addr} {l c:Nat} {xs:List α} (H:SX f h a l c xs) {i:Nat} (hi:i < xs.length) :
  ∃ad,a=some ad/\∀(j:Nat) (v:Value),(f xs[i])[j]? = some v->Wa3 h ((ad.add (i*n)).add j)=some v:=by
 have h0:(xs.flatMap f)[i*n+0]? = (f xs[i])[0]?:=Wi3 hf hi hn
 have h1:(f xs[i])[0]? = some ((f xs[i])[0]'(by rw [hf];exact hn)):=List.getElem?_eq_getElem _
 rw [h1] at h0
 obtain ⟨ad,e,_⟩:=H.s _ _ h0
 refine ⟨ad,e,λj v hv=>?_⟩
 have hj:j < n:=by have:=(List.getElem?_eq_some_iff.1 hv).1;rwa [hf] at this
 obtain ⟨ad',e',hc⟩:=H.s (i*n+j) v ((Wi3 hf hi hj).trans hv)
 rw [e] at e';cases e'
 rw [Wr0];exact hc
theorem Sees.subn {h:Wa1} {a:Option Addr} {vs:List Value} (H:Sees h a vs) {i m:Nat} (hm:vs.length<=m*n) (hi:i<=m):Sees h (WM9 a i m n) (vs.drop (i*n)):=by
 intro j v hj
 unfold WM9
 rw [List.getElem?_drop] at hj
 have hlt:i*n+j < vs.length:=(List.getElem?_eq_some_iff.1 hj).1
 obtain ⟨ad,rfl,hc⟩:=H _ _ hj
 have hne:m≠i:=λe=>by subst e;omega
 rw [if_neg hne]
 exact ⟨_,rfl,by rw [Wr0];exact hc⟩
theorem WG4 (a:Option Addr) (c n:Nat):WM9 a 0 c n=a:=by
 unfold WM9
 split
 ·rfl
 ·rw [Nat.zero_mul];cases a <;> rfl
end
theorem Own.take {h:Wa1} {t:TypeId} {n:Nat} {a:Option Addr} {l c:Nat} {xs:List Value} (H:Own h t n a l c xs) {i:Nat} (hi:i<=l):Own h t n a i c (xs.take (i*n)):=by
 obtain ⟨h1,h2,h3⟩:=H
 have him:i*n<=l*n:=Nat.mul_le_mul_right _ hi
 refine ⟨by simp;omega,by omega,h3.imp id ?_⟩
 rintro ⟨b,row,e,hb,hs,ht⟩
 exact ⟨b,row,e,hb,hs,by rw [<- ht,List.take_take,Nat.min_eq_left him]⟩
theorem Own.lt2 {h:Wa1} {t:TypeId} {n:Nat} {a:Option Addr} {l c:Nat} {xs:List Value} (H:Own h t n a l c xs) {b:Nat} (hb:blk a b):b < h.size:=by
 obtain ⟨ad,e,rfl⟩:=hb
 exact H.lt ad e
theorem Own.write {h:Wa1} {t:TypeId} {n:Nat} {a:Option Addr} {ad:Addr} {l c:Nat} {xs vs:List Value} {off:Nat} {K:Wa1->Prop} (ho:Own h t n a l c xs) (ea:a=some ad) (hv:off+vs.length<=c*n) (hone:∀y ∈ vs,Wh0 y True)
  (k:∀h',(∀i,i*n<=off->i<=l->Own h' t n a i c (xs.take (i*n)))->(off+vs.length<=l*n->Own h' t n a l c (xs.take off ++ vs ++ xs.drop (off+vs.length)))->Fr (blk a) h h'->h'.size=h.size->K h'):stN h (ad.add off) 0 vs K:=by
 obtain ⟨h1,h2,h3⟩:=ho
 rcases h3 with ⟨rfl,hc0⟩ | ⟨b,row,e,hb,hs,ht⟩
 ·cases ea
 rw [ea] at e;cases e
 rw [Wc1,Nat.zero_add]
 have hlt:=(Array.getElem?_eq_some_iff.1 hb).1
 refine WB0 vs h b off 0 row t K hb (by omega) hone ?_
 intro row' r1 r2
 have hl:l*n<=c*n:=Nat.mul_le_mul_right _ h2
 refine k _ (λi hi hil=>⟨?_,by omega,.inr ⟨b,row',ea,Wi8 hlt,by rw [r1,hs],?_⟩⟩) (λhin=>⟨?_,h2,.inr ⟨b,row',ea,Wi8 hlt,by rw [r1,hs],?_⟩⟩) ⟨by simp,λb' hb' hne=>Wj6 (λe=>hne ⟨_,ea,e.symm⟩)⟩ (by simp)
 ·have:=Nat.mul_le_mul_right n hil
  rw [List.length_take];omega
 ·have:=Nat.mul_le_mul_right n hil
  rw [<- ht,List.take_take,Nat.min_eq_left this]
  apply List.ext_getElem?
  intro j
  rw [List.getElem?_take,List.getElem?_take]
  split
  ·rw [Array.getElem?_toList,r2 j,if_neg (by omega),Array.getElem?_toList]
  ·rfl
 ·rw [List.length_append,List.length_append,List.length_take,List.length_drop];omega
 ·apply List.ext_getElem?
  intro j
  have hx:∀j,j < l*n->xs[j]? = row[j]?:=λj hj=>by rw [<- ht,List.getElem?_take,if_pos hj,Array.getElem?_toList]
  rw [List.getElem?_take,Array.getElem?_toList,r2 j]
  by_cases c1:j < off
  ·rw [if_pos (by omega),if_neg (by omega),List.append_assoc,List.getElem?_append_left (by rw [List.length_take];omega),List.getElem?_take,if_pos c1,hx j (by omega)]
  ·by_cases c2:j < off+vs.length
   ·rw [if_pos (by omega),if_pos (by omega),List.append_assoc,List.getElem?_append_right (by rw [List.length_take];omega),List.length_take,Nat.min_eq_left (by omega),List.getElem?_append_left (by omega)]
    congr 1 <;> omega
   ·rw [List.append_assoc,List.getElem?_append_right (by rw [List.length_take];omega),List.length_take,Nat.min_eq_left (by omega),List.getElem?_append_right (by omega),List.getElem?_drop]
    by_cases c3:j < l*n
    ·rw [if_pos c3,if_neg (by omega),<- hx j c3]
     congr 1 <;> omega
    ·rw [if_neg c3]
     symm;apply List.getElem?_eq_none;omega
theorem Yc5 {P:Program} {h:Wa1} {a:Option Addr} {vs:List Value} {m sz l c:Nat} {F:Array Value->Wa1->Prop} (hs:Sees h a vs) (hn:vs.length=m*sz) (k:F vs.toArray h):hp P (Builtin.firstCells sz m (.slice a l c)) F h:=by
 cases a with
 | none=>
  have:vs = []:=by
   cases vs with
   | nil=>rfl
   | cons y ys=>obtain ⟨ad,e,_⟩:=hs 0 y rfl;cases e
  subst this;exact k
 | some ad=>
  show hp P (loadCells ad (m*sz)) F h
  refine We0 ad _ 0 [] F ?_
  rw [<- hn]
  refine Wr1 vs 0 [] _ (λj v hj=>?_) (by simpa using k)
  obtain ⟨ad',e,hc⟩:=hs j v hj
  cases e;rwa [Nat.zero_add]
theorem YG5 {P:Program} {t elem rt:TypeId} {h:Wa1} {a a2 a3:Option Addr} {l c i dl dc sl sc m:Nat} {xs vs:List Value} {K:kQ}
  (hu:und P t=.slice elem) (hth:We9 P elem=true) (ho:Own h elem (siz P elem) a l c xs) (hs:Sees h a2 vs) (hm:m=min sl dl) (hn:vs.length=m*siz P elem) (hone:∀y ∈ vs,Wh0 y True) (hi:i+m<=l)
  (h3:m=0\/∃ad,a=some ad/\a3=some (ad.add (i*siz P elem)))
  (k:∀h',Own h' elem (siz P elem) a l c (xs.take (i*siz P elem) ++ vs ++ xs.drop ((i+m)*siz P elem))->Fr (blk a) h h'->h'.size=h.size->K (iv m) h') :
  WQ1 P #[t,t] rt #[.slice a3 dl dc,.slice a2 sl sc] h K:=by
 have hu':=Wb9 hu (by simp)
 unfold WQ1 Builtin.copy_
 simp only [List.getElem?_toArray,List.getElem?_cons_zero,List.getElem?_cons_succ,Wa5,Wb1,Wa8 hu',Wd4 hth]
 show hp P (Builtin.lenOf _) _ h
 simp only [Builtin.lenOf,Wb1,Wa5,Wd4 hth]
 have em:Nat.min sl dl=m:=hm.symm
 rw [em]
 refine Yc5 hs hn ?_
 rcases Nat.eq_zero_or_pos m with e0 | hp0
 ·have:vs = []:=by rw [e0] at hn;simpa using hn
  subst this
  subst e0
  have fin:=k h (by simpa using ho) (Fr.refl _ _) rfl
  cases a3 with
  | none=>exact fin
  | some ad=>exact fin
 ·obtain ⟨ad,ea,e3⟩:=h3.resolve_left (by omega)
  subst e3
  simp only [Wa5]
  refine Wf7 _ _ h 0 _ ?_
  have hbd:i*siz P elem+vs.length<=l*siz P elem:=by rw [hn,<- Nat.add_mul];exact Nat.mul_le_mul_right _ hi
  have hcl:l*siz P elem<=c*siz P elem:=Nat.mul_le_mul_right _ ho.2.1
  refine Own.write ho ea (by omega) (by simpa using hone) λh' w1 w2 w3 w4=>?_
  have:=w2 hbd
  simp only [Wb1]
  refine k h' ?_ w3 w4
  rw [Nat.add_mul,<- hn];exact this
theorem YZ4 {z:Array Value} (hz:∀y ∈ z.toList,Wh0 y True) (m:Nat):∀y ∈ (Builtin.zeroCells z m).toList,Wh0 y True:=by
 intro y hy
 unfold Builtin.zeroCells at hy
 simp only [Array.toList_map,List.mem_map] at hy
 obtain ⟨i,hi,rfl⟩:=hy
 simp at hi
 have hzp:0 < z.size:=by
  rcases Nat.eq_zero_or_pos z.size with e | e
  ·rw [e] at hi;omega
  ·exact e
 have hlt:i % z.size < z.size:=Nat.mod_lt _ hzp
 rw [getElem!_pos z _ hlt]
 exact hz _ (by simp)
theorem Ys8 {P:Program} {t elem rt:TypeId} {z:Value} {h:Wa1} {a a3:Option Addr} {l c i m dc:Nat} {xs:List Value} {K:kQ}
  (hu:und P t=.slice elem) (hz:zer P elem=some z) (hzs:z.cells.size=siz P elem) (hz1:∀y ∈ z.cells.toList,Wh0 y True) (ho:Own h elem (siz P elem) a l c xs) (hi:i<=l) (him:i+m<=c)
  (h3:m=0\/∃ad,a=some ad/\a3=some (ad.add (i*siz P elem)))
  (k:∀h',Own h' elem (siz P elem) a i c (xs.take (i*siz P elem))->Fr (blk a) h h'->h'.size=h.size->K (.tuple #[]) h') :
  Y44 P #[t] rt #[.slice a3 m dc] h K:=by
 have hu':=Wb9 hu (by simp)
 unfold Y44 Builtin.clear_
 simp only [List.getElem?_toArray,List.getElem?_cons_zero,Wa5,Wb1,Wa8 hu']
 have fin:=k h (ho.take hi) (Fr.refl _ _) rfl
 cases a3 with
 | none=>simp only [Wb1];exact fin
 | some ad3=>
  cases m with
  | zero=>simp only [Wb1];exact fin
  | succ m=>
   obtain ⟨ad,ea,e3⟩:=h3.resolve_left (by omega)
   cases e3
   simp only [Wa5,Wf6 hz]
   refine Wf7 _ _ h 0 _ ?_
   have hzc:(Builtin.zeroCells z.cells (m+1)).toList.length=(m+1)*siz P elem:=by rw [Array.length_toList,Wj1,hzs]
   refine Own.write ho ea ?_ (YZ4 hz1 _) λh' w1 w2 w3 w4=>?_
   ·rw [hzc,<- Nat.add_mul];exact Nat.mul_le_mul_right _ him
   ·simp only [Wb1]
    exact k h' (w1 i (Nat.le_refl _) hi) w3 w4
end
section
abbrev Pr:=Int × Int
def plt (p q:Pr):Prop:=p.1 < q.1\/(p.1=q.1/\p.2 < q.2)
instance (p q:Pr):Decidable (plt p q):=by unfold plt;infer_instance
def Za0 (p:Pr):List Pr->List Pr
 | []=>[p]
 | q :: r=>if plt q p then q :: Za0 p r else p :: q :: r
def YG6 (ps:List Pr):Nat->List Pr
 | 0=>[]
 | i+1=>match ps[i]? with
  | none=>YG6 ps i
  | some x=>if 0 < i/\ps[i - 1]? = some x then YG6 ps i else YG6 ps i ++ [x]
def Za1 (ps:List Pr) (k:Int):Nat:=(ps.findIdx? λp=>p.1 != k).getD ps.length
def YZ5 (ps:List Pr):List Pr:=match ps with
 | []=>[]
 | p :: _=>YG6 (ps.take (Za1 ps p.1)) (Za1 ps p.1)
end
section
set_option maxRecDepth 100000

end
section

end
section

end
section
section
variable {P:Program} {t kt et:TypeId}
end
end
section
set_option maxRecDepth 100000
abbrev cf (f:FuncId):Array Value->Wa1->(Value->Wa1->Prop)->Prop:=Wl3 Tryz.prog (.func (.func f) #[] #[])
abbrev nP (o:Option Addr) (F:Addr->Prop):Prop:=Wc5 (.pointer o) (Wd1 (.pointer o) F)
abbrev lI (k:IntKind) (h:Wa1) (a:Addr) (F:Int->Prop):Prop:=ldH h a (λv=>asInt k v F)
abbrev lP (h:Wa1) (a:Addr) (F:Option Addr->Prop):Prop:=ldH h a (λv=>Wc8 v F)
abbrev lS (h:Wa1) (a:Addr) (F:Option Addr->Nat->Nat->Prop):Prop:=ldH h a (λv=>Wb3 v F)
abbrev bd (n m:Int) (X:Prop):Prop:=((0:Int)<=n)/\((n < m)/\X)
abbrev ce (h:Wa1) (b i:Nat) (v:Value) (X:Prop):Prop:=(Wa3 h ⟨b,i,none⟩=some v)/\X
def F94 (K:kQ) (h:Wa1) (xa:Option Addr) (xb:ByteArray):Prop:=
 (cf 136 #[.pointer xa] h λa a=>nP xa λb=>lS a (Addr.add b 1) λb c d=>Wp5 Tryz.prog #[26,9] 26 #[.slice b c d,.string xb] a λa b=>Wb3 a λa c d=>nP xa λe=>stH b (Addr.add e 1) (.slice a c d) λa=>K (.tuple #[iQ ((xb.size:Nat):Int),.nilIface]) a)
theorem call94 {K:kQ} {h:Wa1} {xa:Option Addr} {xb:ByteArray} (H:F94 K h xa xb):Wa4 Tryz.prog 94 #[(.pointer xa),(.string xb)] h K:=
 cQ Tryz.func94 H
def F97 (K:kQ) (h:Wa1) (xa:Option Addr):Prop:=
 (nP xa λa=>lS h (Addr.add a 1) λa b c=>nP xa λd=>ldH h (Addr.add d 1) λe=>Wb3 e λf f g=>Y56 Tryz.prog #[26] 226 #[.slice a b c] h λa b=>Wc8 a λa=>((Wa3 b (Addr.add d 1))=(some e))/\(Y57 Tryz.prog #[226,3] 9 #[.pointer a,iQ (f:Int)] b λa b=>Wd9 a λa=>K (.string a) b))
theorem call97 {K:kQ} {h:Wa1} {xa:Option Addr} (H:F97 K h xa):Wa4 Tryz.prog 97 #[(.pointer xa)] h K:=
 cQ Tryz.func97 H
def F136 (K:kQ) (h:Wa1) (xa:Option Addr):Prop:=
 (nP xa λa=>lP h a λa=>ifB (Option.isNone a) (YD3 Tryz.prog 160 267 (.pointer xa) h λa b=>Yp1 Tryz.prog (.func (.func 203) #[] #[]) #[a] b λa b=>YD3 Tryz.prog 267 160 a b λa b=>Wc8 a λa=>nP xa λc=>stH b c (.pointer a) λa=>K (.tuple #[]) a) (nP xa λa=>lP h a λa=>YO7 Tryz.prog .neq 160 a xa h λa b=>asBool a λa=>ifB a False (K (.tuple #[]) b)))
theorem call136 {K:kQ} {h:Wa1} {xa:Option Addr} (H:F136 K h xa):Wa4 Tryz.prog 136 #[(.pointer xa)] h K:=
 cQ Tryz.func136 H
def F127 (K:kQ) (h:Wa1) (xa xb:ByteArray):Prop:=
 (cf 198 #[.string xa,.string xb] h λa b=>Wd9 a λa=>K (.string a) b)
theorem call127 {K:kQ} {h:Wa1} {xa xb:ByteArray} (H:F127 K h xa xb):Wa4 Tryz.prog 127 #[(.string xa),(.string xb)] h K:=
 cQ Tryz.func127 H
abbrev da3 (h:Wa1) (a:Addr) (F:Value->Value->Value->Prop):Prop:=ldH h a λv0=>ldH h (Addr.add a 1) λv1=>ldH h (Addr.add a 2) λv2=>F v0 v1 v2
abbrev da7 (h:Wa1) (a:Addr) (F:Value->Value->Value->Value->Value->Value->Value->Prop):Prop:=ldH h a λv0=>ldH h (Addr.add a 1) λv1=>ldH h (Addr.add a 2) λv2=>ldH h (Addr.add a 3) λv3=>ldH h (Addr.add a 4) λv4=>ldH h (Addr.add a 5) λv5=>ldH h (Addr.add a 6) λv6=>F v0 v1 v2 v3 v4 v5 v6
abbrev da9 (h:Wa1) (a:Addr) (F:Value->Value->Value->Value->Value->Value->Value->Value->Value->Prop):Prop:=ldH h a λv0=>ldH h (Addr.add a 1) λv1=>ldH h (Addr.add a 2) λv2=>ldH h (Addr.add a 3) λv3=>ldH h (Addr.add a 4) λv4=>ldH h (Addr.add a 5) λv5=>ldH h (Addr.add a 6) λv6=>ldH h (Addr.add a 7) λv7=>ldH h (Addr.add a 8) λv8=>F v0 v1 v2 v3 v4 v5 v6 v7 v8
abbrev Y51 (h:Wa1) (a:Addr) (F:Value->Value->Value->Value->Value->Value->Value->Value->Value->Value->Value->Value->Value->Value->Value->Prop):Prop:=ldH h a λv0=>ldH h (Addr.add a 1) λv1=>ldH h (Addr.add a 2) λv2=>ldH h (Addr.add a 3) λv3=>ldH h (Addr.add a 4) λv4=>ldH h (Addr.add a 5) λv5=>ldH h (Addr.add a 6) λv6=>ldH h (Addr.add a 7) λv7=>ldH h (Addr.add a 8) λv8=>ldH h (Addr.add a 9) λv9=>ldH h (Addr.add a 10) λv10=>ldH h (Addr.add a 11) λv11=>ldH h (Addr.add a 12) λv12=>ldH h (Addr.add a 13) λv13=>ldH h (Addr.add a 14) λv14=>F v0 v1 v2 v3 v4 v5 v6 v7 v8 v9 v10 v11 v12 v13 v14
abbrev dc3 (h:Wa1) (b:Nat) (v0 v1 v2:Value) (X:Prop):Prop:=ce h b 0 v0 (ce h b 1 v1 (ce h b 2 v2 X))
abbrev Y73 (h:Wa1) (b:Nat) (v0 v1 v2 v3 v4 v5 v6 v7 v8 v9 v10 v11 v12 v13 v14:Value) (X:Prop):Prop:=ce h b 0 v0 (ce h b 1 v1 (ce h b 2 v2 (ce h b 3 v3 (ce h b 4 v4 (ce h b 5 v5 (ce h b 6 v6 (ce h b 7 v7 (ce h b 8 v8 (ce h b 9 v9 (ce h b 10 v10 (ce h b 11 v11 (ce h b 12 v12 (ce h b 13 v13 (ce h b 14 v14 X))))))))))))))
abbrev de2 (s:Array Value) (F:Value->Value->Prop):Prop:=Wc2 s 0 λv0=>Wc2 s 1 λv1=>F v0 v1
abbrev de6 (s:Array Value) (F:Value->Value->Value->Value->Value->Value->Prop):Prop:=Wc2 s 0 λv0=>Wc2 s 1 λv1=>Wc2 s 2 λv2=>Wc2 s 3 λv3=>Wc2 s 4 λv4=>Wc2 s 5 λv5=>F v0 v1 v2 v3 v4 v5
abbrev de7 (s:Array Value) (F:Value->Value->Value->Value->Value->Value->Value->Prop):Prop:=Wc2 s 0 λv0=>Wc2 s 1 λv1=>Wc2 s 2 λv2=>Wc2 s 3 λv3=>Wc2 s 4 λv4=>Wc2 s 5 λv5=>Wc2 s 6 λv6=>F v0 v1 v2 v3 v4 v5 v6
abbrev Ww2 (s:Array Value) (F:Value->Value->Value->Value->Value->Value->Value->Value->Value->Value->Value->Value->Value->Value->Value->Prop):Prop:=Wc2 s 0 λv0=>Wc2 s 1 λv1=>Wc2 s 2 λv2=>Wc2 s 3 λv3=>Wc2 s 4 λv4=>Wc2 s 5 λv5=>Wc2 s 6 λv6=>Wc2 s 7 λv7=>Wc2 s 8 λv8=>Wc2 s 9 λv9=>Wc2 s 10 λv10=>Wc2 s 11 λv11=>Wc2 s 12 λv12=>Wc2 s 13 λv13=>Wc2 s 14 λv14=>F v0 v1 v2 v3 v4 v5 v6 v7 v8 v9 v10 v11 v12 v13 v14
abbrev dl2 (h:Wa1) (b:Nat) (F:Value->Value->Prop):Prop:=ldH h (aQ b) λv0=>ldH h ⟨b,1,none⟩ λv1=>F v0 v1
abbrev dl3 (h:Wa1) (b:Nat) (F:Value->Value->Value->Prop):Prop:=ldH h (aQ b) λv0=>ldH h ⟨b,1,none⟩ λv1=>ldH h ⟨b,2,none⟩ λv2=>F v0 v1 v2
abbrev dl4 (h:Wa1) (b:Nat) (F:Value->Value->Value->Value->Prop):Prop:=ldH h (aQ b) λv0=>ldH h ⟨b,1,none⟩ λv1=>ldH h ⟨b,2,none⟩ λv2=>ldH h ⟨b,3,none⟩ λv3=>F v0 v1 v2 v3
abbrev dl6 (h:Wa1) (b:Nat) (F:Value->Value->Value->Value->Value->Value->Prop):Prop:=ldH h (aQ b) λv0=>ldH h ⟨b,1,none⟩ λv1=>ldH h ⟨b,2,none⟩ λv2=>ldH h ⟨b,3,none⟩ λv3=>ldH h ⟨b,4,none⟩ λv4=>ldH h ⟨b,5,none⟩ λv5=>F v0 v1 v2 v3 v4 v5
abbrev dl7 (h:Wa1) (b:Nat) (F:Value->Value->Value->Value->Value->Value->Value->Prop):Prop:=ldH h (aQ b) λv0=>ldH h ⟨b,1,none⟩ λv1=>ldH h ⟨b,2,none⟩ λv2=>ldH h ⟨b,3,none⟩ λv3=>ldH h ⟨b,4,none⟩ λv4=>ldH h ⟨b,5,none⟩ λv5=>ldH h ⟨b,6,none⟩ λv6=>F v0 v1 v2 v3 v4 v5 v6
abbrev dl9 (h:Wa1) (b:Nat) (F:Value->Value->Value->Value->Value->Value->Value->Value->Value->Prop):Prop:=ldH h (aQ b) λv0=>ldH h ⟨b,1,none⟩ λv1=>ldH h ⟨b,2,none⟩ λv2=>ldH h ⟨b,3,none⟩ λv3=>ldH h ⟨b,4,none⟩ λv4=>ldH h ⟨b,5,none⟩ λv5=>ldH h ⟨b,6,none⟩ λv6=>ldH h ⟨b,7,none⟩ λv7=>ldH h ⟨b,8,none⟩ λv8=>F v0 v1 v2 v3 v4 v5 v6 v7 v8
abbrev YZ6 (h:Wa1) (b:Nat) (F:Value->Value->Value->Value->Value->Value->Value->Value->Value->Value->Prop):Prop:=ldH h (aQ b) λv0=>ldH h ⟨b,1,none⟩ λv1=>ldH h ⟨b,2,none⟩ λv2=>ldH h ⟨b,3,none⟩ λv3=>ldH h ⟨b,4,none⟩ λv4=>ldH h ⟨b,5,none⟩ λv5=>ldH h ⟨b,6,none⟩ λv6=>ldH h ⟨b,7,none⟩ λv7=>ldH h ⟨b,8,none⟩ λv8=>ldH h ⟨b,9,none⟩ λv9=>F v0 v1 v2 v3 v4 v5 v6 v7 v8 v9
abbrev Za2 (h:Wa1) (b:Nat) (F:Value->Value->Value->Value->Value->Value->Value->Value->Value->Value->Value->Value->Prop):Prop:=ldH h (aQ b) λv0=>ldH h ⟨b,1,none⟩ λv1=>ldH h ⟨b,2,none⟩ λv2=>ldH h ⟨b,3,none⟩ λv3=>ldH h ⟨b,4,none⟩ λv4=>ldH h ⟨b,5,none⟩ λv5=>ldH h ⟨b,6,none⟩ λv6=>ldH h ⟨b,7,none⟩ λv7=>ldH h ⟨b,8,none⟩ λv8=>ldH h ⟨b,9,none⟩ λv9=>ldH h ⟨b,10,none⟩ λv10=>ldH h ⟨b,11,none⟩ λv11=>F v0 v1 v2 v3 v4 v5 v6 v7 v8 v9 v10 v11
abbrev Wz6 (h:Wa1) (b:Nat) (F:Value->Value->Value->Value->Value->Value->Value->Value->Value->Value->Value->Value->Value->Value->Value->Prop):Prop:=ldH h (aQ b) λv0=>ldH h ⟨b,1,none⟩ λv1=>ldH h ⟨b,2,none⟩ λv2=>ldH h ⟨b,3,none⟩ λv3=>ldH h ⟨b,4,none⟩ λv4=>ldH h ⟨b,5,none⟩ λv5=>ldH h ⟨b,6,none⟩ λv6=>ldH h ⟨b,7,none⟩ λv7=>ldH h ⟨b,8,none⟩ λv8=>ldH h ⟨b,9,none⟩ λv9=>ldH h ⟨b,10,none⟩ λv10=>ldH h ⟨b,11,none⟩ λv11=>ldH h ⟨b,12,none⟩ λv12=>ldH h ⟨b,13,none⟩ λv13=>ldH h ⟨b,14,none⟩ λv14=>F v0 v1 v2 v3 v4 v5 v6 v7 v8 v9 v10 v11 v12 v13 v14
abbrev dw2 (h:Wa1) (b:Nat) (v0 v1:Value) (F:Wa1->Prop):Prop:=stH h (aQ b) v0 λh1=>stH h1 ⟨b,1,none⟩ v1 λh2=>F h2
abbrev dw3 (h:Wa1) (b:Nat) (v0 v1 v2:Value) (F:Wa1->Prop):Prop:=stH h (aQ b) v0 λh1=>stH h1 ⟨b,1,none⟩ v1 λh2=>stH h2 ⟨b,2,none⟩ v2 λh3=>F h3
abbrev dw7 (h:Wa1) (b:Nat) (v0 v1 v2 v3 v4 v5 v6:Value) (F:Wa1->Prop):Prop:=stH h (aQ b) v0 λh1=>stH h1 ⟨b,1,none⟩ v1 λh2=>stH h2 ⟨b,2,none⟩ v2 λh3=>stH h3 ⟨b,3,none⟩ v3 λh4=>stH h4 ⟨b,4,none⟩ v4 λh5=>stH h5 ⟨b,5,none⟩ v5 λh6=>stH h6 ⟨b,6,none⟩ v6 λh7=>F h7
abbrev YS3 (h:Wa1) (b:Nat) (v0 v1 v2 v3 v4 v5 v6 v7 v8 v9 v10 v11 v12 v13 v14:Value) (F:Wa1->Prop):Prop:=stH h (aQ b) v0 λh1=>stH h1 ⟨b,1,none⟩ v1 λh2=>stH h2 ⟨b,2,none⟩ v2 λh3=>stH h3 ⟨b,3,none⟩ v3 λh4=>stH h4 ⟨b,4,none⟩ v4 λh5=>stH h5 ⟨b,5,none⟩ v5 λh6=>stH h6 ⟨b,6,none⟩ v6 λh7=>stH h7 ⟨b,7,none⟩ v7 λh8=>stH h8 ⟨b,8,none⟩ v8 λh9=>stH h9 ⟨b,9,none⟩ v9 λh10=>stH h10 ⟨b,10,none⟩ v10 λh11=>stH h11 ⟨b,11,none⟩ v11 λh12=>stH h12 ⟨b,12,none⟩ v12 λh13=>stH h13 ⟨b,13,none⟩ v13 λh14=>stH h14 ⟨b,14,none⟩ v14 λh15=>F h15
abbrev g128 (K:kQ) (h H1:Wa1):Prop:=
 (dl3 H1 h.size λa b c=>cf 197 #[.agg #[a,b,c]] H1 λa b=>asBool a λa=>ifB (!a) (K (.string (⟨#[63]⟩ : ByteArray)) b) (lI .i64 b (aQ h.size) λa=>ifB (a == 0) (K (.string (⟨#[100,111,110,101]⟩ : ByteArray)) b) (ifB (a == 1) (K (.string (⟨#[102,117,108,108]⟩ : ByteArray)) b) (ifB (a == 3) (K (.string (⟨#[101,109,112,116,121]⟩ : ByteArray)) b) (lI .u32 b ⟨h.size,1,none⟩ λa=>ldH b ⟨h.size,2,none⟩ λc=>asInt .u32 c λd=>cf 199 #[.int .u32 a] b λa b=>Wd9 a λa=>ce b h.size 2 c ((((((a.size+1):Nat):Int):Int)<=9223372036854775807)/\(cf 199 #[.int .u32 d] b λb c=>Wd9 b λb=>((((((a ++ (⟨#[32]⟩ : ByteArray)).size+b.size):Nat):Int):Int)<=9223372036854775807)/\(K (.string ((a ++ (⟨#[32]⟩ : ByteArray)) ++ b)) c))))))))
def F128 (K:kQ) (h:Wa1) (xa xb xc:Int):Prop:=
 (g128 K h (Array.push h (.cells #[iQ xa,.int .u32 xb,.int .u32 xc] 43)))
theorem call128 {K:kQ} {h:Wa1} {xa xb xc:Int} (H:F128 K h xa xb xc):Wa4 Tryz.prog 128 #[(.agg #[(iQ xa),(.int .u32 xb),(.int .u32 xc)])] h K:=
 cQ Tryz.func128 H
def F198 (K:kQ) (h:Wa1) (xa xb:ByteArray):Prop:=
 (cf 275 #[.string xa,.string xb] h λa b=>asBool a λa=>ifB a (((0:Int)<=(IntKind.wrap .i64 (((xa.size:Nat):Int) - ((xb.size:Nat):Int))))/\((((IntKind.wrap .i64 (((xa.size:Nat):Int) - ((xb.size:Nat):Int))):Int)<=((xa.size:Nat):Int))/\(K (.string (xa.extract 0 (IntKind.wrap .i64 (((xa.size:Nat):Int) - ((xb.size:Nat):Int))).toNat)) b))) (K (.string xa) b))
theorem call198 {K:kQ} {h:Wa1} {xa xb:ByteArray} (H:F198 K h xa xb):Wa4 Tryz.prog 198 #[(.string xa),(.string xb)] h K:=
 cQ Tryz.func198 H
abbrev g197 (K:kQ) (h H1:Wa1):Prop:=
 (lI .i64 H1 (aQ h.size) λa=>ifB (a == 2) (K (.bool true) H1) (exI λI2=>(ifB (a == 0) (I2 [.bool true] H1) (ifB (a == 1) (I2 [.bool true] H1) (I2 [.bool (a == 3)] H1)))/\(∀(a:Value) (b:Env) (b:Wa1),(I2 [a] b)->(asBool a λa=>ifB a (lI .u32 b ⟨h.size,1,none⟩ λa=>ifB (a == 0) (lI .u32 b ⟨h.size,2,none⟩ λa=>K (.bool (a == 0)) b) (K (.bool false) b)) (K (.bool false) b)))))
def F197 (K:kQ) (h:Wa1) (xa xb xc:Int):Prop:=
 (g197 K h (Array.push h (.cells #[iQ xa,.int .u32 xb,.int .u32 xc] 43)))
theorem call197 {K:kQ} {h:Wa1} {xa xb xc:Int} (H:F197 K h xa xb xc):Wa4 Tryz.prog 197 #[(.agg #[(iQ xa),(.int .u32 xb),(.int .u32 xc)])] h K:=
 cQ Tryz.func197 H
def F199 (K:kQ) (h:Wa1) (xa:Int):Prop:=
 (exI λI0=>exM λm1=>(I0 [.int .u32 xa,.string (⟨#[]⟩ : ByteArray),.string (⟨#[]⟩ : ByteArray)] h)/\(∀(a b c:Value) (d:Env) (d:Wa1),(I0 [a,b,c] d)->(asInt .u32 a λe=>((10:Int)≠0)/\(YD3 Tryz.prog 26 9 (.slice (some (aQ d.size)) 1 1) (Array.push d (.cells #[.int .u8 (IntKind.wrap .u8 (IntKind.wrap .u32 (48+(Int.tmod e 10))))] 5)) λe f=>Wd9 e λe=>Wd9 c λg=>(((((e.size+g.size):Nat):Int):Int)<=9223372036854775807)/\(asInt .u32 a λi=>((10:Int)≠0)/\(ifB ((IntKind.wrap .u32 (Int.tdiv i 10)) == 0) (K (.string (e ++ g)) f) ((I0 [.int .u32 (IntKind.wrap .u32 (Int.tdiv i 10)),b,.string (e ++ g)] f)/\((m1 [.int .u32 (IntKind.wrap .u32 (Int.tdiv i 10)),b,.string (e ++ g)] f) < (m1 [a,b,c] d)))))))))
theorem call199 {K:kQ} {h:Wa1} {xa:Int} (H:F199 K h xa):Wa4 Tryz.prog 199 #[(.int .u32 xa)] h K:=
 cQ Tryz.func199 H
def F275 (K:kQ) (h:Wa1) (xa xb:ByteArray):Prop:=
 (ifB (decide (((xa.size:Nat):Int) >= ((xb.size:Nat):Int))) (((0:Int)<=(IntKind.wrap .i64 (((xa.size:Nat):Int) - ((xb.size:Nat):Int))))/\((((IntKind.wrap .i64 (((xa.size:Nat):Int) - ((xb.size:Nat):Int))):Int)<=((xa.size:Nat):Int))/\(K (.bool ((xa.extract (IntKind.wrap .i64 (((xa.size:Nat):Int) - ((xb.size:Nat):Int))).toNat xa.size).toList == xb.toList)) h))) (K (.bool false) h))
theorem call275 {K:kQ} {h:Wa1} {xa xb:ByteArray} (H:F275 K h xa xb):Wa4 Tryz.prog 275 #[(.string xa),(.string xb)] h K:=
 cQ Tryz.func275 H
end
section
def dch (n:Nat):UInt8:=UInt8.ofNat (48+n % 10)
def dgA:Nat->Nat->ByteArray->ByteArray
 | 0,_,acc=>acc
 | f+1,n,acc=>if n < 10 then ⟨#[dch n]⟩ ++ acc else dgA f (n / 10) (⟨#[dch n]⟩ ++ acc)
def dg (n:Nat):ByteArray:=dgA 20 n ⟨#[]⟩
theorem Wy7 (u:UInt8):(⟨#[u]⟩ : ByteArray).size=1:=rfl
theorem YG7:∀f n acc,(dgA f n acc).size<=acc.size+f:=by
 intro f
 induction f with
 | zero=>intro n acc;exact Nat.le_refl _
 | succ f ih=>
  intro n acc
  unfold dgA
  split
  ·rw [ByteArray.size_append,Wy7];omega
  ·have:=ih (n / 10) (⟨#[dch n]⟩ ++ acc)
   rw [ByteArray.size_append,Wy7] at this
   omega
theorem W39 (n:Nat):(dg n).size<=20:=by
 have:=YG7 20 n ⟨#[]⟩
 have e:(⟨#[]⟩ : ByteArray).size=0:=rfl
 unfold dg;omega
theorem Y74 {n:Nat} (h:n < 256):IntKind.u8.wrap (n:Int)=(n:Int):=by
 unfold IntKind.wrap IntKind.signed IntKind.bits
 have e:(n:Int) % 2 ^ 8=n:=Int.emod_eq_of_lt (by omega) (by omega)
 simp only [e]
 rw [if_neg (by simp)]
theorem Ys9 {n:Nat} (h:n < 4294967296):IntKind.u32.wrap (n:Int)=(n:Int):=by
 unfold IntKind.wrap IntKind.signed IntKind.bits
 have e:(n:Int) % 2 ^ 32=n:=Int.emod_eq_of_lt (by omega) (by omega)
 simp only [e]
 rw [if_neg (by simp)]
theorem W40 {n:Nat} (h:n < 18446744073709551616):IntKind.u64.wrap (n:Int)=(n:Int):=by
 unfold IntKind.wrap IntKind.signed IntKind.bits
 have e:(n:Int) % 2 ^ 64=n:=Int.emod_eq_of_lt (by omega) (by omega)
 simp only [e]
 rw [if_neg (by simp)]
theorem YZ7 (n:Nat):Int.tmod (n:Int) 10=((n % 10:Nat):Int):=rfl
theorem YZ8 (n:Nat):Int.tdiv (n:Int) 10=((n / 10:Nat):Int):=rfl
theorem WG5:und Tryz.prog 26=.slice 5:=by kernel_rfl
theorem YG8:und Tryz.prog 5=.int .u8:=by kernel_rfl
theorem Yt0:und Tryz.prog 9=.string:=by kernel_rfl
theorem YG9 {h:Wa1} {b:Nat} {v:Int} {t:TypeId} {K:kQ} (e:h[b]? = some (.cells #[.int .u8 v] t)) (k:K (.string ⟨#[UInt8.ofNat v.toNat]⟩) h):YD3 Tryz.prog 26 9 (.slice (some (aQ b)) 1 1) h K:=by
 unfold YD3 convert
 simp only [Wa5,Wa8 (Wb9 WG5 (by simp)),Wa8 (Wb9 Yt0 (by simp)),Wa8 (Wb9 YG8 (by simp))]
 show hp Tryz.prog (Conv.bytesToString _) K h
 unfold Conv.bytesToString
 simp only [Wa5]
 show hp Tryz.prog (loadCellsFrom (aQ b) 0 1 #[]) _ h
 refine We0 _ _ 0 [] _ ?_
 refine Wb5 (v:=.int .u8 v) ?_ ?_
 ·rw [Wc1];exact Wh6 e
 show hp Tryz.prog _ _ h
 simp only [List.reverse_cons,List.reverse_nil,List.nil_append,List.forIn_toArray]
 exact k
theorem WG6 {K:kQ} {h:Wa1} {n:Nat} (hn:n < 4294967296) (k:∀h',Old h.size h h'->K (.string (dg n)) h'):Wa4 Tryz.prog 199 #[.int .u32 n] h K:=by
 refine call199 ?_
 unfold F199
 refine ⟨λvs h'=>∃v,∃m f:Nat,∃s:ByteArray,vs = [.int .u32 m,v,.string s]/\m < 4294967296/\m < 10 ^ (f+1)/\dgA (f+1) m s=dg n/\s.size+(f+1)<=20/\Old h.size h h',λvs _=>(match vs with | [.int _ m,_,_]=>m.toNat | _=>0),
  ⟨_,n,19,⟨#[]⟩,rfl,hn,by omega,rfl,Nat.le_refl _,Old.refl _ _⟩,?_⟩
 rintro v2 v3 v4 g5 h6 ⟨w,m,f,s,e,hm,hf,hr,hs,o6⟩
 cases e
 simp only [Wa2,Wd9,YZ7,YZ8]
 refine ⟨by omega,?_⟩
 have e1:IntKind.u32.wrap (48+((m % 10:Nat):Int))=((48+m % 10:Nat):Int):=by
  rw [show (48:Int)+((m % 10:Nat):Int)=((48+m % 10:Nat):Int) by omega];exact Ys9 (by omega)
 rw [e1,Y74 (by omega),Ys9 (n:=m / 10) (by omega)]
 have p:=We4 h6 #[.int .u8 ((48+m % 10:Nat):Int)] 5
 generalize h6.push (.cells #[.int .u8 ((48+m % 10:Nat):Int)] 5)=h7 at *
 refine YG9 p.new ?_
 have ec:UInt8.ofNat ((48+m % 10:Nat):Int).toNat=dch m:=rfl
 rw [ec]
 refine ⟨by rw [Wy7];omega,by omega,?_⟩
 have ok:=o6.trans (p.toOld.mono o6.1)
 unfold dgA at hr
 refine Wb7 (λh0=>?_) (λh0=>?_)
 ·have hlt:m < 10:=by simp at h0;omega
  rw [if_pos hlt] at hr
  rw [hr]
  exact k _ ok
 ·have hge:¬ m < 10:=by intro hlt;simp at h0;omega
  rw [if_neg hge] at hr
  obtain ⟨f,rfl⟩ : ∃f',f=f' + 1:=⟨f - 1,by
   cases f with
   | zero=>simp at hf;omega
   | succ f=>rfl⟩
  refine ⟨⟨_,m / 10,f,_,rfl,by omega,by rw [Nat.pow_succ] at hf;omega,hr,by rw [ByteArray.size_append,Wy7];omega,ok⟩,?_⟩
  show ((m / 10:Nat):Int).toNat < (m:Int).toNat
  omega
end
section
theorem WE4 {P:Program} (r:Nat) (F:Option (TypeId × Nat)->Wa1->Prop) (h:Wa1):hp P (shape r) F h=F (Wp1 h r) h:=rfl
theorem WW9 {P:Program} {h:Wa1} {b:Nat} {row:Array Value} {t:TypeId} (e:h[b]? = some (.cells row t)) (F:Option (Addr × TypeId)->Wa1->Prop):hp P (viewAt b) F h=F none h:=by
 unfold viewAt
 have:Wp1 h b=some (t,row.size):=by unfold Wp1;rw [e]
 simp only [Wa5,WE4,this];rfl
theorem Yj2 {P:Program} {h:Wa1} {b:Nat} {row:Array Value} {t:TypeId} (e:h[b]? = some (.cells row t)) (F:Option Nat->Wa1->Prop):hp P (cellsIn b) F h=F (some row.size) h:=by
 unfold cellsIn
 have:Wp1 h b=some (t,row.size):=by unfold Wp1;rw [e]
 simp only [Wa5,WE4,this];rfl
theorem WX0:und Tryz.prog 160=.pointer 162:=by kernel_rfl
theorem Yc6:und Tryz.prog 267=.unsafePointer:=by kernel_rfl
theorem W41:We9 Tryz.prog 162=true:=by kernel_rfl
theorem YS4:siz Tryz.prog 162=2:=by kernel_rfl
theorem YZ9:liesAt Tryz.prog Tryz.prog.depth 162 (2 / Tryz.prog.cellsOf 162) 0 162 1=true:=by kernel_rfl
theorem YS5 {h:Wa1} {p:Nat} {v0 v1:Value} {K:kQ} (e:h[p]? = some (.cells #[v0,v1] 162)) (k:K (.pointer (some (aQ p))) h):YD3 Tryz.prog 160 267 (.pointer (some (aQ p))) h K:=by
 unfold YD3 convert
 simp only [Wa5,Wa8 (Wb9 WX0 (by simp)),Wa8 (Wb9 Yc6 (by simp))]
 unfold Conv.unsafePointer
 simp only [Wa5,Wa8 (Wb9 WX0 (by simp)),Wa8 (Wb9 Yc6 (by simp)),Conv.seenAt,WW9 e,Wb1,Yj2 e,Wd4 W41,YS4]
 exact k
theorem Yt1 {h:Wa1} {p:Nat} {v0 v1:Value} {K:kQ} (e:h[p]? = some (.cells #[v0,v1] 162)) (k:K (.pointer (some (aQ p))) h):YD3 Tryz.prog 267 160 (.pointer (some (aQ p))) h K:=by
 unfold YD3 convert
 simp only [Wa5,Wa8 (Wb9 WX0 (by simp)),Wa8 (Wb9 Yc6 (by simp))]
 unfold Conv.unsafePointer
 have:Wp1 h p=some (162,2):=by unfold Wp1;rw [e];rfl
 simp only [Wa5,Wa8 (Wb9 WX0 (by simp)),Wa8 (Wb9 Yc6 (by simp)),Conv.seenAt,WW9 e,Wb1,Wd4 W41,YS4,variablesAt,Wl4,WE4,this,YZ9]
 exact k
theorem YH0 {P:Program} {f:FuncId} {fn:Func} {h:Wa1} {v:Value} {K:kQ} (h1:P.funcs[f]? = some fn) (h2:(fn.name == "runtime.NumGoroutine")=false) (h3:fn.body.isNone=true) (h4:(Extern.findNext fn).isNone=true)
  (h5:Extern.find fn=some Extern.AbiNoEscape.same) (k:K v h):YX9 P f #[v] h K:=by
 unfold YX9 callFunc
 have h4':Extern.findNext fn=none:=Option.isNone_iff_eq_none.1 h4
 clear h4
 rw [Wa5,Wl4,h1]
 show hp P (if (fn.name == "runtime.NumGoroutine")=true then _ else _) _ h
 rw [h2]
 show hp P (if fn.body.isNone=true then _ else _) _ h
 rw [h3,if_pos rfl,Wa5]
 show hp P (match Extern.findNext fn with | some e=>e #[v] | _=>_) _ h
 generalize Extern.findNext fn=o1 at *
 subst h4'
 show hp P (match Extern.find fn with | some e=>(do let x <- e #[v];pure (Next.value x)) | none=>_) _ h
 generalize Extern.find fn=o2 at *
 subst h5
 exact k
theorem WX1 {h:Wa1} {v:Value} {K:kQ} (k:K v h):Yp1 Tryz.prog (.func (.func 203) #[] #[]) #[v] h K:=by
 unfold Yp1
 exact YH0 Tryz.func203 (by kernel_rfl) (by kernel_rfl) (by kernel_rfl) (by kernel_rfl) k
theorem Yt2 {P:Program} (d:Nat) {t el:TypeId} {a b:Addr} (hu:P.underlying t=some (.pointer el)) (hth:We9 P el=true) (hsz:siz P el≠0) (F:Bool->Wa1->Prop) (h:Wa1) (H:hp P (sameAddr a b) F h):hp P (Op.equalIn (d+1) t (.pointer (some a)) (.pointer (some b))) F h:=by
 simp only [Op.equalIn,Wa5,Wa8 hu,Wd4 hth]
 rw [if_pos hsz]
 exact H
theorem YH1 {h:Wa1} {p:Nat} {K:kQ} (k:K (.bool false) h):YO7 Tryz.prog .neq 160 (some (aQ p)) (some (aQ p)) h K:=by
 unfold YO7
 rw [Wf9 (by simp) (by simp) (by simp) (by simp),Wf0]
 refine Yt2 9999 (Wb9 WX0 (by simp)) W41 (by rw [YS4];omega) _ _ ?_
 unfold sameAddr
 simp only [beq_self_eq_true,if_true]
 exact k
theorem Wv7 {h:Wa1} {p:Nat} {q:Option Addr} {v:Value} {K:kQ} (e:h[p]? = some (.cells #[.pointer q,v] 162)) (hq:q=none\/q=some (aQ p))
  (k:∀h',h'[p]? = some (.cells #[.pointer (some (aQ p)),v] 162)->h'.size=h.size->(∀c,c≠p->h'[c]? = h[c]?)->K (.tuple #[]) h') :
  Wa4 Tryz.prog 136 #[.pointer (some (aQ p))] h K:=by
 refine call136 ?_
 unfold F136 lP nP
 simp only [Wc5,Wb0]
 refine ldR e rfl ?_
 simp only [Wc8]
 rcases hq with rfl | rfl
 ·simp only [Option.isNone_none,Wd5]
  refine YS5 e (WX1 (Yt1 e ?_))
  simp only [Wc8]
  refine stR e rfl trivial λh' w=>?_
  refine k h' ?_ w.size (λc hc=>w.old c hc)
  have:=w.new
  exact this
 ·simp only [Option.isNone_some,Wc0]
  refine ldR e rfl ?_
  simp only [Wc8]
  refine YH1 ?_
  simp only [Wa6,Wc0]
  exact k h e rfl λ_ _=>rfl
end
section
def bcs (s:ByteArray):List Value:=s.data.toList.map λb=>.int .u8 b.toNat
theorem W42 (s:ByteArray):(bcs s).length=s.size:=by unfold bcs;rw [List.length_map,Array.length_toList];rfl
theorem Yj3 (s x:ByteArray):bcs (s ++ x)=bcs s ++ bcs x:=by
 unfold bcs
 rw [ByteArray.data_append,Array.toList_append,List.map_append]
theorem YH2 {P:Program} {t t2 elem:TypeId} {z:Value} {h:Wa1} {a:Option Addr} {l c n:Nat} {s:ByteArray} {xs ys:List Value} {K:kQ} (hu2:und P t2=.string) (hns:s.size=n) (hys:ys=bcs s)
  (hu:und P t=.slice elem) (hth:We9 P elem=true) (hz:zer P elem=some z) (hzs:z.cells.size=siz P elem)
  (ho:Own h elem (siz P elem) a l c xs) (hn:ys.length=n*siz P elem) (hone:∀y ∈ ys,Wh0 y True) (hb0:0 < byt P elem) (hb:(2*(l+n)+512)*byt P elem<=2 ^ 48)
  (H:∀a' c' h',Own h' elem (siz P elem) a' (l+n) c' (xs ++ ys)->h.size<=h'.size->(∀b,b < h.size->(∀ad,a=some ad->ad.block≠b)->h'[b]? = h[b]?)->(a' = a\/a' = some (aQ h.size))->K (.slice a' (l+n) c') h') :
  Wp5 P #[t,t2] t #[.slice a l c,.string s] h K:=by
 have hu':=Wb9 hu (by simp)
 obtain ⟨info,hinfo⟩:=Wn5 hth
 have hbyt:info.bytes=byt P elem:=by unfold byt;rw [hinfo]
 have hu2':=Wb9 hu2 (by simp)
 have first:∀(F:Array Value->Wa1->Prop),F ys.toArray h->hp P (Builtin.firstCells (siz P elem) n (.string s)) F h:=by
  intro F k
  subst hys hns
  show F ((s.extract 0 s.size).data.map λb=>Value.int .u8 b.toNat) h
  rw [ByteArray.extract_zero_size]
  have e:(bcs s).toArray=s.data.map λb=>Value.int .u8 b.toNat:=by
   unfold bcs
   rw [<- Array.toList_map]
  rw [<- e];exact k
 unfold Wp5 Builtin.append_
 simp only [List.getElem?_toArray,List.getElem?_cons_zero,List.getElem?_cons_succ,Wa5,Wb1,Wa8 hu',Wa8 hu2',Wd4 hth,Bool.false_eq_true,if_false]
 show hp P (Builtin.lenOf _) _ h
 simp only [Builtin.lenOf,Wb1,hns]
 rw [Wv5]
 obtain ⟨hl,hlc,hor⟩:=ho
 split
 ·rename_i hcap
  simp only [Wa5]
  show hp P (if (!false)=true then _ else _) _ h
  refine first _ ?_
  rcases hor with ⟨rfl,rfl⟩ | ⟨b,row,rfl,hb2,hrs,hrt⟩
  ·have e1:l+n=0:=by omega
   have e2:n=0:=by omega
   subst e2
   have:ys = []:=by simpa using hn
   subst this
   simp only [Wa5,Wb1]
   refine H none 0 h ⟨by simp [hl],by omega,.inl ⟨rfl,rfl⟩⟩ (Nat.le_refl _) (λ_ _ _=>rfl) (.inl rfl)
  ·simp only [Wa5]
   have hlt:=(Array.getElem?_eq_some_iff.1 hb2).1
   have hmul:(l+n)*siz P elem<=c*siz P elem:=Nat.mul_le_mul_right _ hcap
   rw [Nat.add_mul] at hmul
   refine Wf7 _ _ h 0 _ ?_
   rw [Wc1]
   refine WB0 ys h b _ 0 row elem _ hb2 (by omega) hone ?_
   intro row' h1 h2
   simp only [Wb1]
   refine H (some (aQ b)) c _ ⟨by simp [hl,hn,Nat.add_mul],hcap,.inr ⟨b,row',rfl,Wi8 hlt,by rw [h1,hrs],?_⟩⟩ (by simp) (λb' hb' hne=>Wj6 (Ne.symm (hne _ rfl))) (.inl rfl)
   apply List.ext_getElem?
   intro j
   rw [List.getElem?_take,Array.getElem?_toList,h2 j]
   rw [Nat.add_mul]
   by_cases c1:j < l*siz P elem
   ·rw [if_pos (by omega),if_neg (by omega),List.getElem?_append_left (by omega),<- hrt,List.getElem?_take,if_pos c1,Array.getElem?_toList]
   ·rw [List.getElem?_append_right (by omega)]
    by_cases c2:j < l*siz P elem+n*siz P elem
    ·rw [if_pos c2,if_pos (by omega)]
     congr 1;omega
    ·rw [if_neg c2]
     symm;apply List.getElem?_eq_none;omega
 ·rename_i hcap
  simp only [Wa5,Wb1]
  have hbound:¬ Builtin.nextslicecap (l+n) c*info.bytes > 2 ^ 48:=by
   rw [hbyt]
   have:=Nat.le_trans (Nat.mul_le_mul_right (byt P elem) (Wu3 (l+n) c (by omega))) hb
   omega
  simp only [Wa5,Wb1,Wf3 hinfo,Wv5]
  rw [if_neg (by rw [hbyt];intro x;rcases x.2 with y | y <;> first | exact y | omega),if_neg hbound]
  show ∀tp,_
  intro tp
  rw [if_neg (by simp [Question.forced])]
  obtain ⟨cap,hcp⟩ : ∃cap,cap=(Question.appendCap (l+n) c elem).cut tp:=⟨_,rfl⟩
  have hcap2:l+n<=cap:=by rw [hcp];simp [Question.cut]
  rw [<- hcp]
  rw [show (Sem.pure cap:Sem Nat)=pure cap from rfl]
  simp only [Wa5,Wb1,Wf3 hinfo,Wn6]
  have old:∀(F:Array Value->Wa1->Prop),F xs.toArray h->hp P (Builtin.firstCells (siz P elem) l (.slice a l c)) F h:=by
   intro F k
   rcases hor with ⟨rfl,rfl⟩ | ⟨b,row,rfl,hb2,hrs,hrt⟩
   ·have:l=0:=by omega
    subst this
    have:xs = []:=by simpa using hl
    subst this;exact k
   ·show hp P (loadCells (aQ b) (l*siz P elem)) F h
    refine We0 _ _ 0 [] F ?_
    rw [<- hl]
    refine Wr1 xs 0 [] _ (λj v hj=>?_) (by simpa using k)
    rw [Wc1,Wb4 hb2,Nat.zero_add,Nat.zero_add,<- Array.getElem?_toList]
    rw [<- hrt,List.getElem?_take] at hj
    split at hj
    ·exact hj
    ·cases hj
  refine old _ ?_
  rw [Wa5,if_pos (show (!false)=true from rfl)]
  refine first _ ?_
  simp only [Wa5]
  simp only [Wf6 hz]
  show K (.slice (some (aQ h.size)) (l+n) cap) (h.push _)
  have hzc:(Builtin.zeroCells z.cells (cap - (l+n))).size=(cap - (l+n))*siz P elem:=by rw [Wj1,hzs]
  refine H _ cap _ ⟨by simp [hl,hn,Nat.add_mul],hcap2,.inr ⟨h.size,_,rfl,Wk6 _ _,?_,?_⟩⟩ (by simp) (λb hb' _=>Wg8 _ _ _ hb') (.inr rfl)
  ·simp only [Array.size_append,hzc,List.size_toArray,hl,hn,<- Nat.add_mul]
   congr 1;omega
  ·simp only [Array.toList_append,List.toList_toArray]
   rw [List.take_left' (by simp [hl,hn,Nat.add_mul])]
theorem WO2:We9 Tryz.prog 5=true:=by kernel_rfl
theorem YH3:zer Tryz.prog 5=some (.int .u8 0):=by kernel_rfl
theorem Wu5:siz Tryz.prog 5=1:=by kernel_rfl
theorem Yc7:byt Tryz.prog 5=1:=by kernel_rfl
def Bld (h:Wa1) (p:Nat) (s:ByteArray):Prop:=
 ∃q a l c,h[p]? = some (.cells #[.pointer q,.slice a l c] 162)/\(q=none\/q=some (aQ p))/\Own h 5 1 a l c (bcs s)/\∀ad,a=some ad->p < ad.block
theorem Wm9 {h:Wa1} {p:Nat} {s x:ByteArray} {K:kQ} (H:Bld h p s) (hx:s.size+x.size<=2 ^ 30)
  (k:∀h',Bld h' p (s ++ x)->h.size<=h'.size->(∀c,c < p->h'[c]? = h[c]?)->K (.tuple #[iQ x.size,.nilIface]) h') :
  Wa4 Tryz.prog 94 #[.pointer (some (aQ p)),.string x] h K:=by
 refine call94 ?_
 unfold F94 cf lS nP
 obtain ⟨q,a,l,c,h1,h2,h3,h4⟩:=H
 refine Wa0 (Wv7 h1 h2 λh1' e1 s1 o1=>?_)
 simp only [Wc5,Wb0]
 refine ldR e1 rfl ?_
 simp only [Wa9]
 have own1:Own h1' 5 1 a l c (bcs s):=h3.keep λad e=>o1 _ (by have:=h4 ad e;omega)
 have hls:l=s.size:=by have:=h3.1;rw [W42] at this;omega
 have hp1:p < h1'.size:=(Array.getElem?_eq_some_iff.1 e1).1
 refine YH2 (elem:=5) (z:=.int .u8 0) (n:=x.size) (xs:=bcs s) (ys:=bcs x) Yt0 rfl rfl WG5 WO2 YH3 (by rw [Wu5];rfl) (by rw [Wu5];exact own1) (by rw [Wu5,W42];omega) ?_ (by rw [Yc7];omega) (by rw [Yc7];omega) ?_
 ·intro y hy
  unfold bcs at hy
  obtain ⟨b,_,rfl⟩:=List.mem_map.1 hy
  exact trivial
 intro a' c' h8 own8 hs8 old8 hor
 rw [Wu5] at own8
 simp only [Wa9,Wc5,Wb0]
 have e8:h8[p]? = some (.cells #[.pointer (some (aQ p)),.slice a l c] 162):=(old8 p hp1 (λad e=>by have:=h4 ad e;omega)).trans e1
 refine stR e8 rfl trivial λh13 w=>?_
 have hge:∀ad,a' = some ad->p < ad.block:=by
  intro ad e
  rcases hor with rfl | rfl
  ·exact h4 ad e
  ·cases e;exact hp1
 refine k h13 ⟨_,a',l+x.size,c',w.new,.inr rfl,?_,hge⟩ (by rw [w.size];omega) (λb hb=>?_)
 ·rw [Yj3]
  exact own8.keep λad e=>w.old _ (by have:=hge ad e;show ad.block≠p;omega)
 ·exact (w.old b (by show b≠p;omega)).trans ((old8 b (by omega) (λad e=>by have:=h4 ad e;omega)).trans (o1 b (by omega)))
theorem WX2 {P:Program} {h:Wa1}:∀(l:List UInt8) (a:Addr) (acc:ByteArray) (F:ByteArray->Wa1->Prop),(∀(j:Nat) (x:UInt8),l[j]? = some x->Wa3 h (a.add j)=some (.int .u8 x.toNat))->F ⟨acc.data ++ l.toArray⟩ h->hp P (loadBytes a acc l.length) F h:=by
 intro l
 induction l with
 | nil=>
  intro a acc F _ k
  have e:(⟨acc.data ++ ([]:List UInt8).toArray⟩ : ByteArray)=acc:=by apply ByteArray.ext;simp
  rw [e] at k;exact k
 | cons x l ih=>
  intro a acc F hc k
  unfold List.length loadBytes
  rw [Wa5]
  have h0:=hc 0 x rfl
  rw [add_zero] at h0
  simp only [load,hp,h0]
  show hp P (loadBytes (a.add 1) (acc.push (((x.toNat:Int).toNat).toUInt8)) l.length) F h
  have hx:((x.toNat:Int).toNat).toUInt8=x:=by simp
  rw [hx]
  refine ih _ _ _ (λj y hj=>?_) ?_
  ·have:=hc (j+1) y (by simpa using hj)
   rw [Wr0,Nat.add_comm 1 j];exact this
  ·have e:(⟨(acc.push x).data ++ l.toArray⟩ : ByteArray)=⟨acc.data ++ (x :: l).toArray⟩:=by
    apply ByteArray.ext
    simp [ByteArray.push]
   rw [e];exact k
theorem Yj4 {P:Program} {e:TypeId} (hc:P.cellsOf e=1) (count n:Nat) (hn:n<=count):liesAt P P.depth e count 0 e n=true:=by
 have hd:P.depth=(2*(P.types.size+Made.depth)+1)+1:=rfl
 rw [hd]
 simp only [liesAt,Bool.or_eq_true]
 left
 rw [hd]
 simp [rowAt,hc,hn,sameLayout]
theorem WO3:Tryz.prog.cellsOf 5=1:=by kernel_rfl
theorem Yt3:und Tryz.prog 226=.pointer 5:=by kernel_rfl
theorem W43 {h:Wa1} {p:Nat} {s:ByteArray} {K:kQ} (H:Bld h p s) (h0:s.size≠0) (hs:s.size < 2 ^ 60) (k:∀h',h'.size=h.size->(∀c,c<=p->h'[c]? = h[c]?)->K (.string s) h') :
  Wa4 Tryz.prog 97 #[.pointer (some (aQ p))] h K:=by
 refine call97 ?_
 unfold F97 lS nP
 obtain ⟨q,a,l,c,h1,h2,h3,h4⟩:=H
 have hls:l=s.size:=by have:=h3.1;rw [W42] at this;omega
 obtain ⟨g1,g2,g3⟩:=h3
 rcases g3 with ⟨rfl,hc0⟩ | ⟨b,row,rfl,hb,hrs,hrt⟩
 ·omega
 have hbp:p < b:=h4 _ rfl
 simp only [Wc5,Wb0]
 refine ldR h1 rfl ?_
 simp only [Wa9]
 refine ldR h1 rfl ?_
 simp only [Wa9]
 have hu:∀ {K:kQ},K (.pointer (some (aQ b))) h->Y56 Tryz.prog #[26] 226 #[.slice (some (aQ b)) l c] h K:=by
  intro K kk
  obtain ⟨c',rfl⟩ : ∃c',c=c' + 1:=⟨c - 1,by omega⟩
  exact kk
 refine hu ?_
 simp only [Wc8]
 refine ⟨?_,?_⟩
 ·rw [Wc1,Wb4 h1];rfl
 have hn0:¬ ((l:Nat):Int) < 0:=by omega
 have hn1:¬ ((l:Nat):Int) > IntKind.i64.max:=by
  have e:IntKind.i64.max=9223372036854775807:=by decide
  omega
 have hl0:¬ ((l:Nat):Int)=0:=by omega
 have hsh:Wp1 h b=some (5,row.size):=by unfold Wp1;rw [hb]
 have hrow:row.size=c:=by omega
 have eu:Builtin.unsafeString_ #[226,3] 9 #[.pointer (some (aQ b)),iQ ((l:Nat):Int)]=(do
   if ((l:Nat):Int) < 0 then runtimePanic (.error "unsafe.String: len out of range")
   if ((l:Nat):Int) > IntKind.i64.max then unsupported (.unsafePointer "String: a length above the largest int")
   if ((l:Nat):Int)=0 then pure (.string .empty)
   else if <- variablesAt (aQ b) (<- elemOf 226) ((l:Nat):Int).toNat then do
    let s <- loadBytes (aQ b) .empty ((l:Nat):Int).toNat
    freeze (aQ b) ((l:Nat):Int).toNat
    pure (.string s)
   else unsupported (.unsafePointer "String: not so many bytes at ptr")):=rfl
 unfold Y57
 rw [eu]
 simp only [Wa5,Wb1,if_neg hn0,if_neg hn1,if_neg hl0,Int.toNat_natCast,elemOf,Wa8 (Wb9 Yt3 (by simp)),variablesAt,Wl4,WE4,hsh,WO3,Nat.div_one,Yj4 WO3 row.size l (by omega),if_true]
 have hlen:l=s.data.toList.length:=by rw [hls,Array.length_toList];rfl
 have hload:∀ {F:ByteArray->Wa1->Prop},F s h->hp Tryz.prog (loadBytes (aQ b) .empty l) F h:=by
  intro F kk
  rw [hlen]
  refine WX2 _ _ _ _ (λj x hj=>?_) ?_
  ·rw [Wc1,Wb4 hb,Nat.zero_add,<- Array.getElem?_toList]
   have hx:(bcs s)[j]? = some (.int .u8 x.toNat):=by unfold bcs;rw [List.getElem?_map,hj];rfl
   rw [<- hrt,List.getElem?_take] at hx
   split at hx
   ·exact hx
   ·cases hx
  ·have e:(⟨ByteArray.empty.data ++ s.data.toList.toArray⟩ : ByteArray)=s:=by
    apply ByteArray.ext;simp
   rw [e];exact kk
 refine hload ?_
 show K (.string s) (freezeAt h (aQ b) l)
 refine k _ ?_ (λx hx=>?_)
 ·unfold freezeAt
  split
  ·rfl
  ·simp
 ·unfold freezeAt
  split
  ·rfl
  ·rw [Array.getElem?_modify,if_neg (show ¬ ((aQ b) : Addr).block=x from by show ¬ b=x;omega)]
end
section
structure Ro where
 c0:Int
 c1:Int
 c2:Int
 c3:Int
 c4:Int
 c5:Int
 c6:Int
abbrev Ro.cells (r:Ro):List Value:=[iv r.c0,iv r.c1,iv r.c2,iv r.c3,iv r.c4,iv r.c5,iv r.c6]
def dgI (x:Int):ByteArray:=dg x.toNat
theorem W44 {K:kQ} {h:Wa1} {a b:Int} (k:∀h',Old h.size h h'->K (.bool true) h'):Wa4 Tryz.prog 197 #[.agg #[iQ 2,.int .u32 a,.int .u32 b]] h K:=by
 refine call197 ?_
 unfold F197 g197 lI
 have p:=We4 h #[iQ 2,.int .u32 a,.int .u32 b] 43
 generalize h.push (.cells #[iQ 2,.int .u32 a,.int .u32 b] 43)=h1 at *
 refine ldR p.new rfl ?_
 simp only [Wa2]
 exact Wb7 (λ_=>k _ p.toOld) (λe=>by simp at e)
theorem WR3 {K:kQ} {h:Wa1} {a b:Nat} (ha:a < 4294967296) (hb:b < 4294967296) (k:∀h',Old h.size h h'->K (.string (dg a ++ (⟨#[32]⟩ : ByteArray) ++ dg b)) h') :
  Wa4 Tryz.prog 128 #[.agg #[iQ 2,.int .u32 a,.int .u32 b]] h K:=by
 refine call128 ?_
 unfold F128 g128 cf ce lI dl3
 have p:=We4 h #[iQ 2,.int .u32 a,.int .u32 b] 43
 generalize h.push (.cells #[iQ 2,.int .u32 a,.int .u32 b] 43)=h1 at *
 refine ldR p.new rfl (ldR p.new rfl (ldR p.new rfl ?_))
 refine Wa0 (W44 λh4 o4=>?_)
 simp only [Wa6,Bool.not_true,Wc0]
 have c:∀(i:Nat) (v:Value),([iQ 2,.int .u32 a,.int .u32 b]:List Value)[i]? = some v->Wa3 h4 ⟨h.size,i,none⟩=some v:=λi v e=>Wl9 _ _ o4 (Wd3 p.new e)
 have ok4:=p.toOld.trans (o4.mono p.toOld.1)
 refine Wb5 (c 0 _ rfl) ?_
 simp only [Wa2]
 refine Wb7 (λe=>by simp at e) (λ_=>Wb7 (λe=>by simp at e) (λ_=>Wb7 (λe=>by simp at e) (λ_=>?_)))
 refine Wb5 (c 1 _ rfl) ?_
 simp only [Wa2]
 refine Wb5 (c 2 _ rfl) ?_
 simp only [Wa2]
 have sa:=W39 a
 have sb:=W39 b
 refine Wa0 (WG6 ha λh13 o13=>?_)
 simp only [Wd9]
 refine ⟨Wl9 _ _ o13 (c 2 _ rfl),by omega,?_⟩
 refine Wa0 (WG6 hb λh16 o16=>?_)
 simp only [Wd9]
 refine ⟨by rw [ByteArray.size_append,Wy7];omega,?_⟩
 exact k _ ((ok4.trans (o13.mono ok4.1)).trans (o16.mono (Nat.le_trans ok4.1 o13.1)))
theorem WG7 {K:kQ} {h:Wa1} {s x:ByteArray} (hs:s.size < 2 ^ 60) (hx:x.size < 2 ^ 60) (k:K (.string s) h) :
  Wa4 Tryz.prog 127 #[.string (s ++ x),.string x] h K:=by
 refine call127 ?_
 unfold F127 cf
 refine Wa0 (call198 ?_)
 unfold F198 cf
 refine Wa0 (call275 ?_)
 unfold F275
 have e:IntKind.i64.wrap ((((s ++ x).size:Nat):Int) - ((x.size:Nat):Int))=((s.size:Nat):Int):=by
  rw [ByteArray.size_append,Wb2 (by omega) (by omega)];omega
 rw [e,Int.toNat_natCast]
 have hsz:(s ++ x).size=s.size+x.size:=ByteArray.size_append
 refine Wa7 (λ_=>⟨by omega,by omega,?_⟩) (λhn=>by omega)
 rw [ByteArray.extract_append_eq_right rfl hsz,ByteArray.extract_append_eq_left rfl]
 simp only [beq_self_eq_true,Wa6,Wd5]
 exact ⟨by omega,by omega,k⟩
theorem Yt4 {cs:List Value} {t:TypeId} {i:Nat} {v:Value} {K:Value->Prop} (hs:siz Tryz.prog t=1) (ha:YE0 Tryz.prog t=false) (e:cs[i]? = some v) (k:K v):Wz8 Tryz.prog t cs.toArray (i*1) K:=by
 have:Yg3 Tryz.prog t cs.toArray (i*1)=some v:=by
  unfold Yg3
  rw [if_neg (by simp [ha]),Nat.mul_one,List.getElem?_toArray,e]
 unfold Wz8
 rw [this]
 exact k
end
section

end
section

end
section
set_option maxRecDepth 100000
abbrev g61 (K:kQ) (h H1:Wa1):Prop:=
 (lI .i64 H1 (aQ h.size) λa=>ifB (a == 0) (K (.bool true) H1) (exI λI2=>(ifB (a == 1) (I2 [.bool true] H1) (I2 [.bool (a == 2)] H1))/\(∀(a:Value) (b:Env) (b:Wa1),(I2 [a] b)->(asBool a λa=>ifB a (lI .u32 b ⟨h.size,1,none⟩ λa=>ifB (a == 0) (lI .u32 b ⟨h.size,2,none⟩ λa=>K (.bool (a == 0)) b) (K (.bool false) b)) (K (.bool false) b)))))
def F61 (K:kQ) (h:Wa1) (xa xb xc:Int):Prop:=
 (g61 K h (Array.push h (.cells #[iQ xa,.int .u32 xb,.int .u32 xc] 41)))
theorem call61 {K:kQ} {h:Wa1} {xa xb xc:Int} (H:F61 K h xa xb xc):Wa4 Tryz.prog 61 #[(.agg #[(iQ xa),(.int .u32 xb),(.int .u32 xc)])] h K:=
 cQ Tryz.func61 H
end
section
structure C3 where
 o:Int
 k:Int
 v:Int
abbrev C3.cells (c:C3):List Value:=[iQ c.o,.int .u32 c.k,.int .u32 c.v]
def Yc8 (c:C3):Bool:=c.o == 0 || ((c.o == 1 || c.o == 2) && (c.k == 0 && c.v == 0))
def Y00 (a:C3):Bool:=a.o == 2 || ((a.o == 0 || (a.o == 1 || a.o == 3)) && (a.k == 0 && a.v == 0))
def Y01 (c a:C3):Bool:=Yc8 c && (Y00 a && ((c.o == 0) == (a.o == 0 || a.o == 1)))
theorem WM3 {K:kQ} {h:Wa1} {c:C3} (k:∀h',Old h.size h h'->K (.bool (Yc8 c)) h'):Wa4 Tryz.prog 61 #[.agg c.cells.toArray] h K:=by
 refine call61 ?_
 unfold F61 g61 lI
 have p:=We4 h c.cells.toArray 41
 rw [show h.push (.cells #[iQ c.o,.int .u32 c.k,.int .u32 c.v] 41)=h.push (.cells c.cells.toArray 41) from rfl]
 generalize h.push (.cells c.cells.toArray 41)=h1 at *
 have kk:=k _ p.toOld
 unfold Yc8 at kk
 refine ldR p.new rfl ?_
 simp only [Wa2]
 refine Wb7 (λe=>by rw [e] at kk;exact kk) (λe=>?_)
 rw [e,Bool.false_or] at kk
 refine ⟨λvs h'=>vs = [.bool (c.o == 1 || c.o == 2)]/\h' = h1,?_,?_⟩
 ·refine Wb7 (λe1=>⟨by rw [e1];rfl,rfl⟩) (λe1=>⟨by rw [e1,Bool.false_or],rfl⟩)
 rintro v3 g4 h5 ⟨e3,rfl⟩
 cases e3
 simp only [Wa6]
 refine Wb7 (λe1=>?_) (λe1=>by rw [e1] at kk;exact kk)
 rw [e1,Bool.true_and] at kk
 refine ldR p.new rfl ?_
 simp only [Wa2]
 refine Wb7 (λe2=>?_) (λe2=>by rw [e2] at kk;exact kk)
 rw [e2,Bool.true_and] at kk
 refine ldR p.new rfl ?_
 simp only [Wa2]
 exact kk
end
section

end
section
def doP (ps:List Pr) (c a:C3):Option (List Pr):=
 if Y01 c a then
  if a.o=0 then some (Za0 (c.k,c.v) ps)
  else if a.o=1 then some ps
  else if a.o=3 then (if ps = [] then some ps else none)
  else if (a.k,a.v) ∈ YZ5 ps then (if c.o=1 then some (ps.erase (a.k,a.v)) else some ps) else none
 else none
end
section
set_option maxRecDepth 100000

end
section

end
section
def F291 (K:kQ) (h:Wa1) (xa:Option Addr) (xb xc:Nat):Prop:=
 (K (.func (.func 305) #[] #[.pointer (some (aQ h.size))]) (Array.push h (.cells #[.slice xa xb xc] 25)))
theorem call291 {K:kQ} {h:Wa1} {xa:Option Addr} {xb xc:Nat} (H:F291 K h xa xb xc):Wa4 Tryz.prog 291 #[(.slice xa xb xc)] h K:=
 cQ Tryz.func291 H
def F305 (K:kQ) (h:Wa1) (xa c0:Value):Prop:=
 (Wd1 c0 λa=>lS h a λa b c=>exI λI5=>exM λm6=>(I5 [.tuple #[],iQ 0] h)/\(∀(c d:Value) (e:Env) (e:Wa1),(I5 [c,d] e)->(asInt .i64 d λf=>ifB (decide (f < (b:Int))) (asI d λf=>bd f (b:Int) (Wd1 (.pointer a) λa=>lI .i64 e (Addr.add a (f.toNat*1)) λa=>Wl3 Tryz.prog xa #[iQ a] e λb f=>asBool b λb=>ifB (!b) (K (.tuple #[]) f) (asInt .i64 d λb=>(I5 [iQ a,iQ (IntKind.wrap .i64 (b+1))] f)/\((m6 [iQ a,iQ (IntKind.wrap .i64 (b+1))] f) < (m6 [c,d] e))))) (K (.tuple #[]) e))))
theorem call305 {K:kQ} {h:Wa1} {xa c0:Value} (H:F305 K h xa c0):Wa4 Tryz.prog 305 #[xa,c0] h K:=
 cQ Tryz.func305 H
abbrev g290 (K:kQ) (h H1 H2:Wa1) (xa xb:Value):Prop:=
 (Wh0 xa (Wh0 xb (exI λI0=>(ldH H2 (aQ h.size) λa=>Wh7 a λa=>ifB a (I0 [.bool true] H2) (ldH H2 (aQ H1.size) λa=>Wh7 a λa=>I0 [.bool a] H2))/\(∀(a:Value) (b:Env) (b:Wa1),(I0 [a] b)->(asBool a λa=>ifB a (K (.func (.func 303) #[] #[]) b) (K (.func (.func 304) #[] #[.pointer (some (aQ h.size)),.pointer (some (aQ H1.size))]) b))))))
def F290 (K:kQ) (h:Wa1) (xa xb:Value):Prop:=
 (g290 K h (Array.push h (.cells #[xa] 311)) (Array.push (Array.push h (.cells #[xa] 311)) (.cells #[xb] 102)) xa xb)
theorem call290 {K:kQ} {h:Wa1} {xa xb:Value} (H:F290 K h xa xb):Wa4 Tryz.prog 290 #[xa,xb] h K:=
 cQ Tryz.func290 H
abbrev g304 (K:kQ) (h H1:Wa1) (xa c0 c1:Value):Prop:=
 (Wh0 xa (Wd1 c0 λa=>ldH H1 a λa=>WF2 Tryz.prog a 1 H1 (λI2 a b=>asInt .i64 (a.getD 0 (.tuple #[])) λa=>exI λI6=>(Wd1 c1 λc=>ldH b c λc=>Wl3 Tryz.prog c #[iQ a] b λb c=>asBool b λb=>ifB b (ldH c (aQ h.size) λb=>Wl3 Tryz.prog b #[iQ a] c λa b=>asBool a λa=>I6 [.bool (!a)] b) (I6 [.bool false] c))/\(∀(a:Value) (b:Env) (b:Wa1),(I6 [a] b)->(asBool a λa=>ifB a (I2 .ret b) (I2 .normal b)))) (λa=>(∀b:Wa1,(SameD h.size a b)->(K (.tuple #[]) b))) [(.ret,λa=>(∀b:Wa1,(SameD h.size a b)->(K (.tuple #[]) b)))]))
def F304 (K:kQ) (h:Wa1) (xa c0 c1:Value):Prop:=
 (g304 K h (Array.push h (.cells #[xa] 102)) xa c0 c1)
theorem call304 {K:kQ} {h:Wa1} {xa c0 c1:Value} (H:F304 K h xa c0 c1):Wa4 Tryz.prog 304 #[xa,c0,c1] h K:=
 cQ Tryz.func304 H
end
section
abbrev Wy8 (L:List Int) (k:Nat):Array Value:=#[iv (L.getD k 0)]
theorem Y02 {p:Nat} {a:Option Addr} {l c:Nat} {xs:List Int} (hl:l < 2 ^ 60) :
  YP1 Tryz.prog (.func (.func 305) #[] #[.pointer (some (aQ p))]) xs.length (Wy8 xs)
   (λh=>Wa3 h (aQ p)=some (.slice a l c)/\RI h a l c xs):=by
 intro yf y1 y2 h N I X hN hev hok hy
 refine Wq9 ?_
 rw [cl2]
 refine call305 ?_
 unfold F305 bd lS lI
 have hlen:=hev.2.len
 simp only [Wb0]
 refine Wb5 hev.1 ?_
 simp only [Wa9]
 refine ⟨λvs h'=>∃v,∃k:Nat,vs = [v,iv k]/\k<=l/\h.size<=h'.size/\I h.size k h',λvs _=>(match vs with | [_,.int _ n]=>l - n.toNat | _=>0),⟨_,0,rfl,by omega,Nat.le_refl _,hok.self⟩,?_⟩
 rintro v7 v8 g h10 ⟨v,k,e,hk,hs,hI⟩
 cases e
 simp only [Wa2,Ww1]
 refine Wa7 (λhlt=>?_) (λhge=>?_)
 ·have hlt':k < xs.length:=by omega
  obtain ⟨ad,rfl,hc⟩:=(hok.env _ _ _ hN hs hI).2.at hlt'
  refine ⟨by omega,hlt,?_⟩
  simp only [Wb0,Int.toNat_natCast,Nat.mul_one]
  refine Wb5 hc ?_
  simp only [Wa2]
  have hyk:=hy h.size k h10 hlt' hN (Nat.le_refl _) hs hI
  have e2:Wy8 xs k=#[iQ xs[k]]:=by unfold Wy8;simp [hlt']
  rw [e2] at hyk
  refine WA8 ?_ hyk
  rintro w h'' ⟨hm,⟨rfl,hI'⟩ | ⟨rfl,hX⟩⟩
  ·simp only [Wa6,Bool.not_true,Wc0]
   rw [Wf1 (by omega)]
   refine ⟨⟨_,k+1,rfl,by omega,Nat.le_trans hs hm.1,hI'⟩,?_⟩
   show l - ((k+1:Nat):Int).toNat < l - (k:Int).toNat
   omega
  ·simp only [Wa6,Bool.not_false,Wd5]
   exact ⟨h.size,hN,Nat.le_refl _,Nat.le_trans hs hm.1,.inr hX⟩
 ·have:k=xs.length:=by omega
  subst this
  exact ⟨h.size,hN,Nat.le_refl _,hs,.inl hI⟩
end
section
theorem Yt5 {L:List Int} {p:Int->Bool} {j:Nat} (hj:j < L.length) (hp:p L[j]=true) :
  ((L.take j).filter p).length < (L.filter p).length/\(L.filter p).getD ((L.take j).filter p).length 0=L[j]:=by
 have e:L.filter p=(L.take j).filter p ++ L[j] :: (L.drop (j+1)).filter p:=by
  conv=>lhs;rw [<- List.take_append_drop j L,List.filter_append,List.drop_eq_getElem_cons hj,List.filter_cons_of_pos hp]
 rw [e]
 constructor
 ·simp
 ·simp
theorem WG8 {L:List Int} {p:Int->Bool} {j:Nat} (hj:j < L.length):((L.take (j+1)).filter p).length=((L.take j).filter p).length+(if p L[j] then 1 else 0):=by
 rw [List.take_succ_eq_append_getElem hj,List.filter_append,List.length_append]
 cases h:p L[j] <;> simp [h]
theorem W45 {N M:Nat} {h h':Wa1} (o:Old h.size h h'):YD4 N M h h':=⟨o.1,λb hb _=>o.2 b hb⟩
theorem Wv8 {N M:Nat} {h h':Wa1} (o:Old h.size h h') (hM:M<=h.size):KeepMid N M h h':=⟨o.1,λb _ hb=>o.2 b (by omega)⟩
theorem KeepMid.trans {N M:Nat} {a b c:Wa1} (x:KeepMid N M a b) (y:KeepMid N M b c):KeepMid N M a c:=⟨Nat.le_trans x.1 y.1,λi h1 h2=>(y.2 i h1 h2).trans (x.2 i h1 h2)⟩
theorem KeepMid.mono {N N' M:Nat} {a b:Wa1} (x:KeepMid N M a b) (h:N<=N'):KeepMid N' M a b:=⟨x.1,λi h1 h2=>x.2 i (by omega) h2⟩
theorem YH4 {sp kp:Nat} {g f:Value} {L:List Int} {p:Int->Bool} {D:Int->Prop} {Ev Ek:Wa1->Prop} (hD:∀x ∈ L,D x) (hg:fnV g) (hseq:YP1 Tryz.prog g L.length (Wy8 L) Ev) (hst:∀h h',Old h.size h h'->Ev h->Ev h')
  (hsk:∀h h',Old h.size h h'->Ek h->Ek h') (hk:∀(h:Wa1) (x:Int) (K:kQ),Ek h->D x->(∀h',Old h.size h h'->K (.bool (p x)) h')->Wl3 Tryz.prog f #[iQ x] h K) :
  YP1 Tryz.prog (.func (.func 304) #[] #[.pointer (some (aQ sp)),.pointer (some (aQ kp))]) (L.filter p).length (Wy8 (L.filter p))
   (λh=>Wa3 h (aQ sp)=some g/\Wa3 h (aQ kp)=some f/\Ev h/\Ek h):=by
 intro yf y1 y2 h N I X hN hev hok hy
 refine Wq9 ?_
 rw [cl3]
 refine call304 ?_
 unfold F304 g304
 simp only [Wb0,WG3]
 have o1:Old h.size h (h.push (.cells #[.func yf y1 y2] 102)):=(Old.refl _ _).push _ (Nat.le_refl _)
 have n1:=Wk6 h (.cells #[.func yf y1 y2] 102)
 have s1:(h.push (.cells #[.func yf y1 y2] 102)).size=h.size+1:=by simp
 generalize h.push (.cells #[.func yf y1 y2] 102)=h1 at *
 refine Wb5 (Wl9 _ _ o1 hev.1) ?_
 refine WW7 (h0:=h) (I:=I) (X:=X) (N:=N) (n:=L.length) (xs:=Wy8 L) (Ev:=Ev) (λ_ h'=>h'[h.size]? = some (.cells #[.func yf y1 y2] 102)) (λj=>((L.take j).filter p).length) (L.filter p).length False
  hg hseq (λ_ _=>rfl) hN o1 hok (λh' e=>e.2.2.1) (hst _ _ o1 hev.2.2.1) (by simp) (by simp) (λk ha hb hsame e=>(hsame _ (Nat.le_refl _) (by omega)).trans e) n1 ?_ ?_ ?_
 ·intro M j h4 hj hM hs hS hI
  rw [s1] at hM
  have e2:(Wy8 L j).getD 0 (.tuple #[])=iQ L[j]:=by unfold Wy8;simp [hj]
  rw [e2]
  simp only [Wa2]
  have hev4:=hok.env M _ h4 (by omega) hs hI
  refine ⟨λvs h'=>∃b:Bool,vs = [.bool b]/\KeepMid h1.size M h4 h'/\(if b then X M () h' else h'[h.size]? = some (.cells #[.func yf y1 y2] 102)/\I M ((L.take (j+1)).filter p).length h'),?_,?_⟩
  ·refine Wb5 hev4.2.1 ?_
   refine hk _ _ _ hev4.2.2.2 (hD _ (List.getElem_mem _)) λh10 o10=>?_
   simp only [Wa6]
   have hI10:=hok.keepI M _ h4 h10 (by omega) hs hI (W45 o10)
   have hS10:h10[h.size]? = some (.cells #[.func yf y1 y2] 102):=(o10.2 _ (by omega)).trans hS
   refine Wb7 (λhp=>?_) (λhp=>?_)
   ·refine Wb5 (Wh6 hS10) ?_
    obtain ⟨f1,f2⟩:=Yt5 hj hp
    have hyk:=hy M _ h10 f1 (by omega) (by omega) (by have:=o10.1;omega) hI10
    rw [show Wy8 (L.filter p) ((L.take j).filter p).length=#[iQ L[j]] by unfold Wy8;rw [f2]] at hyk
    refine WA8 ?_ hyk
    rintro w h14 ⟨hm,hor⟩
    have hm4:KeepMid h1.size M h4 h14:=(Wv8 o10 hs).trans (hm.mono (by omega))
    rcases hor with ⟨rfl,hI'⟩ | ⟨rfl,hX⟩
    ·simp only [Wa6,Bool.not_true]
     refine ⟨false,rfl,hm4,?_⟩
     simp only [Bool.false_eq_true,if_false]
     refine ⟨(hm.2 _ (by omega) (by omega)).trans hS10,?_⟩
     rw [WG8 hj,if_pos hp];exact hI'
    ·simp only [Wa6,Bool.not_false]
     exact ⟨true,rfl,hm4,by simp only [if_true];exact hX⟩
   ·refine ⟨false,rfl,Wv8 o10 hs,?_⟩
    simp only [Bool.false_eq_true,if_false]
    refine ⟨hS10,?_⟩
    rw [WG8 hj,if_neg (by simp [hp])];exact hI10
  ·rintro v16 g17 h18 ⟨b,e,hm,hb⟩
   cases e
   simp only [Wa6]
   cases b with
   | true=>simp only [Wd5];simp only [if_true] at hb;exact ⟨hm,trivial,.inl hb⟩
   | false=>simp only [Wc0];simp only [Bool.false_eq_true,if_false] at hb;exact ⟨hm,by have:=hm.1;omega,hb⟩
 ·intro M h20 hM hs hI h21 hsd
  refine ⟨M,by omega,by omega,by rw [hsd.1];exact hs,.inl ?_⟩
  exact hok.dI M _ h20 h21 (hsd.mono hN) hI
 ·refine ⟨λM h22 hM hs hX h23 hsd=>?_,trivial⟩
  refine ⟨M,by omega,by omega,by rw [hsd.1];exact hs,.inr ?_⟩
  rcases hX with hX | hX
  ·exact hok.dX M _ h22 h23 (hsd.mono hN) hX
  ·exact hX.1.elim
end
section

end
section
set_option maxRecDepth 100000

end
section
structure Op9 where
 th:Int
 op:Int
 key:Int
 val:Int
 kind:Int
 ak:Int
 av:Int
 fr:Int
 to:Int
abbrev Op9.cells (o:Op9):List Value:=[iQ o.th,iQ o.op,.int .u32 o.key,.int .u32 o.val,iQ o.kind,.int .u32 o.ak,.int .u32 o.av,iQ o.fr,iQ o.to]
end
section
def Za7 (ps:List Pr) (c:C3):C3:=if Yc8 c then (if c.o=0 then ⟨0,0,0⟩ else match YZ5 ps with | []=>⟨3,0,0⟩ | p :: _=>⟨2,p.1,p.2⟩) else ⟨1,0,0⟩
def dfC:C3:=⟨0,0,0⟩
def stP (cs:List C3):Nat->List Pr
 | 0=>[]
 | i+1=>let ps:=stP cs i;let c:=cs.getD i dfC;(doP ps c (Za7 ps c)).getD ps
end
section
structure Op7 where
 pl:Int
 c:C3
 a:C3
abbrev Op7.cells (o:Op7):List Value:=[iQ o.pl,iQ o.c.o,.int .u32 o.c.k,.int .u32 o.c.v,iQ o.a.o,.int .u32 o.a.k,.int .u32 o.a.v]
end
section
open Go.ChangeShapes Go.WideShapes Go.ChangeAt Go.RowKit
theorem Wg9 {H:Type} {enc:TypeId × Value->H} {P:Program} {W:World} {base:Nat} {spare:Nat->Bool} {held:Bool} {fuel:Nat} {t:TypeId} {cs:List Value} {x:DataW H × List MemPlace} {fs:Array Field} (ht:P.underlying t=some (.struct fs))
  (h:DataW.trod enc P W base spare held fuel t cs=some x) (i:Nat) (f:Field) (hf:fs[i]? = some f):∃n y,DataW.trod enc P W base spare held n f.type ((cs.drop f.offset).take (P.cellsOf f.type))=some y:=by
 obtain ⟨xs,n,_,_,_,hlen,hfl⟩:=DataW.trod_struct ht h
 have hi:i < xs.length:=by rw [hlen];exact (Array.getElem?_eq_some_iff.1 hf).1
 exact ⟨n,xs[i],by rw [hfl i f hf,List.getElem?_eq_getElem hi]⟩
theorem Yt6 {H:Type} {enc:TypeId × Value->H} {P:Program} {W:World} {base:Nat} {spare:Nat->Bool} {held:Bool} {fuel:Nat} {t:TypeId} {cs:List Value} {x:DataW H × List MemPlace} {fs:Array Field} (ht:P.underlying t=some (.struct fs))
  (h:DataW.trod enc P W base spare held fuel t cs=some x):cs.length=P.cellsOf t:=by
 obtain ⟨xs,n,_,_,hl,_,_⟩:=DataW.trod_struct ht h
 exact hl
theorem Y03 {H:Type} {enc:TypeId × Value->H} {W:World} {α:Type} {f:α->List Value} {n:Nat} (hf:∀x,(f x).length=n) (hn:0 < n) {ts t:TypeId} (hu:Program.underlying Tryz.prog ts=some (.slice t)) (hco:Program.cellsOf Tryz.prog t=n)
  (hcell:∀fuel cs x,DataW.trod enc Tryz.prog W 0 (λ_=>true) true fuel t cs=some x->∃e,cs=f e) {d:DataW H} {ps:List MemPlace} {a:Option Addr} {l c:Nat}
  (h:DataW.Trod enc Tryz.prog W 0 (λ_=>true) true ts (.slice a l c) d ps):∃es:List α,SX f W.heap a l c es:=by
 obtain ⟨fuel,hf0⟩:=h
 rcases DataW.trod_slice hu hf0 with ⟨hcs,_⟩ | ⟨x,l1,c1,elems,rest,m,_,hcs,_,_,hl,hm,hlen,hel,_,_⟩
 ·simp [Value.cells] at hcs
  obtain ⟨rfl,rfl,rfl⟩:=hcs
  exact ⟨[],⟨Sees.nil _ _,rfl,Nat.le_refl _⟩⟩
 ·simp [Value.cells] at hcs
  obtain ⟨rfl,rfl,rfl⟩:=hcs
  have each:∀i,i < l->∃e:α,∀j v,(f e)[j]? = some v->Wa3 W.heap (x.add (i*n+j))=some v:=by
   intro i hi
   have:=hel i hi
   rw [List.getElem?_eq_getElem (by omega),Option.bind_eq_some_iff] at this
   obtain ⟨cs,h1,h2⟩:=this
   obtain ⟨e,rfl⟩:=hcell _ _ _ h2
   obtain ⟨_,h3,h4⟩:=World.cells?_some h1
   refine ⟨e,λj v hv=>?_⟩
   have hj:j < n:=by have:=(List.getElem?_eq_some_iff.1 hv).1;rwa [hf] at this
   rw [hco] at h1 h4
   have h5:=h4 j (by omega)
   rw [hv,Wr0] at h5
   exact h5
  have pick:∀m,m<=l->∃es:List α,es.length=m/\∀i (hi:i < es.length),∀j v,(f es[i])[j]? = some v->Wa3 W.heap (x.add (i*n+j))=some v:=by
   intro m
   induction m with
   | zero=>intro _;exact ⟨[],rfl,λi hi=>by simp at hi⟩
   | succ m ih=>
    intro hm
    obtain ⟨es,h1,h2⟩:=ih (by omega)
    obtain ⟨e,he⟩:=each m (by omega)
    refine ⟨es ++ [e],by simp [h1],λi hi j v hv=>?_⟩
    by_cases e:i < es.length
    ·rw [List.getElem_append_left e] at hv
     exact h2 i e j v hv
    ·have:i=m:=by simp at hi;omega
     subst this
     rw [List.getElem_append_right (by omega)] at hv
     simp only [h1,Nat.sub_self,List.getElem_singleton] at hv
     exact he j v hv
  obtain ⟨es,h1,h2⟩:=pick l (Nat.le_refl _)
  refine ⟨es,⟨?_,h1,hl⟩⟩
  intro q v hq
  have hqlt:q < es.length*n:=by rw [<- Wo6 hf];exact (List.getElem?_eq_some_iff.1 hq).1
  have hi:q / n < es.length:=(Nat.div_lt_iff_lt_mul hn).2 hqlt
  have e:=Wi3 hf hi (j:=q % n) (Nat.mod_lt _ hn)
  have e3:q / n*n+q % n=q:=by rw [Nat.mul_comm];exact Nat.div_add_mod q n
  rw [e3,hq] at e
  have:=h2 (q / n) hi (q % n) v e.symm
  rw [e3] at this
  exact ⟨x,rfl,this⟩
section
variable {H:Type} {enc:TypeId × Value->H} {W:World} {fuel:Nat} {cs:List Value} {x:DataW H × List MemPlace}
end
section
variable {H:Type} {enc:TypeId × Value->H} {W:World} {d:DataW H} {ps:List MemPlace} {a:Option Addr} {l c:Nat}
end
end
section
set_option maxRecDepth 100000
abbrev g59 (K:kQ) (h H1:Wa1):Prop:=
 (dl7 H1 h.size λa b c d e f g=>cf 98 #[.agg #[a,b,c,d,e,f,g]] H1 λa b=>Wg5 a λc=>Wc2 c 0 λc=>asAgg c λc=>Wg6 c 15 (Ww2 c λc d e f g i j k l m n o p q r=>Wg5 a λa=>Wc2 a 1 λa=>asInt .i64 a λa=>stH (Array.push b (.cells Wp0 117)) (aQ b.size) c λc=>stH c ⟨b.size,1,none⟩ d λc=>stH c ⟨b.size,2,none⟩ e λc=>stH c ⟨b.size,3,none⟩ f λc=>stH c ⟨b.size,4,none⟩ g λc=>stH c ⟨b.size,5,none⟩ i λc=>stH c ⟨b.size,6,none⟩ j λc=>stH c ⟨b.size,7,none⟩ k λc=>stH c ⟨b.size,8,none⟩ l λc=>stH c ⟨b.size,9,none⟩ m λc=>stH c ⟨b.size,10,none⟩ n λc=>stH c ⟨b.size,11,none⟩ o λc=>stH c ⟨b.size,12,none⟩ p λc=>stH c ⟨b.size,13,none⟩ q λc=>stH c ⟨b.size,14,none⟩ r λb=>K (iQ a) b))
def F59 (K:kQ) (h:Wa1) (xa xb xc xd xe xf xg:Int):Prop:=
 (g59 K h (Array.push h (.cells #[iQ xa,iQ xb,iQ xc,iQ xd,iQ xe,iQ xf,iQ xg] 23)))
theorem call59 {K:kQ} {h:Wa1} {xa xb xc xd xe xf xg:Int} (H:F59 K h xa xb xc xd xe xf xg):Wa4 Tryz.prog 59 #[(.agg #[(iQ xa),(iQ xb),(iQ xc),(iQ xd),(iQ xe),(iQ xf),(iQ xg)])] h K:=
 cQ Tryz.func59 H
abbrev g98 (K:kQ) (h H1 H2:Wa1):Prop:=
 (lI .i64 H2 (aQ h.size) λa=>lI .i64 H2 ⟨h.size,1,none⟩ λb=>lI .i64 H2 ⟨h.size,2,none⟩ λc=>lI .i64 H2 ⟨h.size,3,none⟩ λd=>lI .i64 H2 ⟨h.size,4,none⟩ λe=>lI .i64 H2 ⟨h.size,5,none⟩ λf=>lI .i64 H2 ⟨h.size,6,none⟩ λg=>cf 138 #[.slice (some (aQ H2.size)) 7 7] (Array.push H2 (.cells #[iQ a,iQ 0,iQ 2,iQ b,iQ 1,iQ 6,iQ c,iQ 1,iQ 64,iQ d,iQ 1,iQ 6,iQ e,iQ 1,iQ 16,iQ f,iQ 1,iQ 16,iQ g,iQ 1,iQ 64] 229)) λa b=>asBool a λa=>ifB (!a) (YS3 b H1.size (iQ 0) (iQ 0) (iQ 0) (iQ 0) (iQ 0) (iQ 0) (iQ 0) (iQ 0) (iQ 0) (iQ 0) (iQ 0) (iQ 0) (iQ 0) (iQ 0) (iQ 0) λa=>Wz6 a H1.size λc d e f g i j k l m n o p q r=>K (.tuple #[.agg #[c,d,e,f,g,i,j,k,l,m,n,o,p,q,r],iQ 6]) a) (dl7 b h.size λa c d e f g i=>lI .i64 b ⟨h.size,3,none⟩ λj=>lI .i64 b ⟨h.size,3,none⟩ λk=>stH (Array.push b (.cells Wp0 117)) (aQ b.size) a λa=>stH a ⟨b.size,1,none⟩ c λa=>stH a ⟨b.size,2,none⟩ d λa=>stH a ⟨b.size,3,none⟩ e λa=>stH a ⟨b.size,4,none⟩ f λa=>stH a ⟨b.size,5,none⟩ g λa=>stH a ⟨b.size,6,none⟩ i λa=>stH a ⟨b.size,7,none⟩ (iQ (IntKind.wrap .i64 ((IntKind.wrap .i64 (2*j))+2))) λa=>stH a ⟨b.size,8,none⟩ (iQ (IntKind.wrap .i64 (5+k))) λa=>stH a ⟨b.size,9,none⟩ (iQ 2) λa=>stH a ⟨b.size,10,none⟩ (iQ 0) λa=>stH a ⟨b.size,11,none⟩ (iQ 0) λa=>stH a ⟨b.size,12,none⟩ (iQ 0) λa=>stH a ⟨b.size,13,none⟩ (iQ 0) λa=>stH a ⟨b.size,14,none⟩ (iQ 0) λa=>exI λI73=>(lI .i64 a (aQ h.size) λc=>ifB (c == 0) (ldH a ⟨h.size,3,none⟩ λc=>asInt .i64 c λd=>((0:Int)<=d)/\(stH a ⟨b.size,7,none⟩ (iQ 2) λe=>ce e h.size 3 c (stH e ⟨b.size,8,none⟩ (iQ 3) λe=>ce e h.size 3 c (stH e ⟨b.size,9,none⟩ (iQ 0) λe=>ce e h.size 3 c (I73 [iQ (IntKind.wrap .i64 (1*(2 ^ (min d.toNat 64))))] e))))) (I73 [iQ 0] a))/\(∀(a:Value) (c:Env) (c:Wa1),(I73 [a] c)->(lI .i64 c ⟨h.size,2,none⟩ λd=>lI .i64 c ⟨b.size,9,none⟩ λe=>ifB (decide (d<=e)) (YS3 c H1.size (iQ 0) (iQ 0) (iQ 0) (iQ 0) (iQ 0) (iQ 0) (iQ 0) (iQ 0) (iQ 0) (iQ 0) (iQ 0) (iQ 0) (iQ 0) (iQ 0) (iQ 0) λd=>Wz6 d H1.size λe f g i j k l m n o p q r s t=>K (.tuple #[.agg #[e,f,g,i,j,k,l,m,n,o,p,q,r,s,t],iQ 6]) d) (stH c ⟨b.size,10,none⟩ (iQ 8) λc=>lI .i64 c ⟨b.size,10,none⟩ λd=>lI .i64 c ⟨h.size,1,none⟩ λe=>lI .i64 c ⟨b.size,7,none⟩ λf=>stH c ⟨b.size,11,none⟩ (iQ (IntKind.wrap .i64 (d+(IntKind.wrap .i64 (e*f))))) λc=>lI .i64 c ⟨b.size,11,none⟩ λd=>lI .i64 c ⟨h.size,2,none⟩ λe=>stH c ⟨b.size,12,none⟩ (iQ (IntKind.wrap .i64 (d+e))) λc=>lI .i64 c ⟨b.size,12,none⟩ λd=>lI .i64 c ⟨h.size,2,none⟩ λe=>lI .i64 c ⟨b.size,8,none⟩ λf=>stH c ⟨b.size,13,none⟩ (iQ (IntKind.wrap .i64 (d+(IntKind.wrap .i64 (e*f))))) λc=>lI .i64 c ⟨b.size,13,none⟩ λd=>asInt .i64 a λa=>stH c ⟨b.size,14,none⟩ (iQ (IntKind.wrap .i64 (d+a))) λa=>Wz6 a b.size λb c d e f g i j k l m n o p q=>YS3 a H1.size b c d e f g i j k l m n o p q λa=>Wz6 a H1.size λb c d e f g i j k l m n o p q=>K (.tuple #[.agg #[b,c,d,e,f,g,i,j,k,l,m,n,o,p,q],iQ 0]) a)))))
def F98 (K:kQ) (h:Wa1) (xa xb xc xd xe xf xg:Int):Prop:=
 (g98 K h (Array.push h (.cells #[iQ xa,iQ xb,iQ xc,iQ xd,iQ xe,iQ xf,iQ xg] 23)) (Array.push (Array.push h (.cells #[iQ xa,iQ xb,iQ xc,iQ xd,iQ xe,iQ xf,iQ xg] 23)) (.cells Wp0 117)))
theorem call98 {K:kQ} {h:Wa1} {xa xb xc xd xe xf xg:Int} (H:F98 K h xa xb xc xd xe xf xg):Wa4 Tryz.prog 98 #[(.agg #[(iQ xa),(iQ xb),(iQ xc),(iQ xd),(iQ xe),(iQ xf),(iQ xg)])] h K:=
 cQ Tryz.func98 H
def F138 (K:kQ) (h:Wa1) (xa:Option Addr) (xb xc:Nat):Prop:=
 (exI λI0=>exM λm1=>(I0 [.bool false,iQ 0] h)/\(∀(a b:Value) (c:Env) (c:Wa1),(I0 [a,b] c)->(asInt .i64 b λd=>ifB (decide (d < ((xb:Nat):Int))) (asI b λd=>bd d ((xb:Nat):Int) (Wd1 (.pointer xa) λe=>ldH c (Addr.add e (d.toNat*3)) λf=>ldH c (Addr.add (Addr.add e (d.toNat*3)) 1) λg=>ldH c (Addr.add (Addr.add e (d.toNat*3)) 2) λd=>stH (Array.push c (.cells #[iQ 0,iQ 0,iQ 0] 229)) (aQ c.size) f λe=>stH e ⟨c.size,1,none⟩ g λe=>stH e ⟨c.size,2,none⟩ d λd=>exI λI15=>(lI .i64 d (aQ c.size) λe=>lI .i64 d ⟨c.size,1,none⟩ λf=>ifB (decide (e < f)) (I15 [.bool true] d) (lI .i64 d (aQ c.size) λe=>lI .i64 d ⟨c.size,2,none⟩ λf=>I15 [.bool (decide (e > f))] d))/\(∀(d:Value) (e:Env) (e:Wa1),(I15 [d] e)->(asBool d λd=>ifB d (K (.bool false) e) (asInt .i64 b λd=>(I0 [a,iQ (IntKind.wrap .i64 (d+1))] e)/\((m1 [a,iQ (IntKind.wrap .i64 (d+1))] e) < (m1 [a,b] c))))))) (K (.bool true) c))))
theorem call138 {K:kQ} {h:Wa1} {xa:Option Addr} {xb xc:Nat} (H:F138 K h xa xb xc):Wa4 Tryz.prog 138 #[(.slice xa xb xc)] h K:=
 cQ Tryz.func138 H
end
section
abbrev WO4 (X Y Z:Nat->Int) (i:Nat):Prop:=Y i<=X i/\X i<=Z i
theorem W46 {K:kQ} {h:Wa1} {a:Addr} {l c:Nat} {X Y Z:Nat->Int} (hl:l<=1000)
  (H:∀i,i < l->Wa3 h (a.add (i*3))=some (iv (X i))/\Wa3 h ((a.add (i*3)).add 1)=some (iv (Y i))/\Wa3 h ((a.add (i*3)).add 2)=some (iv (Z i)))
  (k1:(∀i,i < l->WO4 X Y Z i)->∀h',Old h.size h h'->K (.bool true) h') (k0:(∃i,i < l/\¬ WO4 X Y Z i)->∀h',Old h.size h h'->K (.bool false) h') :
  Wa4 Tryz.prog 138 #[.slice (some a) l c] h K:=by
 refine call138 ?_
 unfold F138 bd lI
 refine ⟨λvs h'=>∃i:Nat,vs = [.bool false,iv i]/\Old h.size h h'/\i<=l/\∀j,j < i->WO4 X Y Z j,λvs _=>(match vs with | [_,.int _ n]=>l - n.toNat | _=>0),⟨0,rfl,Old.refl _ _,Nat.zero_le _,λj hj=>by omega⟩,?_⟩
 rintro v2 v3 g h5 ⟨i,e,ho,hi,hall⟩
 cases e
 simp only [Wa2,Ww1]
 refine Wa7 (λhlt=>?_) (λhge=>?_)
 ·obtain ⟨e1,e2,e3⟩:=H i (by omega)
  refine ⟨by omega,hlt,?_⟩
  simp only [Wb0,Int.toNat_natCast]
  refine Wb5 (Wl9 _ _ ho e1) (Wb5 (Wl9 _ _ ho e2) (Wb5 (Wl9 _ _ ho e3) ?_))
  have p:=We4 h5 #[iQ 0,iQ 0,iQ 0] 229
  generalize h5.push (.cells #[iQ 0,iQ 0,iQ 0] 229)=hp at *
  refine st3 (We3 p.new rfl (by simp [Wh0]) λh14 w=>?_)
  have o14:Old h.size h h14:=w.toOld (ho.trans (p.toOld.mono ho.1)) ho.1
  refine ⟨λvs h'=>vs = [.bool (decide (¬ WO4 X Y Z i))]/\h' = h14,?_,?_⟩
  ·refine ldR w.new rfl ?_
   simp only [Wa2]
   refine ldR w.new rfl ?_
   simp only [Wa2]
   refine Wa7 (λh1=>⟨?_,by trivial⟩) (λh1=>?_)
   ·rw [decide_eq_true (by unfold WO4;omega)]
   ·refine ldR w.new rfl ?_
    simp only [Wa2]
    refine ldR w.new rfl ?_
    simp only [Wa2]
    refine ⟨?_,by trivial⟩
    congr 2;rw [decide_eq_decide];unfold WO4;omega
  ·rintro v24 g25 h26 ⟨e,rfl⟩
   cases e
   simp only [Wa6]
   refine Wa7 (λh1=>k0 ⟨i,by omega,h1⟩ _ o14) (λh1=>?_)
   rw [Wf1 (by omega)]
   refine ⟨⟨i+1,rfl,o14,by omega,λj hj=>?_⟩,?_⟩
   ·by_cases hji:j < i
    ·exact hall j hji
    ·rw [show j=i by omega];exact Decidable.of_not_not h1
   ·show l - ((i+1:Nat):Int).toNat < l - (i:Int).toNat
    omega
 ·exact k1 (λj hj=>hall j (by omega)) _ ho
structure Cf where
 a:Int
 t:Int
 n:Int
 l:Int
 b:Int
 p:Int
 s:Int
def Cf.sent (c:Cf):Int:=if c.a=0 then 0 else 2
def Cf.slots (c:Cf):Int:=if c.a=0 then 2 else 2*c.l+2
def Cf.width (c:Cf):Int:=if c.a=0 then 3 else 5+c.l
def Cf.links (c:Cf):Int:=8+c.t*c.slots
def Cf.nodes (c:Cf):Int:=c.links+c.n
def Cf.tree (c:Cf):Int:=c.nodes+c.n*c.width
def Cf.size (c:Cf):Int:=c.tree+(if c.a=0 then 2 ^ c.l.toNat else 0)
structure Cf.Right (c:Cf):Prop where
 a:0<=c.a/\c.a<=2
 t:1<=c.t/\c.t<=6
 n:1<=c.n/\c.n<=64
 l:1<=c.l/\c.l<=6
 b:1<=c.b/\c.b<=16
 p:1<=c.p/\c.p<=16
 s:1<=c.s/\c.s<=64
 z:c.sent < c.n
abbrev Cf.vals (c:Cf):Array Value:=#[iQ c.a,iQ c.t,iQ c.n,iQ c.l,iQ c.b,iQ c.p,iQ c.s]
abbrev Cf.plan (c:Cf):Array Value:=#[iQ c.a,iQ c.t,iQ c.n,iQ c.l,iQ c.b,iQ c.p,iQ c.s,iQ c.slots,iQ c.width,iQ c.sent,iQ 8,iQ c.links,iQ c.nodes,iQ c.tree,iQ c.size]
abbrev Wh9:Array Value:=Wp0
theorem Yc9 {K:kQ} {h:Wa1} (c:Cf) (k1:c.Right->∀h',Old h.size h h'->K (.tuple #[.agg c.plan,iQ 0]) h') (k0:¬ c.Right->∀h',Old h.size h h'->K (.tuple #[.agg Wh9,iQ 6]) h') :
  Wa4 Tryz.prog 98 #[.agg c.vals] h K:=by
 refine call98 ?_
 unfold F98 g98 cf ce lI dl7 Wz6 YS3
 have p1:=We4 h c.vals 23
 rw [show h.push (.cells #[iQ c.a,iQ c.t,iQ c.n,iQ c.l,iQ c.b,iQ c.p,iQ c.s] 23)=h.push (.cells c.vals 23) from rfl]
 generalize h.push (.cells c.vals 23)=h1 at *
 have p2:=We4 h1 Wh9 117
 rw [show h1.push (.cells Wp0 117)=h1.push (.cells Wh9 117) from rfl]
 generalize h1.push (.cells Wh9 117)=h2 at *
 have s1:=p1.size
 have s2:=p2.size
 have c2:h2[h.size]? = some (.cells c.vals 23):=(p2.old _ (by omega)).trans p1.new
 have o2:Old h.size h h2:=p1.toOld.trans (p2.toOld.mono (by omega))
 rw [s1]
 have n2:h2[h.size+1]? = some (.cells Wh9 117):=by rw [<- s1];exact p2.new
 iterate 7 (refine ldR c2 rfl ?_;simp only [Wa2])
 have p3:=We4 h2 #[iQ c.a,iQ 0,iQ 2,iQ c.t,iQ 1,iQ 6,iQ c.n,iQ 1,iQ 64,iQ c.l,iQ 1,iQ 6,iQ c.b,iQ 1,iQ 16,iQ c.p,iQ 1,iQ 16,iQ c.s,iQ 1,iQ 64] 229
 generalize h2.push (.cells #[iQ c.a,iQ 0,iQ 2,iQ c.t,iQ 1,iQ 6,iQ c.n,iQ 1,iQ 64,iQ c.l,iQ 1,iQ 6,iQ c.b,iQ 1,iQ 16,iQ c.p,iQ 1,iQ 16,iQ c.s,iQ 1,iQ 64] 229)=h3 at *
 have o3:Old h2.size h2 h3:=p3.toOld
 have c3:=(o3.2 _ (by omega)).trans c2
 have n3:=(o3.2 _ (by omega)).trans n2
 have nothing:∀(h':Wa1) (row:Array Value),Old h.size h h'->h'[h.size+1]? = some (.cells row 117)->row.size=15->¬ c.Right->∀(F:Wa1->Prop),(∀h'',Old h.size h h''->h''[h.size+1]? = some (.cells Wh9 117)->F h'') ->
   stN h' ⟨h.size+1,0,none⟩ 0 Wh9.toList F:=by
  intro h' row o hb hr hn F hF
  refine We3 hb (by rw [hr];rfl) (by simp [Wh0]) λh'' w=>?_
  exact hF _ (w.toOld o (by omega)) (by simpa using w.new)
 refine Wa0 (W46 (X:=λi=>[c.a,c.t,c.n,c.l,c.b,c.p,c.s].getD i 0) (Y:=λi=>[0,1,1,1,1,1,1].getD i 0) (Z:=λi=>[2,6,64,6,16,16,64].getD i 0) (by omega) ?_ (λhall h15 o15=>?_) (λhex h15 o15=>?_))
 ·intro i hi
  simp only [Wc1]
  have:i=0\/i=1\/i=2\/i=3\/i=4\/i=5\/i=6:=by omega
  rcases this with rfl | rfl | rfl | rfl | rfl | rfl | rfl <;> exact ⟨Wd3 p3.new rfl,Wd3 p3.new rfl,Wd3 p3.new rfl⟩
 ·
  have q0:0<=c.a/\c.a<=2:=hall 0 (by omega)
  have q1:1<=c.t/\c.t<=6:=hall 1 (by omega)
  have q2:1<=c.n/\c.n<=64:=hall 2 (by omega)
  have q3:1<=c.l/\c.l<=6:=hall 3 (by omega)
  have q4:1<=c.b/\c.b<=16:=hall 4 (by omega)
  have q5:1<=c.p/\c.p<=16:=hall 5 (by omega)
  have q6:1<=c.s/\c.s<=64:=hall 6 (by omega)
  have s3:=p3.size
  have c15:=(o15.2 _ (by omega)).trans c3
  have n15:=(o15.2 _ (by omega)).trans n3
  have ok15:Old h.size h h15:=(o2.trans (o3.mono (by omega))).trans (o15.mono (by omega))
  have hs15:h.size+3<=h15.size:=by have:=o15.1;omega
  simp only [Wa6,Bool.not_true,Wc0]
  iterate 7 (refine ldR c15 rfl ?_)
  refine ldR c15 rfl ?_
  simp only [Wa2]
  refine ldR c15 rfl ?_
  simp only [Wa2]
  have p4:=We4 h15 Wh9 117
  rw [show h15.push (.cells Wp0 117)=h15.push (.cells Wh9 117) from rfl]
  generalize h15.push (.cells Wh9 117)=h16 at *
  refine YG4 (We3 p4.new rfl (by simp [Wh0]) λh72 w72=>?_)
  have c72:=(w72.old h.size (by omega)).trans ((p4.old _ (by omega)).trans c15)
  have n72:=(w72.old (h.size+1) (by omega)).trans ((p4.old _ (by omega)).trans n15)
  have o72:Old h.size h h72:=w72.toOld (ok15.trans (p4.toOld.mono ok15.1)) ok15.1
  have e1:IntKind.wrap .i64 (2*c.l)=2*c.l:=Wb2 (by omega) (by omega)
  have e2:IntKind.wrap .i64 (2*c.l+2)=2*c.l+2:=Wb2 (by omega) (by omega)
  have e3:IntKind.wrap .i64 (5+c.l)=5+c.l:=Wb2 (by omega) (by omega)
  have w72':=w72.new
  simp only [e1,e2,e3] at w72'
  refine ⟨λvs h'=>vs = [iv (if c.a=0 then 2 ^ c.l.toNat else 0)]/\Old h.size h h'/\h'.size=h72.size/\h'[h.size]? = some (.cells c.vals 23)/\h'[h.size+1]? = some (.cells Wh9 117) /\
   h'[h15.size]? = some (.cells #[iQ c.a,iQ c.t,iQ c.n,iQ c.l,iQ c.b,iQ c.p,iQ c.s,iQ c.slots,iQ c.width,iQ c.sent,iQ 0,iQ 0,iQ 0,iQ 0,iQ 0] 117),?_,?_⟩
  ·refine ldR c72 rfl ?_
   simp only [Wa2]
   refine Wb7 (λha=>?_) (λha=>?_)
   ·have ha:c.a=0:=by simpa using ha
    refine ldR c72 rfl ?_
    simp only [Wa2]
    refine ⟨by omega,stR w72' rfl trivial λh78 w78=>?_⟩
    refine ⟨Wd3 ((w78.old _ (by omega)).trans c72) rfl,stR w78.new rfl trivial λh79 w79=>?_⟩
    refine ⟨Wd3 ((w79.old _ (by omega)).trans ((w78.old _ (by omega)).trans c72)) rfl,stR w79.new rfl trivial λh80 w80=>?_⟩
    have w:=(w78.trans w79).trans w80
    refine ⟨Wd3 ((w.old _ (by omega)).trans c72) rfl,?_,w.toOld o72 ok15.1,w.size,(w.old _ (by omega)).trans c72,(w.old _ (by omega)).trans n72,?_⟩
    ·rw [if_pos ha]
     congr 2
     have:c.l.toNat<=6:=by omega
     rw [Int.one_mul,show min c.l.toNat 64=c.l.toNat by omega]
     have:∀k:Nat,k<=6->IntKind.wrap .i64 ((2:Int) ^ k)=2 ^ k:=by decide
     exact this _ (by omega)
    ·rw [w.new]
     simp only [Cf.slots,Cf.width,Cf.sent,if_pos ha]
     rfl
   ·have ha:c.a≠0:=by simpa using ha
    refine ⟨?_,o72,by trivial,c72,n72,?_⟩
    ·rw [if_neg ha]
    ·rw [w72']
     simp only [Cf.slots,Cf.width,Cf.sent,if_neg ha]
  rintro v81 g82 h83 ⟨e,o83,s83,c83,n83,m83⟩
  cases e
  refine ldR c83 rfl ?_
  simp only [Wa2]
  refine ldR m83 rfl ?_
  simp only [Wa2]
  refine Wa7 (λhz=>?_) (λhz=>?_)
  ·have hn:¬ c.Right:=λr=>by have:=r.z;omega
   refine YG4 (nothing h83 Wh9 o83 n83 rfl hn _ λh102 o102 n102=>?_)
   iterate 15 (refine ldR n102 rfl ?_)
   exact k0 hn _ o102
  ·have hr:c.Right:=⟨q0,q1,q2,q3,q4,q5,q6,by omega⟩
   have hslots:2<=c.slots/\c.slots<=14:=by unfold Cf.slots;split <;> omega
   have hwidth:3<=c.width/\c.width<=11:=by unfold Cf.width;split <;> omega
   have m1:c.t*c.slots<=6*14:=Int.mul_le_mul q1.2 hslots.2 (by omega) (by omega)
   have m2:0<=c.t*c.slots:=Int.mul_nonneg (by omega) (by omega)
   have m3:c.n*c.width<=64*11:=Int.mul_le_mul q2.2 hwidth.2 (by omega) (by omega)
   have m4:0<=c.n*c.width:=Int.mul_nonneg (by omega) (by omega)
   have m5:∀k:Nat,k<=6->0<=(2:Int) ^ k/\(2:Int) ^ k<=64:=by decide
   have m6:=m5 c.l.toNat (by omega)
   refine stR m83 rfl trivial λh118 w118=>?_
   have c118:=(w118.old h.size (by omega)).trans c83
   refine ldR w118.new rfl ?_
   simp only [Wa2]
   refine ldR c118 rfl ?_
   simp only [Wa2]
   refine ldR w118.new rfl ?_
   simp only [Wa2]
   rw [Wb2 (n:=c.t*c.slots) (by omega) (by omega),Wb2 (n:=8+c.t*c.slots) (by omega) (by omega)]
   refine stR w118.new rfl trivial λh125 w125=>?_
   have c125:=(w125.old h.size (by omega)).trans c118
   refine ldR w125.new rfl ?_
   simp only [Wa2]
   refine ldR c125 rfl ?_
   simp only [Wa2]
   rw [Wb2 (n:=8+c.t*c.slots+c.n) (by omega) (by omega)]
   refine stR w125.new rfl trivial λh130 w130=>?_
   have c130:=(w130.old h.size (by omega)).trans c125
   refine ldR w130.new rfl ?_
   simp only [Wa2]
   refine ldR c130 rfl ?_
   simp only [Wa2]
   refine ldR w130.new rfl ?_
   simp only [Wa2]
   rw [Wb2 (n:=c.n*c.width) (by omega) (by omega),Wb2 (n:=8+c.t*c.slots+c.n+c.n*c.width) (by omega) (by omega)]
   refine stR w130.new rfl trivial λh137 w137=>?_
   refine ldR w137.new rfl ?_
   simp only [Wa2]
   have m7:0<=(if c.a=0 then (2:Int) ^ c.l.toNat else 0)/\(if c.a=0 then (2:Int) ^ c.l.toNat else 0)<=64:=by split <;> omega
   rw [Wb2 (n:=8+c.t*c.slots+c.n+c.n*c.width+(if c.a=0 then (2:Int) ^ c.l.toNat else 0)) (by omega) (by omega)]
   refine stR w137.new rfl trivial λh141 w141=>?_
   have w:=(((w118.trans w125).trans w130).trans w137).trans w141
   have r141:h141[h15.size]? = some (.cells c.plan 117):=by
    rw [w.new];rfl
   have n141:=(w.old (h.size+1) (by omega)).trans n83
   iterate 15 (refine ldR r141 rfl ?_)
   refine YG4 (We3 n141 rfl (by simp [Wh0]) λh171 w171=>?_)
   iterate 15 (refine ldR w171.new rfl ?_)
   exact k1 hr _ (w171.toOld (w.toOld o83 (by omega)) (by omega))
 ·
  have hn:¬ c.Right:=by
   intro r
   obtain ⟨i,hi,hx⟩:=hex
   have:i=0\/i=1\/i=2\/i=3\/i=4\/i=5\/i=6:=by omega
   rcases this with rfl | rfl | rfl | rfl | rfl | rfl | rfl
   ·exact hx r.a
   ·exact hx r.t
   ·exact hx r.n
   ·exact hx r.l
   ·exact hx r.b
   ·exact hx r.p
   ·exact hx r.s
  have s3:=p3.size
  have n15:=(o15.2 _ (by omega)).trans n3
  have ok15:Old h.size h h15:=(o2.trans (o3.mono (by omega))).trans (o15.mono (by omega))
  simp only [Wa6,Bool.not_false,Wd5]
  refine YG4 (nothing h15 Wh9 ok15 n15 rfl hn _ λh31 o31 n31=>?_)
  iterate 15 (refine ldR n31 rfl ?_)
  exact k0 hn _ o31
end
section
open Go.ChangeShapes Go.WideShapes Go.ChangeAt Go.RowKit
end
section
abbrev WU3:=Nat->Option Obj
def Hp:=WU3->Prop
def Nd (_:Obj):Prop:=∀_:Unit,False->False
def Sub (σ:WU3) (h:Wa1):Prop:=∀b o,σ b=some o->h[b]? = some o/\Nd o
theorem Sub.mk {σ:WU3} {h:Wa1} (s:∀b o,σ b=some o->h[b]? = some o) (d:∀b o,σ b=some o->Nd o):Sub σ h:=λb o e=>⟨s b o e,d b o e⟩
theorem Sub.at {σ:WU3} {h:Wa1} (s:Sub σ h) (b:Nat) (o:Obj) (e:σ b=some o):h[b]? = some o:=(s b o e).1
theorem Sub.nd {σ:WU3} {h:Wa1} (s:Sub σ h) (b:Nat) (o:Obj) (e:σ b=some o):Nd o:=(s b o e).2
def Sat (h:Wa1) (P:Hp):Prop:=∃σ,Sub σ h/\P σ
def uni (σ τ:WU3):WU3:=λb=>(σ b).or (τ b)
def dis (σ τ:WU3):Prop:=∀b,σ b=none\/τ b=none
instance:Mul Hp:=⟨λP Q ρ=>∃σ τ,dis σ τ/\ρ=uni σ τ/\P σ/\Q τ⟩
def emp:Hp:=λσ=>σ=λ_=>none
def ex {α:Type} (P:α->Hp):Hp:=λσ=>∃a,P a σ
def pr (p:Prop) (P:Hp):Hp:=λσ=>p/\P σ
def pt (b:Nat) (o:Obj):Hp:=λσ=>∀c,σ c=if c=b then some o else none
def lift (D:Nat->Prop) (F:Wa1->Prop):Hp:=λσ=>(∀b,D b↔σ b≠none)/\∀h,Sub σ h->F h
theorem YH5 {σ τ:WU3} (d:dis σ τ):dis τ σ:=λb=>(d b).symm
theorem YH6 {σ τ:WU3} (d:dis σ τ):uni σ τ=uni τ σ:=by
 funext b
 unfold uni
 rcases d b with e | e <;> rw [e] <;> simp
theorem WX3 (σ τ ρ:WU3):uni (uni σ τ) ρ=uni σ (uni τ ρ):=by
 funext b;unfold uni;cases σ b <;> simp
theorem Wo7 {σ τ:WU3} {b:Nat}:uni σ τ b=none↔σ b=none/\τ b=none:=by unfold uni;cases σ b <;> simp
theorem Wt1 (P Q:Hp):P*Q=Q*P:=by
 have key:∀(P Q:Hp) ρ,(P*Q) ρ->(Q*P) ρ:=λP Q ρ ⟨σ,τ,d,e,p,q⟩=>⟨τ,σ,YH5 d,e.trans (YH6 d),q,p⟩
 funext ρ
 exact propext ⟨key P Q ρ,key Q P ρ⟩
theorem Wc4 (P Q R:Hp):P*Q*R=P*(Q*R):=by
 funext ρ
 refine propext ⟨?_,?_⟩
 ·rintro ⟨_,ξ,d,rfl,⟨σ,τ,d2,rfl,p,q⟩,r⟩
  refine ⟨σ,uni τ ξ,λb=>?_,WX3 _ _ _,p,τ,ξ,λb=>?_,rfl,q,r⟩
  ·rcases d b with e | e
   ·exact .inl (Wo7.1 e).1
   ·rcases d2 b with e2 | e2
    ·exact .inl e2
    ·exact .inr (Wo7.2 ⟨e2,e⟩)
  ·rcases d b with e | e
   ·exact .inl (Wo7.1 e).2
   ·exact .inr e
 ·rintro ⟨σ,_,d,rfl,p,τ,ξ,d2,rfl,q,r⟩
  refine ⟨uni σ τ,ξ,λb=>?_,(WX3 _ _ _).symm,⟨σ,τ,λb=>?_,rfl,p,q⟩,r⟩
  ·rcases d b with e | e
   ·rcases d2 b with e2 | e2
    ·exact .inl (Wo7.2 ⟨e,e2⟩)
    ·exact .inr e2
   ·exact .inr (Wo7.1 e).2
  ·exact (d b).imp id λe=>(Wo7.1 e).1
instance:Std.Associative (α:=Hp) (· * ·):=⟨Wc4⟩
instance:Std.Commutative (α:=Hp) (· * ·):=⟨Wt1⟩
theorem Sat.ac {h:Wa1} {P Q:Hp} (H:Sat h P) (e:P=Q):Sat h Q:=e ▸ H
theorem Wb8 (P Q R:Hp):P*(Q*R)=Q*(P*R):=by rw [<- Wc4,Wt1 P Q,Wc4]
theorem YD5 (A B C R:Hp):A*(B*(C*R))=C*(A*(B*R)):=by rw [Wb8 B C,Wb8 A C]
theorem Y75 (A B C D R:Hp):A*(B*(C*(D*R)))=D*(A*(B*(C*R))):=by rw [Wb8 C D,Wb8 B D,Wb8 A D]
theorem Wi4 (P:Hp):emp*P=P:=by
 funext ρ
 refine propext ⟨?_,λp=>⟨λ_=>none,ρ,λb=>.inl rfl,by funext b;simp [uni],rfl,p⟩⟩
 rintro ⟨_,τ,d,rfl,rfl,p⟩
 have:uni (λ_=>none) τ=τ:=by funext b;simp [uni]
 rw [this];exact p
theorem YS6 {α:Type} (P:α->Hp) (R:Hp):ex P*R=ex λa=>P a*R:=by
 funext ρ
 refine propext ⟨?_,?_⟩
 ·rintro ⟨σ,τ,d,e,⟨a,p⟩,r⟩;exact ⟨a,σ,τ,d,e,p,r⟩
 ·rintro ⟨a,σ,τ,d,e,p,r⟩;exact ⟨σ,τ,d,e,⟨a,p⟩,r⟩
theorem YS7 (p:Prop) (P R:Hp):pr p P*R=pr p (P*R):=by
 funext ρ
 refine propext ⟨?_,?_⟩
 ·rintro ⟨σ,τ,d,e,⟨a,p⟩,r⟩;exact ⟨a,σ,τ,d,e,p,r⟩
 ·rintro ⟨a,σ,τ,d,e,p,r⟩;exact ⟨σ,τ,d,e,⟨a,p⟩,r⟩
theorem Sat.ex {h:Wa1} {α:Type} {P:α->Hp} {R:Hp}:Sat h (Proofs.YtahpbclnkofhfaaGreat.ex P*R)↔∃a,Sat h (P a*R):=by
 rw [YS6]
 exact ⟨λ⟨σ,s,a,p⟩=>⟨a,σ,s,p⟩,λ⟨a,σ,s,p⟩=>⟨σ,s,a,p⟩⟩
theorem Sat.pr {h:Wa1} {p:Prop} {P R:Hp}:Sat h (Proofs.YtahpbclnkofhfaaGreat.pr p P*R)↔p/\Sat h (P*R):=by
 rw [YS7]
 exact ⟨λ⟨σ,s,a,p⟩=>⟨a,σ,s,p⟩,λ⟨a,σ,s,p⟩=>⟨σ,s,a,p⟩⟩
theorem Sub.left {σ τ:WU3} {h:Wa1} (s:Sub (uni σ τ) h):Sub σ h:=λb o e=>s b o (by unfold uni;rw [e];rfl)
theorem Sub.right {σ τ:WU3} {h:Wa1} (d:dis σ τ) (s:Sub (uni σ τ) h):Sub τ h:=λb o e=>s b o (by
 unfold uni
 rcases d b with x | x
 ·rw [x];simpa using e
 ·rw [x] at e;cases e)
theorem Sub.uni {σ τ:WU3} {h:Wa1} (s:Sub σ h) (t:Sub τ h):Sub (Proofs.YtahpbclnkofhfaaGreat.uni σ τ) h:=λb o e=>by
 unfold Proofs.YtahpbclnkofhfaaGreat.uni at e
 cases e2:σ b with
 | none=>rw [e2] at e;exact t b o (by simpa using e)
 | some o2=>rw [e2] at e;exact s b o (by rw [e2];simpa using e)
theorem Sub.lt {σ:WU3} {h:Wa1} (s:Sub σ h) {b:Nat} (e:σ b≠none):b < h.size:=by
 cases e2:σ b with
 | none=>exact absurd e2 e
 | some o=>exact (Array.getElem?_eq_some_iff.1 (s.at b o e2)).1
theorem Sat.drop {h:Wa1} {P R:Hp} (H:Sat h (P*R)):Sat h R:=by
 obtain ⟨_,s,σ,τ,d,rfl,p,r⟩:=H
 exact ⟨τ,s.right d,r⟩
theorem Sat.mono {h:Wa1} {P Q R:Hp} (H:Sat h (P*R)) (f:∀σ,P σ->Q σ):Sat h (Q*R):=by
 obtain ⟨_,s,σ,τ,d,rfl,p,r⟩:=H
 exact ⟨_,s,σ,τ,d,rfl,f σ p,r⟩
theorem Sat.mono2 {h:Wa1} {P Q R:Hp} (H:Sat h (P*R)) (f:∀σ,R σ->Q σ):Sat h (P*Q):=by
 obtain ⟨_,s,σ,τ,d,rfl,p,r⟩:=H
 exact ⟨_,s,σ,τ,d,rfl,p,f τ r⟩
theorem Sat.drop2 {h:Wa1} {P Q R:Hp} (H:Sat h (P*(Q*R))):Sat h (P*R):=by
 rw [Wb8] at H;exact H.drop
theorem Sat.lt {h:Wa1} {b:Nat} {o:Obj} {R:Hp} (H:Sat h (pt b o*R)):b < h.size:=by
 obtain ⟨_,s,σ,τ,d,rfl,p,r⟩:=H
 exact s.left.lt (by rw [p b];simp)
theorem Sat.at {h:Wa1} {b:Nat} {o:Obj} {R:Hp} (H:Sat h (pt b o*R)):h[b]? = some o:=by
 obtain ⟨_,s,σ,τ,d,rfl,p,r⟩:=H
 exact s.left.at b o (by rw [p b];simp)
theorem Sat.at2 {h:Wa1} {b:Nat} {o:Obj} {P R:Hp} (H:Sat h (P*(pt b o*R))):h[b]? = some o:=Sat.at H.drop
theorem Sat.at3 {h:Wa1} {b:Nat} {o:Obj} {P Q R:Hp} (H:Sat h (P*(Q*(pt b o*R)))):h[b]? = some o:=Sat.at H.drop.drop
theorem Sat.ld {h:Wa1} {b i:Nat} {row:List Value} {t:TypeId} {R:Hp} {v:Value} {K:Value->Prop} (H:Sat h (pt b (.cells row.toArray t)*R)) (e:row[i]? = some v) (k:K v):ldH h ⟨b,i,none⟩ K:=ldR H.at e k
theorem Sat.old {h h':Wa1} {P:Hp} (H:Sat h P) (o:Old h.size h h'):Sat h' P:=by
 obtain ⟨σ,s,p⟩:=H
 exact ⟨σ,Sub.mk (λb x e=>(o.2 b (s.lt (by rw [e];simp))).trans (s.at b x e)) s.nd,p⟩
theorem Sat.push {h:Wa1} {R:Hp} (H:Sat h R) (o:Obj) (ho:Nd o:=by intro x e;cases e):Sat (h.push o) (pt h.size o*R):=by
 obtain ⟨τ,s,r⟩:=H
 refine ⟨uni (λc=>if c=h.size then some o else none) τ,?_,_,τ,λb=>?_,rfl,λc=>rfl,r⟩
 ·refine Sub.uni (λb x e=>?_) (Sub.mk (λb x e=>(Wg8 _ _ _ (s.lt (by rw [e];simp))).trans (s.at b x e)) s.nd)
  split at e
  ·rename_i hb;subst hb;cases e;exact ⟨Wk6 _ _,ho⟩
  ·cases e
 ·by_cases hb:b=h.size
  ·subst hb
   right
   apply Decidable.byContradiction
   intro hn
   exact absurd (s.lt hn) (Nat.lt_irrefl _)
  ·left;rw [if_neg hb]
theorem Sat.wr {h h':Wa1} {b:Nat} {o o':Obj} {R:Hp} (H:Sat h (pt b o*R)) (new:h'[b]? = some o') (old:∀c,c≠b->h'[c]? = h[c]?) (ho:Nd o':=by intro x e;cases e):Sat h' (pt b o' * R):=by
 obtain ⟨_,s,σ,τ,d,rfl,p,r⟩:=H
 refine ⟨uni (λc=>if c=b then some o' else none) τ,?_,_,τ,λc=>?_,rfl,λc=>rfl,r⟩
 ·refine Sub.uni (λc x e=>?_) (Sub.mk (λc x e=>(old c λhc=>?_).trans ((s.right d).at c x e)) (s.right d).nd)
  ·split at e
   ·rename_i hb;subst hb;cases e;exact ⟨new,ho⟩
   ·cases e
  ·subst hc
   rcases d c with h1 | h1
   ·rw [p c] at h1;simp at h1
   ·rw [h1] at e;cases e
 ·by_cases hc:c=b
  ·subst hc
   rcases d c with h1 | h1
   ·rw [p c] at h1;simp at h1
   ·exact .inr h1
  ·left;rw [if_neg hc]
theorem Sat.st {h:Wa1} {b i:Nat} {row:List Value} {t:TypeId} {R:Hp} {v:Value} {K:Wa1->Prop} (H:Sat h (pt b (.cells row.toArray t)*R)) (hi:Nat.ble (i+1) row.length=true) (ho:Wh0 v True)
  (k:∀h',Sat h' (pt b (.cells (row.set i v).toArray t)*R)->K h'):stH h ⟨b,i,none⟩ v K:=
 stR H.at hi ho λh' w=>k h' (H.wr w.new w.old)
theorem Sat.opn {h:Wa1} {D:Nat->Prop} {F:Wa1->Prop} {R:Hp} (H:Sat h (lift D F*R)):F h/\(∀b,D b->b < h.size) /\
  ∀(h':Wa1) (D':Nat->Prop) (F':Wa1->Prop),Fr D h h'->(∀b,D' b->(D b\/h.size<=b)/\b < h'.size)->(∀b o,D' b->h'[b]? = some o->Nd o)->(∀h'',(∀b,D' b->h''[b]? = h'[b]?)->F' h'')->Sat h' (lift D' F' * R):=by
 obtain ⟨_,s,σ,τ,d,rfl,⟨p1,p2⟩,r⟩:=H
 refine ⟨p2 h s.left,λb hb=>s.left.lt ((p1 b).1 hb),λh' D' F' hf hD hN hF=>?_⟩
 classical
 have hsub:Sub (λb=>if D' b then h'[b]? else none) h':=λb o e=>by
  have e:(if D' b then h'[b]? else none)=some o:=e
  split at e
  ·rename_i hb;exact ⟨e,hN b o hb e⟩
  ·cases e
 refine ⟨uni (λb=>if D' b then h'[b]? else none) τ,Sub.uni hsub (Sub.mk (λb o e=>?_) (s.right d).nd),_,τ,λb=>?_,rfl,⟨λb=>?_,λh'' s''=>hF h'' λb hb=>?_⟩,r⟩
 ·have hs:=(s.right d).at b o e
  refine (hf.2 b (s.right d |>.lt (by rw [e];simp)) λhb=>?_).trans hs
  rcases d b with h1 | h1
  ·exact (p1 b).1 hb h1
  ·rw [h1] at e;cases e
 ·by_cases hb:D' b
  ·right
   rcases (hD b hb).1 with h1 | h1
   ·exact (d b).resolve_left ((p1 b).1 h1)
   ·apply Decidable.byContradiction
    intro hn
    have:=(s.right d).lt hn
    omega
  ·left;rw [if_neg hb]
 ·constructor
  ·intro hb
   show (if D' b then h'[b]? else none)≠none
   rw [if_pos hb]
   have:=(hD b hb).2
   simp [this]
  ·intro hn
   by_cases hb:D' b
   ·exact hb
   ·have hn:(if D' b then h'[b]? else none)≠none:=hn
    rw [if_neg hb] at hn;exact absurd rfl hn
 ·have hlt:=(hD b hb).2
  have e:h'[b]? = some h'[b]:=by simp [hlt]
  rw [e]
  exact s''.at b _ (by show (if D' b then h'[b]? else none)=_;rw [if_pos hb,e])
theorem Sat.see {h:Wa1} {D:Nat->Prop} {F:Wa1->Prop} {R:Hp} (H:Sat h (lift D F*R)):F h:=H.opn.1
theorem Yt7 {D:Nat->Prop} {F G:Wa1->Prop} (f:∀h,F h->G h):∀σ,lift D F σ->lift D G σ:=λσ ⟨a,b⟩=>⟨a,λh s=>f h (b h s)⟩
theorem Sat.mk_new {h h':Wa1} {D:Nat->Prop} {F:Wa1->Prop} {R:Hp} (H:Sat h R) (o:Old h.size h h') (hD:∀b,D b->h.size<=b/\b < h'.size) (hN:∀b o,D b->h'[b]? = some o->Nd o) (hF:∀h'',(∀b,D b->h''[b]? = h'[b]?)->F h''):Sat h' (lift D F*R):=by
 have H0:Sat h (lift (λ_=>False) (λ_=>True)*R):=by
  rw [<- Wi4 R] at H
  exact H.mono λσ e=>⟨λb=>⟨False.elim,λhn=>hn (by rw [e])⟩,λ_ _=>trivial⟩
 exact H0.opn.2.2 h' D F (o.fr _) (λb hb=>⟨.inr (hD b hb).1,(hD b hb).2⟩) hN hF
def Wf2 (elem:TypeId) (sz:Nat) (a:Option Addr) (l c:Nat) (xs:List Value):Hp:=lift (blk a) λh=>Own h elem sz a l c xs
theorem Own.congr {h h':Wa1} {elem:TypeId} {sz:Nat} {a:Option Addr} {l c:Nat} {xs:List Value} (H:Own h elem sz a l c xs) (e:∀b,blk a b->h'[b]? = h[b]?):Own h' elem sz a l c xs:=H.keep λad ea=>e _ ⟨ad,ea,rfl⟩
theorem Own.nd {h:Wa1} {elem:TypeId} {sz:Nat} {a:Option Addr} {l c:Nat} {xs:List Value} (H:Own h elem sz a l c xs):∀b o,blk a b->h[b]? = some o->Nd o:=by
 rintro b o ⟨ad,e,rfl⟩ hb x hx
 rcases H.2.2 with ⟨e2,_⟩ | ⟨b',row,e2,hb',_⟩
 ·rw [e] at e2;cases e2
 ·rw [e] at e2;cases e2
  rw [hb'] at hb
  cases hb
  cases hx
theorem Sat.own {h:Wa1} {elem:TypeId} {sz:Nat} {a:Option Addr} {l c:Nat} {xs:List Value} {R:Hp} (H:Sat h (Wf2 elem sz a l c xs*R)):Own h elem sz a l c xs:=H.see
theorem Sat.own_new {h:Wa1} {R:Hp} (H:Sat h R) (elem:TypeId) (sz:Nat):Sat h (Wf2 elem sz none 0 0 []*R):=
 H.mk_new (Old.refl _ _) (λb hb=>by obtain ⟨_,e,_⟩:=hb;cases e) (λb o hb=>by obtain ⟨_,e,_⟩:=hb;cases e) λh'' _=>Own.nil _ _ _
theorem Sat.app {P:Program} {t elem:TypeId} {z:Value} {h:Wa1} {a a2:Option Addr} {l c n n2:Nat} {xs ys:List Value} {K:kQ} {R:Hp}
  (hu:und P t=.slice elem) (hth:We9 P elem=true) (hz:zer P elem=some z) (hzs:z.cells.size=siz P elem)
  (H:Sat h (Wf2 elem (siz P elem) a l c xs*R)) (hs:Sees h a2 ys) (hn:ys.length=n*siz P elem) (hone:∀y ∈ ys,Wh0 y True) (hb0:0 < byt P elem) (hb:(2*(l+n)+512)*byt P elem<=2 ^ 48)
  (k:∀a' c' h',Sat h' (Wf2 elem (siz P elem) a' (l+n) c' (xs ++ ys)*R)->K (.slice a' (l+n) c') h') :
  Wp5 P #[t,t] t #[.slice a l c,.slice a2 n n2] h K:=by
 obtain ⟨ho,hlt,re⟩:=H.opn
 refine Yc3 hu hth hz hzs ho hs hn hone hb0 hb λa' c' h' o' hsz old ha=>?_
 refine k a' c' h' (re h' (blk a') _ ⟨hsz,λb hb hn=>old b hb λad ea e=>hn ⟨ad,ea,e⟩⟩ (λb hb=>?_) o'.nd λh'' e=>o'.congr e)
 refine ⟨?_,o'.lt2 hb⟩
 rcases ha with ha | ha
 ·rw [ha] at hb;exact .inl hb
 ·obtain ⟨ad,e,eb⟩:=hb
  rw [ha] at e;cases e
  exact .inr (by rw [<- eb];exact Nat.le_refl _)
theorem Sat.app2 {P:Program} {t elem:TypeId} {z:Value} {h:Wa1} {a a2:Option Addr} {l c n n2:Nat} {xs ys:List Value} {K:kQ} {R:Hp}
  (hu:und P t=.slice elem) (hth:We9 P elem=true) (hz:zer P elem=some z) (hzs:z.cells.size=siz P elem)
  (H:Sat h (Wf2 elem (siz P elem) a l c xs*R)) (hs:Sees h a2 ys) (hn:ys.length=n*siz P elem) (hone:∀y ∈ ys,Wh0 y True) (hb0:0 < byt P elem) (hb:(2*(l+n)+512)*byt P elem<=2 ^ 48)
  (k1:∀c' h',Sat h' (Wf2 elem (siz P elem) a (l+n) c' (xs ++ ys)*R)->K (.slice a (l+n) c') h')
  (k2:∀b c' h',¬ blk a b->Sat h' (Wf2 elem (siz P elem) (some (aQ b)) (l+n) c' (xs ++ ys)*(Wf2 elem (siz P elem) a l c xs*R))->K (.slice (some (aQ b)) (l+n) c') h') :
  Wp5 P #[t,t] t #[.slice a l c,.slice a2 n n2] h K:=by
 obtain ⟨ho,hlt,re⟩:=H.opn
 refine Ws9 hu hth hz hzs ho hs hn hone hb0 hb λa' c' h' o' hsz old ha=>?_
 rcases ha with ha | ⟨ha,hold⟩
 ·subst ha
  exact k1 c' h' (re h' (blk a') _ ⟨hsz,λb hb hn=>old b hb λad ea e=>hn ⟨ad,ea,e⟩⟩ (λb hb=>⟨.inl hb,o'.lt2 hb⟩) o'.nd λh'' e=>o'.congr e)
 ·subst ha
  refine k2 h.size c' h' (λhb=>absurd (hlt _ hb) (Nat.lt_irrefl _)) (H.mk_new hold (λb hb=>?_) o'.nd λh'' e=>o'.congr e)
  refine ⟨?_,o'.lt2 hb⟩
  obtain ⟨ad,e,eb⟩:=hb
  cases e
  rw [<- eb];exact Nat.le_refl _
theorem Sat.collect {h h':Wa1} {N:Nat} {o o':Obj} {R:Hp} {elem:TypeId} {sz:Nat} {a:Option Addr} {l c:Nat} {xs:List Value} (H:Sat h (pt N o*R)) (hs:h.size<=h'.size) (old:∀b,b < h.size->b≠N->h'[b]? = h[b]?) (new:h'[N]? = some o') (ow:Own h' elem sz a l c xs) (hb:∀b,blk a b->h.size<=b)
  (ho:Nd o':=by intro x e;cases e):Sat h' (Wf2 elem sz a l c xs*(pt N o' * R)):=by
 have hlt:=H.lt
 have H1:Sat (h.setIfInBounds N o') (pt N o' * R):=H.wr (Wi8 hlt) (λc hc=>Wj6 hc) ho
 have o1:Old (h.setIfInBounds N o').size (h.setIfInBounds N o') h':=⟨by simpa using hs,λb hb=>by
  by_cases e:b=N
  ·subst e;rw [new,Wi8 hlt]
  ·rw [Wj6 e];exact old b (by simpa using hb) e⟩
 exact H1.mk_new o1 (λb hb'=>⟨by simpa using hb b hb',ow.lt2 hb'⟩) ow.nd λh'' e=>ow.congr e
theorem YH7 {P:Program} {t elem:TypeId} {z:Value} {h:Wa1} {a a2:Option Addr} {l c n n2:Nat} {xs ys:List Value} {K:kQ}
  (hu:und P t=.slice elem) (hth:We9 P elem=true) (hz:zer P elem=some z) (hzs:z.cells.size=siz P elem)
  (ho:Sees h a xs) (hl:xs.length=l*siz P elem) (hlc:l<=c) (hs:Sees h a2 ys) (hn:ys.length=n*siz P elem) (hone:∀y ∈ ys,Wh0 y True) (hb0:0 < byt P elem) (hb:(2*(l+n)+512)*byt P elem<=2 ^ 48)
  (k1:l+n<=c->∀ad,a=some ad->stN h (ad.add (l*siz P elem)) 0 ys λh'=>K (.slice a (l+n) c) h')
  (k0:l+n<=c->a=none->K (.slice none (l+n) c) h)
  (k2:∀c' h',Own h' elem (siz P elem) (some (aQ h.size)) (l+n) c' (xs ++ ys)->Old h.size h h'->K (.slice (some (aQ h.size)) (l+n) c') h') :
  Wp5 P #[t,t] t #[.slice a l c,.slice a2 n n2] h K:=by
 have hu':=Wb9 hu (by simp)
 obtain ⟨info,hinfo⟩:=Wn5 hth
 have hbyt:info.bytes=byt P elem:=by unfold byt;rw [hinfo]
 have first:∀(F:Array Value->Wa1->Prop),F ys.toArray h->hp P (Builtin.firstCells (siz P elem) n (.slice a2 n n2)) F h:=by
  intro F k
  cases a2 with
  | none=>
   have:ys = []:=by
    cases ys with
    | nil=>rfl
    | cons y ys=>obtain ⟨ad,e,_⟩:=hs 0 y rfl;cases e
   subst this;exact k
  | some ad=>
   show hp P (loadCells ad (n*siz P elem)) F h
   refine We0 ad _ 0 [] F ?_
   rw [<- hn]
   refine Wr1 ys 0 [] _ (λj v hj=>?_) (by simpa using k)
   obtain ⟨ad',e,hc⟩:=hs j v hj
   cases e;rwa [Nat.zero_add]
 unfold Wp5 Builtin.append_
 simp only [List.getElem?_toArray,List.getElem?_cons_zero,List.getElem?_cons_succ,Wa5,Wb1,Wa8 hu',Wd4 hth,Bool.false_eq_true,if_false]
 show hp P (Builtin.lenOf _) _ h
 simp only [Builtin.lenOf,Wb1]
 rw [Wv5]
 split
 ·rename_i hcap
  simp only [Wa5]
  show hp P (if (!false)=true then _ else _) _ h
  refine first _ ?_
  cases a with
  | none=>
   have key:=k0 hcap rfl
   try simp only [Wa5,Wb1]
   exact key
  | some ad=>
   simp only [Wa5]
   refine Wf7 _ _ h 0 _ ?_
   try simp only [Wb1]
   exact k1 hcap ad rfl
 ·rename_i hcap
  simp only [Wa5,Wb1]
  have hbound:¬ Builtin.nextslicecap (l+n) c*info.bytes > 2 ^ 48:=by
   rw [hbyt]
   have:=Nat.le_trans (Nat.mul_le_mul_right (byt P elem) (Wu3 (l+n) c (by omega))) hb
   omega
  simp only [Wa5,Wb1,Wf3 hinfo,Wv5]
  rw [if_neg (by rw [hbyt];intro x;rcases x.2 with y | y <;> first | exact y | omega),if_neg hbound]
  show ∀tp,_
  intro tp
  rw [if_neg (by simp [Question.forced])]
  obtain ⟨cap,hcp⟩ : ∃cap,cap=(Question.appendCap (l+n) c elem).cut tp:=⟨_,rfl⟩
  have hcap2:l+n<=cap:=by rw [hcp];simp [Question.cut]
  rw [<- hcp]
  rw [show (Sem.pure cap:Sem Nat)=pure cap from rfl]
  simp only [Wa5,Wb1,Wf3 hinfo,Wn6]
  have old:∀(F:Array Value->Wa1->Prop),F xs.toArray h->hp P (Builtin.firstCells (siz P elem) l (.slice a l c)) F h:=by
   intro F k
   cases a with
   | none=>
    have:xs = []:=by
     cases xs with
     | nil=>rfl
     | cons y ys=>obtain ⟨ad,e,_⟩:=ho 0 y rfl;cases e
    subst this;exact k
   | some ad=>
    show hp P (loadCells ad (l*siz P elem)) F h
    refine We0 ad _ 0 [] F ?_
    rw [<- hl]
    refine Wr1 xs 0 [] _ (λj v hj=>?_) (by simpa using k)
    obtain ⟨ad',e,hc⟩:=ho j v hj
    cases e;rwa [Nat.zero_add]
  refine old _ ?_
  rw [Wa5,if_pos (show (!false)=true from rfl)]
  refine first _ ?_
  simp only [Wa5]
  simp only [Wf6 hz]
  show K (.slice (some (aQ h.size)) (l+n) cap) (h.push _)
  have hzc:(Builtin.zeroCells z.cells (cap - (l+n))).size=(cap - (l+n))*siz P elem:=by rw [Wj1,hzs]
  refine k2 cap _ ⟨by simp [hl,hn,Nat.add_mul],hcap2,.inr ⟨h.size,_,rfl,Wk6 _ _,?_,?_⟩⟩ ⟨by simp,λb hb'=>Wg8 _ _ _ hb'⟩
  ·simp only [Array.size_append,hzc,List.size_toArray,hl,hn,<- Nat.add_mul]
   congr 1;omega
  ·simp only [Array.toList_append,List.toList_toArray]
   rw [List.take_left' (by simp [hl,hn,Nat.add_mul])]
def OwnF (h:Wa1) (a:Option Addr) (l c:Nat) (xs:List Int):Prop:=
 xs.length=l/\l<=c/\((a=none/\c=0)\/∃b o row,a=some ⟨b,o,none⟩/\h[b]? = some (.cells row 3)/\o+c<=row.size/\(row.toList.drop o).take l=xs.map iv)
theorem OwnF.of {h:Wa1} {a:Option Addr} {l c:Nat} {xs:List Int} (H:OwnI h a l c xs):OwnF h a l c xs:=by
 obtain ⟨h1,h2,h3⟩:=H
 refine ⟨by simpa using h1,h2,h3.imp id ?_⟩
 rintro ⟨b,row,e,hb,hs,ht⟩
 exact ⟨b,0,row,e,hb,by omega,by simpa using ht⟩
theorem OwnF.congr {h h':Wa1} {a:Option Addr} {l c:Nat} {xs:List Int} (H:OwnF h a l c xs) (e:∀b,blk a b->h'[b]? = h[b]?):OwnF h' a l c xs:=by
 obtain ⟨h1,h2,h3⟩:=H
 refine ⟨h1,h2,h3.imp id ?_⟩
 rintro ⟨b,o,row,ea,hb,r⟩
 exact ⟨b,o,row,ea,(e b ⟨_,ea,rfl⟩).trans hb,r⟩
theorem OwnF.lt2 {h:Wa1} {a:Option Addr} {l c:Nat} {xs:List Int} (H:OwnF h a l c xs) {b:Nat} (hb:blk a b):b < h.size:=by
 obtain ⟨ad,e,rfl⟩:=hb
 rcases H.2.2 with ⟨e2,_⟩ | ⟨b',o,row,e2,hb',_⟩
 ·rw [e] at e2;cases e2
 ·rw [e] at e2;cases e2;exact (Array.getElem?_eq_some_iff.1 hb').1
theorem OwnF.nd {h:Wa1} {a:Option Addr} {l c:Nat} {xs:List Int} (H:OwnF h a l c xs):∀b o,blk a b->h[b]? = some o->Nd o:=by
 rintro b o ⟨ad,e,rfl⟩ hb x hx
 rcases H.2.2 with ⟨e2,_⟩ | ⟨b',o',row,e2,hb',_⟩
 ·rw [e] at e2;cases e2
 ·rw [e] at e2;cases e2
  rw [hb'] at hb
  cases hb
  cases hx
theorem OwnF.ri {h:Wa1} {a:Option Addr} {l c:Nat} {xs:List Int} (H:OwnF h a l c xs):RI h a l c xs:=by
 obtain ⟨h1,h2,h3⟩:=H
 refine ⟨λi v hi=>?_,h1,h2⟩
 have hlt:i < xs.length:=by have:=(List.getElem?_eq_some_iff.1 hi).1;simpa using this
 rcases h3 with ⟨_,hc⟩ | ⟨b,o,row,e,hb,hs,ht⟩
 ·omega
 ·refine ⟨_,e,?_⟩
  rw [Wc1,Wb4 hb,<- Array.getElem?_toList]
  rw [<- ht,List.getElem?_take] at hi
  split at hi
  ·rw [List.getElem?_drop] at hi;exact hi
  ·cases hi
theorem OwnF.tail {h:Wa1} {a:Option Addr} {l c:Nat} {x:Int} {xs:List Int} (H:OwnF h a l c (x :: xs)):OwnF h (WM9 a 1 c 1) (l - 1) (c - 1) xs/\∀b,blk (WM9 a 1 c 1) b->blk a b:=by
 obtain ⟨h1,h2,h3⟩:=H
 simp only [List.length_cons] at h1
 rcases h3 with ⟨_,hc⟩ | ⟨b,o,row,e,hb,hs,ht⟩
 ·omega
 ·subst e
  unfold WM9
  split
  ·rename_i hc
   have e0:l - 1=0:=by have:=h2;omega
   have ex:xs = []:=List.length_eq_zero_iff.1 (by omega)
   refine ⟨⟨by omega,by omega,.inr ⟨b,o,row,rfl,hb,by omega,?_⟩⟩,λb hb=>hb⟩
   rw [e0,ex];rfl
  ·refine ⟨⟨by omega,by omega,.inr ⟨b,o+1,row,by rw [Option.map_some,Wc1],hb,by omega,?_⟩⟩,?_⟩
   ·have:l=(l - 1)+1:=by omega
    rw [this] at ht
    have e2:(row.toList.drop o).drop 1=row.toList.drop (o+1):=by rw [List.drop_drop]
    have e3:=congrArg (List.drop 1) ht
    rw [List.drop_take,e2] at e3
    simpa using e3
   ·rintro b' ⟨ad,e,rfl⟩
    rw [Option.map_some,Wc1] at e
    cases e
    exact ⟨_,rfl,rfl⟩
def WG9 (a:Option Addr) (l c:Nat) (xs:List Int):Hp:=lift (blk a) λh=>OwnF h a l c xs
theorem Sat.ownf {h:Wa1} {a:Option Addr} {l c:Nat} {xs:List Int} {R:Hp} (H:Sat h (WG9 a l c xs*R)):OwnF h a l c xs:=H.see
theorem Sat.toF {h:Wa1} {a:Option Addr} {l c:Nat} {xs:List Int} {R:Hp} (H:Sat h (Wf2 3 1 a l c (xs.map iv)*R)):Sat h (WG9 a l c xs*R):=H.mono (Yt7 λ_ h=>OwnF.of h)
def NdC (o:Obj):Prop:=∀x,o≠.deferred x
theorem NdC.cells {row:Array Value} {t:TypeId}:NdC (.cells row t):=λx e=>by cases e
def NdA (P:Hp):Prop:=∀σ h,Sub σ h->P σ->∀b o,σ b=some o->NdC o
theorem NdA.star {P Q:Hp} (hP:NdA P) (hQ:NdA Q):NdA (P*Q):=by
 rintro σ h s ⟨σ1,σ2,d,rfl,p,q⟩ b o e
 have e':(σ1 b).or (σ2 b)=some o:=e
 cases h1:σ1 b with
 | some x=>rw [h1] at e';cases e';exact hP _ _ s.left p b _ h1
 | none=>rw [h1] at e';exact hQ _ _ (s.right d) q b _ e'
theorem NdA.ex {α:Type} {P:α->Hp} (h:∀a,NdA (P a)):NdA (ex P):=by
 rintro σ hh s ⟨a,p⟩
 exact h a σ hh s p
theorem NdA.pr {p:Prop} {P:Hp} (h:NdA P):NdA (pr p P):=λσ hh s q=>h σ hh s q.2
theorem NdA.pt {b:Nat} {row:Array Value} {t:TypeId}:NdA (pt b (.cells row t)):=by
 intro σ h s p c o e
 have p:=p c
 rw [e] at p
 split at p
 ·cases p;exact NdC.cells
 ·cases p
theorem NdA.lift {D:Nat->Prop} {F:Wa1->Prop} (hF:∀h,F h->∀b o,D b->h[b]? = some o->NdC o):NdA (lift D F):=by
 rintro σ h s ⟨p,q⟩ b o e
 exact hF h (q h s) b o ((p b).2 (by rw [e];simp)) (s.at b o e)
theorem NdA.own {elem:TypeId} {sz:Nat} {a:Option Addr} {l c:Nat} {xs:List Value}:NdA (Wf2 elem sz a l c xs):=by
 refine NdA.lift ?_
 rintro h H b o ⟨ad,e,rfl⟩ hb
 rcases H.2.2 with ⟨e2,_⟩ | ⟨b',row,e2,hb',_⟩
 ·rw [e] at e2;cases e2
 ·rw [e] at e2;cases e2
  rw [hb'] at hb
  cases hb
  exact NdC.cells
theorem NdA.ownf {a:Option Addr} {l c:Nat} {xs:List Int}:NdA (WG9 a l c xs):=by
 refine NdA.lift ?_
 rintro h H b o ⟨ad,e,rfl⟩ hb
 rcases H.2.2 with ⟨e2,_⟩ | ⟨b',o',row,e2,hb',_⟩
 ·rw [e] at e2;cases e2
 ·rw [e] at e2;cases e2
  rw [hb'] at hb
  cases hb
  exact NdC.cells
def Bnd (N:Nat) (P:Hp):Prop:=∀σ,P σ->∀b,σ b≠none->b < N
theorem Sat.freeze {h:Wa1} {P R:Hp} (H:Sat h (P*R)):∃R':Hp,(∀σ,R' σ->R σ)/\Bnd h.size R'/\Sat h (P*R'):=by
 obtain ⟨_,s,σ,τ,d,rfl,p,q⟩:=H
 refine ⟨λρ=>ρ=τ,λρ e=>by rw [e];exact q,λρ e b hb=>?_,⟨_,s,σ,τ,d,rfl,p,rfl⟩⟩
 rw [e] at hb
 exact (s.right d).lt hb
theorem Sat.sameD {N:Nat} {h h':Wa1} {P R:Hp} (H:Sat h (P*R)) (hP:NdA P) (hR:Bnd N R) (o:SameD N h h'):Sat h' (P*R):=by
 obtain ⟨_,s,σ,τ,d,rfl,p,q⟩:=H
 refine ⟨_,Sub.mk (λb x e=>(o.2 b ?_).trans (s.at b x e)) s.nd,σ,τ,d,rfl,p,q⟩
 cases h1:σ b with
 | some y=>
  refine .inr λz e2=>?_
  have h2:=s.left.at b y h1
  rw [e2] at h2
  cases h2
  exact hP _ _ s.left p b _ h1 z rfl
 | none=>
  refine .inl (hR _ q b λh2=>?_)
  have e':(σ b).or (τ b)=some x:=e
  rw [h1,h2] at e'
  cases e'
def Yt8 (h0:Wa1):Hp:=λσ=>∀b,σ b=h0[b]?
theorem Sat.full (h:Wa1):Sat h (Yt8 h):=⟨λb=>h[b]?,λb o e=>⟨e,λ_=>False.elim⟩,λ_=>rfl⟩
theorem Sat.fullOld {h h0:Wa1} {R:Hp} (H:Sat h (Yt8 h0*R)):Old h0.size h0 h:=by
 obtain ⟨_,s,σ,τ,d,rfl,p,q⟩:=H
 have hb:∀b,b < h0.size->h[b]? = h0[b]?:=by
  intro b hlt
  have e:σ b=some h0[b]:=by rw [p b];exact Array.getElem?_eq_getElem hlt
  rw [s.left.at b _ e,Array.getElem?_eq_getElem hlt]
 refine ⟨?_,hb⟩
 cases hn:h0.size with
 | zero=>omega
 | succ n=>
  have h1:=hb n (by omega)
  rw [Array.getElem?_eq_getElem (by omega:n < h0.size)] at h1
  have:=(Array.getElem?_eq_some_iff.1 h1).1
  omega
end
section
set_option maxRecDepth 100000
def F102 (K:kQ) (h:Wa1) (xa:Option Addr) (xb xc:Nat):Prop:=
 (Wp5 Tryz.prog #[26,26] 26 #[.slice (some (aQ h.size)) 0 0,.slice xa xb xc] (Array.push h (.cells #[] 5)) λa b=>Wb3 a λa c d=>K (.pointer (some (aQ b.size))) (Array.push b (.cells #[.slice a c d,iQ 0] 236)))
theorem call102 {K:kQ} {h:Wa1} {xa:Option Addr} {xb xc:Nat} (H:F102 K h xa xb xc):Wa4 Tryz.prog 102 #[(.slice xa xb xc)] h K:=
 cQ Tryz.func102 H
def F146 (K:kQ) (h:Wa1) (xa:Int):Prop:=
 (((0:Int)<=1)/\(((65536:Int)≠0)/\(K (iQ (IntKind.wrap .i64 (Int.tmod (Int.fdiv xa 2) 65536))) h)))
theorem call146 {K:kQ} {h:Wa1} {xa:Int} (H:F146 K h xa):Wa4 Tryz.prog 146 #[(uQ xa)] h K:=
 cQ Tryz.func146 H
def F206 (K:kQ) (h:Wa1) (xa:Int) (xb:Bool) (xc:Int):Prop:=
 (exI λI0=>(ifB (decide (xa < 0)) (I0 [.bool true,.bool true] h) (cf 277 #[uQ 65536,.slice (some (aQ h.size)) 1 1] (Array.push h (.cells #[uQ (IntKind.wrap .u64 xa)] 178)) λa b=>asBool a λa=>ifB (!a) (I0 [.bool (!a),.bool true] b) (cf 277 #[uQ 140737488355328,.slice (some (aQ b.size)) 1 1] (Array.push b (.cells #[uQ xc] 178)) λb c=>asBool b λb=>I0 [.bool (!a),.bool (!b)] c)))/\(∀(a b:Value) (c:Env) (c:Wa1),(I0 [a,b] c)->(asBool b λa=>ifB a (K (.tuple #[uQ 0,iQ 2]) c) (cf 278 #[uQ (IntKind.wrap .u64 xa),.bool xb,uQ xc] c λa b=>asInt .u64 a λa=>K (.tuple #[uQ a,iQ 0]) b))))
theorem call206 {K:kQ} {h:Wa1} {xa:Int} {xb:Bool} {xc:Int} (H:F206 K h xa xb xc):Wa4 Tryz.prog 206 #[(iQ xa),(.bool xb),(uQ xc)] h K:=
 cQ Tryz.func206 H
def F211 (K:kQ) (h:Wa1) (xa:Option Addr):Prop:=
 (ifB (Option.isNone xa) (K (iQ 0) h) (nP xa λa=>lS h a λa a b=>K (iQ (a:Int)) h))
theorem call211 {K:kQ} {h:Wa1} {xa:Option Addr} (H:F211 K h xa):Wa4 Tryz.prog 211 #[(.pointer xa)] h K:=
 cQ Tryz.func211 H
def F228 (K:kQ) (h:Wa1) (xa xb:Int) (xc:Bool):Prop:=
 (((65536:Int)≠0)/\(cf 285 #[uQ xa] h λa b=>asInt .u64 a λa=>((140737488355328:Int)≠0)/\(cf 278 #[uQ (Int.tmod (IntKind.wrap .u64 xb) 65536),.bool xc,uQ (Int.tmod (IntKind.wrap .u64 (a+1)) 140737488355328)] b λa b=>asInt .u64 a λa=>K (uQ a) b)))
theorem call228 {K:kQ} {h:Wa1} {xa xb:Int} {xc:Bool} (H:F228 K h xa xb xc):Wa4 Tryz.prog 228 #[(uQ xa),(iQ xb),(.bool xc)] h K:=
 cQ Tryz.func228 H
def F213 (K:kQ) (h:Wa1) (xa xb:Int):Prop:=
 (cf 216 #[iQ xa] h λa b=>asInt .i64 a λa=>ifB (a == 0) (K (iQ 0) b) (Wg1 (λc d=>WL6 c d) Tryz.prog 3 [iQ xb,iQ 0] λc=>((a:Int)≠0)/\(K (iQ (IntKind.wrap .i64 (a+(Int.tmod c a)))) b)))
theorem call213 {K:kQ} {h:Wa1} {xa xb:Int} (H:F213 K h xa xb):Wa4 Tryz.prog 213 #[(iQ xa),(iQ xb)] h K:=
 cQ Tryz.func213 H
def F215 (K:kQ) (h:Wa1) (xa:Option Addr) (xb:Int):Prop:=
 (ifB (decide (xb < 1)) (K (iQ 0) h) (cf 280 #[.pointer xa] h λa b=>asInt .i64 a λa=>((xb:Int)≠0)/\(K (iQ (Int.tmod a xb)) b)))
theorem call215 {K:kQ} {h:Wa1} {xa:Option Addr} {xb:Int} (H:F215 K h xa xb):Wa4 Tryz.prog 215 #[(.pointer xa),(iQ xb)] h K:=
 cQ Tryz.func215 H
def F216 (K:kQ) (h:Wa1) (xa:Int):Prop:=
 (exI λI0=>(ifB (decide (xa < 1)) (I0 [.bool true] h) (I0 [.bool (decide (xa > 20))] h))/\(∀(a:Value) (b:Env) (b:Wa1),(I0 [a] b)->(asBool a λa=>ifB a (K (iQ 0) b) (((0:Int)<=(IntKind.wrap .i64 (xa - 1)))/\(K (iQ (IntKind.wrap .i64 (1*(2 ^ (min (IntKind.wrap .i64 (xa - 1)).toNat 64))))) b)))))
theorem call216 {K:kQ} {h:Wa1} {xa:Int} (H:F216 K h xa):Wa4 Tryz.prog 216 #[(iQ xa)] h K:=
 cQ Tryz.func216 H
def F218 (K:kQ) (h:Wa1) (xa:Int):Prop:=
 (Wg1 (λa b=>WL6 a b) Tryz.prog 3 [iQ xa,iQ 1] λa=>stH (Array.push h (.cells #[iQ 0,iQ 0] 282)) (aQ h.size) (iQ 0) λb=>stH b ⟨h.size,1,none⟩ (iQ (IntKind.wrap .i64 (a - 1))) λa=>dl2 a h.size λb c=>K (.agg #[b,c]) a)
theorem call218 {K:kQ} {h:Wa1} {xa:Int} (H:F218 K h xa):Wa4 Tryz.prog 218 #[(iQ xa)] h K:=
 cQ Tryz.func218 H
abbrev g221 (K:kQ) (h H1:Wa1):Prop:=
 (lI .i64 H1 (aQ h.size) λa=>lI .i64 H1 ⟨h.size,1,none⟩ λb=>K (.bool (decide (a >= b))) H1)
def F221 (K:kQ) (h:Wa1) (xa xb:Int):Prop:=
 (g221 K h (Array.push h (.cells #[iQ xa,iQ xb] 282)))
theorem call221 {K:kQ} {h:Wa1} {xa xb:Int} (H:F221 K h xa xb):Wa4 Tryz.prog 221 #[(.agg #[(iQ xa),(iQ xb)])] h K:=
 cQ Tryz.func221 H
abbrev g223 (K:kQ) (h H1:Wa1):Prop:=
 (lI .i64 H1 (aQ h.size) λa=>ldH H1 ⟨h.size,1,none⟩ λb=>asInt .i64 b λc=>cf 283 #[iQ a] H1 λa d=>asInt .i64 a λa=>ce d h.size 1 b (cf 283 #[iQ c] d λb c=>asInt .i64 b λb=>((2:Int)≠0)/\(K (iQ (IntKind.wrap .i64 (Int.tdiv (IntKind.wrap .i64 (a+b)) 2))) c)))
def F223 (K:kQ) (h:Wa1) (xa xb:Int):Prop:=
 (g223 K h (Array.push h (.cells #[iQ xa,iQ xb] 282)))
theorem call223 {K:kQ} {h:Wa1} {xa xb:Int} (H:F223 K h xa xb):Wa4 Tryz.prog 223 #[(.agg #[(iQ xa),(iQ xb)])] h K:=
 cQ Tryz.func223 H
abbrev g224 (K:kQ) (h H1 H2:Wa1) (xa:Bool):Prop:=
 (dl2 H2 h.size λa b=>cf 221 #[.agg #[a,b]] H2 λa b=>asBool a λa=>ifB a (dl2 b h.size λa c=>dw2 b H1.size a c λa=>dl2 a H1.size λc d=>K (.agg #[c,d]) a) (ifB xa (ldH b (aQ h.size) λa=>asInt .i64 a λc=>dl2 b h.size λd e=>cf 223 #[.agg #[d,e]] b λd e=>asInt .i64 d λd=>ce e h.size 0 a (dw2 e H1.size (iQ c) (iQ d) λa=>dl2 a H1.size λc d=>K (.agg #[c,d]) a)) (dl2 b h.size λa c=>ldH b ⟨h.size,1,none⟩ λd=>asInt .i64 d λe=>cf 223 #[.agg #[a,c]] b λa b=>asInt .i64 a λa=>ce b h.size 1 d (stH b (aQ H1.size) (iQ (IntKind.wrap .i64 (a+1))) λa=>stH a ⟨H1.size,1,none⟩ (iQ e) λa=>dl2 a H1.size λb c=>K (.agg #[b,c]) a))))
def F224 (K:kQ) (h:Wa1) (xa xb:Int) (xc:Bool):Prop:=
 (g224 K h (Array.push h (.cells #[iQ xa,iQ xb] 282)) (Array.push (Array.push h (.cells #[iQ xa,iQ xb] 282)) (.cells #[iQ 0,iQ 0] 282)) xc)
theorem call224 {K:kQ} {h:Wa1} {xa xb:Int} {xc:Bool} (H:F224 K h xa xb xc):Wa4 Tryz.prog 224 #[(.agg #[(iQ xa),(iQ xb)]),(.bool xc)] h K:=
 cQ Tryz.func224 H
def F226 (K:kQ) (h:Wa1) (xa:Int):Prop:=
 (K (.bool ((IntKind.wrap .u64 ((((BitVec.ofInt 64 xa) &&& (BitVec.ofInt 64 1)).toNat:Nat):Int)) == 1)) h)
theorem call226 {K:kQ} {h:Wa1} {xa:Int} (H:F226 K h xa):Wa4 Tryz.prog 226 #[(uQ xa)] h K:=
 cQ Tryz.func226 H
def F230 (K:kQ) (h:Wa1) (xa xb:Int):Prop:=
 (cf 287 #[iQ xa] h λa b=>asBool a λa=>ifB a (cf 216 #[iQ xb] b λa c=>asInt .i64 a λa=>K (.bool (decide (xa < a))) c) (K (.bool false) b))
theorem call230 {K:kQ} {h:Wa1} {xa xb:Int} (H:F230 K h xa xb):Wa4 Tryz.prog 230 #[(iQ xa),(iQ xb)] h K:=
 cQ Tryz.func230 H
def F235 (K:kQ) (h:Wa1) (xa:Option Addr) (xb:Int):Prop:=
 (ifB (!(Option.isNone xa)) (nP xa λa=>lS h a λa b c=>Wp5 Tryz.prog #[25,25] 25 #[.slice a b c,.slice (some (aQ h.size)) 1 1] (Array.push h (.cells #[iQ xb] 3)) λa b=>Wb3 a λa c d=>nP xa λe=>stH b e (.slice a c d) λa=>K (.tuple #[]) a) (K (.tuple #[]) h))
theorem call235 {K:kQ} {h:Wa1} {xa:Option Addr} {xb:Int} (H:F235 K h xa xb):Wa4 Tryz.prog 235 #[(.pointer xa),(iQ xb)] h K:=
 cQ Tryz.func235 H
def F237 (K:kQ) (h:Wa1) (xa:Option Addr) (xb xc:Nat) (xd:Int):Prop:=
 (cf 289 #[.slice xa xb xc,iQ xd] h λa b=>asInt .i64 a λa=>K (.bool (decide (a >= 0))) b)
theorem call237 {K:kQ} {h:Wa1} {xa:Option Addr} {xb xc:Nat} {xd:Int} (H:F237 K h xa xb xc xd):Wa4 Tryz.prog 237 #[(.slice xa xb xc),(iQ xd)] h K:=
 cQ Tryz.func237 H
def F238 (K:kQ) (h:Wa1) (xa:Option Addr):Prop:=
 (ifB (Option.isNone xa) (K (.slice none 0 0) h) (nP xa λa=>lS h a λa b c=>cf 81 #[.slice a b c] h λa b=>Wb3 a λa c d=>K (.slice a c d) b))
theorem call238 {K:kQ} {h:Wa1} {xa:Option Addr} (H:F238 K h xa):Wa4 Tryz.prog 238 #[(.pointer xa)] h K:=
 cQ Tryz.func238 H
def F239 (K:kQ) (h:Wa1) (xa:Option Addr) (xb:Value):Prop:=
 (exI λI0=>(ifB (Option.isNone xa) (I0 [.bool true] h) (Wh7 xb λa=>I0 [.bool a] h))/\(∀(a:Value) (b:Env) (b:Wa1),(I0 [a] b)->(asBool a λa=>ifB a (∀a:Wa1,(SameD h.size b a)->(K (iQ 0) a)) (nP xa λa=>lS (Array.push b (.cells #[.slice none 0 0] 25)) a λa c d=>cf 291 #[.slice a c d] (Array.push b (.cells #[.slice none 0 0] 25)) λa c=>cf 290 #[a,xb] c λa c=>WF2 Tryz.prog a 1 c (λI16 a c=>asInt .i64 (a.getD 0 (.tuple #[])) λa=>lS c (aQ b.size) λd e f=>Wp5 Tryz.prog #[25,25] 25 #[.slice d e f,.slice (some (aQ c.size)) 1 1] (Array.push c (.cells #[iQ a] 3)) λa c=>Wb3 a λa d e=>stH c (aQ b.size) (.slice a d e) λa=>I16 .normal a) (λa=>nP xa λc=>lS a c λc c d=>lS a (aQ b.size) λd d e=>lS a (aQ b.size) λb e f=>nP xa λg=>stH a g (.slice b e f) λa=>(∀b:Wa1,(SameD h.size a b)->(K (iQ (IntKind.wrap .i64 ((c:Int) - (d:Int)))) b))) []))))
theorem call239 {K:kQ} {h:Wa1} {xa:Option Addr} {xb:Value} (H:F239 K h xa xb):Wa4 Tryz.prog 239 #[(.pointer xa),xb] h K:=
 cQ Tryz.func239 H
def F277 (K:kQ) (h:Wa1) (xa:Int) (xb:Option Addr) (xc xd:Nat):Prop:=
 (exI λI0=>exM λm1=>(I0 [.bool false,.tuple #[],iQ 0] h)/\(∀(a b c:Value) (d:Env) (d:Wa1),(I0 [a,b,c] d)->(asInt .i64 c λe=>ifB (decide (e < ((xc:Nat):Int))) (asI c λe=>bd e ((xc:Nat):Int) (Wd1 (.pointer xb) λf=>lI .u64 d (Addr.add f (e.toNat*1)) λe=>ifB (decide (e >= xa)) (K (.bool false) d) (asInt .i64 c λf=>(I0 [a,uQ e,iQ (IntKind.wrap .i64 (f+1))] d)/\((m1 [a,uQ e,iQ (IntKind.wrap .i64 (f+1))] d) < (m1 [a,b,c] d))))) (K (.bool true) d))))
theorem call277 {K:kQ} {h:Wa1} {xa:Int} {xb:Option Addr} {xc xd:Nat} (H:F277 K h xa xb xc xd):Wa4 Tryz.prog 277 #[(uQ xa),(.slice xb xc xd)] h K:=
 cQ Tryz.func277 H
def F278 (K:kQ) (h:Wa1) (xa:Int) (xb:Bool) (xc:Int):Prop:=
 (((0:Int)<=17)/\(((0:Int)<=1)/\(ifB xb (K (uQ (IntKind.wrap .u64 ((((BitVec.ofInt 64 (IntKind.wrap .u64 ((((BitVec.ofInt 64 (IntKind.wrap .u64 (xc*131072))) ||| (BitVec.ofInt 64 (IntKind.wrap .u64 (xa*2)))).toNat:Nat):Int))) ||| (BitVec.ofInt 64 1)).toNat:Nat):Int))) h) (K (uQ (IntKind.wrap .u64 ((((BitVec.ofInt 64 (IntKind.wrap .u64 (xc*131072))) ||| (BitVec.ofInt 64 (IntKind.wrap .u64 (xa*2)))).toNat:Nat):Int))) h))))
theorem call278 {K:kQ} {h:Wa1} {xa:Int} {xb:Bool} {xc:Int} (H:F278 K h xa xb xc):Wa4 Tryz.prog 278 #[(uQ xa),(.bool xb),(uQ xc)] h K:=
 cQ Tryz.func278 H
def F280 (K:kQ) (h:Wa1) (xa:Option Addr):Prop:=
 (ifB (Option.isNone xa) (K (iQ 0) h) (nP xa λa=>lI .i64 h (Addr.add a 1) λa=>nP xa λb=>stH h (Addr.add b 1) (iQ (IntKind.wrap .i64 (a+1))) λa=>nP xa λb=>lI .i64 a (Addr.add b 1) λb=>nP xa λc=>lS a c λc c d=>ifB (decide (b > (c:Int))) (K (iQ 0) a) (nP xa λb=>lS a b λb c d=>nP xa λd=>lI .i64 a (Addr.add d 1) λd=>((0:Int)<=(IntKind.wrap .i64 (d - 1)))/\((((IntKind.wrap .i64 (d - 1)):Int) < (c:Int))/\(Wd1 (.pointer b) λb=>ldH a (Addr.add b ((IntKind.wrap .i64 (d - 1)).toNat*1)) λb=>asInt .u8 b λb=>K (iQ (IntKind.wrap .i64 b)) a)))))
theorem call280 {K:kQ} {h:Wa1} {xa:Option Addr} (H:F280 K h xa):Wa4 Tryz.prog 280 #[(.pointer xa)] h K:=
 cQ Tryz.func280 H
def F285 (K:kQ) (h:Wa1) (xa:Int):Prop:=
 (((0:Int)<=17)/\(K (uQ (Int.fdiv xa 131072)) h))
theorem call285 {K:kQ} {h:Wa1} {xa:Int} (H:F285 K h xa):Wa4 Tryz.prog 285 #[(uQ xa)] h K:=
 cQ Tryz.func285 H
def F282 (K:kQ) (h:Wa1) (xa xb:Int):Prop:=
 (exI λI0=>(cf 287 #[iQ xa] h λa b=>asBool a λa=>ifB (!a) (I0 [.bool true,.bool true] b) (ifB (decide (xb < 0)) (I0 [.bool (decide (xb < 0)),.bool true] b) (cf 301 #[iQ xa] b λa b=>asInt .i64 a λa=>I0 [.bool (decide (xb < 0)),.bool (decide (a < xb))] b)))/\(∀(a b:Value) (c:Env) (c:Wa1),(I0 [a,b] c)->(asBool b λa=>ifB a (K (iQ 0) c) (cf 301 #[iQ xa] c λa b=>asInt .i64 a λa=>((0:Int)<=(IntKind.wrap .i64 (a - xb)))/\(K (iQ (Int.fdiv xa (2 ^ (min (IntKind.wrap .i64 (a - xb)).toNat 64)))) b)))))
theorem call282 {K:kQ} {h:Wa1} {xa xb:Int} (H:F282 K h xa xb):Wa4 Tryz.prog 282 #[(iQ xa),(iQ xb)] h K:=
 cQ Tryz.func282 H
def F283 (K:kQ) (h:Wa1) (xa:Int):Prop:=
 (Wg1 (λa b=>WL7 a b) Tryz.prog 3 [iQ xa,iQ 1073741824] λa=>Wg1 (λb c=>WL6 b c) Tryz.prog 3 [iQ 0,iQ a] λa=>K (iQ a) h)
theorem call283 {K:kQ} {h:Wa1} {xa:Int} (H:F283 K h xa):Wa4 Tryz.prog 283 #[(iQ xa)] h K:=
 cQ Tryz.func283 H
def F287 (K:kQ) (h:Wa1) (xa:Int):Prop:=
 (ifB (decide (xa >= 1)) (K (.bool (decide (xa<=1048576))) h) (K (.bool false) h))
theorem call287 {K:kQ} {h:Wa1} {xa:Int} (H:F287 K h xa):Wa4 Tryz.prog 287 #[(iQ xa)] h K:=
 cQ Tryz.func287 H
def F289 (K:kQ) (h:Wa1) (xa:Option Addr) (xb xc:Nat) (xd:Int):Prop:=
 (exI λI0=>exM λm1=>(I0 [iQ 0,.tuple #[],iQ 0] h)/\(∀(a b c:Value) (d:Env) (d:Wa1),(I0 [a,b,c] d)->(asInt .i64 c λe=>ifB (decide (e < ((xb:Nat):Int))) (asInt .i64 c λe=>bd e ((xb:Nat):Int) (Wd1 (.pointer xa) λf=>lI .i64 d (Addr.add f (e.toNat*1)) λf=>ifB (xd == f) (K (iQ e) d) (asInt .i64 c λf=>(I0 [a,iQ e,iQ (IntKind.wrap .i64 (f+1))] d)/\((m1 [a,iQ e,iQ (IntKind.wrap .i64 (f+1))] d) < (m1 [a,b,c] d))))) (K (iQ (-1)) d))))
theorem call289 {K:kQ} {h:Wa1} {xa:Option Addr} {xb xc:Nat} {xd:Int} (H:F289 K h xa xb xc xd):Wa4 Tryz.prog 289 #[(.slice xa xb xc),(iQ xd)] h K:=
 cQ Tryz.func289 H
def F301 (K:kQ) (h:Wa1) (xa:Int):Prop:=
 (cf 287 #[iQ xa] h λa b=>asBool a λa=>ifB (!a) (K (iQ 0) b) (cf 308 #[uQ (IntKind.wrap .u64 xa)] b λa b=>asInt .i64 a λa=>K (iQ (IntKind.wrap .i64 (a - 1))) b))
theorem call301 {K:kQ} {h:Wa1} {xa:Int} (H:F301 K h xa):Wa4 Tryz.prog 301 #[(iQ xa)] h K:=
 cQ Tryz.func301 H
def F308 (K:kQ) (h:Wa1) (xa:Int):Prop:=
 (cf 310 #[uQ xa] h λa b=>asInt .i64 a λa=>K (iQ a) b)
theorem call308 {K:kQ} {h:Wa1} {xa:Int} (H:F308 K h xa):Wa4 Tryz.prog 308 #[(uQ xa)] h K:=
 cQ Tryz.func308 H
def F310 (K:kQ) (h:Wa1) (xa:Int):Prop:=
 (exI λI0=>(ifB (decide (xa >= 4294967296)) (((0:Int)<=32)/\(I0 [uQ (Int.fdiv xa 4294967296),iQ 32] h)) (I0 [uQ xa,iQ 0] h))/\(∀(a b:Value) (c:Env) (c:Wa1),(I0 [a,b] c)->(exI λI5=>(asInt .u64 a λd=>ifB (decide (d >= 65536)) (asInt .u64 a λd=>((0:Int)<=16)/\(asInt .i64 b λe=>I5 [uQ (Int.fdiv d 65536),iQ (IntKind.wrap .i64 (e+16))] c)) (I5 [a,b] c))/\(∀(a b:Value) (c:Env) (c:Wa1),(I5 [a,b] c)->(exI λI13=>(asInt .u64 a λd=>ifB (decide (d >= 256)) (asInt .u64 a λd=>((0:Int)<=8)/\(asInt .i64 b λe=>I13 [uQ (Int.fdiv d 256),iQ (IntKind.wrap .i64 (e+8))] c)) (I13 [a,b] c))/\(∀(a b:Value) (c:Env) (c:Wa1),(I13 [a,b] c)->(asInt .i64 b λb=>asInt .u64 a λa=>((0:Int)<=(IntKind.wrap .u8 a))/\((((IntKind.wrap .u8 a):Int) < 256)/\(K (iQ (IntKind.wrap .i64 (b+(IntKind.wrap .i64 (WM8 (⟨#[0,1,2,2,3,3,3,3,4,4,4,4,4,4,4,4,5,5,5,5,5,5,5,5,5,5,5,5,5,5,5,5,6,6,6,6,6,6,6,6,6,6,6,6,6,6,6,6,6,6,6,6,6,6,6,6,6,6,6,6,6,6,6,6,7,7,7,7,7,7,7,7,7,7,7,7,7,7,7,7,7,7,7,7,7,7,7,7,7,7,7,7,7,7,7,7,7,7,7,7,7,7,7,7,7,7,7,7,7,7,7,7,7,7,7,7,7,7,7,7,7,7,7,7,7,7,7,7,8,8,8,8,8,8,8,8,8,8,8,8,8,8,8,8,8,8,8,8,8,8,8,8,8,8,8,8,8,8,8,8,8,8,8,8,8,8,8,8,8,8,8,8,8,8,8,8,8,8,8,8,8,8,8,8,8,8,8,8,8,8,8,8,8,8,8,8,8,8,8,8,8,8,8,8,8,8,8,8,8,8,8,8,8,8,8,8,8,8,8,8,8,8,8,8,8,8,8,8,8,8,8,8,8,8,8,8,8,8,8,8,8,8,8,8,8,8,8,8,8,8,8,8,8,8,8,8]⟩ : ByteArray) (IntKind.wrap .u8 a).toNat))))) c)))))))))
theorem call310 {K:kQ} {h:Wa1} {xa:Int} (H:F310 K h xa):Wa4 Tryz.prog 310 #[(uQ xa)] h K:=
 cQ Tryz.func310 H
end
end Go.Proofs.YtahpbclnkofhfaaGreat
section
namespace Go.Proofs.YtahpbclnkofhfaaGreat.Mod
def Wz7 (w:Int):Int:=w / 2 % 65536
def WR4 (w:Int):Bool:=w % 2 == 1
def YS8 (w:Int):Int:=w / 131072
def b2i (b:Bool):Int:=if b then 1 else 0
def Wl2 (ptr:Int) (mark:Bool) (ver:Int):Int:=ver*131072+ptr*2+b2i mark
def WD4 (w ptr:Int) (mark:Bool):Int:=Wl2 (ptr % 65536) mark ((YS8 w+1) % 140737488355328)
def u64 (n:Int):Int:=n % 18446744073709551616
def s64 (n:Int):Int:=if n % 18446744073709551616 < 9223372036854775808 then n % 18446744073709551616 else n % 18446744073709551616 - 18446744073709551616
def u32 (n:Int):Int:=n % 4294967296
structure Cf where
 algo:Int
 threads:Int
 nodes:Int
 level:Int
 batch:Int
 probes:Int
 scan:Int
structure Pl where
 c:Cf
 slots:Int
 width:Int
 sent:Int
 hazards:Int
 links:Int
 nodes:Int
 tree:Int
 size:Int
def Wb6 (c:Cf):Pl:=
 let m:=c.algo == 0
 let slots:=if m then 2 else 2*c.level+2
 let width:=if m then 3 else 5+c.level
 let links:=8+c.threads*slots
 let nodes:=links+c.nodes
 let tree:=nodes+c.nodes*width
 ⟨c,slots,width,if m then 0 else 2,8,links,nodes,tree,tree+(if m then 2 ^ c.level.toNat else 0)⟩
def okC (c:Cf):Bool:=decide (0<=c.algo/\c.algo<=2/\1<=c.threads/\c.threads<=6/\1<=c.nodes/\c.nodes<=64/\1<=c.level/\c.level<=6/\1<=c.batch/\c.batch<=16/\1<=c.probes/\c.probes<=16/\1<=c.scan/\c.scan<=64/\(if c.algo=0 then 0 else 2) < c.nodes)
def Pl.haz (p:Pl) (t s:Int):Int:=if 0<=t/\t < p.c.threads/\0<=s/\s < p.slots then p.hazards+t*p.slots+s else -1
def Pl.link (p:Pl) (n:Int):Int:=if 1<=n/\n<=p.c.nodes then p.links+n - 1 else -1
def Pl.node (p:Pl) (n f:Int):Int:=if 1<=n/\n<=p.c.nodes/\0<=f/\f < p.width then p.nodes+(n - 1)*p.width+f else -1
def Pl.at (p:Pl) (pos:Int):Int:=if 0<=pos/\pos < p.size - p.tree then p.tree+pos else -1
def Pl.within (p:Pl) (a:Int):Option Int:=if p.nodes<=a/\a < p.tree then some ((a - p.nodes) / p.width+1) else none
structure Frm where
 fn:Int
 pc:Int
 r:List Int
structure Thr where
 fr:List Frm
 ret:List Int
 pred:List Int
 succ:List Int
 word:List Int
 retired:List Int
 found:List Int
structure Gh where
 tags:List Int
 kind:Int
 node:Int
structure Acc where
 kind:Int
 a:Int
 b:Int
 done:Bool
structure Mm where
 w:List Int
 st:Int
 wt:Bool
 lg:List Acc
structure Mac where
 p:Pl
 mm:Mm
 g:Option Gh
 b:List Int
 used:Int
 th:List Thr
 acted:Bool
 bad:Bool
def Gh.fault (g:Gh) (k i:Int):Gh:=if g.kind=0/\g.node=0 then { g with kind:=k,node:=i } else g
def Gh.turn (g:Gh) (i from_ to_ k:Int):Gh:=
 if i < 1\/g.tags.length < i then g.fault 5 i else if g.tags.getD (i - 1).toNat 0≠from_ then g.fault k i else { g with tags:=g.tags.set (i - 1).toNat to_ }
def Gh.touch (g:Gh) (i:Int):Gh:=if i < 1\/g.tags.length < i then g.fault 5 i else if g.tags.getD (i - 1).toNat 0=0 then g.fault 4 i else g
def YH8 (nodes live:Int):Gh:=⟨(List.range nodes.toNat).map λ(i:Nat)=>if (i:Int) < live then 1 else 0,0,0⟩
def Mac.gh (m:Mac) (f:Gh->Gh):Mac:={ m with g:=m.g.map f }
def Mm.ok (m:Mm) (a:Int):Bool:=decide (0<=a/\a < m.w.length)
def Mm.get (m:Mm) (a:Int):Int:=m.w.getD a.toNat 0
def Mm.put (m:Mm) (a v:Int):Mm:={ m with w:=m.w.set a.toNat v }
def Mm.tick (m:Mm) (k a b:Int) (d:Bool):Mm:={ m with st:=m.st+1,lg:=if m.wt then m.lg ++ [⟨k,a,b,d⟩] else m.lg }
def Mm.store (m:Mm) (a v:Int):Mm:=if m.ok a then (m.tick 1 a (-1) true).put a v else m
def Mm.cas (m:Mm) (a o n:Int):Mm:=if m.get a=o then (m.put a n).tick 2 a (-1) true else m.tick 2 a (-1) false
def Mm.dcas (m:Mm) (a o n b p q:Int):Mm:=if m.get a=o/\m.get b=p then ((m.put a n).put b q).tick 4 a b true else m.tick 4 a b false
def Mm.dcss (m:Mm) (a o n b p:Int):Mm:=if m.get a=o/\m.get b=p then (m.put a n).tick 5 a b true else m.tick 5 a b false
def Mac.setM (m:Mac) (x:Mm):Mac:={ m with mm:=x }
def Mac.fail (m:Mac):Mac:={ m with bad:=true }
def Mac.touch (m:Mac) (a:Int):Mac:=match m.p.within a with
 | some n=>{ m with acted:=true,g:=m.g.map λg=>g.touch n }
 | none=>{ m with acted:=true }
def Mac.load (m:Mac) (a:Int):Int × Mac:=let m:=m.touch a;if m.mm.ok a then (m.mm.get a,m.setM (m.mm.tick 0 a (-1) false)) else (0,m.fail)
def Mac.store (m:Mac) (a v:Int):Mac:=let m:=m.touch a;if m.mm.ok a then m.setM ((m.mm.tick 1 a (-1) true).put a v) else m.fail
def Mac.cas (m:Mac) (a o n:Int):Bool × Mac:=let m:=m.touch a;if m.mm.ok a then (decide (m.mm.get a=o),m.setM (m.mm.cas a o n)) else (false,m.fail)
def Mac.add (m:Mac) (a d:Int):Int × Mac:=let m:=m.touch a;if m.mm.ok a then (m.mm.get a,m.setM ((m.mm.tick 3 a (-1) true).put a (u64 (m.mm.get a+d)))) else (0,m.fail)
def Mac.dcas (m:Mac) (a o n b p q:Int):Bool × Mac:=
 let m:=(m.touch a).touch b
 if m.mm.ok a=true/\m.mm.ok b=true/\a≠b then (decide (m.mm.get a=o/\m.mm.get b=p),m.setM (m.mm.dcas a o n b p q)) else (false,m.fail)
def Mac.dcss (m:Mac) (a o n b p:Int):Bool × Mac:=
 let m:=(m.touch a).touch b
 if m.mm.ok a=true/\m.mm.ok b=true then (decide (m.mm.get a=o/\m.mm.get b=p),m.setM (m.mm.dcss a o n b p)) else (false,m.fail)
def Mac.fault (m:Mac):Bool:=m.bad || match m.g with | some g=>decide (g.kind≠0\/g.node≠0) | none=>false
def Mac.take (m:Mac):Int × Mac:=(if m.used+1 > m.b.length then 0 else m.b.getD m.used.toNat 0,{ m with used:=m.used+1 })
def Mac.next (m:Mac) (n:Int):Int × Mac:=if n < 1 then (0,m) else let (c,m):=m.take;(c % n,m)
def lev (c:Int):Nat->Nat->Int
 | 0,i=>i
 | k+1,i=>if c / 2 ^ i % 2=0 then i+1 else lev c k (i+1)
def Mac.lvl (m:Mac) (most:Int):Int × Mac:=if most < 1 then (1,m) else let (c,m):=m.take;(lev c most.toNat 0,m)
def lay (p:Pl):Mm:=
 let c:=p.c
 let m0:Mm:=⟨List.replicate p.size.toNat 0,0,false,[]⟩
 let first:=p.sent+1
 let m1:=m0.store 0 (Wl2 first false 0)
 let m2:=(List.range (c.nodes - first).toNat).foldl (λ(m:Mm) (i:Nat)=>m.store (p.link (first+i)) (first+i+1)) m1
 let m3:=m2.store 2 1
 if c.algo=0 then m3 else
  let m4:=m3.store (p.node 1 3) c.level
  let m5:=m4.store (p.node 2 0) 18446744073709551615
  (List.range c.level.toNat).foldl (λ(m:Mm) (i:Nat)=>m.store (p.node 1 (5+i)) (Wl2 2 false 0)) m5
def Wu6 (c:Cf):Thr:=⟨[],[0,0,0],List.replicate c.level.toNat 0,List.replicate c.level.toNat 0,List.replicate c.level.toNat 0,[],[]⟩
def Wg7 (c:Cf) (b:List Int) (gh:Bool):Mac:=
 let p:=Wb6 c
 ⟨p,lay p,if gh then some (YH8 c.nodes p.sent) else none,b,0,List.replicate c.threads.toNat (Wu6 c),false,false⟩
structure Run where
 m:Mac
 t:Thr
 id:Int
def pad (n:Nat) (l:List Int):List Int:=(l ++ List.replicate n 0).take n
def Thr.push (t:Thr) (fn:Int) (r:List Int):Thr:={ t with fr:=t.fr ++ [⟨fn,0,pad 10 r⟩] }
def Thr.pop (t:Thr) (r:List Int):Thr:=if t.fr = [] then t else { t with fr:=t.fr.dropLast,ret:=pad 3 r }
def dfF:Frm:=⟨0,0,[]⟩
def Thr.top (t:Thr):Frm:=t.fr.getLast?.getD dfF
def Thr.setTop (t:Thr) (f:Frm):Thr:={ t with fr:=t.fr.dropLast ++ [f] }
def Frm.g (f:Frm) (i:Nat):Int:=f.r.getD i 0
def Frm.s (f:Frm) (i:Nat) (v:Int):Frm:={ f with r:=f.r.set i v }
def Frm.at (f:Frm) (pc:Int):Frm:={ f with pc:=pc }
def Run.f (x:Run):Frm:=x.t.top
def Run.setF (x:Run) (f:Frm):Run:={ x with t:=x.t.setTop f }
def Run.pc (x:Run) (pc:Int):Run:=x.setF (x.f.at pc)
def Run.s (x:Run) (i:Nat) (v:Int):Run:=x.setF (x.f.s i v)
def Run.push (x:Run) (fn:Int) (r:List Int):Run:={ x with t:=x.t.push fn r }
def Run.pop (x:Run) (r:List Int):Run:={ x with t:=x.t.pop r }
def Run.call (x:Run) (pc fn:Int) (r:List Int):Run:=(x.pc pc).push fn r
def Run.fo (x:Run) (l:List Int):Run:={ x with t:={ x.t with found:=l } }
def Run.re (x:Run) (l:List Int):Run:={ x with t:={ x.t with retired:=l } }
def Run.setPl (x:Run) (p s w:List Int):Run:={ x with t:={ x.t with pred:=p,succ:=s,word:=w } }
def Run.load (x:Run) (a:Int):Int × Run:=let (v,m):=x.m.load a;(v,{ x with m:=m })
def Run.store (x:Run) (a v:Int):Run:={ x with m:=x.m.store a v }
def Run.cas (x:Run) (a o n:Int):Bool × Run:=let (v,m):=x.m.cas a o n;(v,{ x with m:=m })
def Run.add (x:Run) (a d:Int):Int × Run:=let (v,m):=x.m.add a d;(v,{ x with m:=m })
def Run.gh (x:Run) (f:Gh->Gh):Run:={ x with m:=x.m.gh f }
def alloc (x:Run):Run:=
 let f:=x.f
 let node:=Wz7 (f.g 0)
 if f.pc=0 then
  let (v,x):=x.load 0
  let x:=(x.s 0 v).pc 1
  if Wz7 v=0 then x.pop [0] else x
 else if f.pc=1 then
  let (v,x):=x.load (x.m.p.link node)
  (x.s 1 v).pc 2
 else
  let x:=x.pc 0
  let (ok,x):=x.cas 0 (f.g 0) (WD4 (f.g 0) (s64 (f.g 1)) false)
  if ok then (x.gh λg=>g.turn node 0 1 1).pop [node] else x
def Wo1 (x:Run):Run:=
 let f:=x.f
 let node:=s64 (f.g 0)
 if f.pc=0 then
  let (v,x):=x.load 0
  (x.s 1 v).pc 1
 else if f.pc=1 then
  (x.store (x.m.p.link node) (Wz7 (f.g 1))).pc 2
 else
  let x:=x.pc 0
  let (ok,x):=x.cas 0 (f.g 1) (WD4 (f.g 1) node false)
  if ok then (x.gh λg=>g.turn node 2 0 3).pop [u64 node] else x
def Wo2 (x:Run):Run:=if x.t.fr = [] then x else if x.f.fn=1 then alloc x else if x.f.fn=2 then Wo1 x else x.pop []
def Wo3 (x:Run):Run:=
 let f:=x.f
 let a:=s64 (f.g 1)
 if f.pc=0 then
  let (v,x):=x.load a
  let x:=(x.s 2 v).pc 1
  if Wz7 v=0 then x.pop [v] else x
 else if f.pc=1 then
  (x.store (x.m.p.haz x.id (s64 (f.g 0))) (Wz7 (f.g 2))).pc 2
 else
  let (v,x):=x.load a
  if v=f.g 2\/Wz7 v=0 then x.pop [v] else (x.s 2 v).pc 1
def Yt9 (x:Run):Run:=
 let f:=x.f
 if f.pc >= x.m.p.slots then x.pop [] else (x.store (x.m.p.haz x.id f.pc) 0).pc (f.pc+1)
def Wt2 (x:Run):Run:=
 let node:=s64 (x.f.g 0)
 let x:=x.gh λg=>g.turn node 1 2 2
 let x:=(x.re (x.t.retired ++ [node])).pop []
 if (x.t.retired.length:Int) >= x.m.p.c.scan then x.push 6 [] else x
def Wv3 (x:Run) (all:Int):Run:=
 if x.f.pc=all then ((x.re (x.t.retired.filter λn=>x.t.found.contains n)).fo (x.t.retired.filter λn=>!x.t.found.contains n)).pc (x.f.pc+1) else x
def WR5 (x:Run):Run:=match x.t.found with
 | []=>x.pop []
 | n :: rest=>(x.fo rest).push 2 [u64 n]
def scan (x:Run):Run:=
 let p:=x.m.p
 let all:=p.slots*p.c.threads
 let x:=if x.f.pc=0 then x.fo [] else x
 if x.f.pc < all then
  let (v,y):=x.load (p.haz (x.f.pc / p.slots) (x.f.pc % p.slots))
  (y.fo (y.t.found ++ [s64 v])).pc (x.f.pc+1)
 else WR5 (Wv3 x all)
def Wk7 (x:Run):Run:=
 if x.t.fr = [] then x else if x.f.fn=3 then Wo3 x else if x.f.fn=4 then Yt9 x else if x.f.fn=5 then Wt2 x else if x.f.fn=6 then scan x else Wo2 x
def bits (d:Run->Run):Nat->Run->Option Run
 | 0,x=>if x.m.acted || x.t.fr.isEmpty then some x else none
 | n+1,x=>if x.m.acted || x.t.fr.isEmpty then some x else bits d n (d x)
def Mac.step (m:Mac) (i:Int) (d:Run->Run) (n:Nat):Option (Bool × Mac):=
 if i < 0\/m.th.length<=i then some (false,m) else
  match bits d n ⟨{ m with acted:=false },m.th.getD i.toNat (Wu6 m.p.c),i⟩ with
  | none=>none
  | some x=>some (!x.t.fr.isEmpty,{ x.m with th:=x.m.th.set i.toNat x.t })
end Go.Proofs.YtahpbclnkofhfaaGreat.Mod
end
section
namespace Go.Proofs.YtahpbclnkofhfaaGreat.Mod
def YD6 (n:Int):Bool:=decide (1<=n/\n<=1048576)
def Wn0 (n:Int):Int:=if YD6 n then (Nat.log2 n.toNat:Nat) else 0
def Wf4 (d:Int):Int:=if d < 1\/d > 20 then 0 else 2 ^ (d - 1).toNat
def Yu0 (d draw:Int):Int:=let n:=Wf4 d;if n=0 then 0 else n+(max draw 0) % n
def Y76 (n l:Int):Int:=if !YD6 n || decide (l < 0) || decide (Wn0 n < l) then 0 else n / 2 ^ (Wn0 n - l).toNat
def W47 (n d:Int):Bool:=YD6 n && decide (n < Wf4 d)
structure Sp where
 lo:Int
 hi:Int
def YS9 (n:Int):Sp:=⟨0,max n 1 - 1⟩
def Sp.done (s:Sp):Bool:=decide (s.lo >= s.hi)
def Yd0 (n:Int):Int:=max 0 (min n 1073741824)
def Sp.mid (s:Sp):Int:=(Yd0 s.lo+Yd0 s.hi) / 2
def Sp.cut (s:Sp) (is:Bool):Sp:=if s.done then s else if is then ⟨s.lo,s.mid⟩ else ⟨s.mid+1,s.hi⟩
def Run.at (x:Run) (place:Int):Int:=x.m.p.at (s64 place)
def Run.nodeW (x:Run) (w field:Int):Int:=x.m.p.node (Wz7 w) field
def Run.swing (x:Run) (place w ptr:Int) (dirty:Bool):Bool × Run:=x.cas (x.at place) w (WD4 w ptr dirty)
def Run.fin (x:Run) (k key val:Int):Run:=(((x.s 7 k).s 8 key).s 9 val).call 90 4 []
def Run.ret (x:Run) (i:Nat):Int:=x.t.ret.getD i 0
def WH0 (x:Run):Run:=
 if x.f.pc=0 then x.call 1 3 [1,u64 (x.at (x.f.g 0))]
 else
  let w:=x.ret 0
  if Wz7 w=0 then x.pop [w,1099511627776]
  else let (v,x):=x.load (x.nodeW w 0);x.pop [w,v]
def WX4 (x:Run):Sp:=⟨x.f.g 6 / 256,x.f.g 6 % 256⟩
def WH1 (x:Run) (s:Sp):Run:=x.s 6 (((Nat.lor (u64 (u64 s.lo*256)).toNat (u64 s.hi).toNat:Nat)):Int)
def Yj5 (x:Run) (l:Int):Int:=u64 (Y76 (s64 (x.f.g 5)) l)
def WH2 (x:Run):Run:=
 let f:=x.f
 let v:=x.ret 0
 let n:=x.t.retired.length
 if f.pc=0 then x.call 1 1 []
 else if f.pc=1 then
  let x:=x.s 2 v
  if v≠0 then x.pc 2
  else if f.g 3=0/\n > 0 then (x.s 3 1).call 0 6 []
  else x.fin 1 0 0
 else if f.pc=2 then (x.store (x.m.p.node (s64 (f.g 2)) 0) (f.g 0)).pc 3
 else ((x.store (x.m.p.node (s64 (f.g 2)) 1) (f.g 1)).s 3 0).pc 4
def Wk8 (x:Run):Run:=
 let f:=x.f
 let p:=x.m.p
 if f.pc=4 then
  let (v,x):=x.load 2
  let x:=x.s 4 v
  let d:=s64 v
  let (n,m):=x.m.next (Wf4 d)
  (({ x with m:=m }:Run).s 5 (u64 (Yu0 d n))).pc 5
 else if f.pc=5 then x.call 6 10 [f.g 5]
 else if f.pc=6 then
  if x.ret 1 >= f.g 0 then (WH1 x (YS9 (s64 (f.g 4)))).pc 8
  else
   let x:=(x.s 3 (u64 (f.g 3+1))).pc 4
   if s64 (u64 (f.g 3+1)) >= p.c.probes then x.pc 7 else x
 else
  if s64 (f.g 4) >= p.c.level then (x.fin 1 0 0).push 5 [f.g 2]
  else let (_,x):=x.cas 2 (f.g 4) (u64 (f.g 4+1));(x.s 3 0).pc 4
def WH3 (x:Run):Run:=
 let s:=WX4 x
 if x.f.pc=8 then (if s.done then x.pc 10 else x.call 9 10 [Yj5 x s.mid])
 else (WH1 x (s.cut (decide (x.ret 1 >= x.f.g 0)))).pc 8
def WR6 (x:Run) (ok:Bool):Run:=if ok then x.fin 0 0 0 else (x.s 3 0).pc 4
def Yu1 (x:Run):Run:=
 let f:=x.f
 let place:=Yj5 x (WX4 x).lo
 let w:=f.g 3
 let v:=x.ret 0
 if f.pc=10 then x.call 11 10 [place]
 else if f.pc=11 then
  if x.ret 1 < f.g 0 then (x.s 3 0).pc 4
  else
   let x:=((x.s 3 v).store (x.m.p.node (s64 (f.g 2)) 2) (Wz7 v)).pc 13
   if place=1 then x.pc 12 else x
 else if f.pc=12 then let (ok,x):=x.swing 1 w (s64 (f.g 2)) (WR4 w);WR6 x ok
 else if f.pc=13 then x.call 14 10 [place / 2]
 else if f.pc=14 then
  if x.ret 1 > f.g 0 then WR6 x false
  else
   let (ok,m):=x.m.dcss (x.at place) w (WD4 w (s64 (f.g 2)) (WR4 w)) (x.at (place / 2)) (x.ret 0)
   WR6 { x with m:=m } ok
 else x
def WH4 (x:Run):Run:=if x.f.pc<=3 then WH2 x else if x.f.pc<=7 then Wk8 x else if x.f.pc<=9 then WH3 x else Yu1 x
def WB1 (x:Run):Run:=
 let f:=x.f
 let w:=f.g 0
 if f.pc=0 then x.call 1 3 [0,u64 (x.at 1)]
 else if f.pc=1 then
  let v:=x.ret 0
  let x:=(x.s 0 v).pc 2
  if WR4 v then x.call 0 14 [1] else if Wz7 v=0 then x.fin 3 0 0 else x
 else if f.pc=2 then let (v,x):=x.load (x.nodeW w 0);(x.s 1 v).pc 3
 else if f.pc=3 then
  let (v,x):=x.load (x.nodeW w 1)
  let x:=(x.s 2 v).pc 4
  if f.fn=13 then x.fin 2 (f.g 1) v else x
 else x
def WB2 (x:Run):Run:=
 let f:=x.f
 let w:=f.g 0
 if f.pc=4 then let (v,x):=x.load (x.nodeW w 2);(x.s 3 v).pc 5
 else if f.pc=5 then
  let x:=x.pc 0
  let (ok,x):=x.swing 1 w (s64 (f.g 3)) true
  if ok then x.call 6 14 [1] else x
 else if f.pc=6 then x.call 7 5 [u64 (Wz7 w)]
 else if f.pc=7 then x.fin 2 (f.g 1) (f.g 2)
 else WB1 x
def WD5 (x:Run):Run:=
 let w:=x.f.g 1
 let place:=x.f.g 0
 let x:=x.pc 0
 let (ok,x):=x.swing place w (Wz7 w) false
 if ok then x.pop [] else x
def WH5 (x:Run):Run:=
 let f:=x.f
 if f.pc=0 then x.call 1 10 [f.g 0]
 else if f.pc=1 then
  let v:=x.ret 0
  let x:=((x.s 1 v).s 2 (x.ret 1)).pc 2
  if WR4 v then x else x.pop []
 else if f.pc=2 then
  let (v,x):=(x.pc 3).load 2
  if W47 (s64 (f.g 0)) (s64 v) then x.pc 4 else x
 else if f.pc=3 then WD5 x
 else x
def Wm6 (x:Run) (at_:Nat) (next place:Int):Run:=
 let v:=x.ret 0
 let x:=((x.s at_ v).s (at_+1) (x.ret 1)).pc next
 if WR4 v then x.call 0 14 [place] else x
def WD6 (x:Run) (at_:Nat) (place:Int):Run:=
 let f:=x.f
 let own:=f.g 1
 let low:=f.g at_
 let x:=x.pc 0
 let (ok,m):=x.m.dcas (x.at (f.g 0)) own (WD4 own (Wz7 low) false) (x.at place) low (WD4 low (Wz7 own) true)
 let x:Run:={ x with m:=m }
 if ok then x.s 0 place else x
def WH6 (x:Run):Run:=
 let f:=x.f
 let left:=u64 (2*f.g 0)
 if f.pc=4 then x.call 5 10 [left]
 else if f.pc=5 then (if WR4 (x.ret 0) then Wm6 x 3 6 left else (Wm6 x 3 6 left).call 6 10 [u64 (left+1)])
 else if f.pc=6 then Wm6 x 5 7 (u64 (left+1))
 else if f.pc=7 then
  if f.g 4<=f.g 6/\f.g 4 < f.g 2 then WD6 x 3 left
  else if f.g 6 < f.g 4/\f.g 6 < f.g 2 then WD6 x 5 (u64 (left+1))
  else WD5 x
 else WH5 x
def Wg0 (x:Run):Run:=
 if x.t.fr = [] then x else
 let f:=x.f
 if f.pc=90/\11<=f.fn/\f.fn<=13 then x.pop [f.g 7,f.g 8,f.g 9]
 else if f.fn=10 then WH0 x
 else if f.fn=11 then WH4 x
 else if f.fn=12\/f.fn=13 then WB2 x
 else if f.fn=14 then WH6 x
 else Wk7 x
end Go.Proofs.YtahpbclnkofhfaaGreat.Mod
end
section
namespace Go.Proofs.YtahpbclnkofhfaaGreat.Mod
def Run.na (x:Run) (node field:Int):Int:=x.m.p.node (s64 node) field
def Run.swingA (x:Run) (a w to_:Int):Bool × Run:=x.cas a w (WD4 w (s64 to_) false)
def Run.drop1 (x:Run) (node:Int):Bool × Run:=let (v,x):=x.add (x.na node 2) 18446744073709551615;(v == 1,x)
end Go.Proofs.YtahpbclnkofhfaaGreat.Mod
end
section
namespace Go.Proofs.YtahpbclnkofhfaaGreat.Mod
def Run.swingM (x:Run) (a w to_:Int) (mk:Bool):Bool × Run:=x.cas a w (WD4 w (s64 to_) mk)
def Run.guard (x:Run) (slot node:Int):Run:=x.store (x.m.p.haz x.id (x.m.p.slots - 1 - slot % 2)) node
end Go.Proofs.YtahpbclnkofhfaaGreat.Mod
end
namespace Go.Proofs.YtahpbclnkofhfaaGreat
section
open Mod
def U (n:Int):Prop:=0<=n/\n < 18446744073709551616
theorem U.wrap {n:Int} (h:U n):IntKind.wrap .u64 n=n:=by
 obtain ⟨m,rfl⟩ : ∃m:Nat,n=m:=⟨n.toNat,by have:=h.1;omega⟩
 exact W40 (by have:=h.2;omega)
theorem U.bv {n:Int} (h:U n):(BitVec.ofInt 64 n).toNat=n.toNat:=by
 rw [BitVec.toNat_ofInt]
 have:=h.1;have:=h.2
 omega
theorem U.and1 {n:Int} (h:U n):IntKind.wrap .u64 ((((BitVec.ofInt 64 n) &&& (BitVec.ofInt 64 1)).toNat:Nat):Int)=n % 2:=by
 rw [BitVec.toNat_and,h.bv,show (BitVec.ofInt 64 1).toNat=1 by decide,Nat.and_one_is_mod,W40 (by omega)]
 have:=h.1
 omega
theorem YP3 {a b:Int} (k:Nat) (ha:U a) (hb:0<=b) (hk:b < ((2 ^ k:Nat):Int)) (hd:a % ((2 ^ k:Nat):Int)=0) (hs:U (a+b)):IntKind.wrap .u64 ((((BitVec.ofInt 64 a) ||| (BitVec.ofInt 64 b)).toNat:Nat):Int)=a+b:=by
 have hbU:U b:=⟨hb,by have:=hs.2;have:=ha.1;omega⟩
 rw [BitVec.toNat_or,ha.bv,hbU.bv]
 obtain ⟨m,rfl⟩ : ∃m:Nat,a=m:=⟨a.toNat,by have:=ha.1;omega⟩
 obtain ⟨n,rfl⟩ : ∃n:Nat,b=n:=⟨b.toNat,by omega⟩
 rw [Int.toNat_natCast,Int.toNat_natCast]
 have hd':m % 2 ^ k=0:=by
  have:((m % 2 ^ k:Nat):Int)=0:=by rw [Int.natCast_emod];exact hd
  omega
 obtain ⟨c,hc⟩ : ∃c,m=2 ^ k*c:=⟨m / 2 ^ k,by have:=Nat.div_add_mod m (2 ^ k);omega⟩
 have hn:n < 2 ^ k:=by omega
 rw [hc,<- Nat.two_pow_add_eq_or_of_lt hn,<- hc]
 have:=hs.2
 rw [W40 (by omega)]
 omega
theorem Wr2 {n m:Int} (h:0<=m):Int.fdiv n m=n / m:=Int.fdiv_eq_ediv_of_nonneg _ h
theorem Wy9 {n m:Int} (h:0<=n):Int.tmod n m=n % m:=Int.tmod_eq_emod_of_nonneg h
theorem Wj2 {K:kQ} {h:Wa1} {w:Int} (hw:U w) (k:K (iQ (Wz7 w)) h):Wa4 Tryz.prog 146 #[uQ w] h K:=by
 refine call146 ?_
 unfold F146
 refine ⟨by omega,by omega,?_⟩
 have:=hw.1
 rw [Wr2 (by omega),Wy9 (by omega),Wb2 (by omega) (by omega)]
 exact k
theorem Wp8 {K:kQ} {h:Wa1} {w:Int} (hw:U w) (k:K (.bool (WR4 w)) h):Wa4 Tryz.prog 226 #[uQ w] h K:=by
 refine call226 ?_
 unfold F226
 rw [hw.and1]
 exact k
theorem Yu2 {K:kQ} {h:Wa1} {w:Int} (hw:U w) (k:K (uQ (YS8 w)) h):Wa4 Tryz.prog 285 #[uQ w] h K:=by
 refine call285 ?_
 unfold F285
 rw [Wr2 (by omega)]
 exact ⟨by omega,k⟩
theorem Y04 (b:Bool):0<=b2i b/\b2i b<=1:=by cases b <;> decide
theorem Yu3 {ptr ver:Int} {mk:Bool} (hp:0<=ptr/\ptr < 65536) (hv:0<=ver/\ver < 140737488355328):U (Wl2 ptr mk ver):=by
 have:=Y04 mk
 unfold U Wl2
 omega
theorem WO5 {K:kQ} {h:Wa1} {ptr ver:Int} {mk:Bool} (hp:0<=ptr/\ptr < 65536) (hv:0<=ver/\ver < 140737488355328) (k:K (uQ (Wl2 ptr mk ver)) h):Wa4 Tryz.prog 278 #[uQ ptr,.bool mk,uQ ver] h K:=by
 refine call278 ?_
 unfold F278
 refine ⟨by omega,by omega,?_⟩
 have e1:IntKind.wrap .u64 (ver*131072)=ver*131072:=U.wrap ⟨by omega,by omega⟩
 have e2:IntKind.wrap .u64 (ptr*2)=ptr*2:=U.wrap ⟨by omega,by omega⟩
 rw [e1,e2]
 have e3:=YP3 (a:=ver*131072) (b:=ptr*2) 17 ⟨by omega,by omega⟩ (by omega) (by simp only [Nat.reducePow];omega) (by simp only [Nat.reducePow];omega) ⟨by omega,by omega⟩
 rw [e3]
 cases mk with
 | false=>
  simp only [Wc0]
  unfold Wl2 b2i at k
  simpa using k
 | true=>
  simp only [Wd5]
  have e4:=YP3 (a:=ver*131072+ptr*2) (b:=1) 1 ⟨by omega,by omega⟩ (by omega) (by decide) (by simp only [Nat.reducePow];omega) ⟨by omega,by omega⟩
  rw [e4]
  unfold Wl2 b2i at k
  simpa using k
theorem WH7 {w ptr:Int} {mk:Bool}:U (WD4 w ptr mk):=Yu3 ⟨by omega,by omega⟩ ⟨by omega,by omega⟩
theorem WX5 (n:Int):IntKind.wrap .u64 n=n % 18446744073709551616:=by
 unfold IntKind.wrap IntKind.signed IntKind.bits
 have e:(2:Int) ^ 64=18446744073709551616:=rfl
 simp only [Bool.false_and,Bool.false_eq_true,if_false,e]
theorem Yj6 (n:Int):IntKind.wrap .u32 n=n % 4294967296:=by
 unfold IntKind.wrap IntKind.signed IntKind.bits
 have e:(2:Int) ^ 32=4294967296:=rfl
 simp only [Bool.false_and,Bool.false_eq_true,if_false,e]
theorem WE5 (n:Int):IntKind.wrap .i64 n=s64 n:=by
 unfold IntKind.wrap IntKind.signed IntKind.bits s64
 have e:(2:Int) ^ 64=18446744073709551616:=rfl
 have e2:(2:Int) ^ (64 - 1)=9223372036854775808:=rfl
 simp only [Bool.true_and,decide_eq_true_eq,e,e2]
 split <;> split <;> omega
theorem Wp9 {K:kQ} {h:Wa1} {w ptr:Int} {mk:Bool} (hw:U w) (k:K (uQ (WD4 w ptr mk)) h):Wa4 Tryz.prog 228 #[uQ w,iQ ptr,.bool mk] h K:=by
 refine call228 ?_
 unfold F228 cf
 refine ⟨by omega,?_⟩
 refine Wa0 (Yu2 hw ?_)
 simp only [Wa2]
 refine ⟨by omega,?_⟩
 have hv:0<=YS8 w/\YS8 w < 140737488355328:=by have:=hw.1;have:=hw.2;unfold YS8;omega
 rw [show IntKind.wrap .u64 (YS8 w+1)=YS8 w+1 from U.wrap ⟨by omega,by omega⟩,WX5,Wy9 (by omega),Wy9 (by omega)]
 rw [show ptr % 18446744073709551616 % 65536=ptr % 65536 by omega]
 refine Wa0 (WO5 ⟨by omega,by omega⟩ ⟨by omega,by omega⟩ ?_)
 simp only [Wa2]
 exact k
def V (n:Int):Prop:=0<=n/\n < 4294967296
end
section
set_option maxRecDepth 100000
abbrev g100 (K:kQ) (h H1:Wa1):Prop:=
 (lI .i64 H1 ⟨h.size,14,none⟩ λa=>K (iQ a) H1)
def F100 (K:kQ) (h:Wa1) (xa xb xc xd xe xf xg xh xi xj xk xl xm xn xo:Int):Prop:=
 (g100 K h (Array.push h (.cells #[iQ xa,iQ xb,iQ xc,iQ xd,iQ xe,iQ xf,iQ xg,iQ xh,iQ xi,iQ xj,iQ xk,iQ xl,iQ xm,iQ xn,iQ xo] 117)))
theorem call100 {K:kQ} {h:Wa1} {xa xb xc xd xe xf xg xh xi xj xk xl xm xn xo:Int} (H:F100 K h xa xb xc xd xe xf xg xh xi xj xk xl xm xn xo):Wa4 Tryz.prog 100 #[(.agg #[(iQ xa),(iQ xb),(iQ xc),(iQ xd),(iQ xe),(iQ xf),(iQ xg),(iQ xh),(iQ xi),(iQ xj),(iQ xk),(iQ xl),(iQ xm),(iQ xn),(iQ xo)])] h K:=
 cQ Tryz.func100 H
abbrev g104 (K:kQ) (h H1:Wa1):Prop:=
 (lI .i64 H1 ⟨h.size,9,none⟩ λa=>K (iQ a) H1)
def F104 (K:kQ) (h:Wa1) (xa xb xc xd xe xf xg xh xi xj xk xl xm xn xo:Int):Prop:=
 (g104 K h (Array.push h (.cells #[iQ xa,iQ xb,iQ xc,iQ xd,iQ xe,iQ xf,iQ xg,iQ xh,iQ xi,iQ xj,iQ xk,iQ xl,iQ xm,iQ xn,iQ xo] 117)))
theorem call104 {K:kQ} {h:Wa1} {xa xb xc xd xe xf xg xh xi xj xk xl xm xn xo:Int} (H:F104 K h xa xb xc xd xe xf xg xh xi xj xk xl xm xn xo):Wa4 Tryz.prog 104 #[(.agg #[(iQ xa),(iQ xb),(iQ xc),(iQ xd),(iQ xe),(iQ xf),(iQ xg),(iQ xh),(iQ xi),(iQ xj),(iQ xk),(iQ xl),(iQ xm),(iQ xn),(iQ xo)])] h K:=
 cQ Tryz.func104 H
abbrev g139 (K:kQ) (h H1 H2:Wa1):Prop:=
 (da7 H2 (aQ h.size) λa b c d e f g=>dw7 H2 H1.size a b c d e f g λa=>dl7 a H1.size λb c d e f g i=>K (.agg #[b,c,d,e,f,g,i]) a)
def F139 (K:kQ) (h:Wa1) (xa xb xc xd xe xf xg xh xi xj xk xl xm xn xo:Int):Prop:=
 (g139 K h (Array.push h (.cells #[iQ xa,iQ xb,iQ xc,iQ xd,iQ xe,iQ xf,iQ xg,iQ xh,iQ xi,iQ xj,iQ xk,iQ xl,iQ xm,iQ xn,iQ xo] 117)) (Array.push (Array.push h (.cells #[iQ xa,iQ xb,iQ xc,iQ xd,iQ xe,iQ xf,iQ xg,iQ xh,iQ xi,iQ xj,iQ xk,iQ xl,iQ xm,iQ xn,iQ xo] 117)) (.cells YD9 23)))
theorem call139 {K:kQ} {h:Wa1} {xa xb xc xd xe xf xg xh xi xj xk xl xm xn xo:Int} (H:F139 K h xa xb xc xd xe xf xg xh xi xj xk xl xm xn xo):Wa4 Tryz.prog 139 #[(.agg #[(iQ xa),(iQ xb),(iQ xc),(iQ xd),(iQ xe),(iQ xf),(iQ xg),(iQ xh),(iQ xi),(iQ xj),(iQ xk),(iQ xl),(iQ xm),(iQ xn),(iQ xo)])] h K:=
 cQ Tryz.func139 H
abbrev g142 (K:kQ) (h H1:Wa1) (xa:Int):Prop:=
 (lI .i64 H1 (Addr.add (aQ h.size) 2) λa=>cf 138 #[.slice (some (aQ H1.size)) 1 1] (Array.push H1 (.cells #[iQ xa,iQ 1,iQ a] 229)) λa b=>asBool a λa=>ifB (!a) (K (iQ (-1)) b) (lI .i64 b ⟨h.size,11,none⟩ λa=>K (iQ (IntKind.wrap .i64 ((IntKind.wrap .i64 (a+xa)) - 1))) b))
def F142 (K:kQ) (h:Wa1) (xa xb xc xd xe xf xg xh xi xj xk xl xm xn xo xp:Int):Prop:=
 (g142 K h (Array.push h (.cells #[iQ xa,iQ xb,iQ xc,iQ xd,iQ xe,iQ xf,iQ xg,iQ xh,iQ xi,iQ xj,iQ xk,iQ xl,iQ xm,iQ xn,iQ xo] 117)) xp)
theorem call142 {K:kQ} {h:Wa1} {xa xb xc xd xe xf xg xh xi xj xk xl xm xn xo xp:Int} (H:F142 K h xa xb xc xd xe xf xg xh xi xj xk xl xm xn xo xp):Wa4 Tryz.prog 142 #[(.agg #[(iQ xa),(iQ xb),(iQ xc),(iQ xd),(iQ xe),(iQ xf),(iQ xg),(iQ xh),(iQ xi),(iQ xj),(iQ xk),(iQ xl),(iQ xm),(iQ xn),(iQ xo)]),(iQ xp)] h K:=
 cQ Tryz.func142 H
abbrev g143 (K:kQ) (h H1:Wa1) (xa xb:Int):Prop:=
 (lI .i64 H1 (Addr.add (aQ h.size) 2) λa=>lI .i64 H1 ⟨h.size,8,none⟩ λb=>cf 138 #[.slice (some (aQ H1.size)) 2 2] (Array.push H1 (.cells #[iQ xa,iQ 1,iQ a,iQ xb,iQ 0,iQ (IntKind.wrap .i64 (b - 1))] 229)) λa b=>asBool a λa=>ifB (!a) (K (iQ (-1)) b) (lI .i64 b ⟨h.size,12,none⟩ λa=>lI .i64 b ⟨h.size,8,none⟩ λc=>K (iQ (IntKind.wrap .i64 ((IntKind.wrap .i64 (a+(IntKind.wrap .i64 ((IntKind.wrap .i64 (xa - 1))*c))))+xb))) b))
def F143 (K:kQ) (h:Wa1) (xa xb xc xd xe xf xg xh xi xj xk xl xm xn xo xp xq:Int):Prop:=
 (g143 K h (Array.push h (.cells #[iQ xa,iQ xb,iQ xc,iQ xd,iQ xe,iQ xf,iQ xg,iQ xh,iQ xi,iQ xj,iQ xk,iQ xl,iQ xm,iQ xn,iQ xo] 117)) xp xq)
theorem call143 {K:kQ} {h:Wa1} {xa xb xc xd xe xf xg xh xi xj xk xl xm xn xo xp xq:Int} (H:F143 K h xa xb xc xd xe xf xg xh xi xj xk xl xm xn xo xp xq):Wa4 Tryz.prog 143 #[(.agg #[(iQ xa),(iQ xb),(iQ xc),(iQ xd),(iQ xe),(iQ xf),(iQ xg),(iQ xh),(iQ xi),(iQ xj),(iQ xk),(iQ xl),(iQ xm),(iQ xn),(iQ xo)]),(iQ xp),(iQ xq)] h K:=
 cQ Tryz.func143 H
abbrev g232 (K:kQ) (h H1:Wa1) (xa xb:Int):Prop:=
 (exI λI0=>(Wz6 H1 h.size λa b c d e f g i j k l m n o p=>WQ0 Tryz.prog 117 (.agg #[a,b,c,d,e,f,g,i,j,k,l,m,n,o,p]) (.agg Wp0) λa=>ifB a (I0 [.bool true] H1) (lI .i64 H1 (Addr.add (aQ h.size) 1) λa=>lI .i64 H1 ⟨h.size,7,none⟩ λb=>cf 138 #[.slice (some (aQ H1.size)) 2 2] (Array.push H1 (.cells #[iQ xa,iQ 0,iQ (IntKind.wrap .i64 (a - 1)),iQ xb,iQ 0,iQ (IntKind.wrap .i64 (b - 1))] 229)) λa b=>asBool a λa=>I0 [.bool (!a)] b))/\(∀(a:Value) (b:Env) (b:Wa1),(I0 [a] b)->(asBool a λa=>ifB a (K (iQ (-1)) b) (lI .i64 b ⟨h.size,10,none⟩ λa=>lI .i64 b ⟨h.size,7,none⟩ λc=>K (iQ (IntKind.wrap .i64 ((IntKind.wrap .i64 (a+(IntKind.wrap .i64 (xa*c))))+xb))) b))))
def F232 (K:kQ) (h:Wa1) (xa xb xc xd xe xf xg xh xi xj xk xl xm xn xo xp xq:Int):Prop:=
 (g232 K h (Array.push h (.cells #[iQ xa,iQ xb,iQ xc,iQ xd,iQ xe,iQ xf,iQ xg,iQ xh,iQ xi,iQ xj,iQ xk,iQ xl,iQ xm,iQ xn,iQ xo] 117)) xp xq)
theorem call232 {K:kQ} {h:Wa1} {xa xb xc xd xe xf xg xh xi xj xk xl xm xn xo xp xq:Int} (H:F232 K h xa xb xc xd xe xf xg xh xi xj xk xl xm xn xo xp xq):Wa4 Tryz.prog 232 #[(.agg #[(iQ xa),(iQ xb),(iQ xc),(iQ xd),(iQ xe),(iQ xf),(iQ xg),(iQ xh),(iQ xi),(iQ xj),(iQ xk),(iQ xl),(iQ xm),(iQ xn),(iQ xo)]),(iQ xp),(iQ xq)] h K:=
 cQ Tryz.func232 H
abbrev g233 (K:kQ) (h H1:Wa1):Prop:=
 (lI .i64 H1 ⟨h.size,7,none⟩ λa=>K (iQ a) H1)
def F233 (K:kQ) (h:Wa1) (xa xb xc xd xe xf xg xh xi xj xk xl xm xn xo:Int):Prop:=
 (g233 K h (Array.push h (.cells #[iQ xa,iQ xb,iQ xc,iQ xd,iQ xe,iQ xf,iQ xg,iQ xh,iQ xi,iQ xj,iQ xk,iQ xl,iQ xm,iQ xn,iQ xo] 117)))
theorem call233 {K:kQ} {h:Wa1} {xa xb xc xd xe xf xg xh xi xj xk xl xm xn xo:Int} (H:F233 K h xa xb xc xd xe xf xg xh xi xj xk xl xm xn xo):Wa4 Tryz.prog 233 #[(.agg #[(iQ xa),(iQ xb),(iQ xc),(iQ xd),(iQ xe),(iQ xf),(iQ xg),(iQ xh),(iQ xi),(iQ xj),(iQ xk),(iQ xl),(iQ xm),(iQ xn),(iQ xo)])] h K:=
 cQ Tryz.func233 H
abbrev g207 (K:kQ) (h H1:Wa1) (xa:Int):Prop:=
 (exI λI0=>(ifB (decide (xa < 0)) (I0 [.bool true] H1) (lI .i64 H1 ⟨h.size,14,none⟩ λa=>lI .i64 H1 ⟨h.size,13,none⟩ λb=>I0 [.bool (decide (xa >= (IntKind.wrap .i64 (a - b))))] H1))/\(∀(a:Value) (b:Env) (b:Wa1),(I0 [a] b)->(asBool a λa=>ifB a (K (iQ (-1)) b) (lI .i64 b ⟨h.size,13,none⟩ λa=>K (iQ (IntKind.wrap .i64 (a+xa))) b))))
def F207 (K:kQ) (h:Wa1) (xa xb xc xd xe xf xg xh xi xj xk xl xm xn xo xp:Int):Prop:=
 (g207 K h (Array.push h (.cells #[iQ xa,iQ xb,iQ xc,iQ xd,iQ xe,iQ xf,iQ xg,iQ xh,iQ xi,iQ xj,iQ xk,iQ xl,iQ xm,iQ xn,iQ xo] 117)) xp)
theorem call207 {K:kQ} {h:Wa1} {xa xb xc xd xe xf xg xh xi xj xk xl xm xn xo xp:Int} (H:F207 K h xa xb xc xd xe xf xg xh xi xj xk xl xm xn xo xp):Wa4 Tryz.prog 207 #[(.agg #[(iQ xa),(iQ xb),(iQ xc),(iQ xd),(iQ xe),(iQ xf),(iQ xg),(iQ xh),(iQ xi),(iQ xj),(iQ xk),(iQ xl),(iQ xm),(iQ xn),(iQ xo)]),(iQ xp)] h K:=
 cQ Tryz.func207 H
abbrev g80 (K:kQ) (h H1:Wa1) (xa:Int):Prop:=
 (exI λI0=>(ifB (decide (xa < 0)) (I0 [.bool true,.bool true] H1) (lI .i64 H1 ⟨h.size,14,none⟩ λa=>I0 [.bool (decide (xa >= a)),.bool (decide (xa >= a))] H1))/\(∀(a b:Value) (c:Env) (c:Wa1),(I0 [a,b] c)->(asBool a λa=>ifB a (K (.tuple #[iQ 5,iQ 0,iQ 0]) c) (lI .i64 c ⟨h.size,10,none⟩ λa=>ifB (decide (xa < a)) (K (.tuple #[iQ 0,iQ xa,iQ 0]) c) (lI .i64 c ⟨h.size,11,none⟩ λa=>ifB (decide (xa < a)) (lI .i64 c ⟨h.size,10,none⟩ λa=>lI .i64 c ⟨h.size,7,none⟩ λb=>((b:Int)≠0)/\(lI .i64 c ⟨h.size,10,none⟩ λd=>lI .i64 c ⟨h.size,7,none⟩ λe=>((e:Int)≠0)/\(K (.tuple #[iQ 1,iQ (IntKind.wrap .i64 (Int.tdiv (IntKind.wrap .i64 (xa - a)) b)),iQ (Int.tmod (IntKind.wrap .i64 (xa - d)) e)]) c))) (lI .i64 c ⟨h.size,12,none⟩ λa=>ifB (decide (xa < a)) (lI .i64 c ⟨h.size,11,none⟩ λa=>K (.tuple #[iQ 2,iQ (IntKind.wrap .i64 ((IntKind.wrap .i64 (xa - a))+1)),iQ 0]) c) (lI .i64 c ⟨h.size,13,none⟩ λa=>ifB (decide (xa < a)) (lI .i64 c ⟨h.size,12,none⟩ λa=>lI .i64 c ⟨h.size,8,none⟩ λb=>((b:Int)≠0)/\(lI .i64 c ⟨h.size,12,none⟩ λd=>lI .i64 c ⟨h.size,8,none⟩ λe=>((e:Int)≠0)/\(K (.tuple #[iQ 3,iQ (IntKind.wrap .i64 ((IntKind.wrap .i64 (Int.tdiv (IntKind.wrap .i64 (xa - a)) b))+1)),iQ (Int.tmod (IntKind.wrap .i64 (xa - d)) e)]) c))) (lI .i64 c ⟨h.size,13,none⟩ λa=>K (.tuple #[iQ 4,iQ (IntKind.wrap .i64 (xa - a)),iQ 0]) c))))))))
def F80 (K:kQ) (h:Wa1) (xa xb xc xd xe xf xg xh xi xj xk xl xm xn xo xp:Int):Prop:=
 (g80 K h (Array.push h (.cells #[iQ xa,iQ xb,iQ xc,iQ xd,iQ xe,iQ xf,iQ xg,iQ xh,iQ xi,iQ xj,iQ xk,iQ xl,iQ xm,iQ xn,iQ xo] 117)) xp)
theorem call80 {K:kQ} {h:Wa1} {xa xb xc xd xe xf xg xh xi xj xk xl xm xn xo xp:Int} (H:F80 K h xa xb xc xd xe xf xg xh xi xj xk xl xm xn xo xp):Wa4 Tryz.prog 80 #[(.agg #[(iQ xa),(iQ xb),(iQ xc),(iQ xd),(iQ xe),(iQ xf),(iQ xg),(iQ xh),(iQ xi),(iQ xj),(iQ xk),(iQ xl),(iQ xm),(iQ xn),(iQ xo)]),(iQ xp)] h K:=
 cQ Tryz.func80 H
end
section
open Mod
abbrev T3:=Int × Int × Int
def spc (x:T3):List Value:=[iQ x.1,iQ x.2.1,iQ x.2.2]
theorem YT0:∀x:T3,(spc x).length=3:=λ_=>rfl
theorem YT1 (x:T3):∀y ∈ spc x,Wh0 y True:=by
 intro y hy
 simp only [spc,List.mem_cons,List.not_mem_nil,or_false] at hy
 rcases hy with rfl | rfl | rfl <;> exact trivial
def inB (x:T3):Bool:=decide (x.2.1<=x.1) && decide (x.1<=x.2.2)
theorem Za8 {h:Wa1} {b:Nat} {v0 v1 v2:Value} {K:Wa1->Prop} (H:stN h (aQ b) 0 [v0,v1,v2] K):stH h (aQ b) v0 λh=>stH h ⟨b,1,none⟩ v1 λh=>stH h ⟨b,2,none⟩ v2 K:=H
theorem Ww3 {K:kQ} {h:Wa1} {a:Option Addr} {l c:Nat} {L:List T3} (H:SX spc h a l c L) (hl:l < 2 ^ 60) (k:∀h',Old h.size h h'->K (.bool (L.all inB)) h'):Wa4 Tryz.prog 138 #[.slice a l c] h K:=by
 refine call138 ?_
 unfold F138 bd lI
 have hlen:=H.len
 refine ⟨λvs h'=>∃w,∃i:Nat,vs = [w,iv i]/\i<=l/\Old h.size h h'/\(L.take i).all inB=true,λvs _=>(match vs with | [_,.int _ n]=>l - n.toNat | _=>0),⟨_,0,rfl,Nat.zero_le _,Old.refl _ _,rfl⟩,?_⟩
 rintro v2 v3 g4 h5 ⟨w,i,e,hi,o5,hall⟩
 cases e
 simp only [Wa2,Ww1]
 refine Wa7 (λhlt=>?_) (λhge=>?_)
 ·have hi':i < L.length:=by omega
  obtain ⟨ad,rfl,hc⟩:=SX.at YT0 (by omega) (H.old o5) hi'
  have htk:(L.take (i+1)).all inB=((L.take i).all inB && inB L[i]):=by rw [List.take_succ_eq_append_getElem hi',List.all_append];simp
  have hmem:L.all inB=true->inB L[i]=true:=λh=>List.all_eq_true.1 h _ (List.getElem_mem hi')
  generalize L[i]=x at *
  refine ⟨by omega,hlt,?_⟩
  simp only [Wb0,Int.toNat_natCast]
  refine Wb5 (hc 0 _ rfl) (Wb5 (hc 1 _ rfl) (Wb5 (hc 2 _ rfl) ?_))
  have p6:=We4 h5 (spc (0,0,0)).toArray 229
  rw [show h5.push (.cells #[iQ 0,iQ 0,iQ 0] 229)=h5.push (.cells (spc (0,0,0)).toArray 229) from rfl]
  generalize h5.push (.cells (spc (0,0,0)).toArray 229)=h6 at *
  refine Za8 (We3 (vs:=spc x) p6.new rfl (YT1 x) λh14 w14=>?_)
  have o14:Old h5.size h5 h14:=w14.toOld p6.toOld (Nat.le_refl _)
  have ok14:=o5.trans (o14.mono o5.1)
  refine ⟨λvs h'=>vs = [.bool (!inB x)]/\h' = h14,?_,?_⟩
  ·refine ldR w14.new rfl ?_
   simp only [Wa2]
   refine ldR w14.new rfl ?_
   simp only [Wa2]
   refine Wa7 (λq=>?_) (λq=>?_)
   ·refine ⟨?_,by trivial⟩
    unfold inB
    rw [decide_eq_false (show ¬ x.2.1<=x.1 by omega)];rfl
   ·refine ldR w14.new rfl ?_
    simp only [Wa2]
    refine ldR w14.new rfl ?_
    simp only [Wa2]
    refine ⟨?_,by trivial⟩
    unfold inB
    rw [decide_eq_true (show x.2.1<=x.1 by omega),Bool.true_and]
    congr 2
    rw [<- decide_not,decide_eq_decide];omega
  rintro v24 g25 h26 ⟨e,rfl⟩
  cases e
  simp only [Wa6]
  refine Wb7 (λhq=>?_) (λhq=>?_)
  ·have:=k h26 ok14
   have e:L.all inB=false:=by
    apply Decidable.byContradiction
    intro h
    have:=hmem (by simpa using h)
    rw [this] at hq;cases hq
   rwa [e] at this
  ·rw [Wf1 (by omega)]
   exact ⟨⟨_,i+1,rfl,by omega,ok14,by rw [htk,hall];simpa using hq⟩,by show l - ((i+1:Nat):Int).toNat < l - (i:Int).toNat;omega⟩
 ·rw [List.take_of_length_le (by omega)] at hall
  have:=k h5 o5
  rwa [hall] at this
def cfc (c:Mod.Cf):List Value:=[iQ c.algo,iQ c.threads,iQ c.nodes,iQ c.level,iQ c.batch,iQ c.probes,iQ c.scan]
abbrev plc (p:Pl):List Value:=[iQ p.c.algo,iQ p.c.threads,iQ p.c.nodes,iQ p.c.level,iQ p.c.batch,iQ p.c.probes,iQ p.c.scan,iQ p.slots,iQ p.width,iQ p.sent,iQ p.hazards,iQ p.links,iQ p.nodes,iQ p.tree,iQ p.size]
structure PlB (p:Pl):Prop where
 th:1<=p.c.threads/\p.c.threads<=6
 no:1<=p.c.nodes/\p.c.nodes<=64
 lv:1<=p.c.level/\p.c.level<=6
 sl:2<=p.slots/\p.slots<=14
 wi:3<=p.width/\p.width<=11
 se:0<=p.sent/\p.sent<=2
 hz:p.hazards=8
 li:8<=p.links/\p.links<=1000
 nd:p.links<=p.nodes/\p.nodes<=2000
 tr:p.nodes<=p.tree/\p.tree<=3000
 si:p.tree<=p.size/\p.size<=4000
abbrev iN (n:Int):Prop:=-9223372036854775808<=n/\n<=9223372036854775807
def plV (p:Pl):Value:=.agg #[iQ p.c.algo,iQ p.c.threads,iQ p.c.nodes,iQ p.c.level,iQ p.c.batch,iQ p.c.probes,iQ p.c.scan,iQ p.slots,iQ p.width,iQ p.sent,iQ p.hazards,iQ p.links,iQ p.nodes,iQ p.tree,iQ p.size]
theorem WH8 (h:Wa1) (p:Pl):h.push (.cells #[iQ p.c.algo,iQ p.c.threads,iQ p.c.nodes,iQ p.c.level,iQ p.c.batch,iQ p.c.probes,iQ p.c.scan,iQ p.slots,iQ p.width,iQ p.sent,iQ p.hazards,iQ p.links,iQ p.nodes,iQ p.tree,iQ p.size] 117)=h.push (.cells (plc p).toArray 117):=rfl
theorem Wj7 {K:kQ} {h:Wa1} {p:Pl} {n f:Int} (B:PlB p) (hn:iN n) (hf:iN f) (k:∀h',Old h.size h h'->K (iQ (p.node n f)) h'):Wa4 Tryz.prog 143 #[plV p,iQ n,iQ f] h K:=by
 refine call143 ?_
 unfold F143 g143 cf lI
 have b1:=B.no
 have b2:=B.wi
 have b3:=B.tr
 have b4:=B.nd
 have b5:=B.li
 rw [WH8]
 have p1:=We4 h (plc p).toArray 117
 generalize h.push (.cells (plc p).toArray 117)=h1 at *
 rw [Wc1]
 refine ldR p1.new rfl ?_
 simp only [Wa2]
 refine ldR p1.new rfl ?_
 simp only [Wa2]
 rw [Wb2 (n:=p.width - 1) (by omega) (by omega)]
 have p2:=We4 h1 ([((n,1,p.c.nodes):T3),(f,0,p.width - 1)].flatMap spc).toArray 229
 rw [show h1.push (.cells #[iQ n,iQ 1,iQ p.c.nodes,iQ f,iQ 0,iQ (p.width - 1)] 229)=h1.push (.cells ([((n,1,p.c.nodes):T3),(f,0,p.width - 1)].flatMap spc).toArray 229) from rfl]
 generalize h1.push (.cells ([((n,1,p.c.nodes):T3),(f,0,p.width - 1)].flatMap spc).toArray 229)=h2 at *
 have o1:=p1.toOld
 have o2:=o1.trans (p2.toOld.mono o1.1)
 have S2:SX spc h2 (some (aQ h1.size)) 2 2 [((n,1,p.c.nodes):T3),(f,0,p.width - 1)]:=⟨λj v hj=>⟨_,rfl,by rw [Wc1,Wb4 p2.new,List.getElem?_toArray,Nat.zero_add];exact hj⟩,rfl,Nat.le_refl _⟩
 refine Wa0 (Ww3 S2 (by omega) λh5 o5=>?_)
 simp only [Wa6]
 have ok5:=o2.trans (o5.mono o2.1)
 have hs1:=p1.size
 have hs2:=p2.size
 have n5:=(o5.2 _ (show h.size < h2.size by omega)).trans ((p2.old _ (show h.size < h1.size by omega)).trans p1.new)
 have kk:=k h5 ok5
 unfold Pl.node at kk
 have hin:([((n,1,p.c.nodes):T3),(f,0,p.width - 1)].all inB)=decide (1<=n/\n<=p.c.nodes/\0<=f/\f < p.width):=by
  simp only [List.all_cons,List.all_nil,inB,Bool.and_true]
  rw [<- Bool.decide_and,<- Bool.decide_and,<- Bool.decide_and,decide_eq_decide]
  omega
 rw [hin]
 by_cases hc:1<=n/\n<=p.c.nodes/\0<=f/\f < p.width
 ·rw [decide_eq_true hc]
  rw [if_pos hc] at kk
  simp only [Bool.not_true,Wc0]
  refine ldR n5 rfl ?_
  simp only [Wa2]
  refine ldR n5 rfl ?_
  simp only [Wa2]
  have hm:0<=(n - 1)*p.width/\(n - 1)*p.width<=63*11:=⟨Int.mul_nonneg (by omega) (by omega),Int.mul_le_mul (by omega) (by omega) (by omega) (by omega)⟩
  rw [Wb2 (n:=n - 1) (by omega) (by omega),Wb2 (n:=(n - 1)*p.width) (by omega) (by omega),Wb2 (n:=p.nodes+(n - 1)*p.width) (by omega) (by omega),Wb2 (by omega) (by omega)]
  exact kk
 ·rw [decide_eq_false hc]
  rw [if_neg hc] at kk
  simp only [Bool.not_false,Wd5]
  exact kk
theorem Ww4 {K:kQ} {h:Wa1} {p:Pl} {n:Int} (B:PlB p) (hn:iN n) (k:∀h',Old h.size h h'->K (iQ (p.link n)) h'):Wa4 Tryz.prog 142 #[plV p,iQ n] h K:=by
 refine call142 ?_
 unfold F142 g142 cf lI
 have b1:=B.no
 have b5:=B.li
 rw [WH8]
 have p1:=We4 h (plc p).toArray 117
 generalize h.push (.cells (plc p).toArray 117)=h1 at *
 rw [Wc1]
 refine ldR p1.new rfl ?_
 simp only [Wa2]
 have p2:=We4 h1 ([((n,1,p.c.nodes):T3)].flatMap spc).toArray 229
 rw [show h1.push (.cells #[iQ n,iQ 1,iQ p.c.nodes] 229)=h1.push (.cells ([((n,1,p.c.nodes):T3)].flatMap spc).toArray 229) from rfl]
 generalize h1.push (.cells ([((n,1,p.c.nodes):T3)].flatMap spc).toArray 229)=h2 at *
 have o1:=p1.toOld
 have o2:=o1.trans (p2.toOld.mono o1.1)
 have S2:SX spc h2 (some (aQ h1.size)) 1 1 [((n,1,p.c.nodes):T3)]:=⟨λj v hj=>⟨_,rfl,by rw [Wc1,Wb4 p2.new,List.getElem?_toArray,Nat.zero_add];exact hj⟩,rfl,Nat.le_refl _⟩
 refine Wa0 (Ww3 S2 (by omega) λh5 o5=>?_)
 simp only [Wa6]
 have ok5:=o2.trans (o5.mono o2.1)
 have hs1:=p1.size
 have hs2:=p2.size
 have n5:=(o5.2 _ (show h.size < h2.size by omega)).trans ((p2.old _ (show h.size < h1.size by omega)).trans p1.new)
 have kk:=k h5 ok5
 unfold Pl.link at kk
 have hin:([((n,1,p.c.nodes):T3)].all inB)=decide (1<=n/\n<=p.c.nodes):=by
  simp only [List.all_cons,List.all_nil,inB,Bool.and_true]
  rw [<- Bool.decide_and]
 rw [hin]
 by_cases hc:1<=n/\n<=p.c.nodes
 ·rw [decide_eq_true hc]
  rw [if_pos hc] at kk
  simp only [Bool.not_true,Wc0]
  refine ldR n5 rfl ?_
  simp only [Wa2]
  rw [Wb2 (n:=p.links+n) (by omega) (by omega),Wb2 (by omega) (by omega)]
  exact kk
 ·rw [decide_eq_false hc]
  rw [if_neg hc] at kk
  simp only [Bool.not_false,Wd5]
  exact kk
theorem W48 {K:kQ} {h:Wa1} {p:Pl} {n:Int} (B:PlB p) (hn:iN n) (k:∀h',Old h.size h h'->K (iQ (p.at n)) h'):Wa4 Tryz.prog 207 #[plV p,iQ n] h K:=by
 refine call207 ?_
 unfold F207 g207 lI
 have b3:=B.tr
 have b4:=B.nd
 have b5:=B.li
 have b6:=B.si
 rw [WH8]
 have p1:=We4 h (plc p).toArray 117
 generalize h.push (.cells (plc p).toArray 117)=h1 at *
 have kk:=k h1 p1.toOld
 unfold Pl.at at kk
 refine ⟨λvs h'=>vs = [.bool (!decide (0<=n/\n < p.size - p.tree))]/\h' = h1,?_,?_⟩
 ·refine Wa7 (λq=>⟨by rw [decide_eq_false (by omega)];rfl,by trivial⟩) (λq=>?_)
  refine ldR p1.new rfl ?_
  simp only [Wa2]
  refine ldR p1.new rfl ?_
  simp only [Wa2]
  rw [Wb2 (n:=p.size - p.tree) (by omega) (by omega)]
  refine ⟨?_,by trivial⟩
  congr 2
  rw [<- decide_not,decide_eq_decide];omega
 rintro v5 g6 h7 ⟨e,rfl⟩
 cases e
 simp only [Wa6]
 by_cases hc:0<=n/\n < p.size - p.tree
 ·rw [decide_eq_true hc]
  rw [if_pos hc] at kk
  simp only [Bool.not_true,Wc0]
  refine ldR p1.new rfl ?_
  simp only [Wa2]
  rw [Wb2 (by omega) (by omega)]
  exact kk
 ·rw [decide_eq_false hc]
  rw [if_neg hc] at kk
  simp only [Bool.not_false,Wd5]
  exact kk
theorem Wo8 {K:kQ} {h:Wa1} {p:Pl} (k:∀h',Old h.size h h'->K (iQ p.slots) h'):Wa4 Tryz.prog 233 #[plV p] h K:=by
 refine call233 ?_
 unfold F233 g233 lI
 rw [WH8]
 have p1:=We4 h (plc p).toArray 117
 generalize h.push (.cells (plc p).toArray 117)=h1 at *
 refine ldR p1.new rfl ?_
 simp only [Wa2]
 exact k _ p1.toOld
theorem WH9 {K:kQ} {h:Wa1} {p:Pl} (k:∀h',Old h.size h h'->K (iQ p.sent) h'):Wa4 Tryz.prog 104 #[plV p] h K:=by
 refine call104 ?_
 unfold F104 g104 lI
 rw [WH8]
 have p1:=We4 h (plc p).toArray 117
 generalize h.push (.cells (plc p).toArray 117)=h1 at *
 refine ldR p1.new rfl ?_
 simp only [Wa2]
 exact k _ p1.toOld
theorem W49 {K:kQ} {h:Wa1} {p:Pl} (k:∀h',Old h.size h h'->K (iQ p.size) h'):Wa4 Tryz.prog 100 #[plV p] h K:=by
 refine call100 ?_
 unfold F100 g100 lI
 rw [WH8]
 have p1:=We4 h (plc p).toArray 117
 generalize h.push (.cells (plc p).toArray 117)=h1 at *
 refine ldR p1.new rfl ?_
 simp only [Wa2]
 exact k _ p1.toOld
theorem Y05 (p:Pl):eqv Tryz.prog 10000 117 (.agg (plc p).toArray) (.agg (List.replicate 15 (Value.int .i64 0)).toArray)=some (((p.c.algo == 0) && ((p.c.threads == 0) && ((p.c.nodes == 0) && ((p.c.level == 0) && ((p.c.batch == 0) && ((p.c.probes == 0) && ((p.c.scan == 0) && true))))))) && ((p.slots == 0) && ((p.width == 0) && ((p.sent == 0) && ((p.hazards == 0) && ((p.links == 0) && ((p.nodes == 0) && ((p.tree == 0) && ((p.size == 0) && true))))))))):=by kernel_rfl
theorem YH9:Tryz.prog.eqGuardType Tryz.prog.depth 117=false:=by kernel_rfl
theorem YT2 {p:Pl} {K:Bool->Prop} (B:PlB p) (k:K false):WQ0 Tryz.prog 117 (.agg #[iQ p.c.algo,iQ p.c.threads,iQ p.c.nodes,iQ p.c.level,iQ p.c.batch,iQ p.c.probes,iQ p.c.scan,iQ p.slots,iQ p.width,iQ p.sent,iQ p.hazards,iQ p.links,iQ p.nodes,iQ p.tree,iQ p.size]) (.agg Wp0) K:=by
 unfold WQ0
 rw [YH9,if_neg (by simp)]
 show (match eqv Tryz.prog 10000 117 (.agg (plc p).toArray) (.agg (List.replicate 15 (Value.int .i64 0)).toArray) with | some b=>K b | none=>False)
 rw [Y05]
 have h1:=B.th
 have e:(p.c.threads == 0)=false:=by rw [beq_eq_false_iff_ne];omega
 simp only [e,Bool.false_and,Bool.and_false]
 exact k
theorem WB3 {K:kQ} {h:Wa1} {p:Pl} {t s:Int} (B:PlB p) (ht:iN t) (hs:iN s) (k:∀h',Old h.size h h'->K (iQ (p.haz t s)) h'):Wa4 Tryz.prog 232 #[plV p,iQ t,iQ s] h K:=by
 refine call232 ?_
 unfold F232 g232 cf lI Wz6
 have b1:=B.th
 have b2:=B.sl
 have b3:=B.hz
 rw [WH8]
 have p1:=We4 h (plc p).toArray 117
 generalize h.push (.cells (plc p).toArray 117)=h1 at *
 have o1:=p1.toOld
 have hs1:=p1.size
 refine ⟨λvs h'=>vs = [.bool (!decide (0<=t/\t < p.c.threads/\0<=s/\s < p.slots))]/\Old h.size h h'/\h'[h.size]? = some (.cells (plc p).toArray 117),?_,?_⟩
 ·refine ldR p1.new rfl (ldR p1.new rfl (ldR p1.new rfl (ldR p1.new rfl (ldR p1.new rfl (ldR p1.new rfl (ldR p1.new rfl (ldR p1.new rfl (ldR p1.new rfl (ldR p1.new rfl (ldR p1.new rfl (ldR p1.new rfl (ldR p1.new rfl (ldR p1.new rfl (ldR p1.new rfl ?_))))))))))))))
  refine YT2 B ?_
  simp only [Wc0]
  rw [Wc1]
  refine ldR p1.new rfl ?_
  simp only [Wa2]
  refine ldR p1.new rfl ?_
  simp only [Wa2]
  rw [Wb2 (n:=p.c.threads - 1) (by omega) (by omega),Wb2 (n:=p.slots - 1) (by omega) (by omega)]
  have p2:=We4 h1 ([((t,0,p.c.threads - 1):T3),(s,0,p.slots - 1)].flatMap spc).toArray 229
  rw [show h1.push (.cells #[iQ t,iQ 0,iQ (p.c.threads - 1),iQ s,iQ 0,iQ (p.slots - 1)] 229)=h1.push (.cells ([((t,0,p.c.threads - 1):T3),(s,0,p.slots - 1)].flatMap spc).toArray 229) from rfl]
  generalize h1.push (.cells ([((t,0,p.c.threads - 1):T3),(s,0,p.slots - 1)].flatMap spc).toArray 229)=h2 at *
  have o2:=o1.trans (p2.toOld.mono o1.1)
  have S2:SX spc h2 (some (aQ h1.size)) 2 2 [((t,0,p.c.threads - 1):T3),(s,0,p.slots - 1)]:=⟨λj v hj=>⟨_,rfl,by rw [Wc1,Wb4 p2.new,List.getElem?_toArray,Nat.zero_add];exact hj⟩,rfl,Nat.le_refl _⟩
  have hs2:=p2.size
  refine Wa0 (Ww3 S2 (by omega) λh5 o5=>?_)
  simp only [Wa6]
  have hin:([((t,0,p.c.threads - 1):T3),(s,0,p.slots - 1)].all inB)=decide (0<=t/\t < p.c.threads/\0<=s/\s < p.slots):=by
   simp only [List.all_cons,List.all_nil,inB,Bool.and_true]
   rw [<- Bool.decide_and,<- Bool.decide_and,<- Bool.decide_and,decide_eq_decide]
   omega
  rw [hin]
  exact ⟨rfl,o2.trans (o5.mono o2.1),(o5.2 _ (show h.size < h2.size by omega)).trans ((p2.old _ (show h.size < h1.size by omega)).trans p1.new)⟩
 rintro v24 g25 h26 ⟨e,o26,n26⟩
 cases e
 simp only [Wa6]
 have kk:=k h26 o26
 unfold Pl.haz at kk
 by_cases hc:0<=t/\t < p.c.threads/\0<=s/\s < p.slots
 ·rw [decide_eq_true hc]
  rw [if_pos hc] at kk
  simp only [Bool.not_true,Wc0]
  refine ldR n26 rfl ?_
  simp only [Wa2]
  refine ldR n26 rfl ?_
  simp only [Wa2]
  have hm:0<=t*p.slots/\t*p.slots<=5*14:=⟨Int.mul_nonneg (by omega) (by omega),Int.mul_le_mul (by omega) (by omega) (by omega) (by omega)⟩
  rw [Wb2 (n:=t*p.slots) (by omega) (by omega),Wb2 (n:=p.hazards+t*p.slots) (by omega) (by omega),Wb2 (by omega) (by omega)]
  exact kk
 ·rw [decide_eq_false hc]
  rw [if_neg hc] at kk
  simp only [Bool.not_false,Wd5]
  exact kk
theorem WX6 {K:kQ} {h:Wa1} {p:Pl} {a:Int} (B:PlB p) (ha:iN a) (k1:∀n x h',p.within a=some n->Old h.size h h'->K (.tuple #[iQ 3,iQ n,iQ x]) h') (k0:∀q n x h',p.within a=none->q≠3->Old h.size h h'->K (.tuple #[iQ q,iQ n,iQ x]) h'):Wa4 Tryz.prog 80 #[plV p,iQ a] h K:=by
 refine call80 ?_
 unfold F80 g80 lI
 have b0:=B.sl
 have b1:=B.wi
 have b2:=B.hz
 have b3:=B.tr
 have b4:=B.nd
 have b5:=B.li
 have b6:=B.si
 have hwn:¬ (p.nodes<=a/\a < p.tree)->p.within a=none:=λh=>by unfold Pl.within;rw [if_neg h]
 rw [WH8]
 have p1:=We4 h (plc p).toArray 117
 generalize h.push (.cells (plc p).toArray 117)=h1 at *
 have o1:=p1.toOld
 refine ⟨λvs h'=>(∃w,vs = [.bool (decide (a < 0) || decide (a >= p.size)),w])/\h' = h1,?_,?_⟩
 ·refine Wa7 (λq=>⟨⟨_,by rw [decide_eq_true q];rfl⟩,by trivial⟩) (λq=>?_)
  refine ldR p1.new rfl ?_
  simp only [Wa2]
  exact ⟨⟨_,by rw [decide_eq_false q,Bool.false_or]⟩,by trivial⟩
 rintro v3 v4 g5 h6 ⟨⟨_,e⟩,rfl⟩
 cases e
 simp only [Wa6]
 refine Wb7 (λq=>?_) (λq=>?_)
 ·rw [Bool.or_eq_true,decide_eq_true_eq,decide_eq_true_eq] at q
  exact k0 _ _ _ _ (hwn (by omega)) (by decide) o1
 rw [Bool.or_eq_false_iff,decide_eq_false_iff_not,decide_eq_false_iff_not] at q
 refine ldR p1.new rfl ?_
 simp only [Wa2]
 refine Wa7 (λq1=>k0 _ _ _ _ (hwn (by omega)) (by decide) o1) (λq1=>?_)
 refine ldR p1.new rfl ?_
 simp only [Wa2]
 refine Wa7 (λq2=>?_) (λq2=>?_)
 ·refine ldR p1.new rfl ?_
  simp only [Wa2]
  refine ldR p1.new rfl ?_
  simp only [Wa2]
  refine ⟨by omega,ldR p1.new rfl ?_⟩
  simp only [Wa2]
  refine ldR p1.new rfl ?_
  simp only [Wa2]
  exact ⟨by omega,k0 _ _ _ _ (hwn (by omega)) (by decide) o1⟩
 refine ldR p1.new rfl ?_
 simp only [Wa2]
 refine Wa7 (λq3=>?_) (λq3=>?_)
 ·refine ldR p1.new rfl ?_
  simp only [Wa2]
  exact k0 _ _ _ _ (hwn (by omega)) (by decide) o1
 refine ldR p1.new rfl ?_
 simp only [Wa2]
 refine Wa7 (λq4=>?_) (λq4=>?_)
 ·refine ldR p1.new rfl ?_
  simp only [Wa2]
  refine ldR p1.new rfl ?_
  simp only [Wa2]
  refine ⟨by omega,ldR p1.new rfl ?_⟩
  simp only [Wa2]
  refine ldR p1.new rfl ?_
  simp only [Wa2]
  refine ⟨by omega,?_⟩
  have hw:p.within a=some ((a - p.nodes) / p.width+1):=by unfold Pl.within;rw [if_pos ⟨by omega,by omega⟩]
  have hd0:0<=(a - p.nodes) / p.width:=Int.ediv_nonneg (by omega) (by omega)
  have hd1:(a - p.nodes) / p.width<=a - p.nodes:=Int.ediv_le_self _ (by omega)
  rw [Wb2 (n:=a - p.nodes) (by omega) (by omega),Int.tdiv_eq_ediv_of_nonneg (by omega),Wb2 (n:=(a - p.nodes) / p.width) (by omega) (by omega),Wb2 (by omega) (by omega)]
  exact k1 _ _ _ hw o1
 ·refine ldR p1.new rfl ?_
  simp only [Wa2]
  exact k0 _ _ _ _ (hwn (by omega)) (by decide) o1
end
end Go.Proofs.YtahpbclnkofhfaaGreat
