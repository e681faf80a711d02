/- Part 6 of what the proofs of this seat rest on: see the last text of the claim. -/
import Derived.Test.YtahpbclnkofhfaaGreatQ7267df8abe42
import Derived.WalkKit
import Derived.ProofKit
import Derived.OpenShut
import Derived.ShutString
import Derived.ChangeOld
import Derived.Below
import Derived.Carry
import Derived.SizedLaws
import Derived.Test.YtahpbclnkofhfaaGreatProg
set_option linter.unusedSimpArgs false
set_option linter.unusedVariables false
set_option linter.ambiguousOpen false
set_option maxRecDepth 20000
namespace Go.Proofs.YtahpbclnkofhfaaGreat
section
open Go.ChangeShapes Go.WideShapes Go.ChangeAt Go.RowKit
theorem Zd4:ownKnob Tryz.prog.godebug=none:=by kernel_rfl
theorem Yy2:laidOutB Tryz.prog=true:=by kernel_rfl
theorem Zd5 {W W':World} (h:Old W.heap.size W.heap W'.heap) {p:MemPlace} (hp:p.block < W.heap.size):W.sameAt W' p:=by
 cases p with
 | cell b o=>exact World.cell?_of_block (w:=W) (h.2 b hp)
 | map b=>exact h.2 b hp
theorem Yy3 {H:Type} {enc:TypeId × Value→H} {P:Program} {t:TypeId} (hl:laidOutB P=true) (hr:P.readableRec t=true) (hrow:t < P.types.size) {W W':World} {v:Value} {d:DataW H} {ps:List MemPlace}
  (h:DataW.Trod enc P W 0 (λ_=>true) true t v d ps) (hb:Old W.heap.size W.heap W'.heap) :
  DataW.Trod enc P W' 0 (λb=>decide (b < W.heap.size)) true t v d ps:=by
 have hlt:∀x ∈ ps,x.block < W.heap.size:=by obtain ⟨m,hm⟩:=h;exact DataW.trod_lt m _ _ _ hm
 exact WideElems.Trod_stays hl hr hrow h (λx hx=>Zd5 hb (hlt x hx)) (λx hx=>by simpa using hlt x hx)
theorem YT4 {W W':World} (ho:Old W.heap.size W.heap W'.heap) (hos:W'.os=W.os) (hout:W'.output=W.output) (may:MemPlace→Prop):W.keptBut W' may:=by
 refine ⟨hos,hout,λi hi=>?_⟩
 rw [ho.2 i hi]
 split <;> simp_all
end
section
theorem We5 (cs:Array Value) (F:Array Value→Prop):Wg5 (.tuple cs) F=F cs:=rfl
theorem ZB0 (a b:Value) (F:Value→Prop):Wc0 #[a,b] 0 F=F a:=rfl
theorem ZB1 (a b:Value) (F:Value→Prop):Wc0 #[a,b] 1 F=F b:=rfl
theorem Zd6:Wt1 Tryz.prog 3=some .i64:=by kernel_rfl
theorem Wn0 (f:Int→Int→Int) (a b:Int) (F:Int→Prop):Wk2 f Tryz.prog 3 [.int .i64 a,.int .i64 b] F=F (f a b):=by
 unfold Wk2
 simp only [Zd6,Wa6]
 unfold Wk2.go
 simp only [Wa6]
 rfl
end
section
theorem Ww3 (cs:Array Value) (F:Array Value→Prop):asAgg (.agg cs) F=F cs:=rfl
theorem Wm0 {cs:Array Value} {n:Nat} {X:Prop} (h:cs.size=n) (x:X):We0 cs n X:=by
 unfold We0
 rw [show Nat.beq cs.size n=true by rw [h];exact Nat.beq_refl n]
 exact x
theorem Wc1 {cs:List Value} {i:Nat} {v:Value} {F:Value→Prop} (h:cs[i]? = some v) (x:F v):Wc0 cs.toArray i F:=by unfold Wc0;rw [List.getElem?_toArray,h];exact x
theorem Wd4 {h:Wa1} {b i:Nat} {v:Value} {row:List Value} {t:TypeId} (hb:h[b]? = some (.cells row.toArray t)) (e:row[i]? = some v):Wa2 h ⟨b,i,none⟩=some v:=by
 rw [Wb9 hb,List.getElem?_toArray];exact e
theorem ldR {h:Wa1} {b i:Nat} {v:Value} {row:List Value} {t:TypeId} {K:Value→Prop} (hb:h[b]? = some (.cells row.toArray t)) (e:row[i]? = some v) (k:K v):ldH h ⟨b,i,none⟩ K:=
 Wc5 (Wd4 hb e) k
structure Wrote (h:Wa1) (b:Nat) (row:Array Value) (t:TypeId) (h':Wa1):Prop where
 size:h'.size=h.size
 new:h'[b]? = some (.cells row t)
 old:∀c,c≠b→h'[c]? = h[c]?
theorem Wrote.trans {h h' h'':Wa1} {b:Nat} {row row':Array Value} {t t':TypeId} (x:Wrote h b row t h') (y:Wrote h' b row' t' h''):Wrote h b row' t' h'':=
 ⟨y.size.trans x.size,y.new,λc hc=>(y.old c hc).trans (x.old c hc)⟩
theorem Wrote.toOld {N:Nat} {g h h':Wa1} {b:Nat} {row:Array Value} {t:TypeId} (x:Wrote h b row t h') (o:Old N g h) (hb:N≤b):Old N g h':=
 ⟨by rw [x.size];exact o.1,λc hc=>(x.old c (by omega)).trans (o.2 c hc)⟩
theorem stR {h:Wa1} {b i:Nat} {v:Value} {row:List Value} {t:TypeId} {K:Wa1→Prop} (hb:h[b]? = some (.cells row.toArray t)) (hi:Nat.ble (i+1) row.length=true) (ho:Wi5 v True)
  (k:∀h',Wrote h b (row.set i v).toArray t h'→K h'):stH h ⟨b,i,none⟩ v K:=by
 have hlt:=(Array.getElem?_eq_some_iff.1 hb).1
 refine Yb4 hb (by rw [List.size_toArray];exact Nat.le_of_ble_eq_true hi) ho ?_
 rintro h' rfl
 exact k _ ⟨by simp,by rw [Wk3 hlt,List.setIfInBounds_toArray],λc hc=>Wk4 hc⟩
theorem Wd3 {vs:List Value} {h:Wa1} {b:Nat} {row:Array Value} {t:TypeId} {K:Wa1→Prop} (hb:h[b]? = some (.cells row t)) (hl:vs.length=row.size) (ho:∀y ∈ vs,Wi5 y True)
  (k:∀h',Wrote h b vs.toArray t h'→K h'):stN h ⟨b,0,none⟩ 0 vs K:=by
 have hlt:=(Array.getElem?_eq_some_iff.1 hb).1
 refine W43 vs h b 0 0 row t K hb (by omega) ho ?_
 intro row' h1 h2
 have e:row' = vs.toArray:=by
  apply Array.ext_getElem?
  intro j
  rw [h2 j]
  by_cases hj:j < vs.length
  ·rw [if_pos (by omega)];simp
  ·rw [if_neg (by omega),Array.getElem?_eq_none (by omega),Array.getElem?_eq_none (by simp;omega)]
 subst e
 exact k _ ⟨by simp,Wk3 hlt,λc hc=>Wk4 hc⟩
theorem st3 {h:Wa1} {b:Nat} {v0 v1 v2:Value} {K:Wa1→Prop} (H:stN h ⟨b,0,none⟩ 0 [v0,v1,v2] K):stH h ⟨b,0,none⟩ v0 λh=>stH h ⟨b,1,none⟩ v1 λh=>stH h ⟨b,2,none⟩ v2 K:=H
theorem st7 {h:Wa1} {b:Nat} {v0 v1 v2 v3 v4 v5 v6:Value} {K:Wa1→Prop} (H:stN h ⟨b,0,none⟩ 0 [v0,v1,v2,v3,v4,v5,v6] K) :
 stH h ⟨b,0,none⟩ v0 λh=>stH h ⟨b,1,none⟩ v1 λh=>stH h ⟨b,2,none⟩ v2 λh=>stH h ⟨b,3,none⟩ v3 λh=>stH h ⟨b,4,none⟩ v4 λh=>stH h ⟨b,5,none⟩ v5 λh=>stH h ⟨b,6,none⟩ v6 K:=H
theorem Za6 {h:Wa1} {b:Nat} {v0 v1 v2 v3 v4 v5 v6 v7 v8 v9 v10 v11 v12 v13 v14:Value} {K:Wa1→Prop} (H:stN h ⟨b,0,none⟩ 0 [v0,v1,v2,v3,v4,v5,v6,v7,v8,v9,v10,v11,v12,v13,v14] K) :
 stH h ⟨b,0,none⟩ v0 λh=>stH h ⟨b,1,none⟩ v1 λh=>stH h ⟨b,2,none⟩ v2 λh=>stH h ⟨b,3,none⟩ v3 λh=>stH h ⟨b,4,none⟩ v4 λh=>stH h ⟨b,5,none⟩ v5 λh=>stH h ⟨b,6,none⟩ v6 λh=>
 stH h ⟨b,7,none⟩ v7 λh=>stH h ⟨b,8,none⟩ v8 λh=>stH h ⟨b,9,none⟩ v9 λh=>stH h ⟨b,10,none⟩ v10 λh=>stH h ⟨b,11,none⟩ v11 λh=>stH h ⟨b,12,none⟩ v12 λh=>stH h ⟨b,13,none⟩ v13 λh=>stH h ⟨b,14,none⟩ v14 K:=H
structure Pushed (h:Wa1) (row:Array Value) (t:TypeId) (h':Wa1):Prop where
 size:h'.size=h.size+1
 new:h'[h.size]? = some (.cells row t)
 old:∀c,c < h.size→h'[c]? = h[c]?
theorem Wf6 (h:Wa1) (row:Array Value) (t:TypeId):Pushed h row t (h.push (.cells row t)):=⟨by simp,Wo2 _ _,λc hc=>Wk0 _ _ _ hc⟩
theorem Pushed.toOld {h h':Wa1} {row:Array Value} {t:TypeId} (x:Pushed h row t h'):Old h.size h h':=⟨by rw [x.size];omega,x.old⟩
end
section
def Fr (S:Nat→Prop) (h h':Wa1):Prop:=h.size≤h'.size∧∀b,b < h.size→¬ S b→h'[b]? = h[b]?
def blk (a:Option Addr) (b:Nat):Prop:=∃ad,a=some ad∧ad.block=b
theorem Fr.refl (S:Nat→Prop) (h:Wa1):Fr S h h:=⟨Nat.le_refl _,λ_ _ _=>rfl⟩
theorem Fr.mono {S T:Nat→Prop} {h h':Wa1} (x:Fr S h h') (H:∀b,b < h.size→S b→T b):Fr T h h':=⟨x.1,λb hb hT=>x.2 b hb λhS=>hT (H b hb hS)⟩
theorem Old.fr {h h':Wa1} (S:Nat→Prop) (o:Old h.size h h'):Fr S h h':=⟨o.1,λb hb _=>o.2 b hb⟩
section
variable {α:Type} {f:α→List Value} {n:Nat}
theorem WQ1 (hf:∀x,(f x).length=n) (l:List α):(l.flatMap f).length=l.length*n:=by
 induction l with
 | nil=>simp
 | cons x l ih=>rw [List.flatMap_cons,List.length_append,ih,hf,List.length_cons,Nat.add_mul];omega
theorem Wh4 (hf:∀x,(f x).length=n) {l:List α}:∀ {i:Nat} (hi:i < l.length) {j:Nat},j < n→(l.flatMap f)[i*n+j]? = (f l[i])[j]?:=by
 induction l with
 | nil=>intro i hi;simp at hi
 | cons x l ih=>
  intro i hi j hj
  rw [List.flatMap_cons]
  cases i with
  | zero=>rw [List.getElem?_append_left (by rw [hf];omega)];simp
  | succ i=>
   have e:(i+1)*n+j=n+(i*n+j):=by rw [Nat.add_mul];omega
   rw [List.getElem?_append_right (by rw [hf,e];omega),hf,e,Nat.add_sub_cancel_left]
   exact ih (by simpa using hi) hj
theorem YT5 (hf:∀x,(f x).length=n) (l:List α):∀i,(l.flatMap f).take (i*n)=(l.take i).flatMap f:=by
 induction l with
 | nil=>intro i;simp
 | cons x l ih=>
  intro i
  cases i with
  | zero=>simp
  | succ i=>
   rw [List.flatMap_cons,List.take_succ_cons,List.flatMap_cons,List.take_append,hf,List.take_of_length_le (by rw [hf,Nat.add_mul];omega),show (i+1)*n - n=i*n by rw [Nat.add_mul];omega,ih]
structure SX (f:α→List Value) (h:Wa1) (a:Option Addr) (l c:Nat) (xs:List α):Prop where
 s:Sees h a (xs.flatMap f)
 len:xs.length=l
 cap:l≤c
theorem SX.old {h h':Wa1} {a:Option Addr} {l c:Nat} {xs:List α} (H:SX f h a l c xs) (ho:Old h.size h h'):SX f h' a l c xs:=⟨H.s.old ho,H.len,H.cap⟩
theorem SX.at (hf:∀x,(f x).length=n) (hn:0 < n) {h:Wa1} {a:Option Addr} {l c:Nat} {xs:List α} (H:SX f h a l c xs) {i:Nat} (hi:i < xs.length) :
  ∃ad,a=some ad∧∀(j:Nat) (v:Value),(f xs[i])[j]? = some v→Wa2 h ((ad.add (i*n)).add j)=some v:=by
 have h0:(xs.flatMap f)[i*n+0]? = (f xs[i])[0]?:=Wh4 hf hi hn
 have h1:(f xs[i])[0]? = some ((f xs[i])[0]'(by rw [hf];exact hn)):=List.getElem?_eq_getElem _
 rw [h1] at h0
 obtain ⟨ad,e,_⟩:=H.s _ _ h0
 refine ⟨ad,e,λj v hv=>?_⟩
 have hj:j < n:=by have:=(List.getElem?_eq_some_iff.1 hv).1;rwa [hf] at this
 obtain ⟨ad',e',hc⟩:=H.s (i*n+j) v ((Wh4 hf hi hj).trans hv)
 rw [e] at e';cases e'
 rw [WF6];exact hc
theorem Yb7 (a:Option Addr) (c n:Nat):YP8 a 0 c n=a:=by
 unfold YP8
 split
 ·rfl
 ·rw [Nat.zero_mul];cases a <;> rfl
end
theorem Own.take {h:Wa1} {t:TypeId} {n:Nat} {a:Option Addr} {l c:Nat} {xs:List Value} (H:Own h t n a l c xs) {i:Nat} (hi:i≤l):Own h t n a i c (xs.take (i*n)):=by
 obtain ⟨h1,h2,h3⟩:=H
 have him:i*n≤l*n:=Nat.mul_le_mul_right _ hi
 refine ⟨by simp;omega,by omega,h3.imp id ?_⟩
 rintro ⟨b,row,e,hb,hs,ht⟩
 exact ⟨b,row,e,hb,hs,by rw [← ht,List.take_take,Nat.min_eq_left him]⟩
theorem Own.lt2 {h:Wa1} {t:TypeId} {n:Nat} {a:Option Addr} {l c:Nat} {xs:List Value} (H:Own h t n a l c xs) {b:Nat} (hb:blk a b):b < h.size:=by
 obtain ⟨ad,e,rfl⟩:=hb
 exact H.lt ad e
theorem Zd7 {P:Program} {h:Wa1} {a:Option Addr} {vs:List Value} {m sz l c:Nat} {F:Array Value→Wa1→Prop} (hs:Sees h a vs) (hn:vs.length=m*sz) (k:F vs.toArray h):hp P (Builtin.firstCells sz m (.slice a l c)) F h:=by
 cases a with
 | none=>
  have:vs = []:=by
   cases vs with
   | nil=>rfl
   | cons y ys=>obtain ⟨ad,e,_⟩:=hs 0 y rfl;cases e
  subst this;exact k
 | some ad=>
  show hp P (loadCells ad (m*sz)) F h
  refine Wf7 ad _ 0 [] F ?_
  rw [← hn]
  refine WD5 vs 0 [] _ (λj v hj=>?_) (by simpa using k)
  obtain ⟨ad',e,hc⟩:=hs j v hj
  cases e;rwa [Nat.zero_add]
end
section
abbrev Pr:=Int × Int
def plt (p q:Pr):Prop:=p.1 < q.1∨(p.1=q.1∧p.2 < q.2)
instance (p q:Pr):Decidable (plt p q):=by unfold plt;infer_instance
def ZL8 (p:Pr):List Pr→List Pr
 | []=>[p]
 | q :: r=>if plt q p then q :: ZL8 p r else p :: q :: r
def Zd8 (ps:List Pr):Nat→List Pr
 | 0=>[]
 | i+1=>match ps[i]? with
  | none=>Zd8 ps i
  | some x=>if 0 < i∧ps[i - 1]? = some x then Zd8 ps i else Zd8 ps i ++ [x]
def ZL9 (ps:List Pr) (k:Int):Nat:=(ps.findIdx? λp=>p.1 != k).getD ps.length
def ZB2 (ps:List Pr):List Pr:=match ps with
 | []=>[]
 | p :: _=>Zd8 (ps.take (ZL9 ps p.1)) (ZL9 ps p.1)
end
section
set_option maxRecDepth 100000

end
section

end
section

end
section
structure Ens (es:List MapEntry) (kvs:List (Int × Value)):Prop where
 eq:es.map (λe=>(e.key,e.val))=kvs.map λx=>(Value.int .i64 x.1,x.2)
 nd:(kvs.map Prod.fst).Nodup
def WO9 (kvs:List (Int × Value)) (k:Int):Option Value:=(kvs.find? λx=>x.1 == k).map Prod.snd
theorem Ens.cons {e:MapEntry} {es:List MapEntry} {kvs:List (Int × Value)} (H:Ens (e :: es) kvs):∃k v kvs',kvs=(k,v) :: kvs'∧e.key=.int .i64 k∧e.val=v∧Ens es kvs'∧k ∉ kvs'.map Prod.fst:=by
 cases kvs with
 | nil=>have:=H.eq;simp at this
 | cons x kvs'=>
  obtain ⟨k,v⟩:=x
  have h1:=H.eq
  simp only [List.map_cons,List.cons.injEq,Prod.mk.injEq] at h1
  have h2:=H.nd
  simp only [List.map_cons,List.nodup_cons] at h2
  exact ⟨k,v,kvs',rfl,h1.1.1,h1.1.2,⟨h1.2,h2.2⟩,h2.1⟩
theorem Yb8 {kind:IntKind} {k:Int}:∀ {es:List MapEntry} {kvs:List (Int × Value)} (i:Nat),Ens es kvs →
  ∃r,Instr.findNow (.int kind) (.int .i64 k) es i=some r∧((r=none∧WO9 kvs k=none∧k ∉ kvs.map Prod.fst)∨∃j v,r=some (i+j,v)∧WO9 kvs k=some v∧kvs[j]? = some (k,v)):=by
 intro es
 induction es with
 | nil=>
  intro kvs i H
  have:kvs = []:=by have:=H.eq;simpa using this.symm
  subst this
  exact ⟨none,rfl,.inl ⟨rfl,rfl,by simp⟩⟩
 | cons e es ih=>
  intro kvs i H
  obtain ⟨k',v,kvs',rfl,hk,hv,H',hn⟩:=H.cons
  unfold Instr.findNow
  rw [hk]
  by_cases e1:k=k'
  ·subst e1
   refine ⟨some (i,e.val),?_,.inr ⟨0,v,by rw [hv];rfl,by simp [WO9],rfl⟩⟩
   simp [Instr.sameNow]
  ·obtain ⟨r,h1,h2⟩:=ih (i+1) H'
   refine ⟨r,?_,?_⟩
   ·have:Instr.sameNow (.int kind) (.int .i64 k) (.int .i64 k')=some false:=by simp [Instr.sameNow,e1]
    rw [this];exact h1
   ·have hm:WO9 ((k',v) :: kvs') k=WO9 kvs' k:=by
     unfold WO9
     rw [List.find?_cons_of_neg (by simpa using λh=>e1 h.symm)]
    rcases h2 with ⟨rfl,h3,h4⟩ | ⟨j,v',h3,h4,h5⟩
    ·refine .inl ⟨rfl,by rw [hm,h3],?_⟩
     simp only [List.map_cons,List.mem_cons,not_or]
     exact ⟨e1,h4⟩
    ·exact .inr ⟨j+1,v',by rw [h3];congr 2;omega,by rw [hm,h4],by simpa using h5⟩
theorem W45 {kvs:List (Int × Value)} {k:Int} {v:Value} (nd:(kvs.map Prod.fst).Nodup) (h:(k,v) ∈ kvs):WO9 kvs k=some v:=by
 unfold WO9
 induction kvs with
 | nil=>cases h
 | cons x kvs ih=>
  simp only [List.map_cons,List.nodup_cons] at nd
  rcases List.mem_cons.1 h with rfl | h
  ·simp
  ·have:x.1≠k:=λe=>nd.1 (by rw [e];exact List.mem_map.2 ⟨_,h,rfl⟩)
   rw [List.find?_cons_of_neg (by simpa using this)]
   exact ih nd.2 h
theorem WS0 {kvs:List (Int × Value)} {k:Int} (h:k ∉ kvs.map Prod.fst):WO9 kvs k=none:=by
 unfold WO9
 rw [Option.map_eq_none_iff,List.find?_eq_none]
 intro x hx e
 exact h (List.mem_map.2 ⟨x,hx,by simpa using e⟩)
def MapF (h:Wa1) (m:Nat) (f:Int→Option Value):Prop:=∃es c kvs,h[m]? = some (.map es c)∧Ens es.toList kvs∧∀k,WO9 kvs k=f k
theorem MapF.keep {h h':Wa1} {m:Nat} {f:Int→Option Value} (H:MapF h m f) (e:h'[m]? = h[m]?):MapF h' m f:=by
 obtain ⟨es,c,kvs,h1,h2,h3⟩:=H
 exact ⟨es,c,kvs,e.trans h1,h2,h3⟩
theorem MapF.lt {h:Wa1} {m:Nat} {f:Int→Option Value} (H:MapF h m f):m < h.size:=by
 obtain ⟨es,c,kvs,h1,_⟩:=H
 exact (Array.getElem?_eq_some_iff.1 h1).1
theorem MapF.new (h:Wa1):MapF (h.push (.map #[] 0)) h.size (λ_=>none):=⟨#[],0,[],Wo2 _ _,⟨rfl,List.nodup_nil⟩,λ_=>rfl⟩
section
variable {P:Program} {t kt et:TypeId}
theorem WS1 {h:Wa1} {m:Nat} {es:Array MapEntry} {c:Nat} (e:h[m]? = some (.map es c)) (F:Obj→Wa1→Prop):hp P (getObj m) F h=F (.map es c) h:=by
 simp only [getObj,hp,e]
theorem WI9 {h:Wa1} {m:Nat} {es es':Array MapEntry} {c c':Nat} (e:h[m]? = some (.map es c)) (F:Unit→Wa1→Prop):hp P (setObj m (.map es' c')) F h=F () (h.setIfInBounds m (.map es' c')):=by
 simp only [setObj,hp,e]
theorem Wy0 {n:Nat} {b:Bool} {v:Value} {k:IntKind} (hu:P.underlying t=some (.int k)) (F:Unit→Wa1→Prop) (h:Wa1):hp P (Instr.checkKey b (n+1) t v) F h=F () h:=by
 simp only [Instr.checkKey,Wa7,Wb0 hu]
 cases v <;> rfl
theorem WD6 {k:Int} {es:List MapEntry} {kvs:List (Int × Value)} (hu:P.underlying kt=some (.int .i64)) (H:Ens es kvs) {F:Option (Nat × Value)→Wa1→Prop} {h:Wa1}
  (H0:WO9 kvs k=none→k ∉ kvs.map Prod.fst→F none h) (H1:∀j v,WO9 kvs k=some v→kvs[j]? = some (k,v)→F (some (j,v)) h):hp P (Instr.findKey kt (.int .i64 k) es) F h:=by
 obtain ⟨r,h1,h2⟩:=Yb8 (kind:=.i64) (k:=k) 0 H
 unfold Instr.findKey
 simp only [Wa7,Wb0 hu,h1]
 rcases h2 with ⟨rfl,h3,h4⟩ | ⟨j,v,rfl,h3,h4⟩
 ·exact H0 h3 h4
 ·rw [Nat.zero_add];exact H1 j v h3 h4
theorem YT6 {h:Wa1} {m:Nat} {f:Int→Option Value} {k:Int} {ok:Bool} {z:Value} {K:Value→Wa1→Prop} (hu:und P t=.map kt et) (hk:und P kt=.int .i64) (hz:zer P et=some z) (H:MapF h m f)
  (kk:K (if ok then .tuple #[(f k).getD z,.bool (f k).isSome] else (f k).getD z) h):W90 P t (.map (some m)) (.int .i64 k) ok h K:=by
 obtain ⟨es,c,kvs,h1,h2,h3⟩:=H
 unfold W90 Instr.lookup
 have hku:=Wd0 hk (by simp)
 simp only [Wa7,Wb0 (Wd0 hu (by simp)),WS1 h1,Wc3,Wy0 hku]
 refine WD6 hku h2 (λe _=>?_) (λj v e _=>?_)
 ·rw [h3] at e
  simp only [Wa7,Wh0 hz,Wc3]
  rw [e] at kk
  exact kk
 ·rw [h3] at e
  rw [e] at kk
  exact kk
theorem Zd9 {h:Wa1} {k:Int} {ok:Bool} {z:Value} {K:Value→Wa1→Prop} (hu:und P t=.map kt et) (hk:und P kt=.int .i64) (hz:zer P et=some z)
  (kk:K (if ok then .tuple #[z,.bool false] else z) h):W90 P t (.map none) (.int .i64 k) ok h K:=by
 unfold W90 Instr.lookup
 have hku:=Wd0 hk (by simp)
 simp only [Wa7,Wb0 (Wd0 hu (by simp)),Wc3,Wy0 hku]
 refine WD6 (kvs:=[]) hku ⟨rfl,List.nodup_nil⟩ (λe _=>?_) (λj v e _=>by cases e)
 simp only [Wa7,Wh0 hz,Wc3]
 exact kk
theorem Ens.push {es:List MapEntry} {kvs:List (Int × Value)} {k:Int} {v:Value} {c:Nat} (H:Ens es kvs) (hk:k ∉ kvs.map Prod.fst):Ens (es ++ [{ key:=.int .i64 k,val:=v,born:=c }]) (kvs ++ [(k,v)]):=by
 refine ⟨by rw [List.map_append,List.map_append,H.eq];rfl,?_⟩
 rw [List.map_append,List.nodup_append]
 exact ⟨H.nd,by simp,λa ha b hb=>by simp at hb;subst hb;exact λe=>hk (e ▸ ha)⟩
theorem Ens.modify {es:List MapEntry} {kvs:List (Int × Value)} {k:Int} {v v0:Value} {j:Nat} (H:Ens es kvs) (hj:kvs[j]? = some (k,v0)):Ens (es.modify j λe=>{ e with key:=.int .i64 k,val:=v }) (kvs.set j (k,v)):=by
 have hlen:es.length=kvs.length:=by have:=congrArg List.length H.eq;simpa using this
 have hjl:=(List.getElem?_eq_some_iff.1 hj).1
 refine ⟨?_,?_⟩
 ·apply List.ext_getElem?
  intro i
  have h0:=congrArg (λL=>L[i]?) H.eq
  simp only [List.getElem?_map] at h0
  rw [List.getElem?_map,List.getElem?_map,List.getElem?_modify,List.getElem?_set]
  by_cases e:j=i
  ·subst e
   rw [if_pos rfl,if_pos hjl]
   rw [List.getElem?_eq_getElem (by omega)]
   simp
  ·rw [if_neg e]
   simp only [if_neg e]
   simpa using h0
 ·have:(kvs.set j (k,v)).map Prod.fst=kvs.map Prod.fst:=by
   apply List.ext_getElem?
   intro i
   rw [List.getElem?_map,List.getElem?_map,List.getElem?_set]
   by_cases e:j=i
   ·subst e
    rw [if_pos rfl,if_pos hjl,hj];rfl
   ·rw [if_neg e]
  rw [this];exact H.nd
theorem YT7 {kvs:List (Int × Value)} {k:Int} {v:Value} (hk:k ∉ kvs.map Prod.fst) (k':Int):WO9 (kvs ++ [(k,v)]) k' = if k' = k then some v else WO9 kvs k':=by
 unfold WO9
 rw [List.find?_append]
 by_cases e:k' = k
 ·subst e
  have:=WS0 hk
  unfold WO9 at this
  rw [Option.map_eq_none_iff] at this
  rw [this,if_pos rfl];simp
 ·rw [if_neg e]
  have:([(k,v)]:List (Int × Value)).find? (λx=>x.1 == k')=none:=by simpa using λh=>e h.symm
  rw [this];simp
theorem Ze0 {kvs:List (Int × Value)} {k:Int} {v v0:Value} {j:Nat} (nd:(kvs.map Prod.fst).Nodup) (hj:kvs[j]? = some (k,v0)) (k':Int):WO9 (kvs.set j (k,v)) k' = if k' = k then some v else WO9 kvs k':=by
 have hjl:=(List.getElem?_eq_some_iff.1 hj).1
 have nd2:((kvs.set j (k,v)).map Prod.fst).Nodup:=by
  have:(kvs.set j (k,v)).map Prod.fst=kvs.map Prod.fst:=by
   apply List.ext_getElem?
   intro i
   rw [List.getElem?_map,List.getElem?_map,List.getElem?_set]
   by_cases e:j=i
   ·subst e
    rw [if_pos rfl,if_pos hjl,hj];rfl
   ·rw [if_neg e]
  rw [this];exact nd
 by_cases e:k' = k
 ·subst e
  rw [if_pos rfl]
  exact W45 nd2 (List.mem_of_getElem? (i:=j) (by rw [List.getElem?_set,if_pos rfl,if_pos hjl]))
 ·rw [if_neg e]
  cases hm:WO9 kvs k' with
  | none=>
   apply WS0
   intro hin
   obtain ⟨x,hx,ex⟩:=List.mem_map.1 hin
   rcases List.mem_or_eq_of_mem_set hx with hx | rfl
   ·have:=W45 nd (k:=k') (v:=x.2) (by rw [← ex];exact hx)
    rw [hm] at this;cases this
   ·exact e ex.symm
  | some w=>
   have hin:(k',w) ∈ kvs:=by
    unfold WO9 at hm
    obtain ⟨x,hx,ex⟩:=Option.map_eq_some_iff.1 hm
    have h1:=List.mem_of_find?_eq_some hx
    have h2:=List.find?_some hx
    have:x=(k',w):=by
     have h3:x.1=k':=by simpa using h2
     rw [← h3,← ex]
    rw [← this];exact h1
   apply W45 nd2
   obtain ⟨i,hi,ei⟩:=List.getElem_of_mem hin
   refine List.mem_of_getElem? (i:=i) ?_
   rw [List.getElem?_set]
   by_cases e2:j=i
   ·subst e2
    rw [List.getElem?_eq_getElem hi,ei] at hj
    cases hj;exact absurd rfl e
   ·rw [if_neg e2,List.getElem?_eq_getElem hi,ei]
theorem ZB3 {h:Wa1} {m:Nat} {f:Int→Option Value} {k:Int} {v:Value} {K:Wa1→Prop} (hu:und P t=.map kt et) (hk:und P kt=.int .i64) (H:MapF h m f)
  (kk:∀h',MapF h' m (λk'=>if k' = k then some v else f k')→h'.size=h.size→(∀c,c≠m→h'[c]? = h[c]?)→K h'):Zb1 P t (.map (some m)) (.int .i64 k) v h K:=by
 have hm:=H.lt
 obtain ⟨es,c,kvs,h1,h2,h3⟩:=H
 unfold Zb1 Instr.mapUpdate
 have hku:=Wd0 hk (by simp)
 simp only [Wa7,Wb0 (Wd0 hu (by simp)),WS1 h1,Wy0 hku]
 refine WD6 hku h2 (λe hn=>?_) (λj v0 e hj=>?_)
 ·simp only [WI9 h1]
  refine kk _ ⟨_,_,kvs ++ [(k,v)],Wk3 hm,?_,λk'=>?_⟩ (by simp) (λc hc=>Wk4 hc)
  ·rw [Array.toList_push];exact h2.push hn
  ·rw [YT7 hn,h3]
 ·have hlen:es.toList.length=kvs.length:=by have:=congrArg List.length h2.eq;simpa using this
  have hjl:=(List.getElem?_eq_some_iff.1 hj).1
  have hkey:((es[j]?).map (·.key)).getD (.int .i64 k)=.int .i64 k:=by
   have h0:=congrArg (λL=>L[j]?) h2.eq
   simp only [List.getElem?_map,hj,Array.getElem?_toList] at h0
   cases hes:es[j]? with
   | none=>rw [hes] at h0;simp at h0
   | some x=>
    rw [hes] at h0
    simp only [Option.map_some,Option.some.injEq,Prod.mk.injEq] at h0
    simp [h0.1]
  rw [Wa7,hkey]
  have hst:∀(F:Value→Wa1→Prop),F (.int .i64 k) h→hp P (Instr.keyThatStays (.int .i64 k) (.int .i64 k)) F h:=by
   intro F x
   unfold Instr.keyThatStays
   have:Instr.sameBits 10000 (.int .i64 k) (.int .i64 k)=true:=by simp [Instr.sameBits]
   rw [if_pos this];exact x
  refine hst _ ?_
  simp only [WI9 h1]
  refine kk _ ⟨_,_,kvs.set j (k,v),Wk3 hm,?_,λk'=>?_⟩ (by simp) (λc hc=>Wk4 hc)
  ·rw [Array.toList_modify];exact h2.modify hj
  ·rw [Ze0 h2.nd hj,h3]
theorem WS2 {α β:Type} (f:α→β):∀(l:List α) (j:Nat),(l.eraseIdx j).map f=(l.map f).eraseIdx j:=by
 intro l
 induction l with
 | nil=>intro j;rfl
 | cons x l ih=>
  intro j
  cases j with
  | zero=>rfl
  | succ j=>simp only [List.eraseIdx_cons_succ,List.map_cons,ih]
theorem Ens.erase {es:List MapEntry} {kvs:List (Int × Value)} (H:Ens es kvs) (j:Nat):Ens (es.eraseIdx j) (kvs.eraseIdx j):=by
 refine ⟨?_,?_⟩
 ·rw [WS2,WS2,H.eq]
 ·rw [WS2];exact H.nd.sublist (List.eraseIdx_sublist _ _)
theorem YF5 {kvs:List (Int × Value)} {k:Int} {v0:Value} {j:Nat} (nd:(kvs.map Prod.fst).Nodup) (hj:kvs[j]? = some (k,v0)) (k':Int):WO9 (kvs.eraseIdx j) k' = if k' = k then none else WO9 kvs k':=by
 induction kvs generalizing j with
 | nil=>simp at hj
 | cons x kvs ih=>
  simp only [List.map_cons,List.nodup_cons] at nd
  cases j with
  | zero=>
   simp only [List.getElem?_cons_zero,Option.some.injEq] at hj
   subst hj
   rw [List.eraseIdx_cons_zero]
   by_cases e:k' = k
   ·subst e;rw [if_pos rfl];exact WS0 nd.1
   ·rw [if_neg e]
    unfold WO9
    rw [List.find?_cons_of_neg (by simpa using λh=>e h.symm)]
  | succ j=>
   simp only [List.getElem?_cons_succ] at hj
   rw [List.eraseIdx_cons_succ]
   have hin:k ∈ kvs.map Prod.fst:=List.mem_map.2 ⟨_,List.mem_of_getElem? hj,rfl⟩
   have hxk:x.1≠k:=λe=>nd.1 (e ▸ hin)
   have:=ih nd.2 hj
   unfold WO9 at this ⊢
   by_cases e:x.1=k'
   ·rw [List.find?_cons_of_pos (by simpa using e),List.find?_cons_of_pos (by simpa using e),if_neg (by rw [← e];exact hxk)]
   ·rw [List.find?_cons_of_neg (by simpa using e),List.find?_cons_of_neg (by simpa using e)]
    exact this
theorem ZB4 {h:Wa1} {m:Nat} {f:Int→Option Value} {k:Int} {rt:TypeId} {K:Value→Wa1→Prop} (hu:und P t=.map kt et) (hk:und P kt=.int .i64) (H:MapF h m f)
  (kk:∀h',MapF h' m (λk'=>if k' = k then none else f k')→h'.size=h.size→(∀c,c≠m→h'[c]? = h[c]?)→K (.tuple #[]) h'):Zb2 P #[t,kt] rt #[.map (some m),.int .i64 k] h K:=by
 have hm:=H.lt
 obtain ⟨es,c,kvs,h1,h2,h3⟩:=H
 have hku:=Wd0 hk (by simp)
 unfold Zb2 Builtin.delete_
 simp only [List.getElem?_toArray,List.getElem?_cons_zero,List.getElem?_cons_succ,Wa7,Wb0 (Wd0 hu (by simp)),WS1 h1,Wy0 hku]
 refine WD6 hku h2 (λe hn=>?_) (λj v0 e hj=>?_)
 ·simp only [Wa7,WI9 h1,Wc3]
  refine kk _ ⟨_,_,kvs,Wk3 hm,h2,λk'=>?_⟩ (by simp) (λc hc=>Wk4 hc)
  rw [h3]
  show f k' = if k' = k then none else f k'
  split
  ·subst k';rw [← h3,e]
  ·rfl
 ·simp only [Wa7,WI9 h1,Wc3]
  refine kk _ ⟨_,_,kvs.eraseIdx j,Wk3 hm,?_,λk'=>?_⟩ (by simp) (λc hc=>Wk4 hc)
  ·have:(es.eraseIdxIfInBounds j).toList=es.toList.eraseIdx j:=by
    unfold Array.eraseIdxIfInBounds
    split
    ·rw [Array.toList_eraseIdx]
    ·rw [List.eraseIdx_of_length_le (by simpa using Nat.not_lt.1 ‹_›)]
   rw [this];exact h2.erase j
  ·rw [YF5 h2.nd hj,h3]
end
end
section
set_option maxRecDepth 100000
abbrev cf (f:FuncId):Array Value→Wa1→(Value→Wa1→Prop)→Prop:=Wu2 Tryz.prog (.func (.func f) #[] #[])
abbrev nP (o:Option Addr) (F:Addr→Prop):Prop:=Wb8 (.pointer o) (Wd2 (.pointer o) F)
abbrev lI (k:IntKind) (h:Wa1) (a:Addr) (F:Int→Prop):Prop:=ldH h a (λv=>asInt k v F)
abbrev lP (h:Wa1) (a:Addr) (F:Option Addr→Prop):Prop:=ldH h a (λv=>Wb1 v F)
abbrev lS (h:Wa1) (a:Addr) (F:Option Addr→Nat→Nat→Prop):Prop:=ldH h a (λv=>Wb5 v F)
abbrev bd (n m:Int) (X:Prop):Prop:=((0:Int)≤n)∧((n < m)∧X)
abbrev ce (h:Wa1) (b i:Nat) (v:Value) (X:Prop):Prop:=(Wa2 h ⟨b,i,none⟩=some v)∧X
abbrev g197 (K:Value→Wa1→Prop) (h H1:Wa1):Prop:=
 (lI .i64 H1 ⟨h.size,0,none⟩ λa=>ifB (a == 2) (K (.bool true) H1) (exI λI2=>(ifB (a == 0) (I2 [.bool true] H1) (ifB (a == 1) (I2 [.bool true] H1) (I2 [.bool (a == 3)] H1)))∧(∀(a:Value) (b:Env) (b:Wa1),(I2 [a] b)→(asBool a λa=>ifB a (lI .u32 b ⟨h.size,1,none⟩ λa=>ifB (a == 0) (lI .u32 b ⟨h.size,2,none⟩ λa=>K (.bool (a == 0)) b) (K (.bool false) b)) (K (.bool false) b)))))
def F197 (K:Value→Wa1→Prop) (h:Wa1) (xa xb xc:Int):Prop:=
 (g197 K h (Array.push h (.cells #[.int .i64 xa,.int .u32 xb,.int .u32 xc] 43)))
theorem call197 {K:Value→Wa1→Prop} {h:Wa1} {xa xb xc:Int} (H:F197 K h xa xb xc):Wa5 Tryz.prog 197 #[(.agg #[(.int .i64 xa),(.int .u32 xb),(.int .u32 xc)])] h K:=
 Wa4 Tryz.func197 (by kernel_rfl) (Eq.mp (by kernel_rfl) H)
end
section
theorem W46 {n:Nat} (h:n < 18446744073709551616):IntKind.u64.wrap (n:Int)=(n:Int):=by
 unfold IntKind.wrap IntKind.signed IntKind.bits
 have e:(n:Int) % 2 ^ 64=n:=Int.emod_eq_of_lt (by omega) (by omega)
 simp only [e]
 rw [if_neg (by simp)]
end
section

end
section

end
section
structure Ro where
 c0:Int
 c1:Int
 c2:Int
 c3:Int
 c4:Int
 c5:Int
 c6:Int
abbrev Ro.cells (r:Ro):List Value:=[iv r.c0,iv r.c1,iv r.c2,iv r.c3,iv r.c4,iv r.c5,iv r.c6]
end
section

end
section

end
section
set_option maxRecDepth 100000
abbrev da3 (h:Wa1) (a:Addr) (F:Value→Value→Value→Prop):Prop:=ldH h a λv0=>ldH h (Addr.add a 1) λv1=>ldH h (Addr.add a 2) λv2=>F v0 v1 v2
abbrev da5 (h:Wa1) (a:Addr) (F:Value→Value→Value→Value→Value→Prop):Prop:=ldH h a λv0=>ldH h (Addr.add a 1) λv1=>ldH h (Addr.add a 2) λv2=>ldH h (Addr.add a 3) λv3=>ldH h (Addr.add a 4) λv4=>F v0 v1 v2 v3 v4
abbrev da7 (h:Wa1) (a:Addr) (F:Value→Value→Value→Value→Value→Value→Value→Prop):Prop:=ldH h a λv0=>ldH h (Addr.add a 1) λv1=>ldH h (Addr.add a 2) λv2=>ldH h (Addr.add a 3) λv3=>ldH h (Addr.add a 4) λv4=>ldH h (Addr.add a 5) λv5=>ldH h (Addr.add a 6) λv6=>F v0 v1 v2 v3 v4 v5 v6
abbrev ZH0 (h:Wa1) (a:Addr) (F:Value→Value→Value→Value→Value→Value→Value→Value→Value→Value→Value→Value→Value→Value→Value→Prop):Prop:=ldH h a λv0=>ldH h (Addr.add a 1) λv1=>ldH h (Addr.add a 2) λv2=>ldH h (Addr.add a 3) λv3=>ldH h (Addr.add a 4) λv4=>ldH h (Addr.add a 5) λv5=>ldH h (Addr.add a 6) λv6=>ldH h (Addr.add a 7) λv7=>ldH h (Addr.add a 8) λv8=>ldH h (Addr.add a 9) λv9=>ldH h (Addr.add a 10) λv10=>ldH h (Addr.add a 11) λv11=>ldH h (Addr.add a 12) λv12=>ldH h (Addr.add a 13) λv13=>ldH h (Addr.add a 14) λv14=>F v0 v1 v2 v3 v4 v5 v6 v7 v8 v9 v10 v11 v12 v13 v14
abbrev dc3 (h:Wa1) (b:Nat) (v0 v1 v2:Value) (X:Prop):Prop:=ce h b 0 v0 (ce h b 1 v1 (ce h b 2 v2 X))
abbrev ZB5 (h:Wa1) (b:Nat) (v0 v1 v2 v3 v4 v5 v6 v7 v8 v9 v10 v11 v12 v13 v14:Value) (X:Prop):Prop:=ce h b 0 v0 (ce h b 1 v1 (ce h b 2 v2 (ce h b 3 v3 (ce h b 4 v4 (ce h b 5 v5 (ce h b 6 v6 (ce h b 7 v7 (ce h b 8 v8 (ce h b 9 v9 (ce h b 10 v10 (ce h b 11 v11 (ce h b 12 v12 (ce h b 13 v13 (ce h b 14 v14 X))))))))))))))
abbrev de2 (s:Array Value) (F:Value→Value→Prop):Prop:=Wc0 s 0 λv0=>Wc0 s 1 λv1=>F v0 v1
abbrev de3 (s:Array Value) (F:Value→Value→Value→Prop):Prop:=Wc0 s 0 λv0=>Wc0 s 1 λv1=>Wc0 s 2 λv2=>F v0 v1 v2
abbrev de5 (s:Array Value) (F:Value→Value→Value→Value→Value→Prop):Prop:=Wc0 s 0 λv0=>Wc0 s 1 λv1=>Wc0 s 2 λv2=>Wc0 s 3 λv3=>Wc0 s 4 λv4=>F v0 v1 v2 v3 v4
abbrev de7 (s:Array Value) (F:Value→Value→Value→Value→Value→Value→Value→Prop):Prop:=Wc0 s 0 λv0=>Wc0 s 1 λv1=>Wc0 s 2 λv2=>Wc0 s 3 λv3=>Wc0 s 4 λv4=>Wc0 s 5 λv5=>Wc0 s 6 λv6=>F v0 v1 v2 v3 v4 v5 v6
abbrev ZM0 (s:Array Value) (F:Value→Value→Value→Value→Value→Value→Value→Value→Value→Value→Prop):Prop:=Wc0 s 0 λv0=>Wc0 s 1 λv1=>Wc0 s 2 λv2=>Wc0 s 3 λv3=>Wc0 s 4 λv4=>Wc0 s 5 λv5=>Wc0 s 6 λv6=>Wc0 s 7 λv7=>Wc0 s 8 λv8=>Wc0 s 9 λv9=>F v0 v1 v2 v3 v4 v5 v6 v7 v8 v9
abbrev Wn6 (s:Array Value) (F:Value→Value→Value→Value→Value→Value→Value→Value→Value→Value→Value→Value→Value→Value→Value→Prop):Prop:=Wc0 s 0 λv0=>Wc0 s 1 λv1=>Wc0 s 2 λv2=>Wc0 s 3 λv3=>Wc0 s 4 λv4=>Wc0 s 5 λv5=>Wc0 s 6 λv6=>Wc0 s 7 λv7=>Wc0 s 8 λv8=>Wc0 s 9 λv9=>Wc0 s 10 λv10=>Wc0 s 11 λv11=>Wc0 s 12 λv12=>Wc0 s 13 λv13=>Wc0 s 14 λv14=>F v0 v1 v2 v3 v4 v5 v6 v7 v8 v9 v10 v11 v12 v13 v14
abbrev dl2 (h:Wa1) (b:Nat) (F:Value→Value→Prop):Prop:=ldH h ⟨b,0,none⟩ λv0=>ldH h ⟨b,1,none⟩ λv1=>F v0 v1
abbrev dl3 (h:Wa1) (b:Nat) (F:Value→Value→Value→Prop):Prop:=ldH h ⟨b,0,none⟩ λv0=>ldH h ⟨b,1,none⟩ λv1=>ldH h ⟨b,2,none⟩ λv2=>F v0 v1 v2
abbrev dl4 (h:Wa1) (b:Nat) (F:Value→Value→Value→Value→Prop):Prop:=ldH h ⟨b,0,none⟩ λv0=>ldH h ⟨b,1,none⟩ λv1=>ldH h ⟨b,2,none⟩ λv2=>ldH h ⟨b,3,none⟩ λv3=>F v0 v1 v2 v3
abbrev dl5 (h:Wa1) (b:Nat) (F:Value→Value→Value→Value→Value→Prop):Prop:=ldH h ⟨b,0,none⟩ λv0=>ldH h ⟨b,1,none⟩ λv1=>ldH h ⟨b,2,none⟩ λv2=>ldH h ⟨b,3,none⟩ λv3=>ldH h ⟨b,4,none⟩ λv4=>F v0 v1 v2 v3 v4
abbrev dl7 (h:Wa1) (b:Nat) (F:Value→Value→Value→Value→Value→Value→Value→Prop):Prop:=ldH h ⟨b,0,none⟩ λv0=>ldH h ⟨b,1,none⟩ λv1=>ldH h ⟨b,2,none⟩ λv2=>ldH h ⟨b,3,none⟩ λv3=>ldH h ⟨b,4,none⟩ λv4=>ldH h ⟨b,5,none⟩ λv5=>ldH h ⟨b,6,none⟩ λv6=>F v0 v1 v2 v3 v4 v5 v6
abbrev YF6 (h:Wa1) (b:Nat) (F:Value→Value→Value→Value→Value→Value→Value→Value→Value→Value→Prop):Prop:=ldH h ⟨b,0,none⟩ λv0=>ldH h ⟨b,1,none⟩ λv1=>ldH h ⟨b,2,none⟩ λv2=>ldH h ⟨b,3,none⟩ λv3=>ldH h ⟨b,4,none⟩ λv4=>ldH h ⟨b,5,none⟩ λv5=>ldH h ⟨b,6,none⟩ λv6=>ldH h ⟨b,7,none⟩ λv7=>ldH h ⟨b,8,none⟩ λv8=>ldH h ⟨b,9,none⟩ λv9=>F v0 v1 v2 v3 v4 v5 v6 v7 v8 v9
abbrev ZM1 (h:Wa1) (b:Nat) (F:Value→Value→Value→Value→Value→Value→Value→Value→Value→Value→Value→Value→Prop):Prop:=ldH h ⟨b,0,none⟩ λv0=>ldH h ⟨b,1,none⟩ λv1=>ldH h ⟨b,2,none⟩ λv2=>ldH h ⟨b,3,none⟩ λv3=>ldH h ⟨b,4,none⟩ λv4=>ldH h ⟨b,5,none⟩ λv5=>ldH h ⟨b,6,none⟩ λv6=>ldH h ⟨b,7,none⟩ λv7=>ldH h ⟨b,8,none⟩ λv8=>ldH h ⟨b,9,none⟩ λv9=>ldH h ⟨b,10,none⟩ λv10=>ldH h ⟨b,11,none⟩ λv11=>F v0 v1 v2 v3 v4 v5 v6 v7 v8 v9 v10 v11
abbrev WF8 (h:Wa1) (b:Nat) (F:Value→Value→Value→Value→Value→Value→Value→Value→Value→Value→Value→Value→Value→Value→Value→Prop):Prop:=ldH h ⟨b,0,none⟩ λv0=>ldH h ⟨b,1,none⟩ λv1=>ldH h ⟨b,2,none⟩ λv2=>ldH h ⟨b,3,none⟩ λv3=>ldH h ⟨b,4,none⟩ λv4=>ldH h ⟨b,5,none⟩ λv5=>ldH h ⟨b,6,none⟩ λv6=>ldH h ⟨b,7,none⟩ λv7=>ldH h ⟨b,8,none⟩ λv8=>ldH h ⟨b,9,none⟩ λv9=>ldH h ⟨b,10,none⟩ λv10=>ldH h ⟨b,11,none⟩ λv11=>ldH h ⟨b,12,none⟩ λv12=>ldH h ⟨b,13,none⟩ λv13=>ldH h ⟨b,14,none⟩ λv14=>F v0 v1 v2 v3 v4 v5 v6 v7 v8 v9 v10 v11 v12 v13 v14
abbrev dw2 (h:Wa1) (b:Nat) (v0 v1:Value) (F:Wa1→Prop):Prop:=stH h ⟨b,0,none⟩ v0 λh1=>stH h1 ⟨b,1,none⟩ v1 λh2=>F h2
abbrev dw3 (h:Wa1) (b:Nat) (v0 v1 v2:Value) (F:Wa1→Prop):Prop:=stH h ⟨b,0,none⟩ v0 λh1=>stH h1 ⟨b,1,none⟩ v1 λh2=>stH h2 ⟨b,2,none⟩ v2 λh3=>F h3
abbrev dw5 (h:Wa1) (b:Nat) (v0 v1 v2 v3 v4:Value) (F:Wa1→Prop):Prop:=stH h ⟨b,0,none⟩ v0 λh1=>stH h1 ⟨b,1,none⟩ v1 λh2=>stH h2 ⟨b,2,none⟩ v2 λh3=>stH h3 ⟨b,3,none⟩ v3 λh4=>stH h4 ⟨b,4,none⟩ v4 λh5=>F h5
abbrev dw7 (h:Wa1) (b:Nat) (v0 v1 v2 v3 v4 v5 v6:Value) (F:Wa1→Prop):Prop:=stH h ⟨b,0,none⟩ v0 λh1=>stH h1 ⟨b,1,none⟩ v1 λh2=>stH h2 ⟨b,2,none⟩ v2 λh3=>stH h3 ⟨b,3,none⟩ v3 λh4=>stH h4 ⟨b,4,none⟩ v4 λh5=>stH h5 ⟨b,5,none⟩ v5 λh6=>stH h6 ⟨b,6,none⟩ v6 λh7=>F h7
abbrev ZB6 (h:Wa1) (b:Nat) (v0 v1 v2 v3 v4 v5 v6 v7 v8 v9:Value) (F:Wa1→Prop):Prop:=stH h ⟨b,0,none⟩ v0 λh1=>stH h1 ⟨b,1,none⟩ v1 λh2=>stH h2 ⟨b,2,none⟩ v2 λh3=>stH h3 ⟨b,3,none⟩ v3 λh4=>stH h4 ⟨b,4,none⟩ v4 λh5=>stH h5 ⟨b,5,none⟩ v5 λh6=>stH h6 ⟨b,6,none⟩ v6 λh7=>stH h7 ⟨b,7,none⟩ v7 λh8=>stH h8 ⟨b,8,none⟩ v8 λh9=>stH h9 ⟨b,9,none⟩ v9 λh10=>F h10
abbrev Zs6 (h:Wa1) (b:Nat) (v0 v1 v2 v3 v4 v5 v6 v7 v8 v9 v10 v11 v12 v13 v14:Value) (F:Wa1→Prop):Prop:=stH h ⟨b,0,none⟩ v0 λh1=>stH h1 ⟨b,1,none⟩ v1 λh2=>stH h2 ⟨b,2,none⟩ v2 λh3=>stH h3 ⟨b,3,none⟩ v3 λh4=>stH h4 ⟨b,4,none⟩ v4 λh5=>stH h5 ⟨b,5,none⟩ v5 λh6=>stH h6 ⟨b,6,none⟩ v6 λh7=>stH h7 ⟨b,7,none⟩ v7 λh8=>stH h8 ⟨b,8,none⟩ v8 λh9=>stH h9 ⟨b,9,none⟩ v9 λh10=>stH h10 ⟨b,10,none⟩ v10 λh11=>stH h11 ⟨b,11,none⟩ v11 λh12=>stH h12 ⟨b,12,none⟩ v12 λh13=>stH h13 ⟨b,13,none⟩ v13 λh14=>stH h14 ⟨b,14,none⟩ v14 λh15=>F h15
abbrev g69 (K:Value→Wa1→Prop) (h H1:Wa1) (xa:Option Addr) (xb:Int):Prop:=
 (ifB (Option.isNone xa) (K (.int .i64 1) H1) (cf 124 #[.int .i64 xb] H1 λa b=>asBool a λa=>ifB (!a) (K (.int .i64 2) b) (cf 125 #[.pointer xa,.int .i64 xb] b λa b=>asBool a λa=>ifB (!a) (K (.int .i64 4) b) (nP xa λa=>ldH b (Addr.add a 1) λa=>Wz9 a λa=>dl3 b h.size λc d e=>W90 Tryz.prog 74 (.map a) (.int .i64 xb) false b λa b=>asAgg a λa=>We0 a 3 (de3 a λa f g=>ce b h.size 0 c (ce b h.size 1 d (ce b h.size 2 e (cf 126 #[.agg #[a,f,g],.agg #[c,d,e]] b λa b=>asBool a λa=>ifB (!a) (K (.int .i64 1) b) (nP xa λa=>ldH b (Addr.add a 1) λa=>Wz9 a λa=>Zb2 Tryz.prog #[74,3] 0 #[.map a,.int .i64 xb] b λa a=>nP xa λb=>ldH a b λc=>Wb5 c λd e f=>dl3 a h.size λg i j=>((Wa2 (Array.push a (.cells #[.int .i64 xb,.bool true,.int .i64 0,.int .u32 0,.int .u32 0,g,i,j] 45)) b)=(some c))∧(Wu4 Tryz.prog #[32,32] 32 #[.slice d e f,.slice (some ⟨a.size,0,none⟩) 1 1] (Array.push a (.cells #[.int .i64 xb,.bool true,.int .i64 0,.int .u32 0,.int .u32 0,g,i,j] 45)) λa b=>Wb5 a λa c d=>nP xa λe=>stH b e (.slice a c d) λa=>K (.int .i64 0) a))))))))))
def F69 (K:Value→Wa1→Prop) (h:Wa1) (xa:Option Addr) (xb xc xd xe:Int):Prop:=
 (g69 K h (Array.push h (.cells #[.int .i64 xc,.int .u32 xd,.int .u32 xe] 43)) xa xb)
theorem call69 {K:Value→Wa1→Prop} {h:Wa1} {xa:Option Addr} {xb xc xd xe:Int} (H:F69 K h xa xb xc xd xe):Wa5 Tryz.prog 69 #[(.pointer xa),(.int .i64 xb),(.agg #[(.int .i64 xc),(.int .u32 xd),(.int .u32 xe)])] h K:=
 Wa4 Tryz.func69 (by kernel_rfl) (Eq.mp (by kernel_rfl) H)
abbrev g122 (K:Value→Wa1→Prop) (h H1:Wa1) (xa:Option Addr) (xb:Int):Prop:=
 (ifB (Option.isNone xa) (K (.int .i64 1) H1) (cf 124 #[.int .i64 xb] H1 λa b=>asBool a λa=>ifB (!a) (K (.int .i64 2) b) (dl3 b h.size λa c d=>cf 61 #[.agg #[a,c,d]] b λa b=>asBool a λa=>ifB (!a) (K (.int .i64 1) b) (cf 125 #[.pointer xa,.int .i64 xb] b λa b=>asBool a λa=>ifB a (K (.int .i64 5) b) (exI λI12=>(nP xa λa=>ldH b (Addr.add a 1) λa=>Wz9 a λa=>ifB (Option.isNone a) (nP xa λa=>stH (Array.push b (.map #[] 0)) (Addr.add a 1) (.map (some b.size)) λa=>I12 [] a) (I12 [] b))∧(∀(a:Env) (a:Wa1),(I12 [] a)→(nP xa λb=>ldH a (Addr.add b 1) λb=>Wz9 b λb=>dl3 a h.size λc d e=>Zb1 Tryz.prog 74 (.map b) (.int .i64 xb) (.agg #[c,d,e]) a λa=>nP xa λb=>ldH a b λc=>Wb5 c λd e f=>dl3 a h.size λg i j=>((Wa2 (Array.push a (.cells #[.int .i64 xb,.bool false,g,i,j,.int .i64 0,.int .u32 0,.int .u32 0] 45)) b)=(some c))∧(Wu4 Tryz.prog #[32,32] 32 #[.slice d e f,.slice (some ⟨a.size,0,none⟩) 1 1] (Array.push a (.cells #[.int .i64 xb,.bool false,g,i,j,.int .i64 0,.int .u32 0,.int .u32 0] 45)) λa b=>Wb5 a λa c d=>nP xa λe=>stH b e (.slice a c d) λa=>K (.int .i64 0) a))))))))
def F122 (K:Value→Wa1→Prop) (h:Wa1) (xa:Option Addr) (xb xc xd xe:Int):Prop:=
 (g122 K h (Array.push h (.cells #[.int .i64 xc,.int .u32 xd,.int .u32 xe] 41)) xa xb)
theorem call122 {K:Value→Wa1→Prop} {h:Wa1} {xa:Option Addr} {xb xc xd xe:Int} (H:F122 K h xa xb xc xd xe):Wa5 Tryz.prog 122 #[(.pointer xa),(.int .i64 xb),(.agg #[(.int .i64 xc),(.int .u32 xd),(.int .u32 xe)])] h K:=
 Wa4 Tryz.func122 (by kernel_rfl) (Eq.mp (by kernel_rfl) H)
def F124 (K:Value→Wa1→Prop) (h:Wa1) (xa:Int):Prop:=
 (ifB (decide (xa ≥ 0)) (K (.bool (decide (xa < 6))) h) (K (.bool false) h))
theorem call124 {K:Value→Wa1→Prop} {h:Wa1} {xa:Int} (H:F124 K h xa):Wa5 Tryz.prog 124 #[(.int .i64 xa)] h K:=
 Wa4 Tryz.func124 (by kernel_rfl) (Eq.mp (by kernel_rfl) H)
def F125 (K:Value→Wa1→Prop) (h:Wa1) (xa:Option Addr) (xb:Int):Prop:=
 (ifB (Option.isNone xa) (K (.bool false) h) (nP xa λa=>ldH h (Addr.add a 1) λa=>Wz9 a λa=>W90 Tryz.prog 74 (.map a) (.int .i64 xb) true h λa b=>Wg5 a λc=>Wc0 c 0 λc=>asAgg c λc=>We0 c 3 (de3 c λc d e=>Wg5 a λa=>Wc0 a 1 λa=>asBool a λa=>stH (Array.push b (.cells #[.int .i64 0,.int .u32 0,.int .u32 0] 41)) ⟨b.size,0,none⟩ c λc=>stH c ⟨b.size,1,none⟩ d λc=>stH c ⟨b.size,2,none⟩ e λb=>K (.bool a) b)))
theorem call125 {K:Value→Wa1→Prop} {h:Wa1} {xa:Option Addr} {xb:Int} (H:F125 K h xa xb):Wa5 Tryz.prog 125 #[(.pointer xa),(.int .i64 xb)] h K:=
 Wa4 Tryz.func125 (by kernel_rfl) (Eq.mp (by kernel_rfl) H)
abbrev g126 (K:Value→Wa1→Prop) (h H1 H2:Wa1):Prop:=
 (exI λI0=>(dl3 H2 h.size λa b c=>cf 61 #[.agg #[a,b,c]] H2 λa b=>asBool a λa=>ifB (!a) (I0 [.bool true] b) (dl3 b H1.size λa c d=>cf 197 #[.agg #[a,c,d]] b λa b=>asBool a λa=>I0 [.bool (!a)] b))∧(∀(a:Value) (b:Env) (b:Wa1),(I0 [a] b)→(asBool a λa=>ifB a (K (.bool false) b) (lI .i64 b ⟨h.size,0,none⟩ λa=>lI .i64 b ⟨H1.size,0,none⟩ λc=>ifB (c == 0) (K (.bool ((a == 0) == true)) b) (lI .i64 b ⟨H1.size,0,none⟩ λc=>K (.bool ((a == 0) == (c == 1))) b)))))
def F126 (K:Value→Wa1→Prop) (h:Wa1) (xa xb xc xd xe xf:Int):Prop:=
 (g126 K h (Array.push h (.cells #[.int .i64 xa,.int .u32 xb,.int .u32 xc] 41)) (Array.push (Array.push h (.cells #[.int .i64 xa,.int .u32 xb,.int .u32 xc] 41)) (.cells #[.int .i64 xd,.int .u32 xe,.int .u32 xf] 43)))
theorem call126 {K:Value→Wa1→Prop} {h:Wa1} {xa xb xc xd xe xf:Int} (H:F126 K h xa xb xc xd xe xf):Wa5 Tryz.prog 126 #[(.agg #[(.int .i64 xa),(.int .u32 xb),(.int .u32 xc)]),(.agg #[(.int .i64 xd),(.int .u32 xe),(.int .u32 xf)])] h K:=
 Wa4 Tryz.func126 (by kernel_rfl) (Eq.mp (by kernel_rfl) H)
abbrev g61 (K:Value→Wa1→Prop) (h H1:Wa1):Prop:=
 (lI .i64 H1 ⟨h.size,0,none⟩ λa=>ifB (a == 0) (K (.bool true) H1) (exI λI2=>(ifB (a == 1) (I2 [.bool true] H1) (I2 [.bool (a == 2)] H1))∧(∀(a:Value) (b:Env) (b:Wa1),(I2 [a] b)→(asBool a λa=>ifB a (lI .u32 b ⟨h.size,1,none⟩ λa=>ifB (a == 0) (lI .u32 b ⟨h.size,2,none⟩ λa=>K (.bool (a == 0)) b) (K (.bool false) b)) (K (.bool false) b)))))
def F61 (K:Value→Wa1→Prop) (h:Wa1) (xa xb xc:Int):Prop:=
 (g61 K h (Array.push h (.cells #[.int .i64 xa,.int .u32 xb,.int .u32 xc] 41)))
theorem call61 {K:Value→Wa1→Prop} {h:Wa1} {xa xb xc:Int} (H:F61 K h xa xb xc):Wa5 Tryz.prog 61 #[(.agg #[(.int .i64 xa),(.int .u32 xb),(.int .u32 xc)])] h K:=
 Wa4 Tryz.func61 (by kernel_rfl) (Eq.mp (by kernel_rfl) H)
end
section
structure C3 where
 o:Int
 k:Int
 v:Int
abbrev C3.cells (c:C3):List Value:=[.int .i64 c.o,.int .u32 c.k,.int .u32 c.v]
def WA4 (c:C3):Bool:=c.o == 0 || ((c.o == 1 || c.o == 2) && (c.k == 0 && c.v == 0))
def WJ0 (a:C3):Bool:=a.o == 2 || ((a.o == 0 || (a.o == 1 || a.o == 3)) && (a.k == 0 && a.v == 0))
def W47 (c a:C3):Bool:=WA4 c && (WJ0 a && ((c.o == 0) == (a.o == 0 || a.o == 1)))
theorem WF2 {K:Value→Wa1→Prop} {h:Wa1} {c:C3} (k:∀h',Old h.size h h'→K (.bool (WA4 c)) h'):Wa5 Tryz.prog 61 #[.agg c.cells.toArray] h K:=by
 refine call61 ?_
 unfold F61 g61 lI
 have p:=Wf6 h c.cells.toArray 41
 rw [show h.push (.cells #[.int .i64 c.o,.int .u32 c.k,.int .u32 c.v] 41)=h.push (.cells c.cells.toArray 41) from rfl]
 generalize h.push (.cells c.cells.toArray 41)=h1 at *
 have kk:=k _ p.toOld
 unfold WA4 at kk
 refine ldR p.new rfl ?_
 simp only [Wa6]
 refine Wb7 (λe=>by rw [e] at kk;exact kk) (λe=>?_)
 rw [e,Bool.false_or] at kk
 refine ⟨λvs h'=>vs = [.bool (c.o == 1 || c.o == 2)]∧h' = h1,?_,?_⟩
 ·refine Wb7 (λe1=>⟨by rw [e1];rfl,rfl⟩) (λe1=>⟨by rw [e1,Bool.false_or],rfl⟩)
 rintro v3 g4 h5 ⟨e3,rfl⟩
 cases e3
 simp only [Wa9]
 refine Wb7 (λe1=>?_) (λe1=>by rw [e1] at kk;exact kk)
 rw [e1,Bool.true_and] at kk
 refine ldR p.new rfl ?_
 simp only [Wa6]
 refine Wb7 (λe2=>?_) (λe2=>by rw [e2] at kk;exact kk)
 rw [e2,Bool.true_and] at kk
 refine ldR p.new rfl ?_
 simp only [Wa6]
 exact kk
theorem W48 {K:Value→Wa1→Prop} {h:Wa1} {c:C3} (k:∀h',Old h.size h h'→K (.bool (WJ0 c)) h'):Wa5 Tryz.prog 197 #[.agg c.cells.toArray] h K:=by
 refine call197 ?_
 unfold F197 g197 lI
 have p:=Wf6 h c.cells.toArray 43
 rw [show h.push (.cells #[.int .i64 c.o,.int .u32 c.k,.int .u32 c.v] 43)=h.push (.cells c.cells.toArray 43) from rfl]
 generalize h.push (.cells c.cells.toArray 43)=h1 at *
 have kk:=k _ p.toOld
 unfold WJ0 at kk
 refine ldR p.new rfl ?_
 simp only [Wa6]
 refine Wb7 (λe=>by rw [e] at kk;exact kk) (λe=>?_)
 rw [e,Bool.false_or] at kk
 refine ⟨λvs h'=>vs = [.bool (c.o == 0 || (c.o == 1 || c.o == 3))]∧h' = h1,?_,?_⟩
 ·refine Wb7 (λe1=>⟨by rw [e1];rfl,rfl⟩) (λe1=>?_)
  refine Wb7 (λe2=>⟨by rw [e1,e2];rfl,rfl⟩) (λe2=>⟨by rw [e1,e2,Bool.false_or,Bool.false_or],rfl⟩)
 rintro v3 g4 h5 ⟨e3,rfl⟩
 cases e3
 simp only [Wa9]
 refine Wb7 (λe1=>?_) (λe1=>by rw [e1] at kk;exact kk)
 rw [e1,Bool.true_and] at kk
 refine ldR p.new rfl ?_
 simp only [Wa6]
 refine Wb7 (λe2=>?_) (λe2=>by rw [e2] at kk;exact kk)
 rw [e2,Bool.true_and] at kk
 refine ldR p.new rfl ?_
 simp only [Wa6]
 exact kk
theorem YT8 {K:Value→Wa1→Prop} {h:Wa1} {c a:C3} (k:∀h',Old h.size h h'→K (.bool (W47 c a)) h'):Wa5 Tryz.prog 126 #[.agg c.cells.toArray,.agg a.cells.toArray] h K:=by
 refine call126 ?_
 unfold F126 g126 cf lI dl3
 have p:=Wf6 h c.cells.toArray 41
 rw [show h.push (.cells #[.int .i64 c.o,.int .u32 c.k,.int .u32 c.v] 41)=h.push (.cells c.cells.toArray 41) from rfl]
 generalize h.push (.cells c.cells.toArray 41)=h1 at *
 have s1:=p.size
 have p2:=Wf6 h1 a.cells.toArray 43
 rw [show h1.push (.cells #[.int .i64 a.o,.int .u32 a.k,.int .u32 a.v] 43)=h1.push (.cells a.cells.toArray 43) from rfl]
 generalize h1.push (.cells a.cells.toArray 43)=h2 at *
 have e2:h2[h.size]? = some (.cells c.cells.toArray 41):=(p2.old _ (by omega)).trans p.new
 have o2:=p.toOld.trans (p2.toOld.mono (by omega))
 have s2:=p2.size
 refine ⟨λvs h'=>vs = [.bool (!(WA4 c && WJ0 a))]∧Old h2.size h2 h',?_,?_⟩
 ·refine ldR e2 rfl (ldR e2 rfl (ldR e2 rfl ?_))
  refine Wa0 (WF2 (c:=c) λh5 o5=>?_)
  simp only [Wa9]
  refine Wb7 (λe=>⟨by simp at e;rw [e];rfl,o5⟩) (λe=>?_)
  have e5:=(o5.2 _ (by omega)).trans p2.new
  refine ldR e5 rfl (ldR e5 rfl (ldR e5 rfl ?_))
  refine Wa0 (W48 (c:=a) λh11 o11=>?_)
  simp only [Wa9]
  refine ⟨?_,o5.trans (o11.mono o5.1)⟩
  have:WA4 c=true:=by simpa using e
  rw [this,Bool.true_and]
 rintro v13 g14 h15 ⟨e,o15⟩
 cases e
 simp only [Wa9]
 have kk:=k _ (o2.trans (o15.mono o2.1))
 unfold W47 at kk
 refine Wb7 (λe=>?_) (λe=>?_)
 ·have:(WA4 c && WJ0 a)=false:=by revert e;cases (WA4 c && WJ0 a) <;> intro e <;> first | rfl | cases e
  rw [← Bool.and_assoc,this] at kk
  exact kk
 ·have:(WA4 c && WJ0 a)=true:=by revert e;cases (WA4 c && WJ0 a) <;> intro e <;> first | rfl | cases e
  rw [← Bool.and_assoc,this,Bool.true_and] at kk
  have c15:=(o15.2 _ (by omega)).trans e2
  have a15:=(o15.2 _ (by omega)).trans p2.new
  refine ldR c15 rfl ?_
  simp only [Wa6]
  refine ldR a15 rfl ?_
  simp only [Wa6]
  refine Wb7 (λe1=>by rw [e1,Bool.true_or] at kk;exact kk) (λe1=>?_)
  rw [e1,Bool.false_or] at kk
  refine ldR a15 rfl ?_
  simp only [Wa6]
  exact kk
end
section

end
section
def doP (ps:List Pr) (c a:C3):Option (List Pr):=
 if W47 c a then
  if a.o=0 then some (ZL8 (c.k,c.v) ps)
  else if a.o=1 then some ps
  else if a.o=3 then (if ps = [] then some ps else none)
  else if (a.k,a.v) ∈ ZB2 ps then (if c.o=1 then some (ps.erase (a.k,a.v)) else some ps) else none
 else none
end
section
set_option maxRecDepth 100000

end
section

end
section
def F291 (K:Value→Wa1→Prop) (h:Wa1) (xa:Option Addr) (xb xc:Nat):Prop:=
 (K (.func (.func 305) #[] #[.pointer (some ⟨h.size,0,none⟩)]) (Array.push h (.cells #[.slice xa xb xc] 25)))
theorem call291 {K:Value→Wa1→Prop} {h:Wa1} {xa:Option Addr} {xb xc:Nat} (H:F291 K h xa xb xc):Wa5 Tryz.prog 291 #[(.slice xa xb xc)] h K:=
 Wa4 Tryz.func291 (by kernel_rfl) (Eq.mp (by kernel_rfl) H)
def F305 (K:Value→Wa1→Prop) (h:Wa1) (xa c0:Value):Prop:=
 (Wd2 c0 λa=>lS h a λa b c=>exI λI5=>exM λm6=>(I5 [.tuple #[],.int .i64 0] h)∧(∀(c d:Value) (e:Env) (e:Wa1),(I5 [c,d] e)→(asInt .i64 d λf=>ifB (decide (f < (b:Int))) (asI d λf=>bd f (b:Int) (Wd2 (.pointer a) λa=>lI .i64 e (Addr.add a (f.toNat*1)) λa=>Wu2 Tryz.prog xa #[.int .i64 a] e λb f=>asBool b λb=>ifB (!b) (K (.tuple #[]) f) (asInt .i64 d λb=>(I5 [.int .i64 a,.int .i64 (IntKind.wrap .i64 (b+1))] f)∧((m6 [.int .i64 a,.int .i64 (IntKind.wrap .i64 (b+1))] f) < (m6 [c,d] e))))) (K (.tuple #[]) e))))
theorem call305 {K:Value→Wa1→Prop} {h:Wa1} {xa c0:Value} (H:F305 K h xa c0):Wa5 Tryz.prog 305 #[xa,c0] h K:=
 Wa4 Tryz.func305 (by kernel_rfl) (Eq.mp (by kernel_rfl) H)
abbrev g290 (K:Value→Wa1→Prop) (h H1 H2:Wa1) (xa xb:Value):Prop:=
 (Wi5 xa (Wi5 xb (exI λI0=>(ldH H2 ⟨h.size,0,none⟩ λa=>Wj6 a λa=>ifB a (I0 [.bool true] H2) (ldH H2 ⟨H1.size,0,none⟩ λa=>Wj6 a λa=>I0 [.bool a] H2))∧(∀(a:Value) (b:Env) (b:Wa1),(I0 [a] b)→(asBool a λa=>ifB a (K (.func (.func 303) #[] #[]) b) (K (.func (.func 304) #[] #[.pointer (some ⟨h.size,0,none⟩),.pointer (some ⟨H1.size,0,none⟩)]) b))))))
def F290 (K:Value→Wa1→Prop) (h:Wa1) (xa xb:Value):Prop:=
 (g290 K h (Array.push h (.cells #[xa] 311)) (Array.push (Array.push h (.cells #[xa] 311)) (.cells #[xb] 102)) xa xb)
theorem call290 {K:Value→Wa1→Prop} {h:Wa1} {xa xb:Value} (H:F290 K h xa xb):Wa5 Tryz.prog 290 #[xa,xb] h K:=
 Wa4 Tryz.func290 (by kernel_rfl) (Eq.mp (by kernel_rfl) H)
abbrev g304 (K:Value→Wa1→Prop) (h H1:Wa1) (xa c0 c1:Value):Prop:=
 (Wi5 xa (Wd2 c0 λa=>ldH H1 a λa=>WQ9 Tryz.prog a 1 H1 (λI2 a b=>asInt .i64 (a.getD 0 (.tuple #[])) λa=>exI λI6=>(Wd2 c1 λc=>ldH b c λc=>Wu2 Tryz.prog c #[.int .i64 a] b λb c=>asBool b λb=>ifB b (ldH c ⟨h.size,0,none⟩ λb=>Wu2 Tryz.prog b #[.int .i64 a] c λa b=>asBool a λa=>I6 [.bool (!a)] b) (I6 [.bool false] c))∧(∀(a:Value) (b:Env) (b:Wa1),(I6 [a] b)→(asBool a λa=>ifB a (I2 .ret b) (I2 .normal b)))) (λa=>(∀b:Wa1,(SameD h.size a b)→(K (.tuple #[]) b))) [(.ret,λa=>(∀b:Wa1,(SameD h.size a b)→(K (.tuple #[]) b)))]))
def F304 (K:Value→Wa1→Prop) (h:Wa1) (xa c0 c1:Value):Prop:=
 (g304 K h (Array.push h (.cells #[xa] 102)) xa c0 c1)
theorem call304 {K:Value→Wa1→Prop} {h:Wa1} {xa c0 c1:Value} (H:F304 K h xa c0 c1):Wa5 Tryz.prog 304 #[xa,c0,c1] h K:=
 Wa4 Tryz.func304 (by kernel_rfl) (Eq.mp (by kernel_rfl) H)
end
section
abbrev WJ1 (L:List Int) (k:Nat):Array Value:=#[iv (L.getD k 0)]
theorem ZB7 {p:Nat} {a:Option Addr} {l c:Nat} {xs:List Int} (hl:l < 2 ^ 60) :
  Zo7 Tryz.prog (.func (.func 305) #[] #[.pointer (some ⟨p,0,none⟩)]) xs.length (WJ1 xs)
   (λh=>Wa2 h ⟨p,0,none⟩=some (.slice a l c)∧RI h a l c xs):=by
 intro yf y1 y2 h N I X hN hev hok hy
 refine W42 ?_
 rw [cl2]
 refine call305 ?_
 unfold F305 bd lS lI
 have hlen:=hev.2.len
 simp only [Wb2]
 refine Wc5 hev.1 ?_
 simp only [Wb3]
 refine ⟨λvs h'=>∃v,∃k:Nat,vs = [v,iv k]∧k≤l∧h.size≤h'.size∧I h.size k h',λvs _=>(match vs with | [_,.int _ n]=>l - n.toNat | _=>0),⟨_,0,rfl,by omega,Nat.le_refl _,hok.self⟩,?_⟩
 rintro v7 v8 g h10 ⟨v,k,e,hk,hs,hI⟩
 cases e
 simp only [Wa6,WF7]
 refine Wa3 (λhlt=>?_) (λhge=>?_)
 ·have hlt':k < xs.length:=by omega
  obtain ⟨ad,rfl,hc⟩:=(hok.env _ _ _ hN hs hI).2.at hlt'
  refine ⟨by omega,hlt,?_⟩
  simp only [Wb2,Int.toNat_natCast,Nat.mul_one]
  refine Wc5 hc ?_
  simp only [Wa6]
  have hyk:=hy h.size k h10 hlt' hN (Nat.le_refl _) hs hI
  have e2:WJ1 xs k=#[.int .i64 xs[k]]:=by unfold WJ1;simp [hlt']
  rw [e2] at hyk
  refine WL9 ?_ hyk
  rintro w h'' ⟨hm,⟨rfl,hI'⟩ | ⟨rfl,hX⟩⟩
  ·simp only [Wa9,Bool.not_true,Wc8]
   rw [Wl7 (by omega)]
   refine ⟨⟨_,k+1,rfl,by omega,Nat.le_trans hs hm.1,hI'⟩,?_⟩
   show l - ((k+1:Nat):Int).toNat < l - (k:Int).toNat
   omega
  ·simp only [Wa9,Bool.not_false,Wd8]
   exact ⟨h.size,hN,Nat.le_refl _,Nat.le_trans hs hm.1,.inr hX⟩
 ·have:k=xs.length:=by omega
  subst this
  exact ⟨h.size,hN,Nat.le_refl _,hs,.inl hI⟩
end
section
theorem YT9 {L:List Int} {p:Int→Bool} {j:Nat} (hj:j < L.length) (hp:p L[j]=true) :
  ((L.take j).filter p).length < (L.filter p).length∧(L.filter p).getD ((L.take j).filter p).length 0=L[j]:=by
 have e:L.filter p=(L.take j).filter p ++ L[j] :: (L.drop (j+1)).filter p:=by
  conv=>lhs;rw [← List.take_append_drop j L,List.filter_append,List.drop_eq_getElem_cons hj,List.filter_cons_of_pos hp]
 rw [e]
 constructor
 ·simp
 ·simp
theorem WS3 {L:List Int} {p:Int→Bool} {j:Nat} (hj:j < L.length):((L.take (j+1)).filter p).length=((L.take j).filter p).length+(if p L[j] then 1 else 0):=by
 rw [List.take_succ_eq_append_getElem hj,List.filter_append,List.length_append]
 cases h:p L[j] <;> simp [h]
theorem Ym3 {N M:Nat} {h h':Wa1} (o:Old h.size h h'):Za5 N M h h':=⟨o.1,λb hb _=>o.2 b hb⟩
theorem WF3 {N M:Nat} {h h':Wa1} (o:Old h.size h h') (hM:M≤h.size):KeepMid N M h h':=⟨o.1,λb _ hb=>o.2 b (by omega)⟩
theorem KeepMid.trans {N M:Nat} {a b c:Wa1} (x:KeepMid N M a b) (y:KeepMid N M b c):KeepMid N M a c:=⟨Nat.le_trans x.1 y.1,λi h1 h2=>(y.2 i h1 h2).trans (x.2 i h1 h2)⟩
theorem KeepMid.mono {N N' M:Nat} {a b:Wa1} (x:KeepMid N M a b) (h:N≤N'):KeepMid N' M a b:=⟨x.1,λi h1 h2=>x.2 i (by omega) h2⟩
theorem Ze1 {sp kp:Nat} {g f:Value} {L:List Int} {p:Int→Bool} {D:Int→Prop} {Ev Ek:Wa1→Prop} (hD:∀x ∈ L,D x) (hg:fnV g) (hseq:Zo7 Tryz.prog g L.length (WJ1 L) Ev) (hst:∀h h',Old h.size h h'→Ev h→Ev h')
  (hsk:∀h h',Old h.size h h'→Ek h→Ek h') (hk:∀(h:Wa1) (x:Int) (K:Value→Wa1→Prop),Ek h→D x→(∀h',Old h.size h h'→K (.bool (p x)) h')→Wu2 Tryz.prog f #[.int .i64 x] h K) :
  Zo7 Tryz.prog (.func (.func 304) #[] #[.pointer (some ⟨sp,0,none⟩),.pointer (some ⟨kp,0,none⟩)]) (L.filter p).length (WJ1 (L.filter p))
   (λh=>Wa2 h ⟨sp,0,none⟩=some g∧Wa2 h ⟨kp,0,none⟩=some f∧Ev h∧Ek h):=by
 intro yf y1 y2 h N I X hN hev hok hy
 refine W42 ?_
 rw [cl3]
 refine call304 ?_
 unfold F304 g304
 simp only [Wb2,Yb5]
 have o1:Old h.size h (h.push (.cells #[.func yf y1 y2] 102)):=(Old.refl _ _).push _ (Nat.le_refl _)
 have n1:=Wo2 h (.cells #[.func yf y1 y2] 102)
 have s1:(h.push (.cells #[.func yf y1 y2] 102)).size=h.size+1:=by simp
 generalize h.push (.cells #[.func yf y1 y2] 102)=h1 at *
 refine Wc5 (Wx9 _ _ o1 hev.1) ?_
 refine Yb6 (h0:=h) (I:=I) (X:=X) (N:=N) (n:=L.length) (xs:=WJ1 L) (Ev:=Ev) (λ_ h'=>h'[h.size]? = some (.cells #[.func yf y1 y2] 102)) (λj=>((L.take j).filter p).length) (L.filter p).length False
  hg hseq (λ_ _=>rfl) hN o1 hok (λh' e=>e.2.2.1) (hst _ _ o1 hev.2.2.1) (by simp) (by simp) (λk ha hb hsame e=>(hsame _ (Nat.le_refl _) (by omega)).trans e) n1 ?_ ?_ ?_
 ·intro M j h4 hj hM hs hS hI
  rw [s1] at hM
  have e2:(WJ1 L j).getD 0 (.tuple #[])=.int .i64 L[j]:=by unfold WJ1;simp [hj]
  rw [e2]
  simp only [Wa6]
  have hev4:=hok.env M _ h4 (by omega) hs hI
  refine ⟨λvs h'=>∃b:Bool,vs = [.bool b]∧KeepMid h1.size M h4 h'∧(if b then X M () h' else h'[h.size]? = some (.cells #[.func yf y1 y2] 102)∧I M ((L.take (j+1)).filter p).length h'),?_,?_⟩
  ·refine Wc5 hev4.2.1 ?_
   refine hk _ _ _ hev4.2.2.2 (hD _ (List.getElem_mem _)) λh10 o10=>?_
   simp only [Wa9]
   have hI10:=hok.keepI M _ h4 h10 (by omega) hs hI (Ym3 o10)
   have hS10:h10[h.size]? = some (.cells #[.func yf y1 y2] 102):=(o10.2 _ (by omega)).trans hS
   refine Wb7 (λhp=>?_) (λhp=>?_)
   ·refine Wc5 (Wk7 hS10) ?_
    obtain ⟨f1,f2⟩:=YT9 hj hp
    have hyk:=hy M _ h10 f1 (by omega) (by omega) (by have:=o10.1;omega) hI10
    rw [show WJ1 (L.filter p) ((L.take j).filter p).length=#[.int .i64 L[j]] by unfold WJ1;rw [f2]] at hyk
    refine WL9 ?_ hyk
    rintro w h14 ⟨hm,hor⟩
    have hm4:KeepMid h1.size M h4 h14:=(WF3 o10 hs).trans (hm.mono (by omega))
    rcases hor with ⟨rfl,hI'⟩ | ⟨rfl,hX⟩
    ·simp only [Wa9,Bool.not_true]
     refine ⟨false,rfl,hm4,?_⟩
     simp only [Bool.false_eq_true,if_false]
     refine ⟨(hm.2 _ (by omega) (by omega)).trans hS10,?_⟩
     rw [WS3 hj,if_pos hp];exact hI'
    ·simp only [Wa9,Bool.not_false]
     exact ⟨true,rfl,hm4,by simp only [if_true];exact hX⟩
   ·refine ⟨false,rfl,WF3 o10 hs,?_⟩
    simp only [Bool.false_eq_true,if_false]
    refine ⟨hS10,?_⟩
    rw [WS3 hj,if_neg (by simp [hp])];exact hI10
  ·rintro v16 g17 h18 ⟨b,e,hm,hb⟩
   cases e
   simp only [Wa9]
   cases b with
   | true=>simp only [Wd8];simp only [if_true] at hb;exact ⟨hm,trivial,.inl hb⟩
   | false=>simp only [Wc8];simp only [Bool.false_eq_true,if_false] at hb;exact ⟨hm,by have:=hm.1;omega,hb⟩
 ·intro M h20 hM hs hI h21 hsd
  refine ⟨M,by omega,by omega,by rw [hsd.1];exact hs,.inl ?_⟩
  exact hok.dI M _ h20 h21 (hsd.mono hN) hI
 ·refine ⟨λM h22 hM hs hX h23 hsd=>?_,trivial⟩
  refine ⟨M,by omega,by omega,by rw [hsd.1];exact hs,.inr ?_⟩
  rcases hX with hX | hX
  ·exact hok.dX M _ h22 h23 (hsd.mono hN) hX
  ·exact hX.1.elim
end
section

end
section
set_option maxRecDepth 100000

end
section
structure Op9 where
 th:Int
 op:Int
 key:Int
 val:Int
 kind:Int
 ak:Int
 av:Int
 fr:Int
 to:Int
abbrev Op9.cells (o:Op9):List Value:=[.int .i64 o.th,.int .i64 o.op,.int .u32 o.key,.int .u32 o.val,.int .i64 o.kind,.int .u32 o.ak,.int .u32 o.av,.int .i64 o.fr,.int .i64 o.to]
end
section
def ZN6 (ps:List Pr) (c:C3):C3:=if WA4 c then (if c.o=0 then ⟨0,0,0⟩ else match ZB2 ps with | []=>⟨3,0,0⟩ | p :: _=>⟨2,p.1,p.2⟩) else ⟨1,0,0⟩
def dfC:C3:=⟨0,0,0⟩
def stP (cs:List C3):Nat→List Pr
 | 0=>[]
 | i+1=>let ps:=stP cs i;let c:=cs.getD i dfC;(doP ps c (ZN6 ps c)).getD ps
end
section
structure Op7 where
 pl:Int
 c:C3
 a:C3
abbrev Op7.cells (o:Op7):List Value:=[.int .i64 o.pl,.int .i64 o.c.o,.int .u32 o.c.k,.int .u32 o.c.v,.int .i64 o.a.o,.int .u32 o.a.k,.int .u32 o.a.v]
end
section
open Go.ChangeShapes Go.WideShapes Go.ChangeAt Go.RowKit
theorem We8 {H:Type} {enc:TypeId × Value→H} {P:Program} {W:World} {base:Nat} {spare:Nat→Bool} {held:Bool} {fuel:Nat} {t:TypeId} {cs:List Value} {x:DataW H × List MemPlace} {fs:Array Field} (ht:P.underlying t=some (.struct fs))
  (h:DataW.trod enc P W base spare held fuel t cs=some x) (i:Nat) (f:Field) (hf:fs[i]? = some f):∃n y,DataW.trod enc P W base spare held n f.type ((cs.drop f.offset).take (P.cellsOf f.type))=some y:=by
 obtain ⟨xs,n,_,_,_,hlen,hfl⟩:=DataW.trod_struct ht h
 have hi:i < xs.length:=by rw [hlen];exact (Array.getElem?_eq_some_iff.1 hf).1
 exact ⟨n,xs[i],by rw [hfl i f hf,List.getElem?_eq_getElem hi]⟩
theorem Yb9 {H:Type} {enc:TypeId × Value→H} {P:Program} {W:World} {base:Nat} {spare:Nat→Bool} {held:Bool} {fuel:Nat} {t:TypeId} {cs:List Value} {x:DataW H × List MemPlace} {fs:Array Field} (ht:P.underlying t=some (.struct fs))
  (h:DataW.trod enc P W base spare held fuel t cs=some x):cs.length=P.cellsOf t:=by
 obtain ⟨xs,n,_,_,hl,_,_⟩:=DataW.trod_struct ht h
 exact hl
theorem YU0 {H:Type} {enc:TypeId × Value→H} {W:World} {α:Type} {f:α→List Value} {n:Nat} (hf:∀x,(f x).length=n) (hn:0 < n) {ts t:TypeId} (hu:Program.underlying Tryz.prog ts=some (.slice t)) (hco:Program.cellsOf Tryz.prog t=n)
  (hcell:∀fuel cs x,DataW.trod enc Tryz.prog W 0 (λ_=>true) true fuel t cs=some x→∃e,cs=f e) {d:DataW H} {ps:List MemPlace} {a:Option Addr} {l c:Nat}
  (h:DataW.Trod enc Tryz.prog W 0 (λ_=>true) true ts (.slice a l c) d ps):∃es:List α,SX f W.heap a l c es:=by
 obtain ⟨fuel,hf0⟩:=h
 rcases DataW.trod_slice hu hf0 with ⟨hcs,_⟩ | ⟨x,l1,c1,elems,rest,m,_,hcs,_,_,hl,hm,hlen,hel,_,_⟩
 ·simp [Value.cells] at hcs
  obtain ⟨rfl,rfl,rfl⟩:=hcs
  exact ⟨[],⟨Sees.nil _ _,rfl,Nat.le_refl _⟩⟩
 ·simp [Value.cells] at hcs
  obtain ⟨rfl,rfl,rfl⟩:=hcs
  have each:∀i,i < l→∃e:α,∀j v,(f e)[j]? = some v→Wa2 W.heap (x.add (i*n+j))=some v:=by
   intro i hi
   have:=hel i hi
   rw [List.getElem?_eq_getElem (by omega),Option.bind_eq_some_iff] at this
   obtain ⟨cs,h1,h2⟩:=this
   obtain ⟨e,rfl⟩:=hcell _ _ _ h2
   obtain ⟨_,h3,h4⟩:=World.cells?_some h1
   refine ⟨e,λj v hv=>?_⟩
   have hj:j < n:=by have:=(List.getElem?_eq_some_iff.1 hv).1;rwa [hf] at this
   rw [hco] at h1 h4
   have h5:=h4 j (by omega)
   rw [hv,WF6] at h5
   exact h5
  have pick:∀m,m≤l→∃es:List α,es.length=m∧∀i (hi:i < es.length),∀j v,(f es[i])[j]? = some v→Wa2 W.heap (x.add (i*n+j))=some v:=by
   intro m
   induction m with
   | zero=>intro _;exact ⟨[],rfl,λi hi=>by simp at hi⟩
   | succ m ih=>
    intro hm
    obtain ⟨es,h1,h2⟩:=ih (by omega)
    obtain ⟨e,he⟩:=each m (by omega)
    refine ⟨es ++ [e],by simp [h1],λi hi j v hv=>?_⟩
    by_cases e:i < es.length
    ·rw [List.getElem_append_left e] at hv
     exact h2 i e j v hv
    ·have:i=m:=by simp at hi;omega
     subst this
     rw [List.getElem_append_right (by omega)] at hv
     simp only [h1,Nat.sub_self,List.getElem_singleton] at hv
     exact he j v hv
  obtain ⟨es,h1,h2⟩:=pick l (Nat.le_refl _)
  refine ⟨es,⟨?_,h1,hl⟩⟩
  intro q v hq
  have hqlt:q < es.length*n:=by rw [← WQ1 hf];exact (List.getElem?_eq_some_iff.1 hq).1
  have hi:q / n < es.length:=(Nat.div_lt_iff_lt_mul hn).2 hqlt
  have e:=Wh4 hf hi (j:=q % n) (Nat.mod_lt _ hn)
  have e3:q / n*n+q % n=q:=by rw [Nat.mul_comm];exact Nat.div_add_mod q n
  rw [e3,hq] at e
  have:=h2 (q / n) hi (q % n) v e.symm
  rw [e3] at this
  exact ⟨x,rfl,this⟩
theorem Yc0:Program.cellsOf Tryz.prog 39=1:=by kernel_rfl
theorem Wi3:Program.cellsOf Tryz.prog 3=1:=by kernel_rfl
theorem W49:Program.cellsOf Tryz.prog 41=3:=by kernel_rfl
section
variable {H:Type} {enc:TypeId × Value→H} {W:World} {fuel:Nat} {cs:List Value} {x:DataW H × List MemPlace}
end
section
variable {H:Type} {enc:TypeId × Value→H} {W:World} {d:DataW H} {ps:List MemPlace} {a:Option Addr} {l c:Nat}
end
end
section
set_option maxRecDepth 100000
abbrev g59 (K:Value→Wa1→Prop) (h H1:Wa1):Prop:=
 (dl7 H1 h.size λa b c d e f g=>cf 98 #[.agg #[a,b,c,d,e,f,g]] H1 λa b=>Wg5 a λc=>Wc0 c 0 λc=>asAgg c λc=>We0 c 15 (Wn6 c λc d e f g i j k l m n o p q r=>Wg5 a λa=>Wc0 a 1 λa=>asInt .i64 a λa=>stH (Array.push b (.cells #[.int .i64 0,.int .i64 0,.int .i64 0,.int .i64 0,.int .i64 0,.int .i64 0,.int .i64 0,.int .i64 0,.int .i64 0,.int .i64 0,.int .i64 0,.int .i64 0,.int .i64 0,.int .i64 0,.int .i64 0] 117)) ⟨b.size,0,none⟩ c λc=>stH c ⟨b.size,1,none⟩ d λc=>stH c ⟨b.size,2,none⟩ e λc=>stH c ⟨b.size,3,none⟩ f λc=>stH c ⟨b.size,4,none⟩ g λc=>stH c ⟨b.size,5,none⟩ i λc=>stH c ⟨b.size,6,none⟩ j λc=>stH c ⟨b.size,7,none⟩ k λc=>stH c ⟨b.size,8,none⟩ l λc=>stH c ⟨b.size,9,none⟩ m λc=>stH c ⟨b.size,10,none⟩ n λc=>stH c ⟨b.size,11,none⟩ o λc=>stH c ⟨b.size,12,none⟩ p λc=>stH c ⟨b.size,13,none⟩ q λc=>stH c ⟨b.size,14,none⟩ r λb=>K (.int .i64 a) b))
def F59 (K:Value→Wa1→Prop) (h:Wa1) (xa xb xc xd xe xf xg:Int):Prop:=
 (g59 K h (Array.push h (.cells #[.int .i64 xa,.int .i64 xb,.int .i64 xc,.int .i64 xd,.int .i64 xe,.int .i64 xf,.int .i64 xg] 23)))
theorem call59 {K:Value→Wa1→Prop} {h:Wa1} {xa xb xc xd xe xf xg:Int} (H:F59 K h xa xb xc xd xe xf xg):Wa5 Tryz.prog 59 #[(.agg #[(.int .i64 xa),(.int .i64 xb),(.int .i64 xc),(.int .i64 xd),(.int .i64 xe),(.int .i64 xf),(.int .i64 xg)])] h K:=
 Wa4 Tryz.func59 (by kernel_rfl) (Eq.mp (by kernel_rfl) H)
abbrev g98 (K:Value→Wa1→Prop) (h H1 H2:Wa1):Prop:=
 (lI .i64 H2 ⟨h.size,0,none⟩ λa=>lI .i64 H2 ⟨h.size,1,none⟩ λb=>lI .i64 H2 ⟨h.size,2,none⟩ λc=>lI .i64 H2 ⟨h.size,3,none⟩ λd=>lI .i64 H2 ⟨h.size,4,none⟩ λe=>lI .i64 H2 ⟨h.size,5,none⟩ λf=>lI .i64 H2 ⟨h.size,6,none⟩ λg=>cf 138 #[.slice (some ⟨H2.size,0,none⟩) 7 7] (Array.push H2 (.cells #[.int .i64 a,.int .i64 0,.int .i64 2,.int .i64 b,.int .i64 1,.int .i64 6,.int .i64 c,.int .i64 1,.int .i64 64,.int .i64 d,.int .i64 1,.int .i64 6,.int .i64 e,.int .i64 1,.int .i64 16,.int .i64 f,.int .i64 1,.int .i64 16,.int .i64 g,.int .i64 1,.int .i64 64] 229)) λa b=>asBool a λa=>ifB (!a) (Zs6 b H1.size (.int .i64 0) (.int .i64 0) (.int .i64 0) (.int .i64 0) (.int .i64 0) (.int .i64 0) (.int .i64 0) (.int .i64 0) (.int .i64 0) (.int .i64 0) (.int .i64 0) (.int .i64 0) (.int .i64 0) (.int .i64 0) (.int .i64 0) λa=>WF8 a H1.size λc d e f g i j k l m n o p q r=>K (.tuple #[.agg #[c,d,e,f,g,i,j,k,l,m,n,o,p,q,r],.int .i64 6]) a) (dl7 b h.size λa c d e f g i=>lI .i64 b ⟨h.size,3,none⟩ λj=>lI .i64 b ⟨h.size,3,none⟩ λk=>stH (Array.push b (.cells #[.int .i64 0,.int .i64 0,.int .i64 0,.int .i64 0,.int .i64 0,.int .i64 0,.int .i64 0,.int .i64 0,.int .i64 0,.int .i64 0,.int .i64 0,.int .i64 0,.int .i64 0,.int .i64 0,.int .i64 0] 117)) ⟨b.size,0,none⟩ a λa=>stH a ⟨b.size,1,none⟩ c λa=>stH a ⟨b.size,2,none⟩ d λa=>stH a ⟨b.size,3,none⟩ e λa=>stH a ⟨b.size,4,none⟩ f λa=>stH a ⟨b.size,5,none⟩ g λa=>stH a ⟨b.size,6,none⟩ i λa=>stH a ⟨b.size,7,none⟩ (.int .i64 (IntKind.wrap .i64 ((IntKind.wrap .i64 (2*j))+2))) λa=>stH a ⟨b.size,8,none⟩ (.int .i64 (IntKind.wrap .i64 (5+k))) λa=>stH a ⟨b.size,9,none⟩ (.int .i64 2) λa=>stH a ⟨b.size,10,none⟩ (.int .i64 0) λa=>stH a ⟨b.size,11,none⟩ (.int .i64 0) λa=>stH a ⟨b.size,12,none⟩ (.int .i64 0) λa=>stH a ⟨b.size,13,none⟩ (.int .i64 0) λa=>stH a ⟨b.size,14,none⟩ (.int .i64 0) λa=>exI λI73=>(lI .i64 a ⟨h.size,0,none⟩ λc=>ifB (c == 0) (ldH a ⟨h.size,3,none⟩ λc=>asInt .i64 c λd=>((0:Int)≤d)∧(stH a ⟨b.size,7,none⟩ (.int .i64 2) λe=>ce e h.size 3 c (stH e ⟨b.size,8,none⟩ (.int .i64 3) λe=>ce e h.size 3 c (stH e ⟨b.size,9,none⟩ (.int .i64 0) λe=>ce e h.size 3 c (I73 [.int .i64 (IntKind.wrap .i64 (1*(2 ^ (min d.toNat 64))))] e))))) (I73 [.int .i64 0] a))∧(∀(a:Value) (c:Env) (c:Wa1),(I73 [a] c)→(lI .i64 c ⟨h.size,2,none⟩ λd=>lI .i64 c ⟨b.size,9,none⟩ λe=>ifB (decide (d≤e)) (Zs6 c H1.size (.int .i64 0) (.int .i64 0) (.int .i64 0) (.int .i64 0) (.int .i64 0) (.int .i64 0) (.int .i64 0) (.int .i64 0) (.int .i64 0) (.int .i64 0) (.int .i64 0) (.int .i64 0) (.int .i64 0) (.int .i64 0) (.int .i64 0) λd=>WF8 d H1.size λe f g i j k l m n o p q r s t=>K (.tuple #[.agg #[e,f,g,i,j,k,l,m,n,o,p,q,r,s,t],.int .i64 6]) d) (stH c ⟨b.size,10,none⟩ (.int .i64 8) λc=>lI .i64 c ⟨b.size,10,none⟩ λd=>lI .i64 c ⟨h.size,1,none⟩ λe=>lI .i64 c ⟨b.size,7,none⟩ λf=>stH c ⟨b.size,11,none⟩ (.int .i64 (IntKind.wrap .i64 (d+(IntKind.wrap .i64 (e*f))))) λc=>lI .i64 c ⟨b.size,11,none⟩ λd=>lI .i64 c ⟨h.size,2,none⟩ λe=>stH c ⟨b.size,12,none⟩ (.int .i64 (IntKind.wrap .i64 (d+e))) λc=>lI .i64 c ⟨b.size,12,none⟩ λd=>lI .i64 c ⟨h.size,2,none⟩ λe=>lI .i64 c ⟨b.size,8,none⟩ λf=>stH c ⟨b.size,13,none⟩ (.int .i64 (IntKind.wrap .i64 (d+(IntKind.wrap .i64 (e*f))))) λc=>lI .i64 c ⟨b.size,13,none⟩ λd=>asInt .i64 a λa=>stH c ⟨b.size,14,none⟩ (.int .i64 (IntKind.wrap .i64 (d+a))) λa=>WF8 a b.size λb c d e f g i j k l m n o p q=>Zs6 a H1.size b c d e f g i j k l m n o p q λa=>WF8 a H1.size λb c d e f g i j k l m n o p q=>K (.tuple #[.agg #[b,c,d,e,f,g,i,j,k,l,m,n,o,p,q],.int .i64 0]) a)))))
def F98 (K:Value→Wa1→Prop) (h:Wa1) (xa xb xc xd xe xf xg:Int):Prop:=
 (g98 K h (Array.push h (.cells #[.int .i64 xa,.int .i64 xb,.int .i64 xc,.int .i64 xd,.int .i64 xe,.int .i64 xf,.int .i64 xg] 23)) (Array.push (Array.push h (.cells #[.int .i64 xa,.int .i64 xb,.int .i64 xc,.int .i64 xd,.int .i64 xe,.int .i64 xf,.int .i64 xg] 23)) (.cells #[.int .i64 0,.int .i64 0,.int .i64 0,.int .i64 0,.int .i64 0,.int .i64 0,.int .i64 0,.int .i64 0,.int .i64 0,.int .i64 0,.int .i64 0,.int .i64 0,.int .i64 0,.int .i64 0,.int .i64 0] 117)))
theorem call98 {K:Value→Wa1→Prop} {h:Wa1} {xa xb xc xd xe xf xg:Int} (H:F98 K h xa xb xc xd xe xf xg):Wa5 Tryz.prog 98 #[(.agg #[(.int .i64 xa),(.int .i64 xb),(.int .i64 xc),(.int .i64 xd),(.int .i64 xe),(.int .i64 xf),(.int .i64 xg)])] h K:=
 Wa4 Tryz.func98 (by kernel_rfl) (Eq.mp (by kernel_rfl) H)
def F138 (K:Value→Wa1→Prop) (h:Wa1) (xa:Option Addr) (xb xc:Nat):Prop:=
 (exI λI0=>exM λm1=>(I0 [.bool false,.int .i64 0] h)∧(∀(a b:Value) (c:Env) (c:Wa1),(I0 [a,b] c)→(asInt .i64 b λd=>ifB (decide (d < ((xb:Nat):Int))) (asI b λd=>bd d ((xb:Nat):Int) (Wd2 (.pointer xa) λe=>ldH c (Addr.add e (d.toNat*3)) λf=>ldH c (Addr.add (Addr.add e (d.toNat*3)) 1) λg=>ldH c (Addr.add (Addr.add e (d.toNat*3)) 2) λd=>stH (Array.push c (.cells #[.int .i64 0,.int .i64 0,.int .i64 0] 229)) ⟨c.size,0,none⟩ f λe=>stH e ⟨c.size,1,none⟩ g λe=>stH e ⟨c.size,2,none⟩ d λd=>exI λI15=>(lI .i64 d ⟨c.size,0,none⟩ λe=>lI .i64 d ⟨c.size,1,none⟩ λf=>ifB (decide (e < f)) (I15 [.bool true] d) (lI .i64 d ⟨c.size,0,none⟩ λe=>lI .i64 d ⟨c.size,2,none⟩ λf=>I15 [.bool (decide (e > f))] d))∧(∀(d:Value) (e:Env) (e:Wa1),(I15 [d] e)→(asBool d λd=>ifB d (K (.bool false) e) (asInt .i64 b λd=>(I0 [a,.int .i64 (IntKind.wrap .i64 (d+1))] e)∧((m1 [a,.int .i64 (IntKind.wrap .i64 (d+1))] e) < (m1 [a,b] c))))))) (K (.bool true) c))))
theorem call138 {K:Value→Wa1→Prop} {h:Wa1} {xa:Option Addr} {xb xc:Nat} (H:F138 K h xa xb xc):Wa5 Tryz.prog 138 #[(.slice xa xb xc)] h K:=
 Wa4 Tryz.func138 (by kernel_rfl) (Eq.mp (by kernel_rfl) H)
abbrev g9 (K:Value→Wa1→Prop) (h H1:Wa1):Prop:=
 (exI λI0=>(lI .i64 H1 ⟨h.size,0,none⟩ λa=>ifB (decide (a < 0)) (I0 [.bool true,.bool true,.bool true,.bool true,.bool true,.bool true,.bool true] H1) (lI .i64 H1 ⟨h.size,0,none⟩ λa=>ifB (decide (a > 2)) (I0 [.bool (decide (a > 2)),.bool true,.bool true,.bool true,.bool true,.bool true,.bool true] H1) (lI .i64 H1 ⟨h.size,1,none⟩ λb=>ifB (decide (b < 1)) (I0 [.bool (decide (a > 2)),.bool (decide (b < 1)),.bool true,.bool true,.bool true,.bool true,.bool true] H1) (lI .i64 H1 ⟨h.size,1,none⟩ λc=>ifB (decide (c > 6)) (I0 [.bool (decide (a > 2)),.bool (decide (b < 1)),.bool (decide (c > 6)),.bool true,.bool true,.bool true,.bool true] H1) (lI .i64 H1 ⟨h.size,2,none⟩ λd=>ifB (decide (d < 1)) (I0 [.bool (decide (a > 2)),.bool (decide (b < 1)),.bool (decide (c > 6)),.bool (decide (d < 1)),.bool true,.bool true,.bool true] H1) (lI .i64 H1 ⟨h.size,2,none⟩ λe=>ifB (decide (e > 64)) (I0 [.bool (decide (a > 2)),.bool (decide (b < 1)),.bool (decide (c > 6)),.bool (decide (d < 1)),.bool (decide (e > 64)),.bool true,.bool true] H1) (lI .i64 H1 ⟨h.size,3,none⟩ λf=>ifB (decide (f < 1)) (I0 [.bool (decide (a > 2)),.bool (decide (b < 1)),.bool (decide (c > 6)),.bool (decide (d < 1)),.bool (decide (e > 64)),.bool (decide (f < 1)),.bool true] H1) (lI .i64 H1 ⟨h.size,3,none⟩ λg=>I0 [.bool (decide (a > 2)),.bool (decide (b < 1)),.bool (decide (c > 6)),.bool (decide (d < 1)),.bool (decide (e > 64)),.bool (decide (f < 1)),.bool (decide (g > 6))] H1))))))))∧(∀(a b c d e f g:Value) (i:Env) (i:Wa1),(I0 [a,b,c,d,e,f,g] i)→(asBool g λa=>ifB a (K (.bool false) i) (exI λI27=>(lI .i64 i ⟨h.size,4,none⟩ λa=>ifB (decide (a < 1)) (I27 [.bool true,.bool true,.bool true,.bool true,.bool true] i) (lI .i64 i ⟨h.size,4,none⟩ λa=>ifB (decide (a > 16)) (I27 [.bool (decide (a > 16)),.bool true,.bool true,.bool true,.bool true] i) (lI .i64 i ⟨h.size,5,none⟩ λb=>ifB (decide (b < 1)) (I27 [.bool (decide (a > 16)),.bool (decide (b < 1)),.bool true,.bool true,.bool true] i) (lI .i64 i ⟨h.size,5,none⟩ λc=>ifB (decide (c > 16)) (I27 [.bool (decide (a > 16)),.bool (decide (b < 1)),.bool (decide (c > 16)),.bool true,.bool true] i) (lI .i64 i ⟨h.size,6,none⟩ λd=>ifB (decide (d < 1)) (I27 [.bool (decide (a > 16)),.bool (decide (b < 1)),.bool (decide (c > 16)),.bool (decide (d < 1)),.bool true] i) (lI .i64 i ⟨h.size,6,none⟩ λe=>I27 [.bool (decide (a > 16)),.bool (decide (b < 1)),.bool (decide (c > 16)),.bool (decide (d < 1)),.bool (decide (e > 64))] i))))))∧(∀(a b c d e:Value) (f:Env) (f:Wa1),(I27 [a,b,c,d,e] f)→(asBool e λa=>ifB a (K (.bool false) f) (ldH f ⟨h.size,2,none⟩ λa=>asInt .i64 a λb=>dl7 f h.size λc d e g i j k=>cf 28 #[.agg #[c,d,e,g,i,j,k]] f λc d=>asInt .i64 c λc=>ce d h.size 2 a (K (.bool (decide (b > c))) d))))))))
def F9 (K:Value→Wa1→Prop) (h:Wa1) (xa xb xc xd xe xf xg:Int):Prop:=
 (g9 K h (Array.push h (.cells #[.int .i64 xa,.int .i64 xb,.int .i64 xc,.int .i64 xd,.int .i64 xe,.int .i64 xf,.int .i64 xg] 23)))
theorem call9 {K:Value→Wa1→Prop} {h:Wa1} {xa xb xc xd xe xf xg:Int} (H:F9 K h xa xb xc xd xe xf xg):Wa5 Tryz.prog 9 #[(.agg #[(.int .i64 xa),(.int .i64 xb),(.int .i64 xc),(.int .i64 xd),(.int .i64 xe),(.int .i64 xf),(.int .i64 xg)])] h K:=
 Wa4 Tryz.func9 (by kernel_rfl) (Eq.mp (by kernel_rfl) H)
abbrev g28 (K:Value→Wa1→Prop) (h H1:Wa1):Prop:=
 (lI .i64 H1 ⟨h.size,0,none⟩ λa=>ifB (a == 0) (K (.int .i64 0) H1) (K (.int .i64 2) H1))
def F28 (K:Value→Wa1→Prop) (h:Wa1) (xa xb xc xd xe xf xg:Int):Prop:=
 (g28 K h (Array.push h (.cells #[.int .i64 xa,.int .i64 xb,.int .i64 xc,.int .i64 xd,.int .i64 xe,.int .i64 xf,.int .i64 xg] 23)))
theorem call28 {K:Value→Wa1→Prop} {h:Wa1} {xa xb xc xd xe xf xg:Int} (H:F28 K h xa xb xc xd xe xf xg):Wa5 Tryz.prog 28 #[(.agg #[(.int .i64 xa),(.int .i64 xb),(.int .i64 xc),(.int .i64 xd),(.int .i64 xe),(.int .i64 xf),(.int .i64 xg)])] h K:=
 Wa4 Tryz.func28 (by kernel_rfl) (Eq.mp (by kernel_rfl) H)
end
section
abbrev W10 (X Y Z:Nat→Int) (i:Nat):Prop:=Y i≤X i∧X i≤Z i
theorem Ym4 {K:Value→Wa1→Prop} {h:Wa1} {a:Addr} {l c:Nat} {X Y Z:Nat→Int} (hl:l≤1000)
  (H:∀i,i < l→Wa2 h (a.add (i*3))=some (iv (X i))∧Wa2 h ((a.add (i*3)).add 1)=some (iv (Y i))∧Wa2 h ((a.add (i*3)).add 2)=some (iv (Z i)))
  (k1:(∀i,i < l→W10 X Y Z i)→∀h',Old h.size h h'→K (.bool true) h') (k0:(∃i,i < l∧¬ W10 X Y Z i)→∀h',Old h.size h h'→K (.bool false) h') :
  Wa5 Tryz.prog 138 #[.slice (some a) l c] h K:=by
 refine call138 ?_
 unfold F138 bd lI
 refine ⟨λvs h'=>∃i:Nat,vs = [.bool false,iv i]∧Old h.size h h'∧i≤l∧∀j,j < i→W10 X Y Z j,λvs _=>(match vs with | [_,.int _ n]=>l - n.toNat | _=>0),⟨0,rfl,Old.refl _ _,Nat.zero_le _,λj hj=>by omega⟩,?_⟩
 rintro v2 v3 g h5 ⟨i,e,ho,hi,hall⟩
 cases e
 simp only [Wa6,WF7]
 refine Wa3 (λhlt=>?_) (λhge=>?_)
 ·obtain ⟨e1,e2,e3⟩:=H i (by omega)
  refine ⟨by omega,hlt,?_⟩
  simp only [Wb2,Int.toNat_natCast]
  refine Wc5 (Wx9 _ _ ho e1) (Wc5 (Wx9 _ _ ho e2) (Wc5 (Wx9 _ _ ho e3) ?_))
  have p:=Wf6 h5 #[.int .i64 0,.int .i64 0,.int .i64 0] 229
  generalize h5.push (.cells #[.int .i64 0,.int .i64 0,.int .i64 0] 229)=hp at *
  refine st3 (Wd3 p.new rfl (by simp [Wi5]) λh14 w=>?_)
  have o14:Old h.size h h14:=w.toOld (ho.trans (p.toOld.mono ho.1)) ho.1
  refine ⟨λvs h'=>vs = [.bool (decide (¬ W10 X Y Z i))]∧h' = h14,?_,?_⟩
  ·refine ldR w.new rfl ?_
   simp only [Wa6]
   refine ldR w.new rfl ?_
   simp only [Wa6]
   refine Wa3 (λh1=>⟨?_,by trivial⟩) (λh1=>?_)
   ·rw [decide_eq_true (by unfold W10;omega)]
   ·refine ldR w.new rfl ?_
    simp only [Wa6]
    refine ldR w.new rfl ?_
    simp only [Wa6]
    refine ⟨?_,by trivial⟩
    congr 2;rw [decide_eq_decide];unfold W10;omega
  ·rintro v24 g25 h26 ⟨e,rfl⟩
   cases e
   simp only [Wa9]
   refine Wa3 (λh1=>k0 ⟨i,by omega,h1⟩ _ o14) (λh1=>?_)
   rw [Wl7 (by omega)]
   refine ⟨⟨i+1,rfl,o14,by omega,λj hj=>?_⟩,?_⟩
   ·by_cases hji:j < i
    ·exact hall j hji
    ·rw [show j=i by omega];exact Decidable.of_not_not h1
   ·show l - ((i+1:Nat):Int).toNat < l - (i:Int).toNat
    omega
 ·exact k1 (λj hj=>hall j (by omega)) _ ho
structure Cf where
 a:Int
 t:Int
 n:Int
 l:Int
 b:Int
 p:Int
 s:Int
def Cf.sent (c:Cf):Int:=if c.a=0 then 0 else 2
def Cf.slots (c:Cf):Int:=if c.a=0 then 2 else 2*c.l+2
def Cf.width (c:Cf):Int:=if c.a=0 then 3 else 5+c.l
def Cf.links (c:Cf):Int:=8+c.t*c.slots
def Cf.nodes (c:Cf):Int:=c.links+c.n
def Cf.tree (c:Cf):Int:=c.nodes+c.n*c.width
def Cf.size (c:Cf):Int:=c.tree+(if c.a=0 then 2 ^ c.l.toNat else 0)
structure Cf.Right (c:Cf):Prop where
 a:0≤c.a∧c.a≤2
 t:1≤c.t∧c.t≤6
 n:1≤c.n∧c.n≤64
 l:1≤c.l∧c.l≤6
 b:1≤c.b∧c.b≤16
 p:1≤c.p∧c.p≤16
 s:1≤c.s∧c.s≤64
 z:c.sent < c.n
abbrev Cf.vals (c:Cf):Array Value:=#[.int .i64 c.a,.int .i64 c.t,.int .i64 c.n,.int .i64 c.l,.int .i64 c.b,.int .i64 c.p,.int .i64 c.s]
abbrev Cf.plan (c:Cf):Array Value:=#[.int .i64 c.a,.int .i64 c.t,.int .i64 c.n,.int .i64 c.l,.int .i64 c.b,.int .i64 c.p,.int .i64 c.s,.int .i64 c.slots,.int .i64 c.width,.int .i64 c.sent,.int .i64 8,.int .i64 c.links,.int .i64 c.nodes,.int .i64 c.tree,.int .i64 c.size]
abbrev Wj8:Array Value:=#[.int .i64 0,.int .i64 0,.int .i64 0,.int .i64 0,.int .i64 0,.int .i64 0,.int .i64 0,.int .i64 0,.int .i64 0,.int .i64 0,.int .i64 0,.int .i64 0,.int .i64 0,.int .i64 0,.int .i64 0]
theorem Yy4 {K:Value→Wa1→Prop} {h:Wa1} (c:Cf) (k1:c.Right→∀h',Old h.size h h'→K (.tuple #[.agg c.plan,.int .i64 0]) h') (k0:¬ c.Right→∀h',Old h.size h h'→K (.tuple #[.agg Wj8,.int .i64 6]) h') :
  Wa5 Tryz.prog 98 #[.agg c.vals] h K:=by
 refine call98 ?_
 unfold F98 g98 cf ce lI dl7 WF8 Zs6
 have p1:=Wf6 h c.vals 23
 rw [show h.push (.cells #[.int .i64 c.a,.int .i64 c.t,.int .i64 c.n,.int .i64 c.l,.int .i64 c.b,.int .i64 c.p,.int .i64 c.s] 23)=h.push (.cells c.vals 23) from rfl]
 generalize h.push (.cells c.vals 23)=h1 at *
 have p2:=Wf6 h1 Wj8 117
 rw [show h1.push (.cells #[.int .i64 0,.int .i64 0,.int .i64 0,.int .i64 0,.int .i64 0,.int .i64 0,.int .i64 0,.int .i64 0,.int .i64 0,.int .i64 0,.int .i64 0,.int .i64 0,.int .i64 0,.int .i64 0,.int .i64 0] 117)=h1.push (.cells Wj8 117) from rfl]
 generalize h1.push (.cells Wj8 117)=h2 at *
 have s1:=p1.size
 have s2:=p2.size
 have c2:h2[h.size]? = some (.cells c.vals 23):=(p2.old _ (by omega)).trans p1.new
 have o2:Old h.size h h2:=p1.toOld.trans (p2.toOld.mono (by omega))
 rw [s1]
 have n2:h2[h.size+1]? = some (.cells Wj8 117):=by rw [← s1];exact p2.new
 iterate 7 (refine ldR c2 rfl ?_;simp only [Wa6])
 have p3:=Wf6 h2 #[.int .i64 c.a,.int .i64 0,.int .i64 2,.int .i64 c.t,.int .i64 1,.int .i64 6,.int .i64 c.n,.int .i64 1,.int .i64 64,.int .i64 c.l,.int .i64 1,.int .i64 6,.int .i64 c.b,.int .i64 1,.int .i64 16,.int .i64 c.p,.int .i64 1,.int .i64 16,.int .i64 c.s,.int .i64 1,.int .i64 64] 229
 generalize h2.push (.cells #[.int .i64 c.a,.int .i64 0,.int .i64 2,.int .i64 c.t,.int .i64 1,.int .i64 6,.int .i64 c.n,.int .i64 1,.int .i64 64,.int .i64 c.l,.int .i64 1,.int .i64 6,.int .i64 c.b,.int .i64 1,.int .i64 16,.int .i64 c.p,.int .i64 1,.int .i64 16,.int .i64 c.s,.int .i64 1,.int .i64 64] 229)=h3 at *
 have o3:Old h2.size h2 h3:=p3.toOld
 have c3:=(o3.2 _ (by omega)).trans c2
 have n3:=(o3.2 _ (by omega)).trans n2
 have nothing:∀(h':Wa1) (row:Array Value),Old h.size h h'→h'[h.size+1]? = some (.cells row 117)→row.size=15→¬ c.Right→∀(F:Wa1→Prop),(∀h'',Old h.size h h''→h''[h.size+1]? = some (.cells Wj8 117)→F h'') →
   stN h' ⟨h.size+1,0,none⟩ 0 Wj8.toList F:=by
  intro h' row o hb hr hn F hF
  refine Wd3 hb (by rw [hr];rfl) (by simp [Wi5]) λh'' w=>?_
  exact hF _ (w.toOld o (by omega)) (by simpa using w.new)
 refine Wa0 (Ym4 (X:=λi=>[c.a,c.t,c.n,c.l,c.b,c.p,c.s].getD i 0) (Y:=λi=>[0,1,1,1,1,1,1].getD i 0) (Z:=λi=>[2,6,64,6,16,16,64].getD i 0) (by omega) ?_ (λhall h15 o15=>?_) (λhex h15 o15=>?_))
 ·intro i hi
  simp only [Wc6]
  have:i=0∨i=1∨i=2∨i=3∨i=4∨i=5∨i=6:=by omega
  rcases this with rfl | rfl | rfl | rfl | rfl | rfl | rfl <;> exact ⟨Wd4 p3.new rfl,Wd4 p3.new rfl,Wd4 p3.new rfl⟩
 ·
  have q0:0≤c.a∧c.a≤2:=hall 0 (by omega)
  have q1:1≤c.t∧c.t≤6:=hall 1 (by omega)
  have q2:1≤c.n∧c.n≤64:=hall 2 (by omega)
  have q3:1≤c.l∧c.l≤6:=hall 3 (by omega)
  have q4:1≤c.b∧c.b≤16:=hall 4 (by omega)
  have q5:1≤c.p∧c.p≤16:=hall 5 (by omega)
  have q6:1≤c.s∧c.s≤64:=hall 6 (by omega)
  have s3:=p3.size
  have c15:=(o15.2 _ (by omega)).trans c3
  have n15:=(o15.2 _ (by omega)).trans n3
  have ok15:Old h.size h h15:=(o2.trans (o3.mono (by omega))).trans (o15.mono (by omega))
  have hs15:h.size+3≤h15.size:=by have:=o15.1;omega
  simp only [Wa9,Bool.not_true,Wc8]
  iterate 7 (refine ldR c15 rfl ?_)
  refine ldR c15 rfl ?_
  simp only [Wa6]
  refine ldR c15 rfl ?_
  simp only [Wa6]
  have p4:=Wf6 h15 Wj8 117
  rw [show h15.push (.cells #[.int .i64 0,.int .i64 0,.int .i64 0,.int .i64 0,.int .i64 0,.int .i64 0,.int .i64 0,.int .i64 0,.int .i64 0,.int .i64 0,.int .i64 0,.int .i64 0,.int .i64 0,.int .i64 0,.int .i64 0] 117)=h15.push (.cells Wj8 117) from rfl]
  generalize h15.push (.cells Wj8 117)=h16 at *
  refine Za6 (Wd3 p4.new rfl (by simp [Wi5]) λh72 w72=>?_)
  have c72:=(w72.old h.size (by omega)).trans ((p4.old _ (by omega)).trans c15)
  have n72:=(w72.old (h.size+1) (by omega)).trans ((p4.old _ (by omega)).trans n15)
  have o72:Old h.size h h72:=w72.toOld (ok15.trans (p4.toOld.mono ok15.1)) ok15.1
  have e1:IntKind.wrap .i64 (2*c.l)=2*c.l:=Wc2 (by omega) (by omega)
  have e2:IntKind.wrap .i64 (2*c.l+2)=2*c.l+2:=Wc2 (by omega) (by omega)
  have e3:IntKind.wrap .i64 (5+c.l)=5+c.l:=Wc2 (by omega) (by omega)
  have w72':=w72.new
  simp only [e1,e2,e3] at w72'
  refine ⟨λvs h'=>vs = [iv (if c.a=0 then 2 ^ c.l.toNat else 0)]∧Old h.size h h'∧h'.size=h72.size∧h'[h.size]? = some (.cells c.vals 23)∧h'[h.size+1]? = some (.cells Wj8 117) ∧
   h'[h15.size]? = some (.cells #[.int .i64 c.a,.int .i64 c.t,.int .i64 c.n,.int .i64 c.l,.int .i64 c.b,.int .i64 c.p,.int .i64 c.s,.int .i64 c.slots,.int .i64 c.width,.int .i64 c.sent,.int .i64 0,.int .i64 0,.int .i64 0,.int .i64 0,.int .i64 0] 117),?_,?_⟩
  ·refine ldR c72 rfl ?_
   simp only [Wa6]
   refine Wb7 (λha=>?_) (λha=>?_)
   ·have ha:c.a=0:=by simpa using ha
    refine ldR c72 rfl ?_
    simp only [Wa6]
    refine ⟨by omega,stR w72' rfl trivial λh78 w78=>?_⟩
    refine ⟨Wd4 ((w78.old _ (by omega)).trans c72) rfl,stR w78.new rfl trivial λh79 w79=>?_⟩
    refine ⟨Wd4 ((w79.old _ (by omega)).trans ((w78.old _ (by omega)).trans c72)) rfl,stR w79.new rfl trivial λh80 w80=>?_⟩
    have w:=(w78.trans w79).trans w80
    refine ⟨Wd4 ((w.old _ (by omega)).trans c72) rfl,?_,w.toOld o72 ok15.1,w.size,(w.old _ (by omega)).trans c72,(w.old _ (by omega)).trans n72,?_⟩
    ·rw [if_pos ha]
     congr 2
     have:c.l.toNat≤6:=by omega
     rw [Int.one_mul,show min c.l.toNat 64=c.l.toNat by omega]
     have:∀k:Nat,k≤6→IntKind.wrap .i64 ((2:Int) ^ k)=2 ^ k:=by decide
     exact this _ (by omega)
    ·rw [w.new]
     simp only [Cf.slots,Cf.width,Cf.sent,if_pos ha]
     rfl
   ·have ha:c.a≠0:=by simpa using ha
    refine ⟨?_,o72,by trivial,c72,n72,?_⟩
    ·rw [if_neg ha]
    ·rw [w72']
     simp only [Cf.slots,Cf.width,Cf.sent,if_neg ha]
  rintro v81 g82 h83 ⟨e,o83,s83,c83,n83,m83⟩
  cases e
  refine ldR c83 rfl ?_
  simp only [Wa6]
  refine ldR m83 rfl ?_
  simp only [Wa6]
  refine Wa3 (λhz=>?_) (λhz=>?_)
  ·have hn:¬ c.Right:=λr=>by have:=r.z;omega
   refine Za6 (nothing h83 Wj8 o83 n83 rfl hn _ λh102 o102 n102=>?_)
   iterate 15 (refine ldR n102 rfl ?_)
   exact k0 hn _ o102
  ·have hr:c.Right:=⟨q0,q1,q2,q3,q4,q5,q6,by omega⟩
   have hslots:2≤c.slots∧c.slots≤14:=by unfold Cf.slots;split <;> omega
   have hwidth:3≤c.width∧c.width≤11:=by unfold Cf.width;split <;> omega
   have m1:c.t*c.slots≤6*14:=Int.mul_le_mul q1.2 hslots.2 (by omega) (by omega)
   have m2:0≤c.t*c.slots:=Int.mul_nonneg (by omega) (by omega)
   have m3:c.n*c.width≤64*11:=Int.mul_le_mul q2.2 hwidth.2 (by omega) (by omega)
   have m4:0≤c.n*c.width:=Int.mul_nonneg (by omega) (by omega)
   have m5:∀k:Nat,k≤6→0≤(2:Int) ^ k∧(2:Int) ^ k≤64:=by decide
   have m6:=m5 c.l.toNat (by omega)
   refine stR m83 rfl trivial λh118 w118=>?_
   have c118:=(w118.old h.size (by omega)).trans c83
   refine ldR w118.new rfl ?_
   simp only [Wa6]
   refine ldR c118 rfl ?_
   simp only [Wa6]
   refine ldR w118.new rfl ?_
   simp only [Wa6]
   rw [Wc2 (n:=c.t*c.slots) (by omega) (by omega),Wc2 (n:=8+c.t*c.slots) (by omega) (by omega)]
   refine stR w118.new rfl trivial λh125 w125=>?_
   have c125:=(w125.old h.size (by omega)).trans c118
   refine ldR w125.new rfl ?_
   simp only [Wa6]
   refine ldR c125 rfl ?_
   simp only [Wa6]
   rw [Wc2 (n:=8+c.t*c.slots+c.n) (by omega) (by omega)]
   refine stR w125.new rfl trivial λh130 w130=>?_
   have c130:=(w130.old h.size (by omega)).trans c125
   refine ldR w130.new rfl ?_
   simp only [Wa6]
   refine ldR c130 rfl ?_
   simp only [Wa6]
   refine ldR w130.new rfl ?_
   simp only [Wa6]
   rw [Wc2 (n:=c.n*c.width) (by omega) (by omega),Wc2 (n:=8+c.t*c.slots+c.n+c.n*c.width) (by omega) (by omega)]
   refine stR w130.new rfl trivial λh137 w137=>?_
   refine ldR w137.new rfl ?_
   simp only [Wa6]
   have m7:0≤(if c.a=0 then (2:Int) ^ c.l.toNat else 0)∧(if c.a=0 then (2:Int) ^ c.l.toNat else 0)≤64:=by split <;> omega
   rw [Wc2 (n:=8+c.t*c.slots+c.n+c.n*c.width+(if c.a=0 then (2:Int) ^ c.l.toNat else 0)) (by omega) (by omega)]
   refine stR w137.new rfl trivial λh141 w141=>?_
   have w:=(((w118.trans w125).trans w130).trans w137).trans w141
   have r141:h141[h15.size]? = some (.cells c.plan 117):=by
    rw [w.new];rfl
   have n141:=(w.old (h.size+1) (by omega)).trans n83
   iterate 15 (refine ldR r141 rfl ?_)
   refine Za6 (Wd3 n141 rfl (by simp [Wi5]) λh171 w171=>?_)
   iterate 15 (refine ldR w171.new rfl ?_)
   exact k1 hr _ (w171.toOld (w.toOld o83 (by omega)) (by omega))
 ·
  have hn:¬ c.Right:=by
   intro r
   obtain ⟨i,hi,hx⟩:=hex
   have:i=0∨i=1∨i=2∨i=3∨i=4∨i=5∨i=6:=by omega
   rcases this with rfl | rfl | rfl | rfl | rfl | rfl | rfl
   ·exact hx r.a
   ·exact hx r.t
   ·exact hx r.n
   ·exact hx r.l
   ·exact hx r.b
   ·exact hx r.p
   ·exact hx r.s
  have s3:=p3.size
  have n15:=(o15.2 _ (by omega)).trans n3
  have ok15:Old h.size h h15:=(o2.trans (o3.mono (by omega))).trans (o15.mono (by omega))
  simp only [Wa9,Bool.not_false,Wd8]
  refine Za6 (nothing h15 Wj8 ok15 n15 rfl hn _ λh31 o31 n31=>?_)
  iterate 15 (refine ldR n31 rfl ?_)
  exact k0 hn _ o31
end
section
open Go.ChangeShapes Go.WideShapes Go.ChangeAt Go.RowKit
end
section
abbrev W86:=Nat→Option Obj
def Hp:=W86→Prop
def Nd (_:Obj):Prop:=∀_:Unit,False→False
def Sub (σ:W86) (h:Wa1):Prop:=∀b o,σ b=some o→h[b]? = some o∧Nd o
theorem Sub.mk {σ:W86} {h:Wa1} (s:∀b o,σ b=some o→h[b]? = some o) (d:∀b o,σ b=some o→Nd o):Sub σ h:=λb o e=>⟨s b o e,d b o e⟩
theorem Sub.at {σ:W86} {h:Wa1} (s:Sub σ h) (b:Nat) (o:Obj) (e:σ b=some o):h[b]? = some o:=(s b o e).1
theorem Sub.nd {σ:W86} {h:Wa1} (s:Sub σ h) (b:Nat) (o:Obj) (e:σ b=some o):Nd o:=(s b o e).2
def Sat (h:Wa1) (P:Hp):Prop:=∃σ,Sub σ h∧P σ
def uni (σ τ:W86):W86:=λb=>(σ b).or (τ b)
def dis (σ τ:W86):Prop:=∀b,σ b=none∨τ b=none
instance:Mul Hp:=⟨λP Q ρ=>∃σ τ,dis σ τ∧ρ=uni σ τ∧P σ∧Q τ⟩
def emp:Hp:=λσ=>σ=λ_=>none
def ex {α:Type} (P:α→Hp):Hp:=λσ=>∃a,P a σ
def pr (p:Prop) (P:Hp):Hp:=λσ=>p∧P σ
def pt (b:Nat) (o:Obj):Hp:=λσ=>∀c,σ c=if c=b then some o else none
def lift (D:Nat→Prop) (F:Wa1→Prop):Hp:=λσ=>(∀b,D b↔σ b≠none)∧∀h,Sub σ h→F h
theorem Ze2 {σ τ:W86} (d:dis σ τ):dis τ σ:=λb=>(d b).symm
theorem Ze3 {σ τ:W86} (d:dis σ τ):uni σ τ=uni τ σ:=by
 funext b
 unfold uni
 rcases d b with e | e <;> rw [e] <;> simp
theorem Yc1 (σ τ ρ:W86):uni (uni σ τ) ρ=uni σ (uni τ ρ):=by
 funext b;unfold uni;cases σ b <;> simp
theorem Wu5 {σ τ:W86} {b:Nat}:uni σ τ b=none↔σ b=none∧τ b=none:=by unfold uni;cases σ b <;> simp
theorem Ww4 (P Q:Hp):P*Q=Q*P:=by
 have key:∀(P Q:Hp) ρ,(P*Q) ρ→(Q*P) ρ:=λP Q ρ ⟨σ,τ,d,e,p,q⟩=>⟨τ,σ,Ze2 d,e.trans (Ze3 d),q,p⟩
 funext ρ
 exact propext ⟨key P Q ρ,key Q P ρ⟩
theorem Wc9 (P Q R:Hp):P*Q*R=P*(Q*R):=by
 funext ρ
 refine propext ⟨?_,?_⟩
 ·rintro ⟨_,ξ,d,rfl,⟨σ,τ,d2,rfl,p,q⟩,r⟩
  refine ⟨σ,uni τ ξ,λb=>?_,Yc1 _ _ _,p,τ,ξ,λb=>?_,rfl,q,r⟩
  ·rcases d b with e | e
   ·exact .inl (Wu5.1 e).1
   ·rcases d2 b with e2 | e2
    ·exact .inl e2
    ·exact .inr (Wu5.2 ⟨e2,e⟩)
  ·rcases d b with e | e
   ·exact .inl (Wu5.1 e).2
   ·exact .inr e
 ·rintro ⟨σ,_,d,rfl,p,τ,ξ,d2,rfl,q,r⟩
  refine ⟨uni σ τ,ξ,λb=>?_,(Yc1 _ _ _).symm,⟨σ,τ,λb=>?_,rfl,p,q⟩,r⟩
  ·rcases d b with e | e
   ·rcases d2 b with e2 | e2
    ·exact .inl (Wu5.2 ⟨e,e2⟩)
    ·exact .inr e2
   ·exact .inr (Wu5.1 e).2
  ·exact (d b).imp id λe=>(Wu5.1 e).1
instance:Std.Associative (α:=Hp) (· * ·):=⟨Wc9⟩
instance:Std.Commutative (α:=Hp) (· * ·):=⟨Ww4⟩
theorem Sat.ac {h:Wa1} {P Q:Hp} (H:Sat h P) (e:P=Q):Sat h Q:=e ▸ H
theorem Wb4 (P Q R:Hp):P*(Q*R)=Q*(P*R):=by rw [← Wc9,Ww4 P Q,Wc9]
theorem YF7 (A B C R:Hp):A*(B*(C*R))=C*(A*(B*R)):=by rw [Wb4 B C,Wb4 A C]
theorem ZB8 (A B C D R:Hp):A*(B*(C*(D*R)))=D*(A*(B*(C*R))):=by rw [Wb4 C D,Wb4 B D,Wb4 A D]
theorem Wk8 (P:Hp):emp*P=P:=by
 funext ρ
 refine propext ⟨?_,λp=>⟨λ_=>none,ρ,λb=>.inl rfl,by funext b;simp [uni],rfl,p⟩⟩
 rintro ⟨_,τ,d,rfl,rfl,p⟩
 have:uni (λ_=>none) τ=τ:=by funext b;simp [uni]
 rw [this];exact p
theorem Zs7 {α:Type} (P:α→Hp) (R:Hp):ex P*R=ex λa=>P a*R:=by
 funext ρ
 refine propext ⟨?_,?_⟩
 ·rintro ⟨σ,τ,d,e,⟨a,p⟩,r⟩;exact ⟨a,σ,τ,d,e,p,r⟩
 ·rintro ⟨a,σ,τ,d,e,p,r⟩;exact ⟨σ,τ,d,e,⟨a,p⟩,r⟩
theorem Zs8 (p:Prop) (P R:Hp):pr p P*R=pr p (P*R):=by
 funext ρ
 refine propext ⟨?_,?_⟩
 ·rintro ⟨σ,τ,d,e,⟨a,p⟩,r⟩;exact ⟨a,σ,τ,d,e,p,r⟩
 ·rintro ⟨a,σ,τ,d,e,p,r⟩;exact ⟨σ,τ,d,e,⟨a,p⟩,r⟩
theorem Sat.ex {h:Wa1} {α:Type} {P:α→Hp} {R:Hp}:Sat h (Proofs.YtahpbclnkofhfaaGreat.ex P*R)↔∃a,Sat h (P a*R):=by
 rw [Zs7]
 exact ⟨λ⟨σ,s,a,p⟩=>⟨a,σ,s,p⟩,λ⟨a,σ,s,p⟩=>⟨σ,s,a,p⟩⟩
theorem Sat.pr {h:Wa1} {p:Prop} {P R:Hp}:Sat h (Proofs.YtahpbclnkofhfaaGreat.pr p P*R)↔p∧Sat h (P*R):=by
 rw [Zs8]
 exact ⟨λ⟨σ,s,a,p⟩=>⟨a,σ,s,p⟩,λ⟨a,σ,s,p⟩=>⟨σ,s,a,p⟩⟩
theorem Sub.left {σ τ:W86} {h:Wa1} (s:Sub (uni σ τ) h):Sub σ h:=λb o e=>s b o (by unfold uni;rw [e];rfl)
theorem Sub.right {σ τ:W86} {h:Wa1} (d:dis σ τ) (s:Sub (uni σ τ) h):Sub τ h:=λb o e=>s b o (by
 unfold uni
 rcases d b with x | x
 ·rw [x];simpa using e
 ·rw [x] at e;cases e)
theorem Sub.uni {σ τ:W86} {h:Wa1} (s:Sub σ h) (t:Sub τ h):Sub (Proofs.YtahpbclnkofhfaaGreat.uni σ τ) h:=λb o e=>by
 unfold Proofs.YtahpbclnkofhfaaGreat.uni at e
 cases e2:σ b with
 | none=>rw [e2] at e;exact t b o (by simpa using e)
 | some o2=>rw [e2] at e;exact s b o (by rw [e2];simpa using e)
theorem Sub.lt {σ:W86} {h:Wa1} (s:Sub σ h) {b:Nat} (e:σ b≠none):b < h.size:=by
 cases e2:σ b with
 | none=>exact absurd e2 e
 | some o=>exact (Array.getElem?_eq_some_iff.1 (s.at b o e2)).1
theorem Sat.drop {h:Wa1} {P R:Hp} (H:Sat h (P*R)):Sat h R:=by
 obtain ⟨_,s,σ,τ,d,rfl,p,r⟩:=H
 exact ⟨τ,s.right d,r⟩
theorem Sat.mono {h:Wa1} {P Q R:Hp} (H:Sat h (P*R)) (f:∀σ,P σ→Q σ):Sat h (Q*R):=by
 obtain ⟨_,s,σ,τ,d,rfl,p,r⟩:=H
 exact ⟨_,s,σ,τ,d,rfl,f σ p,r⟩
theorem Sat.mono2 {h:Wa1} {P Q R:Hp} (H:Sat h (P*R)) (f:∀σ,R σ→Q σ):Sat h (P*Q):=by
 obtain ⟨_,s,σ,τ,d,rfl,p,r⟩:=H
 exact ⟨_,s,σ,τ,d,rfl,p,f τ r⟩
theorem Sat.drop2 {h:Wa1} {P Q R:Hp} (H:Sat h (P*(Q*R))):Sat h (P*R):=by
 rw [Wb4] at H;exact H.drop
theorem Sat.lt {h:Wa1} {b:Nat} {o:Obj} {R:Hp} (H:Sat h (pt b o*R)):b < h.size:=by
 obtain ⟨_,s,σ,τ,d,rfl,p,r⟩:=H
 exact s.left.lt (by rw [p b];simp)
theorem Sat.at {h:Wa1} {b:Nat} {o:Obj} {R:Hp} (H:Sat h (pt b o*R)):h[b]? = some o:=by
 obtain ⟨_,s,σ,τ,d,rfl,p,r⟩:=H
 exact s.left.at b o (by rw [p b];simp)
theorem Sat.at2 {h:Wa1} {b:Nat} {o:Obj} {P R:Hp} (H:Sat h (P*(pt b o*R))):h[b]? = some o:=Sat.at H.drop
theorem Sat.at3 {h:Wa1} {b:Nat} {o:Obj} {P Q R:Hp} (H:Sat h (P*(Q*(pt b o*R)))):h[b]? = some o:=Sat.at H.drop.drop
theorem Sat.ld {h:Wa1} {b i:Nat} {row:List Value} {t:TypeId} {R:Hp} {v:Value} {K:Value→Prop} (H:Sat h (pt b (.cells row.toArray t)*R)) (e:row[i]? = some v) (k:K v):ldH h ⟨b,i,none⟩ K:=ldR H.at e k
theorem Sat.old {h h':Wa1} {P:Hp} (H:Sat h P) (o:Old h.size h h'):Sat h' P:=by
 obtain ⟨σ,s,p⟩:=H
 exact ⟨σ,Sub.mk (λb x e=>(o.2 b (s.lt (by rw [e];simp))).trans (s.at b x e)) s.nd,p⟩
theorem Sat.push {h:Wa1} {R:Hp} (H:Sat h R) (o:Obj) (ho:Nd o:=by intro x e;cases e):Sat (h.push o) (pt h.size o*R):=by
 obtain ⟨τ,s,r⟩:=H
 refine ⟨uni (λc=>if c=h.size then some o else none) τ,?_,_,τ,λb=>?_,rfl,λc=>rfl,r⟩
 ·refine Sub.uni (λb x e=>?_) (Sub.mk (λb x e=>(Wk0 _ _ _ (s.lt (by rw [e];simp))).trans (s.at b x e)) s.nd)
  split at e
  ·rename_i hb;subst hb;cases e;exact ⟨Wo2 _ _,ho⟩
  ·cases e
 ·by_cases hb:b=h.size
  ·subst hb
   right
   apply Decidable.byContradiction
   intro hn
   exact absurd (s.lt hn) (Nat.lt_irrefl _)
  ·left;rw [if_neg hb]
theorem Sat.wr {h h':Wa1} {b:Nat} {o o':Obj} {R:Hp} (H:Sat h (pt b o*R)) (new:h'[b]? = some o') (old:∀c,c≠b→h'[c]? = h[c]?) (ho:Nd o':=by intro x e;cases e):Sat h' (pt b o' * R):=by
 obtain ⟨_,s,σ,τ,d,rfl,p,r⟩:=H
 refine ⟨uni (λc=>if c=b then some o' else none) τ,?_,_,τ,λc=>?_,rfl,λc=>rfl,r⟩
 ·refine Sub.uni (λc x e=>?_) (Sub.mk (λc x e=>(old c λhc=>?_).trans ((s.right d).at c x e)) (s.right d).nd)
  ·split at e
   ·rename_i hb;subst hb;cases e;exact ⟨new,ho⟩
   ·cases e
  ·subst hc
   rcases d c with h1 | h1
   ·rw [p c] at h1;simp at h1
   ·rw [h1] at e;cases e
 ·by_cases hc:c=b
  ·subst hc
   rcases d c with h1 | h1
   ·rw [p c] at h1;simp at h1
   ·exact .inr h1
  ·left;rw [if_neg hc]
theorem Sat.st {h:Wa1} {b i:Nat} {row:List Value} {t:TypeId} {R:Hp} {v:Value} {K:Wa1→Prop} (H:Sat h (pt b (.cells row.toArray t)*R)) (hi:Nat.ble (i+1) row.length=true) (ho:Wi5 v True)
  (k:∀h',Sat h' (pt b (.cells (row.set i v).toArray t)*R)→K h'):stH h ⟨b,i,none⟩ v K:=
 stR H.at hi ho λh' w=>k h' (H.wr w.new w.old)
theorem Sat.opn {h:Wa1} {D:Nat→Prop} {F:Wa1→Prop} {R:Hp} (H:Sat h (lift D F*R)):F h∧(∀b,D b→b < h.size) ∧
  ∀(h':Wa1) (D':Nat→Prop) (F':Wa1→Prop),Fr D h h'→(∀b,D' b→(D b∨h.size≤b)∧b < h'.size)→(∀b o,D' b→h'[b]? = some o→Nd o)→(∀h'',(∀b,D' b→h''[b]? = h'[b]?)→F' h'')→Sat h' (lift D' F' * R):=by
 obtain ⟨_,s,σ,τ,d,rfl,⟨p1,p2⟩,r⟩:=H
 refine ⟨p2 h s.left,λb hb=>s.left.lt ((p1 b).1 hb),λh' D' F' hf hD hN hF=>?_⟩
 classical
 have hsub:Sub (λb=>if D' b then h'[b]? else none) h':=λb o e=>by
  have e:(if D' b then h'[b]? else none)=some o:=e
  split at e
  ·rename_i hb;exact ⟨e,hN b o hb e⟩
  ·cases e
 refine ⟨uni (λb=>if D' b then h'[b]? else none) τ,Sub.uni hsub (Sub.mk (λb o e=>?_) (s.right d).nd),_,τ,λb=>?_,rfl,⟨λb=>?_,λh'' s''=>hF h'' λb hb=>?_⟩,r⟩
 ·have hs:=(s.right d).at b o e
  refine (hf.2 b (s.right d |>.lt (by rw [e];simp)) λhb=>?_).trans hs
  rcases d b with h1 | h1
  ·exact (p1 b).1 hb h1
  ·rw [h1] at e;cases e
 ·by_cases hb:D' b
  ·right
   rcases (hD b hb).1 with h1 | h1
   ·exact (d b).resolve_left ((p1 b).1 h1)
   ·apply Decidable.byContradiction
    intro hn
    have:=(s.right d).lt hn
    omega
  ·left;rw [if_neg hb]
 ·constructor
  ·intro hb
   show (if D' b then h'[b]? else none)≠none
   rw [if_pos hb]
   have:=(hD b hb).2
   simp [this]
  ·intro hn
   by_cases hb:D' b
   ·exact hb
   ·have hn:(if D' b then h'[b]? else none)≠none:=hn
    rw [if_neg hb] at hn;exact absurd rfl hn
 ·have hlt:=(hD b hb).2
  have e:h'[b]? = some h'[b]:=by simp [hlt]
  rw [e]
  exact s''.at b _ (by show (if D' b then h'[b]? else none)=_;rw [if_pos hb,e])
theorem Sat.see {h:Wa1} {D:Nat→Prop} {F:Wa1→Prop} {R:Hp} (H:Sat h (lift D F*R)):F h:=H.opn.1
theorem YU1 {D:Nat→Prop} {F G:Wa1→Prop} (f:∀h,F h→G h):∀σ,lift D F σ→lift D G σ:=λσ ⟨a,b⟩=>⟨a,λh s=>f h (b h s)⟩
theorem Sat.mk_new {h h':Wa1} {D:Nat→Prop} {F:Wa1→Prop} {R:Hp} (H:Sat h R) (o:Old h.size h h') (hD:∀b,D b→h.size≤b∧b < h'.size) (hN:∀b o,D b→h'[b]? = some o→Nd o) (hF:∀h'',(∀b,D b→h''[b]? = h'[b]?)→F h''):Sat h' (lift D F*R):=by
 have H0:Sat h (lift (λ_=>False) (λ_=>True)*R):=by
  rw [← Wk8 R] at H
  exact H.mono λσ e=>⟨λb=>⟨False.elim,λhn=>hn (by rw [e])⟩,λ_ _=>trivial⟩
 exact H0.opn.2.2 h' D F (o.fr _) (λb hb=>⟨.inr (hD b hb).1,(hD b hb).2⟩) hN hF
def We4 (elem:TypeId) (sz:Nat) (a:Option Addr) (l c:Nat) (xs:List Value):Hp:=lift (blk a) λh=>Own h elem sz a l c xs
theorem Own.congr {h h':Wa1} {elem:TypeId} {sz:Nat} {a:Option Addr} {l c:Nat} {xs:List Value} (H:Own h elem sz a l c xs) (e:∀b,blk a b→h'[b]? = h[b]?):Own h' elem sz a l c xs:=H.keep λad ea=>e _ ⟨ad,ea,rfl⟩
theorem Own.nd {h:Wa1} {elem:TypeId} {sz:Nat} {a:Option Addr} {l c:Nat} {xs:List Value} (H:Own h elem sz a l c xs):∀b o,blk a b→h[b]? = some o→Nd o:=by
 rintro b o ⟨ad,e,rfl⟩ hb x hx
 rcases H.2.2 with ⟨e2,_⟩ | ⟨b',row,e2,hb',_⟩
 ·rw [e] at e2;cases e2
 ·rw [e] at e2;cases e2
  rw [hb'] at hb
  cases hb
  cases hx
theorem Sat.own {h:Wa1} {elem:TypeId} {sz:Nat} {a:Option Addr} {l c:Nat} {xs:List Value} {R:Hp} (H:Sat h (We4 elem sz a l c xs*R)):Own h elem sz a l c xs:=H.see
theorem Sat.own_new {h:Wa1} {R:Hp} (H:Sat h R) (elem:TypeId) (sz:Nat):Sat h (We4 elem sz none 0 0 []*R):=
 H.mk_new (Old.refl _ _) (λb hb=>by obtain ⟨_,e,_⟩:=hb;cases e) (λb o hb=>by obtain ⟨_,e,_⟩:=hb;cases e) λh'' _=>Own.nil _ _ _
theorem Sat.app {P:Program} {t elem:TypeId} {z:Value} {h:Wa1} {a a2:Option Addr} {l c n n2:Nat} {xs ys:List Value} {K:Value→Wa1→Prop} {R:Hp}
  (hu:und P t=.slice elem) (hth:Wf8 P elem=true) (hz:zer P elem=some z) (hzs:z.cells.size=siz P elem)
  (H:Sat h (We4 elem (siz P elem) a l c xs*R)) (hs:Sees h a2 ys) (hn:ys.length=n*siz P elem) (hone:∀y ∈ ys,Wi5 y True) (hb0:0 < byt P elem) (hb:(2*(l+n)+512)*byt P elem≤2 ^ 48)
  (k:∀a' c' h',Sat h' (We4 elem (siz P elem) a' (l+n) c' (xs ++ ys)*R)→K (.slice a' (l+n) c') h') :
  Wu4 P #[t,t] t #[.slice a l c,.slice a2 n n2] h K:=by
 obtain ⟨ho,hlt,re⟩:=H.opn
 refine Yy1 hu hth hz hzs ho hs hn hone hb0 hb λa' c' h' o' hsz old ha=>?_
 refine k a' c' h' (re h' (blk a') _ ⟨hsz,λb hb hn=>old b hb λad ea e=>hn ⟨ad,ea,e⟩⟩ (λb hb=>?_) o'.nd λh'' e=>o'.congr e)
 refine ⟨?_,o'.lt2 hb⟩
 rcases ha with ha | ha
 ·rw [ha] at hb;exact .inl hb
 ·obtain ⟨ad,e,eb⟩:=hb
  rw [ha] at e;cases e
  exact .inr (by rw [← eb];exact Nat.le_refl _)
theorem Sat.app2 {P:Program} {t elem:TypeId} {z:Value} {h:Wa1} {a a2:Option Addr} {l c n n2:Nat} {xs ys:List Value} {K:Value→Wa1→Prop} {R:Hp}
  (hu:und P t=.slice elem) (hth:Wf8 P elem=true) (hz:zer P elem=some z) (hzs:z.cells.size=siz P elem)
  (H:Sat h (We4 elem (siz P elem) a l c xs*R)) (hs:Sees h a2 ys) (hn:ys.length=n*siz P elem) (hone:∀y ∈ ys,Wi5 y True) (hb0:0 < byt P elem) (hb:(2*(l+n)+512)*byt P elem≤2 ^ 48)
  (k1:∀c' h',Sat h' (We4 elem (siz P elem) a (l+n) c' (xs ++ ys)*R)→K (.slice a (l+n) c') h')
  (k2:∀b c' h',¬ blk a b→Sat h' (We4 elem (siz P elem) (some ⟨b,0,none⟩) (l+n) c' (xs ++ ys)*(We4 elem (siz P elem) a l c xs*R))→K (.slice (some ⟨b,0,none⟩) (l+n) c') h') :
  Wu4 P #[t,t] t #[.slice a l c,.slice a2 n n2] h K:=by
 obtain ⟨ho,hlt,re⟩:=H.opn
 refine WR9 hu hth hz hzs ho hs hn hone hb0 hb λa' c' h' o' hsz old ha=>?_
 rcases ha with ha | ⟨ha,hold⟩
 ·subst ha
  exact k1 c' h' (re h' (blk a') _ ⟨hsz,λb hb hn=>old b hb λad ea e=>hn ⟨ad,ea,e⟩⟩ (λb hb=>⟨.inl hb,o'.lt2 hb⟩) o'.nd λh'' e=>o'.congr e)
 ·subst ha
  refine k2 h.size c' h' (λhb=>absurd (hlt _ hb) (Nat.lt_irrefl _)) (H.mk_new hold (λb hb=>?_) o'.nd λh'' e=>o'.congr e)
  refine ⟨?_,o'.lt2 hb⟩
  obtain ⟨ad,e,eb⟩:=hb
  cases e
  rw [← eb];exact Nat.le_refl _
theorem Sat.collect {h h':Wa1} {N:Nat} {o o':Obj} {R:Hp} {elem:TypeId} {sz:Nat} {a:Option Addr} {l c:Nat} {xs:List Value} (H:Sat h (pt N o*R)) (hs:h.size≤h'.size) (old:∀b,b < h.size→b≠N→h'[b]? = h[b]?) (new:h'[N]? = some o') (ow:Own h' elem sz a l c xs) (hb:∀b,blk a b→h.size≤b)
  (ho:Nd o':=by intro x e;cases e):Sat h' (We4 elem sz a l c xs*(pt N o' * R)):=by
 have hlt:=H.lt
 have H1:Sat (h.setIfInBounds N o') (pt N o' * R):=H.wr (Wk3 hlt) (λc hc=>Wk4 hc) ho
 have o1:Old (h.setIfInBounds N o').size (h.setIfInBounds N o') h':=⟨by simpa using hs,λb hb=>by
  by_cases e:b=N
  ·subst e;rw [new,Wk3 hlt]
  ·rw [Wk4 e];exact old b (by simpa using hb) e⟩
 exact H1.mk_new o1 (λb hb'=>⟨by simpa using hb b hb',ow.lt2 hb'⟩) ow.nd λh'' e=>ow.congr e
theorem Ze4 {P:Program} {t elem:TypeId} {z:Value} {h:Wa1} {a a2:Option Addr} {l c n n2:Nat} {xs ys:List Value} {K:Value→Wa1→Prop}
  (hu:und P t=.slice elem) (hth:Wf8 P elem=true) (hz:zer P elem=some z) (hzs:z.cells.size=siz P elem)
  (ho:Sees h a xs) (hl:xs.length=l*siz P elem) (hlc:l≤c) (hs:Sees h a2 ys) (hn:ys.length=n*siz P elem) (hone:∀y ∈ ys,Wi5 y True) (hb0:0 < byt P elem) (hb:(2*(l+n)+512)*byt P elem≤2 ^ 48)
  (k1:l+n≤c→∀ad,a=some ad→stN h (ad.add (l*siz P elem)) 0 ys λh'=>K (.slice a (l+n) c) h')
  (k0:l+n≤c→a=none→K (.slice none (l+n) c) h)
  (k2:∀c' h',Own h' elem (siz P elem) (some ⟨h.size,0,none⟩) (l+n) c' (xs ++ ys)→Old h.size h h'→K (.slice (some ⟨h.size,0,none⟩) (l+n) c') h') :
  Wu4 P #[t,t] t #[.slice a l c,.slice a2 n n2] h K:=by
 have hu':=Wd0 hu (by simp)
 obtain ⟨info,hinfo⟩:=Ww1 hth
 have hbyt:info.bytes=byt P elem:=by unfold byt;rw [hinfo]
 have first:∀(F:Array Value→Wa1→Prop),F ys.toArray h→hp P (Builtin.firstCells (siz P elem) n (.slice a2 n n2)) F h:=by
  intro F k
  cases a2 with
  | none=>
   have:ys = []:=by
    cases ys with
    | nil=>rfl
    | cons y ys=>obtain ⟨ad,e,_⟩:=hs 0 y rfl;cases e
   subst this;exact k
  | some ad=>
   show hp P (loadCells ad (n*siz P elem)) F h
   refine Wf7 ad _ 0 [] F ?_
   rw [← hn]
   refine WD5 ys 0 [] _ (λj v hj=>?_) (by simpa using k)
   obtain ⟨ad',e,hc⟩:=hs j v hj
   cases e;rwa [Nat.zero_add]
 unfold Wu4 Builtin.append_
 simp only [List.getElem?_toArray,List.getElem?_cons_zero,List.getElem?_cons_succ,Wa7,Wc3,Wb0 hu',We6 hth,Bool.false_eq_true,if_false]
 show hp P (Builtin.lenOf _) _ h
 simp only [Builtin.lenOf,Wc3]
 rw [WN5]
 split
 ·rename_i hcap
  simp only [Wa7]
  show hp P (if (!false)=true then _ else _) _ h
  refine first _ ?_
  cases a with
  | none=>
   have key:=k0 hcap rfl
   try simp only [Wa7,Wc3]
   exact key
  | some ad=>
   simp only [Wa7]
   refine Wn8 _ _ h 0 _ ?_
   try simp only [Wc3]
   exact k1 hcap ad rfl
 ·rename_i hcap
  simp only [Wa7,Wc3]
  have hbound:¬ Builtin.nextslicecap (l+n) c*info.bytes > 2 ^ 48:=by
   rw [hbyt]
   have:=Nat.le_trans (Nat.mul_le_mul_right (byt P elem) (WM1 (l+n) c (by omega))) hb
   omega
  simp only [Wa7,Wc3,Wi6 hinfo,WN5]
  rw [if_neg (by rw [hbyt];intro x;rcases x.2 with y | y <;> first | exact y | omega),if_neg hbound]
  show ∀tp,_
  intro tp
  rw [if_neg (by simp [Question.forced])]
  obtain ⟨cap,hcp⟩ : ∃cap,cap=(Question.appendCap (l+n) c elem).cut tp:=⟨_,rfl⟩
  have hcap2:l+n≤cap:=by rw [hcp];simp [Question.cut]
  rw [← hcp]
  rw [show (Sem.pure cap:Sem Nat)=pure cap from rfl]
  simp only [Wa7,Wc3,Wi6 hinfo,WD1]
  have old:∀(F:Array Value→Wa1→Prop),F xs.toArray h→hp P (Builtin.firstCells (siz P elem) l (.slice a l c)) F h:=by
   intro F k
   cases a with
   | none=>
    have:xs = []:=by
     cases xs with
     | nil=>rfl
     | cons y ys=>obtain ⟨ad,e,_⟩:=ho 0 y rfl;cases e
    subst this;exact k
   | some ad=>
    show hp P (loadCells ad (l*siz P elem)) F h
    refine Wf7 ad _ 0 [] F ?_
    rw [← hl]
    refine WD5 xs 0 [] _ (λj v hj=>?_) (by simpa using k)
    obtain ⟨ad',e,hc⟩:=ho j v hj
    cases e;rwa [Nat.zero_add]
  refine old _ ?_
  rw [Wa7,if_pos (show (!false)=true from rfl)]
  refine first _ ?_
  simp only [Wa7]
  simp only [Wh0 hz]
  show K (.slice (some ⟨h.size,0,none⟩) (l+n) cap) (h.push _)
  have hzc:(Builtin.zeroCells z.cells (cap - (l+n))).size=(cap - (l+n))*siz P elem:=by rw [Wv8,hzs]
  refine k2 cap _ ⟨by simp [hl,hn,Nat.add_mul],hcap2,.inr ⟨h.size,_,rfl,Wo2 _ _,?_,?_⟩⟩ ⟨by simp,λb hb'=>Wk0 _ _ _ hb'⟩
  ·simp only [Array.size_append,hzc,List.size_toArray,hl,hn,← Nat.add_mul]
   congr 1;omega
  ·simp only [Array.toList_append,List.toList_toArray]
   rw [List.take_left' (by simp [hl,hn,Nat.add_mul])]
def OwnF (h:Wa1) (a:Option Addr) (l c:Nat) (xs:List Int):Prop:=
 xs.length=l∧l≤c∧((a=none∧c=0)∨∃b o row,a=some ⟨b,o,none⟩∧h[b]? = some (.cells row 3)∧o+c≤row.size∧(row.toList.drop o).take l=xs.map iv)
theorem OwnF.of {h:Wa1} {a:Option Addr} {l c:Nat} {xs:List Int} (H:OwnI h a l c xs):OwnF h a l c xs:=by
 obtain ⟨h1,h2,h3⟩:=H
 refine ⟨by simpa using h1,h2,h3.imp id ?_⟩
 rintro ⟨b,row,e,hb,hs,ht⟩
 exact ⟨b,0,row,e,hb,by omega,by simpa using ht⟩
theorem OwnF.congr {h h':Wa1} {a:Option Addr} {l c:Nat} {xs:List Int} (H:OwnF h a l c xs) (e:∀b,blk a b→h'[b]? = h[b]?):OwnF h' a l c xs:=by
 obtain ⟨h1,h2,h3⟩:=H
 refine ⟨h1,h2,h3.imp id ?_⟩
 rintro ⟨b,o,row,ea,hb,r⟩
 exact ⟨b,o,row,ea,(e b ⟨_,ea,rfl⟩).trans hb,r⟩
theorem OwnF.lt2 {h:Wa1} {a:Option Addr} {l c:Nat} {xs:List Int} (H:OwnF h a l c xs) {b:Nat} (hb:blk a b):b < h.size:=by
 obtain ⟨ad,e,rfl⟩:=hb
 rcases H.2.2 with ⟨e2,_⟩ | ⟨b',o,row,e2,hb',_⟩
 ·rw [e] at e2;cases e2
 ·rw [e] at e2;cases e2;exact (Array.getElem?_eq_some_iff.1 hb').1
theorem OwnF.nd {h:Wa1} {a:Option Addr} {l c:Nat} {xs:List Int} (H:OwnF h a l c xs):∀b o,blk a b→h[b]? = some o→Nd o:=by
 rintro b o ⟨ad,e,rfl⟩ hb x hx
 rcases H.2.2 with ⟨e2,_⟩ | ⟨b',o',row,e2,hb',_⟩
 ·rw [e] at e2;cases e2
 ·rw [e] at e2;cases e2
  rw [hb'] at hb
  cases hb
  cases hx
theorem OwnF.ri {h:Wa1} {a:Option Addr} {l c:Nat} {xs:List Int} (H:OwnF h a l c xs):RI h a l c xs:=by
 obtain ⟨h1,h2,h3⟩:=H
 refine ⟨λi v hi=>?_,h1,h2⟩
 have hlt:i < xs.length:=by have:=(List.getElem?_eq_some_iff.1 hi).1;simpa using this
 rcases h3 with ⟨_,hc⟩ | ⟨b,o,row,e,hb,hs,ht⟩
 ·omega
 ·refine ⟨_,e,?_⟩
  rw [Wc6,Wb9 hb,← Array.getElem?_toList]
  rw [← ht,List.getElem?_take] at hi
  split at hi
  ·rw [List.getElem?_drop] at hi;exact hi
  ·cases hi
theorem OwnF.tail {h:Wa1} {a:Option Addr} {l c:Nat} {x:Int} {xs:List Int} (H:OwnF h a l c (x :: xs)):OwnF h (YP8 a 1 c 1) (l - 1) (c - 1) xs∧∀b,blk (YP8 a 1 c 1) b→blk a b:=by
 obtain ⟨h1,h2,h3⟩:=H
 simp only [List.length_cons] at h1
 rcases h3 with ⟨_,hc⟩ | ⟨b,o,row,e,hb,hs,ht⟩
 ·omega
 ·subst e
  unfold YP8
  split
  ·rename_i hc
   have e0:l - 1=0:=by have:=h2;omega
   have ex:xs = []:=List.length_eq_zero_iff.1 (by omega)
   refine ⟨⟨by omega,by omega,.inr ⟨b,o,row,rfl,hb,by omega,?_⟩⟩,λb hb=>hb⟩
   rw [e0,ex];rfl
  ·refine ⟨⟨by omega,by omega,.inr ⟨b,o+1,row,by rw [Option.map_some,Wc6],hb,by omega,?_⟩⟩,?_⟩
   ·have:l=(l - 1)+1:=by omega
    rw [this] at ht
    have e2:(row.toList.drop o).drop 1=row.toList.drop (o+1):=by rw [List.drop_drop]
    have e3:=congrArg (List.drop 1) ht
    rw [List.drop_take,e2] at e3
    simpa using e3
   ·rintro b' ⟨ad,e,rfl⟩
    rw [Option.map_some,Wc6] at e
    cases e
    exact ⟨_,rfl,rfl⟩
def WQ2 (a:Option Addr) (l c:Nat) (xs:List Int):Hp:=lift (blk a) λh=>OwnF h a l c xs
theorem Sat.ownf {h:Wa1} {a:Option Addr} {l c:Nat} {xs:List Int} {R:Hp} (H:Sat h (WQ2 a l c xs*R)):OwnF h a l c xs:=H.see
theorem Sat.toF {h:Wa1} {a:Option Addr} {l c:Nat} {xs:List Int} {R:Hp} (H:Sat h (We4 3 1 a l c (xs.map iv)*R)):Sat h (WQ2 a l c xs*R):=H.mono (YU1 λ_ h=>OwnF.of h)
def NdC (o:Obj):Prop:=∀x,o≠.deferred x
theorem NdC.cells {row:Array Value} {t:TypeId}:NdC (.cells row t):=λx e=>by cases e
def NdA (P:Hp):Prop:=∀σ h,Sub σ h→P σ→∀b o,σ b=some o→NdC o
theorem NdA.star {P Q:Hp} (hP:NdA P) (hQ:NdA Q):NdA (P*Q):=by
 rintro σ h s ⟨σ1,σ2,d,rfl,p,q⟩ b o e
 have e':(σ1 b).or (σ2 b)=some o:=e
 cases h1:σ1 b with
 | some x=>rw [h1] at e';cases e';exact hP _ _ s.left p b _ h1
 | none=>rw [h1] at e';exact hQ _ _ (s.right d) q b _ e'
theorem NdA.ex {α:Type} {P:α→Hp} (h:∀a,NdA (P a)):NdA (ex P):=by
 rintro σ hh s ⟨a,p⟩
 exact h a σ hh s p
theorem NdA.pr {p:Prop} {P:Hp} (h:NdA P):NdA (pr p P):=λσ hh s q=>h σ hh s q.2
theorem NdA.pt {b:Nat} {row:Array Value} {t:TypeId}:NdA (pt b (.cells row t)):=by
 intro σ h s p c o e
 have p:=p c
 rw [e] at p
 split at p
 ·cases p;exact NdC.cells
 ·cases p
theorem NdA.lift {D:Nat→Prop} {F:Wa1→Prop} (hF:∀h,F h→∀b o,D b→h[b]? = some o→NdC o):NdA (lift D F):=by
 rintro σ h s ⟨p,q⟩ b o e
 exact hF h (q h s) b o ((p b).2 (by rw [e];simp)) (s.at b o e)
theorem NdA.own {elem:TypeId} {sz:Nat} {a:Option Addr} {l c:Nat} {xs:List Value}:NdA (We4 elem sz a l c xs):=by
 refine NdA.lift ?_
 rintro h H b o ⟨ad,e,rfl⟩ hb
 rcases H.2.2 with ⟨e2,_⟩ | ⟨b',row,e2,hb',_⟩
 ·rw [e] at e2;cases e2
 ·rw [e] at e2;cases e2
  rw [hb'] at hb
  cases hb
  exact NdC.cells
theorem NdA.ownf {a:Option Addr} {l c:Nat} {xs:List Int}:NdA (WQ2 a l c xs):=by
 refine NdA.lift ?_
 rintro h H b o ⟨ad,e,rfl⟩ hb
 rcases H.2.2 with ⟨e2,_⟩ | ⟨b',o',row,e2,hb',_⟩
 ·rw [e] at e2;cases e2
 ·rw [e] at e2;cases e2
  rw [hb'] at hb
  cases hb
  exact NdC.cells
def Bnd (N:Nat) (P:Hp):Prop:=∀σ,P σ→∀b,σ b≠none→b < N
theorem Sat.freeze {h:Wa1} {P R:Hp} (H:Sat h (P*R)):∃R':Hp,(∀σ,R' σ→R σ)∧Bnd h.size R'∧Sat h (P*R'):=by
 obtain ⟨_,s,σ,τ,d,rfl,p,q⟩:=H
 refine ⟨λρ=>ρ=τ,λρ e=>by rw [e];exact q,λρ e b hb=>?_,⟨_,s,σ,τ,d,rfl,p,rfl⟩⟩
 rw [e] at hb
 exact (s.right d).lt hb
theorem Sat.sameD {N:Nat} {h h':Wa1} {P R:Hp} (H:Sat h (P*R)) (hP:NdA P) (hR:Bnd N R) (o:SameD N h h'):Sat h' (P*R):=by
 obtain ⟨_,s,σ,τ,d,rfl,p,q⟩:=H
 refine ⟨_,Sub.mk (λb x e=>(o.2 b ?_).trans (s.at b x e)) s.nd,σ,τ,d,rfl,p,q⟩
 cases h1:σ b with
 | some y=>
  refine .inr λz e2=>?_
  have h2:=s.left.at b y h1
  rw [e2] at h2
  cases h2
  exact hP _ _ s.left p b _ h1 z rfl
 | none=>
  refine .inl (hR _ q b λh2=>?_)
  have e':(σ b).or (τ b)=some x:=e
  rw [h1,h2] at e'
  cases e'
def YU2 (h0:Wa1):Hp:=λσ=>∀b,σ b=h0[b]?
theorem Sat.full (h:Wa1):Sat h (YU2 h):=⟨λb=>h[b]?,λb o e=>⟨e,λ_=>False.elim⟩,λ_=>rfl⟩
theorem Sat.fullOld {h h0:Wa1} {R:Hp} (H:Sat h (YU2 h0*R)):Old h0.size h0 h:=by
 obtain ⟨_,s,σ,τ,d,rfl,p,q⟩:=H
 have hb:∀b,b < h0.size→h[b]? = h0[b]?:=by
  intro b hlt
  have e:σ b=some h0[b]:=by rw [p b];exact Array.getElem?_eq_getElem hlt
  rw [s.left.at b _ e,Array.getElem?_eq_getElem hlt]
 refine ⟨?_,hb⟩
 cases hn:h0.size with
 | zero=>omega
 | succ n=>
  have h1:=hb n (by omega)
  rw [Array.getElem?_eq_getElem (by omega:n < h0.size)] at h1
  have:=(Array.getElem?_eq_some_iff.1 h1).1
  omega
end
section
set_option maxRecDepth 100000
def F102 (K:Value→Wa1→Prop) (h:Wa1) (xa:Option Addr) (xb xc:Nat):Prop:=
 (Wu4 Tryz.prog #[26,26] 26 #[.slice (some ⟨h.size,0,none⟩) 0 0,.slice xa xb xc] (Array.push h (.cells #[] 5)) λa b=>Wb5 a λa c d=>K (.pointer (some ⟨b.size,0,none⟩)) (Array.push b (.cells #[.slice a c d,.int .i64 0] 236)))
theorem call102 {K:Value→Wa1→Prop} {h:Wa1} {xa:Option Addr} {xb xc:Nat} (H:F102 K h xa xb xc):Wa5 Tryz.prog 102 #[(.slice xa xb xc)] h K:=
 Wa4 Tryz.func102 (by kernel_rfl) (Eq.mp (by kernel_rfl) H)
def F146 (K:Value→Wa1→Prop) (h:Wa1) (xa:Int):Prop:=
 (((0:Int)≤1)∧(((65536:Int)≠0)∧(K (.int .i64 (IntKind.wrap .i64 (Int.tmod (Int.fdiv xa 2) 65536))) h)))
theorem call146 {K:Value→Wa1→Prop} {h:Wa1} {xa:Int} (H:F146 K h xa):Wa5 Tryz.prog 146 #[(.int .u64 xa)] h K:=
 Wa4 Tryz.func146 (by kernel_rfl) (Eq.mp (by kernel_rfl) H)
def F206 (K:Value→Wa1→Prop) (h:Wa1) (xa:Int) (xb:Bool) (xc:Int):Prop:=
 (exI λI0=>(ifB (decide (xa < 0)) (I0 [.bool true,.bool true] h) (cf 277 #[.int .u64 65536,.slice (some ⟨h.size,0,none⟩) 1 1] (Array.push h (.cells #[.int .u64 (IntKind.wrap .u64 xa)] 178)) λa b=>asBool a λa=>ifB (!a) (I0 [.bool (!a),.bool true] b) (cf 277 #[.int .u64 140737488355328,.slice (some ⟨b.size,0,none⟩) 1 1] (Array.push b (.cells #[.int .u64 xc] 178)) λb c=>asBool b λb=>I0 [.bool (!a),.bool (!b)] c)))∧(∀(a b:Value) (c:Env) (c:Wa1),(I0 [a,b] c)→(asBool b λa=>ifB a (K (.tuple #[.int .u64 0,.int .i64 2]) c) (cf 278 #[.int .u64 (IntKind.wrap .u64 xa),.bool xb,.int .u64 xc] c λa b=>asInt .u64 a λa=>K (.tuple #[.int .u64 a,.int .i64 0]) b))))
theorem call206 {K:Value→Wa1→Prop} {h:Wa1} {xa:Int} {xb:Bool} {xc:Int} (H:F206 K h xa xb xc):Wa5 Tryz.prog 206 #[(.int .i64 xa),(.bool xb),(.int .u64 xc)] h K:=
 Wa4 Tryz.func206 (by kernel_rfl) (Eq.mp (by kernel_rfl) H)
def F211 (K:Value→Wa1→Prop) (h:Wa1) (xa:Option Addr):Prop:=
 (ifB (Option.isNone xa) (K (.int .i64 0) h) (nP xa λa=>lS h a λa a b=>K (.int .i64 (a:Int)) h))
theorem call211 {K:Value→Wa1→Prop} {h:Wa1} {xa:Option Addr} (H:F211 K h xa):Wa5 Tryz.prog 211 #[(.pointer xa)] h K:=
 Wa4 Tryz.func211 (by kernel_rfl) (Eq.mp (by kernel_rfl) H)
def F249 (K:Value→Wa1→Prop) (h:Wa1) (xa xb:Int):Prop:=
 (((0:Int)≤32)∧(K (.int .u64 (IntKind.wrap .u64 ((((BitVec.ofInt 64 (IntKind.wrap .u64 ((IntKind.wrap .u64 xa)*4294967296))) ||| (BitVec.ofInt 64 (IntKind.wrap .u64 xb))).toNat:Nat):Int))) h))
theorem call249 {K:Value→Wa1→Prop} {h:Wa1} {xa xb:Int} (H:F249 K h xa xb):Wa5 Tryz.prog 249 #[(.int .u32 xa),(.int .u32 xb)] h K:=
 Wa4 Tryz.func249 (by kernel_rfl) (Eq.mp (by kernel_rfl) H)
def F250 (K:Value→Wa1→Prop) (h:Wa1) (xa:Option Addr) (xb:Int):Prop:=
 (ifB (decide (xb < 1)) (K (.int .i64 1) h) (cf 280 #[.pointer xa] h λa b=>asInt .i64 a λa=>exI λI3=>exM λm4=>(I3 [.int .i64 0,.tuple #[],.int .i64 0] b)∧(∀(b c d:Value) (e:Env) (e:Wa1),(I3 [b,c,d] e)→(asInt .i64 d λf=>ifB (decide (f < xb)) (asInt .i64 d λf=>((0:Int)≤f)∧(ifB ((IntKind.wrap .i64 ((((BitVec.ofInt 64 (Int.fdiv a (2 ^ (min f.toNat 64)))) &&& (BitVec.ofInt 64 1)).toNat:Nat):Int)) == 0) (K (.int .i64 (IntKind.wrap .i64 (f+1))) e) (asInt .i64 d λa=>(I3 [b,.int .i64 f,.int .i64 (IntKind.wrap .i64 (a+1))] e)∧((m4 [b,.int .i64 f,.int .i64 (IntKind.wrap .i64 (a+1))] e) < (m4 [b,c,d] e))))) (K (.int .i64 xb) e)))))
theorem call250 {K:Value→Wa1→Prop} {h:Wa1} {xa:Option Addr} {xb:Int} (H:F250 K h xa xb):Wa5 Tryz.prog 250 #[(.pointer xa),(.int .i64 xb)] h K:=
 Wa4 Tryz.func250 (by kernel_rfl) (Eq.mp (by kernel_rfl) H)
def F252 (K:Value→Wa1→Prop) (h:Wa1) (xa:Int) (xb:Bool):Prop:=
 (((0:Int)≤1)∧(ifB xb (K (.int .u64 (IntKind.wrap .u64 ((((BitVec.ofInt 64 (IntKind.wrap .u64 ((IntKind.wrap .u64 xa)*2))) ||| (BitVec.ofInt 64 1)).toNat:Nat):Int))) h) (K (.int .u64 (IntKind.wrap .u64 ((IntKind.wrap .u64 xa)*2))) h)))
theorem call252 {K:Value→Wa1→Prop} {h:Wa1} {xa:Int} {xb:Bool} (H:F252 K h xa xb):Wa5 Tryz.prog 252 #[(.int .u32 xa),(.bool xb)] h K:=
 Wa4 Tryz.func252 (by kernel_rfl) (Eq.mp (by kernel_rfl) H)
def F228 (K:Value→Wa1→Prop) (h:Wa1) (xa xb:Int) (xc:Bool):Prop:=
 (((65536:Int)≠0)∧(cf 285 #[.int .u64 xa] h λa b=>asInt .u64 a λa=>((140737488355328:Int)≠0)∧(cf 278 #[.int .u64 (Int.tmod (IntKind.wrap .u64 xb) 65536),.bool xc,.int .u64 (Int.tmod (IntKind.wrap .u64 (a+1)) 140737488355328)] b λa b=>asInt .u64 a λa=>K (.int .u64 a) b)))
theorem call228 {K:Value→Wa1→Prop} {h:Wa1} {xa xb:Int} {xc:Bool} (H:F228 K h xa xb xc):Wa5 Tryz.prog 228 #[(.int .u64 xa),(.int .i64 xb),(.bool xc)] h K:=
 Wa4 Tryz.func228 (by kernel_rfl) (Eq.mp (by kernel_rfl) H)
def F258 (K:Value→Wa1→Prop) (h:Wa1) (xa:Int):Prop:=
 (K (.bool ((IntKind.wrap .u64 ((((BitVec.ofInt 64 xa) &&& (BitVec.ofInt 64 1)).toNat:Nat):Int)) == 1)) h)
theorem call258 {K:Value→Wa1→Prop} {h:Wa1} {xa:Int} (H:F258 K h xa):Wa5 Tryz.prog 258 #[(.int .u64 xa)] h K:=
 Wa4 Tryz.func258 (by kernel_rfl) (Eq.mp (by kernel_rfl) H)
def F260 (K:Value→Wa1→Prop) (h:Wa1) (xa:Int):Prop:=
 (K (.int .u64 (IntKind.wrap .u64 ((((BitVec.ofInt 64 xa) ||| (BitVec.ofInt 64 1)).toNat:Nat):Int))) h)
theorem call260 {K:Value→Wa1→Prop} {h:Wa1} {xa:Int} (H:F260 K h xa):Wa5 Tryz.prog 260 #[(.int .u64 xa)] h K:=
 Wa4 Tryz.func260 (by kernel_rfl) (Eq.mp (by kernel_rfl) H)
def F261 (K:Value→Wa1→Prop) (h:Wa1) (xa:Int):Prop:=
 (cf 146 #[.int .u64 xa] h λa b=>asInt .i64 a λa=>cf 228 #[.int .u64 xa,.int .i64 a,.bool true] b λa b=>asInt .u64 a λa=>K (.int .u64 a) b)
theorem call261 {K:Value→Wa1→Prop} {h:Wa1} {xa:Int} (H:F261 K h xa):Wa5 Tryz.prog 261 #[(.int .u64 xa)] h K:=
 Wa4 Tryz.func261 (by kernel_rfl) (Eq.mp (by kernel_rfl) H)
def F213 (K:Value→Wa1→Prop) (h:Wa1) (xa xb:Int):Prop:=
 (cf 216 #[.int .i64 xa] h λa b=>asInt .i64 a λa=>ifB (a == 0) (K (.int .i64 0) b) (Wk2 (λc d=>WO7 c d) Tryz.prog 3 [.int .i64 xb,.int .i64 0] λc=>((a:Int)≠0)∧(K (.int .i64 (IntKind.wrap .i64 (a+(Int.tmod c a)))) b)))
theorem call213 {K:Value→Wa1→Prop} {h:Wa1} {xa xb:Int} (H:F213 K h xa xb):Wa5 Tryz.prog 213 #[(.int .i64 xa),(.int .i64 xb)] h K:=
 Wa4 Tryz.func213 (by kernel_rfl) (Eq.mp (by kernel_rfl) H)
def F215 (K:Value→Wa1→Prop) (h:Wa1) (xa:Option Addr) (xb:Int):Prop:=
 (ifB (decide (xb < 1)) (K (.int .i64 0) h) (cf 280 #[.pointer xa] h λa b=>asInt .i64 a λa=>((xb:Int)≠0)∧(K (.int .i64 (Int.tmod a xb)) b)))
theorem call215 {K:Value→Wa1→Prop} {h:Wa1} {xa:Option Addr} {xb:Int} (H:F215 K h xa xb):Wa5 Tryz.prog 215 #[(.pointer xa),(.int .i64 xb)] h K:=
 Wa4 Tryz.func215 (by kernel_rfl) (Eq.mp (by kernel_rfl) H)
def F216 (K:Value→Wa1→Prop) (h:Wa1) (xa:Int):Prop:=
 (exI λI0=>(ifB (decide (xa < 1)) (I0 [.bool true] h) (I0 [.bool (decide (xa > 20))] h))∧(∀(a:Value) (b:Env) (b:Wa1),(I0 [a] b)→(asBool a λa=>ifB a (K (.int .i64 0) b) (((0:Int)≤(IntKind.wrap .i64 (xa - 1)))∧(K (.int .i64 (IntKind.wrap .i64 (1*(2 ^ (min (IntKind.wrap .i64 (xa - 1)).toNat 64))))) b)))))
theorem call216 {K:Value→Wa1→Prop} {h:Wa1} {xa:Int} (H:F216 K h xa):Wa5 Tryz.prog 216 #[(.int .i64 xa)] h K:=
 Wa4 Tryz.func216 (by kernel_rfl) (Eq.mp (by kernel_rfl) H)
def F218 (K:Value→Wa1→Prop) (h:Wa1) (xa:Int):Prop:=
 (Wk2 (λa b=>WO7 a b) Tryz.prog 3 [.int .i64 xa,.int .i64 1] λa=>stH (Array.push h (.cells #[.int .i64 0,.int .i64 0] 282)) ⟨h.size,0,none⟩ (.int .i64 0) λb=>stH b ⟨h.size,1,none⟩ (.int .i64 (IntKind.wrap .i64 (a - 1))) λa=>dl2 a h.size λb c=>K (.agg #[b,c]) a)
theorem call218 {K:Value→Wa1→Prop} {h:Wa1} {xa:Int} (H:F218 K h xa):Wa5 Tryz.prog 218 #[(.int .i64 xa)] h K:=
 Wa4 Tryz.func218 (by kernel_rfl) (Eq.mp (by kernel_rfl) H)
abbrev g221 (K:Value→Wa1→Prop) (h H1:Wa1):Prop:=
 (lI .i64 H1 ⟨h.size,0,none⟩ λa=>lI .i64 H1 ⟨h.size,1,none⟩ λb=>K (.bool (decide (a ≥ b))) H1)
def F221 (K:Value→Wa1→Prop) (h:Wa1) (xa xb:Int):Prop:=
 (g221 K h (Array.push h (.cells #[.int .i64 xa,.int .i64 xb] 282)))
theorem call221 {K:Value→Wa1→Prop} {h:Wa1} {xa xb:Int} (H:F221 K h xa xb):Wa5 Tryz.prog 221 #[(.agg #[(.int .i64 xa),(.int .i64 xb)])] h K:=
 Wa4 Tryz.func221 (by kernel_rfl) (Eq.mp (by kernel_rfl) H)
abbrev g223 (K:Value→Wa1→Prop) (h H1:Wa1):Prop:=
 (lI .i64 H1 ⟨h.size,0,none⟩ λa=>ldH H1 ⟨h.size,1,none⟩ λb=>asInt .i64 b λc=>cf 283 #[.int .i64 a] H1 λa d=>asInt .i64 a λa=>ce d h.size 1 b (cf 283 #[.int .i64 c] d λb c=>asInt .i64 b λb=>((2:Int)≠0)∧(K (.int .i64 (IntKind.wrap .i64 (Int.tdiv (IntKind.wrap .i64 (a+b)) 2))) c)))
def F223 (K:Value→Wa1→Prop) (h:Wa1) (xa xb:Int):Prop:=
 (g223 K h (Array.push h (.cells #[.int .i64 xa,.int .i64 xb] 282)))
theorem call223 {K:Value→Wa1→Prop} {h:Wa1} {xa xb:Int} (H:F223 K h xa xb):Wa5 Tryz.prog 223 #[(.agg #[(.int .i64 xa),(.int .i64 xb)])] h K:=
 Wa4 Tryz.func223 (by kernel_rfl) (Eq.mp (by kernel_rfl) H)
abbrev g224 (K:Value→Wa1→Prop) (h H1 H2:Wa1) (xa:Bool):Prop:=
 (dl2 H2 h.size λa b=>cf 221 #[.agg #[a,b]] H2 λa b=>asBool a λa=>ifB a (dl2 b h.size λa c=>dw2 b H1.size a c λa=>dl2 a H1.size λc d=>K (.agg #[c,d]) a) (ifB xa (ldH b ⟨h.size,0,none⟩ λa=>asInt .i64 a λc=>dl2 b h.size λd e=>cf 223 #[.agg #[d,e]] b λd e=>asInt .i64 d λd=>ce e h.size 0 a (dw2 e H1.size (.int .i64 c) (.int .i64 d) λa=>dl2 a H1.size λc d=>K (.agg #[c,d]) a)) (dl2 b h.size λa c=>ldH b ⟨h.size,1,none⟩ λd=>asInt .i64 d λe=>cf 223 #[.agg #[a,c]] b λa b=>asInt .i64 a λa=>ce b h.size 1 d (stH b ⟨H1.size,0,none⟩ (.int .i64 (IntKind.wrap .i64 (a+1))) λa=>stH a ⟨H1.size,1,none⟩ (.int .i64 e) λa=>dl2 a H1.size λb c=>K (.agg #[b,c]) a))))
def F224 (K:Value→Wa1→Prop) (h:Wa1) (xa xb:Int) (xc:Bool):Prop:=
 (g224 K h (Array.push h (.cells #[.int .i64 xa,.int .i64 xb] 282)) (Array.push (Array.push h (.cells #[.int .i64 xa,.int .i64 xb] 282)) (.cells #[.int .i64 0,.int .i64 0] 282)) xc)
theorem call224 {K:Value→Wa1→Prop} {h:Wa1} {xa xb:Int} {xc:Bool} (H:F224 K h xa xb xc):Wa5 Tryz.prog 224 #[(.agg #[(.int .i64 xa),(.int .i64 xb)]),(.bool xc)] h K:=
 Wa4 Tryz.func224 (by kernel_rfl) (Eq.mp (by kernel_rfl) H)
def F226 (K:Value→Wa1→Prop) (h:Wa1) (xa:Int):Prop:=
 (K (.bool ((IntKind.wrap .u64 ((((BitVec.ofInt 64 xa) &&& (BitVec.ofInt 64 1)).toNat:Nat):Int)) == 1)) h)
theorem call226 {K:Value→Wa1→Prop} {h:Wa1} {xa:Int} (H:F226 K h xa):Wa5 Tryz.prog 226 #[(.int .u64 xa)] h K:=
 Wa4 Tryz.func226 (by kernel_rfl) (Eq.mp (by kernel_rfl) H)
def F230 (K:Value→Wa1→Prop) (h:Wa1) (xa xb:Int):Prop:=
 (cf 287 #[.int .i64 xa] h λa b=>asBool a λa=>ifB a (cf 216 #[.int .i64 xb] b λa c=>asInt .i64 a λa=>K (.bool (decide (xa < a))) c) (K (.bool false) b))
theorem call230 {K:Value→Wa1→Prop} {h:Wa1} {xa xb:Int} (H:F230 K h xa xb):Wa5 Tryz.prog 230 #[(.int .i64 xa),(.int .i64 xb)] h K:=
 Wa4 Tryz.func230 (by kernel_rfl) (Eq.mp (by kernel_rfl) H)
def F235 (K:Value→Wa1→Prop) (h:Wa1) (xa:Option Addr) (xb:Int):Prop:=
 (ifB (!(Option.isNone xa)) (nP xa λa=>lS h a λa b c=>Wu4 Tryz.prog #[25,25] 25 #[.slice a b c,.slice (some ⟨h.size,0,none⟩) 1 1] (Array.push h (.cells #[.int .i64 xb] 3)) λa b=>Wb5 a λa c d=>nP xa λe=>stH b e (.slice a c d) λa=>K (.tuple #[]) a) (K (.tuple #[]) h))
theorem call235 {K:Value→Wa1→Prop} {h:Wa1} {xa:Option Addr} {xb:Int} (H:F235 K h xa xb):Wa5 Tryz.prog 235 #[(.pointer xa),(.int .i64 xb)] h K:=
 Wa4 Tryz.func235 (by kernel_rfl) (Eq.mp (by kernel_rfl) H)
def F237 (K:Value→Wa1→Prop) (h:Wa1) (xa:Option Addr) (xb xc:Nat) (xd:Int):Prop:=
 (cf 289 #[.slice xa xb xc,.int .i64 xd] h λa b=>asInt .i64 a λa=>K (.bool (decide (a ≥ 0))) b)
theorem call237 {K:Value→Wa1→Prop} {h:Wa1} {xa:Option Addr} {xb xc:Nat} {xd:Int} (H:F237 K h xa xb xc xd):Wa5 Tryz.prog 237 #[(.slice xa xb xc),(.int .i64 xd)] h K:=
 Wa4 Tryz.func237 (by kernel_rfl) (Eq.mp (by kernel_rfl) H)
def F238 (K:Value→Wa1→Prop) (h:Wa1) (xa:Option Addr):Prop:=
 (ifB (Option.isNone xa) (K (.slice none 0 0) h) (nP xa λa=>lS h a λa b c=>cf 81 #[.slice a b c] h λa b=>Wb5 a λa c d=>K (.slice a c d) b))
theorem call238 {K:Value→Wa1→Prop} {h:Wa1} {xa:Option Addr} (H:F238 K h xa):Wa5 Tryz.prog 238 #[(.pointer xa)] h K:=
 Wa4 Tryz.func238 (by kernel_rfl) (Eq.mp (by kernel_rfl) H)
def F239 (K:Value→Wa1→Prop) (h:Wa1) (xa:Option Addr) (xb:Value):Prop:=
 (exI λI0=>(ifB (Option.isNone xa) (I0 [.bool true] h) (Wj6 xb λa=>I0 [.bool a] h))∧(∀(a:Value) (b:Env) (b:Wa1),(I0 [a] b)→(asBool a λa=>ifB a (∀a:Wa1,(SameD h.size b a)→(K (.int .i64 0) a)) (nP xa λa=>lS (Array.push b (.cells #[.slice none 0 0] 25)) a λa c d=>cf 291 #[.slice a c d] (Array.push b (.cells #[.slice none 0 0] 25)) λa c=>cf 290 #[a,xb] c λa c=>WQ9 Tryz.prog a 1 c (λI16 a c=>asInt .i64 (a.getD 0 (.tuple #[])) λa=>lS c ⟨b.size,0,none⟩ λd e f=>Wu4 Tryz.prog #[25,25] 25 #[.slice d e f,.slice (some ⟨c.size,0,none⟩) 1 1] (Array.push c (.cells #[.int .i64 a] 3)) λa c=>Wb5 a λa d e=>stH c ⟨b.size,0,none⟩ (.slice a d e) λa=>I16 .normal a) (λa=>nP xa λc=>lS a c λc c d=>lS a ⟨b.size,0,none⟩ λd d e=>lS a ⟨b.size,0,none⟩ λb e f=>nP xa λg=>stH a g (.slice b e f) λa=>(∀b:Wa1,(SameD h.size a b)→(K (.int .i64 (IntKind.wrap .i64 ((c:Int) - (d:Int)))) b))) []))))
theorem call239 {K:Value→Wa1→Prop} {h:Wa1} {xa:Option Addr} {xb:Value} (H:F239 K h xa xb):Wa5 Tryz.prog 239 #[(.pointer xa),xb] h K:=
 Wa4 Tryz.func239 (by kernel_rfl) (Eq.mp (by kernel_rfl) H)
def F274 (K:Value→Wa1→Prop) (h:Wa1) (xa:Int):Prop:=
 (((0:Int)≤32)∧(K (.int .u32 (IntKind.wrap .u32 (Int.fdiv xa 4294967296))) h))
theorem call274 {K:Value→Wa1→Prop} {h:Wa1} {xa:Int} (H:F274 K h xa):Wa5 Tryz.prog 274 #[(.int .u64 xa)] h K:=
 Wa4 Tryz.func274 (by kernel_rfl) (Eq.mp (by kernel_rfl) H)
def F277 (K:Value→Wa1→Prop) (h:Wa1) (xa:Int) (xb:Option Addr) (xc xd:Nat):Prop:=
 (exI λI0=>exM λm1=>(I0 [.bool false,.tuple #[],.int .i64 0] h)∧(∀(a b c:Value) (d:Env) (d:Wa1),(I0 [a,b,c] d)→(asInt .i64 c λe=>ifB (decide (e < ((xc:Nat):Int))) (asI c λe=>bd e ((xc:Nat):Int) (Wd2 (.pointer xb) λf=>lI .u64 d (Addr.add f (e.toNat*1)) λe=>ifB (decide (e ≥ xa)) (K (.bool false) d) (asInt .i64 c λf=>(I0 [a,.int .u64 e,.int .i64 (IntKind.wrap .i64 (f+1))] d)∧((m1 [a,.int .u64 e,.int .i64 (IntKind.wrap .i64 (f+1))] d) < (m1 [a,b,c] d))))) (K (.bool true) d))))
theorem call277 {K:Value→Wa1→Prop} {h:Wa1} {xa:Int} {xb:Option Addr} {xc xd:Nat} (H:F277 K h xa xb xc xd):Wa5 Tryz.prog 277 #[(.int .u64 xa),(.slice xb xc xd)] h K:=
 Wa4 Tryz.func277 (by kernel_rfl) (Eq.mp (by kernel_rfl) H)
def F278 (K:Value→Wa1→Prop) (h:Wa1) (xa:Int) (xb:Bool) (xc:Int):Prop:=
 (((0:Int)≤17)∧(((0:Int)≤1)∧(ifB xb (K (.int .u64 (IntKind.wrap .u64 ((((BitVec.ofInt 64 (IntKind.wrap .u64 ((((BitVec.ofInt 64 (IntKind.wrap .u64 (xc*131072))) ||| (BitVec.ofInt 64 (IntKind.wrap .u64 (xa*2)))).toNat:Nat):Int))) ||| (BitVec.ofInt 64 1)).toNat:Nat):Int))) h) (K (.int .u64 (IntKind.wrap .u64 ((((BitVec.ofInt 64 (IntKind.wrap .u64 (xc*131072))) ||| (BitVec.ofInt 64 (IntKind.wrap .u64 (xa*2)))).toNat:Nat):Int))) h))))
theorem call278 {K:Value→Wa1→Prop} {h:Wa1} {xa:Int} {xb:Bool} {xc:Int} (H:F278 K h xa xb xc):Wa5 Tryz.prog 278 #[(.int .u64 xa),(.bool xb),(.int .u64 xc)] h K:=
 Wa4 Tryz.func278 (by kernel_rfl) (Eq.mp (by kernel_rfl) H)
def F280 (K:Value→Wa1→Prop) (h:Wa1) (xa:Option Addr):Prop:=
 (ifB (Option.isNone xa) (K (.int .i64 0) h) (nP xa λa=>lI .i64 h (Addr.add a 1) λa=>nP xa λb=>stH h (Addr.add b 1) (.int .i64 (IntKind.wrap .i64 (a+1))) λa=>nP xa λb=>lI .i64 a (Addr.add b 1) λb=>nP xa λc=>lS a c λc c d=>ifB (decide (b > (c:Int))) (K (.int .i64 0) a) (nP xa λb=>lS a b λb c d=>nP xa λd=>lI .i64 a (Addr.add d 1) λd=>((0:Int)≤(IntKind.wrap .i64 (d - 1)))∧((((IntKind.wrap .i64 (d - 1)):Int) < (c:Int))∧(Wd2 (.pointer b) λb=>ldH a (Addr.add b ((IntKind.wrap .i64 (d - 1)).toNat*1)) λb=>asInt .u8 b λb=>K (.int .i64 (IntKind.wrap .i64 b)) a)))))
theorem call280 {K:Value→Wa1→Prop} {h:Wa1} {xa:Option Addr} (H:F280 K h xa):Wa5 Tryz.prog 280 #[(.pointer xa)] h K:=
 Wa4 Tryz.func280 (by kernel_rfl) (Eq.mp (by kernel_rfl) H)
def F285 (K:Value→Wa1→Prop) (h:Wa1) (xa:Int):Prop:=
 (((0:Int)≤17)∧(K (.int .u64 (Int.fdiv xa 131072)) h))
theorem call285 {K:Value→Wa1→Prop} {h:Wa1} {xa:Int} (H:F285 K h xa):Wa5 Tryz.prog 285 #[(.int .u64 xa)] h K:=
 Wa4 Tryz.func285 (by kernel_rfl) (Eq.mp (by kernel_rfl) H)
def F298 (K:Value→Wa1→Prop) (h:Wa1) (xa:Int):Prop:=
 (((0:Int)≤1)∧(K (.int .u32 (IntKind.wrap .u32 (Int.fdiv xa 2))) h))
theorem call298 {K:Value→Wa1→Prop} {h:Wa1} {xa:Int} (H:F298 K h xa):Wa5 Tryz.prog 298 #[(.int .u64 xa)] h K:=
 Wa4 Tryz.func298 (by kernel_rfl) (Eq.mp (by kernel_rfl) H)
def F282 (K:Value→Wa1→Prop) (h:Wa1) (xa xb:Int):Prop:=
 (exI λI0=>(cf 287 #[.int .i64 xa] h λa b=>asBool a λa=>ifB (!a) (I0 [.bool true,.bool true] b) (ifB (decide (xb < 0)) (I0 [.bool (decide (xb < 0)),.bool true] b) (cf 301 #[.int .i64 xa] b λa b=>asInt .i64 a λa=>I0 [.bool (decide (xb < 0)),.bool (decide (a < xb))] b)))∧(∀(a b:Value) (c:Env) (c:Wa1),(I0 [a,b] c)→(asBool b λa=>ifB a (K (.int .i64 0) c) (cf 301 #[.int .i64 xa] c λa b=>asInt .i64 a λa=>((0:Int)≤(IntKind.wrap .i64 (a - xb)))∧(K (.int .i64 (Int.fdiv xa (2 ^ (min (IntKind.wrap .i64 (a - xb)).toNat 64)))) b)))))
theorem call282 {K:Value→Wa1→Prop} {h:Wa1} {xa xb:Int} (H:F282 K h xa xb):Wa5 Tryz.prog 282 #[(.int .i64 xa),(.int .i64 xb)] h K:=
 Wa4 Tryz.func282 (by kernel_rfl) (Eq.mp (by kernel_rfl) H)
def F283 (K:Value→Wa1→Prop) (h:Wa1) (xa:Int):Prop:=
 (Wk2 (λa b=>W91 a b) Tryz.prog 3 [.int .i64 xa,.int .i64 1073741824] λa=>Wk2 (λb c=>WO7 b c) Tryz.prog 3 [.int .i64 0,.int .i64 a] λa=>K (.int .i64 a) h)
theorem call283 {K:Value→Wa1→Prop} {h:Wa1} {xa:Int} (H:F283 K h xa):Wa5 Tryz.prog 283 #[(.int .i64 xa)] h K:=
 Wa4 Tryz.func283 (by kernel_rfl) (Eq.mp (by kernel_rfl) H)
def F287 (K:Value→Wa1→Prop) (h:Wa1) (xa:Int):Prop:=
 (ifB (decide (xa ≥ 1)) (K (.bool (decide (xa≤1048576))) h) (K (.bool false) h))
theorem call287 {K:Value→Wa1→Prop} {h:Wa1} {xa:Int} (H:F287 K h xa):Wa5 Tryz.prog 287 #[(.int .i64 xa)] h K:=
 Wa4 Tryz.func287 (by kernel_rfl) (Eq.mp (by kernel_rfl) H)
def F289 (K:Value→Wa1→Prop) (h:Wa1) (xa:Option Addr) (xb xc:Nat) (xd:Int):Prop:=
 (exI λI0=>exM λm1=>(I0 [.int .i64 0,.tuple #[],.int .i64 0] h)∧(∀(a b c:Value) (d:Env) (d:Wa1),(I0 [a,b,c] d)→(asInt .i64 c λe=>ifB (decide (e < ((xb:Nat):Int))) (asInt .i64 c λe=>bd e ((xb:Nat):Int) (Wd2 (.pointer xa) λf=>lI .i64 d (Addr.add f (e.toNat*1)) λf=>ifB (xd == f) (K (.int .i64 e) d) (asInt .i64 c λf=>(I0 [a,.int .i64 e,.int .i64 (IntKind.wrap .i64 (f+1))] d)∧((m1 [a,.int .i64 e,.int .i64 (IntKind.wrap .i64 (f+1))] d) < (m1 [a,b,c] d))))) (K (.int .i64 (-1)) d))))
theorem call289 {K:Value→Wa1→Prop} {h:Wa1} {xa:Option Addr} {xb xc:Nat} {xd:Int} (H:F289 K h xa xb xc xd):Wa5 Tryz.prog 289 #[(.slice xa xb xc),(.int .i64 xd)] h K:=
 Wa4 Tryz.func289 (by kernel_rfl) (Eq.mp (by kernel_rfl) H)
def F301 (K:Value→Wa1→Prop) (h:Wa1) (xa:Int):Prop:=
 (cf 287 #[.int .i64 xa] h λa b=>asBool a λa=>ifB (!a) (K (.int .i64 0) b) (cf 308 #[.int .u64 (IntKind.wrap .u64 xa)] b λa b=>asInt .i64 a λa=>K (.int .i64 (IntKind.wrap .i64 (a - 1))) b))
theorem call301 {K:Value→Wa1→Prop} {h:Wa1} {xa:Int} (H:F301 K h xa):Wa5 Tryz.prog 301 #[(.int .i64 xa)] h K:=
 Wa4 Tryz.func301 (by kernel_rfl) (Eq.mp (by kernel_rfl) H)
def F308 (K:Value→Wa1→Prop) (h:Wa1) (xa:Int):Prop:=
 (cf 310 #[.int .u64 xa] h λa b=>asInt .i64 a λa=>K (.int .i64 a) b)
theorem call308 {K:Value→Wa1→Prop} {h:Wa1} {xa:Int} (H:F308 K h xa):Wa5 Tryz.prog 308 #[(.int .u64 xa)] h K:=
 Wa4 Tryz.func308 (by kernel_rfl) (Eq.mp (by kernel_rfl) H)
def F310 (K:Value→Wa1→Prop) (h:Wa1) (xa:Int):Prop:=
 (exI λI0=>(ifB (decide (xa ≥ 4294967296)) (((0:Int)≤32)∧(I0 [.int .u64 (Int.fdiv xa 4294967296),.int .i64 32] h)) (I0 [.int .u64 xa,.int .i64 0] h))∧(∀(a b:Value) (c:Env) (c:Wa1),(I0 [a,b] c)→(exI λI5=>(asInt .u64 a λd=>ifB (decide (d ≥ 65536)) (asInt .u64 a λd=>((0:Int)≤16)∧(asInt .i64 b λe=>I5 [.int .u64 (Int.fdiv d 65536),.int .i64 (IntKind.wrap .i64 (e+16))] c)) (I5 [a,b] c))∧(∀(a b:Value) (c:Env) (c:Wa1),(I5 [a,b] c)→(exI λI13=>(asInt .u64 a λd=>ifB (decide (d ≥ 256)) (asInt .u64 a λd=>((0:Int)≤8)∧(asInt .i64 b λe=>I13 [.int .u64 (Int.fdiv d 256),.int .i64 (IntKind.wrap .i64 (e+8))] c)) (I13 [a,b] c))∧(∀(a b:Value) (c:Env) (c:Wa1),(I13 [a,b] c)→(asInt .i64 b λb=>asInt .u64 a λa=>((0:Int)≤(IntKind.wrap .u8 a))∧((((IntKind.wrap .u8 a):Int) < 256)∧(K (.int .i64 (IntKind.wrap .i64 (b+(IntKind.wrap .i64 (WZ8 (⟨#[0,1,2,2,3,3,3,3,4,4,4,4,4,4,4,4,5,5,5,5,5,5,5,5,5,5,5,5,5,5,5,5,6,6,6,6,6,6,6,6,6,6,6,6,6,6,6,6,6,6,6,6,6,6,6,6,6,6,6,6,6,6,6,6,7,7,7,7,7,7,7,7,7,7,7,7,7,7,7,7,7,7,7,7,7,7,7,7,7,7,7,7,7,7,7,7,7,7,7,7,7,7,7,7,7,7,7,7,7,7,7,7,7,7,7,7,7,7,7,7,7,7,7,7,7,7,7,7,8,8,8,8,8,8,8,8,8,8,8,8,8,8,8,8,8,8,8,8,8,8,8,8,8,8,8,8,8,8,8,8,8,8,8,8,8,8,8,8,8,8,8,8,8,8,8,8,8,8,8,8,8,8,8,8,8,8,8,8,8,8,8,8,8,8,8,8,8,8,8,8,8,8,8,8,8,8,8,8,8,8,8,8,8,8,8,8,8,8,8,8,8,8,8,8,8,8,8,8,8,8,8,8,8,8,8,8,8,8,8,8,8,8,8,8,8,8,8,8,8,8,8,8,8,8,8,8]⟩ : ByteArray) (IntKind.wrap .u8 a).toNat))))) c)))))))))
theorem call310 {K:Value→Wa1→Prop} {h:Wa1} {xa:Int} (H:F310 K h xa):Wa5 Tryz.prog 310 #[(.int .u64 xa)] h K:=
 Wa4 Tryz.func310 (by kernel_rfl) (Eq.mp (by kernel_rfl) H)
end
end Go.Proofs.YtahpbclnkofhfaaGreat
section
namespace Go.Proofs.YtahpbclnkofhfaaGreat.Mod
def Wg8 (w:Int):Int:=w / 2 % 65536
def Wp4 (w:Int):Bool:=w % 2 == 1
def Zs9 (w:Int):Int:=w / 131072
def b2i (b:Bool):Int:=if b then 1 else 0
def Wq9 (ptr:Int) (mark:Bool) (ver:Int):Int:=ver*131072+ptr*2+b2i mark
def WA5 (w ptr:Int) (mark:Bool):Int:=Wq9 (ptr % 65536) mark ((Zs9 w+1) % 140737488355328)
def YU3 (w:Int):Int:=WA5 w (Wg8 w) true
def u64 (n:Int):Int:=n % 18446744073709551616
def s64 (n:Int):Int:=if n % 18446744073709551616 < 9223372036854775808 then n % 18446744073709551616 else n % 18446744073709551616 - 18446744073709551616
def u32 (n:Int):Int:=n % 4294967296
structure Cf where
 algo:Int
 threads:Int
 nodes:Int
 level:Int
 batch:Int
 probes:Int
 scan:Int
structure Pl where
 c:Cf
 slots:Int
 width:Int
 sent:Int
 hazards:Int
 links:Int
 nodes:Int
 tree:Int
 size:Int
def Wc7 (c:Cf):Pl:=
 let m:=c.algo == 0
 let slots:=if m then 2 else 2*c.level+2
 let width:=if m then 3 else 5+c.level
 let links:=8+c.threads*slots
 let nodes:=links+c.nodes
 let tree:=nodes+c.nodes*width
 ⟨c,slots,width,if m then 0 else 2,8,links,nodes,tree,tree+(if m then 2 ^ c.level.toNat else 0)⟩
def okC (c:Cf):Bool:=decide (0≤c.algo∧c.algo≤2∧1≤c.threads∧c.threads≤6∧1≤c.nodes∧c.nodes≤64∧1≤c.level∧c.level≤6∧1≤c.batch∧c.batch≤16∧1≤c.probes∧c.probes≤16∧1≤c.scan∧c.scan≤64∧(if c.algo=0 then 0 else 2) < c.nodes)
def Pl.haz (p:Pl) (t s:Int):Int:=if 0≤t∧t < p.c.threads∧0≤s∧s < p.slots then p.hazards+t*p.slots+s else -1
def Pl.link (p:Pl) (n:Int):Int:=if 1≤n∧n≤p.c.nodes then p.links+n - 1 else -1
def Pl.node (p:Pl) (n f:Int):Int:=if 1≤n∧n≤p.c.nodes∧0≤f∧f < p.width then p.nodes+(n - 1)*p.width+f else -1
def Pl.at (p:Pl) (pos:Int):Int:=if 0≤pos∧pos < p.size - p.tree then p.tree+pos else -1
def Pl.within (p:Pl) (a:Int):Option Int:=if p.nodes≤a∧a < p.tree then some ((a - p.nodes) / p.width+1) else none
structure Frm where
 fn:Int
 pc:Int
 r:List Int
structure Thr where
 fr:List Frm
 ret:List Int
 pred:List Int
 succ:List Int
 word:List Int
 retired:List Int
 found:List Int
structure Gh where
 tags:List Int
 kind:Int
 node:Int
structure Acc where
 kind:Int
 a:Int
 b:Int
 done:Bool
structure Mm where
 w:List Int
 st:Int
 wt:Bool
 lg:List Acc
structure Mac where
 p:Pl
 mm:Mm
 g:Option Gh
 b:List Int
 used:Int
 th:List Thr
 acted:Bool
 bad:Bool
def Gh.fault (g:Gh) (k i:Int):Gh:=if g.kind=0∧g.node=0 then { g with kind:=k,node:=i } else g
def Gh.turn (g:Gh) (i from_ to_ k:Int):Gh:=
 if i < 1∨g.tags.length < i then g.fault 5 i else if g.tags.getD (i - 1).toNat 0≠from_ then g.fault k i else { g with tags:=g.tags.set (i - 1).toNat to_ }
def Gh.touch (g:Gh) (i:Int):Gh:=if i < 1∨g.tags.length < i then g.fault 5 i else if g.tags.getD (i - 1).toNat 0=0 then g.fault 4 i else g
def Ze5 (nodes live:Int):Gh:=⟨(List.range nodes.toNat).map λ(i:Nat)=>if (i:Int) < live then 1 else 0,0,0⟩
def Mac.gh (m:Mac) (f:Gh→Gh):Mac:={ m with g:=m.g.map f }
def Mm.ok (m:Mm) (a:Int):Bool:=decide (0≤a∧a < m.w.length)
def Mm.get (m:Mm) (a:Int):Int:=m.w.getD a.toNat 0
def Mm.put (m:Mm) (a v:Int):Mm:={ m with w:=m.w.set a.toNat v }
def Mm.tick (m:Mm) (k a b:Int) (d:Bool):Mm:={ m with st:=m.st+1,lg:=if m.wt then m.lg ++ [⟨k,a,b,d⟩] else m.lg }
def Mm.store (m:Mm) (a v:Int):Mm:=if m.ok a then (m.tick 1 a (-1) true).put a v else m
def Mm.cas (m:Mm) (a o n:Int):Mm:=if m.get a=o then (m.put a n).tick 2 a (-1) true else m.tick 2 a (-1) false
def Mm.dcas (m:Mm) (a o n b p q:Int):Mm:=if m.get a=o∧m.get b=p then ((m.put a n).put b q).tick 4 a b true else m.tick 4 a b false
def Mm.dcss (m:Mm) (a o n b p:Int):Mm:=if m.get a=o∧m.get b=p then (m.put a n).tick 5 a b true else m.tick 5 a b false
def Mac.setM (m:Mac) (x:Mm):Mac:={ m with mm:=x }
def Mac.fail (m:Mac):Mac:={ m with bad:=true }
def Mac.touch (m:Mac) (a:Int):Mac:=match m.p.within a with
 | some n=>{ m with acted:=true,g:=m.g.map λg=>g.touch n }
 | none=>{ m with acted:=true }
def Mac.load (m:Mac) (a:Int):Int × Mac:=let m:=m.touch a;if m.mm.ok a then (m.mm.get a,m.setM (m.mm.tick 0 a (-1) false)) else (0,m.fail)
def Mac.store (m:Mac) (a v:Int):Mac:=let m:=m.touch a;if m.mm.ok a then m.setM ((m.mm.tick 1 a (-1) true).put a v) else m.fail
def Mac.cas (m:Mac) (a o n:Int):Bool × Mac:=let m:=m.touch a;if m.mm.ok a then (decide (m.mm.get a=o),m.setM (m.mm.cas a o n)) else (false,m.fail)
def Mac.add (m:Mac) (a d:Int):Int × Mac:=let m:=m.touch a;if m.mm.ok a then (m.mm.get a,m.setM ((m.mm.tick 3 a (-1) true).put a (u64 (m.mm.get a+d)))) else (0,m.fail)
def Mac.dcas (m:Mac) (a o n b p q:Int):Bool × Mac:=
 let m:=(m.touch a).touch b
 if m.mm.ok a=true∧m.mm.ok b=true∧a≠b then (decide (m.mm.get a=o∧m.mm.get b=p),m.setM (m.mm.dcas a o n b p q)) else (false,m.fail)
def Mac.dcss (m:Mac) (a o n b p:Int):Bool × Mac:=
 let m:=(m.touch a).touch b
 if m.mm.ok a=true∧m.mm.ok b=true then (decide (m.mm.get a=o∧m.mm.get b=p),m.setM (m.mm.dcss a o n b p)) else (false,m.fail)
def Mac.fault (m:Mac):Bool:=m.bad || match m.g with | some g=>decide (g.kind≠0∨g.node≠0) | none=>false
def Mac.take (m:Mac):Int × Mac:=(if m.used+1 > m.b.length then 0 else m.b.getD m.used.toNat 0,{ m with used:=m.used+1 })
def Mac.next (m:Mac) (n:Int):Int × Mac:=if n < 1 then (0,m) else let (c,m):=m.take;(c % n,m)
def lev (c:Int):Nat→Nat→Int
 | 0,i=>i
 | k+1,i=>if c / 2 ^ i % 2=0 then i+1 else lev c k (i+1)
def Mac.lvl (m:Mac) (most:Int):Int × Mac:=if most < 1 then (1,m) else let (c,m):=m.take;(lev c most.toNat 0,m)
def lay (p:Pl):Mm:=
 let c:=p.c
 let m0:Mm:=⟨List.replicate p.size.toNat 0,0,false,[]⟩
 let first:=p.sent+1
 let m1:=m0.store 0 (Wq9 first false 0)
 let m2:=(List.range (c.nodes - first).toNat).foldl (λ(m:Mm) (i:Nat)=>m.store (p.link (first+i)) (first+i+1)) m1
 let m3:=m2.store 2 1
 if c.algo=0 then m3 else
  let m4:=m3.store (p.node 1 3) c.level
  let m5:=m4.store (p.node 2 0) 18446744073709551615
  (List.range c.level.toNat).foldl (λ(m:Mm) (i:Nat)=>m.store (p.node 1 (5+i)) (Wq9 2 false 0)) m5
def WM2 (c:Cf):Thr:=⟨[],[0,0,0],List.replicate c.level.toNat 0,List.replicate c.level.toNat 0,List.replicate c.level.toNat 0,[],[]⟩
def We9 (c:Cf) (b:List Int) (gh:Bool):Mac:=
 let p:=Wc7 c
 ⟨p,lay p,if gh then some (Ze5 c.nodes p.sent) else none,b,0,List.replicate c.threads.toNat (WM2 c),false,false⟩
structure Run where
 m:Mac
 t:Thr
 id:Int
def pad (n:Nat) (l:List Int):List Int:=(l ++ List.replicate n 0).take n
def Thr.push (t:Thr) (fn:Int) (r:List Int):Thr:={ t with fr:=t.fr ++ [⟨fn,0,pad 10 r⟩] }
def Thr.pop (t:Thr) (r:List Int):Thr:=if t.fr = [] then t else { t with fr:=t.fr.dropLast,ret:=pad 3 r }
def dfF:Frm:=⟨0,0,[]⟩
def Thr.top (t:Thr):Frm:=t.fr.getLast?.getD dfF
def Thr.setTop (t:Thr) (f:Frm):Thr:={ t with fr:=t.fr.dropLast ++ [f] }
def Frm.g (f:Frm) (i:Nat):Int:=f.r.getD i 0
def Frm.s (f:Frm) (i:Nat) (v:Int):Frm:={ f with r:=f.r.set i v }
def Frm.at (f:Frm) (pc:Int):Frm:={ f with pc:=pc }
def Run.f (x:Run):Frm:=x.t.top
def Run.setF (x:Run) (f:Frm):Run:={ x with t:=x.t.setTop f }
def Run.pc (x:Run) (pc:Int):Run:=x.setF (x.f.at pc)
def Run.s (x:Run) (i:Nat) (v:Int):Run:=x.setF (x.f.s i v)
def Run.push (x:Run) (fn:Int) (r:List Int):Run:={ x with t:=x.t.push fn r }
def Run.pop (x:Run) (r:List Int):Run:={ x with t:=x.t.pop r }
def Run.call (x:Run) (pc fn:Int) (r:List Int):Run:=(x.pc pc).push fn r
def Run.fo (x:Run) (l:List Int):Run:={ x with t:={ x.t with found:=l } }
def Run.re (x:Run) (l:List Int):Run:={ x with t:={ x.t with retired:=l } }
def Run.setPl (x:Run) (p s w:List Int):Run:={ x with t:={ x.t with pred:=p,succ:=s,word:=w } }
def Run.load (x:Run) (a:Int):Int × Run:=let (v,m):=x.m.load a;(v,{ x with m:=m })
def Run.store (x:Run) (a v:Int):Run:={ x with m:=x.m.store a v }
def Run.cas (x:Run) (a o n:Int):Bool × Run:=let (v,m):=x.m.cas a o n;(v,{ x with m:=m })
def Run.add (x:Run) (a d:Int):Int × Run:=let (v,m):=x.m.add a d;(v,{ x with m:=m })
def Run.gh (x:Run) (f:Gh→Gh):Run:={ x with m:=x.m.gh f }
def alloc (x:Run):Run:=
 let f:=x.f
 let node:=Wg8 (f.g 0)
 if f.pc=0 then
  let (v,x):=x.load 0
  let x:=(x.s 0 v).pc 1
  if Wg8 v=0 then x.pop [0] else x
 else if f.pc=1 then
  let (v,x):=x.load (x.m.p.link node)
  (x.s 1 v).pc 2
 else
  let x:=x.pc 0
  let (ok,x):=x.cas 0 (f.g 0) (WA5 (f.g 0) (s64 (f.g 1)) false)
  if ok then (x.gh λg=>g.turn node 0 1 1).pop [node] else x
def Wt3 (x:Run):Run:=
 let f:=x.f
 let node:=s64 (f.g 0)
 if f.pc=0 then
  let (v,x):=x.load 0
  (x.s 1 v).pc 1
 else if f.pc=1 then
  (x.store (x.m.p.link node) (Wg8 (f.g 1))).pc 2
 else
  let x:=x.pc 0
  let (ok,x):=x.cas 0 (f.g 1) (WA5 (f.g 1) node false)
  if ok then (x.gh λg=>g.turn node 2 0 3).pop [u64 node] else x
def Wt4 (x:Run):Run:=if x.t.fr = [] then x else if x.f.fn=1 then alloc x else if x.f.fn=2 then Wt3 x else x.pop []
def Wt5 (x:Run):Run:=
 let f:=x.f
 let a:=s64 (f.g 1)
 if f.pc=0 then
  let (v,x):=x.load a
  let x:=(x.s 2 v).pc 1
  if Wg8 v=0 then x.pop [v] else x
 else if f.pc=1 then
  (x.store (x.m.p.haz x.id (s64 (f.g 0))) (Wg8 (f.g 2))).pc 2
 else
  let (v,x):=x.load a
  if v=f.g 2∨Wg8 v=0 then x.pop [v] else (x.s 2 v).pc 1
def YU4 (x:Run):Run:=
 let f:=x.f
 if f.pc ≥ x.m.p.slots then x.pop [] else (x.store (x.m.p.haz x.id f.pc) 0).pc (f.pc+1)
def WA6 (x:Run):Run:=
 let node:=s64 (x.f.g 0)
 let x:=x.gh λg=>g.turn node 1 2 2
 let x:=(x.re (x.t.retired ++ [node])).pop []
 if (x.t.retired.length:Int) ≥ x.m.p.c.scan then x.push 6 [] else x
def WE6 (x:Run) (all:Int):Run:=
 if x.f.pc=all then ((x.re (x.t.retired.filter λn=>x.t.found.contains n)).fo (x.t.retired.filter λn=>!x.t.found.contains n)).pc (x.f.pc+1) else x
def W50 (x:Run):Run:=match x.t.found with
 | []=>x.pop []
 | n :: rest=>(x.fo rest).push 2 [u64 n]
def scan (x:Run):Run:=
 let p:=x.m.p
 let all:=p.slots*p.c.threads
 let x:=if x.f.pc=0 then x.fo [] else x
 if x.f.pc < all then
  let (v,y):=x.load (p.haz (x.f.pc / p.slots) (x.f.pc % p.slots))
  (y.fo (y.t.found ++ [s64 v])).pc (x.f.pc+1)
 else W50 (WE6 x all)
def Wk9 (x:Run):Run:=
 if x.t.fr = [] then x else if x.f.fn=3 then Wt5 x else if x.f.fn=4 then YU4 x else if x.f.fn=5 then WA6 x else if x.f.fn=6 then scan x else Wt4 x
def bits (d:Run→Run):Nat→Run→Option Run
 | 0,x=>if x.m.acted || x.t.fr.isEmpty then some x else none
 | n+1,x=>if x.m.acted || x.t.fr.isEmpty then some x else bits d n (d x)
def Mac.step (m:Mac) (i:Int) (d:Run→Run) (n:Nat):Option (Bool × Mac):=
 if i < 0∨m.th.length≤i then some (false,m) else
  match bits d n ⟨{ m with acted:=false },m.th.getD i.toNat (WM2 m.p.c),i⟩ with
  | none=>none
  | some x=>some (!x.t.fr.isEmpty,{ x.m with th:=x.m.th.set i.toNat x.t })
end Go.Proofs.YtahpbclnkofhfaaGreat.Mod
end
section
namespace Go.Proofs.YtahpbclnkofhfaaGreat.Mod
def Za7 (n:Int):Bool:=decide (1≤n∧n≤1048576)
def Wr3 (n:Int):Int:=if Za7 n then (Nat.log2 n.toNat:Nat) else 0
def Wg4 (d:Int):Int:=if d < 1∨d > 20 then 0 else 2 ^ (d - 1).toNat
def YU5 (d draw:Int):Int:=let n:=Wg4 d;if n=0 then 0 else n+(max draw 0) % n
def ZI9 (n l:Int):Int:=if !Za7 n || decide (l < 0) || decide (Wr3 n < l) then 0 else n / 2 ^ (Wr3 n - l).toNat
def Ym5 (n d:Int):Bool:=Za7 n && decide (n < Wg4 d)
structure Sp where
 lo:Int
 hi:Int
def Zt0 (n:Int):Sp:=⟨0,max n 1 - 1⟩
def Sp.done (s:Sp):Bool:=decide (s.lo ≥ s.hi)
def Yy5 (n:Int):Int:=max 0 (min n 1073741824)
def Sp.mid (s:Sp):Int:=(Yy5 s.lo+Yy5 s.hi) / 2
def Sp.cut (s:Sp) (is:Bool):Sp:=if s.done then s else if is then ⟨s.lo,s.mid⟩ else ⟨s.mid+1,s.hi⟩
def Run.at (x:Run) (place:Int):Int:=x.m.p.at (s64 place)
def Run.nodeW (x:Run) (w field:Int):Int:=x.m.p.node (Wg8 w) field
def Run.swing (x:Run) (place w ptr:Int) (dirty:Bool):Bool × Run:=x.cas (x.at place) w (WA5 w ptr dirty)
def Run.fin (x:Run) (k key val:Int):Run:=(((x.s 7 k).s 8 key).s 9 val).call 90 4 []
def Run.ret (x:Run) (i:Nat):Int:=x.t.ret.getD i 0
def WS4 (x:Run):Run:=
 if x.f.pc=0 then x.call 1 3 [1,u64 (x.at (x.f.g 0))]
 else
  let w:=x.ret 0
  if Wg8 w=0 then x.pop [w,1099511627776]
  else let (v,x):=x.load (x.nodeW w 0);x.pop [w,v]
def Yc2 (x:Run):Sp:=⟨x.f.g 6 / 256,x.f.g 6 % 256⟩
def WS5 (x:Run) (s:Sp):Run:=x.s 6 (((Nat.lor (u64 (u64 s.lo*256)).toNat (u64 s.hi).toNat:Nat)):Int)
def YF8 (x:Run) (l:Int):Int:=u64 (ZI9 (s64 (x.f.g 5)) l)
def WS6 (x:Run):Run:=
 let f:=x.f
 let v:=x.ret 0
 let n:=x.t.retired.length
 if f.pc=0 then x.call 1 1 []
 else if f.pc=1 then
  let x:=x.s 2 v
  if v≠0 then x.pc 2
  else if f.g 3=0∧n > 0 then (x.s 3 1).call 0 6 []
  else x.fin 1 0 0
 else if f.pc=2 then (x.store (x.m.p.node (s64 (f.g 2)) 0) (f.g 0)).pc 3
 else ((x.store (x.m.p.node (s64 (f.g 2)) 1) (f.g 1)).s 3 0).pc 4
def Wo3 (x:Run):Run:=
 let f:=x.f
 let p:=x.m.p
 if f.pc=4 then
  let (v,x):=x.load 2
  let x:=x.s 4 v
  let d:=s64 v
  let (n,m):=x.m.next (Wg4 d)
  (({ x with m:=m }:Run).s 5 (u64 (YU5 d n))).pc 5
 else if f.pc=5 then x.call 6 10 [f.g 5]
 else if f.pc=6 then
  if x.ret 1 ≥ f.g 0 then (WS5 x (Zt0 (s64 (f.g 4)))).pc 8
  else
   let x:=(x.s 3 (u64 (f.g 3+1))).pc 4
   if s64 (u64 (f.g 3+1)) ≥ p.c.probes then x.pc 7 else x
 else
  if s64 (f.g 4) ≥ p.c.level then (x.fin 1 0 0).push 5 [f.g 2]
  else let (_,x):=x.cas 2 (f.g 4) (u64 (f.g 4+1));(x.s 3 0).pc 4
def WS7 (x:Run):Run:=
 let s:=Yc2 x
 if x.f.pc=8 then (if s.done then x.pc 10 else x.call 9 10 [YF8 x s.mid])
 else (WS5 x (s.cut (decide (x.ret 1 ≥ x.f.g 0)))).pc 8
def W51 (x:Run) (ok:Bool):Run:=if ok then x.fin 0 0 0 else (x.s 3 0).pc 4
def YU6 (x:Run):Run:=
 let f:=x.f
 let place:=YF8 x (Yc2 x).lo
 let w:=f.g 3
 let v:=x.ret 0
 if f.pc=10 then x.call 11 10 [place]
 else if f.pc=11 then
  if x.ret 1 < f.g 0 then (x.s 3 0).pc 4
  else
   let x:=((x.s 3 v).store (x.m.p.node (s64 (f.g 2)) 2) (Wg8 v)).pc 13
   if place=1 then x.pc 12 else x
 else if f.pc=12 then let (ok,x):=x.swing 1 w (s64 (f.g 2)) (Wp4 w);W51 x ok
 else if f.pc=13 then x.call 14 10 [place / 2]
 else if f.pc=14 then
  if x.ret 1 > f.g 0 then W51 x false
  else
   let (ok,m):=x.m.dcss (x.at place) w (WA5 w (s64 (f.g 2)) (Wp4 w)) (x.at (place / 2)) (x.ret 0)
   W51 { x with m:=m } ok
 else x
def WS8 (x:Run):Run:=if x.f.pc≤3 then WS6 x else if x.f.pc≤7 then Wo3 x else if x.f.pc≤9 then WS7 x else YU6 x
def WM3 (x:Run):Run:=
 let f:=x.f
 let w:=f.g 0
 if f.pc=0 then x.call 1 3 [0,u64 (x.at 1)]
 else if f.pc=1 then
  let v:=x.ret 0
  let x:=(x.s 0 v).pc 2
  if Wp4 v then x.call 0 14 [1] else if Wg8 v=0 then x.fin 3 0 0 else x
 else if f.pc=2 then let (v,x):=x.load (x.nodeW w 0);(x.s 1 v).pc 3
 else if f.pc=3 then
  let (v,x):=x.load (x.nodeW w 1)
  let x:=(x.s 2 v).pc 4
  if f.fn=13 then x.fin 2 (f.g 1) v else x
 else x
def WM4 (x:Run):Run:=
 let f:=x.f
 let w:=f.g 0
 if f.pc=4 then let (v,x):=x.load (x.nodeW w 2);(x.s 3 v).pc 5
 else if f.pc=5 then
  let x:=x.pc 0
  let (ok,x):=x.swing 1 w (s64 (f.g 3)) true
  if ok then x.call 6 14 [1] else x
 else if f.pc=6 then x.call 7 5 [u64 (Wg8 w)]
 else if f.pc=7 then x.fin 2 (f.g 1) (f.g 2)
 else WM3 x
def WP0 (x:Run):Run:=
 let w:=x.f.g 1
 let place:=x.f.g 0
 let x:=x.pc 0
 let (ok,x):=x.swing place w (Wg8 w) false
 if ok then x.pop [] else x
def WS9 (x:Run):Run:=
 let f:=x.f
 if f.pc=0 then x.call 1 10 [f.g 0]
 else if f.pc=1 then
  let v:=x.ret 0
  let x:=((x.s 1 v).s 2 (x.ret 1)).pc 2
  if Wp4 v then x else x.pop []
 else if f.pc=2 then
  let (v,x):=(x.pc 3).load 2
  if Ym5 (s64 (f.g 0)) (s64 v) then x.pc 4 else x
 else if f.pc=3 then WP0 x
 else x
def Wr0 (x:Run) (at_:Nat) (next place:Int):Run:=
 let v:=x.ret 0
 let x:=((x.s at_ v).s (at_+1) (x.ret 1)).pc next
 if Wp4 v then x.call 0 14 [place] else x
def WP1 (x:Run) (at_:Nat) (place:Int):Run:=
 let f:=x.f
 let own:=f.g 1
 let low:=f.g at_
 let x:=x.pc 0
 let (ok,m):=x.m.dcas (x.at (f.g 0)) own (WA5 own (Wg8 low) false) (x.at place) low (WA5 low (Wg8 own) true)
 let x:Run:={ x with m:=m }
 if ok then x.s 0 place else x
def WT0 (x:Run):Run:=
 let f:=x.f
 let left:=u64 (2*f.g 0)
 if f.pc=4 then x.call 5 10 [left]
 else if f.pc=5 then (if Wp4 (x.ret 0) then Wr0 x 3 6 left else (Wr0 x 3 6 left).call 6 10 [u64 (left+1)])
 else if f.pc=6 then Wr0 x 5 7 (u64 (left+1))
 else if f.pc=7 then
  if f.g 4≤f.g 6∧f.g 4 < f.g 2 then WP1 x 3 left
  else if f.g 6 < f.g 4∧f.g 6 < f.g 2 then WP1 x 5 (u64 (left+1))
  else WP0 x
 else WS9 x
def Wp5 (x:Run):Run:=
 if x.t.fr = [] then x else
 let f:=x.f
 if f.pc=90∧11≤f.fn∧f.fn≤13 then x.pop [f.g 7,f.g 8,f.g 9]
 else if f.fn=10 then WS4 x
 else if f.fn=11 then WS8 x
 else if f.fn=12∨f.fn=13 then WM4 x
 else if f.fn=14 then WT0 x
 else Wk9 x
end Go.Proofs.YtahpbclnkofhfaaGreat.Mod
end
section
namespace Go.Proofs.YtahpbclnkofhfaaGreat.Mod
def Wg6 (key ticket:Int):Int:=u32 key*4294967296+u32 ticket
def WJ2 (n:Int):Int:=n / 4294967296
def WM5 (v:Int) (gone:Bool):Int:=u32 v*2+b2i gone
def WT1 (w:Int):Int:=u32 (w / 2)
def YU7 (w:Int):Bool:=w % 2 == 1
def WM6 (w:Int):Int:=if w % 2=1 then w else w+1
def Run.nlink (x:Run) (node row:Int):Int:=x.m.p.node (s64 node) (5+s64 row)
def Wo4 (x:Run):Run:=
 let f:=x.f
 let i:=(s64 (f.g 1)).toNat
 let x:=x.setPl (x.t.pred.set i (f.g 2)) (x.t.succ.set i (Wg8 (f.g 3))) (x.t.word.set i (f.g 3))
 if i=0 then x.pop [] else (x.s 1 (u64 (f.g 1 - 1))).pc 1
def WF9 (x:Run) (w:Int):Run:=
 let x:=x.s 3 w
 if Wp4 w then x.pc 8 else if Wg8 w=2 then Wo4 x else x.pc 3
def WT2 (x:Run):Run:=
 let f:=x.f
 let curr:=Wg8 (f.g 3)
 if f.pc=3 then (x.store (x.m.p.haz x.id (2*s64 (f.g 1)+1)) curr).pc 4
 else if f.pc=4 then
  let (w,x):=x.load (x.nlink (f.g 2) (f.g 1))
  if w≠f.g 3 then WF9 x w else x.pc 5
 else if f.pc=5 then
  let (w,x):=x.load (x.nlink curr (f.g 1))
  let x:=(x.s 4 w).pc 7
  if Wp4 w then x.pc 6 else x
 else if f.pc=6 then
  let w:=WA5 (f.g 3) (Wg8 (f.g 4)) false
  let (ok,x):=x.cas (x.nlink (f.g 2) (f.g 1)) (f.g 3) w
  if ok then WF9 x w else x.pc 2
 else if f.pc=7 then
  let (v,x):=x.load (x.m.p.node curr 0)
  if v ≥ f.g 0 then Wo4 x else (x.s 2 curr).pc 1
 else x
def WT3 (x:Run):Run:=
 let f:=x.f
 if f.pc=0 then ((x.s 2 1).s 1 (u64 (x.m.p.c.level - 1))).pc 1
 else if f.pc=1 then (x.store (x.m.p.haz x.id (2*s64 (f.g 1))) (f.g 2)).pc 2
 else if f.pc=2 then let (w,x):=x.load (x.nlink (f.g 2) (f.g 1));WF9 x w
 else if f.pc=8 then let (_,x):=x.load (x.m.p.node (s64 (f.g 2)) 4);x.pc 0
 else WT2 x
def WA7 (x:Run):Run:=if x.t.fr = [] then x else if x.f.fn=20 then WT3 x else Wk9 x
def Run.na (x:Run) (node field:Int):Int:=x.m.p.node (s64 node) field
def Run.swingA (x:Run) (a w to_:Int):Bool × Run:=x.cas a w (WA5 w (s64 to_) false)
def Run.drop1 (x:Run) (node:Int):Bool × Run:=let (v,x):=x.add (x.na node 2) 18446744073709551615;(v == 1,x)
def WA8 (x:Run):Run:=
 let f:=x.f
 let v:=x.ret 0
 let n:=x.t.retired.length
 if f.pc=0 then x.call 1 1 []
 else if f.pc=1 then
  let x:=x.s 2 v
  if v≠0 then x.pc 2
  else if f.g 5=0∧n > 0 then (x.s 5 1).call 0 6 []
  else x.fin 1 0 0
 else if f.pc=2 then
  let (v,x):=x.add 3 1
  let x:=x.s 4 (Wg6 (u32 (f.g 0)) (u32 v))
  let (l,m):=x.m.lvl x.m.p.c.level
  (({ x with m:=m }:Run).s 3 (u64 l)).pc 3
 else x
def WZ0 (x:Run):Run:=
 let f:=x.f
 let n:=f.g 2
 let x:=if f.pc=3 then x.store (x.na n 0) (f.g 4) else if f.pc=4 then x.store (x.na n 1) (WM5 (u32 (f.g 1)) false)
  else if f.pc=5 then x.store (x.na n 2) 2 else if f.pc=6 then x.store (x.na n 3) (f.g 3) else if f.pc=7 then x.store (x.na n 4) 0 else x
 x.pc (f.pc+1)
def Wt6 (x:Run):Run:=
 let f:=x.f
 let n:=f.g 2
 let row:=f.g 5
 if f.pc=8 then (x.s 5 0).call 9 20 [f.g 4]
 else if f.pc=9 then let (w,x):=x.load (x.nlink n row);(x.s 6 w).pc 10
 else if f.pc=10 then
  let x:=x.store (x.nlink n row) (WA5 (f.g 6) (s64 (x.t.succ.getD row.toNat 0)) false)
  let x:=(x.s 5 (u64 (row+1))).pc 9
  if u64 (row+1) ≥ f.g 3 then x.pc 11 else x
 else if f.pc=11 then
  let x:=(x.s 5 1).pc 8
  let (ok,x):=x.swingA (x.nlink (x.t.pred.getD 0 0) 0) (x.t.word.getD 0 0) n
  if ok then x.pc 12 else x
 else x
def Wt7 (x:Run):Run:=
 let f:=x.f
 let n:=f.g 2
 let row:=f.g 5
 let su:=x.t.succ.getD row.toNat 0
 if f.pc=12 then
  if row ≥ f.g 3 then x.pc 15
  else
   let (w,x):=x.load (x.nlink n row)
   let x:=x.s 6 w
   if Wp4 w then x.pc 15 else if Wg8 w≠su then x.pc 13 else x.pc 14
 else if f.pc=13 then let (_,x):=x.swingA (x.nlink n row) (f.g 6) su;x.pc 12
 else if f.pc=14 then
  let (ok,x):=x.swingA (x.nlink (x.t.pred.getD row.toNat 0) row) (x.t.word.getD row.toNat 0) n
  if ok then (x.s 5 (u64 (row+1))).pc 12 else x.call 12 20 [f.g 4]
 else x
def Wt8 (x:Run):Run:=
 let f:=x.f
 if f.pc=15 then
  let (z,x):=x.drop1 (f.g 2)
  if z then x.call 17 20 [f.g 4] else x.pc 16
 else if f.pc=17 then x.call 16 5 [f.g 2]
 else x.fin 0 0 0
def WA9 (x:Run):Run:=if x.f.pc≤2 then WA8 x else if x.f.pc≤7 then WZ0 x else if x.f.pc≤11 then Wt6 x else if x.f.pc≤14 then Wt7 x else Wt8 x
def Wu6 (x:Run):Run:=x.fin 2 (WJ2 (x.f.g 2)) (WT1 (x.f.g 3))
def Wu7 (x:Run):Run:=
 let f:=x.f
 if f.pc=0 then (x.s 6 0).call 1 3 [u64 (x.m.p.slots - 2),u64 (x.nlink 1 0)]
 else if f.pc=1 then
  let v:=x.ret 0
  let x:=((x.s 0 v).s 1 (Wg8 v)).pc 2
  if Wg8 v=2 then x.fin 3 0 0 else x
 else if f.pc=2 then
  let (v,x):=x.load (x.na (f.g 1) 1)
  let x:=(x.s 3 v).pc 3
  if YU7 v then x.pc 6 else x
 else if f.pc=3 then
  let (v,x):=x.load (x.na (f.g 1) 0)
  let x:=(x.s 2 v).pc 4
  if f.fn=23 then Wu6 x else x
 else x
def Wu8 (x:Run):Run:=
 let f:=x.f
 if f.pc=4 then
  let x:=x.pc 0
  let (ok,x):=x.cas (x.na (f.g 1) 1) (f.g 3) (WM6 (f.g 3))
  if ok then (x.s 6 1).pc 5 else x
 else if f.pc=5 then (x.store (x.na (f.g 1) 4) 1).pc 6
 else if f.pc=6 then let (v,x):=x.load (x.na (f.g 1) 3);(x.s 4 v).pc 7
 else x
def Wu9 (x:Run):Run:=
 let f:=x.f
 if f.pc=7 then
  if f.g 4=0 then (if f.g 6=1 then x.pc 11 else x.pc 9)
  else
   let (w,x):=x.load (x.nlink (f.g 1) (f.g 4 - 1))
   let x:=(x.s 5 w).pc 8
   if Wp4 w then (x.s 4 (u64 (f.g 4 - 1))).pc 7 else x
 else if f.pc=8 then
  let x:=x.pc 7
  let (ok,x):=x.cas (x.nlink (f.g 1) (f.g 4 - 1)) (f.g 5) (YU3 (f.g 5))
  if ok then x.s 4 (u64 (f.g 4 - 1)) else x
 else x
def Wo5 (x:Run):Run:=
 let f:=x.f
 if f.pc=9 then let (v,x):=x.load (x.nlink (f.g 1) 0);(x.s 5 v).pc 10
 else if f.pc=10 then let (_,x):=x.swingA (x.nlink 1 0) (f.g 0) (Wg8 (f.g 5));x.pc 0
 else if f.pc=11 then
  let (z,x):=x.drop1 (f.g 1)
  if z then x.call 12 20 [f.g 2] else x.pc 13
 else if f.pc=12 then x.call 13 5 [f.g 1]
 else Wu6 x
def WB0 (x:Run):Run:=if x.f.pc≤3 then Wu7 x else if x.f.pc≤6 then Wu8 x else if x.f.pc≤8 then Wu9 x else Wo5 x
def Wh7 (x:Run):Run:=
 if x.t.fr = [] then x else
 let f:=x.f
 if f.fn < 21∨23 < f.fn then WA7 x
 else if f.pc=90 then x.pop [f.g 7,f.g 8,f.g 9]
 else if f.fn=21 then WA9 x
 else WB0 x
end Go.Proofs.YtahpbclnkofhfaaGreat.Mod
end
section
namespace Go.Proofs.YtahpbclnkofhfaaGreat.Mod
def Wm3 (x:Run):Run:=
 let f:=x.f
 let i:=(s64 (f.g 2)).toNat
 let x:=x.setPl (x.t.pred.set i (f.g 3)) (x.t.succ.set i (Wg8 (f.g 4))) (x.t.word.set i (f.g 4))
 if i=0 then x.pop [f.g 5] else (x.s 2 (u64 (f.g 2 - 1))).pc 1
def WE7 (x:Run):Run:=(x.s 3 (Wg8 (x.f.g 4))).pc 1
def WB1 (x:Run):Run:=
 let f:=x.f
 let (e,x):=x.load 1
 if e≠f.g 1 then x.pc 0
 else if s64 (f.g 2)=0∧Wp4 (f.g 4)=true then WE7 (x.s 5 (Wg8 (f.g 4)))
 else if s64 (f.g 2) > 0 then x.pc 5 else x.pc 6
def WT4 (x:Run):Run:=
 let f:=x.f
 let next:=Wg8 (f.g 4)
 if f.pc=0 then
  let (e,x):=x.load 1
  ((((x.s 1 e).s 3 1).s 5 0).s 2 (u64 (x.m.p.c.level - 1))).pc 1
 else if f.pc=1 then (x.store (x.m.p.haz x.id (2*s64 (f.g 2))) (f.g 3)).pc 2
 else if f.pc=2 then
  let (w,x):=x.load (x.nlink (f.g 3) (f.g 2))
  let x:=(x.s 4 w).pc 3
  if Wg8 w=2 then Wm3 x else x
 else if f.pc=3 then (x.store (x.m.p.haz x.id (2*s64 (f.g 2)+1)) next).pc 4
 else if f.pc=4 then WB1 x
 else if f.pc=5 then
  let (w,x):=(x.pc 6).load (x.m.p.node next 5)
  if Wp4 w then WE7 x else x
 else
  let (v,x):=x.load (x.m.p.node next 0)
  if v < f.g 0 then WE7 x else Wm3 x
def Ws2 (x:Run):Run:=if x.t.fr = [] then x else if x.f.fn=30 then WT4 x else Wk9 x
def Run.swingM (x:Run) (a w to_:Int) (mk:Bool):Bool × Run:=x.cas a w (WA5 w (s64 to_) mk)
def Run.guard (x:Run) (slot node:Int):Run:=x.store (x.m.p.haz x.id (x.m.p.slots - 1 - slot % 2)) node
def WB2 (x:Run):Run:=
 let f:=x.f
 if f.pc=0 then
  let (w,x):=x.load (x.nlink 1 0)
  let x:=(((x.s 0 w).s 1 (Wg8 w)).s 2 (Wg8 w)).pc 1
  if Wp4 w then x else x.fin 0 0 0
 else if f.pc=1 then
  let (w,x):=x.load (x.nlink (f.g 1) 0)
  let x:=(x.s 2 (Wg8 w)).pc 2
  if Wp4 w then (x.s 1 (Wg8 w)).pc 1 else x
 else if f.pc=2 then x.call 3 36 [f.g 1]
 else if f.pc=3 then let (_,x):=x.swingM (x.nlink 1 0) (f.g 0) (f.g 2) false;x.pc 4
 else if f.pc=4 then x.call 5 35 [Wg8 (f.g 0),f.g 2]
 else x.fin 0 0 0
def WB3 (x:Run):Run:=
 let f:=x.f
 if f.pc=0 then let (_,x):=x.add 1 1;x.pc 1
 else if f.pc=1 then
  if f.g 0=f.g 1 then x.pop []
  else let (w,x):=x.load (x.nlink (f.g 0) 0);(x.s 2 (Wg8 w)).pc 2
 else (x.s 0 (f.g 2)).call 1 5 [f.g 0]
def Wv0 (x:Run):Run:=(x.s 2 (u64 (x.f.g 2 - 1))).pc 1
def WB4 (x:Run):Run:=
 let f:=x.f
 if f.pc=4 then
  if f.g 4=f.g 0 then x.pc 5
  else
   let (w,x):=x.load (x.nlink (f.g 4) 0)
   if Wp4 w then x.pc 5 else if f.g 4=Wg8 (f.g 3) then Wv0 x else x.pc 6
 else if f.pc=5 then
  let (w,x):=x.load (x.nlink (f.g 4) (f.g 2))
  let x:=(x.s 4 (Wg8 w)).pc 2
  if Wg8 w=2 then x.pc 6 else x
 else
  let (ok,x):=x.swingM (x.nlink 1 (f.g 2)) (f.g 3) (f.g 4) false
  if ok then Wv0 x else x.pc 1
def WB5 (x:Run):Run:=
 let f:=x.f
 if f.pc=0 then
  let (e,x):=x.load 1
  ((x.s 1 e).s 2 (u64 (x.m.p.c.level - 1))).pc 1
 else if f.pc=1 then
  if f.g 2=0 then x.pop []
  else
   let (w,x):=x.load (x.nlink 1 (f.g 2))
   let x:=((x.s 3 w).s 4 (Wg8 w)).pc 2
   if Wg8 w=2 then Wv0 x else x
 else if f.pc=2 then ((x.guard (f.g 5) (f.g 4)).s 5 (u64 (f.g 5+1))).pc 3
 else if f.pc=3 then
  let (e,x):=(x.pc 4).load 1
  if e≠f.g 1 then x.pc 0 else x
 else WB4 x
def WB6 (x:Run):Run:=
 let f:=x.f
 let v:=x.ret 0
 let n:=x.t.retired.length
 if f.pc=0 then x.call 1 1 []
 else if f.pc=1 then
  let x:=x.s 2 v
  if v≠0 then x.pc 2
  else if f.g 5=0∧n > 0 then (x.s 5 1).call 0 6 []
  else x.fin 1 0 0
 else if f.pc=2 then
  let (v,x):=x.add 3 1
  let x:=x.s 4 (Wg6 (u32 (f.g 0)) (u32 v))
  let (l,m):=x.m.lvl x.m.p.c.level
  (({ x with m:=m }:Run).s 3 (u64 l)).pc 3
 else x
def WZ1 (x:Run):Run:=
 let f:=x.f
 let n:=f.g 2
 let x:=if f.pc=3 then x.store (x.na n 0) (f.g 4) else if f.pc=4 then x.store (x.na n 1) (f.g 1)
  else if f.pc=5 then x.store (x.na n 2) 1 else if f.pc=6 then x.store (x.na n 3) (f.g 3) else x
 x.pc (f.pc+1)
def Wt9 (x:Run):Run:=
 let f:=x.f
 let n:=f.g 2
 if f.pc=7 then x.call 8 30 [f.g 4]
 else if f.pc=8 then let (w,x):=(x.s 7 (x.ret 0)).load (x.nlink n 0);(x.s 6 w).pc 9
 else if f.pc=9 then (x.store (x.nlink n 0) (WA5 (f.g 6) (s64 (x.t.succ.getD 0 0)) false)).pc 10
 else if f.pc=10 then
  let x:=(x.s 5 1).pc 7
  let (ok,x):=x.swingM (x.nlink (x.t.pred.getD 0 0) 0) (x.t.word.getD 0 0) n false
  if ok then x.pc 11 else x
 else x
def Wu0 (x:Run):Run:=
 let f:=x.f
 let n:=f.g 2
 let row:=f.g 5
 if f.pc=11 then
  if row ≥ f.g 3 then x.pc 17
  else let (w,x):=(x.pc 12).load (x.nlink n 0);if Wp4 w then x.pc 17 else x
 else if f.pc=12 then
  let x:=x.pc 13
  let s:=x.t.succ.getD row.toNat 0
  if s=2 then x else if s=f.g 7 then x.pc 17
  else let (w,x):=x.load (x.nlink s 0);if Wp4 w then x.pc 17 else x
 else if f.pc=13 then let (w,x):=x.load (x.nlink n row);(x.s 6 w).pc 14
 else if f.pc=14 then (x.store (x.nlink n row) (WA5 (f.g 6) (s64 (x.t.succ.getD row.toNat 0)) false)).pc 15
 else x
def WB7 (x:Run):Run:=
 let f:=x.f
 let row:=f.g 5
 if f.pc=15 then
  let (ok,x):=x.swingM (x.nlink (x.t.pred.getD row.toNat 0) row) (x.t.word.getD row.toNat 0) (f.g 2) false
  if ok then (x.s 5 (u64 (row+1))).pc 11 else x.call 16 30 [f.g 4]
 else if f.pc=16 then
  let x:=(x.s 7 (x.ret 0)).pc 11
  if x.t.succ.getD 0 0≠f.g 2 then x.pc 17 else x
 else if f.pc=17 then (x.store (x.na (f.g 2) 2) 0).pc 18
 else x.fin 0 0 0
def WB8 (x:Run):Run:=if x.f.pc≤2 then WB6 x else if x.f.pc≤6 then WZ1 x else if x.f.pc≤10 then Wt9 x else if x.f.pc≤14 then Wu0 x else WB7 x
def Ww5 (x:Run):Run:=
 let f:=x.f
 let next:=Wg8 (f.g 5)
 if f.pc=0 then
  let (e,x):=x.load 1
  ((((x.s 0 e).s 2 1).s 3 0).s 4 0).pc 1
 else if f.pc=1 then let (w,x):=x.load (x.nlink 1 0);((x.s 1 w).s 5 w).pc 2
 else if f.pc=2 then
  let x:=x.pc 3
  if next=2 then x.fin 3 0 0 else x
 else if f.pc=3 then ((x.guard (f.g 3) next).s 3 (u64 (f.g 3+1))).pc 4
 else if f.pc=4 then
  let (e,x):=(x.pc 5).load 1
  if e≠f.g 0 then x.pc 0 else x
 else x
def YF9 (x:Run):Run:=
 let f:=x.f
 let next:=Wg8 (f.g 5)
 if f.pc=5 then
  let x:=x.pc 6
  if f.g 2≠1∧f.g 4=0 then
   let (v,x):=x.load (x.na (f.g 2) 2)
   if v=1 then x.s 4 (f.g 2) else x
  else x
 else if f.pc=6 then
  if Wp4 (f.g 5) then (x.s 2 next).pc 7 else if f.fn=33 then x.pc 9 else x.pc 8
 else if f.pc=7 then let (w,x):=x.load (x.nlink (f.g 2) 0);(x.s 5 w).pc 2
 else if f.pc=8 then
  let x:=x.pc 9
  let (ok,x):=x.swingM (x.nlink (f.g 2) 0) (f.g 5) next true
  if ok then x else (x.s 3 (u64 (f.g 3 - 1))).pc 7
 else x
def Ww6 (x:Run):Run:=
 let f:=x.f
 let next:=Wg8 (f.g 5)
 if f.pc=9 then let (v,x):=x.load (x.na next 1);(x.s 6 v).pc 10
 else if f.pc=10 then
  let (v,x):=x.load (x.na next 0)
  let x:=(x.s 8 (WJ2 v)).pc 11
  let x:=if f.fn=33∨f.g 3 < u64 x.m.p.c.batch then x.pc 14 else x
  if f.g 4=0 then x.s 4 next else x
 else x
def WM7 (x:Run):Run:=
 let f:=x.f
 if f.pc=11 then
  let x:=x.pc 14
  let (ok,x):=x.swingM (x.nlink 1 0) (f.g 1) (f.g 4) true
  if ok then x.pc 12 else x
 else if f.pc=12 then x.call 13 36 [0]
 else if f.pc=13 then x.call 14 35 [Wg8 (f.g 1),f.g 4]
 else x.fin 2 (f.g 8) (f.g 6)
def Ww7 (x:Run):Run:=if x.f.pc≤4 then Ww5 x else if x.f.pc≤8 then YF9 x else if x.f.pc≤10 then Ww6 x else WM7 x
def Wl0 (x:Run):Run:=
 if x.t.fr = [] then x else
 let f:=x.f
 if f.fn < 31∨36 < f.fn then Ws2 x
 else if f.pc=90 then x.pop [f.g 7,f.g 8,f.g 9]
 else if f.fn=31 then WB8 x
 else if f.fn=34 then WB2 x
 else if f.fn=35 then WB3 x
 else if f.fn=36 then WB5 x
 else Ww7 x
end Go.Proofs.YtahpbclnkofhfaaGreat.Mod
end
namespace Go.Proofs.YtahpbclnkofhfaaGreat
section
open Mod
def U (n:Int):Prop:=0≤n∧n < 18446744073709551616
theorem U.wrap {n:Int} (h:U n):IntKind.wrap .u64 n=n:=by
 obtain ⟨m,rfl⟩ : ∃m:Nat,n=m:=⟨n.toNat,by have:=h.1;omega⟩
 exact W46 (by have:=h.2;omega)
theorem U.bv {n:Int} (h:U n):(BitVec.ofInt 64 n).toNat=n.toNat:=by
 rw [BitVec.toNat_ofInt]
 have:=h.1;have:=h.2
 omega
theorem U.and1 {n:Int} (h:U n):IntKind.wrap .u64 ((((BitVec.ofInt 64 n) &&& (BitVec.ofInt 64 1)).toNat:Nat):Int)=n % 2:=by
 rw [BitVec.toNat_and,h.bv,show (BitVec.ofInt 64 1).toNat=1 by decide,Nat.and_one_is_mod,W46 (by omega)]
 have:=h.1
 omega
theorem Yc3 {a b:Int} (k:Nat) (ha:U a) (hb:0≤b) (hk:b < ((2 ^ k:Nat):Int)) (hd:a % ((2 ^ k:Nat):Int)=0) (hs:U (a+b)):IntKind.wrap .u64 ((((BitVec.ofInt 64 a) ||| (BitVec.ofInt 64 b)).toNat:Nat):Int)=a+b:=by
 have hbU:U b:=⟨hb,by have:=hs.2;have:=ha.1;omega⟩
 rw [BitVec.toNat_or,ha.bv,hbU.bv]
 obtain ⟨m,rfl⟩ : ∃m:Nat,a=m:=⟨a.toNat,by have:=ha.1;omega⟩
 obtain ⟨n,rfl⟩ : ∃n:Nat,b=n:=⟨b.toNat,by omega⟩
 rw [Int.toNat_natCast,Int.toNat_natCast]
 have hd':m % 2 ^ k=0:=by
  have:((m % 2 ^ k:Nat):Int)=0:=by rw [Int.natCast_emod];exact hd
  omega
 obtain ⟨c,hc⟩ : ∃c,m=2 ^ k*c:=⟨m / 2 ^ k,by have:=Nat.div_add_mod m (2 ^ k);omega⟩
 have hn:n < 2 ^ k:=by omega
 rw [hc,← Nat.two_pow_add_eq_or_of_lt hn,← hc]
 have:=hs.2
 rw [W46 (by omega)]
 omega
theorem Wq3 {n m:Int} (h:0≤m):Int.fdiv n m=n / m:=Int.fdiv_eq_ediv_of_nonneg _ h
theorem WJ3 {n m:Int} (h:0≤n):Int.tmod n m=n % m:=Int.tmod_eq_emod_of_nonneg h
theorem Wf1 {K:Value→Wa1→Prop} {h:Wa1} {w:Int} (hw:U w) (k:K (.int .i64 (Wg8 w)) h):Wa5 Tryz.prog 146 #[.int .u64 w] h K:=by
 refine call146 ?_
 unfold F146
 refine ⟨by omega,by omega,?_⟩
 have:=hw.1
 rw [Wq3 (by omega),WJ3 (by omega),Wc2 (by omega) (by omega)]
 exact k
theorem Wh8 {K:Value→Wa1→Prop} {h:Wa1} {w:Int} (hw:U w) (k:K (.bool (Wp4 w)) h):Wa5 Tryz.prog 226 #[.int .u64 w] h K:=by
 refine call226 ?_
 unfold F226
 rw [hw.and1]
 exact k
theorem YU8 {K:Value→Wa1→Prop} {h:Wa1} {w:Int} (hw:U w) (k:K (.int .u64 (Zs9 w)) h):Wa5 Tryz.prog 285 #[.int .u64 w] h K:=by
 refine call285 ?_
 unfold F285
 rw [Wq3 (by omega)]
 exact ⟨by omega,k⟩
theorem ZB9 (b:Bool):0≤b2i b∧b2i b≤1:=by cases b <;> decide
theorem YU9 {ptr ver:Int} {mk:Bool} (hp:0≤ptr∧ptr < 65536) (hv:0≤ver∧ver < 140737488355328):U (Wq9 ptr mk ver):=by
 have:=ZB9 mk
 unfold U Wq9
 omega
theorem W11 {K:Value→Wa1→Prop} {h:Wa1} {ptr ver:Int} {mk:Bool} (hp:0≤ptr∧ptr < 65536) (hv:0≤ver∧ver < 140737488355328) (k:K (.int .u64 (Wq9 ptr mk ver)) h):Wa5 Tryz.prog 278 #[.int .u64 ptr,.bool mk,.int .u64 ver] h K:=by
 refine call278 ?_
 unfold F278
 refine ⟨by omega,by omega,?_⟩
 have e1:IntKind.wrap .u64 (ver*131072)=ver*131072:=U.wrap ⟨by omega,by omega⟩
 have e2:IntKind.wrap .u64 (ptr*2)=ptr*2:=U.wrap ⟨by omega,by omega⟩
 rw [e1,e2]
 have e3:=Yc3 (a:=ver*131072) (b:=ptr*2) 17 ⟨by omega,by omega⟩ (by omega) (by simp only [Nat.reducePow];omega) (by simp only [Nat.reducePow];omega) ⟨by omega,by omega⟩
 rw [e3]
 cases mk with
 | false=>
  simp only [Wc8]
  unfold Wq9 b2i at k
  simpa using k
 | true=>
  simp only [Wd8]
  have e4:=Yc3 (a:=ver*131072+ptr*2) (b:=1) 1 ⟨by omega,by omega⟩ (by omega) (by decide) (by simp only [Nat.reducePow];omega) ⟨by omega,by omega⟩
  rw [e4]
  unfold Wq9 b2i at k
  simpa using k
theorem Wp6 {w ptr:Int} {mk:Bool}:U (WA5 w ptr mk):=YU9 ⟨by omega,by omega⟩ ⟨by omega,by omega⟩
theorem WT5 (n:Int):IntKind.wrap .u64 n=n % 18446744073709551616:=by
 unfold IntKind.wrap IntKind.signed IntKind.bits
 have e:(2:Int) ^ 64=18446744073709551616:=rfl
 simp only [Bool.false_and,Bool.false_eq_true,if_false,e]
theorem WD7 (n:Int):IntKind.wrap .u32 n=n % 4294967296:=by
 unfold IntKind.wrap IntKind.signed IntKind.bits
 have e:(2:Int) ^ 32=4294967296:=rfl
 simp only [Bool.false_and,Bool.false_eq_true,if_false,e]
theorem WJ4 (n:Int):IntKind.wrap .i64 n=s64 n:=by
 unfold IntKind.wrap IntKind.signed IntKind.bits s64
 have e:(2:Int) ^ 64=18446744073709551616:=rfl
 have e2:(2:Int) ^ (64 - 1)=9223372036854775808:=rfl
 simp only [Bool.true_and,decide_eq_true_eq,e,e2]
 split <;> split <;> omega
theorem Wg9 {K:Value→Wa1→Prop} {h:Wa1} {w ptr:Int} {mk:Bool} (hw:U w) (k:K (.int .u64 (WA5 w ptr mk)) h):Wa5 Tryz.prog 228 #[.int .u64 w,.int .i64 ptr,.bool mk] h K:=by
 refine call228 ?_
 unfold F228 cf
 refine ⟨by omega,?_⟩
 refine Wa0 (YU8 hw ?_)
 simp only [Wa6]
 refine ⟨by omega,?_⟩
 have hv:0≤Zs9 w∧Zs9 w < 140737488355328:=by have:=hw.1;have:=hw.2;unfold Zs9;omega
 rw [show IntKind.wrap .u64 (Zs9 w+1)=Zs9 w+1 from U.wrap ⟨by omega,by omega⟩,WT5,WJ3 (by omega),WJ3 (by omega)]
 rw [show ptr % 18446744073709551616 % 65536=ptr % 65536 by omega]
 refine Wa0 (W11 ⟨by omega,by omega⟩ ⟨by omega,by omega⟩ ?_)
 simp only [Wa6]
 exact k
theorem Yc4 {K:Value→Wa1→Prop} {h:Wa1} {w:Int} (hw:U w) (k:K (.int .u64 (YU3 w)) h):Wa5 Tryz.prog 261 #[.int .u64 w] h K:=by
 refine call261 ?_
 unfold F261 cf
 refine Wa0 (Wf1 hw ?_)
 simp only [Wa6]
 refine Wa0 (Wg9 hw ?_)
 simp only [Wa6]
 exact k
def V (n:Int):Prop:=0≤n∧n < 4294967296
theorem YV0 (n:Int):V (u32 n):=⟨by unfold u32;omega,by unfold u32;omega⟩
theorem V.u32 {n:Int} (h:V n):u32 n=n:=by unfold Mod.u32;have:=h.1;have:=h.2;omega
theorem W12 {K:Value→Wa1→Prop} {h:Wa1} {a b:Int} (ha:V a) (hb:V b) (k:K (.int .u64 (Wg6 a b)) h):Wa5 Tryz.prog 249 #[.int .u32 a,.int .u32 b] h K:=by
 refine call249 ?_
 unfold F249
 refine ⟨by omega,?_⟩
 have:=ha.1;have:=ha.2;have:=hb.1;have:=hb.2
 rw [show IntKind.wrap .u64 a=a from U.wrap ⟨by omega,by omega⟩,show IntKind.wrap .u64 b=b from U.wrap ⟨by omega,by omega⟩,show IntKind.wrap .u64 (a*4294967296)=a*4294967296 from U.wrap ⟨by omega,by omega⟩,
  Yc3 (a:=a*4294967296) (b:=b) 32 ⟨by omega,by omega⟩ (by omega) (by simp only [Nat.reducePow];omega) (by simp only [Nat.reducePow];omega) ⟨by omega,by omega⟩]
 unfold Wg6 at k
 rw [ha.u32,hb.u32] at k
 exact k
theorem YG0 {K:Value→Wa1→Prop} {h:Wa1} {a:Int} {g:Bool} (ha:V a) (k:K (.int .u64 (WM5 a g)) h):Wa5 Tryz.prog 252 #[.int .u32 a,.bool g] h K:=by
 refine call252 ?_
 unfold F252
 refine ⟨by omega,?_⟩
 have:=ha.1;have:=ha.2
 rw [show IntKind.wrap .u64 a=a from U.wrap ⟨by omega,by omega⟩,show IntKind.wrap .u64 (a*2)=a*2 from U.wrap ⟨by omega,by omega⟩]
 unfold WM5 b2i at k
 rw [ha.u32] at k
 cases g with
 | false=>simp only [Wc8];simpa using k
 | true=>
  simp only [Wd8]
  rw [Yc3 (a:=a*2) (b:=1) 1 ⟨by omega,by omega⟩ (by omega) (by decide) (by simp only [Nat.reducePow];omega) ⟨by omega,by omega⟩]
  simpa using k
theorem YG1 {K:Value→Wa1→Prop} {h:Wa1} {w:Int} (hw:U w) (k:K (.bool (YU7 w)) h):Wa5 Tryz.prog 258 #[.int .u64 w] h K:=by
 refine call258 ?_
 unfold F258
 rw [hw.and1]
 exact k
theorem Yc5 {K:Value→Wa1→Prop} {h:Wa1} {n:Int} (hn:U n) (k:K (.int .u32 (WJ2 n)) h):Wa5 Tryz.prog 274 #[.int .u64 n] h K:=by
 refine call274 ?_
 unfold F274
 have:=hn.1;have:=hn.2
 rw [Wq3 (by omega),WD7,show n / 4294967296 % 4294967296=n / 4294967296 by omega]
 exact ⟨by omega,k⟩
theorem YV1 {K:Value→Wa1→Prop} {h:Wa1} {w:Int} (k:K (.int .u32 (WT1 w)) h):Wa5 Tryz.prog 298 #[.int .u64 w] h K:=by
 refine call298 ?_
 unfold F298
 rw [Wq3 (by omega),WD7]
 exact ⟨by omega,k⟩
theorem YG2 {K:Value→Wa1→Prop} {h:Wa1} {w:Int} (hw:U w) (k:K (.int .u64 (WM6 w)) h):Wa5 Tryz.prog 260 #[.int .u64 w] h K:=by
 refine call260 ?_
 unfold F260
 have:=hw.1;have:=hw.2
 have key:IntKind.wrap .u64 ((((BitVec.ofInt 64 w) ||| (BitVec.ofInt 64 1)).toNat:Nat):Int)=WM6 w:=by
  unfold WM6
  by_cases e:w % 2=1
  ·rw [if_pos e,BitVec.toNat_or,hw.bv,show (BitVec.ofInt 64 1).toNat=1 by decide]
   have e2:w.toNat ||| 1=w.toNat:=by
    apply Nat.eq_of_testBit_eq
    intro j
    rw [Nat.testBit_or]
    cases j with
    | zero=>
     rw [Nat.testBit_zero,Nat.testBit_zero]
     have:w.toNat % 2=1:=by omega
     simp [this]
    | succ j=>simp [Nat.testBit_succ]
   rw [e2,W46 (by omega)]
   omega
  ·rw [if_neg e]
   exact Yc3 (a:=w) (b:=1) 1 hw (by omega) (by decide) (by simp only [Nat.reducePow];omega) ⟨by omega,by omega⟩
 rw [key]
 exact k
end
end Go.Proofs.YtahpbclnkofhfaaGreat
