/- Part 6 of what the proofs of this seat rest on: see the last text of the claim. -/
import Derived.Test.YtooaemmlgkdfoaaGreatQ4fc3b796ea09
import Derived.WalkKit
import Derived.ProofKit
import Derived.OpenShut
import Derived.ShutString
import Derived.ChangeOld
import Derived.Below
import Derived.Carry
import Derived.SizedLaws
import Derived.Test.YtooaemmlgkdfoaaGreatProg
set_option linter.unusedSimpArgs false
set_option linter.unusedVariables false
set_option linter.ambiguousOpen false
set_option maxRecDepth 20000
namespace Go.Proofs.YtooaemmlgkdfoaaGreat
section
open Go.ChangeShapes Go.WideShapes Go.ChangeAt Go.RowKit
theorem Yx1:ownKnob Tryz.prog.godebug=none:=by kernel_rfl
theorem Yx2:laidOutB Tryz.prog=true:=by kernel_rfl
theorem Yx3 {W W':World} (h:Old W.heap.size W.heap W'.heap) {p:MemPlace} (hp:p.block < W.heap.size):W.sameAt W' p:=by
 cases p with
 | cell b o=>exact World.cell?_of_block (w:=W) (h.2 b hp)
 | map b=>exact h.2 b hp
theorem Yx4 {H:Type} {enc:TypeId × Value→H} {P:Program} {t:TypeId} (hl:laidOutB P=true) (hr:P.readableRec t=true) (hrow:t < P.types.size) {W W':World} {v:Value} {d:DataW H} {ps:List MemPlace}
  (h:DataW.Trod enc P W 0 (λ_=>true) true t v d ps) (hb:Old W.heap.size W.heap W'.heap) :
  DataW.Trod enc P W' 0 (λb=>decide (b < W.heap.size)) true t v d ps:=by
 have hlt:∀x ∈ ps,x.block < W.heap.size:=by obtain ⟨m,hm⟩:=h;exact DataW.trod_lt m _ _ _ hm
 exact WideElems.Trod_stays hl hr hrow h (λx hx=>Yx3 hb (hlt x hx)) (λx hx=>by simpa using hlt x hx)
theorem Ym8 {W W':World} (ho:Old W.heap.size W.heap W'.heap) (hos:W'.os=W.os) (hout:W'.output=W.output) (may:MemPlace→Prop):W.keptBut W' may:=by
 refine ⟨hos,hout,λi hi=>?_⟩
 rw [ho.2 i hi]
 split <;> simp_all
end
section
theorem Wf0 (cs:Array Value) (F:Array Value→Prop):We3 (.tuple cs) F=F cs:=rfl
theorem Yx5:Wo2 Tryz.prog 3=some .i64:=by kernel_rfl
theorem Wo1 (f:Int→Int→Int) (a b:Int) (F:Int→Prop):Wi8 f Tryz.prog 3 [.int .i64 a,.int .i64 b] F=F (f a b):=by
 unfold Wi8
 simp only [Yx5,Wa3]
 unfold Wi8.go
 simp only [Wa3]
 rfl
end
section
theorem WV6 (cs:Array Value) (F:Array Value→Prop):asAgg (.agg cs) F=F cs:=rfl
theorem Wj3 {cs:Array Value} {n:Nat} {X:Prop} (h:cs.size=n) (x:X):We5 cs n X:=by
 unfold We5
 rw [show Nat.beq cs.size n=true by rw [h];exact Nat.beq_refl n]
 exact x
theorem Wb5 {cs:List Value} {i:Nat} {v:Value} {F:Value→Prop} (h:cs[i]? = some v) (x:F v):Wb7 cs.toArray i F:=by unfold Wb7;rw [List.getElem?_toArray,h];exact x
theorem Wd3 {h:Wa1} {b i:Nat} {v:Value} {row:List Value} {t:TypeId} (hb:h[b]? = some (.cells row.toArray t)) (e:row[i]? = some v):Wa2 h ⟨b,i,none⟩=some v:=by
 rw [Wb8 hb,List.getElem?_toArray];exact e
theorem ldR {h:Wa1} {b i:Nat} {v:Value} {row:List Value} {t:TypeId} {K:Value→Prop} (hb:h[b]? = some (.cells row.toArray t)) (e:row[i]? = some v) (k:K v):ldH h ⟨b,i,none⟩ K:=
 Wc5 (Wd3 hb e) k
structure Wrote (h:Wa1) (b:Nat) (row:Array Value) (t:TypeId) (h':Wa1):Prop where
 size:h'.size=h.size
 new:h'[b]? = some (.cells row t)
 old:∀c,c≠b→h'[c]? = h[c]?
theorem Wrote.trans {h h' h'':Wa1} {b:Nat} {row row':Array Value} {t t':TypeId} (x:Wrote h b row t h') (y:Wrote h' b row' t' h''):Wrote h b row' t' h'':=
 ⟨y.size.trans x.size,y.new,λc hc=>(y.old c hc).trans (x.old c hc)⟩
theorem Wrote.toOld {N:Nat} {g h h':Wa1} {b:Nat} {row:Array Value} {t:TypeId} (x:Wrote h b row t h') (o:Old N g h) (hb:N≤b):Old N g h':=
 ⟨by rw [x.size];exact o.1,λc hc=>(x.old c (by omega)).trans (o.2 c hc)⟩
theorem stR {h:Wa1} {b i:Nat} {v:Value} {row:List Value} {t:TypeId} {K:Wa1→Prop} (hb:h[b]? = some (.cells row.toArray t)) (hi:Nat.ble (i+1) row.length=true) (ho:Wi6 v True)
  (k:∀h',Wrote h b (row.set i v).toArray t h'→K h'):stH h ⟨b,i,none⟩ v K:=by
 have hlt:=(Array.getElem?_eq_some_iff.1 hb).1
 refine WV3 hb (by rw [List.size_toArray];exact Nat.le_of_ble_eq_true hi) ho ?_
 rintro h' rfl
 exact k _ ⟨by simp,by rw [Wl5 hlt,List.setIfInBounds_toArray],λc hc=>Wl6 hc⟩
theorem Wd6 {vs:List Value} {h:Wa1} {b:Nat} {row:Array Value} {t:TypeId} {K:Wa1→Prop} (hb:h[b]? = some (.cells row t)) (hl:vs.length=row.size) (ho:∀y ∈ vs,Wi6 y True)
  (k:∀h',Wrote h b vs.toArray t h'→K h'):stN h ⟨b,0,none⟩ 0 vs K:=by
 have hlt:=(Array.getElem?_eq_some_iff.1 hb).1
 refine WP5 vs h b 0 0 row t K hb (by omega) ho ?_
 intro row' h1 h2
 have e:row' = vs.toArray:=by
  apply Array.ext_getElem?
  intro j
  rw [h2 j]
  by_cases hj:j < vs.length
  ·rw [if_pos (by omega)];simp
  ·rw [if_neg (by omega),Array.getElem?_eq_none (by omega),Array.getElem?_eq_none (by simp;omega)]
 subst e
 exact k _ ⟨by simp,Wl5 hlt,λc hc=>Wl6 hc⟩
theorem st3 {h:Wa1} {b:Nat} {v0 v1 v2:Value} {K:Wa1→Prop} (H:stN h ⟨b,0,none⟩ 0 [v0,v1,v2] K):stH h ⟨b,0,none⟩ v0 λh=>stH h ⟨b,1,none⟩ v1 λh=>stH h ⟨b,2,none⟩ v2 K:=H
theorem st7 {h:Wa1} {b:Nat} {v0 v1 v2 v3 v4 v5 v6:Value} {K:Wa1→Prop} (H:stN h ⟨b,0,none⟩ 0 [v0,v1,v2,v3,v4,v5,v6] K) :
 stH h ⟨b,0,none⟩ v0 λh=>stH h ⟨b,1,none⟩ v1 λh=>stH h ⟨b,2,none⟩ v2 λh=>stH h ⟨b,3,none⟩ v3 λh=>stH h ⟨b,4,none⟩ v4 λh=>stH h ⟨b,5,none⟩ v5 λh=>stH h ⟨b,6,none⟩ v6 K:=H
theorem YE2 {h:Wa1} {b:Nat} {v0 v1 v2 v3 v4 v5 v6 v7 v8 v9 v10 v11 v12 v13 v14:Value} {K:Wa1→Prop} (H:stN h ⟨b,0,none⟩ 0 [v0,v1,v2,v3,v4,v5,v6,v7,v8,v9,v10,v11,v12,v13,v14] K) :
 stH h ⟨b,0,none⟩ v0 λh=>stH h ⟨b,1,none⟩ v1 λh=>stH h ⟨b,2,none⟩ v2 λh=>stH h ⟨b,3,none⟩ v3 λh=>stH h ⟨b,4,none⟩ v4 λh=>stH h ⟨b,5,none⟩ v5 λh=>stH h ⟨b,6,none⟩ v6 λh=>
 stH h ⟨b,7,none⟩ v7 λh=>stH h ⟨b,8,none⟩ v8 λh=>stH h ⟨b,9,none⟩ v9 λh=>stH h ⟨b,10,none⟩ v10 λh=>stH h ⟨b,11,none⟩ v11 λh=>stH h ⟨b,12,none⟩ v12 λh=>stH h ⟨b,13,none⟩ v13 λh=>stH h ⟨b,14,none⟩ v14 K:=H
structure Pushed (h:Wa1) (row:Array Value) (t:TypeId) (h':Wa1):Prop where
 size:h'.size=h.size+1
 new:h'[h.size]? = some (.cells row t)
 old:∀c,c < h.size→h'[c]? = h[c]?
theorem Wg2 (h:Wa1) (row:Array Value) (t:TypeId):Pushed h row t (h.push (.cells row t)):=⟨by simp,Wm3 _ _,λc hc=>Wj2 _ _ _ hc⟩
theorem Pushed.toOld {h h':Wa1} {row:Array Value} {t:TypeId} (x:Pushed h row t h'):Old h.size h h':=⟨by rw [x.size];omega,x.old⟩
end
section
def Fr (S:Nat→Prop) (h h':Wa1):Prop:=h.size≤h'.size∧∀b,b < h.size→¬ S b→h'[b]? = h[b]?
def blk (a:Option Addr) (b:Nat):Prop:=∃ad,a=some ad∧ad.block=b
theorem Fr.refl (S:Nat→Prop) (h:Wa1):Fr S h h:=⟨Nat.le_refl _,λ_ _ _=>rfl⟩
theorem Fr.mono {S T:Nat→Prop} {h h':Wa1} (x:Fr S h h') (H:∀b,b < h.size→S b→T b):Fr T h h':=⟨x.1,λb hb hT=>x.2 b hb λhS=>hT (H b hb hS)⟩
theorem Old.fr {h h':Wa1} (S:Nat→Prop) (o:Old h.size h h'):Fr S h h':=⟨o.1,λb hb _=>o.2 b hb⟩
section
variable {α:Type} {f:α→List Value} {n:Nat}
theorem WP7 (hf:∀x,(f x).length=n) (l:List α):(l.flatMap f).length=l.length*n:=by
 induction l with
 | nil=>simp
 | cons x l ih=>rw [List.flatMap_cons,List.length_append,ih,hf,List.length_cons,Nat.add_mul];omega
theorem WE2 (hf:∀x,(f x).length=n) {l:List α}:∀ {i:Nat} (hi:i < l.length) {j:Nat},j < n→(l.flatMap f)[i*n+j]? = (f l[i])[j]?:=by
 induction l with
 | nil=>intro i hi;simp at hi
 | cons x l ih=>
  intro i hi j hj
  rw [List.flatMap_cons]
  cases i with
  | zero=>rw [List.getElem?_append_left (by rw [hf];omega)];simp
  | succ i=>
   have e:(i+1)*n+j=n+(i*n+j):=by rw [Nat.add_mul];omega
   rw [List.getElem?_append_right (by rw [hf,e];omega),hf,e,Nat.add_sub_cancel_left]
   exact ih (by simpa using hi) hj
theorem Ym9 (hf:∀x,(f x).length=n) (l:List α):∀i,(l.flatMap f).take (i*n)=(l.take i).flatMap f:=by
 induction l with
 | nil=>intro i;simp
 | cons x l ih=>
  intro i
  cases i with
  | zero=>simp
  | succ i=>
   rw [List.flatMap_cons,List.take_succ_cons,List.flatMap_cons,List.take_append,hf,List.take_of_length_le (by rw [hf,Nat.add_mul];omega),show (i+1)*n - n=i*n by rw [Nat.add_mul];omega,ih]
structure SX (f:α→List Value) (h:Wa1) (a:Option Addr) (l c:Nat) (xs:List α):Prop where
 s:Sees h a (xs.flatMap f)
 len:xs.length=l
 cap:l≤c
theorem SX.old {h h':Wa1} {a:Option Addr} {l c:Nat} {xs:List α} (H:SX f h a l c xs) (ho:Old h.size h h'):SX f h' a l c xs:=⟨H.s.old ho,H.len,H.cap⟩
theorem SX.at (hf:∀x,(f x).length=n) (hn:0 < n) {h:Wa1} {a:Option Addr} {l c:Nat} {xs:List α} (H:SX f h a l c xs) {i:Nat} (hi:i < xs.length) :
  ∃ad,a=some ad∧∀(j:Nat) (v:Value),(f xs[i])[j]? = some v→Wa2 h ((ad.add (i*n)).add j)=some v:=by
 have h0:(xs.flatMap f)[i*n+0]? = (f xs[i])[0]?:=WE2 hf hi hn
 have h1:(f xs[i])[0]? = some ((f xs[i])[0]'(by rw [hf];exact hn)):=List.getElem?_eq_getElem _
 rw [h1] at h0
 obtain ⟨ad,e,_⟩:=H.s _ _ h0
 refine ⟨ad,e,λj v hv=>?_⟩
 have hj:j < n:=by have:=(List.getElem?_eq_some_iff.1 hv).1;rwa [hf] at this
 obtain ⟨ad',e',hc⟩:=H.s (i*n+j) v ((WE2 hf hi hj).trans hv)
 rw [e] at e';cases e'
 rw [YH7];exact hc
theorem Yn0 (a:Option Addr) (c n:Nat):Yj5 a 0 c n=a:=by
 unfold Yj5
 split
 ·rfl
 ·rw [Nat.zero_mul];cases a <;> rfl
end
theorem Own.take {h:Wa1} {t:TypeId} {n:Nat} {a:Option Addr} {l c:Nat} {xs:List Value} (H:Own h t n a l c xs) {i:Nat} (hi:i≤l):Own h t n a i c (xs.take (i*n)):=by
 obtain ⟨h1,h2,h3⟩:=H
 have him:i*n≤l*n:=Nat.mul_le_mul_right _ hi
 refine ⟨by simp;omega,by omega,h3.imp id ?_⟩
 rintro ⟨b,row,e,hb,hs,ht⟩
 exact ⟨b,row,e,hb,hs,by rw [← ht,List.take_take,Nat.min_eq_left him]⟩
theorem Own.lt2 {h:Wa1} {t:TypeId} {n:Nat} {a:Option Addr} {l c:Nat} {xs:List Value} (H:Own h t n a l c xs) {b:Nat} (hb:blk a b):b < h.size:=by
 obtain ⟨ad,e,rfl⟩:=hb
 exact H.lt ad e
theorem Yx6 {P:Program} {h:Wa1} {a:Option Addr} {vs:List Value} {m sz l c:Nat} {F:Array Value→Wa1→Prop} (hs:Sees h a vs) (hn:vs.length=m*sz) (k:F vs.toArray h):hp P (Builtin.firstCells sz m (.slice a l c)) F h:=by
 cases a with
 | none=>
  have:vs = []:=by
   cases vs with
   | nil=>rfl
   | cons y ys=>obtain ⟨ad,e,_⟩:=hs 0 y rfl;cases e
  subst this;exact k
 | some ad=>
  show hp P (loadCells ad (m*sz)) F h
  refine We9 ad _ 0 [] F ?_
  rw [← hn]
  refine Wv5 vs 0 [] _ (λj v hj=>?_) (by simpa using k)
  obtain ⟨ad',e,hc⟩:=hs j v hj
  cases e;rwa [Nat.zero_add]
end
section
abbrev Pr:=Int × Int
def plt (p q:Pr):Prop:=p.1 < q.1∨(p.1=q.1∧p.2 < q.2)
instance (p q:Pr):Decidable (plt p q):=by unfold plt;infer_instance
def YW4 (p:Pr):List Pr→List Pr
 | []=>[p]
 | q :: r=>if plt q p then q :: YW4 p r else p :: q :: r
def Yx7 (ps:List Pr):Nat→List Pr
 | 0=>[]
 | i+1=>match ps[i]? with
  | none=>Yx7 ps i
  | some x=>if 0 < i∧ps[i - 1]? = some x then Yx7 ps i else Yx7 ps i ++ [x]
def YW5 (ps:List Pr) (k:Int):Nat:=(ps.findIdx? λp=>p.1 != k).getD ps.length
def YO0 (ps:List Pr):List Pr:=match ps with
 | []=>[]
 | p :: _=>Yx7 (ps.take (YW5 ps p.1)) (YW5 ps p.1)
end
section
set_option maxRecDepth 100000

end
section

end
section

end
section
section
variable {P:Program} {t kt et:TypeId}
end
end
section
set_option maxRecDepth 100000

end
section
theorem W17 {n:Nat} (h:n < 18446744073709551616):IntKind.u64.wrap (n:Int)=(n:Int):=by
 unfold IntKind.wrap IntKind.signed IntKind.bits
 have e:(n:Int) % 2 ^ 64=n:=Int.emod_eq_of_lt (by omega) (by omega)
 simp only [e]
 rw [if_neg (by simp)]
end
section

end
section

end
section
structure Ro where
 c0:Int
 c1:Int
 c2:Int
 c3:Int
 c4:Int
 c5:Int
 c6:Int
abbrev Ro.cells (r:Ro):List Value:=[iv r.c0,iv r.c1,iv r.c2,iv r.c3,iv r.c4,iv r.c5,iv r.c6]
end
section

end
section

end
section
set_option maxRecDepth 100000
abbrev cf (f:FuncId):Array Value→Wa1→(Value→Wa1→Prop)→Prop:=Wn2 Tryz.prog (.func (.func f) #[] #[])
abbrev nP (o:Option Addr) (F:Addr→Prop):Prop:=Wa7 (.pointer o) (Wd4 (.pointer o) F)
abbrev lI (k:IntKind) (h:Wa1) (a:Addr) (F:Int→Prop):Prop:=ldH h a (λv=>asInt k v F)
abbrev lP (h:Wa1) (a:Addr) (F:Option Addr→Prop):Prop:=ldH h a (λv=>Wd0 v F)
abbrev lS (h:Wa1) (a:Addr) (F:Option Addr→Nat→Nat→Prop):Prop:=ldH h a (λv=>Wb2 v F)
abbrev bd (n m:Int) (X:Prop):Prop:=((0:Int)≤n)∧((n < m)∧X)
abbrev ce (h:Wa1) (b i:Nat) (v:Value) (X:Prop):Prop:=(Wa2 h ⟨b,i,none⟩=some v)∧X
abbrev g71 (K:Value→Wa1→Prop) (h H1:Wa1):Prop:=
 (lI .i64 H1 ⟨h.size,0,none⟩ λa=>ifB (a == 0) (K (.bool true) H1) (exI λI2=>(ifB (a == 1) (I2 [.bool true] H1) (I2 [.bool (a == 2)] H1))∧(∀(a:Value) (b:Env) (b:Wa1),(I2 [a] b)→(asBool a λa=>ifB a (lI .u32 b ⟨h.size,1,none⟩ λa=>ifB (a == 0) (lI .u32 b ⟨h.size,2,none⟩ λa=>K (.bool (a == 0)) b) (K (.bool false) b)) (K (.bool false) b)))))
def F71 (K:Value→Wa1→Prop) (h:Wa1) (xa xb xc:Int):Prop:=
 (g71 K h (Array.push h (.cells #[.int .i64 xa,.int .u32 xb,.int .u32 xc] 54)))
theorem call71 {K:Value→Wa1→Prop} {h:Wa1} {xa xb xc:Int} (H:F71 K h xa xb xc):Wa5 Tryz.prog 71 #[(.agg #[(.int .i64 xa),(.int .u32 xb),(.int .u32 xc)])] h K:=
 Wa4 Tryz.func71 (by kernel_rfl) (Eq.mp (by kernel_rfl) H)
end
section
structure C3 where
 o:Int
 k:Int
 v:Int
abbrev C3.cells (c:C3):List Value:=[.int .i64 c.o,.int .u32 c.k,.int .u32 c.v]
def W91 (c:C3):Bool:=c.o == 0 || ((c.o == 1 || c.o == 2) && (c.k == 0 && c.v == 0))
def YO1 (a:C3):Bool:=a.o == 2 || ((a.o == 0 || (a.o == 1 || a.o == 3)) && (a.k == 0 && a.v == 0))
def YU2 (c a:C3):Bool:=W91 c && (YO1 a && ((c.o == 0) == (a.o == 0 || a.o == 1)))
theorem WK2 {K:Value→Wa1→Prop} {h:Wa1} {c:C3} (k:∀h',Old h.size h h'→K (.bool (W91 c)) h'):Wa5 Tryz.prog 71 #[.agg c.cells.toArray] h K:=by
 refine call71 ?_
 unfold F71 g71 lI
 have p:=Wg2 h c.cells.toArray 54
 rw [show h.push (.cells #[.int .i64 c.o,.int .u32 c.k,.int .u32 c.v] 54)=h.push (.cells c.cells.toArray 54) from rfl]
 generalize h.push (.cells c.cells.toArray 54)=h1 at *
 have kk:=k _ p.toOld
 unfold W91 at kk
 refine ldR p.new rfl ?_
 simp only [Wa3]
 refine Wc3 (λe=>by rw [e] at kk;exact kk) (λe=>?_)
 rw [e,Bool.false_or] at kk
 refine ⟨λvs h'=>vs = [.bool (c.o == 1 || c.o == 2)]∧h' = h1,?_,?_⟩
 ·refine Wc3 (λe1=>⟨by rw [e1];rfl,rfl⟩) (λe1=>⟨by rw [e1,Bool.false_or],rfl⟩)
 rintro v3 g4 h5 ⟨e3,rfl⟩
 cases e3
 simp only [Wa9]
 refine Wc3 (λe1=>?_) (λe1=>by rw [e1] at kk;exact kk)
 rw [e1,Bool.true_and] at kk
 refine ldR p.new rfl ?_
 simp only [Wa3]
 refine Wc3 (λe2=>?_) (λe2=>by rw [e2] at kk;exact kk)
 rw [e2,Bool.true_and] at kk
 refine ldR p.new rfl ?_
 simp only [Wa3]
 exact kk
end
section

end
section
def doP (ps:List Pr) (c a:C3):Option (List Pr):=
 if YU2 c a then
  if a.o=0 then some (YW4 (c.k,c.v) ps)
  else if a.o=1 then some ps
  else if a.o=3 then (if ps = [] then some ps else none)
  else if (a.k,a.v) ∈ YO0 ps then (if c.o=1 then some (ps.erase (a.k,a.v)) else some ps) else none
 else none
end
section
set_option maxRecDepth 100000

end
section

end
section
def F343 (K:Value→Wa1→Prop) (h:Wa1) (xa:Option Addr) (xb xc:Nat):Prop:=
 (K (.func (.func 360) #[] #[.pointer (some ⟨h.size,0,none⟩)]) (Array.push h (.cells #[.slice xa xb xc] 26)))
theorem call343 {K:Value→Wa1→Prop} {h:Wa1} {xa:Option Addr} {xb xc:Nat} (H:F343 K h xa xb xc):Wa5 Tryz.prog 343 #[(.slice xa xb xc)] h K:=
 Wa4 Tryz.func343 (by kernel_rfl) (Eq.mp (by kernel_rfl) H)
def F360 (K:Value→Wa1→Prop) (h:Wa1) (xa c0:Value):Prop:=
 (Wd4 c0 λa=>lS h a λa b c=>exI λI5=>exM λm6=>(I5 [.tuple #[],.int .i64 0] h)∧(∀(c d:Value) (e:Env) (e:Wa1),(I5 [c,d] e)→(asInt .i64 d λf=>ifB (decide (f < (b:Int))) (asI d λf=>bd f (b:Int) (Wd4 (.pointer a) λa=>lI .i64 e (Addr.add a (f.toNat*1)) λa=>Wn2 Tryz.prog xa #[.int .i64 a] e λb f=>asBool b λb=>ifB (!b) (K (.tuple #[]) f) (asInt .i64 d λb=>(I5 [.int .i64 a,.int .i64 (IntKind.wrap .i64 (b+1))] f)∧((m6 [.int .i64 a,.int .i64 (IntKind.wrap .i64 (b+1))] f) < (m6 [c,d] e))))) (K (.tuple #[]) e))))
theorem call360 {K:Value→Wa1→Prop} {h:Wa1} {xa c0:Value} (H:F360 K h xa c0):Wa5 Tryz.prog 360 #[xa,c0] h K:=
 Wa4 Tryz.func360 (by kernel_rfl) (Eq.mp (by kernel_rfl) H)
abbrev g342 (K:Value→Wa1→Prop) (h H1 H2:Wa1) (xa xb:Value):Prop:=
 (Wi6 xa (Wi6 xb (exI λI0=>(ldH H2 ⟨h.size,0,none⟩ λa=>Wh5 a λa=>ifB a (I0 [.bool true] H2) (ldH H2 ⟨H1.size,0,none⟩ λa=>Wh5 a λa=>I0 [.bool a] H2))∧(∀(a:Value) (b:Env) (b:Wa1),(I0 [a] b)→(asBool a λa=>ifB a (K (.func (.func 358) #[] #[]) b) (K (.func (.func 359) #[] #[.pointer (some ⟨h.size,0,none⟩),.pointer (some ⟨H1.size,0,none⟩)]) b))))))
def F342 (K:Value→Wa1→Prop) (h:Wa1) (xa xb:Value):Prop:=
 (g342 K h (Array.push h (.cells #[xa] 374)) (Array.push (Array.push h (.cells #[xa] 374)) (.cells #[xb] 119)) xa xb)
theorem call342 {K:Value→Wa1→Prop} {h:Wa1} {xa xb:Value} (H:F342 K h xa xb):Wa5 Tryz.prog 342 #[xa,xb] h K:=
 Wa4 Tryz.func342 (by kernel_rfl) (Eq.mp (by kernel_rfl) H)
abbrev g359 (K:Value→Wa1→Prop) (h H1:Wa1) (xa c0 c1:Value):Prop:=
 (Wi6 xa (Wd4 c0 λa=>ldH H1 a λa=>WF0 Tryz.prog a 1 H1 (λI2 a b=>asInt .i64 (a.getD 0 (.tuple #[])) λa=>exI λI6=>(Wd4 c1 λc=>ldH b c λc=>Wn2 Tryz.prog c #[.int .i64 a] b λb c=>asBool b λb=>ifB b (ldH c ⟨h.size,0,none⟩ λb=>Wn2 Tryz.prog b #[.int .i64 a] c λa b=>asBool a λa=>I6 [.bool (!a)] b) (I6 [.bool false] c))∧(∀(a:Value) (b:Env) (b:Wa1),(I6 [a] b)→(asBool a λa=>ifB a (I2 .ret b) (I2 .normal b)))) (λa=>(∀b:Wa1,(SameD h.size a b)→(K (.tuple #[]) b))) [(.ret,λa=>(∀b:Wa1,(SameD h.size a b)→(K (.tuple #[]) b)))]))
def F359 (K:Value→Wa1→Prop) (h:Wa1) (xa c0 c1:Value):Prop:=
 (g359 K h (Array.push h (.cells #[xa] 119)) xa c0 c1)
theorem call359 {K:Value→Wa1→Prop} {h:Wa1} {xa c0 c1:Value} (H:F359 K h xa c0 c1):Wa5 Tryz.prog 359 #[xa,c0,c1] h K:=
 Wa4 Tryz.func359 (by kernel_rfl) (Eq.mp (by kernel_rfl) H)
end
section
abbrev Wy9 (L:List Int) (k:Nat):Array Value:=#[iv (L.getD k 0)]
theorem YO2 {p:Nat} {a:Option Addr} {l c:Nat} {xs:List Int} (hl:l < 2 ^ 60) :
  YE0 Tryz.prog (.func (.func 360) #[] #[.pointer (some ⟨p,0,none⟩)]) xs.length (Wy9 xs)
   (λh=>Wa2 h ⟨p,0,none⟩=some (.slice a l c)∧RI h a l c xs):=by
 intro yf y1 y2 h N I X hN hev hok hy
 refine WP4 ?_
 rw [cl2]
 refine call360 ?_
 unfold F360 bd lS lI
 have hlen:=hev.2.len
 simp only [Wb0]
 refine Wc5 hev.1 ?_
 simp only [Wb3]
 refine ⟨λvs h'=>∃v,∃k:Nat,vs = [v,iv k]∧k≤l∧h.size≤h'.size∧I h.size k h',λvs _=>(match vs with | [_,.int _ n]=>l - n.toNat | _=>0),⟨_,0,rfl,by omega,Nat.le_refl _,hok.self⟩,?_⟩
 rintro v7 v8 g h10 ⟨v,k,e,hk,hs,hI⟩
 cases e
 simp only [Wa3,Ww7]
 refine Wa6 (λhlt=>?_) (λhge=>?_)
 ·have hlt':k < xs.length:=by omega
  obtain ⟨ad,rfl,hc⟩:=(hok.env _ _ _ hN hs hI).2.at hlt'
  refine ⟨by omega,hlt,?_⟩
  simp only [Wb0,Int.toNat_natCast,Nat.mul_one]
  refine Wc5 hc ?_
  simp only [Wa3]
  have hyk:=hy h.size k h10 hlt' hN (Nat.le_refl _) hs hI
  have e2:Wy9 xs k=#[.int .i64 xs[k]]:=by unfold Wy9;simp [hlt']
  rw [e2] at hyk
  refine WA8 ?_ hyk
  rintro w h'' ⟨hm,⟨rfl,hI'⟩ | ⟨rfl,hX⟩⟩
  ·simp only [Wa9,Bool.not_true,Wc4]
   rw [Wm5 (by omega)]
   refine ⟨⟨_,k+1,rfl,by omega,Nat.le_trans hs hm.1,hI'⟩,?_⟩
   show l - ((k+1:Nat):Int).toNat < l - (k:Int).toNat
   omega
  ·simp only [Wa9,Bool.not_false,Wd5]
   exact ⟨h.size,hN,Nat.le_refl _,Nat.le_trans hs hm.1,.inr hX⟩
 ·have:k=xs.length:=by omega
  subst this
  exact ⟨h.size,hN,Nat.le_refl _,hs,.inl hI⟩
end
section
theorem Yn1 {L:List Int} {p:Int→Bool} {j:Nat} (hj:j < L.length) (hp:p L[j]=true) :
  ((L.take j).filter p).length < (L.filter p).length∧(L.filter p).getD ((L.take j).filter p).length 0=L[j]:=by
 have e:L.filter p=(L.take j).filter p ++ L[j] :: (L.drop (j+1)).filter p:=by
  conv=>lhs;rw [← List.take_append_drop j L,List.filter_append,List.drop_eq_getElem_cons hj,List.filter_cons_of_pos hp]
 rw [e]
 constructor
 ·simp
 ·simp
theorem WG0 {L:List Int} {p:Int→Bool} {j:Nat} (hj:j < L.length):((L.take (j+1)).filter p).length=((L.take j).filter p).length+(if p L[j] then 1 else 0):=by
 rw [List.take_succ_eq_append_getElem hj,List.filter_append,List.length_append]
 cases h:p L[j] <;> simp [h]
theorem W18 {N M:Nat} {h h':Wa1} (o:Old h.size h h'):Yu9 N M h h':=⟨o.1,λb hb _=>o.2 b hb⟩
theorem Ww4 {N M:Nat} {h h':Wa1} (o:Old h.size h h') (hM:M≤h.size):KeepMid N M h h':=⟨o.1,λb _ hb=>o.2 b (by omega)⟩
theorem KeepMid.trans {N M:Nat} {a b c:Wa1} (x:KeepMid N M a b) (y:KeepMid N M b c):KeepMid N M a c:=⟨Nat.le_trans x.1 y.1,λi h1 h2=>(y.2 i h1 h2).trans (x.2 i h1 h2)⟩
theorem KeepMid.mono {N N' M:Nat} {a b:Wa1} (x:KeepMid N M a b) (h:N≤N'):KeepMid N' M a b:=⟨x.1,λi h1 h2=>x.2 i (by omega) h2⟩
theorem Yx8 {sp kp:Nat} {g f:Value} {L:List Int} {p:Int→Bool} {D:Int→Prop} {Ev Ek:Wa1→Prop} (hD:∀x ∈ L,D x) (hg:fnV g) (hseq:YE0 Tryz.prog g L.length (Wy9 L) Ev) (hst:∀h h',Old h.size h h'→Ev h→Ev h')
  (hsk:∀h h',Old h.size h h'→Ek h→Ek h') (hk:∀(h:Wa1) (x:Int) (K:Value→Wa1→Prop),Ek h→D x→(∀h',Old h.size h h'→K (.bool (p x)) h')→Wn2 Tryz.prog f #[.int .i64 x] h K) :
  YE0 Tryz.prog (.func (.func 359) #[] #[.pointer (some ⟨sp,0,none⟩),.pointer (some ⟨kp,0,none⟩)]) (L.filter p).length (Wy9 (L.filter p))
   (λh=>Wa2 h ⟨sp,0,none⟩=some g∧Wa2 h ⟨kp,0,none⟩=some f∧Ev h∧Ek h):=by
 intro yf y1 y2 h N I X hN hev hok hy
 refine WP4 ?_
 rw [cl3]
 refine call359 ?_
 unfold F359 g359
 simp only [Wb0,WV4]
 have o1:Old h.size h (h.push (.cells #[.func yf y1 y2] 119)):=(Old.refl _ _).push _ (Nat.le_refl _)
 have n1:=Wm3 h (.cells #[.func yf y1 y2] 119)
 have s1:(h.push (.cells #[.func yf y1 y2] 119)).size=h.size+1:=by simp
 generalize h.push (.cells #[.func yf y1 y2] 119)=h1 at *
 refine Wc5 (Wr6 _ _ o1 hev.1) ?_
 refine WV5 (h0:=h) (I:=I) (X:=X) (N:=N) (n:=L.length) (xs:=Wy9 L) (Ev:=Ev) (λ_ h'=>h'[h.size]? = some (.cells #[.func yf y1 y2] 119)) (λj=>((L.take j).filter p).length) (L.filter p).length False
  hg hseq (λ_ _=>rfl) hN o1 hok (λh' e=>e.2.2.1) (hst _ _ o1 hev.2.2.1) (by simp) (by simp) (λk ha hb hsame e=>(hsame _ (Nat.le_refl _) (by omega)).trans e) n1 ?_ ?_ ?_
 ·intro M j h4 hj hM hs hS hI
  rw [s1] at hM
  have e2:(Wy9 L j).getD 0 (.tuple #[])=.int .i64 L[j]:=by unfold Wy9;simp [hj]
  rw [e2]
  simp only [Wa3]
  have hev4:=hok.env M _ h4 (by omega) hs hI
  refine ⟨λvs h'=>∃b:Bool,vs = [.bool b]∧KeepMid h1.size M h4 h'∧(if b then X M () h' else h'[h.size]? = some (.cells #[.func yf y1 y2] 119)∧I M ((L.take (j+1)).filter p).length h'),?_,?_⟩
  ·refine Wc5 hev4.2.1 ?_
   refine hk _ _ _ hev4.2.2.2 (hD _ (List.getElem_mem _)) λh10 o10=>?_
   simp only [Wa9]
   have hI10:=hok.keepI M _ h4 h10 (by omega) hs hI (W18 o10)
   have hS10:h10[h.size]? = some (.cells #[.func yf y1 y2] 119):=(o10.2 _ (by omega)).trans hS
   refine Wc3 (λhp=>?_) (λhp=>?_)
   ·refine Wc5 (Wi1 hS10) ?_
    obtain ⟨f1,f2⟩:=Yn1 hj hp
    have hyk:=hy M _ h10 f1 (by omega) (by omega) (by have:=o10.1;omega) hI10
    rw [show Wy9 (L.filter p) ((L.take j).filter p).length=#[.int .i64 L[j]] by unfold Wy9;rw [f2]] at hyk
    refine WA8 ?_ hyk
    rintro w h14 ⟨hm,hor⟩
    have hm4:KeepMid h1.size M h4 h14:=(Ww4 o10 hs).trans (hm.mono (by omega))
    rcases hor with ⟨rfl,hI'⟩ | ⟨rfl,hX⟩
    ·simp only [Wa9,Bool.not_true]
     refine ⟨false,rfl,hm4,?_⟩
     simp only [Bool.false_eq_true,if_false]
     refine ⟨(hm.2 _ (by omega) (by omega)).trans hS10,?_⟩
     rw [WG0 hj,if_pos hp];exact hI'
    ·simp only [Wa9,Bool.not_false]
     exact ⟨true,rfl,hm4,by simp only [if_true];exact hX⟩
   ·refine ⟨false,rfl,Ww4 o10 hs,?_⟩
    simp only [Bool.false_eq_true,if_false]
    refine ⟨hS10,?_⟩
    rw [WG0 hj,if_neg (by simp [hp])];exact hI10
  ·rintro v16 g17 h18 ⟨b,e,hm,hb⟩
   cases e
   simp only [Wa9]
   cases b with
   | true=>simp only [Wd5];simp only [if_true] at hb;exact ⟨hm,trivial,.inl hb⟩
   | false=>simp only [Wc4];simp only [Bool.false_eq_true,if_false] at hb;exact ⟨hm,by have:=hm.1;omega,hb⟩
 ·intro M h20 hM hs hI h21 hsd
  refine ⟨M,by omega,by omega,by rw [hsd.1];exact hs,.inl ?_⟩
  exact hok.dI M _ h20 h21 (hsd.mono hN) hI
 ·refine ⟨λM h22 hM hs hX h23 hsd=>?_,trivial⟩
  refine ⟨M,by omega,by omega,by rw [hsd.1];exact hs,.inr ?_⟩
  rcases hX with hX | hX
  ·exact hok.dX M _ h22 h23 (hsd.mono hN) hX
  ·exact hX.1.elim
end
section

end
section
set_option maxRecDepth 100000

end
section
structure Op9 where
 th:Int
 op:Int
 key:Int
 val:Int
 kind:Int
 ak:Int
 av:Int
 fr:Int
 to:Int
abbrev Op9.cells (o:Op9):List Value:=[.int .i64 o.th,.int .i64 o.op,.int .u32 o.key,.int .u32 o.val,.int .i64 o.kind,.int .u32 o.ak,.int .u32 o.av,.int .i64 o.fr,.int .i64 o.to]
end
section
def YX7 (ps:List Pr) (c:C3):C3:=if W91 c then (if c.o=0 then ⟨0,0,0⟩ else match YO0 ps with | []=>⟨3,0,0⟩ | p :: _=>⟨2,p.1,p.2⟩) else ⟨1,0,0⟩
def dfC:C3:=⟨0,0,0⟩
def stP (cs:List C3):Nat→List Pr
 | 0=>[]
 | i+1=>let ps:=stP cs i;let c:=cs.getD i dfC;(doP ps c (YX7 ps c)).getD ps
end
section
structure Op7 where
 pl:Int
 c:C3
 a:C3
abbrev Op7.cells (o:Op7):List Value:=[.int .i64 o.pl,.int .i64 o.c.o,.int .u32 o.c.k,.int .u32 o.c.v,.int .i64 o.a.o,.int .u32 o.a.k,.int .u32 o.a.v]
end
section
open Go.ChangeShapes Go.WideShapes Go.ChangeAt Go.RowKit
theorem Wj6 {H:Type} {enc:TypeId × Value→H} {P:Program} {W:World} {base:Nat} {spare:Nat→Bool} {held:Bool} {fuel:Nat} {t:TypeId} {cs:List Value} {x:DataW H × List MemPlace} {fs:Array Field} (ht:P.underlying t=some (.struct fs))
  (h:DataW.trod enc P W base spare held fuel t cs=some x) (i:Nat) (f:Field) (hf:fs[i]? = some f):∃n y,DataW.trod enc P W base spare held n f.type ((cs.drop f.offset).take (P.cellsOf f.type))=some y:=by
 obtain ⟨xs,n,_,_,_,hlen,hfl⟩:=DataW.trod_struct ht h
 have hi:i < xs.length:=by rw [hlen];exact (Array.getElem?_eq_some_iff.1 hf).1
 exact ⟨n,xs[i],by rw [hfl i f hf,List.getElem?_eq_getElem hi]⟩
theorem Yn2 {H:Type} {enc:TypeId × Value→H} {P:Program} {W:World} {base:Nat} {spare:Nat→Bool} {held:Bool} {fuel:Nat} {t:TypeId} {cs:List Value} {x:DataW H × List MemPlace} {fs:Array Field} (ht:P.underlying t=some (.struct fs))
  (h:DataW.trod enc P W base spare held fuel t cs=some x):cs.length=P.cellsOf t:=by
 obtain ⟨xs,n,_,_,hl,_,_⟩:=DataW.trod_struct ht h
 exact hl
theorem Wh9:Program.cellsOf Tryz.prog 3=1:=by kernel_rfl
section
variable {H:Type} {enc:TypeId × Value→H} {W:World} {fuel:Nat} {cs:List Value} {x:DataW H × List MemPlace}
end
section
variable {H:Type} {enc:TypeId × Value→H} {W:World} {d:DataW H} {ps:List MemPlace} {a:Option Addr} {l c:Nat}
end
end
section
set_option maxRecDepth 100000
abbrev da2 (h:Wa1) (a:Addr) (F:Value→Value→Prop):Prop:=ldH h a λv0=>ldH h (Addr.add a 1) λv1=>F v0 v1
abbrev da3 (h:Wa1) (a:Addr) (F:Value→Value→Value→Prop):Prop:=ldH h a λv0=>ldH h (Addr.add a 1) λv1=>ldH h (Addr.add a 2) λv2=>F v0 v1 v2
abbrev da7 (h:Wa1) (a:Addr) (F:Value→Value→Value→Value→Value→Value→Value→Prop):Prop:=ldH h a λv0=>ldH h (Addr.add a 1) λv1=>ldH h (Addr.add a 2) λv2=>ldH h (Addr.add a 3) λv3=>ldH h (Addr.add a 4) λv4=>ldH h (Addr.add a 5) λv5=>ldH h (Addr.add a 6) λv6=>F v0 v1 v2 v3 v4 v5 v6
abbrev W92 (h:Wa1) (a:Addr) (F:Value→Value→Value→Value→Value→Value→Value→Value→Value→Value→Value→Value→Value→Value→Value→Prop):Prop:=ldH h a λv0=>ldH h (Addr.add a 1) λv1=>ldH h (Addr.add a 2) λv2=>ldH h (Addr.add a 3) λv3=>ldH h (Addr.add a 4) λv4=>ldH h (Addr.add a 5) λv5=>ldH h (Addr.add a 6) λv6=>ldH h (Addr.add a 7) λv7=>ldH h (Addr.add a 8) λv8=>ldH h (Addr.add a 9) λv9=>ldH h (Addr.add a 10) λv10=>ldH h (Addr.add a 11) λv11=>ldH h (Addr.add a 12) λv12=>ldH h (Addr.add a 13) λv13=>ldH h (Addr.add a 14) λv14=>F v0 v1 v2 v3 v4 v5 v6 v7 v8 v9 v10 v11 v12 v13 v14
abbrev dc3 (h:Wa1) (b:Nat) (v0 v1 v2:Value) (X:Prop):Prop:=ce h b 0 v0 (ce h b 1 v1 (ce h b 2 v2 X))
abbrev YU3 (h:Wa1) (b:Nat) (v0 v1 v2 v3 v4 v5 v6 v7 v8 v9 v10 v11 v12 v13 v14:Value) (X:Prop):Prop:=ce h b 0 v0 (ce h b 1 v1 (ce h b 2 v2 (ce h b 3 v3 (ce h b 4 v4 (ce h b 5 v5 (ce h b 6 v6 (ce h b 7 v7 (ce h b 8 v8 (ce h b 9 v9 (ce h b 10 v10 (ce h b 11 v11 (ce h b 12 v12 (ce h b 13 v13 (ce h b 14 v14 X))))))))))))))
abbrev de2 (s:Array Value) (F:Value→Value→Prop):Prop:=Wb7 s 0 λv0=>Wb7 s 1 λv1=>F v0 v1
abbrev de3 (s:Array Value) (F:Value→Value→Value→Prop):Prop:=Wb7 s 0 λv0=>Wb7 s 1 λv1=>Wb7 s 2 λv2=>F v0 v1 v2
abbrev de7 (s:Array Value) (F:Value→Value→Value→Value→Value→Value→Value→Prop):Prop:=Wb7 s 0 λv0=>Wb7 s 1 λv1=>Wb7 s 2 λv2=>Wb7 s 3 λv3=>Wb7 s 4 λv4=>Wb7 s 5 λv5=>Wb7 s 6 λv6=>F v0 v1 v2 v3 v4 v5 v6
abbrev Wu0 (s:Array Value) (F:Value→Value→Value→Value→Value→Value→Value→Value→Value→Value→Value→Value→Value→Value→Value→Prop):Prop:=Wb7 s 0 λv0=>Wb7 s 1 λv1=>Wb7 s 2 λv2=>Wb7 s 3 λv3=>Wb7 s 4 λv4=>Wb7 s 5 λv5=>Wb7 s 6 λv6=>Wb7 s 7 λv7=>Wb7 s 8 λv8=>Wb7 s 9 λv9=>Wb7 s 10 λv10=>Wb7 s 11 λv11=>Wb7 s 12 λv12=>Wb7 s 13 λv13=>Wb7 s 14 λv14=>F v0 v1 v2 v3 v4 v5 v6 v7 v8 v9 v10 v11 v12 v13 v14
abbrev YS4 (s:Array Value) (F:Value→Value→Value→Value→Value→Value→Value→Value→Value→Value→Value→Value→Value→Value→Value→Value→Prop):Prop:=Wb7 s 0 λv0=>Wb7 s 1 λv1=>Wb7 s 2 λv2=>Wb7 s 3 λv3=>Wb7 s 4 λv4=>Wb7 s 5 λv5=>Wb7 s 6 λv6=>Wb7 s 7 λv7=>Wb7 s 8 λv8=>Wb7 s 9 λv9=>Wb7 s 10 λv10=>Wb7 s 11 λv11=>Wb7 s 12 λv12=>Wb7 s 13 λv13=>Wb7 s 14 λv14=>Wb7 s 15 λv15=>F v0 v1 v2 v3 v4 v5 v6 v7 v8 v9 v10 v11 v12 v13 v14 v15
abbrev dl2 (h:Wa1) (b:Nat) (F:Value→Value→Prop):Prop:=ldH h ⟨b,0,none⟩ λv0=>ldH h ⟨b,1,none⟩ λv1=>F v0 v1
abbrev dl3 (h:Wa1) (b:Nat) (F:Value→Value→Value→Prop):Prop:=ldH h ⟨b,0,none⟩ λv0=>ldH h ⟨b,1,none⟩ λv1=>ldH h ⟨b,2,none⟩ λv2=>F v0 v1 v2
abbrev dl4 (h:Wa1) (b:Nat) (F:Value→Value→Value→Value→Prop):Prop:=ldH h ⟨b,0,none⟩ λv0=>ldH h ⟨b,1,none⟩ λv1=>ldH h ⟨b,2,none⟩ λv2=>ldH h ⟨b,3,none⟩ λv3=>F v0 v1 v2 v3
abbrev dl7 (h:Wa1) (b:Nat) (F:Value→Value→Value→Value→Value→Value→Value→Prop):Prop:=ldH h ⟨b,0,none⟩ λv0=>ldH h ⟨b,1,none⟩ λv1=>ldH h ⟨b,2,none⟩ λv2=>ldH h ⟨b,3,none⟩ λv3=>ldH h ⟨b,4,none⟩ λv4=>ldH h ⟨b,5,none⟩ λv5=>ldH h ⟨b,6,none⟩ λv6=>F v0 v1 v2 v3 v4 v5 v6
abbrev YW6 (h:Wa1) (b:Nat) (F:Value→Value→Value→Value→Value→Value→Value→Value→Value→Value→Value→Value→Prop):Prop:=ldH h ⟨b,0,none⟩ λv0=>ldH h ⟨b,1,none⟩ λv1=>ldH h ⟨b,2,none⟩ λv2=>ldH h ⟨b,3,none⟩ λv3=>ldH h ⟨b,4,none⟩ λv4=>ldH h ⟨b,5,none⟩ λv5=>ldH h ⟨b,6,none⟩ λv6=>ldH h ⟨b,7,none⟩ λv7=>ldH h ⟨b,8,none⟩ λv8=>ldH h ⟨b,9,none⟩ λv9=>ldH h ⟨b,10,none⟩ λv10=>ldH h ⟨b,11,none⟩ λv11=>F v0 v1 v2 v3 v4 v5 v6 v7 v8 v9 v10 v11
abbrev Wz7 (h:Wa1) (b:Nat) (F:Value→Value→Value→Value→Value→Value→Value→Value→Value→Value→Value→Value→Value→Value→Value→Prop):Prop:=ldH h ⟨b,0,none⟩ λv0=>ldH h ⟨b,1,none⟩ λv1=>ldH h ⟨b,2,none⟩ λv2=>ldH h ⟨b,3,none⟩ λv3=>ldH h ⟨b,4,none⟩ λv4=>ldH h ⟨b,5,none⟩ λv5=>ldH h ⟨b,6,none⟩ λv6=>ldH h ⟨b,7,none⟩ λv7=>ldH h ⟨b,8,none⟩ λv8=>ldH h ⟨b,9,none⟩ λv9=>ldH h ⟨b,10,none⟩ λv10=>ldH h ⟨b,11,none⟩ λv11=>ldH h ⟨b,12,none⟩ λv12=>ldH h ⟨b,13,none⟩ λv13=>ldH h ⟨b,14,none⟩ λv14=>F v0 v1 v2 v3 v4 v5 v6 v7 v8 v9 v10 v11 v12 v13 v14
abbrev WP8 (h:Wa1) (b:Nat) (F:Value→Value→Value→Value→Value→Value→Value→Value→Value→Value→Value→Value→Value→Value→Value→Value→Prop):Prop:=ldH h ⟨b,0,none⟩ λv0=>ldH h ⟨b,1,none⟩ λv1=>ldH h ⟨b,2,none⟩ λv2=>ldH h ⟨b,3,none⟩ λv3=>ldH h ⟨b,4,none⟩ λv4=>ldH h ⟨b,5,none⟩ λv5=>ldH h ⟨b,6,none⟩ λv6=>ldH h ⟨b,7,none⟩ λv7=>ldH h ⟨b,8,none⟩ λv8=>ldH h ⟨b,9,none⟩ λv9=>ldH h ⟨b,10,none⟩ λv10=>ldH h ⟨b,11,none⟩ λv11=>ldH h ⟨b,12,none⟩ λv12=>ldH h ⟨b,13,none⟩ λv13=>ldH h ⟨b,14,none⟩ λv14=>ldH h ⟨b,15,none⟩ λv15=>F v0 v1 v2 v3 v4 v5 v6 v7 v8 v9 v10 v11 v12 v13 v14 v15
abbrev dw2 (h:Wa1) (b:Nat) (v0 v1:Value) (F:Wa1→Prop):Prop:=stH h ⟨b,0,none⟩ v0 λh1=>stH h1 ⟨b,1,none⟩ v1 λh2=>F h2
abbrev dw3 (h:Wa1) (b:Nat) (v0 v1 v2:Value) (F:Wa1→Prop):Prop:=stH h ⟨b,0,none⟩ v0 λh1=>stH h1 ⟨b,1,none⟩ v1 λh2=>stH h2 ⟨b,2,none⟩ v2 λh3=>F h3
abbrev dw7 (h:Wa1) (b:Nat) (v0 v1 v2 v3 v4 v5 v6:Value) (F:Wa1→Prop):Prop:=stH h ⟨b,0,none⟩ v0 λh1=>stH h1 ⟨b,1,none⟩ v1 λh2=>stH h2 ⟨b,2,none⟩ v2 λh3=>stH h3 ⟨b,3,none⟩ v3 λh4=>stH h4 ⟨b,4,none⟩ v4 λh5=>stH h5 ⟨b,5,none⟩ v5 λh6=>stH h6 ⟨b,6,none⟩ v6 λh7=>F h7
abbrev YI0 (h:Wa1) (b:Nat) (v0 v1 v2 v3 v4 v5 v6 v7 v8 v9 v10 v11 v12 v13 v14:Value) (F:Wa1→Prop):Prop:=stH h ⟨b,0,none⟩ v0 λh1=>stH h1 ⟨b,1,none⟩ v1 λh2=>stH h2 ⟨b,2,none⟩ v2 λh3=>stH h3 ⟨b,3,none⟩ v3 λh4=>stH h4 ⟨b,4,none⟩ v4 λh5=>stH h5 ⟨b,5,none⟩ v5 λh6=>stH h6 ⟨b,6,none⟩ v6 λh7=>stH h7 ⟨b,7,none⟩ v7 λh8=>stH h8 ⟨b,8,none⟩ v8 λh9=>stH h9 ⟨b,9,none⟩ v9 λh10=>stH h10 ⟨b,10,none⟩ v10 λh11=>stH h11 ⟨b,11,none⟩ v11 λh12=>stH h12 ⟨b,12,none⟩ v12 λh13=>stH h13 ⟨b,13,none⟩ v13 λh14=>stH h14 ⟨b,14,none⟩ v14 λh15=>F h15
abbrev YM2 (h:Wa1) (b:Nat) (v0 v1 v2 v3 v4 v5 v6 v7 v8 v9 v10 v11 v12 v13 v14 v15:Value) (F:Wa1→Prop):Prop:=stH h ⟨b,0,none⟩ v0 λh1=>stH h1 ⟨b,1,none⟩ v1 λh2=>stH h2 ⟨b,2,none⟩ v2 λh3=>stH h3 ⟨b,3,none⟩ v3 λh4=>stH h4 ⟨b,4,none⟩ v4 λh5=>stH h5 ⟨b,5,none⟩ v5 λh6=>stH h6 ⟨b,6,none⟩ v6 λh7=>stH h7 ⟨b,7,none⟩ v7 λh8=>stH h8 ⟨b,8,none⟩ v8 λh9=>stH h9 ⟨b,9,none⟩ v9 λh10=>stH h10 ⟨b,10,none⟩ v10 λh11=>stH h11 ⟨b,11,none⟩ v11 λh12=>stH h12 ⟨b,12,none⟩ v12 λh13=>stH h13 ⟨b,13,none⟩ v13 λh14=>stH h14 ⟨b,14,none⟩ v14 λh15=>stH h15 ⟨b,15,none⟩ v15 λh16=>F h16
abbrev g42 (K:Value→Wa1→Prop) (h H1 H2:Wa1):Prop:=
 (lI .i64 H2 ⟨h.size,0,none⟩ λa=>lI .i64 H2 ⟨h.size,1,none⟩ λb=>lI .i64 H2 ⟨h.size,2,none⟩ λc=>lI .i64 H2 ⟨h.size,3,none⟩ λd=>lI .i64 H2 ⟨h.size,4,none⟩ λe=>lI .i64 H2 ⟨h.size,5,none⟩ λf=>lI .i64 H2 ⟨h.size,6,none⟩ λg=>cf 95 #[.slice (some ⟨H2.size,0,none⟩) 7 7] (Array.push H2 (.cells #[.int .i64 a,.int .i64 0,.int .i64 2,.int .i64 b,.int .i64 1,.int .i64 6,.int .i64 c,.int .i64 1,.int .i64 64,.int .i64 d,.int .i64 1,.int .i64 6,.int .i64 e,.int .i64 1,.int .i64 16,.int .i64 f,.int .i64 1,.int .i64 16,.int .i64 g,.int .i64 1,.int .i64 64] 158)) λa b=>asBool a λa=>ifB (!a) (YI0 b H1.size (.int .i64 0) (.int .i64 0) (.int .i64 0) (.int .i64 0) (.int .i64 0) (.int .i64 0) (.int .i64 0) (.int .i64 0) (.int .i64 0) (.int .i64 0) (.int .i64 0) (.int .i64 0) (.int .i64 0) (.int .i64 0) (.int .i64 0) λa=>Wz7 a H1.size λc d e f g i j k l m n o p q r=>K (.tuple #[.agg #[c,d,e,f,g,i,j,k,l,m,n,o,p,q,r],.int .i64 6]) a) (dl7 b h.size λa c d e f g i=>lI .i64 b ⟨h.size,3,none⟩ λj=>lI .i64 b ⟨h.size,3,none⟩ λk=>stH (Array.push b (.cells #[.int .i64 0,.int .i64 0,.int .i64 0,.int .i64 0,.int .i64 0,.int .i64 0,.int .i64 0,.int .i64 0,.int .i64 0,.int .i64 0,.int .i64 0,.int .i64 0,.int .i64 0,.int .i64 0,.int .i64 0] 62)) ⟨b.size,0,none⟩ a λa=>stH a ⟨b.size,1,none⟩ c λa=>stH a ⟨b.size,2,none⟩ d λa=>stH a ⟨b.size,3,none⟩ e λa=>stH a ⟨b.size,4,none⟩ f λa=>stH a ⟨b.size,5,none⟩ g λa=>stH a ⟨b.size,6,none⟩ i λa=>stH a ⟨b.size,7,none⟩ (.int .i64 (IntKind.wrap .i64 ((IntKind.wrap .i64 (2*j))+2))) λa=>stH a ⟨b.size,8,none⟩ (.int .i64 (IntKind.wrap .i64 (5+k))) λa=>stH a ⟨b.size,9,none⟩ (.int .i64 2) λa=>stH a ⟨b.size,10,none⟩ (.int .i64 0) λa=>stH a ⟨b.size,11,none⟩ (.int .i64 0) λa=>stH a ⟨b.size,12,none⟩ (.int .i64 0) λa=>stH a ⟨b.size,13,none⟩ (.int .i64 0) λa=>stH a ⟨b.size,14,none⟩ (.int .i64 0) λa=>exI λI73=>(lI .i64 a ⟨h.size,0,none⟩ λc=>ifB (c == 0) (ldH a ⟨h.size,3,none⟩ λc=>asInt .i64 c λd=>((0:Int)≤d)∧(stH a ⟨b.size,7,none⟩ (.int .i64 2) λe=>ce e h.size 3 c (stH e ⟨b.size,8,none⟩ (.int .i64 3) λe=>ce e h.size 3 c (stH e ⟨b.size,9,none⟩ (.int .i64 0) λe=>ce e h.size 3 c (I73 [.int .i64 (IntKind.wrap .i64 (1*(2 ^ (min d.toNat 64))))] e))))) (I73 [.int .i64 0] a))∧(∀(a:Value) (c:Env) (c:Wa1),(I73 [a] c)→(lI .i64 c ⟨h.size,2,none⟩ λd=>lI .i64 c ⟨b.size,9,none⟩ λe=>ifB (decide (d≤e)) (YI0 c H1.size (.int .i64 0) (.int .i64 0) (.int .i64 0) (.int .i64 0) (.int .i64 0) (.int .i64 0) (.int .i64 0) (.int .i64 0) (.int .i64 0) (.int .i64 0) (.int .i64 0) (.int .i64 0) (.int .i64 0) (.int .i64 0) (.int .i64 0) λd=>Wz7 d H1.size λe f g i j k l m n o p q r s t=>K (.tuple #[.agg #[e,f,g,i,j,k,l,m,n,o,p,q,r,s,t],.int .i64 6]) d) (stH c ⟨b.size,10,none⟩ (.int .i64 8) λc=>lI .i64 c ⟨b.size,10,none⟩ λd=>lI .i64 c ⟨h.size,1,none⟩ λe=>lI .i64 c ⟨b.size,7,none⟩ λf=>stH c ⟨b.size,11,none⟩ (.int .i64 (IntKind.wrap .i64 (d+(IntKind.wrap .i64 (e*f))))) λc=>lI .i64 c ⟨b.size,11,none⟩ λd=>lI .i64 c ⟨h.size,2,none⟩ λe=>stH c ⟨b.size,12,none⟩ (.int .i64 (IntKind.wrap .i64 (d+e))) λc=>lI .i64 c ⟨b.size,12,none⟩ λd=>lI .i64 c ⟨h.size,2,none⟩ λe=>lI .i64 c ⟨b.size,8,none⟩ λf=>stH c ⟨b.size,13,none⟩ (.int .i64 (IntKind.wrap .i64 (d+(IntKind.wrap .i64 (e*f))))) λc=>lI .i64 c ⟨b.size,13,none⟩ λd=>asInt .i64 a λa=>stH c ⟨b.size,14,none⟩ (.int .i64 (IntKind.wrap .i64 (d+a))) λa=>Wz7 a b.size λb c d e f g i j k l m n o p q=>YI0 a H1.size b c d e f g i j k l m n o p q λa=>Wz7 a H1.size λb c d e f g i j k l m n o p q=>K (.tuple #[.agg #[b,c,d,e,f,g,i,j,k,l,m,n,o,p,q],.int .i64 0]) a)))))
def F42 (K:Value→Wa1→Prop) (h:Wa1) (xa xb xc xd xe xf xg:Int):Prop:=
 (g42 K h (Array.push h (.cells #[.int .i64 xa,.int .i64 xb,.int .i64 xc,.int .i64 xd,.int .i64 xe,.int .i64 xf,.int .i64 xg] 23)) (Array.push (Array.push h (.cells #[.int .i64 xa,.int .i64 xb,.int .i64 xc,.int .i64 xd,.int .i64 xe,.int .i64 xf,.int .i64 xg] 23)) (.cells #[.int .i64 0,.int .i64 0,.int .i64 0,.int .i64 0,.int .i64 0,.int .i64 0,.int .i64 0,.int .i64 0,.int .i64 0,.int .i64 0,.int .i64 0,.int .i64 0,.int .i64 0,.int .i64 0,.int .i64 0] 62)))
theorem call42 {K:Value→Wa1→Prop} {h:Wa1} {xa xb xc xd xe xf xg:Int} (H:F42 K h xa xb xc xd xe xf xg):Wa5 Tryz.prog 42 #[(.agg #[(.int .i64 xa),(.int .i64 xb),(.int .i64 xc),(.int .i64 xd),(.int .i64 xe),(.int .i64 xf),(.int .i64 xg)])] h K:=
 Wa4 Tryz.func42 (by kernel_rfl) (Eq.mp (by kernel_rfl) H)
def F95 (K:Value→Wa1→Prop) (h:Wa1) (xa:Option Addr) (xb xc:Nat):Prop:=
 (exI λI0=>exM λm1=>(I0 [.bool false,.int .i64 0] h)∧(∀(a b:Value) (c:Env) (c:Wa1),(I0 [a,b] c)→(asInt .i64 b λd=>ifB (decide (d < ((xb:Nat):Int))) (asI b λd=>bd d ((xb:Nat):Int) (Wd4 (.pointer xa) λe=>ldH c (Addr.add e (d.toNat*3)) λf=>ldH c (Addr.add (Addr.add e (d.toNat*3)) 1) λg=>ldH c (Addr.add (Addr.add e (d.toNat*3)) 2) λd=>stH (Array.push c (.cells #[.int .i64 0,.int .i64 0,.int .i64 0] 158)) ⟨c.size,0,none⟩ f λe=>stH e ⟨c.size,1,none⟩ g λe=>stH e ⟨c.size,2,none⟩ d λd=>exI λI15=>(lI .i64 d ⟨c.size,0,none⟩ λe=>lI .i64 d ⟨c.size,1,none⟩ λf=>ifB (decide (e < f)) (I15 [.bool true] d) (lI .i64 d ⟨c.size,0,none⟩ λe=>lI .i64 d ⟨c.size,2,none⟩ λf=>I15 [.bool (decide (e > f))] d))∧(∀(d:Value) (e:Env) (e:Wa1),(I15 [d] e)→(asBool d λd=>ifB d (K (.bool false) e) (asInt .i64 b λd=>(I0 [a,.int .i64 (IntKind.wrap .i64 (d+1))] e)∧((m1 [a,.int .i64 (IntKind.wrap .i64 (d+1))] e) < (m1 [a,b] c))))))) (K (.bool true) c))))
theorem call95 {K:Value→Wa1→Prop} {h:Wa1} {xa:Option Addr} {xb xc:Nat} (H:F95 K h xa xb xc):Wa5 Tryz.prog 95 #[(.slice xa xb xc)] h K:=
 Wa4 Tryz.func95 (by kernel_rfl) (Eq.mp (by kernel_rfl) H)
abbrev g11 (K:Value→Wa1→Prop) (h H1:Wa1):Prop:=
 (exI λI0=>(lI .i64 H1 ⟨h.size,0,none⟩ λa=>ifB (decide (a < 0)) (I0 [.bool true,.bool true,.bool true,.bool true,.bool true,.bool true,.bool true] H1) (lI .i64 H1 ⟨h.size,0,none⟩ λa=>ifB (decide (a > 2)) (I0 [.bool (decide (a > 2)),.bool true,.bool true,.bool true,.bool true,.bool true,.bool true] H1) (lI .i64 H1 ⟨h.size,1,none⟩ λb=>ifB (decide (b < 1)) (I0 [.bool (decide (a > 2)),.bool (decide (b < 1)),.bool true,.bool true,.bool true,.bool true,.bool true] H1) (lI .i64 H1 ⟨h.size,1,none⟩ λc=>ifB (decide (c > 6)) (I0 [.bool (decide (a > 2)),.bool (decide (b < 1)),.bool (decide (c > 6)),.bool true,.bool true,.bool true,.bool true] H1) (lI .i64 H1 ⟨h.size,2,none⟩ λd=>ifB (decide (d < 1)) (I0 [.bool (decide (a > 2)),.bool (decide (b < 1)),.bool (decide (c > 6)),.bool (decide (d < 1)),.bool true,.bool true,.bool true] H1) (lI .i64 H1 ⟨h.size,2,none⟩ λe=>ifB (decide (e > 64)) (I0 [.bool (decide (a > 2)),.bool (decide (b < 1)),.bool (decide (c > 6)),.bool (decide (d < 1)),.bool (decide (e > 64)),.bool true,.bool true] H1) (lI .i64 H1 ⟨h.size,3,none⟩ λf=>ifB (decide (f < 1)) (I0 [.bool (decide (a > 2)),.bool (decide (b < 1)),.bool (decide (c > 6)),.bool (decide (d < 1)),.bool (decide (e > 64)),.bool (decide (f < 1)),.bool true] H1) (lI .i64 H1 ⟨h.size,3,none⟩ λg=>I0 [.bool (decide (a > 2)),.bool (decide (b < 1)),.bool (decide (c > 6)),.bool (decide (d < 1)),.bool (decide (e > 64)),.bool (decide (f < 1)),.bool (decide (g > 6))] H1))))))))∧(∀(a b c d e f g:Value) (i:Env) (i:Wa1),(I0 [a,b,c,d,e,f,g] i)→(asBool g λa=>ifB a (K (.bool false) i) (exI λI27=>(lI .i64 i ⟨h.size,4,none⟩ λa=>ifB (decide (a < 1)) (I27 [.bool true,.bool true,.bool true,.bool true,.bool true] i) (lI .i64 i ⟨h.size,4,none⟩ λa=>ifB (decide (a > 16)) (I27 [.bool (decide (a > 16)),.bool true,.bool true,.bool true,.bool true] i) (lI .i64 i ⟨h.size,5,none⟩ λb=>ifB (decide (b < 1)) (I27 [.bool (decide (a > 16)),.bool (decide (b < 1)),.bool true,.bool true,.bool true] i) (lI .i64 i ⟨h.size,5,none⟩ λc=>ifB (decide (c > 16)) (I27 [.bool (decide (a > 16)),.bool (decide (b < 1)),.bool (decide (c > 16)),.bool true,.bool true] i) (lI .i64 i ⟨h.size,6,none⟩ λd=>ifB (decide (d < 1)) (I27 [.bool (decide (a > 16)),.bool (decide (b < 1)),.bool (decide (c > 16)),.bool (decide (d < 1)),.bool true] i) (lI .i64 i ⟨h.size,6,none⟩ λe=>I27 [.bool (decide (a > 16)),.bool (decide (b < 1)),.bool (decide (c > 16)),.bool (decide (d < 1)),.bool (decide (e > 64))] i))))))∧(∀(a b c d e:Value) (f:Env) (f:Wa1),(I27 [a,b,c,d,e] f)→(asBool e λa=>ifB a (K (.bool false) f) (ldH f ⟨h.size,2,none⟩ λa=>asInt .i64 a λb=>dl7 f h.size λc d e g i j k=>cf 39 #[.agg #[c,d,e,g,i,j,k]] f λc d=>asInt .i64 c λc=>ce d h.size 2 a (K (.bool (decide (b > c))) d))))))))
def F11 (K:Value→Wa1→Prop) (h:Wa1) (xa xb xc xd xe xf xg:Int):Prop:=
 (g11 K h (Array.push h (.cells #[.int .i64 xa,.int .i64 xb,.int .i64 xc,.int .i64 xd,.int .i64 xe,.int .i64 xf,.int .i64 xg] 23)))
theorem call11 {K:Value→Wa1→Prop} {h:Wa1} {xa xb xc xd xe xf xg:Int} (H:F11 K h xa xb xc xd xe xf xg):Wa5 Tryz.prog 11 #[(.agg #[(.int .i64 xa),(.int .i64 xb),(.int .i64 xc),(.int .i64 xd),(.int .i64 xe),(.int .i64 xf),(.int .i64 xg)])] h K:=
 Wa4 Tryz.func11 (by kernel_rfl) (Eq.mp (by kernel_rfl) H)
abbrev g39 (K:Value→Wa1→Prop) (h H1:Wa1):Prop:=
 (lI .i64 H1 ⟨h.size,0,none⟩ λa=>ifB (a == 0) (K (.int .i64 0) H1) (K (.int .i64 2) H1))
def F39 (K:Value→Wa1→Prop) (h:Wa1) (xa xb xc xd xe xf xg:Int):Prop:=
 (g39 K h (Array.push h (.cells #[.int .i64 xa,.int .i64 xb,.int .i64 xc,.int .i64 xd,.int .i64 xe,.int .i64 xf,.int .i64 xg] 23)))
theorem call39 {K:Value→Wa1→Prop} {h:Wa1} {xa xb xc xd xe xf xg:Int} (H:F39 K h xa xb xc xd xe xf xg):Wa5 Tryz.prog 39 #[(.agg #[(.int .i64 xa),(.int .i64 xb),(.int .i64 xc),(.int .i64 xd),(.int .i64 xe),(.int .i64 xf),(.int .i64 xg)])] h K:=
 Wa4 Tryz.func39 (by kernel_rfl) (Eq.mp (by kernel_rfl) H)
end
section
abbrev WM3 (X Y Z:Nat→Int) (i:Nat):Prop:=Y i≤X i∧X i≤Z i
theorem W19 {K:Value→Wa1→Prop} {h:Wa1} {a:Addr} {l c:Nat} {X Y Z:Nat→Int} (hl:l≤1000)
  (H:∀i,i < l→Wa2 h (a.add (i*3))=some (iv (X i))∧Wa2 h ((a.add (i*3)).add 1)=some (iv (Y i))∧Wa2 h ((a.add (i*3)).add 2)=some (iv (Z i)))
  (k1:(∀i,i < l→WM3 X Y Z i)→∀h',Old h.size h h'→K (.bool true) h') (k0:(∃i,i < l∧¬ WM3 X Y Z i)→∀h',Old h.size h h'→K (.bool false) h') :
  Wa5 Tryz.prog 95 #[.slice (some a) l c] h K:=by
 refine call95 ?_
 unfold F95 bd lI
 refine ⟨λvs h'=>∃i:Nat,vs = [.bool false,iv i]∧Old h.size h h'∧i≤l∧∀j,j < i→WM3 X Y Z j,λvs _=>(match vs with | [_,.int _ n]=>l - n.toNat | _=>0),⟨0,rfl,Old.refl _ _,Nat.zero_le _,λj hj=>by omega⟩,?_⟩
 rintro v2 v3 g h5 ⟨i,e,ho,hi,hall⟩
 cases e
 simp only [Wa3,Ww7]
 refine Wa6 (λhlt=>?_) (λhge=>?_)
 ·obtain ⟨e1,e2,e3⟩:=H i (by omega)
  refine ⟨by omega,hlt,?_⟩
  simp only [Wb0,Int.toNat_natCast]
  refine Wc5 (Wr6 _ _ ho e1) (Wc5 (Wr6 _ _ ho e2) (Wc5 (Wr6 _ _ ho e3) ?_))
  have p:=Wg2 h5 #[.int .i64 0,.int .i64 0,.int .i64 0] 158
  generalize h5.push (.cells #[.int .i64 0,.int .i64 0,.int .i64 0] 158)=hp at *
  refine st3 (Wd6 p.new rfl (by simp [Wi6]) λh14 w=>?_)
  have o14:Old h.size h h14:=w.toOld (ho.trans (p.toOld.mono ho.1)) ho.1
  refine ⟨λvs h'=>vs = [.bool (decide (¬ WM3 X Y Z i))]∧h' = h14,?_,?_⟩
  ·refine ldR w.new rfl ?_
   simp only [Wa3]
   refine ldR w.new rfl ?_
   simp only [Wa3]
   refine Wa6 (λh1=>⟨?_,by trivial⟩) (λh1=>?_)
   ·rw [decide_eq_true (by unfold WM3;omega)]
   ·refine ldR w.new rfl ?_
    simp only [Wa3]
    refine ldR w.new rfl ?_
    simp only [Wa3]
    refine ⟨?_,by trivial⟩
    congr 2;rw [decide_eq_decide];unfold WM3;omega
  ·rintro v24 g25 h26 ⟨e,rfl⟩
   cases e
   simp only [Wa9]
   refine Wa6 (λh1=>k0 ⟨i,by omega,h1⟩ _ o14) (λh1=>?_)
   rw [Wm5 (by omega)]
   refine ⟨⟨i+1,rfl,o14,by omega,λj hj=>?_⟩,?_⟩
   ·by_cases hji:j < i
    ·exact hall j hji
    ·rw [show j=i by omega];exact Decidable.of_not_not h1
   ·show l - ((i+1:Nat):Int).toNat < l - (i:Int).toNat
    omega
 ·exact k1 (λj hj=>hall j (by omega)) _ ho
structure Cf where
 a:Int
 t:Int
 n:Int
 l:Int
 b:Int
 p:Int
 s:Int
def Cf.sent (c:Cf):Int:=if c.a=0 then 0 else 2
def Cf.slots (c:Cf):Int:=if c.a=0 then 2 else 2*c.l+2
def Cf.width (c:Cf):Int:=if c.a=0 then 3 else 5+c.l
def Cf.links (c:Cf):Int:=8+c.t*c.slots
def Cf.nodes (c:Cf):Int:=c.links+c.n
def Cf.tree (c:Cf):Int:=c.nodes+c.n*c.width
def Cf.size (c:Cf):Int:=c.tree+(if c.a=0 then 2 ^ c.l.toNat else 0)
structure Cf.Right (c:Cf):Prop where
 a:0≤c.a∧c.a≤2
 t:1≤c.t∧c.t≤6
 n:1≤c.n∧c.n≤64
 l:1≤c.l∧c.l≤6
 b:1≤c.b∧c.b≤16
 p:1≤c.p∧c.p≤16
 s:1≤c.s∧c.s≤64
 z:c.sent < c.n
abbrev Cf.vals (c:Cf):Array Value:=#[.int .i64 c.a,.int .i64 c.t,.int .i64 c.n,.int .i64 c.l,.int .i64 c.b,.int .i64 c.p,.int .i64 c.s]
abbrev Cf.plan (c:Cf):Array Value:=#[.int .i64 c.a,.int .i64 c.t,.int .i64 c.n,.int .i64 c.l,.int .i64 c.b,.int .i64 c.p,.int .i64 c.s,.int .i64 c.slots,.int .i64 c.width,.int .i64 c.sent,.int .i64 8,.int .i64 c.links,.int .i64 c.nodes,.int .i64 c.tree,.int .i64 c.size]
abbrev Wj7:Array Value:=#[.int .i64 0,.int .i64 0,.int .i64 0,.int .i64 0,.int .i64 0,.int .i64 0,.int .i64 0,.int .i64 0,.int .i64 0,.int .i64 0,.int .i64 0,.int .i64 0,.int .i64 0,.int .i64 0,.int .i64 0]
theorem Yx9 {K:Value→Wa1→Prop} {h:Wa1} (c:Cf) (k1:c.Right→∀h',Old h.size h h'→K (.tuple #[.agg c.plan,.int .i64 0]) h') (k0:¬ c.Right→∀h',Old h.size h h'→K (.tuple #[.agg Wj7,.int .i64 6]) h') :
  Wa5 Tryz.prog 42 #[.agg c.vals] h K:=by
 refine call42 ?_
 unfold F42 g42 cf ce lI dl7 Wz7 YI0
 have p1:=Wg2 h c.vals 23
 rw [show h.push (.cells #[.int .i64 c.a,.int .i64 c.t,.int .i64 c.n,.int .i64 c.l,.int .i64 c.b,.int .i64 c.p,.int .i64 c.s] 23)=h.push (.cells c.vals 23) from rfl]
 generalize h.push (.cells c.vals 23)=h1 at *
 have p2:=Wg2 h1 Wj7 62
 rw [show h1.push (.cells #[.int .i64 0,.int .i64 0,.int .i64 0,.int .i64 0,.int .i64 0,.int .i64 0,.int .i64 0,.int .i64 0,.int .i64 0,.int .i64 0,.int .i64 0,.int .i64 0,.int .i64 0,.int .i64 0,.int .i64 0] 62)=h1.push (.cells Wj7 62) from rfl]
 generalize h1.push (.cells Wj7 62)=h2 at *
 have s1:=p1.size
 have s2:=p2.size
 have c2:h2[h.size]? = some (.cells c.vals 23):=(p2.old _ (by omega)).trans p1.new
 have o2:Old h.size h h2:=p1.toOld.trans (p2.toOld.mono (by omega))
 rw [s1]
 have n2:h2[h.size+1]? = some (.cells Wj7 62):=by rw [← s1];exact p2.new
 iterate 7 (refine ldR c2 rfl ?_;simp only [Wa3])
 have p3:=Wg2 h2 #[.int .i64 c.a,.int .i64 0,.int .i64 2,.int .i64 c.t,.int .i64 1,.int .i64 6,.int .i64 c.n,.int .i64 1,.int .i64 64,.int .i64 c.l,.int .i64 1,.int .i64 6,.int .i64 c.b,.int .i64 1,.int .i64 16,.int .i64 c.p,.int .i64 1,.int .i64 16,.int .i64 c.s,.int .i64 1,.int .i64 64] 158
 generalize h2.push (.cells #[.int .i64 c.a,.int .i64 0,.int .i64 2,.int .i64 c.t,.int .i64 1,.int .i64 6,.int .i64 c.n,.int .i64 1,.int .i64 64,.int .i64 c.l,.int .i64 1,.int .i64 6,.int .i64 c.b,.int .i64 1,.int .i64 16,.int .i64 c.p,.int .i64 1,.int .i64 16,.int .i64 c.s,.int .i64 1,.int .i64 64] 158)=h3 at *
 have o3:Old h2.size h2 h3:=p3.toOld
 have c3:=(o3.2 _ (by omega)).trans c2
 have n3:=(o3.2 _ (by omega)).trans n2
 have nothing:∀(h':Wa1) (row:Array Value),Old h.size h h'→h'[h.size+1]? = some (.cells row 62)→row.size=15→¬ c.Right→∀(F:Wa1→Prop),(∀h'',Old h.size h h''→h''[h.size+1]? = some (.cells Wj7 62)→F h'') →
   stN h' ⟨h.size+1,0,none⟩ 0 Wj7.toList F:=by
  intro h' row o hb hr hn F hF
  refine Wd6 hb (by rw [hr];rfl) (by simp [Wi6]) λh'' w=>?_
  exact hF _ (w.toOld o (by omega)) (by simpa using w.new)
 refine Wa0 (W19 (X:=λi=>[c.a,c.t,c.n,c.l,c.b,c.p,c.s].getD i 0) (Y:=λi=>[0,1,1,1,1,1,1].getD i 0) (Z:=λi=>[2,6,64,6,16,16,64].getD i 0) (by omega) ?_ (λhall h15 o15=>?_) (λhex h15 o15=>?_))
 ·intro i hi
  simp only [Wc2]
  have:i=0∨i=1∨i=2∨i=3∨i=4∨i=5∨i=6:=by omega
  rcases this with rfl | rfl | rfl | rfl | rfl | rfl | rfl <;> exact ⟨Wd3 p3.new rfl,Wd3 p3.new rfl,Wd3 p3.new rfl⟩
 ·
  have q0:0≤c.a∧c.a≤2:=hall 0 (by omega)
  have q1:1≤c.t∧c.t≤6:=hall 1 (by omega)
  have q2:1≤c.n∧c.n≤64:=hall 2 (by omega)
  have q3:1≤c.l∧c.l≤6:=hall 3 (by omega)
  have q4:1≤c.b∧c.b≤16:=hall 4 (by omega)
  have q5:1≤c.p∧c.p≤16:=hall 5 (by omega)
  have q6:1≤c.s∧c.s≤64:=hall 6 (by omega)
  have s3:=p3.size
  have c15:=(o15.2 _ (by omega)).trans c3
  have n15:=(o15.2 _ (by omega)).trans n3
  have ok15:Old h.size h h15:=(o2.trans (o3.mono (by omega))).trans (o15.mono (by omega))
  have hs15:h.size+3≤h15.size:=by have:=o15.1;omega
  simp only [Wa9,Bool.not_true,Wc4]
  iterate 7 (refine ldR c15 rfl ?_)
  refine ldR c15 rfl ?_
  simp only [Wa3]
  refine ldR c15 rfl ?_
  simp only [Wa3]
  have p4:=Wg2 h15 Wj7 62
  rw [show h15.push (.cells #[.int .i64 0,.int .i64 0,.int .i64 0,.int .i64 0,.int .i64 0,.int .i64 0,.int .i64 0,.int .i64 0,.int .i64 0,.int .i64 0,.int .i64 0,.int .i64 0,.int .i64 0,.int .i64 0,.int .i64 0] 62)=h15.push (.cells Wj7 62) from rfl]
  generalize h15.push (.cells Wj7 62)=h16 at *
  refine YE2 (Wd6 p4.new rfl (by simp [Wi6]) λh72 w72=>?_)
  have c72:=(w72.old h.size (by omega)).trans ((p4.old _ (by omega)).trans c15)
  have n72:=(w72.old (h.size+1) (by omega)).trans ((p4.old _ (by omega)).trans n15)
  have o72:Old h.size h h72:=w72.toOld (ok15.trans (p4.toOld.mono ok15.1)) ok15.1
  have e1:IntKind.wrap .i64 (2*c.l)=2*c.l:=Wb9 (by omega) (by omega)
  have e2:IntKind.wrap .i64 (2*c.l+2)=2*c.l+2:=Wb9 (by omega) (by omega)
  have e3:IntKind.wrap .i64 (5+c.l)=5+c.l:=Wb9 (by omega) (by omega)
  have w72':=w72.new
  simp only [e1,e2,e3] at w72'
  refine ⟨λvs h'=>vs = [iv (if c.a=0 then 2 ^ c.l.toNat else 0)]∧Old h.size h h'∧h'.size=h72.size∧h'[h.size]? = some (.cells c.vals 23)∧h'[h.size+1]? = some (.cells Wj7 62) ∧
   h'[h15.size]? = some (.cells #[.int .i64 c.a,.int .i64 c.t,.int .i64 c.n,.int .i64 c.l,.int .i64 c.b,.int .i64 c.p,.int .i64 c.s,.int .i64 c.slots,.int .i64 c.width,.int .i64 c.sent,.int .i64 0,.int .i64 0,.int .i64 0,.int .i64 0,.int .i64 0] 62),?_,?_⟩
  ·refine ldR c72 rfl ?_
   simp only [Wa3]
   refine Wc3 (λha=>?_) (λha=>?_)
   ·have ha:c.a=0:=by simpa using ha
    refine ldR c72 rfl ?_
    simp only [Wa3]
    refine ⟨by omega,stR w72' rfl trivial λh78 w78=>?_⟩
    refine ⟨Wd3 ((w78.old _ (by omega)).trans c72) rfl,stR w78.new rfl trivial λh79 w79=>?_⟩
    refine ⟨Wd3 ((w79.old _ (by omega)).trans ((w78.old _ (by omega)).trans c72)) rfl,stR w79.new rfl trivial λh80 w80=>?_⟩
    have w:=(w78.trans w79).trans w80
    refine ⟨Wd3 ((w.old _ (by omega)).trans c72) rfl,?_,w.toOld o72 ok15.1,w.size,(w.old _ (by omega)).trans c72,(w.old _ (by omega)).trans n72,?_⟩
    ·rw [if_pos ha]
     congr 2
     have:c.l.toNat≤6:=by omega
     rw [Int.one_mul,show min c.l.toNat 64=c.l.toNat by omega]
     have:∀k:Nat,k≤6→IntKind.wrap .i64 ((2:Int) ^ k)=2 ^ k:=by decide
     exact this _ (by omega)
    ·rw [w.new]
     simp only [Cf.slots,Cf.width,Cf.sent,if_pos ha]
     rfl
   ·have ha:c.a≠0:=by simpa using ha
    refine ⟨?_,o72,by trivial,c72,n72,?_⟩
    ·rw [if_neg ha]
    ·rw [w72']
     simp only [Cf.slots,Cf.width,Cf.sent,if_neg ha]
  rintro v81 g82 h83 ⟨e,o83,s83,c83,n83,m83⟩
  cases e
  refine ldR c83 rfl ?_
  simp only [Wa3]
  refine ldR m83 rfl ?_
  simp only [Wa3]
  refine Wa6 (λhz=>?_) (λhz=>?_)
  ·have hn:¬ c.Right:=λr=>by have:=r.z;omega
   refine YE2 (nothing h83 Wj7 o83 n83 rfl hn _ λh102 o102 n102=>?_)
   iterate 15 (refine ldR n102 rfl ?_)
   exact k0 hn _ o102
  ·have hr:c.Right:=⟨q0,q1,q2,q3,q4,q5,q6,by omega⟩
   have hslots:2≤c.slots∧c.slots≤14:=by unfold Cf.slots;split <;> omega
   have hwidth:3≤c.width∧c.width≤11:=by unfold Cf.width;split <;> omega
   have m1:c.t*c.slots≤6*14:=Int.mul_le_mul q1.2 hslots.2 (by omega) (by omega)
   have m2:0≤c.t*c.slots:=Int.mul_nonneg (by omega) (by omega)
   have m3:c.n*c.width≤64*11:=Int.mul_le_mul q2.2 hwidth.2 (by omega) (by omega)
   have m4:0≤c.n*c.width:=Int.mul_nonneg (by omega) (by omega)
   have m5:∀k:Nat,k≤6→0≤(2:Int) ^ k∧(2:Int) ^ k≤64:=by decide
   have m6:=m5 c.l.toNat (by omega)
   refine stR m83 rfl trivial λh118 w118=>?_
   have c118:=(w118.old h.size (by omega)).trans c83
   refine ldR w118.new rfl ?_
   simp only [Wa3]
   refine ldR c118 rfl ?_
   simp only [Wa3]
   refine ldR w118.new rfl ?_
   simp only [Wa3]
   rw [Wb9 (n:=c.t*c.slots) (by omega) (by omega),Wb9 (n:=8+c.t*c.slots) (by omega) (by omega)]
   refine stR w118.new rfl trivial λh125 w125=>?_
   have c125:=(w125.old h.size (by omega)).trans c118
   refine ldR w125.new rfl ?_
   simp only [Wa3]
   refine ldR c125 rfl ?_
   simp only [Wa3]
   rw [Wb9 (n:=8+c.t*c.slots+c.n) (by omega) (by omega)]
   refine stR w125.new rfl trivial λh130 w130=>?_
   have c130:=(w130.old h.size (by omega)).trans c125
   refine ldR w130.new rfl ?_
   simp only [Wa3]
   refine ldR c130 rfl ?_
   simp only [Wa3]
   refine ldR w130.new rfl ?_
   simp only [Wa3]
   rw [Wb9 (n:=c.n*c.width) (by omega) (by omega),Wb9 (n:=8+c.t*c.slots+c.n+c.n*c.width) (by omega) (by omega)]
   refine stR w130.new rfl trivial λh137 w137=>?_
   refine ldR w137.new rfl ?_
   simp only [Wa3]
   have m7:0≤(if c.a=0 then (2:Int) ^ c.l.toNat else 0)∧(if c.a=0 then (2:Int) ^ c.l.toNat else 0)≤64:=by split <;> omega
   rw [Wb9 (n:=8+c.t*c.slots+c.n+c.n*c.width+(if c.a=0 then (2:Int) ^ c.l.toNat else 0)) (by omega) (by omega)]
   refine stR w137.new rfl trivial λh141 w141=>?_
   have w:=(((w118.trans w125).trans w130).trans w137).trans w141
   have r141:h141[h15.size]? = some (.cells c.plan 62):=by
    rw [w.new];rfl
   have n141:=(w.old (h.size+1) (by omega)).trans n83
   iterate 15 (refine ldR r141 rfl ?_)
   refine YE2 (Wd6 n141 rfl (by simp [Wi6]) λh171 w171=>?_)
   iterate 15 (refine ldR w171.new rfl ?_)
   exact k1 hr _ (w171.toOld (w.toOld o83 (by omega)) (by omega))
 ·
  have hn:¬ c.Right:=by
   intro r
   obtain ⟨i,hi,hx⟩:=hex
   have:i=0∨i=1∨i=2∨i=3∨i=4∨i=5∨i=6:=by omega
   rcases this with rfl | rfl | rfl | rfl | rfl | rfl | rfl
   ·exact hx r.a
   ·exact hx r.t
   ·exact hx r.n
   ·exact hx r.l
   ·exact hx r.b
   ·exact hx r.p
   ·exact hx r.s
  have s3:=p3.size
  have n15:=(o15.2 _ (by omega)).trans n3
  have ok15:Old h.size h h15:=(o2.trans (o3.mono (by omega))).trans (o15.mono (by omega))
  simp only [Wa9,Bool.not_false,Wd5]
  refine YE2 (nothing h15 Wj7 ok15 n15 rfl hn _ λh31 o31 n31=>?_)
  iterate 15 (refine ldR n31 rfl ?_)
  exact k0 hn _ o31
end
section
open Go.ChangeShapes Go.WideShapes Go.ChangeAt Go.RowKit
end
section
abbrev WS8:=Nat→Option Obj
def Hp:=WS8→Prop
def Nd (_:Obj):Prop:=∀_:Unit,False→False
def Sub (σ:WS8) (h:Wa1):Prop:=∀b o,σ b=some o→h[b]? = some o∧Nd o
theorem Sub.mk {σ:WS8} {h:Wa1} (s:∀b o,σ b=some o→h[b]? = some o) (d:∀b o,σ b=some o→Nd o):Sub σ h:=λb o e=>⟨s b o e,d b o e⟩
theorem Sub.at {σ:WS8} {h:Wa1} (s:Sub σ h) (b:Nat) (o:Obj) (e:σ b=some o):h[b]? = some o:=(s b o e).1
theorem Sub.nd {σ:WS8} {h:Wa1} (s:Sub σ h) (b:Nat) (o:Obj) (e:σ b=some o):Nd o:=(s b o e).2
def Sat (h:Wa1) (P:Hp):Prop:=∃σ,Sub σ h∧P σ
def uni (σ τ:WS8):WS8:=λb=>(σ b).or (τ b)
def dis (σ τ:WS8):Prop:=∀b,σ b=none∨τ b=none
instance:Mul Hp:=⟨λP Q ρ=>∃σ τ,dis σ τ∧ρ=uni σ τ∧P σ∧Q τ⟩
def emp:Hp:=λσ=>σ=λ_=>none
def ex {α:Type} (P:α→Hp):Hp:=λσ=>∃a,P a σ
def pr (p:Prop) (P:Hp):Hp:=λσ=>p∧P σ
def pt (b:Nat) (o:Obj):Hp:=λσ=>∀c,σ c=if c=b then some o else none
def lift (D:Nat→Prop) (F:Wa1→Prop):Hp:=λσ=>(∀b,D b↔σ b≠none)∧∀h,Sub σ h→F h
theorem Yy0 {σ τ:WS8} (d:dis σ τ):dis τ σ:=λb=>(d b).symm
theorem Yy1 {σ τ:WS8} (d:dis σ τ):uni σ τ=uni τ σ:=by
 funext b
 unfold uni
 rcases d b with e | e <;> rw [e] <;> simp
theorem WV7 (σ τ ρ:WS8):uni (uni σ τ) ρ=uni σ (uni τ ρ):=by
 funext b;unfold uni;cases σ b <;> simp
theorem Wp1 {σ τ:WS8} {b:Nat}:uni σ τ b=none↔σ b=none∧τ b=none:=by unfold uni;cases σ b <;> simp
theorem Wu1 (P Q:Hp):P*Q=Q*P:=by
 have key:∀(P Q:Hp) ρ,(P*Q) ρ→(Q*P) ρ:=λP Q ρ ⟨σ,τ,d,e,p,q⟩=>⟨τ,σ,Yy0 d,e.trans (Yy1 d),q,p⟩
 funext ρ
 exact propext ⟨key P Q ρ,key Q P ρ⟩
theorem Wc7 (P Q R:Hp):P*Q*R=P*(Q*R):=by
 funext ρ
 refine propext ⟨?_,?_⟩
 ·rintro ⟨_,ξ,d,rfl,⟨σ,τ,d2,rfl,p,q⟩,r⟩
  refine ⟨σ,uni τ ξ,λb=>?_,WV7 _ _ _,p,τ,ξ,λb=>?_,rfl,q,r⟩
  ·rcases d b with e | e
   ·exact .inl (Wp1.1 e).1
   ·rcases d2 b with e2 | e2
    ·exact .inl e2
    ·exact .inr (Wp1.2 ⟨e2,e⟩)
  ·rcases d b with e | e
   ·exact .inl (Wp1.1 e).2
   ·exact .inr e
 ·rintro ⟨σ,_,d,rfl,p,τ,ξ,d2,rfl,q,r⟩
  refine ⟨uni σ τ,ξ,λb=>?_,(WV7 _ _ _).symm,⟨σ,τ,λb=>?_,rfl,p,q⟩,r⟩
  ·rcases d b with e | e
   ·rcases d2 b with e2 | e2
    ·exact .inl (Wp1.2 ⟨e,e2⟩)
    ·exact .inr e2
   ·exact .inr (Wp1.1 e).2
  ·exact (d b).imp id λe=>(Wp1.1 e).1
instance:Std.Associative (α:=Hp) (· * ·):=⟨Wc7⟩
instance:Std.Commutative (α:=Hp) (· * ·):=⟨Wu1⟩
theorem Sat.ac {h:Wa1} {P Q:Hp} (H:Sat h P) (e:P=Q):Sat h Q:=e ▸ H
theorem Wb4 (P Q R:Hp):P*(Q*R)=Q*(P*R):=by rw [← Wc7,Wu1 P Q,Wc7]
theorem Yy2 (A B C R:Hp):A*(B*(C*R))=C*(A*(B*R)):=by rw [Wb4 B C,Wb4 A C]
theorem YU4 (A B C D R:Hp):A*(B*(C*(D*R)))=D*(A*(B*(C*R))):=by rw [Wb4 C D,Wb4 B D,Wb4 A D]
theorem Wr7 (P:Hp):emp*P=P:=by
 funext ρ
 refine propext ⟨?_,λp=>⟨λ_=>none,ρ,λb=>.inl rfl,by funext b;simp [uni],rfl,p⟩⟩
 rintro ⟨_,τ,d,rfl,rfl,p⟩
 have:uni (λ_=>none) τ=τ:=by funext b;simp [uni]
 rw [this];exact p
theorem YI1 {α:Type} (P:α→Hp) (R:Hp):ex P*R=ex λa=>P a*R:=by
 funext ρ
 refine propext ⟨?_,?_⟩
 ·rintro ⟨σ,τ,d,e,⟨a,p⟩,r⟩;exact ⟨a,σ,τ,d,e,p,r⟩
 ·rintro ⟨a,σ,τ,d,e,p,r⟩;exact ⟨σ,τ,d,e,⟨a,p⟩,r⟩
theorem YI2 (p:Prop) (P R:Hp):pr p P*R=pr p (P*R):=by
 funext ρ
 refine propext ⟨?_,?_⟩
 ·rintro ⟨σ,τ,d,e,⟨a,p⟩,r⟩;exact ⟨a,σ,τ,d,e,p,r⟩
 ·rintro ⟨a,σ,τ,d,e,p,r⟩;exact ⟨σ,τ,d,e,⟨a,p⟩,r⟩
theorem Sat.ex {h:Wa1} {α:Type} {P:α→Hp} {R:Hp}:Sat h (Proofs.YtooaemmlgkdfoaaGreat.ex P*R)↔∃a,Sat h (P a*R):=by
 rw [YI1]
 exact ⟨λ⟨σ,s,a,p⟩=>⟨a,σ,s,p⟩,λ⟨a,σ,s,p⟩=>⟨σ,s,a,p⟩⟩
theorem Sat.pr {h:Wa1} {p:Prop} {P R:Hp}:Sat h (Proofs.YtooaemmlgkdfoaaGreat.pr p P*R)↔p∧Sat h (P*R):=by
 rw [YI2]
 exact ⟨λ⟨σ,s,a,p⟩=>⟨a,σ,s,p⟩,λ⟨a,σ,s,p⟩=>⟨σ,s,a,p⟩⟩
theorem Sub.left {σ τ:WS8} {h:Wa1} (s:Sub (uni σ τ) h):Sub σ h:=λb o e=>s b o (by unfold uni;rw [e];rfl)
theorem Sub.right {σ τ:WS8} {h:Wa1} (d:dis σ τ) (s:Sub (uni σ τ) h):Sub τ h:=λb o e=>s b o (by
 unfold uni
 rcases d b with x | x
 ·rw [x];simpa using e
 ·rw [x] at e;cases e)
theorem Sub.uni {σ τ:WS8} {h:Wa1} (s:Sub σ h) (t:Sub τ h):Sub (Proofs.YtooaemmlgkdfoaaGreat.uni σ τ) h:=λb o e=>by
 unfold Proofs.YtooaemmlgkdfoaaGreat.uni at e
 cases e2:σ b with
 | none=>rw [e2] at e;exact t b o (by simpa using e)
 | some o2=>rw [e2] at e;exact s b o (by rw [e2];simpa using e)
theorem Sub.lt {σ:WS8} {h:Wa1} (s:Sub σ h) {b:Nat} (e:σ b≠none):b < h.size:=by
 cases e2:σ b with
 | none=>exact absurd e2 e
 | some o=>exact (Array.getElem?_eq_some_iff.1 (s.at b o e2)).1
theorem Sat.drop {h:Wa1} {P R:Hp} (H:Sat h (P*R)):Sat h R:=by
 obtain ⟨_,s,σ,τ,d,rfl,p,r⟩:=H
 exact ⟨τ,s.right d,r⟩
theorem Sat.mono {h:Wa1} {P Q R:Hp} (H:Sat h (P*R)) (f:∀σ,P σ→Q σ):Sat h (Q*R):=by
 obtain ⟨_,s,σ,τ,d,rfl,p,r⟩:=H
 exact ⟨_,s,σ,τ,d,rfl,f σ p,r⟩
theorem Sat.mono2 {h:Wa1} {P Q R:Hp} (H:Sat h (P*R)) (f:∀σ,R σ→Q σ):Sat h (P*Q):=by
 obtain ⟨_,s,σ,τ,d,rfl,p,r⟩:=H
 exact ⟨_,s,σ,τ,d,rfl,p,f τ r⟩
theorem Sat.drop2 {h:Wa1} {P Q R:Hp} (H:Sat h (P*(Q*R))):Sat h (P*R):=by
 rw [Wb4] at H;exact H.drop
theorem Sat.lt {h:Wa1} {b:Nat} {o:Obj} {R:Hp} (H:Sat h (pt b o*R)):b < h.size:=by
 obtain ⟨_,s,σ,τ,d,rfl,p,r⟩:=H
 exact s.left.lt (by rw [p b];simp)
theorem Sat.at {h:Wa1} {b:Nat} {o:Obj} {R:Hp} (H:Sat h (pt b o*R)):h[b]? = some o:=by
 obtain ⟨_,s,σ,τ,d,rfl,p,r⟩:=H
 exact s.left.at b o (by rw [p b];simp)
theorem Sat.at2 {h:Wa1} {b:Nat} {o:Obj} {P R:Hp} (H:Sat h (P*(pt b o*R))):h[b]? = some o:=Sat.at H.drop
theorem Sat.at3 {h:Wa1} {b:Nat} {o:Obj} {P Q R:Hp} (H:Sat h (P*(Q*(pt b o*R)))):h[b]? = some o:=Sat.at H.drop.drop
theorem Sat.ld {h:Wa1} {b i:Nat} {row:List Value} {t:TypeId} {R:Hp} {v:Value} {K:Value→Prop} (H:Sat h (pt b (.cells row.toArray t)*R)) (e:row[i]? = some v) (k:K v):ldH h ⟨b,i,none⟩ K:=ldR H.at e k
theorem Sat.old {h h':Wa1} {P:Hp} (H:Sat h P) (o:Old h.size h h'):Sat h' P:=by
 obtain ⟨σ,s,p⟩:=H
 exact ⟨σ,Sub.mk (λb x e=>(o.2 b (s.lt (by rw [e];simp))).trans (s.at b x e)) s.nd,p⟩
theorem Sat.push {h:Wa1} {R:Hp} (H:Sat h R) (o:Obj) (ho:Nd o:=by intro x e;cases e):Sat (h.push o) (pt h.size o*R):=by
 obtain ⟨τ,s,r⟩:=H
 refine ⟨uni (λc=>if c=h.size then some o else none) τ,?_,_,τ,λb=>?_,rfl,λc=>rfl,r⟩
 ·refine Sub.uni (λb x e=>?_) (Sub.mk (λb x e=>(Wj2 _ _ _ (s.lt (by rw [e];simp))).trans (s.at b x e)) s.nd)
  split at e
  ·rename_i hb;subst hb;cases e;exact ⟨Wm3 _ _,ho⟩
  ·cases e
 ·by_cases hb:b=h.size
  ·subst hb
   right
   apply Decidable.byContradiction
   intro hn
   exact absurd (s.lt hn) (Nat.lt_irrefl _)
  ·left;rw [if_neg hb]
theorem Sat.wr {h h':Wa1} {b:Nat} {o o':Obj} {R:Hp} (H:Sat h (pt b o*R)) (new:h'[b]? = some o') (old:∀c,c≠b→h'[c]? = h[c]?) (ho:Nd o':=by intro x e;cases e):Sat h' (pt b o' * R):=by
 obtain ⟨_,s,σ,τ,d,rfl,p,r⟩:=H
 refine ⟨uni (λc=>if c=b then some o' else none) τ,?_,_,τ,λc=>?_,rfl,λc=>rfl,r⟩
 ·refine Sub.uni (λc x e=>?_) (Sub.mk (λc x e=>(old c λhc=>?_).trans ((s.right d).at c x e)) (s.right d).nd)
  ·split at e
   ·rename_i hb;subst hb;cases e;exact ⟨new,ho⟩
   ·cases e
  ·subst hc
   rcases d c with h1 | h1
   ·rw [p c] at h1;simp at h1
   ·rw [h1] at e;cases e
 ·by_cases hc:c=b
  ·subst hc
   rcases d c with h1 | h1
   ·rw [p c] at h1;simp at h1
   ·exact .inr h1
  ·left;rw [if_neg hc]
theorem Sat.st {h:Wa1} {b i:Nat} {row:List Value} {t:TypeId} {R:Hp} {v:Value} {K:Wa1→Prop} (H:Sat h (pt b (.cells row.toArray t)*R)) (hi:Nat.ble (i+1) row.length=true) (ho:Wi6 v True)
  (k:∀h',Sat h' (pt b (.cells (row.set i v).toArray t)*R)→K h'):stH h ⟨b,i,none⟩ v K:=
 stR H.at hi ho λh' w=>k h' (H.wr w.new w.old)
theorem Sat.opn {h:Wa1} {D:Nat→Prop} {F:Wa1→Prop} {R:Hp} (H:Sat h (lift D F*R)):F h∧(∀b,D b→b < h.size) ∧
  ∀(h':Wa1) (D':Nat→Prop) (F':Wa1→Prop),Fr D h h'→(∀b,D' b→(D b∨h.size≤b)∧b < h'.size)→(∀b o,D' b→h'[b]? = some o→Nd o)→(∀h'',(∀b,D' b→h''[b]? = h'[b]?)→F' h'')→Sat h' (lift D' F' * R):=by
 obtain ⟨_,s,σ,τ,d,rfl,⟨p1,p2⟩,r⟩:=H
 refine ⟨p2 h s.left,λb hb=>s.left.lt ((p1 b).1 hb),λh' D' F' hf hD hN hF=>?_⟩
 classical
 have hsub:Sub (λb=>if D' b then h'[b]? else none) h':=λb o e=>by
  have e:(if D' b then h'[b]? else none)=some o:=e
  split at e
  ·rename_i hb;exact ⟨e,hN b o hb e⟩
  ·cases e
 refine ⟨uni (λb=>if D' b then h'[b]? else none) τ,Sub.uni hsub (Sub.mk (λb o e=>?_) (s.right d).nd),_,τ,λb=>?_,rfl,⟨λb=>?_,λh'' s''=>hF h'' λb hb=>?_⟩,r⟩
 ·have hs:=(s.right d).at b o e
  refine (hf.2 b (s.right d |>.lt (by rw [e];simp)) λhb=>?_).trans hs
  rcases d b with h1 | h1
  ·exact (p1 b).1 hb h1
  ·rw [h1] at e;cases e
 ·by_cases hb:D' b
  ·right
   rcases (hD b hb).1 with h1 | h1
   ·exact (d b).resolve_left ((p1 b).1 h1)
   ·apply Decidable.byContradiction
    intro hn
    have:=(s.right d).lt hn
    omega
  ·left;rw [if_neg hb]
 ·constructor
  ·intro hb
   show (if D' b then h'[b]? else none)≠none
   rw [if_pos hb]
   have:=(hD b hb).2
   simp [this]
  ·intro hn
   by_cases hb:D' b
   ·exact hb
   ·have hn:(if D' b then h'[b]? else none)≠none:=hn
    rw [if_neg hb] at hn;exact absurd rfl hn
 ·have hlt:=(hD b hb).2
  have e:h'[b]? = some h'[b]:=by simp [hlt]
  rw [e]
  exact s''.at b _ (by show (if D' b then h'[b]? else none)=_;rw [if_pos hb,e])
theorem Sat.see {h:Wa1} {D:Nat→Prop} {F:Wa1→Prop} {R:Hp} (H:Sat h (lift D F*R)):F h:=H.opn.1
theorem Yn3 {D:Nat→Prop} {F G:Wa1→Prop} (f:∀h,F h→G h):∀σ,lift D F σ→lift D G σ:=λσ ⟨a,b⟩=>⟨a,λh s=>f h (b h s)⟩
theorem Sat.mk_new {h h':Wa1} {D:Nat→Prop} {F:Wa1→Prop} {R:Hp} (H:Sat h R) (o:Old h.size h h') (hD:∀b,D b→h.size≤b∧b < h'.size) (hN:∀b o,D b→h'[b]? = some o→Nd o) (hF:∀h'',(∀b,D b→h''[b]? = h'[b]?)→F h''):Sat h' (lift D F*R):=by
 have H0:Sat h (lift (λ_=>False) (λ_=>True)*R):=by
  rw [← Wr7 R] at H
  exact H.mono λσ e=>⟨λb=>⟨False.elim,λhn=>hn (by rw [e])⟩,λ_ _=>trivial⟩
 exact H0.opn.2.2 h' D F (o.fr _) (λb hb=>⟨.inr (hD b hb).1,(hD b hb).2⟩) hN hF
def We4 (elem:TypeId) (sz:Nat) (a:Option Addr) (l c:Nat) (xs:List Value):Hp:=lift (blk a) λh=>Own h elem sz a l c xs
theorem Own.congr {h h':Wa1} {elem:TypeId} {sz:Nat} {a:Option Addr} {l c:Nat} {xs:List Value} (H:Own h elem sz a l c xs) (e:∀b,blk a b→h'[b]? = h[b]?):Own h' elem sz a l c xs:=H.keep λad ea=>e _ ⟨ad,ea,rfl⟩
theorem Own.nd {h:Wa1} {elem:TypeId} {sz:Nat} {a:Option Addr} {l c:Nat} {xs:List Value} (H:Own h elem sz a l c xs):∀b o,blk a b→h[b]? = some o→Nd o:=by
 rintro b o ⟨ad,e,rfl⟩ hb x hx
 rcases H.2.2 with ⟨e2,_⟩ | ⟨b',row,e2,hb',_⟩
 ·rw [e] at e2;cases e2
 ·rw [e] at e2;cases e2
  rw [hb'] at hb
  cases hb
  cases hx
theorem Sat.own {h:Wa1} {elem:TypeId} {sz:Nat} {a:Option Addr} {l c:Nat} {xs:List Value} {R:Hp} (H:Sat h (We4 elem sz a l c xs*R)):Own h elem sz a l c xs:=H.see
theorem Sat.own_new {h:Wa1} {R:Hp} (H:Sat h R) (elem:TypeId) (sz:Nat):Sat h (We4 elem sz none 0 0 []*R):=
 H.mk_new (Old.refl _ _) (λb hb=>by obtain ⟨_,e,_⟩:=hb;cases e) (λb o hb=>by obtain ⟨_,e,_⟩:=hb;cases e) λh'' _=>Own.nil _ _ _
theorem Sat.app {P:Program} {t elem:TypeId} {z:Value} {h:Wa1} {a a2:Option Addr} {l c n n2:Nat} {xs ys:List Value} {K:Value→Wa1→Prop} {R:Hp}
  (hu:und P t=.slice elem) (hth:Wf2 P elem=true) (hz:zer P elem=some z) (hzs:z.cells.size=siz P elem)
  (H:Sat h (We4 elem (siz P elem) a l c xs*R)) (hs:Sees h a2 ys) (hn:ys.length=n*siz P elem) (hone:∀y ∈ ys,Wi6 y True) (hb0:0 < byt P elem) (hb:(2*(l+n)+512)*byt P elem≤2 ^ 48)
  (k:∀a' c' h',Sat h' (We4 elem (siz P elem) a' (l+n) c' (xs ++ ys)*R)→K (.slice a' (l+n) c') h') :
  Wq0 P #[t,t] t #[.slice a l c,.slice a2 n n2] h K:=by
 obtain ⟨ho,hlt,re⟩:=H.opn
 refine W90 hu hth hz hzs ho hs hn hone hb0 hb λa' c' h' o' hsz old ha=>?_
 refine k a' c' h' (re h' (blk a') _ ⟨hsz,λb hb hn=>old b hb λad ea e=>hn ⟨ad,ea,e⟩⟩ (λb hb=>?_) o'.nd λh'' e=>o'.congr e)
 refine ⟨?_,o'.lt2 hb⟩
 rcases ha with ha | ha
 ·rw [ha] at hb;exact .inl hb
 ·obtain ⟨ad,e,eb⟩:=hb
  rw [ha] at e;cases e
  exact .inr (by rw [← eb];exact Nat.le_refl _)
theorem Sat.app2 {P:Program} {t elem:TypeId} {z:Value} {h:Wa1} {a a2:Option Addr} {l c n n2:Nat} {xs ys:List Value} {K:Value→Wa1→Prop} {R:Hp}
  (hu:und P t=.slice elem) (hth:Wf2 P elem=true) (hz:zer P elem=some z) (hzs:z.cells.size=siz P elem)
  (H:Sat h (We4 elem (siz P elem) a l c xs*R)) (hs:Sees h a2 ys) (hn:ys.length=n*siz P elem) (hone:∀y ∈ ys,Wi6 y True) (hb0:0 < byt P elem) (hb:(2*(l+n)+512)*byt P elem≤2 ^ 48)
  (k1:∀c' h',Sat h' (We4 elem (siz P elem) a (l+n) c' (xs ++ ys)*R)→K (.slice a (l+n) c') h')
  (k2:∀b c' h',¬ blk a b→Sat h' (We4 elem (siz P elem) (some ⟨b,0,none⟩) (l+n) c' (xs ++ ys)*(We4 elem (siz P elem) a l c xs*R))→K (.slice (some ⟨b,0,none⟩) (l+n) c') h') :
  Wq0 P #[t,t] t #[.slice a l c,.slice a2 n n2] h K:=by
 obtain ⟨ho,hlt,re⟩:=H.opn
 refine Wy7 hu hth hz hzs ho hs hn hone hb0 hb λa' c' h' o' hsz old ha=>?_
 rcases ha with ha | ⟨ha,hold⟩
 ·subst ha
  exact k1 c' h' (re h' (blk a') _ ⟨hsz,λb hb hn=>old b hb λad ea e=>hn ⟨ad,ea,e⟩⟩ (λb hb=>⟨.inl hb,o'.lt2 hb⟩) o'.nd λh'' e=>o'.congr e)
 ·subst ha
  refine k2 h.size c' h' (λhb=>absurd (hlt _ hb) (Nat.lt_irrefl _)) (H.mk_new hold (λb hb=>?_) o'.nd λh'' e=>o'.congr e)
  refine ⟨?_,o'.lt2 hb⟩
  obtain ⟨ad,e,eb⟩:=hb
  cases e
  rw [← eb];exact Nat.le_refl _
theorem Sat.collect {h h':Wa1} {N:Nat} {o o':Obj} {R:Hp} {elem:TypeId} {sz:Nat} {a:Option Addr} {l c:Nat} {xs:List Value} (H:Sat h (pt N o*R)) (hs:h.size≤h'.size) (old:∀b,b < h.size→b≠N→h'[b]? = h[b]?) (new:h'[N]? = some o') (ow:Own h' elem sz a l c xs) (hb:∀b,blk a b→h.size≤b)
  (ho:Nd o':=by intro x e;cases e):Sat h' (We4 elem sz a l c xs*(pt N o' * R)):=by
 have hlt:=H.lt
 have H1:Sat (h.setIfInBounds N o') (pt N o' * R):=H.wr (Wl5 hlt) (λc hc=>Wl6 hc) ho
 have o1:Old (h.setIfInBounds N o').size (h.setIfInBounds N o') h':=⟨by simpa using hs,λb hb=>by
  by_cases e:b=N
  ·subst e;rw [new,Wl5 hlt]
  ·rw [Wl6 e];exact old b (by simpa using hb) e⟩
 exact H1.mk_new o1 (λb hb'=>⟨by simpa using hb b hb',ow.lt2 hb'⟩) ow.nd λh'' e=>ow.congr e
theorem Yy3 {P:Program} {t elem:TypeId} {z:Value} {h:Wa1} {a a2:Option Addr} {l c n n2:Nat} {xs ys:List Value} {K:Value→Wa1→Prop}
  (hu:und P t=.slice elem) (hth:Wf2 P elem=true) (hz:zer P elem=some z) (hzs:z.cells.size=siz P elem)
  (ho:Sees h a xs) (hl:xs.length=l*siz P elem) (hlc:l≤c) (hs:Sees h a2 ys) (hn:ys.length=n*siz P elem) (hone:∀y ∈ ys,Wi6 y True) (hb0:0 < byt P elem) (hb:(2*(l+n)+512)*byt P elem≤2 ^ 48)
  (k1:l+n≤c→∀ad,a=some ad→stN h (ad.add (l*siz P elem)) 0 ys λh'=>K (.slice a (l+n) c) h')
  (k0:l+n≤c→a=none→K (.slice none (l+n) c) h)
  (k2:∀c' h',Own h' elem (siz P elem) (some ⟨h.size,0,none⟩) (l+n) c' (xs ++ ys)→Old h.size h h'→K (.slice (some ⟨h.size,0,none⟩) (l+n) c') h') :
  Wq0 P #[t,t] t #[.slice a l c,.slice a2 n n2] h K:=by
 have hu':=Wc8 hu (by simp)
 obtain ⟨info,hinfo⟩:=Wq2 hth
 have hbyt:info.bytes=byt P elem:=by unfold byt;rw [hinfo]
 have first:∀(F:Array Value→Wa1→Prop),F ys.toArray h→hp P (Builtin.firstCells (siz P elem) n (.slice a2 n n2)) F h:=by
  intro F k
  cases a2 with
  | none=>
   have:ys = []:=by
    cases ys with
    | nil=>rfl
    | cons y ys=>obtain ⟨ad,e,_⟩:=hs 0 y rfl;cases e
   subst this;exact k
  | some ad=>
   show hp P (loadCells ad (n*siz P elem)) F h
   refine We9 ad _ 0 [] F ?_
   rw [← hn]
   refine Wv5 ys 0 [] _ (λj v hj=>?_) (by simpa using k)
   obtain ⟨ad',e,hc⟩:=hs j v hj
   cases e;rwa [Nat.zero_add]
 unfold Wq0 Builtin.append_
 simp only [List.getElem?_toArray,List.getElem?_cons_zero,List.getElem?_cons_succ,Wa8,Wc0,Wb1 hu',We2 hth,Bool.false_eq_true,if_false]
 show hp P (Builtin.lenOf _) _ h
 simp only [Builtin.lenOf,Wc0]
 rw [WB8]
 split
 ·rename_i hcap
  simp only [Wa8]
  show hp P (if (!false)=true then _ else _) _ h
  refine first _ ?_
  cases a with
  | none=>
   have key:=k0 hcap rfl
   try simp only [Wa8,Wc0]
   exact key
  | some ad=>
   simp only [Wa8]
   refine Wk4 _ _ h 0 _ ?_
   try simp only [Wc0]
   exact k1 hcap ad rfl
 ·rename_i hcap
  simp only [Wa8,Wc0]
  have hbound:¬ Builtin.nextslicecap (l+n) c*info.bytes > 2 ^ 48:=by
   rw [hbyt]
   have:=Nat.le_trans (Nat.mul_le_mul_right (byt P elem) (WB0 (l+n) c (by omega))) hb
   omega
  simp only [Wa8,Wc0,Wg9 hinfo,WB8]
  rw [if_neg (by rw [hbyt];intro x;rcases x.2 with y | y <;> first | exact y | omega),if_neg hbound]
  show ∀tp,_
  intro tp
  rw [if_neg (by simp [Question.forced])]
  obtain ⟨cap,hcp⟩ : ∃cap,cap=(Question.appendCap (l+n) c elem).cut tp:=⟨_,rfl⟩
  have hcap2:l+n≤cap:=by rw [hcp];simp [Question.cut]
  rw [← hcp]
  rw [show (Sem.pure cap:Sem Nat)=pure cap from rfl]
  simp only [Wa8,Wc0,Wg9 hinfo,Wv1]
  have old:∀(F:Array Value→Wa1→Prop),F xs.toArray h→hp P (Builtin.firstCells (siz P elem) l (.slice a l c)) F h:=by
   intro F k
   cases a with
   | none=>
    have:xs = []:=by
     cases xs with
     | nil=>rfl
     | cons y ys=>obtain ⟨ad,e,_⟩:=ho 0 y rfl;cases e
    subst this;exact k
   | some ad=>
    show hp P (loadCells ad (l*siz P elem)) F h
    refine We9 ad _ 0 [] F ?_
    rw [← hl]
    refine Wv5 xs 0 [] _ (λj v hj=>?_) (by simpa using k)
    obtain ⟨ad',e,hc⟩:=ho j v hj
    cases e;rwa [Nat.zero_add]
  refine old _ ?_
  rw [Wa8,if_pos (show (!false)=true from rfl)]
  refine first _ ?_
  simp only [Wa8]
  simp only [Wh7 hz]
  show K (.slice (some ⟨h.size,0,none⟩) (l+n) cap) (h.push _)
  have hzc:(Builtin.zeroCells z.cells (cap - (l+n))).size=(cap - (l+n))*siz P elem:=by rw [Wp7,hzs]
  refine k2 cap _ ⟨by simp [hl,hn,Nat.add_mul],hcap2,.inr ⟨h.size,_,rfl,Wm3 _ _,?_,?_⟩⟩ ⟨by simp,λb hb'=>Wj2 _ _ _ hb'⟩
  ·simp only [Array.size_append,hzc,List.size_toArray,hl,hn,← Nat.add_mul]
   congr 1;omega
  ·simp only [Array.toList_append,List.toList_toArray]
   rw [List.take_left' (by simp [hl,hn,Nat.add_mul])]
def OwnF (h:Wa1) (a:Option Addr) (l c:Nat) (xs:List Int):Prop:=
 xs.length=l∧l≤c∧((a=none∧c=0)∨∃b o row,a=some ⟨b,o,none⟩∧h[b]? = some (.cells row 3)∧o+c≤row.size∧(row.toList.drop o).take l=xs.map iv)
theorem OwnF.of {h:Wa1} {a:Option Addr} {l c:Nat} {xs:List Int} (H:OwnI h a l c xs):OwnF h a l c xs:=by
 obtain ⟨h1,h2,h3⟩:=H
 refine ⟨by simpa using h1,h2,h3.imp id ?_⟩
 rintro ⟨b,row,e,hb,hs,ht⟩
 exact ⟨b,0,row,e,hb,by omega,by simpa using ht⟩
theorem OwnF.congr {h h':Wa1} {a:Option Addr} {l c:Nat} {xs:List Int} (H:OwnF h a l c xs) (e:∀b,blk a b→h'[b]? = h[b]?):OwnF h' a l c xs:=by
 obtain ⟨h1,h2,h3⟩:=H
 refine ⟨h1,h2,h3.imp id ?_⟩
 rintro ⟨b,o,row,ea,hb,r⟩
 exact ⟨b,o,row,ea,(e b ⟨_,ea,rfl⟩).trans hb,r⟩
theorem OwnF.lt2 {h:Wa1} {a:Option Addr} {l c:Nat} {xs:List Int} (H:OwnF h a l c xs) {b:Nat} (hb:blk a b):b < h.size:=by
 obtain ⟨ad,e,rfl⟩:=hb
 rcases H.2.2 with ⟨e2,_⟩ | ⟨b',o,row,e2,hb',_⟩
 ·rw [e] at e2;cases e2
 ·rw [e] at e2;cases e2;exact (Array.getElem?_eq_some_iff.1 hb').1
theorem OwnF.nd {h:Wa1} {a:Option Addr} {l c:Nat} {xs:List Int} (H:OwnF h a l c xs):∀b o,blk a b→h[b]? = some o→Nd o:=by
 rintro b o ⟨ad,e,rfl⟩ hb x hx
 rcases H.2.2 with ⟨e2,_⟩ | ⟨b',o',row,e2,hb',_⟩
 ·rw [e] at e2;cases e2
 ·rw [e] at e2;cases e2
  rw [hb'] at hb
  cases hb
  cases hx
theorem OwnF.ri {h:Wa1} {a:Option Addr} {l c:Nat} {xs:List Int} (H:OwnF h a l c xs):RI h a l c xs:=by
 obtain ⟨h1,h2,h3⟩:=H
 refine ⟨λi v hi=>?_,h1,h2⟩
 have hlt:i < xs.length:=by have:=(List.getElem?_eq_some_iff.1 hi).1;simpa using this
 rcases h3 with ⟨_,hc⟩ | ⟨b,o,row,e,hb,hs,ht⟩
 ·omega
 ·refine ⟨_,e,?_⟩
  rw [Wc2,Wb8 hb,← Array.getElem?_toList]
  rw [← ht,List.getElem?_take] at hi
  split at hi
  ·rw [List.getElem?_drop] at hi;exact hi
  ·cases hi
theorem OwnF.tail {h:Wa1} {a:Option Addr} {l c:Nat} {x:Int} {xs:List Int} (H:OwnF h a l c (x :: xs)):OwnF h (Yj5 a 1 c 1) (l - 1) (c - 1) xs∧∀b,blk (Yj5 a 1 c 1) b→blk a b:=by
 obtain ⟨h1,h2,h3⟩:=H
 simp only [List.length_cons] at h1
 rcases h3 with ⟨_,hc⟩ | ⟨b,o,row,e,hb,hs,ht⟩
 ·omega
 ·subst e
  unfold Yj5
  split
  ·rename_i hc
   have e0:l - 1=0:=by have:=h2;omega
   have ex:xs = []:=List.length_eq_zero_iff.1 (by omega)
   refine ⟨⟨by omega,by omega,.inr ⟨b,o,row,rfl,hb,by omega,?_⟩⟩,λb hb=>hb⟩
   rw [e0,ex];rfl
  ·refine ⟨⟨by omega,by omega,.inr ⟨b,o+1,row,by rw [Option.map_some,Wc2],hb,by omega,?_⟩⟩,?_⟩
   ·have:l=(l - 1)+1:=by omega
    rw [this] at ht
    have e2:(row.toList.drop o).drop 1=row.toList.drop (o+1):=by rw [List.drop_drop]
    have e3:=congrArg (List.drop 1) ht
    rw [List.drop_take,e2] at e3
    simpa using e3
   ·rintro b' ⟨ad,e,rfl⟩
    rw [Option.map_some,Wc2] at e
    cases e
    exact ⟨_,rfl,rfl⟩
def WG1 (a:Option Addr) (l c:Nat) (xs:List Int):Hp:=lift (blk a) λh=>OwnF h a l c xs
theorem Sat.ownf {h:Wa1} {a:Option Addr} {l c:Nat} {xs:List Int} {R:Hp} (H:Sat h (WG1 a l c xs*R)):OwnF h a l c xs:=H.see
theorem Sat.toF {h:Wa1} {a:Option Addr} {l c:Nat} {xs:List Int} {R:Hp} (H:Sat h (We4 3 1 a l c (xs.map iv)*R)):Sat h (WG1 a l c xs*R):=H.mono (Yn3 λ_ h=>OwnF.of h)
def NdC (o:Obj):Prop:=∀x,o≠.deferred x
theorem NdC.cells {row:Array Value} {t:TypeId}:NdC (.cells row t):=λx e=>by cases e
def NdA (P:Hp):Prop:=∀σ h,Sub σ h→P σ→∀b o,σ b=some o→NdC o
theorem NdA.star {P Q:Hp} (hP:NdA P) (hQ:NdA Q):NdA (P*Q):=by
 rintro σ h s ⟨σ1,σ2,d,rfl,p,q⟩ b o e
 have e':(σ1 b).or (σ2 b)=some o:=e
 cases h1:σ1 b with
 | some x=>rw [h1] at e';cases e';exact hP _ _ s.left p b _ h1
 | none=>rw [h1] at e';exact hQ _ _ (s.right d) q b _ e'
theorem NdA.ex {α:Type} {P:α→Hp} (h:∀a,NdA (P a)):NdA (ex P):=by
 rintro σ hh s ⟨a,p⟩
 exact h a σ hh s p
theorem NdA.pr {p:Prop} {P:Hp} (h:NdA P):NdA (pr p P):=λσ hh s q=>h σ hh s q.2
theorem NdA.pt {b:Nat} {row:Array Value} {t:TypeId}:NdA (pt b (.cells row t)):=by
 intro σ h s p c o e
 have p:=p c
 rw [e] at p
 split at p
 ·cases p;exact NdC.cells
 ·cases p
theorem NdA.lift {D:Nat→Prop} {F:Wa1→Prop} (hF:∀h,F h→∀b o,D b→h[b]? = some o→NdC o):NdA (lift D F):=by
 rintro σ h s ⟨p,q⟩ b o e
 exact hF h (q h s) b o ((p b).2 (by rw [e];simp)) (s.at b o e)
theorem NdA.own {elem:TypeId} {sz:Nat} {a:Option Addr} {l c:Nat} {xs:List Value}:NdA (We4 elem sz a l c xs):=by
 refine NdA.lift ?_
 rintro h H b o ⟨ad,e,rfl⟩ hb
 rcases H.2.2 with ⟨e2,_⟩ | ⟨b',row,e2,hb',_⟩
 ·rw [e] at e2;cases e2
 ·rw [e] at e2;cases e2
  rw [hb'] at hb
  cases hb
  exact NdC.cells
theorem NdA.ownf {a:Option Addr} {l c:Nat} {xs:List Int}:NdA (WG1 a l c xs):=by
 refine NdA.lift ?_
 rintro h H b o ⟨ad,e,rfl⟩ hb
 rcases H.2.2 with ⟨e2,_⟩ | ⟨b',o',row,e2,hb',_⟩
 ·rw [e] at e2;cases e2
 ·rw [e] at e2;cases e2
  rw [hb'] at hb
  cases hb
  exact NdC.cells
def Bnd (N:Nat) (P:Hp):Prop:=∀σ,P σ→∀b,σ b≠none→b < N
theorem Sat.freeze {h:Wa1} {P R:Hp} (H:Sat h (P*R)):∃R':Hp,(∀σ,R' σ→R σ)∧Bnd h.size R'∧Sat h (P*R'):=by
 obtain ⟨_,s,σ,τ,d,rfl,p,q⟩:=H
 refine ⟨λρ=>ρ=τ,λρ e=>by rw [e];exact q,λρ e b hb=>?_,⟨_,s,σ,τ,d,rfl,p,rfl⟩⟩
 rw [e] at hb
 exact (s.right d).lt hb
theorem Sat.sameD {N:Nat} {h h':Wa1} {P R:Hp} (H:Sat h (P*R)) (hP:NdA P) (hR:Bnd N R) (o:SameD N h h'):Sat h' (P*R):=by
 obtain ⟨_,s,σ,τ,d,rfl,p,q⟩:=H
 refine ⟨_,Sub.mk (λb x e=>(o.2 b ?_).trans (s.at b x e)) s.nd,σ,τ,d,rfl,p,q⟩
 cases h1:σ b with
 | some y=>
  refine .inr λz e2=>?_
  have h2:=s.left.at b y h1
  rw [e2] at h2
  cases h2
  exact hP _ _ s.left p b _ h1 z rfl
 | none=>
  refine .inl (hR _ q b λh2=>?_)
  have e':(σ b).or (τ b)=some x:=e
  rw [h1,h2] at e'
  cases e'
def Yy4 (h0:Wa1):Hp:=λσ=>∀b,σ b=h0[b]?
theorem Sat.full (h:Wa1):Sat h (Yy4 h):=⟨λb=>h[b]?,λb o e=>⟨e,λ_=>False.elim⟩,λ_=>rfl⟩
theorem Sat.fullOld {h h0:Wa1} {R:Hp} (H:Sat h (Yy4 h0*R)):Old h0.size h0 h:=by
 obtain ⟨_,s,σ,τ,d,rfl,p,q⟩:=H
 have hb:∀b,b < h0.size→h[b]? = h0[b]?:=by
  intro b hlt
  have e:σ b=some h0[b]:=by rw [p b];exact Array.getElem?_eq_getElem hlt
  rw [s.left.at b _ e,Array.getElem?_eq_getElem hlt]
 refine ⟨?_,hb⟩
 cases hn:h0.size with
 | zero=>omega
 | succ n=>
  have h1:=hb n (by omega)
  rw [Array.getElem?_eq_getElem (by omega:n < h0.size)] at h1
  have:=(Array.getElem?_eq_some_iff.1 h1).1
  omega
end
section
set_option maxRecDepth 100000
def F46 (K:Value→Wa1→Prop) (h:Wa1) (xa:Option Addr) (xb xc:Nat):Prop:=
 (Wq0 Tryz.prog #[91,91] 91 #[.slice (some ⟨h.size,0,none⟩) 0 0,.slice xa xb xc] (Array.push h (.cells #[] 5)) λa b=>Wb2 a λa c d=>K (.pointer (some ⟨b.size,0,none⟩)) (Array.push b (.cells #[.slice a c d,.int .i64 0] 166)))
theorem call46 {K:Value→Wa1→Prop} {h:Wa1} {xa:Option Addr} {xb xc:Nat} (H:F46 K h xa xb xc):Wa5 Tryz.prog 46 #[(.slice xa xb xc)] h K:=
 Wa4 Tryz.func46 (by kernel_rfl) (Eq.mp (by kernel_rfl) H)
def F149 (K:Value→Wa1→Prop) (h:Wa1) (xa:Option Addr) (xb xc:Nat):Prop:=
 (ifB (Option.isNone xa) (K (.slice none 0 0) h) (Wq0 Tryz.prog #[63,63] 63 #[.slice (some ⟨h.size,0,none⟩) 0 0,.slice xa xb xc] (Array.push h (.cells #[] 70)) λa b=>Wb2 a λa c d=>K (.slice a c d) b))
theorem call149 {K:Value→Wa1→Prop} {h:Wa1} {xa:Option Addr} {xb xc:Nat} (H:F149 K h xa xb xc):Wa5 Tryz.prog 149 #[(.slice xa xb xc)] h K:=
 Wa4 Tryz.func149 (by kernel_rfl) (Eq.mp (by kernel_rfl) H)
def F36 (K:Value→Wa1→Prop) (h:Wa1) (xa:Int):Prop:=
 (((0:Int)≤1)∧(((65536:Int)≠0)∧(K (.int .i64 (IntKind.wrap .i64 (Int.tmod (Int.fdiv xa 2) 65536))) h)))
theorem call36 {K:Value→Wa1→Prop} {h:Wa1} {xa:Int} (H:F36 K h xa):Wa5 Tryz.prog 36 #[(.int .u64 xa)] h K:=
 Wa4 Tryz.func36 (by kernel_rfl) (Eq.mp (by kernel_rfl) H)
def F156 (K:Value→Wa1→Prop) (h:Wa1) (xa:Int) (xb:Bool) (xc:Int):Prop:=
 (exI λI0=>(ifB (decide (xa < 0)) (I0 [.bool true,.bool true] h) (cf 242 #[.int .u64 65536,.slice (some ⟨h.size,0,none⟩) 1 1] (Array.push h (.cells #[.int .u64 (IntKind.wrap .u64 xa)] 70)) λa b=>asBool a λa=>ifB (!a) (I0 [.bool (!a),.bool true] b) (cf 242 #[.int .u64 140737488355328,.slice (some ⟨b.size,0,none⟩) 1 1] (Array.push b (.cells #[.int .u64 xc] 70)) λb c=>asBool b λb=>I0 [.bool (!a),.bool (!b)] c)))∧(∀(a b:Value) (c:Env) (c:Wa1),(I0 [a,b] c)→(asBool b λa=>ifB a (K (.tuple #[.int .u64 0,.int .i64 2]) c) (cf 243 #[.int .u64 (IntKind.wrap .u64 xa),.bool xb,.int .u64 xc] c λa b=>asInt .u64 a λa=>K (.tuple #[.int .u64 a,.int .i64 0]) b))))
theorem call156 {K:Value→Wa1→Prop} {h:Wa1} {xa:Int} {xb:Bool} {xc:Int} (H:F156 K h xa xb xc):Wa5 Tryz.prog 156 #[(.int .i64 xa),(.bool xb),(.int .u64 xc)] h K:=
 Wa4 Tryz.func156 (by kernel_rfl) (Eq.mp (by kernel_rfl) H)
def F257 (K:Value→Wa1→Prop) (h:Wa1) (xa:Option Addr):Prop:=
 (ifB (Option.isNone xa) (K (.int .i64 0) h) (nP xa λa=>lS h a λa a b=>K (.int .i64 (a:Int)) h))
theorem call257 {K:Value→Wa1→Prop} {h:Wa1} {xa:Option Addr} (H:F257 K h xa):Wa5 Tryz.prog 257 #[(.pointer xa)] h K:=
 Wa4 Tryz.func257 (by kernel_rfl) (Eq.mp (by kernel_rfl) H)
def F273 (K:Value→Wa1→Prop) (h:Wa1) (xa xb:Int) (xc:Bool):Prop:=
 (((65536:Int)≠0)∧(cf 337 #[.int .u64 xa] h λa b=>asInt .u64 a λa=>((140737488355328:Int)≠0)∧(cf 243 #[.int .u64 (Int.tmod (IntKind.wrap .u64 xb) 65536),.bool xc,.int .u64 (Int.tmod (IntKind.wrap .u64 (a+1)) 140737488355328)] b λa b=>asInt .u64 a λa=>K (.int .u64 a) b)))
theorem call273 {K:Value→Wa1→Prop} {h:Wa1} {xa xb:Int} {xc:Bool} (H:F273 K h xa xb xc):Wa5 Tryz.prog 273 #[(.int .u64 xa),(.int .i64 xb),(.bool xc)] h K:=
 Wa4 Tryz.func273 (by kernel_rfl) (Eq.mp (by kernel_rfl) H)
def F259 (K:Value→Wa1→Prop) (h:Wa1) (xa xb:Int):Prop:=
 (cf 262 #[.int .i64 xa] h λa b=>asInt .i64 a λa=>ifB (a == 0) (K (.int .i64 0) b) (Wi8 (λc d=>WJ6 c d) Tryz.prog 3 [.int .i64 xb,.int .i64 0] λc=>((a:Int)≠0)∧(K (.int .i64 (IntKind.wrap .i64 (a+(Int.tmod c a)))) b)))
theorem call259 {K:Value→Wa1→Prop} {h:Wa1} {xa xb:Int} (H:F259 K h xa xb):Wa5 Tryz.prog 259 #[(.int .i64 xa),(.int .i64 xb)] h K:=
 Wa4 Tryz.func259 (by kernel_rfl) (Eq.mp (by kernel_rfl) H)
def F261 (K:Value→Wa1→Prop) (h:Wa1) (xa:Option Addr) (xb:Int):Prop:=
 (ifB (decide (xb < 1)) (K (.int .i64 0) h) (cf 332 #[.pointer xa] h λa b=>asInt .i64 a λa=>((xb:Int)≠0)∧(K (.int .i64 (Int.tmod a xb)) b)))
theorem call261 {K:Value→Wa1→Prop} {h:Wa1} {xa:Option Addr} {xb:Int} (H:F261 K h xa xb):Wa5 Tryz.prog 261 #[(.pointer xa),(.int .i64 xb)] h K:=
 Wa4 Tryz.func261 (by kernel_rfl) (Eq.mp (by kernel_rfl) H)
def F262 (K:Value→Wa1→Prop) (h:Wa1) (xa:Int):Prop:=
 (exI λI0=>(ifB (decide (xa < 1)) (I0 [.bool true] h) (I0 [.bool (decide (xa > 20))] h))∧(∀(a:Value) (b:Env) (b:Wa1),(I0 [a] b)→(asBool a λa=>ifB a (K (.int .i64 0) b) (((0:Int)≤(IntKind.wrap .i64 (xa - 1)))∧(K (.int .i64 (IntKind.wrap .i64 (1*(2 ^ (min (IntKind.wrap .i64 (xa - 1)).toNat 64))))) b)))))
theorem call262 {K:Value→Wa1→Prop} {h:Wa1} {xa:Int} (H:F262 K h xa):Wa5 Tryz.prog 262 #[(.int .i64 xa)] h K:=
 Wa4 Tryz.func262 (by kernel_rfl) (Eq.mp (by kernel_rfl) H)
def F264 (K:Value→Wa1→Prop) (h:Wa1) (xa:Int):Prop:=
 (Wi8 (λa b=>WJ6 a b) Tryz.prog 3 [.int .i64 xa,.int .i64 1] λa=>stH (Array.push h (.cells #[.int .i64 0,.int .i64 0] 338)) ⟨h.size,0,none⟩ (.int .i64 0) λb=>stH b ⟨h.size,1,none⟩ (.int .i64 (IntKind.wrap .i64 (a - 1))) λa=>dl2 a h.size λb c=>K (.agg #[b,c]) a)
theorem call264 {K:Value→Wa1→Prop} {h:Wa1} {xa:Int} (H:F264 K h xa):Wa5 Tryz.prog 264 #[(.int .i64 xa)] h K:=
 Wa4 Tryz.func264 (by kernel_rfl) (Eq.mp (by kernel_rfl) H)
abbrev g267 (K:Value→Wa1→Prop) (h H1:Wa1):Prop:=
 (lI .i64 H1 ⟨h.size,0,none⟩ λa=>lI .i64 H1 ⟨h.size,1,none⟩ λb=>K (.bool (decide (a ≥ b))) H1)
def F267 (K:Value→Wa1→Prop) (h:Wa1) (xa xb:Int):Prop:=
 (g267 K h (Array.push h (.cells #[.int .i64 xa,.int .i64 xb] 338)))
theorem call267 {K:Value→Wa1→Prop} {h:Wa1} {xa xb:Int} (H:F267 K h xa xb):Wa5 Tryz.prog 267 #[(.agg #[(.int .i64 xa),(.int .i64 xb)])] h K:=
 Wa4 Tryz.func267 (by kernel_rfl) (Eq.mp (by kernel_rfl) H)
abbrev g269 (K:Value→Wa1→Prop) (h H1:Wa1):Prop:=
 (lI .i64 H1 ⟨h.size,0,none⟩ λa=>ldH H1 ⟨h.size,1,none⟩ λb=>asInt .i64 b λc=>cf 335 #[.int .i64 a] H1 λa d=>asInt .i64 a λa=>ce d h.size 1 b (cf 335 #[.int .i64 c] d λb c=>asInt .i64 b λb=>((2:Int)≠0)∧(K (.int .i64 (IntKind.wrap .i64 (Int.tdiv (IntKind.wrap .i64 (a+b)) 2))) c)))
def F269 (K:Value→Wa1→Prop) (h:Wa1) (xa xb:Int):Prop:=
 (g269 K h (Array.push h (.cells #[.int .i64 xa,.int .i64 xb] 338)))
theorem call269 {K:Value→Wa1→Prop} {h:Wa1} {xa xb:Int} (H:F269 K h xa xb):Wa5 Tryz.prog 269 #[(.agg #[(.int .i64 xa),(.int .i64 xb)])] h K:=
 Wa4 Tryz.func269 (by kernel_rfl) (Eq.mp (by kernel_rfl) H)
abbrev g270 (K:Value→Wa1→Prop) (h H1 H2:Wa1) (xa:Bool):Prop:=
 (dl2 H2 h.size λa b=>cf 267 #[.agg #[a,b]] H2 λa b=>asBool a λa=>ifB a (dl2 b h.size λa c=>dw2 b H1.size a c λa=>dl2 a H1.size λc d=>K (.agg #[c,d]) a) (ifB xa (ldH b ⟨h.size,0,none⟩ λa=>asInt .i64 a λc=>dl2 b h.size λd e=>cf 269 #[.agg #[d,e]] b λd e=>asInt .i64 d λd=>ce e h.size 0 a (dw2 e H1.size (.int .i64 c) (.int .i64 d) λa=>dl2 a H1.size λc d=>K (.agg #[c,d]) a)) (dl2 b h.size λa c=>ldH b ⟨h.size,1,none⟩ λd=>asInt .i64 d λe=>cf 269 #[.agg #[a,c]] b λa b=>asInt .i64 a λa=>ce b h.size 1 d (stH b ⟨H1.size,0,none⟩ (.int .i64 (IntKind.wrap .i64 (a+1))) λa=>stH a ⟨H1.size,1,none⟩ (.int .i64 e) λa=>dl2 a H1.size λb c=>K (.agg #[b,c]) a))))
def F270 (K:Value→Wa1→Prop) (h:Wa1) (xa xb:Int) (xc:Bool):Prop:=
 (g270 K h (Array.push h (.cells #[.int .i64 xa,.int .i64 xb] 338)) (Array.push (Array.push h (.cells #[.int .i64 xa,.int .i64 xb] 338)) (.cells #[.int .i64 0,.int .i64 0] 338)) xc)
theorem call270 {K:Value→Wa1→Prop} {h:Wa1} {xa xb:Int} {xc:Bool} (H:F270 K h xa xb xc):Wa5 Tryz.prog 270 #[(.agg #[(.int .i64 xa),(.int .i64 xb)]),(.bool xc)] h K:=
 Wa4 Tryz.func270 (by kernel_rfl) (Eq.mp (by kernel_rfl) H)
def F32 (K:Value→Wa1→Prop) (h:Wa1) (xa:Int):Prop:=
 (K (.bool ((IntKind.wrap .u64 ((((BitVec.ofInt 64 xa) &&& (BitVec.ofInt 64 1)).toNat:Nat):Int)) == 1)) h)
theorem call32 {K:Value→Wa1→Prop} {h:Wa1} {xa:Int} (H:F32 K h xa):Wa5 Tryz.prog 32 #[(.int .u64 xa)] h K:=
 Wa4 Tryz.func32 (by kernel_rfl) (Eq.mp (by kernel_rfl) H)
def F275 (K:Value→Wa1→Prop) (h:Wa1) (xa xb:Int):Prop:=
 (cf 86 #[.int .i64 xa] h λa b=>asBool a λa=>ifB a (cf 262 #[.int .i64 xb] b λa c=>asInt .i64 a λa=>K (.bool (decide (xa < a))) c) (K (.bool false) b))
theorem call275 {K:Value→Wa1→Prop} {h:Wa1} {xa xb:Int} (H:F275 K h xa xb):Wa5 Tryz.prog 275 #[(.int .i64 xa),(.int .i64 xb)] h K:=
 Wa4 Tryz.func275 (by kernel_rfl) (Eq.mp (by kernel_rfl) H)
def F280 (K:Value→Wa1→Prop) (h:Wa1) (xa:Option Addr) (xb:Int):Prop:=
 (ifB (!(Option.isNone xa)) (nP xa λa=>lS h a λa b c=>Wq0 Tryz.prog #[26,26] 26 #[.slice a b c,.slice (some ⟨h.size,0,none⟩) 1 1] (Array.push h (.cells #[.int .i64 xb] 3)) λa b=>Wb2 a λa c d=>nP xa λe=>stH b e (.slice a c d) λa=>K (.tuple #[]) a) (K (.tuple #[]) h))
theorem call280 {K:Value→Wa1→Prop} {h:Wa1} {xa:Option Addr} {xb:Int} (H:F280 K h xa xb):Wa5 Tryz.prog 280 #[(.pointer xa),(.int .i64 xb)] h K:=
 Wa4 Tryz.func280 (by kernel_rfl) (Eq.mp (by kernel_rfl) H)
def F282 (K:Value→Wa1→Prop) (h:Wa1) (xa:Option Addr) (xb xc:Nat) (xd:Int):Prop:=
 (cf 340 #[.slice xa xb xc,.int .i64 xd] h λa b=>asInt .i64 a λa=>K (.bool (decide (a ≥ 0))) b)
theorem call282 {K:Value→Wa1→Prop} {h:Wa1} {xa:Option Addr} {xb xc:Nat} {xd:Int} (H:F282 K h xa xb xc xd):Wa5 Tryz.prog 282 #[(.slice xa xb xc),(.int .i64 xd)] h K:=
 Wa4 Tryz.func282 (by kernel_rfl) (Eq.mp (by kernel_rfl) H)
def F283 (K:Value→Wa1→Prop) (h:Wa1) (xa:Option Addr):Prop:=
 (ifB (Option.isNone xa) (K (.slice none 0 0) h) (nP xa λa=>lS h a λa b c=>cf 341 #[.slice a b c] h λa b=>Wb2 a λa c d=>K (.slice a c d) b))
theorem call283 {K:Value→Wa1→Prop} {h:Wa1} {xa:Option Addr} (H:F283 K h xa):Wa5 Tryz.prog 283 #[(.pointer xa)] h K:=
 Wa4 Tryz.func283 (by kernel_rfl) (Eq.mp (by kernel_rfl) H)
def F284 (K:Value→Wa1→Prop) (h:Wa1) (xa:Option Addr) (xb:Value):Prop:=
 (exI λI0=>(ifB (Option.isNone xa) (I0 [.bool true] h) (Wh5 xb λa=>I0 [.bool a] h))∧(∀(a:Value) (b:Env) (b:Wa1),(I0 [a] b)→(asBool a λa=>ifB a (∀a:Wa1,(SameD h.size b a)→(K (.int .i64 0) a)) (nP xa λa=>lS (Array.push b (.cells #[.slice none 0 0] 26)) a λa c d=>cf 343 #[.slice a c d] (Array.push b (.cells #[.slice none 0 0] 26)) λa c=>cf 342 #[a,xb] c λa c=>WF0 Tryz.prog a 1 c (λI16 a c=>asInt .i64 (a.getD 0 (.tuple #[])) λa=>lS c ⟨b.size,0,none⟩ λd e f=>Wq0 Tryz.prog #[26,26] 26 #[.slice d e f,.slice (some ⟨c.size,0,none⟩) 1 1] (Array.push c (.cells #[.int .i64 a] 3)) λa c=>Wb2 a λa d e=>stH c ⟨b.size,0,none⟩ (.slice a d e) λa=>I16 .normal a) (λa=>nP xa λc=>lS a c λc c d=>lS a ⟨b.size,0,none⟩ λd d e=>lS a ⟨b.size,0,none⟩ λb e f=>nP xa λg=>stH a g (.slice b e f) λa=>(∀b:Wa1,(SameD h.size a b)→(K (.int .i64 (IntKind.wrap .i64 ((c:Int) - (d:Int)))) b))) []))))
theorem call284 {K:Value→Wa1→Prop} {h:Wa1} {xa:Option Addr} {xb:Value} (H:F284 K h xa xb):Wa5 Tryz.prog 284 #[(.pointer xa),xb] h K:=
 Wa4 Tryz.func284 (by kernel_rfl) (Eq.mp (by kernel_rfl) H)
def F242 (K:Value→Wa1→Prop) (h:Wa1) (xa:Int) (xb:Option Addr) (xc xd:Nat):Prop:=
 (exI λI0=>exM λm1=>(I0 [.bool false,.tuple #[],.int .i64 0] h)∧(∀(a b c:Value) (d:Env) (d:Wa1),(I0 [a,b,c] d)→(asInt .i64 c λe=>ifB (decide (e < ((xc:Nat):Int))) (asI c λe=>bd e ((xc:Nat):Int) (Wd4 (.pointer xb) λf=>lI .u64 d (Addr.add f (e.toNat*1)) λe=>ifB (decide (e ≥ xa)) (K (.bool false) d) (asInt .i64 c λf=>(I0 [a,.int .u64 e,.int .i64 (IntKind.wrap .i64 (f+1))] d)∧((m1 [a,.int .u64 e,.int .i64 (IntKind.wrap .i64 (f+1))] d) < (m1 [a,b,c] d))))) (K (.bool true) d))))
theorem call242 {K:Value→Wa1→Prop} {h:Wa1} {xa:Int} {xb:Option Addr} {xc xd:Nat} (H:F242 K h xa xb xc xd):Wa5 Tryz.prog 242 #[(.int .u64 xa),(.slice xb xc xd)] h K:=
 Wa4 Tryz.func242 (by kernel_rfl) (Eq.mp (by kernel_rfl) H)
def F243 (K:Value→Wa1→Prop) (h:Wa1) (xa:Int) (xb:Bool) (xc:Int):Prop:=
 (((0:Int)≤17)∧(((0:Int)≤1)∧(ifB xb (K (.int .u64 (IntKind.wrap .u64 ((((BitVec.ofInt 64 (IntKind.wrap .u64 ((((BitVec.ofInt 64 (IntKind.wrap .u64 (xc*131072))) ||| (BitVec.ofInt 64 (IntKind.wrap .u64 (xa*2)))).toNat:Nat):Int))) ||| (BitVec.ofInt 64 1)).toNat:Nat):Int))) h) (K (.int .u64 (IntKind.wrap .u64 ((((BitVec.ofInt 64 (IntKind.wrap .u64 (xc*131072))) ||| (BitVec.ofInt 64 (IntKind.wrap .u64 (xa*2)))).toNat:Nat):Int))) h))))
theorem call243 {K:Value→Wa1→Prop} {h:Wa1} {xa:Int} {xb:Bool} {xc:Int} (H:F243 K h xa xb xc):Wa5 Tryz.prog 243 #[(.int .u64 xa),(.bool xb),(.int .u64 xc)] h K:=
 Wa4 Tryz.func243 (by kernel_rfl) (Eq.mp (by kernel_rfl) H)
def F332 (K:Value→Wa1→Prop) (h:Wa1) (xa:Option Addr):Prop:=
 (ifB (Option.isNone xa) (K (.int .i64 0) h) (nP xa λa=>lI .i64 h (Addr.add a 1) λa=>nP xa λb=>stH h (Addr.add b 1) (.int .i64 (IntKind.wrap .i64 (a+1))) λa=>nP xa λb=>lI .i64 a (Addr.add b 1) λb=>nP xa λc=>lS a c λc c d=>ifB (decide (b > (c:Int))) (K (.int .i64 0) a) (nP xa λb=>lS a b λb c d=>nP xa λd=>lI .i64 a (Addr.add d 1) λd=>((0:Int)≤(IntKind.wrap .i64 (d - 1)))∧((((IntKind.wrap .i64 (d - 1)):Int) < (c:Int))∧(Wd4 (.pointer b) λb=>ldH a (Addr.add b ((IntKind.wrap .i64 (d - 1)).toNat*1)) λb=>asInt .u8 b λb=>K (.int .i64 (IntKind.wrap .i64 b)) a)))))
theorem call332 {K:Value→Wa1→Prop} {h:Wa1} {xa:Option Addr} (H:F332 K h xa):Wa5 Tryz.prog 332 #[(.pointer xa)] h K:=
 Wa4 Tryz.func332 (by kernel_rfl) (Eq.mp (by kernel_rfl) H)
def F337 (K:Value→Wa1→Prop) (h:Wa1) (xa:Int):Prop:=
 (((0:Int)≤17)∧(K (.int .u64 (Int.fdiv xa 131072)) h))
theorem call337 {K:Value→Wa1→Prop} {h:Wa1} {xa:Int} (H:F337 K h xa):Wa5 Tryz.prog 337 #[(.int .u64 xa)] h K:=
 Wa4 Tryz.func337 (by kernel_rfl) (Eq.mp (by kernel_rfl) H)
def F334 (K:Value→Wa1→Prop) (h:Wa1) (xa xb:Int):Prop:=
 (exI λI0=>(cf 86 #[.int .i64 xa] h λa b=>asBool a λa=>ifB (!a) (I0 [.bool true,.bool true] b) (ifB (decide (xb < 0)) (I0 [.bool (decide (xb < 0)),.bool true] b) (cf 33 #[.int .i64 xa] b λa b=>asInt .i64 a λa=>I0 [.bool (decide (xb < 0)),.bool (decide (a < xb))] b)))∧(∀(a b:Value) (c:Env) (c:Wa1),(I0 [a,b] c)→(asBool b λa=>ifB a (K (.int .i64 0) c) (cf 33 #[.int .i64 xa] c λa b=>asInt .i64 a λa=>((0:Int)≤(IntKind.wrap .i64 (a - xb)))∧(K (.int .i64 (Int.fdiv xa (2 ^ (min (IntKind.wrap .i64 (a - xb)).toNat 64)))) b)))))
theorem call334 {K:Value→Wa1→Prop} {h:Wa1} {xa xb:Int} (H:F334 K h xa xb):Wa5 Tryz.prog 334 #[(.int .i64 xa),(.int .i64 xb)] h K:=
 Wa4 Tryz.func334 (by kernel_rfl) (Eq.mp (by kernel_rfl) H)
def F335 (K:Value→Wa1→Prop) (h:Wa1) (xa:Int):Prop:=
 (Wi8 (λa b=>WT1 a b) Tryz.prog 3 [.int .i64 xa,.int .i64 1073741824] λa=>Wi8 (λb c=>WJ6 b c) Tryz.prog 3 [.int .i64 0,.int .i64 a] λa=>K (.int .i64 a) h)
theorem call335 {K:Value→Wa1→Prop} {h:Wa1} {xa:Int} (H:F335 K h xa):Wa5 Tryz.prog 335 #[(.int .i64 xa)] h K:=
 Wa4 Tryz.func335 (by kernel_rfl) (Eq.mp (by kernel_rfl) H)
def F86 (K:Value→Wa1→Prop) (h:Wa1) (xa:Int):Prop:=
 (ifB (decide (xa ≥ 1)) (K (.bool (decide (xa≤1048576))) h) (K (.bool false) h))
theorem call86 {K:Value→Wa1→Prop} {h:Wa1} {xa:Int} (H:F86 K h xa):Wa5 Tryz.prog 86 #[(.int .i64 xa)] h K:=
 Wa4 Tryz.func86 (by kernel_rfl) (Eq.mp (by kernel_rfl) H)
def F340 (K:Value→Wa1→Prop) (h:Wa1) (xa:Option Addr) (xb xc:Nat) (xd:Int):Prop:=
 (exI λI0=>exM λm1=>(I0 [.int .i64 0,.tuple #[],.int .i64 0] h)∧(∀(a b c:Value) (d:Env) (d:Wa1),(I0 [a,b,c] d)→(asInt .i64 c λe=>ifB (decide (e < ((xb:Nat):Int))) (asInt .i64 c λe=>bd e ((xb:Nat):Int) (Wd4 (.pointer xa) λf=>lI .i64 d (Addr.add f (e.toNat*1)) λf=>ifB (xd == f) (K (.int .i64 e) d) (asInt .i64 c λf=>(I0 [a,.int .i64 e,.int .i64 (IntKind.wrap .i64 (f+1))] d)∧((m1 [a,.int .i64 e,.int .i64 (IntKind.wrap .i64 (f+1))] d) < (m1 [a,b,c] d))))) (K (.int .i64 (-1)) d))))
theorem call340 {K:Value→Wa1→Prop} {h:Wa1} {xa:Option Addr} {xb xc:Nat} {xd:Int} (H:F340 K h xa xb xc xd):Wa5 Tryz.prog 340 #[(.slice xa xb xc),(.int .i64 xd)] h K:=
 Wa4 Tryz.func340 (by kernel_rfl) (Eq.mp (by kernel_rfl) H)
def F33 (K:Value→Wa1→Prop) (h:Wa1) (xa:Int):Prop:=
 (cf 86 #[.int .i64 xa] h λa b=>asBool a λa=>ifB (!a) (K (.int .i64 0) b) (cf 87 #[.int .u64 (IntKind.wrap .u64 xa)] b λa b=>asInt .i64 a λa=>K (.int .i64 (IntKind.wrap .i64 (a - 1))) b))
theorem call33 {K:Value→Wa1→Prop} {h:Wa1} {xa:Int} (H:F33 K h xa):Wa5 Tryz.prog 33 #[(.int .i64 xa)] h K:=
 Wa4 Tryz.func33 (by kernel_rfl) (Eq.mp (by kernel_rfl) H)
def F87 (K:Value→Wa1→Prop) (h:Wa1) (xa:Int):Prop:=
 (cf 151 #[.int .u64 xa] h λa b=>asInt .i64 a λa=>K (.int .i64 a) b)
theorem call87 {K:Value→Wa1→Prop} {h:Wa1} {xa:Int} (H:F87 K h xa):Wa5 Tryz.prog 87 #[(.int .u64 xa)] h K:=
 Wa4 Tryz.func87 (by kernel_rfl) (Eq.mp (by kernel_rfl) H)
def F151 (K:Value→Wa1→Prop) (h:Wa1) (xa:Int):Prop:=
 (exI λI0=>(ifB (decide (xa ≥ 4294967296)) (((0:Int)≤32)∧(I0 [.int .u64 (Int.fdiv xa 4294967296),.int .i64 32] h)) (I0 [.int .u64 xa,.int .i64 0] h))∧(∀(a b:Value) (c:Env) (c:Wa1),(I0 [a,b] c)→(exI λI5=>(asInt .u64 a λd=>ifB (decide (d ≥ 65536)) (asInt .u64 a λd=>((0:Int)≤16)∧(asInt .i64 b λe=>I5 [.int .u64 (Int.fdiv d 65536),.int .i64 (IntKind.wrap .i64 (e+16))] c)) (I5 [a,b] c))∧(∀(a b:Value) (c:Env) (c:Wa1),(I5 [a,b] c)→(exI λI13=>(asInt .u64 a λd=>ifB (decide (d ≥ 256)) (asInt .u64 a λd=>((0:Int)≤8)∧(asInt .i64 b λe=>I13 [.int .u64 (Int.fdiv d 256),.int .i64 (IntKind.wrap .i64 (e+8))] c)) (I13 [a,b] c))∧(∀(a b:Value) (c:Env) (c:Wa1),(I13 [a,b] c)→(asInt .i64 b λb=>asInt .u64 a λa=>((0:Int)≤(IntKind.wrap .u8 a))∧((((IntKind.wrap .u8 a):Int) < 256)∧(K (.int .i64 (IntKind.wrap .i64 (b+(IntKind.wrap .i64 (WL1 (⟨#[0,1,2,2,3,3,3,3,4,4,4,4,4,4,4,4,5,5,5,5,5,5,5,5,5,5,5,5,5,5,5,5,6,6,6,6,6,6,6,6,6,6,6,6,6,6,6,6,6,6,6,6,6,6,6,6,6,6,6,6,6,6,6,6,7,7,7,7,7,7,7,7,7,7,7,7,7,7,7,7,7,7,7,7,7,7,7,7,7,7,7,7,7,7,7,7,7,7,7,7,7,7,7,7,7,7,7,7,7,7,7,7,7,7,7,7,7,7,7,7,7,7,7,7,7,7,7,7,8,8,8,8,8,8,8,8,8,8,8,8,8,8,8,8,8,8,8,8,8,8,8,8,8,8,8,8,8,8,8,8,8,8,8,8,8,8,8,8,8,8,8,8,8,8,8,8,8,8,8,8,8,8,8,8,8,8,8,8,8,8,8,8,8,8,8,8,8,8,8,8,8,8,8,8,8,8,8,8,8,8,8,8,8,8,8,8,8,8,8,8,8,8,8,8,8,8,8,8,8,8,8,8,8,8,8,8,8,8,8,8,8,8,8,8,8,8,8,8,8,8,8,8,8,8,8,8]⟩ : ByteArray) (IntKind.wrap .u8 a).toNat))))) c)))))))))
theorem call151 {K:Value→Wa1→Prop} {h:Wa1} {xa:Int} (H:F151 K h xa):Wa5 Tryz.prog 151 #[(.int .u64 xa)] h K:=
 Wa4 Tryz.func151 (by kernel_rfl) (Eq.mp (by kernel_rfl) H)
end
end Go.Proofs.YtooaemmlgkdfoaaGreat
section
namespace Go.Proofs.YtooaemmlgkdfoaaGreat.Mod
def Wx9 (w:Int):Int:=w / 2 % 65536
def WP9 (w:Int):Bool:=w % 2 == 1
def YI3 (w:Int):Int:=w / 131072
def b2i (b:Bool):Int:=if b then 1 else 0
def Wm6 (ptr:Int) (mark:Bool) (ver:Int):Int:=ver*131072+ptr*2+b2i mark
def WD4 (w ptr:Int) (mark:Bool):Int:=Wm6 (ptr % 65536) mark ((YI3 w+1) % 140737488355328)
def u64 (n:Int):Int:=n % 18446744073709551616
def s64 (n:Int):Int:=if n % 18446744073709551616 < 9223372036854775808 then n % 18446744073709551616 else n % 18446744073709551616 - 18446744073709551616
def u32 (n:Int):Int:=n % 4294967296
structure Cf where
 algo:Int
 threads:Int
 nodes:Int
 level:Int
 batch:Int
 probes:Int
 scan:Int
structure Pl where
 c:Cf
 slots:Int
 width:Int
 sent:Int
 hazards:Int
 links:Int
 nodes:Int
 tree:Int
 size:Int
def Wc1 (c:Cf):Pl:=
 let m:=c.algo == 0
 let slots:=if m then 2 else 2*c.level+2
 let width:=if m then 3 else 5+c.level
 let links:=8+c.threads*slots
 let nodes:=links+c.nodes
 let tree:=nodes+c.nodes*width
 ⟨c,slots,width,if m then 0 else 2,8,links,nodes,tree,tree+(if m then 2 ^ c.level.toNat else 0)⟩
def okC (c:Cf):Bool:=decide (0≤c.algo∧c.algo≤2∧1≤c.threads∧c.threads≤6∧1≤c.nodes∧c.nodes≤64∧1≤c.level∧c.level≤6∧1≤c.batch∧c.batch≤16∧1≤c.probes∧c.probes≤16∧1≤c.scan∧c.scan≤64∧(if c.algo=0 then 0 else 2) < c.nodes)
def Pl.haz (p:Pl) (t s:Int):Int:=if 0≤t∧t < p.c.threads∧0≤s∧s < p.slots then p.hazards+t*p.slots+s else -1
def Pl.link (p:Pl) (n:Int):Int:=if 1≤n∧n≤p.c.nodes then p.links+n - 1 else -1
def Pl.node (p:Pl) (n f:Int):Int:=if 1≤n∧n≤p.c.nodes∧0≤f∧f < p.width then p.nodes+(n - 1)*p.width+f else -1
def Pl.at (p:Pl) (pos:Int):Int:=if 0≤pos∧pos < p.size - p.tree then p.tree+pos else -1
def Pl.within (p:Pl) (a:Int):Option Int:=if p.nodes≤a∧a < p.tree then some ((a - p.nodes) / p.width+1) else none
structure Frm where
 fn:Int
 pc:Int
 r:List Int
structure Thr where
 fr:List Frm
 ret:List Int
 pred:List Int
 succ:List Int
 word:List Int
 retired:List Int
 found:List Int
structure Gh where
 tags:List Int
 kind:Int
 node:Int
structure Acc where
 kind:Int
 a:Int
 b:Int
 done:Bool
structure Mm where
 w:List Int
 st:Int
 wt:Bool
 lg:List Acc
structure Mac where
 p:Pl
 mm:Mm
 g:Option Gh
 b:List Int
 used:Int
 th:List Thr
 acted:Bool
 bad:Bool
def Gh.fault (g:Gh) (k i:Int):Gh:=if g.kind=0∧g.node=0 then { g with kind:=k,node:=i } else g
def Gh.turn (g:Gh) (i from_ to_ k:Int):Gh:=
 if i < 1∨g.tags.length < i then g.fault 5 i else if g.tags.getD (i - 1).toNat 0≠from_ then g.fault k i else { g with tags:=g.tags.set (i - 1).toNat to_ }
def Gh.touch (g:Gh) (i:Int):Gh:=if i < 1∨g.tags.length < i then g.fault 5 i else if g.tags.getD (i - 1).toNat 0=0 then g.fault 4 i else g
def Yy5 (nodes live:Int):Gh:=⟨(List.range nodes.toNat).map λ(i:Nat)=>if (i:Int) < live then 1 else 0,0,0⟩
def Mac.gh (m:Mac) (f:Gh→Gh):Mac:={ m with g:=m.g.map f }
def Mm.ok (m:Mm) (a:Int):Bool:=decide (0≤a∧a < m.w.length)
def Mm.get (m:Mm) (a:Int):Int:=m.w.getD a.toNat 0
def Mm.put (m:Mm) (a v:Int):Mm:={ m with w:=m.w.set a.toNat v }
def Mm.tick (m:Mm) (k a b:Int) (d:Bool):Mm:={ m with st:=m.st+1,lg:=if m.wt then m.lg ++ [⟨k,a,b,d⟩] else m.lg }
def Mm.store (m:Mm) (a v:Int):Mm:=if m.ok a then (m.tick 1 a (-1) true).put a v else m
def Mm.cas (m:Mm) (a o n:Int):Mm:=if m.get a=o then (m.put a n).tick 2 a (-1) true else m.tick 2 a (-1) false
def Mm.dcas (m:Mm) (a o n b p q:Int):Mm:=if m.get a=o∧m.get b=p then ((m.put a n).put b q).tick 4 a b true else m.tick 4 a b false
def Mm.dcss (m:Mm) (a o n b p:Int):Mm:=if m.get a=o∧m.get b=p then (m.put a n).tick 5 a b true else m.tick 5 a b false
def Mac.setM (m:Mac) (x:Mm):Mac:={ m with mm:=x }
def Mac.fail (m:Mac):Mac:={ m with bad:=true }
def Mac.touch (m:Mac) (a:Int):Mac:=match m.p.within a with
 | some n=>{ m with acted:=true,g:=m.g.map λg=>g.touch n }
 | none=>{ m with acted:=true }
def Mac.load (m:Mac) (a:Int):Int × Mac:=let m:=m.touch a;if m.mm.ok a then (m.mm.get a,m.setM (m.mm.tick 0 a (-1) false)) else (0,m.fail)
def Mac.store (m:Mac) (a v:Int):Mac:=let m:=m.touch a;if m.mm.ok a then m.setM ((m.mm.tick 1 a (-1) true).put a v) else m.fail
def Mac.cas (m:Mac) (a o n:Int):Bool × Mac:=let m:=m.touch a;if m.mm.ok a then (decide (m.mm.get a=o),m.setM (m.mm.cas a o n)) else (false,m.fail)
def Mac.add (m:Mac) (a d:Int):Int × Mac:=let m:=m.touch a;if m.mm.ok a then (m.mm.get a,m.setM ((m.mm.tick 3 a (-1) true).put a (u64 (m.mm.get a+d)))) else (0,m.fail)
def Mac.dcas (m:Mac) (a o n b p q:Int):Bool × Mac:=
 let m:=(m.touch a).touch b
 if m.mm.ok a=true∧m.mm.ok b=true∧a≠b then (decide (m.mm.get a=o∧m.mm.get b=p),m.setM (m.mm.dcas a o n b p q)) else (false,m.fail)
def Mac.dcss (m:Mac) (a o n b p:Int):Bool × Mac:=
 let m:=(m.touch a).touch b
 if m.mm.ok a=true∧m.mm.ok b=true then (decide (m.mm.get a=o∧m.mm.get b=p),m.setM (m.mm.dcss a o n b p)) else (false,m.fail)
def Mac.fault (m:Mac):Bool:=m.bad || match m.g with | some g=>decide (g.kind≠0∨g.node≠0) | none=>false
def Mac.take (m:Mac):Int × Mac:=(if m.used+1 > m.b.length then 0 else m.b.getD m.used.toNat 0,{ m with used:=m.used+1 })
def Mac.next (m:Mac) (n:Int):Int × Mac:=if n < 1 then (0,m) else let (c,m):=m.take;(c % n,m)
def lev (c:Int):Nat→Nat→Int
 | 0,i=>i
 | k+1,i=>if c / 2 ^ i % 2=0 then i+1 else lev c k (i+1)
def Mac.lvl (m:Mac) (most:Int):Int × Mac:=if most < 1 then (1,m) else let (c,m):=m.take;(lev c most.toNat 0,m)
def lay (p:Pl):Mm:=
 let c:=p.c
 let m0:Mm:=⟨List.replicate p.size.toNat 0,0,false,[]⟩
 let first:=p.sent+1
 let m1:=m0.store 0 (Wm6 first false 0)
 let m2:=(List.range (c.nodes - first).toNat).foldl (λ(m:Mm) (i:Nat)=>m.store (p.link (first+i)) (first+i+1)) m1
 let m3:=m2.store 2 1
 if c.algo=0 then m3 else
  let m4:=m3.store (p.node 1 3) c.level
  let m5:=m4.store (p.node 2 0) 18446744073709551615
  (List.range c.level.toNat).foldl (λ(m:Mm) (i:Nat)=>m.store (p.node 1 (5+i)) (Wm6 2 false 0)) m5
def WC3 (c:Cf):Thr:=⟨[],[0,0,0],List.replicate c.level.toNat 0,List.replicate c.level.toNat 0,List.replicate c.level.toNat 0,[],[]⟩
def Wn1 (c:Cf) (b:List Int) (gh:Bool):Mac:=
 let p:=Wc1 c
 ⟨p,lay p,if gh then some (Yy5 c.nodes p.sent) else none,b,0,List.replicate c.threads.toNat (WC3 c),false,false⟩
structure Run where
 m:Mac
 t:Thr
 id:Int
def pad (n:Nat) (l:List Int):List Int:=(l ++ List.replicate n 0).take n
def Thr.push (t:Thr) (fn:Int) (r:List Int):Thr:={ t with fr:=t.fr ++ [⟨fn,0,pad 10 r⟩] }
def Thr.pop (t:Thr) (r:List Int):Thr:=if t.fr = [] then t else { t with fr:=t.fr.dropLast,ret:=pad 3 r }
def dfF:Frm:=⟨0,0,[]⟩
def Thr.top (t:Thr):Frm:=t.fr.getLast?.getD dfF
def Thr.setTop (t:Thr) (f:Frm):Thr:={ t with fr:=t.fr.dropLast ++ [f] }
def Frm.g (f:Frm) (i:Nat):Int:=f.r.getD i 0
def Frm.s (f:Frm) (i:Nat) (v:Int):Frm:={ f with r:=f.r.set i v }
def Frm.at (f:Frm) (pc:Int):Frm:={ f with pc:=pc }
def Run.f (x:Run):Frm:=x.t.top
def Run.setF (x:Run) (f:Frm):Run:={ x with t:=x.t.setTop f }
def Run.pc (x:Run) (pc:Int):Run:=x.setF (x.f.at pc)
def Run.s (x:Run) (i:Nat) (v:Int):Run:=x.setF (x.f.s i v)
def Run.push (x:Run) (fn:Int) (r:List Int):Run:={ x with t:=x.t.push fn r }
def Run.pop (x:Run) (r:List Int):Run:={ x with t:=x.t.pop r }
def Run.call (x:Run) (pc fn:Int) (r:List Int):Run:=(x.pc pc).push fn r
def Run.fo (x:Run) (l:List Int):Run:={ x with t:={ x.t with found:=l } }
def Run.re (x:Run) (l:List Int):Run:={ x with t:={ x.t with retired:=l } }
def Run.setPl (x:Run) (p s w:List Int):Run:={ x with t:={ x.t with pred:=p,succ:=s,word:=w } }
def Run.load (x:Run) (a:Int):Int × Run:=let (v,m):=x.m.load a;(v,{ x with m:=m })
def Run.store (x:Run) (a v:Int):Run:={ x with m:=x.m.store a v }
def Run.cas (x:Run) (a o n:Int):Bool × Run:=let (v,m):=x.m.cas a o n;(v,{ x with m:=m })
def Run.add (x:Run) (a d:Int):Int × Run:=let (v,m):=x.m.add a d;(v,{ x with m:=m })
def Run.gh (x:Run) (f:Gh→Gh):Run:={ x with m:=x.m.gh f }
def alloc (x:Run):Run:=
 let f:=x.f
 let node:=Wx9 (f.g 0)
 if f.pc=0 then
  let (v,x):=x.load 0
  let x:=(x.s 0 v).pc 1
  if Wx9 v=0 then x.pop [0] else x
 else if f.pc=1 then
  let (v,x):=x.load (x.m.p.link node)
  (x.s 1 v).pc 2
 else
  let x:=x.pc 0
  let (ok,x):=x.cas 0 (f.g 0) (WD4 (f.g 0) (s64 (f.g 1)) false)
  if ok then (x.gh λg=>g.turn node 0 1 1).pop [node] else x
def Wr8 (x:Run):Run:=
 let f:=x.f
 let node:=s64 (f.g 0)
 if f.pc=0 then
  let (v,x):=x.load 0
  (x.s 1 v).pc 1
 else if f.pc=1 then
  (x.store (x.m.p.link node) (Wx9 (f.g 1))).pc 2
 else
  let x:=x.pc 0
  let (ok,x):=x.cas 0 (f.g 1) (WD4 (f.g 1) node false)
  if ok then (x.gh λg=>g.turn node 2 0 3).pop [u64 node] else x
def Wr9 (x:Run):Run:=if x.t.fr = [] then x else if x.f.fn=1 then alloc x else if x.f.fn=2 then Wr8 x else x.pop []
def Ws0 (x:Run):Run:=
 let f:=x.f
 let a:=s64 (f.g 1)
 if f.pc=0 then
  let (v,x):=x.load a
  let x:=(x.s 2 v).pc 1
  if Wx9 v=0 then x.pop [v] else x
 else if f.pc=1 then
  (x.store (x.m.p.haz x.id (s64 (f.g 0))) (Wx9 (f.g 2))).pc 2
 else
  let (v,x):=x.load a
  if v=f.g 2∨Wx9 v=0 then x.pop [v] else (x.s 2 v).pc 1
def Yy6 (x:Run):Run:=
 let f:=x.f
 if f.pc ≥ x.m.p.slots then x.pop [] else (x.store (x.m.p.haz x.id f.pc) 0).pc (f.pc+1)
def Wz0 (x:Run):Run:=
 let node:=s64 (x.f.g 0)
 let x:=x.gh λg=>g.turn node 1 2 2
 let x:=(x.re (x.t.retired ++ [node])).pop []
 if (x.t.retired.length:Int) ≥ x.m.p.c.scan then x.push 6 [] else x
def Wz1 (x:Run) (all:Int):Run:=
 if x.f.pc=all then ((x.re (x.t.retired.filter λn=>x.t.found.contains n)).fo (x.t.retired.filter λn=>!x.t.found.contains n)).pc (x.f.pc+1) else x
def W20 (x:Run):Run:=match x.t.found with
 | []=>x.pop []
 | n :: rest=>(x.fo rest).push 2 [u64 n]
def scan (x:Run):Run:=
 let p:=x.m.p
 let all:=p.slots*p.c.threads
 let x:=if x.f.pc=0 then x.fo [] else x
 if x.f.pc < all then
  let (v,y):=x.load (p.haz (x.f.pc / p.slots) (x.f.pc % p.slots))
  (y.fo (y.t.found ++ [s64 v])).pc (x.f.pc+1)
 else W20 (Wz1 x all)
def Wn6 (x:Run):Run:=
 if x.t.fr = [] then x else if x.f.fn=3 then Ws0 x else if x.f.fn=4 then Yy6 x else if x.f.fn=5 then Wz0 x else if x.f.fn=6 then scan x else Wr9 x
def bits (d:Run→Run):Nat→Run→Option Run
 | 0,x=>if x.m.acted || x.t.fr.isEmpty then some x else none
 | n+1,x=>if x.m.acted || x.t.fr.isEmpty then some x else bits d n (d x)
def Mac.step (m:Mac) (i:Int) (d:Run→Run) (n:Nat):Option (Bool × Mac):=
 if i < 0∨m.th.length≤i then some (false,m) else
  match bits d n ⟨{ m with acted:=false },m.th.getD i.toNat (WC3 m.p.c),i⟩ with
  | none=>none
  | some x=>some (!x.t.fr.isEmpty,{ x.m with th:=x.m.th.set i.toNat x.t })
end Go.Proofs.YtooaemmlgkdfoaaGreat.Mod
end
section
namespace Go.Proofs.YtooaemmlgkdfoaaGreat.Mod
def Yv0 (n:Int):Bool:=decide (1≤n∧n≤1048576)
def Wm8 (n:Int):Int:=if Yv0 n then (Nat.log2 n.toNat:Nat) else 0
def Wf3 (d:Int):Int:=if d < 1∨d > 20 then 0 else 2 ^ (d - 1).toNat
def Yn4 (d draw:Int):Int:=let n:=Wf3 d;if n=0 then 0 else n+(max draw 0) % n
def YU5 (n l:Int):Int:=if !Yv0 n || decide (l < 0) || decide (Wm8 n < l) then 0 else n / 2 ^ (Wm8 n - l).toNat
def W21 (n d:Int):Bool:=Yv0 n && decide (n < Wf3 d)
structure Sp where
 lo:Int
 hi:Int
def YI4 (n:Int):Sp:=⟨0,max n 1 - 1⟩
def Sp.done (s:Sp):Bool:=decide (s.lo ≥ s.hi)
def W93 (n:Int):Int:=max 0 (min n 1073741824)
def Sp.mid (s:Sp):Int:=(W93 s.lo+W93 s.hi) / 2
def Sp.cut (s:Sp) (is:Bool):Sp:=if s.done then s else if is then ⟨s.lo,s.mid⟩ else ⟨s.mid+1,s.hi⟩
def Run.at (x:Run) (place:Int):Int:=x.m.p.at (s64 place)
def Run.nodeW (x:Run) (w field:Int):Int:=x.m.p.node (Wx9 w) field
def Run.swing (x:Run) (place w ptr:Int) (dirty:Bool):Bool × Run:=x.cas (x.at place) w (WD4 w ptr dirty)
def Run.fin (x:Run) (k key val:Int):Run:=(((x.s 7 k).s 8 key).s 9 val).call 90 4 []
def Run.ret (x:Run) (i:Nat):Int:=x.t.ret.getD i 0
def WQ0 (x:Run):Run:=
 if x.f.pc=0 then x.call 1 3 [1,u64 (x.at (x.f.g 0))]
 else
  let w:=x.ret 0
  if Wx9 w=0 then x.pop [w,1099511627776]
  else let (v,x):=x.load (x.nodeW w 0);x.pop [w,v]
def WV8 (x:Run):Sp:=⟨x.f.g 6 / 256,x.f.g 6 % 256⟩
def WQ1 (x:Run) (s:Sp):Run:=x.s 6 (((Nat.lor (u64 (u64 s.lo*256)).toNat (u64 s.hi).toNat:Nat)):Int)
def Ye5 (x:Run) (l:Int):Int:=u64 (YU5 (s64 (x.f.g 5)) l)
def WQ2 (x:Run):Run:=
 let f:=x.f
 let v:=x.ret 0
 let n:=x.t.retired.length
 if f.pc=0 then x.call 1 1 []
 else if f.pc=1 then
  let x:=x.s 2 v
  if v≠0 then x.pc 2
  else if f.g 3=0∧n > 0 then (x.s 3 1).call 0 6 []
  else x.fin 1 0 0
 else if f.pc=2 then (x.store (x.m.p.node (s64 (f.g 2)) 0) (f.g 0)).pc 3
 else ((x.store (x.m.p.node (s64 (f.g 2)) 1) (f.g 1)).s 3 0).pc 4
def Wn7 (x:Run):Run:=
 let f:=x.f
 let p:=x.m.p
 if f.pc=4 then
  let (v,x):=x.load 2
  let x:=x.s 4 v
  let d:=s64 v
  let (n,m):=x.m.next (Wf3 d)
  (({ x with m:=m }:Run).s 5 (u64 (Yn4 d n))).pc 5
 else if f.pc=5 then x.call 6 10 [f.g 5]
 else if f.pc=6 then
  if x.ret 1 ≥ f.g 0 then (WQ1 x (YI4 (s64 (f.g 4)))).pc 8
  else
   let x:=(x.s 3 (u64 (f.g 3+1))).pc 4
   if s64 (u64 (f.g 3+1)) ≥ p.c.probes then x.pc 7 else x
 else
  if s64 (f.g 4) ≥ p.c.level then (x.fin 1 0 0).push 5 [f.g 2]
  else let (_,x):=x.cas 2 (f.g 4) (u64 (f.g 4+1));(x.s 3 0).pc 4
def WQ3 (x:Run):Run:=
 let s:=WV8 x
 if x.f.pc=8 then (if s.done then x.pc 10 else x.call 9 10 [Ye5 x s.mid])
 else (WQ1 x (s.cut (decide (x.ret 1 ≥ x.f.g 0)))).pc 8
def WV9 (x:Run) (ok:Bool):Run:=if ok then x.fin 0 0 0 else (x.s 3 0).pc 4
def Yy7 (x:Run):Run:=
 let f:=x.f
 let place:=Ye5 x (WV8 x).lo
 let w:=f.g 3
 let v:=x.ret 0
 if f.pc=10 then x.call 11 10 [place]
 else if f.pc=11 then
  if x.ret 1 < f.g 0 then (x.s 3 0).pc 4
  else
   let x:=((x.s 3 v).store (x.m.p.node (s64 (f.g 2)) 2) (Wx9 v)).pc 13
   if place=1 then x.pc 12 else x
 else if f.pc=12 then let (ok,x):=x.swing 1 w (s64 (f.g 2)) (WP9 w);WV9 x ok
 else if f.pc=13 then x.call 14 10 [place / 2]
 else if f.pc=14 then
  if x.ret 1 > f.g 0 then WV9 x false
  else
   let (ok,m):=x.m.dcss (x.at place) w (WD4 w (s64 (f.g 2)) (WP9 w)) (x.at (place / 2)) (x.ret 0)
   WV9 { x with m:=m } ok
 else x
def WQ4 (x:Run):Run:=if x.f.pc≤3 then WQ2 x else if x.f.pc≤7 then Wn7 x else if x.f.pc≤9 then WQ3 x else Yy7 x
def WG2 (x:Run):Run:=
 let f:=x.f
 let w:=f.g 0
 if f.pc=0 then x.call 1 3 [0,u64 (x.at 1)]
 else if f.pc=1 then
  let v:=x.ret 0
  let x:=(x.s 0 v).pc 2
  if WP9 v then x.call 0 14 [1] else if Wx9 v=0 then x.fin 3 0 0 else x
 else if f.pc=2 then let (v,x):=x.load (x.nodeW w 0);(x.s 1 v).pc 3
 else if f.pc=3 then
  let (v,x):=x.load (x.nodeW w 1)
  let x:=(x.s 2 v).pc 4
  if f.fn=13 then x.fin 2 (f.g 1) v else x
 else x
def WG3 (x:Run):Run:=
 let f:=x.f
 let w:=f.g 0
 if f.pc=4 then let (v,x):=x.load (x.nodeW w 2);(x.s 3 v).pc 5
 else if f.pc=5 then
  let x:=x.pc 0
  let (ok,x):=x.swing 1 w (s64 (f.g 3)) true
  if ok then x.call 6 14 [1] else x
 else if f.pc=6 then x.call 7 5 [u64 (Wx9 w)]
 else if f.pc=7 then x.fin 2 (f.g 1) (f.g 2)
 else WG2 x
def WK3 (x:Run):Run:=
 let w:=x.f.g 1
 let place:=x.f.g 0
 let x:=x.pc 0
 let (ok,x):=x.swing place w (Wx9 w) false
 if ok then x.pop [] else x
def WQ5 (x:Run):Run:=
 let f:=x.f
 if f.pc=0 then x.call 1 10 [f.g 0]
 else if f.pc=1 then
  let v:=x.ret 0
  let x:=((x.s 1 v).s 2 (x.ret 1)).pc 2
  if WP9 v then x else x.pop []
 else if f.pc=2 then
  let (v,x):=(x.pc 3).load 2
  if W21 (s64 (f.g 0)) (s64 v) then x.pc 4 else x
 else if f.pc=3 then WK3 x
 else x
def Wp2 (x:Run) (at_:Nat) (next place:Int):Run:=
 let v:=x.ret 0
 let x:=((x.s at_ v).s (at_+1) (x.ret 1)).pc next
 if WP9 v then x.call 0 14 [place] else x
def WK4 (x:Run) (at_:Nat) (place:Int):Run:=
 let f:=x.f
 let own:=f.g 1
 let low:=f.g at_
 let x:=x.pc 0
 let (ok,m):=x.m.dcas (x.at (f.g 0)) own (WD4 own (Wx9 low) false) (x.at place) low (WD4 low (Wx9 own) true)
 let x:Run:={ x with m:=m }
 if ok then x.s 0 place else x
def WQ6 (x:Run):Run:=
 let f:=x.f
 let left:=u64 (2*f.g 0)
 if f.pc=4 then x.call 5 10 [left]
 else if f.pc=5 then (if WP9 (x.ret 0) then Wp2 x 3 6 left else (Wp2 x 3 6 left).call 6 10 [u64 (left+1)])
 else if f.pc=6 then Wp2 x 5 7 (u64 (left+1))
 else if f.pc=7 then
  if f.g 4≤f.g 6∧f.g 4 < f.g 2 then WK4 x 3 left
  else if f.g 6 < f.g 4∧f.g 6 < f.g 2 then WK4 x 5 (u64 (left+1))
  else WK3 x
 else WQ5 x
def Wo4 (x:Run):Run:=
 if x.t.fr = [] then x else
 let f:=x.f
 if f.pc=90∧11≤f.fn∧f.fn≤13 then x.pop [f.g 7,f.g 8,f.g 9]
 else if f.fn=10 then WQ0 x
 else if f.fn=11 then WQ4 x
 else if f.fn=12∨f.fn=13 then WG3 x
 else if f.fn=14 then WQ6 x
 else Wn6 x
end Go.Proofs.YtooaemmlgkdfoaaGreat.Mod
end
section
namespace Go.Proofs.YtooaemmlgkdfoaaGreat.Mod
def Run.na (x:Run) (node field:Int):Int:=x.m.p.node (s64 node) field
def Run.swingA (x:Run) (a w to_:Int):Bool × Run:=x.cas a w (WD4 w (s64 to_) false)
def Run.drop1 (x:Run) (node:Int):Bool × Run:=let (v,x):=x.add (x.na node 2) 18446744073709551615;(v == 1,x)
end Go.Proofs.YtooaemmlgkdfoaaGreat.Mod
end
section
namespace Go.Proofs.YtooaemmlgkdfoaaGreat.Mod
def Run.swingM (x:Run) (a w to_:Int) (mk:Bool):Bool × Run:=x.cas a w (WD4 w (s64 to_) mk)
def Run.guard (x:Run) (slot node:Int):Run:=x.store (x.m.p.haz x.id (x.m.p.slots - 1 - slot % 2)) node
end Go.Proofs.YtooaemmlgkdfoaaGreat.Mod
end
namespace Go.Proofs.YtooaemmlgkdfoaaGreat
section
open Mod
def U (n:Int):Prop:=0≤n∧n < 18446744073709551616
theorem U.wrap {n:Int} (h:U n):IntKind.wrap .u64 n=n:=by
 obtain ⟨m,rfl⟩ : ∃m:Nat,n=m:=⟨n.toNat,by have:=h.1;omega⟩
 exact W17 (by have:=h.2;omega)
theorem U.bv {n:Int} (h:U n):(BitVec.ofInt 64 n).toNat=n.toNat:=by
 rw [BitVec.toNat_ofInt]
 have:=h.1;have:=h.2
 omega
theorem U.and1 {n:Int} (h:U n):IntKind.wrap .u64 ((((BitVec.ofInt 64 n) &&& (BitVec.ofInt 64 1)).toNat:Nat):Int)=n % 2:=by
 rw [BitVec.toNat_and,h.bv,show (BitVec.ofInt 64 1).toNat=1 by decide,Nat.and_one_is_mod,W17 (by omega)]
 have:=h.1
 omega
theorem YE3 {a b:Int} (k:Nat) (ha:U a) (hb:0≤b) (hk:b < ((2 ^ k:Nat):Int)) (hd:a % ((2 ^ k:Nat):Int)=0) (hs:U (a+b)):IntKind.wrap .u64 ((((BitVec.ofInt 64 a) ||| (BitVec.ofInt 64 b)).toNat:Nat):Int)=a+b:=by
 have hbU:U b:=⟨hb,by have:=hs.2;have:=ha.1;omega⟩
 rw [BitVec.toNat_or,ha.bv,hbU.bv]
 obtain ⟨m,rfl⟩ : ∃m:Nat,a=m:=⟨a.toNat,by have:=ha.1;omega⟩
 obtain ⟨n,rfl⟩ : ∃n:Nat,b=n:=⟨b.toNat,by omega⟩
 rw [Int.toNat_natCast,Int.toNat_natCast]
 have hd':m % 2 ^ k=0:=by
  have:((m % 2 ^ k:Nat):Int)=0:=by rw [Int.natCast_emod];exact hd
  omega
 obtain ⟨c,hc⟩ : ∃c,m=2 ^ k*c:=⟨m / 2 ^ k,by have:=Nat.div_add_mod m (2 ^ k);omega⟩
 have hn:n < 2 ^ k:=by omega
 rw [hc,← Nat.two_pow_add_eq_or_of_lt hn,← hc]
 have:=hs.2
 rw [W17 (by omega)]
 omega
theorem Ws1 {n m:Int} (h:0≤m):Int.fdiv n m=n / m:=Int.fdiv_eq_ediv_of_nonneg _ h
theorem Wz2 {n m:Int} (h:0≤n):Int.tmod n m=n % m:=Int.tmod_eq_emod_of_nonneg h
theorem Wi0 {K:Value→Wa1→Prop} {h:Wa1} {w:Int} (hw:U w) (k:K (.int .i64 (Wx9 w)) h):Wa5 Tryz.prog 36 #[.int .u64 w] h K:=by
 refine call36 ?_
 unfold F36
 refine ⟨by omega,by omega,?_⟩
 have:=hw.1
 rw [Ws1 (by omega),Wz2 (by omega),Wb9 (by omega) (by omega)]
 exact k
theorem Wq4 {K:Value→Wa1→Prop} {h:Wa1} {w:Int} (hw:U w) (k:K (.bool (WP9 w)) h):Wa5 Tryz.prog 32 #[.int .u64 w] h K:=by
 refine call32 ?_
 unfold F32
 rw [hw.and1]
 exact k
theorem Yn5 {K:Value→Wa1→Prop} {h:Wa1} {w:Int} (hw:U w) (k:K (.int .u64 (YI3 w)) h):Wa5 Tryz.prog 337 #[.int .u64 w] h K:=by
 refine call337 ?_
 unfold F337
 rw [Ws1 (by omega)]
 exact ⟨by omega,k⟩
theorem YO3 (b:Bool):0≤b2i b∧b2i b≤1:=by cases b <;> decide
theorem Yn6 {ptr ver:Int} {mk:Bool} (hp:0≤ptr∧ptr < 65536) (hv:0≤ver∧ver < 140737488355328):U (Wm6 ptr mk ver):=by
 have:=YO3 mk
 unfold U Wm6
 omega
theorem WM4 {K:Value→Wa1→Prop} {h:Wa1} {ptr ver:Int} {mk:Bool} (hp:0≤ptr∧ptr < 65536) (hv:0≤ver∧ver < 140737488355328) (k:K (.int .u64 (Wm6 ptr mk ver)) h):Wa5 Tryz.prog 243 #[.int .u64 ptr,.bool mk,.int .u64 ver] h K:=by
 refine call243 ?_
 unfold F243
 refine ⟨by omega,by omega,?_⟩
 have e1:IntKind.wrap .u64 (ver*131072)=ver*131072:=U.wrap ⟨by omega,by omega⟩
 have e2:IntKind.wrap .u64 (ptr*2)=ptr*2:=U.wrap ⟨by omega,by omega⟩
 rw [e1,e2]
 have e3:=YE3 (a:=ver*131072) (b:=ptr*2) 17 ⟨by omega,by omega⟩ (by omega) (by simp only [Nat.reducePow];omega) (by simp only [Nat.reducePow];omega) ⟨by omega,by omega⟩
 rw [e3]
 cases mk with
 | false=>
  simp only [Wc4]
  unfold Wm6 b2i at k
  simpa using k
 | true=>
  simp only [Wd5]
  have e4:=YE3 (a:=ver*131072+ptr*2) (b:=1) 1 ⟨by omega,by omega⟩ (by omega) (by decide) (by simp only [Nat.reducePow];omega) ⟨by omega,by omega⟩
  rw [e4]
  unfold Wm6 b2i at k
  simpa using k
theorem WG4 {w ptr:Int} {mk:Bool}:U (WD4 w ptr mk):=Yn6 ⟨by omega,by omega⟩ ⟨by omega,by omega⟩
theorem WW0 (n:Int):IntKind.wrap .u64 n=n % 18446744073709551616:=by
 unfold IntKind.wrap IntKind.signed IntKind.bits
 have e:(2:Int) ^ 64=18446744073709551616:=rfl
 simp only [Bool.false_and,Bool.false_eq_true,if_false,e]
theorem WM5 (n:Int):IntKind.wrap .u32 n=n % 4294967296:=by
 unfold IntKind.wrap IntKind.signed IntKind.bits
 have e:(2:Int) ^ 32=4294967296:=rfl
 simp only [Bool.false_and,Bool.false_eq_true,if_false,e]
theorem WE3 (n:Int):IntKind.wrap .i64 n=s64 n:=by
 unfold IntKind.wrap IntKind.signed IntKind.bits s64
 have e:(2:Int) ^ 64=18446744073709551616:=rfl
 have e2:(2:Int) ^ (64 - 1)=9223372036854775808:=rfl
 simp only [Bool.true_and,decide_eq_true_eq,e,e2]
 split <;> split <;> omega
theorem Wq5 {K:Value→Wa1→Prop} {h:Wa1} {w ptr:Int} {mk:Bool} (hw:U w) (k:K (.int .u64 (WD4 w ptr mk)) h):Wa5 Tryz.prog 273 #[.int .u64 w,.int .i64 ptr,.bool mk] h K:=by
 refine call273 ?_
 unfold F273 cf
 refine ⟨by omega,?_⟩
 refine Wa0 (Yn5 hw ?_)
 simp only [Wa3]
 refine ⟨by omega,?_⟩
 have hv:0≤YI3 w∧YI3 w < 140737488355328:=by have:=hw.1;have:=hw.2;unfold YI3;omega
 rw [show IntKind.wrap .u64 (YI3 w+1)=YI3 w+1 from U.wrap ⟨by omega,by omega⟩,WW0,Wz2 (by omega),Wz2 (by omega)]
 rw [show ptr % 18446744073709551616 % 65536=ptr % 65536 by omega]
 refine Wa0 (WM4 ⟨by omega,by omega⟩ ⟨by omega,by omega⟩ ?_)
 simp only [Wa3]
 exact k
def V (n:Int):Prop:=0≤n∧n < 4294967296
end
section
set_option maxRecDepth 100000
abbrev g44 (K:Value→Wa1→Prop) (h H1:Wa1):Prop:=
 (lI .i64 H1 ⟨h.size,14,none⟩ λa=>K (.int .i64 a) H1)
def F44 (K:Value→Wa1→Prop) (h:Wa1) (xa xb xc xd xe xf xg xh xi xj xk xl xm xn xo:Int):Prop:=
 (g44 K h (Array.push h (.cells #[.int .i64 xa,.int .i64 xb,.int .i64 xc,.int .i64 xd,.int .i64 xe,.int .i64 xf,.int .i64 xg,.int .i64 xh,.int .i64 xi,.int .i64 xj,.int .i64 xk,.int .i64 xl,.int .i64 xm,.int .i64 xn,.int .i64 xo] 62)))
theorem call44 {K:Value→Wa1→Prop} {h:Wa1} {xa xb xc xd xe xf xg xh xi xj xk xl xm xn xo:Int} (H:F44 K h xa xb xc xd xe xf xg xh xi xj xk xl xm xn xo):Wa5 Tryz.prog 44 #[(.agg #[(.int .i64 xa),(.int .i64 xb),(.int .i64 xc),(.int .i64 xd),(.int .i64 xe),(.int .i64 xf),(.int .i64 xg),(.int .i64 xh),(.int .i64 xi),(.int .i64 xj),(.int .i64 xk),(.int .i64 xl),(.int .i64 xm),(.int .i64 xn),(.int .i64 xo)])] h K:=
 Wa4 Tryz.func44 (by kernel_rfl) (Eq.mp (by kernel_rfl) H)
abbrev g48 (K:Value→Wa1→Prop) (h H1:Wa1):Prop:=
 (lI .i64 H1 ⟨h.size,9,none⟩ λa=>K (.int .i64 a) H1)
def F48 (K:Value→Wa1→Prop) (h:Wa1) (xa xb xc xd xe xf xg xh xi xj xk xl xm xn xo:Int):Prop:=
 (g48 K h (Array.push h (.cells #[.int .i64 xa,.int .i64 xb,.int .i64 xc,.int .i64 xd,.int .i64 xe,.int .i64 xf,.int .i64 xg,.int .i64 xh,.int .i64 xi,.int .i64 xj,.int .i64 xk,.int .i64 xl,.int .i64 xm,.int .i64 xn,.int .i64 xo] 62)))
theorem call48 {K:Value→Wa1→Prop} {h:Wa1} {xa xb xc xd xe xf xg xh xi xj xk xl xm xn xo:Int} (H:F48 K h xa xb xc xd xe xf xg xh xi xj xk xl xm xn xo):Wa5 Tryz.prog 48 #[(.agg #[(.int .i64 xa),(.int .i64 xb),(.int .i64 xc),(.int .i64 xd),(.int .i64 xe),(.int .i64 xf),(.int .i64 xg),(.int .i64 xh),(.int .i64 xi),(.int .i64 xj),(.int .i64 xk),(.int .i64 xl),(.int .i64 xm),(.int .i64 xn),(.int .i64 xo)])] h K:=
 Wa4 Tryz.func48 (by kernel_rfl) (Eq.mp (by kernel_rfl) H)
abbrev g80 (K:Value→Wa1→Prop) (h H1 H2:Wa1):Prop:=
 (da7 H2 ⟨h.size,0,none⟩ λa b c d e f g=>dw7 H2 H1.size a b c d e f g λa=>dl7 a H1.size λb c d e f g i=>K (.agg #[b,c,d,e,f,g,i]) a)
def F80 (K:Value→Wa1→Prop) (h:Wa1) (xa xb xc xd xe xf xg xh xi xj xk xl xm xn xo:Int):Prop:=
 (g80 K h (Array.push h (.cells #[.int .i64 xa,.int .i64 xb,.int .i64 xc,.int .i64 xd,.int .i64 xe,.int .i64 xf,.int .i64 xg,.int .i64 xh,.int .i64 xi,.int .i64 xj,.int .i64 xk,.int .i64 xl,.int .i64 xm,.int .i64 xn,.int .i64 xo] 62)) (Array.push (Array.push h (.cells #[.int .i64 xa,.int .i64 xb,.int .i64 xc,.int .i64 xd,.int .i64 xe,.int .i64 xf,.int .i64 xg,.int .i64 xh,.int .i64 xi,.int .i64 xj,.int .i64 xk,.int .i64 xl,.int .i64 xm,.int .i64 xn,.int .i64 xo] 62)) (.cells #[.int .i64 0,.int .i64 0,.int .i64 0,.int .i64 0,.int .i64 0,.int .i64 0,.int .i64 0] 23)))
theorem call80 {K:Value→Wa1→Prop} {h:Wa1} {xa xb xc xd xe xf xg xh xi xj xk xl xm xn xo:Int} (H:F80 K h xa xb xc xd xe xf xg xh xi xj xk xl xm xn xo):Wa5 Tryz.prog 80 #[(.agg #[(.int .i64 xa),(.int .i64 xb),(.int .i64 xc),(.int .i64 xd),(.int .i64 xe),(.int .i64 xf),(.int .i64 xg),(.int .i64 xh),(.int .i64 xi),(.int .i64 xj),(.int .i64 xk),(.int .i64 xl),(.int .i64 xm),(.int .i64 xn),(.int .i64 xo)])] h K:=
 Wa4 Tryz.func80 (by kernel_rfl) (Eq.mp (by kernel_rfl) H)
abbrev g98 (K:Value→Wa1→Prop) (h H1:Wa1) (xa:Int):Prop:=
 (lI .i64 H1 (Addr.add ⟨h.size,0,none⟩ 2) λa=>cf 95 #[.slice (some ⟨H1.size,0,none⟩) 1 1] (Array.push H1 (.cells #[.int .i64 xa,.int .i64 1,.int .i64 a] 158)) λa b=>asBool a λa=>ifB (!a) (K (.int .i64 (-1)) b) (lI .i64 b ⟨h.size,11,none⟩ λa=>K (.int .i64 (IntKind.wrap .i64 ((IntKind.wrap .i64 (a+xa)) - 1))) b))
def F98 (K:Value→Wa1→Prop) (h:Wa1) (xa xb xc xd xe xf xg xh xi xj xk xl xm xn xo xp:Int):Prop:=
 (g98 K h (Array.push h (.cells #[.int .i64 xa,.int .i64 xb,.int .i64 xc,.int .i64 xd,.int .i64 xe,.int .i64 xf,.int .i64 xg,.int .i64 xh,.int .i64 xi,.int .i64 xj,.int .i64 xk,.int .i64 xl,.int .i64 xm,.int .i64 xn,.int .i64 xo] 62)) xp)
theorem call98 {K:Value→Wa1→Prop} {h:Wa1} {xa xb xc xd xe xf xg xh xi xj xk xl xm xn xo xp:Int} (H:F98 K h xa xb xc xd xe xf xg xh xi xj xk xl xm xn xo xp):Wa5 Tryz.prog 98 #[(.agg #[(.int .i64 xa),(.int .i64 xb),(.int .i64 xc),(.int .i64 xd),(.int .i64 xe),(.int .i64 xf),(.int .i64 xg),(.int .i64 xh),(.int .i64 xi),(.int .i64 xj),(.int .i64 xk),(.int .i64 xl),(.int .i64 xm),(.int .i64 xn),(.int .i64 xo)]),(.int .i64 xp)] h K:=
 Wa4 Tryz.func98 (by kernel_rfl) (Eq.mp (by kernel_rfl) H)
abbrev g99 (K:Value→Wa1→Prop) (h H1:Wa1) (xa xb:Int):Prop:=
 (lI .i64 H1 (Addr.add ⟨h.size,0,none⟩ 2) λa=>lI .i64 H1 ⟨h.size,8,none⟩ λb=>cf 95 #[.slice (some ⟨H1.size,0,none⟩) 2 2] (Array.push H1 (.cells #[.int .i64 xa,.int .i64 1,.int .i64 a,.int .i64 xb,.int .i64 0,.int .i64 (IntKind.wrap .i64 (b - 1))] 158)) λa b=>asBool a λa=>ifB (!a) (K (.int .i64 (-1)) b) (lI .i64 b ⟨h.size,12,none⟩ λa=>lI .i64 b ⟨h.size,8,none⟩ λc=>K (.int .i64 (IntKind.wrap .i64 ((IntKind.wrap .i64 (a+(IntKind.wrap .i64 ((IntKind.wrap .i64 (xa - 1))*c))))+xb))) b))
def F99 (K:Value→Wa1→Prop) (h:Wa1) (xa xb xc xd xe xf xg xh xi xj xk xl xm xn xo xp xq:Int):Prop:=
 (g99 K h (Array.push h (.cells #[.int .i64 xa,.int .i64 xb,.int .i64 xc,.int .i64 xd,.int .i64 xe,.int .i64 xf,.int .i64 xg,.int .i64 xh,.int .i64 xi,.int .i64 xj,.int .i64 xk,.int .i64 xl,.int .i64 xm,.int .i64 xn,.int .i64 xo] 62)) xp xq)
theorem call99 {K:Value→Wa1→Prop} {h:Wa1} {xa xb xc xd xe xf xg xh xi xj xk xl xm xn xo xp xq:Int} (H:F99 K h xa xb xc xd xe xf xg xh xi xj xk xl xm xn xo xp xq):Wa5 Tryz.prog 99 #[(.agg #[(.int .i64 xa),(.int .i64 xb),(.int .i64 xc),(.int .i64 xd),(.int .i64 xe),(.int .i64 xf),(.int .i64 xg),(.int .i64 xh),(.int .i64 xi),(.int .i64 xj),(.int .i64 xk),(.int .i64 xl),(.int .i64 xm),(.int .i64 xn),(.int .i64 xo)]),(.int .i64 xp),(.int .i64 xq)] h K:=
 Wa4 Tryz.func99 (by kernel_rfl) (Eq.mp (by kernel_rfl) H)
abbrev g277 (K:Value→Wa1→Prop) (h H1:Wa1) (xa xb:Int):Prop:=
 (exI λI0=>(Wz7 H1 h.size λa b c d e f g i j k l m n o p=>WS7 Tryz.prog 62 (.agg #[a,b,c,d,e,f,g,i,j,k,l,m,n,o,p]) (.agg #[.int .i64 0,.int .i64 0,.int .i64 0,.int .i64 0,.int .i64 0,.int .i64 0,.int .i64 0,.int .i64 0,.int .i64 0,.int .i64 0,.int .i64 0,.int .i64 0,.int .i64 0,.int .i64 0,.int .i64 0]) λa=>ifB a (I0 [.bool true] H1) (lI .i64 H1 (Addr.add ⟨h.size,0,none⟩ 1) λa=>lI .i64 H1 ⟨h.size,7,none⟩ λb=>cf 95 #[.slice (some ⟨H1.size,0,none⟩) 2 2] (Array.push H1 (.cells #[.int .i64 xa,.int .i64 0,.int .i64 (IntKind.wrap .i64 (a - 1)),.int .i64 xb,.int .i64 0,.int .i64 (IntKind.wrap .i64 (b - 1))] 158)) λa b=>asBool a λa=>I0 [.bool (!a)] b))∧(∀(a:Value) (b:Env) (b:Wa1),(I0 [a] b)→(asBool a λa=>ifB a (K (.int .i64 (-1)) b) (lI .i64 b ⟨h.size,10,none⟩ λa=>lI .i64 b ⟨h.size,7,none⟩ λc=>K (.int .i64 (IntKind.wrap .i64 ((IntKind.wrap .i64 (a+(IntKind.wrap .i64 (xa*c))))+xb))) b))))
def F277 (K:Value→Wa1→Prop) (h:Wa1) (xa xb xc xd xe xf xg xh xi xj xk xl xm xn xo xp xq:Int):Prop:=
 (g277 K h (Array.push h (.cells #[.int .i64 xa,.int .i64 xb,.int .i64 xc,.int .i64 xd,.int .i64 xe,.int .i64 xf,.int .i64 xg,.int .i64 xh,.int .i64 xi,.int .i64 xj,.int .i64 xk,.int .i64 xl,.int .i64 xm,.int .i64 xn,.int .i64 xo] 62)) xp xq)
theorem call277 {K:Value→Wa1→Prop} {h:Wa1} {xa xb xc xd xe xf xg xh xi xj xk xl xm xn xo xp xq:Int} (H:F277 K h xa xb xc xd xe xf xg xh xi xj xk xl xm xn xo xp xq):Wa5 Tryz.prog 277 #[(.agg #[(.int .i64 xa),(.int .i64 xb),(.int .i64 xc),(.int .i64 xd),(.int .i64 xe),(.int .i64 xf),(.int .i64 xg),(.int .i64 xh),(.int .i64 xi),(.int .i64 xj),(.int .i64 xk),(.int .i64 xl),(.int .i64 xm),(.int .i64 xn),(.int .i64 xo)]),(.int .i64 xp),(.int .i64 xq)] h K:=
 Wa4 Tryz.func277 (by kernel_rfl) (Eq.mp (by kernel_rfl) H)
abbrev g278 (K:Value→Wa1→Prop) (h H1:Wa1):Prop:=
 (lI .i64 H1 ⟨h.size,7,none⟩ λa=>K (.int .i64 a) H1)
def F278 (K:Value→Wa1→Prop) (h:Wa1) (xa xb xc xd xe xf xg xh xi xj xk xl xm xn xo:Int):Prop:=
 (g278 K h (Array.push h (.cells #[.int .i64 xa,.int .i64 xb,.int .i64 xc,.int .i64 xd,.int .i64 xe,.int .i64 xf,.int .i64 xg,.int .i64 xh,.int .i64 xi,.int .i64 xj,.int .i64 xk,.int .i64 xl,.int .i64 xm,.int .i64 xn,.int .i64 xo] 62)))
theorem call278 {K:Value→Wa1→Prop} {h:Wa1} {xa xb xc xd xe xf xg xh xi xj xk xl xm xn xo:Int} (H:F278 K h xa xb xc xd xe xf xg xh xi xj xk xl xm xn xo):Wa5 Tryz.prog 278 #[(.agg #[(.int .i64 xa),(.int .i64 xb),(.int .i64 xc),(.int .i64 xd),(.int .i64 xe),(.int .i64 xf),(.int .i64 xg),(.int .i64 xh),(.int .i64 xi),(.int .i64 xj),(.int .i64 xk),(.int .i64 xl),(.int .i64 xm),(.int .i64 xn),(.int .i64 xo)])] h K:=
 Wa4 Tryz.func278 (by kernel_rfl) (Eq.mp (by kernel_rfl) H)
abbrev g85 (K:Value→Wa1→Prop) (h H1:Wa1) (xa:Int):Prop:=
 (exI λI0=>(ifB (decide (xa < 0)) (I0 [.bool true] H1) (lI .i64 H1 ⟨h.size,14,none⟩ λa=>lI .i64 H1 ⟨h.size,13,none⟩ λb=>I0 [.bool (decide (xa ≥ (IntKind.wrap .i64 (a - b))))] H1))∧(∀(a:Value) (b:Env) (b:Wa1),(I0 [a] b)→(asBool a λa=>ifB a (K (.int .i64 (-1)) b) (lI .i64 b ⟨h.size,13,none⟩ λa=>K (.int .i64 (IntKind.wrap .i64 (a+xa))) b))))
def F85 (K:Value→Wa1→Prop) (h:Wa1) (xa xb xc xd xe xf xg xh xi xj xk xl xm xn xo xp:Int):Prop:=
 (g85 K h (Array.push h (.cells #[.int .i64 xa,.int .i64 xb,.int .i64 xc,.int .i64 xd,.int .i64 xe,.int .i64 xf,.int .i64 xg,.int .i64 xh,.int .i64 xi,.int .i64 xj,.int .i64 xk,.int .i64 xl,.int .i64 xm,.int .i64 xn,.int .i64 xo] 62)) xp)
theorem call85 {K:Value→Wa1→Prop} {h:Wa1} {xa xb xc xd xe xf xg xh xi xj xk xl xm xn xo xp:Int} (H:F85 K h xa xb xc xd xe xf xg xh xi xj xk xl xm xn xo xp):Wa5 Tryz.prog 85 #[(.agg #[(.int .i64 xa),(.int .i64 xb),(.int .i64 xc),(.int .i64 xd),(.int .i64 xe),(.int .i64 xf),(.int .i64 xg),(.int .i64 xh),(.int .i64 xi),(.int .i64 xj),(.int .i64 xk),(.int .i64 xl),(.int .i64 xm),(.int .i64 xn),(.int .i64 xo)]),(.int .i64 xp)] h K:=
 Wa4 Tryz.func85 (by kernel_rfl) (Eq.mp (by kernel_rfl) H)
abbrev g161 (K:Value→Wa1→Prop) (h H1:Wa1) (xa:Int):Prop:=
 (exI λI0=>(ifB (decide (xa < 0)) (I0 [.bool true,.bool true] H1) (lI .i64 H1 ⟨h.size,14,none⟩ λa=>I0 [.bool (decide (xa ≥ a)),.bool (decide (xa ≥ a))] H1))∧(∀(a b:Value) (c:Env) (c:Wa1),(I0 [a,b] c)→(asBool a λa=>ifB a (K (.tuple #[.int .i64 5,.int .i64 0,.int .i64 0]) c) (lI .i64 c ⟨h.size,10,none⟩ λa=>ifB (decide (xa < a)) (K (.tuple #[.int .i64 0,.int .i64 xa,.int .i64 0]) c) (lI .i64 c ⟨h.size,11,none⟩ λa=>ifB (decide (xa < a)) (lI .i64 c ⟨h.size,10,none⟩ λa=>lI .i64 c ⟨h.size,7,none⟩ λb=>((b:Int)≠0)∧(lI .i64 c ⟨h.size,10,none⟩ λd=>lI .i64 c ⟨h.size,7,none⟩ λe=>((e:Int)≠0)∧(K (.tuple #[.int .i64 1,.int .i64 (IntKind.wrap .i64 (Int.tdiv (IntKind.wrap .i64 (xa - a)) b)),.int .i64 (Int.tmod (IntKind.wrap .i64 (xa - d)) e)]) c))) (lI .i64 c ⟨h.size,12,none⟩ λa=>ifB (decide (xa < a)) (lI .i64 c ⟨h.size,11,none⟩ λa=>K (.tuple #[.int .i64 2,.int .i64 (IntKind.wrap .i64 ((IntKind.wrap .i64 (xa - a))+1)),.int .i64 0]) c) (lI .i64 c ⟨h.size,13,none⟩ λa=>ifB (decide (xa < a)) (lI .i64 c ⟨h.size,12,none⟩ λa=>lI .i64 c ⟨h.size,8,none⟩ λb=>((b:Int)≠0)∧(lI .i64 c ⟨h.size,12,none⟩ λd=>lI .i64 c ⟨h.size,8,none⟩ λe=>((e:Int)≠0)∧(K (.tuple #[.int .i64 3,.int .i64 (IntKind.wrap .i64 ((IntKind.wrap .i64 (Int.tdiv (IntKind.wrap .i64 (xa - a)) b))+1)),.int .i64 (Int.tmod (IntKind.wrap .i64 (xa - d)) e)]) c))) (lI .i64 c ⟨h.size,13,none⟩ λa=>K (.tuple #[.int .i64 4,.int .i64 (IntKind.wrap .i64 (xa - a)),.int .i64 0]) c))))))))
def F161 (K:Value→Wa1→Prop) (h:Wa1) (xa xb xc xd xe xf xg xh xi xj xk xl xm xn xo xp:Int):Prop:=
 (g161 K h (Array.push h (.cells #[.int .i64 xa,.int .i64 xb,.int .i64 xc,.int .i64 xd,.int .i64 xe,.int .i64 xf,.int .i64 xg,.int .i64 xh,.int .i64 xi,.int .i64 xj,.int .i64 xk,.int .i64 xl,.int .i64 xm,.int .i64 xn,.int .i64 xo] 62)) xp)
theorem call161 {K:Value→Wa1→Prop} {h:Wa1} {xa xb xc xd xe xf xg xh xi xj xk xl xm xn xo xp:Int} (H:F161 K h xa xb xc xd xe xf xg xh xi xj xk xl xm xn xo xp):Wa5 Tryz.prog 161 #[(.agg #[(.int .i64 xa),(.int .i64 xb),(.int .i64 xc),(.int .i64 xd),(.int .i64 xe),(.int .i64 xf),(.int .i64 xg),(.int .i64 xh),(.int .i64 xi),(.int .i64 xj),(.int .i64 xk),(.int .i64 xl),(.int .i64 xm),(.int .i64 xn),(.int .i64 xo)]),(.int .i64 xp)] h K:=
 Wa4 Tryz.func161 (by kernel_rfl) (Eq.mp (by kernel_rfl) H)
end
section
open Mod
abbrev T3:=Int × Int × Int
def spc (x:T3):List Value:=[.int .i64 x.1,.int .i64 x.2.1,.int .i64 x.2.2]
theorem YI5:∀x:T3,(spc x).length=3:=λ_=>rfl
theorem YI6 (x:T3):∀y ∈ spc x,Wi6 y True:=by
 intro y hy
 simp only [spc,List.mem_cons,List.not_mem_nil,or_false] at hy
 rcases hy with rfl | rfl | rfl <;> exact trivial
def inB (x:T3):Bool:=decide (x.2.1≤x.1) && decide (x.1≤x.2.2)
theorem YX8 {h:Wa1} {b:Nat} {v0 v1 v2:Value} {K:Wa1→Prop} (H:stN h ⟨b,0,none⟩ 0 [v0,v1,v2] K):stH h ⟨b,0,none⟩ v0 λh=>stH h ⟨b,1,none⟩ v1 λh=>stH h ⟨b,2,none⟩ v2 K:=H
theorem Ww8 {K:Value→Wa1→Prop} {h:Wa1} {a:Option Addr} {l c:Nat} {L:List T3} (H:SX spc h a l c L) (hl:l < 2 ^ 60) (k:∀h',Old h.size h h'→K (.bool (L.all inB)) h'):Wa5 Tryz.prog 95 #[.slice a l c] h K:=by
 refine call95 ?_
 unfold F95 bd lI
 have hlen:=H.len
 refine ⟨λvs h'=>∃w,∃i:Nat,vs = [w,iv i]∧i≤l∧Old h.size h h'∧(L.take i).all inB=true,λvs _=>(match vs with | [_,.int _ n]=>l - n.toNat | _=>0),⟨_,0,rfl,Nat.zero_le _,Old.refl _ _,rfl⟩,?_⟩
 rintro v2 v3 g4 h5 ⟨w,i,e,hi,o5,hall⟩
 cases e
 simp only [Wa3,Ww7]
 refine Wa6 (λhlt=>?_) (λhge=>?_)
 ·have hi':i < L.length:=by omega
  obtain ⟨ad,rfl,hc⟩:=SX.at YI5 (by omega) (H.old o5) hi'
  have htk:(L.take (i+1)).all inB=((L.take i).all inB && inB L[i]):=by rw [List.take_succ_eq_append_getElem hi',List.all_append];simp
  have hmem:L.all inB=true→inB L[i]=true:=λh=>List.all_eq_true.1 h _ (List.getElem_mem hi')
  generalize L[i]=x at *
  refine ⟨by omega,hlt,?_⟩
  simp only [Wb0,Int.toNat_natCast]
  refine Wc5 (hc 0 _ rfl) (Wc5 (hc 1 _ rfl) (Wc5 (hc 2 _ rfl) ?_))
  have p6:=Wg2 h5 (spc (0,0,0)).toArray 158
  rw [show h5.push (.cells #[.int .i64 0,.int .i64 0,.int .i64 0] 158)=h5.push (.cells (spc (0,0,0)).toArray 158) from rfl]
  generalize h5.push (.cells (spc (0,0,0)).toArray 158)=h6 at *
  refine YX8 (Wd6 (vs:=spc x) p6.new rfl (YI6 x) λh14 w14=>?_)
  have o14:Old h5.size h5 h14:=w14.toOld p6.toOld (Nat.le_refl _)
  have ok14:=o5.trans (o14.mono o5.1)
  refine ⟨λvs h'=>vs = [.bool (!inB x)]∧h' = h14,?_,?_⟩
  ·refine ldR w14.new rfl ?_
   simp only [Wa3]
   refine ldR w14.new rfl ?_
   simp only [Wa3]
   refine Wa6 (λq=>?_) (λq=>?_)
   ·refine ⟨?_,by trivial⟩
    unfold inB
    rw [decide_eq_false (show ¬ x.2.1≤x.1 by omega)];rfl
   ·refine ldR w14.new rfl ?_
    simp only [Wa3]
    refine ldR w14.new rfl ?_
    simp only [Wa3]
    refine ⟨?_,by trivial⟩
    unfold inB
    rw [decide_eq_true (show x.2.1≤x.1 by omega),Bool.true_and]
    congr 2
    rw [← decide_not,decide_eq_decide];omega
  rintro v24 g25 h26 ⟨e,rfl⟩
  cases e
  simp only [Wa9]
  refine Wc3 (λhq=>?_) (λhq=>?_)
  ·have:=k h26 ok14
   have e:L.all inB=false:=by
    apply Decidable.byContradiction
    intro h
    have:=hmem (by simpa using h)
    rw [this] at hq;cases hq
   rwa [e] at this
  ·rw [Wm5 (by omega)]
   exact ⟨⟨_,i+1,rfl,by omega,ok14,by rw [htk,hall];simpa using hq⟩,by show l - ((i+1:Nat):Int).toNat < l - (i:Int).toNat;omega⟩
 ·rw [List.take_of_length_le (by omega)] at hall
  have:=k h5 o5
  rwa [hall] at this
def cfc (c:Mod.Cf):List Value:=[.int .i64 c.algo,.int .i64 c.threads,.int .i64 c.nodes,.int .i64 c.level,.int .i64 c.batch,.int .i64 c.probes,.int .i64 c.scan]
abbrev plc (p:Pl):List Value:=[.int .i64 p.c.algo,.int .i64 p.c.threads,.int .i64 p.c.nodes,.int .i64 p.c.level,.int .i64 p.c.batch,.int .i64 p.c.probes,.int .i64 p.c.scan,.int .i64 p.slots,.int .i64 p.width,.int .i64 p.sent,.int .i64 p.hazards,.int .i64 p.links,.int .i64 p.nodes,.int .i64 p.tree,.int .i64 p.size]
structure PlB (p:Pl):Prop where
 th:1≤p.c.threads∧p.c.threads≤6
 no:1≤p.c.nodes∧p.c.nodes≤64
 lv:1≤p.c.level∧p.c.level≤6
 sl:2≤p.slots∧p.slots≤14
 wi:3≤p.width∧p.width≤11
 se:0≤p.sent∧p.sent≤2
 hz:p.hazards=8
 li:8≤p.links∧p.links≤1000
 nd:p.links≤p.nodes∧p.nodes≤2000
 tr:p.nodes≤p.tree∧p.tree≤3000
 si:p.tree≤p.size∧p.size≤4000
abbrev iN (n:Int):Prop:=-9223372036854775808≤n∧n≤9223372036854775807
def plV (p:Pl):Value:=.agg #[.int .i64 p.c.algo,.int .i64 p.c.threads,.int .i64 p.c.nodes,.int .i64 p.c.level,.int .i64 p.c.batch,.int .i64 p.c.probes,.int .i64 p.c.scan,.int .i64 p.slots,.int .i64 p.width,.int .i64 p.sent,.int .i64 p.hazards,.int .i64 p.links,.int .i64 p.nodes,.int .i64 p.tree,.int .i64 p.size]
theorem WK5 (h:Wa1) (p:Pl):h.push (.cells #[.int .i64 p.c.algo,.int .i64 p.c.threads,.int .i64 p.c.nodes,.int .i64 p.c.level,.int .i64 p.c.batch,.int .i64 p.c.probes,.int .i64 p.c.scan,.int .i64 p.slots,.int .i64 p.width,.int .i64 p.sent,.int .i64 p.hazards,.int .i64 p.links,.int .i64 p.nodes,.int .i64 p.tree,.int .i64 p.size] 62)=h.push (.cells (plc p).toArray 62):=rfl
theorem Wf8 {K:Value→Wa1→Prop} {h:Wa1} {p:Pl} {n f:Int} (B:PlB p) (hn:iN n) (hf:iN f) (k:∀h',Old h.size h h'→K (.int .i64 (p.node n f)) h'):Wa5 Tryz.prog 99 #[plV p,.int .i64 n,.int .i64 f] h K:=by
 refine call99 ?_
 unfold F99 g99 cf lI
 have b1:=B.no
 have b2:=B.wi
 have b3:=B.tr
 have b4:=B.nd
 have b5:=B.li
 rw [WK5]
 have p1:=Wg2 h (plc p).toArray 62
 generalize h.push (.cells (plc p).toArray 62)=h1 at *
 rw [Wc2]
 refine ldR p1.new rfl ?_
 simp only [Wa3]
 refine ldR p1.new rfl ?_
 simp only [Wa3]
 rw [Wb9 (n:=p.width - 1) (by omega) (by omega)]
 have p2:=Wg2 h1 ([((n,1,p.c.nodes):T3),(f,0,p.width - 1)].flatMap spc).toArray 158
 rw [show h1.push (.cells #[.int .i64 n,.int .i64 1,.int .i64 p.c.nodes,.int .i64 f,.int .i64 0,.int .i64 (p.width - 1)] 158)=h1.push (.cells ([((n,1,p.c.nodes):T3),(f,0,p.width - 1)].flatMap spc).toArray 158) from rfl]
 generalize h1.push (.cells ([((n,1,p.c.nodes):T3),(f,0,p.width - 1)].flatMap spc).toArray 158)=h2 at *
 have o1:=p1.toOld
 have o2:=o1.trans (p2.toOld.mono o1.1)
 have S2:SX spc h2 (some ⟨h1.size,0,none⟩) 2 2 [((n,1,p.c.nodes):T3),(f,0,p.width - 1)]:=⟨λj v hj=>⟨_,rfl,by rw [Wc2,Wb8 p2.new,List.getElem?_toArray,Nat.zero_add];exact hj⟩,rfl,Nat.le_refl _⟩
 refine Wa0 (Ww8 S2 (by omega) λh5 o5=>?_)
 simp only [Wa9]
 have ok5:=o2.trans (o5.mono o2.1)
 have hs1:=p1.size
 have hs2:=p2.size
 have n5:=(o5.2 _ (show h.size < h2.size by omega)).trans ((p2.old _ (show h.size < h1.size by omega)).trans p1.new)
 have kk:=k h5 ok5
 unfold Pl.node at kk
 have hin:([((n,1,p.c.nodes):T3),(f,0,p.width - 1)].all inB)=decide (1≤n∧n≤p.c.nodes∧0≤f∧f < p.width):=by
  simp only [List.all_cons,List.all_nil,inB,Bool.and_true]
  rw [← Bool.decide_and,← Bool.decide_and,← Bool.decide_and,decide_eq_decide]
  omega
 rw [hin]
 by_cases hc:1≤n∧n≤p.c.nodes∧0≤f∧f < p.width
 ·rw [decide_eq_true hc]
  rw [if_pos hc] at kk
  simp only [Bool.not_true,Wc4]
  refine ldR n5 rfl ?_
  simp only [Wa3]
  refine ldR n5 rfl ?_
  simp only [Wa3]
  have hm:0≤(n - 1)*p.width∧(n - 1)*p.width≤63*11:=⟨Int.mul_nonneg (by omega) (by omega),Int.mul_le_mul (by omega) (by omega) (by omega) (by omega)⟩
  rw [Wb9 (n:=n - 1) (by omega) (by omega),Wb9 (n:=(n - 1)*p.width) (by omega) (by omega),Wb9 (n:=p.nodes+(n - 1)*p.width) (by omega) (by omega),Wb9 (by omega) (by omega)]
  exact kk
 ·rw [decide_eq_false hc]
  rw [if_neg hc] at kk
  simp only [Bool.not_false,Wd5]
  exact kk
theorem Ww9 {K:Value→Wa1→Prop} {h:Wa1} {p:Pl} {n:Int} (B:PlB p) (hn:iN n) (k:∀h',Old h.size h h'→K (.int .i64 (p.link n)) h'):Wa5 Tryz.prog 98 #[plV p,.int .i64 n] h K:=by
 refine call98 ?_
 unfold F98 g98 cf lI
 have b1:=B.no
 have b5:=B.li
 rw [WK5]
 have p1:=Wg2 h (plc p).toArray 62
 generalize h.push (.cells (plc p).toArray 62)=h1 at *
 rw [Wc2]
 refine ldR p1.new rfl ?_
 simp only [Wa3]
 have p2:=Wg2 h1 ([((n,1,p.c.nodes):T3)].flatMap spc).toArray 158
 rw [show h1.push (.cells #[.int .i64 n,.int .i64 1,.int .i64 p.c.nodes] 158)=h1.push (.cells ([((n,1,p.c.nodes):T3)].flatMap spc).toArray 158) from rfl]
 generalize h1.push (.cells ([((n,1,p.c.nodes):T3)].flatMap spc).toArray 158)=h2 at *
 have o1:=p1.toOld
 have o2:=o1.trans (p2.toOld.mono o1.1)
 have S2:SX spc h2 (some ⟨h1.size,0,none⟩) 1 1 [((n,1,p.c.nodes):T3)]:=⟨λj v hj=>⟨_,rfl,by rw [Wc2,Wb8 p2.new,List.getElem?_toArray,Nat.zero_add];exact hj⟩,rfl,Nat.le_refl _⟩
 refine Wa0 (Ww8 S2 (by omega) λh5 o5=>?_)
 simp only [Wa9]
 have ok5:=o2.trans (o5.mono o2.1)
 have hs1:=p1.size
 have hs2:=p2.size
 have n5:=(o5.2 _ (show h.size < h2.size by omega)).trans ((p2.old _ (show h.size < h1.size by omega)).trans p1.new)
 have kk:=k h5 ok5
 unfold Pl.link at kk
 have hin:([((n,1,p.c.nodes):T3)].all inB)=decide (1≤n∧n≤p.c.nodes):=by
  simp only [List.all_cons,List.all_nil,inB,Bool.and_true]
  rw [← Bool.decide_and]
 rw [hin]
 by_cases hc:1≤n∧n≤p.c.nodes
 ·rw [decide_eq_true hc]
  rw [if_pos hc] at kk
  simp only [Bool.not_true,Wc4]
  refine ldR n5 rfl ?_
  simp only [Wa3]
  rw [Wb9 (n:=p.links+n) (by omega) (by omega),Wb9 (by omega) (by omega)]
  exact kk
 ·rw [decide_eq_false hc]
  rw [if_neg hc] at kk
  simp only [Bool.not_false,Wd5]
  exact kk
theorem WG5 {K:Value→Wa1→Prop} {h:Wa1} {p:Pl} {n:Int} (B:PlB p) (hn:iN n) (k:∀h',Old h.size h h'→K (.int .i64 (p.at n)) h'):Wa5 Tryz.prog 85 #[plV p,.int .i64 n] h K:=by
 refine call85 ?_
 unfold F85 g85 lI
 have b3:=B.tr
 have b4:=B.nd
 have b5:=B.li
 have b6:=B.si
 rw [WK5]
 have p1:=Wg2 h (plc p).toArray 62
 generalize h.push (.cells (plc p).toArray 62)=h1 at *
 have kk:=k h1 p1.toOld
 unfold Pl.at at kk
 refine ⟨λvs h'=>vs = [.bool (!decide (0≤n∧n < p.size - p.tree))]∧h' = h1,?_,?_⟩
 ·refine Wa6 (λq=>⟨by rw [decide_eq_false (by omega)];rfl,by trivial⟩) (λq=>?_)
  refine ldR p1.new rfl ?_
  simp only [Wa3]
  refine ldR p1.new rfl ?_
  simp only [Wa3]
  rw [Wb9 (n:=p.size - p.tree) (by omega) (by omega)]
  refine ⟨?_,by trivial⟩
  congr 2
  rw [← decide_not,decide_eq_decide];omega
 rintro v5 g6 h7 ⟨e,rfl⟩
 cases e
 simp only [Wa9]
 by_cases hc:0≤n∧n < p.size - p.tree
 ·rw [decide_eq_true hc]
  rw [if_pos hc] at kk
  simp only [Bool.not_true,Wc4]
  refine ldR p1.new rfl ?_
  simp only [Wa3]
  rw [Wb9 (by omega) (by omega)]
  exact kk
 ·rw [decide_eq_false hc]
  rw [if_neg hc] at kk
  simp only [Bool.not_false,Wd5]
  exact kk
theorem Wp3 {K:Value→Wa1→Prop} {h:Wa1} {p:Pl} (k:∀h',Old h.size h h'→K (.int .i64 p.slots) h'):Wa5 Tryz.prog 278 #[plV p] h K:=by
 refine call278 ?_
 unfold F278 g278 lI
 rw [WK5]
 have p1:=Wg2 h (plc p).toArray 62
 generalize h.push (.cells (plc p).toArray 62)=h1 at *
 refine ldR p1.new rfl ?_
 simp only [Wa3]
 exact k _ p1.toOld
theorem WG6 {K:Value→Wa1→Prop} {h:Wa1} {p:Pl} (k:∀h',Old h.size h h'→K (.int .i64 p.sent) h'):Wa5 Tryz.prog 48 #[plV p] h K:=by
 refine call48 ?_
 unfold F48 g48 lI
 rw [WK5]
 have p1:=Wg2 h (plc p).toArray 62
 generalize h.push (.cells (plc p).toArray 62)=h1 at *
 refine ldR p1.new rfl ?_
 simp only [Wa3]
 exact k _ p1.toOld
theorem WG7 {K:Value→Wa1→Prop} {h:Wa1} {p:Pl} (k:∀h',Old h.size h h'→K (.int .i64 p.size) h'):Wa5 Tryz.prog 44 #[plV p] h K:=by
 refine call44 ?_
 unfold F44 g44 lI
 rw [WK5]
 have p1:=Wg2 h (plc p).toArray 62
 generalize h.push (.cells (plc p).toArray 62)=h1 at *
 refine ldR p1.new rfl ?_
 simp only [Wa3]
 exact k _ p1.toOld
theorem YO4 (p:Pl):eqv Tryz.prog 10000 62 (.agg (plc p).toArray) (.agg (List.replicate 15 (Value.int .i64 0)).toArray)=some (((p.c.algo == 0) && ((p.c.threads == 0) && ((p.c.nodes == 0) && ((p.c.level == 0) && ((p.c.batch == 0) && ((p.c.probes == 0) && ((p.c.scan == 0) && true))))))) && ((p.slots == 0) && ((p.width == 0) && ((p.sent == 0) && ((p.hazards == 0) && ((p.links == 0) && ((p.nodes == 0) && ((p.tree == 0) && ((p.size == 0) && true))))))))):=by kernel_rfl
theorem Yy8:Tryz.prog.eqGuardType Tryz.prog.depth 62=false:=by kernel_rfl
theorem YI7 {p:Pl} {K:Bool→Prop} (B:PlB p) (k:K false):WS7 Tryz.prog 62 (.agg #[.int .i64 p.c.algo,.int .i64 p.c.threads,.int .i64 p.c.nodes,.int .i64 p.c.level,.int .i64 p.c.batch,.int .i64 p.c.probes,.int .i64 p.c.scan,.int .i64 p.slots,.int .i64 p.width,.int .i64 p.sent,.int .i64 p.hazards,.int .i64 p.links,.int .i64 p.nodes,.int .i64 p.tree,.int .i64 p.size]) (.agg #[.int .i64 0,.int .i64 0,.int .i64 0,.int .i64 0,.int .i64 0,.int .i64 0,.int .i64 0,.int .i64 0,.int .i64 0,.int .i64 0,.int .i64 0,.int .i64 0,.int .i64 0,.int .i64 0,.int .i64 0]) K:=by
 unfold WS7
 rw [Yy8,if_neg (by simp)]
 show (match eqv Tryz.prog 10000 62 (.agg (plc p).toArray) (.agg (List.replicate 15 (Value.int .i64 0)).toArray) with | some b=>K b | none=>False)
 rw [YO4]
 have h1:=B.th
 have e:(p.c.threads == 0)=false:=by rw [beq_eq_false_iff_ne];omega
 simp only [e,Bool.false_and,Bool.and_false]
 exact k
theorem WB1 {K:Value→Wa1→Prop} {h:Wa1} {p:Pl} {t s:Int} (B:PlB p) (ht:iN t) (hs:iN s) (k:∀h',Old h.size h h'→K (.int .i64 (p.haz t s)) h'):Wa5 Tryz.prog 277 #[plV p,.int .i64 t,.int .i64 s] h K:=by
 refine call277 ?_
 unfold F277 g277 cf lI Wz7
 have b1:=B.th
 have b2:=B.sl
 have b3:=B.hz
 rw [WK5]
 have p1:=Wg2 h (plc p).toArray 62
 generalize h.push (.cells (plc p).toArray 62)=h1 at *
 have o1:=p1.toOld
 have hs1:=p1.size
 refine ⟨λvs h'=>vs = [.bool (!decide (0≤t∧t < p.c.threads∧0≤s∧s < p.slots))]∧Old h.size h h'∧h'[h.size]? = some (.cells (plc p).toArray 62),?_,?_⟩
 ·refine ldR p1.new rfl (ldR p1.new rfl (ldR p1.new rfl (ldR p1.new rfl (ldR p1.new rfl (ldR p1.new rfl (ldR p1.new rfl (ldR p1.new rfl (ldR p1.new rfl (ldR p1.new rfl (ldR p1.new rfl (ldR p1.new rfl (ldR p1.new rfl (ldR p1.new rfl (ldR p1.new rfl ?_))))))))))))))
  refine YI7 B ?_
  simp only [Wc4]
  rw [Wc2]
  refine ldR p1.new rfl ?_
  simp only [Wa3]
  refine ldR p1.new rfl ?_
  simp only [Wa3]
  rw [Wb9 (n:=p.c.threads - 1) (by omega) (by omega),Wb9 (n:=p.slots - 1) (by omega) (by omega)]
  have p2:=Wg2 h1 ([((t,0,p.c.threads - 1):T3),(s,0,p.slots - 1)].flatMap spc).toArray 158
  rw [show h1.push (.cells #[.int .i64 t,.int .i64 0,.int .i64 (p.c.threads - 1),.int .i64 s,.int .i64 0,.int .i64 (p.slots - 1)] 158)=h1.push (.cells ([((t,0,p.c.threads - 1):T3),(s,0,p.slots - 1)].flatMap spc).toArray 158) from rfl]
  generalize h1.push (.cells ([((t,0,p.c.threads - 1):T3),(s,0,p.slots - 1)].flatMap spc).toArray 158)=h2 at *
  have o2:=o1.trans (p2.toOld.mono o1.1)
  have S2:SX spc h2 (some ⟨h1.size,0,none⟩) 2 2 [((t,0,p.c.threads - 1):T3),(s,0,p.slots - 1)]:=⟨λj v hj=>⟨_,rfl,by rw [Wc2,Wb8 p2.new,List.getElem?_toArray,Nat.zero_add];exact hj⟩,rfl,Nat.le_refl _⟩
  have hs2:=p2.size
  refine Wa0 (Ww8 S2 (by omega) λh5 o5=>?_)
  simp only [Wa9]
  have hin:([((t,0,p.c.threads - 1):T3),(s,0,p.slots - 1)].all inB)=decide (0≤t∧t < p.c.threads∧0≤s∧s < p.slots):=by
   simp only [List.all_cons,List.all_nil,inB,Bool.and_true]
   rw [← Bool.decide_and,← Bool.decide_and,← Bool.decide_and,decide_eq_decide]
   omega
  rw [hin]
  exact ⟨rfl,o2.trans (o5.mono o2.1),(o5.2 _ (show h.size < h2.size by omega)).trans ((p2.old _ (show h.size < h1.size by omega)).trans p1.new)⟩
 rintro v24 g25 h26 ⟨e,o26,n26⟩
 cases e
 simp only [Wa9]
 have kk:=k h26 o26
 unfold Pl.haz at kk
 by_cases hc:0≤t∧t < p.c.threads∧0≤s∧s < p.slots
 ·rw [decide_eq_true hc]
  rw [if_pos hc] at kk
  simp only [Bool.not_true,Wc4]
  refine ldR n26 rfl ?_
  simp only [Wa3]
  refine ldR n26 rfl ?_
  simp only [Wa3]
  have hm:0≤t*p.slots∧t*p.slots≤5*14:=⟨Int.mul_nonneg (by omega) (by omega),Int.mul_le_mul (by omega) (by omega) (by omega) (by omega)⟩
  rw [Wb9 (n:=t*p.slots) (by omega) (by omega),Wb9 (n:=p.hazards+t*p.slots) (by omega) (by omega),Wb9 (by omega) (by omega)]
  exact kk
 ·rw [decide_eq_false hc]
  rw [if_neg hc] at kk
  simp only [Bool.not_false,Wd5]
  exact kk
theorem WW1 {K:Value→Wa1→Prop} {h:Wa1} {p:Pl} {a:Int} (B:PlB p) (ha:iN a) (k1:∀n x h',p.within a=some n→Old h.size h h'→K (.tuple #[.int .i64 3,.int .i64 n,.int .i64 x]) h') (k0:∀q n x h',p.within a=none→q≠3→Old h.size h h'→K (.tuple #[.int .i64 q,.int .i64 n,.int .i64 x]) h'):Wa5 Tryz.prog 161 #[plV p,.int .i64 a] h K:=by
 refine call161 ?_
 unfold F161 g161 lI
 have b0:=B.sl
 have b1:=B.wi
 have b2:=B.hz
 have b3:=B.tr
 have b4:=B.nd
 have b5:=B.li
 have b6:=B.si
 have hwn:¬ (p.nodes≤a∧a < p.tree)→p.within a=none:=λh=>by unfold Pl.within;rw [if_neg h]
 rw [WK5]
 have p1:=Wg2 h (plc p).toArray 62
 generalize h.push (.cells (plc p).toArray 62)=h1 at *
 have o1:=p1.toOld
 refine ⟨λvs h'=>(∃w,vs = [.bool (decide (a < 0) || decide (a ≥ p.size)),w])∧h' = h1,?_,?_⟩
 ·refine Wa6 (λq=>⟨⟨_,by rw [decide_eq_true q];rfl⟩,by trivial⟩) (λq=>?_)
  refine ldR p1.new rfl ?_
  simp only [Wa3]
  exact ⟨⟨_,by rw [decide_eq_false q,Bool.false_or]⟩,by trivial⟩
 rintro v3 v4 g5 h6 ⟨⟨_,e⟩,rfl⟩
 cases e
 simp only [Wa9]
 refine Wc3 (λq=>?_) (λq=>?_)
 ·rw [Bool.or_eq_true,decide_eq_true_eq,decide_eq_true_eq] at q
  exact k0 _ _ _ _ (hwn (by omega)) (by decide) o1
 rw [Bool.or_eq_false_iff,decide_eq_false_iff_not,decide_eq_false_iff_not] at q
 refine ldR p1.new rfl ?_
 simp only [Wa3]
 refine Wa6 (λq1=>k0 _ _ _ _ (hwn (by omega)) (by decide) o1) (λq1=>?_)
 refine ldR p1.new rfl ?_
 simp only [Wa3]
 refine Wa6 (λq2=>?_) (λq2=>?_)
 ·refine ldR p1.new rfl ?_
  simp only [Wa3]
  refine ldR p1.new rfl ?_
  simp only [Wa3]
  refine ⟨by omega,ldR p1.new rfl ?_⟩
  simp only [Wa3]
  refine ldR p1.new rfl ?_
  simp only [Wa3]
  exact ⟨by omega,k0 _ _ _ _ (hwn (by omega)) (by decide) o1⟩
 refine ldR p1.new rfl ?_
 simp only [Wa3]
 refine Wa6 (λq3=>?_) (λq3=>?_)
 ·refine ldR p1.new rfl ?_
  simp only [Wa3]
  exact k0 _ _ _ _ (hwn (by omega)) (by decide) o1
 refine ldR p1.new rfl ?_
 simp only [Wa3]
 refine Wa6 (λq4=>?_) (λq4=>?_)
 ·refine ldR p1.new rfl ?_
  simp only [Wa3]
  refine ldR p1.new rfl ?_
  simp only [Wa3]
  refine ⟨by omega,ldR p1.new rfl ?_⟩
  simp only [Wa3]
  refine ldR p1.new rfl ?_
  simp only [Wa3]
  refine ⟨by omega,?_⟩
  have hw:p.within a=some ((a - p.nodes) / p.width+1):=by unfold Pl.within;rw [if_pos ⟨by omega,by omega⟩]
  have hd0:0≤(a - p.nodes) / p.width:=Int.ediv_nonneg (by omega) (by omega)
  have hd1:(a - p.nodes) / p.width≤a - p.nodes:=Int.ediv_le_self _ (by omega)
  rw [Wb9 (n:=a - p.nodes) (by omega) (by omega),Int.tdiv_eq_ediv_of_nonneg (by omega),Wb9 (n:=(a - p.nodes) / p.width) (by omega) (by omega),Wb9 (by omega) (by omega)]
  exact k1 _ _ _ hw o1
 ·refine ldR p1.new rfl ?_
  simp only [Wa3]
  exact k0 _ _ _ _ (hwn (by omega)) (by decide) o1
end
section
set_option maxRecDepth 100000
def F82 (K:Value→Wa1→Prop) (h:Wa1) (xa:Option Addr):Prop:=
 (ifB (Option.isNone xa) (K (.slice none 0 0) h) (nP xa λa=>lS h a λa b c=>cf 149 #[.slice a b c] h λa b=>Wb2 a λa c d=>K (.slice a c d) b))
theorem call82 {K:Value→Wa1→Prop} {h:Wa1} {xa:Option Addr} (H:F82 K h xa):Wa5 Tryz.prog 82 #[(.pointer xa)] h K:=
 Wa4 Tryz.func82 (by kernel_rfl) (Eq.mp (by kernel_rfl) H)
def F43 (K:Value→Wa1→Prop) (h:Wa1) (xa:Int):Prop:=
 (exI λI0=>(ifB (decide (xa < 1)) (I0 [.bool true] h) (I0 [.bool (decide (xa > 4096))] h))∧(∀(a:Value) (b:Env) (b:Wa1),(I0 [a] b)→(asBool a λa=>ifB a (K (.tuple #[.pointer none,.int .i64 2]) b) (Wm4 Tryz.prog 70 xa xa b λa b=>Wb2 a λa c d=>K (.tuple #[.pointer (some ⟨b.size,0,none⟩),.int .i64 0]) (Array.push b (.cells #[.slice a c d,.int .i64 0,.bool false,.slice none 0 0] 161))))))
theorem call43 {K:Value→Wa1→Prop} {h:Wa1} {xa:Int} (H:F43 K h xa):Wa5 Tryz.prog 43 #[(.int .i64 xa)] h K:=
 Wa4 Tryz.func43 (by kernel_rfl) (Eq.mp (by kernel_rfl) H)
def F47 (K:Value→Wa1→Prop) (h:Wa1) (xa xb:Int):Prop:=
 (exI λI0=>(exI λI1=>(ifB (decide (xa < 1)) (I1 [.bool true] h) (I1 [.bool (decide (xa > 64))] h))∧(∀(a:Value) (b:Env) (b:Wa1),(I1 [a] b)→(asBool a λa=>ifB a (I0 [.int .i64 0] b) (I0 [.int .i64 xa] b))))∧(∀(a:Value) (b:Env) (b:Wa1),(I0 [a] b)→(asInt .i64 a λc=>Wm4 Tryz.prog 3 c c b λb c=>Wb2 b λb d e=>Wi8 (λf g=>WJ6 f g) Tryz.prog 3 [.int .i64 xb,.int .i64 0] λf=>asInt .i64 a λa=>Wi8 (λg i=>WT1 g i) Tryz.prog 3 [.int .i64 f,.int .i64 a] λa=>exI λI22=>exM λm23=>(I22 [.tuple #[],.int .i64 0] (Array.push c (.cells #[.slice b d e,.int .i64 0,.int .i64 0] 170)))∧(∀(b d:Value) (e:Env) (e:Wa1),(I22 [b,d] e)→(asInt .i64 d λf=>ifB (decide (f < a)) (asInt .i64 d λa=>Wa7 (.pointer (some ⟨c.size,0,none⟩)) (lS e ⟨c.size,0,none⟩ λf g i=>bd a (g:Int) (Wd4 (.pointer f) λf=>stH e (Addr.add f (a.toNat*1)) (.int .i64 1) λf=>asInt .i64 d λg=>(I22 [.int .i64 a,.int .i64 (IntKind.wrap .i64 (g+1))] f)∧((m23 [.int .i64 a,.int .i64 (IntKind.wrap .i64 (g+1))] f) < (m23 [b,d] e))))) (K (.pointer (some ⟨c.size,0,none⟩)) e))))))
theorem call47 {K:Value→Wa1→Prop} {h:Wa1} {xa xb:Int} (H:F47 K h xa xb):Wa5 Tryz.prog 47 #[(.int .i64 xa),(.int .i64 xb)] h K:=
 Wa4 Tryz.func47 (by kernel_rfl) (Eq.mp (by kernel_rfl) H)
def F96 (K:Value→Wa1→Prop) (h:Wa1) (xa:Option Addr) (xb xc:Int):Prop:=
 (cf 154 #[.pointer xa,.slice (some ⟨h.size,0,none⟩) 1 1] (Array.push h (.cells #[.int .i64 xb] 3)) λa b=>asInt .i64 a λa=>ifB (a != 0) (K (.int .i64 a) b) (cf 155 #[.pointer xa,.agg #[.int .i64 1,.int .i64 xb,.int .i64 (-1),.bool true]] b λa a=>nP xa λb=>lS a b λb c d=>bd xb (c:Int) (Wd4 (.pointer b) λb=>stH a (Addr.add b (xb.toNat*1)) (.int .u64 xc) λa=>K (.int .i64 0) a)))
theorem call96 {K:Value→Wa1→Prop} {h:Wa1} {xa:Option Addr} {xb xc:Int} (H:F96 K h xa xb xc):Wa5 Tryz.prog 96 #[(.pointer xa),(.int .i64 xb),(.int .u64 xc)] h K:=
 Wa4 Tryz.func96 (by kernel_rfl) (Eq.mp (by kernel_rfl) H)
def F154 (K:Value→Wa1→Prop) (h:Wa1) (xa xb:Option Addr) (xc xd:Nat):Prop:=
 (ifB (Option.isNone xa) (K (.int .i64 1) h) (exI λI0=>exM λm1=>(I0 [.int .i64 0,.tuple #[],.int .i64 0] h)∧(∀(a b c:Value) (d:Env) (d:Wa1),(I0 [a,b,c] d)→(asInt .i64 c λe=>ifB (decide (e < ((xc:Nat):Int))) (asI c λe=>bd e ((xc:Nat):Int) (Wd4 (.pointer xb) λf=>lI .i64 d (Addr.add f (e.toNat*1)) λe=>exI λI12=>(ifB (decide (e < 0)) (I12 [.bool true] d) (nP xa λf=>lS d f λf f g=>I12 [.bool (decide (e ≥ (f:Int)))] d))∧(∀(f:Value) (g:Env) (g:Wa1),(I12 [f] g)→(asBool f λf=>ifB f (K (.int .i64 2) g) (asInt .i64 c λf=>(I0 [a,.int .i64 e,.int .i64 (IntKind.wrap .i64 (f+1))] g)∧((m1 [a,.int .i64 e,.int .i64 (IntKind.wrap .i64 (f+1))] g) < (m1 [a,b,c] d))))))) (K (.int .i64 0) d)))))
theorem call154 {K:Value→Wa1→Prop} {h:Wa1} {xa xb:Option Addr} {xc xd:Nat} (H:F154 K h xa xb xc xd):Wa5 Tryz.prog 154 #[(.pointer xa),(.slice xb xc xd)] h K:=
 Wa4 Tryz.func154 (by kernel_rfl) (Eq.mp (by kernel_rfl) H)
abbrev g155 (K:Value→Wa1→Prop) (h H1:Wa1) (xa:Option Addr):Prop:=
 (nP xa λa=>lI .i64 H1 (Addr.add a 1) λa=>nP xa λb=>stH H1 (Addr.add b 1) (.int .i64 (IntKind.wrap .i64 (a+1))) λa=>nP xa λb=>ldH a (Addr.add b 2) λb=>asBool b λb=>ifB b (nP xa λb=>ldH a (Addr.add b 3) λc=>Wb2 c λd e f=>dl4 a h.size λg i j k=>((Wa2 (Array.push a (.cells #[g,i,j,k] 256)) (Addr.add b 3))=(some c))∧(Wq0 Tryz.prog #[159,159] 159 #[.slice d e f,.slice (some ⟨a.size,0,none⟩) 1 1] (Array.push a (.cells #[g,i,j,k] 256)) λb c=>Wb2 b λb d e=>nP xa λf=>stH c (Addr.add f 3) (.slice b d e) λb=>K (.tuple #[]) b)) (K (.tuple #[]) a))
def F155 (K:Value→Wa1→Prop) (h:Wa1) (xa:Option Addr) (xb xc xd:Int) (xe:Bool):Prop:=
 (g155 K h (Array.push h (.cells #[.int .i64 xb,.int .i64 xc,.int .i64 xd,.bool xe] 256)) xa)
theorem call155 {K:Value→Wa1→Prop} {h:Wa1} {xa:Option Addr} {xb xc xd:Int} {xe:Bool} (H:F155 K h xa xb xc xd xe):Wa5 Tryz.prog 155 #[(.pointer xa),(.agg #[(.int .i64 xb),(.int .i64 xc),(.int .i64 xd),(.bool xe)])] h K:=
 Wa4 Tryz.func155 (by kernel_rfl) (Eq.mp (by kernel_rfl) H)
def F255 (K:Value→Wa1→Prop) (h:Wa1) (xa:Option Addr) (xb:Int):Prop:=
 (cf 154 #[.pointer xa,.slice (some ⟨h.size,0,none⟩) 1 1] (Array.push h (.cells #[.int .i64 xb] 3)) λa b=>asInt .i64 a λa=>ifB (a != 0) (K (.tuple #[.int .u64 0,.int .i64 a]) b) (cf 155 #[.pointer xa,.agg #[.int .i64 0,.int .i64 xb,.int .i64 (-1),.bool false]] b λa a=>nP xa λb=>lS a b λb c d=>bd xb (c:Int) (Wd4 (.pointer b) λb=>lI .u64 a (Addr.add b (xb.toNat*1)) λb=>K (.tuple #[.int .u64 b,.int .i64 0]) a)))
theorem call255 {K:Value→Wa1→Prop} {h:Wa1} {xa:Option Addr} {xb:Int} (H:F255 K h xa xb):Wa5 Tryz.prog 255 #[(.pointer xa),(.int .i64 xb)] h K:=
 Wa4 Tryz.func255 (by kernel_rfl) (Eq.mp (by kernel_rfl) H)
def F333 (K:Value→Wa1→Prop) (h:Wa1) (xa:Option Addr) (xb xc xd:Int):Prop:=
 (cf 154 #[.pointer xa,.slice (some ⟨h.size,0,none⟩) 1 1] (Array.push h (.cells #[.int .i64 xb] 3)) λa b=>asInt .i64 a λa=>ifB (a != 0) (K (.tuple #[.bool false,.int .i64 a]) b) (nP xa λa=>lS b a λa c d=>bd xb (c:Int) (Wd4 (.pointer a) λa=>lI .u64 b (Addr.add a (xb.toNat*1)) λa=>exI λI11=>(ifB (a == xc) (nP xa λc=>lS b c λc d e=>bd xb (d:Int) (Wd4 (.pointer c) λc=>stH b (Addr.add c (xb.toNat*1)) (.int .u64 xd) λc=>I11 [] c)) (I11 [] b))∧(∀(b:Env) (b:Wa1),(I11 [] b)→(cf 155 #[.pointer xa,.agg #[.int .i64 2,.int .i64 xb,.int .i64 (-1),.bool (a == xc)]] b λb b=>K (.tuple #[.bool (a == xc),.int .i64 0]) b)))))
theorem call333 {K:Value→Wa1→Prop} {h:Wa1} {xa:Option Addr} {xb xc xd:Int} (H:F333 K h xa xb xc xd):Wa5 Tryz.prog 333 #[(.pointer xa),(.int .i64 xb),(.int .u64 xc),(.int .u64 xd)] h K:=
 Wa4 Tryz.func333 (by kernel_rfl) (Eq.mp (by kernel_rfl) H)
def F331 (K:Value→Wa1→Prop) (h:Wa1) (xa:Option Addr) (xb:Int):Prop:=
 (exI λI0=>(ifB (Option.isNone xa) (I0 [.bool true,.bool true,.bool true] h) (ifB (decide (xb < 1)) (I0 [.bool true,.bool (decide (xb < 1)),.bool true] h) (nP xa λa=>lS h a λa a b=>I0 [.bool (decide (xb > (a:Int))),.bool (decide (xb < 1)),.bool (decide (xb > (a:Int)))] h)))∧(∀(a b c:Value) (d:Env) (d:Wa1),(I0 [a,b,c] d)→(asBool a λa=>ifB a (cf 356 #[.pointer xa,.int .i64 5,.int .i64 xb] d λa b=>asBool a λa=>K (.bool a) b) (nP xa λa=>lS d a λa b c=>((0:Int)≤(IntKind.wrap .i64 (xb - 1)))∧((((IntKind.wrap .i64 (xb - 1)):Int) < (b:Int))∧(Wd4 (.pointer a) λa=>ldH d (Addr.add a ((IntKind.wrap .i64 (xb - 1)).toNat*1)) λa=>asInt .i64 a λa=>ifB (a == 0) (cf 356 #[.pointer xa,.int .i64 4,.int .i64 xb] d λa b=>asBool a λa=>K (.bool a) b) (K (.bool true) d)))))))
theorem call331 {K:Value→Wa1→Prop} {h:Wa1} {xa:Option Addr} {xb:Int} (H:F331 K h xa xb):Wa5 Tryz.prog 331 #[(.pointer xa),(.int .i64 xb)] h K:=
 Wa4 Tryz.func331 (by kernel_rfl) (Eq.mp (by kernel_rfl) H)
def F336 (K:Value→Wa1→Prop) (h:Wa1) (xa:Option Addr) (xb xc xd xe xf:Int):Prop:=
 (cf 154 #[.pointer xa,.slice (some ⟨h.size,0,none⟩) 2 2] (Array.push h (.cells #[.int .i64 xb,.int .i64 xe] 3)) λa b=>asInt .i64 a λa=>ifB (a != 0) (K (.tuple #[.bool false,.int .i64 a]) b) (exI λI3=>(nP xa λa=>lS b a λa c d=>bd xb (c:Int) (Wd4 (.pointer a) λa=>lI .u64 b (Addr.add a (xb.toNat*1)) λa=>ifB (a == xc) (nP xa λa=>lS b a λa c d=>bd xe (c:Int) (Wd4 (.pointer a) λa=>lI .u64 b (Addr.add a (xe.toNat*1)) λa=>I3 [.bool (a == xf),.bool (a == xf)] b)) (I3 [.bool false,.bool false] b)))∧(∀(a b:Value) (c:Env) (c:Wa1),(I3 [a,b] c)→(exI λI24=>(asBool a λb=>ifB b (nP xa λb=>lS c b λb d e=>bd xb (d:Int) (Wd4 (.pointer b) λb=>stH c (Addr.add b (xb.toNat*1)) (.int .u64 xd) λb=>I24 [] b)) (I24 [] c))∧(∀(b:Env) (b:Wa1),(I24 [] b)→(asBool a λc=>cf 155 #[.pointer xa,.agg #[.int .i64 5,.int .i64 xb,.int .i64 xe,.bool c]] b λb b=>asBool a λa=>K (.tuple #[.bool a,.int .i64 0]) b))))))
theorem call336 {K:Value→Wa1→Prop} {h:Wa1} {xa:Option Addr} {xb xc xd xe xf:Int} (H:F336 K h xa xb xc xd xe xf):Wa5 Tryz.prog 336 #[(.pointer xa),(.int .i64 xb),(.int .u64 xc),(.int .u64 xd),(.int .i64 xe),(.int .u64 xf)] h K:=
 Wa4 Tryz.func336 (by kernel_rfl) (Eq.mp (by kernel_rfl) H)
def F338 (K:Value→Wa1→Prop) (h:Wa1) (xa:Option Addr) (xb xc xd xe xf xg:Int):Prop:=
 (cf 154 #[.pointer xa,.slice (some ⟨h.size,0,none⟩) 2 2] (Array.push h (.cells #[.int .i64 xb,.int .i64 xe] 3)) λa b=>asInt .i64 a λa=>ifB (a != 0) (K (.tuple #[.bool false,.int .i64 a]) b) (ifB (xb == xe) (K (.tuple #[.bool false,.int .i64 2]) b) (exI λI3=>(nP xa λa=>lS b a λa c d=>bd xb (c:Int) (Wd4 (.pointer a) λa=>lI .u64 b (Addr.add a (xb.toNat*1)) λa=>ifB (a == xc) (nP xa λa=>lS b a λa c d=>bd xe (c:Int) (Wd4 (.pointer a) λa=>lI .u64 b (Addr.add a (xe.toNat*1)) λa=>I3 [.bool (a == xf),.bool (a == xf)] b)) (I3 [.bool false,.bool false] b)))∧(∀(a b:Value) (c:Env) (c:Wa1),(I3 [a,b] c)→(exI λI24=>(asBool a λb=>ifB b (nP xa λb=>lS c b λb d e=>nP xa λe=>lS c e λe f g=>bd xb (d:Int) (Wd4 (.pointer b) λb=>stH c (Addr.add b (xb.toNat*1)) (.int .u64 xd) λb=>bd xe (f:Int) (Wd4 (.pointer e) λd=>stH b (Addr.add d (xe.toNat*1)) (.int .u64 xg) λb=>I24 [] b))) (I24 [] c))∧(∀(b:Env) (b:Wa1),(I24 [] b)→(asBool a λc=>cf 155 #[.pointer xa,.agg #[.int .i64 4,.int .i64 xb,.int .i64 xe,.bool c]] b λb b=>asBool a λa=>K (.tuple #[.bool a,.int .i64 0]) b)))))))
theorem call338 {K:Value→Wa1→Prop} {h:Wa1} {xa:Option Addr} {xb xc xd xe xf xg:Int} (H:F338 K h xa xb xc xd xe xf xg):Wa5 Tryz.prog 338 #[(.pointer xa),(.int .i64 xb),(.int .u64 xc),(.int .u64 xd),(.int .i64 xe),(.int .u64 xf),(.int .u64 xg)] h K:=
 Wa4 Tryz.func338 (by kernel_rfl) (Eq.mp (by kernel_rfl) H)
def F339 (K:Value→Wa1→Prop) (h:Wa1) (xa:Option Addr) (xb:Int):Prop:=
 (cf 357 #[.pointer xa,.int .i64 xb,.int .i64 1,.int .i64 2,.int .i64 2] h λa b=>asBool a λa=>K (.bool a) b)
theorem call339 {K:Value→Wa1→Prop} {h:Wa1} {xa:Option Addr} {xb:Int} (H:F339 K h xa xb):Wa5 Tryz.prog 339 #[(.pointer xa),(.int .i64 xb)] h K:=
 Wa4 Tryz.func339 (by kernel_rfl) (Eq.mp (by kernel_rfl) H)
def F356 (K:Value→Wa1→Prop) (h:Wa1) (xa:Option Addr) (xb xc:Int):Prop:=
 (exI λI0=>(ifB (!(Option.isNone xa)) (nP xa λa=>ldH h (Addr.add a 1) λb=>ldH h (Addr.add a 2) λa=>WS7 Tryz.prog 168 (.agg #[b,a]) (.agg #[.int .i64 0,.int .i64 0]) λa=>I0 [.bool a] h) (I0 [.bool false] h))∧(∀(a:Value) (b:Env) (b:Wa1),(I0 [a] b)→(asBool a λa=>ifB a (nP xa λa=>stH b (Addr.add a 1) (.int .i64 xb) λc=>stH c (Addr.add a 2) (.int .i64 xc) λa=>K (.bool false) a) (K (.bool false) b))))
theorem call356 {K:Value→Wa1→Prop} {h:Wa1} {xa:Option Addr} {xb xc:Int} (H:F356 K h xa xb xc):Wa5 Tryz.prog 356 #[(.pointer xa),(.int .i64 xb),(.int .i64 xc)] h K:=
 Wa4 Tryz.func356 (by kernel_rfl) (Eq.mp (by kernel_rfl) H)
def F357 (K:Value→Wa1→Prop) (h:Wa1) (xa:Option Addr) (xb xc xd xe:Int):Prop:=
 (exI λI0=>(ifB (Option.isNone xa) (I0 [.bool true,.bool true,.bool true] h) (ifB (decide (xb < 1)) (I0 [.bool true,.bool (decide (xb < 1)),.bool true] h) (nP xa λa=>lS h a λa a b=>I0 [.bool (decide (xb > (a:Int))),.bool (decide (xb < 1)),.bool (decide (xb > (a:Int)))] h)))∧(∀(a b c:Value) (d:Env) (d:Wa1),(I0 [a,b,c] d)→(asBool a λa=>ifB a (cf 356 #[.pointer xa,.int .i64 5,.int .i64 xb] d λa b=>asBool a λa=>K (.bool a) b) (nP xa λa=>lS d a λa b c=>((0:Int)≤(IntKind.wrap .i64 (xb - 1)))∧((((IntKind.wrap .i64 (xb - 1)):Int) < (b:Int))∧(Wd4 (.pointer a) λa=>ldH d (Addr.add a ((IntKind.wrap .i64 (xb - 1)).toNat*1)) λa=>asInt .i64 a λa=>ifB (a != xc) (cf 356 #[.pointer xa,.int .i64 xe,.int .i64 xb] d λa b=>asBool a λa=>K (.bool a) b) (nP xa λa=>lS d a λa b c=>((0:Int)≤(IntKind.wrap .i64 (xb - 1)))∧((((IntKind.wrap .i64 (xb - 1)):Int) < (b:Int))∧(Wd4 (.pointer a) λa=>stH d (Addr.add a ((IntKind.wrap .i64 (xb - 1)).toNat*1)) (.int .i64 xd) λa=>K (.bool true) a)))))))))
theorem call357 {K:Value→Wa1→Prop} {h:Wa1} {xa:Option Addr} {xb xc xd xe:Int} (H:F357 K h xa xb xc xd xe):Wa5 Tryz.prog 357 #[(.pointer xa),(.int .i64 xb),(.int .i64 xc),(.int .i64 xd),(.int .i64 xe)] h K:=
 Wa4 Tryz.func357 (by kernel_rfl) (Eq.mp (by kernel_rfl) H)
def F361 (K:Value→Wa1→Prop) (h:Wa1) (xa:Option Addr) (xb:Int):Prop:=
 (cf 357 #[.pointer xa,.int .i64 xb,.int .i64 0,.int .i64 1,.int .i64 1] h λa b=>asBool a λa=>K (.bool a) b)
theorem call361 {K:Value→Wa1→Prop} {h:Wa1} {xa:Option Addr} {xb:Int} (H:F361 K h xa xb):Wa5 Tryz.prog 361 #[(.pointer xa),(.int .i64 xb)] h K:=
 Wa4 Tryz.func361 (by kernel_rfl) (Eq.mp (by kernel_rfl) H)
def F362 (K:Value→Wa1→Prop) (h:Wa1) (xa:Option Addr) (xb:Int):Prop:=
 (cf 357 #[.pointer xa,.int .i64 xb,.int .i64 2,.int .i64 0,.int .i64 3] h λa b=>asBool a λa=>K (.bool a) b)
theorem call362 {K:Value→Wa1→Prop} {h:Wa1} {xa:Option Addr} {xb:Int} (H:F362 K h xa xb):Wa5 Tryz.prog 362 #[(.pointer xa),(.int .i64 xb)] h K:=
 Wa4 Tryz.func362 (by kernel_rfl) (Eq.mp (by kernel_rfl) H)
end
end Go.Proofs.YtooaemmlgkdfoaaGreat
