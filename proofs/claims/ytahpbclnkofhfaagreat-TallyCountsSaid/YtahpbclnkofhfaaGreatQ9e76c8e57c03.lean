/- Part 6 of what the proofs of this seat rest on: see the last text of the claim. -/
import Derived.Test.YtahpbclnkofhfaaGreatQ4f5c34b5332c
import Derived.WalkKit
import Derived.ProofKit
import Derived.OpenShut
import Derived.ShutString
import Derived.ChangeOld
import Derived.Below
import Derived.Carry
import Derived.SizedLaws
import Derived.Test.YtahpbclnkofhfaaGreatProg
set_option linter.unusedSimpArgs false
set_option linter.unusedVariables false
set_option linter.ambiguousOpen false
set_option maxRecDepth 20000
open Go.Proofs.Tryz (prog)
open Go.IntKind (wrap)
namespace Go.Proofs.YtahpbclnkofhfaaGreat
section
open Go.ChangeShapes Go.WideShapes Go.ChangeAt Go.RowKit
theorem SH6:ownKnob Tryz.prog.godebug=none:=by kernel_rfl
theorem Uh:laidOutB Tryz.prog=true:=by kernel_rfl
theorem SH7 {W W':World} (h:G9 W.heap.size W.heap W'.heap) {p:MemPlace} (hp:p.block < W.heap.size):W.sameAt W' p:=by
 cases p with
 | cell b o=>exact World.cell?_of_block (w:=W) (h.2 b hp)
 | map b=>exact h.2 b hp
theorem Ui {H:Type} {enc:TypeId × Value->H} {P:Program} {t:TypeId} (hl:laidOutB P=true) (hr:P.readableRec t=true) (hrow:t < P.types.size) {W W':World} {v:Value} {d:DataW H} {ps:List MemPlace}
  (h:DataW.Trod enc P W 0 (λ_=>true) true t v d ps) (hb:G9 W.heap.size W.heap W'.heap) :
  DataW.Trod enc P W' 0 (λb=>decide (b < W.heap.size)) true t v d ps:=by
 have hlt:∀x ∈ ps,x.block < W.heap.size:=by obtain ⟨m,hm⟩:=h;exact DataW.trod_lt m _ _ _ hm
 exact WideElems.Trod_stays hl hr hrow h (λx hx=>SH7 hb (hlt x hx)) (λx hx=>by simpa using hlt x hx)
theorem Sn0 {W W':World} (ho:G9 W.heap.size W.heap W'.heap) (hos:W'.os=W.os) (hout:W'.output=W.output) (may:MemPlace->Prop):W.keptBut W' may:=by
 refine ⟨hos,hout,λi hi=>?_⟩
 rw [ho.2 i hi]
 split <;> simp_all
end
section
theorem M4 (cs:Array vQ) (F:Array vQ->Prop):J3 (.tuple cs) F=F cs:=rfl
theorem Tc4 (a b:vQ) (F:vQ->Prop):D9 #[a,b] 0 F=F a:=rfl
theorem Tc5 (a b:vQ) (F:vQ->Prop):D9 #[a,b] 1 F=F b:=rfl
theorem SH8:CN prog 3=some .i64:=by kernel_rfl
theorem AV (f:Int->Int->Int) (a b:Int) (F:Int->Prop):W3 f prog 3 [iQ a,iQ b] F=F (f a b):=by
 unfold W3
 simp only [SH8,A5]
 unfold W3.go
 simp only [A5]
 rfl
end
section
theorem X8 (cs:Array vQ) (F:Array vQ->Prop):asAgg (.agg cs) F=F cs:=rfl
theorem U9 {cs:Array vQ} {n:Nat} {X:Prop} (h:cs.size=n) (x:X):G3 cs n X:=by
 unfold G3
 rw [show Nat.beq cs.size n=true by rw [h];exact Nat.beq_refl n]
 exact x
theorem D5 {cs:List vQ} {i:Nat} {v:vQ} {F:vQ->Prop} (h:cs[i]? = some v) (x:F v):D9 cs.toArray i F:=by unfold D9;rw [EC,h];exact x
theorem F6 {h:A2} {b i:Nat} {v:vQ} {row:List vQ} {t:TypeId} (hb:h[b]? = some (oQ row.toArray t)) (e:row[i]? = some v):A3 h ⟨b,i,none⟩=some v:=by
 rw [E5 hb,EC];exact e
theorem C4 {h:A2} {b i:Nat} {v:vQ} {row:List vQ} {t:TypeId} {K:vQ->Prop} (hb:h[b]? = some (oQ row.toArray t)) (e:row[i]? = some v) (k:K v):D2 h ⟨b,i,none⟩ K:=
 C6 (F6 hb e) k
structure JM (h:A2) (b:Nat) (row:Array vQ) (t:TypeId) (h':A2):Prop where
 size:h'.size=h.size
 new:h'[b]? = some (oQ row t)
 old:∀c,c≠b->h'[c]? = h[c]?
theorem JM.trans {h h' h'':A2} {b:Nat} {row row':Array vQ} {t t':TypeId} (x:JM h b row t h') (y:JM h' b row' t' h''):JM h b row' t' h'':=
 ⟨y.size.trans x.size,y.new,λc hc=>(y.old c hc).trans (x.old c hc)⟩
theorem JM.toOld {N:Nat} {g h h':A2} {b:Nat} {row:Array vQ} {t:TypeId} (x:JM h b row t h') (o:G9 N g h) (hb:N<=b):G9 N g h':=
 ⟨by rw [x.size];exact o.1,λc hc=>(x.old c (by omega)).trans (o.2 c hc)⟩
theorem stR {h:A2} {b i:Nat} {v:vQ} {row:List vQ} {t:TypeId} {K:A2->Prop} (hb:h[b]? = some (oQ row.toArray t)) (hi:Nat.ble (i+1) row.length=true) (ho:J0 v True)
  (k:∀h',JM h b (row.set i v).toArray t h'->K h'):C7 h ⟨b,i,none⟩ v K:=by
 have hlt:=(Jx.1 hb).1
 refine Nf hb (by rw [PC];exact PE hi) ho ?_
 rintro h' rfl
 exact k _ ⟨by simp,by rw [U2 hlt,SE3],λc hc=>V4 hc⟩
theorem F5 {vs:List vQ} {h:A2} {b:Nat} {row:Array vQ} {t:TypeId} {K:A2->Prop} (hb:h[b]? = some (oQ row t)) (hl:vs.length=row.size) (ho:∀y ∈ vs,J0 y True)
  (k:∀h',JM h b vs.toArray t h'->K h'):OH h (aQ b) 0 vs K:=by
 have hlt:=(Jx.1 hb).1
 refine Ir vs h b 0 0 row t K hb (by omega) ho ?_
 intro row' h1 h2
 have e:row' = vs.toArray:=by
  apply yL2
  intro j
  rw [h2 j]
  by_cases hj:j < vs.length
  ·rw [A8 (by omega)];simp
  ·rw [A7 (by omega),yL5 (by omega),yL5 (by simp;omega)]
 subst e
 exact k _ ⟨by simp,U2 hlt,λc hc=>V4 hc⟩
theorem st3 {h:A2} {b:Nat} {v0 v1 v2:vQ} {K:A2->Prop} (H:OH h (aQ b) 0 [v0,v1,v2] K):C7 h (aQ b) v0 λh=>C7 h ⟨b,1,none⟩ v1 λh=>C7 h ⟨b,2,none⟩ v2 K:=H
theorem st7 {h:A2} {b:Nat} {v0 v1 v2 v3 v4 v5 v6:vQ} {K:A2->Prop} (H:OH h (aQ b) 0 [v0,v1,v2,v3,v4,v5,v6] K) :
 C7 h (aQ b) v0 λh=>C7 h ⟨b,1,none⟩ v1 λh=>C7 h ⟨b,2,none⟩ v2 λh=>C7 h ⟨b,3,none⟩ v3 λh=>C7 h ⟨b,4,none⟩ v4 λh=>C7 h ⟨b,5,none⟩ v5 λh=>C7 h ⟨b,6,none⟩ v6 K:=H
theorem OV {h:A2} {b:Nat} {v0 v1 v2 v3 v4 v5 v6 v7 v8 v9 v10 v11 v12 v13 v14:vQ} {K:A2->Prop} (H:OH h (aQ b) 0 [v0,v1,v2,v3,v4,v5,v6,v7,v8,v9,v10,v11,v12,v13,v14] K) :
 C7 h (aQ b) v0 λh=>C7 h ⟨b,1,none⟩ v1 λh=>C7 h ⟨b,2,none⟩ v2 λh=>C7 h ⟨b,3,none⟩ v3 λh=>C7 h ⟨b,4,none⟩ v4 λh=>C7 h ⟨b,5,none⟩ v5 λh=>C7 h ⟨b,6,none⟩ v6 λh=>
 C7 h ⟨b,7,none⟩ v7 λh=>C7 h ⟨b,8,none⟩ v8 λh=>C7 h ⟨b,9,none⟩ v9 λh=>C7 h ⟨b,10,none⟩ v10 λh=>C7 h ⟨b,11,none⟩ v11 λh=>C7 h ⟨b,12,none⟩ v12 λh=>C7 h ⟨b,13,none⟩ v13 λh=>C7 h ⟨b,14,none⟩ v14 K:=H
structure Yf (h:A2) (row:Array vQ) (t:TypeId) (h':A2):Prop where
 size:h'.size=h.size+1
 new:h'[h.size]? = some (oQ row t)
 old:∀c,c < h.size->h'[c]? = h[c]?
theorem G8 (h:A2) (row:Array vQ) (t:TypeId):Yf h row t (h.push (oQ row t)):=⟨by simp,Ap _ _,λc hc=>W5 _ _ _ hc⟩
theorem Yf.toOld {h h':A2} {row:Array vQ} {t:TypeId} (x:Yf h row t h'):G9 h.size h h':=⟨by rw [x.size];omega,x.old⟩
end
section
def Fr (S:Nat->Prop) (h h':A2):Prop:=h.size<=h'.size/\∀b,b < h.size->¬ S b->h'[b]? = h[b]?
def GU (a:rQ) (b:Nat):Prop:=∃ad,a=some ad/\ad.block=b
theorem Fr.refl (S:Nat->Prop) (h:A2):Fr S h h:=⟨G0 _,λ_ _ _=>rfl⟩
theorem Fr.mono {S T:Nat->Prop} {h h':A2} (x:Fr S h h') (H:∀b,b < h.size->S b->T b):Fr T h h':=⟨x.1,λb hb hT=>x.2 b hb λhS=>hT (H b hb hS)⟩
theorem G9.fr {h h':A2} (S:Nat->Prop) (o:G9 h.size h h'):Fr S h h':=⟨o.1,λb hb _=>o.2 b hb⟩
section
variable {α:Type} {f:α->List vQ} {n:Nat}
theorem Ch (hf:∀x,(f x).length=n) (l:List α):(l.flatMap f).length=l.length*n:=by
 induction l with
 | nil=>simp
 | cons x l ih=>rw [Kv,DK,ih,hf,Jy,BA];omega
theorem N0 (hf:∀x,(f x).length=n) {l:List α}:∀ {i:Nat} (hi:i < l.length) {j:Nat},j < n->(l.flatMap f)[i*n+j]? = (f l[i])[j]?:=by
 induction l with
 | nil=>intro i hi;simp at hi
 | cons x l ih=>
  intro i hi j hj
  rw [Kv]
  cases i with
  | zero=>rw [OB (by rw [hf];omega)];simp
  | succ i=>
   have e:(i+1)*n+j=n+(i*n+j):=by rw [BA];omega
   rw [MH (by rw [hf,e];omega),hf,e,Nat.add_sub_cancel_left]
   exact ih (by simpa using hi) hj
theorem PW (hf:∀x,(f x).length=n) (l:List α):∀i,(l.flatMap f).take (i*n)=(l.take i).flatMap f:=by
 induction l with
 | nil=>intro i;simp
 | cons x l ih=>
  intro i
  cases i with
  | zero=>simp
  | succ i=>
   rw [Kv,List.take_succ_cons,Kv,List.take_append,hf,Dg (by rw [hf,BA];omega),show (i+1)*n - n=i*n by rw [BA];omega,ih]
structure SX (f:α->List vQ) (h:A2) (a:rQ) (l c:Nat) (xs:List α):Prop where
 s:N5 h a (xs.flatMap f)
 len:xs.length=l
 cap:l<=c
theorem SX.old {h h':A2} {a:rQ} {l c:Nat} {xs:List α} (H:SX f h a l c xs) (ho:G9 h.size h h'):SX f h' a l c xs:=⟨H.s.old ho,H.len,H.cap⟩
theorem SX.at (hf:∀x,(f x).length=n) (hn:0 < n) {h:A2} {a:rQ} {l c:Nat} {xs:List α} (H:SX f h a l c xs) {i:Nat} (hi:i < xs.length) :
  ∃ad,a=some ad/\∀(j:Nat) (v:vQ),(f xs[i])[j]? = some v->A3 h ((ad.add (i*n)).add j)=some v:=by
 have h0:(xs.flatMap f)[i*n+0]? = (f xs[i])[0]?:=N0 hf hi hn
 have h1:(f xs[i])[0]? = some ((f xs[i])[0]'(by rw [hf];exact hn)):=X7 _
 rw [h1] at h0
 obtain ⟨ad,e,_⟩:=H.s _ _ h0
 refine ⟨ad,e,λj v hv=>?_⟩
 have hj:j < n:=by have:=(IW.1 hv).1;rwa [hf] at this
 obtain ⟨ad',e',hc⟩:=H.s (i*n+j) v ((N0 hf hi hj).trans hv)
 rw [e] at e';cases e'
 rw [Z7];exact hc
theorem N5.subn {h:A2} {a:rQ} {vs:List vQ} (H:N5 h a vs) {i m:Nat} (hm:vs.length<=m*n) (hi:i<=m):N5 h (Ha a i m n) (vs.drop (i*n)):=by
 intro j v hj
 unfold Ha
 rw [Tf] at hj
 have hlt:i*n+j < vs.length:=(IW.1 hj).1
 obtain ⟨ad,rfl,hc⟩:=H _ _ hj
 have hne:m≠i:=λe=>by subst e;omega
 rw [A7 hne]
 exact ⟨_,rfl,by rw [Z7];exact hc⟩
theorem PX (a:rQ) (c n:Nat):Ha a 0 c n=a:=by
 unfold Ha
 split
 ·rfl
 ·rw [Nat.zero_mul];cases a <;> rfl
end
theorem CS.take {h:A2} {t:TypeId} {n:Nat} {a:rQ} {l c:Nat} {xs:List vQ} (H:CS h t n a l c xs) {i:Nat} (hi:i<=l):CS h t n a i c (xs.take (i*n)):=by
 obtain ⟨h1,h2,h3⟩:=H
 have him:i*n<=l*n:=EJ _ hi
 refine ⟨by simp;omega,by omega,h3.imp id ?_⟩
 rintro ⟨b,row,e,hb,hs,ht⟩
 exact ⟨b,row,e,hb,hs,by rw [<- ht,List.take_take,MI him]⟩
theorem CS.lt2 {h:A2} {t:TypeId} {n:Nat} {a:rQ} {l c:Nat} {xs:List vQ} (H:CS h t n a l c xs) {b:Nat} (hb:GU a b):b < h.size:=by
 obtain ⟨ad,e,rfl⟩:=hb
 exact H.lt ad e
theorem CS.write {h:A2} {t:TypeId} {n:Nat} {a:rQ} {ad:Addr} {l c:Nat} {xs vs:List vQ} {off:Nat} {K:A2->Prop} (ho:CS h t n a l c xs) (ea:a=some ad) (hv:off+vs.length<=c*n) (hone:∀y ∈ vs,J0 y True)
  (k:∀h',(∀i,i*n<=off->i<=l->CS h' t n a i c (xs.take (i*n)))->(off+vs.length<=l*n->CS h' t n a l c (xs.take off ++ vs ++ xs.drop (off+vs.length)))->Fr (GU a) h h'->h'.size=h.size->K h'):OH h (ad.add off) 0 vs K:=by
 obtain ⟨h1,h2,h3⟩:=ho
 rcases h3 with ⟨rfl,hc0⟩ | ⟨b,row,e,hb,hs,ht⟩
 ·cases ea
 rw [ea] at e;cases e
 rw [E2,J6]
 have hlt:=(Jx.1 hb).1
 refine Ir vs h b off 0 row t K hb (by omega) hone ?_
 intro row' r1 r2
 have hl:l*n<=c*n:=EJ _ h2
 refine k _ (λi hi hil=>⟨?_,by omega,.inr ⟨b,row',ea,U2 hlt,by rw [r1,hs],?_⟩⟩) (λhin=>⟨?_,h2,.inr ⟨b,row',ea,U2 hlt,by rw [r1,hs],?_⟩⟩) ⟨by simp,λb' hb' hne=>V4 (λe=>hne ⟨_,ea,e.symm⟩)⟩ (by simp)
 ·have:=EJ n hil
  rw [CM];omega
 ·have:=EJ n hil
  rw [<- ht,List.take_take,MI this]
  apply Tc
  intro j
  rw [GV,GV]
  split
  ·rw [GQ,r2 j,A7 (by omega),GQ]
  ·rfl
 ·rw [DK,DK,CM,List.length_drop];omega
 ·apply Tc
  intro j
  have hx:∀j,j < l*n->xs[j]? = row[j]?:=λj hj=>by rw [<- ht,GV,A8 hj,GQ]
  rw [GV,GQ,r2 j]
  by_cases c1:j < off
  ·rw [A8 (by omega),A7 (by omega),Xu,OB (by rw [CM];omega),GV,A8 c1,hx j (by omega)]
  ·by_cases c2:j < off+vs.length
   ·rw [A8 (by omega),A8 (by omega),Xu,MH (by rw [CM];omega),CM,MI (by omega),OB (by omega)]
    congr 1 <;> omega
   ·rw [Xu,MH (by rw [CM];omega),CM,MI (by omega),MH (by omega),Tf]
    by_cases c3:j < l*n
    ·rw [A8 c3,A7 (by omega),<- hx j c3]
     congr 1 <;> omega
    ·rw [A7 c3]
     symm;apply SD9;omega
theorem SH9 {P:Program} {h:A2} {a:rQ} {vs:List vQ} {m sz l c:Nat} {F:Array vQ->A2->Prop} (hs:N5 h a vs) (hn:vs.length=m*sz) (k:F vs.toArray h):hp P (Builtin.firstCells sz m (lQ a l c)) F h:=by
 cases a with
 | none=>
  have:vs = []:=by
   cases vs with
   | nil=>rfl
   | cons y ys=>obtain ⟨ad,e,_⟩:=hs 0 y rfl;cases e
  subst this;exact k
 | some ad=>
  show hp P (loadCells ad (m*sz)) F h
  refine M8 ad _ 0 [] F ?_
  rw [<- hn]
  refine Em vs 0 [] _ (λj v hj=>?_) (by simpa using k)
  obtain ⟨ad',e,hc⟩:=hs j v hj
  cases e;rwa [J6]
theorem Tc6 {z:Array vQ} (hz:∀y ∈ z.toList,J0 y True) (m:Nat):∀y ∈ (Builtin.zeroCells z m).toList,J0 y True:=by
 intro y hy
 unfold Builtin.zeroCells at hy
 simp only [Array.toList_map,Ga] at hy
 obtain ⟨i,hi,rfl⟩:=hy
 simp at hi
 have hzp:0 < z.size:=by
  rcases Nat.eq_zero_or_pos z.size with e | e
  ·rw [e] at hi;omega
  ·exact e
 have hlt:i % z.size < z.size:=Nat.mod_lt _ hzp
 rw [getElem!_pos z _ hlt]
 exact hz _ (by simp)
theorem Sn1 {P:Program} {t elem rt:TypeId} {z:vQ} {h:A2} {a a3:rQ} {l c i m dc:Nat} {xs:List vQ} {K:kQ}
  (hu:Be P t=.slice elem) (hz:GZ P elem=some z) (hzs:z.cells.size=M2 P elem) (hz1:∀y ∈ z.cells.toList,J0 y True) (ho:CS h elem (M2 P elem) a l c xs) (hi:i<=l) (him:i+m<=c)
  (h3:m=0\/∃ad,a=some ad/\a3=some (ad.add (i*M2 P elem)))
  (k:∀h',CS h' elem (M2 P elem) a i c (xs.take (i*M2 P elem))->Fr (GU a) h h'->h'.size=h.size->K tQ h') :
  S01 P #[t] rt #[lQ a3 m dc] h K:=by
 have hu':=E4 hu (by simp)
 unfold S01 Builtin.clear_
 simp only [EC,Mh,B6,E0,C8 hu']
 have fin:=k h (ho.take hi) (Fr.refl _ _) rfl
 cases a3 with
 | none=>simp only [E0];exact fin
 | some ad3=>
  cases m with
  | zero=>simp only [E0];exact fin
  | succ m=>
   obtain ⟨ad,ea,e3⟩:=h3.resolve_left (by omega)
   cases e3
   simp only [B6,R5 hz]
   refine Y9 _ _ h 0 _ ?_
   have hzc:(Builtin.zeroCells z.cells (m+1)).toList.length=(m+1)*M2 P elem:=by rw [Sk0,AT,hzs]
   refine CS.write ho ea ?_ (Tc6 hz1 _) λh' w1 w2 w3 w4=>?_
   ·rw [hzc,<- BA];exact EJ _ him
   ·simp only [E0]
    exact k h' (w1 i (G0 _) hi) w3 w4
end
section
abbrev Pr:=Int × Int
def plt (p q:Pr):Prop:=p.1 < q.1\/(p.1=q.1/\p.2 < q.2)
instance (p q:Pr):Decidable (plt p q):=by unfold plt;infer_instance
def Th7 (p:Pr):List Pr->List Pr
 | []=>[p]
 | q :: r=>if plt q p then q :: Th7 p r else p :: q :: r
def Sf4 (ps:List Pr):Nat->List Pr
 | 0=>[]
 | i+1=>match ps[i]? with
  | none=>Sf4 ps i
  | some x=>if 0 < i/\ps[i - 1]? = some x then Sf4 ps i else Sf4 ps i ++ [x]
def Th8 (ps:List Pr) (k:Int):Nat:=(ps.findIdx? λp=>p.1 != k).getD ps.length
def S79 (ps:List Pr):List Pr:=match ps with
 | []=>[]
 | p :: _=>Sf4 (ps.take (Th8 ps p.1)) (Th8 ps p.1)
end
section
set_option maxRecDepth 100000

end
section

end
section

end
section
structure Yg (es:List MapEntry) (kvs:List (Int × vQ)):Prop where
 eq:es.map (λe=>(e.key,e.val))=kvs.map λx=>(Value.int .i64 x.1,x.2)
 nd:(kvs.map Prod.fst).Nodup
def Dt (kvs:List (Int × vQ)) (k:Int):Option vQ:=(kvs.find? λx=>x.1 == k).map Prod.snd
theorem Yg.cons {e:MapEntry} {es:List MapEntry} {kvs:List (Int × vQ)} (H:Yg (e :: es) kvs):∃k v kvs',kvs=(k,v) :: kvs'/\e.key=iQ k/\e.val=v/\Yg es kvs'/\k ∉ kvs'.map Prod.fst:=by
 cases kvs with
 | nil=>have:=H.eq;simp at this
 | cons x kvs'=>
  obtain ⟨k,v⟩:=x
  have h1:=H.eq
  simp only [GY,List.cons.injEq,Prod.mk.injEq] at h1
  have h2:=H.nd
  simp only [GY,Sk8] at h2
  exact ⟨k,v,kvs',rfl,h1.1.1,h1.1.2,⟨h1.2,h2.2⟩,h2.1⟩
theorem Rs {kind:IntKind} {k:Int}:∀ {es:List MapEntry} {kvs:List (Int × vQ)} (i:Nat),Yg es kvs ->
  ∃r,Instr.findNow (.int kind) (iQ k) es i=some r/\((r=none/\Dt kvs k=none/\k ∉ kvs.map Prod.fst)\/∃j v,r=some (i+j,v)/\Dt kvs k=some v/\kvs[j]? = some (k,v)):=by
 intro es
 induction es with
 | nil=>
  intro kvs i H
  have:kvs = []:=by have:=H.eq;simpa using this.symm
  subst this
  exact ⟨none,rfl,.inl ⟨rfl,rfl,by simp⟩⟩
 | cons e es ih=>
  intro kvs i H
  obtain ⟨k',v,kvs',rfl,hk,hv,H',hn⟩:=H.cons
  unfold Instr.findNow
  rw [hk]
  by_cases e1:k=k'
  ·subst e1
   refine ⟨some (i,e.val),?_,.inr ⟨0,v,by rw [hv];rfl,by simp [Dt],rfl⟩⟩
   simp [Instr.sameNow]
  ·obtain ⟨r,h1,h2⟩:=ih (i+1) H'
   refine ⟨r,?_,?_⟩
   ·have:Instr.sameNow (.int kind) (iQ k) (iQ k')=some false:=by simp [Instr.sameNow,e1]
    rw [this];exact h1
   ·have hm:Dt ((k',v) :: kvs') k=Dt kvs' k:=by
     unfold Dt
     rw [SD8 (by simpa using λh=>e1 h.symm)]
    rcases h2 with ⟨rfl,h3,h4⟩ | ⟨j,v',h3,h4,h5⟩
    ·refine .inl ⟨rfl,by rw [hm,h3],?_⟩
     simp only [GY,ED,not_or]
     exact ⟨e1,h4⟩
    ·exact .inr ⟨j+1,v',by rw [h3];congr 2;omega,by rw [hm,h4],by simpa using h5⟩
theorem Nh {kvs:List (Int × vQ)} {k:Int} {v:vQ} (nd:(kvs.map Prod.fst).Nodup) (h:(k,v) ∈ kvs):Dt kvs k=some v:=by
 unfold Dt
 induction kvs with
 | nil=>cases h
 | cons x kvs ih=>
  simp only [GY,Sk8] at nd
  rcases ED.1 h with rfl | h
  ·simp
  ·have:x.1≠k:=λe=>nd.1 (by rw [e];exact Ga.2 ⟨_,h,rfl⟩)
   rw [SD8 (by simpa using this)]
   exact ih nd.2 h
theorem KI {kvs:List (Int × vQ)} {k:Int} (h:k ∉ kvs.map Prod.fst):Dt kvs k=none:=by
 unfold Dt
 rw [Option.map_eq_none_iff,List.find?_eq_none]
 intro x hx e
 exact h (Ga.2 ⟨x,hx,by simpa using e⟩)
def EF (h:A2) (m:Nat) (f:Int->Option vQ):Prop:=∃es c kvs,h[m]? = some (.map es c)/\Yg es.toList kvs/\∀k,Dt kvs k=f k
theorem EF.keep {h h':A2} {m:Nat} {f:Int->Option vQ} (H:EF h m f) (e:h'[m]? = h[m]?):EF h' m f:=by
 obtain ⟨es,c,kvs,h1,h2,h3⟩:=H
 exact ⟨es,c,kvs,e.trans h1,h2,h3⟩
theorem EF.lt {h:A2} {m:Nat} {f:Int->Option vQ} (H:EF h m f):m < h.size:=by
 obtain ⟨es,c,kvs,h1,_⟩:=H
 exact (Jx.1 h1).1
theorem EF.new (h:A2):EF (h.push (.map #[] 0)) h.size (λ_=>none):=⟨#[],0,[],Ap _ _,⟨rfl,Ti⟩,λ_=>rfl⟩
section
variable {P:Program} {t kt et:TypeId}
theorem KJ {h:A2} {m:Nat} {es:Array MapEntry} {c:Nat} (e:h[m]? = some (.map es c)) (F:Obj->A2->Prop):hp P (getObj m) F h=F (.map es c) h:=by
 simp only [getObj,hp,e]
theorem It {h:A2} {m:Nat} {es es':Array MapEntry} {c c':Nat} (e:h[m]? = some (.map es c)) (F:Unit->A2->Prop):hp P (setObj m (.map es' c')) F h=F () (h.setIfInBounds m (.map es' c')):=by
 simp only [setObj,hp,e]
theorem ET {n:Nat} {b:Bool} {v:vQ} {k:IntKind} (hu:P.underlying t=some (.int k)) (F:Unit->A2->Prop) (h:A2):hp P (Instr.checkKey b (n+1) t v) F h=F () h:=by
 simp only [Instr.checkKey,B6,C8 hu]
 cases v <;> rfl
theorem Gj {k:Int} {es:List MapEntry} {kvs:List (Int × vQ)} (hu:P.underlying kt=some (.int .i64)) (H:Yg es kvs) {F:Option (Nat × vQ)->A2->Prop} {h:A2}
  (H0:Dt kvs k=none->k ∉ kvs.map Prod.fst->F none h) (H1:∀j v,Dt kvs k=some v->kvs[j]? = some (k,v)->F (some (j,v)) h):hp P (Instr.findKey kt (iQ k) es) F h:=by
 obtain ⟨r,h1,h2⟩:=Rs (kind:=.i64) (k:=k) 0 H
 unfold Instr.findKey
 simp only [B6,C8 hu,h1]
 rcases h2 with ⟨rfl,h3,h4⟩ | ⟨j,v,rfl,h3,h4⟩
 ·exact H0 h3 h4
 ·rw [J6];exact H1 j v h3 h4
theorem Sf5 {h:A2} {m:Nat} {f:Int->Option vQ} {k:Int} {ok:Bool} {z:vQ} {K:kQ} (hu:Be P t=.map kt et) (hk:Be P kt=.int .i64) (hz:GZ P et=some z) (H:EF h m f)
  (kk:K (if ok then .tuple #[(f k).getD z,dQ (f k).isSome] else (f k).getD z) h):Lg P t (.map (some m)) (iQ k) ok h K:=by
 obtain ⟨es,c,kvs,h1,h2,h3⟩:=H
 unfold Lg Instr.lookup
 have hku:=E4 hk (by simp)
 simp only [B6,C8 (E4 hu (by simp)),KJ h1,E0,ET hku]
 refine Gj hku h2 (λe _=>?_) (λj v e _=>?_)
 ·rw [h3] at e
  simp only [B6,R5 hz,E0]
  rw [e] at kk
  exact kk
 ·rw [h3] at e
  rw [e] at kk
  exact kk
theorem SI0 {h:A2} {k:Int} {ok:Bool} {z:vQ} {K:kQ} (hu:Be P t=.map kt et) (hk:Be P kt=.int .i64) (hz:GZ P et=some z)
  (kk:K (if ok then .tuple #[z,dQ false] else z) h):Lg P t (.map none) (iQ k) ok h K:=by
 unfold Lg Instr.lookup
 have hku:=E4 hk (by simp)
 simp only [B6,C8 (E4 hu (by simp)),E0,ET hku]
 refine Gj (kvs:=[]) hku ⟨rfl,Ti⟩ (λe _=>?_) (λj v e _=>by cases e)
 simp only [B6,R5 hz,E0]
 exact kk
theorem Yg.push {es:List MapEntry} {kvs:List (Int × vQ)} {k:Int} {v:vQ} {c:Nat} (H:Yg es kvs) (hk:k ∉ kvs.map Prod.fst):Yg (es ++ [{ key:=iQ k,val:=v,born:=c }]) (kvs ++ [(k,v)]):=by
 refine ⟨by rw [GW,GW,H.eq];rfl,?_⟩
 rw [GW,List.nodup_append]
 exact ⟨H.nd,by simp,λa ha b hb=>by simp at hb;subst hb;exact λe=>hk (e ▸ ha)⟩
theorem Yg.modify {es:List MapEntry} {kvs:List (Int × vQ)} {k:Int} {v v0:vQ} {j:Nat} (H:Yg es kvs) (hj:kvs[j]? = some (k,v0)):Yg (es.modify j λe=>{ e with key:=iQ k,val:=v }) (kvs.set j (k,v)):=by
 have hlen:es.length=kvs.length:=by have:=GG List.length H.eq;simpa using this
 have hjl:=(IW.1 hj).1
 refine ⟨?_,?_⟩
 ·apply Tc
  intro i
  have h0:=GG (λL=>L[i]?) H.eq
  simp only [FD] at h0
  rw [FD,FD,List.getElem?_modify,OD]
  by_cases e:j=i
  ·subst e
   rw [A8 rfl,A8 hjl]
   rw [X7 (by omega)]
   simp
  ·rw [A7 e]
   simp only [A7 e]
   simpa using h0
 ·have:(kvs.set j (k,v)).map Prod.fst=kvs.map Prod.fst:=by
   apply Tc
   intro i
   rw [FD,FD,OD]
   by_cases e:j=i
   ·subst e
    rw [A8 rfl,A8 hjl,hj];rfl
   ·rw [A7 e]
  rw [this];exact H.nd
theorem Sn2 {kvs:List (Int × vQ)} {k:Int} {v:vQ} (hk:k ∉ kvs.map Prod.fst) (k':Int):Dt (kvs ++ [(k,v)]) k' = if k' = k then some v else Dt kvs k':=by
 unfold Dt
 rw [List.find?_append]
 by_cases e:k' = k
 ·subst e
  have:=KI hk
  unfold Dt at this
  rw [Option.map_eq_none_iff] at this
  rw [this,A8 rfl];simp
 ·rw [A7 e]
  have:([(k,v)]:List (Int × vQ)).find? (λx=>x.1 == k')=none:=by simpa using λh=>e h.symm
  rw [this];simp
theorem SI1 {kvs:List (Int × vQ)} {k:Int} {v v0:vQ} {j:Nat} (nd:(kvs.map Prod.fst).Nodup) (hj:kvs[j]? = some (k,v0)) (k':Int):Dt (kvs.set j (k,v)) k' = if k' = k then some v else Dt kvs k':=by
 have hjl:=(IW.1 hj).1
 have nd2:((kvs.set j (k,v)).map Prod.fst).Nodup:=by
  have:(kvs.set j (k,v)).map Prod.fst=kvs.map Prod.fst:=by
   apply Tc
   intro i
   rw [FD,FD,OD]
   by_cases e:j=i
   ·subst e
    rw [A8 rfl,A8 hjl,hj];rfl
   ·rw [A7 e]
  rw [this];exact nd
 by_cases e:k' = k
 ·subst e
  rw [A8 rfl]
  exact Nh nd2 (OF (i:=j) (by rw [OD,A8 rfl,A8 hjl]))
 ·rw [A7 e]
  cases hm:Dt kvs k' with
  | none=>
   apply KI
   intro hin
   obtain ⟨x,hx,ex⟩:=Ga.1 hin
   rcases S00 hx with hx | rfl
   ·have:=Nh nd (k:=k') (v:=x.2) (by rw [<- ex];exact hx)
    rw [hm] at this;cases this
   ·exact e ex.symm
  | some w=>
   have hin:(k',w) ∈ kvs:=by
    unfold Dt at hm
    obtain ⟨x,hx,ex⟩:=Option.map_eq_some_iff.1 hm
    have h1:=List.mem_of_find?_eq_some hx
    have h2:=List.find?_some hx
    have:x=(k',w):=by
     have h3:x.1=k':=by simpa using h2
     rw [<- h3,<- ex]
    rw [<- this];exact h1
   apply Nh nd2
   obtain ⟨i,hi,ei⟩:=Ta7 hin
   refine OF (i:=i) ?_
   rw [OD]
   by_cases e2:j=i
   ·subst e2
    rw [X7 hi,ei] at hj
    cases hj;exact absurd rfl e
   ·rw [A7 e2,X7 hi,ei]
theorem Tc7 {h:A2} {m:Nat} {f:Int->Option vQ} {k:Int} {v:vQ} {K:A2->Prop} (hu:Be P t=.map kt et) (hk:Be P kt=.int .i64) (H:EF h m f)
  (kk:∀h',EF h' m (λk'=>if k' = k then some v else f k')->h'.size=h.size->(∀c,c≠m->h'[c]? = h[c]?)->K h'):Se3 P t (.map (some m)) (iQ k) v h K:=by
 have hm:=H.lt
 obtain ⟨es,c,kvs,h1,h2,h3⟩:=H
 unfold Se3 Instr.mapUpdate
 have hku:=E4 hk (by simp)
 simp only [B6,C8 (E4 hu (by simp)),KJ h1,ET hku]
 refine Gj hku h2 (λe hn=>?_) (λj v0 e hj=>?_)
 ·simp only [It h1]
  refine kk _ ⟨_,_,kvs ++ [(k,v)],U2 hm,?_,λk'=>?_⟩ (by simp) (λc hc=>V4 hc)
  ·rw [Array.toList_push];exact h2.push hn
  ·rw [Sn2 hn,h3]
 ·have hlen:es.toList.length=kvs.length:=by have:=GG List.length h2.eq;simpa using this
  have hjl:=(IW.1 hj).1
  have hkey:((es[j]?).map (·.key)).getD (iQ k)=iQ k:=by
   have h0:=GG (λL=>L[j]?) h2.eq
   simp only [FD,hj,GQ] at h0
   cases hes:es[j]? with
   | none=>rw [hes] at h0;simp at h0
   | some x=>
    rw [hes] at h0
    simp only [JA,Option.some.injEq,Prod.mk.injEq] at h0
    simp [h0.1]
  rw [B6,hkey]
  have hst:∀(F:kQ),F (iQ k) h->hp P (Instr.keyThatStays (iQ k) (iQ k)) F h:=by
   intro F x
   unfold Instr.keyThatStays
   have:Instr.sameBits 10000 (iQ k) (iQ k)=true:=by simp [Instr.sameBits]
   rw [A8 this];exact x
  refine hst _ ?_
  simp only [It h1]
  refine kk _ ⟨_,_,kvs.set j (k,v),U2 hm,?_,λk'=>?_⟩ (by simp) (λc hc=>V4 hc)
  ·rw [Array.toList_modify];exact h2.modify hj
  ·rw [SI1 h2.nd hj,h3]
theorem KK {α β:Type} (f:α->β):∀(l:List α) (j:Nat),(l.eraseIdx j).map f=(l.map f).eraseIdx j:=by
 intro l
 induction l with
 | nil=>intro j;rfl
 | cons x l ih=>
  intro j
  cases j with
  | zero=>rfl
  | succ j=>simp only [List.eraseIdx_cons_succ,GY,ih]
theorem Yg.erase {es:List MapEntry} {kvs:List (Int × vQ)} (H:Yg es kvs) (j:Nat):Yg (es.eraseIdx j) (kvs.eraseIdx j):=by
 refine ⟨?_,?_⟩
 ·rw [KK,KK,H.eq]
 ·rw [KK];exact H.nd.sublist (List.eraseIdx_sublist _ _)
theorem Yh {kvs:List (Int × vQ)} {k:Int} {v0:vQ} {j:Nat} (nd:(kvs.map Prod.fst).Nodup) (hj:kvs[j]? = some (k,v0)) (k':Int):Dt (kvs.eraseIdx j) k' = if k' = k then none else Dt kvs k':=by
 induction kvs generalizing j with
 | nil=>simp at hj
 | cons x kvs ih=>
  simp only [GY,Sk8] at nd
  cases j with
  | zero=>
   simp only [Mh,Option.some.injEq] at hj
   subst hj
   rw [List.eraseIdx_cons_zero]
   by_cases e:k' = k
   ·subst e;rw [A8 rfl];exact KI nd.1
   ·rw [A7 e]
    unfold Dt
    rw [SD8 (by simpa using λh=>e h.symm)]
  | succ j=>
   simp only [QX] at hj
   rw [List.eraseIdx_cons_succ]
   have hin:k ∈ kvs.map Prod.fst:=Ga.2 ⟨_,OF hj,rfl⟩
   have hxk:x.1≠k:=λe=>nd.1 (e ▸ hin)
   have:=ih nd.2 hj
   unfold Dt at this ⊢
   by_cases e:x.1=k'
   ·rw [List.find?_cons_of_pos (by simpa using e),List.find?_cons_of_pos (by simpa using e),A7 (by rw [<- e];exact hxk)]
   ·rw [SD8 (by simpa using e),SD8 (by simpa using e)]
    exact this
theorem Tc8 {h:A2} {m:Nat} {f:Int->Option vQ} {k:Int} {rt:TypeId} {K:kQ} (hu:Be P t=.map kt et) (hk:Be P kt=.int .i64) (H:EF h m f)
  (kk:∀h',EF h' m (λk'=>if k' = k then none else f k')->h'.size=h.size->(∀c,c≠m->h'[c]? = h[c]?)->K tQ h'):Se4 P #[t,kt] rt #[.map (some m),iQ k] h K:=by
 have hm:=H.lt
 obtain ⟨es,c,kvs,h1,h2,h3⟩:=H
 have hku:=E4 hk (by simp)
 unfold Se4 Builtin.delete_
 simp only [EC,Mh,QX,B6,C8 (E4 hu (by simp)),KJ h1,ET hku]
 refine Gj hku h2 (λe hn=>?_) (λj v0 e hj=>?_)
 ·simp only [B6,It h1,E0]
  refine kk _ ⟨_,_,kvs,U2 hm,h2,λk'=>?_⟩ (by simp) (λc hc=>V4 hc)
  rw [h3]
  show f k' = if k' = k then none else f k'
  split
  ·subst k';rw [<- h3,e]
  ·rfl
 ·simp only [B6,It h1,E0]
  refine kk _ ⟨_,_,kvs.eraseIdx j,U2 hm,?_,λk'=>?_⟩ (by simp) (λc hc=>V4 hc)
  ·have:(es.eraseIdxIfInBounds j).toList=es.toList.eraseIdx j:=by
    unfold Array.eraseIdxIfInBounds
    split
    ·rw [Array.toList_eraseIdx]
    ·rw [List.eraseIdx_of_length_le (by simpa using Nat.not_lt.1 ‹_›)]
   rw [this];exact h2.erase j
  ·rw [Yh h2.nd hj,h3]
end
end
section
set_option maxRecDepth 100000
variable {K:kQ} {h:A2}
abbrev cf (f:FuncId):Array vQ->A2->(vQ->A2->Prop)->Prop:=Aj prog (.func (.func f) #[] #[])
abbrev nP (o:rQ) (F:Addr->Prop):Prop:=G5 (pQ o) (F3 (pQ o) F)
abbrev lI (k:IntKind) (h:A2) (a:Addr) (F:Int->Prop):Prop:=D2 h a (λv=>asInt k v F)
abbrev lP (h:A2) (a:Addr) (F:rQ->Prop):Prop:=D2 h a (λv=>C9 v F)
abbrev lS (h:A2) (a:Addr) (F:rQ->Nat->Nat->Prop):Prop:=D2 h a (λv=>D3 v F)
abbrev bd (n m:Int) (X:Prop):Prop:=((0:Int)<=n)/\((n < m)/\X)
abbrev ce (h:A2) (b i:Nat) (v:vQ) (X:Prop):Prop:=(A3 h ⟨b,i,none⟩=some v)/\X
def F26 (K:kQ) (h:A2)  : Prop:=
 (cf 56 #[lQ none 0 0] h λa b=>L8 a λa=>K (dQ (a.toList == (⟨#[97,108,108,32,99,97,108,108,115,32,48,32,100,111,110,101,32,48,32,102,117,108,108,32,48,32,112,97,105,114,115,32,48,32,101,109,112,116,121,32,48,32,115,116,101,112,115,32,48,32,109,105,115,115,101,100,32,48,10]⟩ : ByteArray).toList)) b)
theorem call26  (H:F26 K h ):A4 prog 26 #[] h K:=
 cQ Tryz.func26 H
abbrev I8 (h:A2) (a:Addr) (F:vQ->vQ->vQ->Prop):Prop:=D2 h a λv0=>D2 h (a.add 1) λv1=>D2 h (a.add 2) λv2=>F v0 v1 v2
abbrev da5 (h:A2) (a:Addr) (F:vQ->vQ->vQ->vQ->vQ->Prop):Prop:=D2 h a λv0=>D2 h (a.add 1) λv1=>D2 h (a.add 2) λv2=>D2 h (a.add 3) λv3=>D2 h (a.add 4) λv4=>F v0 v1 v2 v3 v4
abbrev da7 (h:A2) (a:Addr) (F:vQ->vQ->vQ->vQ->vQ->vQ->vQ->Prop):Prop:=D2 h a λv0=>D2 h (a.add 1) λv1=>D2 h (a.add 2) λv2=>D2 h (a.add 3) λv3=>D2 h (a.add 4) λv4=>D2 h (a.add 5) λv5=>D2 h (a.add 6) λv6=>F v0 v1 v2 v3 v4 v5 v6
abbrev S13 (h:A2) (a:Addr) (F:vQ->vQ->vQ->vQ->vQ->vQ->vQ->vQ->vQ->vQ->vQ->vQ->vQ->vQ->vQ->Prop):Prop:=D2 h a λv0=>D2 h (a.add 1) λv1=>D2 h (a.add 2) λv2=>D2 h (a.add 3) λv3=>D2 h (a.add 4) λv4=>D2 h (a.add 5) λv5=>D2 h (a.add 6) λv6=>D2 h (a.add 7) λv7=>D2 h (a.add 8) λv8=>D2 h (a.add 9) λv9=>D2 h (a.add 10) λv10=>D2 h (a.add 11) λv11=>D2 h (a.add 12) λv12=>D2 h (a.add 13) λv13=>D2 h (a.add 14) λv14=>F v0 v1 v2 v3 v4 v5 v6 v7 v8 v9 v10 v11 v12 v13 v14
abbrev dc3 (h:A2) (b:Nat) (v0 v1 v2:vQ) (X:Prop):Prop:=ce h b 0 v0 (ce h b 1 v1 (ce h b 2 v2 X))
abbrev SI2 (h:A2) (b:Nat) (v0 v1 v2 v3 v4 v5 v6 v7 v8 v9 v10 v11 v12 v13 v14:vQ) (X:Prop):Prop:=ce h b 0 v0 (ce h b 1 v1 (ce h b 2 v2 (ce h b 3 v3 (ce h b 4 v4 (ce h b 5 v5 (ce h b 6 v6 (ce h b 7 v7 (ce h b 8 v8 (ce h b 9 v9 (ce h b 10 v10 (ce h b 11 v11 (ce h b 12 v12 (ce h b 13 v13 (ce h b 14 v14 X))))))))))))))
abbrev de2 (s:Array vQ) (F:vQ->vQ->Prop):Prop:=D9 s 0 λv0=>D9 s 1 λv1=>F v0 v1
abbrev de3 (s:Array vQ) (F:vQ->vQ->vQ->Prop):Prop:=D9 s 0 λv0=>D9 s 1 λv1=>D9 s 2 λv2=>F v0 v1 v2
abbrev de5 (s:Array vQ) (F:vQ->vQ->vQ->vQ->vQ->Prop):Prop:=D9 s 0 λv0=>D9 s 1 λv1=>D9 s 2 λv2=>D9 s 3 λv3=>D9 s 4 λv4=>F v0 v1 v2 v3 v4
abbrev Jv (s:Array vQ) (F:vQ->vQ->vQ->vQ->vQ->vQ->vQ->Prop):Prop:=D9 s 0 λv0=>D9 s 1 λv1=>D9 s 2 λv2=>D9 s 3 λv3=>D9 s 4 λv4=>D9 s 5 λv5=>D9 s 6 λv6=>F v0 v1 v2 v3 v4 v5 v6
abbrev Th9 (s:Array vQ) (F:vQ->vQ->vQ->vQ->vQ->vQ->vQ->vQ->vQ->vQ->Prop):Prop:=D9 s 0 λv0=>D9 s 1 λv1=>D9 s 2 λv2=>D9 s 3 λv3=>D9 s 4 λv4=>D9 s 5 λv5=>D9 s 6 λv6=>D9 s 7 λv7=>D9 s 8 λv8=>D9 s 9 λv9=>F v0 v1 v2 v3 v4 v5 v6 v7 v8 v9
abbrev O8 (s:Array vQ) (F:vQ->vQ->vQ->vQ->vQ->vQ->vQ->vQ->vQ->vQ->vQ->vQ->vQ->vQ->vQ->Prop):Prop:=D9 s 0 λv0=>D9 s 1 λv1=>D9 s 2 λv2=>D9 s 3 λv3=>D9 s 4 λv4=>D9 s 5 λv5=>D9 s 6 λv6=>D9 s 7 λv7=>D9 s 8 λv8=>D9 s 9 λv9=>D9 s 10 λv10=>D9 s 11 λv11=>D9 s 12 λv12=>D9 s 13 λv13=>D9 s 14 λv14=>F v0 v1 v2 v3 v4 v5 v6 v7 v8 v9 v10 v11 v12 v13 v14
abbrev Rt (h:A2) (b:Nat) (F:vQ->vQ->Prop):Prop:=D2 h (aQ b) λv0=>D2 h ⟨b,1,none⟩ λv1=>F v0 v1
abbrev M0 (h:A2) (b:Nat) (F:vQ->vQ->vQ->Prop):Prop:=D2 h (aQ b) λv0=>D2 h ⟨b,1,none⟩ λv1=>D2 h ⟨b,2,none⟩ λv2=>F v0 v1 v2
abbrev dl4 (h:A2) (b:Nat) (F:vQ->vQ->vQ->vQ->Prop):Prop:=D2 h (aQ b) λv0=>D2 h ⟨b,1,none⟩ λv1=>D2 h ⟨b,2,none⟩ λv2=>D2 h ⟨b,3,none⟩ λv3=>F v0 v1 v2 v3
abbrev dl5 (h:A2) (b:Nat) (F:vQ->vQ->vQ->vQ->vQ->Prop):Prop:=D2 h (aQ b) λv0=>D2 h ⟨b,1,none⟩ λv1=>D2 h ⟨b,2,none⟩ λv2=>D2 h ⟨b,3,none⟩ λv3=>D2 h ⟨b,4,none⟩ λv4=>F v0 v1 v2 v3 v4
abbrev IE (h:A2) (b:Nat) (F:vQ->vQ->vQ->vQ->vQ->vQ->vQ->Prop):Prop:=D2 h (aQ b) λv0=>D2 h ⟨b,1,none⟩ λv1=>D2 h ⟨b,2,none⟩ λv2=>D2 h ⟨b,3,none⟩ λv3=>D2 h ⟨b,4,none⟩ λv4=>D2 h ⟨b,5,none⟩ λv5=>D2 h ⟨b,6,none⟩ λv6=>F v0 v1 v2 v3 v4 v5 v6
abbrev dl8 (h:A2) (b:Nat) (F:vQ->vQ->vQ->vQ->vQ->vQ->vQ->vQ->Prop):Prop:=D2 h (aQ b) λv0=>D2 h ⟨b,1,none⟩ λv1=>D2 h ⟨b,2,none⟩ λv2=>D2 h ⟨b,3,none⟩ λv3=>D2 h ⟨b,4,none⟩ λv4=>D2 h ⟨b,5,none⟩ λv5=>D2 h ⟨b,6,none⟩ λv6=>D2 h ⟨b,7,none⟩ λv7=>F v0 v1 v2 v3 v4 v5 v6 v7
abbrev dl9 (h:A2) (b:Nat) (F:vQ->vQ->vQ->vQ->vQ->vQ->vQ->vQ->vQ->Prop):Prop:=D2 h (aQ b) λv0=>D2 h ⟨b,1,none⟩ λv1=>D2 h ⟨b,2,none⟩ λv2=>D2 h ⟨b,3,none⟩ λv3=>D2 h ⟨b,4,none⟩ λv4=>D2 h ⟨b,5,none⟩ λv5=>D2 h ⟨b,6,none⟩ λv6=>D2 h ⟨b,7,none⟩ λv7=>D2 h ⟨b,8,none⟩ λv8=>F v0 v1 v2 v3 v4 v5 v6 v7 v8
abbrev Du (h:A2) (b:Nat) (F:vQ->vQ->vQ->vQ->vQ->vQ->vQ->vQ->vQ->vQ->Prop):Prop:=D2 h (aQ b) λv0=>D2 h ⟨b,1,none⟩ λv1=>D2 h ⟨b,2,none⟩ λv2=>D2 h ⟨b,3,none⟩ λv3=>D2 h ⟨b,4,none⟩ λv4=>D2 h ⟨b,5,none⟩ λv5=>D2 h ⟨b,6,none⟩ λv6=>D2 h ⟨b,7,none⟩ λv7=>D2 h ⟨b,8,none⟩ λv8=>D2 h ⟨b,9,none⟩ λv9=>F v0 v1 v2 v3 v4 v5 v6 v7 v8 v9
abbrev Ti0 (h:A2) (b:Nat) (F:vQ->vQ->vQ->vQ->vQ->vQ->vQ->vQ->vQ->vQ->vQ->vQ->Prop):Prop:=D2 h (aQ b) λv0=>D2 h ⟨b,1,none⟩ λv1=>D2 h ⟨b,2,none⟩ λv2=>D2 h ⟨b,3,none⟩ λv3=>D2 h ⟨b,4,none⟩ λv4=>D2 h ⟨b,5,none⟩ λv5=>D2 h ⟨b,6,none⟩ λv6=>D2 h ⟨b,7,none⟩ λv7=>D2 h ⟨b,8,none⟩ λv8=>D2 h ⟨b,9,none⟩ λv9=>D2 h ⟨b,10,none⟩ λv10=>D2 h ⟨b,11,none⟩ λv11=>F v0 v1 v2 v3 v4 v5 v6 v7 v8 v9 v10 v11
abbrev BO (h:A2) (b:Nat) (F:vQ->vQ->vQ->vQ->vQ->vQ->vQ->vQ->vQ->vQ->vQ->vQ->vQ->vQ->vQ->Prop):Prop:=D2 h (aQ b) λv0=>D2 h ⟨b,1,none⟩ λv1=>D2 h ⟨b,2,none⟩ λv2=>D2 h ⟨b,3,none⟩ λv3=>D2 h ⟨b,4,none⟩ λv4=>D2 h ⟨b,5,none⟩ λv5=>D2 h ⟨b,6,none⟩ λv6=>D2 h ⟨b,7,none⟩ λv7=>D2 h ⟨b,8,none⟩ λv8=>D2 h ⟨b,9,none⟩ λv9=>D2 h ⟨b,10,none⟩ λv10=>D2 h ⟨b,11,none⟩ λv11=>D2 h ⟨b,12,none⟩ λv12=>D2 h ⟨b,13,none⟩ λv13=>D2 h ⟨b,14,none⟩ λv14=>F v0 v1 v2 v3 v4 v5 v6 v7 v8 v9 v10 v11 v12 v13 v14
abbrev dw2 (h:A2) (b:Nat) (v0 v1:vQ) (F:A2->Prop):Prop:=C7 h (aQ b) v0 λh1=>C7 h1 ⟨b,1,none⟩ v1 λh2=>F h2
abbrev dw3 (h:A2) (b:Nat) (v0 v1 v2:vQ) (F:A2->Prop):Prop:=C7 h (aQ b) v0 λh1=>C7 h1 ⟨b,1,none⟩ v1 λh2=>C7 h2 ⟨b,2,none⟩ v2 λh3=>F h3
abbrev dw5 (h:A2) (b:Nat) (v0 v1 v2 v3 v4:vQ) (F:A2->Prop):Prop:=C7 h (aQ b) v0 λh1=>C7 h1 ⟨b,1,none⟩ v1 λh2=>C7 h2 ⟨b,2,none⟩ v2 λh3=>C7 h3 ⟨b,3,none⟩ v3 λh4=>C7 h4 ⟨b,4,none⟩ v4 λh5=>F h5
abbrev dw7 (h:A2) (b:Nat) (v0 v1 v2 v3 v4 v5 v6:vQ) (F:A2->Prop):Prop:=C7 h (aQ b) v0 λh1=>C7 h1 ⟨b,1,none⟩ v1 λh2=>C7 h2 ⟨b,2,none⟩ v2 λh3=>C7 h3 ⟨b,3,none⟩ v3 λh4=>C7 h4 ⟨b,4,none⟩ v4 λh5=>C7 h5 ⟨b,5,none⟩ v5 λh6=>C7 h6 ⟨b,6,none⟩ v6 λh7=>F h7
abbrev SI3 (h:A2) (b:Nat) (v0 v1 v2 v3 v4 v5 v6 v7 v8 v9:vQ) (F:A2->Prop):Prop:=C7 h (aQ b) v0 λh1=>C7 h1 ⟨b,1,none⟩ v1 λh2=>C7 h2 ⟨b,2,none⟩ v2 λh3=>C7 h3 ⟨b,3,none⟩ v3 λh4=>C7 h4 ⟨b,4,none⟩ v4 λh5=>C7 h5 ⟨b,5,none⟩ v5 λh6=>C7 h6 ⟨b,6,none⟩ v6 λh7=>C7 h7 ⟨b,7,none⟩ v7 λh8=>C7 h8 ⟨b,8,none⟩ v8 λh9=>C7 h9 ⟨b,9,none⟩ v9 λh10=>F h10
abbrev Yi (h:A2) (b:Nat) (v0 v1 v2 v3 v4 v5 v6 v7 v8 v9 v10 v11 v12 v13 v14:vQ) (F:A2->Prop):Prop:=C7 h (aQ b) v0 λh1=>C7 h1 ⟨b,1,none⟩ v1 λh2=>C7 h2 ⟨b,2,none⟩ v2 λh3=>C7 h3 ⟨b,3,none⟩ v3 λh4=>C7 h4 ⟨b,4,none⟩ v4 λh5=>C7 h5 ⟨b,5,none⟩ v5 λh6=>C7 h6 ⟨b,6,none⟩ v6 λh7=>C7 h7 ⟨b,7,none⟩ v7 λh8=>C7 h8 ⟨b,8,none⟩ v8 λh9=>C7 h9 ⟨b,9,none⟩ v9 λh10=>C7 h10 ⟨b,10,none⟩ v10 λh11=>C7 h11 ⟨b,11,none⟩ v11 λh12=>C7 h12 ⟨b,12,none⟩ v12 λh13=>C7 h13 ⟨b,13,none⟩ v13 λh14=>C7 h14 ⟨b,14,none⟩ v14 λh15=>F h15
abbrev g27 (K:kQ) (h H1:A2) (xa:rQ) (xb:Nat):Prop:=
 (R3 λI0=>GI λm1=>(I0 [tQ,iQ 0,tQ] (H1.push (oQ Dp 105)))/\(∀(a b c:vQ) (d:G4) (d:A2),(I0 [a,b,c] d)->(asInt .i64 b λe=>D4 (decide (e < ((xb:Nat):Int))) (Il b λe=>bd e ((xb:Nat):Int) (F3 (pQ xa) λf=>D2 d (f.add (e.toNat*7)) λg=>D2 d (Addr.add (f.add (e.toNat*7)) 1) λi=>D2 d (Addr.add (f.add (e.toNat*7)) 2) λj=>D2 d (Addr.add (f.add (e.toNat*7)) 3) λk=>D2 d (Addr.add (f.add (e.toNat*7)) 4) λl=>D2 d (Addr.add (f.add (e.toNat*7)) 5) λm=>D2 d (Addr.add (f.add (e.toNat*7)) 6) λe=>C7 (d.push (oQ Dp 68)) (aQ d.size) g λf=>C7 f ⟨d.size,1,none⟩ i λf=>C7 f ⟨d.size,2,none⟩ j λf=>C7 f ⟨d.size,3,none⟩ k λf=>C7 f ⟨d.size,4,none⟩ l λf=>C7 f ⟨d.size,5,none⟩ m λf=>C7 f ⟨d.size,6,none⟩ e λe=>IE e d.size λf g i j k l m=>cf 57 #[.agg #[f,g,i,j,k,l,m]] e λe f=>asAgg e λe=>G3 e 7 (Jv e λe g i j k l m=>C7 (f.push (oQ Dp 105)) (aQ f.size) e λe=>C7 e ⟨f.size,1,none⟩ g λe=>C7 e ⟨f.size,2,none⟩ i λe=>C7 e ⟨f.size,3,none⟩ j λe=>C7 e ⟨f.size,4,none⟩ k λe=>C7 e ⟨f.size,5,none⟩ l λe=>C7 e ⟨f.size,6,none⟩ m λe=>R3 λI48=>GI λm49=>(I48 [a,iQ 0] e)/\(∀(e g:vQ) (i:G4) (i:A2),(I48 [e,g] i)->(asInt .i64 g λj=>D4 (decide (j < 7)) (asInt .i64 g λj=>bd j 7 (lI .i64 i ((aQ H1.size).add (j.toNat*1)) λk=>bd j 7 (lI .i64 i ((aQ f.size).add (j.toNat*1)) λf=>bd j 7 (C7 i ((aQ H1.size).add (j.toNat*1)) (iQ (wrap .i64 (k+f))) λf=>asInt .i64 g λk=>(I48 [iQ j,iQ (wrap .i64 (k+1))] f)/\((m49 [iQ j,iQ (wrap .i64 (k+1))] f) < (m49 [e,g] i)))))) (asInt .i64 b λf=>(I0 [e,iQ (wrap .i64 (f+1)),g] i)/\((m1 [e,iQ (wrap .i64 (f+1)),g] i) < (m1 [a,b,c] d)))))))) (IE d H1.size λa b c e f g i=>cf 58 #[.agg #[a,b,c,e,f,g,i]] d λa b=>asAgg a λa=>G3 a 7 (Jv a λa c d e f g i=>dw7 b h.size a c d e f g i λa=>IE a h.size λb c d e f g i=>K (.agg #[b,c,d,e,f,g,i]) a)))))
def F27 (K:kQ) (h:A2) (xa:rQ) (xb xc:Nat):Prop:=
 (g27 K h (h.push (oQ Dp 68)) xa xb)
theorem call27 {xa:rQ} {xb xc:Nat} (H:F27 K h xa xb xc):A4 prog 27 #[(lQ xa xb xc)] h K:=
 cQ Tryz.func27 H
def F56 (K:kQ) (h:A2) (xa:rQ) (xb xc:Nat):Prop:=
 (R3 λI0=>GI λm1=>(I0 [tQ,iQ 0] (h.push (oQ #[pQ none,lQ none 0 0] 162)))/\(∀(a b:vQ) (c:G4) (c:A2),(I0 [a,b] c)->(asInt .i64 b λd=>D4 (decide (d < ((xb:Nat):Int))) (asInt .i64 b λd=>Il b λe=>bd e ((xb:Nat):Int) (F3 (pQ xa) λf=>D2 c (f.add (e.toNat*7)) λg=>D2 c (Addr.add (f.add (e.toNat*7)) 1) λi=>D2 c (Addr.add (f.add (e.toNat*7)) 2) λj=>D2 c (Addr.add (f.add (e.toNat*7)) 3) λk=>D2 c (Addr.add (f.add (e.toNat*7)) 4) λl=>D2 c (Addr.add (f.add (e.toNat*7)) 5) λm=>D2 c (Addr.add (f.add (e.toNat*7)) 6) λe=>C7 (c.push (oQ Dp 68)) (aQ c.size) g λf=>C7 f ⟨c.size,1,none⟩ i λf=>C7 f ⟨c.size,2,none⟩ j λf=>C7 f ⟨c.size,3,none⟩ k λf=>C7 f ⟨c.size,4,none⟩ l λf=>C7 f ⟨c.size,5,none⟩ m λf=>C7 f ⟨c.size,6,none⟩ e λe=>IE e c.size λf g i j k l m=>cf 96 #[iQ d] e λe n=>L8 e λe=>ce n c.size 0 f (ce n c.size 1 g (ce n c.size 2 i (ce n c.size 3 j (ce n c.size 4 k (ce n c.size 5 l (ce n c.size 6 m ((((((7+e.size):Nat):Int):Int)<=9223372036854775807)/\(cf 95 #[.string ((⟨#[116,104,114,101,97,100,32]⟩ : ByteArray) ++ e),.agg #[f,g,i,j,k,l,m]] n λe f=>L8 e λe=>cf 94 #[pQ (some (aQ h.size)),.string e] f λe e=>asInt .i64 b λf=>(I0 [iQ d,iQ (wrap .i64 (f+1))] e)/\((m1 [iQ d,iQ (wrap .i64 (f+1))] e) < (m1 [a,b] c)))))))))))) (cf 27 #[lQ xa xb xc] c λa b=>asAgg a λa=>G3 a 7 (Jv a λa c d e f g i=>cf 95 #[.string (⟨#[97,108,108]⟩ : ByteArray),.agg #[a,c,d,e,f,g,i]] b λa b=>L8 a λa=>cf 94 #[pQ (some (aQ h.size)),.string a] b λa a=>cf 97 #[pQ (some (aQ h.size))] a λa b=>L8 a λa=>K (.string a) b)))))
theorem call56 {xa:rQ} {xb xc:Nat} (H:F56 K h xa xb xc):A4 prog 56 #[(lQ xa xb xc)] h K:=
 cQ Tryz.func56 H
abbrev g57 (K:kQ) (h H1 H2:A2):Prop:=
 (lI .i64 H2 (aQ h.size) λa=>lI .i64 H2 ⟨h.size,1,none⟩ λb=>lI .i64 H2 ⟨h.size,2,none⟩ λc=>lI .i64 H2 ⟨h.size,3,none⟩ λd=>lI .i64 H2 ⟨h.size,4,none⟩ λe=>lI .i64 H2 ⟨h.size,5,none⟩ λf=>lI .i64 H2 ⟨h.size,6,none⟩ λg=>dw7 H2 H1.size (iQ a) (iQ b) (iQ c) (iQ d) (iQ e) (iQ f) (iQ g) λa=>IE a H1.size λb c d e f g i=>K (.agg #[b,c,d,e,f,g,i]) a)
def F57 (K:kQ) (h:A2) (xa xb xc xd xe xf xg:Int):Prop:=
 (g57 K h (h.push (oQ #[iQ xa,iQ xb,iQ xc,iQ xd,iQ xe,iQ xf,iQ xg] 68)) (Array.push (h.push (oQ #[iQ xa,iQ xb,iQ xc,iQ xd,iQ xe,iQ xf,iQ xg] 68)) (oQ Dp 105)))
theorem call57 {xa xb xc xd xe xf xg:Int} (H:F57 K h xa xb xc xd xe xf xg):A4 prog 57 #[(.agg #[(iQ xa),(iQ xb),(iQ xc),(iQ xd),(iQ xe),(iQ xf),(iQ xg)])] h K:=
 cQ Tryz.func57 H
abbrev g58 (K:kQ) (h H1 H2:A2):Prop:=
 (bd 0 7 (lI .i64 H2 (aQ h.size) λa=>bd 1 7 (lI .i64 H2 ⟨h.size,1,none⟩ λb=>bd 2 7 (lI .i64 H2 ⟨h.size,2,none⟩ λc=>bd 3 7 (lI .i64 H2 ⟨h.size,3,none⟩ λd=>bd 4 7 (lI .i64 H2 ⟨h.size,4,none⟩ λe=>bd 5 7 (lI .i64 H2 ⟨h.size,5,none⟩ λf=>bd 6 7 (lI .i64 H2 ⟨h.size,6,none⟩ λg=>dw7 H2 H1.size (iQ a) (iQ b) (iQ c) (iQ d) (iQ e) (iQ f) (iQ g) λa=>IE a H1.size λb c d e f g i=>K (.agg #[b,c,d,e,f,g,i]) a))))))))
def F58 (K:kQ) (h:A2) (xa xb xc xd xe xf xg:Int):Prop:=
 (g58 K h (h.push (oQ #[iQ xa,iQ xb,iQ xc,iQ xd,iQ xe,iQ xf,iQ xg] 105)) (Array.push (h.push (oQ #[iQ xa,iQ xb,iQ xc,iQ xd,iQ xe,iQ xf,iQ xg] 105)) (oQ Dp 68)))
theorem call58 {xa xb xc xd xe xf xg:Int} (H:F58 K h xa xb xc xd xe xf xg):A4 prog 58 #[(.agg #[(iQ xa),(iQ xb),(iQ xc),(iQ xd),(iQ xe),(iQ xf),(iQ xg)])] h K:=
 cQ Tryz.func58 H
def F94 (K:kQ) (h:A2) (xa:rQ) (xb:ByteArray):Prop:=
 (cf 136 #[pQ xa] h λa a=>nP xa λb=>lS a (b.add 1) λb c d=>U4 prog #[26,9] 26 #[lQ b c d,.string xb] a λa b=>D3 a λa c d=>nP xa λe=>C7 b (e.add 1) (lQ a c d) λa=>K (.tuple #[iQ ((xb.size:Nat):Int),.nilIface]) a)
theorem call94 {xa:rQ} {xb:ByteArray} (H:F94 K h xa xb):A4 prog 94 #[(pQ xa),(.string xb)] h K:=
 cQ Tryz.func94 H
abbrev g95 (K:kQ) (h H1:A2) (xa:ByteArray):Prop:=
 (IE H1 h.size λa b c d e f g=>cf 57 #[.agg #[a,b,c,d,e,f,g]] H1 λa b=>asAgg a λa=>G3 a 7 (Jv a λa c d e f g i=>R3 λI17=>GI λm18=>(I17 [.string xa,tQ,tQ,iQ 0] b)/\(∀(b j k l:vQ) (m:G4) (m:A2),(I17 [b,j,k,l] m)->(asInt .i64 l λn=>D4 (decide (n < 7)) (asInt .i64 l λn=>Il l λo=>bd o 7 (EM prog 3 #[a,c,d,e,f,g,i] (o.toNat*1) λa=>asInt .i64 a λa=>L8 b λc=>cf 137 #[] m λd e=>asAgg d λd=>G3 d 7 (Jv d λd f g i o p q=>bd n 7 (EM prog 9 #[d,f,g,i,o,p,q] (n.toNat*1) λd=>L8 d λd=>(((((1+d.size):Nat):Int):Int)<=9223372036854775807)/\((((((((⟨#[32]⟩ : ByteArray) ++ d).size+1):Nat):Int):Int)<=9223372036854775807)/\(cf 96 #[iQ a] e λe f=>L8 e λe=>((((((((⟨#[32]⟩ : ByteArray) ++ d) ++ (⟨#[32]⟩ : ByteArray)).size+e.size):Nat):Int):Int)<=9223372036854775807)/\((((((c.size+((((⟨#[32]⟩ : ByteArray) ++ d) ++ (⟨#[32]⟩ : ByteArray)) ++ e).size):Nat):Int):Int)<=9223372036854775807)/\(asInt .i64 l λg=>(I17 [.string (c ++ ((((⟨#[32]⟩ : ByteArray) ++ d) ++ (⟨#[32]⟩ : ByteArray)) ++ e)),iQ n,iQ a,iQ (wrap .i64 (g+1))] f)/\((m18 [.string (c ++ ((((⟨#[32]⟩ : ByteArray) ++ d) ++ (⟨#[32]⟩ : ByteArray)) ++ e)),iQ n,iQ a,iQ (wrap .i64 (g+1))] f) < (m18 [b,j,k,l] m)))))))))) (L8 b λa=>(((((a.size+1):Nat):Int):Int)<=9223372036854775807)/\(K (.string (a ++ (⟨#[10]⟩ : ByteArray))) m))))))
def F95 (K:kQ) (h:A2) (xa:ByteArray) (xb xc xd xe xf xg xh:Int):Prop:=
 (g95 K h (h.push (oQ #[iQ xb,iQ xc,iQ xd,iQ xe,iQ xf,iQ xg,iQ xh] 68)) xa)
theorem call95 {xa:ByteArray} {xb xc xd xe xf xg xh:Int} (H:F95 K h xa xb xc xd xe xf xg xh):A4 prog 95 #[(.string xa),(.agg #[(iQ xb),(iQ xc),(iQ xd),(iQ xe),(iQ xf),(iQ xg),(iQ xh)])] h K:=
 cQ Tryz.func95 H
def F96 (K:kQ) (h:A2) (xa:Int):Prop:=
 (cf 128 #[.agg #[iQ 2,.int .u32 (wrap .u32 xa),.int .u32 0]] h λa b=>L8 a λa=>cf 127 #[.string a,.string (⟨#[32,48]⟩ : ByteArray)] b λa b=>L8 a λa=>K (.string a) b)
theorem call96 {xa:Int} (H:F96 K h xa):A4 prog 96 #[(iQ xa)] h K:=
 cQ Tryz.func96 H
def F97 (K:kQ) (h:A2) (xa:rQ):Prop:=
 (nP xa λa=>lS h (a.add 1) λa b c=>nP xa λd=>D2 h (d.add 1) λe=>D3 e λf f g=>Tb0 prog #[26] 226 #[lQ a b c] h λa b=>C9 a λa=>((A3 b (d.add 1))=(some e))/\(Tb1 prog #[226,3] 9 #[pQ a,iQ (f:Int)] b λa b=>L8 a λa=>K (.string a) b))
theorem call97 {xa:rQ} (H:F97 K h xa):A4 prog 97 #[(pQ xa)] h K:=
 cQ Tryz.func97 H
def F136 (K:kQ) (h:A2) (xa:rQ):Prop:=
 (nP xa λa=>lP h a λa=>D4 (Option.isNone a) (OI prog 160 267 (pQ xa) h λa b=>Rb prog (.func (.func 203) #[] #[]) #[a] b λa b=>OI prog 267 160 a b λa b=>C9 a λa=>nP xa λc=>C7 b c (pQ a) λa=>K tQ a) (nP xa λa=>lP h a λa=>To prog .neq 160 a xa h λa b=>asBool a λa=>D4 a False (K tQ b)))
theorem call136 {xa:rQ} (H:F136 K h xa):A4 prog 136 #[(pQ xa)] h K:=
 cQ Tryz.func136 H
def F137 (K:kQ) (h:A2)  : Prop:=
 (C7 (h.push (oQ #[.string (⟨#[]⟩ : ByteArray),.string (⟨#[]⟩ : ByteArray),.string (⟨#[]⟩ : ByteArray),.string (⟨#[]⟩ : ByteArray),.string (⟨#[]⟩ : ByteArray),.string (⟨#[]⟩ : ByteArray),.string (⟨#[]⟩ : ByteArray)] 224)) (aQ h.size) (.string (⟨#[99,97,108,108,115]⟩ : ByteArray)) λa=>C7 a ⟨h.size,1,none⟩ (.string (⟨#[100,111,110,101]⟩ : ByteArray)) λa=>C7 a ⟨h.size,2,none⟩ (.string (⟨#[102,117,108,108]⟩ : ByteArray)) λa=>C7 a ⟨h.size,3,none⟩ (.string (⟨#[112,97,105,114,115]⟩ : ByteArray)) λa=>C7 a ⟨h.size,4,none⟩ (.string (⟨#[101,109,112,116,121]⟩ : ByteArray)) λa=>C7 a ⟨h.size,5,none⟩ (.string (⟨#[115,116,101,112,115]⟩ : ByteArray)) λa=>C7 a ⟨h.size,6,none⟩ (.string (⟨#[109,105,115,115,101,100]⟩ : ByteArray)) λa=>IE a h.size λb c d e f g i=>K (.agg #[b,c,d,e,f,g,i]) a)
theorem call137  (H:F137 K h ):A4 prog 137 #[] h K:=
 cQ Tryz.func137 H
def F127 (K:kQ) (h:A2) (xa xb:ByteArray):Prop:=
 (cf 198 #[.string xa,.string xb] h λa b=>L8 a λa=>K (.string a) b)
theorem call127 {xa xb:ByteArray} (H:F127 K h xa xb):A4 prog 127 #[(.string xa),(.string xb)] h K:=
 cQ Tryz.func127 H
abbrev g128 (K:kQ) (h H1:A2):Prop:=
 (M0 H1 h.size λa b c=>cf 197 #[.agg #[a,b,c]] H1 λa b=>asBool a λa=>D4 (!a) (K (.string (⟨#[63]⟩ : ByteArray)) b) (lI .i64 b (aQ h.size) λa=>D4 (a == 0) (K (.string (⟨#[100,111,110,101]⟩ : ByteArray)) b) (D4 (a == 1) (K (.string (⟨#[102,117,108,108]⟩ : ByteArray)) b) (D4 (a == 3) (K (.string (⟨#[101,109,112,116,121]⟩ : ByteArray)) b) (lI .u32 b ⟨h.size,1,none⟩ λa=>D2 b ⟨h.size,2,none⟩ λc=>asInt .u32 c λd=>cf 199 #[.int .u32 a] b λa b=>L8 a λa=>ce b h.size 2 c ((((((a.size+1):Nat):Int):Int)<=9223372036854775807)/\(cf 199 #[.int .u32 d] b λb c=>L8 b λb=>((((((a ++ (⟨#[32]⟩ : ByteArray)).size+b.size):Nat):Int):Int)<=9223372036854775807)/\(K (.string ((a ++ (⟨#[32]⟩ : ByteArray)) ++ b)) c))))))))
def F128 (K:kQ) (h:A2) (xa xb xc:Int):Prop:=
 (g128 K h (h.push (oQ #[iQ xa,.int .u32 xb,.int .u32 xc] 43)))
theorem call128 {xa xb xc:Int} (H:F128 K h xa xb xc):A4 prog 128 #[(.agg #[(iQ xa),(.int .u32 xb),(.int .u32 xc)])] h K:=
 cQ Tryz.func128 H
def F198 (K:kQ) (h:A2) (xa xb:ByteArray):Prop:=
 (cf 275 #[.string xa,.string xb] h λa b=>asBool a λa=>D4 a (((0:Int)<=(wrap .i64 (((xa.size:Nat):Int) - ((xb.size:Nat):Int))))/\((((wrap .i64 (((xa.size:Nat):Int) - ((xb.size:Nat):Int))):Int)<=((xa.size:Nat):Int))/\(K (.string (xa.extract 0 (wrap .i64 (((xa.size:Nat):Int) - ((xb.size:Nat):Int))).toNat)) b))) (K (.string xa) b))
theorem call198 {xa xb:ByteArray} (H:F198 K h xa xb):A4 prog 198 #[(.string xa),(.string xb)] h K:=
 cQ Tryz.func198 H
abbrev g197 (K:kQ) (h H1:A2):Prop:=
 (lI .i64 H1 (aQ h.size) λa=>D4 (a == 2) (K (dQ true) H1) (R3 λI2=>(D4 (a == 0) (I2 [dQ true] H1) (D4 (a == 1) (I2 [dQ true] H1) (I2 [dQ (a == 3)] H1)))/\(∀(a:vQ) (b:G4) (b:A2),(I2 [a] b)->(asBool a λa=>D4 a (lI .u32 b ⟨h.size,1,none⟩ λa=>D4 (a == 0) (lI .u32 b ⟨h.size,2,none⟩ λa=>K (dQ (a == 0)) b) (K (dQ false) b)) (K (dQ false) b)))))
def F197 (K:kQ) (h:A2) (xa xb xc:Int):Prop:=
 (g197 K h (h.push (oQ #[iQ xa,.int .u32 xb,.int .u32 xc] 43)))
theorem call197 {xa xb xc:Int} (H:F197 K h xa xb xc):A4 prog 197 #[(.agg #[(iQ xa),(.int .u32 xb),(.int .u32 xc)])] h K:=
 cQ Tryz.func197 H
def F199 (K:kQ) (h:A2) (xa:Int):Prop:=
 (R3 λI0=>GI λm1=>(I0 [.int .u32 xa,.string (⟨#[]⟩ : ByteArray),.string (⟨#[]⟩ : ByteArray)] h)/\(∀(a b c:vQ) (d:G4) (d:A2),(I0 [a,b,c] d)->(asInt .u32 a λe=>((10:Int)≠0)/\(OI prog 26 9 (lQ (some (aQ d.size)) 1 1) (d.push (oQ #[.int .u8 (wrap .u8 (wrap .u32 (48+(Int.tmod e 10))))] 5)) λe f=>L8 e λe=>L8 c λg=>(((((e.size+g.size):Nat):Int):Int)<=9223372036854775807)/\(asInt .u32 a λi=>((10:Int)≠0)/\(D4 ((wrap .u32 (Int.tdiv i 10)) == 0) (K (.string (e ++ g)) f) ((I0 [.int .u32 (wrap .u32 (Int.tdiv i 10)),b,.string (e ++ g)] f)/\((m1 [.int .u32 (wrap .u32 (Int.tdiv i 10)),b,.string (e ++ g)] f) < (m1 [a,b,c] d)))))))))
theorem call199 {xa:Int} (H:F199 K h xa):A4 prog 199 #[(.int .u32 xa)] h K:=
 cQ Tryz.func199 H
def F275 (K:kQ) (h:A2) (xa xb:ByteArray):Prop:=
 (D4 (decide (((xa.size:Nat):Int) >= ((xb.size:Nat):Int))) (((0:Int)<=(wrap .i64 (((xa.size:Nat):Int) - ((xb.size:Nat):Int))))/\((((wrap .i64 (((xa.size:Nat):Int) - ((xb.size:Nat):Int))):Int)<=((xa.size:Nat):Int))/\(K (dQ ((xa.extract (wrap .i64 (((xa.size:Nat):Int) - ((xb.size:Nat):Int))).toNat xa.size).toList == xb.toList)) h))) (K (dQ false) h))
theorem call275 {xa xb:ByteArray} (H:F275 K h xa xb):A4 prog 275 #[(.string xa),(.string xb)] h K:=
 cQ Tryz.func275 H
end
section
def dch (n:Nat):UInt8:=UInt8.ofNat (48+n % 10)
def dgA:Nat->Nat->ByteArray->ByteArray
 | 0,_,acc=>acc
 | f+1,n,acc=>if n < 10 then ⟨#[dch n]⟩ ++ acc else dgA f (n / 10) (⟨#[dch n]⟩ ++ acc)
def dg (n:Nat):ByteArray:=dgA 20 n ⟨#[]⟩
theorem BC (u:UInt8):(⟨#[u]⟩ : ByteArray).size=1:=rfl
theorem SI4:∀f n acc,(dgA f n acc).size<=acc.size+f:=by
 intro f
 induction f with
 | zero=>intro n acc;exact G0 _
 | succ f ih=>
  intro n acc
  unfold dgA
  split
  ·rw [IC,BC];omega
  ·have:=ih (n / 10) (⟨#[dch n]⟩ ++ acc)
   rw [IC,BC] at this
   omega
theorem JN (n:Nat):(dg n).size<=20:=by
 have:=SI4 20 n ⟨#[]⟩
 have e:(⟨#[]⟩ : ByteArray).size=0:=rfl
 unfold dg;omega
theorem Ti1 {n:Nat} (h:n < 256):IntKind.u8.wrap (n:Int)=(n:Int):=by
 unfold wrap IntKind.signed IntKind.bits
 have e:(n:Int) % 2 ^ 8=n:=Int.emod_eq_of_lt (by omega) (by omega)
 simp only [e]
 rw [A7 (by simp)]
theorem Yj {n:Nat} (h:n < 4294967296):IntKind.u32.wrap (n:Int)=(n:Int):=by
 unfold wrap IntKind.signed IntKind.bits
 have e:(n:Int) % 2 ^ 32=n:=Int.emod_eq_of_lt (by omega) (by omega)
 simp only [e]
 rw [A7 (by simp)]
theorem Ms {n:Nat} (h:n < 18446744073709551616):IntKind.u64.wrap (n:Int)=(n:Int):=by
 unfold wrap IntKind.signed IntKind.bits
 have e:(n:Int) % 2 ^ 64=n:=Int.emod_eq_of_lt (by omega) (by omega)
 simp only [e]
 rw [A7 (by simp)]
theorem Tc9 (n:Nat):Int.tmod (n:Int) 10=((n % 10:Nat):Int):=rfl
theorem Td0 (n:Nat):Int.tdiv (n:Int) 10=((n / 10:Nat):Int):=rfl
theorem PY:Be prog 26=.slice 5:=by kernel_rfl
theorem SI5:Be prog 5=.int .u8:=by kernel_rfl
theorem Sf6:Be prog 9=.string:=by kernel_rfl
theorem SI6 {h:A2} {b:Nat} {v:Int} {t:TypeId} {K:kQ} (e:h[b]? = some (oQ #[.int .u8 v] t)) (k:K (.string ⟨#[UInt8.ofNat v.toNat]⟩) h):OI prog 26 9 (lQ (some (aQ b)) 1 1) h K:=by
 unfold OI convert
 simp only [B6,C8 (E4 PY (by simp)),C8 (E4 Sf6 (by simp)),C8 (E4 SI5 (by simp))]
 show hp prog (Conv.bytesToString _) K h
 unfold Conv.bytesToString
 simp only [B6]
 show hp prog (loadCellsFrom (aQ b) 0 1 #[]) _ h
 refine M8 _ _ 0 [] _ ?_
 refine C6 (v:=.int .u8 v) ?_ ?_
 ·rw [E2];exact Z3 e
 show hp prog _ _ h
 simp only [List.reverse_cons,List.reverse_nil,OG,List.forIn_toArray]
 exact k
theorem Lp {K:kQ} {h:A2} {n:Nat} (hn:n < 4294967296) (k:∀h',G9 h.size h h'->K (.string (dg n)) h'):A4 prog 199 #[.int .u32 n] h K:=by
 refine call199 ?_
 unfold F199
 refine ⟨λvs h'=>∃v,∃m f:Nat,∃s:ByteArray,vs = [.int .u32 m,v,.string s]/\m < 4294967296/\m < 10 ^ (f+1)/\dgA (f+1) m s=dg n/\s.size+(f+1)<=20/\G9 h.size h h',λvs _=>(match vs with | [.int _ m,_,_]=>m.toNat | _=>0),
  ⟨_,n,19,⟨#[]⟩,rfl,hn,by omega,rfl,G0 _,G9.refl _ _⟩,?_⟩
 rintro v2 v3 v4 g5 h6 ⟨w,m,f,s,e,hm,hf,hr,hs,o6⟩
 cases e
 simp only [A5,L8,Tc9,Td0]
 refine ⟨by omega,?_⟩
 have e1:IntKind.u32.wrap (48+((m % 10:Nat):Int))=((48+m % 10:Nat):Int):=by
  rw [show (48:Int)+((m % 10:Nat):Int)=((48+m % 10:Nat):Int) by omega];exact Yj (by omega)
 rw [e1,Ti1 (by omega),Yj (n:=m / 10) (by omega)]
 have p:=G8 h6 #[.int .u8 ((48+m % 10:Nat):Int)] 5
 generalize h6.push (oQ #[.int .u8 ((48+m % 10:Nat):Int)] 5)=h7 at *
 refine SI6 p.new ?_
 have ec:UInt8.ofNat ((48+m % 10:Nat):Int).toNat=dch m:=rfl
 rw [ec]
 refine ⟨by rw [BC];omega,by omega,?_⟩
 have ok:=o6.trans (p.toOld.mono o6.1)
 unfold dgA at hr
 apply D1<;>intro h0
 ·have hlt:m < 10:=by simp at h0;omega
  rw [A8 hlt] at hr
  rw [hr]
  exact k _ ok
 ·have hge:¬ m < 10:=by intro hlt;simp at h0;omega
  rw [A7 hge] at hr
  obtain ⟨f,rfl⟩ : ∃f',f=f' + 1:=⟨f - 1,by
   cases f with
   | zero=>simp at hf;omega
   | succ f=>rfl⟩
  refine ⟨⟨_,m / 10,f,_,rfl,by omega,by rw [Nat.pow_succ] at hf;omega,hr,by rw [IC,BC];omega,ok⟩,?_⟩
  show ((m / 10:Nat):Int).toNat < (m:Int).toNat
  omega
end
section
theorem JO {P:Program} (r:Nat) (F:Option (TypeId × Nat)->A2->Prop) (h:A2):hp P (shape r) F h=F (Da h r) h:=rfl
theorem PZ {P:Program} {h:A2} {b:Nat} {row:Array vQ} {t:TypeId} (e:h[b]? = some (oQ row t)) (F:Option (Addr × TypeId)->A2->Prop):hp P (viewAt b) F h=F none h:=by
 unfold viewAt
 have:Da h b=some (t,row.size):=by unfold Da;rw [e]
 simp only [B6,JO,this];rfl
theorem Yk {P:Program} {h:A2} {b:Nat} {row:Array vQ} {t:TypeId} (e:h[b]? = some (oQ row t)) (F:Option Nat->A2->Prop):hp P (cellsIn b) F h=F (some row.size) h:=by
 unfold cellsIn
 have:Da h b=some (t,row.size):=by unfold Da;rw [e]
 simp only [B6,JO,this];rfl
theorem Ni:Be prog 160=.pointer 162:=by kernel_rfl
theorem Ru:Be prog 267=.unsafePointer:=by kernel_rfl
theorem Rv:L0 prog 162=true:=by kernel_rfl
theorem SI7:M2 prog 162=2:=by kernel_rfl
theorem Td1:liesAt prog Tryz.prog.depth 162 (2 / Tryz.prog.cellsOf 162) 0 162 1=true:=by kernel_rfl
theorem S14 {h:A2} {p:Nat} {v0 v1:vQ} {K:kQ} (e:h[p]? = some (oQ #[v0,v1] 162)) (k:K (pQ (some (aQ p))) h):OI prog 160 267 (pQ (some (aQ p))) h K:=by
 unfold OI convert
 simp only [B6,C8 (E4 Ni (by simp)),C8 (E4 Ru (by simp))]
 unfold Conv.unsafePointer
 simp only [B6,C8 (E4 Ni (by simp)),C8 (E4 Ru (by simp)),Conv.seenAt,PZ e,E0,Yk e,J7 Rv,SI7]
 exact k
theorem Sn3 {h:A2} {p:Nat} {v0 v1:vQ} {K:kQ} (e:h[p]? = some (oQ #[v0,v1] 162)) (k:K (pQ (some (aQ p))) h):OI prog 267 160 (pQ (some (aQ p))) h K:=by
 unfold OI convert
 simp only [B6,C8 (E4 Ni (by simp)),C8 (E4 Ru (by simp))]
 unfold Conv.unsafePointer
 have:Da h p=some (162,2):=by unfold Da;rw [e];rfl
 simp only [B6,C8 (E4 Ni (by simp)),C8 (E4 Ru (by simp)),Conv.seenAt,PZ e,E0,J7 Rv,SI7,variablesAt,CP,JO,this,Td1]
 exact k
theorem SI8 {P:Program} {f:FuncId} {fn:Func} {h:A2} {v:vQ} {K:kQ} (h1:P.funcs[f]? = some fn) (h2:(fn.name == "runtime.NumGoroutine")=false) (h3:fn.body.isNone=true) (h4:(Extern.findNext fn).isNone=true)
  (h5:Extern.find fn=some Extern.AbiNoEscape.same) (k:K v h):Ta9 P f #[v] h K:=by
 unfold Ta9 callFunc
 have h4':Extern.findNext fn=none:=Option.isNone_iff_eq_none.1 h4
 clear h4
 rw [B6,CP,h1]
 show hp P (if (fn.name == "runtime.NumGoroutine")=true then _ else _) _ h
 rw [h2]
 show hp P (if fn.body.isNone=true then _ else _) _ h
 rw [h3,A8 rfl,B6]
 show hp P (match Extern.findNext fn with | some e=>e #[v] | _=>_) _ h
 generalize Extern.findNext fn=o1 at *
 subst h4'
 show hp P (match Extern.find fn with | some e=>(do let x <- e #[v];pure (Next.value x)) | none=>_) _ h
 generalize Extern.find fn=o2 at *
 subst h5
 exact k
theorem Rw {h:A2} {v:vQ} {K:kQ} (k:K v h):Rb prog (.func (.func 203) #[] #[]) #[v] h K:=by
 unfold Rb
 exact SI8 Tryz.func203 (by kernel_rfl) (by kernel_rfl) (by kernel_rfl) (by kernel_rfl) k
theorem Sn4 {P:Program} (d:Nat) {t el:TypeId} {a b:Addr} (hu:P.underlying t=some (.pointer el)) (hth:L0 P el=true) (hsz:M2 P el≠0) (F:Bool->A2->Prop) (h:A2) (H:hp P (sameAddr a b) F h):hp P (Op.equalIn (d+1) t (.pointer (some a)) (.pointer (some b))) F h:=by
 simp only [Op.equalIn,B6,C8 hu,J7 hth]
 rw [A8 hsz]
 exact H
theorem SI9 {h:A2} {p:Nat} {K:kQ} (k:K (dQ false) h):To prog .neq 160 (some (aQ p)) (some (aQ p)) h K:=by
 unfold To
 rw [V3 (by simp) (by simp) (by simp) (by simp),R6]
 refine Sn4 9999 (E4 Ni (by simp)) Rv (by rw [SI7];omega) _ _ ?_
 unfold sameAddr
 simp only [PF,if_true]
 exact k
theorem Nj {h:A2} {p:Nat} {q:rQ} {v:vQ} {K:kQ} (e:h[p]? = some (oQ #[pQ q,v] 162)) (hq:q=none\/q=some (aQ p))
  (k:∀h',h'[p]? = some (oQ #[pQ (some (aQ p)),v] 162)->h'.size=h.size->(∀c,c≠p->h'[c]? = h[c]?)->K tQ h') :
  A4 prog 136 #[pQ (some (aQ p))] h K:=by
 refine call136 ?_
 unfold F136 lP nP
 simp only [G5,D0]
 refine C4 e rfl ?_
 simp only [C9]
 rcases hq with rfl | rfl
 ·simp only [Option.isNone_none,G6]
  refine S14 e (Rw (Sn3 e ?_))
  simp only [C9]
  refine stR e rfl trivial λh' w=>?_
  refine k h' ?_ w.size (λc hc=>w.old c hc)
  have:=w.new
  exact this
 ·simp only [Dh,E7]
  refine C4 e rfl ?_
  simp only [C9]
  refine SI9 ?_
  simp only [C0,E7]
  exact k h e rfl λ_ _=>rfl
end
section
def Xp (s:ByteArray):List vQ:=s.data.toList.map λb=>.int .u8 b.toNat
theorem Rx (s:ByteArray):(Xp s).length=s.size:=by unfold Xp;rw [Jz,Sk0];rfl
theorem Yl (s x:ByteArray):Xp (s ++ x)=Xp s ++ Xp x:=by
 unfold Xp
 rw [ByteArray.data_append,SD3,GW]
theorem SJ0 {P:Program} {t t2 elem:TypeId} {z:vQ} {h:A2} {a:rQ} {l c n:Nat} {s:ByteArray} {xs ys:List vQ} {K:kQ} (hu2:Be P t2=.string) (hns:s.size=n) (hys:ys=Xp s)
  (hu:Be P t=.slice elem) (hth:L0 P elem=true) (hz:GZ P elem=some z) (hzs:z.cells.size=M2 P elem)
  (ho:CS h elem (M2 P elem) a l c xs) (hn:ys.length=n*M2 P elem) (hone:∀y ∈ ys,J0 y True) (hb0:0 < EL P elem) (hb:(2*(l+n)+512)*EL P elem<=2 ^ 48)
  (H:∀a' c' h',CS h' elem (M2 P elem) a' (l+n) c' (xs ++ ys)->h.size<=h'.size->(∀b,b < h.size->(∀ad,a=some ad->ad.block≠b)->h'[b]? = h[b]?)->(a' = a\/a' = some (aQ h.size))->K (lQ a' (l+n) c') h') :
  U4 P #[t,t2] t #[lQ a l c,.string s] h K:=by
 have hu':=E4 hu (by simp)
 obtain ⟨info,hinfo⟩:=CO hth
 have hbyt:info.bytes=EL P elem:=by unfold EL;rw [hinfo]
 have hu2':=E4 hu2 (by simp)
 have first:∀(F:Array vQ->A2->Prop),F ys.toArray h->hp P (Builtin.firstCells (M2 P elem) n (.string s)) F h:=by
  intro F k
  subst hys hns
  show F ((s.extract 0 s.size).data.map λb=>Value.int .u8 b.toNat) h
  rw [ByteArray.extract_zero_size]
  have e:(Xp s).toArray=s.data.map λb=>Value.int .u8 b.toNat:=by
   unfold Xp
   rw [<- Array.toList_map]
  rw [<- e];exact k
 unfold U4 Builtin.append_
 simp only [EC,Mh,QX,B6,E0,C8 hu',C8 hu2',J7 hth,Cd,if_false]
 show hp P (Builtin.lenOf _) _ h
 simp only [Builtin.lenOf,E0,hns]
 rw [Ft]
 obtain ⟨hl,hlc,hor⟩:=ho
 split
 ·rename_i hcap
  simp only [B6]
  show hp P (if (!false)=true then _ else _) _ h
  refine first _ ?_
  rcases hor with ⟨rfl,rfl⟩ | ⟨b,row,rfl,hb2,hrs,hrt⟩
  ·have e1:l+n=0:=by omega
   have e2:n=0:=by omega
   subst e2
   have:ys = []:=by simpa using hn
   subst this
   simp only [B6,E0]
   refine H none 0 h ⟨by simp [hl],by omega,.inl ⟨rfl,rfl⟩⟩ (G0 _) (λ_ _ _=>rfl) (.inl rfl)
  ·simp only [B6]
   have hlt:=(Jx.1 hb2).1
   have hmul:(l+n)*M2 P elem<=c*M2 P elem:=EJ _ hcap
   rw [BA] at hmul
   refine Y9 _ _ h 0 _ ?_
   rw [E2]
   refine Ir ys h b _ 0 row elem _ hb2 (by omega) hone ?_
   intro row' h1 h2
   simp only [E0]
   refine H (some (aQ b)) c _ ⟨by simp [hl,hn,BA],hcap,.inr ⟨b,row',rfl,U2 hlt,by rw [h1,hrs],?_⟩⟩ (by simp) (λb' hb' hne=>V4 (Ne.symm (hne _ rfl))) (.inl rfl)
   apply Tc
   intro j
   rw [GV,GQ,h2 j]
   rw [BA]
   by_cases c1:j < l*M2 P elem
   ·rw [A8 (by omega),A7 (by omega),OB (by omega),<- hrt,GV,A8 c1,GQ]
   ·rw [MH (by omega)]
    by_cases c2:j < l*M2 P elem+n*M2 P elem
    ·rw [A8 c2,A8 (by omega)]
     congr 1;omega
    ·rw [A7 c2]
     symm;apply SD9;omega
 ·rename_i hcap
  simp only [B6,E0]
  have hbound:¬ Builtin.nextslicecap (l+n) c*info.bytes > 2 ^ 48:=by
   rw [hbyt]
   have:=R4 (EJ (EL P elem) (Gi (l+n) c (by omega))) hb
   omega
  simp only [B6,E0,T7 hinfo,Ft]
  rw [A7 (by rw [hbyt];intro x;rcases x.2 with y | y <;> first | exact y | omega),A7 hbound]
  show ∀tp,_
  intro tp
  rw [A7 (by simp [Question.forced])]
  obtain ⟨cap,hcp⟩ : ∃cap,cap=(Question.appendCap (l+n) c elem).cut tp:=⟨_,rfl⟩
  have hcap2:l+n<=cap:=by rw [hcp];simp [Question.cut]
  rw [<- hcp]
  rw [show (Sem.pure cap:Sem Nat)=pure cap from rfl]
  simp only [B6,E0,T7 hinfo,Ej]
  have old:∀(F:Array vQ->A2->Prop),F xs.toArray h->hp P (Builtin.firstCells (M2 P elem) l (lQ a l c)) F h:=by
   intro F k
   rcases hor with ⟨rfl,rfl⟩ | ⟨b,row,rfl,hb2,hrs,hrt⟩
   ·have:l=0:=by omega
    subst this
    have:xs = []:=by simpa using hl
    subst this;exact k
   ·show hp P (loadCells (aQ b) (l*M2 P elem)) F h
    refine M8 _ _ 0 [] F ?_
    rw [<- hl]
    refine Em xs 0 [] _ (λj v hj=>?_) (by simpa using k)
    rw [E2,E5 hb2,J6,J6,<- GQ]
    rw [<- hrt,GV] at hj
    split at hj
    ·exact hj
    ·cases hj
  refine old _ ?_
  rw [B6,A8 (show (!false)=true from rfl)]
  refine first _ ?_
  simp only [B6]
  simp only [R5 hz]
  show K (lQ (some (aQ h.size)) (l+n) cap) (h.push _)
  have hzc:(Builtin.zeroCells z.cells (cap - (l+n))).size=(cap - (l+n))*M2 P elem:=by rw [AT,hzs]
  refine H _ cap _ ⟨by simp [hl,hn,BA],hcap2,.inr ⟨h.size,_,rfl,Ap _ _,?_,?_⟩⟩ (by simp) (λb hb' _=>W5 _ _ _ hb') (.inr rfl)
  ·simp only [Array.size_append,hzc,PC,hl,hn,<- BA]
   congr 1;omega
  ·simp only [SD3,Se0]
   rw [List.take_left' (by simp [hl,hn,BA])]
theorem Ym:L0 prog 5=true:=by kernel_rfl
theorem SJ1:GZ prog 5=some (.int .u8 0):=by kernel_rfl
theorem JP:M2 prog 5=1:=by kernel_rfl
theorem Uj:EL prog 5=1:=by kernel_rfl
def Bld (h:A2) (p:Nat) (s:ByteArray):Prop:=
 ∃q a l c,h[p]? = some (oQ #[pQ q,lQ a l c] 162)/\(q=none\/q=some (aQ p))/\CS h 5 1 a l c (Xp s)/\∀ad,a=some ad->p < ad.block
theorem Bld.keep {h h':A2} {p:Nat} {s:ByteArray} (H:Bld h p s) (o:∀b,p<=b->b < h.size->h'[b]? = h[b]?):Bld h' p s:=by
 obtain ⟨q,a,l,c,h1,h2,h3,h4⟩:=H
 exact ⟨q,a,l,c,(o p (G0 _) (Jx.1 h1).1).trans h1,h2,h3.keep λad e=>o _ (Nat.le_of_lt (h4 ad e)) (h3.lt ad e),h4⟩
theorem FM {h:A2} {p:Nat} {s x:ByteArray} {K:kQ} (H:Bld h p s) (hx:s.size+x.size<=2 ^ 30)
  (k:∀h',Bld h' p (s ++ x)->h.size<=h'.size->(∀c,c < p->h'[c]? = h[c]?)->K (.tuple #[iQ x.size,.nilIface]) h') :
  A4 prog 94 #[pQ (some (aQ p)),.string x] h K:=by
 refine call94 ?_
 unfold F94 cf lS nP
 obtain ⟨q,a,l,c,h1,h2,h3,h4⟩:=H
 refine A0 (Nj h1 h2 λh1' e1 s1 o1=>?_)
 simp only [G5,D0]
 refine C4 e1 rfl ?_
 simp only [D6]
 have own1:CS h1' 5 1 a l c (Xp s):=h3.keep λad e=>o1 _ (by have:=h4 ad e;omega)
 have hls:l=s.size:=by have:=h3.1;rw [Rx] at this;omega
 have hp1:p < h1'.size:=(Jx.1 e1).1
 refine SJ0 (elem:=5) (z:=.int .u8 0) (n:=x.size) (xs:=Xp s) (ys:=Xp x) Sf6 rfl rfl PY Ym SJ1 (by rw [JP];rfl) (by rw [JP];exact own1) (by rw [JP,Rx];omega) ?_ (by rw [Uj];omega) (by rw [Uj];omega) ?_
 ·intro y hy
  unfold Xp at hy
  obtain ⟨b,_,rfl⟩:=Ga.1 hy
  exact trivial
 intro a' c' h8 own8 hs8 old8 hor
 rw [JP] at own8
 simp only [D6,G5,D0]
 have e8:h8[p]? = some (oQ #[pQ (some (aQ p)),lQ a l c] 162):=(old8 p hp1 (λad e=>by have:=h4 ad e;omega)).trans e1
 refine stR e8 rfl trivial λh13 w=>?_
 have hge:∀ad,a' = some ad->p < ad.block:=by
  intro ad e
  rcases hor with rfl | rfl
  ·exact h4 ad e
  ·cases e;exact hp1
 refine k h13 ⟨_,a',l+x.size,c',w.new,.inr rfl,?_,hge⟩ (by rw [w.size];omega) (λb hb=>?_)
 ·rw [Yl]
  exact own8.keep λad e=>w.old _ (by have:=hge ad e;show ad.block≠p;omega)
 ·exact (w.old b (by show b≠p;omega)).trans ((old8 b (by omega) (λad e=>by have:=h4 ad e;omega)).trans (o1 b (by omega)))
theorem Ry {P:Program} {h:A2}:∀(l:List UInt8) (a:Addr) (acc:ByteArray) (F:ByteArray->A2->Prop),(∀(j:Nat) (x:UInt8),l[j]? = some x->A3 h (a.add j)=some (.int .u8 x.toNat))->F ⟨acc.data ++ l.toArray⟩ h->hp P (loadBytes a acc l.length) F h:=by
 intro l
 induction l with
 | nil=>
  intro a acc F _ k
  have e:(⟨acc.data ++ ([]:List UInt8).toArray⟩ : ByteArray)=acc:=by apply ByteArray.ext;simp
  rw [e] at k;exact k
 | cons x l ih=>
  intro a acc F hc k
  unfold List.length loadBytes
  rw [B6]
  have h0:=hc 0 x rfl
  rw [add_zero] at h0
  simp only [load,hp,h0]
  show hp P (loadBytes (a.add 1) (acc.push (((x.toNat:Int).toNat).toUInt8)) l.length) F h
  have hx:((x.toNat:Int).toNat).toUInt8=x:=by simp
  rw [hx]
  refine ih _ _ _ (λj y hj=>?_) ?_
  ·have:=hc (j+1) y (by simpa using hj)
   rw [Z7,Nat.add_comm 1 j];exact this
  ·have e:(⟨(acc.push x).data ++ l.toArray⟩ : ByteArray)=⟨acc.data ++ (x :: l).toArray⟩:=by
    apply ByteArray.ext
    simp [ByteArray.push]
   rw [e];exact k
theorem Yn {P:Program} {e:TypeId} (hc:P.cellsOf e=1) (count n:Nat) (hn:n<=count):liesAt P P.depth e count 0 e n=true:=by
 have hd:P.depth=(2*(P.types.size+Made.depth)+1)+1:=rfl
 rw [hd]
 simp only [liesAt,Ku]
 left
 rw [hd]
 simp [rowAt,hc,hn,sameLayout]
theorem Nk:Tryz.prog.cellsOf 5=1:=by kernel_rfl
theorem Sn5:Be prog 226=.pointer 5:=by kernel_rfl
theorem Uk {h:A2} {p:Nat} {s:ByteArray} {K:kQ} (H:Bld h p s) (h0:s.size≠0) (hs:s.size < 2 ^ 60) (k:∀h',h'.size=h.size->(∀c,c<=p->h'[c]? = h[c]?)->K (.string s) h') :
  A4 prog 97 #[pQ (some (aQ p))] h K:=by
 refine call97 ?_
 unfold F97 lS nP
 obtain ⟨q,a,l,c,h1,h2,h3,h4⟩:=H
 have hls:l=s.size:=by have:=h3.1;rw [Rx] at this;omega
 obtain ⟨g1,g2,g3⟩:=h3
 rcases g3 with ⟨rfl,hc0⟩ | ⟨b,row,rfl,hb,hrs,hrt⟩
 ·omega
 have hbp:p < b:=h4 _ rfl
 simp only [G5,D0]
 refine C4 h1 rfl ?_
 simp only [D6]
 refine C4 h1 rfl ?_
 simp only [D6]
 have hu:∀ {K:kQ},K (pQ (some (aQ b))) h->Tb0 prog #[26] 226 #[lQ (some (aQ b)) l c] h K:=by
  intro K kk
  obtain ⟨c',rfl⟩ : ∃c',c=c' + 1:=⟨c - 1,by omega⟩
  exact kk
 refine hu ?_
 simp only [C9]
 refine ⟨?_,?_⟩
 ·rw [E2,E5 h1];rfl
 have hn0:¬ ((l:Nat):Int) < 0:=by omega
 have hn1:¬ ((l:Nat):Int) > IntKind.i64.max:=by
  have e:IntKind.i64.max=9223372036854775807:=by decide
  omega
 have hl0:¬ ((l:Nat):Int)=0:=by omega
 have hsh:Da h b=some (5,row.size):=by unfold Da;rw [hb]
 have hrow:row.size=c:=by omega
 have eu:Builtin.unsafeString_ #[226,3] 9 #[pQ (some (aQ b)),iQ ((l:Nat):Int)]=(do
   if ((l:Nat):Int) < 0 then runtimePanic (.error "unsafe.String: len out of range")
   if ((l:Nat):Int) > IntKind.i64.max then unsupported (.unsafePointer "String: a length above the largest int")
   if ((l:Nat):Int)=0 then pure (.string .empty)
   else if <- variablesAt (aQ b) (<- elemOf 226) ((l:Nat):Int).toNat then do
    let s <- loadBytes (aQ b) .empty ((l:Nat):Int).toNat
    freeze (aQ b) ((l:Nat):Int).toNat
    pure (.string s)
   else unsupported (.unsafePointer "String: not so many bytes at ptr")):=rfl
 unfold Tb1
 rw [eu]
 simp only [B6,E0,A7 hn0,A7 hn1,A7 hl0,X5,elemOf,C8 (E4 Sn5 (by simp)),variablesAt,CP,JO,hsh,Nk,Nat.div_one,Yn Nk row.size l (by omega),if_true]
 have hlen:l=s.data.toList.length:=by rw [hls,Sk0];rfl
 have hload:∀ {F:ByteArray->A2->Prop},F s h->hp prog (loadBytes (aQ b) .empty l) F h:=by
  intro F kk
  rw [hlen]
  refine Ry _ _ _ _ (λj x hj=>?_) ?_
  ·rw [E2,E5 hb,J6,<- GQ]
   have hx:(Xp s)[j]? = some (.int .u8 x.toNat):=by unfold Xp;rw [FD,hj];rfl
   rw [<- hrt,GV] at hx
   split at hx
   ·exact hx
   ·cases hx
  ·have e:(⟨ByteArray.empty.data ++ s.data.toList.toArray⟩ : ByteArray)=s:=by
    apply ByteArray.ext;simp
   rw [e];exact kk
 refine hload ?_
 show K (.string s) (freezeAt h (aQ b) l)
 refine k _ ?_ (λx hx=>?_)
 ·unfold freezeAt
  split
  ·rfl
  ·simp
 ·unfold freezeAt
  split
  ·rfl
  ·rw [yL7,A7 (show ¬ ((aQ b) : Addr).block=x from by show ¬ b=x;omega)]
end
section
variable {K:kQ} {h:A2}
structure Ro where
 c0:Int
 c1:Int
 c2:Int
 c3:Int
 c4:Int
 c5:Int
 c6:Int
abbrev Ro.ns (r:Ro):List Int:=[r.c0,r.c1,r.c2,r.c3,r.c4,r.c5,r.c6]
abbrev Ro.cells (r:Ro):List vQ:=[iv r.c0,iv r.c1,iv r.c2,iv r.c3,iv r.c4,iv r.c5,iv r.c6]
structure Bd (B:Int) (r:Ro):Prop where
 b0:0<=r.c0/\r.c0<=B
 b1:0<=r.c1/\r.c1<=B
 b2:0<=r.c2/\r.c2<=B
 b3:0<=r.c3/\r.c3<=B
 b4:0<=r.c4/\r.c4<=B
 b5:0<=r.c5/\r.c5<=B
 b6:0<=r.c6/\r.c6<=B
def Mn (x:Int):ByteArray:=dg x.toNat
theorem BD (x:Int):(Mn x).size<=20:=JN _
theorem Ul {a b:Int} (k:∀h',G9 h.size h h'->K (dQ true) h'):A4 prog 197 #[.agg #[iQ 2,.int .u32 a,.int .u32 b]] h K:=by
 refine call197 ?_
 unfold F197 g197 lI
 have p:=G8 h #[iQ 2,.int .u32 a,.int .u32 b] 43
 generalize h.push (oQ #[iQ 2,.int .u32 a,.int .u32 b] 43)=h1 at *
 refine C4 p.new rfl ?_
 simp only [A5]
 exact D1 (λ_=>k _ p.toOld) (λe=>by simp at e)
theorem OX {a b:Nat} (ha:a < 4294967296) (hb:b < 4294967296) (k:∀h',G9 h.size h h'->K (.string (dg a ++ (⟨#[32]⟩ : ByteArray) ++ dg b)) h') :
  A4 prog 128 #[.agg #[iQ 2,.int .u32 a,.int .u32 b]] h K:=by
 refine call128 ?_
 unfold F128 g128 cf ce lI M0
 have p:=G8 h #[iQ 2,.int .u32 a,.int .u32 b] 43
 generalize h.push (oQ #[iQ 2,.int .u32 a,.int .u32 b] 43)=h1 at *
 refine C4 p.new rfl (C4 p.new rfl (C4 p.new rfl ?_))
 refine A0 (Ul λh4 o4=>?_)
 simp only [C0,IV,E7]
 have c:∀(i:Nat) (v:vQ),([iQ 2,.int .u32 a,.int .u32 b]:List vQ)[i]? = some v->A3 h4 ⟨h.size,i,none⟩=some v:=λi v e=>AU _ _ o4 (F6 p.new e)
 have ok4:=p.toOld.trans (o4.mono p.toOld.1)
 refine C6 (c 0 _ rfl) ?_
 simp only [A5]
 refine D1 (λe=>by simp at e) (λ_=>D1 (λe=>by simp at e) (λ_=>D1 (λe=>by simp at e) (λ_=>?_)))
 refine C6 (c 1 _ rfl) ?_
 simp only [A5]
 refine C6 (c 2 _ rfl) ?_
 simp only [A5]
 have sa:=JN a
 have sb:=JN b
 refine A0 (Lp ha λh13 o13=>?_)
 simp only [L8]
 refine ⟨AU _ _ o13 (c 2 _ rfl),by omega,?_⟩
 refine A0 (Lp hb λh16 o16=>?_)
 simp only [L8]
 refine ⟨by rw [IC,BC];omega,?_⟩
 exact k _ ((ok4.trans (o13.mono ok4.1)).trans (o16.mono (R4 ok4.1 o13.1)))
theorem Mo {s x:ByteArray} (hs:s.size < 2 ^ 60) (hx:x.size < 2 ^ 60) (k:K (.string s) h) :
  A4 prog 127 #[.string (s ++ x),.string x] h K:=by
 refine call127 ?_
 unfold F127 cf
 refine A0 (call198 ?_)
 unfold F198 cf
 refine A0 (call275 ?_)
 unfold F275
 have e:IntKind.i64.wrap ((((s ++ x).size:Nat):Int) - ((x.size:Nat):Int))=((s.size:Nat):Int):=by
  rw [IC,E3 (by omega) (by omega)];omega
 rw [e,X5]
 have hsz:(s ++ x).size=s.size+x.size:=IC
 refine A6 (λ_=>⟨by omega,by omega,?_⟩) (λhn=>by omega)
 rw [ByteArray.extract_append_eq_right rfl hsz,ByteArray.extract_append_eq_left rfl]
 simp only [PF,C0,G6]
 exact ⟨by omega,by omega,k⟩
theorem IL {x:Int} (h0:0<=x) (h1:x < 4294967296) (k:∀h',G9 h.size h h'->K (.string (Mn x)) h'):A4 prog 96 #[iv x] h K:=by
 refine call96 ?_
 unfold F96 cf
 obtain ⟨n,rfl⟩ : ∃n:Nat,x=n:=⟨x.toNat,by omega⟩
 rw [Yj (n:=n) (by omega)]
 refine A0 (OX (a:=n) (b:=0) (by omega) (by omega) λh1 o1=>?_)
 simp only [L8]
 have e:dg n ++ (⟨#[32]⟩ : ByteArray) ++ dg 0=dg n ++ (⟨#[32,48]⟩ : ByteArray):=by
  rw [ByteArray.append_assoc];rfl
 rw [e]
 have:=JN n
 refine A0 (Mo (by omega) (show (2:Nat) < 2 ^ 60 by omega) ?_)
 exact k _ o1
def IM (name:ByteArray) (r:Ro):ByteArray:=
 name ++ (⟨#[32,99,97,108,108,115,32]⟩ : ByteArray) ++ Mn r.c0 ++ (⟨#[32,100,111,110,101,32]⟩ : ByteArray) ++ Mn r.c1 ++ (⟨#[32,102,117,108,108,32]⟩ : ByteArray) ++ Mn r.c2 ++ (⟨#[32,112,97,105,114,115,32]⟩ : ByteArray) ++ Mn r.c3 ++ (⟨#[32,101,109,112,116,121,32]⟩ : ByteArray) ++ Mn r.c4 ++ (⟨#[32,115,116,101,112,115,32]⟩ : ByteArray) ++ Mn r.c5 ++ (⟨#[32,109,105,115,115,101,100,32]⟩ : ByteArray) ++ Mn r.c6 ++ (⟨#[10]⟩ : ByteArray)
theorem Jj (name:ByteArray) (r:Ro):(IM name r).size<=name.size+200:=by
 unfold IM
 have s0:=BD r.c0
 have s1:=BD r.c1
 have s2:=BD r.c2
 have s3:=BD r.c3
 have s4:=BD r.c4
 have s5:=BD r.c5
 have s6:=BD r.c6
 simp only [IC]
 have t0:(⟨#[32,99,97,108,108,115,32]⟩ : ByteArray).size=7:=rfl
 have t1:(⟨#[32,100,111,110,101,32]⟩ : ByteArray).size=6:=rfl
 have t2:(⟨#[32,102,117,108,108,32]⟩ : ByteArray).size=6:=rfl
 have t3:(⟨#[32,112,97,105,114,115,32]⟩ : ByteArray).size=7:=rfl
 have t4:(⟨#[32,101,109,112,116,121,32]⟩ : ByteArray).size=7:=rfl
 have t5:(⟨#[32,115,116,101,112,115,32]⟩ : ByteArray).size=7:=rfl
 have t6:(⟨#[32,109,105,115,115,101,100,32]⟩ : ByteArray).size=8:=rfl
 have t7:(⟨#[10]⟩ : ByteArray).size=1:=rfl
 omega
def nmT:List ByteArray:=[(⟨#[99,97,108,108,115]⟩ : ByteArray),(⟨#[100,111,110,101]⟩ : ByteArray),(⟨#[102,117,108,108]⟩ : ByteArray),(⟨#[112,97,105,114,115]⟩ : ByteArray),(⟨#[101,109,112,116,121]⟩ : ByteArray),(⟨#[115,116,101,112,115]⟩ : ByteArray),(⟨#[109,105,115,115,101,100]⟩ : ByteArray)]
def nmV:List vQ:=nmT.map Value.string
theorem Yo (k:∀h',G9 h.size h h'->K (.agg nmV.toArray) h'):A4 prog 137 #[] h K:=by
 refine call137 ?_
 unfold F137 IE
 have p:=G8 h (List.replicate 7 (.string (⟨#[]⟩ : ByteArray))).toArray 224
 rw [show h.push (oQ #[.string (⟨#[]⟩ : ByteArray),.string (⟨#[]⟩ : ByteArray),.string (⟨#[]⟩ : ByteArray),.string (⟨#[]⟩ : ByteArray),.string (⟨#[]⟩ : ByteArray),.string (⟨#[]⟩ : ByteArray),.string (⟨#[]⟩ : ByteArray)] 224)=h.push (oQ (List.replicate 7 (.string (⟨#[]⟩ : ByteArray))).toArray 224) from rfl]
 generalize h.push (oQ (List.replicate 7 (.string (⟨#[]⟩ : ByteArray))).toArray 224)=h1 at *
 refine st7 (F5 (vs:=nmV) p.new rfl (by intro y hy;unfold nmV at hy;obtain ⟨b,_,rfl⟩:=Ga.1 hy;exact trivial) λh2 w=>?_)
 refine C4 w.new rfl (C4 w.new rfl (C4 w.new rfl (C4 w.new rfl (C4 w.new rfl (C4 w.new rfl (C4 w.new rfl ?_))))))
 exact k _ (w.toOld p.toOld (G0 _))
theorem Eb (r:Ro):∀y ∈ r.cells,J0 y True:=by
 intro y hy
 simp only [ED,GF,or_false] at hy
 rcases hy with rfl | rfl | rfl | rfl | rfl | rfl | rfl <;> exact trivial
theorem JQ {r:Ro} (k:∀h',G9 h.size h h'->K (.agg r.cells.toArray) h'):A4 prog 57 #[.agg r.cells.toArray] h K:=by
 refine call57 ?_
 unfold F57 g57 lI IE dw7
 have p:=G8 h r.cells.toArray 68
 rw [show h.push (oQ #[iQ r.c0,iQ r.c1,iQ r.c2,iQ r.c3,iQ r.c4,iQ r.c5,iQ r.c6] 68)=h.push (oQ r.cells.toArray 68) from rfl]
 generalize h.push (oQ r.cells.toArray 68)=h1 at *
 have s1:=p.size
 have p2:=G8 h1 (List.replicate 7 (iv 0)).toArray 105
 rw [show h1.push (oQ Dp 105)=h1.push (oQ (List.replicate 7 (iv 0)).toArray 105) from rfl]
 generalize h1.push (oQ (List.replicate 7 (iv 0)).toArray 105)=h2 at *
 have e2:h2[h.size]? = some (oQ r.cells.toArray 68):=(p2.old _ (by omega)).trans p.new
 have o2:=p.toOld.trans (p2.toOld.mono (by omega))
 refine C4 e2 rfl ?_
 simp only [A5]
 refine C4 e2 rfl ?_
 simp only [A5]
 refine C4 e2 rfl ?_
 simp only [A5]
 refine C4 e2 rfl ?_
 simp only [A5]
 refine C4 e2 rfl ?_
 simp only [A5]
 refine C4 e2 rfl ?_
 simp only [A5]
 refine C4 e2 rfl ?_
 simp only [A5]
 refine st7 (F5 (vs:=r.cells) p2.new rfl (Eb r) λh3 w=>?_)
 refine C4 w.new rfl (C4 w.new rfl (C4 w.new rfl (C4 w.new rfl (C4 w.new rfl (C4 w.new rfl (C4 w.new rfl ?_))))))
 exact k _ (w.toOld o2 (by omega))
theorem Yp {r:Ro} (k:∀h',G9 h.size h h'->K (.agg r.cells.toArray) h'):A4 prog 58 #[.agg r.cells.toArray] h K:=by
 refine call58 ?_
 unfold F58 g58 bd lI IE dw7
 have p:=G8 h r.cells.toArray 105
 rw [show h.push (oQ #[iQ r.c0,iQ r.c1,iQ r.c2,iQ r.c3,iQ r.c4,iQ r.c5,iQ r.c6] 105)=h.push (oQ r.cells.toArray 105) from rfl]
 generalize h.push (oQ r.cells.toArray 105)=h1 at *
 have s1:=p.size
 have p2:=G8 h1 (List.replicate 7 (iv 0)).toArray 68
 rw [show h1.push (oQ Dp 68)=h1.push (oQ (List.replicate 7 (iv 0)).toArray 68) from rfl]
 generalize h1.push (oQ (List.replicate 7 (iv 0)).toArray 68)=h2 at *
 have e2:h2[h.size]? = some (oQ r.cells.toArray 105):=(p2.old _ (by omega)).trans p.new
 have o2:=p.toOld.trans (p2.toOld.mono (by omega))
 refine ⟨by omega,by omega,C4 e2 rfl ?_⟩
 simp only [A5]
 refine ⟨by omega,by omega,C4 e2 rfl ?_⟩
 simp only [A5]
 refine ⟨by omega,by omega,C4 e2 rfl ?_⟩
 simp only [A5]
 refine ⟨by omega,by omega,C4 e2 rfl ?_⟩
 simp only [A5]
 refine ⟨by omega,by omega,C4 e2 rfl ?_⟩
 simp only [A5]
 refine ⟨by omega,by omega,C4 e2 rfl ?_⟩
 simp only [A5]
 refine ⟨by omega,by omega,C4 e2 rfl ?_⟩
 simp only [A5]
 refine st7 (F5 (vs:=r.cells) p2.new rfl (Eb r) λh3 w=>?_)
 refine C4 w.new rfl (C4 w.new rfl (C4 w.new rfl (C4 w.new rfl (C4 w.new rfl (C4 w.new rfl (C4 w.new rfl ?_))))))
 exact k _ (w.toOld o2 (by omega))
def Qa (name:ByteArray) (r:Ro):Nat->ByteArray
 | 0=>name
 | i+1=>Qa name r i ++ ((⟨#[32]⟩ : ByteArray) ++ nmT.getD i ⟨#[]⟩ ++ (⟨#[32]⟩ : ByteArray) ++ Mn (r.ns.getD i 0))
theorem SJ2 (name:ByteArray) (r:Ro):Qa name r 7 ++ (⟨#[10]⟩ : ByteArray)=IM name r:=by
 have e0:(⟨#[32]⟩ : ByteArray) ++ nmT.getD 0 ⟨#[]⟩ ++ (⟨#[32]⟩ : ByteArray) ++ Mn (r.ns.getD 0 0)=(⟨#[32,99,97,108,108,115,32]⟩ : ByteArray) ++ Mn r.c0:=rfl
 have e1:(⟨#[32]⟩ : ByteArray) ++ nmT.getD 1 ⟨#[]⟩ ++ (⟨#[32]⟩ : ByteArray) ++ Mn (r.ns.getD 1 0)=(⟨#[32,100,111,110,101,32]⟩ : ByteArray) ++ Mn r.c1:=rfl
 have e2:(⟨#[32]⟩ : ByteArray) ++ nmT.getD 2 ⟨#[]⟩ ++ (⟨#[32]⟩ : ByteArray) ++ Mn (r.ns.getD 2 0)=(⟨#[32,102,117,108,108,32]⟩ : ByteArray) ++ Mn r.c2:=rfl
 have e3:(⟨#[32]⟩ : ByteArray) ++ nmT.getD 3 ⟨#[]⟩ ++ (⟨#[32]⟩ : ByteArray) ++ Mn (r.ns.getD 3 0)=(⟨#[32,112,97,105,114,115,32]⟩ : ByteArray) ++ Mn r.c3:=rfl
 have e4:(⟨#[32]⟩ : ByteArray) ++ nmT.getD 4 ⟨#[]⟩ ++ (⟨#[32]⟩ : ByteArray) ++ Mn (r.ns.getD 4 0)=(⟨#[32,101,109,112,116,121,32]⟩ : ByteArray) ++ Mn r.c4:=rfl
 have e5:(⟨#[32]⟩ : ByteArray) ++ nmT.getD 5 ⟨#[]⟩ ++ (⟨#[32]⟩ : ByteArray) ++ Mn (r.ns.getD 5 0)=(⟨#[32,115,116,101,112,115,32]⟩ : ByteArray) ++ Mn r.c5:=rfl
 have e6:(⟨#[32]⟩ : ByteArray) ++ nmT.getD 6 ⟨#[]⟩ ++ (⟨#[32]⟩ : ByteArray) ++ Mn (r.ns.getD 6 0)=(⟨#[32,109,105,115,115,101,100,32]⟩ : ByteArray) ++ Mn r.c6:=rfl
 simp only [Qa,e0,e1,e2,e3,e4,e5,e6]
 unfold IM
 simp only [ByteArray.append_assoc]
theorem Um (i:Nat):(nmT.getD i ⟨#[]⟩).size<=6:=by
 match i with
 | 0 | 1 | 2 | 3 | 4 | 5 | 6=>decide
 | i+7=>exact T4 _
theorem Yq (name:ByteArray) (r:Ro):∀i,(Qa name r i).size<=name.size+28*i:=by
 intro i
 induction i with
 | zero=>exact G0 _
 | succ i ih=>
  unfold Qa
  simp only [IC,BC]
  have:=Um i
  have:=BD (r.ns.getD i 0)
  omega
theorem Bd.get {B:Int} {r:Ro} (H:Bd B r) (hB:0<=B) (i:Nat):0<=r.ns.getD i 0/\r.ns.getD i 0<=B:=by
 obtain ⟨b0,b1,b2,b3,b4,b5,b6⟩:=H
 match i with
 | 0=>exact b0
 | 1=>exact b1
 | 2=>exact b2
 | 3=>exact b3
 | 4=>exact b4
 | 5=>exact b5
 | 6=>exact b6
 | i+7=>exact ⟨Oz _,hB⟩
theorem Qb {cs:List vQ} {t:TypeId} {i:Nat} {v:vQ} {K:vQ->Prop} (hs:M2 prog t=1) (ha:MJ prog t=false) (e:cs[i]? = some v) (k:K v):EM prog t cs.toArray (i*1) K:=by
 have:PG prog t cs.toArray (i*1)=some v:=by
  unfold PG
  rw [A7 (by simp [ha]),BQ,EC,e]
 unfold EM
 rw [this]
 exact k
theorem SJ3:M2 prog 3=1:=by kernel_rfl
theorem SJ4:M2 prog 9=1:=by kernel_rfl
theorem SJ5:MJ prog 3=false:=by kernel_rfl
theorem SJ6:MJ prog 9=false:=by kernel_rfl
theorem Hi {name:ByteArray} {r:Ro} (hn:name.size<=1000) (hb:Bd 1000000000 r) (k:∀h',G9 h.size h h'->K (.string (IM name r)) h') :
  A4 prog 95 #[.string name,.agg r.cells.toArray] h K:=by
 refine call95 ?_
 unfold F95 g95 cf bd Jv IE
 have p:=G8 h r.cells.toArray 68
 rw [show h.push (oQ #[iQ r.c0,iQ r.c1,iQ r.c2,iQ r.c3,iQ r.c4,iQ r.c5,iQ r.c6] 68)=h.push (oQ r.cells.toArray 68) from rfl]
 generalize h.push (oQ r.cells.toArray 68)=h1 at *
 have c:∀(i:Nat) (v:vQ),r.cells[i]? = some v->A3 h1 ⟨h.size,i,none⟩=some v:=λi v e=>F6 p.new e
 refine C6 (c 0 _ rfl) (C6 (c 1 _ rfl) (C6 (c 2 _ rfl) (C6 (c 3 _ rfl) (C6 (c 4 _ rfl) (C6 (c 5 _ rfl) (C6 (c 6 _ rfl) ?_))))))
 refine A0 (JQ (r:=r) λh8 o8=>?_)
 simp only [X8]
 refine U9 rfl (D5 rfl (D5 rfl (D5 rfl (D5 rfl (D5 rfl (D5 rfl (D5 rfl ?_)))))))
 have ok8:=p.toOld.trans (o8.mono p.toOld.1)
 refine ⟨λvs h'=>∃w1 w2,∃i:Nat,vs = [.string (Qa name r i),w1,w2,iv i]/\i<=7/\G9 h.size h h',λvs _=>(match vs with | [_,_,_,.int _ n]=>7 - n.toNat | _=>0),⟨_,_,0,rfl,T4 _,ok8⟩,?_⟩
 rintro v19 v20 v21 v22 g23 h24 ⟨w1,w2,i,e,hi,o24⟩
 cases e
 have hsz:=Yq name r i
 simp only [A5,Db,L8]
 refine A6 (λhlt=>?_) (λhge=>?_)
 ·have hi7:i < 7:=by omega
  obtain ⟨hx0,hx1⟩:=hb.get (by omega) i
  refine ⟨by omega,hlt,?_⟩
  simp only [X5]
  have er:r.cells[i]? = some (iv (r.ns.getD i 0)):=by
   match i,hi7 with
   | 0,_ | 1,_ | 2,_ | 3,_ | 4,_ | 5,_ | 6,_=>rfl
  refine Qb SJ3 SJ5 er ?_
  simp only [A5]
  refine A0 (Yo λh32 o32=>?_)
  simp only [X8]
  refine U9 rfl (D5 rfl (D5 rfl (D5 rfl (D5 rfl (D5 rfl (D5 rfl (D5 rfl ?_)))))))
  refine ⟨by omega,hlt,?_⟩
  have en:nmV[i]? = some (.string (nmT.getD i ⟨#[]⟩)):=by
   match i,hi7 with
   | 0,_ | 1,_ | 2,_ | 3,_ | 4,_ | 5,_ | 6,_=>rfl
  refine Qb (cs:=nmV) SJ4 SJ6 en ?_
  simp only [L8]
  have hnm:=Um i
  have hdg:=BD (r.ns.getD i 0)
  refine ⟨by omega,by rw [IC,BC];omega,?_⟩
  refine A0 (IL hx0 (by omega) λh44 o44=>?_)
  simp only [L8]
  refine ⟨by simp only [IC,BC];omega,by simp only [IC,BC];omega,?_⟩
  rw [N8 (by omega)]
  refine ⟨⟨_,_,i+1,rfl,by omega,(o24.trans (o32.mono o24.1)).trans (o44.mono (R4 o24.1 o32.1))⟩,?_⟩
  show 7 - ((i+1:Nat):Int).toNat < 7 - (i:Int).toNat
  omega
 ·obtain rfl:i=7:=by omega
  refine ⟨by omega,?_⟩
  rw [SJ2]
  exact k _ o24
end
section
def JR:Ro:=⟨0,0,0,0,0,0,0⟩
def Yr (s r:Ro):Ro:=⟨s.c0+r.c0,s.c1+r.c1,s.c2+r.c2,s.c3+r.c3,s.c4+r.c4,s.c5+r.c5,s.c6+r.c6⟩
def SJ7 (j:Nat) (s r:Ro):Ro:=
 ⟨if 0 < j then s.c0+r.c0 else s.c0,if 1 < j then s.c1+r.c1 else s.c1,if 2 < j then s.c2+r.c2 else s.c2,if 3 < j then s.c3+r.c3 else s.c3,if 4 < j then s.c4+r.c4 else s.c4,if 5 < j then s.c5+r.c5 else s.c5,if 6 < j then s.c6+r.c6 else s.c6⟩
theorem Sn6 (s r:Ro):SJ7 0 s r=s:=rfl
theorem Ys (s r:Ro):SJ7 7 s r=Yr s r:=rfl
def GS (rs:List Ro):Ro:=rs.foldl Yr JR
theorem Qc {rs:List Ro} {i:Nat} (h:i < rs.length):GS (rs.take (i+1))=Yr (GS (rs.take i)) rs[i]:=by
 unfold GS
 rw [Ab h,Td];rfl
theorem Bd.add {A B:Int} {s r:Ro} (H:Bd A s) (H2:Bd B r):Bd (A+B) (Yr s r):=by
 obtain ⟨b0,b1,b2,b3,b4,b5,b6⟩:=H
 obtain ⟨d0,d1,d2,d3,d4,d5,d6⟩:=H2
 unfold Yr
 exact ⟨by show 0<=s.c0+r.c0/\s.c0+r.c0<=_;omega,by show 0<=s.c1+r.c1/\s.c1+r.c1<=_;omega,by show 0<=s.c2+r.c2/\s.c2+r.c2<=_;omega,by show 0<=s.c3+r.c3/\s.c3+r.c3<=_;omega,by show 0<=s.c4+r.c4/\s.c4+r.c4<=_;omega,by show 0<=s.c5+r.c5/\s.c5+r.c5<=_;omega,by show 0<=s.c6+r.c6/\s.c6+r.c6<=_;omega⟩
theorem Bd.mono {A B:Int} {r:Ro} (H:Bd A r) (h:A<=B):Bd B r:=by
 obtain ⟨b0,b1,b2,b3,b4,b5,b6⟩:=H
 exact ⟨by omega,by omega,by omega,by omega,by omega,by omega,by omega⟩
theorem Sf7 {rs:List Ro} (H:∀r ∈ rs,Bd 1000000 r):∀i,i<=rs.length->Bd (1000000*i) (GS (rs.take i)):=by
 intro i
 induction i with
 | zero=>
  intro _
  have z:(0:Int)<=0/\(0:Int)<=1000000*((0:Nat):Int):=by omega
  exact ⟨z,z,z,z,z,z,z⟩
 | succ i ih=>
  intro hi
  rw [Qc (by omega)]
  exact ((ih (by omega)).add (H _ (CD (by omega)))).mono (by omega)
structure RS (h:A2) (a:rQ) (l c:Nat) (rs:List Ro):Prop where
 s:N5 h a (rs.flatMap Ro.cells)
 len:rs.length=l
 cap:l<=c
theorem RS.old {h h':A2} {a:rQ} {l c:Nat} {rs:List Ro} (H:RS h a l c rs) (ho:G9 h.size h h'):RS h' a l c rs:=⟨H.s.old ho,H.len,H.cap⟩
theorem Qd (rs:List Ro):(rs.flatMap Ro.cells).length=rs.length*7:=by
 induction rs with
 | nil=>rfl
 | cons e rs ih=>
  have h7:e.cells.length=7:=rfl
  rw [Kv,DK,ih,h7,Jy];omega
theorem KL {rs:List Ro}:∀ {i:Nat} (hi:i < rs.length) {j:Nat},j < 7->(rs.flatMap Ro.cells)[i*7+j]? = (rs[i]).cells[j]?:=by
 induction rs with
 | nil=>intro i hi;simp at hi
 | cons e rs ih=>
  intro i hi j hj
  have h7:e.cells.length=7:=rfl
  rw [Kv]
  cases i with
  | zero=>rw [OB (by omega)];simp
  | succ i=>
   rw [MH (by omega),h7,show (i+1)*7+j - 7=i*7+j by omega]
   exact ih (by simpa using hi) hj
theorem RS.at {h:A2} {a:rQ} {l c:Nat} {rs:List Ro} (H:RS h a l c rs) {i:Nat} (hi:i < rs.length):∃ad,a=some ad/\∀(j:Nat) (v:vQ),(rs[i]).cells[j]? = some v->A3 h ((ad.add (i*7)).add j)=some v:=by
 have h0:(rs.flatMap Ro.cells)[i*7+0]? = some (iv (rs[i]).c0):=KL hi (by omega)
 obtain ⟨ad,e,_⟩:=H.s _ _ h0
 refine ⟨ad,e,λj v hv=>?_⟩
 have hj:j < 7:=(IW.1 hv).1
 obtain ⟨ad',e',hc⟩:=H.s (i*7+j) v ((KL hi hj).trans hv)
 rw [e] at e';cases e'
 rw [Z7];exact hc
abbrev Ov:List vQ:=List.replicate 7 (iv 0)
theorem Nl {K:kQ} {h:A2} {a:rQ} {l c:Nat} {rs:List Ro} (H:RS h a l c rs) (hl:l<=1000) (hb:∀r ∈ rs,Bd 1000000 r) (k:∀h',G9 h.size h h'->K (.agg (GS rs).cells.toArray) h') :
  A4 prog 27 #[lQ a l c] h K:=by
 refine call27 ?_
 unfold F27 g27 cf bd lI Jv IE dw7
 have hlen:=H.len
 have p:=G8 h Ov.toArray 68
 rw [show h.push (oQ Dp 68)=h.push (oQ Ov.toArray 68) from rfl]
 generalize h.push (oQ Ov.toArray 68)=h1 at *
 have s1:=p.size
 have p2:=G8 h1 Ov.toArray 105
 rw [show h1.push (oQ Dp 105)=h1.push (oQ Ov.toArray 105) from rfl]
 generalize h1.push (oQ Ov.toArray 105)=h2 at *
 have s2:=p2.size
 have e2:h2[h.size]? = some (oQ Ov.toArray 68):=(p2.old _ (by omega)).trans p.new
 have o2:=p.toOld.trans (p2.toOld.mono (by omega))
 have n2:=p2.new
 rw [s1] at n2 ⊢
 refine ⟨λvs h'=>∃w0 w2,∃i:Nat,vs = [w0,iv i,w2]/\i<=l/\G9 h.size h h'/\h.size+2<=h'.size/\h'[h.size]? = some (.cells Ov.toArray 68)/\h'[h.size+1]? = some (.cells (GS (rs.take i)).cells.toArray 105),λvs _=>(match vs with | [_,.int _ n,_]=>l - n.toNat | _=>0),
  ⟨_,_,0,rfl,T4 _,o2,by omega,e2,n2⟩,?_⟩
 rintro v2 v3 v4 g5 h6 ⟨w0,w2,i,e,hi,o6,hs6,z6,m6⟩
 cases e
 simp only [A5,Db]
 refine A6 (λhlt=>?_) (λhge=>?_)
 ·have hi':i < rs.length:=by omega
  obtain ⟨ad,rfl,hc⟩:=(H.old o6).at hi'
  have hsum:=Sf7 hb i (by omega)
  have hri:=hb _ (CD hi')
  have hsucc:=Qc hi'
  generalize hrow:rs[i]=r at *
  generalize hsm:GS (rs.take i)=s at *
  refine ⟨by omega,hlt,?_⟩
  simp only [D0,X5]
  refine C6 (hc 0 _ rfl) (C6 (hc 1 _ rfl) (C6 (hc 2 _ rfl) (C6 (hc 3 _ rfl) (C6 (hc 4 _ rfl) (C6 (hc 5 _ rfl) (C6 (hc 6 _ rfl) ?_))))))
  have p7:=G8 h6 Ov.toArray 68
  rw [show h6.push (oQ Dp 68)=h6.push (oQ Ov.toArray 68) from rfl]
  generalize h6.push (oQ Ov.toArray 68)=h7 at *
  refine st7 (F5 (vs:=r.cells) p7.new rfl (Eb r) λh23 w23=>?_)
  have o23:G9 h6.size h6 h23:=w23.toOld p7.toOld (G0 _)
  refine C4 w23.new rfl (C4 w23.new rfl (C4 w23.new rfl (C4 w23.new rfl (C4 w23.new rfl (C4 w23.new rfl (C4 w23.new rfl ?_))))))
  refine A0 (JQ (r:=r) λh32 o32=>?_)
  simp only [X8]
  refine U9 rfl (D5 rfl (D5 rfl (D5 rfl (D5 rfl (D5 rfl (D5 rfl (D5 rfl ?_)))))))
  have o632:=o23.trans (o32.mono o23.1)
  have p33:=G8 h32 Ov.toArray 105
  rw [show h32.push (oQ Dp 105)=h32.push (oQ Ov.toArray 105) from rfl]
  generalize h32.push (oQ Ov.toArray 105)=h33 at *
  refine st7 (F5 (vs:=r.cells) p33.new rfl (Eb r) λh47 w47=>?_)
  have o47:G9 h6.size h6 h47:=w47.toOld (o632.trans (p33.toOld.mono o632.1)) o632.1
  have hs47:h6.size < h32.size+1:=by have:=o632.1;omega
  have z47:h47[h32.size]? = some (oQ r.cells.toArray 105):=w47.new
  refine ⟨λvs h'=>∃w,∃j:Nat,vs = [w,iv j]/\j<=7/\JM h47 (h.size+1) (SJ7 j s r).cells.toArray 105 h',λvs _=>(match vs with | [_,.int _ n]=>7 - n.toNat | _=>0),⟨_,0,rfl,T4 _,rfl,?_,λ_ _=>rfl⟩,?_⟩
  ·rw [Sn6];exact (o47.2 _ (by omega)).trans m6
  rintro v50 v51 g52 h53 ⟨w1,j,e,hj,w53⟩
  cases e
  simp only [A5]
  have o53:G9 h.size h h53:=by
   have:=o6.trans (o47.mono o6.1)
   exact w53.toOld this (by omega)
  refine A6 (λhltj=>?_) (λhgej=>?_)
  ·have hj7:j < 7:=by omega
   have c1:A3 h53 ((⟨h.size+1,0,none⟩ : Addr).add j)=some (iv (s.ns.getD j 0)):=by
    rw [E2,J6]
    refine F6 w53.new ?_
    match j,hj7 with
    | 0,_ | 1,_ | 2,_ | 3,_ | 4,_ | 5,_ | 6,_=>rfl
   have c2:A3 h53 (((aQ h32.size) : Addr).add j)=some (iv (r.ns.getD j 0)):=by
    rw [E2,J6]
    refine F6 ((w53.old _ (by have:=o632.1;omega)).trans z47) ?_
    match j,hj7 with
    | 0,_ | 1,_ | 2,_ | 3,_ | 4,_ | 5,_ | 6,_=>rfl
   obtain ⟨a0,a1⟩:=hsum.get (by omega) j
   obtain ⟨d0,d1⟩:=hri.get (by omega) j
   refine ⟨by omega,hltj,?_⟩
   simp only [X5,BQ]
   refine C6 c1 ?_
   simp only [A5]
   refine ⟨by omega,hltj,C6 c2 ?_⟩
   simp only [A5]
   refine ⟨by omega,hltj,?_⟩
   rw [E2,J6,E3 (by omega) (by omega)]
   refine stR w53.new (by
    match j,hj7 with
    | 0,_ | 1,_ | 2,_ | 3,_ | 4,_ | 5,_ | 6,_=>rfl) trivial λh60 w60=>?_
   rw [N8 (by omega)]
   refine ⟨⟨_,j+1,rfl,by omega,?_⟩,?_⟩
   ·have er:((SJ7 j s r).cells.set j (iQ (s.ns.getD j 0+r.ns.getD j 0))).toArray=(SJ7 (j+1) s r).cells.toArray:=by
     match j,hj7 with
     | 0,_ | 1,_ | 2,_ | 3,_ | 4,_ | 5,_ | 6,_=>rfl
    have:=w53.trans w60
    rw [er] at this
    exact this
   ·show 7 - ((j+1:Nat):Int).toNat < 7 - (j:Int).toNat
    omega
  ·obtain rfl:j=7:=by omega
   rw [N8 (by omega)]
   refine ⟨⟨_,_,i+1,rfl,by omega,o53,by rw [w53.size];have:=o47.1;omega,?_,?_⟩,?_⟩
   ·exact (w53.old _ (by omega)).trans ((o47.2 _ (by omega)).trans z6)
   ·rw [hsucc,<- Ys];exact w53.new
   ·show l - ((i+1:Nat):Int).toNat < l - (i:Int).toNat
    omega
 ·obtain rfl:i=rs.length:=by omega
  rw [EH] at m6
  refine C4 m6 rfl (C4 m6 rfl (C4 m6 rfl (C4 m6 rfl (C4 m6 rfl (C4 m6 rfl (C4 m6 rfl ?_))))))
  refine A0 (Yp (r:=GS rs) λh71 o71=>?_)
  simp only [X8]
  refine U9 rfl (D5 rfl (D5 rfl (D5 rfl (D5 rfl (D5 rfl (D5 rfl (D5 rfl ?_)))))))
  refine st7 (F5 (vs:=(GS rs).cells) ((o71.2 _ (by omega)).trans z6) rfl (Eb _) λh86 w86=>?_)
  refine C4 w86.new rfl (C4 w86.new rfl (C4 w86.new rfl (C4 w86.new rfl (C4 w86.new rfl (C4 w86.new rfl (C4 w86.new rfl ?_))))))
  exact k _ (w86.toOld (o6.trans (o71.mono o6.1)) (G0 _))
end
section
def Sn7 (i:Nat):ByteArray:=(⟨#[116,104,114,101,97,100,32]⟩ : ByteArray) ++ dg i
theorem Qe (i:Nat):(Sn7 i).size<=27:=by
 unfold Sn7
 have:=JN i
 have e:(⟨#[116,104,114,101,97,100,32]⟩ : ByteArray).size=7:=rfl
 rw [IC];omega
def Gk (rs:List Ro):Nat->ByteArray
 | 0=>⟨#[]⟩
 | i+1=>Gk rs i ++ IM (Sn7 i) (rs.getD i JR)
theorem Un (rs:List Ro):∀i,(Gk rs i).size<=300*i:=by
 intro i
 induction i with
 | zero=>exact G0 _
 | succ i ih=>
  unfold Gk
  rw [IC]
  have h1:=Jj (Sn7 i) (rs.getD i JR)
  have h2:=Qe i
  omega
def Sn8:ByteArray:=⟨#[97,108,108]⟩
theorem Qf:Sn8.size=3:=rfl
theorem Sn9 (name:ByteArray) (r:Ro):(IM name r).size≠0:=by
 unfold IM
 rw [IC,BC];omega
theorem So0 {K:kQ} {h:A2} {a:rQ} {l c:Nat} {rs:List Ro} (H:RS h a l c rs) (hl:l<=100) (hb:∀r ∈ rs,Bd 1000000 r) (k:∀h',G9 h.size h h'->K (.string (Gk rs l ++ IM Sn8 (GS rs))) h') :
  A4 prog 56 #[lQ a l c] h K:=by
 refine call56 ?_
 unfold F56 cf ce bd Jv IE
 have hlen:=H.len
 have p:=G8 h #[pQ none,lQ none 0 0] 162
 generalize h.push (oQ #[pQ none,lQ none 0 0] 162)=h1 at *
 have s1:=p.size
 refine ⟨λvs h'=>∃w0,∃i:Nat,vs = [w0,iv i]/\i<=l/\G9 h.size h h'/\Bld h' h.size (Gk rs i),λvs _=>(match vs with | [_,.int _ n]=>l - n.toNat | _=>0),
  ⟨_,0,rfl,T4 _,p.toOld,none,none,0,0,p.new,.inl rfl,CS.nil _ _ _,λad e=>by cases e⟩,?_⟩
 rintro v2 v3 g4 h5 ⟨w0,i,e,hi,o5,B5⟩
 cases e
 have hsz:=Un rs i
 simp only [A5,Db]
 refine A6 (λhlt=>?_) (λhge=>?_)
 ·have hi':i < rs.length:=by omega
  obtain ⟨ad,rfl,hc⟩:=(H.old o5).at hi'
  have hri:=(hb _ (CD hi')).mono (show (1000000:Int)<=1000000000 by omega)
  have hget:rs.getD i JR=rs[i]:=by rw [An,X7 hi'];rfl
  generalize hrow:rs[i]=r at *
  refine ⟨by omega,hlt,?_⟩
  simp only [D0,X5]
  refine C6 (hc 0 _ rfl) (C6 (hc 1 _ rfl) (C6 (hc 2 _ rfl) (C6 (hc 3 _ rfl) (C6 (hc 4 _ rfl) (C6 (hc 5 _ rfl) (C6 (hc 6 _ rfl) ?_))))))
  have p7:=G8 h5 Ov.toArray 68
  rw [show h5.push (oQ Dp 68)=h5.push (oQ Ov.toArray 68) from rfl]
  generalize h5.push (oQ Ov.toArray 68)=h7 at *
  refine st7 (F5 (vs:=r.cells) p7.new rfl (Eb r) λh23 w23=>?_)
  have o23:G9 h5.size h5 h23:=w23.toOld p7.toOld (G0 _)
  refine C4 w23.new rfl (C4 w23.new rfl (C4 w23.new rfl (C4 w23.new rfl (C4 w23.new rfl (C4 w23.new rfl (C4 w23.new rfl ?_))))))
  refine A0 (IL (x:=(i:Int)) (by omega) (by omega) λh32 o32=>?_)
  simp only [L8]
  have c:∀(j:Nat) (v:vQ),r.cells[j]? = some v->A3 h32 ⟨h5.size,j,none⟩=some v:=λj v e=>AU _ _ o32 (F6 w23.new e)
  have hd:=BD (i:Int)
  refine ⟨c 0 _ rfl,c 1 _ rfl,c 2 _ rfl,c 3 _ rfl,c 4 _ rfl,c 5 _ rfl,c 6 _ rfl,by omega,?_⟩
  have eth:(⟨#[116,104,114,101,97,100,32]⟩ : ByteArray) ++ Mn (i:Int)=Sn7 i:=rfl
  rw [eth]
  have ht:=Qe i
  refine A0 (Hi (r:=r) (by omega) hri λh35 o35=>?_)
  simp only [L8]
  have o535:G9 h5.size h5 h35:=(o23.trans (o32.mono o23.1)).trans (o35.mono (R4 o23.1 o32.1))
  have hls:=Jj (Sn7 i) r
  have B35:Bld h35 h.size (Gk rs i):=B5.keep λb _ hb=>o535.2 b hb
  refine A0 (FM B35 (by omega) λh38 B38 s38 o38=>?_)
  rw [N8 (by omega)]
  refine ⟨⟨_,i+1,rfl,by omega,⟨by have:=o5.1;have:=o535.1;omega,λb hb=>(o38 b hb).trans ((o535.2 b (by have:=o5.1;omega)).trans (o5.2 b hb))⟩,?_⟩,?_⟩
  ·unfold Gk;rw [hget];exact B38
  ·show l - ((i+1:Nat):Int).toNat < l - (i:Int).toNat
   omega
 ·obtain rfl:i=l:=by omega
  have hbd:=(Sf7 hb rs.length (G0 _)).mono (show 1000000*(rs.length:Int)<=1000000000 by omega)
  rw [EH] at hbd
  refine A0 (Nl (H.old o5) (by omega) hb λh41 o41=>?_)
  simp only [X8]
  refine U9 rfl (D5 rfl (D5 rfl (D5 rfl (D5 rfl (D5 rfl (D5 rfl (D5 rfl ?_)))))))
  refine A0 (Hi (name:=Sn8) (r:=GS rs) (by rw [Qf];omega) hbd λh51 o51=>?_)
  simp only [L8]
  have o551:G9 h5.size h5 h51:=o41.trans (o51.mono o41.1)
  have B51:Bld h51 h.size (Gk rs i):=B5.keep λb _ hb=>o551.2 b hb
  have hls:=Jj Sn8 (GS rs)
  rw [Qf] at hls
  have hpos:=Sn9 Sn8 (GS rs)
  refine A0 (FM B51 (by omega) λh54 B54 s54 o54=>?_)
  refine A0 (Uk B54 (by rw [IC];omega) (by rw [IC];omega) λh56 s56 o56=>?_)
  simp only [L8]
  refine k h56 ⟨by have:=o5.1;have:=o551.1;omega,λb hb=>(o56 b (by omega)).trans ((o54 b hb).trans ((o551.2 b (by have:=o5.1;omega)).trans (o5.2 b hb)))⟩
theorem Rz {K:kQ} {h:A2} (k:∀h',G9 h.size h h'->K (dQ true) h'):A4 prog 26 #[] h K:=by
 refine call26 ?_
 unfold F26 cf
 refine A0 (So0 (rs:=[]) ⟨N5.nil _ _,rfl,G0 _⟩ (by omega) (λr hr=>by cases hr) λh1 o1=>?_)
 simp only [L8]
 have e:Gk [] 0 ++ IM Sn8 (GS [])=(⟨#[97,108,108,32,99,97,108,108,115,32,48,32,100,111,110,101,32,48,32,102,117,108,108,32,48,32,112,97,105,114,115,32,48,32,101,109,112,116,121,32,48,32,115,116,101,112,115,32,48,32,109,105,115,115,101,100,32,48,10]⟩ : ByteArray):=rfl
 rw [e,PF]
 exact k _ o1
theorem S15 (a0 a1 a2 a3 a4 a5 a6 b0 b1 b2 b3 b4 b5 b6:Int):eqv prog 10000 68 (.agg #[iv a0,iv a1,iv a2,iv a3,iv a4,iv a5,iv a6]) (.agg #[iv b0,iv b1,iv b2,iv b3,iv b4,iv b5,iv b6])=some ((a0 == b0) && ((a1 == b1) && ((a2 == b2) && ((a3 == b3) && ((a4 == b4) && ((a5 == b5) && ((a6 == b6) && true))))))):=by kernel_rfl
theorem So1:Tryz.prog.eqGuardType Tryz.prog.depth 68=false:=by kernel_rfl
theorem SJ8 {r:Ro} {K:Bool->Prop} (k:K true):Gb prog 68 (.agg r.cells.toArray) (.agg r.cells.toArray) K:=by
 unfold Gb
 rw [So1,A7 (by simp)]
 show (match eqv prog 10000 68 (.agg r.cells.toArray) (.agg r.cells.toArray) with | some b=>K b | none=>False)
 rw [S15]
 simpa using k
end
section
set_option maxRecDepth 100000
variable {K:kQ} {h:A2}
abbrev g69 (K:kQ) (h H1:A2) (xa:rQ) (xb:Int):Prop:=
 (D4 (Option.isNone xa) (K (iQ 1) H1) (cf 124 #[iQ xb] H1 λa b=>asBool a λa=>D4 (!a) (K (iQ 2) b) (cf 125 #[pQ xa,iQ xb] b λa b=>asBool a λa=>D4 (!a) (K (iQ 4) b) (nP xa λa=>D2 b (a.add 1) λa=>CG a λa=>M0 b h.size λc d e=>Lg prog 74 (.map a) (iQ xb) false b λa b=>asAgg a λa=>G3 a 3 (de3 a λa f g=>ce b h.size 0 c (ce b h.size 1 d (ce b h.size 2 e (cf 126 #[.agg #[a,f,g],.agg #[c,d,e]] b λa b=>asBool a λa=>D4 (!a) (K (iQ 1) b) (nP xa λa=>D2 b (a.add 1) λa=>CG a λa=>Se4 prog #[74,3] 0 #[.map a,iQ xb] b λa a=>nP xa λb=>D2 a b λc=>D3 c λd e f=>M0 a h.size λg i j=>((A3 (a.push (oQ #[iQ xb,dQ true,iQ 0,.int .u32 0,.int .u32 0,g,i,j] 45)) b)=(some c))/\(U4 prog #[32,32] 32 #[lQ d e f,lQ (some (aQ a.size)) 1 1] (a.push (oQ #[iQ xb,dQ true,iQ 0,.int .u32 0,.int .u32 0,g,i,j] 45)) λa b=>D3 a λa c d=>nP xa λe=>C7 b e (lQ a c d) λa=>K (iQ 0) a))))))))))
def F69 (K:kQ) (h:A2) (xa:rQ) (xb xc xd xe:Int):Prop:=
 (g69 K h (h.push (oQ #[iQ xc,.int .u32 xd,.int .u32 xe] 43)) xa xb)
theorem call69 {xa:rQ} {xb xc xd xe:Int} (H:F69 K h xa xb xc xd xe):A4 prog 69 #[(pQ xa),(iQ xb),(.agg #[(iQ xc),(.int .u32 xd),(.int .u32 xe)])] h K:=
 cQ Tryz.func69 H
abbrev g122 (K:kQ) (h H1:A2) (xa:rQ) (xb:Int):Prop:=
 (D4 (Option.isNone xa) (K (iQ 1) H1) (cf 124 #[iQ xb] H1 λa b=>asBool a λa=>D4 (!a) (K (iQ 2) b) (M0 b h.size λa c d=>cf 61 #[.agg #[a,c,d]] b λa b=>asBool a λa=>D4 (!a) (K (iQ 1) b) (cf 125 #[pQ xa,iQ xb] b λa b=>asBool a λa=>D4 a (K (iQ 5) b) (R3 λI12=>(nP xa λa=>D2 b (a.add 1) λa=>CG a λa=>D4 (Option.isNone a) (nP xa λa=>C7 (b.push (.map #[] 0)) (a.add 1) (.map (some b.size)) λa=>I12 [] a) (I12 [] b))/\(∀(a:G4) (a:A2),(I12 [] a)->(nP xa λb=>D2 a (b.add 1) λb=>CG b λb=>M0 a h.size λc d e=>Se3 prog 74 (.map b) (iQ xb) (.agg #[c,d,e]) a λa=>nP xa λb=>D2 a b λc=>D3 c λd e f=>M0 a h.size λg i j=>((A3 (a.push (oQ #[iQ xb,dQ false,g,i,j,iQ 0,.int .u32 0,.int .u32 0] 45)) b)=(some c))/\(U4 prog #[32,32] 32 #[lQ d e f,lQ (some (aQ a.size)) 1 1] (a.push (oQ #[iQ xb,dQ false,g,i,j,iQ 0,.int .u32 0,.int .u32 0] 45)) λa b=>D3 a λa c d=>nP xa λe=>C7 b e (lQ a c d) λa=>K (iQ 0) a))))))))
def F122 (K:kQ) (h:A2) (xa:rQ) (xb xc xd xe:Int):Prop:=
 (g122 K h (h.push (oQ #[iQ xc,.int .u32 xd,.int .u32 xe] 41)) xa xb)
theorem call122 {xa:rQ} {xb xc xd xe:Int} (H:F122 K h xa xb xc xd xe):A4 prog 122 #[(pQ xa),(iQ xb),(.agg #[(iQ xc),(.int .u32 xd),(.int .u32 xe)])] h K:=
 cQ Tryz.func122 H
def F124 (K:kQ) (h:A2) (xa:Int):Prop:=
 (D4 (decide (xa >= 0)) (K (dQ (decide (xa < 6))) h) (K (dQ false) h))
theorem call124 {xa:Int} (H:F124 K h xa):A4 prog 124 #[(iQ xa)] h K:=
 cQ Tryz.func124 H
def F125 (K:kQ) (h:A2) (xa:rQ) (xb:Int):Prop:=
 (D4 (Option.isNone xa) (K (dQ false) h) (nP xa λa=>D2 h (a.add 1) λa=>CG a λa=>Lg prog 74 (.map a) (iQ xb) true h λa b=>J3 a λc=>D9 c 0 λc=>asAgg c λc=>G3 c 3 (de3 c λc d e=>J3 a λa=>D9 a 1 λa=>asBool a λa=>C7 (b.push (oQ #[iQ 0,.int .u32 0,.int .u32 0] 41)) (aQ b.size) c λc=>C7 c ⟨b.size,1,none⟩ d λc=>C7 c ⟨b.size,2,none⟩ e λb=>K (dQ a) b)))
theorem call125 {xa:rQ} {xb:Int} (H:F125 K h xa xb):A4 prog 125 #[(pQ xa),(iQ xb)] h K:=
 cQ Tryz.func125 H
abbrev g126 (K:kQ) (h H1 H2:A2):Prop:=
 (R3 λI0=>(M0 H2 h.size λa b c=>cf 61 #[.agg #[a,b,c]] H2 λa b=>asBool a λa=>D4 (!a) (I0 [dQ true] b) (M0 b H1.size λa c d=>cf 197 #[.agg #[a,c,d]] b λa b=>asBool a λa=>I0 [dQ (!a)] b))/\(∀(a:vQ) (b:G4) (b:A2),(I0 [a] b)->(asBool a λa=>D4 a (K (dQ false) b) (lI .i64 b (aQ h.size) λa=>lI .i64 b (aQ H1.size) λc=>D4 (c == 0) (K (dQ ((a == 0) == true)) b) (lI .i64 b (aQ H1.size) λc=>K (dQ ((a == 0) == (c == 1))) b)))))
def F126 (K:kQ) (h:A2) (xa xb xc xd xe xf:Int):Prop:=
 (g126 K h (h.push (oQ #[iQ xa,.int .u32 xb,.int .u32 xc] 41)) (Array.push (h.push (oQ #[iQ xa,.int .u32 xb,.int .u32 xc] 41)) (oQ #[iQ xd,.int .u32 xe,.int .u32 xf] 43)))
theorem call126 {xa xb xc xd xe xf:Int} (H:F126 K h xa xb xc xd xe xf):A4 prog 126 #[(.agg #[(iQ xa),(.int .u32 xb),(.int .u32 xc)]),(.agg #[(iQ xd),(.int .u32 xe),(.int .u32 xf)])] h K:=
 cQ Tryz.func126 H
abbrev g61 (K:kQ) (h H1:A2):Prop:=
 (lI .i64 H1 (aQ h.size) λa=>D4 (a == 0) (K (dQ true) H1) (R3 λI2=>(D4 (a == 1) (I2 [dQ true] H1) (I2 [dQ (a == 2)] H1))/\(∀(a:vQ) (b:G4) (b:A2),(I2 [a] b)->(asBool a λa=>D4 a (lI .u32 b ⟨h.size,1,none⟩ λa=>D4 (a == 0) (lI .u32 b ⟨h.size,2,none⟩ λa=>K (dQ (a == 0)) b) (K (dQ false) b)) (K (dQ false) b)))))
def F61 (K:kQ) (h:A2) (xa xb xc:Int):Prop:=
 (g61 K h (h.push (oQ #[iQ xa,.int .u32 xb,.int .u32 xc] 41)))
theorem call61 {xa xb xc:Int} (H:F61 K h xa xb xc):A4 prog 61 #[(.agg #[(iQ xa),(.int .u32 xb),(.int .u32 xc)])] h K:=
 cQ Tryz.func61 H
end
section
structure C3 where
 o:Int
 k:Int
 v:Int
abbrev C3.cells (c:C3):List vQ:=[iQ c.o,.int .u32 c.k,.int .u32 c.v]
def Fv (c:C3):Bool:=c.o == 0 || ((c.o == 1 || c.o == 2) && (c.k == 0 && c.v == 0))
def Gl (a:C3):Bool:=a.o == 2 || ((a.o == 0 || (a.o == 1 || a.o == 3)) && (a.k == 0 && a.v == 0))
def Lq (c a:C3):Bool:=Fv c && (Gl a && ((c.o == 0) == (a.o == 0 || a.o == 1)))
theorem Hj {K:kQ} {h:A2} {c:C3} (k:∀h',G9 h.size h h'->K (dQ (Fv c)) h'):A4 prog 61 #[.agg c.cells.toArray] h K:=by
 refine call61 ?_
 unfold F61 g61 lI
 have p:=G8 h c.cells.toArray 41
 rw [show h.push (oQ #[iQ c.o,.int .u32 c.k,.int .u32 c.v] 41)=h.push (oQ c.cells.toArray 41) from rfl]
 generalize h.push (oQ c.cells.toArray 41)=h1 at *
 have kk:=k _ p.toOld
 unfold Fv at kk
 refine C4 p.new rfl ?_
 simp only [A5]
 refine D1 (λe=>by rw [e] at kk;exact kk) (λe=>?_)
 rw [e,Oy] at kk
 refine ⟨λvs h'=>vs = [dQ (c.o == 1 || c.o == 2)]/\h' = h1,?_,?_⟩
 ·refine D1 (λe1=>⟨by rw [e1];rfl,rfl⟩) (λe1=>⟨by rw [e1,Oy],rfl⟩)
 rintro v3 g4 h5 ⟨e3,rfl⟩
 cases e3
 simp only [C0]
 refine D1 (λe1=>?_) (λe1=>by rw [e1] at kk;exact kk)
 rw [e1,FC] at kk
 refine C4 p.new rfl ?_
 simp only [A5]
 refine D1 (λe2=>?_) (λe2=>by rw [e2] at kk;exact kk)
 rw [e2,FC] at kk
 refine C4 p.new rfl ?_
 simp only [A5]
 exact kk
theorem OY {K:kQ} {h:A2} {c:C3} (k:∀h',G9 h.size h h'->K (dQ (Gl c)) h'):A4 prog 197 #[.agg c.cells.toArray] h K:=by
 refine call197 ?_
 unfold F197 g197 lI
 have p:=G8 h c.cells.toArray 43
 rw [show h.push (oQ #[iQ c.o,.int .u32 c.k,.int .u32 c.v] 43)=h.push (oQ c.cells.toArray 43) from rfl]
 generalize h.push (oQ c.cells.toArray 43)=h1 at *
 have kk:=k _ p.toOld
 unfold Gl at kk
 refine C4 p.new rfl ?_
 simp only [A5]
 refine D1 (λe=>by rw [e] at kk;exact kk) (λe=>?_)
 rw [e,Oy] at kk
 refine ⟨λvs h'=>vs = [dQ (c.o == 0 || (c.o == 1 || c.o == 3))]/\h' = h1,?_,?_⟩
 ·refine D1 (λe1=>⟨by rw [e1];rfl,rfl⟩) (λe1=>?_)
  refine D1 (λe2=>⟨by rw [e1,e2];rfl,rfl⟩) (λe2=>⟨by rw [e1,e2,Oy,Oy],rfl⟩)
 rintro v3 g4 h5 ⟨e3,rfl⟩
 cases e3
 simp only [C0]
 refine D1 (λe1=>?_) (λe1=>by rw [e1] at kk;exact kk)
 rw [e1,FC] at kk
 refine C4 p.new rfl ?_
 simp only [A5]
 refine D1 (λe2=>?_) (λe2=>by rw [e2] at kk;exact kk)
 rw [e2,FC] at kk
 refine C4 p.new rfl ?_
 simp only [A5]
 exact kk
theorem So2 {K:kQ} {h:A2} {c a:C3} (k:∀h',G9 h.size h h'->K (dQ (Lq c a)) h'):A4 prog 126 #[.agg c.cells.toArray,.agg a.cells.toArray] h K:=by
 refine call126 ?_
 unfold F126 g126 cf lI M0
 have p:=G8 h c.cells.toArray 41
 rw [show h.push (oQ #[iQ c.o,.int .u32 c.k,.int .u32 c.v] 41)=h.push (oQ c.cells.toArray 41) from rfl]
 generalize h.push (oQ c.cells.toArray 41)=h1 at *
 have s1:=p.size
 have p2:=G8 h1 a.cells.toArray 43
 rw [show h1.push (oQ #[iQ a.o,.int .u32 a.k,.int .u32 a.v] 43)=h1.push (oQ a.cells.toArray 43) from rfl]
 generalize h1.push (oQ a.cells.toArray 43)=h2 at *
 have e2:h2[h.size]? = some (oQ c.cells.toArray 41):=(p2.old _ (by omega)).trans p.new
 have o2:=p.toOld.trans (p2.toOld.mono (by omega))
 have s2:=p2.size
 refine ⟨λvs h'=>vs = [dQ (!(Fv c && Gl a))]/\G9 h2.size h2 h',?_,?_⟩
 ·refine C4 e2 rfl (C4 e2 rfl (C4 e2 rfl ?_))
  refine A0 (Hj (c:=c) λh5 o5=>?_)
  simp only [C0]
  refine D1 (λe=>⟨by simp at e;rw [e];rfl,o5⟩) (λe=>?_)
  have e5:=(o5.2 _ (by omega)).trans p2.new
  refine C4 e5 rfl (C4 e5 rfl (C4 e5 rfl ?_))
  refine A0 (OY (c:=a) λh11 o11=>?_)
  simp only [C0]
  refine ⟨?_,o5.trans (o11.mono o5.1)⟩
  have:Fv c=true:=by simpa using e
  rw [this,FC]
 rintro v13 g14 h15 ⟨e,o15⟩
 cases e
 simp only [C0]
 have kk:=k _ (o2.trans (o15.mono o2.1))
 unfold Lq at kk
 apply D1<;>intro e
 ·have:(Fv c && Gl a)=false:=by revert e;cases (Fv c && Gl a) <;> intro e <;> first | rfl | cases e
  rw [<- Bool.and_assoc,this] at kk
  exact kk
 ·have:(Fv c && Gl a)=true:=by revert e;cases (Fv c && Gl a) <;> intro e <;> first | rfl | cases e
  rw [<- Bool.and_assoc,this,FC] at kk
  have c15:=(o15.2 _ (by omega)).trans e2
  have a15:=(o15.2 _ (by omega)).trans p2.new
  refine C4 c15 rfl ?_
  simp only [A5]
  refine C4 a15 rfl ?_
  simp only [A5]
  refine D1 (λe1=>by rw [e1,Bool.true_or] at kk;exact kk) (λe1=>?_)
  rw [e1,Oy] at kk
  refine C4 a15 rfl ?_
  simp only [A5]
  exact kk
end
section

end
section
def doP (ps:List Pr) (c a:C3):Option (List Pr):=
 if Lq c a then
  if a.o=0 then some (Th7 (c.k,c.v) ps)
  else if a.o=1 then some ps
  else if a.o=3 then (if ps = [] then some ps else none)
  else if (a.k,a.v) ∈ S79 ps then (if c.o=1 then some (ps.erase (a.k,a.v)) else some ps) else none
 else none
end
section
set_option maxRecDepth 100000

end
section

end
section
variable {K:kQ} {h:A2}
def F291 (K:kQ) (h:A2) (xa:rQ) (xb xc:Nat):Prop:=
 (K (.func (.func 305) #[] #[pQ (some (aQ h.size))]) (h.push (oQ #[lQ xa xb xc] 25)))
theorem call291 {xa:rQ} {xb xc:Nat} (H:F291 K h xa xb xc):A4 prog 291 #[(lQ xa xb xc)] h K:=
 cQ Tryz.func291 H
def F305 (K:kQ) (h:A2) (xa c0:vQ):Prop:=
 (F3 c0 λa=>lS h a λa b c=>R3 λI5=>GI λm6=>(I5 [tQ,iQ 0] h)/\(∀(c d:vQ) (e:G4) (e:A2),(I5 [c,d] e)->(asInt .i64 d λf=>D4 (decide (f < (b:Int))) (Il d λf=>bd f (b:Int) (F3 (pQ a) λa=>lI .i64 e (a.add (f.toNat*1)) λa=>Aj prog xa #[iQ a] e λb f=>asBool b λb=>D4 (!b) (K tQ f) (asInt .i64 d λb=>(I5 [iQ a,iQ (wrap .i64 (b+1))] f)/\((m6 [iQ a,iQ (wrap .i64 (b+1))] f) < (m6 [c,d] e))))) (K tQ e))))
theorem call305 {xa c0:vQ} (H:F305 K h xa c0):A4 prog 305 #[xa,c0] h K:=
 cQ Tryz.func305 H
abbrev g290 (K:kQ) (h H1 H2:A2) (xa xb:vQ):Prop:=
 (J0 xa (J0 xb (R3 λI0=>(D2 H2 (aQ h.size) λa=>X0 a λa=>D4 a (I0 [dQ true] H2) (D2 H2 (aQ H1.size) λa=>X0 a λa=>I0 [dQ a] H2))/\(∀(a:vQ) (b:G4) (b:A2),(I0 [a] b)->(asBool a λa=>D4 a (K (.func (.func 303) #[] #[]) b) (K (.func (.func 304) #[] #[pQ (some (aQ h.size)),pQ (some (aQ H1.size))]) b))))))
def F290 (K:kQ) (h:A2) (xa xb:vQ):Prop:=
 (g290 K h (h.push (oQ #[xa] 311)) (Array.push (h.push (oQ #[xa] 311)) (oQ #[xb] 102)) xa xb)
theorem call290 {xa xb:vQ} (H:F290 K h xa xb):A4 prog 290 #[xa,xb] h K:=
 cQ Tryz.func290 H
abbrev g304 (K:kQ) (h H1:A2) (xa c0 c1:vQ):Prop:=
 (J0 xa (F3 c0 λa=>D2 H1 a λa=>Jb prog a 1 H1 (λI2 a b=>asInt .i64 (a.getD 0 tQ) λa=>R3 λI6=>(F3 c1 λc=>D2 b c λc=>Aj prog c #[iQ a] b λb c=>asBool b λb=>D4 b (D2 c (aQ h.size) λb=>Aj prog b #[iQ a] c λa b=>asBool a λa=>I6 [dQ (!a)] b) (I6 [dQ false] c))/\(∀(a:vQ) (b:G4) (b:A2),(I6 [a] b)->(asBool a λa=>D4 a (I2 .ret b) (I2 .normal b)))) (λa=>(∀b:A2,(Ao h.size a b)->(K tQ b))) [(.ret,λa=>(∀b:A2,(Ao h.size a b)->(K tQ b)))]))
def F304 (K:kQ) (h:A2) (xa c0 c1:vQ):Prop:=
 (g304 K h (h.push (oQ #[xa] 102)) xa c0 c1)
theorem call304 {xa c0 c1:vQ} (H:F304 K h xa c0 c1):A4 prog 304 #[xa,c0,c1] h K:=
 cQ Tryz.func304 H
end
section
abbrev EU (L:List Int) (k:Nat):Array vQ:=#[iv (L.getD k 0)]
theorem Td2 {p:Nat} {a:rQ} {l c:Nat} {xs:List Int} (hl:l < 2 ^ 60) :
  TJ prog (.func (.func 305) #[] #[pQ (some (aQ p))]) xs.length (EU xs)
   (λh=>A3 h (aQ p)=some (lQ a l c)/\RI h a l c xs):=by
 intro yf y1 y2 h N I X hN hev hok hy
 refine FK ?_
 rw [cl2]
 refine call305 ?_
 unfold F305 bd lS lI
 have hlen:=hev.2.len
 simp only [D0]
 refine C6 hev.1 ?_
 simp only [D6]
 refine ⟨λvs h'=>∃v,∃k:Nat,vs = [v,iv k]/\k<=l/\h.size<=h'.size/\I h.size k h',λvs _=>(match vs with | [_,.int _ n]=>l - n.toNat | _=>0),⟨_,0,rfl,by omega,G0 _,hok.self⟩,?_⟩
 rintro v7 v8 g h10 ⟨v,k,e,hk,hs,hI⟩
 cases e
 simp only [A5,Db]
 refine A6 (λhlt=>?_) (λhge=>?_)
 ·have hlt':k < xs.length:=by omega
  obtain ⟨ad,rfl,hc⟩:=(hok.env _ _ _ hN hs hI).2.at hlt'
  refine ⟨by omega,hlt,?_⟩
  simp only [D0,X5,BQ]
  refine C6 hc ?_
  simp only [A5]
  have hyk:=hy h.size k h10 hlt' hN (G0 _) hs hI
  have e2:EU xs k=#[iQ xs[k]]:=by unfold EU;simp [hlt']
  rw [e2] at hyk
  refine Jg ?_ hyk
  rintro w h'' ⟨hm,⟨rfl,hI'⟩ | ⟨rfl,hX⟩⟩
  ·simp only [C0,IV,E7]
   rw [N8 (by omega)]
   refine ⟨⟨_,k+1,rfl,by omega,R4 hs hm.1,hI'⟩,?_⟩
   show l - ((k+1:Nat):Int).toNat < l - (k:Int).toNat
   omega
  ·simp only [C0,MF,G6]
   exact ⟨h.size,hN,G0 _,R4 hs hm.1,.inr hX⟩
 ·have:k=xs.length:=by omega
  subst this
  exact ⟨h.size,hN,G0 _,hs,.inl hI⟩
end
section
theorem So3 {L:List Int} {p:Int->Bool} {j:Nat} (hj:j < L.length) (hp:p L[j]=true) :
  ((L.take j).filter p).length < (L.filter p).length/\(L.filter p).getD ((L.take j).filter p).length 0=L[j]:=by
 have e:L.filter p=(L.take j).filter p ++ L[j] :: (L.drop (j+1)).filter p:=by
  conv=>lhs;rw [<- List.take_append_drop j L,QW,SZ5 hj,List.filter_cons_of_pos hp]
 rw [e]
 constructor
 ·simp
 ·simp
theorem Lr {L:List Int} {p:Int->Bool} {j:Nat} (hj:j < L.length):((L.take (j+1)).filter p).length=((L.take j).filter p).length+(if p L[j] then 1 else 0):=by
 rw [Ab hj,QW,DK]
 cases h:p L[j] <;> simp [h]
theorem Uo {N M:Nat} {h h':A2} (o:G9 h.size h h'):OK N M h h':=⟨o.1,λb hb _=>o.2 b hb⟩
theorem Hl {N M:Nat} {h h':A2} (o:G9 h.size h h') (hM:M<=h.size):Z6 N M h h':=⟨o.1,λb _ hb=>o.2 b (by omega)⟩
theorem Z6.trans {N M:Nat} {a b c:A2} (x:Z6 N M a b) (y:Z6 N M b c):Z6 N M a c:=⟨R4 x.1 y.1,λi h1 h2=>(y.2 i h1 h2).trans (x.2 i h1 h2)⟩
theorem Z6.mono {N N' M:Nat} {a b:A2} (x:Z6 N M a b) (h:N<=N'):Z6 N' M a b:=⟨x.1,λi h1 h2=>x.2 i (by omega) h2⟩
theorem SJ9 {sp kp:Nat} {g f:vQ} {L:List Int} {p:Int->Bool} {D:Int->Prop} {Ev Ek:A2->Prop} (hD:∀x ∈ L,D x) (hg:fnV g) (hseq:TJ prog g L.length (EU L) Ev) (hst:∀h h',G9 h.size h h'->Ev h->Ev h')
  (hsk:∀h h',G9 h.size h h'->Ek h->Ek h') (hk:∀(h:A2) (x:Int) (K:kQ),Ek h->D x->(∀h',G9 h.size h h'->K (dQ (p x)) h')->Aj prog f #[iQ x] h K) :
  TJ prog (.func (.func 304) #[] #[pQ (some (aQ sp)),pQ (some (aQ kp))]) (L.filter p).length (EU (L.filter p))
   (λh=>A3 h (aQ sp)=some g/\A3 h (aQ kp)=some f/\Ev h/\Ek h):=by
 intro yf y1 y2 h N I X hN hev hok hy
 refine FK ?_
 rw [cl3]
 refine call304 ?_
 unfold F304 g304
 simp only [D0,KH]
 have o1:G9 h.size h (h.push (oQ #[.func yf y1 y2] 102)):=(G9.refl _ _).push _ (G0 _)
 have n1:=Ap h (oQ #[.func yf y1 y2] 102)
 have s1:(h.push (oQ #[.func yf y1 y2] 102)).size=h.size+1:=by simp
 generalize h.push (oQ #[.func yf y1 y2] 102)=h1 at *
 refine C6 (AU _ _ o1 hev.1) ?_
 refine Rr (h0:=h) (I:=I) (X:=X) (N:=N) (n:=L.length) (xs:=EU L) (Ev:=Ev) (λ_ h'=>h'[h.size]? = some (oQ #[.func yf y1 y2] 102)) (λj=>((L.take j).filter p).length) (L.filter p).length False
  hg hseq (λ_ _=>rfl) hN o1 hok (λh' e=>e.2.2.1) (hst _ _ o1 hev.2.2.1) (by simp) (by simp) (λk ha hb hsame e=>(hsame _ (G0 _) (by omega)).trans e) n1 ?_ ?_ ?_
 ·intro M j h4 hj hM hs hS hI
  rw [s1] at hM
  have e2:(EU L j).getD 0 tQ=iQ L[j]:=by unfold EU;simp [hj]
  rw [e2]
  simp only [A5]
  have hev4:=hok.env M _ h4 (by omega) hs hI
  refine ⟨λvs h'=>∃b:Bool,vs = [dQ b]/\Z6 h1.size M h4 h'/\(if b then X M () h' else h'[h.size]? = some (oQ #[.func yf y1 y2] 102)/\I M ((L.take (j+1)).filter p).length h'),?_,?_⟩
  ·refine C6 hev4.2.1 ?_
   refine hk _ _ _ hev4.2.2.2 (hD _ (CD _)) λh10 o10=>?_
   simp only [C0]
   have hI10:=hok.keepI M _ h4 h10 (by omega) hs hI (Uo o10)
   have hS10:h10[h.size]? = some (oQ #[.func yf y1 y2] 102):=(o10.2 _ (by omega)).trans hS
   apply D1<;>intro hp
   ·refine C6 (Z3 hS10) ?_
    obtain ⟨f1,f2⟩:=So3 hj hp
    have hyk:=hy M _ h10 f1 (by omega) (by omega) (by have:=o10.1;omega) hI10
    rw [show EU (L.filter p) ((L.take j).filter p).length=#[iQ L[j]] by unfold EU;rw [f2]] at hyk
    refine Jg ?_ hyk
    rintro w h14 ⟨hm,hor⟩
    have hm4:Z6 h1.size M h4 h14:=(Hl o10 hs).trans (hm.mono (by omega))
    rcases hor with ⟨rfl,hI'⟩ | ⟨rfl,hX⟩
    ·simp only [C0,IV]
     refine ⟨false,rfl,hm4,?_⟩
     simp only [Cd,if_false]
     refine ⟨(hm.2 _ (by omega) (by omega)).trans hS10,?_⟩
     rw [Lr hj,A8 hp];exact hI'
    ·simp only [C0,MF]
     exact ⟨true,rfl,hm4,by simp only [if_true];exact hX⟩
   ·refine ⟨false,rfl,Hl o10 hs,?_⟩
    simp only [Cd,if_false]
    refine ⟨hS10,?_⟩
    rw [Lr hj,A7 (by simp [hp])];exact hI10
  ·rintro v16 g17 h18 ⟨b,e,hm,hb⟩
   cases e
   simp only [C0]
   cases b with
   | true=>simp only [G6];simp only [if_true] at hb;exact ⟨hm,trivial,.inl hb⟩
   | false=>simp only [E7];simp only [Cd,if_false] at hb;exact ⟨hm,by have:=hm.1;omega,hb⟩
 ·intro M h20 hM hs hI h21 hsd
  refine ⟨M,by omega,by omega,by rw [hsd.1];exact hs,.inl ?_⟩
  exact hok.dI M _ h20 h21 (hsd.mono hN) hI
 ·refine ⟨λM h22 hM hs hX h23 hsd=>?_,trivial⟩
  refine ⟨M,by omega,by omega,by rw [hsd.1];exact hs,.inr ?_⟩
  rcases hX with hX | hX
  ·exact hok.dX M _ h22 h23 (hsd.mono hN) hX
  ·exact hX.1.elim
end
section

end
section
set_option maxRecDepth 100000

end
section
structure Op9 where
 th:Int
 op:Int
 key:Int
 val:Int
 kind:Int
 ak:Int
 av:Int
 fr:Int
 to:Int
abbrev Op9.cells (o:Op9):List vQ:=[iQ o.th,iQ o.op,.int .u32 o.key,.int .u32 o.val,iQ o.kind,.int .u32 o.ak,.int .u32 o.av,iQ o.fr,iQ o.to]
end
section
def Tl3 (ps:List Pr) (c:C3):C3:=if Fv c then (if c.o=0 then ⟨0,0,0⟩ else match S79 ps with | []=>⟨3,0,0⟩ | p :: _=>⟨2,p.1,p.2⟩) else ⟨1,0,0⟩
def dfC:C3:=⟨0,0,0⟩
def stP (cs:List C3):Nat->List Pr
 | 0=>[]
 | i+1=>let ps:=stP cs i;let c:=cs.getD i dfC;(doP ps c (Tl3 ps c)).getD ps
end
section
structure Op7 where
 pl:Int
 c:C3
 a:C3
abbrev Op7.cells (o:Op7):List vQ:=[iQ o.pl,iQ o.c.o,.int .u32 o.c.k,.int .u32 o.c.v,iQ o.a.o,.int .u32 o.a.k,.int .u32 o.a.v]
end
section
open Go.ChangeShapes Go.WideShapes Go.ChangeAt Go.RowKit
theorem N3 {H:Type} {enc:TypeId × Value->H} {P:Program} {W:World} {base:Nat} {spare:Nat->Bool} {held:Bool} {fuel:Nat} {t:TypeId} {cs:List Value} {x:DataW H × List MemPlace} {fs:Array Field} (ht:P.underlying t=some (.struct fs))
  (h:DataW.trod enc P W base spare held fuel t cs=some x) (i:Nat) (f:Field) (hf:fs[i]? = some f):∃n y,DataW.trod enc P W base spare held n f.type ((cs.drop f.offset).take (P.cellsOf f.type))=some y:=by
 obtain ⟨xs,n,_,_,_,hlen,hfl⟩:=DataW.trod_struct ht h
 have hi:i < xs.length:=by rw [hlen];exact (Array.getElem?_eq_some_iff.1 hf).1
 exact ⟨n,xs[i],by rw [hfl i f hf,List.getElem?_eq_getElem hi]⟩
theorem Qg {H:Type} {enc:TypeId × Value->H} {P:Program} {W:World} {base:Nat} {spare:Nat->Bool} {held:Bool} {fuel:Nat} {t:TypeId} {cs:List Value} {x:DataW H × List MemPlace} {fs:Array Field} (ht:P.underlying t=some (.struct fs))
  (h:DataW.trod enc P W base spare held fuel t cs=some x):cs.length=P.cellsOf t:=by
 obtain ⟨xs,n,_,_,hl,_,_⟩:=DataW.trod_struct ht h
 exact hl
theorem Yt {H:Type} {enc:TypeId × Value->H} {W:World} {α:Type} {f:α->List Value} {n:Nat} (hf:∀x,(f x).length=n) (hn:0 < n) {ts t:TypeId} (hu:Program.underlying Tryz.prog ts=some (.slice t)) (hco:Program.cellsOf Tryz.prog t=n)
  (hcell:∀fuel cs x,DataW.trod enc Tryz.prog W 0 (λ_=>true) true fuel t cs=some x->∃e,cs=f e) {d:DataW H} {ps:List MemPlace} {a:Option Addr} {l c:Nat}
  (h:DataW.Trod enc Tryz.prog W 0 (λ_=>true) true ts (.slice a l c) d ps):∃es:List α,SX f W.heap a l c es:=by
 obtain ⟨fuel,hf0⟩:=h
 rcases DataW.trod_slice hu hf0 with ⟨hcs,_⟩ | ⟨x,l1,c1,elems,rest,m,_,hcs,_,_,hl,hm,hlen,hel,_,_⟩
 ·simp [Value.cells] at hcs
  obtain ⟨rfl,rfl,rfl⟩:=hcs
  exact ⟨[],⟨N5.nil _ _,rfl,Nat.le_refl _⟩⟩
 ·simp [Value.cells] at hcs
  obtain ⟨rfl,rfl,rfl⟩:=hcs
  have each:∀i,i < l->∃e:α,∀j v,(f e)[j]? = some v->A3 W.heap (x.add (i*n+j))=some v:=by
   intro i hi
   have:=hel i hi
   rw [List.getElem?_eq_getElem (by omega),Option.bind_eq_some_iff] at this
   obtain ⟨cs,h1,h2⟩:=this
   obtain ⟨e,rfl⟩:=hcell _ _ _ h2
   obtain ⟨_,h3,h4⟩:=World.cells?_some h1
   refine ⟨e,λj v hv=>?_⟩
   have hj:j < n:=by have:=(List.getElem?_eq_some_iff.1 hv).1;rwa [hf] at this
   rw [hco] at h1 h4
   have h5:=h4 j (by omega)
   rw [hv,Z7] at h5
   exact h5
  have pick:∀m,m<=l->∃es:List α,es.length=m/\∀i (hi:i < es.length),∀j v,(f es[i])[j]? = some v->A3 W.heap (x.add (i*n+j))=some v:=by
   intro m
   induction m with
   | zero=>intro _;exact ⟨[],rfl,λi hi=>by simp at hi⟩
   | succ m ih=>
    intro hm
    obtain ⟨es,h1,h2⟩:=ih (by omega)
    obtain ⟨e,he⟩:=each m (by omega)
    refine ⟨es ++ [e],by simp [h1],λi hi j v hv=>?_⟩
    by_cases e:i < es.length
    ·rw [List.getElem_append_left e] at hv
     exact h2 i e j v hv
    ·have:i=m:=by simp at hi;omega
     subst this
     rw [List.getElem_append_right (by omega)] at hv
     simp only [h1,Nat.sub_self,List.getElem_singleton] at hv
     exact he j v hv
  obtain ⟨es,h1,h2⟩:=pick l (Nat.le_refl _)
  refine ⟨es,⟨?_,h1,hl⟩⟩
  intro q v hq
  have hqlt:q < es.length*n:=by rw [<- Ch hf];exact (List.getElem?_eq_some_iff.1 hq).1
  have hi:q / n < es.length:=(Nat.div_lt_iff_lt_mul hn).2 hqlt
  have e:=N0 hf hi (j:=q % n) (Nat.mod_lt _ hn)
  have e3:q / n*n+q % n=q:=by rw [Nat.mul_comm];exact Nat.div_add_mod q n
  rw [e3,hq] at e
  have:=h2 (q / n) hi (q % n) v e.symm
  rw [e3] at this
  exact ⟨x,rfl,this⟩
theorem RA:Program.cellsOf Tryz.prog 39=1:=by kernel_rfl
theorem Y3:Program.cellsOf Tryz.prog 3=1:=by kernel_rfl
theorem Pa:Program.cellsOf Tryz.prog 41=3:=by kernel_rfl
section
variable {H:Type} {enc:TypeId × Value->H} {W:World} {fuel:Nat} {cs:List Value} {x:DataW H × List MemPlace}
end
section
variable {H:Type} {enc:TypeId × Value->H} {W:World} {d:DataW H} {ps:List MemPlace} {a:Option Addr} {l c:Nat}
end
end
section
set_option maxRecDepth 100000
variable {K:kQ} {h:A2}
abbrev g59 (K:kQ) (h H1:A2):Prop:=
 (IE H1 h.size λa b c d e f g=>cf 98 #[.agg #[a,b,c,d,e,f,g]] H1 λa b=>J3 a λc=>D9 c 0 λc=>asAgg c λc=>G3 c 15 (O8 c λc d e f g i j k l m n o p q r=>J3 a λa=>D9 a 1 λa=>asInt .i64 a λa=>C7 (b.push (oQ AA 117)) (aQ b.size) c λc=>C7 c ⟨b.size,1,none⟩ d λc=>C7 c ⟨b.size,2,none⟩ e λc=>C7 c ⟨b.size,3,none⟩ f λc=>C7 c ⟨b.size,4,none⟩ g λc=>C7 c ⟨b.size,5,none⟩ i λc=>C7 c ⟨b.size,6,none⟩ j λc=>C7 c ⟨b.size,7,none⟩ k λc=>C7 c ⟨b.size,8,none⟩ l λc=>C7 c ⟨b.size,9,none⟩ m λc=>C7 c ⟨b.size,10,none⟩ n λc=>C7 c ⟨b.size,11,none⟩ o λc=>C7 c ⟨b.size,12,none⟩ p λc=>C7 c ⟨b.size,13,none⟩ q λc=>C7 c ⟨b.size,14,none⟩ r λb=>K (iQ a) b))
def F59 (K:kQ) (h:A2) (xa xb xc xd xe xf xg:Int):Prop:=
 (g59 K h (h.push (oQ #[iQ xa,iQ xb,iQ xc,iQ xd,iQ xe,iQ xf,iQ xg] 23)))
theorem call59 {xa xb xc xd xe xf xg:Int} (H:F59 K h xa xb xc xd xe xf xg):A4 prog 59 #[(.agg #[(iQ xa),(iQ xb),(iQ xc),(iQ xd),(iQ xe),(iQ xf),(iQ xg)])] h K:=
 cQ Tryz.func59 H
abbrev g98 (K:kQ) (h H1 H2:A2):Prop:=
 (lI .i64 H2 (aQ h.size) λa=>lI .i64 H2 ⟨h.size,1,none⟩ λb=>lI .i64 H2 ⟨h.size,2,none⟩ λc=>lI .i64 H2 ⟨h.size,3,none⟩ λd=>lI .i64 H2 ⟨h.size,4,none⟩ λe=>lI .i64 H2 ⟨h.size,5,none⟩ λf=>lI .i64 H2 ⟨h.size,6,none⟩ λg=>cf 138 #[lQ (some (aQ H2.size)) 7 7] (H2.push (oQ #[iQ a,iQ 0,iQ 2,iQ b,iQ 1,iQ 6,iQ c,iQ 1,iQ 64,iQ d,iQ 1,iQ 6,iQ e,iQ 1,iQ 16,iQ f,iQ 1,iQ 16,iQ g,iQ 1,iQ 64] 229)) λa b=>asBool a λa=>D4 (!a) (Yi b H1.size (iQ 0) (iQ 0) (iQ 0) (iQ 0) (iQ 0) (iQ 0) (iQ 0) (iQ 0) (iQ 0) (iQ 0) (iQ 0) (iQ 0) (iQ 0) (iQ 0) (iQ 0) λa=>BO a H1.size λc d e f g i j k l m n o p q r=>K (.tuple #[.agg #[c,d,e,f,g,i,j,k,l,m,n,o,p,q,r],iQ 6]) a) (IE b h.size λa c d e f g i=>lI .i64 b ⟨h.size,3,none⟩ λj=>lI .i64 b ⟨h.size,3,none⟩ λk=>C7 (b.push (oQ AA 117)) (aQ b.size) a λa=>C7 a ⟨b.size,1,none⟩ c λa=>C7 a ⟨b.size,2,none⟩ d λa=>C7 a ⟨b.size,3,none⟩ e λa=>C7 a ⟨b.size,4,none⟩ f λa=>C7 a ⟨b.size,5,none⟩ g λa=>C7 a ⟨b.size,6,none⟩ i λa=>C7 a ⟨b.size,7,none⟩ (iQ (wrap .i64 ((wrap .i64 (2*j))+2))) λa=>C7 a ⟨b.size,8,none⟩ (iQ (wrap .i64 (5+k))) λa=>C7 a ⟨b.size,9,none⟩ (iQ 2) λa=>C7 a ⟨b.size,10,none⟩ (iQ 0) λa=>C7 a ⟨b.size,11,none⟩ (iQ 0) λa=>C7 a ⟨b.size,12,none⟩ (iQ 0) λa=>C7 a ⟨b.size,13,none⟩ (iQ 0) λa=>C7 a ⟨b.size,14,none⟩ (iQ 0) λa=>R3 λI73=>(lI .i64 a (aQ h.size) λc=>D4 (c == 0) (D2 a ⟨h.size,3,none⟩ λc=>asInt .i64 c λd=>((0:Int)<=d)/\(C7 a ⟨b.size,7,none⟩ (iQ 2) λe=>ce e h.size 3 c (C7 e ⟨b.size,8,none⟩ (iQ 3) λe=>ce e h.size 3 c (C7 e ⟨b.size,9,none⟩ (iQ 0) λe=>ce e h.size 3 c (I73 [iQ (wrap .i64 (1*(2 ^ (min d.toNat 64))))] e))))) (I73 [iQ 0] a))/\(∀(a:vQ) (c:G4) (c:A2),(I73 [a] c)->(lI .i64 c ⟨h.size,2,none⟩ λd=>lI .i64 c ⟨b.size,9,none⟩ λe=>D4 (decide (d<=e)) (Yi c H1.size (iQ 0) (iQ 0) (iQ 0) (iQ 0) (iQ 0) (iQ 0) (iQ 0) (iQ 0) (iQ 0) (iQ 0) (iQ 0) (iQ 0) (iQ 0) (iQ 0) (iQ 0) λd=>BO d H1.size λe f g i j k l m n o p q r s t=>K (.tuple #[.agg #[e,f,g,i,j,k,l,m,n,o,p,q,r,s,t],iQ 6]) d) (C7 c ⟨b.size,10,none⟩ (iQ 8) λc=>lI .i64 c ⟨b.size,10,none⟩ λd=>lI .i64 c ⟨h.size,1,none⟩ λe=>lI .i64 c ⟨b.size,7,none⟩ λf=>C7 c ⟨b.size,11,none⟩ (iQ (wrap .i64 (d+(wrap .i64 (e*f))))) λc=>lI .i64 c ⟨b.size,11,none⟩ λd=>lI .i64 c ⟨h.size,2,none⟩ λe=>C7 c ⟨b.size,12,none⟩ (iQ (wrap .i64 (d+e))) λc=>lI .i64 c ⟨b.size,12,none⟩ λd=>lI .i64 c ⟨h.size,2,none⟩ λe=>lI .i64 c ⟨b.size,8,none⟩ λf=>C7 c ⟨b.size,13,none⟩ (iQ (wrap .i64 (d+(wrap .i64 (e*f))))) λc=>lI .i64 c ⟨b.size,13,none⟩ λd=>asInt .i64 a λa=>C7 c ⟨b.size,14,none⟩ (iQ (wrap .i64 (d+a))) λa=>BO a b.size λb c d e f g i j k l m n o p q=>Yi a H1.size b c d e f g i j k l m n o p q λa=>BO a H1.size λb c d e f g i j k l m n o p q=>K (.tuple #[.agg #[b,c,d,e,f,g,i,j,k,l,m,n,o,p,q],iQ 0]) a)))))
def F98 (K:kQ) (h:A2) (xa xb xc xd xe xf xg:Int):Prop:=
 (g98 K h (h.push (oQ #[iQ xa,iQ xb,iQ xc,iQ xd,iQ xe,iQ xf,iQ xg] 23)) (Array.push (h.push (oQ #[iQ xa,iQ xb,iQ xc,iQ xd,iQ xe,iQ xf,iQ xg] 23)) (oQ AA 117)))
theorem call98 {xa xb xc xd xe xf xg:Int} (H:F98 K h xa xb xc xd xe xf xg):A4 prog 98 #[(.agg #[(iQ xa),(iQ xb),(iQ xc),(iQ xd),(iQ xe),(iQ xf),(iQ xg)])] h K:=
 cQ Tryz.func98 H
def F138 (K:kQ) (h:A2) (xa:rQ) (xb xc:Nat):Prop:=
 (R3 λI0=>GI λm1=>(I0 [dQ false,iQ 0] h)/\(∀(a b:vQ) (c:G4) (c:A2),(I0 [a,b] c)->(asInt .i64 b λd=>D4 (decide (d < ((xb:Nat):Int))) (Il b λd=>bd d ((xb:Nat):Int) (F3 (pQ xa) λe=>D2 c (e.add (d.toNat*3)) λf=>D2 c (Addr.add (e.add (d.toNat*3)) 1) λg=>D2 c (Addr.add (e.add (d.toNat*3)) 2) λd=>C7 (c.push (oQ #[iQ 0,iQ 0,iQ 0] 229)) (aQ c.size) f λe=>C7 e ⟨c.size,1,none⟩ g λe=>C7 e ⟨c.size,2,none⟩ d λd=>R3 λI15=>(lI .i64 d (aQ c.size) λe=>lI .i64 d ⟨c.size,1,none⟩ λf=>D4 (decide (e < f)) (I15 [dQ true] d) (lI .i64 d (aQ c.size) λe=>lI .i64 d ⟨c.size,2,none⟩ λf=>I15 [dQ (decide (e > f))] d))/\(∀(d:vQ) (e:G4) (e:A2),(I15 [d] e)->(asBool d λd=>D4 d (K (dQ false) e) (asInt .i64 b λd=>(I0 [a,iQ (wrap .i64 (d+1))] e)/\((m1 [a,iQ (wrap .i64 (d+1))] e) < (m1 [a,b] c))))))) (K (dQ true) c))))
theorem call138 {xa:rQ} {xb xc:Nat} (H:F138 K h xa xb xc):A4 prog 138 #[(lQ xa xb xc)] h K:=
 cQ Tryz.func138 H
abbrev g9 (K:kQ) (h H1:A2):Prop:=
 (R3 λI0=>(lI .i64 H1 (aQ h.size) λa=>D4 (decide (a < 0)) (I0 [dQ true,dQ true,dQ true,dQ true,dQ true,dQ true,dQ true] H1) (lI .i64 H1 (aQ h.size) λa=>D4 (decide (a > 2)) (I0 [dQ (decide (a > 2)),dQ true,dQ true,dQ true,dQ true,dQ true,dQ true] H1) (lI .i64 H1 ⟨h.size,1,none⟩ λb=>D4 (decide (b < 1)) (I0 [dQ (decide (a > 2)),dQ (decide (b < 1)),dQ true,dQ true,dQ true,dQ true,dQ true] H1) (lI .i64 H1 ⟨h.size,1,none⟩ λc=>D4 (decide (c > 6)) (I0 [dQ (decide (a > 2)),dQ (decide (b < 1)),dQ (decide (c > 6)),dQ true,dQ true,dQ true,dQ true] H1) (lI .i64 H1 ⟨h.size,2,none⟩ λd=>D4 (decide (d < 1)) (I0 [dQ (decide (a > 2)),dQ (decide (b < 1)),dQ (decide (c > 6)),dQ (decide (d < 1)),dQ true,dQ true,dQ true] H1) (lI .i64 H1 ⟨h.size,2,none⟩ λe=>D4 (decide (e > 64)) (I0 [dQ (decide (a > 2)),dQ (decide (b < 1)),dQ (decide (c > 6)),dQ (decide (d < 1)),dQ (decide (e > 64)),dQ true,dQ true] H1) (lI .i64 H1 ⟨h.size,3,none⟩ λf=>D4 (decide (f < 1)) (I0 [dQ (decide (a > 2)),dQ (decide (b < 1)),dQ (decide (c > 6)),dQ (decide (d < 1)),dQ (decide (e > 64)),dQ (decide (f < 1)),dQ true] H1) (lI .i64 H1 ⟨h.size,3,none⟩ λg=>I0 [dQ (decide (a > 2)),dQ (decide (b < 1)),dQ (decide (c > 6)),dQ (decide (d < 1)),dQ (decide (e > 64)),dQ (decide (f < 1)),dQ (decide (g > 6))] H1))))))))/\(∀(a b c d e f g:vQ) (i:G4) (i:A2),(I0 [a,b,c,d,e,f,g] i)->(asBool g λa=>D4 a (K (dQ false) i) (R3 λI27=>(lI .i64 i ⟨h.size,4,none⟩ λa=>D4 (decide (a < 1)) (I27 [dQ true,dQ true,dQ true,dQ true,dQ true] i) (lI .i64 i ⟨h.size,4,none⟩ λa=>D4 (decide (a > 16)) (I27 [dQ (decide (a > 16)),dQ true,dQ true,dQ true,dQ true] i) (lI .i64 i ⟨h.size,5,none⟩ λb=>D4 (decide (b < 1)) (I27 [dQ (decide (a > 16)),dQ (decide (b < 1)),dQ true,dQ true,dQ true] i) (lI .i64 i ⟨h.size,5,none⟩ λc=>D4 (decide (c > 16)) (I27 [dQ (decide (a > 16)),dQ (decide (b < 1)),dQ (decide (c > 16)),dQ true,dQ true] i) (lI .i64 i ⟨h.size,6,none⟩ λd=>D4 (decide (d < 1)) (I27 [dQ (decide (a > 16)),dQ (decide (b < 1)),dQ (decide (c > 16)),dQ (decide (d < 1)),dQ true] i) (lI .i64 i ⟨h.size,6,none⟩ λe=>I27 [dQ (decide (a > 16)),dQ (decide (b < 1)),dQ (decide (c > 16)),dQ (decide (d < 1)),dQ (decide (e > 64))] i))))))/\(∀(a b c d e:vQ) (f:G4) (f:A2),(I27 [a,b,c,d,e] f)->(asBool e λa=>D4 a (K (dQ false) f) (D2 f ⟨h.size,2,none⟩ λa=>asInt .i64 a λb=>IE f h.size λc d e g i j k=>cf 28 #[.agg #[c,d,e,g,i,j,k]] f λc d=>asInt .i64 c λc=>ce d h.size 2 a (K (dQ (decide (b > c))) d))))))))
def F9 (K:kQ) (h:A2) (xa xb xc xd xe xf xg:Int):Prop:=
 (g9 K h (h.push (oQ #[iQ xa,iQ xb,iQ xc,iQ xd,iQ xe,iQ xf,iQ xg] 23)))
theorem call9 {xa xb xc xd xe xf xg:Int} (H:F9 K h xa xb xc xd xe xf xg):A4 prog 9 #[(.agg #[(iQ xa),(iQ xb),(iQ xc),(iQ xd),(iQ xe),(iQ xf),(iQ xg)])] h K:=
 cQ Tryz.func9 H
abbrev g28 (K:kQ) (h H1:A2):Prop:=
 (lI .i64 H1 (aQ h.size) λa=>D4 (a == 0) (K (iQ 0) H1) (K (iQ 2) H1))
def F28 (K:kQ) (h:A2) (xa xb xc xd xe xf xg:Int):Prop:=
 (g28 K h (h.push (oQ #[iQ xa,iQ xb,iQ xc,iQ xd,iQ xe,iQ xf,iQ xg] 23)))
theorem call28 {xa xb xc xd xe xf xg:Int} (H:F28 K h xa xb xc xd xe xf xg):A4 prog 28 #[(.agg #[(iQ xa),(iQ xb),(iQ xc),(iQ xd),(iQ xe),(iQ xf),(iQ xg)])] h K:=
 cQ Tryz.func28 H
end
section
abbrev KM (X Y Z:Nat->Int) (i:Nat):Prop:=Y i<=X i/\X i<=Z i
theorem Up {K:kQ} {h:A2} {a:Addr} {l c:Nat} {X Y Z:Nat->Int} (hl:l<=1000)
  (H:∀i,i < l->A3 h (a.add (i*3))=some (iv (X i))/\A3 h ((a.add (i*3)).add 1)=some (iv (Y i))/\A3 h ((a.add (i*3)).add 2)=some (iv (Z i)))
  (k1:(∀i,i < l->KM X Y Z i)->∀h',G9 h.size h h'->K (dQ true) h') (k0:(∃i,i < l/\¬ KM X Y Z i)->∀h',G9 h.size h h'->K (dQ false) h') :
  A4 prog 138 #[lQ (some a) l c] h K:=by
 refine call138 ?_
 unfold F138 bd lI
 refine ⟨λvs h'=>∃i:Nat,vs = [.bool false,iv i]/\G9 h.size h h'/\i<=l/\∀j,j < i->KM X Y Z j,λvs _=>(match vs with | [_,.int _ n]=>l - n.toNat | _=>0),⟨0,rfl,G9.refl _ _,T4 _,λj hj=>by omega⟩,?_⟩
 rintro v2 v3 g h5 ⟨i,e,ho,hi,hall⟩
 cases e
 simp only [A5,Db]
 refine A6 (λhlt=>?_) (λhge=>?_)
 ·obtain ⟨e1,e2,e3⟩:=H i (by omega)
  refine ⟨by omega,hlt,?_⟩
  simp only [D0,X5]
  refine C6 (AU _ _ ho e1) (C6 (AU _ _ ho e2) (C6 (AU _ _ ho e3) ?_))
  have p:=G8 h5 #[iQ 0,iQ 0,iQ 0] 229
  generalize h5.push (oQ #[iQ 0,iQ 0,iQ 0] 229)=hp at *
  refine st3 (F5 p.new rfl (by simp [J0]) λh14 w=>?_)
  have o14:G9 h.size h h14:=w.toOld (ho.trans (p.toOld.mono ho.1)) ho.1
  refine ⟨λvs h'=>vs = [dQ (decide (¬ KM X Y Z i))]/\h' = h14,?_,?_⟩
  ·refine C4 w.new rfl ?_
   simp only [A5]
   refine C4 w.new rfl ?_
   simp only [A5]
   refine A6 (λh1=>⟨?_,by trivial⟩) (λh1=>?_)
   ·rw [V6 (by unfold KM;omega)]
   ·refine C4 w.new rfl ?_
    simp only [A5]
    refine C4 w.new rfl ?_
    simp only [A5]
    refine ⟨?_,by trivial⟩
    congr 2;rw [decide_eq_decide];unfold KM;omega
  ·rintro v24 g25 h26 ⟨e,rfl⟩
   cases e
   simp only [C0]
   refine A6 (λh1=>k0 ⟨i,by omega,h1⟩ _ o14) (λh1=>?_)
   rw [N8 (by omega)]
   refine ⟨⟨i+1,rfl,o14,by omega,λj hj=>?_⟩,?_⟩
   ·by_cases hji:j < i
    ·exact hall j hji
    ·rw [show j=i by omega];exact Decidable.of_not_not h1
   ·show l - ((i+1:Nat):Int).toNat < l - (i:Int).toNat
    omega
 ·exact k1 (λj hj=>hall j (by omega)) _ ho
structure Cf where
 a:Int
 t:Int
 n:Int
 l:Int
 b:Int
 p:Int
 s:Int
def Cf.sent (c:Cf):Int:=if c.a=0 then 0 else 2
def Cf.slots (c:Cf):Int:=if c.a=0 then 2 else 2*c.l+2
def Cf.width (c:Cf):Int:=if c.a=0 then 3 else 5+c.l
def Cf.links (c:Cf):Int:=8+c.t*c.slots
def Cf.nodes (c:Cf):Int:=c.links+c.n
def Cf.tree (c:Cf):Int:=c.nodes+c.n*c.width
def Cf.size (c:Cf):Int:=c.tree+(if c.a=0 then 2 ^ c.l.toNat else 0)
structure Cf.Right (c:Cf):Prop where
 a:0<=c.a/\c.a<=2
 t:1<=c.t/\c.t<=6
 n:1<=c.n/\c.n<=64
 l:1<=c.l/\c.l<=6
 b:1<=c.b/\c.b<=16
 p:1<=c.p/\c.p<=16
 s:1<=c.s/\c.s<=64
 z:c.sent < c.n
abbrev Cf.vals (c:Cf):Array vQ:=#[iQ c.a,iQ c.t,iQ c.n,iQ c.l,iQ c.b,iQ c.p,iQ c.s]
abbrev Cf.plan (c:Cf):Array vQ:=#[iQ c.a,iQ c.t,iQ c.n,iQ c.l,iQ c.b,iQ c.p,iQ c.s,iQ c.slots,iQ c.width,iQ c.sent,iQ 8,iQ c.links,iQ c.nodes,iQ c.tree,iQ c.size]
abbrev X2:Array vQ:=AA
theorem Uq {K:kQ} {h:A2} (c:Cf) (k1:c.Right->∀h',G9 h.size h h'->K (.tuple #[.agg c.plan,iQ 0]) h') (k0:¬ c.Right->∀h',G9 h.size h h'->K (.tuple #[.agg X2,iQ 6]) h') :
  A4 prog 98 #[.agg c.vals] h K:=by
 refine call98 ?_
 unfold F98 g98 cf ce lI IE BO Yi
 have p1:=G8 h c.vals 23
 rw [show h.push (oQ #[iQ c.a,iQ c.t,iQ c.n,iQ c.l,iQ c.b,iQ c.p,iQ c.s] 23)=h.push (oQ c.vals 23) from rfl]
 generalize h.push (oQ c.vals 23)=h1 at *
 have p2:=G8 h1 X2 117
 rw [show h1.push (oQ AA 117)=h1.push (oQ X2 117) from rfl]
 generalize h1.push (oQ X2 117)=h2 at *
 have s1:=p1.size
 have s2:=p2.size
 have c2:h2[h.size]? = some (oQ c.vals 23):=(p2.old _ (by omega)).trans p1.new
 have o2:G9 h.size h h2:=p1.toOld.trans (p2.toOld.mono (by omega))
 rw [s1]
 have n2:h2[h.size+1]? = some (oQ X2 117):=by rw [<- s1];exact p2.new
 iterate 7 (refine C4 c2 rfl ?_;simp only [A5])
 have p3:=G8 h2 #[iQ c.a,iQ 0,iQ 2,iQ c.t,iQ 1,iQ 6,iQ c.n,iQ 1,iQ 64,iQ c.l,iQ 1,iQ 6,iQ c.b,iQ 1,iQ 16,iQ c.p,iQ 1,iQ 16,iQ c.s,iQ 1,iQ 64] 229
 generalize h2.push (oQ #[iQ c.a,iQ 0,iQ 2,iQ c.t,iQ 1,iQ 6,iQ c.n,iQ 1,iQ 64,iQ c.l,iQ 1,iQ 6,iQ c.b,iQ 1,iQ 16,iQ c.p,iQ 1,iQ 16,iQ c.s,iQ 1,iQ 64] 229)=h3 at *
 have o3:G9 h2.size h2 h3:=p3.toOld
 have c3:=(o3.2 _ (by omega)).trans c2
 have n3:=(o3.2 _ (by omega)).trans n2
 have nothing:∀(h':A2) (row:Array vQ),G9 h.size h h'->h'[h.size+1]? = some (oQ row 117)->row.size=15->¬ c.Right->∀(F:A2->Prop),(∀h'',G9 h.size h h''->h''[h.size+1]? = some (oQ X2 117)->F h'') ->
   OH h' ⟨h.size+1,0,none⟩ 0 X2.toList F:=by
  intro h' row o hb hr hn F hF
  refine F5 hb (by rw [hr];rfl) (by simp [J0]) λh'' w=>?_
  exact hF _ (w.toOld o (by omega)) (by simpa using w.new)
 refine A0 (Up (X:=λi=>[c.a,c.t,c.n,c.l,c.b,c.p,c.s].getD i 0) (Y:=λi=>[0,1,1,1,1,1,1].getD i 0) (Z:=λi=>[2,6,64,6,16,16,64].getD i 0) (by omega) ?_ (λhall h15 o15=>?_) (λhex h15 o15=>?_))
 ·intro i hi
  simp only [E2]
  have:i=0\/i=1\/i=2\/i=3\/i=4\/i=5\/i=6:=by omega
  rcases this with rfl | rfl | rfl | rfl | rfl | rfl | rfl <;> exact ⟨F6 p3.new rfl,F6 p3.new rfl,F6 p3.new rfl⟩
 ·
  have q0:0<=c.a/\c.a<=2:=hall 0 (by omega)
  have q1:1<=c.t/\c.t<=6:=hall 1 (by omega)
  have q2:1<=c.n/\c.n<=64:=hall 2 (by omega)
  have q3:1<=c.l/\c.l<=6:=hall 3 (by omega)
  have q4:1<=c.b/\c.b<=16:=hall 4 (by omega)
  have q5:1<=c.p/\c.p<=16:=hall 5 (by omega)
  have q6:1<=c.s/\c.s<=64:=hall 6 (by omega)
  have s3:=p3.size
  have c15:=(o15.2 _ (by omega)).trans c3
  have n15:=(o15.2 _ (by omega)).trans n3
  have ok15:G9 h.size h h15:=(o2.trans (o3.mono (by omega))).trans (o15.mono (by omega))
  have hs15:h.size+3<=h15.size:=by have:=o15.1;omega
  simp only [C0,IV,E7]
  iterate 7 (refine C4 c15 rfl ?_)
  refine C4 c15 rfl ?_
  simp only [A5]
  refine C4 c15 rfl ?_
  simp only [A5]
  have p4:=G8 h15 X2 117
  rw [show h15.push (oQ AA 117)=h15.push (oQ X2 117) from rfl]
  generalize h15.push (oQ X2 117)=h16 at *
  refine OV (F5 p4.new rfl (by simp [J0]) λh72 w72=>?_)
  have c72:=(w72.old h.size (by omega)).trans ((p4.old _ (by omega)).trans c15)
  have n72:=(w72.old (h.size+1) (by omega)).trans ((p4.old _ (by omega)).trans n15)
  have o72:G9 h.size h h72:=w72.toOld (ok15.trans (p4.toOld.mono ok15.1)) ok15.1
  have e1:wrap .i64 (2*c.l)=2*c.l:=E3 (by omega) (by omega)
  have e2:wrap .i64 (2*c.l+2)=2*c.l+2:=E3 (by omega) (by omega)
  have e3:wrap .i64 (5+c.l)=5+c.l:=E3 (by omega) (by omega)
  have w72':=w72.new
  simp only [e1,e2,e3] at w72'
  refine ⟨λvs h'=>vs = [iv (if c.a=0 then 2 ^ c.l.toNat else 0)]/\G9 h.size h h'/\h'.size=h72.size/\h'[h.size]? = some (oQ c.vals 23)/\h'[h.size+1]? = some (oQ X2 117) /\
   h'[h15.size]? = some (oQ #[iQ c.a,iQ c.t,iQ c.n,iQ c.l,iQ c.b,iQ c.p,iQ c.s,iQ c.slots,iQ c.width,iQ c.sent,iQ 0,iQ 0,iQ 0,iQ 0,iQ 0] 117),?_,?_⟩
  ·refine C4 c72 rfl ?_
   simp only [A5]
   apply D1<;>intro ha
   ·have ha:c.a=0:=by simpa using ha
    refine C4 c72 rfl ?_
    simp only [A5]
    refine ⟨by omega,stR w72' rfl trivial λh78 w78=>?_⟩
    refine ⟨F6 ((w78.old _ (by omega)).trans c72) rfl,stR w78.new rfl trivial λh79 w79=>?_⟩
    refine ⟨F6 ((w79.old _ (by omega)).trans ((w78.old _ (by omega)).trans c72)) rfl,stR w79.new rfl trivial λh80 w80=>?_⟩
    have w:=(w78.trans w79).trans w80
    refine ⟨F6 ((w.old _ (by omega)).trans c72) rfl,?_,w.toOld o72 ok15.1,w.size,(w.old _ (by omega)).trans c72,(w.old _ (by omega)).trans n72,?_⟩
    ·rw [A8 ha]
     congr 2
     have:c.l.toNat<=6:=by omega
     rw [Int.one_mul,show min c.l.toNat 64=c.l.toNat by omega]
     have:∀k:Nat,k<=6->wrap .i64 ((2:Int) ^ k)=2 ^ k:=by decide
     exact this _ (by omega)
    ·rw [w.new]
     simp only [Cf.slots,Cf.width,Cf.sent,A8 ha]
     rfl
   ·have ha:c.a≠0:=by simpa using ha
    refine ⟨?_,o72,by trivial,c72,n72,?_⟩
    ·rw [A7 ha]
    ·rw [w72']
     simp only [Cf.slots,Cf.width,Cf.sent,A7 ha]
  rintro v81 g82 h83 ⟨e,o83,s83,c83,n83,m83⟩
  cases e
  refine C4 c83 rfl ?_
  simp only [A5]
  refine C4 m83 rfl ?_
  simp only [A5]
  apply A6<;>intro hz
  ·have hn:¬ c.Right:=λr=>by have:=r.z;omega
   refine OV (nothing h83 X2 o83 n83 rfl hn _ λh102 o102 n102=>?_)
   iterate 15 (refine C4 n102 rfl ?_)
   exact k0 hn _ o102
  ·have hr:c.Right:=⟨q0,q1,q2,q3,q4,q5,q6,by omega⟩
   have hslots:2<=c.slots/\c.slots<=14:=by unfold Cf.slots;split <;> omega
   have hwidth:3<=c.width/\c.width<=11:=by unfold Cf.width;split <;> omega
   have m1:c.t*c.slots<=6*14:=OA q1.2 hslots.2 (by omega) (by omega)
   have m2:0<=c.t*c.slots:=QV (by omega) (by omega)
   have m3:c.n*c.width<=64*11:=OA q2.2 hwidth.2 (by omega) (by omega)
   have m4:0<=c.n*c.width:=QV (by omega) (by omega)
   have m5:∀k:Nat,k<=6->0<=(2:Int) ^ k/\(2:Int) ^ k<=64:=by decide
   have m6:=m5 c.l.toNat (by omega)
   refine stR m83 rfl trivial λh118 w118=>?_
   have c118:=(w118.old h.size (by omega)).trans c83
   refine C4 w118.new rfl ?_
   simp only [A5]
   refine C4 c118 rfl ?_
   simp only [A5]
   refine C4 w118.new rfl ?_
   simp only [A5]
   rw [E3 (n:=c.t*c.slots) (by omega) (by omega),E3 (n:=8+c.t*c.slots) (by omega) (by omega)]
   refine stR w118.new rfl trivial λh125 w125=>?_
   have c125:=(w125.old h.size (by omega)).trans c118
   refine C4 w125.new rfl ?_
   simp only [A5]
   refine C4 c125 rfl ?_
   simp only [A5]
   rw [E3 (n:=8+c.t*c.slots+c.n) (by omega) (by omega)]
   refine stR w125.new rfl trivial λh130 w130=>?_
   have c130:=(w130.old h.size (by omega)).trans c125
   refine C4 w130.new rfl ?_
   simp only [A5]
   refine C4 c130 rfl ?_
   simp only [A5]
   refine C4 w130.new rfl ?_
   simp only [A5]
   rw [E3 (n:=c.n*c.width) (by omega) (by omega),E3 (n:=8+c.t*c.slots+c.n+c.n*c.width) (by omega) (by omega)]
   refine stR w130.new rfl trivial λh137 w137=>?_
   refine C4 w137.new rfl ?_
   simp only [A5]
   have m7:0<=(if c.a=0 then (2:Int) ^ c.l.toNat else 0)/\(if c.a=0 then (2:Int) ^ c.l.toNat else 0)<=64:=by split <;> omega
   rw [E3 (n:=8+c.t*c.slots+c.n+c.n*c.width+(if c.a=0 then (2:Int) ^ c.l.toNat else 0)) (by omega) (by omega)]
   refine stR w137.new rfl trivial λh141 w141=>?_
   have w:=(((w118.trans w125).trans w130).trans w137).trans w141
   have r141:h141[h15.size]? = some (oQ c.plan 117):=by
    rw [w.new];rfl
   have n141:=(w.old (h.size+1) (by omega)).trans n83
   iterate 15 (refine C4 r141 rfl ?_)
   refine OV (F5 n141 rfl (by simp [J0]) λh171 w171=>?_)
   iterate 15 (refine C4 w171.new rfl ?_)
   exact k1 hr _ (w171.toOld (w.toOld o83 (by omega)) (by omega))
 ·
  have hn:¬ c.Right:=by
   intro r
   obtain ⟨i,hi,hx⟩:=hex
   have:i=0\/i=1\/i=2\/i=3\/i=4\/i=5\/i=6:=by omega
   rcases this with rfl | rfl | rfl | rfl | rfl | rfl | rfl
   ·exact hx r.a
   ·exact hx r.t
   ·exact hx r.n
   ·exact hx r.l
   ·exact hx r.b
   ·exact hx r.p
   ·exact hx r.s
  have s3:=p3.size
  have n15:=(o15.2 _ (by omega)).trans n3
  have ok15:G9 h.size h h15:=(o2.trans (o3.mono (by omega))).trans (o15.mono (by omega))
  simp only [C0,MF,G6]
  refine OV (nothing h15 X2 ok15 n15 rfl hn _ λh31 o31 n31=>?_)
  iterate 15 (refine C4 n31 rfl ?_)
  exact k0 hn _ o31
end
section
open Go.ChangeShapes Go.WideShapes Go.ChangeAt Go.RowKit
end
section
abbrev GT:=Nat->Option Obj
def Hp:=GT->Prop
def Nd (_:Obj):Prop:=∀_:Unit,False->False
def Jw (σ:GT) (h:A2):Prop:=∀b o,σ b=some o->h[b]? = some o/\Nd o
theorem Jw.mk {σ:GT} {h:A2} (s:∀b o,σ b=some o->h[b]? = some o) (d:∀b o,σ b=some o->Nd o):Jw σ h:=λb o e=>⟨s b o e,d b o e⟩
theorem Jw.at {σ:GT} {h:A2} (s:Jw σ h) (b:Nat) (o:Obj) (e:σ b=some o):h[b]? = some o:=(s b o e).1
theorem Jw.nd {σ:GT} {h:A2} (s:Jw σ h) (b:Nat) (o:Obj) (e:σ b=some o):Nd o:=(s b o e).2
def A9 (h:A2) (P:Hp):Prop:=∃σ,Jw σ h/\P σ
def uni (σ τ:GT):GT:=λb=>(σ b).or (τ b)
def dis (σ τ:GT):Prop:=∀b,σ b=none\/τ b=none
instance:Mul Hp:=⟨λP Q ρ=>∃σ τ,dis σ τ/\ρ=uni σ τ/\P σ/\Q τ⟩
def Mt:Hp:=λσ=>σ=λ_=>none
def ex {α:Type} (P:α->Hp):Hp:=λσ=>∃a,P a σ
def pr (p:Prop) (P:Hp):Hp:=λσ=>p/\P σ
def pt (b:Nat) (o:Obj):Hp:=λσ=>∀c,σ c=if c=b then some o else none
def lift (D:Nat->Prop) (F:A2->Prop):Hp:=λσ=>(∀b,D b↔σ b≠none)/\∀h,Jw σ h->F h
theorem SK0 {σ τ:GT} (d:dis σ τ):dis τ σ:=λb=>(d b).symm
theorem SK1 {σ τ:GT} (d:dis σ τ):uni σ τ=uni τ σ:=by
 funext b
 unfold uni
 rcases d b with e | e <;> rw [e] <;> simp
theorem Qh (σ τ ρ:GT):uni (uni σ τ) ρ=uni σ (uni τ ρ):=by
 funext b;unfold uni;cases σ b <;> simp
theorem Di {σ τ:GT} {b:Nat}:uni σ τ b=none↔σ b=none/\τ b=none:=by unfold uni;cases σ b <;> simp
theorem Ec (P Q:Hp):P*Q=Q*P:=by
 have key:∀(P Q:Hp) ρ,(P*Q) ρ->(Q*P) ρ:=λP Q ρ ⟨σ,τ,d,e,p,q⟩=>⟨τ,σ,SK0 d,e.trans (SK1 d),q,p⟩
 funext ρ
 exact propext ⟨key P Q ρ,key Q P ρ⟩
theorem F2 (P Q R:Hp):P*Q*R=P*(Q*R):=by
 funext ρ
 refine propext ⟨?_,?_⟩
 ·rintro ⟨_,ξ,d,rfl,⟨σ,τ,d2,rfl,p,q⟩,r⟩
  refine ⟨σ,uni τ ξ,λb=>?_,Qh _ _ _,p,τ,ξ,λb=>?_,rfl,q,r⟩
  ·rcases d b with e | e
   ·exact .inl (Di.1 e).1
   ·rcases d2 b with e2 | e2
    ·exact .inl e2
    ·exact .inr (Di.2 ⟨e2,e⟩)
  ·rcases d b with e | e
   ·exact .inl (Di.1 e).2
   ·exact .inr e
 ·rintro ⟨σ,_,d,rfl,p,τ,ξ,d2,rfl,q,r⟩
  refine ⟨uni σ τ,ξ,λb=>?_,(Qh _ _ _).symm,⟨σ,τ,λb=>?_,rfl,p,q⟩,r⟩
  ·rcases d b with e | e
   ·rcases d2 b with e2 | e2
    ·exact .inl (Di.2 ⟨e,e2⟩)
    ·exact .inr e2
   ·exact .inr (Di.1 e).2
  ·exact (d b).imp id λe=>(Di.1 e).1
instance:Std.Associative (α:=Hp) (· * ·):=⟨F2⟩
instance:Std.Commutative (α:=Hp) (· * ·):=⟨Ec⟩
theorem A9.ac {h:A2} {P Q:Hp} (H:A9 h P) (e:P=Q):A9 h Q:=e ▸ H
theorem D8 (P Q R:Hp):P*(Q*R)=Q*(P*R):=by rw [<- F2,Ec P Q,F2]
theorem Jk (A B C R:Hp):A*(B*(C*R))=C*(A*(B*R)):=by rw [D8 B C,D8 A C]
theorem SK2 (A B C D R:Hp):A*(B*(C*(D*R)))=D*(A*(B*(C*R))):=by rw [D8 C D,D8 B D,D8 A D]
theorem T8 (P:Hp):Mt*P=P:=by
 funext ρ
 refine propext ⟨?_,λp=>⟨λ_=>none,ρ,λb=>.inl rfl,by funext b;simp [uni],rfl,p⟩⟩
 rintro ⟨_,τ,d,rfl,rfl,p⟩
 have:uni (λ_=>none) τ=τ:=by funext b;simp [uni]
 rw [this];exact p
theorem S16 {α:Type} (P:α->Hp) (R:Hp):ex P*R=ex λa=>P a*R:=by
 funext ρ
 refine propext ⟨?_,?_⟩
 ·rintro ⟨σ,τ,d,e,⟨a,p⟩,r⟩;exact ⟨a,σ,τ,d,e,p,r⟩
 ·rintro ⟨a,σ,τ,d,e,p,r⟩;exact ⟨σ,τ,d,e,⟨a,p⟩,r⟩
theorem S17 (p:Prop) (P R:Hp):pr p P*R=pr p (P*R):=by
 funext ρ
 refine propext ⟨?_,?_⟩
 ·rintro ⟨σ,τ,d,e,⟨a,p⟩,r⟩;exact ⟨a,σ,τ,d,e,p,r⟩
 ·rintro ⟨a,σ,τ,d,e,p,r⟩;exact ⟨σ,τ,d,e,⟨a,p⟩,r⟩
theorem A9.ex {h:A2} {α:Type} {P:α->Hp} {R:Hp}:A9 h (Proofs.YtahpbclnkofhfaaGreat.ex P*R)↔∃a,A9 h (P a*R):=by
 rw [S16]
 exact ⟨λ⟨σ,s,a,p⟩=>⟨a,σ,s,p⟩,λ⟨a,σ,s,p⟩=>⟨σ,s,a,p⟩⟩
theorem A9.pr {h:A2} {p:Prop} {P R:Hp}:A9 h (Proofs.YtahpbclnkofhfaaGreat.pr p P*R)↔p/\A9 h (P*R):=by
 rw [S17]
 exact ⟨λ⟨σ,s,a,p⟩=>⟨a,σ,s,p⟩,λ⟨a,σ,s,p⟩=>⟨σ,s,a,p⟩⟩
theorem Jw.left {σ τ:GT} {h:A2} (s:Jw (uni σ τ) h):Jw σ h:=λb o e=>s b o (by unfold uni;rw [e];rfl)
theorem Jw.right {σ τ:GT} {h:A2} (d:dis σ τ) (s:Jw (uni σ τ) h):Jw τ h:=λb o e=>s b o (by
 unfold uni
 rcases d b with x | x
 ·rw [x];simpa using e
 ·rw [x] at e;cases e)
theorem Jw.uni {σ τ:GT} {h:A2} (s:Jw σ h) (t:Jw τ h):Jw (Proofs.YtahpbclnkofhfaaGreat.uni σ τ) h:=λb o e=>by
 unfold Proofs.YtahpbclnkofhfaaGreat.uni at e
 cases e2:σ b with
 | none=>rw [e2] at e;exact t b o (by simpa using e)
 | some o2=>rw [e2] at e;exact s b o (by rw [e2];simpa using e)
theorem Jw.lt {σ:GT} {h:A2} (s:Jw σ h) {b:Nat} (e:σ b≠none):b < h.size:=by
 cases e2:σ b with
 | none=>exact absurd e2 e
 | some o=>exact (Jx.1 (s.at b o e2)).1
theorem A9.drop {h:A2} {P R:Hp} (H:A9 h (P*R)):A9 h R:=by
 obtain ⟨_,s,σ,τ,d,rfl,p,r⟩:=H
 exact ⟨τ,s.right d,r⟩
theorem A9.mono {h:A2} {P Q R:Hp} (H:A9 h (P*R)) (f:∀σ,P σ->Q σ):A9 h (Q*R):=by
 obtain ⟨_,s,σ,τ,d,rfl,p,r⟩:=H
 exact ⟨_,s,σ,τ,d,rfl,f σ p,r⟩
theorem A9.mono2 {h:A2} {P Q R:Hp} (H:A9 h (P*R)) (f:∀σ,R σ->Q σ):A9 h (P*Q):=by
 obtain ⟨_,s,σ,τ,d,rfl,p,r⟩:=H
 exact ⟨_,s,σ,τ,d,rfl,p,f τ r⟩
theorem A9.drop2 {h:A2} {P Q R:Hp} (H:A9 h (P*(Q*R))):A9 h (P*R):=by
 rw [D8] at H;exact H.drop
theorem A9.lt {h:A2} {b:Nat} {o:Obj} {R:Hp} (H:A9 h (pt b o*R)):b < h.size:=by
 obtain ⟨_,s,σ,τ,d,rfl,p,r⟩:=H
 exact s.left.lt (by rw [p b];simp)
theorem A9.at {h:A2} {b:Nat} {o:Obj} {R:Hp} (H:A9 h (pt b o*R)):h[b]? = some o:=by
 obtain ⟨_,s,σ,τ,d,rfl,p,r⟩:=H
 exact s.left.at b o (by rw [p b];simp)
theorem A9.at2 {h:A2} {b:Nat} {o:Obj} {P R:Hp} (H:A9 h (P*(pt b o*R))):h[b]? = some o:=A9.at H.drop
theorem A9.at3 {h:A2} {b:Nat} {o:Obj} {P Q R:Hp} (H:A9 h (P*(Q*(pt b o*R)))):h[b]? = some o:=A9.at H.drop.drop
theorem A9.ld {h:A2} {b i:Nat} {row:List vQ} {t:TypeId} {R:Hp} {v:vQ} {K:vQ->Prop} (H:A9 h (pt b (oQ row.toArray t)*R)) (e:row[i]? = some v) (k:K v):D2 h ⟨b,i,none⟩ K:=C4 H.at e k
theorem A9.old {h h':A2} {P:Hp} (H:A9 h P) (o:G9 h.size h h'):A9 h' P:=by
 obtain ⟨σ,s,p⟩:=H
 exact ⟨σ,Jw.mk (λb x e=>(o.2 b (s.lt (by rw [e];simp))).trans (s.at b x e)) s.nd,p⟩
theorem A9.push {h:A2} {R:Hp} (H:A9 h R) (o:Obj) (ho:Nd o:=by intro x e;cases e):A9 (h.push o) (pt h.size o*R):=by
 obtain ⟨τ,s,r⟩:=H
 refine ⟨uni (λc=>if c=h.size then some o else none) τ,?_,_,τ,λb=>?_,rfl,λc=>rfl,r⟩
 ·refine Jw.uni (λb x e=>?_) (Jw.mk (λb x e=>(W5 _ _ _ (s.lt (by rw [e];simp))).trans (s.at b x e)) s.nd)
  split at e
  ·rename_i hb;subst hb;cases e;exact ⟨Ap _ _,ho⟩
  ·cases e
 ·by_cases hb:b=h.size
  ·subst hb
   right
   apply SD6
   intro hn
   exact absurd (s.lt hn) (Nat.lt_irrefl _)
  ·left;rw [A7 hb]
theorem A9.wr {h h':A2} {b:Nat} {o o':Obj} {R:Hp} (H:A9 h (pt b o*R)) (new:h'[b]? = some o') (old:∀c,c≠b->h'[c]? = h[c]?) (ho:Nd o':=by intro x e;cases e):A9 h' (pt b o' * R):=by
 obtain ⟨_,s,σ,τ,d,rfl,p,r⟩:=H
 refine ⟨uni (λc=>if c=b then some o' else none) τ,?_,_,τ,λc=>?_,rfl,λc=>rfl,r⟩
 ·refine Jw.uni (λc x e=>?_) (Jw.mk (λc x e=>(old c λhc=>?_).trans ((s.right d).at c x e)) (s.right d).nd)
  ·split at e
   ·rename_i hb;subst hb;cases e;exact ⟨new,ho⟩
   ·cases e
  ·subst hc
   rcases d c with h1 | h1
   ·rw [p c] at h1;simp at h1
   ·rw [h1] at e;cases e
 ·by_cases hc:c=b
  ·subst hc
   rcases d c with h1 | h1
   ·rw [p c] at h1;simp at h1
   ·exact .inr h1
  ·left;rw [A7 hc]
theorem A9.st {h:A2} {b i:Nat} {row:List vQ} {t:TypeId} {R:Hp} {v:vQ} {K:A2->Prop} (H:A9 h (pt b (oQ row.toArray t)*R)) (hi:Nat.ble (i+1) row.length=true) (ho:J0 v True)
  (k:∀h',A9 h' (pt b (oQ (row.set i v).toArray t)*R)->K h'):C7 h ⟨b,i,none⟩ v K:=
 stR H.at hi ho λh' w=>k h' (H.wr w.new w.old)
theorem A9.opn {h:A2} {D:Nat->Prop} {F:A2->Prop} {R:Hp} (H:A9 h (lift D F*R)):F h/\(∀b,D b->b < h.size) /\
  ∀(h':A2) (D':Nat->Prop) (F':A2->Prop),Fr D h h'->(∀b,D' b->(D b\/h.size<=b)/\b < h'.size)->(∀b o,D' b->h'[b]? = some o->Nd o)->(∀h'',(∀b,D' b->h''[b]? = h'[b]?)->F' h'')->A9 h' (lift D' F' * R):=by
 obtain ⟨_,s,σ,τ,d,rfl,⟨p1,p2⟩,r⟩:=H
 refine ⟨p2 h s.left,λb hb=>s.left.lt ((p1 b).1 hb),λh' D' F' hf hD hN hF=>?_⟩
 classical
 have hsub:Jw (λb=>if D' b then h'[b]? else none) h':=λb o e=>by
  have e:(if D' b then h'[b]? else none)=some o:=e
  split at e
  ·rename_i hb;exact ⟨e,hN b o hb e⟩
  ·cases e
 refine ⟨uni (λb=>if D' b then h'[b]? else none) τ,Jw.uni hsub (Jw.mk (λb o e=>?_) (s.right d).nd),_,τ,λb=>?_,rfl,⟨λb=>?_,λh'' s''=>hF h'' λb hb=>?_⟩,r⟩
 ·have hs:=(s.right d).at b o e
  refine (hf.2 b (s.right d |>.lt (by rw [e];simp)) λhb=>?_).trans hs
  rcases d b with h1 | h1
  ·exact (p1 b).1 hb h1
  ·rw [h1] at e;cases e
 ·by_cases hb:D' b
  ·right
   rcases (hD b hb).1 with h1 | h1
   ·exact (d b).resolve_left ((p1 b).1 h1)
   ·apply SD6
    intro hn
    have:=(s.right d).lt hn
    omega
  ·left;rw [A7 hb]
 ·constructor
  ·intro hb
   show (if D' b then h'[b]? else none)≠none
   rw [A8 hb]
   have:=(hD b hb).2
   simp [this]
  ·intro hn
   by_cases hb:D' b
   ·exact hb
   ·have hn:(if D' b then h'[b]? else none)≠none:=hn
    rw [A7 hb] at hn;exact absurd rfl hn
 ·have hlt:=(hD b hb).2
  have e:h'[b]? = some h'[b]:=by simp [hlt]
  rw [e]
  exact s''.at b _ (by show (if D' b then h'[b]? else none)=_;rw [A8 hb,e])
theorem A9.see {h:A2} {D:Nat->Prop} {F:A2->Prop} {R:Hp} (H:A9 h (lift D F*R)):F h:=H.opn.1
theorem So4 {D:Nat->Prop} {F G:A2->Prop} (f:∀h,F h->G h):∀σ,lift D F σ->lift D G σ:=λσ ⟨a,b⟩=>⟨a,λh s=>f h (b h s)⟩
theorem A9.mk_new {h h':A2} {D:Nat->Prop} {F:A2->Prop} {R:Hp} (H:A9 h R) (o:G9 h.size h h') (hD:∀b,D b->h.size<=b/\b < h'.size) (hN:∀b o,D b->h'[b]? = some o->Nd o) (hF:∀h'',(∀b,D b->h''[b]? = h'[b]?)->F h''):A9 h' (lift D F*R):=by
 have H0:A9 h (lift (λ_=>False) (λ_=>True)*R):=by
  rw [<- T8 R] at H
  exact H.mono λσ e=>⟨λb=>⟨False.elim,λhn=>hn (by rw [e])⟩,λ_ _=>trivial⟩
 exact H0.opn.2.2 h' D F (o.fr _) (λb hb=>⟨.inr (hD b hb).1,(hD b hb).2⟩) hN hF
def E8 (elem:TypeId) (sz:Nat) (a:rQ) (l c:Nat) (xs:List vQ):Hp:=lift (GU a) λh=>CS h elem sz a l c xs
theorem CS.congr {h h':A2} {elem:TypeId} {sz:Nat} {a:rQ} {l c:Nat} {xs:List vQ} (H:CS h elem sz a l c xs) (e:∀b,GU a b->h'[b]? = h[b]?):CS h' elem sz a l c xs:=H.keep λad ea=>e _ ⟨ad,ea,rfl⟩
theorem CS.nd {h:A2} {elem:TypeId} {sz:Nat} {a:rQ} {l c:Nat} {xs:List vQ} (H:CS h elem sz a l c xs):∀b o,GU a b->h[b]? = some o->Nd o:=by
 rintro b o ⟨ad,e,rfl⟩ hb x hx
 rcases H.2.2 with ⟨e2,_⟩ | ⟨b',row,e2,hb',_⟩
 ·rw [e] at e2;cases e2
 ·rw [e] at e2;cases e2
  rw [hb'] at hb
  cases hb
  cases hx
theorem A9.own {h:A2} {elem:TypeId} {sz:Nat} {a:rQ} {l c:Nat} {xs:List vQ} {R:Hp} (H:A9 h (E8 elem sz a l c xs*R)):CS h elem sz a l c xs:=H.see
theorem A9.own_new {h:A2} {R:Hp} (H:A9 h R) (elem:TypeId) (sz:Nat):A9 h (E8 elem sz none 0 0 []*R):=
 H.mk_new (G9.refl _ _) (λb hb=>by obtain ⟨_,e,_⟩:=hb;cases e) (λb o hb=>by obtain ⟨_,e,_⟩:=hb;cases e) λh'' _=>CS.nil _ _ _
theorem A9.app {P:Program} {t elem:TypeId} {z:vQ} {h:A2} {a a2:rQ} {l c n n2:Nat} {xs ys:List vQ} {K:kQ} {R:Hp}
  (hu:Be P t=.slice elem) (hth:L0 P elem=true) (hz:GZ P elem=some z) (hzs:z.cells.size=M2 P elem)
  (H:A9 h (E8 elem (M2 P elem) a l c xs*R)) (hs:N5 h a2 ys) (hn:ys.length=n*M2 P elem) (hone:∀y ∈ ys,J0 y True) (hb0:0 < EL P elem) (hb:(2*(l+n)+512)*EL P elem<=2 ^ 48)
  (k:∀a' c' h',A9 h' (E8 elem (M2 P elem) a' (l+n) c' (xs ++ ys)*R)->K (lQ a' (l+n) c') h') :
  U4 P #[t,t] t #[lQ a l c,lQ a2 n n2] h K:=by
 obtain ⟨ho,hlt,re⟩:=H.opn
 refine Uf hu hth hz hzs ho hs hn hone hb0 hb λa' c' h' o' hsz old ha=>?_
 refine k a' c' h' (re h' (GU a') _ ⟨hsz,λb hb hn=>old b hb λad ea e=>hn ⟨ad,ea,e⟩⟩ (λb hb=>?_) o'.nd λh'' e=>o'.congr e)
 refine ⟨?_,o'.lt2 hb⟩
 rcases ha with ha | ha
 ·rw [ha] at hb;exact .inl hb
 ·obtain ⟨ad,e,eb⟩:=hb
  rw [ha] at e;cases e
  exact .inr (by rw [<- eb];exact G0 _)
theorem A9.app2 {P:Program} {t elem:TypeId} {z:vQ} {h:A2} {a a2:rQ} {l c n n2:Nat} {xs ys:List vQ} {K:kQ} {R:Hp}
  (hu:Be P t=.slice elem) (hth:L0 P elem=true) (hz:GZ P elem=some z) (hzs:z.cells.size=M2 P elem)
  (H:A9 h (E8 elem (M2 P elem) a l c xs*R)) (hs:N5 h a2 ys) (hn:ys.length=n*M2 P elem) (hone:∀y ∈ ys,J0 y True) (hb0:0 < EL P elem) (hb:(2*(l+n)+512)*EL P elem<=2 ^ 48)
  (k1:∀c' h',A9 h' (E8 elem (M2 P elem) a (l+n) c' (xs ++ ys)*R)->K (lQ a (l+n) c') h')
  (k2:∀b c' h',¬ GU a b->A9 h' (E8 elem (M2 P elem) (some (aQ b)) (l+n) c' (xs ++ ys)*(E8 elem (M2 P elem) a l c xs*R))->K (lQ (some (aQ b)) (l+n) c') h') :
  U4 P #[t,t] t #[lQ a l c,lQ a2 n n2] h K:=by
 obtain ⟨ho,hlt,re⟩:=H.opn
 refine FL hu hth hz hzs ho hs hn hone hb0 hb λa' c' h' o' hsz old ha=>?_
 rcases ha with ha | ⟨ha,hold⟩
 ·subst ha
  exact k1 c' h' (re h' (GU a') _ ⟨hsz,λb hb hn=>old b hb λad ea e=>hn ⟨ad,ea,e⟩⟩ (λb hb=>⟨.inl hb,o'.lt2 hb⟩) o'.nd λh'' e=>o'.congr e)
 ·subst ha
  refine k2 h.size c' h' (λhb=>absurd (hlt _ hb) (Nat.lt_irrefl _)) (H.mk_new hold (λb hb=>?_) o'.nd λh'' e=>o'.congr e)
  refine ⟨?_,o'.lt2 hb⟩
  obtain ⟨ad,e,eb⟩:=hb
  cases e
  rw [<- eb];exact G0 _
theorem A9.collect {h h':A2} {N:Nat} {o o':Obj} {R:Hp} {elem:TypeId} {sz:Nat} {a:rQ} {l c:Nat} {xs:List vQ} (H:A9 h (pt N o*R)) (hs:h.size<=h'.size) (old:∀b,b < h.size->b≠N->h'[b]? = h[b]?) (new:h'[N]? = some o') (ow:CS h' elem sz a l c xs) (hb:∀b,GU a b->h.size<=b)
  (ho:Nd o':=by intro x e;cases e):A9 h' (E8 elem sz a l c xs*(pt N o' * R)):=by
 have hlt:=H.lt
 have H1:A9 (h.setIfInBounds N o') (pt N o' * R):=H.wr (U2 hlt) (λc hc=>V4 hc) ho
 have o1:G9 (h.setIfInBounds N o').size (h.setIfInBounds N o') h':=⟨by simpa using hs,λb hb=>by
  by_cases e:b=N
  ·subst e;rw [new,U2 hlt]
  ·rw [V4 e];exact old b (by simpa using hb) e⟩
 exact H1.mk_new o1 (λb hb'=>⟨by simpa using hb b hb',ow.lt2 hb'⟩) ow.nd λh'' e=>ow.congr e
theorem SK3 {P:Program} {t elem:TypeId} {z:vQ} {h:A2} {a a2:rQ} {l c n n2:Nat} {xs ys:List vQ} {K:kQ}
  (hu:Be P t=.slice elem) (hth:L0 P elem=true) (hz:GZ P elem=some z) (hzs:z.cells.size=M2 P elem)
  (ho:N5 h a xs) (hl:xs.length=l*M2 P elem) (hlc:l<=c) (hs:N5 h a2 ys) (hn:ys.length=n*M2 P elem) (hone:∀y ∈ ys,J0 y True) (hb0:0 < EL P elem) (hb:(2*(l+n)+512)*EL P elem<=2 ^ 48)
  (k1:l+n<=c->∀ad,a=some ad->OH h (ad.add (l*M2 P elem)) 0 ys λh'=>K (lQ a (l+n) c) h')
  (k0:l+n<=c->a=none->K (lQ none (l+n) c) h)
  (k2:∀c' h',CS h' elem (M2 P elem) (some (aQ h.size)) (l+n) c' (xs ++ ys)->G9 h.size h h'->K (lQ (some (aQ h.size)) (l+n) c') h') :
  U4 P #[t,t] t #[lQ a l c,lQ a2 n n2] h K:=by
 have hu':=E4 hu (by simp)
 obtain ⟨info,hinfo⟩:=CO hth
 have hbyt:info.bytes=EL P elem:=by unfold EL;rw [hinfo]
 have first:∀(F:Array vQ->A2->Prop),F ys.toArray h->hp P (Builtin.firstCells (M2 P elem) n (lQ a2 n n2)) F h:=by
  intro F k
  cases a2 with
  | none=>
   have:ys = []:=by
    cases ys with
    | nil=>rfl
    | cons y ys=>obtain ⟨ad,e,_⟩:=hs 0 y rfl;cases e
   subst this;exact k
  | some ad=>
   show hp P (loadCells ad (n*M2 P elem)) F h
   refine M8 ad _ 0 [] F ?_
   rw [<- hn]
   refine Em ys 0 [] _ (λj v hj=>?_) (by simpa using k)
   obtain ⟨ad',e,hc⟩:=hs j v hj
   cases e;rwa [J6]
 unfold U4 Builtin.append_
 simp only [EC,Mh,QX,B6,E0,C8 hu',J7 hth,Cd,if_false]
 show hp P (Builtin.lenOf _) _ h
 simp only [Builtin.lenOf,E0]
 rw [Ft]
 split
 ·rename_i hcap
  simp only [B6]
  show hp P (if (!false)=true then _ else _) _ h
  refine first _ ?_
  cases a with
  | none=>
   have key:=k0 hcap rfl
   try simp only [B6,E0]
   exact key
  | some ad=>
   simp only [B6]
   refine Y9 _ _ h 0 _ ?_
   try simp only [E0]
   exact k1 hcap ad rfl
 ·rename_i hcap
  simp only [B6,E0]
  have hbound:¬ Builtin.nextslicecap (l+n) c*info.bytes > 2 ^ 48:=by
   rw [hbyt]
   have:=R4 (EJ (EL P elem) (Gi (l+n) c (by omega))) hb
   omega
  simp only [B6,E0,T7 hinfo,Ft]
  rw [A7 (by rw [hbyt];intro x;rcases x.2 with y | y <;> first | exact y | omega),A7 hbound]
  show ∀tp,_
  intro tp
  rw [A7 (by simp [Question.forced])]
  obtain ⟨cap,hcp⟩ : ∃cap,cap=(Question.appendCap (l+n) c elem).cut tp:=⟨_,rfl⟩
  have hcap2:l+n<=cap:=by rw [hcp];simp [Question.cut]
  rw [<- hcp]
  rw [show (Sem.pure cap:Sem Nat)=pure cap from rfl]
  simp only [B6,E0,T7 hinfo,Ej]
  have old:∀(F:Array vQ->A2->Prop),F xs.toArray h->hp P (Builtin.firstCells (M2 P elem) l (lQ a l c)) F h:=by
   intro F k
   cases a with
   | none=>
    have:xs = []:=by
     cases xs with
     | nil=>rfl
     | cons y ys=>obtain ⟨ad,e,_⟩:=ho 0 y rfl;cases e
    subst this;exact k
   | some ad=>
    show hp P (loadCells ad (l*M2 P elem)) F h
    refine M8 ad _ 0 [] F ?_
    rw [<- hl]
    refine Em xs 0 [] _ (λj v hj=>?_) (by simpa using k)
    obtain ⟨ad',e,hc⟩:=ho j v hj
    cases e;rwa [J6]
  refine old _ ?_
  rw [B6,A8 (show (!false)=true from rfl)]
  refine first _ ?_
  simp only [B6]
  simp only [R5 hz]
  show K (lQ (some (aQ h.size)) (l+n) cap) (h.push _)
  have hzc:(Builtin.zeroCells z.cells (cap - (l+n))).size=(cap - (l+n))*M2 P elem:=by rw [AT,hzs]
  refine k2 cap _ ⟨by simp [hl,hn,BA],hcap2,.inr ⟨h.size,_,rfl,Ap _ _,?_,?_⟩⟩ ⟨by simp,λb hb'=>W5 _ _ _ hb'⟩
  ·simp only [Array.size_append,hzc,PC,hl,hn,<- BA]
   congr 1;omega
  ·simp only [SD3,Se0]
   rw [List.take_left' (by simp [hl,hn,BA])]
def EG (h:A2) (a:rQ) (l c:Nat) (xs:List Int):Prop:=
 xs.length=l/\l<=c/\((a=none/\c=0)\/∃b o row,a=some ⟨b,o,none⟩/\h[b]? = some (oQ row 3)/\o+c<=row.size/\(row.toList.drop o).take l=xs.map iv)
theorem EG.of {h:A2} {a:rQ} {l c:Nat} {xs:List Int} (H:ID h a l c xs):EG h a l c xs:=by
 obtain ⟨h1,h2,h3⟩:=H
 refine ⟨by simpa using h1,h2,h3.imp id ?_⟩
 rintro ⟨b,row,e,hb,hs,ht⟩
 exact ⟨b,0,row,e,hb,by omega,by simpa using ht⟩
theorem EG.congr {h h':A2} {a:rQ} {l c:Nat} {xs:List Int} (H:EG h a l c xs) (e:∀b,GU a b->h'[b]? = h[b]?):EG h' a l c xs:=by
 obtain ⟨h1,h2,h3⟩:=H
 refine ⟨h1,h2,h3.imp id ?_⟩
 rintro ⟨b,o,row,ea,hb,r⟩
 exact ⟨b,o,row,ea,(e b ⟨_,ea,rfl⟩).trans hb,r⟩
theorem EG.lt2 {h:A2} {a:rQ} {l c:Nat} {xs:List Int} (H:EG h a l c xs) {b:Nat} (hb:GU a b):b < h.size:=by
 obtain ⟨ad,e,rfl⟩:=hb
 rcases H.2.2 with ⟨e2,_⟩ | ⟨b',o,row,e2,hb',_⟩
 ·rw [e] at e2;cases e2
 ·rw [e] at e2;cases e2;exact (Jx.1 hb').1
theorem EG.nd {h:A2} {a:rQ} {l c:Nat} {xs:List Int} (H:EG h a l c xs):∀b o,GU a b->h[b]? = some o->Nd o:=by
 rintro b o ⟨ad,e,rfl⟩ hb x hx
 rcases H.2.2 with ⟨e2,_⟩ | ⟨b',o',row,e2,hb',_⟩
 ·rw [e] at e2;cases e2
 ·rw [e] at e2;cases e2
  rw [hb'] at hb
  cases hb
  cases hx
theorem EG.ri {h:A2} {a:rQ} {l c:Nat} {xs:List Int} (H:EG h a l c xs):RI h a l c xs:=by
 obtain ⟨h1,h2,h3⟩:=H
 refine ⟨λi v hi=>?_,h1,h2⟩
 have hlt:i < xs.length:=by have:=(IW.1 hi).1;simpa using this
 rcases h3 with ⟨_,hc⟩ | ⟨b,o,row,e,hb,hs,ht⟩
 ·omega
 ·refine ⟨_,e,?_⟩
  rw [E2,E5 hb,<- GQ]
  rw [<- ht,GV] at hi
  split at hi
  ·rw [Tf] at hi;exact hi
  ·cases hi
theorem EG.tail {h:A2} {a:rQ} {l c:Nat} {x:Int} {xs:List Int} (H:EG h a l c (x :: xs)):EG h (Ha a 1 c 1) (l - 1) (c - 1) xs/\∀b,GU (Ha a 1 c 1) b->GU a b:=by
 obtain ⟨h1,h2,h3⟩:=H
 simp only [Jy] at h1
 rcases h3 with ⟨_,hc⟩ | ⟨b,o,row,e,hb,hs,ht⟩
 ·omega
 ·subst e
  unfold Ha
  split
  ·rename_i hc
   have e0:l - 1=0:=by have:=h2;omega
   have ex:xs = []:=Xx.1 (by omega)
   refine ⟨⟨by omega,by omega,.inr ⟨b,o,row,rfl,hb,by omega,?_⟩⟩,λb hb=>hb⟩
   rw [e0,ex];rfl
  ·refine ⟨⟨by omega,by omega,.inr ⟨b,o+1,row,by rw [JA,E2],hb,by omega,?_⟩⟩,?_⟩
   ·have:l=(l - 1)+1:=by omega
    rw [this] at ht
    have e2:(row.toList.drop o).drop 1=row.toList.drop (o+1):=by rw [List.drop_drop]
    have e3:=GG (List.drop 1) ht
    rw [List.drop_take,e2] at e3
    simpa using e3
   ·rintro b' ⟨ad,e,rfl⟩
    rw [JA,E2] at e
    cases e
    exact ⟨_,rfl,rfl⟩
def DP (a:rQ) (l c:Nat) (xs:List Int):Hp:=lift (GU a) λh=>EG h a l c xs
theorem A9.ownf {h:A2} {a:rQ} {l c:Nat} {xs:List Int} {R:Hp} (H:A9 h (DP a l c xs*R)):EG h a l c xs:=H.see
theorem A9.toF {h:A2} {a:rQ} {l c:Nat} {xs:List Int} {R:Hp} (H:A9 h (E8 3 1 a l c (xs.map iv)*R)):A9 h (DP a l c xs*R):=H.mono (So4 λ_ h=>EG.of h)
def NdC (o:Obj):Prop:=∀x,o≠.deferred x
theorem NdC.cells {row:Array vQ} {t:TypeId}:NdC (oQ row t):=λx e=>by cases e
def IN (P:Hp):Prop:=∀σ h,Jw σ h->P σ->∀b o,σ b=some o->NdC o
theorem IN.star {P Q:Hp} (hP:IN P) (hQ:IN Q):IN (P*Q):=by
 rintro σ h s ⟨σ1,σ2,d,rfl,p,q⟩ b o e
 have e':(σ1 b).or (σ2 b)=some o:=e
 cases h1:σ1 b with
 | some x=>rw [h1] at e';cases e';exact hP _ _ s.left p b _ h1
 | none=>rw [h1] at e';exact hQ _ _ (s.right d) q b _ e'
theorem IN.ex {α:Type} {P:α->Hp} (h:∀a,IN (P a)):IN (ex P):=by
 rintro σ hh s ⟨a,p⟩
 exact h a σ hh s p
theorem IN.pr {p:Prop} {P:Hp} (h:IN P):IN (pr p P):=λσ hh s q=>h σ hh s q.2
theorem IN.pt {b:Nat} {row:Array vQ} {t:TypeId}:IN (pt b (oQ row t)):=by
 intro σ h s p c o e
 have p:=p c
 rw [e] at p
 split at p
 ·cases p;exact NdC.cells
 ·cases p
theorem IN.lift {D:Nat->Prop} {F:A2->Prop} (hF:∀h,F h->∀b o,D b->h[b]? = some o->NdC o):IN (lift D F):=by
 rintro σ h s ⟨p,q⟩ b o e
 exact hF h (q h s) b o ((p b).2 (by rw [e];simp)) (s.at b o e)
theorem IN.own {elem:TypeId} {sz:Nat} {a:rQ} {l c:Nat} {xs:List vQ}:IN (E8 elem sz a l c xs):=by
 refine IN.lift ?_
 rintro h H b o ⟨ad,e,rfl⟩ hb
 rcases H.2.2 with ⟨e2,_⟩ | ⟨b',row,e2,hb',_⟩
 ·rw [e] at e2;cases e2
 ·rw [e] at e2;cases e2
  rw [hb'] at hb
  cases hb
  exact NdC.cells
theorem IN.ownf {a:rQ} {l c:Nat} {xs:List Int}:IN (DP a l c xs):=by
 refine IN.lift ?_
 rintro h H b o ⟨ad,e,rfl⟩ hb
 rcases H.2.2 with ⟨e2,_⟩ | ⟨b',o',row,e2,hb',_⟩
 ·rw [e] at e2;cases e2
 ·rw [e] at e2;cases e2
  rw [hb'] at hb
  cases hb
  exact NdC.cells
def Bnd (N:Nat) (P:Hp):Prop:=∀σ,P σ->∀b,σ b≠none->b < N
theorem A9.freeze {h:A2} {P R:Hp} (H:A9 h (P*R)):∃R':Hp,(∀σ,R' σ->R σ)/\Bnd h.size R'/\A9 h (P*R'):=by
 obtain ⟨_,s,σ,τ,d,rfl,p,q⟩:=H
 refine ⟨λρ=>ρ=τ,λρ e=>by rw [e];exact q,λρ e b hb=>?_,⟨_,s,σ,τ,d,rfl,p,rfl⟩⟩
 rw [e] at hb
 exact (s.right d).lt hb
theorem A9.sameD {N:Nat} {h h':A2} {P R:Hp} (H:A9 h (P*R)) (hP:IN P) (hR:Bnd N R) (o:Ao N h h'):A9 h' (P*R):=by
 obtain ⟨_,s,σ,τ,d,rfl,p,q⟩:=H
 refine ⟨_,Jw.mk (λb x e=>(o.2 b ?_).trans (s.at b x e)) s.nd,σ,τ,d,rfl,p,q⟩
 cases h1:σ b with
 | some y=>
  refine .inr λz e2=>?_
  have h2:=s.left.at b y h1
  rw [e2] at h2
  cases h2
  exact hP _ _ s.left p b _ h1 z rfl
 | none=>
  refine .inl (hR _ q b λh2=>?_)
  have e':(σ b).or (τ b)=some x:=e
  rw [h1,h2] at e'
  cases e'
def Ur (h0:A2):Hp:=λσ=>∀b,σ b=h0[b]?
theorem A9.full (h:A2):A9 h (Ur h):=⟨λb=>h[b]?,λb o e=>⟨e,λ_=>False.elim⟩,λ_=>rfl⟩
theorem A9.fullOld {h h0:A2} {R:Hp} (H:A9 h (Ur h0*R)):G9 h0.size h0 h:=by
 obtain ⟨_,s,σ,τ,d,rfl,p,q⟩:=H
 have hb:∀b,b < h0.size->h[b]? = h0[b]?:=by
  intro b hlt
  have e:σ b=some h0[b]:=by rw [p b];exact yL4 hlt
  rw [s.left.at b _ e,yL4 hlt]
 refine ⟨?_,hb⟩
 cases hn:h0.size with
 | zero=>omega
 | succ n=>
  have h1:=hb n (by omega)
  rw [yL4 (by omega:n < h0.size)] at h1
  have:=(Jx.1 h1).1
  omega
end
section
set_option maxRecDepth 100000
variable {K:kQ} {h:A2}
def F102 (K:kQ) (h:A2) (xa:rQ) (xb xc:Nat):Prop:=
 (U4 prog #[26,26] 26 #[lQ (some (aQ h.size)) 0 0,lQ xa xb xc] (h.push (oQ #[] 5)) λa b=>D3 a λa c d=>K (pQ (some (aQ b.size))) (b.push (oQ #[lQ a c d,iQ 0] 236)))
theorem call102 {xa:rQ} {xb xc:Nat} (H:F102 K h xa xb xc):A4 prog 102 #[(lQ xa xb xc)] h K:=
 cQ Tryz.func102 H
def F146 (K:kQ) (h:A2) (xa:Int):Prop:=
 (((0:Int)<=1)/\(((65536:Int)≠0)/\(K (iQ (wrap .i64 (Int.tmod (Int.fdiv xa 2) 65536))) h)))
theorem call146 {xa:Int} (H:F146 K h xa):A4 prog 146 #[(uQ xa)] h K:=
 cQ Tryz.func146 H
def F206 (K:kQ) (h:A2) (xa:Int) (xb:Bool) (xc:Int):Prop:=
 (R3 λI0=>(D4 (decide (xa < 0)) (I0 [dQ true,dQ true] h) (cf 277 #[uQ 65536,lQ (some (aQ h.size)) 1 1] (h.push (oQ #[uQ (wrap .u64 xa)] 178)) λa b=>asBool a λa=>D4 (!a) (I0 [dQ (!a),dQ true] b) (cf 277 #[uQ 140737488355328,lQ (some (aQ b.size)) 1 1] (b.push (oQ #[uQ xc] 178)) λb c=>asBool b λb=>I0 [dQ (!a),dQ (!b)] c)))/\(∀(a b:vQ) (c:G4) (c:A2),(I0 [a,b] c)->(asBool b λa=>D4 a (K (.tuple #[uQ 0,iQ 2]) c) (cf 278 #[uQ (wrap .u64 xa),dQ xb,uQ xc] c λa b=>asInt .u64 a λa=>K (.tuple #[uQ a,iQ 0]) b))))
theorem call206 {xa:Int} {xb:Bool} {xc:Int} (H:F206 K h xa xb xc):A4 prog 206 #[(iQ xa),(dQ xb),(uQ xc)] h K:=
 cQ Tryz.func206 H
def F211 (K:kQ) (h:A2) (xa:rQ):Prop:=
 (D4 (Option.isNone xa) (K (iQ 0) h) (nP xa λa=>lS h a λa a b=>K (iQ (a:Int)) h))
theorem call211 {xa:rQ} (H:F211 K h xa):A4 prog 211 #[(pQ xa)] h K:=
 cQ Tryz.func211 H
def F249 (K:kQ) (h:A2) (xa xb:Int):Prop:=
 (((0:Int)<=32)/\(K (uQ (wrap .u64 ((((BitVec.ofInt 64 (wrap .u64 ((wrap .u64 xa)*4294967296))) ||| (BitVec.ofInt 64 (wrap .u64 xb))).toNat:Nat):Int))) h))
theorem call249 {xa xb:Int} (H:F249 K h xa xb):A4 prog 249 #[(.int .u32 xa),(.int .u32 xb)] h K:=
 cQ Tryz.func249 H
def F250 (K:kQ) (h:A2) (xa:rQ) (xb:Int):Prop:=
 (D4 (decide (xb < 1)) (K (iQ 1) h) (cf 280 #[pQ xa] h λa b=>asInt .i64 a λa=>R3 λI3=>GI λm4=>(I3 [iQ 0,tQ,iQ 0] b)/\(∀(b c d:vQ) (e:G4) (e:A2),(I3 [b,c,d] e)->(asInt .i64 d λf=>D4 (decide (f < xb)) (asInt .i64 d λf=>((0:Int)<=f)/\(D4 ((wrap .i64 ((((BitVec.ofInt 64 (Int.fdiv a (2 ^ (min f.toNat 64)))) &&& (BitVec.ofInt 64 1)).toNat:Nat):Int)) == 0) (K (iQ (wrap .i64 (f+1))) e) (asInt .i64 d λa=>(I3 [b,iQ f,iQ (wrap .i64 (a+1))] e)/\((m4 [b,iQ f,iQ (wrap .i64 (a+1))] e) < (m4 [b,c,d] e))))) (K (iQ xb) e)))))
theorem call250 {xa:rQ} {xb:Int} (H:F250 K h xa xb):A4 prog 250 #[(pQ xa),(iQ xb)] h K:=
 cQ Tryz.func250 H
def F252 (K:kQ) (h:A2) (xa:Int) (xb:Bool):Prop:=
 (((0:Int)<=1)/\(D4 xb (K (uQ (wrap .u64 ((((BitVec.ofInt 64 (wrap .u64 ((wrap .u64 xa)*2))) ||| (BitVec.ofInt 64 1)).toNat:Nat):Int))) h) (K (uQ (wrap .u64 ((wrap .u64 xa)*2))) h)))
theorem call252 {xa:Int} {xb:Bool} (H:F252 K h xa xb):A4 prog 252 #[(.int .u32 xa),(dQ xb)] h K:=
 cQ Tryz.func252 H
def F228 (K:kQ) (h:A2) (xa xb:Int) (xc:Bool):Prop:=
 (((65536:Int)≠0)/\(cf 285 #[uQ xa] h λa b=>asInt .u64 a λa=>((140737488355328:Int)≠0)/\(cf 278 #[uQ (Int.tmod (wrap .u64 xb) 65536),dQ xc,uQ (Int.tmod (wrap .u64 (a+1)) 140737488355328)] b λa b=>asInt .u64 a λa=>K (uQ a) b)))
theorem call228 {xa xb:Int} {xc:Bool} (H:F228 K h xa xb xc):A4 prog 228 #[(uQ xa),(iQ xb),(dQ xc)] h K:=
 cQ Tryz.func228 H
def F258 (K:kQ) (h:A2) (xa:Int):Prop:=
 (K (dQ ((wrap .u64 ((((BitVec.ofInt 64 xa) &&& (BitVec.ofInt 64 1)).toNat:Nat):Int)) == 1)) h)
theorem call258 {xa:Int} (H:F258 K h xa):A4 prog 258 #[(uQ xa)] h K:=
 cQ Tryz.func258 H
def F260 (K:kQ) (h:A2) (xa:Int):Prop:=
 (K (uQ (wrap .u64 ((((BitVec.ofInt 64 xa) ||| (BitVec.ofInt 64 1)).toNat:Nat):Int))) h)
theorem call260 {xa:Int} (H:F260 K h xa):A4 prog 260 #[(uQ xa)] h K:=
 cQ Tryz.func260 H
def F261 (K:kQ) (h:A2) (xa:Int):Prop:=
 (cf 146 #[uQ xa] h λa b=>asInt .i64 a λa=>cf 228 #[uQ xa,iQ a,dQ true] b λa b=>asInt .u64 a λa=>K (uQ a) b)
theorem call261 {xa:Int} (H:F261 K h xa):A4 prog 261 #[(uQ xa)] h K:=
 cQ Tryz.func261 H
def F213 (K:kQ) (h:A2) (xa xb:Int):Prop:=
 (cf 216 #[iQ xa] h λa b=>asInt .i64 a λa=>D4 (a == 0) (K (iQ 0) b) (W3 (λc d=>Hc c d) prog 3 [iQ xb,iQ 0] λc=>((a:Int)≠0)/\(K (iQ (wrap .i64 (a+(Int.tmod c a)))) b)))
theorem call213 {xa xb:Int} (H:F213 K h xa xb):A4 prog 213 #[(iQ xa),(iQ xb)] h K:=
 cQ Tryz.func213 H
def F215 (K:kQ) (h:A2) (xa:rQ) (xb:Int):Prop:=
 (D4 (decide (xb < 1)) (K (iQ 0) h) (cf 280 #[pQ xa] h λa b=>asInt .i64 a λa=>((xb:Int)≠0)/\(K (iQ (Int.tmod a xb)) b)))
theorem call215 {xa:rQ} {xb:Int} (H:F215 K h xa xb):A4 prog 215 #[(pQ xa),(iQ xb)] h K:=
 cQ Tryz.func215 H
def F216 (K:kQ) (h:A2) (xa:Int):Prop:=
 (R3 λI0=>(D4 (decide (xa < 1)) (I0 [dQ true] h) (I0 [dQ (decide (xa > 20))] h))/\(∀(a:vQ) (b:G4) (b:A2),(I0 [a] b)->(asBool a λa=>D4 a (K (iQ 0) b) (((0:Int)<=(wrap .i64 (xa - 1)))/\(K (iQ (wrap .i64 (1*(2 ^ (min (wrap .i64 (xa - 1)).toNat 64))))) b)))))
theorem call216 {xa:Int} (H:F216 K h xa):A4 prog 216 #[(iQ xa)] h K:=
 cQ Tryz.func216 H
def F218 (K:kQ) (h:A2) (xa:Int):Prop:=
 (W3 (λa b=>Hc a b) prog 3 [iQ xa,iQ 1] λa=>C7 (h.push (oQ #[iQ 0,iQ 0] 282)) (aQ h.size) (iQ 0) λb=>C7 b ⟨h.size,1,none⟩ (iQ (wrap .i64 (a - 1))) λa=>Rt a h.size λb c=>K (.agg #[b,c]) a)
theorem call218 {xa:Int} (H:F218 K h xa):A4 prog 218 #[(iQ xa)] h K:=
 cQ Tryz.func218 H
abbrev g221 (K:kQ) (h H1:A2):Prop:=
 (lI .i64 H1 (aQ h.size) λa=>lI .i64 H1 ⟨h.size,1,none⟩ λb=>K (dQ (decide (a >= b))) H1)
def F221 (K:kQ) (h:A2) (xa xb:Int):Prop:=
 (g221 K h (h.push (oQ #[iQ xa,iQ xb] 282)))
theorem call221 {xa xb:Int} (H:F221 K h xa xb):A4 prog 221 #[(.agg #[(iQ xa),(iQ xb)])] h K:=
 cQ Tryz.func221 H
abbrev g223 (K:kQ) (h H1:A2):Prop:=
 (lI .i64 H1 (aQ h.size) λa=>D2 H1 ⟨h.size,1,none⟩ λb=>asInt .i64 b λc=>cf 283 #[iQ a] H1 λa d=>asInt .i64 a λa=>ce d h.size 1 b (cf 283 #[iQ c] d λb c=>asInt .i64 b λb=>((2:Int)≠0)/\(K (iQ (wrap .i64 (Int.tdiv (wrap .i64 (a+b)) 2))) c)))
def F223 (K:kQ) (h:A2) (xa xb:Int):Prop:=
 (g223 K h (h.push (oQ #[iQ xa,iQ xb] 282)))
theorem call223 {xa xb:Int} (H:F223 K h xa xb):A4 prog 223 #[(.agg #[(iQ xa),(iQ xb)])] h K:=
 cQ Tryz.func223 H
abbrev g224 (K:kQ) (h H1 H2:A2) (xa:Bool):Prop:=
 (Rt H2 h.size λa b=>cf 221 #[.agg #[a,b]] H2 λa b=>asBool a λa=>D4 a (Rt b h.size λa c=>dw2 b H1.size a c λa=>Rt a H1.size λc d=>K (.agg #[c,d]) a) (D4 xa (D2 b (aQ h.size) λa=>asInt .i64 a λc=>Rt b h.size λd e=>cf 223 #[.agg #[d,e]] b λd e=>asInt .i64 d λd=>ce e h.size 0 a (dw2 e H1.size (iQ c) (iQ d) λa=>Rt a H1.size λc d=>K (.agg #[c,d]) a)) (Rt b h.size λa c=>D2 b ⟨h.size,1,none⟩ λd=>asInt .i64 d λe=>cf 223 #[.agg #[a,c]] b λa b=>asInt .i64 a λa=>ce b h.size 1 d (C7 b (aQ H1.size) (iQ (wrap .i64 (a+1))) λa=>C7 a ⟨H1.size,1,none⟩ (iQ e) λa=>Rt a H1.size λb c=>K (.agg #[b,c]) a))))
def F224 (K:kQ) (h:A2) (xa xb:Int) (xc:Bool):Prop:=
 (g224 K h (h.push (oQ #[iQ xa,iQ xb] 282)) (Array.push (h.push (oQ #[iQ xa,iQ xb] 282)) (oQ #[iQ 0,iQ 0] 282)) xc)
theorem call224 {xa xb:Int} {xc:Bool} (H:F224 K h xa xb xc):A4 prog 224 #[(.agg #[(iQ xa),(iQ xb)]),(dQ xc)] h K:=
 cQ Tryz.func224 H
def F226 (K:kQ) (h:A2) (xa:Int):Prop:=
 (K (dQ ((wrap .u64 ((((BitVec.ofInt 64 xa) &&& (BitVec.ofInt 64 1)).toNat:Nat):Int)) == 1)) h)
theorem call226 {xa:Int} (H:F226 K h xa):A4 prog 226 #[(uQ xa)] h K:=
 cQ Tryz.func226 H
def F230 (K:kQ) (h:A2) (xa xb:Int):Prop:=
 (cf 287 #[iQ xa] h λa b=>asBool a λa=>D4 a (cf 216 #[iQ xb] b λa c=>asInt .i64 a λa=>K (dQ (decide (xa < a))) c) (K (dQ false) b))
theorem call230 {xa xb:Int} (H:F230 K h xa xb):A4 prog 230 #[(iQ xa),(iQ xb)] h K:=
 cQ Tryz.func230 H
def F235 (K:kQ) (h:A2) (xa:rQ) (xb:Int):Prop:=
 (D4 (!(Option.isNone xa)) (nP xa λa=>lS h a λa b c=>U4 prog #[25,25] 25 #[lQ a b c,lQ (some (aQ h.size)) 1 1] (h.push (oQ #[iQ xb] 3)) λa b=>D3 a λa c d=>nP xa λe=>C7 b e (lQ a c d) λa=>K tQ a) (K tQ h))
theorem call235 {xa:rQ} {xb:Int} (H:F235 K h xa xb):A4 prog 235 #[(pQ xa),(iQ xb)] h K:=
 cQ Tryz.func235 H
def F237 (K:kQ) (h:A2) (xa:rQ) (xb xc:Nat) (xd:Int):Prop:=
 (cf 289 #[lQ xa xb xc,iQ xd] h λa b=>asInt .i64 a λa=>K (dQ (decide (a >= 0))) b)
theorem call237 {xa:rQ} {xb xc:Nat} {xd:Int} (H:F237 K h xa xb xc xd):A4 prog 237 #[(lQ xa xb xc),(iQ xd)] h K:=
 cQ Tryz.func237 H
def F238 (K:kQ) (h:A2) (xa:rQ):Prop:=
 (D4 (Option.isNone xa) (K (lQ none 0 0) h) (nP xa λa=>lS h a λa b c=>cf 81 #[lQ a b c] h λa b=>D3 a λa c d=>K (lQ a c d) b))
theorem call238 {xa:rQ} (H:F238 K h xa):A4 prog 238 #[(pQ xa)] h K:=
 cQ Tryz.func238 H
def F239 (K:kQ) (h:A2) (xa:rQ) (xb:vQ):Prop:=
 (R3 λI0=>(D4 (Option.isNone xa) (I0 [dQ true] h) (X0 xb λa=>I0 [dQ a] h))/\(∀(a:vQ) (b:G4) (b:A2),(I0 [a] b)->(asBool a λa=>D4 a (∀a:A2,(Ao h.size b a)->(K (iQ 0) a)) (nP xa λa=>lS (b.push (oQ #[lQ none 0 0] 25)) a λa c d=>cf 291 #[lQ a c d] (b.push (oQ #[lQ none 0 0] 25)) λa c=>cf 290 #[a,xb] c λa c=>Jb prog a 1 c (λI16 a c=>asInt .i64 (a.getD 0 tQ) λa=>lS c (aQ b.size) λd e f=>U4 prog #[25,25] 25 #[lQ d e f,lQ (some (aQ c.size)) 1 1] (c.push (oQ #[iQ a] 3)) λa c=>D3 a λa d e=>C7 c (aQ b.size) (lQ a d e) λa=>I16 .normal a) (λa=>nP xa λc=>lS a c λc c d=>lS a (aQ b.size) λd d e=>lS a (aQ b.size) λb e f=>nP xa λg=>C7 a g (lQ b e f) λa=>(∀b:A2,(Ao h.size a b)->(K (iQ (wrap .i64 ((c:Int) - (d:Int)))) b))) []))))
theorem call239 {xa:rQ} {xb:vQ} (H:F239 K h xa xb):A4 prog 239 #[(pQ xa),xb] h K:=
 cQ Tryz.func239 H
def F274 (K:kQ) (h:A2) (xa:Int):Prop:=
 (((0:Int)<=32)/\(K (.int .u32 (wrap .u32 (Int.fdiv xa 4294967296))) h))
theorem call274 {xa:Int} (H:F274 K h xa):A4 prog 274 #[(uQ xa)] h K:=
 cQ Tryz.func274 H
def F277 (K:kQ) (h:A2) (xa:Int) (xb:rQ) (xc xd:Nat):Prop:=
 (R3 λI0=>GI λm1=>(I0 [dQ false,tQ,iQ 0] h)/\(∀(a b c:vQ) (d:G4) (d:A2),(I0 [a,b,c] d)->(asInt .i64 c λe=>D4 (decide (e < ((xc:Nat):Int))) (Il c λe=>bd e ((xc:Nat):Int) (F3 (pQ xb) λf=>lI .u64 d (f.add (e.toNat*1)) λe=>D4 (decide (e >= xa)) (K (dQ false) d) (asInt .i64 c λf=>(I0 [a,uQ e,iQ (wrap .i64 (f+1))] d)/\((m1 [a,uQ e,iQ (wrap .i64 (f+1))] d) < (m1 [a,b,c] d))))) (K (dQ true) d))))
theorem call277 {xa:Int} {xb:rQ} {xc xd:Nat} (H:F277 K h xa xb xc xd):A4 prog 277 #[(uQ xa),(lQ xb xc xd)] h K:=
 cQ Tryz.func277 H
def F278 (K:kQ) (h:A2) (xa:Int) (xb:Bool) (xc:Int):Prop:=
 (((0:Int)<=17)/\(((0:Int)<=1)/\(D4 xb (K (uQ (wrap .u64 ((((BitVec.ofInt 64 (wrap .u64 ((((BitVec.ofInt 64 (wrap .u64 (xc*131072))) ||| (BitVec.ofInt 64 (wrap .u64 (xa*2)))).toNat:Nat):Int))) ||| (BitVec.ofInt 64 1)).toNat:Nat):Int))) h) (K (uQ (wrap .u64 ((((BitVec.ofInt 64 (wrap .u64 (xc*131072))) ||| (BitVec.ofInt 64 (wrap .u64 (xa*2)))).toNat:Nat):Int))) h))))
theorem call278 {xa:Int} {xb:Bool} {xc:Int} (H:F278 K h xa xb xc):A4 prog 278 #[(uQ xa),(dQ xb),(uQ xc)] h K:=
 cQ Tryz.func278 H
def F280 (K:kQ) (h:A2) (xa:rQ):Prop:=
 (D4 (Option.isNone xa) (K (iQ 0) h) (nP xa λa=>lI .i64 h (a.add 1) λa=>nP xa λb=>C7 h (b.add 1) (iQ (wrap .i64 (a+1))) λa=>nP xa λb=>lI .i64 a (b.add 1) λb=>nP xa λc=>lS a c λc c d=>D4 (decide (b > (c:Int))) (K (iQ 0) a) (nP xa λb=>lS a b λb c d=>nP xa λd=>lI .i64 a (d.add 1) λd=>((0:Int)<=(wrap .i64 (d - 1)))/\((((wrap .i64 (d - 1)):Int) < (c:Int))/\(F3 (pQ b) λb=>D2 a (b.add ((wrap .i64 (d - 1)).toNat*1)) λb=>asInt .u8 b λb=>K (iQ (wrap .i64 b)) a)))))
theorem call280 {xa:rQ} (H:F280 K h xa):A4 prog 280 #[(pQ xa)] h K:=
 cQ Tryz.func280 H
def F285 (K:kQ) (h:A2) (xa:Int):Prop:=
 (((0:Int)<=17)/\(K (uQ (Int.fdiv xa 131072)) h))
theorem call285 {xa:Int} (H:F285 K h xa):A4 prog 285 #[(uQ xa)] h K:=
 cQ Tryz.func285 H
def F298 (K:kQ) (h:A2) (xa:Int):Prop:=
 (((0:Int)<=1)/\(K (.int .u32 (wrap .u32 (Int.fdiv xa 2))) h))
theorem call298 {xa:Int} (H:F298 K h xa):A4 prog 298 #[(uQ xa)] h K:=
 cQ Tryz.func298 H
def F282 (K:kQ) (h:A2) (xa xb:Int):Prop:=
 (R3 λI0=>(cf 287 #[iQ xa] h λa b=>asBool a λa=>D4 (!a) (I0 [dQ true,dQ true] b) (D4 (decide (xb < 0)) (I0 [dQ (decide (xb < 0)),dQ true] b) (cf 301 #[iQ xa] b λa b=>asInt .i64 a λa=>I0 [dQ (decide (xb < 0)),dQ (decide (a < xb))] b)))/\(∀(a b:vQ) (c:G4) (c:A2),(I0 [a,b] c)->(asBool b λa=>D4 a (K (iQ 0) c) (cf 301 #[iQ xa] c λa b=>asInt .i64 a λa=>((0:Int)<=(wrap .i64 (a - xb)))/\(K (iQ (Int.fdiv xa (2 ^ (min (wrap .i64 (a - xb)).toNat 64)))) b)))))
theorem call282 {xa xb:Int} (H:F282 K h xa xb):A4 prog 282 #[(iQ xa),(iQ xb)] h K:=
 cQ Tryz.func282 H
def F283 (K:kQ) (h:A2) (xa:Int):Prop:=
 (W3 (λa b=>JB a b) prog 3 [iQ xa,iQ 1073741824] λa=>W3 (λb c=>Hc b c) prog 3 [iQ 0,iQ a] λa=>K (iQ a) h)
theorem call283 {xa:Int} (H:F283 K h xa):A4 prog 283 #[(iQ xa)] h K:=
 cQ Tryz.func283 H
def F287 (K:kQ) (h:A2) (xa:Int):Prop:=
 (D4 (decide (xa >= 1)) (K (dQ (decide (xa<=1048576))) h) (K (dQ false) h))
theorem call287 {xa:Int} (H:F287 K h xa):A4 prog 287 #[(iQ xa)] h K:=
 cQ Tryz.func287 H
def F289 (K:kQ) (h:A2) (xa:rQ) (xb xc:Nat) (xd:Int):Prop:=
 (R3 λI0=>GI λm1=>(I0 [iQ 0,tQ,iQ 0] h)/\(∀(a b c:vQ) (d:G4) (d:A2),(I0 [a,b,c] d)->(asInt .i64 c λe=>D4 (decide (e < ((xb:Nat):Int))) (asInt .i64 c λe=>bd e ((xb:Nat):Int) (F3 (pQ xa) λf=>lI .i64 d (f.add (e.toNat*1)) λf=>D4 (xd == f) (K (iQ e) d) (asInt .i64 c λf=>(I0 [a,iQ e,iQ (wrap .i64 (f+1))] d)/\((m1 [a,iQ e,iQ (wrap .i64 (f+1))] d) < (m1 [a,b,c] d))))) (K (iQ (-1)) d))))
theorem call289 {xa:rQ} {xb xc:Nat} {xd:Int} (H:F289 K h xa xb xc xd):A4 prog 289 #[(lQ xa xb xc),(iQ xd)] h K:=
 cQ Tryz.func289 H
def F301 (K:kQ) (h:A2) (xa:Int):Prop:=
 (cf 287 #[iQ xa] h λa b=>asBool a λa=>D4 (!a) (K (iQ 0) b) (cf 308 #[uQ (wrap .u64 xa)] b λa b=>asInt .i64 a λa=>K (iQ (wrap .i64 (a - 1))) b))
theorem call301 {xa:Int} (H:F301 K h xa):A4 prog 301 #[(iQ xa)] h K:=
 cQ Tryz.func301 H
def F308 (K:kQ) (h:A2) (xa:Int):Prop:=
 (cf 310 #[uQ xa] h λa b=>asInt .i64 a λa=>K (iQ a) b)
theorem call308 {xa:Int} (H:F308 K h xa):A4 prog 308 #[(uQ xa)] h K:=
 cQ Tryz.func308 H
def F310 (K:kQ) (h:A2) (xa:Int):Prop:=
 (R3 λI0=>(D4 (decide (xa >= 4294967296)) (((0:Int)<=32)/\(I0 [uQ (Int.fdiv xa 4294967296),iQ 32] h)) (I0 [uQ xa,iQ 0] h))/\(∀(a b:vQ) (c:G4) (c:A2),(I0 [a,b] c)->(R3 λI5=>(asInt .u64 a λd=>D4 (decide (d >= 65536)) (asInt .u64 a λd=>((0:Int)<=16)/\(asInt .i64 b λe=>I5 [uQ (Int.fdiv d 65536),iQ (wrap .i64 (e+16))] c)) (I5 [a,b] c))/\(∀(a b:vQ) (c:G4) (c:A2),(I5 [a,b] c)->(R3 λI13=>(asInt .u64 a λd=>D4 (decide (d >= 256)) (asInt .u64 a λd=>((0:Int)<=8)/\(asInt .i64 b λe=>I13 [uQ (Int.fdiv d 256),iQ (wrap .i64 (e+8))] c)) (I13 [a,b] c))/\(∀(a b:vQ) (c:G4) (c:A2),(I13 [a,b] c)->(asInt .i64 b λb=>asInt .u64 a λa=>((0:Int)<=(wrap .u8 a))/\((((wrap .u8 a):Int) < 256)/\(K (iQ (wrap .i64 (b+(wrap .i64 (Kx (⟨#[0,1,2,2,3,3,3,3,4,4,4,4,4,4,4,4,5,5,5,5,5,5,5,5,5,5,5,5,5,5,5,5,6,6,6,6,6,6,6,6,6,6,6,6,6,6,6,6,6,6,6,6,6,6,6,6,6,6,6,6,6,6,6,6,7,7,7,7,7,7,7,7,7,7,7,7,7,7,7,7,7,7,7,7,7,7,7,7,7,7,7,7,7,7,7,7,7,7,7,7,7,7,7,7,7,7,7,7,7,7,7,7,7,7,7,7,7,7,7,7,7,7,7,7,7,7,7,7,8,8,8,8,8,8,8,8,8,8,8,8,8,8,8,8,8,8,8,8,8,8,8,8,8,8,8,8,8,8,8,8,8,8,8,8,8,8,8,8,8,8,8,8,8,8,8,8,8,8,8,8,8,8,8,8,8,8,8,8,8,8,8,8,8,8,8,8,8,8,8,8,8,8,8,8,8,8,8,8,8,8,8,8,8,8,8,8,8,8,8,8,8,8,8,8,8,8,8,8,8,8,8,8,8,8,8,8,8,8,8,8,8,8,8,8,8,8,8,8,8,8,8,8,8,8,8,8]⟩ : ByteArray) (wrap .u8 a).toNat))))) c)))))))))
theorem call310 {xa:Int} (H:F310 K h xa):A4 prog 310 #[(uQ xa)] h K:=
 cQ Tryz.func310 H
end
end Go.Proofs.YtahpbclnkofhfaaGreat
