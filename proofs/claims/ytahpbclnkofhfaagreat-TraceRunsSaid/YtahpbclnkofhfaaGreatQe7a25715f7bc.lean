/- Part 3 of what the proofs of this seat rest on: see the last text of the claim. -/
import Derived.Test.YtahpbclnkofhfaaGreatQ7710c4124f51
import Derived.RangeFuncLeaves
set_option linter.unusedSimpArgs false
set_option linter.unusedVariables false
set_option linter.ambiguousOpen false
set_option maxRecDepth 20000
namespace Go.Proofs.YtahpbclnkofhfaaGreat
section
def Kh (P:Program):List ResultVar->F8->A2->List Value->(List Value->Prop)->Prop
 | [],_,_,acc,F=>F acc.reverse
 | .tmp t :: rs,ρ,h,acc,F=>Kh P rs ρ h (ρ t :: acc) F
 | .cell a t :: rs,ρ,h,acc,F=>E5 (ρ a) λad=>if J7 P t then
  (if NY P t then XA h ad 0 (L7 P t) [] (λcs=>Kh P rs ρ h (.agg cs.toArray :: acc) F) else D1 h ad λv=>Kh P rs ρ h (v :: acc) F) else False
def Ki:List Value->Value
 | [v]=>v
 | vs=>.tuple vs.toArray
def SU9 (P:Program) (rs:List ResultVar) (rng:Bool) (N:Nat) (K:kQ):Exit->F8->A2->Prop
 | .normal,ρ,h | .ret,ρ,h=>Kh P rs ρ h [] λvs=>match rng with | true=>∀h',Z5 N h h'->K (Ki vs) h' | false=>K (Ki vs) h
 | _,_,_=>False
def Bb:Code->Bool
 | .seq a b | .cond _ a b=>Bb a || Bb b
 | .block _ b | .loop b | .scope b=>Bb b
 | .rangeFunc ..=>true
 | _=>false
def Sn0:List Value->Nat->Value
 | [],_=>AR
 | v :: _,0=>v
 | _ :: vs,n+1=>Sn0 vs n
def SE9 (args:List Value):F8:=λj=>Sn0 args j
def Hq (fn:Func):Code:=fn.body.getD .skip
def SP7 (P:Program) (fn:Func) (k:Nat):Bool:=
 fn.body.isSome && !(fn.name == "runtime.NumGoroutine") && Cn fn.ntmps true (Hq fn) && Nat.ble k fn.ntmps && P.follows .mixedOrders
section
variable {P:Program} {n:Nat}
theorem Z5.refl (N:Nat) (h:A2):Z5 N h h:=⟨rfl,λ_ _=>rfl⟩
theorem QJ {N:Nat} {h h':A2} (hs:Z5 N h h') {a:Addr} {v:Value} (hc:A3 h a=some v):A3 h' a=some v:=by
 unfold A3 at *
 cases hb:h[a.block]? with
 | none=>rw [hb] at hc;cases hc
 | some o=>
  have:h'[a.block]? = h[a.block]?:=hs.2 a.block (.inr λx e=>by rw [hb] at e;cases e;rw [hb] at hc;cases hc)
  rw [this];exact hc
theorem QK {N:Nat} {h h':A2} (hs:Z5 N h h') {a:Addr} {F:Value->Prop} (H:D1 h a F):D1 h' a F:=by
 obtain ⟨v,hv,H⟩:=HS H
 unfold D1;rw [QJ hs hv];exact H
theorem Sn1 {N:Nat} {h h':A2} (hs:Z5 N h h') {a:Addr} (k:Nat):∀ {i:Nat} {acc:List Value} {F:List Value->Prop},XA h a i k acc F->XA h' a i k acc F:=by
 induction k with
 | zero=>intro i acc F H;exact H
 | succ k ih=>intro i acc F H;exact QK hs (FK (λv=>ih) H)
theorem YW {N:Nat} {h h':A2} (hs:Z5 N h h') {ρ:F8} (rs:List ResultVar):∀ {acc:List Value} {F F':List Value->Prop},(∀vs,F vs->F' vs)->Kh P rs ρ h acc F->Kh P rs ρ h' acc F':=by
 induction rs with
 | nil=>intro acc F F' f H;exact f _ H
 | cons x rs ih=>
  intro acc F F' f H
  cases x with
  | tmp t=>exact ih f H
  | cell a t=>
   refine Cm (λad=>Au λht x=>?_) H
   split at x <;> rename_i hg
   ·rw [if_pos hg];exact Sn1 hs _ (KH _ (λcs=>ih f) x)
   ·rw [if_neg hg];exact QK hs (FK (λv=>ih f) x)
theorem UV {fn:Func} {t:Array Value} {ρ:F8} {h:A2} {K:kQ} (hR:Rl n t ρ) (H:Kh P fn.results.toList ρ h [] λvs=>K (Ki vs) h):hp P (results fn t) K h:=by
 unfold results
 rw [Array.mapM_eq_mapM_toList]
 simp only [map_eq_pure_bind,A8,D6]
 have key:∀(rs:List ResultVar) (acc:List Value),Kh P rs ρ h acc (λvs=>K (Ki vs) h) ->
   hp P (rs.mapM fun | .tmp x=>pure (t.getD x undef) | .cell a ty=>do loadVar ty (<- asAddr (t.getD a undef))) (λvs h'=>h' = h/\K (Ki (acc.reverse ++ vs)) h) h:=by
  intro rs
  induction rs with
  | nil=>
   intro acc H
   have H2:K (Ki acc.reverse) h:=H
   exact ⟨rfl,by simpa using H2⟩
  | cons x rs ih=>
   intro acc H
   rw [List.mapM_cons]
   cases x with
   | tmp x=>
    simp only [A8,D6]
    have:=ih (ρ x :: acc) H
    rw [hR.get x]
    refine V8 ?_ this
    rintro vs h' ⟨rfl,hk⟩
    exact ⟨rfl,by simpa using hk⟩
   | cell a ty=>
    obtain ⟨ad,ha,H⟩:=V1 H
    split at H
    ·rename_i hth
     simp only [A8]
     rw [hR.get a,ha]
     rw [show asAddr (.pointer (some ad))=pure ad from rfl,D6]
     refine KA hth ?_
     split at H <;> rename_i hg
     ·rw [if_pos hg]
      refine KH _ (λcs x=>?_) H
      rw [A8]
      refine V8 ?_ (ih _ x)
      rintro vs h' ⟨rfl,hk⟩
      exact ⟨rfl,by simpa using hk⟩
     ·rw [if_neg hg]
      refine FK (λv x=>?_) H
      rw [A8]
      refine V8 ?_ (ih _ x)
      rintro vs h' ⟨rfl,hk⟩
      exact ⟨rfl,by simpa using hk⟩
    ·exact H.elim
 refine V8 ?_ (key _ [] H)
 rintro vs h' ⟨rfl,hk⟩
 simp only [List.reverse_nil,List.nil_append] at hk
 have e:(if hh:vs.toArray.size=1 then vs.toArray[0] else Value.tuple vs.toArray)=Ki vs:=by
  match vs with
  | []=>rfl
  | [v]=>rfl
  | _ :: _ :: _=>rfl
 show K (if hh:vs.toArray.size=1 then vs.toArray[0] else Value.tuple vs.toArray) _
 rw [e];exact hk
def RO {α:Type} (P:Program):Sem α->Prop
 | .pure _=>True
 | .load _ _ k=>∀v,RO P (k v)
 | .program k=>RO P (k P)
 | .mark _ k=>RO P k
 | .halt _=>True
 | _=>False
theorem AK {α β:Type} (s:Sem α) (f:α->Sem β) (hs:RO P s) (hf:∀a,RO P (f a)):RO P (s >>= f):=by
 show RO P (s.bind f)
 induction s with
 | pure a=>exact hf a
 | load m a k ih=>exact λv=>ih v (hs v)
 | program k ih=>exact ih P hs
 | mark m k ih=>exact ih hs
 | halt x=>trivial
 | _=>exact hs.elim
theorem SP8 {α:Type} (s:Sem α) (hs:RO P s):∀ {K:α->A2->Prop} (w:World),hp P s K w.heap->∃a,s.run P w=.ok a w/\K a w.heap:=by
 induction s with
 | pure a=>intro K w H;exact ⟨a,rfl,H⟩
 | load m a k ih=>
  intro K w H
  simp only [hp] at H
  split at H
  ·rename_i v hv
   obtain ⟨b,h1,h2⟩:=ih v (hs v) w H
   have hv':w.cell? a=some v:=hv
   exact ⟨b,by simp only [Sem.run,hv',h1],h2⟩
  ·exact H.elim
 | program k ih=>intro K w H;exact ih P hs w H
 | mark m k ih=>intro K w H;exact ih hs w H
 | halt x=>intro K w H;exact H.elim
 | _=>exact hs.elim
theorem QL (t:TypeId):RO P (typeInfo t):=by
 unfold typeInfo
 refine AK _ _ trivial λp=>?_
 split <;> trivial
theorem YX (t:TypeId):RO P (sizeOf t):=AK _ _ (QL t) λ_=>trivial
theorem Ml (t:TypeId):RO P (underlying t):=by
 unfold underlying
 refine AK _ _ trivial λp=>?_
 split <;> trivial
theorem Sn2 (t:TypeId):RO P (isAgg t):=by
 unfold isAgg
 refine AK _ _ (Ml t) λd=>?_
 split <;> trivial
theorem IP (a:Addr) (k:Nat):∀i acc,RO P (loadCellsFrom a i k acc):=by
 induction k with
 | zero=>intro i acc;trivial
 | succ k ih=>intro i acc;exact AK _ _ (λ_=>trivial) λv=>ih _ _
theorem UW (t:TypeId) (a:Addr):RO P (loadVar t a):=by
 unfold loadVar
 refine AK _ _ (Sn2 t) λb=>?_
 split
 ·exact AK _ _ (YX t) λk=>AK _ _ (IP a k 0 #[]) λ_=>trivial
 ·exact λ_=>trivial
theorem SF0 {α β:Type} (f:α->Sem β) (hf:∀a,RO P (f a)) (l:List α):RO P (l.mapM f):=by
 induction l with
 | nil=>trivial
 | cons x l ih=>rw [List.mapM_cons];exact AK _ _ (hf x) λ_=>AK _ _ ih λ_=>trivial
theorem UX (fn:Func) (t:Array Value):RO P (results fn t):=by
 unfold results
 rw [Array.mapM_eq_mapM_toList]
 simp only [map_eq_pure_bind]
 refine AK _ _ (AK _ _ (SF0 _ (λx=>?_) _) λ_=>trivial) λ_=>trivial
 cases x with
 | tmp x=>trivial
 | cell a ty=>
  refine AK _ _ ?_ λad=>UW ty ad
  generalize t.getD a undef=v
  cases v with
  | pointer p=>cases p <;> trivial
  | _=>trivial
theorem YY {f:FuncId} {fn:Func} {c:Code} (hf:P.funcs[f]? = some fn) (hname:(fn.name == "runtime.NumGoroutine")=false) (hb:fn.body=some c):Sk4 P f:=by
 intro args w
 simp only [callFunc,Sem.run_bind,program,Sem.run]
 simp [hf,hname,hb,Sem.run_pure,Result.andThen]
theorem XL {args:Array Value} {k:Nat} (hs:args.size<=k):Rl k (args ++ Array.replicate (k - args.size) undef) (SE9 args.toList):=by
 refine ⟨by simp;omega,λj=>?_⟩
 have key:∀(l:List Value) (j:Nat),Sn0 l j=l.getD j undef:=by
  intro l
  induction l with
  | nil=>intro j;simp [Sn0,undef,AR]
  | cons v vs ih=>intro j;cases j with
   | zero=>rfl
   | succ j=>simp [Sn0,ih]
 unfold SE9
 rw [key]
 by_cases h:j < args.size
 ·simp [Array.getD_eq_getD_getElem?,Array.getElem?_append_left h]
 ·have h':args.size<=j:=by omega
  simp [Array.getD_eq_getD_getElem?,Array.getElem?_append_right h',Array.getElem?_replicate,List.getD_eq_getElem?_getD,Array.getElem?_eq_none h']
  split <;> rfl
theorem Nb {fn:Func} {t:Array Value} {ρ:F8} {h0:World} {K:kQ} {rng:Bool} (hR:Rl n t ρ) (ms:List Nat):∀(w:World),ms.Nodup->(∀D ∈ ms,h0.heap.size<=D/\w.heap[D]? = some (.deferred (some [])))->Kw h0 w ->
  (rng=false->ms = [])->(∃h,Z5 h0.heap.size h w.heap/\(rng=false->h=w.heap)/\Kh P fn.results.toList ρ h [] λvs=>match rng with | true=>∀h',Z5 h0.heap.size h h'->K (Ki vs) h' | false=>K (Ki vs) h) ->
  LeavesInM (FW none) 0 P fn t (Xz h0 K) (ms.map mkD) .returning w:=by
 induction ms with
 | nil=>
  intro w _ _ hk _ ⟨h,hs,he,H⟩
  have H2:Kh P fn.results.toList ρ w.heap [] λvs=>K (Ki vs) w.heap:=by
   refine YW hs _ (λvs x=>?_) H
   cases rng with
   | true=>exact x _ hs
   | false=>have:=he rfl;subst this;exact x
  obtain ⟨v,h1,h2⟩:=SP8 _ (UX fn t) w (UV hR H2)
  exact ⟨v,h1,h2,hk⟩
 | cons D ms ih=>
  intro w hnd hms hk hrng ⟨h,hs,he,H⟩
  have hD:=hms D (by simp)
  refine ⟨by simp,.inl ⟨D,w.putObj D (.deferred none),rfl,run_takeDeferred hD.2,?_⟩⟩
  have hDlt:D < w.heap.size:=(Array.getElem?_eq_some_iff.1 hD.2).1
  refine ih _ (List.nodup_cons.1 hnd).2 ?_ ?_ ?_ ⟨h,?_,?_,H⟩
  ·intro D' hD'
   have:=hms D' (by simp [hD'])
   have hne:D'≠D:=λe=>by subst e;exact (List.nodup_cons.1 hnd).1 hD'
   exact ⟨this.1,(World.putObj_heap_other hne).trans this.2⟩
  ·refine ⟨⟨by rw [World.putObj_size];exact hk.1.1,λE hE=>?_⟩,hk.2⟩
   have hElt:E < h0.heap.size:=(Array.getElem?_eq_some_iff.1 hE).1
   have hne:E≠D:=by omega
   exact (World.putObj_heap_other hne).trans (hk.1.2 E hE)
  ·intro hr;have:=hrng hr;cases this
  ·refine ⟨by rw [World.putObj_size];exact hs.1,λb hb=>?_⟩
   by_cases hbD:b=D
   ·subst hbD
    exfalso
    have h1:=hs.2 b hb
    rw [hD.2] at h1
    rcases hb with hb | hb
    ·omega
    ·exact hb _ h1.symm
   ·exact (World.putObj_heap_other hbD).trans (hs.2 b hb)
  ·intro hr;have:=hrng hr;cases this
theorem KP {k:Nat} (c:Code):∀b,Bb c=false->Cn k b c=true->Cn k false c=true:=by
 induction c with
 | seq x y ihx ihy=>intro b hr ho;simp only [Bb,Bool.or_eq_false_iff] at hr;simp only [Cn,Bool.and_eq_true] at ho ⊢;exact ⟨ihx b hr.1 ho.1,ihy b hr.2 ho.2⟩
 | cond c x y ihx ihy=>intro b hr ho;simp only [Bb,Bool.or_eq_false_iff] at hr;simp only [Cn,Bool.and_eq_true] at ho ⊢;exact ⟨ihx b hr.1 ho.1,ihy b hr.2 ho.2⟩
 | block id x ih=>intro b hr ho;exact ih b hr ho
 | loop x ih=>intro b hr ho;exact ih b hr ho
 | scope x ih=>intro b hr ho;exact ih b hr ho
 | rangeFunc g ps as x=>intro b hr ho;simp [Bb] at hr
 | region id ops d=>intro b hr ho;exact ho
 | _=>intro b hr ho;rfl
theorem QM {f:FuncId} {fn:Func} {args:Array Value} {h:A2} {K:kQ} (hf:P.funcs[f]? = some fn) (hok0:SP7 P fn args.size=true)
  (H:vc P (Hq fn) (SU9 P fn.results.toList (Bb (Hq fn)) h.size K) (SE9 args.toList) h):A5 P f args h K:=by
 unfold SP7 at hok0
 simp only [Bool.and_eq_true,Bool.not_eq_true'] at hok0
 obtain ⟨⟨⟨⟨hbs,hname⟩,hok⟩,hs⟩,hm⟩:=hok0
 have hs:args.size<=fn.ntmps:=Nat.le_of_ble_eq_true hs
 obtain ⟨c,hb⟩:=Option.isSome_iff_exists.1 hbs
 have hc:Hq fn=c:=by unfold Hq;rw [hb];rfl
 rw [hc] at H hok
 refine ⟨YY hf hname hb,λw hw=>?_⟩
 subst hw
 show CallsIn (FW none) 0 P f args w (Xz w K)
 refine callsIn_of_wp_marks hf hb trivial ?_ rfl
 cases hr:Bb c with
 | true=>
  rw [hr] at H
  refine wpIn_mono (XK (B:=λD=>w.heap.size<=D) hm c none true (λ_=>rfl) hok _ _ w w.heap _ w H (XL hs) rfl (λ_ D hD=>hD) ⟨[],rfl,List.nodup_nil,λD hD=>by cases hD⟩ (Kw.refl _)) ?_
  rintro e a1 w1 ⟨_,h1⟩
  have fin:∀ρ1,Rl fn.ntmps a1.tmps ρ1->Kg (λD=>w.heap.size<=D) a1.defers w1.heap->Kw w w1->Kh P fn.results.toList ρ1 w1.heap [] (λvs=>∀h',Z5 w.heap.size w1.heap h'->K (Ki vs) h')->LeavesInM (FW none) 0 P fn a1.tmps (Xz w K) a1.defers .returning w1:=by
   intro ρ1 hR1 ⟨ms,hd1,hd2,hd3⟩ hk1 hq
   rw [hd1]
   exact Nb (rng:=true) hR1 ms w1 hd2 hd3 hk1 (λe=>by cases e) ⟨w1.heap,Z5.refl _ _,λ_=>rfl,hq⟩
  cases e with
  | normal=>obtain ⟨ρ1,hR1,hd1,hk1,hq⟩:=h1;exact fin ρ1 hR1 hd1 hk1 hq
  | ret=>obtain ⟨ρ1,hR1,hd1,hk1,hq⟩:=h1;exact fin ρ1 hR1 hd1 hk1 hq
  | exit id=>obtain ⟨ρ1,hR1,hd1,hk1,hq⟩:=h1;exact hq.elim
  | _=>exact h1.elim
 | false=>
  rw [hr] at H
  refine wpIn_mono (XK (B:=λ_=>False) hm c none false (λ_=>rfl) (KP c true hr hok) _ _ w w.heap _ w H (XL hs) rfl (λe=>by cases e) ⟨[],rfl,List.nodup_nil,λD hD=>by cases hD⟩ (Kw.refl _)) ?_
  rintro e a1 w1 ⟨_,h1⟩
  have fin:∀ρ1,Rl fn.ntmps a1.tmps ρ1->Kg (λ_=>False) a1.defers w1.heap->Kw w w1->Kh P fn.results.toList ρ1 w1.heap [] (λvs=>K (Ki vs) w1.heap)->LeavesInM (FW none) 0 P fn a1.tmps (Xz w K) a1.defers .returning w1:=by
   intro ρ1 hR1 ⟨ms,hd1,hd2,hd3⟩ hk1 hq
   have hms:ms = []:=by cases ms with | nil=>rfl | cons D ms=>exact (hd3 D (by simp)).1.elim
   subst hms
   rw [hd1]
   exact Nb (rng:=false) hR1 [] w1 hd2 (λD hD=>by cases hD) hk1 (λ_=>rfl) ⟨w1.heap,Z5.refl _ _,λ_=>rfl,hq⟩
  cases e with
  | normal=>obtain ⟨ρ1,hR1,hd1,hk1,hq⟩:=h1;exact fin ρ1 hR1 hd1 hk1 hq
  | ret=>obtain ⟨ρ1,hR1,hd1,hk1,hq⟩:=h1;exact fin ρ1 hR1 hd1 hk1 hq
  | exit id=>obtain ⟨ρ1,hR1,hd1,hk1,hq⟩:=h1;exact hq.elim
  | _=>exact h1.elim
theorem cQ {P:Program} {f:FuncId} {fn:Func} {args:Array Value} {h:A2} {K:kQ} {F:Prop} (hf:P.funcs[f]? = some fn) (H:F) (hok:SP7 P fn args.size=true:=by kernel_rfl) (e:vc P (Hq fn) (SU9 P fn.results.toList (Bb (Hq fn)) h.size K) (SE9 args.toList) h=F:=by kernel_rfl):A5 P f args h K:=QM hf hok (Eq.mpr e H)
end
#print axioms QM
end
section
theorem KQ {P:Program} {f:FuncId} {args:Array Value} {W:World} {K:kQ} (H:A5 P f args W.heap K) :
  Calls P f args W λe W'=>∃v,e=.returned v/\K v W'.heap/\W'.os=W.os/\W'.output=W.output:=by
 refine (callsIn_wide.1 (H.2 W rfl)).mono λe W' x=>?_
 cases e with
 | returned v=>exact ⟨v,rfl,x.1,x.2.2.1,x.2.2.2⟩
 | _=>exact x.elim
theorem A0 {P:Program} {f:FuncId} {args:Array Value} {h:A2} {K:kQ} (H:A5 P f args h K):AQ P (.func (.func f) #[] #[]) args h K:=by
 unfold AQ;simpa using H
theorem KR {P:Program} {f:FuncId} {args cap:Array Value} {h:A2} {K:kQ} (H:A5 P f (args ++ cap) h K):AQ P (.func (.func f) #[] cap) args h K:=by
 unfold AQ;simpa using H
theorem E1 (b o n:Nat):(⟨b,o,none⟩ : Addr).add n=⟨b,o+n,none⟩:=by unfold Addr.add;split <;> simp_all
theorem IQ (a:Addr) (n:Nat):(a.add n).block=a.block:=by unfold Addr.add;split <;> rfl
theorem BH (a:Addr) (m n:Nat):(a.add m).add n=a.add (m+n):=by
 unfold Addr.add
 by_cases h1:m=0
 ·subst h1;simp
 ·by_cases h2:n=0
  ·subst h2;simp [h1]
  ·have h3:m+n≠0:=by omega
   simp [h1,h2,h3,Nat.add_assoc]
theorem add_zero (a:Addr):a.add 0=a:=rfl
def G4 (N:Nat) (h h':A2):Prop:=h.size<=h'.size/\∀b,b < N->h'[b]? = h[b]?
theorem G4.refl (N:Nat) (h:A2):G4 N h h:=⟨Nat.le_refl _,λ_ _=>rfl⟩
theorem G4.trans {N:Nat} {a b c:A2} (x:G4 N a b) (y:G4 N b c):G4 N a c:=⟨Nat.le_trans x.1 y.1,λi hi=>(y.2 i hi).trans (x.2 i hi)⟩
theorem G4.mono {N M:Nat} {a b:A2} (x:G4 N a b) (h:M<=N):G4 M a b:=⟨x.1,λi hi=>x.2 i (Nat.lt_of_lt_of_le hi h)⟩
theorem S4 (h:A2) (o:Obj) (b:Nat) (hb:b < h.size):(h.push o)[b]? = h[b]?:=by rw [Array.getElem?_push,if_neg (by omega)]
theorem Z6 (h:A2) (o:Obj):(h.push o)[h.size]? = some o:=by simp
theorem G4.push {N:Nat} {h h':A2} (x:G4 N h h') (o:Obj) (hN:N<=h'.size):G4 N h (h'.push o):=⟨by have:=x.1;simp;omega,λb hb=>(S4 _ _ _ (by omega)).trans (x.2 b hb)⟩
theorem Z5.cells {N:Nat} {h h':A2} (y:Z5 N h h') {b:Nat} {row:Array Value} {t:TypeId} {f:Nat × Nat} (hb:h[b]? = some (.cells row t f)):h'[b]? = h[b]?:=y.2 b (.inr λu e=>by rw [hb] at e;cases e)
theorem S0 {h h':A2} {a:Addr} (e:h'[a.block]? = h[a.block]?):A3 h' a=A3 h a:=by unfold A3;rw [e]
theorem Bv {h:A2} {a:Addr} {v:Value} (e:A3 h a=some v):a.block < h.size:=by
 unfold A3 at e
 cases hb:h[a.block]? with
 | none=>rw [hb] at e;cases e
 | some o=>exact (Array.getElem?_eq_some_iff.1 hb).1
theorem E0 {h:A2} {b:Nat} {row:Array Value} {t:TypeId} {f:Nat × Nat} (hb:h[b]? = some (.cells row t f)) (i:Nat):A3 h ⟨b,i,none⟩=row[i]?:=by
 unfold A3;simp only [hb];rfl
theorem QN {h:A2} {b:Nat} {row:Array Value} {t:TypeId} (hb:h[b]? = some (.cells row t)) (i:Nat):Dl h ⟨b,i,none⟩=false:=by
 unfold Dl;simp only [hb];simp
theorem D3 {h:A2} {a:Addr} {v:Value} {K:Value->Prop} (e:A3 h a=some v) (k:K v):D1 h a K:=by unfold D1;rw [e];exact k
theorem KS {h:A2} {b i:Nat} {v:Value} {K:A2->Prop} {row:Array Value} {t:TypeId} (hb:h[b]? = some (.cells row t)) (hi:i < row.size) (ho:J3 v True)
  (k:∀h',h' = h.setIfInBounds b (.cells (row.setIfInBounds i v) t)->K h'):C4 h ⟨b,i,none⟩ v K:=by
 unfold C4
 refine Dg (λ_=>⟨⟨row[i],?_⟩,QN hb i,k _ ?_⟩) ho
 ·rw [E0 hb];simp [hi]
 ·unfold setC
  apply Array.ext_getElem?
  intro j
  rw [Array.getElem?_modify,Array.getElem?_setIfInBounds]
  by_cases e:b=j
  ·subst e
   have hlt:=(Array.getElem?_eq_some_iff.1 hb).1
   rw [hb];simp [hlt,Sk2]
  ·simp [e]
theorem T4 {h:A2} {b:Nat} {o:Obj} (hb:b < h.size):(h.setIfInBounds b o)[b]? = some o:=by simp [hb]
theorem U5 {h:A2} {b c:Nat} {o:Obj} (hc:c≠b):(h.setIfInBounds b o)[c]? = h[c]?:=Array.getElem?_setIfInBounds_ne (Ne.symm hc)
def N8 (h:A2) (a:Option Addr) (vs:List Value):Prop:=∀i v,vs[i]? = some v->∃ad,a=some ad/\A3 h (ad.add i)=some v
theorem N8.keep {h h':A2} {a:Option Addr} {vs:List Value} (H:N8 h a vs) (k:∀ad,a=some ad->h'[ad.block]? = h[ad.block]?):N8 h' a vs:=by
 intro i v hi
 obtain ⟨ad,e,hc⟩:=H i v hi
 exact ⟨ad,e,(S0 (by rw [IQ];exact k ad e)).trans hc⟩
theorem N8.nil (h:A2) (a:Option Addr):N8 h a []:=λi v hi=>by simp at hi
def CG (h:A2) (elem:TypeId) (sz:Nat) (a:Option Addr) (l c:Nat) (xs:List Value):Prop:=
 xs.length=l*sz/\l<=c/\((a=none/\c=0)\/∃b row,a=some (aQ b)/\h[b]? = some (.cells row elem)/\row.size=c*sz/\row.toList.take (l*sz)=xs)
theorem CG.nil (h:A2) (elem:TypeId) (sz:Nat):CG h elem sz none 0 0 []:=⟨by simp,Nat.le_refl _,.inl ⟨rfl,rfl⟩⟩
theorem CG.keep {h h':A2} {elem:TypeId} {sz:Nat} {a:Option Addr} {l c:Nat} {xs:List Value} (H:CG h elem sz a l c xs) (k:∀ad,a=some ad->h'[ad.block]? = h[ad.block]?):CG h' elem sz a l c xs:=by
 obtain ⟨h1,h2,h3⟩:=H
 refine ⟨h1,h2,h3.imp id ?_⟩
 rintro ⟨b,row,e,hb,r⟩
 exact ⟨b,row,e,(k _ e).trans hb,r⟩
theorem CG.lt {h:A2} {elem:TypeId} {sz:Nat} {a:Option Addr} {l c:Nat} {xs:List Value} (H:CG h elem sz a l c xs):∀ad,a=some ad->ad.block < h.size:=by
 rintro ad e
 rcases H.2.2 with ⟨e2,_⟩ | ⟨b,row,e2,hb,_⟩
 ·rw [e] at e2;cases e2
 ·rw [e] at e2;cases e2;exact (Array.getElem?_eq_some_iff.1 hb).1
theorem CG.sees {h:A2} {elem:TypeId} {sz:Nat} {a:Option Addr} {l c:Nat} {xs:List Value} (H:CG h elem sz a l c xs):N8 h a xs:=by
 intro i v hi
 obtain ⟨h1,h2,h3⟩:=H
 have hlt:i < xs.length:=(List.getElem?_eq_some_iff.1 hi).1
 rcases h3 with ⟨_,hc⟩ | ⟨b,row,e,hb,hs,ht⟩
 ·have:l=0:=by omega
  subst this;simp at h1;subst h1;simp at hlt
 ·refine ⟨_,e,?_⟩
  rw [E1,E0 hb,Nat.zero_add,<- Array.getElem?_toList]
  rw [<- ht,List.getElem?_take] at hi
  split at hi
  ·exact hi
  ·cases hi
theorem Dp {h:A2} {ad:Addr} (vs:List Value):∀(i:Nat) (acc:List Value) (K:List Value->Prop),(∀j v,vs[j]? = some v->A3 h (ad.add (i+j))=some v)->K (acc.reverse ++ vs)->XA h ad i vs.length acc K:=by
 induction vs with
 | nil=>intro i acc K _ k;show K acc.reverse;simpa using k
 | cons v vs ih=>
  intro i acc K hc k
  refine D3 (v:=v) (hc 0 v rfl) (ih (i+1) (v :: acc) K (λj u hj=>?_) (by simpa using k))
  rw [show i+1+j=i+(j+1) by omega];exact hc (j+1) u hj
theorem GB (ys:List Value):∀(h:A2) (b off i:Nat) (row:Array Value) (t:TypeId) (K:A2->Prop),h[b]? = some (.cells row t)->off+i+ys.length<=row.size->(∀y ∈ ys,J3 y True) ->
  (∀row',row'.size=row.size->(∀j,row'[j]? = if off+i<=j/\j < off+i+ys.length then ys[j - (off+i)]? else row[j]?)->K (h.setIfInBounds b (.cells row' t)))->NX h ⟨b,off,none⟩ i ys K:=by
 induction ys with
 | nil=>
  intro h b off i row t K hb hs ho k
  have:=k row rfl (λj=>by rw [if_neg (by simp)])
  have e:h.setIfInBounds b (.cells row t)=h:=by
   apply Array.ext_getElem?;intro j
   rw [Array.getElem?_setIfInBounds]
   have hlt:=(Array.getElem?_eq_some_iff.1 hb).1
   by_cases ej:b=j
   ·subst ej;rw [hb];simp [hlt]
   ·simp [ej]
  rw [e] at this;exact this
 | cons y ys ih=>
  intro h b off i row t K hb hs ho k
  simp only [List.length_cons] at hs
  have hlt:=(Array.getElem?_eq_some_iff.1 hb).1
  show C4 h ((⟨b,off,none⟩ : Addr).add i) y _
  rw [E1]
  refine KS (b:=b) (i:=off+i) hb (by omega) (ho y (by simp)) ?_
  rintro h' rfl
  refine ih _ b off (i+1) (row.setIfInBounds (off+i) y) t K (T4 hlt) (by simp;omega) (λz hz=>ho z (by simp [hz])) ?_
  intro row' h1 h2
  have:=k row' (by rw [h1];simp) (λj=>by
   rw [h2 j]
   simp only [List.length_cons]
   by_cases c1:off+(i+1)<=j/\j < off+(i+1)+ys.length
   ·rw [if_pos c1,if_pos (by omega)]
    rw [show j - (off+i)=(j - (off+(i+1)))+1 by omega];simp
   ·rw [if_neg c1]
    by_cases c2:j=off+i
    ·subst c2
     rw [if_pos (by omega)]
     simp only [Nat.sub_self]
     rw [Array.getElem?_setIfInBounds];simp;omega
    ·rw [if_neg (by omega),Array.getElem?_setIfInBounds_ne (by omega)])
  simpa using this
theorem EW (need cap:Nat) (hn:cap < need):Builtin.nextslicecap need cap<=2*need+512:=by
 unfold Builtin.nextslicecap
 split
 ·omega
 ·split
  ·omega
  ·have:∀(r c:Nat),c<=need->Builtin.growBy need r c<=2*need+512:=by
    intro r
    induction r with
    | zero=>intro c hc;unfold Builtin.growBy;omega
    | succ r ih=>
     intro c hc
     unfold Builtin.growBy
     split
     ·omega
     ·by_cases h2:c+(c+768) / 4<=need
      ·exact ih _ h2
      ·cases r with
       | zero=>unfold Builtin.growBy;omega
       | succ r=>unfold Builtin.growBy;rw [if_pos (by omega)];omega
   exact this 4 cap (by omega)
theorem BI (z:Array Value) (n:Nat):(Builtin.zeroCells z n).size=n*z.size:=by unfold Builtin.zeroCells;simp
theorem GC {P:Program} {t elem:TypeId} {z:Value} {h:A2} {a a2:Option Addr} {l c n n2:Nat} {xs ys:List Value} {K:kQ}
  (hu:AH P t=.slice elem) (hth:J7 P elem=true) (hz:Gw P elem=some z) (hzs:z.cells.size=L7 P elem)
  (ho:CG h elem (L7 P elem) a l c xs) (hs:N8 h a2 ys) (hn:ys.length=n*L7 P elem) (hone:∀y ∈ ys,J3 y True) (hb0:0 < Eo P elem) (hb:(2*(l+n)+512)*Eo P elem<=2 ^ 48)
  (H:∀a' c' h',CG h' elem (L7 P elem) a' (l+n) c' (xs ++ ys)->h.size<=h'.size->(∀b,b < h.size->(∀ad,a=some ad->ad.block≠b)->h'[b]? = h[b]?)->(a' = a\/a' = some (aQ h.size)/\G4 h.size h h')->K (.slice a' (l+n) c') h') :
  T2 P #[t,t] t #[.slice a l c,.slice a2 n n2] h K:=by
 have hu':=D9 hu (by simp)
 obtain ⟨info,hinfo⟩:=Cj hth
 have hbyt:info.bytes=Eo P elem:=by unfold Eo;rw [hinfo]
 have first:∀(F:Array Value->A2->Prop),F ys.toArray h->hp P (Builtin.firstCells (L7 P elem) n (.slice a2 n n2)) F h:=by
  intro F k
  cases a2 with
  | none=>
   have:ys = []:=by
    cases ys with
    | nil=>rfl
    | cons y ys=>obtain ⟨ad,e,_⟩:=hs 0 y rfl;cases e
   subst this;exact k
  | some ad=>
   show hp P (loadCells ad (n*L7 P elem)) F h
   refine M2 ad _ 0 [] F ?_
   rw [<- hn]
   refine Dp ys 0 [] _ (λj v hj=>?_) (by simpa using k)
   obtain ⟨ad',e,hc⟩:=hs j v hj
   cases e;rwa [Nat.zero_add]
 unfold T2 Builtin.append_
 simp only [List.getElem?_toArray,List.getElem?_cons_zero,List.getElem?_cons_succ,A8,D6,C0 hu',I8 hth,Bool.false_eq_true,if_false]
 show hp P (Builtin.lenOf _) _ h
 simp only [Builtin.lenOf,D6]
 rw [Er]
 obtain ⟨hl,hlc,hor⟩:=ho
 split
 ·rename_i hcap
  simp only [A8]
  show hp P (if (!false)=true then _ else _) _ h
  refine first _ ?_
  rcases hor with ⟨rfl,rfl⟩ | ⟨b,row,rfl,hb2,hrs,hrt⟩
  ·have e1:l+n=0:=by omega
   have e2:n=0:=by omega
   subst e2
   have:ys = []:=by simpa using hn
   subst this
   simp only [A8,D6]
   refine H none 0 h ⟨by simp [hl],by omega,.inl ⟨rfl,rfl⟩⟩ (Nat.le_refl _) (λ_ _ _=>rfl) (.inl rfl)
  ·simp only [A8]
   have hlt:=(Array.getElem?_eq_some_iff.1 hb2).1
   have hmul:(l+n)*L7 P elem<=c*L7 P elem:=Nat.mul_le_mul_right _ hcap
   rw [Nat.add_mul] at hmul
   refine X4 _ _ h 0 _ ?_
   rw [E1]
   refine GB ys h b _ 0 row elem _ hb2 (by omega) hone ?_
   intro row' h1 h2
   simp only [D6]
   refine H (some (aQ b)) c _ ⟨by simp [hl,hn,Nat.add_mul],hcap,.inr ⟨b,row',rfl,T4 hlt,by rw [h1,hrs],?_⟩⟩ (by simp) (λb' hb' hne=>U5 (Ne.symm (hne _ rfl))) (.inl rfl)
   apply List.ext_getElem?
   intro j
   rw [List.getElem?_take,Array.getElem?_toList,h2 j]
   rw [Nat.add_mul]
   by_cases c1:j < l*L7 P elem
   ·rw [if_pos (by omega),if_neg (by omega),List.getElem?_append_left (by omega),<- hrt,List.getElem?_take,if_pos c1,Array.getElem?_toList]
   ·rw [List.getElem?_append_right (by omega)]
    by_cases c2:j < l*L7 P elem+n*L7 P elem
    ·rw [if_pos c2,if_pos (by omega)]
     congr 1;omega
    ·rw [if_neg c2]
     symm;apply List.getElem?_eq_none;omega
 ·rename_i hcap
  simp only [A8,D6]
  have hbound:¬ Builtin.nextslicecap (l+n) c*info.bytes > 2 ^ 48:=by
   rw [hbyt]
   have:=Nat.le_trans (Nat.mul_le_mul_right (Eo P elem) (EW (l+n) c (by omega))) hb
   omega
  simp only [A8,D6,S3 hinfo,Er]
  rw [if_neg (by rw [hbyt];intro x;rcases x.2 with y | y <;> first | exact y | omega),if_neg hbound]
  show ∀tp,_
  intro tp
  rw [if_neg (by simp [Question.forced])]
  obtain ⟨cap,hcp⟩ : ∃cap,cap=(Question.appendCap (l+n) c elem).cut tp:=⟨_,rfl⟩
  have hcap2:l+n<=cap:=by rw [hcp];simp [Question.cut]
  rw [<- hcp]
  rw [show (Sem.pure cap:Sem Nat)=pure cap from rfl]
  simp only [A8,D6,S3 hinfo,Ck]
  have old:∀(F:Array Value->A2->Prop),F xs.toArray h->hp P (Builtin.firstCells (L7 P elem) l (.slice a l c)) F h:=by
   intro F k
   rcases hor with ⟨rfl,rfl⟩ | ⟨b,row,rfl,hb2,hrs,hrt⟩
   ·have:l=0:=by omega
    subst this
    have:xs = []:=by simpa using hl
    subst this;exact k
   ·show hp P (loadCells (aQ b) (l*L7 P elem)) F h
    refine M2 _ _ 0 [] F ?_
    rw [<- hl]
    refine Dp xs 0 [] _ (λj v hj=>?_) (by simpa using k)
    rw [E1,E0 hb2,Nat.zero_add,Nat.zero_add,<- Array.getElem?_toList]
    rw [<- hrt,List.getElem?_take] at hj
    split at hj
    ·exact hj
    ·cases hj
  refine old _ ?_
  rw [A8,if_pos (show (!false)=true from rfl)]
  refine first _ ?_
  simp only [A8]
  simp only [R9 hz]
  show K (.slice (some (aQ h.size)) (l+n) cap) (h.push _)
  have hzc:(Builtin.zeroCells z.cells (cap - (l+n))).size=(cap - (l+n))*L7 P elem:=by rw [BI,hzs]
  refine H _ cap _ ⟨by simp [hl,hn,Nat.add_mul],hcap2,.inr ⟨h.size,_,rfl,Z6 _ _,?_,?_⟩⟩ (by simp) (λb hb' _=>S4 _ _ _ hb') (.inr ⟨rfl,by simp,λb hb'=>S4 _ _ _ hb'⟩)
  ·simp only [Array.size_append,hzc,List.size_toArray,hl,hn,<- Nat.add_mul]
   congr 1;omega
  ·simp only [Array.toList_append,List.toList_toArray]
   rw [List.take_left' (by simp [hl,hn,Nat.add_mul])]
theorem QO {P:Program} {t elem:TypeId} {z:Value} {h:A2} {a a2:Option Addr} {l c n n2:Nat} {xs ys:List Value} {K:kQ}
  (hu:AH P t=.slice elem) (hth:J7 P elem=true) (hz:Gw P elem=some z) (hzs:z.cells.size=L7 P elem)
  (ho:CG h elem (L7 P elem) a l c xs) (hs:N8 h a2 ys) (hn:ys.length=n*L7 P elem) (hone:∀y ∈ ys,J3 y True) (hb0:0 < Eo P elem) (hb:(2*(l+n)+512)*Eo P elem<=2 ^ 48)
  (H:∀a' c' h',CG h' elem (L7 P elem) a' (l+n) c' (xs ++ ys)->h.size<=h'.size->(∀b,b < h.size->(∀ad,a=some ad->ad.block≠b)->h'[b]? = h[b]?)->(a' = a\/a' = some (aQ h.size))->K (.slice a' (l+n) c') h') :
  T2 P #[t,t] t #[.slice a l c,.slice a2 n n2] h K:=
 GC hu hth hz hzs ho hs hn hone hb0 hb λa' c' h' x1 x2 x3 x4=>H a' c' h' x1 x2 x3 (x4.imp id λx=>x.1)
end
end Go.Proofs.YtahpbclnkofhfaaGreat
