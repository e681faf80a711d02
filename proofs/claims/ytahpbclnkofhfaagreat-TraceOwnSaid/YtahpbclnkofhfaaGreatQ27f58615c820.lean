/- Part 3 of what the proofs of this seat rest on: see the last text of the claim. -/
import Derived.Test.YtahpbclnkofhfaaGreatQ8e9e9ccbc083
import Derived.RangeFuncLeaves
set_option linter.unusedSimpArgs false
set_option linter.unusedVariables false
set_option linter.ambiguousOpen false
set_option maxRecDepth 20000
namespace Go.Proofs.YtahpbclnkofhfaaGreat
section
def YS0 (P:Program):List ResultVar->Env->Wa2->List Value->(List Value->Prop)->Prop
 | [],_,_,acc,F=>F acc.reverse
 | .tmp t :: rs,ρ,h,acc,F=>YS0 P rs ρ h (ρ t :: acc) F
 | .cell a t :: rs,ρ,h,acc,F=>Wd2 (ρ a) λad=>if Wf4 P t then
  (if Zd9 P t then ldN h ad 0 (siz P t) [] (λcs=>YS0 P rs ρ h (.agg cs.toArray :: acc) F) else ldH h ad λv=>YS0 P rs ρ h (v :: acc) F) else False
def YS1:List Value->Value
 | [v]=>v
 | vs=>.tuple vs.toArray
def ZQ0 (P:Program) (rs:List ResultVar) (rng:Bool) (N:Nat) (K:kQ):Exit->Env->Wa2->Prop
 | .normal,ρ,h | .ret,ρ,h=>YS0 P rs ρ h [] λvs=>match rng with | true=>∀h',SameD N h h'->K (YS1 vs) h' | false=>K (YS1 vs) h
 | _,_,_=>False
def Wq9:Code->Bool
 | .seq a b | .cond _ a b=>Wq9 a || Wq9 b
 | .block _ b | .loop b | .scope b=>Wq9 b
 | .rangeFunc ..=>true
 | _=>false
def ZD6:List Value->Nat->Value
 | [],_=>Ws2
 | v :: _,0=>v
 | _ :: vs,n+1=>ZD6 vs n
def ZK6 (args:List Value):Env:=λj=>ZD6 args j
def WR8 (fn:Func):Code:=fn.body.getD .skip
def ZN0 (P:Program) (fn:Func) (k:Nat):Bool:=
 fn.body.isSome && !(fn.name == "runtime.NumGoroutine") && Ww7 fn.ntmps true (WR8 fn) && Nat.ble k fn.ntmps && P.follows .mixedOrders
section
variable {P:Program} {n:Nat}
theorem SameD.refl (N:Nat) (h:Wa2):SameD N h h:=⟨rfl,λ_ _=>rfl⟩
theorem Yl7 {N:Nat} {h h':Wa2} (hs:SameD N h h') {a:Addr} {v:Value} (hc:Wa1 h a=some v):Wa1 h' a=some v:=by
 unfold Wa1 at *
 cases hb:h[a.block]? with
 | none=>rw [hb] at hc;cases hc
 | some o=>
  have:h'[a.block]? = h[a.block]?:=hs.2 a.block (.inr λx e=>by rw [hb] at e;cases e;rw [hb] at hc;cases hc)
  rw [this];exact hc
theorem Yy8 {N:Nat} {h h':Wa2} (hs:SameD N h h') {a:Addr} {F:Value->Prop} (H:ldH h a F):ldH h' a F:=by
 obtain ⟨v,hv,H⟩:=WQ8 H
 unfold ldH;rw [Yl7 hs hv];exact H
theorem Zf8 {N:Nat} {h h':Wa2} (hs:SameD N h h') {a:Addr} (k:Nat):∀ {i:Nat} {acc:List Value} {F:List Value->Prop},ldN h a i k acc F->ldN h' a i k acc F:=by
 induction k with
 | zero=>intro i acc F H;exact H
 | succ k ih=>intro i acc F H;exact Yy8 hs (WI7 (λv=>ih) H)
theorem YV1 {N:Nat} {h h':Wa2} (hs:SameD N h h') {ρ:Env} (rs:List ResultVar):∀ {acc:List Value} {F F':List Value->Prop},(∀vs,F vs->F' vs)->YS0 P rs ρ h acc F->YS0 P rs ρ h' acc F':=by
 induction rs with
 | nil=>intro acc F F' f H;exact f _ H
 | cons x rs ih=>
  intro acc F F' f H
  cases x with
  | tmp t=>exact ih f H
  | cell a t=>
   refine Wt5 (λad=>Wo1 λht x=>?_) H
   split at x <;> rename_i hg
   ·rw [if_pos hg];exact Zf8 hs _ (W43 _ (λcs=>ih f) x)
   ·rw [if_neg hg];exact Yy8 hs (WI7 (λv=>ih f) x)
theorem YG7 {fn:Func} {t:Array Value} {ρ:Env} {h:Wa2} {K:kQ} (hR:Rl n t ρ) (H:YS0 P fn.results.toList ρ h [] λvs=>K (YS1 vs) h):hp P (results fn t) K h:=by
 unfold results
 rw [Array.mapM_eq_mapM_toList]
 simp only [map_eq_pure_bind,Wa6,Wc0]
 have key:∀(rs:List ResultVar) (acc:List Value),YS0 P rs ρ h acc (λvs=>K (YS1 vs) h) ->
   hp P (rs.mapM fun | .tmp x=>pure (t.getD x undef) | .cell a ty=>do loadVar ty (<- asAddr (t.getD a undef))) (λvs h'=>h' = h/\K (YS1 (acc.reverse ++ vs)) h) h:=by
  intro rs
  induction rs with
  | nil=>
   intro acc H
   have H2:K (YS1 acc.reverse) h:=H
   exact ⟨rfl,by simpa using H2⟩
  | cons x rs ih=>
   intro acc H
   rw [List.mapM_cons]
   cases x with
   | tmp x=>
    simp only [Wa6,Wc0]
    have:=ih (ρ x :: acc) H
    rw [hR.get x]
    refine Wk2 ?_ this
    rintro vs h' ⟨rfl,hk⟩
    exact ⟨rfl,by simpa using hk⟩
   | cell a ty=>
    obtain ⟨ad,ha,H⟩:=Wh8 H
    split at H
    ·rename_i hth
     simp only [Wa6]
     rw [hR.get a,ha]
     rw [show asAddr (.pointer (some ad))=pure ad from rfl,Wc0]
     refine W03 hth ?_
     split at H <;> rename_i hg
     ·rw [if_pos hg]
      refine W43 _ (λcs x=>?_) H
      rw [Wa6]
      refine Wk2 ?_ (ih _ x)
      rintro vs h' ⟨rfl,hk⟩
      exact ⟨rfl,by simpa using hk⟩
     ·rw [if_neg hg]
      refine WI7 (λv x=>?_) H
      rw [Wa6]
      refine Wk2 ?_ (ih _ x)
      rintro vs h' ⟨rfl,hk⟩
      exact ⟨rfl,by simpa using hk⟩
    ·exact H.elim
 refine Wk2 ?_ (key _ [] H)
 rintro vs h' ⟨rfl,hk⟩
 simp only [List.reverse_nil,List.nil_append] at hk
 have e:(if hh:vs.toArray.size=1 then vs.toArray[0] else Value.tuple vs.toArray)=YS1 vs:=by
  match vs with
  | []=>rfl
  | [v]=>rfl
  | _ :: _ :: _=>rfl
 show K (if hh:vs.toArray.size=1 then vs.toArray[0] else Value.tuple vs.toArray) _
 rw [e];exact hk
def RO {α:Type} (P:Program):Sem α->Prop
 | .pure _=>True
 | .load _ _ k=>∀v,RO P (k v)
 | .program k=>RO P (k P)
 | .mark _ k=>RO P k
 | .halt _=>True
 | _=>False
theorem Wp9 {α β:Type} (s:Sem α) (f:α->Sem β) (hs:RO P s) (hf:∀a,RO P (f a)):RO P (s >>= f):=by
 show RO P (s.bind f)
 induction s with
 | pure a=>exact hf a
 | load m a k ih=>exact λv=>ih v (hs v)
 | program k ih=>exact ih P hs
 | mark m k ih=>exact ih hs
 | halt x=>trivial
 | _=>exact hs.elim
theorem ZD7 {α:Type} (s:Sem α) (hs:RO P s):∀ {K:α->Wa2->Prop} (w:World),hp P s K w.heap->∃a,s.run P w=.ok a w/\K a w.heap:=by
 induction s with
 | pure a=>intro K w H;exact ⟨a,rfl,H⟩
 | load m a k ih=>
  intro K w H
  simp only [hp] at H
  split at H
  ·rename_i v hv
   obtain ⟨b,h1,h2⟩:=ih v (hs v) w H
   have hv':w.cell? a=some v:=hv
   exact ⟨b,by simp only [Sem.run,hv',h1],h2⟩
  ·exact H.elim
 | program k ih=>intro K w H;exact ih P hs w H
 | mark m k ih=>intro K w H;exact ih hs w H
 | halt x=>intro K w H;exact H.elim
 | _=>exact hs.elim
theorem Yl8 (t:TypeId):RO P (typeInfo t):=by
 unfold typeInfo
 refine Wp9 _ _ trivial λp=>?_
 split <;> trivial
theorem YV2 (t:TypeId):RO P (sizeOf t):=Wp9 _ _ (Yl8 t) λ_=>trivial
theorem W48 (t:TypeId):RO P (underlying t):=by
 unfold underlying
 refine Wp9 _ _ trivial λp=>?_
 split <;> trivial
theorem Zf9 (t:TypeId):RO P (isAgg t):=by
 unfold isAgg
 refine Wp9 _ _ (W48 t) λd=>?_
 split <;> trivial
theorem WO6 (a:Addr) (k:Nat):∀i acc,RO P (loadCellsFrom a i k acc):=by
 induction k with
 | zero=>intro i acc;trivial
 | succ k ih=>intro i acc;exact Wp9 _ _ (λ_=>trivial) λv=>ih _ _
theorem YG8 (t:TypeId) (a:Addr):RO P (loadVar t a):=by
 unfold loadVar
 refine Wp9 _ _ (Zf9 t) λb=>?_
 split
 ·exact Wp9 _ _ (YV2 t) λk=>Wp9 _ _ (WO6 a k 0 #[]) λ_=>trivial
 ·exact λ_=>trivial
theorem Zv2 {α β:Type} (f:α->Sem β) (hf:∀a,RO P (f a)) (l:List α):RO P (l.mapM f):=by
 induction l with
 | nil=>trivial
 | cons x l ih=>rw [List.mapM_cons];exact Wp9 _ _ (hf x) λ_=>Wp9 _ _ ih λ_=>trivial
theorem YG9 (fn:Func) (t:Array Value):RO P (results fn t):=by
 unfold results
 rw [Array.mapM_eq_mapM_toList]
 simp only [map_eq_pure_bind]
 refine Wp9 _ _ (Wp9 _ _ (Zv2 _ (λx=>?_) _) λ_=>trivial) λ_=>trivial
 cases x with
 | tmp x=>trivial
 | cell a ty=>
  refine Wp9 _ _ ?_ λad=>YG8 ty ad
  generalize t.getD a undef=v
  cases v with
  | pointer p=>cases p <;> trivial
  | _=>trivial
theorem YV3 {f:FuncId} {fn:Func} {c:Code} (hf:P.funcs[f]? = some fn) (hname:(fn.name == "runtime.NumGoroutine")=false) (hb:fn.body=some c):Zr2 P f:=by
 intro args w
 simp only [callFunc,Sem.run_bind,program,Sem.run]
 simp [hf,hname,hb,Sem.run_pure,Result.andThen]
theorem YV4 {args:Array Value} {k:Nat} (hs:args.size<=k):Rl k (args ++ Array.replicate (k - args.size) undef) (ZK6 args.toList):=by
 refine ⟨by simp;omega,λj=>?_⟩
 have key:∀(l:List Value) (j:Nat),ZD6 l j=l.getD j undef:=by
  intro l
  induction l with
  | nil=>intro j;simp [ZD6,undef,Ws2]
  | cons v vs ih=>intro j;cases j with
   | zero=>rfl
   | succ j=>simp [ZD6,ih]
 unfold ZK6
 rw [key]
 by_cases h:j < args.size
 ·simp [Array.getD_eq_getD_getElem?,Array.getElem?_append_left h]
 ·have h':args.size<=j:=by omega
  simp [Array.getD_eq_getD_getElem?,Array.getElem?_append_right h',Array.getElem?_replicate,List.getD_eq_getElem?_getD,Array.getElem?_eq_none h']
  split <;> rfl
theorem Yb5 {fn:Func} {t:Array Value} {ρ:Env} {h0:World} {K:kQ} {rng:Bool} (hR:Rl n t ρ) (ms:List Nat):∀(w:World),ms.Nodup->(∀D ∈ ms,h0.heap.size<=D/\w.heap[D]? = some (.deferred (some [])))->Kw h0 w ->
  (rng=false->ms = [])->(∃h,SameD h0.heap.size h w.heap/\(rng=false->h=w.heap)/\YS0 P fn.results.toList ρ h [] λvs=>match rng with | true=>∀h',SameD h0.heap.size h h'->K (YS1 vs) h' | false=>K (YS1 vs) h) ->
  LeavesInM (FW none) 0 P fn t (onH h0 K) (ms.map mkD) .returning w:=by
 induction ms with
 | nil=>
  intro w _ _ hk _ ⟨h,hs,he,H⟩
  have H2:YS0 P fn.results.toList ρ w.heap [] λvs=>K (YS1 vs) w.heap:=by
   refine YV1 hs _ (λvs x=>?_) H
   cases rng with
   | true=>exact x _ hs
   | false=>have:=he rfl;subst this;exact x
  obtain ⟨v,h1,h2⟩:=ZD7 _ (YG9 fn t) w (YG7 hR H2)
  exact ⟨v,h1,h2,hk⟩
 | cons D ms ih=>
  intro w hnd hms hk hrng ⟨h,hs,he,H⟩
  have hD:=hms D (by simp)
  refine ⟨by simp,.inl ⟨D,w.putObj D (.deferred none),rfl,run_takeDeferred hD.2,?_⟩⟩
  have hDlt:D < w.heap.size:=(Array.getElem?_eq_some_iff.1 hD.2).1
  refine ih _ (List.nodup_cons.1 hnd).2 ?_ ?_ ?_ ⟨h,?_,?_,H⟩
  ·intro D' hD'
   have:=hms D' (by simp [hD'])
   have hne:D'≠D:=λe=>by subst e;exact (List.nodup_cons.1 hnd).1 hD'
   exact ⟨this.1,(World.putObj_heap_other hne).trans this.2⟩
  ·refine ⟨⟨by rw [World.putObj_size];exact hk.1.1,λE hE=>?_⟩,hk.2⟩
   have hElt:E < h0.heap.size:=(Array.getElem?_eq_some_iff.1 hE).1
   have hne:E≠D:=by omega
   exact (World.putObj_heap_other hne).trans (hk.1.2 E hE)
  ·intro hr;have:=hrng hr;cases this
  ·refine ⟨by rw [World.putObj_size];exact hs.1,λb hb=>?_⟩
   by_cases hbD:b=D
   ·subst hbD
    exfalso
    have h1:=hs.2 b hb
    rw [hD.2] at h1
    rcases hb with hb | hb
    ·omega
    ·exact hb _ h1.symm
   ·exact (World.putObj_heap_other hbD).trans (hs.2 b hb)
  ·intro hr;have:=hrng hr;cases this
theorem WZ1 {k:Nat} (c:Code):∀b,Wq9 c=false->Ww7 k b c=true->Ww7 k false c=true:=by
 induction c with
 | seq x y ihx ihy=>intro b hr ho;simp only [Wq9,Bool.or_eq_false_iff] at hr;simp only [Ww7,Bool.and_eq_true] at ho ⊢;exact ⟨ihx b hr.1 ho.1,ihy b hr.2 ho.2⟩
 | cond c x y ihx ihy=>intro b hr ho;simp only [Wq9,Bool.or_eq_false_iff] at hr;simp only [Ww7,Bool.and_eq_true] at ho ⊢;exact ⟨ihx b hr.1 ho.1,ihy b hr.2 ho.2⟩
 | block id x ih=>intro b hr ho;exact ih b hr ho
 | loop x ih=>intro b hr ho;exact ih b hr ho
 | scope x ih=>intro b hr ho;exact ih b hr ho
 | rangeFunc g ps as x=>intro b hr ho;simp [Wq9] at hr
 | region id ops d=>intro b hr ho;exact ho
 | _=>intro b hr ho;rfl
theorem Yy9 {f:FuncId} {fn:Func} {args:Array Value} {h:Wa2} {K:kQ} (hf:P.funcs[f]? = some fn) (hok0:ZN0 P fn args.size=true)
  (H:vc P (WR8 fn) (ZQ0 P fn.results.toList (Wq9 (WR8 fn)) h.size K) (ZK6 args.toList) h):Wa5 P f args h K:=by
 unfold ZN0 at hok0
 simp only [Bool.and_eq_true,Bool.not_eq_true'] at hok0
 obtain ⟨⟨⟨⟨hbs,hname⟩,hok⟩,hs⟩,hm⟩:=hok0
 have hs:args.size<=fn.ntmps:=Nat.le_of_ble_eq_true hs
 obtain ⟨c,hb⟩:=Option.isSome_iff_exists.1 hbs
 have hc:WR8 fn=c:=by unfold WR8;rw [hb];rfl
 rw [hc] at H hok
 refine ⟨YV3 hf hname hb,λw hw=>?_⟩
 subst hw
 show CallsIn (FW none) 0 P f args w (onH w K)
 refine callsIn_of_wp_marks hf hb trivial ?_ rfl
 cases hr:Wq9 c with
 | true=>
  rw [hr] at H
  refine wpIn_mono (YV0 (B:=λD=>w.heap.size<=D) hm c none true (λ_=>rfl) hok _ _ w w.heap _ w H (YV4 hs) rfl (λ_ D hD=>hD) ⟨[],rfl,List.nodup_nil,λD hD=>by cases hD⟩ (Kw.refl _)) ?_
  rintro e a1 w1 ⟨_,h1⟩
  have fin:∀ρ1,Rl fn.ntmps a1.tmps ρ1->DInv (λD=>w.heap.size<=D) a1.defers w1.heap->Kw w w1->YS0 P fn.results.toList ρ1 w1.heap [] (λvs=>∀h',SameD w.heap.size w1.heap h'->K (YS1 vs) h')->LeavesInM (FW none) 0 P fn a1.tmps (onH w K) a1.defers .returning w1:=by
   intro ρ1 hR1 ⟨ms,hd1,hd2,hd3⟩ hk1 hq
   rw [hd1]
   exact Yb5 (rng:=true) hR1 ms w1 hd2 hd3 hk1 (λe=>by cases e) ⟨w1.heap,SameD.refl _ _,λ_=>rfl,hq⟩
  cases e with
  | normal=>obtain ⟨ρ1,hR1,hd1,hk1,hq⟩:=h1;exact fin ρ1 hR1 hd1 hk1 hq
  | ret=>obtain ⟨ρ1,hR1,hd1,hk1,hq⟩:=h1;exact fin ρ1 hR1 hd1 hk1 hq
  | exit id=>obtain ⟨ρ1,hR1,hd1,hk1,hq⟩:=h1;exact hq.elim
  | _=>exact h1.elim
 | false=>
  rw [hr] at H
  refine wpIn_mono (YV0 (B:=λ_=>False) hm c none false (λ_=>rfl) (WZ1 c true hr hok) _ _ w w.heap _ w H (YV4 hs) rfl (λe=>by cases e) ⟨[],rfl,List.nodup_nil,λD hD=>by cases hD⟩ (Kw.refl _)) ?_
  rintro e a1 w1 ⟨_,h1⟩
  have fin:∀ρ1,Rl fn.ntmps a1.tmps ρ1->DInv (λ_=>False) a1.defers w1.heap->Kw w w1->YS0 P fn.results.toList ρ1 w1.heap [] (λvs=>K (YS1 vs) w1.heap)->LeavesInM (FW none) 0 P fn a1.tmps (onH w K) a1.defers .returning w1:=by
   intro ρ1 hR1 ⟨ms,hd1,hd2,hd3⟩ hk1 hq
   have hms:ms = []:=by cases ms with | nil=>rfl | cons D ms=>exact (hd3 D (by simp)).1.elim
   subst hms
   rw [hd1]
   exact Yb5 (rng:=false) hR1 [] w1 hd2 (λD hD=>by cases hD) hk1 (λ_=>rfl) ⟨w1.heap,SameD.refl _ _,λ_=>rfl,hq⟩
  cases e with
  | normal=>obtain ⟨ρ1,hR1,hd1,hk1,hq⟩:=h1;exact fin ρ1 hR1 hd1 hk1 hq
  | ret=>obtain ⟨ρ1,hR1,hd1,hk1,hq⟩:=h1;exact fin ρ1 hR1 hd1 hk1 hq
  | exit id=>obtain ⟨ρ1,hR1,hd1,hk1,hq⟩:=h1;exact hq.elim
  | _=>exact h1.elim
theorem cQ {P:Program} {f:FuncId} {fn:Func} {args:Array Value} {h:Wa2} {K:kQ} {F:Prop} (hf:P.funcs[f]? = some fn) (H:F) (hok:ZN0 P fn args.size=true:=by kernel_rfl) (e:vc P (WR8 fn) (ZQ0 P fn.results.toList (Wq9 (WR8 fn)) h.size K) (ZK6 args.toList) h=F:=by kernel_rfl):Wa5 P f args h K:=Yy9 hf hok (Eq.mpr e H)
end
#print axioms Yy9
end
section
theorem WZ2 {P:Program} {f:FuncId} {args:Array Value} {W:World} {K:kQ} (H:Wa5 P f args W.heap K) :
  Calls P f args W λe W'=>∃v,e=.returned v/\K v W'.heap/\W'.os=W.os/\W'.output=W.output:=by
 refine (callsIn_wide.1 (H.2 W rfl)).mono λe W' x=>?_
 cases e with
 | returned v=>exact ⟨v,rfl,x.1,x.2.2.1,x.2.2.2⟩
 | _=>exact x.elim
theorem Wa0 {P:Program} {f:FuncId} {args:Array Value} {h:Wa2} {K:kQ} (H:Wa5 P f args h K):Wv0 P (.func (.func f) #[] #[]) args h K:=by
 unfold Wv0;simpa using H
theorem W49 {P:Program} {f:FuncId} {args cap:Array Value} {h:Wa2} {K:kQ} (H:Wa5 P f (args ++ cap) h K):Wv0 P (.func (.func f) #[] cap) args h K:=by
 unfold Wv0;simpa using H
theorem Wc4 (b o n:Nat):(⟨b,o,none⟩ : Addr).add n=⟨b,o+n,none⟩:=by unfold Addr.add;split <;> simp_all
theorem WR9 (a:Addr) (n:Nat):(a.add n).block=a.block:=by unfold Addr.add;split <;> rfl
theorem Ww3 (a:Addr) (m n:Nat):(a.add m).add n=a.add (m+n):=by
 unfold Addr.add
 by_cases h1:m=0
 ·subst h1;simp
 ·by_cases h2:n=0
  ·subst h2;simp [h1]
  ·have h3:m+n≠0:=by omega
   simp [h1,h2,h3,Nat.add_assoc]
theorem add_zero (a:Addr):a.add 0=a:=rfl
def Old (N:Nat) (h h':Wa2):Prop:=h.size<=h'.size/\∀b,b < N->h'[b]? = h[b]?
theorem Old.refl (N:Nat) (h:Wa2):Old N h h:=⟨Nat.le_refl _,λ_ _=>rfl⟩
theorem Old.trans {N:Nat} {a b c:Wa2} (x:Old N a b) (y:Old N b c):Old N a c:=⟨Nat.le_trans x.1 y.1,λi hi=>(y.2 i hi).trans (x.2 i hi)⟩
theorem Old.mono {N M:Nat} {a b:Wa2} (x:Old N a b) (h:M<=N):Old M a b:=⟨x.1,λi hi=>x.2 i (Nat.lt_of_lt_of_le hi h)⟩
theorem Wj0 (h:Wa2) (o:Obj) (b:Nat) (hb:b < h.size):(h.push o)[b]? = h[b]?:=by rw [Array.getElem?_push,if_neg (by omega)]
theorem Wo3 (h:Wa2) (o:Obj):(h.push o)[h.size]? = some o:=by simp
theorem Old.push {N:Nat} {h h':Wa2} (x:Old N h h') (o:Obj) (hN:N<=h'.size):Old N h (h'.push o):=⟨by have:=x.1;simp;omega,λb hb=>(Wj0 _ _ _ (by omega)).trans (x.2 b hb)⟩
theorem SameD.cells {N:Nat} {h h':Wa2} (y:SameD N h h') {b:Nat} {row:Array Value} {t:TypeId} {f:Nat × Nat} (hb:h[b]? = some (.cells row t f)):h'[b]? = h[b]?:=y.2 b (.inr λu e=>by rw [hb] at e;cases e)
theorem Wg0 {h h':Wa2} {a:Addr} (e:h'[a.block]? = h[a.block]?):Wa1 h' a=Wa1 h a:=by unfold Wa1;rw [e]
theorem Wr5 {h:Wa2} {a:Addr} {v:Value} (e:Wa1 h a=some v):a.block < h.size:=by
 unfold Wa1 at e
 cases hb:h[a.block]? with
 | none=>rw [hb] at e;cases e
 | some o=>exact (Array.getElem?_eq_some_iff.1 hb).1
theorem Wc1 {h:Wa2} {b:Nat} {row:Array Value} {t:TypeId} {f:Nat × Nat} (hb:h[b]? = some (.cells row t f)) (i:Nat):Wa1 h ⟨b,i,none⟩=row[i]?:=by
 unfold Wa1;simp only [hb];rfl
theorem Yl9 {h:Wa2} {b:Nat} {row:Array Value} {t:TypeId} (hb:h[b]? = some (.cells row t)) (i:Nat):Wx9 h ⟨b,i,none⟩=false:=by
 unfold Wx9;simp only [hb];simp
theorem Wb4 {h:Wa2} {a:Addr} {v:Value} {K:Value->Prop} (e:Wa1 h a=some v) (k:K v):ldH h a K:=by unfold ldH;rw [e];exact k
theorem Yb6 {h:Wa2} {b i:Nat} {v:Value} {K:Wa2->Prop} {row:Array Value} {t:TypeId} (hb:h[b]? = some (.cells row t)) (hi:i < row.size) (ho:Wi4 v True)
  (k:∀h',h' = h.setIfInBounds b (.cells (row.setIfInBounds i v) t)->K h'):stH h ⟨b,i,none⟩ v K:=by
 unfold stH
 refine Ww6 (λ_=>⟨⟨row[i],?_⟩,Yl9 hb i,k _ ?_⟩) ho
 ·rw [Wc1 hb];simp [hi]
 ·unfold setC
  apply Array.ext_getElem?
  intro j
  rw [Array.getElem?_modify,Array.getElem?_setIfInBounds]
  by_cases e:b=j
  ·subst e
   have hlt:=(Array.getElem?_eq_some_iff.1 hb).1
   rw [hb];simp [hlt,ZC4]
  ·simp [e]
theorem Wl6 {h:Wa2} {b:Nat} {o:Obj} (hb:b < h.size):(h.setIfInBounds b o)[b]? = some o:=by simp [hb]
theorem Wm7 {h:Wa2} {b c:Nat} {o:Obj} (hc:c≠b):(h.setIfInBounds b o)[c]? = h[c]?:=Array.getElem?_setIfInBounds_ne (Ne.symm hc)
def Sees (h:Wa2) (a:Option Addr) (vs:List Value):Prop:=∀i v,vs[i]? = some v->∃ad,a=some ad/\Wa1 h (ad.add i)=some v
theorem Sees.keep {h h':Wa2} {a:Option Addr} {vs:List Value} (H:Sees h a vs) (k:∀ad,a=some ad->h'[ad.block]? = h[ad.block]?):Sees h' a vs:=by
 intro i v hi
 obtain ⟨ad,e,hc⟩:=H i v hi
 exact ⟨ad,e,(Wg0 (by rw [WR9];exact k ad e)).trans hc⟩
theorem Sees.nil (h:Wa2) (a:Option Addr):Sees h a []:=λi v hi=>by simp at hi
def Own (h:Wa2) (elem:TypeId) (sz:Nat) (a:Option Addr) (l c:Nat) (xs:List Value):Prop:=
 xs.length=l*sz/\l<=c/\((a=none/\c=0)\/∃b row,a=some (aQ b)/\h[b]? = some (.cells row elem)/\row.size=c*sz/\row.toList.take (l*sz)=xs)
theorem Own.nil (h:Wa2) (elem:TypeId) (sz:Nat):Own h elem sz none 0 0 []:=⟨by simp,Nat.le_refl _,.inl ⟨rfl,rfl⟩⟩
theorem Own.keep {h h':Wa2} {elem:TypeId} {sz:Nat} {a:Option Addr} {l c:Nat} {xs:List Value} (H:Own h elem sz a l c xs) (k:∀ad,a=some ad->h'[ad.block]? = h[ad.block]?):Own h' elem sz a l c xs:=by
 obtain ⟨h1,h2,h3⟩:=H
 refine ⟨h1,h2,h3.imp id ?_⟩
 rintro ⟨b,row,e,hb,r⟩
 exact ⟨b,row,e,(k _ e).trans hb,r⟩
theorem Own.lt {h:Wa2} {elem:TypeId} {sz:Nat} {a:Option Addr} {l c:Nat} {xs:List Value} (H:Own h elem sz a l c xs):∀ad,a=some ad->ad.block < h.size:=by
 rintro ad e
 rcases H.2.2 with ⟨e2,_⟩ | ⟨b,row,e2,hb,_⟩
 ·rw [e] at e2;cases e2
 ·rw [e] at e2;cases e2;exact (Array.getElem?_eq_some_iff.1 hb).1
theorem Own.sees {h:Wa2} {elem:TypeId} {sz:Nat} {a:Option Addr} {l c:Nat} {xs:List Value} (H:Own h elem sz a l c xs):Sees h a xs:=by
 intro i v hi
 obtain ⟨h1,h2,h3⟩:=H
 have hlt:i < xs.length:=(List.getElem?_eq_some_iff.1 hi).1
 rcases h3 with ⟨_,hc⟩ | ⟨b,row,e,hb,hs,ht⟩
 ·have:l=0:=by omega
  subst this;simp at h1;subst h1;simp at hlt
 ·refine ⟨_,e,?_⟩
  rw [Wc4,Wc1 hb,Nat.zero_add,<- Array.getElem?_toList]
  rw [<- ht,List.getElem?_take] at hi
  split at hi
  ·exact hi
  ·cases hi
theorem Wy5 {h:Wa2} {ad:Addr} (vs:List Value):∀(i:Nat) (acc:List Value) (K:List Value->Prop),(∀j v,vs[j]? = some v->Wa1 h (ad.add (i+j))=some v)->K (acc.reverse ++ vs)->ldN h ad i vs.length acc K:=by
 induction vs with
 | nil=>intro i acc K _ k;show K acc.reverse;simpa using k
 | cons v vs ih=>
  intro i acc K hc k
  refine Wb4 (v:=v) (hc 0 v rfl) (ih (i+1) (v :: acc) K (λj u hj=>?_) (by simpa using k))
  rw [show i+1+j=i+(j+1) by omega];exact hc (j+1) u hj
theorem WM2 (ys:List Value):∀(h:Wa2) (b off i:Nat) (row:Array Value) (t:TypeId) (K:Wa2->Prop),h[b]? = some (.cells row t)->off+i+ys.length<=row.size->(∀y ∈ ys,Wi4 y True) ->
  (∀row',row'.size=row.size->(∀j,row'[j]? = if off+i<=j/\j < off+i+ys.length then ys[j - (off+i)]? else row[j]?)->K (h.setIfInBounds b (.cells row' t)))->stN h ⟨b,off,none⟩ i ys K:=by
 induction ys with
 | nil=>
  intro h b off i row t K hb hs ho k
  have:=k row rfl (λj=>by rw [if_neg (by simp)])
  have e:h.setIfInBounds b (.cells row t)=h:=by
   apply Array.ext_getElem?;intro j
   rw [Array.getElem?_setIfInBounds]
   have hlt:=(Array.getElem?_eq_some_iff.1 hb).1
   by_cases ej:b=j
   ·subst ej;rw [hb];simp [hlt]
   ·simp [ej]
  rw [e] at this;exact this
 | cons y ys ih=>
  intro h b off i row t K hb hs ho k
  simp only [List.length_cons] at hs
  have hlt:=(Array.getElem?_eq_some_iff.1 hb).1
  show stH h ((⟨b,off,none⟩ : Addr).add i) y _
  rw [Wc4]
  refine Yb6 (b:=b) (i:=off+i) hb (by omega) (ho y (by simp)) ?_
  rintro h' rfl
  refine ih _ b off (i+1) (row.setIfInBounds (off+i) y) t K (Wl6 hlt) (by simp;omega) (λz hz=>ho z (by simp [hz])) ?_
  intro row' h1 h2
  have:=k row' (by rw [h1];simp) (λj=>by
   rw [h2 j]
   simp only [List.length_cons]
   by_cases c1:off+(i+1)<=j/\j < off+(i+1)+ys.length
   ·rw [if_pos c1,if_pos (by omega)]
    rw [show j - (off+i)=(j - (off+(i+1)))+1 by omega];simp
   ·rw [if_neg c1]
    by_cases c2:j=off+i
    ·subst c2
     rw [if_pos (by omega)]
     simp only [Nat.sub_self]
     rw [Array.getElem?_setIfInBounds];simp;omega
    ·rw [if_neg (by omega),Array.getElem?_setIfInBounds_ne (by omega)])
  simpa using this
theorem WD9 (need cap:Nat) (hn:cap < need):Builtin.nextslicecap need cap<=2*need+512:=by
 unfold Builtin.nextslicecap
 split
 ·omega
 ·split
  ·omega
  ·have:∀(r c:Nat),c<=need->Builtin.growBy need r c<=2*need+512:=by
    intro r
    induction r with
    | zero=>intro c hc;unfold Builtin.growBy;omega
    | succ r ih=>
     intro c hc
     unfold Builtin.growBy
     split
     ·omega
     ·by_cases h2:c+(c+768) / 4<=need
      ·exact ih _ h2
      ·cases r with
       | zero=>unfold Builtin.growBy;omega
       | succ r=>unfold Builtin.growBy;rw [if_pos (by omega)];omega
   exact this 4 cap (by omega)
theorem Wr0 (z:Array Value) (n:Nat):(Builtin.zeroCells z n).size=n*z.size:=by unfold Builtin.zeroCells;simp
theorem WI9 {P:Program} {t elem:TypeId} {z:Value} {h:Wa2} {a a2:Option Addr} {l c n n2:Nat} {xs ys:List Value} {K:kQ}
  (hu:und P t=.slice elem) (hth:Wf4 P elem=true) (hz:zer P elem=some z) (hzs:z.cells.size=siz P elem)
  (ho:Own h elem (siz P elem) a l c xs) (hs:Sees h a2 ys) (hn:ys.length=n*siz P elem) (hone:∀y ∈ ys,Wi4 y True) (hb0:0 < byt P elem) (hb:(2*(l+n)+512)*byt P elem<=2 ^ 48)
  (H:∀a' c' h',Own h' elem (siz P elem) a' (l+n) c' (xs ++ ys)->h.size<=h'.size->(∀b,b < h.size->(∀ad,a=some ad->ad.block≠b)->h'[b]? = h[b]?)->(a' = a\/a' = some (aQ h.size)/\Old h.size h h')->K (.slice a' (l+n) c') h') :
  Wt2 P #[t,t] t #[.slice a l c,.slice a2 n n2] h K:=by
 have hu':=Wc6 hu (by simp)
 obtain ⟨info,hinfo⟩:=Wt3 hth
 have hbyt:info.bytes=byt P elem:=by unfold byt;rw [hinfo]
 have first:∀(F:Array Value->Wa2->Prop),F ys.toArray h->hp P (Builtin.firstCells (siz P elem) n (.slice a2 n n2)) F h:=by
  intro F k
  cases a2 with
  | none=>
   have:ys = []:=by
    cases ys with
    | nil=>rfl
    | cons y ys=>obtain ⟨ad,e,_⟩:=hs 0 y rfl;cases e
   subst this;exact k
  | some ad=>
   show hp P (loadCells ad (n*siz P elem)) F h
   refine We5 ad _ 0 [] F ?_
   rw [<- hn]
   refine Wy5 ys 0 [] _ (λj v hj=>?_) (by simpa using k)
   obtain ⟨ad',e,hc⟩:=hs j v hj
   cases e;rwa [Nat.zero_add]
 unfold Wt2 Builtin.append_
 simp only [List.getElem?_toArray,List.getElem?_cons_zero,List.getElem?_cons_succ,Wa6,Wc0,Wa8 hu',Wd7 hth,Bool.false_eq_true,if_false]
 show hp P (Builtin.lenOf _) _ h
 simp only [Builtin.lenOf,Wc0]
 rw [WF5]
 obtain ⟨hl,hlc,hor⟩:=ho
 split
 ·rename_i hcap
  simp only [Wa6]
  show hp P (if (!false)=true then _ else _) _ h
  refine first _ ?_
  rcases hor with ⟨rfl,rfl⟩ | ⟨b,row,rfl,hb2,hrs,hrt⟩
  ·have e1:l+n=0:=by omega
   have e2:n=0:=by omega
   subst e2
   have:ys = []:=by simpa using hn
   subst this
   simp only [Wa6,Wc0]
   refine H none 0 h ⟨by simp [hl],by omega,.inl ⟨rfl,rfl⟩⟩ (Nat.le_refl _) (λ_ _ _=>rfl) (.inl rfl)
  ·simp only [Wa6]
   have hlt:=(Array.getElem?_eq_some_iff.1 hb2).1
   have hmul:(l+n)*siz P elem<=c*siz P elem:=Nat.mul_le_mul_right _ hcap
   rw [Nat.add_mul] at hmul
   refine Wi9 _ _ h 0 _ ?_
   rw [Wc4]
   refine WM2 ys h b _ 0 row elem _ hb2 (by omega) hone ?_
   intro row' h1 h2
   simp only [Wc0]
   refine H (some (aQ b)) c _ ⟨by simp [hl,hn,Nat.add_mul],hcap,.inr ⟨b,row',rfl,Wl6 hlt,by rw [h1,hrs],?_⟩⟩ (by simp) (λb' hb' hne=>Wm7 (Ne.symm (hne _ rfl))) (.inl rfl)
   apply List.ext_getElem?
   intro j
   rw [List.getElem?_take,Array.getElem?_toList,h2 j]
   rw [Nat.add_mul]
   by_cases c1:j < l*siz P elem
   ·rw [if_pos (by omega),if_neg (by omega),List.getElem?_append_left (by omega),<- hrt,List.getElem?_take,if_pos c1,Array.getElem?_toList]
   ·rw [List.getElem?_append_right (by omega)]
    by_cases c2:j < l*siz P elem+n*siz P elem
    ·rw [if_pos c2,if_pos (by omega)]
     congr 1;omega
    ·rw [if_neg c2]
     symm;apply List.getElem?_eq_none;omega
 ·rename_i hcap
  simp only [Wa6,Wc0]
  have hbound:¬ Builtin.nextslicecap (l+n) c*info.bytes > 2 ^ 48:=by
   rw [hbyt]
   have:=Nat.le_trans (Nat.mul_le_mul_right (byt P elem) (WD9 (l+n) c (by omega))) hb
   omega
  simp only [Wa6,Wc0,Wg1 hinfo,WF5]
  rw [if_neg (by rw [hbyt];intro x;rcases x.2 with y | y <;> first | exact y | omega),if_neg hbound]
  show ∀tp,_
  intro tp
  rw [if_neg (by simp [Question.forced])]
  obtain ⟨cap,hcp⟩ : ∃cap,cap=(Question.appendCap (l+n) c elem).cut tp:=⟨_,rfl⟩
  have hcap2:l+n<=cap:=by rw [hcp];simp [Question.cut]
  rw [<- hcp]
  rw [show (Sem.pure cap:Sem Nat)=pure cap from rfl]
  simp only [Wa6,Wc0,Wg1 hinfo,Wt4]
  have old:∀(F:Array Value->Wa2->Prop),F xs.toArray h->hp P (Builtin.firstCells (siz P elem) l (.slice a l c)) F h:=by
   intro F k
   rcases hor with ⟨rfl,rfl⟩ | ⟨b,row,rfl,hb2,hrs,hrt⟩
   ·have:l=0:=by omega
    subst this
    have:xs = []:=by simpa using hl
    subst this;exact k
   ·show hp P (loadCells (aQ b) (l*siz P elem)) F h
    refine We5 _ _ 0 [] F ?_
    rw [<- hl]
    refine Wy5 xs 0 [] _ (λj v hj=>?_) (by simpa using k)
    rw [Wc4,Wc1 hb2,Nat.zero_add,Nat.zero_add,<- Array.getElem?_toList]
    rw [<- hrt,List.getElem?_take] at hj
    split at hj
    ·exact hj
    ·cases hj
  refine old _ ?_
  rw [Wa6,if_pos (show (!false)=true from rfl)]
  refine first _ ?_
  simp only [Wa6]
  simp only [Wi5 hz]
  show K (.slice (some (aQ h.size)) (l+n) cap) (h.push _)
  have hzc:(Builtin.zeroCells z.cells (cap - (l+n))).size=(cap - (l+n))*siz P elem:=by rw [Wr0,hzs]
  refine H _ cap _ ⟨by simp [hl,hn,Nat.add_mul],hcap2,.inr ⟨h.size,_,rfl,Wo3 _ _,?_,?_⟩⟩ (by simp) (λb hb' _=>Wj0 _ _ _ hb') (.inr ⟨rfl,by simp,λb hb'=>Wj0 _ _ _ hb'⟩)
  ·simp only [Array.size_append,hzc,List.size_toArray,hl,hn,<- Nat.add_mul]
   congr 1;omega
  ·simp only [Array.toList_append,List.toList_toArray]
   rw [List.take_left' (by simp [hl,hn,Nat.add_mul])]
theorem Yz0 {P:Program} {t elem:TypeId} {z:Value} {h:Wa2} {a a2:Option Addr} {l c n n2:Nat} {xs ys:List Value} {K:kQ}
  (hu:und P t=.slice elem) (hth:Wf4 P elem=true) (hz:zer P elem=some z) (hzs:z.cells.size=siz P elem)
  (ho:Own h elem (siz P elem) a l c xs) (hs:Sees h a2 ys) (hn:ys.length=n*siz P elem) (hone:∀y ∈ ys,Wi4 y True) (hb0:0 < byt P elem) (hb:(2*(l+n)+512)*byt P elem<=2 ^ 48)
  (H:∀a' c' h',Own h' elem (siz P elem) a' (l+n) c' (xs ++ ys)->h.size<=h'.size->(∀b,b < h.size->(∀ad,a=some ad->ad.block≠b)->h'[b]? = h[b]?)->(a' = a\/a' = some (aQ h.size))->K (.slice a' (l+n) c') h') :
  Wt2 P #[t,t] t #[.slice a l c,.slice a2 n n2] h K:=
 WI9 hu hth hz hzs ho hs hn hone hb0 hb λa' c' h' x1 x2 x3 x4=>H a' c' h' x1 x2 x3 (x4.imp id λx=>x.1)
end
end Go.Proofs.YtahpbclnkofhfaaGreat
