/- Part 3 of what the proofs of this seat rest on: see the last text of the claim. -/
import Derived.Test.YtahpbclnkofhfaaGreatQ749af90992fd
import Derived.RangeFuncLeaves
set_option linter.unusedSimpArgs false
set_option linter.unusedVariables false
set_option linter.ambiguousOpen false
set_option maxRecDepth 20000
namespace Go.Proofs.YtahpbclnkofhfaaGreat
section
def Mk (P:Program):List ResultVar->G4->A2->List vQ->(List vQ->Prop)->Prop
 | [],_,_,acc,F=>F acc.reverse
 | .tmp t :: rs,ρ,h,acc,F=>Mk P rs ρ h (ρ t :: acc) F
 | .cell a t :: rs,ρ,h,acc,F=>F3 (ρ a) λad=>if L0 P t then
  (if MJ P t then ldN h ad 0 (M2 P t) [] (λcs=>Mk P rs ρ h (.agg cs.toArray :: acc) F) else D2 h ad λv=>Mk P rs ρ h (v :: acc) F) else False
def Ml:List vQ->vQ
 | [v]=>v
 | vs=>.tuple vs.toArray
def Th5 (P:Program) (rs:List ResultVar) (rng:Bool) (N:Nat) (K:kQ):Exit->G4->A2->Prop
 | .normal,ρ,h | .ret,ρ,h=>Mk P rs ρ h [] λvs=>match rng with | true=>∀h',Ao N h h'->K (Ml vs) h' | false=>K (Ml vs) h
 | _,_,_=>False
def BB:Code->Bool
 | .seq a b | .cond _ a b=>BB a || BB b
 | .block _ b | .loop b | .scope b=>BB b
 | .rangeFunc ..=>true
 | _=>false
def SH2:List vQ->Nat->vQ
 | [],_=>Bq
 | v :: _,0=>v
 | _ :: vs,n+1=>SH2 vs n
def S09 (args:List vQ):G4:=λj=>SH2 args j
def Ji (fn:Func):Code:=fn.body.getD .skip
def Tc2 (P:Program) (fn:Func) (k:Nat):Bool:=
 fn.body.isSome && !(fn.name == "runtime.NumGoroutine") && CR fn.ntmps true (Ji fn) && Nat.ble k fn.ntmps && P.follows .mixedOrders
section
variable {P:Program} {n:Nat}
theorem Ao.refl (N:Nat) (h:A2):Ao N h h:=⟨rfl,λ_ _=>rfl⟩
theorem Ua {N:Nat} {h h':A2} (hs:Ao N h h') {a:Addr} {v:vQ} (hc:A3 h a=some v):A3 h' a=some v:=by
 unfold A3 at *
 cases hb:h[a.block]? with
 | none=>rw [hb] at hc;cases hc
 | some o=>
  have:h'[a.block]? = h[a.block]?:=hs.2 a.block (.inr λx e=>by rw [hb] at e;cases e;rw [hb] at hc;cases hc)
  rw [this];exact hc
theorem Ub {N:Nat} {h h':A2} (hs:Ao N h h') {a:Addr} {F:vQ->Prop} (H:D2 h a F):D2 h' a F:=by
 obtain ⟨v,hv,H⟩:=JC H
 unfold D2;rw [Ua hs hv];exact H
theorem SH3 {N:Nat} {h h':A2} (hs:Ao N h h') {a:Addr} (k:Nat):∀ {i:Nat} {acc:List vQ} {F:List vQ->Prop},ldN h a i k acc F->ldN h' a i k acc F:=by
 induction k with
 | zero=>intro i acc F H;exact H
 | succ k ih=>intro i acc F H;exact Ub hs (Hf (λv=>ih) H)
theorem Sm6 {N:Nat} {h h':A2} (hs:Ao N h h') {ρ:G4} (rs:List ResultVar):∀ {acc:List vQ} {F F':List vQ->Prop},(∀vs,F vs->F' vs)->Mk P rs ρ h acc F->Mk P rs ρ h' acc F':=by
 induction rs with
 | nil=>intro acc F F' f H;exact f _ H
 | cons x rs ih=>
  intro acc F F' f H
  cases x with
  | tmp t=>exact ih f H
  | cell a t=>
   refine CQ (λad=>AR λht x=>?_) H
   split at x <;> rename_i hg
   ·rw [A8 hg];exact SH3 hs _ (MS _ (λcs=>ih f) x)
   ·rw [A7 hg];exact Ub hs (Hf (λv=>ih f) x)
theorem Yb {fn:Func} {t:Array vQ} {ρ:G4} {h:A2} {K:kQ} (hR:Rl n t ρ) (H:Mk P fn.results.toList ρ h [] λvs=>K (Ml vs) h):hp P (results fn t) K h:=by
 unfold results
 rw [Array.mapM_eq_mapM_toList]
 simp only [map_eq_pure_bind,B6,E0]
 have key:∀(rs:List ResultVar) (acc:List vQ),Mk P rs ρ h acc (λvs=>K (Ml vs) h) ->
   hp P (rs.mapM fun | .tmp x=>pure (t.getD x undef) | .cell a ty=>do loadVar ty (<- asAddr (t.getD a undef))) (λvs h'=>h' = h/\K (Ml (acc.reverse ++ vs)) h) h:=by
  intro rs
  induction rs with
  | nil=>
   intro acc H
   have H2:K (Ml acc.reverse) h:=H
   exact ⟨rfl,by simpa using H2⟩
  | cons x rs ih=>
   intro acc H
   rw [List.mapM_cons]
   cases x with
   | tmp x=>
    simp only [B6,E0]
    have:=ih (ρ x :: acc) H
    rw [hR.get x]
    refine X1 ?_ this
    rintro vs h' ⟨rfl,hk⟩
    exact ⟨rfl,by simpa using hk⟩
   | cell a ty=>
    obtain ⟨ad,ha,H⟩:=V9 H
    split at H
    ·rename_i hth
     simp only [B6]
     rw [hR.get a,ha]
     rw [show asAddr (.pointer (some ad))=pure ad from rfl,E0]
     refine ML hth ?_
     split at H <;> rename_i hg
     ·rw [A8 hg]
      refine MS _ (λcs x=>?_) H
      rw [B6]
      refine X1 ?_ (ih _ x)
      rintro vs h' ⟨rfl,hk⟩
      exact ⟨rfl,by simpa using hk⟩
     ·rw [A7 hg]
      refine Hf (λv x=>?_) H
      rw [B6]
      refine X1 ?_ (ih _ x)
      rintro vs h' ⟨rfl,hk⟩
      exact ⟨rfl,by simpa using hk⟩
    ·exact H.elim
 refine X1 ?_ (key _ [] H)
 rintro vs h' ⟨rfl,hk⟩
 simp only [List.reverse_nil,OG] at hk
 have e:(if hh:vs.toArray.size=1 then vs.toArray[0] else Value.tuple vs.toArray)=Ml vs:=by
  match vs with
  | []=>rfl
  | [v]=>rfl
  | _ :: _ :: _=>rfl
 show K (if hh:vs.toArray.size=1 then vs.toArray[0] else Value.tuple vs.toArray) _
 rw [e];exact hk
def RO {α:Type} (P:Program):Sem α->Prop
 | .pure _=>True
 | .load _ _ k=>∀v,RO P (k v)
 | .program k=>RO P (k P)
 | .mark _ k=>RO P k
 | .halt _=>True
 | _=>False
theorem Bh {α β:Type} (s:Sem α) (f:α->Sem β) (hs:RO P s) (hf:∀a,RO P (f a)):RO P (s >>= f):=by
 show RO P (s.bind f)
 induction s with
 | pure a=>exact hf a
 | load m a k ih=>exact λv=>ih v (hs v)
 | program k ih=>exact ih P hs
 | mark m k ih=>exact ih hs
 | halt x=>trivial
 | _=>exact hs.elim
theorem Tc3 {α:Type} (s:Sem α) (hs:RO P s):∀ {K:α->A2->Prop} (w:World),hp P s K w.heap->∃a,s.run P w=.ok a w/\K a w.heap:=by
 induction s with
 | pure a=>intro K w H;exact ⟨a,rfl,H⟩
 | load m a k ih=>
  intro K w H
  simp only [hp] at H
  split at H
  ·rename_i v hv
   obtain ⟨b,h1,h2⟩:=ih v (hs v) w H
   have hv':w.cell? a=some v:=hv
   exact ⟨b,by simp only [Sem.run,hv',h1],h2⟩
  ·exact H.elim
 | program k ih=>intro K w H;exact ih P hs w H
 | mark m k ih=>intro K w H;exact ih hs w H
 | halt x=>intro K w H;exact H.elim
 | _=>exact hs.elim
theorem Uc (t:TypeId):RO P (typeInfo t):=by
 unfold typeInfo
 refine Bh _ _ trivial λp=>?_
 split <;> trivial
theorem Sm7 (t:TypeId):RO P (sizeOf t):=Bh _ _ (Uc t) λ_=>trivial
theorem OU (t:TypeId):RO P (underlying t):=by
 unfold underlying
 refine Bh _ _ trivial λp=>?_
 split <;> trivial
theorem SH4 (t:TypeId):RO P (isAgg t):=by
 unfold isAgg
 refine Bh _ _ (OU t) λd=>?_
 split <;> trivial
theorem KF (a:Addr) (k:Nat):∀i acc,RO P (loadCellsFrom a i k acc):=by
 induction k with
 | zero=>intro i acc;trivial
 | succ k ih=>intro i acc;exact Bh _ _ (λ_=>trivial) λv=>ih _ _
theorem Yc (t:TypeId) (a:Addr):RO P (loadVar t a):=by
 unfold loadVar
 refine Bh _ _ (SH4 t) λb=>?_
 split
 ·exact Bh _ _ (Sm7 t) λk=>Bh _ _ (KF a k 0 #[]) λ_=>trivial
 ·exact λ_=>trivial
theorem S10 {α β:Type} (f:α->Sem β) (hf:∀a,RO P (f a)) (l:List α):RO P (l.mapM f):=by
 induction l with
 | nil=>trivial
 | cons x l ih=>rw [List.mapM_cons];exact Bh _ _ (hf x) λ_=>Bh _ _ ih λ_=>trivial
theorem Yd (fn:Func) (t:Array vQ):RO P (results fn t):=by
 unfold results
 rw [Array.mapM_eq_mapM_toList]
 simp only [map_eq_pure_bind]
 refine Bh _ _ (Bh _ _ (S10 _ (λx=>?_) _) λ_=>trivial) λ_=>trivial
 cases x with
 | tmp x=>trivial
 | cell a ty=>
  refine Bh _ _ ?_ λad=>Yc ty ad
  generalize t.getD a undef=v
  cases v with
  | pointer p=>cases p <;> trivial
  | _=>trivial
theorem Sm8 {f:FuncId} {fn:Func} {c:Code} (hf:P.funcs[f]? = some fn) (hname:(fn.name == "runtime.NumGoroutine")=false) (hb:fn.body=some c):SE7 P f:=by
 intro args w
 simp only [callFunc,Sem.run_bind,program,Sem.run]
 simp [hf,hname,hb,Sem.run_pure,Result.andThen]
theorem Sf3 {args:Array vQ} {k:Nat} (hs:args.size<=k):Rl k (args ++ Array.replicate (k - args.size) undef) (S09 args.toList):=by
 refine ⟨by simp;omega,λj=>?_⟩
 have key:∀(l:List vQ) (j:Nat),SH2 l j=l.getD j undef:=by
  intro l
  induction l with
  | nil=>intro j;simp [SH2,undef,Bq]
  | cons v vs ih=>intro j;cases j with
   | zero=>rfl
   | succ j=>simp [SH2,ih]
 unfold S09
 rw [key]
 by_cases h:j < args.size
 ·simp [yL3,Array.getElem?_append_left h]
 ·have h':args.size<=j:=by omega
  simp [yL3,Array.getElem?_append_right h',Array.getElem?_replicate,An,yL5 h']
  split <;> rfl
theorem PV {fn:Func} {t:Array vQ} {ρ:G4} {h0:World} {K:kQ} {rng:Bool} (hR:Rl n t ρ) (ms:List Nat):∀(w:World),ms.Nodup->(∀D ∈ ms,h0.heap.size<=D/\w.heap[D]? = some (.deferred (some [])))->Kw h0 w ->
  (rng=false->ms = [])->(∃h,Ao h0.heap.size h w.heap/\(rng=false->h=w.heap)/\Mk P fn.results.toList ρ h [] λvs=>match rng with | true=>∀h',Ao h0.heap.size h h'->K (Ml vs) h' | false=>K (Ml vs) h) ->
  LeavesInM (FW none) 0 P fn t (onH h0 K) (ms.map mkD) .returning w:=by
 induction ms with
 | nil=>
  intro w _ _ hk _ ⟨h,hs,he,H⟩
  have H2:Mk P fn.results.toList ρ w.heap [] λvs=>K (Ml vs) w.heap:=by
   refine Sm6 hs _ (λvs x=>?_) H
   cases rng with
   | true=>exact x _ hs
   | false=>have:=he rfl;subst this;exact x
  obtain ⟨v,h1,h2⟩:=Tc3 _ (Yd fn t) w (Yb hR H2)
  exact ⟨v,h1,h2,hk⟩
 | cons D ms ih=>
  intro w hnd hms hk hrng ⟨h,hs,he,H⟩
  have hD:=hms D (by simp)
  refine ⟨by simp,.inl ⟨D,w.putObj D (.deferred none),rfl,run_takeDeferred hD.2,?_⟩⟩
  have hDlt:D < w.heap.size:=(Jx.1 hD.2).1
  refine ih _ (Sk8.1 hnd).2 ?_ ?_ ?_ ⟨h,?_,?_,H⟩
  ·intro D' hD'
   have:=hms D' (by simp [hD'])
   have hne:D'≠D:=λe=>by subst e;exact (Sk8.1 hnd).1 hD'
   exact ⟨this.1,(World.putObj_heap_other hne).trans this.2⟩
  ·refine ⟨⟨by rw [World.putObj_size];exact hk.1.1,λE hE=>?_⟩,hk.2⟩
   have hElt:E < h0.heap.size:=(Jx.1 hE).1
   have hne:E≠D:=by omega
   exact (World.putObj_heap_other hne).trans (hk.1.2 E hE)
  ·intro hr;have:=hrng hr;cases this
  ·refine ⟨by rw [World.putObj_size];exact hs.1,λb hb=>?_⟩
   by_cases hbD:b=D
   ·subst hbD
    exfalso
    have h1:=hs.2 b hb
    rw [hD.2] at h1
    rcases hb with hb | hb
    ·omega
    ·exact hb _ h1.symm
   ·exact (World.putObj_heap_other hbD).trans (hs.2 b hb)
  ·intro hr;have:=hrng hr;cases this
theorem Na {k:Nat} (c:Code):∀b,BB c=false->CR k b c=true->CR k false c=true:=by
 induction c with
 | seq x y ihx ihy=>intro b hr ho;simp only [BB,SD5] at hr;simp only [CR,EA] at ho ⊢;exact ⟨ihx b hr.1 ho.1,ihy b hr.2 ho.2⟩
 | cond c x y ihx ihy=>intro b hr ho;simp only [BB,SD5] at hr;simp only [CR,EA] at ho ⊢;exact ⟨ihx b hr.1 ho.1,ihy b hr.2 ho.2⟩
 | block id x ih=>intro b hr ho;exact ih b hr ho
 | loop x ih=>intro b hr ho;exact ih b hr ho
 | scope x ih=>intro b hr ho;exact ih b hr ho
 | rangeFunc g ps as x=>intro b hr ho;simp [BB] at hr
 | region id ops d=>intro b hr ho;exact ho
 | _=>intro b hr ho;rfl
theorem Ud {f:FuncId} {fn:Func} {args:Array vQ} {h:A2} {K:kQ} (hf:P.funcs[f]? = some fn) (hok0:Tc2 P fn args.size=true)
  (H:vc P (Ji fn) (Th5 P fn.results.toList (BB (Ji fn)) h.size K) (S09 args.toList) h):A4 P f args h K:=by
 unfold Tc2 at hok0
 simp only [EA,Bool.not_eq_true'] at hok0
 obtain ⟨⟨⟨⟨hbs,hname⟩,hok⟩,hs⟩,hm⟩:=hok0
 have hs:args.size<=fn.ntmps:=PE hs
 obtain ⟨c,hb⟩:=Se2.1 hbs
 have hc:Ji fn=c:=by unfold Ji;rw [hb];rfl
 rw [hc] at H hok
 refine ⟨Sm8 hf hname hb,λw hw=>?_⟩
 subst hw
 show CallsIn (FW none) 0 P f args w (onH w K)
 refine callsIn_of_wp_marks hf hb trivial ?_ rfl
 cases hr:BB c with
 | true=>
  rw [hr] at H
  refine wpIn_mono (Sf2 (B:=λD=>w.heap.size<=D) hm c none true (λ_=>rfl) hok _ _ w w.heap _ w H (Sf3 hs) rfl (λ_ D hD=>hD) ⟨[],rfl,Ti,λD hD=>by cases hD⟩ (Kw.refl _)) ?_
  rintro e a1 w1 ⟨_,h1⟩
  have fin:∀ρ1,Rl fn.ntmps a1.tmps ρ1->Mj (λD=>w.heap.size<=D) a1.defers w1.heap->Kw w w1->Mk P fn.results.toList ρ1 w1.heap [] (λvs=>∀h',Ao w.heap.size w1.heap h'->K (Ml vs) h')->LeavesInM (FW none) 0 P fn a1.tmps (onH w K) a1.defers .returning w1:=by
   intro ρ1 hR1 ⟨ms,hd1,hd2,hd3⟩ hk1 hq
   rw [hd1]
   exact PV (rng:=true) hR1 ms w1 hd2 hd3 hk1 (λe=>by cases e) ⟨w1.heap,Ao.refl _ _,λ_=>rfl,hq⟩
  cases e with
  | normal=>obtain ⟨ρ1,hR1,hd1,hk1,hq⟩:=h1;exact fin ρ1 hR1 hd1 hk1 hq
  | ret=>obtain ⟨ρ1,hR1,hd1,hk1,hq⟩:=h1;exact fin ρ1 hR1 hd1 hk1 hq
  | exit id=>obtain ⟨ρ1,hR1,hd1,hk1,hq⟩:=h1;exact hq.elim
  | _=>exact h1.elim
 | false=>
  rw [hr] at H
  refine wpIn_mono (Sf2 (B:=λ_=>False) hm c none false (λ_=>rfl) (Na c true hr hok) _ _ w w.heap _ w H (Sf3 hs) rfl (λe=>by cases e) ⟨[],rfl,Ti,λD hD=>by cases hD⟩ (Kw.refl _)) ?_
  rintro e a1 w1 ⟨_,h1⟩
  have fin:∀ρ1,Rl fn.ntmps a1.tmps ρ1->Mj (λ_=>False) a1.defers w1.heap->Kw w w1->Mk P fn.results.toList ρ1 w1.heap [] (λvs=>K (Ml vs) w1.heap)->LeavesInM (FW none) 0 P fn a1.tmps (onH w K) a1.defers .returning w1:=by
   intro ρ1 hR1 ⟨ms,hd1,hd2,hd3⟩ hk1 hq
   have hms:ms = []:=by cases ms with | nil=>rfl | cons D ms=>exact (hd3 D (by simp)).1.elim
   subst hms
   rw [hd1]
   exact PV (rng:=false) hR1 [] w1 hd2 (λD hD=>by cases hD) hk1 (λ_=>rfl) ⟨w1.heap,Ao.refl _ _,λ_=>rfl,hq⟩
  cases e with
  | normal=>obtain ⟨ρ1,hR1,hd1,hk1,hq⟩:=h1;exact fin ρ1 hR1 hd1 hk1 hq
  | ret=>obtain ⟨ρ1,hR1,hd1,hk1,hq⟩:=h1;exact fin ρ1 hR1 hd1 hk1 hq
  | exit id=>obtain ⟨ρ1,hR1,hd1,hk1,hq⟩:=h1;exact hq.elim
  | _=>exact h1.elim
theorem cQ {P:Program} {f:FuncId} {fn:Func} {args:Array Value} {h:A2} {K:kQ} {F:Prop} (hf:P.funcs[f]? = some fn) (H:F) (hok:Tc2 P fn args.size=true:=by kernel_rfl) (e:vc P (Ji fn) (Th5 P fn.results.toList (BB (Ji fn)) h.size K) (S09 args.toList) h=F:=by kernel_rfl):A4 P f args h K:=Ud hf hok (Eq.mpr e H)
end
#print axioms Ud
end
section
theorem Nb {P:Program} {f:FuncId} {args:Array vQ} {W:World} {K:kQ} (H:A4 P f args W.heap K) :
  Calls P f args W λe W'=>∃v,e=.returned v/\K v W'.heap/\W'.os=W.os/\W'.output=W.output:=by
 refine (callsIn_wide.1 (H.2 W rfl)).mono λe W' x=>?_
 cases e with
 | returned v=>exact ⟨v,rfl,x.1,x.2.2.1,x.2.2.2⟩
 | _=>exact x.elim
theorem A0 {P:Program} {f:FuncId} {args:Array vQ} {h:A2} {K:kQ} (H:A4 P f args h K):Aj P (.func (.func f) #[] #[]) args h K:=by
 unfold Aj;simpa using H
theorem FK {P:Program} {f:FuncId} {args cap:Array vQ} {h:A2} {K:kQ} (H:A4 P f (args ++ cap) h K):Aj P (.func (.func f) #[] cap) args h K:=by
 unfold Aj;simpa using H
theorem E2 (b o n:Nat):(⟨b,o,none⟩ : Addr).add n=⟨b,o+n,none⟩:=by unfold Addr.add;split <;> simp_all
theorem KG (a:Addr) (n:Nat):(a.add n).block=a.block:=by unfold Addr.add;split <;> rfl
theorem Z7 (a:Addr) (m n:Nat):(a.add m).add n=a.add (m+n):=by
 unfold Addr.add
 by_cases h1:m=0
 ·subst h1;simp
 ·by_cases h2:n=0
  ·subst h2;simp [h1]
  ·have h3:m+n≠0:=by omega
   simp [h1,h2,h3,Nat.add_assoc]
theorem add_zero (a:Addr):a.add 0=a:=rfl
def G9 (N:Nat) (h h':A2):Prop:=h.size<=h'.size/\∀b,b < N->h'[b]? = h[b]?
theorem G9.refl (N:Nat) (h:A2):G9 N h h:=⟨G0 _,λ_ _=>rfl⟩
theorem G9.trans {N:Nat} {a b c:A2} (x:G9 N a b) (y:G9 N b c):G9 N a c:=⟨R4 x.1 y.1,λi hi=>(y.2 i hi).trans (x.2 i hi)⟩
theorem G9.mono {N M:Nat} {a b:A2} (x:G9 N a b) (h:M<=N):G9 M a b:=⟨x.1,λi hi=>x.2 i (Se1 hi h)⟩
theorem W5 (h:A2) (o:Obj) (b:Nat) (hb:b < h.size):(h.push o)[b]? = h[b]?:=by rw [yL8,A7 (by omega)]
theorem Ap (h:A2) (o:Obj):(h.push o)[h.size]? = some o:=by simp
theorem G9.push {N:Nat} {h h':A2} (x:G9 N h h') (o:Obj) (hN:N<=h'.size):G9 N h (h'.push o):=⟨by have:=x.1;simp;omega,λb hb=>(W5 _ _ _ (by omega)).trans (x.2 b hb)⟩
theorem Ao.cells {N:Nat} {h h':A2} (y:Ao N h h') {b:Nat} {row:Array vQ} {t:TypeId} {f:Nat × Nat} (hb:h[b]? = some (.cells row t f)):h'[b]? = h[b]?:=y.2 b (.inr λu e=>by rw [hb] at e;cases e)
theorem T5 {h h':A2} {a:Addr} (e:h'[a.block]? = h[a.block]?):A3 h' a=A3 h a:=by unfold A3;rw [e]
theorem BS {h:A2} {a:Addr} {v:vQ} (e:A3 h a=some v):a.block < h.size:=by
 unfold A3 at e
 cases hb:h[a.block]? with
 | none=>rw [hb] at e;cases e
 | some o=>exact (Jx.1 hb).1
theorem E5 {h:A2} {b:Nat} {row:Array vQ} {t:TypeId} {f:Nat × Nat} (hb:h[b]? = some (.cells row t f)) (i:Nat):A3 h ⟨b,i,none⟩=row[i]?:=by
 unfold A3;simp only [hb];rfl
theorem Ue {h:A2} {b:Nat} {row:Array vQ} {t:TypeId} (hb:h[b]? = some (.cells row t)) (i:Nat):Eg h ⟨b,i,none⟩=false:=by
 unfold Eg;simp only [hb];simp
theorem C6 {h:A2} {a:Addr} {v:vQ} {K:vQ->Prop} (e:A3 h a=some v) (k:K v):D2 h a K:=by unfold D2;rw [e];exact k
theorem Nf {h:A2} {b i:Nat} {v:vQ} {K:A2->Prop} {row:Array vQ} {t:TypeId} (hb:h[b]? = some (.cells row t)) (hi:i < row.size) (ho:J0 v True)
  (k:∀h',h' = h.setIfInBounds b (.cells (row.setIfInBounds i v) t)->K h'):C7 h ⟨b,i,none⟩ v K:=by
 unfold C7
 refine Ea (λ_=>⟨⟨row[i],?_⟩,Ue hb i,k _ ?_⟩) ho
 ·rw [E5 hb];simp [hi]
 ·unfold setC
  apply yL2
  intro j
  rw [yL7,yL9]
  by_cases e:b=j
  ·subst e
   have hlt:=(Jx.1 hb).1
   rw [hb];simp [hlt,SE5]
  ·simp [e]
theorem U2 {h:A2} {b:Nat} {o:Obj} (hb:b < h.size):(h.setIfInBounds b o)[b]? = some o:=by simp [hb]
theorem V4 {h:A2} {b c:Nat} {o:Obj} (hc:c≠b):(h.setIfInBounds b o)[c]? = h[c]?:=Sj9 (Ne.symm hc)
def N5 (h:A2) (a:rQ) (vs:List vQ):Prop:=∀i v,vs[i]? = some v->∃ad,a=some ad/\A3 h (ad.add i)=some v
theorem N5.keep {h h':A2} {a:rQ} {vs:List vQ} (H:N5 h a vs) (k:∀ad,a=some ad->h'[ad.block]? = h[ad.block]?):N5 h' a vs:=by
 intro i v hi
 obtain ⟨ad,e,hc⟩:=H i v hi
 exact ⟨ad,e,(T5 (by rw [KG];exact k ad e)).trans hc⟩
theorem N5.nil (h:A2) (a:rQ):N5 h a []:=λi v hi=>by simp at hi
def CS (h:A2) (elem:TypeId) (sz:Nat) (a:rQ) (l c:Nat) (xs:List vQ):Prop:=
 xs.length=l*sz/\l<=c/\((a=none/\c=0)\/∃b row,a=some (aQ b)/\h[b]? = some (.cells row elem)/\row.size=c*sz/\row.toList.take (l*sz)=xs)
theorem CS.nil (h:A2) (elem:TypeId) (sz:Nat):CS h elem sz none 0 0 []:=⟨by simp,G0 _,.inl ⟨rfl,rfl⟩⟩
theorem CS.keep {h h':A2} {elem:TypeId} {sz:Nat} {a:rQ} {l c:Nat} {xs:List vQ} (H:CS h elem sz a l c xs) (k:∀ad,a=some ad->h'[ad.block]? = h[ad.block]?):CS h' elem sz a l c xs:=by
 obtain ⟨h1,h2,h3⟩:=H
 refine ⟨h1,h2,h3.imp id ?_⟩
 rintro ⟨b,row,e,hb,r⟩
 exact ⟨b,row,e,(k _ e).trans hb,r⟩
theorem CS.lt {h:A2} {elem:TypeId} {sz:Nat} {a:rQ} {l c:Nat} {xs:List vQ} (H:CS h elem sz a l c xs):∀ad,a=some ad->ad.block < h.size:=by
 rintro ad e
 rcases H.2.2 with ⟨e2,_⟩ | ⟨b,row,e2,hb,_⟩
 ·rw [e] at e2;cases e2
 ·rw [e] at e2;cases e2;exact (Jx.1 hb).1
theorem CS.sees {h:A2} {elem:TypeId} {sz:Nat} {a:rQ} {l c:Nat} {xs:List vQ} (H:CS h elem sz a l c xs):N5 h a xs:=by
 intro i v hi
 obtain ⟨h1,h2,h3⟩:=H
 have hlt:i < xs.length:=(IW.1 hi).1
 rcases h3 with ⟨_,hc⟩ | ⟨b,row,e,hb,hs,ht⟩
 ·have:l=0:=by omega
  subst this;simp at h1;subst h1;simp at hlt
 ·refine ⟨_,e,?_⟩
  rw [E2,E5 hb,J6,<- GQ]
  rw [<- ht,GV] at hi
  split at hi
  ·exact hi
  ·cases hi
theorem Em {h:A2} {ad:Addr} (vs:List vQ):∀(i:Nat) (acc:List vQ) (K:List vQ->Prop),(∀j v,vs[j]? = some v->A3 h (ad.add (i+j))=some v)->K (acc.reverse ++ vs)->ldN h ad i vs.length acc K:=by
 induction vs with
 | nil=>intro i acc K _ k;show K acc.reverse;simpa using k
 | cons v vs ih=>
  intro i acc K hc k
  refine C6 (v:=v) (hc 0 v rfl) (ih (i+1) (v :: acc) K (λj u hj=>?_) (by simpa using k))
  rw [show i+1+j=i+(j+1) by omega];exact hc (j+1) u hj
theorem Ir (ys:List vQ):∀(h:A2) (b off i:Nat) (row:Array vQ) (t:TypeId) (K:A2->Prop),h[b]? = some (.cells row t)->off+i+ys.length<=row.size->(∀y ∈ ys,J0 y True) ->
  (∀row',row'.size=row.size->(∀j,row'[j]? = if off+i<=j/\j < off+i+ys.length then ys[j - (off+i)]? else row[j]?)->K (h.setIfInBounds b (.cells row' t)))->OH h ⟨b,off,none⟩ i ys K:=by
 induction ys with
 | nil=>
  intro h b off i row t K hb hs ho k
  have:=k row rfl (λj=>by rw [A7 (by simp)])
  have e:h.setIfInBounds b (.cells row t)=h:=by
   apply yL2;intro j
   rw [yL9]
   have hlt:=(Jx.1 hb).1
   by_cases ej:b=j
   ·subst ej;rw [hb];simp [hlt]
   ·simp [ej]
  rw [e] at this;exact this
 | cons y ys ih=>
  intro h b off i row t K hb hs ho k
  simp only [Jy] at hs
  have hlt:=(Jx.1 hb).1
  show C7 h ((⟨b,off,none⟩ : Addr).add i) y _
  rw [E2]
  refine Nf (b:=b) (i:=off+i) hb (by omega) (ho y (by simp)) ?_
  rintro h' rfl
  refine ih _ b off (i+1) (row.setIfInBounds (off+i) y) t K (U2 hlt) (by simp;omega) (λz hz=>ho z (by simp [hz])) ?_
  intro row' h1 h2
  have:=k row' (by rw [h1];simp) (λj=>by
   rw [h2 j]
   simp only [Jy]
   by_cases c1:off+(i+1)<=j/\j < off+(i+1)+ys.length
   ·rw [A8 c1,A8 (by omega)]
    rw [show j - (off+i)=(j - (off+(i+1)))+1 by omega];simp
   ·rw [A7 c1]
    by_cases c2:j=off+i
    ·subst c2
     rw [A8 (by omega)]
     simp only [Nat.sub_self]
     rw [yL9];simp;omega
    ·rw [A7 (by omega),Sj9 (by omega)])
  simpa using this
theorem Gi (need cap:Nat) (hn:cap < need):Builtin.nextslicecap need cap<=2*need+512:=by
 unfold Builtin.nextslicecap
 split
 ·omega
 ·split
  ·omega
  ·have:∀(r c:Nat),c<=need->Builtin.growBy need r c<=2*need+512:=by
    intro r
    induction r with
    | zero=>intro c hc;unfold Builtin.growBy;omega
    | succ r ih=>
     intro c hc
     unfold Builtin.growBy
     split
     ·omega
     ·by_cases h2:c+(c+768) / 4<=need
      ·exact ih _ h2
      ·cases r with
       | zero=>unfold Builtin.growBy;omega
       | succ r=>unfold Builtin.growBy;rw [A8 (by omega)];omega
   exact this 4 cap (by omega)
theorem AT (z:Array vQ) (n:Nat):(Builtin.zeroCells z n).size=n*z.size:=by unfold Builtin.zeroCells;simp
theorem FL {P:Program} {t elem:TypeId} {z:vQ} {h:A2} {a a2:rQ} {l c n n2:Nat} {xs ys:List vQ} {K:kQ}
  (hu:Be P t=.slice elem) (hth:L0 P elem=true) (hz:GZ P elem=some z) (hzs:z.cells.size=M2 P elem)
  (ho:CS h elem (M2 P elem) a l c xs) (hs:N5 h a2 ys) (hn:ys.length=n*M2 P elem) (hone:∀y ∈ ys,J0 y True) (hb0:0 < EL P elem) (hb:(2*(l+n)+512)*EL P elem<=2 ^ 48)
  (H:∀a' c' h',CS h' elem (M2 P elem) a' (l+n) c' (xs ++ ys)->h.size<=h'.size->(∀b,b < h.size->(∀ad,a=some ad->ad.block≠b)->h'[b]? = h[b]?)->(a' = a\/a' = some (aQ h.size)/\G9 h.size h h')->K (.slice a' (l+n) c') h') :
  U4 P #[t,t] t #[.slice a l c,.slice a2 n n2] h K:=by
 have hu':=E4 hu (by simp)
 obtain ⟨info,hinfo⟩:=CO hth
 have hbyt:info.bytes=EL P elem:=by unfold EL;rw [hinfo]
 have first:∀(F:Array vQ->A2->Prop),F ys.toArray h->hp P (Builtin.firstCells (M2 P elem) n (.slice a2 n n2)) F h:=by
  intro F k
  cases a2 with
  | none=>
   have:ys = []:=by
    cases ys with
    | nil=>rfl
    | cons y ys=>obtain ⟨ad,e,_⟩:=hs 0 y rfl;cases e
   subst this;exact k
  | some ad=>
   show hp P (loadCells ad (n*M2 P elem)) F h
   refine M8 ad _ 0 [] F ?_
   rw [<- hn]
   refine Em ys 0 [] _ (λj v hj=>?_) (by simpa using k)
   obtain ⟨ad',e,hc⟩:=hs j v hj
   cases e;rwa [J6]
 unfold U4 Builtin.append_
 simp only [EC,Mh,QX,B6,E0,C8 hu',J7 hth,Cd,if_false]
 show hp P (Builtin.lenOf _) _ h
 simp only [Builtin.lenOf,E0]
 rw [Ft]
 obtain ⟨hl,hlc,hor⟩:=ho
 split
 ·rename_i hcap
  simp only [B6]
  show hp P (if (!false)=true then _ else _) _ h
  refine first _ ?_
  rcases hor with ⟨rfl,rfl⟩ | ⟨b,row,rfl,hb2,hrs,hrt⟩
  ·have e1:l+n=0:=by omega
   have e2:n=0:=by omega
   subst e2
   have:ys = []:=by simpa using hn
   subst this
   simp only [B6,E0]
   refine H none 0 h ⟨by simp [hl],by omega,.inl ⟨rfl,rfl⟩⟩ (G0 _) (λ_ _ _=>rfl) (.inl rfl)
  ·simp only [B6]
   have hlt:=(Jx.1 hb2).1
   have hmul:(l+n)*M2 P elem<=c*M2 P elem:=EJ _ hcap
   rw [BA] at hmul
   refine Y9 _ _ h 0 _ ?_
   rw [E2]
   refine Ir ys h b _ 0 row elem _ hb2 (by omega) hone ?_
   intro row' h1 h2
   simp only [E0]
   refine H (some (aQ b)) c _ ⟨by simp [hl,hn,BA],hcap,.inr ⟨b,row',rfl,U2 hlt,by rw [h1,hrs],?_⟩⟩ (by simp) (λb' hb' hne=>V4 (Ne.symm (hne _ rfl))) (.inl rfl)
   apply Tc
   intro j
   rw [GV,GQ,h2 j]
   rw [BA]
   by_cases c1:j < l*M2 P elem
   ·rw [A8 (by omega),A7 (by omega),OB (by omega),<- hrt,GV,A8 c1,GQ]
   ·rw [MH (by omega)]
    by_cases c2:j < l*M2 P elem+n*M2 P elem
    ·rw [A8 c2,A8 (by omega)]
     congr 1;omega
    ·rw [A7 c2]
     symm;apply SD9;omega
 ·rename_i hcap
  simp only [B6,E0]
  have hbound:¬ Builtin.nextslicecap (l+n) c*info.bytes > 2 ^ 48:=by
   rw [hbyt]
   have:=R4 (EJ (EL P elem) (Gi (l+n) c (by omega))) hb
   omega
  simp only [B6,E0,T7 hinfo,Ft]
  rw [A7 (by rw [hbyt];intro x;rcases x.2 with y | y <;> first | exact y | omega),A7 hbound]
  show ∀tp,_
  intro tp
  rw [A7 (by simp [Question.forced])]
  obtain ⟨cap,hcp⟩ : ∃cap,cap=(Question.appendCap (l+n) c elem).cut tp:=⟨_,rfl⟩
  have hcap2:l+n<=cap:=by rw [hcp];simp [Question.cut]
  rw [<- hcp]
  rw [show (Sem.pure cap:Sem Nat)=pure cap from rfl]
  simp only [B6,E0,T7 hinfo,Ej]
  have old:∀(F:Array vQ->A2->Prop),F xs.toArray h->hp P (Builtin.firstCells (M2 P elem) l (.slice a l c)) F h:=by
   intro F k
   rcases hor with ⟨rfl,rfl⟩ | ⟨b,row,rfl,hb2,hrs,hrt⟩
   ·have:l=0:=by omega
    subst this
    have:xs = []:=by simpa using hl
    subst this;exact k
   ·show hp P (loadCells (aQ b) (l*M2 P elem)) F h
    refine M8 _ _ 0 [] F ?_
    rw [<- hl]
    refine Em xs 0 [] _ (λj v hj=>?_) (by simpa using k)
    rw [E2,E5 hb2,J6,J6,<- GQ]
    rw [<- hrt,GV] at hj
    split at hj
    ·exact hj
    ·cases hj
  refine old _ ?_
  rw [B6,A8 (show (!false)=true from rfl)]
  refine first _ ?_
  simp only [B6]
  simp only [R5 hz]
  show K (.slice (some (aQ h.size)) (l+n) cap) (h.push _)
  have hzc:(Builtin.zeroCells z.cells (cap - (l+n))).size=(cap - (l+n))*M2 P elem:=by rw [AT,hzs]
  refine H _ cap _ ⟨by simp [hl,hn,BA],hcap2,.inr ⟨h.size,_,rfl,Ap _ _,?_,?_⟩⟩ (by simp) (λb hb' _=>W5 _ _ _ hb') (.inr ⟨rfl,by simp,λb hb'=>W5 _ _ _ hb'⟩)
  ·simp only [Array.size_append,hzc,PC,hl,hn,<- BA]
   congr 1;omega
  ·simp only [SD3,Se0]
   rw [List.take_left' (by simp [hl,hn,BA])]
theorem Uf {P:Program} {t elem:TypeId} {z:vQ} {h:A2} {a a2:rQ} {l c n n2:Nat} {xs ys:List vQ} {K:kQ}
  (hu:Be P t=.slice elem) (hth:L0 P elem=true) (hz:GZ P elem=some z) (hzs:z.cells.size=M2 P elem)
  (ho:CS h elem (M2 P elem) a l c xs) (hs:N5 h a2 ys) (hn:ys.length=n*M2 P elem) (hone:∀y ∈ ys,J0 y True) (hb0:0 < EL P elem) (hb:(2*(l+n)+512)*EL P elem<=2 ^ 48)
  (H:∀a' c' h',CS h' elem (M2 P elem) a' (l+n) c' (xs ++ ys)->h.size<=h'.size->(∀b,b < h.size->(∀ad,a=some ad->ad.block≠b)->h'[b]? = h[b]?)->(a' = a\/a' = some (aQ h.size))->K (.slice a' (l+n) c') h') :
  U4 P #[t,t] t #[.slice a l c,.slice a2 n n2] h K:=
 FL hu hth hz hzs ho hs hn hone hb0 hb λa' c' h' x1 x2 x3 x4=>H a' c' h' x1 x2 x3 (x4.imp id λx=>x.1)
end
end Go.Proofs.YtahpbclnkofhfaaGreat
