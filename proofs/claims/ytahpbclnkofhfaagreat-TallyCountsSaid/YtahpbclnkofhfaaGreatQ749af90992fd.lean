/- Part 2 of what the proofs of this seat rest on: see the last text of the claim. -/
import Derived.Test.YtahpbclnkofhfaaGreatQ6be555b23c0c
set_option linter.unusedSimpArgs false
set_option linter.unusedVariables false
set_option linter.ambiguousOpen false
set_option maxRecDepth 20000
namespace Go.Proofs.YtahpbclnkofhfaaGreat
section
section
variable {P:Program} {n:Nat} {r:Option Nat}
theorem BR {b:Frame} {a:Act} {k:List Item} {cs:List Frame} {w:World} {c:Code}:step P (lone (b.atR a (.code (.scope c) :: k)) cs w)=.next (lone (b.atR a (.code c :: .inScope c :: k)) cs w):=
 step_lone_go (by simp [stepG,stepG.exec,Frame.atR])
theorem ON {b:Frame} {a:Act} {k:List Item} {cs:List Frame} {w:World} {c:Code}:step P (lone (b.atR a (.inScope c :: k)) cs w)=.next (lone (b.atR a k) cs w):=
 step_lone_go (by simp [stepG,stepG.exec,Frame.atR])
theorem TU {F:Fence} {m:Nat} {c:Code} {Q:Exit->Act->World->Prop} {a:Act} {w:World} (hg:∀l a w,¬ Q (.goto l) a w) (h:c.wpIn F m P Q a w):(Code.scope c).wpIn F m P Q a w:=by
 intro b k cs hro hb hr
 have h0:(lone (b.atR a (.code (.scope c) :: k)) cs w).fenced P F:=fenced_calm hb hr rfl
 obtain ⟨e,a₁,w₁,hq,harr⟩:=h b (.inScope c :: k) cs hro hb hr
 have hx:∀id,exitTo id (.inScope c :: k)=exitTo id k:=λid=>by simp [exitTo]
 cases e with
 | normal=>exact ⟨.normal,a₁,w₁,hq,.head h0 BR (StepsIn.trans harr (.one (fenced_calm (fr:=b.atR a₁ (.inScope c :: k)) hb hr rfl) ON))⟩
 | exit id=>
  exact ⟨.exit id,a₁,w₁,hq,λk' hk=>.head h0 BR (harr.1 k' (by rw [hx];exact hk)),
   λhr' hk=>let ⟨k₁,h1,h2⟩:=harr.2 hr' (by rw [hx];exact hk);⟨k₁,h1,.head h0 BR h2⟩⟩
 | goto l=>exact (hg _ _ _ hq).elim
 | ret=>exact ⟨.ret,a₁,w₁,hq,.of_steps (.one h0 BR) harr⟩
 | panic ch=>exact ⟨.panic ch,a₁,w₁,hq,.of_steps (.one h0 BR) harr⟩
 | outgrown=>exact ⟨.outgrown,a₁,w₁,hq,.of_steps (.one h0 BR) harr⟩
def CR (n:Nat):Bool->Code->Bool
 | _,.region _ ops _=>Lh n ops
 | b,.seq x y | b,.cond _ x y=>CR n b x && CR n b y
 | b,.block _ x | b,.loop x | b,.scope x=>CR n b x
 | b,.rangeFunc _ ps as x=>b && ps.toList.all (λp=>decide (p < n)) && (match MP as with | some ops=>ops.all (KA n) | none=>false) && CR n false x
 | _,_=>true
def mkD (D:Nat):Deferred:={ target:=.collected D,args:=#[] }
def Mj (B:Nat->Prop) (ds:List Deferred) (h:A2):Prop:=∃ms:List Nat,ds=ms.map mkD/\ms.Nodup/\∀D ∈ ms,B D/\h[D]? = some (.deferred (some []))
theorem Mj.kd {B:Nat->Prop} {ds:List Deferred} {h h':A2} (H:Mj B ds h) (hk:Kd h h'):Mj B ds h':=by
 obtain ⟨ms,h1,h2,h3⟩:=H;exact ⟨ms,h1,h2,λD hD=>⟨(h3 D hD).1,hk.2 D (h3 D hD).2⟩⟩
def wQ (n:Nat) (B:Nat->Prop) (h0:World) (Q:Exit->G4->A2->Prop):Exit->Act->World->Prop:=λe a w=>
 match e with
 | .panic _ | .outgrown | .goto _=>False
 | e=>∃ρ,Rl n a.tmps ρ/\Mj B a.defers w.heap/\Kw h0 w/\Q e ρ w.heap
theorem TV {B:Nat->Prop} {h0:World} {Q:Exit->G4->A2->Prop} {e:Exit} {a:Act} {w:World} {ρ:G4} (he:e=.normal\/e=.ret\/∃id,e=.exit id) (hR:Rl n a.tmps ρ) (hd:Mj B a.defers w.heap) (hk:Kw h0 w) (hq:Q e ρ w.heap):wQ n B h0 Q e a w:=by
 rcases he with rfl | rfl | ⟨id,rfl⟩ <;> exact ⟨ρ,hR,hd,hk,hq⟩
theorem MY {F:List vQ->Prop}:∀(k:Nat) (F:List vQ->Prop),S06 k F->∀vs:List vQ,vs.length=k->F vs
 | 0,F,H,vs,hv=>by cases vs <;> simp at hv;exact H
 | k+1,F,H,vs,hv=>by
  cases vs with
  | nil=>simp at hv
  | cons v vs=>exact MY (F:=F) k (λvs=>F (v :: vs)) (H v) vs (by simpa using hv)
theorem Sm0 (ρ:G4) (vars:List Nat) (j:Nat) (d:vQ):Se6 vars (vars.map ρ) j d=if j ∈ vars then ρ j else d:=by
 induction vars with
 | nil=>rfl
 | cons x xs ih=>
  simp only [GY,Se6]
  cases hb:Nat.beq j x with
  | true=>
   have e:=PD hb
   subst e;simp
  | false=>
   have e:j≠x:=λe=>by subst e;simp at hb
   simp [ih,e]
theorem SG6 (j:Nat) (l:List Nat):S07 j l=decide (j ∈ l):=by
 induction l with
 | nil=>rfl
 | cons x xs ih=>
  simp only [S07]
  cases hb:Nat.beq j x with
  | true=>have e:=PD hb;subst e;simp
  | false=>
   have e:j≠x:=λe=>by subst e;simp at hb
   simp [ih,e]
theorem Ln {ρ ρ':G4} {ws vars:List Nat} (hw:∀j,j ∉ ws->ρ' j=ρ j) (hv:∀j ∈ vars,j ∈ ws):Rh ρ ws vars (vars.map ρ') ρ' = ρ':=by
 funext j
 unfold Rh
 rw [Sm0,SG6]
 by_cases h1:j ∈ vars
 ·simp [h1]
 ·by_cases h2:j ∈ ws
  ·simp [h1,h2]
  ·simp [h1,h2,hw j h2]
theorem SG7 {n j:Nat} (l:List Nat):j ∈ SF5 n l↔j=n\/j ∈ l:=by
 induction l with
 | nil=>simp [SF5]
 | cons m l ih=>
  unfold SF5
  split
  ·simp
  ·split
   ·rename_i e;subst e;simp
   ·simp only [ED,ih]
    constructor
    ·rintro (h | h | h) <;> simp [h]
    ·rintro (h | h | h) <;> simp [h]
theorem Z2 {j:Nat} (a b:List Nat):j ∈ Ac a b↔j ∈ a\/j ∈ b:=by
 unfold Ac
 induction a with
 | nil=>simp
 | cons m a ih=>simp [SG7,ih,or_assoc]
theorem Jh {ops:Array Oper} (i:Nat) (o:Oper) (hi:ops[i]? = some o) (d:Nat) (hd:o.dst=some d):d ∈ Ac (He ops) []:=by
 rw [Z2];left
 unfold He
 exact Th.2 ⟨o,Xs.2 (Array.mem_of_getElem? hi),hd⟩
theorem Sm1 {ops:Array Oper} (d:Nat) (hd:d ∈ Ac (SF4 ops) []):d ∈ Ac (He ops) []:=by
 rw [Z2] at *
 refine hd.imp (λh=>?_) id
 unfold SF4 at h;unfold He
 obtain ⟨o,ho,h2⟩:=Th.1 h
 refine Th.2 ⟨o,ho,?_⟩
 split at h2 <;> first | exact h2 | cases h2
theorem TW {ops:Array Oper} (d:Nat) (hd:d ∈ Ac (Rg ops) []):d ∈ Ac (He ops) []:=by
 rw [Z2] at *
 refine hd.imp (λh=>?_) id
 unfold Rg at h;unfold He
 obtain ⟨o,ho,h2⟩:=Th.1 h
 refine Th.2 ⟨o,ho,?_⟩
 split at h2 <;> first | exact h2 | cases h2
theorem TX (c:Code):∀d ∈ DL c,d ∈ CE c:=by
 induction c with
 | region id ops draw=>exact Sm1
 | seq a b iha ihb=>intro d hd;simp only [DL,CE,Z2] at *;exact hd.imp (iha d) (ihb d)
 | cond c a b iha ihb=>intro d hd;simp only [DL,CE,Z2] at *;exact .inr (hd.imp (iha d) (ihb d))
 | block id b ih=>exact ih
 | loop b ih=>exact ih
 | scope b ih=>exact ih
 | _=>intro d hd;simp [DL] at hd
theorem Sm2 (c:Code):∀d ∈ Ac (DL c) (C2 c),d ∈ CE c:=by
 intro d hd
 rw [Z2] at hd
 rcases hd with hd | hd
 ·exact TX c d hd
 ·cases c <;> simp [C2] at hd
  exact TW d hd
theorem Sf1 {ws:List Nat} {t t':Array vQ} {ρ ρ':G4} (hs:GJ ws t t') (hR:Rl n t ρ) (hR':Rl n t' ρ'):∀j,j ∉ ws->ρ' j=ρ j:=λj hj=>by
 rw [<- hR'.get,<- hR.get];exact hs j hj
theorem MZ {ρ:G4} {c:Operand} {b:Bool} (hc:MO ρ c=.bool b):Ri ρ c b=ρ:=by
 cases c with
 | tmp d=>exact TK hc
 | _=>rfl
def wS (n:Nat) (B:Nat->Prop) (h0:World) (ws:List Nat) (t:Array vQ) (Q:Exit->G4->A2->Prop):Exit->Act->World->Prop:=λe a w=>GJ ws t a.tmps/\wQ n B h0 Q e a w
theorem Sm3 (h:A2) (cs:Array vQ) (t:TypeId) (k:Nat) (v:vQ):setC (h.push (.cells cs t)) ⟨h.size,k,none⟩ v=h.push (.cells (cs.setIfInBounds k v) t):=by
 apply yL2
 intro i
 rw [getElem?_setC]
 by_cases e:h.size=i
 ·subst e;simp [SE5]
 ·simp only [A7 e,yL8]
  have:i≠h.size:=λx=>e x.symm
  simp [this]
theorem TY (h:A2) (cs:Array vQ) (t:TypeId) (k:Nat):A3 (h.push (.cells cs t)) ⟨h.size,k,none⟩=cs[k]?:=by
 unfold A3;simp
theorem OP (h:A2) (cs:Array vQ) (t:TypeId) (k:Nat):Eg (h.push (.cells cs t)) ⟨h.size,k,none⟩=false:=by
 unfold Eg;simp
theorem SG8 (h:A2) (t:TypeId) (vs:List vQ):∀(cs:List vQ) (k:Nat) (F:A2->Prop),(∀v ∈ vs,v.cells=#[v]/\∀X:Prop,X->J0 v X)->k+vs.length<=cs.length ->
  F (h.push (.cells (Ce cs k vs).toArray t))->OH (h.push (.cells cs.toArray t)) (aQ h.size) k vs F:=by
 induction vs with
 | nil=>intro cs k F _ _ H;exact H
 | cons v vs ih=>
  intro cs k F hv hk H
  have ha:((aQ h.size) : Addr).add k=⟨h.size,k,none⟩:=by
   unfold Addr.add;split
   ·rename_i e;rw [e]
   ·simp
  unfold OH
  rw [ha]
  refine (hv v (by simp)).2 _ ⟨⟨cs[k]'(by simp at hk;omega),?_⟩,OP _ _ _ _,?_⟩
  ·rw [TY];simp
  ·rw [Sm3]
   have:=ih (cs.set k v) (k+1) F (λv hv'=>hv v (by simp [hv'])) (by simp at hk ⊢;omega) H
   simpa using this
theorem SG9 {X:Prop} (cs:List vQ) (H:Tc0 cs X):X/\∀v ∈ cs,v.cells=#[v]/\∀Y:Prop,Y->J0 v Y:=by
 induction cs with
 | nil=>exact ⟨H,λv hv=>by cases hv⟩
 | cons c cs ih=>
  have h1:=ih (Tq H)
  refine ⟨h1.1,λv hv=>?_⟩
  rcases ED.1 hv with rfl | hv
  ·exact ⟨(IZ H).1,λY y=>Ea (λ_=>y) H⟩
  ·exact h1.2 v hv
theorem Rq (vs:List vQ):∀(cs:List vQ) (k:Nat),k+vs.length=cs.length->Ce cs k vs=cs.take k ++ vs:=by
 induction vs with
 | nil=>intro cs k hk;simp at hk;simp [Ce,hk]
 | cons v vs ih=>
  intro cs k hk
  simp at hk
  simp only [Ce]
  rw [ih (cs.set k v) (k+1) (by simp;omega)]
  rw [Ab (by simp;omega)]
  simp [List.take_set_of_le]
theorem XX {ops:Array Oper} {K K':G4->A2->Prop} (hk:∀ρ h,K ρ h->K' ρ h) (l:List Oper):∀ {ρ:G4} {h:A2},II P ops l ρ h K->II P ops l ρ h K':=by
 induction l with
 | nil=>intro ρ h H;exact hk _ _ H
 | cons o l ih=>
  intro ρ h H
  have key:∀(g:Option (Nat × Bool)) (yes no yes' no':G4->Prop),(∀ρ,yes ρ->yes' ρ)->(∀ρ,no ρ->no' ρ)->∀ρ,Gd ops ρ g yes no->Gd ops ρ g yes' no':=by
   intro g yes no yes' no' hy hn ρ x
   unfold Gd at *
   cases g with
   | none=>exact hy _ x
   | some g=>
    obtain ⟨j,want⟩:=g
    simp only at *
    cases hd:(ops[j]?).bind (·.dst) with
    | none=>rw [hd] at x;exact hn _ x
    | some d=>
     rw [hd] at x
     simp only at *
     unfold XE at *
     split at x
     ·refine TM ?_ ?_ x <;> cases want <;> first | exact hy _ | exact hn _
     ·exact hn _ x
  exact key _ _ _ _ _ (λρ=>JJ λv h'=>SG3 λv=>ih) (λρ=>ih) ρ H
theorem XY {ops:Array Oper} (k:Nat):∀(l:List Oper),l.length<=k->∀ {ρ:G4} {h:A2} {F:G4->List Obj->Prop},JG P l ρ h.size F->II P ops l ρ h λρ' h'=>∃os,F ρ' os/\h' = EP h os:=by
 induction k with
 | zero=>
  intro l hl ρ h F H
  have:l = []:=Xx.1 (by omega)
  subst this
  exact ⟨[],H,rfl⟩
 | succ k ih=>
  intro l hl ρ h F H
  cases l with
  | nil=>exact ⟨[],H,rfl⟩
  | cons o rest=>
   obtain ⟨dst,op,type,pos,after,guard⟩:=o
   cases guard with
   | some g=>cases op <;> exact (show False by unfold JG at H;first | exact H | (split at H <;> simp_all)).elim
   | none=>
    cases op with
    | assign x=>exact Ll (λv=>ih rest (by simp at hl;omega)) H
    | alloc t=>
     cases dst with
     | none=>exact (show False by unfold JG at H;first | exact H | (split at H <;> simp_all)).elim
     | some d=>
      cases rest with
      | nil=>exact (show False by unfold JG at H;first | exact H | (split at H <;> simp_all)).elim
      | cons o' rest=>
       obtain ⟨dst',op',type',pos',after',guard'⟩:=o'
       cases dst' with
       | some d'=>exact (show False by unfold JG at H;first | exact H | (split at H <;> simp_all)).elim
       | none=>
        cases guard' with
        | some g=>exact (show False by unfold JG at H;first | exact H | (split at H <;> simp_all)).elim
        | none=>
         cases op' with
         | store t' ad y=>
          cases ad with
          | tmp d'=>
           simp only [JG] at H
           split at H
           ·rename_i hc
            obtain ⟨rfl,rfl,hth,hz,hzl⟩:=hc
            obtain ⟨z,hz⟩:=JE hz
            obtain ⟨H,fcs⟩:=EQ H
            split at H
            ·rename_i hlen
             obtain ⟨H,hone⟩:=SG9 _ H
             simp only [II,Gd]
             unfold Fs
             simp only [hz,Cb,tyO]
             have e:MO (Xo ρ d (.pointer (some (aQ h.size)))) (.tmp d)=.pointer (some (aQ h.size)):=El _ _ _
             rw [e]
             simp only [F3]
             refine fcs _ ?_
             rw [A8 ⟨hth,hlen⟩]
             have hzc:z.cells=(Bp P t).toArray:=(Im hz).symm
             rw [hzc]
             refine SG8 _ _ _ _ _ _ hone (by rw [hlen,hzl];omega) ?_
             rw [Rq _ _ _ (by rw [hlen,hzl];omega)]
             simp only [List.take_zero,OG]
             have:=ih rest (by simp at hl;omega) (h:=h.push (.cells (MO (Xo ρ d (.pointer (some (aQ h.size)))) y).cells.toList.toArray t)) (by rw [SD2];exact H)
             refine XX (λρ' h' x=>?_) _ this
             obtain ⟨os,h1,h2⟩:=x
             exact ⟨_,h1,h2⟩
            ·exact H.elim
           ·exact H.elim
          | _=>exact (show False by unfold JG at H;first | exact H | (split at H <;> simp_all)).elim
         | _=>exact (show False by unfold JG at H;first | exact H | (split at H <;> simp_all)).elim
    | _=>exact (show False by unfold JG at H;first | exact H | (split at H <;> simp_all)).elim
theorem XZ (h:A2) (os:List Obj):EP h os=h ++ os.toArray:=by
 induction os generalizing h with
 | nil=>simp [EP]
 | cons o os ih=>simp [EP,ih]
theorem Sm4 (h:A2) (os:List Obj) (l:Nat) (o:Obj) (hl:l < h.size):(EP h os).setIfInBounds l o=EP (h.setIfInBounds l o) os:=by
 induction os generalizing h with
 | nil=>rfl
 | cons x os ih=>
  simp only [EP]
  rw [ih _ (by simp;omega)]
  congr 1
  apply yL2
  intro i
  simp only [yL9,yL8,SD2,Array.size_setIfInBounds]
  by_cases e:l=i
  ·subst e
   have h1:l≠h.size:=by omega
   have h2:l < h.size+1:=by omega
   simp [hl,h1,h2]
  ·simp [e]
theorem ER {N M l:Nat} {h:A2} {o:Obj} (h1:N<=l) (h2:l < M):OK N M h (h.setIfInBounds l o):=by
 refine ⟨by simp,λb hb hor=>?_⟩
 have:l≠b:=by omega
 exact Sj9 this
theorem SH0 (vs:Array vQ) (ps:List Nat):∀(i:Nat) (t:Array vQ) (ρ:G4) ,Rl n t ρ->(∀p ∈ ps,p < n)->i+ps.length=vs.size ->
  Rl n ((ps.zip (vs.toList.drop i)).foldl (λt (x:Tmp × vQ)=>t.setIfInBounds x.1 x.2) t) (PO ρ vs ps i):=by
 induction ps with
 | nil=>intro i t ρ hR _ _;exact hR
 | cons p ps ih=>
  intro i t ρ hR hp1 hi
  simp at hi
  have hlt:i < vs.toList.length:=by simp;omega
  rw [SZ5 hlt]
  simp only [List.zip_cons_cons,Te,PO]
  have e:vs.getD i Bq=vs.toList[i]:=by simp [yL3,show i < vs.size by omega]
  refine ih (i+1) _ _ ?_ (λq hq=>hp1 q (by simp [hq])) (by omega)
  rw [e]
  exact (Rl.put (a:=⟨t,[]⟩) hR (d:=some p) (vs.toList[i]) (λj hj=>by cases hj;exact hp1 p (by simp)))
theorem TZ {r:Option Nat} {as:Code} {ops:List Oper} (hops:MP as=some ops) (hoks:ops.all (KA n)=true) {ρ:G4} {h:A2} {K:G4->A2->Prop} (H:∀opsA,II P opsA ops ρ h K)
  {a:Act} {w:World} (hR:Rl n a.tmps ρ) (hw:w.heap=h) {next:Act->World->Prop}
  (hnext:∀ρ' a' w',K ρ' w'.heap->Rl n a'.tmps ρ'->a'.defers=a.defers->Kw w w'->next a' w'):as.wpIn (FW r) 0 P (Exit.then next (λ_ _ _=>False)) a w:=by
 cases as with
 | skip=>
  cases hops
  subst hw
  exact wpIn_skip (hnext ρ a w (H #[]) hR rfl (Kw.refl _))
 | region id opsA draw=>
  cases draw with
  | true=>cases hops
  | false=>
   cases hops
   refine wpIn_region ?_
   have hok:Lh n opsA=true:=hoks
   have:=IK (r:=r) (Q:=Exit.then next (λ_ _ _=>False)) hok (ws:=Ac (He opsA) []) (λi o hi=>Jh i o hi) opsA.toList 0 (by simp) ρ h a w (H opsA) hR hw
    (λρ' a' w' hk hR' _ hd' hkd'=>hnext ρ' a' w' hk hR' hd' hkd')
   rw [Sk0,<- List.range_eq_range'] at this
   exact this
 | _=>cases hops
theorem Sm5 (h:A2) (os:List Obj) (b:Nat) (hb:b < h.size):(EP h os)[b]? = h[b]?:=by
 rw [XZ,Array.getElem?_append_left hb]
theorem SH1 (os:List Obj):∀(h:A2),Kd h (EP h os):=by
 induction os with
 | nil=>exact λh=>Kd.refl _
 | cons o os ih=>exact λh=>(Kd.push _ _).trans (ih _)
theorem Ya {g : Operand} {ps : Array Tmp} {as x : Code} {ops : List Oper} (hops : MP as = some ops) (hps : ∀ p ∈ ps.toList, p < n) (hoks : ops.all (KA n) = true)
    {Q : Exit -> G4 -> A2 -> Prop} {ρ : G4} {h0 : World} {a : Act} {w : World} {B : Nat -> Prop}
    (hbody : ∀ (l : Nat) (K : Exit -> A2 -> Prop) (ρ1 : G4) (h1 : A2) (a1 : Act) (w1 : World), vc P x (fun e _ h' => K e h') ρ1 h1 -> Rl n a1.tmps ρ1 -> a1.defers = [] -> w1.heap = h1 ->
      x.wpIn (FW (some l)) 0 P (fun e _ w' => (match e with | .panic _ | .outgrown | .goto _ => False | _ => True) /\ K e w'.heap /\ Kw w1 w') a1 w1)
    (H : Se7 P (MO ρ g) ps.size w.heap
      (fun K vs h' => JG P ops (PO ρ vs ps.toList 0) h'.size fun ρ1 os => vc P x (fun e _ h'' => K e h'') ρ1 (EP h' os))
      (fun h' => Q .normal ρ h') (fun e h' => Q e ρ h'))
    (hR : Rl n a.tmps ρ) (hB : ∀ D, w.heap.size <= D -> B D) (hd : Mj B a.defers w.heap) (hk : Kw h0 w) (ws : List Nat) :
    (Code.rangeFunc g ps as x).wpIn (FW none) 0 P (wS n B h0 ws a.tmps Q) a w := by
  obtain ⟨m, xs, Ev, I, X, hfv, hseq, hsz, hev, hok, hround, hdone, hstop⟩ := H
  refine wpIn_rangeFunc ?_
  intro fn hfn
  obtain ⟨rec, hrec⟩ : ∃ rec : LoopState -> Option Code -> Loop, rec = fun st pe => { state := st, pending := pe, fn, tmps := a.tmps, params := ps, assign := as, body := x, defers := w.heap.size } := ⟨_, rfl⟩
  obtain ⟨W1, hW1⟩ : ∃ W1, (w.alloc (.deferred (some []))).alloc (.loop (rec .ready none)) = W1 := ⟨_, rfl⟩
  have hs1 : W1.heap.size = w.heap.size + 2 := by rw [<- hW1]; simp
  have hL1 : W1.heap[w.heap.size + 1]? = some (.loop (rec .ready none)) := by
    rw [<- hW1]; have := World.alloc_heap_new (w.alloc (.deferred (some []))) (.loop (rec .ready none)); rwa [World.size_alloc] at this
  have hK1 : W1.heap[w.heap.size]? = some (.deferred (some [])) := by
    rw [<- hW1]
    show ((w.heap.push (.deferred (some []))).push _)[w.heap.size]? = _
    simp [yL8]
  have hold : ∀ b, b < w.heap.size -> W1.heap[b]? = w.heap[b]? := by
    intro b hb
    rw [<- hW1]
    show ((w.heap.push (.deferred (some []))).push _)[b]? = _
    have e1 : b ≠ w.heap.size + 1 := by omega
    have e2 : b ≠ w.heap.size := by omega
    simp [yL8, e1, e2]
  have hkd1 : Kd w.heap W1.heap := by
    rw [<- hW1]; exact (Kd.push _ _).trans (Kd.push _ _)
  have hg : a.eval g = MO ρ g := by rw [hR.eval]
  have hkeep : ∀ {M : Nat} {h1 h2 : A2}, OK (w.heap.size + 2) M h1 h2 -> OK w.heap.size M h1 h2 := fun hk => ⟨hk.1, fun b hb hor => hk.2 b hb (by omega)⟩
  have hcall := hseq (.yield (w.heap.size + 1)) #[] #[] W1.heap (w.heap.size + 2)
    (fun M k h' => I M k h' /\ h'[w.heap.size + 1]? = some (.loop (rec .ready none)) /\ h'[w.heap.size]? = some (.deferred (some [])))
    (fun M _ h' => ∃ c e, X M e h' /\ ((c = .ret /\ e = .ret) \/ ∃ id, c = .exit id /\ e = .exit id) /\ h'[w.heap.size + 1]? = some (.loop (rec .done (some c))) /\ h'[w.heap.size]? = some (.deferred (some [])))
    (by omega) (hok.env _ 0 _ (by omega) (G0 _) (hok.start W1.heap (by omega) hold))
    { env := fun M k h' h1 h2 hi => hok.env M k h' (by omega) h2 hi.1
      keepI := fun M k h1 h2 hN hM hi hk => ⟨hok.keepI M k h1 h2 (by omega) hM hi.1 (hkeep hk), (hk.2 _ (by omega) (.inl (by omega))).trans hi.2.1, (hk.2 _ (by omega) (.inl (by omega))).trans hi.2.2⟩
      keepX := fun M _ h1 h2 hN hM ⟨c, e, hx, hc, hl, hdd⟩ hk => ⟨c, e, hok.keepX M e h1 h2 (by omega) hM hx (hkeep hk), hc, (hk.2 _ (by omega) (.inl (by omega))).trans hl, (hk.2 _ (by omega) (.inl (by omega))).trans hdd⟩
      dI := fun M k h1 h2 hs ⟨a1, a2, a3⟩ => ⟨hok.dI M k h1 h2 (hs.mono (by omega)) a1, (hs.2 _ (.inl (by omega))).trans a2, (hs.2 _ (.inl (by omega))).trans a3⟩
      dX := fun M _ h1 h2 hs ⟨c, e, a1, a2, a3, a4⟩ => ⟨c, e, hok.dX M e h1 h2 (hs.mono (by omega)) a1, a2, (hs.2 _ (.inl (by omega))).trans a3, (hs.2 _ (.inl (by omega))).trans a4⟩
      start := fun h1 hsz1 hsame => ⟨hok.start h1 (by omega) (fun b hb => (hsame b (by omega)).trans (hold b hb)), (hsame _ (by omega)).trans hL1, (hsame _ (by omega)).trans hK1⟩ }
    (by
      intro M k h' hkm hNM hsM hM ⟨hi, hl, hdd⟩ W hW
      subst hW
      have hlt : w.heap.size + 1 < W.heap.size := (Jx.1 hl).1
      have hy := run_yield (P := P) (args := #[] ++ xs k) hl (by rw [hrec]; simpa using hsz k hkm)
      rw [hrec] at hy
      refine ⟨fn, _, as, x, hy, ?_⟩
      refine roundIn_of_wpIn hfn ?_
      have hRp : Rl n ((ps.zip (#[] ++ xs k)).foldl (fun tmps (x : Tmp × vQ) => tmps.setIfInBounds x.1 x.2) a.tmps) (PO ρ (xs k) ps.toList 0) := by
        have := SH0 (n := n) (xs k) ps.toList 0 a.tmps ρ hR hps (by simp [hsz k hkm])
        rw [<- Array.foldl_toList]
        simpa using this
      obtain ⟨h2, hh2⟩ : ∃ h2 : A2, h2 = W.heap.setIfInBounds (w.heap.size + 1) (.loop { rec .ready none with state := .busy }) := ⟨_, rfl⟩
      have hs2 : h2.size = W.heap.size := by rw [hh2]; simp
      have hl2 : h2[w.heap.size + 1]? = some (.loop { rec .ready none with state := .busy }) := by rw [hh2]; simp [hlt]
      have ho2 : ∀ b, b ≠ w.heap.size + 1 -> h2[b]? = W.heap[b]? := fun b hb => by rw [hh2]; exact Sj9 (Ne.symm hb)
      have hk2 : Kd W.heap h2 := by rw [hh2]; exact Kd.set (by rw [hl]; simp)
      have hi2 : I M k h2 := hok.keepI M k W.heap h2 (by omega) hM hi (by rw [hh2]; exact ER (by omega) (by omega))
      have hform := hround M k h2 hkm hNM (by omega) hi2
      dsimp only at hform
      rw [hs2] at hform
      refine TZ (r := some (w.heap.size + 1)) hops hoks (fun opsA => XY ops.length ops (G0 _) hform) (a := { tmps := _, defers := [] }) (w := W) hRp rfl ?_
      rintro ρ1 a1 w1 ⟨os, hvc, hw1⟩ hR1 hd1 hk1
      have hl1 : w1.heap[w.heap.size + 1]? = some (.loop (rec .ready none)) := by rw [hw1, Sm5 _ _ _ hlt]; exact hl
      refine ⟨_, run_beginRound hl1 (by rw [hrec]), ?_⟩
      have hwh : (w1.putObj (w.heap.size + 1) (.loop { rec .ready none with state := .busy })).heap = EP h2 os := by
        show w1.heap.setIfInBounds _ _ = _
        rw [hw1, Sm4 _ _ _ _ hlt, hh2]
      refine wpIn_mono (hbody (w.heap.size + 1) _ ρ1 (EP h2 os) a1 _ hvc hR1 hd1 hwh) ?_
      rintro e a3 w3 ⟨he, ⟨hmid, hpost⟩, hk3⟩
      have hsz3 : W.heap.size <= w3.heap.size := by have := hmid.1; omega
      have hl3 : w3.heap[w.heap.size + 1]? = some (.loop { rec .ready none with state := .busy }) := (hmid.2 _ (by omega) (by omega)).trans hl2
      have hd3 : w3.heap[w.heap.size]? = some (.deferred (some [])) := (hmid.2 _ (by omega) (by omega)).trans ((ho2 _ (by omega)).trans hdd)
      have fin : ∀ (jump : Option Code), (Instr.endRound (w.heap.size + 1) jump).run P w3 = .ok (.bool jump.isNone) (w3.putObj (w.heap.size + 1) (.loop (rec (if jump.isNone then .ready else .done) jump))) /\
          Z6 (w.heap.size + 2) M W.heap (w3.putObj (w.heap.size + 1) (.loop (rec (if jump.isNone then .ready else .done) jump))).heap /\
          Kw W (w3.putObj (w.heap.size + 1) (.loop (rec (if jump.isNone then .ready else .done) jump))) /\
          (w3.putObj (w.heap.size + 1) (.loop (rec (if jump.isNone then .ready else .done) jump))).heap[w.heap.size + 1]? = some (.loop (rec (if jump.isNone then .ready else .done) jump)) /\
          (w3.putObj (w.heap.size + 1) (.loop (rec (if jump.isNone then .ready else .done) jump))).heap[w.heap.size]? = some (.deferred (some [])) /\
          OK w.heap.size M w3.heap (w3.putObj (w.heap.size + 1) (.loop (rec (if jump.isNone then .ready else .done) jump))).heap := by
        intro jump
        refine ⟨?_, ⟨by simp [World.putObj]; omega, fun b h1 h2' => ?_⟩, ?_, World.putObj_heap_same (by omega), (World.putObj_heap_other (by omega)).trans hd3, ER (by omega) (by omega)⟩
        · have := run_endRound (P := P) jump hl3
          rw [hrec] at this ⊢
          exact this
        · have e1 : b ≠ w.heap.size + 1 := by omega
          exact ((World.putObj_heap_other e1).trans (hmid.2 b (by omega) h2')).trans (ho2 b e1)
        · exact ⟨((hk2.trans (SH1 _ _)).trans (hwh ▸ hk3.1)).trans (Kd.set (by rw [hl3]; simp)), hk3.2.1.trans hk1.2.1, hk3.2.2.trans hk1.2.2⟩
      have hM3 : M <= w3.heap.size := by omega
      cases e with
      | normal =>
        obtain ⟨h1, h2', h3, h4, h5, h6⟩ := fin none
        exact ⟨_, _, h1, ⟨h2', .inl ⟨rfl, hok.keepI M (k + 1) _ _ (by omega) hM3 hpost h6, h4, h5⟩⟩, h3⟩
      | ret =>
        obtain ⟨h1, h2', h3, h4, h5, h6⟩ := fin (some .ret)
        exact ⟨_, _, h1, ⟨h2', .inr ⟨rfl, .ret, .ret, hok.keepX M .ret _ _ (by omega) hM3 hpost h6, .inl ⟨rfl, rfl⟩, h4, h5⟩⟩, h3⟩
      | exit id =>
        obtain ⟨h1, h2', h3, h4, h5, h6⟩ := fin (some (.exit id))
        exact ⟨_, _, h1, ⟨h2', .inr ⟨rfl, .exit id, .exit id, hok.keepX M (.exit id) _ _ (by omega) hM3 hpost h6, .inr ⟨id, rfl, rfl⟩, h4, h5⟩⟩, h3⟩
      | _ => exact he.elim)
  have post : ∀ (e : Ending) (w3 : World), onH W1 (fun _ h' => ∃ M, w.heap.size + 2 <= M /\ W1.heap.size <= M /\ M <= h'.size /\
      ((I M m h' /\ h'[w.heap.size + 1]? = some (.loop (rec .ready none)) /\ h'[w.heap.size]? = some (.deferred (some []))) \/
       (∃ c e, X M e h' /\ ((c = .ret /\ e = .ret) \/ ∃ id, c = .exit id /\ e = .exit id) /\ h'[w.heap.size + 1]? = some (.loop (rec .done (some c))) /\ h'[w.heap.size]? = some (.deferred (some []))))) e w3 ->
      rangePost (FW none) 0 P (w.heap.size + 1) (wS n B h0 ws a.tmps Q) { a with defers := [{ target := .collected w.heap.size, args := #[] }] ++ a.defers } e w3 := by
    intro e w3 hp
    cases e with
    | panicked => exact hp.elim
    | outgrown => exact hp.elim
    | returned v =>
      obtain ⟨⟨M, hM1, hM2, hM3, hor⟩, hkd3⟩ := hp
      have finD : ∀ (o : Obj) (l3 : Loop), w3.heap[w.heap.size + 1]? = some (.loop l3) -> w3.heap[w.heap.size]? = some (.deferred (some [])) ->
          Kw h0 (w3.putObj (w.heap.size + 1) o) /\ Mj B ([{ target := .collected w.heap.size, args := #[] }] ++ a.defers) (w3.putObj (w.heap.size + 1) o).heap := by
        intro o l3 hl hdd
        have hk4 : Kd w3.heap (w3.putObj (w.heap.size + 1) o).heap := Kd.set (by rw [hl]; simp)
        have hk5 : Kd w.heap (w3.putObj (w.heap.size + 1) o).heap := (hkd1.trans hkd3.1).trans hk4
        refine ⟨hk.trans ⟨hk5, hkd3.2.1.trans (by rw [<- hW1]; rfl), hkd3.2.2.trans (by rw [<- hW1]; rfl)⟩, ?_⟩
        obtain ⟨ms, h1, h2, h3⟩ := hd
        refine ⟨w.heap.size :: ms, by rw [h1]; rfl, Sk8.2 ⟨fun hin => ?_, h2⟩, fun D hD => ?_⟩
        · have := (h3 _ hin).2
          have := (Jx.1 this).1
          omega
        · rcases ED.1 hD with rfl | hD
          · exact ⟨hB _ (G0 _), (World.putObj_heap_other (by omega)).trans hdd⟩
          · exact ⟨(h3 D hD).1, hk5.2 D (h3 D hD).2⟩
      rcases hor with ⟨hi, hl, hdd⟩ | ⟨c, e, hx, hc, hl, hdd⟩
      · refine ⟨none, _, (by have := run_endLoop (P := P) hl (by rw [hrec]; simp); rw [hrec] at this; exact this), ?_⟩
        obtain ⟨hk4, hd4⟩ := finD (.loop { rec .ready none with state := .exhausted }) _ hl hdd
        have hi4 := hok.keepI M m _ (w3.putObj (w.heap.size + 1) (.loop { rec .ready none with state := .exhausted })).heap (by omega) hM3 hi (ER (by omega) (by omega))
        rw [hrec] at hk4 hd4 hi4
        exact ⟨GJ.refl _ _, ρ, hR, hd4, hk4, hdone M _ hM1 (by simp [World.putObj]; omega) hi4⟩
      · refine ⟨some c, _, (by have := run_endLoop (P := P) hl (by rw [hrec]; simp); rw [hrec] at this; exact this), ?_⟩
        obtain ⟨hk4, hd4⟩ := finD (.loop { rec .done (some c) with state := .exhausted }) _ hl hdd
        have hi4 := hok.keepX M e _ (w3.putObj (w.heap.size + 1) (.loop { rec .done (some c) with state := .exhausted })).heap (by omega) hM3 hx (ER (by omega) (by omega))
        rw [hrec] at hk4 hd4 hi4
        have hq := hstop M e _ hM1 (by simp [World.putObj]; omega) hi4
        rcases hc with ⟨rfl, rfl⟩ | ⟨id, rfl, rfl⟩
        · exact wpIn_ret ⟨GJ.refl _ _, ρ, hR, hd4, hk4, hq⟩
        · exact wpIn_exit ⟨GJ.refl _ _, ρ, hR, hd4, hk4, hq⟩
  unfold fnV at hfv
  split at hfv
  · rename_i gf first captured hge
    rw [hge] at hcall hg
    obtain ⟨hent, hcc⟩ := hcall
    refine ⟨w.heap.size + 1, [{ target := .collected w.heap.size, args := #[] }], W1, { target := .fn (.func gf) captured, args := first ++ #[.func (.yield (w.heap.size + 1)) #[] #[]] }, W1, gf,
      first ++ #[.func (.yield (w.heap.size + 1)) #[] #[]] ++ captured, W1, ?_, ?_, fun _ _ => trivial, ?_, by simp [FW], ?_⟩
    · rw [<- hW1, hrec]; exact run_enterLoop_outer _ _ _ _ _
    · simp only [resolve, hg]
      simp [Deferred.ofValue, Sem.run_pure, Act.eval]
    · exact hent _ W1
    · exact (hcc W1 rfl).mono post
  · exact hfv.elim
theorem Sf2 (hm:P.follows .mixedOrders=true) {B:Nat->Prop} (c:Code):∀(r:Option Nat) (b:Bool),(b=true->r=none)->CR n b c=true->∀(Q:Exit->G4->A2->Prop) (ρ:G4) (h0:World) (h:A2) (a:Act) (w:World),
  vc P c Q ρ h->Rl n a.tmps ρ->w.heap=h->(b=true->∀D,h.size<=D->B D)->Mj B a.defers h->Kw h0 w->c.wpIn (FW r) 0 P (wS n B h0 (CE c) a.tmps Q) a w:=by
 induction c with
 | skip=>
  intro r b hb hok Q ρ h0 h a w H hR hw hB hd hk
  subst hw;exact wpIn_skip ⟨GJ.refl _ _,TV (.inl rfl) hR hd hk H⟩
 | region id ops draw=>
  intro r b hb hok Q ρ h0 h a w H hR hw hB hd hk
  have fin:∀ρ' a' w',Q .normal ρ' w'.heap->Rl n a'.tmps ρ'->GJ (CE (.region id ops draw)) a.tmps a'.tmps->a'.defers=a.defers->Kw w w'->wS n B h0 (CE (.region id ops draw)) a.tmps Q .normal a' w':=by
   intro ρ' a' w' hq hR' hs hd' hk'
   exact ⟨hs,TV (.inl rfl) hR' (by rw [hd'];exact (hw ▸ hd).kd hk'.1) (hk.trans hk') hq⟩
  cases draw with
  | false=>
   refine wpIn_region ?_
   have:=IK (r:=r) (Q:=wS n B h0 (CE (.region id ops false)) a.tmps Q) hok (ws:=CE (.region id ops false)) (λi o hi=>Jh i o hi) ops.toList 0 (by simp) ρ h a w H hR hw fin
   rw [Sk0,<- List.range_eq_range'] at this
   exact this
  | true=>exact XW hm hok (ws:=CE (.region id ops true)) (λi o hi=>Jh i o hi) H hR hw fin
 | seq x y ihx ihy=>
  intro r b hb hok Q ρ h0 h a w H hR hw hB hd hk
  simp only [CR,EA] at hok
  have hx1:∀j ∈ CE x,j ∈ CE (.seq x y):=λj hj=>by simp only [CE,Z2];exact .inl hj
  have hy1:∀j ∈ CE y,j ∈ CE (.seq x y):=λj hj=>by simp only [CE,Z2];exact .inr hj
  have tail:∀(ρ1:G4) (a1:Act) (w1:World),vc P y Q ρ1 w1.heap->Rl n a1.tmps ρ1->GJ (CE x) a.tmps a1.tmps->Mj B a1.defers w1.heap->Kw h0 w1->(b=true->∀D,w1.heap.size<=D->B D) ->
    y.wpIn (FW r) 0 P (wS n B h0 (CE (.seq x y)) a.tmps Q) a1 w1:=by
   intro ρ1 a1 w1 hv hR1 hs1 hd1 hk1 hB1
   refine wpIn_mono (ihy r b hb hok.2 Q ρ1 h0 _ a1 w1 hv hR1 rfl hB1 hd1 hk1) ?_
   intro e a2 w2 h2
   exact ⟨(hs1.mono hx1).trans (h2.1.mono hy1),h2.2⟩
  unfold vc at H
  split at H
  ·refine wpIn_seq (wpIn_mono (ihx r b hb hok.1 _ ρ w h a w H hR hw hB hd (Kw.refl _)) ?_)
   rintro e a1 w1 ⟨hs1,h1⟩
   cases e with
   | normal=>
    obtain ⟨ρ1,hR1,hd1,hk1,hq⟩:=h1
    exact tail ρ1 a1 w1 hq hR1 hs1 hd1 (hk.trans hk1) (λe D hD=>hB e D (hw ▸ R4 hk1.1.1 hD))
   | ret=>obtain ⟨ρ1,hR1,hd1,hk1,hq⟩:=h1;exact ⟨hs1.mono hx1,ρ1,hR1,hd1,hk.trans hk1,hq⟩
   | exit id=>obtain ⟨ρ1,hR1,hd1,hk1,hq⟩:=h1;exact ⟨hs1.mono hx1,ρ1,hR1,hd1,hk.trans hk1,hq⟩
   | _=>exact h1.elim
  ·obtain ⟨J,hA,hJ⟩:=H
   refine wpIn_seq (wpIn_mono (ihx r b hb hok.1 _ ρ w h a w hA hR hw hB hd (Kw.refl _)) ?_)
   rintro e a1 w1 ⟨hs1,h1⟩
   cases e with
   | normal=>
    obtain ⟨ρ1,hR1,hd1,hk1,hq⟩:=h1
    have h2:=MY (F:=λ_=>True) _ _ hJ ((Ac (DL x) (C2 x)).map ρ1) (by simp) ρ1 w1.heap hq
    dsimp only at h2
    rw [Ln (Sf1 hs1 hR hR1) (Sm2 x)] at h2
    exact tail ρ1 a1 w1 h2 hR1 hs1 hd1 (hk.trans hk1) (λe D hD=>hB e D (hw ▸ R4 hk1.1.1 hD))
   | ret=>obtain ⟨ρ1,hR1,hd1,hk1,hq⟩:=h1;exact ⟨hs1.mono hx1,ρ1,hR1,hd1,hk.trans hk1,hq⟩
   | exit id=>obtain ⟨ρ1,hR1,hd1,hk1,hq⟩:=h1;exact ⟨hs1.mono hx1,ρ1,hR1,hd1,hk.trans hk1,hq⟩
   | _=>exact h1.elim
 | cond c x y ihx ihy=>
  intro r b hb hok Q ρ h0 h a w H hR hw hB hd hk
  simp only [CR,EA] at hok
  unfold vc at H
  obtain ⟨t,ht,H⟩:=O4 H
  have he:a.eval c=.bool t:=by rw [hR.eval];exact ht
  refine wpIn_cond he ?_
  have H:=Se5 H
  cases t with
  | true=>
   simp only [if_true] at H ⊢
   rw [MZ ht] at H
   refine wpIn_mono (ihx r b hb hok.1 Q ρ h0 h a w H hR hw hB hd hk) ?_
   intro e a1 w1 h1
   exact ⟨h1.1.mono (λj hj=>by simp only [CE,Z2];exact .inr (.inl hj)),h1.2⟩
  | false=>
   simp only [Cd,if_false] at H ⊢
   rw [MZ ht] at H
   refine wpIn_mono (ihy r b hb hok.2 Q ρ h0 h a w H hR hw hB hd hk) ?_
   intro e a1 w1 h1
   exact ⟨h1.1.mono (λj hj=>by simp only [CE,Z2];exact .inr (.inr hj)),h1.2⟩
 | block id x ih=>
  intro r b hb hok Q ρ h0 h a w H hR hw hB hd hk
  refine wpIn_block (wpIn_mono (ih r b hb hok _ ρ h0 h a w H hR hw hB hd hk) ?_)
  rintro e a1 w1 ⟨hs1,h1⟩
  cases e with
  | normal=>exact ⟨hs1,h1⟩
  | ret=>exact ⟨hs1,h1⟩
  | exit id'=>
   obtain ⟨ρ1,hR1,hd1,hk1,hq⟩:=h1
   simp only [Exit.inBlock]
   simp only [SF8] at hq
   split
   ·rename_i e;rw [A8 e] at hq;exact ⟨hs1,ρ1,hR1,hd1,hk1,hq⟩
   ·rename_i e;rw [A7 e] at hq;exact ⟨hs1,ρ1,hR1,hd1,hk1,hq⟩
  | _=>exact h1.elim
 | loop x ih=>
  intro r b hb hok Q ρ h0 h a w H hR hw hB hd hk
  obtain ⟨I,μ,hI,hJ⟩:=H
  have hJ:=MY (F:=λ_=>True) _ _ hJ
  refine wpIn_loop
   (λa' w'=>∃ρ',Rl n a'.tmps ρ'/\GJ (CE x) a.tmps a'.tmps/\Mj B a'.defers w'.heap/\Kw h0 w'/\(b=true->∀D,w'.heap.size<=D->B D)/\I ((DL x).map ρ') w'.heap)
   (λa' w'=>μ ((DL x).map λj=>a'.tmps.getD j undef) w'.heap) ⟨ρ,hR,GJ.refl _ _,by subst hw;exact hd,hk,by subst hw;exact hB,by subst hw;exact hI⟩ ?_
  rintro a1 w1 ⟨ρ1,hR1,hs1,hd1,hk1,hB1,hI1⟩
  have h2:=hJ ((DL x).map ρ1) (by simp) ρ1 w1.heap hI1
  dsimp only at h2
  rw [Ln (Sf1 hs1 hR hR1) (TX x)] at h2
  refine wpIn_mono (ih r b hb hok _ ρ1 w1 _ a1 w1 h2 hR1 rfl hB1 hd1 (Kw.refl _)) ?_
  rintro e a2 w2 ⟨hs2,h3⟩
  have hmu1:((DL x).map λj=>a1.tmps.getD j undef)=(DL x).map ρ1:=Tg λj _=>hR1.get j
  cases e with
  | normal=>
   obtain ⟨ρ2,hR2,hd2,hk2,hq⟩:=h3
   have hmu:((DL x).map λj=>a2.tmps.getD j undef)=(DL x).map ρ2:=Tg λj _=>hR2.get j
   refine ⟨⟨ρ2,hR2,hs1.trans hs2,hd2,hk1.trans hk2,λe D hD=>hB1 e D (R4 hk2.1.1 hD),hq.1⟩,?_⟩
   rw [hmu,hmu1];exact hq.2
  | ret=>obtain ⟨ρ2,hR2,hd2,hk2,hq⟩:=h3;exact ⟨hs1.trans hs2,ρ2,hR2,hd2,hk1.trans hk2,hq⟩
  | exit id=>obtain ⟨ρ2,hR2,hd2,hk2,hq⟩:=h3;exact ⟨hs1.trans hs2,ρ2,hR2,hd2,hk1.trans hk2,hq⟩
  | _=>exact h3.elim
 | rangeFunc g ps as x iha ihx=>
  intro r b hb hok Q ρ h0 h a w H hR hw hB hd hk
  simp only [CR,EA] at hok
  obtain ⟨⟨⟨hb1,hps⟩,has⟩,hbody⟩:=hok
  have hr:=hb hb1
  subst hr hw
  cases hops:MP as with
  | none=>rw [hops] at has;cases has
  | some ops=>
   rw [hops] at has
   unfold vc at H
   simp only [hops] at H
   refine Ya hops (λp hp=>by have:=MG.1 hps p hp;simpa using this) has ?_ (XH H) hR (hB hb1) hd hk _
   intro l K ρ1 h1 a1 w1 hv hR1 hd1 hw1
   subst hw1
   refine wpIn_mono (ihx (some l) false (λe=>by cases e) hbody _ ρ1 w1 _ a1 w1 hv hR1 rfl (λe=>by cases e) ⟨[],by simpa using hd1,Ti,λD hD=>by cases hD⟩ (Kw.refl _)) ?_
   rintro e a2 w2 ⟨_,h2⟩
   cases e <;> first | exact h2.elim | exact (let ⟨ρ2,_,_,hk2,hq⟩:=h2;⟨trivial,hq,hk2⟩)
 | exit id=>
  intro r b hb hok Q ρ h0 h a w H hR hw hB hd hk
  subst hw;exact wpIn_exit ⟨GJ.refl _ _,TV (.inr (.inr ⟨id,rfl⟩)) hR hd hk H⟩
 | scope x ih=>
  intro r b hb hok Q ρ h0 h a w H hR hw hB hd hk
  exact TU (λl a w q=>q.2) (ih r b hb hok Q ρ h0 h a w H hR hw hB hd hk)
 | label l=>
  intro r b hb hok Q ρ h0 h a w H hR hw hB hd hk
  subst hw;exact wpIn_label ⟨GJ.refl _ _,TV (.inl rfl) hR hd hk H⟩
 | goto l=>intro r b hb hok Q ρ h0 h a w H;exact H.elim
 | ret=>
  intro r b hb hok Q ρ h0 h a w H hR hw hB hd hk
  subst hw;exact wpIn_ret ⟨GJ.refl _ _,TV (.inr (.inl rfl)) hR hd hk H⟩
 | refuse why=>intro r b hb hok Q ρ h0 h a w H;exact H.elim
end
end
end Go.Proofs.YtahpbclnkofhfaaGreat
