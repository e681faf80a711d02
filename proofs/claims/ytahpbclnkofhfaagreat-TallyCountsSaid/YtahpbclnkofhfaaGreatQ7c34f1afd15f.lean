/- Part 4 of what the proofs of this seat rest on: see the last text of the claim. -/
import Derived.Test.YtahpbclnkofhfaaGreatQa4637489779c
import Derived.Test.YtahpbclnkofhfaaGreatProg
set_option linter.unusedSimpArgs false
set_option linter.unusedVariables false
set_option linter.ambiguousOpen false
set_option maxRecDepth 20000
open Go.Proofs.Tryz (prog)
open Go.IntKind (wrap)
namespace Go.Proofs.YtahpbclnkofhfaaGreat
section

end
section
abbrev iv (n:Int):vQ:=iQ n
theorem A5 (k:IntKind) (n:Int) (F:Int->Prop):asInt k (.int k n) F=F n:=by unfold asInt;simp
theorem Db (k:IntKind) (n:Int) (F:Int->Prop):Il (.int k n) F=F n:=rfl
theorem C0 (b:Bool) (F:Bool->Prop):asBool (dQ b) F=F b:=rfl
theorem D6 (a:rQ) (l c:Nat) (F:rQ->Nat->Nat->Prop):D3 (lQ a l c) F=F a l c:=rfl
theorem D0 (a:Addr) (F:Addr->Prop):F3 (pQ (some a)) F=F a:=rfl
theorem M3 (a:rQ) (F:rQ->Prop):C9 (pQ a) F=F a:=rfl
theorem JK (f:Fn) (x y:Array vQ) (F:Bool->Prop):X0 (.func f x y) F=F false:=rfl
theorem G6 (X Y:Prop):D4 true X Y=X:=rfl
theorem E7 (X Y:Prop):D4 false X Y=Y:=rfl
theorem KH (f:Fn) (x y:Array vQ) (X:Prop):J0 (.func f x y) X=X:=rfl
theorem A6 {p:Prop} [Decidable p] {X Y:Prop} (h1:p->X) (h2:¬ p->Y):D4 (decide p) X Y:=by
 by_cases h:p
 ·simp only [h,decide_true,G6];exact h1 h
 ·simp only [h,decide_false,E7];exact h2 h
theorem D1 {b:Bool} {X Y:Prop} (h1:b=true->X) (h2:b=false->Y):D4 b X Y:=by cases b <;> first | exact h1 rfl | exact h2 rfl
theorem JL:Be prog 25=.slice 3:=by kernel_rfl
theorem Is:L0 prog 3=true:=by kernel_rfl
theorem Mr:GZ prog 3=some (iQ 0):=by kernel_rfl
theorem Z8:M2 prog 3=1:=by kernel_rfl
theorem ES:EL prog 3=8:=by kernel_rfl
abbrev ID (h:A2) (a:rQ) (l c:Nat) (xs:List Int):Prop:=CS h 3 1 a l c (xs.map iv)
set_option maxRecDepth 20000 in
theorem S11 {h:A2} {a:rQ} {l c:Nat} {xs:List Int} {x:Int} {K:kQ} (ho:ID h a l c xs) (hl:l<=2 ^ 40)
  (H:∀a' c' h',ID h' a' (l+1) c' (xs ++ [x])->h.size<=h'.size->(∀b,b < h.size->(∀ad,a=some ad->ad.block≠b)->h'[b]? = h[b]?)->(a' = a\/∃b,a' = some (aQ b)/\h.size < b)->K (lQ a' (l+1) c') h') :
  U4 prog #[25,25] 25 #[lQ a l c,lQ (some (aQ h.size)) 1 1] (h.push (oQ #[iv x] 3)) K:=by
 have ho':CS (h.push (oQ #[iv x] 3)) 3 (M2 prog 3) a l c (xs.map iv):=by
  have:=CS.keep (h':=h.push (oQ #[iv x] 3)) ho λad e=>W5 _ _ _ (ho.lt ad e)
  rwa [Z8]
 refine Uf (P:=prog) (t:=25) (elem:=3) (z:=iQ 0) (h:=h.push (oQ #[iv x] 3)) (K:=K) (a:=a) (a2:=some (aQ h.size)) (l:=l) (c:=c) (n2:=1) (xs:=xs.map iv) (ys:=[iv x]) (n:=1) JL Is Mr (by rw [Z8];rfl) ho' ?_ (by rw [Z8];rfl) (by simp [J0]) (by rw [ES];omega) (by rw [ES];omega) ?_
 ·intro i v hi
  refine ⟨_,rfl,?_⟩
  rw [E2,E5 (Ap _ _)]
  cases i with
  | zero=>simpa using hi
  | succ i=>simp at hi
 ·intro a' c' h' h1 h2 h3 h4
  rw [Z8] at h1
  refine H a' c' h' (by simpa [ID] using h1) (by simp at h2;omega) (λb hb hne=>?_) ?_
  ·rw [h3 b (by simp;omega) hne];exact W5 _ _ _ hb
  ·rcases h4 with h4 | h4
   ·exact .inl h4
   ·exact .inr ⟨_,h4,by simp⟩
end
section
theorem E3 {n:Int} (h0 : -9223372036854775808<=n) (h1:n<=9223372036854775807):IntKind.i64.wrap n=n:=by
 unfold wrap IntKind.signed IntKind.bits
 by_cases h2:0<=n
 ·have e:n % 2 ^ 64=n:=Int.emod_eq_of_lt h2 (by omega)
  simp only [e]
  rw [A7 (by simp;omega)]
 ·have e:n % 2 ^ 64=n+2 ^ 64:=by omega
  simp only [e]
  rw [A8 (by simp;omega)];omega
theorem cl3 (y a b:vQ):(#[y]:Array vQ) ++ #[a,b]=#[y,a,b]:=rfl
theorem cl2 (y a:vQ):(#[y]:Array vQ) ++ #[a]=#[y,a]:=rfl
theorem Ge.self {ε:Type} {N:Nat} {h:A2} {Ev:A2->Prop} {I:Nat->Nat->A2->Prop} {X:Nat->ε->A2->Prop} (H:Ge N h Ev I X):I h.size 0 h:=H.start h (G0 _) λ_ _=>rfl
end
section
theorem Z3 {h:A2} {b:Nat} {v:vQ} {t:TypeId} (hb:h[b]? = some (oQ #[v] t)):A3 h (aQ b)=some v:=by rw [E5 hb];rfl
end
section
theorem AU {a:Addr} {v:vQ}:∀h h',G9 h.size h h'->A3 h a=some v->A3 h' a=some v:=λh h' ho hc=>(T5 (ho.2 _ (BS hc))).trans hc
theorem Th6 {h:A2} (o o':Obj):G9 h.size h ((h.push o).push o')/\((h.push o).push o')[h.size]? = some o/\((h.push o).push o')[h.size+1]? = some o':=by
 refine ⟨((G9.refl _ _).push _ (G0 _)).push _ (by simp),?_,?_⟩
 ·rw [W5 _ _ _ (by simp)];exact Ap _ _
 ·have:=Ap (h.push o) o'
  rwa [SD2] at this
end
section
def Ad (M:Nat) (w:Nat->Prop) (h:A2):Prop:=∀b,w b->M<=b/\∃row t f,h[b]? = some (.cells row t f)
theorem Ad.none (M:Nat) (h:A2):Ad M (λ_=>False) h:=λ_ x=>x.elim
theorem Ad.lt {M:Nat} {w:Nat->Prop} {h:A2} (H:Ad M w h) {b:Nat} (hb:w b):b < h.size:=by
 obtain ⟨_,row,t,f,e⟩:=H b hb
 exact (Jx.1 e).1
def Dep {α:Type} (N:Nat) (S:α->(Nat->Prop)->A2->Prop):Prop:=
 ∀k w h1 h2,h1.size<=h2.size->(∀b,b < N->h2[b]? = h1[b]?)->(∀b,w b->h2[b]? = h1[b]?)->S k w h1->S k w h2
theorem Ng {M:Nat} {w:Nat->Prop} {ha hb:A2} (H:Ad M w ha) (e:∀b,w b->hb[b]? = ha[b]?):Ad M w hb:=λb hw=>by
 obtain ⟨h1,row,t,f,h2⟩:=H b hw
 exact ⟨h1,row,t,f,(e b hw).trans h2⟩
theorem Ug {ε : Type} {N : Nat} {h : A2} {Ev : A2 -> Prop} (S : Nat -> (Nat -> Prop) -> A2 -> Prop) (SX : ε -> (Nat -> Prop) -> A2 -> Prop)
    (hN : N <= h.size) (cS : Dep N S) (cX : Dep N SX) (eS : ∀ k w h', S k w h' -> Ev h') (s0 : S 0 (fun _ => False) h) :
    Ge N h Ev (fun M k h' => N <= h'.size /\ ∃ w, Ad M w h' /\ S k w h') (fun M e h' => N <= h'.size /\ ∃ w, Ad M w h' /\ SX e w h') := by
  have key : ∀ {α : Type} (T : α -> (Nat -> Prop) -> A2 -> Prop) (cT : Dep N T) (M : Nat) (k : α) (ha hb : A2), (N <= ha.size /\ ∃ w, Ad M w ha /\ T k w ha) -> OK N M ha hb -> (N <= hb.size /\ ∃ w, Ad M w hb /\ T k w hb) := by
    rintro α T cT M k ha hb ⟨hs, w, ho, ht⟩ hk
    have e : ∀ b, w b -> hb[b]? = ha[b]? := fun b hw => hk.2 b (ho.lt hw) (.inr (ho b hw).1)
    exact ⟨R4 hs hk.1, w, Ng ho e, cT k w ha hb hk.1 (fun b hb => hk.2 b (by omega) (.inl hb)) e ht⟩
  have key2 : ∀ {α : Type} (T : α -> (Nat -> Prop) -> A2 -> Prop) (cT : Dep N T) (M : Nat) (k : α) (ha hb : A2), Ao N ha hb -> (N <= ha.size /\ ∃ w, Ad M w ha /\ T k w ha) -> (N <= hb.size /\ ∃ w, Ad M w hb /\ T k w hb) := by
    rintro α T cT M k ha hb hd ⟨hs, w, ho, ht⟩
    have e : ∀ b, w b -> hb[b]? = ha[b]? := fun b hw => by
      obtain ⟨_, row, t, f, h2⟩ := ho b hw
      exact hd.cells h2
    exact ⟨by rw [hd.1]; exact hs, w, Ng ho e, cT k w ha hb (by rw [hd.1]; exact G0 _) (fun b hb => hd.2 b (.inl hb)) e ht⟩
  exact { env := fun M k h' _ _ hI => by obtain ⟨_, w, _, ht⟩ := hI; exact eS _ _ _ ht, keepI := fun M k ha hb _ _ hI hk => key S cS M k ha hb hI hk, keepX := fun M e ha hb _ _ hX hk => key SX cX M e ha hb hX hk,
          dI := fun M k ha hb hd hI => key2 S cS M k ha hb hd hI, dX := fun M e ha hb hd hX => key2 SX cX M e ha hb hd hX,
          start := fun h1 hs hsame => ⟨R4 hN hs, fun _ => False, Ad.none _ _, cS 0 _ h h1 hs hsame (fun _ x => x.elim) s0⟩ }
theorem Ye {P:Program} {g:vQ} {np:Nat} {h:A2} {B:(Exit->A2->Prop)->Array vQ->A2->Prop} {D:A2->Prop} {Es:List (Exit × (A2->Prop))}
  {n:Nat} {xs:Nat->Array vQ} {Ev:A2->Prop} (S:Nat->(Nat->Prop)->A2->Prop) (SX:Exit->(Nat->Prop)->A2->Prop)
  (hg:fnV g) (hseq:TJ P g n xs Ev) (hnp:∀k,k < n->(xs k).size=np) (cS:Dep h.size S) (cX:Dep h.size SX) (eS:∀k w h',S k w h'->Ev h') (s0:S 0 (λ_=>False) h)
  (hb:∀M k w h',k < n->h.size+2<=M->M<=h'.size->Ad M w h'->S k w h' ->
   B (λe h''=>Z6 h.size M h' h''/\(match e with | .normal=>h.size<=h''.size/\∃w,Ad M w h''/\S (k+1) w h'' | e=>inE e Es/\h.size<=h''.size/\∃w,Ad M w h''/\SX e w h'')) (xs k) h')
  (hd:∀M w h',h.size+2<=M->M<=h'.size->Ad M w h'->S n w h'->D h')
  (he:SF9 (λe F=>∀M w h',h.size+2<=M->M<=h'.size->Ad M w h'->SX e w h'->F h') Es):Jb P g np h B D Es:=by
 refine ⟨n,xs,Ev,λM k h'=>h.size<=h'.size/\∃w,Ad M w h'/\S k w h',λM e h'=>h.size<=h'.size/\∃w,Ad M w h'/\SX e w h',hg,hseq,hnp,eS _ _ _ s0,Ug S SX (G0 _) cS cX eS s0,?_,?_,?_⟩
 ·rintro M k h' hk hM hs ⟨_,w,ho,ht⟩
  exact hb M k w h' hk hM hs ho ht
 ·rintro M h' hM hs ⟨_,w,ho,ht⟩
  exact hd M w h' hM hs ho ht
 ·clear hb
  generalize Es=L at he
  induction L with
  | nil=>trivial
  | cons p ps ih=>exact ⟨λM h' hM hs hx=>by obtain ⟨_,w,ho,ht⟩:=hx;exact he.1 M w h' hM hs ho ht,ih he.2⟩
theorem Rr {P : Program} {g : vQ} {np : Nat} {h0 h : A2} {B : (Exit -> A2 -> Prop) -> Array vQ -> A2 -> Prop} {D : A2 -> Prop} {Es : List (Exit × (A2 -> Prop))}
    {n : Nat} {xs : Nat -> Array vQ} {Ev Ev' : A2 -> Prop} {N : Nat} {I : Nat -> Nat -> A2 -> Prop} {X : Nat -> Unit -> A2 -> Prop} (S : Nat -> A2 -> Prop) (c : Nat -> Nat) (n' : Nat) (q : Prop)
    (hg : fnV g) (hseq : TJ P g n xs Ev) (hnp : ∀ k, k < n -> (xs k).size = np) (hN : N <= h0.size) (ho : G9 h0.size h0 h) (hok : Ge N h0 Ev' I X) (hev : ∀ h', Ev' h' -> Ev h') (hev0 : Ev h) (c0 : c 0 = 0) (cn : c n = n')
    (cS : ∀ k h1 h2, (∀ b, h0.size <= b -> b < h.size -> h2[b]? = h1[b]?) -> S k h1 -> S k h2) (s0 : S 0 h)
    (hb : ∀ M k h', k < n -> h.size + 2 <= M -> M <= h'.size -> S k h' -> I M (c k) h' ->
      B (fun e h'' => Z6 h.size M h' h'' /\ (match e with | .normal => h.size <= h''.size /\ S (k + 1) h'' /\ I M (c (k + 1)) h'' | e => inE e Es /\ (X M () h'' \/ (q /\ I M n' h'')))) (xs k) h')
    (hd : ∀ M h', h.size + 2 <= M -> M <= h'.size -> I M n' h' -> D h')
    (he : SF9 (fun e F => ∀ M h', h.size + 2 <= M -> M <= h'.size -> (X M () h' \/ (q /\ I M n' h')) -> F h') Es) : Jb P g np h B D Es := by
  have hs0 := ho.1
  refine ⟨n, xs, Ev, fun M k h' => h.size <= h'.size /\ S k h' /\ I M (c k) h', fun M e h' => X M () h' \/ (q /\ I M n' h'), hg, hseq, hnp, hev0, ?_, ?_, ?_, ?_⟩
  · have hk' : ∀ {M : Nat} {ha hb : A2}, OK h.size M ha hb -> OK N M ha hb := fun hk => ⟨hk.1, fun b h1 h2 => hk.2 b h1 (by omega)⟩
    refine { env := fun M k h' hM hs hI => hev _ (hok.env M _ h' (by omega) hs hI.2.2), keepI := fun M k ha hb hM hs hI hk => ⟨R4 hI.1 hk.1, cS k ha hb (fun b h1 h2 => hk.2 b (by have := hI.1; omega) (.inl h2)) hI.2.1, hok.keepI M _ ha hb (by omega) hs hI.2.2 (hk' hk)⟩,
             keepX := fun M e ha hb hM hs hX hk => hX.imp (fun x => hok.keepX M _ ha hb (by omega) hs x (hk' hk)) (fun x => ⟨x.1, hok.keepI M _ ha hb (by omega) hs x.2 (hk' hk)⟩),
             dI := fun M k ha hb hd hI => ⟨by rw [hd.1]; exact hI.1, cS k ha hb (fun b h1 h2 => hd.2 b (.inl h2)) hI.2.1, hok.dI M _ ha hb (hd.mono (by omega)) hI.2.2⟩,
             dX := fun M e ha hb hd hX => hX.imp (hok.dX M _ ha hb (hd.mono (by omega))) (fun x => ⟨x.1, hok.dI M _ ha hb (hd.mono (by omega)) x.2⟩), start := fun ha hs hsame => ?_ }
    refine ⟨hs, cS 0 h ha (fun b h1 h2 => hsame b h2) s0, ?_⟩
    rw [c0]
    exact hok.start ha (by omega) (fun b hb => (hsame b (by omega)).trans (ho.2 b (by omega)))
  · rintro M k h' hk hM hs ⟨hsz, h1, h2⟩
    exact hb M k h' hk hM hs h1 h2
  · rintro M h' hM hs ⟨_, h1, h2⟩
    rw [cn] at h2
    exact hd M h' hM hs h2
  · exact he
end
section
theorem SH5 {P:Program} {t elem:TypeId} {z:vQ} {h:A2} {a a2:rQ} {n n2:Nat} {ys:List vQ} {K:kQ}
  (hu:Be P t=.slice elem) (hth:L0 P elem=true) (hz:GZ P elem=some z) (hzs:z.cells.size=M2 P elem)
  (hs:N5 h a2 ys) (hn:ys.length=n*M2 P elem) (hone:∀y ∈ ys,J0 y True) (hb0:0 < EL P elem) (hb:(2*n+512)*EL P elem<=2 ^ 48)
  (H0:n=0->K (lQ a 0 0) h)
  (H:∀cap h',CS h' elem (M2 P elem) (some (aQ h.size)) n cap ys->h'.size=h.size+1->G9 h.size h h'->K (lQ (some (aQ h.size)) n cap) h') :
  U4 P #[t,t] t #[lQ a 0 0,lQ a2 n n2] h K:=by
 have hu':=E4 hu (by simp)
 obtain ⟨info,hinfo⟩:=CO hth
 have hbyt:info.bytes=EL P elem:=by unfold EL;rw [hinfo]
 have first:∀(F:Array vQ->A2->Prop),F ys.toArray h->hp P (Builtin.firstCells (M2 P elem) n (lQ a2 n n2)) F h:=by
  intro F k
  cases a2 with
  | none=>
   have:ys = []:=by
    cases ys with
    | nil=>rfl
    | cons y ys=>obtain ⟨ad,e,_⟩:=hs 0 y rfl;cases e
   subst this;exact k
  | some ad=>
   show hp P (loadCells ad (n*M2 P elem)) F h
   refine M8 ad _ 0 [] F ?_
   rw [<- hn]
   refine Em ys 0 [] _ (λj v hj=>?_) (by simpa using k)
   obtain ⟨ad',e,hc⟩:=hs j v hj
   cases e;rwa [J6]
 unfold U4 Builtin.append_
 simp only [EC,Mh,QX,B6,E0,C8 hu',J7 hth,Cd,if_false]
 show hp P (Builtin.lenOf _) _ h
 simp only [Builtin.lenOf,E0]
 rw [Ft]
 split
 ·rename_i hcap
  have e2:n=0:=by omega
  subst e2
  have:ys = []:=by simpa using hn
  subst this
  simp only [B6]
  show hp P (if (!false)=true then _ else _) _ h
  refine first _ ?_
  cases a with
  | none=>
   simp only [B6,E0]
   exact H0 rfl
  | some ad=>
   simp only [B6]
   refine Y9 _ _ h 0 _ ?_
   exact H0 rfl
 ·rename_i hcap
  simp only [B6,E0]
  have hbound:¬ Builtin.nextslicecap (0+n) 0*info.bytes > 2 ^ 48:=by
   rw [hbyt]
   have:=R4 (EJ (EL P elem) (Gi (0+n) 0 (by omega))) (by simpa using hb)
   omega
  simp only [B6,E0,T7 hinfo,Ft]
  rw [A7 (by rw [hbyt];intro x;rcases x.2 with y | y <;> first | exact y | omega),A7 hbound]
  show ∀tp,_
  intro tp
  rw [A7 (by simp [Question.forced])]
  obtain ⟨cap,hcp⟩ : ∃cap,cap=(Question.appendCap (0+n) 0 elem).cut tp:=⟨_,rfl⟩
  have hcap2:0+n<=cap:=by rw [hcp];simp [Question.cut]
  rw [<- hcp]
  rw [show (Sem.pure cap:Sem Nat)=pure cap from rfl]
  simp only [B6,E0,T7 hinfo,Ej]
  have old:∀(F:Array vQ->A2->Prop),F #[] h->hp P (Builtin.firstCells (M2 P elem) 0 (lQ a 0 0)) F h:=by
   intro F k
   cases a with
   | none=>exact k
   | some ad=>
    show hp P (loadCells ad (0*M2 P elem)) F h
    rw [Nat.zero_mul]
    exact k
  refine old _ ?_
  rw [B6,A8 (show (!false)=true from rfl)]
  refine first _ ?_
  simp only [B6]
  simp only [R5 hz]
  show K (lQ (some (aQ h.size)) (0+n) cap) (h.push _)
  have hzc:(Builtin.zeroCells z.cells (cap - (0+n))).size=(cap - (0+n))*M2 P elem:=by rw [AT,hzs]
  rw [J6] at hcap2 hzc ⊢
  refine H cap _ ⟨by simp [hn],hcap2,.inr ⟨h.size,_,rfl,Ap _ _,?_,?_⟩⟩ (by simp) ((G9.refl _ _).push _ (G0 _))
  ·simp only [Array.size_append,hzc,PC,hn,<- BA,SE1,J6]
   congr 1;omega
  ·simp only [SD3,Se0,OG,Array.toList_empty]
   rw [List.take_left' (by simp [hn])]
end
section
def F81 (K:kQ) (h:A2) (xa:rQ) (xb xc:Nat):Prop:=
 (D4 (Option.isNone xa) (K (lQ none 0 0) h) (U4 prog #[25,25] 25 #[lQ (some (aQ h.size)) 0 0,lQ xa xb xc] (h.push (oQ #[] 3)) λa b=>D3 a λa c d=>K (lQ a c d) b))
theorem call81 {K:kQ} {h:A2} {xa:rQ} {xb xc:Nat} (H:F81 K h xa xb xc):A4 prog 81 #[(lQ xa xb xc)] h K:=
 cQ Tryz.func81 H
end
end Go.Proofs.YtahpbclnkofhfaaGreat
