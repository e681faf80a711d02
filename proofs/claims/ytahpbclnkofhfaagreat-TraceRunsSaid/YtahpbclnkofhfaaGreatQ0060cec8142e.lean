/- Part 4 of what the proofs of this seat rest on: see the last text of the claim. -/
import Derived.Test.YtahpbclnkofhfaaGreatQe7a25715f7bc
import Derived.Test.YtahpbclnkofhfaaGreatProg
set_option linter.unusedSimpArgs false
set_option linter.unusedVariables false
set_option linter.ambiguousOpen false
set_option maxRecDepth 20000
namespace Go.Proofs.YtahpbclnkofhfaaGreat
section

end
section
abbrev iv (n:Int):Value:=iQ n
theorem A6 (k:IntKind) (n:Int) (F:Int->Prop):asInt k (.int k n) F=F n:=by unfold asInt;simp
theorem EX (k:IntKind) (n:Int) (F:Int->Prop):Gv (.int k n) F=F n:=rfl
theorem B6 (b:Bool) (F:Bool->Prop):asBool (dQ b) F=F b:=rfl
theorem C6 (a:Option Addr) (l c:Nat) (F:Option Addr->Nat->Nat->Prop):C8 (lQ a l c) F=F a l c:=rfl
theorem C9 (a:Addr) (F:Addr->Prop):E5 (pQ (some a)) F=F a:=rfl
theorem L8 (a:Option Addr) (F:Option Addr->Prop):C2 (pQ a) F=F a:=rfl
theorem Id (f:Fn) (x y:Array Value) (F:Bool->Prop):V7 (.func f x y) F=F false:=rfl
theorem G2 (X Y:Prop):D0 true X Y=X:=rfl
theorem E2 (X Y:Prop):D0 false X Y=Y:=rfl
theorem Nf (f:Fn) (x y:Array Value) (X:Prop):J3 (.func f x y) X=X:=rfl
theorem A4 {p:Prop} [Decidable p] {X Y:Prop} (h1:p->X) (h2:¬ p->Y):D0 (decide p) X Y:=by
 by_cases h:p
 ·simp only [h,decide_true,G2];exact h1 h
 ·simp only [h,decide_false,E2];exact h2 h
theorem C7 {b:Bool} {X Y:Prop} (h1:b=true->X) (h2:b=false->Y):D0 b X Y:=by cases b <;> first | exact h1 rfl | exact h2 rfl
theorem Ie:AH Tryz.prog 25=.slice 3:=by kernel_rfl
theorem GD:J7 Tryz.prog 3=true:=by kernel_rfl
theorem Km:Gw Tryz.prog 3=some (iQ 0):=by kernel_rfl
theorem Y3:L7 Tryz.prog 3=1:=by kernel_rfl
theorem DP:Eo Tryz.prog 3=8:=by kernel_rfl
abbrev GM (h:A2) (a:Option Addr) (l c:Nat) (xs:List Int):Prop:=CG h 3 1 a l c (xs.map iv)
set_option maxRecDepth 20000 in
theorem SF1 {h:A2} {a:Option Addr} {l c:Nat} {xs:List Int} {x:Int} {K:kQ} (ho:GM h a l c xs) (hl:l<=2 ^ 40)
  (H:∀a' c' h',GM h' a' (l+1) c' (xs ++ [x])->h.size<=h'.size->(∀b,b < h.size->(∀ad,a=some ad->ad.block≠b)->h'[b]? = h[b]?)->(a' = a\/∃b,a' = some (aQ b)/\h.size < b)->K (lQ a' (l+1) c') h') :
  T2 Tryz.prog #[25,25] 25 #[lQ a l c,lQ (some (aQ h.size)) 1 1] (h.push (oQ #[iv x] 3)) K:=by
 have ho':CG (h.push (oQ #[iv x] 3)) 3 (L7 Tryz.prog 3) a l c (xs.map iv):=by
  have:=CG.keep (h':=h.push (oQ #[iv x] 3)) ho λad e=>S4 _ _ _ (ho.lt ad e)
  rwa [Y3]
 refine QO (P:=Tryz.prog) (t:=25) (elem:=3) (z:=iQ 0) (h:=h.push (oQ #[iv x] 3)) (K:=K) (a:=a) (a2:=some (aQ h.size)) (l:=l) (c:=c) (n2:=1) (xs:=xs.map iv) (ys:=[iv x]) (n:=1) Ie GD Km (by rw [Y3];rfl) ho' ?_ (by rw [Y3];rfl) (by simp [J3]) (by rw [DP];omega) (by rw [DP];omega) ?_
 ·intro i v hi
  refine ⟨_,rfl,?_⟩
  rw [E1,E0 (Z6 _ _)]
  cases i with
  | zero=>simpa using hi
  | succ i=>simp at hi
 ·intro a' c' h' h1 h2 h3 h4
  rw [Y3] at h1
  refine H a' c' h' (by simpa [GM] using h1) (by simp at h2;omega) (λb hb hne=>?_) ?_
  ·rw [h3 b (by simp;omega) hne];exact S4 _ _ _ hb
  ·rcases h4 with h4 | h4
   ·exact .inl h4
   ·exact .inr ⟨_,h4,by simp⟩
end
section
theorem D8 {n:Int} (h0 : -9223372036854775808<=n) (h1:n<=9223372036854775807):IntKind.i64.wrap n=n:=by
 unfold IntKind.wrap IntKind.signed IntKind.bits
 by_cases h2:0<=n
 ·have e:n % 2 ^ 64=n:=Int.emod_eq_of_lt h2 (by omega)
  simp only [e]
  rw [if_neg (by simp;omega)]
 ·have e:n % 2 ^ 64=n+2 ^ 64:=by omega
  simp only [e]
  rw [if_pos (by simp;omega)];omega
theorem cl3 (y a b:Value):(#[y]:Array Value) ++ #[a,b]=#[y,a,b]:=rfl
theorem cl2 (y a:Value):(#[y]:Array Value) ++ #[a]=#[y,a]:=rfl
theorem ET.self {ε:Type} {N:Nat} {h:A2} {Ev:A2->Prop} {I:Nat->Nat->A2->Prop} {X:Nat->ε->A2->Prop} (H:ET N h Ev I X):I h.size 0 h:=H.start h (Nat.le_refl _) λ_ _=>rfl
end
section
theorem X8 {h:A2} {b:Nat} {v:Value} {t:TypeId} (hb:h[b]? = some (oQ #[v] t)):A3 h (aQ b)=some v:=by rw [E0 hb];rfl
end
section
theorem Bw {a:Addr} {v:Value}:∀h h',G4 h.size h h'->A3 h a=some v->A3 h' a=some v:=λh h' ho hc=>(S0 (ho.2 _ (Bv hc))).trans hc
theorem SV0 {h:A2} (o o':Obj):G4 h.size h ((h.push o).push o')/\((h.push o).push o')[h.size]? = some o/\((h.push o).push o')[h.size+1]? = some o':=by
 refine ⟨((G4.refl _ _).push _ (Nat.le_refl _)).push _ (by simp),?_,?_⟩
 ·rw [S4 _ _ _ (by simp)];exact Z6 _ _
 ·have:=Z6 (h.push o) o'
  rwa [Array.size_push] at this
end
section
def Y8 (M:Nat) (w:Nat->Prop) (h:A2):Prop:=∀b,w b->M<=b/\∃row t f,h[b]? = some (.cells row t f)
theorem Y8.none (M:Nat) (h:A2):Y8 M (λ_=>False) h:=λ_ x=>x.elim
theorem Y8.lt {M:Nat} {w:Nat->Prop} {h:A2} (H:Y8 M w h) {b:Nat} (hb:w b):b < h.size:=by
 obtain ⟨_,row,t,f,e⟩:=H b hb
 exact (Array.getElem?_eq_some_iff.1 e).1
def Dep {α:Type} (N:Nat) (S:α->(Nat->Prop)->A2->Prop):Prop:=
 ∀k w h1 h2,h1.size<=h2.size->(∀b,b < N->h2[b]? = h1[b]?)->(∀b,w b->h2[b]? = h1[b]?)->S k w h1->S k w h2
theorem KT {M:Nat} {w:Nat->Prop} {ha hb:A2} (H:Y8 M w ha) (e:∀b,w b->hb[b]? = ha[b]?):Y8 M w hb:=λb hw=>by
 obtain ⟨h1,row,t,f,h2⟩:=H b hw
 exact ⟨h1,row,t,f,(e b hw).trans h2⟩
theorem QP {ε : Type} {N : Nat} {h : A2} {Ev : A2 -> Prop} (S : Nat -> (Nat -> Prop) -> A2 -> Prop) (SX : ε -> (Nat -> Prop) -> A2 -> Prop)
    (hN : N <= h.size) (cS : Dep N S) (cX : Dep N SX) (eS : ∀ k w h', S k w h' -> Ev h') (s0 : S 0 (fun _ => False) h) :
    ET N h Ev (fun M k h' => N <= h'.size /\ ∃ w, Y8 M w h' /\ S k w h') (fun M e h' => N <= h'.size /\ ∃ w, Y8 M w h' /\ SX e w h') := by
  have key : ∀ {α : Type} (T : α -> (Nat -> Prop) -> A2 -> Prop) (cT : Dep N T) (M : Nat) (k : α) (ha hb : A2), (N <= ha.size /\ ∃ w, Y8 M w ha /\ T k w ha) -> Mg N M ha hb -> (N <= hb.size /\ ∃ w, Y8 M w hb /\ T k w hb) := by
    rintro α T cT M k ha hb ⟨hs, w, ho, ht⟩ hk
    have e : ∀ b, w b -> hb[b]? = ha[b]? := fun b hw => hk.2 b (ho.lt hw) (.inr (ho b hw).1)
    exact ⟨Nat.le_trans hs hk.1, w, KT ho e, cT k w ha hb hk.1 (fun b hb => hk.2 b (by omega) (.inl hb)) e ht⟩
  have key2 : ∀ {α : Type} (T : α -> (Nat -> Prop) -> A2 -> Prop) (cT : Dep N T) (M : Nat) (k : α) (ha hb : A2), Z5 N ha hb -> (N <= ha.size /\ ∃ w, Y8 M w ha /\ T k w ha) -> (N <= hb.size /\ ∃ w, Y8 M w hb /\ T k w hb) := by
    rintro α T cT M k ha hb hd ⟨hs, w, ho, ht⟩
    have e : ∀ b, w b -> hb[b]? = ha[b]? := fun b hw => by
      obtain ⟨_, row, t, f, h2⟩ := ho b hw
      exact hd.cells h2
    exact ⟨by rw [hd.1]; exact hs, w, KT ho e, cT k w ha hb (by rw [hd.1]; exact Nat.le_refl _) (fun b hb => hd.2 b (.inl hb)) e ht⟩
  exact { env := fun M k h' _ _ hI => by obtain ⟨_, w, _, ht⟩ := hI; exact eS _ _ _ ht, keepI := fun M k ha hb _ _ hI hk => key S cS M k ha hb hI hk, keepX := fun M e ha hb _ _ hX hk => key SX cX M e ha hb hX hk,
          dI := fun M k ha hb hd hI => key2 S cS M k ha hb hd hI, dX := fun M e ha hb hd hX => key2 SX cX M e ha hb hd hX,
          start := fun h1 hs hsame => ⟨Nat.le_trans hN hs, fun _ => False, Y8.none _ _, cS 0 _ h h1 hs hsame (fun _ x => x.elim) s0⟩ }
theorem UY {P:Program} {g:Value} {np:Nat} {h:A2} {B:(Exit->A2->Prop)->Array Value->A2->Prop} {D:A2->Prop} {Es:List (Exit × (A2->Prop))}
  {n:Nat} {xs:Nat->Array Value} {Ev:A2->Prop} (S:Nat->(Nat->Prop)->A2->Prop) (SX:Exit->(Nat->Prop)->A2->Prop)
  (hg:fnV g) (hseq:Qt P g n xs Ev) (hnp:∀k,k < n->(xs k).size=np) (cS:Dep h.size S) (cX:Dep h.size SX) (eS:∀k w h',S k w h'->Ev h') (s0:S 0 (λ_=>False) h)
  (hb:∀M k w h',k < n->h.size+2<=M->M<=h'.size->Y8 M w h'->S k w h' ->
   B (λe h''=>Y2 h.size M h' h''/\(match e with | .normal=>h.size<=h''.size/\∃w,Y8 M w h''/\S (k+1) w h'' | e=>inE e Es/\h.size<=h''.size/\∃w,Y8 M w h''/\SX e w h'')) (xs k) h')
  (hd:∀M w h',h.size+2<=M->M<=h'.size->Y8 M w h'->S n w h'->D h')
  (he:Sl7 (λe F=>∀M w h',h.size+2<=M->M<=h'.size->Y8 M w h'->SX e w h'->F h') Es):Hh P g np h B D Es:=by
 refine ⟨n,xs,Ev,λM k h'=>h.size<=h'.size/\∃w,Y8 M w h'/\S k w h',λM e h'=>h.size<=h'.size/\∃w,Y8 M w h'/\SX e w h',hg,hseq,hnp,eS _ _ _ s0,QP S SX (Nat.le_refl _) cS cX eS s0,?_,?_,?_⟩
 ·rintro M k h' hk hM hs ⟨_,w,ho,ht⟩
  exact hb M k w h' hk hM hs ho ht
 ·rintro M h' hM hs ⟨_,w,ho,ht⟩
  exact hd M w h' hM hs ho ht
 ·clear hb
  generalize Es=L at he
  induction L with
  | nil=>trivial
  | cons p ps ih=>exact ⟨λM h' hM hs hx=>by obtain ⟨_,w,ho,ht⟩:=hx;exact he.1 M w h' hM hs ho ht,ih he.2⟩
theorem Oq {P : Program} {g : Value} {np : Nat} {h0 h : A2} {B : (Exit -> A2 -> Prop) -> Array Value -> A2 -> Prop} {D : A2 -> Prop} {Es : List (Exit × (A2 -> Prop))}
    {n : Nat} {xs : Nat -> Array Value} {Ev Ev' : A2 -> Prop} {N : Nat} {I : Nat -> Nat -> A2 -> Prop} {X : Nat -> Unit -> A2 -> Prop} (S : Nat -> A2 -> Prop) (c : Nat -> Nat) (n' : Nat) (q : Prop)
    (hg : fnV g) (hseq : Qt P g n xs Ev) (hnp : ∀ k, k < n -> (xs k).size = np) (hN : N <= h0.size) (ho : G4 h0.size h0 h) (hok : ET N h0 Ev' I X) (hev : ∀ h', Ev' h' -> Ev h') (hev0 : Ev h) (c0 : c 0 = 0) (cn : c n = n')
    (cS : ∀ k h1 h2, (∀ b, h0.size <= b -> b < h.size -> h2[b]? = h1[b]?) -> S k h1 -> S k h2) (s0 : S 0 h)
    (hb : ∀ M k h', k < n -> h.size + 2 <= M -> M <= h'.size -> S k h' -> I M (c k) h' ->
      B (fun e h'' => Y2 h.size M h' h'' /\ (match e with | .normal => h.size <= h''.size /\ S (k + 1) h'' /\ I M (c (k + 1)) h'' | e => inE e Es /\ (X M () h'' \/ (q /\ I M n' h'')))) (xs k) h')
    (hd : ∀ M h', h.size + 2 <= M -> M <= h'.size -> I M n' h' -> D h')
    (he : Sl7 (fun e F => ∀ M h', h.size + 2 <= M -> M <= h'.size -> (X M () h' \/ (q /\ I M n' h')) -> F h') Es) : Hh P g np h B D Es := by
  have hs0 := ho.1
  refine ⟨n, xs, Ev, fun M k h' => h.size <= h'.size /\ S k h' /\ I M (c k) h', fun M e h' => X M () h' \/ (q /\ I M n' h'), hg, hseq, hnp, hev0, ?_, ?_, ?_, ?_⟩
  · have hk' : ∀ {M : Nat} {ha hb : A2}, Mg h.size M ha hb -> Mg N M ha hb := fun hk => ⟨hk.1, fun b h1 h2 => hk.2 b h1 (by omega)⟩
    refine { env := fun M k h' hM hs hI => hev _ (hok.env M _ h' (by omega) hs hI.2.2), keepI := fun M k ha hb hM hs hI hk => ⟨Nat.le_trans hI.1 hk.1, cS k ha hb (fun b h1 h2 => hk.2 b (by have := hI.1; omega) (.inl h2)) hI.2.1, hok.keepI M _ ha hb (by omega) hs hI.2.2 (hk' hk)⟩,
             keepX := fun M e ha hb hM hs hX hk => hX.imp (fun x => hok.keepX M _ ha hb (by omega) hs x (hk' hk)) (fun x => ⟨x.1, hok.keepI M _ ha hb (by omega) hs x.2 (hk' hk)⟩),
             dI := fun M k ha hb hd hI => ⟨by rw [hd.1]; exact hI.1, cS k ha hb (fun b h1 h2 => hd.2 b (.inl h2)) hI.2.1, hok.dI M _ ha hb (hd.mono (by omega)) hI.2.2⟩,
             dX := fun M e ha hb hd hX => hX.imp (hok.dX M _ ha hb (hd.mono (by omega))) (fun x => ⟨x.1, hok.dI M _ ha hb (hd.mono (by omega)) x.2⟩), start := fun ha hs hsame => ?_ }
    refine ⟨hs, cS 0 h ha (fun b h1 h2 => hsame b h2) s0, ?_⟩
    rw [c0]
    exact hok.start ha (by omega) (fun b hb => (hsame b (by omega)).trans (ho.2 b (by omega)))
  · rintro M k h' hk hM hs ⟨hsz, h1, h2⟩
    exact hb M k h' hk hM hs h1 h2
  · rintro M h' hM hs ⟨_, h1, h2⟩
    rw [cn] at h2
    exact hd M h' hM hs h2
  · exact he
end
section
theorem Sn3 {P:Program} {t elem:TypeId} {z:Value} {h:A2} {a a2:Option Addr} {n n2:Nat} {ys:List Value} {K:kQ}
  (hu:AH P t=.slice elem) (hth:J7 P elem=true) (hz:Gw P elem=some z) (hzs:z.cells.size=L7 P elem)
  (hs:N8 h a2 ys) (hn:ys.length=n*L7 P elem) (hone:∀y ∈ ys,J3 y True) (hb0:0 < Eo P elem) (hb:(2*n+512)*Eo P elem<=2 ^ 48)
  (H0:n=0->K (lQ a 0 0) h)
  (H:∀cap h',CG h' elem (L7 P elem) (some (aQ h.size)) n cap ys->h'.size=h.size+1->G4 h.size h h'->K (lQ (some (aQ h.size)) n cap) h') :
  T2 P #[t,t] t #[lQ a 0 0,lQ a2 n n2] h K:=by
 have hu':=D9 hu (by simp)
 obtain ⟨info,hinfo⟩:=Cj hth
 have hbyt:info.bytes=Eo P elem:=by unfold Eo;rw [hinfo]
 have first:∀(F:Array Value->A2->Prop),F ys.toArray h->hp P (Builtin.firstCells (L7 P elem) n (lQ a2 n n2)) F h:=by
  intro F k
  cases a2 with
  | none=>
   have:ys = []:=by
    cases ys with
    | nil=>rfl
    | cons y ys=>obtain ⟨ad,e,_⟩:=hs 0 y rfl;cases e
   subst this;exact k
  | some ad=>
   show hp P (loadCells ad (n*L7 P elem)) F h
   refine M2 ad _ 0 [] F ?_
   rw [<- hn]
   refine Dp ys 0 [] _ (λj v hj=>?_) (by simpa using k)
   obtain ⟨ad',e,hc⟩:=hs j v hj
   cases e;rwa [Nat.zero_add]
 unfold T2 Builtin.append_
 simp only [List.getElem?_toArray,List.getElem?_cons_zero,List.getElem?_cons_succ,A8,D6,C0 hu',I8 hth,Bool.false_eq_true,if_false]
 show hp P (Builtin.lenOf _) _ h
 simp only [Builtin.lenOf,D6]
 rw [Er]
 split
 ·rename_i hcap
  have e2:n=0:=by omega
  subst e2
  have:ys = []:=by simpa using hn
  subst this
  simp only [A8]
  show hp P (if (!false)=true then _ else _) _ h
  refine first _ ?_
  cases a with
  | none=>
   simp only [A8,D6]
   exact H0 rfl
  | some ad=>
   simp only [A8]
   refine X4 _ _ h 0 _ ?_
   exact H0 rfl
 ·rename_i hcap
  simp only [A8,D6]
  have hbound:¬ Builtin.nextslicecap (0+n) 0*info.bytes > 2 ^ 48:=by
   rw [hbyt]
   have:=Nat.le_trans (Nat.mul_le_mul_right (Eo P elem) (EW (0+n) 0 (by omega))) (by simpa using hb)
   omega
  simp only [A8,D6,S3 hinfo,Er]
  rw [if_neg (by rw [hbyt];intro x;rcases x.2 with y | y <;> first | exact y | omega),if_neg hbound]
  show ∀tp,_
  intro tp
  rw [if_neg (by simp [Question.forced])]
  obtain ⟨cap,hcp⟩ : ∃cap,cap=(Question.appendCap (0+n) 0 elem).cut tp:=⟨_,rfl⟩
  have hcap2:0+n<=cap:=by rw [hcp];simp [Question.cut]
  rw [<- hcp]
  rw [show (Sem.pure cap:Sem Nat)=pure cap from rfl]
  simp only [A8,D6,S3 hinfo,Ck]
  have old:∀(F:Array Value->A2->Prop),F #[] h->hp P (Builtin.firstCells (L7 P elem) 0 (lQ a 0 0)) F h:=by
   intro F k
   cases a with
   | none=>exact k
   | some ad=>
    show hp P (loadCells ad (0*L7 P elem)) F h
    rw [Nat.zero_mul]
    exact k
  refine old _ ?_
  rw [A8,if_pos (show (!false)=true from rfl)]
  refine first _ ?_
  simp only [A8]
  simp only [R9 hz]
  show K (lQ (some (aQ h.size)) (0+n) cap) (h.push _)
  have hzc:(Builtin.zeroCells z.cells (cap - (0+n))).size=(cap - (0+n))*L7 P elem:=by rw [BI,hzs]
  rw [Nat.zero_add] at hcap2 hzc ⊢
  refine H cap _ ⟨by simp [hn],hcap2,.inr ⟨h.size,_,rfl,Z6 _ _,?_,?_⟩⟩ (by simp) ((G4.refl _ _).push _ (Nat.le_refl _))
  ·simp only [Array.size_append,hzc,List.size_toArray,hn,<- Nat.add_mul,List.length_nil,Nat.zero_add]
   congr 1;omega
  ·simp only [Array.toList_append,List.toList_toArray,List.nil_append,Array.toList_empty]
   rw [List.take_left' (by simp [hn])]
end
section
def F81 (K:kQ) (h:A2) (xa:Option Addr) (xb xc:Nat):Prop:=
 (D0 (Option.isNone xa) (K (lQ none 0 0) h) (T2 Tryz.prog #[25,25] 25 #[lQ (some (aQ h.size)) 0 0,lQ xa xb xc] (h.push (oQ #[] 3)) λa b=>C8 a λa c d=>K (lQ a c d) b))
theorem call81 {K:kQ} {h:A2} {xa:Option Addr} {xb xc:Nat} (H:F81 K h xa xb xc):A5 Tryz.prog 81 #[(lQ xa xb xc)] h K:=
 cQ Tryz.func81 H
end
end Go.Proofs.YtahpbclnkofhfaaGreat
