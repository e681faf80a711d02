/- Part 4 of what the proofs of this seat rest on: see the last text of the claim. -/
import Derived.Test.YtahpbclnkofhfaaGreatQ27f58615c820
import Derived.Test.YtahpbclnkofhfaaGreatProg
set_option linter.unusedSimpArgs false
set_option linter.unusedVariables false
set_option linter.ambiguousOpen false
set_option maxRecDepth 20000
namespace Go.Proofs.YtahpbclnkofhfaaGreat
section

end
section
abbrev iv (n:Int):Value:=iQ n
theorem Wa4 (k:IntKind) (n:Int) (F:Int->Prop):asInt k (.int k n) F=F n:=by unfold asInt;simp
theorem WG1 (k:IntKind) (n:Int) (F:Int->Prop):asI (.int k n) F=F n:=rfl
theorem Wa9 (b:Bool) (F:Bool->Prop):asBool (.bool b) F=F b:=rfl
theorem Wb0 (a:Option Addr) (l c:Nat) (F:Option Addr->Nat->Nat->Prop):Wb3 (.slice a l c) F=F a l c:=rfl
theorem Wb1 (a:Addr) (F:Addr->Prop):Wd2 (.pointer (some a)) F=F a:=rfl
theorem Wf0 (a:Option Addr) (F:Option Addr->Prop):Wb2 (.pointer a) F=F a:=rfl
theorem WN8 (f:Fn) (x y:Array Value) (F:Bool->Prop):Wk1 (.func f x y) F=F false:=rfl
theorem Wd8 (X Y:Prop):ifB true X Y=X:=rfl
theorem Wc5 (X Y:Prop):ifB false X Y=Y:=rfl
theorem Yb7 (f:Fn) (x y:Array Value) (X:Prop):Wi4 (.func f x y) X=X:=rfl
theorem Wa3 {p:Prop} [Decidable p] {X Y:Prop} (h1:p->X) (h2:¬ p->Y):ifB (decide p) X Y:=by
 by_cases h:p
 ·simp only [h,decide_true,Wd8];exact h1 h
 ·simp only [h,decide_false,Wc5];exact h2 h
theorem Wb6 {b:Bool} {X Y:Prop} (h1:b=true->X) (h2:b=false->Y):ifB b X Y:=by cases b <;> first | exact h1 rfl | exact h2 rfl
theorem WP6:und Tryz.prog 25=.slice 3:=by kernel_rfl
theorem WJ0:Wf4 Tryz.prog 3=true:=by kernel_rfl
theorem W50:zer Tryz.prog 3=some (iQ 0):=by kernel_rfl
theorem Wl7:siz Tryz.prog 3=1:=by kernel_rfl
theorem WA9:byt Tryz.prog 3=8:=by kernel_rfl
abbrev OwnI (h:Wa2) (a:Option Addr) (l c:Nat) (xs:List Int):Prop:=Own h 3 1 a l c (xs.map iv)
set_option maxRecDepth 20000 in
theorem Zv3 {h:Wa2} {a:Option Addr} {l c:Nat} {xs:List Int} {x:Int} {K:kQ} (ho:OwnI h a l c xs) (hl:l<=2 ^ 40)
  (H:∀a' c' h',OwnI h' a' (l+1) c' (xs ++ [x])->h.size<=h'.size->(∀b,b < h.size->(∀ad,a=some ad->ad.block≠b)->h'[b]? = h[b]?)->(a' = a\/∃b,a' = some (aQ b)/\h.size < b)->K (.slice a' (l+1) c') h') :
  Wt2 Tryz.prog #[25,25] 25 #[.slice a l c,.slice (some (aQ h.size)) 1 1] (h.push (.cells #[iv x] 3)) K:=by
 have ho':Own (h.push (.cells #[iv x] 3)) 3 (siz Tryz.prog 3) a l c (xs.map iv):=by
  have:=Own.keep (h':=h.push (.cells #[iv x] 3)) ho λad e=>Wj0 _ _ _ (ho.lt ad e)
  rwa [Wl7]
 refine Yz0 (P:=Tryz.prog) (t:=25) (elem:=3) (z:=iQ 0) (h:=h.push (.cells #[iv x] 3)) (K:=K) (a:=a) (a2:=some (aQ h.size)) (l:=l) (c:=c) (n2:=1) (xs:=xs.map iv) (ys:=[iv x]) (n:=1) WP6 WJ0 W50 (by rw [Wl7];rfl) ho' ?_ (by rw [Wl7];rfl) (by simp [Wi4]) (by rw [WA9];omega) (by rw [WA9];omega) ?_
 ·intro i v hi
  refine ⟨_,rfl,?_⟩
  rw [Wc4,Wc1 (Wo3 _ _)]
  cases i with
  | zero=>simpa using hi
  | succ i=>simp at hi
 ·intro a' c' h' h1 h2 h3 h4
  rw [Wl7] at h1
  refine H a' c' h' (by simpa [OwnI] using h1) (by simp at h2;omega) (λb hb hne=>?_) ?_
  ·rw [h3 b (by simp;omega) hne];exact Wj0 _ _ _ hb
  ·rcases h4 with h4 | h4
   ·exact .inl h4
   ·exact .inr ⟨_,h4,by simp⟩
end
section
theorem Wb5 {n:Int} (h0 : -9223372036854775808<=n) (h1:n<=9223372036854775807):IntKind.i64.wrap n=n:=by
 unfold IntKind.wrap IntKind.signed IntKind.bits
 by_cases h2:0<=n
 ·have e:n % 2 ^ 64=n:=Int.emod_eq_of_lt h2 (by omega)
  simp only [e]
  rw [if_neg (by simp;omega)]
 ·have e:n % 2 ^ 64=n+2 ^ 64:=by omega
  simp only [e]
  rw [if_pos (by simp;omega)];omega
theorem cl3 (y a b:Value):(#[y]:Array Value) ++ #[a,b]=#[y,a,b]:=rfl
theorem cl2 (y a:Value):(#[y]:Array Value) ++ #[a]=#[y,a]:=rfl
theorem RangeOk.self {ε:Type} {N:Nat} {h:Wa2} {Ev:Wa2->Prop} {I:Nat->Nat->Wa2->Prop} {X:Nat->ε->Wa2->Prop} (H:RangeOk N h Ev I X):I h.size 0 h:=H.start h (Nat.le_refl _) λ_ _=>rfl
end
section
theorem Wk0 {h:Wa2} {b:Nat} {v:Value} {t:TypeId} (hb:h[b]? = some (.cells #[v] t)):Wa1 h (aQ b)=some v:=by rw [Wc1 hb];rfl
end
section
theorem Wq0 {a:Addr} {v:Value}:∀h h',Old h.size h h'->Wa1 h a=some v->Wa1 h' a=some v:=λh h' ho hc=>(Wg0 (ho.2 _ (Wr5 hc))).trans hc
theorem ZN1 {h:Wa2} (o o':Obj):Old h.size h ((h.push o).push o')/\((h.push o).push o')[h.size]? = some o/\((h.push o).push o')[h.size+1]? = some o':=by
 refine ⟨((Old.refl _ _).push _ (Nat.le_refl _)).push _ (by simp),?_,?_⟩
 ·rw [Wj0 _ _ _ (by simp)];exact Wo3 _ _
 ·have:=Wo3 (h.push o) o'
  rwa [Array.size_push] at this
end
section
def OwnedW (M:Nat) (w:Nat->Prop) (h:Wa2):Prop:=∀b,w b->M<=b/\∃row t f,h[b]? = some (.cells row t f)
theorem OwnedW.none (M:Nat) (h:Wa2):OwnedW M (λ_=>False) h:=λ_ x=>x.elim
theorem OwnedW.lt {M:Nat} {w:Nat->Prop} {h:Wa2} (H:OwnedW M w h) {b:Nat} (hb:w b):b < h.size:=by
 obtain ⟨_,row,t,f,e⟩:=H b hb
 exact (Array.getElem?_eq_some_iff.1 e).1
def Dep {α:Type} (N:Nat) (S:α->(Nat->Prop)->Wa2->Prop):Prop:=
 ∀k w h1 h2,h1.size<=h2.size->(∀b,b < N->h2[b]? = h1[b]?)->(∀b,w b->h2[b]? = h1[b]?)->S k w h1->S k w h2
theorem W12 {M:Nat} {w:Nat->Prop} {ha hb:Wa2} (H:OwnedW M w ha) (e:∀b,w b->hb[b]? = ha[b]?):OwnedW M w hb:=λb hw=>by
 obtain ⟨h1,row,t,f,h2⟩:=H b hw
 exact ⟨h1,row,t,f,(e b hw).trans h2⟩
theorem Ym0 {ε : Type} {N : Nat} {h : Wa2} {Ev : Wa2 -> Prop} (S : Nat -> (Nat -> Prop) -> Wa2 -> Prop) (SX : ε -> (Nat -> Prop) -> Wa2 -> Prop)
    (hN : N <= h.size) (cS : Dep N S) (cX : Dep N SX) (eS : ∀ k w h', S k w h' -> Ev h') (s0 : S 0 (fun _ => False) h) :
    RangeOk N h Ev (fun M k h' => N <= h'.size /\ ∃ w, OwnedW M w h' /\ S k w h') (fun M e h' => N <= h'.size /\ ∃ w, OwnedW M w h' /\ SX e w h') := by
  have key : ∀ {α : Type} (T : α -> (Nat -> Prop) -> Wa2 -> Prop) (cT : Dep N T) (M : Nat) (k : α) (ha hb : Wa2), (N <= ha.size /\ ∃ w, OwnedW M w ha /\ T k w ha) -> Zd3 N M ha hb -> (N <= hb.size /\ ∃ w, OwnedW M w hb /\ T k w hb) := by
    rintro α T cT M k ha hb ⟨hs, w, ho, ht⟩ hk
    have e : ∀ b, w b -> hb[b]? = ha[b]? := fun b hw => hk.2 b (ho.lt hw) (.inr (ho b hw).1)
    exact ⟨Nat.le_trans hs hk.1, w, W12 ho e, cT k w ha hb hk.1 (fun b hb => hk.2 b (by omega) (.inl hb)) e ht⟩
  have key2 : ∀ {α : Type} (T : α -> (Nat -> Prop) -> Wa2 -> Prop) (cT : Dep N T) (M : Nat) (k : α) (ha hb : Wa2), SameD N ha hb -> (N <= ha.size /\ ∃ w, OwnedW M w ha /\ T k w ha) -> (N <= hb.size /\ ∃ w, OwnedW M w hb /\ T k w hb) := by
    rintro α T cT M k ha hb hd ⟨hs, w, ho, ht⟩
    have e : ∀ b, w b -> hb[b]? = ha[b]? := fun b hw => by
      obtain ⟨_, row, t, f, h2⟩ := ho b hw
      exact hd.cells h2
    exact ⟨by rw [hd.1]; exact hs, w, W12 ho e, cT k w ha hb (by rw [hd.1]; exact Nat.le_refl _) (fun b hb => hd.2 b (.inl hb)) e ht⟩
  exact { env := fun M k h' _ _ hI => by obtain ⟨_, w, _, ht⟩ := hI; exact eS _ _ _ ht, keepI := fun M k ha hb _ _ hI hk => key S cS M k ha hb hI hk, keepX := fun M e ha hb _ _ hX hk => key SX cX M e ha hb hX hk,
          dI := fun M k ha hb hd hI => key2 S cS M k ha hb hd hI, dX := fun M e ha hb hd hX => key2 SX cX M e ha hb hd hX,
          start := fun h1 hs hsame => ⟨Nat.le_trans hN hs, fun _ => False, OwnedW.none _ _, cS 0 _ h h1 hs hsame (fun _ x => x.elim) s0⟩ }
theorem YH0 {P:Program} {g:Value} {np:Nat} {h:Wa2} {B:(Exit->Wa2->Prop)->Array Value->Wa2->Prop} {D:Wa2->Prop} {Es:List (Exit × (Wa2->Prop))}
  {n:Nat} {xs:Nat->Array Value} {Ev:Wa2->Prop} (S:Nat->(Nat->Prop)->Wa2->Prop) (SX:Exit->(Nat->Prop)->Wa2->Prop)
  (hg:fnV g) (hseq:Zr8 P g n xs Ev) (hnp:∀k,k < n->(xs k).size=np) (cS:Dep h.size S) (cX:Dep h.size SX) (eS:∀k w h',S k w h'->Ev h') (s0:S 0 (λ_=>False) h)
  (hb:∀M k w h',k < n->h.size+2<=M->M<=h'.size->OwnedW M w h'->S k w h' ->
   B (λe h''=>KeepMid h.size M h' h''/\(match e with | .normal=>h.size<=h''.size/\∃w,OwnedW M w h''/\S (k+1) w h'' | e=>inE e Es/\h.size<=h''.size/\∃w,OwnedW M w h''/\SX e w h'')) (xs k) h')
  (hd:∀M w h',h.size+2<=M->M<=h'.size->OwnedW M w h'->S n w h'->D h')
  (he:ZD4 (λe F=>∀M w h',h.size+2<=M->M<=h'.size->OwnedW M w h'->SX e w h'->F h') Es):WQ9 P g np h B D Es:=by
 refine ⟨n,xs,Ev,λM k h'=>h.size<=h'.size/\∃w,OwnedW M w h'/\S k w h',λM e h'=>h.size<=h'.size/\∃w,OwnedW M w h'/\SX e w h',hg,hseq,hnp,eS _ _ _ s0,Ym0 S SX (Nat.le_refl _) cS cX eS s0,?_,?_,?_⟩
 ·rintro M k h' hk hM hs ⟨_,w,ho,ht⟩
  exact hb M k w h' hk hM hs ho ht
 ·rintro M h' hM hs ⟨_,w,ho,ht⟩
  exact hd M w h' hM hs ho ht
 ·clear hb
  generalize Es=L at he
  induction L with
  | nil=>trivial
  | cons p ps ih=>exact ⟨λM h' hM hs hx=>by obtain ⟨_,w,ho,ht⟩:=hx;exact he.1 M w h' hM hs ho ht,ih he.2⟩
theorem Yb8 {P : Program} {g : Value} {np : Nat} {h0 h : Wa2} {B : (Exit -> Wa2 -> Prop) -> Array Value -> Wa2 -> Prop} {D : Wa2 -> Prop} {Es : List (Exit × (Wa2 -> Prop))}
    {n : Nat} {xs : Nat -> Array Value} {Ev Ev' : Wa2 -> Prop} {N : Nat} {I : Nat -> Nat -> Wa2 -> Prop} {X : Nat -> Unit -> Wa2 -> Prop} (S : Nat -> Wa2 -> Prop) (c : Nat -> Nat) (n' : Nat) (q : Prop)
    (hg : fnV g) (hseq : Zr8 P g n xs Ev) (hnp : ∀ k, k < n -> (xs k).size = np) (hN : N <= h0.size) (ho : Old h0.size h0 h) (hok : RangeOk N h0 Ev' I X) (hev : ∀ h', Ev' h' -> Ev h') (hev0 : Ev h) (c0 : c 0 = 0) (cn : c n = n')
    (cS : ∀ k h1 h2, (∀ b, h0.size <= b -> b < h.size -> h2[b]? = h1[b]?) -> S k h1 -> S k h2) (s0 : S 0 h)
    (hb : ∀ M k h', k < n -> h.size + 2 <= M -> M <= h'.size -> S k h' -> I M (c k) h' ->
      B (fun e h'' => KeepMid h.size M h' h'' /\ (match e with | .normal => h.size <= h''.size /\ S (k + 1) h'' /\ I M (c (k + 1)) h'' | e => inE e Es /\ (X M () h'' \/ (q /\ I M n' h'')))) (xs k) h')
    (hd : ∀ M h', h.size + 2 <= M -> M <= h'.size -> I M n' h' -> D h')
    (he : ZD4 (fun e F => ∀ M h', h.size + 2 <= M -> M <= h'.size -> (X M () h' \/ (q /\ I M n' h')) -> F h') Es) : WQ9 P g np h B D Es := by
  have hs0 := ho.1
  refine ⟨n, xs, Ev, fun M k h' => h.size <= h'.size /\ S k h' /\ I M (c k) h', fun M e h' => X M () h' \/ (q /\ I M n' h'), hg, hseq, hnp, hev0, ?_, ?_, ?_, ?_⟩
  · have hk' : ∀ {M : Nat} {ha hb : Wa2}, Zd3 h.size M ha hb -> Zd3 N M ha hb := fun hk => ⟨hk.1, fun b h1 h2 => hk.2 b h1 (by omega)⟩
    refine { env := fun M k h' hM hs hI => hev _ (hok.env M _ h' (by omega) hs hI.2.2), keepI := fun M k ha hb hM hs hI hk => ⟨Nat.le_trans hI.1 hk.1, cS k ha hb (fun b h1 h2 => hk.2 b (by have := hI.1; omega) (.inl h2)) hI.2.1, hok.keepI M _ ha hb (by omega) hs hI.2.2 (hk' hk)⟩,
             keepX := fun M e ha hb hM hs hX hk => hX.imp (fun x => hok.keepX M _ ha hb (by omega) hs x (hk' hk)) (fun x => ⟨x.1, hok.keepI M _ ha hb (by omega) hs x.2 (hk' hk)⟩),
             dI := fun M k ha hb hd hI => ⟨by rw [hd.1]; exact hI.1, cS k ha hb (fun b h1 h2 => hd.2 b (.inl h2)) hI.2.1, hok.dI M _ ha hb (hd.mono (by omega)) hI.2.2⟩,
             dX := fun M e ha hb hd hX => hX.imp (hok.dX M _ ha hb (hd.mono (by omega))) (fun x => ⟨x.1, hok.dI M _ ha hb (hd.mono (by omega)) x.2⟩), start := fun ha hs hsame => ?_ }
    refine ⟨hs, cS 0 h ha (fun b h1 h2 => hsame b h2) s0, ?_⟩
    rw [c0]
    exact hok.start ha (by omega) (fun b hb => (hsame b (by omega)).trans (ho.2 b (by omega)))
  · rintro M k h' hk hM hs ⟨hsz, h1, h2⟩
    exact hb M k h' hk hM hs h1 h2
  · rintro M h' hM hs ⟨_, h1, h2⟩
    rw [cn] at h2
    exact hd M h' hM hs h2
  · exact he
end
section
theorem Zg0 {P:Program} {t elem:TypeId} {z:Value} {h:Wa2} {a a2:Option Addr} {n n2:Nat} {ys:List Value} {K:kQ}
  (hu:und P t=.slice elem) (hth:Wf4 P elem=true) (hz:zer P elem=some z) (hzs:z.cells.size=siz P elem)
  (hs:Sees h a2 ys) (hn:ys.length=n*siz P elem) (hone:∀y ∈ ys,Wi4 y True) (hb0:0 < byt P elem) (hb:(2*n+512)*byt P elem<=2 ^ 48)
  (H0:n=0->K (.slice a 0 0) h)
  (H:∀cap h',Own h' elem (siz P elem) (some (aQ h.size)) n cap ys->h'.size=h.size+1->Old h.size h h'->K (.slice (some (aQ h.size)) n cap) h') :
  Wt2 P #[t,t] t #[.slice a 0 0,.slice a2 n n2] h K:=by
 have hu':=Wc6 hu (by simp)
 obtain ⟨info,hinfo⟩:=Wt3 hth
 have hbyt:info.bytes=byt P elem:=by unfold byt;rw [hinfo]
 have first:∀(F:Array Value->Wa2->Prop),F ys.toArray h->hp P (Builtin.firstCells (siz P elem) n (.slice a2 n n2)) F h:=by
  intro F k
  cases a2 with
  | none=>
   have:ys = []:=by
    cases ys with
    | nil=>rfl
    | cons y ys=>obtain ⟨ad,e,_⟩:=hs 0 y rfl;cases e
   subst this;exact k
  | some ad=>
   show hp P (loadCells ad (n*siz P elem)) F h
   refine We5 ad _ 0 [] F ?_
   rw [<- hn]
   refine Wy5 ys 0 [] _ (λj v hj=>?_) (by simpa using k)
   obtain ⟨ad',e,hc⟩:=hs j v hj
   cases e;rwa [Nat.zero_add]
 unfold Wt2 Builtin.append_
 simp only [List.getElem?_toArray,List.getElem?_cons_zero,List.getElem?_cons_succ,Wa6,Wc0,Wa8 hu',Wd7 hth,Bool.false_eq_true,if_false]
 show hp P (Builtin.lenOf _) _ h
 simp only [Builtin.lenOf,Wc0]
 rw [WF5]
 split
 ·rename_i hcap
  have e2:n=0:=by omega
  subst e2
  have:ys = []:=by simpa using hn
  subst this
  simp only [Wa6]
  show hp P (if (!false)=true then _ else _) _ h
  refine first _ ?_
  cases a with
  | none=>
   simp only [Wa6,Wc0]
   exact H0 rfl
  | some ad=>
   simp only [Wa6]
   refine Wi9 _ _ h 0 _ ?_
   exact H0 rfl
 ·rename_i hcap
  simp only [Wa6,Wc0]
  have hbound:¬ Builtin.nextslicecap (0+n) 0*info.bytes > 2 ^ 48:=by
   rw [hbyt]
   have:=Nat.le_trans (Nat.mul_le_mul_right (byt P elem) (WD9 (0+n) 0 (by omega))) (by simpa using hb)
   omega
  simp only [Wa6,Wc0,Wg1 hinfo,WF5]
  rw [if_neg (by rw [hbyt];intro x;rcases x.2 with y | y <;> first | exact y | omega),if_neg hbound]
  show ∀tp,_
  intro tp
  rw [if_neg (by simp [Question.forced])]
  obtain ⟨cap,hcp⟩ : ∃cap,cap=(Question.appendCap (0+n) 0 elem).cut tp:=⟨_,rfl⟩
  have hcap2:0+n<=cap:=by rw [hcp];simp [Question.cut]
  rw [<- hcp]
  rw [show (Sem.pure cap:Sem Nat)=pure cap from rfl]
  simp only [Wa6,Wc0,Wg1 hinfo,Wt4]
  have old:∀(F:Array Value->Wa2->Prop),F #[] h->hp P (Builtin.firstCells (siz P elem) 0 (.slice a 0 0)) F h:=by
   intro F k
   cases a with
   | none=>exact k
   | some ad=>
    show hp P (loadCells ad (0*siz P elem)) F h
    rw [Nat.zero_mul]
    exact k
  refine old _ ?_
  rw [Wa6,if_pos (show (!false)=true from rfl)]
  refine first _ ?_
  simp only [Wa6]
  simp only [Wi5 hz]
  show K (.slice (some (aQ h.size)) (0+n) cap) (h.push _)
  have hzc:(Builtin.zeroCells z.cells (cap - (0+n))).size=(cap - (0+n))*siz P elem:=by rw [Wr0,hzs]
  rw [Nat.zero_add] at hcap2 hzc ⊢
  refine H cap _ ⟨by simp [hn],hcap2,.inr ⟨h.size,_,rfl,Wo3 _ _,?_,?_⟩⟩ (by simp) ((Old.refl _ _).push _ (Nat.le_refl _))
  ·simp only [Array.size_append,hzc,List.size_toArray,hn,<- Nat.add_mul,List.length_nil,Nat.zero_add]
   congr 1;omega
  ·simp only [Array.toList_append,List.toList_toArray,List.nil_append,Array.toList_empty]
   rw [List.take_left' (by simp [hn])]
end
section
def F81 (K:kQ) (h:Wa2) (xa:Option Addr) (xb xc:Nat):Prop:=
 (ifB (Option.isNone xa) (K (.slice none 0 0) h) (Wt2 Tryz.prog #[25,25] 25 #[.slice (some (aQ h.size)) 0 0,.slice xa xb xc] (Array.push h (.cells #[] 3)) λa b=>Wb3 a λa c d=>K (.slice a c d) b))
theorem call81 {K:kQ} {h:Wa2} {xa:Option Addr} {xb xc:Nat} (H:F81 K h xa xb xc):Wa5 Tryz.prog 81 #[(.slice xa xb xc)] h K:=
 cQ Tryz.func81 H
end
end Go.Proofs.YtahpbclnkofhfaaGreat
