/- Part 10 of what the proofs of this seat rest on: see the last text of the claim. -/
import Derived.Test.YtooaemmlgkdfoaaGreatQ2ca6a51328da
import Derived.Test.YtooaemmlgkdfoaaGreatProg
set_option linter.unusedSimpArgs false
set_option linter.unusedVariables false
set_option linter.ambiguousOpen false
set_option maxRecDepth 20000
namespace Go.Proofs.YtooaemmlgkdfoaaGreat
section
open Mod
theorem Sat.drop3q {h:Wa1} {A B C R:Hp} (H:Sat h (A*(B*(C*R)))):Sat h (A*(B*R)):=by
 rw [Yy2] at H
 exact H.drop
theorem MacOk.pushF {Q:Mod.Cf→Frm→Prop} {c:Mod.Cf} {i k:Nat} {m:Mac} {t:Thr} {fn:Int} {r:List Int} (h:MacOk Q c i m) (ht:m.th[k]? = some t) (he:t.fr = []) (hq:Q c ⟨fn,0,pad 10 r⟩):MacOk Q c i (m.setTh (m.th.set k (t.push fn r))):=by
 have hm:=List.mem_of_getElem? ht
 have o:=h.t t hm
 refine ⟨h.ok,h.p,h.w,?_,?_,?_⟩
 ·show (m.th.set k _).length≤6
  rw [List.length_set];exact h.n
 ·intro u hu
  rcases List.mem_or_eq_of_mem_set hu with hu | rfl
  ·exact h.t u hu
  ·refine ⟨?_,?_,o.pr,o.su,o.wo⟩
   ·intro f hf
    have hf:f ∈ t.fr ++ [⟨fn,0,pad 10 r⟩]:=hf
    rw [he] at hf
    rw [List.mem_singleton.1 hf]
    exact hq
   ·show Ys8 _ _ (t.fr ++ [(⟨fn,0,pad 10 r⟩ : Frm)]).reverse
    rw [he]
    exact ⟨trivial,trivial⟩
 ·have e:=WE6 (t':=t.push fn r) ht
  have e2:(t.push fn r).L=t.L:=by
   show t.retired.length+t.found.length+max (t.fr ++ [_]).length 1=t.retired.length+t.found.length+max t.fr.length 1
   rw [he]
   rfl
  have h2:m.mm.st.toNat+m.used.toNat+WZ5 m.th≤1000*i+2000:=h.T
  show m.mm.st.toNat+m.used.toNat+WZ5 (m.th.set k (t.push fn r))≤_
  omega
section
variable {K:Value→Wa1→Prop} {h:Wa1} {Q M f:Nat} {ins:Int} {Ts:List Nat} {m:Mac} {R:Hp} {d:Run→Run} {W:Run→Prop} {Inv:Nat→Mac→Prop}
structure GoP (d:Run→Run) (Inv:Nat→Mac→Prop) (k:Nat) (i0 N l:Nat) (m':Mac) (P:Mac→Hp) (h:Wa1) (n:Nat):Prop where
 ex:∃mi,Ys0 d k n mi=some m'∧n≤N∧Inv (i0+(N - n)) mi∧mi.th.length=l∧(Wc9 mi k).fr≠[]∧Sat h (P mi)
theorem WC8 (D:DoC f d W) (G:Yg8 d W ins Inv) {k i0 N:Nat} {m':Mac} (H:Sat h (suS Q M f ins Ts m*R)) (hk:k < m.th.length) (hne:(Wc9 m k).fr≠[]) (hI:Inv i0 m) (hN:i0+N≤90000) (hg:Ys0 d k N m=some m')
  (kk:∀h',Inv (i0+N) m'→m'.th.length=m.th.length→(Wc9 m' k).fr = []→Sat h' (suS Q M f ins Ts m' * R)→K (.agg #[.int .i64 (Wl8 (Wc9 m' k)).op,.int .u32 (Wl8 (Wc9 m' k)).key,.int .u32 (Wl8 (Wc9 m' k)).val]) h') :
  Wa5 Tryz.prog 118 #[mP Q,.int .i64 k] h K:=by
 refine call118 ?_
 unfold F118 cf de3 dl3 dw3
 have H1:=H.push (.cells (clc cl0).toArray 81)
 rw [show h.push (.cells #[.int .i64 0,.int .u32 0,.int .u32 0] 81)=h.push (.cells (clc cl0).toArray 81) from rfl]
 generalize h.push (.cells (clc cl0).toArray 81)=h1 at *
 generalize h.size=AB at *
 rw [Wb4] at H1
 obtain ⟨l,hl⟩ : ∃l,m.th.length=l:=⟨_,rfl⟩
 refine ⟨λ_ h'=>∃n,GoP d Inv k i0 N l m' (λmi=>suS Q M f ins Ts mi*(pt AB (.cells (clc cl0).toArray 81)*R)) h' n,λ_ h'=>Wu4 (GoP d Inv k i0 N l m' (λmi=>suS Q M f ins Ts mi*(pt AB (.cells (clc cl0).toArray 81)*R)) h'),⟨N,⟨m,hg,Nat.le_refl _,by rw [Nat.sub_self];exact hI,hl,hne,H1⟩⟩,?_⟩
 rintro v2 v3 g4 h5 HI
 obtain ⟨⟨mi,hgi,hnN,hIi,hli,hfi,HJ⟩,hmin⟩:=Ws3 HI
 obtain ⟨n0,hn⟩ : ∃n0,Wu4 (GoP d Inv k i0 N l m' (λmi=>suS Q M f ins Ts mi*(pt AB (.cells (clc cl0).toArray 81)*R)) h5)=n0:=⟨_,rfl⟩
 rw [hn] at hgi hnN hIi
 have hki:k < mi.th.length:=by omega
 refine Wa0 (Ws7 HJ hki ?_)
 have hb:(Wc9 mi k).fr.isEmpty=false:=by
  cases e:(Wc9 mi k).fr with
  | nil=>exact absurd e hfi
  | cons a l=>rfl
 rw [hb]
 try simp only [Wa7,bsx,Nat.reduceAdd,Int.reduceLE,Int.reduceLT,Int.reduceToNat]
 cases n0 with
 | zero=>unfold Ys0 at hgi;cases hgi
 | succ n=>
  unfold Ys0 at hgi
  obtain ⟨nn,z,hz,hs,hid,hzt,hI2⟩:=G.step (i0+(N - (n+1))) mi k _ hIi (by omega) (Wk2 hki) hfi
  have hstep:mi.step k d 40=some (!z.t.fr.isEmpty,z.m.setTh (mi.th.set k z.t)):=by
   unfold Mod.Mac.step at hgi ⊢
   rw [if_neg (by omega),Int.toNat_natCast] at hgi ⊢
   cases hb4:Mod.bits d 40 ⟨{ mi with acted:=false },mi.th.getD k (WC3 mi.p.c),k⟩ with
   | none=>rw [hb4] at hgi;cases hgi
   | some y=>
    have ey:z=y:=Ya6 hz hb4
    subst ey
    show some (!z.t.fr.isEmpty,{ z.m with th:=z.m.th.set k z.t })=_
    rw [hzt]
    rfl
  rw [hstep] at hgi
  have hI3:Inv (i0+(N - n)) (z.m.setTh (mi.th.set k z.t)):=by
   have e:i0+(N - (n+1))+1=i0+(N - n):=by omega
   rw [← e];exact hI2
  have hl2:(z.m.setTh (mi.th.set k z.t)).th.length=l:=by show (mi.th.set k z.t).length=l;rw [List.length_set];exact hli
  have hth:Wc9 (z.m.setTh (mi.th.set k z.t)) k=z.t:=Wz4 hki
  refine Wa0 (W52 D HJ (n:=nn) (z:=z) hki hfi hz hs hid (λhne2 h7 H7=>?_) λhnil h7 H7=>?_)
  ·have he:z.t.fr.isEmpty=false:=by
    cases e:z.t.fr with
    | nil=>exact absurd e hne2
    | cons a l=>rfl
   rw [he] at hgi
   have H8:=H7.push (.cells #[.int .i64 0,.int .u32 0,.int .u32 0] 81)
   generalize z.m.setTh (mi.th.set k z.t)=m2 at *
   try simp only [Wa7,bsx,Nat.reduceAdd,Int.reduceLE,Int.reduceLT,Int.reduceToNat]
   refine Wg4 ?_
   try simp only [Wa7,bsx,Nat.reduceAdd,Int.reduceLE,Int.reduceLT,Int.reduceToNat]
   refine Wj3 rfl (Wb5 rfl (Wb5 rfl (Wb5 rfl ?_)))
   try simp only [Wa7,bsx,Nat.reduceAdd,Int.reduceLE,Int.reduceLT,Int.reduceToNat]
   refine Wf4 ?_
   try simp only [Wa7,bsx,Nat.reduceAdd,Int.reduceLE,Int.reduceLT,Int.reduceToNat]
   generalize h7.push (.cells #[.int .i64 0,.int .u32 0,.int .u32 0] 81)=h8 at *
   generalize h7.size=A2 at *
   refine Wd6 (vs:=[.int .i64 0,.int .u32 0,.int .u32 0]) H8.at rfl (by simp [Wi6]) λh9 w=>?_
   have H9:=(H8.wr w.new w.old).drop
   have hP:GoP d Inv k i0 N l m' (λmi=>suS Q M f ins Ts mi*(pt AB (.cells (clc cl0).toArray 81)*R)) h9 n:=⟨m2,hgi,by omega,hI3,hl2,by rw [hth];exact hne2,H9⟩
   refine ⟨⟨n,hP⟩,?_⟩
   have hle:=(Ws3 ⟨n,hP⟩).2 n hP
   show Wu4 _ < Wu4 _
   rw [hn]
   omega
  ·rw [hnil] at hgi
   have hm':z.m.setTh (mi.th.set k z.t)=m':=Option.some.inj hgi
   rw [hm'] at hth hl2 hI3 H7
   have hI4:Inv (i0+N) m':=YF6 G (by omega) hI3
   have H8:=H7.push (.cells #[.int .i64 0,.int .u32 0,.int .u32 0] 81)
   try simp only [Wa7,bsx,Nat.reduceAdd,Int.reduceLE,Int.reduceLT,Int.reduceToNat]
   refine Wg4 ?_
   try simp only [Wa7,bsx,Nat.reduceAdd,Int.reduceLE,Int.reduceLT,Int.reduceToNat]
   refine Wj3 rfl (Wb5 rfl (Wb5 rfl (Wb5 rfl ?_)))
   try simp only [Wa7,bsx,Nat.reduceAdd,Int.reduceLE,Int.reduceLT,Int.reduceToNat]
   refine Wf4 ?_
   try simp only [Wa7,bsx,Nat.reduceAdd,Int.reduceLE,Int.reduceLT,Int.reduceToNat]
   generalize h7.push (.cells #[.int .i64 0,.int .u32 0,.int .u32 0] 81)=h8 at *
   generalize h7.size=A2 at *
   refine Wd6 (vs:=[.int .i64 (Wl8 z.t).op,.int .u32 (Wl8 z.t).key,.int .u32 (Wl8 z.t).val]) H8.at rfl (by simp [Wi6]) λh9 w=>?_
   have H9:=H8.wr w.new w.old
   refine ldR H9.at rfl (ldR H9.at rfl (ldR H9.at rfl ?_))
   have H10:=H9.drop
   rw [Wb4] at H10
   refine Wd6 (vs:=[.int .i64 (Wl8 z.t).op,.int .u32 (Wl8 z.t).key,.int .u32 (Wl8 z.t).val]) H10.at rfl (by simp [clc,Wi6]) λh11 w2=>?_
   have H11:=H10.wr w2.new w2.old
   refine ldR H11.at rfl (ldR H11.at rfl (ldR H11.at rfl ?_))
   rw [← hth]
   exact kk h11 hI4 (by omega) (by rw [hth];exact hnil) H11.drop
theorem Wu7 (D:DoC f d W) (G:Yg8 d W ins Inv) (hins:0≤ins∧ins≤100) {k i0 N:Nat} {c:Cl} {m':Mac} (H:Sat h (suS Q M f ins Ts m*R)) (hk:k < m.th.length) (he:(Wc9 m k).fr = []) (hI:Inv i0 m) (hN:i0+N≤90000) (hc:V c.key∧V c.val) (ho:YF7 c=true)
  (hg:Ys0 d k N (m.setTh (m.th.set k ((Wc9 m k).push (ins+c.op) [c.key,c.val])))=some m')
  (kk:∀h',Inv (i0+N) m'→m'.th.length=m.th.length→(Wc9 m' k).fr = []→Sat h' (suS Q M f ins Ts m' * R)→K (.tuple #[.agg #[.int .i64 (Wl8 (Wc9 m' k)).op,.int .u32 (Wl8 (Wc9 m' k)).key,.int .u32 (Wl8 (Wc9 m' k)).val],.int .i64 0]) h') :
  Wa5 Tryz.prog 64 #[mP Q,.int .i64 k,.agg #[.int .i64 c.op,.int .u32 c.key,.int .u32 c.val]] h K:=by
 refine call64 ?_
 unfold F64 g64 cf de3 dl3 dw3
 have H1:=H.push (.cells (clc c).toArray 54)
 rw [show h.push (.cells #[.int .i64 c.op,.int .u32 c.key,.int .u32 c.val] 54)=h.push (.cells (clc c).toArray 54) from rfl]
 generalize h.push (.cells (clc c).toArray 54)=h1 at *
 generalize h.size=CB at *
 have H2:=H1.push (.cells #[.int .i64 0,.int .u32 0,.int .u32 0] 81)
 generalize h1.push (.cells #[.int .i64 0,.int .u32 0,.int .u32 0] 81)=h2 at *
 generalize h1.size=AB at *
 have OC:=H2.at2
 refine ldR OC rfl (ldR OC rfl (ldR OC rfl ?_))
 have H3:Sat h2 (suS Q M f ins Ts m*(pt AB (.cells #[.int .i64 0,.int .u32 0,.int .u32 0] 81)*(pt CB (.cells (clc c).toArray 54)*R))):=Sat.ac H2 (by ac_rfl)
 have hop:0≤c.op∧c.op≤2:=by
  unfold YF7 at ho
  simp only [Bool.or_eq_true,Bool.and_eq_true,beq_iff_eq] at ho
  omega
 refine Wa0 (WC6 H3 hins hc (λhh=>by omega) (λ_ hh=>by rw [ho] at hh;cases hh) (λ_ _ hh=>absurd he (by rw [Int.toNat_natCast] at hh;exact hh)) λ_ _ _ h4 H4=>?_)
 rw [Int.toNat_natCast] at H4
 have hI1:=G.push i0 m k _ c hI (Wk2 hk) he hop hc.1 hc.2
 have hne:(Wc9 (m.setTh (m.th.set k ((Wc9 m k).push (ins+c.op) [c.key,c.val]))) k).fr≠[]:=by
  rw [Wz4 hk];unfold Mod.Thr.push;simp
 have hl0:(m.setTh (m.th.set k ((Wc9 m k).push (ins+c.op) [c.key,c.val]))).th.length=m.th.length:=by
  show (m.th.set k _).length=_;rw [List.length_set]
 generalize m.setTh (m.th.set k ((Wc9 m k).push (ins+c.op) [c.key,c.val]))=m0 at *
 try simp only [Wa7,bsx,Nat.reduceAdd,Int.reduceLE,Int.reduceLT,Int.reduceToNat]
 refine Wc3 (λhh=>by simp at hh) (λ_=>?_)
 refine Wa0 (WC8 D G H4 (by omega) hne hI1 hN hg λh5 hI2 hl2 he2 H5=>?_)
 try simp only [Wa7,bsx,Nat.reduceAdd,Int.reduceLE,Int.reduceLT,Int.reduceToNat]
 refine Wj3 rfl (Wb5 rfl (Wb5 rfl (Wb5 rfl ?_)))
 rw [Wb4] at H5
 refine Wd6 (vs:=[.int .i64 (Wl8 (Wc9 m' k)).op,.int .u32 (Wl8 (Wc9 m' k)).key,.int .u32 (Wl8 (Wc9 m' k)).val]) H5.at rfl (by simp [Wi6]) λh6 w=>?_
 have H6:=H5.wr w.new w.old
 refine ldR H6.at rfl (ldR H6.at rfl (ldR H6.at rfl ?_))
 exact kk h6 hI2 (by omega) he2 H6.drop.drop2
theorem WY6 (D:DoC f d W) (G:Yg8 d W ins Inv) (h31:ins≠31) (hins:0≤ins∧ins≤100) {i0 N:Nat} {m':Mac} (H:Sat h (suS Q M f ins Ts m*R)) (h1:m.th.length=1) (hp:m.p.c.threads=1) (he:(Wc9 m 0).fr = []) (hN:i0+N≤90000)
  (hI:Inv i0 (m.setTh (m.th.set 0 ((Wc9 m 0).push 6 [])))) (hg:Ys0 d (0:Nat) N (m.setTh (m.th.set 0 ((Wc9 m 0).push 6 [])))=some m')
  (kk:∀h',Inv (i0+N) m'→m'.th.length=1→(Wc9 m' 0).fr = []→Sat h' (suS Q M f ins Ts m' * R)→K (.int .i64 0) h') :
  Wa5 Tryz.prog 65 #[mP Q] h K:=by
 refine call65 ?_
 unfold F65 cf lI nP de3
 refine Wc3 (λhh=>by cases hh) (λ_=>?_)
 have hidle:(m.th.all λt=>t.fr.isEmpty)=true:=by
  rw [List.all_eq_true]
  intro t ht
  obtain ⟨i,hi,rfl⟩:=List.getElem_of_mem ht
  have e0:i=0:=by omega
  subst e0
  have:Wc9 m 0=m.th[0]:=by unfold Wc9;simp [h1]
  rw [← this,he];rfl
 refine Wa0 (WJ1 H (by rw [hp,h1];rfl) λh2 H2=>?_)
 rw [hidle]
 try simp only [Wa7,bsx,Nat.reduceAdd,Int.reduceLE,Int.reduceLT,Int.reduceToNat]
 refine ⟨λvs h'=>vs = []∧h' = h2,?_,?_⟩
 ·refine ldR (Ws6.1 H2).at rfl ?_
  try simp only [Wa7,bsx,Nat.reduceAdd,Int.reduceLE,Int.reduceLT,Int.reduceToNat]
  rw [show (ins == 31)=false from beq_eq_false_iff_ne.2 h31]
  first | exact ⟨rfl,rfl⟩ | trivial | exact rfl
 rintro g18 h19 ⟨_,rfl⟩
 refine Wa0 (Ww5 H2 λh3 o3=>?_)
 have H3:=H2.old o3
 rw [hp]
 try simp only [Wa7,bsx,Nat.reduceAdd,Int.reduceLE,Int.reduceLT,Int.reduceToNat]
 refine ⟨λvs h'=>(∃u,vs = [u,.int .i64 0])∧Sat h' (suS Q M f ins Ts m*R)∨(∃u,vs = [u,.int .i64 1])∧Inv (i0+N) m'∧m'.th.length=1∧(Wc9 m' 0).fr = []∧Sat h' (suS Q M f ins Ts m' * R),λvs _=>match vs with | [_,.int _ i]=>(1 - i).toNat | _=>0,.inl ⟨⟨_,rfl⟩,H3⟩,?_⟩
 rintro v25 v26 g27 h28 (⟨⟨u,e⟩,H4⟩ | ⟨⟨u,e⟩,hI4,hl4,he4,H4⟩)
 ·cases e
  try simp only [Wa7,bsx,Nat.reduceAdd,Int.reduceLE,Int.reduceLT,Int.reduceToNat]
  refine Wa6 (λ_=>?_) (λhh=>by first | omega | simp at hh)
  have hT0:=WI9 (Wg6.1 H4)
  obtain ⟨T,hT⟩ : ∃T,Ts[0]? = some T:=⟨_,List.getElem?_eq_getElem (by omega)⟩
  refine Wa0 (Wi2 H4 (λcc=>by omega) λT2 _ hT2=>?_)
  rw [show ((0:Int)).toNat=0 from rfl,hT] at hT2
  cases hT2
  try simp only [Wa7,bsx,Nat.reduceAdd,Int.reduceLE,Int.reduceLT,Int.reduceToNat]
  obtain ⟨tv,Q2,H5,re2⟩:=Wq6 (Wg6.1 H4) hT (Wk2 (by omega))
  refine Wa0 (Yz3 H5 (fn:=6) (a:=none) (l:=0) (c:=0) (rs:=[]) Args.none (by omega) (by show (Wc9 m 0).fr.length < _;rw [he];decide) λh6 b o _ _ H6=>?_)
  have H7:=Wg6.2 (re2 _ _ _ rfl (RunS.none H6))
  have hne:(Wc9 (m.setTh (m.th.set 0 ((Wc9 m 0).push 6 []))) 0).fr≠[]:=by
   rw [Wz4 (by omega)];unfold Mod.Thr.push;simp
  have hl0:(m.setTh (m.th.set 0 ((Wc9 m 0).push 6 []))).th.length=1:=by
   show (m.th.set 0 _).length=_;rw [List.length_set];exact h1
  have H7:Sat h6 (suS Q M f ins Ts (m.setTh (m.th.set 0 ((Wc9 m 0).push 6 [])))*R):=H7
  generalize m.setTh (m.th.set 0 ((Wc9 m 0).push 6 []))=m0 at *
  refine Wa0 (WC8 D G (k:=0) H7 (by omega) hne hI hN hg λh8 hI2 hl2 he2 H8=>?_)
  try simp only [Wa7,bsx,Nat.reduceAdd,Int.reduceLE,Int.reduceLT,Int.reduceToNat]
  refine Wj3 rfl (Wb5 rfl (Wb5 rfl (Wb5 rfl ?_)))
  have e1:s64 (0+1)=1:=by decide
  try rw [e1]
  refine ⟨.inr ⟨⟨_,rfl⟩,hI2,by omega,he2,H8⟩,?_⟩
  decide
 ·cases e
  try simp only [Wa7,bsx,Nat.reduceAdd,Int.reduceLE,Int.reduceLT,Int.reduceToNat]
  first
   | exact kk h28 hI4 hl4 he4 H4
   | exact Wa6 (λhh=>by omega) (λ_=>kk h28 hI4 hl4 he4 H4)
def YM6 (a:Int):Nat:=if a=0 then 67 else if a=1 then 68 else 69
def Wx6 (a:Int):Int:=if a=0 then 11 else if a=1 then 21 else 31
theorem WN9 {c:Mod.Cf} {a:Option Addr} {cc:Nat} {bs:List Int} {gh:Bool} (H:Sat h R) (hs:∀h' P,Sat h' (P*R)→Sees h' a (bs.map λn=>.int .u8 n)) (hl:bs.length≤65536) (hr:∀n ∈ bs,0≤n∧n < 256)
  (k0:okC c=false→∀h',Sat h' R→K (.tuple #[.pointer none,.int .i64 6]) h') (k1:okC c=true→∀h' Q M Ts,Sat h' (suS Q M (YM6 c.algo) (Wx6 c.algo) Ts (Wn1 c bs gh)*R)→K (.tuple #[mP Q,.int .i64 0]) h') :
  Wa5 Tryz.prog 23 #[cfV c,.slice a bs.length cc,.bool gh] h K:=by
 refine call23 ?_
 unfold F23 g23 cf lI dl7
 have H1:=H.push (.cells (cfc c).toArray 23)
 rw [show h.push (.cells #[.int .i64 c.algo,.int .i64 c.threads,.int .i64 c.nodes,.int .i64 c.level,.int .i64 c.batch,.int .i64 c.probes,.int .i64 c.scan] 23)=h.push (.cells (cfc c).toArray 23) from rfl]
 generalize h.push (.cells (cfc c).toArray 23)=h1 at *
 generalize h.size=CB at *
 have O:=H1.at
 refine ldR O rfl (ldR O rfl (ldR O rfl (ldR O rfl (ldR O rfl (ldR O rfl (ldR O rfl ?_))))))
 refine Wa0 (WY0 (c:=c) H1 (λh' P HP=>hs h' emp (by rw [Wr7];exact HP.drop.drop)) hl hr (λhc h2 H2=>?_) λhc h2 M Ts H2=>?_)
 ·try simp only [Wa7,bsx,Nat.reduceAdd,Int.reduceLE,Int.reduceLT,Int.reduceToNat]
  refine Wg4 ?_
  try simp only [Wa7,bsx,Nat.reduceAdd,Int.reduceLE,Int.reduceLT,Int.reduceToNat]
  refine Wf4 ?_
  try simp only [Wa7,bsx,Nat.reduceAdd,Int.reduceLE,Int.reduceLT,Int.reduceToNat]
  refine Wc3 (λ_=>?_) (λhh=>by simp at hh)
  exact k0 hc h2 H2.drop
 ·try simp only [Wa7,bsx,Nat.reduceAdd,Int.reduceLE,Int.reduceLT,Int.reduceToNat]
  refine Wg4 ?_
  try simp only [Wa7,bsx,Nat.reduceAdd,Int.reduceLE,Int.reduceLT,Int.reduceToNat]
  refine Wf4 ?_
  try simp only [Wa7,bsx,Nat.reduceAdd,Int.reduceLE,Int.reduceLT,Int.reduceToNat]
  refine Wc3 (λhh=>by simp at hh) (λ_=>?_)
  generalize Wn1 c bs gh=m at *
  have H3:=H2.push (.cells #[mP M,.nilFunc,.int .i64 0] 131)
  generalize h2.push (.cells #[mP M,.nilFunc,.int .i64 0] 131)=h3 at *
  generalize h2.size=QB at *
  refine ⟨λ_ h'=>Sat h' (suS QB M (YM6 c.algo) (Wx6 c.algo) Ts m*R),?_,?_⟩
  ·have OC:=(H3.drop.drop).at
   refine ldR OC rfl ?_
   try simp only [Wa7,bsx,Nat.reduceAdd,Int.reduceLE,Int.reduceLT,Int.reduceToNat]
   refine Wc3 (λe=>?_) (λe=>?_)
   ·have e:c.algo=0:=by simpa using e
    refine H3.st (i:=1) rfl trivial λh4 H4=>?_
    refine H4.st (i:=2) rfl trivial λh5 H5=>?_
    unfold YM6 Wx6
    rw [if_pos e,if_pos e]
    exact Ws6.2 (H5.drop3q)
   ·have e:¬ c.algo=0:=by simpa using e
    refine Wc3 (λe1=>?_) (λe1=>?_)
    ·have e1:c.algo=1:=by simpa using e1
     refine H3.st (i:=1) rfl trivial λh4 H4=>?_
     refine H4.st (i:=2) rfl trivial λh5 H5=>?_
     unfold YM6 Wx6
     rw [if_neg e,if_neg e,if_pos e1,if_pos e1]
     exact Ws6.2 (H5.drop3q)
    ·have e1:¬ c.algo=1:=by simpa using e1
     refine H3.st (i:=1) rfl trivial λh4 H4=>?_
     refine H4.st (i:=2) rfl trivial λh5 H5=>?_
     unfold YM6 Wx6
     rw [if_neg e,if_neg e,if_neg e1,if_neg e1]
     exact Ws6.2 (H5.drop3q)
  ·rintro v24 v25 g26 h27 H4
   exact k1 hc h27 QB M Ts H4
end
end
section
set_option maxRecDepth 100000
def F7 (K:Value→Wa1→Prop) (h:Wa1) (xa:Option Addr):Prop:=
 (cf 28 #[.pointer xa] h λa b=>We3 a λc=>Wb7 c 0 λc=>asAgg c λc=>We5 c 16 (YS4 c λc d e f g i j k l m n o p q r s=>We3 a λa=>Wb7 a 1 λa=>asBool a λa=>stH (Array.push b (.cells #[.int .i64 0,.int .i64 0,.int .i64 0,.int .i64 0,.int .i64 0,.int .i64 0,.int .i64 0,.int .i64 0,.int .i64 0,.int .i64 0,.int .i64 0,.int .i64 0,.int .i64 0,.int .i64 0,.int .i64 0,.slice none 0 0] 65)) ⟨b.size,0,none⟩ c λc=>stH c ⟨b.size,1,none⟩ d λc=>stH c ⟨b.size,2,none⟩ e λc=>stH c ⟨b.size,3,none⟩ f λc=>stH c ⟨b.size,4,none⟩ g λc=>stH c ⟨b.size,5,none⟩ i λc=>stH c ⟨b.size,6,none⟩ j λc=>stH c ⟨b.size,7,none⟩ k λc=>stH c ⟨b.size,8,none⟩ l λc=>stH c ⟨b.size,9,none⟩ m λc=>stH c ⟨b.size,10,none⟩ n λc=>stH c ⟨b.size,11,none⟩ o λc=>stH c ⟨b.size,12,none⟩ p λc=>stH c ⟨b.size,13,none⟩ q λc=>stH c ⟨b.size,14,none⟩ r λc=>stH c ⟨b.size,15,none⟩ s λc=>ifB (!a) (K (.slice none 0 0) c) (WP8 c b.size λa d e f g i j k l m n o p q r s=>cf 29 #[.agg #[a,d,e,f,g,i,j,k,l,m,n,o,p,q,r,s]] c λa c=>asInt .i64 a λa=>Wm4 Tryz.prog 44 a a c λa c=>Wb2 a λa d e=>WP8 c b.size λf g i j k l m n o p q r s t u v=>cf 29 #[.agg #[f,g,i,j,k,l,m,n,o,p,q,r,s,t,u,v]] c λc f=>asInt .i64 c λc=>exI λI83=>exM λm84=>(I83 [.tuple #[],.int .i64 0] f)∧(∀(f g:Value) (i:Env) (i:Wa1),(I83 [f,g] i)→(asInt .i64 g λj=>ifB (decide (j < c)) (asInt .i64 g λc=>ifB (decide (c > 0)) (WP8 i b.size λb j k l m n o p q r s t u v w x=>cf 30 #[.agg #[b,j,k,l,m,n,o,p,q,r,s,t,u,v,w,x],.int .i64 c] i λb j=>Wb2 b λb k l=>bd c (d:Int) (Wd4 (.pointer a) λm=>stH j (Addr.add m (c.toNat*1)) (.slice b k l) λb=>asInt .i64 g λj=>(I83 [.int .i64 c,.int .i64 (IntKind.wrap .i64 (j+1))] b)∧((m84 [.int .i64 c,.int .i64 (IntKind.wrap .i64 (j+1))] b) < (m84 [f,g] i)))) (asInt .i64 g λb=>(I83 [.int .i64 c,.int .i64 (IntKind.wrap .i64 (b+1))] i)∧((m84 [.int .i64 c,.int .i64 (IntKind.wrap .i64 (b+1))] i) < (m84 [f,g] i)))) (K (.slice a d e) i))))))
theorem call7 {K:Value→Wa1→Prop} {h:Wa1} {xa:Option Addr} (H:F7 K h xa):Wa5 Tryz.prog 7 #[(.pointer xa)] h K:=
 Wa4 Tryz.func7 (by kernel_rfl) (Eq.mp (by kernel_rfl) H)
abbrev g28 (K:Value→Wa1→Prop) (h H1:Wa1) (xa:Option Addr):Prop:=
 (exI λI0=>(ifB (Option.isNone xa) (I0 [.bool true,.bool true] H1) (cf 79 #[.pointer xa] H1 λa b=>asAgg a λa=>We5 a 15 (Wu0 a λa c d e f g i j k l m n o p q=>cf 80 #[.agg #[a,c,d,e,f,g,i,j,k,l,m,n,o,p,q]] b λa b=>asAgg a λa=>We5 a 7 (de7 a λa c c c c c c=>asInt .i64 a λa=>ifB (a != 0) (I0 [.bool (a != 0),.bool true] b) (cf 79 #[.pointer xa] b λb c=>asAgg b λb=>We5 b 15 (Wu0 b λb d e f g i j k l m n o p q r=>cf 44 #[.agg #[b,d,e,f,g,i,j,k,l,m,n,o,p,q,r]] c λb c=>asInt .i64 b λb=>I0 [.bool (a != 0),.bool (b == 0)] c))))))∧(∀(a b:Value) (c:Env) (c:Wa1),(I0 [a,b] c)→(asBool b λa=>ifB a (YM2 c h.size (.int .i64 0) (.int .i64 0) (.int .i64 0) (.int .i64 0) (.int .i64 0) (.int .i64 0) (.int .i64 0) (.int .i64 0) (.int .i64 0) (.int .i64 0) (.int .i64 0) (.int .i64 0) (.int .i64 0) (.int .i64 0) (.int .i64 0) (.slice none 0 0) λa=>WP8 a h.size λb d e f g i j k l m n o p q r s=>K (.tuple #[.agg #[b,d,e,f,g,i,j,k,l,m,n,o,p,q,r,s],.bool false]) a) (cf 79 #[.pointer xa] c λa b=>asAgg a λa=>We5 a 15 (Wu0 a λa c d e f g i j k l m n o p q=>cf 81 #[.pointer xa] b λb r=>Wd0 b λb=>cf 82 #[.pointer b] r λb r=>Wb2 b λb s t=>YM2 r h.size a c d e f g i j k l m n o p q (.slice b s t) λa=>WP8 a h.size λb c d e f g i j k l m n o p q r=>K (.tuple #[.agg #[b,c,d,e,f,g,i,j,k,l,m,n,o,p,q,r],.bool true]) a)))))
def F28 (K:Value→Wa1→Prop) (h:Wa1) (xa:Option Addr):Prop:=
 (g28 K h (Array.push h (.cells #[.int .i64 0,.int .i64 0,.int .i64 0,.int .i64 0,.int .i64 0,.int .i64 0,.int .i64 0,.int .i64 0,.int .i64 0,.int .i64 0,.int .i64 0,.int .i64 0,.int .i64 0,.int .i64 0,.int .i64 0,.slice none 0 0] 65)) xa)
theorem call28 {K:Value→Wa1→Prop} {h:Wa1} {xa:Option Addr} (H:F28 K h xa):Wa5 Tryz.prog 28 #[(.pointer xa)] h K:=
 Wa4 Tryz.func28 (by kernel_rfl) (Eq.mp (by kernel_rfl) H)
abbrev g29 (K:Value→Wa1→Prop) (h H1:Wa1):Prop:=
 (W92 H1 ⟨h.size,0,none⟩ λa b c d e f g i j k l m n o p=>cf 80 #[.agg #[a,b,c,d,e,f,g,i,j,k,l,m,n,o,p]] H1 λa b=>asAgg a λa=>We5 a 7 (de7 a λa a a a c c c=>asInt .i64 a λa=>((0:Int)≤a)∧(K (.int .i64 (IntKind.wrap .i64 (1*(2 ^ (min a.toNat 64))))) b)))
def F29 (K:Value→Wa1→Prop) (h:Wa1) (xa xb xc xd xe xf xg xh xi xj xk xl xm xn xo:Int) (xp:Option Addr) (xq xr:Nat):Prop:=
 (g29 K h (Array.push h (.cells #[.int .i64 xa,.int .i64 xb,.int .i64 xc,.int .i64 xd,.int .i64 xe,.int .i64 xf,.int .i64 xg,.int .i64 xh,.int .i64 xi,.int .i64 xj,.int .i64 xk,.int .i64 xl,.int .i64 xm,.int .i64 xn,.int .i64 xo,.slice xp xq xr] 65)))
theorem call29 {K:Value→Wa1→Prop} {h:Wa1} {xa xb xc xd xe xf xg xh xi xj xk xl xm xn xo:Int} {xp:Option Addr} {xq xr:Nat} (H:F29 K h xa xb xc xd xe xf xg xh xi xj xk xl xm xn xo xp xq xr):Wa5 Tryz.prog 29 #[(.agg #[(.int .i64 xa),(.int .i64 xb),(.int .i64 xc),(.int .i64 xd),(.int .i64 xe),(.int .i64 xf),(.int .i64 xg),(.int .i64 xh),(.int .i64 xi),(.int .i64 xj),(.int .i64 xk),(.int .i64 xl),(.int .i64 xm),(.int .i64 xn),(.int .i64 xo),(.slice xp xq xr)])] h K:=
 Wa4 Tryz.func29 (by kernel_rfl) (Eq.mp (by kernel_rfl) H)
abbrev g30 (K:Value→Wa1→Prop) (h H1:Wa1) (xa:Int):Prop:=
 (WP8 H1 h.size λa b c d e f g i j k l m n o p q=>cf 83 #[.agg #[a,b,c,d,e,f,g,i,j,k,l,m,n,o,p,q],.int .i64 xa] H1 λa b=>Wb2 a λa c d=>exI λI21=>exM λm22=>(I21 [.slice none 0 0,.tuple #[],.int .i64 0] b)∧(∀(b d e:Value) (f:Env) (f:Wa1),(I21 [b,d,e] f)→(asInt .i64 e λg=>ifB (decide (g < (c:Int))) (asI e λg=>bd g (c:Int) (Wd4 (.pointer a) λa=>lI .i64 f (Addr.add a (g.toNat*1)) λa=>Wb2 b λc g i=>WP8 f h.size λj k l m n o p q r s t u v w x y=>cf 84 #[.agg #[j,k,l,m,n,o,p,q,r,s,t,u,v,w,x,y],.int .i64 a] f λj k=>asAgg j λj=>We5 j 2 (de2 j λj l=>Wq0 Tryz.prog #[44,44] 44 #[.slice c g i,.slice (some ⟨k.size,0,none⟩) 1 1] (Array.push k (.cells #[j,l] 90)) λc g=>Wb2 c λc i j=>asInt .i64 e λk=>(I21 [.slice c i j,.int .i64 a,.int .i64 (IntKind.wrap .i64 (k+1))] g)∧((m22 [.slice c i j,.int .i64 a,.int .i64 (IntKind.wrap .i64 (k+1))] g) < (m22 [b,d,e] f))))) (Wb2 b λa b c=>K (.slice a b c) f))))
def F30 (K:Value→Wa1→Prop) (h:Wa1) (xa xb xc xd xe xf xg xh xi xj xk xl xm xn xo:Int) (xp:Option Addr) (xq xr:Nat) (xs:Int):Prop:=
 (g30 K h (Array.push h (.cells #[.int .i64 xa,.int .i64 xb,.int .i64 xc,.int .i64 xd,.int .i64 xe,.int .i64 xf,.int .i64 xg,.int .i64 xh,.int .i64 xi,.int .i64 xj,.int .i64 xk,.int .i64 xl,.int .i64 xm,.int .i64 xn,.int .i64 xo,.slice xp xq xr] 65)) xs)
theorem call30 {K:Value→Wa1→Prop} {h:Wa1} {xa xb xc xd xe xf xg xh xi xj xk xl xm xn xo:Int} {xp:Option Addr} {xq xr:Nat} {xs:Int} (H:F30 K h xa xb xc xd xe xf xg xh xi xj xk xl xm xn xo xp xq xr xs):Wa5 Tryz.prog 30 #[(.agg #[(.int .i64 xa),(.int .i64 xb),(.int .i64 xc),(.int .i64 xd),(.int .i64 xe),(.int .i64 xf),(.int .i64 xg),(.int .i64 xh),(.int .i64 xi),(.int .i64 xj),(.int .i64 xk),(.int .i64 xl),(.int .i64 xm),(.int .i64 xn),(.int .i64 xo),(.slice xp xq xr)]),(.int .i64 xs)] h K:=
 Wa4 Tryz.func30 (by kernel_rfl) (Eq.mp (by kernel_rfl) H)
abbrev g31 (K:Value→Wa1→Prop) (h H1:Wa1) (xa:Int):Prop:=
 (ldH H1 ⟨h.size,15,none⟩ λa=>Wb2 a λb c d=>W92 H1 ⟨h.size,0,none⟩ λd e f g i j k l m n o p q r s=>cf 85 #[.agg #[d,e,f,g,i,j,k,l,m,n,o,p,q,r,s],.int .i64 xa] H1 λd e=>asInt .i64 d λd=>ce e h.size 15 a (bd d (c:Int) (Wd4 (.pointer b) λa=>lI .u64 e (Addr.add a (d.toNat*1)) λa=>K (.int .u64 a) e)))
def F31 (K:Value→Wa1→Prop) (h:Wa1) (xa xb xc xd xe xf xg xh xi xj xk xl xm xn xo:Int) (xp:Option Addr) (xq xr:Nat) (xs:Int):Prop:=
 (g31 K h (Array.push h (.cells #[.int .i64 xa,.int .i64 xb,.int .i64 xc,.int .i64 xd,.int .i64 xe,.int .i64 xf,.int .i64 xg,.int .i64 xh,.int .i64 xi,.int .i64 xj,.int .i64 xk,.int .i64 xl,.int .i64 xm,.int .i64 xn,.int .i64 xo,.slice xp xq xr] 65)) xs)
theorem call31 {K:Value→Wa1→Prop} {h:Wa1} {xa xb xc xd xe xf xg xh xi xj xk xl xm xn xo:Int} {xp:Option Addr} {xq xr:Nat} {xs:Int} (H:F31 K h xa xb xc xd xe xf xg xh xi xj xk xl xm xn xo xp xq xr xs):Wa5 Tryz.prog 31 #[(.agg #[(.int .i64 xa),(.int .i64 xb),(.int .i64 xc),(.int .i64 xd),(.int .i64 xe),(.int .i64 xf),(.int .i64 xg),(.int .i64 xh),(.int .i64 xi),(.int .i64 xj),(.int .i64 xk),(.int .i64 xl),(.int .i64 xm),(.int .i64 xn),(.int .i64 xo),(.slice xp xq xr)]),(.int .i64 xs)] h K:=
 Wa4 Tryz.func31 (by kernel_rfl) (Eq.mp (by kernel_rfl) H)
abbrev g83 (K:Value→Wa1→Prop) (h H1:Wa1) (xa:Int):Prop:=
 (WP8 H1 h.size λa b c d e f g i j k l m n o p q=>cf 31 #[.agg #[a,b,c,d,e,f,g,i,j,k,l,m,n,o,p,q],.int .i64 xa] H1 λa b=>asInt .u64 a λa=>cf 36 #[.int .u64 a] b λa b=>asInt .i64 a λa=>W92 b ⟨h.size,0,none⟩ λc d e f g i j k l m n o p q r=>cf 80 #[.agg #[c,d,e,f,g,i,j,k,l,m,n,o,p,q,r]] b λb c=>asAgg b λb=>We5 b 7 (de7 b λb b b d d d d=>asInt .i64 b λb=>exI λI48=>exM λm49=>(I48 [.slice none 0 0,.int .i64 a,.tuple #[],.int .i64 0] c)∧(∀(a c d e:Value) (f:Env) (f:Wa1),(I48 [a,c,d,e] f)→(asInt .i64 e λg=>ifB (decide (g < b)) (W92 f ⟨h.size,0,none⟩ λb g i j k l m n o p q r s t u=>asInt .i64 c λv=>cf 99 #[.agg #[b,g,i,j,k,l,m,n,o,p,q,r,s,t,u],.int .i64 v,.int .i64 2] f λb g=>asInt .i64 b λb=>ifB (decide (b < 0)) (Wb2 a λi j k=>K (.slice i j k) g) (Wb2 a λi j k=>asInt .i64 c λl=>Wq0 Tryz.prog #[26,26] 26 #[.slice i j k,.slice (some ⟨g.size,0,none⟩) 1 1] (Array.push g (.cells #[.int .i64 l] 3)) λg i=>Wb2 g λg j k=>lS i ⟨h.size,15,none⟩ λl m n=>bd b (m:Int) (Wd4 (.pointer l) λl=>lI .u64 i (Addr.add l (b.toNat*1)) λl=>asInt .i64 e λm=>(I48 [.slice g j k,.int .i64 (IntKind.wrap .i64 l),.int .i64 b,.int .i64 (IntKind.wrap .i64 (m+1))] i)∧((m49 [.slice g j k,.int .i64 (IntKind.wrap .i64 l),.int .i64 b,.int .i64 (IntKind.wrap .i64 (m+1))] i) < (m49 [a,c,d,e] f))))) (Wb2 a λa b c=>K (.slice a b c) f)))))
def F83 (K:Value→Wa1→Prop) (h:Wa1) (xa xb xc xd xe xf xg xh xi xj xk xl xm xn xo:Int) (xp:Option Addr) (xq xr:Nat) (xs:Int):Prop:=
 (g83 K h (Array.push h (.cells #[.int .i64 xa,.int .i64 xb,.int .i64 xc,.int .i64 xd,.int .i64 xe,.int .i64 xf,.int .i64 xg,.int .i64 xh,.int .i64 xi,.int .i64 xj,.int .i64 xk,.int .i64 xl,.int .i64 xm,.int .i64 xn,.int .i64 xo,.slice xp xq xr] 65)) xs)
theorem call83 {K:Value→Wa1→Prop} {h:Wa1} {xa xb xc xd xe xf xg xh xi xj xk xl xm xn xo:Int} {xp:Option Addr} {xq xr:Nat} {xs:Int} (H:F83 K h xa xb xc xd xe xf xg xh xi xj xk xl xm xn xo xp xq xr xs):Wa5 Tryz.prog 83 #[(.agg #[(.int .i64 xa),(.int .i64 xb),(.int .i64 xc),(.int .i64 xd),(.int .i64 xe),(.int .i64 xf),(.int .i64 xg),(.int .i64 xh),(.int .i64 xi),(.int .i64 xj),(.int .i64 xk),(.int .i64 xl),(.int .i64 xm),(.int .i64 xn),(.int .i64 xo),(.slice xp xq xr)]),(.int .i64 xs)] h K:=
 Wa4 Tryz.func83 (by kernel_rfl) (Eq.mp (by kernel_rfl) H)
abbrev g84 (K:Value→Wa1→Prop) (h H1 H2:Wa1) (xa:Int):Prop:=
 (ldH H2 ⟨h.size,15,none⟩ λa=>Wb2 a λb c d=>W92 H2 ⟨h.size,0,none⟩ λd e f g i j k l m n o p q r s=>ldH H2 ⟨h.size,15,none⟩ λt=>Wb2 t λu v w=>W92 H2 ⟨h.size,0,none⟩ λw x y z A B C D E F G H I J L=>cf 99 #[.agg #[d,e,f,g,i,j,k,l,m,n,o,p,q,r,s],.int .i64 xa,.int .i64 0] H2 λd e=>asInt .i64 d λd=>ce e h.size 0 w (((Wa2 e (Addr.add ⟨h.size,0,none⟩ 1))=(some x))∧(((Wa2 e (Addr.add ⟨h.size,0,none⟩ 2))=(some y))∧(((Wa2 e (Addr.add ⟨h.size,0,none⟩ 3))=(some z))∧(((Wa2 e (Addr.add ⟨h.size,0,none⟩ 4))=(some A))∧(((Wa2 e (Addr.add ⟨h.size,0,none⟩ 5))=(some B))∧(((Wa2 e (Addr.add ⟨h.size,0,none⟩ 6))=(some C))∧(((Wa2 e (Addr.add ⟨h.size,0,none⟩ 7))=(some D))∧(((Wa2 e (Addr.add ⟨h.size,0,none⟩ 8))=(some E))∧(((Wa2 e (Addr.add ⟨h.size,0,none⟩ 9))=(some F))∧(((Wa2 e (Addr.add ⟨h.size,0,none⟩ 10))=(some G))∧(((Wa2 e (Addr.add ⟨h.size,0,none⟩ 11))=(some H))∧(((Wa2 e (Addr.add ⟨h.size,0,none⟩ 12))=(some I))∧(((Wa2 e (Addr.add ⟨h.size,0,none⟩ 13))=(some J))∧(((Wa2 e (Addr.add ⟨h.size,0,none⟩ 14))=(some L))∧(ce e h.size 15 t (ce e h.size 15 a (bd d (c:Int) (Wd4 (.pointer b) λb=>ldH e (Addr.add b (d.toNat*1)) λc=>asInt .u64 c λf=>cf 99 #[.agg #[w,x,y,z,A,B,C,D,E,F,G,H,I,J,L],.int .i64 xa,.int .i64 1] e λe g=>asInt .i64 e λe=>((Wa2 g (Addr.add b (d.toNat*1)))=(some c))∧(ce g h.size 15 t (ce g h.size 15 a (bd e (v:Int) (Wd4 (.pointer u) λa=>lI .u64 g (Addr.add a (e.toNat*1)) λa=>dw2 g H1.size (.int .u32 (IntKind.wrap .u32 f)) (.int .u32 (IntKind.wrap .u32 a)) λa=>dl2 a H1.size λb c=>K (.agg #[b,c]) a)))))))))))))))))))))))
def F84 (K:Value→Wa1→Prop) (h:Wa1) (xa xb xc xd xe xf xg xh xi xj xk xl xm xn xo:Int) (xp:Option Addr) (xq xr:Nat) (xs:Int):Prop:=
 (g84 K h (Array.push h (.cells #[.int .i64 xa,.int .i64 xb,.int .i64 xc,.int .i64 xd,.int .i64 xe,.int .i64 xf,.int .i64 xg,.int .i64 xh,.int .i64 xi,.int .i64 xj,.int .i64 xk,.int .i64 xl,.int .i64 xm,.int .i64 xn,.int .i64 xo,.slice xp xq xr] 65)) (Array.push (Array.push h (.cells #[.int .i64 xa,.int .i64 xb,.int .i64 xc,.int .i64 xd,.int .i64 xe,.int .i64 xf,.int .i64 xg,.int .i64 xh,.int .i64 xi,.int .i64 xj,.int .i64 xk,.int .i64 xl,.int .i64 xm,.int .i64 xn,.int .i64 xo,.slice xp xq xr] 65)) (.cells #[.int .u32 0,.int .u32 0] 90)) xs)
theorem call84 {K:Value→Wa1→Prop} {h:Wa1} {xa xb xc xd xe xf xg xh xi xj xk xl xm xn xo:Int} {xp:Option Addr} {xq xr:Nat} {xs:Int} (H:F84 K h xa xb xc xd xe xf xg xh xi xj xk xl xm xn xo xp xq xr xs):Wa5 Tryz.prog 84 #[(.agg #[(.int .i64 xa),(.int .i64 xb),(.int .i64 xc),(.int .i64 xd),(.int .i64 xe),(.int .i64 xf),(.int .i64 xg),(.int .i64 xh),(.int .i64 xi),(.int .i64 xj),(.int .i64 xk),(.int .i64 xl),(.int .i64 xm),(.int .i64 xn),(.int .i64 xo),(.slice xp xq xr)]),(.int .i64 xs)] h K:=
 Wa4 Tryz.func84 (by kernel_rfl) (Eq.mp (by kernel_rfl) H)
end
section
open Mod
def Wk9 (p:Pl) (w:List Int):Nat→Int→List Int
 | 0,_=>[]
 | n+1,i=>if p.node i 2 < 0 then [] else i :: Wk9 p w n (s64 (w.getD (p.node i 2).toNat 0))
def Ww6 (p:Pl) (w:List Int) (i:Int):Int:=Wx9 (w.getD (p.at i).toNat 0)
abbrev Bp:=Int × Int
def bpc (x:Bp):List Value:=[.int .u32 x.1,.int .u32 x.2]
def Wu8 (p:Pl) (w:List Int) (i:Int):Bp:=(u32 (w.getD (p.node i 0).toNat 0),u32 (w.getD (p.node i 1).toNat 0))
def WC9 (p:Pl) (w:List Int) (i:Int):List Bp:=(Wk9 p w p.c.nodes.toNat (Ww6 p w i)).map (Wu8 p w)
def Wg7 (p:Pl) (w:List Int):List (List Bp):=(List.range (2 ^ p.c.level.toNat)).map λ(i:Nat)=>if i=0 then [] else WC9 p w i
structure YG1 (p:Pl) (w:List Int):Prop where
 P:PlB p
 hw:(w.length:Int)=p.size
 hu:∀v ∈ w,U v
 nd:p.nodes+p.c.nodes*p.width=p.tree
 tr:p.size - p.tree=2 ^ p.c.level.toNat
abbrev vwc (p:Pl) (a:Option Addr) (n c:Nat):List Value:=[.int .i64 p.c.algo,.int .i64 p.c.threads,.int .i64 p.c.nodes,.int .i64 p.c.level,.int .i64 p.c.batch,.int .i64 p.c.probes,.int .i64 p.c.scan,.int .i64 p.slots,.int .i64 p.width,.int .i64 p.sent,.int .i64 p.hazards,.int .i64 p.links,.int .i64 p.nodes,.int .i64 p.tree,.int .i64 p.size,.slice a n c]
def vwV (p:Pl) (a:Option Addr) (n c:Nat):Value:=.agg #[.int .i64 p.c.algo,.int .i64 p.c.threads,.int .i64 p.c.nodes,.int .i64 p.c.level,.int .i64 p.c.batch,.int .i64 p.c.probes,.int .i64 p.c.scan,.int .i64 p.slots,.int .i64 p.width,.int .i64 p.sent,.int .i64 p.hazards,.int .i64 p.links,.int .i64 p.nodes,.int .i64 p.tree,.int .i64 p.size,.slice a n c]
theorem Yt0 (h:Wa1) (p:Pl) (a:Option Addr) (n c:Nat):h.push (.cells #[.int .i64 p.c.algo,.int .i64 p.c.threads,.int .i64 p.c.nodes,.int .i64 p.c.level,.int .i64 p.c.batch,.int .i64 p.c.probes,.int .i64 p.c.scan,.int .i64 p.slots,.int .i64 p.width,.int .i64 p.sent,.int .i64 p.hazards,.int .i64 p.links,.int .i64 p.nodes,.int .i64 p.tree,.int .i64 p.size,.slice a n c] 65)=h.push (.cells (vwc p a n c).toArray 65):=rfl
theorem YY1 {p:Pl} {a:Option Addr} {n c:Nat} {F:Value→Value→Value→Value→Value→Value→Value→Value→Value→Value→Value→Value→Value→Value→Value→Value→Prop} (k:F (.int .i64 p.c.algo) (.int .i64 p.c.threads) (.int .i64 p.c.nodes) (.int .i64 p.c.level) (.int .i64 p.c.batch) (.int .i64 p.c.probes) (.int .i64 p.c.scan) (.int .i64 p.slots) (.int .i64 p.width) (.int .i64 p.sent) (.int .i64 p.hazards) (.int .i64 p.links) (.int .i64 p.nodes) (.int .i64 p.tree) (.int .i64 p.size) (.slice a n c)):asAgg (vwV p a n c) λvs=>We5 vs 16 (Wb7 vs 0 λv0=>Wb7 vs 1 λv1=>Wb7 vs 2 λv2=>Wb7 vs 3 λv3=>Wb7 vs 4 λv4=>Wb7 vs 5 λv5=>Wb7 vs 6 λv6=>Wb7 vs 7 λv7=>Wb7 vs 8 λv8=>Wb7 vs 9 λv9=>Wb7 vs 10 λv10=>Wb7 vs 11 λv11=>Wb7 vs 12 λv12=>Wb7 vs 13 λv13=>Wb7 vs 14 λv14=>Wb7 vs 15 λv15=>F v0 v1 v2 v3 v4 v5 v6 v7 v8 v9 v10 v11 v12 v13 v14 v15):=k
theorem Yt1 {h:Wa1} {N:Nat} {p:Pl} {a:Option Addr} {n c:Nat} {ty:TypeId} {F:Value→Value→Value→Value→Value→Value→Value→Value→Value→Value→Value→Value→Value→Value→Value→Prop} (O:h[N]? = some (.cells (vwc p a n c).toArray ty)) (k:F (.int .i64 p.c.algo) (.int .i64 p.c.threads) (.int .i64 p.c.nodes) (.int .i64 p.c.level) (.int .i64 p.c.batch) (.int .i64 p.c.probes) (.int .i64 p.c.scan) (.int .i64 p.slots) (.int .i64 p.width) (.int .i64 p.sent) (.int .i64 p.hazards) (.int .i64 p.links) (.int .i64 p.nodes) (.int .i64 p.tree) (.int .i64 p.size)) :
  ldH h ⟨N,0,none⟩ λv0=>ldH h ⟨N,1,none⟩ λv1=>ldH h ⟨N,2,none⟩ λv2=>ldH h ⟨N,3,none⟩ λv3=>ldH h ⟨N,4,none⟩ λv4=>ldH h ⟨N,5,none⟩ λv5=>ldH h ⟨N,6,none⟩ λv6=>ldH h ⟨N,7,none⟩ λv7=>ldH h ⟨N,8,none⟩ λv8=>ldH h ⟨N,9,none⟩ λv9=>ldH h ⟨N,10,none⟩ λv10=>ldH h ⟨N,11,none⟩ λv11=>ldH h ⟨N,12,none⟩ λv12=>ldH h ⟨N,13,none⟩ λv13=>ldH h ⟨N,14,none⟩ λv14=>F v0 v1 v2 v3 v4 v5 v6 v7 v8 v9 v10 v11 v12 v13 v14:=
 ldR O rfl (ldR O rfl (ldR O rfl (ldR O rfl (ldR O rfl (ldR O rfl (ldR O rfl (ldR O rfl (ldR O rfl (ldR O rfl (ldR O rfl (ldR O rfl (ldR O rfl (ldR O rfl (ldR O rfl k))))))))))))))
theorem W58 {h:Wa1} {N:Nat} {p:Pl} {a:Option Addr} {n c:Nat} {ty:TypeId} {F:Value→Value→Value→Value→Value→Value→Value→Value→Value→Value→Value→Value→Value→Value→Value→Value→Prop} (O:h[N]? = some (.cells (vwc p a n c).toArray ty)) (k:F (.int .i64 p.c.algo) (.int .i64 p.c.threads) (.int .i64 p.c.nodes) (.int .i64 p.c.level) (.int .i64 p.c.batch) (.int .i64 p.c.probes) (.int .i64 p.c.scan) (.int .i64 p.slots) (.int .i64 p.width) (.int .i64 p.sent) (.int .i64 p.hazards) (.int .i64 p.links) (.int .i64 p.nodes) (.int .i64 p.tree) (.int .i64 p.size) (.slice a n c)) :
  ldH h ⟨N,0,none⟩ λv0=>ldH h ⟨N,1,none⟩ λv1=>ldH h ⟨N,2,none⟩ λv2=>ldH h ⟨N,3,none⟩ λv3=>ldH h ⟨N,4,none⟩ λv4=>ldH h ⟨N,5,none⟩ λv5=>ldH h ⟨N,6,none⟩ λv6=>ldH h ⟨N,7,none⟩ λv7=>ldH h ⟨N,8,none⟩ λv8=>ldH h ⟨N,9,none⟩ λv9=>ldH h ⟨N,10,none⟩ λv10=>ldH h ⟨N,11,none⟩ λv11=>ldH h ⟨N,12,none⟩ λv12=>ldH h ⟨N,13,none⟩ λv13=>ldH h ⟨N,14,none⟩ λv14=>ldH h ⟨N,15,none⟩ λv15=>F v0 v1 v2 v3 v4 v5 v6 v7 v8 v9 v10 v11 v12 v13 v14 v15:=
 ldR O rfl (ldR O rfl (ldR O rfl (ldR O rfl (ldR O rfl (ldR O rfl (ldR O rfl (ldR O rfl (ldR O rfl (ldR O rfl (ldR O rfl (ldR O rfl (ldR O rfl (ldR O rfl (ldR O rfl (ldR O rfl k)))))))))))))))
theorem YS6 {h:Wa1} {b:Nat} {v0 v1 v2 v3 v4 v5 v6 v7 v8 v9 v10 v11 v12 v13 v14 v15:Value} {K:Wa1→Prop} (H:stN h ⟨b,0,none⟩ 0 [v0,v1,v2,v3,v4,v5,v6,v7,v8,v9,v10,v11,v12,v13,v14,v15] K) :
 stH h ⟨b,0,none⟩ v0 λh=>stH h ⟨b,1,none⟩ v1 λh=>stH h ⟨b,2,none⟩ v2 λh=>stH h ⟨b,3,none⟩ v3 λh=>stH h ⟨b,4,none⟩ v4 λh=>stH h ⟨b,5,none⟩ v5 λh=>stH h ⟨b,6,none⟩ v6 λh=>stH h ⟨b,7,none⟩ v7 λh=>stH h ⟨b,8,none⟩ v8 λh=>stH h ⟨b,9,none⟩ v9 λh=>stH h ⟨b,10,none⟩ v10 λh=>stH h ⟨b,11,none⟩ v11 λh=>stH h ⟨b,12,none⟩ v12 λh=>stH h ⟨b,13,none⟩ v13 λh=>stH h ⟨b,14,none⟩ v14 λh=>stH h ⟨b,15,none⟩ v15 K:=H
theorem Yt2 {h:Wa1} {a:Option Addr} {w:List Int} (S:Sees h a (uvs w)) {i:Nat} (hi:i < w.length):∃ad,a=some ad∧Wa2 h (ad.add i)=some (.int .u64 (w.getD i 0)):=by
 refine S i _ ?_
 unfold uvs
 rw [List.getElem?_map,List.getElem?_eq_getElem hi]
 simp [hi]
theorem W59 {p:Pl} {w:List Int} (V:YG1 p w) {i f:Int} (h:¬ p.node i f < 0):0≤p.node i f∧p.node i f < w.length:=by
 have b1:=V.P.wi
 have b2:=V.P.no
 have b3:=V.P.si
 have b4:=V.P.nd
 have b5:=V.P.li
 have b6:=V.nd
 have b7:=V.hw
 unfold Pl.node at *
 split at h
 ·rename_i c
  rw [if_pos c]
  have h1:(i - 1)*p.width≤(p.c.nodes - 1)*p.width:=Int.mul_le_mul_of_nonneg_right (by omega) (by omega)
  have h2:0≤(i - 1)*p.width:=Int.mul_nonneg (by omega) (by omega)
  have h3:(p.c.nodes - 1)*p.width=p.c.nodes*p.width - p.width:=by rw [Int.sub_mul,Int.one_mul]
  omega
 ·omega
theorem Yt3 {p:Pl} (P:PlB p) {i f g:Int} (h:¬ p.node i f < 0) (hg:0≤g∧g < p.width):¬ p.node i g < 0:=by
 have b1:=P.wi
 have b4:=P.nd
 have b5:=P.li
 unfold Pl.node at *
 split at h
 ·rename_i c
  rw [if_pos ⟨c.1,c.2.1,hg.1,hg.2⟩]
  have h2:0≤(i - 1)*p.width:=Int.mul_nonneg (by omega) (by omega)
  omega
 ·omega
theorem WO0 {p:Pl} {w:List Int}:∀ {n:Nat} {i j:Int},j ∈ Wk9 p w n i→¬ p.node j 2 < 0
 | 0,_,_,h=>by cases h
 | n+1,i,j,h=>by
  unfold Wk9 at h
  split at h
  ·cases h
  ·rename_i c
   rcases List.mem_cons.1 h with rfl | h
   ·exact c
   ·exact WO0 h
theorem Wx7 {p:Pl} {w:List Int}:∀(n:Nat) (i:Int),(Wk9 p w n i).length≤n
 | 0,_=>Nat.le_refl _
 | n+1,i=>by
  unfold Wk9
  split
  ·simp
  ·simp only [List.length_cons]
   have:=Wx7 (p:=p) (w:=w) n (s64 (w.getD (p.node i 2).toNat 0))
   omega
theorem Sat.drop3 {h:Wa1} {A B C R:Hp} (H:Sat h (A*(B*(C*R)))):Sat h (A*(B*R)):=by
 rw [Yy2] at H
 exact H.drop
theorem YG2:und Tryz.prog 44=.slice 90:=by kernel_rfl
theorem Yb2:Wf2 Tryz.prog 90=true:=by kernel_rfl
theorem YG3:zer Tryz.prog 90=some (.agg #[.int .u32 0,.int .u32 0]):=by kernel_rfl
theorem WD0:siz Tryz.prog 90=2:=by kernel_rfl
theorem Yb3:byt Tryz.prog 90=8:=by kernel_rfl
theorem YR4:Wm9 Tryz.prog 44 = [.slice none 0 0]:=by kernel_rfl
theorem YL2:byt Tryz.prog 44=24:=by kernel_rfl
theorem YL3 (n:Nat) (h:n < 100000):s64 (n:Int)=n:=by unfold s64;omega
section
variable {K:Value→Wa1→Prop} {h:Wa1} {R:Hp} {p:Pl} {w:List Int} {a:Option Addr} {c:Nat}
theorem YG4 {a:Option Addr} {l c:Nat} {xs:List Bp} {x:Bp} {X:Hp} {F:Value→Wa1→Prop} (H:Sat h (We4 90 2 a l c (xs.flatMap bpc)*X)) (hl:l≤60000)
  (k:∀a' c' h',Sat h' (We4 90 2 a' (l+1) c' ((xs ++ [x]).flatMap bpc)*X)→F (.slice a' (l+1) c') h') :
  Wq0 Tryz.prog #[44,44] 44 #[.slice a l c,.slice (some ⟨h.size,0,none⟩) 1 1] (h.push (.cells #[.int .u32 x.1,.int .u32 x.2] 90)) F:=by
 have H1:=H.push (.cells (bpc x).toArray 90)
 have hs:Sees (h.push (.cells (bpc x).toArray 90)) (some ⟨h.size,0,none⟩) (bpc x):=Ya8
 have e:(.cells #[.int .u32 x.1,.int .u32 x.2] 90:Obj)=.cells (bpc x).toArray 90:=rfl
 rw [e]
 have H2:Sat (h.push (.cells (bpc x).toArray 90)) (We4 90 (siz Tryz.prog 90) a l c (xs.flatMap bpc)*X):=by
  rw [WD0];exact H1.drop
 refine H2.app YG2 Yb2 YG3 (by rw [WD0];rfl) hs (n:=1) (by rw [WD0];rfl) (by simp [bpc,Wi6]) (by rw [Yb3];omega) (by rw [Yb3];omega) λa' c' h' H3=>k a' c' h' ?_
 rw [WD0] at H3
 rw [List.flatMap_append,List.flatMap_singleton]
 exact H3
theorem WD1 (P:PlB p) (H:Sat h R) {n:Nat} (k:∀h',Sat h' R→K (.int .i64 ((2 ^ p.c.level.toNat:Nat):Int)) h'):Wa5 Tryz.prog 29 #[vwV p a n c] h K:=by
 refine call29 ?_
 unfold F29 g29 cf W92 de7
 rw [Yt0]
 have H1:=H.push (.cells (vwc p a n c).toArray 65)
 generalize h.push (.cells (vwc p a n c).toArray 65)=h1 at *
 generalize h.size=N at *
 refine Yt1 H1.at ?_
 refine Wa0 (Wh0 λh2 o2=>cf7 ?_)
 try simp only [Wa7,bsx,Nat.reduceAdd,Int.reduceLE,Int.reduceLT,Int.reduceToNat]
 have hl:=P.lv
 refine ⟨by omega,?_⟩
 have e:min p.c.level.toNat 64=p.c.level.toNat:=by omega
 have e2:2 ^ p.c.level.toNat≤2 ^ 6:=Nat.pow_le_pow_right (by decide) (by omega)
 have e3:((2 ^ p.c.level.toNat:Nat):Int)=(2:Int) ^ p.c.level.toNat:=by simp
 rw [e,Int.one_mul,← e3,YL3 _ (by omega)]
 exact k h2 (H1.old o2).drop
theorem Yh6 (V:YG1 p w) (H:Sat h (We4 70 1 a w.length c (uvs w)*R)) {i:Int} (hi:0≤i∧i < 2 ^ p.c.level.toNat) (k:∀h',Sat h' (We4 70 1 a w.length c (uvs w)*R)→K (.int .u64 (w.getD (p.at i).toNat 0)) h') :
  Wa5 Tryz.prog 31 #[vwV p a w.length c,.int .i64 i] h K:=by
 refine call31 ?_
 unfold F31 g31 cf ce bd lI W92
 rw [Yt0]
 have H1:=H.push (.cells (vwc p a w.length c).toArray 65)
 generalize h.push (.cells (vwc p a w.length c).toArray 65)=h1 at *
 generalize h.size=N at *
 have b1:=V.P.lv
 have b2:=V.P.si
 have b3:=V.tr
 have b4:=V.hw
 have b5:=V.P.tr
 have b6:=V.P.nd
 have b7:=V.P.li
 refine ldR H1.at rfl ?_
 try simp only [Wa7,bsx,Nat.reduceAdd,Int.reduceLE,Int.reduceLT,Int.reduceToNat]
 refine Yt1 H1.at ?_
 refine Wa0 (WG5 V.P ⟨by omega,by omega⟩ λh2 o2=>?_)
 have H2:=H1.old o2
 try simp only [Wa7,bsx,Nat.reduceAdd,Int.reduceLE,Int.reduceLT,Int.reduceToNat]
 have ea:p.at i=p.tree+i:=by unfold Pl.at;rw [if_pos (by omega)]
 obtain ⟨ad,e,hc⟩:=Yt2 H2.drop.own.sees (i:=(p.at i).toNat) (by omega)
 subst e
 refine ⟨Wd3 H2.at rfl,by omega,by omega,?_⟩
 try simp only [Wa7,bsx,Nat.reduceAdd,Int.reduceLE,Int.reduceLT,Int.reduceToNat]
 refine Wc5 hc ?_
 try simp only [Wa7,bsx,Nat.reduceAdd,Int.reduceLE,Int.reduceLT,Int.reduceToNat]
 exact k h2 H2.drop
theorem Yh7 (V:YG1 p w) (H:Sat h (We4 70 1 a w.length c (uvs w)*R)) {i:Int} (hi:¬ p.node i 2 < 0) (k:∀h',Sat h' (We4 70 1 a w.length c (uvs w)*R)→K (.agg #[.int .u32 (Wu8 p w i).1,.int .u32 (Wu8 p w i).2]) h') :
  Wa5 Tryz.prog 84 #[vwV p a w.length c,.int .i64 i] h K:=by
 refine call84 ?_
 unfold F84 g84 cf ce bd lI W92 dl2 dw2
 rw [Yt0]
 have H1:=H.push (.cells (vwc p a w.length c).toArray 65)
 generalize h.push (.cells (vwc p a w.length c).toArray 65)=h1 at *
 generalize h.size=N at *
 have H2:=H1.push (.cells #[.int .u32 0,.int .u32 0] 90)
 generalize h1.push (.cells #[.int .u32 0,.int .u32 0] 90)=h2 at *
 generalize h1.size=N2 at *
 have b1:=V.P.wi
 have b2:=V.P.no
 have hin:iN i:=by
  unfold Pl.node at hi
  split at hi
  ·exact ⟨by omega,by omega⟩
  ·omega
 have n0:=W59 V (Yt3 V.P hi (g:=0) (by omega))
 have n1:=W59 V (Yt3 V.P hi (g:=1) (by omega))
 refine ldR H2.at2 rfl ?_
 try simp only [Wa7,bsx,Nat.reduceAdd,Int.reduceLE,Int.reduceLT,Int.reduceToNat]
 refine W58 H2.at2 ?_
 try simp only [Wa7,bsx,Nat.reduceAdd,Int.reduceLE,Int.reduceLT,Int.reduceToNat]
 refine Yt1 H2.at2 ?_
 refine Wa0 (Wf8 V.P hin ⟨by omega,by omega⟩ λh3 o3=>?_)
 have H3:=H2.old o3
 try simp only [Wa7,bsx,Nat.reduceAdd,Int.reduceLE,Int.reduceLT,Int.reduceToNat]
 have S3:=H3.drop.drop.own.sees
 obtain ⟨ad,e,hc⟩:=Yt2 S3 (i:=(p.node i 0).toNat) (by omega)
 subst e
 have O3:=H3.at2
 repeat (refine ⟨Wd3 O3 rfl,?_⟩)
 refine ⟨by omega,by omega,?_⟩
 try simp only [Wa7,bsx,Nat.reduceAdd,Int.reduceLE,Int.reduceLT,Int.reduceToNat]
 refine Wc5 hc ?_
 try simp only [Wa7,bsx,Nat.reduceAdd,Int.reduceLE,Int.reduceLT,Int.reduceToNat]
 refine Wa0 (Wf8 V.P hin ⟨by omega,by omega⟩ λh4 o4=>?_)
 have H4:=H3.old o4
 try simp only [Wa7,bsx,Nat.reduceAdd,Int.reduceLE,Int.reduceLT,Int.reduceToNat]
 obtain ⟨ad2,e,hc2⟩:=Yt2 H4.drop.drop.own.sees (i:=(p.node i 1).toNat) (by omega)
 cases e
 obtain ⟨_,e,hcA⟩:=Yt2 H4.drop.drop.own.sees (i:=(p.node i 0).toNat) (by omega)
 cases e
 have O4:=H4.at2
 repeat (first | refine ⟨Wd3 O4 rfl,?_⟩ | refine ⟨Wd3 H4.at rfl,?_⟩ | refine ⟨hcA,?_⟩)
 refine ⟨by omega,by omega,?_⟩
 try simp only [Wa7,bsx,Nat.reduceAdd,Int.reduceLE,Int.reduceLT,Int.reduceToNat]
 refine Wc5 hc2 ?_
 try simp only [Wa7,bsx,Nat.reduceAdd,Int.reduceLE,Int.reduceLT,Int.reduceToNat,WM5]
 refine H4.st (i:=0) rfl trivial λh5 H5=>?_
 refine H5.st (i:=1) rfl trivial λh6 H6=>?_
 refine ldR H6.at rfl (ldR H6.at rfl ?_)
 exact k h6 H6.drop.drop
theorem W60 (V:YG1 p w) (H:Sat h (We4 70 1 a w.length c (uvs w)*R)) {i:Int} (hi:0≤i∧i < 2 ^ p.c.level.toNat)
  (k:∀h' a2 c2,Sat h' (We4 3 1 a2 (Wk9 p w p.c.nodes.toNat (Ww6 p w i)).length c2 ((Wk9 p w p.c.nodes.toNat (Ww6 p w i)).map iv)*(We4 70 1 a w.length c (uvs w)*R))→K (.slice a2 (Wk9 p w p.c.nodes.toNat (Ww6 p w i)).length c2) h') :
  Wa5 Tryz.prog 83 #[vwV p a w.length c,.int .i64 i] h K:=by
 refine call83 ?_
 unfold F83 g83 cf bd lS lI W92 de7 WP8
 rw [Yt0]
 have H1:=H.push (.cells (vwc p a w.length c).toArray 65)
 generalize h.push (.cells (vwc p a w.length c).toArray 65)=h1 at *
 generalize h.size=N at *
 have b1:=V.P.wi
 have b2:=V.P.no
 refine W58 H1.at ?_
 have H1b:Sat h1 (We4 70 1 a w.length c (uvs w)*(pt N (.cells (vwc p a w.length c).toArray 65)*R)):=by rw [Wb4];exact H1
 refine Wa0 (Yh6 V H1b hi λh2 H2=>?_)
 try simp only [Wa7,bsx,Nat.reduceAdd,Int.reduceLE,Int.reduceLT,Int.reduceToNat]
 refine Wa0 (Wi0 (WW2 V.hu _) ?_)
 try simp only [Wa7,bsx,Nat.reduceAdd,Int.reduceLE,Int.reduceLT,Int.reduceToNat]
 refine Yt1 H2.at2 ?_
 refine Wa0 (Wh0 λh3 o3=>cf7 ?_)
 try simp only [Wa7,bsx,Nat.reduceAdd,Int.reduceLE,Int.reduceLT,Int.reduceToNat]
 have H3:=(H2.old o3).own_new 3 1
 rw [show Wx9 (w.getD (p.at i).toNat 0)=Ww6 p w i from rfl]
 have hcur:iN (Ww6 p w i):=WR2 _
 generalize Ww6 p w i=cur0 at *
 have hlen:=Wx7 (p:=p) (w:=w) p.c.nodes.toNat cur0
 generalize hL:Wk9 p w p.c.nodes.toNat cur0=L at *
 refine ⟨λvs h'=>∃(a2:Option Addr) (c2:Nat) (cur:Int) (u:Value) (j:Nat),vs = [.slice a2 j c2,.int .i64 cur,u,.int .i64 j]∧(j:Int)≤p.c.nodes∧j≤L.length∧iN cur∧L.drop j=Wk9 p w (p.c.nodes.toNat - j) cur∧Sat h' (We4 3 1 a2 j c2 ((L.take j).map iv)*(We4 70 1 a w.length c (uvs w)*(pt N (.cells (vwc p a w.length c).toArray 65)*R))),λvs _=>match vs with | [_,_,_,.int _ i]=>(p.c.nodes - i).toNat | _=>0,
  ⟨none,0,cur0,_,0,rfl,by omega,Nat.zero_le _,hcur,by rw [List.drop_zero,Nat.sub_zero,hL],H3⟩,?_⟩
 rintro v50 v51 v52 v53 g54 h55 ⟨a2,c2,cur,u,j,e,hj,hjl,hcu,hd,HJ⟩
 cases e
 try simp only [Wa7,bsx,Nat.reduceAdd,Int.reduceLE,Int.reduceLT,Int.reduceToNat]
 refine Wa6 (λc1=>?_) (λc1=>?_)
 ·refine Yt1 HJ.at3 ?_
  refine Wa0 (Wf8 V.P hcu ⟨by omega,by omega⟩ λh4 o4=>?_)
  have H4:=HJ.old o4
  try simp only [Wa7,bsx,Nat.reduceAdd,Int.reduceLE,Int.reduceLT,Int.reduceToNat]
  have hk:p.c.nodes.toNat - j=(p.c.nodes.toNat - (j+1))+1:=by omega
  rw [hk] at hd
  unfold Wk9 at hd
  refine Wa6 (λc2=>?_) (λc2=>?_)
  ·rw [if_pos c2] at hd
   have ej:L.length=j:=by have:=List.drop_eq_nil_iff.1 hd;omega
   rw [← ej,List.take_length] at H4
   rw [← ej]
   exact k h4 _ _ (Sat.drop3 H4)
  ·rw [if_neg c2] at hd
   have hjl2:j < L.length:=by
    apply Decidable.byContradiction
    intro hn
    rw [List.drop_eq_nil_iff.2 (by omega)] at hd
    cases hd
   rw [List.drop_eq_getElem_cons hjl2] at hd
   injection hd with hd1 hd2
   refine YR0 H4 (by omega) λa5 c5 h5 H5=>?_
   rw [← hd1,← List.take_succ_eq_append_getElem hjl2] at H5
   try simp only [Wa7,bsx,Nat.reduceAdd,Int.reduceLE,Int.reduceLT,Int.reduceToNat]
   refine ldR H5.at3 rfl ?_
   try simp only [Wa7,bsx,Nat.reduceAdd,Int.reduceLE,Int.reduceLT,Int.reduceToNat]
   have hn:=W59 V c2
   obtain ⟨ad,e,hc⟩:=Yt2 H5.drop.own.sees (i:=(p.node cur 2).toNat) (by omega)
   subst e
   refine ⟨by omega,by omega,?_⟩
   try simp only [Wa7,bsx,Nat.reduceAdd,Int.reduceLE,Int.reduceLT,Int.reduceToNat]
   refine Wc5 hc ?_
   try simp only [Wa7,bsx,Nat.reduceAdd,Int.reduceLE,Int.reduceLT,Int.reduceToNat]
   rw [Wv8 j (by omega)]
   refine ⟨⟨a5,c5,_,_,j+1,rfl,by omega,by omega,Wl0 _,by rw [hd2],H5⟩,?_⟩
   show (p.c.nodes - ((j+1:Nat):Int)).toNat < (p.c.nodes - (j:Int)).toNat
   omega
 ·have ej:p.c.nodes.toNat - j=0:=by omega
  rw [ej] at hd
  have ej:L.length=j:=by have:=List.drop_eq_nil_iff.1 (show L.drop j = [] from hd);omega
  rw [← ej,List.take_length] at HJ
  rw [← ej]
  exact k h55 _ _ (Sat.drop3 HJ)
end
end
section
open Mod
def bpV (q:(Option Addr × Nat) × List Bp):Value:=.slice q.1.1 q.2.length q.1.2
def bpS:List (Option Addr × Nat)→List (List Bp)→Hp
 | p :: ps,l :: ls=>We4 90 2 p.1 l.length p.2 (l.flatMap bpc)*bpS ps ls
 | _,_=>emp
theorem WS6 (p:Option Addr × Nat) (l:List Bp):∀(ps:List (Option Addr × Nat)) (ls:List (List Bp)),ps.length=ls.length→bpS (ps ++ [p]) (ls ++ [l])=bpS ps ls*We4 90 2 p.1 l.length p.2 (l.flatMap bpc)
 | [],[],_=>by
  show _*emp=emp*_
  rw [Wu1]
 | [],_ :: _,h=>by simp at h
 | _ :: _,[],h=>by simp at h
 | a :: ps,b :: ls,h=>by
  show _*bpS (ps ++ [p]) (ls ++ [l])=(_*bpS ps ls)*_
  rw [WS6 p l ps ls (by simpa using h),Wc7]
theorem Yb4 {h:Wa1}:∀ {ps:List (Option Addr × Nat)} {ls:List (List Bp)} {R:Hp},ps.length=ls.length→Sat h (bpS ps ls*R)→∀i,i < ls.length→∃p,ps[i]? = some p∧Sees h p.1 ((ls.getD i []).flatMap bpc)
 | [],[],_,_,_,i,hi=>by simp at hi
 | [],_ :: _,_,hl,_,_,_=>by simp at hl
 | _ :: _,[],_,hl,_,_,_=>by simp at hl
 | p :: ps,l :: ls,R,hl,H,i,hi=>by
  have H:Sat h ((We4 90 2 p.1 l.length p.2 (l.flatMap bpc)*bpS ps ls)*R):=H
  rw [Wc7] at H
  cases i with
  | zero=>exact ⟨p,rfl,H.own.sees⟩
  | succ i=>
   have:=Yb4 (by simpa using hl) H.drop i (by simpa using hi)
   simpa using this
theorem WJ2 (p:Pl) (w:List Int):(Wg7 p w).length=2 ^ p.c.level.toNat:=by unfold Wg7;simp
theorem Yh8 {p:Pl} {w:List Int} {i:Nat} (h:i < (Wg7 p w).length):(Wg7 p w)[i]=if i=0 then [] else WC9 p w i:=by
 simp only [Wg7,List.getElem_map,List.getElem_range]
def Wt3 (n:Nat) (ps:List (Option Addr × Nat)) (ls:List (List Bp)):List Value:=(ps.zip ls).map bpV ++ List.replicate (n - ls.length) (.slice none 0 0)
theorem Yt4 {n:Nat} {ps:List (Option Addr × Nat)} {ls:List (List Bp)} (h:ps.length=ls.length) (hn:ls.length≤n):(Wt3 n ps ls).length=n:=by
 unfold Wt3
 simp [h]
 omega
theorem WY7 {n:Nat} {ps:List (Option Addr × Nat)} {ls:List (List Bp)} {p:Option Addr × Nat} {l:List Bp} (h:ps.length=ls.length) (hn:ls.length < n):(Wt3 n ps ls).set ls.length (bpV (p,l))=Wt3 n (ps ++ [p]) (ls ++ [l]):=by
 unfold Wt3
 have e1:n - ls.length=(n - (ls ++ [l]).length)+1:=by simp;omega
 have e2:((ps.zip ls).map bpV).length=ls.length:=by simp [h]
 rw [e1,List.replicate_succ,List.set_append_right _ _ (by rw [e2];omega),e2,Nat.sub_self,List.set_cons_zero,List.zip_append h]
 simp
theorem Yt5 {n:Nat} {ps:List (Option Addr × Nat)} {ls:List (List Bp)} (h:ps.length=ls.length) (hn:ls.length < n):Wt3 n ps ls=Wt3 n (ps ++ [(none,0)]) (ls ++ [[]]):=by
 rw [← WY7 h hn]
 unfold Wt3
 have e1:n - ls.length=(n - ls.length - 1)+1:=by omega
 have e2:((ps.zip ls).map bpV).length=ls.length:=by simp [h]
 rw [e1,List.replicate_succ,List.set_append_right _ _ (by rw [e2];omega),e2,Nat.sub_self,List.set_cons_zero]
 rfl
section
variable {K:Value→Wa1→Prop} {h:Wa1} {R:Hp} {p:Pl} {w:List Int} {a:Option Addr} {c M:Nat} {tv:Value} {s:Mac}
theorem YB8 (H:Sat h (Wg3 M tv s*R)) (hc:s.p.c.algo=0) (hz:s.p.size≠0) (k:∀h' a c,Sat h' (We4 70 1 a s.mm.w.length c (uvs s.mm.w)*(Wg3 M tv s*R))→K (.tuple #[vwV s.p a s.mm.w.length c,.bool true]) h'):Wa5 Tryz.prog 28 #[mP M] h K:=by
 refine call28 ?_
 unfold F28 g28 cf de7 Wu0 WP8 YM2
 have H1:=H.push (.cells #[.int .i64 0,.int .i64 0,.int .i64 0,.int .i64 0,.int .i64 0,.int .i64 0,.int .i64 0,.int .i64 0,.int .i64 0,.int .i64 0,.int .i64 0,.int .i64 0,.int .i64 0,.int .i64 0,.int .i64 0,.slice none 0 0] 65)
 generalize h.push (.cells #[.int .i64 0,.int .i64 0,.int .i64 0,.int .i64 0,.int .i64 0,.int .i64 0,.int .i64 0,.int .i64 0,.int .i64 0,.int .i64 0,.int .i64 0,.int .i64 0,.int .i64 0,.int .i64 0,.int .i64 0,.slice none 0 0] 65)=h1 at *
 generalize h.size=N at *
 refine ⟨λvs h'=>(∃u,vs = [u,.bool false])∧Sat h' (Wg3 M tv s*(pt N (.cells #[.int .i64 0,.int .i64 0,.int .i64 0,.int .i64 0,.int .i64 0,.int .i64 0,.int .i64 0,.int .i64 0,.int .i64 0,.int .i64 0,.int .i64 0,.int .i64 0,.int .i64 0,.int .i64 0,.int .i64 0,.slice none 0 0] 65)*R)),?_,?_⟩
 ·refine Wc3 (λhh=>by cases hh) (λ_=>?_)
  rw [Wb4] at H1
  refine Wa0 (Wk1 H1 λh2 o2=>WR4 ?_)
  have H2:=H1.old o2
  refine Wa0 (Wh0 λh3 o3=>cf7 ?_)
  have H3:=H2.old o3
  try simp only [Wa7,bsx,Nat.reduceAdd,Int.reduceLE,Int.reduceLT,Int.reduceToNat]
  refine Wc3 (λhh=>?_) (λ_=>?_)
  ·rw [hc] at hh;simp at hh
  ·refine Wa0 (Wk1 H3 λh4 o4=>WR4 ?_)
   have H4:=H3.old o4
   refine Wa0 (WG7 λh5 o5=>?_)
   have H5:=H4.old o5
   try simp only [Wa7,bsx,Nat.reduceAdd,Int.reduceLE,Int.reduceLT,Int.reduceToNat]
   refine ⟨⟨.bool (s.p.c.algo != 0),?_⟩,H5⟩
   rw [show (s.p.size == 0)=false from beq_eq_false_iff_ne.2 hz]
 rintro v1 v2 g3 h4 ⟨⟨u,e⟩,H4⟩
 cases e
 try simp only [Wa7,bsx,Nat.reduceAdd,Int.reduceLE,Int.reduceLT,Int.reduceToNat]
 refine Wa0 (Wk1 H4 λh5 o5=>WR4 ?_)
 have H5:=H4.old o5
 refine Wa0 (Yf4 H5 λq R' HM re=>?_)
 try simp only [Wa7,bsx,Nat.reduceAdd,Int.reduceLE,Int.reduceLT,Int.reduceToNat]
 refine Wa0 (Yg4 HM λh6 a c o6 fb own=>?_)
 have H6:=own _ H5
 try simp only [Wa7,bsx,Nat.reduceAdd,Int.reduceLE,Int.reduceLT,Int.reduceToNat]
 have H6:Sat h6 (pt N (.cells #[.int .i64 0,.int .i64 0,.int .i64 0,.int .i64 0,.int .i64 0,.int .i64 0,.int .i64 0,.int .i64 0,.int .i64 0,.int .i64 0,.int .i64 0,.int .i64 0,.int .i64 0,.int .i64 0,.int .i64 0,.slice none 0 0] 65)*(We4 70 1 a s.mm.w.length c (uvs s.mm.w)*(Wg3 M tv s*R))):=Sat.ac H6 (by ac_rfl)
 refine YS6 (Wd6 (vs:=vwc s.p a s.mm.w.length c) H6.at rfl (by simp [Wi6]) λh7 x=>?_)
 have H7:=H6.wr x.new x.old
 have O:=H7.at
 refine ldR O rfl (ldR O rfl (ldR O rfl (ldR O rfl (ldR O rfl (ldR O rfl (ldR O rfl (ldR O rfl (ldR O rfl (ldR O rfl (ldR O rfl (ldR O rfl (ldR O rfl (ldR O rfl (ldR O rfl (ldR O rfl ?_)))))))))))))))
 exact k h7 a c H7.drop
theorem Yh9 (V:YG1 p w) (H:Sat h (We4 70 1 a w.length c (uvs w)*R)) {i:Int} (hi:0≤i∧i < 2 ^ p.c.level.toNat)
  (k:∀h' a2 c2,Sat h' (We4 90 2 a2 (WC9 p w i).length c2 ((WC9 p w i).flatMap bpc)*(We4 70 1 a w.length c (uvs w)*R))→K (.slice a2 (WC9 p w i).length c2) h') :
  Wa5 Tryz.prog 30 #[vwV p a w.length c,.int .i64 i] h K:=by
 refine call30 ?_
 unfold F30 g30 cf bd lI de2 WP8
 rw [Yt0]
 have H1:=H.push (.cells (vwc p a w.length c).toArray 65)
 generalize h.push (.cells (vwc p a w.length c).toArray 65)=h1 at *
 generalize h.size=N at *
 refine W58 H1.at ?_
 rw [Wb4] at H1
 have b2:=V.P.no
 refine Wa0 (W60 V H1 hi λh2 a2 c2 H2=>?_)
 try simp only [Wa7,bsx,Nat.reduceAdd,Int.reduceLE,Int.reduceLT,Int.reduceToNat]
 unfold WC9 at k
 have hok:∀j ∈ Wk9 p w p.c.nodes.toNat (Ww6 p w i),¬ p.node j 2 < 0:=λj hj=>WO0 hj
 have hlen:=Wx7 (p:=p) (w:=w) p.c.nodes.toNat (Ww6 p w i)
 generalize Wk9 p w p.c.nodes.toNat (Ww6 p w i)=L at *
 have H2:=H2.own_new 90 2
 refine ⟨λvs h'=>∃(a3:Option Addr) (c3:Nat) (u:Value) (j:Nat),vs = [.slice a3 j c3,u,.int .i64 j]∧j≤L.length∧Sat h' (We4 90 2 a3 j c3 (((L.take j).map (Wu8 p w)).flatMap bpc)*(We4 3 1 a2 L.length c2 (L.map iv)*(We4 70 1 a w.length c (uvs w)*(pt N (.cells (vwc p a w.length c).toArray 65)*R)))),λvs _=>match vs with | [_,_,.int _ i]=>(L.length - i).toNat | _=>0,
  ⟨none,0,_,0,rfl,Nat.zero_le _,H2⟩,?_⟩
 rintro v23 v24 v25 g26 h27 ⟨a3,c3,u,j,e,hj,HJ⟩
 cases e
 try simp only [Wa7,bsx,Nat.reduceAdd,Int.reduceLE,Int.reduceLT,Int.reduceToNat]
 refine Wa6 (λc1=>?_) (λc1=>?_)
 ·have hj2:j < L.length:=by omega
  obtain ⟨ad,e,hc⟩:=HJ.drop.own.sees j (iv L[j]) (by rw [List.getElem?_map,List.getElem?_eq_getElem hj2];rfl)
  subst e
  refine ⟨by omega,by omega,?_⟩
  try simp only [Wa7,bsx,Nat.reduceAdd,Int.reduceLE,Int.reduceLT,Int.reduceToNat]
  refine Wc5 hc ?_
  unfold iv
  try simp only [Wa7,bsx,Nat.reduceAdd,Int.reduceLE,Int.reduceLT,Int.reduceToNat]
  refine W58 (HJ.drop.drop.drop).at ?_
  have HJ2:Sat h27 (We4 70 1 a w.length c (uvs w)*(We4 90 2 a3 j c3 (((L.take j).map (Wu8 p w)).flatMap bpc)*(We4 3 1 (some ad) L.length c2 (L.map iv)*(pt N (.cells (vwc p a w.length c).toArray 65)*R)))):=Sat.ac HJ (by ac_rfl)
  refine Wa0 (Yh7 V HJ2 (hok _ (List.getElem_mem hj2)) λh3 H3=>?_)
  have H3:Sat h3 (We4 90 2 a3 j c3 (((L.take j).map (Wu8 p w)).flatMap bpc)*(We4 3 1 (some ad) L.length c2 (L.map iv)*(We4 70 1 a w.length c (uvs w)*(pt N (.cells (vwc p a w.length c).toArray 65)*R)))):=Sat.ac H3 (by ac_rfl)
  try simp only [Wa7,bsx,Nat.reduceAdd,Int.reduceLE,Int.reduceLT,Int.reduceToNat]
  refine Wj3 rfl (Wb5 rfl (Wb5 rfl ?_))
  refine YG4 (x:=Wu8 p w L[j]) H3 (by omega) λa4 c4 h4 H4=>?_
  have e4:(L.take j).map (Wu8 p w) ++ [Wu8 p w L[j]]=(L.take (j+1)).map (Wu8 p w):=by rw [List.take_succ_eq_append_getElem hj2,List.map_append];rfl
  rw [e4] at H4
  try simp only [Wa7,bsx,Nat.reduceAdd,Int.reduceLE,Int.reduceLT,Int.reduceToNat]
  rw [Wv8 j (by omega)]
  refine ⟨⟨a4,c4,_,j+1,rfl,by omega,H4⟩,?_⟩
  show ((L.length:Int) - ((j+1:Nat):Int)).toNat < ((L.length:Int) - (j:Int)).toNat
  omega
 ·have ej:j=L.length:=by omega
  subst ej
  rw [List.take_length] at HJ
  rw [show (L.map (Wu8 p w)).length=L.length by simp] at k
  exact k h27 a3 c3 (Sat.drop3 (Sat.drop2 HJ))
theorem YB9 {n:Nat} (hn:n≤4096) (k:K (.slice (some ⟨h.size,0,none⟩) n n) (h.push (.cells (Wt3 n [] []).toArray 44))):Wm4 Tryz.prog 44 (n:Int) (n:Int) h K:=by
 unfold Wm4
 refine ⟨by omega,by omega,by omega,by rw [YL2];omega,?_⟩
 rw [YR4,WS1,Int.toNat_natCast]
 exact k
theorem W61 (V:YG1 s.p s.mm.w) (hc:s.p.c.algo=0) (H:Sat h (Wg3 M tv s*R))
  (k:∀h' B ps,ps.length=(Wg7 s.p s.mm.w).length→Sat h' (pt B (.cells (((ps.zip (Wg7 s.p s.mm.w)).map bpV).toArray) 44)*(bpS ps (Wg7 s.p s.mm.w)*(Wg3 M tv s*R)))→K (.slice (some ⟨B,0,none⟩) (Wg7 s.p s.mm.w).length (Wg7 s.p s.mm.w).length) h') :
  Wa5 Tryz.prog 7 #[mP M] h K:=by
 refine call7 ?_
 unfold F7 cf bd YS4 WP8
 have b1:=V.P.si
 have b2:=V.P.tr
 have b3:=V.P.nd
 have b4:=V.P.li
 have b5:=V.P.lv
 refine Wa0 (YB8 H hc (by omega) λh1 a c H1=>?_)
 try simp only [Wa7,bsx,Nat.reduceAdd,Int.reduceLE,Int.reduceLT,Int.reduceToNat]
 refine Wg4 (YY1 ?_)
 try simp only [Wa7,bsx,Nat.reduceAdd,Int.reduceLE,Int.reduceLT,Int.reduceToNat]
 refine Wf4 ?_
 try simp only [Wa7,bsx,Nat.reduceAdd,Int.reduceLE,Int.reduceLT,Int.reduceToNat]
 generalize hw:s.mm.w=w at *
 generalize hp:s.p=p at *
 have H2:=H1.push (.cells #[.int .i64 0,.int .i64 0,.int .i64 0,.int .i64 0,.int .i64 0,.int .i64 0,.int .i64 0,.int .i64 0,.int .i64 0,.int .i64 0,.int .i64 0,.int .i64 0,.int .i64 0,.int .i64 0,.int .i64 0,.slice none 0 0] 65)
 generalize h1.push (.cells #[.int .i64 0,.int .i64 0,.int .i64 0,.int .i64 0,.int .i64 0,.int .i64 0,.int .i64 0,.int .i64 0,.int .i64 0,.int .i64 0,.int .i64 0,.int .i64 0,.int .i64 0,.int .i64 0,.int .i64 0,.slice none 0 0] 65)=h2 at *
 generalize h1.size=N at *
 refine YS6 (Wd6 (vs:=vwc p a w.length c) H2.at rfl (by simp [Wi6]) λh3 x=>?_)
 have H3:=H2.wr x.new x.old
 clear H1 H2 x
 refine W58 H3.at ?_
 refine Wa0 (WD1 V.P H3 λh4 H4=>?_)
 try simp only [Wa7,bsx,Nat.reduceAdd,Int.reduceLE,Int.reduceLT,Int.reduceToNat]
 have hpow:2 ^ p.c.level.toNat≤2 ^ 6:=Nat.pow_le_pow_right (by decide) (by omega)
 have hcast:((2 ^ p.c.level.toNat:Nat):Int)=(2:Int) ^ p.c.level.toNat:=by simp
 have hll:=WJ2 p w
 have hat:∀i (h:i < (Wg7 p w).length),(Wg7 p w)[i]=if i=0 then [] else WC9 p w i:=λi h=>Yh8 h
 refine YB9 (by omega) ?_
 try simp only [Wa7,bsx,Nat.reduceAdd,Int.reduceLE,Int.reduceLT,Int.reduceToNat]
 have H5:=H4.push (.cells (Wt3 (2 ^ p.c.level.toNat) [] []).toArray 44)
 generalize h4.push (.cells (Wt3 (2 ^ p.c.level.toNat) [] []).toArray 44)=h5 at *
 generalize h4.size=B at *
 refine W58 H5.at2 ?_
 refine Wa0 (WD1 V.P H5 λh6 H6=>?_)
 try simp only [Wa7,bsx,Nat.reduceAdd,Int.reduceLE,Int.reduceLT,Int.reduceToNat]
 generalize Wg7 p w=LS at *
 rw [← hll] at hpow hcast H6 ⊢
 have H6:Sat h6 (pt B (.cells (Wt3 LS.length [] []).toArray 44)*(bpS [] []*(pt N (.cells (vwc p a w.length c).toArray 65)*(We4 70 1 a w.length c (uvs w)*(Wg3 M tv s*R))))):=by
  show Sat h6 (_*(emp*_))
  rw [Wr7]
  exact H6
 refine ⟨λvs h'=>∃(u:Value) (j:Nat) (ps:List (Option Addr × Nat)),vs = [u,.int .i64 j]∧j≤LS.length∧ps.length=(LS.take j).length∧Sat h' (pt B (.cells (Wt3 LS.length ps (LS.take j)).toArray 44)*(bpS ps (LS.take j)*(pt N (.cells (vwc p a w.length c).toArray 65)*(We4 70 1 a w.length c (uvs w)*(Wg3 M tv s*R))))),λvs _=>match vs with | [_,.int _ i]=>((LS.length:Int) - i).toNat | _=>0,
  ⟨_,0,[],rfl,Nat.zero_le _,rfl,H6⟩,?_⟩
 rintro v85 v86 g87 h88 ⟨u,j,ps,e,hj,hps,HJ⟩
 cases e
 try simp only [Wa7,bsx,Nat.reduceAdd,Int.reduceLE,Int.reduceLT,Int.reduceToNat]
 have htl:(LS.take j).length=j:=by rw [List.length_take];omega
 refine Wa6 (λc1=>?_) (λc1=>?_)
 ·have hj2:j < LS.length:=by omega
  have hdec:((LS.length:Int) - ((j+1:Nat):Int)).toNat < ((LS.length:Int) - (j:Int)).toNat:=by omega
  refine Wa6 (λc2=>?_) (λc2=>?_)
  ·refine W58 HJ.at3 ?_
   have HJ2:Sat h88 (We4 70 1 a w.length c (uvs w)*(pt B (.cells (Wt3 LS.length ps (LS.take j)).toArray 44)*(bpS ps (LS.take j)*(pt N (.cells (vwc p a w.length c).toArray 65)*(Wg3 M tv s*R))))):=Sat.ac HJ (by ac_rfl)
   refine Wa0 (Yh9 V HJ2 (by rw [← hcast];omega) λh7 a7 c7 H7=>?_)
   try simp only [Wa7,bsx,Nat.reduceAdd,Int.reduceLE,Int.reduceLT,Int.reduceToNat]
   refine ⟨by omega,by omega,?_⟩
   have ea:WC9 p w j=LS[j]:=by rw [hat j hj2,if_neg (by omega)]
   rw [ea] at H7 ⊢
   have H7:Sat h7 (pt B (.cells (Wt3 LS.length ps (LS.take j)).toArray 44)*(bpS ps (LS.take j)*(We4 90 2 a7 (LS[j]).length c7 ((LS[j]).flatMap bpc)*(pt N (.cells (vwc p a w.length c).toArray 65)*(We4 70 1 a w.length c (uvs w)*(Wg3 M tv s*R)))))):=Sat.ac H7 (by ac_rfl)
   refine WW3 (row:=Wt3 LS.length ps (LS.take j)) (i:=j) H7 (by rw [Yt4 hps (by omega)];omega) trivial λh8 H8=>?_
   have es:=WY7 (n:=LS.length) (p:=(a7,c7)) (l:=LS[j]) hps (by omega)
   rw [htl] at es
   rw [show (Value.slice a7 (LS[j]).length c7)=bpV ((a7,c7),LS[j]) from rfl,es,← Wc7 (bpS ps _),← WS6 (a7,c7) LS[j] ps (LS.take j) hps,← List.take_succ_eq_append_getElem hj2] at H8
   try simp only [Wa7,bsx,Nat.reduceAdd,Int.reduceLE,Int.reduceLT,Int.reduceToNat]
   rw [Wv8 j (by omega)]
   exact ⟨⟨_,j+1,ps ++ [(a7,c7)],rfl,by omega,by rw [List.length_append,hps,htl,List.length_take];simp;omega,H8⟩,hdec⟩
  ·have e0:j=0:=by omega
   subst e0
   have ea:LS[0] = []:=by rw [hat 0 hj2,if_pos rfl]
   have e1:LS.take (0+1)=LS.take 0 ++ [[]]:=by rw [List.take_succ_eq_append_getElem hj2,ea]
   rw [Yt5 hps (by omega),← e1] at HJ
   have HJ:=HJ
   rw [Wb4] at HJ
   have HJ3:=HJ.own_new 90 2
   have e2:=WS6 (none,0) [] ps (LS.take 0) hps
   rw [← e1] at e2
   try simp only [Wa7,bsx,Nat.reduceAdd,Int.reduceLE,Int.reduceLT,Int.reduceToNat]
   rw [show s64 (((0:Nat):Int)+1)=((0+1:Nat):Int) from Wv8 0 (by omega)]
   refine ⟨⟨_,0+1,ps ++ [(none,0)],rfl,by omega,by rw [List.length_append,hps,htl,List.length_take];simp;omega,?_⟩,hdec⟩
   rw [e2]
   exact Sat.ac HJ3 (by show _=_*((bpS ps (LS.take 0)*We4 90 2 none 0 0 [])*_);ac_rfl)
 ·have ej:j=LS.length:=by omega
  subst ej
  have e1:LS.take LS.length=LS:=List.take_length
  rw [e1] at HJ hps
  have e2:Wt3 LS.length ps LS=(ps.zip LS).map bpV:=by unfold Wt3;rw [show LS.length - LS.length=0 by omega];simp
  rw [e2] at HJ
  have HJ2:Sat h88 (pt N (.cells (vwc p a w.length c).toArray 65)*(We4 70 1 a w.length c (uvs w)*(pt B (.cells ((ps.zip LS).map bpV).toArray 44)*(bpS ps LS*(Wg3 M tv s*R))))):=Sat.ac HJ (by ac_rfl)
  exact k h88 B ps (by omega) HJ2.drop.drop
end
end
section
open Mod
section
variable {x:Run} {sl th:Int}
theorem YC0 (hs:0 < sl) (hne:x.t.fr≠[]) (h:Adj sl th x) (e:x.f.fn=1):Nx sl th x (alloc x):=by
 have r:=h.r hne
 rw [e] at r
 unfold alloc;dsimp only
 repeat' split
 all_goals (refine ⟨by ((with_reducible first | apply AdjR.pop | apply AdjR.allPc | apply AdjR.allS | apply AdjR.fin | apply AdjR.call | apply AdjR.all);(focus (refine Lo.adjR ?_ (by assumption);(with_reducible repeat' constructor)));try (first | decide | (refine .inr ?_;decide) | (refine .inl ?_;simp [fA];done) | (refine Lo.ne ?_ hne;(with_reducible repeat' constructor)))),?_⟩;first | (refine .inl ?_;(focus (refine Tch.act ?_;(with_reducible repeat' constructor)));done) | (refine .inr ?_;((with_reducible first | apply AdjR.ltCall r hne | apply AdjR.ltFin r hne | apply AdjR.ltPc r hne | apply AdjR.ltPop r hne);assumption;(focus (refine Lo.adjR ?_ (by assumption);(with_reducible repeat' constructor)));try (first | assumption | exact We1 _ _));simp +decide [fW,fA,hs];first | done | omega))
theorem Yi0 (hs:0 < sl) (hne:x.t.fr≠[]) (h:Adj sl th x) (e:x.f.fn=2):Nx sl th x (Wr8 x):=by
 have r:=h.r hne
 rw [e] at r
 unfold Wr8;dsimp only
 repeat' split
 all_goals (refine ⟨by ((with_reducible first | apply AdjR.pop | apply AdjR.allPc | apply AdjR.allS | apply AdjR.fin | apply AdjR.call | apply AdjR.all);(focus (refine Lo.adjR ?_ (by assumption);(with_reducible repeat' constructor)));try (first | decide | (refine .inr ?_;decide) | (refine .inl ?_;simp [fA];done) | (refine Lo.ne ?_ hne;(with_reducible repeat' constructor)))),?_⟩;first | (refine .inl ?_;(focus (refine Tch.act ?_;(with_reducible repeat' constructor)));done) | (refine .inr ?_;((with_reducible first | apply AdjR.ltCall r hne | apply AdjR.ltFin r hne | apply AdjR.ltPc r hne | apply AdjR.ltPop r hne);assumption;(focus (refine Lo.adjR ?_ (by assumption);(with_reducible repeat' constructor)));try (first | assumption | exact We1 _ _));simp +decide [fW,fA,hs];first | done | omega))
theorem Yi1 (hs:0 < sl) (hne:x.t.fr≠[]) (h:Adj sl th x) (e:x.f.fn=3):Nx sl th x (Ws0 x):=by
 have r:=h.r hne
 rw [e] at r
 unfold Ws0;dsimp only
 repeat' split
 all_goals (refine ⟨by ((with_reducible first | apply AdjR.pop | apply AdjR.allPc | apply AdjR.allS | apply AdjR.fin | apply AdjR.call | apply AdjR.all);(focus (refine Lo.adjR ?_ (by assumption);(with_reducible repeat' constructor)));try (first | decide | (refine .inr ?_;decide) | (refine .inl ?_;simp [fA];done) | (refine Lo.ne ?_ hne;(with_reducible repeat' constructor)))),?_⟩;first | (refine .inl ?_;(focus (refine Tch.act ?_;(with_reducible repeat' constructor)));done) | (refine .inr ?_;((with_reducible first | apply AdjR.ltCall r hne | apply AdjR.ltFin r hne | apply AdjR.ltPc r hne | apply AdjR.ltPop r hne);assumption;(focus (refine Lo.adjR ?_ (by assumption);(with_reducible repeat' constructor)));try (first | assumption | exact We1 _ _));simp +decide [fW,fA,hs];first | done | omega))
theorem YL4 (hsl:sl=x.m.p.slots) (hs:0 < sl) (hne:x.t.fr≠[]) (h:Adj sl th x) (e:x.f.fn=4):Nx sl th x (Yy6 x):=by
 have r:=h.r hne
 rw [e] at r
 unfold Yy6;dsimp only
 split
 ·rename_i c
  refine ⟨by ((with_reducible first | apply AdjR.pop | apply AdjR.allPc | apply AdjR.allS | apply AdjR.fin | apply AdjR.call | apply AdjR.all);(focus (refine Lo.adjR ?_ (by assumption);(with_reducible repeat' constructor)));try (first | decide | (refine .inr ?_;decide) | (refine .inl ?_;simp [fA];done) | (refine Lo.ne ?_ hne;(with_reducible repeat' constructor)))),.inr (AdjR.ltPop r hne rfl r hne ?_)⟩
  have c2:fA sl th 4 x.f.pc=false:=by simp [fA];omega
  rw [c2]
  simp [fW]
 ·(refine ⟨by ((with_reducible first | apply AdjR.pop | apply AdjR.allPc | apply AdjR.allS | apply AdjR.fin | apply AdjR.call | apply AdjR.all);(focus (refine Lo.adjR ?_ (by assumption);(with_reducible repeat' constructor)));try (first | decide | (refine .inr ?_;decide) | (refine .inl ?_;simp [fA];done) | (refine Lo.ne ?_ hne;(with_reducible repeat' constructor)))),?_⟩;first | (refine .inl ?_;(focus (refine Tch.act ?_;(with_reducible repeat' constructor)));done) | (refine .inr ?_;((with_reducible first | apply AdjR.ltCall r hne | apply AdjR.ltFin r hne | apply AdjR.ltPc r hne | apply AdjR.ltPop r hne);assumption;(focus (refine Lo.adjR ?_ (by assumption);(with_reducible repeat' constructor)));try (first | assumption | exact We1 _ _));simp +decide [fW,fA,hs];first | done | omega))
theorem YL5 (y:Run) (r:List Int) (h:y.t.fr≠[]):(y.pop r).t.fr.reverse=rst y:=by
 show (y.t.pop r).fr.reverse=_
 unfold Thr.pop
 rw [if_neg h]
 rfl
theorem Yt6 (ha:0 < sl*th) (hne:x.t.fr≠[]) (h:Adj sl th x) (e:x.f.fn=5):Nx sl th x (Wz0 x):=by
 have r:=h.r hne
 rw [e] at r
 unfold Wz0;dsimp only
 generalize hz:((x.gh λg=>g.turn (s64 (x.f.g 0)) 1 2 2).re ((x.gh λg=>g.turn (s64 (x.f.g 0)) 1 2 2).t.retired ++ [s64 (x.f.g 0)]))=z
 have hzn:z.t.fr≠[]:=by subst hz;exact hne
 have rz:AdjR sl th 5 (rst x) z:=by subst hz;exact r.gh.re
 have hm:mu sl th x=3+muL sl th (rst x):=by
  rw [r.mu hne rfl]
  simp [fW,fA]
 have hp:(z.pop []).t.fr.reverse=rst x:=by rw [YL5 _ _ hzn];exact rz.e
 split
 ·refine ⟨Adj.push rz.pop ?_,.inr ?_⟩
  ·rw [hp]
   cases hl:rst x with
   | nil=>trivial
   | cons f l=>
    have o:=r.o
    rw [hl] at o
    exact o
  ·rw [WS5,hm]
   simp [fW,fA,ha]
   omega
 ·refine ⟨rz.pop,.inr ?_⟩
  rw [Ys9 _ hzn,rz.e,hm]
  omega
theorem AdjR.push {fn i:Int} {l:List Frm} {r:List Int} {y:Run} (h:AdjR sl th fn l y) (hne:y.t.fr≠[]) (hd:fR i < fR fn):Adj sl th (y.push i r):=by
 refine Adj.push (h.all hne) ?_
 rw [WC7 hne]
 exact .inr (by rw [h.f];exact hd)
theorem YL6 (hsl:sl=x.m.p.slots) (hth:th=x.m.p.c.threads) (hne:x.t.fr≠[]) (h:Adj sl th x) (e:x.f.fn=6):Nx sl th x (scan x):=by
 have r:=h.r hne
 rw [e] at r
 have h0:∀y:Run,y=(if x.f.pc=0 then x.fo [] else x)→AdjR sl th 6 (rst x) y∧y.t.fr≠[]∧y.f.pc=x.f.pc:=by
  rintro y rfl
  split
  ·exact ⟨r.fo,hne,rfl⟩
  ·exact ⟨r,hne,rfl⟩
 unfold scan
 dsimp only
 generalize hy:(if x.f.pc=0 then x.fo [] else x)=y
 obtain ⟨ry,hny,hpc⟩:=h0 y hy.symm
 rw [← hsl,← hth]
 split
 ·exact ⟨by ((with_reducible first | apply AdjR.pop | apply AdjR.allPc | apply AdjR.allS | apply AdjR.fin | apply AdjR.call | apply AdjR.all);(focus (refine Lo.adjR ?_ (by assumption);(with_reducible repeat' constructor)));try (first | decide | (refine .inr ?_;decide) | (refine .inl ?_;simp [fA];done) | (refine Lo.ne ?_ hne;(with_reducible repeat' constructor)))),.inl (by (focus (refine Tch.act ?_;(with_reducible repeat' constructor))))⟩
 ·rename_i c
  have hm:mu sl th x=2+muL sl th (rst x):=by
   rw [r.mu hne rfl]
   have c2:fA sl th 6 x.f.pc=false:=by simp [fA];omega
   rw [c2]
   simp [fW]
  have hA:AdjR sl th 6 (rst x) (Wz1 y (sl*th))∧(Wz1 y (sl*th)).t.fr≠[]:=by
   unfold Wz1
   split
   ·exact ⟨by (focus (refine Lo.adjR ?_ (by assumption);(with_reducible repeat' constructor))),We1 _ _⟩
   ·exact ⟨ry,hny⟩
  generalize Wz1 y (sl*th)=z at *
  obtain ⟨rz,hzn⟩:=hA
  unfold W20
  split
  ·refine ⟨rz.pop,.inr ?_⟩
   rw [Ys9 _ hzn,rz.e,hm]
   omega
  ·rename_i n rest e2
   refine ⟨AdjR.push (l:=rst x) (fn:=6) (by (focus (refine Lo.adjR ?_ (by assumption);(with_reducible repeat' constructor)))) hzn (by decide),.inr ?_⟩
   rw [WS5,hm]
   simp [fW,fA]
   omega
theorem Yi2 (hs:0 < sl) (hne:x.t.fr≠[]) (h:Adj sl th x) (e:x.f.fn=1∨x.f.fn=2):Nx sl th x (Wr9 x):=by
 unfold Wr9
 rw [if_neg hne]
 rcases e with e | e
 ·rw [if_pos e];exact YC0 hs hne h e
 ·rw [if_neg (by omega),if_pos e];exact Yi0 hs hne h e
theorem W62 (hsl:sl=x.m.p.slots) (hth:th=x.m.p.c.threads) (hs:0 < sl) (ha:0 < sl*th) (hne:x.t.fr≠[]) (h:Adj sl th x) (e:1≤x.f.fn∧x.f.fn≤6):Nx sl th x (Wn6 x):=by
 unfold Wn6
 rw [if_neg hne]
 by_cases e3:x.f.fn=3
 ·rw [if_pos e3];exact Yi1 hs hne h e3
 rw [if_neg e3]
 by_cases e4:x.f.fn=4
 ·rw [if_pos e4];exact YL4 hsl hs hne h e4
 rw [if_neg e4]
 by_cases e5:x.f.fn=5
 ·rw [if_pos e5];exact Yt6 ha hne h e5
 rw [if_neg e5]
 by_cases e6:x.f.fn=6
 ·rw [if_pos e6];exact YL6 hsl hth hne h e6
 rw [if_neg e6]
 exact Yi2 hs hne h (by omega)
end
end
section
open Mod
section
variable {x:Run} {L sl th:Int}
theorem Wm0 (x:Run) (a:Int):(x.drop1 a).2.f=x.f:=rfl
theorem Wi3 (x:Run) (a b c:Int):(x.swingA a b c).2.f=x.f:=rfl
end
end
section
set_option maxHeartbeats 1000000
open Mod
section
variable {x:Run} {L sl th:Int}
end
end
section
open Mod
section
variable {x:Run} {L sl th:Int}
end
end
section
open Mod
theorem WY8 {c:Mod.Cf} (h:okC c=true):0 < (Wc1 c).slots∧0 < (Wc1 c).slots*c.threads∧(Wc1 c).slots*c.threads≤84∧(Wc1 c).slots≤14∧1≤c.level∧c.level≤6:=by
 have B:=Wp5 h
 have h1:2≤(Wc1 c).slots∧(Wc1 c).slots≤14:=B.sl
 have h2:1≤c.threads∧c.threads≤6:=B.th
 have h3:1≤c.level∧c.level≤6:=B.lv
 refine ⟨by omega,Int.mul_pos (by omega) (by omega),?_,h1.2,h3.1,h3.2⟩
 exact Int.le_trans (Int.mul_le_mul h1.2 h2.2 (by omega) (by omega)) (by decide)
theorem RunOk.ok {Q:Mod.Cf→Frm→Prop} {c:Mod.Cf} {x:Run} {B:Nat} (h:RunOk Q c x B) (hB:B < 200000000) (hid:0≤x.id∧x.id≤6) (hp:0≤x.f.pc∧x.f.pc≤100):Ok x:=by
 have hP:x.m.mm.st.toNat+x.m.used.toNat+x.t.retired.length+x.t.found.length+x.t.fr.length≤B:=h.P
 exact ⟨by omega,by omega,by omega,by omega,by omega,⟨by omega,by omega⟩,hp⟩
theorem YW0 {sl th:Int} {f:Frm} (h:Ww2 sl th f) (h1:0≤sl∧sl≤14) (h2:sl*th≤84):0≤f.pc∧f.pc≤100:=by
 unfold Ww2 at h
 omega
end
section
open Mod
theorem f_m (x:Run) (m:Mac):({ x with m:=m }:Run).f=x.f:=rfl
theorem Wm1 (x:Run) (a b c:Int) (d:Bool):(x.swing a b c d).2.f=x.f:=rfl
theorem Wi4 (x:Run) (a b c:Int) (d:Bool):(x.swingM a b c d).2.f=x.f:=rfl
theorem Wm2 (x:Run) (a b:Int):(x.guard a b).f=x.f:=rfl
def Wt4 (sl th:Int) (f:Frm):Prop:=Ww2 sl th f∨f.r.length=10∧(f.fn=10∧0≤f.pc∧f.pc≤1∨f.fn=11∧(0≤f.pc∧f.pc≤14∨f.pc=90)∨(f.fn=12∨f.fn=13)∧(0≤f.pc∧f.pc≤7∨f.pc=90)∨f.fn=14∧0≤f.pc∧f.pc≤7)
theorem Wu9 {sl th fn:Int} {l:List Int} (h:1≤fn∧fn≤6∨10≤fn∧fn≤14) (hs:0≤sl) (ht:0≤sl*th):Wt4 sl th ⟨fn,0,pad 10 l⟩:=by
 by_cases c:fn≤6
 ·exact .inl (Ys4 (by omega) hs ht)
 ·refine .inr ⟨WH4 _ _,?_⟩
  dsimp only
  omega
theorem YW1 {sl th:Int} {f:Frm} (h:Wt4 sl th f) (e:¬ (10≤f.fn∧f.fn≤14)):Ww2 sl th f:=by
 unfold Wt4 at h
 rcases h with h | ⟨_,h⟩
 ·exact h
 ·omega
theorem YC1 {sl th:Int} {f:Frm} (h:Wt4 sl th f) (e:10≤f.fn∧f.fn≤14):f.r.length=10∧(f.fn=10∧0≤f.pc∧f.pc≤1∨f.fn=11∧(0≤f.pc∧f.pc≤14∨f.pc=90)∨(f.fn=12∨f.fn=13)∧(0≤f.pc∧f.pc≤7∨f.pc=90)∨f.fn=14∧0≤f.pc∧f.pc≤7):=by
 unfold Wt4 Ww2 at h
 rcases h with h | h
 ·omega
 ·exact h
section
variable {x:Run} {sl th:Int}
theorem Yt7 (h:AllF (Wt4 sl th) x) (s0:0≤sl) (t0:0≤sl*th) (len:x.f.r.length=10) (e:x.f.fn=10):AllF (Wt4 sl th) (WQ0 x):=by
 have r:=h.rest
 unfold WQ0;dsimp only
 repeat' split
 all_goals ((repeat (with_reducible first | apply AllF.load | apply AllF.store | apply AllF.cas | apply AllF.add | apply AllF.swing | apply AllF.swingA | apply AllF.swingM | apply AllF.drop1 | apply AllF.guard | apply AllF.gh | apply AllF.fo | apply AllF.re | apply AllF.setPl));first | with_reducible assumption | ((with_reducible first | apply Rest.pop | apply Rest.call | apply Rest.allPc | apply Rest.allS | apply Rest.fin);(focus (refine Lo.rest ?_ (by assumption);(with_reducible repeat' constructor)))))
 all_goals first | (with_reducible apply Wu9;omega;assumption;assumption) | ((try simp only [f_m,WD5,f_s,Wj1,Wf9,Wp8,Wp9,WK9,Wm0,Wm1,Wi3,Wi4,Wm2]);refine .inr ⟨?_,?_⟩ <;> simp only [Wk8,Ws8,Wp0,WK8,Wo9,WK7,or_true,true_or,and_true,true_and] <;> omega)
theorem Yt8 (h:AllF (Wt4 sl th) x) (s0:0≤sl) (t0:0≤sl*th) (len:x.f.r.length=10) (e:x.f.fn=11):AllF (Wt4 sl th) (WQ2 x):=by
 have r:=h.rest
 unfold WQ2;dsimp only
 repeat' split
 all_goals ((repeat (with_reducible first | apply AllF.load | apply AllF.store | apply AllF.cas | apply AllF.add | apply AllF.swing | apply AllF.swingA | apply AllF.swingM | apply AllF.drop1 | apply AllF.guard | apply AllF.gh | apply AllF.fo | apply AllF.re | apply AllF.setPl));first | with_reducible assumption | ((with_reducible first | apply Rest.pop | apply Rest.call | apply Rest.allPc | apply Rest.allS | apply Rest.fin);(focus (refine Lo.rest ?_ (by assumption);(with_reducible repeat' constructor)))))
 all_goals first | (with_reducible apply Wu9;omega;assumption;assumption) | ((try simp only [f_m,WD5,f_s,Wj1,Wf9,Wp8,Wp9,WK9,Wm0,Wm1,Wi3,Wi4,Wm2]);refine .inr ⟨?_,?_⟩ <;> simp only [Wk8,Ws8,Wp0,WK8,Wo9,WK7,or_true,true_or,and_true,true_and] <;> omega)
theorem WY9 (h:AllF (Wt4 sl th) x) (s0:0≤sl) (t0:0≤sl*th) (len:x.f.r.length=10) (e:x.f.fn=11):AllF (Wt4 sl th) (Wn7 x):=by
 have r:=h.rest
 unfold Wn7 WQ1;dsimp only
 split
 ·refine Rest.allPc (Rest.s (Rest.m (by (focus (refine Lo.rest ?_ (by assumption);(with_reducible repeat' constructor)))))) ?_
  ((try simp only [f_m,WD5,f_s,Wj1,Wf9,Wp8,Wp9,WK9,Wm0,Wm1,Wi3,Wi4,Wm2]);refine .inr ⟨?_,?_⟩ <;> simp only [Wk8,Ws8,Wp0,WK8,Wo9,WK7,or_true,true_or,and_true,true_and] <;> omega)
 repeat' split
 all_goals first | (refine AllF.push ?_ (Wu9 (by omega) s0 t0)) | skip
 all_goals ((repeat (with_reducible first | apply AllF.load | apply AllF.store | apply AllF.cas | apply AllF.add | apply AllF.swing | apply AllF.swingA | apply AllF.swingM | apply AllF.drop1 | apply AllF.guard | apply AllF.gh | apply AllF.fo | apply AllF.re | apply AllF.setPl));first | with_reducible assumption | ((with_reducible first | apply Rest.pop | apply Rest.call | apply Rest.allPc | apply Rest.allS | apply Rest.fin);(focus (refine Lo.rest ?_ (by assumption);(with_reducible repeat' constructor)))))
 all_goals first | (with_reducible apply Wu9;omega;assumption;assumption) | ((try simp only [f_m,WD5,f_s,Wj1,Wf9,Wp8,Wp9,WK9,Wm0,Wm1,Wi3,Wi4,Wm2]);refine .inr ⟨?_,?_⟩ <;> simp only [Wk8,Ws8,Wp0,WK8,Wo9,WK7,or_true,true_or,and_true,true_and] <;> omega)
theorem Yt9 (h:AllF (Wt4 sl th) x) (s0:0≤sl) (t0:0≤sl*th) (len:x.f.r.length=10) (e:x.f.fn=11):AllF (Wt4 sl th) (WQ3 x):=by
 have r:=h.rest
 unfold WQ3 WQ1;dsimp only
 repeat' split
 all_goals ((repeat (with_reducible first | apply AllF.load | apply AllF.store | apply AllF.cas | apply AllF.add | apply AllF.swing | apply AllF.swingA | apply AllF.swingM | apply AllF.drop1 | apply AllF.guard | apply AllF.gh | apply AllF.fo | apply AllF.re | apply AllF.setPl));first | with_reducible assumption | ((with_reducible first | apply Rest.pop | apply Rest.call | apply Rest.allPc | apply Rest.allS | apply Rest.fin);(focus (refine Lo.rest ?_ (by assumption);(with_reducible repeat' constructor)))))
 all_goals first | (with_reducible apply Wu9;omega;assumption;assumption) | ((try simp only [f_m,WD5,f_s,Wj1,Wf9,Wp8,Wp9,WK9,Wm0,Wm1,Wi3,Wi4,Wm2]);refine .inr ⟨?_,?_⟩ <;> simp only [Wk8,Ws8,Wp0,WK8,Wo9,WK7,or_true,true_or,and_true,true_and] <;> omega)
theorem YC2 (h:AllF (Wt4 sl th) x) (s0:0≤sl) (t0:0≤sl*th) (len:x.f.r.length=10) (e:x.f.fn=11):AllF (Wt4 sl th) (Yy7 x):=by
 have r:=h.rest
 unfold Yy7 WV9;dsimp only
 repeat' split
 all_goals ((repeat (with_reducible first | apply AllF.load | apply AllF.store | apply AllF.cas | apply AllF.add | apply AllF.swing | apply AllF.swingA | apply AllF.swingM | apply AllF.drop1 | apply AllF.guard | apply AllF.gh | apply AllF.fo | apply AllF.re | apply AllF.setPl));first | with_reducible assumption | ((with_reducible first | apply Rest.pop | apply Rest.call | apply Rest.allPc | apply Rest.allS | apply Rest.fin);(focus (refine Lo.rest ?_ (by assumption);(with_reducible repeat' constructor)))))
 all_goals first | (with_reducible apply Wu9;omega;assumption;assumption) | with_reducible exact Rest.m r | ((try simp only [f_m,WD5,f_s,Wj1,Wf9,Wp8,Wp9,WK9,Wm0,Wm1,Wi3,Wi4,Wm2]);refine .inr ⟨?_,?_⟩ <;> simp only [Wk8,Ws8,Wp0,WK8,Wo9,WK7,or_true,true_or,and_true,true_and] <;> omega)
theorem Yu0 (h:AllF (Wt4 sl th) x) (s0:0≤sl) (t0:0≤sl*th) (len:x.f.r.length=10) (e:x.f.fn=11):AllF (Wt4 sl th) (WQ4 x):=by
 unfold WQ4
 repeat' split
 ·exact Yt8 h s0 t0 len e
 ·exact WY9 h s0 t0 len e
 ·exact Yt9 h s0 t0 len e
 ·exact YC2 h s0 t0 len e
theorem Yu1 (h:AllF (Wt4 sl th) x) (s0:0≤sl) (t0:0≤sl*th) (len:x.f.r.length=10) (e:x.f.fn=12∨x.f.fn=13):AllF (Wt4 sl th) (WG2 x):=by
 have r:=h.rest
 unfold WG2;dsimp only
 repeat' split
 all_goals ((repeat (with_reducible first | apply AllF.load | apply AllF.store | apply AllF.cas | apply AllF.add | apply AllF.swing | apply AllF.swingA | apply AllF.swingM | apply AllF.drop1 | apply AllF.guard | apply AllF.gh | apply AllF.fo | apply AllF.re | apply AllF.setPl));first | with_reducible assumption | ((with_reducible first | apply Rest.pop | apply Rest.call | apply Rest.allPc | apply Rest.allS | apply Rest.fin);(focus (refine Lo.rest ?_ (by assumption);(with_reducible repeat' constructor)))))
 all_goals first | (with_reducible apply Wu9;omega;assumption;assumption) | ((try simp only [f_m,WD5,f_s,Wj1,Wf9,Wp8,Wp9,WK9,Wm0,Wm1,Wi3,Wi4,Wm2]);refine .inr ⟨?_,?_⟩ <;> simp only [Wk8,Ws8,Wp0,WK8,Wo9,WK7,or_true,true_or,and_true,true_and] <;> omega)
theorem Yu2 (h:AllF (Wt4 sl th) x) (s0:0≤sl) (t0:0≤sl*th) (len:x.f.r.length=10) (e:x.f.fn=12∨x.f.fn=13):AllF (Wt4 sl th) (WG3 x):=by
 have r:=h.rest
 unfold WG3;dsimp only
 repeat' split
 all_goals first | exact Yu1 h s0 t0 len e | skip
 all_goals ((repeat (with_reducible first | apply AllF.load | apply AllF.store | apply AllF.cas | apply AllF.add | apply AllF.swing | apply AllF.swingA | apply AllF.swingM | apply AllF.drop1 | apply AllF.guard | apply AllF.gh | apply AllF.fo | apply AllF.re | apply AllF.setPl));first | with_reducible assumption | ((with_reducible first | apply Rest.pop | apply Rest.call | apply Rest.allPc | apply Rest.allS | apply Rest.fin);(focus (refine Lo.rest ?_ (by assumption);(with_reducible repeat' constructor)))))
 all_goals first | (with_reducible apply Wu9;omega;assumption;assumption) | ((try simp only [f_m,WD5,f_s,Wj1,Wf9,Wp8,Wp9,WK9,Wm0,Wm1,Wi3,Wi4,Wm2]);refine .inr ⟨?_,?_⟩ <;> simp only [Wk8,Ws8,Wp0,WK8,Wo9,WK7,or_true,true_or,and_true,true_and] <;> omega)
theorem WZ0 (h:AllF (Wt4 sl th) x) (len:x.f.r.length=10) (e:x.f.fn=14):AllF (Wt4 sl th) (WK3 x):=by
 have r:=h.rest
 unfold WK3;dsimp only
 repeat' split
 all_goals ((repeat (with_reducible first | apply AllF.load | apply AllF.store | apply AllF.cas | apply AllF.add | apply AllF.swing | apply AllF.swingA | apply AllF.swingM | apply AllF.drop1 | apply AllF.guard | apply AllF.gh | apply AllF.fo | apply AllF.re | apply AllF.setPl));first | with_reducible assumption | ((with_reducible first | apply Rest.pop | apply Rest.call | apply Rest.allPc | apply Rest.allS | apply Rest.fin);(focus (refine Lo.rest ?_ (by assumption);(with_reducible repeat' constructor)))))
 all_goals ((try simp only [f_m,WD5,f_s,Wj1,Wf9,Wp8,Wp9,WK9,Wm0,Wm1,Wi3,Wi4,Wm2]);refine .inr ⟨?_,?_⟩ <;> simp only [Wk8,Ws8,Wp0,WK8,Wo9,WK7,or_true,true_or,and_true,true_and] <;> omega)
theorem Yu3 (h:AllF (Wt4 sl th) x) (s0:0≤sl) (t0:0≤sl*th) (len:x.f.r.length=10) (e:x.f.fn=14):AllF (Wt4 sl th) (WQ5 x):=by
 have r:=h.rest
 unfold WQ5;dsimp only
 repeat' split
 all_goals first | exact WZ0 h len e | skip
 all_goals ((repeat (with_reducible first | apply AllF.load | apply AllF.store | apply AllF.cas | apply AllF.add | apply AllF.swing | apply AllF.swingA | apply AllF.swingM | apply AllF.drop1 | apply AllF.guard | apply AllF.gh | apply AllF.fo | apply AllF.re | apply AllF.setPl));first | with_reducible assumption | ((with_reducible first | apply Rest.pop | apply Rest.call | apply Rest.allPc | apply Rest.allS | apply Rest.fin);(focus (refine Lo.rest ?_ (by assumption);(with_reducible repeat' constructor)))))
 all_goals first | (with_reducible apply Wu9;omega;assumption;assumption) | ((try simp only [f_m,WD5,f_s,Wj1,Wf9,Wp8,Wp9,WK9,Wm0,Wm1,Wi3,Wi4,Wm2]);refine .inr ⟨?_,?_⟩ <;> simp only [Wk8,Ws8,Wp0,WK8,Wo9,WK7,or_true,true_or,and_true,true_and] <;> omega)
theorem Yu4 {i:Nat} {p:Int} (h:AllF (Wt4 sl th) x) (len:x.f.r.length=10) (e:x.f.fn=14):AllF (Wt4 sl th) (WK4 x i p):=by
 have r:=h.rest
 unfold WK4;dsimp only
 split
 ·refine Rest.allS (Rest.m (by (focus (refine Lo.rest ?_ (by assumption);(with_reducible repeat' constructor))))) ?_
  ((try simp only [f_m,WD5,f_s,Wj1,Wf9,Wp8,Wp9,WK9,Wm0,Wm1,Wi3,Wi4,Wm2]);refine .inr ⟨?_,?_⟩ <;> simp only [Wk8,Ws8,Wp0,WK8,Wo9,WK7,or_true,true_or,and_true,true_and] <;> omega)
 ·refine AllF.m ?_
  ((repeat (with_reducible first | apply AllF.load | apply AllF.store | apply AllF.cas | apply AllF.add | apply AllF.swing | apply AllF.swingA | apply AllF.swingM | apply AllF.drop1 | apply AllF.guard | apply AllF.gh | apply AllF.fo | apply AllF.re | apply AllF.setPl));first | with_reducible assumption | ((with_reducible first | apply Rest.pop | apply Rest.call | apply Rest.allPc | apply Rest.allS | apply Rest.fin);(focus (refine Lo.rest ?_ (by assumption);(with_reducible repeat' constructor)))))
  ((try simp only [f_m,WD5,f_s,Wj1,Wf9,Wp8,Wp9,WK9,Wm0,Wm1,Wi3,Wi4,Wm2]);refine .inr ⟨?_,?_⟩ <;> simp only [Wk8,Ws8,Wp0,WK8,Wo9,WK7,or_true,true_or,and_true,true_and] <;> omega)
theorem Yu5 (h:AllF (Wt4 sl th) x) (s0:0≤sl) (t0:0≤sl*th) (len:x.f.r.length=10) (e:x.f.fn=14):AllF (Wt4 sl th) (WQ6 x):=by
 have r:=h.rest
 unfold WQ6 Wp2;dsimp only
 repeat' split
 all_goals first | exact Yu3 h s0 t0 len e | exact Yu4 h len e | exact WZ0 h len e | skip
 all_goals ((repeat (with_reducible first | apply AllF.load | apply AllF.store | apply AllF.cas | apply AllF.add | apply AllF.swing | apply AllF.swingA | apply AllF.swingM | apply AllF.drop1 | apply AllF.guard | apply AllF.gh | apply AllF.fo | apply AllF.re | apply AllF.setPl));first | with_reducible assumption | ((with_reducible first | apply Rest.pop | apply Rest.call | apply Rest.allPc | apply Rest.allS | apply Rest.fin);(focus (refine Lo.rest ?_ (by assumption);(with_reducible repeat' constructor)))))
 all_goals first | (with_reducible apply Wu9;omega;assumption;assumption) | ((try simp only [f_m,WD5,f_s,Wj1,Wf9,Wp8,Wp9,WK9,Wm0,Wm1,Wi3,Wi4,Wm2]);refine .inr ⟨?_,?_⟩ <;> simp only [Wk8,Ws8,Wp0,WK8,Wo9,WK7,or_true,true_or,and_true,true_and] <;> omega)
theorem W63 (h:AllF (Wt4 sl th) x) (hs:sl=x.m.p.slots) (ht:th=x.m.p.c.threads) (s0:0≤sl) (t0:0≤sl*th) (hne:x.t.fr≠[]):AllF (Wt4 sl th) (Wo4 x):=by
 have r:=h.rest
 have o:=h.top hne
 unfold Wo4
 rw [if_neg hne]
 dsimp only
 split
 ·((repeat (with_reducible first | apply AllF.load | apply AllF.store | apply AllF.cas | apply AllF.add | apply AllF.swing | apply AllF.swingA | apply AllF.swingM | apply AllF.drop1 | apply AllF.guard | apply AllF.gh | apply AllF.fo | apply AllF.re | apply AllF.setPl));first | with_reducible assumption | ((with_reducible first | apply Rest.pop | apply Rest.call | apply Rest.allPc | apply Rest.allS | apply Rest.fin);(focus (refine Lo.rest ?_ (by assumption);(with_reducible repeat' constructor)))))
 split
 ·exact Yt7 h s0 t0 (YC1 o (by omega)).1 (by assumption)
 split
 ·exact Yu0 h s0 t0 (YC1 o (by omega)).1 (by assumption)
 split
 ·exact Yu2 h s0 t0 (YC1 o (by omega)).1 (by assumption)
 split
 ·exact Yu5 h s0 t0 (YC1 o (by omega)).1 (by assumption)
 ·exact WY5 (λf hf=>.inl hf) h hs ht s0 t0 (YW1 o (by omega))
theorem YC3 (hs:0 < sl) (ha:0 < sl*th) (hne:x.t.fr≠[]) (h:Adj sl th x) (e:x.f.fn=10) (hp:0≤x.f.pc∧x.f.pc≤1):Nx sl th x (WQ0 x):=by
 have r:=h.r hne
 rw [e] at r
 unfold WQ0;dsimp only
 split
 ·(refine ⟨by ((with_reducible first | apply AdjR.pop | apply AdjR.allPc | apply AdjR.allS | apply AdjR.fin | apply AdjR.call | apply AdjR.all);(focus (refine Lo.adjR ?_ (by assumption);(with_reducible repeat' constructor)));try (first | decide | (refine .inr ?_;decide) | (refine .inl ?_;simp [fA];done) | (refine Lo.ne ?_ hne;(with_reducible repeat' constructor)))),?_⟩;first | (refine .inl ?_;(focus (refine Tch.act ?_;(with_reducible repeat' constructor)));done) | (refine .inr ?_;((with_reducible first | apply AdjR.ltCall r hne | apply AdjR.ltFin r hne | apply AdjR.ltPc r hne | apply AdjR.ltPop r hne);assumption;(focus (refine Lo.adjR ?_ (by assumption);(with_reducible repeat' constructor)));try (first | assumption | exact We1 _ _));simp +decide [fW,fA,hs];first | done | omega))
 have e1:x.f.pc=1:=by omega
 split
 all_goals (refine ⟨by ((with_reducible first | apply AdjR.pop | apply AdjR.allPc | apply AdjR.allS | apply AdjR.fin | apply AdjR.call | apply AdjR.all);(focus (refine Lo.adjR ?_ (by assumption);(with_reducible repeat' constructor)));try (first | decide | (refine .inr ?_;decide) | (refine .inl ?_;simp [fA];done) | (refine Lo.ne ?_ hne;(with_reducible repeat' constructor)))),?_⟩;first | (refine .inl ?_;(focus (refine Tch.act ?_;(with_reducible repeat' constructor)));done) | (refine .inr ?_;((with_reducible first | apply AdjR.ltCall r hne | apply AdjR.ltFin r hne | apply AdjR.ltPc r hne | apply AdjR.ltPop r hne);assumption;(focus (refine Lo.adjR ?_ (by assumption);(with_reducible repeat' constructor)));try (first | assumption | exact We1 _ _));simp +decide [fW,fA,hs];first | done | omega))
theorem YC4 (hs:0 < sl) (ha:0 < sl*th) (hne:x.t.fr≠[]) (h:Adj sl th x) (e:x.f.fn=11) (hp:0≤x.f.pc∧x.f.pc≤3):Nx sl th x (WQ2 x):=by
 have r:=h.r hne
 rw [e] at r
 unfold WQ2;dsimp only
 repeat' split
 all_goals (refine ⟨by ((with_reducible first | apply AdjR.pop | apply AdjR.allPc | apply AdjR.allS | apply AdjR.fin | apply AdjR.call | apply AdjR.all);(focus (refine Lo.adjR ?_ (by assumption);(with_reducible repeat' constructor)));try (first | decide | (refine .inr ?_;decide) | (refine .inl ?_;simp [fA];done) | (refine Lo.ne ?_ hne;(with_reducible repeat' constructor)))),?_⟩;first | (refine .inl ?_;(focus (refine Tch.act ?_;(with_reducible repeat' constructor)));done) | (refine .inr ?_;((with_reducible first | apply AdjR.ltCall r hne | apply AdjR.ltFin r hne | apply AdjR.ltPc r hne | apply AdjR.ltPop r hne);assumption;(focus (refine Lo.adjR ?_ (by assumption);(with_reducible repeat' constructor)));try (first | assumption | exact We1 _ _));simp +decide [fW,fA,hs,ha];first | done | omega))
theorem W64 (hs:0 < sl) (ha:0 < sl*th) (hne:x.t.fr≠[]) (h:Adj sl th x) (e:x.f.fn=11) (hp:4≤x.f.pc∧x.f.pc≤7):Nx sl th x (Wn7 x):=by
 have r:=h.r hne
 rw [e] at r
 unfold Wn7 WQ1;dsimp only
 split
 ·(refine ⟨by ((with_reducible first | apply AdjR.pop | apply AdjR.allPc | apply AdjR.allS | apply AdjR.fin | apply AdjR.call | apply AdjR.all);(focus (refine Lo.adjR ?_ (by assumption);(with_reducible repeat' constructor)));try (first | decide | (refine .inr ?_;decide) | (refine .inl ?_;simp [fA];done) | (refine Lo.ne ?_ hne;(with_reducible repeat' constructor)))),?_⟩;first | (refine .inl ?_;(focus (refine Tch.act ?_;(with_reducible repeat' constructor)));done) | (refine .inr ?_;((with_reducible first | apply AdjR.ltCall r hne | apply AdjR.ltFin r hne | apply AdjR.ltPc r hne | apply AdjR.ltPop r hne);assumption;(focus (refine Lo.adjR ?_ (by assumption);(with_reducible repeat' constructor)));try (first | assumption | exact We1 _ _));simp +decide [fW,fA,hs,ha];first | done | omega))
 split
 ·(refine ⟨by ((with_reducible first | apply AdjR.pop | apply AdjR.allPc | apply AdjR.allS | apply AdjR.fin | apply AdjR.call | apply AdjR.all);(focus (refine Lo.adjR ?_ (by assumption);(with_reducible repeat' constructor)));try (first | decide | (refine .inr ?_;decide) | (refine .inl ?_;simp [fA];done) | (refine Lo.ne ?_ hne;(with_reducible repeat' constructor)))),?_⟩;first | (refine .inl ?_;(focus (refine Tch.act ?_;(with_reducible repeat' constructor)));done) | (refine .inr ?_;((with_reducible first | apply AdjR.ltCall r hne | apply AdjR.ltFin r hne | apply AdjR.ltPc r hne | apply AdjR.ltPop r hne);assumption;(focus (refine Lo.adjR ?_ (by assumption);(with_reducible repeat' constructor)));try (first | assumption | exact We1 _ _));simp +decide [fW,fA,hs];first | done | omega))
 split
 ·split
  ·(refine ⟨by ((with_reducible first | apply AdjR.pop | apply AdjR.allPc | apply AdjR.allS | apply AdjR.fin | apply AdjR.call | apply AdjR.all);(focus (refine Lo.adjR ?_ (by assumption);(with_reducible repeat' constructor)));try (first | decide | (refine .inr ?_;decide) | (refine .inl ?_;simp [fA];done) | (refine Lo.ne ?_ hne;(with_reducible repeat' constructor)))),?_⟩;first | (refine .inl ?_;(focus (refine Tch.act ?_;(with_reducible repeat' constructor)));done) | (refine .inr ?_;((with_reducible first | apply AdjR.ltCall r hne | apply AdjR.ltFin r hne | apply AdjR.ltPc r hne | apply AdjR.ltPop r hne);assumption;(focus (refine Lo.adjR ?_ (by assumption);(with_reducible repeat' constructor)));try (first | assumption | exact We1 _ _));simp +decide [fW,fA,hs];first | done | omega))
  ·split
   all_goals (refine ⟨by ((with_reducible first | apply AdjR.pop | apply AdjR.allPc | apply AdjR.allS | apply AdjR.fin | apply AdjR.call | apply AdjR.all);(focus (refine Lo.adjR ?_ (by assumption);(with_reducible repeat' constructor)));try (first | decide | (refine .inr ?_;decide) | (refine .inl ?_;simp [fA];done) | (refine Lo.ne ?_ hne;(with_reducible repeat' constructor)))),?_⟩;first | (refine .inl ?_;(focus (refine Tch.act ?_;(with_reducible repeat' constructor)));done) | (refine .inr ?_;((with_reducible first | apply AdjR.ltCall r hne | apply AdjR.ltFin r hne | apply AdjR.ltPc r hne | apply AdjR.ltPop r hne);assumption;(focus (refine Lo.adjR ?_ (by assumption);(with_reducible repeat' constructor)));try (first | assumption | exact We1 _ _));simp +decide [fW,fA,hs];first | done | omega))
 have e1:x.f.pc=7:=by omega
 split
 ·have ra:AdjR sl th 4 (((((x.s 7 1).s 8 0).s 9 0).pc 90).f :: rst x) (x.fin 1 0 0):=by
   have h1:Adj sl th (((((x.s 7 1).s 8 0).s 9 0).pc 90)):=(r.s.s.s).allPc
   have h2:=h1.a
   rw [show (((((x.s 7 1).s 8 0).s 9 0).pc 90)).t.fr.reverse=(((((x.s 7 1).s 8 0).s 9 0).pc 90)).f :: rst (((((x.s 7 1).s 8 0).s 9 0).pc 90)) from WC7 (We1 _ _)] at h2
   have er:rst ((((x.s 7 1).s 8 0).s 9 0).pc 90)=rst x:=(r.s.s.s).pc.e
   have er2:rst (x.fin 1 0 0)=(((((x.s 7 1).s 8 0).s 9 0).pc 90).f :: rst x):=by
    show ((((((x.s 7 1).s 8 0).s 9 0).pc 90).t.fr ++ [(⟨4,0,pad 10 []⟩ : Frm)]).dropLast).reverse=_
    rw [List.dropLast_concat,show (((((x.s 7 1).s 8 0).s 9 0).pc 90)).t.fr.reverse=(((((x.s 7 1).s 8 0).s 9 0).pc 90)).f :: rst (((((x.s 7 1).s 8 0).s 9 0).pc 90)) from WC7 (We1 _ _)]
    exact congrArg _ er
   refine ⟨?_,er2,?_,?_⟩
   ·show ((((((x.s 7 1).s 8 0).s 9 0).pc 90).t.fr ++ [(⟨4,0,pad 10 []⟩ : Frm)]).getLast?.getD dfF).fn=4
    simp
   ·refine .inr ?_
    rw [(r.s.s.s).pc.f]
    decide
   ·rw [← er];exact h2
  have hn:(x.fin 1 0 0).t.fr≠[]:=by
   show (((((x.s 7 1).s 8 0).s 9 0).pc 90).t.fr ++ [_])≠[]
   simp
  refine ⟨Adj.push (ra.all hn) ?_,.inr ?_⟩
  ·rw [WC7 hn]
   refine .inl ?_
   show fA sl th (x.fin 1 0 0).f.fn (x.fin 1 0 0).f.pc=true
   rw [ra.f]
   have:(x.fin 1 0 0).f.pc=0:=by
    show ((((((x.s 7 1).s 8 0).s 9 0).pc 90).t.fr ++ [(⟨4,0,pad 10 []⟩ : Frm)]).getLast?.getD dfF).pc=0
    simp
   rw [this]
   simp [fA,hs]
  ·have hpf:(x.fin 1 0 0).f.pc=0:=by
    show ((((((x.s 7 1).s 8 0).s 9 0).pc 90).t.fr ++ [(⟨4,0,pad 10 []⟩ : Frm)]).getLast?.getD dfF).pc=0
    simp
   rw [WS5,ra.mu hn hpf,r.mu hne e1]
   simp [fW,fA,hs]
 ·(refine ⟨by ((with_reducible first | apply AdjR.pop | apply AdjR.allPc | apply AdjR.allS | apply AdjR.fin | apply AdjR.call | apply AdjR.all);(focus (refine Lo.adjR ?_ (by assumption);(with_reducible repeat' constructor)));try (first | decide | (refine .inr ?_;decide) | (refine .inl ?_;simp [fA];done) | (refine Lo.ne ?_ hne;(with_reducible repeat' constructor)))),?_⟩;first | (refine .inl ?_;(focus (refine Tch.act ?_;(with_reducible repeat' constructor)));done) | (refine .inr ?_;((with_reducible first | apply AdjR.ltCall r hne | apply AdjR.ltFin r hne | apply AdjR.ltPc r hne | apply AdjR.ltPop r hne);assumption;(focus (refine Lo.adjR ?_ (by assumption);(with_reducible repeat' constructor)));try (first | assumption | exact We1 _ _));simp +decide [fW,fA,hs];first | done | omega))
theorem YC5 (hs:0 < sl) (ha:0 < sl*th) (hne:x.t.fr≠[]) (h:Adj sl th x) (e:x.f.fn=11) (hp:8≤x.f.pc∧x.f.pc≤9):Nx sl th x (WQ3 x):=by
 have r:=h.r hne
 rw [e] at r
 unfold WQ3 WQ1;dsimp only
 split
 ·split
  all_goals (refine ⟨by ((with_reducible first | apply AdjR.pop | apply AdjR.allPc | apply AdjR.allS | apply AdjR.fin | apply AdjR.call | apply AdjR.all);(focus (refine Lo.adjR ?_ (by assumption);(with_reducible repeat' constructor)));try (first | decide | (refine .inr ?_;decide) | (refine .inl ?_;simp [fA];done) | (refine Lo.ne ?_ hne;(with_reducible repeat' constructor)))),?_⟩;first | (refine .inl ?_;(focus (refine Tch.act ?_;(with_reducible repeat' constructor)));done) | (refine .inr ?_;((with_reducible first | apply AdjR.ltCall r hne | apply AdjR.ltFin r hne | apply AdjR.ltPc r hne | apply AdjR.ltPop r hne);assumption;(focus (refine Lo.adjR ?_ (by assumption);(with_reducible repeat' constructor)));try (first | assumption | exact We1 _ _));simp +decide [fW,fA,hs];first | done | omega))
 have e1:x.f.pc=9:=by omega
 (refine ⟨by ((with_reducible first | apply AdjR.pop | apply AdjR.allPc | apply AdjR.allS | apply AdjR.fin | apply AdjR.call | apply AdjR.all);(focus (refine Lo.adjR ?_ (by assumption);(with_reducible repeat' constructor)));try (first | decide | (refine .inr ?_;decide) | (refine .inl ?_;simp [fA];done) | (refine Lo.ne ?_ hne;(with_reducible repeat' constructor)))),?_⟩;first | (refine .inl ?_;(focus (refine Tch.act ?_;(with_reducible repeat' constructor)));done) | (refine .inr ?_;((with_reducible first | apply AdjR.ltCall r hne | apply AdjR.ltFin r hne | apply AdjR.ltPc r hne | apply AdjR.ltPop r hne);assumption;(focus (refine Lo.adjR ?_ (by assumption);(with_reducible repeat' constructor)));try (first | assumption | exact We1 _ _));simp +decide [fW,fA,hs];first | done | omega))
theorem YL7 (hs:0 < sl) (ha:0 < sl*th) (hne:x.t.fr≠[]) (h:Adj sl th x) (e:x.f.fn=11) (hp:10≤x.f.pc∧x.f.pc≤14):Nx sl th x (Yy7 x):=by
 have r:=h.r hne
 rw [e] at r
 unfold Yy7 WV9;dsimp only
 repeat' split
 all_goals first | (refine ⟨by ((with_reducible first | apply AdjR.pop | apply AdjR.allPc | apply AdjR.allS | apply AdjR.fin | apply AdjR.call | apply AdjR.all);(focus (refine Lo.adjR ?_ (by assumption);(with_reducible repeat' constructor)));try (first | decide | (refine .inr ?_;decide) | (refine .inl ?_;simp [fA];done) | (refine Lo.ne ?_ hne;(with_reducible repeat' constructor)))),?_⟩;first | (refine .inl ?_;(focus (refine Tch.act ?_;(with_reducible repeat' constructor)));done) | (refine .inr ?_;((with_reducible first | apply AdjR.ltCall r hne | apply AdjR.ltFin r hne | apply AdjR.ltPc r hne | apply AdjR.ltPop r hne);assumption;(focus (refine Lo.adjR ?_ (by assumption);(with_reducible repeat' constructor)));try (first | assumption | exact We1 _ _));simp +decide [fW,fA,hs,ha];first | done | omega)) | omega | contradiction
theorem YC6 (hs:0 < sl) (ha:0 < sl*th) (hne:x.t.fr≠[]) (h:Adj sl th x) (e:x.f.fn=11) (hp:0≤x.f.pc∧x.f.pc≤14):Nx sl th x (WQ4 x):=by
 unfold WQ4
 repeat' split
 ·exact YC4 hs ha hne h e (by omega)
 ·exact W64 hs ha hne h e (by omega)
 ·exact YC5 hs ha hne h e (by omega)
 ·exact YL7 hs ha hne h e (by omega)
theorem Yi3 (hs:0 < sl) (ha:0 < sl*th) (hne:x.t.fr≠[]) (h:Adj sl th x) (e:x.f.fn=12) (hp:0≤x.f.pc∧x.f.pc≤3):Nx sl th x (WG2 x):=by
 have r:=h.r hne
 rw [e] at r
 unfold WG2;dsimp only
 repeat' split
 all_goals first | (refine ⟨by ((with_reducible first | apply AdjR.pop | apply AdjR.allPc | apply AdjR.allS | apply AdjR.fin | apply AdjR.call | apply AdjR.all);(focus (refine Lo.adjR ?_ (by assumption);(with_reducible repeat' constructor)));try (first | decide | (refine .inr ?_;decide) | (refine .inl ?_;simp [fA];done) | (refine Lo.ne ?_ hne;(with_reducible repeat' constructor)))),?_⟩;first | (refine .inl ?_;(focus (refine Tch.act ?_;(with_reducible repeat' constructor)));done) | (refine .inr ?_;((with_reducible first | apply AdjR.ltCall r hne | apply AdjR.ltFin r hne | apply AdjR.ltPc r hne | apply AdjR.ltPop r hne);assumption;(focus (refine Lo.adjR ?_ (by assumption);(with_reducible repeat' constructor)));try (first | assumption | exact We1 _ _));simp +decide [fW,fA,hs,ha];first | done | omega)) | omega
theorem Yi4 (hs:0 < sl) (ha:0 < sl*th) (hne:x.t.fr≠[]) (h:Adj sl th x) (e:x.f.fn=13) (hp:0≤x.f.pc∧x.f.pc≤3):Nx sl th x (WG2 x):=by
 have r:=h.r hne
 rw [e] at r
 unfold WG2;dsimp only
 repeat' split
 all_goals first | (refine ⟨by ((with_reducible first | apply AdjR.pop | apply AdjR.allPc | apply AdjR.allS | apply AdjR.fin | apply AdjR.call | apply AdjR.all);(focus (refine Lo.adjR ?_ (by assumption);(with_reducible repeat' constructor)));try (first | decide | (refine .inr ?_;decide) | (refine .inl ?_;simp [fA];done) | (refine Lo.ne ?_ hne;(with_reducible repeat' constructor)))),?_⟩;first | (refine .inl ?_;(focus (refine Tch.act ?_;(with_reducible repeat' constructor)));done) | (refine .inr ?_;((with_reducible first | apply AdjR.ltCall r hne | apply AdjR.ltFin r hne | apply AdjR.ltPc r hne | apply AdjR.ltPop r hne);assumption;(focus (refine Lo.adjR ?_ (by assumption);(with_reducible repeat' constructor)));try (first | assumption | exact We1 _ _));simp +decide [fW,fA,hs,ha];first | done | omega)) | omega
theorem Yi5 (hs:0 < sl) (ha:0 < sl*th) (hne:x.t.fr≠[]) (h:Adj sl th x) (e:x.f.fn=12) (hp:0≤x.f.pc∧x.f.pc≤7):Nx sl th x (WG3 x):=by
 have r:=h.r hne
 rw [e] at r
 unfold WG3;dsimp only
 repeat' split
 all_goals first | (refine ⟨by ((with_reducible first | apply AdjR.pop | apply AdjR.allPc | apply AdjR.allS | apply AdjR.fin | apply AdjR.call | apply AdjR.all);(focus (refine Lo.adjR ?_ (by assumption);(with_reducible repeat' constructor)));try (first | decide | (refine .inr ?_;decide) | (refine .inl ?_;simp [fA];done) | (refine Lo.ne ?_ hne;(with_reducible repeat' constructor)))),?_⟩;first | (refine .inl ?_;(focus (refine Tch.act ?_;(with_reducible repeat' constructor)));done) | (refine .inr ?_;((with_reducible first | apply AdjR.ltCall r hne | apply AdjR.ltFin r hne | apply AdjR.ltPc r hne | apply AdjR.ltPop r hne);assumption;(focus (refine Lo.adjR ?_ (by assumption);(with_reducible repeat' constructor)));try (first | assumption | exact We1 _ _));simp +decide [fW,fA,hs,ha];first | done | omega)) | exact Yi3 hs ha hne h e (by omega)
theorem Yi6 (hs:0 < sl) (ha:0 < sl*th) (hne:x.t.fr≠[]) (h:Adj sl th x) (e:x.f.fn=13) (hp:0≤x.f.pc∧x.f.pc≤7):Nx sl th x (WG3 x):=by
 have r:=h.r hne
 rw [e] at r
 unfold WG3;dsimp only
 repeat' split
 all_goals first | (refine ⟨by ((with_reducible first | apply AdjR.pop | apply AdjR.allPc | apply AdjR.allS | apply AdjR.fin | apply AdjR.call | apply AdjR.all);(focus (refine Lo.adjR ?_ (by assumption);(with_reducible repeat' constructor)));try (first | decide | (refine .inr ?_;decide) | (refine .inl ?_;simp [fA];done) | (refine Lo.ne ?_ hne;(with_reducible repeat' constructor)))),?_⟩;first | (refine .inl ?_;(focus (refine Tch.act ?_;(with_reducible repeat' constructor)));done) | (refine .inr ?_;((with_reducible first | apply AdjR.ltCall r hne | apply AdjR.ltFin r hne | apply AdjR.ltPc r hne | apply AdjR.ltPop r hne);assumption;(focus (refine Lo.adjR ?_ (by assumption);(with_reducible repeat' constructor)));try (first | assumption | exact We1 _ _));simp +decide [fW,fA,hs,ha];first | done | omega)) | exact Yi4 hs ha hne h e (by omega)
theorem Yb5 (hs:0 < sl) (hne:x.t.fr≠[]) (h:Adj sl th x) (e:x.f.fn=14):Nx sl th x (WK3 x):=by
 have r:=h.r hne
 rw [e] at r
 unfold WK3;dsimp only
 repeat' split
 all_goals (refine ⟨by ((with_reducible first | apply AdjR.pop | apply AdjR.allPc | apply AdjR.allS | apply AdjR.fin | apply AdjR.call | apply AdjR.all);(focus (refine Lo.adjR ?_ (by assumption);(with_reducible repeat' constructor)));try (first | decide | (refine .inr ?_;decide) | (refine .inl ?_;simp [fA];done) | (refine Lo.ne ?_ hne;(with_reducible repeat' constructor)))),?_⟩;first | (refine .inl ?_;(focus (refine Tch.act ?_;(with_reducible repeat' constructor)));done) | (refine .inr ?_;((with_reducible first | apply AdjR.ltCall r hne | apply AdjR.ltFin r hne | apply AdjR.ltPc r hne | apply AdjR.ltPop r hne);assumption;(focus (refine Lo.adjR ?_ (by assumption);(with_reducible repeat' constructor)));try (first | assumption | exact We1 _ _));simp +decide [fW,fA,hs];first | done | omega))
theorem YC7 (hs:0 < sl) (ha:0 < sl*th) (hne:x.t.fr≠[]) (h:Adj sl th x) (e:x.f.fn=14) (hp:0≤x.f.pc∧x.f.pc≤3):Nx sl th x (WQ5 x):=by
 have r:=h.r hne
 rw [e] at r
 unfold WQ5;dsimp only
 repeat' split
 all_goals first | (refine ⟨by ((with_reducible first | apply AdjR.pop | apply AdjR.allPc | apply AdjR.allS | apply AdjR.fin | apply AdjR.call | apply AdjR.all);(focus (refine Lo.adjR ?_ (by assumption);(with_reducible repeat' constructor)));try (first | decide | (refine .inr ?_;decide) | (refine .inl ?_;simp [fA];done) | (refine Lo.ne ?_ hne;(with_reducible repeat' constructor)))),?_⟩;first | (refine .inl ?_;(focus (refine Tch.act ?_;(with_reducible repeat' constructor)));done) | (refine .inr ?_;((with_reducible first | apply AdjR.ltCall r hne | apply AdjR.ltFin r hne | apply AdjR.ltPc r hne | apply AdjR.ltPop r hne);assumption;(focus (refine Lo.adjR ?_ (by assumption);(with_reducible repeat' constructor)));try (first | assumption | exact We1 _ _));simp +decide [fW,fA,hs];first | done | omega)) | exact Yb5 hs hne h e | omega
theorem YC8 {i:Nat} {p:Int} (hs:0 < sl) (ha:0 < sl*th) (hne:x.t.fr≠[]) (h:Adj sl th x) (e:x.f.fn=14):Nx sl th x (WK4 x i p):=by
 have r:=h.r hne
 rw [e] at r
 unfold WK4;dsimp only
 split
 all_goals (refine ⟨by ((with_reducible first | apply AdjR.pop | apply AdjR.allPc | apply AdjR.allS | apply AdjR.fin | apply AdjR.call | apply AdjR.all);(focus (refine Lo.adjR ?_ (by assumption);(with_reducible repeat' constructor)));try (first | decide | (refine .inr ?_;decide) | (refine .inl ?_;simp [fA];done) | (refine Lo.ne ?_ hne;(with_reducible repeat' constructor)))),?_⟩;first | (refine .inl ?_;(focus (refine Tch.act ?_;(with_reducible repeat' constructor)));done) | (refine .inr ?_;((with_reducible first | apply AdjR.ltCall r hne | apply AdjR.ltFin r hne | apply AdjR.ltPc r hne | apply AdjR.ltPop r hne);assumption;(focus (refine Lo.adjR ?_ (by assumption);(with_reducible repeat' constructor)));try (first | assumption | exact We1 _ _));simp +decide [fW,fA,hs,ha];first | done | omega))
theorem YC9 (hs:0 < sl) (ha:0 < sl*th) (hne:x.t.fr≠[]) (h:Adj sl th x) (e:x.f.fn=14) (hp:0≤x.f.pc∧x.f.pc≤7):Nx sl th x (WQ6 x):=by
 have r:=h.r hne
 rw [e] at r
 unfold WQ6 Wp2;dsimp only
 repeat' split
 all_goals first | (refine ⟨by ((with_reducible first | apply AdjR.pop | apply AdjR.allPc | apply AdjR.allS | apply AdjR.fin | apply AdjR.call | apply AdjR.all);(focus (refine Lo.adjR ?_ (by assumption);(with_reducible repeat' constructor)));try (first | decide | (refine .inr ?_;decide) | (refine .inl ?_;simp [fA];done) | (refine Lo.ne ?_ hne;(with_reducible repeat' constructor)))),?_⟩;first | (refine .inl ?_;(focus (refine Tch.act ?_;(with_reducible repeat' constructor)));done) | (refine .inr ?_;((with_reducible first | apply AdjR.ltCall r hne | apply AdjR.ltFin r hne | apply AdjR.ltPc r hne | apply AdjR.ltPop r hne);assumption;(focus (refine Lo.adjR ?_ (by assumption);(with_reducible repeat' constructor)));try (first | assumption | exact We1 _ _));simp +decide [fW,fA,hs];first | done | omega)) | exact YC7 hs ha hne h e (by omega) | exact YC8 hs ha hne h e | exact Yb5 hs hne h e | contradiction
theorem YR5 {f:Frm} (o:Wt4 sl th f):(1≤f.fn∧f.fn≤6)∨f.fn=10∧0≤f.pc∧f.pc≤1∨f.fn=11∧(0≤f.pc∧f.pc≤14∨f.pc=90)∨(f.fn=12∨f.fn=13)∧(0≤f.pc∧f.pc≤7∨f.pc=90)∨f.fn=14∧0≤f.pc∧f.pc≤7:=by
 unfold Wt4 Ww2 at o
 omega
theorem Yi7 (hsl:sl=x.m.p.slots) (hth:th=x.m.p.c.threads) (hs:0 < sl) (ha:0 < sl*th) (hne:x.t.fr≠[]) (h:Adj sl th x) (o:Wt4 sl th x.f):Nx sl th x (Wo4 x):=by
 have o1:=YR5 o
 have r:=h.r hne
 unfold Wo4
 rw [if_neg hne]
 dsimp only
 split
 ·rename_i c
  refine ⟨r.pop,.inr (AdjR.ltPop r hne c.1 r hne ?_)⟩
  have c2:fA sl th x.f.fn 90=false:=by
   have:x.f.fn=11∨x.f.fn=12∨x.f.fn=13:=by omega
   rcases this with e | e | e <;> rw [e] <;> simp [fA]
  rw [c2]
  have:=(Ys7 x.f.fn 90).1
  simp
  omega
 split
 ·exact YC3 hs ha hne h (by assumption) (by omega)
 split
 ·exact YC6 hs ha hne h (by assumption) (by omega)
 split
 ·rename_i c
  rcases c with c | c
  ·exact Yi5 hs ha hne h c (by omega)
  ·exact Yi6 hs ha hne h c (by omega)
 split
 ·exact YC9 hs ha hne h (by assumption) (by omega)
 ·exact W62 hsl hth hs ha hne h (by omega)
end
def MoQ (c:Mod.Cf) (f:Frm):Prop:=Wt4 (Wc1 c).slots c.threads f
theorem WO1:YS5 Wo4 MoQ Ok 11 where
 st:=Yh4
 all c x hc hp hne h:=by
  obtain ⟨a1,a2,a3,a4,a5,a6⟩:=WY8 hc
  exact W63 h (by rw [hp]) (by rw [hp];rfl) (by omega) (by omega) hne
 nx c x hc hp hne h a:=by
  obtain ⟨a1,a2,a3,a4,a5,a6⟩:=WY8 hc
  exact Yi7 (by rw [hp]) (by rw [hp];rfl) a1 a2 hne a (h.top hne)
 w c x B hc h hB hne hid:=by
  obtain ⟨a1,a2,a3,a4,a5,a6⟩:=WY8 hc
  have o:Wt4 (Wc1 c).slots c.threads x.f:=h.q.top hne
  refine h.ok hB hid ?_
  rcases o with o | ⟨_,o⟩
  ·exact YW0 o ⟨by omega,a4⟩ a3
  ·omega
 new c op l hc ho:=by
  obtain ⟨a1,a2,a3,a4,a5,a6⟩:=WY8 hc
  exact Wu9 (by omega) (by omega) (by omega)
theorem WZ1:DoC 67 Wo4 Ok:=λh M T tv x R K H hw k=>WY2 H hw k
end
section

end
section
theorem Yi8 {K:Value→Wa1→Prop} {h:Wa1} (c:Cf) (k1:c.Right→∀h',Old h.size h h'→K (.bool true) h') (k0:¬ c.Right→∀h',Old h.size h h'→K (.bool false) h') :
  Wa5 Tryz.prog 11 #[.agg c.vals] h K:=by
 refine call11 ?_
 unfold F11 g11 cf ce lI dl7
 have p1:=Wg2 h c.vals 23
 rw [show h.push (.cells #[.int .i64 c.a,.int .i64 c.t,.int .i64 c.n,.int .i64 c.l,.int .i64 c.b,.int .i64 c.p,.int .i64 c.s] 23)=h.push (.cells c.vals 23) from rfl]
 generalize h.push (.cells c.vals 23)=h1 at *
 have o1:=p1.toOld
 have c1:=p1.new
 refine ⟨λvs h'=>∃v1 v2 v3 v4 v5 v6 b,vs = [v1,v2,v3,v4,v5,v6,.bool b]∧h' = h1∧(b=true→¬ c.Right)∧(b=false→0≤c.a∧c.a≤2∧1≤c.t∧c.t≤6∧1≤c.n∧c.n≤64∧1≤c.l∧c.l≤6),?_,?_⟩
 ·refine ldR c1 rfl ?_
  simp only [Wa3]
  refine Wa6 (λq=>⟨_,_,_,_,_,_,_,rfl,by trivial,λ_ r=>by have:=r.a;omega,λe=>by cases e⟩) λq1=>?_
  refine ldR c1 rfl ?_
  simp only [Wa3]
  refine Wa6 (λq=>⟨_,_,_,_,_,_,_,rfl,by trivial,λ_ r=>by have:=r.a;omega,λe=>by cases e⟩) λq2=>?_
  refine ldR c1 rfl ?_
  simp only [Wa3]
  refine Wa6 (λq=>⟨_,_,_,_,_,_,_,rfl,by trivial,λ_ r=>by have:=r.t;omega,λe=>by cases e⟩) λq3=>?_
  refine ldR c1 rfl ?_
  simp only [Wa3]
  refine Wa6 (λq=>⟨_,_,_,_,_,_,_,rfl,by trivial,λ_ r=>by have:=r.t;omega,λe=>by cases e⟩) λq4=>?_
  refine ldR c1 rfl ?_
  simp only [Wa3]
  refine Wa6 (λq=>⟨_,_,_,_,_,_,_,rfl,by trivial,λ_ r=>by have:=r.n;omega,λe=>by cases e⟩) λq5=>?_
  refine ldR c1 rfl ?_
  simp only [Wa3]
  refine Wa6 (λq=>⟨_,_,_,_,_,_,_,rfl,by trivial,λ_ r=>by have:=r.n;omega,λe=>by cases e⟩) λq6=>?_
  refine ldR c1 rfl ?_
  simp only [Wa3]
  refine Wa6 (λq=>⟨_,_,_,_,_,_,_,rfl,by trivial,λ_ r=>by have:=r.l;omega,λe=>by cases e⟩) λq7=>?_
  refine ldR c1 rfl ?_
  simp only [Wa3]
  refine ⟨_,_,_,_,_,_,_,rfl,by trivial,λe r=>?_,λe=>?_⟩
  ·have:=of_decide_eq_true e;have:=r.l;omega
  ·have:=of_decide_eq_false e;omega
 rintro v17 v18 v19 v20 v21 v22 v23 g24 h25 ⟨_,_,_,_,_,_,b,e,rfl,hb1,hb0⟩
 cases e
 simp only [Wa9]
 refine Wc3 (λhb=>k0 (hb1 hb) _ o1) (λhb=>?_)
 obtain ⟨a1,a2,t1,t2,n1,n2,l1,l2⟩:=hb0 hb
 refine ⟨λvs h'=>∃v1 v2 v3 v4 b,vs = [v1,v2,v3,v4,.bool b]∧h' = h25∧(b=true→¬ c.Right)∧(b=false→1≤c.b∧c.b≤16∧1≤c.p∧c.p≤16∧1≤c.s∧c.s≤64),?_,?_⟩
 ·refine ldR c1 rfl ?_
  simp only [Wa3]
  refine Wa6 (λq=>⟨_,_,_,_,_,rfl,by trivial,λ_ r=>by have:=r.b;omega,λe=>by cases e⟩) λq1=>?_
  refine ldR c1 rfl ?_
  simp only [Wa3]
  refine Wa6 (λq=>⟨_,_,_,_,_,rfl,by trivial,λ_ r=>by have:=r.b;omega,λe=>by cases e⟩) λq2=>?_
  refine ldR c1 rfl ?_
  simp only [Wa3]
  refine Wa6 (λq=>⟨_,_,_,_,_,rfl,by trivial,λ_ r=>by have:=r.p;omega,λe=>by cases e⟩) λq3=>?_
  refine ldR c1 rfl ?_
  simp only [Wa3]
  refine Wa6 (λq=>⟨_,_,_,_,_,rfl,by trivial,λ_ r=>by have:=r.p;omega,λe=>by cases e⟩) λq4=>?_
  refine ldR c1 rfl ?_
  simp only [Wa3]
  refine Wa6 (λq=>⟨_,_,_,_,_,rfl,by trivial,λ_ r=>by have:=r.s;omega,λe=>by cases e⟩) λq5=>?_
  refine ldR c1 rfl ?_
  simp only [Wa3]
  refine ⟨_,_,_,_,_,rfl,by trivial,λe r=>?_,λe=>?_⟩
  ·have:=of_decide_eq_true e;have:=r.s;omega
  ·have:=of_decide_eq_false e;omega
 rintro v40 v41 v42 v43 v44 g45 h46 ⟨_,_,_,_,b',e,rfl,hb1',hb0'⟩
 cases e
 simp only [Wa9]
 refine Wc3 (λhb'=>k0 (hb1' hb') _ o1) (λhb'=>?_)
 obtain ⟨b1,b2,p1',p2,s1,s2⟩:=hb0' hb'
 refine ldR c1 rfl ?_
 simp only [Wa3]
 iterate 7 (refine ldR c1 rfl ?_)
 refine Wa0 ?_
 refine (show Wa5 Tryz.prog 39 #[.agg c.vals] h46 _ from call39 ?_)
 unfold F39 g39 lI
 have p2':=Wg2 h46 c.vals 23
 rw [show h46.push (.cells #[.int .i64 c.a,.int .i64 c.t,.int .i64 c.n,.int .i64 c.l,.int .i64 c.b,.int .i64 c.p,.int .i64 c.s] 23)=h46.push (.cells c.vals 23) from rfl]
 generalize h46.push (.cells c.vals 23)=h2 at *
 have o2:=o1.trans (p2'.toOld.mono o1.1)
 have c2:=(p2'.old h.size (by have:=p1.size;omega)).trans c1
 have fin:∀z:Int,z=c.sent→(z < c.n↔c.Right):=λz e=>⟨λhz=>⟨⟨a1,a2⟩,⟨t1,t2⟩,⟨n1,n2⟩,⟨l1,l2⟩,⟨b1,b2⟩,⟨p1',p2⟩,⟨s1,s2⟩,by omega⟩,λr=>by have:=r.z;omega⟩
 have fin2:∀z:Int,z=c.sent→K (.bool (decide (c.n > z))) h2:=λz e=>by
  by_cases hz:z < c.n
  ·rw [decide_eq_true hz];exact k1 ((fin z e).1 hz) _ o2
  ·rw [decide_eq_false hz];exact k0 (λr=>hz ((fin z e).2 r)) _ o2
 refine ldR p2'.new rfl ?_
 simp only [Wa3]
 refine Wc3 (λhz=>?_) (λhz=>?_)
 ·exact ⟨Wd3 c2 rfl,fin2 _ (by unfold Cf.sent;rw [if_pos (by simpa using hz)])⟩
 ·exact ⟨Wd3 c2 rfl,fin2 _ (by unfold Cf.sent;rw [if_neg (by simpa using hz)])⟩
end
section
open Mod
theorem YW8 {v0 v1:Value} {F:Value→Prop} (k:F v0):We3 (.tuple #[v0,v1]) λvs=>Wb7 vs 0 F:=k
theorem Yu6 {K:Value→Wa1→Prop} {h:Wa1} {R:Hp} {c:Mod.Cf} (H:Sat h R) (k1:okC c=true→∀h',Sat h' R→K (.bool true) h') (k0:okC c=false→∀h',Sat h' R→K (.bool false) h') :
  Wa5 Tryz.prog 11 #[.agg #[.int .i64 c.algo,.int .i64 c.threads,.int .i64 c.nodes,.int .i64 c.level,.int .i64 c.batch,.int .i64 c.probes,.int .i64 c.scan]] h K:=by
 refine Yi8 (YP8 c) (λhr h' o=>k1 ((Wv7 c).1 hr) h' (H.old o)) (λhr h' o=>k0 ?_ h' (H.old o))
 rw [← Bool.not_eq_true]
 exact λhh=>hr ((Wv7 c).2 hh)
theorem MacOk.vw {Q:Mod.Cf→Frm→Prop} {c:Mod.Cf} {i:Nat} {m:Mac} (I:MacOk Q c i m) (hc:c.algo=0) (hu:∀v ∈ m.mm.w,U v):YG1 m.p m.mm.w:=by
 have B:=Wp5 I.ok
 have ep:=I.p
 refine ⟨by rw [ep];exact B,by rw [ep];exact I.w,hu,by rw [ep];rfl,?_⟩
 rw [ep]
 show (Wc1 c).tree+(if (c.algo == 0)=true then (2:Int) ^ c.level.toNat else 0) - (Wc1 c).tree=(2:Int) ^ c.level.toNat
 rw [if_pos (by rw [hc];rfl)]
 omega
theorem YD0:Tryz.prog.eqGuardType Tryz.prog.depth 90=false:=by kernel_rfl
theorem YR6:eqv Tryz.prog 10000 90 (.agg #[.int .u32 5,.int .u32 1]) (.agg #[.int .u32 5,.int .u32 1])=some true:=by kernel_rfl
theorem Yi9 {F:Bool→Prop} (k:F true):WS7 Tryz.prog 90 (.agg #[.int .u32 5,.int .u32 1]) (.agg #[.int .u32 5,.int .u32 1]) F:=by
 unfold WS7
 rw [YD0]
 show (match eqv Tryz.prog 10000 90 (.agg #[.int .u32 5,.int .u32 1]) (.agg #[.int .u32 5,.int .u32 1]) with | some b=>F b | none=>False)
 rw [YR6]
 exact k
section
variable {K:Value→Wa1→Prop} {h:Wa1} {R:Hp}
end
end
section
open Mod
section
variable {K:Value→Wa1→Prop} {h:Wa1} {Q M f:Nat} {ins:Int} {Ts:List Nat} {m:Mac} {R:Hp} {tv:Value}
theorem Yb6 (k:K (.int .i64 1) h):Wa5 Tryz.prog 57 #[.pointer none] h K:=by
 refine call57 ?_
 unfold F57 cf
 exact Wc3 (λ_=>k) (λhh=>by cases hh)
theorem Wz5 (H:Sat h (suS Q M f ins Ts m*R)) (ht:m.p.c.threads=m.th.length) (k1:(m.th.all λt=>t.fr.isEmpty)=true→∀h',Sat h' (suS Q M f ins Ts m*R)→K (.int .i64 0) h') (k0:(m.th.all λt=>t.fr.isEmpty)=false→∀h',Sat h' (suS Q M f ins Ts m*R)→K (.int .i64 5) h') :
  Wa5 Tryz.prog 57 #[mP Q] h K:=by
 refine call57 ?_
 unfold F57 cf
 refine Wc3 (λhh=>by cases hh) (λ_=>?_)
 refine Wa0 (WJ1 H ht λh1 H1=>?_)
 try simp only [Wa7,bsx,Nat.reduceAdd,Int.reduceLE,Int.reduceLT,Int.reduceToNat]
 refine Wc3 (λhb=>k0 (by simpa using hb) h1 H1) (λhb=>k1 (by simpa using hb) h1 H1)
theorem WZ2 (k:K (.tuple #[.slice none 0 0,.int .i64 1]) h):Wa5 Tryz.prog 19 #[.pointer none] h K:=by
 refine call19 ?_
 unfold F19 cf bd lS
 refine Wa0 (Yb6 ?_)
 try simp only [Wa7,bsx,Nat.reduceAdd,Int.reduceLE,Int.reduceLT,Int.reduceToNat]
 exact Wc3 (λ_=>k) (λhh=>by simp at hh)
theorem WO2 (H:Sat h (suS Q M f ins Ts m*R)) (ht:m.p.c.threads=m.th.length) (hb:(m.th.all λt=>t.fr.isEmpty)=false) (k:∀h',Sat h' (suS Q M f ins Ts m*R)→K (.tuple #[.slice none 0 0,.int .i64 5]) h'):Wa5 Tryz.prog 19 #[mP Q] h K:=by
 refine call19 ?_
 unfold F19 cf bd lS
 refine Wa0 (Wz5 H ht (λhh=>by rw [hb] at hh;cases hh) λ_ h1 H1=>?_)
 try simp only [Wa7,bsx,Nat.reduceAdd,Int.reduceLE,Int.reduceLT,Int.reduceToNat]
 exact Wc3 (λ_=>k h1 H1) (λhh=>by simp at hh)
theorem W65 {v:Option Addr} (k0:∀(F:Value→Wa1→Prop),(∀h' a (l c:Nat) (e:Int),(K (.tuple #[.int .i64 l,.int .i64 e]) h')→F (.tuple #[.slice a l c,.int .i64 e]) h')→Wa5 Tryz.prog 19 #[.pointer v] h F):Wa5 Tryz.prog 18 #[.pointer v] h K:=by
 refine call18 ?_
 unfold F18 cf
 refine Wa0 (k0 _ λh' a l c e hk=>?_)
 try simp only [Wa7,bsx,Nat.reduceAdd,Int.reduceLE,Int.reduceLT,Int.reduceToNat]
 refine Wg4 ?_
 try simp only [Wa7,bsx,Nat.reduceAdd,Int.reduceLE,Int.reduceLT,Int.reduceToNat]
 refine Wf4 ?_
 try simp only [Wa7,bsx,Nat.reduceAdd,Int.reduceLE,Int.reduceLT,Int.reduceToNat]
 exact hk
theorem Yj0 (k:K (.tuple #[.slice none 0 0,.int .i64 1]) h):Wa5 Tryz.prog 20 #[.pointer none] h K:=by
 refine call20 ?_
 unfold F20 cf lI de3
 refine Wa0 (Yb6 ?_)
 try simp only [Wa7,bsx,Nat.reduceAdd,Int.reduceLE,Int.reduceLT,Int.reduceToNat]
 exact Wc3 (λ_=>k) (λhh=>by simp at hh)
theorem W66 (H:Sat h (suS Q M f ins Ts m*R)) (ht:m.p.c.threads=m.th.length) (hb:(m.th.all λt=>t.fr.isEmpty)=false) (k:∀h',Sat h' (suS Q M f ins Ts m*R)→K (.tuple #[.slice none 0 0,.int .i64 5]) h'):Wa5 Tryz.prog 20 #[mP Q] h K:=by
 refine call20 ?_
 unfold F20 cf lI de3
 refine Wa0 (Wz5 H ht (λhh=>by rw [hb] at hh;cases hh) λ_ h1 H1=>?_)
 try simp only [Wa7,bsx,Nat.reduceAdd,Int.reduceLE,Int.reduceLT,Int.reduceToNat]
 exact Wc3 (λ_=>k h1 H1) (λhh=>by simp at hh)
theorem WO3 {i:Int} (k:K (.int .i64 0) h):Wa5 Tryz.prog 66 #[.pointer none,.int .i64 i] h K:=by
 refine call66 ?_
 unfold F66 bd lS lI nP
 exact Wc3 (λ_=>k) (λhh=>by cases hh)
theorem Yu7 (k:K (.int .i64 0) h):Wa5 Tryz.prog 21 #[.pointer none] h K:=by
 refine call21 ?_
 unfold F21 cf
 refine Wa0 (Ys1 ?_)
 try simp only [Wa7,bsx,Nat.reduceAdd,Int.reduceLE,Int.reduceLT,Int.reduceToNat]
 refine Wa0 (call38 ?_)
 unfold F38 lP nP
 refine Wc3 (λ_=>?_) (λhh=>by cases hh)
 try simp only [Wa7,bsx,Nat.reduceAdd,Int.reduceLE,Int.reduceLT,Int.reduceToNat]
 refine Wa0 (WO3 ?_)
 try simp only [Wa7,bsx,Nat.reduceAdd,Int.reduceLE,Int.reduceLT,Int.reduceToNat]
 exact k
theorem Yj1 (H:Sat h (suS Q M f ins Ts m*R)) (hg:m.g=none) (k:K (.int .i64 0) h):Wa5 Tryz.prog 21 #[mP Q] h K:=by
 refine call21 ?_
 unfold F21 cf
 refine Wa0 (Wq9 H ?_)
 try simp only [Wa7,bsx,Nat.reduceAdd,Int.reduceLE,Int.reduceLT,Int.reduceToNat]
 refine Wa0 (call38 ?_)
 unfold F38 lP nP
 refine Wc3 (λhh=>by cases hh) (λ_=>?_)
 obtain ⟨a,c,hl,H1⟩:=Wf7.1 (Wg6.1 H)
 obtain ⟨q,gq,fq,B,H2⟩:=Wd7.1 H1
 try simp only [Wa7,bsx,Nat.reduceAdd,Int.reduceLE,Int.reduceLT,Int.reduceToNat]
 refine ldR H2.at rfl ?_
 unfold ghV
 rw [hg]
 try simp only [Wa7,bsx,Nat.reduceAdd,Int.reduceLE,Int.reduceLT,Int.reduceToNat]
 refine Wa0 (WO3 ?_)
 try simp only [Wa7,bsx,Nat.reduceAdd,Int.reduceLE,Int.reduceLT,Int.reduceToNat]
 exact k
theorem YL8 (H:Sat h (Wg3 M tv m*R)) (hc:m.p.c.algo=0) (k:∀h',Sat h' (Wg3 M tv m*R)→K (.tuple #[.agg #[.int .i64 0,.int .i64 0,.int .i64 0,.int .i64 0,.int .i64 0,.int .i64 0,.int .i64 0,.int .i64 0,.int .i64 0,.int .i64 0,.int .i64 0,.int .i64 0,.int .i64 0,.int .i64 0,.int .i64 0,.slice none 0 0],.bool false]) h'):Wa5 Tryz.prog 112 #[mP M] h K:=by
 refine call112 ?_
 unfold F112 g112 cf de7 Wu0 WP8 YM2
 have H1:=H.push (.cells #[.int .i64 0,.int .i64 0,.int .i64 0,.int .i64 0,.int .i64 0,.int .i64 0,.int .i64 0,.int .i64 0,.int .i64 0,.int .i64 0,.int .i64 0,.int .i64 0,.int .i64 0,.int .i64 0,.int .i64 0,.slice none 0 0] 186)
 generalize h.push (.cells #[.int .i64 0,.int .i64 0,.int .i64 0,.int .i64 0,.int .i64 0,.int .i64 0,.int .i64 0,.int .i64 0,.int .i64 0,.int .i64 0,.int .i64 0,.int .i64 0,.int .i64 0,.int .i64 0,.int .i64 0,.slice none 0 0] 186)=h1 at *
 generalize h.size=N at *
 refine ⟨λvs h'=>vs = [.bool true]∧Sat h' (pt N (.cells #[.int .i64 0,.int .i64 0,.int .i64 0,.int .i64 0,.int .i64 0,.int .i64 0,.int .i64 0,.int .i64 0,.int .i64 0,.int .i64 0,.int .i64 0,.int .i64 0,.int .i64 0,.int .i64 0,.int .i64 0,.slice none 0 0] 186)*(Wg3 M tv m*R)),?_,?_⟩
 ·refine Wc3 (λhh=>by cases hh) (λ_=>?_)
  rw [Wb4] at H1
  refine Wa0 (Wk1 H1 λh2 o2=>WR4 ?_)
  have H2:=H1.old o2
  refine Wa0 (Wh0 λh3 o3=>cf7 ?_)
  have H3:=H2.old o3
  rw [Wb4] at H3
  try simp only [Wa7,bsx,Nat.reduceAdd,Int.reduceLE,Int.reduceLT,Int.reduceToNat]
  rw [show (m.p.c.algo == 0)=true from by rw [hc];rfl]
  first | exact ⟨rfl,H3⟩ | exact H3
 rintro v1 g3 h4 ⟨e,H4⟩
 cases e
 try simp only [Wa7,bsx,Nat.reduceAdd,Int.reduceLE,Int.reduceLT,Int.reduceToNat]
 refine YS6 (Wd6 (vs:=[.int .i64 0,.int .i64 0,.int .i64 0,.int .i64 0,.int .i64 0,.int .i64 0,.int .i64 0,.int .i64 0,.int .i64 0,.int .i64 0,.int .i64 0,.int .i64 0,.int .i64 0,.int .i64 0,.int .i64 0,.slice none 0 0]) H4.at rfl (by simp [Wi6]) λh5 x=>?_)
 have H5:=H4.wr x.new x.old
 have O:=H5.at
 refine ldR O rfl (ldR O rfl (ldR O rfl (ldR O rfl (ldR O rfl (ldR O rfl (ldR O rfl (ldR O rfl (ldR O rfl (ldR O rfl (ldR O rfl (ldR O rfl (ldR O rfl (ldR O rfl (ldR O rfl (ldR O rfl ?_)))))))))))))))
 exact k h5 H5.drop
theorem Yu8 (H:Sat h (Wg3 M tv m*R)) (hc:m.p.c.algo=0) (k:∀h',Sat h' (Wg3 M tv m*R)→K (.slice none 0 0) h'):Wa5 Tryz.prog 58 #[mP M] h K:=by
 refine call58 ?_
 unfold F58 cf bd lI de2 YS4 dl2 WP8
 refine Wa0 (YL8 H hc λh1 H1=>?_)
 have H2:=H1.push (.cells #[.int .i64 0,.int .i64 0,.int .i64 0,.int .i64 0,.int .i64 0,.int .i64 0,.int .i64 0,.int .i64 0,.int .i64 0,.int .i64 0,.int .i64 0,.int .i64 0,.int .i64 0,.int .i64 0,.int .i64 0,.slice none 0 0] 186)
 try simp only [Wa7,bsx,Nat.reduceAdd,Int.reduceLE,Int.reduceLT,Int.reduceToNat]
 refine Wg4 ?_
 try simp only [Wa7,bsx,Nat.reduceAdd,Int.reduceLE,Int.reduceLT,Int.reduceToNat]
 refine Wj3 rfl ?_
 refine Wb5 rfl (Wb5 rfl (Wb5 rfl (Wb5 rfl (Wb5 rfl (Wb5 rfl (Wb5 rfl (Wb5 rfl (Wb5 rfl (Wb5 rfl (Wb5 rfl (Wb5 rfl (Wb5 rfl (Wb5 rfl (Wb5 rfl (Wb5 rfl ?_)))))))))))))))
 try simp only [Wa7,bsx,Nat.reduceAdd,Int.reduceLE,Int.reduceLT,Int.reduceToNat]
 refine Wf4 ?_
 try simp only [Wa7,bsx,Nat.reduceAdd,Int.reduceLE,Int.reduceLT,Int.reduceToNat]
 generalize h1.push (.cells #[.int .i64 0,.int .i64 0,.int .i64 0,.int .i64 0,.int .i64 0,.int .i64 0,.int .i64 0,.int .i64 0,.int .i64 0,.int .i64 0,.int .i64 0,.int .i64 0,.int .i64 0,.int .i64 0,.int .i64 0,.slice none 0 0] 186)=h2 at *
 generalize h1.size=N at *
 refine YS6 (Wd6 (vs:=[.int .i64 0,.int .i64 0,.int .i64 0,.int .i64 0,.int .i64 0,.int .i64 0,.int .i64 0,.int .i64 0,.int .i64 0,.int .i64 0,.int .i64 0,.int .i64 0,.int .i64 0,.int .i64 0,.int .i64 0,.slice none 0 0]) H2.at rfl (by simp [Wi6]) λh3 x=>?_)
 have H3:=H2.wr x.new x.old
 exact k h3 H3.drop
theorem YL9 {a a2:Option Addr} {l c n n2:Nat} {xs ys:List Bp} {X:Hp} {F:Value→Wa1→Prop} (H:Sat h (We4 90 2 a l c (xs.flatMap bpc)*X)) (hs:Sees h a2 (ys.flatMap bpc)) (hn:ys.length=n) (hl:l+n≤60000)
  (k:∀a' c' h',Sat h' (We4 90 2 a' (l+n) c' ((xs ++ ys).flatMap bpc)*X)→F (.slice a' (l+n) c') h') :
  Wq0 Tryz.prog #[44,44] 44 #[.slice a l c,.slice a2 n n2] h F:=by
 have H2:Sat h (We4 90 (siz Tryz.prog 90) a l c (xs.flatMap bpc)*X):=by rw [WD0];exact H
 refine H2.app YG2 Yb2 YG3 (by rw [WD0];rfl) hs (n:=n) (by rw [WD0,WP7 (n:=2) (λ_=>rfl),hn]) (λy hy=>?_) (by rw [Yb3];omega) (by rw [Yb3];omega) λa' c' h' H3=>k a' c' h' ?_
 ·obtain ⟨x,_,hx⟩:=List.mem_flatMap.1 hy
  simp only [bpc,List.mem_cons,List.not_mem_nil,or_false] at hx
  rcases hx with rfl | rfl <;> trivial
 ·rw [WD0] at H3
  rw [List.flatMap_append]
  exact H3
def YG5 (L L':List Bp):Prop:=∀(K:Value→Wa1→Prop) (h:Wa1) (R:Hp) (a:Option Addr) (c:Nat),Sat h (We4 90 2 a L.length c (L.flatMap bpc)*R)→(∀h',Sat h' (We4 90 2 a L'.length c (L'.flatMap bpc)*R)→K (.tuple #[]) h')→Wa5 Tryz.prog 60 #[.slice a L.length c,.func (.func 61) #[] #[]] h K
theorem YD1 (x:Bp):YG5 [x] [x]:=by
 intro K h R a c H k
 refine call60 ?_
 unfold F60 cf
 refine Wa0 (call87 ?_)
 unfold F87 cf
 have e1:IntKind.wrap .u64 (([x].length:Nat):Int)=((1:Nat):Int):=by
  show IntKind.wrap .u64 ((1:Nat):Int)=_
  decide
 rw [e1]
 refine Wa0 (WN5 (by omega) (by omega) ?_)
 simp only [Wa3]
 refine Wa0 (call116 ?_)
 unfold F116 cf bd
 refine ⟨λvs h'=>(∃u2 u3 u4 u5 u6 u7 u8 u9 u10 u11 u12 u13 u14 u15,vs = [.int .i64 0,.int .i64 1,u2,u3,u4,u5,u6,u7,u8,u9,u10,u11,u12,u13,u14,u15])∧h' = h,λ_ _=>0,⟨⟨_,_,_,_,_,_,_,_,_,_,_,_,_,_,rfl⟩,rfl⟩,?_⟩
 rintro v2 v3 v4 v5 v6 v7 v8 v9 v10 v11 v12 v13 v14 v15 v16 v17 g18 h19 ⟨⟨u2,u3,u4,u5,u6,u7,u8,u9,u10,u11,u12,u13,u14,u15,e⟩,rfl⟩
 cases e
 simp only [Wa3]
 refine Wc3 (λ_=>?_) (λhh=>absurd hh (by decide))
 refine Wa0 (call170 ?_)
 unfold F170 bd
 refine ⟨λvs h'=>(∃u,vs = [.int .i64 1,u])∧h' = h19,λ_ _=>0,⟨⟨_,by rw [show IntKind.wrap .i64 ((0:Int)+1)=1 by decide]⟩,rfl⟩,?_⟩
 rintro v20 v21 g22 h23 ⟨⟨u,e⟩,rfl⟩
 cases e
 simp only [Wa3]
 refine Wc3 (λhh=>absurd hh (by decide)) (λ_=>?_)
 exact k h23 H
theorem W67 (H:Sat h (suS Q M f ins Ts m*R)) (ht:m.p.c.threads=m.th.length) (hi:(m.th.all λt=>t.fr.isEmpty)=true) (V:YG1 m.p m.mm.w) (hc:m.p.c.algo=0) {L':List Bp} (S:YG5 (Wg7 m.p m.mm.w).flatten L') (hsm:(Wg7 m.p m.mm.w).flatten.length≤60000)
  (k:∀h' a c,Sat h' (We4 90 2 a L'.length c (L'.flatMap bpc)*(suS Q M f ins Ts m*R))→K (.tuple #[.slice a (Wg7 m.p m.mm.w).flatten.length c,.int .i64 0]) h'):Wa5 Tryz.prog 19 #[mP Q] h K:=by
 refine call19 ?_
 unfold F19 cf bd lS
 refine Wa0 (Wz5 H ht (λ_ h1 H1=>?_) λhh=>by rw [hi] at hh;cases hh)
 try simp only [Wa7,bsx,Nat.reduceAdd,Int.reduceLE,Int.reduceLT,Int.reduceToNat]
 refine Wc3 (λhh=>by simp at hh) (λ_=>?_)
 refine Wa0 (Wq9 H1 ?_)
 try simp only [Wa7,bsx,Nat.reduceAdd,Int.reduceLE,Int.reduceLT,Int.reduceToNat]
 obtain ⟨ta,tc,hl,H2⟩:=Wf7.1 (Wg6.1 H1)
 refine Wa0 (Yu8 H2 hc λh3 H3=>?_)
 try simp only [Wa7,bsx,Nat.reduceAdd,Int.reduceLE,Int.reduceLT,Int.reduceToNat]
 have H4:Sat h3 (suS Q M f ins Ts m*R):=Wg6.2 (Wf7.2 ⟨ta,tc,hl,H3⟩)
 refine Wa0 (Wq9 H4 ?_)
 try simp only [Wa7,bsx,Nat.reduceAdd,Int.reduceLE,Int.reduceLT,Int.reduceToNat]
 refine Wa0 (W61 V hc H3 λh5 B ps hps H5=>?_)
 have hll:=WJ2 m.p m.mm.w
 have b5:=V.P.lv
 have hpow:2 ^ m.p.c.level.toNat≤2 ^ 6:=Nat.pow_le_pow_right (by decide) (by omega)
 have fin:∀ {h':Wa1} {X:Hp},Sat h' (X*(Wg3 M (.slice ta m.th.length tc) m*(We4 104 1 ta m.th.length tc (Ts.map mP)*(WN1 0 Ts m.th*(pt Q (.cells (qC M f ins).toArray 131)*R)))))→Sat h' (X*(suS Q M f ins Ts m*R)):=by
  intro h' X HX
  have HX2:=Wf7.2 ⟨ta,tc,hl,(show Sat h' (Wg3 M (.slice ta m.th.length tc) m*(We4 104 1 ta m.th.length tc (Ts.map mP)*(WN1 0 Ts m.th*(X*(pt Q (.cells (qC M f ins).toArray 131)*R))))) from Sat.ac HX (by ac_rfl))⟩
  have HX3:Sat h' (Wu3 M Ts m*(pt Q (.cells (qC M f ins).toArray 131)*(X*R))):=Sat.ac HX2 (by ac_rfl)
  have HX4:=Wg6.2 HX3
  rw [Wb4] at HX4
  exact HX4
 generalize Wg7 m.p m.mm.w=LS at *
 try simp only [Wa7,bsx,Nat.reduceAdd,Int.reduceLE,Int.reduceLT,Int.reduceToNat]
 have H6:=H5.own_new 90 2
 refine ⟨λvs h'=>∃(a:Option Addr) (c:Nat) (u:Value) (j:Nat),vs = [.slice a (LS.take j).flatten.length c,u,.int .i64 j]∧j≤LS.length∧Sat h' (We4 90 2 a (LS.take j).flatten.length c ((LS.take j).flatten.flatMap bpc)*(pt B (.cells (((ps.zip LS).map bpV).toArray) 44)*(bpS ps LS*(Wg3 M (.slice ta m.th.length tc) m*(We4 104 1 ta m.th.length tc (Ts.map mP)*(WN1 0 Ts m.th*(pt Q (.cells (qC M f ins).toArray 131)*R))))))),λvs _=>match vs with | [_,_,.int _ i]=>((LS.length:Int) - i).toNat | _=>0,⟨none,0,_,0,rfl,Nat.zero_le _,H6⟩,?_⟩
 rintro v21 v22 v23 g24 h25 ⟨a,c,u,j,e,hj,HJ⟩
 cases e
 try simp only [Wa7,bsx,Nat.reduceAdd,Int.reduceLE,Int.reduceLT,Int.reduceToNat]
 refine Wa6 (λc1=>?_) (λc1=>?_)
 ·have hj2:j < LS.length:=by omega
  have hcell:Wa2 h25 ⟨B,j,none⟩=some (.slice (ps[j]'(by omega)).1 (LS[j]).length (ps[j]'(by omega)).2):=by
   rw [Wb8 HJ.at2]
   simp [bpV,hj2,hps]
  refine ⟨by omega,by omega,?_⟩
  try simp only [Wa7,bsx,Nat.reduceAdd,Int.reduceLE,Int.reduceLT,Int.reduceToNat]
  refine Wc5 hcell ?_
  try simp only [Wa7,bsx,Nat.reduceAdd,Int.reduceLE,Int.reduceLT,Int.reduceToNat]
  obtain ⟨p1,hp1,hsee⟩:=Yb4 hps HJ.drop.drop j hj2
  have ep:ps[j]'(by omega)=p1:=by
   rw [List.getElem?_eq_getElem (by omega)] at hp1
   exact Option.some.inj hp1
  have eg:LS.getD j []=LS[j]:=by rw [List.getD_eq_getElem?_getD,List.getElem?_eq_getElem hj2];rfl
  rw [eg] at hsee
  rw [ep]
  have e1:(LS.take (j+1)).flatten=(LS.take j).flatten ++ LS[j]:=by rw [List.take_succ_eq_append_getElem hj2,List.flatten_append,List.flatten_singleton]
  have e2:(LS.take (j+1)).flatten.length≤LS.flatten.length:=by
   conv=>rhs;rw [← List.take_append_drop (j+1) LS,List.flatten_append,List.length_append]
   omega
  have e3:(LS.take (j+1)).flatten.length=(LS.take j).flatten.length+(LS[j]).length:=by rw [e1,List.length_append]
  refine YL9 HJ hsee rfl (by omega) λa' c' h26 H7=>?_
  rw [← e1,← e3] at H7
  rw [← e3]
  try simp only [Wa7,bsx,Nat.reduceAdd,Int.reduceLE,Int.reduceLT,Int.reduceToNat]
  rw [Wv8 j (by omega)]
  refine ⟨⟨a',c',_,j+1,rfl,by omega,H7⟩,?_⟩
  show ((LS.length:Int) - ((j+1:Nat):Int)).toNat < ((LS.length:Int) - (j:Int)).toNat
  omega
 ·rw [show j=LS.length by omega,List.take_length] at HJ ⊢
  refine Wa0 (S _ _ _ _ _ HJ λh26 H7=>?_)
  try simp only [Wa7,bsx,Nat.reduceAdd,Int.reduceLE,Int.reduceLT,Int.reduceToNat]
  exact k h26 a c (fin (Sat.drop2 (Sat.drop2 H7)))
end
end
section
open Mod
section
variable {K:Value→Wa1→Prop} {h:Wa1} {Q M f:Nat} {ins:Int} {Ts:List Nat} {R:Hp} {d:Run→Run} {W:Run→Prop} {Inv:Nat→Mac→Prop}
theorem YR7 {m:Mac} (h1:m.th.length=1) (he:(Wc9 m 0).fr = []):(m.th.all λt=>t.fr.isEmpty)=true:=by
 rw [List.all_eq_true]
 intro t ht
 obtain ⟨i,hi,rfl⟩:=List.getElem_of_mem ht
 have e0:i=0:=by omega
 subst e0
 have:Wc9 m 0=m.th[0]:=by unfold Wc9;simp [h1]
 rw [← this,he];rfl
theorem WZ3 (D:DoC f d W) (G:Yg8 d W ins Inv) (h31:ins≠31) (hins:0≤ins∧ins≤100) {i0 N:Nat} {x:Bp} {m1 m2 m3 m4:Mac} (H:Sat h (suS Q M f ins Ts m1*R)) (h1:m1.th.length=1) (p1:m1.p.c.threads=1) (p3:m3.p.c.threads=1) (he:(Wc9 m1 0).fr = []) (hI:Inv i0 m1) (hN:i0+N+N+N≤90000)
  (g2:Ys0 d (0:Nat) N (m1.setTh (m1.th.set 0 ((Wc9 m1 0).push (ins+1) [0,0])))=some m2) (a2:Wl8 (Wc9 m2 0)=⟨2,x.1,x.2⟩)
  (g3:Ys0 d (0:Nat) N (m2.setTh (m2.th.set 0 ((Wc9 m2 0).push (ins+1) [0,0])))=some m3) (a3:(Wl8 (Wc9 m3 0)).op≠2)
  (hI4:Inv (i0+N+N) m3→(Wc9 m3 0).fr = []→m3.th.length=1→Inv (i0+N+N) (m3.setTh (m3.th.set 0 ((Wc9 m3 0).push 6 []))))
  (g4:Ys0 d (0:Nat) N (m3.setTh (m3.th.set 0 ((Wc9 m3 0).push 6 [])))=some m4)
  (kk:∀h' a c,Sat h' (We4 90 2 a 1 c (bpc x)*(suS Q M f ins Ts m4*R))→K (.tuple #[.slice a 1 c,.int .i64 0]) h') :
  Wa5 Tryz.prog 20 #[mP Q] h K:=by
 refine call20 ?_
 unfold F20 cf lI de3
 refine Wa0 (Wz5 H (by rw [p1,h1];rfl) (λ_ h2 H2=>?_) λhh=>by rw [YR7 h1 he] at hh;cases hh)
 try simp only [Wa7,bsx,Nat.reduceAdd,Int.reduceLE,Int.reduceLT,Int.reduceToNat]
 refine Wc3 (λhh=>by simp at hh) (λ_=>?_)
 have H3:=H2.own_new 90 2
 refine ⟨λvs h'=>(∃u v,vs = [.slice none 0 0,u,v])∧Sat h' (We4 90 2 none 0 0 []*(suS Q M f ins Ts m1*R))∨(∃a c u v,vs = [.slice a 1 c,u,v]∧Inv (i0+N) m2∧m2.th.length=1∧(Wc9 m2 0).fr = []∧Sat h' (We4 90 2 a 1 c ([x].flatMap bpc)*(suS Q M f ins Ts m2*R))),λvs _=>match vs with | [.slice _ n _,_,_]=>1 - n | _=>0,.inl ⟨⟨_,_,rfl⟩,H3⟩,?_⟩
 rintro v5 v6 v7 g8 h9 (⟨⟨u,v,e⟩,H4⟩ | ⟨a,c,u,v,e,hI2,hl2,he2,H4⟩)
 ·cases e
  rw [Wb4] at H4
  refine Wa0 (Wu7 D G hins (k:=0) (c:=⟨1,0,0⟩) H4 (by omega) he hI (by omega) ⟨⟨by decide,by decide⟩,⟨by decide,by decide⟩⟩ rfl g2 λh5 hI2 hl2 he2 H5=>?_)
  rw [a2]
  have H6:=H5.push (.cells #[.int .i64 0,.int .u32 0,.int .u32 0] 81)
  try simp only [Wa7,bsx,Nat.reduceAdd,Int.reduceLE,Int.reduceLT,Int.reduceToNat]
  refine Wg4 ?_
  try simp only [Wa7,bsx,Nat.reduceAdd,Int.reduceLE,Int.reduceLT,Int.reduceToNat]
  refine Wj3 rfl (Wb5 rfl (Wb5 rfl (Wb5 rfl ?_)))
  try simp only [Wa7,bsx,Nat.reduceAdd,Int.reduceLE,Int.reduceLT,Int.reduceToNat]
  refine Wf4 ?_
  try simp only [Wa7,bsx,Nat.reduceAdd,Int.reduceLE,Int.reduceLT,Int.reduceToNat]
  generalize h5.push (.cells #[.int .i64 0,.int .u32 0,.int .u32 0] 81)=h6 at *
  generalize h5.size=AB at *
  refine Wd6 (vs:=[.int .i64 2,.int .u32 x.1,.int .u32 x.2]) H6.at rfl (by simp [Wi6]) λh7 w=>?_
  have H7:=H6.wr w.new w.old
  refine ⟨λvs h'=>vs = [.bool false]∧h' = h7,?_,?_⟩
  ·refine Wc3 (λhh=>by simp at hh) (λ_=>?_)
   refine ldR H7.at rfl ?_
   try simp only [Wa7,bsx,Nat.reduceAdd,Int.reduceLE,Int.reduceLT,Int.reduceToNat]
   first | exact ⟨rfl,rfl⟩ | trivial | exact rfl
  rintro v27 g28 h29 ⟨e,rfl⟩
  cases e
  try simp only [Wa7,bsx,Nat.reduceAdd,Int.reduceLE,Int.reduceLT,Int.reduceToNat]
  refine ldR H7.at rfl ?_
  try simp only [Wa7,bsx,Nat.reduceAdd,Int.reduceLE,Int.reduceLT,Int.reduceToNat]
  refine ldR H7.at rfl ?_
  try simp only [Wa7,bsx,Nat.reduceAdd,Int.reduceLE,Int.reduceLT,Int.reduceToNat]
  have H8:Sat h29 (We4 90 2 none 0 0 (([]:List Bp).flatMap bpc)*(suS Q M f ins Ts m2*R)):=by
   have:=H7.drop
   rw [Wb4] at this
   exact this
  refine YG4 (x:=x) H8 (by omega) λa' c' h30 H9=>?_
  try simp only [Wa7,bsx,Nat.reduceAdd,Int.reduceLE,Int.reduceLT,Int.reduceToNat]
  refine ⟨.inr ⟨a',c',_,_,rfl,hI2,by omega,he2,H9⟩,?_⟩
  show 1 - (0+1) < 1 - 0
  omega
 ·cases e
  rw [Wb4] at H4
  refine Wa0 (Wu7 D G hins (k:=0) (c:=⟨1,0,0⟩) H4 (by omega) he2 hI2 (by omega) ⟨⟨by decide,by decide⟩,⟨by decide,by decide⟩⟩ rfl g3 λh5 hI3 hl3 he3 H5=>?_)
  have H6:=H5.push (.cells #[.int .i64 0,.int .u32 0,.int .u32 0] 81)
  try simp only [Wa7,bsx,Nat.reduceAdd,Int.reduceLE,Int.reduceLT,Int.reduceToNat]
  refine Wg4 ?_
  try simp only [Wa7,bsx,Nat.reduceAdd,Int.reduceLE,Int.reduceLT,Int.reduceToNat]
  refine Wj3 rfl (Wb5 rfl (Wb5 rfl (Wb5 rfl ?_)))
  try simp only [Wa7,bsx,Nat.reduceAdd,Int.reduceLE,Int.reduceLT,Int.reduceToNat]
  refine Wf4 ?_
  try simp only [Wa7,bsx,Nat.reduceAdd,Int.reduceLE,Int.reduceLT,Int.reduceToNat]
  generalize h5.push (.cells #[.int .i64 0,.int .u32 0,.int .u32 0] 81)=h6 at *
  generalize h5.size=AB at *
  refine Wd6 (vs:=[.int .i64 (Wl8 (Wc9 m3 0)).op,.int .u32 (Wl8 (Wc9 m3 0)).key,.int .u32 (Wl8 (Wc9 m3 0)).val]) H6.at rfl (by simp [Wi6]) λh7 w=>?_
  have H7:=H6.wr w.new w.old
  refine ⟨λvs h'=>vs = [.bool true]∧h' = h7,?_,?_⟩
  ·refine Wc3 (λhh=>by simp at hh) (λ_=>?_)
   refine ldR H7.at rfl ?_
   try simp only [Wa7,bsx,Nat.reduceAdd,Int.reduceLE,Int.reduceLT,Int.reduceToNat]
   rw [show ((Wl8 (Wc9 m3 0)).op != 2)=true from bne_iff_ne.2 a3] <;> first | exact ⟨rfl,rfl⟩ | trivial | exact rfl
  rintro v27 g28 h29 ⟨e,rfl⟩
  cases e
  try simp only [Wa7,bsx,Nat.reduceAdd,Int.reduceLE,Int.reduceLT,Int.reduceToNat]
  refine Wa0 (WY6 D G h31 hins H7.drop (by omega) p3 he3 (by omega) (hI4 hI3 he3 (by omega)) g4 λh30 hI5 hl5 he5 H8=>?_)
  try simp only [Wa7,bsx,Nat.reduceAdd,Int.reduceLE,Int.reduceLT,Int.reduceToNat]
  refine kk h30 a c ?_
  rw [Wb4] at H8
  exact H8
end
def go1 (m:Mac) (fn:Int) (r:List Int):Option Mac:=Ys0 Wo4 (0:Nat) 2000 (m.setTh (m.th.set 0 ((Wc9 m 0).push fn r)))
def YR8:Option (List (List Bp) × List Int × List Int × List Int):=do
 let m1 ← go1 (Wn1 ⟨0,1,2,1,1,1,1⟩ [] true) (11+0) [5,1]
 let m2 ← go1 m1 (11+1) [0,0]
 let m3 ← go1 m2 (11+1) [0,0]
 let m4 ← go1 m3 6 []
 pure (Wg7 m1.p m1.mm.w,(Wc9 m2 0).ret,(Wc9 m3 0).ret,[m1.p.c.threads,m3.p.c.threads])
theorem YD2:YR8=some ([[],[(5,1)]],[2,5,1],[3,0,0],[1,1]):=by decide +kernel
theorem Ww1 {α β:Type} {o:Option α} {f:α→Option β} {b:β} (h:(o >>= f)=some b):∃a,o=some a∧f a=some b:=by
 cases o with
 | none=>cases h
 | some a=>exact ⟨a,rfl,h⟩
theorem W68:∃m1 m2 m3 m4,go1 (Wn1 ⟨0,1,2,1,1,1,1⟩ [] true) (11+0) [5,1]=some m1∧go1 m1 (11+1) [0,0]=some m2∧go1 m2 (11+1) [0,0]=some m3∧go1 m3 6 []=some m4∧Wg7 m1.p m1.mm.w = [[],[(5,1)]]∧(Wc9 m2 0).ret = [2,5,1]∧(Wc9 m3 0).ret = [3,0,0]∧[m1.p.c.threads,m3.p.c.threads] = [1,1]:=by
 have h:=YD2
 unfold YR8 at h
 obtain ⟨m1,h1,h⟩:=Ww1 h
 obtain ⟨m2,h2,h⟩:=Ww1 h
 obtain ⟨m3,h3,h⟩:=Ww1 h
 obtain ⟨m4,h4,h⟩:=Ww1 h
 have h:=Option.some.inj h
 obtain ⟨e1,h⟩:=Prod.mk.inj h
 obtain ⟨e2,h⟩:=Prod.mk.inj h
 obtain ⟨e3,e4⟩:=Prod.mk.inj h
 exact ⟨m1,m2,m3,m4,h1,h2,h3,h4,e1,e2,e3,e4⟩
theorem YM0 {c:Mod.Cf} (hc:okC c=true):MoQ c ⟨6,0,pad 10 []⟩:=by
 obtain ⟨a1,a2,a3,a4,a5,a6⟩:=WY8 hc
 have hthr:=(Wp5 hc).th
 have hthr:1≤c.threads∧c.threads≤6:=hthr
 have h0:0≤(Wc1 c).slots*c.threads:=Int.mul_nonneg (by omega) (by omega)
 refine .inl ⟨rfl,.inr (.inr (.inr ⟨rfl,by show (0:Int)≤0;omega,?_⟩))⟩
 show (0:Int)≤_
 omega
section
variable {K:Value→Wa1→Prop} {h:Wa1} {R:Hp}
theorem WZ4 (H:Sat h R) (k:∀h',Sat h' R→K (.bool true) h'):Wa5 Tryz.prog 22 #[] h K:=by
 refine call22 ?_
 unfold F22 cf bd da2
 have hok:okC ⟨0,1,2,1,1,1,1⟩=true:=by decide
 refine Wa0 (WN9 (c:=⟨0,1,2,1,1,1,1⟩) (a:=none) (cc:=0) (bs:=[]) H (λ_ _ _=>Sees.nil _ _) (by simp) (by simp) (λhh=>by rw [hok] at hh;cases hh) λ_ h1 Q M Ts H1=>?_)
 obtain ⟨m1,m2,m3,m4,g1,g2,g3,g4,s1,r2,r3,e4⟩:=W68
 have hth0:(Wn1 ⟨0,1,2,1,1,1,1⟩ [] true).th = [WC3 ⟨0,1,2,1,1,1,1⟩]:=rfl
 have hI:MacOk MoQ ⟨0,1,2,1,1,1,1⟩ 0 (Wn1 ⟨0,1,2,1,1,1,1⟩ [] true):=MacOk.new hok [] true
 have H1:Sat h1 (suS Q M 67 11 Ts (Wn1 ⟨0,1,2,1,1,1,1⟩ [] true)*R):=H1
 generalize hm0:Wn1 ⟨0,1,2,1,1,1,1⟩ [] true=m0 at *
 have hl0:m0.th.length=1:=by rw [hth0];rfl
 have he0:(Wc9 m0 0).fr = []:=by unfold Wc9;rw [hth0];rfl
 refine YW8 ?_
 try simp only [Wa7,bsx,Nat.reduceAdd,Int.reduceLE,Int.reduceLT,Int.reduceToNat]
 refine Wf4 ?_
 try simp only [Wa7,bsx,Nat.reduceAdd,Int.reduceLE,Int.reduceLT,Int.reduceToNat]
 refine Wa0 (Wu7 WZ1 (MacOk.good WO1) (by decide) (k:=0) (i0:=0) (N:=2000) (c:=⟨0,5,1⟩) H1 (by omega) he0 hI (by decide) ⟨⟨by decide,by decide⟩,⟨by decide,by decide⟩⟩ rfl g1 λh2 hI1 hl1 he1 H2=>?_)
 have p1:m1.p.c.threads=1:=by rw [hI1.p];rfl
 have q1:m1.p.c.algo=0:=by rw [hI1.p];rfl
 obtain ⟨ta,tc,_,HM⟩:=Wf7.1 (Wg6.1 H2)
 have V:=hI1.vw rfl (YJ2 HM).us
 have hid:=YR7 (hl1.trans hl0) he1
 have hfl:(Wg7 m1.p m1.mm.w).flatten = [((5:Int),(1:Int))]:=by rw [s1];rfl
 refine Wa0 (W65 (v:=some ⟨Q,0,none⟩) λF hF=>W67 H2 (by rw [p1,hl1,hl0];rfl) hid V q1 (L':=[((5:Int),(1:Int))]) (by rw [hfl];exact YD1 _) (by rw [hfl];decide) λh3 a3 c3 H3=>hF h3 a3 _ c3 0 ?_)
 rw [hfl]
 try simp only [Wa7,bsx,Nat.reduceAdd,Int.reduceLE,Int.reduceLT,Int.reduceToNat]
 refine Wg4 ?_
 try simp only [Wa7,bsx,Nat.reduceAdd,Int.reduceLE,Int.reduceLT,Int.reduceToNat]
 refine Wf4 ?_
 try simp only [Wa7,bsx,Nat.reduceAdd,Int.reduceLE,Int.reduceLT,Int.reduceToNat]
 refine Wa0 (WZ3 (x:=(5,1)) WZ1 (MacOk.good WO1) (by decide) (by decide) (i0:=0+2000) (N:=2000) H3.drop (hl1.trans hl0) p1 ?_ he1 hI1 (by decide) g2 (by unfold Wl8;rw [r2];rfl) g3 (by unfold Wl8;rw [r3];decide) (λhI3 he3 hl3=>MacOk.pushF hI3 (Wk2 (by omega)) he3 (YM0 hok)) g4 λh4 a4 c4 H4=>?_)
 ·injection e4 with _ e4
  injection e4
 try simp only [Wa7,bsx,Nat.reduceAdd,Int.reduceLE,Int.reduceLT,Int.reduceToNat]
 refine Wg4 ?_
 try simp only [Wa7,bsx,Nat.reduceAdd,Int.reduceLE,Int.reduceLT,Int.reduceToNat]
 refine Wf4 ?_
 try simp only [Wa7,bsx,Nat.reduceAdd,Int.reduceLE,Int.reduceLT,Int.reduceToNat]
 refine Wc3 (λ_=>?_) (λhh=>by simp at hh)
 refine Wc3 (λ_=>?_) (λhh=>by simp at hh)
 refine Wc3 (λ_=>?_) (λhh=>by simp at hh)
 refine Wc3 (λ_=>?_) (λhh=>by simp at hh)
 refine Wc3 (λ_=>?_) (λhh=>by simp at hh)
 have hsee:=H4.own.sees
 obtain ⟨ad,ea,hv0⟩:=hsee 0 (.int .u32 5) rfl
 obtain ⟨_,ea2,hv1⟩:=hsee 1 (.int .u32 1) rfl
 rw [ea] at ea2 ⊢
 cases ea2
 rw [add_zero] at hv0
 refine ⟨by decide,?_⟩
 try simp only [Wa7,bsx,Nat.reduceAdd,Int.reduceLE,Int.reduceLT,Int.reduceToNat]
 refine Wc5 hv0 (Wc5 hv1 ?_)
 refine Yi9 ?_
 exact k h4 H4.drop.drop
theorem WB6 {c:Mod.Cf} (H:Sat h R) (k:∀h',Sat h' R→K (.bool true) h') :
  Wa5 Tryz.prog 5 #[.agg #[.int .i64 c.algo,.int .i64 c.threads,.int .i64 c.nodes,.int .i64 c.level,.int .i64 c.batch,.int .i64 c.probes,.int .i64 c.scan]] h K:=by
 refine call5 ?_
 unfold F5 cf dl7
 have H1:=H.push (.cells (cfc c).toArray 23)
 rw [show h.push (.cells #[.int .i64 c.algo,.int .i64 c.threads,.int .i64 c.nodes,.int .i64 c.level,.int .i64 c.batch,.int .i64 c.probes,.int .i64 c.scan] 23)=h.push (.cells (cfc c).toArray 23) from rfl]
 generalize h.push (.cells (cfc c).toArray 23)=h1 at *
 generalize h.size=CB at *
 refine Wa0 (W65 (v:=none) λF hF=>WZ2 (hF h1 none 0 0 1 ?_))
 try simp only [Wa7,bsx,Nat.reduceAdd,Int.reduceLE,Int.reduceLT,Int.reduceToNat]
 refine Wg4 ?_
 try simp only [Wa7,bsx,Nat.reduceAdd,Int.reduceLE,Int.reduceLT,Int.reduceToNat]
 refine Wf4 ?_
 try simp only [Wa7,bsx,Nat.reduceAdd,Int.reduceLE,Int.reduceLT,Int.reduceToNat]
 refine Wa0 (WZ2 ?_)
 try simp only [Wa7,bsx,Nat.reduceAdd,Int.reduceLE,Int.reduceLT,Int.reduceToNat]
 refine Wg4 ?_
 try simp only [Wa7,bsx,Nat.reduceAdd,Int.reduceLE,Int.reduceLT,Int.reduceToNat]
 refine Wf4 ?_
 try simp only [Wa7,bsx,Nat.reduceAdd,Int.reduceLE,Int.reduceLT,Int.reduceToNat]
 refine Wa0 (Yj0 ?_)
 try simp only [Wa7,bsx,Nat.reduceAdd,Int.reduceLE,Int.reduceLT,Int.reduceToNat]
 refine Wg4 ?_
 try simp only [Wa7,bsx,Nat.reduceAdd,Int.reduceLE,Int.reduceLT,Int.reduceToNat]
 refine Wf4 ?_
 try simp only [Wa7,bsx,Nat.reduceAdd,Int.reduceLE,Int.reduceLT,Int.reduceToNat]
 refine ⟨λvs h'=>(∃u1 u2,vs = [u1,u2,.bool false])∧h' = h1,?_,?_⟩
 ·refine Wc3 (λhh=>by simp at hh) (λ_=>?_)
  refine Wc3 (λhh=>by simp at hh) (λ_=>?_)
  refine Wc3 (λhh=>by simp at hh) (λ_=>?_)
  refine Wa0 (Yu7 ?_)
  try simp only [Wa7,bsx,Nat.reduceAdd,Int.reduceLE,Int.reduceLT,Int.reduceToNat]
  first | exact ⟨⟨_,_,rfl⟩,rfl⟩ | exact ⟨_,_,rfl⟩
 rintro v1 v2 v3 g4 h2 ⟨⟨u1,u2,e⟩,rfl⟩
 cases e
 try simp only [Wa7,bsx,Nat.reduceAdd,Int.reduceLE,Int.reduceLT,Int.reduceToNat]
 have lv:∀ {h':Wa1} {P:Hp},Sat h' (P*R)→Wa5 Tryz.prog 22 #[] h' λv h''=>asBool v λb=>K (.bool b) h'':=λH'=>WZ4 H' λh'' H''=>by
  try simp only [Wa7,bsx,Nat.reduceAdd,Int.reduceLE,Int.reduceLT,Int.reduceToNat]
  exact k h'' H''.drop
 have O:=H1.at
 refine ldR O rfl (ldR O rfl (ldR O rfl (ldR O rfl (ldR O rfl (ldR O rfl (ldR O rfl ?_))))))
 refine Wa0 (Yu6 H1 (λhc h3 H3=>?_) λhc h3 H3=>?_)
 rotate_left
 ·try simp only [Wa7,bsx,Nat.reduceAdd,Int.reduceLE,Int.reduceLT,Int.reduceToNat]
  exact Wa0 (lv H3)
 try simp only [Wa7,bsx,Nat.reduceAdd,Int.reduceLE,Int.reduceLT,Int.reduceToNat]
 have O:=H3.at
 refine ldR O rfl (ldR O rfl (ldR O rfl (ldR O rfl (ldR O rfl (ldR O rfl (ldR O rfl ?_))))))
 refine Wa0 (WN9 (c:=c) (a:=none) (cc:=0) (bs:=[]) H3 (λ_ _ _=>Sees.nil _ _) (by simp) (by simp) (λhh=>by rw [hc] at hh;cases hh) λ_ h4 Q M Ts H4=>?_)
 have B:=Wp5 hc
 have hth0:(Wn1 c [] false).th=List.replicate c.threads.toNat (WC3 c):=rfl
 have hg0:(Wn1 c [] false).g=none:=rfl
 have hp0:(Wn1 c [] false).p.c.threads=c.threads:=rfl
 generalize Wn1 c [] false=m0 at *
 have hthr:1≤c.threads∧c.threads≤6:=B.th
 have hl0:(m0.th.length:Int)=c.threads:=by rw [hth0,List.length_replicate];omega
 have he0:(Wc9 m0 0).fr = []:=by
  unfold Wc9
  rw [hth0]
  cases e:c.threads.toNat with
  | zero=>rfl
  | succ n=>rfl
 have hins:0≤Wx6 c.algo∧Wx6 c.algo≤100:=by 
  unfold Wx6
  repeat' split
  all_goals decide
 refine YW8 ?_
 try simp only [Wa7,bsx,Nat.reduceAdd,Int.reduceLE,Int.reduceLT,Int.reduceToNat]
 refine Wf4 ?_
 try simp only [Wa7,bsx,Nat.reduceAdd,Int.reduceLE,Int.reduceLT,Int.reduceToNat]
 refine Wa0 (WC6 (c:=⟨1,0,0⟩) (i:=0) H4 hins ⟨⟨by decide,by decide⟩,⟨by decide,by decide⟩⟩ (λhh=>by omega) (λ_ hh=>by cases hh) (λ_ _ hh=>absurd he0 hh) λ_ _ _ h5 H5=>?_)
 have hg1:(m0.setTh (m0.th.set (0:Int).toNat ((Wc9 m0 (0:Int).toNat).push (Wx6 c.algo+1) [0,0]))).g=none:=hg0
 have hp1:(m0.setTh (m0.th.set (0:Int).toNat ((Wc9 m0 (0:Int).toNat).push (Wx6 c.algo+1) [0,0]))).p.c.threads=((m0.setTh (m0.th.set (0:Int).toNat ((Wc9 m0 (0:Int).toNat).push (Wx6 c.algo+1) [0,0]))).th.length:Int):=by
  show m0.p.c.threads=((m0.th.set _ _).length:Int)
  rw [List.length_set,hp0,hl0]
 have hb1:((m0.setTh (m0.th.set (0:Int).toNat ((Wc9 m0 (0:Int).toNat).push (Wx6 c.algo+1) [0,0]))).th.all λt=>t.fr.isEmpty)=false:=by
  rw [← Bool.not_eq_true]
  intro hall
  have hlt:0 < m0.th.length:=by omega
  have:=List.all_eq_true.1 hall ((Wc9 m0 0).push (Wx6 c.algo+1) [0,0]) (List.mem_iff_getElem?.2 ⟨0,by
   show (m0.th.set 0 _)[0]? = _
   rw [List.getElem?_set_self hlt]
   rfl⟩)
  unfold Mod.Thr.push at this
  simp at this
 generalize m0.setTh (m0.th.set (0:Int).toNat ((Wc9 m0 (0:Int).toNat).push (Wx6 c.algo+1) [0,0]))=m1 at *
 try simp only [Wa7,bsx,Nat.reduceAdd,Int.reduceLE,Int.reduceLT,Int.reduceToNat]
 refine Wa0 (W65 (v:=some ⟨Q,0,none⟩) λF hF=>WO2 H5 hp1 hb1 λh6 H6=>hF h6 none 0 0 5 ?_)
 try simp only [Wa7,bsx,Nat.reduceAdd,Int.reduceLE,Int.reduceLT,Int.reduceToNat]
 refine Wg4 ?_
 try simp only [Wa7,bsx,Nat.reduceAdd,Int.reduceLE,Int.reduceLT,Int.reduceToNat]
 refine Wf4 ?_
 try simp only [Wa7,bsx,Nat.reduceAdd,Int.reduceLE,Int.reduceLT,Int.reduceToNat]
 refine Wa0 (WO2 H6 hp1 hb1 λh7 H7=>?_)
 try simp only [Wa7,bsx,Nat.reduceAdd,Int.reduceLE,Int.reduceLT,Int.reduceToNat]
 refine Wg4 ?_
 try simp only [Wa7,bsx,Nat.reduceAdd,Int.reduceLE,Int.reduceLT,Int.reduceToNat]
 refine Wf4 ?_
 try simp only [Wa7,bsx,Nat.reduceAdd,Int.reduceLE,Int.reduceLT,Int.reduceToNat]
 refine Wa0 (W66 H7 hp1 hb1 λh8 H8=>?_)
 try simp only [Wa7,bsx,Nat.reduceAdd,Int.reduceLE,Int.reduceLT,Int.reduceToNat]
 refine Wg4 ?_
 try simp only [Wa7,bsx,Nat.reduceAdd,Int.reduceLE,Int.reduceLT,Int.reduceToNat]
 refine Wf4 ?_
 try simp only [Wa7,bsx,Nat.reduceAdd,Int.reduceLE,Int.reduceLT,Int.reduceToNat]
 refine Wc3 (λ_=>?_) (λhh=>by simp at hh)
 refine Wc3 (λ_=>?_) (λhh=>by simp at hh)
 refine Wc3 (λ_=>?_) (λhh=>by simp at hh)
 refine Wc3 (λ_=>?_) (λhh=>by simp at hh)
 refine Wc3 (λ_=>?_) (λhh=>absurd hh (by decide))
 refine Wa0 (Yj1 H8 hg1 ?_)
 try simp only [Wa7,bsx,Nat.reduceAdd,Int.reduceLE,Int.reduceLT,Int.reduceToNat]
 refine Wc3 (λ_=>?_) (λhh=>by simp at hh)
 have H9:Sat h8 ((suS Q M (YM6 c.algo) (Wx6 c.algo) Ts m1*pt CB (.cells (cfc c).toArray 23))*R):=by
  rw [Wc7];exact H8
 exact Wa0 (lv H9)
end
end
end Go.Proofs.YtooaemmlgkdfoaaGreat
