/- Part 10 of what the proofs of this seat rest on: see the last text of the claim. -/
import Derived.Test.YtahpbclnkofhfaaGreatQd0d4e6dc97a6
import Derived.Test.YtahpbclnkofhfaaGreatProg
set_option linter.unusedSimpArgs false
set_option linter.unusedVariables false
set_option linter.ambiguousOpen false
set_option maxRecDepth 20000
section
namespace Go.Proofs.YtahpbclnkofhfaaGreat.Mod
def Ans (fn:Int):Prop:=11<=fn/\fn<=13\/21<=fn/\fn<=23\/31<=fn/\fn<=33
def Fit (fn i j k:Int):Prop:=(fn % 10=1->(i=0\/i=1)/\j=0/\k=0)/\(fn % 10≠1->i=2\/i=3/\j=0/\k=0)
inductive Wx7 (p:Pl):Int->Prop
 | node (n f:Int):Wx7 p (p.node n f)
 | link (n:Int):Wx7 p (p.link n)
 | at (n:Int):Wx7 p (p.at n)
 | lit {a:Int} (h:0<=a/\a < 8):Wx7 p a
inductive On (x:Run):Bool->Bool->Run->Prop
 | refl:On x false false x
 | load {y:Run} {a:Int} (h:On x false false y):On x true false (y.load a).2
 | store {y:Run} {a v:Int} (h:On x false false y) (ha:Wx7 x.m.p a):On x true false (y.store a v)
 | own {y:Run} {i v:Int} (h:On x false false y):On x true false (y.store (x.m.p.haz x.id i) v)
 | cas {y:Run} {a o v:Int} (h:On x false false y) (ha:Wx7 x.m.p a):On x true false (y.cas a o v).2
 | add {y:Run} {a v:Int} (h:On x false false y) (ha:Wx7 x.m.p a):On x true false (y.add a v).2
 | dcas {y:Run} {a o v b p q:Int} (h:On x false false y) (ha:Wx7 x.m.p a) (hb:Wx7 x.m.p b):On x true false { y with m:=(y.m.dcas a o v b p q).2 }
 | dcss {y:Run} {a o v b p:Int} (h:On x false false y) (ha:Wx7 x.m.p a) (hb:Wx7 x.m.p b):On x true false { y with m:=(y.m.dcss a o v b p).2 }
 | next {b:Bool} {y:Run} {k:Int} (h:On x b false y):On x b false { y with m:=(y.m.next k).2 }
 | lvl {b:Bool} {y:Run} {k:Int} (h:On x b false y):On x b false { y with m:=(y.m.lvl k).2 }
 | gh {b q:Bool} {y:Run} {f:Gh->Gh} (h:On x b q y):On x b q (y.gh f)
 | s {b:Bool} {y:Run} {i:Nat} {v:Int} (h:On x b false y):On x b false (y.s i v)
 | pc {b:Bool} {y:Run} {i:Int} (h:On x b false y) (hi:Ans x.f.fn->i≠90):On x b false (y.pc i)
 | call {b:Bool} {y:Run} {i j:Int} {r:List Int} (h:On x b false y) (hi:Ans x.f.fn->i≠90) (hj:¬ Ans j):On x b true (y.call i j r)
 | fin {b:Bool} {y:Run} {i j k:Int} (h:On x b false y) (hi:Ans x.f.fn->Fit x.f.fn i j k):On x b true (y.fin i j k)
 | pop {b:Bool} {y:Run} {r:List Int} (h:On x b false y) (hn:¬ Ans x.f.fn):On x b true (y.pop r)
 | push {b q:Bool} {y:Run} {j:Int} {r:List Int} (h:On x b q y) (hj:¬ Ans j):On x b true (y.push j r)
 | fo {b:Bool} {y:Run} {l:List Int} (h:On x b false y):On x b false (y.fo l)
 | re {b:Bool} {y:Run} {l:List Int} (h:On x b false y):On x b false (y.re l)
 | setPl {b:Bool} {y:Run} {p s w:List Int} (h:On x b false y):On x b false (y.setPl p s w)
section
variable {x y:Run} {b:Bool}
theorem On.swing {a w p:Int} {c:Bool} (h:On x false false y) (ha:Wx7 x.m.p (y.at a)):On x true false (y.swing a w p c).2:=On.cas h ha
theorem On.swingA {a w p:Int} (h:On x false false y) (ha:Wx7 x.m.p a):On x true false (y.swingA a w p).2:=On.cas h ha
theorem On.swingM {a w p:Int} {c:Bool} (h:On x false false y) (ha:Wx7 x.m.p a):On x true false (y.swingM a w p c).2:=On.cas h ha
theorem On.drop1 {a:Int} (h:On x false false y) (ha:Wx7 x.m.p (y.na a 2)):On x true false (y.drop1 a).2:=On.add h ha
end
structure Ob (x y:Run):Prop where
 a:∃b q,On x b q y
theorem Ob.of {x y:Run} {b q:Bool} (h:On x b q y):Ob x y:=⟨b,q,h⟩
theorem WM7 {P:Prop} (h:P:=by (apply Ob.of;((with_reducible repeat' (first | assumption | exact On.refl | apply On.load | apply On.cas | apply On.add | apply On.swing | apply On.swingA | apply On.swingM | apply On.drop1 | apply On.own | apply On.next | apply On.lvl | apply On.dcas | apply On.dcss | apply On.gh | apply On.call | apply On.fin | apply On.s | apply On.pc | apply On.push | apply On.pop | apply On.fo | apply On.re | apply On.setPl | apply On.store));all_goals (first | assumption | exact Wx7.node _ _ | exact Wx7.at _ | exact Wx7.link _ | exact Wx7.lit (by decide) | (intro hx;first | exact absurd hx nA | decide | omega | (unfold Fit;omega)) | (unfold Ans;omega))))):P:=h
theorem YM4 {x:Run} (nA:¬ Ans x.f.fn):Ob x (alloc x):=by
 unfold alloc;dsimp only
 repeat' split
 all_goals exact WM7
theorem Yn6 {x:Run} (nA:¬ Ans x.f.fn):Ob x (Wo1 x):=by
 unfold Wo1;dsimp only
 repeat' split
 all_goals exact WM7
theorem Yn7 {x:Run} (nA:¬ Ans x.f.fn):Ob x (Wo2 x):=by
 unfold Wo2
 try dsimp only
 repeat' split
 all_goals first | with_reducible exact YM4 nA | with_reducible exact Yn6 nA | exact WM7
theorem Yn8 {x:Run} (nA:¬ Ans x.f.fn):Ob x (Wo3 x):=by
 unfold Wo3;dsimp only
 repeat' split
 all_goals exact WM7
theorem YW5 {x:Run} (nA:¬ Ans x.f.fn):Ob x (Yt9 x):=by
 unfold Yt9;dsimp only
 repeat' split
 all_goals exact WM7
theorem YB3 {x:Run} (nA:¬ Ans x.f.fn):Ob x (Wt2 x):=by
 unfold Wt2;dsimp only
 repeat' split
 all_goals exact WM7
theorem YM5 {x y:Run} {b:Bool} {all:Int} (nA:¬ Ans x.f.fn) (h:On x b false y):On x b false (Wv3 y all):=by
 unfold Wv3
 split
 ·exact On.pc (On.fo (On.re h)) λhx=>absurd hx nA
 ·exact h
theorem YM6 {x y:Run} {b:Bool} (nA:¬ Ans x.f.fn) (h:On x b false y):On x b true (WR5 y):=by
 unfold WR5
 split
 ·exact On.pop h nA
 ·exact On.push (On.fo h) (by unfold Ans;omega)
theorem YW6 {x:Run} (nA:¬ Ans x.f.fn):Ob x (scan x):=by
 have h0:On x false false (if x.f.pc=0 then x.fo [] else x):=by
  split
  ·exact On.fo On.refl
  ·exact On.refl
 unfold scan
 dsimp only
 generalize (if x.f.pc=0 then x.fo [] else x)=y at *
 split
 ·exact Ob.of (On.pc (On.fo (On.load h0)) λhx=>absurd hx nA)
 ·exact Ob.of (YM6 nA (YM5 nA h0))
theorem W87 {x:Run} (nA:¬ Ans x.f.fn):Ob x (Wk7 x):=by
 unfold Wk7
 try dsimp only
 repeat' split
 all_goals first | with_reducible exact Yn8 nA | with_reducible exact YW5 nA | with_reducible exact YB3 nA | with_reducible exact YW6 nA | with_reducible exact Yn7 nA | exact WM7
theorem YM7 {x:Run} (nA:¬ Ans x.f.fn):Ob x (WH0 x):=by
 unfold WH0;dsimp only
 repeat' split
 all_goals exact WM7
theorem YM8 {x:Run} (e:x.f.fn=11):Ob x (WH2 x):=by
 unfold WH2;dsimp only
 repeat' split
 all_goals exact WM7
theorem W88 {x:Run} (e:x.f.fn=11):Ob x (Wk8 x):=by
 unfold Wk8 WH1;dsimp only
 repeat' split
 all_goals exact WM7
theorem YM9 {x:Run} (e:x.f.fn=11):Ob x (WH3 x):=by
 unfold WH3 WH1;dsimp only
 repeat' split
 all_goals exact WM7
theorem YW7 {x:Run} (e:x.f.fn=11):Ob x (Yu1 x):=by
 unfold Yu1 WR6;dsimp only
 repeat' split
 all_goals exact WM7
theorem YN0 {x:Run} (e:x.f.fn=11):Ob x (WH4 x):=by
 unfold WH4
 try dsimp only
 repeat' split
 all_goals first | with_reducible exact YM8 e | with_reducible exact W88 e | with_reducible exact YM9 e | with_reducible exact YW7 e | exact WM7
theorem YN1 {x:Run} (e:x.f.fn=12\/x.f.fn=13):Ob x (WB1 x):=by
 unfold WB1;dsimp only
 repeat' split
 all_goals exact WM7
theorem YN2 {x:Run} (e:x.f.fn=12\/x.f.fn=13):Ob x (WB2 x):=by
 unfold WB2
 try dsimp only
 repeat' split
 all_goals first | with_reducible exact YN1 e | exact WM7
theorem Yf3 {x:Run} (nA:¬ Ans x.f.fn):Ob x (WD5 x):=by
 unfold WD5;dsimp only
 repeat' split
 all_goals exact WM7
theorem YN3 {x:Run} (nA:¬ Ans x.f.fn):Ob x (WH5 x):=by
 unfold WH5
 try dsimp only
 repeat' split
 all_goals first | with_reducible exact Yf3 nA | exact WM7
theorem YB4 {x:Run} {a:Nat} {i j:Int} (nA:¬ Ans x.f.fn):Ob x (Wm6 x a i j):=by
 unfold Wm6;dsimp only
 repeat' split
 all_goals exact WM7
theorem YN4 {x:Run} {a:Nat} {j:Int} (nA:¬ Ans x.f.fn):Ob x (WD6 x a j):=by
 unfold WD6;dsimp only
 repeat' split
 all_goals exact WM7
theorem YN5 {x:Run} (nA:¬ Ans x.f.fn):Ob x (WH6 x):=by
 unfold WH6;dsimp only
 repeat' split
 all_goals first | with_reducible exact YN4 nA | with_reducible exact Yf3 nA | with_reducible exact YN3 nA | with_reducible exact YB4 nA | (rename_i c;unfold Wm6;dsimp only;rw [if_neg c];exact WM7) | exact WM7
def Bit (x y:Run):Prop:=Ans x.f.fn/\x.f.pc=90/\y=x.pop [x.f.g 7,x.f.g 8,x.f.g 9]\/(Ans x.f.fn->x.f.pc≠90)/\Ob x y
theorem W89 {x:Run} (hq:x.f.fn<=6\/10<=x.f.fn/\x.f.fn<=14) (hne:x.t.fr≠[]):Bit x (Wg0 x):=by
 unfold Wg0
 rw [if_neg hne]
 dsimp only
 split
 ·rename_i c;exact .inl ⟨.inl c.2,c.1,rfl⟩
 rename_i c
 refine .inr ⟨λh e=>c ⟨e,by unfold Ans at h;omega⟩,?_⟩
 repeat' split
 ·exact YM7 (by unfold Ans;omega)
 ·exact YN0 (by assumption)
 ·exact YN2 (by assumption)
 ·exact YN5 (by unfold Ans;omega)
 ·exact W87 (by unfold Ans;omega)
end Go.Proofs.YtahpbclnkofhfaaGreat.Mod
end
namespace Go.Proofs.YtahpbclnkofhfaaGreat
section
open Mod
structure YB5 (p:Pl) (id:Int) (n:Nat) (e:Acc):Prop where
 a:0<=e.a/\e.a < n
 k:e.kind=0/\e.b = -1\/(e.kind=1/\e.b = -1/\(Wx7 p e.a\/∃i,e.a=p.haz id i)\/((e.kind=2\/e.kind=3)/\e.b = -1/\Wx7 p e.a\/(e.kind=4\/e.kind=5)/\Wx7 p e.a/\Wx7 p e.b/\0<=e.b/\e.b < n))
structure One (p:Pl) (id:Int) (m n:Mm):Prop where
 wt:n.wt=m.wt
 w:n.w.length=m.w.length
 st:n.st=m.st/\n.lg=m.lg\/n.st=m.st+1/\∃e,YB5 p id m.w.length e/\n.lg=if m.wt then m.lg ++ [e] else m.lg
theorem One.refl (p:Pl) (id:Int) (m:Mm):One p id m m:=⟨rfl,rfl,.inl ⟨rfl,rfl⟩⟩
theorem WC0 {m:Mm} {a:Int} (h:m.ok a=true):0<=a/\a < m.w.length:=by
 unfold Mm.ok at h
 simpa using h
theorem Ws2 (m:Mac) (a:Int):(m.touch a).acted=true:=by
 unfold Mac.touch
 split <;> rfl
theorem Wv9 (m:Mac) (a:Int):(m.touch a).mm=m.mm:=(FixM.touch m a).2.1
section
variable {p:Pl} {id:Int} {m:Mac} {a b o v c q:Int}
theorem YN6:(m.load a).2.acted=true/\One p id m.mm (m.load a).2.mm:=by
 unfold Mac.load
 dsimp only
 rw [Wv9]
 split
 ·rename_i h
  exact ⟨Ws2 m a,rfl,rfl,.inr ⟨rfl,_,⟨WC0 h,.inl ⟨rfl,rfl⟩⟩,rfl⟩⟩
 ·exact ⟨Ws2 m a,by show One p id m.mm (m.touch a).mm;rw [Wv9];exact One.refl _ _ _⟩
theorem W09 (ha:Wx7 p a\/∃i,a=p.haz id i):(m.store a v).acted=true/\One p id m.mm (m.store a v).mm:=by
 unfold Mac.store
 dsimp only
 rw [Wv9]
 split
 ·rename_i h
  exact ⟨Ws2 m a,rfl,List.length_set,.inr ⟨rfl,_,⟨WC0 h,.inr (.inl ⟨rfl,rfl,ha⟩)⟩,rfl⟩⟩
 ·exact ⟨Ws2 m a,by show One p id m.mm (m.touch a).mm;rw [Wv9];exact One.refl _ _ _⟩
theorem YW8 (ha:Wx7 p a):(m.cas a o v).2.acted=true/\One p id m.mm (m.cas a o v).2.mm:=by
 unfold Mac.cas
 dsimp only
 rw [Wv9]
 split
 ·rename_i h
  refine ⟨Ws2 m a,?_⟩
  show One p id m.mm (m.mm.cas a o v)
  unfold Mm.cas
  split
  ·exact ⟨rfl,List.length_set,.inr ⟨rfl,_,⟨WC0 h,.inr (.inr (.inl ⟨.inl rfl,rfl,ha⟩))⟩,rfl⟩⟩
  ·exact ⟨rfl,rfl,.inr ⟨rfl,_,⟨WC0 h,.inr (.inr (.inl ⟨.inl rfl,rfl,ha⟩))⟩,rfl⟩⟩
 ·exact ⟨Ws2 m a,by show One p id m.mm (m.touch a).mm;rw [Wv9];exact One.refl _ _ _⟩
theorem YW9 (ha:Wx7 p a):(m.add a v).2.acted=true/\One p id m.mm (m.add a v).2.mm:=by
 unfold Mac.add
 dsimp only
 rw [Wv9]
 split
 ·rename_i h
  exact ⟨Ws2 m a,rfl,List.length_set,.inr ⟨rfl,_,⟨WC0 h,.inr (.inr (.inl ⟨.inr rfl,rfl,ha⟩))⟩,rfl⟩⟩
 ·exact ⟨Ws2 m a,by show One p id m.mm (m.touch a).mm;rw [Wv9];exact One.refl _ _ _⟩
theorem WT7 (m:Mac) (a b:Int):((m.touch a).touch b).mm=m.mm:=by rw [Wv9,Wv9]
theorem YN7 (ha:Wx7 p a) (hb:Wx7 p b):(m.dcas a o v b c q).2.acted=true/\One p id m.mm (m.dcas a o v b c q).2.mm:=by
 unfold Mac.dcas
 dsimp only
 rw [WT7]
 split
 ·rename_i h
  refine ⟨Ws2 _ b,?_⟩
  show One p id m.mm (m.mm.dcas a o v b c q)
  unfold Mm.dcas
  split
  ·exact ⟨rfl,by show ((m.mm.w.set _ _).set _ _).length=_;rw [List.length_set,List.length_set],.inr ⟨rfl,_,⟨WC0 h.1,.inr (.inr (.inr ⟨.inl rfl,ha,hb,WC0 h.2.1⟩))⟩,rfl⟩⟩
  ·exact ⟨rfl,rfl,.inr ⟨rfl,_,⟨WC0 h.1,.inr (.inr (.inr ⟨.inl rfl,ha,hb,WC0 h.2.1⟩))⟩,rfl⟩⟩
 ·exact ⟨Ws2 _ b,by show One p id m.mm ((m.touch a).touch b).mm;rw [WT7];exact One.refl _ _ _⟩
theorem YN8 (ha:Wx7 p a) (hb:Wx7 p b):(m.dcss a o v b c).2.acted=true/\One p id m.mm (m.dcss a o v b c).2.mm:=by
 unfold Mac.dcss
 dsimp only
 rw [WT7]
 split
 ·rename_i h
  refine ⟨Ws2 _ b,?_⟩
  show One p id m.mm (m.mm.dcss a o v b c)
  unfold Mm.dcss
  split
  ·exact ⟨rfl,List.length_set,.inr ⟨rfl,_,⟨WC0 h.1,.inr (.inr (.inr ⟨.inr rfl,ha,hb,WC0 h.2⟩))⟩,rfl⟩⟩
  ·exact ⟨rfl,rfl,.inr ⟨rfl,_,⟨WC0 h.1,.inr (.inr (.inr ⟨.inr rfl,ha,hb,WC0 h.2⟩))⟩,rfl⟩⟩
 ·exact ⟨Ws2 _ b,by show One p id m.mm ((m.touch a).touch b).mm;rw [WT7];exact One.refl _ _ _⟩
end
theorem YX0 (m:Mac) (k:Int):(m.next k).2.mm=m.mm/\(m.next k).2.acted=m.acted:=by
 unfold Mac.next
 split <;> exact ⟨rfl,rfl⟩
theorem Y33 (m:Mac) (k:Int):(m.lvl k).2.mm=m.mm/\(m.lvl k).2.acted=m.acted:=by
 unfold Mac.lvl
 split <;> exact ⟨rfl,rfl⟩
structure Mo1 (x y:Run) (b:Bool):Prop where
 f:b=false->y.m.mm=x.m.mm/\y.m.acted=x.m.acted
 t:b=true->y.m.acted=true/\One x.m.p x.id x.m.mm y.m.mm
theorem Mo1.t1 {x y z:Run} (h:Mo1 x y false) (e:z.m.acted=true/\One x.m.p x.id y.m.mm z.m.mm):Mo1 x z true:=
 ⟨λe=>(by cases e),λ_=>⟨e.1,by rw [<- (h.f rfl).1];exact e.2⟩⟩
theorem Mo1.same {x y z:Run} {b:Bool} (h:Mo1 x y b) (e:z.m.mm=y.m.mm/\z.m.acted=y.m.acted):Mo1 x z b:=
 ⟨λc=>⟨e.1.trans (h.f c).1,e.2.trans (h.f c).2⟩,λc=>⟨e.2.trans (h.t c).1,by rw [e.1];exact (h.t c).2⟩⟩
theorem Mod.On.mm {x y:Run} {b q:Bool} (h:On x b q y):Mo1 x y b:=by
 induction h with
 | refl=>exact ⟨λ_=>⟨rfl,rfl⟩,λe=>by cases e⟩
 | load _ ih=>exact ih.t1 YN6
 | store _ ha ih=>exact ih.t1 (W09 (.inl ha))
 | own _ ih=>exact ih.t1 (W09 (.inr ⟨_,rfl⟩))
 | cas _ ha ih=>exact ih.t1 (YW8 ha)
 | add _ ha ih=>exact ih.t1 (YW9 ha)
 | dcas _ ha hb ih=>exact ih.t1 (YN7 ha hb)
 | dcss _ ha hb ih=>exact ih.t1 (YN8 ha hb)
 | next _ ih=>exact ih.same (YX0 _ _)
 | lvl _ ih=>exact ih.same (Y33 _ _)
 | gh _ ih=>exact ih.same ⟨rfl,rfl⟩
 | s _ ih=>exact ih.same ⟨rfl,rfl⟩
 | pc _ _ ih=>exact ih.same ⟨rfl,rfl⟩
 | call _ _ _ ih=>exact ih.same ⟨rfl,rfl⟩
 | fin _ _ ih=>exact ih.same ⟨rfl,rfl⟩
 | pop _ _ ih=>exact ih.same ⟨rfl,rfl⟩
 | push _ _ ih=>exact ih.same ⟨rfl,rfl⟩
 | fo _ ih=>exact ih.same ⟨rfl,rfl⟩
 | re _ ih=>exact ih.same ⟨rfl,rfl⟩
 | setPl _ ih=>exact ih.same ⟨rfl,rfl⟩
structure WT8 (f:Frm):Prop where
 len:f.r.length=10
 a:Ans f.fn->f.pc=90->Fit f.fn (f.g 7) (f.g 8) (f.g 9)
def Bot (fn:Int) (l:List Frm):Prop:=∃f r,l=f :: r/\f.fn=fn
structure Frs (x y:Run) (q:Bool):Prop where
 a:∀f ∈ y.t.fr,WT8 f
 b:∀fn,Ans fn->Bot fn x.t.fr->Bot fn y.t.fr
 c:q=false->y.t.fr≠[]/\y.t.fr.dropLast=x.t.fr.dropLast/\y.f.fn=x.f.fn/\(Ans x.f.fn->y.f.pc≠90)
theorem YX1 {j:Int} {r:List Int} (hj:¬ Ans j):WT8 ⟨j,0,pad 10 r⟩:=⟨Ww6 _ _,λh=>absurd h hj⟩
theorem Bot.app {fn:Int} {l k:List Frm} (h:Bot fn l):Bot fn (l ++ k):=by
 obtain ⟨f,r,e,ef⟩:=h
 exact ⟨f,r ++ k,by rw [e];rfl,ef⟩
theorem Bot.top {fn:Int} {y:Run} {f:Frm} (h:Bot fn y.t.fr) (hne:y.t.fr≠[]) (hf:f.fn=y.f.fn):Bot fn (y.setF f).t.fr:=by
 obtain ⟨g,r,e,eg⟩:=h
 have s:=WS1 hne
 show Bot fn (y.t.fr.dropLast ++ [f])
 cases hd:y.t.fr.dropLast with
 | nil=>
  rw [hd,e] at s
  refine ⟨f,[],rfl,hf.trans ?_⟩
  have:g=y.t.top:=by cases s;rfl
  rw [<- eg,this]
  rfl
 | cons g2 r2=>
  rw [hd,e] at s
  have:g=g2:=by cases s;rfl
  exact ⟨g2,r2 ++ [f],rfl,by rw [<- this];exact eg⟩
theorem Yf4 {y:Run} {f g:Frm} (h:∀f ∈ y.t.fr,WT8 f) (hf:WT8 f) (hg:g ∈ (y.setF f).t.fr):WT8 g:=by
 have hg:g ∈ y.t.fr.dropLast ++ [f]:=hg
 rcases List.mem_append.1 hg with h1 | h1
 ·exact h g (List.dropLast_subset _ h1)
 ·rw [List.mem_singleton.1 h1];exact hf
theorem YN9 {y:Run} {j:Int} {r:List Int} {g:Frm} (h:∀f ∈ y.t.fr,WT8 f) (hj:¬ Ans j) (hg:g ∈ (y.push j r).t.fr):WT8 g:=by
 have hg:g ∈ y.t.fr ++ [⟨j,0,pad 10 r⟩]:=hg
 rcases List.mem_append.1 hg with h1 | h1
 ·exact h g h1
 ·rw [List.mem_singleton.1 h1];exact YX1 hj
theorem Yf5 {t:Thr} (h:t.fr≠[]):t.top ∈ t.fr:=by
 have e:t.top=t.fr.getLast h:=by
  show t.fr.getLast?.getD dfF=_
  rw [List.getLast?_eq_some_getLast h]
  rfl
 rw [e]
 exact List.getLast_mem h
theorem Frs.same {x y z:Run} {q:Bool} (h:Frs x y q) (e:z.t.fr=y.t.fr):Frs x z q:=by
 have ef:z.f=y.f:=by show z.t.fr.getLast?.getD dfF=y.t.fr.getLast?.getD dfF;rw [e]
 exact ⟨by rw [e];exact h.a,by rw [e];exact h.b,by rw [e,ef];exact h.c⟩
theorem Frs.set {x y:Run} {f:Frm} (h:Frs x y false) (hf:WT8 f) (e1:f.fn=y.f.fn) (e2:Ans x.f.fn->f.pc≠90):Frs x (y.setF f) false:=by
 obtain ⟨c1,c2,c3,c4⟩:=h.c rfl
 refine ⟨λg hg=>Yf4 h.a hf hg,λfn ha hb=>(h.b fn ha hb).top c1 e1,λ_=>⟨Wn1 _ _,?_,?_,?_⟩⟩
 ·show (y.t.fr.dropLast ++ [f]).dropLast=_
  rw [List.dropLast_append_of_ne_nil (by simp)]
  simpa using c2
 ·rw [WY5,e1];exact c3
 ·rw [WY5];exact e2
theorem Frs.push {x y:Run} {q:Bool} {j:Int} {r:List Int} (ha:∀f ∈ y.t.fr,WT8 f) (hb:∀fn,Ans fn->Bot fn x.t.fr->Bot fn y.t.fr) (hj:¬ Ans j):Frs x (y.push j r) true:=
 ⟨λg hg=>YN9 ha hj hg,λfn a b=>(hb fn a b).app,λe=>by cases e⟩
theorem Frs.topFit {x y:Run} (h:Frs x y false):WT8 y.f:=h.a _ (Yf5 (h.c rfl).1)
theorem Mod.On.frs {x y:Run} {b q:Bool} (h:On x b q y) (hne:x.t.fr≠[]) (hA:∀f ∈ x.t.fr,WT8 f) (hp:Ans x.f.fn->x.f.pc≠90):Frs x y q:=by
 induction h with
 | refl=>exact ⟨hA,λ_ _ h=>h,λ_=>⟨hne,rfl,rfl,hp⟩⟩
 | load _ ih=>exact ih.same rfl
 | store _ ha ih=>exact ih.same rfl
 | own _ ih=>exact ih.same rfl
 | cas _ ha ih=>exact ih.same rfl
 | add _ ha ih=>exact ih.same rfl
 | dcas _ ha hb ih=>exact ih.same rfl
 | dcss _ ha hb ih=>exact ih.same rfl
 | next _ ih=>exact ih.same rfl
 | lvl _ ih=>exact ih.same rfl
 | gh _ ih=>exact ih.same rfl
 | fo _ ih=>exact ih.same rfl
 | re _ ih=>exact ih.same rfl
 | setPl _ ih=>exact ih.same rfl
 | @s _ y i v _ ih=>
  have c4:=(ih.c rfl).2.2.2
  have c3:=(ih.c rfl).2.2.1
  refine ih.set (f:=y.f.s i v) ⟨by rw [Ym2];exact ih.topFit.len,λh1 h2=>?_⟩ rfl c4
  exact absurd h2 (c4 (by rw [<- c3];exact h1))
 | @pc _ y i _ hi ih=>
  have c3:=(ih.c rfl).2.2.1
  refine ih.set (f:=y.f.at i) ⟨ih.topFit.len,λh1 h2=>?_⟩ rfl hi
  exact absurd h2 (hi (by rw [<- c3];exact h1))
 | @call _ y i j r _ hi hj ih=>
  have c3:=(ih.c rfl).2.2.1
  have:=ih.set (f:=y.f.at i) ⟨ih.topFit.len,λh1 h2=>absurd h2 (hi (by rw [<- c3];exact h1))⟩ rfl hi
  exact Frs.push (q:=true) this.a this.b hj
 | @fin _ y i j k _ hf ih=>
  obtain ⟨c1,c2,c3,c4⟩:=ih.c rfl
  have l0:=ih.topFit.len
  have e:y.fin i j k=(y.setF ((((y.f.s 7 i).s 8 j).s 9 k).at 90)).push 4 []:=by
   unfold Run.fin Run.call Run.pc
   rw [f_s,f_s,f_s]
   unfold Run.s Run.setF Thr.setTop
   simp
  rw [e]
  have l1:(y.f.s 7 i).r.length=10:=by rw [Ym2];exact l0
  have l2:((y.f.s 7 i).s 8 j).r.length=10:=by rw [Ym2];exact l1
  have g9:(((y.f.s 7 i).s 8 j).s 9 k).g 9=k:=g_s l2 (by decide) k
  have g8:(((y.f.s 7 i).s 8 j).s 9 k).g 8=j:=(Wc9 _ (by decide) k).trans (g_s l1 (by decide) j)
  have g7:(((y.f.s 7 i).s 8 j).s 9 k).g 7=i:=((Wc9 _ (by decide) k).trans (Wc9 _ (by decide) j)).trans (g_s l0 (by decide) i)
  refine Frs.push (q:=true) (λg hg=>Yf4 ih.a ⟨by rw [Yz3,Ym2];exact l2,λh1 _=>?_⟩ hg) (λfn a b=>(ih.b fn a b).top c1 rfl) (by unfold Ans;omega)
  have h2:Ans x.f.fn:=by rw [<- c3];exact h1
  show Fit y.f.fn ((((y.f.s 7 i).s 8 j).s 9 k).g 7) ((((y.f.s 7 i).s 8 j).s 9 k).g 8) ((((y.f.s 7 i).s 8 j).s 9 k).g 9)
  rw [g7,g8,g9,c3]
  exact hf h2
 | @pop _ y r _ hn ih=>
  obtain ⟨c1,c2,c3,c4⟩:=ih.c rfl
  have e:(y.pop r).t.fr=y.t.fr.dropLast:=by
   show (y.t.pop r).fr=_
   unfold Thr.pop
   rw [if_neg c1]
  refine ⟨λg hg=>ih.a g (List.dropLast_subset _ (by rw [<- e];exact hg)),λfn a hb=>?_,λe=>by cases e⟩
  rw [e,c2]
  obtain ⟨f,l,e1,e2⟩:=hb
  cases l with
  | nil=>
   exfalso
   have:x.f=f:=by show x.t.fr.getLast?.getD dfF=f;rw [e1];rfl
   rw [this,e2] at hn
   exact hn a
  | cons g l=>exact ⟨f,(g :: l).dropLast,by rw [e1];rfl,e2⟩
 | push _ hj ih=>exact Frs.push (q:=true) ih.a ih.b hj
theorem Zb2 (a b c:Int):pad 3 [a,b,c] = [a,b,c]:=rfl
theorem Mod.Bit.frs {x y:Run} (h:Bit x y) (hne:x.t.fr≠[]) (hA:∀f ∈ x.t.fr,WT8 f) :
  (∀f ∈ y.t.fr,WT8 f)/\∀fn,Ans fn->Bot fn x.t.fr->Bot fn y.t.fr\/y.t.fr = []/\Fit fn (y.t.ret.getD 0 0) (y.t.ret.getD 1 0) (y.t.ret.getD 2 0):=by
 rcases h with ⟨h1,h2,rfl⟩ | ⟨h1,b,q,h2⟩
 ·have e:(x.pop [x.f.g 7,x.f.g 8,x.f.g 9]).t = { x.t with fr:=x.t.fr.dropLast,ret:=[x.f.g 7,x.f.g 8,x.f.g 9] }:=by
   show x.t.pop _=_
   unfold Thr.pop
   rw [if_neg hne,Zb2]
  rw [e]
  refine ⟨λf hf=>hA f (List.dropLast_subset _ hf),λfn ha hb=>?_⟩
  obtain ⟨f,l,e1,e2⟩:=hb
  cases l with
  | nil=>
   have e3:x.f=f:=by show x.t.fr.getLast?.getD dfF=f;rw [e1];rfl
   have:=(hA _ (Yf5 hne)).a h1 h2
   rw [show x.t.top=f from e3,e2] at this
   refine .inr ⟨by show x.t.fr.dropLast = [];rw [e1];rfl,?_⟩
   show Fit fn (x.f.g 7) (x.f.g 8) (x.f.g 9)
   rw [e3]
   exact this
  | cons g l=>exact .inl ⟨f,(g :: l).dropLast,by show x.t.fr.dropLast=_;rw [e1];rfl,e2⟩
 ·have f:=h2.frs hne hA h1
  exact ⟨f.a,λfn a b=>.inl (f.b fn a b)⟩
theorem Mod.Bit.mm {x y:Run} (h:Bit x y):Mo1 x y false\/Mo1 x y true:=by
 rcases h with ⟨h1,h2,rfl⟩ | ⟨h1,b,q,h2⟩
 ·exact .inl ⟨λ_=>⟨rfl,rfl⟩,λe=>by cases e⟩
 ·cases b
  ·exact .inl h2.mm
  ·exact .inr h2.mm
def Yn9 (d:Run->Run) (Q:Mod.Cf->Frm->Prop):Prop:=∀c x,AllF (Q c) x->x.t.fr≠[]->Bit x (d x)
theorem YB6:Yn9 Wg0 MoQ:=λc x h hne=>by
 refine W89 ?_ hne
 have o:Ws1 _ _ x.f:=h.top hne
 unfold Ws1 Wz1 at o
 omega
section
variable {d:Run->Run} {Q:Mod.Cf->Frm->Prop} {W:Run->Prop} {ins:Int} {c:Mod.Cf}
theorem Wz2 {x z:Run} {n:Nat} (h:Mod.bits d n x=some z) (hs:x.m.acted=true\/x.t.fr = []):z=x:=by
 have e:(x.m.acted || x.t.fr.isEmpty)=true:=by
  rcases hs with h | h <;> simp [h]
 cases n <;> (unfold Mod.bits at h;rw [if_pos e] at h;cases h;rfl)
structure Stp (p:Pl) (x z:Run):Prop where
 one:One p x.id x.m.mm z.m.mm
 all:∀f ∈ z.t.fr,WT8 f
 bot:∀fn,Ans fn->Bot fn x.t.fr->Bot fn z.t.fr\/z.t.fr = []/\Fit fn (z.t.ret.getD 0 0) (z.t.ret.getD 1 0) (z.t.ret.getD 2 0)
theorem Yf6 (D:YD8 d Q W ins) (hB:Yn9 d Q) (hc:okC c=true):∀(n:Nat) (x z:Run),Mod.bits d n x=some z->x.m.acted=false->AllF (Q c) x->x.m.p=Wb6 c->(∀f ∈ x.t.fr,WT8 f)->Stp (Wb6 c) x z
 | 0,x,z,h,ha,hQ,hp,hF=>by
  have hs:x.t.fr = []:=by
   unfold Mod.bits at h
   split at h
   ·rename_i c;rw [ha] at c;simpa using c
   ·cases h
  have:=Wz2 h (.inr hs)
  subst this
  exact ⟨One.refl _ _ _,hF,λ_ _ h=>.inl h⟩
 | n+1,x,z,h,ha,hQ,hp,hF=>by
  by_cases hs:x.t.fr = []
  ·have:=Wz2 h (.inr hs)
   subst this
   exact ⟨One.refl _ _ _,hF,λ_ _ h=>.inl h⟩
  have h:Mod.bits d n (d x)=some z:=by
   unfold Mod.bits at h
   rwa [if_neg (by rw [ha];simpa using hs)] at h
  have b:=hB c x hQ hs
  have f:=b.frs hs hF
  have fx:=(D.st x).fix
  have Q2:=D.all c x hc hp hs hQ
  by_cases hac:(d x).m.acted=true
  ·have:=Wz2 h (.inl hac)
   subst this
   refine ⟨?_,f.1,f.2⟩
   rcases b.mm with m | m
   ·rw [(m.f rfl).2,ha] at hac;cases hac
   ·have:=(m.t rfl).2;rwa [hp] at this
  ·have hac:(d x).m.acted=false:=by simpa using hac
   have em:(d x).m.mm=x.m.mm:=by
    rcases b.mm with m | m
    ·exact (m.f rfl).1
    ·rw [(m.t rfl).1] at hac;cases hac
   have ih:=Yf6 D hB hc n (d x) z h hac Q2 (fx.p.trans hp) f.1
   refine ⟨by have:=ih.one;rwa [fx.id,em] at this,ih.all,λfn a b1=>?_⟩
   rcases f.2 fn a b1 with b2 | ⟨b2,b3⟩
   ·exact ih.bot fn a b2
   ·have:=Wz2 h (.inr b2)
    subst this
    exact .inr ⟨b2,b3⟩
theorem Yf7 (D:YD8 d Q W ins) (hB:Yn9 d Q) {i n k:Nat} {m:Mac} {t:Thr} {z:Run} (h:MacOk Q c i m) (ht:m.th[k]? = some t) (hF:∀f ∈ t.fr,WT8 f) (hz:Mod.bits d n ⟨m.quiet,t,k⟩=some z):Stp (Wb6 c) ⟨m.quiet,t,k⟩ z:=
 Yf6 D hB h.ok n _ z hz rfl ⟨(h.t t (List.mem_of_getElem? ht)).q⟩ h.p hF
end
end
section
set_option maxHeartbeats 1000000
open Mod
section
variable {d:Run->Run} {Q:Mod.Cf->Frm->Prop} {W:Run->Prop} {ins:Int} {c:Mod.Cf} {calls:List (List Cl)} {s:RnSt} {Inv:Nat->Mac->Prop}
theorem Y34 {l:List Int} {k:Nat} (hk:k < calls.length) (hq:(l.getD k 0).toNat < (calls.getD k []).length) (hn:∀k,k < calls.length->0<=l.getD k 0/\l.getD k 0<=(calls.getD k []).length):∀k',k' < calls.length->0<=(l.set k (l.getD k 0+1)).getD k' 0/\(l.set k (l.getD k 0+1)).getD k' 0<=(calls.getD k' []).length:=by
 intro k' hk'
 have:=hn k' hk'
 by_cases ek:k=k'
 ·subst ek
  rw [List.getD_eq_getElem?_getD (l:=l.set k _),List.getElem?_set]
  split
  ·split
   ·simp only [Option.getD_some];omega
   ·simp only [Option.getD_none];omega
  ·rename_i hh;exact absurd rfl hh
 ·rw [List.getD_eq_getElem?_getD,List.getElem?_set_ne ek,<- List.getD_eq_getElem?_getD]
  exact this
end
end
end Go.Proofs.YtahpbclnkofhfaaGreat
section
namespace Go.Proofs.YtahpbclnkofhfaaGreat.Mod
section
variable (x:Run)
end
end Go.Proofs.YtahpbclnkofhfaaGreat.Mod
end
namespace Go.Proofs.YtahpbclnkofhfaaGreat
section
set_option maxHeartbeats 1000000
open Mod
def Mod.Pl.whr (p:Pl) (a:Int):Int × Int × Int:=
 if a < 0\/p.size<=a then (5,0,0) else if a < p.hazards then (0,a,0) else if a < p.links then (1,(a - p.hazards) / p.slots,(a - p.hazards) % p.slots)
 else if a < p.nodes then (2,a - p.links+1,0) else if a < p.tree then (3,(a - p.nodes) / p.width+1,(a - p.nodes) % p.width) else (4,a - p.tree,0)
structure TSt where
 th:Int
 kind:Int
 done:Bool
 w1:Int × Int × Int
 w2:Int × Int × Int
def tsc (x:TSt):List Value:=[iQ x.th,iQ x.kind,.bool x.done,iQ x.w1.1,iQ x.w1.2.1,iQ x.w1.2.2,iQ x.w2.1,iQ x.w2.2.1,iQ x.w2.2.2]
theorem Wt8 (x:TSt):(tsc x).length=9:=rfl
def Wi7 (p:Pl) (k:Int) (a:Acc):TSt:=⟨k,a.kind,a.done,p.whr a.a,p.whr a.b⟩
structure TrS where
 m:Mac
 nx:List Int
 l:List TSt
def TrS.note (s:TrS) (k:Int):TrS:={ s with l:=s.l ++ (s.m.mm.lg.drop s.l.length).map (Wi7 s.m.p k) }
def TrS.enter (ins:Int) (calls:List (List Cl)) (s:TrS) (k:Nat):Option TrS:=
 if (We2 s.m k).fr = [] then
  if (calls.getD k []).length<=(s.nx.getD k 0).toNat then none
  else some { s with m:=s.m.setTh (s.m.th.set k ((We2 s.m k).push (ins+((calls.getD k []).getD (s.nx.getD k 0).toNat cl0).op) [((calls.getD k []).getD (s.nx.getD k 0).toNat cl0).key,((calls.getD k []).getD (s.nx.getD k 0).toNat cl0).val])),nx:=s.nx.set k (s.nx.getD k 0+1) }
 else some s
noncomputable def TrS.go (d:Run->Run) (s:TrS) (k:Nat):TrS:={ s with m:=(Wq2 d ⟨s.m.quiet,We2 s.m k,k⟩).m.setTh (s.m.th.set k (Wq2 d ⟨s.m.quiet,We2 s.m k,k⟩).t) }
noncomputable def TrS.pick (d:Run->Run) (ins:Int) (calls:List (List Cl)) (s:TrS) (k:Int):TrS:=match s.enter ins calls k.toNat with
 | none=>s
 | some s1=>s1.go d k.toNat
noncomputable def YB7 (d:Run->Run) (ins:Int) (calls:List (List Cl)) (m:Mac) (Wc6:List Int):TrS:=Wc6.foldl (λs k=>(s.pick d ins calls k).note k) ⟨m,List.replicate calls.length 0,[]⟩
structure TrOk (Inv:Nat->Mac->Prop) (calls:List (List Cl)) (j:Nat) (s:TrS):Prop where
 inv:Inv j s.m
 th:s.m.th.length=calls.length
 nx:∀k,k < calls.length->0<=s.nx.getD k 0/\s.nx.getD k 0<=(calls.getD k []).length
def Zb3 (p:Pl) (n:Nat) (x:TSt):Prop:=∃e,YB5 p x.th n e/\x=Wi7 p x.th e
structure TrFit (c:Mod.Cf) (s:TrS):Prop where
 all:∀(k:Nat) t,s.m.th[k]? = some t->∀f ∈ t.fr,WT8 f
 wt:s.m.mm.wt=true
 lg:s.m.mm.lg.length=s.l.length
 en:∀x ∈ s.l,Zb3 (Wb6 c) (Wb6 c).size.toNat x
section
variable {d:Run->Run} {Q:Mod.Cf->Frm->Prop} {W:Run->Prop} {ins:Int} {c:Mod.Cf} {calls:List (List Cl)} {s:TrS}
structure YX2 (calls:List (List Cl)) (Inv:Nat->Mac->Prop) (j k:Nat) (s s1:TrS):Prop where
 inv:Inv j s1.m
 th:s1.m.th.length=calls.length
 nx:∀k,k < calls.length->0<=s1.nx.getD k 0/\s1.nx.getD k 0<=(calls.getD k []).length
 l:s1.l=s.l
 mm:s1.m.mm=s.m.mm
 ne:(We2 s1.m k).fr≠[]
 all:∀(k:Nat) t,s1.m.th[k]? = some t->∀f ∈ t.fr,WT8 f
theorem Y35 {Inv:Nat->Mac->Prop} (G:YJ3 d W ins Inv) (C:WK2 calls) {j k:Nat} (hk:k < calls.length) (O:TrOk Inv calls j s) (F:TrFit c s) :
  s.pick d ins calls k=s\/∃s1,s.pick d ins calls k=s1.go d k/\YX2 calls Inv j k s s1:=by
 have hk2:k < s.m.th.length:=by rw [O.th];exact hk
 have ht:=Wi5 hk2
 unfold TrS.pick TrS.enter
 rw [Int.toNat_natCast]
 by_cases he:(We2 s.m k).fr = []
 ·rw [if_pos he]
  by_cases hlt:(calls.getD k []).length<=(s.nx.getD k 0).toNat
  ·rw [if_pos hlt]
   exact .inl rfl
  rw [if_neg hlt]
  refine .inr ⟨_,rfl,?_⟩
  have hmem:calls.getD k [] ∈ calls:=by
   have:calls.getD k []=calls[k]:=by rw [List.getD_eq_getElem?_getD,List.getElem?_eq_getElem hk];rfl
   rw [this];exact List.getElem_mem hk
  have hqlt:(s.nx.getD k 0).toNat < (calls.getD k []).length:=by omega
  have hcq:(calls.getD k []).getD (s.nx.getD k 0).toNat cl0=(calls.getD k [])[(s.nx.getD k 0).toNat]:=by rw [List.getD_eq_getElem?_getD,List.getElem?_eq_getElem hqlt];rfl
  have hcB:=(C.cl _ hmem).2 _ (List.getElem_mem hqlt)
  rw [<- hcq] at hcB
  generalize (calls.getD k []).getD (s.nx.getD k 0).toNat cl0=cq at *
  refine ⟨G.push j s.m k _ cq O.inv ht he (YA1 hcB.1) hcB.2.1 hcB.2.2,?_,Y34 hk hqlt O.nx,rfl,rfl,?_,?_⟩
  ·show (s.m.th.set k _).length=_
   rw [List.length_set];exact O.th
  ·show (We2 (s.m.setTh _) k).fr≠[]
   rw [WK0 hk2]
   unfold Mod.Thr.push
   simp
  ·intro k' t h f hf
   have h:(s.m.th.set k ((We2 s.m k).push (ins+cq.op) [cq.key,cq.val]))[k']? = some t:=h
   rw [List.getElem?_set] at h
   split at h
   ·try rw [if_pos (by omega)] at h
    have h:=Option.some.inj h
    subst h
    have hf:f ∈ (We2 s.m k).fr ++ [⟨ins+cq.op,0,pad 10 [cq.key,cq.val]⟩]:=hf
    rw [he] at hf
    rw [List.mem_singleton.1 hf]
    exact ⟨Ww6 _ _,λ_ h=>by cases h⟩
   ·exact F.all k' t h f hf
 ·rw [if_neg he]
  exact .inr ⟨s,rfl,O.inv,O.th,O.nx,rfl,rfl,he,F.all⟩
structure TrR (c:Mod.Cf) (k:Int) (s t:TrS):Prop where
 a:t.l=s.l/\t.m.mm.st=s.m.mm.st\/t.m.mm.st=s.m.mm.st+1/\∃e,YB5 (Wb6 c) k (Wb6 c).size.toNat e/\t.l=s.l ++ [Wi7 (Wb6 c) k e]
theorem YX3 (D:YD8 d Q W ins) (hB:Yn9 d Q) (C:WK2 calls) {j k:Nat} (hk:k < calls.length) (hj:j < 100000) (O:TrOk (MacOk Q c) calls j s) (F:TrFit c s) :
  TrOk (MacOk Q c) calls (j+1) ((s.pick d ins calls k).note k)/\TrFit c ((s.pick d ins calls k).note k)/\TrR c k s ((s.pick d ins calls k).note k):=by
 have G:=MacOk.good (c:=c) D
 have hno:s.note k=s:=by
  unfold TrS.note
  rw [List.drop_eq_nil_of_le (by rw [F.lg];exact Nat.le_refl _),List.map_nil,List.append_nil]
 rcases Y35 G C hk O F with e | ⟨s1,e,B⟩
 ·rw [e,hno]
  exact ⟨⟨G.mono _ _ O.inv,O.th,O.nx⟩,F,⟨.inl ⟨rfl,rfl⟩⟩⟩
 rw [e]
 have hk3:k < s1.m.th.length:=by rw [B.th];exact hk
 have ht:=Wi5 hk3
 obtain ⟨nn,z,hz,_,_,hzt,hI2⟩:=G.step j s1.m k _ B.inv hj ht B.ne
 have hzs:Wq2 d ⟨s1.m.quiet,We2 s1.m k,k⟩=z:=WE8 hz
 have S:=Yf7 D hB B.inv ht (B.all k _ ht) hz
 have o:=S.one
 have e2:(⟨s1.m.quiet,We2 s1.m k,(k:Int)⟩ : Run).m.mm=s.m.mm:=B.mm
 rw [e2] at o
 have hw:(s.m.mm.w.length:Int)=(Wb6 c).size:=O.inv.w
 have hwn:s.m.mm.w.length=(Wb6 c).size.toNat:=by omega
 have hp:z.m.p=Wb6 c:=hI2.p
 have hgo:s1.go d k = { s1 with m:=z.m.setTh (s1.m.th.set k z.t) }:=by
  unfold TrS.go
  rw [hzs]
 have hall:∀(k':Nat) t,(s1.m.th.set k z.t)[k']? = some t->∀f ∈ t.fr,WT8 f:=by
  intro k' t h
  rw [List.getElem?_set] at h
  split at h
  ·try rw [if_pos (by omega)] at h
   have h:=Option.some.inj h
   subst h
   exact S.all
  ·exact B.all k' t h
 have ht2:(s1.m.th.set k z.t).length=calls.length:=by rw [List.length_set];exact B.th
 rw [hgo]
 refine ⟨⟨hI2,ht2,B.nx⟩,?_⟩
 rcases o.st with ⟨q1,q2⟩ | ⟨q1,a,q2,q3⟩
 ·have en:(TrS.note { s1 with m:=z.m.setTh (s1.m.th.set k z.t) } k).l=s.l:=by
   show s1.l ++ (z.m.mm.lg.drop s1.l.length).map _=_
   rw [B.l,q2,List.drop_eq_nil_of_le (by rw [F.lg];exact Nat.le_refl _),List.map_nil,List.append_nil]
  refine ⟨⟨hall,o.wt.trans F.wt,?_,?_⟩,⟨.inl ⟨en,q1⟩⟩⟩
  ·rw [en]
   show z.m.mm.lg.length=_
   rw [q2];exact F.lg
  ·rw [en];exact F.en
 ·rw [hwn] at q2
  rw [F.wt,if_pos rfl] at q3
  have en:(TrS.note { s1 with m:=z.m.setTh (s1.m.th.set k z.t) } k).l=s.l ++ [Wi7 (Wb6 c) k a]:=by
   show s1.l ++ (z.m.mm.lg.drop s1.l.length).map (Wi7 z.m.p k)=_
   rw [B.l,q3,hp,<- F.lg,List.drop_left]
   rfl
  refine ⟨⟨hall,o.wt.trans F.wt,?_,?_⟩,⟨.inr ⟨q1,a,q2,en⟩⟩⟩
  ·rw [en]
   show z.m.mm.lg.length=_
   rw [q3,List.length_append,List.length_append,F.lg]
   rfl
  ·rw [en]
   intro x hx
   rcases List.mem_append.1 hx with h | h
   ·exact F.en x h
   ·rw [List.mem_singleton.1 h]
    exact ⟨a,q2,rfl⟩
end
end
section
set_option maxRecDepth 100000
def F38 (K:kQ) (h:Wa1) (xa:Option Addr) (xb:Bool):Prop:=
 (ifB (!(Option.isNone xa)) (nP xa λa=>stH h (Addr.add a 2) (.bool xb) λa=>K (.tuple #[]) a) (K (.tuple #[]) h))
theorem call38 {K:kQ} {h:Wa1} {xa:Option Addr} {xb:Bool} (H:F38 K h xa xb):Wa4 Tryz.prog 38 #[(.pointer xa),(.bool xb)] h K:=
 cQ Tryz.func38 H
def F78 (K:kQ) (h:Wa1) (xa:Option Addr):Prop:=
 (ifB (Option.isNone xa) (K (.slice none 0 0) h) (nP xa λa=>lS h (Addr.add a 3) λa b c=>cf 131 #[.slice a b c] h λa b=>Wb3 a λa c d=>K (.slice a c d) b))
theorem call78 {K:kQ} {h:Wa1} {xa:Option Addr} (H:F78 K h xa):Wa4 Tryz.prog 78 #[(.pointer xa)] h K:=
 cQ Tryz.func78 H
end
section
set_option maxHeartbeats 1000000
open Mod
theorem Yo0 {K:kQ} {h:Wa1} {p:Pl} {a:Int} (B:PlB p) (ha:iN a) (k:∀h',Old h.size h h'->K (.tuple #[iQ (p.whr a).1,iQ (p.whr a).2.1,iQ (p.whr a).2.2]) h'):Wa4 Tryz.prog 80 #[plV p,iQ a] h K:=by
 refine call80 ?_
 unfold F80 g80 lI
 have b0:=B.sl
 have b1:=B.wi
 have b2:=B.hz
 have b3:=B.tr
 have b4:=B.nd
 have b5:=B.li
 have b6:=B.si
 unfold Mod.Pl.whr at k
 rw [WH8]
 have p1:=We4 h (plc p).toArray 117
 generalize h.push (.cells (plc p).toArray 117)=h1 at *
 have o1:=p1.toOld
 refine ⟨λvs h'=>(∃w,vs = [.bool (decide (a < 0) || decide (a >= p.size)),w])/\h' = h1,?_,?_⟩
 ·refine Wa7 (λq=>⟨⟨_,by rw [decide_eq_true q];rfl⟩,by trivial⟩) (λq=>?_)
  refine ldR p1.new rfl ?_
  simp only [Wa2]
  exact ⟨⟨_,by rw [decide_eq_false q,Bool.false_or]⟩,by trivial⟩
 rintro v3 v4 g5 h6 ⟨⟨_,e⟩,rfl⟩
 cases e
 simp only [Wa6]
 refine Wb7 (λq=>?_) (λq=>?_)
 ·rw [Bool.or_eq_true,decide_eq_true_eq,decide_eq_true_eq] at q
  rw [if_pos (by omega)] at k
  exact k _ o1
 rw [Bool.or_eq_false_iff,decide_eq_false_iff_not,decide_eq_false_iff_not] at q
 rw [if_neg (by omega)] at k
 refine ldR p1.new rfl ?_
 simp only [Wa2]
 refine Wa7 (λq1=>?_) (λq1=>?_)
 ·rw [if_pos (by omega)] at k
  exact k _ o1
 rw [if_neg (by omega)] at k
 refine ldR p1.new rfl ?_
 simp only [Wa2]
 refine Wa7 (λq2=>?_) (λq2=>?_)
 ·rw [if_pos q2] at k
  refine ldR p1.new rfl ?_
  simp only [Wa2]
  refine ldR p1.new rfl ?_
  simp only [Wa2]
  refine ⟨by omega,ldR p1.new rfl ?_⟩
  simp only [Wa2]
  refine ldR p1.new rfl ?_
  simp only [Wa2]
  refine ⟨by omega,?_⟩
  have hd0:0<=(a - p.hazards) / p.slots:=Int.ediv_nonneg (by omega) (by omega)
  have hd1:(a - p.hazards) / p.slots<=a - p.hazards:=Int.ediv_le_self _ (by omega)
  rw [Wb2 (n:=a - p.hazards) (by omega) (by omega),Int.tdiv_eq_ediv_of_nonneg (by omega),Wb2 (n:=(a - p.hazards) / p.slots) (by omega) (by omega),Int.tmod_eq_emod_of_nonneg (by omega)]
  exact k _ o1
 rw [if_neg q2] at k
 refine ldR p1.new rfl ?_
 simp only [Wa2]
 refine Wa7 (λq3=>?_) (λq3=>?_)
 ·rw [if_pos q3] at k
  refine ldR p1.new rfl ?_
  simp only [Wa2]
  rw [Wb2 (n:=a - p.links) (by omega) (by omega),Wb2 (n:=a - p.links+1) (by omega) (by omega)]
  exact k _ o1
 rw [if_neg q3] at k
 refine ldR p1.new rfl ?_
 simp only [Wa2]
 refine Wa7 (λq4=>?_) (λq4=>?_)
 ·rw [if_pos q4] at k
  refine ldR p1.new rfl ?_
  simp only [Wa2]
  refine ldR p1.new rfl ?_
  simp only [Wa2]
  refine ⟨by omega,ldR p1.new rfl ?_⟩
  simp only [Wa2]
  refine ldR p1.new rfl ?_
  simp only [Wa2]
  refine ⟨by omega,?_⟩
  have hd0:0<=(a - p.nodes) / p.width:=Int.ediv_nonneg (by omega) (by omega)
  have hd1:(a - p.nodes) / p.width<=a - p.nodes:=Int.ediv_le_self _ (by omega)
  rw [Wb2 (n:=a - p.nodes) (by omega) (by omega),Int.tdiv_eq_ediv_of_nonneg (by omega),Wb2 (n:=(a - p.nodes) / p.width) (by omega) (by omega),Wb2 (n:=(a - p.nodes) / p.width+1) (by omega) (by omega),Int.tmod_eq_emod_of_nonneg (by omega)]
  exact k _ o1
 ·rw [if_neg q4] at k
  refine ldR p1.new rfl ?_
  simp only [Wa2]
  rw [Wb2 (by omega) (by omega)]
  exact k _ o1
abbrev trC (X:RX) (la:Option Addr) (ln lc:Nat):List Value:=[mP X.Q,iQ X.c.algo,iQ X.c.threads,iQ X.c.nodes,iQ X.c.level,iQ X.c.batch,iQ X.c.probes,iQ X.c.scan,.slice X.ca X.cl X.cc,.slice X.pa X.pl X.pc,.slice X.da X.dl X.dc,.slice (some ⟨X.NB,0,none⟩) X.n X.n,.slice la ln lc]
def trS (X:RX) (s:TrS):Hp:=ex λla=>ex λlc=>pr (s.nx.length=X.n)
 (pt X.RB (.cells (trC X la s.l.length lc).toArray 89)*(Wf2 51 9 la s.l.length lc (s.l.flatMap tsc)*(pt X.NB (.cells (s.nx.map iv).toArray 3)*suS X.Q X.M X.f X.ins X.Ts s.m)))
theorem Wp4 {h:Wa1} {X:RX} {s:TrS} {R:Hp}:Sat h (trS X s*R)↔∃la lc,s.nx.length=X.n /\
  Sat h (pt X.RB (.cells (trC X la s.l.length lc).toArray 89)*(Wf2 51 9 la s.l.length lc (s.l.flatMap tsc)*(pt X.NB (.cells (s.nx.map iv).toArray 3)*(suS X.Q X.M X.f X.ins X.Ts s.m*R)))):=by
 unfold trS
 simp only [Sat.ex,Sat.pr,Wc4]
theorem YB8:und Tryz.prog 47=.slice 51:=by kernel_rfl
theorem Yf8:We9 Tryz.prog 51=true:=by kernel_rfl
theorem YB9:zer Tryz.prog 51=some (.agg #[iQ 0,iQ 0,.bool false,iQ 0,iQ 0,iQ 0,iQ 0,iQ 0,iQ 0]):=by kernel_rfl
theorem Ww0:siz Tryz.prog 51=9:=by kernel_rfl
theorem Yf9:byt Tryz.prog 51=72:=by kernel_rfl
theorem Y36:und Tryz.prog 124=.slice 144:=by kernel_rfl
theorem YO0:We9 Tryz.prog 144=true:=by kernel_rfl
theorem Y37:zer Tryz.prog 144=some (.agg #[iQ 0,iQ 0,iQ 0,.bool false]):=by kernel_rfl
theorem YC0:siz Tryz.prog 144=4:=by kernel_rfl
theorem YQ9:byt Tryz.prog 144=32:=by kernel_rfl
section
variable {K:kQ} {h:Wa1} {X:RX} {s:TrS} {R:Hp} {calls:List (List Cl)} {Wc6:List Int}
theorem YR0 (H:Sat h (trS X s*R)) {k:Nat} (hk:k < X.n):Wa3 h ⟨X.NB,k,none⟩=some (iQ (s.nx.getD k 0)):=by
 obtain ⟨la,lc,hl,H1⟩:=Wp4.1 H
 have hk2:k < s.nx.length:=by omega
 rw [Wb4 (H1.drop.drop).at]
 simp [hk2,iv]
theorem YO1 (H:Sat h (trS X s*R)) {k:Nat} (hk:k < X.n) {v:Int} {F:Wa1->Prop} (kk:∀h',Sat h' (trS X { s with nx:=s.nx.set k v }*R)->F h'):stH h ⟨X.NB,k,none⟩ (iQ v) F:=by
 obtain ⟨la,lc,hl,H1⟩:=Wp4.1 H
 have hk2:k < s.nx.length:=by omega
 rw [YD5] at H1
 refine WX7 (row:=s.nx.map iv) (i:=k) H1 (by simpa using hk2) trivial λh' H'=>kk h' ?_
 have e:(s.nx.map iv).set k (iQ v)=(s.nx.set k v).map iv:=by rw [List.map_set];try rfl
 rw [e,<- YD5] at H'
 exact Wp4.2 ⟨la,lc,by simp [hl],H'⟩
theorem WK3 (H:Sat h (trS X s*R)):∃la lc,h[X.RB]? = some (.cells (trC X la s.l.length lc).toArray 89):=by
 obtain ⟨la,lc,hl,H1⟩:=Wp4.1 H
 exact ⟨la,lc,H1.at⟩
theorem Yg0 (H:Sat h (trS X s*R)):∃Q':Hp,Sat h (suS X.Q X.M X.f X.ins X.Ts s.m*(Q' * R))/\∀h' m' P,Sat h' (suS X.Q X.M X.f X.ins X.Ts m' * (Q' * P))->Sat h' (trS X { s with m:=m' }*P):=by
 obtain ⟨la,lc,hl,H1⟩:=Wp4.1 H
 refine ⟨pt X.RB (.cells (trC X la s.l.length lc).toArray 89)*(Wf2 51 9 la s.l.length lc (s.l.flatMap tsc)*pt X.NB (.cells (s.nx.map iv).toArray 3)),Sat.ac H1 (by ac_rfl),λh' m' P H'=>?_⟩
 exact Wp4.2 ⟨la,lc,hl,Sat.ac H' (by ac_rfl)⟩
theorem W10 {a:Option Addr} {n c:Nat} {lg:List Acc} (hs:Sees h a (lg.flatMap WM4)) (hn:lg.length=n) (h0:a=none->n=0) (hb:n<=1000000) (k:∀h' a' c',Old h.size h h'->(∀P:Hp,Sat h P->Sat h' (Wf2 144 4 a' n c' (lg.flatMap WM4)*P))->K (.slice a' n c') h') :
  Wa4 Tryz.prog 131 #[.slice a n c] h K:=by
 refine call131 ?_
 unfold F131
 refine Wb7 (λhh=>?_) (λhh=>?_)
 ·have ea:a=none:=by cases a with | none=>rfl | some x=>cases hh
  have hn0:=h0 ea
  subst hn0
  have e0:lg = []:=List.length_eq_zero_iff.1 hn
  subst e0
  exact k h none 0 (Old.refl _ _) λP HP=>HP.own_new 144 4
 ·have o1:Old h.size h (h.push (.cells #[] 144)):=(Old.refl _ _).push _ (Nat.le_refl _)
  have hs1:=hs.old o1
  have ow:Own (h.push (.cells #[] 144)) 144 (siz Tryz.prog 144) (some (aQ h.size)) 0 0 []:=⟨by simp,Nat.le_refl _,.inr ⟨h.size,#[],rfl,by simp,by simp,by simp⟩⟩
  have sz:(h.push (.cells #[] 144)).size=h.size+1:=by simp
  generalize h.push (.cells #[] 144)=h1 at *
  refine Ws9 Y36 YO0 Y37 (by rw [YC0];rfl) ow hs1 (n:=n) (by rw [YC0,Wo6 WR7,hn]) (λy hy=>?_) (by rw [YQ9];omega) (by rw [YQ9];omega) λa' c' h2 o' hsz old ha=>?_
  ·obtain ⟨x,_,hx⟩:=List.mem_flatMap.1 hy
   simp only [WM4,List.mem_cons,List.not_mem_nil,or_false] at hx
   rcases hx with rfl | rfl | rfl | rfl <;> trivial
  rw [Nat.zero_add] at o' ⊢
  try simp only [Wc5,bsx,Nat.reduceAdd,Int.reduceLE,Int.reduceLT,Int.reduceToNat]
  have o2:Old h.size h h2:=⟨by omega,λb hb=>(old b (by omega) λad ea=>by cases ea;exact λe=>by simp at e;omega).trans (o1.2 b hb)⟩
  have fb:∀b,blk a' b->h.size<=b:=by
   rintro b ⟨ad,e,rfl⟩
   rcases ha with ha | ⟨ha,_⟩
   ·rw [e] at ha;cases ha;exact Nat.le_refl _
   ·rw [e] at ha;cases ha;show h.size<=h1.size;omega
  rw [YC0,List.nil_append] at o'
  exact k h2 a' c' o2 λP HP=>HP.mk_new o2 (λb hb=>⟨fb b hb,o'.lt2 hb⟩) o'.nd λh'' e=>o'.congr e
theorem W90 {q:Nat} {m:Mm} (H:Sat h (Wm4 q m*R)) (hb:m.lg.length<=1000000) (k:∀h' a c,Old h.size h h'->(∀P:Hp,Sat h P->Sat h' (Wf2 144 4 a m.lg.length c (m.lg.flatMap WM4)*P))->K (.slice a m.lg.length c) h') :
  Wa4 Tryz.prog 78 #[mP q] h K:=by
 refine call78 ?_
 unfold F78 cf lS nP
 obtain ⟨b,la,lc,MB,H1⟩:=Wk9.1 H
 refine Wb7 (λhh=>by cases hh) (λ_=>?_)
 try simp only [Wc5,bsx,Nat.reduceAdd,Int.reduceLE,Int.reduceLT,Int.reduceToNat]
 refine H1.ld rfl ?_
 try simp only [Wc5,bsx,Nat.reduceAdd,Int.reduceLE,Int.reduceLT,Int.reduceToNat]
 have ow:=H1.drop.drop.own
 refine Wa0 (W10 ow.sees rfl (λe=>?_) hb λh2 a c o2 own=>?_)
 ·obtain ⟨_,h2,h3⟩:=ow
  rcases h3 with ⟨_,hc⟩ | ⟨b,row,e2,_⟩
  ·omega
  ·rw [e] at e2;cases e2
 ·try simp only [Wc5,bsx,Nat.reduceAdd,Int.reduceLE,Int.reduceLT,Int.reduceToNat]
  exact k h2 a c o2 own
theorem WT9 {q:Nat} {m:Mm} {on:Bool} (H:Sat h (Wm4 q m*R)) (k:∀h',Sat h' (Wm4 q { m with wt:=on }*R)->K (.tuple #[]) h'):Wa4 Tryz.prog 38 #[mP q,.bool on] h K:=by
 refine call38 ?_
 unfold F38 nP
 obtain ⟨b,la,lc,MB,H1⟩:=Wk9.1 H
 refine Wb7 (λ_=>?_) (λhh=>by cases hh)
 try simp only [Wc5,bsx,Nat.reduceAdd,Int.reduceLE,Int.reduceLT,Int.reduceToNat]
 refine H1.st (i:=2) rfl trivial λh' H'=>k h' (Wk9.2 ⟨b,la,lc,⟨MB.len,MB.st,MB.lg,MB.us⟩,H'⟩)
def TrI (d:Run->Run) (X:RX) (R:Hp) (calls:List (List Cl)) (Inv:Nat->Mac->Prop) (j k:Nat) (s:TrS) (h':Wa1):Prop:=
 ∃s1:TrS,s.pick d X.ins calls k=s1.go d k/\Inv j s1.m/\s1.m.th.length=calls.length/\(∀k,k < calls.length->0<=s1.nx.getD k 0/\s1.nx.getD k 0<=(calls.getD k []).length)/\s1.l=s.l/\(We2 s1.m k).fr≠[]/\Sat h' (trS X s1*R)
variable {d:Run->Run} {W:Run->Prop} {Inv:Nat->Mac->Prop}
theorem W91 (D:DoC X.f d W) (G:YJ3 d W X.ins Inv) (C:WK2 calls) (hn:X.n=calls.length) (hins:0<=X.ins/\X.ins<=100) (H:Sat h (trS X s*R)) (hS:∀h' P,Sat h' (P*R)->Y55 h' X.ca X.cl X.pa X.pl calls Wc6) {j k:Nat} (hk:k < calls.length) (hj:j < 100000) (O:TrOk Inv calls j s)
  (kk:∀h',TrOk Inv calls (j+1) (s.pick d X.ins calls k)->(s.pick d X.ins calls k).l=s.l->Sat h' (trS X (s.pick d X.ins calls k)*R)->K (.tuple #[]) h') :
  Wa4 Tryz.prog 39 #[mP X.RB,iQ k] h K:=by
 refine call39 ?_
 unfold F39 cf bd lS lP lI nP
 have hk2:k < s.m.th.length:=by rw [O.th];exact hk
 have hC:=C.n
 refine ⟨λ_ h'=>TrI d X R calls Inv j k s h',?_,?_⟩
 ·obtain ⟨la,lc,O1⟩:=WK3 H
  try simp only [Wc5,bsx,Nat.reduceAdd,Int.reduceLE,Int.reduceLT,Int.reduceToNat]
  refine ldR O1 rfl ?_
  try simp only [Wc5,bsx,Nat.reduceAdd,Int.reduceLE,Int.reduceLT,Int.reduceToNat]
  obtain ⟨Q',H2,re⟩:=Yg0 H
  refine Wa0 (Wx4 H2 hk2 ?_)
  try simp only [Wc5,bsx,Nat.reduceAdd,Int.reduceLE,Int.reduceLT,Int.reduceToNat]
  refine Wb7 (λhb=>?_) (λhb=>?_)
  ·have he:(We2 s.m k).fr = []:=List.isEmpty_iff.1 (by simpa using hb)
   have scr:∀ {h':Wa1} {P:Hp},Sat h' (P*R)->Y55 h' X.ca X.cl X.pa X.pl calls Wc6:=λH'=>hS _ _ H'
   have F0:=scr H
   have hcs:=F0.cs
   have cN:=YR0 H (k:=k) (by omega)
   have hnx:=O.nx k hk
   obtain ⟨ra,rc,⟨ad,ea2,hcr⟩,hrow⟩:=F0.row k hk
   refine ldR O1 rfl ?_
   try simp only [Wc5,bsx,Nat.reduceAdd,Int.reduceLE,Int.reduceLT,Int.reduceToNat]
   refine ⟨by omega,by omega,?_⟩
   refine Wb5 cN ?_
   try simp only [Wc5,bsx,Nat.reduceAdd,Int.reduceLE,Int.reduceLT,Int.reduceToNat]
   refine ldR O1 rfl ?_
   rw [ea2]
   try simp only [Wc5,bsx,Nat.reduceAdd,Int.reduceLE,Int.reduceLT,Int.reduceToNat]
   refine ⟨by omega,by omega,?_⟩
   refine Wb5 hcr ?_
   try simp only [Wc5,bsx,Nat.reduceAdd,Int.reduceLE,Int.reduceLT,Int.reduceToNat]
   refine Wa7 (λc1=>?_) (λc1=>?_)
   ·have e:s.pick d X.ins calls k=s:=by
     unfold TrS.pick TrS.enter
     rw [Int.toNat_natCast,if_pos he,if_pos (by omega)]
    rw [e] at kk
    exact kk h ⟨G.mono _ _ O.inv,O.th,O.nx⟩ rfl H
   refine ldR O1 rfl ?_
   try simp only [Wc5,bsx,Nat.reduceAdd,Int.reduceLE,Int.reduceLT,Int.reduceToNat]
   refine ldR O1 rfl ?_
   rw [ea2]
   try simp only [Wc5,bsx,Nat.reduceAdd,Int.reduceLE,Int.reduceLT,Int.reduceToNat]
   refine ⟨by omega,by omega,?_⟩
   refine Wb5 hcr ?_
   try simp only [Wc5,bsx,Nat.reduceAdd,Int.reduceLE,Int.reduceLT,Int.reduceToNat]
   refine ldR O1 rfl ?_
   try simp only [Wc5,bsx,Nat.reduceAdd,Int.reduceLE,Int.reduceLT,Int.reduceToNat]
   refine ⟨by omega,by omega,?_⟩
   refine Wb5 cN ?_
   try simp only [Wc5,bsx,Nat.reduceAdd,Int.reduceLE,Int.reduceLT,Int.reduceToNat]
   refine ⟨by omega,by omega,?_⟩
   generalize hq:(s.nx.getD k 0).toNat=q at *
   have hqlt:q < (calls.getD k []).length:=by omega
   have hmem:calls.getD k [] ∈ calls:=by
    have:calls.getD k []=calls[k]:=by rw [List.getD_eq_getElem?_getD,List.getElem?_eq_getElem hk];rfl
    rw [this];exact List.getElem_mem hk
   have hcq:(calls.getD k []).getD q cl0=(calls.getD k [])[q]:=by rw [List.getD_eq_getElem?_getD,List.getElem?_eq_getElem hqlt];rfl
   have hcB:=(C.cl _ hmem).2 _ (List.getElem_mem hqlt)
   have hlen:=(C.cl _ hmem).1
   have g0:=Wi3 WB7 hqlt (j:=0) (by omega)
   have g1:=Wi3 WB7 hqlt (j:=1) (by omega)
   have g2:=Wi3 WB7 hqlt (j:=2) (by omega)
   rw [<- hcq] at g0 g1 g2 hcB
   have hbeg:s.enter X.ins calls k=some { s with m:=s.m.setTh (s.m.th.set k ((We2 s.m k).push (X.ins+((calls.getD k []).getD q cl0).op) [((calls.getD k []).getD q cl0).key,((calls.getD k []).getD q cl0).val])),nx:=s.nx.set k (s.nx.getD k 0+1) }:=by
    unfold TrS.enter
    rw [if_pos he,hq,if_neg (by omega)]
   generalize (calls.getD k []).getD q cl0=cq at *
   obtain ⟨ad3,ea3,q0⟩:=hrow (q*3+0) (.int .i64 cq.op) g0
   subst ea3
   obtain ⟨_,ea4,q1⟩:=hrow (q*3+1) (.int .u32 cq.key) g1
   cases ea4
   obtain ⟨_,ea4,q2⟩:=hrow (q*3+2) (.int .u32 cq.val) g2
   cases ea4
   have aa:∀i,(ad3.add (q*3)).add i=ad3.add (q*3+i):=λi=>Wr0 _ _ _
   rw [Nat.add_zero] at q0
   try simp only [Wc5,bsx,Nat.reduceAdd,Int.reduceLE,Int.reduceLT,Int.reduceToNat,aa]
   refine Wb5 q0 (Wb5 q1 (Wb5 q2 ?_))
   obtain ⟨hok,hkey,hval⟩:=hcB
   refine Wa0 (W01 H2 (i:=k) (c:=cq) hins ⟨hkey,hval⟩ (λhh=>by omega) (λ_ hh=>by rw [hok] at hh;cases hh) (λ_ _ hh=>absurd he (by rw [Int.toNat_natCast] at hh;exact hh)) λ_ _ _ h5 H5=>?_)
   rw [Int.toNat_natCast] at H5
   have H6:=re _ _ _ H5
   try simp only [Wc5,bsx,Nat.reduceAdd,Int.reduceLE,Int.reduceLT,Int.reduceToNat]
   obtain ⟨la5,lc5,O5⟩:=WK3 H6
   have cN5:=YR0 H6 (k:=k) (by omega)
   refine ldR O5 rfl ?_
   try simp only [Wc5,bsx,Nat.reduceAdd,Int.reduceLE,Int.reduceLT,Int.reduceToNat]
   refine ⟨by omega,by omega,?_⟩
   refine Wb5 cN5 ?_
   try simp only [Wc5,bsx,Nat.reduceAdd,Int.reduceLE,Int.reduceLT,Int.reduceToNat]
   refine ⟨by omega,by omega,?_⟩
   have hs1:s64 (s.nx.getD k 0+1)=s.nx.getD k 0+1:=by unfold s64;omega
   rw [hs1]
   refine YO1 H6 (by omega) λh7 H7=>?_
   refine ⟨{ m:=s.m.setTh (s.m.th.set k ((We2 s.m k).push (X.ins+cq.op) [cq.key,cq.val])),nx:=s.nx.set k (s.nx.getD k 0+1),l:=s.l },?_,?_,?_,?_,rfl,?_,H7⟩
   ·unfold TrS.pick
    rw [Int.toNat_natCast,hbeg]
   ·exact G.push j s.m k (We2 s.m k) cq O.inv (Wi5 hk2) he (YA1 hok) hkey hval
   ·show (s.m.th.set k _).length=_
    rw [List.length_set];exact O.th
   ·intro k' hk'
    have:=O.nx k' hk'
    show 0<=(s.nx.set k _).getD k' 0/\(s.nx.set k _).getD k' 0<=_
    by_cases ek:k=k'
    ·subst ek
     rw [List.getD_eq_getElem?_getD,List.getElem?_set]
     split
     ·split
      ·simp only [Option.getD_some];omega
      ·simp only [Option.getD_none];omega
     ·rename_i hh;exact absurd rfl hh
    ·rw [List.getD_eq_getElem?_getD,List.getElem?_set_ne ek,<- List.getD_eq_getElem?_getD]
     exact this
   ·have e9:We2 (s.m.setTh (s.m.th.set k ((We2 s.m k).push (X.ins+cq.op) [cq.key,cq.val]))) k=(We2 s.m k).push (X.ins+cq.op) [cq.key,cq.val]:=WK0 hk2
    show (We2 (s.m.setTh (s.m.th.set k ((We2 s.m k).push (X.ins+cq.op) [cq.key,cq.val]))) k).fr≠[]
    rw [e9];unfold Mod.Thr.push;simp
  ·have hne:(We2 s.m k).fr≠[]:=λe=>by rw [e] at hb;cases hb
   refine ⟨s,?_,O.inv,O.th,O.nx,rfl,hne,H⟩
   unfold TrS.pick TrS.enter
   rw [Int.toNat_natCast,if_neg hne]
 rintro g63 h64 ⟨s1,ep,hI1,ht1,hn1,hl1,hne1,H1⟩
 obtain ⟨la,lc,O1⟩:=WK3 H1
 try simp only [Wc5,bsx,Nat.reduceAdd,Int.reduceLE,Int.reduceLT,Int.reduceToNat]
 refine ldR O1 rfl ?_
 try simp only [Wc5,bsx,Nat.reduceAdd,Int.reduceLE,Int.reduceLT,Int.reduceToNat]
 obtain ⟨Q',H2,re⟩:=Yg0 H1
 have hk3:k < s1.m.th.length:=by omega
 obtain ⟨nn,z,hz,hs,hid,_,hI2⟩:=G.step j s1.m k _ hI1 hj (Wi5 hk3) hne1
 have hzs:Wq2 d ⟨s1.m.quiet,We2 s1.m k,k⟩=z:=WE8 hz
 have hgo:s1.go d k = { s1 with m:=z.m.setTh (s1.m.th.set k z.t) }:=by
  unfold TrS.go
  rw [hzs]
 have ht2:(z.m.setTh (s1.m.th.set k z.t)).th.length=calls.length:=by
  show (s1.m.th.set k z.t).length=_
  rw [List.length_set];exact ht1
 rw [ep,hgo] at kk
 refine Wa0 (W78 D H2 (n:=nn) (z:=z) hk3 hne1 hz hs hid (λhne2 h3 H3=>?_) λhnil h3 H3=>?_)
 all_goals exact kk h3 ⟨hI2,ht2,hn1⟩ hl1 (re _ _ _ H3)
end
end
section
open Mod
theorem YC1 {v0 v1 v2:Value} {F:Value->Prop} (k:F v0):Wc2 #[v0,v1,v2] 0 F:=k
theorem YC2 {v0 v1 v2:Value} {F:Value->Prop} (k:F v1):Wc2 #[v0,v1,v2] 1 F:=k
theorem YC3 {v0 v1 v2:Value} {F:Value->Prop} (k:F v2):Wc2 #[v0,v1,v2] 2 F:=k
section
variable {K:kQ} {h:Wa1} {R:Hp} {calls:List (List Cl)} {Wc6 draws:List Int}
end
theorem Yg1 {h:Wa1} {b:Nat} {row:List Value} {t:TypeId} (hb:h[b]? = some (.cells row.toArray t)):Sees h (some (aQ b)) row:=by
 intro i v hi
 refine ⟨_,rfl,?_⟩
 rw [Wc1,Nat.zero_add]
 exact Wd3 hb hi
end
section
set_option maxHeartbeats 1000000
open Mod
section
variable {K:kQ} {h:Wa1} {X:RX} {s:TrS} {R:Hp} {calls:List (List Cl)} {Wc6 draws:List Int}
theorem W92 {Q M f:Nat} {ins:Int} {Ts:List Nat} {m:Mac} (H:Sat h (suS Q M f ins Ts m*R)) (k:∀q R',Sat h (Wm4 q m.mm*R')->(∀h' m',Sat h' (Wm4 q m' * R')->Sat h' (suS Q M f ins Ts (m.setM m')*R))->K (mP q) h):Wa4 Tryz.prog 32 #[mP M] h K:=by
 obtain ⟨a,c,hl,H1⟩:=Wi2.1 (Wl0.1 H)
 exact WO8 H1 λq R' HM re=>k q R' HM λh' m' H'=>Wl0.2 (Wi2.2 ⟨a,c,hl,re h' m' H'⟩)
theorem WK4 {Q M f:Nat} {ins:Int} {Ts:List Nat} {m:Mac} (H:Sat h (suS Q M f ins Ts m*R)) (k:PlB m.p->∀h',Old h.size h h'->K (plV m.p) h'):Wa4 Tryz.prog 79 #[mP M] h K:=by
 obtain ⟨a,c,hl,H1⟩:=Wi2.1 (Wl0.1 H)
 exact WC6 H1 (k (Yu9 H1))
theorem Y93 (x:TSt):(tsc x).toArray=#[iQ x.th,iQ x.kind,.bool x.done,iQ x.w1.1,iQ x.w1.2.1,iQ x.w1.2.2,iQ x.w2.1,iQ x.w2.2.1,iQ x.w2.2.2]:=rfl
theorem Y94 {e:TSt} {la:Option Addr} {lc:Nat} {l:List TSt} {G:Hp} (H:Sat h (pt X.RB (.cells (trC X la l.length lc).toArray 89)*(Wf2 51 9 la l.length lc (l.flatMap tsc)*G))) (hb:l.length<=1000000) {F:Wa1->Prop}
  (k:∀h' la' lc',Sat h' (pt X.RB (.cells (trC X la' (l ++ [e]).length lc').toArray 89)*(Wf2 51 9 la' (l ++ [e]).length lc' ((l ++ [e]).flatMap tsc)*G))->F h') :
  Wp5 Tryz.prog #[47,47] 47 #[.slice la l.length lc,.slice (some (aQ h.size)) 1 1] (h.push (.cells #[iQ e.th,iQ e.kind,.bool e.done,iQ e.w1.1,iQ e.w1.2.1,iQ e.w1.2.2,iQ e.w2.1,iQ e.w2.2.1,iQ e.w2.2.2] 51))
   λv h'=>Wb3 v λo k1 k2=>stH h' ⟨X.RB,12,none⟩ (.slice o k1 k2) F:=by
 have H2:=H.push (.cells (tsc e).toArray 51)
 have hs:Sees (h.push (.cells (tsc e).toArray 51)) (some (aQ h.size)) (tsc e):=λj v hj=>⟨_,rfl,by rw [Wc1,Nat.zero_add,Wb4 H2.at];simpa using hj⟩
 rw [<- Y93]
 generalize h.push (.cells (tsc e).toArray 51)=h2 at *
 generalize h.size=N at *
 have H3:=H2.drop
 rw [Wb8,<- Ww0] at H3
 refine H3.app YB8 Yf8 YB9 (by rw [Ww0];rfl) hs (n:=1) (by rw [Ww0];rfl) (λy hy=>?_) (by rw [Yf9];omega) (by rw [Yf9];omega) λa' c' h3 H4=>?_
 ·simp only [tsc,List.mem_cons,List.not_mem_nil,or_false] at hy
  rcases hy with rfl | rfl | rfl | rfl | rfl | rfl | rfl | rfl | rfl <;> trivial
 rw [Ww0,Wb8] at H4
 refine sb ?_
 refine H4.st (i:=12) rfl trivial λh4 H5=>k h4 a' c' ?_
 have e1:(l ++ [e]).length=l.length+1:=by simp
 have e2:(l ++ [e]).flatMap tsc=l.flatMap tsc ++ tsc e:=by simp
 rw [e1,e2]
 exact H5
theorem WK5 {p:Pl} {a:Int} {v0 v1 v2 v3 v4 v5 v6 v7 v8 v9 v10 v11 v12 v13 v14:Value} (e:plV p=.agg #[v0,v1,v2,v3,v4,v5,v6,v7,v8,v9,v10,v11,v12,v13,v14]) (B:PlB p) (ha:iN a) (k:∀h',Old h.size h h'->K (.tuple #[iQ (p.whr a).1,iQ (p.whr a).2.1,iQ (p.whr a).2.2]) h') :
  Wa4 Tryz.prog 80 #[.agg #[v0,v1,v2,v3,v4,v5,v6,v7,v8,v9,v10,v11,v12,v13,v14],iQ a] h K:=by
 rw [<- e]
 exact Yo0 B ha k
def Y95 (X:RX) (s:TrS) (kk:Int) (R:Hp) (a:Option Addr) (c:Nat) (vs:List Value) (h':Wa1):Prop:=
 ∃(i:Nat) (u1 u2:Value),vs = [iQ i,u1,u2]/\i<=s.m.mm.lg.length - s.l.length /\
  Sat h' (trS X { s with l:=s.l ++ ((s.m.mm.lg.drop s.l.length).take i).map (Wi7 s.m.p kk) }*(Wf2 144 4 a s.m.mm.lg.length c (s.m.mm.lg.flatMap WM4)*R))
theorem W93 {kk:Int} (H:Sat h (trS X s*R)) (hle:s.l.length<=s.m.mm.lg.length) (hb:s.m.mm.lg.length<=100000) (hE:∀e ∈ s.m.mm.lg.drop s.l.length,iN e.a/\iN e.b)
  (k:∀h',Sat h' (trS X (s.note kk)*R)->K (.tuple #[]) h'):Wa4 Tryz.prog 40 #[mP X.RB,iQ kk,iQ (s.l.length:Nat)] h K:=by
 refine call40 ?_
 unfold F40 cf ce lP lI nP Ww2 dl9
 obtain ⟨la,lc,O1⟩:=WK3 H
 try simp only [Wc5,bsx,Nat.reduceAdd,Int.reduceLE,Int.reduceLT,Int.reduceToNat]
 refine ldR O1 rfl ?_
 try simp only [Wc5,bsx,Nat.reduceAdd,Int.reduceLE,Int.reduceLT,Int.reduceToNat]
 obtain ⟨Q',H2,re⟩:=Yg0 H
 refine Wa0 (WB8 H2 ?_)
 try simp only [Wc5,bsx,Nat.reduceAdd,Int.reduceLE,Int.reduceLT,Int.reduceToNat]
 refine Wa0 (Ym6 H2 λq R' HM=>?_)
 try simp only [Wc5,bsx,Nat.reduceAdd,Int.reduceLE,Int.reduceLT,Int.reduceToNat]
 refine Wa0 (W90 HM (by omega) λh4 a c o4 own=>?_)
 have H4:=own _ H
 rw [Wb8] at H4
 try simp only [Wc5,bsx,Nat.reduceAdd,Int.reduceLE,Int.reduceLT,Int.reduceToNat]
 rw [Wm0,Ye5,show min (s.l.length:Int) (s.m.mm.lg.length:Int)=(s.l.length:Int) by omega]
 refine ⟨by omega,by omega,?_⟩
 simp only [Int.toNat_natCast]
 refine ⟨Y95 X s kk R a c,λvs _=>match vs with | [.int _ i,_,_]=>((s.m.mm.lg.length - s.l.length:Nat) - i:Int).toNat | _=>0,⟨0,_,_,rfl,Nat.zero_le _,?_⟩,?_⟩
 ·rw [List.take_zero,List.map_nil,List.append_nil]
  exact H4
 rintro v19 v20 v21 g22 h23 ⟨i,u1,u2,e,hi,H5⟩
 cases e
 refine sb ?_
 refine Wa7 (λc1=>?_) (λc1=>?_)
 ·have hi2:s.l.length+i < s.m.mm.lg.length:=by omega
  refine ⟨by omega,by omega,?_⟩
  have ow:=H5.drop.own
  have hlc:=ow.2.1
  have hsub:=ow.sees.subn (n:=4) (i:=s.l.length) (m:=c) (by rw [Wo6 WR7];omega) (by omega)
  have g:∀j,j < 4->((s.m.mm.lg.flatMap WM4).drop (s.l.length*4))[i*4+j]? = (WM4 s.m.mm.lg[s.l.length+i])[j]?:=λj hj=>by
   rw [List.getElem?_drop,show s.l.length*4+(i*4+j)=(s.l.length+i)*4+j by omega]
   exact Wi3 WR7 hi2 hj
  have hmem:s.m.mm.lg[s.l.length+i] ∈ s.m.mm.lg.drop s.l.length:=by
   rw [List.mem_iff_getElem?]
   exact ⟨i,by rw [List.getElem?_drop,List.getElem?_eq_getElem hi2]⟩
  have hnext:(s.m.mm.lg.drop s.l.length).take (i+1)=(s.m.mm.lg.drop s.l.length).take i ++ [s.m.mm.lg[s.l.length+i]]:=by
   rw [List.take_succ_eq_append_getElem (by rw [List.length_drop];omega)]
   simp
  have hEa:=hE _ hmem
  generalize s.m.mm.lg[s.l.length+i]=e at *
  obtain ⟨ad,ea,q0⟩:=hsub (i*4+0) (.int .i64 e.kind) (g 0 (by omega))
  rw [ea] at hsub ⊢
  obtain ⟨_,ea1,q1⟩:=hsub (i*4+1) (.int .i64 e.a) (g 1 (by omega))
  cases ea1
  obtain ⟨_,ea1,q2⟩:=hsub (i*4+2) (.int .i64 e.b) (g 2 (by omega))
  cases ea1
  obtain ⟨_,ea1,q3⟩:=hsub (i*4+3) (.bool e.done) (g 3 (by omega))
  cases ea1
  clear hsub g ea
  have aa:∀j,(ad.add (i*4)).add j=ad.add (i*4+j):=λj=>Wr0 _ _ _
  rw [Nat.add_zero] at q0
  try simp only [Wc5,bsx,Nat.reduceAdd,Int.reduceLE,Int.reduceLT,Int.reduceToNat,aa]
  refine Wb5 q0 (Wb5 q1 (Wb5 q2 (Wb5 q3 ?_)))
  have H6:=H5.push (.cells #[iQ 0,iQ 0,iQ 0,.bool false] 144)
  generalize h23.push (.cells #[iQ 0,iQ 0,iQ 0,.bool false] 144)=h6 at *
  generalize h23.size=AB at *
  refine We3 (vs:=WM4 e) H6.at rfl (by simp [WM4,Wh0]) λh7 w=>?_
  have H7:=H6.wr w.new w.old
  clear H6 w
  refine ldR H7.at rfl ?_
  refine sb ?_
  refine ldR H7.at rfl ?_
  refine sb ?_
  have H8:=H7.push (.cells #[iQ 0,iQ 0,.bool false,iQ 0,iQ 0,iQ 0,iQ 0,iQ 0,iQ 0] 51)
  generalize h7.push (.cells #[iQ 0,iQ 0,.bool false,iQ 0,iQ 0,iQ 0,iQ 0,iQ 0,iQ 0] 51)=h8 at *
  generalize h7.size=SB at *
  refine We3 (vs:=tsc ⟨kk,e.kind,e.done,(0,0,0),(0,0,0)⟩) H8.at rfl (by simp [tsc,Wh0]) λh9 w=>?_
  have H9:=H8.wr w.new w.old
  clear H8 w H7
  refine ldR H9.at2 rfl ?_
  refine sb ?_
  have su:∀ {h':Wa1} {P:Hp},Sat h' (P*(trS X { s with l:=s.l ++ ((s.m.mm.lg.drop s.l.length).take i).map (Wi7 s.m.p kk) }*(Wf2 144 4 a s.m.mm.lg.length c (s.m.mm.lg.flatMap WM4)*R)))->∃Q'':Hp,Sat h' (suS X.Q X.M X.f X.ins X.Ts s.m*Q''):=λH'=>by
   obtain ⟨Q1,H2,_⟩:=Yg0 H'.drop
   exact ⟨_,H2⟩
  obtain ⟨Q1,Hsu⟩:=su H9.drop
  refine Wa0 (WK4 Hsu λB h10 o10=>W16 ?_)
  have H10:=H9.old o10
  refine ⟨Wd3 H10.at2 rfl,?_⟩
  refine Wa0 (WK5 rfl B hEa.1 λh11 o11=>?_)
  have H11:=H10.old o11
  refine sb ?_
  refine YC1 ?_
  refine sb ?_
  refine YC2 ?_
  refine sb ?_
  refine YC3 ?_
  refine sb ?_
  refine H11.st (i:=3) rfl trivial λh12 H12=>?_
  refine H12.st (i:=4) rfl trivial λh13 H13=>?_
  refine H13.st (i:=5) rfl trivial λh14 H14=>?_
  clear H9 H10 H11 H12 H13 Hsu
  refine ldR H14.at2 rfl ?_
  refine sb ?_
  obtain ⟨Q2,Hsu⟩:=su H14.drop
  refine Wa0 (WK4 Hsu λ_ h15 o15=>W16 ?_)
  have H15:=H14.old o15
  refine ⟨Wd3 H15.at2 rfl,?_⟩
  refine Wa0 (WK5 rfl B hEa.2 λh16 o16=>?_)
  have H16:=H15.old o16
  refine sb ?_
  refine YC1 ?_
  refine sb ?_
  refine YC2 ?_
  refine sb ?_
  refine YC3 ?_
  refine sb ?_
  refine H16.st (i:=6) rfl trivial λh17 H17=>?_
  refine H17.st (i:=7) rfl trivial λh18 H18=>?_
  refine H18.st (i:=8) rfl trivial λh19 H19=>?_
  have H20:Sat h19 (pt SB (.cells (tsc (Wi7 s.m.p kk e)).toArray 51)*_):=H19
  clear H14 H15 H16 H17 H18 H19 Hsu
  have H21:=Sat.ac H20 (show _=trS X { s with l:=s.l ++ ((s.m.mm.lg.drop s.l.length).take i).map (Wi7 s.m.p kk) }*(pt SB (.cells (tsc (Wi7 s.m.p kk e)).toArray 51)*(pt AB (.cells (WM4 e).toArray 144)*(Wf2 144 4 a s.m.mm.lg.length c (s.m.mm.lg.flatMap WM4)*R))) by ac_rfl)
  clear H20
  obtain ⟨la,lc,hl,H22⟩:=Wp4.1 H21
  have hll:(s.l ++ ((s.m.mm.lg.drop s.l.length).take i).map (Wi7 s.m.p kk)).length<=1000000:=by
   rw [List.length_append,List.length_map,List.length_take]
   omega
  have en:s.l ++ ((s.m.mm.lg.drop s.l.length).take (i+1)).map (Wi7 s.m.p kk)=(s.l ++ ((s.m.mm.lg.drop s.l.length).take i).map (Wi7 s.m.p kk)) ++ [Wi7 s.m.p kk e]:=by
   rw [hnext,List.map_append,<- List.append_assoc]
   rfl
  refine ldR H22.at rfl ?_
  refine sb ?_
  have OS:=H22.drop.drop.drop.drop.at
  refine ldR OS rfl (ldR OS rfl (ldR OS rfl (ldR OS rfl (ldR OS rfl (ldR OS rfl (ldR OS rfl (ldR OS rfl (ldR OS rfl ?_))))))))
  refine ⟨Wc3 (Wd3 H22.at rfl),?_⟩
  refine Y94 (e:=Wi7 s.m.p kk e) H22 hll λh23 la' lc' H23=>?_
  rw [<- en] at H23
  have H24:=Sat.ac ((Wp4 (s:={ s with l:=s.l ++ ((s.m.mm.lg.drop s.l.length).take (i+1)).map (Wi7 s.m.p kk) })).2 ⟨la',lc',hl,H23⟩) (show _=pt SB (.cells (tsc (Wi7 s.m.p kk e)).toArray 51)*(pt AB (.cells (WM4 e).toArray 144)*(trS X { s with l:=s.l ++ ((s.m.mm.lg.drop s.l.length).take (i+1)).map (Wi7 s.m.p kk) }*(Wf2 144 4 a s.m.mm.lg.length c (s.m.mm.lg.flatMap WM4)*R))) by ac_rfl)
  rw [show s64 ((i:Int)+1)=((i+1:Nat):Int) from by rw [<- Int.natCast_add_one];exact Wr7 _ (by omega)]
  refine ⟨⟨i+1,_,_,rfl,by omega,H24.drop.drop⟩,?_⟩
  show (((s.m.mm.lg.length - s.l.length:Nat):Int) - ((i+1:Nat):Int)).toNat < (((s.m.mm.lg.length - s.l.length:Nat):Int) - (i:Int)).toNat
  omega
 ·have ei:(s.m.mm.lg.drop s.l.length).take i=s.m.mm.lg.drop s.l.length:=List.take_of_length_le (by rw [List.length_drop];omega)
  rw [ei] at H5
  rw [Wb8] at H5
  exact k h23 H5.drop
end
section
variable {d:Run->Run} {Q:Mod.Cf->Frm->Prop} {W:Run->Prop} {ins:Int} {c:Mod.Cf} {calls:List (List Cl)} {s:TrS}
theorem Y96 (D:YD8 d Q W ins) (hB:Yn9 d Q) (C:WK2 calls) {j k:Nat} (hk:k < calls.length) (hj:j < 100000) (O:TrOk (MacOk Q c) calls j s) (F:TrFit c s) :
  (s.pick d ins calls k).m.mm.lg=s.m.mm.lg\/∃e,YB5 (Wb6 c) k (Wb6 c).size.toNat e/\(s.pick d ins calls k).m.mm.lg=s.m.mm.lg ++ [e]:=by
 have G:=MacOk.good (c:=c) D
 rcases Y35 G C hk O F with e | ⟨s1,e,B⟩
 ·rw [e];exact .inl rfl
 rw [e]
 have hk3:k < s1.m.th.length:=by rw [B.th];exact hk
 have ht:=Wi5 hk3
 obtain ⟨nn,z,hz,_,_,hzt,hI2⟩:=G.step j s1.m k _ B.inv hj ht B.ne
 have hzs:Wq2 d ⟨s1.m.quiet,We2 s1.m k,k⟩=z:=WE8 hz
 have S:=Yf7 D hB B.inv ht (B.all k _ ht) hz
 have o:=S.one
 have e2:(⟨s1.m.quiet,We2 s1.m k,(k:Int)⟩ : Run).m.mm=s.m.mm:=B.mm
 rw [e2] at o
 have hw:(s.m.mm.w.length:Int)=(Wb6 c).size:=O.inv.w
 have hwn:s.m.mm.w.length=(Wb6 c).size.toNat:=by omega
 have hgo:(s1.go d k).m.mm=z.m.mm:=by
  unfold TrS.go
  rw [hzs]
  rfl
 rw [hgo]
 rcases o.st with ⟨_,q2⟩ | ⟨_,a,q2,q3⟩
 ·exact .inl q2
 ·rw [hwn] at q2
  rw [F.wt,if_pos rfl] at q3
  exact .inr ⟨a,q2,q3⟩
end
def Mod.Mac.watch (m:Mac):Mac:=m.setM { m.mm with wt:=true }
theorem Wz3 {m:Mm} (h:m.wt=false/\m.lg = []) (a v:Int):(m.store a v).wt=false/\(m.store a v).lg = []:=by
 unfold Mm.store
 split
 ·refine ⟨h.1,?_⟩
  show (if m.wt=true then m.lg ++ [_] else m.lg) = []
  rw [h.1,h.2];rfl
 ·exact h
theorem WU0 (f:Nat->Int × Int):∀(l:List Nat) (m:Mm),m.wt=false/\m.lg = []->(l.foldl (λm i=>m.store (f i).1 (f i).2) m).wt=false/\(l.foldl (λm i=>m.store (f i).1 (f i).2) m).lg = []
 | [],m,h=>h
 | i :: l,m,h=>WU0 f l _ (Wz3 h _ _)
theorem Y38 (p:Pl):(lay p).wt=false/\(lay p).lg = []:=by
 unfold lay
 dsimp only
 have h2:=λ(m:Mm) (h:m.wt=false/\m.lg = []) (a b:Int)=>Wz3 (WU0 (λi=>(p.link (p.sent+1+i),p.sent+1+i+1)) (List.range (p.c.nodes - (p.sent+1)).toNat) m h) a b
 have h1:=h2 _ (Wz3 (m:=⟨List.replicate p.size.toNat 0,0,false,[]⟩) ⟨rfl,rfl⟩ 0 (Wl2 (p.sent+1) false 0)) 2 1
 split
 ·exact h1
 ·exact WU0 (λi=>(p.node 1 (5+i),Wl2 2 false 0)) _ _ (Wz3 (Wz3 h1 _ _) _ _)
def ts0 (m:Mac) (n:Nat):TrS:=⟨m,List.replicate n 0,[]⟩
section
variable {Q:Mod.Cf->Frm->Prop} {c:Mod.Cf} {calls:List (List Cl)}
theorem MacOk.watch {i:Nat} {m:Mac} (h:MacOk Q c i m):MacOk Q c i m.watch:=⟨h.ok,h.p,h.w,h.n,h.t,h.T⟩
theorem TrFit.new (b:List Int) (g:Bool) (n:Nat):TrFit c (ts0 (Wg7 c b g).watch n):=by
 have h:∀(k:Nat) t,(Wg7 c b g).th[k]? = some t->t=Wu6 c:=λk t h=>(List.mem_replicate.1 (List.mem_of_getElem? (show (List.replicate c.threads.toNat (Wu6 c))[k]? = some t from h))).2
 refine ⟨λk t e f hf=>?_,rfl,?_,λx hx=>by cases hx⟩
 ·rw [h k t e] at hf
  cases hf
 ·show (lay (Wb6 c)).lg.length=_
  rw [(Y38 _).2]
  rfl
theorem TrOk.new (hc:okC c=true) (b:List Int) (g:Bool) (hl:(calls.length:Int)=c.threads):TrOk (MacOk Q c) calls 0 (ts0 (Wg7 c b g).watch calls.length):=by
 refine ⟨(MacOk.new hc b g).watch,?_,λk hk=>?_⟩
 ·show (List.replicate c.threads.toNat (Wu6 c)).length=_
  rw [List.length_replicate]
  omega
 ·have e:(ts0 (Wg7 c b g).watch calls.length).nx.getD k 0=0:=by
   show (List.replicate calls.length (0:Int)).getD k 0=0
   rw [List.getD_eq_getElem?_getD,List.getElem?_replicate]
   split <;> rfl
  rw [e]
  omega
end
end
section
set_option maxHeartbeats 1000000
open Mod
theorem Y39 {p:Pl} {id:Int} {n:Nat} {e:Acc} (h:YB5 p id n e) (hn:n<=4096):iN e.a/\iN e.b:=by
 have h1:=h.a
 have h2:=h.k
 have e1:∀x:Int,-1<=x/\x < 4096->iN x:=λx hx=>by unfold iN;omega
 exact ⟨e1 _ (by omega),e1 _ (by omega)⟩
section
variable {K:kQ} {h:Wa1} {X:RX} {s:TrS} {R:Hp} {calls:List (List Cl)} {Wc6 draws:List Int}
variable {d:Run->Run} {Q:Mod.Cf->Frm->Prop} {W:Run->Prop}
theorem YC4 {c:Mod.Cf} {ca pa da:Option Addr} {cl cc pl pc dl dc:Nat} (H:Sat h R) (hS:∀h' P,Sat h' (P*R)->YV0 h' ca cl pa pl da dl calls Wc6 draws) (hR:Zb1 calls Wc6 draws)
  (hn:calls.flatten.length < 2 ^ 60) (hn2:calls.length < 2 ^ 60) (hn3:Wc6.length < 2 ^ 60) (hV:∀l ∈ calls,l.length < 2 ^ 60)
  (D:DoC (YK9 c.algo) d W) (DO:YD8 d Q W (WD7 c.algo)) (hB:Yn9 d Q)
  (k0:YL0 c calls Wc6 draws=false->∀h',Sat h' R->K (.tuple #[.slice none 0 0,iQ 1]) h')
  (k1:YL0 c calls Wc6 draws=true->∀h' la lc s,s=YB7 d (WD7 c.algo) calls (Wg7 c draws false).watch Wc6->s.l.length<=Wc6.length->TrOk (MacOk Q c) calls Wc6.length s->TrFit c s->Sat h' (Wf2 51 9 la s.l.length lc (s.l.flatMap tsc)*R) ->
   K (.tuple #[.slice la s.l.length lc,iQ 0]) h') :
  Wa4 Tryz.prog 14 #[.agg #[iQ c.algo,iQ c.threads,iQ c.nodes,iQ c.level,iQ c.batch,iQ c.probes,iQ c.scan,.slice ca cl cc,.slice pa pl pc,.slice da dl dc]] h K:=by
 refine call14 ?_
 unfold F14 g14 cf ce bd lS lI da7 YZ6
 have H1:=H.push (.cells (W17 c ca cl cc pa pl pc da dl dc).toArray 28)
 rw [show h.push (.cells #[iQ c.algo,iQ c.threads,iQ c.nodes,iQ c.level,iQ c.batch,iQ c.probes,iQ c.scan,.slice ca cl cc,.slice pa pl pc,.slice da dl dc] 28)=h.push (.cells (W17 c ca cl cc pa pl pc da dl dc).toArray 28) from rfl]
 generalize h.push (.cells (W17 c ca cl cc pa pl pc da dl dc).toArray 28)=h1 at *
 generalize h.size=SB at *
 have I:=hS h1 _ H1
 have ecl:=I.f.cs
 have epl:=I.f.ps
 have edl:=I.ds
 subst ecl epl edl
 have O:=H1.at
 refine ldR O rfl (ldR O rfl (ldR O rfl (ldR O rfl (ldR O rfl (ldR O rfl (ldR O rfl (ldR O rfl (ldR O rfl (ldR O rfl ?_)))))))))
 have hS2:∀h' P,Sat h' (P*(pt SB (.cells (W17 c ca calls.length cc pa Wc6.length pc da draws.length dc).toArray 28)*R))->YV0 h' ca calls.length pa Wc6.length da draws.length calls Wc6 draws:=λh' P HP=>hS h' emp (by rw [Wi4];exact HP.drop.drop)
 refine Wa0 (W06 (c:=c) H1 hS2 hn hn2 hn3 hV λh3 H3=>?_)
 refine sb ?_
 refine Wb7 (λhh=>?_) (λhh=>?_)
 ·have e:YL0 c calls Wc6 draws=false:=by simpa using hh
  exact k0 e h3 H3.drop
 have hsc:YL0 c calls Wc6 draws=true:=by simpa using hh
 have hsc2:=hsc
 unfold YL0 at hsc2
 simp only [Bool.and_eq_true,beq_iff_eq,decide_eq_true_eq,List.all_eq_true] at hsc2
 obtain ⟨hok,hct,hf48,hp6,hd4,hcl,hpk⟩:=hsc2
 have B:=Wv0 hok
 have hthr:1<=c.threads/\c.threads<=6:=B.th
 have C:WK2 calls:=⟨by omega,λl hl=>⟨by
  have:l.length<=calls.flatten.length:=by
   obtain ⟨i,hi,rfl⟩:=List.getElem_of_mem hl
   have e1:=YA0 hi
   have e2:=Y31 (L:=calls) (i+1)
   omega
  omega,λx hx=>⟨hcl l hl x hx,hR.cl l hl x hx⟩⟩⟩
 have O:=H3.at
 refine ldR O rfl (ldR O rfl (ldR O rfl (ldR O rfl (ldR O rfl (ldR O rfl (ldR O rfl (ldR O rfl ?_)))))))
 refine sb ?_
 refine Wa0 (Ym4 (c:=c) (bs:=draws) H3 (λh' P HP=>(hS2 h' P HP).dr) (by omega) hR.dr (λhx=>by rw [hok] at hx;cases hx) λ_ h4 Qq M Ts H4=>?_)
 have TO:TrOk (MacOk Q c) calls 0 (ts0 (Wg7 c draws false).watch calls.length):=TrOk.new hok draws false hct
 have TF:TrFit c (ts0 (Wg7 c draws false).watch calls.length):=TrFit.new draws false _
 generalize hm0:Wg7 c draws false=m0 at *
 refine sb ?_
 refine Ww8 ?_
 refine sb ?_
 refine Ww9 ?_
 refine sb ?_
 refine Wb7 (λhx=>by simp at hx) (λ_=>?_)
 have O:=H4.at2
 refine ldR O rfl (ldR O rfl (ldR O rfl (ldR O rfl (ldR O rfl (ldR O rfl (ldR O rfl (ldR O rfl (ldR O rfl (ldR O rfl (ldR O rfl ?_))))))))))
 refine sb ?_
 refine YL1 hct (by omega) ?_
 refine sb ?_
 have H5:=H4.push (.cells ((List.replicate calls.length (0:Int)).map iv).toArray 3)
 generalize h4.push (.cells ((List.replicate calls.length (0:Int)).map iv).toArray 3)=h5 at *
 generalize h4.size=NB at *
 have O5:=(H5.drop.drop).at
 have H6:=H5.push (.cells #[mP Qq,iQ c.algo,iQ c.threads,iQ c.nodes,iQ c.level,iQ c.batch,iQ c.probes,iQ c.scan,.slice ca calls.length cc,.slice pa Wc6.length pc,.slice da draws.length dc,.slice (some (aQ NB)) calls.length calls.length,.slice none 0 0] 89)
 repeat (first | refine ⟨Wc3 (Wd3 O5 rfl),?_⟩ | refine ⟨Wd3 O5 rfl,?_⟩)
 generalize h5.push (.cells #[mP Qq,iQ c.algo,iQ c.threads,iQ c.nodes,iQ c.level,iQ c.batch,iQ c.probes,iQ c.scan,.slice ca calls.length cc,.slice pa Wc6.length pc,.slice da draws.length dc,.slice (some (aQ NB)) calls.length calls.length,.slice none 0 0] 89)=h6 at *
 generalize h5.size=RB at *
 obtain ⟨X,hX⟩ : ∃X:RX,X=⟨RB,NB,Qq,M,YK9 c.algo,WD7 c.algo,Ts,c,ca,calls.length,cc,pa,Wc6.length,pc,da,draws.length,dc,calls.length⟩:=⟨_,rfl⟩
 generalize hFR:pt SB (.cells (W17 c ca calls.length cc pa Wc6.length pc da draws.length dc).toArray 28)*R=FR at H6 hS2
 refine Wa0 (WB8 (H6.drop.drop) ?_)
 refine sb ?_
 have H6':=Sat.ac H6 (show _=suS Qq M (YK9 c.algo) (WD7 c.algo) Ts m0*(pt RB (.cells #[mP Qq,iQ c.algo,iQ c.threads,iQ c.nodes,iQ c.level,iQ c.batch,iQ c.probes,iQ c.scan,.slice ca calls.length cc,.slice pa Wc6.length pc,.slice da draws.length dc,.slice (some (aQ NB)) calls.length calls.length,.slice none 0 0] 89)*(pt NB (.cells ((List.replicate calls.length (0:Int)).map iv).toArray 3)*FR)) by ac_rfl)
 refine Wa0 (W92 H6' λq R' HM re=>?_)
 refine sb ?_
 refine Wa0 (WT9 HM λh7 H7=>?_)
 have H7:=re _ _ H7
 have H8:Sat h7 (trS X (ts0 m0.watch calls.length)*FR):=by
  have H9:=H7.own_new 51 9
  rw [hX]
  refine Wp4.2 ⟨none,0,by show (List.replicate _ _).length=_;simp,?_⟩
  exact Sat.ac H9 (by show _=pt RB _*(Wf2 51 9 none 0 0 []*(pt NB _*(suS Qq M (YK9 c.algo) (WD7 c.algo) Ts m0.watch*FR)));unfold Mac.watch;ac_rfl)
 clear H1 H3 H4 H5 H6 H6' H7 HM re I O O5
 have eRB:RB=X.RB:=by rw [hX]
 have ei:WD7 c.algo=X.ins:=by rw [hX]
 have DX:DoC X.f d W:=by rw [hX];exact D
 have GX:YJ3 d W X.ins (MacOk Q c):=by rw [hX];exact MacOk.good DO
 have scr:∀ {h':Wa1} {s:TrS},Sat h' (trS X s*FR)->h'[SB]? = some (.cells (W17 c ca calls.length cc pa Wc6.length pc da draws.length dc).toArray 28)/\YV0 h' ca calls.length pa Wc6.length da draws.length calls Wc6 draws:=by
  intro h' s H'
  refine ⟨?_,hS2 h' _ H'⟩
  rw [<- hFR] at H'
  exact H'.drop.at
 obtain ⟨sc,sI⟩:=scr H8
 refine ldR sc rfl ?_
 refine sb ?_
 have hS7:∀h' P,Sat h' (P*FR)->Y55 h' X.ca X.cl X.pa X.pl calls Wc6:=by
  intro h' P HP
  rw [hX]
  exact (hS2 h' P HP).f
 have hXn:X.n=calls.length:=by rw [hX]
 have hins:0<=X.ins/\X.ins<=100:=by
  rw [<- ei]
  unfold WD7
  repeat' split
  all_goals decide
 have hsz:(Wb6 c).size.toNat<=4096:=by
  have b3:=B.tr
  have b6:=B.si
  omega
 refine ⟨λvs h'=>∃(u:Value) (j:Nat) (s:TrS),s=(Wc6.take j).foldl (λs k=>(s.pick d X.ins calls k).note k) (ts0 m0.watch calls.length)/\vs = [u,.int .i64 j]/\j<=Wc6.length/\s.l.length<=j/\TrOk (MacOk Q c) calls j s/\TrFit c s/\Sat h' (trS X s*FR),λvs _=>match vs with | [_,.int _ i]=>((Wc6.length:Int) - i).toNat | _=>0,⟨_,0,_,rfl,rfl,Nat.zero_le _,Nat.le_refl _,TO,TF,H8⟩,?_⟩
 rintro v63 v64 g65 h66 ⟨u,j,sj,hsj,e,hj,hlj,OJ,FJ,HJ⟩
 cases e
 refine sb ?_
 obtain ⟨scJ,sIJ⟩:=scr HJ
 refine Wa7 (λc1=>?_) (λc1=>?_)
 ·have hjlt:j < Wc6.length:=by omega
  obtain ⟨ad,ea,hc⟩:=sIJ.f.pk j (.int .i64 Wc6[j]) (by rw [List.getElem?_map,List.getElem?_eq_getElem hjlt];rfl)
  subst ea
  refine ⟨by omega,by omega,?_⟩
  refine sb ?_
  refine Wb5 hc ?_
  refine sb ?_
  have hp:=hpk _ (List.getElem_mem hjlt)
  have hnext:(Wc6.take (j+1)).foldl (λs k=>(s.pick d X.ins calls k).note k) (ts0 m0.watch calls.length)=(sj.pick d X.ins calls Wc6[j]).note Wc6[j]:=by
   rw [List.take_succ_eq_append_getElem hjlt,List.foldl_append,<- hsj]
   rfl
  obtain ⟨kk,hkk⟩ : ∃kk:Nat,Wc6[j]=kk:=⟨Wc6[j].toNat,by omega⟩
  rw [hkk] at hp hnext ⊢
  rw [eRB]
  have DO':YD8 d Q W X.ins:=by rw [<- ei];exact DO
  obtain ⟨O1,F1,⟨T1⟩⟩:=YX3 DO' hB C (k:=kk) (by omega) (by omega) OJ FJ
  have LG:=Y96 DO' hB C (k:=kk) (by omega) (by omega) OJ FJ
  have hlg:=FJ.lg
  refine Wa0 (W91 DX GX C hXn hins HJ hS7 (j:=j) (k:=kk) (by omega) (by omega) OJ λh67 D67 e67 H67=>?_)
  generalize hs1:sj.pick d X.ins calls kk=s1 at *
  have hlen:s1.m.mm.lg.length<=sj.l.length+1/\sj.l.length<=s1.m.mm.lg.length:=by
   rcases LG with e | ⟨e,_,q⟩
   ·rw [e];omega
   ·rw [q,List.length_append]
    simp only [List.length_cons,List.length_nil]
    omega
  obtain ⟨la,lc,OR⟩:=WK3 H67
  refine ldR OR rfl ?_
  refine sb ?_
  refine Wa0 (W93 H67 (by rw [e67];omega) (by omega) (λe he=>?_) λh68 H68=>?_)
  ·rw [e67,<- hlg] at he
   rcases LG with q | ⟨e2,q1,q⟩
   ·rw [q,List.drop_length] at he
    cases he
   ·rw [q,List.drop_left] at he
    rw [List.mem_singleton.1 he]
    exact Y39 q1 hsz
  rw [show s64 ((j:Int)+1)=((j+1:Nat):Int) from by rw [<- Int.natCast_add_one];exact Wr7 _ (by omega)]
  refine ⟨⟨_,j+1,_,hnext.symm,rfl,by omega,?_,O1,F1,H68⟩,?_⟩
  ·rcases T1 with ⟨q,_⟩ | ⟨_,_,_,q⟩
   ·rw [q];omega
   ·rw [q,List.length_append]
    simp only [List.length_cons,List.length_nil]
    omega
  ·show ((Wc6.length:Int) - ((j+1:Nat):Int)).toNat < ((Wc6.length:Int) - (j:Int)).toNat
   omega
 have ej:j=Wc6.length:=by omega
 subst ej
 rw [List.take_length,<- ei] at hsj
 obtain ⟨la,lc,hl,H0⟩:=Wp4.1 HJ
 rw [eRB]
 refine ldR H0.at rfl ?_
 refine sb ?_
 have H1:=Sat.ac H0 (show _=(pt X.RB (.cells (trC X la sj.l.length lc).toArray 89)*(pt X.NB (.cells (sj.nx.map iv).toArray 3)*suS X.Q X.M X.f X.ins X.Ts sj.m))*(Wf2 51 9 la sj.l.length lc (sj.l.flatMap tsc)*FR) by ac_rfl)
 rw [<- hFR] at H1
 refine k1 hsc h66 la lc sj ?_ hlj OJ FJ ?_
 ·rw [hsj];rfl
 ·exact (Sat.ac H1.drop (show _=pt SB _*(Wf2 51 9 la sj.l.length lc (sj.l.flatMap tsc)*R) by ac_rfl)).drop
end
end
section
set_option maxHeartbeats 1000000
theorem WP8:∀(n t:Nat) (acc:Array Value),(∀v ∈ acc.toList,Wh0 v True)->(Extern.BytealgMakeNoZero.digits n t acc).size=acc.size+n/\∀v ∈ (Extern.BytealgMakeNoZero.digits n t acc).toList,Wh0 v True
 | 0,t,acc,h=>⟨rfl,h⟩
 | n+1,t,acc,h=>by
  unfold Extern.BytealgMakeNoZero.digits
  have:=WP8 n (t / 256) (acc.push (.int .u8 (Int.ofNat (t % 256)))) (λv hv=>by
   rw [Array.toList_push,List.mem_append] at hv
   rcases hv with hv | hv
   ·exact h v hv
   ·rw [List.mem_singleton.1 hv];trivial)
  refine ⟨?_,this.2⟩
  rw [this.1,Array.size_push];omega
theorem Yo1 {P:Program} {f:FuncId} {fn:Func} {h:Wa1} {elem t:TypeId} {n:Int} {ps rs:Array TypeId} {K:kQ} (h1:P.funcs[f]? = some fn) (h2:(fn.name == "runtime.NumGoroutine")=false) (h3:fn.body.isNone=true) (h4:(Extern.findNext fn).isNone=true)
  (h5:Extern.find fn=some (Extern.BytealgMakeNoZero.makeNoZero ps rs)) (h6:rs[0]? = some t) (h7:P.underlying t=some (.slice elem)) (hn:0<=n/\n<=2 ^ 48)
  (k:∀(cap:Nat) (row:Array Value),n.toNat<=cap->row.size=cap->(∀v ∈ row.toList,Wh0 v True)->K (.slice (some (aQ h.size)) n.toNat cap) (h.push (.cells row elem))):YX9 P f #[iQ n] h K:=by
 unfold YX9 callFunc
 have h4':Extern.findNext fn=none:=Option.isNone_iff_eq_none.1 h4
 clear h4
 rw [Wa5,Wl4,h1]
 show hp P (if (fn.name == "runtime.NumGoroutine")=true then _ else _) _ h
 rw [h2]
 show hp P (if fn.body.isNone=true then _ else _) _ h
 rw [h3,if_pos rfl,Wa5]
 show hp P (match Extern.findNext fn with | some e=>e #[.int .i64 n] | _=>_) _ h
 generalize Extern.findNext fn=o1 at *
 subst h4'
 show hp P (match Extern.find fn with | some e=>(do let x <- e #[.int .i64 n];pure (Next.value x)) | none=>_) _ h
 generalize Extern.find fn=o2 at *
 subst h5
 show hp P (do let x <- Extern.BytealgMakeNoZero.makeNoZero ps rs #[iQ n];pure (Next.value x)) _ h
 rw [Wa5]
 have eu:Extern.BytealgMakeNoZero.makeNoZero ps rs #[iQ n]=(do
   let some t:=rs[0]? | stuck "bytealg.MakeNoZero: no result type"
   let .slice elem <- underlying t | stuck "bytealg.MakeNoZero: slice type expected"
   if n < 0 || n > 2 ^ 48 then runtimePanic (.error "makeslice: len out of range")
   let cap <- choose (.appendCap n.toNat 0 elem)
   askRoom cap
   let bytes <- choose (.extern "internal/bytealg.MakeNoZero.bytes" 0)
   let a <- newRow elem (Extern.BytealgMakeNoZero.digits cap bytes #[])
   pure (.slice (some a) n.toNat cap)):=rfl
 rw [eu]
 clear eu
 simp only [h6,Wa5,Wa8 h7,Wb1]
 rw [if_neg (by simp only [Bool.or_eq_true,decide_eq_true_eq];omega)]
 show ∀tp,_
 intro tp
 rw [if_neg (by simp [Question.forced])]
 obtain ⟨cap,hcp⟩ : ∃cap,cap=(Question.appendCap n.toNat 0 elem).cut tp:=⟨_,rfl⟩
 have hcap2:n.toNat<=cap:=by rw [hcp];simp [Question.cut]
 rw [<- hcp]
 show hp P (do
    askRoom cap
    let bytes <- choose (Question.extern "internal/bytealg.MakeNoZero.bytes" 0)
    let a <- newRow elem (Extern.BytealgMakeNoZero.digits cap bytes #[])
    pure (Value.slice (some a) n.toNat cap)) _ h
 simp only [Wa5,Wb1,Wn6]
 show ∀tp,_
 intro tp2
 rw [if_neg (by simp [Question.forced])]
 have dd:=WP8 cap ((Question.extern "internal/bytealg.MakeNoZero.bytes" 0).cut tp2) #[] (λv hv=>by simp at hv)
 exact k cap _ hcap2 (by rw [dd.1];simp) dd.2
theorem Yo2 {h:Wa1} {n:Int} {K:kQ} (hn:0<=n/\n<=2 ^ 48) (k:∀(cap:Nat) (row:Array Value),n.toNat<=cap->row.size=cap->(∀v ∈ row.toList,Wh0 v True)->K (.slice (some (aQ h.size)) n.toNat cap) (h.push (.cells row 5))) :
  Yp1 Tryz.prog (.func (.func 276) #[] #[]) #[iQ n] h K:=by
 unfold Yp1
 exact Yo1 (elem:=5) (t:=26) (ps:=#[3]) (rs:=#[26]) Tryz.func276 (by kernel_rfl) (by kernel_rfl) (by kernel_rfl) (by kernel_rfl) rfl (by kernel_rfl) hn k
theorem YC5 {h:Wa1} {p:Nat} {q:Option Addr} {n:Int} {K:kQ} (e:h[p]? = some (.cells #[.pointer q,.slice none 0 0] 162)) (hq:q=none\/q=some (aQ p)) (hn:0<=n/\n<=2 ^ 40)
  (k:∀h',Bld h' p ⟨#[]⟩->h.size<=h'.size->(∀c,c < p->h'[c]? = h[c]?)->K (.tuple #[]) h') :
  Wa4 Tryz.prog 200 #[.pointer (some (aQ p)),iQ n] h K:=by
 refine call200 ?_
 unfold F200 lS nP
 have hp1:p < h.size:=(Array.getElem?_eq_some_iff.1 e).1
 simp only [Wc5,Wb0]
 refine ldR e rfl ?_
 simp only [Wa9]
 refine ldR e rfl ?_
 simp only [Wa9]
 refine ⟨Wd3 e rfl,?_⟩
 have ew:IntKind.i64.wrap (IntKind.i64.wrap (2*((0:Nat):Int))+n)=n:=by
  rw [show (2*((0:Nat):Int))=0 from rfl,show IntKind.i64.wrap 0=0 by decide,Int.zero_add]
  exact Wi0 (by omega) (by omega)
 rw [ew]
 refine Yo2 (by omega) λcap row hcap hrow hone=>?_
 have e1:(h.push (.cells row 5))[p]? = some (.cells #[.pointer q,.slice none 0 0] 162):=(Wg8 _ _ _ hp1).trans e
 have n1:(h.push (.cells row 5))[h.size]? = some (.cells row 5):=by simp
 have s1:(h.push (.cells row 5)).size=h.size+1:=by simp
 have o1:∀c,c < h.size->(h.push (.cells row 5))[c]? = h[c]?:=λc hc=>Wg8 _ _ _ hc
 generalize h.push (.cells row 5)=h1 at *
 simp only [Wa9]
 refine ⟨Wd3 e1 rfl,by omega,by omega,?_⟩
 refine ldR e1 rfl ?_
 simp only [Wa9]
 rw [WG4]
 have ow:Own h1 5 (siz Tryz.prog 5) (some (aQ h.size)) 0 cap []:=⟨by simp,Nat.zero_le _,.inr ⟨h.size,row,rfl,n1,by rw [Wu5];omega,by simp⟩⟩
 refine YG5 (i:=0) (m:=0) (vs:=[]) WG5 WO2 ow (λi v hv=>by simp at hv) (by simp) (by simp) (λy hy=>by cases hy) (by omega) (.inl rfl) λh2 ow2 fr2 s2=>?_
 simp only [iv,Wa2,Wc5,Wb0]
 have e2:h2[p]? = some (.cells #[.pointer q,.slice none 0 0] 162):=(fr2.2 p (by omega) (λhb=>by obtain ⟨ad,ea,eb⟩:=hb;cases ea;simp at eb;omega)).trans e1
 refine stR e2 rfl trivial λh3 w=>?_
 have ow3:=ow2.keep (h':=h3) λad ea=>by cases ea;exact w.old _ (by show h.size≠p;omega)
 rw [Wu5] at ow3
 refine k h3 ⟨q,_,0,cap - 0,w.new,hq,?_,λad ea=>by cases ea;exact hp1⟩ (by rw [w.size,s2];omega) (λc hc=>?_)
 ·rw [show bcs ⟨#[]⟩ = [] from rfl]
  simpa using ow3
 ·exact (w.old c (by show c≠p;omega)).trans ((fr2.2 c (by omega) (λhb=>by obtain ⟨ad,ea,eb⟩:=hb;cases ea;simp at eb;omega)).trans (o1 c (by omega)))
theorem YC6 {h:Wa1} {p:Nat} {n:Int} {K:kQ} (e:h[p]? = some (.cells #[.pointer none,.slice none 0 0] 162)) (hn:0<=n/\n<=2 ^ 40)
  (k:∀h',Bld h' p ⟨#[]⟩->h.size<=h'.size->(∀c,c < p->h'[c]? = h[c]?)->K (.tuple #[]) h') :
  Wa4 Tryz.prog 129 #[.pointer (some (aQ p)),iQ n] h K:=by
 refine call129 ?_
 unfold F129 cf lS nP
 refine Wa0 (Wv7 e (.inl rfl) λh1 e1 s1 o1=>?_)
 refine ⟨λ_ h'=>h' = h1,Wa7 (λc=>by omega) (λ_=>rfl),?_⟩
 rintro g h4 rfl
 simp only [Wc5,Wb0]
 refine ldR e1 rfl ?_
 simp only [Wa9]
 refine ldR e1 rfl ?_
 simp only [Wa9]
 refine ⟨Wd3 e1 rfl,?_⟩
 refine Wa7 (λc=>?_) (λc=>?_)
 ·exact Wa0 (YC5 e1 (.inr rfl) hn λh5 B h6 h7=>k h5 B (by omega) λc hc=>(h7 c hc).trans (o1 c (by omega)))
 ·exact k h4 ⟨_,none,0,0,e1,.inr rfl,by simpa [bcs] using Own.nil _ _ _,λad ea=>by cases ea⟩ (by omega) λc hc=>o1 c (by omega)
def W94 (sep:ByteArray):List ByteArray->ByteArray
 | []=>⟨#[]⟩
 | x :: l=>l.foldl (λs y=>s ++ sep ++ y) x
def W11 (l:List ByteArray):Nat:=(l.map ByteArray.size).sum
theorem WK6 (l:List ByteArray) {i:Nat} (hi:i < l.length):W11 (l.take (i+1))=W11 (l.take i)+l[i].size:=by
 unfold W11
 rw [List.take_succ_eq_append_getElem hi,List.map_append,List.sum_append]
 simp
theorem WK7 (l:List ByteArray) (i:Nat):W11 (l.take i)<=W11 l:=by
 have e:W11 l=W11 (l.take i)+W11 (l.drop i):=by
  unfold W11
  rw [<- List.sum_append,<- List.map_append,List.take_append_drop]
 omega
theorem WK8 (sep:ByteArray):∀(l:List ByteArray) (x:ByteArray),(l.foldl (λs y=>s ++ sep ++ y) x).size=x.size+sep.size*l.length+W11 l
 | [],x=>by simp [W11]
 | y :: l,x=>by
  rw [List.foldl_cons,WK8 sep l]
  rw [ByteArray.size_append,ByteArray.size_append]
  unfold W11
  rw [List.map_cons,List.sum_cons,List.length_cons,Nat.mul_succ]
  omega
theorem YC7 (x:ByteArray):(⟨#[]⟩ : ByteArray) ++ x=x:=by
 have e:(⟨#[]⟩ : ByteArray)=ByteArray.empty:=rfl
 rw [e,ByteArray.empty_append]
theorem Za4 (a:Addr):a.add 0=a:=by cases a;simp [Addr.add]
theorem Yo3 (sep:ByteArray) (l:List ByteArray):(W94 sep l).size<=sep.size*l.length+W11 l:=by
 cases l with
 | nil=>exact Nat.zero_le _
 | cons x l=>
  have:=WK8 sep l x
  show (l.foldl (λs y=>s ++ sep ++ y) x).size<=_
  rw [this]
  unfold W11
  rw [List.map_cons,List.sum_cons,List.length_cons,Nat.mul_succ]
  omega
theorem Yo4 (sep:ByteArray) (l:List ByteArray) {i:Nat} (hi:i+1 < l.length):W94 sep (l.take (i+2))=W94 sep (l.take (i+1)) ++ sep ++ l[i+1]:=by
 cases l with
 | nil=>simp at hi
 | cons x l=>
  have hi2:i < l.length:=by simp at hi;omega
  rw [List.take_succ_cons,List.take_succ_cons,List.take_succ_eq_append_getElem hi2]
  show (l.take i ++ [l[i]]).foldl (λs y=>s ++ sep ++ y) x=_
  rw [List.foldl_append]
  rfl
theorem YC8 {h:Wa1} {a:Option Addr} {n c:Nat} {l:List ByteArray} {sep:ByteArray} {K:kQ} (hs:Sees h a (l.map .string)) (hn:l.length=n) (hc:n<=c) (h0:sep.size≠0) (hb:sep.size*n+W11 l<=2 ^ 29) (k:∀h',Old h.size h h'->K (.string (W94 sep l)) h') :
  Wa4 Tryz.prog 76 #[.slice a n c,.string sep] h K:=by
 refine call76 ?_
 unfold F76 cf bd
 subst hn
 have hlen:l.length<=2 ^ 29:=by
  have:l.length<=sep.size*l.length:=Nat.le_mul_of_pos_left _ (by omega)
  omega
 have ld:∀ {h':Wa1},Old h.size h h'->∀(i:Nat) (hi:i < l.length) {F:Value->Prop},F (.string l[i])->Wd1 (.pointer a) λa0=>ldH h' (a0.add i) F:=by
  intro h' o i hi F f
  obtain ⟨ad,e,hc⟩:=hs i (.string l[i]) (by rw [List.getElem?_map,List.getElem?_eq_getElem hi];rfl)
  subst e
  have hb:=hs.old o
  obtain ⟨_,e2,hc2⟩:=hb i (.string l[i]) (by rw [List.getElem?_map,List.getElem?_eq_getElem hi];rfl)
  cases e2
  exact Wb5 hc2 f
 have ld0:∀ {h':Wa1},Old h.size h h'->∀(hi:0 < l.length) {F:Value->Prop},F (.string l[0])->Wd1 (.pointer a) λa0=>ldH h' a0 F:=by
  intro h' o hi F f
  have:=ld o 0 hi f
  simp only [Za4] at this
  exact this
 refine Wb7 (λq=>?_) (λq=>?_)
 ·have e:l = []:=List.length_eq_zero_iff.1 (by simpa using q)
  rw [e] at k
  exact k h (Old.refl _ _)
 refine Wb7 (λq1=>?_) (λq1=>?_)
 ·have e1:l.length=1:=by simp at q1;omega
  refine ⟨by omega,by omega,?_⟩
  obtain ⟨x,e⟩:=List.length_eq_one_iff.1 e1
  subst e
  exact ld0 (Old.refl _ _) (by simp) (F:=λv1=>Wd9 v1 λs2=>K (.string s2) h) (k h (Old.refl _ _))
 have h2:2<=l.length:=by
  have a1:¬ l.length=0:=λe=>by simp [e] at q
  have a2:¬ l.length=1:=λe=>by simp [e] at q1
  omega
 have hn1:IntKind.i64.wrap ((l.length:Int) - 1)=((l.length - 1:Nat):Int):=by rw [Wi0 (by omega) (by omega)];omega
 have hmul:sep.size*(l.length - 1)<=sep.size*l.length:=Nat.mul_le_mul_left _ (by omega)
 rw [hn1]
 refine ⟨λvs h'=>∃n0:Nat,n0<=sep.size*l.length/\vs = [iQ n0]/\h' = h,?_,?_⟩
 ·refine Wa7 (λq2=>?_) (λq2=>⟨0,by omega,rfl,rfl⟩)
  refine ⟨λ_ h'=>h' = h,?_,?_⟩
  ·refine ⟨by omega,Wa7 (λq3=>?_) λ_=>rfl⟩
   exfalso
   have t1:Int.tdiv 9223372036854775807 ((l.length - 1:Nat):Int)=9223372036854775807 / ((l.length - 1:Nat):Int):=Int.tdiv_eq_ediv_of_nonneg (by omega)
   have t2:(2:Int) ^ 30<=9223372036854775807 / ((l.length - 1:Nat):Int):=by
    rw [Int.le_ediv_iff_mul_le (by omega)]
    omega
   have t3:9223372036854775807 / ((l.length - 1:Nat):Int)<=9223372036854775807:=Int.ediv_le_self _ (by omega)
   rw [t1,Wi0 (by omega) (by omega)] at q3
   have:sep.size<=sep.size*l.length:=Nat.le_mul_of_pos_right _ (by omega)
   omega
  ·rintro g h' rfl
   refine ⟨sep.size*(l.length - 1),hmul,?_,rfl⟩
   have e1:IntKind.i64.wrap ((sep.size:Int)*((l.length - 1:Nat):Int))=((sep.size*(l.length - 1):Nat):Int):=by
    rw [<- Int.natCast_mul,Wi0 (by omega) (by omega)]
   rw [e1,Int.zero_add,Wi0 (by omega) (by omega)]
 rintro v7 g8 h9 ⟨n0,hn0,e,rfl⟩
 cases e
 refine ⟨λvs h'=>∃(m i:Nat) (u:Value),vs = [.int .i64 m,u,.int .i64 i]/\i<=l.length/\m<=n0+W11 (l.take i)/\h' = h9,λvs _=>match vs with | [_,_,.int _ i]=>((l.length:Int) - i).toNat | _=>0,⟨n0,0,_,rfl,Nat.zero_le _,by omega,rfl⟩,?_⟩
 rintro v12 v13 v14 g15 h16 ⟨m,i,u,e,hi,hm,rfl⟩
 cases e
 have hsl:=WK7 l i
 simp only [Wa2]
 refine Wa7 (λc1=>?_) (λc1=>?_)
 ·have hilt:i < l.length:=by omega
  have hst:=WK6 l hilt
  have hsl2:=WK7 l (i+1)
  simp only [asI]
  refine ⟨by omega,by omega,?_⟩
  simp only [Int.toNat_natCast,Nat.mul_one]
  refine ld (Old.refl _ _) i hilt ?_
  simp only [Wd9]
  refine ⟨λ_ h'=>h' = h16,Wa7 (λq3=>?_) (λ_=>rfl),?_⟩
  ·rw [Wi0 (by omega) (by omega)] at q3
   omega
  rintro g h' rfl
  rw [Wi0 (by omega) (by omega),Wi0 (by omega) (by omega)]
  refine ⟨⟨m+l[i].size,i+1,_,by rw [Int.natCast_add,Int.natCast_add];rfl,by omega,by omega,rfl⟩,?_⟩
  show ((l.length:Int) - ((i:Int)+1)).toNat < ((l.length:Int) - (i:Int)).toNat
  omega
 have pp:(h16.push (.cells #[.pointer none,.slice none 0 0] 162))[h16.size]? = some (.cells #[.pointer none,.slice none 0 0] 162):=by simp
 have o1:Old h16.size h16 (h16.push (.cells #[.pointer none,.slice none 0 0] 162)):=(Old.refl _ _).push _ (Nat.le_refl _)
 generalize h16.push (.cells #[.pointer none,.slice none 0 0] 162)=h17 at *
 refine Wa0 (YC6 pp (by omega) λh30 B30 s30 o30=>?_)
 have o2:Old h16.size h16 h30:=⟨by have:=o1.1;omega,λb hb=>(o30 b hb).trans (o1.2 b hb)⟩
 refine ⟨by omega,by omega,?_⟩
 refine ld0 o2 (by omega) ?_
 simp only [Wd9]
 have z0:l[0].size<=W11 l:=by
  have:=WK6 l (i:=0) (by omega)
  have:=WK7 l (0+1)
  omega
 refine Wa0 (Wm9 B30 (by show 0+l[0].size<=_;omega) λh35 B35 s35 o35=>?_)
 rw [YC7] at B35
 have o3:Old h16.size h16 h35:=⟨by have:=o2.1;omega,λb hb=>(o35 b hb).trans (o2.2 b hb)⟩
 refine ⟨by omega,by omega,?_⟩
 refine ⟨λvs h'=>∃(i:Nat) (u:Value),vs = [u,.int .i64 i]/\i<=l.length - 1/\Bld h' h16.size (W94 sep (l.take (i+1)))/\Old h16.size h16 h',λvs _=>match vs with | [_,.int _ i]=>((l.length:Int) - i).toNat | _=>0,⟨0,_,rfl,by omega,?_,o3⟩,?_⟩
 ·rw [List.take_succ_eq_append_getElem (by omega)]
  exact B35
 rintro v38 v39 g40 h41 ⟨i,u,e,hi,B41,o41⟩
 cases e
 have jz:=Yo3 sep (l.take (i+1))
 have js:=WK7 l (i+1)
 have jl:sep.size*(l.take (i+1)).length<=sep.size*(i+1):=Nat.mul_le_mul_left _ (by rw [List.length_take];omega)
 simp only [Wa2]
 refine Wa7 (λc1=>?_) (λc1=>?_)
 ·have hilt:i+1 < l.length:=by omega
  have hst:=WK6 l hilt
  have hsl2:=WK7 l (i+1+1)
  have jm:sep.size*(i+1)+sep.size<=sep.size*l.length:=by rw [<- Nat.mul_succ];exact Nat.mul_le_mul_left _ (by omega)
  simp only [asI]
  refine ⟨by omega,by omega,?_⟩
  simp only [Int.toNat_natCast,Nat.mul_one]
  have hsub:=(hs.old o41).subn (n:=1) (i:=1) (m:=c) (by rw [List.length_map];omega) (by omega)
  obtain ⟨ad,e,hc1⟩:=hsub i (.string l[i+1]) (by rw [List.getElem?_drop,List.getElem?_map,show 1*1+i=i+1 by omega,List.getElem?_eq_getElem hilt];rfl)
  rw [e]
  simp only [Wb0]
  refine Wb5 hc1 ?_
  simp only [Wd9]
  refine Wa0 (Wm9 B41 (by omega) λh48 B48 s48 o48=>?_)
  refine Wa0 (Wm9 B48 (by rw [ByteArray.size_append];omega) λh50 B50 s50 o50=>?_)
  rw [<- Yo4 sep l hilt] at B50
  rw [Wi0 (by omega) (by omega)]
  refine ⟨⟨i+1,_,rfl,by omega,B50,⟨by have:=o41.1;omega,λb hb=>(o50 b hb).trans ((o48 b hb).trans (o41.2 b hb))⟩⟩,?_⟩
  show ((l.length:Int) - ((i:Int)+1)).toNat < ((l.length:Int) - (i:Int)).toNat
  omega
 have ei:l.take (i+1)=l:=List.take_of_length_le (by omega)
 rw [ei] at B41 jz
 have hz:(W94 sep l).size≠0:=by
  cases l with
  | nil=>simp at h2
  | cons x l=>
   have:=WK8 sep l x
   show (l.foldl (λs y=>s ++ sep ++ y) x).size≠0
   rw [this]
   have hl1:1<=l.length:=by simp at h2;omega
   have:sep.size*1<=sep.size*l.length:=Nat.mul_le_mul_left _ hl1
   omega
 refine Wa0 (W43 B41 hz (by omega) λh53 s53 o53=>?_)
 simp only [Wd9]
 exact k h53 ⟨by have:=o41.1;omega,λb hb=>(o53 b (by omega)).trans (o41.2 b hb)⟩
end
section
set_option maxHeartbeats 1000000
open Mod
section
variable {K:kQ} {h:Wa1} {R:Hp}
theorem Wz4 {x:Int} (h0:0<=x) (h1:x < 4294967296) (k:∀h',Old h.size h h'->K (.string (dgI x)) h'):Wa4 Tryz.prog 73 #[iv x] h K:=by
 refine call73 ?_
 unfold F73 cf
 obtain ⟨n,rfl⟩ : ∃n:Nat,x=n:=⟨x.toNat,by omega⟩
 rw [Ys9 (n:=n) (by omega)]
 refine Wa0 (WR3 (a:=n) (b:=0) (by omega) (by omega) λh1 o1=>?_)
 simp only [Wd9]
 have e:dg n ++ (⟨#[32]⟩ : ByteArray) ++ dg 0=dg n ++ (⟨#[32,48]⟩ : ByteArray):=by
  rw [ByteArray.append_assoc];rfl
 rw [e]
 have:=W39 n
 refine Wa0 (WG7 (by omega) (show (2:Nat) < 2 ^ 60 by omega) ?_)
 exact k _ o1
theorem Yo5 (k:∀h',Old h.size h h'->K (.string ⟨#[119,111,114,100,32,48]⟩) h'):Wa4 Tryz.prog 75 #[iQ 0,iQ 0,iQ 0] h K:=by
 refine call75 ?_
 unfold F75 cf
 refine Wb7 (λ_=>?_) (λhh=>by simp at hh)
 refine Wa0 (Wz4 (x:=0) (by omega) (by omega) λh1 o1=>?_)
 simp only [Wd9]
 refine ⟨by rw [show (dgI 0).size=1 by decide +kernel];omega,?_⟩
 rw [show (⟨#[119,111,114,100,32]⟩ : ByteArray) ++ dgI 0=⟨#[119,111,114,100,32,48]⟩ by decide +kernel]
 exact k h1 o1
theorem Yo6 (k:∀h',Old h.size h h'->K (.agg #[.string ⟨#[108,111,97,100]⟩,.string ⟨#[115,116,111,114,101]⟩,.string ⟨#[99,97,115]⟩,.string ⟨#[97,100,100]⟩,.string ⟨#[100,99,97,115]⟩,.string ⟨#[100,99,115,115]⟩]) h'):Wa4 Tryz.prog 74 #[] h K:=by
 refine call74 ?_
 unfold F74 dl6
 have p1:=We4 h #[.string ⟨#[]⟩,.string ⟨#[]⟩,.string ⟨#[]⟩,.string ⟨#[]⟩,.string ⟨#[]⟩,.string ⟨#[]⟩] 136
 generalize h.push (.cells #[.string ⟨#[]⟩,.string ⟨#[]⟩,.string ⟨#[]⟩,.string ⟨#[]⟩,.string ⟨#[]⟩,.string ⟨#[]⟩] 136)=h1 at *
 refine We3 (vs:=[.string ⟨#[108,111,97,100]⟩,.string ⟨#[115,116,111,114,101]⟩,.string ⟨#[99,97,115]⟩,.string ⟨#[97,100,100]⟩,.string ⟨#[100,99,97,115]⟩,.string ⟨#[100,99,115,115]⟩]) p1.new rfl (by simp [Wh0]) λh2 w=>?_
 have Q:=w.new
 refine ldR Q rfl (ldR Q rfl (ldR Q rfl (ldR Q rfl (ldR Q rfl (ldR Q rfl ?_)))))
 exact k h2 (w.toOld p1.toOld (Nat.le_refl _))
theorem W12 (k:K (.bool false) h):Wa4 Tryz.prog 52 #[iQ 0] h K:=by
 refine call52 ?_
 unfold F52
 exact Wb7 (λhh=>by simp at hh) (λ_=>k)
theorem W95 (k:K (.bool false) h):Wa4 Tryz.prog 54 #[iQ 0] h K:=by
 refine call54 ?_
 unfold F54 cf
 exact Wb7 (λhh=>by simp at hh) (λ_=>Wa0 (W12 k))
theorem Yo7 (k:∀h',Old h.size h h'->K (.string ⟨#[48,32,108,111,97,100,32,119,111,114,100,32,48]⟩) h') :
  Wa4 Tryz.prog 37 #[.agg #[iQ 0,iQ 0,.bool false,iQ 0,iQ 0,iQ 0,iQ 5,iQ 0,iQ 0]] h K:=by
 refine call37 ?_
 unfold F37 g37 cf ce bd lI de6
 have p1:=We4 h #[iQ 0,iQ 0,.bool false,iQ 0,iQ 0,iQ 0,iQ 5,iQ 0,iQ 0] 51
 generalize h.push (.cells #[iQ 0,iQ 0,.bool false,iQ 0,iQ 0,iQ 0,iQ 5,iQ 0,iQ 0] 51)=h1 at *
 have o1:=p1.toOld
 have Q:=p1.new
 refine ⟨λvs h'=>(∃v1 v2 v3,vs = [v1,v2,v3,.bool false])/\h' = h1,?_,?_⟩
 ·refine ldR Q rfl ?_
  simp only [Wa2]
  refine Wb7 (λhh=>by simp at hh) (λ_=>?_)
  refine ldR Q rfl ?_
  simp only [Wa2]
  refine Wb7 (λhh=>by simp at hh) (λ_=>?_)
  refine ldR Q rfl ?_
  simp only [Wa2]
  refine Wb7 (λhh=>by simp at hh) (λ_=>?_)
  refine ldR Q rfl ?_
  simp only [Wa2]
  refine Wb7 (λhh=>by simp at hh) (λ_=>?_)
  refine ldR Q rfl ?_
  simp only [Wa2]
  refine ldR Q rfl ?_
  simp only [Wa2]
  refine ldR Q rfl ?_
  simp only [Wa2]
  refine ldR Q rfl ?_
  simp only [Wa2]
  unfold Wg1
  simp only [Yc4,Wa2]
  unfold Wg1.go Wg1.go Wg1.go Wg1.go
  simp only [Wa2]
  exact ⟨⟨_,_,_,rfl⟩,by trivial⟩
 rintro v20 v21 v22 v23 g24 h25 ⟨⟨v1,v2,v3,e⟩,rfl⟩
 cases e
 simp only [Wa6,Wc0]
 refine ldR Q rfl ?_
 simp only [Wa2]
 refine ldR Q rfl ?_
 simp only [Wa2]
 refine ldR Q rfl ?_
 simp only [Wa2]
 refine ldR Q rfl ?_
 simp only [Wa2]
 refine ldR Q rfl ?_
 simp only [Wa2]
 have hlt:h.size < h25.size:=(Array.getElem?_eq_some_iff.1 Q).1
 refine Wa0 (Wz4 (x:=0) (by omega) (by omega) λh3 o3=>?_)
 have Q3:=(o3.2 h.size hlt).trans Q
 simp only [Wd9]
 repeat (first | refine ⟨Wd3 Q3 rfl,?_⟩)
 refine Wa0 (Yo6 λh4 o4=>?_)
 have Q4:=(o4.2 h.size (by have:=o3.1;omega)).trans Q3
 simp only [Wy6]
 refine Wu4 rfl (Wc7 rfl (Wc7 rfl (Wc7 rfl (Wc7 rfl (Wc7 rfl (Wc7 rfl ?_))))))
 repeat (first | refine ⟨Wd3 Q4 rfl,?_⟩)
 refine ⟨by omega,by omega,?_⟩
 refine Yt4 (cs:=[.string ⟨#[108,111,97,100]⟩,.string ⟨#[115,116,111,114,101]⟩,.string ⟨#[99,97,115]⟩,.string ⟨#[97,100,100]⟩,.string ⟨#[100,99,97,115]⟩,.string ⟨#[100,99,115,115]⟩]) (i:=0) (v:=.string ⟨#[108,111,97,100]⟩) (by kernel_rfl) (by kernel_rfl) rfl ?_
 simp only [Wd9]
 refine Wa0 (Yo5 λh5 o5=>?_)
 have hl4:h.size < h4.size:=(Array.getElem?_eq_some_iff.1 Q4).1
 have Q5:=(o5.2 h.size hl4).trans Q4
 simp only [Wd9]
 refine ⟨Wd3 Q5 rfl,?_⟩
 have hl5:h.size < h5.size:=(Array.getElem?_eq_some_iff.1 Q5).1
 have oo5:Old h.size h h5:=((o1.trans (o3.mono (by omega))).trans (o4.mono (by have:=o3.1;omega))).trans (o5.mono (by omega))
 rw [show dgI 0=⟨#[48]⟩ by decide +kernel]
 have p6:=We4 h5 #[.string ⟨#[48]⟩,.string ⟨#[108,111,97,100]⟩,.string ⟨#[119,111,114,100,32,48]⟩] 9
 have o6:=p6.toOld
 have Q6:=(o6.2 h.size hl5).trans Q5
 generalize h5.push (.cells #[.string ⟨#[48]⟩,.string ⟨#[108,111,97,100]⟩,.string ⟨#[119,111,114,100,32,48]⟩] 9)=h6 at *
 refine ⟨λvs h'=>vs = [.slice (some (aQ h5.size)) 3 3]/\h' = h6,?_,?_⟩
 ·refine ldR Q6 rfl ?_
  simp only [Wa2]
  refine Wa0 (W12 ?_)
  simp only [Wa6,Wc0]
  exact ⟨by trivial,by trivial⟩
 rintro v74 g75 h76 ⟨e,rfl⟩
 cases e
 refine ⟨λvs h'=>(∃u,vs = [.slice (some (aQ h5.size)) 3 3,u])/\h' = h76,?_,?_⟩
 ·refine ldR Q6 rfl ?_
  simp only [Wa2]
  refine Wa0 (W95 ?_)
  simp only [Wa6,Wc0]
  exact ⟨⟨_,rfl⟩,by trivial⟩
 rintro v98 v99 g100 h101 ⟨⟨u,e⟩,rfl⟩
 cases e
 simp only [Wa9]
 refine Wa0 (YC8 (l:=[⟨#[48]⟩,⟨#[108,111,97,100]⟩,⟨#[119,111,114,100,32,48]⟩]) (sep:=⟨#[32]⟩) (λi v hi=>⟨_,rfl,?_⟩) rfl (by omega) (by decide) (by decide) λh7 o7=>?_)
 ·rw [Wc1,Nat.zero_add]
  exact Wd3 p6.new hi
 simp only [Wd9]
 rw [show W94 ⟨#[32]⟩ [⟨#[48]⟩,⟨#[108,111,97,100]⟩,⟨#[119,111,114,100,32,48]⟩]=⟨#[48,32,108,111,97,100,32,119,111,114,100,32,48]⟩ by decide +kernel]
 have hl6:h.size < h101.size:=(Array.getElem?_eq_some_iff.1 Q6).1
 exact k h7 ((oo5.trans (o6.mono (by omega))).trans (o7.mono (by omega)))
noncomputable def x34:TrS:=YB7 Wg0 11 [[⟨0,1,0⟩]] (Wg7 ⟨0,1,2,1,1,1,1⟩ [] false).watch [0]
theorem Y97:x34.l = [⟨0,0,false,(0,0,0),(5,0,0)⟩]:=by
 unfold x34 YB7
 rw [List.foldl_cons,List.foldl_nil]
 have e0:TrS.enter 11 [[⟨0,1,0⟩]] ⟨(Wg7 ⟨0,1,2,1,1,1,1⟩ [] false).watch,List.replicate 1 0,[]⟩ 0=some ⟨((Wg7 ⟨0,1,2,1,1,1,1⟩ [] false).watch).setTh [(Wu6 ⟨0,1,2,1,1,1,1⟩).push 11 [1,0]],[1],[]⟩:=by
  unfold TrS.enter
  rw [if_pos (show (We2 (Wg7 ⟨0,1,2,1,1,1,1⟩ [] false).watch 0).fr = [] from rfl),if_neg (by decide)]
  rfl
 have e1:TrS.pick Wg0 11 [[⟨0,1,0⟩]] ⟨(Wg7 ⟨0,1,2,1,1,1,1⟩ [] false).watch,List.replicate 1 0,[]⟩ 0=TrS.go Wg0 ⟨((Wg7 ⟨0,1,2,1,1,1,1⟩ [] false).watch).setTh [(Wu6 ⟨0,1,2,1,1,1,1⟩).push 11 [1,0]],[1],[]⟩ 0:=by
  unfold TrS.pick
  show (match TrS.enter 11 [[⟨0,1,0⟩]] ⟨(Wg7 ⟨0,1,2,1,1,1,1⟩ [] false).watch,List.replicate 1 0,[]⟩ 0 with | none=>(⟨(Wg7 ⟨0,1,2,1,1,1,1⟩ [] false).watch,List.replicate 1 0,[]⟩ : TrS) | some s1=>s1.go Wg0 0)=_
  rw [e0]
 show ((TrS.pick Wg0 11 [[⟨0,1,0⟩]] ⟨(Wg7 ⟨0,1,2,1,1,1,1⟩ [] false).watch,List.replicate 1 0,[]⟩ 0).note 0).l=_
 rw [e1]
 have hb:((Mod.bits Wg0 9 ⟨Mac.quiet (((Wg7 ⟨0,1,2,1,1,1,1⟩ [] false).watch).setTh [(Wu6 ⟨0,1,2,1,1,1,1⟩).push 11 [1,0]]),(Wu6 ⟨0,1,2,1,1,1,1⟩).push 11 [1,0],0⟩).map λz=>(z.m.mm.lg.map (Wi7 z.m.p 0)).map λx=>(x.th,x.kind,x.done,x.w1,x.w2))=some [(0,0,false,(0,0,0),(5,0,0))]:=by kernel_rfl
 obtain ⟨z,hz,hl⟩ : ∃z,Mod.bits Wg0 9 ⟨Mac.quiet (((Wg7 ⟨0,1,2,1,1,1,1⟩ [] false).watch).setTh [(Wu6 ⟨0,1,2,1,1,1,1⟩).push 11 [1,0]]),(Wu6 ⟨0,1,2,1,1,1,1⟩).push 11 [1,0],0⟩=some z/\(z.m.mm.lg.map (Wi7 z.m.p 0)).map (λx=>(x.th,x.kind,x.done,x.w1,x.w2)) = [(0,0,false,(0,0,0),(5,0,0))]:=by
  rw [Option.map_eq_some_iff] at hb
  exact hb
 have hs:=WE8 hz
 show (TrS.note { m:=(Wq2 Wg0 ⟨Mac.quiet (((Wg7 ⟨0,1,2,1,1,1,1⟩ [] false).watch).setTh [(Wu6 ⟨0,1,2,1,1,1,1⟩).push 11 [1,0]]),(Wu6 ⟨0,1,2,1,1,1,1⟩).push 11 [1,0],0⟩).m.setTh _,nx:=_,l:=_ } 0).l=_
 rw [hs]
 show [] ++ (z.m.mm.lg.drop 0).map (Wi7 z.m.p 0)=_
 rw [List.drop_zero,List.nil_append]
 generalize z.m.mm.lg.map (Wi7 z.m.p 0)=L at hl ⊢
 match L,hl with
 | [⟨a,b,c,d,e⟩],hl=>
  simp only [List.map_cons,List.map_nil,List.cons.injEq,Prod.mk.injEq,and_true] at hl
  obtain ⟨rfl,rfl,rfl,rfl,rfl⟩:=hl
  rfl
theorem WD1 (H:Sat h R) (k:∀h',Sat h' R->K (.bool true) h'):Wa4 Tryz.prog 13 #[] h K:=by
 refine call13 ?_
 unfold F13 g13 cf bd da9
 have H1:=H.push (.cells (clc ⟨0,1,0⟩).toArray 41)
 rw [show h.push (.cells #[iQ 0,.int .u32 1,.int .u32 0] 41)=h.push (.cells (clc ⟨0,1,0⟩).toArray 41) from rfl]
 generalize h.push (.cells (clc ⟨0,1,0⟩).toArray 41)=h1 at *
 generalize h.size=B1 at *
 have H2:=H1.push (.cells [Value.slice (some (aQ B1)) 1 1].toArray 58)
 rw [show h1.push (.cells #[.slice (some (aQ B1)) 1 1] 58)=h1.push (.cells [Value.slice (some (aQ B1)) 1 1].toArray 58) from rfl]
 generalize h1.push (.cells [Value.slice (some (aQ B1)) 1 1].toArray 58)=h2 at *
 generalize h1.size=B2 at *
 have H3:=H2.push (.cells [Value.int .i64 0].toArray 3)
 rw [show h2.push (.cells #[iQ 0] 3)=h2.push (.cells [Value.int .i64 0].toArray 3) from rfl]
 generalize h2.push (.cells [Value.int .i64 0].toArray 3)=h3 at *
 generalize h2.size=B3 at *
 have hc:okC ⟨0,1,2,1,1,1,1⟩=true:=by decide
 have hsc:YL0 ⟨0,1,2,1,1,1,1⟩ [[⟨0,1,0⟩]] [0] []=true:=by decide
 have hS:∀h' P,Sat h' (P*(pt B3 (.cells [Value.int .i64 0].toArray 3)*(pt B2 (.cells [Value.slice (some (aQ B1)) 1 1].toArray 58)*(pt B1 (.cells (clc ⟨0,1,0⟩).toArray 41)*R))))->YV0 h' (some (aQ B2)) 1 (some (aQ B3)) 1 none 0 [[⟨0,1,0⟩]] [0] []:=by
  intro h' P HP
  refine ⟨⟨rfl,λi hi=>?_,rfl,?_⟩,rfl,λi v hv=>by simp at hv⟩
  ·have hi:i < 1:=hi
   have e0:i=0:=by omega
   subst e0
   refine ⟨some (aQ B1),1,⟨_,rfl,?_⟩,?_⟩
   ·rw [Wc1]
    exact Wd3 HP.drop.drop.at rfl
   ·exact Yg1 HP.drop.drop.drop.at
  ·exact Yg1 HP.drop.at
 refine Wa0 (YC4 (c:=⟨0,1,2,1,1,1,1⟩) (calls:=[[⟨0,1,0⟩]]) (Wc6:=[0]) (draws:=[]) H3 hS ⟨λl hl x hx=>?_,λx hx=>by cases hx⟩ (by decide) (by decide) (by decide) (λl hl=>?_) YB2 Yn5 YB6 (λhh=>by rw [hsc] at hh;cases hh) λ_ h4 la lc s es _ _ _ H4=>?_)
 ·rw [List.mem_singleton.1 hl] at hx
  rw [List.mem_singleton.1 hx]
  exact ⟨⟨by decide,by decide⟩,⟨by decide,by decide⟩⟩
 ·rw [List.mem_singleton.1 hl]
  decide
 have el:s.l = [⟨0,0,false,(0,0,0),(5,0,0)⟩]:=by
  rw [es];exact Y97
 rw [el] at H4 ⊢
 refine sb ?_
 refine Ww8 ?_
 refine sb ?_
 refine Ww9 ?_
 refine sb ?_
 refine Wb7 (λ_=>?_) (λhh=>by simp at hh)
 refine Wb7 (λ_=>?_) (λhh=>by simp at hh)
 have hs:=H4.own.sees
 obtain ⟨ad,ea,q0⟩:=hs 0 _ rfl
 subst ea
 rw [Za4] at q0
 obtain ⟨_,ea,q1⟩:=hs 1 _ rfl
 cases ea
 obtain ⟨_,ea,q2⟩:=hs 2 _ rfl
 cases ea
 obtain ⟨_,ea,q3⟩:=hs 3 _ rfl
 cases ea
 obtain ⟨_,ea,q4⟩:=hs 4 _ rfl
 cases ea
 obtain ⟨_,ea,q5⟩:=hs 5 _ rfl
 cases ea
 obtain ⟨_,ea,q6⟩:=hs 6 _ rfl
 cases ea
 obtain ⟨_,ea,q7⟩:=hs 7 _ rfl
 cases ea
 obtain ⟨_,ea,q8⟩:=hs 8 _ rfl
 cases ea
 refine ⟨by decide,?_⟩
 show ldH h4 ad _
 refine Wb5 q0 (Wb5 q1 (Wb5 q2 (Wb5 q3 (Wb5 q4 (Wb5 q5 (Wb5 q6 (Wb5 q7 (Wb5 q8 ?_))))))))
 refine Wa0 (Yo7 λh5 o5=>?_)
 simp only [Wd9]
 rw [beq_self_eq_true]
 exact k h5 (H4.old o5).drop.drop.drop.drop
end
end
section
set_option maxHeartbeats 1000000
open Mod
section
variable {K:kQ} {h:Wa1} {R:Hp}
theorem rdS {a:Option Addr} {xs:List TSt} {i:Nat} (hs:Sees h a (xs.flatMap tsc)) (hi:i < xs.length) {F:Value->Value->Value->Value->Value->Value->Value->Value->Value->Prop}
  (k:F (iQ xs[i].th) (iQ xs[i].kind) (.bool xs[i].done) (iQ xs[i].w1.1) (iQ xs[i].w1.2.1) (iQ xs[i].w1.2.2) (iQ xs[i].w2.1) (iQ xs[i].w2.2.1) (iQ xs[i].w2.2.2)) :
  Wd1 (.pointer a) λad=>ldH h (ad.add (i*9)) λv0=>ldH h ((ad.add (i*9)).add 1) λv1=>ldH h ((ad.add (i*9)).add 2) λv2=>ldH h ((ad.add (i*9)).add 3) λv3=>ldH h ((ad.add (i*9)).add 4) λv4=>ldH h ((ad.add (i*9)).add 5) λv5=>ldH h ((ad.add (i*9)).add 6) λv6=>ldH h ((ad.add (i*9)).add 7) λv7=>ldH h ((ad.add (i*9)).add 8) λv8=>F v0 v1 v2 v3 v4 v5 v6 v7 v8:=by
 have g:∀j,j < 9->(xs.flatMap tsc)[i*9+j]? = (tsc xs[i])[j]?:=λj hj=>Wi3 Wt8 hi hj
 generalize xs[i]=x at *
 obtain ⟨ad,ea,q0⟩:=hs (i*9+0) (.int .i64 x.th) (g 0 (by omega))
 subst ea
 have q:∀j v,j < 9->(tsc x)[j]? = some v->Wa3 h ((ad.add (i*9)).add j)=some v:=λj v hj e=>by
  obtain ⟨_,ea,q1⟩:=hs (i*9+j) v ((g j hj).trans e)
  cases ea
  rw [Wr0];exact q1
 exact Wb5 q0 (Wb5 (q 1 _ (by omega) rfl) (Wb5 (q 2 _ (by omega) rfl) (Wb5 (q 3 _ (by omega) rfl) (Wb5 (q 4 _ (by omega) rfl) (Wb5 (q 5 _ (by omega) rfl) (Wb5 (q 6 _ (by omega) rfl) (Wb5 (q 7 _ (by omega) rfl) (Wb5 (q 8 _ (by omega) rfl) k))))))))
theorem W96 (x:TSt):∀y ∈ tsc x,Wh0 y True:=by
 intro y hy
 simp only [tsc,List.mem_cons,List.not_mem_nil,or_false] at hy
 rcases hy with rfl | rfl | rfl | rfl | rfl | rfl | rfl | rfl | rfl <;> trivial
def YO2 (g:Value) (R:Hp) (P:TSt->Bool):Prop:=∀(x:TSt) (h:Wa1) (Y:Hp) (F:kQ),Sat h (Y*R)->(∀h',Old h.size h h'->F (.bool (P x)) h')->Wl3 Tryz.prog g #[.agg (tsc x).toArray] h F
theorem Yo8 {xs:List TSt} {a:Option Addr} {c:Nat} {g:Value} {P:TSt->Bool} (H:Sat h (Wf2 51 9 a xs.length c (xs.flatMap tsc)*R)) (hl:xs.length < 2 ^ 60) (Hg:YO2 g R P)
  (k0:(∀x ∈ xs,P x=false)->∀h',Old h.size h h'->K (iQ (-1)) h')
  (k1:∀i (hi:i < xs.length),P xs[i]=true->(∀x ∈ xs.take i,P x=false)->∀h',Old h.size h h'->K (iQ i) h') :
  Wa4 Tryz.prog 135 #[.slice a xs.length c,g] h K:=by
 refine call135 ?_
 unfold F135 bd
 refine ⟨λvs h'=>∃(w0 w1:Value) (i:Nat),vs = [w0,w1,.int .i64 i]/\i<=xs.length/\Old h.size h h'/\∀x ∈ xs.take i,P x=false,λvs _=>match vs with | [_,_,.int _ n]=>xs.length - n.toNat | _=>0,⟨_,_,0,rfl,Nat.zero_le _,Old.refl _ _,λx hx=>by simp at hx⟩,?_⟩
 rintro v2 v3 v4 g5 h6 ⟨w0,w1,i,e,hi,o6,hall⟩
 cases e
 simp only [Wa2]
 have H6:=H.old o6
 refine Wa7 (λc1=>?_) (λc1=>?_)
 ·have hi':i < xs.length:=by omega
  refine ⟨by omega,by omega,?_⟩
  simp only [Int.toNat_natCast]
  refine rdS H6.own.sees hi' ?_
  refine Hg xs[i] h6 _ _ H6 λh13 o13=>?_
  have ok13:=o6.trans (o13.mono o6.1)
  simp only [Wa6]
  refine Wb7 (λhb=>?_) (λhb=>?_)
  ·exact k1 i hi' hb hall h13 ok13
  ·rw [Wf1 (by omega)]
   refine ⟨⟨_,_,i+1,rfl,by omega,ok13,λx hx=>?_⟩,by show xs.length - ((i+1:Nat):Int).toNat < xs.length - (i:Int).toNat;omega⟩
   rw [List.take_succ_eq_append_getElem hi',List.mem_append] at hx
   rcases hx with hx | hx
   ·exact hall x hx
   ·rw [List.mem_singleton.1 hx];exact hb
 ·refine k0 (λx hx=>hall x ?_) h6 o6
  rw [List.take_of_length_le (by omega)];exact hx
theorem W13 (x:TSt):∀(l:List TSt) (i:Nat),i < l.length->(l.flatMap tsc).take (i*9) ++ tsc x ++ (l.flatMap tsc).drop (i*9+9)=(l.set i x).flatMap tsc
 | [],i,hi=>by simp at hi
 | y :: l,0,_=>by
  show [] ++ tsc x ++ (tsc y ++ l.flatMap tsc).drop (tsc y).length=tsc x ++ l.flatMap tsc
  rw [List.drop_left,List.nil_append]
 | y :: l,i+1,hi=>by
  have ih:=W13 x l i (by simp at hi;omega)
  rw [List.set_cons_succ,List.flatMap_cons,List.flatMap_cons,<- ih]
  rw [show (i+1)*9=(tsc y).length+i*9 by rw [Wt8];omega,show (tsc y).length+i*9+9=(tsc y).length+(i*9+9) by omega,List.take_length_add_append,List.drop_length_add_append]
  simp
theorem Sat.own_wr {h':Wa1} {elem:TypeId} {sz:Nat} {a:Option Addr} {l c l' c':Nat} {xs xs':List Value} (H:Sat h (Wf2 elem sz a l c xs*R)) (fr:Fr (blk a) h h') (ow:Own h' elem sz a l' c' xs'):Sat h' (Wf2 elem sz a l' c' xs' * R):=by
 obtain ⟨_,_,re⟩:=H.opn
 exact re h' (blk a) _ fr (λb hb=>⟨.inl hb,ow.lt2 hb⟩) ow.nd λh'' e=>ow.congr e
theorem Y40:((Value.agg #[iQ 0,iQ 0,.bool false,iQ 0,iQ 0,iQ 0,iQ 0,iQ 0,iQ 0]).cells).size=siz Tryz.prog 51:=by kernel_rfl
theorem Y41:∀y ∈ (Value.agg #[iQ 0,iQ 0,.bool false,iQ 0,iQ 0,iQ 0,iQ 0,iQ 0,iQ 0]).cells.toList,Wh0 y True:=by
 intro y hy
 have:y ∈ tsc ⟨0,0,false,(0,0,0),(0,0,0)⟩:=hy
 exact W96 _ y this
theorem W97 (D:TSt->Bool) (xs:List TSt) (j:Nat):((xs.take j).filter D).length<=j:=by
 have:=List.length_filter_le D (xs.take j)
 rw [List.length_take] at this
 omega
theorem Yo9 {xs:List TSt} {a:Option Addr} {c:Nat} {g:Value} {P:TSt->Bool} (H:Sat h (Wf2 51 9 a xs.length c (xs.flatMap tsc)*R)) (hl:xs.length < 2 ^ 60) (Hg:YO2 g R P)
  (k:∀h' ys,ys=xs.filter (λx=>!P x)->Sat h' (Wf2 51 9 a ys.length c (ys.flatMap tsc)*R)->K (.slice a ys.length c) h') :
  Wa4 Tryz.prog 90 #[.slice a xs.length c,g] h K:=by
 refine call90 ?_
 unfold F90 cf bd dl9
 refine Wa0 (Yo8 H hl Hg (λhn h1 o1=>?_) λi0 hi0 hp hn h1 o1=>?_)
 ·simp only [Wa2]
  refine Wb7 (λ_=>?_) (λhh=>by simp at hh)
  refine k h1 xs ?_ (H.old o1)
  symm
  rw [List.filter_eq_self]
  intro x hx
  rw [hn x hx];rfl
 simp only [Wa2]
 refine Wb7 (λhh=>by simp at hh) (λ_=>?_)
 rw [Wf1 (by omega)]
 obtain ⟨D,hD⟩ : ∃D:TSt->Bool,D=λx=>!P x:=⟨_,rfl⟩
 rw [<- hD] at k
 have f0:(xs.take (i0+1)).filter D=xs.take i0:=by
  rw [List.take_succ_eq_append_getElem hi0,List.filter_append]
  have e1:(xs.take i0).filter D=xs.take i0:=by
   rw [List.filter_eq_self]
   intro x hx
   rw [hD];show (!P x)=true
   rw [hn x hx];rfl
  rw [e1]
  simp [hD,hp]
 have oc:=H.own.2.1
 refine ⟨λvs h'=>∃(i j:Nat) (ys:List TSt),vs = [.int .i64 i,.int .i64 j]/\j<=xs.length/\i=((xs.take j).filter D).length/\i < j/\ys.length=xs.length/\ys.take i=(xs.take j).filter D/\(∀q,j<=q->ys[q]? = xs[q]?)/\Sat h' (Wf2 51 9 a xs.length c (ys.flatMap tsc)*R),λvs _=>match vs with | [_,.int _ n]=>xs.length - n.toNat | _=>0,⟨i0,i0+1,xs,rfl,by omega,by rw [f0,List.length_take];omega,by omega,rfl,f0.symm,λq _=>rfl,H.old o1⟩,?_⟩
 rintro v5 v6 g7 h8 ⟨i,j,ys,e,hj,ei,hij,hyl,htake,hsame,H8⟩
 cases e
 simp only [Wa2]
 refine Wa7 (λc1=>?_) (λc1=>?_)
 ·have hj':j < xs.length:=by omega
  have hjy:j < ys.length:=by omega
  have ey:ys[j]=xs[j]:=by
   have:=hsame j (Nat.le_refl _)
   rw [List.getElem?_eq_getElem hj',List.getElem?_eq_getElem hjy] at this
   exact Option.some.inj this
  have fstep:(xs.take (j+1)).filter D=(xs.take j).filter D ++ (if D xs[j] then [xs[j]] else []):=by
   rw [List.take_succ_eq_append_getElem hj',List.filter_append]
   congr 1
   cases hh:D xs[j] <;> simp [hh]
  refine ⟨λvs h'=>∃(i':Nat) (zs:List TSt),vs = [iQ i']/\i' = ((xs.take (j+1)).filter D).length/\i' < j+1/\zs.length=xs.length/\zs.take i' = (xs.take (j+1)).filter D/\(∀q,j+1<=q->zs[q]? = xs[q]?)/\Sat h' (Wf2 51 9 a xs.length c (zs.flatMap tsc)*R),?_,?_⟩
  ·refine ⟨by omega,by omega,?_⟩
   simp only [Int.toNat_natCast]
   refine rdS H8.own.sees hjy ?_
   rw [ey]
   generalize xs[j]=x at *
   have H9:=H8.push (.cells #[iQ 0,iQ 0,.bool false,iQ 0,iQ 0,iQ 0,iQ 0,iQ 0,iQ 0] 51)
   generalize h8.push (.cells #[iQ 0,iQ 0,.bool false,iQ 0,iQ 0,iQ 0,iQ 0,iQ 0,iQ 0] 51)=h9 at *
   generalize h8.size=XB at *
   refine We3 (vs:=tsc x) H9.at rfl (by simp [tsc,Wh0]) λh10 w=>?_
   have H10:=H9.wr w.new w.old
   clear w H9
   have O:=H10.at
   refine ldR O rfl (ldR O rfl (ldR O rfl (ldR O rfl (ldR O rfl (ldR O rfl (ldR O rfl (ldR O rfl (ldR O rfl ?_))))))))
   refine Hg x h10 (pt XB (.cells (tsc x).toArray 51)*Wf2 51 9 a xs.length c (ys.flatMap tsc)) _ (by rw [Wc4];exact H10) λh11 o11=>?_
   have H11:=H10.old o11
   clear H10 O
   simp only [Wa6]
   refine Wb7 (λhb=>?_) (λhb=>?_)
   ·have hDx:D x=true:=by rw [hD];exact hb
    rw [hDx,if_pos rfl] at fstep
    have O:=H11.at
    refine ldR O rfl (ldR O rfl (ldR O rfl (ldR O rfl (ldR O rfl (ldR O rfl (ldR O rfl (ldR O rfl (ldR O rfl ?_))))))))
    refine ⟨by omega,by omega,?_⟩
    try simp only [Int.toNat_natCast]
    have H12:=H11.drop
    have ow:=H12.own
    obtain ⟨ad,ea,_⟩:=ow.sees 0 (((ys.flatMap tsc)[0]?).getD (.bool false)) (by
     have:0 < (ys.flatMap tsc).length:=by rw [Wo6 Wt8];omega
     rw [List.getElem?_eq_getElem this];rfl)
    subst ea
    try simp only [Wb0]
    have hwr:stN h11 (ad.add (i*9)) 0 (tsc x) λh43=>∃(i':Nat) (zs:List TSt),[Value.int .i64 (IntKind.wrap .i64 ((i:Int)+1))] = [iQ i']/\i' = ((xs.take (j+1)).filter D).length/\i' < j+1/\zs.length=xs.length/\zs.take i' = (xs.take (j+1)).filter D/\(∀q,j+1<=q->zs[q]? = xs[q]?)/\Sat h43 (Wf2 51 9 (some ad) xs.length c (zs.flatMap tsc)*R):=by
     refine Own.write ow rfl (by show i*9+9<=_;omega) (W96 _) λh43 x1 x2 x3 x4=>?_
     have y:=x2 (by show i*9+9<=_;omega)
     rw [Wt8,W13 x ys i (by omega)] at y
     refine ⟨i+1,ys.set i x,by rw [Wf1 (by omega)],by rw [fstep,List.length_append,<- ei];rfl,by omega,by simp [hyl],?_,λq hq=>?_,H12.own_wr x3 y⟩
     ·rw [fstep,<- htake,List.take_succ_eq_append_getElem (by simp;omega),List.take_set_of_le (Nat.le_refl _),List.getElem_set_self]
     ·rw [List.getElem?_set_ne (by omega)];exact hsame q (by omega)
    exact hwr
   ·have hDx:D x=false:=by rw [hD];exact hb
    rw [hDx,if_neg (by decide),List.append_nil] at fstep
    exact ⟨i,ys,rfl,by rw [fstep];exact ei,by omega,hyl,by rw [fstep];exact htake,λq hq=>hsame q (by omega),H11.drop⟩
  ·rintro v64 g65 h66 ⟨i',zs,e,b1,b2,b3,b4,b5,b6⟩
   cases e
   rw [Wf1 (by omega)]
   exact ⟨⟨i',j+1,zs,rfl,by omega,b1,b2,b3,b4,b5,b6⟩,by show xs.length - ((j+1:Nat):Int).toNat < xs.length - (j:Int).toNat;omega⟩
 ·have ej:j=xs.length:=by omega
  subst ej
  rw [List.take_length] at ei htake
  refine ⟨by omega,by omega,?_⟩
  simp only [Int.toNat_natCast]
  have ow:=H8.own
  obtain ⟨ad,ea,_⟩:=ow.sees 0 (((ys.flatMap tsc)[0]?).getD (.bool false)) (by
   have:0 < (ys.flatMap tsc).length:=by rw [Wo6 Wt8];omega
   rw [List.getElem?_eq_getElem this];rfl)
  subst ea
  refine Ys8 (elem:=51) (a:=some ad) (l:=xs.length) (c:=c) (i:=i) (m:=xs.length - i) YB8 YB9 Y40 Y41 (by rw [Ww0];exact ow) (by omega) (by omega) (.inr ⟨ad,rfl,?_⟩) λh51 own51 fr51 s51=>?_
  ·rw [Ww0];unfold WM9;rw [if_neg (by omega)];rfl
  rw [Ww0,WW8 Wt8,htake] at own51
  refine ⟨by omega,by omega,?_⟩
  rw [WG4,Nat.sub_zero,Nat.sub_zero]
  have:=k h51 _ rfl (by rw [ei] at own51;exact H8.own_wr fr51 own51)
  rw [<- ei] at this
  exact this
end
end
section
set_option maxHeartbeats 1000000
open Mod
section
variable {K:kQ} {h:Wa1} {R:Hp}
theorem W14 {a:Option Addr} {n c:Nat} {xs:List TSt} (hs:Sees h a (xs.flatMap tsc)) (hn:xs.length=n) (h0:a=none->n=0) (hb:n<=1000000) (k:∀h' a' c',Old h.size h h'->(∀P:Hp,Sat h P->Sat h' (Wf2 51 9 a' n c' (xs.flatMap tsc)*P))->K (.slice a' n c') h') :
  Wa4 Tryz.prog 91 #[.slice a n c] h K:=by
 refine call91 ?_
 unfold F91
 refine Wb7 (λhh=>?_) (λhh=>?_)
 ·have ea:a=none:=by cases a with | none=>rfl | some x=>cases hh
  have hn0:=h0 ea
  subst hn0
  have e0:xs = []:=List.length_eq_zero_iff.1 hn
  subst e0
  exact k h none 0 (Old.refl _ _) λP HP=>HP.own_new 51 9
 ·have o1:Old h.size h (h.push (.cells #[] 51)):=(Old.refl _ _).push _ (Nat.le_refl _)
  have hs1:=hs.old o1
  have ow:Own (h.push (.cells #[] 51)) 51 (siz Tryz.prog 51) (some (aQ h.size)) 0 0 []:=⟨by simp,Nat.le_refl _,.inr ⟨h.size,#[],rfl,by simp,by simp,by simp⟩⟩
  have sz:(h.push (.cells #[] 51)).size=h.size+1:=by simp
  generalize h.push (.cells #[] 51)=h1 at *
  refine Ws9 YB8 Yf8 YB9 (by rw [Ww0];rfl) ow hs1 (n:=n) (by rw [Ww0,Wo6 Wt8,hn]) (λy hy=>?_) (by rw [Yf9];omega) (by rw [Yf9];omega) λa' c' h2 o' hsz old ha=>?_
  ·obtain ⟨x,_,hx⟩:=List.mem_flatMap.1 hy
   exact W96 x y hx
  rw [Nat.zero_add] at o' ⊢
  try simp only [Wc5,bsx,Nat.reduceAdd,Int.reduceLE,Int.reduceLT,Int.reduceToNat]
  have o2:Old h.size h h2:=⟨by omega,λb hb=>(old b (by omega) λad ea=>by cases ea;exact λe=>by simp at e;omega).trans (o1.2 b hb)⟩
  have fb:∀b,blk a' b->h.size<=b:=by
   rintro b ⟨ad,e,rfl⟩
   rcases ha with ha | ⟨ha,_⟩
   ·rw [e] at ha;cases ha;exact Nat.le_refl _
   ·rw [e] at ha;cases ha;show h.size<=h1.size;omega
  rw [Ww0,List.nil_append] at o'
  exact k h2 a' c' o2 λP HP=>HP.mk_new o2 (λb hb=>⟨fb b hb,o'.lt2 hb⟩) o'.nd λh'' e=>o'.congr e
structure SeeS (R:Hp) (a:Option Addr) (xs:List TSt):Prop where
 s:∀h' Y,Sat h' (Y*R)->Sees h' a (xs.flatMap tsc)
 z:a=none->xs.length=0
 b:xs.length<=1000000
theorem Wx5 {xs:List TSt} {a:Option Addr} {c:Nat} {f:Fn} {cp:Array Value} {P:TSt->Bool} (H:Sat h R) (S:SeeS R a xs) (Hg:YO2 (.func f #[] cp) R P)
  (k:∀h' a' c',Sat h' (Wf2 51 9 a' (xs.filter P).length c' ((xs.filter P).flatMap tsc)*R)->K (.slice a' (xs.filter P).length c') h') :
  Wa4 Tryz.prog 49 #[.slice a xs.length c,.func f #[] cp] h K:=by
 refine call49 ?_
 unfold F49 cf
 rw [WG3]
 have H1:=H.push (.cells [Value.func f #[] cp].toArray 101)
 rw [show h.push (.cells #[.func f #[] cp] 101)=h.push (.cells [Value.func f #[] cp].toArray 101) from rfl]
 generalize h.push (.cells [Value.func f #[] cp].toArray 101)=h1 at *
 generalize h.size=KB at *
 refine Wa0 (W14 (S.s h1 _ H1) rfl S.z S.b λh2 a2 c2 o2 own=>?_)
 have H2:=own _ H1
 have hb:=S.b
 simp only [Wa9]
 have Hk:YO2 (.func (.func 92) #[] #[.pointer (some (aQ KB))]) (pt KB (.cells [Value.func f #[] cp].toArray 101)*R) λx=>!P x:=by
  intro x g Y F HG kk
  refine Wq9 ?_
  refine call92 (c0:=.pointer (some (aQ KB))) ?_
  unfold F92 g92 dl9
  have G1:=HG.push (.cells (tsc x).toArray 51)
  have p1:=We4 g (tsc x).toArray 51
  rw [show g.push (.cells #[iQ x.th,iQ x.kind,.bool x.done,iQ x.w1.1,iQ x.w1.2.1,iQ x.w1.2.2,iQ x.w2.1,iQ x.w2.2.1,iQ x.w2.2.2] 51)=g.push (.cells (tsc x).toArray 51) from rfl]
  generalize g.push (.cells (tsc x).toArray 51)=g1 at *
  simp only [Wb0]
  refine ldR G1.drop.drop.at rfl ?_
  have O:=p1.new
  refine ldR O rfl (ldR O rfl (ldR O rfl (ldR O rfl (ldR O rfl (ldR O rfl (ldR O rfl (ldR O rfl (ldR O rfl ?_))))))))
  refine Hg x g1 (pt g.size (.cells (tsc x).toArray 51)*(Y*pt KB (.cells [Value.func f #[] cp].toArray 101))) _ (Sat.ac G1 (by ac_rfl)) λg2 o2=>?_
  simp only [Wa6]
  exact kk g2 (p1.toOld.trans (o2.mono p1.toOld.1))
 refine Wa0 (Yo9 H2 (by omega) Hk λh3 ys ey H3=>?_)
 have e2:ys=xs.filter P:=by
  rw [ey]
  congr 1
  funext x
  show (!!P x)=P x
  rw [Bool.not_not]
 subst e2
 simp only [Wa9]
 rw [Wb8] at H3
 exact k h3 a2 c2 H3.drop
theorem SeeS.star {P:Hp} {a:Option Addr} {xs:List TSt} (S:SeeS R a xs):SeeS (P*R) a xs:=⟨λh' Y H=>S.s h' (Y*P) (by rw [Wc4];exact H),S.z,S.b⟩
theorem W98 {xs:List TSt} {a:Option Addr} {c:Nat} {th:Int} (H:Sat h R) (S:SeeS R a xs)
  (k:∀h' a' c',Sat h' (Wf2 51 9 a' (xs.filter λx=>x.th == th).length c' ((xs.filter λx=>x.th == th).flatMap tsc)*R)->K (.slice a' (xs.filter λx=>x.th == th).length c') h') :
  Wa4 Tryz.prog 22 #[.slice a xs.length c,iQ th] h K:=by
 refine call22 ?_
 unfold F22 cf
 have H1:=H.push (.cells [Value.int .i64 th].toArray 3)
 rw [show h.push (.cells #[iQ th] 3)=h.push (.cells [Value.int .i64 th].toArray 3) from rfl]
 generalize h.push (.cells [Value.int .i64 th].toArray 3)=h1 at *
 generalize h.size=TB at *
 refine Wa0 (Wx5 (P:=λx=>x.th == th) H1 S.star ?_ λh2 a2 c2 H2=>?_)
 ·intro x g Y F HG kk
  refine Wq9 ?_
  refine call50 (c0:=.pointer (some (aQ TB))) ?_
  unfold F50 g50 lI
  have G1:=HG.push (.cells (tsc x).toArray 51)
  have p1:=We4 g (tsc x).toArray 51
  rw [show g.push (.cells #[iQ x.th,iQ x.kind,.bool x.done,iQ x.w1.1,iQ x.w1.2.1,iQ x.w1.2.2,iQ x.w2.1,iQ x.w2.2.1,iQ x.w2.2.2] 51)=g.push (.cells (tsc x).toArray 51) from rfl]
  generalize g.push (.cells (tsc x).toArray 51)=g1 at *
  have O:=p1.new
  refine ldR O rfl ?_
  simp only [Wa2,Wb0]
  refine ldR G1.drop.drop.at rfl ?_
  simp only [Wa2]
  exact kk g1 p1.toOld
 ·simp only [Wa9]
  rw [Wb8] at H2
  exact k h2 a2 c2 H2.drop
def onB (node:Int) (x:TSt):Bool:=x.w1.1 == 3 && x.w1.2.1 == node || (x.kind == 4 || x.kind == 5) && (x.w2.1 == 3 && x.w2.2.1 == node)
theorem WP9 {n:Int} (k:K (.bool (n == 4 || n == 5)) h):Wa4 Tryz.prog 52 #[iQ n] h K:=by
 refine call52 ?_
 unfold F52
 refine Wb7 (λhh=>?_) (λhh=>?_)
 ·rw [hh] at k;exact k
 ·rw [hh] at k;exact k
theorem W15 {n:Int} (k:K (.bool (n == 2 || (n == 4 || n == 5))) h):Wa4 Tryz.prog 54 #[iQ n] h K:=by
 refine call54 ?_
 unfold F54 cf
 refine Wb7 (λhh=>?_) (λhh=>?_)
 ·rw [hh] at k;exact k
 ·rw [hh] at k
  refine Wa0 (WP9 ?_)
  simp only [Wa6]
  exact k
theorem YC9 {xs:List TSt} {a:Option Addr} {c:Nat} {node:Int} (H:Sat h R) (S:SeeS R a xs)
  (k:∀h' a' c',Sat h' (Wf2 51 9 a' (xs.filter (onB node)).length c' ((xs.filter (onB node)).flatMap tsc)*R)->K (.slice a' (xs.filter (onB node)).length c') h') :
  Wa4 Tryz.prog 23 #[.slice a xs.length c,iQ node] h K:=by
 refine call23 ?_
 unfold F23 cf
 have H1:=H.push (.cells [Value.int .i64 node].toArray 3)
 rw [show h.push (.cells #[iQ node] 3)=h.push (.cells [Value.int .i64 node].toArray 3) from rfl]
 generalize h.push (.cells [Value.int .i64 node].toArray 3)=h1 at *
 generalize h.size=TB at *
 refine Wa0 (Wx5 (P:=onB node) H1 S.star ?_ λh2 a2 c2 H2=>?_)
 ·intro x g Y F HG kk
  refine Wq9 ?_
  refine call51 (c0:=.pointer (some (aQ TB))) ?_
  unfold F51 g51 cf lI
  have G1:=HG.push (.cells (tsc x).toArray 51)
  have p1:=We4 g (tsc x).toArray 51
  rw [show g.push (.cells #[iQ x.th,iQ x.kind,.bool x.done,iQ x.w1.1,iQ x.w1.2.1,iQ x.w1.2.2,iQ x.w2.1,iQ x.w2.2.1,iQ x.w2.2.2] 51)=g.push (.cells (tsc x).toArray 51) from rfl]
  generalize g.push (.cells (tsc x).toArray 51)=g1 at *
  have O:=p1.new
  have kk:=kk g1 p1.toOld
  unfold onB at kk
  have tb:=G1.drop.drop.at
  simp only [Wb0]
  have rest:∀ {F2:kQ},F2 (.bool ((x.kind == 4 || x.kind == 5) && (x.w2.1 == 3 && x.w2.2.1 == node))) g1->ldH g1 ⟨g.size,1,none⟩ λv19=>asInt .i64 v19 λn20=>Wl3 Tryz.prog (.func (.func 52) #[] #[]) #[iQ n20] g1 λv21 h22=>asBool v21 λb23=>ifB b23 (ldH h22 ⟨g.size,6,none⟩ λv24=>asInt .i64 v24 λn25=>ifB (n25 == 3) (ldH h22 ⟨g.size,7,none⟩ λv26=>asInt .i64 v26 λn27=>ldH h22 (aQ TB) λv29=>asInt .i64 v29 λn30=>F2 (.bool (n27 == n30)) h22) (F2 (.bool false) h22)) (F2 (.bool false) h22):=by
   intro F2 f
   refine ldR O rfl ?_
   simp only [Wa2]
   refine Wa0 (WP9 ?_)
   simp only [Wa6]
   refine Wb7 (λhb=>?_) (λhb=>?_)
   ·rw [hb] at f
    refine ldR O rfl ?_
    simp only [Wa2]
    refine Wb7 (λhc=>?_) (λhc=>?_)
    ·rw [hc] at f
     refine ldR O rfl ?_
     simp only [Wa2]
     refine ldR tb rfl ?_
     simp only [Wa2]
     exact f
    ·rw [hc] at f
     exact f
   ·rw [hb] at f
    exact f
  refine ldR O rfl ?_
  simp only [Wa2]
  refine Wb7 (λhb=>?_) (λhb=>?_)
  ·rw [hb] at kk
   refine ldR O rfl ?_
   simp only [Wa2]
   refine ldR tb rfl ?_
   simp only [Wa2]
   refine Wb7 (λhc=>?_) (λhc=>?_)
   ·rw [hc] at kk
    exact kk
   ·rw [hc] at kk
    exact rest kk
  ·rw [hb] at kk
   exact rest kk
 ·simp only [Wa9]
  rw [Wb8] at H2
  exact k h2 a2 c2 H2.drop
def WK9 (x:TSt):Bool:=(x.kind == 2 || (x.kind == 4 || x.kind == 5)) && !x.done
theorem WU1 {xs:List TSt} {a:Option Addr} {c:Nat} (H:Sat h R) (S:SeeS R a xs) (k:∀h',Sat h' R->K (iQ ((xs.filter WK9).length:Nat)) h') :
  Wa4 Tryz.prog 24 #[.slice a xs.length c] h K:=by
 refine call24 ?_
 unfold F24 cf
 refine Wa0 (Wx5 (P:=WK9) H S ?_ λh2 a2 c2 H2=>?_)
 ·intro x g Y F HG kk
  refine Wq9 ?_
  refine call53 ?_
  unfold F53 g53 cf lI
  have p1:=We4 g (tsc x).toArray 51
  rw [show g.push (.cells #[iQ x.th,iQ x.kind,.bool x.done,iQ x.w1.1,iQ x.w1.2.1,iQ x.w1.2.2,iQ x.w2.1,iQ x.w2.2.1,iQ x.w2.2.2] 51)=g.push (.cells (tsc x).toArray 51) from rfl]
  generalize g.push (.cells (tsc x).toArray 51)=g1 at *
  have O:=p1.new
  have kk:=kk g1 p1.toOld
  unfold WK9 at kk
  refine ldR O rfl ?_
  simp only [Wa2]
  refine Wa0 (W15 ?_)
  simp only [Wa6]
  refine Wb7 (λhb=>?_) (λhb=>?_)
  ·rw [hb] at kk
   refine ldR O rfl ?_
   simp only [Wa6]
   exact kk
  ·rw [hb] at kk
   exact kk
 ·simp only [Wa9]
  exact k h2 H2.drop
end
end
section
set_option maxHeartbeats 1000000
open Mod
theorem Y42 (a0 a1:Int) (a2:Bool) (a3 a4 a5 a6 a7 a8 b0 b1:Int) (b2:Bool) (b3 b4 b5 b6 b7 b8:Int):eqv Tryz.prog 10000 51 (.agg #[iQ a0,iQ a1,.bool a2,iQ a3,iQ a4,iQ a5,iQ a6,iQ a7,iQ a8]) (.agg #[iQ b0,iQ b1,.bool b2,iQ b3,iQ b4,iQ b5,iQ b6,iQ b7,iQ b8]) =
 some ((a0 == b0) && ((a1 == b1) && ((a2 == b2) && ((a3 == b3) && ((a4 == b4) && ((a5 == b5) && ((a6 == b6) && ((a7 == b7) && ((a8 == b8) && true))))))))):=by kernel_rfl
theorem YO3:Tryz.prog.eqGuardType Tryz.prog.depth 51=false:=by kernel_rfl
theorem YD0 {x:TSt} {F:Bool->Prop} (k:F true):WQ0 Tryz.prog 51 (.agg #[iQ x.th,iQ x.kind,.bool x.done,iQ x.w1.1,iQ x.w1.2.1,iQ x.w1.2.2,iQ x.w2.1,iQ x.w2.2.1,iQ x.w2.2.2]) (.agg #[iQ x.th,iQ x.kind,.bool x.done,iQ x.w1.1,iQ x.w1.2.1,iQ x.w1.2.2,iQ x.w2.1,iQ x.w2.2.1,iQ x.w2.2.2]) F:=by
 unfold WQ0
 rw [YO3,if_neg (by simp)]
 show (match eqv Tryz.prog 10000 51 (.agg #[.int .i64 x.th,.int .i64 x.kind,.bool x.done,.int .i64 x.w1.1,.int .i64 x.w1.2.1,.int .i64 x.w1.2.2,.int .i64 x.w2.1,.int .i64 x.w2.2.1,.int .i64 x.w2.2.2]) (.agg #[.int .i64 x.th,.int .i64 x.kind,.bool x.done,.int .i64 x.w1.1,.int .i64 x.w1.2.1,.int .i64 x.w1.2.2,.int .i64 x.w2.1,.int .i64 x.w2.2.1,.int .i64 x.w2.2.2]) with | some b=>F b | none=>False)
 rw [Y42]
 simpa using k
theorem WU2 (p:TSt->Bool):∀(l:List TSt) (k:Nat) (hk:k < l.length),p l[k]=true->(l.filter p)[((l.take k).filter p).length]? = some l[k]
 | x :: l,0,_,h=>by
  have h:p x=true:=h
  simp [h]
 | x :: l,k+1,hk,h=>by
  have ih:=WU2 p l k (by simp at hk;omega) h
  have e:(x :: l)[k+1]=l[k]'(by simp at hk;omega):=rfl
  rw [e,List.take_succ_cons,List.filter_cons,List.filter_cons]
  split
  ·rw [List.length_cons,List.getElem?_cons_succ];exact ih
  ·exact ih
theorem WL0 (p:TSt->Bool) (l:List TSt) {k:Nat} (hk:k < l.length):((l.take (k+1)).filter p).length=((l.take k).filter p).length+(if p l[k] then 1 else 0):=by
 rw [List.take_succ_eq_append_getElem hk,List.filter_append,List.length_append]
 cases h:p l[k] <;> simp [h]
theorem YD1 (p:TSt->Bool) (l:List TSt) {k:Nat} (hk:k < l.length) (h:p l[k]=true):((l.take k).filter p).length < (l.filter p).length:=by
 have:=WU2 p l k hk h
 exact (List.getElem?_eq_some_iff.1 this).1
theorem Wr8 (node:Int) (x:TSt):onB node x=(x.w1.1 == 3 && x.w1.2.1 == node || decide (x.kind >= 4) && (decide (x.kind<=5) && (x.w2.1 == 3 && x.w2.2.1 == node))):=by
 unfold onB
 have e:(x.kind == 4 || x.kind == 5)=(decide (x.kind >= 4) && decide (x.kind<=5)):=by
  rw [Bool.eq_iff_iff,Bool.or_eq_true,Bool.and_eq_true,beq_iff_eq,beq_iff_eq,decide_eq_true_iff,decide_eq_true_iff]
  omega
 rw [e,Bool.and_assoc]
section
variable {K:kQ} {h:Wa1} {R:Hp}
def Y43 (xs:List TSt) (th node:Int) (P:Hp) (vs:List Value) (h':Wa1):Prop:=
 ∃k:Nat,k<=xs.length/\vs = [.bool false,iQ (((xs.take k).filter λx=>x.th == th).length:Nat),iQ (((xs.take k).filter (onB node)).length:Nat),iQ (((xs.take k).filter WK9).length:Nat),iQ (k:Int)]/\Sat h' P
theorem rdO {a:Option Addr} {l c:Nat} {xs:List TSt} {i:Nat} {x:TSt} {P:Hp} (H:Sat h (Wf2 51 9 a l c (xs.flatMap tsc)*P)) (e:xs[i]? = some x) {F:Value->Value->Value->Value->Value->Value->Value->Value->Value->Prop}
  (k:F (iQ x.th) (iQ x.kind) (.bool x.done) (iQ x.w1.1) (iQ x.w1.2.1) (iQ x.w1.2.2) (iQ x.w2.1) (iQ x.w2.2.1) (iQ x.w2.2.2)) :
  Wd1 (.pointer a) λad=>ldH h (ad.add (i*9)) λv0=>ldH h ((ad.add (i*9)).add 1) λv1=>ldH h ((ad.add (i*9)).add 2) λv2=>ldH h ((ad.add (i*9)).add 3) λv3=>ldH h ((ad.add (i*9)).add 4) λv4=>ldH h ((ad.add (i*9)).add 5) λv5=>ldH h ((ad.add (i*9)).add 6) λv6=>ldH h ((ad.add (i*9)).add 7) λv7=>ldH h ((ad.add (i*9)).add 8) λv8=>F v0 v1 v2 v3 v4 v5 v6 v7 v8:=by
 obtain ⟨hi,ex⟩:=List.getElem?_eq_some_iff.1 e
 subst ex
 exact rdS H.own.sees hi k
theorem WL1 {a:Option Addr} {l c:Nat} {xs:List TSt} {th node:Int} (H:Sat h R) (hS:∀h' P,Sat h' (P*R)->SX tsc h' a l c xs) {w1 w2:Prop} (_:w1) (_:w2) (k:∀h',Sat h' R->K (.bool true) h') :
  Wa4 Tryz.prog 6 #[.slice a l c,iQ th,iQ node] h K:=by
 have SS:=hS h emp (by rw [Wi4];exact H)
 have hl:=SS.len
 subst hl
 refine call6 ?_
 unfold F6 cf bd lI dl9
 have lv:∀ {h':Wa1} {P:Hp},Sat h' (P*R)->Wa4 Tryz.prog 13 #[] h' λv h''=>asBool v λb=>K (.bool b) h'':=λH'=>WD1 H' λh'' H''=>by
  refine sb ?_
  exact k h'' H''.drop
 refine Wa7 (λc0=>?_) (λc0=>?_)
 ·exact Wa0 (lv (P:=emp) (by rw [Wi4];exact H))
 have S:SeeS R a xs:=⟨λh' P HP=>(hS h' P HP).s,λe=>(by
  cases xs with
  | nil=>rfl
  | cons x xs=>
   obtain ⟨ad,ea,_⟩:=SS.s 0 (.int .i64 x.th) rfl
   rw [e] at ea
   cases ea),by omega⟩
 refine Wa0 (W98 (th:=th) H S λh4 a1 c1 H4=>?_)
 simp only [Wa9]
 refine Wa0 (YC9 (node:=node) H4 S.star λh9 a2 c2 H9=>?_)
 simp only [Wa9]
 have see:∀ {h':Wa1},Sat h' (Wf2 51 9 a2 (xs.filter (onB node)).length c2 ((xs.filter (onB node)).flatMap tsc)*(Wf2 51 9 a1 (xs.filter λx=>x.th == th).length c1 ((xs.filter λx=>x.th == th).flatMap tsc)*R))->Sees h' a (xs.flatMap tsc):=λH'=>S.s _ emp (by rw [Wi4];exact H'.drop.drop)
 refine ⟨Y43 xs th node (Wf2 51 9 a2 (xs.filter (onB node)).length c2 ((xs.filter (onB node)).flatMap tsc)*(Wf2 51 9 a1 (xs.filter λx=>x.th == th).length c1 ((xs.filter λx=>x.th == th).flatMap tsc)*R)),λvs _=>match vs with | [_,_,_,_,.int _ n]=>xs.length - n.toNat | _=>0,⟨0,Nat.zero_le _,rfl,H9⟩,?_⟩
 rintro v15 v16 v17 v18 v19 g20 h21 ⟨i,hi,e,H21⟩
 cases e
 simp only [Wa2]
 refine Wa7 (λc3=>?_) (λc3=>?_)
 ·have hi':i < xs.length:=by omega
  have n1:=WL0 (λx=>x.th == th) xs hi'
  have n2:=WL0 (onB node) xs hi'
  have n3:=WL0 WK9 xs hi'
  have l1:=W97 (λx=>x.th == th) xs i
  have l2:=W97 (onB node) xs i
  have l3:=W97 WK9 xs i
  have g1:=WU2 (λx=>x.th == th) xs i hi'
  have g2:=WU2 (onB node) xs i hi'
  have q1:=YD1 (λx=>x.th == th) xs hi'
  have q2:=YD1 (onB node) xs hi'
  have nx:∀ {h':Wa1},Sat h' (Wf2 51 9 a2 (xs.filter (onB node)).length c2 ((xs.filter (onB node)).flatMap tsc)*(Wf2 51 9 a1 (xs.filter λx=>x.th == th).length c1 ((xs.filter λx=>x.th == th).flatMap tsc)*R))->Y43 xs th node (Wf2 51 9 a2 (xs.filter (onB node)).length c2 ((xs.filter (onB node)).flatMap tsc)*(Wf2 51 9 a1 (xs.filter λx=>x.th == th).length c1 ((xs.filter λx=>x.th == th).flatMap tsc)*R)) [.bool false,iQ (((xs.take (i+1)).filter λx=>x.th == th).length:Nat),iQ (((xs.take (i+1)).filter (onB node)).length:Nat),iQ (((xs.take (i+1)).filter WK9).length:Nat),iQ ((i+1:Nat):Int)] h':=λH'=>⟨i+1,by omega,rfl,H'⟩
  refine ⟨λvs h'=>vs = [.bool false,iQ (((xs.take (i+1)).filter λx=>x.th == th).length:Nat),iQ (((xs.take (i+1)).filter (onB node)).length:Nat),iQ (((xs.take (i+1)).filter WK9).length:Nat)]/\Sat h' (Wf2 51 9 a2 (xs.filter (onB node)).length c2 ((xs.filter (onB node)).flatMap tsc)*(Wf2 51 9 a1 (xs.filter λx=>x.th == th).length c1 ((xs.filter λx=>x.th == th).flatMap tsc)*R)),?_,?_⟩
  ·refine ⟨by omega,by omega,?_⟩
   simp only [Int.toNat_natCast]
   refine rdS (see H21) hi' ?_
   generalize xs[i]=x at *
   generalize ((xs.take i).filter λx=>x.th == th).length=k1 at *
   generalize ((xs.take i).filter (onB node)).length=k2 at *
   generalize ((xs.take i).filter WK9).length=k3 at *
   have H22:=H21.push (.cells #[iQ 0,iQ 0,.bool false,iQ 0,iQ 0,iQ 0,iQ 0,iQ 0,iQ 0] 51)
   generalize h21.push (.cells #[iQ 0,iQ 0,.bool false,iQ 0,iQ 0,iQ 0,iQ 0,iQ 0,iQ 0] 51)=h22 at *
   generalize h21.size=XB at *
   refine We3 (vs:=tsc x) H22.at rfl (by simp [tsc,Wh0]) λh23 w=>?_
   have H23:=H22.wr w.new w.old
   clear w H22
   have O:=H23.at
   have Ha:=H23.drop.drop
   have Hb:=H23.drop
   refine ⟨λvs h'=>vs = [.bool false,iQ (((xs.take (i+1)).filter λx=>x.th == th).length:Nat)]/\h' = h23,?_,?_⟩
   ·refine ldR O rfl ?_
    simp only [Wa2]
    refine Wb7 (λhb=>?_) (λhb=>?_)
    ·have hb':(λx:TSt=>x.th == th) x=true:=hb
     rw [if_pos hb'] at n1
     refine ⟨λvs h'=>vs = [.bool false]/\h' = h23,?_,?_⟩
     ·refine Wa7 (λc4=>by have:=q1 hb';omega) (λc4=>?_)
      refine ⟨by omega,by have:=q1 hb';omega,?_⟩
      try simp only [Int.toNat_natCast]
      refine rdO Ha (g1 hb') ?_
      refine ldR O rfl (ldR O rfl (ldR O rfl (ldR O rfl (ldR O rfl (ldR O rfl (ldR O rfl (ldR O rfl (ldR O rfl ?_))))))))
      exact YD0 ⟨rfl,by trivial⟩
     ·rintro v70 g71 h72 ⟨e,rfl⟩
      cases e
      simp only [Wa6,Wc0]
      rw [Wf1 (by omega),n1]
      exact ⟨rfl,by trivial⟩
    ·have hb':¬ (λx:TSt=>x.th == th) x=true:=by rw [show (λx:TSt=>x.th == th) x=false from hb];decide
     rw [if_neg hb'] at n1
     rw [n1]
     exact ⟨rfl,by trivial⟩
   rintro v75 v76 g77 h78 ⟨e,rfl⟩
   cases e
   refine ⟨λvs h'=>vs = [.bool false,iQ (((xs.take (i+1)).filter (onB node)).length:Nat)]/\h' = h78,?_,?_⟩
   ·refine ⟨λvs h'=>(∃u0 u1 u2 u3,vs = [u0,u1,u2,u3,.bool (onB node x)])/\h' = h78,?_,?_⟩
    ·refine ldR O rfl ?_
     simp only [Wa2]
     refine Wb7 (λp1=>?_) (λp1=>?_)
     ·refine ldR O rfl ?_
      simp only [Wa2]
      refine Wb7 (λp2=>?_) (λp2=>?_)
      ·exact ⟨⟨_,_,_,_,by rw [Wr8,p1,p2];rfl⟩,by trivial⟩
      ·refine ldR O rfl ?_
       simp only [Wa2]
       refine Wb7 (λp3=>?_) (λp3=>?_)
       ·refine ldR O rfl ?_
        simp only [Wa2]
        refine Wb7 (λp4=>?_) (λp4=>?_)
        ·refine ldR O rfl ?_
         simp only [Wa2]
         refine Wb7 (λp5=>?_) (λp5=>?_)
         ·refine ldR O rfl ?_
          simp only [Wa2]
          exact ⟨⟨_,_,_,_,by rw [Wr8,p1,p2,p3,p4,p5];rfl⟩,by trivial⟩
         ·exact ⟨⟨_,_,_,_,by rw [Wr8,p1,p2,p3,p4,p5];rfl⟩,by trivial⟩
        ·exact ⟨⟨_,_,_,_,by rw [Wr8,p1,p2,p3,p4];rfl⟩,by trivial⟩
       ·exact ⟨⟨_,_,_,_,by rw [Wr8,p1,p2,p3];rfl⟩,by trivial⟩
     ·refine ldR O rfl ?_
      simp only [Wa2]
      refine Wb7 (λp3=>?_) (λp3=>?_)
      ·refine ldR O rfl ?_
       simp only [Wa2]
       refine Wb7 (λp4=>?_) (λp4=>?_)
       ·refine ldR O rfl ?_
        simp only [Wa2]
        refine Wb7 (λp5=>?_) (λp5=>?_)
        ·refine ldR O rfl ?_
         simp only [Wa2]
         exact ⟨⟨_,_,_,_,by rw [Wr8,p1,p3,p4,p5];rfl⟩,by trivial⟩
        ·exact ⟨⟨_,_,_,_,by rw [Wr8,p1,p3,p4,p5];rfl⟩,by trivial⟩
       ·exact ⟨⟨_,_,_,_,by rw [Wr8,p1,p3,p4];rfl⟩,by trivial⟩
      ·exact ⟨⟨_,_,_,_,by rw [Wr8,p1,p3];rfl⟩,by trivial⟩
    ·rintro v101 v102 v103 v104 v105 g106 h107 ⟨⟨u0,u1,u2,u3,e⟩,rfl⟩
     cases e
     simp only [Wa6]
     refine Wb7 (λhb=>?_) (λhb=>?_)
     ·rw [if_pos hb] at n2
      refine ⟨λvs h'=>vs = [.bool false]/\h' = h107,?_,?_⟩
      ·refine Wa7 (λc4=>by have:=q2 hb;omega) (λc4=>?_)
       refine ⟨by omega,by have:=q2 hb;omega,?_⟩
       try simp only [Int.toNat_natCast]
       refine rdO Hb (g2 hb) ?_
       refine ldR O rfl (ldR O rfl (ldR O rfl (ldR O rfl (ldR O rfl (ldR O rfl (ldR O rfl (ldR O rfl (ldR O rfl ?_))))))))
       exact YD0 ⟨rfl,by trivial⟩
      ·rintro v70 g71 h72 ⟨e,rfl⟩
       cases e
       simp only [Wa6,Wc0]
       rw [Wf1 (by omega),n2]
       exact ⟨rfl,by trivial⟩
     ·rw [if_neg (by rw [hb];decide)] at n2
      rw [n2]
      exact ⟨rfl,by trivial⟩
   rintro v137 v138 g139 h140 ⟨e,rfl⟩
   cases e
   refine ⟨λvs h'=>(∃u0 u1,vs = [u0,u1,.bool (WK9 x)])/\h' = h140,?_,?_⟩
   ·unfold WK9
    refine ldR O rfl ?_
    simp only [Wa6]
    refine Wb7 (λp0=>?_) (λp0=>?_)
    ·refine ldR O rfl ?_
     simp only [Wa2]
     refine Wb7 (λp1=>?_) (λp1=>?_)
     ·exact ⟨⟨_,_,by rw [p0,p1];rfl⟩,by trivial⟩
     ·refine ldR O rfl ?_
      simp only [Wa2]
      refine Wb7 (λp2=>?_) (λp2=>?_)
      ·exact ⟨⟨_,_,by rw [p0,p1,p2];rfl⟩,by trivial⟩
      ·refine ldR O rfl ?_
       simp only [Wa2]
       exact ⟨⟨_,_,by rw [p0,p1,p2,Bool.false_or,Bool.false_or,Bool.and_true]⟩,by trivial⟩
    ·exact ⟨⟨_,_,by rw [p0,Bool.and_false]⟩,by trivial⟩
   rintro v150 v151 v152 g153 h154 ⟨⟨u0,u1,e⟩,rfl⟩
   cases e
   simp only [Wa6]
   refine Wb7 (λhb=>?_) (λhb=>?_)
   ·rw [if_pos hb] at n3
    rw [Wf1 (by omega),n3]
    exact ⟨rfl,Hb⟩
   ·rw [if_neg (by rw [hb];decide)] at n3
    rw [n3]
    exact ⟨rfl,Hb⟩
  ·rintro v137 v76 v138 v18 g h78 ⟨e,H78⟩
   cases e
   rw [Wf1 (by omega)]
   exact ⟨nx H78,by show xs.length - ((i+1:Nat):Int).toNat < xs.length - (i:Int).toNat;omega⟩
 ·have ei:i=xs.length:=by omega
  subst ei
  rw [List.take_length]
  refine Wb7 (λ_=>?_) (λhh=>by simp at hh)
  refine Wb7 (λ_=>?_) (λhh=>by simp at hh)
  refine Wa0 (WU1 H21 S.star.star λh2 H2=>?_)
  simp only [Wa2]
  refine Wb7 (λ_=>?_) (λhh=>by simp at hh)
  refine Wa0 (WD1 H2 λh3 H3=>?_)
  simp only [Wa6]
  exact k h3 H3.drop.drop
end
end
section
open Go.ChangeShapes Go.WideShapes Go.ChangeAt Go.RowKit
theorem WL2:Program.cellsOf Tryz.prog 51=9:=by kernel_rfl
theorem W99:Program.cellsOf Tryz.prog 4=1:=by kernel_rfl
theorem Ya0:Program.cellsOf Tryz.prog 3=1:=by kernel_rfl
section
variable {H:Type} {enc:TypeId × Value->H} {W:World} {fuel:Nat} {cs:List Value} {x:DataW H × List MemPlace}
theorem Yg2 {v:Value} {i:Nat} (h:(cs.drop i).take 1 = [v]):cs[i]? = some v:=by
 have:=congrArg (λl=>l[0]?) h
 simpa using this
theorem Yp0 (h:DataW.trod enc Tryz.prog W 0 (λ_=>true) true fuel 51 cs=some x):∃e:TSt,cs=tsc e:=by
 have hl:=Yt6 Tryz.underlying51 h
 rw [WL2] at hl
 have int:∀(i:Nat) (f:Field),f.type=3->f.offset=i->(∃n y,DataW.trod enc Tryz.prog W 0 (λ_=>true) true n f.type ((cs.drop f.offset).take (Program.cellsOf Tryz.prog f.type))=some y)->∃n:Int,cs[i]? = some (iQ n):=by
  intro i f e1 e2 ⟨n,y,e⟩
  rw [e1,e2] at e
  obtain ⟨n0,u0,_,_⟩:=DataW.trod_int Tryz.underlying3 e
  rw [Ya0] at u0
  exact ⟨n0,Yg2 u0⟩
 obtain ⟨n0,q0⟩:=int 0 _ rfl rfl (Wg9 Tryz.underlying51 h 0 _ rfl)
 obtain ⟨n1,q1⟩:=int 1 _ rfl rfl (Wg9 Tryz.underlying51 h 1 _ rfl)
 obtain ⟨b2,q2⟩ : ∃b:Bool,cs[2]? = some (.bool b):=by
  obtain ⟨_,_,e⟩:=Wg9 Tryz.underlying51 h 2 _ rfl
  obtain ⟨b,u,_⟩:=DataW.trod_bool Tryz.underlying4 e
  have u2:(cs.drop 2).take (Program.cellsOf Tryz.prog 4) = [.bool b]:=u
  rw [W99] at u2
  exact ⟨b,Yg2 u2⟩
 obtain ⟨n3,q3⟩:=int 3 _ rfl rfl (Wg9 Tryz.underlying51 h 3 _ rfl)
 obtain ⟨n4,q4⟩:=int 4 _ rfl rfl (Wg9 Tryz.underlying51 h 4 _ rfl)
 obtain ⟨n5,q5⟩:=int 5 _ rfl rfl (Wg9 Tryz.underlying51 h 5 _ rfl)
 obtain ⟨n6,q6⟩:=int 6 _ rfl rfl (Wg9 Tryz.underlying51 h 6 _ rfl)
 obtain ⟨n7,q7⟩:=int 7 _ rfl rfl (Wg9 Tryz.underlying51 h 7 _ rfl)
 obtain ⟨n8,q8⟩:=int 8 _ rfl rfl (Wg9 Tryz.underlying51 h 8 _ rfl)
 refine ⟨⟨n0,n1,b2,(n3,n4,n5),(n6,n7,n8)⟩,List.ext_getElem? λi=>?_⟩
 show cs[i]? = [Value.int .i64 n0,iQ n1,.bool b2,iQ n3,iQ n4,iQ n5,iQ n6,iQ n7,iQ n8][i]?
 match i with
 | 0=>exact q0
 | 1=>exact q1
 | 2=>exact q2
 | 3=>exact q3
 | 4=>exact q4
 | 5=>exact q5
 | 6=>exact q6
 | 7=>exact q7
 | 8=>exact q8
 | n+9=>
  rw [List.getElem?_eq_none (by omega)]
  rfl
end
theorem YD2 {H:Type} {enc:TypeId × Value->H} {W:World} {d:DataW H} {ps:List MemPlace} {a:Option Addr} {l c:Nat}
  (h:DataW.Trod enc Tryz.prog W 0 (λ_=>true) true 47 (.slice a l c) d ps):∃es:List TSt,SX tsc W.heap a l c es:=
 Y03 (f:=tsc) (n:=9) Wt8 (by omega) Tryz.underlying47 WL2 (λ_ _ _ h=>Yp0 h) h
end
end Go.Proofs.YtahpbclnkofhfaaGreat
