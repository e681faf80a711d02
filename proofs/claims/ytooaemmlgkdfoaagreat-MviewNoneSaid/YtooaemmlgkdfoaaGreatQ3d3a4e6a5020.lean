/- Part 10 of what the proofs of this seat rest on: see the last text of the claim. -/
import Derived.Test.YtooaemmlgkdfoaaGreatQ516a1d759bcc
set_option linter.unusedSimpArgs false
set_option linter.unusedVariables false
set_option linter.ambiguousOpen false
set_option maxRecDepth 20000
namespace Go.Proofs.YtooaemmlgkdfoaaGreat
section
open Mod
structure Rest (Q:Frm→Prop) (x:Run):Prop where
 a:∀f ∈ x.t.fr.dropLast,Q f
structure AllF (Q:Frm→Prop) (x:Run):Prop where
 a:∀f ∈ x.t.fr,Q f
section
variable {Q:Frm→Prop} {x:Run}
theorem AllF.rest (h:AllF Q x):Rest Q x:=⟨λf hf=>h.a f (List.dropLast_subset _ hf)⟩
theorem AllF.top (h:AllF Q x) (hne:x.t.fr≠[]):Q x.f:=by
 have e:x.f=x.t.fr.getLast hne:=by
  show x.t.fr.getLast?.getD dfF=_
  rw [List.getLast?_eq_some_getLast hne]
  rfl
 rw [e]
 exact h.a _ (List.getLast_mem hne)
theorem Rest.setF {f:Frm} (h:Rest Q x):Rest Q (x.setF f):=by
 constructor
 intro g hg
 have hg:g ∈ (x.t.fr.dropLast ++ [f]).dropLast:=hg
 rw [List.dropLast_append_of_ne_nil (by simp)] at hg
 simp at hg
 exact h.a g hg
theorem Rest.s {i:Nat} {v:Int} (h:Rest Q x):Rest Q (x.s i v):=h.setF
theorem Rest.pc {i:Int} (h:Rest Q x):Rest Q (x.pc i):=h.setF
theorem Rest.m {m:Mac} (h:Rest Q x):Rest Q { x with m:=m }:=⟨h.a⟩
theorem Lo.rest {y:Run} (h:Lo x y) (r:Rest Q x):Rest Q y:=by
 induction h with
 | refl=>exact r
 | s _ ih=>exact ih.s
 | pc _ ih=>exact ih.pc
 | _=>rename_i ih;exact ⟨ih.a⟩
theorem Rest.all {f:Frm} (h:Rest Q x) (hf:Q f):AllF Q (x.setF f):=by
 constructor
 intro g hg
 have hg:g ∈ x.t.fr.dropLast ++ [f]:=hg
 rcases List.mem_append.1 hg with h1 | h1
 ·exact h.a g h1
 ·rw [List.mem_singleton.1 h1];exact hf
theorem Rest.allPc {i:Int} (h:Rest Q x) (hf:Q (x.f.at i)):AllF Q (x.pc i):=h.all hf
theorem Rest.allS {i:Nat} {v:Int} (h:Rest Q x) (hf:Q (x.f.s i v)):AllF Q (x.s i v):=h.all hf
theorem Rest.pop {r:List Int} (h:Rest Q x):AllF Q (x.pop r):=by
 constructor
 intro g hg
 have hg:g ∈ (x.t.pop r).fr:=hg
 unfold Thr.pop at hg
 split at hg
 ·rename_i e;rw [e] at hg;cases hg
 ·exact h.a g hg
theorem AllF.push {i:Int} {r:List Int} (h:AllF Q x) (hf:Q ⟨i,0,pad 10 r⟩):AllF Q (x.push i r):=by
 constructor
 intro g hg
 have hg:g ∈ x.t.fr ++ [⟨i,0,pad 10 r⟩]:=hg
 rcases List.mem_append.1 hg with h1 | h1
 ·exact h.a g h1
 ·rw [List.mem_singleton.1 h1];exact hf
theorem Rest.call {i j:Int} {r:List Int} (h:Rest Q x) (hf:Q (x.f.at i)) (hg:Q ⟨j,0,pad 10 r⟩):AllF Q (x.call i j r):=AllF.push (h.allPc hf) hg
theorem Rest.fin {i j k:Int} (h:Rest Q x) (hf:Q ((((x.f.s 7 i).s 8 j).s 9 k).at 90)) (hg:Q ⟨4,0,pad 10 []⟩):AllF Q (x.fin i j k):=by
 unfold Run.fin
 refine Rest.call (by (focus (refine Lo.rest ?_ (by assumption);(with_reducible repeat' constructor)))) ?_ hg
 rw [f_s,f_s,f_s]
 exact hf
theorem AllF.load {a:Int} (h:AllF Q x):AllF Q (x.load a).2:=⟨h.a⟩
theorem AllF.store {a v:Int} (h:AllF Q x):AllF Q (x.store a v):=⟨h.a⟩
theorem AllF.cas {a o n:Int} (h:AllF Q x):AllF Q (x.cas a o n).2:=⟨h.a⟩
theorem AllF.add {a v:Int} (h:AllF Q x):AllF Q (x.add a v).2:=⟨h.a⟩
theorem AllF.swing {a v w:Int} {b:Bool} (h:AllF Q x):AllF Q (x.swing a v w b).2:=⟨h.a⟩
theorem AllF.swingA {a v w:Int} (h:AllF Q x):AllF Q (x.swingA a v w).2:=⟨h.a⟩
theorem AllF.swingM {a v w:Int} {b:Bool} (h:AllF Q x):AllF Q (x.swingM a v w b).2:=⟨h.a⟩
theorem AllF.drop1 {a:Int} (h:AllF Q x):AllF Q (x.drop1 a).2:=⟨h.a⟩
theorem AllF.guard {a v:Int} (h:AllF Q x):AllF Q (x.guard a v):=⟨h.a⟩
theorem AllF.gh {f:Gh→Gh} (h:AllF Q x):AllF Q (x.gh f):=⟨h.a⟩
theorem AllF.fo {l:List Int} (h:AllF Q x):AllF Q (x.fo l):=⟨h.a⟩
theorem AllF.re {l:List Int} (h:AllF Q x):AllF Q (x.re l):=⟨h.a⟩
theorem AllF.setPl {p s w:List Int} (h:AllF Q x):AllF Q (x.setPl p s w):=⟨h.a⟩
theorem AllF.m {m:Mac} (h:AllF Q x):AllF Q { x with m:=m }:=⟨h.a⟩
end
theorem Wk3 (f:Frm) (i:Int):(f.at i).r.length=f.r.length:=rfl
theorem Wr8 (f:Frm) (i:Nat) (v:Int):(f.s i v).r.length=f.r.length:=by unfold Frm.s;simp
def Wu9 (sl th:Int) (f:Frm):Prop:=f.r.length=10∧((f.fn=1∨f.fn=2∨f.fn=3)∧0≤f.pc∧f.pc≤2∨f.fn=4∧0≤f.pc∧f.pc≤sl∨f.fn=5∧f.pc=0∨f.fn=6∧0≤f.pc∧f.pc≤sl*th+1)
section
variable {Q:Frm→Prop} {x:Run} {sl th:Int}
theorem Yq8 (hQ:∀f,Wu9 sl th f→Q f) (h:AllF Q x) (o:Wu9 sl th x.f) (e:x.f.fn=1):AllF Q (alloc x):=by
 have r:=h.rest
 obtain ⟨len,o2⟩:=o
 unfold alloc;dsimp only
 repeat' split
 all_goals ((repeat (with_reducible first | apply AllF.load | apply AllF.store | apply AllF.cas | apply AllF.add | apply AllF.swing | apply AllF.swingA | apply AllF.swingM | apply AllF.drop1 | apply AllF.guard | apply AllF.gh | apply AllF.fo | apply AllF.re | apply AllF.setPl));first | with_reducible assumption | ((with_reducible first | apply Rest.pop | apply Rest.call | apply Rest.allPc | apply Rest.allS | apply Rest.fin);(focus (refine Lo.rest ?_ (by assumption);(with_reducible repeat' constructor)))))
 all_goals (refine hQ _ ?_;((try simp only [WC0,f_s,Wi8,Wf6,Wp2,Wp3,WJ3]);unfold Wu9;(try simp only [Wo4,WJ2,Wo3,WJ1,Wk3,Wr8]);omega))
theorem W35 (hQ:∀f,Wu9 sl th f→Q f) (h:AllF Q x) (o:Wu9 sl th x.f) (e:x.f.fn=2):AllF Q (Wr0 x):=by
 have r:=h.rest
 obtain ⟨len,o2⟩:=o
 unfold Wr0;dsimp only
 repeat' split
 all_goals ((repeat (with_reducible first | apply AllF.load | apply AllF.store | apply AllF.cas | apply AllF.add | apply AllF.swing | apply AllF.swingA | apply AllF.swingM | apply AllF.drop1 | apply AllF.guard | apply AllF.gh | apply AllF.fo | apply AllF.re | apply AllF.setPl));first | with_reducible assumption | ((with_reducible first | apply Rest.pop | apply Rest.call | apply Rest.allPc | apply Rest.allS | apply Rest.fin);(focus (refine Lo.rest ?_ (by assumption);(with_reducible repeat' constructor)))))
 all_goals (refine hQ _ ?_;((try simp only [WC0,f_s,Wi8,Wf6,Wp2,Wp3,WJ3]);unfold Wu9;(try simp only [Wo4,WJ2,Wo3,WJ1,Wk3,Wr8]);omega))
theorem W36 (hQ:∀f,Wu9 sl th f→Q f) (h:AllF Q x) (o:Wu9 sl th x.f) (e:x.f.fn=3):AllF Q (Wr2 x):=by
 have r:=h.rest
 obtain ⟨len,o2⟩:=o
 unfold Wr2;dsimp only
 repeat' split
 all_goals ((repeat (with_reducible first | apply AllF.load | apply AllF.store | apply AllF.cas | apply AllF.add | apply AllF.swing | apply AllF.swingA | apply AllF.swingM | apply AllF.drop1 | apply AllF.guard | apply AllF.gh | apply AllF.fo | apply AllF.re | apply AllF.setPl));first | with_reducible assumption | ((with_reducible first | apply Rest.pop | apply Rest.call | apply Rest.allPc | apply Rest.allS | apply Rest.fin);(focus (refine Lo.rest ?_ (by assumption);(with_reducible repeat' constructor)))))
 all_goals (refine hQ _ ?_;((try simp only [WC0,f_s,Wi8,Wf6,Wp2,Wp3,WJ3]);unfold Wu9;(try simp only [Wo4,WJ2,Wo3,WJ1,Wk3,Wr8]);omega))
theorem Yz8 (hQ:∀f,Wu9 sl th f→Q f) (h:AllF Q x) (hs:sl=x.m.p.slots) (o:Wu9 sl th x.f) (e:x.f.fn=4):AllF Q (Yw5 x):=by
 have r:=h.rest
 obtain ⟨len,o2⟩:=o
 unfold Yw5;dsimp only
 repeat' split
 all_goals ((repeat (with_reducible first | apply AllF.load | apply AllF.store | apply AllF.cas | apply AllF.add | apply AllF.swing | apply AllF.swingA | apply AllF.swingM | apply AllF.drop1 | apply AllF.guard | apply AllF.gh | apply AllF.fo | apply AllF.re | apply AllF.setPl));first | with_reducible assumption | ((with_reducible first | apply Rest.pop | apply Rest.call | apply Rest.allPc | apply Rest.allS | apply Rest.fin);(focus (refine Lo.rest ?_ (by assumption);(with_reducible repeat' constructor)))))
 all_goals (refine hQ _ ?_;((try simp only [WC0,f_s,Wi8,Wf6,Wp2,Wp3,WJ3]);unfold Wu9;(try simp only [Wo4,WJ2,Wo3,WJ1,Wk3,Wr8]);omega))
theorem Yq9 {fn:Int} {l:List Int} (h:1≤fn∧fn≤6) (hs:0≤sl) (ht:0≤sl*th):Wu9 sl th ⟨fn,0,pad 10 l⟩:=by
 refine ⟨WF8 _ _,?_⟩
 dsimp only
 omega
theorem Yf5 (hQ:∀f,Wu9 sl th f→Q f) (h:AllF Q x) (hs:0≤sl) (ht:0≤sl*th):AllF Q (Wx6 x):=by
 have r:=h.rest
 unfold Wx6;dsimp only
 split
 ·refine AllF.push ?_ (hQ _ (Yq9 (by omega) hs ht))
  ((repeat (with_reducible first | apply AllF.load | apply AllF.store | apply AllF.cas | apply AllF.add | apply AllF.swing | apply AllF.swingA | apply AllF.swingM | apply AllF.drop1 | apply AllF.guard | apply AllF.gh | apply AllF.fo | apply AllF.re | apply AllF.setPl));first | with_reducible assumption | ((with_reducible first | apply Rest.pop | apply Rest.call | apply Rest.allPc | apply Rest.allS | apply Rest.fin);(focus (refine Lo.rest ?_ (by assumption);(with_reducible repeat' constructor)))))
 ·((repeat (with_reducible first | apply AllF.load | apply AllF.store | apply AllF.cas | apply AllF.add | apply AllF.swing | apply AllF.swingA | apply AllF.swingM | apply AllF.drop1 | apply AllF.guard | apply AllF.gh | apply AllF.fo | apply AllF.re | apply AllF.setPl));first | with_reducible assumption | ((with_reducible first | apply Rest.pop | apply Rest.call | apply Rest.allPc | apply Rest.allS | apply Rest.fin);(focus (refine Lo.rest ?_ (by assumption);(with_reducible repeat' constructor)))))
theorem Yr0 (hQ:∀f,Wu9 sl th f→Q f) (h:AllF Q x) {all:Int} (ha:all=sl*th) (h0:0≤all) (o:Wu9 sl th x.f) (e:x.f.fn=6):AllF Q (Wx7 x all):=by
 have r:=h.rest
 obtain ⟨len,o2⟩:=o
 unfold Wx7
 split
 ·refine Rest.allPc (by (focus (refine Lo.rest ?_ (by assumption);(with_reducible repeat' constructor)))) (hQ _ ?_)
  show Wu9 sl th (x.f.at (x.f.pc+1))
  ((try simp only [WC0,f_s,Wi8,Wf6,Wp2,Wp3,WJ3]);unfold Wu9;(try simp only [Wo4,WJ2,Wo3,WJ1,Wk3,Wr8]);omega)
 ·exact h
theorem Yr1 (hQ:∀f,Wu9 sl th f→Q f) (h:AllF Q x) (hs:0≤sl) (ht:0≤sl*th):AllF Q (WZ7 x):=by
 have r:=h.rest
 unfold WZ7
 split
 ·((repeat (with_reducible first | apply AllF.load | apply AllF.store | apply AllF.cas | apply AllF.add | apply AllF.swing | apply AllF.swingA | apply AllF.swingM | apply AllF.drop1 | apply AllF.guard | apply AllF.gh | apply AllF.fo | apply AllF.re | apply AllF.setPl));first | with_reducible assumption | ((with_reducible first | apply Rest.pop | apply Rest.call | apply Rest.allPc | apply Rest.allS | apply Rest.fin);(focus (refine Lo.rest ?_ (by assumption);(with_reducible repeat' constructor)))))
 ·refine AllF.push ?_ (hQ _ (Yq9 (by omega) hs ht))
  exact h.fo
theorem Yz9 (hQ:∀f,Wu9 sl th f→Q f) (h:AllF Q x) (hs:sl=x.m.p.slots) (ht:th=x.m.p.c.threads) (s0:0≤sl) (t0:0≤sl*th) (o:Wu9 sl th x.f) (e:x.f.fn=6):AllF Q (scan x):=by
 have hy:AllF Q (if x.f.pc=0 then x.fo [] else x)∧(if x.f.pc=0 then x.fo [] else x).f=x.f:=by
  split
  ·exact ⟨h.fo,rfl⟩
  ·exact ⟨h,rfl⟩
 unfold scan
 dsimp only
 generalize (if x.f.pc=0 then x.fo [] else x)=y at *
 obtain ⟨h2,ef⟩:=hy
 have r:=h2.rest
 rw [← hs,← ht]
 split
 ·rename_i c
  obtain ⟨len,o2⟩:=o
  refine Rest.allPc (by (focus (refine Lo.rest ?_ (by assumption);(with_reducible repeat' constructor)))) (hQ _ ?_)
  show Wu9 sl th (y.f.at (y.f.pc+1))
  rw [ef] at c ⊢
  ((try simp only [WC0,f_s,Wi8,Wf6,Wp2,Wp3,WJ3]);unfold Wu9;(try simp only [Wo4,WJ2,Wo3,WJ1,Wk3,Wr8]);omega)
 ·rename_i c
  exact Yr1 hQ (Yr0 hQ h2 rfl t0 (by rw [ef];exact o) (by rw [ef];exact e)) s0 t0
theorem W37 (hQ:∀f,Wu9 sl th f→Q f) (h:AllF Q x) (o:Wu9 sl th x.f):AllF Q (Wr1 x):=by
 have r:=h.rest
 unfold Wr1
 split
 ·exact h
 split
 ·exact Yq8 hQ h o (by assumption)
 split
 ·exact W35 hQ h o (by assumption)
 ·((repeat (with_reducible first | apply AllF.load | apply AllF.store | apply AllF.cas | apply AllF.add | apply AllF.swing | apply AllF.swingA | apply AllF.swingM | apply AllF.drop1 | apply AllF.guard | apply AllF.gh | apply AllF.fo | apply AllF.re | apply AllF.setPl));first | with_reducible assumption | ((with_reducible first | apply Rest.pop | apply Rest.call | apply Rest.allPc | apply Rest.allS | apply Rest.fin);(focus (refine Lo.rest ?_ (by assumption);(with_reducible repeat' constructor)))))
theorem WW8 (hQ:∀f,Wu9 sl th f→Q f) (h:AllF Q x) (hs:sl=x.m.p.slots) (ht:th=x.m.p.c.threads) (s0:0≤sl) (t0:0≤sl*th) (o:Wu9 sl th x.f):AllF Q (Wn0 x):=by
 unfold Wn0
 split
 ·exact h
 split
 ·exact W36 hQ h o (by assumption)
 split
 ·exact Yz8 hQ h hs o (by assumption)
 split
 ·exact Yf5 hQ h s0 t0
 split
 ·exact Yz9 hQ h hs ht s0 t0 o (by assumption)
 ·exact W37 hQ h o
end
end
section
open Mod
def fA (sl th fn pc:Int):Bool:=
 if fn=4 then decide (pc < sl) else if fn=5 then false else if fn=6 then decide (pc < sl*th)
 else if fn=10 then decide (pc=0) else if fn=14 then decide (pc≠1) else if fn=35 then decide (pc=0) else if fn=36 then decide (pc≠1)
 else decide (pc≠90)
def fW (fn pc:Int):Nat:=
 if fn=5 then 3 else if fn=6 then 2
 else if fn=20 then (if pc=0 then 2 else 1)
 else if fn=21 then (if pc=17 then 6 else if pc=8∨pc=1∨pc=12 then 3 else 2)
 else if fn=22∨fn=23 then (if pc=12 then 6 else if pc=1∨pc=7 then 3 else 2)
 else if fn=10 then (if pc=0 then 2 else 1)
 else if fn=11 then (if pc=6 then 6 else if pc=7∨pc=9 then 5 else if pc=8 then 4 else if pc=1∨pc=5∨pc=10∨pc=11∨pc=13∨pc=14 then 3 else 2)
 else if fn=12∨fn=13 then (if pc=6 then 6 else if pc=1 then 4 else if pc=0 then 3 else 2)
 else if fn=14 then (if pc=5∨pc=6 then 4 else if pc=0∨pc=1∨pc=4 then 3 else 2)
 else if fn=31 then (if pc=16 then 4 else if pc=1∨pc=7∨pc=11∨pc=12 then 3 else 2)
 else if fn=32∨fn=33 then (if pc=5 then 4 else if pc=2∨pc=6∨pc=12∨pc=13 then 3 else 2)
 else if fn=34 then (if pc=2∨pc=4 then 3 else 2)
 else if fn=35 then (if pc=2 then 6 else 2)
 else if fn=36 then (if pc=4 then 3 else 2)
 else 1
def fR (fn:Int):Nat:=if fn≤4 then 0 else if fn≤6 then 1 else if fn=10 then 2 else if fn=14∨fn=35 then 3 else 4
theorem YP2 (fn:Int):fR fn≤4:=by
 unfold fR;repeat' split
 all_goals omega
theorem YJ1 {c:Prop} [Decidable c] {a b:Nat} (ha:1≤a∧a≤6) (hb:1≤b∧b≤6):1≤(if c then a else b)∧(if c then a else b)≤6:=by
 split
 ·exact ha
 ·exact hb
theorem Yr2 (fn pc:Int):1≤fW fn pc∧fW fn pc≤6:=by
 unfold fW
 repeat' (first | with_reducible apply YJ1 | exact ⟨by decide,by decide⟩)
section
variable (sl th:Int)
def muL:List Frm→Nat
 | []=>0
 | f :: l=>fW f.fn f.pc+if fA sl th f.fn f.pc=true then 0 else muL l
def onR (fn:Int):List Frm→Prop
 | []=>True
 | f :: _=>fA sl th f.fn f.pc=true∨fR fn < fR f.fn
def Yt0:List Frm→Prop
 | []=>True
 | f :: l=>onR sl th f.fn l∧Yt0 l
theorem YE2:∀ {l:List Frm} {fn:Int},onR sl th fn l→Yt0 sl th l→muL sl th l≤6*(5 - fR fn)
 | [],_,_,_=>Nat.zero_le _
 | f :: l,fn,h1,h2=>by
  unfold muL
  have hw:=(Yr2 f.fn f.pc).2
  have hr:=YP2 fn
  have hr2:=YP2 f.fn
  split
  ·omega
  ·rename_i c
   rcases h1 with h1 | h1
   ·exact absurd h1 c
   ·have ih:=YE2 h2.1 h2.2
    omega
def rst (x:Run):List Frm:=x.t.fr.dropLast.reverse
def mu (x:Run):Nat:=muL sl th x.t.fr.reverse
structure Adj (x:Run):Prop where
 a:Yt0 sl th x.t.fr.reverse
structure AdjR (fn:Int) (l:List Frm) (x:Run):Prop where
 f:x.f.fn=fn
 e:rst x=l
 o:onR sl th fn l
 a:Yt0 sl th l
end
section
variable {sl th:Int} {x y:Run} {fn:Int} {l:List Frm}
theorem WB4 (h:x.t.fr≠[]):x.t.fr.reverse=x.f :: rst x:=by
 conv=>lhs;rw [W69 h]
 simp [rst,Run.f]
theorem Adj.r (h:Adj sl th x) (hne:x.t.fr≠[]):AdjR sl th x.f.fn (rst x) x:=by
 have h:=h.a
 rw [WB4 hne] at h
 exact ⟨rfl,rfl,h.1,h.2⟩
theorem YA0 (x:Run) (f:Frm):rst (x.setF f)=rst x:=by
 show (x.t.fr.dropLast ++ [f]).dropLast.reverse=_
 rw [List.dropLast_append_of_ne_nil (by simp)]
 simp [rst]
theorem AdjR.setF {f:Frm} (h:AdjR sl th fn l x) (hf:f.fn=fn):AdjR sl th fn l (x.setF f):=⟨by rw [Ym8];exact hf,by rw [YA0];exact h.e,h.o,h.a⟩
theorem AdjR.s {i:Nat} {v:Int} (h:AdjR sl th fn l x):AdjR sl th fn l (x.s i v):=h.setF h.f
theorem AdjR.pc {i:Int} (h:AdjR sl th fn l x):AdjR sl th fn l (x.pc i):=h.setF h.f
theorem AdjR.gh {f:Gh→Gh} (h:AdjR sl th fn l x):AdjR sl th fn l (x.gh f):=⟨h.f,h.e,h.o,h.a⟩
theorem AdjR.fo {k:List Int} (h:AdjR sl th fn l x):AdjR sl th fn l (x.fo k):=⟨h.f,h.e,h.o,h.a⟩
theorem AdjR.re {k:List Int} (h:AdjR sl th fn l x):AdjR sl th fn l (x.re k):=⟨h.f,h.e,h.o,h.a⟩
theorem AdjR.all (h:AdjR sl th fn l x) (hne:x.t.fr≠[]):Adj sl th x:=by
 constructor
 rw [WB4 hne]
 exact ⟨by rw [h.f,h.e];exact h.o,by rw [h.e];exact h.a⟩
theorem We0 (x:Run) (f:Frm):(x.setF f).t.fr≠[]:=by
 show x.t.fr.dropLast ++ [f]≠[]
 simp
theorem Lo.adjR (h:Lo x y) (r:AdjR sl th fn l x):AdjR sl th fn l y:=by
 induction h with
 | refl=>exact r
 | s _ ih=>exact ih.s
 | pc _ ih=>exact ih.pc
 | _=>rename_i ih;exact ⟨ih.f,ih.e,ih.o,ih.a⟩
theorem Lo.ne (h:Lo x y) (r:x.t.fr≠[]):y.t.fr≠[]:=by
 induction h with
 | refl=>exact r
 | s _ ih=>exact We0 _ _
 | pc _ ih=>exact We0 _ _
 | _=>rename_i ih;exact ih
theorem AdjR.allPc {i:Int} (h:AdjR sl th fn l x):Adj sl th (x.pc i):=h.pc.all (We0 _ _)
theorem AdjR.allS {i:Nat} {v:Int} (h:AdjR sl th fn l x):Adj sl th (x.s i v):=h.s.all (We0 _ _)
theorem AdjR.pop {r:List Int} (h:AdjR sl th fn l x):Adj sl th (x.pop r):=by
 constructor
 show Yt0 sl th (x.t.pop r).fr.reverse
 unfold Thr.pop
 split
 ·rename_i e;rw [e];trivial
 ·show Yt0 sl th (rst x)
  rw [h.e];exact h.a
theorem Adj.push {i:Int} {r:List Int} (h:Adj sl th x) (ho:onR sl th i x.t.fr.reverse):Adj sl th (x.push i r):=by
 constructor
 show Yt0 sl th (x.t.fr ++ [(⟨i,0,pad 10 r⟩ : Frm)]).reverse
 rw [List.reverse_append]
 show Yt0 sl th (⟨i,0,pad 10 r⟩ :: x.t.fr.reverse)
 exact ⟨ho,h.a⟩
theorem AdjR.call {i j:Int} {r:List Int} (h:AdjR sl th fn l x) (hd:fA sl th fn i=true∨fR j < fR fn):Adj sl th (x.call i j r):=by
 refine Adj.push h.allPc ?_
 rw [show (x.pc i).t.fr.reverse=(x.pc i).f :: rst (x.pc i) from WB4 (We0 _ _)]
 show fA sl th (x.pc i).f.fn (x.pc i).f.pc=true∨_ < fR (x.pc i).f.fn
 rw [WC0,Wo4,Wo3,h.f]
 exact hd
theorem AdjR.fin {i j k:Int} (h:AdjR sl th fn l x) (hd:fR 4 < fR fn):Adj sl th (x.fin i j k):=by
 unfold Run.fin
 exact (h.s.s.s).call (.inr hd)
structure Act (x:Run):Prop where
 a:x.m.acted=true
theorem Wl3 (m:Mac) (a:Int):(m.touch a).acted=true:=by unfold Mac.touch;split <;> rfl
theorem Act.load {a:Int}:Act (x.load a).2:=by
 constructor
 show (x.m.load a).2.acted=true
 unfold Mac.load;dsimp only
 split <;> exact Wl3 _ _
theorem Act.store {a v:Int}:Act (x.store a v):=by
 constructor
 show (x.m.store a v).acted=true
 unfold Mac.store;dsimp only
 split <;> exact Wl3 _ _
theorem Act.cas {a o v:Int}:Act (x.cas a o v).2:=by
 constructor
 show (x.m.cas a o v).2.acted=true
 unfold Mac.cas;dsimp only
 split <;> exact Wl3 _ _
theorem Act.add {a v:Int}:Act (x.add a v).2:=by
 constructor
 show (x.m.add a v).2.acted=true
 unfold Mac.add;dsimp only
 split <;> exact Wl3 _ _
theorem Act.swing {a v w:Int} {b:Bool}:Act (x.swing a v w b).2:=Act.cas
theorem Act.swingA {a v w:Int}:Act (x.swingA a v w).2:=Act.cas
theorem Act.swingM {a v w:Int} {b:Bool}:Act (x.swingM a v w b).2:=Act.cas
theorem Act.drop1 {a:Int}:Act (x.drop1 a).2:=Act.add
theorem Act.guard {a b:Int}:Act (x.guard a b):=Act.store
theorem Act.dcas {a o n b p q:Int}:Act { x with m:=(x.m.dcas a o n b p q).2 }:=by
 constructor
 show (x.m.dcas a o n b p q).2.acted=true
 unfold Mac.dcas;dsimp only
 split <;> exact Wl3 _ _
theorem Act.dcss {a o n b p:Int}:Act { x with m:=(x.m.dcss a o n b p).2 }:=by
 constructor
 show (x.m.dcss a o n b p).2.acted=true
 unfold Mac.dcss;dsimp only
 split <;> exact Wl3 _ _
theorem Act.next {n:Int} (h:Act x):Act { x with m:=(x.m.next n).2 }:=by
 constructor
 show (x.m.next n).2.acted=true
 unfold Mac.next
 split <;> exact h.a
theorem Act.lvl {n:Int} (h:Act x):Act { x with m:=(x.m.lvl n).2 }:=by
 constructor
 show (x.m.lvl n).2.acted=true
 unfold Mac.lvl
 split <;> exact h.a
theorem Tch.act (h:Tch x):Act x:=by
 induction h with
 | load=>exact Act.load
 | store=>exact Act.store
 | cas=>exact Act.cas
 | add=>exact Act.add
 | swing=>exact Act.swing
 | swingA=>exact Act.swingA
 | swingM=>exact Act.swingM
 | drop1=>exact Act.drop1
 | guard=>exact Act.guard
 | dcas=>exact Act.dcas
 | dcss=>exact Act.dcss
 | next _ ih=>exact ih.next
 | lvl _ ih=>exact ih.lvl
 | _=>rename_i ih;exact ⟨ih.a⟩
theorem YE3 (h:x.t.fr≠[]):mu sl th x=fW x.f.fn x.f.pc+if fA sl th x.f.fn x.f.pc=true then 0 else muL sl th (rst x):=by
 unfold mu
 rw [WB4 h]
 rfl
theorem WQ8 (x:Run) (i:Int) (r:List Int):mu sl th (x.push i r)=fW i 0+if fA sl th i 0=true then 0 else mu sl th x:=by
 unfold mu
 show muL sl th (x.t.fr ++ [(⟨i,0,pad 10 r⟩ : Frm)]).reverse=_
 rw [List.reverse_append]
 rfl
theorem Yr3 (r:List Int) (h:x.t.fr≠[]):mu sl th (x.pop r)=muL sl th (rst x):=by
 unfold mu
 show muL sl th (x.t.pop r).fr.reverse=_
 unfold Thr.pop
 rw [if_neg h]
 rfl
section
variable {x0:Run} {pc0:Int}
theorem AdjR.mu (h0:AdjR sl th fn l x0) (hne:x0.t.fr≠[]) (hp:x0.f.pc=pc0):mu sl th x0=fW fn pc0+if fA sl th fn pc0=true then 0 else muL sl th l:=by
 rw [YE3 hne,h0.f,h0.e,hp]
theorem AdjR.muPc (h:AdjR sl th fn l y) (i:Int):Proofs.YtooaemmlgkdfoaaGreat.mu sl th (y.pc i)=fW fn i+if fA sl th fn i=true then 0 else muL sl th l:=
 h.pc.mu (We0 _ _) (by rw [WC0];rfl)
theorem AdjR.ltPc {i:Int} (h0:AdjR sl th fn l x0) (hne:x0.t.fr≠[]) (hp:x0.f.pc=pc0) (h:AdjR sl th fn l y)
  (hlt:(fW fn i+if fA sl th fn i=true then 0 else muL sl th l) < fW fn pc0+if fA sl th fn pc0=true then 0 else muL sl th l):Proofs.YtooaemmlgkdfoaaGreat.mu sl th (y.pc i) < Proofs.YtooaemmlgkdfoaaGreat.mu sl th x0:=by
 rw [h0.mu hne hp,h.muPc]
 exact hlt
theorem AdjR.ltCall {i j:Int} {r:List Int} (h0:AdjR sl th fn l x0) (hne:x0.t.fr≠[]) (hp:x0.f.pc=pc0) (h:AdjR sl th fn l y)
  (hlt:(fW j 0+if fA sl th j 0=true then 0 else fW fn i+if fA sl th fn i=true then 0 else muL sl th l) < fW fn pc0+if fA sl th fn pc0=true then 0 else muL sl th l):Proofs.YtooaemmlgkdfoaaGreat.mu sl th (y.call i j r) < Proofs.YtooaemmlgkdfoaaGreat.mu sl th x0:=by
 show Proofs.YtooaemmlgkdfoaaGreat.mu sl th ((y.pc i).push j r) < _
 rw [h0.mu hne hp,WQ8,h.muPc]
 exact hlt
theorem AdjR.ltFin {i j k:Int} (h0:AdjR sl th fn l x0) (hne:x0.t.fr≠[]) (hp:x0.f.pc=pc0) (h:AdjR sl th fn l y)
  (hlt:(fW 4 0+if fA sl th 4 0=true then 0 else fW fn 90+if fA sl th fn 90=true then 0 else muL sl th l) < fW fn pc0+if fA sl th fn pc0=true then 0 else muL sl th l):Proofs.YtooaemmlgkdfoaaGreat.mu sl th (y.fin i j k) < Proofs.YtooaemmlgkdfoaaGreat.mu sl th x0:=
 h0.ltCall hne hp (h.s.s.s) hlt
theorem AdjR.ltPop {r:List Int} (h0:AdjR sl th fn l x0) (hne:x0.t.fr≠[]) (hp:x0.f.pc=pc0) (h:AdjR sl th fn l y) (hny:y.t.fr≠[])
  (hlt:muL sl th l < fW fn pc0+if fA sl th fn pc0=true then 0 else muL sl th l):Proofs.YtooaemmlgkdfoaaGreat.mu sl th (y.pop r) < Proofs.YtooaemmlgkdfoaaGreat.mu sl th x0:=by
 rw [h0.mu hne hp,Yr3 r hny,h.e]
 exact hlt
end
def Nx (sl th:Int) (x y:Run):Prop:=Adj sl th y∧(Act y∨mu sl th y < mu sl th x)
end
end
section
open Mod
structure RunOk (Q:Mod.Cf→Frm→Prop) (c:Mod.Cf) (x:Run) (B:Nat):Prop where
 p:x.m.p=Wc0 c
 q:AllF (Q c) x
 a:Adj (Wc0 c).slots c.threads x
 pr:(x.t.pred.length:Int)=c.level
 su:(x.t.succ.length:Int)=c.level
 wo:(x.t.word.length:Int)=c.level
 P:x.P≤B
structure YQ2 (d:Run→Run) (Q:Mod.Cf→Frm→Prop) (W:Run→Prop) (ins:Int):Prop where
 st:∀x,St 12 x (d x)
 all:∀c x,okC c=true→x.m.p=Wc0 c→x.t.fr≠[]→AllF (Q c) x→AllF (Q c) (d x)
 nx:∀c x,okC c=true→x.m.p=Wc0 c→x.t.fr≠[]→AllF (Q c) x→Adj (Wc0 c).slots c.threads x→Nx (Wc0 c).slots c.threads x (d x)
 w:∀c x B,okC c=true→RunOk Q c x B→B < 200000000→x.t.fr≠[]→0≤x.id∧x.id≤6→W x
 new:∀c op l,okC c=true→0≤op∧op≤2→Q c ⟨ins+op,0,pad 10 l⟩
section
variable {d:Run→Run} {Q:Mod.Cf→Frm→Prop} {W:Run→Prop} {ins:Int} {c:Mod.Cf}
theorem RunOk.mono {x:Run} {B C:Nat} (h:RunOk Q c x B) (hb:B≤C):RunOk Q c x C:=⟨h.p,h.q,h.a,h.pr,h.su,h.wo,Nat.le_trans h.P hb⟩
theorem RunOk.bit (D:YQ2 d Q W ins) (hc:okC c=true) {x:Run} {B:Nat} (h:RunOk Q c x B) (hne:x.t.fr≠[]):RunOk Q c (d x) (B+24)∧Nx (Wc0 c).slots c.threads x (d x):=by
 have s:=D.st x
 have f:=s.fix
 have n:=D.nx c x hc h.p hne h.q h.a
 have hP:=s.P
 have:=h.P
 exact ⟨⟨f.p.trans h.p,D.all c x hc h.p hne h.q,n.1,by rw [f.pr];exact h.pr,by rw [f.su];exact h.su,by rw [f.wo];exact h.wo,by omega⟩,n⟩
theorem YT3 {sl th:Int} {x:Run} (h:Adj sl th x):mu sl th x≤36:=by
 by_cases hne:x.t.fr = []
 ·unfold mu
  rw [hne]
  exact Nat.zero_le _
 ·rw [YE3 hne]
  have r:=h.r hne
  have h1:=YE2 sl th r.o r.a
  have h2:=(Yr2 x.f.fn x.f.pc).2
  split <;> omega
theorem W84 (D:YQ2 d Q W ins) (hc:okC c=true):∀(n:Nat) (x:Run) (B:Nat),mu (Wc0 c).slots c.threads x≤n→RunOk Q c x B→B+24*(n+1) < 200000000→0≤x.id∧x.id≤6 →
  ∃k z,Mod.bits d k x=some z∧YN2 d W k x∧Fix x z∧RunOk Q c z (B+24*(n+1))
 | n,x,B,hm,h,hB,hid=>by
  by_cases c0:done x=true
  ·refine ⟨0,x,?_,trivial,⟨rfl,rfl,rfl,rfl,rfl,rfl,rfl,rfl⟩,h.mono (by omega)⟩
   unfold Mod.bits
   unfold done at c0
   rw [if_pos c0]
  ·have hne:x.t.fr≠[]:=by
    intro e
    unfold done at c0
    rw [e] at c0
    simp at c0
   have hb:∀k,Mod.bits d (k+1) x=Mod.bits d k (d x):=by
    intro k
    unfold done at c0
    conv=>lhs;unfold Mod.bits
    rw [if_neg c0]
   obtain ⟨h1,n1⟩:=h.bit D hc hne
   have hw:=D.w c x B hc h (by omega) hne hid
   have f:=(D.st x).fix
   rcases n1.2 with a | lt
   ·refine ⟨1,d x,?_,.inr ⟨hw,trivial⟩,f,h1.mono (by omega)⟩
    rw [hb]
    unfold Mod.bits
    rw [a.a]
    rfl
   ·cases n with
    | zero=>omega
    | succ n=>
     obtain ⟨k,z,e1,e2,e3,e4⟩:=W84 D hc n (d x) (B+24) (by omega) h1 (by omega) (by rw [f.id];exact hid)
     refine ⟨k+1,z,by rw [hb];exact e1,.inr ⟨hw,e2⟩,⟨e3.p.trans f.p,e3.id.trans f.id,e3.th.trans f.th,e3.b.trans f.b,e3.w.trans f.w,e3.pr.trans f.pr,e3.su.trans f.su,e3.wo.trans f.wo⟩,e4.mono (by omega)⟩
structure YT4 (Q:Mod.Cf→Frm→Prop) (c:Mod.Cf) (t:Thr):Prop where
 q:∀f ∈ t.fr,Q c f
 a:Yt0 (Wc0 c).slots c.threads t.fr.reverse
 pr:(t.pred.length:Int)=c.level
 su:(t.succ.length:Int)=c.level
 wo:(t.word.length:Int)=c.level
def Mod.Thr.L (t:Thr):Nat:=t.retired.length+t.found.length+max t.fr.length 1
def W85 (l:List Thr):Nat:=(l.map Mod.Thr.L).sum
theorem WQ9:∀ {l:List Thr} {k:Nat} {t t':Thr},l[k]? = some t→W85 (l.set k t')+t.L=W85 l+t'.L
 | [],_,_,_,h=>by simp at h
 | a :: l,0,t,t',h=>by
  simp only [List.getElem?_cons_zero,Option.some.injEq] at h
  subst h
  simp only [List.set_cons_zero,W85,List.map_cons,List.sum_cons]
  omega
 | a :: l,k+1,t,t',h=>by
  simp only [List.getElem?_cons_succ] at h
  have ih:=WQ9 (t':=t') h
  simp only [List.set_cons_succ,W85,List.map_cons,List.sum_cons] at *
  omega
def Mod.Mac.T (m:Mac):Nat:=m.mm.st.toNat+m.used.toNat+W85 m.th
structure MacOk (Q:Mod.Cf→Frm→Prop) (c:Mod.Cf) (i:Nat) (m:Mac):Prop where
 ok:okC c=true
 p:m.p=Wc0 c
 w:(m.mm.w.length:Int)=(Wc0 c).size
 n:m.th.length≤6
 t:∀t ∈ m.th,YT4 Q c t
 T:m.T≤1000*i+2000
theorem MacOk.good (D:YQ2 d Q W ins):YI3 d W ins (MacOk Q c) where
 mono i m h:=⟨h.ok,h.p,h.w,h.n,h.t,Nat.le_trans h.T (by omega)⟩
 wd i m h:=by
  have B:=Wu6 h.ok
  have e:(m.mm.w.length:Int)=m.p.size:=by rw [h.p];exact h.w
  refine ⟨⟨by rw [h.p];rfl,e⟩,?_⟩
  have h1:=B.li
  have h2:=B.nd
  have h3:=B.tr
  have h4:=B.si
  rw [h.p] at e
  omega
 push i m k t cl h ht he ho hk hv:=by
  have hm:=List.mem_of_getElem? ht
  have o:=h.t t hm
  refine ⟨h.ok,h.p,h.w,?_,?_,?_⟩
  ·show (m.th.set k _).length≤6
   rw [List.length_set];exact h.n
  ·intro u hu
   rcases List.mem_or_eq_of_mem_set hu with hu | rfl
   ·exact h.t u hu
   ·refine ⟨?_,?_,o.pr,o.su,o.wo⟩
    ·intro f hf
     have hf:f ∈ t.fr ++ [⟨ins+cl.op,0,pad 10 [cl.key,cl.val]⟩]:=hf
     rw [he] at hf
     rw [List.mem_singleton.1 hf]
     exact D.new c cl.op _ h.ok ho
    ·show Yt0 _ _ (t.fr ++ [(⟨ins+cl.op,0,pad 10 [cl.key,cl.val]⟩ : Frm)]).reverse
     rw [he]
     exact ⟨trivial,trivial⟩
  ·have e:=WQ9 (t':=t.push (ins+cl.op) [cl.key,cl.val]) ht
   have e2:(t.push (ins+cl.op) [cl.key,cl.val]).L=t.L:=by
    show t.retired.length+t.found.length+max (t.fr ++ [_]).length 1=t.retired.length+t.found.length+max t.fr.length 1
    rw [he]
    rfl
   have h2:m.mm.st.toNat+m.used.toNat+W85 m.th≤1000*i+2000:=h.T
   show m.mm.st.toNat+m.used.toNat+W85 (m.th.set k (t.push (ins+cl.op) [cl.key,cl.val]))≤_
   omega
 step i m k t h hi ht hne:=by
  have hm:=List.mem_of_getElem? ht
  have o:=h.t t hm
  have hk:=(List.getElem?_eq_some_iff.1 ht).1
  have hn:=h.n
  have hL:1≤t.fr.length:=List.length_pos_iff.2 hne
  have hT:m.mm.st.toNat+m.used.toNat+W85 m.th≤1000*i+2000:=h.T
  have e0:=λt'=>WQ9 (t':=t') ht
  have e1:=e0 t
  have eT:t.L=t.retired.length+t.found.length+t.fr.length:=by
   unfold Mod.Thr.L
   rw [Nat.max_eq_left hL]
  have hs:W85 (m.th.set k ⟨[],[],[],[],[],[],[]⟩)+t.L=W85 m.th+1:=e0 _
  have hR:RunOk Q c ⟨m.quiet,t,k⟩ (m.mm.st.toNat+m.used.toNat+t.L):=by
   refine ⟨h.p,⟨o.q⟩,⟨o.a⟩,o.pr,o.su,o.wo,?_⟩
   show m.mm.st.toNat+m.used.toNat+t.retired.length+t.found.length+t.fr.length≤_
   omega
  obtain ⟨n,z,hb,hsf,f,hz⟩:=W84 D h.ok 36 _ _ (YT3 hR.a) hR (by omega) ⟨by show (0:Int)≤(k:Int);omega,by show (k:Int)≤6;omega⟩
  refine ⟨n,z,hb,hsf,f.id,f.th,h.ok,?_,?_,?_,?_,?_⟩
  ·exact f.p.trans h.p
  ·show (z.m.mm.w.length:Int)=_
   rw [f.w]
   exact h.w
  ·show (m.th.set k z.t).length≤6
   rw [List.length_set];exact hn
  ·intro u hu
   rcases List.mem_or_eq_of_mem_set hu with hu | rfl
   ·exact h.t u hu
   ·exact ⟨hz.q.a,hz.a.a,hz.pr,hz.su,hz.wo⟩
  ·have e2:=e0 z.t
   have hP:z.m.mm.st.toNat+z.m.used.toNat+z.t.retired.length+z.t.found.length+z.t.fr.length≤_:=hz.P
   have hz2:z.t.L≤z.t.retired.length+z.t.found.length+z.t.fr.length+1:=by
    unfold Mod.Thr.L
    have:max z.t.fr.length 1≤z.t.fr.length+1:=Nat.max_le.2 ⟨by omega,by omega⟩
    omega
   show z.m.mm.st.toNat+z.m.used.toNat+W85 (m.th.set k z.t)≤_
   omega
theorem Wt5 (m:Mm) (a v:Int):(m.store a v).w.length=m.w.length∧(m.store a v).st.toNat≤m.st.toNat+1:=by
 unfold Mm.store
 split
 ·exact ⟨by simp [Mm.tick,Mm.put],by show (m.st+1).toNat≤_;omega⟩
 ·exact ⟨rfl,by omega⟩
theorem WA2 (f:Nat→Int × Int):∀(l:List Nat) (m:Mm),(l.foldl (λ(m:Mm) (i:Nat)=>m.store (f i).1 (f i).2) m).w.length=m.w.length∧(l.foldl (λ(m:Mm) (i:Nat)=>m.store (f i).1 (f i).2) m).st.toNat≤m.st.toNat+l.length
 | [],m=>⟨rfl,by simp⟩
 | i :: l,m=>by
  have h1:=Wt5 m (f i).1 (f i).2
  have h2:=WA2 f l (m.store (f i).1 (f i).2)
  simp only [List.foldl_cons,List.length_cons]
  exact ⟨h2.1.trans h1.1,by omega⟩
theorem YJ2 {c:Mod.Cf} (h:okC c=true):((lay (Wc0 c)).w.length:Int)=(Wc0 c).size∧(lay (Wc0 c)).st.toNat≤200:=by
 have B:=Wu6 h
 have b1:=B.no
 have b2:=B.lv
 have b3:=B.se
 have b4:=B.si
 have b5:=B.tr
 have b6:=B.nd
 have b7:=B.li
 unfold lay
 dsimp only
 generalize hm0:(⟨List.replicate (Wc0 c).size.toNat 0,0,false,[]⟩ : Mm)=m0
 have h0:(m0.w.length:Int)=(Wc0 c).size∧m0.st.toNat=0:=by
  subst hm0
  exact ⟨by simp;omega,rfl⟩
 have h1:=Wt5 m0 0 (Wm0 ((Wc0 c).sent+1) false 0)
 generalize m0.store 0 (Wm0 ((Wc0 c).sent+1) false 0)=m1 at *
 have h2:=WA2 (λi=>((Wc0 c).link ((Wc0 c).sent+1+i),(Wc0 c).sent+1+i+1)) (List.range ((Wc0 c).c.nodes - ((Wc0 c).sent+1)).toNat) m1
 rw [List.length_range] at h2
 generalize hm2:(List.range ((Wc0 c).c.nodes - ((Wc0 c).sent+1)).toNat).foldl (λ(m:Mm) (i:Nat)=>m.store ((Wc0 c).link ((Wc0 c).sent+1+i)) ((Wc0 c).sent+1+i+1)) m1=m2
 have h2:m2.w.length=m1.w.length∧m2.st.toNat≤m1.st.toNat+((Wc0 c).c.nodes - ((Wc0 c).sent+1)).toNat:=by subst hm2;exact h2
 have h3:=Wt5 m2 2 1
 generalize m2.store 2 1=m3 at *
 split
 ·exact ⟨by omega,by omega⟩
 ·have h4:=Wt5 m3 ((Wc0 c).node 1 3) (Wc0 c).c.level
  generalize m3.store ((Wc0 c).node 1 3) (Wc0 c).c.level=m4 at *
  have h5:=Wt5 m4 ((Wc0 c).node 2 0) 18446744073709551615
  generalize m4.store ((Wc0 c).node 2 0) 18446744073709551615=m5 at *
  have h6:=WA2 (λi=>((Wc0 c).node 1 (5+i),Wm0 2 false 0)) (List.range (Wc0 c).c.level.toNat) m5
  rw [List.length_range] at h6
  dsimp only at h6
  exact ⟨by omega,by omega⟩
theorem W86 (c:Mod.Cf):∀n:Nat,W85 (List.replicate n (WB9 c))=n
 | 0=>rfl
 | n+1=>by
  have ih:=W86 c n
  simp only [List.replicate_succ,W85,List.map_cons,List.sum_cons] at *
  have:(WB9 c).L=1:=rfl
  omega
theorem MacOk.new (hc:okC c=true) (b:List Int) (g:Bool):MacOk Q c 0 (Ws2 c b g):=by
 have hl:=YJ2 hc
 have B:=Wu6 hc
 have b1:1≤c.threads∧c.threads≤6:=B.th
 have b2:1≤c.level∧c.level≤6:=B.lv
 refine ⟨hc,rfl,hl.1,?_,?_,?_⟩
 ·show (List.replicate c.threads.toNat (WB9 c)).length≤6
  rw [List.length_replicate];omega
 ·intro t ht
  have ht:t ∈ List.replicate c.threads.toNat (WB9 c):=ht
  rw [(List.mem_replicate.1 ht).2]
  refine ⟨λf hf=>(by cases hf),trivial,?_,?_,?_⟩ <;> (show ((List.replicate c.level.toNat (0:Int)).length:Int)=c.level;rw [List.length_replicate];omega)
 ·show (lay (Wc0 c)).st.toNat+(0:Int).toNat+W85 (List.replicate c.threads.toNat (WB9 c))≤_
  rw [W86]
  have:(0:Int).toNat=0:=rfl
  omega
end
end
section
open Mod
section
variable {x:Run} {sl th:Int}
theorem YA1 (hs:0 < sl) (hne:x.t.fr≠[]) (h:Adj sl th x) (e:x.f.fn=1):Nx sl th x (alloc x):=by
 have r:=h.r hne
 rw [e] at r
 unfold alloc;dsimp only
 repeat' split
 all_goals (refine ⟨by ((with_reducible first | apply AdjR.pop | apply AdjR.allPc | apply AdjR.allS | apply AdjR.fin | apply AdjR.call | apply AdjR.all);(focus (refine Lo.adjR ?_ (by assumption);(with_reducible repeat' constructor)));try (first | decide | (refine .inr ?_;decide) | (refine .inl ?_;simp [fA];done) | (refine Lo.ne ?_ hne;(with_reducible repeat' constructor)))),?_⟩;first | (refine .inl ?_;(focus (refine Tch.act ?_;(with_reducible repeat' constructor)));done) | (refine .inr ?_;((with_reducible first | apply AdjR.ltCall r hne | apply AdjR.ltFin r hne | apply AdjR.ltPc r hne | apply AdjR.ltPop r hne);assumption;(focus (refine Lo.adjR ?_ (by assumption);(with_reducible repeat' constructor)));try (first | assumption | exact We0 _ _));simp +decide [fW,fA,hs];first | done | omega))
theorem Yf6 (hs:0 < sl) (hne:x.t.fr≠[]) (h:Adj sl th x) (e:x.f.fn=2):Nx sl th x (Wr0 x):=by
 have r:=h.r hne
 rw [e] at r
 unfold Wr0;dsimp only
 repeat' split
 all_goals (refine ⟨by ((with_reducible first | apply AdjR.pop | apply AdjR.allPc | apply AdjR.allS | apply AdjR.fin | apply AdjR.call | apply AdjR.all);(focus (refine Lo.adjR ?_ (by assumption);(with_reducible repeat' constructor)));try (first | decide | (refine .inr ?_;decide) | (refine .inl ?_;simp [fA];done) | (refine Lo.ne ?_ hne;(with_reducible repeat' constructor)))),?_⟩;first | (refine .inl ?_;(focus (refine Tch.act ?_;(with_reducible repeat' constructor)));done) | (refine .inr ?_;((with_reducible first | apply AdjR.ltCall r hne | apply AdjR.ltFin r hne | apply AdjR.ltPc r hne | apply AdjR.ltPop r hne);assumption;(focus (refine Lo.adjR ?_ (by assumption);(with_reducible repeat' constructor)));try (first | assumption | exact We0 _ _));simp +decide [fW,fA,hs];first | done | omega))
theorem Yf7 (hs:0 < sl) (hne:x.t.fr≠[]) (h:Adj sl th x) (e:x.f.fn=3):Nx sl th x (Wr2 x):=by
 have r:=h.r hne
 rw [e] at r
 unfold Wr2;dsimp only
 repeat' split
 all_goals (refine ⟨by ((with_reducible first | apply AdjR.pop | apply AdjR.allPc | apply AdjR.allS | apply AdjR.fin | apply AdjR.call | apply AdjR.all);(focus (refine Lo.adjR ?_ (by assumption);(with_reducible repeat' constructor)));try (first | decide | (refine .inr ?_;decide) | (refine .inl ?_;simp [fA];done) | (refine Lo.ne ?_ hne;(with_reducible repeat' constructor)))),?_⟩;first | (refine .inl ?_;(focus (refine Tch.act ?_;(with_reducible repeat' constructor)));done) | (refine .inr ?_;((with_reducible first | apply AdjR.ltCall r hne | apply AdjR.ltFin r hne | apply AdjR.ltPc r hne | apply AdjR.ltPop r hne);assumption;(focus (refine Lo.adjR ?_ (by assumption);(with_reducible repeat' constructor)));try (first | assumption | exact We0 _ _));simp +decide [fW,fA,hs];first | done | omega))
theorem YJ3 (hsl:sl=x.m.p.slots) (hs:0 < sl) (hne:x.t.fr≠[]) (h:Adj sl th x) (e:x.f.fn=4):Nx sl th x (Yw5 x):=by
 have r:=h.r hne
 rw [e] at r
 unfold Yw5;dsimp only
 split
 ·rename_i c
  refine ⟨by ((with_reducible first | apply AdjR.pop | apply AdjR.allPc | apply AdjR.allS | apply AdjR.fin | apply AdjR.call | apply AdjR.all);(focus (refine Lo.adjR ?_ (by assumption);(with_reducible repeat' constructor)));try (first | decide | (refine .inr ?_;decide) | (refine .inl ?_;simp [fA];done) | (refine Lo.ne ?_ hne;(with_reducible repeat' constructor)))),.inr (AdjR.ltPop r hne rfl r hne ?_)⟩
  have c2:fA sl th 4 x.f.pc=false:=by simp [fA];omega
  rw [c2]
  simp [fW]
 ·(refine ⟨by ((with_reducible first | apply AdjR.pop | apply AdjR.allPc | apply AdjR.allS | apply AdjR.fin | apply AdjR.call | apply AdjR.all);(focus (refine Lo.adjR ?_ (by assumption);(with_reducible repeat' constructor)));try (first | decide | (refine .inr ?_;decide) | (refine .inl ?_;simp [fA];done) | (refine Lo.ne ?_ hne;(with_reducible repeat' constructor)))),?_⟩;first | (refine .inl ?_;(focus (refine Tch.act ?_;(with_reducible repeat' constructor)));done) | (refine .inr ?_;((with_reducible first | apply AdjR.ltCall r hne | apply AdjR.ltFin r hne | apply AdjR.ltPc r hne | apply AdjR.ltPop r hne);assumption;(focus (refine Lo.adjR ?_ (by assumption);(with_reducible repeat' constructor)));try (first | assumption | exact We0 _ _));simp +decide [fW,fA,hs];first | done | omega))
theorem YJ4 (y:Run) (r:List Int) (h:y.t.fr≠[]):(y.pop r).t.fr.reverse=rst y:=by
 show (y.t.pop r).fr.reverse=_
 unfold Thr.pop
 rw [if_neg h]
 rfl
theorem Yr4 (ha:0 < sl*th) (hne:x.t.fr≠[]) (h:Adj sl th x) (e:x.f.fn=5):Nx sl th x (Wx6 x):=by
 have r:=h.r hne
 rw [e] at r
 unfold Wx6;dsimp only
 generalize hz:((x.gh λg=>g.turn (s64 (x.f.g 0)) 1 2 2).re ((x.gh λg=>g.turn (s64 (x.f.g 0)) 1 2 2).t.retired ++ [s64 (x.f.g 0)]))=z
 have hzn:z.t.fr≠[]:=by subst hz;exact hne
 have rz:AdjR sl th 5 (rst x) z:=by subst hz;exact r.gh.re
 have hm:mu sl th x=3+muL sl th (rst x):=by
  rw [r.mu hne rfl]
  simp [fW,fA]
 have hp:(z.pop []).t.fr.reverse=rst x:=by rw [YJ4 _ _ hzn];exact rz.e
 split
 ·refine ⟨Adj.push rz.pop ?_,.inr ?_⟩
  ·rw [hp]
   cases hl:rst x with
   | nil=>trivial
   | cons f l=>
    have o:=r.o
    rw [hl] at o
    exact o
  ·rw [WQ8,hm]
   simp [fW,fA,ha]
   omega
 ·refine ⟨rz.pop,.inr ?_⟩
  rw [Yr3 _ hzn,rz.e,hm]
  omega
theorem AdjR.push {fn i:Int} {l:List Frm} {r:List Int} {y:Run} (h:AdjR sl th fn l y) (hne:y.t.fr≠[]) (hd:fR i < fR fn):Adj sl th (y.push i r):=by
 refine Adj.push (h.all hne) ?_
 rw [WB4 hne]
 exact .inr (by rw [h.f];exact hd)
theorem YJ5 (hsl:sl=x.m.p.slots) (hth:th=x.m.p.c.threads) (hne:x.t.fr≠[]) (h:Adj sl th x) (e:x.f.fn=6):Nx sl th x (scan x):=by
 have r:=h.r hne
 rw [e] at r
 have h0:∀y:Run,y=(if x.f.pc=0 then x.fo [] else x)→AdjR sl th 6 (rst x) y∧y.t.fr≠[]∧y.f.pc=x.f.pc:=by
  rintro y rfl
  split
  ·exact ⟨r.fo,hne,rfl⟩
  ·exact ⟨r,hne,rfl⟩
 unfold scan
 dsimp only
 generalize hy:(if x.f.pc=0 then x.fo [] else x)=y
 obtain ⟨ry,hny,hpc⟩:=h0 y hy.symm
 rw [← hsl,← hth]
 split
 ·exact ⟨by ((with_reducible first | apply AdjR.pop | apply AdjR.allPc | apply AdjR.allS | apply AdjR.fin | apply AdjR.call | apply AdjR.all);(focus (refine Lo.adjR ?_ (by assumption);(with_reducible repeat' constructor)));try (first | decide | (refine .inr ?_;decide) | (refine .inl ?_;simp [fA];done) | (refine Lo.ne ?_ hne;(with_reducible repeat' constructor)))),.inl (by (focus (refine Tch.act ?_;(with_reducible repeat' constructor))))⟩
 ·rename_i c
  have hm:mu sl th x=2+muL sl th (rst x):=by
   rw [r.mu hne rfl]
   have c2:fA sl th 6 x.f.pc=false:=by simp [fA];omega
   rw [c2]
   simp [fW]
  have hA:AdjR sl th 6 (rst x) (Wx7 y (sl*th))∧(Wx7 y (sl*th)).t.fr≠[]:=by
   unfold Wx7
   split
   ·exact ⟨by (focus (refine Lo.adjR ?_ (by assumption);(with_reducible repeat' constructor))),We0 _ _⟩
   ·exact ⟨ry,hny⟩
  generalize Wx7 y (sl*th)=z at *
  obtain ⟨rz,hzn⟩:=hA
  unfold WZ7
  split
  ·refine ⟨rz.pop,.inr ?_⟩
   rw [Yr3 _ hzn,rz.e,hm]
   omega
  ·rename_i n rest e2
   refine ⟨AdjR.push (l:=rst x) (fn:=6) (by (focus (refine Lo.adjR ?_ (by assumption);(with_reducible repeat' constructor)))) hzn (by decide),.inr ?_⟩
   rw [WQ8,hm]
   simp [fW,fA]
   omega
theorem Yf8 (hs:0 < sl) (hne:x.t.fr≠[]) (h:Adj sl th x) (e:x.f.fn=1∨x.f.fn=2):Nx sl th x (Wr1 x):=by
 unfold Wr1
 rw [if_neg hne]
 rcases e with e | e
 ·rw [if_pos e];exact YA1 hs hne h e
 ·rw [if_neg (by omega),if_pos e];exact Yf6 hs hne h e
theorem W38 (hsl:sl=x.m.p.slots) (hth:th=x.m.p.c.threads) (hs:0 < sl) (ha:0 < sl*th) (hne:x.t.fr≠[]) (h:Adj sl th x) (e:1≤x.f.fn∧x.f.fn≤6):Nx sl th x (Wn0 x):=by
 unfold Wn0
 rw [if_neg hne]
 by_cases e3:x.f.fn=3
 ·rw [if_pos e3];exact Yf7 hs hne h e3
 rw [if_neg e3]
 by_cases e4:x.f.fn=4
 ·rw [if_pos e4];exact YJ3 hsl hs hne h e4
 rw [if_neg e4]
 by_cases e5:x.f.fn=5
 ·rw [if_pos e5];exact Yr4 ha hne h e5
 rw [if_neg e5]
 by_cases e6:x.f.fn=6
 ·rw [if_pos e6];exact YJ5 hsl hth hne h e6
 rw [if_neg e6]
 exact Yf8 hs hne h (by omega)
end
end
section
open Mod
section
variable {x:Run} {L sl th:Int}
theorem Wl4 (x:Run) (a:Int):(x.drop1 a).2.f=x.f:=rfl
theorem Wi1 (x:Run) (a b c:Int):(x.swingA a b c).2.f=x.f:=rfl
end
end
section
set_option maxHeartbeats 1000000
open Mod
section
variable {x:Run} {L sl th:Int}
end
end
section
open Mod
section
variable {x:Run} {L sl th:Int}
end
end
section
open Mod
theorem W87 {c:Mod.Cf} (h:okC c=true):0 < (Wc0 c).slots∧0 < (Wc0 c).slots*c.threads∧(Wc0 c).slots*c.threads≤84∧(Wc0 c).slots≤14∧1≤c.level∧c.level≤6:=by
 have B:=Wu6 h
 have h1:2≤(Wc0 c).slots∧(Wc0 c).slots≤14:=B.sl
 have h2:1≤c.threads∧c.threads≤6:=B.th
 have h3:1≤c.level∧c.level≤6:=B.lv
 refine ⟨by omega,Int.mul_pos (by omega) (by omega),?_,h1.2,h3.1,h3.2⟩
 exact Int.le_trans (Int.mul_le_mul h1.2 h2.2 (by omega) (by omega)) (by decide)
theorem RunOk.ok {Q:Mod.Cf→Frm→Prop} {c:Mod.Cf} {x:Run} {B:Nat} (h:RunOk Q c x B) (hB:B < 200000000) (hid:0≤x.id∧x.id≤6) (hp:0≤x.f.pc∧x.f.pc≤100):Ok x:=by
 have hP:x.m.mm.st.toNat+x.m.used.toNat+x.t.retired.length+x.t.found.length+x.t.fr.length≤B:=h.P
 exact ⟨by omega,by omega,by omega,by omega,by omega,⟨by omega,by omega⟩,hp⟩
theorem YT5 {sl th:Int} {f:Frm} (h:Wu9 sl th f) (h1:0≤sl∧sl≤14) (h2:sl*th≤84):0≤f.pc∧f.pc≤100:=by
 unfold Wu9 at h
 omega
end
section
open Mod
theorem f_m (x:Run) (m:Mac):({ x with m:=m }:Run).f=x.f:=rfl
theorem Wl5 (x:Run) (a b c:Int) (d:Bool):(x.swing a b c d).2.f=x.f:=rfl
theorem Wi2 (x:Run) (a b c:Int) (d:Bool):(x.swingM a b c d).2.f=x.f:=rfl
theorem Wl6 (x:Run) (a b:Int):(x.guard a b).f=x.f:=rfl
def Ws6 (sl th:Int) (f:Frm):Prop:=Wu9 sl th f∨f.r.length=10∧(f.fn=10∧0≤f.pc∧f.pc≤1∨f.fn=11∧(0≤f.pc∧f.pc≤14∨f.pc=90)∨(f.fn=12∨f.fn=13)∧(0≤f.pc∧f.pc≤7∨f.pc=90)∨f.fn=14∧0≤f.pc∧f.pc≤7)
theorem Wt6 {sl th fn:Int} {l:List Int} (h:1≤fn∧fn≤6∨10≤fn∧fn≤14) (hs:0≤sl) (ht:0≤sl*th):Ws6 sl th ⟨fn,0,pad 10 l⟩:=by
 by_cases c:fn≤6
 ·exact .inl (Yq9 (by omega) hs ht)
 ·refine .inr ⟨WF8 _ _,?_⟩
  dsimp only
  omega
theorem YT6 {sl th:Int} {f:Frm} (h:Ws6 sl th f) (e:¬ (10≤f.fn∧f.fn≤14)):Wu9 sl th f:=by
 unfold Ws6 at h
 rcases h with h | ⟨_,h⟩
 ·exact h
 ·omega
theorem YA2 {sl th:Int} {f:Frm} (h:Ws6 sl th f) (e:10≤f.fn∧f.fn≤14):f.r.length=10∧(f.fn=10∧0≤f.pc∧f.pc≤1∨f.fn=11∧(0≤f.pc∧f.pc≤14∨f.pc=90)∨(f.fn=12∨f.fn=13)∧(0≤f.pc∧f.pc≤7∨f.pc=90)∨f.fn=14∧0≤f.pc∧f.pc≤7):=by
 unfold Ws6 Wu9 at h
 rcases h with h | h
 ·omega
 ·exact h
section
variable {x:Run} {sl th:Int}
theorem Yr5 (h:AllF (Ws6 sl th) x) (s0:0≤sl) (t0:0≤sl*th) (len:x.f.r.length=10) (e:x.f.fn=10):AllF (Ws6 sl th) (WN9 x):=by
 have r:=h.rest
 unfold WN9;dsimp only
 repeat' split
 all_goals ((repeat (with_reducible first | apply AllF.load | apply AllF.store | apply AllF.cas | apply AllF.add | apply AllF.swing | apply AllF.swingA | apply AllF.swingM | apply AllF.drop1 | apply AllF.guard | apply AllF.gh | apply AllF.fo | apply AllF.re | apply AllF.setPl));first | with_reducible assumption | ((with_reducible first | apply Rest.pop | apply Rest.call | apply Rest.allPc | apply Rest.allS | apply Rest.fin);(focus (refine Lo.rest ?_ (by assumption);(with_reducible repeat' constructor)))))
 all_goals first | (with_reducible apply Wt6;omega;assumption;assumption) | ((try simp only [f_m,WC0,f_s,Wi8,Wf6,Wp2,Wp3,WJ3,Wl4,Wl5,Wi1,Wi2,Wl6]);refine .inr ⟨?_,?_⟩ <;> simp only [Wk3,Wr8,Wo4,WJ2,Wo3,WJ1,or_true,true_or,and_true,true_and] <;> omega)
theorem Yr6 (h:AllF (Ws6 sl th) x) (s0:0≤sl) (t0:0≤sl*th) (len:x.f.r.length=10) (e:x.f.fn=11):AllF (Ws6 sl th) (WO1 x):=by
 have r:=h.rest
 unfold WO1;dsimp only
 repeat' split
 all_goals ((repeat (with_reducible first | apply AllF.load | apply AllF.store | apply AllF.cas | apply AllF.add | apply AllF.swing | apply AllF.swingA | apply AllF.swingM | apply AllF.drop1 | apply AllF.guard | apply AllF.gh | apply AllF.fo | apply AllF.re | apply AllF.setPl));first | with_reducible assumption | ((with_reducible first | apply Rest.pop | apply Rest.call | apply Rest.allPc | apply Rest.allS | apply Rest.fin);(focus (refine Lo.rest ?_ (by assumption);(with_reducible repeat' constructor)))))
 all_goals first | (with_reducible apply Wt6;omega;assumption;assumption) | ((try simp only [f_m,WC0,f_s,Wi8,Wf6,Wp2,Wp3,WJ3,Wl4,Wl5,Wi1,Wi2,Wl6]);refine .inr ⟨?_,?_⟩ <;> simp only [Wk3,Wr8,Wo4,WJ2,Wo3,WJ1,or_true,true_or,and_true,true_and] <;> omega)
theorem WW9 (h:AllF (Ws6 sl th) x) (s0:0≤sl) (t0:0≤sl*th) (len:x.f.r.length=10) (e:x.f.fn=11):AllF (Ws6 sl th) (Wn1 x):=by
 have r:=h.rest
 unfold Wn1 WO0;dsimp only
 split
 ·refine Rest.allPc (Rest.s (Rest.m (by (focus (refine Lo.rest ?_ (by assumption);(with_reducible repeat' constructor)))))) ?_
  ((try simp only [f_m,WC0,f_s,Wi8,Wf6,Wp2,Wp3,WJ3,Wl4,Wl5,Wi1,Wi2,Wl6]);refine .inr ⟨?_,?_⟩ <;> simp only [Wk3,Wr8,Wo4,WJ2,Wo3,WJ1,or_true,true_or,and_true,true_and] <;> omega)
 repeat' split
 all_goals first | (refine AllF.push ?_ (Wt6 (by omega) s0 t0)) | skip
 all_goals ((repeat (with_reducible first | apply AllF.load | apply AllF.store | apply AllF.cas | apply AllF.add | apply AllF.swing | apply AllF.swingA | apply AllF.swingM | apply AllF.drop1 | apply AllF.guard | apply AllF.gh | apply AllF.fo | apply AllF.re | apply AllF.setPl));first | with_reducible assumption | ((with_reducible first | apply Rest.pop | apply Rest.call | apply Rest.allPc | apply Rest.allS | apply Rest.fin);(focus (refine Lo.rest ?_ (by assumption);(with_reducible repeat' constructor)))))
 all_goals first | (with_reducible apply Wt6;omega;assumption;assumption) | ((try simp only [f_m,WC0,f_s,Wi8,Wf6,Wp2,Wp3,WJ3,Wl4,Wl5,Wi1,Wi2,Wl6]);refine .inr ⟨?_,?_⟩ <;> simp only [Wk3,Wr8,Wo4,WJ2,Wo3,WJ1,or_true,true_or,and_true,true_and] <;> omega)
theorem Yr7 (h:AllF (Ws6 sl th) x) (s0:0≤sl) (t0:0≤sl*th) (len:x.f.r.length=10) (e:x.f.fn=11):AllF (Ws6 sl th) (WO2 x):=by
 have r:=h.rest
 unfold WO2 WO0;dsimp only
 repeat' split
 all_goals ((repeat (with_reducible first | apply AllF.load | apply AllF.store | apply AllF.cas | apply AllF.add | apply AllF.swing | apply AllF.swingA | apply AllF.swingM | apply AllF.drop1 | apply AllF.guard | apply AllF.gh | apply AllF.fo | apply AllF.re | apply AllF.setPl));first | with_reducible assumption | ((with_reducible first | apply Rest.pop | apply Rest.call | apply Rest.allPc | apply Rest.allS | apply Rest.fin);(focus (refine Lo.rest ?_ (by assumption);(with_reducible repeat' constructor)))))
 all_goals first | (with_reducible apply Wt6;omega;assumption;assumption) | ((try simp only [f_m,WC0,f_s,Wi8,Wf6,Wp2,Wp3,WJ3,Wl4,Wl5,Wi1,Wi2,Wl6]);refine .inr ⟨?_,?_⟩ <;> simp only [Wk3,Wr8,Wo4,WJ2,Wo3,WJ1,or_true,true_or,and_true,true_and] <;> omega)
theorem YA3 (h:AllF (Ws6 sl th) x) (s0:0≤sl) (t0:0≤sl*th) (len:x.f.r.length=10) (e:x.f.fn=11):AllF (Ws6 sl th) (Yw6 x):=by
 have r:=h.rest
 unfold Yw6 WU1;dsimp only
 repeat' split
 all_goals ((repeat (with_reducible first | apply AllF.load | apply AllF.store | apply AllF.cas | apply AllF.add | apply AllF.swing | apply AllF.swingA | apply AllF.swingM | apply AllF.drop1 | apply AllF.guard | apply AllF.gh | apply AllF.fo | apply AllF.re | apply AllF.setPl));first | with_reducible assumption | ((with_reducible first | apply Rest.pop | apply Rest.call | apply Rest.allPc | apply Rest.allS | apply Rest.fin);(focus (refine Lo.rest ?_ (by assumption);(with_reducible repeat' constructor)))))
 all_goals first | (with_reducible apply Wt6;omega;assumption;assumption) | with_reducible exact Rest.m r | ((try simp only [f_m,WC0,f_s,Wi8,Wf6,Wp2,Wp3,WJ3,Wl4,Wl5,Wi1,Wi2,Wl6]);refine .inr ⟨?_,?_⟩ <;> simp only [Wk3,Wr8,Wo4,WJ2,Wo3,WJ1,or_true,true_or,and_true,true_and] <;> omega)
theorem Yr8 (h:AllF (Ws6 sl th) x) (s0:0≤sl) (t0:0≤sl*th) (len:x.f.r.length=10) (e:x.f.fn=11):AllF (Ws6 sl th) (WO3 x):=by
 unfold WO3
 repeat' split
 ·exact Yr6 h s0 t0 len e
 ·exact WW9 h s0 t0 len e
 ·exact Yr7 h s0 t0 len e
 ·exact YA3 h s0 t0 len e
theorem Yr9 (h:AllF (Ws6 sl th) x) (s0:0≤sl) (t0:0≤sl*th) (len:x.f.r.length=10) (e:x.f.fn=12∨x.f.fn=13):AllF (Ws6 sl th) (WE6 x):=by
 have r:=h.rest
 unfold WE6;dsimp only
 repeat' split
 all_goals ((repeat (with_reducible first | apply AllF.load | apply AllF.store | apply AllF.cas | apply AllF.add | apply AllF.swing | apply AllF.swingA | apply AllF.swingM | apply AllF.drop1 | apply AllF.guard | apply AllF.gh | apply AllF.fo | apply AllF.re | apply AllF.setPl));first | with_reducible assumption | ((with_reducible first | apply Rest.pop | apply Rest.call | apply Rest.allPc | apply Rest.allS | apply Rest.fin);(focus (refine Lo.rest ?_ (by assumption);(with_reducible repeat' constructor)))))
 all_goals first | (with_reducible apply Wt6;omega;assumption;assumption) | ((try simp only [f_m,WC0,f_s,Wi8,Wf6,Wp2,Wp3,WJ3,Wl4,Wl5,Wi1,Wi2,Wl6]);refine .inr ⟨?_,?_⟩ <;> simp only [Wk3,Wr8,Wo4,WJ2,Wo3,WJ1,or_true,true_or,and_true,true_and] <;> omega)
theorem Ys0 (h:AllF (Ws6 sl th) x) (s0:0≤sl) (t0:0≤sl*th) (len:x.f.r.length=10) (e:x.f.fn=12∨x.f.fn=13):AllF (Ws6 sl th) (WE7 x):=by
 have r:=h.rest
 unfold WE7;dsimp only
 repeat' split
 all_goals first | exact Yr9 h s0 t0 len e | skip
 all_goals ((repeat (with_reducible first | apply AllF.load | apply AllF.store | apply AllF.cas | apply AllF.add | apply AllF.swing | apply AllF.swingA | apply AllF.swingM | apply AllF.drop1 | apply AllF.guard | apply AllF.gh | apply AllF.fo | apply AllF.re | apply AllF.setPl));first | with_reducible assumption | ((with_reducible first | apply Rest.pop | apply Rest.call | apply Rest.allPc | apply Rest.allS | apply Rest.fin);(focus (refine Lo.rest ?_ (by assumption);(with_reducible repeat' constructor)))))
 all_goals first | (with_reducible apply Wt6;omega;assumption;assumption) | ((try simp only [f_m,WC0,f_s,Wi8,Wf6,Wp2,Wp3,WJ3,Wl4,Wl5,Wi1,Wi2,Wl6]);refine .inr ⟨?_,?_⟩ <;> simp only [Wk3,Wr8,Wo4,WJ2,Wo3,WJ1,or_true,true_or,and_true,true_and] <;> omega)
theorem WX0 (h:AllF (Ws6 sl th) x) (len:x.f.r.length=10) (e:x.f.fn=14):AllF (Ws6 sl th) (WI7 x):=by
 have r:=h.rest
 unfold WI7;dsimp only
 repeat' split
 all_goals ((repeat (with_reducible first | apply AllF.load | apply AllF.store | apply AllF.cas | apply AllF.add | apply AllF.swing | apply AllF.swingA | apply AllF.swingM | apply AllF.drop1 | apply AllF.guard | apply AllF.gh | apply AllF.fo | apply AllF.re | apply AllF.setPl));first | with_reducible assumption | ((with_reducible first | apply Rest.pop | apply Rest.call | apply Rest.allPc | apply Rest.allS | apply Rest.fin);(focus (refine Lo.rest ?_ (by assumption);(with_reducible repeat' constructor)))))
 all_goals ((try simp only [f_m,WC0,f_s,Wi8,Wf6,Wp2,Wp3,WJ3,Wl4,Wl5,Wi1,Wi2,Wl6]);refine .inr ⟨?_,?_⟩ <;> simp only [Wk3,Wr8,Wo4,WJ2,Wo3,WJ1,or_true,true_or,and_true,true_and] <;> omega)
theorem Ys1 (h:AllF (Ws6 sl th) x) (s0:0≤sl) (t0:0≤sl*th) (len:x.f.r.length=10) (e:x.f.fn=14):AllF (Ws6 sl th) (WO4 x):=by
 have r:=h.rest
 unfold WO4;dsimp only
 repeat' split
 all_goals first | exact WX0 h len e | skip
 all_goals ((repeat (with_reducible first | apply AllF.load | apply AllF.store | apply AllF.cas | apply AllF.add | apply AllF.swing | apply AllF.swingA | apply AllF.swingM | apply AllF.drop1 | apply AllF.guard | apply AllF.gh | apply AllF.fo | apply AllF.re | apply AllF.setPl));first | with_reducible assumption | ((with_reducible first | apply Rest.pop | apply Rest.call | apply Rest.allPc | apply Rest.allS | apply Rest.fin);(focus (refine Lo.rest ?_ (by assumption);(with_reducible repeat' constructor)))))
 all_goals first | (with_reducible apply Wt6;omega;assumption;assumption) | ((try simp only [f_m,WC0,f_s,Wi8,Wf6,Wp2,Wp3,WJ3,Wl4,Wl5,Wi1,Wi2,Wl6]);refine .inr ⟨?_,?_⟩ <;> simp only [Wk3,Wr8,Wo4,WJ2,Wo3,WJ1,or_true,true_or,and_true,true_and] <;> omega)
theorem Ys2 {i:Nat} {p:Int} (h:AllF (Ws6 sl th) x) (len:x.f.r.length=10) (e:x.f.fn=14):AllF (Ws6 sl th) (WI8 x i p):=by
 have r:=h.rest
 unfold WI8;dsimp only
 split
 ·refine Rest.allS (Rest.m (by (focus (refine Lo.rest ?_ (by assumption);(with_reducible repeat' constructor))))) ?_
  ((try simp only [f_m,WC0,f_s,Wi8,Wf6,Wp2,Wp3,WJ3,Wl4,Wl5,Wi1,Wi2,Wl6]);refine .inr ⟨?_,?_⟩ <;> simp only [Wk3,Wr8,Wo4,WJ2,Wo3,WJ1,or_true,true_or,and_true,true_and] <;> omega)
 ·refine AllF.m ?_
  ((repeat (with_reducible first | apply AllF.load | apply AllF.store | apply AllF.cas | apply AllF.add | apply AllF.swing | apply AllF.swingA | apply AllF.swingM | apply AllF.drop1 | apply AllF.guard | apply AllF.gh | apply AllF.fo | apply AllF.re | apply AllF.setPl));first | with_reducible assumption | ((with_reducible first | apply Rest.pop | apply Rest.call | apply Rest.allPc | apply Rest.allS | apply Rest.fin);(focus (refine Lo.rest ?_ (by assumption);(with_reducible repeat' constructor)))))
  ((try simp only [f_m,WC0,f_s,Wi8,Wf6,Wp2,Wp3,WJ3,Wl4,Wl5,Wi1,Wi2,Wl6]);refine .inr ⟨?_,?_⟩ <;> simp only [Wk3,Wr8,Wo4,WJ2,Wo3,WJ1,or_true,true_or,and_true,true_and] <;> omega)
theorem Ys3 (h:AllF (Ws6 sl th) x) (s0:0≤sl) (t0:0≤sl*th) (len:x.f.r.length=10) (e:x.f.fn=14):AllF (Ws6 sl th) (WO5 x):=by
 have r:=h.rest
 unfold WO5 Wo6;dsimp only
 repeat' split
 all_goals first | exact Ys1 h s0 t0 len e | exact Ys2 h len e | exact WX0 h len e | skip
 all_goals ((repeat (with_reducible first | apply AllF.load | apply AllF.store | apply AllF.cas | apply AllF.add | apply AllF.swing | apply AllF.swingA | apply AllF.swingM | apply AllF.drop1 | apply AllF.guard | apply AllF.gh | apply AllF.fo | apply AllF.re | apply AllF.setPl));first | with_reducible assumption | ((with_reducible first | apply Rest.pop | apply Rest.call | apply Rest.allPc | apply Rest.allS | apply Rest.fin);(focus (refine Lo.rest ?_ (by assumption);(with_reducible repeat' constructor)))))
 all_goals first | (with_reducible apply Wt6;omega;assumption;assumption) | ((try simp only [f_m,WC0,f_s,Wi8,Wf6,Wp2,Wp3,WJ3,Wl4,Wl5,Wi1,Wi2,Wl6]);refine .inr ⟨?_,?_⟩ <;> simp only [Wk3,Wr8,Wo4,WJ2,Wo3,WJ1,or_true,true_or,and_true,true_and] <;> omega)
theorem W39 (h:AllF (Ws6 sl th) x) (hs:sl=x.m.p.slots) (ht:th=x.m.p.c.threads) (s0:0≤sl) (t0:0≤sl*th) (hne:x.t.fr≠[]):AllF (Ws6 sl th) (Wl1 x):=by
 have r:=h.rest
 have o:=h.top hne
 unfold Wl1
 rw [if_neg hne]
 dsimp only
 split
 ·((repeat (with_reducible first | apply AllF.load | apply AllF.store | apply AllF.cas | apply AllF.add | apply AllF.swing | apply AllF.swingA | apply AllF.swingM | apply AllF.drop1 | apply AllF.guard | apply AllF.gh | apply AllF.fo | apply AllF.re | apply AllF.setPl));first | with_reducible assumption | ((with_reducible first | apply Rest.pop | apply Rest.call | apply Rest.allPc | apply Rest.allS | apply Rest.fin);(focus (refine Lo.rest ?_ (by assumption);(with_reducible repeat' constructor)))))
 split
 ·exact Yr5 h s0 t0 (YA2 o (by omega)).1 (by assumption)
 split
 ·exact Yr8 h s0 t0 (YA2 o (by omega)).1 (by assumption)
 split
 ·exact Ys0 h s0 t0 (YA2 o (by omega)).1 (by assumption)
 split
 ·exact Ys3 h s0 t0 (YA2 o (by omega)).1 (by assumption)
 ·exact WW8 (λf hf=>.inl hf) h hs ht s0 t0 (YT6 o (by omega))
theorem YA4 (hs:0 < sl) (ha:0 < sl*th) (hne:x.t.fr≠[]) (h:Adj sl th x) (e:x.f.fn=10) (hp:0≤x.f.pc∧x.f.pc≤1):Nx sl th x (WN9 x):=by
 have r:=h.r hne
 rw [e] at r
 unfold WN9;dsimp only
 split
 ·(refine ⟨by ((with_reducible first | apply AdjR.pop | apply AdjR.allPc | apply AdjR.allS | apply AdjR.fin | apply AdjR.call | apply AdjR.all);(focus (refine Lo.adjR ?_ (by assumption);(with_reducible repeat' constructor)));try (first | decide | (refine .inr ?_;decide) | (refine .inl ?_;simp [fA];done) | (refine Lo.ne ?_ hne;(with_reducible repeat' constructor)))),?_⟩;first | (refine .inl ?_;(focus (refine Tch.act ?_;(with_reducible repeat' constructor)));done) | (refine .inr ?_;((with_reducible first | apply AdjR.ltCall r hne | apply AdjR.ltFin r hne | apply AdjR.ltPc r hne | apply AdjR.ltPop r hne);assumption;(focus (refine Lo.adjR ?_ (by assumption);(with_reducible repeat' constructor)));try (first | assumption | exact We0 _ _));simp +decide [fW,fA,hs];first | done | omega))
 have e1:x.f.pc=1:=by omega
 split
 all_goals (refine ⟨by ((with_reducible first | apply AdjR.pop | apply AdjR.allPc | apply AdjR.allS | apply AdjR.fin | apply AdjR.call | apply AdjR.all);(focus (refine Lo.adjR ?_ (by assumption);(with_reducible repeat' constructor)));try (first | decide | (refine .inr ?_;decide) | (refine .inl ?_;simp [fA];done) | (refine Lo.ne ?_ hne;(with_reducible repeat' constructor)))),?_⟩;first | (refine .inl ?_;(focus (refine Tch.act ?_;(with_reducible repeat' constructor)));done) | (refine .inr ?_;((with_reducible first | apply AdjR.ltCall r hne | apply AdjR.ltFin r hne | apply AdjR.ltPc r hne | apply AdjR.ltPop r hne);assumption;(focus (refine Lo.adjR ?_ (by assumption);(with_reducible repeat' constructor)));try (first | assumption | exact We0 _ _));simp +decide [fW,fA,hs];first | done | omega))
theorem YA5 (hs:0 < sl) (ha:0 < sl*th) (hne:x.t.fr≠[]) (h:Adj sl th x) (e:x.f.fn=11) (hp:0≤x.f.pc∧x.f.pc≤3):Nx sl th x (WO1 x):=by
 have r:=h.r hne
 rw [e] at r
 unfold WO1;dsimp only
 repeat' split
 all_goals (refine ⟨by ((with_reducible first | apply AdjR.pop | apply AdjR.allPc | apply AdjR.allS | apply AdjR.fin | apply AdjR.call | apply AdjR.all);(focus (refine Lo.adjR ?_ (by assumption);(with_reducible repeat' constructor)));try (first | decide | (refine .inr ?_;decide) | (refine .inl ?_;simp [fA];done) | (refine Lo.ne ?_ hne;(with_reducible repeat' constructor)))),?_⟩;first | (refine .inl ?_;(focus (refine Tch.act ?_;(with_reducible repeat' constructor)));done) | (refine .inr ?_;((with_reducible first | apply AdjR.ltCall r hne | apply AdjR.ltFin r hne | apply AdjR.ltPc r hne | apply AdjR.ltPop r hne);assumption;(focus (refine Lo.adjR ?_ (by assumption);(with_reducible repeat' constructor)));try (first | assumption | exact We0 _ _));simp +decide [fW,fA,hs,ha];first | done | omega))
theorem W40 (hs:0 < sl) (ha:0 < sl*th) (hne:x.t.fr≠[]) (h:Adj sl th x) (e:x.f.fn=11) (hp:4≤x.f.pc∧x.f.pc≤7):Nx sl th x (Wn1 x):=by
 have r:=h.r hne
 rw [e] at r
 unfold Wn1 WO0;dsimp only
 split
 ·(refine ⟨by ((with_reducible first | apply AdjR.pop | apply AdjR.allPc | apply AdjR.allS | apply AdjR.fin | apply AdjR.call | apply AdjR.all);(focus (refine Lo.adjR ?_ (by assumption);(with_reducible repeat' constructor)));try (first | decide | (refine .inr ?_;decide) | (refine .inl ?_;simp [fA];done) | (refine Lo.ne ?_ hne;(with_reducible repeat' constructor)))),?_⟩;first | (refine .inl ?_;(focus (refine Tch.act ?_;(with_reducible repeat' constructor)));done) | (refine .inr ?_;((with_reducible first | apply AdjR.ltCall r hne | apply AdjR.ltFin r hne | apply AdjR.ltPc r hne | apply AdjR.ltPop r hne);assumption;(focus (refine Lo.adjR ?_ (by assumption);(with_reducible repeat' constructor)));try (first | assumption | exact We0 _ _));simp +decide [fW,fA,hs,ha];first | done | omega))
 split
 ·(refine ⟨by ((with_reducible first | apply AdjR.pop | apply AdjR.allPc | apply AdjR.allS | apply AdjR.fin | apply AdjR.call | apply AdjR.all);(focus (refine Lo.adjR ?_ (by assumption);(with_reducible repeat' constructor)));try (first | decide | (refine .inr ?_;decide) | (refine .inl ?_;simp [fA];done) | (refine Lo.ne ?_ hne;(with_reducible repeat' constructor)))),?_⟩;first | (refine .inl ?_;(focus (refine Tch.act ?_;(with_reducible repeat' constructor)));done) | (refine .inr ?_;((with_reducible first | apply AdjR.ltCall r hne | apply AdjR.ltFin r hne | apply AdjR.ltPc r hne | apply AdjR.ltPop r hne);assumption;(focus (refine Lo.adjR ?_ (by assumption);(with_reducible repeat' constructor)));try (first | assumption | exact We0 _ _));simp +decide [fW,fA,hs];first | done | omega))
 split
 ·split
  ·(refine ⟨by ((with_reducible first | apply AdjR.pop | apply AdjR.allPc | apply AdjR.allS | apply AdjR.fin | apply AdjR.call | apply AdjR.all);(focus (refine Lo.adjR ?_ (by assumption);(with_reducible repeat' constructor)));try (first | decide | (refine .inr ?_;decide) | (refine .inl ?_;simp [fA];done) | (refine Lo.ne ?_ hne;(with_reducible repeat' constructor)))),?_⟩;first | (refine .inl ?_;(focus (refine Tch.act ?_;(with_reducible repeat' constructor)));done) | (refine .inr ?_;((with_reducible first | apply AdjR.ltCall r hne | apply AdjR.ltFin r hne | apply AdjR.ltPc r hne | apply AdjR.ltPop r hne);assumption;(focus (refine Lo.adjR ?_ (by assumption);(with_reducible repeat' constructor)));try (first | assumption | exact We0 _ _));simp +decide [fW,fA,hs];first | done | omega))
  ·split
   all_goals (refine ⟨by ((with_reducible first | apply AdjR.pop | apply AdjR.allPc | apply AdjR.allS | apply AdjR.fin | apply AdjR.call | apply AdjR.all);(focus (refine Lo.adjR ?_ (by assumption);(with_reducible repeat' constructor)));try (first | decide | (refine .inr ?_;decide) | (refine .inl ?_;simp [fA];done) | (refine Lo.ne ?_ hne;(with_reducible repeat' constructor)))),?_⟩;first | (refine .inl ?_;(focus (refine Tch.act ?_;(with_reducible repeat' constructor)));done) | (refine .inr ?_;((with_reducible first | apply AdjR.ltCall r hne | apply AdjR.ltFin r hne | apply AdjR.ltPc r hne | apply AdjR.ltPop r hne);assumption;(focus (refine Lo.adjR ?_ (by assumption);(with_reducible repeat' constructor)));try (first | assumption | exact We0 _ _));simp +decide [fW,fA,hs];first | done | omega))
 have e1:x.f.pc=7:=by omega
 split
 ·have ra:AdjR sl th 4 (((((x.s 7 1).s 8 0).s 9 0).pc 90).f :: rst x) (x.fin 1 0 0):=by
   have h1:Adj sl th (((((x.s 7 1).s 8 0).s 9 0).pc 90)):=(r.s.s.s).allPc
   have h2:=h1.a
   rw [show (((((x.s 7 1).s 8 0).s 9 0).pc 90)).t.fr.reverse=(((((x.s 7 1).s 8 0).s 9 0).pc 90)).f :: rst (((((x.s 7 1).s 8 0).s 9 0).pc 90)) from WB4 (We0 _ _)] at h2
   have er:rst ((((x.s 7 1).s 8 0).s 9 0).pc 90)=rst x:=(r.s.s.s).pc.e
   have er2:rst (x.fin 1 0 0)=(((((x.s 7 1).s 8 0).s 9 0).pc 90).f :: rst x):=by
    show ((((((x.s 7 1).s 8 0).s 9 0).pc 90).t.fr ++ [(⟨4,0,pad 10 []⟩ : Frm)]).dropLast).reverse=_
    rw [List.dropLast_concat,show (((((x.s 7 1).s 8 0).s 9 0).pc 90)).t.fr.reverse=(((((x.s 7 1).s 8 0).s 9 0).pc 90)).f :: rst (((((x.s 7 1).s 8 0).s 9 0).pc 90)) from WB4 (We0 _ _)]
    exact congrArg _ er
   refine ⟨?_,er2,?_,?_⟩
   ·show ((((((x.s 7 1).s 8 0).s 9 0).pc 90).t.fr ++ [(⟨4,0,pad 10 []⟩ : Frm)]).getLast?.getD dfF).fn=4
    simp
   ·refine .inr ?_
    rw [(r.s.s.s).pc.f]
    decide
   ·rw [← er];exact h2
  have hn:(x.fin 1 0 0).t.fr≠[]:=by
   show (((((x.s 7 1).s 8 0).s 9 0).pc 90).t.fr ++ [_])≠[]
   simp
  refine ⟨Adj.push (ra.all hn) ?_,.inr ?_⟩
  ·rw [WB4 hn]
   refine .inl ?_
   show fA sl th (x.fin 1 0 0).f.fn (x.fin 1 0 0).f.pc=true
   rw [ra.f]
   have:(x.fin 1 0 0).f.pc=0:=by
    show ((((((x.s 7 1).s 8 0).s 9 0).pc 90).t.fr ++ [(⟨4,0,pad 10 []⟩ : Frm)]).getLast?.getD dfF).pc=0
    simp
   rw [this]
   simp [fA,hs]
  ·have hpf:(x.fin 1 0 0).f.pc=0:=by
    show ((((((x.s 7 1).s 8 0).s 9 0).pc 90).t.fr ++ [(⟨4,0,pad 10 []⟩ : Frm)]).getLast?.getD dfF).pc=0
    simp
   rw [WQ8,ra.mu hn hpf,r.mu hne e1]
   simp [fW,fA,hs]
 ·(refine ⟨by ((with_reducible first | apply AdjR.pop | apply AdjR.allPc | apply AdjR.allS | apply AdjR.fin | apply AdjR.call | apply AdjR.all);(focus (refine Lo.adjR ?_ (by assumption);(with_reducible repeat' constructor)));try (first | decide | (refine .inr ?_;decide) | (refine .inl ?_;simp [fA];done) | (refine Lo.ne ?_ hne;(with_reducible repeat' constructor)))),?_⟩;first | (refine .inl ?_;(focus (refine Tch.act ?_;(with_reducible repeat' constructor)));done) | (refine .inr ?_;((with_reducible first | apply AdjR.ltCall r hne | apply AdjR.ltFin r hne | apply AdjR.ltPc r hne | apply AdjR.ltPop r hne);assumption;(focus (refine Lo.adjR ?_ (by assumption);(with_reducible repeat' constructor)));try (first | assumption | exact We0 _ _));simp +decide [fW,fA,hs];first | done | omega))
theorem YA6 (hs:0 < sl) (ha:0 < sl*th) (hne:x.t.fr≠[]) (h:Adj sl th x) (e:x.f.fn=11) (hp:8≤x.f.pc∧x.f.pc≤9):Nx sl th x (WO2 x):=by
 have r:=h.r hne
 rw [e] at r
 unfold WO2 WO0;dsimp only
 split
 ·split
  all_goals (refine ⟨by ((with_reducible first | apply AdjR.pop | apply AdjR.allPc | apply AdjR.allS | apply AdjR.fin | apply AdjR.call | apply AdjR.all);(focus (refine Lo.adjR ?_ (by assumption);(with_reducible repeat' constructor)));try (first | decide | (refine .inr ?_;decide) | (refine .inl ?_;simp [fA];done) | (refine Lo.ne ?_ hne;(with_reducible repeat' constructor)))),?_⟩;first | (refine .inl ?_;(focus (refine Tch.act ?_;(with_reducible repeat' constructor)));done) | (refine .inr ?_;((with_reducible first | apply AdjR.ltCall r hne | apply AdjR.ltFin r hne | apply AdjR.ltPc r hne | apply AdjR.ltPop r hne);assumption;(focus (refine Lo.adjR ?_ (by assumption);(with_reducible repeat' constructor)));try (first | assumption | exact We0 _ _));simp +decide [fW,fA,hs];first | done | omega))
 have e1:x.f.pc=9:=by omega
 (refine ⟨by ((with_reducible first | apply AdjR.pop | apply AdjR.allPc | apply AdjR.allS | apply AdjR.fin | apply AdjR.call | apply AdjR.all);(focus (refine Lo.adjR ?_ (by assumption);(with_reducible repeat' constructor)));try (first | decide | (refine .inr ?_;decide) | (refine .inl ?_;simp [fA];done) | (refine Lo.ne ?_ hne;(with_reducible repeat' constructor)))),?_⟩;first | (refine .inl ?_;(focus (refine Tch.act ?_;(with_reducible repeat' constructor)));done) | (refine .inr ?_;((with_reducible first | apply AdjR.ltCall r hne | apply AdjR.ltFin r hne | apply AdjR.ltPc r hne | apply AdjR.ltPop r hne);assumption;(focus (refine Lo.adjR ?_ (by assumption);(with_reducible repeat' constructor)));try (first | assumption | exact We0 _ _));simp +decide [fW,fA,hs];first | done | omega))
theorem YJ6 (hs:0 < sl) (ha:0 < sl*th) (hne:x.t.fr≠[]) (h:Adj sl th x) (e:x.f.fn=11) (hp:10≤x.f.pc∧x.f.pc≤14):Nx sl th x (Yw6 x):=by
 have r:=h.r hne
 rw [e] at r
 unfold Yw6 WU1;dsimp only
 repeat' split
 all_goals first | (refine ⟨by ((with_reducible first | apply AdjR.pop | apply AdjR.allPc | apply AdjR.allS | apply AdjR.fin | apply AdjR.call | apply AdjR.all);(focus (refine Lo.adjR ?_ (by assumption);(with_reducible repeat' constructor)));try (first | decide | (refine .inr ?_;decide) | (refine .inl ?_;simp [fA];done) | (refine Lo.ne ?_ hne;(with_reducible repeat' constructor)))),?_⟩;first | (refine .inl ?_;(focus (refine Tch.act ?_;(with_reducible repeat' constructor)));done) | (refine .inr ?_;((with_reducible first | apply AdjR.ltCall r hne | apply AdjR.ltFin r hne | apply AdjR.ltPc r hne | apply AdjR.ltPop r hne);assumption;(focus (refine Lo.adjR ?_ (by assumption);(with_reducible repeat' constructor)));try (first | assumption | exact We0 _ _));simp +decide [fW,fA,hs,ha];first | done | omega)) | omega | contradiction
theorem YA7 (hs:0 < sl) (ha:0 < sl*th) (hne:x.t.fr≠[]) (h:Adj sl th x) (e:x.f.fn=11) (hp:0≤x.f.pc∧x.f.pc≤14):Nx sl th x (WO3 x):=by
 unfold WO3
 repeat' split
 ·exact YA5 hs ha hne h e (by omega)
 ·exact W40 hs ha hne h e (by omega)
 ·exact YA6 hs ha hne h e (by omega)
 ·exact YJ6 hs ha hne h e (by omega)
theorem Yf9 (hs:0 < sl) (ha:0 < sl*th) (hne:x.t.fr≠[]) (h:Adj sl th x) (e:x.f.fn=12) (hp:0≤x.f.pc∧x.f.pc≤3):Nx sl th x (WE6 x):=by
 have r:=h.r hne
 rw [e] at r
 unfold WE6;dsimp only
 repeat' split
 all_goals first | (refine ⟨by ((with_reducible first | apply AdjR.pop | apply AdjR.allPc | apply AdjR.allS | apply AdjR.fin | apply AdjR.call | apply AdjR.all);(focus (refine Lo.adjR ?_ (by assumption);(with_reducible repeat' constructor)));try (first | decide | (refine .inr ?_;decide) | (refine .inl ?_;simp [fA];done) | (refine Lo.ne ?_ hne;(with_reducible repeat' constructor)))),?_⟩;first | (refine .inl ?_;(focus (refine Tch.act ?_;(with_reducible repeat' constructor)));done) | (refine .inr ?_;((with_reducible first | apply AdjR.ltCall r hne | apply AdjR.ltFin r hne | apply AdjR.ltPc r hne | apply AdjR.ltPop r hne);assumption;(focus (refine Lo.adjR ?_ (by assumption);(with_reducible repeat' constructor)));try (first | assumption | exact We0 _ _));simp +decide [fW,fA,hs,ha];first | done | omega)) | omega
theorem Yg0 (hs:0 < sl) (ha:0 < sl*th) (hne:x.t.fr≠[]) (h:Adj sl th x) (e:x.f.fn=13) (hp:0≤x.f.pc∧x.f.pc≤3):Nx sl th x (WE6 x):=by
 have r:=h.r hne
 rw [e] at r
 unfold WE6;dsimp only
 repeat' split
 all_goals first | (refine ⟨by ((with_reducible first | apply AdjR.pop | apply AdjR.allPc | apply AdjR.allS | apply AdjR.fin | apply AdjR.call | apply AdjR.all);(focus (refine Lo.adjR ?_ (by assumption);(with_reducible repeat' constructor)));try (first | decide | (refine .inr ?_;decide) | (refine .inl ?_;simp [fA];done) | (refine Lo.ne ?_ hne;(with_reducible repeat' constructor)))),?_⟩;first | (refine .inl ?_;(focus (refine Tch.act ?_;(with_reducible repeat' constructor)));done) | (refine .inr ?_;((with_reducible first | apply AdjR.ltCall r hne | apply AdjR.ltFin r hne | apply AdjR.ltPc r hne | apply AdjR.ltPop r hne);assumption;(focus (refine Lo.adjR ?_ (by assumption);(with_reducible repeat' constructor)));try (first | assumption | exact We0 _ _));simp +decide [fW,fA,hs,ha];first | done | omega)) | omega
theorem Yg1 (hs:0 < sl) (ha:0 < sl*th) (hne:x.t.fr≠[]) (h:Adj sl th x) (e:x.f.fn=12) (hp:0≤x.f.pc∧x.f.pc≤7):Nx sl th x (WE7 x):=by
 have r:=h.r hne
 rw [e] at r
 unfold WE7;dsimp only
 repeat' split
 all_goals first | (refine ⟨by ((with_reducible first | apply AdjR.pop | apply AdjR.allPc | apply AdjR.allS | apply AdjR.fin | apply AdjR.call | apply AdjR.all);(focus (refine Lo.adjR ?_ (by assumption);(with_reducible repeat' constructor)));try (first | decide | (refine .inr ?_;decide) | (refine .inl ?_;simp [fA];done) | (refine Lo.ne ?_ hne;(with_reducible repeat' constructor)))),?_⟩;first | (refine .inl ?_;(focus (refine Tch.act ?_;(with_reducible repeat' constructor)));done) | (refine .inr ?_;((with_reducible first | apply AdjR.ltCall r hne | apply AdjR.ltFin r hne | apply AdjR.ltPc r hne | apply AdjR.ltPop r hne);assumption;(focus (refine Lo.adjR ?_ (by assumption);(with_reducible repeat' constructor)));try (first | assumption | exact We0 _ _));simp +decide [fW,fA,hs,ha];first | done | omega)) | exact Yf9 hs ha hne h e (by omega)
theorem Yg2 (hs:0 < sl) (ha:0 < sl*th) (hne:x.t.fr≠[]) (h:Adj sl th x) (e:x.f.fn=13) (hp:0≤x.f.pc∧x.f.pc≤7):Nx sl th x (WE7 x):=by
 have r:=h.r hne
 rw [e] at r
 unfold WE7;dsimp only
 repeat' split
 all_goals first | (refine ⟨by ((with_reducible first | apply AdjR.pop | apply AdjR.allPc | apply AdjR.allS | apply AdjR.fin | apply AdjR.call | apply AdjR.all);(focus (refine Lo.adjR ?_ (by assumption);(with_reducible repeat' constructor)));try (first | decide | (refine .inr ?_;decide) | (refine .inl ?_;simp [fA];done) | (refine Lo.ne ?_ hne;(with_reducible repeat' constructor)))),?_⟩;first | (refine .inl ?_;(focus (refine Tch.act ?_;(with_reducible repeat' constructor)));done) | (refine .inr ?_;((with_reducible first | apply AdjR.ltCall r hne | apply AdjR.ltFin r hne | apply AdjR.ltPc r hne | apply AdjR.ltPop r hne);assumption;(focus (refine Lo.adjR ?_ (by assumption);(with_reducible repeat' constructor)));try (first | assumption | exact We0 _ _));simp +decide [fW,fA,hs,ha];first | done | omega)) | exact Yg0 hs ha hne h e (by omega)
theorem W88 (hs:0 < sl) (hne:x.t.fr≠[]) (h:Adj sl th x) (e:x.f.fn=14):Nx sl th x (WI7 x):=by
 have r:=h.r hne
 rw [e] at r
 unfold WI7;dsimp only
 repeat' split
 all_goals (refine ⟨by ((with_reducible first | apply AdjR.pop | apply AdjR.allPc | apply AdjR.allS | apply AdjR.fin | apply AdjR.call | apply AdjR.all);(focus (refine Lo.adjR ?_ (by assumption);(with_reducible repeat' constructor)));try (first | decide | (refine .inr ?_;decide) | (refine .inl ?_;simp [fA];done) | (refine Lo.ne ?_ hne;(with_reducible repeat' constructor)))),?_⟩;first | (refine .inl ?_;(focus (refine Tch.act ?_;(with_reducible repeat' constructor)));done) | (refine .inr ?_;((with_reducible first | apply AdjR.ltCall r hne | apply AdjR.ltFin r hne | apply AdjR.ltPc r hne | apply AdjR.ltPop r hne);assumption;(focus (refine Lo.adjR ?_ (by assumption);(with_reducible repeat' constructor)));try (first | assumption | exact We0 _ _));simp +decide [fW,fA,hs];first | done | omega))
theorem YA8 (hs:0 < sl) (ha:0 < sl*th) (hne:x.t.fr≠[]) (h:Adj sl th x) (e:x.f.fn=14) (hp:0≤x.f.pc∧x.f.pc≤3):Nx sl th x (WO4 x):=by
 have r:=h.r hne
 rw [e] at r
 unfold WO4;dsimp only
 repeat' split
 all_goals first | (refine ⟨by ((with_reducible first | apply AdjR.pop | apply AdjR.allPc | apply AdjR.allS | apply AdjR.fin | apply AdjR.call | apply AdjR.all);(focus (refine Lo.adjR ?_ (by assumption);(with_reducible repeat' constructor)));try (first | decide | (refine .inr ?_;decide) | (refine .inl ?_;simp [fA];done) | (refine Lo.ne ?_ hne;(with_reducible repeat' constructor)))),?_⟩;first | (refine .inl ?_;(focus (refine Tch.act ?_;(with_reducible repeat' constructor)));done) | (refine .inr ?_;((with_reducible first | apply AdjR.ltCall r hne | apply AdjR.ltFin r hne | apply AdjR.ltPc r hne | apply AdjR.ltPop r hne);assumption;(focus (refine Lo.adjR ?_ (by assumption);(with_reducible repeat' constructor)));try (first | assumption | exact We0 _ _));simp +decide [fW,fA,hs];first | done | omega)) | exact W88 hs hne h e | omega
theorem YA9 {i:Nat} {p:Int} (hs:0 < sl) (ha:0 < sl*th) (hne:x.t.fr≠[]) (h:Adj sl th x) (e:x.f.fn=14):Nx sl th x (WI8 x i p):=by
 have r:=h.r hne
 rw [e] at r
 unfold WI8;dsimp only
 split
 all_goals (refine ⟨by ((with_reducible first | apply AdjR.pop | apply AdjR.allPc | apply AdjR.allS | apply AdjR.fin | apply AdjR.call | apply AdjR.all);(focus (refine Lo.adjR ?_ (by assumption);(with_reducible repeat' constructor)));try (first | decide | (refine .inr ?_;decide) | (refine .inl ?_;simp [fA];done) | (refine Lo.ne ?_ hne;(with_reducible repeat' constructor)))),?_⟩;first | (refine .inl ?_;(focus (refine Tch.act ?_;(with_reducible repeat' constructor)));done) | (refine .inr ?_;((with_reducible first | apply AdjR.ltCall r hne | apply AdjR.ltFin r hne | apply AdjR.ltPc r hne | apply AdjR.ltPop r hne);assumption;(focus (refine Lo.adjR ?_ (by assumption);(with_reducible repeat' constructor)));try (first | assumption | exact We0 _ _));simp +decide [fW,fA,hs,ha];first | done | omega))
theorem YB0 (hs:0 < sl) (ha:0 < sl*th) (hne:x.t.fr≠[]) (h:Adj sl th x) (e:x.f.fn=14) (hp:0≤x.f.pc∧x.f.pc≤7):Nx sl th x (WO5 x):=by
 have r:=h.r hne
 rw [e] at r
 unfold WO5 Wo6;dsimp only
 repeat' split
 all_goals first | (refine ⟨by ((with_reducible first | apply AdjR.pop | apply AdjR.allPc | apply AdjR.allS | apply AdjR.fin | apply AdjR.call | apply AdjR.all);(focus (refine Lo.adjR ?_ (by assumption);(with_reducible repeat' constructor)));try (first | decide | (refine .inr ?_;decide) | (refine .inl ?_;simp [fA];done) | (refine Lo.ne ?_ hne;(with_reducible repeat' constructor)))),?_⟩;first | (refine .inl ?_;(focus (refine Tch.act ?_;(with_reducible repeat' constructor)));done) | (refine .inr ?_;((with_reducible first | apply AdjR.ltCall r hne | apply AdjR.ltFin r hne | apply AdjR.ltPc r hne | apply AdjR.ltPop r hne);assumption;(focus (refine Lo.adjR ?_ (by assumption);(with_reducible repeat' constructor)));try (first | assumption | exact We0 _ _));simp +decide [fW,fA,hs];first | done | omega)) | exact YA8 hs ha hne h e (by omega) | exact YA9 hs ha hne h e | exact W88 hs hne h e | contradiction
theorem YP3 {f:Frm} (o:Ws6 sl th f):(1≤f.fn∧f.fn≤6)∨f.fn=10∧0≤f.pc∧f.pc≤1∨f.fn=11∧(0≤f.pc∧f.pc≤14∨f.pc=90)∨(f.fn=12∨f.fn=13)∧(0≤f.pc∧f.pc≤7∨f.pc=90)∨f.fn=14∧0≤f.pc∧f.pc≤7:=by
 unfold Ws6 Wu9 at o
 omega
theorem Yg3 (hsl:sl=x.m.p.slots) (hth:th=x.m.p.c.threads) (hs:0 < sl) (ha:0 < sl*th) (hne:x.t.fr≠[]) (h:Adj sl th x) (o:Ws6 sl th x.f):Nx sl th x (Wl1 x):=by
 have o1:=YP3 o
 have r:=h.r hne
 unfold Wl1
 rw [if_neg hne]
 dsimp only
 split
 ·rename_i c
  refine ⟨r.pop,.inr (AdjR.ltPop r hne c.1 r hne ?_)⟩
  have c2:fA sl th x.f.fn 90=false:=by
   have:x.f.fn=11∨x.f.fn=12∨x.f.fn=13:=by omega
   rcases this with e | e | e <;> rw [e] <;> simp [fA]
  rw [c2]
  have:=(Yr2 x.f.fn 90).1
  simp
  omega
 split
 ·exact YA4 hs ha hne h (by assumption) (by omega)
 split
 ·exact YA7 hs ha hne h (by assumption) (by omega)
 split
 ·rename_i c
  rcases c with c | c
  ·exact Yg1 hs ha hne h c (by omega)
  ·exact Yg2 hs ha hne h c (by omega)
 split
 ·exact YB0 hs ha hne h (by assumption) (by omega)
 ·exact W38 hsl hth hs ha hne h (by omega)
end
def MoQ (c:Mod.Cf) (f:Frm):Prop:=Ws6 (Wc0 c).slots c.threads f
theorem Yg4:YQ2 Wl1 MoQ Ok 11 where
 st:=Yf4
 all c x hc hp hne h:=by
  obtain ⟨a1,a2,a3,a4,a5,a6⟩:=W87 hc
  exact W39 h (by rw [hp]) (by rw [hp];rfl) (by omega) (by omega) hne
 nx c x hc hp hne h a:=by
  obtain ⟨a1,a2,a3,a4,a5,a6⟩:=W87 hc
  exact Yg3 (by rw [hp]) (by rw [hp];rfl) a1 a2 hne a (h.top hne)
 w c x B hc h hB hne hid:=by
  obtain ⟨a1,a2,a3,a4,a5,a6⟩:=W87 hc
  have o:Ws6 (Wc0 c).slots c.threads x.f:=h.q.top hne
  refine h.ok hB hid ?_
  rcases o with o | ⟨_,o⟩
  ·exact YT5 o ⟨by omega,a4⟩ a3
  ·omega
 new c op l hc ho:=by
  obtain ⟨a1,a2,a3,a4,a5,a6⟩:=W87 hc
  exact Wt6 (by omega) (by omega) (by omega)
theorem Ys4:DoC 67 Wl1 Ok:=λh M T tv x R K H hw k=>WW4 H hw k
end
section

end
section
theorem Yg5 {K:Value→Wa1→Prop} {h:Wa1} (c:Cf) (k1:c.Right→∀h',Old h.size h h'→K (.bool true) h') (k0:¬ c.Right→∀h',Old h.size h h'→K (.bool false) h') :
  Wa6 Tryz.prog 11 #[.agg c.vals] h K:=by
 refine call11 ?_
 unfold F11 g11 cf ce lI dl7
 have p1:=Wg2 h c.vals 23
 rw [show h.push (.cells #[.int .i64 c.a,.int .i64 c.t,.int .i64 c.n,.int .i64 c.l,.int .i64 c.b,.int .i64 c.p,.int .i64 c.s] 23)=h.push (.cells c.vals 23) from rfl]
 generalize h.push (.cells c.vals 23)=h1 at *
 have o1:=p1.toOld
 have c1:=p1.new
 refine ⟨λvs h'=>∃v1 v2 v3 v4 v5 v6 b,vs = [v1,v2,v3,v4,v5,v6,.bool b]∧h' = h1∧(b=true→¬ c.Right)∧(b=false→0≤c.a∧c.a≤2∧1≤c.t∧c.t≤6∧1≤c.n∧c.n≤64∧1≤c.l∧c.l≤6),?_,?_⟩
 ·refine ldR c1 rfl ?_
  simp only [Wa3]
  refine Wa7 (λq=>⟨_,_,_,_,_,_,_,rfl,by trivial,λ_ r=>by have:=r.a;omega,λe=>by cases e⟩) λq1=>?_
  refine ldR c1 rfl ?_
  simp only [Wa3]
  refine Wa7 (λq=>⟨_,_,_,_,_,_,_,rfl,by trivial,λ_ r=>by have:=r.a;omega,λe=>by cases e⟩) λq2=>?_
  refine ldR c1 rfl ?_
  simp only [Wa3]
  refine Wa7 (λq=>⟨_,_,_,_,_,_,_,rfl,by trivial,λ_ r=>by have:=r.t;omega,λe=>by cases e⟩) λq3=>?_
  refine ldR c1 rfl ?_
  simp only [Wa3]
  refine Wa7 (λq=>⟨_,_,_,_,_,_,_,rfl,by trivial,λ_ r=>by have:=r.t;omega,λe=>by cases e⟩) λq4=>?_
  refine ldR c1 rfl ?_
  simp only [Wa3]
  refine Wa7 (λq=>⟨_,_,_,_,_,_,_,rfl,by trivial,λ_ r=>by have:=r.n;omega,λe=>by cases e⟩) λq5=>?_
  refine ldR c1 rfl ?_
  simp only [Wa3]
  refine Wa7 (λq=>⟨_,_,_,_,_,_,_,rfl,by trivial,λ_ r=>by have:=r.n;omega,λe=>by cases e⟩) λq6=>?_
  refine ldR c1 rfl ?_
  simp only [Wa3]
  refine Wa7 (λq=>⟨_,_,_,_,_,_,_,rfl,by trivial,λ_ r=>by have:=r.l;omega,λe=>by cases e⟩) λq7=>?_
  refine ldR c1 rfl ?_
  simp only [Wa3]
  refine ⟨_,_,_,_,_,_,_,rfl,by trivial,λe r=>?_,λe=>?_⟩
  ·have:=of_decide_eq_true e;have:=r.l;omega
  ·have:=of_decide_eq_false e;omega
 rintro v17 v18 v19 v20 v21 v22 v23 g24 h25 ⟨_,_,_,_,_,_,b,e,rfl,hb1,hb0⟩
 cases e
 simp only [Wb0]
 refine Wd0 (λhb=>k0 (hb1 hb) _ o1) (λhb=>?_)
 obtain ⟨a1,a2,t1,t2,n1,n2,l1,l2⟩:=hb0 hb
 refine ⟨λvs h'=>∃v1 v2 v3 v4 b,vs = [v1,v2,v3,v4,.bool b]∧h' = h25∧(b=true→¬ c.Right)∧(b=false→1≤c.b∧c.b≤16∧1≤c.p∧c.p≤16∧1≤c.s∧c.s≤64),?_,?_⟩
 ·refine ldR c1 rfl ?_
  simp only [Wa3]
  refine Wa7 (λq=>⟨_,_,_,_,_,rfl,by trivial,λ_ r=>by have:=r.b;omega,λe=>by cases e⟩) λq1=>?_
  refine ldR c1 rfl ?_
  simp only [Wa3]
  refine Wa7 (λq=>⟨_,_,_,_,_,rfl,by trivial,λ_ r=>by have:=r.b;omega,λe=>by cases e⟩) λq2=>?_
  refine ldR c1 rfl ?_
  simp only [Wa3]
  refine Wa7 (λq=>⟨_,_,_,_,_,rfl,by trivial,λ_ r=>by have:=r.p;omega,λe=>by cases e⟩) λq3=>?_
  refine ldR c1 rfl ?_
  simp only [Wa3]
  refine Wa7 (λq=>⟨_,_,_,_,_,rfl,by trivial,λ_ r=>by have:=r.p;omega,λe=>by cases e⟩) λq4=>?_
  refine ldR c1 rfl ?_
  simp only [Wa3]
  refine Wa7 (λq=>⟨_,_,_,_,_,rfl,by trivial,λ_ r=>by have:=r.s;omega,λe=>by cases e⟩) λq5=>?_
  refine ldR c1 rfl ?_
  simp only [Wa3]
  refine ⟨_,_,_,_,_,rfl,by trivial,λe r=>?_,λe=>?_⟩
  ·have:=of_decide_eq_true e;have:=r.s;omega
  ·have:=of_decide_eq_false e;omega
 rintro v40 v41 v42 v43 v44 g45 h46 ⟨_,_,_,_,b',e,rfl,hb1',hb0'⟩
 cases e
 simp only [Wb0]
 refine Wd0 (λhb'=>k0 (hb1' hb') _ o1) (λhb'=>?_)
 obtain ⟨b1,b2,p1',p2,s1,s2⟩:=hb0' hb'
 refine ldR c1 rfl ?_
 simp only [Wa3]
 iterate 7 (refine ldR c1 rfl ?_)
 refine Wa0 ?_
 refine (show Wa6 Tryz.prog 39 #[.agg c.vals] h46 _ from call39 ?_)
 unfold F39 g39 lI
 have p2':=Wg2 h46 c.vals 23
 rw [show h46.push (.cells #[.int .i64 c.a,.int .i64 c.t,.int .i64 c.n,.int .i64 c.l,.int .i64 c.b,.int .i64 c.p,.int .i64 c.s] 23)=h46.push (.cells c.vals 23) from rfl]
 generalize h46.push (.cells c.vals 23)=h2 at *
 have o2:=o1.trans (p2'.toOld.mono o1.1)
 have c2:=(p2'.old h.size (by have:=p1.size;omega)).trans c1
 have fin:∀z:Int,z=c.sent→(z < c.n↔c.Right):=λz e=>⟨λhz=>⟨⟨a1,a2⟩,⟨t1,t2⟩,⟨n1,n2⟩,⟨l1,l2⟩,⟨b1,b2⟩,⟨p1',p2⟩,⟨s1,s2⟩,by omega⟩,λr=>by have:=r.z;omega⟩
 have fin2:∀z:Int,z=c.sent→K (.bool (decide (c.n > z))) h2:=λz e=>by
  by_cases hz:z < c.n
  ·rw [decide_eq_true hz];exact k1 ((fin z e).1 hz) _ o2
  ·rw [decide_eq_false hz];exact k0 (λr=>hz ((fin z e).2 r)) _ o2
 refine ldR p2'.new rfl ?_
 simp only [Wa3]
 refine Wd0 (λhz=>?_) (λhz=>?_)
 ·exact ⟨Wd9 c2 rfl,fin2 _ (by unfold Cf.sent;rw [if_pos (by simpa using hz)])⟩
 ·exact ⟨Wd9 c2 rfl,fin2 _ (by unfold Cf.sent;rw [if_neg (by simpa using hz)])⟩
end
section
open Mod
theorem YV7 {v0 v1:Value} {F:Value→Value→Prop} (k:F v0 v1):asAgg (.agg #[v0,v1]) λvs=>We8 vs 2 (Wb9 vs 0 λa=>Wb9 vs 1 λb=>F a b):=k
theorem YU3 {v0 v1:Value} {F:Value→Prop} (k:F v0):Wh0 (.tuple #[v0,v1]) λvs=>Wb9 vs 0 F:=k
theorem Ys5 {K:Value→Wa1→Prop} {h:Wa1} {R:Hp} {c:Mod.Cf} (H:Sat h R) (k1:okC c=true→∀h',Sat h' R→K (.bool true) h') (k0:okC c=false→∀h',Sat h' R→K (.bool false) h') :
  Wa6 Tryz.prog 11 #[.agg #[.int .i64 c.algo,.int .i64 c.threads,.int .i64 c.nodes,.int .i64 c.level,.int .i64 c.batch,.int .i64 c.probes,.int .i64 c.scan]] h K:=by
 refine Yg5 (YN3 c) (λhr h' o=>k1 ((Wu5 c).1 hr) h' (H.old o)) (λhr h' o=>k0 ?_ h' (H.old o))
 rw [← Bool.not_eq_true]
 exact λhh=>hr ((Wu5 c).2 hh)
def YP4 (m:Mac):List (List Bp):=Wg0 m.p m.mm.w
theorem YB1:(WO6 Wl1 0 2000 ((Ws2 ⟨0,1,4,3,1,1,1⟩ [] true).setTh ((Ws2 ⟨0,1,4,3,1,1,1⟩ [] true).th.set 0 ((Wk1 (Ws2 ⟨0,1,4,3,1,1,1⟩ [] true) 0).push (11+0) [5,1])))).map YP4=some [[],[(5,1)],[],[],[],[],[],[]]:=by decide +kernel
theorem MacOk.vw {Q:Mod.Cf→Frm→Prop} {c:Mod.Cf} {i:Nat} {m:Mac} (I:MacOk Q c i m) (hc:c.algo=0) (hu:∀v ∈ m.mm.w,U v):YD8 m.p m.mm.w:=by
 have B:=Wu6 I.ok
 have ep:=I.p
 refine ⟨by rw [ep];exact B,by rw [ep];exact I.w,hu,by rw [ep];rfl,?_⟩
 rw [ep]
 show (Wc0 c).tree+(if (c.algo == 0)=true then (2:Int) ^ c.level.toNat else 0) - (Wc0 c).tree=(2:Int) ^ c.level.toNat
 rw [if_pos (by rw [hc];rfl)]
 omega
theorem YB2:Tryz.prog.eqGuardType Tryz.prog.depth 90=false:=by kernel_rfl
theorem YP5:eqv Tryz.prog 10000 90 (.agg #[.int .u32 5,.int .u32 1]) (.agg #[.int .u32 5,.int .u32 1])=some true:=by kernel_rfl
theorem Yg6 {F:Bool→Prop} (k:F true):WM4 Tryz.prog 90 (.agg #[.int .u32 5,.int .u32 1]) (.agg #[.int .u32 5,.int .u32 1]) F:=by
 unfold WM4
 rw [YB2]
 show (match eqv Tryz.prog 10000 90 (.agg #[.int .u32 5,.int .u32 1]) (.agg #[.int .u32 5,.int .u32 1]) with | some b=>F b | none=>False)
 rw [YP5]
 exact k
section
variable {K:Value→Wa1→Prop} {h:Wa1} {R:Hp}
theorem WX1 (H:Sat h R) (k:∀h',Sat h' R→K (.agg #[.func (.func 67) #[] #[],.int .i64 11]) h'):Wa6 Tryz.prog 40 #[] h K:=by
 refine call40 ?_
 unfold F40 dl2
 have H1:=H.push (.cells #[.nilFunc,.int .i64 0] 86)
 generalize h.push (.cells #[.nilFunc,.int .i64 0] 86)=h1 at *
 generalize h.size=QB at *
 refine Wd3 (vs:=[.func (.func 67) #[] #[],.int .i64 11]) H1.at rfl (by simp [Wi3]) λh2 w=>?_
 have H2:=H1.wr w.new w.old
 exact ldR H2.at rfl (ldR H2.at rfl (k h2 H2.drop))
theorem WX2 (H:Sat h R) (k:∀h',Sat h' R→K (.bool true) h'):Wa6 Tryz.prog 12 #[] h K:=by
 refine call12 ?_
 unfold F12 cf bd lS da2 de2
 have hok:okC ⟨0,1,4,3,1,1,1⟩=true:=by decide
 refine Wa0 (WB0 (c:=⟨0,1,4,3,1,1,1⟩) (a:=none) (cc:=0) (bs:=[]) H (λ_ _ _=>Sees.nil _ _) (by simp) (by simp) (λhh=>by rw [hok] at hh;cases hh) λ_ h1 M Ts H1=>?_)
 obtain ⟨ta,tc,⟨hTl,_⟩,_⟩:=Wh6.1 H1
 have hth0:(Ws2 ⟨0,1,4,3,1,1,1⟩ [] true).th = [WB9 ⟨0,1,4,3,1,1,1⟩]:=rfl
 have hs:=YB1
 have hI:MacOk MoQ ⟨0,1,4,3,1,1,1⟩ 0 (Ws2 ⟨0,1,4,3,1,1,1⟩ [] true):=MacOk.new hok [] true
 generalize hm0:Ws2 ⟨0,1,4,3,1,1,1⟩ [] true=m0 at *
 have hl0:m0.th.length=1:=by rw [hth0];rfl
 obtain ⟨T,hT⟩ : ∃T,Ts[0]? = some T:=⟨_,List.getElem?_eq_getElem (by omega)⟩
 have he0:(Wk1 m0 0).fr = []:=by unfold Wk1;rw [hth0];rfl
 obtain ⟨m1,ha,hs⟩ : ∃m1,WO6 Wl1 0 2000 (m0.setTh (m0.th.set 0 ((Wk1 m0 0).push (11+0) [5,1])))=some m1∧YP4 m1 = [[],[(5,1)],[],[],[],[],[],[]]:=by
  cases e:WO6 Wl1 0 2000 (m0.setTh (m0.th.set 0 ((Wk1 m0 0).push (11+0) [5,1]))) with
  | none=>rw [e] at hs;cases hs
  | some m1=>rw [e] at hs;exact ⟨m1,rfl,Option.some.inj hs⟩
 refine YU3 ?_
 try simp only [Wa9,bsx,Nat.reduceAdd,Int.reduceLE,Int.reduceLT,Int.reduceToNat]
 refine Wm4 ?_
 try simp only [Wa9,bsx,Nat.reduceAdd,Int.reduceLE,Int.reduceLT,Int.reduceToNat]
 refine Wa0 (WX1 H1 λh2 H2=>YV7 ?_)
 refine Wa0 (Yf0 (k:=0) (i0:=0) (N:=2000) (c:=⟨0,5,1⟩) Ys4 (MacOk.good Yg4) (by decide) H2 hT (Wq2 (by omega)) he0 hI (by decide) ⟨⟨by decide,by decide⟩,⟨by decide,by decide⟩,⟨by decide,by decide⟩⟩ ha λh3 hI1 hl1 he1 H3=>?_)
 obtain ⟨ta,tc,_,H4⟩:=Wh6.1 H3
 have V:=hI1.vw rfl (YG9 H4).us
 have hal:m1.p.c.algo=0:=by rw [hI1.p];rfl
 refine Wa0 (WH6 V hal H4 λh5 B ps hps H5=>?_)
 have hs:Wg0 m1.p m1.mm.w = [[],[(5,1)],[],[],[],[],[],[]]:=hs
 have HL:Sat h5 (Wf2 M (.slice ta m1.th.length tc) m1*(pt B (.cells (((ps.zip (Wg0 m1.p m1.mm.w)).map bpV).toArray) 44)*(bpS ps (Wg0 m1.p m1.mm.w)*(We7 104 1 ta m1.th.length tc (Ts.map mP)*(WQ0 0 Ts m1.th*R))))):=Sat.ac H5 (by ac_rfl)
 have hps8:ps.length=8:=by rw [hps,hs];rfl
 obtain ⟨p1,hp1,hsee⟩:=W82 hps H5.drop 1 (by rw [hs];decide)
 rw [hs] at hsee ⊢
 have hp1':ps[1]? = some p1:=hp1
 have hc1:Wa2 h5 ⟨B,1,none⟩=some (.slice p1.1 1 p1.2):=by
  rw [Wb6 H5.at,hs]
  have e:ps[1]=p1:=by
   rw [List.getElem?_eq_getElem (by omega)] at hp1'
   exact Option.some.inj hp1'
  have hz:1 < (ps.zip [[],[((5:Int),(1:Int))],[],[],[],[],[],[]]).length:=by rw [List.length_zip,hps8];decide
  rw [List.getElem?_toArray,List.getElem?_map,List.getElem?_eq_getElem hz,List.getElem_zip,e]
  rfl
 have hc:([[],[((5:Int),(1:Int))],[],[],[],[],[],[]]:List (List Bp)).length=8:=rfl
 rw [hc]
 try simp only [Wa9,bsx,Nat.reduceAdd,Int.reduceLE,Int.reduceLT,Int.reduceToNat]
 refine Wd0 (λ_=>⟨by decide,?_⟩) (λhh=>by simp at hh)
 refine Wc4 hc1 ?_
 try simp only [Wa9,bsx,Nat.reduceAdd,Int.reduceLE,Int.reduceLT,Int.reduceToNat]
 refine Wd0 (λ_=>⟨by decide,?_⟩) (λhh=>by simp at hh)
 refine Wc4 hc1 ?_
 try simp only [Wa9,bsx,Nat.reduceAdd,Int.reduceLE,Int.reduceLT,Int.reduceToNat]
 refine ⟨by decide,?_⟩
 obtain ⟨ad,ea,hv0⟩:=hsee 0 (.int .u32 5) rfl
 obtain ⟨_,ea2,hv1⟩:=hsee 1 (.int .u32 1) rfl
 rw [ea] at ea2 ⊢
 cases ea2
 try simp only [Wa9,bsx,Nat.reduceAdd,Int.reduceLE,Int.reduceLT,Int.reduceToNat]
 rw [add_zero] at hv0
 refine Wc4 hv0 (Wc4 hv1 ?_)
 refine Yg6 ?_
 try simp only [Wa9,bsx,Nat.reduceAdd,Int.reduceLE,Int.reduceLT,Int.reduceToNat]
 refine Wa0 (Yq4 V hal HL (by rw [hs];decide) λh6 H6=>?_)
 rw [hs]
 try simp only [Wa9,bsx,Nat.reduceAdd,Int.reduceLE,Int.reduceLT,Int.reduceToNat]
 exact k h6 H6.drop.drop.drop.drop.drop
theorem WJ5 {c:Mod.Cf} (H:Sat h R) (k:∀h',Sat h' R→K (.bool true) h') :
  Wa6 Tryz.prog 3 #[.agg #[.int .i64 c.algo,.int .i64 c.threads,.int .i64 c.nodes,.int .i64 c.level,.int .i64 c.batch,.int .i64 c.probes,.int .i64 c.scan]] h K:=by
 refine call3 ?_
 unfold F3 cf lI dl7
 have H1:=H.push (.cells (cfc c).toArray 23)
 rw [show h.push (.cells #[.int .i64 c.algo,.int .i64 c.threads,.int .i64 c.nodes,.int .i64 c.level,.int .i64 c.batch,.int .i64 c.probes,.int .i64 c.scan] 23)=h.push (.cells (cfc c).toArray 23) from rfl]
 generalize h.push (.cells (cfc c).toArray 23)=h1 at *
 generalize h.size=CB at *
 refine ⟨λvs h'=>(∃u1 u2,vs = [u1,u2,.bool false])∧Sat h' (pt CB (.cells (cfc c).toArray 23)*R),?_,?_⟩
 ·refine Wa0 (WM3 H1 λh2 H2=>?_)
  try simp only [Wa9,bsx,Nat.reduceAdd,Int.reduceLE,Int.reduceLT,Int.reduceToNat]
  refine Wd0 (λhh=>by simp at hh) (λ_=>?_)
  refine Wa0 (Ye7 H2 λh3 H3=>?_)
  try simp only [Wa9,bsx,Nat.reduceAdd,Int.reduceLE,Int.reduceLT,Int.reduceToNat]
  refine Wd0 (λhh=>by simp at hh) (λ_=>?_)
  refine Wa0 (Yy4 H3 λh4 H4=>?_)
  try simp only [Wa9,bsx,Nat.reduceAdd,Int.reduceLE,Int.reduceLT,Int.reduceToNat]
  refine Wd0 (λhh=>by simp at hh) (λ_=>?_)
  refine Wa0 (Ye8 H4 λh5 H5=>?_)
  try simp only [Wa9,bsx,Nat.reduceAdd,Int.reduceLE,Int.reduceLT,Int.reduceToNat]
  exact ⟨⟨_,_,rfl⟩,H5⟩
 rintro v1 v2 v3 g4 h2 ⟨⟨u1,u2,e⟩,H2⟩
 cases e
 try simp only [Wa9,bsx,Nat.reduceAdd,Int.reduceLE,Int.reduceLT,Int.reduceToNat]
 refine ⟨λvs h'=>(∃b,vs = [.bool b]∧(b=false→okC c=true∧c.algo≠0))∧Sat h' (pt CB (.cells (cfc c).toArray 23)*R),?_,?_⟩
 ·have O:=H2.at
  refine ldR O rfl (ldR O rfl (ldR O rfl (ldR O rfl (ldR O rfl (ldR O rfl (ldR O rfl ?_))))))
  refine Wa0 (Ys5 H2 (λhc h3 H3=>?_) λhc h3 H3=>?_)
  ·try simp only [Wa9,bsx,Nat.reduceAdd,Int.reduceLE,Int.reduceLT,Int.reduceToNat]
   refine ldR H3.at rfl ?_
   try simp only [Wa9,bsx,Nat.reduceAdd,Int.reduceLE,Int.reduceLT,Int.reduceToNat]
   refine ⟨⟨c.algo == 0,rfl,λhh=>⟨hc,by simpa using hh⟩⟩,H3⟩
  ·try simp only [Wa9,bsx,Nat.reduceAdd,Int.reduceLE,Int.reduceLT,Int.reduceToNat]
   exact ⟨⟨true,rfl,λhh=>by cases hh⟩,H3⟩
 rintro v5 g6 h3 ⟨⟨b,e,hb⟩,H3⟩
 cases e
 try simp only [Wa9,bsx,Nat.reduceAdd,Int.reduceLE,Int.reduceLT,Int.reduceToNat]
 have lv:∀ {h':Wa1} {P:Hp},Sat h' (P*R)→Wa6 Tryz.prog 12 #[] h' λv h''=>asBool v λb=>K (.bool b) h'':=λH'=>WX2 H' λh'' H''=>by
  try simp only [Wa9,bsx,Nat.reduceAdd,Int.reduceLE,Int.reduceLT,Int.reduceToNat]
  exact k h'' H''.drop
 refine Wd0 (λ_=>Wa0 (lv H3)) (λhf=>?_)
 obtain ⟨hc,hal⟩:=hb hf
 have O:=H3.at
 refine ldR O rfl (ldR O rfl (ldR O rfl (ldR O rfl (ldR O rfl (ldR O rfl (ldR O rfl ?_))))))
 refine Wa0 (WB0 (c:=c) (a:=none) (cc:=0) (bs:=[]) H3 (λ_ _ _=>Sees.nil _ _) (by simp) (by simp) (λhh=>by rw [hc] at hh;cases hh) λ_ h4 M Ts H4=>?_)
 obtain ⟨ta,tc,_,H5⟩:=Wh6.1 H4
 have hal2:(Ws2 c [] true).p.c.algo≠0:=hal
 generalize Ws2 c [] true=m at *
 refine YU3 ?_
 try simp only [Wa9,bsx,Nat.reduceAdd,Int.reduceLE,Int.reduceLT,Int.reduceToNat]
 refine Wm4 ?_
 try simp only [Wa9,bsx,Nat.reduceAdd,Int.reduceLE,Int.reduceLT,Int.reduceToNat]
 refine Wa0 (WW6 H5 hal2 λh6 H6=>?_)
 try simp only [Wa9,bsx,Nat.reduceAdd,Int.reduceLE,Int.reduceLT,Int.reduceToNat]
 refine Wd0 (λ_=>?_) (λhh=>by simp at hh)
 refine Wa0 (Yq5 H6 hal2 λh7 H7=>?_)
 try simp only [Wa9,bsx,Nat.reduceAdd,Int.reduceLE,Int.reduceLT,Int.reduceToNat]
 refine Wd0 (λ_=>?_) (λhh=>by simp at hh)
 refine Wa0 (YI5 H7 hal2 λh8 H8=>?_)
 try simp only [Wa9,bsx,Nat.reduceAdd,Int.reduceLE,Int.reduceLT,Int.reduceToNat]
 refine Wd0 (λ_=>?_) (λhh=>by simp at hh)
 refine Wa0 (Yq6 H8 hal2 λh9 H9=>?_)
 try simp only [Wa9,bsx,Nat.reduceAdd,Int.reduceLE,Int.reduceLT,Int.reduceToNat]
 have H10:Sat h9 ((Wf2 M (.slice ta m.th.length tc) m*(We7 104 1 ta m.th.length tc (Ts.map mP)*(WQ0 0 Ts m.th*pt CB (.cells (cfc c).toArray 23))))*R):=Sat.ac H9 (by ac_rfl)
 exact Wa0 (lv H10)
end
end
end Go.Proofs.YtooaemmlgkdfoaaGreat
