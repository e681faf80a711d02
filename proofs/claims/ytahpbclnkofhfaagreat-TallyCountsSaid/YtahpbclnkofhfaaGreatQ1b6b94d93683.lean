/- Part 11 of what the proofs of this seat rest on: see the last text of the claim. -/
import Derived.Test.YtahpbclnkofhfaaGreatQ24b296466111
import Derived.Test.YtahpbclnkofhfaaGreatProg
set_option linter.unusedSimpArgs false
set_option linter.unusedVariables false
set_option linter.ambiguousOpen false
set_option maxRecDepth 20000
open Go.Proofs.Tryz (prog)
open Go.IntKind (wrap)
section
namespace Go.Proofs.YtahpbclnkofhfaaGreat.Mod
inductive Lo:B9->B9->Prop
 | refl (x:B9):Lo x x
 | load {x y:B9} {a:Int} (h:Lo x y):Lo x (y.load a).2
 | store {x y:B9} {a v:Int} (h:Lo x y):Lo x (y.store a v)
 | cas {x y:B9} {a o v:Int} (h:Lo x y):Lo x (y.cas a o v).2
 | add {x y:B9} {a v:Int} (h:Lo x y):Lo x (y.add a v).2
 | swing {x y:B9} {a w p:Int} {b:Bool} (h:Lo x y):Lo x (y.swing a w p b).2
 | swingA {x y:B9} {a w p:Int} (h:Lo x y):Lo x (y.swingA a w p).2
 | swingM {x y:B9} {a w p:Int} {b:Bool} (h:Lo x y):Lo x (y.swingM a w p b).2
 | drop1 {x y:B9} {a:Int} (h:Lo x y):Lo x (y.drop1 a).2
 | guard {x y:B9} {a b:Int} (h:Lo x y):Lo x (y.guard a b)
 | gh {x y:B9} {f:Gh->Gh} (h:Lo x y):Lo x (y.gh f)
 | s {x y:B9} {i:Nat} {v:Int} (h:Lo x y):Lo x (y.s i v)
 | pc {x y:B9} {i:Int} (h:Lo x y):Lo x (y.pc i)
 | fo {x y:B9} {l:List Int} (h:Lo x y):Lo x (y.fo l)
 | re {x y:B9} {l:List Int} (h:Lo x y):Lo x (y.re l)
 | setPl {x y:B9} {p s w:List Int} (h:Lo x y):Lo x (y.setPl p s w)
 | next {x y:B9} {k:Int} (h:Lo x y):Lo x { y with m:=(y.m.next k).2 }
 | lvl {x y:B9} {k:Int} (h:Lo x y):Lo x { y with m:=(y.m.lvl k).2 }
 | dcas {x y:B9} {a o v b p q:Int} (h:Lo x y):Lo x { y with m:=(y.m.dcas a o v b p q).2 }
 | dcss {x y:B9} {a o v b p:Int} (h:Lo x y):Lo x { y with m:=(y.m.dcss a o v b p).2 }
inductive CK:B9->Prop
 | load {y:B9} {a:Int}:CK (y.load a).2
 | store {y:B9} {a v:Int}:CK (y.store a v)
 | cas {y:B9} {a o v:Int}:CK (y.cas a o v).2
 | add {y:B9} {a v:Int}:CK (y.add a v).2
 | swing {y:B9} {a w p:Int} {b:Bool}:CK (y.swing a w p b).2
 | swingA {y:B9} {a w p:Int}:CK (y.swingA a w p).2
 | swingM {y:B9} {a w p:Int} {b:Bool}:CK (y.swingM a w p b).2
 | drop1 {y:B9} {a:Int}:CK (y.drop1 a).2
 | guard {y:B9} {a b:Int}:CK (y.guard a b)
 | dcas {y:B9} {a o v b p q:Int}:CK { y with m:=(y.m.dcas a o v b p q).2 }
 | dcss {y:B9} {a o v b p:Int}:CK { y with m:=(y.m.dcss a o v b p).2 }
 | s {y:B9} {i:Nat} {v:Int} (h:CK y):CK (y.s i v)
 | pc {y:B9} {i:Int} (h:CK y):CK (y.pc i)
 | gh {y:B9} {f:Gh->Gh} (h:CK y):CK (y.gh f)
 | fo {y:B9} {l:List Int} (h:CK y):CK (y.fo l)
 | re {y:B9} {l:List Int} (h:CK y):CK (y.re l)
 | setPl {y:B9} {p s w:List Int} (h:CK y):CK (y.setPl p s w)
 | next {y:B9} {k:Int} (h:CK y):CK { y with m:=(y.m.next k).2 }
 | lvl {y:B9} {k:Int} (h:CK y):CK { y with m:=(y.m.lvl k).2 }
 | push {y:B9} {i:Int} {r:List Int} (h:CK y):CK (y.push i r)
 | pop {y:B9} {r:List Int} (h:CK y):CK (y.pop r)
 | call {y:B9} {i j:Int} {r:List Int} (h:CK y):CK (y.call i j r)
 | fin {y:B9} {i j k:Int} (h:CK y):CK (y.fin i j k)
inductive St:Nat->B9->B9->Prop
 | refl {n:Nat} (x:B9):St n x x
 | load {n:Nat} {x y:B9} {a:Int} (h:St n x y):St (n+1) x (y.load a).2
 | store {n:Nat} {x y:B9} {a v:Int} (h:St n x y):St (n+1) x (y.store a v)
 | cas {n:Nat} {x y:B9} {a o v:Int} (h:St n x y):St (n+1) x (y.cas a o v).2
 | add {n:Nat} {x y:B9} {a v:Int} (h:St n x y):St (n+1) x (y.add a v).2
 | dcas {n:Nat} {x y:B9} {a o v b p q:Int} (h:St n x y):St (n+1) x { y with m:=(y.m.dcas a o v b p q).2 }
 | dcss {n:Nat} {x y:B9} {a o v b p:Int} (h:St n x y):St (n+1) x { y with m:=(y.m.dcss a o v b p).2 }
 | next {n:Nat} {x y:B9} {k:Int} (h:St n x y):St (n+1) x { y with m:=(y.m.next k).2 }
 | lvl {n:Nat} {x y:B9} {k:Int} (h:St n x y):St (n+1) x { y with m:=(y.m.lvl k).2 }
 | gh {n:Nat} {x y:B9} {f:Gh->Gh} (h:St n x y):St n x (y.gh f)
 | s {n:Nat} {x y:B9} {i:Nat} {v:Int} (h:St n x y):St (n+1) x (y.s i v)
 | pc {n:Nat} {x y:B9} {i:Int} (h:St n x y):St (n+1) x (y.pc i)
 | push {n:Nat} {x y:B9} {i:Int} {r:List Int} (h:St n x y):St (n+1) x (y.push i r)
 | pop {n:Nat} {x y:B9} {r:List Int} (h:St n x y):St n x (y.pop r)
 | fo {n:Nat} {x y:B9} {l:List Int} (hl:l.length<=y.t.found.length+1) (h:St n x y):St (n+1) x (y.fo l)
 | re {n:Nat} {x y:B9} {l:List Int} (hl:l.length<=y.t.retired.length+1) (h:St n x y):St (n+1) x (y.re l)
 | part {n:Nat} {x y:B9} {p:Int->Bool} (h:St n x y):St (n+1) x ((y.re (y.t.retired.filter p)).fo (y.t.retired.filter λn=>!p n))
 | setPl {n:Nat} {x y:B9} {p s w:List Int} (h1:p.length=y.t.pred.length) (h2:s.length=y.t.succ.length) (h3:w.length=y.t.word.length) (h:St n x y):St n x (y.setPl p s w)
 | up {n k:Nat} {x y:B9} (h:St n x y):St (n+k) x y
section
variable {x y:B9} {n:Nat}
theorem St.swing {a w p:Int} {b:Bool} (h:St n x y):St (n+1) x (y.swing a w p b).2:=St.cas h
theorem St.swingA {a w p:Int} (h:St n x y):St (n+1) x (y.swingA a w p).2:=St.cas h
theorem St.swingM {a w p:Int} {b:Bool} (h:St n x y):St (n+1) x (y.swingM a w p b).2:=St.cas h
theorem St.drop1 {a:Int} (h:St n x y):St (n+1) x (y.drop1 a).2:=St.add h
theorem St.guard {a b:Int} (h:St n x y):St (n+1) x (y.guard a b):=St.store h
theorem St.call {i j:Int} {r:List Int} (h:St n x y):St (n+2) x (y.call i j r):=St.push (St.pc h)
theorem St.fin {i j k:Int} (h:St n x y):St (n+5) x (y.fin i j k):=St.call (St.s (St.s (St.s h)))
end
structure Fix (x y:B9):Prop where
 p:y.m.p=x.m.p
 id:y.id=x.id
 th:y.m.th=x.m.th
 b:y.m.b=x.m.b
 w:y.m.mm.w.length=x.m.mm.w.length
 pr:y.t.pred.length=x.t.pred.length
 su:y.t.succ.length=x.t.succ.length
 wo:y.t.word.length=x.t.word.length
structure T6 (m n:Mac):Prop where
 p:n.p=m.p
 th:n.th=m.th
 b:n.b=m.b
 w:n.mm.w.length=m.mm.w.length
 st:n.mm.st<=m.mm.st+1
 us:n.used<=m.used+1
theorem T6.touch (m:Mac) (a:Int):T6 m (m.touch a)/\(m.touch a).mm=m.mm/\(m.touch a).used=m.used:=by
 unfold Mac.touch
 split <;> exact ⟨⟨rfl,rfl,rfl,rfl,by show m.mm.st<=_;omega,by show m.used<=_;omega⟩,rfl,rfl⟩
theorem T6.of {m n k:Mac} (h:T6 m n) (hn:n.mm=m.mm/\n.used=m.used) (e:k.p=n.p/\k.th=n.th/\k.b=n.b/\k.used=n.used) (ew:k.mm.w.length=n.mm.w.length) (es:k.mm.st<=n.mm.st+1):T6 m k:=
 ⟨e.1.trans h.p,e.2.1.trans h.th,e.2.2.1.trans h.b,ew.trans h.w,by rw [<- hn.1];exact es,by rw [e.2.2.2,hn.2];omega⟩
theorem T6.load (m:Mac) (a:Int):T6 m (m.load a).2:=by
 have t:=T6.touch m a
 unfold Mac.load;dsimp only
 split
 ·exact t.1.of t.2 ⟨rfl,rfl,rfl,rfl⟩ rfl (Oz _)
 ·exact t.1.of t.2 ⟨rfl,rfl,rfl,rfl⟩ rfl (by show (m.touch a).mm.st<=_;omega)
theorem T6.store (m:Mac) (a v:Int):T6 m (m.store a v):=by
 have t:=T6.touch m a
 unfold Mac.store;dsimp only
 split
 ·exact t.1.of t.2 ⟨rfl,rfl,rfl,rfl⟩ (by show (List.set _ _ _).length=_;rw [Ca];rfl) (Oz _)
 ·exact t.1.of t.2 ⟨rfl,rfl,rfl,rfl⟩ rfl (by show (m.touch a).mm.st<=_;omega)
theorem T6.add (m:Mac) (a v:Int):T6 m (m.add a v).2:=by
 have t:=T6.touch m a
 unfold Mac.add;dsimp only
 split
 ·exact t.1.of t.2 ⟨rfl,rfl,rfl,rfl⟩ (by show (List.set _ _ _).length=_;rw [Ca];rfl) (Oz _)
 ·exact t.1.of t.2 ⟨rfl,rfl,rfl,rfl⟩ rfl (by show (m.touch a).mm.st<=_;omega)
theorem Tf6 (m:Mm) (a o n:Int):(m.cas a o n).st=m.st+1/\(m.cas a o n).w.length=m.w.length:=by unfold Mm.cas;split <;> exact ⟨rfl,by simp [Mm.tick,Mm.put]⟩
theorem S41 (m:Mm) (a o n b p q:Int):(m.dcas a o n b p q).st=m.st+1/\(m.dcas a o n b p q).w.length=m.w.length:=by unfold Mm.dcas;split <;> exact ⟨rfl,by simp [Mm.tick,Mm.put]⟩
theorem S42 (m:Mm) (a o n b p:Int):(m.dcss a o n b p).st=m.st+1/\(m.dcss a o n b p).w.length=m.w.length:=by unfold Mm.dcss;split <;> exact ⟨rfl,by simp [Mm.tick,Mm.put]⟩
theorem T6.cas (m:Mac) (a o n:Int):T6 m (m.cas a o n).2:=by
 have t:=T6.touch m a
 have h:=Tf6 (m.touch a).mm a o n
 unfold Mac.cas;dsimp only
 split
 ·exact t.1.of t.2 ⟨rfl,rfl,rfl,rfl⟩ h.2 (by show ((m.touch a).mm.cas a o n).st<=_;omega)
 ·exact t.1.of t.2 ⟨rfl,rfl,rfl,rfl⟩ rfl (by show (m.touch a).mm.st<=_;omega)
theorem T6.touch2 (m:Mac) (a b:Int):T6 m ((m.touch a).touch b)/\((m.touch a).touch b).mm=m.mm/\((m.touch a).touch b).used=m.used:=by
 have t:=T6.touch m a
 have t2:=T6.touch (m.touch a) b
 have e1:=t2.2.1.trans t.2.1
 have e2:=t2.2.2.trans t.2.2
 exact ⟨⟨t2.1.p.trans t.1.p,t2.1.th.trans t.1.th,t2.1.b.trans t.1.b,t2.1.w.trans t.1.w,by rw [e1];omega,by rw [e2];omega⟩,e1,e2⟩
theorem T6.dcas (m:Mac) (a o n b p q:Int):T6 m (m.dcas a o n b p q).2:=by
 have t:=T6.touch2 m a b
 have h:=S41 ((m.touch a).touch b).mm a o n b p q
 unfold Mac.dcas;dsimp only
 split
 ·exact t.1.of t.2 ⟨rfl,rfl,rfl,rfl⟩ h.2 (by show (((m.touch a).touch b).mm.dcas a o n b p q).st<=_;omega)
 ·exact t.1.of t.2 ⟨rfl,rfl,rfl,rfl⟩ rfl (by show ((m.touch a).touch b).mm.st<=_;omega)
theorem T6.dcss (m:Mac) (a o n b p:Int):T6 m (m.dcss a o n b p).2:=by
 have t:=T6.touch2 m a b
 have h:=S42 ((m.touch a).touch b).mm a o n b p
 unfold Mac.dcss;dsimp only
 split
 ·exact t.1.of t.2 ⟨rfl,rfl,rfl,rfl⟩ h.2 (by show (((m.touch a).touch b).mm.dcss a o n b p).st<=_;omega)
 ·exact t.1.of t.2 ⟨rfl,rfl,rfl,rfl⟩ rfl (by show ((m.touch a).touch b).mm.st<=_;omega)
theorem T6.refl (m:Mac):T6 m m:=⟨rfl,rfl,rfl,rfl,by omega,by omega⟩
theorem T6.next (m:Mac) (n:Int):T6 m (m.next n).2:=by
 unfold Mac.next
 split
 ·exact T6.refl m
 ·exact ⟨rfl,rfl,rfl,rfl,by show m.mm.st<=_;omega,Oz _⟩
theorem T6.lvl (m:Mac) (n:Int):T6 m (m.lvl n).2:=by
 unfold Mac.lvl
 split
 ·exact T6.refl m
 ·exact ⟨rfl,rfl,rfl,rfl,by show m.mm.st<=_;omega,Oz _⟩
theorem Fix.m {x y:B9} {m:Mac} (h:Fix x y) (e:T6 y.m m):Fix x { y with m:=m }:=⟨e.p.trans h.p,h.id,e.th.trans h.th,e.b.trans h.b,e.w.trans h.w,h.pr,h.su,h.wo⟩
theorem Fix.t {x y:B9} {t:Thr} (h:Fix x y) (h1:t.pred.length=y.t.pred.length) (h2:t.succ.length=y.t.succ.length) (h3:t.word.length=y.t.word.length):Fix x { y with t:=t }:=⟨h.p,h.id,h.th,h.b,h.w,h1.trans h.pr,h2.trans h.su,h3.trans h.wo⟩
theorem Thr.pop_pl (t:Thr) (r:List Int):(t.pop r).pred=t.pred/\(t.pop r).succ=t.succ/\(t.pop r).word=t.word:=by unfold Thr.pop;split <;> exact ⟨rfl,rfl,rfl⟩
theorem St.fix {n:Nat} {x y:B9} (h:St n x y):Fix x y:=by
 induction h with
 | refl x=>exact ⟨rfl,rfl,rfl,rfl,rfl,rfl,rfl,rfl⟩
 | load _ ih=>exact ih.m (T6.load _ _)
 | store _ ih=>exact ih.m (T6.store _ _ _)
 | cas _ ih=>exact ih.m (T6.cas _ _ _ _)
 | add _ ih=>exact ih.m (T6.add _ _ _)
 | dcas _ ih=>exact ih.m (T6.dcas _ _ _ _ _ _ _)
 | dcss _ ih=>exact ih.m (T6.dcss _ _ _ _ _ _)
 | next _ ih=>exact ih.m (T6.next _ _)
 | lvl _ ih=>exact ih.m (T6.lvl _ _)
 | gh _ ih=>exact ih.m ⟨rfl,rfl,rfl,rfl,by show Mm.st _<=_;exact Int.le_add_one (Oz _),by show Mac.used _<=_;exact Int.le_add_one (Oz _)⟩
 | s _ ih=>exact ih.t rfl rfl rfl
 | pc _ ih=>exact ih.t rfl rfl rfl
 | push _ ih=>exact ih.t rfl rfl rfl
 | pop _ ih=>exact ih.t (by rw [(Thr.pop_pl _ _).1]) (by rw [(Thr.pop_pl _ _).2.1]) (by rw [(Thr.pop_pl _ _).2.2])
 | fo _ _ ih=>exact ih.t rfl rfl rfl
 | re _ _ ih=>exact ih.t rfl rfl rfl
 | part _ ih=>exact ih.t rfl rfl rfl
 | setPl h1 h2 h3 _ ih=>exact ih.t h1 h2 h3
 | up _ ih=>exact ih
def B9.P (x:B9):Nat:=x.m.mm.st.toNat+x.m.used.toNat+x.t.retired.length+x.t.found.length+x.t.fr.length
theorem S88 (p:Int->Bool):∀l:List Int,(l.filter p).length+(l.filter λn=>!p n).length=l.length
 | []=>rfl
 | a :: l=>by
  have ih:=S88 p l
  cases h:p a <;> simp [List.filter_cons,h] <;> omega
theorem P_m {x:B9} {m:Mac} (h:T6 x.m m):({ x with m:=m }:B9).P<=x.P+2:=by
 have h1:=h.st
 have h2:=h.us
 unfold B9.P
 dsimp only
 omega
theorem SO3 (x:B9) (f:N6):(x.setF f).P<=x.P+2:=by
 unfold B9.P
 show x.m.mm.st.toNat+x.m.used.toNat+x.t.retired.length+x.t.found.length+(x.t.fr.dropLast ++ [f]).length<=_
 simp
 omega
theorem St.P {n:Nat} {x y:B9} (h:St n x y):y.P<=x.P+2*n:=by
 induction h with
 | refl x=>omega
 | @load _ _ y a _ ih=>have:=P_m (x:=y) (T6.load y.m a);exact R4 this (by omega)
 | @store _ _ y a v _ ih=>have:=P_m (x:=y) (T6.store y.m a v);exact R4 this (by omega)
 | @cas _ _ y a o v _ ih=>have:=P_m (x:=y) (T6.cas y.m a o v);exact R4 this (by omega)
 | @add _ _ y a v _ ih=>have:=P_m (x:=y) (T6.add y.m a v);exact R4 this (by omega)
 | @dcas _ _ y a o v b p q _ ih=>have:=P_m (x:=y) (T6.dcas y.m a o v b p q);exact R4 this (by omega)
 | @dcss _ _ y a o v b p _ ih=>have:=P_m (x:=y) (T6.dcss y.m a o v b p);exact R4 this (by omega)
 | @next _ _ y k _ ih=>have:=P_m (x:=y) (T6.next y.m k);exact R4 this (by omega)
 | @lvl _ _ y k _ ih=>have:=P_m (x:=y) (T6.lvl y.m k);exact R4 this (by omega)
 | @gh _ _ y f _ ih=>have:(y.gh f).P=y.P:=rfl;omega
 | @s _ _ y i v _ ih=>have:=SO3 y (y.f.s i v);exact R4 this (by omega)
 | @pc _ _ y i _ ih=>have:=SO3 y (y.f.at i);exact R4 this (by omega)
 | @push _ _ y i r _ ih=>
  have:(y.push i r).P=y.P+1:=by
   unfold B9.P
   show y.m.mm.st.toNat+y.m.used.toNat+y.t.retired.length+y.t.found.length+(y.t.fr ++ [_]).length=_
   simp
   omega
  omega
 | @pop _ _ y r _ ih=>
  have:(y.pop r).P<=y.P:=by
   unfold B9.P B9.pop Thr.pop
   split
   ·exact G0 _
   ·dsimp only
    simp
  omega
 | @fo _ _ y l hl _ ih=>
  have:(y.fo l).P<=y.P+1:=by
   unfold B9.P
   show y.m.mm.st.toNat+y.m.used.toNat+y.t.retired.length+l.length+y.t.fr.length<=_
   omega
  omega
 | @re _ _ y l hl _ ih=>
  have:(y.re l).P<=y.P+1:=by
   unfold B9.P
   show y.m.mm.st.toNat+y.m.used.toNat+l.length+y.t.found.length+y.t.fr.length<=_
   omega
  omega
 | @part _ _ y p _ ih=>
  have h:=S88 p y.t.retired
  have:((y.re (y.t.retired.filter p)).fo (y.t.retired.filter λn=>!p n)).P<=y.P:=by
   unfold B9.P
   show y.m.mm.st.toNat+y.m.used.toNat+(y.t.retired.filter p).length+(y.t.retired.filter λn=>!p n).length+y.t.fr.length<=_
   omega
  omega
 | @setPl _ _ y p s w _ _ _ _ ih=>have:(y.setPl p s w).P=y.P:=rfl;omega
 | up _ ih=>omega
theorem SO4 (x:B9):St 12 x (alloc x):=by
 unfold alloc;dsimp only
 repeat' split
 all_goals exact t_gro
theorem Zb (x:B9):St 12 x (AC x):=by
 unfold AC;dsimp only
 repeat' split
 all_goals exact t_gro
theorem Zc (x:B9):St 12 x (AD x):=by
 unfold AD
 repeat' split
 ·exact t_gro
 ·exact SO4 x
 ·exact Zb x
 ·exact t_gro
theorem Zd (x:B9):St 12 x (AE x):=by
 unfold AE;dsimp only
 repeat' split
 all_goals exact t_gro
theorem S43 (x:B9):St 12 x (JS x):=by
 unfold JS;dsimp only
 repeat' split
 all_goals exact t_gro
theorem Ss3 (x:B9):St 12 x (Ci x):=by
 unfold Ci;dsimp only
 have h2:St 2 x ((x.gh λg=>g.turn (G2 (x.f.g 0)) 1 2 2).re ((x.gh λg=>g.turn (G2 (x.f.g 0)) 1 2 2).t.retired ++ [G2 (x.f.g 0)])):=St.re (by simp) (St.gh (St.refl _))
 split
 ·exact St.up (k:=9) (St.push (St.pop h2))
 ·exact St.up (k:=10) (St.pop h2)
theorem SO5 {x y:B9} {N:Nat} (all:Int) (h:St N x y):St (N+2) x (Cj y all):=by
 unfold Cj
 split
 ·exact St.pc (St.part h)
 ·exact St.up (k:=2) h
theorem SO6 {x y:B9} {N:Nat} (h:St N x y):St (N+2) x (GL y):=by
 unfold GL
 split
 ·exact St.up (k:=2) (St.pop h)
 ·rename_i n rest e
  exact St.push (St.fo (by rw [e];simp;omega) h)
theorem S44 (x:B9):St 12 x (scan x):=by
 have h0:St 1 x (if x.f.pc=0 then x.fo [] else x):=by
  split
  ·exact St.fo (by simp) (St.refl _)
  ·exact St.refl _
 unfold scan
 dsimp only
 generalize (if x.f.pc=0 then x.fo [] else x)=y at *
 split
 ·exact St.up (k:=8) (St.pc (St.fo (by simp) (St.load h0)))
 ·exact St.up (k:=7) (SO6 (SO5 _ h0))
theorem Ia (x:B9):St 12 x (V0 x):=by
 unfold V0
 repeat' split
 ·exact t_gro
 ·exact Zd x
 ·exact S43 x
 ·exact Ss3 x
 ·exact S44 x
 ·exact Zc x
theorem SO7 (x:B9):St 12 x (EV x):=by
 unfold EV;dsimp only
 repeat' split
 all_goals exact t_gro
theorem SO8 (x:B9):St 12 x (EW x):=by
 unfold EW;dsimp only
 repeat' split
 all_goals exact t_gro
theorem VM (x:B9):St 12 x (Y4 x):=by
 unfold Y4 FN;dsimp only
 repeat' split
 all_goals exact t_gro
theorem SO9 (x:B9):St 12 x (EX x):=by
 unfold EX FN;dsimp only
 repeat' split
 all_goals exact t_gro
theorem S45 (x:B9):St 12 x (JU x):=by
 unfold JU IQ;dsimp only
 repeat' split
 all_goals exact t_gro
theorem SP0 (x:B9):St 12 x (EY x):=by
 unfold EY
 try dsimp only
 repeat' split
 all_goals first | with_reducible exact SO8 x | with_reducible exact VM x | with_reducible exact SO9 x | with_reducible exact S45 x | exact t_gro
theorem SP1 (x:B9):St 12 x (DF x):=by
 unfold DF;dsimp only
 repeat' split
 all_goals exact t_gro
theorem SP2 (x:B9):St 12 x (DG x):=by
 unfold DG;dsimp only
 repeat' split
 all_goals first | with_reducible exact SP1 x | exact t_gro
theorem VN (x:B9):St 12 x (En x):=by
 unfold En;dsimp only
 repeat' split
 all_goals exact t_gro
theorem SP3 (x:B9):St 12 x (EZ x):=by
 unfold EZ;dsimp only
 repeat' split
 all_goals first | with_reducible exact VN x | exact t_gro
theorem Qy (x:B9) (a:Nat) (i j:Int):St 5 x (Af x a i j):=by
 unfold Af;dsimp only
 repeat' split
 all_goals exact t_gro
theorem SP4 (x:B9) (a:Nat) (j:Int):St 12 x (Eo x a j):=by
 unfold Eo;dsimp only
 repeat' split
 all_goals exact t_gro
theorem SP5 (x:B9):St 12 x (Fa x):=by
 unfold Fa;dsimp only
 repeat' split
 all_goals first | with_reducible exact St.up (k:=7) (Qy _ _ _ _) | with_reducible exact St.up (k:=5) (St.call (Qy _ _ _ _)) | with_reducible exact SP4 _ _ _ | with_reducible exact VN x | with_reducible exact SP3 x | exact t_gro
theorem Ze (x:B9):St 12 x (Z9 x):=by
 unfold Z9
 try dsimp only
 repeat' split
 all_goals first | with_reducible exact SO7 x | with_reducible exact SP0 x | with_reducible exact SP2 x | with_reducible exact SP5 x | with_reducible exact Ia x | exact t_gro
theorem LR {x y:B9} {N:Nat} (h:St N x y):St (N+2) x (Y5 y):=by
 unfold Y5;dsimp only
 repeat' split
 ·exact St.up (k:=2) (St.pop (St.setPl (by simp) (by simp) (by simp) h))
 ·exact St.pc (St.s (St.setPl (by simp) (by simp) (by simp) h))
theorem NT {x y:B9} {N:Nat} {w:Int} (h:St N x y):St (N+3) x (CH y w):=by
 unfold CH;dsimp only
 have h1:St (N+1) x (y.s 3 w):=St.s h
 repeat' split
 ·exact St.up (k:=1) (St.pc h1)
 ·exact LR h1
 ·exact St.up (k:=1) (St.pc h1)
theorem SP6 (x:B9):St 12 x (Fb x):=by
 unfold Fb;dsimp only
 repeat' split
 all_goals first | with_reducible exact St.up (k:=7) (NT (St.load (St.refl _))) | with_reducible exact St.up (k:=7) (NT (St.cas (St.refl _))) | with_reducible exact St.up (k:=8) (LR (St.load (St.refl _))) | exact t_gro
theorem SP7 (x:B9):St 12 x (Fc x):=by
 unfold Fc;dsimp only
 repeat' split
 all_goals first | with_reducible exact SP6 x | with_reducible exact St.up (k:=7) (NT (St.load (St.refl _))) | exact t_gro
theorem Ss4 (x:B9):St 12 x (Ck x):=by
 unfold Ck
 try dsimp only
 repeat' split
 all_goals first | with_reducible exact SP7 x | with_reducible exact Ia x | exact t_gro
theorem Ss5 (x:B9):St 12 x (Cm x):=by
 unfold Cm;dsimp only
 repeat' split
 all_goals exact t_gro
theorem SP8 (x:B9):St 12 x (FO x):=by
 unfold FO;dsimp only
 repeat' split
 all_goals exact t_gro
theorem Zf (x:B9):St 12 x (AF x):=by
 unfold AF;dsimp only
 repeat' split
 all_goals exact t_gro
theorem Zg (x:B9):St 12 x (AG x):=by
 unfold AG;dsimp only
 repeat' split
 all_goals exact t_gro
theorem Zh (x:B9):St 12 x (AH x):=by
 unfold AH;dsimp only
 repeat' split
 all_goals exact t_gro
theorem Ss6 (x:B9):St 12 x (Cn x):=by
 unfold Cn
 try dsimp only
 repeat' split
 all_goals first | with_reducible exact Ss5 x | with_reducible exact SP8 x | with_reducible exact Zf x | with_reducible exact Zg x | with_reducible exact Zh x | exact t_gro
theorem Ss7 (x:B9):St 12 x (AW x):=by
 unfold AW Br;dsimp only
 repeat' split
 all_goals exact t_gro
theorem Ss8 (x:B9):St 12 x (AX x):=by
 unfold AX;dsimp only
 repeat' split
 all_goals exact t_gro
theorem Ss9 (x:B9):St 12 x (AY x):=by
 unfold AY;dsimp only
 repeat' split
 all_goals exact t_gro
theorem Zi (x:B9):St 12 x (Y6 x):=by
 unfold Y6 Br;dsimp only
 repeat' split
 all_goals exact t_gro
theorem St0 (x:B9):St 12 x (Co x):=by
 unfold Co
 try dsimp only
 repeat' split
 all_goals first | with_reducible exact Ss7 x | with_reducible exact Ss8 x | with_reducible exact Ss9 x | with_reducible exact Zi x | exact t_gro
theorem Sw (x:B9):St 12 x (S3 x):=by
 unfold S3
 try dsimp only
 repeat' split
 all_goals first | with_reducible exact Ss4 x | with_reducible exact Ss6 x | with_reducible exact St0 x | exact t_gro
theorem VO {x y:B9} {N:Nat} (h:St N x y):St (N+2) x (X3 y):=by
 unfold X3;dsimp only
 repeat' split
 ·exact St.up (k:=2) (St.pop (St.setPl (by simp) (by simp) (by simp) h))
 ·exact St.pc (St.s (St.setPl (by simp) (by simp) (by simp) h))
theorem VP {x y:B9} {N:Nat} (h:St N x y):St (N+2) x (CI y):=by
 unfold CI
 exact St.pc (St.s h)
theorem St1 (x:B9):St 12 x (Cp x):=by
 unfold Cp;dsimp only
 repeat' split
 all_goals repeat' (first | with_reducible apply VP | with_reducible (first | apply St.refl | assumption | apply St.load | apply St.store | apply St.cas | apply St.add | apply St.swing | apply St.swingA | apply St.swingM | apply St.drop1 | apply St.guard | apply St.next | apply St.lvl | apply St.dcas | apply St.dcss | apply St.gh | apply St.call | apply St.fin | apply St.s | apply St.pc | apply St.push | apply St.pop))
theorem SP9 (x:B9):St 12 x (Fe x):=by
 unfold Fe;dsimp only
 repeat' split
 all_goals repeat' (first | with_reducible exact St1 x | with_reducible apply VP | with_reducible apply VO | with_reducible (first | apply St.refl | assumption | apply St.load | apply St.store | apply St.cas | apply St.add | apply St.swing | apply St.swingA | apply St.swingM | apply St.drop1 | apply St.guard | apply St.next | apply St.lvl | apply St.dcas | apply St.dcss | apply St.gh | apply St.call | apply St.fin | apply St.s | apply St.pc | apply St.push | apply St.pop))
theorem VQ (x:B9):St 12 x (Aq x):=by
 unfold Aq
 try dsimp only
 repeat' split
 all_goals first | with_reducible exact SP9 x | with_reducible exact Ia x | exact t_gro
theorem St2 (x:B9):St 12 x (Cq x):=by
 unfold Cq;dsimp only
 repeat' split
 all_goals exact t_gro
theorem St3 (x:B9):St 12 x (Cr x):=by
 unfold Cr;dsimp only
 repeat' split
 all_goals exact t_gro
theorem St4 (x:B9):St 12 x (Cs x):=by
 unfold Cs Bs;dsimp only
 repeat' split
 all_goals exact t_gro
theorem St5 (x:B9):St 12 x (Ct x):=by
 unfold Ct Bs;dsimp only
 repeat' split
 all_goals first | with_reducible exact St4 x | exact t_gro
theorem St6 (x:B9):St 12 x (Cu x):=by
 unfold Cu;dsimp only
 repeat' split
 all_goals exact t_gro
theorem SQ0 (x:B9):St 12 x (FP x):=by
 unfold FP;dsimp only
 repeat' split
 all_goals exact t_gro
theorem Zj (x:B9):St 12 x (AI x):=by
 unfold AI;dsimp only
 repeat' split
 all_goals exact t_gro
theorem Zk (x:B9):St 12 x (AJ x):=by
 unfold AJ;dsimp only
 repeat' split
 all_goals exact t_gro
theorem St7 (x:B9):St 12 x (Cv x):=by
 unfold Cv;dsimp only
 repeat' split
 all_goals exact t_gro
theorem St8 (x:B9):St 12 x (Cw x):=by
 unfold Cw
 try dsimp only
 repeat' split
 all_goals first | with_reducible exact St6 x | with_reducible exact SQ0 x | with_reducible exact Zj x | with_reducible exact Zk x | with_reducible exact St7 x | exact t_gro
theorem St9 (x:B9):St 12 x (Bt x):=by
 unfold Bt;dsimp only
 repeat' split
 all_goals exact t_gro
theorem S46 (x:B9):St 12 x (IF x):=by
 unfold IF;dsimp only
 repeat' split
 all_goals exact t_gro
theorem Su0 (x:B9):St 12 x (Bu x):=by
 unfold Bu;dsimp only
 repeat' split
 all_goals exact t_gro
theorem SQ1 (x:B9):St 12 x (DH x):=by
 unfold DH;dsimp only
 repeat' split
 all_goals exact t_gro
theorem Su1 (x:B9):St 12 x (Bv x):=by
 unfold Bv
 try dsimp only
 repeat' split
 all_goals first | with_reducible exact St9 x | with_reducible exact S46 x | with_reducible exact Su0 x | with_reducible exact SQ1 x | exact t_gro
theorem VR (x:B9):St 12 x (V1 x):=by
 unfold V1
 try dsimp only
 repeat' split
 all_goals first | with_reducible exact VQ x | with_reducible exact St8 x | with_reducible exact St2 x | with_reducible exact St3 x | with_reducible exact St5 x | with_reducible exact Su1 x | exact t_gro
end Go.Proofs.YtahpbclnkofhfaaGreat.Mod
end
section
namespace Go.Proofs.YtahpbclnkofhfaaGreat.Mod
def Bo (fn:Int):Prop:=11<=fn/\fn<=13\/21<=fn/\fn<=23\/31<=fn/\fn<=33
def Fit (fn i j k:Int):Prop:=(fn % 10=1->(i=0\/i=1)/\j=0/\k=0)/\(fn % 10≠1->i=2\/i=3/\j=0/\k=0)
inductive Bb (p:Pl):Int->Prop
 | node (n f:Int):Bb p (p.node n f)
 | link (n:Int):Bb p (p.link n)
 | at (n:Int):Bb p (p.at n)
 | lit {a:Int} (h:0<=a/\a < 8):Bb p a
inductive On (x:B9):Bool->Bool->B9->Prop
 | refl:On x false false x
 | load {y:B9} {a:Int} (h:On x false false y):On x true false (y.load a).2
 | store {y:B9} {a v:Int} (h:On x false false y) (ha:Bb x.m.p a):On x true false (y.store a v)
 | own {y:B9} {i v:Int} (h:On x false false y):On x true false (y.store (x.m.p.haz x.id i) v)
 | cas {y:B9} {a o v:Int} (h:On x false false y) (ha:Bb x.m.p a):On x true false (y.cas a o v).2
 | add {y:B9} {a v:Int} (h:On x false false y) (ha:Bb x.m.p a):On x true false (y.add a v).2
 | dcas {y:B9} {a o v b p q:Int} (h:On x false false y) (ha:Bb x.m.p a) (hb:Bb x.m.p b):On x true false { y with m:=(y.m.dcas a o v b p q).2 }
 | dcss {y:B9} {a o v b p:Int} (h:On x false false y) (ha:Bb x.m.p a) (hb:Bb x.m.p b):On x true false { y with m:=(y.m.dcss a o v b p).2 }
 | next {b:Bool} {y:B9} {k:Int} (h:On x b false y):On x b false { y with m:=(y.m.next k).2 }
 | lvl {b:Bool} {y:B9} {k:Int} (h:On x b false y):On x b false { y with m:=(y.m.lvl k).2 }
 | gh {b q:Bool} {y:B9} {f:Gh->Gh} (h:On x b q y):On x b q (y.gh f)
 | s {b:Bool} {y:B9} {i:Nat} {v:Int} (h:On x b false y):On x b false (y.s i v)
 | pc {b:Bool} {y:B9} {i:Int} (h:On x b false y) (hi:Bo x.f.fn->i≠90):On x b false (y.pc i)
 | call {b:Bool} {y:B9} {i j:Int} {r:List Int} (h:On x b false y) (hi:Bo x.f.fn->i≠90) (hj:¬ Bo j):On x b true (y.call i j r)
 | fin {b:Bool} {y:B9} {i j k:Int} (h:On x b false y) (hi:Bo x.f.fn->Fit x.f.fn i j k):On x b true (y.fin i j k)
 | pop {b:Bool} {y:B9} {r:List Int} (h:On x b false y) (hn:¬ Bo x.f.fn):On x b true (y.pop r)
 | push {b q:Bool} {y:B9} {j:Int} {r:List Int} (h:On x b q y) (hj:¬ Bo j):On x b true (y.push j r)
 | fo {b:Bool} {y:B9} {l:List Int} (h:On x b false y):On x b false (y.fo l)
 | re {b:Bool} {y:B9} {l:List Int} (h:On x b false y):On x b false (y.re l)
 | setPl {b:Bool} {y:B9} {p s w:List Int} (h:On x b false y):On x b false (y.setPl p s w)
section
variable {x y:B9} {b:Bool}
theorem On.swing {a w p:Int} {c:Bool} (h:On x false false y) (ha:Bb x.m.p (y.at a)):On x true false (y.swing a w p c).2:=On.cas h ha
theorem On.swingA {a w p:Int} (h:On x false false y) (ha:Bb x.m.p a):On x true false (y.swingA a w p).2:=On.cas h ha
theorem On.swingM {a w p:Int} {c:Bool} (h:On x false false y) (ha:Bb x.m.p a):On x true false (y.swingM a w p c).2:=On.cas h ha
theorem On.drop1 {a:Int} (h:On x false false y) (ha:Bb x.m.p (y.na a 2)):On x true false (y.drop1 a).2:=On.add h ha
end
structure Ob (x y:B9):Prop where
 a:∃b q,On x b q y
theorem Ob.of {x y:B9} {b q:Bool} (h:On x b q y):Ob x y:=⟨b,q,h⟩
theorem t_on {P:Prop} (h:P:=by ((with_reducible repeat' (first | assumption | exact On.refl | apply On.load | apply On.cas | apply On.add | apply On.swing | apply On.swingA | apply On.swingM | apply On.drop1 | apply On.own | apply On.next | apply On.lvl | apply On.dcas | apply On.dcss | apply On.gh | apply On.call | apply On.fin | apply On.s | apply On.pc | apply On.push | apply On.pop | apply On.fo | apply On.re | apply On.setPl | apply On.store));all_goals (first | assumption | exact Bb.node _ _ | exact Bb.at _ | exact Bb.link _ | exact Bb.lit (by decide) | (intro hx;first | exact absurd hx nA | decide | omega | (unfold Fit;omega)) | (unfold Bo;omega)))):P:=h
theorem t_ob {P:Prop} (h:P:=by (apply Ob.of;((with_reducible repeat' (first | assumption | exact On.refl | apply On.load | apply On.cas | apply On.add | apply On.swing | apply On.swingA | apply On.swingM | apply On.drop1 | apply On.own | apply On.next | apply On.lvl | apply On.dcas | apply On.dcss | apply On.gh | apply On.call | apply On.fin | apply On.s | apply On.pc | apply On.push | apply On.pop | apply On.fo | apply On.re | apply On.setPl | apply On.store));all_goals (first | assumption | exact Bb.node _ _ | exact Bb.at _ | exact Bb.link _ | exact Bb.lit (by decide) | (intro hx;first | exact absurd hx nA | decide | omega | (unfold Fit;omega)) | (unfold Bo;omega))))):P:=h
theorem SQ2 {x:B9} (nA:¬ Bo x.f.fn):Ob x (alloc x):=by
 unfold alloc;dsimp only
 repeat' split
 all_goals exact t_ob
theorem Zl {x:B9} (nA:¬ Bo x.f.fn):Ob x (AC x):=by
 unfold AC;dsimp only
 repeat' split
 all_goals exact t_ob
theorem Zm {x:B9} (nA:¬ Bo x.f.fn):Ob x (AD x):=by
 unfold AD
 try dsimp only
 repeat' split
 all_goals first | with_reducible exact SQ2 nA | with_reducible exact Zl nA | exact t_ob
theorem Zn {x:B9} (nA:¬ Bo x.f.fn):Ob x (AE x):=by
 unfold AE;dsimp only
 repeat' split
 all_goals exact t_ob
theorem S47 {x:B9} (nA:¬ Bo x.f.fn):Ob x (JS x):=by
 unfold JS;dsimp only
 repeat' split
 all_goals exact t_ob
theorem Su2 {x:B9} (nA:¬ Bo x.f.fn):Ob x (Ci x):=by
 unfold Ci;dsimp only
 repeat' split
 all_goals exact t_ob
theorem SQ3 {x y:B9} {b:Bool} {all:Int} (nA:¬ Bo x.f.fn) (h:On x b false y):On x b false (Cj y all):=by
 unfold Cj
 split
 ·exact On.pc (On.fo (On.re h)) λhx=>absurd hx nA
 ·exact h
theorem SQ4 {x y:B9} {b:Bool} (nA:¬ Bo x.f.fn) (h:On x b false y):On x b true (GL y):=by
 unfold GL
 split
 ·exact On.pop h nA
 ·exact On.push (On.fo h) (by unfold Bo;omega)
theorem S48 {x:B9} (nA:¬ Bo x.f.fn):Ob x (scan x):=by
 have h0:On x false false (if x.f.pc=0 then x.fo [] else x):=by
  split
  ·exact On.fo On.refl
  ·exact On.refl
 unfold scan
 dsimp only
 generalize (if x.f.pc=0 then x.fo [] else x)=y at *
 split
 ·exact Ob.of (On.pc (On.fo (On.load h0)) λhx=>absurd hx nA)
 ·exact Ob.of (SQ4 nA (SQ3 nA h0))
theorem Ib {x:B9} (nA:¬ Bo x.f.fn):Ob x (V0 x):=by
 unfold V0
 try dsimp only
 repeat' split
 all_goals first | with_reducible exact Zn nA | with_reducible exact S47 nA | with_reducible exact Su2 nA | with_reducible exact S48 nA | with_reducible exact Zm nA | exact t_ob
theorem SQ5 {x:B9} (nA:¬ Bo x.f.fn):Ob x (EV x):=by
 unfold EV;dsimp only
 repeat' split
 all_goals exact t_ob
theorem SQ6 {x:B9} (e:x.f.fn=11):Ob x (EW x):=by
 unfold EW;dsimp only
 repeat' split
 all_goals exact t_ob
theorem VS {x:B9} (e:x.f.fn=11):Ob x (Y4 x):=by
 unfold Y4 FN;dsimp only
 repeat' split
 all_goals exact t_ob
theorem SQ7 {x:B9} (e:x.f.fn=11):Ob x (EX x):=by
 unfold EX FN;dsimp only
 repeat' split
 all_goals exact t_ob
theorem S49 {x:B9} (e:x.f.fn=11):Ob x (JU x):=by
 unfold JU IQ;dsimp only
 repeat' split
 all_goals exact t_ob
theorem SQ8 {x:B9} (e:x.f.fn=11):Ob x (EY x):=by
 unfold EY
 try dsimp only
 repeat' split
 all_goals first | with_reducible exact SQ6 e | with_reducible exact VS e | with_reducible exact SQ7 e | with_reducible exact S49 e | exact t_ob
theorem SQ9 {x:B9} (e:x.f.fn=12\/x.f.fn=13):Ob x (DF x):=by
 unfold DF;dsimp only
 repeat' split
 all_goals exact t_ob
theorem SR0 {x:B9} (e:x.f.fn=12\/x.f.fn=13):Ob x (DG x):=by
 unfold DG
 try dsimp only
 repeat' split
 all_goals first | with_reducible exact SQ9 e | exact t_ob
theorem VT {x:B9} (nA:¬ Bo x.f.fn):Ob x (En x):=by
 unfold En;dsimp only
 repeat' split
 all_goals exact t_ob
theorem SR1 {x:B9} (nA:¬ Bo x.f.fn):Ob x (EZ x):=by
 unfold EZ
 try dsimp only
 repeat' split
 all_goals first | with_reducible exact VT nA | exact t_ob
theorem Su3 {x:B9} {a:Nat} {i j:Int} (nA:¬ Bo x.f.fn):Ob x (Af x a i j):=by
 unfold Af;dsimp only
 repeat' split
 all_goals exact t_ob
theorem SR2 {x:B9} {a:Nat} {j:Int} (nA:¬ Bo x.f.fn):Ob x (Eo x a j):=by
 unfold Eo;dsimp only
 repeat' split
 all_goals exact t_ob
theorem SR3 {x:B9} (nA:¬ Bo x.f.fn):Ob x (Fa x):=by
 unfold Fa;dsimp only
 repeat' split
 all_goals first | with_reducible exact SR2 nA | with_reducible exact VT nA | with_reducible exact SR1 nA | with_reducible exact Su3 nA | (rename_i c;unfold Af;dsimp only;rw [if_neg c];exact t_ob) | exact t_ob
def Bit (x y:B9):Prop:=Bo x.f.fn/\x.f.pc=90/\y=x.pop [x.f.g 7,x.f.g 8,x.f.g 9]\/(Bo x.f.fn->x.f.pc≠90)/\Ob x y
theorem VU {x:B9} (hq:x.f.fn<=6\/10<=x.f.fn/\x.f.fn<=14) (hne:x.t.fr≠[]):Bit x (Z9 x):=by
 unfold Z9
 rw [A7 hne]
 dsimp only
 split
 ·rename_i c;exact .inl ⟨.inl c.2,c.1,rfl⟩
 rename_i c
 refine .inr ⟨λh e=>c ⟨e,by unfold Bo at h;omega⟩,?_⟩
 repeat' split
 ·exact SQ5 (by unfold Bo;omega)
 ·exact SQ8 (by assumption)
 ·exact SR0 (by assumption)
 ·exact SR3 (by unfold Bo;omega)
 ·exact Ib (by unfold Bo;omega)
theorem NU {x y:B9} {b:Bool} (nA:¬ Bo x.f.fn) (h:On x b false y):Ob x (Y5 y):=by
 unfold Y5;dsimp only
 split
 all_goals exact t_ob
theorem NV {x y:B9} {b:Bool} {w:Int} (nA:¬ Bo x.f.fn) (h:On x b false y):Ob x (CH y w):=by
 unfold CH;dsimp only
 have h1:On x b false (y.s 3 w):=On.s h
 repeat' split
 ·exact t_ob
 ·exact NU nA h1
 ·exact t_ob
theorem SR4 {x:B9} (nA:¬ Bo x.f.fn):Ob x (Fb x):=by
 unfold Fb
 try dsimp only
 repeat' split
 all_goals first | with_reducible exact NV nA (On.load On.refl) | with_reducible exact NU nA (On.load On.refl) | exact NV nA (On.cas On.refl (Bb.node _ _)) | exact t_ob
theorem SR5 {x:B9} (nA:¬ Bo x.f.fn):Ob x (Fc x):=by
 unfold Fc
 try dsimp only
 repeat' split
 all_goals first | with_reducible exact SR4 nA | with_reducible exact NV nA (On.load On.refl) | exact t_ob
theorem Su4 {x:B9} (nA:¬ Bo x.f.fn):Ob x (Ck x):=by
 unfold Ck
 try dsimp only
 repeat' split
 all_goals first | with_reducible exact SR5 nA | with_reducible exact Ib nA | exact t_ob
theorem Su5 {x:B9} (e:x.f.fn=21):Ob x (Cm x):=by
 unfold Cm;dsimp only
 repeat' split
 all_goals exact t_ob
theorem SR6 {x:B9} (e:x.f.fn=21) (hp:x.f.pc<=7):Ob x (FO x):=by
 unfold FO;dsimp only
 repeat' split
 all_goals exact t_ob
theorem Zo {x:B9} (e:x.f.fn=21):Ob x (AF x):=by
 unfold AF;dsimp only
 repeat' split
 all_goals exact t_ob
theorem Zp {x:B9} (e:x.f.fn=21):Ob x (AG x):=by
 unfold AG;dsimp only
 repeat' split
 all_goals exact t_ob
theorem Zq {x:B9} (e:x.f.fn=21):Ob x (AH x):=by
 unfold AH;dsimp only
 repeat' split
 all_goals exact t_ob
theorem Su6 {x:B9} (e:x.f.fn=21):Ob x (Cn x):=by
 unfold Cn
 try dsimp only
 repeat' split
 all_goals first | with_reducible exact Su5 e | with_reducible exact SR6 e (by assumption) | with_reducible exact Zo e | with_reducible exact Zp e | with_reducible exact Zq e | exact t_ob
theorem Su7 {x:B9} (e:x.f.fn=22\/x.f.fn=23):Ob x (AW x):=by
 unfold AW Br;dsimp only
 repeat' split
 all_goals exact t_ob
theorem Su8 {x:B9} (e:x.f.fn=22\/x.f.fn=23):Ob x (AX x):=by
 unfold AX;dsimp only
 repeat' split
 all_goals exact t_ob
theorem Su9 {x:B9} (e:x.f.fn=22\/x.f.fn=23):Ob x (AY x):=by
 unfold AY;dsimp only
 repeat' split
 all_goals exact t_ob
theorem Zr {x:B9} (e:x.f.fn=22\/x.f.fn=23):Ob x (Y6 x):=by
 unfold Y6 Br;dsimp only
 repeat' split
 all_goals exact t_ob
theorem Sv0 {x:B9} (e:x.f.fn=22\/x.f.fn=23):Ob x (Co x):=by
 unfold Co
 try dsimp only
 repeat' split
 all_goals first | with_reducible exact Su7 e | with_reducible exact Su8 e | with_reducible exact Su9 e | with_reducible exact Zr e | exact t_ob
theorem Pq {x:B9} (hq:x.f.fn<=6\/20<=x.f.fn/\x.f.fn<=23) (hne:x.t.fr≠[]):Bit x (S3 x):=by
 unfold S3
 rw [A7 hne]
 dsimp only
 split
 ·have nA:¬ Bo x.f.fn:=by unfold Bo;omega
  exact .inr ⟨λh=>absurd h nA,Su4 nA⟩
 split
 ·exact .inl ⟨by unfold Bo;omega,by assumption,rfl⟩
 refine .inr ⟨λh=>by assumption,?_⟩
 split
 ·exact Su6 (by assumption)
 ·exact Sv0 (by omega)
theorem Zs {x y:B9} {b:Bool} (nA:¬ Bo x.f.fn) (h:On x b false y):Ob x (X3 y):=by
 unfold X3;dsimp only
 split
 all_goals exact t_ob
theorem VV {x y:B9} {b:Bool} (nA:¬ Bo x.f.fn) (h:On x b false y):On x b false (CI y):=by
 unfold CI
 exact On.pc (On.s h) λhx=>absurd hx nA
theorem Sv1 {x:B9} (nA:¬ Bo x.f.fn):Ob x (Cp x):=by
 have h1:On x true false (x.load 1).2:=On.load On.refl
 unfold Cp;dsimp only
 repeat' split
 all_goals first | (with_reducible apply Ob.of;with_reducible apply VV nA;with_reducible apply On.s;with_reducible exact h1) | exact t_ob
theorem SR7 {x:B9} (nA:¬ Bo x.f.fn):Ob x (Fe x):=by
 unfold Fe;dsimp only
 repeat' split
 all_goals first | with_reducible exact Sv1 nA | (with_reducible apply Zs nA (b:=true);exact t_on) | (with_reducible apply Ob.of;with_reducible apply VV nA (b:=true);exact t_on) | exact t_ob
theorem VW {x:B9} (nA:¬ Bo x.f.fn):Ob x (Aq x):=by
 unfold Aq
 try dsimp only
 repeat' split
 all_goals first | with_reducible exact SR7 nA | with_reducible exact Ib nA | exact t_ob
theorem Sv2 {x:B9} (nA:¬ Bo x.f.fn):Ob x (Cq x):=by
 unfold Cq;dsimp only
 repeat' split
 all_goals exact t_ob
theorem Sv3 {x:B9} (nA:¬ Bo x.f.fn):Ob x (Cr x):=by
 unfold Cr;dsimp only
 repeat' split
 all_goals exact t_ob
theorem Sv4 {x:B9} (nA:¬ Bo x.f.fn):Ob x (Cs x):=by
 unfold Cs Bs;dsimp only
 repeat' split
 all_goals exact t_ob
theorem Sv5 {x:B9} (nA:¬ Bo x.f.fn):Ob x (Ct x):=by
 unfold Ct Bs B9.guard
 try dsimp only
 repeat' split
 all_goals first | with_reducible exact Sv4 nA | exact t_ob
theorem Sv6 {x:B9} (e:x.f.fn=31):Ob x (Cu x):=by
 unfold Cu;dsimp only
 repeat' split
 all_goals exact t_ob
theorem SR8 {x:B9} (e:x.f.fn=31) (hp:x.f.pc<=6):Ob x (FP x):=by
 unfold FP;dsimp only
 repeat' split
 all_goals exact t_ob
theorem Zt {x:B9} (e:x.f.fn=31):Ob x (AI x):=by
 unfold AI;dsimp only
 repeat' split
 all_goals exact t_ob
theorem Zu {x:B9} (e:x.f.fn=31):Ob x (AJ x):=by
 unfold AJ;dsimp only
 repeat' split
 all_goals exact t_ob
theorem Sv7 {x:B9} (e:x.f.fn=31):Ob x (Cv x):=by
 unfold Cv;dsimp only
 repeat' split
 all_goals exact t_ob
theorem Sv8 {x:B9} (e:x.f.fn=31):Ob x (Cw x):=by
 unfold Cw
 try dsimp only
 repeat' split
 all_goals first | with_reducible exact Sv6 e | with_reducible exact SR8 e (by assumption) | with_reducible exact Zt e | with_reducible exact Zu e | with_reducible exact Sv7 e | exact t_ob
theorem Sv9 {x:B9} (e:x.f.fn=32\/x.f.fn=33):Ob x (Bt x):=by
 unfold Bt B9.guard;dsimp only
 repeat' split
 all_goals exact t_ob
theorem S50 {x:B9} (e:x.f.fn=32\/x.f.fn=33):Ob x (IF x):=by
 unfold IF;dsimp only
 repeat' split
 all_goals exact t_ob
theorem Sw0 {x:B9} (e:x.f.fn=32\/x.f.fn=33):Ob x (Bu x):=by
 unfold Bu;dsimp only
 repeat' split
 all_goals exact t_ob
theorem SR9 {x:B9} (e:x.f.fn=32\/x.f.fn=33):Ob x (DH x):=by
 unfold DH;dsimp only
 repeat' split
 all_goals exact t_ob
theorem Sw1 {x:B9} (e:x.f.fn=32\/x.f.fn=33):Ob x (Bv x):=by
 unfold Bv
 try dsimp only
 repeat' split
 all_goals first | with_reducible exact Sv9 e | with_reducible exact S50 e | with_reducible exact Sw0 e | with_reducible exact SR9 e | exact t_ob
theorem Sx {x:B9} (hq:x.f.fn<=6\/30<=x.f.fn/\x.f.fn<=36) (hne:x.t.fr≠[]):Bit x (V1 x):=by
 unfold V1
 rw [A7 hne]
 dsimp only
 split
 ·have nA:¬ Bo x.f.fn:=by unfold Bo;omega
  exact .inr ⟨λh=>absurd h nA,VW nA⟩
 split
 ·by_cases c:x.f.fn<=33
  ·exact .inl ⟨by unfold Bo;omega,by assumption,rfl⟩
  ·have nA:¬ Bo x.f.fn:=by unfold Bo;omega
   exact .inr ⟨λh=>absurd h nA,Ob.of (On.pop On.refl nA)⟩
 refine .inr ⟨λh=>by assumption,?_⟩
 repeat' split
 ·exact Sv8 (by assumption)
 ·exact Sv2 (by unfold Bo;omega)
 ·exact Sv3 (by unfold Bo;omega)
 ·exact Sv5 (by unfold Bo;omega)
 ·exact Sw1 (by omega)
end Go.Proofs.YtahpbclnkofhfaaGreat.Mod
end
namespace Go.Proofs.YtahpbclnkofhfaaGreat
section
open Mod
structure C5 (Q:N6->Prop) (x:B9):Prop where
 a:∀f ∈ x.t.fr.dropLast,Q f
structure E6 (Q:N6->Prop) (x:B9):Prop where
 a:∀f ∈ x.t.fr,Q f
section
variable {Q:N6->Prop} {x:B9}
theorem E6.rest (h:E6 Q x):C5 Q x:=⟨λf hf=>h.a f (SZ4 _ hf)⟩
theorem E6.top (h:E6 Q x) (hne:x.t.fr≠[]):Q x.f:=by
 have e:x.f=x.t.fr.getLast hne:=by
  show x.t.fr.getLast?.getD dfF=_
  rw [Sk7 hne]
  rfl
 rw [e]
 exact h.a _ (List.getLast_mem hne)
theorem C5.setF {f:N6} (h:C5 Q x):C5 Q (x.setF f):=by
 constructor
 intro g hg
 have hg:g ∈ (x.t.fr.dropLast ++ [f]).dropLast:=hg
 rw [Ta6 (by simp)] at hg
 simp at hg
 exact h.a g hg
theorem C5.s {i:Nat} {v:Int} (h:C5 Q x):C5 Q (x.s i v):=h.setF
theorem C5.pc {i:Int} (h:C5 Q x):C5 Q (x.pc i):=h.setF
theorem C5.m {m:Mac} (h:C5 Q x):C5 Q { x with m:=m }:=⟨h.a⟩
theorem Lo.rest {y:B9} (h:Lo x y) (r:C5 Q x):C5 Q y:=by
 induction h with
 | refl=>exact r
 | s _ ih=>exact ih.s
 | pc _ ih=>exact ih.pc
 | _=>rename_i ih;exact ⟨ih.a⟩
theorem C5.all {f:N6} (h:C5 Q x) (hf:Q f):E6 Q (x.setF f):=by
 constructor
 intro g hg
 have hg:g ∈ x.t.fr.dropLast ++ [f]:=hg
 rcases GR.1 hg with h1 | h1
 ·exact h.a g h1
 ·rw [Fq.1 h1];exact hf
theorem C5.allPc {i:Int} (h:C5 Q x) (hf:Q (x.f.at i)):E6 Q (x.pc i):=h.all hf
theorem C5.allS {i:Nat} {v:Int} (h:C5 Q x) (hf:Q (x.f.s i v)):E6 Q (x.s i v):=h.all hf
theorem C5.pop {r:List Int} (h:C5 Q x):E6 Q (x.pop r):=by
 constructor
 intro g hg
 have hg:g ∈ (x.t.pop r).fr:=hg
 unfold Thr.pop at hg
 split at hg
 ·rename_i e;rw [e] at hg;cases hg
 ·exact h.a g hg
theorem E6.push {i:Int} {r:List Int} (h:E6 Q x) (hf:Q ⟨i,0,Ax 10 r⟩):E6 Q (x.push i r):=by
 constructor
 intro g hg
 have hg:g ∈ x.t.fr ++ [⟨i,0,Ax 10 r⟩]:=hg
 rcases GR.1 hg with h1 | h1
 ·exact h.a g h1
 ·rw [Fq.1 h1];exact hf
theorem C5.call {i j:Int} {r:List Int} (h:C5 Q x) (hf:Q (x.f.at i)) (hg:Q ⟨j,0,Ax 10 r⟩):E6 Q (x.call i j r):=E6.push (h.allPc hf) hg
theorem C5.fin {i j k:Int} (h:C5 Q x) (hf:Q ((((x.f.s 7 i).s 8 j).s 9 k).at 90)) (hg:Q ⟨4,0,Ax 10 []⟩):E6 Q (x.fin i j k):=by
 unfold B9.fin
 refine C5.call (by exact t_rest) ?_ hg
 rw [Dw,Dw,Dw]
 exact hf
theorem E6.load {a:Int} (h:E6 Q x):E6 Q (x.load a).2:=⟨h.a⟩
theorem E6.store {a v:Int} (h:E6 Q x):E6 Q (x.store a v):=⟨h.a⟩
theorem E6.cas {a o n:Int} (h:E6 Q x):E6 Q (x.cas a o n).2:=⟨h.a⟩
theorem E6.add {a v:Int} (h:E6 Q x):E6 Q (x.add a v).2:=⟨h.a⟩
theorem E6.swing {a v w:Int} {b:Bool} (h:E6 Q x):E6 Q (x.swing a v w b).2:=⟨h.a⟩
theorem E6.swingA {a v w:Int} (h:E6 Q x):E6 Q (x.swingA a v w).2:=⟨h.a⟩
theorem E6.swingM {a v w:Int} {b:Bool} (h:E6 Q x):E6 Q (x.swingM a v w b).2:=⟨h.a⟩
theorem E6.drop1 {a:Int} (h:E6 Q x):E6 Q (x.drop1 a).2:=⟨h.a⟩
theorem E6.guard {a v:Int} (h:E6 Q x):E6 Q (x.guard a v):=⟨h.a⟩
theorem E6.gh {f:Gh->Gh} (h:E6 Q x):E6 Q (x.gh f):=⟨h.a⟩
theorem E6.fo {l:List Int} (h:E6 Q x):E6 Q (x.fo l):=⟨h.a⟩
theorem E6.re {l:List Int} (h:E6 Q x):E6 Q (x.re l):=⟨h.a⟩
theorem E6.setPl {p s w:List Int} (h:E6 Q x):E6 Q (x.setPl p s w):=⟨h.a⟩
theorem E6.m {m:Mac} (h:E6 Q x):E6 Q { x with m:=m }:=⟨h.a⟩
end
theorem R9 (f:N6) (i:Int):(f.at i).r.length=f.r.length:=rfl
theorem S0 (f:N6) (i:Nat) (v:Int):(f.s i v).r.length=f.r.length:=by unfold N6.s;simp
def Ag (sl th:Int) (f:N6):Prop:=f.r.length=10/\((f.fn=1\/f.fn=2\/f.fn=3)/\0<=f.pc/\f.pc<=2\/f.fn=4/\0<=f.pc/\f.pc<=sl\/f.fn=5/\f.pc=0\/f.fn=6/\0<=f.pc/\f.pc<=sl*th+1)
section
variable {Q:N6->Prop} {x:B9} {sl th:Int}
theorem Sw2 (hQ:∀f,Ag sl th f->Q f) (h:E6 Q x) (o:Ag sl th x.f) (e:x.f.fn=1):E6 Q (alloc x):=by
 have r:=h.rest
 obtain ⟨len,o2⟩:=o
 unfold alloc;dsimp only
 repeat' split
 all_goals (refine t_st ?_;first | with_reducible assumption | ((with_reducible first | apply C5.pop | apply C5.call | apply C5.allPc | apply C5.allS | apply C5.fin);exact t_rest))
 all_goals (refine hQ _ ?_;exact t_hz)
theorem VX (hQ:∀f,Ag sl th f->Q f) (h:E6 Q x) (o:Ag sl th x.f) (e:x.f.fn=2):E6 Q (AC x):=by
 have r:=h.rest
 obtain ⟨len,o2⟩:=o
 unfold AC;dsimp only
 repeat' split
 all_goals (refine t_st ?_;first | with_reducible assumption | ((with_reducible first | apply C5.pop | apply C5.call | apply C5.allPc | apply C5.allS | apply C5.fin);exact t_rest))
 all_goals (refine hQ _ ?_;exact t_hz)
theorem VY (hQ:∀f,Ag sl th f->Q f) (h:E6 Q x) (o:Ag sl th x.f) (e:x.f.fn=3):E6 Q (AE x):=by
 have r:=h.rest
 obtain ⟨len,o2⟩:=o
 unfold AE;dsimp only
 repeat' split
 all_goals (refine t_st ?_;first | with_reducible assumption | ((with_reducible first | apply C5.pop | apply C5.call | apply C5.allPc | apply C5.allS | apply C5.fin);exact t_rest))
 all_goals (refine hQ _ ?_;exact t_hz)
theorem SS0 (hQ:∀f,Ag sl th f->Q f) (h:E6 Q x) (hs:sl=x.m.p.slots) (o:Ag sl th x.f) (e:x.f.fn=4):E6 Q (JS x):=by
 have r:=h.rest
 obtain ⟨len,o2⟩:=o
 unfold JS;dsimp only
 repeat' split
 all_goals (refine t_st ?_;first | with_reducible assumption | ((with_reducible first | apply C5.pop | apply C5.call | apply C5.allPc | apply C5.allS | apply C5.fin);exact t_rest))
 all_goals (refine hQ _ ?_;exact t_hz)
theorem NW {fn:Int} {l:List Int} (h:1<=fn/\fn<=6) (hs:0<=sl) (ht:0<=sl*th):Ag sl th ⟨fn,0,Ax 10 l⟩:=by
 refine ⟨DT _ _,?_⟩
 dsimp only
 omega
theorem Zv (hQ:∀f,Ag sl th f->Q f) (h:E6 Q x) (hs:0<=sl) (ht:0<=sl*th):E6 Q (Ci x):=by
 have r:=h.rest
 unfold Ci;dsimp only
 split
 ·refine E6.push ?_ (hQ _ (NW (by omega) hs ht))
  (refine t_st ?_;first | with_reducible assumption | ((with_reducible first | apply C5.pop | apply C5.call | apply C5.allPc | apply C5.allS | apply C5.fin);exact t_rest))
 ·(refine t_st ?_;first | with_reducible assumption | ((with_reducible first | apply C5.pop | apply C5.call | apply C5.allPc | apply C5.allS | apply C5.fin);exact t_rest))
theorem Sw3 (hQ:∀f,Ag sl th f->Q f) (h:E6 Q x) {all:Int} (ha:all=sl*th) (h0:0<=all) (o:Ag sl th x.f) (e:x.f.fn=6):E6 Q (Cj x all):=by
 have r:=h.rest
 obtain ⟨len,o2⟩:=o
 unfold Cj
 split
 ·refine C5.allPc (by exact t_rest) (hQ _ ?_)
  show Ag sl th (x.f.at (x.f.pc+1))
  exact t_hz
 ·exact h
theorem Sw4 (hQ:∀f,Ag sl th f->Q f) (h:E6 Q x) (hs:0<=sl) (ht:0<=sl*th):E6 Q (GL x):=by
 have r:=h.rest
 unfold GL
 split
 ·(refine t_st ?_;first | with_reducible assumption | ((with_reducible first | apply C5.pop | apply C5.call | apply C5.allPc | apply C5.allS | apply C5.fin);exact t_rest))
 ·refine E6.push ?_ (hQ _ (NW (by omega) hs ht))
  exact h.fo
theorem SS1 (hQ:∀f,Ag sl th f->Q f) (h:E6 Q x) (hs:sl=x.m.p.slots) (ht:th=x.m.p.c.threads) (s0:0<=sl) (t0:0<=sl*th) (o:Ag sl th x.f) (e:x.f.fn=6):E6 Q (scan x):=by
 have hy:E6 Q (if x.f.pc=0 then x.fo [] else x)/\(if x.f.pc=0 then x.fo [] else x).f=x.f:=by
  split
  ·exact ⟨h.fo,rfl⟩
  ·exact ⟨h,rfl⟩
 unfold scan
 dsimp only
 generalize (if x.f.pc=0 then x.fo [] else x)=y at *
 obtain ⟨h2,ef⟩:=hy
 have r:=h2.rest
 rw [<- hs,<- ht]
 split
 ·rename_i c
  obtain ⟨len,o2⟩:=o
  refine C5.allPc (by exact t_rest) (hQ _ ?_)
  show Ag sl th (y.f.at (y.f.pc+1))
  rw [ef] at c ⊢
  exact t_hz
 ·rename_i c
  exact Sw4 hQ (Sw3 hQ h2 rfl t0 (by rw [ef];exact o) (by rw [ef];exact e)) s0 t0
theorem VZ (hQ:∀f,Ag sl th f->Q f) (h:E6 Q x) (o:Ag sl th x.f):E6 Q (AD x):=by
 have r:=h.rest
 unfold AD
 split
 ·exact h
 split
 ·exact Sw2 hQ h o (by assumption)
 split
 ·exact VX hQ h o (by assumption)
 ·(refine t_st ?_;first | with_reducible assumption | ((with_reducible first | apply C5.pop | apply C5.call | apply C5.allPc | apply C5.allS | apply C5.fin);exact t_rest))
theorem GA (hQ:∀f,Ag sl th f->Q f) (h:E6 Q x) (hs:sl=x.m.p.slots) (ht:th=x.m.p.c.threads) (s0:0<=sl) (t0:0<=sl*th) (o:Ag sl th x.f):E6 Q (V0 x):=by
 unfold V0
 split
 ·exact h
 split
 ·exact VY hQ h o (by assumption)
 split
 ·exact SS0 hQ h hs o (by assumption)
 split
 ·exact Zv hQ h s0 t0
 split
 ·exact SS1 hQ h hs ht s0 t0 o (by assumption)
 ·exact VZ hQ h o
end
end
section
open Mod
def fA (sl th fn pc:Int):Bool:=
 if fn=4 then decide (pc < sl) else if fn=5 then false else if fn=6 then decide (pc < sl*th)
 else if fn=10 then decide (pc=0) else if fn=14 then decide (pc≠1) else if fn=35 then decide (pc=0) else if fn=36 then decide (pc≠1)
 else decide (pc≠90)
def fW (fn pc:Int):Nat:=
 if fn=5 then 3 else if fn=6 then 2
 else if fn=20 then (if pc=0 then 2 else 1)
 else if fn=21 then (if pc=17 then 6 else if pc=8\/pc=1\/pc=12 then 3 else 2)
 else if fn=22\/fn=23 then (if pc=12 then 6 else if pc=1\/pc=7 then 3 else 2)
 else if fn=10 then (if pc=0 then 2 else 1)
 else if fn=11 then (if pc=6 then 6 else if pc=7\/pc=9 then 5 else if pc=8 then 4 else if pc=1\/pc=5\/pc=10\/pc=11\/pc=13\/pc=14 then 3 else 2)
 else if fn=12\/fn=13 then (if pc=6 then 6 else if pc=1 then 4 else if pc=0 then 3 else 2)
 else if fn=14 then (if pc=5\/pc=6 then 4 else if pc=0\/pc=1\/pc=4 then 3 else 2)
 else if fn=31 then (if pc=16 then 4 else if pc=1\/pc=7\/pc=11\/pc=12 then 3 else 2)
 else if fn=32\/fn=33 then (if pc=5 then 4 else if pc=2\/pc=6\/pc=12\/pc=13 then 3 else 2)
 else if fn=34 then (if pc=2\/pc=4 then 3 else 2)
 else if fn=35 then (if pc=2 then 6 else 2)
 else if fn=36 then (if pc=4 then 3 else 2)
 else 1
def fR (fn:Int):Nat:=if fn<=4 then 0 else if fn<=6 then 1 else if fn=10 then 2 else if fn=14\/fn=35 then 3 else 4
theorem S89 (fn:Int):fR fn<=4:=by
 unfold fR;repeat' split
 all_goals omega
theorem S51 {c:Prop} [Decidable c] {a b:Nat} (ha:1<=a/\a<=6) (hb:1<=b/\b<=6):1<=(if c then a else b)/\(if c then a else b)<=6:=by
 split
 ·exact ha
 ·exact hb
theorem NX (fn pc:Int):1<=fW fn pc/\fW fn pc<=6:=by
 unfold fW
 repeat' (first | with_reducible apply S51 | exact ⟨by decide,by decide⟩)
section
variable (sl th:Int)
def Qz:List N6->Nat
 | []=>0
 | f :: l=>fW f.fn f.pc+if fA sl th f.fn f.pc=true then 0 else Qz l
def onR (fn:Int):List N6->Prop
 | []=>True
 | f :: _=>fA sl th f.fn f.pc=true\/fR fn < fR f.fn
def Ps:List N6->Prop
 | []=>True
 | f :: l=>onR sl th f.fn l/\Ps l
theorem SS2:∀ {l:List N6} {fn:Int},onR sl th fn l->Ps sl th l->Qz sl th l<=6*(5 - fR fn)
 | [],_,_,_=>T4 _
 | f :: l,fn,h1,h2=>by
  unfold Qz
  have hw:=(NX f.fn f.pc).2
  have hr:=S89 fn
  have hr2:=S89 f.fn
  split
  ·omega
  ·rename_i c
   rcases h1 with h1 | h1
   ·exact absurd h1 c
   ·have ih:=SS2 h2.1 h2.2
    omega
def IG (x:B9):List N6:=x.t.fr.dropLast.reverse
def mu (x:B9):Nat:=Qz sl th x.t.fr.reverse
structure X4 (x:B9):Prop where
 a:Ps sl th x.t.fr.reverse
structure J4 (fn:Int) (l:List N6) (x:B9):Prop where
 f:x.f.fn=fn
 e:IG x=l
 o:onR sl th fn l
 a:Ps sl th l
end
section
variable {sl th:Int} {x y:B9} {fn:Int} {l:List N6}
theorem Ic (h:x.t.fr≠[]):x.t.fr.reverse=x.f :: IG x:=by
 conv=>lhs;rw [NC h]
 simp [IG,B9.f]
theorem X4.r (h:X4 sl th x) (hne:x.t.fr≠[]):J4 sl th x.f.fn (IG x) x:=by
 have h:=h.a
 rw [Ic hne] at h
 exact ⟨rfl,rfl,h.1,h.2⟩
theorem SS3 (x:B9) (f:N6):IG (x.setF f)=IG x:=by
 show (x.t.fr.dropLast ++ [f]).dropLast.reverse=_
 rw [Ta6 (by simp)]
 simp [IG]
theorem J4.setF {f:N6} (h:J4 sl th fn l x) (hf:f.fn=fn):J4 sl th fn l (x.setF f):=⟨by rw [Jn];exact hf,by rw [SS3];exact h.e,h.o,h.a⟩
theorem J4.s {i:Nat} {v:Int} (h:J4 sl th fn l x):J4 sl th fn l (x.s i v):=h.setF h.f
theorem J4.pc {i:Int} (h:J4 sl th fn l x):J4 sl th fn l (x.pc i):=h.setF h.f
theorem J4.gh {f:Gh->Gh} (h:J4 sl th fn l x):J4 sl th fn l (x.gh f):=⟨h.f,h.e,h.o,h.a⟩
theorem J4.fo {k:List Int} (h:J4 sl th fn l x):J4 sl th fn l (x.fo k):=⟨h.f,h.e,h.o,h.a⟩
theorem J4.re {k:List Int} (h:J4 sl th fn l x):J4 sl th fn l (x.re k):=⟨h.f,h.e,h.o,h.a⟩
theorem J4.all (h:J4 sl th fn l x) (hne:x.t.fr≠[]):X4 sl th x:=by
 constructor
 rw [Ic hne]
 exact ⟨by rw [h.f,h.e];exact h.o,by rw [h.e];exact h.a⟩
theorem BL (x:B9) (f:N6):(x.setF f).t.fr≠[]:=by
 show x.t.fr.dropLast ++ [f]≠[]
 simp
theorem Lo.adjR (h:Lo x y) (r:J4 sl th fn l x):J4 sl th fn l y:=by
 induction h with
 | refl=>exact r
 | s _ ih=>exact ih.s
 | pc _ ih=>exact ih.pc
 | _=>rename_i ih;exact ⟨ih.f,ih.e,ih.o,ih.a⟩
theorem Lo.ne (h:Lo x y) (r:x.t.fr≠[]):y.t.fr≠[]:=by
 induction h with
 | refl=>exact r
 | s _ ih=>exact BL _ _
 | pc _ ih=>exact BL _ _
 | _=>rename_i ih;exact ih
theorem J4.allPc {i:Int} (h:J4 sl th fn l x):X4 sl th (x.pc i):=h.pc.all (BL _ _)
theorem J4.allS {i:Nat} {v:Int} (h:J4 sl th fn l x):X4 sl th (x.s i v):=h.s.all (BL _ _)
theorem J4.pop {r:List Int} (h:J4 sl th fn l x):X4 sl th (x.pop r):=by
 constructor
 show Ps sl th (x.t.pop r).fr.reverse
 unfold Thr.pop
 split
 ·rename_i e;rw [e];trivial
 ·show Ps sl th (IG x)
  rw [h.e];exact h.a
theorem X4.push {i:Int} {r:List Int} (h:X4 sl th x) (ho:onR sl th i x.t.fr.reverse):X4 sl th (x.push i r):=by
 constructor
 show Ps sl th (x.t.fr ++ [(⟨i,0,Ax 10 r⟩ : N6)]).reverse
 rw [List.reverse_append]
 show Ps sl th (⟨i,0,Ax 10 r⟩ :: x.t.fr.reverse)
 exact ⟨ho,h.a⟩
theorem J4.call {i j:Int} {r:List Int} (h:J4 sl th fn l x) (hd:fA sl th fn i=true\/fR j < fR fn):X4 sl th (x.call i j r):=by
 refine X4.push h.allPc ?_
 rw [show (x.pc i).t.fr.reverse=(x.pc i).f :: IG (x.pc i) from Ic (BL _ _)]
 show fA sl th (x.pc i).f.fn (x.pc i).f.pc=true\/_ < fR (x.pc i).f.fn
 rw [Bx,AL,Cx,h.f]
 exact hd
theorem J4.fin {i j k:Int} (h:J4 sl th fn l x) (hd:fR 4 < fR fn):X4 sl th (x.fin i j k):=by
 unfold B9.fin
 exact (h.s.s.s).call (.inr hd)
structure Act (x:B9):Prop where
 a:x.m.acted=true
theorem BY (m:Mac) (a:Int):(m.touch a).acted=true:=by unfold Mac.touch;split <;> rfl
theorem Act.load {a:Int}:Act (x.load a).2:=by
 constructor
 show (x.m.load a).2.acted=true
 unfold Mac.load;dsimp only
 split <;> exact BY _ _
theorem Act.store {a v:Int}:Act (x.store a v):=by
 constructor
 show (x.m.store a v).acted=true
 unfold Mac.store;dsimp only
 split <;> exact BY _ _
theorem Act.cas {a o v:Int}:Act (x.cas a o v).2:=by
 constructor
 show (x.m.cas a o v).2.acted=true
 unfold Mac.cas;dsimp only
 split <;> exact BY _ _
theorem Act.add {a v:Int}:Act (x.add a v).2:=by
 constructor
 show (x.m.add a v).2.acted=true
 unfold Mac.add;dsimp only
 split <;> exact BY _ _
theorem Act.swing {a v w:Int} {b:Bool}:Act (x.swing a v w b).2:=Act.cas
theorem Act.swingA {a v w:Int}:Act (x.swingA a v w).2:=Act.cas
theorem Act.swingM {a v w:Int} {b:Bool}:Act (x.swingM a v w b).2:=Act.cas
theorem Act.drop1 {a:Int}:Act (x.drop1 a).2:=Act.add
theorem Act.guard {a b:Int}:Act (x.guard a b):=Act.store
theorem Act.dcas {a o n b p q:Int}:Act { x with m:=(x.m.dcas a o n b p q).2 }:=by
 constructor
 show (x.m.dcas a o n b p q).2.acted=true
 unfold Mac.dcas;dsimp only
 split <;> exact BY _ _
theorem Act.dcss {a o n b p:Int}:Act { x with m:=(x.m.dcss a o n b p).2 }:=by
 constructor
 show (x.m.dcss a o n b p).2.acted=true
 unfold Mac.dcss;dsimp only
 split <;> exact BY _ _
theorem Act.next {n:Int} (h:Act x):Act { x with m:=(x.m.next n).2 }:=by
 constructor
 show (x.m.next n).2.acted=true
 unfold Mac.next
 split <;> exact h.a
theorem Act.lvl {n:Int} (h:Act x):Act { x with m:=(x.m.lvl n).2 }:=by
 constructor
 show (x.m.lvl n).2.acted=true
 unfold Mac.lvl
 split <;> exact h.a
theorem CK.act (h:CK x):Act x:=by
 induction h with
 | load=>exact Act.load
 | store=>exact Act.store
 | cas=>exact Act.cas
 | add=>exact Act.add
 | swing=>exact Act.swing
 | swingA=>exact Act.swingA
 | swingM=>exact Act.swingM
 | drop1=>exact Act.drop1
 | guard=>exact Act.guard
 | dcas=>exact Act.dcas
 | dcss=>exact Act.dcss
 | next _ ih=>exact ih.next
 | lvl _ ih=>exact ih.lvl
 | _=>rename_i ih;exact ⟨ih.a⟩
theorem SS4 (h:x.t.fr≠[]):mu sl th x=fW x.f.fn x.f.pc+if fA sl th x.f.fn x.f.pc=true then 0 else Qz sl th (IG x):=by
 unfold mu
 rw [Ic h]
 rfl
theorem MC (x:B9) (i:Int) (r:List Int):mu sl th (x.push i r)=fW i 0+if fA sl th i 0=true then 0 else mu sl th x:=by
 unfold mu
 show Qz sl th (x.t.fr ++ [(⟨i,0,Ax 10 r⟩ : N6)]).reverse=_
 rw [List.reverse_append]
 rfl
theorem Zw (r:List Int) (h:x.t.fr≠[]):mu sl th (x.pop r)=Qz sl th (IG x):=by
 unfold mu
 show Qz sl th (x.t.pop r).fr.reverse=_
 unfold Thr.pop
 rw [A7 h]
 rfl
section
variable {x0:B9} {pc0:Int}
theorem J4.mu (h0:J4 sl th fn l x0) (hne:x0.t.fr≠[]) (hp:x0.f.pc=pc0):mu sl th x0=fW fn pc0+if fA sl th fn pc0=true then 0 else Qz sl th l:=by
 rw [SS4 hne,h0.f,h0.e,hp]
theorem J4.muPc (h:J4 sl th fn l y) (i:Int):Proofs.YtahpbclnkofhfaaGreat.mu sl th (y.pc i)=fW fn i+if fA sl th fn i=true then 0 else Qz sl th l:=
 h.pc.mu (BL _ _) (by rw [Bx];rfl)
theorem J4.ltPc {i:Int} (h0:J4 sl th fn l x0) (hne:x0.t.fr≠[]) (hp:x0.f.pc=pc0) (h:J4 sl th fn l y)
  (hlt:(fW fn i+if fA sl th fn i=true then 0 else Qz sl th l) < fW fn pc0+if fA sl th fn pc0=true then 0 else Qz sl th l):Proofs.YtahpbclnkofhfaaGreat.mu sl th (y.pc i) < Proofs.YtahpbclnkofhfaaGreat.mu sl th x0:=by
 rw [h0.mu hne hp,h.muPc]
 exact hlt
theorem J4.ltCall {i j:Int} {r:List Int} (h0:J4 sl th fn l x0) (hne:x0.t.fr≠[]) (hp:x0.f.pc=pc0) (h:J4 sl th fn l y)
  (hlt:(fW j 0+if fA sl th j 0=true then 0 else fW fn i+if fA sl th fn i=true then 0 else Qz sl th l) < fW fn pc0+if fA sl th fn pc0=true then 0 else Qz sl th l):Proofs.YtahpbclnkofhfaaGreat.mu sl th (y.call i j r) < Proofs.YtahpbclnkofhfaaGreat.mu sl th x0:=by
 show Proofs.YtahpbclnkofhfaaGreat.mu sl th ((y.pc i).push j r) < _
 rw [h0.mu hne hp,MC,h.muPc]
 exact hlt
theorem J4.ltFin {i j k:Int} (h0:J4 sl th fn l x0) (hne:x0.t.fr≠[]) (hp:x0.f.pc=pc0) (h:J4 sl th fn l y)
  (hlt:(fW 4 0+if fA sl th 4 0=true then 0 else fW fn 90+if fA sl th fn 90=true then 0 else Qz sl th l) < fW fn pc0+if fA sl th fn pc0=true then 0 else Qz sl th l):Proofs.YtahpbclnkofhfaaGreat.mu sl th (y.fin i j k) < Proofs.YtahpbclnkofhfaaGreat.mu sl th x0:=
 h0.ltCall hne hp (h.s.s.s) hlt
theorem J4.ltPop {r:List Int} (h0:J4 sl th fn l x0) (hne:x0.t.fr≠[]) (hp:x0.f.pc=pc0) (h:J4 sl th fn l y) (hny:y.t.fr≠[])
  (hlt:Qz sl th l < fW fn pc0+if fA sl th fn pc0=true then 0 else Qz sl th l):Proofs.YtahpbclnkofhfaaGreat.mu sl th (y.pop r) < Proofs.YtahpbclnkofhfaaGreat.mu sl th x0:=by
 rw [h0.mu hne hp,Zw r hny,h.e]
 exact hlt
end
def Nx (sl th:Int) (x y:B9):Prop:=X4 sl th y/\(Act y\/mu sl th y < mu sl th x)
end
end
section
open Mod
structure GO (Q:Mod.Cf->N6->Prop) (c:Mod.Cf) (x:B9) (B:Nat):Prop where
 p:x.m.p=E1 c
 q:E6 (Q c) x
 a:X4 (E1 c).slots c.threads x
 pr:(x.t.pred.length:Int)=c.level
 su:(x.t.succ.length:Int)=c.level
 wo:(x.t.word.length:Int)=c.level
 P:x.P<=B
structure Jq (d:B9->B9) (Q:Mod.Cf->N6->Prop) (W:B9->Prop) (ins:Int):Prop where
 st:∀x,St 12 x (d x)
 all:∀c x,GK c=true->x.m.p=E1 c->x.t.fr≠[]->E6 (Q c) x->E6 (Q c) (d x)
 nx:∀c x,GK c=true->x.m.p=E1 c->x.t.fr≠[]->E6 (Q c) x->X4 (E1 c).slots c.threads x->Nx (E1 c).slots c.threads x (d x)
 w:∀c x B,GK c=true->GO Q c x B->B < 200000000->x.t.fr≠[]->0<=x.id/\x.id<=6->W x
 new:∀c op l,GK c=true->0<=op/\op<=2->Q c ⟨ins+op,0,Ax 10 l⟩
section
variable {d:B9->B9} {Q:Mod.Cf->N6->Prop} {W:B9->Prop} {ins:Int} {c:Mod.Cf}
theorem GO.mono {x:B9} {B C:Nat} (h:GO Q c x B) (hb:B<=C):GO Q c x C:=⟨h.p,h.q,h.a,h.pr,h.su,h.wo,R4 h.P hb⟩
theorem GO.bit (D:Jq d Q W ins) (hc:GK c=true) {x:B9} {B:Nat} (h:GO Q c x B) (hne:x.t.fr≠[]):GO Q c (d x) (B+24)/\Nx (E1 c).slots c.threads x (d x):=by
 have s:=D.st x
 have f:=s.fix
 have n:=D.nx c x hc h.p hne h.q h.a
 have hP:=s.P
 have:=h.P
 exact ⟨⟨f.p.trans h.p,D.all c x hc h.p hne h.q,n.1,by rw [f.pr];exact h.pr,by rw [f.su];exact h.su,by rw [f.wo];exact h.wo,by omega⟩,n⟩
theorem Tj4 {sl th:Int} {x:B9} (h:X4 sl th x):mu sl th x<=36:=by
 by_cases hne:x.t.fr = []
 ·unfold mu
  rw [hne]
  exact T4 _
 ·rw [SS4 hne]
  have r:=h.r hne
  have h1:=SS2 sl th r.o r.a
  have h2:=(NX x.f.fn x.f.pc).2
  split <;> omega
theorem Wa (D:Jq d Q W ins) (hc:GK c=true):∀(n:Nat) (x:B9) (B:Nat),mu (E1 c).slots c.threads x<=n->GO Q c x B->B+24*(n+1) < 200000000->0<=x.id/\x.id<=6 ->
  ∃k z,Mod.bits d k x=some z/\Sq1 d W k x/\Fix x z/\GO Q c z (B+24*(n+1))
 | n,x,B,hm,h,hB,hid=>by
  by_cases c0:done x=true
  ·refine ⟨0,x,?_,trivial,⟨rfl,rfl,rfl,rfl,rfl,rfl,rfl,rfl⟩,h.mono (by omega)⟩
   unfold Mod.bits
   unfold done at c0
   rw [A8 c0]
  ·have hne:x.t.fr≠[]:=by
    intro e
    unfold done at c0
    rw [e] at c0
    simp at c0
   have hb:∀k,Mod.bits d (k+1) x=Mod.bits d k (d x):=by
    intro k
    unfold done at c0
    conv=>lhs;unfold Mod.bits
    rw [A7 c0]
   obtain ⟨h1,n1⟩:=h.bit D hc hne
   have hw:=D.w c x B hc h (by omega) hne hid
   have f:=(D.st x).fix
   rcases n1.2 with a | lt
   ·refine ⟨1,d x,?_,.inr ⟨hw,trivial⟩,f,h1.mono (by omega)⟩
    rw [hb]
    unfold Mod.bits
    rw [a.a]
    rfl
   ·cases n with
    | zero=>omega
    | succ n=>
     obtain ⟨k,z,e1,e2,e3,e4⟩:=Wa D hc n (d x) (B+24) (by omega) h1 (by omega) (by rw [f.id];exact hid)
     refine ⟨k+1,z,by rw [hb];exact e1,.inr ⟨hw,e2⟩,⟨e3.p.trans f.p,e3.id.trans f.id,e3.th.trans f.th,e3.b.trans f.b,e3.w.trans f.w,e3.pr.trans f.pr,e3.su.trans f.su,e3.wo.trans f.wo⟩,e4.mono (by omega)⟩
structure Tj5 (Q:Mod.Cf->N6->Prop) (c:Mod.Cf) (t:Thr):Prop where
 q:∀f ∈ t.fr,Q c f
 a:Ps (E1 c).slots c.threads t.fr.reverse
 pr:(t.pred.length:Int)=c.level
 su:(t.succ.length:Int)=c.level
 wo:(t.word.length:Int)=c.level
def Mod.Thr.L (t:Thr):Nat:=t.retired.length+t.found.length+max t.fr.length 1
def Kf (l:List Thr):Nat:=(l.map Mod.Thr.L).sum
theorem NY:∀ {l:List Thr} {k:Nat} {t t':Thr},l[k]? = some t->Kf (l.set k t')+t.L=Kf l+t'.L
 | [],_,_,_,h=>by simp at h
 | a :: l,0,t,t',h=>by
  simp only [Mh,Option.some.injEq] at h
  subst h
  simp only [Sd9,Kf,GY,List.sum_cons]
  omega
 | a :: l,k+1,t,t',h=>by
  simp only [QX] at h
  have ih:=NY (t':=t') h
  simp only [Tk,Kf,GY,List.sum_cons] at *
  omega
def Mod.Mac.T (m:Mac):Nat:=m.mm.st.toNat+m.used.toNat+Kf m.th
structure At (Q:Mod.Cf->N6->Prop) (c:Mod.Cf) (i:Nat) (m:Mac):Prop where
 ok:GK c=true
 p:m.p=E1 c
 w:(m.mm.w.length:Int)=(E1 c).size
 n:m.th.length<=6
 t:∀t ∈ m.th,Tj5 Q c t
 T:m.T<=1000*i+2000
theorem At.good (D:Jq d Q W ins):NO d W ins (At Q c) where
 mono i m h:=⟨h.ok,h.p,h.w,h.n,h.t,R4 h.T (by omega)⟩
 wd i m h:=by
  have B:=Cy h.ok
  have e:(m.mm.w.length:Int)=m.p.size:=by rw [h.p];exact h.w
  refine ⟨⟨by rw [h.p];rfl,e⟩,?_⟩
  have h1:=B.li
  have h2:=B.nd
  have h3:=B.tr
  have h4:=B.si
  rw [h.p] at e
  omega
 push i m k t cl h ht he ho hk hv:=by
  have hm:=OF ht
  have o:=h.t t hm
  refine ⟨h.ok,h.p,h.w,?_,?_,?_⟩
  ·show (m.th.set k _).length<=6
   rw [Ca];exact h.n
  ·intro u hu
   rcases S00 hu with hu | rfl
   ·exact h.t u hu
   ·refine ⟨?_,?_,o.pr,o.su,o.wo⟩
    ·intro f hf
     have hf:f ∈ t.fr ++ [⟨ins+cl.op,0,Ax 10 [cl.key,cl.val]⟩]:=hf
     rw [he] at hf
     rw [Fq.1 hf]
     exact D.new c cl.op _ h.ok ho
    ·show Ps _ _ (t.fr ++ [(⟨ins+cl.op,0,Ax 10 [cl.key,cl.val]⟩ : N6)]).reverse
     rw [he]
     exact ⟨trivial,trivial⟩
  ·have e:=NY (t':=t.push (ins+cl.op) [cl.key,cl.val]) ht
   have e2:(t.push (ins+cl.op) [cl.key,cl.val]).L=t.L:=by
    show t.retired.length+t.found.length+max (t.fr ++ [_]).length 1=t.retired.length+t.found.length+max t.fr.length 1
    rw [he]
    rfl
   have h2:m.mm.st.toNat+m.used.toNat+Kf m.th<=1000*i+2000:=h.T
   show m.mm.st.toNat+m.used.toNat+Kf (m.th.set k (t.push (ins+cl.op) [cl.key,cl.val]))<=_
   omega
 step i m k t h hi ht hne:=by
  have hm:=OF ht
  have o:=h.t t hm
  have hk:=(IW.1 ht).1
  have hn:=h.n
  have hL:1<=t.fr.length:=OE.2 hne
  have hT:m.mm.st.toNat+m.used.toNat+Kf m.th<=1000*i+2000:=h.T
  have e0:=λt'=>NY (t':=t') ht
  have e1:=e0 t
  have eT:t.L=t.retired.length+t.found.length+t.fr.length:=by
   unfold Mod.Thr.L
   rw [Nat.max_eq_left hL]
  have hs:Kf (m.th.set k ⟨[],[],[],[],[],[],[]⟩)+t.L=Kf m.th+1:=e0 _
  have hR:GO Q c ⟨m.quiet,t,k⟩ (m.mm.st.toNat+m.used.toNat+t.L):=by
   refine ⟨h.p,⟨o.q⟩,⟨o.a⟩,o.pr,o.su,o.wo,?_⟩
   show m.mm.st.toNat+m.used.toNat+t.retired.length+t.found.length+t.fr.length<=_
   omega
  obtain ⟨n,z,hb,hsf,f,hz⟩:=Wa D h.ok 36 _ _ (Tj4 hR.a) hR (by omega) ⟨by show (0:Int)<=(k:Int);omega,by show (k:Int)<=6;omega⟩
  refine ⟨n,z,hb,hsf,f.id,f.th,h.ok,?_,?_,?_,?_,?_⟩
  ·exact f.p.trans h.p
  ·show (z.m.mm.w.length:Int)=_
   rw [f.w]
   exact h.w
  ·show (m.th.set k z.t).length<=6
   rw [Ca];exact hn
  ·intro u hu
   rcases S00 hu with hu | rfl
   ·exact h.t u hu
   ·exact ⟨hz.q.a,hz.a.a,hz.pr,hz.su,hz.wo⟩
  ·have e2:=e0 z.t
   have hP:z.m.mm.st.toNat+z.m.used.toNat+z.t.retired.length+z.t.found.length+z.t.fr.length<=_:=hz.P
   have hz2:z.t.L<=z.t.retired.length+z.t.found.length+z.t.fr.length+1:=by
    unfold Mod.Thr.L
    have:max z.t.fr.length 1<=z.t.fr.length+1:=Nat.max_le.2 ⟨by omega,by omega⟩
    omega
   show z.m.mm.st.toNat+z.m.used.toNat+Kf (m.th.set k z.t)<=_
   omega
theorem FX (m:Mm) (a v:Int):(m.store a v).w.length=m.w.length/\(m.store a v).st.toNat<=m.st.toNat+1:=by
 unfold Mm.store
 split
 ·exact ⟨by simp [Mm.tick,Mm.put],by show (m.st+1).toNat<=_;omega⟩
 ·exact ⟨rfl,by omega⟩
theorem Jr (f:Nat->Int × Int):∀(l:List Nat) (m:Mm),(l.foldl (λ(m:Mm) (i:Nat)=>m.store (f i).1 (f i).2) m).w.length=m.w.length/\(l.foldl (λ(m:Mm) (i:Nat)=>m.store (f i).1 (f i).2) m).st.toNat<=m.st.toNat+l.length
 | [],m=>⟨rfl,by simp⟩
 | i :: l,m=>by
  have h1:=FX m (f i).1 (f i).2
  have h2:=Jr f l (m.store (f i).1 (f i).2)
  simp only [Te,Jy]
  exact ⟨h2.1.trans h1.1,by omega⟩
theorem S52 {c:Mod.Cf} (h:GK c=true):((lay (E1 c)).w.length:Int)=(E1 c).size/\(lay (E1 c)).st.toNat<=200:=by
 have B:=Cy h
 have b1:=B.no
 have b2:=B.lv
 have b3:=B.se
 have b4:=B.si
 have b5:=B.tr
 have b6:=B.nd
 have b7:=B.li
 unfold lay
 dsimp only
 generalize hm0:(⟨List.replicate (E1 c).size.toNat 0,0,false,[]⟩ : Mm)=m0
 have h0:(m0.w.length:Int)=(E1 c).size/\m0.st.toNat=0:=by
  subst hm0
  exact ⟨by simp;omega,rfl⟩
 have h1:=FX m0 0 (Z5 ((E1 c).sent+1) false 0)
 generalize m0.store 0 (Z5 ((E1 c).sent+1) false 0)=m1 at *
 have h2:=Jr (λi=>((E1 c).link ((E1 c).sent+1+i),(E1 c).sent+1+i+1)) (List.range ((E1 c).c.nodes - ((E1 c).sent+1)).toNat) m1
 rw [List.length_range] at h2
 generalize hm2:(List.range ((E1 c).c.nodes - ((E1 c).sent+1)).toNat).foldl (λ(m:Mm) (i:Nat)=>m.store ((E1 c).link ((E1 c).sent+1+i)) ((E1 c).sent+1+i+1)) m1=m2
 have h2:m2.w.length=m1.w.length/\m2.st.toNat<=m1.st.toNat+((E1 c).c.nodes - ((E1 c).sent+1)).toNat:=by subst hm2;exact h2
 have h3:=FX m2 2 1
 generalize m2.store 2 1=m3 at *
 split
 ·exact ⟨by omega,by omega⟩
 ·have h4:=FX m3 ((E1 c).node 1 3) (E1 c).c.level
  generalize m3.store ((E1 c).node 1 3) (E1 c).c.level=m4 at *
  have h5:=FX m4 ((E1 c).node 2 0) 18446744073709551615
  generalize m4.store ((E1 c).node 2 0) 18446744073709551615=m5 at *
  have h6:=Jr (λi=>((E1 c).node 1 (5+i),Z5 2 false 0)) (List.range (E1 c).c.level.toNat) m5
  rw [List.length_range] at h6
  dsimp only at h6
  exact ⟨by omega,by omega⟩
theorem Wb (c:Mod.Cf):∀n:Nat,Kf (List.replicate n (CT c))=n
 | 0=>rfl
 | n+1=>by
  have ih:=Wb c n
  simp only [List.replicate_succ,Kf,GY,List.sum_cons] at *
  have:(CT c).L=1:=rfl
  omega
theorem At.new (hc:GK c=true) (b:List Int) (g:Bool):At Q c 0 (L1 c b g):=by
 have hl:=S52 hc
 have B:=Cy hc
 have b1:1<=c.threads/\c.threads<=6:=B.th
 have b2:1<=c.level/\c.level<=6:=B.lv
 refine ⟨hc,rfl,hl.1,?_,?_,?_⟩
 ·show (List.replicate c.threads.toNat (CT c)).length<=6
  rw [SE2];omega
 ·intro t ht
  have ht:t ∈ List.replicate c.threads.toNat (CT c):=ht
  rw [(List.mem_replicate.1 ht).2]
  refine ⟨λf hf=>(by cases hf),trivial,?_,?_,?_⟩ <;> (show ((List.replicate c.level.toNat (0:Int)).length:Int)=c.level;rw [SE2];omega)
 ·show (lay (E1 c)).st.toNat+(0:Int).toNat+Kf (List.replicate c.threads.toNat (CT c))<=_
  rw [Wb]
  have:(0:Int).toNat=0:=rfl
  omega
end
end
section
open Mod
section
variable {x:B9} {sl th:Int}
theorem SS5 (hs:0 < sl) (hne:x.t.fr≠[]) (h:X4 sl th x) (e:x.f.fn=1):Nx sl th x (alloc x):=by
 have r:=h.r hne
 rw [e] at r
 unfold alloc;dsimp only
 repeat' split
 all_goals exact t_nx
theorem Zx (hs:0 < sl) (hne:x.t.fr≠[]) (h:X4 sl th x) (e:x.f.fn=2):Nx sl th x (AC x):=by
 have r:=h.r hne
 rw [e] at r
 unfold AC;dsimp only
 repeat' split
 all_goals exact t_nx
theorem Zy (hs:0 < sl) (hne:x.t.fr≠[]) (h:X4 sl th x) (e:x.f.fn=3):Nx sl th x (AE x):=by
 have r:=h.r hne
 rw [e] at r
 unfold AE;dsimp only
 repeat' split
 all_goals exact t_nx
theorem S53 (hsl:sl=x.m.p.slots) (hs:0 < sl) (hne:x.t.fr≠[]) (h:X4 sl th x) (e:x.f.fn=4):Nx sl th x (JS x):=by
 have r:=h.r hne
 rw [e] at r
 unfold JS;dsimp only
 split
 ·rename_i c
  refine ⟨by exact t_adj,.inr (J4.ltPop r hne rfl r hne ?_)⟩
  have c2:fA sl th 4 x.f.pc=false:=by simp [fA];omega
  rw [c2]
  simp [fW]
 ·exact t_nx
theorem S54 (y:B9) (r:List Int) (h:y.t.fr≠[]):(y.pop r).t.fr.reverse=IG y:=by
 show (y.t.pop r).fr.reverse=_
 unfold Thr.pop
 rw [A7 h]
 rfl
theorem Sw5 (ha:0 < sl*th) (hne:x.t.fr≠[]) (h:X4 sl th x) (e:x.f.fn=5):Nx sl th x (Ci x):=by
 have r:=h.r hne
 rw [e] at r
 unfold Ci;dsimp only
 generalize hz:((x.gh λg=>g.turn (G2 (x.f.g 0)) 1 2 2).re ((x.gh λg=>g.turn (G2 (x.f.g 0)) 1 2 2).t.retired ++ [G2 (x.f.g 0)]))=z
 have hzn:z.t.fr≠[]:=by subst hz;exact hne
 have rz:J4 sl th 5 (IG x) z:=by subst hz;exact r.gh.re
 have hm:mu sl th x=3+Qz sl th (IG x):=by
  rw [r.mu hne rfl]
  simp [fW,fA]
 have hp:(z.pop []).t.fr.reverse=IG x:=by rw [S54 _ _ hzn];exact rz.e
 split
 ·refine ⟨X4.push rz.pop ?_,.inr ?_⟩
  ·rw [hp]
   cases hl:IG x with
   | nil=>trivial
   | cons f l=>
    have o:=r.o
    rw [hl] at o
    exact o
  ·rw [MC,hm]
   simp [fW,fA,ha]
   omega
 ·refine ⟨rz.pop,.inr ?_⟩
  rw [Zw _ hzn,rz.e,hm]
  omega
theorem J4.push {fn i:Int} {l:List N6} {r:List Int} {y:B9} (h:J4 sl th fn l y) (hne:y.t.fr≠[]) (hd:fR i < fR fn):X4 sl th (y.push i r):=by
 refine X4.push (h.all hne) ?_
 rw [Ic hne]
 exact .inr (by rw [h.f];exact hd)
theorem S55 (hsl:sl=x.m.p.slots) (hth:th=x.m.p.c.threads) (hne:x.t.fr≠[]) (h:X4 sl th x) (e:x.f.fn=6):Nx sl th x (scan x):=by
 have r:=h.r hne
 rw [e] at r
 have h0:∀y:B9,y=(if x.f.pc=0 then x.fo [] else x)->J4 sl th 6 (IG x) y/\y.t.fr≠[]/\y.f.pc=x.f.pc:=by
  rintro y rfl
  split
  ·exact ⟨r.fo,hne,rfl⟩
  ·exact ⟨r,hne,rfl⟩
 unfold scan
 dsimp only
 generalize hy:(if x.f.pc=0 then x.fo [] else x)=y
 obtain ⟨ry,hny,hpc⟩:=h0 y hy.symm
 rw [<- hsl,<- hth]
 split
 ·exact ⟨by exact t_adj,.inl (by (focus (refine CK.act ?_;(with_reducible repeat' constructor))))⟩
 ·rename_i c
  have hm:mu sl th x=2+Qz sl th (IG x):=by
   rw [r.mu hne rfl]
   have c2:fA sl th 6 x.f.pc=false:=by simp [fA];omega
   rw [c2]
   simp [fW]
  have hA:J4 sl th 6 (IG x) (Cj y (sl*th))/\(Cj y (sl*th)).t.fr≠[]:=by
   unfold Cj
   split
   ·exact ⟨by exact t_adr,BL _ _⟩
   ·exact ⟨ry,hny⟩
  generalize Cj y (sl*th)=z at *
  obtain ⟨rz,hzn⟩:=hA
  unfold GL
  split
  ·refine ⟨rz.pop,.inr ?_⟩
   rw [Zw _ hzn,rz.e,hm]
   omega
  ·rename_i n rest e2
   refine ⟨J4.push (l:=IG x) (fn:=6) (by exact t_adr) hzn (by decide),.inr ?_⟩
   rw [MC,hm]
   simp [fW,fA]
   omega
theorem Zz (hs:0 < sl) (hne:x.t.fr≠[]) (h:X4 sl th x) (e:x.f.fn=1\/x.f.fn=2):Nx sl th x (AD x):=by
 unfold AD
 rw [A7 hne]
 rcases e with e | e
 ·rw [A8 e];exact SS5 hs hne h e
 ·rw [A7 (by omega),A8 e];exact Zx hs hne h e
theorem Ie (hsl:sl=x.m.p.slots) (hth:th=x.m.p.c.threads) (hs:0 < sl) (ha:0 < sl*th) (hne:x.t.fr≠[]) (h:X4 sl th x) (e:1<=x.f.fn/\x.f.fn<=6):Nx sl th x (V0 x):=by
 unfold V0
 rw [A7 hne]
 by_cases e3:x.f.fn=3
 ·rw [A8 e3];exact Zy hs hne h e3
 rw [A7 e3]
 by_cases e4:x.f.fn=4
 ·rw [A8 e4];exact S53 hsl hs hne h e4
 rw [A7 e4]
 by_cases e5:x.f.fn=5
 ·rw [A8 e5];exact Sw5 ha hne h e5
 rw [A7 e5]
 by_cases e6:x.f.fn=6
 ·rw [A8 e6];exact S55 hsl hth hne h e6
 rw [A7 e6]
 exact Zz hs hne h (by omega)
end
end
section
open Mod
theorem Si5 (c:Int):∀(k i:Nat),(i:Int)<=Xq c k i/\Xq c k i<=i+k/\(1<=k->(i:Int)+1<=Xq c k i)
 | 0,i=>by unfold Xq;omega
 | k+1,i=>by
  have ih:=Si5 c k (i+1)
  unfold Xq
  split <;> omega
theorem S56 (m:Mac) {n:Int} (h:1<=n):1<=(m.lvl n).1/\(m.lvl n).1<=n:=by
 unfold Mac.lvl
 rw [A7 (by omega)]
 have:=Si5 m.take.1 n.toNat 0
 show 1<=Xq m.take.1 n.toNat 0/\Xq m.take.1 n.toNat 0<=n
 omega
def N7 (L sl th:Int) (f:N6):Prop:=Ag sl th f\/f.r.length=10/\(f.fn=21/\(0<=f.pc/\f.pc<=17\/f.pc=90)/\(3<=f.pc->f.pc<=14->1<=f.g 3/\f.g 3<=L)/\(f.pc=9\/f.pc=10\/f.pc=13\/f.pc=14->0<=f.g 5/\f.g 5 < f.g 3)/\(f.pc=12->0<=f.g 5) \/
 (f.fn=22\/f.fn=23)/\(0<=f.pc/\f.pc<=13\/f.pc=90)\/f.fn=20/\0<=f.pc/\f.pc<=8/\(f.pc≠0->0<=G2 (f.g 1)/\G2 (f.g 1) < L))
theorem CA {L sl th fn:Int} {l:List Int} (h:1<=fn/\fn<=6\/20<=fn/\fn<=23) (hs:0<=sl) (ht:0<=sl*th):N7 L sl th ⟨fn,0,Ax 10 l⟩:=by
 by_cases c:fn<=6
 ·exact .inl (NW (by omega) hs ht)
 ·refine .inr ⟨DT _ _,?_⟩
  dsimp only
  omega
theorem NZ {L sl th:Int} {f:N6} (h:N7 L sl th f) (e:f.fn=21):f.r.length=10/\(0<=f.pc/\f.pc<=17\/f.pc=90)/\(3<=f.pc->f.pc<=14->1<=f.g 3/\f.g 3<=L)/\(f.pc=9\/f.pc=10\/f.pc=13\/f.pc=14->0<=f.g 5/\f.g 5 < f.g 3)/\(f.pc=12->0<=f.g 5):=by
 unfold N7 Ag at h
 rcases h with ⟨h0,h1⟩ | ⟨h0,h1⟩
 ·exact ⟨h0,by omega,by omega,by omega,by omega⟩
 ·refine ⟨h0,?_⟩
  rcases h1 with h1 | h1 | h1
  ·exact h1.2
  ·omega
  ·omega
theorem Si6 {L sl th:Int} {f:N6} (h:N7 L sl th f) (e:f.fn=22\/f.fn=23):f.r.length=10/\(0<=f.pc/\f.pc<=13\/f.pc=90):=by
 unfold N7 Ag at h
 rcases h with ⟨h0,h1⟩ | ⟨h0,h1⟩
 ·exact ⟨h0,by omega⟩
 ·refine ⟨h0,?_⟩
  rcases h1 with h1 | h1 | h1
  ·omega
  ·exact h1.2
  ·omega
theorem SS6 {L sl th:Int} {f:N6} (h:N7 L sl th f) (e:f.fn=20):f.r.length=10/\0<=f.pc/\f.pc<=8/\(f.pc≠0->0<=G2 (f.g 1)/\G2 (f.g 1) < L):=by
 unfold N7 Ag at h
 rcases h with ⟨h0,h1⟩ | ⟨h0,h1⟩
 ·exact ⟨h0,by omega,by omega,by omega⟩
 ·refine ⟨h0,?_⟩
  rcases h1 with h1 | h1 | h1
  ·omega
  ·omega
  ·exact h1.2
theorem Tj6 {L sl th:Int} {f:N6} (h:N7 L sl th f) (e:¬ (20<=f.fn/\f.fn<=23)):Ag sl th f:=by
 unfold N7 at h
 rcases h with h | ⟨_,h⟩
 ·exact h
 ·omega
section
variable {x:B9} {L sl th:Int}
theorem Dd (x:B9) (a:Int):(x.drop1 a).2.f=x.f:=rfl
theorem BG (x:B9) (a b c:Int):(x.swingA a b c).2.f=x.f:=rfl
theorem Wc (h:E6 (N7 L sl th) x) (hL:L=x.m.p.c.level) (hl:1<=L/\L<=6) (s0:0<=sl) (t0:0<=sl*th) (o:N7 L sl th x.f) (e:x.f.fn=21):E6 (N7 L sl th) (AH x):=by
 have r:=h.rest
 obtain ⟨len,o1,o2,o3,o4⟩:=NZ o e
 unfold AH;dsimp only
 repeat' split
 all_goals (refine t_st ?_;first | with_reducible assumption | ((with_reducible first | apply C5.pop | apply C5.call | apply C5.allPc | apply C5.allS | apply C5.fin);exact t_rest))
 ·exact t_su
 ·exact CA (by omega) s0 t0
 ·exact t_su
 ·exact t_su
 ·exact CA (by omega) s0 t0
 ·exact t_su
 ·exact CA (by omega) s0 t0
theorem Sw6 (h:E6 (N7 L sl th) x) (hL:L=x.m.p.c.level) (hl:1<=L/\L<=6) (s0:0<=sl) (t0:0<=sl*th) (o:N7 L sl th x.f) (e:x.f.fn=21) (hp:3<=x.f.pc/\x.f.pc<=7):E6 (N7 L sl th) (FO x):=by
 have r:=h.rest
 obtain ⟨len,o1,o2,o3,o4⟩:=NZ o e
 have u5:0<=Mod.u64 (x.f.g 5+1):=by unfold Mod.u64;omega
 unfold FO;dsimp only
 repeat' split
 all_goals (refine t_st ?_;first | with_reducible assumption | ((with_reducible first | apply C5.pop | apply C5.call | apply C5.allPc | apply C5.allS | apply C5.fin);exact t_rest))
 all_goals first | exact CA (by omega) s0 t0 | exact t_su
theorem Wd (h:E6 (N7 L sl th) x) (hL:L=x.m.p.c.level) (hl:1<=L/\L<=6) (s0:0<=sl) (t0:0<=sl*th) (o:N7 L sl th x.f) (e:x.f.fn=21) (hp:12<=x.f.pc/\x.f.pc<=14):E6 (N7 L sl th) (AG x):=by
 have r:=h.rest
 obtain ⟨len,o1,o2,o3,o4⟩:=NZ o e
 have u5:0<=Mod.u64 (x.f.g 5+1):=by unfold Mod.u64;omega
 unfold AG;dsimp only
 repeat' split
 all_goals (refine t_st ?_;first | with_reducible assumption | ((with_reducible first | apply C5.pop | apply C5.call | apply C5.allPc | apply C5.allS | apply C5.fin);exact t_rest))
 all_goals first | exact CA (by omega) s0 t0 | exact t_su
theorem We (h:E6 (N7 L sl th) x) (hL:L=x.m.p.c.level) (hl:1<=L/\L<=6) (s0:0<=sl) (t0:0<=sl*th) (o:N7 L sl th x.f) (e:x.f.fn=21) (hp:8<=x.f.pc/\x.f.pc<=11):E6 (N7 L sl th) (AF x):=by
 have r:=h.rest
 obtain ⟨len,o1,o2,o3,o4⟩:=NZ o e
 have u5:0<=Mod.u64 (x.f.g 5+1):=by unfold Mod.u64;omega
 have g3:=o2 (by omega) (by omega)
 unfold AF;dsimp only
 repeat' split
 all_goals (refine t_st ?_;first | with_reducible assumption | ((with_reducible first | apply C5.pop | apply C5.call | apply C5.allPc | apply C5.allS | apply C5.fin);exact t_rest))
 all_goals first | exact CA (by omega) s0 t0 | exact t_su | skip
 rw [Dw]
 have e3:((x.f.s 5 0).at 9).g 3=x.f.g 3:=by rw [Dx,L9 _ (by decide)]
 have e5:((x.f.s 5 0).at 9).g 5=0:=by rw [Dx,Ht len (by decide)]
 refine .inr ⟨by rw [R9,S0];exact len,.inl ⟨e,.inl ⟨by rw [Cx];omega,by rw [Cx];omega⟩,λ_ _=>by rw [e3];exact g3,λ_=>by rw [e3,e5];omega,λ_=>by rw [e5];omega⟩⟩
theorem Si7 {f:N6} (len:f.r.length=10) (e:f.fn=22\/f.fn=23) (hp:0<=f.pc/\f.pc<=13\/f.pc=90):N7 L sl th f:=.inr ⟨len,.inr (.inl ⟨e,hp⟩)⟩
theorem ZA (h:E6 (N7 L sl th) x) (s0:0<=sl) (t0:0<=sl*th) (o:N7 L sl th x.f) (e:x.f.fn=22\/x.f.fn=23):E6 (N7 L sl th) (AW x):=by
 have r:=h.rest
 obtain ⟨len,o1⟩:=Si6 o e
 unfold AW Br;dsimp only
 repeat' split
 all_goals (refine t_st ?_;first | with_reducible assumption | ((with_reducible first | apply C5.pop | apply C5.call | apply C5.allPc | apply C5.allS | apply C5.fin);exact t_rest))
 all_goals first | exact CA (by omega) s0 t0 | exact t_sr9 | exact t_sr
theorem ZC (h:E6 (N7 L sl th) x) (s0:0<=sl) (t0:0<=sl*th) (o:N7 L sl th x.f) (e:x.f.fn=22\/x.f.fn=23):E6 (N7 L sl th) (AX x):=by
 have r:=h.rest
 obtain ⟨len,o1⟩:=Si6 o e
 unfold AX;dsimp only
 repeat' split
 all_goals (refine t_st ?_;first | with_reducible assumption | ((with_reducible first | apply C5.pop | apply C5.call | apply C5.allPc | apply C5.allS | apply C5.fin);exact t_rest))
 all_goals first | exact CA (by omega) s0 t0 | exact t_sr9 | exact t_sr
theorem ZD (h:E6 (N7 L sl th) x) (s0:0<=sl) (t0:0<=sl*th) (o:N7 L sl th x.f) (e:x.f.fn=22\/x.f.fn=23):E6 (N7 L sl th) (AY x):=by
 have r:=h.rest
 obtain ⟨len,o1⟩:=Si6 o e
 unfold AY;dsimp only
 repeat' split
 all_goals (refine t_st ?_;first | with_reducible assumption | ((with_reducible first | apply C5.pop | apply C5.call | apply C5.allPc | apply C5.allS | apply C5.fin);exact t_rest))
 all_goals first | exact CA (by omega) s0 t0 | exact t_sr9 | exact t_sr
theorem Wf (h:E6 (N7 L sl th) x) (s0:0<=sl) (t0:0<=sl*th) (o:N7 L sl th x.f) (e:x.f.fn=22\/x.f.fn=23):E6 (N7 L sl th) (Y6 x):=by
 have r:=h.rest
 obtain ⟨len,o1⟩:=Si6 o e
 unfold Y6 Br;dsimp only
 repeat' split
 all_goals (refine t_st ?_;first | with_reducible assumption | ((with_reducible first | apply C5.pop | apply C5.call | apply C5.allPc | apply C5.allS | apply C5.fin);exact t_rest))
 all_goals first | exact CA (by omega) s0 t0 | exact t_sr9 | exact t_sr
end
end
section
set_option maxHeartbeats 1000000
open Mod
section
variable {x:B9} {L sl th:Int}
theorem LS {y:B9} {l:List N6} (r:J4 sl th 20 l y):X4 sl th (Y5 y):=by
 unfold Y5;dsimp only
 split
 all_goals exact t_adj
theorem QA {y:B9} {l:List N6} {w:Int} (r:J4 sl th 20 l y):X4 sl th (CH y w):=by
 unfold CH;dsimp only
 repeat' split
 ·exact t_adj
 ·exact LS (l:=l) (by exact t_adr)
 ·exact t_adj
theorem LU {y:B9} (h:CK y):CK (Y5 y):=by
 unfold Y5;dsimp only
 split
 all_goals (with_reducible repeat' (first | assumption | constructor))
theorem QC {y:B9} {w:Int} (h:CK y):CK (CH y w):=by
 unfold CH;dsimp only
 repeat' split
 ·with_reducible repeat' (first | assumption | constructor)
 ·exact LU (by with_reducible repeat' (first | assumption | constructor))
 ·with_reducible repeat' (first | assumption | constructor)
theorem SS7 (hs:0 < sl) (hne:x.t.fr≠[]) (h:X4 sl th x) (e:x.f.fn=20) (hp:3<=x.f.pc/\x.f.pc<=7):Nx sl th x (Fb x):=by
 have r:=h.r hne
 rw [e] at r
 unfold Fb;dsimp only
 repeat' split
 all_goals first
  | exact ⟨QA (l:=IG x) (by exact t_adr),.inl (CK.act (QC (by (with_reducible repeat' constructor))))⟩
  | exact ⟨LS (l:=IG x) (by exact t_adr),.inl (CK.act (LU (by (with_reducible repeat' constructor))))⟩
  | exact t_nx
  | omega
theorem SS8 (hs:0 < sl) (hne:x.t.fr≠[]) (h:X4 sl th x) (e:x.f.fn=20) (hp:0<=x.f.pc/\x.f.pc<=8):Nx sl th x (Fc x):=by
 have r:=h.r hne
 rw [e] at r
 unfold Fc;dsimp only
 repeat' split
 all_goals first
  | exact SS7 hs hne h e (by omega)
  | exact ⟨QA (l:=IG x) (by exact t_adr),.inl (CK.act (QC (by (with_reducible repeat' constructor))))⟩
  | exact t_nx
theorem Sw7 (hsl:sl=x.m.p.slots) (hth:th=x.m.p.c.threads) (hs:0 < sl) (ha:0 < sl*th) (hne:x.t.fr≠[]) (h:X4 sl th x) (e:1<=x.f.fn/\x.f.fn<=6\/x.f.fn=20/\0<=x.f.pc/\x.f.pc<=8):Nx sl th x (Ck x):=by
 unfold Ck
 rw [A7 hne]
 by_cases c:x.f.fn=20
 ·rw [A8 c];exact SS8 hs hne h c (by omega)
 ·rw [A7 c];exact Ie hsl hth hs ha hne h (by omega)
theorem Sw8 (hs:0 < sl) (ha:0 < sl*th) (hne:x.t.fr≠[]) (h:X4 sl th x) (e:x.f.fn=21) (hp:0<=x.f.pc/\x.f.pc<=2):Nx sl th x (Cm x):=by
 have r:=h.r hne
 rw [e] at r
 unfold Cm;dsimp only
 repeat' split
 all_goals first | exact t_nxS | omega
theorem SS9 (hs:0 < sl) (hne:x.t.fr≠[]) (h:X4 sl th x) (e:x.f.fn=21) (hp:3<=x.f.pc/\x.f.pc<=7):Nx sl th x (FO x):=by
 have r:=h.r hne
 rw [e] at r
 unfold FO;dsimp only
 repeat' split
 all_goals first | exact t_nx | omega
theorem ZE (hs:0 < sl) (hne:x.t.fr≠[]) (h:X4 sl th x) (e:x.f.fn=21) (hp:8<=x.f.pc/\x.f.pc<=11):Nx sl th x (AF x):=by
 have r:=h.r hne
 rw [e] at r
 unfold AF;dsimp only
 repeat' split
 all_goals first | exact t_nx | omega
theorem ZF (hs:0 < sl) (hne:x.t.fr≠[]) (h:X4 sl th x) (e:x.f.fn=21) (hp:12<=x.f.pc/\x.f.pc<=14):Nx sl th x (AG x):=by
 have r:=h.r hne
 rw [e] at r
 unfold AG;dsimp only
 repeat' split
 all_goals first | exact t_nx | omega
theorem ZG (hs:0 < sl) (hne:x.t.fr≠[]) (h:X4 sl th x) (e:x.f.fn=21) (hp:15<=x.f.pc/\x.f.pc<=17):Nx sl th x (AH x):=by
 have r:=h.r hne
 rw [e] at r
 unfold AH;dsimp only
 repeat' split
 ·exact t_nx
 ·exact t_nx
 ·exact t_nx
 ·have e9:x.f.pc=16:=by omega
  exact t_nx
theorem Sw9 (hs:0 < sl) (ha:0 < sl*th) (hne:x.t.fr≠[]) (h:X4 sl th x) (e:x.f.fn=21) (hp:0<=x.f.pc/\x.f.pc<=17):Nx sl th x (Cn x):=by
 unfold Cn
 repeat' split
 ·exact Sw8 hs ha hne h e (by omega)
 ·exact SS9 hs hne h e (by omega)
 ·exact ZE hs hne h e (by omega)
 ·exact ZF hs hne h e (by omega)
 ·exact ZG hs hne h e (by omega)
theorem Wg (hs:0 < sl) (hne:x.t.fr≠[]) (h:X4 sl th x) (e:x.f.fn=22) (hp:0<=x.f.pc/\x.f.pc<=3):Nx sl th x (AW x):=by
 have r:=h.r hne
 rw [e] at r
 unfold AW Br;dsimp only
 repeat' split
 all_goals first | exact t_nx | omega
theorem Wh (hs:0 < sl) (hne:x.t.fr≠[]) (h:X4 sl th x) (e:x.f.fn=23) (hp:0<=x.f.pc/\x.f.pc<=3):Nx sl th x (AW x):=by
 have r:=h.r hne
 rw [e] at r
 unfold AW Br;dsimp only
 repeat' split
 all_goals first | exact t_nx | omega
theorem Sx0 (hs:0 < sl) (hne:x.t.fr≠[]) (h:X4 sl th x) (e:x.f.fn=22\/x.f.fn=23) (hp:0<=x.f.pc/\x.f.pc<=3):Nx sl th x (AW x):=by
 rcases e with e | e
 ·exact Wg hs hne h e hp
 ·exact Wh hs hne h e hp
theorem Wi (hs:0 < sl) (hne:x.t.fr≠[]) (h:X4 sl th x) (e:x.f.fn=22) (hp:4<=x.f.pc/\x.f.pc<=6):Nx sl th x (AX x):=by
 have r:=h.r hne
 rw [e] at r
 unfold AX;dsimp only
 repeat' split
 all_goals first | exact t_nx | omega
theorem Wj (hs:0 < sl) (hne:x.t.fr≠[]) (h:X4 sl th x) (e:x.f.fn=23) (hp:4<=x.f.pc/\x.f.pc<=6):Nx sl th x (AX x):=by
 have r:=h.r hne
 rw [e] at r
 unfold AX;dsimp only
 repeat' split
 all_goals first | exact t_nx | omega
theorem Sx1 (hs:0 < sl) (hne:x.t.fr≠[]) (h:X4 sl th x) (e:x.f.fn=22\/x.f.fn=23) (hp:4<=x.f.pc/\x.f.pc<=6):Nx sl th x (AX x):=by
 rcases e with e | e
 ·exact Wi hs hne h e hp
 ·exact Wj hs hne h e hp
theorem Wk (hs:0 < sl) (hne:x.t.fr≠[]) (h:X4 sl th x) (e:x.f.fn=22) (hp:7<=x.f.pc/\x.f.pc<=8):Nx sl th x (AY x):=by
 have r:=h.r hne
 rw [e] at r
 unfold AY;dsimp only
 repeat' split
 all_goals first | exact t_nx | omega
theorem Wl (hs:0 < sl) (hne:x.t.fr≠[]) (h:X4 sl th x) (e:x.f.fn=23) (hp:7<=x.f.pc/\x.f.pc<=8):Nx sl th x (AY x):=by
 have r:=h.r hne
 rw [e] at r
 unfold AY;dsimp only
 repeat' split
 all_goals first | exact t_nx | omega
theorem Sx2 (hs:0 < sl) (hne:x.t.fr≠[]) (h:X4 sl th x) (e:x.f.fn=22\/x.f.fn=23) (hp:7<=x.f.pc/\x.f.pc<=8):Nx sl th x (AY x):=by
 rcases e with e | e
 ·exact Wk hs hne h e hp
 ·exact Wl hs hne h e hp
theorem Sy (hs:0 < sl) (hne:x.t.fr≠[]) (h:X4 sl th x) (e:x.f.fn=22) (hp:9<=x.f.pc/\x.f.pc<=13):Nx sl th x (Y6 x):=by
 have r:=h.r hne
 rw [e] at r
 unfold Y6 Br;dsimp only
 repeat' split
 ·exact t_nx
 ·exact t_nx
 ·exact t_nx
 ·exact t_nx
 ·exact t_nx
 ·have e9:x.f.pc=13:=by omega
  exact t_nx
theorem Sz (hs:0 < sl) (hne:x.t.fr≠[]) (h:X4 sl th x) (e:x.f.fn=23) (hp:9<=x.f.pc/\x.f.pc<=13):Nx sl th x (Y6 x):=by
 have r:=h.r hne
 rw [e] at r
 unfold Y6 Br;dsimp only
 repeat' split
 ·exact t_nx
 ·exact t_nx
 ·exact t_nx
 ·exact t_nx
 ·exact t_nx
 ·have e9:x.f.pc=13:=by omega
  exact t_nx
theorem ZH (hs:0 < sl) (hne:x.t.fr≠[]) (h:X4 sl th x) (e:x.f.fn=22\/x.f.fn=23) (hp:9<=x.f.pc/\x.f.pc<=13):Nx sl th x (Y6 x):=by
 rcases e with e | e
 ·exact Sy hs hne h e hp
 ·exact Sz hs hne h e hp
theorem Sx3 (hs:0 < sl) (hne:x.t.fr≠[]) (h:X4 sl th x) (e:x.f.fn=22\/x.f.fn=23) (hp:0<=x.f.pc/\x.f.pc<=13):Nx sl th x (Co x):=by
 unfold Co
 repeat' split
 ·exact Sx0 hs hne h e (by omega)
 ·exact Sx1 hs hne h e (by omega)
 ·exact Sx2 hs hne h e (by omega)
 ·exact ZH hs hne h e (by omega)
theorem Tf7 {f:N6} (o:N7 L sl th f) (hs:0 < sl):(1<=f.fn/\f.fn<=6\/f.fn=20/\0<=f.pc/\f.pc<=8)\/f.fn=21/\(0<=f.pc/\f.pc<=17\/f.pc=90)\/(f.fn=22\/f.fn=23)/\(0<=f.pc/\f.pc<=13\/f.pc=90):=by
 unfold N7 Ag at o
 omega
theorem SA (hsl:sl=x.m.p.slots) (hth:th=x.m.p.c.threads) (hs:0 < sl) (ha:0 < sl*th) (hne:x.t.fr≠[]) (h:X4 sl th x) (o:N7 L sl th x.f):Nx sl th x (S3 x):=by
 have o1:=Tf7 o hs
 have r:=h.r hne
 unfold S3
 rw [A7 hne]
 dsimp only
 split
 ·exact Sw7 hsl hth hs ha hne h (by omega)
 split
 ·rename_i c c9
  refine ⟨r.pop,.inr (J4.ltPop r hne c9 r hne ?_)⟩
  have c2:fA sl th x.f.fn 90=false:=by
   have:x.f.fn=21\/x.f.fn=22\/x.f.fn=23:=by omega
   rcases this with e | e | e <;> rw [e] <;> simp [fA]
  rw [c2]
  have:=(NX x.f.fn 90).1
  simp
  omega
 split
 ·exact Sw9 hs ha hne h (by assumption) (by omega)
 ·exact Sx3 hs hne h (by omega) (by omega)
end
end
section
open Mod
theorem Si8 {n L:Int} (h:0<=G2 n/\G2 n < L) (hn:(G2 n).toNat≠0) (hL:L<=6):0<=G2 (Mod.u64 (n - 1))/\G2 (Mod.u64 (n - 1)) < L:=by
 unfold G2 Mod.u64 at *
 repeat' split
 all_goals (split at h <;> split at hn <;> omega)
theorem Si9 {L:Int} (hL:1<=L/\L<=6):0<=G2 (Mod.u64 (L - 1))/\G2 (Mod.u64 (L - 1)) < L:=by
 unfold G2 Mod.u64
 split <;> omega
section
variable {x:B9} {L sl th:Int}
theorem Kg {f:N6} (len:f.r.length=10) (e:f.fn=20) (hp:0<=f.pc/\f.pc<=8) (hg:0<=G2 (f.g 1)/\G2 (f.g 1) < L):N7 L sl th f:=.inr ⟨len,.inr (.inr ⟨e,hp.1,hp.2,λ_=>hg⟩)⟩
structure S90 (L:Int) (f:N6):Prop where
 len:f.r.length=10
 fn:f.fn=20
 g:0<=G2 (f.g 1)/\G2 (f.g 1) < L
theorem LV {y:B9} (hL:L<=6) (r:C5 (N7 L sl th) y) (o:S90 L y.f):E6 (N7 L sl th) (Y5 y):=by
 obtain ⟨len,e,g⟩:=o
 unfold Y5;dsimp only
 split
 ·(refine t_st ?_;first | with_reducible assumption | ((with_reducible first | apply C5.pop | apply C5.call | apply C5.allPc | apply C5.allS | apply C5.fin);exact t_rest))
 ·rename_i c
  (refine t_st ?_;first | with_reducible assumption | ((with_reducible first | apply C5.pop | apply C5.call | apply C5.allPc | apply C5.allS | apply C5.fin);exact t_rest))
  rw [Dw]
  refine Kg (by simp only [R9,S0];assumption) (by simp only [AL,Er];assumption) ⟨by show (0:Int)<=1;omega,by show (1:Int)<=8;omega⟩ ?_
  have e1:(((y.setPl (y.t.pred.set (G2 (y.f.g 1)).toNat (y.f.g 2)) (y.t.succ.set (G2 (y.f.g 1)).toNat (J5 (y.f.g 3))) (y.t.word.set (G2 (y.f.g 1)).toNat (y.f.g 3))).f.s 1 (Mod.u64 (y.f.g 1 - 1))).at 1).g 1=Mod.u64 (y.f.g 1 - 1):=by
   rw [Dx]
   exact Ht (show (y.f).r.length=10 from len) (by decide) _
  rw [e1]
  exact Si8 g c hL
theorem QD {y:B9} {w:Int} (hL:L<=6) (r:C5 (N7 L sl th) y) (o:S90 L y.f):E6 (N7 L sl th) (CH y w):=by
 obtain ⟨len,e,g⟩:=o
 have g2:((y.f.s 3 w)).g 1=y.f.g 1:=L9 _ (by decide) _
 unfold CH;dsimp only
 repeat' split
 ·(refine t_st ?_;first | with_reducible assumption | ((with_reducible first | apply C5.pop | apply C5.call | apply C5.allPc | apply C5.allS | apply C5.fin);exact t_rest))
  rw [Dw]
  exact Kg (by simp only [R9,S0];assumption) (by simp only [AL,Er];assumption) ⟨by show (0:Int)<=8;omega,by show (8:Int)<=8;omega⟩ (by rw [Dx,g2];exact g)
 ·exact LV hL (by exact t_rest) ⟨by rw [Dw,S0];exact len,by rw [Dw];exact e,by rw [Dw,g2];exact g⟩
 ·(refine t_st ?_;first | with_reducible assumption | ((with_reducible first | apply C5.pop | apply C5.call | apply C5.allPc | apply C5.allS | apply C5.fin);exact t_rest))
  rw [Dw]
  exact Kg (by simp only [R9,S0];assumption) (by simp only [AL,Er];assumption) ⟨by show (0:Int)<=3;omega,by show (3:Int)<=8;omega⟩ (by rw [Dx,g2];exact g)
theorem Sx4 (hL:L<=6) (h:E6 (N7 L sl th) x) (o:N7 L sl th x.f) (e:x.f.fn=20) (hp:x.f.pc≠0):E6 (N7 L sl th) (Fb x):=by
 have r:=h.rest
 obtain ⟨len,o1,o2,o3⟩:=SS6 o e
 have g:=o3 hp
 unfold Fb;dsimp only
 repeat' split
 all_goals first
  | exact QD hL (by exact t_rest) ⟨len,e,g⟩
  | exact LV hL (by exact t_rest) ⟨len,e,g⟩
  | skip
 all_goals (refine t_st ?_;first | with_reducible assumption | ((with_reducible first | apply C5.pop | apply C5.call | apply C5.allPc | apply C5.allS | apply C5.fin);exact t_rest))
 all_goals exact t_sf
theorem Sx5 (hL:1<=L/\L<=6) (hl:L=x.m.p.c.level) (h:E6 (N7 L sl th) x) (o:N7 L sl th x.f) (e:x.f.fn=20):E6 (N7 L sl th) (Fc x):=by
 have r:=h.rest
 obtain ⟨len,o1,o2,o3⟩:=SS6 o e
 unfold Fc;dsimp only
 split
 ·(refine t_st ?_;first | with_reducible assumption | ((with_reducible first | apply C5.pop | apply C5.call | apply C5.allPc | apply C5.allS | apply C5.fin);exact t_rest))
  rw [Dw,Dw]
  refine Kg (by simp only [R9,S0];assumption) (by simp only [AL,Er];assumption) ⟨by show (0:Int)<=1;omega,by show (1:Int)<=8;omega⟩ ?_
  rw [Dx,Ht (by rw [S0];exact len) (by decide),<- hl]
  exact Si9 hL
 rename_i c
 have g:=o3 c
 repeat' split
 all_goals first
  | exact Sx4 hL.2 h o e c
  | exact QD hL.2 (by exact t_rest) ⟨len,e,g⟩
  | skip
 all_goals (refine t_st ?_;first | with_reducible assumption | ((with_reducible first | apply C5.pop | apply C5.call | apply C5.allPc | apply C5.allS | apply C5.fin);exact t_rest))
 ·exact t_sf
 ·refine .inr ⟨by rw [R9];exact len,.inr (.inr ⟨e,by show (0:Int)<=0;omega,by show (0:Int)<=8;omega,λhh=>absurd rfl hh⟩)⟩
theorem ZI (hL:1<=L/\L<=6) (hl:L=x.m.p.c.level) (hs:sl=x.m.p.slots) (ht:th=x.m.p.c.threads) (s0:0<=sl) (t0:0<=sl*th) (h:E6 (N7 L sl th) x) (o:N7 L sl th x.f) (e:¬ (21<=x.f.fn/\x.f.fn<=23)):E6 (N7 L sl th) (Ck x):=by
 unfold Ck
 split
 ·exact h
 split
 ·exact Sx5 hL hl h o (by assumption)
 ·exact GA (λf hf=>.inl hf) h hs ht s0 t0 (Tj6 o (by omega))
theorem Wm (m:Mac) (hl:1<=L/\L<=6):1<=Mod.u64 (m.lvl L).1/\Mod.u64 (m.lvl L).1<=L:=by
 have:=S56 m hl.1
 unfold Mod.u64
 omega
theorem ZJ (h:E6 (N7 L sl th) x) (hL:L=x.m.p.c.level) (hl:1<=L/\L<=6) (s0:0<=sl) (t0:0<=sl*th) (o:N7 L sl th x.f) (e:x.f.fn=21) (hp:0<=x.f.pc/\x.f.pc<=2):E6 (N7 L sl th) (Cm x):=by
 have r:=h.rest
 obtain ⟨len,o1,o2,o3,o4⟩:=NZ o e
 unfold Cm;dsimp only
 repeat' split
 ·(refine t_st ?_;first | with_reducible assumption | ((with_reducible first | apply C5.pop | apply C5.call | apply C5.allPc | apply C5.allS | apply C5.fin);exact t_rest))
  ·exact t_su
  ·exact CA (by omega) s0 t0
 ·(refine t_st ?_;first | with_reducible assumption | ((with_reducible first | apply C5.pop | apply C5.call | apply C5.allPc | apply C5.allS | apply C5.fin);exact t_rest))
  exact t_su
 ·(refine t_st ?_;first | with_reducible assumption | ((with_reducible first | apply C5.pop | apply C5.call | apply C5.allPc | apply C5.allS | apply C5.fin);exact t_rest))
  ·exact t_su
  ·exact CA (by omega) s0 t0
 ·(refine t_st ?_;first | with_reducible assumption | ((with_reducible first | apply C5.pop | apply C5.call | apply C5.allPc | apply C5.allS | apply C5.fin);exact t_rest))
  ·exact t_su
  ·exact CA (by omega) s0 t0
 ·refine C5.allPc (C5.s (C5.m (by exact t_rest))) ?_
  rw [Dw]
  have ef:∀m:Mac,(⟨m,((x.add 3 1).2.s 4 (S5 (u32 (x.f.g 0)) (u32 (x.add 3 1).1))).t,((x.add 3 1).2.s 4 (S5 (u32 (x.f.g 0)) (u32 (x.add 3 1).1))).id⟩ : B9).f=x.f.s 4 (S5 (u32 (x.f.g 0)) (u32 (x.add 3 1).1)):=λm=>by
   show ((x.add 3 1).2.s 4 (S5 (u32 (x.f.g 0)) (u32 (x.add 3 1).1))).f=_
   rw [Dw]
   rfl
  rw [ef]
  have hv:=Wm ((x.add 3 1).2.s 4 (S5 (u32 (x.f.g 0)) (u32 (x.add 3 1).1))).m hl
  have ep:((x.add 3 1).2.s 4 (S5 (u32 (x.f.g 0)) (u32 (x.add 3 1).1))).m.p.c.level=L:=by rw [hL];exact GG (λp:Pl=>p.c.level) (St.fix (St.s (St.add (St.refl x)):St 2 x ((x.add 3 1).2.s 4 (S5 (u32 (x.f.g 0)) (u32 (x.add 3 1).1))))).p
  rw [ep]
  generalize Mod.u64 (((x.add 3 1).2.s 4 (S5 (u32 (x.f.g 0)) (u32 (x.add 3 1).1))).m.lvl L).1=v at *
  refine .inr ⟨by simp only [R9,S0];exact len,.inl ⟨e,.inl ⟨by show (0:Int)<=3;omega,by show (3:Int)<=17;omega⟩,λ_ _=>?_,λhh=>?_,λhh=>?_⟩⟩
  ·rw [Dx,Ht (by rw [S0];exact len) (by decide)]
   exact hv
  ·simp only [Cx] at hh;omega
  ·simp only [Cx] at hh;omega
 ·exact h
theorem ZK (h:E6 (N7 L sl th) x) (hL:L=x.m.p.c.level) (hl:1<=L/\L<=6) (s0:0<=sl) (t0:0<=sl*th) (o:N7 L sl th x.f) (e:x.f.fn=21) (h9:x.f.pc≠90):E6 (N7 L sl th) (Cn x):=by
 obtain ⟨len,o1,o2,o3,o4⟩:=NZ o e
 unfold Cn
 repeat' split
 ·exact ZJ h hL hl s0 t0 o e (by omega)
 ·exact Sw6 h hL hl s0 t0 o e (by omega)
 ·exact We h hL hl s0 t0 o e (by omega)
 ·exact Wd h hL hl s0 t0 o e (by omega)
 ·exact Wc h hL hl s0 t0 o e
theorem ZL (h:E6 (N7 L sl th) x) (s0:0<=sl) (t0:0<=sl*th) (o:N7 L sl th x.f) (e:x.f.fn=22\/x.f.fn=23):E6 (N7 L sl th) (Co x):=by
 unfold Co
 repeat' split
 ·exact ZA h s0 t0 o e
 ·exact ZC h s0 t0 o e
 ·exact ZD h s0 t0 o e
 ·exact Wf h s0 t0 o e
theorem Pt (h:E6 (N7 L sl th) x) (hL:L=x.m.p.c.level) (hl:1<=L/\L<=6) (hs:sl=x.m.p.slots) (ht:th=x.m.p.c.threads) (s0:0<=sl) (t0:0<=sl*th) (hne:x.t.fr≠[]):E6 (N7 L sl th) (S3 x):=by
 have r:=h.rest
 have o:=h.top hne
 unfold S3
 rw [A7 hne]
 dsimp only
 split
 ·exact ZI hl hL hs ht s0 t0 h o (by omega)
 split
 ·(refine t_st ?_;first | with_reducible assumption | ((with_reducible first | apply C5.pop | apply C5.call | apply C5.allPc | apply C5.allS | apply C5.fin);exact t_rest))
 split
 ·exact ZK h hL hl s0 t0 o (by assumption) (by assumption)
 ·exact ZL h s0 t0 o (by omega)
end
end
section
open Mod
theorem Dz {c:Mod.Cf} (h:GK c=true):0 < (E1 c).slots/\0 < (E1 c).slots*c.threads/\(E1 c).slots*c.threads<=84/\(E1 c).slots<=14/\1<=c.level/\c.level<=6:=by
 have B:=Cy h
 have h1:2<=(E1 c).slots/\(E1 c).slots<=14:=B.sl
 have h2:1<=c.threads/\c.threads<=6:=B.th
 have h3:1<=c.level/\c.level<=6:=B.lv
 refine ⟨by omega,Int.mul_pos (by omega) (by omega),?_,h1.2,h3.1,h3.2⟩
 exact Int.le_trans (OA h1.2 h2.2 (by omega) (by omega)) (by decide)
theorem GO.ok {Q:Mod.Cf->N6->Prop} {c:Mod.Cf} {x:B9} {B:Nat} (h:GO Q c x B) (hB:B < 200000000) (hid:0<=x.id/\x.id<=6) (hp:0<=x.f.pc/\x.f.pc<=100):Ok x:=by
 have hP:x.m.mm.st.toNat+x.m.used.toNat+x.t.retired.length+x.t.found.length+x.t.fr.length<=B:=h.P
 exact ⟨by omega,by omega,by omega,by omega,by omega,⟨by omega,by omega⟩,hp⟩
theorem ST0 {sl th:Int} {f:N6} (h:Ag sl th f) (h1:0<=sl/\sl<=14) (h2:sl*th<=84):0<=f.pc/\f.pc<=100:=by
 unfold Ag at h
 omega
def SuQ (c:Mod.Cf) (f:N6):Prop:=N7 c.level (E1 c).slots c.threads f
def SuW (x:B9):Prop:=Ok x/\FOk x/\(x.f.fn=21->Te3 x)
theorem SC:Jq S3 SuQ SuW 21 where
 st:=Sw
 all c x hc hp hne h:=by
  obtain ⟨a1,a2,a3,a4,a5,a6⟩:=Dz hc
  exact Pt h (by rw [hp];rfl) ⟨a5,a6⟩ (by rw [hp]) (by rw [hp];rfl) (by omega) (by omega) hne
 nx c x hc hp hne h a:=by
  obtain ⟨a1,a2,a3,a4,a5,a6⟩:=Dz hc
  exact SA (by rw [hp]) (by rw [hp];rfl) a1 a2 hne a (h.top hne)
 w c x B hc h hB hne hid:=by
  obtain ⟨a1,a2,a3,a4,a5,a6⟩:=Dz hc
  have o:N7 c.level (E1 c).slots c.threads x.f:=h.q.top hne
  have hpr:=h.pr
  have hsu:=h.su
  have hwo:=h.wo
  refine ⟨h.ok hB hid ?_,λe hp=>?_,λe=>?_⟩
  ·rcases o with o | ⟨_,o⟩
   ·exact ST0 o ⟨by omega,a4⟩ a3
   ·omega
  ·obtain ⟨len,o1,o2,o3⟩:=SS6 o e
   have g:=o3 hp
   exact ⟨⟨g.1,by omega⟩,by omega,by omega,by omega⟩
  ·obtain ⟨len,o1,o2,o3,o4⟩:=NZ o e
   refine ⟨⟨by omega,by omega,by omega,by omega⟩,λe2=>?_,λe2=>?_,λe2 e3=>?_⟩
   ·have g1:=o2 (by omega) (by omega)
    have g2:=o3 (by omega)
    omega
   ·have g1:=o2 (by omega) (by omega)
    omega
   ·have g1:=o2 (by omega) (by omega)
    have g2:=o3 (by omega)
    omega
 new c op l hc ho:=by
  obtain ⟨a1,a2,a3,a4,a5,a6⟩:=Dz hc
  exact CA (by omega) (by omega) (by omega)
theorem Wn:DoC 64 S3 SuW:=λh M T tv x R K H hw k=>NM H hw.1 hw.2.1 hw.2.2 k
end
section
open Mod
theorem f_m (x:B9) (m:Mac):({ x with m:=m }:B9).f=x.f:=rfl
theorem GB (x:B9) (a b c:Int) (d:Bool):(x.swing a b c d).2.f=x.f:=rfl
theorem Ey (x:B9) (a b c:Int) (d:Bool):(x.swingM a b c d).2.f=x.f:=rfl
theorem GC (x:B9) (a b:Int):(x.guard a b).f=x.f:=rfl
def Au (sl th:Int) (f:N6):Prop:=Ag sl th f\/f.r.length=10/\(f.fn=10/\0<=f.pc/\f.pc<=1\/f.fn=11/\(0<=f.pc/\f.pc<=14\/f.pc=90)\/(f.fn=12\/f.fn=13)/\(0<=f.pc/\f.pc<=7\/f.pc=90)\/f.fn=14/\0<=f.pc/\f.pc<=7)
theorem Ez {sl th fn:Int} {l:List Int} (h:1<=fn/\fn<=6\/10<=fn/\fn<=14) (hs:0<=sl) (ht:0<=sl*th):Au sl th ⟨fn,0,Ax 10 l⟩:=by
 by_cases c:fn<=6
 ·exact .inl (NW (by omega) hs ht)
 ·refine .inr ⟨DT _ _,?_⟩
  dsimp only
  omega
theorem Tj7 {sl th:Int} {f:N6} (h:Au sl th f) (e:¬ (10<=f.fn/\f.fn<=14)):Ag sl th f:=by
 unfold Au at h
 rcases h with h | ⟨_,h⟩
 ·exact h
 ·omega
theorem Sj0 {sl th:Int} {f:N6} (h:Au sl th f) (e:10<=f.fn/\f.fn<=14):f.r.length=10/\(f.fn=10/\0<=f.pc/\f.pc<=1\/f.fn=11/\(0<=f.pc/\f.pc<=14\/f.pc=90)\/(f.fn=12\/f.fn=13)/\(0<=f.pc/\f.pc<=7\/f.pc=90)\/f.fn=14/\0<=f.pc/\f.pc<=7):=by
 unfold Au Ag at h
 rcases h with h | h
 ·omega
 ·exact h
section
variable {x:B9} {sl th:Int}
theorem Sx6 (h:E6 (Au sl th) x) (s0:0<=sl) (t0:0<=sl*th) (len:x.f.r.length=10) (e:x.f.fn=10):E6 (Au sl th) (EV x):=by
 have r:=h.rest
 unfold EV;dsimp only
 repeat' split
 all_goals (refine t_st ?_;first | with_reducible assumption | ((with_reducible first | apply C5.pop | apply C5.call | apply C5.allPc | apply C5.allS | apply C5.fin);exact t_rest))
 all_goals first | (with_reducible apply Ez;omega;assumption;assumption) | exact t_mo
theorem Sx7 (h:E6 (Au sl th) x) (s0:0<=sl) (t0:0<=sl*th) (len:x.f.r.length=10) (e:x.f.fn=11):E6 (Au sl th) (EW x):=by
 have r:=h.rest
 unfold EW;dsimp only
 repeat' split
 all_goals (refine t_st ?_;first | with_reducible assumption | ((with_reducible first | apply C5.pop | apply C5.call | apply C5.allPc | apply C5.allS | apply C5.fin);exact t_rest))
 all_goals first | (with_reducible apply Ez;omega;assumption;assumption) | exact t_mo
theorem SE (h:E6 (Au sl th) x) (s0:0<=sl) (t0:0<=sl*th) (len:x.f.r.length=10) (e:x.f.fn=11):E6 (Au sl th) (Y4 x):=by
 have r:=h.rest
 unfold Y4 FN;dsimp only
 split
 ·refine C5.allPc (C5.s (C5.m (by exact t_rest))) ?_
  exact t_mo
 repeat' split
 all_goals first | (refine E6.push ?_ (Ez (by omega) s0 t0)) | skip
 all_goals (refine t_st ?_;first | with_reducible assumption | ((with_reducible first | apply C5.pop | apply C5.call | apply C5.allPc | apply C5.allS | apply C5.fin);exact t_rest))
 all_goals first | (with_reducible apply Ez;omega;assumption;assumption) | exact t_mo
theorem Sx8 (h:E6 (Au sl th) x) (s0:0<=sl) (t0:0<=sl*th) (len:x.f.r.length=10) (e:x.f.fn=11):E6 (Au sl th) (EX x):=by
 have r:=h.rest
 unfold EX FN;dsimp only
 repeat' split
 all_goals (refine t_st ?_;first | with_reducible assumption | ((with_reducible first | apply C5.pop | apply C5.call | apply C5.allPc | apply C5.allS | apply C5.fin);exact t_rest))
 all_goals first | (with_reducible apply Ez;omega;assumption;assumption) | exact t_mo
theorem ST1 (h:E6 (Au sl th) x) (s0:0<=sl) (t0:0<=sl*th) (len:x.f.r.length=10) (e:x.f.fn=11):E6 (Au sl th) (JU x):=by
 have r:=h.rest
 unfold JU IQ;dsimp only
 repeat' split
 all_goals (refine t_st ?_;first | with_reducible assumption | ((with_reducible first | apply C5.pop | apply C5.call | apply C5.allPc | apply C5.allS | apply C5.fin);exact t_rest))
 all_goals first | (with_reducible apply Ez;omega;assumption;assumption) | with_reducible exact C5.m r | exact t_mo
theorem Sx9 (h:E6 (Au sl th) x) (s0:0<=sl) (t0:0<=sl*th) (len:x.f.r.length=10) (e:x.f.fn=11):E6 (Au sl th) (EY x):=by
 unfold EY
 repeat' split
 ·exact Sx7 h s0 t0 len e
 ·exact SE h s0 t0 len e
 ·exact Sx8 h s0 t0 len e
 ·exact ST1 h s0 t0 len e
theorem Sy0 (h:E6 (Au sl th) x) (s0:0<=sl) (t0:0<=sl*th) (len:x.f.r.length=10) (e:x.f.fn=12\/x.f.fn=13):E6 (Au sl th) (DF x):=by
 have r:=h.rest
 unfold DF;dsimp only
 repeat' split
 all_goals (refine t_st ?_;first | with_reducible assumption | ((with_reducible first | apply C5.pop | apply C5.call | apply C5.allPc | apply C5.allS | apply C5.fin);exact t_rest))
 all_goals first | (with_reducible apply Ez;omega;assumption;assumption) | exact t_mo
theorem Sy1 (h:E6 (Au sl th) x) (s0:0<=sl) (t0:0<=sl*th) (len:x.f.r.length=10) (e:x.f.fn=12\/x.f.fn=13):E6 (Au sl th) (DG x):=by
 have r:=h.rest
 unfold DG;dsimp only
 repeat' split
 all_goals first | exact Sy0 h s0 t0 len e | skip
 all_goals (refine t_st ?_;first | with_reducible assumption | ((with_reducible first | apply C5.pop | apply C5.call | apply C5.allPc | apply C5.allS | apply C5.fin);exact t_rest))
 all_goals first | (with_reducible apply Ez;omega;assumption;assumption) | exact t_mo
theorem QE (h:E6 (Au sl th) x) (len:x.f.r.length=10) (e:x.f.fn=14):E6 (Au sl th) (En x):=by
 have r:=h.rest
 unfold En;dsimp only
 repeat' split
 all_goals (refine t_st ?_;first | with_reducible assumption | ((with_reducible first | apply C5.pop | apply C5.call | apply C5.allPc | apply C5.allS | apply C5.fin);exact t_rest))
 all_goals exact t_mo
theorem Sy2 (h:E6 (Au sl th) x) (s0:0<=sl) (t0:0<=sl*th) (len:x.f.r.length=10) (e:x.f.fn=14):E6 (Au sl th) (EZ x):=by
 have r:=h.rest
 unfold EZ;dsimp only
 repeat' split
 all_goals first | exact QE h len e | skip
 all_goals (refine t_st ?_;first | with_reducible assumption | ((with_reducible first | apply C5.pop | apply C5.call | apply C5.allPc | apply C5.allS | apply C5.fin);exact t_rest))
 all_goals first | (with_reducible apply Ez;omega;assumption;assumption) | exact t_mo
theorem Sy3 {i:Nat} {p:Int} (h:E6 (Au sl th) x) (len:x.f.r.length=10) (e:x.f.fn=14):E6 (Au sl th) (Eo x i p):=by
 have r:=h.rest
 unfold Eo;dsimp only
 split
 ·refine C5.allS (C5.m (by exact t_rest)) ?_
  exact t_mo
 ·refine E6.m ?_
  (refine t_st ?_;first | with_reducible assumption | ((with_reducible first | apply C5.pop | apply C5.call | apply C5.allPc | apply C5.allS | apply C5.fin);exact t_rest))
  exact t_mo
theorem Sy4 (h:E6 (Au sl th) x) (s0:0<=sl) (t0:0<=sl*th) (len:x.f.r.length=10) (e:x.f.fn=14):E6 (Au sl th) (Fa x):=by
 have r:=h.rest
 unfold Fa Af;dsimp only
 repeat' split
 all_goals first | exact Sy2 h s0 t0 len e | exact Sy3 h len e | exact QE h len e | skip
 all_goals (refine t_st ?_;first | with_reducible assumption | ((with_reducible first | apply C5.pop | apply C5.call | apply C5.allPc | apply C5.allS | apply C5.fin);exact t_rest))
 all_goals first | (with_reducible apply Ez;omega;assumption;assumption) | exact t_mo
theorem Wo (h:E6 (Au sl th) x) (hs:sl=x.m.p.slots) (ht:th=x.m.p.c.threads) (s0:0<=sl) (t0:0<=sl*th) (hne:x.t.fr≠[]):E6 (Au sl th) (Z9 x):=by
 have r:=h.rest
 have o:=h.top hne
 unfold Z9
 rw [A7 hne]
 dsimp only
 split
 ·(refine t_st ?_;first | with_reducible assumption | ((with_reducible first | apply C5.pop | apply C5.call | apply C5.allPc | apply C5.allS | apply C5.fin);exact t_rest))
 split
 ·exact Sx6 h s0 t0 (Sj0 o (by omega)).1 (by assumption)
 split
 ·exact Sx9 h s0 t0 (Sj0 o (by omega)).1 (by assumption)
 split
 ·exact Sy1 h s0 t0 (Sj0 o (by omega)).1 (by assumption)
 split
 ·exact Sy4 h s0 t0 (Sj0 o (by omega)).1 (by assumption)
 ·exact GA (λf hf=>.inl hf) h hs ht s0 t0 (Tj7 o (by omega))
theorem ST2 (hs:0 < sl) (ha:0 < sl*th) (hne:x.t.fr≠[]) (h:X4 sl th x) (e:x.f.fn=10) (hp:0<=x.f.pc/\x.f.pc<=1):Nx sl th x (EV x):=by
 have r:=h.r hne
 rw [e] at r
 unfold EV;dsimp only
 split
 ·exact t_nx
 have e1:x.f.pc=1:=by omega
 split
 all_goals exact t_nx
theorem ST3 (hs:0 < sl) (ha:0 < sl*th) (hne:x.t.fr≠[]) (h:X4 sl th x) (e:x.f.fn=11) (hp:0<=x.f.pc/\x.f.pc<=3):Nx sl th x (EW x):=by
 have r:=h.r hne
 rw [e] at r
 unfold EW;dsimp only
 repeat' split
 all_goals exact t_nxS
theorem Wp (hs:0 < sl) (ha:0 < sl*th) (hne:x.t.fr≠[]) (h:X4 sl th x) (e:x.f.fn=11) (hp:4<=x.f.pc/\x.f.pc<=7):Nx sl th x (Y4 x):=by
 have r:=h.r hne
 rw [e] at r
 unfold Y4 FN;dsimp only
 split
 ·exact t_nxS
 split
 ·exact t_nx
 split
 ·split
  ·exact t_nx
  ·split
   all_goals exact t_nx
 have e1:x.f.pc=7:=by omega
 split
 ·have ra:J4 sl th 4 (((((x.s 7 1).s 8 0).s 9 0).pc 90).f :: IG x) (x.fin 1 0 0):=by
   have h1:X4 sl th (((((x.s 7 1).s 8 0).s 9 0).pc 90)):=(r.s.s.s).allPc
   have h2:=h1.a
   rw [show (((((x.s 7 1).s 8 0).s 9 0).pc 90)).t.fr.reverse=(((((x.s 7 1).s 8 0).s 9 0).pc 90)).f :: IG (((((x.s 7 1).s 8 0).s 9 0).pc 90)) from Ic (BL _ _)] at h2
   have er:IG ((((x.s 7 1).s 8 0).s 9 0).pc 90)=IG x:=(r.s.s.s).pc.e
   have er2:IG (x.fin 1 0 0)=(((((x.s 7 1).s 8 0).s 9 0).pc 90).f :: IG x):=by
    show ((((((x.s 7 1).s 8 0).s 9 0).pc 90).t.fr ++ [(⟨4,0,Ax 10 []⟩ : N6)]).dropLast).reverse=_
    rw [List.dropLast_concat,show (((((x.s 7 1).s 8 0).s 9 0).pc 90)).t.fr.reverse=(((((x.s 7 1).s 8 0).s 9 0).pc 90)).f :: IG (((((x.s 7 1).s 8 0).s 9 0).pc 90)) from Ic (BL _ _)]
    exact GG _ er
   refine ⟨?_,er2,?_,?_⟩
   ·show ((((((x.s 7 1).s 8 0).s 9 0).pc 90).t.fr ++ [(⟨4,0,Ax 10 []⟩ : N6)]).getLast?.getD dfF).fn=4
    simp
   ·refine .inr ?_
    rw [(r.s.s.s).pc.f]
    decide
   ·rw [<- er];exact h2
  have hn:(x.fin 1 0 0).t.fr≠[]:=by
   show (((((x.s 7 1).s 8 0).s 9 0).pc 90).t.fr ++ [_])≠[]
   simp
  refine ⟨X4.push (ra.all hn) ?_,.inr ?_⟩
  ·rw [Ic hn]
   refine .inl ?_
   show fA sl th (x.fin 1 0 0).f.fn (x.fin 1 0 0).f.pc=true
   rw [ra.f]
   have:(x.fin 1 0 0).f.pc=0:=by
    show ((((((x.s 7 1).s 8 0).s 9 0).pc 90).t.fr ++ [(⟨4,0,Ax 10 []⟩ : N6)]).getLast?.getD dfF).pc=0
    simp
   rw [this]
   simp [fA,hs]
  ·have hpf:(x.fin 1 0 0).f.pc=0:=by
    show ((((((x.s 7 1).s 8 0).s 9 0).pc 90).t.fr ++ [(⟨4,0,Ax 10 []⟩ : N6)]).getLast?.getD dfF).pc=0
    simp
   rw [MC,ra.mu hn hpf,r.mu hne e1]
   simp [fW,fA,hs]
 ·exact t_nx
theorem ST4 (hs:0 < sl) (ha:0 < sl*th) (hne:x.t.fr≠[]) (h:X4 sl th x) (e:x.f.fn=11) (hp:8<=x.f.pc/\x.f.pc<=9):Nx sl th x (EX x):=by
 have r:=h.r hne
 rw [e] at r
 unfold EX FN;dsimp only
 split
 ·split
  all_goals exact t_nx
 have e1:x.f.pc=9:=by omega
 exact t_nx
theorem S57 (hs:0 < sl) (ha:0 < sl*th) (hne:x.t.fr≠[]) (h:X4 sl th x) (e:x.f.fn=11) (hp:10<=x.f.pc/\x.f.pc<=14):Nx sl th x (JU x):=by
 have r:=h.r hne
 rw [e] at r
 unfold JU IQ;dsimp only
 repeat' split
 all_goals first | exact t_nxS | omega | contradiction
theorem ST5 (hs:0 < sl) (ha:0 < sl*th) (hne:x.t.fr≠[]) (h:X4 sl th x) (e:x.f.fn=11) (hp:0<=x.f.pc/\x.f.pc<=14):Nx sl th x (EY x):=by
 unfold EY
 repeat' split
 ·exact ST3 hs ha hne h e (by omega)
 ·exact Wp hs ha hne h e (by omega)
 ·exact ST4 hs ha hne h e (by omega)
 ·exact S57 hs ha hne h e (by omega)
theorem ZM (hs:0 < sl) (ha:0 < sl*th) (hne:x.t.fr≠[]) (h:X4 sl th x) (e:x.f.fn=12) (hp:0<=x.f.pc/\x.f.pc<=3):Nx sl th x (DF x):=by
 have r:=h.r hne
 rw [e] at r
 unfold DF;dsimp only
 repeat' split
 all_goals first | exact t_nxS | omega
theorem ZN (hs:0 < sl) (ha:0 < sl*th) (hne:x.t.fr≠[]) (h:X4 sl th x) (e:x.f.fn=13) (hp:0<=x.f.pc/\x.f.pc<=3):Nx sl th x (DF x):=by
 have r:=h.r hne
 rw [e] at r
 unfold DF;dsimp only
 repeat' split
 all_goals first | exact t_nxS | omega
theorem ZO (hs:0 < sl) (ha:0 < sl*th) (hne:x.t.fr≠[]) (h:X4 sl th x) (e:x.f.fn=12) (hp:0<=x.f.pc/\x.f.pc<=7):Nx sl th x (DG x):=by
 have r:=h.r hne
 rw [e] at r
 unfold DG;dsimp only
 repeat' split
 all_goals first | exact t_nxS | exact ZM hs ha hne h e (by omega)
theorem ZP (hs:0 < sl) (ha:0 < sl*th) (hne:x.t.fr≠[]) (h:X4 sl th x) (e:x.f.fn=13) (hp:0<=x.f.pc/\x.f.pc<=7):Nx sl th x (DG x):=by
 have r:=h.r hne
 rw [e] at r
 unfold DG;dsimp only
 repeat' split
 all_goals first | exact t_nxS | exact ZN hs ha hne h e (by omega)
theorem Wq (hs:0 < sl) (hne:x.t.fr≠[]) (h:X4 sl th x) (e:x.f.fn=14):Nx sl th x (En x):=by
 have r:=h.r hne
 rw [e] at r
 unfold En;dsimp only
 repeat' split
 all_goals exact t_nx
theorem ST6 (hs:0 < sl) (ha:0 < sl*th) (hne:x.t.fr≠[]) (h:X4 sl th x) (e:x.f.fn=14) (hp:0<=x.f.pc/\x.f.pc<=3):Nx sl th x (EZ x):=by
 have r:=h.r hne
 rw [e] at r
 unfold EZ;dsimp only
 repeat' split
 all_goals first | exact t_nx | exact Wq hs hne h e | omega
theorem ST7 {i:Nat} {p:Int} (hs:0 < sl) (ha:0 < sl*th) (hne:x.t.fr≠[]) (h:X4 sl th x) (e:x.f.fn=14):Nx sl th x (Eo x i p):=by
 have r:=h.r hne
 rw [e] at r
 unfold Eo;dsimp only
 split
 all_goals exact t_nxS
theorem ST8 (hs:0 < sl) (ha:0 < sl*th) (hne:x.t.fr≠[]) (h:X4 sl th x) (e:x.f.fn=14) (hp:0<=x.f.pc/\x.f.pc<=7):Nx sl th x (Fa x):=by
 have r:=h.r hne
 rw [e] at r
 unfold Fa Af;dsimp only
 repeat' split
 all_goals first | exact t_nx | exact ST6 hs ha hne h e (by omega) | exact ST7 hs ha hne h e | exact Wq hs hne h e | contradiction
theorem Tf8 {f:N6} (o:Au sl th f):(1<=f.fn/\f.fn<=6)\/f.fn=10/\0<=f.pc/\f.pc<=1\/f.fn=11/\(0<=f.pc/\f.pc<=14\/f.pc=90)\/(f.fn=12\/f.fn=13)/\(0<=f.pc/\f.pc<=7\/f.pc=90)\/f.fn=14/\0<=f.pc/\f.pc<=7:=by
 unfold Au Ag at o
 omega
theorem ZQ (hsl:sl=x.m.p.slots) (hth:th=x.m.p.c.threads) (hs:0 < sl) (ha:0 < sl*th) (hne:x.t.fr≠[]) (h:X4 sl th x) (o:Au sl th x.f):Nx sl th x (Z9 x):=by
 have o1:=Tf8 o
 have r:=h.r hne
 unfold Z9
 rw [A7 hne]
 dsimp only
 split
 ·rename_i c
  refine ⟨r.pop,.inr (J4.ltPop r hne c.1 r hne ?_)⟩
  have c2:fA sl th x.f.fn 90=false:=by
   have:x.f.fn=11\/x.f.fn=12\/x.f.fn=13:=by omega
   rcases this with e | e | e <;> rw [e] <;> simp [fA]
  rw [c2]
  have:=(NX x.f.fn 90).1
  simp
  omega
 split
 ·exact ST2 hs ha hne h (by assumption) (by omega)
 split
 ·exact ST5 hs ha hne h (by assumption) (by omega)
 split
 ·rename_i c
  rcases c with c | c
  ·exact ZO hs ha hne h c (by omega)
  ·exact ZP hs ha hne h c (by omega)
 split
 ·exact ST8 hs ha hne h (by assumption) (by omega)
 ·exact Ie hsl hth hs ha hne h (by omega)
end
def MoQ (c:Mod.Cf) (f:N6):Prop:=Au (E1 c).slots c.threads f
theorem ZR:Jq Z9 MoQ Ok 11 where
 st:=Ze
 all c x hc hp hne h:=by
  obtain ⟨a1,a2,a3,a4,a5,a6⟩:=Dz hc
  exact Wo h (by rw [hp]) (by rw [hp];rfl) (by omega) (by omega) hne
 nx c x hc hp hne h a:=by
  obtain ⟨a1,a2,a3,a4,a5,a6⟩:=Dz hc
  exact ZQ (by rw [hp]) (by rw [hp];rfl) a1 a2 hne a (h.top hne)
 w c x B hc h hB hne hid:=by
  obtain ⟨a1,a2,a3,a4,a5,a6⟩:=Dz hc
  have o:Au (E1 c).slots c.threads x.f:=h.q.top hne
  refine h.ok hB hid ?_
  rcases o with o | ⟨_,o⟩
  ·exact ST0 o ⟨by omega,a4⟩ a3
  ·omega
 new c op l hc ho:=by
  obtain ⟨a1,a2,a3,a4,a5,a6⟩:=Dz hc
  exact Ez (by omega) (by omega) (by omega)
theorem Sy5:DoC 63 Z9 Ok:=λh M T tv x R K H hw k=>Sl H hw k
end
section
open Mod
def R1 (L sl th:Int) (f:N6):Prop:=Ag sl th f\/f.r.length=10/\(f.fn=31/\(0<=f.pc/\f.pc<=18\/f.pc=90)/\(3<=f.pc->f.pc<=16->1<=f.g 3/\f.g 3<=L)/\(12<=f.pc->f.pc<=15->f.g 5 < f.g 3) \/
 (f.fn=32\/f.fn=33)/\(0<=f.pc/\f.pc<=14\/f.pc=90)\/f.fn=34/\(0<=f.pc/\f.pc<=5\/f.pc=90)\/f.fn=35/\0<=f.pc/\f.pc<=2\/f.fn=36/\0<=f.pc/\f.pc<=6\/f.fn=30/\0<=f.pc/\f.pc<=6/\(f.pc≠0->0<=G2 (f.g 2)/\G2 (f.g 2) < L))
theorem Bz {L sl th fn:Int} {l:List Int} (h:1<=fn/\fn<=6\/30<=fn/\fn<=36) (hs:0<=sl) (ht:0<=sl*th):R1 L sl th ⟨fn,0,Ax 10 l⟩:=by
 by_cases c:fn<=6
 ·exact .inl (NW (by omega) hs ht)
 ·refine .inr ⟨DT _ _,?_⟩
  dsimp only
  omega
theorem Tj8 {L sl th:Int} {f:N6} (h:R1 L sl th f) (e:¬ (30<=f.fn/\f.fn<=36)):Ag sl th f:=by
 unfold R1 at h
 rcases h with h | ⟨_,h⟩
 ·exact h
 ·omega
theorem ST9 {L sl th:Int} {f:N6} (h:R1 L sl th f) (e:30<=f.fn/\f.fn<=36):f.r.length=10/\(f.fn=31/\(0<=f.pc/\f.pc<=18\/f.pc=90)/\(3<=f.pc->f.pc<=16->1<=f.g 3/\f.g 3<=L)/\(12<=f.pc->f.pc<=15->f.g 5 < f.g 3) \/
 (f.fn=32\/f.fn=33)/\(0<=f.pc/\f.pc<=14\/f.pc=90)\/f.fn=34/\(0<=f.pc/\f.pc<=5\/f.pc=90)\/f.fn=35/\0<=f.pc/\f.pc<=2\/f.fn=36/\0<=f.pc/\f.pc<=6\/f.fn=30/\0<=f.pc/\f.pc<=6/\(f.pc≠0->0<=G2 (f.g 2)/\G2 (f.g 2) < L)):=by
 unfold R1 Ag at h
 rcases h with h | h
 ·omega
 ·exact h
theorem S91 {L sl th:Int} {f:N6} (h:R1 L sl th f) (e:f.fn=31):f.r.length=10/\(0<=f.pc/\f.pc<=18\/f.pc=90)/\(3<=f.pc->f.pc<=16->1<=f.g 3/\f.g 3<=L)/\(12<=f.pc->f.pc<=15->f.g 5 < f.g 3):=by
 have h:=ST9 h (by omega)
 refine ⟨h.1,?_⟩
 rcases h.2 with h1 | h1 | h1 | h1 | h1 | h1
 ·exact h1.2
 all_goals omega
theorem S92 {L sl th:Int} {f:N6} (h:R1 L sl th f) (e:f.fn=30):f.r.length=10/\0<=f.pc/\f.pc<=6/\(f.pc≠0->0<=G2 (f.g 2)/\G2 (f.g 2) < L):=by
 have h:=ST9 h (by omega)
 refine ⟨h.1,?_⟩
 rcases h.2 with h1 | h1 | h1 | h1 | h1 | h1
 ·omega
 ·omega
 ·omega
 ·omega
 ·omega
 ·exact h1.2
section
variable {x:B9} {L sl th:Int}
theorem S58 {f:N6} (len:f.r.length=10) (e:f.fn=31) (hp:0<=f.pc/\f.pc<=18\/f.pc=90) (h3:3<=f.pc->f.pc<=16->1<=f.g 3/\f.g 3<=L) (h5:12<=f.pc->f.pc<=15->f.g 5 < f.g 3):R1 L sl th f:=.inr ⟨len,.inl ⟨e,hp,h3,h5⟩⟩
theorem S59 {f:N6} (len:f.r.length=10) (e:f.fn=32\/f.fn=33) (hp:0<=f.pc/\f.pc<=14\/f.pc=90):R1 L sl th f:=.inr ⟨len,.inr (.inl ⟨e,hp⟩)⟩
theorem S60 {f:N6} (len:f.r.length=10) (e:f.fn=34) (hp:0<=f.pc/\f.pc<=5\/f.pc=90):R1 L sl th f:=.inr ⟨len,.inr (.inr (.inl ⟨e,hp⟩))⟩
theorem S61 {f:N6} (len:f.r.length=10) (e:f.fn=35) (hp:0<=f.pc/\f.pc<=2):R1 L sl th f:=.inr ⟨len,.inr (.inr (.inr (.inl ⟨e,hp.1,hp.2⟩)))⟩
theorem S62 {f:N6} (len:f.r.length=10) (e:f.fn=36) (hp:0<=f.pc/\f.pc<=6):R1 L sl th f:=.inr ⟨len,.inr (.inr (.inr (.inr (.inl ⟨e,hp.1,hp.2⟩))))⟩
structure Sj1 (L:Int) (f:N6):Prop where
 len:f.r.length=10
 fn:f.fn=30
 g:0<=G2 (f.g 2)/\G2 (f.g 2) < L
theorem MD {f:N6} (len:f.r.length=10) (e:f.fn=30) (hp:0<=f.pc/\f.pc<=6) (hg:0<=G2 (f.g 2)/\G2 (f.g 2) < L):R1 L sl th f:=.inr ⟨len,.inr (.inr (.inr (.inr (.inr ⟨e,hp.1,hp.2,λ_=>hg⟩))))⟩
theorem LW {y:B9} (hL:L<=6) (r:C5 (R1 L sl th) y) (o:Sj1 L y.f):E6 (R1 L sl th) (X3 y):=by
 obtain ⟨len,e,g⟩:=o
 unfold X3;dsimp only
 split
 ·(refine t_st ?_;first | with_reducible assumption | ((with_reducible first | apply C5.pop | apply C5.call | apply C5.allPc | apply C5.allS | apply C5.fin);exact t_rest))
 ·rename_i c
  (refine t_st ?_;first | with_reducible assumption | ((with_reducible first | apply C5.pop | apply C5.call | apply C5.allPc | apply C5.allS | apply C5.fin);exact t_rest))
  rw [Dw]
  refine MD (by simp only [R9,S0];assumption) (by simp only [AL,Er];assumption) ⟨by show (0:Int)<=1;omega,by show (1:Int)<=6;omega⟩ ?_
  have e1:(((y.setPl (y.t.pred.set (G2 (y.f.g 2)).toNat (y.f.g 3)) (y.t.succ.set (G2 (y.f.g 2)).toNat (J5 (y.f.g 4))) (y.t.word.set (G2 (y.f.g 2)).toNat (y.f.g 4))).f.s 2 (Mod.u64 (y.f.g 2 - 1))).at 1).g 2=Mod.u64 (y.f.g 2 - 1):=by
   rw [Dx]
   exact Ht (show (y.f).r.length=10 from len) (by decide) _
  rw [e1]
  exact Si8 g c hL
theorem KZ {y:B9} (r:C5 (R1 L sl th) y) (o:Sj1 L y.f):E6 (R1 L sl th) (CI y):=by
 obtain ⟨len,e,g⟩:=o
 unfold CI
 (refine t_st ?_;first | with_reducible assumption | ((with_reducible first | apply C5.pop | apply C5.call | apply C5.allPc | apply C5.allS | apply C5.fin);exact t_rest))
 rw [Dw]
 exact MD (by simp only [R9,S0];assumption) (by simp only [AL,Er];assumption) ⟨by show (0:Int)<=1;omega,by show (1:Int)<=6;omega⟩ (by rw [Dx,L9 _ (by decide)];exact g)
theorem ZS (hL:L<=6) (r:C5 (R1 L sl th) x) (o:Sj1 L x.f):E6 (R1 L sl th) (Cp x):=by
 obtain ⟨len,e,g⟩:=o
 unfold Cp;dsimp only
 repeat' split
 ·(refine t_st ?_;first | with_reducible assumption | ((with_reducible first | apply C5.pop | apply C5.call | apply C5.allPc | apply C5.allS | apply C5.fin);exact t_rest))
  exact .inr ⟨by rw [R9];exact len,.inr (.inr (.inr (.inr (.inr ⟨e,by show (0:Int)<=0;omega,by show (0:Int)<=6;omega,λhh=>absurd rfl hh⟩))))⟩
 ·exact KZ (by exact t_rest) ⟨by rw [Dw,S0];exact len,by rw [Dw];exact e,by rw [Dw,L9 _ (by decide)];exact g⟩
 ·(refine t_st ?_;first | with_reducible assumption | ((with_reducible first | apply C5.pop | apply C5.call | apply C5.allPc | apply C5.allS | apply C5.fin);exact t_rest))
  exact t_sg
 ·(refine t_st ?_;first | with_reducible assumption | ((with_reducible first | apply C5.pop | apply C5.call | apply C5.allPc | apply C5.allS | apply C5.fin);exact t_rest))
  exact t_sg
theorem Sy6 (hL:1<=L/\L<=6) (hl:L=x.m.p.c.level) (h:E6 (R1 L sl th) x) (o:R1 L sl th x.f) (e:x.f.fn=30):E6 (R1 L sl th) (Fe x):=by
 have r:=h.rest
 obtain ⟨len,o1,o2,o3⟩:=S92 o e
 unfold Fe;dsimp only
 split
 ·(refine t_st ?_;first | with_reducible assumption | ((with_reducible first | apply C5.pop | apply C5.call | apply C5.allPc | apply C5.allS | apply C5.fin);exact t_rest))
  rw [Dw,Dw,Dw,Dw]
  refine MD (by simp only [R9,S0];assumption) (by simp only [AL,Er];assumption) ⟨by show (0:Int)<=1;omega,by show (1:Int)<=6;omega⟩ ?_
  rw [Dx,Ht (by rw [S0,S0,S0];exact len) (by decide)]
  have e2:(x.load 1).2.m.p.c.level=L:=by rw [hl];exact GG (λp:Pl=>p.c.level) (St.fix (St.load (St.refl x):St 1 x (x.load 1).2)).p
  first | rw [<- hl] | rw [e2] | skip
  exact Si9 hL
 rename_i c
 have g:=o3 c
 have o9:Sj1 L x.f:=⟨len,e,g⟩
 repeat' split
 all_goals first
  | exact ZS hL.2 r o9
  | exact LW hL.2 (by exact t_rest) ⟨by rw [Bx,Dw];exact (S0 _ _ _).trans len,by rw [Bx,Dw];exact e,by rw [Bx,Dw,Dx,L9 _ (by decide)];exact g⟩
  | exact LW hL.2 (by exact t_rest) ⟨len,e,g⟩
  | exact KZ (by exact t_rest) ⟨len,e,g⟩
  | exact KZ (by exact t_rest) ⟨by rw [Z4,Bx];exact len,by rw [Z4,Bx];exact e,by rw [Z4,Bx];exact g⟩
  | skip
 all_goals (refine t_st ?_;first | with_reducible assumption | ((with_reducible first | apply C5.pop | apply C5.call | apply C5.allPc | apply C5.allS | apply C5.fin);exact t_rest))
 all_goals exact t_sg
theorem ZT (h:E6 (R1 L sl th) x) (s0:0<=sl) (t0:0<=sl*th) (len:x.f.r.length=10) (e:x.f.fn=34):E6 (R1 L sl th) (Cq x):=by
 have r:=h.rest
 unfold Cq;dsimp only
 repeat' split
 all_goals (refine t_st ?_;first | with_reducible assumption | ((with_reducible first | apply C5.pop | apply C5.call | apply C5.allPc | apply C5.allS | apply C5.fin);exact t_rest))
 all_goals first | (with_reducible apply Bz;omega;assumption;assumption) | exact t_l34
theorem ZU (h:E6 (R1 L sl th) x) (s0:0<=sl) (t0:0<=sl*th) (len:x.f.r.length=10) (e:x.f.fn=35):E6 (R1 L sl th) (Cr x):=by
 have r:=h.rest
 unfold Cr;dsimp only
 repeat' split
 all_goals (refine t_st ?_;first | with_reducible assumption | ((with_reducible first | apply C5.pop | apply C5.call | apply C5.allPc | apply C5.allS | apply C5.fin);exact t_rest))
 all_goals first | (with_reducible apply Bz;omega;assumption;assumption) | exact t_l35
theorem ZV (h:E6 (R1 L sl th) x) (s0:0<=sl) (t0:0<=sl*th) (len:x.f.r.length=10) (e:x.f.fn=36):E6 (R1 L sl th) (Cs x):=by
 have r:=h.rest
 unfold Cs Bs;dsimp only
 repeat' split
 all_goals (refine t_st ?_;first | with_reducible assumption | ((with_reducible first | apply C5.pop | apply C5.call | apply C5.allPc | apply C5.allS | apply C5.fin);exact t_rest))
 all_goals first | (with_reducible apply Bz;omega;assumption;assumption) | exact t_l36
theorem ZW (h:E6 (R1 L sl th) x) (s0:0<=sl) (t0:0<=sl*th) (len:x.f.r.length=10) (e:x.f.fn=36):E6 (R1 L sl th) (Ct x):=by
 have r:=h.rest
 unfold Ct Bs;dsimp only
 repeat' split
 all_goals first | exact ZV h s0 t0 len e | skip
 all_goals (refine t_st ?_;first | with_reducible assumption | ((with_reducible first | apply C5.pop | apply C5.call | apply C5.allPc | apply C5.allS | apply C5.fin);exact t_rest))
 all_goals first | (with_reducible apply Bz;omega;assumption;assumption) | exact t_l36
theorem Sy7 (h:E6 (R1 L sl th) x) (s0:0<=sl) (t0:0<=sl*th) (len:x.f.r.length=10) (e:x.f.fn=31) (o1:0<=x.f.pc/\x.f.pc<=18\/x.f.pc=90) (o2:3<=x.f.pc->x.f.pc<=16->1<=x.f.g 3/\x.f.g 3<=L) (o3:12<=x.f.pc->x.f.pc<=15->x.f.g 5 < x.f.g 3) (hp:3<=x.f.pc/\x.f.pc<=6):E6 (R1 L sl th) (FP x):=by
 have r:=h.rest
 unfold FP;dsimp only
 repeat' split
 all_goals (refine t_st ?_;first | with_reducible assumption | ((with_reducible first | apply C5.pop | apply C5.call | apply C5.allPc | apply C5.allS | apply C5.fin);exact t_rest))
 all_goals first | (with_reducible apply Bz;omega;assumption;assumption) | exact t_l31
theorem Wr (h:E6 (R1 L sl th) x) (s0:0<=sl) (t0:0<=sl*th) (len:x.f.r.length=10) (e:x.f.fn=31) (o1:0<=x.f.pc/\x.f.pc<=18\/x.f.pc=90) (o2:3<=x.f.pc->x.f.pc<=16->1<=x.f.g 3/\x.f.g 3<=L) (o3:12<=x.f.pc->x.f.pc<=15->x.f.g 5 < x.f.g 3) (hp:7<=x.f.pc/\x.f.pc<=10):E6 (R1 L sl th) (AI x):=by
 have r:=h.rest
 unfold AI;dsimp only
 repeat' split
 all_goals first | exact h | (refine t_st ?_;first | with_reducible assumption | ((with_reducible first | apply C5.pop | apply C5.call | apply C5.allPc | apply C5.allS | apply C5.fin);exact t_rest)) | skip
 all_goals first | (with_reducible apply Bz;omega;assumption;assumption) | exact t_l31
theorem Ws (h:E6 (R1 L sl th) x) (s0:0<=sl) (t0:0<=sl*th) (len:x.f.r.length=10) (e:x.f.fn=31) (o1:0<=x.f.pc/\x.f.pc<=18\/x.f.pc=90) (o2:3<=x.f.pc->x.f.pc<=16->1<=x.f.g 3/\x.f.g 3<=L) (o3:12<=x.f.pc->x.f.pc<=15->x.f.g 5 < x.f.g 3) (hp:11<=x.f.pc/\x.f.pc<=14):E6 (R1 L sl th) (AJ x):=by
 have r:=h.rest
 unfold AJ;dsimp only
 repeat' split
 all_goals first | exact h | (refine t_st ?_;first | with_reducible assumption | ((with_reducible first | apply C5.pop | apply C5.call | apply C5.allPc | apply C5.allS | apply C5.fin);exact t_rest)) | skip
 all_goals first | (with_reducible apply Bz;omega;assumption;assumption) | exact t_l31
theorem ZX (h:E6 (R1 L sl th) x) (s0:0<=sl) (t0:0<=sl*th) (len:x.f.r.length=10) (e:x.f.fn=31) (o1:0<=x.f.pc/\x.f.pc<=18\/x.f.pc=90) (o2:3<=x.f.pc->x.f.pc<=16->1<=x.f.g 3/\x.f.g 3<=L) (o3:12<=x.f.pc->x.f.pc<=15->x.f.g 5 < x.f.g 3) (hp:15<=x.f.pc/\x.f.pc<=18):E6 (R1 L sl th) (Cv x):=by
 have r:=h.rest
 unfold Cv;dsimp only
 repeat' split
 all_goals (refine t_st ?_;first | with_reducible assumption | ((with_reducible first | apply C5.pop | apply C5.call | apply C5.allPc | apply C5.allS | apply C5.fin);exact t_rest))
 all_goals first | (with_reducible apply Bz;omega;assumption;assumption) | exact t_l31
theorem ZY (h:E6 (R1 L sl th) x) (hL:L=x.m.p.c.level) (hl:1<=L/\L<=6) (s0:0<=sl) (t0:0<=sl*th) (len:x.f.r.length=10) (e:x.f.fn=31) (hp:0<=x.f.pc/\x.f.pc<=2):E6 (R1 L sl th) (Cu x):=by
 have r:=h.rest
 unfold Cu;dsimp only
 repeat' split
 ·(refine t_st ?_;first | with_reducible assumption | ((with_reducible first | apply C5.pop | apply C5.call | apply C5.allPc | apply C5.allS | apply C5.fin);exact t_rest))
  ·exact t_l31
  ·exact Bz (by omega) s0 t0
 ·(refine t_st ?_;first | with_reducible assumption | ((with_reducible first | apply C5.pop | apply C5.call | apply C5.allPc | apply C5.allS | apply C5.fin);exact t_rest))
  exact t_l31
 ·(refine t_st ?_;first | with_reducible assumption | ((with_reducible first | apply C5.pop | apply C5.call | apply C5.allPc | apply C5.allS | apply C5.fin);exact t_rest))
  ·exact t_l31
  ·exact Bz (by omega) s0 t0
 ·(refine t_st ?_;first | with_reducible assumption | ((with_reducible first | apply C5.pop | apply C5.call | apply C5.allPc | apply C5.allS | apply C5.fin);exact t_rest))
  ·exact t_l31
  ·exact Bz (by omega) s0 t0
 ·refine C5.allPc (C5.s (C5.m (by exact t_rest))) ?_
  rw [Dw]
  have ef:∀m:Mac,(⟨m,((x.add 3 1).2.s 4 (S5 (u32 (x.f.g 0)) (u32 (x.add 3 1).1))).t,((x.add 3 1).2.s 4 (S5 (u32 (x.f.g 0)) (u32 (x.add 3 1).1))).id⟩ : B9).f=x.f.s 4 (S5 (u32 (x.f.g 0)) (u32 (x.add 3 1).1)):=λm=>by
   show ((x.add 3 1).2.s 4 (S5 (u32 (x.f.g 0)) (u32 (x.add 3 1).1))).f=_
   rw [Dw]
   rfl
  rw [ef]
  have hv:=Wm ((x.add 3 1).2.s 4 (S5 (u32 (x.f.g 0)) (u32 (x.add 3 1).1))).m hl
  have ep:((x.add 3 1).2.s 4 (S5 (u32 (x.f.g 0)) (u32 (x.add 3 1).1))).m.p.c.level=L:=by rw [hL];exact GG (λp:Pl=>p.c.level) (St.fix (St.s (St.add (St.refl x)):St 2 x ((x.add 3 1).2.s 4 (S5 (u32 (x.f.g 0)) (u32 (x.add 3 1).1))))).p
  rw [ep]
  generalize Mod.u64 (((x.add 3 1).2.s 4 (S5 (u32 (x.f.g 0)) (u32 (x.add 3 1).1))).m.lvl L).1=v at *
  refine .inr ⟨by simp only [R9,S0];exact len,.inl ⟨e,.inl ⟨by show (0:Int)<=3;omega,by show (3:Int)<=18;omega⟩,λ_ _=>?_,λhh=>?_⟩⟩
  ·rw [Dx,Ht (by rw [S0];exact len) (by decide)]
   exact hv
  ·simp only [Cx] at hh;omega
 ·exact h
theorem ZZ (h:E6 (R1 L sl th) x) (hL:L=x.m.p.c.level) (hl:1<=L/\L<=6) (s0:0<=sl) (t0:0<=sl*th) (o:R1 L sl th x.f) (e:x.f.fn=31) (h9:x.f.pc≠90):E6 (R1 L sl th) (Cw x):=by
 obtain ⟨len,o1,o2,o3⟩:=S91 o e
 unfold Cw
 repeat' split
 ·exact ZY h hL hl s0 t0 len e (by omega)
 ·exact Sy7 h s0 t0 len e o1 o2 o3 (by omega)
 ·exact Wr h s0 t0 len e o1 o2 o3 (by omega)
 ·exact Ws h s0 t0 len e o1 o2 o3 (by omega)
 ·exact ZX h s0 t0 len e o1 o2 o3 (by omega)
theorem Sa0 (h:E6 (R1 L sl th) x) (s0:0<=sl) (t0:0<=sl*th) (len:x.f.r.length=10) (e:x.f.fn=32\/x.f.fn=33):E6 (R1 L sl th) (Bt x):=by
 have r:=h.rest
 unfold Bt;dsimp only
 repeat' split
 all_goals first | exact h | (refine t_st ?_;first | with_reducible assumption | ((with_reducible first | apply C5.pop | apply C5.call | apply C5.allPc | apply C5.allS | apply C5.fin);exact t_rest)) | skip
 all_goals first | (with_reducible apply Bz;omega;assumption;assumption) | exact t_l32
theorem SU0 (h:E6 (R1 L sl th) x) (s0:0<=sl) (t0:0<=sl*th) (len:x.f.r.length=10) (e:x.f.fn=32\/x.f.fn=33):E6 (R1 L sl th) (IF x):=by
 have r:=h.rest
 unfold IF;dsimp only
 repeat' split
 all_goals first | exact h | (refine t_st ?_;first | with_reducible assumption | ((with_reducible first | apply C5.pop | apply C5.call | apply C5.allPc | apply C5.allS | apply C5.fin);exact t_rest)) | skip
 all_goals first | (with_reducible apply Bz;omega;assumption;assumption) | exact t_l32
theorem Sa1 (h:E6 (R1 L sl th) x) (s0:0<=sl) (t0:0<=sl*th) (len:x.f.r.length=10) (e:x.f.fn=32\/x.f.fn=33):E6 (R1 L sl th) (Bu x):=by
 have r:=h.rest
 unfold Bu;dsimp only
 repeat' split
 all_goals first | exact h | (refine t_st ?_;first | with_reducible assumption | ((with_reducible first | apply C5.pop | apply C5.call | apply C5.allPc | apply C5.allS | apply C5.fin);exact t_rest)) | skip
 all_goals first | (with_reducible apply Bz;omega;assumption;assumption) | exact t_l32
theorem Sy8 (h:E6 (R1 L sl th) x) (s0:0<=sl) (t0:0<=sl*th) (len:x.f.r.length=10) (e:x.f.fn=32\/x.f.fn=33):E6 (R1 L sl th) (DH x):=by
 have r:=h.rest
 unfold DH;dsimp only
 repeat' split
 all_goals first | exact h | (refine t_st ?_;first | with_reducible assumption | ((with_reducible first | apply C5.pop | apply C5.call | apply C5.allPc | apply C5.allS | apply C5.fin);exact t_rest)) | skip
 all_goals first | (with_reducible apply Bz;omega;assumption;assumption) | exact t_l32
theorem Sa2 (h:E6 (R1 L sl th) x) (s0:0<=sl) (t0:0<=sl*th) (len:x.f.r.length=10) (e:x.f.fn=32\/x.f.fn=33):E6 (R1 L sl th) (Bv x):=by
 unfold Bv
 repeat' split
 ·exact Sa0 h s0 t0 len e
 ·exact SU0 h s0 t0 len e
 ·exact Sa1 h s0 t0 len e
 ·exact Sy8 h s0 t0 len e
theorem SF (h:E6 (R1 L sl th) x) (hL:L=x.m.p.c.level) (hl:1<=L/\L<=6) (hs:sl=x.m.p.slots) (ht:th=x.m.p.c.threads) (s0:0<=sl) (t0:0<=sl*th) (hne:x.t.fr≠[]):E6 (R1 L sl th) (V1 x):=by
 have r:=h.rest
 have o:=h.top hne
 unfold V1
 rw [A7 hne]
 dsimp only
 split
 ·unfold Aq
  rw [A7 hne]
  split
  ·exact Sy6 hl hL h o (by assumption)
  ·exact GA (λf hf=>.inl hf) h hs ht s0 t0 (Tj8 o (by omega))
 have len:=(ST9 o (by omega)).1
 split
 ·(refine t_st ?_;first | with_reducible assumption | ((with_reducible first | apply C5.pop | apply C5.call | apply C5.allPc | apply C5.allS | apply C5.fin);exact t_rest))
 split
 ·exact ZZ h hL hl s0 t0 o (by assumption) (by assumption)
 split
 ·exact ZT h s0 t0 len (by assumption)
 split
 ·exact ZU h s0 t0 len (by assumption)
 split
 ·exact ZW h s0 t0 len (by assumption)
 ·exact Sa2 h s0 t0 len (by omega)
end
end
section
open Mod
section
variable {x:B9} {L sl th:Int}
theorem Wt {y:B9} {l:List N6} (r:J4 sl th 30 l y):X4 sl th (X3 y):=by
 unfold X3;dsimp only
 split
 all_goals exact t_adj
theorem Wu {y:B9} (h:CK y):CK (X3 y):=by
 unfold X3;dsimp only
 split
 all_goals (with_reducible repeat' (first | assumption | constructor))
theorem QF {y:B9} {l:List N6} (r:J4 sl th 30 l y):X4 sl th (CI y):=by
 unfold CI
 exact t_adj
theorem QG {y:B9} (h:CK y):CK (CI y):=by
 unfold CI
 with_reducible repeat' (first | assumption | constructor)
theorem Sy9 (hs:0 < sl) (hne:x.t.fr≠[]) (h:X4 sl th x) (e:x.f.fn=30):Nx sl th x (Cp x):=by
 have r:=h.r hne
 rw [e] at r
 unfold Cp;dsimp only
 repeat' split
 all_goals first
  | (refine ⟨QF (l:=IG x) ?_,.inl (CK.act (QG ?_))⟩;exact t_adr;(with_reducible repeat' constructor);done)
  | exact t_nx
theorem SU1 {y:B9} {l:List N6} (r:J4 sl th 30 l y) (h:CK y):Nx sl th x (CI y):=⟨QF r,.inl (CK.act (QG h))⟩
theorem Sa3 {y:B9} {l:List N6} (r:J4 sl th 30 l y) (h:CK y):Nx sl th x (X3 y):=⟨Wt r,.inl (CK.act (Wu h))⟩
theorem SU2 (hs:0 < sl) (hne:x.t.fr≠[]) (h:X4 sl th x) (e:x.f.fn=30):Nx sl th x (Fe x):=by
 have r:=h.r hne
 rw [e] at r
 unfold Fe;dsimp only
 repeat' split
 all_goals first
  | (with_reducible apply Sy9 hs hne h e)
  | ((with_reducible apply SU1 (l:=IG x));exact t_adr;(with_reducible repeat' constructor);done)
  | ((with_reducible apply Sa3 (l:=IG x));exact t_adr;(with_reducible repeat' constructor);done)
  | exact t_nx
theorem Sz0 (hs:0 < sl) (ha:0 < sl*th) (hne:x.t.fr≠[]) (h:X4 sl th x) (e:x.f.fn=34) (hp:0<=x.f.pc/\x.f.pc<=5):Nx sl th x (Cq x):=by
 have r:=h.r hne
 rw [e] at r
 unfold Cq;dsimp only
 repeat' split
 all_goals first | exact t_nx | ((have e1:x.f.pc=5:=by omega);exact t_nx) | omega
theorem Sz1 (hs:0 < sl) (ha:0 < sl*th) (hne:x.t.fr≠[]) (h:X4 sl th x) (e:x.f.fn=35) (hp:0<=x.f.pc/\x.f.pc<=2):Nx sl th x (Cr x):=by
 have r:=h.r hne
 rw [e] at r
 unfold Cr;dsimp only
 repeat' split
 all_goals first | exact t_nx | ((have e1:x.f.pc=2:=by omega);exact t_nx) | omega
theorem Sz2 (hs:0 < sl) (ha:0 < sl*th) (hne:x.t.fr≠[]) (h:X4 sl th x) (e:x.f.fn=36) (hp:4<=x.f.pc/\x.f.pc<=6):Nx sl th x (Cs x):=by
 have r:=h.r hne
 rw [e] at r
 unfold Cs Bs;dsimp only
 repeat' split
 all_goals first | exact t_nx | omega
theorem Sz3 (hs:0 < sl) (ha:0 < sl*th) (hne:x.t.fr≠[]) (h:X4 sl th x) (e:x.f.fn=36) (hp:0<=x.f.pc/\x.f.pc<=6):Nx sl th x (Ct x):=by
 have r:=h.r hne
 rw [e] at r
 unfold Ct Bs;dsimp only
 repeat' split
 all_goals first | exact t_nx | exact Sz2 hs ha hne h e (by omega) | omega
theorem Sz4 (hs:0 < sl) (ha:0 < sl*th) (hne:x.t.fr≠[]) (h:X4 sl th x) (e:x.f.fn=31) (hp:0<=x.f.pc/\x.f.pc<=2):Nx sl th x (Cu x):=by
 have r:=h.r hne
 rw [e] at r
 unfold Cu;dsimp only
 repeat' split
 all_goals first | exact t_nxS | omega
theorem SU3 (hs:0 < sl) (ha:0 < sl*th) (hne:x.t.fr≠[]) (h:X4 sl th x) (e:x.f.fn=31) (hp:3<=x.f.pc/\x.f.pc<=6):Nx sl th x (FP x):=by
 have r:=h.r hne
 rw [e] at r
 unfold FP;dsimp only
 repeat' split
 all_goals first | exact t_nx | omega
theorem Sa4 (hs:0 < sl) (ha:0 < sl*th) (hne:x.t.fr≠[]) (h:X4 sl th x) (e:x.f.fn=31) (hp:7<=x.f.pc/\x.f.pc<=10):Nx sl th x (AI x):=by
 have r:=h.r hne
 rw [e] at r
 unfold AI;dsimp only
 repeat' split
 all_goals first | exact t_nx | omega
theorem Sa5 (hs:0 < sl) (ha:0 < sl*th) (hne:x.t.fr≠[]) (h:X4 sl th x) (e:x.f.fn=31) (hp:11<=x.f.pc/\x.f.pc<=14):Nx sl th x (AJ x):=by
 have r:=h.r hne
 rw [e] at r
 unfold AJ;dsimp only
 repeat' split
 all_goals first | exact t_nx | omega
theorem Sz5 (hs:0 < sl) (ha:0 < sl*th) (hne:x.t.fr≠[]) (h:X4 sl th x) (e:x.f.fn=31) (hp:15<=x.f.pc/\x.f.pc<=18):Nx sl th x (Cv x):=by
 have r:=h.r hne
 rw [e] at r
 unfold Cv;dsimp only
 repeat' split
 all_goals first | exact t_nx | ((have e1:x.f.pc=18:=by omega);exact t_nx) | omega
theorem Sz6 (hs:0 < sl) (ha:0 < sl*th) (hne:x.t.fr≠[]) (h:X4 sl th x) (e:x.f.fn=31) (hp:0<=x.f.pc/\x.f.pc<=18):Nx sl th x (Cw x):=by
 unfold Cw
 repeat' split
 ·exact Sz4 hs ha hne h e (by omega)
 ·exact SU3 hs ha hne h e (by omega)
 ·exact Sa4 hs ha hne h e (by omega)
 ·exact Sa5 hs ha hne h e (by omega)
 ·exact Sz5 hs ha hne h e (by omega)
theorem Wv (hs:0 < sl) (ha:0 < sl*th) (hne:x.t.fr≠[]) (h:X4 sl th x) (e:x.f.fn=32) (hp:0<=x.f.pc/\x.f.pc<=4):Nx sl th x (Bt x):=by
 have r:=h.r hne
 rw [e] at r
 unfold Bt;dsimp only
 repeat' split
 all_goals first | exact t_nx | omega
theorem Sz7 (hs:0 < sl) (ha:0 < sl*th) (hne:x.t.fr≠[]) (h:X4 sl th x) (e:x.f.fn=32) (hp:5<=x.f.pc/\x.f.pc<=8):Nx sl th x (IF x):=by
 have r:=h.r hne
 rw [e] at r
 unfold IF;dsimp only
 repeat' split
 all_goals first | exact t_nx | omega
theorem Ww (hs:0 < sl) (ha:0 < sl*th) (hne:x.t.fr≠[]) (h:X4 sl th x) (e:x.f.fn=32) (hp:9<=x.f.pc/\x.f.pc<=10):Nx sl th x (Bu x):=by
 have r:=h.r hne
 rw [e] at r
 unfold Bu;dsimp only
 repeat' split
 all_goals first | exact t_nx | omega
theorem Sa6 (hs:0 < sl) (ha:0 < sl*th) (hne:x.t.fr≠[]) (h:X4 sl th x) (e:x.f.fn=32) (hp:11<=x.f.pc/\x.f.pc<=14):Nx sl th x (DH x):=by
 have r:=h.r hne
 rw [e] at r
 unfold DH;dsimp only
 repeat' split
 all_goals first | exact t_nx | ((have e1:x.f.pc=14:=by omega);exact t_nx) | omega
theorem Wx (hs:0 < sl) (ha:0 < sl*th) (hne:x.t.fr≠[]) (h:X4 sl th x) (e:x.f.fn=32) (hp:0<=x.f.pc/\x.f.pc<=14):Nx sl th x (Bv x):=by
 unfold Bv
 repeat' split
 ·exact Wv hs ha hne h e (by omega)
 ·exact Sz7 hs ha hne h e (by omega)
 ·exact Ww hs ha hne h e (by omega)
 ·exact Sa6 hs ha hne h e (by omega)
theorem Wy (hs:0 < sl) (ha:0 < sl*th) (hne:x.t.fr≠[]) (h:X4 sl th x) (e:x.f.fn=33) (hp:0<=x.f.pc/\x.f.pc<=4):Nx sl th x (Bt x):=by
 have r:=h.r hne
 rw [e] at r
 unfold Bt;dsimp only
 repeat' split
 all_goals first | exact t_nx | omega
theorem Sz8 (hs:0 < sl) (ha:0 < sl*th) (hne:x.t.fr≠[]) (h:X4 sl th x) (e:x.f.fn=33) (hp:5<=x.f.pc/\x.f.pc<=8):Nx sl th x (IF x):=by
 have r:=h.r hne
 rw [e] at r
 unfold IF;dsimp only
 repeat' split
 all_goals first | exact t_nx | omega
theorem Wz (hs:0 < sl) (ha:0 < sl*th) (hne:x.t.fr≠[]) (h:X4 sl th x) (e:x.f.fn=33) (hp:9<=x.f.pc/\x.f.pc<=10):Nx sl th x (Bu x):=by
 have r:=h.r hne
 rw [e] at r
 unfold Bu;dsimp only
 repeat' split
 all_goals first | exact t_nx | omega
theorem Sa7 (hs:0 < sl) (ha:0 < sl*th) (hne:x.t.fr≠[]) (h:X4 sl th x) (e:x.f.fn=33) (hp:11<=x.f.pc/\x.f.pc<=14):Nx sl th x (DH x):=by
 have r:=h.r hne
 rw [e] at r
 unfold DH;dsimp only
 repeat' split
 all_goals first | exact t_nx | ((have e1:x.f.pc=14:=by omega);exact t_nx) | omega
theorem WA (hs:0 < sl) (ha:0 < sl*th) (hne:x.t.fr≠[]) (h:X4 sl th x) (e:x.f.fn=33) (hp:0<=x.f.pc/\x.f.pc<=14):Nx sl th x (Bv x):=by
 unfold Bv
 repeat' split
 ·exact Wy hs ha hne h e (by omega)
 ·exact Sz8 hs ha hne h e (by omega)
 ·exact Wz hs ha hne h e (by omega)
 ·exact Sa7 hs ha hne h e (by omega)
theorem Tf9 {f:N6} (o:R1 L sl th f):(1<=f.fn/\f.fn<=6)\/f.fn=30/\0<=f.pc/\f.pc<=6\/f.fn=31/\(0<=f.pc/\f.pc<=18\/f.pc=90)\/(f.fn=32\/f.fn=33)/\(0<=f.pc/\f.pc<=14\/f.pc=90)\/f.fn=34/\(0<=f.pc/\f.pc<=5\/f.pc=90)\/f.fn=35/\0<=f.pc/\f.pc<=2\/f.fn=36/\0<=f.pc/\f.pc<=6:=by
 unfold R1 Ag at o
 omega
theorem WC (hsl:sl=x.m.p.slots) (hth:th=x.m.p.c.threads) (hs:0 < sl) (ha:0 < sl*th) (hne:x.t.fr≠[]) (h:X4 sl th x) (o:R1 L sl th x.f):Nx sl th x (V1 x):=by
 have o1:=Tf9 o
 have r:=h.r hne
 unfold V1
 rw [A7 hne]
 dsimp only
 split
 ·unfold Aq
  rw [A7 hne]
  split
  ·exact SU2 hs hne h (by assumption)
  ·exact Ie hsl hth hs ha hne h (by omega)
 split
 ·rename_i c c9
  refine ⟨r.pop,.inr (J4.ltPop r hne c9 r hne ?_)⟩
  have c2:fA sl th x.f.fn 90=false:=by
   have:x.f.fn=31\/x.f.fn=32\/x.f.fn=33\/x.f.fn=34:=by omega
   rcases this with e | e | e | e <;> rw [e] <;> simp [fA]
  rw [c2]
  have:=(NX x.f.fn 90).1
  simp
  omega
 split
 ·exact Sz6 hs ha hne h (by assumption) (by omega)
 split
 ·exact Sz0 hs ha hne h (by assumption) (by omega)
 split
 ·exact Sz1 hs ha hne h (by assumption) (by omega)
 split
 ·exact Sz3 hs ha hne h (by assumption) (by omega)
 ·have:x.f.fn=32\/x.f.fn=33:=by omega
  rcases this with e | e
  ·exact Wx hs ha hne h e (by omega)
  ·exact WA hs ha hne h e (by omega)
end
def LnQ (c:Mod.Cf) (f:N6):Prop:=R1 c.level (E1 c).slots c.threads f
def LnW (x:B9):Prop:=Ok x/\LOk x/\(x.f.fn=31->Te5 x)
theorem WD:Jq V1 LnQ LnW 31 where
 st:=VR
 all c x hc hp hne h:=by
  obtain ⟨a1,a2,a3,a4,a5,a6⟩:=Dz hc
  exact SF h (by rw [hp];rfl) ⟨a5,a6⟩ (by rw [hp]) (by rw [hp];rfl) (by omega) (by omega) hne
 nx c x hc hp hne h a:=by
  obtain ⟨a1,a2,a3,a4,a5,a6⟩:=Dz hc
  exact WC (by rw [hp]) (by rw [hp];rfl) a1 a2 hne a (h.top hne)
 w c x B hc h hB hne hid:=by
  obtain ⟨a1,a2,a3,a4,a5,a6⟩:=Dz hc
  have o:R1 c.level (E1 c).slots c.threads x.f:=h.q.top hne
  have hpr:=h.pr
  have hsu:=h.su
  have hwo:=h.wo
  refine ⟨h.ok hB hid ?_,λe hp=>?_,λe=>?_⟩
  ·rcases o with o | ⟨_,o⟩
   ·exact ST0 o ⟨by omega,a4⟩ a3
   ·omega
  ·obtain ⟨len,o1,o2,o3⟩:=S92 o e
   have g:=o3 hp
   exact ⟨⟨g.1,by omega⟩,by omega,by omega,by omega⟩
  ·obtain ⟨len,o1,o2,o3⟩:=S91 o e
   refine ⟨⟨by omega,by omega,by omega,by omega⟩,λe2 e3=>?_⟩
   have g1:=o2 (by omega) (by omega)
   have g2:=o3 (by omega) (by omega)
   omega
 new c op l hc ho:=by
  obtain ⟨a1,a2,a3,a4,a5,a6⟩:=Dz hc
  exact Bz (by omega) (by omega) (by omega)
theorem Sa8:DoC 65 V1 LnW:=λh M T tv x R K H hw k=>Pp H hw.1 hw.2.1 hw.2.2 k
end
section
open Mod
structure WE (p:Pl) (id:Int) (n:Nat) (e:Acc):Prop where
 a:0<=e.a/\e.a < n
 k:e.kind=0/\e.b = -1\/(e.kind=1/\e.b = -1/\(Bb p e.a\/∃i,e.a=p.haz id i)\/((e.kind=2\/e.kind=3)/\e.b = -1/\Bb p e.a\/(e.kind=4\/e.kind=5)/\Bb p e.a/\Bb p e.b/\0<=e.b/\e.b < n))
structure Ks (p:Pl) (id:Int) (m n:Mm):Prop where
 wt:n.wt=m.wt
 w:n.w.length=m.w.length
 st:n.st=m.st/\n.lg=m.lg\/n.st=m.st+1/\∃e,WE p id m.w.length e/\n.lg=if m.wt then m.lg ++ [e] else m.lg
theorem Ks.refl (p:Pl) (id:Int) (m:Mm):Ks p id m m:=⟨rfl,rfl,.inl ⟨rfl,rfl⟩⟩
theorem FY {m:Mm} {a:Int} (h:m.ok a=true):0<=a/\a < m.w.length:=by
 unfold Mm.ok at h
 simpa using h
theorem DA (m:Mac) (a:Int):(m.touch a).acted=true:=by
 unfold Mac.touch
 split <;> rfl
theorem FA (m:Mac) (a:Int):(m.touch a).mm=m.mm:=(T6.touch m a).2.1
section
variable {p:Pl} {id:Int} {m:Mac} {a b o v c q:Int}
theorem SU4:(m.load a).2.acted=true/\Ks p id m.mm (m.load a).2.mm:=by
 unfold Mac.load
 dsimp only
 rw [FA]
 split
 ·rename_i h
  exact ⟨DA m a,rfl,rfl,.inr ⟨rfl,_,⟨FY h,.inl ⟨rfl,rfl⟩⟩,rfl⟩⟩
 ·exact ⟨DA m a,by show Ks p id m.mm (m.touch a).mm;rw [FA];exact Ks.refl _ _ _⟩
theorem QH (ha:Bb p a\/∃i,a=p.haz id i):(m.store a v).acted=true/\Ks p id m.mm (m.store a v).mm:=by
 unfold Mac.store
 dsimp only
 rw [FA]
 split
 ·rename_i h
  exact ⟨DA m a,rfl,Ca,.inr ⟨rfl,_,⟨FY h,.inr (.inl ⟨rfl,rfl,ha⟩)⟩,rfl⟩⟩
 ·exact ⟨DA m a,by show Ks p id m.mm (m.touch a).mm;rw [FA];exact Ks.refl _ _ _⟩
theorem S63 (ha:Bb p a):(m.cas a o v).2.acted=true/\Ks p id m.mm (m.cas a o v).2.mm:=by
 unfold Mac.cas
 dsimp only
 rw [FA]
 split
 ·rename_i h
  refine ⟨DA m a,?_⟩
  show Ks p id m.mm (m.mm.cas a o v)
  unfold Mm.cas
  split
  ·exact ⟨rfl,Ca,.inr ⟨rfl,_,⟨FY h,.inr (.inr (.inl ⟨.inl rfl,rfl,ha⟩))⟩,rfl⟩⟩
  ·exact ⟨rfl,rfl,.inr ⟨rfl,_,⟨FY h,.inr (.inr (.inl ⟨.inl rfl,rfl,ha⟩))⟩,rfl⟩⟩
 ·exact ⟨DA m a,by show Ks p id m.mm (m.touch a).mm;rw [FA];exact Ks.refl _ _ _⟩
theorem S64 (ha:Bb p a):(m.add a v).2.acted=true/\Ks p id m.mm (m.add a v).2.mm:=by
 unfold Mac.add
 dsimp only
 rw [FA]
 split
 ·rename_i h
  exact ⟨DA m a,rfl,Ca,.inr ⟨rfl,_,⟨FY h,.inr (.inr (.inl ⟨.inr rfl,rfl,ha⟩))⟩,rfl⟩⟩
 ·exact ⟨DA m a,by show Ks p id m.mm (m.touch a).mm;rw [FA];exact Ks.refl _ _ _⟩
theorem ME (m:Mac) (a b:Int):((m.touch a).touch b).mm=m.mm:=by rw [FA,FA]
theorem SU5 (ha:Bb p a) (hb:Bb p b):(m.dcas a o v b c q).2.acted=true/\Ks p id m.mm (m.dcas a o v b c q).2.mm:=by
 unfold Mac.dcas
 dsimp only
 rw [ME]
 split
 ·rename_i h
  refine ⟨DA _ b,?_⟩
  show Ks p id m.mm (m.mm.dcas a o v b c q)
  unfold Mm.dcas
  split
  ·exact ⟨rfl,by show ((m.mm.w.set _ _).set _ _).length=_;rw [Ca,Ca],.inr ⟨rfl,_,⟨FY h.1,.inr (.inr (.inr ⟨.inl rfl,ha,hb,FY h.2.1⟩))⟩,rfl⟩⟩
  ·exact ⟨rfl,rfl,.inr ⟨rfl,_,⟨FY h.1,.inr (.inr (.inr ⟨.inl rfl,ha,hb,FY h.2.1⟩))⟩,rfl⟩⟩
 ·exact ⟨DA _ b,by show Ks p id m.mm ((m.touch a).touch b).mm;rw [ME];exact Ks.refl _ _ _⟩
theorem SU6 (ha:Bb p a) (hb:Bb p b):(m.dcss a o v b c).2.acted=true/\Ks p id m.mm (m.dcss a o v b c).2.mm:=by
 unfold Mac.dcss
 dsimp only
 rw [ME]
 split
 ·rename_i h
  refine ⟨DA _ b,?_⟩
  show Ks p id m.mm (m.mm.dcss a o v b c)
  unfold Mm.dcss
  split
  ·exact ⟨rfl,Ca,.inr ⟨rfl,_,⟨FY h.1,.inr (.inr (.inr ⟨.inr rfl,ha,hb,FY h.2⟩))⟩,rfl⟩⟩
  ·exact ⟨rfl,rfl,.inr ⟨rfl,_,⟨FY h.1,.inr (.inr (.inr ⟨.inr rfl,ha,hb,FY h.2⟩))⟩,rfl⟩⟩
 ·exact ⟨DA _ b,by show Ks p id m.mm ((m.touch a).touch b).mm;rw [ME];exact Ks.refl _ _ _⟩
end
theorem S65 (m:Mac) (k:Int):(m.next k).2.mm=m.mm/\(m.next k).2.acted=m.acted:=by
 unfold Mac.next
 split <;> exact ⟨rfl,rfl⟩
theorem Tg0 (m:Mac) (k:Int):(m.lvl k).2.mm=m.mm/\(m.lvl k).2.acted=m.acted:=by
 unfold Mac.lvl
 split <;> exact ⟨rfl,rfl⟩
structure Mo1 (x y:B9) (b:Bool):Prop where
 f:b=false->y.m.mm=x.m.mm/\y.m.acted=x.m.acted
 t:b=true->y.m.acted=true/\Ks x.m.p x.id x.m.mm y.m.mm
theorem Mo1.t1 {x y z:B9} (h:Mo1 x y false) (e:z.m.acted=true/\Ks x.m.p x.id y.m.mm z.m.mm):Mo1 x z true:=
 ⟨λe=>(by cases e),λ_=>⟨e.1,by rw [<- (h.f rfl).1];exact e.2⟩⟩
theorem Mo1.same {x y z:B9} {b:Bool} (h:Mo1 x y b) (e:z.m.mm=y.m.mm/\z.m.acted=y.m.acted):Mo1 x z b:=
 ⟨λc=>⟨e.1.trans (h.f c).1,e.2.trans (h.f c).2⟩,λc=>⟨e.2.trans (h.t c).1,by rw [e.1];exact (h.t c).2⟩⟩
theorem Mod.On.mm {x y:B9} {b q:Bool} (h:On x b q y):Mo1 x y b:=by
 induction h with
 | refl=>exact ⟨λ_=>⟨rfl,rfl⟩,λe=>by cases e⟩
 | load _ ih=>exact ih.t1 SU4
 | store _ ha ih=>exact ih.t1 (QH (.inl ha))
 | own _ ih=>exact ih.t1 (QH (.inr ⟨_,rfl⟩))
 | cas _ ha ih=>exact ih.t1 (S63 ha)
 | add _ ha ih=>exact ih.t1 (S64 ha)
 | dcas _ ha hb ih=>exact ih.t1 (SU5 ha hb)
 | dcss _ ha hb ih=>exact ih.t1 (SU6 ha hb)
 | next _ ih=>exact ih.same (S65 _ _)
 | lvl _ ih=>exact ih.same (Tg0 _ _)
 | gh _ ih=>exact ih.same ⟨rfl,rfl⟩
 | s _ ih=>exact ih.same ⟨rfl,rfl⟩
 | pc _ _ ih=>exact ih.same ⟨rfl,rfl⟩
 | call _ _ _ ih=>exact ih.same ⟨rfl,rfl⟩
 | fin _ _ ih=>exact ih.same ⟨rfl,rfl⟩
 | pop _ _ ih=>exact ih.same ⟨rfl,rfl⟩
 | push _ _ ih=>exact ih.same ⟨rfl,rfl⟩
 | fo _ ih=>exact ih.same ⟨rfl,rfl⟩
 | re _ ih=>exact ih.same ⟨rfl,rfl⟩
 | setPl _ ih=>exact ih.same ⟨rfl,rfl⟩
structure GD (f:N6):Prop where
 len:f.r.length=10
 a:Bo f.fn->f.pc=90->Fit f.fn (f.g 7) (f.g 8) (f.g 9)
def Bot (fn:Int) (l:List N6):Prop:=∃f r,l=f :: r/\f.fn=fn
structure Frs (x y:B9) (q:Bool):Prop where
 a:∀f ∈ y.t.fr,GD f
 b:∀fn,Bo fn->Bot fn x.t.fr->Bot fn y.t.fr
 c:q=false->y.t.fr≠[]/\y.t.fr.dropLast=x.t.fr.dropLast/\y.f.fn=x.f.fn/\(Bo x.f.fn->y.f.pc≠90)
theorem S66 {j:Int} {r:List Int} (hj:¬ Bo j):GD ⟨j,0,Ax 10 r⟩:=⟨DT _ _,λh=>absurd h hj⟩
theorem Bot.app {fn:Int} {l k:List N6} (h:Bot fn l):Bot fn (l ++ k):=by
 obtain ⟨f,r,e,ef⟩:=h
 exact ⟨f,r ++ k,by rw [e];rfl,ef⟩
theorem Bot.top {fn:Int} {y:B9} {f:N6} (h:Bot fn y.t.fr) (hne:y.t.fr≠[]) (hf:f.fn=y.f.fn):Bot fn (y.setF f).t.fr:=by
 obtain ⟨g,r,e,eg⟩:=h
 have s:=NC hne
 show Bot fn (y.t.fr.dropLast ++ [f])
 cases hd:y.t.fr.dropLast with
 | nil=>
  rw [hd,e] at s
  refine ⟨f,[],rfl,hf.trans ?_⟩
  have:g=y.t.top:=by cases s;rfl
  rw [<- eg,this]
  rfl
 | cons g2 r2=>
  rw [hd,e] at s
  have:g=g2:=by cases s;rfl
  exact ⟨g2,r2 ++ [f],rfl,by rw [<- this];exact eg⟩
theorem WF {y:B9} {f g:N6} (h:∀f ∈ y.t.fr,GD f) (hf:GD f) (hg:g ∈ (y.setF f).t.fr):GD g:=by
 have hg:g ∈ y.t.fr.dropLast ++ [f]:=hg
 rcases GR.1 hg with h1 | h1
 ·exact h g (SZ4 _ h1)
 ·rw [Fq.1 h1];exact hf
theorem SU7 {y:B9} {j:Int} {r:List Int} {g:N6} (h:∀f ∈ y.t.fr,GD f) (hj:¬ Bo j) (hg:g ∈ (y.push j r).t.fr):GD g:=by
 have hg:g ∈ y.t.fr ++ [⟨j,0,Ax 10 r⟩]:=hg
 rcases GR.1 hg with h1 | h1
 ·exact h g h1
 ·rw [Fq.1 h1];exact S66 hj
theorem WG {t:Thr} (h:t.fr≠[]):t.top ∈ t.fr:=by
 have e:t.top=t.fr.getLast h:=by
  show t.fr.getLast?.getD dfF=_
  rw [Sk7 h]
  rfl
 rw [e]
 exact List.getLast_mem h
theorem Frs.same {x y z:B9} {q:Bool} (h:Frs x y q) (e:z.t.fr=y.t.fr):Frs x z q:=by
 have ef:z.f=y.f:=by show z.t.fr.getLast?.getD dfF=y.t.fr.getLast?.getD dfF;rw [e]
 exact ⟨by rw [e];exact h.a,by rw [e];exact h.b,by rw [e,ef];exact h.c⟩
theorem Frs.set {x y:B9} {f:N6} (h:Frs x y false) (hf:GD f) (e1:f.fn=y.f.fn) (e2:Bo x.f.fn->f.pc≠90):Frs x (y.setF f) false:=by
 obtain ⟨c1,c2,c3,c4⟩:=h.c rfl
 refine ⟨λg hg=>WF h.a hf hg,λfn ha hb=>(h.b fn ha hb).top c1 e1,λ_=>⟨BL _ _,?_,?_,?_⟩⟩
 ·show (y.t.fr.dropLast ++ [f]).dropLast=_
  rw [Ta6 (by simp)]
  simpa using c2
 ·rw [Jn,e1];exact c3
 ·rw [Jn];exact e2
theorem Frs.push {x y:B9} {q:Bool} {j:Int} {r:List Int} (ha:∀f ∈ y.t.fr,GD f) (hb:∀fn,Bo fn->Bot fn x.t.fr->Bot fn y.t.fr) (hj:¬ Bo j):Frs x (y.push j r) true:=
 ⟨λg hg=>SU7 ha hj hg,λfn a b=>(hb fn a b).app,λe=>by cases e⟩
theorem Frs.topFit {x y:B9} (h:Frs x y false):GD y.f:=h.a _ (WG (h.c rfl).1)
theorem Mod.On.frs {x y:B9} {b q:Bool} (h:On x b q y) (hne:x.t.fr≠[]) (hA:∀f ∈ x.t.fr,GD f) (hp:Bo x.f.fn->x.f.pc≠90):Frs x y q:=by
 induction h with
 | refl=>exact ⟨hA,λ_ _ h=>h,λ_=>⟨hne,rfl,rfl,hp⟩⟩
 | load _ ih=>exact ih.same rfl
 | store _ ha ih=>exact ih.same rfl
 | own _ ih=>exact ih.same rfl
 | cas _ ha ih=>exact ih.same rfl
 | add _ ha ih=>exact ih.same rfl
 | dcas _ ha hb ih=>exact ih.same rfl
 | dcss _ ha hb ih=>exact ih.same rfl
 | next _ ih=>exact ih.same rfl
 | lvl _ ih=>exact ih.same rfl
 | gh _ ih=>exact ih.same rfl
 | fo _ ih=>exact ih.same rfl
 | re _ ih=>exact ih.same rfl
 | setPl _ ih=>exact ih.same rfl
 | @s _ y i v _ ih=>
  have c4:=(ih.c rfl).2.2.2
  have c3:=(ih.c rfl).2.2.1
  refine ih.set (f:=y.f.s i v) ⟨by rw [S0];exact ih.topFit.len,λh1 h2=>?_⟩ rfl c4
  exact absurd h2 (c4 (by rw [<- c3];exact h1))
 | @pc _ y i _ hi ih=>
  have c3:=(ih.c rfl).2.2.1
  refine ih.set (f:=y.f.at i) ⟨ih.topFit.len,λh1 h2=>?_⟩ rfl hi
  exact absurd h2 (hi (by rw [<- c3];exact h1))
 | @call _ y i j r _ hi hj ih=>
  have c3:=(ih.c rfl).2.2.1
  have:=ih.set (f:=y.f.at i) ⟨ih.topFit.len,λh1 h2=>absurd h2 (hi (by rw [<- c3];exact h1))⟩ rfl hi
  exact Frs.push (q:=true) this.a this.b hj
 | @fin _ y i j k _ hf ih=>
  obtain ⟨c1,c2,c3,c4⟩:=ih.c rfl
  have l0:=ih.topFit.len
  have e:y.fin i j k=(y.setF ((((y.f.s 7 i).s 8 j).s 9 k).at 90)).push 4 []:=by
   unfold B9.fin B9.call B9.pc
   rw [Dw,Dw,Dw]
   unfold B9.s B9.setF Thr.setTop
   simp
  rw [e]
  have l1:(y.f.s 7 i).r.length=10:=by rw [S0];exact l0
  have l2:((y.f.s 7 i).s 8 j).r.length=10:=by rw [S0];exact l1
  have g9:(((y.f.s 7 i).s 8 j).s 9 k).g 9=k:=Ht l2 (by decide) k
  have g8:(((y.f.s 7 i).s 8 j).s 9 k).g 8=j:=(L9 _ (by decide) k).trans (Ht l1 (by decide) j)
  have g7:(((y.f.s 7 i).s 8 j).s 9 k).g 7=i:=((L9 _ (by decide) k).trans (L9 _ (by decide) j)).trans (Ht l0 (by decide) i)
  refine Frs.push (q:=true) (λg hg=>WF ih.a ⟨by rw [R9,S0];exact l2,λh1 _=>?_⟩ hg) (λfn a b=>(ih.b fn a b).top c1 rfl) (by unfold Bo;omega)
  have h2:Bo x.f.fn:=by rw [<- c3];exact h1
  show Fit y.f.fn ((((y.f.s 7 i).s 8 j).s 9 k).g 7) ((((y.f.s 7 i).s 8 j).s 9 k).g 8) ((((y.f.s 7 i).s 8 j).s 9 k).g 9)
  rw [g7,g8,g9,c3]
  exact hf h2
 | @pop _ y r _ hn ih=>
  obtain ⟨c1,c2,c3,c4⟩:=ih.c rfl
  have e:(y.pop r).t.fr=y.t.fr.dropLast:=by
   show (y.t.pop r).fr=_
   unfold Thr.pop
   rw [A7 c1]
  refine ⟨λg hg=>ih.a g (SZ4 _ (by rw [<- e];exact hg)),λfn a hb=>?_,λe=>by cases e⟩
  rw [e,c2]
  obtain ⟨f,l,e1,e2⟩:=hb
  cases l with
  | nil=>
   exfalso
   have:x.f=f:=by show x.t.fr.getLast?.getD dfF=f;rw [e1];rfl
   rw [this,e2] at hn
   exact hn a
  | cons g l=>exact ⟨f,(g :: l).dropLast,by rw [e1];rfl,e2⟩
 | push _ hj ih=>exact Frs.push (q:=true) ih.a ih.b hj
theorem Tl7 (a b c:Int):Ax 3 [a,b,c] = [a,b,c]:=rfl
theorem Mod.Bit.frs {x y:B9} (h:Bit x y) (hne:x.t.fr≠[]) (hA:∀f ∈ x.t.fr,GD f) :
  (∀f ∈ y.t.fr,GD f)/\∀fn,Bo fn->Bot fn x.t.fr->Bot fn y.t.fr\/y.t.fr = []/\Fit fn (y.t.ret.getD 0 0) (y.t.ret.getD 1 0) (y.t.ret.getD 2 0):=by
 rcases h with ⟨h1,h2,rfl⟩ | ⟨h1,b,q,h2⟩
 ·have e:(x.pop [x.f.g 7,x.f.g 8,x.f.g 9]).t = { x.t with fr:=x.t.fr.dropLast,ret:=[x.f.g 7,x.f.g 8,x.f.g 9] }:=by
   show x.t.pop _=_
   unfold Thr.pop
   rw [A7 hne,Tl7]
  rw [e]
  refine ⟨λf hf=>hA f (SZ4 _ hf),λfn ha hb=>?_⟩
  obtain ⟨f,l,e1,e2⟩:=hb
  cases l with
  | nil=>
   have e3:x.f=f:=by show x.t.fr.getLast?.getD dfF=f;rw [e1];rfl
   have:=(hA _ (WG hne)).a h1 h2
   rw [show x.t.top=f from e3,e2] at this
   refine .inr ⟨by show x.t.fr.dropLast = [];rw [e1];rfl,?_⟩
   show Fit fn (x.f.g 7) (x.f.g 8) (x.f.g 9)
   rw [e3]
   exact this
  | cons g l=>exact .inl ⟨f,(g :: l).dropLast,by show x.t.fr.dropLast=_;rw [e1];rfl,e2⟩
 ·have f:=h2.frs hne hA h1
  exact ⟨f.a,λfn a b=>.inl (f.b fn a b)⟩
theorem Mod.Bit.mm {x y:B9} (h:Bit x y):Mo1 x y false\/Mo1 x y true:=by
 rcases h with ⟨h1,h2,rfl⟩ | ⟨h1,b,q,h2⟩
 ·exact .inl ⟨λ_=>⟨rfl,rfl⟩,λe=>by cases e⟩
 ·cases b
  ·exact .inl h2.mm
  ·exact .inr h2.mm
def If (d:B9->B9) (Q:Mod.Cf->N6->Prop):Prop:=∀c x,E6 (Q c) x->x.t.fr≠[]->Bit x (d x)
theorem Sz9:If Z9 MoQ:=λc x h hne=>by
 refine VU ?_ hne
 have o:Au _ _ x.f:=h.top hne
 unfold Au Ag at o
 omega
theorem WH:If S3 SuQ:=λc x h hne=>by
 refine Pq ?_ hne
 have o:N7 _ _ _ x.f:=h.top hne
 unfold N7 Ag at o
 omega
theorem Sa9:If V1 LnQ:=λc x h hne=>by
 refine Sx ?_ hne
 have o:R1 _ _ _ x.f:=h.top hne
 unfold R1 Ag at o
 omega
section
variable {d:B9->B9} {Q:Mod.Cf->N6->Prop} {W:B9->Prop} {ins:Int} {c:Mod.Cf}
theorem Iz {x z:B9} {n:Nat} (h:Mod.bits d n x=some z) (hs:x.m.acted=true\/x.t.fr = []):z=x:=by
 have e:(x.m.acted || x.t.fr.isEmpty)=true:=by
  rcases hs with h | h <;> simp [h]
 cases n <;> (unfold Mod.bits at h;rw [A8 e] at h;cases h;rfl)
structure Stp (p:Pl) (x z:B9):Prop where
 one:Ks p x.id x.m.mm z.m.mm
 all:∀f ∈ z.t.fr,GD f
 bot:∀fn,Bo fn->Bot fn x.t.fr->Bot fn z.t.fr\/z.t.fr = []/\Fit fn (z.t.ret.getD 0 0) (z.t.ret.getD 1 0) (z.t.ret.getD 2 0)
theorem WI (D:Jq d Q W ins) (hB:If d Q) (hc:GK c=true):∀(n:Nat) (x z:B9),Mod.bits d n x=some z->x.m.acted=false->E6 (Q c) x->x.m.p=E1 c->(∀f ∈ x.t.fr,GD f)->Stp (E1 c) x z
 | 0,x,z,h,ha,hQ,hp,hF=>by
  have hs:x.t.fr = []:=by
   unfold Mod.bits at h
   split at h
   ·rename_i c;rw [ha] at c;simpa using c
   ·cases h
  have:=Iz h (.inr hs)
  subst this
  exact ⟨Ks.refl _ _ _,hF,λ_ _ h=>.inl h⟩
 | n+1,x,z,h,ha,hQ,hp,hF=>by
  by_cases hs:x.t.fr = []
  ·have:=Iz h (.inr hs)
   subst this
   exact ⟨Ks.refl _ _ _,hF,λ_ _ h=>.inl h⟩
  have h:Mod.bits d n (d x)=some z:=by
   unfold Mod.bits at h
   rwa [A7 (by rw [ha];simpa using hs)] at h
  have b:=hB c x hQ hs
  have f:=b.frs hs hF
  have fx:=(D.st x).fix
  have Q2:=D.all c x hc hp hs hQ
  by_cases hac:(d x).m.acted=true
  ·have:=Iz h (.inl hac)
   subst this
   refine ⟨?_,f.1,f.2⟩
   rcases b.mm with m | m
   ·rw [(m.f rfl).2,ha] at hac;cases hac
   ·have:=(m.t rfl).2;rwa [hp] at this
  ·have hac:(d x).m.acted=false:=by simpa using hac
   have em:(d x).m.mm=x.m.mm:=by
    rcases b.mm with m | m
    ·exact (m.f rfl).1
    ·rw [(m.t rfl).1] at hac;cases hac
   have ih:=WI D hB hc n (d x) z h hac Q2 (fx.p.trans hp) f.1
   refine ⟨by have:=ih.one;rwa [fx.id,em] at this,ih.all,λfn a b1=>?_⟩
   rcases f.2 fn a b1 with b2 | ⟨b2,b3⟩
   ·exact ih.bot fn a b2
   ·have:=Iz h (.inr b2)
    subst this
    exact .inr ⟨b2,b3⟩
theorem WJ (D:Jq d Q W ins) (hB:If d Q) {i n k:Nat} {m:Mac} {t:Thr} {z:B9} (h:At Q c i m) (ht:m.th[k]? = some t) (hF:∀f ∈ t.fr,GD f) (hz:Mod.bits d n ⟨m.quiet,t,k⟩=some z):Stp (E1 c) ⟨m.quiet,t,k⟩ z:=
 WI D hB h.ok n _ z hz rfl ⟨(h.t t (OF ht)).q⟩ h.p hF
end
end
section
open Mod
section
variable {K:kQ} {h:A2} {M:Nat} {Ts:List Nat} {R:Hp} {d:B9->B9} {W:B9->Prop} {ins:Int} {Inv:Nat->Mac->Prop} {m:Mac}
theorem W9 {m:Mac} {k:Nat} (h:k < m.th.length):m.th[k]? = some (F7 m k):=by
 unfold F7;rw [X7 h];simp [h]
theorem IA {m z:Mac} {k:Nat} {t:Thr} (h:k < m.th.length):F7 (z.setTh (m.th.set k t)) k=t:=by
 unfold F7 Mod.Mac.setTh
 rw [An]
 simp [h]
end
end
section
set_option maxRecDepth 100000
variable {K:kQ} {h:A2}
abbrev g30 (K:kQ) (h H1:A2) (xa:rQ) (xb xc:Nat) (xd:Bool):Prop:=
 (IE H1 h.size λa b c d e f g=>cf 62 #[.agg #[a,b,c,d,e,f,g],lQ xa xb xc,dQ xd] H1 λa b=>J3 a λc=>D9 c 0 λc=>C9 c λc=>J3 a λa=>D9 a 1 λa=>asInt .i64 a λa=>D4 (a != 0) (K (.tuple #[pQ none,iQ a]) b) (R3 λI15=>(lI .i64 (b.push (oQ #[pQ c,.nilFunc,iQ 0] 115)) (aQ h.size) λa=>D4 (a == 0) (G5 (pQ (some (aQ b.size))) (C7 (b.push (oQ #[pQ c,.nilFunc,iQ 0] 115)) ⟨b.size,1,none⟩ (.func (.func 63) #[] #[]) λd=>G5 (pQ (some (aQ b.size))) (C7 d ⟨b.size,2,none⟩ (iQ 11) λd=>I15 [dQ true,tQ] d))) (D4 (a == 1) (G5 (pQ (some (aQ b.size))) (C7 (b.push (oQ #[pQ c,.nilFunc,iQ 0] 115)) ⟨b.size,1,none⟩ (.func (.func 64) #[] #[]) λa=>G5 (pQ (some (aQ b.size))) (C7 a ⟨b.size,2,none⟩ (iQ 21) λa=>I15 [dQ false,dQ true] a))) (G5 (pQ (some (aQ b.size))) (C7 (b.push (oQ #[pQ c,.nilFunc,iQ 0] 115)) ⟨b.size,1,none⟩ (.func (.func 65) #[] #[]) λa=>G5 (pQ (some (aQ b.size))) (C7 a ⟨b.size,2,none⟩ (iQ 31) λa=>I15 [dQ false,dQ false] a)))))/\(∀(a c:vQ) (d:G4) (d:A2),(I15 [a,c] d)->(K (.tuple #[pQ (some (aQ b.size)),iQ 0]) d))))
def F30 (K:kQ) (h:A2) (xa xb xc xd xe xf xg:Int) (xh:rQ) (xi xj:Nat) (xk:Bool):Prop:=
 (g30 K h (h.push (oQ #[iQ xa,iQ xb,iQ xc,iQ xd,iQ xe,iQ xf,iQ xg] 23)) xh xi xj xk)
theorem call30 {xa xb xc xd xe xf xg:Int} {xh:rQ} {xi xj:Nat} {xk:Bool} (H:F30 K h xa xb xc xd xe xf xg xh xi xj xk):A4 prog 30 #[(.agg #[(iQ xa),(iQ xb),(iQ xc),(iQ xd),(iQ xe),(iQ xf),(iQ xg)]),(lQ xh xi xj),(dQ xk)] h K:=
 cQ Tryz.func30 H
abbrev g77 (K:kQ) (h H1:A2) (xa:rQ) (xb:Int):Prop:=
 (D4 (Option.isNone xa) (K (iQ 1) H1) (cf 121 #[pQ xa,iQ xb] H1 λa b=>C9 a λa=>D4 (Option.isNone a) (K (iQ 2) b) (M0 b h.size λa c d=>cf 61 #[.agg #[a,c,d]] b λa b=>asBool a λa=>D4 (!a) (K (iQ 1) b) (cf 66 #[pQ xa,iQ xb] b λa b=>asBool a λa=>D4 a (K (iQ 5) b) (nP xa λa=>D2 b (a.add 2) λc=>asInt .i64 c λd=>D2 b (aQ h.size) λe=>asInt .i64 e λf=>D2 b ⟨h.size,1,none⟩ λg=>asInt .u32 g λi=>D2 b ⟨h.size,2,none⟩ λj=>asInt .u32 j λk=>(cf 121 #[pQ xa,iQ xb] b λl m=>C9 l λl=>ce m h.size 2 j (ce m h.size 1 g (ce m h.size 0 e (((A3 m (a.add 2))=(some c))/\(((A3 (m.push (oQ #[uQ (wrap .u64 i),uQ (wrap .u64 k)] 178)) (aQ h.size))=(some e))/\(((A3 (m.push (oQ #[uQ (wrap .u64 i),uQ (wrap .u64 k)] 178)) (a.add 2))=(some c))/\(cf 130 #[pQ l,iQ (wrap .i64 (d+f)),lQ (some (aQ m.size)) 2 2] (m.push (oQ #[uQ (wrap .u64 i),uQ (wrap .u64 k)] 178)) λl l=>K (iQ 0) l)))))))/\(((A3 (b.push (oQ #[uQ (wrap .u64 i),uQ (wrap .u64 k)] 178)) (aQ h.size))=(some e))/\(((A3 (b.push (oQ #[uQ (wrap .u64 i),uQ (wrap .u64 k)] 178)) (a.add 2))=(some c))/\(cf 121 #[pQ xa,iQ xb] (b.push (oQ #[uQ (wrap .u64 i),uQ (wrap .u64 k)] 178)) λi k=>C9 i λi=>ce k h.size 2 j (ce k h.size 1 g (ce k h.size 0 e (((A3 k (a.add 2))=(some c))/\(cf 130 #[pQ i,iQ (wrap .i64 (d+f)),lQ (some (aQ b.size)) 2 2] k λa a=>K (iQ 0) a))))))))))))
def F77 (K:kQ) (h:A2) (xa:rQ) (xb xc xd xe:Int):Prop:=
 (g77 K h (h.push (oQ #[iQ xc,.int .u32 xd,.int .u32 xe] 41)) xa xb)
theorem call77 {xa:rQ} {xb xc xd xe:Int} (H:F77 K h xa xb xc xd xe):A4 prog 77 #[(pQ xa),(iQ xb),(.agg #[(iQ xc),(.int .u32 xd),(.int .u32 xe)])] h K:=
 cQ Tryz.func77 H
def F31 (K:kQ) (h:A2) (xa:rQ):Prop:=
 (D4 (Option.isNone xa) (K (pQ none) h) (nP xa λa=>lP h a λa=>K (pQ a) h))
theorem call31 {xa:rQ} (H:F31 K h xa):A4 prog 31 #[(pQ xa)] h K:=
 cQ Tryz.func31 H
def F121 (K:kQ) (h:A2) (xa:rQ) (xb:Int):Prop:=
 (cf 31 #[pQ xa] h λa b=>C9 a λa=>cf 196 #[pQ a,iQ xb] b λa b=>C9 a λa=>K (pQ a) b)
theorem call121 {xa:rQ} {xb:Int} (H:F121 K h xa xb):A4 prog 121 #[(pQ xa),(iQ xb)] h K:=
 cQ Tryz.func121 H
def F66 (K:kQ) (h:A2) (xa:rQ) (xb:Int):Prop:=
 (cf 121 #[pQ xa,iQ xb] h λa b=>C9 a λa=>cf 105 #[pQ a] b λa b=>C9 a λa=>K (dQ (!(Option.isNone a))) b)
theorem call66 {xa:rQ} {xb:Int} (H:F66 K h xa xb):A4 prog 66 #[(pQ xa),(iQ xb)] h K:=
 cQ Tryz.func66 H
def F68 (K:kQ) (h:A2) (xa:rQ) (xb:Int):Prop:=
 (R3 λI0=>(cf 66 #[pQ xa,iQ xb] (h.push (oQ #[iQ 0,.int .u32 0,.int .u32 0] 43)) λa b=>asBool a λa=>D4 (!a) (I0 [dQ true] b) (nP xa λa=>lP b a λa=>nP xa λc=>D2 b (c.add 1) λc=>cf 123 #[pQ a,iQ xb,c] b λa b=>asBool a λa=>I0 [dQ a] b))/\(∀(a:vQ) (b:G4) (b:A2),(I0 [a] b)->(asBool a λa=>D4 a (dw3 b h.size (iQ 0) (.int .u32 0) (.int .u32 0) λa=>M0 a h.size λc d e=>K (.tuple #[.agg #[c,d,e],dQ false]) a) (cf 121 #[pQ xa,iQ xb] b λa b=>C9 a λa=>nP a λa=>D2 b (a.add 2) λc=>D2 b (a.add 3) λd=>D2 b (a.add 4) λa=>C7 (b.push (oQ #[uQ 0,uQ 0,uQ 0] 179)) (aQ b.size) c λc=>C7 c ⟨b.size,1,none⟩ d λc=>C7 c ⟨b.size,2,none⟩ a λa=>bd 0 3 (lI .u64 a (aQ b.size) λc=>bd 1 3 (lI .u64 a ⟨b.size,1,none⟩ λd=>bd 2 3 (lI .u64 a ⟨b.size,2,none⟩ λb=>dw3 a h.size (iQ (wrap .i64 c)) (.int .u32 (wrap .u32 d)) (.int .u32 (wrap .u32 b)) λa=>M0 a h.size λb c d=>K (.tuple #[.agg #[b,c,d],dQ true]) a)))))))
theorem call68 {xa:rQ} {xb:Int} (H:F68 K h xa xb):A4 prog 68 #[(pQ xa),(iQ xb)] h K:=
 cQ Tryz.func68 H
end
section
open Mod
abbrev qC (M f:Nat) (ins:Int):List vQ:=[mP M,.func (.func f) #[] #[],iQ ins]
def CF (Q M f:Nat) (ins:Int) (Ts:List Nat) (m:Mac):Hp:=pt Q (oQ (qC M f ins).toArray 115)*DI M Ts m
theorem Fo {h:A2} {Q M f:Nat} {ins:Int} {Ts:List Nat} {m:Mac} {R:Hp}:A9 h (CF Q M f ins Ts m*R)↔A9 h (pt Q (oQ (qC M f ins).toArray 115)*(DI M Ts m*R)):=by
 unfold CF
 rw [F2]
theorem Aa {h:A2} {Q M f:Nat} {ins:Int} {Ts:List Nat} {m:Mac} {R:Hp}:A9 h (CF Q M f ins Ts m*R)↔A9 h (DI M Ts m*(pt Q (oQ (qC M f ins).toArray 115)*R)):=by
 rw [Fo,D8]
def DC (c:Cl):Bool:=c.op == 0 || ((c.op == 1 || c.op == 2) && (c.key == 0 && c.val == 0))
theorem QI {h:A2} {M:Nat} {Ts:List Nat} {m:Mac} {R:Hp} (H:A9 h (DI M Ts m*R)):Ts.length=m.th.length:=by
 obtain ⟨_,_,hl,_⟩:=W0.1 H
 exact hl.1
section
variable {K:kQ} {h:A2} {Q M f:Nat} {ins:Int} {Ts:List Nat} {m:Mac} {R:Hp}
theorem CY (H:A9 h (CF Q M f ins Ts m*R)) (k:K (mP M) h):A4 prog 31 #[mP Q] h K:=by
 refine call31 ?_
 unfold F31 lP nP
 have H1:=Fo.1 H
 refine D1 (λhh=>by cases hh) (λ_=>?_)
 refine sb ?_
 refine C4 H1.at rfl ?_
 refine sb ?_
 exact k
theorem BH (H:A9 h (CF Q M f ins Ts m*R)) {i:Int} (k0:(i < 0\/m.th.length<=i)->K (pQ none) h) (k:∀T,0<=i->Ts[i.toNat]? = some T->K (mP T) h) :
  A4 prog 121 #[mP Q,iQ i] h K:=by
 refine call121 ?_
 unfold F121 cf
 refine A0 (CY H ?_)
 refine sb ?_
 refine A0 (Lz (Aa.1 H) (λc=>?_) λT h0 hT=>?_)
 ·refine sb ?_
  exact k0 c
 ·refine sb ?_
  exact k T h0 hT
theorem Sb0 (H:A9 h (CF Q M f ins Ts m*R)) {k T:Nat} (hk:Ts[k]? = some T) (hlt:k < m.th.length) {F:kQ} (k0:(F7 m k).fr = []->F (pQ none) h) (k1:∀b o,(F7 m k).fr≠[]->F (pQ (some ⟨b,o,none⟩)) h) :
  A4 prog 105 #[mP T] h F:=by
 obtain ⟨tv,Q2,H2,re2⟩:=Gq (Aa.1 H) hk (W9 hlt)
 exact RQ H2 (λe=>k0 e) λb o hne _ _=>k1 b o hne
theorem Fp (H:A9 h (CF Q M f ins Ts m*R)) {i:Nat} (hi:i < m.th.length) (k:K (dQ (!(F7 m i).fr.isEmpty)) h):A4 prog 66 #[mP Q,iQ i] h K:=by
 refine call66 ?_
 unfold F66 cf
 refine A0 (BH H (λc=>by omega) λT _ hT=>?_)
 refine sb ?_
 rw [X5] at hT
 refine A0 (Sb0 H hT hi (λe=>?_) λb o hne=>?_)
 ·refine sb ?_
  rw [e] at k
  exact k
 ·refine sb ?_
  cases e:(F7 m i).fr with
  | nil=>exact absurd e hne
  | cons a l=>rw [e] at k;exact k
theorem GE {c:Cl} (k:∀h',G9 h.size h h'->K (dQ (DC c)) h'):A4 prog 61 #[.agg #[iQ c.op,.int .u32 c.key,.int .u32 c.val]] h K:=by
 refine Hj (c:=⟨c.op,c.key,c.val⟩) λh' o=>?_
 exact k h' o
theorem LX (H:A9 h (CF Q M f ins Ts m*R)) {k T:Nat} {op:Int} {c:Cl} (hk:Ts[k]? = some T) (hk2:k < m.th.length) (he:(F7 m k).fr = []) (hc:U c.key) (hv:U c.val) {F:kQ}
  (kk:∀h',A9 h' (CF Q M f ins Ts (m.setTh (m.th.set k ((F7 m k).push op [c.key,c.val])))*R)->F tQ h') :
  A4 prog 130 #[mP T,iQ op,lQ (some (aQ h.size)) 2 2] (h.push (oQ #[uQ c.key,uQ c.val] 178)) F:=by
 obtain ⟨tv,Q2,H2,re2⟩:=Gq (Aa.1 H) hk (W9 hk2)
 exact YH H2 [c.key,c.val] rfl (LD hc hv) (by omega) (by show (F7 m k).fr.length < _;rw [he];decide) λh' b o _ _ H3=>kk h' (Aa.2 (re2 _ _ _ rfl (A1.none H3)))
theorem Kh (H:A9 h (CF Q M f ins Ts m*R)) {i:Int} {c:Cl} (hins:0<=ins/\ins<=100) (hc:V c.key/\V c.val)
  (k2:(i < 0\/m.th.length<=i)->∀h',A9 h' (CF Q M f ins Ts m*R)->K (iQ 2) h')
  (k1:0<=i/\i < m.th.length->DC c=false->∀h',A9 h' (CF Q M f ins Ts m*R)->K (iQ 1) h')
  (k5:0<=i/\i < m.th.length->DC c=true->(F7 m i.toNat).fr≠[]->∀h',A9 h' (CF Q M f ins Ts m*R)->K (iQ 5) h')
  (k0:0<=i/\i < m.th.length->DC c=true->(F7 m i.toNat).fr = []->∀h',A9 h' (CF Q M f ins Ts (m.setTh (m.th.set i.toNat ((F7 m i.toNat).push (ins+c.op) [c.key,c.val])))*R)->K (iQ 0) h') :
  A4 prog 77 #[mP Q,iQ i,.agg #[iQ c.op,.int .u32 c.key,.int .u32 c.val]] h K:=by
 refine call77 ?_
 unfold F77 g77 cf ce nP M0
 have H1:=H.push (oQ (CJ c).toArray 41)
 rw [show h.push (oQ #[iQ c.op,.int .u32 c.key,.int .u32 c.val] 41)=h.push (oQ (CJ c).toArray 41) from rfl]
 generalize h.push (oQ (CJ c).toArray 41)=h1 at *
 generalize h.size=CB at *
 rw [D8] at H1
 refine D1 (λhh=>by cases hh) (λ_=>?_)
 refine A0 (BH H1 (λcc=>?_) λT h0 hT=>?_)
 ·refine sb ?_
  exact k2 cc h1 H1.drop2
 refine sb ?_
 have hT':=hT
 have hlen:=QI (Aa.1 H)
 have hlt:i.toNat < m.th.length:=by rw [<- hlen];exact (IW.1 hT).1
 have hir:0<=i/\i < m.th.length:=by omega
 have O:=H1.at2
 refine C4 O rfl (C4 O rfl (C4 O rfl ?_))
 refine A0 (GE λh2 o2=>?_)
 have H2:=H1.old o2
 clear H1 O
 refine sb ?_
 refine D1 (λhr=>k1 hir (by simpa using hr) h2 H2.drop2) (λhr=>?_)
 have hr:DC c=true:=by simpa using hr
 obtain ⟨ii,hii⟩ : ∃ii:Nat,i=ii:=⟨i.toNat,by omega⟩
 subst hii
 rw [X5] at *
 refine A0 (Fp H2 hlt ?_)
 refine sb ?_
 refine D1 (λhb=>k5 hir hr (λe=>by rw [e] at hb;cases hb) h2 H2.drop2) (λhb=>?_)
 have he:(F7 m ii).fr = []:=by
  cases e:(F7 m ii).fr with
  | nil=>rfl
  | cons a l=>rw [e] at hb;cases hb
 have hop:0<=c.op/\c.op<=2:=by
  unfold DC at hr
  simp only [Ku,EA,beq_iff_eq] at hr
  omega
 obtain ⟨hkey,hval⟩:=hc
 have hu1:Mod.u64 c.key=c.key:=by have:=hkey.1;have:=hkey.2;unfold Mod.u64;omega
 have hu2:Mod.u64 c.val=c.val:=by have:=hval.1;have:=hval.2;unfold Mod.u64;omega
 have hu3:G2 (ins+c.op)=ins+c.op:=by unfold G2;omega
 have OQ:=(Fo.1 H2).at
 have OC:=H2.at2
 refine C4 OQ rfl ?_
 refine sb ?_
 refine C4 OC rfl ?_
 refine sb ?_
 refine C4 OC rfl ?_
 refine sb ?_
 refine C4 OC rfl ?_
 refine se3 hu1 hu2 hu3 ?_
 refine ⟨?_,?_⟩
 ·refine A0 (BH H2 (λcc=>by omega) λT2 _ hT2=>?_)
  rw [X5,hT] at hT2
  cases hT2
  refine sb ?_
  repeat (first | refine ⟨E9 (F6 OC rfl),?_⟩ | refine ⟨E9 (F6 OQ rfl),?_⟩ | refine ⟨F6 OC rfl,?_⟩ | refine ⟨F6 OQ rfl,?_⟩)
  refine A0 (LX H2 hT hlt he ⟨hkey.1,by have:=hkey.2;omega⟩ ⟨hval.1,by have:=hval.2;omega⟩ λh3 H3=>?_)
  exact k0 hir hr he h3 H3.drop2
 ·repeat (first | refine ⟨E9 (F6 OC rfl),?_⟩ | refine ⟨E9 (F6 OQ rfl),?_⟩ | refine ⟨F6 OC rfl,?_⟩ | refine ⟨F6 OQ rfl,?_⟩)
  have H3:=H2.push (oQ (V7 [c.key,c.val]).toArray 178)
  rw [D8] at H3
  have OC3:=H3.at3
  have OQ3:=(Fo.1 H3).at
  have e:h2.push (oQ #[uQ c.key,uQ c.val] 178)=h2.push (oQ (V7 [c.key,c.val]).toArray 178):=rfl
  rw [e]
  refine A0 (BH H3 (λcc=>by omega) λT2 _ hT2=>?_)
  rw [X5,hT] at hT2
  cases hT2
  refine sb ?_
  rw [<- e]
  repeat (first | refine ⟨E9 (F6 OC rfl),?_⟩ | refine ⟨E9 (F6 OQ rfl),?_⟩)
  refine A0 (LX H2 hT hlt he ⟨hkey.1,by have:=hkey.2;omega⟩ ⟨hval.1,by have:=hval.2;omega⟩ λh3 H3=>?_)
  exact k0 hir hr he h3 H3.drop2
variable {d:B9->B9} {W:B9->Prop} {Inv:Nat->Mac->Prop}
theorem LY (D:DoC f d W) (H:A9 h (CF Q M f ins Ts m*R)) {i n:Nat} {z:B9} (hi:i < m.th.length) (he:(F7 m i).fr≠[])
  (hz:Mod.bits d n ⟨m.quiet,F7 m i,i⟩=some z) (hs:Sq1 d W n ⟨m.quiet,F7 m i,i⟩) (hid:z.id=i)
  (k1:z.t.fr≠[]->∀h',A9 h' (CF Q M f ins Ts (z.m.setTh (m.th.set i z.t))*R)->K (.tuple #[.agg #[iQ 0,.int .u32 0,.int .u32 0],dQ false]) h')
  (k0:z.t.fr = []->∀h',A9 h' (CF Q M f ins Ts (z.m.setTh (m.th.set i z.t))*R)->K (.tuple #[.agg #[iQ (FU z.t).op,.int .u32 (FU z.t).key,.int .u32 (FU z.t).val],dQ true]) h') :
  A4 prog 68 #[mP Q,iQ i] h K:=by
 refine call68 ?_
 unfold F68 cf bd lP lI nP M0 dw3
 have H1:=H.push (oQ #[iQ 0,.int .u32 0,.int .u32 0] 43)
 generalize h.push (oQ #[iQ 0,.int .u32 0,.int .u32 0] 43)=h1 at *
 generalize h.size=AB at *
 have hlen:=QI (Aa.1 H)
 obtain ⟨T,hT⟩ : ∃T,Ts[i]? = some T:=⟨_,X7 (by omega)⟩
 have hthr:F7 (z.m.setTh (m.th.set i z.t)) i=z.t:=IA hi
 have hl2:(z.m.setTh (m.th.set i z.t)).th.length=m.th.length:=by show (m.th.set i z.t).length=_;rw [Ca]
 refine ⟨λvs h'=>vs = [dQ (!z.t.fr.isEmpty)]/\A9 h' (CF Q M f ins Ts (z.m.setTh (m.th.set i z.t))*(pt AB (oQ #[iQ 0,.int .u32 0,.int .u32 0] 43)*R)),?_,?_⟩
 ·rw [D8] at H1
  refine A0 (Fp H1 hi ?_)
  refine sb ?_
  refine D1 (λhb=>?_) (λ_=>?_)
  ·exact absurd (List.isEmpty_iff.1 (by simpa using hb)) he
  have OQ:=(Fo.1 H1).at
  refine C4 OQ rfl ?_
  refine sb ?_
  refine C4 OQ rfl ?_
  refine A0 (Pm D (Aa.1 H1) (n:=n) (z:=z) (i:=i) (by omega) (by rw [X5];exact W9 hi) hz hs hid λh' H2=>?_)
  rw [X5] at H2
  refine sb ?_
  first | exact ⟨rfl,Aa.2 H2⟩ | exact Aa.2 H2
 generalize z.m.setTh (m.th.set i z.t)=m2 at *
 rintro v12 g13 h14 ⟨e,H2⟩
 cases e
 refine sb ?_
 apply D1<;>intro hb
 ·have hne:z.t.fr≠[]:=λe=>by rw [e] at hb;cases hb
  rw [D8] at H2
  refine F5 (vs:=[iQ 0,.int .u32 0,.int .u32 0]) H2.at rfl (by simp [J0]) λh2 w=>?_
  have H3:=H2.wr w.new w.old
  refine C4 H3.at rfl (C4 H3.at rfl (C4 H3.at rfl ?_))
  exact k1 hne h2 H3.drop
 ·have hnil:z.t.fr = []:=by
   cases e:z.t.fr with
   | nil=>rfl
   | cons a l=>rw [e] at hb;cases hb
  refine A0 (BH H2 (λcc=>by omega) λT2 _ hT2=>?_)
  rw [X5,hT] at hT2
  cases hT2
  refine sb ?_
  obtain ⟨tv,Q2,H3,re⟩:=Gq (Aa.1 H2) hT (W9 (by omega))
  rw [hthr] at H3
  obtain ⟨B,O⟩:=ND (A1.thr H3)
  refine C4 O rfl (C4 O rfl (C4 O rfl ?_))
  have H4:=H2.push (oQ #[uQ 0,uQ 0,uQ 0] 179)
  generalize h14.push (oQ #[uQ 0,uQ 0,uQ 0] 179)=h15 at *
  generalize h14.size=RB at *
  refine F5 (vs:=[uQ (z.t.ret.getD 0 0),uQ (z.t.ret.getD 1 0),uQ (z.t.ret.getD 2 0)]) H4.at rfl (by simp [J0]) λh16 w=>?_
  have H5:=H4.wr w.new w.old
  refine C4 H5.at rfl ?_
  refine sb ?_
  refine C4 H5.at rfl ?_
  refine sb ?_
  refine C4 H5.at rfl ?_
  try simp only [G5,GN,Nat.reduceAdd,Int.reduceLE,Int.reduceLT,Int.reduceToNat,Gn]
  have H6:A9 h16 (pt AB (oQ #[iQ 0,.int .u32 0,.int .u32 0] 43)*(CF Q M f ins Ts m2*R)):=by
   have:=H5.drop
   rw [D8] at this
   exact this
  refine F5 (vs:=[iQ (G2 (z.t.ret.getD 0 0)),.int .u32 (u32 (z.t.ret.getD 1 0)),.int .u32 (u32 (z.t.ret.getD 2 0))]) H6.at rfl (by simp [J0]) λh17 w2=>?_
  have H7:=H6.wr w2.new w2.old
  refine C4 H7.at rfl (C4 H7.at rfl (C4 H7.at rfl ?_))
  exact k0 hnil h17 H7.drop
end
end
section
open Mod
theorem A9.drop3q {h:A2} {A B C R:Hp} (H:A9 h (A*(B*(C*R)))):A9 h (A*(B*R)):=by
 rw [Jk] at H
 exact H.drop
section
variable {K:kQ} {h:A2} {Q M f:Nat} {ins:Int} {Ts:List Nat} {m:Mac} {R:Hp} {d:B9->B9} {W:B9->Prop} {Inv:Nat->Mac->Prop}
def DD (a:Int):Nat:=if a=0 then 63 else if a=1 then 64 else 65
def S1 (a:Int):Int:=if a=0 then 11 else if a=1 then 21 else 31
theorem Oa {c:Mod.Cf} {a:rQ} {cc:Nat} {bs:List Int} {gh:Bool} (H:A9 h R) (hs:∀h' P,A9 h' (P*R)->N5 h' a (bs.map λn=>.int .u8 n)) (hl:bs.length<=65536) (hr:∀n ∈ bs,0<=n/\n < 256)
  (k0:GK c=false->∀h',A9 h' R->K (.tuple #[pQ none,iQ 6]) h') (k1:GK c=true->∀h' Q M Ts,A9 h' (CF Q M (DD c.algo) (S1 c.algo) Ts (L1 c bs gh)*R)->K (.tuple #[mP Q,iQ 0]) h') :
  A4 prog 30 #[cfV c,lQ a bs.length cc,dQ gh] h K:=by
 refine call30 ?_
 unfold F30 g30 cf lI IE
 have H1:=H.push (oQ (Qk c).toArray 23)
 rw [show h.push (oQ #[iQ c.algo,iQ c.threads,iQ c.nodes,iQ c.level,iQ c.batch,iQ c.probes,iQ c.scan] 23)=h.push (oQ (Qk c).toArray 23) from rfl]
 generalize h.push (oQ (Qk c).toArray 23)=h1 at *
 generalize h.size=CB at *
 have O:=H1.at
 refine C4 O rfl (C4 O rfl (C4 O rfl (C4 O rfl (C4 O rfl (C4 O rfl (C4 O rfl ?_))))))
 refine A0 (Sb (c:=c) H1 (λh' P HP=>hs h' Mt (by rw [T8];exact HP.drop.drop)) hl hr (λhc h2 H2=>?_) λhc h2 M Ts H2=>?_)
 ·refine sb ?_
  refine Bk ?_
  refine sb ?_
  refine Bl ?_
  refine sb ?_
  refine D1 (λ_=>?_) (λhh=>by simp at hh)
  exact k0 hc h2 H2.drop
 ·refine sb ?_
  refine Bk ?_
  refine sb ?_
  refine Bl ?_
  refine sb ?_
  refine D1 (λhh=>by simp at hh) (λ_=>?_)
  generalize L1 c bs gh=m at *
  have H3:=H2.push (oQ #[mP M,.nilFunc,iQ 0] 115)
  generalize h2.push (oQ #[mP M,.nilFunc,iQ 0] 115)=h3 at *
  generalize h2.size=QB at *
  refine ⟨λ_ h'=>A9 h' (CF QB M (DD c.algo) (S1 c.algo) Ts m*R),?_,?_⟩
  ·have OC:=(H3.drop.drop).at
   refine C4 OC rfl ?_
   refine sb ?_
   apply D1<;>intro e
   ·have e:c.algo=0:=by simpa using e
    refine H3.st (i:=1) rfl trivial λh4 H4=>?_
    refine H4.st (i:=2) rfl trivial λh5 H5=>?_
    unfold DD S1
    rw [A8 e,A8 e]
    exact Fo.2 (H5.drop3q)
   ·have e:¬ c.algo=0:=by simpa using e
    apply D1<;>intro e1
    ·have e1:c.algo=1:=by simpa using e1
     refine H3.st (i:=1) rfl trivial λh4 H4=>?_
     refine H4.st (i:=2) rfl trivial λh5 H5=>?_
     unfold DD S1
     rw [A7 e,A7 e,A8 e1,A8 e1]
     exact Fo.2 (H5.drop3q)
    ·have e1:¬ c.algo=1:=by simpa using e1
     refine H3.st (i:=1) rfl trivial λh4 H4=>?_
     refine H4.st (i:=2) rfl trivial λh5 H5=>?_
     unfold DD S1
     rw [A7 e,A7 e,A7 e1,A7 e1]
     exact Fo.2 (H5.drop3q)
  ·rintro v24 v25 g26 h27 H4
   exact k1 hc h27 QB M Ts H4
end
end
end Go.Proofs.YtahpbclnkofhfaaGreat
