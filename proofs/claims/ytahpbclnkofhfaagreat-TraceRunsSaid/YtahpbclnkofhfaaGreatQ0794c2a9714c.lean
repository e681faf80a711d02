/- Part 8 of what the proofs of this seat rest on: see the last text of the claim. -/
import Derived.Test.YtahpbclnkofhfaaGreatQ555f0c6ce25a
import Derived.Test.YtahpbclnkofhfaaGreatProg
set_option linter.unusedSimpArgs false
set_option linter.unusedVariables false
set_option linter.ambiguousOpen false
set_option maxRecDepth 20000
namespace Go.Proofs.YtahpbclnkofhfaaGreat
section
open Mod
abbrev fP (b o:Nat):Value:=pQ (some ⟨b,o,none⟩)
def A1 (M T:Nat) (tv:Value) (fo:Option (Nat × Nat)) (x:A9) (R:Hp):Hp:=M3 M tv x.m*(M1 T fo x.t x.id*R)
theorem E4 {h:A2} {a:Addr} {v:Value} {o:Obj} (e:A3 h a=some v):A3 (h.push o) a=some v:=(S0 (S4 _ _ _ (Bv e))).trans e
section
variable {K:kQ} {h:A2} {M T b o N:Nat} {tv:Value} {fo:Option (Nat × Nat)} {x:A9} {R:Hp}
theorem A1.thr (H:A7 h (A1 M T tv fo x R)):A7 h (M1 T fo x.t x.id*(M3 M tv x.m*R)):=D4 _ _ _ ▸ (show A7 h (M3 M tv x.m*(M1 T fo x.t x.id*R)) from H)
theorem A1.ofThr {t:Thr} {m:Mac} {id:Int} (H:A7 h (M1 T fo t id*(M3 M tv m*R))):A7 h (A1 M T tv fo ⟨m,t,id⟩ R):=by
 rw [D4] at H;exact H
theorem A1.none (H:A7 h (A1 M T tv fo x R)):A7 h (A1 M T tv none x R):=A1.ofThr (No (A1.thr H))
theorem A1.B (H:A7 h (A1 M T tv fo x R)):ThB x.t:=OP (A1.thr H)
theorem A1.pl (H:A7 h (A1 M T tv fo x R)):Me x.m.p:=XW H
theorem A1.fB (H:A7 h (A1 M T tv (some (b,o)) x R)):FrB x.f:=(A1.B H).fr _ (SG4 (Ik (A1.thr H)))
theorem A1.old {h':A2} (H:A7 h (A1 M T tv fo x R)) (ol:G4 h.size h h'):A7 h' (A1 M T tv fo x R):=A7.old H ol
theorem A1.new (H:A7 h (A1 M T tv fo x R)) (ob:Obj) (ho:Nd ob:=by intro x e;cases e):A7 (h.push ob) (A1 M T tv fo x (pt h.size ob*R)):=
 A7.ac (A7.push H ob ho) (by unfold A1;ac_rfl)
theorem A1.loc {ob:Obj} (H:A7 h (A1 M T tv fo x (pt N ob*R))):h[N]? = some ob:=A7.at3 H
theorem A1.loc2 {ob:Obj} {Q:Hp} (H:A7 h (A1 M T tv fo x (Q*(pt N ob*R)))):h[N]? = some ob:=A7.at (A7.drop (A7.drop (A7.drop H)))
theorem A1.drp {Q:Hp} (H:A7 h (A1 M T tv fo x (Q*R))):A7 h (A1 M T tv fo x R):=A7.drop2 (A7.ac H (by unfold A1;ac_rfl):A7 h (M3 M tv x.m*(Q*(M1 T fo x.t x.id*R))))
theorem A1.rd (H:A7 h (A1 M T tv (some (b,o)) x R)) {j:Nat} {v:Value} (e:(CD x.f)[j]? = some v):A3 h ⟨b,o+j,Option.none⟩=some v:=Zw (A1.thr H) e
theorem A1.fn (H:A7 h (A1 M T tv (some (b,o)) x R)) {F:Value->Prop}:D1 h ⟨b,o,Option.none⟩ F=F (iQ x.f.fn):=by have e:=A1.rd (j:=0) H rfl;rw [Nat.add_zero] at e;unfold D1;rw [e]
theorem A1.pc (H:A7 h (A1 M T tv (some (b,o)) x R)) {F:Value->Prop}:D1 h ⟨b,o+1,Option.none⟩ F=F (iQ x.f.pc):=by unfold D1;rw [A1.rd (j:=1) H rfl]
theorem A1.rgc (H:A7 h (A1 M T tv (some (b,o)) x R)) {i:Nat} (hi:Nat.ble (i+1) 10=true):A3 h ⟨b,o+(i+2),Option.none⟩=some (uQ (x.f.g i)):=by
 have hi:i < 10:=by rw [Nat.ble_eq] at hi;omega
 refine A1.rd H ?_
 match i,hi with
 | 0,_=>rfl
 | 1,_=>rfl
 | 2,_=>rfl
 | 3,_=>rfl
 | 4,_=>rfl
 | 5,_=>rfl
 | 6,_=>rfl
 | 7,_=>rfl
 | 8,_=>rfl
 | 9,_=>rfl
theorem A1.rg (H:A7 h (A1 M T tv (some (b,o)) x R)) {i:Nat} {F:Value->Prop} (hi:Nat.ble (i+1) 10=true):D1 h ⟨b,o+(i+2),Option.none⟩ F=F (uQ (x.f.g i)):=by unfold D1;rw [A1.rgc H hi]
theorem A1.r (H:A7 h (A1 M T tv (some (b,o)) x R)):(∀F:Value->Prop,D1 h ⟨b,o,Option.none⟩ F=F (iQ x.f.fn))/\(∀F:Value->Prop,D1 h ⟨b,o+1,Option.none⟩ F=F (iQ x.f.pc))/\(∀F:Value->Prop,D1 h ⟨b,o+2,Option.none⟩ F=F (uQ (x.f.g 0)))/\(∀F:Value->Prop,D1 h ⟨b,o+3,Option.none⟩ F=F (uQ (x.f.g 1)))/\(∀F:Value->Prop,D1 h ⟨b,o+4,Option.none⟩ F=F (uQ (x.f.g 2)))/\(∀F:Value->Prop,D1 h ⟨b,o+5,Option.none⟩ F=F (uQ (x.f.g 3)))/\(∀F:Value->Prop,D1 h ⟨b,o+6,Option.none⟩ F=F (uQ (x.f.g 4)))/\(∀F:Value->Prop,D1 h ⟨b,o+7,Option.none⟩ F=F (uQ (x.f.g 5)))/\(∀F:Value->Prop,D1 h ⟨b,o+8,Option.none⟩ F=F (uQ (x.f.g 6)))/\(∀F:Value->Prop,D1 h ⟨b,o+9,Option.none⟩ F=F (uQ (x.f.g 7)))/\(∀F:Value->Prop,D1 h ⟨b,o+10,Option.none⟩ F=F (uQ (x.f.g 8)))/\(∀F:Value->Prop,D1 h ⟨b,o+11,Option.none⟩ F=F (uQ (x.f.g 9))):=
 ⟨λF=>A1.fn H,λF=>A1.pc H,λF=>A1.rg (i:=0) H rfl,λF=>A1.rg (i:=1) H rfl,λF=>A1.rg (i:=2) H rfl,λF=>A1.rg (i:=3) H rfl,λF=>A1.rg (i:=4) H rfl,λF=>A1.rg (i:=5) H rfl,λF=>A1.rg (i:=6) H rfl,λF=>A1.rg (i:=7) H rfl,λF=>A1.rg (i:=8) H rfl,λF=>A1.rg (i:=9) H rfl⟩
theorem A1.c (H:A7 h (A1 M T tv (some (b,o)) x R)):A3 h ⟨b,o+1,Option.none⟩=some (iQ x.f.pc)/\A3 h ⟨b,o+2,Option.none⟩=some (uQ (x.f.g 0))/\A3 h ⟨b,o+3,Option.none⟩=some (uQ (x.f.g 1))/\A3 h ⟨b,o+4,Option.none⟩=some (uQ (x.f.g 2))/\A3 h ⟨b,o+5,Option.none⟩=some (uQ (x.f.g 3))/\A3 h ⟨b,o+6,Option.none⟩=some (uQ (x.f.g 4))/\A3 h ⟨b,o+7,Option.none⟩=some (uQ (x.f.g 5))/\A3 h ⟨b,o+8,Option.none⟩=some (uQ (x.f.g 6))/\A3 h ⟨b,o+9,Option.none⟩=some (uQ (x.f.g 7))/\A3 h ⟨b,o+10,Option.none⟩=some (uQ (x.f.g 8))/\A3 h ⟨b,o+11,Option.none⟩=some (uQ (x.f.g 9)):=
 ⟨A1.rd (j:=1) H rfl,A1.rgc (i:=0) H rfl,A1.rgc (i:=1) H rfl,A1.rgc (i:=2) H rfl,A1.rgc (i:=3) H rfl,A1.rgc (i:=4) H rfl,A1.rgc (i:=5) H rfl,A1.rgc (i:=6) H rfl,A1.rgc (i:=7) H rfl,A1.rgc (i:=8) H rfl,A1.rgc (i:=9) H rfl⟩
theorem A1.cp (H:A7 h (A1 M T tv (some (b,o)) x R)):(∀ob,A3 (h.push ob) ⟨b,o+1,Option.none⟩=some (iQ x.f.pc))/\(∀ob,A3 (h.push ob) ⟨b,o+2,Option.none⟩=some (uQ (x.f.g 0)))/\(∀ob,A3 (h.push ob) ⟨b,o+3,Option.none⟩=some (uQ (x.f.g 1)))/\(∀ob,A3 (h.push ob) ⟨b,o+4,Option.none⟩=some (uQ (x.f.g 2)))/\(∀ob,A3 (h.push ob) ⟨b,o+5,Option.none⟩=some (uQ (x.f.g 3)))/\(∀ob,A3 (h.push ob) ⟨b,o+6,Option.none⟩=some (uQ (x.f.g 4)))/\(∀ob,A3 (h.push ob) ⟨b,o+7,Option.none⟩=some (uQ (x.f.g 5)))/\(∀ob,A3 (h.push ob) ⟨b,o+8,Option.none⟩=some (uQ (x.f.g 6)))/\(∀ob,A3 (h.push ob) ⟨b,o+9,Option.none⟩=some (uQ (x.f.g 7)))/\(∀ob,A3 (h.push ob) ⟨b,o+10,Option.none⟩=some (uQ (x.f.g 8)))/\(∀ob,A3 (h.push ob) ⟨b,o+11,Option.none⟩=some (uQ (x.f.g 9))):=
 ⟨λ_=>E4 (A1.rd (j:=1) H rfl),λ_=>E4 (A1.rgc (i:=0) H rfl),λ_=>E4 (A1.rgc (i:=1) H rfl),λ_=>E4 (A1.rgc (i:=2) H rfl),λ_=>E4 (A1.rgc (i:=3) H rfl),λ_=>E4 (A1.rgc (i:=4) H rfl),λ_=>E4 (A1.rgc (i:=5) H rfl),λ_=>E4 (A1.rgc (i:=6) H rfl),λ_=>E4 (A1.rgc (i:=7) H rfl),λ_=>E4 (A1.rgc (i:=8) H rfl),λ_=>E4 (A1.rgc (i:=9) H rfl)⟩
theorem A1.stR (H:A7 h (A1 M T tv (some (b,o)) x R)) {i:Nat} {v:Int} {F:A2->Prop} (hi:Nat.ble (i+1) 10=true) (hv:U v) (k:∀h',A7 h' (A1 M T tv (some (b,o)) (x.s i v) R)->F h'):C4 h ⟨b,o+(i+2),Option.none⟩ (uQ v) F:=by
 have hi:i < 10:=by rw [Nat.ble_eq] at hi;omega
 have B:=A1.fB H
 exact XY (A1.thr H) (by omega) trivial (by rw [Nat.add_comm];exact SV7 B.len hi v) (B.s i hv) λh' H'=>k h' (A1.ofThr H')
theorem A1.stP (H:A7 h (A1 M T tv (some (b,o)) x R)) {pc:Int} {F:A2->Prop} (k:∀h',A7 h' (A1 M T tv (some (b,o)) (x.pc pc) R)->F h'):C4 h ⟨b,o+1,Option.none⟩ (iQ pc) F:=
 XY (A1.thr H) (by omega) trivial (SR1 _ _) ((A1.fB H).at pc) λh' H'=>k h' (A1.ofThr H')
theorem A1.l {ty:TypeId} {v0 v1 v2:Value} (H:A7 h (A1 M T tv fo x (pt N (oQ #[v0,v1,v2] ty)*R))):(∀F:Value->Prop,D1 h ⟨N,0,Option.none⟩ F=F v0)/\(∀F:Value->Prop,D1 h ⟨N,1,Option.none⟩ F=F v1)/\(∀F:Value->Prop,D1 h ⟨N,2,Option.none⟩ F=F v2)/\A3 h ⟨N,0,Option.none⟩=some v0/\A3 h ⟨N,1,Option.none⟩=some v1/\A3 h ⟨N,2,Option.none⟩=some v2/\(∀ob,A3 (h.push ob) ⟨N,0,Option.none⟩=some v0)/\(∀ob,A3 (h.push ob) ⟨N,1,Option.none⟩=some v1)/\(∀ob,A3 (h.push ob) ⟨N,2,Option.none⟩=some v2):=by
 have e:=A1.loc H
 have c0:A3 h ⟨N,0,Option.none⟩=some v0:=E0 e 0
 have c1:A3 h ⟨N,1,Option.none⟩=some v1:=E0 e 1
 have c2:A3 h ⟨N,2,Option.none⟩=some v2:=E0 e 2
 refine ⟨λF=>?_,λF=>?_,λF=>?_,c0,c1,c2,λ_=>E4 c0,λ_=>E4 c1,λ_=>E4 c2⟩
 ·unfold D1;rw [c0]
 ·unfold D1;rw [c1]
 ·unfold D1;rw [c2]
theorem A1.l2 {Q:Hp} {ty:TypeId} {v0 v1 v2:Value} (H:A7 h (A1 M T tv fo x (Q*(pt N (oQ #[v0,v1,v2] ty)*R)))):(∀F:Value->Prop,D1 h ⟨N,0,Option.none⟩ F=F v0)/\(∀F:Value->Prop,D1 h ⟨N,1,Option.none⟩ F=F v1)/\(∀F:Value->Prop,D1 h ⟨N,2,Option.none⟩ F=F v2)/\A3 h ⟨N,0,Option.none⟩=some v0/\A3 h ⟨N,1,Option.none⟩=some v1/\A3 h ⟨N,2,Option.none⟩=some v2/\(∀ob,A3 (h.push ob) ⟨N,0,Option.none⟩=some v0)/\(∀ob,A3 (h.push ob) ⟨N,1,Option.none⟩=some v1)/\(∀ob,A3 (h.push ob) ⟨N,2,Option.none⟩=some v2):=by
 have e:=A1.loc2 H
 have c0:A3 h ⟨N,0,Option.none⟩=some v0:=E0 e 0
 have c1:A3 h ⟨N,1,Option.none⟩=some v1:=E0 e 1
 have c2:A3 h ⟨N,2,Option.none⟩=some v2:=E0 e 2
 refine ⟨λF=>?_,λF=>?_,λF=>?_,c0,c1,c2,λ_=>E4 c0,λ_=>E4 c1,λ_=>E4 c2⟩
 ·unfold D1;rw [c0]
 ·unfold D1;rw [c1]
 ·unfold D1;rw [c2]
theorem M0 (H:A7 h (A1 M T tv fo x R)) {a:Int} (ha:iN a) (hs:x.m.mm.st < 1099511627776) (k:∀h',A7 h' (A1 M T tv fo (x.load a).2 R)->U (x.load a).1->K (uQ (x.load a).1) h') :
 A5 Tryz.prog 147 #[mP M,iQ a] h K:=Lj H ha hs k
theorem T8 (H:A7 h (A1 M T tv fo x R)) {a v:Int} (ha:iN a) (hv:U v) (hs:x.m.mm.st < 1099511627776) (k:∀h',A7 h' (A1 M T tv fo (x.store a v) R)->K tQ h') :
 A5 Tryz.prog 212 #[mP M,iQ a,uQ v] h K:=Rn H ha hv hs k
theorem Rt (H:A7 h (A1 M T tv fo x R)) {a p n:Int} (ha:iN a) (hn:U n) (hs:x.m.mm.st < 1099511627776) (k:∀h',A7 h' (A1 M T tv fo (x.cas a p n).2 R)->K (dQ (x.cas a p n).1) h') :
 A5 Tryz.prog 219 #[mP M,iQ a,uQ p,uQ n] h K:=Zs H ha hn hs k
theorem SG6 (H:A7 h (A1 M T tv fo x R)) {a d:Int} (ha:iN a) (hs:x.m.mm.st < 1099511627776) (k:∀h',A7 h' (A1 M T tv fo (x.add a d).2 R)->U (x.add a d).1->K (uQ (x.add a d).1) h') :
 A5 Tryz.prog 188 #[mP M,iQ a,uQ d] h K:=Zt H ha hs k
theorem SV8 (H:A7 h (A1 M T tv fo x R)) {a p n a2 p2:Int} (ha:iN a) (ha2:iN a2) (hn:U n) (hs:x.m.mm.st < 1099511627776) (k:∀h',A7 h' (A1 M T tv fo { x with m:=(x.m.dcss a p n a2 p2).2 } R)->K (dQ (x.m.dcss a p n a2 p2).1) h') :
 A5 Tryz.prog 227 #[mP M,iQ a,uQ p,uQ n,iQ a2,uQ p2] h K:=Vr H ha ha2 hn hs k
theorem SV9 (H:A7 h (A1 M T tv fo x R)) {a p n a2 p2 n2:Int} (ha:iN a) (ha2:iN a2) (hn:U n) (hn2:U n2) (hs:x.m.mm.st < 1099511627776) (k:∀h',A7 h' (A1 M T tv fo { x with m:=(x.m.dcas a p n a2 p2 n2).2 } R)->K (dQ (x.m.dcas a p n a2 p2 n2).1) h') :
 A5 Tryz.prog 229 #[mP M,iQ a,uQ p,uQ n,iQ a2,uQ p2,uQ n2] h K:=Vs H ha ha2 hn hn2 hs k
theorem Ef (H:A7 h (A1 M T tv fo x R)) (k:∀h',A7 h' (A1 M T tv fo x R)->K (Mt x.m.p) h') :
 A5 Tryz.prog 79 #[mP M] h K:=Rp H k
theorem AX (H:A7 h (A1 M T tv fo x R)) (k:∀h',G4 h.size h h'->K (Mt x.m.p) h') :
 A5 Tryz.prog 79 #[mP M] h K:=Fb H k
theorem SW0 (H:A7 h (A1 M T tv fo x R)) {i:Int} (hi:iN i) (k:∀h',A7 h' (A1 M T tv fo (x.gh λg=>g.turn i 0 1 1) R)->K tQ h') :
 A5 Tryz.prog 294 #[mP M,iQ i] h K:=Zu H hi k
theorem SW1 (H:A7 h (A1 M T tv fo x R)) {i:Int} (hi:iN i) (k:∀h',A7 h' (A1 M T tv fo (x.gh λg=>g.turn i 1 2 2) R)->K tQ h') :
 A5 Tryz.prog 234 #[mP M,iQ i] h K:=Zv H hi k
theorem SR4 (H:A7 h (A1 M T tv fo x R)) {i:Int} (hi:iN i) (k:∀h',A7 h' (A1 M T tv fo (x.gh λg=>g.turn i 2 0 3) R)->K tQ h') :
 A5 Tryz.prog 295 #[mP M,iQ i] h K:=Vt H hi k
theorem OU (H:A7 h (A1 M T tv fo x R)) (k0:x.t.fr = []->K (pQ Option.none) h)
 (k:∀b o,x.t.fr≠[]->(∀b' o',fo=some (b',o')->b=b'/\o=o')->A7 h (A1 M T tv (some (b,o)) x R)->K (fP b o) h) :
 A5 Tryz.prog 105 #[mP T] h K:=Sq2 (A1.thr H) k0 λb o h1 h2 H'=>k b o h1 h2 (A1.ofThr H')
theorem Ru (H:A7 h (A1 M T tv fo x R)) {fn:Int} {a:Option Addr} {l c:Nat} {rs:List Int} (A:Z9 R a l c rs) (hl:l<=10) (hd:x.t.fr.length < 1073741824)
 (k:∀h' b o,(∀b' o',fo=some (b',o')->¬ (b=b'/\o=o'))->Fx h' fo x.f->A7 h' (A1 M T tv (some (b,o)) (x.push fn rs) R)->K tQ h') :
 A5 Tryz.prog 130 #[mP T,iQ fn,lQ a l c] h K:=Zx (A1.thr H) A.skip hl hd λh' b o h1 h2 H'=>k h' b o h1 h2 (A1.ofThr H')
theorem Mx (H:A7 h (A1 M T tv fo x R)) {a:Option Addr} {l c:Nat} {rs:List Int} (A:Z9 R a l c rs) (hl:l<=3) (k:∀h',A7 h' (A1 M T tv Option.none (x.pop rs) R)->K tQ h') :
 A5 Tryz.prog 106 #[mP T,lQ a l c] h K:=Sq5 (A1.thr H) A.skip hl λh' H'=>k h' (A1.ofThr H')
theorem Vv (H:A7 h (A1 M T tv fo x R)) {fn:Int} {l:Nat} (rs:List Int) {ty:TypeId} (hr:rs.length=l) (hu:∀v ∈ rs,U v) (hl:l<=10) (hd:x.t.fr.length < 1073741824)
  (k:∀h' b o,(∀b' o',fo=some (b',o')->¬ (b=b'/\o=o'))->Fx h' fo x.f->A7 h' (A1 M T tv (some (b,o)) (x.push fn rs) R)->K tQ h') :
  A5 Tryz.prog 130 #[mP T,iQ fn,lQ (some ⟨h.size,0,Option.none⟩) l l] (h.push (oQ (U8 rs).toArray ty)) K:=
 Ru (A1.new H (oQ (U8 rs).toArray ty)) (Z9.mk' hr hu) hl hd λh' b o h1 h2 H'=>k h' b o h1 h2 (A1.drp H')
theorem Nr (H:A7 h (A1 M T tv fo x R)) {l:Nat} (rs:List Int) {ty:TypeId} (hr:rs.length=l) (hu:∀v ∈ rs,U v) (hl:l<=3) (k:∀h',A7 h' (A1 M T tv Option.none (x.pop rs) R)->K tQ h') :
  A5 Tryz.prog 106 #[mP T,lQ (some ⟨h.size,0,Option.none⟩) l l] (h.push (oQ (U8 rs).toArray ty)) K:=
 Mx (A1.new H (oQ (U8 rs).toArray ty)) (Z9.mk' hr hu) hl λh' H'=>k h' (A1.drp H')
end
theorem An (x:A9) (i:Nat) (v:Int):(x.s i v).t.fr.length<=x.t.fr.length+1:=by
 show (x.t.fr.dropLast ++ [_]).length<=_
 simp
theorem Ex (x:A9) (pc:Int):(x.pc pc).t.fr.length<=x.t.fr.length+1:=by
 show (x.t.fr.dropLast ++ [_]).length<=_
 simp
theorem Hu (x:A9) (f:M6):(x.setF f).f=f:=by unfold A9.setF A9.f Thr.setTop Thr.top;simp
theorem CM (x:A9) (i:Nat) (v:Int):(x.s i v).f=x.f.s i v:=Hu _ _
theorem AY (x:A9) (pc:Int):(x.pc pc).f=x.f.at pc:=Hu _ _
theorem CN (f:M6) (pc:Int) (i:Nat):(f.at pc).g i=f.g i:=rfl
theorem BY (f:M6) (pc:Int):(f.at pc).pc=pc:=rfl
theorem Ao (f:M6) (pc:Int):(f.at pc).fn=f.fn:=rfl
theorem IY (f:M6) (i:Nat) (v:Int):(f.s i v).pc=f.pc:=rfl
theorem Du (f:M6) (i:Nat) (v:Int):(f.s i v).fn=f.fn:=rfl
theorem SM0 (f:M6) (i:Nat) (v:Int):(f.s i v).r.length=f.r.length:=by unfold M6.s;rw [List.length_set]
theorem Sq6 (f:M6) (pc:Int):(f.at pc).r.length=f.r.length:=rfl
theorem B0 (f:M6) {i j:Nat} (h:i≠j) (v:Int):(f.s i v).g j=f.g j:=by
 unfold M6.s M6.g
 simp only [List.getD_eq_getElem?_getD]
 rw [List.getElem?_set_ne h]
theorem G5 {f:M6} {i:Nat} (hl:f.r.length=10) (hi:i < 10) (v:Int):(f.s i v).g i=v:=by
 unfold M6.s M6.g
 simp only [List.getD_eq_getElem?_getD]
 rw [List.getElem?_set_self (by omega)]
 rfl
theorem X9 (x:A9) (a:Int):(x.load a).2.f=x.f:=rfl
theorem Ap (x:A9) (a v:Int):(x.store a v).f=x.f:=rfl
theorem Eg (x:A9) (a p n:Int):(x.cas a p n).2.f=x.f:=rfl
theorem Eh (x:A9) (a d:Int):(x.add a d).2.f=x.f:=rfl
theorem Il (x:A9) (g:Gh->Gh):(x.gh g).f=x.f:=rfl
theorem t_load (x:A9) (a:Int):(x.load a).2.t=x.t:=rfl
theorem t_store (x:A9) (a v:Int):(x.store a v).t=x.t:=rfl
theorem t_cas (x:A9) (a p n:Int):(x.cas a p n).2.t=x.t:=rfl
theorem t_add (x:A9) (a d:Int):(x.add a d).2.t=x.t:=rfl
theorem SM1 (x:A9) (i:Nat) (v:Int) (j:Nat):(x.s i v).ret j=x.ret j:=rfl
theorem Sq7 (x:A9) (pc:Int) (j:Nat):(x.pc pc).ret j=x.ret j:=rfl
theorem Rv (x:A9) (a:Int) (j:Nat):(x.load a).2.ret j=x.ret j:=rfl
theorem Ns (x:A9) (a v:Int) (j:Nat):(x.store a v).ret j=x.ret j:=rfl
theorem Yb (x:A9) (a p n:Int) (j:Nat):(x.cas a p n).2.ret j=x.ret j:=rfl
theorem S5 (n:Int):iN (F5 n):=by unfold F5;split <;> constructor <;> omega
theorem FZ (w:Int):0<=J2 w/\J2 w < 65536:=⟨by unfold J2;omega,by unfold J2;omega⟩
theorem Kr (w:Int):iN (J2 w):=by have:=FZ w;constructor <;> omega
theorem T9 (w:Int):U (J2 w):=by have:=FZ w;constructor <;> omega
theorem Lq (w:Int):u64 (J2 w)=J2 w:=by have:=FZ w;unfold u64;omega
theorem OV (n:Int):u64 (F5 n)=u64 n:=by unfold F5 u64;split <;> omega
theorem U.u64 {n:Int} (h:U n):Mod.u64 n=n:=by unfold Mod.u64;have:=h.1;have:=h.2;omega
theorem U.lit {n:Int} (h:decide (0<=n/\n < 18446744073709551616)=true):U n:=(of_decide_eq_true h:0<=n/\n < 18446744073709551616)
theorem Rw (n:Int):IntKind.wrap .u64 n=Mod.u64 n:=IW n
theorem AZ {p:Pl} {F:Value->Value->Value->Value->Value->Value->Value->Value->Value->Value->Value->Value->Value->Value->Value->Prop} (k:F (iQ p.c.algo) (iQ p.c.threads) (iQ p.c.nodes) (iQ p.c.level) (iQ p.c.batch) (iQ p.c.probes) (iQ p.c.scan) (iQ p.slots) (iQ p.width) (iQ p.sent) (iQ p.hazards) (iQ p.links) (iQ p.nodes) (iQ p.tree) (iQ p.size)) :
 asAgg (Mt p) λvs=>G0 vs 15 (D2 vs 0 λv0=>D2 vs 1 λv1=>D2 vs 2 λv2=>D2 vs 3 λv3=>D2 vs 4 λv4=>D2 vs 5 λv5=>D2 vs 6 λv6=>D2 vs 7 λv7=>D2 vs 8 λv8=>D2 vs 9 λv9=>D2 vs 10 λv10=>D2 vs 11 λv11=>D2 vs 12 λv12=>D2 vs 13 λv13=>D2 vs 14 λv14=>F v0 v1 v2 v3 v4 v5 v6 v7 v8 v9 v10 v11 v12 v13 v14):=k
theorem Yc {p:Pl} (B:Me p) (n:Int):iN (p.link n):=by
 have:=B.li
 unfold Pl.link
 split
 ·have:=B.no;constructor <;> omega
 ·constructor <;> omega
theorem W5 {v:Int} (h:U v):∀u ∈ [v],U u:=λu hu=>by rw [List.mem_singleton.1 hu];exact h
theorem F2:type_of% (And.intro @C9 (And.intro @L8 (And.intro @A6 (And.intro @EX (And.intro @B6 (And.intro @C6 (And.intro @L9 (And.intro @Co (And.intro @E1 (And.intro @Nat.zero_add (And.intro @Nat.mul_one (And.intro @Nat.add_assoc (And.intro @Int.toNat_natCast (And.intro @true_and (And.intro @and_true (And.intro (@Option.isNone_some Addr) (And.intro (@Option.isNone_none Addr) (And.intro @Bool.not_false (And.intro @Bool.not_true (And.intro @G2 (And.intro @E2 (And.intro @FT (And.intro @Rw (And.intro @Lq @OV)))))))))))))))))))))))):=And.intro @C9 (And.intro @L8 (And.intro @A6 (And.intro @EX (And.intro @B6 (And.intro @C6 (And.intro @L9 (And.intro @Co (And.intro @E1 (And.intro @Nat.zero_add (And.intro @Nat.mul_one (And.intro @Nat.add_assoc (And.intro @Int.toNat_natCast (And.intro @true_and (And.intro @and_true (And.intro (@Option.isNone_some Addr) (And.intro (@Option.isNone_none Addr) (And.intro @Bool.not_false (And.intro @Bool.not_true (And.intro @G2 (And.intro @E2 (And.intro @FT (And.intro @Rw (And.intro @Lq @OV)))))))))))))))))))))))
theorem J0:type_of% (And.intro @SM1 (And.intro @Sq7 (And.intro @Rv (And.intro @Ns (And.intro @Yb (And.intro @AY (And.intro @CM (And.intro @X9 (And.intro @Ap (And.intro @Eg (And.intro @Eh (And.intro @Il (And.intro @t_load (And.intro @t_store (And.intro @t_cas (And.intro @t_add (And.intro @CN (And.intro @BY (And.intro @Ao (And.intro @IY (And.intro @Du (And.intro @SM0 @Sq6)))))))))))))))))))))):=And.intro @SM1 (And.intro @Sq7 (And.intro @Rv (And.intro @Ns (And.intro @Yb (And.intro @AY (And.intro @CM (And.intro @X9 (And.intro @Ap (And.intro @Eg (And.intro @Eh (And.intro @Il (And.intro @t_load (And.intro @t_store (And.intro @t_cas (And.intro @t_add (And.intro @CN (And.intro @BY (And.intro @Ao (And.intro @IY (And.intro @Du (And.intro @SM0 @Sq6)))))))))))))))))))))
end
section
set_option maxRecDepth 100000
variable {K:kQ} {h:A2}
def F111 (K:kQ) (h:A2) (xa xb:Option Addr):Prop:=
 (cf 105 #[pQ xb] h λa b=>C2 a λa=>O0 λI3=>(D0 (Option.isNone a) (I3 [dQ true,dQ true] b) (I3 [dQ (Option.isNone xa),dQ (Option.isNone xa)] b))/\(∀(b c:Value) (d:F8) (d:A2),(I3 [b,c] d)->(asBool b λb=>D0 b (K tQ d) (nP a λb=>lI .i64 d b λb=>D0 (b == 3) (cf 161 #[pQ xa,pQ xb,pQ a] d λb b=>K tQ b) (nP a λb=>lI .i64 d b λb=>D0 (b == 4) (cf 162 #[pQ xa,pQ xb,pQ a] d λb b=>K tQ b) (nP a λb=>lI .i64 d b λb=>D0 (b == 5) (cf 163 #[pQ xa,pQ xb,pQ a] d λb b=>K tQ b) (nP a λb=>lI .i64 d b λb=>D0 (b == 6) (cf 164 #[pQ xa,pQ xb,pQ a] d λa a=>K tQ a) (cf 165 #[pQ xa,pQ xb] d λa a=>K tQ a))))))))
theorem call111 {xa xb:Option Addr} (H:F111 K h xa xb):A5 Tryz.prog 111 #[(pQ xa),(pQ xb)] h K:=
 cQ Tryz.func111 H
def F161 (K:kQ) (h:A2) (xa xb xc:Option Addr):Prop:=
 (nP xc λa=>bd 1 10 (lI .u64 h (a.add 3) λa=>nP xc λb=>lI .i64 h (b.add 1) λb=>D0 (b == 0) (nP xc λc=>cf 147 #[pQ xa,iQ (IntKind.wrap .i64 a)] h λd e=>asInt .u64 d λd=>bd 2 10 (C4 e (c.add 4) (uQ d) λc=>nP xc λd=>C4 c (d.add 1) (iQ 1) λc=>nP xc λd=>bd 2 10 (lI .u64 c (d.add 4) λd=>cf 231 #[uQ d] c λc d=>asInt .u64 c λc=>D0 (c == 0) (nP xc λc=>bd 2 10 (lI .u64 d (c.add 4) λc=>cf 106 #[pQ xb,lQ (some (aQ d.size)) 1 1] (d.push (oQ #[uQ c] 178)) λc c=>K tQ c)) (K tQ d)))) (D0 (b == 1) (nP xb λb=>D1 h b λc=>asInt .i64 c λd=>nP xc λe=>bd 0 10 (D1 h (e.add 2) λf=>asInt .u64 f λg=>nP xc λi=>bd 2 10 (D1 h (i.add 4) λj=>asInt .u64 j λk=>cf 79 #[pQ xa] h λl m=>asAgg l λl=>G0 l 15 (N0 l λl n o p q r s t u v w x y z A=>((A3 m (i.add 4))=(some j))/\(((A3 m (e.add 2))=(some f))/\(((A3 m b)=(some c))/\(cf 232 #[.agg #[l,n,o,p,q,r,s,t,u,v,w,x,y,z,A],iQ d,iQ (IntKind.wrap .i64 g)] m λb c=>asInt .i64 b λb=>((A3 c (i.add 4))=(some j))/\(cf 231 #[uQ k] c λc d=>asInt .u64 c λc=>cf 212 #[pQ xa,iQ b,uQ c] d λb b=>nP xc λc=>C4 b (c.add 1) (iQ 2) λb=>K tQ b)))))))) (cf 147 #[pQ xa,iQ (IntKind.wrap .i64 a)] h λa b=>asInt .u64 a λa=>O0 λI64=>(nP xc λc=>bd 2 10 (lI .u64 b (c.add 4) λc=>D0 (a == c) (I64 [dQ true] b) (cf 231 #[uQ a] b λb c=>asInt .u64 b λb=>I64 [dQ (b == 0)] c)))/\(∀(b:Value) (c:F8) (c:A2),(I64 [b] c)->(asBool b λb=>D0 b (cf 106 #[pQ xb,lQ (some (aQ c.size)) 1 1] (c.push (oQ #[uQ a] 178)) λb b=>K tQ b) (nP xc λb=>bd 2 10 (C4 c (b.add 4) (uQ a) λa=>nP xc λb=>C4 a (b.add 1) (iQ 1) λa=>K tQ a))))))))
theorem call161 {xa xb xc:Option Addr} (H:F161 K h xa xb xc):A5 Tryz.prog 161 #[(pQ xa),(pQ xb),(pQ xc)] h K:=
 cQ Tryz.func161 H
def F162 (K:kQ) (h:A2) (xa xb xc:Option Addr):Prop:=
 (nP xc λa=>D1 h (a.add 1) λb=>asInt .i64 b λc=>cf 79 #[pQ xa] h λd e=>asAgg d λd=>G0 d 15 (N0 d λd f g i j k l m n o p q r s t=>((A3 e (a.add 1))=(some b))/\(cf 233 #[.agg #[d,f,g,i,j,k,l,m,n,o,p,q,r,s,t]] e λd e=>asInt .i64 d λd=>((A3 e (a.add 1))=(some b))/\(D0 (decide (c >= d)) (cf 106 #[pQ xb,lQ none 0 0] e λa a=>K tQ a) (nP xb λa=>D1 e a λb=>asInt .i64 b λc=>nP xc λd=>D1 e (d.add 1) λf=>asInt .i64 f λg=>cf 79 #[pQ xa] e λe i=>asAgg e λe=>G0 e 15 (N0 e λe j k l m n o p q r s t u v w=>((A3 i (d.add 1))=(some f))/\(((A3 i a)=(some b))/\(cf 232 #[.agg #[e,j,k,l,m,n,o,p,q,r,s,t,u,v,w],iQ c,iQ g] i λa b=>asInt .i64 a λa=>cf 212 #[pQ xa,iQ a,uQ 0] b λa a=>nP xc λb=>lI .i64 a (b.add 1) λb=>nP xc λc=>C4 a (c.add 1) (iQ (IntKind.wrap .i64 (b+1))) λa=>K tQ a))))))))
theorem call162 {xa xb xc:Option Addr} (H:F162 K h xa xb xc):A5 Tryz.prog 162 #[(pQ xa),(pQ xb),(pQ xc)] h K:=
 cQ Tryz.func162 H
def F163 (K:kQ) (h:A2) (xa xb xc:Option Addr):Prop:=
 (nP xc λa=>bd 0 10 (lI .u64 h (a.add 2) λa=>cf 234 #[pQ xa,iQ (IntKind.wrap .i64 a)] h λb b=>nP xb λc=>cf 235 #[pQ (some (c.add 8)),iQ (IntKind.wrap .i64 a)] b λa a=>cf 106 #[pQ xb,lQ none 0 0] a λa a=>nP xb λb=>cf 211 #[pQ (some (b.add 8))] a λa b=>asInt .i64 a λa=>cf 79 #[pQ xa] b λb c=>asAgg b λb=>G0 b 15 (N0 b λb d e f g i j k l m n o p q r=>cf 139 #[.agg #[b,d,e,f,g,i,j,k,l,m,n,o,p,q,r]] c λb c=>asAgg b λb=>G0 b 7 (Nh b λb b b b b b b=>asInt .i64 b λb=>D0 (decide (a >= b)) (cf 130 #[pQ xb,iQ 6,lQ none 0 0] c λa a=>K tQ a) (K tQ c)))))
theorem call163 {xa xb xc:Option Addr} (H:F163 K h xa xb xc):A5 Tryz.prog 163 #[(pQ xa),(pQ xb),(pQ xc)] h K:=
 cQ Tryz.func163 H
def F164 (K:kQ) (h:A2) (xa xb xc:Option Addr):Prop:=
 (cf 79 #[pQ xa] (h.push (oQ #[pQ xb] 176)) λa b=>asAgg a λa=>G0 a 15 (N0 a λa c d e f g i j k l m n o p q=>C4 (b.push (oQ Ae 117)) (aQ b.size) a λa=>C4 a ⟨b.size,1,none⟩ c λa=>C4 a ⟨b.size,2,none⟩ d λa=>C4 a ⟨b.size,3,none⟩ e λa=>C4 a ⟨b.size,4,none⟩ f λa=>C4 a ⟨b.size,5,none⟩ g λa=>C4 a ⟨b.size,6,none⟩ i λa=>C4 a ⟨b.size,7,none⟩ j λa=>C4 a ⟨b.size,8,none⟩ k λa=>C4 a ⟨b.size,9,none⟩ l λa=>C4 a ⟨b.size,10,none⟩ m λa=>C4 a ⟨b.size,11,none⟩ n λa=>C4 a ⟨b.size,12,none⟩ o λa=>C4 a ⟨b.size,13,none⟩ p λa=>C4 a ⟨b.size,14,none⟩ q λa=>Bs a b.size λc d e f g i j k l m n o p q r=>Bs a b.size λs t u v w x y z A B C D E F G=>cf 233 #[.agg #[c,d,e,f,g,i,j,k,l,m,n,o,p,q,r]] a λa c=>asInt .i64 a λa=>ce c b.size 0 s (ce c b.size 1 t (ce c b.size 2 u (ce c b.size 3 v (ce c b.size 4 w (ce c b.size 5 x (ce c b.size 6 y (ce c b.size 7 z (ce c b.size 8 A (ce c b.size 9 B (ce c b.size 10 C (ce c b.size 11 D (ce c b.size 12 E (ce c b.size 13 F (ce c b.size 14 G (cf 139 #[.agg #[s,t,u,v,w,x,y,z,A,B,C,D,E,F,G]] c λc d=>asAgg c λc=>G0 c 7 (Nh c λc c e e e e e=>asInt .i64 c λc=>O0 λI77=>(nP xc λe=>lI .i64 d (e.add 1) λe=>D0 (e == 0) (lP d (aQ h.size) λe=>nP e λe=>C4 d (e.add 9) (lQ none 0 0) λe=>I77 [] e) (I77 [] d))/\(∀(d:F8) (d:A2),(I77 [] d)->(nP xc λe=>lI .i64 d (e.add 1) λe=>D0 (decide (e < (IntKind.wrap .i64 (a*c)))) (D1 d (aQ h.size) λe=>C2 e λf=>D1 d (aQ h.size) λg=>C2 g λi=>nP i λi=>D1 d (i.add 9) λj=>C8 j λk l m=>Bs d b.size λn o p q r s t u v w x y z A B=>nP xc λC=>D1 d (Addr.add C 1) λD=>asInt .i64 D λE=>Bs d b.size λF G H I J L M N O P Q R S T U=>nP xc λV=>D1 d (Addr.add V 1) λW=>asInt .i64 W λX=>Bs d b.size λY Z aa ab ac ad ae af ag ah ai aj ak al am=>cf 233 #[.agg #[F,G,H,I,J,L,M,N,O,P,Q,R,S,T,U]] d λF G=>asInt .i64 F λF=>ce G b.size 0 Y (ce G b.size 1 Z (ce G b.size 2 aa (ce G b.size 3 ab (ce G b.size 4 ac (ce G b.size 5 ad (ce G b.size 6 ae (ce G b.size 7 af (ce G b.size 8 ag (ce G b.size 9 ah (ce G b.size 10 ai (ce G b.size 11 aj (ce G b.size 12 ak (ce G b.size 13 al (ce G b.size 14 am (((A3 G (Addr.add V 1))=(some W))/\(((A3 G (Addr.add C 1))=(some D))/\(Sn9 G b.size n o p q r s t u v w x y z A B (((A3 G (i.add 9))=(some j))/\(ce G h.size 0 g (ce G h.size 0 e (((F:Int)≠0)/\(cf 233 #[.agg #[Y,Z,aa,ab,ac,ad,ae,af,ag,ah,ai,aj,ak,al,am]] G λG H=>asInt .i64 G λG=>((A3 H (Addr.add V 1))=(some W))/\(((A3 H (Addr.add C 1))=(some D))/\(Sn9 H b.size n o p q r s t u v w x y z A B (((A3 H (i.add 9))=(some j))/\(ce H h.size 0 g (ce H h.size 0 e (((G:Int)≠0)/\(cf 232 #[.agg #[n,o,p,q,r,s,t,u,v,w,x,y,z,A,B],iQ (IntKind.wrap .i64 (Int.tdiv E F)),iQ (Int.tmod X G)] H λb n=>asInt .i64 b λb=>((A3 n (i.add 9))=(some j))/\(ce n h.size 0 g (ce n h.size 0 e (cf 147 #[pQ xa,iQ b] n λb n=>asInt .u64 b λb=>((A3 n (i.add 9))=(some j))/\(ce n h.size 0 g (ce n h.size 0 e (((A3 (n.push (oQ #[iQ (IntKind.wrap .i64 b)] 3)) (i.add 9))=(some j))/\(((A3 (n.push (oQ #[iQ (IntKind.wrap .i64 b)] 3)) (aQ h.size))=(some g))/\(((A3 (n.push (oQ #[iQ (IntKind.wrap .i64 b)] 3)) (aQ h.size))=(some e))/\(T2 Tryz.prog #[25,25] 25 #[lQ k l m,lQ (some (aQ n.size)) 1 1] (n.push (oQ #[iQ (IntKind.wrap .i64 b)] 3)) λb g=>C8 b λb i j=>ce g h.size 0 e (nP f λe=>C4 g (e.add 9) (lQ b i j) λb=>nP xc λe=>lI .i64 b (e.add 1) λe=>nP xc λf=>C4 b (f.add 1) (iQ (IntKind.wrap .i64 (e+1))) λb=>K tQ b)))))))))))))))))))))))))))))))))))))))) (O0 λI174=>(nP xc λb=>lI .i64 d (b.add 1) λb=>D0 (b == (IntKind.wrap .i64 (a*c))) (lP d (aQ h.size) λa=>nP a λa=>cf 238 #[pQ (some (a.add 8))] d λa b=>C8 a λa c e=>O0 λI186=>Hg λm187=>(I186 [lQ none 0 0,tQ,iQ 0] b)/\(∀(b e f:Value) (g:F8) (g:A2),(I186 [b,e,f] g)->(asInt .i64 f λi=>D0 (decide (i < (c:Int))) (Gv f λi=>bd i (c:Int) (E5 (pQ a) λa=>lI .i64 g (a.add (i.toNat*1)) λa=>AQ Tryz.prog (.func (.func 236) #[] #[pQ (some (aQ h.size))]) #[iQ a] g λc i=>asBool c λc=>D0 (!c) (C8 b λc j k=>T2 Tryz.prog #[25,25] 25 #[lQ c j k,lQ (some (aQ i.size)) 1 1] (i.push (oQ #[iQ a] 3)) λc j=>C8 c λc k l=>asInt .i64 f λm=>(I186 [lQ c k l,iQ a,iQ (IntKind.wrap .i64 (m+1))] j)/\((m187 [lQ c k l,iQ a,iQ (IntKind.wrap .i64 (m+1))] j) < (m187 [b,e,f] g))) (asInt .i64 f λc=>(I186 [b,iQ a,iQ (IntKind.wrap .i64 (c+1))] i)/\((m187 [b,iQ a,iQ (IntKind.wrap .i64 (c+1))] i) < (m187 [b,e,f] g))))) (lP g (aQ h.size) λa=>nP a λa=>cf 239 #[pQ (some (a.add 8)),.func (.func 236) #[] #[pQ (some (aQ h.size))]] g λa c=>asInt .i64 a λa=>lP c (aQ h.size) λa=>C8 b λg i j=>nP a λa=>C4 c (a.add 9) (lQ g i j) λa=>nP xc λc=>lI .i64 a (c.add 1) λc=>nP xc λg=>C4 a (g.add 1) (iQ (IntKind.wrap .i64 (c+1))) λa=>I174 [b,e,f] a)))) (I174 [tQ,tQ,tQ] d))/\(∀(a b c:Value) (d:F8) (d:A2),(I174 [a,b,c] d)->(lP d (aQ h.size) λa=>nP a λa=>lS d (a.add 9) λa a b=>D0 ((a:Int) == 0) (lP d (aQ h.size) λa=>cf 106 #[pQ a,lQ none 0 0] d λa a=>K tQ a) (lP d (aQ h.size) λa=>nP a λa=>lS d (a.add 9) λa b c=>bd 0 (b:Int) (E5 (pQ a) λa=>lI .i64 d a λa=>lP d (aQ h.size) λb=>lP d (aQ h.size) λc=>nP c λc=>lS d (c.add 9) λc e f=>((0:Int)<=1)/\(((1:Int)<=(e:Int))/\(nP b λb=>C4 d (b.add 9) (lQ (FD c 1 f 1) (e - 1) (f - 1)) λb=>lP b (aQ h.size) λc=>cf 130 #[pQ c,iQ 2,lQ (some (aQ b.size)) 1 1] (b.push (oQ #[uQ (IntKind.wrap .u64 a)] 178)) λa a=>K tQ a)))))))))))))))))))))))))))
theorem call164 {xa xb xc:Option Addr} (H:F164 K h xa xb xc):A5 Tryz.prog 164 #[(pQ xa),(pQ xb),(pQ xc)] h K:=
 cQ Tryz.func164 H
def F165 (K:kQ) (h:A2) (xa xb:Option Addr):Prop:=
 (cf 105 #[pQ xb] h λa b=>C2 a λa=>O0 λI3=>(D0 (Option.isNone a) (I3 [dQ true,dQ true] b) (I3 [dQ (Option.isNone xa),dQ (Option.isNone xa)] b))/\(∀(b c:Value) (d:F8) (d:A2),(I3 [b,c] d)->(asBool b λb=>D0 b (K tQ d) (nP a λb=>lI .i64 d b λb=>D0 (b == 1) (cf 240 #[pQ xa,pQ xb,pQ a] d λb b=>K tQ b) (nP a λb=>lI .i64 d b λb=>D0 (b == 2) (cf 241 #[pQ xa,pQ xb,pQ a] d λa a=>K tQ a) (cf 106 #[pQ xb,lQ none 0 0] d λa a=>K tQ a))))))
theorem call165 {xa xb:Option Addr} (H:F165 K h xa xb):A5 Tryz.prog 165 #[(pQ xa),(pQ xb)] h K:=
 cQ Tryz.func165 H
def F231 (K:kQ) (h:A2) (xa:Int):Prop:=
 (cf 146 #[uQ xa] h λa b=>asInt .i64 a λa=>K (uQ (IntKind.wrap .u64 a)) b)
theorem call231 {xa:Int} (H:F231 K h xa):A5 Tryz.prog 231 #[(uQ xa)] h K:=
 cQ Tryz.func231 H
def F236 (K:kQ) (h:A2) (xa:Int) (c0:Value):Prop:=
 (E5 c0 λa=>lP h a λa=>nP a λa=>lS h (a.add 9) λa b c=>cf 237 #[lQ a b c,iQ xa] h λa b=>asBool a λa=>K (dQ a) b)
theorem call236 {xa:Int} {c0:Value} (H:F236 K h xa c0):A5 Tryz.prog 236 #[(iQ xa),c0] h K:=
 cQ Tryz.func236 H
def F240 (K:kQ) (h:A2) (xa xb xc:Option Addr):Prop:=
 (nP xc λa=>bd 0 10 (lI .u64 h (a.add 2) λa=>cf 292 #[uQ a] h λa b=>asInt .i64 a λa=>nP xc λc=>lI .i64 b (c.add 1) λc=>D0 (c == 0) (nP xc λd=>cf 147 #[pQ xa,iQ 0] b λe f=>asInt .u64 e λe=>bd 0 10 (C4 f (d.add 2) (uQ e) λd=>nP xc λe=>C4 d (e.add 1) (iQ 1) λd=>nP xc λe=>bd 0 10 (lI .u64 d (e.add 2) λe=>cf 292 #[uQ e] d λd e=>asInt .i64 d λd=>D0 (d == 0) (cf 106 #[pQ xb,lQ (some (aQ e.size)) 1 1] (e.push (oQ #[uQ 0] 178)) λd d=>K tQ d) (K tQ e)))) (D0 (c == 1) (nP xc λc=>cf 79 #[pQ xa] b λd e=>asAgg d λd=>G0 d 15 (N0 d λd f g i j k l m n o p q r s t=>cf 142 #[.agg #[d,f,g,i,j,k,l,m,n,o,p,q,r,s,t],iQ a] e λd e=>asInt .i64 d λd=>cf 147 #[pQ xa,iQ d] e λd e=>asInt .u64 d λd=>bd 1 10 (C4 e (c.add 3) (uQ d) λc=>nP xc λd=>C4 c (d.add 1) (iQ 2) λc=>K tQ c))) (nP xc λc=>C4 b (c.add 1) (iQ 0) λb=>nP xc λc=>bd 0 10 (lI .u64 b (c.add 2) λc=>nP xc λd=>bd 1 10 (lI .u64 b (d.add 3) λd=>cf 293 #[pQ xa,uQ c,iQ (IntKind.wrap .i64 d)] b λb c=>asBool b λb=>D0 b (cf 294 #[pQ xa,iQ a] c λb b=>cf 106 #[pQ xb,lQ (some (aQ b.size)) 1 1] (b.push (oQ #[uQ (IntKind.wrap .u64 a)] 178)) λa a=>K tQ a) (K tQ c)))))))
theorem call240 {xa xb xc:Option Addr} (H:F240 K h xa xb xc):A5 Tryz.prog 240 #[(pQ xa),(pQ xb),(pQ xc)] h K:=
 cQ Tryz.func240 H
def F241 (K:kQ) (h:A2) (xa xb xc:Option Addr):Prop:=
 (nP xc λa=>bd 0 10 (lI .u64 h (a.add 2) λa=>nP xc λb=>lI .i64 h (b.add 1) λb=>D0 (b == 0) (nP xc λc=>cf 147 #[pQ xa,iQ 0] h λd e=>asInt .u64 d λd=>bd 1 10 (C4 e (c.add 3) (uQ d) λc=>nP xc λd=>C4 c (d.add 1) (iQ 1) λc=>K tQ c)) (D0 (b == 1) (nP xc λb=>bd 1 10 (D1 h (b.add 3) λc=>asInt .u64 c λd=>cf 79 #[pQ xa] h λe f=>asAgg e λe=>G0 e 15 (N0 e λe g i j k l m n o p q r s t u=>((A3 f (b.add 3))=(some c))/\(cf 142 #[.agg #[e,g,i,j,k,l,m,n,o,p,q,r,s,t,u],iQ (IntKind.wrap .i64 a)] f λe f=>asInt .i64 e λe=>((A3 f (b.add 3))=(some c))/\(cf 292 #[uQ d] f λb c=>asInt .i64 b λb=>cf 212 #[pQ xa,iQ e,uQ (IntKind.wrap .u64 b)] c λb b=>nP xc λc=>C4 b (c.add 1) (iQ 2) λb=>K tQ b))))) (nP xc λb=>C4 h (b.add 1) (iQ 0) λb=>nP xc λc=>bd 1 10 (lI .u64 b (c.add 3) λc=>cf 293 #[pQ xa,uQ c,iQ (IntKind.wrap .i64 a)] b λb c=>asBool b λb=>D0 b (cf 295 #[pQ xa,iQ (IntKind.wrap .i64 a)] c λb b=>cf 106 #[pQ xb,lQ (some (aQ b.size)) 1 1] (b.push (oQ #[uQ (IntKind.wrap .u64 (IntKind.wrap .i64 a))] 178)) λa a=>K tQ a) (K tQ c))))))
theorem call241 {xa xb xc:Option Addr} (H:F241 K h xa xb xc):A5 Tryz.prog 241 #[(pQ xa),(pQ xb),(pQ xc)] h K:=
 cQ Tryz.func241 H
def F292 (K:kQ) (h:A2) (xa:Int):Prop:=
 (cf 146 #[uQ xa] h λa b=>asInt .i64 a λa=>K (iQ a) b)
theorem call292 {xa:Int} (H:F292 K h xa):A5 Tryz.prog 292 #[(uQ xa)] h K:=
 cQ Tryz.func292 H
def F293 (K:kQ) (h:A2) (xa:Option Addr) (xb xc:Int):Prop:=
 (cf 228 #[uQ xb,iQ xc,dQ false] h λa b=>asInt .u64 a λa=>cf 219 #[pQ xa,iQ 0,uQ xb,uQ a] b λa b=>asBool a λa=>K (dQ a) b)
theorem call293 {xa:Option Addr} {xb xc:Int} (H:F293 K h xa xb xc):A5 Tryz.prog 293 #[(pQ xa),(uQ xb),(iQ xc)] h K:=
 cQ Tryz.func293 H
end
section
open Mod
section
variable {K:kQ} {h:A2} {M T b o N:Nat} {tv:Value} {fo:Option (Nat × Nat)} {x:A9} {R:Hp}
theorem IZ {w:Int} (hw:U w) (k:K (iQ (J2 w)) h):A5 Tryz.prog 292 #[uQ w] h K:=by
 refine call292 ?_
 unfold F292 cf
 refine A0 (M7 hw ?_)
 simp only [A6]
 exact k
theorem JA (H:A7 h (A1 M T tv fo x R)) {w to_:Int} (hw:U w) (hs:x.m.mm.st < 1099511627776) (k:∀h',A7 h' (A1 M T tv fo (x.cas 0 w (CC w to_ false)).2 R)->K (dQ (x.cas 0 w (CC w to_ false)).1) h') :
  A5 Tryz.prog 293 #[mP M,uQ w,iQ to_] h K:=by
 refine call293 ?_
 unfold F293 cf
 refine A0 (T7 hw ?_)
 simp only [A6]
 refine A0 (Rt H (by decide) AL hs λh' H'=>?_)
 simp only [B6]
 exact k h' H'
theorem Vw (H:A7 h (A1 M T tv (some (b,o)) x R)) (hs:x.m.mm.st < 1099511627776) (k:∀h',A7 h' (A1 M T tv none (alloc x) R)->K tQ h') :
  A5 Tryz.prog 240 #[mP M,mP T,fP b o] h K:=by
 refine call240 ?_
 unfold F240 cf bd lI nP N0
 have B:=A1.fB H
 have P:=A1.pl H
 unfold alloc at k
 try simp +decide only [B4,F2,Nat.reduceAdd,Int.reduceLE,Int.reduceLT,Int.reduceToNat,J0,G5,B0,A1.r H]
 refine A0 (IZ (B.g 0) ?_)
 try simp +decide only [B4,F2,Nat.reduceAdd,Int.reduceLE,Int.reduceLT,Int.reduceToNat,J0,G5,B0,A1.r H]
 refine A4 (λc=>?_) (λc=>?_)
 ·rw [if_pos c] at k
  refine A0 (M0 H (by decide) hs λh1 H1 u1=>?_)
  refine sb ?_
  refine A1.stR (i:=0) H1 rfl u1 λh2 H2=>A1.stP H2 λh3 H3=>?_
  try simp +decide only [B4,F2,Nat.reduceAdd,Int.reduceLE,Int.reduceLT,Int.reduceToNat,J0,G5,B0,A1.r H3,B.len]
  refine A0 (IZ u1 ?_)
  refine sb ?_
  refine A4 (λc2=>?_) (λc2=>?_)
  ·simp only [if_pos c2] at k
   exact A0 (Nr H3 [0] rfl (W5 U0) (by omega) λh4 H4=>k h4 H4)
  ·simp only [if_neg c2] at k
   exact k h3 (A1.none H3)
 rw [if_neg c] at k
 refine A4 (λc=>?_) (λc=>?_)
 ·rw [if_pos c] at k
  refine A0 (Ef H λh1 H1=>AZ ?_)
  refine A0 (FX P (Kr _) λh2 o2=>?_)
  refine sb ?_
  refine A0 (M0 (A1.old H1 o2) (Yc P _) hs λh3 H3 u3=>?_)
  refine sb ?_
  exact A1.stR (i:=1) H3 rfl u3 λh4 H4=>A1.stP H4 λh5 H5=>k h5 (A1.none H5)
 ·rw [if_neg c] at k
  refine A1.stP H λh1 H1=>?_
  try simp +decide only [B4,F2,Nat.reduceAdd,Int.reduceLE,Int.reduceLT,Int.reduceToNat,J0,G5,B0,A1.r H1]
  refine A0 (JA H1 (B.g 0) hs λh2 H2=>?_)
  refine sb ?_
  refine C7 (λc=>?_) (λc=>?_)
  ·simp only [if_pos c] at k
   refine A0 (SW0 H2 (Kr _) λh3 H3=>?_)
   exact A0 (Nr H3 [J2 (x.f.g 0)] rfl (W5 (T9 _)) (by omega) λh4 H4=>k h4 H4)
  ·simp only [c] at k
   exact k h2 (A1.none H2)
theorem OW (H:A7 h (A1 M T tv (some (b,o)) x R)) (hs:x.m.mm.st < 1099511627776) (k:∀h',A7 h' (A1 M T tv none (Af x) R)->K tQ h') :
  A5 Tryz.prog 241 #[mP M,mP T,fP b o] h K:=by
 refine call241 ?_
 unfold F241 cf bd lI nP N0
 have B:=A1.fB H
 have P:=A1.pl H
 unfold Af at k
 try simp +decide only [B4,F2,Nat.reduceAdd,Int.reduceLE,Int.reduceLT,Int.reduceToNat,J0,G5,B0,A1.r H]
 refine A4 (λc=>?_) (λc=>?_)
 ·rw [if_pos c] at k
  refine A0 (M0 H (by decide) hs λh1 H1 u1=>?_)
  refine sb ?_
  exact A1.stR (i:=1) H1 rfl u1 λh2 H2=>A1.stP H2 λh3 H3=>k h3 (A1.none H3)
 rw [if_neg c] at k
 refine A4 (λc=>?_) (λc=>?_)
 ·rw [if_pos c] at k
  refine A0 (Ef H λh1 H1=>AZ ⟨(A1.c H1).2.2.1,?_⟩)
  refine A0 (FX P (S5 _) λh2 o2=>?_)
  have H2:=A1.old H1 o2
  try simp only [B4,F2,Nat.reduceAdd,Int.reduceLE,Int.reduceLT,Int.reduceToNat,A1.c H2]
  refine A0 (IZ (B.g 1) ?_)
  refine sb ?_
  refine A0 (T8 H2 (Yc P _) (T9 _) hs λh3 H3=>?_)
  exact A1.stP H3 λh4 H4=>k h4 (A1.none H4)
 ·rw [if_neg c] at k
  refine A1.stP H λh1 H1=>?_
  try simp +decide only [B4,F2,Nat.reduceAdd,Int.reduceLE,Int.reduceLT,Int.reduceToNat,J0,G5,B0,A1.r H1]
  refine A0 (JA H1 (B.g 1) hs λh2 H2=>?_)
  refine sb ?_
  refine C7 (λc=>?_) (λc=>?_)
  ·simp only [if_pos c] at k
   refine A0 (SR4 H2 (S5 _) λh3 H3=>?_)
   exact A0 (Nr H3 [u64 (x.f.g 0)] rfl (W5 (R7 _)) (by omega) λh4 H4=>k h4 (by rw [OV];exact H4))
  ·simp only [c] at k
   exact k h2 (A1.none H2)
end
end
section

end
section
def SW2 (h:A2) (ad:Addr) (o:Op9):Prop:=A3 h ad=some (iQ o.th)/\∀j v,o.cells[j]? = some v->A3 h (ad.add j)=some v
theorem ld9 {h:A2} {ad:Addr} {o:Op9} {K:Value->Value->Value->Value->Value->Value->Value->Value->Value->Prop} (H:SW2 h ad o)
  (k:K (iQ o.th) (iQ o.op) (.int .u32 o.key) (.int .u32 o.val) (iQ o.kind) (.int .u32 o.ak) (.int .u32 o.av) (iQ o.fr) (iQ o.to)) :
  D1 h ad λv0=>D1 h (ad.add 1) λv1=>D1 h (ad.add 2) λv2=>D1 h (ad.add 3) λv3=>D1 h (ad.add 4) λv4=>D1 h (ad.add 5) λv5=>D1 h (ad.add 6) λv6=>D1 h (ad.add 7) λv7=>D1 h (ad.add 8) λv8=>K v0 v1 v2 v3 v4 v5 v6 v7 v8:=
 D3 H.1 (D3 (H.2 1 _ rfl) (D3 (H.2 2 _ rfl) (D3 (H.2 3 _ rfl) (D3 (H.2 4 _ rfl) (D3 (H.2 5 _ rfl) (D3 (H.2 6 _ rfl) (D3 (H.2 7 _ rfl) (D3 (H.2 8 _ rfl) k))))))))
end
section
def Ja (av:Nat->Prop) (h h':A2):Prop:=h.size<=h'.size/\∀b,b < h.size->¬ av b->h'[b]? = h[b]?
theorem Ja.of {av:Nat->Prop} {h h':A2} (o:G4 h.size h h'):Ja av h h':=⟨o.1,λb hb _=>o.2 b hb⟩
theorem Ja.cell {av:Nat->Prop} {h h':A2} {a:Addr} {v:Value} (o:Ja av h h') (ha:¬ av a.block) (hc:A3 h a=some v):A3 h' a=some v:=(S0 (o.2 _ (Bv hc) ha)).trans hc
def Yd (av:Nat->Prop) (g:Value) (L:List Int) (h:A2):Prop:=
 ∃f fst cap Ev,g=.func (.func f) fst cap/\Qt Tryz.prog g L.length (DR L) Ev/\Ev h/\∀h h',Ja av h h'->Ev h->Ev h'
def Dd (av:Nat->Prop) (f:Value) (D:Int->Prop) (p:Int->Bool) (h:A2):Prop:=
 (∃g x y,f=.func (.func g) x y)/\∃Ev:A2->Prop,Ev h/\(∀h h',Ja av h h'->Ev h->Ev h') /\
  ∀(h:A2) (x:Int) (K:kQ),Ev h->D x->(∀h',G4 h.size h h'->K (dQ (p x)) h')->AQ Tryz.prog f #[iQ x] h K
theorem Dd.old {av:Nat->Prop} {f:Value} {D:Int->Prop} {p:Int->Bool} {h h':A2} (H:Dd av f D p h) (o:Ja av h h'):Dd av f D p h':=by
 obtain ⟨e,Ev,h1,h2,h3⟩:=H
 exact ⟨e,Ev,h2 _ _ o h1,h2,h3⟩
theorem Dd.call {av:Nat->Prop} {f:Value} {D:Int->Prop} {p:Int->Bool} {h:A2} (H:Dd av f D p h) {x:Int} (hD:D x) {K:kQ} (k:∀h',G4 h.size h h'->K (dQ (p x)) h'):AQ Tryz.prog f #[iQ x] h K:=by
 obtain ⟨_,Ev,h1,_,h3⟩:=H
 exact h3 _ _ _ h1 hD k
theorem Vx {K:kQ} {h:A2} {av:Nat->Prop} {g f:Value} {L:List Int} {D:Int->Prop} {p:Int->Bool} (H:Yd av g L h) (Hk:Dd av f D p h) (hD:∀x ∈ L,D x) (hav:∀b,av b->b < h.size)
  (k:∀g' h',Yd av g' (L.filter p) h'->G4 h.size h h'->K g' h'):A5 Tryz.prog 290 #[g,f] h K:=by
 obtain ⟨f0,fst,cap,Ev,rfl,hs,he,hst⟩:=H
 obtain ⟨⟨f1,a1,a2,rfl⟩,Ek,hk1,hk2,hk3⟩:=Hk
 refine call290 ?_
 unfold F290 g290
 obtain ⟨ho,h1,h2⟩:=SV0 (h:=h) (.cells #[.func (.func f0) fst cap] 311) (.cells #[.func (.func f1) a1 a2] 102)
 simp only [Nf]
 rw [Array.size_push]
 generalize (h.push (oQ #[.func (.func f0) fst cap] 311)).push (oQ #[.func (.func f1) a1 a2] 102)=h5 at *
 refine ⟨λvs h'=>vs = [dQ false]/\h' = h5,?_,?_⟩
 ·refine D3 (X8 h1) ?_
  simp only [Id,E2]
  refine D3 (X8 h2) ?_
  simp only [Id]
  exact ⟨by trivial,by trivial⟩
 ·rintro v5 g6 h7 ⟨e,rfl⟩
  cases e
  simp only [B6,E2]
  refine k _ _ ⟨_,_,_,_,rfl,So9 hD (show fnV (.func (.func f0) fst cap) from trivial) hs (λa b o e=>hst _ _ (Ja.of o) e) (λa b o e=>hk2 _ _ (Ja.of o) e) hk3,⟨X8 h1,X8 h2,hst _ _ (Ja.of ho) he,hk2 _ _ (Ja.of ho) hk1⟩,
   λa b o e=>⟨o.cell (λx=>?_) e.1,o.cell (λx=>?_) e.2.1,hst _ _ o e.2.2.1,hk2 _ _ o e.2.2.2⟩⟩ ho
  ·have:=hav _ x;simp at this
  ·have:=hav _ x;simp at this;omega
end
section
open Mod
theorem Rx {K:kQ} {h:A2} {a:Option Addr} {l c:Nat} {xs:List Int} {x:Int} (H:RI h a l c xs) (hl:l < 2 ^ 60) (k:∀n:Int,(decide (n >= 0)=xs.contains x)->K (iQ n) h) :
  A5 Tryz.prog 289 #[lQ a l c,iQ x] h K:=by
 refine call289 ?_
 unfold F289 bd lI
 have hlen:=H.len
 refine ⟨λvs h'=>∃w1 w2,∃i:Nat,vs = [w1,w2,iv i]/\i<=l/\h' = h/\(xs.take i).contains x=false,λvs _=>(match vs with | [_,_,.int _ n]=>l - n.toNat | _=>0),⟨_,_,0,rfl,Nat.zero_le _,rfl,rfl⟩,?_⟩
 rintro v2 v3 v4 g5 h6 ⟨w1,w2,i,e,hi,rfl,hno⟩
 cases e
 simp only [A6]
 refine A4 (λhlt=>?_) (λhge=>?_)
 ·have hi':i < xs.length:=by omega
  obtain ⟨ad,rfl,hc⟩:=H.at hi'
  have htk:(xs.take (i+1)).contains x=((xs.take i).contains x || (xs[i] == x)):=by
   rw [List.take_succ_eq_append_getElem hi',Bool.eq_iff_iff,Bool.or_eq_true,List.contains_iff_mem,List.contains_iff_mem,List.mem_append,List.mem_singleton,beq_iff_eq]
   exact or_congr Iff.rfl eq_comm
  refine ⟨by omega,hlt,?_⟩
  simp only [C9,Int.toNat_natCast,Nat.mul_one]
  refine D3 hc ?_
  simp only [A6]
  refine C7 (λhq=>?_) (λhq=>?_)
  ·have hq':x=xs[i]:=by simpa using hq
   refine k i ?_
   have:xs.contains x=true:=by rw [hq'];simp
   rw [this];simp
  ·rw [Ac (by omega)]
   have hq':¬ x=xs[i]:=by simpa using hq
   exact ⟨⟨_,_,i+1,rfl,by omega,by trivial,by rw [htk,hno];simp [Ne.symm hq']⟩,by show l - ((i+1:Nat):Int).toNat < l - (i:Int).toNat;omega⟩
 ·rw [List.take_of_length_le (by omega)] at hno
  exact k (-1) (by rw [hno];decide)
theorem Lr {K:kQ} {h:A2} {a:Option Addr} {l c:Nat} {xs:List Int} {x:Int} (H:RI h a l c xs) (hl:l < 2 ^ 60) (k:K (dQ (xs.contains x)) h) :
  A5 Tryz.prog 237 #[lQ a l c,iQ x] h K:=by
 refine call237 ?_
 unfold F237 cf
 refine A0 (Rx H hl λn hn=>?_)
 simp only [A6]
 rw [hn];exact k
theorem RI.congrA {av:Nat->Prop} {h h':A2} {a:Option Addr} {l c:Nat} {xs:List Int} (H:RI h a l c xs) (o:Ja av h h') (ha:xs≠[]->∀ad,a=some ad->¬ av ad.block):RI h' a l c xs:=by
 refine ⟨λi v hi=>?_,H.len,H.cap⟩
 obtain ⟨ad,e,hc⟩:=H.s i v hi
 refine ⟨ad,e,(S0 ?_).trans hc⟩
 have hlt:=Bv hc
 rw [IQ] at hlt ⊢
 exact o.2 _ hlt (ha (λe=>by rw [e] at hi;simp at hi) ad e)
theorem Zy {K:kQ} {h:A2} {av:Nat->Prop} {a:Option Addr} {l c:Nat} {xs:List Int} (H:RI h a l c xs) (hl:l < 2 ^ 60) (hna:xs≠[]->∀ad,a=some ad->¬ av ad.block) (hav:∀b,av b->b < h.size) (k:∀g h',Yd av g xs h'->G4 h.size h h'->K g h') :
  A5 Tryz.prog 291 #[lQ a l c] h K:=by
 refine call291 ?_
 unfold F291
 have o1:G4 h.size h (h.push (oQ #[lQ a l c] 25)):=(G4.refl _ _).push _ (Nat.le_refl _)
 exact k _ _ ⟨_,_,_,_,rfl,SQ6 hl,⟨X8 (Z6 _ _),H.old o1⟩,λh h' o e=>⟨o.cell (λx=>by have:=hav _ x;simp at this) e.1,e.2.congrA o hna⟩⟩ o1
theorem My {h:A2} {N:Nat} {g:Value} {L:List Int} {D:A2->Prop} (H:Yd (λb=>b=N) g L h) (hN:h[N]? = some (oQ #[lQ none 0 0] 25)) (hn:L.length<=2 ^ 39)
  (k:∀h' a c,h.size<=h'.size->(∀b,b < h.size->b≠N->h'[b]? = h[b]?)->h'[N]? = some (oQ #[lQ a L.length c] 25)->GM h' a L.length c L->(∀b,GN a b->h.size<=b)->D h') :
  Hh Tryz.prog g 1 h (λI vs hh=>asInt .i64 (vs.getD 0 tQ) λn=>D1 hh (aQ N) λv=>C8 v λo l c=>T2 Tryz.prog #[25,25] 25 #[lQ o l c,lQ (some (aQ hh.size)) 1 1] (hh.push (oQ #[iQ n] 3)) λv h2=>C8 v λo l c=>C4 h2 (aQ N) (lQ o l c) λh3=>I .normal h3) D []:=by
 obtain ⟨f0,fst,cap,Ev,rfl,hs,he,hst⟩:=H
 have hlt:=(Array.getElem?_eq_some_iff.1 hN).1
 refine UY (n:=L.length) (xs:=DR L) (Ev:=Ev)
  (λj w h'=>h.size<=h'.size/\(∀b,b < h.size->b≠N->h'[b]? = h[b]?)/\∃a c,h'[N]? = some (oQ #[lQ a j c] 25)/\GM h' a j c (L.take j)/\∀b,GN a b->w b) (λ_ _ _=>False)
  (show fnV (.func (.func f0) fst cap) from trivial) hs (λ_ _=>rfl) ?_ (λ_ _ _ _ _ _ _ x=>x) (λj w' h' x=>hst _ _ ⟨x.1,x.2.1⟩ he) ⟨Nat.le_refl _,λ_ _ _=>rfl,none,0,hN,CG.nil _ _ _,λb hb=>by obtain ⟨_,e,_⟩:=hb;cases e⟩ ?_ ?_ trivial
 ·rintro j w' ha hb hs1 hs2 hw ⟨x1,x2,a,c,x3,x4,x5⟩
  exact ⟨Nat.le_trans x1 hs1,λb hb hne=>(hs2 b hb).trans (x2 b hb hne),a,c,(hs2 _ hlt).trans x3,x4.congr λb hb=>hw b (x5 b hb),x5⟩
 ·rintro M j w' h13 hj hM hs1 hw ⟨x1,x2,a,c,x3,x4,x5⟩
  have e2:(DR L j).getD 0 tQ=iQ L[j]:=by unfold DR;simp [hj]
  rw [e2]
  simp only [A6]
  refine D3 (X8 x3) ?_
  simp only [C6]
  refine SF1 x4 (by omega) λa2 c2 h2 own2 hs2 old2 hor=>?_
  simp only [C6]
  have hNa:∀ad,a=some ad->ad.block≠N:=λad e he=>by
   have:=(hw _ (x5 _ ⟨ad,e,rfl⟩)).1
   omega
  have x3':h2[N]? = some (oQ #[lQ a j c] 25):=(old2 _ (by omega) hNa).trans x3
  refine KS x3' (by simp) trivial ?_
  rintro h21 rfl
  have hbig:∀b,GN a2 b->M<=b:=by
   rintro b ⟨ad,e,rfl⟩
   rcases hor with rfl | ⟨b',rfl,hb⟩
   ·exact (hw _ (x5 _ ⟨ad,e,rfl⟩)).1
   ·cases e;show M<=b';omega
  have own3:GM (h2.setIfInBounds N (oQ ((#[lQ a j c]:Array Value).setIfInBounds 0 (lQ a2 (j+1) c2)) 25)) a2 (j+1) c2 (L.take j ++ [L[j]]):=
   own2.congr λb hb=>U5 (by have:=hbig b hb;omega)
  refine ⟨⟨by simp;exact hs2,λb hb1 hb2=>?_⟩,by simp;omega,GN a2,λb hb=>⟨hbig b hb,?_⟩,by simp;omega,λb hb hne=>?_,a2,c2,?_,?_,λb hb=>hb⟩
  ·refine (U5 (by omega)).trans (old2 b (by omega) λad e he=>?_)
   have:=(hw _ (x5 _ ⟨ad,e,rfl⟩)).1
   omega
  ·rcases own3.2.2 with ⟨e,_⟩ | ⟨b',row,e,hb',_⟩
   ·obtain ⟨_,e',_⟩:=hb;rw [e] at e';cases e'
   ·obtain ⟨ad,e',rfl⟩:=hb
    rw [e] at e'
    cases e'
    exact ⟨row,_,_,hb'⟩
  ·refine (U5 hne).trans ((old2 b (by omega) λad e he=>?_).trans (x2 b hb hne))
   have:=(hw _ (x5 _ ⟨ad,e,rfl⟩)).1
   omega
  ·exact T4 (by omega)
  ·rw [List.take_succ_eq_append_getElem hj];exact own3
 ·rintro M w' h22 hM hs1 hw ⟨x1,x2,a,c,x3,x4,x5⟩
  rw [List.take_length] at x4
  exact k h22 a c x1 x2 x3 x4 λb hb=>by have:=(hw b (x5 b hb)).1;omega
end
section
open Mod
variable {K:kQ} {h:A2}
def Thr.setRe (t:Thr) (l:List Int):Thr:={ t with retired:=l }
def Thr.setFo (t:Thr) (l:List Int):Thr:={ t with found:=l }
theorem OX {h:A2} {T:Nat} {fo:Option (Nat × Nat)} {t:Thr} {id:Int} {R:Hp} (H:A7 h (M1 T fo t id*R)):∃a c,A3 h ⟨T,8,none⟩=some (lQ a t.retired.length c)/\GM h a t.retired.length c t.retired:=by
 obtain ⟨B,x,H0⟩:=J4.1 H
 exact ⟨_,_,E9 H0.at rfl,A7.own (A7.drop (A7.drop (A7.drop (A7.drop (A7.drop H0)))))⟩
theorem SG7 {h:A2} {T:Nat} {fo:Option (Nat × Nat)} {t:Thr} {id:Int} {R:Hp} (H:A7 h (M1 T fo t id*R)):∃a c,A3 h ⟨T,9,none⟩=some (lQ a t.found.length c)/\DG h a t.found.length c t.found:=by
 obtain ⟨B,x,H0⟩:=J4.1 H
 exact ⟨_,_,E9 H0.at rfl,A7.ownf (A7.drop (A7.drop (A7.drop (A7.drop (A7.drop (A7.drop H0))))))⟩
theorem Vy {h:A2} {T:Nat} {fo:Option (Nat × Nat)} {t:Thr} {id:Int} {R:Hp} {a:Option Addr} {l c:Nat} {xs:List Int} {K:A2->Prop} (H:A7 h (F3 3 1 a l c (xs.map iv)*(M1 T fo t id*R))) (hx:∀v ∈ xs,iN v) (hl:l<=1073741824)
  (k:∀h',A7 h' (M1 T fo (Thr.setRe t xs) id*R)->K h'):C4 h ⟨T,8,none⟩ (lQ a l c) K:=by
 have hlen:xs.length=l:=by have:=H.own.1;simpa using this
 rw [D4] at H
 obtain ⟨B,x,H0⟩:=J4.1 H
 refine H0.st rfl trivial λh' H1=>k h' (J4.2 ⟨{ B with re:=a,ren:=c },⟨?_,?_⟩,?_⟩)
 ·obtain ⟨b1,b2,b3,b4,b5,b6,b7,b8⟩:=x.1
  exact ⟨b1,b2,b3,b4,b5,hx,b7,by unfold Thr.setRe;simp only;omega⟩
 ·exact x.2
 ·unfold Thr.setRe Db
  simp only [hlen]
  refine A7.drop (P:=F3 3 1 B.re t.retired.length B.ren (t.retired.map iv)) (A7.ac H1 ?_)
  simp only [List.set_cons_succ,List.set_cons_zero]
  ac_rfl
theorem Vz {h:A2} {T:Nat} {fo:Option (Nat × Nat)} {t:Thr} {id:Int} {R:Hp} {a:Option Addr} {l c:Nat} {xs:List Int} {K:A2->Prop} (H:A7 h (CZ a l c xs*(M1 T fo t id*R))) (hx:∀v ∈ xs,iN v) (hl:l<=1073741824)
  (k:∀h',A7 h' (M1 T fo (Thr.setFo t xs) id*R)->K h'):C4 h ⟨T,9,none⟩ (lQ a l c) K:=by
 have hlen:xs.length=l:=H.ownf.1
 rw [D4] at H
 obtain ⟨B,x,H0⟩:=J4.1 H
 refine H0.st rfl trivial λh' H1=>k h' (J4.2 ⟨{ B with fo:=a,fon:=c },⟨?_,?_⟩,?_⟩)
 ·obtain ⟨b1,b2,b3,b4,b5,b6,b7,b8⟩:=x.1
  exact ⟨b1,b2,b3,b4,b5,b6,hx,by unfold Thr.setFo;simp only;omega⟩
 ·exact x.2
 ·unfold Thr.setFo Db
  simp only [hlen]
  refine A7.drop (P:=CZ B.fo t.found.length B.fon t.found) (A7.ac H1 ?_)
  simp only [List.set_cons_succ,List.set_cons_zero]
  ac_rfl
theorem JB {h:A2} {T:Nat} {fo:Option (Nat × Nat)} {t:Thr} {id:Int} {R:Hp} (H:A7 h (M1 T fo t id*R)):∃a c,∃Q:Hp,(∀h' P,A7 h' (Q*P)->A3 h' ⟨T,9,none⟩=some (lQ a t.found.length c))/\A7 h (CZ a t.found.length c t.found*(Q*R)) /\
  ∀R' h' a' l' c' xs,l'<=1073741824->(∀v ∈ xs,iN v)->A7 h' (CZ a' l' c' xs*(Q*R'))->∀K:A2->Prop,(∀h'',A7 h'' (M1 T fo (Thr.setFo t xs) id*R')->K h'')->C4 h' ⟨T,9,none⟩ (lQ a' l' c') K:=by
 obtain ⟨B,x,H0⟩:=J4.1 H
 refine ⟨B.fo,B.fon,pt T (oQ (Db B t id).toArray 183)*(F3 190 12 B.fr t.fr.length B.frn (t.fr.flatMap CD)*(pt B.pred (oQ (U8 t.pred).toArray 178)*(pt B.succ (oQ (U8 t.succ).toArray 178)*(pt B.word (oQ (U8 t.word).toArray 178)*F3 3 1 B.re t.retired.length B.ren (t.retired.map iv))))),λh' P HQ=>E9 (A7.at (E7 _ _ _ ▸ HQ)) rfl,A7.ac H0 (by ac_rfl),?_⟩
 intro R' h' a' l' c' xs hl hx H1 K k
 have hlen:xs.length=l':=H1.ownf.1
 have H2:A7 h' (pt T (oQ (Db B t id).toArray 183)*(F3 190 12 B.fr t.fr.length B.frn (t.fr.flatMap CD)*(pt B.pred (oQ (U8 t.pred).toArray 178)*(pt B.succ (oQ (U8 t.succ).toArray 178)*(pt B.word (oQ (U8 t.word).toArray 178)*(F3 3 1 B.re t.retired.length B.ren (t.retired.map iv)*(CZ a' l' c' xs*R'))))))):=A7.ac H1 (by ac_rfl)
 refine H2.st rfl trivial λh'' H3=>k h'' (J4.2 ⟨{ B with fo:=a',fon:=c' },⟨?_,?_⟩,?_⟩)
 ·obtain ⟨b1,b2,b3,b4,b5,b6,b7,b8⟩:=x.1
  exact ⟨b1,b2,b3,b4,b5,b6,hx,by unfold Thr.setFo;simp only;omega⟩
 ·exact x.2
 ·unfold Thr.setFo Db
  simp only [hlen]
  exact H3
theorem Ry {h:A2} {T:Nat} {fo:Option (Nat × Nat)} {t:Thr} {id:Int} {R:Hp} (H:A7 h (M1 T fo t id*R)):∃a c,∃Q:Hp,(∀h' P,A7 h' (Q*P)->A3 h' ⟨T,8,none⟩=some (lQ a t.retired.length c))/\A7 h (F3 3 1 a t.retired.length c (t.retired.map iv)*(Q*R)) /\
  ∀R' h' a' l' c' xs,l'<=1073741824->(∀v ∈ xs,iN v)->A7 h' (F3 3 1 a' l' c' (xs.map iv)*(Q*R'))->∀K:A2->Prop,(∀h'',A7 h'' (M1 T fo (Thr.setRe t xs) id*R')->K h'')->C4 h' ⟨T,8,none⟩ (lQ a' l' c') K:=by
 obtain ⟨B,x,H0⟩:=J4.1 H
 refine ⟨B.re,B.ren,pt T (oQ (Db B t id).toArray 183)*(F3 190 12 B.fr t.fr.length B.frn (t.fr.flatMap CD)*(pt B.pred (oQ (U8 t.pred).toArray 178)*(pt B.succ (oQ (U8 t.succ).toArray 178)*(pt B.word (oQ (U8 t.word).toArray 178)*CZ B.fo t.found.length B.fon t.found)))),λh' P HQ=>E9 (A7.at (E7 _ _ _ ▸ HQ)) rfl,A7.ac H0 (by ac_rfl),?_⟩
 intro R' h' a' l' c' xs hl hx H1 K k
 have hlen:xs.length=l':=by have:=H1.own.1;simpa using this
 have H2:A7 h' (pt T (oQ (Db B t id).toArray 183)*(F3 190 12 B.fr t.fr.length B.frn (t.fr.flatMap CD)*(pt B.pred (oQ (U8 t.pred).toArray 178)*(pt B.succ (oQ (U8 t.succ).toArray 178)*(pt B.word (oQ (U8 t.word).toArray 178)*(F3 3 1 a' l' c' (xs.map iv)*(CZ B.fo t.found.length B.fon t.found*R'))))))):=A7.ac H1 (by ac_rfl)
 refine H2.st rfl trivial λh'' H3=>k h'' (J4.2 ⟨{ B with re:=a',ren:=c' },⟨?_,?_⟩,?_⟩)
 ·obtain ⟨b1,b2,b3,b4,b5,b6,b7,b8⟩:=x.1
  exact ⟨b1,b2,b3,b4,b5,hx,b7,by unfold Thr.setRe;simp only;omega⟩
 ·exact x.2
 ·unfold Thr.setRe Db
  simp only [hlen]
  exact H3
theorem A7.app1 {h:A2} {a:Option Addr} {l c:Nat} {xs:List Int} {y:Int} {K:kQ} {R:Hp} (H:A7 h (F3 3 1 a l c (xs.map iv)*R)) (hl:l<=1099511627776) (k:∀a' c' h',A7 h' (F3 3 1 a' (l+1) c' ((xs ++ [y]).map iv)*R)->K (lQ a' (l+1) c') h') :
  T2 Tryz.prog #[25,25] 25 #[lQ a l c,lQ (some (aQ h.size)) 1 1] (h.push (oQ #[iQ y] 3)) K:=by
 have H1:=H.push (oQ #[iQ y] 3)
 generalize h.push (oQ #[iQ y] 3)=h1 at *
 generalize h.size=N at *
 have hs:N8 h1 (some (aQ N)) [iv y]:=λi v hi=>⟨_,rfl,by rw [E1,Nat.zero_add,E0 H1.at];simpa using hi⟩
 rw [D4,<- Y3] at H1
 refine H1.app Ie GD Km (by rw [Y3];rfl) hs (n:=1) (by rw [Y3];rfl) (by simp [J3]) (by rw [DP];omega) (by rw [DP];omega) λa' c' h' H2=>k a' c' h' ?_
 rw [Y3] at H2
 rw [List.map_append]
 exact H2.drop2
theorem A7.appF {h:A2} {a:Option Addr} {l c:Nat} {xs:List Int} {y:Int} {K:kQ} {R:Hp} (H:A7 h (CZ a l c xs*R)) (hl:l<=1099511627776) (k:∀a' c' h',A7 h' (CZ a' (l+1) c' (xs ++ [y])*R)->K (lQ a' (l+1) c') h') :
  T2 Tryz.prog #[25,25] 25 #[lQ a l c,lQ (some (aQ h.size)) 1 1] (h.push (oQ #[iQ y] 3)) K:=by
 have H1:=H.push (oQ #[iQ y] 3)
 generalize h.push (oQ #[iQ y] 3)=h1 at *
 generalize h.size=N at *
 have hs:N8 h1 (some (aQ N)) [iv y]:=λi v hi=>⟨_,rfl,by rw [E1,Nat.zero_add,E0 H1.at];simpa using hi⟩
 have H2:=H1.drop
 obtain ⟨ow,hlt,re⟩:=H2.opn
 have hxl:=ow.1
 refine Sp3 Ie GD Km (by rw [Y3];rfl) ow.ri.s (by rw [Y3,List.length_map];omega) ow.2.1 hs (n:=1) (by rw [Y3];rfl) (by simp [J3]) (by rw [DP];omega) (by rw [DP];omega) (λhc ad ea=>?_) (λhc ea=>?_) (λc' h' o' old=>?_)
 ·rw [Y3,Nat.mul_one]
  obtain ⟨h1',h2',h3'⟩:=ow
  rcases h3' with ⟨e,_⟩ | ⟨b,o,row,e,hb,hsz,ht⟩
  ·rw [ea] at e;cases e
  ·rw [ea] at e
   cases e
   rw [E1]
   have hbl:=(Array.getElem?_eq_some_iff.1 hb).1
   refine GB [iv y] h1 b (o+l) 0 row _ _ hb (by simp;omega) (by simp [J3]) λrow' r1 r2=>?_
   have hlen:(row.toList.drop o).length >= l:=by rw [List.length_drop,Array.length_toList];omega
   refine k a c _ (re _ (GN a) (λh=>DG h a (l+1) c (xs ++ [y])) ⟨by simp,λc2 hc2 hn=>U5 λe=>hn ⟨_,ea,e.symm⟩⟩ (λb2 hb2=>⟨.inl hb2,by simpa using hlt b2 hb2⟩) (λb2 ob hb2 e2 x hx=>?_) λh'' e2=>?_)
   ·obtain ⟨ad2,ea2,rfl⟩:=hb2
    rw [ea] at ea2;cases ea2
    rw [T4 hbl] at e2;cases e2;cases hx
   ·refine ⟨by simp;omega,hc,.inr ⟨b,o,row',ea,(e2 b ⟨_,ea,rfl⟩).trans (T4 hbl),by omega,?_⟩⟩
    apply List.ext_getElem?
    intro j
    rw [List.getElem?_take,List.getElem?_drop,Array.getElem?_toList,r2]
    have hx:∀j,j < l->(xs.map iv)[j]? = row[o+j]?:=λj hj=>by rw [<- ht,List.getElem?_take,if_pos hj,List.getElem?_drop,Array.getElem?_toList]
    simp only [List.length_singleton,List.map_append,List.map_cons,List.map_nil]
    by_cases c1:j < l
    ·rw [if_pos (by omega),if_neg (by omega),List.getElem?_append_left (by simp;omega),hx j c1]
    ·by_cases c2:j=l
     ·subst c2
      rw [if_pos (by omega),if_pos (by omega),List.getElem?_append_right (by simp;omega),List.length_map,h1']
      congr 1;omega
     ·rw [if_neg (by omega)]
      symm;apply List.getElem?_eq_none;simp;omega
 ·obtain ⟨h1',h2',h3'⟩:=ow
  rcases h3' with ⟨_,e⟩ | ⟨b,o,row,e,_⟩
  ·omega
  ·rw [ea] at e;cases e
 ·have o2:DG h' (some (aQ h1.size)) (l+1) c' (xs ++ [y]):=DG.of (by rw [Y3] at o';unfold GM;simpa using o')
  have H3:A7 h' (CZ (some ⟨h1.size,0,none⟩) (l+1) c' (xs ++ [y])*(CZ a l c xs*R)):=H2.mk_new old (λb hb=>⟨by obtain ⟨ad,e,rfl⟩:=hb;cases e;exact Nat.le_refl _,o2.lt2 hb⟩) o2.nd λh'' e=>o2.congr e
  exact k _ c' h' H3.drop2
theorem Mz {T:Nat} {fo:Option (Nat × Nat)} {t:Thr} {id:Int} {R:Hp} {y:Int} (H:A7 h (M1 T fo t id*R)) (hy:iN y) (hl:t.retired.length < 1073741824) (k:∀h',A7 h' (M1 T fo (Thr.setRe t (t.retired ++ [y])) id*R)->K tQ h') :
  A5 Tryz.prog 235 #[pQ (some ⟨T,8,none⟩),iQ y] h K:=by
 refine call235 ?_
 unfold F235 lS nP
 obtain ⟨a,c,Q,e,H1,re⟩:=Ry H
 have e0:=e h _ H1.drop
 have hB:=(OP H).re
 refine sb ?_
 refine D3 e0 ?_
 refine sb ?_
 refine H1.app1 (by omega) λa' c' h' H2=>?_
 refine sb ?_
 refine re _ h' a' _ c' _ (by omega) (λv hv=>?_) H2 _ k
 rcases List.mem_append.1 hv with h1 | h1
 ·exact hB v h1
 ·rw [List.mem_singleton.1 h1];exact hy
theorem De {T:Nat} {fo:Option (Nat × Nat)} {t:Thr} {id:Int} {R:Hp} (H:A7 h (M1 T fo t id*R)) (k:K (iQ (t.retired.length:Int)) h) :
  A5 Tryz.prog 211 #[pQ (some ⟨T,8,none⟩)] h K:=by
 refine call211 ?_
 unfold F211 lS nP
 obtain ⟨a,c,e0,ow⟩:=OX H
 refine sb ?_
 refine D3 e0 ?_
 refine sb ?_
 exact k
theorem New.part {h h':A2} {a:Option Addr} {l c:Nat} {xs:List Int} {R:Hp} (H:New h h' a l c xs) (S:A7 h R) (o:G4 h.size h h'):∃Q:Hp,A7 h' (Q*R)/\∀h P,A7 h (Q*P)->RI h a l c xs:=by
 rcases H with ⟨h1,h2,h3⟩ | ⟨h1,h2⟩
 ·subst h1;subst h2;subst h3
  exact ⟨Mr,by rw [W9];exact S.old o,λh P _=>⟨N8.nil _ _,rfl,Nat.le_refl _⟩⟩
 ·refine ⟨F3 3 1 a l c (xs.map iv),S.mk_new o (λb hb=>?_) h1.nd λh'' e=>h1.congr e,λh P S=>GM.ri S.own⟩
  refine ⟨?_,h1.lt2 hb⟩
  obtain ⟨ad,e,rfl⟩:=hb
  exact h2 ad e
theorem MA {T:Nat} {fo:Option (Nat × Nat)} {t:Thr} {id:Int} {R:Hp} (H:A7 h (M1 T fo t id*R)) (k:∀a' c' h' Q,A7 h' (Q*(M1 T fo t id*R))->(∀h P,A7 h (Q*P)->RI h a' t.retired.length c' t.retired)->K (lQ a' t.retired.length c') h') :
  A5 Tryz.prog 238 #[pQ (some ⟨T,8,none⟩)] h K:=by
 refine call238 ?_
 unfold F238 cf lS nP
 obtain ⟨a,c,e0,ow⟩:=OX H
 have hB:=(OP H).len
 refine sb ?_
 refine D3 e0 ?_
 refine sb ?_
 refine A0 (YZ (GM.ri ow) (by omega) λa' c' h' hn o=>?_)
 refine sb ?_
 obtain ⟨Q,h1,h2⟩:=hn.part H o
 exact k a' c' h' Q h1 h2
theorem Jb {w:Int} (hw:U w) (k:K (uQ (J2 w)) h):A5 Tryz.prog 231 #[uQ w] h K:=by
 refine call231 ?_
 unfold F231 cf
 refine A0 (M7 hw ?_)
 refine sb ?_
 exact k
def cfV (c:Mod.Cf):Value:=.agg #[iQ c.algo,iQ c.threads,iQ c.nodes,iQ c.level,iQ c.batch,iQ c.probes,iQ c.scan]
theorem cf7 {c:Mod.Cf} {F:Value->Value->Value->Value->Value->Value->Value->Prop} (k:F (iQ c.algo) (iQ c.threads) (iQ c.nodes) (iQ c.level) (iQ c.batch) (iQ c.probes) (iQ c.scan)) :
 asAgg (cfV c) λvs=>G0 vs 7 (D2 vs 0 λv0=>D2 vs 1 λv1=>D2 vs 2 λv2=>D2 vs 3 λv3=>D2 vs 4 λv4=>D2 vs 5 λv5=>D2 vs 6 λv6=>F v0 v1 v2 v3 v4 v5 v6):=k
theorem U9 {p:Pl} (k:∀h',G4 h.size h h'->K (cfV p.c) h'):A5 Tryz.prog 139 #[Mt p] h K:=by
 refine call139 ?_
 unfold F139 g139 da7 PY dw7
 rw [FV]
 have p1:=J8 h (Di p).toArray 117
 generalize h.push (oQ (Di p).toArray 117)=h1 at *
 have p2:=J8 h1 NW 23
 generalize h1.push (oQ NW 23)=h2 at *
 have hs1:=p1.size
 have O:h2[h.size]? = some (oQ (Di p).toArray 117):=(p2.old _ (by omega)).trans p1.new
 refine C5 O rfl (C5 O rfl (C5 O rfl (C5 O rfl (C5 O rfl (C5 O rfl (C5 O rfl ?_))))))
 refine st7 (F6 (vs:=OF p.c) p2.new rfl (by simp [OF,J3]) λh3 w=>?_)
 have Q:=w.new
 refine C5 Q rfl (C5 Q rfl (C5 Q rfl (C5 Q rfl (C5 Q rfl (C5 Q rfl (C5 Q rfl ?_))))))
 exact k h3 ((p1.toOld.trans (p2.toOld.mono (by omega))).trans ⟨by rw [w.size];exact Nat.le_refl _,λc hc=>w.old c (by omega)⟩)
theorem Ga {p:Pl} (B:Me p) (t s:Int):iN (p.haz t s):=by
 have h1:=B.th
 have h2:=B.sl
 have h3:=B.hz
 unfold Pl.haz
 split
 ·rename_i c
  have:t*p.slots<=6*14:=Int.mul_le_mul (by omega) (by omega) (by omega) (by omega)
  have h0:0<=t*p.slots:=Int.mul_nonneg (by omega) (by omega)
  constructor <;> omega
 ·constructor <;> omega
section
variable {K:kQ} {h:A2} {M T b o N:Nat} {tv:Value} {fo:Option (Nat × Nat)} {x:A9} {R:Hp}
theorem A1.tc (H:A7 h (A1 M T tv fo x R)):A3 h ⟨T,0,Option.none⟩=some (iQ x.id)/\(∀F:Value->Prop,D1 h ⟨T,0,Option.none⟩ F=F (iQ x.id))/\(∀F:Value->Prop,D1 h ⟨T,2,Option.none⟩ F=F (uQ (x.ret 0)))/\(∀F:Value->Prop,D1 h ⟨T,3,Option.none⟩ F=F (uQ (x.ret 1)))/\(∀F:Value->Prop,D1 h ⟨T,4,Option.none⟩ F=F (uQ (x.ret 2))) /\
  A3 h ⟨T,2,Option.none⟩=some (uQ (x.ret 0))/\A3 h ⟨T,3,Option.none⟩=some (uQ (x.ret 1))/\(∀ob,A3 (h.push ob) ⟨T,2,Option.none⟩=some (uQ (x.ret 0)))/\(∀ob,A3 (h.push ob) ⟨T,3,Option.none⟩=some (uQ (x.ret 1)))/\(∀ob,A3 (h.push ob) ⟨T,0,Option.none⟩=some (iQ x.id)):=by
 obtain ⟨B,e⟩:=Lp (A1.thr H)
 have c0:=E9 (i:=0) e rfl
 have c2:A3 h ⟨T,2,Option.none⟩=some (uQ (x.ret 0)):=E9 (i:=2) e rfl
 have c3:A3 h ⟨T,3,Option.none⟩=some (uQ (x.ret 1)):=E9 (i:=3) e rfl
 have c4:A3 h ⟨T,4,Option.none⟩=some (uQ (x.ret 2)):=E9 (i:=4) e rfl
 refine ⟨c0,λF=>?_,λF=>?_,λF=>?_,λF=>?_,c2,c3,λ_=>E4 c2,λ_=>E4 c3,λ_=>E4 c0⟩
 ·unfold D1;rw [c0]
 ·unfold D1;rw [c2]
 ·unfold D1;rw [c3]
 ·unfold D1;rw [c4]
theorem A1.al {N:Nat} {ty:TypeId} {v0 v1 v2:Value} (H:A7 h (A1 M T tv (some (b,o)) x (pt N (.cells #[v0,v1,v2] ty)*R))):type_of% (And.intro (A1.l H) (And.intro (A1.r H) (And.intro (A1.c H) (And.intro (A1.cp H) (A1.tc H))))):=And.intro (A1.l H) (And.intro (A1.r H) (And.intro (A1.c H) (And.intro (A1.cp H) (A1.tc H))))
theorem OY (H:A7 h (A1 M T tv (some (b,o)) x R)) (hi:iN x.id) (hs:x.m.mm.st < 1099511627776) (k:∀h',A7 h' (A1 M T tv none (Ah x) R)->K tQ h') :
  A5 Tryz.prog 161 #[mP M,mP T,fP b o] h K:=by
 refine call161 ?_
 unfold F161 cf bd lI nP N0
 have B:=A1.fB H
 have P:=A1.pl H
 unfold Ah at k
 try simp +decide only [B4,F2,Nat.reduceAdd,Int.reduceLE,Int.reduceLT,Int.reduceToNat,J0,G5,B0,A1.r H,A1.tc H]
 refine A4 (λc=>?_) (λc=>?_)
 ·rw [if_pos c] at k
  refine A0 (M0 H (S5 _) hs λh1 H1 u1=>?_)
  refine sb ?_
  refine A1.stR (i:=2) H1 rfl u1 λh2 H2=>A1.stP H2 λh3 H3=>?_
  try simp +decide only [B4,F2,Nat.reduceAdd,Int.reduceLE,Int.reduceLT,Int.reduceToNat,J0,G5,B0,A1.r H3,B.len]
  refine A0 (Jb u1 ?_)
  try simp +decide only [B4,F2,Nat.reduceAdd,Int.reduceLE,Int.reduceLT,Int.reduceToNat,J0,G5,B0,A1.r H3,B.len]
  refine A4 (λc2=>?_) (λc2=>?_)
  ·simp only [if_pos c2] at k
   exact A0 (Nr H3 [(x.load (F5 (x.f.g 1))).1] rfl (W5 u1) (by omega) λh4 H4=>k h4 H4)
  ·simp only [if_neg c2] at k
   exact k h3 (A1.none H3)
 rw [if_neg c] at k
 refine A4 (λc=>?_) (λc=>?_)
 ·rw [if_pos c] at k
  refine A0 (Ef H λh1 H1=>AZ ?_)
  refine ⟨(A1.c H1).2.2.2.1,(A1.c H1).2.1,(A1.tc H1).1,?_⟩
  refine A0 (Bt P hi (S5 _) λh2 o2=>?_)
  have H2:=A1.old H1 o2
  try simp +decide only [B4,F2,Nat.reduceAdd,Int.reduceLE,Int.reduceLT,Int.reduceToNat,J0,G5,B0,A1.c H2]
  refine A0 (Jb (B.g 2) ?_)
  refine sb ?_
  refine A0 (T8 H2 (Ga P _ _) (T9 _) hs λh3 H3=>?_)
  exact A1.stP H3 λh4 H4=>k h4 (A1.none H4)
 ·rw [if_neg c] at k
  refine A0 (M0 H (S5 _) hs λh1 H1 u1=>?_)
  refine sb ?_
  refine ⟨λvs h'=>vs = [dQ (decide ((x.load (F5 (x.f.g 1))).1=x.f.g 2\/J2 (x.load (F5 (x.f.g 1))).1=0))]/\h' = h1,?_,?_⟩
  ·try simp +decide only [B4,F2,Nat.reduceAdd,Int.reduceLE,Int.reduceLT,Int.reduceToNat,J0,G5,B0,A1.r H1]
   refine A4 (λq=>by rw [decide_eq_true (.inl q)]) (λq=>?_)
   refine A0 (Jb u1 ?_)
   refine sb ?_
   congr 2
   rw [Bool.eq_iff_iff,beq_iff_eq,decide_eq_true_iff]
   exact ⟨.inr,λh=>h.resolve_left q⟩
  rintro v71 g72 h73 ⟨e,rfl⟩
  cases e
  refine sb ?_
  refine A4 (λc2=>?_) (λc2=>?_)
  ·simp only [if_pos c2] at k
   exact A0 (Nr H1 [(x.load (F5 (x.f.g 1))).1] rfl (W5 u1) (by omega) λh4 H4=>k h4 H4)
  ·simp only [if_neg c2] at k
   exact A1.stR (i:=2) H1 rfl u1 λh2 H2=>A1.stP H2 λh3 H3=>k h3 (A1.none H3)
theorem Zz (H:A7 h (A1 M T tv (some (b,o)) x R)) (hi:iN x.id) (hpc:0<=x.f.pc/\x.f.pc<=100) (hs:x.m.mm.st < 1099511627776) (k:∀h',A7 h' (A1 M T tv none (Ig x) R)->K tQ h') :
  A5 Tryz.prog 162 #[mP M,mP T,fP b o] h K:=by
 refine call162 ?_
 unfold F162 cf lI nP N0
 have B:=A1.fB H
 have P:=A1.pl H
 unfold Ig at k
 try simp +decide only [B4,F2,Nat.reduceAdd,Int.reduceLE,Int.reduceLT,Int.reduceToNat,J0,G5,B0,A1.r H,A1.tc H]
 refine A0 (Ef H λh1 H1=>AZ ?_)
 try refine ⟨(A1.c H1).1,?_⟩
 refine A0 (AM λh2 o2=>?_)
 have H2:=A1.old H1 o2
 try simp +decide only [B4,F2,Nat.reduceAdd,Int.reduceLE,Int.reduceLT,Int.reduceToNat,J0,G5,B0,A1.r H2,A1.c H2,A1.tc H2]
 refine A4 (λc=>?_) (λc=>?_)
 ·rw [if_pos c] at k
  exact A0 (Mx H2 Z9.none (by omega) k)
 ·rw [if_neg c] at k
  refine A0 (Ef H2 λh3 H3=>AZ ?_)
  refine ⟨(A1.c H3).1,(A1.tc H3).1,?_⟩
  refine A0 (Bt P hi ⟨by omega,by omega⟩ λh4 o4=>?_)
  have H4:=A1.old H3 o4
  refine sb ?_
  refine A0 (T8 H4 (Ga P _ _) U0 hs λh5 H5=>?_)
  try simp +decide only [B4,F2,Nat.reduceAdd,Int.reduceLE,Int.reduceLT,Int.reduceToNat,J0,G5,B0,A1.r H5]
  rw [<- FT,D8 (by omega) (by omega)]
  exact A1.stP H5 λh6 H6=>k h6 (A1.none H6)
theorem A1.ofRe {l:List Int} {h':A2} (H:A7 h' (M1 T fo (Thr.setRe x.t l) x.id*(M3 M tv x.m*R))):A7 h' (A1 M T tv fo (x.re l) R):=A1.ofThr H
theorem Rz (H:A7 h (A1 M T tv (some (b,o)) x R)) (hl:x.t.retired.length < 1073741824) (hd:x.t.fr.length < 1073741824) (k:∀h',A7 h' (A1 M T tv none (BJ x) R)->K tQ h') :
  A5 Tryz.prog 163 #[mP M,mP T,fP b o] h K:=by
 refine call163 ?_
 unfold F163 cf bd lI nP Nh N0
 have B:=A1.fB H
 have P:=A1.pl H
 unfold BJ at k
 try simp +decide only [B4,F2,Nat.reduceAdd,Int.reduceLE,Int.reduceLT,Int.reduceToNat,J0,G5,B0,A1.r H]
 refine A0 (SW1 H (S5 _) λh1 H1=>?_)
 refine A0 (Mz (A1.thr H1) (S5 _) hl λh2 H2'=>?_)
 have H2:=A1.ofRe H2'
 refine A0 (Mx H2 Z9.none (by omega) λh3 H3=>?_)
 refine A0 (De (A1.thr H3) ?_)
 refine sb ?_
 refine A0 (Ef H3 λh4 H4=>AZ ?_)
 refine A0 (U9 λh5 o5=>cf7 ?_)
 have H5:=A1.old H4 o5
 refine sb ?_
 refine A4 (λc=>?_) (λc=>?_)
 ·simp only [if_pos c] at k
  refine A0 (Ru H5 Z9.none (by omega) ?_ λh6 b6 o6 _ _ H6=>k h6 (A1.none H6))
  show (Thr.pop _ _).fr.length < _
  unfold Thr.pop
  split
  ·exact hd
  ·simp only [List.length_dropLast]
   show x.t.fr.length - 1 < _
   omega
 ·simp only [if_neg c] at k
  exact k h5 (A1.none H5)
end
end
section
open Mod
theorem Gb {h:A2} {N:Nat} {p:Pl} {ty:TypeId} {F:Value->Value->Value->Value->Value->Value->Value->Value->Value->Value->Value->Value->Value->Value->Value->Prop} (O:h[N]? = some (oQ (Di p).toArray ty))
  (k:F (iQ p.c.algo) (iQ p.c.threads) (iQ p.c.nodes) (iQ p.c.level) (iQ p.c.batch) (iQ p.c.probes) (iQ p.c.scan) (iQ p.slots) (iQ p.width) (iQ p.sent) (iQ p.hazards) (iQ p.links) (iQ p.nodes) (iQ p.tree) (iQ p.size)) :
  D1 h (aQ N) λv0=>D1 h ⟨N,1,none⟩ λv1=>D1 h ⟨N,2,none⟩ λv2=>D1 h ⟨N,3,none⟩ λv3=>D1 h ⟨N,4,none⟩ λv4=>D1 h ⟨N,5,none⟩ λv5=>D1 h ⟨N,6,none⟩ λv6=>D1 h ⟨N,7,none⟩ λv7=>D1 h ⟨N,8,none⟩ λv8=>D1 h ⟨N,9,none⟩ λv9=>D1 h ⟨N,10,none⟩ λv10=>D1 h ⟨N,11,none⟩ λv11=>D1 h ⟨N,12,none⟩ λv12=>D1 h ⟨N,13,none⟩ λv13=>D1 h ⟨N,14,none⟩ λv14=>F v0 v1 v2 v3 v4 v5 v6 v7 v8 v9 v10 v11 v12 v13 v14:=
 C5 O rfl (C5 O rfl (C5 O rfl (C5 O rfl (C5 O rfl (C5 O rfl (C5 O rfl (C5 O rfl (C5 O rfl (C5 O rfl (C5 O rfl (C5 O rfl (C5 O rfl (C5 O rfl (C5 O rfl k))))))))))))))
theorem VA {h:A2} {N:Nat} {p:Pl} {ty:TypeId} {X:Prop} (O:h[N]? = some (oQ (Di p).toArray ty)) (k:X) :
  A3 h (aQ N)=some (iQ p.c.algo)/\A3 h ⟨N,1,none⟩=some (iQ p.c.threads)/\A3 h ⟨N,2,none⟩=some (iQ p.c.nodes)/\A3 h ⟨N,3,none⟩=some (iQ p.c.level)/\A3 h ⟨N,4,none⟩=some (iQ p.c.batch)/\A3 h ⟨N,5,none⟩=some (iQ p.c.probes)/\A3 h ⟨N,6,none⟩=some (iQ p.c.scan)/\A3 h ⟨N,7,none⟩=some (iQ p.slots)/\A3 h ⟨N,8,none⟩=some (iQ p.width)/\A3 h ⟨N,9,none⟩=some (iQ p.sent)/\A3 h ⟨N,10,none⟩=some (iQ p.hazards)/\A3 h ⟨N,11,none⟩=some (iQ p.links)/\A3 h ⟨N,12,none⟩=some (iQ p.nodes)/\A3 h ⟨N,13,none⟩=some (iQ p.tree)/\A3 h ⟨N,14,none⟩=some (iQ p.size)/\X:=
 ⟨E9 O rfl,E9 O rfl,E9 O rfl,E9 O rfl,E9 O rfl,E9 O rfl,E9 O rfl,E9 O rfl,E9 O rfl,E9 O rfl,E9 O rfl,E9 O rfl,E9 O rfl,E9 O rfl,E9 O rfl,k⟩
theorem c15 {h:A2} {N:Nat} {p:Pl} {ty:TypeId} (O:h[N]? = some (oQ (Di p).toArray ty)):A3 h (aQ N)=some (iQ p.c.algo)/\A3 h ⟨N,1,none⟩=some (iQ p.c.threads)/\A3 h ⟨N,2,none⟩=some (iQ p.c.nodes)/\A3 h ⟨N,3,none⟩=some (iQ p.c.level)/\A3 h ⟨N,4,none⟩=some (iQ p.c.batch)/\A3 h ⟨N,5,none⟩=some (iQ p.c.probes)/\A3 h ⟨N,6,none⟩=some (iQ p.c.scan)/\A3 h ⟨N,7,none⟩=some (iQ p.slots)/\A3 h ⟨N,8,none⟩=some (iQ p.width)/\A3 h ⟨N,9,none⟩=some (iQ p.sent)/\A3 h ⟨N,10,none⟩=some (iQ p.hazards)/\A3 h ⟨N,11,none⟩=some (iQ p.links)/\A3 h ⟨N,12,none⟩=some (iQ p.nodes)/\A3 h ⟨N,13,none⟩=some (iQ p.tree)/\A3 h ⟨N,14,none⟩=some (iQ p.size):=
 ⟨E9 O rfl,E9 O rfl,E9 O rfl,E9 O rfl,E9 O rfl,E9 O rfl,E9 O rfl,E9 O rfl,E9 O rfl,E9 O rfl,E9 O rfl,E9 O rfl,E9 O rfl,E9 O rfl,E9 O rfl⟩
section
variable {K:kQ} {h:A2} {M T b o N:Nat} {tv:Value} {fo:Option (Nat × Nat)} {x:A9} {R:Hp}
theorem Sq8 {h:A2} {b c:Nat} {r1 r2:Array Value} {t1 t2:TypeId} (e1:h[b]? = some (oQ r1 t1)) (e2:h[c]? = some (oQ r2 t2)) (hne:t1≠t2):b≠c:=by
 rintro rfl
 rw [e1] at e2
 have:=congrArg (λo:Option Obj=>match o with | some (.cells _ t _)=>some t | _=>none) e2
 exact hne (by simpa using this)
theorem RA {h:A2} {P T:Nat} {av:Nat->Prop} {a:Option Addr} {l c:Nat} {xs:List Int} (e1:A3 h (aQ P)=some (mP T)) (e2:A3 h ⟨T,9,none⟩=some (lQ a l c)) (R:RI h a l c xs) (hl:l < 2 ^ 60) (n1:¬ av P) (n2:¬ av T) (n3:xs≠[]->∀ad,a=some ad->¬ av ad.block) :
  Dd av (.func (.func 236) #[] #[pQ (some (aQ P))]) (λ_=>True) (λy=>xs.contains y) h:=by
 refine ⟨⟨_,_,_,rfl⟩,λh=>A3 h (aQ P)=some (mP T)/\A3 h ⟨T,9,none⟩=some (lQ a l c)/\RI h a l c xs,⟨e1,e2,R⟩,λh h' o e=>⟨o.cell n1 e.1,o.cell n2 e.2.1,e.2.2.congrA o n3⟩,?_⟩
 rintro h y K ⟨e1,e2,R⟩ _ k
 refine KR ?_
 rw [cl2]
 refine call236 ?_
 unfold F236 cf lS lP nP
 refine sb ?_
 refine D3 e1 ?_
 refine sb ?_
 refine D3 e2 ?_
 refine sb ?_
 refine A0 (Lr R hl ?_)
 refine sb ?_
 exact k h (G4.refl _ _)
theorem A7.pt_ne {h:A2} {N M:Nat} {o o':Obj} {R:Hp} (H:A7 h (pt N o*(pt M o' * R))):M≠N:=by
 obtain ⟨_,s,σ,τ,d,rfl,p,_,_,d2,rfl,q,r⟩:=H
 rintro rfl
 have h1:=q M
 have h2:=p M
 rw [if_pos rfl] at h1 h2
 rcases d M with e | e
 ·rw [e] at h2;cases h2
 ·have:=(CA.1 e).1
  rw [this] at h1;cases h1
theorem MC {P:Nat} {h:A2} {T:Nat} {fo:Option (Nat × Nat)} {t:Thr} {id:Int} {ty:TypeId} {R:Hp} (H:A7 h (M1 T fo t id*(pt P (oQ #[mP T] ty)*R)))
  (k:∀n h',A7 h' (M1 T fo (Thr.setRe t (t.retired.filter λy=>t.found.contains y)) id*(pt P (oQ #[mP T] ty)*R))->K (iQ n) h') :
  A5 Tryz.prog 239 #[pQ (some ⟨T,8,none⟩),.func (.func 236) #[] #[pQ (some (aQ P))]] h K:=by
 refine call239 ?_
 unfold F239 cf lS nP
 have TB:=OP H
 rw [<- E7] at H
 obtain ⟨R',hR',bR',H⟩:=H.freeze
 rw [E7] at H
 refine ⟨λvs h'=>vs = [dQ false]/\h' = h,?_,?_⟩
 ·simp only [Option.isNone_some,E2,V7]
  exact ⟨by trivial,by trivial⟩
 rintro v2 g3 h4 ⟨e,rfl⟩
 cases e
 refine sb ?_
 have k:∀n h',A7 h' (M1 T fo (Thr.setRe t (t.retired.filter λy=>t.found.contains y)) id*(pt P (oQ #[mP T] ty)*R'))->K (iQ n) h':=λn h' H'=>by
  rw [<- E7] at H'
  have H2:=H'.mono2 hR'
  rw [E7] at H2
  exact k n h' H2
 clear hR'
 have H1:=H.push (oQ #[lQ none 0 0] 25)
 generalize h4.push (oQ #[lQ none 0 0] 25)=h5 at *
 generalize h4.size=N at *
 obtain ⟨B,x,H2⟩:=J4.1 H1.drop
 have e8:=E9 (i:=8) H2.at rfl
 have e9:=E9 (i:=9) H2.at rfl
 have oR:=A7.own (A7.drop (A7.drop (A7.drop (A7.drop (A7.drop H2)))))
 have oF:=A7.ownf (A7.drop (A7.drop (A7.drop (A7.drop (A7.drop (A7.drop H2))))))
 have eP:h5[P]? = some (oQ #[mP T] ty):=H1.drop.drop.at
 have H3:A7 h5 (pt N (oQ #[lQ none 0 0] 25)*(M1 T fo t id*(pt P (oQ #[mP T] ty)*R'))):=H1
 have hN:h5[N]? = some (oQ #[lQ none 0 0] 25):=H3.at
 have hTN:T≠N:=Sq8 H2.at hN (by decide)
 have hPN:P≠N:=A7.pt_ne (A7.ac H3 (by ac_rfl):A7 h5 (pt N (oQ #[lQ none 0 0] 25)*(pt P (oQ #[mP T] ty)*(M1 T fo t id*R'))))
 have nR:∀ad,B.re=some ad->¬ ad.block=N:=λad ea e=>by
  have eN:=oR.sees
  rcases oR.2.2 with ⟨y,_⟩ | ⟨b,row,y,hb,_⟩
  ·rw [ea] at y;cases y
  ·rw [ea] at y;cases y
   exact Sq8 hb hN (by decide) e
 have nF:∀ad,B.fo=some ad->¬ ad.block=N:=λad ea e=>by
  rcases oF.2.2 with ⟨y,_⟩ | ⟨b,o,row,y,hb,_⟩
  ·rw [ea] at y;cases y
  ·rw [ea] at y;cases y
   exact Sq8 hb hN (by decide) e
 have hlen:=TB.len
 refine D3 e8 ?_
 refine sb ?_
 have hNs:N < h5.size:=(Array.getElem?_eq_some_iff.1 hN).1
 refine A0 (Zy (av:=λb=>b=N) (GM.ri oR) (by omega) (λ_=>nR) (λb hb=>by rw [hb];exact hNs) λg h6 S6 o6=>?_)
 have hk:Dd (λb=>b=N) (.func (.func 236) #[] #[pQ (some (aQ P))]) (λ_=>True) (λy=>t.found.contains y) h5:=
  RA (by rw [E0 eP];rfl) e9 oF.ri (by omega) hPN hTN (λ_=>nF)
 refine A0 (Vx S6 (hk.old (Ja.of o6)) (λ_ _=>trivial) (λb hb=>by rw [hb];have:=o6.1;omega) λg' h7 S7 o7=>?_)
 have o57:G4 h5.size h5 h7:=o6.trans (o7.mono o6.1)
 have H7:=H3.old o57
 refine My S7 H7.at (Nat.le_trans (List.length_filter_le _ _) (by omega)) λh8 a c s8 old8 n8 own8 new8=>?_
 have H8:=H7.collect s8 old8 n8 own8 new8
 have H9:A7 h8 (F3 3 1 a _ c _*(M1 T fo t id*(pt P (oQ #[mP T] ty)*R'))):=H8.drop2
 try simp only [B4,F2,Nat.reduceAdd,Int.reduceLE,Int.reduceLT,Int.reduceToNat]
 obtain ⟨a1,c1,e1,_⟩:=OX H9.drop
 refine D3 e1 ?_
 refine sb ?_
 refine D3 (X8 n8) ?_
 refine sb ?_
 refine D3 (X8 n8) ?_
 refine sb ?_
 refine Vy H9 (λv hv=>TB.re v ((List.mem_filter.1 hv).1)) (Nat.le_trans (List.length_filter_le _ _) (by omega)) λh9 H10=>?_
 intro h10 hsd
 rw [<- E7] at H10
 have H11:=H10.sameD (SG3.star GU.pt) bR' hsd
 rw [E7] at H11
 exact k _ h10 H11
theorem RC {h:A2} {N:Nat} {t:Thr} {id:Int} {a:Option Addr} {c:Nat} {Q S:Hp} {REST:Value->Value->Value->A2->Prop} (hQ:∀h P,A7 h (Q*P)->RI h a t.retired.length c t.retired) (hS:∀h P,A7 h (P*S)->A3 h ⟨N,0,Option.none⟩=some (mP T)) (hl:t.retired.length<=1073741824) (hl2:t.found.length<=1073741824)
  (H:A7 h (Q*(M1 T fo t id*S)))
  (k:∀oa oc h',A7 h' (F3 3 1 oa (t.retired.filter (λn=>!t.found.contains n)).length oc ((t.retired.filter (λn=>!t.found.contains n)).map iv)*(Q*(M1 T fo t id*S)))->∀v189 v190,REST (lQ oa (t.retired.filter (λn=>!t.found.contains n)).length oc) v189 v190 h') :
  O0 λI=>Hg λm=>I [lQ Option.none 0 0,tQ,iQ 0] h/\∀v188:Value,∀v189:Value,∀v190:Value,∀g191:F8,∀h192:A2,I [v188,v189,v190] h192->asInt .i64 v190 λn193=>D0 (decide (n193 < ((t.retired.length:Nat):Int)))
   (Gv v190 λn194=>((0:Int)<=n194)/\((n194:Int) < ((t.retired.length:Nat):Int))/\E5 (pQ a) λa195=>D1 h192 (a195.add n194.toNat) λv196=>asInt .i64 v196 λn197=>AQ Tryz.prog (.func (.func 236) #[] #[pQ (some ⟨N,0,Option.none⟩)]) #[iQ n197] h192 λv198 h199=>asBool v198 λb200=>
    D0 (!b200) (C8 v188 λo201 k202 k203=>T2 Tryz.prog #[25,25] 25 #[lQ o201 k202 k203,lQ (some ⟨h199.size,0,Option.none⟩) 1 1] (h199.push (oQ #[iQ n197] 3)) λv204 h205=>C8 v204 λo206 k207 k208=>asInt .i64 v190 λn209=>
      I [lQ o206 k207 k208,iQ n197,iQ (F5 (n209+1))] h205/\m [lQ o206 k207 k208,iQ n197,iQ (F5 (n209+1))] h205 < m [v188,v189,v190] h192)
     (asInt .i64 v190 λn210=>I [v188,iQ n197,iQ (F5 (n210+1))] h199/\m [v188,iQ n197,iQ (F5 (n210+1))] h199 < m [v188,v189,v190] h192))
   (REST v188 v189 v190 h192):=by
 refine ⟨λvs h'=>∃oa oc w,∃i:Nat,∃out:List Int,vs = [lQ oa out.length oc,w,iv i]/\i<=t.retired.length/\out=(t.retired.take i).filter (λn=>!t.found.contains n)/\A7 h' (F3 3 1 oa out.length oc (out.map iv)*(Q*(M1 T fo t id*S))),
  λvs _=>(match vs with | [_,_,.int _ n]=>t.retired.length - n.toNat | _=>0),⟨Option.none,0,_,0,[],rfl,Nat.zero_le _,rfl,H.own_new _ _⟩,?_⟩
 rintro v188 v189 v190 g191 h9 ⟨oa,oc,w,i,out,e,hi,hout,H9⟩
 cases e
 refine sb ?_
 have eN9:=hS h9 _ (A7.ac H9 (by simp only [<- E7]):A7 h9 (F3 3 1 oa out.length oc (out.map iv)*Q*M1 T fo t id*S))
 refine A4 (λhlt=>?_) (λhge=>?_)
 ·have hlt':i < t.retired.length:=by omega
  have RI9:=hQ h9 _ H9.drop
  obtain ⟨ad,rfl,hc⟩:=RI9.at hlt'
  have htk:(t.retired.take (i+1)).filter (λn=>!t.found.contains n)=out ++ (if t.found.contains t.retired[i] then [] else [t.retired[i]]):=by
   rw [List.take_succ_eq_append_getElem hlt',List.filter_append,<- hout]
   congr 1
   cases hcn:t.found.contains t.retired[i] <;> simp only [List.filter_cons,List.filter_nil,hcn,Bool.not_false,Bool.not_true,if_true,Bool.false_eq_true,if_false]
  have hol:out.length<=i:=by rw [hout];exact Nat.le_trans (List.length_filter_le _ _) (by rw [List.length_take];omega)
  generalize t.retired[i]=y at *
  refine ⟨by omega,by omega,?_⟩
  refine D3 hc ?_
  refine sb ?_
  obtain ⟨a9,c9,e99,of9⟩:=SG7 H9.drop.drop
  refine Dd.call (av:=λ_=>False) (RA eN9 e99 of9.ri (by omega) (λh=>h) (λh=>h) (λ_ _ _ h=>h)) trivial λh10 o10=>?_
  have H10:=H9.old o10
  refine sb ?_
  have hw:IntKind.i64.wrap ((i:Int)+1)=((i+1:Nat):Int):=Ac (by omega)
  rw [FT] at hw
  cases hcn:t.found.contains y with
  | false=>
   simp only [hcn,Bool.false_eq_true,if_false] at htk
   refine sb ?_
   refine H10.app1 (by omega) λa' c' h11 H11=>?_
   try simp only [B4,F2,Nat.reduceAdd,Int.reduceLE,Int.reduceLT,Int.reduceToNat,hw]
   exact ⟨⟨a',c',iQ y,i+1,out ++ [y],by rw [List.length_append];rfl,by omega,htk.symm,by rw [List.length_append];exact H11⟩,by show t.retired.length - ((i+1:Nat):Int).toNat < t.retired.length - (i:Int).toNat;omega⟩
  | true=>
   simp only [hcn,if_true,List.append_nil] at htk
   try simp only [B4,F2,Nat.reduceAdd,Int.reduceLE,Int.reduceLT,Int.reduceToNat,hw]
   exact ⟨⟨oa,oc,iQ y,i+1,out,rfl,by omega,htk.symm,H10⟩,by show t.retired.length - ((i+1:Nat):Int).toNat < t.retired.length - (i:Int).toNat;omega⟩
 ·have hi2:i=t.retired.length:=by omega
  rw [hi2,List.take_length] at hout
  subst hout
  exact k oa oc h9 H9 _ _
theorem A1.wr {ob ob':Obj} {h':A2} (H:A7 h (A1 M T tv fo x (pt N ob*R))) (new:h'[N]? = some ob') (old:∀c,c≠N->h'[c]? = h[c]?) (ho:Nd ob':=by intro x e;cases e):A7 h' (A1 M T tv fo x (pt N ob' * R)):=
 A7.ac (A7.wr (A7.ac H (by unfold A1;ac_rfl):A7 h (pt N ob*(M3 M tv x.m*(M1 T fo x.t x.id*R)))) new old ho) (by unfold A1;ac_rfl)
theorem A1.setFo {a:Option Addr} {l c:Nat} {xs:List Int} {F:A2->Prop} (H:A7 h (CZ a l c xs*A1 M T tv fo x R)) (hx:∀v ∈ xs,iN v) (hl:l<=1073741824) (k:∀h',A7 h' (A1 M T tv fo (x.fo xs) R)->F h'):C4 h ⟨T,9,Option.none⟩ (lQ a l c) F:=
 Vz (A7.ac H (by unfold A1;ac_rfl):A7 h (CZ a l c xs*(M1 T fo x.t x.id*(M3 M tv x.m*R)))) hx hl λh' H'=>k h' (A1.ofThr H')
theorem ZA (H:A7 h (A1 M T tv (some (b,o)) x R)) (hpc:0<=x.f.pc/\x.f.pc<=100) (hs:x.m.mm.st < 1099511627776) (hf:x.t.found.length < 1073741824) (hd:x.t.fr.length < 1073741824) (k:∀h',A7 h' (A1 M T tv none (scan x) R)->K tQ h') :
  A5 Tryz.prog 164 #[mP M,mP T,fP b o] h K:=by
 refine call164 ?_
 unfold F164 cf bd lS lP lI nP Sn9 Nh N0 Bs ce
 have P:=A1.pl H
 unfold scan at k
 dsimp only at k
 have H1:=A1.new H (oQ #[mP T] 176)
 generalize h.push (oQ #[mP T] 176)=h1 at *
 generalize h.size=N at *
 refine A0 (Ef H1 λh2 H2=>AZ ?_)
 have H3:=A1.new H2 (oQ Ae 117)
 generalize h2.push (oQ Ae 117)=h3 at *
 generalize h2.size=N2 at *
 refine Mn (F6 (vs:=Di x.m.p) (A1.loc H3) rfl (by simp [J3]) λh4 w=>?_)
 have H4:=A1.wr H3 w.new w.old
 refine Gb (A1.loc H4) (Gb (A1.loc H4) ?_)
 refine A0 (AM λh5 o5=>?_)
 have H5:=A1.old H4 o5
 refine sb ?_
 refine VA (A1.loc H5) ?_
 refine A0 (U9 λh6 o6=>cf7 ?_)
 have H6:=A1.old H5 o6
 refine sb ?_
 have hsl:=P.sl
 have hth:=P.th
 have hall:0<=x.m.p.slots*x.m.p.c.threads/\x.m.p.slots*x.m.p.c.threads<=84:=⟨Int.mul_nonneg (by omega) (by omega),Int.le_trans (Int.mul_le_mul hsl.2 hth.2 (by omega) (by omega)) (by omega)⟩
 have e84:F5 (x.m.p.slots*x.m.p.c.threads)=x.m.p.slots*x.m.p.c.threads:=by unfold F5;omega
 rw [e84]
 refine ⟨λvs h'=>vs = []/\A7 h' (A1 M T tv (some (b,o)) (if x.f.pc=0 then x.fo [] else x) (pt N2 (oQ (Di x.m.p).toArray 117)*(pt N (oQ #[mP T] 176)*R))),?_,?_⟩
 ·try simp +decide only [B4,F2,Nat.reduceAdd,Int.reduceLE,Int.reduceLT,Int.reduceToNat,J0,G5,B0,A1.r H6]
  refine A4 (λc=>?_) (λc=>?_)
  ·rw [if_pos c]
   refine D3 (v:=mP T) (E0 (A1.loc2 H6) 0) ?_
   refine sb ?_
   refine A1.setFo (A7.toF (xs:=[]) (A7.own_new H6 3 1)) (λv hv=>by cases hv) (by omega) λh7 H7=>H7
  ·rw [if_neg c]
   exact H6
 rintro g85 h86 ⟨_,H7⟩
 generalize hx1:(if x.f.pc=0 then x.fo [] else x)=x1 at *
 have ep:x1.m=x.m:=by rw [<- hx1];split <;> rfl
 have ef:x1.f=x.f:=by rw [<- hx1];split <;> rfl
 have efr:x1.t.fr=x.t.fr:=by rw [<- hx1];split <;> rfl
 have efo:x1.t.found.length<=x.t.found.length:=by rw [<- hx1];split;exact Nat.zero_le _;exact Nat.le_refl _
 rw [ef] at k
 try simp +decide only [B4,F2,Nat.reduceAdd,Int.reduceLE,Int.reduceLT,Int.reduceToNat,J0,G5,B0,A1.r H7,ef]
 have eN:=E0 (A1.loc2 H7) 0
 have eN':A3 h86 (aQ N)=some (mP T):=eN
 have XA:∀F:Value->Prop,D1 h86 (aQ N) F=F (mP T):=λF=>by unfold D1;rw [eN']
 refine A4 (λc=>?_) (λc=>?_)
 ·rw [if_pos c] at k
  try simp only [B4,F2,Nat.reduceAdd,Int.reduceLE,Int.reduceLT,Int.reduceToNat,XA]
  obtain ⟨a,cc,Q,e9,HQ,re⟩:=JB (A1.thr H7)
  refine D3 (e9 h86 _ HQ.drop) ?_
  refine sb ?_
  refine Gb (A1.loc H7) ?_
  try simp +decide only [B4,F2,Nat.reduceAdd,Int.reduceLE,Int.reduceLT,Int.reduceToNat,J0,G5,B0,A1.r H7,ef]
  refine Gb (A1.loc H7) ?_
  try simp +decide only [B4,F2,Nat.reduceAdd,Int.reduceLE,Int.reduceLT,Int.reduceToNat,J0,G5,B0,A1.r H7,ef]
  refine Gb (A1.loc H7) ?_
  refine A0 (AM λh8 o8=>?_)
  have H8:=A1.old H7 o8
  refine sb ?_
  have eN8:A3 h8 (aQ N)=some (mP T):=E0 (A1.loc2 H8) 0
  have e98:=e9 h8 _ (HQ.old o8).drop
  try simp +decide only [B4,F2,Nat.reduceAdd,Int.reduceLE,Int.reduceLT,Int.reduceToNat,J0,G5,B0,c15 (A1.loc H8),A1.c H8,ef,eN8,e98]
  refine ⟨by omega,?_⟩
  refine A0 (AM λh9 o9=>?_)
  have H9:=A1.old H8 o9
  have eN9:A3 h9 (aQ N)=some (mP T):=E0 (A1.loc2 H9) 0
  have e99:=e9 h9 _ ((HQ.old o8).old o9).drop
  try simp +decide only [B4,F2,Nat.reduceAdd,Int.reduceLE,Int.reduceLT,Int.reduceToNat,J0,G5,B0,c15 (A1.loc H9),A1.c H9,ef,eN9,e99]
  refine ⟨by omega,?_⟩
  have hd0:0<=x.f.pc / x.m.p.slots:=Int.ediv_nonneg (by omega) (by omega)
  have hd1:x.f.pc / x.m.p.slots<=x.f.pc:=Int.ediv_le_self _ (by omega)
  have hm0:0<=x.f.pc % x.m.p.slots:=Int.emod_nonneg _ (by omega)
  have hm1:x.f.pc % x.m.p.slots < x.m.p.slots:=Int.emod_lt_of_pos _ (by omega)
  have e1:F5 (Int.tdiv x.f.pc x.m.p.slots)=x.f.pc / x.m.p.slots:=by
   rw [Int.tdiv_eq_ediv_of_nonneg (by omega)];unfold F5;omega
  have e2:Int.tmod x.f.pc x.m.p.slots=x.f.pc % x.m.p.slots:=Int.tmod_eq_emod_of_nonneg (by omega)
  rw [e1,e2]
  refine A0 (Bt P ⟨by omega,by omega⟩ ⟨by omega,by omega⟩ λh10 o10=>?_)
  have o86:G4 h86.size h86 h10:=(o8.trans (o9.mono o8.1)).trans (o10.mono (Nat.le_trans o8.1 o9.1))
  have HQ10:=HQ.old o86
  have H10:=A1.old H7 o86
  refine sb ?_
  have eN10:A3 h10 (aQ N)=some (mP T):=E0 (A1.loc2 H10) 0
  refine ⟨e9 h10 _ HQ10.drop,eN10,eN10,?_⟩
  rw [Hr] at HQ10
  have hs1:x1.m.mm.st < 1099511627776:=by rw [ep];exact hs
  refine A0 (Lj HQ10 (Ga P _ _) hs1 λh12 H12 u12=>?_)
  have eN12:A3 h12 (aQ N)=some (mP T):=E0 H12.drop.drop.drop.drop.at 0
  try simp only [B4,F2,Nat.reduceAdd,Int.reduceLE,Int.reduceLT,Int.reduceToNat,eN12,e9 h12 _ H12.drop.drop]
  have hB:=A1.B H7
  rw [<- Hr] at H12
  refine ⟨E4 (e9 h12 _ H12.drop),E4 eN12,E4 eN12,?_⟩
  refine A7.appF H12 (by omega) λa' c' h13 H13=>?_
  have eN13:A3 h13 (aQ N)=some (mP T):=E0 H13.drop.drop.drop.drop.at 0
  try simp only [B4,F2,Nat.reduceAdd,Int.reduceLE,Int.reduceLT,Int.reduceToNat,eN13]
  refine re _ h13 a' _ c' _ (by omega) (λv hv=>?_) H13 _ λh14 H14=>?_
  ·rcases List.mem_append.1 hv with h1 | h1
   ·exact hB.fo v h1
   ·rw [List.mem_singleton.1 h1];exact S5 _
  have H15:=A1.ofThr H14
  have ef2:(⟨(x1.m.load (x.m.p.haz (x.f.pc / x.m.p.slots) (x.f.pc % x.m.p.slots))).2,Thr.setFo x1.t (x1.t.found ++ [F5 (x1.m.load (x.m.p.haz (x.f.pc / x.m.p.slots) (x.f.pc % x.m.p.slots))).1]),x1.id⟩ : A9).f=x.f:=ef
  try simp +decide only [B4,F2,Nat.reduceAdd,Int.reduceLE,Int.reduceLT,Int.reduceToNat,J0,G5,B0,A1.r H15,ef2]
  have e3:F5 (x.f.pc+1)=x.f.pc+1:=by unfold F5;omega
  rw [e3]
  exact A1.stP H15 λh16 H16=>k h16 (A1.drp (A1.drp (A1.none H16)))
 ·rw [if_neg c] at k
  clear H1 H2 H3 H4 H5 H6 w o5 o6 hx1
  have B7:=A1.B H7
  have ere:x1.t.retired.length<=1073741824:=B7.len.2.1
  refine ⟨λvs h'=>∃v0 v1 v2,vs = [v0,v1,v2]/\A7 h' (A1 M T tv (some (b,o)) (BK x1 (x.m.p.slots*x.m.p.c.threads)) (pt N2 (oQ (Di x.m.p).toArray 117)*(pt N (oQ #[mP T] 176)*R))),?_,?_⟩
  ·unfold BK
   try simp +decide only [B4,F2,Nat.reduceAdd,Int.reduceLE,Int.reduceLT,Int.reduceToNat,J0,G5,B0,A1.r H7,ef]
   refine A4 (λc2=>?_) (λc2=>?_)
   ·rw [if_pos c2]
    try simp only [B4,F2,Nat.reduceAdd,Int.reduceLE,Int.reduceLT,Int.reduceToNat,XA]
    refine A0 (MA (A1.thr H7) λa c' h8 Q H8 hQ=>?_)
    refine sb ?_
    refine RC hQ (λh P HP=>E0 (A7.ac HP (by ac_rfl):A7 h (pt N (oQ #[mP T] 176)*(P*(M3 M tv x1.m*(pt N2 (oQ (Di x.m.p).toArray 117)*R))))).at 0) ere (by have:=B7.len;omega) H8 λoa oc h9 H9 v189 v190=>?_
    have eN9:A3 h9 (aQ N)=some (mP T):=E0 H9.drop.drop.drop.drop.drop.at 0
    have hout:∃out,out=x1.t.retired.filter (λn=>!x1.t.found.contains n):=⟨_,rfl⟩
    obtain ⟨out,hout⟩:=hout
    rw [<- hout] at H9 ⊢
    ·have ldN9:∀F:Value->Prop,D1 h9 (aQ N) F=F (mP T):=λF=>by unfold D1;rw [eN9]
     try simp only [B4,F2,Nat.reduceAdd,Int.reduceLE,Int.reduceLT,Int.reduceToNat,ldN9]
     have H10:A7 h9 (M1 T (some (b,o)) x1.t x1.id*(pt N (oQ #[mP T] 176)*(F3 3 1 oa out.length oc (out.map iv)*(M3 M tv x1.m*(pt N2 (oQ (Di x.m.p).toArray 117)*R))))):=
      A7.drop (P:=Q) (A7.ac H9 (by ac_rfl))
     refine A0 (MC H10 λnk h11 H11=>?_)
     have eN11:A3 h11 (aQ N)=some (mP T):=E0 H11.drop.at 0
     have ldN11:∀F:Value->Prop,D1 h11 (aQ N) F=F (mP T):=λF=>by unfold D1;rw [eN11]
     try simp only [B4,F2,Nat.reduceAdd,Int.reduceLE,Int.reduceLT,Int.reduceToNat,ldN11]
     have H12:A7 h11 (CZ oa out.length oc out*A1 M T tv (some (b,o)) (x1.re (x1.t.retired.filter λn=>x1.t.found.contains n)) (pt N2 (oQ (Di x.m.p).toArray 117)*(pt N (oQ #[mP T] 176)*R))):=
      A7.toF (A7.ac H11 (by unfold A1;ac_rfl))
     refine A1.setFo H12 (λv hv=>B7.re v (by rw [hout] at hv;exact (List.mem_filter.1 hv).1)) (by rw [hout];exact Nat.le_trans (List.length_filter_le _ _) ere) λh13 H13=>?_
     have ef2:((x1.re (x1.t.retired.filter λn=>x1.t.found.contains n)).fo out).f=x.f:=ef
     try simp +decide only [B4,F2,Nat.reduceAdd,Int.reduceLE,Int.reduceLT,Int.reduceToNat,J0,G5,B0,A1.r H13,ef2]
     have e3:F5 (x.f.pc+1)=x.f.pc+1:=by unfold F5;omega
     rw [e3]
     exact A1.stP H13 λh14 H14=>⟨_,_,_,rfl,H14⟩
   ·rw [if_neg c2]
    exact ⟨_,_,_,rfl,H7⟩
  rintro v229 v230 v231 g232 h233 ⟨w0,w1,w2,e,H8⟩
  cases e
  have ed:(BK x1 (x.m.p.slots*x.m.p.c.threads)).t.fr.length < 1073741824:=by
   unfold BK
   split
   ·show (x1.t.fr.dropLast ++ [_]).length < _
    rw [efr];simp;omega
   ·rw [efr];exact hd
  generalize BK x1 (x.m.p.slots*x.m.p.c.threads)=x2 at *
  have eN8:A3 h233 (aQ N)=some (mP T):=E0 (A1.loc2 H8) 0
  have ldN8:∀F:Value->Prop,D1 h233 (aQ N) F=F (mP T):=λF=>by unfold D1;rw [eN8]
  have B8:=A1.B H8
  obtain ⟨a,cc,Q,e9,HQ,re⟩:=JB (A1.thr H8)
  have ld9:∀F:Value->Prop,D1 h233 ⟨T,9,none⟩ F=F (lQ a x2.t.found.length cc):=λF=>by unfold D1;rw [e9 h233 _ HQ.drop]
  try simp only [B4,F2,Nat.reduceAdd,Int.reduceLE,Int.reduceLT,Int.reduceToNat,ldN8,ld9]
  unfold Fw at k
  cases hfo:x2.t.found with
  | nil=>
   rw [hfo] at k
   try simp only [B4,F2,Nat.reduceAdd,Int.reduceLE,Int.reduceLT,Int.reduceToNat,List.length_nil]
   exact A0 (Mx H8 Z9.none (by omega) λh9 H9=>k h9 (A1.drp (A1.drp H9)))
  | cons n rest=>
   rw [hfo] at k HQ
   have hl:((((n :: rest).length:Nat):Int) == 0)=false:=by rw [beq_eq_false_iff_ne,List.length_cons];omega
   rw [hl]
   try simp only [B4,F2,Nat.reduceAdd,Int.reduceLE,Int.reduceLT,Int.reduceToNat,ldN8,ld9]
   refine ⟨by rw [List.length_cons];omega,?_⟩
   have ow:=HQ.ownf
   obtain ⟨ad,rfl,hc⟩:=ow.ri.at (i:=0) (by simp)
   rw [add_zero] at hc
   obtain ⟨tl,hsub⟩:=ow.tail
   refine sb ?_
   refine D3 hc ?_
   refine sb ?_
   refine ⟨by rw [List.length_cons];omega,?_⟩
   obtain ⟨_,hlt2,re2⟩:=HQ.opn
   have HT:=re2 h233 (GN (FD (some ad) 1 cc 1)) (λh=>DG h (FD (some ad) 1 cc 1) ((n :: rest).length - 1) (cc - 1) rest) (Fr.refl _ _) (λb2 hb2=>⟨.inl (hsub b2 hb2),hlt2 b2 (hsub b2 hb2)⟩) tl.nd λh'' e=>tl.congr e
   have hfl:=B8.len.2.2
   rw [hfo] at hfl
   refine re _ h233 _ _ _ rest (by omega) (λv hv=>B8.fo v (by rw [hfo];exact List.mem_cons_of_mem _ hv)) HT _ λh9 H9=>?_
   have H10:A7 h9 (A1 M T tv (some (b,o)) (x2.fo rest) _):=A1.ofThr H9
   have eN10:A3 h9 (aQ N)=some (mP T):=E0 (A1.loc2 H10) 0
   have ldN10:∀F:Value->Prop,D1 h9 (aQ N) F=F (mP T):=λF=>by unfold D1;rw [eN10]
   try simp only [B4,F2,Nat.reduceAdd,Int.reduceLE,Int.reduceLT,Int.reduceToNat,ldN10]
   exact A0 (Vv H10 [u64 n] rfl (W5 (R7 _)) (by omega) ed λh11 b2 o2 _ _ H11=>k h11 (A1.drp (A1.drp (A1.none H11))))
end
end
section
open Mod
structure Ok (x:A9):Prop where
 st:x.m.mm.st < 1099511627776
 us:x.m.used < 1099511627776
 re:x.t.retired.length < 1073741824
 fo:x.t.found.length < 1073741824
 fr:x.t.fr.length < 1000000000
 id:iN x.id
 pc:0<=x.f.pc/\x.f.pc<=100
section
variable {K:kQ} {h:A2} {M T b o N:Nat} {tv:Value} {fo:Option (Nat × Nat)} {x:A9} {R:Hp}
theorem Pa (H:A7 h (A1 M T tv fo x R)) (O:Ok x) (k:∀h',A7 h' (A1 M T tv none (Ag x) R)->K tQ h') :
  A5 Tryz.prog 165 #[mP M,mP T] h K:=by
 refine call165 ?_
 unfold F165 cf lI nP
 unfold Ag at k
 refine A0 (OU H (λe=>?_) λb o hne _ H1=>?_)
 ·rw [if_pos e] at k
  refine sb ?_
  refine ⟨λvs h'=>(∃w,vs = [dQ true,w])/\h' = h,⟨⟨_,rfl⟩,rfl⟩,?_⟩
  rintro v4 v5 g6 h7 ⟨⟨w,e⟩,rfl⟩
  cases e
  refine sb ?_
  exact k _ (A1.none H)
 ·rw [if_neg hne] at k
  refine sb ?_
  refine ⟨λvs h'=>(∃w,vs = [dQ false,w])/\h' = h,⟨⟨_,rfl⟩,rfl⟩,?_⟩
  rintro v4 v5 g6 h7 ⟨⟨w,e⟩,rfl⟩
  cases e
  try simp +decide only [B4,F2,Nat.reduceAdd,Int.reduceLE,Int.reduceLT,Int.reduceToNat,J0,G5,B0,A1.r H1]
  refine A4 (λc=>?_) (λc=>?_)
  ·rw [if_pos c] at k
   exact A0 (Vw H1 O.st k)
  rw [if_neg c] at k
  refine A4 (λc=>?_) (λc=>?_)
  ·rw [if_pos c] at k
   exact A0 (OW H1 O.st k)
  rw [if_neg c] at k
  exact A0 (Mx H1 Z9.none (by omega) k)
theorem Ey (H:A7 h (A1 M T tv fo x R)) (O:Ok x) (k:∀h',A7 h' (A1 M T tv none (U1 x) R)->K tQ h') :
  A5 Tryz.prog 111 #[mP M,mP T] h K:=by
 refine call111 ?_
 unfold F111 cf lI nP
 unfold U1 at k
 refine A0 (OU H (λe=>?_) λb o hne _ H1=>?_)
 ·rw [if_pos e] at k
  refine sb ?_
  refine ⟨λvs h'=>(∃w,vs = [dQ true,w])/\h' = h,⟨⟨_,rfl⟩,rfl⟩,?_⟩
  rintro v4 v5 g6 h7 ⟨⟨w,e⟩,rfl⟩
  cases e
  refine sb ?_
  exact k _ (A1.none H)
 ·rw [if_neg hne] at k
  refine sb ?_
  refine ⟨λvs h'=>(∃w,vs = [dQ false,w])/\h' = h,⟨⟨_,rfl⟩,rfl⟩,?_⟩
  rintro v4 v5 g6 h7 ⟨⟨w,e⟩,rfl⟩
  cases e
  try simp +decide only [B4,F2,Nat.reduceAdd,Int.reduceLE,Int.reduceLT,Int.reduceToNat,J0,G5,B0,A1.r H1]
  refine A4 (λc=>?_) (λc=>?_)
  ·rw [if_pos c] at k
   exact A0 (OY H1 O.id O.st k)
  rw [if_neg c] at k
  refine A4 (λc=>?_) (λc=>?_)
  ·rw [if_pos c] at k
   exact A0 (Zz H1 O.id O.pc O.st k)
  rw [if_neg c] at k
  refine A4 (λc=>?_) (λc=>?_)
  ·rw [if_pos c] at k
   exact A0 (Rz H1 O.re (by have:=O.fr;omega) k)
  rw [if_neg c] at k
  refine A4 (λc=>?_) (λc=>?_)
  ·rw [if_pos c] at k
   exact A0 (ZA H1 O.pc O.st O.fo (by have:=O.fr;omega) k)
  rw [if_neg c] at k
  exact A0 (Pa H1 O k)
end
end
section
open Mod
def Mod.Mac.setTh (m:Mac) (l:List Thr):Mac:={ m with th:=l }
def Mod.Mac.quiet (m:Mac):Mac:={ m with acted:=false }
def Gc:Int->List Nat->List Thr->Hp
 | _,[],_=>Mr
 | _,_ :: _,[]=>Mr
 | i,T :: Ts,t :: ts=>M1 T none t i*Gc (i+1) Ts ts
theorem Nt {h:A2}:∀ {Ts:List Nat} {ts:List Thr} {i:Int} {k:Nat} {R:Hp} (T:Nat) (t:Thr),Ts[k]? = some T->ts[k]? = some t->A7 h (Gc i Ts ts*R) ->
  ∃Q:Hp,A7 h (M1 T none t (i+k)*(Q*R))/\∀R' h' t',A7 h' (M1 T none t' (i+k)*(Q*R'))->A7 h' (Gc i Ts (ts.set k t')*R')
 | [],_,_,k,_,_,_,e,_,_=>by simp at e
 | _ :: _,[],_,k,_,_,_,_,e,_=>by simp at e
 | T0 :: Ts,t0 :: ts,i,0,R,T,t,e1,e2,H=>by
  simp only [List.getElem?_cons_zero,Option.some.injEq] at e1 e2
  subst e1 e2
  refine ⟨Gc (i+1) Ts ts,?_,λR' h' t' H'=>?_⟩
  ·rw [show i+((0:Nat):Int)=i by omega,<- E7]
   exact H
  ·rw [show i+((0:Nat):Int)=i by omega,<- E7] at H'
   exact H'
 | T0 :: Ts,t0 :: ts,i,k+1,R,T,t,e1,e2,H=>by
  simp only [List.getElem?_cons_succ] at e1 e2
  have H:A7 h ((M1 T0 none t0 i*Gc (i+1) Ts ts)*R):=H
  rw [E7,D4] at H
  obtain ⟨Q,H1,re⟩:=Nt T t e1 e2 H
  have ei:i+1+(k:Int)=i+((k+1:Nat):Int):=by omega
  rw [ei] at H1 re
  refine ⟨Q*M1 T0 none t0 i,by rw [E7];exact H1,λR' h' t' H'=>?_⟩
  rw [E7] at H'
  have H2:=re _ _ _ H'
  show A7 h' ((M1 T0 none t0 i*Gc (i+1) Ts (ts.set k t'))*R')
  rw [E7,D4]
  exact H2
def CV (M:Nat) (Ts:List Nat) (m:Mac):Hp:=ex λa=>ex λc=>pr (Ts.length=m.th.length/\m.th.length<=6) (M3 M (lQ a m.th.length c) m*(F3 176 1 a m.th.length c (Ts.map mP)*Gc 0 Ts m.th))
theorem V2 {h:A2} {M:Nat} {Ts:List Nat} {m:Mac} {R:Hp}:A7 h (CV M Ts m*R)↔∃a c,(Ts.length=m.th.length/\m.th.length<=6)/\A7 h (M3 M (lQ a m.th.length c) m*(F3 176 1 a m.th.length c (Ts.map mP)*(Gc 0 Ts m.th*R))):=by
 unfold CV
 simp only [A7.ex,A7.pr,E7]
theorem Fc {h:A2} {M:Nat} {Ts:List Nat} {m:Mac} {R:Hp} {k:Nat} {T:Nat} {t:Thr} (H:A7 h (CV M Ts m*R)) (e1:Ts[k]? = some T) (e2:m.th[k]? = some t) :
  ∃tv,∃Q:Hp,A7 h (A1 M T tv none ⟨m,t,k⟩ (Q*R))/\∀h' (x:A9) R',x.id=(k:Int)->A7 h' (A1 M T tv none x (Q*R'))->A7 h' (CV M Ts (x.m.setTh (m.th.set k x.t))*R'):=by
 obtain ⟨a,c,⟨hl,h6⟩,H1⟩:=V2.1 H
 have H2:A7 h (Gc 0 Ts m.th*(M3 M (lQ a m.th.length c) m*(F3 176 1 a m.th.length c (Ts.map mP)*R))):=A7.ac H1 (by ac_rfl)
 obtain ⟨Q,H3,re⟩:=Nt T t e1 e2 H2
 rw [Int.zero_add] at H3 re
 refine ⟨lQ a m.th.length c,Q*F3 176 1 a m.th.length c (Ts.map mP),?_,λh' x R' ei H'=>?_⟩
 ·unfold A1
  exact A7.ac H3 (by ac_rfl)
 ·unfold A1 at H'
  rw [ei] at H'
  have H4:A7 h' (M1 T none x.t k*(Q*(M3 M (lQ a m.th.length c) x.m*(F3 176 1 a m.th.length c (Ts.map mP)*R')))):=A7.ac H' (by ac_rfl)
  have H5:=re _ _ _ H4
  refine V2.2 ⟨a,c,⟨by simp [Mod.Mac.setTh,hl],by simp [Mod.Mac.setTh,h6]⟩,?_⟩
  show A7 h' (M3 M (lQ a (m.th.set k x.t).length c) x.m*(F3 176 1 a (m.th.set k x.t).length c (Ts.map mP)*(Gc 0 Ts (m.th.set k x.t)*R')))
  rw [List.length_set]
  exact A7.ac H5 (by ac_rfl)
section
variable {K:kQ} {h:A2} {M T b o N:Nat} {tv:Value} {fo:Option (Nat × Nat)} {x:A9} {R:Hp} {m:Mac} {Ts:List Nat}
theorem JC (H:A7 h (CV M Ts m*R)) {i:Int} (k0:(i < 0\/m.th.length<=i)->K (pQ none) h) (k:∀T,0<=i->Ts[i.toNat]? = some T->K (mP T) h) :
  A5 Tryz.prog 196 #[mP M,iQ i] h K:=by
 refine call196 ?_
 unfold F196 bd lS lP nP
 obtain ⟨a,c,⟨hl,h6⟩,H1⟩:=V2.1 H
 obtain ⟨q,gq,fq,P,H2⟩:=J9.1 H1
 have O:=H2.at
 have S:=(H1.drop).own.sees
 refine sb ?_
 refine ⟨λvs h'=>(∃w,vs = [w,dQ (decide (i < 0\/m.th.length<=i))])/\h' = h,?_,?_⟩
 ·refine A4 (λc1=>?_) (λc1=>?_)
  ·rw [decide_eq_true (p:=i < 0\/m.th.length<=i) (.inl c1)]
   exact ⟨⟨_,rfl⟩,rfl⟩
  ·refine H2.ld rfl ?_
   refine sb ?_
   rw [show decide (i >= (m.th.length:Int))=decide (i < 0\/m.th.length<=i) by rw [decide_eq_decide];omega]
   first | exact ⟨⟨dQ (decide (i < 0)),rfl⟩,by trivial⟩ | exact ⟨dQ (decide (i < 0)),rfl⟩
 rintro v6 v7 g8 h9 ⟨⟨w,e⟩,rfl⟩
 cases e
 refine sb ?_
 refine A4 (λc1=>k0 c1) (λc1=>?_)
 refine H2.ld rfl ?_
 refine sb ?_
 have hlt:i.toNat < Ts.length:=by omega
 obtain ⟨T,hT⟩ : ∃T,Ts[i.toNat]? = some T:=⟨_,List.getElem?_eq_getElem hlt⟩
 obtain ⟨ad,ea,hc⟩:=S i.toNat (mP T) (by rw [List.getElem?_map,hT];rfl)
 subst ea
 refine ⟨by omega,by omega,?_⟩
 refine sb ?_
 unfold D1
 rw [hc]
 refine sb ?_
 exact k T (by omega) hT
theorem SM2 (P:Nat->Prop) (h:∃n,P n):∃n,P n/\∀m,P m->n<=m:=by
 obtain ⟨n,hn⟩:=h
 induction n using Nat.strongRecOn with
 | _ n ih=>
  by_cases c:∃m,m < n/\P m
  ·obtain ⟨m,hm,hp⟩:=c
   exact ih m hm hp
  ·exact ⟨n,hn,λm hm=>Nat.le_of_not_lt λhh=>c ⟨m,hh,hm⟩⟩
open Classical in
noncomputable def Hv (P:Nat->Prop):Nat:=if h:∃n,P n then (SM2 P h).choose else 0
theorem JD {P:Nat->Prop} (h:∃n,P n):P (Hv P)/\∀m,P m->Hv P<=m:=by
 unfold Hv
 rw [dif_pos h]
 exact (SM2 P h).choose_spec
def done (x:A9):Bool:=x.m.acted || x.t.fr.isEmpty
def ZC (d:A9->A9) (W:A9->Prop):Nat->A9->Prop
 | 0,_=>True
 | n+1,x=>done x=true\/(W x/\ZC d W n (d x))
def DoC (f:Nat) (d:A9->A9) (W:A9->Prop):Prop:=∀(h:A2) (M T:Nat) (tv:Value) (x:A9) (R:Hp) (K:kQ),A7 h (A1 M T tv none x R)->W x->(∀h',A7 h' (A1 M T tv none (d x) R)->K tQ h')->A5 Tryz.prog f #[mP M,mP T] h K
def Ye (d:A9->A9) (W:A9->Prop) (M T:Nat) (tv:Value) (R:Hp) (z:A9) (h:A2) (n:Nat):Prop:=∃y,A7 h (A1 M T tv none y R)/\Mod.bits d n y=some z/\ZC d W n y
theorem MD {f:Nat} {d:A9->A9} {W:A9->Prop} (D:DoC f d W) (H:A7 h (CV M Ts m*R)) {i:Int} {n:Nat} {z:A9} {t:Thr} (h0:0<=i) (ht:m.th[i.toNat]? = some t)
  (hz:Mod.bits d n ⟨m.quiet,t,i⟩=some z) (hs:ZC d W n ⟨m.quiet,t,i⟩) (hid:z.id=i)
  (k:∀h',A7 h' (CV M Ts (z.m.setTh (m.th.set i.toNat z.t))*R)->K (dQ (!z.t.fr.isEmpty)) h') :
  A5 Tryz.prog 123 #[mP M,iQ i,.func (.func f) #[] #[]] h K:=by
 refine call123 ?_
 unfold F123 cf lS nP
 have hlt:i.toNat < m.th.length:=(List.getElem?_eq_some_iff.1 ht).1
 refine A0 (JC H (λc=>by omega) λT _ hT=>?_)
 refine sb ?_
 unfold V7
 dsimp only
 refine ⟨λvs h'=>vs = [dQ false]/\h' = h,⟨rfl,rfl⟩,?_⟩
 rintro v5 g6 h7 ⟨e,rfl⟩
 cases e
 refine sb ?_
 obtain ⟨tv,Q,H1,re⟩:=Fc H hT ht
 have ei:((i.toNat:Nat):Int)=i:=by omega
 rw [ei] at H1 re
 obtain ⟨q,gq,fq,P,H2⟩:=J9.1 H1
 refine H2.st (i:=19) rfl trivial λh8 H3=>?_
 have H4:A7 h8 (A1 M T tv none ⟨m.quiet,t,i⟩ (Q*R)):=J9.2 ⟨q,gq,fq,P,H3⟩
 have acc:∀ {h:A2} {y:A9},A7 h (A1 M T tv none y (Q*R))->(∀F:Value->Prop,D1 h ⟨M,19,none⟩ F=F (dQ y.m.acted))/\∃a c,∀F:Value->Prop,D1 h ⟨T,1,none⟩ F=F (lQ a y.t.fr.length c):=by
  intro h y Y
  obtain ⟨q,gq,fq,P,Y1⟩:=J9.1 Y
  obtain ⟨B,O⟩:=Lp (A1.thr Y)
  refine ⟨λF=>?_,B.fr,B.frn,λF=>?_⟩
  ·unfold D1;rw [E0 Y1.at];rfl
  ·unfold D1;rw [E0 O];rfl
 refine ⟨λ_ h=>∃n,Ye d W M T tv (Q*R) z h n,λ_ h=>Hv (Ye d W M T tv (Q*R) z h),⟨n,_,H4,hz,hs⟩,?_⟩
 intro g13 h14 HI
 obtain ⟨⟨y,Y,hb,hS⟩,hmin⟩:=JD HI
 obtain ⟨n0,hn⟩ : ∃n0,Hv (Ye d W M T tv (Q*R) z h14)=n0:=⟨_,rfl⟩
 rw [hn] at hb hS
 obtain ⟨ac,af,an,al⟩:=acc Y
 refine ⟨λvs h'=>vs = [dQ (!Proofs.YtahpbclnkofhfaaGreat.done y)]/\h' = h14,?_,?_⟩
 ·rw [ac]
  refine sb ?_
  refine C7 (λc=>?_) (λc=>?_)
  ·have c':y.m.acted=false:=by simpa using c
   rw [al]
   have e2:decide ((y.t.fr.length:Int) > 0) = !Proofs.YtahpbclnkofhfaaGreat.done y:=by
    unfold Proofs.YtahpbclnkofhfaaGreat.done
    rw [c']
    cases y.t.fr <;> simp
   try simp only [C6,e2,and_self,and_true]
  ·have c':y.m.acted=true:=by simpa using c
   have e2:false = !Proofs.YtahpbclnkofhfaaGreat.done y:=by
    unfold Proofs.YtahpbclnkofhfaaGreat.done
    rw [c']
    rfl
   rw [<- e2]
   try trivial
 rintro v24 g25 h26 ⟨e,rfl⟩
 cases e
 refine sb ?_
 refine C7 (λc=>?_) (λc=>?_)
 ·have c':Proofs.YtahpbclnkofhfaaGreat.done y=false:=by simpa using c
  cases n0 with
  | zero=>
   unfold Mod.bits at hb
   unfold Proofs.YtahpbclnkofhfaaGreat.done at c'
   rw [c'] at hb
   cases hb
  | succ n'=>
   rcases hS with hS | ⟨hW,hS⟩
   ·rw [hS] at c';cases c'
   ·have hb':Mod.bits d n' (d y)=some z:=by
     unfold Mod.bits at hb
     unfold Proofs.YtahpbclnkofhfaaGreat.done at c'
     rw [c'] at hb
     exact hb
    refine A0 (D _ _ _ _ _ _ _ Y hW λh29 H29=>⟨⟨n',_,H29,hb',hS⟩,?_⟩)
    have hP:Ye d W M T tv (Q*R) z h29 n':=⟨_,H29,hb',hS⟩
    have hl:=(JD ⟨n',hP⟩).2 n' hP
    show Hv _ < Hv _
    rw [hn]
    omega
 ·have c':Proofs.YtahpbclnkofhfaaGreat.done y=true:=by simpa using c
  have ez:y=z:=by
   unfold Proofs.YtahpbclnkofhfaaGreat.done at c'
   cases n0 <;> unfold Mod.bits at hb <;> rw [c'] at hb <;> exact Option.some.inj hb
  subst ez
  rw [al]
  refine sb ?_
  have e2:decide ((y.t.fr.length:Int) > 0) = !y.t.fr.isEmpty:=by
   cases y.t.fr <;> simp
  rw [e2]
  exact k h26 (re _ y R hid Y)
end
end
section
open Mod
variable {K:kQ} {h:A2}
def ZD (c:Mod.Cf):Proofs.YtahpbclnkofhfaaGreat.Cf:=⟨c.algo,c.threads,c.nodes,c.level,c.batch,c.probes,c.scan⟩
theorem Cq (c:Mod.Cf):(ZD c).Right↔Fv c=true:=by
 unfold Fv
 rw [decide_eq_true_iff]
 constructor
 ·rintro ⟨a1,a2,a3,a4,a5,a6,a7,a8⟩
  exact ⟨a1.1,a1.2,a2.1,a2.2,a3.1,a3.2,a4.1,a4.2,a5.1,a5.2,a6.1,a6.2,a7.1,a7.2,a8⟩
 ·rintro ⟨b1,b2,b3,b4,b5,b6,b7,b8,b9,b10,b11,b12,b13,b14,b15⟩
  exact ⟨⟨b1,b2⟩,⟨b3,b4⟩,⟨b5,b6⟩,⟨b7,b8⟩,⟨b9,b10⟩,⟨b11,b12⟩,⟨b13,b14⟩,b15⟩
theorem ZE (c:Mod.Cf):Value.agg (ZD c).plan=Mt (D5 c):=by
 unfold Mt D5 Proofs.YtahpbclnkofhfaaGreat.Cf.plan Cf.size Cf.tree Cf.nodes Cf.links Cf.slots Cf.width Cf.sent ZD
 simp only [beq_iff_eq]
theorem Pb (c:Mod.Cf) (k1:Fv c=true->∀h',G4 h.size h h'->K (.tuple #[Mt (D5 c),iQ 0]) h') (k0:Fv c=false->∀h',G4 h.size h h'->K (.tuple #[.agg V9,iQ 6]) h') :
  A5 Tryz.prog 98 #[cfV c] h K:=by
 refine Ra (ZD c) (λhr h' o=>?_) (λhr h' o=>k0 ?_ h' o)
 ·rw [ZE];exact k1 ((Cq c).1 hr) h' o
 ·rw [<- Bool.not_eq_true];exact λhh=>hr ((Cq c).2 hh)
theorem Be {c:Mod.Cf} (h:Fv c=true):Me (D5 c):=by
 unfold Fv at h
 rw [decide_eq_true_iff] at h
 obtain ⟨b1,b2,b3,b4,b5,b6,b7,b8,b9,b10,b11,b12,b13,b14,b15⟩:=h
 have h1:c.threads*(if c.algo == 0 then 2 else 2*c.level+2)<=6*14:=by
  split
  ·omega
  ·exact Int.mul_le_mul (by omega) (by omega) (by omega) (by omega)
 have h1':0<=c.threads*(if c.algo == 0 then 2 else 2*c.level+2):=Int.mul_nonneg (by omega) (by split <;> omega)
 have h2:c.nodes*(if c.algo == 0 then 3 else 5+c.level)<=64*11:=by
  split
  ·omega
  ·exact Int.mul_le_mul (by omega) (by omega) (by omega) (by omega)
 have h2':0<=c.nodes*(if c.algo == 0 then 3 else 5+c.level):=Int.mul_nonneg (by omega) (by split <;> omega)
 have h3:(2:Int) ^ c.level.toNat<=64:=by
  obtain ⟨n,hn⟩ : ∃n,c.level.toNat=n:=⟨_,rfl⟩
  rw [hn]
  have hn6:n<=6:=by omega
  match n,hn6 with
  | 0,_=>decide
  | 1,_=>decide
  | 2,_=>decide
  | 3,_=>decide
  | 4,_=>decide
  | 5,_=>decide
  | 6,_=>decide
 have h3':0<=(2:Int) ^ c.level.toNat:=Int.pow_nonneg (by omega)
 unfold D5
 dsimp only
 generalize c.threads*(if c.algo == 0 then 2 else 2*c.level+2)=A at *
 generalize c.nodes*(if c.algo == 0 then 3 else 5+c.level)=B at *
 generalize (2:Int) ^ c.level.toNat=D at *
 constructor <;> dsimp only <;> first | omega | (split <;> omega)
theorem ZF {D E:Nat->Prop} {F G:A2->Prop} (σ:FC) (h:(lift D F*lift E G) σ):lift (λb=>D b\/E b) (λh=>F h/\G h) σ:=by
 obtain ⟨s,t,d,rfl,⟨a1,a2⟩,b1,b2⟩:=h
 refine ⟨λb=>?_,λh S=>⟨a2 h S.left,b2 h (S.right d)⟩⟩
 have:=CA (σ:=s) (τ:=t) (b:=b)
 show D b\/E b↔uni s t b≠none
 rw [a1,b1,ne_eq,ne_eq,ne_eq,this]
 by_cases e1:s b=none <;> by_cases e2:t b=none <;> simp [e1,e2]
theorem Yf {b:Nat} {o:Obj} (σ:FC) (h:pt b o σ):lift (λc=>c=b) (λh=>h[b]? = some o) σ:=by
 refine ⟨λc=>?_,λh' S=>S.at b o (by rw [h b,if_pos rfl])⟩
 rw [h c]
 by_cases e:c=b <;> simp [e]
theorem SG8:Eo Tryz.prog 178=8:=by kernel_rfl
theorem VB:Bo Tryz.prog 178 = [uQ 0]:=by kernel_rfl
theorem Sq9:Bo Tryz.prog 3 = [iQ 0]:=by kernel_rfl
theorem SW3:Eo Tryz.prog 3=8:=by kernel_rfl
theorem RD {v:Value} (n:Nat):(List.replicate n [v]).flatten=List.replicate n v:=by rw [List.flatten_replicate_singleton]
theorem Dv {n:Int} (hn:0<=n/\n<=4096) (k:K (lQ (some (aQ h.size)) n.toNat n.toNat) (h.push (oQ (U8 (List.replicate n.toNat 0)).toArray 178))):Y5 Tryz.prog 178 n n h K:=by
 unfold Y5
 refine ⟨by omega,by omega,by omega,by rw [SG8];omega,?_⟩
 rw [VB,RD]
 have e:U8 (List.replicate n.toNat 0)=List.replicate n.toNat (uQ 0):=by unfold U8;rw [List.map_replicate]
 rw [e] at k
 exact k
theorem Sr0 {n:Int} (hn:0<=n/\n<=4096) (k:K (lQ (some (aQ h.size)) n.toNat n.toNat) (h.push (oQ ((List.replicate n.toNat (0:Int)).map iv).toArray 3))):Y5 Tryz.prog 3 n n h K:=by
 unfold Y5
 refine ⟨by omega,by omega,by omega,by rw [SW3];omega,?_⟩
 rw [Sq9,RD]
 rw [List.map_replicate] at k
 exact k
theorem RE {R:Hp} {n:Int} (H:A7 h R) (hn:1<=n/\n<=4096) (k:∀h' q,A7 h' (O9 q ⟨List.replicate n.toNat 0,0,false,[]⟩*R)->K (.tuple #[mP q,iQ 0]) h') :
  A5 Tryz.prog 99 #[iQ n] h K:=by
 refine call99 ?_
 unfold F99
 refine ⟨λvs h'=>vs = [dQ false]/\h' = h,?_,?_⟩
 ·refine A4 (λc=>by omega) (λc=>?_)
  rw [decide_eq_false (by omega)]
  exact ⟨rfl,rfl⟩
 rintro v1 g2 h3 ⟨e,rfl⟩
 cases e
 refine sb ?_
 refine Dv (by omega) ?_
 refine sb ?_
 have H1:=H.push (oQ (U8 (List.replicate n.toNat 0)).toArray 178)
 generalize h3.push (oQ (U8 (List.replicate n.toNat 0)).toArray 178)=h4 at *
 have H2:=H1.push (oQ #[lQ (some (aQ h3.size)) n.toNat n.toNat,iQ 0,dQ false,lQ none 0 0] 126)
 have H3:=H2.own_new 144 4
 refine k _ h4.size (Z8.2 ⟨h3.size,none,0,⟨by simp;omega,by simp,by simp,λv hv=>by rw [List.eq_of_mem_replicate hv];exact U0⟩,?_⟩)
 have e:(Rg h3.size none 0 ⟨List.replicate n.toNat 0,0,false,[]⟩).toArray=#[lQ (some (aQ h3.size)) n.toNat n.toNat,iQ 0,dQ false,lQ none 0 0]:=by
  simp [Rg]
 rw [e]
 exact A7.ac H3 (by
  show F3 144 4 none 0 0 []*_=_*(_*(F3 144 4 none 0 0 []*_))
  ac_rfl)
theorem SM3 {B:Nat} {v lim:Int} (O:h[B]? = some (oQ #[uQ v] 178)) (k:K (dQ (decide (v < lim))) h) :
  A5 Tryz.prog 277 #[uQ lim,lQ (some (aQ B)) 1 1] h K:=by
 refine call277 ?_
 unfold F277 bd lI
 refine ⟨λvs h'=>∃w n,vs = [.bool false,w,.int .i64 n]/\h' = h/\(n=0\/n=1/\v < lim),λvs _=>match vs with | [_,_,.int _ n]=>(1 - n).toNat | _=>0,⟨_,0,rfl,rfl,.inl rfl⟩,?_⟩
 rintro v2 v3 v4 g5 h6 ⟨w,n,e,rfl,hn⟩
 cases e
 refine sb ?_
 refine A4 (λc=>?_) (λc=>?_)
 ·have hn0:n=0:=by omega
  subst hn0
  refine sb ?_
  refine ⟨by decide,?_⟩
  refine C5 O rfl ?_
  refine sb ?_
  refine A4 (λc2=>?_) (λc2=>?_)
  ·rw [decide_eq_false (by omega)] at k;exact k
  ·exact ⟨⟨_,1,rfl,.inr ⟨rfl,by omega⟩⟩,by decide⟩
 ·rw [decide_eq_true (by omega)] at k;exact k
theorem VC {R:Hp} {n ver:Int} {mk:Bool} (H:A7 h R) (hn:0<=n/\n < 65536) (hv:0<=ver/\ver < 140737488355328) (k:∀h',A7 h' R->K (.tuple #[uQ (Y0 n mk ver),iQ 0]) h') :
  A5 Tryz.prog 206 #[iQ n,dQ mk,uQ ver] h K:=by
 refine call206 ?_
 unfold F206 cf
 have e1:IntKind.wrap .u64 n=n:=U.wrap ⟨by omega,by omega⟩
 simp only [e1]
 refine ⟨λvs h'=>(∃w,vs = [w,dQ false])/\A7 h' R,?_,?_⟩
 ·refine A4 (λc=>by omega) (λc=>?_)
  have H1:=H.push (oQ #[uQ n] 178)
  generalize h.push (oQ #[uQ n] 178)=h1 at *
  refine A0 (SM3 H1.at ?_)
  rw [decide_eq_true (by omega)]
  refine sb ?_
  have H2:=H1.push (oQ #[uQ ver] 178)
  generalize h1.push (oQ #[uQ ver] 178)=h2 at *
  refine A0 (SM3 H2.at ?_)
  rw [decide_eq_true (by omega)]
  refine sb ?_
  exact ⟨⟨_,rfl⟩,H2.drop.drop⟩
 rintro v7 v8 g9 h10 ⟨⟨w,e⟩,H1⟩
 cases e
 refine sb ?_
 refine A0 (La hn hv ?_)
 refine sb ?_
 exact k _ H1
theorem Nu {R:Hp} {n:Int} (H:A7 h R) (hn:0<=n/\n < 65536) (k:∀h',A7 h' R->K (uQ (Y0 n false 0)) h') :
  A5 Tryz.prog 141 #[iQ n] h K:=by
 refine call141 ?_
 unfold F141 cf
 refine A0 (VC H hn (by omega) λh1 H1=>?_)
 refine sb ?_
 refine E6 rfl ?_
 refine sb ?_
 refine E6 rfl ?_
 refine sb ?_
 exact k _ H1
theorem Jc {q:Nat} {m:Mm} {R:Hp} {a v:Int} (H:A7 h (O9 q m*R)) (hv:U v) (hs:m.st < 1099511627776)
  (k:∀h' e,A7 h' (O9 q (m.store a v)*R)->K (iQ e) h') :
  A5 Tryz.prog 140 #[mP q,iQ a,uQ v] h K:=by
 refine Jy H hv hs (λc h' H'=>k h' 0 ?_) (λc h' H'=>k h' 2 ?_)
 ·unfold Mm.store;rw [if_pos c];exact H'
 ·unfold Mm.store;rw [if_neg (by rw [c];simp)];exact H'
theorem Gd (m:Mm) (a v:Int):(m.store a v).st<=m.st+1:=by
 unfold Mm.store Mm.put Mm.tick
 split
 ·exact Int.le_refl _
 ·omega
end
section
open Mod
def Dw (n i:Int):List Int:=(List.range n.toNat).map λ(k:Nat)=>if (k:Int) < i then 1 else 0
theorem ZG {n i:Int} (h0:0<=i):(Dw n i).set i.toNat 1=Dw n (i+1):=by
 apply List.ext_getElem
 ·simp [Dw]
 ·intro k h1 h2
  rw [List.getElem_set]
  simp only [Dw,List.getElem_map,List.getElem_range]
  split
  ·rename_i e;rw [if_pos (by omega)]
  ·rename_i e
   by_cases c:(k:Int) < i
   ·rw [if_pos c,if_pos (by omega)]
   ·rw [if_neg c,if_neg (by omega)]
theorem VD (n:Int):Dw n 0=List.replicate n.toNat 0:=by
 apply List.ext_getElem
 ·simp [Dw]
 ·intro k h1 h2
  simp only [Dw,List.getElem_map,List.getElem_range,List.getElem_replicate]
  rw [if_neg (by omega)]
theorem ME {K:kQ} {h:A2} {R:Hp} {n live:Int} (H:A7 h R) (hn:1<=n/\n<=64) (hl:0<=live/\live<=n) (k:∀h' q,A7 h' (OK (some (XQ n live)) q*R)->K (mP q) h') :
  A5 Tryz.prog 103 #[iQ n,iQ live] h K:=by
 refine call103 ?_
 unfold F103 bd lS
 refine ⟨λvs h'=>vs = [iQ n]/\h' = h,?_,?_⟩
 ·refine ⟨λvs h'=>vs = [dQ false]/\h' = h,?_,?_⟩
  ·refine A4 (λc=>by omega) (λc=>?_)
   rw [decide_eq_false (by omega)]
   exact ⟨rfl,rfl⟩
  rintro v1 g2 h3 ⟨e,rfl⟩
  cases e
  try simp only [B4,F2,Nat.reduceAdd,Int.reduceLE,Int.reduceLT,Int.reduceToNat]
  try exact ⟨rfl,rfl⟩
 rintro v6 g7 h8 ⟨e,rfl⟩
 cases e
 refine sb ?_
 refine Sr0 (by omega) ?_
 refine sb ?_
 rw [Aw,Aw]
 rw [show GR (FG live 0) n=live by unfold GR FG;split <;> split <;> omega]
 have H1:=H.push (oQ ((List.replicate n.toNat (0:Int)).map iv).toArray 3)
 generalize h8.push (oQ ((List.replicate n.toNat (0:Int)).map iv).toArray 3)=h9 at *
 generalize h8.size=b at *
 have H2:=H1.push (oQ #[lQ (some (aQ b)) n.toNat n.toNat,iQ 0,iQ 0] 213)
 generalize h9.push (oQ #[lQ (some (aQ b)) n.toNat n.toNat,iQ 0,iQ 0] 213)=h10 at *
 generalize h9.size=q at *
 rw [<- VD] at H2
 have hlen:∀i,(Dw n i).length=n.toNat:=λi=>by simp [Dw]
 refine ⟨λvs h'=>∃(w:Value) (i:Int),vs = [w,.int .i64 i]/\0<=i/\i<=live/\A7 h' (pt q (.cells #[.slice (some ⟨b,0,none⟩) n.toNat n.toNat,.int .i64 0,.int .i64 0] 213)*(pt b (.cells ((Dw n i).map iv).toArray 3)*R)),λvs _=>match vs with | [_,.int _ i]=>(live - i).toNat | _=>0,⟨_,0,rfl,by omega,by omega,H2⟩,?_⟩
 rintro v24 v25 g26 h27 ⟨w,i,e,i0,i1,H3⟩
 cases e
 refine sb ?_
 refine A4 (λc=>?_) (λc=>?_)
 ·refine H3.ld rfl ?_
  refine sb ?_
  refine ⟨by omega,by omega,?_⟩
  rw [D4] at H3
  refine CK (row:=(Dw n i).map iv) H3 (by simp [hlen];omega) trivial λh28 H4=>?_
  have e1:((Dw n i).map iv).set i.toNat (iQ 1)=(Dw n (i+1)).map iv:=by
   rw [<- ZG i0,List.map_set]
  rw [e1,D4] at H4
  rw [show F5 (i+1)=i+1 from by unfold F5;omega]
  exact ⟨⟨_,i+1,rfl,by omega,by omega,H4⟩,by omega⟩
 ·have ei:i=live:=by omega
  subst ei
  refine k _ q ?_
  have hg:XQ n i=⟨Dw n i,0,0⟩:=rfl
  rw [hg]
  show A7 h27 ((ex λb=>lift (wdS q b) λh=>Le h q b ⟨Dw n i,0,0⟩)*R)
  refine A7.ex.2 ⟨b,?_⟩
  rw [<- E7] at H3
  refine H3.mono λσ hσ=>?_
  obtain ⟨s,t,d,rfl,p1,p2⟩:=hσ
  have J:=ZF _ ⟨s,t,d,rfl,Yf _ p1,Yf _ p2⟩
  refine ⟨J.1,λh S=>?_⟩
  obtain ⟨j1,j2⟩:=J.2 h S
  refine ⟨?_,j2,by simp [hlen];omega⟩
  rw [j1]
  simp [hlen]
theorem Sr1:AH Tryz.prog 26=.slice 5:=by kernel_rfl
theorem RF:J7 Tryz.prog 5=true:=by kernel_rfl
theorem Sr2:Gw Tryz.prog 5=some (.int .u8 0):=by kernel_rfl
theorem Jd:L7 Tryz.prog 5=1:=by kernel_rfl
theorem Pc:Eo Tryz.prog 5=1:=by kernel_rfl
theorem Pd {K:kQ} {h:A2} {R:Hp} {a:Option Addr} {c:Nat} {bs:List Int} (H:A7 h R) (hs:N8 h a (bs.map λn=>.int .u8 n)) (hl:bs.length<=65536) (hr:∀n ∈ bs,0<=n/\n < 256) (k:∀h' q,A7 h' (Mw q bs 0*R)->K (mP q) h') :
  A5 Tryz.prog 102 #[lQ a bs.length c] h K:=by
 refine call102 ?_
 unfold F102
 have o1:G4 h.size h (h.push (oQ #[] 5)):=(G4.refl _ _).push _ (Nat.le_refl _)
 have H1:=H.push (oQ #[] 5)
 have hs1:=hs.old o1
 have sz:(h.push (oQ #[] 5)).size=h.size+1:=by simp
 have ow:CG (h.push (oQ #[] 5)) 5 (L7 Tryz.prog 5) (some (aQ h.size)) 0 0 []:=⟨by simp,Nat.le_refl _,.inr ⟨h.size,#[],rfl,H1.at,by simp,by simp⟩⟩
 generalize h.push (oQ #[] 5)=h1 at *
 refine GC Sr1 RF Sr2 (by rw [Jd];rfl) ow hs1 (by rw [Jd];simp) (λy hy=>?_) (by rw [Pc];omega) (by rw [Pc];omega) λa' c' h2 o' hsz old ha=>?_
 ·obtain ⟨n,_,rfl⟩:=List.mem_map.1 hy
  trivial
 rw [Nat.zero_add] at o' ⊢
 refine sb ?_
 have o2:G4 h.size h h2:=⟨by omega,λb hb=>(old b (by omega) λad ea=>by cases ea;exact λe=>by simp at e;omega).trans (o1.2 b hb)⟩
 have fb:∀b,GN a' b->h.size<=b:=by
  rintro b ⟨ad,e,rfl⟩
  rcases ha with ha | ⟨ha,_⟩
  ·rw [e] at ha;cases ha;exact Nat.le_refl _
  ·rw [e] at ha;cases ha;show h.size<=h1.size;omega
 have o3:G4 h.size h (h2.push (oQ #[lQ a' bs.length c',iQ 0] 236)):=o2.push _ o2.1
 have q1:(h2.push (oQ #[lQ a' bs.length c',iQ 0] 236))[h2.size]? = some (oQ #[lQ a' bs.length c',iQ 0] 236):=by simp
 have o4:=o'.keep (h':=h2.push (oQ #[lQ a' bs.length c',iQ 0] 236)) λad ea=>S4 _ _ _ (o'.lt ad ea)
 have nq:¬ GN a' h2.size:=λhb=>Nat.lt_irrefl _ (o'.lt2 hb)
 have sz3:(h2.push (oQ #[lQ a' bs.length c',iQ 0] 236)).size=h2.size+1:=by simp
 have lt2:∀b,GN a' b->b < h2.size:=λb hb=>o'.lt2 hb
 generalize h2.push (oQ #[lQ a' bs.length c',iQ 0] 236)=h3 at *
 have hsz2:=o2.1
 refine k h3 h2.size (A7.ex.2 ⟨a',A7.ex.2 ⟨c',H.mk_new o3 (λb hb=>?_) (λb o hb e=>?_) λh4 e=>?_⟩⟩)
 ·rcases hb with rfl | ⟨hb,_⟩
  ·exact ⟨hsz2,by omega⟩
  ·exact ⟨fb b hb,by have:=lt2 b hb;omega⟩
 ·rcases hb with rfl | ⟨hb,_⟩
  ·rw [q1] at e;cases e
   intro x hx;cases hx
  ·exact o4.nd b o hb e
 ·refine ⟨?_,?_,hr,by omega,nq⟩
  ·rw [e _ (.inl rfl),q1]
  ·by_cases c0:bs = []
   ·subst c0;exact N8.nil _ _
   ·have o5:=o4.keep (h':=h4) λad ea=>e _ (.inr ⟨⟨ad,ea,rfl⟩,c0⟩)
    exact o5.sees
end
section
open Mod
def ZH (p:Pl) (m0:Mm):Mm:=
 let c:=p.c
 let first:=p.sent+1
 let m1:=m0.store 0 (Y0 first false 0)
 let m2:=(List.range (c.nodes - first).toNat).foldl (λ(m:Mm) (i:Nat)=>m.store (p.link (first+i)) (first+i+1)) m1
 let m3:=m2.store 2 1
 if c.algo=0 then m3 else
  let m4:=m3.store (p.node 1 3) c.level
  let m5:=m4.store (p.node 2 0) 18446744073709551615
  (List.range c.level.toNat).foldl (λ(m:Mm) (i:Nat)=>m.store (p.node 1 (5+i)) (Y0 2 false 0)) m5
theorem Sr3 (p:Pl):lay p=ZH p ⟨List.replicate p.size.toNat 0,0,false,[]⟩:=rfl
theorem Yg (a v:Nat->Int) (m:Mm) (n:Nat):((List.range n).foldl (λ(m:Mm) (i:Nat)=>m.store (a i) (v i)) m).st<=m.st+n:=by
 induction n with
 | zero=>simp
 | succ n ih=>
  rw [List.range_succ,List.foldl_append]
  simp only [List.foldl_cons,List.foldl_nil]
  have:=Gd ((List.range n).foldl (λ(m:Mm) (i:Nat)=>m.store (a i) (v i)) m) (a n) (v n)
  omega
theorem Nv (a v:Nat->Int) (m:Mm) (n:Nat):((List.range n).foldl (λ(m:Mm) (i:Nat)=>m.store (a i) (v i)) m).store (a n) (v n)=(List.range (n+1)).foldl (λ(m:Mm) (i:Nat)=>m.store (a i) (v i)) m:=by
 rw [List.range_succ,List.foldl_append]
 rfl
theorem RG {n:Int} (h:0<=n/\n < 65536):U (Y0 n false 0):=XS h (by omega)
theorem Sr4 {K:kQ} {h:A2} {R:Hp} {q:Nat} {m0:Mm} {p:Pl} (H:A7 h (O9 q m0*R)) (P:Me p) (h0:m0.st=0) (hsn:p.sent < p.c.nodes) (k:∀h',A7 h' (O9 q (ZH p m0)*R)->K tQ h') :
  A5 Tryz.prog 101 #[mP q,Mt p] h K:=by
 refine call101 ?_
 unfold F101 g101 cf ce lI Nh Bs
 have hse:=P.se
 have hno:=P.no
 have hlv:=P.lv
 rw [FV]
 have H1:=H.push (oQ (Di p).toArray 117)
 generalize h.push (oQ (Di p).toArray 117)=h1 at *
 generalize h.size=Np at *
 refine Gb H1.at ?_
 refine A0 (U9 λh2 o2=>cf7 ?_)
 have H2:=H1.old o2
 have H3:=H2.push (oQ NW 23)
 generalize h2.push (oQ NW 23)=h3 at *
 generalize h2.size=Nc at *
 refine st7 (F6 (vs:=OF p.c) H3.at rfl (by simp [OF,J3]) λh5 w=>?_)
 have H5:=H3.wr w.new w.old
 clear H3 w
 refine Gb H5.at2 ?_
 refine A0 (Jx λh6 o6=>?_)
 have H6:=H5.old o6
 refine sb ?_
 rw [show F5 (p.sent+1)=p.sent+1 from by unfold F5;omega]
 refine A0 (Nu H6 (by omega) λh7 H7=>?_)
 refine sb ?_
 have H8:A7 h7 (O9 q m0*(pt Nc (oQ (OF p.c).toArray 23)*(pt Np (oQ (Di p).toArray 117)*R))):=A7.ac H7 (by ac_rfl)
 refine A0 (Jc H8 (RG (by omega)) (by omega) λh9 e9 H9=>?_)
 refine sb ?_
 have s1:=Gd m0 0 (Y0 (p.sent+1) false 0)
 have hf:=Yg (λj=>p.link (p.sent+1+j)) (λj=>p.sent+1+j+1) (m0.store 0 (Y0 (p.sent+1) false 0))
 refine ⟨λvs h'=>∃(j:Nat),vs = [.int .i64 (p.sent+1+j)]/\(j:Int)<=p.c.nodes - (p.sent+1)/\A7 h' (O9 q ((List.range j).foldl (λ(m:Mm) (i:Nat)=>m.store (p.link (p.sent+1+i)) (p.sent+1+i+1)) (m0.store 0 (Y0 (p.sent+1) false 0)))*(pt Nc (.cells (OF p.c).toArray 23)*(pt Np (.cells (Di p).toArray 117)*R))),λvs _=>match vs with | [.int _ i]=>(p.c.nodes - i).toNat | _=>0,⟨0,by simp,by omega,by simpa using H9⟩,?_⟩
 rintro v58 g59 h60 ⟨j,e,hj,HJ⟩
 cases e
 have C:=HJ.at2
 have PP:=HJ.at3
 refine sb ?_
 refine C5 C rfl ?_
 refine sb ?_
 refine A4 (λc=>?_) (λc=>?_)
 ·refine Gb PP ?_
  try simp only [B4,F2,Nat.reduceAdd,Int.reduceLE,Int.reduceLT,Int.reduceToNat]
  refine A0 (FX P ⟨by omega,by omega⟩ λh61 o61=>?_)
  have HK:=HJ.old o61
  refine sb ?_
  rw [show F5 (p.sent+1+(j:Int)+1)=p.sent+1+j+1 from by unfold F5;omega,show Mod.u64 (p.sent+1+(j:Int)+1)=p.sent+1+j+1 from by unfold Mod.u64;omega]
  refine A0 (Jc HK ⟨by omega,by omega⟩ (by have:=hf j;omega) λh62 e62 HL=>?_)
  refine sb ?_
  rw [Nv (λj=>p.link (p.sent+1+j)) (λj=>p.sent+1+j+1)] at HL
  refine ⟨⟨j+1,?_,by omega,HL⟩,?_⟩
  ·simp;omega
  ·simp;omega
 have ej:(p.c.nodes - (p.sent+1)).toNat=j:=by omega
 have k:∀h',A7 h' (O9 q (if p.c.algo=0 then ((List.range j).foldl (λ(m:Mm) (i:Nat)=>m.store (p.link (p.sent+1+i)) (p.sent+1+i+1)) (m0.store 0 (Y0 (p.sent+1) false 0))).store 2 1 else
   (List.range p.c.level.toNat).foldl (λ(m:Mm) (i:Nat)=>m.store (p.node 1 (5+i)) (Y0 2 false 0)) (((((List.range j).foldl (λ(m:Mm) (i:Nat)=>m.store (p.link (p.sent+1+i)) (p.sent+1+i+1)) (m0.store 0 (Y0 (p.sent+1) false 0))).store 2 1).store (p.node 1 3) p.c.level).store (p.node 2 0) 18446744073709551615))*R)->K tQ h':=by
  unfold ZH at k
  rw [<- ej]
  exact k
 have hfj:=hf j
 generalize (List.range j).foldl (λ(m:Mm) (i:Nat)=>m.store (p.link (p.sent+1+i)) (p.sent+1+i+1)) (m0.store 0 (Y0 (p.sent+1) false 0))=m2 at *
 refine A0 (Jc HJ (U.lit rfl) (by omega) λh10 e10 H10=>?_)
 have s3:=Gd m2 2 1
 refine sb ?_
 refine C5 H10.at2 rfl ?_
 refine sb ?_
 refine A4 (λc2=>?_) (λc2=>?_)
 ·rw [if_pos c2] at k
  exact k h10 H10.drop2.drop2
 rw [if_neg c2] at k
 refine Gb H10.at3 ?_
 refine C5 H10.at2 rfl ?_
 refine sb ?_
 refine A0 (N5 P (by decide) (by decide) λh11 o11=>?_)
 have H11:=H10.old o11
 refine sb ?_
 refine ⟨E9 H11.at2 rfl,?_⟩
 rw [show Mod.u64 p.c.level=p.c.level from by unfold Mod.u64;omega]
 refine A0 (Jc H11 ⟨by omega,by omega⟩ (by omega) λh12 e12 H12=>?_)
 have s4:=Gd (m2.store 2 1) (p.node 1 3) p.c.level
 refine sb ?_
 refine Gb H12.at3 ?_
 refine A0 (N5 P (by decide) (by decide) λh13 o13=>?_)
 have H13:=H12.old o13
 refine sb ?_
 refine A0 (Jc H13 (U.lit rfl) (by omega) λh14 e14 H14=>?_)
 have s5:=Gd ((m2.store 2 1).store (p.node 1 3) p.c.level) (p.node 2 0) 18446744073709551615
 refine sb ?_
 refine C5 H14.at2 rfl ?_
 refine sb ?_
 generalize ((m2.store 2 1).store (p.node 1 3) p.c.level).store (p.node 2 0) 18446744073709551615=m5 at *
 have hm5:m5.st<=2000:=by omega
 clear s1 s3 s4 s5 hfj H9 H10 H11 H12 H13
 clear hf
 have hf:=Yg (λj=>p.node 1 (5+j)) (λj=>Y0 2 false 0) m5
 refine ⟨λvs h'=>∃(w:Value) (j:Nat),vs = [w,.int .i64 j]/\(j:Int)<=p.c.level/\A7 h' (O9 q ((List.range j).foldl (λ(m:Mm) (i:Nat)=>m.store (p.node 1 (5+i)) (Y0 2 false 0)) m5)*(pt Nc (.cells (OF p.c).toArray 23)*(pt Np (.cells (Di p).toArray 117)*R))),λvs _=>match vs with | [_,.int _ i]=>(p.c.level - i).toNat | _=>0,⟨_,0,rfl,by omega,H14⟩,?_⟩
 rintro v141 v142 g143 h144 ⟨w,j2,e,hj2,HJ⟩
 cases e
 refine sb ?_
 refine A4 (λc3=>?_) (λc3=>?_)
 ·refine Gb HJ.at3 ?_
  rw [show F5 (5+(j2:Int))=5+j2 from by unfold F5;omega]
  refine A0 (N5 P (by decide) ⟨by omega,by omega⟩ λh61 o61=>?_)
  have HK:=HJ.old o61
  refine sb ?_
  refine A0 (Nu HK (by omega) λh62 HL=>?_)
  refine sb ?_
  refine A0 (Jc HL (RG (by omega)) (by have:=hf j2;omega) λh63 e63 HM=>?_)
  refine sb ?_
  rw [Nv (λj=>p.node 1 (5+j)) (λj=>Y0 2 false 0)] at HM
  rw [show F5 ((j2:Int)+1)=((j2+1:Nat):Int) from by unfold F5;omega]
  refine ⟨⟨_,j2+1,rfl,by omega,HM⟩,?_⟩
  omega
 ·have ej2:p.c.level.toNat=j2:=by omega
  rw [ej2] at k
  exact k h144 HJ.drop2.drop2
end
section
open Mod
theorem ZI (Ts:List Nat) (ts:List Thr) (T:Nat) (t:Thr):∀(i:Int),Ts.length=ts.length->Gc i (Ts ++ [T]) (ts ++ [t])=Gc i Ts ts*M1 T none t (i+ts.length):=by
 induction Ts generalizing ts with
 | nil=>
  intro i e
  cases ts with
  | nil=>
   show M1 T none t i*Mr=Mr*M1 T none t (i+0)
   rw [Dh,Int.add_zero]
  | cons _ _=>simp at e
 | cons T0 Ts ih=>
  intro i e
  cases ts with
  | nil=>simp at e
  | cons t0 ts=>
   have e':Ts.length=ts.length:=by simpa using e
   show M1 T0 none t0 i*Gc (i+1) (Ts ++ [T]) (ts ++ [t])=(M1 T0 none t0 i*Gc (i+1) Ts ts)*M1 T none t (i+((t0 :: ts).length:Nat))
   rw [ih ts (i+1) e',E7]
   congr 3
   simp only [List.length_cons]
   omega
theorem SG9:AH Tryz.prog 120=.slice 176:=by kernel_rfl
theorem ZJ:J7 Tryz.prog 176=true:=by kernel_rfl
theorem SH0:Gw Tryz.prog 176=some (pQ none):=by kernel_rfl
theorem Ks:L7 Tryz.prog 176=1:=by kernel_rfl
theorem Yh:Eo Tryz.prog 176=8:=by kernel_rfl
theorem SH1 {h:A2} {R:Hp} {A B C:Nat} {c:Mod.Cf} (id:Int) (H:A7 h (pt A (oQ (U8 (List.replicate c.level.toNat 0)).toArray 178)*(pt B (oQ (U8 (List.replicate c.level.toNat 0)).toArray 178)*(pt C (oQ (U8 (List.replicate c.level.toNat 0)).toArray 178)*R)))) :
  A7 (h.push (oQ #[iQ id,lQ none 0 0,uQ 0,uQ 0,uQ 0,lQ (some (aQ A)) c.level.toNat c.level.toNat,lQ (some (aQ B)) c.level.toNat c.level.toNat,lQ (some (aQ C)) c.level.toNat c.level.toNat,lQ none 0 0,lQ none 0 0] 183)) (M1 h.size none (Ay c) id*R):=by
 have H1:=H.push (oQ #[iQ id,lQ none 0 0,uQ 0,uQ 0,uQ 0,lQ (some (aQ A)) c.level.toNat c.level.toNat,lQ (some (aQ B)) c.level.toNat c.level.toNat,lQ (some (aQ C)) c.level.toNat c.level.toNat,lQ none 0 0,lQ none 0 0] 183)
 have H2:=((H1.own_new 190 12).own_new 3 1).own_new 3 1
 have z:∀v ∈ List.replicate c.level.toNat (0:Int),U v:=λv hv=>by rw [List.eq_of_mem_replicate hv];exact U0
 have hn:∀v ∈ ([]:List Int),iN v:=λv hv=>by cases hv
 refine J4.2 ⟨⟨none,0,A,B,C,none,0,none,0⟩,⟨⟨λf hf=>(by cases hf),⟨rfl,λv hv=>?_⟩,z,z,z,hn,hn,by simp [Ay]⟩,Lm.none _ _⟩,?_⟩
 ·simp only [Ay,List.mem_cons,List.not_mem_nil,or_false] at hv
  rcases hv with rfl | rfl | rfl <;> exact U0
 have e:(Db ⟨none,0,A,B,C,none,0,none,0⟩ (Ay c) id).toArray=#[iQ id,lQ none 0 0,uQ 0,uQ 0,uQ 0,lQ (some (aQ A)) c.level.toNat c.level.toNat,lQ (some (aQ B)) c.level.toNat c.level.toNat,lQ (some (aQ C)) c.level.toNat c.level.toNat,lQ none 0 0,lQ none 0 0]:=by
  simp [Db,Ay]
 rw [e]
 have H3:A7 _ (CZ none 0 0 []*_):=H2.toF (xs:=[])
 refine A7.ac H3 ?_
 show _=_*(F3 190 12 none 0 0 []*(_*(_*(_*(F3 3 1 none 0 0 []*(CZ none 0 0 []*_))))))
 ac_rfl
theorem Bk {v0 v1:Value} {F:Value->Prop} (k:F v0):D2 #[v0,v1] 0 F:=k
theorem Bl {v0 v1:Value} {F:Value->Prop} (k:F v1):D2 #[v0,v1] 1 F:=k
def EM (c:Mod.Cf) (bs:List Int) (gh:Bool) (i:Nat):Mac:=(J5 c bs gh).setTh (List.replicate i (Ay c))
theorem Sr5 {h:A2} {a:Addr} {v:Value} (e:A3 h a=some v) (F:Value->Prop):D1 h a F=F v:=by unfold D1;rw [e]
theorem z15 {F:Value->Value->Value->Value->Value->Value->Value->Value->Value->Value->Value->Value->Value->Value->Value->Prop} (k:F (iQ 0) (iQ 0) (iQ 0) (iQ 0) (iQ 0) (iQ 0) (iQ 0) (iQ 0) (iQ 0) (iQ 0) (iQ 0) (iQ 0) (iQ 0) (iQ 0) (iQ 0)) :
 asAgg (.agg V9) λvs=>G0 vs 15 (D2 vs 0 λv0=>D2 vs 1 λv1=>D2 vs 2 λv2=>D2 vs 3 λv3=>D2 vs 4 λv4=>D2 vs 5 λv5=>D2 vs 6 λv6=>D2 vs 7 λv7=>D2 vs 8 λv8=>D2 vs 9 λv9=>D2 vs 10 λv10=>D2 vs 11 λv11=>D2 vs 12 λv12=>D2 vs 13 λv13=>D2 vs 14 λv14=>F v0 v1 v2 v3 v4 v5 v6 v7 v8 v9 v10 v11 v12 v13 v14):=k
theorem RH {h:A2} {X:Hp} {M q gq fq:Nat} {m:Mac} (P:Me m.p) (e:m.th = []) (H:A7 h (pt M (oQ (Ij (lQ none 0 0) q gq fq m).toArray 122)*(OK m.g gq*(Mw fq m.b m.used*(O9 q m.mm*X))))):A7 h (CV M [] m*X):=by
 have H1:=H.own_new 176 1
 have H2:A7 h (M3 M (lQ none 0 0) m*(F3 176 1 none 0 0 []*X)):=J9.2 ⟨q,gq,fq,P,A7.ac H1 (by ac_rfl)⟩
 refine V2.2 ⟨none,0,⟨by rw [e];rfl,by rw [e];simp⟩,?_⟩
 rw [e]
 show A7 h (M3 M (lQ none 0 0) m*(F3 176 1 none 0 0 []*(Mr*X)))
 rw [W9]
 exact H2
theorem VE {h:A2} {X:Hp} {M A B C:Nat} {Ts:List Nat} {c:Mod.Cf} {bs:List Int} {gh:Bool} {i:Nat} {a:Option Addr} {cc:Nat} {K:A2->Prop} (hi:i < 6) (hT:Ts.length=i)
  (H:A7 h (pt A (oQ (U8 (List.replicate c.level.toNat 0)).toArray 178)*(pt B (oQ (U8 (List.replicate c.level.toNat 0)).toArray 178)*(pt C (oQ (U8 (List.replicate c.level.toNat 0)).toArray 178)*(M3 M (lQ a i cc) (EM c bs gh i)*(F3 176 1 a i cc (Ts.map mP)*(Gc 0 Ts (List.replicate i (Ay c))*X)))))))
  (k:∀h' T,A7 h' (CV M (Ts ++ [T]) (EM c bs gh (i+1))*X)->K h') :
  T2 Tryz.prog #[120,120] 120 #[lQ a i cc,lQ (some ⟨(h.push (oQ #[iQ i,lQ none 0 0,uQ 0,uQ 0,uQ 0,lQ (some (aQ A)) c.level.toNat c.level.toNat,lQ (some (aQ B)) c.level.toNat c.level.toNat,lQ (some (aQ C)) c.level.toNat c.level.toNat,lQ none 0 0,lQ none 0 0] 183)).size,0,none⟩) 1 1]
   ((h.push (oQ #[iQ i,lQ none 0 0,uQ 0,uQ 0,uQ 0,lQ (some (aQ A)) c.level.toNat c.level.toNat,lQ (some (aQ B)) c.level.toNat c.level.toNat,lQ (some (aQ C)) c.level.toNat c.level.toNat,lQ none 0 0,lQ none 0 0] 183)).push (oQ #[pQ (some (aQ h.size))] 176))
   λv h'=>C8 v λo k1 k2=>C4 h' ⟨M,18,none⟩ (lQ o k1 k2) K:=by
 have H1:=SH1 (i:Int) H
 generalize h.push _=h1 at *
 generalize h.size=T at *
 have H2:=H1.push (oQ #[pQ (some (aQ T))] 176)
 have hs:N8 (h1.push (oQ #[pQ (some (aQ T))] 176)) (some (aQ h1.size)) [mP T]:=λj v hj=>⟨_,rfl,by rw [E1,Nat.zero_add,E0 H2.at];simpa using hj⟩
 generalize h1.push (oQ #[pQ (some (aQ T))] 176)=h2 at *
 have H3:A7 h2 (F3 176 (L7 Tryz.prog 176) a i cc (Ts.map mP)*(M3 M (lQ a i cc) (EM c bs gh i)*(Gc 0 Ts (List.replicate i (Ay c))*(M1 T none (Ay c) i*X)))):=by
  rw [Ks]
  exact A7.ac H2.drop (by ac_rfl)
 refine H3.app SG9 ZJ SH0 (by rw [Ks];rfl) hs (n:=1) (by rw [Ks];rfl) (by simp [J3]) (by rw [Yh];omega) (by rw [Yh];omega) λa' c' h3 H4=>?_
 rw [Ks,D4] at H4
 obtain ⟨q,gq,fq,P,H5⟩:=J9.1 H4
 refine sb ?_
 refine H5.st (i:=18) rfl trivial λh4 H6=>k h4 T ?_
 have H7:A7 h4 (M3 M (lQ a' (i+1) c') (EM c bs gh (i+1))*(F3 176 1 a' (i+1) c' (Ts.map mP ++ [mP T])*(Gc 0 Ts (List.replicate i (Ay c))*(M1 T none (Ay c) i*X)))):=J9.2 ⟨q,gq,fq,P,H6⟩
 refine V2.2 ⟨a',c',⟨by simp [EM,Mod.Mac.setTh,hT],by simp [EM,Mod.Mac.setTh];omega⟩,?_⟩
 have e1:(EM c bs gh (i+1)).th=List.replicate i (Ay c) ++ [Ay c]:=List.replicate_succ'
 have e2:(EM c bs gh (i+1)).th.length=i+1:=by rw [e1];simp
 rw [e2,e1,ZI _ _ _ _ _ (by simp [hT]),List.map_append]
 have e3:(0:Int)+((List.replicate i (Ay c)).length:Nat)=i:=by simp
 rw [e3]
 exact A7.ac H7 (by show _=_*(F3 176 1 a' (i+1) c' (Ts.map mP ++ [mP T])*_);ac_rfl)
theorem Pe {K:kQ} {h:A2} {R:Hp} {c:Mod.Cf} {a:Option Addr} {cc:Nat} {bs:List Int} {gh:Bool} (H:A7 h R) (hs:∀h' P,A7 h' (P*R)->N8 h' a (bs.map λn=>.int .u8 n)) (hl:bs.length<=65536) (hr:∀n ∈ bs,0<=n/\n < 256)
  (k0:Fv c=false->∀h',A7 h' R->K (.tuple #[pQ none,iQ 6]) h') (k1:Fv c=true->∀h' M Ts,A7 h' (CV M Ts (J5 c bs gh)*R)->K (.tuple #[mP M,iQ 0]) h') :
  A5 Tryz.prog 62 #[cfV c,lQ a bs.length cc,dQ gh] h K:=by
 refine call62 ?_
 unfold F62 g62 q62_7 q62_6 q62_5 q62_4 q62_3 q62_2 q62_1 cf ce lI N0 PY Bs
 have H1:=H.push (oQ #[iQ c.algo,iQ c.threads,iQ c.nodes,iQ c.level,iQ c.batch,iQ c.probes,iQ c.scan] 23)
 generalize h.push (oQ #[iQ c.algo,iQ c.threads,iQ c.nodes,iQ c.level,iQ c.batch,iQ c.probes,iQ c.scan] 23)=h1 at *
 generalize h.size=Nc at *
 have C1:=H1.at
 iterate 7 (refine C5 C1 rfl ?_)
 refine A0 (Pb c (λhok h2 o2=>?_) λhok h2 o2=>?_)
 ·have P:=Be hok
  have hp:(D5 c).c=c:=rfl
  have H2:=H1.old o2
  refine sb ?_
  refine Bk ?_
  refine AZ ?_
  try simp only [B4,F2,Nat.reduceAdd,Int.reduceLE,Int.reduceLT,Int.reduceToNat]
  refine Bl ?_
  refine sb ?_
  have H3:=H2.push (oQ Ae 117)
  generalize h2.push (oQ Ae 117)=h3 at *
  generalize h2.size=Np at *
  refine Mn (F6 (vs:=Di (D5 c)) H3.at rfl (by simp [J3]) λh4 w=>?_)
  have H4:=H3.wr w.new w.old
  clear H3 w
  refine C7 (λc0=>by simp at c0) (λ_=>?_)
  refine Gb H4.at ?_
  refine A0 (Rf λh5 o5=>?_)
  have H5:=H4.old o5
  refine sb ?_
  have hsz:1<=(D5 c).size/\(D5 c).size<=4096:=by
   have:=P.si;have:=P.tr;have:=P.nd;have:=P.li
   omega
  refine A0 (RE H5 hsz λh6 q H6=>?_)
  refine sb ?_
  refine Bk ?_
  refine sb ?_
  refine Bl ?_
  try simp only [B4,F2,Nat.reduceAdd,Int.reduceLE,Int.reduceLT,Int.reduceToNat]
  refine C7 (λc0=>by simp at c0) (λ_=>?_)
  refine Gb H6.at2 ?_
  have hsn:(D5 c).sent < (D5 c).c.nodes:=by
   have:=hok
   unfold Fv at this
   rw [decide_eq_true_iff] at this
   have h15:=this.2.2.2.2.2.2.2.2.2.2.2.2.2.2
   show (if (c.algo == 0)=true then (0:Int) else 2) < c.nodes
   simpa using h15
  refine A0 (Sr4 H6 P rfl hsn λh7 H7=>?_)
  refine Gb H7.at2 ?_
  refine A0 (Pd H7 ?_ hl hr λh8 fq H8=>?_)
  ·refine hs h7 (O9 q (ZH (D5 c) ⟨List.replicate (D5 c).size.toNat 0,0,false,[]⟩)*(pt Np (oQ (Di (D5 c)).toArray 117)*pt Nc (oQ #[iQ c.algo,iQ c.threads,iQ c.nodes,iQ c.level,iQ c.batch,iQ c.probes,iQ c.scan] 23))) (A7.ac H7 (by ac_rfl))
  try simp only [B4,F2,Nat.reduceAdd,Int.reduceLE,Int.reduceLT,Int.reduceToNat]
  refine VA H8.at3 ?_
  have H9:=H8.push (oQ (Ij (lQ none 0 0) q 0 fq (EM c bs false 0)).toArray 122)
  have em:(oQ #[iQ (D5 c).c.algo,iQ (D5 c).c.threads,iQ (D5 c).c.nodes,iQ (D5 c).c.level,iQ (D5 c).c.batch,iQ (D5 c).c.probes,iQ (D5 c).c.scan,iQ (D5 c).slots,iQ (D5 c).width,iQ (D5 c).sent,iQ (D5 c).hazards,iQ (D5 c).links,iQ (D5 c).nodes,iQ (D5 c).tree,iQ (D5 c).size,pQ (some (aQ q)),pQ none,pQ (some (aQ fq)),lQ none 0 0,dQ false,dQ false] 122:Obj)=oQ (Ij (lQ none 0 0) q 0 fq (EM c bs false 0)).toArray 122:=rfl
  rw [em]
  generalize h8.push (oQ (Ij (lQ none 0 0) q 0 fq (EM c bs false 0)).toArray 122)=h9 at *
  generalize h8.size=M at *
  have e0:EM c bs false 0=⟨D5 c,lay (D5 c),none,bs,0,[],false,false⟩:=rfl
  refine ⟨λ_ h'=>A7 h' (CV M [] (EM c bs gh 0)*(pt Nc (oQ #[iQ c.algo,iQ c.threads,iQ c.nodes,iQ c.level,iQ c.batch,iQ c.probes,iQ c.scan] 23)*(pt Np (oQ (Di (D5 c)).toArray 117)*R))),?_,?_⟩
  ·cases gh with
   | false=>
    simp only [E2]
    refine RH (q:=q) (gq:=0) (fq:=fq) P rfl ?_
    show A7 h9 (_*(Mr*(Mw fq bs 0*(O9 q (lay (D5 c))*_))))
    rw [W9,Sr3]
    exact A7.ac H9 (by ac_rfl)
   | true=>
    simp only [G2]
    have HC:A7 h9 (pt Nc (oQ #[iQ c.algo,iQ c.threads,iQ c.nodes,iQ c.level,iQ c.batch,iQ c.probes,iQ c.scan] 23)*(pt Np (oQ (Di (D5 c)).toArray 117)*(pt M (oQ (Ij (lQ none 0 0) q 0 fq (EM c bs false 0)).toArray 122)*(Mw fq bs 0*(O9 q (ZH (D5 c) ⟨List.replicate (D5 c).size.toNat 0,0,false,[]⟩)*R))))):=A7.ac H9 (by ac_rfl)
    refine C5 HC.at rfl ?_
    try simp only [B4,F2,Nat.reduceAdd,Int.reduceLE,Int.reduceLT,Int.reduceToNat]
    refine Gb HC.at2 ?_
    refine A0 (Jx λh10 o10=>?_)
    have HD:=HC.old o10
    try simp only [B4,F2,Nat.reduceAdd,Int.reduceLE,Int.reduceLT,Int.reduceToNat]
    refine ⟨E9 HD.at rfl,?_⟩
    have hbd:=hok
    unfold Fv at hbd
    rw [decide_eq_true_iff] at hbd
    refine A0 (ME HD ⟨hbd.2.2.2.2.1,hbd.2.2.2.2.2.1⟩ ⟨P.se.1,by have:(D5 c).sent < c.nodes:=hsn;omega⟩ λh11 gq HE=>?_)
    try simp only [B4,F2,Nat.reduceAdd,Int.reduceLE,Int.reduceLT,Int.reduceToNat]
    have HF:A7 h11 (pt M (oQ (Ij (lQ none 0 0) q 0 fq (EM c bs false 0)).toArray 122)*(OK (some (XQ c.nodes (D5 c).sent)) gq*(Mw fq bs 0*(O9 q (ZH (D5 c) ⟨List.replicate (D5 c).size.toNat 0,0,false,[]⟩)*(pt Nc (oQ #[iQ c.algo,iQ c.threads,iQ c.nodes,iQ c.level,iQ c.batch,iQ c.probes,iQ c.scan] 23)*(pt Np (oQ (Di (D5 c)).toArray 117)*R)))))):=A7.ac HE (by ac_rfl)
    refine HF.st (i:=16) rfl trivial λh12 HG=>?_
    exact RH (q:=q) (gq:=gq) (fq:=fq) (m:=EM c bs true 0) P rfl HG
  intro g131 h132 H10
  refine C5 H10.at2 rfl ?_
  try simp only [B4,F2,Nat.reduceAdd,Int.reduceLE,Int.reduceLT,Int.reduceToNat]
  refine ⟨λvs h'=>∃(w:Value) (i:Nat) (Ts:List Nat),vs = [w,.int .i64 i]/\(i:Int)<=c.threads/\Ts.length=i/\A7 h' (CV M Ts (EM c bs gh i)*(pt Nc (.cells #[.int .i64 c.algo,.int .i64 c.threads,.int .i64 c.nodes,.int .i64 c.level,.int .i64 c.batch,.int .i64 c.probes,.int .i64 c.scan] 23)*(pt Np (.cells (Di (D5 c)).toArray 117)*R))),λvs _=>match vs with | [_,.int _ i]=>(c.threads - i).toNat | _=>0,⟨_,0,[],rfl,by have:=P.th;rw [hp] at this;omega,rfl,H10⟩,?_⟩
  rintro v137 v138 g139 h140 ⟨w,i,Ts,e,hi,hT,H11⟩
  cases e
  have hth:=P.th
  rw [hp] at hth
  have hlv:=P.lv
  rw [hp] at hlv
  try simp only [B4,F2,Nat.reduceAdd,Int.reduceLE,Int.reduceLT,Int.reduceToNat]
  refine A4 (λc1=>?_) (λc1=>?_)
  ·obtain ⟨a',cc',⟨hl1,hl2⟩,H12⟩:=V2.1 H11
   have eth:(EM c bs gh i).th=List.replicate i (Ay c):=rfl
   have ethl:(EM c bs gh i).th.length=i:=by rw [eth];simp
   rw [ethl,eth] at H12
   obtain ⟨q2,gq2,fq2,P2,H13⟩:=J9.1 H12
   have cM:A3 h140 ⟨M,18,none⟩=some (lQ a' i cc'):=E0 H13.at 18
   have HN:A7 h140 (pt Nc (oQ #[iQ c.algo,iQ c.threads,iQ c.nodes,iQ c.level,iQ c.batch,iQ c.probes,iQ c.scan] 23)*_):=H11.drop
   have cN:A3 h140 ⟨Nc,3,none⟩=some (iQ c.level):=E0 HN.at 3
   have lM:∀F:Value->Prop,D1 h140 ⟨M,18,none⟩ F=F (lQ a' i cc'):=Sr5 cM
   have lN:∀F:Value->Prop,D1 h140 ⟨Nc,3,none⟩ F=F (iQ c.level):=Sr5 cN
   have m1:=λo=>E4 (o:=o) cM
   have m2:=λo o2=>E4 (o:=o2) (m1 o)
   have m3:=λo o2 o3=>E4 (o:=o3) (m2 o o2)
   have m4:=λo o2 o3 o4=>E4 (o:=o4) (m3 o o2 o3)
   have m5:=λo o2 o3 o4 o5=>E4 (o:=o5) (m4 o o2 o3 o4)
   have n1:=λo=>E4 (o:=o) cN
   have n2:=λo o2=>E4 (o:=o2) (n1 o)
   have n3:=λo o2 o3=>E4 (o:=o3) (n2 o o2)
   have n4:=λo o2 o3 o4=>E4 (o:=o4) (n3 o o2 o3)
   have n5:=λo o2 o3 o4 o5=>E4 (o:=o5) (n4 o o2 o3 o4)
   try simp only [B4,F2,Nat.reduceAdd,Int.reduceLE,Int.reduceLT,Int.reduceToNat,lM,lN]
   have hlv4:0<=c.level/\c.level<=4096:=by omega
   have H14:=((H12.push (oQ (U8 (List.replicate c.level.toNat 0)).toArray 178)).push (oQ (U8 (List.replicate c.level.toNat 0)).toArray 178)).push (oQ (U8 (List.replicate c.level.toNat 0)).toArray 178)
   refine ⟨Dv hlv4 ?_,Dv hlv4 ?_,Dv hlv4 ?_⟩
   all_goals
    try simp only [B4,F2,Nat.reduceAdd,Int.reduceLE,Int.reduceLT,Int.reduceToNat,m1,n1]
    refine ⟨Dv hlv4 ?_,Dv hlv4 ?_⟩
   all_goals
    try simp only [B4,F2,Nat.reduceAdd,Int.reduceLE,Int.reduceLT,Int.reduceToNat,m2,n2]
    refine Dv hlv4 ?_
    try simp only [B4,F2,Nat.reduceAdd,Int.reduceLE,Int.reduceLT,Int.reduceToNat,m3,n3,m4,n4,m5,n5]
   all_goals
    refine VE (i:=i) (X:=pt Nc (oQ #[iQ c.algo,iQ c.threads,iQ c.nodes,iQ c.level,iQ c.batch,iQ c.probes,iQ c.scan] 23)*(pt Np (oQ (Di (D5 c)).toArray 117)*R)) (by omega) hT (A7.ac H14 (by ac_rfl)) λh' T H'=>?_
   all_goals
    try simp only [B4,F2,Nat.reduceAdd,Int.reduceLE,Int.reduceLT,Int.reduceToNat]
    refine ⟨⟨iQ i,i+1,Ts ++ [T],?_,by omega,by simp [hT],H'⟩,?_⟩
   all_goals
    rw [show F5 ((i:Int)+1)=((i+1:Nat):Int) from by unfold F5;omega]
   all_goals
    first
     | rfl
     | omega
  ·have ei:c.threads.toNat=i:=by omega
   have em:EM c bs gh i=J5 c bs gh:=by
    rw [<- ei];rfl
   rw [em] at H11
   exact k1 hok h140 M Ts H11.drop2.drop2
 ·have H2:=H1.old o2
  refine sb ?_
  refine Bk ?_
  refine z15 ?_
  try simp only [B4,F2,Nat.reduceAdd,Int.reduceLE,Int.reduceLT,Int.reduceToNat]
  refine Bl ?_
  refine sb ?_
  have H3:=H2.push (oQ Ae 117)
  generalize h2.push (oQ Ae 117)=h3 at *
  generalize h2.size=Np at *
  refine Mn (F6 (vs:=[iQ 0,iQ 0,iQ 0,iQ 0,iQ 0,iQ 0,iQ 0,iQ 0,iQ 0,iQ 0,iQ 0,iQ 0,iQ 0,iQ 0,iQ 0]) H3.at rfl (by simp [J3]) λh4 w=>?_)
  have H4:=H3.wr w.new w.old
  refine C7 (λ_=>?_) (λc0=>by simp at c0)
  exact k0 hok h4 H4.drop.drop
end
section
set_option maxRecDepth 100000
abbrev g11 (K:kQ) (h H1 H2 H3:A2) (xa xb:Int):Prop:=
 (PY H3 H1.size λa b c d e f g=>C4 (H3.push (oQ #[iQ 0,iQ 0,iQ 0,iQ 0,iQ 0,iQ 0,iQ 0,lQ none 0 0,lQ none 0 0,lQ none 0 0] 28)) (aQ H3.size) a λa=>C4 a ⟨H3.size,1,none⟩ b λa=>C4 a ⟨H3.size,2,none⟩ c λa=>C4 a ⟨H3.size,3,none⟩ d λa=>C4 a ⟨H3.size,4,none⟩ e λa=>C4 a ⟨H3.size,5,none⟩ f λa=>C4 a ⟨H3.size,6,none⟩ g λa=>C4 a ⟨H3.size,7,none⟩ (lQ none 0 0) λa=>C4 a ⟨H3.size,8,none⟩ (lQ none 0 0) λa=>C4 a ⟨H3.size,9,none⟩ (lQ none 0 0) λa=>O0 λI17=>(lI .i64 a ⟨H1.size,1,none⟩ λb=>D0 (decide (b < 1)) (I17 [dQ true] a) (lI .i64 a ⟨H1.size,1,none⟩ λb=>I17 [dQ (decide (b > 6))] a))/\(∀(a:Value) (b:F8) (b:A2),(I17 [a] b)->(asBool a λa=>D0 a (EH b H3.size λa c d e f g i j k l=>So0 b H2.size a c d e f g i j k l λa=>EH a H2.size λc d e f g i j k l m=>K (.agg #[c,d,e,f,g,i,j,k,l,m]) a) (O0 λI56=>Hg λm57=>(I56 [iQ 0,tQ,tQ] b)/\(∀(a b c:Value) (d:F8) (d:A2),(I56 [a,b,c] d)->(asInt .i64 a λe=>lI .i64 d ⟨H1.size,1,none⟩ λf=>D0 (decide (e < f)) (O0 λI66=>Hg λm67=>(I66 [lQ none 0 0,iQ 0] d)/\(∀(e f:Value) (g:F8) (g:A2),(I66 [e,f] g)->(O0 λI72=>(asInt .i64 a λi=>lS g ⟨h.size,7,none⟩ λj j k=>D0 (decide (i < (j:Int))) (asInt .i64 f λi=>lS g ⟨h.size,7,none⟩ λj k l=>asInt .i64 a λl=>bd l (k:Int) (E5 (pQ j) λj=>lS g (j.add (l.toNat*1)) λj j k=>D0 (decide (i < (j:Int))) (asInt .i64 f λk=>I72 [dQ (decide (i < (j:Int))),dQ (decide (k < xa))] g) (I72 [dQ (decide (i < (j:Int))),dQ false] g))) (I72 [dQ false,dQ false] g))/\(∀(i j:Value) (k:F8) (k:A2),(I72 [i,j] k)->(asBool j λi=>D0 i (lS k ⟨h.size,7,none⟩ λi j l=>asInt .i64 a λl=>bd l (j:Int) (E5 (pQ i) λi=>lS k (i.add (l.toNat*1)) λi j l=>asInt .i64 f λl=>bd l (j:Int) (E5 (pQ i) λi=>D1 k (i.add (l.toNat*3)) λj=>D1 k (Addr.add (i.add (l.toNat*3)) 1) λm=>D1 k (Addr.add (i.add (l.toNat*3)) 2) λi=>C4 (k.push (oQ #[iQ 0,.int .u32 0,.int .u32 0] 41)) (aQ k.size) j λj=>C4 j ⟨k.size,1,none⟩ m λj=>C4 j ⟨k.size,2,none⟩ i λi=>lI .i64 i (aQ k.size) λj=>((3:Int)≠0)/\(((3:Int)≠0)/\(C4 (i.push (oQ #[iQ 0,.int .u32 0,.int .u32 0] 41)) (aQ i.size) (iQ (Int.tmod (IntKind.wrap .i64 ((Int.tmod j 3)+3)) 3)) λj=>C4 j ⟨i.size,1,none⟩ (.int .u32 0) λj=>C4 j ⟨i.size,2,none⟩ (.int .u32 0) λj=>O0 λI118=>(lI .i64 j (aQ i.size) λl=>D0 (l == 0) (lI .u32 j ⟨k.size,1,none⟩ λl=>C4 j ⟨i.size,1,none⟩ (.int .u32 l) λl=>lI .u32 l ⟨k.size,2,none⟩ λm=>C4 l ⟨i.size,2,none⟩ (.int .u32 m) λl=>I118 [] l) (I118 [] j))/\(∀(j:F8) (j:A2),(I118 [] j)->(C8 e λl m n=>L1 j i.size λi o p=>T2 Tryz.prog #[58,58] 58 #[lQ l m n,lQ (some (aQ j.size)) 1 1] (j.push (oQ #[i,o,p] 41)) λi j=>C8 i λi l m=>asInt .i64 f λn=>(I66 [lQ i l m,iQ (IntKind.wrap .i64 (n+1))] j)/\((m67 [lQ i l m,iQ (IntKind.wrap .i64 (n+1))] j) < (m67 [e,f] g))))))))) (lS k ⟨H3.size,7,none⟩ λg i j=>C8 e λl m n=>T2 Tryz.prog #[24,24] 24 #[lQ g i j,lQ (some (aQ k.size)) 1 1] (k.push (oQ #[lQ l m n] 58)) λg i=>C8 g λg j k=>C4 i ⟨H3.size,7,none⟩ (lQ g j k) λg=>asInt .i64 a λi=>(I56 [iQ (IntKind.wrap .i64 (i+1)),e,f] g)/\((m57 [iQ (IntKind.wrap .i64 (i+1)),e,f] g) < (m57 [a,b,c] d)))))))) (O0 λI155=>Hg λm156=>(I155 [iQ 0] d)/\(∀(a:Value) (b:F8) (b:A2),(I155 [a] b)->(O0 λI160=>(asInt .i64 a λc=>lS b ⟨h.size,8,none⟩ λd d e=>D0 (decide (c < (d:Int))) (asInt .i64 a λc=>I160 [dQ (decide (c < xb))] b) (I160 [dQ false] b))/\(∀(c:Value) (d:F8) (d:A2),(I160 [c] d)->(asBool c λc=>D0 c (D1 d ⟨H3.size,8,none⟩ λc=>C8 c λe f g=>lS d ⟨h.size,8,none⟩ λi j k=>asInt .i64 a λk=>bd k (j:Int) (E5 (pQ i) λi=>lI .i64 d (i.add (k.toNat*1)) λi=>lI .i64 d ⟨H1.size,1,none⟩ λj=>((j:Int)≠0)/\(lI .i64 d ⟨H1.size,1,none⟩ λk=>lI .i64 d ⟨H1.size,1,none⟩ λl=>((l:Int)≠0)/\(((A3 (d.push (oQ #[iQ (Int.tmod (IntKind.wrap .i64 ((Int.tmod i j)+k)) l)] 3)) ⟨H3.size,8,none⟩)=(some c))/\(T2 Tryz.prog #[25,25] 25 #[lQ e f g,lQ (some (aQ d.size)) 1 1] (d.push (oQ #[iQ (Int.tmod (IntKind.wrap .i64 ((Int.tmod i j)+k)) l)] 3)) λc e=>C8 c λc f g=>C4 e ⟨H3.size,8,none⟩ (lQ c f g) λc=>asInt .i64 a λe=>(I155 [iQ (IntKind.wrap .i64 (e+1))] c)/\((m156 [iQ (IntKind.wrap .i64 (e+1))] c) < (m156 [a] b))))))) (O0 λI196=>Hg λm197=>(I196 [iQ 0] d)/\(∀(a:Value) (b:F8) (b:A2),(I196 [a] b)->(O0 λI201=>(asInt .i64 a λc=>lS b ⟨h.size,9,none⟩ λd d e=>D0 (decide (c < (d:Int))) (asInt .i64 a λc=>I201 [dQ (decide (c < 4096))] b) (I201 [dQ false] b))/\(∀(c:Value) (d:F8) (d:A2),(I201 [c] d)->(asBool c λc=>D0 c (D1 d ⟨H3.size,9,none⟩ λc=>C8 c λe f g=>lS d ⟨h.size,9,none⟩ λi j k=>asInt .i64 a λk=>bd k (j:Int) (E5 (pQ i) λi=>lI .u8 d (i.add (k.toNat*1)) λi=>((A3 (d.push (oQ #[.int .u8 i] 5)) ⟨H3.size,9,none⟩)=(some c))/\(T2 Tryz.prog #[26,26] 26 #[lQ e f g,lQ (some (aQ d.size)) 1 1] (d.push (oQ #[.int .u8 i] 5)) λc e=>C8 c λc f g=>C4 e ⟨H3.size,9,none⟩ (lQ c f g) λc=>asInt .i64 a λe=>(I196 [iQ (IntKind.wrap .i64 (e+1))] c)/\((m197 [iQ (IntKind.wrap .i64 (e+1))] c) < (m197 [a] b))))) (EH d H3.size λa b c e f g i j k l=>So0 d H2.size a b c e f g i j k l λa=>EH a H2.size λb c d e f g i j k l=>K (.agg #[b,c,d,e,f,g,i,j,k,l]) a)))))))))))))))))
def F11 (K:kQ) (h:A2) (xa xb xc xd xe xf xg:Int) (xh:Option Addr) (xi xj:Nat) (xk:Option Addr) (xl xm:Nat) (xn:Option Addr) (xo xp:Nat) (xq xr xs xt xu xv xw xx xy:Int):Prop:=
 (g11 K h (h.push (oQ #[iQ xa,iQ xb,iQ xc,iQ xd,iQ xe,iQ xf,iQ xg,lQ xh xi xj,lQ xk xl xm,lQ xn xo xp] 28)) (Array.push (h.push (oQ #[iQ xa,iQ xb,iQ xc,iQ xd,iQ xe,iQ xf,iQ xg,lQ xh xi xj,lQ xk xl xm,lQ xn xo xp] 28)) (oQ #[iQ xq,iQ xr,iQ xs,iQ xt,iQ xu,iQ xv,iQ xw] 23)) (Array.push (Array.push (h.push (oQ #[iQ xa,iQ xb,iQ xc,iQ xd,iQ xe,iQ xf,iQ xg,lQ xh xi xj,lQ xk xl xm,lQ xn xo xp] 28)) (oQ #[iQ xq,iQ xr,iQ xs,iQ xt,iQ xu,iQ xv,iQ xw] 23)) (oQ #[iQ 0,iQ 0,iQ 0,iQ 0,iQ 0,iQ 0,iQ 0,lQ none 0 0,lQ none 0 0,lQ none 0 0] 28)) xx xy)
theorem call11 {K:kQ} {h:A2} {xa xb xc xd xe xf xg:Int} {xh:Option Addr} {xi xj:Nat} {xk:Option Addr} {xl xm:Nat} {xn:Option Addr} {xo xp:Nat} {xq xr xs xt xu xv xw xx xy:Int} (H:F11 K h xa xb xc xd xe xf xg xh xi xj xk xl xm xn xo xp xq xr xs xt xu xv xw xx xy):A5 Tryz.prog 11 #[(.agg #[(iQ xa),(iQ xb),(iQ xc),(iQ xd),(iQ xe),(iQ xf),(iQ xg),(lQ xh xi xj),(lQ xk xl xm),(lQ xn xo xp)]),(.agg #[(iQ xq),(iQ xr),(iQ xs),(iQ xt),(iQ xu),(iQ xv),(iQ xw)]),(iQ xx),(iQ xy)] h K:=
 cQ Tryz.func11 H
end
section
open Go.Proofs.YtahpbclnkofhfaaGreat.Mod
end
section
open Mod
section
variable {K:kQ} {h:A2} {M T b o N:Nat} {tv:Value} {R:Hp} {m:Mac}
structure SZ5 (m:Mac):Prop where
 hn:m.p.links+m.p.c.nodes=m.p.nodes
 hw:(m.mm.w.length:Int)=m.p.size
end
end
section
open Mod
structure Cl where
 op:Int
 key:Int
 val:Int
def Cc (c:Cl):List Value:=[iQ c.op,.int .u32 c.key,.int .u32 c.val]
structure EvM where
 k:Int
 back:Bool
 c:Cl
 a:Cl
def Fy (e:EvM):List Value:=[iQ e.k,dQ e.back,iQ e.c.op,.int .u32 e.c.key,.int .u32 e.c.val,iQ e.a.op,.int .u32 e.a.key,.int .u32 e.a.val]
structure DS where
 m:Mac
 nx:List Int
 cu:List Cl
 ev:List EvM
structure DB where
 pb:Nat
 nb:Nat
 tb:Nat
 cb:Nat
def bv (b:Bool):Value:=dQ b
theorem Bm (c:Cl):(Cc c).length=3:=rfl
theorem SH2 (e:EvM):(Fy e).length=8:=rfl
theorem Yi:AH Tryz.prog 32=.slice 45:=by kernel_rfl
theorem Nw:J7 Tryz.prog 45=true:=by kernel_rfl
theorem Ei:L7 Tryz.prog 45=8:=by kernel_rfl
theorem Kt:Eo Tryz.prog 45=48:=by kernel_rfl
theorem Yj:Gw Tryz.prog 45=some (.agg #[iQ 0,dQ false,iQ 0,.int .u32 0,.int .u32 0,iQ 0,.int .u32 0,.int .u32 0]):=by kernel_rfl
section
variable {K:kQ} {h:A2} {M T:Nat} {B:DB} {Ts:List Nat} {n:Nat} {s:DS} {R:Hp}
end
end
section
open Mod
def VF:ByteArray:=⟨#[0,1,2,2,3,3,3,3,4,4,4,4,4,4,4,4,5,5,5,5,5,5,5,5,5,5,5,5,5,5,5,5,6,6,6,6,6,6,6,6,6,6,6,6,6,6,6,6,6,6,6,6,6,6,6,6,6,6,6,6,6,6,6,6,7,7,7,7,7,7,7,7,7,7,7,7,7,7,7,7,7,7,7,7,7,7,7,7,7,7,7,7,7,7,7,7,7,7,7,7,7,7,7,7,7,7,7,7,7,7,7,7,7,7,7,7,7,7,7,7,7,7,7,7,7,7,7,7,8,8,8,8,8,8,8,8,8,8,8,8,8,8,8,8,8,8,8,8,8,8,8,8,8,8,8,8,8,8,8,8,8,8,8,8,8,8,8,8,8,8,8,8,8,8,8,8,8,8,8,8,8,8,8,8,8,8,8,8,8,8,8,8,8,8,8,8,8,8,8,8,8,8,8,8,8,8,8,8,8,8,8,8,8,8,8,8,8,8,8,8,8,8,8,8,8,8,8,8,8,8,8,8,8,8,8,8,8,8,8,8,8,8,8,8,8,8,8,8,8,8,8,8,8,8,8,8]⟩
theorem ZK:((List.range 256).all λi=>IG VF i == if i=0 then 0 else ((Nat.log2 i+1:Nat):Int))=true:=by decide +kernel
theorem ZL {i:Nat} (h:i < 256) (h0:1<=i):IG VF i=((Nat.log2 i+1:Nat):Int):=by
 have:=List.all_eq_true.1 ZK i (List.mem_range.2 h)
 rw [if_neg (by omega)] at this
 simpa using this
theorem Ls {n k:Nat} (h:2 ^ k<=n):Nat.log2 n=Nat.log2 (n / 2 ^ k)+k:=by
 have hk:0 < 2 ^ k:=Nat.two_pow_pos k
 have h1:n / 2 ^ k≠0:=by
  have:=Nat.div_pos h hk
  omega
 have h2:=(Nat.log2_eq_iff h1).1 rfl
 rw [Nat.log2_eq_iff (by omega)]
 constructor
 ·rw [Nat.pow_add]
  exact Nat.le_trans (Nat.mul_le_mul_right _ h2.1) (Nat.div_mul_le_self n _)
 ·have:=(Nat.div_lt_iff_lt_mul hk).1 h2.2
  rw [show (n / 2 ^ k).log2+k+1=((n / 2 ^ k).log2+1)+k by omega,Nat.pow_add]
  exact this
section
variable {K:kQ} {h:A2}
theorem VG {n:Nat} (h1:1<=n) (h2:n<=1048576) (k:K (iQ ((Nat.log2 n+1:Nat):Int)) h):A5 Tryz.prog 310 #[uQ (n:Int)] h K:=by
 refine call310 ?_
 unfold F310
 refine ⟨λvs h'=>vs = [uQ (n:Int),iQ 0]/\h' = h,?_,?_⟩
 ·exact A4 (λc=>by omega) (λ_=>⟨rfl,by trivial⟩)
 rintro v1 v2 g3 h4 ⟨e,rfl⟩
 cases e
 refine ⟨λvs h'=>(∃(m s:Nat),vs = [uQ (m:Int),iQ (s:Int)]/\1<=m/\m < 65536/\s<=16/\Nat.log2 n=Nat.log2 m+s)/\h' = h4,?_,?_⟩
 ·simp only [A6]
  refine A4 (λc=>⟨by decide,?_⟩) (λc=>?_)
  ·refine ⟨⟨n / 65536,16,?_,?_,?_,by omega,Ls (k:=16) (by omega)⟩,by trivial⟩
   ·rw [Bc (by omega),D8 (by omega) (by omega)];rfl
   ·omega
   ·omega
  ·exact ⟨⟨n,0,rfl,h1,by omega,by omega,rfl⟩,by trivial⟩
 rintro v9 v10 g11 h12 ⟨⟨m,s,e,m1,m2,hs,hl⟩,rfl⟩
 cases e
 refine ⟨λvs h'=>(∃(m s:Nat),vs = [uQ (m:Int),iQ (s:Int)]/\1<=m/\m < 256/\s<=24/\Nat.log2 n=Nat.log2 m+s)/\h' = h12,?_,?_⟩
 ·simp only [A6]
  refine A4 (λc=>⟨by decide,?_⟩) (λc=>?_)
  ·refine ⟨⟨m / 256,s+8,?_,?_,?_,by omega,?_⟩,by trivial⟩
   ·rw [Bc (by omega),D8 (by omega) (by omega)];rfl
   ·omega
   ·omega
   ·have:=Ls (n:=m) (k:=8) (by omega)
    rw [show (2:Nat) ^ 8=256 from rfl] at this
    omega
  ·exact ⟨⟨m,s,rfl,m1,by omega,by omega,hl⟩,by trivial⟩
 rintro v17 v18 g19 h20 ⟨⟨m,s,e,m1,m2,hs,hl⟩,rfl⟩
 cases e
 simp only [A6]
 have e8:IntKind.wrap .u8 (m:Int)=(m:Int):=by
  unfold IntKind.wrap IntKind.signed IntKind.bits
  simp only [Bool.false_and,Bool.false_eq_true,if_false]
  omega
 rw [e8]
 refine ⟨by omega,by omega,?_⟩
 show K (iQ (IntKind.wrap .i64 ((s:Int)+IntKind.wrap .i64 (IG VF (m:Int).toNat)))) h20
 rw [show (m:Int).toNat=m by omega,ZL m2 m1]
 have hlm:Nat.log2 m < 256:=Nat.lt_of_le_of_lt (Nat.log2_le_self m) m2
 rw [D8 (n:=((Nat.log2 m+1:Nat):Int)) (by omega) (by omega),D8 (by omega) (by omega)]
 rw [hl] at k
 rw [show ((s:Int)+((Nat.log2 m+1:Nat):Int))=((Nat.log2 m+s+1:Nat):Int) by omega]
 exact k
theorem Ge {n:Int} (k:K (dQ (Ms n)) h):A5 Tryz.prog 287 #[iQ n] h K:=by
 refine call287 ?_
 unfold F287
 unfold Ms at k
 refine A4 (λc=>?_) (λc=>?_)
 ·have e:decide (n<=1048576)=decide (1<=n/\n<=1048576):=by rw [decide_eq_decide];omega
  rw [e];exact k
 ·rw [decide_eq_false (by omega)] at k
  exact k
theorem RJ {n:Int}:Ms n=true↔1<=n/\n<=1048576:=by unfold Ms;rw [decide_eq_true_eq]
theorem JE {n:Int} (k:K (iQ (Bj n)) h):A5 Tryz.prog 301 #[iQ n] h K:=by
 refine call301 ?_
 unfold F301 cf
 refine A0 (Ge ?_)
 refine sb ?_
 unfold Bj at k
 refine C7 (λc=>?_) (λc=>?_)
 ·have c:Ms n=false:=by simpa using c
  rw [c] at k
  simpa using k
 ·have c:Ms n=true:=by simpa using c
  rw [c] at k
  obtain ⟨n1,n2⟩:=RJ.1 c
  have e:u64 n=((n.toNat:Nat):Int):=by unfold u64;omega
  refine A0 (call308 ?_)
  unfold F308 cf
  rw [e]
  refine A0 (VG (by omega) (by omega) ?_)
  refine sb ?_
  have hl:Nat.log2 n.toNat<=n.toNat:=Nat.log2_le_self _
  rw [show F5 (((n.toNat.log2+1:Nat):Int) - 1)=(n.toNat.log2:Int) by unfold F5;omega]
  simpa using k
theorem RK (n:Int):0<=Bj n/\Bj n<=20:=by
 unfold Bj
 split
 ·rename_i c
  obtain ⟨n1,n2⟩:=RJ.1 c
  have h0:n.toNat≠0:=by omega
  have:=(Nat.log2_lt h0 (k:=21)).2 (by omega)
  omega
 ·omega
theorem Fd {d:Int} (hd:iN d) (k:K (iQ (R6 d)) h):A5 Tryz.prog 216 #[iQ d] h K:=by
 refine call216 ?_
 unfold F216
 unfold R6 at k
 refine ⟨λvs h'=>vs = [dQ (decide (d < 1\/d > 20))]/\h' = h,?_,?_⟩
 ·refine A4 (λc=>⟨by rw [decide_eq_true (.inl c)],by trivial⟩) (λc=>⟨?_,by trivial⟩)
  congr 2
  rw [decide_eq_decide];omega
 rintro v1 g2 h3 ⟨e,rfl⟩
 cases e
 refine sb ?_
 refine A4 (λc=>?_) (λc=>?_)
 ·rw [if_pos c] at k;exact k
 ·rw [if_neg c] at k
  have e1:F5 (d - 1)=d - 1:=by unfold F5;omega
  rw [e1,show min (d - 1).toNat 64=(d - 1).toNat by omega,Int.one_mul]
  refine ⟨by omega,?_⟩
  have hp:(2:Int) ^ (d - 1).toNat<=2 ^ 19:=by
   have:=Nat.pow_le_pow_right (n:=2) (by omega) (show (d - 1).toNat<=19 by omega)
   exact_mod_cast this
  have hp0:(0:Int)<=2 ^ (d - 1).toNat:=by exact_mod_cast Nat.zero_le _
  rw [show F5 (2 ^ (d - 1).toNat)=2 ^ (d - 1).toNat by unfold F5;omega]
  exact k
theorem Pf (d:Int):0<=R6 d/\R6 d<=524288:=by
 unfold R6
 split
 ·omega
 ·rename_i c
  have hp:(2:Int) ^ (d - 1).toNat<=2 ^ 19:=by
   have:=Nat.pow_le_pow_right (n:=2) (by omega) (show (d - 1).toNat<=19 by omega)
   exact_mod_cast this
  have hp0:(0:Int)<=2 ^ (d - 1).toNat:=by exact_mod_cast Nat.zero_le _
  omega
theorem Im (a b:Int):FG a b=max a b:=by unfold FG;split <;> omega
theorem RM (a b:Int):GR a b=min a b:=by unfold GR;split <;> omega
theorem Lt {d w:Int} (hd:iN d) (k:K (iQ (Vj d w)) h):A5 Tryz.prog 213 #[iQ d,iQ w] h K:=by
 refine call213 ?_
 unfold F213 cf
 refine A0 (Fd hd ?_)
 refine sb ?_
 unfold Vj at k
 have hr:=Pf d
 refine A4 (λc=>?_) (λc=>?_)
 ·simp only [if_pos c] at k;exact k
 ·simp only [if_neg c] at k
  rw [Aw,Im]
  refine ⟨c,?_⟩
  rw [FS (by omega)]
  have h0:0<=max w 0 % R6 d:=Int.emod_nonneg _ c
  have h1:max w 0 % R6 d < R6 d:=Int.emod_lt_of_pos _ (by omega)
  have e:max (0:Int) w=max w 0:=Int.max_comm _ _
  try rw [e]
  rw [show F5 (R6 d+max w 0 % R6 d)=R6 d+max w 0 % R6 d by unfold F5;omega]
  exact k
theorem Sr6 {n l:Int} (hl:iN l) (k:K (iQ (SQ7 n l)) h):A5 Tryz.prog 282 #[iQ n,iQ l] h K:=by
 refine call282 ?_
 unfold F282 cf
 unfold SQ7 at k
 have hr:=RK n
 refine ⟨λvs h'=>(∃w,vs = [w,dQ (!Ms n || decide (l < 0) || decide (Bj n < l))])/\h' = h,?_,?_⟩
 ·refine A0 (Ge ?_)
  refine sb ?_
  refine C7 (λc=>?_) (λc=>?_)
  ·rw [c];exact ⟨_,rfl⟩
  ·rw [c]
   refine A4 (λc2=>?_) (λc2=>?_)
   ·rw [decide_eq_true c2];exact ⟨_,rfl⟩
   ·rw [decide_eq_false c2]
    refine A0 (JE ?_)
    refine sb ?_
    exact ⟨_,rfl⟩
 rintro v7 v8 g9 h10 ⟨⟨w,e⟩,rfl⟩
 cases e
 refine sb ?_
 refine C7 (λc=>?_) (λc=>?_)
 ·rw [if_pos c] at k;exact k
 ·rw [if_neg (by rw [c];simp)] at k
  refine A0 (JE ?_)
  refine sb ?_
  simp only [Bool.or_eq_false_iff,Bool.not_eq_false',decide_eq_false_iff_not] at c
  rw [show F5 (Bj n - l)=Bj n - l by unfold F5;omega]
  refine ⟨by omega,?_⟩
  rw [Bc (by exact_mod_cast Nat.zero_le _),show min (Bj n - l).toNat 64=(Bj n - l).toNat by omega]
  exact k
theorem RN {n d:Int} (hd:iN d) (k:K (dQ (OD n d)) h):A5 Tryz.prog 230 #[iQ n,iQ d] h K:=by
 refine call230 ?_
 unfold F230 cf
 refine A0 (Ge ?_)
 refine sb ?_
 unfold OD at k
 refine C7 (λc=>?_) (λc=>?_)
 ·rw [c,Bool.true_and] at k
  refine A0 (Fd hd ?_)
  refine sb ?_
  exact k
 ·rw [c,Bool.false_and] at k
  exact k
abbrev spV (s:Sp):Value:=.agg #[iQ s.lo,iQ s.hi]
theorem ZM {n:Int} (hn:iN n) (k:∀h',G4 h.size h h'->K (spV (Sp4 n)) h'):A5 Tryz.prog 218 #[iQ n] h K:=by
 refine call218 ?_
 unfold F218 Ou
 rw [Aw,Im]
 have p1:=J8 h #[iQ 0,iQ 0] 282
 generalize h.push (oQ #[iQ 0,iQ 0] 282)=h1 at *
 refine stR p1.new rfl trivial λh2 w2=>stR w2.new rfl trivial λh3 w3=>C5 w3.new rfl (C5 w3.new rfl ?_)
 rw [D8 (by omega) (by omega)]
 exact k h3 (w3.toOld (w2.toOld p1.toOld (Nat.le_refl _)) (Nat.le_refl _))
theorem Lu {s:Sp} (k:∀h',G4 h.size h h'->K (dQ s.done) h'):A5 Tryz.prog 221 #[spV s] h K:=by
 refine call221 ?_
 unfold F221 g221 lI
 have p1:=J8 h #[iQ s.lo,iQ s.hi] 282
 generalize h.push (oQ #[iQ s.lo,iQ s.hi] 282)=h1 at *
 refine C5 p1.new rfl ?_
 refine sb ?_
 refine C5 p1.new rfl ?_
 refine sb ?_
 exact k h1 p1.toOld
theorem Lw {n:Int} (k:K (iQ (Ih n)) h):A5 Tryz.prog 283 #[iQ n] h K:=by
 refine call283 ?_
 unfold F283
 rw [Aw,RM,Aw,Im]
 exact k
theorem In (n:Int):0<=Ih n/\Ih n<=1073741824:=by unfold Ih;omega
theorem Je {s:Sp} (k:∀h',G4 h.size h h'->K (iQ s.mid) h'):A5 Tryz.prog 223 #[spV s] h K:=by
 refine call223 ?_
 unfold F223 g223 cf ce lI
 have p1:=J8 h #[iQ s.lo,iQ s.hi] 282
 generalize h.push (oQ #[iQ s.lo,iQ s.hi] 282)=h1 at *
 refine C5 p1.new rfl ?_
 refine sb ?_
 refine C5 p1.new rfl ?_
 refine sb ?_
 refine A0 (Lw ?_)
 refine sb ?_
 refine ⟨E9 p1.new rfl,?_⟩
 refine A0 (Lw ?_)
 refine sb ?_
 have c1:=In s.lo
 have c2:=In s.hi
 refine ⟨by decide,?_⟩
 have e1:F5 (Ih s.lo+Ih s.hi)=Ih s.lo+Ih s.hi:=by unfold F5;omega
 rw [e1,Int.tdiv_eq_ediv_of_nonneg (by omega)]
 rw [show F5 ((Ih s.lo+Ih s.hi) / 2)=(Ih s.lo+Ih s.hi) / 2 by unfold F5;omega]
 exact k h1 p1.toOld
theorem Yk (s:Sp):0<=s.mid/\s.mid<=1073741824:=by
 have c1:=In s.lo
 have c2:=In s.hi
 unfold Sp.mid
 omega
theorem ZN {s:Sp} {b:Bool} (k:∀h',G4 h.size h h'->K (spV (s.cut b)) h'):A5 Tryz.prog 224 #[spV s,dQ b] h K:=by
 refine call224 ?_
 unfold F224 g224 cf ce Ou dw2
 have p1:=J8 h #[iQ s.lo,iQ s.hi] 282
 generalize h.push (oQ #[iQ s.lo,iQ s.hi] 282)=h1 at *
 have p2:=J8 h1 #[iQ 0,iQ 0] 282
 generalize h1.push (oQ #[iQ 0,iQ 0] 282)=h2 at *
 have hs:=p1.size
 have o2:G4 h.size h h2:=p1.toOld.trans (p2.toOld.mono (by omega))
 have e0:h2[h.size]? = some (oQ #[iQ s.lo,iQ s.hi] 282):=(p2.old _ (by omega)).trans p1.new
 refine C5 e0 rfl (C5 e0 rfl ?_)
 refine A0 (Lu λh3 o3=>?_)
 refine sb ?_
 have e3:h3[h.size]? = some (oQ #[iQ s.lo,iQ s.hi] 282):=(o3.2 _ (by have:=p2.size;omega)).trans e0
 have n3:h3[h1.size]? = some (oQ #[iQ 0,iQ 0] 282):=(o3.2 _ (by have:=p2.size;omega)).trans p2.new
 have o23:G4 h.size h h3:=o2.trans (o3.mono (by have:=p2.size;omega))
 unfold Sp.cut at k
 refine C7 (λc=>?_) (λc=>?_)
 ·rw [if_pos c] at k
  refine C5 e3 rfl (C5 e3 rfl ?_)
  refine stR n3 rfl trivial λh4 w4=>stR w4.new rfl trivial λh5 w5=>C5 w5.new rfl (C5 w5.new rfl ?_)
  exact k h5 (w5.toOld (w4.toOld o23 (by omega)) (by omega))
 ·rw [if_neg (by rw [c];simp)] at k
  cases b with
  | true=>
   simp only [G2,if_true] at k ⊢
   refine C5 e3 rfl ?_
   refine sb ?_
   refine C5 e3 rfl (C5 e3 rfl ?_)
   refine A0 (Je λh4 o4=>?_)
   refine sb ?_
   have e4:=(o4.2 _ (by have:=o3.1;have:=p2.size;omega)).trans e3
   have n4:=(o4.2 _ (by have:=o3.1;have:=p2.size;omega)).trans n3
   have o24:G4 h.size h h4:=o23.trans (o4.mono o23.1)
   refine ⟨E9 e4 rfl,?_⟩
   refine stR n4 rfl trivial λh5 w5=>stR w5.new rfl trivial λh6 w6=>C5 w6.new rfl (C5 w6.new rfl ?_)
   exact k h6 (w6.toOld (w5.toOld o24 (by omega)) (by omega))
  | false=>
   simp only [E2,Bool.false_eq_true,if_false] at k ⊢
   refine C5 e3 rfl (C5 e3 rfl (C5 e3 rfl ?_))
   refine sb ?_
   refine A0 (Je λh4 o4=>?_)
   refine sb ?_
   have e4:=(o4.2 _ (by have:=o3.1;have:=p2.size;omega)).trans e3
   have n4:=(o4.2 _ (by have:=o3.1;have:=p2.size;omega)).trans n3
   have o24:G4 h.size h h4:=o23.trans (o4.mono o23.1)
   have hm:=Yk s
   rw [show F5 (s.mid+1)=s.mid+1 by unfold F5;omega]
   refine ⟨E9 e4 rfl,?_⟩
   refine stR n4 rfl trivial λh5 w5=>stR w5.new rfl trivial λh6 w6=>C5 w6.new rfl (C5 w6.new rfl ?_)
   exact k h6 (w6.toOld (w5.toOld o24 (by omega)) (by omega))
end
end
end Go.Proofs.YtahpbclnkofhfaaGreat
