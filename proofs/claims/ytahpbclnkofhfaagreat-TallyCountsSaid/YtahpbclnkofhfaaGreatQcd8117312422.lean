/- Part 8 of what the proofs of this seat rest on: see the last text of the claim. -/
import Derived.Test.YtahpbclnkofhfaaGreatQ7aec82eec6bc
import Derived.Test.YtahpbclnkofhfaaGreatProg
set_option linter.unusedSimpArgs false
set_option linter.unusedVariables false
set_option linter.ambiguousOpen false
set_option maxRecDepth 20000
open Go.Proofs.Tryz (prog)
open Go.IntKind (wrap)
namespace Go.Proofs.YtahpbclnkofhfaaGreat
section
open Mod
abbrev fP (b o:Nat):vQ:=pQ (some ⟨b,o,none⟩)
def A1 (M T:Nat) (tv:vQ) (fo:Option (Nat × Nat)) (x:B9) (R:Hp):Hp:=M9 M tv x.m*(M7 T fo x.t x.id*R)
theorem E9 {h:A2} {a:Addr} {v:vQ} {o:Obj} (e:A3 h a=some v):A3 (h.push o) a=some v:=(T5 (W5 _ _ _ (BS e))).trans e
section
variable {K:kQ} {h:A2} {M T b o N:Nat} {tv:vQ} {fo:Option (Nat × Nat)} {x:B9} {R:Hp}
theorem A1.thr (H:A9 h (A1 M T tv fo x R)):A9 h (M7 T fo x.t x.id*(M9 M tv x.m*R)):=D8 _ _ _ ▸ (show A9 h (M9 M tv x.m*(M7 T fo x.t x.id*R)) from H)
theorem A1.ofThr {t:Thr} {m:Mac} {id:Int} (H:A9 h (M7 T fo t id*(M9 M tv m*R))):A9 h (A1 M T tv fo ⟨m,t,id⟩ R):=by
 rw [D8] at H;exact H
theorem A1.none (H:A9 h (A1 M T tv fo x R)):A9 h (A1 M T tv none x R):=A1.ofThr (Qm (A1.thr H))
theorem A1.B (H:A9 h (A1 M T tv fo x R)):ThB x.t:=RP (A1.thr H)
theorem A1.pl (H:A9 h (A1 M T tv fo x R)):Ow x.m.p:=Sg5 H
theorem A1.fB (H:A9 h (A1 M T tv (some (b,o)) x R)):FrB x.f:=(A1.B H).fr _ (S25 (JW (A1.thr H)))
theorem A1.old {h':A2} (H:A9 h (A1 M T tv fo x R)) (ol:G9 h.size h h'):A9 h' (A1 M T tv fo x R):=A9.old H ol
theorem A1.new (H:A9 h (A1 M T tv fo x R)) (ob:Obj) (ho:Nd ob:=by intro x e;cases e):A9 (h.push ob) (A1 M T tv fo x (pt h.size ob*R)):=
 A9.ac (A9.push H ob ho) (by unfold A1;ac_rfl)
theorem A1.loc {ob:Obj} (H:A9 h (A1 M T tv fo x (pt N ob*R))):h[N]? = some ob:=A9.at3 H
theorem A1.loc2 {ob:Obj} {Q:Hp} (H:A9 h (A1 M T tv fo x (Q*(pt N ob*R)))):h[N]? = some ob:=A9.at (A9.drop (A9.drop (A9.drop H)))
theorem A1.drp {Q:Hp} (H:A9 h (A1 M T tv fo x (Q*R))):A9 h (A1 M T tv fo x R):=A9.drop2 (A9.ac H (by unfold A1;ac_rfl):A9 h (M9 M tv x.m*(Q*(M7 T fo x.t x.id*R))))
theorem A1.rd (H:A9 h (A1 M T tv (some (b,o)) x R)) {j:Nat} {v:vQ} (e:(Dk x.f)[j]? = some v):A3 h ⟨b,o+j,Option.none⟩=some v:=Sp6 (A1.thr H) e
theorem A1.fn (H:A9 h (A1 M T tv (some (b,o)) x R)) {F:vQ->Prop}:D2 h ⟨b,o,Option.none⟩ F=F (iQ x.f.fn):=by have e:=A1.rd (j:=0) H rfl;rw [Lc] at e;unfold D2;rw [e]
theorem A1.pc (H:A9 h (A1 M T tv (some (b,o)) x R)) {F:vQ->Prop}:D2 h ⟨b,o+1,Option.none⟩ F=F (iQ x.f.pc):=by unfold D2;rw [A1.rd (j:=1) H rfl]
theorem A1.rgc (H:A9 h (A1 M T tv (some (b,o)) x R)) {i:Nat} (hi:Nat.ble (i+1) 10=true):A3 h ⟨b,o+(i+2),Option.none⟩=some (uQ (x.f.g i)):=by
 have hi:i < 10:=by rw [Ld] at hi;omega
 refine A1.rd H ?_
 match i,hi with
 | 0,_=>rfl
 | 1,_=>rfl
 | 2,_=>rfl
 | 3,_=>rfl
 | 4,_=>rfl
 | 5,_=>rfl
 | 6,_=>rfl
 | 7,_=>rfl
 | 8,_=>rfl
 | 9,_=>rfl
theorem A1.rg (H:A9 h (A1 M T tv (some (b,o)) x R)) {i:Nat} {F:vQ->Prop} (hi:Nat.ble (i+1) 10=true):D2 h ⟨b,o+(i+2),Option.none⟩ F=F (uQ (x.f.g i)):=by unfold D2;rw [A1.rgc H hi]
theorem A1.r (H:A9 h (A1 M T tv (some (b,o)) x R)):(∀F:vQ->Prop,D2 h ⟨b,o,Option.none⟩ F=F (iQ x.f.fn))/\(∀F:vQ->Prop,D2 h ⟨b,o+1,Option.none⟩ F=F (iQ x.f.pc))/\(∀F:vQ->Prop,D2 h ⟨b,o+2,Option.none⟩ F=F (uQ (x.f.g 0)))/\(∀F:vQ->Prop,D2 h ⟨b,o+3,Option.none⟩ F=F (uQ (x.f.g 1)))/\(∀F:vQ->Prop,D2 h ⟨b,o+4,Option.none⟩ F=F (uQ (x.f.g 2)))/\(∀F:vQ->Prop,D2 h ⟨b,o+5,Option.none⟩ F=F (uQ (x.f.g 3)))/\(∀F:vQ->Prop,D2 h ⟨b,o+6,Option.none⟩ F=F (uQ (x.f.g 4)))/\(∀F:vQ->Prop,D2 h ⟨b,o+7,Option.none⟩ F=F (uQ (x.f.g 5)))/\(∀F:vQ->Prop,D2 h ⟨b,o+8,Option.none⟩ F=F (uQ (x.f.g 6)))/\(∀F:vQ->Prop,D2 h ⟨b,o+9,Option.none⟩ F=F (uQ (x.f.g 7)))/\(∀F:vQ->Prop,D2 h ⟨b,o+10,Option.none⟩ F=F (uQ (x.f.g 8)))/\(∀F:vQ->Prop,D2 h ⟨b,o+11,Option.none⟩ F=F (uQ (x.f.g 9))):=
 ⟨λF=>A1.fn H,λF=>A1.pc H,λF=>A1.rg (i:=0) H rfl,λF=>A1.rg (i:=1) H rfl,λF=>A1.rg (i:=2) H rfl,λF=>A1.rg (i:=3) H rfl,λF=>A1.rg (i:=4) H rfl,λF=>A1.rg (i:=5) H rfl,λF=>A1.rg (i:=6) H rfl,λF=>A1.rg (i:=7) H rfl,λF=>A1.rg (i:=8) H rfl,λF=>A1.rg (i:=9) H rfl⟩
theorem A1.c (H:A9 h (A1 M T tv (some (b,o)) x R)):A3 h ⟨b,o+1,Option.none⟩=some (iQ x.f.pc)/\A3 h ⟨b,o+2,Option.none⟩=some (uQ (x.f.g 0))/\A3 h ⟨b,o+3,Option.none⟩=some (uQ (x.f.g 1))/\A3 h ⟨b,o+4,Option.none⟩=some (uQ (x.f.g 2))/\A3 h ⟨b,o+5,Option.none⟩=some (uQ (x.f.g 3))/\A3 h ⟨b,o+6,Option.none⟩=some (uQ (x.f.g 4))/\A3 h ⟨b,o+7,Option.none⟩=some (uQ (x.f.g 5))/\A3 h ⟨b,o+8,Option.none⟩=some (uQ (x.f.g 6))/\A3 h ⟨b,o+9,Option.none⟩=some (uQ (x.f.g 7))/\A3 h ⟨b,o+10,Option.none⟩=some (uQ (x.f.g 8))/\A3 h ⟨b,o+11,Option.none⟩=some (uQ (x.f.g 9)):=
 ⟨A1.rd (j:=1) H rfl,A1.rgc (i:=0) H rfl,A1.rgc (i:=1) H rfl,A1.rgc (i:=2) H rfl,A1.rgc (i:=3) H rfl,A1.rgc (i:=4) H rfl,A1.rgc (i:=5) H rfl,A1.rgc (i:=6) H rfl,A1.rgc (i:=7) H rfl,A1.rgc (i:=8) H rfl,A1.rgc (i:=9) H rfl⟩
theorem A1.cp (H:A9 h (A1 M T tv (some (b,o)) x R)):(∀ob,A3 (h.push ob) ⟨b,o+1,Option.none⟩=some (iQ x.f.pc))/\(∀ob,A3 (h.push ob) ⟨b,o+2,Option.none⟩=some (uQ (x.f.g 0)))/\(∀ob,A3 (h.push ob) ⟨b,o+3,Option.none⟩=some (uQ (x.f.g 1)))/\(∀ob,A3 (h.push ob) ⟨b,o+4,Option.none⟩=some (uQ (x.f.g 2)))/\(∀ob,A3 (h.push ob) ⟨b,o+5,Option.none⟩=some (uQ (x.f.g 3)))/\(∀ob,A3 (h.push ob) ⟨b,o+6,Option.none⟩=some (uQ (x.f.g 4)))/\(∀ob,A3 (h.push ob) ⟨b,o+7,Option.none⟩=some (uQ (x.f.g 5)))/\(∀ob,A3 (h.push ob) ⟨b,o+8,Option.none⟩=some (uQ (x.f.g 6)))/\(∀ob,A3 (h.push ob) ⟨b,o+9,Option.none⟩=some (uQ (x.f.g 7)))/\(∀ob,A3 (h.push ob) ⟨b,o+10,Option.none⟩=some (uQ (x.f.g 8)))/\(∀ob,A3 (h.push ob) ⟨b,o+11,Option.none⟩=some (uQ (x.f.g 9))):=
 ⟨λ_=>E9 (A1.rd (j:=1) H rfl),λ_=>E9 (A1.rgc (i:=0) H rfl),λ_=>E9 (A1.rgc (i:=1) H rfl),λ_=>E9 (A1.rgc (i:=2) H rfl),λ_=>E9 (A1.rgc (i:=3) H rfl),λ_=>E9 (A1.rgc (i:=4) H rfl),λ_=>E9 (A1.rgc (i:=5) H rfl),λ_=>E9 (A1.rgc (i:=6) H rfl),λ_=>E9 (A1.rgc (i:=7) H rfl),λ_=>E9 (A1.rgc (i:=8) H rfl),λ_=>E9 (A1.rgc (i:=9) H rfl)⟩
theorem A1.stR (H:A9 h (A1 M T tv (some (b,o)) x R)) {i:Nat} {v:Int} {F:A2->Prop} (hi:Nat.ble (i+1) 10=true) (hv:U v) (k:∀h',A9 h' (A1 M T tv (some (b,o)) (x.s i v) R)->F h'):C7 h ⟨b,o+(i+2),Option.none⟩ (uQ v) F:=by
 have hi:i < 10:=by rw [Ld] at hi;omega
 have B:=A1.fB H
 exact Sg7 (A1.thr H) (by omega) trivial (by rw [Nat.add_comm];exact Ti3 B.len hi v) (B.s i hv) λh' H'=>k h' (A1.ofThr H')
theorem A1.stP (H:A9 h (A1 M T tv (some (b,o)) x R)) {pc:Int} {F:A2->Prop} (k:∀h',A9 h' (A1 M T tv (some (b,o)) (x.pc pc) R)->F h'):C7 h ⟨b,o+1,Option.none⟩ (iQ pc) F:=
 Sg7 (A1.thr H) (by omega) trivial (Td7 _ _) ((A1.fB H).at pc) λh' H'=>k h' (A1.ofThr H')
theorem A1.l {ty:TypeId} {v0 v1 v2:vQ} (H:A9 h (A1 M T tv fo x (pt N (oQ #[v0,v1,v2] ty)*R))):(∀F:vQ->Prop,D2 h ⟨N,0,Option.none⟩ F=F v0)/\(∀F:vQ->Prop,D2 h ⟨N,1,Option.none⟩ F=F v1)/\(∀F:vQ->Prop,D2 h ⟨N,2,Option.none⟩ F=F v2)/\A3 h ⟨N,0,Option.none⟩=some v0/\A3 h ⟨N,1,Option.none⟩=some v1/\A3 h ⟨N,2,Option.none⟩=some v2/\(∀ob,A3 (h.push ob) ⟨N,0,Option.none⟩=some v0)/\(∀ob,A3 (h.push ob) ⟨N,1,Option.none⟩=some v1)/\(∀ob,A3 (h.push ob) ⟨N,2,Option.none⟩=some v2):=by
 have e:=A1.loc H
 have c0:A3 h ⟨N,0,Option.none⟩=some v0:=E5 e 0
 have c1:A3 h ⟨N,1,Option.none⟩=some v1:=E5 e 1
 have c2:A3 h ⟨N,2,Option.none⟩=some v2:=E5 e 2
 refine ⟨λF=>?_,λF=>?_,λF=>?_,c0,c1,c2,λ_=>E9 c0,λ_=>E9 c1,λ_=>E9 c2⟩
 ·unfold D2;rw [c0]
 ·unfold D2;rw [c1]
 ·unfold D2;rw [c2]
theorem A1.l2 {Q:Hp} {ty:TypeId} {v0 v1 v2:vQ} (H:A9 h (A1 M T tv fo x (Q*(pt N (oQ #[v0,v1,v2] ty)*R)))):(∀F:vQ->Prop,D2 h ⟨N,0,Option.none⟩ F=F v0)/\(∀F:vQ->Prop,D2 h ⟨N,1,Option.none⟩ F=F v1)/\(∀F:vQ->Prop,D2 h ⟨N,2,Option.none⟩ F=F v2)/\A3 h ⟨N,0,Option.none⟩=some v0/\A3 h ⟨N,1,Option.none⟩=some v1/\A3 h ⟨N,2,Option.none⟩=some v2/\(∀ob,A3 (h.push ob) ⟨N,0,Option.none⟩=some v0)/\(∀ob,A3 (h.push ob) ⟨N,1,Option.none⟩=some v1)/\(∀ob,A3 (h.push ob) ⟨N,2,Option.none⟩=some v2):=by
 have e:=A1.loc2 H
 have c0:A3 h ⟨N,0,Option.none⟩=some v0:=E5 e 0
 have c1:A3 h ⟨N,1,Option.none⟩=some v1:=E5 e 1
 have c2:A3 h ⟨N,2,Option.none⟩=some v2:=E5 e 2
 refine ⟨λF=>?_,λF=>?_,λF=>?_,c0,c1,c2,λ_=>E9 c0,λ_=>E9 c1,λ_=>E9 c2⟩
 ·unfold D2;rw [c0]
 ·unfold D2;rw [c1]
 ·unfold D2;rw [c2]
theorem M5 (H:A9 h (A1 M T tv fo x R)) {a:Int} (ha:iN a) (hs:x.m.mm.st < 1099511627776) (k:∀h',A9 h' (A1 M T tv fo (x.load a).2 R)->U (x.load a).1->K (uQ (x.load a).1) h') :
 A4 prog 147 #[mP M,iQ a] h K:=Ny H ha hs k
theorem U7 (H:A9 h (A1 M T tv fo x R)) {a v:Int} (ha:iN a) (hv:U v) (hs:x.m.mm.st < 1099511627776) (k:∀h',A9 h' (A1 M T tv fo (x.store a v) R)->K tQ h') :
 A4 prog 212 #[mP M,iQ a,uQ v] h K:=UC H ha hv hs k
theorem UH (H:A9 h (A1 M T tv fo x R)) {a p n:Int} (ha:iN a) (hn:U n) (hs:x.m.mm.st < 1099511627776) (k:∀h',A9 h' (A1 M T tv fo (x.cas a p n).2 R)->K (dQ (x.cas a p n).1) h') :
 A4 prog 219 #[mP M,iQ a,uQ p,uQ n] h K:=Sp2 H ha hn hs k
theorem S27 (H:A9 h (A1 M T tv fo x R)) {a d:Int} (ha:iN a) (hs:x.m.mm.st < 1099511627776) (k:∀h',A9 h' (A1 M T tv fo (x.add a d).2 R)->U (x.add a d).1->K (uQ (x.add a d).1) h') :
 A4 prog 188 #[mP M,iQ a,uQ d] h K:=Sp3 H ha hs k
theorem Ti4 (H:A9 h (A1 M T tv fo x R)) {a p n a2 p2:Int} (ha:iN a) (ha2:iN a2) (hn:U n) (hs:x.m.mm.st < 1099511627776) (k:∀h',A9 h' (A1 M T tv fo { x with m:=(x.m.dcss a p n a2 p2).2 } R)->K (dQ (x.m.dcss a p n a2 p2).1) h') :
 A4 prog 227 #[mP M,iQ a,uQ p,uQ n,iQ a2,uQ p2] h K:=YD H ha ha2 hn hs k
theorem Ti5 (H:A9 h (A1 M T tv fo x R)) {a p n a2 p2 n2:Int} (ha:iN a) (ha2:iN a2) (hn:U n) (hn2:U n2) (hs:x.m.mm.st < 1099511627776) (k:∀h',A9 h' (A1 M T tv fo { x with m:=(x.m.dcas a p n a2 p2 n2).2 } R)->K (dQ (x.m.dcas a p n a2 p2 n2).1) h') :
 A4 prog 229 #[mP M,iQ a,uQ p,uQ n,iQ a2,uQ p2,uQ n2] h K:=YE H ha ha2 hn hn2 hs k
theorem Fh (H:A9 h (A1 M T tv fo x R)) (k:∀h',A9 h' (A1 M T tv fo x R)->K (Pc x.m.p) h') :
 A4 prog 79 #[mP M] h K:=UD H k
theorem Bw (H:A9 h (A1 M T tv fo x R)) (k:∀h',G9 h.size h h'->K (Pc x.m.p) h') :
 A4 prog 79 #[mP M] h K:=Gp H k
theorem Ti6 (H:A9 h (A1 M T tv fo x R)) {i:Int} (hi:iN i) (k:∀h',A9 h' (A1 M T tv fo (x.gh λg=>g.turn i 0 1 1) R)->K tQ h') :
 A4 prog 294 #[mP M,iQ i] h K:=Sp4 H hi k
theorem Ti7 (H:A9 h (A1 M T tv fo x R)) {i:Int} (hi:iN i) (k:∀h',A9 h' (A1 M T tv fo (x.gh λg=>g.turn i 1 2 2) R)->K tQ h') :
 A4 prog 234 #[mP M,iQ i] h K:=Sp5 H hi k
theorem Te0 (H:A9 h (A1 M T tv fo x R)) {i:Int} (hi:iN i) (k:∀h',A9 h' (A1 M T tv fo (x.gh λg=>g.turn i 2 0 3) R)->K tQ h') :
 A4 prog 295 #[mP M,iQ i] h K:=YF H hi k
theorem RQ (H:A9 h (A1 M T tv fo x R)) (k0:x.t.fr = []->K (pQ Option.none) h)
 (k:∀b o,x.t.fr≠[]->(∀b' o',fo=some (b',o')->b=b'/\o=o')->A9 h (A1 M T tv (some (b,o)) x R)->K (fP b o) h) :
 A4 prog 105 #[mP T] h K:=SL2 (A1.thr H) k0 λb o h1 h2 H'=>k b o h1 h2 (A1.ofThr H')
theorem UI (H:A9 h (A1 M T tv fo x R)) {fn:Int} {a:rQ} {l c:Nat} {rs:List Int} (A:As R a l c rs) (hl:l<=10) (hd:x.t.fr.length < 1073741824)
 (k:∀h' b o,(∀b' o',fo=some (b',o')->¬ (b=b'/\o=o'))->GM h' fo x.f->A9 h' (A1 M T tv (some (b,o)) (x.push fn rs) R)->K tQ h') :
 A4 prog 130 #[mP T,iQ fn,lQ a l c] h K:=Sp7 (A1.thr H) A.skip hl hd λh' b o h1 h2 H'=>k h' b o h1 h2 (A1.ofThr H')
theorem Pg (H:A9 h (A1 M T tv fo x R)) {a:rQ} {l c:Nat} {rs:List Int} (A:As R a l c rs) (hl:l<=3) (k:∀h',A9 h' (A1 M T tv Option.none (x.pop rs) R)->K tQ h') :
 A4 prog 106 #[mP T,lQ a l c] h K:=SL5 (A1.thr H) A.skip hl λh' H'=>k h' (A1.ofThr H')
theorem YH (H:A9 h (A1 M T tv fo x R)) {fn:Int} {l:Nat} (rs:List Int) {ty:TypeId} (hr:rs.length=l) (hu:∀v ∈ rs,U v) (hl:l<=10) (hd:x.t.fr.length < 1073741824)
  (k:∀h' b o,(∀b' o',fo=some (b',o')->¬ (b=b'/\o=o'))->GM h' fo x.f->A9 h' (A1 M T tv (some (b,o)) (x.push fn rs) R)->K tQ h') :
  A4 prog 130 #[mP T,iQ fn,lQ (some ⟨h.size,0,Option.none⟩) l l] (h.push (oQ (V7 rs).toArray ty)) K:=
 UI (A1.new H (oQ (V7 rs).toArray ty)) (As.mk' hr hu) hl hd λh' b o h1 h2 H'=>k h' b o h1 h2 (A1.drp H')
theorem Qo (H:A9 h (A1 M T tv fo x R)) {l:Nat} (rs:List Int) {ty:TypeId} (hr:rs.length=l) (hu:∀v ∈ rs,U v) (hl:l<=3) (k:∀h',A9 h' (A1 M T tv Option.none (x.pop rs) R)->K tQ h') :
  A4 prog 106 #[mP T,lQ (some ⟨h.size,0,Option.none⟩) l l] (h.push (oQ (V7 rs).toArray ty)) K:=
 Pg (A1.new H (oQ (V7 rs).toArray ty)) (As.mk' hr hu) hl λh' H'=>k h' (A1.drp H')
end
theorem AK (x:B9) (i:Nat) (v:Int):(x.s i v).t.fr.length<=x.t.fr.length+1:=by
 show (x.t.fr.dropLast ++ [_]).length<=_
 simp
theorem Fx (x:B9) (pc:Int):(x.pc pc).t.fr.length<=x.t.fr.length+1:=by
 show (x.t.fr.dropLast ++ [_]).length<=_
 simp
theorem Jn (x:B9) (f:N6):(x.setF f).f=f:=by unfold B9.setF B9.f Thr.setTop Thr.top;simp
theorem Dw (x:B9) (i:Nat) (v:Int):(x.s i v).f=x.f.s i v:=Jn _ _
theorem Bx (x:B9) (pc:Int):(x.pc pc).f=x.f.at pc:=Jn _ _
theorem Dx (f:N6) (pc:Int) (i:Nat):(f.at pc).g i=f.g i:=rfl
theorem Cx (f:N6) (pc:Int):(f.at pc).pc=pc:=rfl
theorem AL (f:N6) (pc:Int):(f.at pc).fn=f.fn:=rfl
theorem KP (f:N6) (i:Nat) (v:Int):(f.s i v).pc=f.pc:=rfl
theorem Er (f:N6) (i:Nat) (v:Int):(f.s i v).fn=f.fn:=rfl
theorem S81 (f:N6) (i:Nat) (v:Int):(f.s i v).r.length=f.r.length:=by unfold N6.s;rw [Ca]
theorem SL6 (f:N6) (pc:Int):(f.at pc).r.length=f.r.length:=rfl
theorem L9 (f:N6) {i j:Nat} (h:i≠j) (v:Int):(f.s i v).g j=f.g j:=by
 unfold N6.s N6.g
 simp only [An]
 rw [SE0 h]
theorem Ht {f:N6} {i:Nat} (hl:f.r.length=10) (hi:i < 10) (v:Int):(f.s i v).g i=v:=by
 unfold N6.s N6.g
 simp only [An]
 rw [List.getElem?_set_self (by omega)]
 rfl
theorem Z4 (x:B9) (a:Int):(x.load a).2.f=x.f:=rfl
theorem AM (x:B9) (a v:Int):(x.store a v).f=x.f:=rfl
theorem Fi (x:B9) (a p n:Int):(x.cas a p n).2.f=x.f:=rfl
theorem Fj (x:B9) (a d:Int):(x.add a d).2.f=x.f:=rfl
theorem JX (x:B9) (g:Gh->Gh):(x.gh g).f=x.f:=rfl
theorem t_load (x:B9) (a:Int):(x.load a).2.t=x.t:=rfl
theorem t_store (x:B9) (a v:Int):(x.store a v).t=x.t:=rfl
theorem t_cas (x:B9) (a p n:Int):(x.cas a p n).2.t=x.t:=rfl
theorem t_add (x:B9) (a d:Int):(x.add a d).2.t=x.t:=rfl
theorem S82 (x:B9) (i:Nat) (v:Int) (j:Nat):(x.s i v).ret j=x.ret j:=rfl
theorem SL7 (x:B9) (pc:Int) (j:Nat):(x.pc pc).ret j=x.ret j:=rfl
theorem UJ (x:B9) (a:Int) (j:Nat):(x.load a).2.ret j=x.ret j:=rfl
theorem Qp (x:B9) (a v:Int) (j:Nat):(x.store a v).ret j=x.ret j:=rfl
theorem Sh0 (x:B9) (a p n:Int) (j:Nat):(x.cas a p n).2.ret j=x.ret j:=rfl
theorem T9 (n:Int):iN (G2 n):=by unfold G2;split <;> constructor <;> omega
theorem Hu (w:Int):0<=J5 w/\J5 w < 65536:=⟨by unfold J5;omega,by unfold J5;omega⟩
theorem Mx (w:Int):iN (J5 w):=by have:=Hu w;constructor <;> omega
theorem U8 (w:Int):U (J5 w):=by have:=Hu w;constructor <;> omega
theorem NE (w:Int):u64 (J5 w)=J5 w:=by have:=Hu w;unfold u64;omega
theorem RR (n:Int):u64 (G2 n)=u64 n:=by unfold G2 u64;split <;> omega
theorem U.u64 {n:Int} (h:U n):Mod.u64 n=n:=by unfold Mod.u64;have:=h.1;have:=h.2;omega
theorem U.lit {n:Int} (h:decide (0<=n/\n < 18446744073709551616)=true):U n:=(SE4 h:0<=n/\n < 18446744073709551616)
theorem UK (n:Int):wrap .u64 n=Mod.u64 n:=KN n
theorem By {p:Pl} {F:vQ->vQ->vQ->vQ->vQ->vQ->vQ->vQ->vQ->vQ->vQ->vQ->vQ->vQ->vQ->Prop} (k:F (iQ p.c.algo) (iQ p.c.threads) (iQ p.c.nodes) (iQ p.c.level) (iQ p.c.batch) (iQ p.c.probes) (iQ p.c.scan) (iQ p.slots) (iQ p.width) (iQ p.sent) (iQ p.hazards) (iQ p.links) (iQ p.nodes) (iQ p.tree) (iQ p.size)) :
 asAgg (Pc p) λvs=>G3 vs 15 (D9 vs 0 λv0=>D9 vs 1 λv1=>D9 vs 2 λv2=>D9 vs 3 λv3=>D9 vs 4 λv4=>D9 vs 5 λv5=>D9 vs 6 λv6=>D9 vs 7 λv7=>D9 vs 8 λv8=>D9 vs 9 λv9=>D9 vs 10 λv10=>D9 vs 11 λv11=>D9 vs 12 λv12=>D9 vs 13 λv13=>D9 vs 14 λv14=>F v0 v1 v2 v3 v4 v5 v6 v7 v8 v9 v10 v11 v12 v13 v14):=k
theorem Sh1 {p:Pl} (B:Ow p) (n:Int):iN (p.link n):=by
 have:=B.li
 unfold Pl.link
 split
 ·have:=B.no;constructor <;> omega
 ·constructor <;> omega
theorem X6 {v:Int} (h:U v):∀u ∈ [v],U u:=λu hu=>by rw [Fq.1 hu];exact h
theorem GN:type_of% (J9 @D0 (J9 @M3 (J9 @A5 (J9 @Db (J9 @C0 (J9 @D6 (J9 @M4 (J9 @X8 (J9 @E2 (J9 @Nat.zero_add (J9 @Nat.mul_one (J9 @Nat.add_assoc (J9 @Int.toNat_natCast (J9 @true_and (J9 @and_true (J9 (@Option.isNone_some Addr) (J9 (@Option.isNone_none Addr) (J9 @Bool.not_false (J9 @Bool.not_true (J9 @G6 (J9 @E7 (J9 @Hn (J9 @UK (J9 @NE @RR)))))))))))))))))))))))):=J9 @D0 (J9 @M3 (J9 @A5 (J9 @Db (J9 @C0 (J9 @D6 (J9 @M4 (J9 @X8 (J9 @E2 (J9 @Nat.zero_add (J9 @Nat.mul_one (J9 @Nat.add_assoc (J9 @Int.toNat_natCast (J9 @true_and (J9 @and_true (J9 (@Option.isNone_some Addr) (J9 (@Option.isNone_none Addr) (J9 @Bool.not_false (J9 @Bool.not_true (J9 @G6 (J9 @E7 (J9 @Hn (J9 @UK (J9 @NE @RR)))))))))))))))))))))))
theorem Ox:type_of% (J9 @S82 (J9 @SL7 (J9 @UJ (J9 @Qp (J9 @Sh0 (J9 @Bx (J9 @Dw (J9 @Z4 (J9 @AM (J9 @Fi (J9 @Fj (J9 @JX (J9 @t_load (J9 @t_store (J9 @t_cas (J9 @t_add (J9 @Dx (J9 @Cx (J9 @AL (J9 @KP (J9 @Er (J9 @S81 @SL6)))))))))))))))))))))):=J9 @S82 (J9 @SL7 (J9 @UJ (J9 @Qp (J9 @Sh0 (J9 @Bx (J9 @Dw (J9 @Z4 (J9 @AM (J9 @Fi (J9 @Fj (J9 @JX (J9 @t_load (J9 @t_store (J9 @t_cas (J9 @t_add (J9 @Dx (J9 @Cx (J9 @AL (J9 @KP (J9 @Er (J9 @S81 @SL6)))))))))))))))))))))
end
section
set_option maxRecDepth 100000
variable {K:kQ} {h:A2}
def F111 (K:kQ) (h:A2) (xa xb:rQ):Prop:=
 (cf 105 #[pQ xb] h λa b=>C9 a λa=>R3 λI3=>(D4 (Option.isNone a) (I3 [dQ true,dQ true] b) (I3 [dQ (Option.isNone xa),dQ (Option.isNone xa)] b))/\(∀(b c:vQ) (d:G4) (d:A2),(I3 [b,c] d)->(asBool b λb=>D4 b (K tQ d) (nP a λb=>lI .i64 d b λb=>D4 (b == 3) (cf 161 #[pQ xa,pQ xb,pQ a] d λb b=>K tQ b) (nP a λb=>lI .i64 d b λb=>D4 (b == 4) (cf 162 #[pQ xa,pQ xb,pQ a] d λb b=>K tQ b) (nP a λb=>lI .i64 d b λb=>D4 (b == 5) (cf 163 #[pQ xa,pQ xb,pQ a] d λb b=>K tQ b) (nP a λb=>lI .i64 d b λb=>D4 (b == 6) (cf 164 #[pQ xa,pQ xb,pQ a] d λa a=>K tQ a) (cf 165 #[pQ xa,pQ xb] d λa a=>K tQ a))))))))
theorem call111 {xa xb:rQ} (H:F111 K h xa xb):A4 prog 111 #[(pQ xa),(pQ xb)] h K:=
 cQ Tryz.func111 H
def F161 (K:kQ) (h:A2) (xa xb xc:rQ):Prop:=
 (nP xc λa=>bd 1 10 (lI .u64 h (a.add 3) λa=>nP xc λb=>lI .i64 h (b.add 1) λb=>D4 (b == 0) (nP xc λc=>cf 147 #[pQ xa,iQ (wrap .i64 a)] h λd e=>asInt .u64 d λd=>bd 2 10 (C7 e (c.add 4) (uQ d) λc=>nP xc λd=>C7 c (d.add 1) (iQ 1) λc=>nP xc λd=>bd 2 10 (lI .u64 c (d.add 4) λd=>cf 231 #[uQ d] c λc d=>asInt .u64 c λc=>D4 (c == 0) (nP xc λc=>bd 2 10 (lI .u64 d (c.add 4) λc=>cf 106 #[pQ xb,lQ (some (aQ d.size)) 1 1] (d.push (oQ #[uQ c] 178)) λc c=>K tQ c)) (K tQ d)))) (D4 (b == 1) (nP xb λb=>D2 h b λc=>asInt .i64 c λd=>nP xc λe=>bd 0 10 (D2 h (e.add 2) λf=>asInt .u64 f λg=>nP xc λi=>bd 2 10 (D2 h (i.add 4) λj=>asInt .u64 j λk=>cf 79 #[pQ xa] h λl m=>asAgg l λl=>G3 l 15 (O8 l λl n o p q r s t u v w x y z A=>((A3 m (i.add 4))=(some j))/\(((A3 m (e.add 2))=(some f))/\(((A3 m b)=(some c))/\(cf 232 #[.agg #[l,n,o,p,q,r,s,t,u,v,w,x,y,z,A],iQ d,iQ (wrap .i64 g)] m λb c=>asInt .i64 b λb=>((A3 c (i.add 4))=(some j))/\(cf 231 #[uQ k] c λc d=>asInt .u64 c λc=>cf 212 #[pQ xa,iQ b,uQ c] d λb b=>nP xc λc=>C7 b (c.add 1) (iQ 2) λb=>K tQ b)))))))) (cf 147 #[pQ xa,iQ (wrap .i64 a)] h λa b=>asInt .u64 a λa=>R3 λI64=>(nP xc λc=>bd 2 10 (lI .u64 b (c.add 4) λc=>D4 (a == c) (I64 [dQ true] b) (cf 231 #[uQ a] b λb c=>asInt .u64 b λb=>I64 [dQ (b == 0)] c)))/\(∀(b:vQ) (c:G4) (c:A2),(I64 [b] c)->(asBool b λb=>D4 b (cf 106 #[pQ xb,lQ (some (aQ c.size)) 1 1] (c.push (oQ #[uQ a] 178)) λb b=>K tQ b) (nP xc λb=>bd 2 10 (C7 c (b.add 4) (uQ a) λa=>nP xc λb=>C7 a (b.add 1) (iQ 1) λa=>K tQ a))))))))
theorem call161 {xa xb xc:rQ} (H:F161 K h xa xb xc):A4 prog 161 #[(pQ xa),(pQ xb),(pQ xc)] h K:=
 cQ Tryz.func161 H
def F162 (K:kQ) (h:A2) (xa xb xc:rQ):Prop:=
 (nP xc λa=>D2 h (a.add 1) λb=>asInt .i64 b λc=>cf 79 #[pQ xa] h λd e=>asAgg d λd=>G3 d 15 (O8 d λd f g i j k l m n o p q r s t=>((A3 e (a.add 1))=(some b))/\(cf 233 #[.agg #[d,f,g,i,j,k,l,m,n,o,p,q,r,s,t]] e λd e=>asInt .i64 d λd=>((A3 e (a.add 1))=(some b))/\(D4 (decide (c >= d)) (cf 106 #[pQ xb,lQ none 0 0] e λa a=>K tQ a) (nP xb λa=>D2 e a λb=>asInt .i64 b λc=>nP xc λd=>D2 e (d.add 1) λf=>asInt .i64 f λg=>cf 79 #[pQ xa] e λe i=>asAgg e λe=>G3 e 15 (O8 e λe j k l m n o p q r s t u v w=>((A3 i (d.add 1))=(some f))/\(((A3 i a)=(some b))/\(cf 232 #[.agg #[e,j,k,l,m,n,o,p,q,r,s,t,u,v,w],iQ c,iQ g] i λa b=>asInt .i64 a λa=>cf 212 #[pQ xa,iQ a,uQ 0] b λa a=>nP xc λb=>lI .i64 a (b.add 1) λb=>nP xc λc=>C7 a (c.add 1) (iQ (wrap .i64 (b+1))) λa=>K tQ a))))))))
theorem call162 {xa xb xc:rQ} (H:F162 K h xa xb xc):A4 prog 162 #[(pQ xa),(pQ xb),(pQ xc)] h K:=
 cQ Tryz.func162 H
def F163 (K:kQ) (h:A2) (xa xb xc:rQ):Prop:=
 (nP xc λa=>bd 0 10 (lI .u64 h (a.add 2) λa=>cf 234 #[pQ xa,iQ (wrap .i64 a)] h λb b=>nP xb λc=>cf 235 #[pQ (some (c.add 8)),iQ (wrap .i64 a)] b λa a=>cf 106 #[pQ xb,lQ none 0 0] a λa a=>nP xb λb=>cf 211 #[pQ (some (b.add 8))] a λa b=>asInt .i64 a λa=>cf 79 #[pQ xa] b λb c=>asAgg b λb=>G3 b 15 (O8 b λb d e f g i j k l m n o p q r=>cf 139 #[.agg #[b,d,e,f,g,i,j,k,l,m,n,o,p,q,r]] c λb c=>asAgg b λb=>G3 b 7 (Jv b λb b b b b b b=>asInt .i64 b λb=>D4 (decide (a >= b)) (cf 130 #[pQ xb,iQ 6,lQ none 0 0] c λa a=>K tQ a) (K tQ c)))))
theorem call163 {xa xb xc:rQ} (H:F163 K h xa xb xc):A4 prog 163 #[(pQ xa),(pQ xb),(pQ xc)] h K:=
 cQ Tryz.func163 H
def F164 (K:kQ) (h:A2) (xa xb xc:rQ):Prop:=
 (cf 79 #[pQ xa] (h.push (oQ #[pQ xb] 176)) λa b=>asAgg a λa=>G3 a 15 (O8 a λa c d e f g i j k l m n o p q=>C7 (b.push (oQ AA 117)) (aQ b.size) a λa=>C7 a ⟨b.size,1,none⟩ c λa=>C7 a ⟨b.size,2,none⟩ d λa=>C7 a ⟨b.size,3,none⟩ e λa=>C7 a ⟨b.size,4,none⟩ f λa=>C7 a ⟨b.size,5,none⟩ g λa=>C7 a ⟨b.size,6,none⟩ i λa=>C7 a ⟨b.size,7,none⟩ j λa=>C7 a ⟨b.size,8,none⟩ k λa=>C7 a ⟨b.size,9,none⟩ l λa=>C7 a ⟨b.size,10,none⟩ m λa=>C7 a ⟨b.size,11,none⟩ n λa=>C7 a ⟨b.size,12,none⟩ o λa=>C7 a ⟨b.size,13,none⟩ p λa=>C7 a ⟨b.size,14,none⟩ q λa=>BO a b.size λc d e f g i j k l m n o p q r=>BO a b.size λs t u v w x y z A B C D E F G=>cf 233 #[.agg #[c,d,e,f,g,i,j,k,l,m,n,o,p,q,r]] a λa c=>asInt .i64 a λa=>ce c b.size 0 s (ce c b.size 1 t (ce c b.size 2 u (ce c b.size 3 v (ce c b.size 4 w (ce c b.size 5 x (ce c b.size 6 y (ce c b.size 7 z (ce c b.size 8 A (ce c b.size 9 B (ce c b.size 10 C (ce c b.size 11 D (ce c b.size 12 E (ce c b.size 13 F (ce c b.size 14 G (cf 139 #[.agg #[s,t,u,v,w,x,y,z,A,B,C,D,E,F,G]] c λc d=>asAgg c λc=>G3 c 7 (Jv c λc c e e e e e=>asInt .i64 c λc=>R3 λI77=>(nP xc λe=>lI .i64 d (e.add 1) λe=>D4 (e == 0) (lP d (aQ h.size) λe=>nP e λe=>C7 d (e.add 9) (lQ none 0 0) λe=>I77 [] e) (I77 [] d))/\(∀(d:G4) (d:A2),(I77 [] d)->(nP xc λe=>lI .i64 d (e.add 1) λe=>D4 (decide (e < (wrap .i64 (a*c)))) (D2 d (aQ h.size) λe=>C9 e λf=>D2 d (aQ h.size) λg=>C9 g λi=>nP i λi=>D2 d (i.add 9) λj=>D3 j λk l m=>BO d b.size λn o p q r s t u v w x y z A B=>nP xc λC=>D2 d (Addr.add C 1) λD=>asInt .i64 D λE=>BO d b.size λF G H I J L M N O P Q R S T U=>nP xc λV=>D2 d (Addr.add V 1) λW=>asInt .i64 W λX=>BO d b.size λY Z aa ab ac ad ae af ag ah ai aj ak al am=>cf 233 #[.agg #[F,G,H,I,J,L,M,N,O,P,Q,R,S,T,U]] d λF G=>asInt .i64 F λF=>ce G b.size 0 Y (ce G b.size 1 Z (ce G b.size 2 aa (ce G b.size 3 ab (ce G b.size 4 ac (ce G b.size 5 ad (ce G b.size 6 ae (ce G b.size 7 af (ce G b.size 8 ag (ce G b.size 9 ah (ce G b.size 10 ai (ce G b.size 11 aj (ce G b.size 12 ak (ce G b.size 13 al (ce G b.size 14 am (((A3 G (Addr.add V 1))=(some W))/\(((A3 G (Addr.add C 1))=(some D))/\(SI2 G b.size n o p q r s t u v w x y z A B (((A3 G (i.add 9))=(some j))/\(ce G h.size 0 g (ce G h.size 0 e (((F:Int)≠0)/\(cf 233 #[.agg #[Y,Z,aa,ab,ac,ad,ae,af,ag,ah,ai,aj,ak,al,am]] G λG H=>asInt .i64 G λG=>((A3 H (Addr.add V 1))=(some W))/\(((A3 H (Addr.add C 1))=(some D))/\(SI2 H b.size n o p q r s t u v w x y z A B (((A3 H (i.add 9))=(some j))/\(ce H h.size 0 g (ce H h.size 0 e (((G:Int)≠0)/\(cf 232 #[.agg #[n,o,p,q,r,s,t,u,v,w,x,y,z,A,B],iQ (wrap .i64 (Int.tdiv E F)),iQ (Int.tmod X G)] H λb n=>asInt .i64 b λb=>((A3 n (i.add 9))=(some j))/\(ce n h.size 0 g (ce n h.size 0 e (cf 147 #[pQ xa,iQ b] n λb n=>asInt .u64 b λb=>((A3 n (i.add 9))=(some j))/\(ce n h.size 0 g (ce n h.size 0 e (((A3 (n.push (oQ #[iQ (wrap .i64 b)] 3)) (i.add 9))=(some j))/\(((A3 (n.push (oQ #[iQ (wrap .i64 b)] 3)) (aQ h.size))=(some g))/\(((A3 (n.push (oQ #[iQ (wrap .i64 b)] 3)) (aQ h.size))=(some e))/\(U4 prog #[25,25] 25 #[lQ k l m,lQ (some (aQ n.size)) 1 1] (n.push (oQ #[iQ (wrap .i64 b)] 3)) λb g=>D3 b λb i j=>ce g h.size 0 e (nP f λe=>C7 g (e.add 9) (lQ b i j) λb=>nP xc λe=>lI .i64 b (e.add 1) λe=>nP xc λf=>C7 b (f.add 1) (iQ (wrap .i64 (e+1))) λb=>K tQ b)))))))))))))))))))))))))))))))))))))))) (R3 λI174=>(nP xc λb=>lI .i64 d (b.add 1) λb=>D4 (b == (wrap .i64 (a*c))) (lP d (aQ h.size) λa=>nP a λa=>cf 238 #[pQ (some (a.add 8))] d λa b=>D3 a λa c e=>R3 λI186=>GI λm187=>(I186 [lQ none 0 0,tQ,iQ 0] b)/\(∀(b e f:vQ) (g:G4) (g:A2),(I186 [b,e,f] g)->(asInt .i64 f λi=>D4 (decide (i < (c:Int))) (Il f λi=>bd i (c:Int) (F3 (pQ a) λa=>lI .i64 g (a.add (i.toNat*1)) λa=>Aj prog (.func (.func 236) #[] #[pQ (some (aQ h.size))]) #[iQ a] g λc i=>asBool c λc=>D4 (!c) (D3 b λc j k=>U4 prog #[25,25] 25 #[lQ c j k,lQ (some (aQ i.size)) 1 1] (i.push (oQ #[iQ a] 3)) λc j=>D3 c λc k l=>asInt .i64 f λm=>(I186 [lQ c k l,iQ a,iQ (wrap .i64 (m+1))] j)/\((m187 [lQ c k l,iQ a,iQ (wrap .i64 (m+1))] j) < (m187 [b,e,f] g))) (asInt .i64 f λc=>(I186 [b,iQ a,iQ (wrap .i64 (c+1))] i)/\((m187 [b,iQ a,iQ (wrap .i64 (c+1))] i) < (m187 [b,e,f] g))))) (lP g (aQ h.size) λa=>nP a λa=>cf 239 #[pQ (some (a.add 8)),.func (.func 236) #[] #[pQ (some (aQ h.size))]] g λa c=>asInt .i64 a λa=>lP c (aQ h.size) λa=>D3 b λg i j=>nP a λa=>C7 c (a.add 9) (lQ g i j) λa=>nP xc λc=>lI .i64 a (c.add 1) λc=>nP xc λg=>C7 a (g.add 1) (iQ (wrap .i64 (c+1))) λa=>I174 [b,e,f] a)))) (I174 [tQ,tQ,tQ] d))/\(∀(a b c:vQ) (d:G4) (d:A2),(I174 [a,b,c] d)->(lP d (aQ h.size) λa=>nP a λa=>lS d (a.add 9) λa a b=>D4 ((a:Int) == 0) (lP d (aQ h.size) λa=>cf 106 #[pQ a,lQ none 0 0] d λa a=>K tQ a) (lP d (aQ h.size) λa=>nP a λa=>lS d (a.add 9) λa b c=>bd 0 (b:Int) (F3 (pQ a) λa=>lI .i64 d a λa=>lP d (aQ h.size) λb=>lP d (aQ h.size) λc=>nP c λc=>lS d (c.add 9) λc e f=>((0:Int)<=1)/\(((1:Int)<=(e:Int))/\(nP b λb=>C7 d (b.add 9) (lQ (Ha c 1 f 1) (e - 1) (f - 1)) λb=>lP b (aQ h.size) λc=>cf 130 #[pQ c,iQ 2,lQ (some (aQ b.size)) 1 1] (b.push (oQ #[uQ (wrap .u64 a)] 178)) λa a=>K tQ a)))))))))))))))))))))))))))
theorem call164 {xa xb xc:rQ} (H:F164 K h xa xb xc):A4 prog 164 #[(pQ xa),(pQ xb),(pQ xc)] h K:=
 cQ Tryz.func164 H
def F165 (K:kQ) (h:A2) (xa xb:rQ):Prop:=
 (cf 105 #[pQ xb] h λa b=>C9 a λa=>R3 λI3=>(D4 (Option.isNone a) (I3 [dQ true,dQ true] b) (I3 [dQ (Option.isNone xa),dQ (Option.isNone xa)] b))/\(∀(b c:vQ) (d:G4) (d:A2),(I3 [b,c] d)->(asBool b λb=>D4 b (K tQ d) (nP a λb=>lI .i64 d b λb=>D4 (b == 1) (cf 240 #[pQ xa,pQ xb,pQ a] d λb b=>K tQ b) (nP a λb=>lI .i64 d b λb=>D4 (b == 2) (cf 241 #[pQ xa,pQ xb,pQ a] d λa a=>K tQ a) (cf 106 #[pQ xb,lQ none 0 0] d λa a=>K tQ a))))))
theorem call165 {xa xb:rQ} (H:F165 K h xa xb):A4 prog 165 #[(pQ xa),(pQ xb)] h K:=
 cQ Tryz.func165 H
def F231 (K:kQ) (h:A2) (xa:Int):Prop:=
 (cf 146 #[uQ xa] h λa b=>asInt .i64 a λa=>K (uQ (wrap .u64 a)) b)
theorem call231 {xa:Int} (H:F231 K h xa):A4 prog 231 #[(uQ xa)] h K:=
 cQ Tryz.func231 H
def F236 (K:kQ) (h:A2) (xa:Int) (c0:vQ):Prop:=
 (F3 c0 λa=>lP h a λa=>nP a λa=>lS h (a.add 9) λa b c=>cf 237 #[lQ a b c,iQ xa] h λa b=>asBool a λa=>K (dQ a) b)
theorem call236 {xa:Int} {c0:vQ} (H:F236 K h xa c0):A4 prog 236 #[(iQ xa),c0] h K:=
 cQ Tryz.func236 H
def F240 (K:kQ) (h:A2) (xa xb xc:rQ):Prop:=
 (nP xc λa=>bd 0 10 (lI .u64 h (a.add 2) λa=>cf 292 #[uQ a] h λa b=>asInt .i64 a λa=>nP xc λc=>lI .i64 b (c.add 1) λc=>D4 (c == 0) (nP xc λd=>cf 147 #[pQ xa,iQ 0] b λe f=>asInt .u64 e λe=>bd 0 10 (C7 f (d.add 2) (uQ e) λd=>nP xc λe=>C7 d (e.add 1) (iQ 1) λd=>nP xc λe=>bd 0 10 (lI .u64 d (e.add 2) λe=>cf 292 #[uQ e] d λd e=>asInt .i64 d λd=>D4 (d == 0) (cf 106 #[pQ xb,lQ (some (aQ e.size)) 1 1] (e.push (oQ #[uQ 0] 178)) λd d=>K tQ d) (K tQ e)))) (D4 (c == 1) (nP xc λc=>cf 79 #[pQ xa] b λd e=>asAgg d λd=>G3 d 15 (O8 d λd f g i j k l m n o p q r s t=>cf 142 #[.agg #[d,f,g,i,j,k,l,m,n,o,p,q,r,s,t],iQ a] e λd e=>asInt .i64 d λd=>cf 147 #[pQ xa,iQ d] e λd e=>asInt .u64 d λd=>bd 1 10 (C7 e (c.add 3) (uQ d) λc=>nP xc λd=>C7 c (d.add 1) (iQ 2) λc=>K tQ c))) (nP xc λc=>C7 b (c.add 1) (iQ 0) λb=>nP xc λc=>bd 0 10 (lI .u64 b (c.add 2) λc=>nP xc λd=>bd 1 10 (lI .u64 b (d.add 3) λd=>cf 293 #[pQ xa,uQ c,iQ (wrap .i64 d)] b λb c=>asBool b λb=>D4 b (cf 294 #[pQ xa,iQ a] c λb b=>cf 106 #[pQ xb,lQ (some (aQ b.size)) 1 1] (b.push (oQ #[uQ (wrap .u64 a)] 178)) λa a=>K tQ a) (K tQ c)))))))
theorem call240 {xa xb xc:rQ} (H:F240 K h xa xb xc):A4 prog 240 #[(pQ xa),(pQ xb),(pQ xc)] h K:=
 cQ Tryz.func240 H
def F241 (K:kQ) (h:A2) (xa xb xc:rQ):Prop:=
 (nP xc λa=>bd 0 10 (lI .u64 h (a.add 2) λa=>nP xc λb=>lI .i64 h (b.add 1) λb=>D4 (b == 0) (nP xc λc=>cf 147 #[pQ xa,iQ 0] h λd e=>asInt .u64 d λd=>bd 1 10 (C7 e (c.add 3) (uQ d) λc=>nP xc λd=>C7 c (d.add 1) (iQ 1) λc=>K tQ c)) (D4 (b == 1) (nP xc λb=>bd 1 10 (D2 h (b.add 3) λc=>asInt .u64 c λd=>cf 79 #[pQ xa] h λe f=>asAgg e λe=>G3 e 15 (O8 e λe g i j k l m n o p q r s t u=>((A3 f (b.add 3))=(some c))/\(cf 142 #[.agg #[e,g,i,j,k,l,m,n,o,p,q,r,s,t,u],iQ (wrap .i64 a)] f λe f=>asInt .i64 e λe=>((A3 f (b.add 3))=(some c))/\(cf 292 #[uQ d] f λb c=>asInt .i64 b λb=>cf 212 #[pQ xa,iQ e,uQ (wrap .u64 b)] c λb b=>nP xc λc=>C7 b (c.add 1) (iQ 2) λb=>K tQ b))))) (nP xc λb=>C7 h (b.add 1) (iQ 0) λb=>nP xc λc=>bd 1 10 (lI .u64 b (c.add 3) λc=>cf 293 #[pQ xa,uQ c,iQ (wrap .i64 a)] b λb c=>asBool b λb=>D4 b (cf 295 #[pQ xa,iQ (wrap .i64 a)] c λb b=>cf 106 #[pQ xb,lQ (some (aQ b.size)) 1 1] (b.push (oQ #[uQ (wrap .u64 (wrap .i64 a))] 178)) λa a=>K tQ a) (K tQ c))))))
theorem call241 {xa xb xc:rQ} (H:F241 K h xa xb xc):A4 prog 241 #[(pQ xa),(pQ xb),(pQ xc)] h K:=
 cQ Tryz.func241 H
def F292 (K:kQ) (h:A2) (xa:Int):Prop:=
 (cf 146 #[uQ xa] h λa b=>asInt .i64 a λa=>K (iQ a) b)
theorem call292 {xa:Int} (H:F292 K h xa):A4 prog 292 #[(uQ xa)] h K:=
 cQ Tryz.func292 H
def F293 (K:kQ) (h:A2) (xa:rQ) (xb xc:Int):Prop:=
 (cf 228 #[uQ xb,iQ xc,dQ false] h λa b=>asInt .u64 a λa=>cf 219 #[pQ xa,iQ 0,uQ xb,uQ a] b λa b=>asBool a λa=>K (dQ a) b)
theorem call293 {xa:rQ} {xb xc:Int} (H:F293 K h xa xb xc):A4 prog 293 #[(pQ xa),(uQ xb),(iQ xc)] h K:=
 cQ Tryz.func293 H
end
section
open Mod
section
variable {K:kQ} {h:A2} {M T b o N:Nat} {tv:vQ} {fo:Option (Nat × Nat)} {x:B9} {R:Hp}
theorem KQ {w:Int} (hw:U w) (k:K (iQ (J5 w)) h):A4 prog 292 #[uQ w] h K:=by
 refine call292 ?_
 unfold F292 cf
 refine A0 (N9 hw ?_)
 simp only [A5]
 exact k
theorem Lx (H:A9 h (A1 M T tv fo x R)) {w to_:Int} (hw:U w) (hs:x.m.mm.st < 1099511627776) (k:∀h',A9 h' (A1 M T tv fo (x.cas 0 w (Dj w to_ false)).2 R)->K (dQ (x.cas 0 w (Dj w to_ false)).1) h') :
  A4 prog 293 #[mP M,uQ w,iQ to_] h K:=by
 refine call293 ?_
 unfold F293 cf
 refine A0 (U6 hw ?_)
 simp only [A5]
 refine A0 (UH H (by decide) Bi hs λh' H'=>?_)
 simp only [C0]
 exact k h' H'
theorem YI (H:A9 h (A1 M T tv (some (b,o)) x R)) (hs:x.m.mm.st < 1099511627776) (k:∀h',A9 h' (A1 M T tv none (alloc x) R)->K tQ h') :
  A4 prog 240 #[mP M,mP T,fP b o] h K:=by
 refine call240 ?_
 unfold F240 cf bd lI nP O8
 have B:=A1.fB H
 have P:=A1.pl H
 unfold alloc at k
 refine sd1 (A1.r H) ?_
 refine A0 (KQ (B.g 0) ?_)
 refine sd1 (A1.r H) ?_
 apply A6<;>intro c
 ·rw [A8 c] at k
  refine A0 (M5 H (by decide) hs λh1 H1 u1=>?_)
  refine sb ?_
  refine A1.stR (i:=0) H1 rfl u1 λh2 H2=>A1.stP H2 λh3 H3=>?_
  refine sd2 (A1.r H3) B.len ?_
  refine A0 (KQ u1 ?_)
  refine sb ?_
  apply A6<;>intro c2
  ·simp only [A8 c2] at k
   exact A0 (Qo H3 [0] rfl (X6 U0) (by omega) λh4 H4=>k h4 H4)
  ·simp only [A7 c2] at k
   exact k h3 (A1.none H3)
 rw [A7 c] at k
 apply A6<;>intro c
 ·rw [A8 c] at k
  refine A0 (Fh H λh1 H1=>By ?_)
  refine A0 (Hr P (Mx _) λh2 o2=>?_)
  refine sb ?_
  refine A0 (M5 (A1.old H1 o2) (Sh1 P _) hs λh3 H3 u3=>?_)
  refine sb ?_
  exact A1.stR (i:=1) H3 rfl u3 λh4 H4=>A1.stP H4 λh5 H5=>k h5 (A1.none H5)
 ·rw [A7 c] at k
  refine A1.stP H λh1 H1=>?_
  refine sd1 (A1.r H1) ?_
  refine A0 (Lx H1 (B.g 0) hs λh2 H2=>?_)
  refine sb ?_
  apply D1<;>intro c
  ·simp only [A8 c] at k
   refine A0 (Ti6 H2 (Mx _) λh3 H3=>?_)
   exact A0 (Qo H3 [J5 (x.f.g 0)] rfl (X6 (U8 _)) (by omega) λh4 H4=>k h4 H4)
  ·simp only [c] at k
   exact k h2 (A1.none H2)
theorem RT (H:A9 h (A1 M T tv (some (b,o)) x R)) (hs:x.m.mm.st < 1099511627776) (k:∀h',A9 h' (A1 M T tv none (AC x) R)->K tQ h') :
  A4 prog 241 #[mP M,mP T,fP b o] h K:=by
 refine call241 ?_
 unfold F241 cf bd lI nP O8
 have B:=A1.fB H
 have P:=A1.pl H
 unfold AC at k
 refine sd1 (A1.r H) ?_
 apply A6<;>intro c
 ·rw [A8 c] at k
  refine A0 (M5 H (by decide) hs λh1 H1 u1=>?_)
  refine sb ?_
  exact A1.stR (i:=1) H1 rfl u1 λh2 H2=>A1.stP H2 λh3 H3=>k h3 (A1.none H3)
 rw [A7 c] at k
 apply A6<;>intro c
 ·rw [A8 c] at k
  refine A0 (Fh H λh1 H1=>By ⟨(A1.c H1).2.2.1,?_⟩)
  refine A0 (Hr P (T9 _) λh2 o2=>?_)
  have H2:=A1.old H1 o2
  refine se1 (A1.c H2) ?_
  refine A0 (KQ (B.g 1) ?_)
  refine sb ?_
  refine A0 (U7 H2 (Sh1 P _) (U8 _) hs λh3 H3=>?_)
  exact A1.stP H3 λh4 H4=>k h4 (A1.none H4)
 ·rw [A7 c] at k
  refine A1.stP H λh1 H1=>?_
  refine sd1 (A1.r H1) ?_
  refine A0 (Lx H1 (B.g 1) hs λh2 H2=>?_)
  refine sb ?_
  apply D1<;>intro c
  ·simp only [A8 c] at k
   refine A0 (Te0 H2 (T9 _) λh3 H3=>?_)
   exact A0 (Qo H3 [u64 (x.f.g 0)] rfl (X6 (S9 _)) (by omega) λh4 H4=>k h4 (by rw [RR];exact H4))
  ·simp only [c] at k
   exact k h2 (A1.none H2)
end
end
section

end
section
def Ti8 (h:A2) (ad:Addr) (o:Op9):Prop:=A3 h ad=some (iQ o.th)/\∀j v,o.cells[j]? = some v->A3 h (ad.add j)=some v
theorem ld9 {h:A2} {ad:Addr} {o:Op9} {K:vQ->vQ->vQ->vQ->vQ->vQ->vQ->vQ->vQ->Prop} (H:Ti8 h ad o)
  (k:K (iQ o.th) (iQ o.op) (.int .u32 o.key) (.int .u32 o.val) (iQ o.kind) (.int .u32 o.ak) (.int .u32 o.av) (iQ o.fr) (iQ o.to)) :
  D2 h ad λv0=>D2 h (ad.add 1) λv1=>D2 h (ad.add 2) λv2=>D2 h (ad.add 3) λv3=>D2 h (ad.add 4) λv4=>D2 h (ad.add 5) λv5=>D2 h (ad.add 6) λv6=>D2 h (ad.add 7) λv7=>D2 h (ad.add 8) λv8=>K v0 v1 v2 v3 v4 v5 v6 v7 v8:=
 C6 H.1 (C6 (H.2 1 _ rfl) (C6 (H.2 2 _ rfl) (C6 (H.2 3 _ rfl) (C6 (H.2 4 _ rfl) (C6 (H.2 5 _ rfl) (C6 (H.2 6 _ rfl) (C6 (H.2 7 _ rfl) (C6 (H.2 8 _ rfl) k))))))))
end
section
def KR (av:Nat->Prop) (h h':A2):Prop:=h.size<=h'.size/\∀b,b < h.size->¬ av b->h'[b]? = h[b]?
theorem KR.of {av:Nat->Prop} {h h':A2} (o:G9 h.size h h'):KR av h h':=⟨o.1,λb hb _=>o.2 b hb⟩
theorem KR.cell {av:Nat->Prop} {h h':A2} {a:Addr} {v:vQ} (o:KR av h h') (ha:¬ av a.block) (hc:A3 h a=some v):A3 h' a=some v:=(T5 (o.2 _ (BS hc) ha)).trans hc
def Sh2 (av:Nat->Prop) (g:vQ) (L:List Int) (h:A2):Prop:=
 ∃f fst cap Ev,g=.func (.func f) fst cap/\TJ prog g L.length (EU L) Ev/\Ev h/\∀h h',KR av h h'->Ev h->Ev h'
def DU (av:Nat->Prop) (f:vQ) (D:Int->Prop) (p:Int->Bool) (h:A2):Prop:=
 (∃g x y,f=.func (.func g) x y)/\∃Ev:A2->Prop,Ev h/\(∀h h',KR av h h'->Ev h->Ev h') /\
  ∀(h:A2) (x:Int) (K:kQ),Ev h->D x->(∀h',G9 h.size h h'->K (dQ (p x)) h')->Aj prog f #[iQ x] h K
theorem DU.old {av:Nat->Prop} {f:vQ} {D:Int->Prop} {p:Int->Bool} {h h':A2} (H:DU av f D p h) (o:KR av h h'):DU av f D p h':=by
 obtain ⟨e,Ev,h1,h2,h3⟩:=H
 exact ⟨e,Ev,h2 _ _ o h1,h2,h3⟩
theorem DU.call {av:Nat->Prop} {f:vQ} {D:Int->Prop} {p:Int->Bool} {h:A2} (H:DU av f D p h) {x:Int} (hD:D x) {K:kQ} (k:∀h',G9 h.size h h'->K (dQ (p x)) h'):Aj prog f #[iQ x] h K:=by
 obtain ⟨_,Ev,h1,_,h3⟩:=H
 exact h3 _ _ _ h1 hD k
theorem YJ {K:kQ} {h:A2} {av:Nat->Prop} {g f:vQ} {L:List Int} {D:Int->Prop} {p:Int->Bool} (H:Sh2 av g L h) (Hk:DU av f D p h) (hD:∀x ∈ L,D x) (hav:∀b,av b->b < h.size)
  (k:∀g' h',Sh2 av g' (L.filter p) h'->G9 h.size h h'->K g' h'):A4 prog 290 #[g,f] h K:=by
 obtain ⟨f0,fst,cap,Ev,rfl,hs,he,hst⟩:=H
 obtain ⟨⟨f1,a1,a2,rfl⟩,Ek,hk1,hk2,hk3⟩:=Hk
 refine call290 ?_
 unfold F290 g290
 obtain ⟨ho,h1,h2⟩:=Th6 (h:=h) (.cells #[.func (.func f0) fst cap] 311) (.cells #[.func (.func f1) a1 a2] 102)
 simp only [KH]
 rw [SD2]
 generalize (h.push (oQ #[.func (.func f0) fst cap] 311)).push (oQ #[.func (.func f1) a1 a2] 102)=h5 at *
 refine ⟨λvs h'=>vs = [dQ false]/\h' = h5,?_,?_⟩
 ·refine C6 (Z3 h1) ?_
  simp only [JK,E7]
  refine C6 (Z3 h2) ?_
  simp only [JK]
  exact ⟨by trivial,by trivial⟩
 ·rintro v5 g6 h7 ⟨e,rfl⟩
  cases e
  simp only [C0,E7]
  refine k _ _ ⟨_,_,_,_,rfl,SJ9 hD (show fnV (.func (.func f0) fst cap) from trivial) hs (λa b o e=>hst _ _ (KR.of o) e) (λa b o e=>hk2 _ _ (KR.of o) e) hk3,⟨Z3 h1,Z3 h2,hst _ _ (KR.of ho) he,hk2 _ _ (KR.of ho) hk1⟩,
   λa b o e=>⟨o.cell (λx=>?_) e.1,o.cell (λx=>?_) e.2.1,hst _ _ o e.2.2.1,hk2 _ _ o e.2.2.2⟩⟩ ho
  ·have:=hav _ x;simp at this
  ·have:=hav _ x;simp at this;omega
end
section
open Mod
theorem UL {K:kQ} {h:A2} {a:rQ} {l c:Nat} {xs:List Int} {x:Int} (H:RI h a l c xs) (hl:l < 2 ^ 60) (k:∀n:Int,(decide (n >= 0)=xs.contains x)->K (iQ n) h) :
  A4 prog 289 #[lQ a l c,iQ x] h K:=by
 refine call289 ?_
 unfold F289 bd lI
 have hlen:=H.len
 refine ⟨λvs h'=>∃w1 w2,∃i:Nat,vs = [w1,w2,iv i]/\i<=l/\h' = h/\(xs.take i).contains x=false,λvs _=>(match vs with | [_,_,.int _ n]=>l - n.toNat | _=>0),⟨_,_,0,rfl,T4 _,rfl,rfl⟩,?_⟩
 rintro v2 v3 v4 g5 h6 ⟨w1,w2,i,e,hi,rfl,hno⟩
 cases e
 simp only [A5]
 refine A6 (λhlt=>?_) (λhge=>?_)
 ·have hi':i < xs.length:=by omega
  obtain ⟨ad,rfl,hc⟩:=H.at hi'
  have htk:(xs.take (i+1)).contains x=((xs.take i).contains x || (xs[i] == x)):=by
   rw [Ab hi',QU,Ku,List.contains_iff_mem,List.contains_iff_mem,GR,Fq,beq_iff_eq]
   exact or_congr Iff.rfl eq_comm
  refine ⟨by omega,hlt,?_⟩
  simp only [D0,X5,BQ]
  refine C6 hc ?_
  simp only [A5]
  apply D1<;>intro hq
  ·have hq':x=xs[i]:=by simpa using hq
   refine k i ?_
   have:xs.contains x=true:=by rw [hq'];simp
   rw [this];simp
  ·rw [N8 (by omega)]
   have hq':¬ x=xs[i]:=by simpa using hq
   exact ⟨⟨_,_,i+1,rfl,by omega,by trivial,by rw [htk,hno];simp [Ne.symm hq']⟩,by show l - ((i+1:Nat):Int).toNat < l - (i:Int).toNat;omega⟩
 ·rw [Dg (by omega)] at hno
  exact k (-1) (by rw [hno];decide)
theorem NF {K:kQ} {h:A2} {a:rQ} {l c:Nat} {xs:List Int} {x:Int} (H:RI h a l c xs) (hl:l < 2 ^ 60) (k:K (dQ (xs.contains x)) h) :
  A4 prog 237 #[lQ a l c,iQ x] h K:=by
 refine call237 ?_
 unfold F237 cf
 refine A0 (UL H hl λn hn=>?_)
 simp only [A5]
 rw [hn];exact k
theorem RI.congrA {av:Nat->Prop} {h h':A2} {a:rQ} {l c:Nat} {xs:List Int} (H:RI h a l c xs) (o:KR av h h') (ha:xs≠[]->∀ad,a=some ad->¬ av ad.block):RI h' a l c xs:=by
 refine ⟨λi v hi=>?_,H.len,H.cap⟩
 obtain ⟨ad,e,hc⟩:=H.s i v hi
 refine ⟨ad,e,(T5 ?_).trans hc⟩
 have hlt:=BS hc
 rw [KG] at hlt ⊢
 exact o.2 _ hlt (ha (λe=>by rw [e] at hi;simp at hi) ad e)
theorem Sp8 {K:kQ} {h:A2} {av:Nat->Prop} {a:rQ} {l c:Nat} {xs:List Int} (H:RI h a l c xs) (hl:l < 2 ^ 60) (hna:xs≠[]->∀ad,a=some ad->¬ av ad.block) (hav:∀b,av b->b < h.size) (k:∀g h',Sh2 av g xs h'->G9 h.size h h'->K g h') :
  A4 prog 291 #[lQ a l c] h K:=by
 refine call291 ?_
 unfold F291
 have o1:G9 h.size h (h.push (oQ #[lQ a l c] 25)):=(G9.refl _ _).push _ (G0 _)
 exact k _ _ ⟨_,_,_,_,rfl,Td2 hl,⟨Z3 (Ap _ _),H.old o1⟩,λh h' o e=>⟨o.cell (λx=>by have:=hav _ x;simp at this) e.1,e.2.congrA o hna⟩⟩ o1
theorem Ph {h:A2} {N:Nat} {g:vQ} {L:List Int} {D:A2->Prop} (H:Sh2 (λb=>b=N) g L h) (hN:h[N]? = some (oQ #[lQ none 0 0] 25)) (hn:L.length<=2 ^ 39)
  (k:∀h' a c,h.size<=h'.size->(∀b,b < h.size->b≠N->h'[b]? = h[b]?)->h'[N]? = some (oQ #[lQ a L.length c] 25)->ID h' a L.length c L->(∀b,GU a b->h.size<=b)->D h') :
  Jb prog g 1 h (λI vs hh=>asInt .i64 (vs.getD 0 tQ) λn=>D2 hh (aQ N) λv=>D3 v λo l c=>U4 prog #[25,25] 25 #[lQ o l c,lQ (some (aQ hh.size)) 1 1] (hh.push (oQ #[iQ n] 3)) λv h2=>D3 v λo l c=>C7 h2 (aQ N) (lQ o l c) λh3=>I .normal h3) D []:=by
 obtain ⟨f0,fst,cap,Ev,rfl,hs,he,hst⟩:=H
 have hlt:=(Jx.1 hN).1
 refine Ye (n:=L.length) (xs:=EU L) (Ev:=Ev)
  (λj w h'=>h.size<=h'.size/\(∀b,b < h.size->b≠N->h'[b]? = h[b]?)/\∃a c,h'[N]? = some (oQ #[lQ a j c] 25)/\ID h' a j c (L.take j)/\∀b,GU a b->w b) (λ_ _ _=>False)
  (show fnV (.func (.func f0) fst cap) from trivial) hs (λ_ _=>rfl) ?_ (λ_ _ _ _ _ _ _ x=>x) (λj w' h' x=>hst _ _ ⟨x.1,x.2.1⟩ he) ⟨G0 _,λ_ _ _=>rfl,none,0,hN,CS.nil _ _ _,λb hb=>by obtain ⟨_,e,_⟩:=hb;cases e⟩ ?_ ?_ trivial
 ·rintro j w' ha hb hs1 hs2 hw ⟨x1,x2,a,c,x3,x4,x5⟩
  exact ⟨R4 x1 hs1,λb hb hne=>(hs2 b hb).trans (x2 b hb hne),a,c,(hs2 _ hlt).trans x3,x4.congr λb hb=>hw b (x5 b hb),x5⟩
 ·rintro M j w' h13 hj hM hs1 hw ⟨x1,x2,a,c,x3,x4,x5⟩
  have e2:(EU L j).getD 0 tQ=iQ L[j]:=by unfold EU;simp [hj]
  rw [e2]
  simp only [A5]
  refine C6 (Z3 x3) ?_
  simp only [D6]
  refine S11 x4 (by omega) λa2 c2 h2 own2 hs2 old2 hor=>?_
  simp only [D6]
  have hNa:∀ad,a=some ad->ad.block≠N:=λad e he=>by
   have:=(hw _ (x5 _ ⟨ad,e,rfl⟩)).1
   omega
  have x3':h2[N]? = some (oQ #[lQ a j c] 25):=(old2 _ (by omega) hNa).trans x3
  refine Nf x3' (by simp) trivial ?_
  rintro h21 rfl
  have hbig:∀b,GU a2 b->M<=b:=by
   rintro b ⟨ad,e,rfl⟩
   rcases hor with rfl | ⟨b',rfl,hb⟩
   ·exact (hw _ (x5 _ ⟨ad,e,rfl⟩)).1
   ·cases e;show M<=b';omega
  have own3:ID (h2.setIfInBounds N (oQ ((#[lQ a j c]:Array vQ).setIfInBounds 0 (lQ a2 (j+1) c2)) 25)) a2 (j+1) c2 (L.take j ++ [L[j]]):=
   own2.congr λb hb=>V4 (by have:=hbig b hb;omega)
  refine ⟨⟨by simp;exact hs2,λb hb1 hb2=>?_⟩,by simp;omega,GU a2,λb hb=>⟨hbig b hb,?_⟩,by simp;omega,λb hb hne=>?_,a2,c2,?_,?_,λb hb=>hb⟩
  ·refine (V4 (by omega)).trans (old2 b (by omega) λad e he=>?_)
   have:=(hw _ (x5 _ ⟨ad,e,rfl⟩)).1
   omega
  ·rcases own3.2.2 with ⟨e,_⟩ | ⟨b',row,e,hb',_⟩
   ·obtain ⟨_,e',_⟩:=hb;rw [e] at e';cases e'
   ·obtain ⟨ad,e',rfl⟩:=hb
    rw [e] at e'
    cases e'
    exact ⟨row,_,_,hb'⟩
  ·refine (V4 hne).trans ((old2 b (by omega) λad e he=>?_).trans (x2 b hb hne))
   have:=(hw _ (x5 _ ⟨ad,e,rfl⟩)).1
   omega
  ·exact U2 (by omega)
  ·rw [Ab hj];exact own3
 ·rintro M w' h22 hM hs1 hw ⟨x1,x2,a,c,x3,x4,x5⟩
  rw [EH] at x4
  exact k h22 a c x1 x2 x3 x4 λb hb=>by have:=(hw b (x5 b hb)).1;omega
end
section
open Mod
variable {K:kQ} {h:A2}
def Thr.setRe (t:Thr) (l:List Int):Thr:={ t with retired:=l }
def Thr.setFo (t:Thr) (l:List Int):Thr:={ t with found:=l }
theorem RU {h:A2} {T:Nat} {fo:Option (Nat × Nat)} {t:Thr} {id:Int} {R:Hp} (H:A9 h (M7 T fo t id*R)):∃a c,A3 h ⟨T,8,none⟩=some (lQ a t.retired.length c)/\ID h a t.retired.length c t.retired:=by
 obtain ⟨B,x,H0⟩:=J8.1 H
 exact ⟨_,_,F6 H0.at rfl,A9.own (A9.drop (A9.drop (A9.drop (A9.drop (A9.drop H0)))))⟩
theorem S28 {h:A2} {T:Nat} {fo:Option (Nat × Nat)} {t:Thr} {id:Int} {R:Hp} (H:A9 h (M7 T fo t id*R)):∃a c,A3 h ⟨T,9,none⟩=some (lQ a t.found.length c)/\EG h a t.found.length c t.found:=by
 obtain ⟨B,x,H0⟩:=J8.1 H
 exact ⟨_,_,F6 H0.at rfl,A9.ownf (A9.drop (A9.drop (A9.drop (A9.drop (A9.drop (A9.drop H0))))))⟩
theorem YK {h:A2} {T:Nat} {fo:Option (Nat × Nat)} {t:Thr} {id:Int} {R:Hp} {a:rQ} {l c:Nat} {xs:List Int} {K:A2->Prop} (H:A9 h (E8 3 1 a l c (xs.map iv)*(M7 T fo t id*R))) (hx:∀v ∈ xs,iN v) (hl:l<=1073741824)
  (k:∀h',A9 h' (M7 T fo (Thr.setRe t xs) id*R)->K h'):C7 h ⟨T,8,none⟩ (lQ a l c) K:=by
 have hlen:xs.length=l:=by have:=H.own.1;simpa using this
 rw [D8] at H
 obtain ⟨B,x,H0⟩:=J8.1 H
 refine H0.st rfl trivial λh' H1=>k h' (J8.2 ⟨{ B with re:=a,ren:=c },⟨?_,?_⟩,?_⟩)
 ·obtain ⟨b1,b2,b3,b4,b5,b6,b7,b8⟩:=x.1
  exact ⟨b1,b2,b3,b4,b5,hx,b7,by unfold Thr.setRe;simp only;omega⟩
 ·exact x.2
 ·unfold Thr.setRe DR
  simp only [hlen]
  refine A9.drop (P:=E8 3 1 B.re t.retired.length B.ren (t.retired.map iv)) (A9.ac H1 ?_)
  simp only [Tk,Sd9]
  ac_rfl
theorem YL {h:A2} {T:Nat} {fo:Option (Nat × Nat)} {t:Thr} {id:Int} {R:Hp} {a:rQ} {l c:Nat} {xs:List Int} {K:A2->Prop} (H:A9 h (DP a l c xs*(M7 T fo t id*R))) (hx:∀v ∈ xs,iN v) (hl:l<=1073741824)
  (k:∀h',A9 h' (M7 T fo (Thr.setFo t xs) id*R)->K h'):C7 h ⟨T,9,none⟩ (lQ a l c) K:=by
 have hlen:xs.length=l:=H.ownf.1
 rw [D8] at H
 obtain ⟨B,x,H0⟩:=J8.1 H
 refine H0.st rfl trivial λh' H1=>k h' (J8.2 ⟨{ B with fo:=a,fon:=c },⟨?_,?_⟩,?_⟩)
 ·obtain ⟨b1,b2,b3,b4,b5,b6,b7,b8⟩:=x.1
  exact ⟨b1,b2,b3,b4,b5,b6,hx,by unfold Thr.setFo;simp only;omega⟩
 ·exact x.2
 ·unfold Thr.setFo DR
  simp only [hlen]
  refine A9.drop (P:=DP B.fo t.found.length B.fon t.found) (A9.ac H1 ?_)
  simp only [Tk,Sd9]
  ac_rfl
theorem Ly {h:A2} {T:Nat} {fo:Option (Nat × Nat)} {t:Thr} {id:Int} {R:Hp} (H:A9 h (M7 T fo t id*R)):∃a c,∃Q:Hp,(∀h' P,A9 h' (Q*P)->A3 h' ⟨T,9,none⟩=some (lQ a t.found.length c))/\A9 h (DP a t.found.length c t.found*(Q*R)) /\
  ∀R' h' a' l' c' xs,l'<=1073741824->(∀v ∈ xs,iN v)->A9 h' (DP a' l' c' xs*(Q*R'))->∀K:A2->Prop,(∀h'',A9 h'' (M7 T fo (Thr.setFo t xs) id*R')->K h'')->C7 h' ⟨T,9,none⟩ (lQ a' l' c') K:=by
 obtain ⟨B,x,H0⟩:=J8.1 H
 refine ⟨B.fo,B.fon,pt T (oQ (DR B t id).toArray 183)*(E8 190 12 B.fr t.fr.length B.frn (t.fr.flatMap Dk)*(pt B.pred (oQ (V7 t.pred).toArray 178)*(pt B.succ (oQ (V7 t.succ).toArray 178)*(pt B.word (oQ (V7 t.word).toArray 178)*E8 3 1 B.re t.retired.length B.ren (t.retired.map iv))))),λh' P HQ=>F6 (A9.at (F2 _ _ _ ▸ HQ)) rfl,A9.ac H0 (by ac_rfl),?_⟩
 intro R' h' a' l' c' xs hl hx H1 K k
 have hlen:xs.length=l':=H1.ownf.1
 have H2:A9 h' (pt T (oQ (DR B t id).toArray 183)*(E8 190 12 B.fr t.fr.length B.frn (t.fr.flatMap Dk)*(pt B.pred (oQ (V7 t.pred).toArray 178)*(pt B.succ (oQ (V7 t.succ).toArray 178)*(pt B.word (oQ (V7 t.word).toArray 178)*(E8 3 1 B.re t.retired.length B.ren (t.retired.map iv)*(DP a' l' c' xs*R'))))))):=A9.ac H1 (by ac_rfl)
 refine H2.st rfl trivial λh'' H3=>k h'' (J8.2 ⟨{ B with fo:=a',fon:=c' },⟨?_,?_⟩,?_⟩)
 ·obtain ⟨b1,b2,b3,b4,b5,b6,b7,b8⟩:=x.1
  exact ⟨b1,b2,b3,b4,b5,b6,hx,by unfold Thr.setFo;simp only;omega⟩
 ·exact x.2
 ·unfold Thr.setFo DR
  simp only [hlen]
  exact H3
theorem UM {h:A2} {T:Nat} {fo:Option (Nat × Nat)} {t:Thr} {id:Int} {R:Hp} (H:A9 h (M7 T fo t id*R)):∃a c,∃Q:Hp,(∀h' P,A9 h' (Q*P)->A3 h' ⟨T,8,none⟩=some (lQ a t.retired.length c))/\A9 h (E8 3 1 a t.retired.length c (t.retired.map iv)*(Q*R)) /\
  ∀R' h' a' l' c' xs,l'<=1073741824->(∀v ∈ xs,iN v)->A9 h' (E8 3 1 a' l' c' (xs.map iv)*(Q*R'))->∀K:A2->Prop,(∀h'',A9 h'' (M7 T fo (Thr.setRe t xs) id*R')->K h'')->C7 h' ⟨T,8,none⟩ (lQ a' l' c') K:=by
 obtain ⟨B,x,H0⟩:=J8.1 H
 refine ⟨B.re,B.ren,pt T (oQ (DR B t id).toArray 183)*(E8 190 12 B.fr t.fr.length B.frn (t.fr.flatMap Dk)*(pt B.pred (oQ (V7 t.pred).toArray 178)*(pt B.succ (oQ (V7 t.succ).toArray 178)*(pt B.word (oQ (V7 t.word).toArray 178)*DP B.fo t.found.length B.fon t.found)))),λh' P HQ=>F6 (A9.at (F2 _ _ _ ▸ HQ)) rfl,A9.ac H0 (by ac_rfl),?_⟩
 intro R' h' a' l' c' xs hl hx H1 K k
 have hlen:xs.length=l':=by have:=H1.own.1;simpa using this
 have H2:A9 h' (pt T (oQ (DR B t id).toArray 183)*(E8 190 12 B.fr t.fr.length B.frn (t.fr.flatMap Dk)*(pt B.pred (oQ (V7 t.pred).toArray 178)*(pt B.succ (oQ (V7 t.succ).toArray 178)*(pt B.word (oQ (V7 t.word).toArray 178)*(E8 3 1 a' l' c' (xs.map iv)*(DP B.fo t.found.length B.fon t.found*R'))))))):=A9.ac H1 (by ac_rfl)
 refine H2.st rfl trivial λh'' H3=>k h'' (J8.2 ⟨{ B with re:=a',ren:=c' },⟨?_,?_⟩,?_⟩)
 ·obtain ⟨b1,b2,b3,b4,b5,b6,b7,b8⟩:=x.1
  exact ⟨b1,b2,b3,b4,b5,hx,b7,by unfold Thr.setRe;simp only;omega⟩
 ·exact x.2
 ·unfold Thr.setRe DR
  simp only [hlen]
  exact H3
theorem A9.app1 {h:A2} {a:rQ} {l c:Nat} {xs:List Int} {y:Int} {K:kQ} {R:Hp} (H:A9 h (E8 3 1 a l c (xs.map iv)*R)) (hl:l<=1099511627776) (k:∀a' c' h',A9 h' (E8 3 1 a' (l+1) c' ((xs ++ [y]).map iv)*R)->K (lQ a' (l+1) c') h') :
  U4 prog #[25,25] 25 #[lQ a l c,lQ (some (aQ h.size)) 1 1] (h.push (oQ #[iQ y] 3)) K:=by
 have H1:=H.push (oQ #[iQ y] 3)
 generalize h.push (oQ #[iQ y] 3)=h1 at *
 generalize h.size=N at *
 have hs:N5 h1 (some (aQ N)) [iv y]:=λi v hi=>⟨_,rfl,by rw [E2,J6,E5 H1.at];simpa using hi⟩
 rw [D8,<- Z8] at H1
 refine H1.app JL Is Mr (by rw [Z8];rfl) hs (n:=1) (by rw [Z8];rfl) (by simp [J0]) (by rw [ES];omega) (by rw [ES];omega) λa' c' h' H2=>k a' c' h' ?_
 rw [Z8] at H2
 rw [GW]
 exact H2.drop2
theorem A9.appF {h:A2} {a:rQ} {l c:Nat} {xs:List Int} {y:Int} {K:kQ} {R:Hp} (H:A9 h (DP a l c xs*R)) (hl:l<=1099511627776) (k:∀a' c' h',A9 h' (DP a' (l+1) c' (xs ++ [y])*R)->K (lQ a' (l+1) c') h') :
  U4 prog #[25,25] 25 #[lQ a l c,lQ (some (aQ h.size)) 1 1] (h.push (oQ #[iQ y] 3)) K:=by
 have H1:=H.push (oQ #[iQ y] 3)
 generalize h.push (oQ #[iQ y] 3)=h1 at *
 generalize h.size=N at *
 have hs:N5 h1 (some (aQ N)) [iv y]:=λi v hi=>⟨_,rfl,by rw [E2,J6,E5 H1.at];simpa using hi⟩
 have H2:=H1.drop
 obtain ⟨ow,hlt,re⟩:=H2.opn
 have hxl:=ow.1
 refine SK3 JL Is Mr (by rw [Z8];rfl) ow.ri.s (by rw [Z8,Jz];omega) ow.2.1 hs (n:=1) (by rw [Z8];rfl) (by simp [J0]) (by rw [ES];omega) (by rw [ES];omega) (λhc ad ea=>?_) (λhc ea=>?_) (λc' h' o' old=>?_)
 ·rw [Z8,BQ]
  obtain ⟨h1',h2',h3'⟩:=ow
  rcases h3' with ⟨e,_⟩ | ⟨b,o,row,e,hb,hsz,ht⟩
  ·rw [ea] at e;cases e
  ·rw [ea] at e
   cases e
   rw [E2]
   have hbl:=(Jx.1 hb).1
   refine Ir [iv y] h1 b (o+l) 0 row _ _ hb (by simp;omega) (by simp [J0]) λrow' r1 r2=>?_
   have hlen:(row.toList.drop o).length >= l:=by rw [List.length_drop,Sk0];omega
   refine k a c _ (re _ (GU a) (λh=>EG h a (l+1) c (xs ++ [y])) ⟨by simp,λc2 hc2 hn=>V4 λe=>hn ⟨_,ea,e.symm⟩⟩ (λb2 hb2=>⟨.inl hb2,by simpa using hlt b2 hb2⟩) (λb2 ob hb2 e2 x hx=>?_) λh'' e2=>?_)
   ·obtain ⟨ad2,ea2,rfl⟩:=hb2
    rw [ea] at ea2;cases ea2
    rw [U2 hbl] at e2;cases e2;cases hx
   ·refine ⟨by simp;omega,hc,.inr ⟨b,o,row',ea,(e2 b ⟨_,ea,rfl⟩).trans (U2 hbl),by omega,?_⟩⟩
    apply Tc
    intro j
    rw [GV,Tf,GQ,r2]
    have hx:∀j,j < l->(xs.map iv)[j]? = row[o+j]?:=λj hj=>by rw [<- ht,GV,A8 hj,Tf,GQ]
    simp only [List.length_singleton,GW,GY,QZ]
    by_cases c1:j < l
    ·rw [A8 (by omega),A7 (by omega),OB (by simp;omega),hx j c1]
    ·by_cases c2:j=l
     ·subst c2
      rw [A8 (by omega),A8 (by omega),MH (by simp;omega),Jz,h1']
      congr 1;omega
     ·rw [A7 (by omega)]
      symm;apply SD9;simp;omega
 ·obtain ⟨h1',h2',h3'⟩:=ow
  rcases h3' with ⟨_,e⟩ | ⟨b,o,row,e,_⟩
  ·omega
  ·rw [ea] at e;cases e
 ·have o2:EG h' (some (aQ h1.size)) (l+1) c' (xs ++ [y]):=EG.of (by rw [Z8] at o';unfold ID;simpa using o')
  have H3:A9 h' (DP (some ⟨h1.size,0,none⟩) (l+1) c' (xs ++ [y])*(DP a l c xs*R)):=H2.mk_new old (λb hb=>⟨by obtain ⟨ad,e,rfl⟩:=hb;cases e;exact G0 _,o2.lt2 hb⟩) o2.nd λh'' e=>o2.congr e
  exact k _ c' h' H3.drop2
theorem Pi {T:Nat} {fo:Option (Nat × Nat)} {t:Thr} {id:Int} {R:Hp} {y:Int} (H:A9 h (M7 T fo t id*R)) (hy:iN y) (hl:t.retired.length < 1073741824) (k:∀h',A9 h' (M7 T fo (Thr.setRe t (t.retired ++ [y])) id*R)->K tQ h') :
  A4 prog 235 #[pQ (some ⟨T,8,none⟩),iQ y] h K:=by
 refine call235 ?_
 unfold F235 lS nP
 obtain ⟨a,c,Q,e,H1,re⟩:=UM H
 have e0:=e h _ H1.drop
 have hB:=(RP H).re
 refine sb ?_
 refine C6 e0 ?_
 refine sb ?_
 refine H1.app1 (by omega) λa' c' h' H2=>?_
 refine sb ?_
 refine re _ h' a' _ c' _ (by omega) (λv hv=>?_) H2 _ k
 rcases GR.1 hv with h1 | h1
 ·exact hB v h1
 ·rw [Fq.1 h1];exact hy
theorem DV {T:Nat} {fo:Option (Nat × Nat)} {t:Thr} {id:Int} {R:Hp} (H:A9 h (M7 T fo t id*R)) (k:K (iQ (t.retired.length:Int)) h) :
  A4 prog 211 #[pQ (some ⟨T,8,none⟩)] h K:=by
 refine call211 ?_
 unfold F211 lS nP
 obtain ⟨a,c,e0,ow⟩:=RU H
 refine sb ?_
 refine C6 e0 ?_
 refine sb ?_
 exact k
theorem New.part {h h':A2} {a:rQ} {l c:Nat} {xs:List Int} {R:Hp} (H:New h h' a l c xs) (S:A9 h R) (o:G9 h.size h h'):∃Q:Hp,A9 h' (Q*R)/\∀h P,A9 h (Q*P)->RI h a l c xs:=by
 rcases H with ⟨h1,h2,h3⟩ | ⟨h1,h2⟩
 ·subst h1;subst h2;subst h3
  exact ⟨Mt,by rw [T8];exact S.old o,λh P _=>⟨N5.nil _ _,rfl,G0 _⟩⟩
 ·refine ⟨E8 3 1 a l c (xs.map iv),S.mk_new o (λb hb=>?_) h1.nd λh'' e=>h1.congr e,λh P S=>ID.ri S.own⟩
  refine ⟨?_,h1.lt2 hb⟩
  obtain ⟨ad,e,rfl⟩:=hb
  exact h2 ad e
theorem Pj {T:Nat} {fo:Option (Nat × Nat)} {t:Thr} {id:Int} {R:Hp} (H:A9 h (M7 T fo t id*R)) (k:∀a' c' h' Q,A9 h' (Q*(M7 T fo t id*R))->(∀h P,A9 h (Q*P)->RI h a' t.retired.length c' t.retired)->K (lQ a' t.retired.length c') h') :
  A4 prog 238 #[pQ (some ⟨T,8,none⟩)] h K:=by
 refine call238 ?_
 unfold F238 cf lS nP
 obtain ⟨a,c,e0,ow⟩:=RU H
 have hB:=(RP H).len
 refine sb ?_
 refine C6 e0 ?_
 refine sb ?_
 refine A0 (Sm9 (ID.ri ow) (by omega) λa' c' h' hn o=>?_)
 refine sb ?_
 obtain ⟨Q,h1,h2⟩:=hn.part H o
 exact k a' c' h' Q h1 h2
theorem KS {w:Int} (hw:U w) (k:K (uQ (J5 w)) h):A4 prog 231 #[uQ w] h K:=by
 refine call231 ?_
 unfold F231 cf
 refine A0 (N9 hw ?_)
 refine sb ?_
 exact k
def cfV (c:Mod.Cf):vQ:=.agg #[iQ c.algo,iQ c.threads,iQ c.nodes,iQ c.level,iQ c.batch,iQ c.probes,iQ c.scan]
theorem cf7 {c:Mod.Cf} {F:vQ->vQ->vQ->vQ->vQ->vQ->vQ->Prop} (k:F (iQ c.algo) (iQ c.threads) (iQ c.nodes) (iQ c.level) (iQ c.batch) (iQ c.probes) (iQ c.scan)) :
 asAgg (cfV c) λvs=>G3 vs 7 (D9 vs 0 λv0=>D9 vs 1 λv1=>D9 vs 2 λv2=>D9 vs 3 λv3=>D9 vs 4 λv4=>D9 vs 5 λv5=>D9 vs 6 λv6=>F v0 v1 v2 v3 v4 v5 v6):=k
theorem V8 {p:Pl} (k:∀h',G9 h.size h h'->K (cfV p.c) h'):A4 prog 139 #[Pc p] h K:=by
 refine call139 ?_
 unfold F139 g139 da7 IE dw7
 rw [Hq]
 have p1:=G8 h (Ed p).toArray 117
 generalize h.push (oQ (Ed p).toArray 117)=h1 at *
 have p2:=G8 h1 Dp 23
 generalize h1.push (oQ Dp 23)=h2 at *
 have hs1:=p1.size
 have O:h2[h.size]? = some (oQ (Ed p).toArray 117):=(p2.old _ (by omega)).trans p1.new
 refine C4 O rfl (C4 O rfl (C4 O rfl (C4 O rfl (C4 O rfl (C4 O rfl (C4 O rfl ?_))))))
 refine st7 (F5 (vs:=Qk p.c) p2.new rfl (by simp [Qk,J0]) λh3 w=>?_)
 have Q:=w.new
 refine C4 Q rfl (C4 Q rfl (C4 Q rfl (C4 Q rfl (C4 Q rfl (C4 Q rfl (C4 Q rfl ?_))))))
 exact k h3 ((p1.toOld.trans (p2.toOld.mono (by omega))).trans ⟨by rw [w.size];exact G0 _,λc hc=>w.old c (by omega)⟩)
theorem Hv {p:Pl} (B:Ow p) (t s:Int):iN (p.haz t s):=by
 have h1:=B.th
 have h2:=B.sl
 have h3:=B.hz
 unfold Pl.haz
 split
 ·rename_i c
  have:t*p.slots<=6*14:=OA (by omega) (by omega) (by omega) (by omega)
  have h0:0<=t*p.slots:=QV (by omega) (by omega)
  constructor <;> omega
 ·constructor <;> omega
section
variable {K:kQ} {h:A2} {M T b o N:Nat} {tv:vQ} {fo:Option (Nat × Nat)} {x:B9} {R:Hp}
theorem A1.tc (H:A9 h (A1 M T tv fo x R)):A3 h ⟨T,0,Option.none⟩=some (iQ x.id)/\(∀F:vQ->Prop,D2 h ⟨T,0,Option.none⟩ F=F (iQ x.id))/\(∀F:vQ->Prop,D2 h ⟨T,2,Option.none⟩ F=F (uQ (x.ret 0)))/\(∀F:vQ->Prop,D2 h ⟨T,3,Option.none⟩ F=F (uQ (x.ret 1)))/\(∀F:vQ->Prop,D2 h ⟨T,4,Option.none⟩ F=F (uQ (x.ret 2))) /\
  A3 h ⟨T,2,Option.none⟩=some (uQ (x.ret 0))/\A3 h ⟨T,3,Option.none⟩=some (uQ (x.ret 1))/\(∀ob,A3 (h.push ob) ⟨T,2,Option.none⟩=some (uQ (x.ret 0)))/\(∀ob,A3 (h.push ob) ⟨T,3,Option.none⟩=some (uQ (x.ret 1)))/\(∀ob,A3 (h.push ob) ⟨T,0,Option.none⟩=some (iQ x.id)):=by
 obtain ⟨B,e⟩:=ND (A1.thr H)
 have c0:=F6 (i:=0) e rfl
 have c2:A3 h ⟨T,2,Option.none⟩=some (uQ (x.ret 0)):=F6 (i:=2) e rfl
 have c3:A3 h ⟨T,3,Option.none⟩=some (uQ (x.ret 1)):=F6 (i:=3) e rfl
 have c4:A3 h ⟨T,4,Option.none⟩=some (uQ (x.ret 2)):=F6 (i:=4) e rfl
 refine ⟨c0,λF=>?_,λF=>?_,λF=>?_,λF=>?_,c2,c3,λ_=>E9 c2,λ_=>E9 c3,λ_=>E9 c0⟩
 ·unfold D2;rw [c0]
 ·unfold D2;rw [c2]
 ·unfold D2;rw [c3]
 ·unfold D2;rw [c4]
theorem A1.al {N:Nat} {ty:TypeId} {v0 v1 v2:vQ} (H:A9 h (A1 M T tv (some (b,o)) x (pt N (.cells #[v0,v1,v2] ty)*R))):type_of% (J9 (A1.l H) (J9 (A1.r H) (J9 (A1.c H) (J9 (A1.cp H) (A1.tc H))))):=J9 (A1.l H) (J9 (A1.r H) (J9 (A1.c H) (J9 (A1.cp H) (A1.tc H))))
theorem RV (H:A9 h (A1 M T tv (some (b,o)) x R)) (hi:iN x.id) (hs:x.m.mm.st < 1099511627776) (k:∀h',A9 h' (A1 M T tv none (AE x) R)->K tQ h') :
  A4 prog 161 #[mP M,mP T,fP b o] h K:=by
 refine call161 ?_
 unfold F161 cf bd lI nP O8
 have B:=A1.fB H
 have P:=A1.pl H
 unfold AE at k
 refine sd2 (A1.r H) (A1.tc H) ?_
 apply A6<;>intro c
 ·rw [A8 c] at k
  refine A0 (M5 H (T9 _) hs λh1 H1 u1=>?_)
  refine sb ?_
  refine A1.stR (i:=2) H1 rfl u1 λh2 H2=>A1.stP H2 λh3 H3=>?_
  refine sd2 (A1.r H3) B.len ?_
  refine A0 (KS u1 ?_)
  refine sd2 (A1.r H3) B.len ?_
  apply A6<;>intro c2
  ·simp only [A8 c2] at k
   exact A0 (Qo H3 [(x.load (G2 (x.f.g 1))).1] rfl (X6 u1) (by omega) λh4 H4=>k h4 H4)
  ·simp only [A7 c2] at k
   exact k h3 (A1.none H3)
 rw [A7 c] at k
 apply A6<;>intro c
 ·rw [A8 c] at k
  refine A0 (Fh H λh1 H1=>By ?_)
  refine ⟨(A1.c H1).2.2.2.1,(A1.c H1).2.1,(A1.tc H1).1,?_⟩
  refine A0 (BP P hi (T9 _) λh2 o2=>?_)
  have H2:=A1.old H1 o2
  refine sd1 (A1.c H2) ?_
  refine A0 (KS (B.g 2) ?_)
  refine sb ?_
  refine A0 (U7 H2 (Hv P _ _) (U8 _) hs λh3 H3=>?_)
  exact A1.stP H3 λh4 H4=>k h4 (A1.none H4)
 ·rw [A7 c] at k
  refine A0 (M5 H (T9 _) hs λh1 H1 u1=>?_)
  refine sb ?_
  refine ⟨λvs h'=>vs = [dQ (decide ((x.load (G2 (x.f.g 1))).1=x.f.g 2\/J5 (x.load (G2 (x.f.g 1))).1=0))]/\h' = h1,?_,?_⟩
  ·refine sd1 (A1.r H1) ?_
   refine A6 (λq=>by rw [V6 (.inl q)]) (λq=>?_)
   refine A0 (KS u1 ?_)
   refine sb ?_
   congr 2
   rw [QU,beq_iff_eq,decide_eq_true_iff]
   exact ⟨.inr,λh=>h.resolve_left q⟩
  rintro v71 g72 h73 ⟨e,rfl⟩
  cases e
  refine sb ?_
  apply A6<;>intro c2
  ·simp only [A8 c2] at k
   exact A0 (Qo H1 [(x.load (G2 (x.f.g 1))).1] rfl (X6 u1) (by omega) λh4 H4=>k h4 H4)
  ·simp only [A7 c2] at k
   exact A1.stR (i:=2) H1 rfl u1 λh2 H2=>A1.stP H2 λh3 H3=>k h3 (A1.none H3)
theorem Sp9 (H:A9 h (A1 M T tv (some (b,o)) x R)) (hi:iN x.id) (hpc:0<=x.f.pc/\x.f.pc<=100) (hs:x.m.mm.st < 1099511627776) (k:∀h',A9 h' (A1 M T tv none (JS x) R)->K tQ h') :
  A4 prog 162 #[mP M,mP T,fP b o] h K:=by
 refine call162 ?_
 unfold F162 cf lI nP O8
 have B:=A1.fB H
 have P:=A1.pl H
 unfold JS at k
 refine sd2 (A1.r H) (A1.tc H) ?_
 refine A0 (Fh H λh1 H1=>By ?_)
 try refine ⟨(A1.c H1).1,?_⟩
 refine A0 (Bj λh2 o2=>?_)
 have H2:=A1.old H1 o2
 refine sd3 (A1.r H2) (A1.c H2) (A1.tc H2) ?_
 apply A6<;>intro c
 ·rw [A8 c] at k
  exact A0 (Pg H2 As.none (by omega) k)
 ·rw [A7 c] at k
  refine A0 (Fh H2 λh3 H3=>By ?_)
  refine ⟨(A1.c H3).1,(A1.tc H3).1,?_⟩
  refine A0 (BP P hi ⟨by omega,by omega⟩ λh4 o4=>?_)
  have H4:=A1.old H3 o4
  refine sb ?_
  refine A0 (U7 H4 (Hv P _ _) U0 hs λh5 H5=>?_)
  refine sd1 (A1.r H5) ?_
  rw [<- Hn,E3 (by omega) (by omega)]
  exact A1.stP H5 λh6 H6=>k h6 (A1.none H6)
theorem A1.ofRe {l:List Int} {h':A2} (H:A9 h' (M7 T fo (Thr.setRe x.t l) x.id*(M9 M tv x.m*R))):A9 h' (A1 M T tv fo (x.re l) R):=A1.ofThr H
theorem UN (H:A9 h (A1 M T tv (some (b,o)) x R)) (hl:x.t.retired.length < 1073741824) (hd:x.t.fr.length < 1073741824) (k:∀h',A9 h' (A1 M T tv none (Ci x) R)->K tQ h') :
  A4 prog 163 #[mP M,mP T,fP b o] h K:=by
 refine call163 ?_
 unfold F163 cf bd lI nP Jv O8
 have B:=A1.fB H
 have P:=A1.pl H
 unfold Ci at k
 refine sd1 (A1.r H) ?_
 refine A0 (Ti7 H (T9 _) λh1 H1=>?_)
 refine A0 (Pi (A1.thr H1) (T9 _) hl λh2 H2'=>?_)
 have H2:=A1.ofRe H2'
 refine A0 (Pg H2 As.none (by omega) λh3 H3=>?_)
 refine A0 (DV (A1.thr H3) ?_)
 refine sb ?_
 refine A0 (Fh H3 λh4 H4=>By ?_)
 refine A0 (V8 λh5 o5=>cf7 ?_)
 have H5:=A1.old H4 o5
 refine sb ?_
 apply A6<;>intro c
 ·simp only [A8 c] at k
  refine A0 (UI H5 As.none (by omega) ?_ λh6 b6 o6 _ _ H6=>k h6 (A1.none H6))
  show (Thr.pop _ _).fr.length < _
  unfold Thr.pop
  split
  ·exact hd
  ·simp only [List.length_dropLast]
   show x.t.fr.length - 1 < _
   omega
 ·simp only [A7 c] at k
  exact k h5 (A1.none H5)
end
end
section
open Mod
theorem Hw {h:A2} {N:Nat} {p:Pl} {ty:TypeId} {F:vQ->vQ->vQ->vQ->vQ->vQ->vQ->vQ->vQ->vQ->vQ->vQ->vQ->vQ->vQ->Prop} (O:h[N]? = some (oQ (Ed p).toArray ty))
  (k:F (iQ p.c.algo) (iQ p.c.threads) (iQ p.c.nodes) (iQ p.c.level) (iQ p.c.batch) (iQ p.c.probes) (iQ p.c.scan) (iQ p.slots) (iQ p.width) (iQ p.sent) (iQ p.hazards) (iQ p.links) (iQ p.nodes) (iQ p.tree) (iQ p.size)) :
  D2 h (aQ N) λv0=>D2 h ⟨N,1,none⟩ λv1=>D2 h ⟨N,2,none⟩ λv2=>D2 h ⟨N,3,none⟩ λv3=>D2 h ⟨N,4,none⟩ λv4=>D2 h ⟨N,5,none⟩ λv5=>D2 h ⟨N,6,none⟩ λv6=>D2 h ⟨N,7,none⟩ λv7=>D2 h ⟨N,8,none⟩ λv8=>D2 h ⟨N,9,none⟩ λv9=>D2 h ⟨N,10,none⟩ λv10=>D2 h ⟨N,11,none⟩ λv11=>D2 h ⟨N,12,none⟩ λv12=>D2 h ⟨N,13,none⟩ λv13=>D2 h ⟨N,14,none⟩ λv14=>F v0 v1 v2 v3 v4 v5 v6 v7 v8 v9 v10 v11 v12 v13 v14:=
 C4 O rfl (C4 O rfl (C4 O rfl (C4 O rfl (C4 O rfl (C4 O rfl (C4 O rfl (C4 O rfl (C4 O rfl (C4 O rfl (C4 O rfl (C4 O rfl (C4 O rfl (C4 O rfl (C4 O rfl k))))))))))))))
theorem YM {h:A2} {N:Nat} {p:Pl} {ty:TypeId} {X:Prop} (O:h[N]? = some (oQ (Ed p).toArray ty)) (k:X) :
  A3 h (aQ N)=some (iQ p.c.algo)/\A3 h ⟨N,1,none⟩=some (iQ p.c.threads)/\A3 h ⟨N,2,none⟩=some (iQ p.c.nodes)/\A3 h ⟨N,3,none⟩=some (iQ p.c.level)/\A3 h ⟨N,4,none⟩=some (iQ p.c.batch)/\A3 h ⟨N,5,none⟩=some (iQ p.c.probes)/\A3 h ⟨N,6,none⟩=some (iQ p.c.scan)/\A3 h ⟨N,7,none⟩=some (iQ p.slots)/\A3 h ⟨N,8,none⟩=some (iQ p.width)/\A3 h ⟨N,9,none⟩=some (iQ p.sent)/\A3 h ⟨N,10,none⟩=some (iQ p.hazards)/\A3 h ⟨N,11,none⟩=some (iQ p.links)/\A3 h ⟨N,12,none⟩=some (iQ p.nodes)/\A3 h ⟨N,13,none⟩=some (iQ p.tree)/\A3 h ⟨N,14,none⟩=some (iQ p.size)/\X:=
 ⟨F6 O rfl,F6 O rfl,F6 O rfl,F6 O rfl,F6 O rfl,F6 O rfl,F6 O rfl,F6 O rfl,F6 O rfl,F6 O rfl,F6 O rfl,F6 O rfl,F6 O rfl,F6 O rfl,F6 O rfl,k⟩
theorem c15 {h:A2} {N:Nat} {p:Pl} {ty:TypeId} (O:h[N]? = some (oQ (Ed p).toArray ty)):A3 h (aQ N)=some (iQ p.c.algo)/\A3 h ⟨N,1,none⟩=some (iQ p.c.threads)/\A3 h ⟨N,2,none⟩=some (iQ p.c.nodes)/\A3 h ⟨N,3,none⟩=some (iQ p.c.level)/\A3 h ⟨N,4,none⟩=some (iQ p.c.batch)/\A3 h ⟨N,5,none⟩=some (iQ p.c.probes)/\A3 h ⟨N,6,none⟩=some (iQ p.c.scan)/\A3 h ⟨N,7,none⟩=some (iQ p.slots)/\A3 h ⟨N,8,none⟩=some (iQ p.width)/\A3 h ⟨N,9,none⟩=some (iQ p.sent)/\A3 h ⟨N,10,none⟩=some (iQ p.hazards)/\A3 h ⟨N,11,none⟩=some (iQ p.links)/\A3 h ⟨N,12,none⟩=some (iQ p.nodes)/\A3 h ⟨N,13,none⟩=some (iQ p.tree)/\A3 h ⟨N,14,none⟩=some (iQ p.size):=
 ⟨F6 O rfl,F6 O rfl,F6 O rfl,F6 O rfl,F6 O rfl,F6 O rfl,F6 O rfl,F6 O rfl,F6 O rfl,F6 O rfl,F6 O rfl,F6 O rfl,F6 O rfl,F6 O rfl,F6 O rfl⟩
section
variable {K:kQ} {h:A2} {M T b o N:Nat} {tv:vQ} {fo:Option (Nat × Nat)} {x:B9} {R:Hp}
theorem SL8 {h:A2} {b c:Nat} {r1 r2:Array vQ} {t1 t2:TypeId} (e1:h[b]? = some (oQ r1 t1)) (e2:h[c]? = some (oQ r2 t2)) (hne:t1≠t2):b≠c:=by
 rintro rfl
 rw [e1] at e2
 have:=GG (λo:Option Obj=>match o with | some (.cells _ t _)=>some t | _=>none) e2
 exact hne (by simpa using this)
theorem UO {h:A2} {P T:Nat} {av:Nat->Prop} {a:rQ} {l c:Nat} {xs:List Int} (e1:A3 h (aQ P)=some (mP T)) (e2:A3 h ⟨T,9,none⟩=some (lQ a l c)) (R:RI h a l c xs) (hl:l < 2 ^ 60) (n1:¬ av P) (n2:¬ av T) (n3:xs≠[]->∀ad,a=some ad->¬ av ad.block) :
  DU av (.func (.func 236) #[] #[pQ (some (aQ P))]) (λ_=>True) (λy=>xs.contains y) h:=by
 refine ⟨⟨_,_,_,rfl⟩,λh=>A3 h (aQ P)=some (mP T)/\A3 h ⟨T,9,none⟩=some (lQ a l c)/\RI h a l c xs,⟨e1,e2,R⟩,λh h' o e=>⟨o.cell n1 e.1,o.cell n2 e.2.1,e.2.2.congrA o n3⟩,?_⟩
 rintro h y K ⟨e1,e2,R⟩ _ k
 refine FK ?_
 rw [cl2]
 refine call236 ?_
 unfold F236 cf lS lP nP
 refine sb ?_
 refine C6 e1 ?_
 refine sb ?_
 refine C6 e2 ?_
 refine sb ?_
 refine A0 (NF R hl ?_)
 refine sb ?_
 exact k h (G9.refl _ _)
theorem A9.pt_ne {h:A2} {N M:Nat} {o o':Obj} {R:Hp} (H:A9 h (pt N o*(pt M o' * R))):M≠N:=by
 obtain ⟨_,s,σ,τ,d,rfl,p,_,_,d2,rfl,q,r⟩:=H
 rintro rfl
 have h1:=q M
 have h2:=p M
 rw [A8 rfl] at h1 h2
 rcases d M with e | e
 ·rw [e] at h2;cases h2
 ·have:=(Di.1 e).1
  rw [this] at h1;cases h1
theorem Pk {P:Nat} {h:A2} {T:Nat} {fo:Option (Nat × Nat)} {t:Thr} {id:Int} {ty:TypeId} {R:Hp} (H:A9 h (M7 T fo t id*(pt P (oQ #[mP T] ty)*R)))
  (k:∀n h',A9 h' (M7 T fo (Thr.setRe t (t.retired.filter λy=>t.found.contains y)) id*(pt P (oQ #[mP T] ty)*R))->K (iQ n) h') :
  A4 prog 239 #[pQ (some ⟨T,8,none⟩),.func (.func 236) #[] #[pQ (some (aQ P))]] h K:=by
 refine call239 ?_
 unfold F239 cf lS nP
 have TB:=RP H
 rw [<- F2] at H
 obtain ⟨R',hR',bR',H⟩:=H.freeze
 rw [F2] at H
 refine ⟨λvs h'=>vs = [dQ false]/\h' = h,?_,?_⟩
 ·simp only [Dh,E7,X0]
  exact ⟨by trivial,by trivial⟩
 rintro v2 g3 h4 ⟨e,rfl⟩
 cases e
 refine sb ?_
 have k:∀n h',A9 h' (M7 T fo (Thr.setRe t (t.retired.filter λy=>t.found.contains y)) id*(pt P (oQ #[mP T] ty)*R'))->K (iQ n) h':=λn h' H'=>by
  rw [<- F2] at H'
  have H2:=H'.mono2 hR'
  rw [F2] at H2
  exact k n h' H2
 clear hR'
 have H1:=H.push (oQ #[lQ none 0 0] 25)
 generalize h4.push (oQ #[lQ none 0 0] 25)=h5 at *
 generalize h4.size=N at *
 obtain ⟨B,x,H2⟩:=J8.1 H1.drop
 have e8:=F6 (i:=8) H2.at rfl
 have e9:=F6 (i:=9) H2.at rfl
 have oR:=A9.own (A9.drop (A9.drop (A9.drop (A9.drop (A9.drop H2)))))
 have oF:=A9.ownf (A9.drop (A9.drop (A9.drop (A9.drop (A9.drop (A9.drop H2))))))
 have eP:h5[P]? = some (oQ #[mP T] ty):=H1.drop.drop.at
 have H3:A9 h5 (pt N (oQ #[lQ none 0 0] 25)*(M7 T fo t id*(pt P (oQ #[mP T] ty)*R'))):=H1
 have hN:h5[N]? = some (oQ #[lQ none 0 0] 25):=H3.at
 have hTN:T≠N:=SL8 H2.at hN (by decide)
 have hPN:P≠N:=A9.pt_ne (A9.ac H3 (by ac_rfl):A9 h5 (pt N (oQ #[lQ none 0 0] 25)*(pt P (oQ #[mP T] ty)*(M7 T fo t id*R'))))
 have nR:∀ad,B.re=some ad->¬ ad.block=N:=λad ea e=>by
  have eN:=oR.sees
  rcases oR.2.2 with ⟨y,_⟩ | ⟨b,row,y,hb,_⟩
  ·rw [ea] at y;cases y
  ·rw [ea] at y;cases y
   exact SL8 hb hN (by decide) e
 have nF:∀ad,B.fo=some ad->¬ ad.block=N:=λad ea e=>by
  rcases oF.2.2 with ⟨y,_⟩ | ⟨b,o,row,y,hb,_⟩
  ·rw [ea] at y;cases y
  ·rw [ea] at y;cases y
   exact SL8 hb hN (by decide) e
 have hlen:=TB.len
 refine C6 e8 ?_
 refine sb ?_
 have hNs:N < h5.size:=(Jx.1 hN).1
 refine A0 (Sp8 (av:=λb=>b=N) (ID.ri oR) (by omega) (λ_=>nR) (λb hb=>by rw [hb];exact hNs) λg h6 S6 o6=>?_)
 have hk:DU (λb=>b=N) (.func (.func 236) #[] #[pQ (some (aQ P))]) (λ_=>True) (λy=>t.found.contains y) h5:=
  UO (by rw [E5 eP];rfl) e9 oF.ri (by omega) hPN hTN (λ_=>nF)
 refine A0 (YJ S6 (hk.old (KR.of o6)) (λ_ _=>trivial) (λb hb=>by rw [hb];have:=o6.1;omega) λg' h7 S7 o7=>?_)
 have o57:G9 h5.size h5 h7:=o6.trans (o7.mono o6.1)
 have H7:=H3.old o57
 refine Ph S7 H7.at (R4 (QY _ _) (by omega)) λh8 a c s8 old8 n8 own8 new8=>?_
 have H8:=H7.collect s8 old8 n8 own8 new8
 have H9:A9 h8 (E8 3 1 a _ c _*(M7 T fo t id*(pt P (oQ #[mP T] ty)*R'))):=H8.drop2
 obtain ⟨a1,c1,e1,_⟩:=RU H9.drop
 refine C6 e1 ?_
 refine sb ?_
 refine C6 (Z3 n8) ?_
 refine sb ?_
 refine C6 (Z3 n8) ?_
 refine sb ?_
 refine YK H9 (λv hv=>TB.re v ((List.mem_filter.1 hv).1)) (R4 (QY _ _) (by omega)) λh9 H10=>?_
 intro h10 hsd
 rw [<- F2] at H10
 have H11:=H10.sameD (S24.star IN.pt) bR' hsd
 rw [F2] at H11
 exact k _ h10 H11
theorem UP {h:A2} {N:Nat} {t:Thr} {id:Int} {a:rQ} {c:Nat} {Q S:Hp} {REST:vQ->vQ->vQ->A2->Prop} (hQ:∀h P,A9 h (Q*P)->RI h a t.retired.length c t.retired) (hS:∀h P,A9 h (P*S)->A3 h ⟨N,0,Option.none⟩=some (mP T)) (hl:t.retired.length<=1073741824) (hl2:t.found.length<=1073741824)
  (H:A9 h (Q*(M7 T fo t id*S)))
  (k:∀oa oc h',A9 h' (E8 3 1 oa (t.retired.filter (λn=>!t.found.contains n)).length oc ((t.retired.filter (λn=>!t.found.contains n)).map iv)*(Q*(M7 T fo t id*S)))->∀v189 v190,REST (lQ oa (t.retired.filter (λn=>!t.found.contains n)).length oc) v189 v190 h') :
  R3 λI=>GI λm=>I [lQ Option.none 0 0,tQ,iQ 0] h/\∀v188:vQ,∀v189:vQ,∀v190:vQ,∀g191:G4,∀h192:A2,I [v188,v189,v190] h192->asInt .i64 v190 λn193=>D4 (decide (n193 < ((t.retired.length:Nat):Int)))
   (Il v190 λn194=>((0:Int)<=n194)/\((n194:Int) < ((t.retired.length:Nat):Int))/\F3 (pQ a) λa195=>D2 h192 (a195.add n194.toNat) λv196=>asInt .i64 v196 λn197=>Aj prog (.func (.func 236) #[] #[pQ (some ⟨N,0,Option.none⟩)]) #[iQ n197] h192 λv198 h199=>asBool v198 λb200=>
    D4 (!b200) (D3 v188 λo201 k202 k203=>U4 prog #[25,25] 25 #[lQ o201 k202 k203,lQ (some ⟨h199.size,0,Option.none⟩) 1 1] (h199.push (oQ #[iQ n197] 3)) λv204 h205=>D3 v204 λo206 k207 k208=>asInt .i64 v190 λn209=>
      I [lQ o206 k207 k208,iQ n197,iQ (G2 (n209+1))] h205/\m [lQ o206 k207 k208,iQ n197,iQ (G2 (n209+1))] h205 < m [v188,v189,v190] h192)
     (asInt .i64 v190 λn210=>I [v188,iQ n197,iQ (G2 (n210+1))] h199/\m [v188,iQ n197,iQ (G2 (n210+1))] h199 < m [v188,v189,v190] h192))
   (REST v188 v189 v190 h192):=by
 refine ⟨λvs h'=>∃oa oc w,∃i:Nat,∃out:List Int,vs = [lQ oa out.length oc,w,iv i]/\i<=t.retired.length/\out=(t.retired.take i).filter (λn=>!t.found.contains n)/\A9 h' (E8 3 1 oa out.length oc (out.map iv)*(Q*(M7 T fo t id*S))),
  λvs _=>(match vs with | [_,_,.int _ n]=>t.retired.length - n.toNat | _=>0),⟨Option.none,0,_,0,[],rfl,T4 _,rfl,H.own_new _ _⟩,?_⟩
 rintro v188 v189 v190 g191 h9 ⟨oa,oc,w,i,out,e,hi,hout,H9⟩
 cases e
 refine sb ?_
 have eN9:=hS h9 _ (A9.ac H9 (by simp only [<- F2]):A9 h9 (E8 3 1 oa out.length oc (out.map iv)*Q*M7 T fo t id*S))
 refine A6 (λhlt=>?_) (λhge=>?_)
 ·have hlt':i < t.retired.length:=by omega
  have RI9:=hQ h9 _ H9.drop
  obtain ⟨ad,rfl,hc⟩:=RI9.at hlt'
  have htk:(t.retired.take (i+1)).filter (λn=>!t.found.contains n)=out ++ (if t.found.contains t.retired[i] then [] else [t.retired[i]]):=by
   rw [Ab hlt',QW,<- hout]
   congr 1
   cases hcn:t.found.contains t.retired[i] <;> simp only [List.filter_cons,List.filter_nil,hcn,MF,IV,if_true,Cd,if_false]
  have hol:out.length<=i:=by rw [hout];exact R4 (QY _ _) (by rw [CM];omega)
  generalize t.retired[i]=y at *
  refine ⟨by omega,by omega,?_⟩
  refine C6 hc ?_
  refine sb ?_
  obtain ⟨a9,c9,e99,of9⟩:=S28 H9.drop.drop
  refine DU.call (av:=λ_=>False) (UO eN9 e99 of9.ri (by omega) (λh=>h) (λh=>h) (λ_ _ _ h=>h)) trivial λh10 o10=>?_
  have H10:=H9.old o10
  refine sb ?_
  have hw:IntKind.i64.wrap ((i:Int)+1)=((i+1:Nat):Int):=N8 (by omega)
  rw [Hn] at hw
  cases hcn:t.found.contains y with
  | false=>
   simp only [hcn,Cd,if_false] at htk
   refine sb ?_
   refine H10.app1 (by omega) λa' c' h11 H11=>?_
   refine se1 hw ?_
   exact ⟨⟨a',c',iQ y,i+1,out ++ [y],by rw [DK];rfl,by omega,htk.symm,by rw [DK];exact H11⟩,by show t.retired.length - ((i+1:Nat):Int).toNat < t.retired.length - (i:Int).toNat;omega⟩
  | true=>
   simp only [hcn,if_true,Xv] at htk
   refine se1 hw ?_
   exact ⟨⟨oa,oc,iQ y,i+1,out,rfl,by omega,htk.symm,H10⟩,by show t.retired.length - ((i+1:Nat):Int).toNat < t.retired.length - (i:Int).toNat;omega⟩
 ·have hi2:i=t.retired.length:=by omega
  rw [hi2,EH] at hout
  subst hout
  exact k oa oc h9 H9 _ _
theorem A1.wr {ob ob':Obj} {h':A2} (H:A9 h (A1 M T tv fo x (pt N ob*R))) (new:h'[N]? = some ob') (old:∀c,c≠N->h'[c]? = h[c]?) (ho:Nd ob':=by intro x e;cases e):A9 h' (A1 M T tv fo x (pt N ob' * R)):=
 A9.ac (A9.wr (A9.ac H (by unfold A1;ac_rfl):A9 h (pt N ob*(M9 M tv x.m*(M7 T fo x.t x.id*R)))) new old ho) (by unfold A1;ac_rfl)
theorem A1.setFo {a:rQ} {l c:Nat} {xs:List Int} {F:A2->Prop} (H:A9 h (DP a l c xs*A1 M T tv fo x R)) (hx:∀v ∈ xs,iN v) (hl:l<=1073741824) (k:∀h',A9 h' (A1 M T tv fo (x.fo xs) R)->F h'):C7 h ⟨T,9,Option.none⟩ (lQ a l c) F:=
 YL (A9.ac H (by unfold A1;ac_rfl):A9 h (DP a l c xs*(M7 T fo x.t x.id*(M9 M tv x.m*R)))) hx hl λh' H'=>k h' (A1.ofThr H')
theorem Sq0 (H:A9 h (A1 M T tv (some (b,o)) x R)) (hpc:0<=x.f.pc/\x.f.pc<=100) (hs:x.m.mm.st < 1099511627776) (hf:x.t.found.length < 1073741824) (hd:x.t.fr.length < 1073741824) (k:∀h',A9 h' (A1 M T tv none (scan x) R)->K tQ h') :
  A4 prog 164 #[mP M,mP T,fP b o] h K:=by
 refine call164 ?_
 unfold F164 cf bd lS lP lI nP SI2 Jv O8 BO ce
 have P:=A1.pl H
 unfold scan at k
 dsimp only at k
 have H1:=A1.new H (oQ #[mP T] 176)
 generalize h.push (oQ #[mP T] 176)=h1 at *
 generalize h.size=N at *
 refine A0 (Fh H1 λh2 H2=>By ?_)
 have H3:=A1.new H2 (oQ AA 117)
 generalize h2.push (oQ AA 117)=h3 at *
 generalize h2.size=N2 at *
 refine OV (F5 (vs:=Ed x.m.p) (A1.loc H3) rfl (by simp [J0]) λh4 w=>?_)
 have H4:=A1.wr H3 w.new w.old
 refine Hw (A1.loc H4) (Hw (A1.loc H4) ?_)
 refine A0 (Bj λh5 o5=>?_)
 have H5:=A1.old H4 o5
 refine sb ?_
 refine YM (A1.loc H5) ?_
 refine A0 (V8 λh6 o6=>cf7 ?_)
 have H6:=A1.old H5 o6
 refine sb ?_
 have hsl:=P.sl
 have hth:=P.th
 have hall:0<=x.m.p.slots*x.m.p.c.threads/\x.m.p.slots*x.m.p.c.threads<=84:=⟨QV (by omega) (by omega),Int.le_trans (OA hsl.2 hth.2 (by omega) (by omega)) (by omega)⟩
 have e84:G2 (x.m.p.slots*x.m.p.c.threads)=x.m.p.slots*x.m.p.c.threads:=by unfold G2;omega
 rw [e84]
 refine ⟨λvs h'=>vs = []/\A9 h' (A1 M T tv (some (b,o)) (if x.f.pc=0 then x.fo [] else x) (pt N2 (oQ (Ed x.m.p).toArray 117)*(pt N (oQ #[mP T] 176)*R))),?_,?_⟩
 ·refine sd1 (A1.r H6) ?_
  apply A6<;>intro c
  ·rw [A8 c]
   refine C6 (v:=mP T) (E5 (A1.loc2 H6) 0) ?_
   refine sb ?_
   refine A1.setFo (A9.toF (xs:=[]) (A9.own_new H6 3 1)) (λv hv=>by cases hv) (by omega) λh7 H7=>H7
  ·rw [A7 c]
   exact H6
 rintro g85 h86 ⟨_,H7⟩
 generalize hx1:(if x.f.pc=0 then x.fo [] else x)=x1 at *
 have ep:x1.m=x.m:=by rw [<- hx1];split <;> rfl
 have ef:x1.f=x.f:=by rw [<- hx1];split <;> rfl
 have efr:x1.t.fr=x.t.fr:=by rw [<- hx1];split <;> rfl
 have efo:x1.t.found.length<=x.t.found.length:=by rw [<- hx1];split;exact T4 _;exact G0 _
 rw [ef] at k
 refine sd2 (A1.r H7) ef ?_
 have eN:=E5 (A1.loc2 H7) 0
 have eN':A3 h86 (aQ N)=some (mP T):=eN
 have ldN:∀F:vQ->Prop,D2 h86 (aQ N) F=F (mP T):=λF=>by unfold D2;rw [eN']
 apply A6<;>intro c
 ·rw [A8 c] at k
  try simp only [G5,GN,Nat.reduceAdd,Int.reduceLE,Int.reduceLT,Int.reduceToNat,ldN]
  obtain ⟨a,cc,Q,e9,HQ,re⟩:=Ly (A1.thr H7)
  refine C6 (e9 h86 _ HQ.drop) ?_
  refine sb ?_
  refine Hw (A1.loc H7) ?_
  refine Hw (A1.loc H7) ?_
  refine Hw (A1.loc H7) ?_
  refine A0 (Bj λh8 o8=>?_)
  have H8:=A1.old H7 o8
  refine sb ?_
  have eN8:A3 h8 (aQ N)=some (mP T):=E5 (A1.loc2 H8) 0
  have e98:=e9 h8 _ (HQ.old o8).drop
  try simp +decide only [G5,GN,Nat.reduceAdd,Int.reduceLE,Int.reduceLT,Int.reduceToNat,Ox,Ht,L9,c15 (A1.loc H8),A1.c H8,ef,eN8,e98]
  refine ⟨by omega,?_⟩
  refine A0 (Bj λh9 o9=>?_)
  have H9:=A1.old H8 o9
  have eN9:A3 h9 (aQ N)=some (mP T):=E5 (A1.loc2 H9) 0
  have e99:=e9 h9 _ ((HQ.old o8).old o9).drop
  try simp +decide only [G5,GN,Nat.reduceAdd,Int.reduceLE,Int.reduceLT,Int.reduceToNat,Ox,Ht,L9,c15 (A1.loc H9),A1.c H9,ef,eN9,e99]
  refine ⟨by omega,?_⟩
  have hd0:0<=x.f.pc / x.m.p.slots:=Sk2 (by omega) (by omega)
  have hd1:x.f.pc / x.m.p.slots<=x.f.pc:=Sk1 _ (by omega)
  have hm0:0<=x.f.pc % x.m.p.slots:=Int.emod_nonneg _ (by omega)
  have hm1:x.f.pc % x.m.p.slots < x.m.p.slots:=Int.emod_lt_of_pos _ (by omega)
  have e1:G2 (Int.tdiv x.f.pc x.m.p.slots)=x.f.pc / x.m.p.slots:=by
   rw [Sk3 (by omega)];unfold G2;omega
  have e2:Int.tmod x.f.pc x.m.p.slots=x.f.pc % x.m.p.slots:=Sk4 (by omega)
  rw [e1,e2]
  refine A0 (BP P ⟨by omega,by omega⟩ ⟨by omega,by omega⟩ λh10 o10=>?_)
  have o86:G9 h86.size h86 h10:=(o8.trans (o9.mono o8.1)).trans (o10.mono (R4 o8.1 o9.1))
  have HQ10:=HQ.old o86
  have H10:=A1.old H7 o86
  refine sb ?_
  have eN10:A3 h10 (aQ N)=some (mP T):=E5 (A1.loc2 H10) 0
  refine ⟨e9 h10 _ HQ10.drop,eN10,eN10,?_⟩
  rw [Jk] at HQ10
  have hs1:x1.m.mm.st < 1099511627776:=by rw [ep];exact hs
  refine A0 (Ny HQ10 (Hv P _ _) hs1 λh12 H12 u12=>?_)
  have eN12:A3 h12 (aQ N)=some (mP T):=E5 H12.drop.drop.drop.drop.at 0
  try simp only [G5,GN,Nat.reduceAdd,Int.reduceLE,Int.reduceLT,Int.reduceToNat,eN12,e9 h12 _ H12.drop.drop]
  have hB:=A1.B H7
  rw [<- Jk] at H12
  refine ⟨E9 (e9 h12 _ H12.drop),E9 eN12,E9 eN12,?_⟩
  refine A9.appF H12 (by omega) λa' c' h13 H13=>?_
  have eN13:A3 h13 (aQ N)=some (mP T):=E5 H13.drop.drop.drop.drop.at 0
  refine se1 eN13 ?_
  refine re _ h13 a' _ c' _ (by omega) (λv hv=>?_) H13 _ λh14 H14=>?_
  ·rcases GR.1 hv with h1 | h1
   ·exact hB.fo v h1
   ·rw [Fq.1 h1];exact T9 _
  have H15:=A1.ofThr H14
  have ef2:(⟨(x1.m.load (x.m.p.haz (x.f.pc / x.m.p.slots) (x.f.pc % x.m.p.slots))).2,Thr.setFo x1.t (x1.t.found ++ [G2 (x1.m.load (x.m.p.haz (x.f.pc / x.m.p.slots) (x.f.pc % x.m.p.slots))).1]),x1.id⟩ : B9).f=x.f:=ef
  refine sd2 (A1.r H15) ef2 ?_
  have e3:G2 (x.f.pc+1)=x.f.pc+1:=by unfold G2;omega
  rw [e3]
  exact A1.stP H15 λh16 H16=>k h16 (A1.drp (A1.drp (A1.none H16)))
 ·rw [A7 c] at k
  clear H1 H2 H3 H4 H5 H6 w o5 o6 hx1
  have B7:=A1.B H7
  have ere:x1.t.retired.length<=1073741824:=B7.len.2.1
  refine ⟨λvs h'=>∃v0 v1 v2,vs = [v0,v1,v2]/\A9 h' (A1 M T tv (some (b,o)) (Cj x1 (x.m.p.slots*x.m.p.c.threads)) (pt N2 (oQ (Ed x.m.p).toArray 117)*(pt N (oQ #[mP T] 176)*R))),?_,?_⟩
  ·unfold Cj
   refine sd2 (A1.r H7) ef ?_
   apply A6<;>intro c2
   ·rw [A8 c2]
    try simp only [G5,GN,Nat.reduceAdd,Int.reduceLE,Int.reduceLT,Int.reduceToNat,ldN]
    refine A0 (Pj (A1.thr H7) λa c' h8 Q H8 hQ=>?_)
    refine sb ?_
    refine UP hQ (λh P HP=>E5 (A9.ac HP (by ac_rfl):A9 h (pt N (oQ #[mP T] 176)*(P*(M9 M tv x1.m*(pt N2 (oQ (Ed x.m.p).toArray 117)*R))))).at 0) ere (by have:=B7.len;omega) H8 λoa oc h9 H9 v189 v190=>?_
    have eN9:A3 h9 (aQ N)=some (mP T):=E5 H9.drop.drop.drop.drop.drop.at 0
    have hout:∃out,out=x1.t.retired.filter (λn=>!x1.t.found.contains n):=⟨_,rfl⟩
    obtain ⟨out,hout⟩:=hout
    rw [<- hout] at H9 ⊢
    ·have ldN9:∀F:vQ->Prop,D2 h9 (aQ N) F=F (mP T):=λF=>by unfold D2;rw [eN9]
     refine se1 ldN9 ?_
     have H10:A9 h9 (M7 T (some (b,o)) x1.t x1.id*(pt N (oQ #[mP T] 176)*(E8 3 1 oa out.length oc (out.map iv)*(M9 M tv x1.m*(pt N2 (oQ (Ed x.m.p).toArray 117)*R))))):=
      A9.drop (P:=Q) (A9.ac H9 (by ac_rfl))
     refine A0 (Pk H10 λnk h11 H11=>?_)
     have eN11:A3 h11 (aQ N)=some (mP T):=E5 H11.drop.at 0
     have ldN11:∀F:vQ->Prop,D2 h11 (aQ N) F=F (mP T):=λF=>by unfold D2;rw [eN11]
     refine se1 ldN11 ?_
     have H12:A9 h11 (DP oa out.length oc out*A1 M T tv (some (b,o)) (x1.re (x1.t.retired.filter λn=>x1.t.found.contains n)) (pt N2 (oQ (Ed x.m.p).toArray 117)*(pt N (oQ #[mP T] 176)*R))):=
      A9.toF (A9.ac H11 (by unfold A1;ac_rfl))
     refine A1.setFo H12 (λv hv=>B7.re v (by rw [hout] at hv;exact (List.mem_filter.1 hv).1)) (by rw [hout];exact R4 (QY _ _) ere) λh13 H13=>?_
     have ef2:((x1.re (x1.t.retired.filter λn=>x1.t.found.contains n)).fo out).f=x.f:=ef
     refine sd2 (A1.r H13) ef2 ?_
     have e3:G2 (x.f.pc+1)=x.f.pc+1:=by unfold G2;omega
     rw [e3]
     exact A1.stP H13 λh14 H14=>⟨_,_,_,rfl,H14⟩
   ·rw [A7 c2]
    exact ⟨_,_,_,rfl,H7⟩
  rintro v229 v230 v231 g232 h233 ⟨w0,w1,w2,e,H8⟩
  cases e
  have ed:(Cj x1 (x.m.p.slots*x.m.p.c.threads)).t.fr.length < 1073741824:=by
   unfold Cj
   split
   ·show (x1.t.fr.dropLast ++ [_]).length < _
    rw [efr];simp;omega
   ·rw [efr];exact hd
  generalize Cj x1 (x.m.p.slots*x.m.p.c.threads)=x2 at *
  have eN8:A3 h233 (aQ N)=some (mP T):=E5 (A1.loc2 H8) 0
  have ldN8:∀F:vQ->Prop,D2 h233 (aQ N) F=F (mP T):=λF=>by unfold D2;rw [eN8]
  have B8:=A1.B H8
  obtain ⟨a,cc,Q,e9,HQ,re⟩:=Ly (A1.thr H8)
  have ld9:∀F:vQ->Prop,D2 h233 ⟨T,9,none⟩ F=F (lQ a x2.t.found.length cc):=λF=>by unfold D2;rw [e9 h233 _ HQ.drop]
  try simp only [G5,GN,Nat.reduceAdd,Int.reduceLE,Int.reduceLT,Int.reduceToNat,ldN8,ld9]
  unfold GL at k
  cases hfo:x2.t.found with
  | nil=>
   rw [hfo] at k
   try simp only [G5,GN,Nat.reduceAdd,Int.reduceLE,Int.reduceLT,Int.reduceToNat,SE1]
   exact A0 (Pg H8 As.none (by omega) λh9 H9=>k h9 (A1.drp (A1.drp H9)))
  | cons n rest=>
   rw [hfo] at k HQ
   have hl:((((n :: rest).length:Nat):Int) == 0)=false:=by rw [beq_eq_false_iff_ne,Jy];omega
   rw [hl]
   try simp only [G5,GN,Nat.reduceAdd,Int.reduceLE,Int.reduceLT,Int.reduceToNat,ldN8,ld9]
   refine ⟨by rw [Jy];omega,?_⟩
   have ow:=HQ.ownf
   obtain ⟨ad,rfl,hc⟩:=ow.ri.at (i:=0) (by simp)
   rw [add_zero] at hc
   obtain ⟨tl,hsub⟩:=ow.tail
   refine sb ?_
   refine C6 hc ?_
   refine sb ?_
   refine ⟨by rw [Jy];omega,?_⟩
   obtain ⟨_,hlt2,re2⟩:=HQ.opn
   have HT:=re2 h233 (GU (Ha (some ad) 1 cc 1)) (λh=>EG h (Ha (some ad) 1 cc 1) ((n :: rest).length - 1) (cc - 1) rest) (Fr.refl _ _) (λb2 hb2=>⟨.inl (hsub b2 hb2),hlt2 b2 (hsub b2 hb2)⟩) tl.nd λh'' e=>tl.congr e
   have hfl:=B8.len.2.2
   rw [hfo] at hfl
   refine re _ h233 _ _ _ rest (by omega) (λv hv=>B8.fo v (by rw [hfo];exact List.mem_cons_of_mem _ hv)) HT _ λh9 H9=>?_
   have H10:A9 h9 (A1 M T tv (some (b,o)) (x2.fo rest) _):=A1.ofThr H9
   have eN10:A3 h9 (aQ N)=some (mP T):=E5 (A1.loc2 H10) 0
   have ldN10:∀F:vQ->Prop,D2 h9 (aQ N) F=F (mP T):=λF=>by unfold D2;rw [eN10]
   refine se1 ldN10 ?_
   exact A0 (YH H10 [u64 n] rfl (X6 (S9 _)) (by omega) ed λh11 b2 o2 _ _ H11=>k h11 (A1.drp (A1.drp (A1.none H11))))
end
end
section
open Mod
structure Ok (x:B9):Prop where
 st:x.m.mm.st < 1099511627776
 us:x.m.used < 1099511627776
 re:x.t.retired.length < 1073741824
 fo:x.t.found.length < 1073741824
 fr:x.t.fr.length < 1000000000
 id:iN x.id
 pc:0<=x.f.pc/\x.f.pc<=100
section
variable {K:kQ} {h:A2} {M T b o N:Nat} {tv:vQ} {fo:Option (Nat × Nat)} {x:B9} {R:Hp}
theorem RW (H:A9 h (A1 M T tv fo x R)) (O:Ok x) (k:∀h',A9 h' (A1 M T tv none (AD x) R)->K tQ h') :
  A4 prog 165 #[mP M,mP T] h K:=by
 refine call165 ?_
 unfold F165 cf lI nP
 unfold AD at k
 refine A0 (RQ H (λe=>?_) λb o hne _ H1=>?_)
 ·rw [A8 e] at k
  refine sb ?_
  refine ⟨λvs h'=>(∃w,vs = [dQ true,w])/\h' = h,⟨⟨_,rfl⟩,rfl⟩,?_⟩
  rintro v4 v5 g6 h7 ⟨⟨w,e⟩,rfl⟩
  cases e
  refine sb ?_
  exact k _ (A1.none H)
 ·rw [A7 hne] at k
  refine sb ?_
  refine ⟨λvs h'=>(∃w,vs = [dQ false,w])/\h' = h,⟨⟨_,rfl⟩,rfl⟩,?_⟩
  rintro v4 v5 g6 h7 ⟨⟨w,e⟩,rfl⟩
  cases e
  refine sd1 (A1.r H1) ?_
  apply A6<;>intro c
  ·rw [A8 c] at k
   exact A0 (YI H1 O.st k)
  rw [A7 c] at k
  apply A6<;>intro c
  ·rw [A8 c] at k
   exact A0 (RT H1 O.st k)
  rw [A7 c] at k
  exact A0 (Pg H1 As.none (by omega) k)
theorem Fy (H:A9 h (A1 M T tv fo x R)) (O:Ok x) (k:∀h',A9 h' (A1 M T tv none (V0 x) R)->K tQ h') :
  A4 prog 111 #[mP M,mP T] h K:=by
 refine call111 ?_
 unfold F111 cf lI nP
 unfold V0 at k
 refine A0 (RQ H (λe=>?_) λb o hne _ H1=>?_)
 ·rw [A8 e] at k
  refine sb ?_
  refine ⟨λvs h'=>(∃w,vs = [dQ true,w])/\h' = h,⟨⟨_,rfl⟩,rfl⟩,?_⟩
  rintro v4 v5 g6 h7 ⟨⟨w,e⟩,rfl⟩
  cases e
  refine sb ?_
  exact k _ (A1.none H)
 ·rw [A7 hne] at k
  refine sb ?_
  refine ⟨λvs h'=>(∃w,vs = [dQ false,w])/\h' = h,⟨⟨_,rfl⟩,rfl⟩,?_⟩
  rintro v4 v5 g6 h7 ⟨⟨w,e⟩,rfl⟩
  cases e
  refine sd1 (A1.r H1) ?_
  apply A6<;>intro c
  ·rw [A8 c] at k
   exact A0 (RV H1 O.id O.st k)
  rw [A7 c] at k
  apply A6<;>intro c
  ·rw [A8 c] at k
   exact A0 (Sp9 H1 O.id O.pc O.st k)
  rw [A7 c] at k
  apply A6<;>intro c
  ·rw [A8 c] at k
   exact A0 (UN H1 O.re (by have:=O.fr;omega) k)
  rw [A7 c] at k
  apply A6<;>intro c
  ·rw [A8 c] at k
   exact A0 (Sq0 H1 O.pc O.st O.fo (by have:=O.fr;omega) k)
  rw [A7 c] at k
  exact A0 (RW H1 O k)
end
end
section
open Mod
def Mod.Mac.setTh (m:Mac) (l:List Thr):Mac:={ m with th:=l }
def Mod.Mac.quiet (m:Mac):Mac:={ m with acted:=false }
def Hx:Int->List Nat->List Thr->Hp
 | _,[],_=>Mt
 | _,_ :: _,[]=>Mt
 | i,T :: Ts,t :: ts=>M7 T none t i*Hx (i+1) Ts ts
theorem Qr {h:A2}:∀ {Ts:List Nat} {ts:List Thr} {i:Int} {k:Nat} {R:Hp} (T:Nat) (t:Thr),Ts[k]? = some T->ts[k]? = some t->A9 h (Hx i Ts ts*R) ->
  ∃Q:Hp,A9 h (M7 T none t (i+k)*(Q*R))/\∀R' h' t',A9 h' (M7 T none t' (i+k)*(Q*R'))->A9 h' (Hx i Ts (ts.set k t')*R')
 | [],_,_,k,_,_,_,e,_,_=>by simp at e
 | _ :: _,[],_,k,_,_,_,_,e,_=>by simp at e
 | T0 :: Ts,t0 :: ts,i,0,R,T,t,e1,e2,H=>by
  simp only [Mh,Option.some.injEq] at e1 e2
  subst e1 e2
  refine ⟨Hx (i+1) Ts ts,?_,λR' h' t' H'=>?_⟩
  ·rw [show i+((0:Nat):Int)=i by omega,<- F2]
   exact H
  ·rw [show i+((0:Nat):Int)=i by omega,<- F2] at H'
   exact H'
 | T0 :: Ts,t0 :: ts,i,k+1,R,T,t,e1,e2,H=>by
  simp only [QX] at e1 e2
  have H:A9 h ((M7 T0 none t0 i*Hx (i+1) Ts ts)*R):=H
  rw [F2,D8] at H
  obtain ⟨Q,H1,re⟩:=Qr T t e1 e2 H
  have ei:i+1+(k:Int)=i+((k+1:Nat):Int):=by omega
  rw [ei] at H1 re
  refine ⟨Q*M7 T0 none t0 i,by rw [F2];exact H1,λR' h' t' H'=>?_⟩
  rw [F2] at H'
  have H2:=re _ _ _ H'
  show A9 h' ((M7 T0 none t0 i*Hx (i+1) Ts (ts.set k t'))*R')
  rw [F2,D8]
  exact H2
def DI (M:Nat) (Ts:List Nat) (m:Mac):Hp:=ex λa=>ex λc=>pr (Ts.length=m.th.length/\m.th.length<=6) (M9 M (lQ a m.th.length c) m*(E8 176 1 a m.th.length c (Ts.map mP)*Hx 0 Ts m.th))
theorem W0 {h:A2} {M:Nat} {Ts:List Nat} {m:Mac} {R:Hp}:A9 h (DI M Ts m*R)↔∃a c,(Ts.length=m.th.length/\m.th.length<=6)/\A9 h (M9 M (lQ a m.th.length c) m*(E8 176 1 a m.th.length c (Ts.map mP)*(Hx 0 Ts m.th*R))):=by
 unfold DI
 simp only [A9.ex,A9.pr,F2]
theorem Gq {h:A2} {M:Nat} {Ts:List Nat} {m:Mac} {R:Hp} {k:Nat} {T:Nat} {t:Thr} (H:A9 h (DI M Ts m*R)) (e1:Ts[k]? = some T) (e2:m.th[k]? = some t) :
  ∃tv,∃Q:Hp,A9 h (A1 M T tv none ⟨m,t,k⟩ (Q*R))/\∀h' (x:B9) R',x.id=(k:Int)->A9 h' (A1 M T tv none x (Q*R'))->A9 h' (DI M Ts (x.m.setTh (m.th.set k x.t))*R'):=by
 obtain ⟨a,c,⟨hl,h6⟩,H1⟩:=W0.1 H
 have H2:A9 h (Hx 0 Ts m.th*(M9 M (lQ a m.th.length c) m*(E8 176 1 a m.th.length c (Ts.map mP)*R))):=A9.ac H1 (by ac_rfl)
 obtain ⟨Q,H3,re⟩:=Qr T t e1 e2 H2
 rw [Int.zero_add] at H3 re
 refine ⟨lQ a m.th.length c,Q*E8 176 1 a m.th.length c (Ts.map mP),?_,λh' x R' ei H'=>?_⟩
 ·unfold A1
  exact A9.ac H3 (by ac_rfl)
 ·unfold A1 at H'
  rw [ei] at H'
  have H4:A9 h' (M7 T none x.t k*(Q*(M9 M (lQ a m.th.length c) x.m*(E8 176 1 a m.th.length c (Ts.map mP)*R')))):=A9.ac H' (by ac_rfl)
  have H5:=re _ _ _ H4
  refine W0.2 ⟨a,c,⟨by simp [Mod.Mac.setTh,hl],by simp [Mod.Mac.setTh,h6]⟩,?_⟩
  show A9 h' (M9 M (lQ a (m.th.set k x.t).length c) x.m*(E8 176 1 a (m.th.set k x.t).length c (Ts.map mP)*(Hx 0 Ts (m.th.set k x.t)*R')))
  rw [Ca]
  exact A9.ac H5 (by ac_rfl)
section
variable {K:kQ} {h:A2} {M T b o N:Nat} {tv:vQ} {fo:Option (Nat × Nat)} {x:B9} {R:Hp} {m:Mac} {Ts:List Nat}
theorem Lz (H:A9 h (DI M Ts m*R)) {i:Int} (k0:(i < 0\/m.th.length<=i)->K (pQ none) h) (k:∀T,0<=i->Ts[i.toNat]? = some T->K (mP T) h) :
  A4 prog 196 #[mP M,iQ i] h K:=by
 refine call196 ?_
 unfold F196 bd lS lP nP
 obtain ⟨a,c,⟨hl,h6⟩,H1⟩:=W0.1 H
 obtain ⟨q,gq,fq,P,H2⟩:=L5.1 H1
 have O:=H2.at
 have S:=(H1.drop).own.sees
 refine sb ?_
 refine ⟨λvs h'=>(∃w,vs = [w,dQ (decide (i < 0\/m.th.length<=i))])/\h' = h,?_,?_⟩
 ·apply A6<;>intro c1
  ·rw [V6 (p:=i < 0\/m.th.length<=i) (.inl c1)]
   exact ⟨⟨_,rfl⟩,rfl⟩
  ·refine H2.ld rfl ?_
   refine sb ?_
   rw [show decide (i >= (m.th.length:Int))=decide (i < 0\/m.th.length<=i) by rw [decide_eq_decide];omega]
   first | exact ⟨⟨dQ (decide (i < 0)),rfl⟩,by trivial⟩ | exact ⟨dQ (decide (i < 0)),rfl⟩
 rintro v6 v7 g8 h9 ⟨⟨w,e⟩,rfl⟩
 cases e
 refine sb ?_
 refine A6 (λc1=>k0 c1) (λc1=>?_)
 refine H2.ld rfl ?_
 refine sb ?_
 have hlt:i.toNat < Ts.length:=by omega
 obtain ⟨T,hT⟩ : ∃T,Ts[i.toNat]? = some T:=⟨_,X7 hlt⟩
 obtain ⟨ad,ea,hc⟩:=S i.toNat (mP T) (by rw [FD,hT];rfl)
 subst ea
 refine ⟨by omega,by omega,?_⟩
 refine sb ?_
 unfold D2
 rw [hc]
 refine sb ?_
 exact k T (by omega) hT
theorem S83 (P:Nat->Prop) (h:∃n,P n):∃n,P n/\∀m,P m->n<=m:=by
 obtain ⟨n,hn⟩:=h
 induction n using Nat.strongRecOn with
 | _ n ih=>
  by_cases c:∃m,m < n/\P m
  ·obtain ⟨m,hm,hp⟩:=c
   exact ih m hm hp
  ·exact ⟨n,hn,λm hm=>Nat.le_of_not_lt λhh=>c ⟨m,hh,hm⟩⟩
open Classical in
noncomputable def Jo (P:Nat->Prop):Nat:=if h:∃n,P n then (S83 P h).choose else 0
theorem LA {P:Nat->Prop} (h:∃n,P n):P (Jo P)/\∀m,P m->Jo P<=m:=by
 unfold Jo
 rw [dif_pos h]
 exact (S83 P h).choose_spec
def done (x:B9):Bool:=x.m.acted || x.t.fr.isEmpty
def Sq1 (d:B9->B9) (W:B9->Prop):Nat->B9->Prop
 | 0,_=>True
 | n+1,x=>done x=true\/(W x/\Sq1 d W n (d x))
def DoC (f:Nat) (d:B9->B9) (W:B9->Prop):Prop:=∀(h:A2) (M T:Nat) (tv:vQ) (x:B9) (R:Hp) (K:kQ),A9 h (A1 M T tv none x R)->W x->(∀h',A9 h' (A1 M T tv none (d x) R)->K tQ h')->A4 prog f #[mP M,mP T] h K
def Sh3 (d:B9->B9) (W:B9->Prop) (M T:Nat) (tv:vQ) (R:Hp) (z:B9) (h:A2) (n:Nat):Prop:=∃y,A9 h (A1 M T tv none y R)/\Mod.bits d n y=some z/\Sq1 d W n y
theorem Pm {f:Nat} {d:B9->B9} {W:B9->Prop} (D:DoC f d W) (H:A9 h (DI M Ts m*R)) {i:Int} {n:Nat} {z:B9} {t:Thr} (h0:0<=i) (ht:m.th[i.toNat]? = some t)
  (hz:Mod.bits d n ⟨m.quiet,t,i⟩=some z) (hs:Sq1 d W n ⟨m.quiet,t,i⟩) (hid:z.id=i)
  (k:∀h',A9 h' (DI M Ts (z.m.setTh (m.th.set i.toNat z.t))*R)->K (dQ (!z.t.fr.isEmpty)) h') :
  A4 prog 123 #[mP M,iQ i,.func (.func f) #[] #[]] h K:=by
 refine call123 ?_
 unfold F123 cf lS nP
 have hlt:i.toNat < m.th.length:=(IW.1 ht).1
 refine A0 (Lz H (λc=>by omega) λT _ hT=>?_)
 refine sb ?_
 unfold X0
 dsimp only
 refine ⟨λvs h'=>vs = [dQ false]/\h' = h,⟨rfl,rfl⟩,?_⟩
 rintro v5 g6 h7 ⟨e,rfl⟩
 cases e
 refine sb ?_
 obtain ⟨tv,Q,H1,re⟩:=Gq H hT ht
 have ei:((i.toNat:Nat):Int)=i:=by omega
 rw [ei] at H1 re
 obtain ⟨q,gq,fq,P,H2⟩:=L5.1 H1
 refine H2.st (i:=19) rfl trivial λh8 H3=>?_
 have H4:A9 h8 (A1 M T tv none ⟨m.quiet,t,i⟩ (Q*R)):=L5.2 ⟨q,gq,fq,P,H3⟩
 have acc:∀ {h:A2} {y:B9},A9 h (A1 M T tv none y (Q*R))->(∀F:vQ->Prop,D2 h ⟨M,19,none⟩ F=F (dQ y.m.acted))/\∃a c,∀F:vQ->Prop,D2 h ⟨T,1,none⟩ F=F (lQ a y.t.fr.length c):=by
  intro h y Y
  obtain ⟨q,gq,fq,P,Y1⟩:=L5.1 Y
  obtain ⟨B,O⟩:=ND (A1.thr Y)
  refine ⟨λF=>?_,B.fr,B.frn,λF=>?_⟩
  ·unfold D2;rw [E5 Y1.at];rfl
  ·unfold D2;rw [E5 O];rfl
 refine ⟨λ_ h=>∃n,Sh3 d W M T tv (Q*R) z h n,λ_ h=>Jo (Sh3 d W M T tv (Q*R) z h),⟨n,_,H4,hz,hs⟩,?_⟩
 intro g13 h14 HI
 obtain ⟨⟨y,Y,hb,hS⟩,hmin⟩:=LA HI
 obtain ⟨n0,hn⟩ : ∃n0,Jo (Sh3 d W M T tv (Q*R) z h14)=n0:=⟨_,rfl⟩
 rw [hn] at hb hS
 obtain ⟨ac,af,an,al⟩:=acc Y
 refine ⟨λvs h'=>vs = [dQ (!Proofs.YtahpbclnkofhfaaGreat.done y)]/\h' = h14,?_,?_⟩
 ·rw [ac]
  refine sb ?_
  apply D1<;>intro c
  ·have c':y.m.acted=false:=by simpa using c
   rw [al]
   have e2:decide ((y.t.fr.length:Int) > 0) = !Proofs.YtahpbclnkofhfaaGreat.done y:=by
    unfold Proofs.YtahpbclnkofhfaaGreat.done
    rw [c']
    cases y.t.fr <;> simp
   try simp only [D6,e2,and_self,and_true]
  ·have c':y.m.acted=true:=by simpa using c
   have e2:false = !Proofs.YtahpbclnkofhfaaGreat.done y:=by
    unfold Proofs.YtahpbclnkofhfaaGreat.done
    rw [c']
    rfl
   rw [<- e2]
   try trivial
 rintro v24 g25 h26 ⟨e,rfl⟩
 cases e
 refine sb ?_
 apply D1<;>intro c
 ·have c':Proofs.YtahpbclnkofhfaaGreat.done y=false:=by simpa using c
  cases n0 with
  | zero=>
   unfold Mod.bits at hb
   unfold Proofs.YtahpbclnkofhfaaGreat.done at c'
   rw [c'] at hb
   cases hb
  | succ n'=>
   rcases hS with hS | ⟨hW,hS⟩
   ·rw [hS] at c';cases c'
   ·have hb':Mod.bits d n' (d y)=some z:=by
     unfold Mod.bits at hb
     unfold Proofs.YtahpbclnkofhfaaGreat.done at c'
     rw [c'] at hb
     exact hb
    refine A0 (D _ _ _ _ _ _ _ Y hW λh29 H29=>⟨⟨n',_,H29,hb',hS⟩,?_⟩)
    have hP:Sh3 d W M T tv (Q*R) z h29 n':=⟨_,H29,hb',hS⟩
    have hl:=(LA ⟨n',hP⟩).2 n' hP
    show Jo _ < Jo _
    rw [hn]
    omega
 ·have c':Proofs.YtahpbclnkofhfaaGreat.done y=true:=by simpa using c
  have ez:y=z:=by
   unfold Proofs.YtahpbclnkofhfaaGreat.done at c'
   cases n0 <;> unfold Mod.bits at hb <;> rw [c'] at hb <;> exact Option.some.inj hb
  subst ez
  rw [al]
  refine sb ?_
  have e2:decide ((y.t.fr.length:Int) > 0) = !y.t.fr.isEmpty:=by
   cases y.t.fr <;> simp
  rw [e2]
  exact k h26 (re _ y R hid Y)
end
end
section
open Mod
variable {K:kQ} {h:A2}
def Sq2 (c:Mod.Cf):Proofs.YtahpbclnkofhfaaGreat.Cf:=⟨c.algo,c.threads,c.nodes,c.level,c.batch,c.probes,c.scan⟩
theorem CU (c:Mod.Cf):(Sq2 c).Right↔GK c=true:=by
 unfold GK
 rw [decide_eq_true_iff]
 constructor
 ·rintro ⟨a1,a2,a3,a4,a5,a6,a7,a8⟩
  exact ⟨a1.1,a1.2,a2.1,a2.2,a3.1,a3.2,a4.1,a4.2,a5.1,a5.2,a6.1,a6.2,a7.1,a7.2,a8⟩
 ·rintro ⟨b1,b2,b3,b4,b5,b6,b7,b8,b9,b10,b11,b12,b13,b14,b15⟩
  exact ⟨⟨b1,b2⟩,⟨b3,b4⟩,⟨b5,b6⟩,⟨b7,b8⟩,⟨b9,b10⟩,⟨b11,b12⟩,⟨b13,b14⟩,b15⟩
theorem Sq3 (c:Mod.Cf):Value.agg (Sq2 c).plan=Pc (E1 c):=by
 unfold Pc E1 Proofs.YtahpbclnkofhfaaGreat.Cf.plan Cf.size Cf.tree Cf.nodes Cf.links Cf.slots Cf.width Cf.sent Sq2
 simp only [beq_iff_eq]
theorem RY (c:Mod.Cf) (k1:GK c=true->∀h',G9 h.size h h'->K (.tuple #[Pc (E1 c),iQ 0]) h') (k0:GK c=false->∀h',G9 h.size h h'->K (.tuple #[.agg X2,iQ 6]) h') :
  A4 prog 98 #[cfV c] h K:=by
 refine Uq (Sq2 c) (λhr h' o=>?_) (λhr h' o=>k0 ?_ h' o)
 ·rw [Sq3];exact k1 ((CU c).1 hr) h' o
 ·rw [<- SD4];exact λhh=>hr ((CU c).2 hh)
theorem Cy {c:Mod.Cf} (h:GK c=true):Ow (E1 c):=by
 unfold GK at h
 rw [decide_eq_true_iff] at h
 obtain ⟨b1,b2,b3,b4,b5,b6,b7,b8,b9,b10,b11,b12,b13,b14,b15⟩:=h
 have h1:c.threads*(if c.algo == 0 then 2 else 2*c.level+2)<=6*14:=by
  split
  ·omega
  ·exact OA (by omega) (by omega) (by omega) (by omega)
 have h1':0<=c.threads*(if c.algo == 0 then 2 else 2*c.level+2):=QV (by omega) (by split <;> omega)
 have h2:c.nodes*(if c.algo == 0 then 3 else 5+c.level)<=64*11:=by
  split
  ·omega
  ·exact OA (by omega) (by omega) (by omega) (by omega)
 have h2':0<=c.nodes*(if c.algo == 0 then 3 else 5+c.level):=QV (by omega) (by split <;> omega)
 have h3:(2:Int) ^ c.level.toNat<=64:=by
  obtain ⟨n,hn⟩ : ∃n,c.level.toNat=n:=⟨_,rfl⟩
  rw [hn]
  have hn6:n<=6:=by omega
  match n,hn6 with
  | 0,_=>decide
  | 1,_=>decide
  | 2,_=>decide
  | 3,_=>decide
  | 4,_=>decide
  | 5,_=>decide
  | 6,_=>decide
 have h3':0<=(2:Int) ^ c.level.toNat:=Int.pow_nonneg (by omega)
 unfold E1
 dsimp only
 generalize c.threads*(if c.algo == 0 then 2 else 2*c.level+2)=A at *
 generalize c.nodes*(if c.algo == 0 then 3 else 5+c.level)=B at *
 generalize (2:Int) ^ c.level.toNat=D at *
 constructor <;> dsimp only <;> first | omega | (split <;> omega)
theorem Sq4 {D E:Nat->Prop} {F G:A2->Prop} (σ:GT) (h:(lift D F*lift E G) σ):lift (λb=>D b\/E b) (λh=>F h/\G h) σ:=by
 obtain ⟨s,t,d,rfl,⟨a1,a2⟩,b1,b2⟩:=h
 refine ⟨λb=>?_,λh S=>⟨a2 h S.left,b2 h (S.right d)⟩⟩
 have:=Di (σ:=s) (τ:=t) (b:=b)
 show D b\/E b↔uni s t b≠none
 rw [a1,b1,ne_eq,ne_eq,ne_eq,this]
 by_cases e1:s b=none <;> by_cases e2:t b=none <;> simp [e1,e2]
theorem Sh4 {b:Nat} {o:Obj} (σ:GT) (h:pt b o σ):lift (λc=>c=b) (λh=>h[b]? = some o) σ:=by
 refine ⟨λc=>?_,λh' S=>S.at b o (by rw [h b,A8 rfl])⟩
 rw [h c]
 by_cases e:c=b <;> simp [e]
theorem S29:EL prog 178=8:=by kernel_rfl
theorem YN:Bp prog 178 = [uQ 0]:=by kernel_rfl
theorem SL9:Bp prog 3 = [iQ 0]:=by kernel_rfl
theorem Ti9:EL prog 3=8:=by kernel_rfl
theorem UQ {v:vQ} (n:Nat):(List.replicate n [v]).flatten=List.replicate n v:=by rw [List.flatten_replicate_singleton]
theorem Et {n:Int} (hn:0<=n/\n<=4096) (k:K (lQ (some (aQ h.size)) n.toNat n.toNat) (h.push (oQ (V7 (List.replicate n.toNat 0)).toArray 178))):Y2 prog 178 n n h K:=by
 unfold Y2
 refine ⟨by omega,by omega,by omega,by rw [S29];omega,?_⟩
 rw [YN,UQ]
 have e:V7 (List.replicate n.toNat 0)=List.replicate n.toNat (uQ 0):=by unfold V7;rw [SZ9]
 rw [e] at k
 exact k
theorem SM0 {n:Int} (hn:0<=n/\n<=4096) (k:K (lQ (some (aQ h.size)) n.toNat n.toNat) (h.push (oQ ((List.replicate n.toNat (0:Int)).map iv).toArray 3))):Y2 prog 3 n n h K:=by
 unfold Y2
 refine ⟨by omega,by omega,by omega,by rw [Ti9];omega,?_⟩
 rw [SL9,UQ]
 rw [SZ9] at k
 exact k
theorem UR {R:Hp} {n:Int} (H:A9 h R) (hn:1<=n/\n<=4096) (k:∀h' q,A9 h' (R7 q ⟨List.replicate n.toNat 0,0,false,[]⟩*R)->K (.tuple #[mP q,iQ 0]) h') :
  A4 prog 99 #[iQ n] h K:=by
 refine call99 ?_
 unfold F99
 refine ⟨λvs h'=>vs = [dQ false]/\h' = h,?_,?_⟩
 ·refine A6 (λc=>by omega) (λc=>?_)
  rw [S4 (by omega)]
  exact ⟨rfl,rfl⟩
 rintro v1 g2 h3 ⟨e,rfl⟩
 cases e
 refine sb ?_
 refine Et (by omega) ?_
 refine sb ?_
 have H1:=H.push (oQ (V7 (List.replicate n.toNat 0)).toArray 178)
 generalize h3.push (oQ (V7 (List.replicate n.toNat 0)).toArray 178)=h4 at *
 have H2:=H1.push (oQ #[lQ (some (aQ h3.size)) n.toNat n.toNat,iQ 0,dQ false,lQ none 0 0] 126)
 have H3:=H2.own_new 144 4
 refine k _ h4.size (Ar.2 ⟨h3.size,none,0,⟨by simp;omega,by simp,by simp,λv hv=>by rw [List.eq_of_mem_replicate hv];exact U0⟩,?_⟩)
 have e:(Uw h3.size none 0 ⟨List.replicate n.toNat 0,0,false,[]⟩).toArray=#[lQ (some (aQ h3.size)) n.toNat n.toNat,iQ 0,dQ false,lQ none 0 0]:=by
  simp [Uw]
 rw [e]
 exact A9.ac H3 (by
  show E8 144 4 none 0 0 []*_=_*(_*(E8 144 4 none 0 0 []*_))
  ac_rfl)
theorem S84 {B:Nat} {v lim:Int} (O:h[B]? = some (oQ #[uQ v] 178)) (k:K (dQ (decide (v < lim))) h) :
  A4 prog 277 #[uQ lim,lQ (some (aQ B)) 1 1] h K:=by
 refine call277 ?_
 unfold F277 bd lI
 refine ⟨λvs h'=>∃w n,vs = [.bool false,w,.int .i64 n]/\h' = h/\(n=0\/n=1/\v < lim),λvs _=>match vs with | [_,_,.int _ n]=>(1 - n).toNat | _=>0,⟨_,0,rfl,rfl,.inl rfl⟩,?_⟩
 rintro v2 v3 v4 g5 h6 ⟨w,n,e,rfl,hn⟩
 cases e
 refine sb ?_
 apply A6<;>intro c
 ·have hn0:n=0:=by omega
  subst hn0
  refine sb ?_
  refine ⟨by decide,?_⟩
  refine C4 O rfl ?_
  refine sb ?_
  apply A6<;>intro c2
  ·rw [S4 (by omega)] at k;exact k
  ·exact ⟨⟨_,1,rfl,.inr ⟨rfl,by omega⟩⟩,by decide⟩
 ·rw [V6 (by omega)] at k;exact k
theorem YO {R:Hp} {n ver:Int} {mk:Bool} (H:A9 h R) (hn:0<=n/\n < 65536) (hv:0<=ver/\ver < 140737488355328) (k:∀h',A9 h' R->K (.tuple #[uQ (Z5 n mk ver),iQ 0]) h') :
  A4 prog 206 #[iQ n,dQ mk,uQ ver] h K:=by
 refine call206 ?_
 unfold F206 cf
 have e1:wrap .u64 n=n:=U.wrap ⟨by omega,by omega⟩
 simp only [e1]
 refine ⟨λvs h'=>(∃w,vs = [w,dQ false])/\A9 h' R,?_,?_⟩
 ·refine A6 (λc=>by omega) (λc=>?_)
  have H1:=H.push (oQ #[uQ n] 178)
  generalize h.push (oQ #[uQ n] 178)=h1 at *
  refine A0 (S84 H1.at ?_)
  rw [V6 (by omega)]
  refine sb ?_
  have H2:=H1.push (oQ #[uQ ver] 178)
  generalize h1.push (oQ #[uQ ver] 178)=h2 at *
  refine A0 (S84 H2.at ?_)
  rw [V6 (by omega)]
  refine sb ?_
  exact ⟨⟨_,rfl⟩,H2.drop.drop⟩
 rintro v7 v8 g9 h10 ⟨⟨w,e⟩,H1⟩
 cases e
 refine sb ?_
 refine A0 (Nn hn hv ?_)
 refine sb ?_
 exact k _ H1
theorem Qs {R:Hp} {n:Int} (H:A9 h R) (hn:0<=n/\n < 65536) (k:∀h',A9 h' R->K (uQ (Z5 n false 0)) h') :
  A4 prog 141 #[iQ n] h K:=by
 refine call141 ?_
 unfold F141 cf
 refine A0 (YO H hn (by omega) λh1 H1=>?_)
 refine sb ?_
 refine D5 rfl ?_
 refine sb ?_
 refine D5 rfl ?_
 refine sb ?_
 exact k _ H1
theorem KT {q:Nat} {m:Mm} {R:Hp} {a v:Int} (H:A9 h (R7 q m*R)) (hv:U v) (hs:m.st < 1099511627776)
  (k:∀h' e,A9 h' (R7 q (m.store a v)*R)->K (iQ e) h') :
  A4 prog 140 #[mP q,iQ a,uQ v] h K:=by
 refine Lu H hv hs (λc h' H'=>k h' 0 ?_) (λc h' H'=>k h' 2 ?_)
 ·unfold Mm.store;rw [A8 c];exact H'
 ·unfold Mm.store;rw [A7 (by rw [c];simp)];exact H'
theorem Hy (m:Mm) (a v:Int):(m.store a v).st<=m.st+1:=by
 unfold Mm.store Mm.put Mm.tick
 split
 ·exact Oz _
 ·omega
end
section
open Mod
def Eu (n i:Int):List Int:=(List.range n.toNat).map λ(k:Nat)=>if (k:Int) < i then 1 else 0
theorem Sq5 {n i:Int} (h0:0<=i):(Eu n i).set i.toNat 1=Eu n (i+1):=by
 apply Xw
 ·simp [Eu]
 ·intro k h1 h2
  rw [List.getElem_set]
  simp only [Eu,List.getElem_map,SZ8]
  split
  ·rename_i e;rw [A8 (by omega)]
  ·rename_i e
   by_cases c:(k:Int) < i
   ·rw [A8 c,A8 (by omega)]
   ·rw [A7 c,A7 (by omega)]
theorem YP (n:Int):Eu n 0=List.replicate n.toNat 0:=by
 apply Xw
 ·simp [Eu]
 ·intro k h1 h2
  simp only [Eu,List.getElem_map,SZ8,List.getElem_replicate]
  rw [A7 (by omega)]
theorem Pn {K:kQ} {h:A2} {R:Hp} {n live:Int} (H:A9 h R) (hn:1<=n/\n<=64) (hl:0<=live/\live<=n) (k:∀h' q,A9 h' (RH (some (Sf9 n live)) q*R)->K (mP q) h') :
  A4 prog 103 #[iQ n,iQ live] h K:=by
 refine call103 ?_
 unfold F103 bd lS
 refine ⟨λvs h'=>vs = [iQ n]/\h' = h,?_,?_⟩
 ·refine ⟨λvs h'=>vs = [dQ false]/\h' = h,?_,?_⟩
  ·refine A6 (λc=>by omega) (λc=>?_)
   rw [S4 (by omega)]
   exact ⟨rfl,rfl⟩
  rintro v1 g2 h3 ⟨e,rfl⟩
  cases e
  (try simp only [G5,GN,Nat.reduceAdd,Int.reduceLE,Int.reduceLT,Int.reduceToNat])
  try exact ⟨rfl,rfl⟩
 rintro v6 g7 h8 ⟨e,rfl⟩
 cases e
 refine sb ?_
 refine SM0 (by omega) ?_
 refine sb ?_
 rw [AV,AV]
 rw [show JB (Hc live 0) n=live by unfold JB Hc;split <;> split <;> omega]
 have H1:=H.push (oQ ((List.replicate n.toNat (0:Int)).map iv).toArray 3)
 generalize h8.push (oQ ((List.replicate n.toNat (0:Int)).map iv).toArray 3)=h9 at *
 generalize h8.size=b at *
 have H2:=H1.push (oQ #[lQ (some (aQ b)) n.toNat n.toNat,iQ 0,iQ 0] 213)
 generalize h9.push (oQ #[lQ (some (aQ b)) n.toNat n.toNat,iQ 0,iQ 0] 213)=h10 at *
 generalize h9.size=q at *
 rw [<- YP] at H2
 have hlen:∀i,(Eu n i).length=n.toNat:=λi=>by simp [Eu]
 refine ⟨λvs h'=>∃(w:vQ) (i:Int),vs = [w,.int .i64 i]/\0<=i/\i<=live/\A9 h' (pt q (.cells #[.slice (some ⟨b,0,none⟩) n.toNat n.toNat,.int .i64 0,.int .i64 0] 213)*(pt b (.cells ((Eu n i).map iv).toArray 3)*R)),λvs _=>match vs with | [_,.int _ i]=>(live - i).toNat | _=>0,⟨_,0,rfl,by omega,by omega,H2⟩,?_⟩
 rintro v24 v25 g26 h27 ⟨w,i,e,i0,i1,H3⟩
 cases e
 refine sb ?_
 apply A6<;>intro c
 ·refine H3.ld rfl ?_
  refine sb ?_
  refine ⟨by omega,by omega,?_⟩
  rw [D8] at H3
  refine Dv (row:=(Eu n i).map iv) H3 (by simp [hlen];omega) trivial λh28 H4=>?_
  have e1:((Eu n i).map iv).set i.toNat (iQ 1)=(Eu n (i+1)).map iv:=by
   rw [<- Sq5 i0,Ra]
  rw [e1,D8] at H4
  rw [show G2 (i+1)=i+1 from by unfold G2;omega]
  exact ⟨⟨_,i+1,rfl,by omega,by omega,H4⟩,by omega⟩
 ·have ei:i=live:=by omega
  subst ei
  refine k _ q ?_
  have hg:Sf9 n i=⟨Eu n i,0,0⟩:=rfl
  rw [hg]
  show A9 h27 ((ex λb=>lift (wdS q b) λh=>Ns h q b ⟨Eu n i,0,0⟩)*R)
  refine A9.ex.2 ⟨b,?_⟩
  rw [<- F2] at H3
  refine H3.mono λσ hσ=>?_
  obtain ⟨s,t,d,rfl,p1,p2⟩:=hσ
  have J:=Sq4 _ ⟨s,t,d,rfl,Sh4 _ p1,Sh4 _ p2⟩
  refine ⟨J.1,λh S=>?_⟩
  obtain ⟨j1,j2⟩:=J.2 h S
  refine ⟨?_,j2,by simp [hlen];omega⟩
  rw [j1]
  simp [hlen]
theorem SM1:Be prog 26=.slice 5:=by kernel_rfl
theorem US:L0 prog 5=true:=by kernel_rfl
theorem SM2:GZ prog 5=some (.int .u8 0):=by kernel_rfl
theorem KU:M2 prog 5=1:=by kernel_rfl
theorem RZ:EL prog 5=1:=by kernel_rfl
theorem Sa {K:kQ} {h:A2} {R:Hp} {a:rQ} {c:Nat} {bs:List Int} (H:A9 h R) (hs:N5 h a (bs.map λn=>.int .u8 n)) (hl:bs.length<=65536) (hr:∀n ∈ bs,0<=n/\n < 256) (k:∀h' q,A9 h' (Pf q bs 0*R)->K (mP q) h') :
  A4 prog 102 #[lQ a bs.length c] h K:=by
 refine call102 ?_
 unfold F102
 have o1:G9 h.size h (h.push (oQ #[] 5)):=(G9.refl _ _).push _ (G0 _)
 have H1:=H.push (oQ #[] 5)
 have hs1:=hs.old o1
 have sz:(h.push (oQ #[] 5)).size=h.size+1:=by simp
 have ow:CS (h.push (oQ #[] 5)) 5 (M2 prog 5) (some (aQ h.size)) 0 0 []:=⟨by simp,G0 _,.inr ⟨h.size,#[],rfl,H1.at,by simp,by simp⟩⟩
 generalize h.push (oQ #[] 5)=h1 at *
 refine FL SM1 US SM2 (by rw [KU];rfl) ow hs1 (by rw [KU];simp) (λy hy=>?_) (by rw [RZ];omega) (by rw [RZ];omega) λa' c' h2 o' hsz old ha=>?_
 ·obtain ⟨n,_,rfl⟩:=Ga.1 hy
  trivial
 rw [J6] at o' ⊢
 refine sb ?_
 have o2:G9 h.size h h2:=⟨by omega,λb hb=>(old b (by omega) λad ea=>by cases ea;exact λe=>by simp at e;omega).trans (o1.2 b hb)⟩
 have fb:∀b,GU a' b->h.size<=b:=by
  rintro b ⟨ad,e,rfl⟩
  rcases ha with ha | ⟨ha,_⟩
  ·rw [e] at ha;cases ha;exact G0 _
  ·rw [e] at ha;cases ha;show h.size<=h1.size;omega
 have o3:G9 h.size h (h2.push (oQ #[lQ a' bs.length c',iQ 0] 236)):=o2.push _ o2.1
 have q1:(h2.push (oQ #[lQ a' bs.length c',iQ 0] 236))[h2.size]? = some (oQ #[lQ a' bs.length c',iQ 0] 236):=by simp
 have o4:=o'.keep (h':=h2.push (oQ #[lQ a' bs.length c',iQ 0] 236)) λad ea=>W5 _ _ _ (o'.lt ad ea)
 have nq:¬ GU a' h2.size:=λhb=>Nat.lt_irrefl _ (o'.lt2 hb)
 have sz3:(h2.push (oQ #[lQ a' bs.length c',iQ 0] 236)).size=h2.size+1:=by simp
 have lt2:∀b,GU a' b->b < h2.size:=λb hb=>o'.lt2 hb
 generalize h2.push (oQ #[lQ a' bs.length c',iQ 0] 236)=h3 at *
 have hsz2:=o2.1
 refine k h3 h2.size (A9.ex.2 ⟨a',A9.ex.2 ⟨c',H.mk_new o3 (λb hb=>?_) (λb o hb e=>?_) λh4 e=>?_⟩⟩)
 ·rcases hb with rfl | ⟨hb,_⟩
  ·exact ⟨hsz2,by omega⟩
  ·exact ⟨fb b hb,by have:=lt2 b hb;omega⟩
 ·rcases hb with rfl | ⟨hb,_⟩
  ·rw [q1] at e;cases e
   intro x hx;cases hx
  ·exact o4.nd b o hb e
 ·refine ⟨?_,?_,hr,by omega,nq⟩
  ·rw [e _ (.inl rfl),q1]
  ·by_cases c0:bs = []
   ·subst c0;exact N5.nil _ _
   ·have o5:=o4.keep (h':=h4) λad ea=>e _ (.inr ⟨⟨ad,ea,rfl⟩,c0⟩)
    exact o5.sees
end
section
open Mod
def Sq6 (p:Pl) (m0:Mm):Mm:=
 let c:=p.c
 let first:=p.sent+1
 let m1:=m0.store 0 (Z5 first false 0)
 let m2:=(List.range (c.nodes - first).toNat).foldl (λ(m:Mm) (i:Nat)=>m.store (p.link (first+i)) (first+i+1)) m1
 let m3:=m2.store 2 1
 if c.algo=0 then m3 else
  let m4:=m3.store (p.node 1 3) c.level
  let m5:=m4.store (p.node 2 0) 18446744073709551615
  (List.range c.level.toNat).foldl (λ(m:Mm) (i:Nat)=>m.store (p.node 1 (5+i)) (Z5 2 false 0)) m5
theorem SM3 (p:Pl):lay p=Sq6 p ⟨List.replicate p.size.toNat 0,0,false,[]⟩:=rfl
theorem Sh5 (a v:Nat->Int) (m:Mm) (n:Nat):((List.range n).foldl (λ(m:Mm) (i:Nat)=>m.store (a i) (v i)) m).st<=m.st+n:=by
 induction n with
 | zero=>simp
 | succ n ih=>
  rw [Tj,Td]
  simp only [Te,List.foldl_nil]
  have:=Hy ((List.range n).foldl (λ(m:Mm) (i:Nat)=>m.store (a i) (v i)) m) (a n) (v n)
  omega
theorem Qt (a v:Nat->Int) (m:Mm) (n:Nat):((List.range n).foldl (λ(m:Mm) (i:Nat)=>m.store (a i) (v i)) m).store (a n) (v n)=(List.range (n+1)).foldl (λ(m:Mm) (i:Nat)=>m.store (a i) (v i)) m:=by
 rw [Tj,Td]
 rfl
theorem UT {n:Int} (h:0<=n/\n < 65536):U (Z5 n false 0):=Sg1 h (by omega)
theorem SM4 {K:kQ} {h:A2} {R:Hp} {q:Nat} {m0:Mm} {p:Pl} (H:A9 h (R7 q m0*R)) (P:Ow p) (h0:m0.st=0) (hsn:p.sent < p.c.nodes) (k:∀h',A9 h' (R7 q (Sq6 p m0)*R)->K tQ h') :
  A4 prog 101 #[mP q,Pc p] h K:=by
 refine call101 ?_
 unfold F101 g101 cf ce lI Jv BO
 have hse:=P.se
 have hno:=P.no
 have hlv:=P.lv
 rw [Hq]
 have H1:=H.push (oQ (Ed p).toArray 117)
 generalize h.push (oQ (Ed p).toArray 117)=h1 at *
 generalize h.size=Np at *
 refine Hw H1.at ?_
 refine A0 (V8 λh2 o2=>cf7 ?_)
 have H2:=H1.old o2
 have H3:=H2.push (oQ Dp 23)
 generalize h2.push (oQ Dp 23)=h3 at *
 generalize h2.size=Nc at *
 refine st7 (F5 (vs:=Qk p.c) H3.at rfl (by simp [Qk,J0]) λh5 w=>?_)
 have H5:=H3.wr w.new w.old
 clear H3 w
 refine Hw H5.at2 ?_
 refine A0 (Lt λh6 o6=>?_)
 have H6:=H5.old o6
 refine sb ?_
 rw [show G2 (p.sent+1)=p.sent+1 from by unfold G2;omega]
 refine A0 (Qs H6 (by omega) λh7 H7=>?_)
 refine sb ?_
 have H8:A9 h7 (R7 q m0*(pt Nc (oQ (Qk p.c).toArray 23)*(pt Np (oQ (Ed p).toArray 117)*R))):=A9.ac H7 (by ac_rfl)
 refine A0 (KT H8 (UT (by omega)) (by omega) λh9 e9 H9=>?_)
 refine sb ?_
 have s1:=Hy m0 0 (Z5 (p.sent+1) false 0)
 have hf:=Sh5 (λj=>p.link (p.sent+1+j)) (λj=>p.sent+1+j+1) (m0.store 0 (Z5 (p.sent+1) false 0))
 refine ⟨λvs h'=>∃(j:Nat),vs = [.int .i64 (p.sent+1+j)]/\(j:Int)<=p.c.nodes - (p.sent+1)/\A9 h' (R7 q ((List.range j).foldl (λ(m:Mm) (i:Nat)=>m.store (p.link (p.sent+1+i)) (p.sent+1+i+1)) (m0.store 0 (Z5 (p.sent+1) false 0)))*(pt Nc (.cells (Qk p.c).toArray 23)*(pt Np (.cells (Ed p).toArray 117)*R))),λvs _=>match vs with | [.int _ i]=>(p.c.nodes - i).toNat | _=>0,⟨0,by simp,by omega,by simpa using H9⟩,?_⟩
 rintro v58 g59 h60 ⟨j,e,hj,HJ⟩
 cases e
 have C:=HJ.at2
 have PP:=HJ.at3
 refine sb ?_
 refine C4 C rfl ?_
 refine sb ?_
 apply A6<;>intro c
 ·refine Hw PP ?_
  refine A0 (Hr P ⟨by omega,by omega⟩ λh61 o61=>?_)
  have HK:=HJ.old o61
  refine sb ?_
  rw [show G2 (p.sent+1+(j:Int)+1)=p.sent+1+j+1 from by unfold G2;omega,show Mod.u64 (p.sent+1+(j:Int)+1)=p.sent+1+j+1 from by unfold Mod.u64;omega]
  refine A0 (KT HK ⟨by omega,by omega⟩ (by have:=hf j;omega) λh62 e62 HL=>?_)
  refine sb ?_
  rw [Qt (λj=>p.link (p.sent+1+j)) (λj=>p.sent+1+j+1)] at HL
  refine ⟨⟨j+1,?_,by omega,HL⟩,?_⟩
  ·simp;omega
  ·simp;omega
 have ej:(p.c.nodes - (p.sent+1)).toNat=j:=by omega
 have k:∀h',A9 h' (R7 q (if p.c.algo=0 then ((List.range j).foldl (λ(m:Mm) (i:Nat)=>m.store (p.link (p.sent+1+i)) (p.sent+1+i+1)) (m0.store 0 (Z5 (p.sent+1) false 0))).store 2 1 else
   (List.range p.c.level.toNat).foldl (λ(m:Mm) (i:Nat)=>m.store (p.node 1 (5+i)) (Z5 2 false 0)) (((((List.range j).foldl (λ(m:Mm) (i:Nat)=>m.store (p.link (p.sent+1+i)) (p.sent+1+i+1)) (m0.store 0 (Z5 (p.sent+1) false 0))).store 2 1).store (p.node 1 3) p.c.level).store (p.node 2 0) 18446744073709551615))*R)->K tQ h':=by
  unfold Sq6 at k
  rw [<- ej]
  exact k
 have hfj:=hf j
 generalize (List.range j).foldl (λ(m:Mm) (i:Nat)=>m.store (p.link (p.sent+1+i)) (p.sent+1+i+1)) (m0.store 0 (Z5 (p.sent+1) false 0))=m2 at *
 refine A0 (KT HJ (U.lit rfl) (by omega) λh10 e10 H10=>?_)
 have s3:=Hy m2 2 1
 refine sb ?_
 refine C4 H10.at2 rfl ?_
 refine sb ?_
 apply A6<;>intro c2
 ·rw [A8 c2] at k
  exact k h10 H10.drop2.drop2
 rw [A7 c2] at k
 refine Hw H10.at3 ?_
 refine C4 H10.at2 rfl ?_
 refine sb ?_
 refine A0 (R0 P (by decide) (by decide) λh11 o11=>?_)
 have H11:=H10.old o11
 refine sb ?_
 refine ⟨F6 H11.at2 rfl,?_⟩
 rw [show Mod.u64 p.c.level=p.c.level from by unfold Mod.u64;omega]
 refine A0 (KT H11 ⟨by omega,by omega⟩ (by omega) λh12 e12 H12=>?_)
 have s4:=Hy (m2.store 2 1) (p.node 1 3) p.c.level
 refine sb ?_
 refine Hw H12.at3 ?_
 refine A0 (R0 P (by decide) (by decide) λh13 o13=>?_)
 have H13:=H12.old o13
 refine sb ?_
 refine A0 (KT H13 (U.lit rfl) (by omega) λh14 e14 H14=>?_)
 have s5:=Hy ((m2.store 2 1).store (p.node 1 3) p.c.level) (p.node 2 0) 18446744073709551615
 refine sb ?_
 refine C4 H14.at2 rfl ?_
 refine sb ?_
 generalize ((m2.store 2 1).store (p.node 1 3) p.c.level).store (p.node 2 0) 18446744073709551615=m5 at *
 have hm5:m5.st<=2000:=by omega
 clear s1 s3 s4 s5 hfj H9 H10 H11 H12 H13
 clear hf
 have hf:=Sh5 (λj=>p.node 1 (5+j)) (λj=>Z5 2 false 0) m5
 refine ⟨λvs h'=>∃(w:vQ) (j:Nat),vs = [w,.int .i64 j]/\(j:Int)<=p.c.level/\A9 h' (R7 q ((List.range j).foldl (λ(m:Mm) (i:Nat)=>m.store (p.node 1 (5+i)) (Z5 2 false 0)) m5)*(pt Nc (.cells (Qk p.c).toArray 23)*(pt Np (.cells (Ed p).toArray 117)*R))),λvs _=>match vs with | [_,.int _ i]=>(p.c.level - i).toNat | _=>0,⟨_,0,rfl,by omega,H14⟩,?_⟩
 rintro v141 v142 g143 h144 ⟨w,j2,e,hj2,HJ⟩
 cases e
 refine sb ?_
 apply A6<;>intro c3
 ·refine Hw HJ.at3 ?_
  rw [show G2 (5+(j2:Int))=5+j2 from by unfold G2;omega]
  refine A0 (R0 P (by decide) ⟨by omega,by omega⟩ λh61 o61=>?_)
  have HK:=HJ.old o61
  refine sb ?_
  refine A0 (Qs HK (by omega) λh62 HL=>?_)
  refine sb ?_
  refine A0 (KT HL (UT (by omega)) (by have:=hf j2;omega) λh63 e63 HM=>?_)
  refine sb ?_
  rw [Qt (λj=>p.node 1 (5+j)) (λj=>Z5 2 false 0)] at HM
  rw [show G2 ((j2:Int)+1)=((j2+1:Nat):Int) from by unfold G2;omega]
  refine ⟨⟨_,j2+1,rfl,by omega,HM⟩,?_⟩
  omega
 ·have ej2:p.c.level.toNat=j2:=by omega
  rw [ej2] at k
  exact k h144 HJ.drop2.drop2
end
section
open Mod
theorem Sq7 (Ts:List Nat) (ts:List Thr) (T:Nat) (t:Thr):∀(i:Int),Ts.length=ts.length->Hx i (Ts ++ [T]) (ts ++ [t])=Hx i Ts ts*M7 T none t (i+ts.length):=by
 induction Ts generalizing ts with
 | nil=>
  intro i e
  cases ts with
  | nil=>
   show M7 T none t i*Mt=Mt*M7 T none t (i+0)
   rw [Ec,Int.add_zero]
  | cons _ _=>simp at e
 | cons T0 Ts ih=>
  intro i e
  cases ts with
  | nil=>simp at e
  | cons t0 ts=>
   have e':Ts.length=ts.length:=by simpa using e
   show M7 T0 none t0 i*Hx (i+1) (Ts ++ [T]) (ts ++ [t])=(M7 T0 none t0 i*Hx (i+1) Ts ts)*M7 T none t (i+((t0 :: ts).length:Nat))
   rw [ih ts (i+1) e',F2]
   congr 3
   simp only [Jy]
   omega
theorem S30:Be prog 120=.slice 176:=by kernel_rfl
theorem Sq8:L0 prog 176=true:=by kernel_rfl
theorem S31:GZ prog 176=some (pQ none):=by kernel_rfl
theorem My:M2 prog 176=1:=by kernel_rfl
theorem Sh6:EL prog 176=8:=by kernel_rfl
theorem S32 {h:A2} {R:Hp} {A B C:Nat} {c:Mod.Cf} (id:Int) (H:A9 h (pt A (oQ (V7 (List.replicate c.level.toNat 0)).toArray 178)*(pt B (oQ (V7 (List.replicate c.level.toNat 0)).toArray 178)*(pt C (oQ (V7 (List.replicate c.level.toNat 0)).toArray 178)*R)))) :
  A9 (h.push (oQ #[iQ id,lQ none 0 0,uQ 0,uQ 0,uQ 0,lQ (some (aQ A)) c.level.toNat c.level.toNat,lQ (some (aQ B)) c.level.toNat c.level.toNat,lQ (some (aQ C)) c.level.toNat c.level.toNat,lQ none 0 0,lQ none 0 0] 183)) (M7 h.size none (CT c) id*R):=by
 have H1:=H.push (oQ #[iQ id,lQ none 0 0,uQ 0,uQ 0,uQ 0,lQ (some (aQ A)) c.level.toNat c.level.toNat,lQ (some (aQ B)) c.level.toNat c.level.toNat,lQ (some (aQ C)) c.level.toNat c.level.toNat,lQ none 0 0,lQ none 0 0] 183)
 have H2:=((H1.own_new 190 12).own_new 3 1).own_new 3 1
 have z:∀v ∈ List.replicate c.level.toNat (0:Int),U v:=λv hv=>by rw [List.eq_of_mem_replicate hv];exact U0
 have hn:∀v ∈ ([]:List Int),iN v:=λv hv=>by cases hv
 refine J8.2 ⟨⟨none,0,A,B,C,none,0,none,0⟩,⟨⟨λf hf=>(by cases hf),⟨rfl,λv hv=>?_⟩,z,z,z,hn,hn,by simp [CT]⟩,NA.none _ _⟩,?_⟩
 ·simp only [CT,ED,GF,or_false] at hv
  rcases hv with rfl | rfl | rfl <;> exact U0
 have e:(DR ⟨none,0,A,B,C,none,0,none,0⟩ (CT c) id).toArray=#[iQ id,lQ none 0 0,uQ 0,uQ 0,uQ 0,lQ (some (aQ A)) c.level.toNat c.level.toNat,lQ (some (aQ B)) c.level.toNat c.level.toNat,lQ (some (aQ C)) c.level.toNat c.level.toNat,lQ none 0 0,lQ none 0 0]:=by
  simp [DR,CT]
 rw [e]
 have H3:A9 _ (DP none 0 0 []*_):=H2.toF (xs:=[])
 refine A9.ac H3 ?_
 show _=_*(E8 190 12 none 0 0 []*(_*(_*(_*(E8 3 1 none 0 0 []*(DP none 0 0 []*_))))))
 ac_rfl
theorem Bk {v0 v1:vQ} {F:vQ->Prop} (k:F v0):D9 #[v0,v1] 0 F:=k
theorem Bl {v0 v1:vQ} {F:vQ->Prop} (k:F v1):D9 #[v0,v1] 1 F:=k
def FQ (c:Mod.Cf) (bs:List Int) (gh:Bool) (i:Nat):Mac:=(L1 c bs gh).setTh (List.replicate i (CT c))
theorem SM5 {h:A2} {a:Addr} {v:vQ} (e:A3 h a=some v) (F:vQ->Prop):D2 h a F=F v:=by unfold D2;rw [e]
theorem z15 {F:vQ->vQ->vQ->vQ->vQ->vQ->vQ->vQ->vQ->vQ->vQ->vQ->vQ->vQ->vQ->Prop} (k:F (iQ 0) (iQ 0) (iQ 0) (iQ 0) (iQ 0) (iQ 0) (iQ 0) (iQ 0) (iQ 0) (iQ 0) (iQ 0) (iQ 0) (iQ 0) (iQ 0) (iQ 0)) :
 asAgg (.agg X2) λvs=>G3 vs 15 (D9 vs 0 λv0=>D9 vs 1 λv1=>D9 vs 2 λv2=>D9 vs 3 λv3=>D9 vs 4 λv4=>D9 vs 5 λv5=>D9 vs 6 λv6=>D9 vs 7 λv7=>D9 vs 8 λv8=>D9 vs 9 λv9=>D9 vs 10 λv10=>D9 vs 11 λv11=>D9 vs 12 λv12=>D9 vs 13 λv13=>D9 vs 14 λv14=>F v0 v1 v2 v3 v4 v5 v6 v7 v8 v9 v10 v11 v12 v13 v14):=k
theorem UU {h:A2} {X:Hp} {M q gq fq:Nat} {m:Mac} (P:Ow m.p) (e:m.th = []) (H:A9 h (pt M (oQ (JV (lQ none 0 0) q gq fq m).toArray 122)*(RH m.g gq*(Pf fq m.b m.used*(R7 q m.mm*X))))):A9 h (DI M [] m*X):=by
 have H1:=H.own_new 176 1
 have H2:A9 h (M9 M (lQ none 0 0) m*(E8 176 1 none 0 0 []*X)):=L5.2 ⟨q,gq,fq,P,A9.ac H1 (by ac_rfl)⟩
 refine W0.2 ⟨none,0,⟨by rw [e];rfl,by rw [e];simp⟩,?_⟩
 rw [e]
 show A9 h (M9 M (lQ none 0 0) m*(E8 176 1 none 0 0 []*(Mt*X)))
 rw [T8]
 exact H2
theorem YQ {h:A2} {X:Hp} {M A B C:Nat} {Ts:List Nat} {c:Mod.Cf} {bs:List Int} {gh:Bool} {i:Nat} {a:rQ} {cc:Nat} {K:A2->Prop} (hi:i < 6) (hT:Ts.length=i)
  (H:A9 h (pt A (oQ (V7 (List.replicate c.level.toNat 0)).toArray 178)*(pt B (oQ (V7 (List.replicate c.level.toNat 0)).toArray 178)*(pt C (oQ (V7 (List.replicate c.level.toNat 0)).toArray 178)*(M9 M (lQ a i cc) (FQ c bs gh i)*(E8 176 1 a i cc (Ts.map mP)*(Hx 0 Ts (List.replicate i (CT c))*X)))))))
  (k:∀h' T,A9 h' (DI M (Ts ++ [T]) (FQ c bs gh (i+1))*X)->K h') :
  U4 prog #[120,120] 120 #[lQ a i cc,lQ (some ⟨(h.push (oQ #[iQ i,lQ none 0 0,uQ 0,uQ 0,uQ 0,lQ (some (aQ A)) c.level.toNat c.level.toNat,lQ (some (aQ B)) c.level.toNat c.level.toNat,lQ (some (aQ C)) c.level.toNat c.level.toNat,lQ none 0 0,lQ none 0 0] 183)).size,0,none⟩) 1 1]
   ((h.push (oQ #[iQ i,lQ none 0 0,uQ 0,uQ 0,uQ 0,lQ (some (aQ A)) c.level.toNat c.level.toNat,lQ (some (aQ B)) c.level.toNat c.level.toNat,lQ (some (aQ C)) c.level.toNat c.level.toNat,lQ none 0 0,lQ none 0 0] 183)).push (oQ #[pQ (some (aQ h.size))] 176))
   λv h'=>D3 v λo k1 k2=>C7 h' ⟨M,18,none⟩ (lQ o k1 k2) K:=by
 have H1:=S32 (i:Int) H
 generalize h.push _=h1 at *
 generalize h.size=T at *
 have H2:=H1.push (oQ #[pQ (some (aQ T))] 176)
 have hs:N5 (h1.push (oQ #[pQ (some (aQ T))] 176)) (some (aQ h1.size)) [mP T]:=λj v hj=>⟨_,rfl,by rw [E2,J6,E5 H2.at];simpa using hj⟩
 generalize h1.push (oQ #[pQ (some (aQ T))] 176)=h2 at *
 have H3:A9 h2 (E8 176 (M2 prog 176) a i cc (Ts.map mP)*(M9 M (lQ a i cc) (FQ c bs gh i)*(Hx 0 Ts (List.replicate i (CT c))*(M7 T none (CT c) i*X)))):=by
  rw [My]
  exact A9.ac H2.drop (by ac_rfl)
 refine H3.app S30 Sq8 S31 (by rw [My];rfl) hs (n:=1) (by rw [My];rfl) (by simp [J0]) (by rw [Sh6];omega) (by rw [Sh6];omega) λa' c' h3 H4=>?_
 rw [My,D8] at H4
 obtain ⟨q,gq,fq,P,H5⟩:=L5.1 H4
 refine sb ?_
 refine H5.st (i:=18) rfl trivial λh4 H6=>k h4 T ?_
 have H7:A9 h4 (M9 M (lQ a' (i+1) c') (FQ c bs gh (i+1))*(E8 176 1 a' (i+1) c' (Ts.map mP ++ [mP T])*(Hx 0 Ts (List.replicate i (CT c))*(M7 T none (CT c) i*X)))):=L5.2 ⟨q,gq,fq,P,H6⟩
 refine W0.2 ⟨a',c',⟨by simp [FQ,Mod.Mac.setTh,hT],by simp [FQ,Mod.Mac.setTh];omega⟩,?_⟩
 have e1:(FQ c bs gh (i+1)).th=List.replicate i (CT c) ++ [CT c]:=List.replicate_succ'
 have e2:(FQ c bs gh (i+1)).th.length=i+1:=by rw [e1];simp
 rw [e2,e1,Sq7 _ _ _ _ _ (by simp [hT]),GW]
 have e3:(0:Int)+((List.replicate i (CT c)).length:Nat)=i:=by simp
 rw [e3]
 exact A9.ac H7 (by show _=_*(E8 176 1 a' (i+1) c' (Ts.map mP ++ [mP T])*_);ac_rfl)
theorem Sb {K:kQ} {h:A2} {R:Hp} {c:Mod.Cf} {a:rQ} {cc:Nat} {bs:List Int} {gh:Bool} (H:A9 h R) (hs:∀h' P,A9 h' (P*R)->N5 h' a (bs.map λn=>.int .u8 n)) (hl:bs.length<=65536) (hr:∀n ∈ bs,0<=n/\n < 256)
  (k0:GK c=false->∀h',A9 h' R->K (.tuple #[pQ none,iQ 6]) h') (k1:GK c=true->∀h' M Ts,A9 h' (DI M Ts (L1 c bs gh)*R)->K (.tuple #[mP M,iQ 0]) h') :
  A4 prog 62 #[cfV c,lQ a bs.length cc,dQ gh] h K:=by
 refine call62 ?_
 unfold F62 g62 q62_7 q62_6 q62_5 q62_4 q62_3 q62_2 q62_1 cf ce lI O8 IE BO
 have H1:=H.push (oQ #[iQ c.algo,iQ c.threads,iQ c.nodes,iQ c.level,iQ c.batch,iQ c.probes,iQ c.scan] 23)
 generalize h.push (oQ #[iQ c.algo,iQ c.threads,iQ c.nodes,iQ c.level,iQ c.batch,iQ c.probes,iQ c.scan] 23)=h1 at *
 generalize h.size=Nc at *
 have C1:=H1.at
 iterate 7 (refine C4 C1 rfl ?_)
 refine A0 (RY c (λhok h2 o2=>?_) λhok h2 o2=>?_)
 ·have P:=Cy hok
  have hp:(E1 c).c=c:=rfl
  have H2:=H1.old o2
  refine sb ?_
  refine Bk ?_
  refine By ?_
  refine Bl ?_
  refine sb ?_
  have H3:=H2.push (oQ AA 117)
  generalize h2.push (oQ AA 117)=h3 at *
  generalize h2.size=Np at *
  refine OV (F5 (vs:=Ed (E1 c)) H3.at rfl (by simp [J0]) λh4 w=>?_)
  have H4:=H3.wr w.new w.old
  clear H3 w
  refine D1 (λc0=>by simp at c0) (λ_=>?_)
  refine Hw H4.at ?_
  refine A0 (Uv λh5 o5=>?_)
  have H5:=H4.old o5
  refine sb ?_
  have hsz:1<=(E1 c).size/\(E1 c).size<=4096:=by
   have:=P.si;have:=P.tr;have:=P.nd;have:=P.li
   omega
  refine A0 (UR H5 hsz λh6 q H6=>?_)
  refine sb ?_
  refine Bk ?_
  refine sb ?_
  refine Bl ?_
  refine sb ?_
  refine D1 (λc0=>by simp at c0) (λ_=>?_)
  refine Hw H6.at2 ?_
  have hsn:(E1 c).sent < (E1 c).c.nodes:=by
   have:=hok
   unfold GK at this
   rw [decide_eq_true_iff] at this
   have h15:=this.2.2.2.2.2.2.2.2.2.2.2.2.2.2
   show (if (c.algo == 0)=true then (0:Int) else 2) < c.nodes
   simpa using h15
  refine A0 (SM4 H6 P rfl hsn λh7 H7=>?_)
  refine Hw H7.at2 ?_
  refine A0 (Sa H7 ?_ hl hr λh8 fq H8=>?_)
  ·refine hs h7 (R7 q (Sq6 (E1 c) ⟨List.replicate (E1 c).size.toNat 0,0,false,[]⟩)*(pt Np (oQ (Ed (E1 c)).toArray 117)*pt Nc (oQ #[iQ c.algo,iQ c.threads,iQ c.nodes,iQ c.level,iQ c.batch,iQ c.probes,iQ c.scan] 23))) (A9.ac H7 (by ac_rfl))
  refine sb ?_
  refine YM H8.at3 ?_
  have H9:=H8.push (oQ (JV (lQ none 0 0) q 0 fq (FQ c bs false 0)).toArray 122)
  have em:(oQ #[iQ (E1 c).c.algo,iQ (E1 c).c.threads,iQ (E1 c).c.nodes,iQ (E1 c).c.level,iQ (E1 c).c.batch,iQ (E1 c).c.probes,iQ (E1 c).c.scan,iQ (E1 c).slots,iQ (E1 c).width,iQ (E1 c).sent,iQ (E1 c).hazards,iQ (E1 c).links,iQ (E1 c).nodes,iQ (E1 c).tree,iQ (E1 c).size,pQ (some (aQ q)),pQ none,pQ (some (aQ fq)),lQ none 0 0,dQ false,dQ false] 122:Obj)=oQ (JV (lQ none 0 0) q 0 fq (FQ c bs false 0)).toArray 122:=rfl
  rw [em]
  generalize h8.push (oQ (JV (lQ none 0 0) q 0 fq (FQ c bs false 0)).toArray 122)=h9 at *
  generalize h8.size=M at *
  have e0:FQ c bs false 0=⟨E1 c,lay (E1 c),none,bs,0,[],false,false⟩:=rfl
  refine ⟨λ_ h'=>A9 h' (DI M [] (FQ c bs gh 0)*(pt Nc (oQ #[iQ c.algo,iQ c.threads,iQ c.nodes,iQ c.level,iQ c.batch,iQ c.probes,iQ c.scan] 23)*(pt Np (oQ (Ed (E1 c)).toArray 117)*R))),?_,?_⟩
  ·cases gh with
   | false=>
    simp only [E7]
    refine UU (q:=q) (gq:=0) (fq:=fq) P rfl ?_
    show A9 h9 (_*(Mt*(Pf fq bs 0*(R7 q (lay (E1 c))*_))))
    rw [T8,SM3]
    exact A9.ac H9 (by ac_rfl)
   | true=>
    simp only [G6]
    have HC:A9 h9 (pt Nc (oQ #[iQ c.algo,iQ c.threads,iQ c.nodes,iQ c.level,iQ c.batch,iQ c.probes,iQ c.scan] 23)*(pt Np (oQ (Ed (E1 c)).toArray 117)*(pt M (oQ (JV (lQ none 0 0) q 0 fq (FQ c bs false 0)).toArray 122)*(Pf fq bs 0*(R7 q (Sq6 (E1 c) ⟨List.replicate (E1 c).size.toNat 0,0,false,[]⟩)*R))))):=A9.ac H9 (by ac_rfl)
    refine C4 HC.at rfl ?_
    refine sb ?_
    refine Hw HC.at2 ?_
    refine A0 (Lt λh10 o10=>?_)
    have HD:=HC.old o10
    refine sb ?_
    refine ⟨F6 HD.at rfl,?_⟩
    have hbd:=hok
    unfold GK at hbd
    rw [decide_eq_true_iff] at hbd
    refine A0 (Pn HD ⟨hbd.2.2.2.2.1,hbd.2.2.2.2.2.1⟩ ⟨P.se.1,by have:(E1 c).sent < c.nodes:=hsn;omega⟩ λh11 gq HE=>?_)
    refine sb ?_
    have HF:A9 h11 (pt M (oQ (JV (lQ none 0 0) q 0 fq (FQ c bs false 0)).toArray 122)*(RH (some (Sf9 c.nodes (E1 c).sent)) gq*(Pf fq bs 0*(R7 q (Sq6 (E1 c) ⟨List.replicate (E1 c).size.toNat 0,0,false,[]⟩)*(pt Nc (oQ #[iQ c.algo,iQ c.threads,iQ c.nodes,iQ c.level,iQ c.batch,iQ c.probes,iQ c.scan] 23)*(pt Np (oQ (Ed (E1 c)).toArray 117)*R)))))):=A9.ac HE (by ac_rfl)
    refine HF.st (i:=16) rfl trivial λh12 HG=>?_
    exact UU (q:=q) (gq:=gq) (fq:=fq) (m:=FQ c bs true 0) P rfl HG
  intro g131 h132 H10
  refine C4 H10.at2 rfl ?_
  refine sb ?_
  refine ⟨λvs h'=>∃(w:vQ) (i:Nat) (Ts:List Nat),vs = [w,.int .i64 i]/\(i:Int)<=c.threads/\Ts.length=i/\A9 h' (DI M Ts (FQ c bs gh i)*(pt Nc (.cells #[.int .i64 c.algo,.int .i64 c.threads,.int .i64 c.nodes,.int .i64 c.level,.int .i64 c.batch,.int .i64 c.probes,.int .i64 c.scan] 23)*(pt Np (.cells (Ed (E1 c)).toArray 117)*R))),λvs _=>match vs with | [_,.int _ i]=>(c.threads - i).toNat | _=>0,⟨_,0,[],rfl,by have:=P.th;rw [hp] at this;omega,rfl,H10⟩,?_⟩
  rintro v137 v138 g139 h140 ⟨w,i,Ts,e,hi,hT,H11⟩
  cases e
  have hth:=P.th
  rw [hp] at hth
  have hlv:=P.lv
  rw [hp] at hlv
  refine sb ?_
  apply A6<;>intro c1
  ·obtain ⟨a',cc',⟨hl1,hl2⟩,H12⟩:=W0.1 H11
   have eth:(FQ c bs gh i).th=List.replicate i (CT c):=rfl
   have ethl:(FQ c bs gh i).th.length=i:=by rw [eth];simp
   rw [ethl,eth] at H12
   obtain ⟨q2,gq2,fq2,P2,H13⟩:=L5.1 H12
   have cM:A3 h140 ⟨M,18,none⟩=some (lQ a' i cc'):=E5 H13.at 18
   have HN:A9 h140 (pt Nc (oQ #[iQ c.algo,iQ c.threads,iQ c.nodes,iQ c.level,iQ c.batch,iQ c.probes,iQ c.scan] 23)*_):=H11.drop
   have cN:A3 h140 ⟨Nc,3,none⟩=some (iQ c.level):=E5 HN.at 3
   have lM:∀F:vQ->Prop,D2 h140 ⟨M,18,none⟩ F=F (lQ a' i cc'):=SM5 cM
   have lN:∀F:vQ->Prop,D2 h140 ⟨Nc,3,none⟩ F=F (iQ c.level):=SM5 cN
   have m1:=λo=>E9 (o:=o) cM
   have m2:=λo o2=>E9 (o:=o2) (m1 o)
   have m3:=λo o2 o3=>E9 (o:=o3) (m2 o o2)
   have m4:=λo o2 o3 o4=>E9 (o:=o4) (m3 o o2 o3)
   have m5:=λo o2 o3 o4 o5=>E9 (o:=o5) (m4 o o2 o3 o4)
   have n1:=λo=>E9 (o:=o) cN
   have n2:=λo o2=>E9 (o:=o2) (n1 o)
   have n3:=λo o2 o3=>E9 (o:=o3) (n2 o o2)
   have n4:=λo o2 o3 o4=>E9 (o:=o4) (n3 o o2 o3)
   have n5:=λo o2 o3 o4 o5=>E9 (o:=o5) (n4 o o2 o3 o4)
   refine se2 lM lN ?_
   have hlv4:0<=c.level/\c.level<=4096:=by omega
   have H14:=((H12.push (oQ (V7 (List.replicate c.level.toNat 0)).toArray 178)).push (oQ (V7 (List.replicate c.level.toNat 0)).toArray 178)).push (oQ (V7 (List.replicate c.level.toNat 0)).toArray 178)
   refine ⟨Et hlv4 ?_,Et hlv4 ?_,Et hlv4 ?_⟩
   all_goals
    refine se2 m1 n1 ?_
    refine ⟨Et hlv4 ?_,Et hlv4 ?_⟩
   all_goals
    refine se2 m2 n2 ?_
    refine Et hlv4 ?_
    try simp only [G5,GN,Nat.reduceAdd,Int.reduceLE,Int.reduceLT,Int.reduceToNat,m3,n3,m4,n4,m5,n5]
   all_goals
    refine YQ (i:=i) (X:=pt Nc (oQ #[iQ c.algo,iQ c.threads,iQ c.nodes,iQ c.level,iQ c.batch,iQ c.probes,iQ c.scan] 23)*(pt Np (oQ (Ed (E1 c)).toArray 117)*R)) (by omega) hT (A9.ac H14 (by ac_rfl)) λh' T H'=>?_
   all_goals
    refine ⟨⟨iQ i,i+1,Ts ++ [T],?_,by omega,by simp [hT],H'⟩,?_⟩
   all_goals
    rw [show G2 ((i:Int)+1)=((i+1:Nat):Int) from by unfold G2;omega]
   all_goals
    first
     | rfl
     | omega
  ·have ei:c.threads.toNat=i:=by omega
   have em:FQ c bs gh i=L1 c bs gh:=by
    rw [<- ei];rfl
   rw [em] at H11
   exact k1 hok h140 M Ts H11.drop2.drop2
 ·have H2:=H1.old o2
  refine sb ?_
  refine Bk ?_
  refine z15 ?_
  refine Bl ?_
  refine sb ?_
  have H3:=H2.push (oQ AA 117)
  generalize h2.push (oQ AA 117)=h3 at *
  generalize h2.size=Np at *
  refine OV (F5 (vs:=[iQ 0,iQ 0,iQ 0,iQ 0,iQ 0,iQ 0,iQ 0,iQ 0,iQ 0,iQ 0,iQ 0,iQ 0,iQ 0,iQ 0,iQ 0]) H3.at rfl (by simp [J0]) λh4 w=>?_)
  have H4:=H3.wr w.new w.old
  refine D1 (λ_=>?_) (λc0=>by simp at c0)
  exact k0 hok h4 H4.drop.drop
end
section
set_option maxRecDepth 100000
abbrev g11 (K:kQ) (h H1 H2 H3:A2) (xa xb:Int):Prop:=
 (IE H3 H1.size λa b c d e f g=>C7 (H3.push (oQ #[iQ 0,iQ 0,iQ 0,iQ 0,iQ 0,iQ 0,iQ 0,lQ none 0 0,lQ none 0 0,lQ none 0 0] 28)) (aQ H3.size) a λa=>C7 a ⟨H3.size,1,none⟩ b λa=>C7 a ⟨H3.size,2,none⟩ c λa=>C7 a ⟨H3.size,3,none⟩ d λa=>C7 a ⟨H3.size,4,none⟩ e λa=>C7 a ⟨H3.size,5,none⟩ f λa=>C7 a ⟨H3.size,6,none⟩ g λa=>C7 a ⟨H3.size,7,none⟩ (lQ none 0 0) λa=>C7 a ⟨H3.size,8,none⟩ (lQ none 0 0) λa=>C7 a ⟨H3.size,9,none⟩ (lQ none 0 0) λa=>R3 λI17=>(lI .i64 a ⟨H1.size,1,none⟩ λb=>D4 (decide (b < 1)) (I17 [dQ true] a) (lI .i64 a ⟨H1.size,1,none⟩ λb=>I17 [dQ (decide (b > 6))] a))/\(∀(a:vQ) (b:G4) (b:A2),(I17 [a] b)->(asBool a λa=>D4 a (Du b H3.size λa c d e f g i j k l=>SI3 b H2.size a c d e f g i j k l λa=>Du a H2.size λc d e f g i j k l m=>K (.agg #[c,d,e,f,g,i,j,k,l,m]) a) (R3 λI56=>GI λm57=>(I56 [iQ 0,tQ,tQ] b)/\(∀(a b c:vQ) (d:G4) (d:A2),(I56 [a,b,c] d)->(asInt .i64 a λe=>lI .i64 d ⟨H1.size,1,none⟩ λf=>D4 (decide (e < f)) (R3 λI66=>GI λm67=>(I66 [lQ none 0 0,iQ 0] d)/\(∀(e f:vQ) (g:G4) (g:A2),(I66 [e,f] g)->(R3 λI72=>(asInt .i64 a λi=>lS g ⟨h.size,7,none⟩ λj j k=>D4 (decide (i < (j:Int))) (asInt .i64 f λi=>lS g ⟨h.size,7,none⟩ λj k l=>asInt .i64 a λl=>bd l (k:Int) (F3 (pQ j) λj=>lS g (j.add (l.toNat*1)) λj j k=>D4 (decide (i < (j:Int))) (asInt .i64 f λk=>I72 [dQ (decide (i < (j:Int))),dQ (decide (k < xa))] g) (I72 [dQ (decide (i < (j:Int))),dQ false] g))) (I72 [dQ false,dQ false] g))/\(∀(i j:vQ) (k:G4) (k:A2),(I72 [i,j] k)->(asBool j λi=>D4 i (lS k ⟨h.size,7,none⟩ λi j l=>asInt .i64 a λl=>bd l (j:Int) (F3 (pQ i) λi=>lS k (i.add (l.toNat*1)) λi j l=>asInt .i64 f λl=>bd l (j:Int) (F3 (pQ i) λi=>D2 k (i.add (l.toNat*3)) λj=>D2 k (Addr.add (i.add (l.toNat*3)) 1) λm=>D2 k (Addr.add (i.add (l.toNat*3)) 2) λi=>C7 (k.push (oQ #[iQ 0,.int .u32 0,.int .u32 0] 41)) (aQ k.size) j λj=>C7 j ⟨k.size,1,none⟩ m λj=>C7 j ⟨k.size,2,none⟩ i λi=>lI .i64 i (aQ k.size) λj=>((3:Int)≠0)/\(((3:Int)≠0)/\(C7 (i.push (oQ #[iQ 0,.int .u32 0,.int .u32 0] 41)) (aQ i.size) (iQ (Int.tmod (wrap .i64 ((Int.tmod j 3)+3)) 3)) λj=>C7 j ⟨i.size,1,none⟩ (.int .u32 0) λj=>C7 j ⟨i.size,2,none⟩ (.int .u32 0) λj=>R3 λI118=>(lI .i64 j (aQ i.size) λl=>D4 (l == 0) (lI .u32 j ⟨k.size,1,none⟩ λl=>C7 j ⟨i.size,1,none⟩ (.int .u32 l) λl=>lI .u32 l ⟨k.size,2,none⟩ λm=>C7 l ⟨i.size,2,none⟩ (.int .u32 m) λl=>I118 [] l) (I118 [] j))/\(∀(j:G4) (j:A2),(I118 [] j)->(D3 e λl m n=>M0 j i.size λi o p=>U4 prog #[58,58] 58 #[lQ l m n,lQ (some (aQ j.size)) 1 1] (j.push (oQ #[i,o,p] 41)) λi j=>D3 i λi l m=>asInt .i64 f λn=>(I66 [lQ i l m,iQ (wrap .i64 (n+1))] j)/\((m67 [lQ i l m,iQ (wrap .i64 (n+1))] j) < (m67 [e,f] g))))))))) (lS k ⟨H3.size,7,none⟩ λg i j=>D3 e λl m n=>U4 prog #[24,24] 24 #[lQ g i j,lQ (some (aQ k.size)) 1 1] (k.push (oQ #[lQ l m n] 58)) λg i=>D3 g λg j k=>C7 i ⟨H3.size,7,none⟩ (lQ g j k) λg=>asInt .i64 a λi=>(I56 [iQ (wrap .i64 (i+1)),e,f] g)/\((m57 [iQ (wrap .i64 (i+1)),e,f] g) < (m57 [a,b,c] d)))))))) (R3 λI155=>GI λm156=>(I155 [iQ 0] d)/\(∀(a:vQ) (b:G4) (b:A2),(I155 [a] b)->(R3 λI160=>(asInt .i64 a λc=>lS b ⟨h.size,8,none⟩ λd d e=>D4 (decide (c < (d:Int))) (asInt .i64 a λc=>I160 [dQ (decide (c < xb))] b) (I160 [dQ false] b))/\(∀(c:vQ) (d:G4) (d:A2),(I160 [c] d)->(asBool c λc=>D4 c (D2 d ⟨H3.size,8,none⟩ λc=>D3 c λe f g=>lS d ⟨h.size,8,none⟩ λi j k=>asInt .i64 a λk=>bd k (j:Int) (F3 (pQ i) λi=>lI .i64 d (i.add (k.toNat*1)) λi=>lI .i64 d ⟨H1.size,1,none⟩ λj=>((j:Int)≠0)/\(lI .i64 d ⟨H1.size,1,none⟩ λk=>lI .i64 d ⟨H1.size,1,none⟩ λl=>((l:Int)≠0)/\(((A3 (d.push (oQ #[iQ (Int.tmod (wrap .i64 ((Int.tmod i j)+k)) l)] 3)) ⟨H3.size,8,none⟩)=(some c))/\(U4 prog #[25,25] 25 #[lQ e f g,lQ (some (aQ d.size)) 1 1] (d.push (oQ #[iQ (Int.tmod (wrap .i64 ((Int.tmod i j)+k)) l)] 3)) λc e=>D3 c λc f g=>C7 e ⟨H3.size,8,none⟩ (lQ c f g) λc=>asInt .i64 a λe=>(I155 [iQ (wrap .i64 (e+1))] c)/\((m156 [iQ (wrap .i64 (e+1))] c) < (m156 [a] b))))))) (R3 λI196=>GI λm197=>(I196 [iQ 0] d)/\(∀(a:vQ) (b:G4) (b:A2),(I196 [a] b)->(R3 λI201=>(asInt .i64 a λc=>lS b ⟨h.size,9,none⟩ λd d e=>D4 (decide (c < (d:Int))) (asInt .i64 a λc=>I201 [dQ (decide (c < 4096))] b) (I201 [dQ false] b))/\(∀(c:vQ) (d:G4) (d:A2),(I201 [c] d)->(asBool c λc=>D4 c (D2 d ⟨H3.size,9,none⟩ λc=>D3 c λe f g=>lS d ⟨h.size,9,none⟩ λi j k=>asInt .i64 a λk=>bd k (j:Int) (F3 (pQ i) λi=>lI .u8 d (i.add (k.toNat*1)) λi=>((A3 (d.push (oQ #[.int .u8 i] 5)) ⟨H3.size,9,none⟩)=(some c))/\(U4 prog #[26,26] 26 #[lQ e f g,lQ (some (aQ d.size)) 1 1] (d.push (oQ #[.int .u8 i] 5)) λc e=>D3 c λc f g=>C7 e ⟨H3.size,9,none⟩ (lQ c f g) λc=>asInt .i64 a λe=>(I196 [iQ (wrap .i64 (e+1))] c)/\((m197 [iQ (wrap .i64 (e+1))] c) < (m197 [a] b))))) (Du d H3.size λa b c e f g i j k l=>SI3 d H2.size a b c e f g i j k l λa=>Du a H2.size λb c d e f g i j k l=>K (.agg #[b,c,d,e,f,g,i,j,k,l]) a)))))))))))))))))
def F11 (K:kQ) (h:A2) (xa xb xc xd xe xf xg:Int) (xh:rQ) (xi xj:Nat) (xk:rQ) (xl xm:Nat) (xn:rQ) (xo xp:Nat) (xq xr xs xt xu xv xw xx xy:Int):Prop:=
 (g11 K h (h.push (oQ #[iQ xa,iQ xb,iQ xc,iQ xd,iQ xe,iQ xf,iQ xg,lQ xh xi xj,lQ xk xl xm,lQ xn xo xp] 28)) (Array.push (h.push (oQ #[iQ xa,iQ xb,iQ xc,iQ xd,iQ xe,iQ xf,iQ xg,lQ xh xi xj,lQ xk xl xm,lQ xn xo xp] 28)) (oQ #[iQ xq,iQ xr,iQ xs,iQ xt,iQ xu,iQ xv,iQ xw] 23)) (Array.push (Array.push (h.push (oQ #[iQ xa,iQ xb,iQ xc,iQ xd,iQ xe,iQ xf,iQ xg,lQ xh xi xj,lQ xk xl xm,lQ xn xo xp] 28)) (oQ #[iQ xq,iQ xr,iQ xs,iQ xt,iQ xu,iQ xv,iQ xw] 23)) (oQ #[iQ 0,iQ 0,iQ 0,iQ 0,iQ 0,iQ 0,iQ 0,lQ none 0 0,lQ none 0 0,lQ none 0 0] 28)) xx xy)
theorem call11 {K:kQ} {h:A2} {xa xb xc xd xe xf xg:Int} {xh:rQ} {xi xj:Nat} {xk:rQ} {xl xm:Nat} {xn:rQ} {xo xp:Nat} {xq xr xs xt xu xv xw xx xy:Int} (H:F11 K h xa xb xc xd xe xf xg xh xi xj xk xl xm xn xo xp xq xr xs xt xu xv xw xx xy):A4 prog 11 #[(.agg #[(iQ xa),(iQ xb),(iQ xc),(iQ xd),(iQ xe),(iQ xf),(iQ xg),(lQ xh xi xj),(lQ xk xl xm),(lQ xn xo xp)]),(.agg #[(iQ xq),(iQ xr),(iQ xs),(iQ xt),(iQ xu),(iQ xv),(iQ xw)]),(iQ xx),(iQ xy)] h K:=
 cQ Tryz.func11 H
end
section
open Go.Proofs.YtahpbclnkofhfaaGreat.Mod
end
section
open Mod
section
variable {K:kQ} {h:A2} {M T b o N:Nat} {tv:vQ} {R:Hp} {m:Mac}
structure Tl6 (m:Mac):Prop where
 hn:m.p.links+m.p.c.nodes=m.p.nodes
 hw:(m.mm.w.length:Int)=m.p.size
end
end
section
open Mod
structure Cl where
 op:Int
 key:Int
 val:Int
def CJ (c:Cl):List vQ:=[iQ c.op,.int .u32 c.key,.int .u32 c.val]
structure Ix where
 k:Int
 back:Bool
 c:Cl
 a:Cl
def Dc (e:Ix):List vQ:=[iQ e.k,dQ e.back,iQ e.c.op,.int .u32 e.c.key,.int .u32 e.c.val,iQ e.a.op,.int .u32 e.a.key,.int .u32 e.a.val]
structure DS where
 m:Mac
 nx:List Int
 cu:List Cl
 ev:List Ix
structure DB where
 pb:Nat
 nb:Nat
 tb:Nat
 cb:Nat
def bv (b:Bool):vQ:=dQ b
theorem BK (c:Cl):(CJ c).length=3:=rfl
theorem Sc (e:Ix):(Dc e).length=8:=rfl
theorem Sh7:Be prog 32=.slice 45:=by kernel_rfl
theorem Qu:L0 prog 45=true:=by kernel_rfl
theorem Fk:M2 prog 45=8:=by kernel_rfl
theorem Mz:EL prog 45=48:=by kernel_rfl
theorem Sh8:GZ prog 45=some (.agg #[iQ 0,dQ false,iQ 0,.int .u32 0,.int .u32 0,iQ 0,.int .u32 0,.int .u32 0]):=by kernel_rfl
section
variable {K:kQ} {h:A2} {M T:Nat} {B:DB} {Ts:List Nat} {n:Nat} {s:DS} {R:Hp}
end
end
section
open Mod
def YR:ByteArray:=⟨#[0,1,2,2,3,3,3,3,4,4,4,4,4,4,4,4,5,5,5,5,5,5,5,5,5,5,5,5,5,5,5,5,6,6,6,6,6,6,6,6,6,6,6,6,6,6,6,6,6,6,6,6,6,6,6,6,6,6,6,6,6,6,6,6,7,7,7,7,7,7,7,7,7,7,7,7,7,7,7,7,7,7,7,7,7,7,7,7,7,7,7,7,7,7,7,7,7,7,7,7,7,7,7,7,7,7,7,7,7,7,7,7,7,7,7,7,7,7,7,7,7,7,7,7,7,7,7,7,8,8,8,8,8,8,8,8,8,8,8,8,8,8,8,8,8,8,8,8,8,8,8,8,8,8,8,8,8,8,8,8,8,8,8,8,8,8,8,8,8,8,8,8,8,8,8,8,8,8,8,8,8,8,8,8,8,8,8,8,8,8,8,8,8,8,8,8,8,8,8,8,8,8,8,8,8,8,8,8,8,8,8,8,8,8,8,8,8,8,8,8,8,8,8,8,8,8,8,8,8,8,8,8,8,8,8,8,8,8,8,8,8,8,8,8,8,8,8,8,8,8,8,8,8,8,8,8]⟩
theorem Sq9:((List.range 256).all λi=>Kx YR i == if i=0 then 0 else ((Nat.log2 i+1:Nat):Int))=true:=by decide +kernel
theorem Sr0 {i:Nat} (h:i < 256) (h0:1<=i):Kx YR i=((Nat.log2 i+1:Nat):Int):=by
 have:=MG.1 Sq9 i (List.mem_range.2 h)
 rw [A7 (by omega)] at this
 simpa using this
theorem NG {n k:Nat} (h:2 ^ k<=n):Nat.log2 n=Nat.log2 (n / 2 ^ k)+k:=by
 have hk:0 < 2 ^ k:=Nat.two_pow_pos k
 have h1:n / 2 ^ k≠0:=by
  have:=Nat.div_pos h hk
  omega
 have h2:=(Nat.log2_eq_iff h1).1 rfl
 rw [Nat.log2_eq_iff (by omega)]
 constructor
 ·rw [Nat.pow_add]
  exact R4 (EJ _ h2.1) (Nat.div_mul_le_self n _)
 ·have:=(Nat.div_lt_iff_lt_mul hk).1 h2.2
  rw [show (n / 2 ^ k).log2+k+1=((n / 2 ^ k).log2+1)+k by omega,Nat.pow_add]
  exact this
section
variable {K:kQ} {h:A2}
theorem YS {n:Nat} (h1:1<=n) (h2:n<=1048576) (k:K (iQ ((Nat.log2 n+1:Nat):Int)) h):A4 prog 310 #[uQ (n:Int)] h K:=by
 refine call310 ?_
 unfold F310
 refine ⟨λvs h'=>vs = [uQ (n:Int),iQ 0]/\h' = h,?_,?_⟩
 ·exact A6 (λc=>by omega) (λ_=>⟨rfl,by trivial⟩)
 rintro v1 v2 g3 h4 ⟨e,rfl⟩
 cases e
 refine ⟨λvs h'=>(∃(m s:Nat),vs = [uQ (m:Int),iQ (s:Int)]/\1<=m/\m < 65536/\s<=16/\Nat.log2 n=Nat.log2 m+s)/\h' = h4,?_,?_⟩
 ·simp only [A5]
  refine A6 (λc=>⟨by decide,?_⟩) (λc=>?_)
  ·refine ⟨⟨n / 65536,16,?_,?_,?_,by omega,NG (k:=16) (by omega)⟩,by trivial⟩
   ·rw [BE (by omega),E3 (by omega) (by omega)];rfl
   ·omega
   ·omega
  ·exact ⟨⟨n,0,rfl,h1,by omega,by omega,rfl⟩,by trivial⟩
 rintro v9 v10 g11 h12 ⟨⟨m,s,e,m1,m2,hs,hl⟩,rfl⟩
 cases e
 refine ⟨λvs h'=>(∃(m s:Nat),vs = [uQ (m:Int),iQ (s:Int)]/\1<=m/\m < 256/\s<=24/\Nat.log2 n=Nat.log2 m+s)/\h' = h12,?_,?_⟩
 ·simp only [A5]
  refine A6 (λc=>⟨by decide,?_⟩) (λc=>?_)
  ·refine ⟨⟨m / 256,s+8,?_,?_,?_,by omega,?_⟩,by trivial⟩
   ·rw [BE (by omega),E3 (by omega) (by omega)];rfl
   ·omega
   ·omega
   ·have:=NG (n:=m) (k:=8) (by omega)
    rw [show (2:Nat) ^ 8=256 from rfl] at this
    omega
  ·exact ⟨⟨m,s,rfl,m1,by omega,by omega,hl⟩,by trivial⟩
 rintro v17 v18 g19 h20 ⟨⟨m,s,e,m1,m2,hs,hl⟩,rfl⟩
 cases e
 simp only [A5]
 have e8:wrap .u8 (m:Int)=(m:Int):=by
  unfold wrap IntKind.signed IntKind.bits
  simp only [Mf,Cd,if_false]
  omega
 rw [e8]
 refine ⟨by omega,by omega,?_⟩
 show K (iQ (wrap .i64 ((s:Int)+wrap .i64 (Kx YR (m:Int).toNat)))) h20
 rw [show (m:Int).toNat=m by omega,Sr0 m2 m1]
 have hlm:Nat.log2 m < 256:=Nat.lt_of_le_of_lt (Nat.log2_le_self m) m2
 rw [E3 (n:=((Nat.log2 m+1:Nat):Int)) (by omega) (by omega),E3 (by omega) (by omega)]
 rw [hl] at k
 rw [show ((s:Int)+((Nat.log2 m+1:Nat):Int))=((Nat.log2 m+s+1:Nat):Int) by omega]
 exact k
theorem Hz {n:Int} (k:K (dQ (Pb n)) h):A4 prog 287 #[iQ n] h K:=by
 refine call287 ?_
 unfold F287
 unfold Pb at k
 apply A6<;>intro c
 ·have e:decide (n<=1048576)=decide (1<=n/\n<=1048576):=by rw [decide_eq_decide];omega
  rw [e];exact k
 ·rw [S4 (by omega)] at k
  exact k
theorem UV {n:Int}:Pb n=true↔1<=n/\n<=1048576:=by unfold Pb;rw [EK]
theorem LC {n:Int} (k:K (iQ (BJ n)) h):A4 prog 301 #[iQ n] h K:=by
 refine call301 ?_
 unfold F301 cf
 refine A0 (Hz ?_)
 refine sb ?_
 unfold BJ at k
 apply D1<;>intro c
 ·have c:Pb n=false:=by simpa using c
  rw [c] at k
  simpa using k
 ·have c:Pb n=true:=by simpa using c
  rw [c] at k
  obtain ⟨n1,n2⟩:=UV.1 c
  have e:u64 n=((n.toNat:Nat):Int):=by unfold u64;omega
  refine A0 (call308 ?_)
  unfold F308 cf
  rw [e]
  refine A0 (YS (by omega) (by omega) ?_)
  refine sb ?_
  have hl:Nat.log2 n.toNat<=n.toNat:=Nat.log2_le_self _
  rw [show G2 (((n.toNat.log2+1:Nat):Int) - 1)=(n.toNat.log2:Int) by unfold G2;omega]
  simpa using k
theorem UW (n:Int):0<=BJ n/\BJ n<=20:=by
 unfold BJ
 split
 ·rename_i c
  obtain ⟨n1,n2⟩:=UV.1 c
  have h0:n.toNat≠0:=by omega
  have:=(Nat.log2_lt h0 (k:=21)).2 (by omega)
  omega
 ·omega
theorem Gr {d:Int} (hd:iN d) (k:K (iQ (S8 d)) h):A4 prog 216 #[iQ d] h K:=by
 refine call216 ?_
 unfold F216
 unfold S8 at k
 refine ⟨λvs h'=>vs = [dQ (decide (d < 1\/d > 20))]/\h' = h,?_,?_⟩
 ·refine A6 (λc=>⟨by rw [V6 (.inl c)],by trivial⟩) (λc=>⟨?_,by trivial⟩)
  congr 2
  rw [decide_eq_decide];omega
 rintro v1 g2 h3 ⟨e,rfl⟩
 cases e
 refine sb ?_
 apply A6<;>intro c
 ·rw [A8 c] at k;exact k
 ·rw [A7 c] at k
  have e1:G2 (d - 1)=d - 1:=by unfold G2;omega
  rw [e1,show min (d - 1).toNat 64=(d - 1).toNat by omega,Int.one_mul]
  refine ⟨by omega,?_⟩
  have hp:(2:Int) ^ (d - 1).toNat<=2 ^ 19:=by
   have:=Nat.pow_le_pow_right (n:=2) (by omega) (show (d - 1).toNat<=19 by omega)
   exact_mod_cast this
  have hp0:(0:Int)<=2 ^ (d - 1).toNat:=by exact_mod_cast T4 _
  rw [show G2 (2 ^ (d - 1).toNat)=2 ^ (d - 1).toNat by unfold G2;omega]
  exact k
theorem Sd (d:Int):0<=S8 d/\S8 d<=524288:=by
 unfold S8
 split
 ·omega
 ·rename_i c
  have hp:(2:Int) ^ (d - 1).toNat<=2 ^ 19:=by
   have:=Nat.pow_le_pow_right (n:=2) (by omega) (show (d - 1).toNat<=19 by omega)
   exact_mod_cast this
  have hp0:(0:Int)<=2 ^ (d - 1).toNat:=by exact_mod_cast T4 _
  omega
theorem JY (a b:Int):Hc a b=max a b:=by unfold Hc;split <;> omega
theorem UX (a b:Int):JB a b=min a b:=by unfold JB;split <;> omega
theorem NH {d w:Int} (hd:iN d) (k:K (iQ (Yv d w)) h):A4 prog 213 #[iQ d,iQ w] h K:=by
 refine call213 ?_
 unfold F213 cf
 refine A0 (Gr hd ?_)
 refine sb ?_
 unfold Yv at k
 have hr:=Sd d
 apply A6<;>intro c
 ·simp only [A8 c] at k;exact k
 ·simp only [A7 c] at k
  rw [AV,JY]
  refine ⟨c,?_⟩
  rw [Hm (by omega)]
  have h0:0<=max w 0 % S8 d:=Int.emod_nonneg _ c
  have h1:max w 0 % S8 d < S8 d:=Int.emod_lt_of_pos _ (by omega)
  have e:max (0:Int) w=max w 0:=Int.max_comm _ _
  try rw [e]
  rw [show G2 (S8 d+max w 0 % S8 d)=S8 d+max w 0 % S8 d by unfold G2;omega]
  exact k
theorem SM6 {n l:Int} (hl:iN l) (k:K (iQ (Td3 n l)) h):A4 prog 282 #[iQ n,iQ l] h K:=by
 refine call282 ?_
 unfold F282 cf
 unfold Td3 at k
 have hr:=UW n
 refine ⟨λvs h'=>(∃w,vs = [w,dQ (!Pb n || decide (l < 0) || decide (BJ n < l))])/\h' = h,?_,?_⟩
 ·refine A0 (Hz ?_)
  refine sb ?_
  apply D1<;>intro c
  ·rw [c];exact ⟨_,rfl⟩
  ·rw [c]
   apply A6<;>intro c2
   ·rw [V6 c2];exact ⟨_,rfl⟩
   ·rw [S4 c2]
    refine A0 (LC ?_)
    refine sb ?_
    exact ⟨_,rfl⟩
 rintro v7 v8 g9 h10 ⟨⟨w,e⟩,rfl⟩
 cases e
 refine sb ?_
 apply D1<;>intro c
 ·rw [A8 c] at k;exact k
 ·rw [A7 (by rw [c];simp)] at k
  refine A0 (LC ?_)
  refine sb ?_
  simp only [SD5,Bool.not_eq_false',decide_eq_false_iff_not] at c
  rw [show G2 (BJ n - l)=BJ n - l by unfold G2;omega]
  refine ⟨by omega,?_⟩
  rw [BE (by exact_mod_cast T4 _),show min (BJ n - l).toNat 64=(BJ n - l).toNat by omega]
  exact k
theorem UY {n d:Int} (hd:iN d) (k:K (dQ (RC n d)) h):A4 prog 230 #[iQ n,iQ d] h K:=by
 refine call230 ?_
 unfold F230 cf
 refine A0 (Hz ?_)
 refine sb ?_
 unfold RC at k
 apply D1<;>intro c
 ·rw [c,FC] at k
  refine A0 (Gr hd ?_)
  refine sb ?_
  exact k
 ·rw [c,Mf] at k
  exact k
abbrev spV (s:Sp):vQ:=.agg #[iQ s.lo,iQ s.hi]
theorem Sr1 {n:Int} (hn:iN n) (k:∀h',G9 h.size h h'->K (spV (SK4 n)) h'):A4 prog 218 #[iQ n] h K:=by
 refine call218 ?_
 unfold F218 Rt
 rw [AV,JY]
 have p1:=G8 h #[iQ 0,iQ 0] 282
 generalize h.push (oQ #[iQ 0,iQ 0] 282)=h1 at *
 refine stR p1.new rfl trivial λh2 w2=>stR w2.new rfl trivial λh3 w3=>C4 w3.new rfl (C4 w3.new rfl ?_)
 rw [E3 (by omega) (by omega)]
 exact k h3 (w3.toOld (w2.toOld p1.toOld (G0 _)) (G0 _))
theorem NI {s:Sp} (k:∀h',G9 h.size h h'->K (dQ s.done) h'):A4 prog 221 #[spV s] h K:=by
 refine call221 ?_
 unfold F221 g221 lI
 have p1:=G8 h #[iQ s.lo,iQ s.hi] 282
 generalize h.push (oQ #[iQ s.lo,iQ s.hi] 282)=h1 at *
 refine C4 p1.new rfl ?_
 refine sb ?_
 refine C4 p1.new rfl ?_
 refine sb ?_
 exact k h1 p1.toOld
theorem NJ {n:Int} (k:K (iQ (JT n)) h):A4 prog 283 #[iQ n] h K:=by
 refine call283 ?_
 unfold F283
 rw [AV,UX,AV,JY]
 exact k
theorem JZ (n:Int):0<=JT n/\JT n<=1073741824:=by unfold JT;omega
theorem KV {s:Sp} (k:∀h',G9 h.size h h'->K (iQ s.mid) h'):A4 prog 223 #[spV s] h K:=by
 refine call223 ?_
 unfold F223 g223 cf ce lI
 have p1:=G8 h #[iQ s.lo,iQ s.hi] 282
 generalize h.push (oQ #[iQ s.lo,iQ s.hi] 282)=h1 at *
 refine C4 p1.new rfl ?_
 refine sb ?_
 refine C4 p1.new rfl ?_
 refine sb ?_
 refine A0 (NJ ?_)
 refine sb ?_
 refine ⟨F6 p1.new rfl,?_⟩
 refine A0 (NJ ?_)
 refine sb ?_
 have c1:=JZ s.lo
 have c2:=JZ s.hi
 refine ⟨by decide,?_⟩
 have e1:G2 (JT s.lo+JT s.hi)=JT s.lo+JT s.hi:=by unfold G2;omega
 rw [e1,Sk3 (by omega)]
 rw [show G2 ((JT s.lo+JT s.hi) / 2)=(JT s.lo+JT s.hi) / 2 by unfold G2;omega]
 exact k h1 p1.toOld
theorem Sh9 (s:Sp):0<=s.mid/\s.mid<=1073741824:=by
 have c1:=JZ s.lo
 have c2:=JZ s.hi
 unfold Sp.mid
 omega
theorem Sr2 {s:Sp} {b:Bool} (k:∀h',G9 h.size h h'->K (spV (s.cut b)) h'):A4 prog 224 #[spV s,dQ b] h K:=by
 refine call224 ?_
 unfold F224 g224 cf ce Rt dw2
 have p1:=G8 h #[iQ s.lo,iQ s.hi] 282
 generalize h.push (oQ #[iQ s.lo,iQ s.hi] 282)=h1 at *
 have p2:=G8 h1 #[iQ 0,iQ 0] 282
 generalize h1.push (oQ #[iQ 0,iQ 0] 282)=h2 at *
 have hs:=p1.size
 have o2:G9 h.size h h2:=p1.toOld.trans (p2.toOld.mono (by omega))
 have e0:h2[h.size]? = some (oQ #[iQ s.lo,iQ s.hi] 282):=(p2.old _ (by omega)).trans p1.new
 refine C4 e0 rfl (C4 e0 rfl ?_)
 refine A0 (NI λh3 o3=>?_)
 refine sb ?_
 have e3:h3[h.size]? = some (oQ #[iQ s.lo,iQ s.hi] 282):=(o3.2 _ (by have:=p2.size;omega)).trans e0
 have n3:h3[h1.size]? = some (oQ #[iQ 0,iQ 0] 282):=(o3.2 _ (by have:=p2.size;omega)).trans p2.new
 have o23:G9 h.size h h3:=o2.trans (o3.mono (by have:=p2.size;omega))
 unfold Sp.cut at k
 apply D1<;>intro c
 ·rw [A8 c] at k
  refine C4 e3 rfl (C4 e3 rfl ?_)
  refine stR n3 rfl trivial λh4 w4=>stR w4.new rfl trivial λh5 w5=>C4 w5.new rfl (C4 w5.new rfl ?_)
  exact k h5 (w5.toOld (w4.toOld o23 (by omega)) (by omega))
 ·rw [A7 (by rw [c];simp)] at k
  cases b with
  | true=>
   simp only [G6,if_true] at k ⊢
   refine C4 e3 rfl ?_
   refine sb ?_
   refine C4 e3 rfl (C4 e3 rfl ?_)
   refine A0 (KV λh4 o4=>?_)
   refine sb ?_
   have e4:=(o4.2 _ (by have:=o3.1;have:=p2.size;omega)).trans e3
   have n4:=(o4.2 _ (by have:=o3.1;have:=p2.size;omega)).trans n3
   have o24:G9 h.size h h4:=o23.trans (o4.mono o23.1)
   refine ⟨F6 e4 rfl,?_⟩
   refine stR n4 rfl trivial λh5 w5=>stR w5.new rfl trivial λh6 w6=>C4 w6.new rfl (C4 w6.new rfl ?_)
   exact k h6 (w6.toOld (w5.toOld o24 (by omega)) (by omega))
  | false=>
   simp only [E7,Cd,if_false] at k ⊢
   refine C4 e3 rfl (C4 e3 rfl (C4 e3 rfl ?_))
   refine sb ?_
   refine A0 (KV λh4 o4=>?_)
   refine sb ?_
   have e4:=(o4.2 _ (by have:=o3.1;have:=p2.size;omega)).trans e3
   have n4:=(o4.2 _ (by have:=o3.1;have:=p2.size;omega)).trans n3
   have o24:G9 h.size h h4:=o23.trans (o4.mono o23.1)
   have hm:=Sh9 s
   rw [show G2 (s.mid+1)=s.mid+1 by unfold G2;omega]
   refine ⟨F6 e4 rfl,?_⟩
   refine stR n4 rfl trivial λh5 w5=>stR w5.new rfl trivial λh6 w6=>C4 w6.new rfl (C4 w6.new rfl ?_)
   exact k h6 (w6.toOld (w5.toOld o24 (by omega)) (by omega))
end
end
end Go.Proofs.YtahpbclnkofhfaaGreat
