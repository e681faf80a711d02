/- Part 12 of what the proofs of this seat rest on: see the last text of the claim. -/
import Derived.Test.YtahpbclnkofhfaaGreatQ1b6b94d93683
import Derived.Test.YtahpbclnkofhfaaGreatProg
set_option linter.unusedSimpArgs false
set_option linter.unusedVariables false
set_option linter.ambiguousOpen false
set_option maxRecDepth 20000
open Go.Proofs.Tryz (prog)
open Go.IntKind (wrap)
namespace Go.Proofs.YtahpbclnkofhfaaGreat
section
set_option maxRecDepth 100000
variable {K:kQ} {h:A2}
def F22 (K:kQ) (h:A2) (xa:rQ) (xb xc:Nat) (xd:Int):Prop:=
 (cf 49 #[lQ xa xb xc,.func (.func 50) #[] #[pQ (some (aQ h.size))]] (h.push (oQ #[iQ xd] 3)) λa b=>D3 a λa c d=>K (lQ a c d) b)
theorem call22 {xa:rQ} {xb xc:Nat} {xd:Int} (H:F22 K h xa xb xc xd):A4 prog 22 #[(lQ xa xb xc),(iQ xd)] h K:=
 cQ Tryz.func22 H
def F24 (K:kQ) (h:A2) (xa:rQ) (xb xc:Nat):Prop:=
 (cf 49 #[lQ xa xb xc,.func (.func 53) #[] #[]] h λa b=>D3 a λa a c=>K (iQ (a:Int)) b)
theorem call24 {xa:rQ} {xb xc:Nat} (H:F24 K h xa xb xc):A4 prog 24 #[(lQ xa xb xc)] h K:=
 cQ Tryz.func24 H
abbrev g14 (K:kQ) (h H1:A2):Prop:=
 (Du H1 h.size λa b c d e f g i j k=>cf 29 #[.agg #[a,b,c,d,e,f,g,i,j,k]] H1 λa b=>asBool a λa=>D4 (!a) (K (.tuple #[lQ none 0 0,iQ 1]) b) (da7 b (aQ h.size) λa c d e f g i=>lS b ⟨h.size,9,none⟩ λj k l=>cf 30 #[.agg #[a,c,d,e,f,g,i],lQ j k l,dQ false] b λa b=>J3 a λc=>D9 c 0 λc=>C9 c λc=>J3 a λa=>D9 a 1 λa=>asInt .i64 a λa=>D4 (a != 0) (K (.tuple #[lQ none 0 0,iQ a]) b) (Du b h.size λa d e f g i j k l m=>lI .i64 b ((aQ h.size).add 1) λn=>Y2 prog 3 n n b λb n=>D3 b λb o p=>ce n h.size 0 a (ce n h.size 1 d (ce n h.size 2 e (ce n h.size 3 f (ce n h.size 4 g (ce n h.size 5 i (ce n h.size 6 j (ce n h.size 7 k (ce n h.size 8 l (ce n h.size 9 m (cf 31 #[pQ c] (n.push (oQ #[pQ c,a,d,e,f,g,i,j,k,l,m,lQ b o p,lQ none 0 0] 89)) λa b=>C9 a λa=>cf 32 #[pQ a] b λa b=>C9 a λa=>cf 38 #[pQ a,dQ true] b λa a=>lS a ⟨h.size,8,none⟩ λb c d=>R3 λI61=>GI λm62=>(I61 [tQ,iQ 0] a)/\(∀(a d:vQ) (e:G4) (e:A2),(I61 [a,d] e)->(asInt .i64 d λf=>D4 (decide (f < (c:Int))) (Il d λf=>bd f (c:Int) (F3 (pQ b) λb=>lI .i64 e (b.add (f.toNat*1)) λb=>cf 39 #[pQ (some (aQ n.size)),iQ b] e λc c=>G5 (pQ (some (aQ n.size))) (lS c ⟨n.size,12,none⟩ λf f g=>cf 40 #[pQ (some (aQ n.size)),iQ b,iQ (f:Int)] c λc c=>asInt .i64 d λf=>(I61 [iQ b,iQ (wrap .i64 (f+1))] c)/\((m62 [iQ b,iQ (wrap .i64 (f+1))] c) < (m62 [a,d] e))))) (G5 (pQ (some (aQ n.size))) (lS e ⟨n.size,12,none⟩ λa b c=>K (.tuple #[lQ a b c,iQ 0]) e)))))))))))))))))
def F14 (K:kQ) (h:A2) (xa xb xc xd xe xf xg:Int) (xh:rQ) (xi xj:Nat) (xk:rQ) (xl xm:Nat) (xn:rQ) (xo xp:Nat):Prop:=
 (g14 K h (h.push (oQ #[iQ xa,iQ xb,iQ xc,iQ xd,iQ xe,iQ xf,iQ xg,lQ xh xi xj,lQ xk xl xm,lQ xn xo xp] 28)))
theorem call14 {xa xb xc xd xe xf xg:Int} {xh:rQ} {xi xj:Nat} {xk:rQ} {xl xm:Nat} {xn:rQ} {xo xp:Nat} (H:F14 K h xa xb xc xd xe xf xg xh xi xj xk xl xm xn xo xp):A4 prog 14 #[(.agg #[(iQ xa),(iQ xb),(iQ xc),(iQ xd),(iQ xe),(iQ xf),(iQ xg),(lQ xh xi xj),(lQ xk xl xm),(lQ xn xo xp)])] h K:=
 cQ Tryz.func14 H
def F49 (K:kQ) (h:A2) (xa:rQ) (xb xc:Nat) (xd:vQ):Prop:=
 (J0 xd (cf 91 #[lQ xa xb xc] (h.push (oQ #[xd] 101)) λa b=>D3 a λa c d=>cf 90 #[lQ a c d,.func (.func 92) #[] #[pQ (some (aQ h.size))]] b λa b=>D3 a λa c d=>K (lQ a c d) b))
theorem call49 {xa:rQ} {xb xc:Nat} {xd:vQ} (H:F49 K h xa xb xc xd):A4 prog 49 #[(lQ xa xb xc),xd] h K:=
 cQ Tryz.func49 H
abbrev g50 (K:kQ) (h H1:A2) (c0:vQ):Prop:=
 (lI .i64 H1 (aQ h.size) λa=>F3 c0 λb=>lI .i64 H1 b λb=>K (dQ (a == b)) H1)
def F50 (K:kQ) (h:A2) (xa xb:Int) (xc:Bool) (xd xe xf xg xh xi:Int) (c0:vQ):Prop:=
 (g50 K h (h.push (oQ #[iQ xa,iQ xb,dQ xc,iQ xd,iQ xe,iQ xf,iQ xg,iQ xh,iQ xi] 51)) c0)
theorem call50 {xa xb:Int} {xc:Bool} {xd xe xf xg xh xi:Int} {c0:vQ} (H:F50 K h xa xb xc xd xe xf xg xh xi c0):A4 prog 50 #[(.agg #[(iQ xa),(iQ xb),(dQ xc),(iQ xd),(iQ xe),(iQ xf),(iQ xg),(iQ xh),(iQ xi)]),c0] h K:=
 cQ Tryz.func50 H
def F52 (K:kQ) (h:A2) (xa:Int):Prop:=
 (D4 (xa == 4) (K (dQ true) h) (K (dQ (xa == 5)) h))
theorem call52 {xa:Int} (H:F52 K h xa):A4 prog 52 #[(iQ xa)] h K:=
 cQ Tryz.func52 H
abbrev g53 (K:kQ) (h H1:A2):Prop:=
 (lI .i64 H1 ⟨h.size,1,none⟩ λa=>cf 54 #[iQ a] H1 λa b=>asBool a λa=>D4 a (D2 b ⟨h.size,2,none⟩ λa=>asBool a λa=>K (dQ (!a)) b) (K (dQ false) b))
def F53 (K:kQ) (h:A2) (xa xb:Int) (xc:Bool) (xd xe xf xg xh xi:Int):Prop:=
 (g53 K h (h.push (oQ #[iQ xa,iQ xb,dQ xc,iQ xd,iQ xe,iQ xf,iQ xg,iQ xh,iQ xi] 51)))
theorem call53 {xa xb:Int} {xc:Bool} {xd xe xf xg xh xi:Int} (H:F53 K h xa xb xc xd xe xf xg xh xi):A4 prog 53 #[(.agg #[(iQ xa),(iQ xb),(dQ xc),(iQ xd),(iQ xe),(iQ xf),(iQ xg),(iQ xh),(iQ xi)])] h K:=
 cQ Tryz.func53 H
def F54 (K:kQ) (h:A2) (xa:Int):Prop:=
 (D4 (xa == 2) (K (dQ true) h) (cf 52 #[iQ xa] h λa b=>asBool a λa=>K (dQ a) b))
theorem call54 {xa:Int} (H:F54 K h xa):A4 prog 54 #[(iQ xa)] h K:=
 cQ Tryz.func54 H
abbrev g29 (K:kQ) (h H1:A2):Prop:=
 (R3 λI0=>(da7 H1 (aQ h.size) λa b c d e f g=>cf 59 #[.agg #[a,b,c,d,e,f,g]] H1 λa b=>asInt .i64 a λa=>D4 (a != 0) (I0 [dQ true,dQ true,dQ true,dQ true] b) (lS b ⟨h.size,7,none⟩ λa a c=>lI .i64 b ((aQ h.size).add 1) λc=>D4 ((a:Int) != c) (I0 [dQ ((a:Int) != c),dQ true,dQ true,dQ true] b) (Du b h.size λd e f g i j k l m n=>cf 60 #[.agg #[d,e,f,g,i,j,k,l,m,n]] b λb d=>asInt .i64 b λb=>D4 (decide (b > 48)) (I0 [dQ ((a:Int) != c),dQ (decide (b > 48)),dQ true,dQ true] d) (lS d ⟨h.size,8,none⟩ λe e f=>D4 (decide ((e:Int) > 60000)) (I0 [dQ ((a:Int) != c),dQ (decide (b > 48)),dQ (decide ((e:Int) > 60000)),dQ true] d) (lS d ⟨h.size,9,none⟩ λf f g=>I0 [dQ ((a:Int) != c),dQ (decide (b > 48)),dQ (decide ((e:Int) > 60000)),dQ (decide ((f:Int) > 4096))] d)))))/\(∀(a b c d:vQ) (e:G4) (e:A2),(I0 [a,b,c,d] e)->(asBool d λa=>D4 a (K (dQ false) e) (lS e ⟨h.size,7,none⟩ λa b c=>R3 λI49=>GI λm50=>(I49 [dQ false,tQ,iQ 0,tQ] e)/\(∀(c d e f:vQ) (g:G4) (g:A2),(I49 [c,d,e,f] g)->(asInt .i64 e λi=>D4 (decide (i < (b:Int))) (Il e λi=>bd i (b:Int) (F3 (pQ a) λa=>lS g (a.add (i.toNat*1)) λa b i=>R3 λI64=>GI λm65=>(I64 [c,iQ 0] g)/\(∀(j k:vQ) (l:G4) (l:A2),(I64 [j,k] l)->(asInt .i64 k λm=>D4 (decide (m < (b:Int))) (Il k λm=>bd m (b:Int) (F3 (pQ a) λn=>D2 l (n.add (m.toNat*3)) λo=>D2 l (Addr.add (n.add (m.toNat*3)) 1) λp=>D2 l (Addr.add (n.add (m.toNat*3)) 2) λm=>C7 (l.push (oQ #[iQ 0,.int .u32 0,.int .u32 0] 41)) (aQ l.size) o λn=>C7 n ⟨l.size,1,none⟩ p λn=>C7 n ⟨l.size,2,none⟩ m λm=>M0 m l.size λn o p=>cf 61 #[.agg #[n,o,p]] m λm n=>asBool m λm=>D4 (!m) (K (dQ false) n) (asInt .i64 k λm=>(I64 [j,iQ (wrap .i64 (m+1))] n)/\((m65 [j,iQ (wrap .i64 (m+1))] n) < (m65 [j,k] l))))) (asInt .i64 e λm=>(I49 [j,lQ a b i,iQ (wrap .i64 (m+1)),k] l)/\((m50 [j,lQ a b i,iQ (wrap .i64 (m+1)),k] l) < (m50 [c,d,e,f] g))))))) (lS g ⟨h.size,8,none⟩ λa b d=>R3 λI91=>GI λm92=>(I91 [c,tQ,iQ 0] g)/\(∀(c d e:vQ) (f:G4) (f:A2),(I91 [c,d,e] f)->(asInt .i64 e λg=>D4 (decide (g < (b:Int))) (Il e λg=>bd g (b:Int) (F3 (pQ a) λa=>lI .i64 f (a.add (g.toNat*1)) λa=>R3 λI103=>(D4 (decide (a < 0)) (I103 [dQ true] f) (lI .i64 f ((aQ h.size).add 1) λb=>I103 [dQ (decide (a >= b))] f))/\(∀(b:vQ) (g:G4) (g:A2),(I103 [b] g)->(asBool b λb=>D4 b (K (dQ false) g) (asInt .i64 e λb=>(I91 [c,iQ a,iQ (wrap .i64 (b+1))] g)/\((m92 [c,iQ a,iQ (wrap .i64 (b+1))] g) < (m92 [c,d,e] f))))))) (K (dQ true) f))))))))))
def F29 (K:kQ) (h:A2) (xa xb xc xd xe xf xg:Int) (xh:rQ) (xi xj:Nat) (xk:rQ) (xl xm:Nat) (xn:rQ) (xo xp:Nat):Prop:=
 (g29 K h (h.push (oQ #[iQ xa,iQ xb,iQ xc,iQ xd,iQ xe,iQ xf,iQ xg,lQ xh xi xj,lQ xk xl xm,lQ xn xo xp] 28)))
theorem call29 {xa xb xc xd xe xf xg:Int} {xh:rQ} {xi xj:Nat} {xk:rQ} {xl xm:Nat} {xn:rQ} {xo xp:Nat} (H:F29 K h xa xb xc xd xe xf xg xh xi xj xk xl xm xn xo xp):A4 prog 29 #[(.agg #[(iQ xa),(iQ xb),(iQ xc),(iQ xd),(iQ xe),(iQ xf),(iQ xg),(lQ xh xi xj),(lQ xk xl xm),(lQ xn xo xp)])] h K:=
 cQ Tryz.func29 H
def F39 (K:kQ) (h:A2) (xa:rQ) (xb:Int):Prop:=
 (R3 λI0=>(nP xa λa=>lP h a λa=>cf 66 #[pQ a,iQ xb] h λa b=>asBool a λa=>D4 (!a) (nP xa λa=>lS b (a.add 11) λa c d=>bd xb (c:Int) (F3 (pQ a) λa=>lI .i64 b (a.add (xb.toNat*1)) λa=>nP xa λc=>lS b (c.add 8) λc d e=>bd xb (d:Int) (F3 (pQ c) λc=>lS b (c.add (xb.toNat*1)) λc c d=>D4 (decide (a >= (c:Int))) (K tQ b) (nP xa λa=>lP b a λa=>nP xa λc=>lS b (c.add 8) λc d e=>bd xb (d:Int) (F3 (pQ c) λc=>lS b (c.add (xb.toNat*1)) λc d e=>nP xa λe=>lS b (e.add 11) λe f g=>bd xb (f:Int) (F3 (pQ e) λe=>lI .i64 b (e.add (xb.toNat*1)) λe=>bd e (d:Int) (F3 (pQ c) λc=>D2 b (c.add (e.toNat*3)) λd=>D2 b (Addr.add (c.add (e.toNat*3)) 1) λf=>D2 b (Addr.add (c.add (e.toNat*3)) 2) λc=>cf 77 #[pQ a,iQ xb,.agg #[d,f,c]] b λa c=>asInt .i64 a λa=>nP xa λa=>lS c (a.add 11) λa d e=>bd xb (d:Int) (F3 (pQ a) λe=>lI .i64 c (e.add (xb.toNat*1)) λe=>bd xb (d:Int) (F3 (pQ a) λa=>C7 c (a.add (xb.toNat*1)) (iQ (wrap .i64 (e+1))) λa=>I0 [] a))))))))) (I0 [] b))/\(∀(a:G4) (a:A2),(I0 [] a)->(nP xa λb=>lP a b λb=>cf 68 #[pQ b,iQ xb] a λa a=>K tQ a)))
theorem call39 {xa:rQ} {xb:Int} (H:F39 K h xa xb):A4 prog 39 #[(pQ xa),(iQ xb)] h K:=
 cQ Tryz.func39 H
def F40 (K:kQ) (h:A2) (xa:rQ) (xb xc:Int):Prop:=
 (nP xa λa=>lP h a λa=>cf 31 #[pQ a] h λa b=>C9 a λa=>cf 32 #[pQ a] b λb c=>C9 b λb=>cf 78 #[pQ b] c λb c=>D3 b λb d e=>W3 (λf g=>JB f g) prog 3 [iQ xc,iQ (d:Int)] λf=>((0:Int)<=f)/\(((f:Int)<=(d:Int))/\(R3 λI17=>GI λm18=>(I17 [iQ 0,tQ,tQ] c)/\(∀(c g i:vQ) (j:G4) (j:A2),(I17 [c,g,i] j)->(asInt .i64 c λk=>D4 (decide (k < (((d - f.toNat):Nat):Int))) (Il c λk=>((0:Int)<=k)/\(((k:Int) < (((d - f.toNat):Nat):Int))/\(F3 (pQ (Ha b f.toNat e 4)) λb=>D2 j (b.add (k.toNat*4)) λd=>D2 j (Addr.add (b.add (k.toNat*4)) 1) λe=>D2 j (Addr.add (b.add (k.toNat*4)) 2) λf=>D2 j (Addr.add (b.add (k.toNat*4)) 3) λb=>C7 (j.push (oQ #[iQ 0,iQ 0,iQ 0,dQ false] 144)) (aQ j.size) d λd=>C7 d ⟨j.size,1,none⟩ e λd=>C7 d ⟨j.size,2,none⟩ f λd=>C7 d ⟨j.size,3,none⟩ b λb=>lI .i64 b (aQ j.size) λd=>D2 b ⟨j.size,3,none⟩ λe=>asBool e λe=>C7 (b.push (oQ #[iQ 0,iQ 0,dQ false,iQ 0,iQ 0,iQ 0,iQ 0,iQ 0,iQ 0] 51)) (aQ b.size) (iQ xb) λf=>C7 f ⟨b.size,1,none⟩ (iQ d) λd=>C7 d ⟨b.size,2,none⟩ (dQ e) λd=>C7 d ⟨b.size,3,none⟩ (iQ 0) λd=>C7 d ⟨b.size,4,none⟩ (iQ 0) λd=>C7 d ⟨b.size,5,none⟩ (iQ 0) λd=>C7 d ⟨b.size,6,none⟩ (iQ 0) λd=>C7 d ⟨b.size,7,none⟩ (iQ 0) λd=>C7 d ⟨b.size,8,none⟩ (iQ 0) λd=>D2 d ⟨j.size,1,none⟩ λe=>asInt .i64 e λf=>cf 79 #[pQ a] d λd k=>asAgg d λd=>G3 d 15 (O8 d λd l m n o p q r s t u v w x y=>ce k j.size 1 e (cf 80 #[.agg #[d,l,m,n,o,p,q,r,s,t,u,v,w,x,y],iQ f] k λd e=>J3 d λf=>D9 f 0 λf=>asInt .i64 f λf=>J3 d λk=>D9 k 1 λk=>asInt .i64 k λk=>J3 d λl=>D9 l 2 λl=>asInt .i64 l λl=>C7 e ⟨b.size,3,none⟩ (iQ f) λe=>C7 e ⟨b.size,4,none⟩ (iQ k) λe=>C7 e ⟨b.size,5,none⟩ (iQ l) λe=>D2 e ⟨j.size,2,none⟩ λf=>asInt .i64 f λk=>cf 79 #[pQ a] e λa e=>asAgg a λa=>G3 a 15 (O8 a λa l m n o p q r s t u v w x y=>ce e j.size 2 f (cf 80 #[.agg #[a,l,m,n,o,p,q,r,s,t,u,v,w,x,y],iQ k] e λa e=>J3 a λf=>D9 f 0 λf=>asInt .i64 f λf=>J3 a λk=>D9 k 1 λk=>asInt .i64 k λk=>J3 a λl=>D9 l 2 λl=>asInt .i64 l λl=>C7 e ⟨b.size,6,none⟩ (iQ f) λe=>C7 e ⟨b.size,7,none⟩ (iQ k) λe=>C7 e ⟨b.size,8,none⟩ (iQ l) λe=>nP xa λf=>D2 e (f.add 12) λk=>D3 k λl m n=>dl9 e b.size λb o p q r s t u v=>((A3 (e.push (oQ #[b,o,p,q,r,s,t,u,v] 51)) (f.add 12))=(some k))/\(U4 prog #[47,47] 47 #[lQ l m n,lQ (some (aQ e.size)) 1 1] (e.push (oQ #[b,o,p,q,r,s,t,u,v] 51)) λb e=>D3 b λb f k=>nP xa λl=>C7 e (l.add 12) (lQ b f k) λb=>asInt .i64 c λe=>(I17 [iQ (wrap .i64 (e+1)),d,a] b)/\((m18 [iQ (wrap .i64 (e+1)),d,a] b) < (m18 [c,g,i] j)))))))))) (K tQ j))))))
theorem call40 {xa:rQ} {xb xc:Int} (H:F40 K h xa xb xc):A4 prog 40 #[(pQ xa),(iQ xb),(iQ xc)] h K:=
 cQ Tryz.func40 H
def F90 (K:kQ) (h:A2) (xa:rQ) (xb xc:Nat) (xd:vQ):Prop:=
 (cf 135 #[lQ xa xb xc,xd] h λa b=>asInt .i64 a λa=>D4 (a == (-1)) (K (lQ xa xb xc) b) (R3 λI3=>GI λm4=>(I3 [iQ a,iQ (wrap .i64 (a+1))] b)/\(∀(a b:vQ) (c:G4) (c:A2),(I3 [a,b] c)->(asInt .i64 b λd=>D4 (decide (d < ((xb:Nat):Int))) (R3 λI10=>(asInt .i64 b λd=>bd d ((xb:Nat):Int) (F3 (pQ xa) λe=>D2 c (e.add (d.toNat*9)) λf=>D2 c (Addr.add (e.add (d.toNat*9)) 1) λg=>D2 c (Addr.add (e.add (d.toNat*9)) 2) λi=>D2 c (Addr.add (e.add (d.toNat*9)) 3) λj=>D2 c (Addr.add (e.add (d.toNat*9)) 4) λk=>D2 c (Addr.add (e.add (d.toNat*9)) 5) λl=>D2 c (Addr.add (e.add (d.toNat*9)) 6) λm=>D2 c (Addr.add (e.add (d.toNat*9)) 7) λn=>D2 c (Addr.add (e.add (d.toNat*9)) 8) λd=>C7 (c.push (oQ #[iQ 0,iQ 0,dQ false,iQ 0,iQ 0,iQ 0,iQ 0,iQ 0,iQ 0] 51)) (aQ c.size) f λe=>C7 e ⟨c.size,1,none⟩ g λe=>C7 e ⟨c.size,2,none⟩ i λe=>C7 e ⟨c.size,3,none⟩ j λe=>C7 e ⟨c.size,4,none⟩ k λe=>C7 e ⟨c.size,5,none⟩ l λe=>C7 e ⟨c.size,6,none⟩ m λe=>C7 e ⟨c.size,7,none⟩ n λe=>C7 e ⟨c.size,8,none⟩ d λd=>dl9 d c.size λe f g i j k l m n=>Aj prog xd #[.agg #[e,f,g,i,j,k,l,m,n]] d λd e=>asBool d λd=>D4 (!d) (asInt .i64 a λd=>dl9 e c.size λf g i j k l m n o=>bd d ((xb:Nat):Int) (F3 (pQ xa) λp=>C7 e (p.add (d.toNat*9)) f λf=>C7 f (Addr.add (p.add (d.toNat*9)) 1) g λf=>C7 f (Addr.add (p.add (d.toNat*9)) 2) i λf=>C7 f (Addr.add (p.add (d.toNat*9)) 3) j λf=>C7 f (Addr.add (p.add (d.toNat*9)) 4) k λf=>C7 f (Addr.add (p.add (d.toNat*9)) 5) l λf=>C7 f (Addr.add (p.add (d.toNat*9)) 6) m λf=>C7 f (Addr.add (p.add (d.toNat*9)) 7) n λf=>C7 f (Addr.add (p.add (d.toNat*9)) 8) o λd=>asInt .i64 a λf=>I10 [iQ (wrap .i64 (f+1))] d)) (I10 [a] e)))/\(∀(d:vQ) (e:G4) (e:A2),(I10 [d] e)->(asInt .i64 b λf=>(I3 [d,iQ (wrap .i64 (f+1))] e)/\((m4 [d,iQ (wrap .i64 (f+1))] e) < (m4 [a,b] c))))) (asInt .i64 a λb=>((0:Int)<=b)/\(((b:Int)<=((xb:Nat):Int))/\(S01 prog #[47] 0 #[lQ (Ha xa b.toNat xc 9) (xb - b.toNat) (xc - b.toNat)] c λb b=>asInt .i64 a λa=>((0:Int)<=a)/\(((a:Int)<=((xc:Nat):Int))/\(K (lQ (Ha xa 0 xc 9) (a.toNat - 0) (xc - 0)) b)))))))))
theorem call90 {xa:rQ} {xb xc:Nat} {xd:vQ} (H:F90 K h xa xb xc xd):A4 prog 90 #[(lQ xa xb xc),xd] h K:=
 cQ Tryz.func90 H
def F91 (K:kQ) (h:A2) (xa:rQ) (xb xc:Nat):Prop:=
 (D4 (Option.isNone xa) (K (lQ none 0 0) h) (U4 prog #[47,47] 47 #[lQ (some (aQ h.size)) 0 0,lQ xa xb xc] (h.push (oQ #[] 51)) λa b=>D3 a λa c d=>K (lQ a c d) b))
theorem call91 {xa:rQ} {xb xc:Nat} (H:F91 K h xa xb xc):A4 prog 91 #[(lQ xa xb xc)] h K:=
 cQ Tryz.func91 H
abbrev g92 (K:kQ) (h H1:A2) (c0:vQ):Prop:=
 (F3 c0 λa=>D2 H1 a λa=>dl9 H1 h.size λb c d e f g i j k=>Aj prog a #[.agg #[b,c,d,e,f,g,i,j,k]] H1 λa b=>asBool a λa=>K (dQ (!a)) b)
def F92 (K:kQ) (h:A2) (xa xb:Int) (xc:Bool) (xd xe xf xg xh xi:Int) (c0:vQ):Prop:=
 (g92 K h (h.push (oQ #[iQ xa,iQ xb,dQ xc,iQ xd,iQ xe,iQ xf,iQ xg,iQ xh,iQ xi] 51)) c0)
theorem call92 {xa xb:Int} {xc:Bool} {xd xe xf xg xh xi:Int} {c0:vQ} (H:F92 K h xa xb xc xd xe xf xg xh xi c0):A4 prog 92 #[(.agg #[(iQ xa),(iQ xb),(dQ xc),(iQ xd),(iQ xe),(iQ xf),(iQ xg),(iQ xh),(iQ xi)]),c0] h K:=
 cQ Tryz.func92 H
abbrev g60 (K:kQ) (h H1:A2):Prop:=
 (lS H1 ⟨h.size,7,none⟩ λa b c=>R3 λI4=>GI λm5=>(I4 [iQ 0,tQ,iQ 0] H1)/\(∀(c d e:vQ) (f:G4) (f:A2),(I4 [c,d,e] f)->(asInt .i64 e λg=>D4 (decide (g < (b:Int))) (Il e λg=>bd g (b:Int) (F3 (pQ a) λa=>lS f (a.add (g.toNat*1)) λa b g=>asInt .i64 c λi=>asInt .i64 e λj=>(I4 [iQ (wrap .i64 (i+(b:Int))),lQ a b g,iQ (wrap .i64 (j+1))] f)/\((m5 [iQ (wrap .i64 (i+(b:Int))),lQ a b g,iQ (wrap .i64 (j+1))] f) < (m5 [c,d,e] f)))) (asInt .i64 c λa=>K (iQ a) f))))
def F60 (K:kQ) (h:A2) (xa xb xc xd xe xf xg:Int) (xh:rQ) (xi xj:Nat) (xk:rQ) (xl xm:Nat) (xn:rQ) (xo xp:Nat):Prop:=
 (g60 K h (h.push (oQ #[iQ xa,iQ xb,iQ xc,iQ xd,iQ xe,iQ xf,iQ xg,lQ xh xi xj,lQ xk xl xm,lQ xn xo xp] 28)))
theorem call60 {xa xb xc xd xe xf xg:Int} {xh:rQ} {xi xj:Nat} {xk:rQ} {xl xm:Nat} {xn:rQ} {xo xp:Nat} (H:F60 K h xa xb xc xd xe xf xg xh xi xj xk xl xm xn xo xp):A4 prog 60 #[(.agg #[(iQ xa),(iQ xb),(iQ xc),(iQ xd),(iQ xe),(iQ xf),(iQ xg),(lQ xh xi xj),(lQ xk xl xm),(lQ xn xo xp)])] h K:=
 cQ Tryz.func60 H
def F135 (K:kQ) (h:A2) (xa:rQ) (xb xc:Nat) (xd:vQ):Prop:=
 (R3 λI0=>GI λm1=>(I0 [iQ 0,tQ,iQ 0] h)/\(∀(a b c:vQ) (d:G4) (d:A2),(I0 [a,b,c] d)->(asInt .i64 c λe=>D4 (decide (e < ((xb:Nat):Int))) (asInt .i64 c λe=>bd e ((xb:Nat):Int) (F3 (pQ xa) λf=>D2 d (f.add (e.toNat*9)) λg=>D2 d (Addr.add (f.add (e.toNat*9)) 1) λi=>D2 d (Addr.add (f.add (e.toNat*9)) 2) λj=>D2 d (Addr.add (f.add (e.toNat*9)) 3) λk=>D2 d (Addr.add (f.add (e.toNat*9)) 4) λl=>D2 d (Addr.add (f.add (e.toNat*9)) 5) λm=>D2 d (Addr.add (f.add (e.toNat*9)) 6) λn=>D2 d (Addr.add (f.add (e.toNat*9)) 7) λo=>D2 d (Addr.add (f.add (e.toNat*9)) 8) λf=>Aj prog xd #[.agg #[g,i,j,k,l,m,n,o,f]] d λf g=>asBool f λf=>D4 f (K (iQ e) g) (asInt .i64 c λf=>(I0 [a,iQ e,iQ (wrap .i64 (f+1))] g)/\((m1 [a,iQ e,iQ (wrap .i64 (f+1))] g) < (m1 [a,b,c] d))))) (K (iQ (-1)) d))))
theorem call135 {xa:rQ} {xb xc:Nat} {xd:vQ} (H:F135 K h xa xb xc xd):A4 prog 135 #[(lQ xa xb xc),xd] h K:=
 cQ Tryz.func135 H
def F131 (K:kQ) (h:A2) (xa:rQ) (xb xc:Nat):Prop:=
 (D4 (Option.isNone xa) (K (lQ none 0 0) h) (U4 prog #[124,124] 124 #[lQ (some (aQ h.size)) 0 0,lQ xa xb xc] (h.push (oQ #[] 144)) λa b=>D3 a λa c d=>K (lQ a c d) b))
theorem call131 {xa:rQ} {xb xc:Nat} (H:F131 K h xa xb xc):A4 prog 131 #[(lQ xa xb xc)] h K:=
 cQ Tryz.func131 H
end
section
theorem Sb1 {K:kQ} {h:A2} (c:Cf) (k1:c.Right->∀h',G9 h.size h h'->K (iQ 0) h') (k0:¬ c.Right->∀h',G9 h.size h h'->K (iQ 6) h') :
  A4 prog 59 #[.agg c.vals] h K:=by
 refine call59 ?_
 unfold F59 g59 cf O8 IE
 have p1:=G8 h c.vals 23
 rw [show h.push (oQ #[iQ c.a,iQ c.t,iQ c.n,iQ c.l,iQ c.b,iQ c.p,iQ c.s] 23)=h.push (oQ c.vals 23) from rfl]
 generalize h.push (oQ c.vals 23)=h1 at *
 have o1:=p1.toOld
 iterate 7 (refine C4 p1.new rfl ?_)
 have key:∀(cs:Array vQ) (e:Int),(∃v0 v1 v2 v3 v4 v5 v6 v7 v8 v9 v10 v11 v12 v13 v14,cs=#[v0,v1,v2,v3,v4,v5,v6,v7,v8,v9,v10,v11,v12,v13,v14]/\∀y ∈ [v0,v1,v2,v3,v4,v5,v6,v7,v8,v9,v10,v11,v12,v13,v14],J0 y True)->∀h8,G9 h.size h h8 ->
   (∀h',G9 h.size h h'->K (iQ e) h') ->
   (J3 (.tuple #[.agg cs,iQ e]) (λvs9=>(D9 vs9 0 (λv10=>(asAgg v10 (λvs11=>(G3 vs11 15 (D9 vs11 0 (λv12=>(D9 vs11 1 (λv13=>(D9 vs11 2 (λv14=>(D9 vs11 3 (λv15=>(D9 vs11 4 (λv16=>(D9 vs11 5 (λv17=>(D9 vs11 6 (λv18=>(D9 vs11 7 (λv19=>(D9 vs11 8 (λv20=>(D9 vs11 9 (λv21=>(D9 vs11 10 (λv22=>(D9 vs11 11 (λv23=>(D9 vs11 12 (λv24=>(D9 vs11 13 (λv25=>(D9 vs11 14 (λv26=>(J3 (.tuple #[.agg cs,iQ e]) (λvs27=>(D9 vs27 1 (λv28=>(asInt .i64 v28 (λn29=>(C7 (h8.push (oQ X2 117)) (aQ h8.size) v12 (λh30=>(C7 h30 ⟨h8.size,1,none⟩ v13 (λh31=>(C7 h31 ⟨h8.size,2,none⟩ v14 (λh32=>(C7 h32 ⟨h8.size,3,none⟩ v15 (λh33=>(C7 h33 ⟨h8.size,4,none⟩ v16 (λh34=>(C7 h34 ⟨h8.size,5,none⟩ v17 (λh35=>(C7 h35 ⟨h8.size,6,none⟩ v18 (λh36=>(C7 h36 ⟨h8.size,7,none⟩ v19 (λh37=>(C7 h37 ⟨h8.size,8,none⟩ v20 (λh38=>(C7 h38 ⟨h8.size,9,none⟩ v21 (λh39=>(C7 h39 ⟨h8.size,10,none⟩ v22 (λh40=>(C7 h40 ⟨h8.size,11,none⟩ v23 (λh41=>(C7 h41 ⟨h8.size,12,none⟩ v24 (λh42=>(C7 h42 ⟨h8.size,13,none⟩ v25 (λh43=>(C7 h43 ⟨h8.size,14,none⟩ v26 (λh44=>(K (iQ n29) h44)))))))))))))))))))))))))))))))))))))))))))))))))))))))))))))))))))))))))):=by
  rintro cs e ⟨v0,v1,v2,v3,v4,v5,v6,v7,v8,v9,v10,v11,v12,v13,v14,rfl,hone⟩ h8 o8 k
  simp only [M4,Tc4,Tc5,X8]
  refine U9 rfl ?_
  iterate 15 (refine D5 rfl ?_)
  simp only [A5]
  have p:=G8 h8 X2 117
  generalize h8.push (oQ X2 117)=h9 at *
  refine OV (F5 p.new rfl hone λh44 w=>?_)
  exact k _ (w.toOld (o8.trans (p.toOld.mono o8.1)) o8.1)
 refine A0 (Uq c (λhr h8 o8=>?_) (λhr h8 o8=>?_))
 ·exact key _ _ ⟨_,_,_,_,_,_,_,_,_,_,_,_,_,_,_,rfl,by simp [J0]⟩ h8 (o1.trans (o8.mono o1.1)) (k1 hr)
 ·exact key _ _ ⟨_,_,_,_,_,_,_,_,_,_,_,_,_,_,_,rfl,by simp [J0]⟩ h8 (o1.trans (o8.mono o1.1)) (k0 hr)
end
section
theorem Sb2 {K:kQ} {h:A2} (c:Cf) (k1:c.Right->∀h',G9 h.size h h'->K (dQ true) h') (k0:¬ c.Right->∀h',G9 h.size h h'->K (dQ false) h') :
  A4 prog 9 #[.agg c.vals] h K:=by
 refine call9 ?_
 unfold F9 g9 cf ce lI IE
 have p1:=G8 h c.vals 23
 rw [show h.push (oQ #[iQ c.a,iQ c.t,iQ c.n,iQ c.l,iQ c.b,iQ c.p,iQ c.s] 23)=h.push (oQ c.vals 23) from rfl]
 generalize h.push (oQ c.vals 23)=h1 at *
 have o1:=p1.toOld
 have c1:=p1.new
 refine ⟨λvs h'=>∃v1 v2 v3 v4 v5 v6 b,vs = [v1,v2,v3,v4,v5,v6,dQ b]/\h' = h1/\(b=true->¬ c.Right)/\(b=false->0<=c.a/\c.a<=2/\1<=c.t/\c.t<=6/\1<=c.n/\c.n<=64/\1<=c.l/\c.l<=6),?_,?_⟩
 ·refine C4 c1 rfl ?_
  simp only [A5]
  refine A6 (λq=>⟨_,_,_,_,_,_,_,rfl,by trivial,λ_ r=>by have:=r.a;omega,λe=>by cases e⟩) λq1=>?_
  refine C4 c1 rfl ?_
  simp only [A5]
  refine A6 (λq=>⟨_,_,_,_,_,_,_,rfl,by trivial,λ_ r=>by have:=r.a;omega,λe=>by cases e⟩) λq2=>?_
  refine C4 c1 rfl ?_
  simp only [A5]
  refine A6 (λq=>⟨_,_,_,_,_,_,_,rfl,by trivial,λ_ r=>by have:=r.t;omega,λe=>by cases e⟩) λq3=>?_
  refine C4 c1 rfl ?_
  simp only [A5]
  refine A6 (λq=>⟨_,_,_,_,_,_,_,rfl,by trivial,λ_ r=>by have:=r.t;omega,λe=>by cases e⟩) λq4=>?_
  refine C4 c1 rfl ?_
  simp only [A5]
  refine A6 (λq=>⟨_,_,_,_,_,_,_,rfl,by trivial,λ_ r=>by have:=r.n;omega,λe=>by cases e⟩) λq5=>?_
  refine C4 c1 rfl ?_
  simp only [A5]
  refine A6 (λq=>⟨_,_,_,_,_,_,_,rfl,by trivial,λ_ r=>by have:=r.n;omega,λe=>by cases e⟩) λq6=>?_
  refine C4 c1 rfl ?_
  simp only [A5]
  refine A6 (λq=>⟨_,_,_,_,_,_,_,rfl,by trivial,λ_ r=>by have:=r.l;omega,λe=>by cases e⟩) λq7=>?_
  refine C4 c1 rfl ?_
  simp only [A5]
  refine ⟨_,_,_,_,_,_,_,rfl,by trivial,λe r=>?_,λe=>?_⟩
  ·have:=SE4 e;have:=r.l;omega
  ·have:=of_decide_eq_false e;omega
 rintro v17 v18 v19 v20 v21 v22 v23 g24 h25 ⟨_,_,_,_,_,_,b,e,rfl,hb1,hb0⟩
 cases e
 simp only [C0]
 refine D1 (λhb=>k0 (hb1 hb) _ o1) (λhb=>?_)
 obtain ⟨a1,a2,t1,t2,n1,n2,l1,l2⟩:=hb0 hb
 refine ⟨λvs h'=>∃v1 v2 v3 v4 b,vs = [v1,v2,v3,v4,dQ b]/\h' = h25/\(b=true->¬ c.Right)/\(b=false->1<=c.b/\c.b<=16/\1<=c.p/\c.p<=16/\1<=c.s/\c.s<=64),?_,?_⟩
 ·refine C4 c1 rfl ?_
  simp only [A5]
  refine A6 (λq=>⟨_,_,_,_,_,rfl,by trivial,λ_ r=>by have:=r.b;omega,λe=>by cases e⟩) λq1=>?_
  refine C4 c1 rfl ?_
  simp only [A5]
  refine A6 (λq=>⟨_,_,_,_,_,rfl,by trivial,λ_ r=>by have:=r.b;omega,λe=>by cases e⟩) λq2=>?_
  refine C4 c1 rfl ?_
  simp only [A5]
  refine A6 (λq=>⟨_,_,_,_,_,rfl,by trivial,λ_ r=>by have:=r.p;omega,λe=>by cases e⟩) λq3=>?_
  refine C4 c1 rfl ?_
  simp only [A5]
  refine A6 (λq=>⟨_,_,_,_,_,rfl,by trivial,λ_ r=>by have:=r.p;omega,λe=>by cases e⟩) λq4=>?_
  refine C4 c1 rfl ?_
  simp only [A5]
  refine A6 (λq=>⟨_,_,_,_,_,rfl,by trivial,λ_ r=>by have:=r.s;omega,λe=>by cases e⟩) λq5=>?_
  refine C4 c1 rfl ?_
  simp only [A5]
  refine ⟨_,_,_,_,_,rfl,by trivial,λe r=>?_,λe=>?_⟩
  ·have:=SE4 e;have:=r.s;omega
  ·have:=of_decide_eq_false e;omega
 rintro v40 v41 v42 v43 v44 g45 h46 ⟨_,_,_,_,b',e,rfl,hb1',hb0'⟩
 cases e
 simp only [C0]
 refine D1 (λhb'=>k0 (hb1' hb') _ o1) (λhb'=>?_)
 obtain ⟨b1,b2,p1',p2,s1,s2⟩:=hb0' hb'
 refine C4 c1 rfl ?_
 simp only [A5]
 iterate 7 (refine C4 c1 rfl ?_)
 refine A0 ?_
 refine (show A4 prog 28 #[.agg c.vals] h46 _ from call28 ?_)
 unfold F28 g28 lI
 have p2':=G8 h46 c.vals 23
 rw [show h46.push (oQ #[iQ c.a,iQ c.t,iQ c.n,iQ c.l,iQ c.b,iQ c.p,iQ c.s] 23)=h46.push (oQ c.vals 23) from rfl]
 generalize h46.push (oQ c.vals 23)=h2 at *
 have o2:=o1.trans (p2'.toOld.mono o1.1)
 have c2:=(p2'.old h.size (by have:=p1.size;omega)).trans c1
 have fin:∀z:Int,z=c.sent->(z < c.n↔c.Right):=λz e=>⟨λhz=>⟨⟨a1,a2⟩,⟨t1,t2⟩,⟨n1,n2⟩,⟨l1,l2⟩,⟨b1,b2⟩,⟨p1',p2⟩,⟨s1,s2⟩,by omega⟩,λr=>by have:=r.z;omega⟩
 have fin2:∀z:Int,z=c.sent->K (dQ (decide (c.n > z))) h2:=λz e=>by
  by_cases hz:z < c.n
  ·rw [V6 hz];exact k1 ((fin z e).1 hz) _ o2
  ·rw [S4 hz];exact k0 (λr=>hz ((fin z e).2 r)) _ o2
 refine C4 p2'.new rfl ?_
 simp only [A5]
 apply D1<;>intro hz
 ·exact ⟨F6 c2 rfl,fin2 _ (by unfold Cf.sent;rw [A8 (by simpa using hz)])⟩
 ·exact ⟨F6 c2 rfl,fin2 _ (by unfold Cf.sent;rw [A7 (by simpa using hz)])⟩
end
section
open Mod
def IH (c:Mod.Cf) (calls:List (List Cl)) (C2 draws:List Int):Bool:=
 GK c && (((calls.length:Int) == c.threads) && (decide (calls.flatten.length<=48) && (decide (C2.length<=60000) && (decide (draws.length<=4096) && (calls.all (λl=>l.all DC) && C2.all λk=>decide (0<=k) && decide (k < c.threads))))))
theorem Ah (n:Nat) (h:n < 2 ^ 62):G2 (n:Int)=n:=by unfold G2;omega
theorem SG {α:Type} {L:List (List α)} {j:Nat} (hj:j < L.length):(L.take (j+1)).flatten.length=(L.take j).flatten.length+(L[j]).length:=by
 rw [Ab hj,SZ7,DK,List.flatten_singleton]
theorem SU8 {α:Type} {L:List (List α)} (j:Nat):(L.take j).flatten.length<=L.flatten.length:=by
 conv=>rhs;rw [<- List.take_append_drop j L,SZ7,DK]
 omega
theorem Ki {K:kQ} {h:A2} {c:Mod.Cf} (k1:GK c=true->∀h',G9 h.size h h'->K (iQ 0) h') (k0:GK c=false->∀h',G9 h.size h h'->K (iQ 6) h') :
  A4 prog 59 #[.agg #[iQ c.algo,iQ c.threads,iQ c.nodes,iQ c.level,iQ c.batch,iQ c.probes,iQ c.scan]] h K:=by
 refine Sb1 (Sq2 c) (λhr h' o=>k1 ((CU c).1 hr) h' o) (λhr h' o=>k0 ?_ h' o)
 rw [<- SD4]
 exact λhh=>hr ((CU c).2 hh)
section
variable {K:kQ} {h:A2} {R:Hp} {c:Mod.Cf} {ca pa da:rQ} {cl cc pl pc dl dc:Nat} {calls:List (List Cl)} {C2 draws:List Int}
theorem SH (H:A9 h R) (hS:∀h' P,A9 h' (P*R)->FV h' ca cl pa pl da dl calls C2 draws) (hn:calls.flatten.length < 2 ^ 60) (hn2:calls.length < 2 ^ 60) (k:∀h',A9 h' R->K (iQ calls.flatten.length) h') :
  A4 prog 60 #[.agg #[iQ c.algo,iQ c.threads,iQ c.nodes,iQ c.level,iQ c.batch,iQ c.probes,iQ c.scan,lQ ca cl cc,lQ pa pl pc,lQ da dl dc]] h K:=by
 refine call60 ?_
 unfold F60 g60 bd lS
 have H1:=H.push (oQ (N1 c ca cl cc pa pl pc da dl dc).toArray 28)
 rw [show h.push (oQ #[iQ c.algo,iQ c.threads,iQ c.nodes,iQ c.level,iQ c.batch,iQ c.probes,iQ c.scan,lQ ca cl cc,lQ pa pl pc,lQ da dl dc] 28)=h.push (oQ (N1 c ca cl cc pa pl pc da dl dc).toArray 28) from rfl]
 generalize h.push (oQ (N1 c ca cl cc pa pl pc da dl dc).toArray 28)=h1 at *
 generalize h.size=SB at *
 have I:=hS h1 _ H1
 have ecl:=I.f.cs
 subst ecl
 refine C4 H1.at rfl ?_
 refine sb ?_
 refine ⟨λvs h'=>(∃(u:vQ) (j:Nat),vs = [.int .i64 (calls.take j).flatten.length,u,.int .i64 j]/\j<=calls.length)/\h' = h1,λvs _=>match vs with | [_,_,.int _ i]=>((calls.length:Int) - i).toNat | _=>0,⟨⟨_,0,rfl,T4 _⟩,rfl⟩,?_⟩
 rintro v6 v7 v8 g9 h10 ⟨⟨u,j,e,hj⟩,rfl⟩
 cases e
 refine sb ?_
 apply A6<;>intro c1
 ·have hj2:j < calls.length:=by omega
  obtain ⟨ra,rc,⟨ad,ea,hc⟩,_⟩:=I.f.row j hj2
  have eg:calls.getD j []=calls[j]:=by rw [An,X7 hj2];rfl
  rw [eg] at hc
  subst ea
  refine ⟨by omega,by omega,?_⟩
  refine sb ?_
  refine C6 hc ?_
  refine sb ?_
  have e3:=SG hj2
  have e4:=SU8 (L:=calls) (j+1)
  rw [show G2 (((calls.take j).flatten.length:Int)+((calls[j]).length:Int))=((calls.take (j+1)).flatten.length:Int) from by rw [e3,<- Int.natCast_add];exact Ah _ (by omega),show G2 ((j:Int)+1)=((j+1:Nat):Int) from by rw [<- Mg];exact Ah _ (by omega)]
  refine ⟨by first | exact ⟨⟨_,j+1,rfl,by omega⟩,rfl⟩ | exact ⟨_,j+1,rfl,by omega⟩,?_⟩
  show ((calls.length:Int) - ((j+1:Nat):Int)).toNat < ((calls.length:Int) - (j:Int)).toNat
  omega
 ·rw [show j=calls.length by omega,EH]
  exact k h10 H1.drop
theorem Kj (H:A9 h R) (hS:∀h' P,A9 h' (P*R)->FV h' ca cl pa pl da dl calls C2 draws) (hn:calls.flatten.length < 2 ^ 60) (hn2:calls.length < 2 ^ 60) (hn3:C2.length < 2 ^ 60)
  (hV:∀l ∈ calls,l.length < 2 ^ 60) (k:∀h',A9 h' R->K (dQ (IH c calls C2 draws)) h') :
  A4 prog 29 #[.agg #[iQ c.algo,iQ c.threads,iQ c.nodes,iQ c.level,iQ c.batch,iQ c.probes,iQ c.scan,lQ ca cl cc,lQ pa pl pc,lQ da dl dc]] h K:=by
 refine call29 ?_
 unfold F29 g29 cf bd lS lI da7 M0 Du
 have H1:=H.push (oQ (N1 c ca cl cc pa pl pc da dl dc).toArray 28)
 rw [show h.push (oQ #[iQ c.algo,iQ c.threads,iQ c.nodes,iQ c.level,iQ c.batch,iQ c.probes,iQ c.scan,lQ ca cl cc,lQ pa pl pc,lQ da dl dc] 28)=h.push (oQ (N1 c ca cl cc pa pl pc da dl dc).toArray 28) from rfl]
 generalize h.push (oQ (N1 c ca cl cc pa pl pc da dl dc).toArray 28)=h1 at *
 generalize h.size=SB at *
 have I:=hS h1 _ H1
 have ecl:=I.f.cs
 have epl:=I.f.ps
 have edl:=I.ds
 subst ecl epl edl
 have hS1:∀h' P,A9 h' (P*(pt SB (oQ (N1 c ca calls.length cc pa C2.length pc da draws.length dc).toArray 28)*R))->FV h' ca calls.length pa C2.length da draws.length calls C2 draws:=λh' P HP=>hS h' Mt (by rw [T8];exact HP.drop.drop)
 obtain ⟨b0,hb0⟩ : ∃b0:Bool,b0=(GK c && (((calls.length:Int) == c.threads) && (decide (calls.flatten.length<=48) && (decide (C2.length<=60000) && decide (draws.length<=4096))))):=⟨_,rfl⟩
 have hsc:IH c calls C2 draws=(b0 && (calls.all (λl=>l.all DC) && C2.all λk=>decide (0<=k) && decide (k < c.threads))):=by
  rw [hb0]
  unfold IH
  simp only [Bool.and_assoc]
 rw [hsc] at k
 refine ⟨λvs h'=>(∃u1 u2 u3,vs = [u1,u2,u3,dQ (!b0)])/\A9 h' (pt SB (oQ (N1 c ca calls.length cc pa C2.length pc da draws.length dc).toArray 28)*R),?_,?_⟩
 ·have O:=H1.at
  refine C4 O rfl (C4 O rfl (C4 O rfl (C4 O rfl (C4 O rfl (C4 O rfl (C4 O rfl ?_))))))
  refine A0 (Ki (c:=c) (λhc h2 o2=>?_) λhc h2 o2=>?_)
  rotate_left
  ·refine sb ?_
   refine D1 (λ_=>?_) (λhh=>by simp at hh)
   rw [hc,Mf] at hb0
   subst hb0
   exact ⟨⟨_,_,_,rfl⟩,H1.old o2⟩
  have H2:=H1.old o2
  rw [hc,FC] at hb0
  refine sb ?_
  refine D1 (λhh=>by simp at hh) (λ_=>?_)
  have O:=H2.at
  refine C4 O rfl ?_
  refine sb ?_
  refine C4 O rfl ?_
  refine sb ?_
  apply D1<;>intro hh
  ·have e:((calls.length:Int) == c.threads)=false:=by simpa using hh
   rw [e,Mf] at hb0
   subst hb0
   exact ⟨⟨_,_,_,rfl⟩,H2⟩
  have e:((calls.length:Int) == c.threads)=true:=by simpa using hh
  rw [e,FC] at hb0
  refine C4 O rfl (C4 O rfl (C4 O rfl (C4 O rfl (C4 O rfl (C4 O rfl (C4 O rfl (C4 O rfl (C4 O rfl (C4 O rfl ?_)))))))))
  refine A0 (SH (c:=c) H2 hS1 hn hn2 λh3 H3=>?_)
  refine sb ?_
  have O:=H3.at
  apply A6<;>intro hh
  ·rw [S4 (show ¬ calls.flatten.length<=48 by omega),Mf] at hb0
   subst hb0
   exact ⟨⟨_,_,_,rfl⟩,H3⟩
  rw [V6 (show calls.flatten.length<=48 by omega),FC] at hb0
  refine C4 O rfl ?_
  refine sb ?_
  apply A6<;>intro hh
  ·rw [S4 (show ¬ C2.length<=60000 by omega),Mf] at hb0
   subst hb0
   exact ⟨⟨_,_,_,rfl⟩,H3⟩
  rw [V6 (show C2.length<=60000 by omega),FC] at hb0
  refine C4 O rfl ?_
  refine sb ?_
  have e9:decide ((draws.length:Int) > 4096) = !b0:=by
   rw [hb0,<- decide_not,decide_eq_decide]
   omega
  rw [e9]
  exact ⟨⟨_,_,_,rfl⟩,H3⟩
 rintro v38 v39 v40 v41 g42 h43 ⟨⟨u1,u2,u3,e⟩,H2⟩
 cases e
 refine sb ?_
 apply D1<;>intro hh
 ·have e:b0=false:=by simpa using hh
  rw [e,Mf] at k
  exact k h43 H2.drop
 have e:b0=true:=by simpa using hh
 rw [e,FC] at k
 have I2:=hS1 h43 Mt (by rw [T8];exact H2)
 refine C4 H2.at rfl ?_
 refine sb ?_
 refine ⟨λvs h'=>(∃(w u v:vQ) (j:Nat),vs = [w,u,.int .i64 j,v]/\j<=calls.length/\(calls.take j).all (λl=>l.all DC)=true)/\A9 h' (pt SB (.cells (N1 c ca calls.length cc pa C2.length pc da draws.length dc).toArray 28)*R),λvs _=>match vs with | [_,_,.int _ i,_]=>((calls.length:Int) - i).toNat | _=>0,⟨⟨_,_,_,0,rfl,T4 _,rfl⟩,H2⟩,?_⟩
 rintro v51 v52 v53 v54 g55 h56 ⟨⟨w,u,v,j,e,hj,hall⟩,HJ⟩
 cases e
 refine sb ?_
 have IJ:=hS1 h56 Mt (by rw [T8];exact HJ)
 apply A6<;>intro c1
 ·have hj2:j < calls.length:=by omega
  obtain ⟨ra,rc,⟨ad,ea,hc⟩,hrow56⟩:=IJ.f.row j hj2
  have eg:calls.getD j []=calls[j]:=by rw [An,X7 hj2];rfl
  rw [eg] at hc hrow56
  subst ea
  refine ⟨by omega,by omega,?_⟩
  refine sb ?_
  refine C6 hc ?_
  refine sb ?_
  have hlen:=hV _ (CD hj2)
  have hmem:calls.all (λl=>l.all DC)=true->(calls[j]).all DC=true:=λh=>MG.1 h _ (CD hj2)
  have htk:(calls.take (j+1)).all (λl=>l.all DC)=(calls[j]).all DC:=by
   rw [Ab hj2,SD7,hall,Sk5,Sk6,FC,Bool.and_true]
  refine ⟨λvs h'=>(∃(w:vQ) (i:Nat),vs = [w,.int .i64 i]/\i<=(calls[j]).length/\((calls[j]).take i).all DC=true)/\G9 h56.size h56 h'/\A9 h' (pt SB (.cells (N1 c (some ad) calls.length cc pa C2.length pc da draws.length dc).toArray 28)*R),λvs _=>match vs with | [_,.int _ i]=>(((calls[j]).length:Int) - i).toNat | _=>0,⟨⟨_,0,rfl,T4 _,rfl⟩,G9.refl _ _,HJ⟩,?_⟩
  rintro v66 v67 g68 h69 ⟨⟨w2,i,e,hi,hall2⟩,o69,HI⟩
  cases e
  refine sb ?_
  apply A6<;>intro c2
  ·have hi2:i < (calls[j]).length:=by omega
   have hrow:=(hrow56.old o69)
   have g0:=N0 BK hi2 (j:=0) (by omega)
   have g1:=N0 BK hi2 (j:=1) (by omega)
   have g2:=N0 BK hi2 (j:=2) (by omega)
   obtain ⟨ad3,ea3,q0⟩:=hrow (i*3+0) (.int .i64 (calls[j])[i].op) g0
   subst ea3
   obtain ⟨_,ea4,q1⟩:=hrow (i*3+1) (.int .u32 (calls[j])[i].key) g1
   cases ea4
   obtain ⟨_,ea4,q2⟩:=hrow (i*3+2) (.int .u32 (calls[j])[i].val) g2
   cases ea4
   refine ⟨by omega,by omega,?_⟩
   have aa:∀i,(ad3.add (i*3)).add 1=ad3.add (i*3+1):=λi=>Z7 _ _ _
   have ab:∀i,(ad3.add (i*3)).add 2=ad3.add (i*3+2):=λi=>Z7 _ _ _
   rw [Lc] at q0
   refine se2 aa ab ?_
   refine C6 q0 (C6 q1 (C6 q2 ?_))
   have H5:=HI.push (oQ #[iQ 0,.int .u32 0,.int .u32 0] 41)
   have p5:=(G8 h69 #[iQ 0,.int .u32 0,.int .u32 0] 41).toOld
   generalize h69.push (oQ #[iQ 0,.int .u32 0,.int .u32 0] 41)=h70 at *
   obtain ⟨LB,hLB⟩ : ∃LB,h69.size=LB:=⟨_,rfl⟩
   rw [hLB] at H5 p5 ⊢
   refine F5 (vs:=CJ (calls[j])[i]) H5.at rfl (by simp [CJ,J0]) λh71 x=>?_
   have H6:=H5.wr x.new x.old
   have o71:=x.toOld p5 (G0 _)
   refine C4 H6.at rfl (C4 H6.at rfl (C4 H6.at rfl ?_))
   refine A0 (GE λh72 o72=>?_)
   have H7:=(H6.old o72).drop
   have o72':G9 h56.size h56 h72:=o69.trans ((o71.trans (o72.mono (by rw [<- hLB];exact o71.1))).mono (by rw [<- hLB];exact o69.1))
   have hmem2:(calls[j]).all DC=true->DC (calls[j])[i]=true:=λh=>MG.1 h _ (CD hi2)
   refine sb ?_
   apply D1<;>intro hh
   ·have e:DC (calls[j])[i]=false:=by simpa using hh
    have e2:calls.all (λl=>l.all DC)=false:=by
     rw [<- SD4]
     intro hx
     rw [hmem2 (hmem hx)] at e;cases e
    rw [e2,Mf] at k
    exact k h72 H7.drop
   ·have e:DC (calls[j])[i]=true:=by simpa using hh
    rw [show G2 ((i:Int)+1)=((i+1:Nat):Int) from by rw [<- Mg];exact Ah _ (by omega)]
    refine ⟨⟨⟨_,i+1,rfl,by omega,?_⟩,o72',H7⟩,?_⟩
    ·rw [Ab hi2,SD7,hall2,Sk5,Sk6,e];rfl
    ·show (((calls[j]).length:Int) - ((i+1:Nat):Int)).toNat < (((calls[j]).length:Int) - (i:Int)).toNat
     omega
  ·rw [Dg (by omega)] at hall2
   rw [show G2 ((j:Int)+1)=((j+1:Nat):Int) from by rw [<- Mg];exact Ah _ (by omega)]
   refine ⟨⟨⟨_,_,_,j+1,rfl,by omega,by rw [htk];exact hall2⟩,HI⟩,?_⟩
   show ((calls.length:Int) - ((j+1:Nat):Int)).toNat < ((calls.length:Int) - (j:Int)).toNat
   omega
 rw [Dg (by omega)] at hall
 rw [hall,FC] at k
 refine C4 HJ.at rfl ?_
 refine sb ?_
 refine ⟨λvs h'=>(∃(w u:vQ) (j:Nat),vs = [w,u,.int .i64 j]/\j<=C2.length/\(C2.take j).all (λk=>decide (0<=k) && decide (k < c.threads))=true)/\h' = h56,λvs _=>match vs with | [_,_,.int _ i]=>((C2.length:Int) - i).toNat | _=>0,⟨⟨_,_,0,rfl,T4 _,rfl⟩,rfl⟩,?_⟩
 rintro v93 v94 v95 g96 h97 ⟨⟨w,u,j,e,hj,hall⟩,rfl⟩
 cases e
 refine sb ?_
 apply A6<;>intro c1
 ·have hj2:j < C2.length:=by omega
  obtain ⟨ad,ea,hc⟩:=IJ.f.pk j (.int .i64 C2[j]) (by rw [FD,X7 hj2];rfl)
  subst ea
  refine ⟨by omega,by omega,?_⟩
  refine sb ?_
  refine C6 hc ?_
  refine sb ?_
  have hmem:C2.all (λk=>decide (0<=k) && decide (k < c.threads))=true->(decide (0<=C2[j]) && decide (C2[j] < c.threads))=true:=λh=>MG.1 h _ (CD hj2)
  refine ⟨λvs h'=>vs = [dQ (!(decide (0<=C2[j]) && decide (C2[j] < c.threads)))]/\h' = h97,?_,?_⟩
  ·apply A6<;>intro hh
   ·rw [S4 (show ¬ 0<=C2[j] by omega)]
    exact ⟨rfl,rfl⟩
   ·refine C4 HJ.at rfl ?_
    refine sb ?_
    rw [V6 (show 0<=C2[j] by omega),FC]
    first | exact ⟨by congr 2;rw [<- decide_not,decide_eq_decide];omega,rfl⟩ | (congr 2;rw [<- decide_not,decide_eq_decide];omega)
  rintro v106 g107 h108 ⟨e,rfl⟩
  cases e
  refine sb ?_
  apply D1<;>intro hh
  ·have e:(decide (0<=C2[j]) && decide (C2[j] < c.threads))=false:=by rwa [Bool.not_eq_true'] at hh
   have e2:C2.all (λk=>decide (0<=k) && decide (k < c.threads))=false:=by
    rw [<- SD4]
    intro hx
    rw [hmem hx] at e;cases e
   rw [e2] at k
   exact k h108 HJ.drop
  ·have e:(decide (0<=C2[j]) && decide (C2[j] < c.threads))=true:=by rwa [Bool.not_eq_false'] at hh
   rw [show G2 ((j:Int)+1)=((j+1:Nat):Int) from by rw [<- Mg];exact Ah _ (by omega)]
   have e9:(C2.take (j+1)).all (λk=>decide (0<=k) && decide (k < c.threads))=true:=by
    rw [Ab hj2,SD7,hall,Sk5,Sk6,e];rfl
   refine ⟨by first | exact ⟨⟨_,_,j+1,rfl,by omega,e9⟩,rfl⟩ | exact ⟨_,_,j+1,rfl,by omega,e9⟩,?_⟩
   show ((C2.length:Int) - ((j+1:Nat):Int)).toNat < ((C2.length:Int) - (j:Int)).toNat
   omega
 ·rw [Dg (by omega)] at hall
  rw [hall] at k
  exact k h97 HJ.drop
end
end
section
structure Ev8 where
 th:Int
 bk:Bool
 c:C3
 a:C3
abbrev Ev8.cells (e:Ev8):List vQ:=[iQ e.th,dQ e.bk,iQ e.c.o,.int .u32 e.c.k,.int .u32 e.c.v,iQ e.a.o,.int .u32 e.a.k,.int .u32 e.a.v]
end
section
theorem EF.of {h:A2} {m:Nat} {f g:Int->Option vQ} (H:EF h m f) (e:∀t,f t=g t):EF h m g:=by
 obtain ⟨es,c,kvs,h1,h2,h3⟩:=H
 exact ⟨es,c,kvs,h1,h2,λk=>(h3 k).trans (e k)⟩
theorem Oc {K:kQ} {h:A2} {t:Int} (k:K (dQ (decide (0<=t) && decide (t<=5))) h):A4 prog 124 #[iv t] h K:=by
 refine call124 ?_
 unfold F124
 apply A6<;>intro h1
 ·rw [V6 (by omega:0<=t),FC] at k
  have:decide (t < 6)=decide (t<=5):=by rw [decide_eq_decide];omega
  rw [this];exact k
 ·rw [S4 (by omega:¬ 0<=t)] at k
  exact k
end
section
set_option maxRecDepth 100000
variable {K:kQ} {h:A2}
abbrev g12 (K:kQ) (h H1 H2:A2):Prop:=
 (Du H2 h.size λa b c d e f g i j k=>cf 29 #[.agg #[a,b,c,d,e,f,g,i,j,k]] H2 λa b=>asBool a λa=>D4 (!a) (dw5 b H1.size (lQ none 0 0) (iQ 0) (iQ 0) (dQ false) (iQ 0) λa=>dl5 a H1.size λc d e f g=>K (.tuple #[.agg #[c,d,e,f,g],pQ none,iQ 1]) a) (da7 b (aQ h.size) λa c d e f g i=>lS b ⟨h.size,9,none⟩ λj k l=>cf 30 #[.agg #[a,c,d,e,f,g,i],lQ j k l,dQ true] b λa b=>J3 a λc=>D9 c 0 λc=>C9 c λc=>J3 a λa=>D9 a 1 λa=>asInt .i64 a λa=>D4 (a != 0) (dw5 b H1.size (lQ none 0 0) (iQ 0) (iQ 0) (dQ false) (iQ 0) λd=>dl5 d H1.size λe f g i j=>K (.tuple #[.agg #[e,f,g,i,j],pQ none,iQ a]) d) (Du b h.size λa d e f g i j k l m=>lI .i64 b ((aQ h.size).add 1) λn=>Y2 prog 3 n n b λb n=>D3 b λb o p=>ce n h.size 0 a (ce n h.size 1 d (ce n h.size 2 e (ce n h.size 3 f (ce n h.size 4 g (ce n h.size 5 i (ce n h.size 6 j (ce n h.size 7 k (ce n h.size 8 l (ce n h.size 9 m (cf 31 #[pQ c] (n.push (oQ #[lQ none 0 0,iQ 0,iQ 0,dQ false,iQ 0,pQ c,a,d,e,f,g,i,j,k,l,m,lQ b o p,lQ none 0 0,.map none,iQ 0] 78)) λa b=>C9 a λa=>cf 32 #[pQ a] b λa b=>C9 a λa=>cf 33 #[pQ a] b λa b=>asInt .i64 a λa=>lS b ⟨h.size,8,none⟩ λd e f=>R3 λI82=>GI λm83=>(I82 [tQ,iQ 0] b)/\(∀(b f:vQ) (g:G4) (g:A2),(I82 [b,f] g)->(asInt .i64 f λi=>D4 (decide (i < (e:Int))) (Il f λi=>bd i (e:Int) (F3 (pQ d) λd=>lI .i64 g (d.add (i.toNat*1)) λd=>cf 34 #[pQ (some (aQ n.size)),iQ d] g λe e=>asInt .i64 f λi=>(I82 [iQ d,iQ (wrap .i64 (i+1))] e)/\((m83 [iQ d,iQ (wrap .i64 (i+1))] e) < (m83 [b,f] g)))) (G5 (pQ (some (aQ n.size))) (cf 35 #[pQ (some ⟨n.size,17,none⟩)] g λb d=>D3 b λb e f=>G5 (pQ (some (aQ n.size))) (C7 d (aQ n.size) (lQ b e f) λb=>cf 31 #[pQ c] b λb d=>C9 b λb=>cf 32 #[pQ b] d λb d=>C9 b λb=>cf 33 #[pQ b] d λb d=>asInt .i64 b λb=>G5 (pQ (some (aQ n.size))) (C7 d ((aQ n.size).add 1) (iQ (wrap .i64 (b - a))) λa=>cf 31 #[pQ c] a λa b=>C9 a λa=>cf 36 #[pQ a] b λa b=>asBool a λa=>G5 (pQ (some (aQ n.size))) (C7 b ((aQ n.size).add 3) (dQ a) λa=>G5 (pQ (some (aQ n.size))) (da5 a (aQ n.size) λb d e f g=>dw5 a H1.size b d e f g λa=>dl5 a H1.size λb d e f g=>K (.tuple #[.agg #[b,d,e,f,g],pQ c,iQ 0]) a)))))))))))))))))))))
def F12 (K:kQ) (h:A2) (xa xb xc xd xe xf xg:Int) (xh:rQ) (xi xj:Nat) (xk:rQ) (xl xm:Nat) (xn:rQ) (xo xp:Nat):Prop:=
 (g12 K h (h.push (oQ #[iQ xa,iQ xb,iQ xc,iQ xd,iQ xe,iQ xf,iQ xg,lQ xh xi xj,lQ xk xl xm,lQ xn xo xp] 28)) (Array.push (h.push (oQ #[iQ xa,iQ xb,iQ xc,iQ xd,iQ xe,iQ xf,iQ xg,lQ xh xi xj,lQ xk xl xm,lQ xn xo xp] 28)) (oQ #[lQ none 0 0,iQ 0,iQ 0,dQ false,iQ 0] 34)))
theorem call12 {xa xb xc xd xe xf xg:Int} {xh:rQ} {xi xj:Nat} {xk:rQ} {xl xm:Nat} {xn:rQ} {xo xp:Nat} (H:F12 K h xa xb xc xd xe xf xg xh xi xj xk xl xm xn xo xp):A4 prog 12 #[(.agg #[(iQ xa),(iQ xb),(iQ xc),(iQ xd),(iQ xe),(iQ xf),(iQ xg),(lQ xh xi xj),(lQ xk xl xm),(lQ xn xo xp)])] h K:=
 cQ Tryz.func12 H
def F34 (K:kQ) (h:A2) (xa:rQ) (xb:Int):Prop:=
 (R3 λI0=>(nP xa λa=>lP h (a.add 5) λa=>cf 66 #[pQ a,iQ xb] h λa b=>asBool a λa=>D4 (!a) (cf 67 #[pQ xa,iQ xb] b λa c=>asBool a λa=>I0 [dQ (!a)] c) (I0 [dQ false] b))/\(∀(a:vQ) (b:G4) (b:A2),(I0 [a] b)->(asBool a λa=>D4 a (nP xa λa=>lI .i64 b (a.add 2) λa=>nP xa λc=>C7 b (c.add 2) (iQ (wrap .i64 (a+1))) λa=>K tQ a) (nP xa λa=>lP b (a.add 5) λa=>cf 68 #[pQ a,iQ xb] b λa b=>J3 a λc=>D9 c 0 λc=>asAgg c λc=>G3 c 3 (de3 c λc d e=>J3 a λa=>D9 a 1 λa=>asBool a λa=>C7 (b.push (oQ #[iQ 0,.int .u32 0,.int .u32 0] 43)) (aQ b.size) c λc=>C7 c ⟨b.size,1,none⟩ d λc=>C7 c ⟨b.size,2,none⟩ e λc=>D4 a (nP xa λa=>M0 c b.size λb d e=>cf 69 #[pQ (some (a.add 17)),iQ xb,.agg #[b,d,e]] c λa b=>asInt .i64 a λa=>nP xa λa=>C7 b (a.add 19) (iQ 0) λa=>K tQ a) (nP xa λa=>lI .i64 c (a.add 19) λa=>nP xa λb=>C7 c (b.add 19) (iQ (wrap .i64 (a+1))) λa=>nP xa λb=>lI .i64 a (b.add 4) λb=>nP xa λc=>lI .i64 a (c.add 19) λc=>W3 (λd e=>Hc d e) prog 3 [iQ b,iQ c] λb=>nP xa λc=>C7 a (c.add 4) (iQ b) λa=>K tQ a))))))
theorem call34 {xa:rQ} {xb:Int} (H:F34 K h xa xb):A4 prog 34 #[(pQ xa),(iQ xb)] h K:=
 cQ Tryz.func34 H
abbrev g67 (K:kQ) (h H1:A2) (xa:rQ) (xb:Int):Prop:=
 (nP xa λa=>lS h (a.add 16) λa b c=>bd xb (b:Int) (F3 (pQ a) λa=>lI .i64 h (a.add (xb.toNat*1)) λa=>nP xa λb=>lS h (b.add 13) λb c d=>bd xb (c:Int) (F3 (pQ b) λb=>lS h (b.add (xb.toNat*1)) λb b c=>D4 (decide (a >= (b:Int))) (K (dQ false) h) (nP xa λa=>D2 h (a.add 13) λb=>D3 b λc d e=>bd xb (d:Int) (F3 (pQ c) λc=>D2 h (c.add (xb.toNat*1)) λd=>D3 d λe f g=>nP xa λg=>D2 h (g.add 16) λi=>D3 i λj k l=>bd xb (k:Int) (F3 (pQ j) λj=>D2 h (j.add (xb.toNat*1)) λk=>asInt .i64 k λl=>bd l (f:Int) (F3 (pQ e) λe=>D2 h (e.add (l.toNat*3)) λf=>D2 h (Addr.add (e.add (l.toNat*3)) 1) λm=>D2 h (Addr.add (e.add (l.toNat*3)) 2) λn=>((A3 H1 (e.add (l.toNat*3)))=(some f))/\(((A3 H1 (Addr.add (e.add (l.toNat*3)) 1))=(some m))/\(((A3 H1 (Addr.add (e.add (l.toNat*3)) 2))=(some n))/\(((A3 H1 (j.add (xb.toNat*1)))=(some k))/\(((A3 H1 (g.add 16))=(some i))/\(((A3 H1 (c.add (xb.toNat*1)))=(some d))/\(((A3 H1 (a.add 13))=(some b))/\(dw3 H1 h.size f m n λa=>nP xa λb=>lS a (b.add 16) λb c d=>bd xb (c:Int) (F3 (pQ b) λd=>lI .i64 a (d.add (xb.toNat*1)) λd=>bd xb (c:Int) (F3 (pQ b) λb=>C7 a (b.add (xb.toNat*1)) (iQ (wrap .i64 (d+1))) λa=>nP xa λb=>lP a (b.add 5) λb=>M0 a h.size λc d e=>cf 77 #[pQ b,iQ xb,.agg #[c,d,e]] a λa b=>asInt .i64 a λa=>nP xa λa=>M0 b h.size λc d e=>cf 122 #[pQ (some (a.add 17)),iQ xb,.agg #[c,d,e]] b λa b=>asInt .i64 a λa=>K (dQ true) b))))))))))))))))
def F67 (K:kQ) (h:A2) (xa:rQ) (xb:Int):Prop:=
 (g67 K h (h.push (oQ #[iQ 0,.int .u32 0,.int .u32 0] 41)) xa xb)
theorem call67 {xa:rQ} {xb:Int} (H:F67 K h xa xb):A4 prog 67 #[(pQ xa),(iQ xb)] h K:=
 cQ Tryz.func67 H
def F35 (K:kQ) (h:A2) (xa:rQ):Prop:=
 (D4 (Option.isNone xa) (K (lQ none 0 0) h) (nP xa λa=>lS h a λa b c=>cf 70 #[lQ a b c] h λa b=>D3 a λa c d=>K (lQ a c d) b))
theorem call35 {xa:rQ} (H:F35 K h xa):A4 prog 35 #[(pQ xa)] h K:=
 cQ Tryz.func35 H
def F70 (K:kQ) (h:A2) (xa:rQ) (xb xc:Nat):Prop:=
 (D4 (Option.isNone xa) (K (lQ none 0 0) h) (U4 prog #[32,32] 32 #[lQ (some (aQ h.size)) 0 0,lQ xa xb xc] (h.push (oQ #[] 45)) λa b=>D3 a λa c d=>K (lQ a c d) b))
theorem call70 {xa:rQ} {xb xc:Nat} (H:F70 K h xa xb xc):A4 prog 70 #[(lQ xa xb xc)] h K:=
 cQ Tryz.func70 H
end
section
open Mod
structure M6 where
 m:Mac
 nx:List Int
 ev:List Ix
 cu:Int->Option Cl
 idle:Int
 gap:Int
 most:Int
def c3 (c:Cl):C3:=⟨c.op,c.key,c.val⟩
def M6.invoke (s:M6) (k:Int) (c:Cl):M6:=match s.cu k with
 | none=>{ s with cu:=λt=>if t=k then some c else s.cu t,ev:=s.ev ++ [⟨k,false,c,DY⟩] }
 | some _=>s
def M6.respond (s:M6) (k:Int) (a:Cl):M6:=match s.cu k with
 | some c=>if Lq (c3 c) (c3 a) then { s with cu:=λt=>if t=k then none else s.cu t,ev:=s.ev ++ [⟨k,true,DY,a⟩] } else s
 | none=>s
def M6.begin (ins:Int) (calls:List (List Cl)) (s:M6) (k:Nat):Option M6:=
 if (calls.getD k []).length<=(s.nx.getD k 0).toNat then none
 else some (M6.invoke { s with m:=s.m.setTh (s.m.th.set k ((F7 s.m k).push (ins+((calls.getD k []).getD (s.nx.getD k 0).toNat DY).op) [((calls.getD k []).getD (s.nx.getD k 0).toNat DY).key,((calls.getD k []).getD (s.nx.getD k 0).toNat DY).val])),nx:=s.nx.set k (s.nx.getD k 0+1) } k ((calls.getD k []).getD (s.nx.getD k 0).toNat DY))
noncomputable def M6.go (d:B9->B9) (s:M6) (k:Nat):M6:=
 if (R8 d ⟨s.m.quiet,F7 s.m k,k⟩).t.fr = [] then { M6.respond { s with m:=(R8 d ⟨s.m.quiet,F7 s.m k,k⟩).m.setTh (s.m.th.set k (R8 d ⟨s.m.quiet,F7 s.m k,k⟩).t) } k (FU (R8 d ⟨s.m.quiet,F7 s.m k,k⟩).t) with gap:=0 }
 else { s with m:=(R8 d ⟨s.m.quiet,F7 s.m k,k⟩).m.setTh (s.m.th.set k (R8 d ⟨s.m.quiet,F7 s.m k,k⟩).t),gap:=s.gap+1,most:=max s.most (s.gap+1) }
noncomputable def M6.pick (d:B9->B9) (ins:Int) (calls:List (List Cl)) (s:M6) (k:Int):M6:=
 if (F7 s.m k.toNat).fr = [] then match s.begin ins calls k.toNat with
  | none=>{ s with idle:=s.idle+1 }
  | some s1=>s1.go d k.toNat
 else s.go d k.toNat
def rs0 (m:Mac) (n:Nat):M6:=⟨m,List.replicate n 0,[],λ_=>none,0,0,0⟩
noncomputable def Pu (d:B9->B9) (ins:Int) (calls:List (List Cl)) (m:Mac) (C2:List Int):M6:=C2.foldl (λs k=>s.pick d ins calls k) (rs0 m calls.length)
def clV (c:Cl):vQ:=.agg (CJ c).toArray
def Od (mo:Option Nat) (f:Int->Option Cl):Hp:=lift (λb=>mo=some b) λh=>match mo with
 | none=>∀t,f t=none
 | some m=>EF h m λt=>(f t).map clV
structure RX where
 RB:Nat
 NB:Nat
 Q:Nat
 M:Nat
 f:Nat
 ins:Int
 Ts:List Nat
 c:Mod.Cf
 ca:rQ
 cl:Nat
 cc:Nat
 pa:rQ
 pl:Nat
 pc:Nat
 da:rQ
 dl:Nat
 dc:Nat
 n:Nat
abbrev rnC (X:RX) (idle most gap:Int) (ea:rQ) (en ec:Nat) (mo:Option Nat):List vQ:=[lQ none 0 0,iQ 0,iQ idle,dQ false,iQ most,mP X.Q,iQ X.c.algo,iQ X.c.threads,iQ X.c.nodes,iQ X.c.level,iQ X.c.batch,iQ X.c.probes,iQ X.c.scan,lQ X.ca X.cl X.cc,lQ X.pa X.pl X.pc,lQ X.da X.dl X.dc,lQ (some ⟨X.NB,0,none⟩) X.n X.n,lQ ea en ec,.map mo,iQ gap]
def Kt (X:RX) (s:M6):Hp:=ex λea=>ex λec=>ex λmo=>pr (s.nx.length=X.n)
 (pt X.RB (oQ (rnC X s.idle s.most s.gap ea s.ev.length ec mo).toArray 78)*(E8 45 8 ea s.ev.length ec (s.ev.flatMap Dc)*(Od mo s.cu*(pt X.NB (oQ (s.nx.map iv).toArray 3)*CF X.Q X.M X.f X.ins X.Ts s.m))))
theorem U3 {h:A2} {X:RX} {s:M6} {R:Hp}:A9 h (Kt X s*R)↔∃ea ec mo,s.nx.length=X.n /\
  A9 h (pt X.RB (oQ (rnC X s.idle s.most s.gap ea s.ev.length ec mo).toArray 78)*(E8 45 8 ea s.ev.length ec (s.ev.flatMap Dc)*(Od mo s.cu*(pt X.NB (oQ (s.nx.map iv).toArray 3)*(CF X.Q X.M X.f X.ins X.Ts s.m*R))))):=by
 unfold Kt
 simp only [A9.ex,A9.pr,F2]
section
variable {K:kQ} {h:A2} {X:RX} {s:M6} {R:Hp}
theorem Sj2 {mo:Option Nat} {f:Int->Option Cl} (H:A9 h (Od mo f*R)):(mo=none/\∀t,f t=none)\/∃m,mo=some m/\EF h m λt=>(f t).map clV:=by
 have H1:=H.see
 cases mo with
 | none=>exact .inl ⟨rfl,H1⟩
 | some m=>exact .inr ⟨m,rfl,H1⟩
theorem SU9 {h:A2} {m:Nat} {f:Int->Option vQ} (H:EF h m f):∀b o,some m=some b->h[b]? = some o->Nd o:=by
 intro b o e hb x hx
 cases e
 obtain ⟨es,c,kvs,q,_⟩:=H
 rw [q] at hb
 cases hb
 cases hx
theorem SV0 {m:Nat} {f g:Int->Option Cl} {h':A2} (H:A9 h (Od (some m) f*R)) (hm:EF h' m λt=>(g t).map clV) (hs:h.size<=h'.size) (old:∀b,b≠m->h'[b]? = h[b]?):A9 h' (Od (some m) g*R):=by
 obtain ⟨_,hlt,re⟩:=H.opn
 refine re h' _ _ ⟨hs,λb _ hb=>old b λe=>hb (by rw [e])⟩ (λb hb=>?_) (SU9 hm) λh'' e=>?_
 ·refine ⟨.inl hb,?_⟩
  cases hb
  exact hm.lt
 ·exact hm.keep (e m rfl)
theorem S67 {f:Int->Option Cl} (H:A9 h (Od none f*R)):A9 (h.push (.map #[] 0)) (Od (some h.size) f*R):=by
 have hf:∀t,f t=none:=H.see
 have H1:=H.drop
 have hN:=EF.new h
 refine H1.mk_new ⟨by simp,λb hb=>W5 _ _ _ hb⟩ (λb hb=>?_) (SU9 hN) λh'' e=>?_
 ·cases hb
  exact ⟨G0 _,by simp⟩
 ·refine (hN.keep (e _ rfl)).of λt=>?_
  rw [hf t];rfl
theorem SV1 (o:Option Cl):(o.map clV).getD (clV DY)=clV (o.getD DY):=by cases o <;> rfl
theorem SI:GZ prog 41=some (clV DY):=by kernel_rfl
theorem Kk:Be prog 74=.map 3 41:=by kernel_rfl
theorem Oe:Be prog 3=.int .i64:=by kernel_rfl
theorem LZ {t:Int} (H:A9 h (Kt X s*R)) (k:∀h',A9 h' (Kt X s*R)->G9 h.size h h'->K (dQ (s.cu t).isSome) h'):A4 prog 125 #[pQ (some ⟨X.RB,17,none⟩),iQ t] h K:=by
 refine call125 ?_
 unfold F125 nP de3
 obtain ⟨ea,ec,mo,hl,H1⟩:=U3.1 H
 refine D1 (λhh=>by cases hh) (λ_=>?_)
 refine sb ?_
 refine C4 H1.at rfl ?_
 simp only [CG]
 have HM:=H1.drop.drop
 have look:∀ {K:kQ},K (.tuple #[clV ((s.cu t).getD DY),dQ (s.cu t).isSome]) h->Lg prog 74 (.map mo) (iQ t) true h K:=by
  intro K kk
  rcases Sj2 HM with ⟨rfl,hf⟩ | ⟨m,rfl,hf⟩
  ·rw [hf] at kk
   exact SI0 Kk Oe SI kk
  ·refine Sf5 Kk Oe SI hf ?_
   simp only [if_true]
   rw [SV1,Option.isSome_map]
   exact kk
 refine look ?_
 simp only [J3]
 refine D5 rfl ?_
 unfold clV
 simp only [X8]
 refine U9 rfl (D5 rfl (D5 rfl (D5 rfl ?_)))
 refine D5 rfl ?_
 simp only [C0]
 have H2:=H.push (oQ #[iQ 0,.int .u32 0,.int .u32 0] 41)
 have p2:=(G8 h #[iQ 0,.int .u32 0,.int .u32 0] 41).toOld
 obtain ⟨LB,hLB⟩ : ∃LB,h.size=LB:=⟨_,rfl⟩
 rw [hLB] at H2 p2 ⊢
 generalize h.push (oQ #[iQ 0,.int .u32 0,.int .u32 0] 41)=h2 at *
 refine F5 (vs:=CJ ((s.cu t).getD DY)) H2.at rfl (by simp [CJ,J0]) λh3 w=>?_
 exact k h3 (H2.wr w.new w.old).drop (by rw [hLB];exact w.toOld p2 (G0 _))
theorem S93 (e:Ix):(Dc e).toArray=#[iQ e.k,dQ e.back,iQ e.c.op,.int .u32 e.c.key,.int .u32 e.c.val,iQ e.a.op,.int .u32 e.a.key,.int .u32 e.a.val]:=rfl
theorem Tj9 {e:Ix} {ea:rQ} {ec:Nat} {mo:Option Nat} {idle most gap:Int} {ev:List Ix} {G:Hp} (H:A9 h (pt X.RB (oQ (rnC X idle most gap ea ev.length ec mo).toArray 78)*(E8 45 8 ea ev.length ec (ev.flatMap Dc)*G))) (hb:ev.length<=1000000) {F:A2->Prop}
  (k:∀h' ea' ec',A9 h' (pt X.RB (oQ (rnC X idle most gap ea' (ev ++ [e]).length ec' mo).toArray 78)*(E8 45 8 ea' (ev ++ [e]).length ec' ((ev ++ [e]).flatMap Dc)*G))->F h') :
  U4 prog #[32,32] 32 #[lQ ea ev.length ec,lQ (some (aQ h.size)) 1 1] (h.push (oQ #[iQ e.k,dQ e.back,iQ e.c.op,.int .u32 e.c.key,.int .u32 e.c.val,iQ e.a.op,.int .u32 e.a.key,.int .u32 e.a.val] 45))
   λv h'=>D3 v λo k1 k2=>C7 h' ⟨X.RB,17,none⟩ (lQ o k1 k2) F:=by
 have H2:=H.push (oQ (Dc e).toArray 45)
 have hs:N5 (h.push (oQ (Dc e).toArray 45)) (some (aQ h.size)) (Dc e):=λj v hj=>⟨_,rfl,by rw [E2,J6,E5 H2.at];simpa using hj⟩
 rw [<- S93]
 generalize h.push (oQ (Dc e).toArray 45)=h2 at *
 generalize h.size=N at *
 have H3:=H2.drop
 rw [D8,<- Fk] at H3
 refine H3.app Sh7 Qu Sh8 (by rw [Fk];rfl) hs (n:=1) (by rw [Fk];rfl) (λy hy=>?_) (by rw [Mz];omega) (by rw [Mz];omega) λa' c' h3 H4=>?_
 ·simp only [Dc,ED,GF,or_false] at hy
  rcases hy with rfl | rfl | rfl | rfl | rfl | rfl | rfl | rfl <;> trivial
 rw [Fk,D8] at H4
 refine sb ?_
 refine H4.st (i:=17) rfl trivial λh4 H5=>k h4 a' c' ?_
 have e1:(ev ++ [e]).length=ev.length+1:=by simp
 have e2:(ev ++ [e]).flatMap Dc=ev.flatMap Dc ++ Dc e:=by simp
 rw [e1,e2]
 exact H5
theorem Pv {t:Int} {c:Cl} (H:A9 h (Kt X s*R)) (ht:0<=t/\t<=5) (hc:DC c=true) (hb:s.ev.length<=1000000) (k:∀r h',A9 h' (Kt X (s.invoke t c)*R)->K (iQ r) h') :
  A4 prog 122 #[pQ (some ⟨X.RB,17,none⟩),iQ t,.agg #[iQ c.op,.int .u32 c.key,.int .u32 c.val]] h K:=by
 refine call122 ?_
 unfold F122 g122 cf nP M0
 have H1:=H.push (oQ (CJ c).toArray 41)
 rw [show h.push (oQ #[iQ c.op,.int .u32 c.key,.int .u32 c.val] 41)=h.push (oQ (CJ c).toArray 41) from rfl]
 generalize h.push (oQ (CJ c).toArray 41)=h1 at *
 generalize h.size=CB at *
 rw [D8] at H1
 refine D1 (λhh=>by cases hh) (λ_=>?_)
 refine A0 (Oc ?_)
 rw [V6 ht.1,V6 ht.2]
 refine sb ?_
 have O:=H1.at2
 refine C4 O rfl (C4 O rfl (C4 O rfl ?_))
 refine A0 (GE λh2 o2=>?_)
 have H2:=H1.old o2
 rw [hc]
 refine sb ?_
 refine A0 (LZ H2 λh3 H3 o3=>?_)
 refine sb ?_
 apply D1<;>intro hh
 ·have e:s.invoke t c=s:=by
   unfold M6.invoke
   cases e:s.cu t with
   | none=>rw [e] at hh;cases hh
   | some x=>rfl
  rw [e] at k
  exact k 5 h3 H3.drop2
 have hno:s.cu t=none:=by
  cases e:s.cu t with
  | none=>rfl
  | some x=>rw [e] at hh;cases hh
 obtain ⟨ea,ec,mo,hl,H4⟩:=U3.1 H3
 refine ⟨λ_ h'=>∃m,A9 h' (pt X.RB (oQ (rnC X s.idle s.most s.gap ea s.ev.length ec (some m)).toArray 78)*(E8 45 8 ea s.ev.length ec (s.ev.flatMap Dc)*(Od (some m) s.cu*(pt X.NB (oQ (s.nx.map iv).toArray 3)*(CF X.Q X.M X.f X.ins X.Ts s.m*(pt CB (oQ (CJ c).toArray 41)*R)))))),?_,?_⟩
 ·refine sb ?_
  refine C4 H4.at rfl ?_
  simp only [CG]
  cases mo with
  | some m=>exact D1 (λhh=>by cases hh) (λ_=>⟨m,H4⟩)
  | none=>
   refine D1 (λ_=>?_) (λhh=>by cases hh)
   have H5:A9 h3 (Od none s.cu*(pt X.RB (oQ (rnC X s.idle s.most s.gap ea s.ev.length ec none).toArray 78)*(E8 45 8 ea s.ev.length ec (s.ev.flatMap Dc)*(pt X.NB (oQ (s.nx.map iv).toArray 3)*(CF X.Q X.M X.f X.ins X.Ts s.m*(pt CB (oQ (CJ c).toArray 41)*R)))))):=A9.ac H4 (by ac_rfl)
   have H6:=S67 H5
   generalize h3.push (.map #[] 0)=h4 at *
   generalize h3.size=m at *
   have H7:A9 h4 (pt X.RB (oQ (rnC X s.idle s.most s.gap ea s.ev.length ec none).toArray 78)*(E8 45 8 ea s.ev.length ec (s.ev.flatMap Dc)*(Od (some m) s.cu*(pt X.NB (oQ (s.nx.map iv).toArray 3)*(CF X.Q X.M X.f X.ins X.Ts s.m*(pt CB (oQ (CJ c).toArray 41)*R)))))):=A9.ac H6 (by ac_rfl)
   exact H7.st (i:=18) rfl trivial λh5 H8=>⟨m,H8⟩
 rintro g18 h19 ⟨m,H5⟩
 refine C4 H5.at rfl ?_
 simp only [CG]
 have OC:=(H5.drop.drop.drop.drop.drop).at
 refine C4 OC rfl (C4 OC rfl (C4 OC rfl ?_))
 have H6:A9 h19 (Od (some m) s.cu*(pt X.RB (oQ (rnC X s.idle s.most s.gap ea s.ev.length ec (some m)).toArray 78)*(E8 45 8 ea s.ev.length ec (s.ev.flatMap Dc)*(pt X.NB (oQ (s.nx.map iv).toArray 3)*(CF X.Q X.M X.f X.ins X.Ts s.m*(pt CB (oQ (CJ c).toArray 41)*R)))))):=A9.ac H5 (by ac_rfl)
 have hf:EF h19 m λt=>(s.cu t).map clV:=H6.see
 refine Tc7 Kk Oe hf λh26 mf26 s26 old26=>?_
 have H7:=SV0 (g:=λt'=>if t' = t then some c else s.cu t') H6 (mf26.of λt'=>by by_cases e:t' = t <;> simp [e,clV,CJ]) (by omega) old26
 have H8:A9 h26 (pt X.RB (oQ (rnC X s.idle s.most s.gap ea s.ev.length ec (some m)).toArray 78)*(E8 45 8 ea s.ev.length ec (s.ev.flatMap Dc)*(Od (some m) (λt'=>if t' = t then some c else s.cu t')*(pt X.NB (oQ (s.nx.map iv).toArray 3)*(CF X.Q X.M X.f X.ins X.Ts s.m*(pt CB (oQ (CJ c).toArray 41)*R)))))):=A9.ac H7 (by ac_rfl)
 refine C4 H8.at rfl ?_
 refine sb ?_
 have OC:=(H8.drop.drop.drop.drop.drop).at
 refine C4 OC rfl (C4 OC rfl (C4 OC rfl ?_))
 refine ⟨E9 (F6 H8.at rfl),?_⟩
 refine Tj9 (e:=⟨t,false,c,DY⟩) H8 hb λh36 ea' ec' H9=>?_
 have e:s.invoke t c = { s with cu:=λt'=>if t' = t then some c else s.cu t',ev:=s.ev ++ [⟨t,false,c,DY⟩] }:=by
  unfold M6.invoke
  rw [hno]
 rw [e] at k
 have H10:A9 h36 (Kt X { s with cu:=λt'=>if t' = t then some c else s.cu t',ev:=s.ev ++ [⟨t,false,c,DY⟩] }*(pt CB (oQ (CJ c).toArray 41)*R)):=U3.2 ⟨ea',ec',some m,hl,H9⟩
 exact k 0 h36 H10.drop2
theorem Of {t:Int} {a:Cl} (H:A9 h (Kt X s*R)) (ht:0<=t/\t<=5) (hb:s.ev.length<=1000000) (k:∀r h',A9 h' (Kt X (s.respond t a)*R)->K (iQ r) h') :
  A4 prog 69 #[pQ (some ⟨X.RB,17,none⟩),iQ t,.agg #[iQ a.op,.int .u32 a.key,.int .u32 a.val]] h K:=by
 refine call69 ?_
 unfold F69 g69 cf ce nP de3 M0
 have H1:=H.push (oQ (CJ a).toArray 43)
 rw [show h.push (oQ #[iQ a.op,.int .u32 a.key,.int .u32 a.val] 43)=h.push (oQ (CJ a).toArray 43) from rfl]
 generalize h.push (oQ (CJ a).toArray 43)=h1 at *
 generalize h.size=CB at *
 rw [D8] at H1
 refine D1 (λhh=>by cases hh) (λ_=>?_)
 refine A0 (Oc ?_)
 rw [V6 ht.1,V6 ht.2]
 refine sb ?_
 refine A0 (LZ H1 λh3 H3 o3=>?_)
 refine sb ?_
 apply D1<;>intro hh
 ·have e:s.respond t a=s:=by
   unfold M6.respond
   cases e:s.cu t with
   | none=>rfl
   | some x=>rw [e] at hh;cases hh
  rw [e] at k
  exact k 4 h3 H3.drop2
 obtain ⟨c,hcu⟩ : ∃c,s.cu t=some c:=by
  cases e:s.cu t with
  | none=>rw [e] at hh;cases hh
  | some x=>exact ⟨x,rfl⟩
 obtain ⟨ea,ec,mo,hl,H4⟩:=U3.1 H3
 rcases Sj2 H4.drop.drop with ⟨_,hf⟩ | ⟨m,rfl,hf⟩
 ·rw [hf] at hcu;cases hcu
 refine C4 H4.at rfl ?_
 simp only [CG]
 have OC:=(H4.drop.drop.drop.drop.drop).at
 refine C4 OC rfl (C4 OC rfl (C4 OC rfl ?_))
 refine Sf5 Kk Oe SI hf ?_
 simp only [hcu,JA,Option.getD_some,Cd,if_false]
 unfold clV
 simp only [X8]
 refine U9 rfl (D5 rfl (D5 rfl (D5 rfl ?_)))
 refine ⟨F6 OC rfl,F6 OC rfl,F6 OC rfl,?_⟩
 refine A0 (So2 (c:=c3 c) (a:=c3 a) λh5 o5=>?_)
 have H5:=H4.old o5
 refine sb ?_
 apply D1<;>intro hh
 ·have e:s.respond t a=s:=by
   unfold M6.respond
   rw [hcu]
   show (if Lq (c3 c) (c3 a) then _ else s)=s
   rw [A7 (by simpa using hh)]
  rw [e] at k
  have H6:A9 h5 (Kt X s*(pt CB (oQ (CJ a).toArray 43)*R)):=U3.2 ⟨ea,ec,some m,hl,H5⟩
  exact k 1 h5 H6.drop2
 have hfit:Lq (c3 c) (c3 a)=true:=by simpa using hh
 refine C4 H5.at rfl ?_
 simp only [CG]
 have H6:A9 h5 (Od (some m) s.cu*(pt X.RB (oQ (rnC X s.idle s.most s.gap ea s.ev.length ec (some m)).toArray 78)*(E8 45 8 ea s.ev.length ec (s.ev.flatMap Dc)*(pt X.NB (oQ (s.nx.map iv).toArray 3)*(CF X.Q X.M X.f X.ins X.Ts s.m*(pt CB (oQ (CJ a).toArray 43)*R)))))):=A9.ac H5 (by ac_rfl)
 have hf5:EF h5 m λt=>(s.cu t).map clV:=H6.see
 refine Tc8 Kk Oe hf5 λh25 mf25 s25 old25=>?_
 have H7:=SV0 (g:=λt'=>if t' = t then none else s.cu t') H6 (mf25.of λt'=>by by_cases e:t' = t <;> simp [e]) (by omega) old25
 have H8:A9 h25 (pt X.RB (oQ (rnC X s.idle s.most s.gap ea s.ev.length ec (some m)).toArray 78)*(E8 45 8 ea s.ev.length ec (s.ev.flatMap Dc)*(Od (some m) (λt'=>if t' = t then none else s.cu t')*(pt X.NB (oQ (s.nx.map iv).toArray 3)*(CF X.Q X.M X.f X.ins X.Ts s.m*(pt CB (oQ (CJ a).toArray 43)*R)))))):=A9.ac H7 (by ac_rfl)
 refine C4 H8.at rfl ?_
 refine sb ?_
 have OC:=(H8.drop.drop.drop.drop.drop).at
 refine C4 OC rfl (C4 OC rfl (C4 OC rfl ?_))
 refine ⟨E9 (F6 H8.at rfl),?_⟩
 refine Tj9 (e:=⟨t,true,DY,a⟩) H8 hb λh36 ea' ec' H9=>?_
 have e:s.respond t a = { s with cu:=λt'=>if t' = t then none else s.cu t',ev:=s.ev ++ [⟨t,true,DY,a⟩] }:=by
  unfold M6.respond
  rw [hcu]
  show (if Lq (c3 c) (c3 a) then _ else s)=_
  rw [A8 hfit]
 rw [e] at k
 have H10:A9 h36 (Kt X { s with cu:=λt'=>if t' = t then none else s.cu t',ev:=s.ev ++ [⟨t,true,DY,a⟩] }*(pt CB (oQ (CJ a).toArray 43)*R)):=U3.2 ⟨ea',ec',some m,hl,H9⟩
 exact k 0 h36 H10.drop2
end
end
section
set_option maxHeartbeats 1000000
open Mod
structure SV2 (Inv:Nat->Mac->Prop) (calls:List (List Cl)) (j:Nat) (s:M6):Prop where
 inv:Inv j s.m
 th:s.m.th.length=calls.length
 nx:∀k,k < calls.length->0<=s.nx.getD k 0/\s.nx.getD k 0<=(calls.getD k []).length
 ev:s.ev.length<=2*j
 gap:0<=s.gap/\s.gap<=j
 idle:0<=s.idle/\s.idle<=j
 most:0<=s.most/\s.most<=j
structure De (calls:List (List Cl)):Prop where
 n:1<=calls.length/\calls.length<=6
 cl:∀l ∈ calls,l.length<=1000/\∀c ∈ l,DC c=true/\V c.key/\V c.val
theorem SJ {c:Cl} (h:DC c=true):0<=c.op/\c.op<=2:=by
 unfold DC at h
 simp only [Ku,EA,beq_iff_eq] at h
 omega
theorem S94 (s:M6) (k:Int) (c:Cl):(s.invoke k c).m=s.m/\(s.invoke k c).nx=s.nx/\(s.invoke k c).ev.length<=s.ev.length+1/\(s.invoke k c).gap=s.gap/\(s.invoke k c).idle=s.idle/\(s.invoke k c).most=s.most:=by
 unfold M6.invoke
 split
 ·exact ⟨rfl,rfl,by simp,rfl,rfl,rfl⟩
 ·exact ⟨rfl,rfl,by omega,rfl,rfl,rfl⟩
theorem S95 (s:M6) (k:Int) (a:Cl):(s.respond k a).m=s.m/\(s.respond k a).nx=s.nx/\(s.respond k a).ev.length<=s.ev.length+1/\(s.respond k a).gap=s.gap/\(s.respond k a).idle=s.idle/\(s.respond k a).most=s.most:=by
 unfold M6.respond
 split
 ·split
  ·exact ⟨rfl,rfl,by simp,rfl,rfl,rfl⟩
  ·exact ⟨rfl,rfl,by omega,rfl,rfl,rfl⟩
 ·exact ⟨rfl,rfl,by omega,rfl,rfl,rfl⟩
theorem S96 (j:Nat) (n:Int) (h:0<=n/\n<=j) (hj:j < 100000):G2 (n+1)=n+1:=by unfold G2;omega
section
variable {K:kQ} {h:A2} {X:RX} {s:M6} {R:Hp} {calls:List (List Cl)} {C2:List Int}
theorem SV3 (H:A9 h (Kt X s*R)) {k:Nat} (hk:k < X.n):A3 h ⟨X.NB,k,none⟩=some (iQ (s.nx.getD k 0)):=by
 obtain ⟨ea,ec,mo,hl,H1⟩:=U3.1 H
 have hk2:k < s.nx.length:=by omega
 rw [E5 (H1.drop.drop.drop).at]
 simp [hk2,iv]
theorem SV4 (H:A9 h (Kt X s*R)) {k:Nat} (hk:k < X.n) {v:Int} {F:A2->Prop} (kk:∀h',A9 h' (Kt X { s with nx:=s.nx.set k v }*R)->F h'):C7 h ⟨X.NB,k,none⟩ (iQ v) F:=by
 obtain ⟨ea,ec,mo,hl,H1⟩:=U3.1 H
 have hk2:k < s.nx.length:=by omega
 rw [SK2] at H1
 refine Dv (row:=s.nx.map iv) (i:=k) H1 (by simpa using hk2) trivial λh' H'=>kk h' ?_
 have e:(s.nx.map iv).set k (iQ v)=(s.nx.set k v).map iv:=by rw [Ra];try rfl
 rw [e,<- SK2] at H'
 exact U3.2 ⟨ea,ec,mo,by simp [hl],H'⟩
theorem Kl (H:A9 h (Kt X s*R)):∃ea en ec mo,h[X.RB]? = some (oQ (rnC X s.idle s.most s.gap ea en ec mo).toArray 78):=by
 obtain ⟨ea,ec,mo,hl,H1⟩:=U3.1 H
 exact ⟨ea,_,ec,mo,H1.at⟩
theorem SK (H:A9 h (Kt X s*R)):∃Q':Hp,A9 h (CF X.Q X.M X.f X.ins X.Ts s.m*(Q' * R))/\∀h' m' P,A9 h' (CF X.Q X.M X.f X.ins X.Ts m' * (Q' * P))->A9 h' (Kt X { s with m:=m' }*P):=by
 obtain ⟨ea,ec,mo,hl,H1⟩:=U3.1 H
 refine ⟨pt X.RB (oQ (rnC X s.idle s.most s.gap ea s.ev.length ec mo).toArray 78)*(E8 45 8 ea s.ev.length ec (s.ev.flatMap Dc)*(Od mo s.cu*pt X.NB (oQ (s.nx.map iv).toArray 3))),A9.ac H1 (by ac_rfl),λh' m' P H'=>?_⟩
 exact U3.2 ⟨ea,ec,mo,hl,A9.ac H' (by ac_rfl)⟩
theorem SL (C:De calls) (hn:X.n=calls.length) (hins:0<=X.ins/\X.ins<=100) (H:A9 h (Kt X s*R)) (hS:∀h' P,A9 h' (P*R)->VG h' X.ca X.cl X.pa X.pl calls C2) {k:Nat} (hk:k < calls.length) (hth:s.m.th.length=calls.length) (he:(F7 s.m k).fr = []) (hb:s.ev.length<=900000)
  (hnx:0<=s.nx.getD k 0/\s.nx.getD k 0<=(calls.getD k []).length)
  (k0:s.begin X.ins calls k=none->∀h',A9 h' (Kt X s*R)->K (dQ false) h') (k1:∀s1,s.begin X.ins calls k=some s1->∀h',A9 h' (Kt X s1*R)->K (dQ true) h') :
  A4 prog 67 #[mP X.RB,iQ k] h K:=by
 refine call67 ?_
 unfold F67 g67 cf bd lS lP lI nP M0 dw3
 obtain ⟨ea,en,ec,mo,O⟩:=Kl H
 have scr:∀ {h':A2} {P:Hp},A9 h' (P*R)->VG h' X.ca X.cl X.pa X.pl calls C2:=λH'=>hS _ _ H'
 have F0:=scr H
 have hcs:=F0.cs
 have cN:=SV3 H (k:=k) (by omega)
 obtain ⟨ra,rc,⟨ad,ea2,hcr⟩,hrow⟩:=F0.row k hk
 refine sb ?_
 refine C4 O rfl ?_
 refine sb ?_
 refine ⟨by omega,by omega,?_⟩
 refine C6 cN ?_
 refine sb ?_
 refine C4 O rfl ?_
 rw [ea2]
 refine sb ?_
 refine ⟨by omega,by omega,?_⟩
 refine C6 hcr ?_
 refine sb ?_
 apply A6<;>intro c1
 ·have e:s.begin X.ins calls k=none:=by
   unfold M6.begin
   rw [A8 (by omega)]
  exact k0 e h H
 refine C4 O rfl ?_
 rw [ea2]
 refine sb ?_
 refine ⟨by omega,by omega,?_⟩
 refine C6 hcr ?_
 refine sb ?_
 refine C4 O rfl ?_
 refine sb ?_
 refine ⟨by omega,by omega,?_⟩
 refine C6 cN ?_
 refine sb ?_
 refine ⟨by omega,by omega,?_⟩
 generalize hq:(s.nx.getD k 0).toNat=q at *
 have hqlt:q < (calls.getD k []).length:=by omega
 have hmem:calls.getD k [] ∈ calls:=by
  have:calls.getD k []=calls[k]:=by rw [An,X7 hk];rfl
  rw [this];exact CD hk
 have hcq:(calls.getD k []).getD q DY=(calls.getD k [])[q]:=by rw [An,X7 hqlt];rfl
 have hcB:=(C.cl _ hmem).2 _ (CD hqlt)
 have hlen:=(C.cl _ hmem).1
 have g0:=N0 BK hqlt (j:=0) (by omega)
 have g1:=N0 BK hqlt (j:=1) (by omega)
 have g2:=N0 BK hqlt (j:=2) (by omega)
 rw [<- hcq] at g0 g1 g2 hcB
 have hbeg:s.begin X.ins calls k=some (M6.invoke { s with m:=s.m.setTh (s.m.th.set k ((F7 s.m k).push (X.ins+((calls.getD k []).getD q DY).op) [((calls.getD k []).getD q DY).key,((calls.getD k []).getD q DY).val])),nx:=s.nx.set k (s.nx.getD k 0+1) } k ((calls.getD k []).getD q DY)):=by
  unfold M6.begin
  rw [hq,A7 (by omega)]
 generalize (calls.getD k []).getD q DY=cq at *
 obtain ⟨ad3,ea3,q0⟩:=hrow (q*3+0) (.int .i64 cq.op) g0
 subst ea3
 obtain ⟨_,ea4,q1⟩:=hrow (q*3+1) (.int .u32 cq.key) g1
 cases ea4
 obtain ⟨_,ea4,q2⟩:=hrow (q*3+2) (.int .u32 cq.val) g2
 cases ea4
 have aa:∀i,(ad3.add (q*3)).add i=ad3.add (q*3+i):=λi=>Z7 _ _ _
 rw [Lc] at q0
 refine se1 aa ?_
 refine C6 q0 (C6 q1 (C6 q2 ?_))
 repeat (first | refine ⟨E9 q0,?_⟩ | refine ⟨E9 q1,?_⟩ | refine ⟨E9 q2,?_⟩ | refine ⟨E9 cN,?_⟩ | refine ⟨E9 hcr,?_⟩ | refine ⟨E9 (F6 O rfl),?_⟩ | (rw [<- ea2];refine ⟨E9 (F6 O rfl),?_⟩))
 have H1:=H.push (oQ #[iQ 0,.int .u32 0,.int .u32 0] 41)
 generalize h.push (oQ #[iQ 0,.int .u32 0,.int .u32 0] 41)=h1 at *
 generalize h.size=LB at *
 refine F5 (vs:=CJ cq) H1.at rfl (by simp [CJ,J0]) λh2 w=>?_
 have H2:=H1.wr w.new w.old
 rw [D8] at H2
 clear H1 w
 obtain ⟨ea5,en5,ec5,mo5,O2⟩:=Kl H2
 have cN2:=SV3 H2 (k:=k) (by omega)
 refine C4 O2 rfl ?_
 refine sb ?_
 refine ⟨by omega,by omega,?_⟩
 refine C6 cN2 ?_
 refine sb ?_
 refine ⟨by omega,by omega,?_⟩
 have hs1:G2 (s.nx.getD k 0+1)=s.nx.getD k 0+1:=by unfold G2;omega
 rw [hs1]
 refine SV4 H2 (by omega) λh3 H3=>?_
 obtain ⟨ea6,en6,ec6,mo6,O3⟩:=Kl H3
 refine C4 O3 rfl ?_
 refine sb ?_
 have L3:=H3.at2
 refine C4 L3 rfl (C4 L3 rfl (C4 L3 rfl ?_))
 obtain ⟨Q',H4,re⟩:=SK H3
 obtain ⟨hok,hkey,hval⟩:=hcB
 refine A0 (Kh H4 (i:=k) (c:=cq) hins ⟨hkey,hval⟩ (λhh=>by
  have hh2:(k:Int) < 0\/(s.m.th.length:Int)<=k:=hh
  omega) (λ_ hh=>by rw [hok] at hh;cases hh) (λ_ _ hh=>absurd he (by rw [X5] at hh;exact hh)) λ_ _ _ h5 H5=>?_)
 rw [X5] at H5
 have H6:=re _ _ _ H5
 refine sb ?_
 have L6:=H6.at2
 refine C4 L6 rfl (C4 L6 rfl (C4 L6 rfl ?_))
 have hC:=C.n
 refine A0 (Pv H6 (by omega) hok (by show s.ev.length<=1000000;omega) λr h7 H7=>?_)
 refine sb ?_
 exact k1 _ hbeg h7 H7.drop2
variable {d:B9->B9} {W:B9->Prop} {Inv:Nat->Mac->Prop}
def Tk0 (d:B9->B9) (X:RX) (R:Hp) (calls:List (List Cl)) (Inv:Nat->Mac->Prop) (j k:Nat) (s:M6) (vs:List vQ) (h':A2):Prop:=(vs = [dQ true]/\s.pick d X.ins calls k = { s with idle:=s.idle+1 }/\A9 h' (Kt X s*R))\/(∃s1:M6,vs = [dQ false]/\s.pick d X.ins calls k=s1.go d k/\Inv j s1.m/\s1.m.th.length=calls.length/\(∀k,k < calls.length->0<=s1.nx.getD k 0/\s1.nx.getD k 0<=(calls.getD k []).length)/\s1.ev.length<=2*j+1/\s1.gap=s.gap/\s1.idle=s.idle/\s1.most=s.most/\(F7 s1.m k).fr≠[]/\A9 h' (Kt X s1*R))
theorem WK (D:DoC X.f d W) (G:NO d W X.ins Inv) (C:De calls) (hn:X.n=calls.length) (hins:0<=X.ins/\X.ins<=100) (H:A9 h (Kt X s*R)) (hS:∀h' P,A9 h' (P*R)->VG h' X.ca X.cl X.pa X.pl calls C2) {j k:Nat} (hk:k < calls.length) (hj:j < 100000) (O:SV2 Inv calls j s)
  (kk:∀h',SV2 Inv calls (j+1) (s.pick d X.ins calls k)->A9 h' (Kt X (s.pick d X.ins calls k)*R)->K tQ h') :
  A4 prog 34 #[mP X.RB,iQ k] h K:=by
 refine call34 ?_
 unfold F34 cf lP lI nP de3 M0
 have hk2:k < s.m.th.length:=by rw [O.th];exact hk
 have hC:=C.n
 refine ⟨Tk0 d X R calls Inv j k s,?_,?_⟩
 ·obtain ⟨ea,en,ec,mo,O1⟩:=Kl H
  refine sb ?_
  refine C4 O1 rfl ?_
  refine sb ?_
  obtain ⟨Q',H2,re⟩:=SK H
  refine A0 (Fp H2 hk2 ?_)
  refine sb ?_
  apply D1<;>intro hb
  ·have he:(F7 s.m k).fr = []:=List.isEmpty_iff.1 (by simpa using hb)
   refine A0 (SL C hn hins H hS hk O.th he (by have:=O.ev;omega) (O.nx k hk) (λe h1 H1=>?_) λs1 e h1 H1=>?_)
   ·refine sb ?_
    refine .inl ⟨rfl,?_,H1⟩
    unfold M6.pick
    rw [X5,A8 he,e]
   ·refine sb ?_
    refine .inr ⟨s1,rfl,?_,?_⟩
    ·unfold M6.pick
     rw [X5,A8 he,e]
    ·unfold M6.begin at e
     split at e
     ·cases e
     rename_i hlt
     have e:=Option.some.inj e
     have hmem:calls.getD k [] ∈ calls:=by
      have:calls.getD k []=calls[k]:=by rw [An,X7 hk];rfl
      rw [this];exact CD hk
     have hqlt:(s.nx.getD k 0).toNat < (calls.getD k []).length:=by omega
     have hcq:(calls.getD k []).getD (s.nx.getD k 0).toNat DY=(calls.getD k [])[(s.nx.getD k 0).toNat]:=by rw [An,X7 hqlt];rfl
     have hcB:=(C.cl _ hmem).2 _ (CD hqlt)
     rw [<- hcq] at hcB
     generalize (calls.getD k []).getD (s.nx.getD k 0).toNat DY=cq at *
     obtain ⟨i1,i2,i3,i4,i5,i6⟩:=S94 { s with m:=s.m.setTh (s.m.th.set k ((F7 s.m k).push (X.ins+cq.op) [cq.key,cq.val])),nx:=s.nx.set k (s.nx.getD k 0+1) } k cq
     rw [e] at i1 i2 i3 i4 i5 i6
     have hthr:F7 s1.m k=(F7 s.m k).push (X.ins+cq.op) [cq.key,cq.val]:=by rw [i1];exact IA hk2
     refine ⟨?_,?_,?_,?_,i4,i5,i6,?_,H1⟩
     ·rw [i1]
      exact G.push j s.m k (F7 s.m k) cq O.inv (W9 hk2) he (SJ hcB.1) hcB.2.1 hcB.2.2
     ·rw [i1]
      show (s.m.th.set k _).length=_
      rw [Ca];exact O.th
     ·intro k' hk'
      rw [i2]
      have:=O.nx k' hk'
      show 0<=(s.nx.set k _).getD k' 0/\(s.nx.set k _).getD k' 0<=_
      by_cases ek:k=k'
      ·subst ek
       rw [An,OD]
       split
       ·split
        ·simp only [Option.getD_some];omega
        ·simp only [Option.getD_none];omega
       ·rename_i hh;exact absurd rfl hh
      ·rw [An,SE0 ek,<- An]
       exact this
     ·have:=O.ev
      have i3:s1.ev.length<=s.ev.length+1:=i3
      omega
     ·rw [hthr];unfold Mod.Thr.push;simp
  ·have hne:(F7 s.m k).fr≠[]:=λe=>by rw [e] at hb;cases hb
   refine .inr ⟨s,rfl,?_,O.inv,O.th,O.nx,by have:=O.ev;omega,rfl,rfl,rfl,hne,H⟩
   unfold M6.pick
   rw [X5,A7 hne]
 rintro v10 g11 h12 (⟨e,ep,H1⟩ | ⟨s1,e,ep,hI1,ht1,hn1,hv1,hg1,hi1,hm1,hne1,H1⟩)
 ·cases e
  refine sb ?_
  obtain ⟨ea,ec,mo,hl,H2⟩:=U3.1 H1
  refine C4 H2.at rfl ?_
  refine sb ?_
  rw [S96 j s.idle O.idle hj]
  refine H2.st (i:=2) rfl trivial λh18 H3=>?_
  rw [ep] at kk
  refine kk h18 ⟨G.mono _ _ O.inv,O.th,O.nx,by have:=O.ev;show s.ev.length<=_;omega,by have:=O.gap;show 0<=s.gap/\s.gap<=_;omega,by have:=O.idle;show 0<=s.idle+1/\s.idle+1<=_;omega,by have:=O.most;show 0<=s.most/\s.most<=_;omega⟩ (U3.2 ⟨ea,ec,mo,hl,H3⟩)
 ·cases e
  refine sb ?_
  obtain ⟨ea,en,ec,mo,O1⟩:=Kl H1
  refine C4 O1 rfl ?_
  refine sb ?_
  obtain ⟨Q',H2,re⟩:=SK H1
  have hk3:k < s1.m.th.length:=by omega
  obtain ⟨nn,z,hz,hs,hid,_,hI2⟩:=G.step j s1.m k _ hI1 hj (W9 hk3) hne1
  have hzs:R8 d ⟨s1.m.quiet,F7 s1.m k,k⟩=z:=FT hz
  have hgo:s1.go d k=if z.t.fr = [] then { M6.respond { s1 with m:=z.m.setTh (s1.m.th.set k z.t) } k (FU z.t) with gap:=0 } else { s1 with m:=z.m.setTh (s1.m.th.set k z.t),gap:=s1.gap+1,most:=max s1.most (s1.gap+1) }:=by
   unfold M6.go
   rw [hzs]
  have ht2:(z.m.setTh (s1.m.th.set k z.t)).th.length=calls.length:=by
   show (s1.m.th.set k z.t).length=_
   rw [Ca];exact ht1
  have og:=O.gap
  have oi:=O.idle
  have om:=O.most
  rw [ep,hgo] at kk
  refine A0 (LY D H2 (n:=nn) (z:=z) hk3 hne1 hz hs hid (λhne2 h3 H3=>?_) λhnil h3 H3=>?_)
  ·rw [A7 hne2] at kk
   have H4:=re _ _ _ H3
   generalize z.m.setTh (s1.m.th.set k z.t)=m2 at *
   have H5:=H4.push (oQ #[iQ 0,.int .u32 0,.int .u32 0] 43)
   refine sb ?_
   refine Bk ?_
   refine sb ?_
   refine U9 rfl (D5 rfl (D5 rfl (D5 rfl ?_)))
   refine Bl ?_
   refine sb ?_
   generalize h3.push (oQ #[iQ 0,.int .u32 0,.int .u32 0] 43)=h4 at *
   generalize h3.size=AB at *
   refine F5 (vs:=[iQ 0,.int .u32 0,.int .u32 0]) H5.at rfl (by simp [J0]) λh5 w=>?_
   have H6:=(H5.wr w.new w.old).drop
   obtain ⟨ea,ec,mo,hl,H7⟩:=U3.1 H6
   refine C4 H7.at rfl ?_
   refine sb ?_
   rw [show G2 (s1.gap+1)=s1.gap+1 from S96 j _ (by rw [hg1];exact og) hj]
   refine H7.st (i:=19) rfl trivial λh6 H8=>?_
   refine C4 H8.at rfl ?_
   refine sb ?_
   refine C4 H8.at rfl ?_
   refine sb ?_
   rw [AV,JY]
   refine H8.st (i:=4) rfl trivial λh7 H9=>?_
   refine kk h7 ⟨hI2,ht2,hn1,by show s1.ev.length<=_;omega,by show 0<=s1.gap+1/\s1.gap+1<=_;omega,by show 0<=s1.idle/\s1.idle<=_;omega,by show 0<=max s1.most (s1.gap+1)/\max s1.most (s1.gap+1)<=_;omega⟩ (U3.2 ⟨ea,ec,mo,hl,H9⟩)
  ·rw [A8 hnil] at kk
   have H4:=re _ _ _ H3
   generalize z.m.setTh (s1.m.th.set k z.t)=m2 at *
   have H5:=H4.push (oQ #[iQ 0,.int .u32 0,.int .u32 0] 43)
   refine sb ?_
   refine Bk ?_
   refine sb ?_
   refine U9 rfl (D5 rfl (D5 rfl (D5 rfl ?_)))
   refine Bl ?_
   refine sb ?_
   generalize h3.push (oQ #[iQ 0,.int .u32 0,.int .u32 0] 43)=h4 at *
   generalize h3.size=AB at *
   refine F5 (vs:=[iQ (FU z.t).op,.int .u32 (FU z.t).key,.int .u32 (FU z.t).val]) H5.at rfl (by simp [J0]) λh5 w=>?_
   have H6:=H5.wr w.new w.old
   refine C4 H6.at rfl (C4 H6.at rfl (C4 H6.at rfl ?_))
   refine A0 (Of H6.drop (by omega) (by show s1.ev.length<=1000000;omega) λr h7 H7=>?_)
   refine sb ?_
   obtain ⟨r1,r2,r3,r4,r5,r6⟩:=S95 { s1 with m:=m2 } k (FU z.t)
   generalize M6.respond { s1 with m:=m2 } k (FU z.t)=s2 at *
   obtain ⟨ea,ec,mo,hl,H8⟩:=U3.1 H7
   refine H8.st (i:=19) rfl trivial λh8 H9=>?_
   have r3:s2.ev.length<=s1.ev.length+1:=r3
   have r5:s2.idle=s1.idle:=r5
   have r6:s2.most=s1.most:=r6
   refine kk h8 ⟨by show Inv _ s2.m;rw [r1];exact hI2,by show s2.m.th.length=_;rw [r1];exact ht2,by show ∀k,k < calls.length->0<=s2.nx.getD k 0/\s2.nx.getD k 0<=_;rw [r2];exact hn1,by show s2.ev.length<=_;omega,⟨by show (0:Int)<=0;omega,by show (0:Int)<=_;omega⟩,by show 0<=s2.idle/\s2.idle<=_;omega,by show 0<=s2.most/\s2.most<=_;omega⟩ (U3.2 ⟨ea,ec,mo,hl,H9⟩)
end
end
section
set_option maxHeartbeats 1000000
open Mod
section
variable {d:B9->B9} {Q:Mod.Cf->N6->Prop} {W:B9->Prop} {ins:Int} {c:Mod.Cf} {calls:List (List Cl)} {s:M6} {Inv:Nat->Mac->Prop}
theorem Tg1 {l:List Int} {k:Nat} (hk:k < calls.length) (hq:(l.getD k 0).toNat < (calls.getD k []).length) (hn:∀k,k < calls.length->0<=l.getD k 0/\l.getD k 0<=(calls.getD k []).length):∀k',k' < calls.length->0<=(l.set k (l.getD k 0+1)).getD k' 0/\(l.set k (l.getD k 0+1)).getD k' 0<=(calls.getD k' []).length:=by
 intro k' hk'
 have:=hn k' hk'
 by_cases ek:k=k'
 ·subst ek
  rw [An (l:=l.set k _),OD]
  split
  ·split
   ·simp only [Option.getD_some];omega
   ·simp only [Option.getD_none];omega
  ·rename_i hh;exact absurd rfl hh
 ·rw [An,SE0 ek,<- An]
  exact this
theorem SA0 {m:Mac} {C2:List Int} {n:Nat} (hn:n < C2.length):Pu d ins calls m (C2.take (n+1))=(Pu d ins calls m (C2.take n)).pick d ins calls C2[n]:=by
 unfold Pu
 rw [Ab hn,Td]
 rfl
end
end
section
set_option maxHeartbeats 1000000
open Mod
section
variable {K:kQ} {h:A2} {X:RX} {s:M6} {R:Hp} {calls:List (List Cl)} {C2 draws:List Int}
theorem IS {q:Nat} {m:Mm} (H:A9 h (R7 q m*R)) (k:K (iQ m.st) h):A4 prog 33 #[mP q] h K:=by
 refine call33 ?_
 unfold F33 lI nP
 obtain ⟨b,la,lc,MB,H1⟩:=Ar.1 H
 refine sb ?_
 refine H1.ld rfl ?_
 refine sb ?_
 exact k
theorem Js {Q M f:Nat} {ins:Int} {Ts:List Nat} {m:Mac} (H:A9 h (CF Q M f ins Ts m*R)) (k:∀q R',A9 h (R7 q m.mm*R')->K (mP q) h):A4 prog 32 #[mP M] h K:=by
 obtain ⟨a,c,hl,H1⟩:=W0.1 (Aa.1 H)
 exact Nz H1 λq R' HM _=>k q R' HM
theorem SM {Q M f:Nat} {ins:Int} {Ts:List Nat} {m:Mac} (H:A9 h (CF Q M f ins Ts m*R)) (k:∀h',A9 h' (CF Q M f ins Ts m*R)->K (dQ m.fault) h'):A4 prog 36 #[mP M] h K:=by
 obtain ⟨a,c,hl,H1⟩:=W0.1 (Aa.1 H)
 exact YG H1 λh' H2=>k h' (Aa.2 (W0.2 ⟨a,c,hl,H2⟩))
theorem A9.own_empty {h:A2} {R:Hp} (H:A9 h R) (elem:TypeId) (sz:Nat):A9 (h.push (oQ #[] elem)) (E8 elem sz (some (aQ h.size)) 0 0 []*R):=by
 have o1:G9 h.size h (h.push (oQ #[] elem)):=(G9.refl _ _).push _ (G0 _)
 have ow:CS (h.push (oQ #[] elem)) elem sz (some (aQ h.size)) 0 0 []:=⟨by simp,G0 _,.inr ⟨h.size,#[],rfl,by simp,by simp,by simp⟩⟩
 refine H.mk_new o1 (λb hb=>?_) ow.nd λh'' e=>ow.congr e
 obtain ⟨ad,e,rfl⟩:=hb
 cases e
 exact ⟨G0 _,by simp⟩
theorem SN {a:rQ} {c:Nat} {ev:List Ix} (H:A9 h (E8 45 8 a ev.length c (ev.flatMap Dc)*R)) (hb:ev.length<=1000000)
  (k:∀h' a' c',A9 h' (E8 45 8 a' ev.length c' (ev.flatMap Dc)*(E8 45 8 a ev.length c (ev.flatMap Dc)*R))->K (lQ a' ev.length c') h') :
  A4 prog 70 #[lQ a ev.length c] h K:=by
 refine call70 ?_
 unfold F70
 apply D1<;>intro hh
 ·have ea:a=none:=by cases a with | none=>rfl | some x=>cases hh
  subst ea
  have hl0:ev.length=0:=by
   obtain ⟨h1,h2,h3⟩:=H.own
   rcases h3 with ⟨_,hc⟩ | ⟨b,row,e,_⟩
   ·omega
   ·cases e
  have e0:ev = []:=Xx.1 hl0
  subst e0
  exact k h none 0 (H.own_new 45 8)
 ·have H1:=H.own_empty 45 8
  have hs:=H1.drop.own.sees
  generalize h.push (oQ #[] 45)=h1 at *
  generalize h.size=N at *
  rw [<- Fk] at H1
  refine H1.app Sh7 Qu Sh8 (by rw [Fk];rfl) hs (n:=ev.length) (by rw [Fk,Ch Sc]) (λy hy=>?_) (by rw [Mz];omega) (by rw [Mz];omega) λa' c' h' H3=>?_
  ·obtain ⟨x,_,hx⟩:=List.mem_flatMap.1 hy
   simp only [Dc,ED,GF,or_false] at hx
   rcases hx with rfl | rfl | rfl | rfl | rfl | rfl | rfl | rfl <;> trivial
  ·rw [Fk,J6,OG] at H3
   rw [J6]
   refine sb ?_
   exact k h' a' c' H3
abbrev rnE (Q NB n:Nat) (c:Mod.Cf) (ca:rQ) (cl cc:Nat) (pa:rQ) (pl pc:Nat) (da:rQ) (dl dc:Nat) (v0:vQ) (st idle:Int) (fl:Bool) (most:Int) (ea:rQ) (en ec:Nat) (mo:Option Nat) (gap:Int):List vQ:=[v0,iQ st,iQ idle,dQ fl,iQ most,mP Q,iQ c.algo,iQ c.threads,iQ c.nodes,iQ c.level,iQ c.batch,iQ c.probes,iQ c.scan,lQ ca cl cc,lQ pa pl pc,lQ da dl dc,lQ (some (aQ NB)) n n,lQ ea en ec,.map mo,iQ gap]
theorem A9.map_new {h:A2} {R:Hp} (H:A9 h R):A9 h (Od none (λ_=>none)*R):=by
 refine H.mk_new (G9.refl _ _) (λb hb=>by cases hb) (λb o hb=>by cases hb) λh'' _ t=>rfl
theorem WL {n:Nat} {t:Int} (ht:(n:Int)=t) (hn:n<=4096) (k:K (lQ (some (aQ h.size)) n n) (h.push (oQ ((List.replicate n (0:Int)).map iv).toArray 3))):Y2 prog 3 t t h K:=by
 subst ht
 exact S35 hn k
variable {d:B9->B9} {W:B9->Prop} {Inv:Nat->Mac->Prop}
theorem IT {c:Mod.Cf} {ca pa da:rQ} {cl cc pl pc dl dc:Nat} (H:A9 h R) (hS:∀h' P,A9 h' (P*R)->FV h' ca cl pa pl da dl calls C2 draws) (hR:Sq calls C2 draws)
  (hn:calls.flatten.length < 2 ^ 60) (hn2:calls.length < 2 ^ 60) (hn3:C2.length < 2 ^ 60) (hV:∀l ∈ calls,l.length < 2 ^ 60)
  (D:DoC (DD c.algo) d W) (G:NO d W (S1 c.algo) Inv) (hI:GK c=true->Inv 0 (L1 c draws true))
  (k0:IH c calls C2 draws=false->∀h',A9 h' R->K (.tuple #[.agg #[lQ none 0 0,iQ 0,iQ 0,dQ false,iQ 0],pQ none,iQ 1]) h')
  (k1:IH c calls C2 draws=true->∀h' ea ec Q M Ts s,s=Pu d (S1 c.algo) calls (L1 c draws true) C2->SV2 Inv calls C2.length s->A9 h' (E8 45 8 ea s.ev.length ec (s.ev.flatMap Dc)*(CF Q M (DD c.algo) (S1 c.algo) Ts s.m*R)) ->
   K (.tuple #[.agg #[lQ ea s.ev.length ec,iQ (G2 (s.m.mm.st - (L1 c draws true).mm.st)),iQ s.idle,dQ s.m.fault,iQ s.most],mP Q,iQ 0]) h') :
  A4 prog 12 #[.agg #[iQ c.algo,iQ c.threads,iQ c.nodes,iQ c.level,iQ c.batch,iQ c.probes,iQ c.scan,lQ ca cl cc,lQ pa pl pc,lQ da dl dc]] h K:=by
 refine call12 ?_
 unfold F12 g12 cf ce bd lS lI da5 da7 dl5 Du dw5
 have H1:=H.push (oQ (N1 c ca cl cc pa pl pc da dl dc).toArray 28)
 rw [show h.push (oQ #[iQ c.algo,iQ c.threads,iQ c.nodes,iQ c.level,iQ c.batch,iQ c.probes,iQ c.scan,lQ ca cl cc,lQ pa pl pc,lQ da dl dc] 28)=h.push (oQ (N1 c ca cl cc pa pl pc da dl dc).toArray 28) from rfl]
 generalize h.push (oQ (N1 c ca cl cc pa pl pc da dl dc).toArray 28)=h1 at *
 generalize h.size=SB at *
 have I:=hS h1 _ H1
 have ecl:=I.f.cs
 have epl:=I.f.ps
 have edl:=I.ds
 subst ecl epl edl
 have H2:=H1.push (oQ #[lQ none 0 0,iQ 0,iQ 0,dQ false,iQ 0] 34)
 generalize h1.push (oQ #[lQ none 0 0,iQ 0,iQ 0,dQ false,iQ 0] 34)=h2 at *
 generalize h1.size=ZB at *
 have O:=H2.at2
 refine C4 O rfl (C4 O rfl (C4 O rfl (C4 O rfl (C4 O rfl (C4 O rfl (C4 O rfl (C4 O rfl (C4 O rfl (C4 O rfl ?_)))))))))
 have hS2:∀h' P,A9 h' (P*(pt ZB (oQ #[lQ none 0 0,iQ 0,iQ 0,dQ false,iQ 0] 34)*(pt SB (oQ (N1 c ca calls.length cc pa C2.length pc da draws.length dc).toArray 28)*R)))->FV h' ca calls.length pa C2.length da draws.length calls C2 draws:=λh' P HP=>hS h' Mt (by rw [T8];exact HP.drop.drop.drop)
 refine A0 (Kj (c:=c) H2 hS2 hn hn2 hn3 hV λh3 H3=>?_)
 refine sb ?_
 apply D1<;>intro hh
 ·have e:IH c calls C2 draws=false:=by simpa using hh
  refine F5 (vs:=[lQ none 0 0,iQ 0,iQ 0,dQ false,iQ 0]) H3.at rfl (by simp [J0]) λh4 w=>?_
  have H4:=H3.wr w.new w.old
  refine C4 H4.at rfl (C4 H4.at rfl (C4 H4.at rfl (C4 H4.at rfl (C4 H4.at rfl ?_))))
  exact k0 e h4 H4.drop.drop
 have hsc:IH c calls C2 draws=true:=by simpa using hh
 have hsc2:=hsc
 unfold IH at hsc2
 simp only [EA,beq_iff_eq,EK,MG] at hsc2
 obtain ⟨hok,hct,hf48,hp6,hd4,hcl,hpk⟩:=hsc2
 have B:=Cy hok
 have hthr:1<=c.threads/\c.threads<=6:=B.th
 have C:De calls:=⟨by omega,λl hl=>⟨by
  have:l.length<=calls.flatten.length:=by
   obtain ⟨i,hi,rfl⟩:=Ta7 hl
   have e1:=SG hi
   have e2:=SU8 (L:=calls) (i+1)
   omega
  omega,λx hx=>⟨hcl l hl x hx,hR.cl l hl x hx⟩⟩⟩
 have O:=H3.at2
 refine C4 O rfl (C4 O rfl (C4 O rfl (C4 O rfl (C4 O rfl (C4 O rfl (C4 O rfl (C4 O rfl ?_)))))))
 refine sb ?_
 refine A0 (Oa (c:=c) (bs:=draws) H3 (λh' P HP=>(hS2 h' P HP).dr) (by omega) hR.dr (λhx=>by rw [hok] at hx;cases hx) λ_ h4 Q M Ts H4=>?_)
 have hI0:=hI hok
 have hm0:(L1 c draws true).th.length=calls.length:=by
  show (List.replicate c.threads.toNat (CT c)).length=_
  rw [SE2];omega
 generalize L1 c draws true=m0 at *
 refine sb ?_
 refine Bk ?_
 refine sb ?_
 refine Bl ?_
 refine sb ?_
 refine D1 (λhx=>by simp at hx) (λ_=>?_)
 have O:=H4.at3
 refine C4 O rfl (C4 O rfl (C4 O rfl (C4 O rfl (C4 O rfl (C4 O rfl (C4 O rfl (C4 O rfl (C4 O rfl (C4 O rfl (C4 O rfl ?_))))))))))
 refine sb ?_
 refine WL hct (by omega) ?_
 refine sb ?_
 have H5:=H4.push (oQ ((List.replicate calls.length (0:Int)).map iv).toArray 3)
 generalize h4.push (oQ ((List.replicate calls.length (0:Int)).map iv).toArray 3)=h5 at *
 generalize h4.size=NB at *
 have O5:=(H5.drop.drop.drop).at
 have H6:=H5.push (oQ #[lQ none 0 0,iQ 0,iQ 0,dQ false,iQ 0,mP Q,iQ c.algo,iQ c.threads,iQ c.nodes,iQ c.level,iQ c.batch,iQ c.probes,iQ c.scan,lQ ca calls.length cc,lQ pa C2.length pc,lQ da draws.length dc,lQ (some (aQ NB)) calls.length calls.length,lQ none 0 0,.map none,iQ 0] 78)
 repeat (first | refine ⟨E9 (F6 O5 rfl),?_⟩ | refine ⟨F6 O5 rfl,?_⟩)
 generalize h5.push (oQ #[lQ none 0 0,iQ 0,iQ 0,dQ false,iQ 0,mP Q,iQ c.algo,iQ c.threads,iQ c.nodes,iQ c.level,iQ c.batch,iQ c.probes,iQ c.scan,lQ ca calls.length cc,lQ pa C2.length pc,lQ da draws.length dc,lQ (some (aQ NB)) calls.length calls.length,lQ none 0 0,.map none,iQ 0] 78)=h6 at *
 generalize h5.size=RB at *
 obtain ⟨X,hX⟩ : ∃X:RX,X=⟨RB,NB,Q,M,DD c.algo,S1 c.algo,Ts,c,ca,calls.length,cc,pa,C2.length,pc,da,draws.length,dc,calls.length⟩:=⟨_,rfl⟩
 generalize hFR:pt ZB (oQ #[lQ none 0 0,iQ 0,iQ 0,dQ false,iQ 0] 34)*(pt SB (oQ (N1 c ca calls.length cc pa C2.length pc da draws.length dc).toArray 28)*R)=FR at H6 hS2
 have H7:A9 h6 (Kt X (rs0 m0 calls.length)*FR):=by
  have H8:=(H6.own_new 45 8).map_new
  rw [hX]
  refine U3.2 ⟨none,0,none,by show (List.replicate _ _).length=_;simp,?_⟩
  exact A9.ac H8 (by show _=pt RB _*(E8 45 8 none 0 0 []*(Od none (λ_=>none)*(pt NB _*(CF Q M (DD c.algo) (S1 c.algo) Ts m0*FR))));ac_rfl)
 have D7:SV2 Inv calls 0 (rs0 m0 calls.length):=by
  refine ⟨hI0,hm0,λk hk=>?_,by show ([]:List Ix).length<=_;simp,⟨by show (0:Int)<=0;omega,by show (0:Int)<=_;omega⟩,⟨by show (0:Int)<=0;omega,by show (0:Int)<=_;omega⟩,⟨by show (0:Int)<=0;omega,by show (0:Int)<=_;omega⟩⟩
  show 0<=(List.replicate calls.length (0:Int)).getD k 0/\(List.replicate calls.length (0:Int)).getD k 0<=_
  simp [hk]
 clear H1 H2 H3 H4 H5 H6 I O
 have eRB:RB=X.RB:=by rw [hX]
 have ei:S1 c.algo=X.ins:=by rw [hX]
 have DX:DoC X.f d W:=by rw [hX];exact D
 have GX:NO d W X.ins Inv:=by rw [hX];exact G
 have su:∀ {h':A2} {s:M6},A9 h' (Kt X s*FR)->∃QQ:Hp,A9 h' (CF Q M (DD c.algo) (S1 c.algo) Ts s.m*(QQ*FR)):=by
  intro h' s H'
  obtain ⟨QQ,H8,_⟩:=SK H'
  rw [hX] at H8
  exact ⟨QQ,H8⟩
 obtain ⟨QQ,H8⟩:=su H7
 refine A0 (CY H8 ?_)
 refine sb ?_
 refine A0 (Js H8 λq R' HM=>?_)
 refine sb ?_
 refine A0 (IS HM ?_)
 show asInt .i64 (iQ m0.mm.st) _
 refine sb ?_
 have scr:∀ {h':A2} {s:M6},A9 h' (Kt X s*FR)->h'[SB]? = some (oQ (N1 c ca calls.length cc pa C2.length pc da draws.length dc).toArray 28)/\FV h' ca calls.length pa C2.length da draws.length calls C2 draws:=by
  intro h' s H'
  refine ⟨?_,hS2 h' _ H'⟩
  rw [<- hFR] at H'
  exact H'.drop.drop.at
 obtain ⟨sc,sI⟩:=scr H7
 refine C4 sc rfl ?_
 refine sb ?_
 have hS7:∀h' P,A9 h' (P*FR)->VG h' X.ca X.cl X.pa X.pl calls C2:=by
  intro h' P HP
  rw [hX]
  exact (hS2 h' P HP).f
 have hXn:X.n=calls.length:=by rw [hX]
 have hins:0<=X.ins/\X.ins<=100:=by
  rw [<- ei]
  unfold S1
  repeat' split
  all_goals decide
 refine ⟨λvs h'=>∃(u:vQ) (j:Nat),vs = [u,.int .i64 j]/\j<=C2.length/\SV2 Inv calls j ((C2.take j).foldl (λs k=>s.pick d X.ins calls k) (rs0 m0 calls.length))/\A9 h' (Kt X ((C2.take j).foldl (λs k=>s.pick d X.ins calls k) (rs0 m0 calls.length))*FR),λvs _=>match vs with | [_,.int _ i]=>((C2.length:Int) - i).toNat | _=>0,⟨_,0,rfl,T4 _,D7,H7⟩,?_⟩
 rintro v84 v85 g86 h87 ⟨u,j,e,hj,DJ,HJ⟩
 cases e
 refine sb ?_
 generalize hsj:(C2.take j).foldl (λs k=>s.pick d X.ins calls k) (rs0 m0 calls.length)=sj at *
 obtain ⟨scJ,sIJ⟩:=scr HJ
 apply A6<;>intro c1
 ·have hjlt:j < C2.length:=by omega
  obtain ⟨ad,ea,hc⟩:=sIJ.f.pk j (.int .i64 C2[j]) (by rw [FD,X7 hjlt];rfl)
  subst ea
  refine ⟨by omega,by omega,?_⟩
  refine sb ?_
  refine C6 hc ?_
  refine sb ?_
  have hp:=hpk _ (CD hjlt)
  have hnext:(C2.take (j+1)).foldl (λs k=>s.pick d X.ins calls k) (rs0 m0 calls.length)=sj.pick d X.ins calls C2[j]:=by
   rw [Ab hjlt,Td,hsj]
   rfl
  obtain ⟨kk,hkk⟩ : ∃kk:Nat,C2[j]=kk:=⟨C2[j].toNat,by omega⟩
  rw [hkk] at hp hnext ⊢
  rw [eRB]
  refine A0 (WK DX GX C hXn hins HJ hS7 (j:=j) (k:=kk) (by omega) (by omega) DJ λh94 D94 H94=>?_)
  rw [show G2 ((j:Int)+1)=((j+1:Nat):Int) from by rw [<- Mg];exact Ah _ (by omega)]
  refine ⟨⟨_,j+1,rfl,by omega,by rw [hnext];exact D94,by rw [hnext];exact H94⟩,?_⟩
  show ((C2.length:Int) - ((j+1:Nat):Int)).toNat < ((C2.length:Int) - (j:Int)).toNat
  omega
 have ej:j=C2.length:=by omega
 subst ej
 rw [EH] at hsj
 have hrun:sj=Pu d (S1 c.algo) calls m0 C2:=by
  unfold Pu
  rw [<- hsj,ei]
 obtain ⟨ea,ec,mo,hl,H0⟩:=U3.1 HJ
 have H9:A9 h87 (pt RB (oQ (rnE Q NB calls.length c ca calls.length cc pa C2.length pc da draws.length dc (lQ none 0 0) 0 sj.idle false sj.most ea sj.ev.length ec mo sj.gap).toArray 78)*(E8 45 8 ea sj.ev.length ec (sj.ev.flatMap Dc)*(Od mo sj.cu*(pt NB (oQ (sj.nx.map iv).toArray 3)*(CF Q M (DD c.algo) (S1 c.algo) Ts sj.m*FR))))):=by
  rw [hX] at H0
  exact H0
 have hev:sj.ev.length<=1000000:=by have:=DJ.ev;omega
 refine A0 (call35 ?_)
 unfold F35 cf lS nP
 refine D1 (λhx=>by cases hx) (λ_=>?_)
 refine sb ?_
 refine C4 H9.at rfl ?_
 refine sb ?_
 rw [D8] at H9
 refine A0 (SN H9 hev λh10 a10 c10 H10=>?_)
 refine sb ?_
 have H11:A9 h10 (pt RB (oQ (rnE Q NB calls.length c ca calls.length cc pa C2.length pc da draws.length dc (lQ none 0 0) 0 sj.idle false sj.most ea sj.ev.length ec mo sj.gap).toArray 78)*(CF Q M (DD c.algo) (S1 c.algo) Ts sj.m*(FR*(E8 45 8 a10 sj.ev.length c10 (sj.ev.flatMap Dc)*(E8 45 8 ea sj.ev.length ec (sj.ev.flatMap Dc)*(Od mo sj.cu*pt NB (oQ (sj.nx.map iv).toArray 3))))))):=A9.ac H10 (by ac_rfl)
 clear H9 H10 HJ H0
 refine H11.st (i:=0) rfl trivial λh12 H12=>?_
 rw [D8] at H12
 refine A0 (CY H12 ?_)
 refine sb ?_
 refine A0 (Js H12 λq2 R2 HM2=>?_)
 refine sb ?_
 refine A0 (IS HM2 ?_)
 show asInt .i64 (iQ sj.m.mm.st) _
 refine sb ?_
 rw [D8] at H12
 refine H12.st (i:=1) rfl trivial λh13 H13=>?_
 rw [D8] at H13
 refine A0 (CY H13 ?_)
 refine sb ?_
 refine A0 (SM H13 λh14 H14=>?_)
 refine sb ?_
 rw [D8] at H14
 refine H14.st (i:=3) rfl trivial λh15 H15=>?_
 have O:=H15.at
 refine C4 O rfl (C4 O rfl (C4 O rfl (C4 O rfl (C4 O rfl ?_))))
 rw [<- hFR] at H15
 obtain ⟨ob,H15⟩ : ∃ob,A9 h15 (pt RB ob*(CF Q M (DD c.algo) (S1 c.algo) Ts sj.m*((pt ZB (.cells #[.slice none 0 0,.int .i64 0,.int .i64 0,.bool false,.int .i64 0] 34)*(pt SB (.cells (N1 c ca calls.length cc pa C2.length pc da draws.length dc).toArray 28)*R))*(E8 45 8 a10 sj.ev.length c10 (sj.ev.flatMap Dc)*(E8 45 8 ea sj.ev.length ec (sj.ev.flatMap Dc)*(Od mo sj.cu*pt NB (.cells (sj.nx.map iv).toArray 3))))))):=⟨_,H15⟩
 have H16:A9 h15 (pt ZB (oQ #[lQ none 0 0,iQ 0,iQ 0,dQ false,iQ 0] 34)*(E8 45 8 a10 sj.ev.length c10 (sj.ev.flatMap Dc)*(CF Q M (DD c.algo) (S1 c.algo) Ts sj.m*(R*(pt SB (oQ (N1 c ca calls.length cc pa C2.length pc da draws.length dc).toArray 28)*(pt RB ob*(E8 45 8 ea sj.ev.length ec (sj.ev.flatMap Dc)*(Od mo sj.cu*pt NB (oQ (sj.nx.map iv).toArray 3))))))))):=A9.ac H15 (by ac_rfl)
 refine F5 (vs:=[lQ a10 sj.ev.length c10,iQ (G2 (sj.m.mm.st - m0.mm.st)),iQ sj.idle,dQ sj.m.fault,iQ sj.most]) H16.at rfl (by simp [J0]) λh17 w=>?_
 have H17:=(H16.wr w.new w.old)
 refine C4 H17.at rfl (C4 H17.at rfl (C4 H17.at rfl (C4 H17.at rfl (C4 H17.at rfl ?_))))
 obtain ⟨ob2,H17⟩ : ∃ob2,A9 h17 (pt ZB ob2*(E8 45 8 a10 sj.ev.length c10 (sj.ev.flatMap Dc)*(CF Q M (DD c.algo) (S1 c.algo) Ts sj.m*(R*(pt SB (.cells (N1 c ca calls.length cc pa C2.length pc da draws.length dc).toArray 28)*(pt RB ob*(E8 45 8 ea sj.ev.length ec (sj.ev.flatMap Dc)*(Od mo sj.cu*pt NB (.cells (sj.nx.map iv).toArray 3))))))))):=⟨_,H17⟩
 have H18:A9 h17 ((pt ZB ob2*(pt SB (oQ (N1 c ca calls.length cc pa C2.length pc da draws.length dc).toArray 28)*(pt RB ob*(E8 45 8 ea sj.ev.length ec (sj.ev.flatMap Dc)*(Od mo sj.cu*pt NB (oQ (sj.nx.map iv).toArray 3))))))*(E8 45 8 a10 sj.ev.length c10 (sj.ev.flatMap Dc)*(CF Q M (DD c.algo) (S1 c.algo) Ts sj.m*R))):=A9.ac H17 (by ac_rfl)
 exact k1 hsc h17 a10 c10 Q M Ts sj hrun DJ H18.drop
end
end
section
set_option maxHeartbeats 1000000
open Mod
theorem Ma (j n:Nat) (calls:List (List Cl)):O0 (j+1) n calls=O0 j n calls ++ [Dy n (calls.getD j [])]:=by
 unfold O0
 rw [Tj,GW]
 rfl
theorem Og (n:Nat) (l:List Cl):(Dy n l).length=min n l.length:=by unfold Dy;rw [Jz,CM]
theorem SA1 {n k:Nat} {l:List Cl} (h:k < (Dy n l).length):(Dy n l).take (k+1)=(Dy n l).take k ++ [Xr (l.getD k DY)]:=by
 have h2:=h
 rw [Og] at h2
 have e:(Dy n l)[k]? = some (Xr (l.getD k DY)):=by
  unfold Dy
  rw [FD,List.getElem?_take_of_lt (by omega),X7 (by omega),An,X7 (by omega)]
  rfl
 rw [List.take_add_one,e]
 rfl
theorem Pw {f:Int->Int} {n i:Nat} {l:List Int} (h:i < ((l.take n).map f).length):((l.take n).map f).take (i+1)=((l.take n).map f).take i ++ [f (l.getD i 0)]:=by
 have h2:=h
 rw [Jz,CM] at h2
 have e:((l.take n).map f)[i]? = some (f (l.getD i 0)):=by
  rw [FD,List.getElem?_take_of_lt (by omega),X7 (by omega),An,X7 (by omega)]
  rfl
 rw [List.take_add_one,e]
 rfl
theorem SO (i:Nat) (h:i<=60000):G2 ((i:Int)+1)=((i+1:Nat):Int):=by unfold G2;omega
section
variable {K:kQ} {h:A2} {R:Hp}
theorem WM {c0 c:Mod.Cf} {ca pa da:rQ} {cl cc0 pl pc0 dl dc0:Nat} {calls:List (List Cl)} {C2 draws:List Int} {n m:Nat} (H:A9 h R)
  (hS:∀h' P,A9 h' (P*R)->FV h' ca cl pa pl da dl calls C2 draws) (hth:1<=c.threads/\c.threads<=6) (hn:n<=1000) (hm:m<=60000)
  (k:∀h' ca' cc pa' pc da' dc ps,A9 h' (SN6 ca' cc pa' pc da' dc ps (O0 c.threads.toNat n calls) (V5 c.threads m C2) (draws.take 4096)*R)->K (.agg #[iQ c.algo,iQ c.threads,iQ c.nodes,iQ c.level,iQ c.batch,iQ c.probes,iQ c.scan,lQ ca' (O0 c.threads.toNat n calls).length cc,lQ pa' (V5 c.threads m C2).length pc,lQ da' (draws.take 4096).length dc]) h') :
  A4 prog 11 #[.agg #[iQ c0.algo,iQ c0.threads,iQ c0.nodes,iQ c0.level,iQ c0.batch,iQ c0.probes,iQ c0.scan,lQ ca cl cc0,lQ pa pl pc0,lQ da dl dc0],cfV c,iQ n,iQ m] h K:=by
 refine call11 ?_
 unfold F11 g11 bd lS lI M0 IE Du SI3
 have H1:=H.push (oQ (N1 c0 ca cl cc0 pa pl pc0 da dl dc0).toArray 28)
 rw [show (oQ #[iQ c0.algo,iQ c0.threads,iQ c0.nodes,iQ c0.level,iQ c0.batch,iQ c0.probes,iQ c0.scan,lQ ca cl cc0,lQ pa pl pc0,lQ da dl dc0] 28:Obj)=.cells (N1 c0 ca cl cc0 pa pl pc0 da dl dc0).toArray 28 from rfl]
 generalize h.push (oQ (N1 c0 ca cl cc0 pa pl pc0 da dl dc0).toArray 28)=h1 at *
 generalize h.size=SB at *
 have H2:=H1.push (oQ #[iQ c.algo,iQ c.threads,iQ c.nodes,iQ c.level,iQ c.batch,iQ c.probes,iQ c.scan] 23)
 generalize h1.push (oQ #[iQ c.algo,iQ c.threads,iQ c.nodes,iQ c.level,iQ c.batch,iQ c.probes,iQ c.scan] 23)=h2 at *
 generalize h1.size=CB at *
 have H3:=H2.push (oQ #[iQ 0,iQ 0,iQ 0,iQ 0,iQ 0,iQ 0,iQ 0,lQ none 0 0,lQ none 0 0,lQ none 0 0] 28)
 generalize h2.push (oQ #[iQ 0,iQ 0,iQ 0,iQ 0,iQ 0,iQ 0,iQ 0,lQ none 0 0,lQ none 0 0,lQ none 0 0] 28)=h3 at *
 generalize h2.size=RB at *
 refine C4 H3.at2 rfl (C4 H3.at2 rfl (C4 H3.at2 rfl (C4 H3.at2 rfl (C4 H3.at2 rfl (C4 H3.at2 rfl (C4 H3.at2 rfl ?_))))))
 have H4:=H3.push (oQ #[iQ 0,iQ 0,iQ 0,iQ 0,iQ 0,iQ 0,iQ 0,lQ none 0 0,lQ none 0 0,lQ none 0 0] 28)
 generalize h3.push (oQ #[iQ 0,iQ 0,iQ 0,iQ 0,iQ 0,iQ 0,iQ 0,lQ none 0 0,lQ none 0 0,lQ none 0 0] 28)=h4 at *
 generalize h3.size=TB at *
 refine Tj1 (F5 (vs:=N1 c none 0 0 none 0 0 none 0 0) H4.at rfl (by simp [N1,J0]) λh5 w=>?_)
 have H5:=H4.wr w.new w.old
 clear H1 H2 H3 H4 w
 generalize hFR:pt RB (oQ #[iQ 0,iQ 0,iQ 0,iQ 0,iQ 0,iQ 0,iQ 0,lQ none 0 0,lQ none 0 0,lQ none 0 0] 28)*(pt CB (oQ #[iQ c.algo,iQ c.threads,iQ c.nodes,iQ c.level,iQ c.batch,iQ c.probes,iQ c.scan] 23)*(pt SB (oQ (N1 c0 ca cl cc0 pa pl pc0 da dl dc0).toArray 28)*R))=FR at H5
 have scr:∀ {h':A2} {X:Hp},A9 h' (X*FR)->h'[CB]? = some (.cells [iQ c.algo,iQ c.threads,iQ c.nodes,iQ c.level,iQ c.batch,iQ c.probes,iQ c.scan].toArray 23)/\h'[SB]? = some (oQ (N1 c0 ca cl cc0 pa pl pc0 da dl dc0).toArray 28)/\FV h' ca cl pa pl da dl calls C2 draws:=by
  intro h' X H'
  subst hFR
  refine ⟨H'.drop.drop.at,H'.drop.drop.drop.at,hS h' Mt ?_⟩
  rw [T8]
  exact H'.drop.drop.drop.drop
 have scr3:∀ {h':A2} {A B C:Hp},A9 h' (A*(B*(C*FR)))->h'[CB]? = some (.cells [iQ c.algo,iQ c.threads,iQ c.nodes,iQ c.level,iQ c.batch,iQ c.probes,iQ c.scan].toArray 23)/\h'[SB]? = some (oQ (N1 c0 ca cl cc0 pa pl pc0 da dl dc0).toArray 28)/\FV h' ca cl pa pl da dl calls C2 draws:=fun {h' A B C} H'=>scr (X:=A*(B*C)) (by rw [F2,F2];exact H')
 obtain ⟨oc,os,si⟩:=scr H5
 refine ⟨λvs h'=>vs = [dQ false]/\h' = h5,?_,?_⟩
 ·refine C4 oc rfl ?_
  refine sb ?_
  refine A6 (λc1=>by omega) (λc1=>?_)
  refine C4 oc rfl ?_
  refine sb ?_
  rw [S4 (by omega:¬ c.threads > 6)]
  first | done | exact ⟨by trivial,by trivial⟩ | trivial
 rintro v22 g23 h24 ⟨e,rfl⟩
 cases e
 refine sb ?_
 clear oc os si
 refine ⟨λvs h'=>∃(j:Nat) (w1 w2:vQ) (ca':rQ) (cc:Nat) (ps:List (rQ × Nat)),vs = [.int .i64 j,w1,w2]/\j<=c.threads.toNat/\ps.length=j/\A9 h' (pt TB (.cells (N1 c ca' j cc none 0 0 none 0 0).toArray 28)*(E8 58 1 ca' j cc ((ps.zip (O0 j n calls)).flatMap Fz)*(Cz ps (O0 j n calls)*FR))),λvs _=>match vs with | [.int _ i,_,_]=>(c.threads - i).toNat | _=>0,⟨0,_,_,none,0,[],rfl,T4 _,rfl,?_⟩,?_⟩
 ·have H6:=H5.own_new 58 1
  have e0:Cz [] (O0 0 n calls)=Mt:=by unfold Cz;rfl
  rw [e0,T8]
  rw [D8] at H6
  exact H6
 rintro v58 v59 v60 g61 h62 ⟨j,w1,w2,ca',cc,ps,e,hj,hps,H6⟩
 cases e
 obtain ⟨oc,os,si⟩:=scr3 H6
 refine sb ?_
 refine C4 oc rfl ?_
 refine sb ?_
 apply A6<;>intro c1
 ·generalize hrow:calls.getD j []=row at *
  have hcl:=si.f.cs
  refine ⟨λvs h'=>∃(q:Nat) (la:rQ) (lc:Nat),vs = [.slice la q lc,.int .i64 q]/\q<=(Dy n row).length/\A9 h' (E8 41 3 la q lc (((Dy n row).take q).flatMap CJ)*(pt TB (.cells (N1 c ca' j cc none 0 0 none 0 0).toArray 28)*(E8 58 1 ca' j cc ((ps.zip (O0 j n calls)).flatMap Fz)*(Cz ps (O0 j n calls)*FR)))),λvs _=>match vs with | [_,.int _ i]=>(2000 - i).toNat | _=>0,⟨0,none,0,rfl,T4 _,H6.own_new 41 3⟩,?_⟩
  rintro v68 v69 g70 h71 ⟨q,la,lc,e,hq,H7⟩
  cases e
  clear oc os si
  obtain ⟨oc,os,si⟩:=scr3 H7.drop
  have hlen:=Og n row
  have hrl:¬ j < calls.length->row = []:=λhh=>by
   rw [<- hrow,An,SD9 (by omega)]
   rfl
  refine ⟨λvs h'=>(∃w,vs = [w,dQ (decide (q < (Dy n row).length))])/\h' = h71,?_,?_⟩
  ·refine sb ?_
   refine C4 os rfl ?_
   refine sb ?_
   apply A6<;>intro c2
   ·obtain ⟨ra,rc,⟨ad2,ea2,hcr⟩,hrw⟩:=si.f.row j (by omega)
    rw [hrow] at hcr hrw
    refine C4 os rfl ?_
    refine sb ?_
    subst ea2
    refine ⟨by omega,by omega,?_⟩
    refine sb ?_
    refine C6 hcr ?_
    refine sb ?_
    apply A6<;>intro c3
    ·rw [show decide ((q:Int) < (n:Int))=decide (q < (Dy n row).length) by rw [decide_eq_decide];omega]
     first | exact ⟨⟨_,rfl⟩,by trivial⟩ | exact ⟨_,rfl⟩
    ·rw [S4 (by omega:¬ q < (Dy n row).length)]
     first | exact ⟨⟨_,rfl⟩,by trivial⟩ | exact ⟨_,rfl⟩
   ·have:=hrl (by omega)
    rw [S4 (by rw [hlen,this];simp:¬ q < (Dy n row).length)]
    first | exact ⟨⟨_,rfl⟩,by trivial⟩ | exact ⟨_,rfl⟩
  rintro v90 v91 g92 h93 ⟨⟨w,e⟩,rfl⟩
  cases e
  refine sb ?_
  apply A6<;>intro c2
  ·have hjl:j < calls.length:=SD6 λhh=>by
    have:=hrl hh
    rw [hlen,this] at c2
    simp at c2
   have hql:q < row.length:=by omega
   obtain ⟨ra,rc,⟨ad2,ea2,hcr⟩,hrw⟩:=si.f.row j hjl
   rw [hrow] at hcr hrw
   have hcq:row.getD q DY=row[q]:=by rw [An,X7 hql];rfl
   have htk:=SA1 c2
   generalize hcc:row.getD q DY=cq at *
   have g0:=N0 BK hql (j:=0) (by omega)
   have g1:=N0 BK hql (j:=1) (by omega)
   have g2:=N0 BK hql (j:=2) (by omega)
   rw [<- hcq] at g0 g1 g2
   obtain ⟨ad3,ea3,hc0⟩:=hrw (q*3+0) (.int .i64 cq.op) g0
   subst ea3
   obtain ⟨_,ea4,hc1⟩:=hrw (q*3+1) (.int .u32 cq.key) g1
   cases ea4
   obtain ⟨_,ea4,hc2⟩:=hrw (q*3+2) (.int .u32 cq.val) g2
   cases ea4
   have aa:∀i,(ad3.add (q*3)).add i=ad3.add (q*3+i):=λi=>Z7 _ _ _
   rw [Lc] at hc0
   refine C4 os rfl ?_
   refine sb ?_
   subst ea2
   refine ⟨by omega,by omega,?_⟩
   refine sb ?_
   refine C6 hcr ?_
   refine sb ?_
   refine ⟨by omega,by omega,?_⟩
   refine se1 aa ?_
   refine C6 hc0 (C6 hc1 (C6 hc2 ?_))
   have H8:=H7.push (oQ #[iQ 0,.int .u32 0,.int .u32 0] 41)
   generalize h93.push (oQ #[iQ 0,.int .u32 0,.int .u32 0] 41)=h94 at *
   generalize h93.size=AB at *
   refine st3 (F5 (vs:=CJ cq) H8.at rfl (by simp [CJ,J0]) λh112 w=>?_)
   have H9:=H8.wr w.new w.old
   clear H8 w
   refine C4 H9.at rfl ?_
   refine sb ?_
   refine ⟨by decide,by decide,?_⟩
   have H10:=H9.push (oQ #[iQ 0,.int .u32 0,.int .u32 0] 41)
   generalize h112.push (oQ #[iQ 0,.int .u32 0,.int .u32 0] 41)=h113 at *
   generalize h112.size=DB at *
   refine st3 (F5 (vs:=[iQ (opL cq.op),.int .u32 0,.int .u32 0]) H10.at rfl (by simp [J0]) λh117 w=>?_)
   have H11:=H10.wr w.new w.old
   clear H10 w H9
   refine ⟨λvs h'=>A9 h' (pt DB (oQ (CJ (Xr cq)).toArray 41)*(pt AB (oQ (CJ cq).toArray 41)*(E8 41 3 la q lc (((Dy n row).take q).flatMap CJ)*(pt TB (oQ (N1 c ca' j cc none 0 0 none 0 0).toArray 28)*(E8 58 1 ca' j cc ((ps.zip (O0 j n calls)).flatMap Fz)*(Cz ps (O0 j n calls)*FR)))))),?_,?_⟩
   ·refine C4 H11.at rfl ?_
    refine sb ?_
    apply D1<;>intro c3
    ·have c3:opL cq.op=0:=by simpa using c3
     refine C4 H11.at2 rfl ?_
     simp only [A5]
     refine H11.st (i:=1) rfl trivial λh1 H12=>?_
     refine C4 H12.at2 rfl ?_
     simp only [A5]
     refine H12.st (i:=2) rfl trivial λh2 H13=>?_
     have e:Xr cq=⟨0,cq.key,cq.val⟩:=by unfold Xr;rw [A8 c3]
     rw [e]
     rw [c3] at H13
     exact H13
    ·have c3:¬ opL cq.op=0:=by simpa using c3
     have e:Xr cq=⟨opL cq.op,0,0⟩:=by unfold Xr;rw [A7 c3]
     rw [e]
     exact H11
   rintro g127 h128 H12
   refine C4 H12.at rfl (C4 H12.at rfl (C4 H12.at rfl ?_))
   have H13:A9 h128 (E8 41 3 la q lc (((Dy n row).take q).flatMap CJ)*(pt TB (oQ (N1 c ca' j cc none 0 0 none 0 0).toArray 28)*(E8 58 1 ca' j cc ((ps.zip (O0 j n calls)).flatMap Fz)*(Cz ps (O0 j n calls)*FR)))):=H12.drop.drop
   refine Tf2 (x:=Xr cq) H13 (by omega) λa' c' h136 H14=>?_
   refine sb ?_
   rw [SO q (by omega)]
   refine ⟨⟨q+1,a',c',rfl,by omega,by rw [htk];exact H14⟩,?_⟩
   show ((2000:Int) - ((q+1:Nat):Int)).toNat < ((2000:Int) - (q:Int)).toNat
   omega
  ·have eq:q=(Dy n row).length:=by omega
   have et:(Dy n row).take q=Dy n row:=Dg (by omega)
   rw [et] at H7
   refine C4 H7.at2 rfl ?_
   refine sb ?_
   have H8:A9 h93 (E8 58 1 ca' j cc ((ps.zip (O0 j n calls)).flatMap Fz)*(pt TB (oQ (N1 c ca' j cc none 0 0 none 0 0).toArray 28)*(Cz ps (O0 j n calls)*(E8 41 3 la q lc ((Dy n row).flatMap CJ)*FR)))):=A9.ac H7 (by ac_rfl)
   refine S38 (p:=(la,lc)) (x:=Dy n row) H8 (by rw [hps,CX]) eq (by omega) λa' c' h149 H9=>?_
   refine sb ?_
   rw [D8] at H9
   refine H9.st (i:=7) rfl trivial λh153 H10=>?_
   rw [SO j (by omega)]
   refine ⟨⟨j+1,_,_,a',c',ps ++ [(la,lc)],rfl,by omega,by rw [DK,hps];rfl,?_⟩,?_⟩
   ·rw [Ma,hrow,NQ (la,lc) _ _ _ (by rw [hps,CX]),F2]
    subst eq
    exact H10
   ·show (c.threads - ((j+1:Nat):Int)).toNat < (c.threads - (j:Int)).toNat
    omega
 have ej:j=c.threads.toNat:=by omega
 have hPL:(V5 c.threads m C2).length=min m C2.length:=by unfold V5;rw [Jz,CM]
 generalize hCL:O0 j n calls=CL at *
 refine ⟨λvs h'=>∃(i:Nat) (pa':rQ) (pc:Nat),vs = [.int .i64 i]/\i<=(V5 c.threads m C2).length/\A9 h' (E8 3 1 pa' i pc (((V5 c.threads m C2).take i).map iv)*(pt TB (.cells (N1 c ca' j cc pa' i pc none 0 0).toArray 28)*(E8 58 1 ca' j cc ((ps.zip CL).flatMap Fz)*(Cz ps CL*FR)))),λvs _=>match vs with | [.int _ i]=>(70000 - i).toNat | _=>0,⟨0,none,0,rfl,T4 _,H6.own_new 3 1⟩,?_⟩
 rintro v157 g158 h159 ⟨i,pa',pc,e,hi,H7⟩
 cases e
 clear oc os si H6
 obtain ⟨oc,os,si⟩:=scr3 H7.drop
 have hps2:=si.f.ps
 refine ⟨λvs h'=>vs = [dQ (decide (i < (V5 c.threads m C2).length))]/\h' = h159,?_,?_⟩
 ·refine sb ?_
  refine C4 os rfl ?_
  refine sb ?_
  apply A6<;>intro c2
  ·rw [show decide ((i:Int) < (m:Int))=decide (i < (V5 c.threads m C2).length) by rw [decide_eq_decide];omega]
   first | done | exact ⟨by trivial,by trivial⟩ | trivial
  ·rw [S4 (by omega:¬ i < (V5 c.threads m C2).length)]
   first | done | exact ⟨by trivial,by trivial⟩ | trivial
 rintro v167 g168 h169 ⟨e,rfl⟩
 cases e
 refine sb ?_
 apply A6<;>intro c2
 ·have hil:i < C2.length:=by omega
  have htk:=Pw (f:=NP c.threads) c2
  have hpi:C2.getD i 0=C2[i]:=by rw [An,X7 hil];rfl
  obtain ⟨ad,ea,hc⟩:=si.f.pk i (.int .i64 (C2.getD i 0)) (by rw [hpi,FD,X7 hil];rfl)
  subst ea
  generalize C2.getD i 0=pk at *
  refine C4 H7.at2 rfl ?_
  refine sb ?_
  refine C4 os rfl ?_
  refine sb ?_
  refine ⟨by omega,by omega,?_⟩
  refine C6 hc ?_
  refine sb ?_
  refine C4 oc rfl ?_
  refine sb ?_
  refine ⟨by omega,?_⟩
  refine C4 oc rfl ?_
  refine sb ?_
  refine C4 oc rfl ?_
  refine sb ?_
  refine ⟨by omega,E9 (F6 H7.at2 rfl),?_⟩
  refine Tf3 (x:=NP c.threads pk) H7 (by omega) λa' c' h190 H8=>?_
  refine sb ?_
  rw [D8] at H8
  refine H8.st (i:=8) rfl trivial λh194 H9=>?_
  rw [SO i (by omega)]
  rw [D8] at H9
  refine ⟨⟨i+1,a',c',rfl,by omega,?_⟩,?_⟩
  ·have htk:(V5 c.threads m C2).take (i+1)=(V5 c.threads m C2).take i ++ [NP c.threads pk]:=htk
   rw [htk]
   exact H9
  ·show ((70000:Int) - ((i+1:Nat):Int)).toNat < ((70000:Int) - (i:Int)).toNat
   omega
 have ei:i=(V5 c.threads m C2).length:=by omega
 have et:(V5 c.threads m C2).take i=V5 c.threads m C2:=Dg (by omega)
 rw [et] at H7
 generalize hPP:V5 c.threads m C2=PP at *
 have hDL:(draws.take 4096).length=min 4096 draws.length:=CM ..
 refine ⟨λvs h'=>∃(d:Nat) (da':rQ) (dc:Nat),vs = [.int .i64 d]/\d<=(draws.take 4096).length/\A9 h' (E8 5 1 da' d dc (((draws.take 4096).take d).map VH)*(pt TB (.cells (N1 c ca' j cc pa' i pc da' d dc).toArray 28)*(E8 3 1 pa' i pc (PP.map iv)*(E8 58 1 ca' j cc ((ps.zip CL).flatMap Fz)*(Cz ps CL*FR))))),λvs _=>match vs with | [.int _ i]=>(70000 - i).toNat | _=>0,⟨0,none,0,rfl,T4 _,?_⟩,?_⟩
 ·rw [D8] at H7
  exact H7.own_new 5 1
 rintro v198 g199 h200 ⟨d,da',dc,e,hd,H8⟩
 cases e
 clear oc os si H7
 obtain ⟨oc,os,si⟩:=scr3 H8.drop.drop
 have hds:=si.ds
 refine ⟨λvs h'=>vs = [dQ (decide (d < (draws.take 4096).length))]/\h' = h200,?_,?_⟩
 ·refine sb ?_
  refine C4 os rfl ?_
  refine sb ?_
  apply A6<;>intro c3
  ·rw [show decide ((d:Int) < 4096)=decide (d < (draws.take 4096).length) by rw [decide_eq_decide];omega]
   first | done | exact ⟨by trivial,by trivial⟩ | trivial
  ·rw [S4 (by omega:¬ d < (draws.take 4096).length)]
   first | done | exact ⟨by trivial,by trivial⟩ | trivial
 rintro v208 g209 h210 ⟨e,rfl⟩
 cases e
 refine sb ?_
 apply A6<;>intro c3
 ·have hdl:d < draws.length:=by omega
  have htk:(draws.take 4096).take (d+1)=(draws.take 4096).take d ++ [draws[d]]:=by
   rw [Ab c3,List.getElem_take]
  obtain ⟨ad,ea,hc⟩:=si.dr d (.int .u8 draws[d]) (by rw [FD,X7 hdl];rfl)
  subst ea
  generalize draws[d]=dk at *
  refine C4 H8.at2 rfl ?_
  refine sb ?_
  refine C4 os rfl ?_
  refine sb ?_
  refine ⟨by omega,by omega,?_⟩
  refine C6 hc ?_
  refine sb ?_
  refine ⟨E9 (F6 H8.at2 rfl),?_⟩
  refine Tf4 (x:=dk) H8 (by omega) λa' c' h225 H9=>?_
  refine sb ?_
  rw [D8] at H9
  refine H9.st (i:=9) rfl trivial λh229 H10=>?_
  rw [SO d (by omega)]
  rw [D8] at H10
  refine ⟨⟨d+1,a',c',rfl,by omega,by rw [htk];exact H10⟩,?_⟩
  show ((70000:Int) - ((d+1:Nat):Int)).toNat < ((70000:Int) - (d:Int)).toNat
  omega
 have ed:d=(draws.take 4096).length:=by omega
 have et2:(draws.take 4096).take d=draws.take 4096:=Dg (by omega)
 rw [et2] at H8
 rw [<- hFR] at H8
 have H9:A9 h210 (pt RB (oQ #[iQ 0,iQ 0,iQ 0,iQ 0,iQ 0,iQ 0,iQ 0,lQ none 0 0,lQ none 0 0,lQ none 0 0] 28)*(pt TB (oQ (N1 c ca' j cc pa' i pc da' d dc).toArray 28)*(pt CB (oQ #[iQ c.algo,iQ c.threads,iQ c.nodes,iQ c.level,iQ c.batch,iQ c.probes,iQ c.scan] 23)*(pt SB (oQ (N1 c0 ca cl cc0 pa pl pc0 da dl dc0).toArray 28)*(E8 58 1 ca' j cc ((ps.zip CL).flatMap Fz)*(Cz ps CL*(E8 3 1 pa' i pc (PP.map iv)*(E8 5 1 da' d dc ((draws.take 4096).map VH)*R)))))))):=A9.ac H8 (by ac_rfl)
 have OT:=H9.at2
 refine C4 OT rfl (C4 OT rfl (C4 OT rfl (C4 OT rfl (C4 OT rfl (C4 OT rfl (C4 OT rfl (C4 OT rfl (C4 OT rfl (C4 OT rfl ?_)))))))))
 refine Tj1 (F5 (vs:=N1 c ca' j cc pa' i pc da' d dc) H9.at rfl (by simp [N1,J0]) λh250 w=>?_)
 have H10:=H9.wr w.new w.old
 have OR:=H10.at
 refine C4 OR rfl (C4 OR rfl (C4 OR rfl (C4 OR rfl (C4 OR rfl (C4 OR rfl (C4 OR rfl (C4 OR rfl (C4 OR rfl (C4 OR rfl ?_)))))))))
 have eCL:CL=O0 c.threads.toNat n calls:=by rw [<- hCL,ej]
 have eL:CL.length=j:=by rw [<- hCL,CX]
 rw [eCL] at eL
 have hk:=k h250 ca' cc pa' pc da' dc ps (VI.2 ⟨by rw [hps,eL],by rw [eL,<- eCL,<- ei,<- ed];exact H10.drop.drop.drop.drop⟩)
 rw [eL,<- ei,<- ed] at hk
 exact hk
end
end
section
open Mod
theorem WN (c:Cl):DC (Xr c)=true:=by
 have:=Si2 c.op
 unfold Xr
 split
 ·rfl
 ·rename_i h
  unfold DC
  simp only [Ku,EA,beq_iff_eq,and_true]
  omega
theorem Mb (th n:Nat) (calls:List (List Cl)):(O0 th n calls).flatten.length<=n*th:=by
 induction th with
 | zero=>simp [O0]
 | succ j ih=>
  rw [Ma,SZ7,DK,List.flatten_singleton,Og,Nat.mul_succ]
  omega
theorem WO {c:Mod.Cf} (hc:GK c=true) {calls:List (List Cl)} {C2 draws:List Int} {n m:Nat} (hn:n<=8) (hm:m<=60000):IH c (O0 c.threads.toNat n calls) (V5 c.threads m C2) (draws.take 4096)=true:=by
 have B:=Cy hc
 have hth:1<=c.threads/\c.threads<=6:=B.th
 have hf:=Mb c.threads.toNat n calls
 have hnt:n*c.threads.toNat<=8*6:=Nat.mul_le_mul hn (by omega)
 unfold IH
 rw [hc,CX]
 simp only [EA,beq_iff_eq,EK,MG]
 refine ⟨trivial,by omega,by omega,?_,?_,?_,?_⟩
 ·unfold V5;rw [Jz,CM];omega
 ·rw [CM];omega
 ·intro l hl x hx
  unfold O0 at hl
  obtain ⟨i,_,rfl⟩:=Ga.1 hl
  unfold Dy at hx
  obtain ⟨y,_,rfl⟩:=Ga.1 hx
  exact WN y
 ·intro k hk
  unfold V5 at hk
  obtain ⟨k0,_,rfl⟩:=Ga.1 hk
  exact Qx hth k0
theorem SV5 {th:Int} {n m:Nat} {calls:List (List Cl)} {C2 draws:List Int} (hn:n<=1000) (R:Sq calls C2 draws):Sq (O0 th.toNat n calls) (V5 th m C2) (draws.take 4096):=
 ⟨λl hl x hx=>((KY R hn l hl).2 x hx).2,λx hx=>R.dr x (List.mem_of_mem_take hx)⟩
section
variable {K:kQ} {h:A2} {R:Hp} {calls:List (List Cl)} {C2 draws:List Int}
end
end
end Go.Proofs.YtahpbclnkofhfaaGreat
section
namespace Go.Proofs.YtahpbclnkofhfaaGreat.Mod
def Mm.uw (m:Mm):Mm:={ m with wt:=false,lg:=[] }
def Mac.uw (m:Mac):Mac:={ m with g:=none,mm:=m.mm.uw }
theorem S68 (m:Mm) (a o n:Int):m.uw.cas a o n=(m.cas a o n).uw:=by
 unfold Mm.cas
 show (if m.get a=o then _ else _)=_
 split <;> rfl
theorem SV6 (m:Mm) (a o n b p q:Int):m.uw.dcas a o n b p q=(m.dcas a o n b p q).uw:=by
 unfold Mm.dcas
 show (if m.get a=o/\m.get b=p then _ else _)=_
 split <;> rfl
theorem SV7 (m:Mm) (a o n b p:Int):m.uw.dcss a o n b p=(m.dcss a o n b p).uw:=by
 unfold Mm.dcss
 show (if m.get a=o/\m.get b=p then _ else _)=_
 split <;> rfl
def B9.uw (x:B9):B9:={ x with m:=x.m.uw }
theorem Dm (m:Mac) (a:Int):m.uw.touch a=(m.touch a).uw:=by
 unfold Mac.touch
 show (match m.p.within a with | some n=>_ | none=>_)=_
 cases m.p.within a <;> rfl
theorem SV8 (m:Mac) (a:Int):m.uw.load a=((m.load a).1,(m.load a).2.uw):=by
 unfold Mac.load
 dsimp only
 rw [Dm]
 show (if (m.touch a).mm.ok a=true then _ else _)=_
 split <;> rfl
theorem SA2 (m:Mac) (a v:Int):m.uw.store a v=(m.store a v).uw:=by
 unfold Mac.store
 dsimp only
 rw [Dm]
 show (if (m.touch a).mm.ok a=true then _ else _)=_
 split <;> rfl
theorem S69 (m:Mac) (a o n:Int):m.uw.cas a o n=((m.cas a o n).1,(m.cas a o n).2.uw):=by
 unfold Mac.cas
 dsimp only
 rw [Dm]
 show (if (m.touch a).mm.ok a=true then _ else _)=_
 split
 ·show (_,Mac.setM (m.touch a).uw ((m.touch a).mm.uw.cas a o n))=_
  rw [S68]
  rfl
 ·rfl
theorem S70 (m:Mac) (a d:Int):m.uw.add a d=((m.add a d).1,(m.add a d).2.uw):=by
 unfold Mac.add
 dsimp only
 rw [Dm]
 show (if (m.touch a).mm.ok a=true then _ else _)=_
 split <;> rfl
theorem WP (m:Mac) (a o n b p q:Int):m.uw.dcas a o n b p q=((m.dcas a o n b p q).1,(m.dcas a o n b p q).2.uw):=by
 unfold Mac.dcas
 dsimp only
 rw [Dm,Dm]
 show (if ((m.touch a).touch b).mm.ok a=true/\((m.touch a).touch b).mm.ok b=true/\a≠b then _ else _)=_
 split
 ·show (_,Mac.setM ((m.touch a).touch b).uw (((m.touch a).touch b).mm.uw.dcas a o n b p q))=_
  rw [SV6]
  rfl
 ·rfl
theorem WQ (m:Mac) (a o n b p:Int):m.uw.dcss a o n b p=((m.dcss a o n b p).1,(m.dcss a o n b p).2.uw):=by
 unfold Mac.dcss
 dsimp only
 rw [Dm,Dm]
 show (if ((m.touch a).touch b).mm.ok a=true/\((m.touch a).touch b).mm.ok b=true then _ else _)=_
 split
 ·show (_,Mac.setM ((m.touch a).touch b).uw (((m.touch a).touch b).mm.uw.dcss a o n b p))=_
  rw [SV7]
  rfl
 ·rfl
theorem WR (m:Mac) (n:Int):m.uw.next n=((m.next n).1,(m.next n).2.uw):=by
 unfold Mac.next
 split <;> rfl
theorem Sj3 (m:Mac) (n:Int):m.uw.lvl n=((m.lvl n).1,(m.lvl n).2.uw):=by
 unfold Mac.lvl
 split <;> rfl
section
variable (x:B9)
theorem Tk1:x.uw.f=x.f:=rfl
theorem Tg2:x.uw.t=x.t:=rfl
theorem S97:x.uw.id=x.id:=rfl
theorem SA3:x.uw.m=x.m.uw:=rfl
theorem Tk2 (m:Mac):m.uw.p=m.p:=rfl
theorem WS (m:Mac):m.uw.acted=m.acted:=rfl
theorem SV9 (i:Nat):x.uw.ret i=x.ret i:=rfl
theorem Tk3 (i:Nat) (v:Int):x.uw.s i v=(x.s i v).uw:=rfl
theorem S98 (i:Int):x.uw.pc i=(x.pc i).uw:=rfl
theorem Sj4 (i:Int) (r:List Int):x.uw.push i r=(x.push i r).uw:=rfl
theorem SW0 (r:List Int):x.uw.pop r=(x.pop r).uw:=rfl
theorem Sj5 (i j:Int) (r:List Int):x.uw.call i j r=(x.call i j r).uw:=rfl
theorem SW1 (i j k:Int):x.uw.fin i j k=(x.fin i j k).uw:=rfl
theorem S99 (l:List Int):x.uw.fo l=(x.fo l).uw:=rfl
theorem Ta0 (l:List Int):x.uw.re l=(x.re l).uw:=rfl
theorem WT (p s w:List Int):x.uw.setPl p s w=(x.setPl p s w).uw:=rfl
theorem Ta1 (f:Gh->Gh):x.uw.gh f=(x.gh f).uw:=rfl
theorem Ta2 (i:Int):x.uw.at i=x.at i:=rfl
theorem WU (i j:Int):x.uw.nodeW i j=x.nodeW i j:=rfl
theorem WV (i j:Int):x.uw.nlink i j=x.nlink i j:=rfl
theorem Ta3 (i j:Int):x.uw.na i j=x.na i j:=rfl
theorem Sj6 (a:Int):x.uw.load a=((x.load a).1,(x.load a).2.uw):=by
 unfold B9.load;rw [SA3,SV8];rfl
theorem Oh (a v:Int):x.uw.store a v=(x.store a v).uw:=by
 unfold B9.store;rw [SA3,SA2];rfl
theorem Oi (a o n:Int):x.uw.cas a o n=((x.cas a o n).1,(x.cas a o n).2.uw):=by
 unfold B9.cas;rw [SA3,S69];rfl
theorem Sb3 (a d:Int):x.uw.add a d=((x.add a d).1,(x.add a d).2.uw):=by
 unfold B9.add;rw [SA3,S70];rfl
theorem WW (a w p:Int) (b:Bool):x.uw.swing a w p b=((x.swing a w p b).1,(x.swing a w p b).2.uw):=by
 unfold B9.swing;rw [Oi];rfl
theorem QJ (a w p:Int):x.uw.swingA a w p=((x.swingA a w p).1,(x.swingA a w p).2.uw):=by
 unfold B9.swingA;rw [Oi]
theorem QK (a w p:Int) (b:Bool):x.uw.swingM a w p b=((x.swingM a w p b).1,(x.swingM a w p b).2.uw):=by
 unfold B9.swingM;rw [Oi]
theorem WX (n:Int):x.uw.drop1 n=((x.drop1 n).1,(x.drop1 n).2.uw):=by
 unfold B9.drop1;rw [Sb3];rfl
theorem WY (i j:Int):x.uw.guard i j=(x.guard i j).uw:=by
 unfold B9.guard;rw [Oh];rfl
theorem WZ (m:Mac):({ x.uw with m:=m.uw }:B9)=({ x with m:=m }:B9).uw:=rfl
theorem Ta4 (m:Mac) (t:Thr) (i:Int):(⟨m.uw,t,i⟩ : B9)=(⟨m,t,i⟩ : B9).uw:=rfl
theorem SW2 {c:Prop} [Decidable c] (a b:B9):(if c then a.uw else b.uw)=(if c then a else b).uw:=by split <;> rfl
end
theorem QL {c:Prop} {i1 i2:Decidable c} {a b a' b':B9} (h1:a=a'.uw) (h2:b=b'.uw):@ite _ c i1 a b=(@ite _ c i2 a' b').uw:=by
 by_cases h:c
 ·rw [A8 h,A8 h];exact h1
 ·rw [A7 h,A7 h];exact h2
theorem t_uncongW {P:Prop} (h:P:=by (repeat' (first | rfl | apply QL))):P:=h
theorem Cc:type_of% (J9 @Tk1 (J9 @Tg2 (J9 @S97 (J9 @SA3 (J9 @Tk2 (J9 @WS (J9 @SV9 (J9 @Tk3 (J9 @S98 (J9 @Sj4 (J9 @SW0 (J9 @Sj5 (J9 @SW1 (J9 @S99 (J9 @Ta0 (J9 @WT (J9 @Ta1 (J9 @Ta2 (J9 @WU (J9 @WV (J9 @Ta3 (J9 @Sj6 (J9 @Oh (J9 @Oi (J9 @Sb3 (J9 @WW (J9 @QJ (J9 @QK (J9 @WX (J9 @WY (J9 @WR (J9 @Sj3 (J9 @WQ (J9 @WP (J9 @WZ (J9 @Ta4 @SW2)))))))))))))))))))))))))))))))))))):=J9 @Tk1 (J9 @Tg2 (J9 @S97 (J9 @SA3 (J9 @Tk2 (J9 @WS (J9 @SV9 (J9 @Tk3 (J9 @S98 (J9 @Sj4 (J9 @SW0 (J9 @Sj5 (J9 @SW1 (J9 @S99 (J9 @Ta0 (J9 @WT (J9 @Ta1 (J9 @Ta2 (J9 @WU (J9 @WV (J9 @Ta3 (J9 @Sj6 (J9 @Oh (J9 @Oi (J9 @Sb3 (J9 @WW (J9 @QJ (J9 @QK (J9 @WX (J9 @WY (J9 @WR (J9 @Sj3 (J9 @WQ (J9 @WP (J9 @WZ (J9 @Ta4 @SW2)))))))))))))))))))))))))))))))))))
theorem SW3 (x:B9):alloc x.uw=(alloc x).uw:=by unfold alloc;dsimp only;simp only [Cc]
theorem Sb4 (x:B9):AC x.uw=(AC x).uw:=by unfold AC;dsimp only;simp only [Cc]
theorem Sb5 (x:B9):AD x.uw=(AD x).uw:=by unfold AD;simp only [SW3,Sb4];simp only [Cc];all_goals exact t_uncongW
theorem Sb6 (x:B9):AE x.uw=(AE x).uw:=by unfold AE;dsimp only;simp only [Cc]
theorem S71 (x:B9):JS x.uw=(JS x).uw:=by unfold JS;dsimp only;simp only [Cc]
theorem SA4 (x:B9):Ci x.uw=(Ci x).uw:=by unfold Ci;dsimp only;simp only [Cc];all_goals exact t_uncongW
theorem SW4 (x:B9) (all:Int):Cj x.uw all=(Cj x all).uw:=by unfold Cj;simp only [Cc];all_goals exact t_uncongW
theorem SW5 (x:B9):GL x.uw=(GL x).uw:=by
 unfold GL
 rw [Tg2]
 cases x.t.found <;> rfl
theorem S72 (x:B9):scan x.uw=(scan x).uw:=by
 have e0:(if x.uw.f.pc=0 then x.uw.fo [] else x.uw)=(if x.f.pc=0 then x.fo [] else x).uw:=by exact t_uncongW
 unfold scan
 dsimp only
 rw [e0]
 generalize (if x.f.pc=0 then x.fo [] else x)=y
 simp only [Cc]
 simp only [SW4,SW5]
 exact t_uncongW
theorem Ig (x:B9):V0 x.uw=(V0 x).uw:=by unfold V0;simp only [Sb6,S71,SA4,S72,Sb5];simp only [Cc];all_goals exact t_uncongW
theorem SW6 (x:B9):EV x.uw=(EV x).uw:=by unfold EV;dsimp only;simp only [Cc];all_goals exact t_uncongW
theorem SW7 (x:B9):EW x.uw=(EW x).uw:=by unfold EW;dsimp only;simp only [Cc];all_goals exact t_uncongW
theorem Xa (x:B9):Y4 x.uw=(Y4 x).uw:=by unfold Y4 FN;dsimp only;simp only [Cc];all_goals exact t_uncongW
theorem SW8 (x:B9):EX x.uw=(EX x).uw:=by unfold EX FN IP Ls;dsimp only;simp only [Cc];all_goals exact t_uncongW
theorem S73 (x:B9):JU x.uw=(JU x).uw:=by unfold JU IQ IP Ls;dsimp only;simp only [Cc];all_goals exact t_uncongW
theorem SW9 (x:B9):EY x.uw=(EY x).uw:=by unfold EY;simp only [SW7,Xa,SW8,S73];simp only [Cc];all_goals exact t_uncongW
theorem SX0 (x:B9):DF x.uw=(DF x).uw:=by unfold DF;dsimp only;simp only [Cc];all_goals exact t_uncongW
theorem SX1 (x:B9):DG x.uw=(DG x).uw:=by unfold DG;dsimp only;simp only [Cc];simp only [SX0];all_goals exact t_uncongW
theorem SA5 (x:B9) (a:Nat) (i j:Int):Af x.uw a i j=(Af x a i j).uw:=by unfold Af;dsimp only;simp only [Cc];all_goals exact t_uncongW
theorem SX2 (x:B9) (a:Nat) (j:Int):Eo x.uw a j=(Eo x a j).uw:=by unfold Eo;dsimp only;simp only [Cc];all_goals exact t_uncongW
theorem Xb (x:B9):En x.uw=(En x).uw:=by unfold En;dsimp only;simp only [Cc];all_goals exact t_uncongW
theorem SX3 (x:B9):EZ x.uw=(EZ x).uw:=by unfold EZ;dsimp only;simp only [Cc];simp only [Xb];all_goals exact t_uncongW
theorem SX4 (x:B9):Fa x.uw=(Fa x).uw:=by unfold Fa;dsimp only;simp only [Cc];simp only [SA5,SX2,SX3,Xb];simp only [Cc];all_goals exact t_uncongW
theorem Sb7 (x:B9):Z9 x.uw=(Z9 x).uw:=by unfold Z9;simp only [SW6,SW9,SX1,SX4,Ig];simp only [Cc];all_goals exact t_uncongW
theorem Oj (x:B9):Y5 x.uw=(Y5 x).uw:=by unfold Y5;dsimp only;simp only [Cc];all_goals exact t_uncongW
theorem Xc (x:B9) (w:Int):CH x.uw w=(CH x w).uw:=by unfold CH;dsimp only;simp only [Cc];simp only [Oj];all_goals exact t_uncongW
theorem SX5 (x:B9):Fb x.uw=(Fb x).uw:=by unfold Fb;dsimp only;simp only [Cc];simp only [Oj,Xc];all_goals exact t_uncongW
theorem SX6 (x:B9):Fc x.uw=(Fc x).uw:=by unfold Fc;dsimp only;simp only [Cc];simp only [SX5,Xc];all_goals exact t_uncongW
theorem SA6 (x:B9):Ck x.uw=(Ck x).uw:=by unfold Ck;simp only [SX6,Ig];simp only [Cc];all_goals exact t_uncongW
theorem SA7 (x:B9):Cm x.uw=(Cm x).uw:=by unfold Cm;dsimp only;simp only [Cc];all_goals exact t_uncongW
theorem SX7 (x:B9):FO x.uw=(FO x).uw:=by unfold FO;dsimp only;simp only [Cc];all_goals exact t_uncongW
theorem Sb8 (x:B9):AF x.uw=(AF x).uw:=by unfold AF;dsimp only;simp only [Cc];all_goals exact t_uncongW
theorem Sb9 (x:B9):AG x.uw=(AG x).uw:=by unfold AG;dsimp only;simp only [Cc];all_goals exact t_uncongW
theorem Sc0 (x:B9):AH x.uw=(AH x).uw:=by unfold AH;dsimp only;simp only [Cc];all_goals exact t_uncongW
theorem SA8 (x:B9):Cn x.uw=(Cn x).uw:=by unfold Cn;simp only [SA7,SX7,Sb8,Sb9,Sc0];simp only [Cc];all_goals exact t_uncongW
theorem QM (x:B9):Br x.uw=(Br x).uw:=rfl
theorem SA9 (x:B9):AW x.uw=(AW x).uw:=by unfold AW;dsimp only;simp only [Cc];simp only [QM];all_goals exact t_uncongW
theorem SB0 (x:B9):AX x.uw=(AX x).uw:=by unfold AX;dsimp only;simp only [Cc];all_goals exact t_uncongW
theorem SB1 (x:B9):AY x.uw=(AY x).uw:=by unfold AY;dsimp only;simp only [Cc];all_goals exact t_uncongW
theorem Sc1 (x:B9):Y6 x.uw=(Y6 x).uw:=by unfold Y6;dsimp only;simp only [Cc];simp only [QM];all_goals exact t_uncongW
theorem SB2 (x:B9):Co x.uw=(Co x).uw:=by unfold Co;simp only [SA9,SB0,SB1,Sc1];simp only [Cc];all_goals exact t_uncongW
theorem SQ (x:B9):S3 x.uw=(S3 x).uw:=by unfold S3;dsimp only;simp only [SA6,SA8,SB2];simp only [Cc];all_goals exact t_uncongW
theorem Sc2 (x:B9):X3 x.uw=(X3 x).uw:=by unfold X3;dsimp only;simp only [Cc];all_goals exact t_uncongW
theorem Xd (x:B9):CI x.uw=(CI x).uw:=rfl
theorem SB3 (x:B9):Cp x.uw=(Cp x).uw:=by unfold Cp;dsimp only;simp only [Cc];simp only [Xd];all_goals exact t_uncongW
theorem SX8 (x:B9):Fe x.uw=(Fe x).uw:=by unfold Fe;dsimp only;simp only [Cc];simp only [Xd,Sc2,SB3];repeat' (first | with_reducible rfl | apply QL | rfl)
theorem Xe (x:B9):Aq x.uw=(Aq x).uw:=by unfold Aq;simp only [SX8,Ig];simp only [Cc];all_goals exact t_uncongW
theorem SB4 (x:B9):Cq x.uw=(Cq x).uw:=by unfold Cq;dsimp only;simp only [Cc];all_goals exact t_uncongW
theorem SB5 (x:B9):Cr x.uw=(Cr x).uw:=by unfold Cr;dsimp only;simp only [Cc];all_goals exact t_uncongW
theorem QN (x:B9):Bs x.uw=(Bs x).uw:=rfl
theorem SB6 (x:B9):Cs x.uw=(Cs x).uw:=by unfold Cs;dsimp only;simp only [Cc];simp only [QN];all_goals exact t_uncongW
theorem SB7 (x:B9):Ct x.uw=(Ct x).uw:=by unfold Ct;dsimp only;simp only [Cc];simp only [QN,SB6];all_goals exact t_uncongW
theorem SB8 (x:B9):Cu x.uw=(Cu x).uw:=by unfold Cu;dsimp only;simp only [Cc];all_goals exact t_uncongW
theorem SX9 (x:B9):FP x.uw=(FP x).uw:=by unfold FP;dsimp only;simp only [Cc];all_goals exact t_uncongW
theorem Sc3 (x:B9):AI x.uw=(AI x).uw:=by unfold AI;dsimp only;simp only [Cc];all_goals exact t_uncongW
theorem Sc4 (x:B9):AJ x.uw=(AJ x).uw:=by unfold AJ;dsimp only;simp only [Cc];all_goals exact t_uncongW
theorem SB9 (x:B9):Cv x.uw=(Cv x).uw:=by unfold Cv;dsimp only;simp only [Cc];all_goals exact t_uncongW
theorem SC0 (x:B9):Cw x.uw=(Cw x).uw:=by unfold Cw;simp only [SB8,SX9,Sc3,Sc4,SB9];simp only [Cc];all_goals exact t_uncongW
theorem SC1 (x:B9):Bt x.uw=(Bt x).uw:=by unfold Bt;dsimp only;simp only [Cc];all_goals exact t_uncongW
theorem S74 (x:B9):IF x.uw=(IF x).uw:=by unfold IF;dsimp only;simp only [Cc];all_goals exact t_uncongW
theorem SC2 (x:B9):Bu x.uw=(Bu x).uw:=by unfold Bu;dsimp only;simp only [Cc];all_goals exact t_uncongW
theorem SY0 (x:B9):DH x.uw=(DH x).uw:=by unfold DH;dsimp only;simp only [Cc];all_goals exact t_uncongW
theorem SC3 (x:B9):Bv x.uw=(Bv x).uw:=by unfold Bv;simp only [SC1,S74,SC2,SY0];simp only [Cc];all_goals exact t_uncongW
theorem Xf (x:B9):V1 x.uw=(V1 x).uw:=by unfold V1;dsimp only;simp only [Xe,SC0,SB4,SB5,SB7,SC3];simp only [Cc];all_goals exact t_uncongW
theorem SR {d:B9->B9} (hd:∀x,d x.uw=(d x).uw):∀(n:Nat) (x:B9),bits d n x.uw=(bits d n x).map B9.uw
 | 0,x=>by
  unfold bits
  show (if (x.m.acted || x.t.fr.isEmpty)=true then _ else _)=_
  split <;> rfl
 | n+1,x=>by
  unfold bits
  show (if (x.m.acted || x.t.fr.isEmpty)=true then _ else _)=_
  split
  ·rfl
  ·rw [hd];exact SR hd n (d x)
end Go.Proofs.YtahpbclnkofhfaaGreat.Mod
end
namespace Go.Proofs.YtahpbclnkofhfaaGreat
section
set_option maxHeartbeats 1000000
open Mod
def Mod.Pl.whr (p:Pl) (a:Int):Int × Int × Int:=
 if a < 0\/p.size<=a then (5,0,0) else if a < p.hazards then (0,a,0) else if a < p.links then (1,(a - p.hazards) / p.slots,(a - p.hazards) % p.slots)
 else if a < p.nodes then (2,a - p.links+1,0) else if a < p.tree then (3,(a - p.nodes) / p.width+1,(a - p.nodes) % p.width) else (4,a - p.tree,0)
structure CC where
 th:Int
 kind:Int
 done:Bool
 w1:Int × Int × Int
 w2:Int × Int × Int
def Ai (x:CC):List vQ:=[iQ x.th,iQ x.kind,dQ x.done,iQ x.w1.1,iQ x.w1.2.1,iQ x.w1.2.2,iQ x.w2.1,iQ x.w2.2.1,iQ x.w2.2.2]
theorem DZ (x:CC):(Ai x).length=9:=rfl
def Az (p:Pl) (k:Int) (a:Acc):CC:=⟨k,a.kind,a.done,p.whr a.a,p.whr a.b⟩
structure Do where
 m:Mac
 nx:List Int
 l:List CC
def Do.note (s:Do) (k:Int):Do:={ s with l:=s.l ++ (s.m.mm.lg.drop s.l.length).map (Az s.m.p k) }
def Do.enter (ins:Int) (calls:List (List Cl)) (s:Do) (k:Nat):Option Do:=
 if (F7 s.m k).fr = [] then
  if (calls.getD k []).length<=(s.nx.getD k 0).toNat then none
  else some { s with m:=s.m.setTh (s.m.th.set k ((F7 s.m k).push (ins+((calls.getD k []).getD (s.nx.getD k 0).toNat DY).op) [((calls.getD k []).getD (s.nx.getD k 0).toNat DY).key,((calls.getD k []).getD (s.nx.getD k 0).toNat DY).val])),nx:=s.nx.set k (s.nx.getD k 0+1) }
 else some s
noncomputable def Do.go (d:B9->B9) (s:Do) (k:Nat):Do:={ s with m:=(R8 d ⟨s.m.quiet,F7 s.m k,k⟩).m.setTh (s.m.th.set k (R8 d ⟨s.m.quiet,F7 s.m k,k⟩).t) }
noncomputable def Do.pick (d:B9->B9) (ins:Int) (calls:List (List Cl)) (s:Do) (k:Int):Do:=match s.enter ins calls k.toNat with
 | none=>s
 | some s1=>s1.go d k.toNat
noncomputable def Ih (d:B9->B9) (ins:Int) (calls:List (List Cl)) (m:Mac) (C2:List Int):Do:=C2.foldl (λs k=>(s.pick d ins calls k).note k) ⟨m,List.replicate calls.length 0,[]⟩
structure Km (Inv:Nat->Mac->Prop) (calls:List (List Cl)) (j:Nat) (s:Do):Prop where
 inv:Inv j s.m
 th:s.m.th.length=calls.length
 nx:∀k,k < calls.length->0<=s.nx.getD k 0/\s.nx.getD k 0<=(calls.getD k []).length
def Tk4 (p:Pl) (n:Nat) (x:CC):Prop:=∃e,WE p x.th n e/\x=Az p x.th e
structure GP (c:Mod.Cf) (s:Do):Prop where
 all:∀(k:Nat) t,s.m.th[k]? = some t->∀f ∈ t.fr,GD f
 wt:s.m.mm.wt=true
 lg:s.m.mm.lg.length=s.l.length
 en:∀x ∈ s.l,Tk4 (E1 c) (E1 c).size.toNat x
section
variable {d:B9->B9} {Q:Mod.Cf->N6->Prop} {W:B9->Prop} {ins:Int} {c:Mod.Cf} {calls:List (List Cl)} {s:Do}
structure S75 (calls:List (List Cl)) (Inv:Nat->Mac->Prop) (j k:Nat) (s s1:Do):Prop where
 inv:Inv j s1.m
 th:s1.m.th.length=calls.length
 nx:∀k,k < calls.length->0<=s1.nx.getD k 0/\s1.nx.getD k 0<=(calls.getD k []).length
 l:s1.l=s.l
 mm:s1.m.mm=s.m.mm
 ne:(F7 s1.m k).fr≠[]
 all:∀(k:Nat) t,s1.m.th[k]? = some t->∀f ∈ t.fr,GD f
theorem Ta5 {Inv:Nat->Mac->Prop} (G:NO d W ins Inv) (C:De calls) {j k:Nat} (hk:k < calls.length) (O:Km Inv calls j s) (F:GP c s) :
  s.pick d ins calls k=s\/∃s1,s.pick d ins calls k=s1.go d k/\S75 calls Inv j k s s1:=by
 have hk2:k < s.m.th.length:=by rw [O.th];exact hk
 have ht:=W9 hk2
 unfold Do.pick Do.enter
 rw [X5]
 by_cases he:(F7 s.m k).fr = []
 ·rw [A8 he]
  by_cases hlt:(calls.getD k []).length<=(s.nx.getD k 0).toNat
  ·rw [A8 hlt]
   exact .inl rfl
  rw [A7 hlt]
  refine .inr ⟨_,rfl,?_⟩
  have hmem:calls.getD k [] ∈ calls:=by
   have:calls.getD k []=calls[k]:=by rw [An,X7 hk];rfl
   rw [this];exact CD hk
  have hqlt:(s.nx.getD k 0).toNat < (calls.getD k []).length:=by omega
  have hcq:(calls.getD k []).getD (s.nx.getD k 0).toNat DY=(calls.getD k [])[(s.nx.getD k 0).toNat]:=by rw [An,X7 hqlt];rfl
  have hcB:=(C.cl _ hmem).2 _ (CD hqlt)
  rw [<- hcq] at hcB
  generalize (calls.getD k []).getD (s.nx.getD k 0).toNat DY=cq at *
  refine ⟨G.push j s.m k _ cq O.inv ht he (SJ hcB.1) hcB.2.1 hcB.2.2,?_,Tg1 hk hqlt O.nx,rfl,rfl,?_,?_⟩
  ·show (s.m.th.set k _).length=_
   rw [Ca];exact O.th
  ·show (F7 (s.m.setTh _) k).fr≠[]
   rw [IA hk2]
   unfold Mod.Thr.push
   simp
  ·intro k' t h f hf
   have h:(s.m.th.set k ((F7 s.m k).push (ins+cq.op) [cq.key,cq.val]))[k']? = some t:=h
   rw [OD] at h
   split at h
   ·try rw [A8 (by omega)] at h
    have h:=Option.some.inj h
    subst h
    have hf:f ∈ (F7 s.m k).fr ++ [⟨ins+cq.op,0,Ax 10 [cq.key,cq.val]⟩]:=hf
    rw [he] at hf
    rw [Fq.1 hf]
    exact ⟨DT _ _,λ_ h=>by cases h⟩
   ·exact F.all k' t h f hf
 ·rw [A7 he]
  exact .inr ⟨s,rfl,O.inv,O.th,O.nx,rfl,rfl,he,F.all⟩
structure TrR (c:Mod.Cf) (k:Int) (s t:Do):Prop where
 a:t.l=s.l/\t.m.mm.st=s.m.mm.st\/t.m.mm.st=s.m.mm.st+1/\∃e,WE (E1 c) k (E1 c).size.toNat e/\t.l=s.l ++ [Az (E1 c) k e]
theorem Sj7 (D:Jq d Q W ins) (hB:If d Q) (C:De calls) {j k:Nat} (hk:k < calls.length) (hj:j < 100000) (O:Km (At Q c) calls j s) (F:GP c s) :
  Km (At Q c) calls (j+1) ((s.pick d ins calls k).note k)/\GP c ((s.pick d ins calls k).note k)/\TrR c k s ((s.pick d ins calls k).note k):=by
 have G:=At.good (c:=c) D
 have hno:s.note k=s:=by
  unfold Do.note
  rw [List.drop_eq_nil_of_le (by rw [F.lg];exact G0 _),QZ,Xv]
 rcases Ta5 G C hk O F with e | ⟨s1,e,B⟩
 ·rw [e,hno]
  exact ⟨⟨G.mono _ _ O.inv,O.th,O.nx⟩,F,⟨.inl ⟨rfl,rfl⟩⟩⟩
 rw [e]
 have hk3:k < s1.m.th.length:=by rw [B.th];exact hk
 have ht:=W9 hk3
 obtain ⟨nn,z,hz,_,_,hzt,hI2⟩:=G.step j s1.m k _ B.inv hj ht B.ne
 have hzs:R8 d ⟨s1.m.quiet,F7 s1.m k,k⟩=z:=FT hz
 have S:=WJ D hB B.inv ht (B.all k _ ht) hz
 have o:=S.one
 have e2:(⟨s1.m.quiet,F7 s1.m k,(k:Int)⟩ : B9).m.mm=s.m.mm:=B.mm
 rw [e2] at o
 have hw:(s.m.mm.w.length:Int)=(E1 c).size:=O.inv.w
 have hwn:s.m.mm.w.length=(E1 c).size.toNat:=by omega
 have hp:z.m.p=E1 c:=hI2.p
 have hgo:s1.go d k = { s1 with m:=z.m.setTh (s1.m.th.set k z.t) }:=by
  unfold Do.go
  rw [hzs]
 have hall:∀(k':Nat) t,(s1.m.th.set k z.t)[k']? = some t->∀f ∈ t.fr,GD f:=by
  intro k' t h
  rw [OD] at h
  split at h
  ·try rw [A8 (by omega)] at h
   have h:=Option.some.inj h
   subst h
   exact S.all
  ·exact B.all k' t h
 have ht2:(s1.m.th.set k z.t).length=calls.length:=by rw [Ca];exact B.th
 rw [hgo]
 refine ⟨⟨hI2,ht2,B.nx⟩,?_⟩
 rcases o.st with ⟨q1,q2⟩ | ⟨q1,a,q2,q3⟩
 ·have en:(Do.note { s1 with m:=z.m.setTh (s1.m.th.set k z.t) } k).l=s.l:=by
   show s1.l ++ (z.m.mm.lg.drop s1.l.length).map _=_
   rw [B.l,q2,List.drop_eq_nil_of_le (by rw [F.lg];exact G0 _),QZ,Xv]
  refine ⟨⟨hall,o.wt.trans F.wt,?_,?_⟩,⟨.inl ⟨en,q1⟩⟩⟩
  ·rw [en]
   show z.m.mm.lg.length=_
   rw [q2];exact F.lg
  ·rw [en];exact F.en
 ·rw [hwn] at q2
  rw [F.wt,A8 rfl] at q3
  have en:(Do.note { s1 with m:=z.m.setTh (s1.m.th.set k z.t) } k).l=s.l ++ [Az (E1 c) k a]:=by
   show s1.l ++ (z.m.mm.lg.drop s1.l.length).map (Az z.m.p k)=_
   rw [B.l,q3,hp,<- F.lg,List.drop_left]
   rfl
  refine ⟨⟨hall,o.wt.trans F.wt,?_,?_⟩,⟨.inr ⟨q1,a,q2,en⟩⟩⟩
  ·rw [en]
   show z.m.mm.lg.length=_
   rw [q3,DK,DK,F.lg]
   rfl
  ·rw [en]
   intro x hx
   rcases GR.1 hx with h | h
   ·exact F.en x h
   ·rw [Fq.1 h]
    exact ⟨a,q2,rfl⟩
theorem Xg {d:B9->B9} (hd:∀x:B9,d x.uw=(d x).uw) (x:B9):R8 d x.uw=(R8 d x).uw:=by
 by_cases h:∃z,∃n,Mod.bits d n x=some z
 ·obtain ⟨z,n,hz⟩:=h
  have h2:Mod.bits d n x.uw=some z.uw:=by rw [SR hd,hz];rfl
  rw [FT hz,FT h2]
 ·have h2:¬ ∃z,∃n,Mod.bits d n x.uw=some z:=by
   rintro ⟨z,n,hz⟩
   rw [SR hd] at hz
   cases hb:Mod.bits d n x with
   | none=>rw [hb] at hz;cases hz
   | some y=>exact h ⟨y,n,hb⟩
  unfold R8
  rw [dif_neg h,dif_neg h2]
structure Lk (s:M6) (t:Do):Prop where
 m:s.m.uw=t.m.uw
 nx:s.nx=t.nx
theorem Tl8 (s:M6) (k:Nat):(s.go d k).m=(R8 d ⟨s.m.quiet,F7 s.m k,k⟩).m.setTh (s.m.th.set k (R8 d ⟨s.m.quiet,F7 s.m k,k⟩).t)/\(s.go d k).nx=s.nx:=by
 unfold M6.go
 split
 ·have:=S95 { s with m:=(R8 d ⟨s.m.quiet,F7 s.m k,k⟩).m.setTh (s.m.th.set k (R8 d ⟨s.m.quiet,F7 s.m k,k⟩).t) } k (FU (R8 d ⟨s.m.quiet,F7 s.m k,k⟩).t)
  exact ⟨this.1,this.2.1⟩
 ·exact ⟨rfl,rfl⟩
theorem Lk.go (hd:∀x:B9,d x.uw=(d x).uw) {s:M6} {t:Do} (h:Lk s t) (k:Nat):Lk (s.go d k) (t.go d k):=by
 have g:=Tl8 (d:=d) s k
 have a1:F7 s.m k=F7 t.m k:=by show F7 s.m.uw k=F7 t.m.uw k;rw [h.m]
 have a2:s.m.th=t.m.th:=by show s.m.uw.th=t.m.uw.th;rw [h.m]
 have e:(R8 d ⟨s.m.quiet,F7 s.m k,k⟩).uw=(R8 d ⟨t.m.quiet,F7 t.m k,k⟩).uw:=by
  rw [<- Xg hd,<- Xg hd,a1]
  show R8 d ⟨s.m.uw.quiet,_,_⟩=R8 d ⟨t.m.uw.quiet,_,_⟩
  rw [h.m]
 refine ⟨?_,g.2.trans h.nx⟩
 rw [g.1]
 unfold Do.go
 rw [a2]
 generalize R8 d ⟨s.m.quiet,F7 s.m k,k⟩=z at *
 generalize R8 d ⟨t.m.quiet,F7 t.m k,k⟩=y at *
 have e1:z.t=y.t:=by show z.uw.t=y.uw.t;rw [e]
 have e2:z.m.uw=y.m.uw:=by show z.uw.m=y.uw.m;rw [e]
 rw [e1]
 show z.m.uw.setTh (t.m.th.set k y.t)=y.m.uw.setTh (t.m.th.set k y.t)
 rw [e2]
theorem Lk.pick (hd:∀x:B9,d x.uw=(d x).uw) {s:M6} {t:Do} (h:Lk s t) (k:Int):Lk (s.pick d ins calls k) ((t.pick d ins calls k).note k):=by
 have a1:F7 s.m k.toNat=F7 t.m k.toNat:=by show F7 s.m.uw k.toNat=F7 t.m.uw k.toNat;rw [h.m]
 have a2:s.m.th=t.m.th:=by show s.m.uw.th=t.m.uw.th;rw [h.m]
 have hn:∀s1:M6,∀t1:Do,Lk s1 t1->Lk s1 (t1.note k):=λs1 t1 h1=>⟨h1.m,h1.nx⟩
 refine hn _ _ ?_
 unfold M6.pick Do.pick Do.enter M6.begin
 rw [a1,h.nx]
 by_cases he:(F7 t.m k.toNat).fr = []
 ·rw [A8 he,A8 he]
  by_cases hl:(calls.getD k.toNat []).length<=(t.nx.getD k.toNat 0).toNat
  ·rw [A8 hl,A8 hl]
   dsimp only
   exact ⟨h.m,rfl⟩
  ·rw [A7 hl,A7 hl]
   dsimp only
   refine Lk.go hd ?_ _
   generalize (calls.getD k.toNat []).getD (t.nx.getD k.toNat 0).toNat DY=cq
   obtain ⟨i1,i2,_⟩:=S94 { s with m:=s.m.setTh (s.m.th.set k.toNat ((F7 t.m k.toNat).push (ins+cq.op) [cq.key,cq.val])),nx:=t.nx.set k.toNat (t.nx.getD k.toNat 0+1) } k.toNat cq
   refine ⟨?_,i2⟩
   rw [i1,a2]
   have e3:∀L,(s.m.setTh L).uw=(t.m.setTh L).uw:=λL=>by show s.m.uw.setTh L=t.m.uw.setTh L;rw [h.m]
   exact e3 _
 ·rw [A7 he,A7 he]
  exact Lk.go hd h _
end
end
section
set_option maxRecDepth 100000
def F38 (K:kQ) (h:A2) (xa:rQ) (xb:Bool):Prop:=
 (D4 (!(Option.isNone xa)) (nP xa λa=>C7 h (a.add 2) (dQ xb) λa=>K tQ a) (K tQ h))
theorem call38 {K:kQ} {h:A2} {xa:rQ} {xb:Bool} (H:F38 K h xa xb):A4 prog 38 #[(pQ xa),(dQ xb)] h K:=
 cQ Tryz.func38 H
def F78 (K:kQ) (h:A2) (xa:rQ):Prop:=
 (D4 (Option.isNone xa) (K (lQ none 0 0) h) (nP xa λa=>lS h (a.add 3) λa b c=>cf 131 #[lQ a b c] h λa b=>D3 a λa c d=>K (lQ a c d) b))
theorem call78 {K:kQ} {h:A2} {xa:rQ} (H:F78 K h xa):A4 prog 78 #[(pQ xa)] h K:=
 cQ Tryz.func78 H
end
section
set_option maxHeartbeats 1000000
open Mod
theorem Sc5 {K:kQ} {h:A2} {p:Pl} {a:Int} (B:Ow p) (ha:iN a) (k:∀h',G9 h.size h h'->K (.tuple #[iQ (p.whr a).1,iQ (p.whr a).2.1,iQ (p.whr a).2.2]) h'):A4 prog 80 #[Pc p,iQ a] h K:=by
 refine call80 ?_
 unfold F80 g80 lI
 have b0:=B.sl
 have b1:=B.wi
 have b2:=B.hz
 have b3:=B.tr
 have b4:=B.nd
 have b5:=B.li
 have b6:=B.si
 unfold Mod.Pl.whr at k
 rw [Hq]
 have p1:=G8 h (Ed p).toArray 117
 generalize h.push (oQ (Ed p).toArray 117)=h1 at *
 have o1:=p1.toOld
 refine ⟨λvs h'=>(∃w,vs = [dQ (decide (a < 0) || decide (a >= p.size)),w])/\h' = h1,?_,?_⟩
 ·refine A6 (λq=>⟨⟨_,by rw [V6 q];rfl⟩,by trivial⟩) (λq=>?_)
  refine C4 p1.new rfl ?_
  simp only [A5]
  exact ⟨⟨_,by rw [S4 q,Oy]⟩,by trivial⟩
 rintro v3 v4 g5 h6 ⟨⟨_,e⟩,rfl⟩
 cases e
 simp only [C0]
 apply D1<;>intro q
 ·rw [Ku,EK,EK] at q
  rw [A8 (by omega)] at k
  exact k _ o1
 rw [SD5,decide_eq_false_iff_not,decide_eq_false_iff_not] at q
 rw [A7 (by omega)] at k
 refine C4 p1.new rfl ?_
 simp only [A5]
 apply A6<;>intro q1
 ·rw [A8 (by omega)] at k
  exact k _ o1
 rw [A7 (by omega)] at k
 refine C4 p1.new rfl ?_
 simp only [A5]
 apply A6<;>intro q2
 ·rw [A8 q2] at k
  refine C4 p1.new rfl ?_
  simp only [A5]
  refine C4 p1.new rfl ?_
  simp only [A5]
  refine ⟨by omega,C4 p1.new rfl ?_⟩
  simp only [A5]
  refine C4 p1.new rfl ?_
  simp only [A5]
  refine ⟨by omega,?_⟩
  have hd0:0<=(a - p.hazards) / p.slots:=Sk2 (by omega) (by omega)
  have hd1:(a - p.hazards) / p.slots<=a - p.hazards:=Sk1 _ (by omega)
  rw [E3 (n:=a - p.hazards) (by omega) (by omega),Sk3 (by omega),E3 (n:=(a - p.hazards) / p.slots) (by omega) (by omega),Sk4 (by omega)]
  exact k _ o1
 rw [A7 q2] at k
 refine C4 p1.new rfl ?_
 simp only [A5]
 apply A6<;>intro q3
 ·rw [A8 q3] at k
  refine C4 p1.new rfl ?_
  simp only [A5]
  rw [E3 (n:=a - p.links) (by omega) (by omega),E3 (n:=a - p.links+1) (by omega) (by omega)]
  exact k _ o1
 rw [A7 q3] at k
 refine C4 p1.new rfl ?_
 simp only [A5]
 apply A6<;>intro q4
 ·rw [A8 q4] at k
  refine C4 p1.new rfl ?_
  simp only [A5]
  refine C4 p1.new rfl ?_
  simp only [A5]
  refine ⟨by omega,C4 p1.new rfl ?_⟩
  simp only [A5]
  refine C4 p1.new rfl ?_
  simp only [A5]
  refine ⟨by omega,?_⟩
  have hd0:0<=(a - p.nodes) / p.width:=Sk2 (by omega) (by omega)
  have hd1:(a - p.nodes) / p.width<=a - p.nodes:=Sk1 _ (by omega)
  rw [E3 (n:=a - p.nodes) (by omega) (by omega),Sk3 (by omega),E3 (n:=(a - p.nodes) / p.width) (by omega) (by omega),E3 (n:=(a - p.nodes) / p.width+1) (by omega) (by omega),Sk4 (by omega)]
  exact k _ o1
 ·rw [A7 q4] at k
  refine C4 p1.new rfl ?_
  simp only [A5]
  rw [E3 (by omega) (by omega)]
  exact k _ o1
abbrev trC (X:RX) (la:rQ) (ln lc:Nat):List vQ:=[mP X.Q,iQ X.c.algo,iQ X.c.threads,iQ X.c.nodes,iQ X.c.level,iQ X.c.batch,iQ X.c.probes,iQ X.c.scan,lQ X.ca X.cl X.cc,lQ X.pa X.pl X.pc,lQ X.da X.dl X.dc,lQ (some ⟨X.NB,0,none⟩) X.n X.n,lQ la ln lc]
def QO (X:RX) (s:Do):Hp:=ex λla=>ex λlc=>pr (s.nx.length=X.n)
 (pt X.RB (oQ (trC X la s.l.length lc).toArray 89)*(E8 51 9 la s.l.length lc (s.l.flatMap Ai)*(pt X.NB (oQ (s.nx.map iv).toArray 3)*CF X.Q X.M X.f X.ins X.Ts s.m)))
theorem Df {h:A2} {X:RX} {s:Do} {R:Hp}:A9 h (QO X s*R)↔∃la lc,s.nx.length=X.n /\
  A9 h (pt X.RB (oQ (trC X la s.l.length lc).toArray 89)*(E8 51 9 la s.l.length lc (s.l.flatMap Ai)*(pt X.NB (oQ (s.nx.map iv).toArray 3)*(CF X.Q X.M X.f X.ins X.Ts s.m*R)))):=by
 unfold QO
 simp only [A9.ex,A9.pr,F2]
theorem Sc6:Be prog 47=.slice 51:=by kernel_rfl
theorem Xh:L0 prog 51=true:=by kernel_rfl
theorem Sc7:GZ prog 51=some (.agg #[iQ 0,iQ 0,dQ false,iQ 0,iQ 0,iQ 0,iQ 0,iQ 0,iQ 0]):=by kernel_rfl
theorem FB:M2 prog 51=9:=by kernel_rfl
theorem SS:EL prog 51=72:=by kernel_rfl
theorem Tg3:Be prog 124=.slice 144:=by kernel_rfl
theorem SY1:L0 prog 144=true:=by kernel_rfl
theorem Tg4:GZ prog 144=some (.agg #[iQ 0,iQ 0,iQ 0,dQ false]):=by kernel_rfl
theorem Sc8:M2 prog 144=4:=by kernel_rfl
theorem SY2:EL prog 144=32:=by kernel_rfl
section
variable {K:kQ} {h:A2} {X:RX} {s:Do} {R:Hp} {calls:List (List Cl)} {C2:List Int}
theorem SY3 (H:A9 h (QO X s*R)) {k:Nat} (hk:k < X.n):A3 h ⟨X.NB,k,none⟩=some (iQ (s.nx.getD k 0)):=by
 obtain ⟨la,lc,hl,H1⟩:=Df.1 H
 have hk2:k < s.nx.length:=by omega
 rw [E5 (H1.drop.drop).at]
 simp [hk2,iv]
theorem SY4 (H:A9 h (QO X s*R)) {k:Nat} (hk:k < X.n) {v:Int} {F:A2->Prop} (kk:∀h',A9 h' (QO X { s with nx:=s.nx.set k v }*R)->F h'):C7 h ⟨X.NB,k,none⟩ (iQ v) F:=by
 obtain ⟨la,lc,hl,H1⟩:=Df.1 H
 have hk2:k < s.nx.length:=by omega
 rw [Jk] at H1
 refine Dv (row:=s.nx.map iv) (i:=k) H1 (by simpa using hk2) trivial λh' H'=>kk h' ?_
 have e:(s.nx.map iv).set k (iQ v)=(s.nx.set k v).map iv:=by rw [Ra];try rfl
 rw [e,<- Jk] at H'
 exact Df.2 ⟨la,lc,by simp [hl],H'⟩
theorem Kn (H:A9 h (QO X s*R)):∃la lc,h[X.RB]? = some (oQ (trC X la s.l.length lc).toArray 89):=by
 obtain ⟨la,lc,hl,H1⟩:=Df.1 H
 exact ⟨la,lc,H1.at⟩
theorem SU (H:A9 h (QO X s*R)):∃Q':Hp,A9 h (CF X.Q X.M X.f X.ins X.Ts s.m*(Q' * R))/\∀h' m' P,A9 h' (CF X.Q X.M X.f X.ins X.Ts m' * (Q' * P))->A9 h' (QO X { s with m:=m' }*P):=by
 obtain ⟨la,lc,hl,H1⟩:=Df.1 H
 refine ⟨pt X.RB (oQ (trC X la s.l.length lc).toArray 89)*(E8 51 9 la s.l.length lc (s.l.flatMap Ai)*pt X.NB (oQ (s.nx.map iv).toArray 3)),A9.ac H1 (by ac_rfl),λh' m' P H'=>?_⟩
 exact Df.2 ⟨la,lc,hl,A9.ac H' (by ac_rfl)⟩
theorem SV {a:rQ} {n c:Nat} {lg:List Acc} (hs:N5 h a (lg.flatMap Fw)) (hn:lg.length=n) (h0:a=none->n=0) (hb:n<=1000000) (k:∀h' a' c',G9 h.size h h'->(∀P:Hp,A9 h P->A9 h' (E8 144 4 a' n c' (lg.flatMap Fw)*P))->K (lQ a' n c') h') :
  A4 prog 131 #[lQ a n c] h K:=by
 refine call131 ?_
 unfold F131
 apply D1<;>intro hh
 ·have ea:a=none:=by cases a with | none=>rfl | some x=>cases hh
  have hn0:=h0 ea
  subst hn0
  have e0:lg = []:=Xx.1 hn
  subst e0
  exact k h none 0 (G9.refl _ _) λP HP=>HP.own_new 144 4
 ·have o1:G9 h.size h (h.push (oQ #[] 144)):=(G9.refl _ _).push _ (G0 _)
  have hs1:=hs.old o1
  have ow:CS (h.push (oQ #[] 144)) 144 (M2 prog 144) (some (aQ h.size)) 0 0 []:=⟨by simp,G0 _,.inr ⟨h.size,#[],rfl,by simp,by simp,by simp⟩⟩
  have sz:(h.push (oQ #[] 144)).size=h.size+1:=by simp
  generalize h.push (oQ #[] 144)=h1 at *
  refine FL Tg3 SY1 Tg4 (by rw [Sc8];rfl) ow hs1 (n:=n) (by rw [Sc8,Ch Nq,hn]) (λy hy=>?_) (by rw [SY2];omega) (by rw [SY2];omega) λa' c' h2 o' hsz old ha=>?_
  ·obtain ⟨x,_,hx⟩:=List.mem_flatMap.1 hy
   simp only [Fw,ED,GF,or_false] at hx
   rcases hx with rfl | rfl | rfl | rfl <;> trivial
  rw [J6] at o' ⊢
  refine sb ?_
  have o2:G9 h.size h h2:=⟨by omega,λb hb=>(old b (by omega) λad ea=>by cases ea;exact λe=>by simp at e;omega).trans (o1.2 b hb)⟩
  have fb:∀b,GU a' b->h.size<=b:=by
   rintro b ⟨ad,e,rfl⟩
   rcases ha with ha | ⟨ha,_⟩
   ·rw [e] at ha;cases ha;exact G0 _
   ·rw [e] at ha;cases ha;show h.size<=h1.size;omega
  rw [Sc8,OG] at o'
  exact k h2 a' c' o2 λP HP=>HP.mk_new o2 (λb hb=>⟨fb b hb,o'.lt2 hb⟩) o'.nd λh'' e=>o'.congr e
theorem Xi {q:Nat} {m:Mm} (H:A9 h (R7 q m*R)) (hb:m.lg.length<=1000000) (k:∀h' a c,G9 h.size h h'->(∀P:Hp,A9 h P->A9 h' (E8 144 4 a m.lg.length c (m.lg.flatMap Fw)*P))->K (lQ a m.lg.length c) h') :
  A4 prog 78 #[mP q] h K:=by
 refine call78 ?_
 unfold F78 cf lS nP
 obtain ⟨b,la,lc,MB,H1⟩:=Ar.1 H
 refine D1 (λhh=>by cases hh) (λ_=>?_)
 refine sb ?_
 refine H1.ld rfl ?_
 refine sb ?_
 have ow:=H1.drop.drop.own
 refine A0 (SV ow.sees rfl (λe=>?_) hb λh2 a c o2 own=>?_)
 ·obtain ⟨_,h2,h3⟩:=ow
  rcases h3 with ⟨_,hc⟩ | ⟨b,row,e2,_⟩
  ·omega
  ·rw [e] at e2;cases e2
 ·refine sb ?_
  exact k h2 a c o2 own
theorem Px {q:Nat} {m:Mm} {on:Bool} (H:A9 h (R7 q m*R)) (k:∀h',A9 h' (R7 q { m with wt:=on }*R)->K tQ h'):A4 prog 38 #[mP q,dQ on] h K:=by
 refine call38 ?_
 unfold F38 nP
 obtain ⟨b,la,lc,MB,H1⟩:=Ar.1 H
 refine D1 (λ_=>?_) (λhh=>by cases hh)
 refine sb ?_
 refine H1.st (i:=2) rfl trivial λh' H'=>k h' (Ar.2 ⟨b,la,lc,⟨MB.len,MB.st,MB.lg,MB.us⟩,H'⟩)
def TrI (d:B9->B9) (X:RX) (R:Hp) (calls:List (List Cl)) (Inv:Nat->Mac->Prop) (j k:Nat) (s:Do) (h':A2):Prop:=
 ∃s1:Do,s.pick d X.ins calls k=s1.go d k/\Inv j s1.m/\s1.m.th.length=calls.length/\(∀k,k < calls.length->0<=s1.nx.getD k 0/\s1.nx.getD k 0<=(calls.getD k []).length)/\s1.l=s.l/\(F7 s1.m k).fr≠[]/\A9 h' (QO X s1*R)
variable {d:B9->B9} {W:B9->Prop} {Inv:Nat->Mac->Prop}
theorem Xj (D:DoC X.f d W) (G:NO d W X.ins Inv) (C:De calls) (hn:X.n=calls.length) (hins:0<=X.ins/\X.ins<=100) (H:A9 h (QO X s*R)) (hS:∀h' P,A9 h' (P*R)->VG h' X.ca X.cl X.pa X.pl calls C2) {j k:Nat} (hk:k < calls.length) (hj:j < 100000) (O:Km Inv calls j s)
  (kk:∀h',Km Inv calls (j+1) (s.pick d X.ins calls k)->(s.pick d X.ins calls k).l=s.l->A9 h' (QO X (s.pick d X.ins calls k)*R)->K tQ h') :
  A4 prog 39 #[mP X.RB,iQ k] h K:=by
 refine call39 ?_
 unfold F39 cf bd lS lP lI nP
 have hk2:k < s.m.th.length:=by rw [O.th];exact hk
 have hC:=C.n
 refine ⟨λ_ h'=>TrI d X R calls Inv j k s h',?_,?_⟩
 ·obtain ⟨la,lc,O1⟩:=Kn H
  refine sb ?_
  refine C4 O1 rfl ?_
  refine sb ?_
  obtain ⟨Q',H2,re⟩:=SU H
  refine A0 (Fp H2 hk2 ?_)
  refine sb ?_
  apply D1<;>intro hb
  ·have he:(F7 s.m k).fr = []:=List.isEmpty_iff.1 (by simpa using hb)
   have scr:∀ {h':A2} {P:Hp},A9 h' (P*R)->VG h' X.ca X.cl X.pa X.pl calls C2:=λH'=>hS _ _ H'
   have F0:=scr H
   have hcs:=F0.cs
   have cN:=SY3 H (k:=k) (by omega)
   have hnx:=O.nx k hk
   obtain ⟨ra,rc,⟨ad,ea2,hcr⟩,hrow⟩:=F0.row k hk
   refine C4 O1 rfl ?_
   refine sb ?_
   refine ⟨by omega,by omega,?_⟩
   refine C6 cN ?_
   refine sb ?_
   refine C4 O1 rfl ?_
   rw [ea2]
   refine sb ?_
   refine ⟨by omega,by omega,?_⟩
   refine C6 hcr ?_
   refine sb ?_
   apply A6<;>intro c1
   ·have e:s.pick d X.ins calls k=s:=by
     unfold Do.pick Do.enter
     rw [X5,A8 he,A8 (by omega)]
    rw [e] at kk
    exact kk h ⟨G.mono _ _ O.inv,O.th,O.nx⟩ rfl H
   refine C4 O1 rfl ?_
   refine sb ?_
   refine C4 O1 rfl ?_
   rw [ea2]
   refine sb ?_
   refine ⟨by omega,by omega,?_⟩
   refine C6 hcr ?_
   refine sb ?_
   refine C4 O1 rfl ?_
   refine sb ?_
   refine ⟨by omega,by omega,?_⟩
   refine C6 cN ?_
   refine sb ?_
   refine ⟨by omega,by omega,?_⟩
   generalize hq:(s.nx.getD k 0).toNat=q at *
   have hqlt:q < (calls.getD k []).length:=by omega
   have hmem:calls.getD k [] ∈ calls:=by
    have:calls.getD k []=calls[k]:=by rw [An,X7 hk];rfl
    rw [this];exact CD hk
   have hcq:(calls.getD k []).getD q DY=(calls.getD k [])[q]:=by rw [An,X7 hqlt];rfl
   have hcB:=(C.cl _ hmem).2 _ (CD hqlt)
   have hlen:=(C.cl _ hmem).1
   have g0:=N0 BK hqlt (j:=0) (by omega)
   have g1:=N0 BK hqlt (j:=1) (by omega)
   have g2:=N0 BK hqlt (j:=2) (by omega)
   rw [<- hcq] at g0 g1 g2 hcB
   have hbeg:s.enter X.ins calls k=some { s with m:=s.m.setTh (s.m.th.set k ((F7 s.m k).push (X.ins+((calls.getD k []).getD q DY).op) [((calls.getD k []).getD q DY).key,((calls.getD k []).getD q DY).val])),nx:=s.nx.set k (s.nx.getD k 0+1) }:=by
    unfold Do.enter
    rw [A8 he,hq,A7 (by omega)]
   generalize (calls.getD k []).getD q DY=cq at *
   obtain ⟨ad3,ea3,q0⟩:=hrow (q*3+0) (.int .i64 cq.op) g0
   subst ea3
   obtain ⟨_,ea4,q1⟩:=hrow (q*3+1) (.int .u32 cq.key) g1
   cases ea4
   obtain ⟨_,ea4,q2⟩:=hrow (q*3+2) (.int .u32 cq.val) g2
   cases ea4
   have aa:∀i,(ad3.add (q*3)).add i=ad3.add (q*3+i):=λi=>Z7 _ _ _
   rw [Lc] at q0
   refine se1 aa ?_
   refine C6 q0 (C6 q1 (C6 q2 ?_))
   obtain ⟨hok,hkey,hval⟩:=hcB
   refine A0 (Kh H2 (i:=k) (c:=cq) hins ⟨hkey,hval⟩ (λhh=>by omega) (λ_ hh=>by rw [hok] at hh;cases hh) (λ_ _ hh=>absurd he (by rw [X5] at hh;exact hh)) λ_ _ _ h5 H5=>?_)
   rw [X5] at H5
   have H6:=re _ _ _ H5
   refine sb ?_
   obtain ⟨la5,lc5,O5⟩:=Kn H6
   have cN5:=SY3 H6 (k:=k) (by omega)
   refine C4 O5 rfl ?_
   refine sb ?_
   refine ⟨by omega,by omega,?_⟩
   refine C6 cN5 ?_
   refine sb ?_
   refine ⟨by omega,by omega,?_⟩
   have hs1:G2 (s.nx.getD k 0+1)=s.nx.getD k 0+1:=by unfold G2;omega
   rw [hs1]
   refine SY4 H6 (by omega) λh7 H7=>?_
   refine ⟨{ m:=s.m.setTh (s.m.th.set k ((F7 s.m k).push (X.ins+cq.op) [cq.key,cq.val])),nx:=s.nx.set k (s.nx.getD k 0+1),l:=s.l },?_,?_,?_,?_,rfl,?_,H7⟩
   ·unfold Do.pick
    rw [X5,hbeg]
   ·exact G.push j s.m k (F7 s.m k) cq O.inv (W9 hk2) he (SJ hok) hkey hval
   ·show (s.m.th.set k _).length=_
    rw [Ca];exact O.th
   ·intro k' hk'
    have:=O.nx k' hk'
    show 0<=(s.nx.set k _).getD k' 0/\(s.nx.set k _).getD k' 0<=_
    by_cases ek:k=k'
    ·subst ek
     rw [An,OD]
     split
     ·split
      ·simp only [Option.getD_some];omega
      ·simp only [Option.getD_none];omega
     ·rename_i hh;exact absurd rfl hh
    ·rw [An,SE0 ek,<- An]
     exact this
   ·have e9:F7 (s.m.setTh (s.m.th.set k ((F7 s.m k).push (X.ins+cq.op) [cq.key,cq.val]))) k=(F7 s.m k).push (X.ins+cq.op) [cq.key,cq.val]:=IA hk2
    show (F7 (s.m.setTh (s.m.th.set k ((F7 s.m k).push (X.ins+cq.op) [cq.key,cq.val]))) k).fr≠[]
    rw [e9];unfold Mod.Thr.push;simp
  ·have hne:(F7 s.m k).fr≠[]:=λe=>by rw [e] at hb;cases hb
   refine ⟨s,?_,O.inv,O.th,O.nx,rfl,hne,H⟩
   unfold Do.pick Do.enter
   rw [X5,A7 hne]
 rintro g63 h64 ⟨s1,ep,hI1,ht1,hn1,hl1,hne1,H1⟩
 obtain ⟨la,lc,O1⟩:=Kn H1
 refine sb ?_
 refine C4 O1 rfl ?_
 refine sb ?_
 obtain ⟨Q',H2,re⟩:=SU H1
 have hk3:k < s1.m.th.length:=by omega
 obtain ⟨nn,z,hz,hs,hid,_,hI2⟩:=G.step j s1.m k _ hI1 hj (W9 hk3) hne1
 have hzs:R8 d ⟨s1.m.quiet,F7 s1.m k,k⟩=z:=FT hz
 have hgo:s1.go d k = { s1 with m:=z.m.setTh (s1.m.th.set k z.t) }:=by
  unfold Do.go
  rw [hzs]
 have ht2:(z.m.setTh (s1.m.th.set k z.t)).th.length=calls.length:=by
  show (s1.m.th.set k z.t).length=_
  rw [Ca];exact ht1
 rw [ep,hgo] at kk
 refine A0 (LY D H2 (n:=nn) (z:=z) hk3 hne1 hz hs hid (λhne2 h3 H3=>?_) λhnil h3 H3=>?_)
 all_goals exact kk h3 ⟨hI2,ht2,hn1⟩ hl1 (re _ _ _ H3)
end
end
section
open Mod
theorem Ko {v0 v1 v2:vQ} {F:vQ->Prop} (k:F v0):D9 #[v0,v1,v2] 0 F:=k
theorem Kp {v0 v1 v2:vQ} {F:vQ->Prop} (k:F v1):D9 #[v0,v1,v2] 1 F:=k
theorem Kq {v0 v1 v2:vQ} {F:vQ->Prop} (k:F v2):D9 #[v0,v1,v2] 2 F:=k
theorem Tk5 {v0 v1 v2 v3 v4 v5 v6 v7 v8 v9:vQ} {F:vQ->vQ->vQ->vQ->vQ->vQ->vQ->vQ->vQ->vQ->Prop} (k:F v0 v1 v2 v3 v4 v5 v6 v7 v8 v9):asAgg (.agg #[v0,v1,v2,v3,v4,v5,v6,v7,v8,v9]) λvs=>G3 vs 10 (D9 vs 0 λa=>D9 vs 1 λb=>D9 vs 2 λc=>D9 vs 3 λd=>D9 vs 4 λe=>D9 vs 5 λf=>D9 vs 6 λg=>D9 vs 7 λh=>D9 vs 8 λi=>D9 vs 9 λj=>F a b c d e f g h i j):=k
section
variable {K:kQ} {h:A2} {R:Hp} {calls:List (List Cl)} {C2 draws:List Int}
theorem SC4 {c:Mod.Cf} (H:A9 h R) (k1:GK c=true->∀h',A9 h' R->K (dQ true) h') (k0:GK c=false->∀h',A9 h' R->K (dQ false) h') :
  A4 prog 9 #[.agg #[iQ c.algo,iQ c.threads,iQ c.nodes,iQ c.level,iQ c.batch,iQ c.probes,iQ c.scan]] h K:=by
 refine Sb2 (Sq2 c) (λhr h' o=>k1 ((CU c).1 hr) h' (H.old o)) (λhr h' o=>k0 ?_ h' (H.old o))
 rw [<- SD4]
 exact λhh=>hr ((CU c).2 hh)
end
theorem SY5 {th n:Nat} {calls:List (List Cl)} {C2 draws:List Int} (hth:1<=th/\th<=6) (hn:n<=1000) (R:Sq calls C2 draws):De (O0 th n calls):=by
 refine ⟨by rw [CX];omega,λl hl=>?_⟩
 have o:=KY R hn l hl
 refine ⟨by omega,λx hx=>⟨?_,(o.2 x hx).2⟩⟩
 unfold O0 at hl
 obtain ⟨i,_,rfl⟩:=Ga.1 hl
 unfold Dy at hx
 obtain ⟨y,_,rfl⟩:=Ga.1 hx
 exact WN y
theorem Sc9 {th:Int} (hth:1<=th/\th<=6) {m:Nat} {C2:List Int}:∀p ∈ V5 th m C2,0<=p/\p < th:=by
 intro k hk
 unfold V5 at hk
 obtain ⟨k0,_,rfl⟩:=Ga.1 hk
 exact Qx hth k0
end
section
set_option maxHeartbeats 1000000
open Mod
section
variable {K:kQ} {h:A2} {X:RX} {s:Do} {R:Hp} {calls:List (List Cl)} {C2 draws:List Int}
theorem Xk {Q M f:Nat} {ins:Int} {Ts:List Nat} {m:Mac} (H:A9 h (CF Q M f ins Ts m*R)) (k:∀q R',A9 h (R7 q m.mm*R')->(∀h' m',A9 h' (R7 q m' * R')->A9 h' (CF Q M f ins Ts (m.setM m')*R))->K (mP q) h):A4 prog 32 #[mP M] h K:=by
 obtain ⟨a,c,hl,H1⟩:=W0.1 (Aa.1 H)
 exact Nz H1 λq R' HM re=>k q R' HM λh' m' H'=>Aa.2 (W0.2 ⟨a,c,hl,re h' m' H'⟩)
theorem Mc {Q M f:Nat} {ins:Int} {Ts:List Nat} {m:Mac} (H:A9 h (CF Q M f ins Ts m*R)) (k:Ow m.p->∀h',G9 h.size h h'->K (Pc m.p) h'):A4 prog 79 #[mP M] h K:=by
 obtain ⟨a,c,hl,H1⟩:=W0.1 (Aa.1 H)
 exact Gp H1 (k (Sg5 H1))
theorem Tk6 (x:CC):(Ai x).toArray=#[iQ x.th,iQ x.kind,dQ x.done,iQ x.w1.1,iQ x.w1.2.1,iQ x.w1.2.2,iQ x.w2.1,iQ x.w2.2.1,iQ x.w2.2.2]:=rfl
theorem Tk7 {e:CC} {la:rQ} {lc:Nat} {l:List CC} {G:Hp} (H:A9 h (pt X.RB (oQ (trC X la l.length lc).toArray 89)*(E8 51 9 la l.length lc (l.flatMap Ai)*G))) (hb:l.length<=1000000) {F:A2->Prop}
  (k:∀h' la' lc',A9 h' (pt X.RB (oQ (trC X la' (l ++ [e]).length lc').toArray 89)*(E8 51 9 la' (l ++ [e]).length lc' ((l ++ [e]).flatMap Ai)*G))->F h') :
  U4 prog #[47,47] 47 #[lQ la l.length lc,lQ (some (aQ h.size)) 1 1] (h.push (oQ #[iQ e.th,iQ e.kind,dQ e.done,iQ e.w1.1,iQ e.w1.2.1,iQ e.w1.2.2,iQ e.w2.1,iQ e.w2.2.1,iQ e.w2.2.2] 51))
   λv h'=>D3 v λo k1 k2=>C7 h' ⟨X.RB,12,none⟩ (lQ o k1 k2) F:=by
 have H2:=H.push (oQ (Ai e).toArray 51)
 have hs:N5 (h.push (oQ (Ai e).toArray 51)) (some (aQ h.size)) (Ai e):=λj v hj=>⟨_,rfl,by rw [E2,J6,E5 H2.at];simpa using hj⟩
 rw [<- Tk6]
 generalize h.push (oQ (Ai e).toArray 51)=h2 at *
 generalize h.size=N at *
 have H3:=H2.drop
 rw [D8,<- FB] at H3
 refine H3.app Sc6 Xh Sc7 (by rw [FB];rfl) hs (n:=1) (by rw [FB];rfl) (λy hy=>?_) (by rw [SS];omega) (by rw [SS];omega) λa' c' h3 H4=>?_
 ·simp only [Ai,ED,GF,or_false] at hy
  rcases hy with rfl | rfl | rfl | rfl | rfl | rfl | rfl | rfl | rfl <;> trivial
 rw [FB,D8] at H4
 refine sb ?_
 refine H4.st (i:=12) rfl trivial λh4 H5=>k h4 a' c' ?_
 have e1:(l ++ [e]).length=l.length+1:=by simp
 have e2:(l ++ [e]).flatMap Ai=l.flatMap Ai ++ Ai e:=by simp
 rw [e1,e2]
 exact H5
theorem Md {p:Pl} {a:Int} {v0 v1 v2 v3 v4 v5 v6 v7 v8 v9 v10 v11 v12 v13 v14:vQ} (e:Pc p=.agg #[v0,v1,v2,v3,v4,v5,v6,v7,v8,v9,v10,v11,v12,v13,v14]) (B:Ow p) (ha:iN a) (k:∀h',G9 h.size h h'->K (.tuple #[iQ (p.whr a).1,iQ (p.whr a).2.1,iQ (p.whr a).2.2]) h') :
  A4 prog 80 #[.agg #[v0,v1,v2,v3,v4,v5,v6,v7,v8,v9,v10,v11,v12,v13,v14],iQ a] h K:=by
 rw [<- e]
 exact Sc5 B ha k
def Tk8 (X:RX) (s:Do) (kk:Int) (R:Hp) (a:rQ) (c:Nat) (vs:List vQ) (h':A2):Prop:=
 ∃(i:Nat) (u1 u2:vQ),vs = [iQ i,u1,u2]/\i<=s.m.mm.lg.length - s.l.length /\
  A9 h' (QO X { s with l:=s.l ++ ((s.m.mm.lg.drop s.l.length).take i).map (Az s.m.p kk) }*(E8 144 4 a s.m.mm.lg.length c (s.m.mm.lg.flatMap Fw)*R))
theorem Xl {kk:Int} (H:A9 h (QO X s*R)) (hle:s.l.length<=s.m.mm.lg.length) (hb:s.m.mm.lg.length<=100000) (hE:∀e ∈ s.m.mm.lg.drop s.l.length,iN e.a/\iN e.b)
  (k:∀h',A9 h' (QO X (s.note kk)*R)->K tQ h'):A4 prog 40 #[mP X.RB,iQ kk,iQ (s.l.length:Nat)] h K:=by
 refine call40 ?_
 unfold F40 cf ce lP lI nP O8 dl9
 obtain ⟨la,lc,O1⟩:=Kn H
 refine sb ?_
 refine C4 O1 rfl ?_
 refine sb ?_
 obtain ⟨Q',H2,re⟩:=SU H
 refine A0 (CY H2 ?_)
 refine sb ?_
 refine A0 (Js H2 λq R' HM=>?_)
 refine sb ?_
 refine A0 (Xi HM (by omega) λh4 a c o4 own=>?_)
 have H4:=own _ H
 rw [D8] at H4
 refine sb ?_
 rw [AV,UX,show min (s.l.length:Int) (s.m.mm.lg.length:Int)=(s.l.length:Int) by omega]
 refine ⟨by omega,by omega,?_⟩
 simp only [X5]
 refine ⟨Tk8 X s kk R a c,λvs _=>match vs with | [.int _ i,_,_]=>((s.m.mm.lg.length - s.l.length:Nat) - i:Int).toNat | _=>0,⟨0,_,_,rfl,T4 _,?_⟩,?_⟩
 ·rw [List.take_zero,QZ,Xv]
  exact H4
 rintro v19 v20 v21 g22 h23 ⟨i,u1,u2,e,hi,H5⟩
 cases e
 refine sb ?_
 apply A6<;>intro c1
 ·have hi2:s.l.length+i < s.m.mm.lg.length:=by omega
  refine ⟨by omega,by omega,?_⟩
  have ow:=H5.drop.own
  have hlc:=ow.2.1
  have hsub:=ow.sees.subn (n:=4) (i:=s.l.length) (m:=c) (by rw [Ch Nq];omega) (by omega)
  have g:∀j,j < 4->((s.m.mm.lg.flatMap Fw).drop (s.l.length*4))[i*4+j]? = (Fw s.m.mm.lg[s.l.length+i])[j]?:=λj hj=>by
   rw [Tf,show s.l.length*4+(i*4+j)=(s.l.length+i)*4+j by omega]
   exact N0 Nq hi2 hj
  have hmem:s.m.mm.lg[s.l.length+i] ∈ s.m.mm.lg.drop s.l.length:=by
   rw [List.mem_iff_getElem?]
   exact ⟨i,by rw [Tf,X7 hi2]⟩
  have hnext:(s.m.mm.lg.drop s.l.length).take (i+1)=(s.m.mm.lg.drop s.l.length).take i ++ [s.m.mm.lg[s.l.length+i]]:=by
   rw [Ab (by rw [List.length_drop];omega)]
   simp
  have hEa:=hE _ hmem
  generalize s.m.mm.lg[s.l.length+i]=e at *
  obtain ⟨ad,ea,q0⟩:=hsub (i*4+0) (.int .i64 e.kind) (g 0 (by omega))
  rw [ea] at hsub ⊢
  obtain ⟨_,ea1,q1⟩:=hsub (i*4+1) (.int .i64 e.a) (g 1 (by omega))
  cases ea1
  obtain ⟨_,ea1,q2⟩:=hsub (i*4+2) (.int .i64 e.b) (g 2 (by omega))
  cases ea1
  obtain ⟨_,ea1,q3⟩:=hsub (i*4+3) (.bool e.done) (g 3 (by omega))
  cases ea1
  clear hsub g ea
  have aa:∀j,(ad.add (i*4)).add j=ad.add (i*4+j):=λj=>Z7 _ _ _
  rw [Lc] at q0
  refine se1 aa ?_
  refine C6 q0 (C6 q1 (C6 q2 (C6 q3 ?_)))
  have H6:=H5.push (oQ #[iQ 0,iQ 0,iQ 0,dQ false] 144)
  generalize h23.push (oQ #[iQ 0,iQ 0,iQ 0,dQ false] 144)=h6 at *
  generalize h23.size=AB at *
  refine F5 (vs:=Fw e) H6.at rfl (by simp [Fw,J0]) λh7 w=>?_
  have H7:=H6.wr w.new w.old
  clear H6 w
  refine C4 H7.at rfl ?_
  refine sb ?_
  refine C4 H7.at rfl ?_
  refine sb ?_
  have H8:=H7.push (oQ #[iQ 0,iQ 0,dQ false,iQ 0,iQ 0,iQ 0,iQ 0,iQ 0,iQ 0] 51)
  generalize h7.push (oQ #[iQ 0,iQ 0,dQ false,iQ 0,iQ 0,iQ 0,iQ 0,iQ 0,iQ 0] 51)=h8 at *
  generalize h7.size=SB at *
  refine F5 (vs:=Ai ⟨kk,e.kind,e.done,(0,0,0),(0,0,0)⟩) H8.at rfl (by simp [Ai,J0]) λh9 w=>?_
  have H9:=H8.wr w.new w.old
  clear H8 w H7
  refine C4 H9.at2 rfl ?_
  refine sb ?_
  have su:∀ {h':A2} {P:Hp},A9 h' (P*(QO X { s with l:=s.l ++ ((s.m.mm.lg.drop s.l.length).take i).map (Az s.m.p kk) }*(E8 144 4 a s.m.mm.lg.length c (s.m.mm.lg.flatMap Fw)*R)))->∃Q'':Hp,A9 h' (CF X.Q X.M X.f X.ins X.Ts s.m*Q''):=λH'=>by
   obtain ⟨Q1,H2,_⟩:=SU H'.drop
   exact ⟨_,H2⟩
  obtain ⟨Q1,Hsu⟩:=su H9.drop
  refine A0 (Mc Hsu λB h10 o10=>By ?_)
  have H10:=H9.old o10
  refine ⟨F6 H10.at2 rfl,?_⟩
  refine A0 (Md rfl B hEa.1 λh11 o11=>?_)
  have H11:=H10.old o11
  refine sb ?_
  refine Ko ?_
  refine sb ?_
  refine Kp ?_
  refine sb ?_
  refine Kq ?_
  refine sb ?_
  refine H11.st (i:=3) rfl trivial λh12 H12=>?_
  refine H12.st (i:=4) rfl trivial λh13 H13=>?_
  refine H13.st (i:=5) rfl trivial λh14 H14=>?_
  clear H9 H10 H11 H12 H13 Hsu
  refine C4 H14.at2 rfl ?_
  refine sb ?_
  obtain ⟨Q2,Hsu⟩:=su H14.drop
  refine A0 (Mc Hsu λ_ h15 o15=>By ?_)
  have H15:=H14.old o15
  refine ⟨F6 H15.at2 rfl,?_⟩
  refine A0 (Md rfl B hEa.2 λh16 o16=>?_)
  have H16:=H15.old o16
  refine sb ?_
  refine Ko ?_
  refine sb ?_
  refine Kp ?_
  refine sb ?_
  refine Kq ?_
  refine sb ?_
  refine H16.st (i:=6) rfl trivial λh17 H17=>?_
  refine H17.st (i:=7) rfl trivial λh18 H18=>?_
  refine H18.st (i:=8) rfl trivial λh19 H19=>?_
  have H20:A9 h19 (pt SB (oQ (Ai (Az s.m.p kk e)).toArray 51)*_):=H19
  clear H14 H15 H16 H17 H18 H19 Hsu
  have H21:=A9.ac H20 (show _=QO X { s with l:=s.l ++ ((s.m.mm.lg.drop s.l.length).take i).map (Az s.m.p kk) }*(pt SB (oQ (Ai (Az s.m.p kk e)).toArray 51)*(pt AB (oQ (Fw e).toArray 144)*(E8 144 4 a s.m.mm.lg.length c (s.m.mm.lg.flatMap Fw)*R))) by ac_rfl)
  clear H20
  obtain ⟨la,lc,hl,H22⟩:=Df.1 H21
  have hll:(s.l ++ ((s.m.mm.lg.drop s.l.length).take i).map (Az s.m.p kk)).length<=1000000:=by
   rw [DK,Jz,CM]
   omega
  have en:s.l ++ ((s.m.mm.lg.drop s.l.length).take (i+1)).map (Az s.m.p kk)=(s.l ++ ((s.m.mm.lg.drop s.l.length).take i).map (Az s.m.p kk)) ++ [Az s.m.p kk e]:=by
   rw [hnext,GW,<- Xu]
   rfl
  refine C4 H22.at rfl ?_
  refine sb ?_
  have OS:=H22.drop.drop.drop.drop.at
  refine C4 OS rfl (C4 OS rfl (C4 OS rfl (C4 OS rfl (C4 OS rfl (C4 OS rfl (C4 OS rfl (C4 OS rfl (C4 OS rfl ?_))))))))
  refine ⟨E9 (F6 H22.at rfl),?_⟩
  refine Tk7 (e:=Az s.m.p kk e) H22 hll λh23 la' lc' H23=>?_
  rw [<- en] at H23
  have H24:=A9.ac ((Df (s:={ s with l:=s.l ++ ((s.m.mm.lg.drop s.l.length).take (i+1)).map (Az s.m.p kk) })).2 ⟨la',lc',hl,H23⟩) (show _=pt SB (oQ (Ai (Az s.m.p kk e)).toArray 51)*(pt AB (oQ (Fw e).toArray 144)*(QO X { s with l:=s.l ++ ((s.m.mm.lg.drop s.l.length).take (i+1)).map (Az s.m.p kk) }*(E8 144 4 a s.m.mm.lg.length c (s.m.mm.lg.flatMap Fw)*R))) by ac_rfl)
  rw [show G2 ((i:Int)+1)=((i+1:Nat):Int) from by rw [<- Mg];exact Ah _ (by omega)]
  refine ⟨⟨i+1,_,_,rfl,by omega,H24.drop.drop⟩,?_⟩
  show (((s.m.mm.lg.length - s.l.length:Nat):Int) - ((i+1:Nat):Int)).toNat < (((s.m.mm.lg.length - s.l.length:Nat):Int) - (i:Int)).toNat
  omega
 ·have ei:(s.m.mm.lg.drop s.l.length).take i=s.m.mm.lg.drop s.l.length:=Dg (by rw [List.length_drop];omega)
  rw [ei] at H5
  rw [D8] at H5
  exact k h23 H5.drop
end
section
variable {d:B9->B9} {Q:Mod.Cf->N6->Prop} {W:B9->Prop} {ins:Int} {c:Mod.Cf} {calls:List (List Cl)} {s:Do}
theorem Tk9 (D:Jq d Q W ins) (hB:If d Q) (C:De calls) {j k:Nat} (hk:k < calls.length) (hj:j < 100000) (O:Km (At Q c) calls j s) (F:GP c s) :
  (s.pick d ins calls k).m.mm.lg=s.m.mm.lg\/∃e,WE (E1 c) k (E1 c).size.toNat e/\(s.pick d ins calls k).m.mm.lg=s.m.mm.lg ++ [e]:=by
 have G:=At.good (c:=c) D
 rcases Ta5 G C hk O F with e | ⟨s1,e,B⟩
 ·rw [e];exact .inl rfl
 rw [e]
 have hk3:k < s1.m.th.length:=by rw [B.th];exact hk
 have ht:=W9 hk3
 obtain ⟨nn,z,hz,_,_,hzt,hI2⟩:=G.step j s1.m k _ B.inv hj ht B.ne
 have hzs:R8 d ⟨s1.m.quiet,F7 s1.m k,k⟩=z:=FT hz
 have S:=WJ D hB B.inv ht (B.all k _ ht) hz
 have o:=S.one
 have e2:(⟨s1.m.quiet,F7 s1.m k,(k:Int)⟩ : B9).m.mm=s.m.mm:=B.mm
 rw [e2] at o
 have hw:(s.m.mm.w.length:Int)=(E1 c).size:=O.inv.w
 have hwn:s.m.mm.w.length=(E1 c).size.toNat:=by omega
 have hgo:(s1.go d k).m.mm=z.m.mm:=by
  unfold Do.go
  rw [hzs]
  rfl
 rw [hgo]
 rcases o.st with ⟨_,q2⟩ | ⟨_,a,q2,q3⟩
 ·exact .inl q2
 ·rw [hwn] at q2
  rw [F.wt,A8 rfl] at q3
  exact .inr ⟨a,q2,q3⟩
end
def Mod.Mac.watch (m:Mac):Mac:=m.setM { m.mm with wt:=true }
theorem Ii {m:Mm} (h:m.wt=false/\m.lg = []) (a v:Int):(m.store a v).wt=false/\(m.store a v).lg = []:=by
 unfold Mm.store
 split
 ·refine ⟨h.1,?_⟩
  show (if m.wt=true then m.lg ++ [_] else m.lg) = []
  rw [h.1,h.2];rfl
 ·exact h
theorem Ol (f:Nat->Int × Int):∀(l:List Nat) (m:Mm),m.wt=false/\m.lg = []->(l.foldl (λm i=>m.store (f i).1 (f i).2) m).wt=false/\(l.foldl (λm i=>m.store (f i).1 (f i).2) m).lg = []
 | [],m,h=>h
 | i :: l,m,h=>Ol f l _ (Ii h _ _)
theorem Tg5 (p:Pl):(lay p).wt=false/\(lay p).lg = []:=by
 unfold lay
 dsimp only
 have h2:=λ(m:Mm) (h:m.wt=false/\m.lg = []) (a b:Int)=>Ii (Ol (λi=>(p.link (p.sent+1+i),p.sent+1+i+1)) (List.range (p.c.nodes - (p.sent+1)).toNat) m h) a b
 have h1:=h2 _ (Ii (m:=⟨List.replicate p.size.toNat 0,0,false,[]⟩) ⟨rfl,rfl⟩ 0 (Z5 (p.sent+1) false 0)) 2 1
 split
 ·exact h1
 ·exact Ol (λi=>(p.node 1 (5+i),Z5 2 false 0)) _ _ (Ii (Ii h1 _ _) _ _)
def ts0 (m:Mac) (n:Nat):Do:=⟨m,List.replicate n 0,[]⟩
section
variable {Q:Mod.Cf->N6->Prop} {c:Mod.Cf} {calls:List (List Cl)}
theorem At.watch {i:Nat} {m:Mac} (h:At Q c i m):At Q c i m.watch:=⟨h.ok,h.p,h.w,h.n,h.t,h.T⟩
theorem GP.new (b:List Int) (g:Bool) (n:Nat):GP c (ts0 (L1 c b g).watch n):=by
 have h:∀(k:Nat) t,(L1 c b g).th[k]? = some t->t=CT c:=λk t h=>(List.mem_replicate.1 (OF (show (List.replicate c.threads.toNat (CT c))[k]? = some t from h))).2
 refine ⟨λk t e f hf=>?_,rfl,?_,λx hx=>by cases hx⟩
 ·rw [h k t e] at hf
  cases hf
 ·show (lay (E1 c)).lg.length=_
  rw [(Tg5 _).2]
  rfl
theorem Km.new (hc:GK c=true) (b:List Int) (g:Bool) (hl:(calls.length:Int)=c.threads):Km (At Q c) calls 0 (ts0 (L1 c b g).watch calls.length):=by
 refine ⟨(At.new hc b g).watch,?_,λk hk=>?_⟩
 ·show (List.replicate c.threads.toNat (CT c)).length=_
  rw [SE2]
  omega
 ·have e:(ts0 (L1 c b g).watch calls.length).nx.getD k 0=0:=by
   show (List.replicate calls.length (0:Int)).getD k 0=0
   rw [An,List.getElem?_replicate]
   split <;> rfl
  rw [e]
  omega
end
end
section
set_option maxHeartbeats 1000000
open Mod
theorem Tg6 {p:Pl} {id:Int} {n:Nat} {e:Acc} (h:WE p id n e) (hn:n<=4096):iN e.a/\iN e.b:=by
 have h1:=h.a
 have h2:=h.k
 have e1:∀x:Int,-1<=x/\x < 4096->iN x:=λx hx=>by unfold iN;omega
 exact ⟨e1 _ (by omega),e1 _ (by omega)⟩
section
variable {K:kQ} {h:A2} {X:RX} {s:Do} {R:Hp} {calls:List (List Cl)} {C2 draws:List Int}
variable {d:B9->B9} {Q:Mod.Cf->N6->Prop} {W:B9->Prop}
theorem QP {c:Mod.Cf} {ca pa da:rQ} {cl cc pl pc dl dc:Nat} (H:A9 h R) (hS:∀h' P,A9 h' (P*R)->FV h' ca cl pa pl da dl calls C2 draws) (hR:Sq calls C2 draws)
  (hn:calls.flatten.length < 2 ^ 60) (hn2:calls.length < 2 ^ 60) (hn3:C2.length < 2 ^ 60) (hV:∀l ∈ calls,l.length < 2 ^ 60)
  (D:DoC (DD c.algo) d W) (DO:Jq d Q W (S1 c.algo)) (hB:If d Q)
  (k0:IH c calls C2 draws=false->∀h',A9 h' R->K (.tuple #[lQ none 0 0,iQ 1]) h')
  (k1:IH c calls C2 draws=true->∀h' la lc s,s=Ih d (S1 c.algo) calls (L1 c draws false).watch C2->s.l.length<=C2.length->Km (At Q c) calls C2.length s->GP c s->A9 h' (E8 51 9 la s.l.length lc (s.l.flatMap Ai)*R) ->
   K (.tuple #[lQ la s.l.length lc,iQ 0]) h') :
  A4 prog 14 #[.agg #[iQ c.algo,iQ c.threads,iQ c.nodes,iQ c.level,iQ c.batch,iQ c.probes,iQ c.scan,lQ ca cl cc,lQ pa pl pc,lQ da dl dc]] h K:=by
 refine call14 ?_
 unfold F14 g14 cf ce bd lS lI da7 Du
 have H1:=H.push (oQ (N1 c ca cl cc pa pl pc da dl dc).toArray 28)
 rw [show h.push (oQ #[iQ c.algo,iQ c.threads,iQ c.nodes,iQ c.level,iQ c.batch,iQ c.probes,iQ c.scan,lQ ca cl cc,lQ pa pl pc,lQ da dl dc] 28)=h.push (oQ (N1 c ca cl cc pa pl pc da dl dc).toArray 28) from rfl]
 generalize h.push (oQ (N1 c ca cl cc pa pl pc da dl dc).toArray 28)=h1 at *
 generalize h.size=SB at *
 have I:=hS h1 _ H1
 have ecl:=I.f.cs
 have epl:=I.f.ps
 have edl:=I.ds
 subst ecl epl edl
 have O:=H1.at
 refine C4 O rfl (C4 O rfl (C4 O rfl (C4 O rfl (C4 O rfl (C4 O rfl (C4 O rfl (C4 O rfl (C4 O rfl (C4 O rfl ?_)))))))))
 have hS2:∀h' P,A9 h' (P*(pt SB (oQ (N1 c ca calls.length cc pa C2.length pc da draws.length dc).toArray 28)*R))->FV h' ca calls.length pa C2.length da draws.length calls C2 draws:=λh' P HP=>hS h' Mt (by rw [T8];exact HP.drop.drop)
 refine A0 (Kj (c:=c) H1 hS2 hn hn2 hn3 hV λh3 H3=>?_)
 refine sb ?_
 apply D1<;>intro hh
 ·have e:IH c calls C2 draws=false:=by simpa using hh
  exact k0 e h3 H3.drop
 have hsc:IH c calls C2 draws=true:=by simpa using hh
 have hsc2:=hsc
 unfold IH at hsc2
 simp only [EA,beq_iff_eq,EK,MG] at hsc2
 obtain ⟨hok,hct,hf48,hp6,hd4,hcl,hpk⟩:=hsc2
 have B:=Cy hok
 have hthr:1<=c.threads/\c.threads<=6:=B.th
 have C:De calls:=⟨by omega,λl hl=>⟨by
  have:l.length<=calls.flatten.length:=by
   obtain ⟨i,hi,rfl⟩:=Ta7 hl
   have e1:=SG hi
   have e2:=SU8 (L:=calls) (i+1)
   omega
  omega,λx hx=>⟨hcl l hl x hx,hR.cl l hl x hx⟩⟩⟩
 have O:=H3.at
 refine C4 O rfl (C4 O rfl (C4 O rfl (C4 O rfl (C4 O rfl (C4 O rfl (C4 O rfl (C4 O rfl ?_)))))))
 refine sb ?_
 refine A0 (Oa (c:=c) (bs:=draws) H3 (λh' P HP=>(hS2 h' P HP).dr) (by omega) hR.dr (λhx=>by rw [hok] at hx;cases hx) λ_ h4 Qq M Ts H4=>?_)
 have TO:Km (At Q c) calls 0 (ts0 (L1 c draws false).watch calls.length):=Km.new hok draws false hct
 have TF:GP c (ts0 (L1 c draws false).watch calls.length):=GP.new draws false _
 generalize hm0:L1 c draws false=m0 at *
 refine sb ?_
 refine Bk ?_
 refine sb ?_
 refine Bl ?_
 refine sb ?_
 refine D1 (λhx=>by simp at hx) (λ_=>?_)
 have O:=H4.at2
 refine C4 O rfl (C4 O rfl (C4 O rfl (C4 O rfl (C4 O rfl (C4 O rfl (C4 O rfl (C4 O rfl (C4 O rfl (C4 O rfl (C4 O rfl ?_))))))))))
 refine sb ?_
 refine WL hct (by omega) ?_
 refine sb ?_
 have H5:=H4.push (oQ ((List.replicate calls.length (0:Int)).map iv).toArray 3)
 generalize h4.push (oQ ((List.replicate calls.length (0:Int)).map iv).toArray 3)=h5 at *
 generalize h4.size=NB at *
 have O5:=(H5.drop.drop).at
 have H6:=H5.push (oQ #[mP Qq,iQ c.algo,iQ c.threads,iQ c.nodes,iQ c.level,iQ c.batch,iQ c.probes,iQ c.scan,lQ ca calls.length cc,lQ pa C2.length pc,lQ da draws.length dc,lQ (some (aQ NB)) calls.length calls.length,lQ none 0 0] 89)
 repeat (first | refine ⟨E9 (F6 O5 rfl),?_⟩ | refine ⟨F6 O5 rfl,?_⟩)
 generalize h5.push (oQ #[mP Qq,iQ c.algo,iQ c.threads,iQ c.nodes,iQ c.level,iQ c.batch,iQ c.probes,iQ c.scan,lQ ca calls.length cc,lQ pa C2.length pc,lQ da draws.length dc,lQ (some (aQ NB)) calls.length calls.length,lQ none 0 0] 89)=h6 at *
 generalize h5.size=RB at *
 obtain ⟨X,hX⟩ : ∃X:RX,X=⟨RB,NB,Qq,M,DD c.algo,S1 c.algo,Ts,c,ca,calls.length,cc,pa,C2.length,pc,da,draws.length,dc,calls.length⟩:=⟨_,rfl⟩
 generalize hFR:pt SB (oQ (N1 c ca calls.length cc pa C2.length pc da draws.length dc).toArray 28)*R=FR at H6 hS2
 refine A0 (CY (H6.drop.drop) ?_)
 refine sb ?_
 have H6':=A9.ac H6 (show _=CF Qq M (DD c.algo) (S1 c.algo) Ts m0*(pt RB (oQ #[mP Qq,iQ c.algo,iQ c.threads,iQ c.nodes,iQ c.level,iQ c.batch,iQ c.probes,iQ c.scan,lQ ca calls.length cc,lQ pa C2.length pc,lQ da draws.length dc,lQ (some (aQ NB)) calls.length calls.length,lQ none 0 0] 89)*(pt NB (oQ ((List.replicate calls.length (0:Int)).map iv).toArray 3)*FR)) by ac_rfl)
 refine A0 (Xk H6' λq R' HM re=>?_)
 refine sb ?_
 refine A0 (Px HM λh7 H7=>?_)
 have H7:=re _ _ H7
 have H8:A9 h7 (QO X (ts0 m0.watch calls.length)*FR):=by
  have H9:=H7.own_new 51 9
  rw [hX]
  refine Df.2 ⟨none,0,by show (List.replicate _ _).length=_;simp,?_⟩
  exact A9.ac H9 (by show _=pt RB _*(E8 51 9 none 0 0 []*(pt NB _*(CF Qq M (DD c.algo) (S1 c.algo) Ts m0.watch*FR)));unfold Mac.watch;ac_rfl)
 clear H1 H3 H4 H5 H6 H6' H7 HM re I O O5
 have eRB:RB=X.RB:=by rw [hX]
 have ei:S1 c.algo=X.ins:=by rw [hX]
 have DX:DoC X.f d W:=by rw [hX];exact D
 have GX:NO d W X.ins (At Q c):=by rw [hX];exact At.good DO
 have scr:∀ {h':A2} {s:Do},A9 h' (QO X s*FR)->h'[SB]? = some (oQ (N1 c ca calls.length cc pa C2.length pc da draws.length dc).toArray 28)/\FV h' ca calls.length pa C2.length da draws.length calls C2 draws:=by
  intro h' s H'
  refine ⟨?_,hS2 h' _ H'⟩
  rw [<- hFR] at H'
  exact H'.drop.at
 obtain ⟨sc,sI⟩:=scr H8
 refine C4 sc rfl ?_
 refine sb ?_
 have hS7:∀h' P,A9 h' (P*FR)->VG h' X.ca X.cl X.pa X.pl calls C2:=by
  intro h' P HP
  rw [hX]
  exact (hS2 h' P HP).f
 have hXn:X.n=calls.length:=by rw [hX]
 have hins:0<=X.ins/\X.ins<=100:=by
  rw [<- ei]
  unfold S1
  repeat' split
  all_goals decide
 have hsz:(E1 c).size.toNat<=4096:=by
  have b3:=B.tr
  have b6:=B.si
  omega
 refine ⟨λvs h'=>∃(u:vQ) (j:Nat) (s:Do),s=(C2.take j).foldl (λs k=>(s.pick d X.ins calls k).note k) (ts0 m0.watch calls.length)/\vs = [u,.int .i64 j]/\j<=C2.length/\s.l.length<=j/\Km (At Q c) calls j s/\GP c s/\A9 h' (QO X s*FR),λvs _=>match vs with | [_,.int _ i]=>((C2.length:Int) - i).toNat | _=>0,⟨_,0,_,rfl,rfl,T4 _,G0 _,TO,TF,H8⟩,?_⟩
 rintro v63 v64 g65 h66 ⟨u,j,sj,hsj,e,hj,hlj,OJ,FJ,HJ⟩
 cases e
 refine sb ?_
 obtain ⟨scJ,sIJ⟩:=scr HJ
 apply A6<;>intro c1
 ·have hjlt:j < C2.length:=by omega
  obtain ⟨ad,ea,hc⟩:=sIJ.f.pk j (.int .i64 C2[j]) (by rw [FD,X7 hjlt];rfl)
  subst ea
  refine ⟨by omega,by omega,?_⟩
  refine sb ?_
  refine C6 hc ?_
  refine sb ?_
  have hp:=hpk _ (CD hjlt)
  have hnext:(C2.take (j+1)).foldl (λs k=>(s.pick d X.ins calls k).note k) (ts0 m0.watch calls.length)=(sj.pick d X.ins calls C2[j]).note C2[j]:=by
   rw [Ab hjlt,Td,<- hsj]
   rfl
  obtain ⟨kk,hkk⟩ : ∃kk:Nat,C2[j]=kk:=⟨C2[j].toNat,by omega⟩
  rw [hkk] at hp hnext ⊢
  rw [eRB]
  have DO':Jq d Q W X.ins:=by rw [<- ei];exact DO
  obtain ⟨O1,F1,⟨T1⟩⟩:=Sj7 DO' hB C (k:=kk) (by omega) (by omega) OJ FJ
  have LG:=Tk9 DO' hB C (k:=kk) (by omega) (by omega) OJ FJ
  have hlg:=FJ.lg
  refine A0 (Xj DX GX C hXn hins HJ hS7 (j:=j) (k:=kk) (by omega) (by omega) OJ λh67 D67 e67 H67=>?_)
  generalize hs1:sj.pick d X.ins calls kk=s1 at *
  have hlen:s1.m.mm.lg.length<=sj.l.length+1/\sj.l.length<=s1.m.mm.lg.length:=by
   rcases LG with e | ⟨e,_,q⟩
   ·rw [e];omega
   ·rw [q,DK]
    simp only [Jy,SE1]
    omega
  obtain ⟨la,lc,OR⟩:=Kn H67
  refine C4 OR rfl ?_
  refine sb ?_
  refine A0 (Xl H67 (by rw [e67];omega) (by omega) (λe he=>?_) λh68 H68=>?_)
  ·rw [e67,<- hlg] at he
   rcases LG with q | ⟨e2,q1,q⟩
   ·rw [q,List.drop_length] at he
    cases he
   ·rw [q,List.drop_left] at he
    rw [Fq.1 he]
    exact Tg6 q1 hsz
  rw [show G2 ((j:Int)+1)=((j+1:Nat):Int) from by rw [<- Mg];exact Ah _ (by omega)]
  refine ⟨⟨_,j+1,_,hnext.symm,rfl,by omega,?_,O1,F1,H68⟩,?_⟩
  ·rcases T1 with ⟨q,_⟩ | ⟨_,_,_,q⟩
   ·rw [q];omega
   ·rw [q,DK]
    simp only [Jy,SE1]
    omega
  ·show ((C2.length:Int) - ((j+1:Nat):Int)).toNat < ((C2.length:Int) - (j:Int)).toNat
   omega
 have ej:j=C2.length:=by omega
 subst ej
 rw [EH,<- ei] at hsj
 obtain ⟨la,lc,hl,H0⟩:=Df.1 HJ
 rw [eRB]
 refine C4 H0.at rfl ?_
 refine sb ?_
 have H1:=A9.ac H0 (show _=(pt X.RB (oQ (trC X la sj.l.length lc).toArray 89)*(pt X.NB (oQ (sj.nx.map iv).toArray 3)*CF X.Q X.M X.f X.ins X.Ts sj.m))*(E8 51 9 la sj.l.length lc (sj.l.flatMap Ai)*FR) by ac_rfl)
 rw [<- hFR] at H1
 refine k1 hsc h66 la lc sj ?_ hlj OJ FJ ?_
 ·rw [hsj];rfl
 ·exact (A9.ac H1.drop (show _=pt SB _*(E8 51 9 la sj.l.length lc (sj.l.flatMap Ai)*R) by ac_rfl)).drop
end
end
section
set_option maxHeartbeats 1000000
theorem Tl0 (a:Addr):a.add 0=a:=by cases a;simp [Addr.add]
end
section
set_option maxHeartbeats 1000000
open Mod
section
variable {K:kQ} {h:A2} {R:Hp}
end
end
section
set_option maxRecDepth 100000

end
section
set_option maxHeartbeats 1000000
open Mod
section
variable {K:kQ} {h:A2} {R:Hp} {calls:List (List Cl)} {C2 draws:List Int}
end
end
section
set_option maxHeartbeats 1000000
open Mod
section
variable {K:kQ} {h:A2} {R:Hp} {ca pa da:rQ} {cl cc pl pc dl dc:Nat}
theorem Sd0 {c:Mod.Cf} (hc:GK c=false) (H:A9 h R) (k:∀h',A9 h' R->K (dQ false) h') :
  A4 prog 29 #[.agg #[iQ c.algo,iQ c.threads,iQ c.nodes,iQ c.level,iQ c.batch,iQ c.probes,iQ c.scan,lQ ca cl cc,lQ pa pl pc,lQ da dl dc]] h K:=by
 refine call29 ?_
 unfold F29 g29 cf bd lS lI da7 M0 Du
 have H1:=H.push (oQ (N1 c ca cl cc pa pl pc da dl dc).toArray 28)
 rw [show h.push (oQ #[iQ c.algo,iQ c.threads,iQ c.nodes,iQ c.level,iQ c.batch,iQ c.probes,iQ c.scan,lQ ca cl cc,lQ pa pl pc,lQ da dl dc] 28)=h.push (oQ (N1 c ca cl cc pa pl pc da dl dc).toArray 28) from rfl]
 generalize h.push (oQ (N1 c ca cl cc pa pl pc da dl dc).toArray 28)=h1 at *
 generalize h.size=SB at *
 refine ⟨λvs h'=>(∃u1 u2 u3,vs = [u1,u2,u3,dQ true])/\A9 h' R,?_,?_⟩
 ·have O:=H1.at
  refine C4 O rfl (C4 O rfl (C4 O rfl (C4 O rfl (C4 O rfl (C4 O rfl (C4 O rfl ?_))))))
  refine A0 (Ki (c:=c) (λhc2 h2 o2=>by rw [hc] at hc2;cases hc2) λ_ h2 o2=>?_)
  simp only [A5]
  refine D1 (λ_=>?_) (λhh=>by simp at hh)
  exact ⟨⟨_,_,_,rfl⟩,(H1.old o2).drop⟩
 ·rintro v1 v2 v3 v4 g h2 ⟨⟨u1,u2,u3,e⟩,H2⟩
  cases e
  simp only [C0,G6]
  exact k h2 H2
end
theorem Tg7 {c:Mod.Cf} (hc:GK c=true):∃(d:B9->B9) (W:B9->Prop) (Q:Mod.Cf->N6->Prop),DoC (DD c.algo) d W/\Jq d Q W (S1 c.algo)/\If d Q/\(∀x:B9,d x.uw=(d x).uw)/\(S1 c.algo=11\/S1 c.algo=21\/S1 c.algo=31):=by
 unfold DD S1
 by_cases h0:c.algo=0
 ·rw [A8 h0,A8 h0]
  exact ⟨_,_,_,Sy5,ZR,Sz9,Sb7,.inl rfl⟩
 ·rw [A7 h0,A7 h0]
  by_cases h1:c.algo=1
  ·rw [A8 h1,A8 h1]
   exact ⟨_,_,_,Wn,SC,WH,SQ,.inr (.inl rfl)⟩
  ·rw [A7 h1,A7 h1]
   exact ⟨_,_,_,Sa8,WD,Sa9,Xf,.inr (.inr rfl)⟩
section
variable {d:B9->B9} {Q:Mod.Cf->N6->Prop} {W:B9->Prop} {ins:Int} {c:Mod.Cf} {calls:List (List Cl)} {C2 b:List Int}
structure Tw (Q:Mod.Cf->N6->Prop) (c:Mod.Cf) (calls:List (List Cl)) (ps:List Int) (st0:Int) (s:M6) (t:Do):Prop where
 lk:Lk s t
 ok:Km (At Q c) calls ps.length t
 fit:GP c t
 st:t.m.mm.st=st0+t.l.length
 sub:(t.l.map CC.th).Sublist ps
theorem SY6 (D:Jq d Q W ins) (hB:If d Q) (hu:∀x:B9,d x.uw=(d x).uw) (C:De calls) (hc:GK c=true) (hl:(calls.length:Int)=c.threads) (hp:∀p ∈ C2,0<=p/\p < c.threads) (hpl:C2.length<=60000):∀n,n<=C2.length ->
  Tw Q c calls (C2.take n) (L1 c b true).mm.st (Pu d ins calls (L1 c b true) (C2.take n)) (Ih d ins calls (L1 c b false).watch (C2.take n))
 | 0,_=>⟨⟨rfl,rfl⟩,Km.new hc b false hl,GP.new b false _,by show (L1 c b false).mm.st=(L1 c b false).mm.st+((0:Nat):Int);omega,List.Sublist.refl _⟩
 | n+1,hn=>by
  have ih:=SY6 D hB hu C hc hl hp hpl n (by omega)
  have hlt:n < C2.length:=by omega
  have hln:(C2.take n).length=n:=by rw [CM];omega
  have e1:=SA0 (d:=d) (ins:=ins) (calls:=calls) (m:=L1 c b true) hlt
  have e2:Ih d ins calls (L1 c b false).watch (C2.take (n+1))=((Ih d ins calls (L1 c b false).watch (C2.take n)).pick d ins calls C2[n]).note C2[n]:=by
   unfold Ih
   rw [Ab hlt,Td]
   rfl
  rw [e1,e2]
  generalize Pu d ins calls (L1 c b true) (C2.take n)=s at *
  generalize Ih d ins calls (L1 c b false).watch (C2.take n)=t at *
  have h:=hp _ (CD hlt)
  have lk:=Lk.pick (ins:=ins) (calls:=calls) hu ih.lk C2[n]
  obtain ⟨k,hk⟩ : ∃k:Nat,C2[n]=k:=⟨C2[n].toNat,by omega⟩
  have ht:C2.take (n+1)=C2.take n ++ [(k:Int)]:=by rw [Ab hlt,hk]
  rw [hk] at h lk ⊢
  have ok:=ih.ok
  rw [hln] at ok
  obtain ⟨O1,F1,⟨T1⟩⟩:=Sj7 D hB C (k:=k) (by omega) (by omega) ok ih.fit
  refine ⟨lk,by rw [ht,DK,hln];exact O1,F1,?_,?_⟩
  ·rcases T1 with ⟨q1,q2⟩ | ⟨q1,e,_,q2⟩
   ·rw [q1,q2];exact ih.st
   ·rw [q1,q2,ih.st,DK]
    simp only [Jy,SE1]
    omega
  ·rw [ht]
   rcases T1 with ⟨q1,q2⟩ | ⟨q1,e,_,q2⟩
   ·rw [q1]
    exact ih.sub.trans (List.sublist_append_left _ _)
   ·rw [q2,GW]
    exact ih.sub.append (List.Sublist.refl _)
end
end
end Go.Proofs.YtahpbclnkofhfaaGreat
