/- Part 9 of what the proofs of this seat rest on: see the last text of the claim. -/
import Derived.Test.YtahpbclnkofhfaaGreatQ0794c2a9714c
import Derived.Test.YtahpbclnkofhfaaGreatProg
set_option linter.unusedSimpArgs false
set_option linter.unusedVariables false
set_option linter.ambiguousOpen false
set_option maxRecDepth 20000
namespace Go.Proofs.YtahpbclnkofhfaaGreat
section
set_option maxRecDepth 100000
variable {K:kQ} {h:A2}
def F63 (K:kQ) (h:A2) (xa xb:Option Addr):Prop:=
 (cf 105 #[pQ xb] h λa b=>C2 a λa=>O0 λI3=>(D0 (Option.isNone a) (I3 [dQ true] b) (I3 [dQ (Option.isNone xa)] b))/\(∀(b:Value) (c:F8) (c:A2),(I3 [b] c)->(asBool b λb=>D0 b (K tQ c) (C4 (c.push (oQ #[pQ none,pQ none,pQ none] 187)) (aQ c.size) (pQ xa) λb=>C4 b ⟨c.size,1,none⟩ (pQ xb) λb=>C4 b ⟨c.size,2,none⟩ (pQ a) λb=>O0 λI11=>(nP a λd=>lI .i64 b (d.add 1) λd=>D0 (d == 90) (nP a λd=>lI .i64 b d λd=>D0 (decide (d >= 11)) (nP a λe=>lI .i64 b e λe=>I11 [dQ (decide (e<=13)),dQ (decide (d >= 11)),dQ (decide (e<=13))] b) (I11 [dQ false,dQ (decide (d >= 11)),dQ false] b)) (I11 [dQ false,dQ false,dQ false] b))/\(∀(b d e:Value) (f:F8) (f:A2),(I11 [b,d,e] f)->(asBool b λb=>D0 b (nP a λb=>bd 7 10 (lI .u64 f (b.add 9) λb=>nP a λd=>bd 8 10 (lI .u64 f (d.add 10) λd=>nP a λe=>bd 9 10 (lI .u64 f (e.add 11) λe=>cf 106 #[pQ xb,lQ (some (aQ f.size)) 3 3] (f.push (oQ #[uQ b,uQ d,uQ e] 178)) λb b=>K tQ b)))) (nP a λb=>lI .i64 f b λb=>D0 (b == 10) (L1 f c.size λb d e=>cf 107 #[.agg #[b,d,e]] f λb b=>K tQ b) (nP a λb=>lI .i64 f b λb=>D0 (b == 11) (L1 f c.size λb d e=>cf 108 #[.agg #[b,d,e]] f λb b=>K tQ b) (O0 λI54=>(nP a λb=>lI .i64 f b λb=>D0 (b == 12) (I54 [dQ true,dQ true] f) (nP a λb=>lI .i64 f b λb=>I54 [dQ (b == 13),dQ (b == 13)] f))/\(∀(b d:Value) (e:F8) (e:A2),(I54 [b,d] e)->(asBool b λb=>D0 b (L1 e c.size λb d f=>cf 109 #[.agg #[b,d,f]] e λb b=>K tQ b) (nP a λa=>lI .i64 e a λa=>D0 (a == 14) (L1 e c.size λa b c=>cf 110 #[.agg #[a,b,c]] e λa a=>K tQ a) (cf 111 #[pQ xa,pQ xb] e λa a=>K tQ a)))))))))))))
theorem call63 {xa xb:Option Addr} (H:F63 K h xa xb):A5 Tryz.prog 63 #[(pQ xa),(pQ xb)] h K:=
 cQ Tryz.func63 H
abbrev g107 (K:kQ) (h H1:A2):Prop:=
 (lP H1 ⟨h.size,2,none⟩ λa=>nP a λa=>lI .i64 H1 (a.add 1) λa=>D0 (a == 0) (L1 H1 h.size λa b c=>L1 H1 h.size λd e f=>lP H1 ⟨h.size,2,none⟩ λg=>nP g λg=>bd 0 10 (lI .u64 H1 (g.add 2) λg=>cf 145 #[.agg #[d,e,f],uQ g] H1 λd e=>asInt .i64 d λd=>ce e h.size 0 a (ce e h.size 1 b (ce e h.size 2 c (((A3 (e.push (oQ #[uQ 1,uQ (IntKind.wrap .u64 d)] 178)) (aQ h.size))=(some a))/\(((A3 (e.push (oQ #[uQ 1,uQ (IntKind.wrap .u64 d)] 178)) ⟨h.size,1,none⟩)=(some b))/\(((A3 (e.push (oQ #[uQ 1,uQ (IntKind.wrap .u64 d)] 178)) ⟨h.size,2,none⟩)=(some c))/\(cf 144 #[.agg #[a,b,c],iQ 1,iQ 3,lQ (some (aQ e.size)) 2 2] (e.push (oQ #[uQ 1,uQ (IntKind.wrap .u64 d)] 178)) λa a=>K tQ a)))))))) (lP H1 ⟨h.size,1,none⟩ λa=>nP a λa=>bd 0 3 (lI .u64 H1 (a.add 2) λa=>cf 146 #[uQ a] H1 λb c=>asInt .i64 b λb=>D0 (b == 0) (lP c ⟨h.size,1,none⟩ λb=>cf 106 #[pQ b,lQ (some (aQ c.size)) 2 2] (c.push (oQ #[uQ a,uQ 1099511627776] 178)) λb b=>K tQ b) (D1 c ⟨h.size,1,none⟩ λb=>C2 b λd=>D1 c (aQ h.size) λe=>C2 e λf=>L1 c h.size λg i j=>cf 148 #[.agg #[g,i,j],uQ a,iQ 0] c λc g=>asInt .i64 c λc=>ce g h.size 0 e (ce g h.size 1 b (cf 147 #[pQ f,iQ c] g λc e=>asInt .u64 c λc=>ce e h.size 1 b (((A3 (e.push (oQ #[uQ a,uQ c] 178)) ⟨h.size,1,none⟩)=(some b))/\(cf 106 #[pQ d,lQ (some (aQ e.size)) 2 2] (e.push (oQ #[uQ a,uQ c] 178)) λa a=>K tQ a))))))))
def F107 (K:kQ) (h:A2) (xa xb xc:Option Addr):Prop:=
 (g107 K h (h.push (oQ #[pQ xa,pQ xb,pQ xc] 187)))
theorem call107 {xa xb xc:Option Addr} (H:F107 K h xa xb xc):A5 Tryz.prog 107 #[(.agg #[(pQ xa),(pQ xb),(pQ xc)])] h K:=
 cQ Tryz.func107 H
abbrev g108 (K:kQ) (h H1:A2):Prop:=
 (lP H1 (Addr.add (aQ h.size) 2) λa=>nP a λa=>lI .i64 H1 (a.add 1) λa=>D0 (decide (a<=3)) (L1 H1 h.size λa b c=>cf 149 #[.agg #[a,b,c]] H1 λa a=>K tQ a) (lP H1 (Addr.add (aQ h.size) 2) λa=>nP a λa=>lI .i64 H1 (a.add 1) λa=>D0 (decide (a<=7)) (L1 H1 h.size λa b c=>cf 150 #[.agg #[a,b,c]] H1 λa a=>K tQ a) (lP H1 (Addr.add (aQ h.size) 2) λa=>nP a λa=>lI .i64 H1 (a.add 1) λa=>D0 (decide (a<=9)) (L1 H1 h.size λa b c=>cf 151 #[.agg #[a,b,c]] H1 λa a=>K tQ a) (L1 H1 h.size λa b c=>cf 152 #[.agg #[a,b,c]] H1 λa a=>K tQ a))))
def F108 (K:kQ) (h:A2) (xa xb xc:Option Addr):Prop:=
 (g108 K h (h.push (oQ #[pQ xa,pQ xb,pQ xc] 193)))
theorem call108 {xa xb xc:Option Addr} (H:F108 K h xa xb xc):A5 Tryz.prog 108 #[(.agg #[(pQ xa),(pQ xb),(pQ xc)])] h K:=
 cQ Tryz.func108 H
abbrev g109 (K:kQ) (h H1:A2):Prop:=
 (lP H1 (Addr.add (aQ h.size) 2) λa=>G3 H1 (aQ h.size) λb c d=>cf 153 #[.agg #[b,c,d],iQ 0] H1 λb c=>asInt .u64 b λb=>nP a λd=>lI .i64 c (d.add 1) λd=>D0 (d == 4) (D1 c (aQ h.size) λe=>C2 e λf=>G3 c (aQ h.size) λg i j=>nP a λk=>cf 148 #[.agg #[g,i,j],uQ b,iQ 2] c λg i=>asInt .i64 g λg=>ce i h.size 0 e (cf 147 #[pQ f,iQ g] i λe f=>asInt .u64 e λe=>bd 3 10 (C4 f (k.add 5) (uQ e) λe=>nP a λf=>C4 e (f.add 1) (iQ 5) λe=>K tQ e))) (D0 (d == 5) (nP a λe=>C4 c (e.add 1) (iQ 0) λe=>G3 e (aQ h.size) λf g i=>nP a λj=>bd 3 10 (lI .u64 e (j.add 5) λj=>cf 154 #[.agg #[f,g,i],uQ 1,uQ b,iQ (IntKind.wrap .i64 j),dQ true] e λe f=>asBool e λe=>D0 e (G3 f (aQ h.size) λe g i=>cf 144 #[.agg #[e,g,i],iQ 6,iQ 14,lQ (some (aQ f.size)) 1 1] (f.push (oQ #[uQ 1] 178)) λe e=>K tQ e) (K tQ f))) (D0 (d == 6) (G3 c (aQ h.size) λe f g=>cf 146 #[uQ b] c λb i=>asInt .i64 b λb=>ce i h.size 0 e (((A3 i (Addr.add (aQ h.size) 1))=(some f))/\(((A3 i (Addr.add (aQ h.size) 2))=(some g))/\(((A3 (i.push (oQ #[uQ (IntKind.wrap .u64 b)] 178)) (aQ h.size))=(some e))/\(((A3 (i.push (oQ #[uQ (IntKind.wrap .u64 b)] 178)) (Addr.add (aQ h.size) 1))=(some f))/\(((A3 (i.push (oQ #[uQ (IntKind.wrap .u64 b)] 178)) (Addr.add (aQ h.size) 2))=(some g))/\(cf 144 #[.agg #[e,f,g],iQ 7,iQ 5,lQ (some (aQ i.size)) 1 1] (i.push (oQ #[uQ (IntKind.wrap .u64 b)] 178)) λb b=>K tQ b))))))) (D0 (d == 7) (G3 c (aQ h.size) λb d e=>nP a λf=>bd 1 10 (lI .u64 c (f.add 3) λf=>nP a λa=>bd 2 10 (lI .u64 c (a.add 4) λa=>cf 155 #[.agg #[b,d,e],uQ 2,uQ f,uQ a] c λa a=>K tQ a))) (L1 c h.size λa b d=>cf 156 #[.agg #[a,b,d]] c λa a=>K tQ a)))))
def F109 (K:kQ) (h:A2) (xa xb xc:Option Addr):Prop:=
 (g109 K h (h.push (oQ #[pQ xa,pQ xb,pQ xc] 194)))
theorem call109 {xa xb xc:Option Addr} (H:F109 K h xa xb xc):A5 Tryz.prog 109 #[(.agg #[(pQ xa),(pQ xb),(pQ xc)])] h K:=
 cQ Tryz.func109 H
abbrev g110 (K:kQ) (h H1:A2):Prop:=
 (lP H1 (Addr.add (aQ h.size) 2) λa=>nP a λb=>bd 0 10 (lI .u64 H1 (b.add 2) λb=>nP a λc=>lI .i64 H1 (c.add 1) λc=>D0 (c == 4) (G3 H1 (aQ h.size) λd e f=>cf 144 #[.agg #[d,e,f],iQ 5,iQ 10,lQ (some (aQ H1.size)) 1 1] (H1.push (oQ #[uQ (IntKind.wrap .u64 (2*b))] 178)) λd d=>K tQ d) (D0 (c == 5) (L1 H1 h.size λd e f=>cf 157 #[.agg #[d,e,f],iQ 3,iQ 6,uQ (IntKind.wrap .u64 (2*b))] H1 λd d=>O0 λI18=>(nP a λe=>lI .i64 d (e.add 1) λe=>D0 (e == 6) (lP d (Addr.add (aQ h.size) 1) λe=>cf 105 #[pQ e] d λe f=>C2 e λe=>Qb Tryz.prog .eql 184 e a f λe f=>asBool e λe=>I18 [dQ e] f) (I18 [dQ false] d))/\(∀(d:Value) (e:F8) (e:A2),(I18 [d] e)->(asBool d λd=>D0 d (G3 e (aQ h.size) λd f g=>cf 144 #[.agg #[d,f,g],iQ 6,iQ 10,lQ (some (aQ e.size)) 1 1] (e.push (oQ #[uQ (IntKind.wrap .u64 ((IntKind.wrap .u64 (2*b))+1))] 178)) λd d=>K tQ d) (K tQ e)))) (D0 (c == 6) (L1 H1 h.size λd e f=>cf 157 #[.agg #[d,e,f],iQ 5,iQ 7,uQ (IntKind.wrap .u64 ((IntKind.wrap .u64 (2*b))+1))] H1 λd d=>K tQ d) (D0 (c == 7) (O0 λI44=>(nP a λc=>bd 4 10 (lI .u64 H1 (c.add 6) λc=>nP a λd=>bd 6 10 (lI .u64 H1 (d.add 8) λd=>D0 (decide (c<=d)) (nP a λc=>bd 4 10 (lI .u64 H1 (c.add 6) λc=>nP a λd=>bd 2 10 (lI .u64 H1 (d.add 4) λd=>I44 [dQ (decide (c < d)),dQ (decide (c < d))] H1))) (I44 [dQ false,dQ false] H1))))/\(∀(c d:Value) (e:F8) (e:A2),(I44 [c,d] e)->(asBool c λc=>D0 c (L1 e h.size λc d f=>cf 158 #[.agg #[c,d,f],iQ 3,uQ (IntKind.wrap .u64 (2*b))] e λc c=>K tQ c) (O0 λI67=>(nP a λc=>bd 6 10 (lI .u64 e (c.add 8) λc=>nP a λd=>bd 4 10 (lI .u64 e (d.add 6) λd=>D0 (decide (c < d)) (nP a λc=>bd 6 10 (lI .u64 e (c.add 8) λc=>nP a λa=>bd 2 10 (lI .u64 e (a.add 4) λa=>I67 [dQ (decide (c < a)),dQ (decide (c < a))] e))) (I67 [dQ false,dQ false] e))))/\(∀(a c:Value) (d:F8) (d:A2),(I67 [a,c] d)->(asBool a λa=>D0 a (L1 d h.size λa c e=>cf 158 #[.agg #[a,c,e],iQ 5,uQ (IntKind.wrap .u64 ((IntKind.wrap .u64 (2*b))+1))] d λa a=>K tQ a) (L1 d h.size λa b c=>cf 159 #[.agg #[a,b,c]] d λa a=>K tQ a))))))) (L1 H1 h.size λa b c=>cf 160 #[.agg #[a,b,c]] H1 λa a=>K tQ a))))))
def F110 (K:kQ) (h:A2) (xa xb xc:Option Addr):Prop:=
 (g110 K h (h.push (oQ #[pQ xa,pQ xb,pQ xc] 195)))
theorem call110 {xa xb xc:Option Addr} (H:F110 K h xa xb xc):A5 Tryz.prog 110 #[(.agg #[(pQ xa),(pQ xb),(pQ xc)])] h K:=
 cQ Tryz.func110 H
abbrev g144 (K:kQ) (h H1:A2) (xa xb:Int) (xc:Option Addr) (xd xe:Nat):Prop:=
 (lP H1 ⟨h.size,2,none⟩ λa=>nP a λa=>C4 H1 (a.add 1) (iQ xa) λa=>lP a ⟨h.size,1,none⟩ λb=>cf 130 #[pQ b,iQ xb,lQ xc xd xe] a λa a=>K tQ a)
def F144 (K:kQ) (h:A2) (xa xb xc:Option Addr) (xd xe:Int) (xf:Option Addr) (xg xh:Nat):Prop:=
 (g144 K h (h.push (oQ #[pQ xa,pQ xb,pQ xc] 187)) xd xe xf xg xh)
theorem call144 {xa xb xc:Option Addr} {xd xe:Int} {xf:Option Addr} {xg xh:Nat} (H:F144 K h xa xb xc xd xe xf xg xh):A5 Tryz.prog 144 #[(.agg #[(pQ xa),(pQ xb),(pQ xc)]),(iQ xd),(iQ xe),(lQ xf xg xh)] h K:=
 cQ Tryz.func144 H
abbrev g145 (K:kQ) (h H1:A2) (xa:Int):Prop:=
 (lP H1 (aQ h.size) λa=>cf 79 #[pQ a] H1 λa b=>asAgg a λa=>G0 a 15 (N0 a λa c d e f g i j k l m n o p q=>cf 207 #[.agg #[a,c,d,e,f,g,i,j,k,l,m,n,o,p,q],iQ (IntKind.wrap .i64 xa)] b λa b=>asInt .i64 a λa=>K (iQ a) b))
def F145 (K:kQ) (h:A2) (xa xb xc:Option Addr) (xd:Int):Prop:=
 (g145 K h (h.push (oQ #[pQ xa,pQ xb,pQ xc] 187)) xd)
theorem call145 {xa xb xc:Option Addr} {xd:Int} (H:F145 K h xa xb xc xd):A5 Tryz.prog 145 #[(.agg #[(pQ xa),(pQ xb),(pQ xc)]),(uQ xd)] h K:=
 cQ Tryz.func145 H
abbrev g148 (K:kQ) (h H1:A2) (xa xb:Int):Prop:=
 (lP H1 (aQ h.size) λa=>cf 79 #[pQ a] H1 λa b=>asAgg a λa=>G0 a 15 (N0 a λa c d e f g i j k l m n o p q=>cf 146 #[uQ xa] b λb r=>asInt .i64 b λb=>cf 143 #[.agg #[a,c,d,e,f,g,i,j,k,l,m,n,o,p,q],iQ b,iQ xb] r λa b=>asInt .i64 a λa=>K (iQ a) b))
def F148 (K:kQ) (h:A2) (xa xb xc:Option Addr) (xd xe:Int):Prop:=
 (g148 K h (h.push (oQ #[pQ xa,pQ xb,pQ xc] 187)) xd xe)
theorem call148 {xa xb xc:Option Addr} {xd xe:Int} (H:F148 K h xa xb xc xd xe):A5 Tryz.prog 148 #[(.agg #[(pQ xa),(pQ xb),(pQ xc)]),(uQ xd),(iQ xe)] h K:=
 cQ Tryz.func148 H
abbrev g149 (K:kQ) (h H1:A2):Prop:=
 (lP H1 (Addr.add (aQ h.size) 2) λa=>nP a λb=>lI .i64 H1 (b.add 1) λb=>D0 (b == 0) (G3 H1 (aQ h.size) λc d e=>cf 144 #[.agg #[c,d,e],iQ 1,iQ 1,lQ none 0 0] H1 λc c=>K tQ c) (D0 (b == 1) (lP H1 (Addr.add (aQ h.size) 1) λc=>nP c λc=>bd 0 3 (lI .u64 H1 (c.add 2) λc=>nP a λd=>bd 2 10 (C4 H1 (d.add 4) (uQ c) λc=>nP a λd=>bd 2 10 (lI .u64 c (d.add 4) λd=>D0 (d != 0) (nP a λd=>C4 c (d.add 1) (iQ 2) λd=>K tQ d) (O0 λI22=>(nP a λd=>bd 3 10 (lI .u64 c (d.add 5) λd=>D0 (d == 0) (lP c (Addr.add (aQ h.size) 1) λd=>nP d λd=>cf 211 #[pQ (some (d.add 8))] c λd e=>asInt .i64 d λd=>I22 [dQ (decide (d > 0)),dQ (decide (d > 0))] e) (I22 [dQ false,dQ false] c)))/\(∀(c d:Value) (e:F8) (e:A2),(I22 [c,d] e)->(asBool c λc=>D0 c (nP a λc=>bd 3 10 (C4 e (c.add 5) (uQ 1) λc=>G3 c (aQ h.size) λd f g=>cf 144 #[.agg #[d,f,g],iQ 0,iQ 6,lQ none 0 0] c λc c=>K tQ c)) (G3 e (aQ h.size) λc d f=>cf 155 #[.agg #[c,d,f],uQ 1,uQ 0,uQ 0] e λc c=>K tQ c)))))))) (D0 (b == 2) (D1 H1 (aQ h.size) λc=>C2 c λd=>lP H1 (aQ h.size) λe=>nP a λf=>bd 2 10 (D1 H1 (f.add 4) λg=>asInt .u64 g λi=>nP a λj=>bd 0 10 (D1 H1 (j.add 2) λk=>asInt .u64 k λl=>cf 79 #[pQ e] H1 λe m=>asAgg e λe=>G0 e 15 (N0 e λe n o p q r s t u v w x y z A=>((A3 m (j.add 2))=(some k))/\(((A3 m (f.add 4))=(some g))/\(ce m h.size 0 c (cf 143 #[.agg #[e,n,o,p,q,r,s,t,u,v,w,x,y,z,A],iQ (IntKind.wrap .i64 i),iQ 0] m λe f=>asInt .i64 e λe=>((A3 f (j.add 2))=(some k))/\(ce f h.size 0 c (cf 212 #[pQ d,iQ e,uQ l] f λc c=>nP a λd=>C4 c (d.add 1) (iQ 3) λc=>K tQ c))))))))) (D0 (b == 3) (D1 H1 (aQ h.size) λb=>C2 b λc=>lP H1 (aQ h.size) λd=>nP a λe=>bd 2 10 (D1 H1 (e.add 4) λf=>asInt .u64 f λg=>nP a λi=>bd 1 10 (D1 H1 (i.add 3) λj=>asInt .u64 j λk=>cf 79 #[pQ d] H1 λd l=>asAgg d λd=>G0 d 15 (N0 d λd m n o p q r s t u v w x y z=>((A3 l (i.add 3))=(some j))/\(((A3 l (e.add 4))=(some f))/\(ce l h.size 0 b (cf 143 #[.agg #[d,m,n,o,p,q,r,s,t,u,v,w,x,y,z],iQ (IntKind.wrap .i64 g),iQ 1] l λd e=>asInt .i64 d λd=>((A3 e (i.add 3))=(some j))/\(ce e h.size 0 b (cf 212 #[pQ c,iQ d,uQ k] e λb b=>nP a λc=>bd 3 10 (C4 b (c.add 5) (uQ 0) λb=>nP a λa=>C4 b (a.add 1) (iQ 4) λa=>K tQ a)))))))))) (K tQ H1)))))
def F149 (K:kQ) (h:A2) (xa xb xc:Option Addr):Prop:=
 (g149 K h (h.push (oQ #[pQ xa,pQ xb,pQ xc] 193)))
theorem call149 {xa xb xc:Option Addr} (H:F149 K h xa xb xc):A5 Tryz.prog 149 #[(.agg #[(pQ xa),(pQ xb),(pQ xc)])] h K:=
 cQ Tryz.func149 H
abbrev g150 (K:kQ) (h H1:A2):Prop:=
 (lP H1 (Addr.add (aQ h.size) 2) λa=>lP H1 (aQ h.size) λb=>cf 79 #[pQ b] H1 λb c=>asAgg b λb=>G0 b 15 (N0 b λb d e f g i j k l m n o p q r=>cf 139 #[.agg #[b,d,e,f,g,i,j,k,l,m,n,o,p,q,r]] c λb c=>asAgg b λb=>G0 b 7 (Nh b λb d e f g i j=>C4 (c.push (oQ NW 23)) (aQ c.size) b λb=>C4 b ⟨c.size,1,none⟩ d λb=>C4 b ⟨c.size,2,none⟩ e λb=>C4 b ⟨c.size,3,none⟩ f λb=>C4 b ⟨c.size,4,none⟩ g λb=>C4 b ⟨c.size,5,none⟩ i λb=>C4 b ⟨c.size,6,none⟩ j λb=>nP a λd=>lI .i64 b (d.add 1) λd=>D0 (d == 4) (lP b (aQ h.size) λe=>nP a λf=>cf 147 #[pQ e,iQ 2] b λe g=>asInt .u64 e λe=>bd 4 10 (C4 g (f.add 6) (uQ e) λe=>nP a λf=>bd 4 10 (lI .u64 e (f.add 6) λf=>lP e (aQ h.size) λg=>nP a λi=>cf 214 #[pQ g] e λe g=>C2 e λe=>cf 216 #[iQ (IntKind.wrap .i64 f)] g λg j=>asInt .i64 g λg=>cf 215 #[pQ e,iQ g] j λe g=>asInt .i64 e λe=>cf 213 #[iQ (IntKind.wrap .i64 f),iQ e] g λe f=>asInt .i64 e λe=>bd 5 10 (C4 f (i.add 7) (uQ (IntKind.wrap .u64 e)) λe=>nP a λf=>C4 e (f.add 1) (iQ 5) λe=>K tQ e)))) (D0 (d == 5) (G3 b (aQ h.size) λe f g=>nP a λi=>bd 5 10 (lI .u64 b (i.add 7) λi=>((A3 (b.push (oQ #[uQ i] 178)) (aQ h.size))=(some e))/\(((A3 (b.push (oQ #[uQ i] 178)) (Addr.add (aQ h.size) 1))=(some f))/\(((A3 (b.push (oQ #[uQ i] 178)) (Addr.add (aQ h.size) 2))=(some g))/\(cf 144 #[.agg #[e,f,g],iQ 6,iQ 10,lQ (some (aQ b.size)) 1 1] (b.push (oQ #[uQ i] 178)) λe e=>K tQ e))))) (D0 (d == 6) (lP b (Addr.add (aQ h.size) 1) λe=>nP e λe=>bd 1 3 (lI .u64 b (e.add 3) λe=>nP a λf=>bd 0 10 (lI .u64 b (f.add 2) λf=>D0 (decide (e >= f)) (L1 b h.size λe f g=>nP a λi=>bd 4 10 (lI .u64 b (i.add 6) λi=>cf 218 #[iQ (IntKind.wrap .i64 i)] b λi j=>asAgg i λi=>G0 i 2 (de2 i λi k=>ce j h.size 0 e (ce j h.size 1 f (ce j h.size 2 g (cf 217 #[.agg #[e,f,g],.agg #[i,k]] j λe e=>nP a λf=>C4 e (f.add 1) (iQ 8) λe=>K tQ e)))))) (nP a λe=>bd 3 10 (lI .u64 b (e.add 5) λe=>nP a λf=>bd 3 10 (C4 b (f.add 5) (uQ (IntKind.wrap .u64 (e+1))) λe=>nP a λf=>C4 e (f.add 1) (iQ 4) λe=>nP a λf=>bd 3 10 (lI .u64 e (f.add 5) λf=>lI .i64 e ⟨c.size,5,none⟩ λg=>D0 (decide ((IntKind.wrap .i64 f) >= g)) (nP a λf=>C4 e (f.add 1) (iQ 7) λf=>K tQ f) (K tQ e)))))))) (D0 (d == 7) (nP a λd=>bd 4 10 (lI .u64 b (d.add 6) λd=>lI .i64 b ⟨c.size,3,none⟩ λc=>D0 (decide ((IntKind.wrap .i64 d) >= c)) (G3 b (aQ h.size) λc d e=>cf 155 #[.agg #[c,d,e],uQ 1,uQ 0,uQ 0] b λc c=>D1 c (Addr.add (aQ h.size) 1) λd=>C2 d λe=>nP a λf=>bd 2 10 (lI .u64 c (f.add 4) λf=>((A3 (c.push (oQ #[uQ f] 178)) (Addr.add (aQ h.size) 1))=(some d))/\(cf 130 #[pQ e,iQ 5,lQ (some (aQ c.size)) 1 1] (c.push (oQ #[uQ f] 178)) λc c=>K tQ c))) (lP b (aQ h.size) λc=>nP a λd=>bd 4 10 (lI .u64 b (d.add 6) λd=>nP a λe=>bd 4 10 (lI .u64 b (e.add 6) λe=>cf 219 #[pQ c,iQ 2,uQ d,uQ (IntKind.wrap .u64 (e+1))] b λc d=>asBool c λc=>nP a λc=>bd 3 10 (C4 d (c.add 5) (uQ 0) λc=>nP a λa=>C4 c (a.add 1) (iQ 4) λa=>K tQ a)))))) (K tQ b)))))))
def F150 (K:kQ) (h:A2) (xa xb xc:Option Addr):Prop:=
 (g150 K h (h.push (oQ #[pQ xa,pQ xb,pQ xc] 193)))
theorem call150 {xa xb xc:Option Addr} (H:F150 K h xa xb xc):A5 Tryz.prog 150 #[(.agg #[(pQ xa),(pQ xb),(pQ xc)])] h K:=
 cQ Tryz.func150 H
abbrev g151 (K:kQ) (h H1:A2):Prop:=
 (L1 H1 h.size λa b c=>cf 220 #[.agg #[a,b,c]] H1 λa b=>asAgg a λa=>G0 a 2 (de2 a λa c=>C4 (b.push (oQ #[iQ 0,iQ 0] 282)) (aQ b.size) a λa=>C4 a ⟨b.size,1,none⟩ c λa=>lP a (Addr.add (aQ h.size) 2) λc=>nP c λc=>lI .i64 a (c.add 1) λc=>D0 (c == 8) (Ou a b.size λd e=>cf 221 #[.agg #[d,e]] a λd e=>asBool d λd=>D0 d (lP e (Addr.add (aQ h.size) 2) λd=>nP d λd=>C4 e (d.add 1) (iQ 10) λd=>K tQ d) (G3 e (aQ h.size) λd f g=>L1 e h.size λi j k=>Ou e b.size λl m=>cf 223 #[.agg #[l,m]] e λe l=>asInt .i64 e λe=>ce l h.size 0 i (ce l h.size 1 j (ce l h.size 2 k (ce l h.size 0 d (((A3 l (Addr.add (aQ h.size) 1))=(some f))/\(((A3 l (Addr.add (aQ h.size) 2))=(some g))/\(cf 222 #[.agg #[i,j,k],iQ e] l λe i=>asInt .u64 e λe=>ce i h.size 0 d (((A3 i (Addr.add (aQ h.size) 1))=(some f))/\(((A3 i (Addr.add (aQ h.size) 2))=(some g))/\(((A3 (i.push (oQ #[uQ e] 178)) (aQ h.size))=(some d))/\(((A3 (i.push (oQ #[uQ e] 178)) (Addr.add (aQ h.size) 1))=(some f))/\(((A3 (i.push (oQ #[uQ e] 178)) (Addr.add (aQ h.size) 2))=(some g))/\(cf 144 #[.agg #[d,f,g],iQ 9,iQ 10,lQ (some (aQ i.size)) 1 1] (i.push (oQ #[uQ e] 178)) λd d=>K tQ d)))))))))))))) (D0 (c == 9) (L1 a h.size λc d e=>Ou a b.size λb f=>lP a (Addr.add (aQ h.size) 1) λg=>nP g λg=>bd 1 3 (lI .u64 a (g.add 3) λg=>lP a (Addr.add (aQ h.size) 2) λi=>nP i λi=>bd 0 10 (lI .u64 a (i.add 2) λi=>cf 224 #[.agg #[b,f],dQ (decide (g >= i))] a λb f=>asAgg b λb=>G0 b 2 (de2 b λb g=>ce f h.size 0 c (ce f h.size 1 d (ce f h.size 2 e (cf 217 #[.agg #[c,d,e],.agg #[b,g]] f λb b=>lP b (Addr.add (aQ h.size) 2) λc=>nP c λc=>C4 b (c.add 1) (iQ 8) λb=>K tQ b))))))) (K tQ a))))
def F151 (K:kQ) (h:A2) (xa xb xc:Option Addr):Prop:=
 (g151 K h (h.push (oQ #[pQ xa,pQ xb,pQ xc] 193)))
theorem call151 {xa xb xc:Option Addr} (H:F151 K h xa xb xc):A5 Tryz.prog 151 #[(.agg #[(pQ xa),(pQ xb),(pQ xc)])] h K:=
 cQ Tryz.func151 H
abbrev g152 (K:kQ) (h H1:A2):Prop:=
 (lP H1 (Addr.add (aQ h.size) 2) λa=>L1 H1 h.size λb c d=>L1 H1 h.size λe f g=>cf 220 #[.agg #[e,f,g]] H1 λe f=>asAgg e λe=>G0 e 2 (de2 e λe g=>ce f h.size 0 b (ce f h.size 1 c (ce f h.size 2 d (asInt .i64 e λe=>cf 222 #[.agg #[b,c,d],iQ e] f λb c=>asInt .u64 b λb=>G3 c (aQ h.size) λd e f=>cf 153 #[.agg #[d,e,f],iQ 3] c λc d=>asInt .u64 c λc=>nP a λe=>lI .i64 d (e.add 1) λe=>D0 (e == 10) (G3 d (aQ h.size) λf g i=>cf 144 #[.agg #[f,g,i],iQ 11,iQ 10,lQ (some (aQ d.size)) 1 1] (d.push (oQ #[uQ b] 178)) λf f=>K tQ f) (D0 (e == 11) (lP d (Addr.add (aQ h.size) 1) λf=>nP f λf=>bd 1 3 (lI .u64 d (f.add 3) λf=>nP a λg=>bd 0 10 (lI .u64 d (g.add 2) λg=>D0 (decide (f < g)) (nP a λf=>bd 3 10 (C4 d (f.add 5) (uQ 0) λf=>nP a λg=>C4 f (g.add 1) (iQ 4) λf=>K tQ f)) (lP d (Addr.add (aQ h.size) 1) λf=>nP f λf=>bd 0 3 (lI .u64 d (f.add 2) λf=>nP a λg=>bd 3 10 (C4 d (g.add 5) (uQ f) λf=>D1 f (aQ h.size) λg=>C2 g λi=>lP f (aQ h.size) λj=>nP a λk=>bd 2 10 (D1 f (k.add 4) λl=>asInt .u64 l λm=>G3 f (aQ h.size) λn o p=>cf 79 #[pQ j] f λf j=>asAgg f λf=>G0 f 15 (N0 f λf q r s t u v w x y z A B C D=>ce j h.size 0 n (((A3 j (Addr.add (aQ h.size) 1))=(some o))/\(((A3 j (Addr.add (aQ h.size) 2))=(some p))/\(((A3 j (k.add 4))=(some l))/\(ce j h.size 0 g (cf 143 #[.agg #[f,q,r,s,t,u,v,w,x,y,z,A,B,C,D],iQ (IntKind.wrap .i64 m),iQ 2] j λf j=>asInt .i64 f λf=>ce j h.size 0 n (((A3 j (Addr.add (aQ h.size) 1))=(some o))/\(((A3 j (Addr.add (aQ h.size) 2))=(some p))/\(ce j h.size 0 g (cf 153 #[.agg #[n,o,p],iQ 3] j λj k=>asInt .u64 j λj=>ce k h.size 0 g (cf 146 #[uQ j] k λj k=>asInt .i64 j λj=>ce k h.size 0 g (cf 212 #[pQ i,iQ f,uQ (IntKind.wrap .u64 j)] k λf f=>nP a λg=>C4 f (g.add 1) (iQ 13) λf=>D0 (b == 1) (nP a λg=>C4 f (g.add 1) (iQ 12) λg=>K tQ g) (K tQ f)))))))))))))))))))) (D0 (e == 12) (L1 d h.size λf g i=>G3 d (aQ h.size) λj k l=>nP a λm=>bd 2 10 (D1 d (m.add 4) λn=>asInt .u64 n λo=>cf 226 #[uQ c] d λp q=>asBool p λp=>((A3 q (m.add 4))=(some n))/\(ce q h.size 0 j (((A3 q (Addr.add (aQ h.size) 1))=(some k))/\(((A3 q (Addr.add (aQ h.size) 2))=(some l))/\(dc3 q h.size f g i (cf 154 #[.agg #[j,k,l],uQ 1,uQ c,iQ (IntKind.wrap .i64 o),dQ p] q λj k=>asBool j λj=>ce k h.size 0 f (ce k h.size 1 g (ce k h.size 2 i (cf 225 #[.agg #[f,g,i],dQ j] k λf f=>K tQ f)))))))))) (D0 (e == 13) (G3 d (aQ h.size) λf g i=>((2:Int)≠0)/\(cf 144 #[.agg #[f,g,i],iQ 14,iQ 10,lQ (some (aQ d.size)) 1 1] (d.push (oQ #[uQ (IntKind.wrap .u64 (Int.tdiv b 2))] 178)) λf f=>K tQ f)) (D0 (e == 14) (lP d (Addr.add (aQ h.size) 1) λe=>nP e λe=>bd 1 3 (lI .u64 d (e.add 3) λe=>nP a λf=>bd 0 10 (lI .u64 d (f.add 2) λf=>D0 (decide (e > f)) (L1 d h.size λe f g=>cf 225 #[.agg #[e,f,g],dQ false] d λe e=>K tQ e) (L1 d h.size λe f g=>D1 d (aQ h.size) λi=>C2 i λj=>G3 d (aQ h.size) λk l m=>nP a λa=>bd 2 10 (D1 d (a.add 4) λn=>asInt .u64 n λo=>G3 d (aQ h.size) λp q r=>((2:Int)≠0)/\(D1 d (Addr.add (aQ h.size) 1) λs=>C2 s λt=>nP t λt=>bd 0 3 (D1 d (t.add 2) λu=>asInt .u64 u λv=>cf 145 #[.agg #[k,l,m],uQ b] d λk l=>asInt .i64 k λk=>((A3 l (t.add 2))=(some u))/\(((A3 l (Addr.add (aQ h.size) 1))=(some s))/\(ce l h.size 0 p (((A3 l (Addr.add (aQ h.size) 1))=(some q))/\(((A3 l (Addr.add (aQ h.size) 2))=(some r))/\(((A3 l (a.add 4))=(some n))/\(ce l h.size 0 i (dc3 l h.size e f g (cf 226 #[uQ c] l λl m=>asBool l λl=>((A3 m (t.add 2))=(some u))/\(((A3 m (Addr.add (aQ h.size) 1))=(some s))/\(ce m h.size 0 p (((A3 m (Addr.add (aQ h.size) 1))=(some q))/\(((A3 m (Addr.add (aQ h.size) 2))=(some r))/\(((A3 m (a.add 4))=(some n))/\(ce m h.size 0 i (dc3 m h.size e f g (cf 228 #[uQ c,iQ (IntKind.wrap .i64 o),dQ l] m λa l=>asInt .u64 a λa=>((A3 l (t.add 2))=(some u))/\(((A3 l (Addr.add (aQ h.size) 1))=(some s))/\(ce l h.size 0 p (((A3 l (Addr.add (aQ h.size) 1))=(some q))/\(((A3 l (Addr.add (aQ h.size) 2))=(some r))/\(ce l h.size 0 i (dc3 l h.size e f g (cf 145 #[.agg #[p,q,r],uQ (IntKind.wrap .u64 (Int.tdiv b 2))] l λb l=>asInt .i64 b λb=>((A3 l (t.add 2))=(some u))/\(((A3 l (Addr.add (aQ h.size) 1))=(some s))/\(ce l h.size 0 i (dc3 l h.size e f g (cf 227 #[pQ j,iQ k,uQ c,uQ a,iQ b,uQ v] l λa b=>asBool a λa=>ce b h.size 0 e (ce b h.size 1 f (ce b h.size 2 g (cf 225 #[.agg #[e,f,g],dQ a] b λa a=>K tQ a))))))))))))))))))))))))))))))))))))) (K tQ d))))))))))
def F152 (K:kQ) (h:A2) (xa xb xc:Option Addr):Prop:=
 (g152 K h (h.push (oQ #[pQ xa,pQ xb,pQ xc] 193)))
theorem call152 {xa xb xc:Option Addr} (H:F152 K h xa xb xc):A5 Tryz.prog 152 #[(.agg #[(pQ xa),(pQ xb),(pQ xc)])] h K:=
 cQ Tryz.func152 H
abbrev g153 (K:kQ) (h H1:A2) (xa:Int):Prop:=
 (lP H1 ⟨h.size,2,none⟩ λa=>nP a λa=>bd xa 10 (D1 H1 (Addr.add (a.add 2) (xa.toNat*1)) λa=>asInt .u64 a λa=>K (uQ a) H1))
def F153 (K:kQ) (h:A2) (xa xb xc:Option Addr) (xd:Int):Prop:=
 (g153 K h (h.push (oQ #[pQ xa,pQ xb,pQ xc] 187)) xd)
theorem call153 {xa xb xc:Option Addr} {xd:Int} (H:F153 K h xa xb xc xd):A5 Tryz.prog 153 #[(.agg #[(pQ xa),(pQ xb),(pQ xc)]),(iQ xd)] h K:=
 cQ Tryz.func153 H
abbrev g154 (K:kQ) (h H1:A2) (xa xb xc:Int) (xd:Bool):Prop:=
 (D1 H1 (aQ h.size) λa=>C2 a λb=>L1 H1 h.size λc d e=>cf 145 #[.agg #[c,d,e],uQ xa] H1 λc d=>asInt .i64 c λc=>ce d h.size 0 a (cf 228 #[uQ xb,iQ xc,dQ xd] d λd e=>asInt .u64 d λd=>ce e h.size 0 a (cf 219 #[pQ b,iQ c,uQ xb,uQ d] e λa b=>asBool a λa=>K (dQ a) b)))
def F154 (K:kQ) (h:A2) (xa xb xc:Option Addr) (xd xe xf:Int) (xg:Bool):Prop:=
 (g154 K h (h.push (oQ #[pQ xa,pQ xb,pQ xc] 187)) xd xe xf xg)
theorem call154 {xa xb xc:Option Addr} {xd xe xf:Int} {xg:Bool} (H:F154 K h xa xb xc xd xe xf xg):A5 Tryz.prog 154 #[(.agg #[(pQ xa),(pQ xb),(pQ xc)]),(uQ xd),(uQ xe),(iQ xf),(dQ xg)] h K:=
 cQ Tryz.func154 H
abbrev g155 (K:kQ) (h H1:A2) (xa xb xc:Int):Prop:=
 (lP H1 ⟨h.size,2,none⟩ λa=>D1 H1 ⟨h.size,2,none⟩ λb=>C2 b λc=>D1 H1 ⟨h.size,2,none⟩ λd=>C2 d λe=>nP a λa=>bd 7 10 (nP c λc=>nP e λe=>C4 H1 (a.add 9) (uQ xa) λa=>ce a h.size 2 d (ce a h.size 2 b (bd 8 10 (C4 a (c.add 10) (uQ xb) λa=>ce a h.size 2 d (bd 9 10 (C4 a (e.add 11) (uQ xc) λa=>L1 a h.size λb c d=>cf 144 #[.agg #[b,c,d],iQ 90,iQ 4,lQ none 0 0] a λa a=>K tQ a)))))))
def F155 (K:kQ) (h:A2) (xa xb xc:Option Addr) (xd xe xf:Int):Prop:=
 (g155 K h (h.push (oQ #[pQ xa,pQ xb,pQ xc] 187)) xd xe xf)
theorem call155 {xa xb xc:Option Addr} {xd xe xf:Int} (H:F155 K h xa xb xc xd xe xf):A5 Tryz.prog 155 #[(.agg #[(pQ xa),(pQ xb),(pQ xc)]),(uQ xd),(uQ xe),(uQ xf)] h K:=
 cQ Tryz.func155 H
abbrev g156 (K:kQ) (h H1:A2):Prop:=
 (lP H1 (Addr.add (aQ h.size) 2) λa=>G3 H1 (aQ h.size) λb c d=>cf 153 #[.agg #[b,c,d],iQ 0] H1 λb c=>asInt .u64 b λb=>nP a λd=>lI .i64 c (d.add 1) λd=>D0 (d == 0) (G3 c (aQ h.size) λe f g=>G3 c (aQ h.size) λi j k=>cf 145 #[.agg #[i,j,k],uQ 1] c λi j=>asInt .i64 i λi=>ce j h.size 0 e (((A3 j (Addr.add (aQ h.size) 1))=(some f))/\(((A3 j (Addr.add (aQ h.size) 2))=(some g))/\(((A3 (j.push (oQ #[uQ 0,uQ (IntKind.wrap .u64 i)] 178)) (aQ h.size))=(some e))/\(((A3 (j.push (oQ #[uQ 0,uQ (IntKind.wrap .u64 i)] 178)) (Addr.add (aQ h.size) 1))=(some f))/\(((A3 (j.push (oQ #[uQ 0,uQ (IntKind.wrap .u64 i)] 178)) (Addr.add (aQ h.size) 2))=(some g))/\(cf 144 #[.agg #[e,f,g],iQ 1,iQ 3,lQ (some (aQ j.size)) 2 2] (j.push (oQ #[uQ 0,uQ (IntKind.wrap .u64 i)] 178)) λe e=>K tQ e))))))) (D0 (d == 1) (lP c (Addr.add (aQ h.size) 1) λe=>nP e λe=>bd 0 3 (lI .u64 c (e.add 2) λe=>nP a λf=>bd 0 10 (C4 c (f.add 2) (uQ e) λe=>nP a λf=>C4 e (f.add 1) (iQ 2) λe=>G3 e (aQ h.size) λf g i=>cf 153 #[.agg #[f,g,i],iQ 0] e λe f=>asInt .u64 e λe=>cf 226 #[uQ e] f λe f=>asBool e λe=>D0 e (G3 f (aQ h.size) λe g i=>cf 144 #[.agg #[e,g,i],iQ 0,iQ 14,lQ (some (aQ f.size)) 1 1] (f.push (oQ #[uQ 1] 178)) λe e=>K tQ e) (G3 f (aQ h.size) λe g i=>cf 153 #[.agg #[e,g,i],iQ 0] f λe f=>asInt .u64 e λe=>cf 146 #[uQ e] f λe f=>asInt .i64 e λe=>D0 (e == 0) (G3 f (aQ h.size) λe g i=>cf 155 #[.agg #[e,g,i],uQ 3,uQ 0,uQ 0] f λe e=>K tQ e) (K tQ f))))) (D0 (d == 2) (D1 c (aQ h.size) λe=>C2 e λf=>G3 c (aQ h.size) λg i j=>nP a λk=>cf 148 #[.agg #[g,i,j],uQ b,iQ 0] c λg i=>asInt .i64 g λg=>ce i h.size 0 e (cf 147 #[pQ f,iQ g] i λe f=>asInt .u64 e λe=>bd 1 10 (C4 f (k.add 3) (uQ e) λe=>nP a λf=>C4 e (f.add 1) (iQ 3) λe=>K tQ e))) (D0 (d == 3) (D1 c (aQ h.size) λd=>C2 d λe=>G3 c (aQ h.size) λf g i=>nP a λj=>cf 148 #[.agg #[f,g,i],uQ b,iQ 1] c λb f=>asInt .i64 b λb=>ce f h.size 0 d (cf 147 #[pQ e,iQ b] f λb d=>asInt .u64 b λb=>bd 2 10 (C4 d (j.add 4) (uQ b) λb=>nP a λd=>C4 b (d.add 1) (iQ 4) λb=>nP a λd=>lI .i64 b d λd=>D0 (d == 13) (G3 b (aQ h.size) λd e f=>nP a λg=>bd 1 10 (lI .u64 b (g.add 3) λg=>nP a λa=>bd 2 10 (lI .u64 b (a.add 4) λa=>cf 155 #[.agg #[d,e,f],uQ 2,uQ g,uQ a] b λa a=>K tQ a))) (K tQ b)))) (K tQ c)))))
def F156 (K:kQ) (h:A2) (xa xb xc:Option Addr):Prop:=
 (g156 K h (h.push (oQ #[pQ xa,pQ xb,pQ xc] 194)))
theorem call156 {xa xb xc:Option Addr} (H:F156 K h xa xb xc):A5 Tryz.prog 156 #[(.agg #[(pQ xa),(pQ xb),(pQ xc)])] h K:=
 cQ Tryz.func156 H
abbrev g157 (K:kQ) (h H1:A2) (xa xb xc:Int):Prop:=
 (lP H1 (Addr.add (aQ h.size) 2) λa=>lP H1 (Addr.add (aQ h.size) 1) λb=>nP b λb=>bd 0 3 (lI .u64 H1 (b.add 2) λb=>lP H1 (Addr.add (aQ h.size) 1) λc=>nP c λc=>bd 1 3 (lI .u64 H1 (c.add 3) λc=>nP a λd=>bd xa 10 (nP a λe=>C4 H1 (Addr.add (d.add 2) (xa.toNat*1)) (uQ b) λb=>((0:Int)<=(IntKind.wrap .i64 (xa+1)))/\((((IntKind.wrap .i64 (xa+1)):Int) < 10)/\(C4 b (Addr.add (e.add 2) ((IntKind.wrap .i64 (xa+1)).toNat*1)) (uQ c) λb=>nP a λa=>C4 b (a.add 1) (iQ xb) λa=>G3 a (aQ h.size) λb c d=>cf 153 #[.agg #[b,c,d],iQ xa] a λa b=>asInt .u64 a λa=>cf 226 #[uQ a] b λa b=>asBool a λa=>D0 a (G3 b (aQ h.size) λa c d=>cf 144 #[.agg #[a,c,d],iQ 0,iQ 14,lQ (some (aQ b.size)) 1 1] (b.push (oQ #[uQ xc] 178)) λa a=>K tQ a) (K tQ b)))))))
def F157 (K:kQ) (h:A2) (xa xb xc:Option Addr) (xd xe xf:Int):Prop:=
 (g157 K h (h.push (oQ #[pQ xa,pQ xb,pQ xc] 195)) xd xe xf)
theorem call157 {xa xb xc:Option Addr} {xd xe xf:Int} (H:F157 K h xa xb xc xd xe xf):A5 Tryz.prog 157 #[(.agg #[(pQ xa),(pQ xb),(pQ xc)]),(iQ xd),(iQ xe),(uQ xf)] h K:=
 cQ Tryz.func157 H
abbrev g158 (K:kQ) (h H1:A2) (xa xb:Int):Prop:=
 (lP H1 (Addr.add (aQ h.size) 2) λa=>G3 H1 (aQ h.size) λb c d=>G3 H1 (aQ h.size) λe f g=>cf 153 #[.agg #[b,c,d],iQ 1] H1 λb c=>asInt .u64 b λb=>ce c h.size 0 e (((A3 c (Addr.add (aQ h.size) 1))=(some f))/\(((A3 c (Addr.add (aQ h.size) 2))=(some g))/\(cf 153 #[.agg #[e,f,g],iQ xa] c λc d=>asInt .u64 c λc=>nP a λe=>C4 d (e.add 1) (iQ 0) λd=>D1 d (aQ h.size) λe=>C2 e λf=>G3 d (aQ h.size) λg i j=>nP a λk=>bd 0 10 (lI .u64 d (k.add 2) λk=>G3 d (aQ h.size) λl m n=>cf 145 #[.agg #[g,i,j],uQ k] d λd g=>asInt .i64 d λd=>ce g h.size 0 l (((A3 g (Addr.add (aQ h.size) 1))=(some m))/\(((A3 g (Addr.add (aQ h.size) 2))=(some n))/\(ce g h.size 0 e (cf 146 #[uQ c] g λg i=>asInt .i64 g λg=>ce i h.size 0 l (((A3 i (Addr.add (aQ h.size) 1))=(some m))/\(((A3 i (Addr.add (aQ h.size) 2))=(some n))/\(ce i h.size 0 e (cf 228 #[uQ b,iQ g,dQ false] i λg i=>asInt .u64 g λg=>ce i h.size 0 l (((A3 i (Addr.add (aQ h.size) 1))=(some m))/\(((A3 i (Addr.add (aQ h.size) 2))=(some n))/\(ce i h.size 0 e (cf 145 #[.agg #[l,m,n],uQ xb] i λi j=>asInt .i64 i λi=>ce j h.size 0 e (cf 146 #[uQ b] j λj k=>asInt .i64 j λj=>ce k h.size 0 e (cf 228 #[uQ c,iQ j,dQ true] k λj k=>asInt .u64 j λj=>ce k h.size 0 e (cf 229 #[pQ f,iQ d,uQ b,uQ g,iQ i,uQ c,uQ j] k λb c=>asBool b λb=>D0 b (nP a λa=>bd 0 10 (C4 c (a.add 2) (uQ xb) λa=>K tQ a)) (K tQ c)))))))))))))))))))))
def F158 (K:kQ) (h:A2) (xa xb xc:Option Addr) (xd xe:Int):Prop:=
 (g158 K h (h.push (oQ #[pQ xa,pQ xb,pQ xc] 195)) xd xe)
theorem call158 {xa xb xc:Option Addr} {xd xe:Int} (H:F158 K h xa xb xc xd xe):A5 Tryz.prog 158 #[(.agg #[(pQ xa),(pQ xb),(pQ xc)]),(iQ xd),(uQ xe)] h K:=
 cQ Tryz.func158 H
abbrev g159 (K:kQ) (h H1:A2):Prop:=
 (G3 H1 (aQ h.size) λa b c=>cf 153 #[.agg #[a,b,c],iQ 1] H1 λa b=>asInt .u64 a λa=>lP b (Addr.add (aQ h.size) 2) λc=>nP c λc=>C4 b (c.add 1) (iQ 0) λb=>G3 b (aQ h.size) λc d e=>D1 b (Addr.add (aQ h.size) 2) λf=>C2 f λg=>nP g λg=>bd 0 10 (D1 b (g.add 2) λi=>asInt .u64 i λj=>cf 146 #[uQ a] b λb k=>asInt .i64 b λb=>((A3 k (g.add 2))=(some i))/\(((A3 k (Addr.add (aQ h.size) 2))=(some f))/\(ce k h.size 0 c (((A3 k (Addr.add (aQ h.size) 1))=(some d))/\(((A3 k (Addr.add (aQ h.size) 2))=(some e))/\(cf 154 #[.agg #[c,d,e],uQ j,uQ a,iQ b,dQ false] k λa b=>asBool a λa=>D0 a (lP b (Addr.add (aQ h.size) 1) λa=>cf 106 #[pQ a,lQ none 0 0] b λa a=>K tQ a) (K tQ b))))))))
def F159 (K:kQ) (h:A2) (xa xb xc:Option Addr):Prop:=
 (g159 K h (h.push (oQ #[pQ xa,pQ xb,pQ xc] 195)))
theorem call159 {xa xb xc:Option Addr} (H:F159 K h xa xb xc):A5 Tryz.prog 159 #[(.agg #[(pQ xa),(pQ xb),(pQ xc)])] h K:=
 cQ Tryz.func159 H
abbrev g160 (K:kQ) (h H1:A2):Prop:=
 (lP H1 (Addr.add (aQ h.size) 2) λa=>nP a λb=>lI .i64 H1 (b.add 1) λb=>D0 (b == 0) (G3 H1 (aQ h.size) λc d e=>nP a λf=>bd 0 10 (lI .u64 H1 (f.add 2) λf=>((A3 (H1.push (oQ #[uQ f] 178)) (aQ h.size))=(some c))/\(((A3 (H1.push (oQ #[uQ f] 178)) (Addr.add (aQ h.size) 1))=(some d))/\(((A3 (H1.push (oQ #[uQ f] 178)) (Addr.add (aQ h.size) 2))=(some e))/\(cf 144 #[.agg #[c,d,e],iQ 1,iQ 10,lQ (some (aQ H1.size)) 1 1] (H1.push (oQ #[uQ f] 178)) λc c=>K tQ c))))) (D0 (b == 1) (lP H1 (Addr.add (aQ h.size) 1) λc=>nP c λc=>bd 0 3 (lI .u64 H1 (c.add 2) λc=>lP H1 (Addr.add (aQ h.size) 1) λd=>nP d λd=>bd 1 3 (lI .u64 H1 (d.add 3) λd=>nP a λe=>bd 1 10 (nP a λf=>C4 H1 (e.add 3) (uQ c) λc=>bd 2 10 (C4 c (f.add 4) (uQ d) λc=>nP a λd=>C4 c (d.add 1) (iQ 2) λc=>G3 c (aQ h.size) λd e f=>cf 153 #[.agg #[d,e,f],iQ 1] c λc d=>asInt .u64 c λc=>cf 226 #[uQ c] d λc d=>asBool c λc=>D0 (!c) (lP d (Addr.add (aQ h.size) 1) λc=>cf 106 #[pQ c,lQ none 0 0] d λc c=>K tQ c) (K tQ d)))))) (D0 (b == 2) (nP a λc=>C4 H1 (c.add 1) (iQ 3) λc=>nP a λd=>bd 0 10 (D1 c (d.add 2) λe=>asInt .u64 e λf=>lP c (aQ h.size) λg=>cf 147 #[pQ g,iQ 2] c λc g=>asInt .u64 c λc=>((A3 g (d.add 2))=(some e))/\(cf 230 #[iQ (IntKind.wrap .i64 f),iQ (IntKind.wrap .i64 c)] g λc d=>asBool c λc=>D0 c (nP a λa=>C4 d (a.add 1) (iQ 4) λa=>K tQ a) (K tQ d)))) (D0 (b == 3) (L1 H1 h.size λa b c=>cf 159 #[.agg #[a,b,c]] H1 λa a=>K tQ a) (K tQ H1)))))
def F160 (K:kQ) (h:A2) (xa xb xc:Option Addr):Prop:=
 (g160 K h (h.push (oQ #[pQ xa,pQ xb,pQ xc] 195)))
theorem call160 {xa xb xc:Option Addr} (H:F160 K h xa xb xc):A5 Tryz.prog 160 #[(.agg #[(pQ xa),(pQ xb),(pQ xc)])] h K:=
 cQ Tryz.func160 H
abbrev g217 (K:kQ) (h H1 H2:A2):Prop:=
 (lP H2 (Addr.add (aQ h.size) 2) λa=>lI .i64 H2 (aQ H1.size) λb=>((0:Int)<=8)/\(lI .i64 H2 ⟨H1.size,1,none⟩ λc=>nP a λa=>bd 6 10 (C4 H2 (a.add 8) (uQ (IntKind.wrap .u64 ((((BitVec.ofInt 64 (IntKind.wrap .u64 ((IntKind.wrap .u64 b)*256))) ||| (BitVec.ofInt 64 (IntKind.wrap .u64 c))).toNat:Nat):Int))) λa=>K tQ a)))
def F217 (K:kQ) (h:A2) (xa xb xc:Option Addr) (xd xe:Int):Prop:=
 (g217 K h (h.push (oQ #[pQ xa,pQ xb,pQ xc] 193)) (Array.push (h.push (oQ #[pQ xa,pQ xb,pQ xc] 193)) (oQ #[iQ xd,iQ xe] 282)))
theorem call217 {xa xb xc:Option Addr} {xd xe:Int} (H:F217 K h xa xb xc xd xe):A5 Tryz.prog 217 #[(.agg #[(pQ xa),(pQ xb),(pQ xc)]),(.agg #[(iQ xd),(iQ xe)])] h K:=
 cQ Tryz.func217 H
abbrev g220 (K:kQ) (h H1 H2:A2):Prop:=
 (lP H2 (Addr.add (aQ h.size) 2) λa=>nP a λa=>bd 6 10 (lI .u64 H2 (a.add 8) λa=>((0:Int)<=8)/\(lP H2 (Addr.add (aQ h.size) 2) λb=>nP b λb=>bd 6 10 (lI .u64 H2 (b.add 8) λb=>C4 H2 (aQ H1.size) (iQ (IntKind.wrap .i64 (Int.fdiv a 256))) λa=>C4 a ⟨H1.size,1,none⟩ (iQ (IntKind.wrap .i64 (IntKind.wrap .u64 ((((BitVec.ofInt 64 b) &&& (BitVec.ofInt 64 255)).toNat:Nat):Int)))) λa=>Ou a H1.size λb c=>K (.agg #[b,c]) a))))
def F220 (K:kQ) (h:A2) (xa xb xc:Option Addr):Prop:=
 (g220 K h (h.push (oQ #[pQ xa,pQ xb,pQ xc] 193)) (Array.push (h.push (oQ #[pQ xa,pQ xb,pQ xc] 193)) (oQ #[iQ 0,iQ 0] 282)))
theorem call220 {xa xb xc:Option Addr} (H:F220 K h xa xb xc):A5 Tryz.prog 220 #[(.agg #[(pQ xa),(pQ xb),(pQ xc)])] h K:=
 cQ Tryz.func220 H
abbrev g222 (K:kQ) (h H1:A2) (xa:Int):Prop:=
 (lP H1 (Addr.add (aQ h.size) 2) λa=>nP a λa=>bd 5 10 (lI .u64 H1 (a.add 7) λa=>cf 282 #[iQ (IntKind.wrap .i64 a),iQ xa] H1 λa b=>asInt .i64 a λa=>K (uQ (IntKind.wrap .u64 a)) b))
def F222 (K:kQ) (h:A2) (xa xb xc:Option Addr) (xd:Int):Prop:=
 (g222 K h (h.push (oQ #[pQ xa,pQ xb,pQ xc] 193)) xd)
theorem call222 {xa xb xc:Option Addr} {xd:Int} (H:F222 K h xa xb xc xd):A5 Tryz.prog 222 #[(.agg #[(pQ xa),(pQ xb),(pQ xc)]),(iQ xd)] h K:=
 cQ Tryz.func222 H
abbrev g225 (K:kQ) (h H1:A2) (xa:Bool):Prop:=
 (D0 xa (G3 H1 (aQ h.size) λa b c=>cf 155 #[.agg #[a,b,c],uQ 0,uQ 0,uQ 0] H1 λa a=>K tQ a) (lP H1 (Addr.add (aQ h.size) 2) λa=>nP a λa=>bd 3 10 (C4 H1 (a.add 5) (uQ 0) λa=>lP a (Addr.add (aQ h.size) 2) λb=>nP b λb=>C4 a (b.add 1) (iQ 4) λa=>K tQ a)))
def F225 (K:kQ) (h:A2) (xa xb xc:Option Addr) (xd:Bool):Prop:=
 (g225 K h (h.push (oQ #[pQ xa,pQ xb,pQ xc] 193)) xd)
theorem call225 {xa xb xc:Option Addr} {xd:Bool} (H:F225 K h xa xb xc xd):A5 Tryz.prog 225 #[(.agg #[(pQ xa),(pQ xb),(pQ xc)]),(dQ xd)] h K:=
 cQ Tryz.func225 H
end
section
open Mod
abbrev rV (M T b o:Nat):Value:=.agg #[mP M,mP T,fP b o]
theorem E8 {p:Pl} (B:Me p) (n f:Int):iN (p.node n f):=by
 have h1:=B.no
 have h2:=B.wi
 have h3:=B.nd
 have h4:=B.li
 unfold Pl.node
 split
 ·rename_i c
  have:(n - 1)*p.width<=64*11:=Int.mul_le_mul (by omega) (by omega) (by omega) (by omega)
  have h0:0<=(n - 1)*p.width:=Int.mul_nonneg (by omega) (by omega)
  constructor <;> omega
 ·constructor <;> omega
theorem RP {p:Pl} (B:Me p) (n:Int):iN (p.at n):=by
 have h1:=B.tr
 have h2:=B.si
 have h3:=B.nd
 have h4:=B.li
 unfold Pl.at
 split <;> constructor <;> omega
theorem JF {u v:Int} (h1:U u) (h2:U v):∀w ∈ [u,v],U w:=by
 intro w hw
 simp only [List.mem_cons,List.not_mem_nil,or_false] at hw
 rcases hw with rfl | rfl
 ·exact h1
 ·exact h2
section
variable {K:kQ} {h:A2} {M T b o N:Nat} {tv:Value} {fo:Option (Nat × Nat)} {x:A9} {R:Hp}
theorem V4 (i:Nat) (hi:Nat.ble (i+1) 10=true) (H:A7 h (A1 M T tv (some (b,o)) x R)) (k:∀h',A7 h' (A1 M T tv (some (b,o)) x R)->K (uQ (x.f.g i)) h') :
  A5 Tryz.prog 153 #[rV M T b o,iQ (i:Int)] h K:=by
 refine call153 ?_
 unfold F153 g153 bd lP nP
 have H1:=A1.new H (oQ #[mP M,mP T,fP b o] 187);generalize h.push (oQ #[mP M,mP T,fP b o] 187)=h1 at *;generalize h.size=N at *
 have hi':i < 10:=by rw [Nat.ble_eq] at hi;omega
 refine sl H1 ?_
 refine ⟨by omega,by omega,?_⟩
 rw [show o+(2+i)=o+(i+2) by omega,A1.rg H1 hi]
 refine sb ?_
 exact k h1 (A1.drp H1)
theorem Fe (H:A7 h (A1 M T tv (some (b,o)) x R)) {pc fn:Int} {a:Option Addr} {l c:Nat} {rs:List Int} (A:Z9 R a l c rs) (hl:l<=10) (hd:x.t.fr.length < 1073741823)
  (k:∀h' b' o',¬ (b' = b/\o' = o)->Fx h' (some (b,o)) (x.pc pc).f->A7 h' (A1 M T tv (some (b',o')) (x.call pc fn rs) R)->K tQ h') :
  A5 Tryz.prog 144 #[rV M T b o,iQ pc,iQ fn,lQ a l c] h K:=by
 refine call144 ?_
 unfold F144 g144 cf lP nP
 have H1:=A1.new H (oQ #[mP M,mP T,fP b o] 187);generalize h.push (oQ #[mP M,mP T,fP b o] 187)=h1 at *;generalize h.size=N at *
 refine sl H1 ?_
 refine A1.stP H1 λh2 H2=>?_
 refine sl H2 ?_
 refine A0 (Ru H2 A.skip hl (by show (x.t.fr.dropLast ++ [_]).length < _;simp;omega) λh3 b' o' h1 h2 H3=>k h3 b' o' (λe=>h1 b o rfl e) h2 (A1.drp H3))
theorem ZO (H:A7 h (A1 M T tv fo x R)) {l:Nat} (rs:List Int) {ty:TypeId} (hr:rs.length=l) (hu:∀v ∈ rs,U v) (hl:Nat.ble l 3=true) (k:∀h',A7 h' (A1 M T tv none (x.pop rs) R)->K tQ h') :
 A5 Tryz.prog 106 #[mP T,lQ (some (aQ h.size)) l l] (h.push (oQ (U8 rs).toArray ty)) K:=Nr H rs hr hu (Nat.le_of_ble_eq_true hl) k
theorem Cr (H:A7 h (A1 M T tv (some (b,o)) x R)) {pc fn:Int} {l:Nat} (rs:List Int) {ty:TypeId} (hr:rs.length=l) (hu:∀v ∈ rs,U v) (hl:Nat.ble l 10=true) (hd:x.t.fr.length < 1073741823)
  (k:∀h' b' o',¬ (b' = b/\o' = o)->Fx h' (some (b,o)) (x.pc pc).f->A7 h' (A1 M T tv (some (b',o')) (x.call pc fn rs) R)->K tQ h') :
  A5 Tryz.prog 144 #[rV M T b o,iQ pc,iQ fn,lQ (some (aQ h.size)) l l] (h.push (oQ (U8 rs).toArray ty)) K:=
 Fe (A1.new H (oQ (U8 rs).toArray ty)) (Z9.mk' hr hu) (Nat.le_of_ble_eq_true hl) hd λh' b' o' h1 h2 H'=>k h' b' o' h1 h2 (A1.drp H')
theorem Dx (H:A7 h (A1 M T tv fo x R)) {pl:Int} (k:∀h',A7 h' (A1 M T tv fo x R)->K (iQ (x.at pl)) h') :
  A5 Tryz.prog 145 #[rV M T b o,uQ pl] h K:=by
 refine call145 ?_
 unfold F145 g145 cf lP N0
 have H1:=A1.new H (oQ #[mP M,mP T,fP b o] 187);generalize h.push (oQ #[mP M,mP T,fP b o] 187)=h1 at *;generalize h.size=N at *
 refine sl H1 ?_
 refine A0 (Ef H1 λh2 H2=>AZ ?_)
 refine A0 (Re (A1.pl H) (S5 _) λh3 o3=>?_)
 refine sb ?_
 exact k h3 (A1.drp (A1.old H2 o3))
theorem Ff (H:A7 h (A1 M T tv fo x R)) {w f:Int} (hw:U w) (hf:iN f) (k:∀h',A7 h' (A1 M T tv fo x R)->K (iQ (x.nodeW w f)) h') :
  A5 Tryz.prog 148 #[rV M T b o,uQ w,iQ f] h K:=by
 refine call148 ?_
 unfold F148 g148 cf lP N0
 have H1:=A1.new H (oQ #[mP M,mP T,fP b o] 187);generalize h.push (oQ #[mP M,mP T,fP b o] 187)=h1 at *;generalize h.size=N at *
 refine sl H1 ?_
 refine A0 (Ef H1 λh2 H2=>AZ ?_)
 refine A0 (M7 hw ?_)
 refine sb ?_
 refine A0 (N5 (A1.pl H) (Kr _) hf λh3 o3=>?_)
 refine sb ?_
 exact k h3 (A1.drp (A1.old H2 o3))
theorem Gf (H:A7 h (A1 M T tv fo x R)) {pl w ptr:Int} {d:Bool} (hw:U w) (hs:x.m.mm.st < 1099511627776) (k:∀h',A7 h' (A1 M T tv fo (x.swing pl w ptr d).2 R)->K (dQ (x.swing pl w ptr d).1) h') :
  A5 Tryz.prog 154 #[rV M T b o,uQ pl,uQ w,iQ ptr,dQ d] h K:=by
 refine call154 ?_
 unfold F154 g154 cf ce L1
 have H1:=A1.new H (oQ #[mP M,mP T,fP b o] 187);generalize h.push (oQ #[mP M,mP T,fP b o] 187)=h1 at *;generalize h.size=N at *
 refine sl H1 ?_
 refine A0 (Dx H1 λh2 H2=>?_)
 refine sl H2 ?_
 refine A0 (T7 hw ?_)
 refine sl H2 ?_
 refine A0 (Rt H2 (RP (A1.pl H) _) AL hs λh3 H3=>?_)
 refine sb ?_
 exact k h3 (A1.drp H3)
theorem Dj (H:A7 h (A1 M T tv (some (b,o)) x R)) {k7 k8 k9:Int} (h7:U k7) (h8:U k8) (h9:U k9) (hd:x.t.fr.length < 1073741823)
  (k:∀h' b' o',¬ (b' = b/\o' = o)->Fx h' (some (b,o)) ((((x.s 7 k7).s 8 k8).s 9 k9).pc 90).f->A7 h' (A1 M T tv (some (b',o')) (x.fin k7 k8 k9) R)->K tQ h') :
  A5 Tryz.prog 155 #[rV M T b o,uQ k7,uQ k8,uQ k9] h K:=by
 refine call155 ?_
 unfold F155 g155 cf ce bd lP nP L1
 have H1:=A1.new H (oQ #[mP M,mP T,fP b o] 187);generalize h.push (oQ #[mP M,mP T,fP b o] 187)=h1 at *;generalize h.size=N at *
 refine sl H1 ?_
 refine A1.stR (i:=7) H1 rfl h7 λh2 H2=>?_
 refine sl H2 ?_
 refine A1.stR (i:=8) H2 rfl h8 λh3 H3=>?_
 refine sl H3 ?_
 refine A1.stR (i:=9) H3 rfl h9 λh4 H4=>?_
 refine sl H4 ?_
 refine A0 (Fe H4 Z9.none (by omega) ?_ λh5 b' o' h1 h2 H5=>k h5 b' o' h1 h2 (A1.drp H5))
 have e:=List.length_pos_iff.2 (Ik (A1.thr H))
 show ((((x.t.fr.dropLast ++ [_]).dropLast ++ [_]).dropLast) ++ [_]).length < _
 simp
 omega
theorem SW4 (H:A7 h (A1 M T tv (some (b,o)) x R)):0 < x.t.fr.length:=List.length_pos_iff.2 (Ik (A1.thr H))
theorem VH (H:A7 h (A1 M T tv (some (b,o)) x R)) (hs:x.m.mm.st < 1099511627776) (hd:x.t.fr.length < 1073741823) (k:∀h',A7 h' (A1 M T tv none (DT x) R)->K tQ h') :
  A5 Tryz.prog 107 #[rV M T b o] h K:=by
 refine call107 ?_
 unfold F107 g107 cf ce bd lP lI nP L1
 have B:=A1.fB H
 have P:=A1.pl H
 unfold DT at k
 have H1:=A1.new H (oQ #[mP M,mP T,fP b o] 187);generalize h.push (oQ #[mP M,mP T,fP b o] 187)=h1 at *;generalize h.size=N at *
 try simp +decide only [B4,F2,Nat.reduceAdd,Int.reduceLE,Int.reduceLT,Int.reduceToNat,J0,G5,B0,A1.l H1,A1.r H1,A1.tc H1]
 refine A4 (λc=>?_) (λc=>?_)
 ·rw [if_pos c] at k
  refine A0 (Dx H1 λh2 H2=>?_)
  try simp +decide only [B4,F2,Nat.reduceAdd,Int.reduceLE,Int.reduceLT,Int.reduceToNat,J0,G5,B0,A1.l H2,A1.c H2]
  refine A0 (Cr H2 [1,u64 (x.at (x.f.g 0))] rfl (JF (U.lit rfl) (R7 _)) rfl hd λh4 b' o' _ _ H4=>k h4 (A1.drp (A1.none H4)))
 ·rw [if_neg c] at k
  have hr:=(A1.B H).ret.2
  have hr0:U (x.ret 0):=Ld hr 0
  refine A0 (M7 hr0 ?_)
  try simp +decide only [B4,F2,Nat.reduceAdd,Int.reduceLE,Int.reduceLT,Int.reduceToNat,J0,G5,B0,A1.l H1]
  refine A4 (λc2=>?_) (λc2=>?_)
  ·rw [if_pos c2] at k
   exact A0 (ZO H1 [x.ret 0,1099511627776] rfl (JF hr0 (U.lit rfl)) rfl λh2 H2=>k h2 (A1.drp H2))
  ·rw [if_neg c2] at k
   refine A0 (Ff H1 hr0 (by decide) λh2 H2=>?_)
   refine sl H2 ?_
   refine A0 (M0 H2 (E8 P _ _) hs λh3 H3 u3=>?_)
   refine sl H3 ?_
   exact A0 (ZO H3 [x.ret 0,(x.load (x.nodeW (x.ret 0) 0)).1] rfl (JF hr0 u3) rfl λh4 H4=>k h4 (A1.drp H4))
end
end
section
open Mod
theorem SR5 {n:Int} (h:U n):Mod.u64 ((((BitVec.ofInt 64 n) &&& (BitVec.ofInt 64 255)).toNat:Nat):Int)=n % 256:=by
 have h0:=h.1
 have h1:=h.2
 rw [BitVec.toNat_and,h.bv,show (BitVec.ofInt 64 255).toNat=2 ^ 8 - 1 from rfl,Nat.and_two_pow_sub_one_eq_mod]
 unfold Mod.u64
 omega
theorem SM4 (a b:Int):U (((Nat.lor (Mod.u64 a).toNat (Mod.u64 b).toNat:Nat)):Int):=by
 have ha:=R7 a
 have hb:=R7 b
 have:=Nat.or_lt_two_pow (x:=(Mod.u64 a).toNat) (y:=(Mod.u64 b).toNat) (n:=64) (by have:=ha.1;have:=ha.2;omega) (by have:=hb.1;have:=hb.2;omega)
 constructor
 ·omega
 ·have e:(Mod.u64 a).toNat ||| (Mod.u64 b).toNat=Nat.lor (Mod.u64 a).toNat (Mod.u64 b).toNat:=rfl
  rw [e] at this
  omega
theorem SR6 (a b:Int):Mod.u64 ((((BitVec.ofInt 64 (Mod.u64 a)) ||| (BitVec.ofInt 64 (Mod.u64 b))).toNat:Nat):Int)=((Nat.lor (Mod.u64 a).toNat (Mod.u64 b).toNat:Nat):Int):=by
 rw [BitVec.toNat_or,(R7 a).bv,(R7 b).bv]
 exact (SM4 a b).u64
section
variable {K:kQ} {h:A2} {M T b o N:Nat} {tv:Value} {fo:Option (Nat × Nat)} {x:A9} {R:Hp}
theorem JG (H:A7 h (A1 M T tv (some (b,o)) x R)) (k:∀h',A7 h' (A1 M T tv (some (b,o)) x R)->K (spV (GV x)) h') :
  A5 Tryz.prog 220 #[rV M T b o] h K:=by
 refine call220 ?_
 unfold F220 g220 bd lP lI nP Ou
 have B:=A1.fB H
 have H1:=A1.new H (oQ #[mP M,mP T,fP b o] 193);generalize h.push (oQ #[mP M,mP T,fP b o] 193)=h1 at *;generalize h.size=N at *
 have H2:=A1.new H1 (oQ #[iQ 0,iQ 0] 282)
 generalize h1.push (oQ #[iQ 0,iQ 0] 282)=h2 at *
 generalize h1.size=N2 at *
 try simp +decide only [B4,F2,Nat.reduceAdd,Int.reduceLE,Int.reduceLT,Int.reduceToNat,J0,G5,B0,A1.l2 H2,A1.r H2,SR5 (B.g 6)]
 have hg:=B.g 6
 have g0:=hg.1
 have g1:=hg.2
 rw [Bc (by omega),show F5 (x.f.g 6 / 256)=x.f.g 6 / 256 by unfold F5;omega,show F5 (x.f.g 6 % 256)=x.f.g 6 % 256 by unfold F5;omega]
 refine stR (A1.loc H2) rfl trivial λh3 w3=>stR w3.new rfl trivial λh4 w4=>C5 w4.new rfl (C5 w4.new rfl ?_)
 exact k h4 (A1.drp (A1.drp (A1.wr (A1.wr H2 w3.new w3.old) w4.new w4.old)))
theorem JH (H:A7 h (A1 M T tv (some (b,o)) x R)) {s:Sp} (k:∀h',A7 h' (A1 M T tv (some (b,o)) (EJ x s) R)->K tQ h') :
  A5 Tryz.prog 217 #[rV M T b o,spV s] h K:=by
 refine call217 ?_
 unfold F217 g217 bd lP lI nP
 have H1:=A1.new H (oQ #[mP M,mP T,fP b o] 193);generalize h.push (oQ #[mP M,mP T,fP b o] 193)=h1 at *;generalize h.size=N at *
 have H2:=A1.new H1 (oQ #[iQ s.lo,iQ s.hi] 282)
 generalize h1.push (oQ #[iQ s.lo,iQ s.hi] 282)=h2 at *
 generalize h1.size=N2 at *
 have O:=A1.loc H2
 have l0:∀F:Value->Prop,D1 h2 (aQ N2) F=F (iQ s.lo):=λF=>by unfold D1;rw [E0 O];rfl
 have l1:∀F:Value->Prop,D1 h2 ⟨N2,1,none⟩ F=F (iQ s.hi):=λF=>by unfold D1;rw [E0 O];rfl
 try simp +decide only [B4,F2,Nat.reduceAdd,Int.reduceLE,Int.reduceLT,Int.reduceToNat,J0,G5,B0,A1.l2 H2,l0,l1,SR6]
 exact A1.stR (i:=6) H2 rfl (SM4 _ _) λh3 H3=>k h3 (A1.drp (A1.drp H3))
theorem JI (H:A7 h (A1 M T tv (some (b,o)) x R)) {l:Int} (hl:iN l) (k:∀h',A7 h' (A1 M T tv (some (b,o)) x R)->K (uQ (Jw x l)) h') :
  A5 Tryz.prog 222 #[rV M T b o,iQ l] h K:=by
 refine call222 ?_
 unfold F222 g222 cf bd lP lI nP
 have H1:=A1.new H (oQ #[mP M,mP T,fP b o] 193);generalize h.push (oQ #[mP M,mP T,fP b o] 193)=h1 at *;generalize h.size=N at *
 try simp +decide only [B4,F2,Nat.reduceAdd,Int.reduceLE,Int.reduceLT,Int.reduceToNat,J0,G5,B0,A1.l H1,A1.r H1]
 refine A0 (Sr6 hl ?_)
 refine sb ?_
 exact k h1 (A1.drp H1)
theorem Gg (H:A7 h (A1 M T tv (some (b,o)) x R)) {ok:Bool} (hd:x.t.fr.length < 1000000002) (k:∀h',A7 h' (A1 M T tv none (GW x ok) R)->K tQ h') :
  A5 Tryz.prog 225 #[rV M T b o,dQ ok] h K:=by
 refine call225 ?_
 unfold F225 g225 cf bd lP nP G3
 have H1:=A1.new H (oQ #[mP M,mP T,fP b o] 193);generalize h.push (oQ #[mP M,mP T,fP b o] 193)=h1 at *;generalize h.size=N at *
 unfold GW at k
 cases ok with
 | true=>
  refine sl H1 ?_
  exact A0 (Dj H1 U0 U0 U0 (by omega) λh2 b' o' _ _ H2=>k h2 (A1.drp (A1.none H2)))
 | false=>
  refine sl H1 ?_
  refine A1.stR (i:=3) H1 rfl U0 λh2 H2=>?_
  refine sl H2 ?_
  exact A1.stP H2 λh3 H3=>k h3 (A1.drp (A1.none H3))
theorem A1.ret (H:A7 h (A1 M T tv fo x R)) (i:Nat):U (x.ret i):=Ld (A1.B H).ret.2 i
theorem RQ (H:A7 h (A1 M T tv (some (b,o)) x R)) (O:Ok x) (hp:x.f.pc<=3) (k:∀h',A7 h' (A1 M T tv none (DU x) R)->K tQ h') :
  A5 Tryz.prog 149 #[rV M T b o] h K:=by
 refine call149 ?_
 unfold F149 g149 cf ce bd lP lI nP G3 N0
 have B:=A1.fB H
 have P:=A1.pl H
 have hp0:=O.pc
 have hd:=O.fr
 have r0:=A1.ret H 0
 unfold DU at k
 dsimp only at k
 have H1:=A1.new H (oQ #[mP M,mP T,fP b o] 193);generalize h.push (oQ #[mP M,mP T,fP b o] 193)=h1 at *;generalize h.size=N at *
 try simp +decide only [B4,F2,Nat.reduceAdd,Int.reduceLE,Int.reduceLT,Int.reduceToNat,J0,G5,B0,A1.l H1,A1.r H1,A1.tc H1]
 refine A4 (λc=>?_) (λc=>?_)
 ·rw [if_pos c] at k
  exact A0 (Fe H1 Z9.none (by omega) (by omega) λh2 b' o' _ _ H2=>k h2 (A1.drp (A1.none H2)))
 rw [if_neg c] at k
 refine A4 (λc=>?_) (λc=>?_)
 ·rw [if_pos c] at k
  refine A1.stR (i:=2) H1 rfl r0 λh2 H2=>?_
  try simp +decide only [B4,F2,Nat.reduceAdd,Int.reduceLE,Int.reduceLT,Int.reduceToNat,J0,G5,B0,A1.l H2,A1.r H2,B.len]
  refine C7 (λc2=>?_) (λc2=>?_)
  ·have c2':x.ret 0≠0:=by simpa [A9.ret] using c2
   rw [if_pos c2'] at k
   exact A1.stP H2 λh3 H3=>k h3 (A1.drp (A1.none H3))
  ·have c2':¬ x.ret 0≠0:=by simpa [A9.ret] using c2
   rw [if_neg c2'] at k
   have hfl:=An x 2 (x.ret 0)
   refine ⟨λvs h'=>(∃w,vs = [dQ (decide (x.f.g 3=0/\x.t.retired.length > 0)),w])/\A7 h' (A1 M T tv (some (b,o)) (x.s 2 (x.ret 0)) (pt N (oQ #[mP M,mP T,fP b o] 193)*R)),?_,?_⟩
   ·refine A4 (λc3=>?_) (λc3=>?_)
    ·refine A0 (De (A1.thr H2) ?_)
     refine sb ?_
     have e:decide (((x.s 2 (x.ret 0)).t.retired.length:Int) > 0)=decide (x.f.g 3=0/\x.t.retired.length > 0):=by
      rw [decide_eq_decide]
      have e2:(x.s 2 (x.ret 0)).t.retired=x.t.retired:=rfl
      rw [e2]
      omega
     rw [e]
     exact ⟨⟨_,rfl⟩,H2⟩
    ·exact ⟨⟨_,by rw [decide_eq_false (λhh=>c3 hh.1)]⟩,H2⟩
   rintro v32 v33 g34 h35 ⟨⟨w,e⟩,H3⟩
   cases e
   refine sb ?_
   refine A4 (λc3=>?_) (λc3=>?_)
   ·rw [if_pos c3] at k
    refine A1.stR (i:=3) H3 rfl (U.lit rfl) λh4 H4=>?_
    have hfl2:=An (x.s 2 (x.ret 0)) 3 1
    refine sl H4 ?_
    exact A0 (Fe H4 Z9.none (by omega) (by omega) λh5 b' o' _ _ H5=>k h5 (A1.drp (A1.none H5)))
   ·rw [if_neg c3] at k
    refine sl H3 ?_
    exact A0 (Dj H3 (U.lit rfl) U0 U0 (by omega) λh5 b' o' _ _ H5=>k h5 (A1.drp (A1.none H5)))
 rw [if_neg c] at k
 refine A4 (λc=>?_) (λc=>?_)
 ·rw [if_pos c] at k
  refine A0 (Ef H1 λh2 H2=>AZ ?_)
  try simp only [B4,F2,Nat.reduceAdd,Int.reduceLE,Int.reduceLT,Int.reduceToNat,A1.c H2,A1.l H2]
  refine A0 (N5 P (S5 _) (by decide) λh3 o3=>?_)
  have H3:=A1.old H2 o3
  try simp only [B4,F2,Nat.reduceAdd,Int.reduceLE,Int.reduceLT,Int.reduceToNat,A1.c H3,A1.l H3]
  refine A0 (T8 H3 (E8 P _ _) (B.g 0) O.st λh4 H4=>?_)
  exact A1.stP H4 λh5 H5=>k h5 (A1.drp (A1.none H5))
 rw [if_neg c] at k
 refine A4 (λc=>?_) (λc=>by omega)
 ·refine A0 (Ef H1 λh2 H2=>AZ ?_)
  try simp only [B4,F2,Nat.reduceAdd,Int.reduceLE,Int.reduceLT,Int.reduceToNat,A1.c H2,A1.l H2]
  refine A0 (N5 P (S5 _) (by decide) λh3 o3=>?_)
  have H3:=A1.old H2 o3
  try simp only [B4,F2,Nat.reduceAdd,Int.reduceLE,Int.reduceLT,Int.reduceToNat,A1.c H3,A1.l H3]
  refine A0 (T8 H3 (E8 P _ _) (B.g 1) O.st λh4 H4=>?_)
  exact A1.stR (i:=3) H4 rfl U0 λh5 H5=>A1.stP H5 λh6 H6=>k h6 (A1.drp (A1.none H6))
theorem A1.feed (H:A7 h (A1 M T tv fo x R)) (k:∀q R',A7 h (Mw q x.m.b x.m.used*R')->(∀h' u,A7 h' (Mw q x.m.b u*R')->A7 h' (A1 M T tv fo { x with m:=Mac.feed x.m u } R))->K (mP q) h) :
 A5 Tryz.prog 214 #[mP M] h K:=Rq H λq R' H1 re=>k q R' H1 λh' u H2=>re h' u H2
theorem RR (H:A7 h (A1 M T tv (some (b,o)) x R)) (O:Ok x) (hp:4<=x.f.pc/\x.f.pc<=7) (k:∀h',A7 h' (A1 M T tv none (X0 x) R)->K tQ h') :
  A5 Tryz.prog 150 #[rV M T b o] h K:=by
 refine call150 ?_
 unfold F150 g150 cf ce bd lP lI nP G3 de2 Nh N0 L1
 have B:=A1.fB H
 have P:=A1.pl H
 have hd:=O.fr
 have r1:=A1.ret H 1
 unfold X0 at k
 dsimp only at k
 have H1:=A1.new H (oQ #[mP M,mP T,fP b o] 193);generalize h.push (oQ #[mP M,mP T,fP b o] 193)=h1 at *;generalize h.size=N at *
 refine sl H1 ?_
 refine A0 (Ef H1 λh2 H2=>AZ ?_)
 refine A0 (U9 λh3 o3=>cf7 ?_)
 have H3:=A1.old H2 o3
 have H4:=A1.new H3 (oQ NW 23)
 generalize h3.push (oQ NW 23)=h4 at *
 generalize h3.size=N2 at *
 refine st7 (F6 (vs:=OF x.m.p.c) (A1.loc H4) rfl (by simp [OF,J3]) λh5 w=>?_)
 have H5:=A1.wr H4 w.new w.old
 clear H1 H2 H3 H4 o3 w
 try simp +decide only [B4,F2,Nat.reduceAdd,Int.reduceLE,Int.reduceLT,Int.reduceToNat,J0,G5,B0,A1.l2 H5,A1.r H5,A1.tc H5]
 refine A4 (λc=>?_) (λc=>?_)
 ·rw [if_pos c] at k
  refine A0 (M0 H5 (by decide) O.st λh6 H6 u6=>?_)
  refine sb ?_
  refine A1.stR (i:=4) H6 rfl u6 λh7 H7=>?_
  try simp +decide only [B4,F2,Nat.reduceAdd,Int.reduceLE,Int.reduceLT,Int.reduceToNat,J0,G5,B0,A1.l2 H7,A1.r H7,B.len]
  refine A0 (A1.feed H7 λq R' HF re=>?_)
  refine sb ?_
  refine A0 (Fd (S5 _) ?_)
  refine sb ?_
  have hus:((x.load 2).2.s 4 (x.load 2).1).m.used < 1099511627776:=by
   have e:((x.load 2).2.s 4 (x.load 2).1).m.used=x.m.used:=by
    show (x.m.load 2).2.used=x.m.used
    unfold Mac.load
    dsimp only
    have:=(Bd x.m 2).2.2.2.1
    split <;> exact this
   rw [e];exact O.us
  have hb:=(Lh HF)
  obtain ⟨fa,fc,FF,_⟩:=hb
  refine A0 (Rk HF hus (λhn=>?_) (λhn h8 H8=>?_))
  ·refine sb ?_
   refine A0 (Lt (S5 _) ?_)
   refine sb ?_
   refine A1.stR (i:=5) H7 rfl (R7 _) λh9 H9=>A1.stP H9 λh10 H10=>k h10 ?_
   have e:(((x.load 2).2.s 4 (x.load 2).1).m.next (R6 (F5 (x.load 2).1)))=(0,((x.load 2).2.s 4 (x.load 2).1).m):=by unfold Mac.next;rw [if_pos hn]
   rw [e]
   exact A1.drp (A1.drp (A1.none H10))
  ·refine sb ?_
   refine A0 (Lt (S5 _) ?_)
   refine sb ?_
   refine A1.stR (i:=5) (re h8 _ H8) rfl (R7 _) λh9 H9=>A1.stP H9 λh10 H10=>k h10 ?_
   have e:(((x.load 2).2.s 4 (x.load 2).1).m.next (R6 (F5 (x.load 2).1)))=(drawn ((x.load 2).2.s 4 (x.load 2).1).m.b ((x.load 2).2.s 4 (x.load 2).1).m.used % R6 (F5 (x.load 2).1),Mac.feed ((x.load 2).2.s 4 (x.load 2).1).m (((x.load 2).2.s 4 (x.load 2).1).m.used+1)):=by
    unfold Mac.next Mac.take;rw [if_neg (by omega)];rfl
   rw [e]
   exact A1.drp (A1.drp (A1.none H10))
 rw [if_neg c] at k
 refine A4 (λc=>?_) (λc=>?_)
 ·rw [if_pos c] at k
  exact A0 (Cr H5 [x.f.g 5] rfl (W5 (B.g 5)) rfl (by omega) λh6 b' o' _ _ H6=>k h6 (A1.drp (A1.drp (A1.none H6))))
 rw [if_neg c] at k
 refine A4 (λc=>?_) (λc=>?_)
 ·rw [if_pos c] at k
  refine A4 (λc2=>?_) (λc2=>?_)
  ·rw [if_pos c2] at k
   refine A0 (ZM (S5 _) λh6 o6=>?_)
   have H6:=A1.old H5 o6
   try simp only [B4,F2,Nat.reduceAdd,Int.reduceLE,Int.reduceLT,Int.reduceToNat,A1.l2 H6,A1.c H6]
   refine Ax rfl (E6 rfl (E6 rfl ?_))
   try simp only [B4,F2,Nat.reduceAdd,Int.reduceLE,Int.reduceLT,Int.reduceToNat,A1.l2 H6,A1.c H6]
   refine A0 (JH H6 (s:=Sp4 (F5 (x.f.g 4))) λh7 H7=>?_)
   exact A1.stP H7 λh8 H8=>k h8 (A1.drp (A1.drp (A1.none H8)))
  ·rw [if_neg c2] at k
   refine A1.stR (i:=3) H5 rfl (R7 _) λh6 H6=>A1.stP H6 λh7 H7=>?_
   have O7:=A1.loc H7
   have l5:∀F:Value->Prop,D1 h7 ⟨N2,5,none⟩ F=F (iQ x.m.p.c.probes):=λF=>by unfold D1;rw [E0 O7];rfl
   try simp +decide only [B4,F2,Nat.reduceAdd,Int.reduceLE,Int.reduceLT,Int.reduceToNat,J0,G5,B0,A1.l2 H7,A1.r H7,B.len,l5]
   refine A4 (λc3=>?_) (λc3=>?_)
   ·rw [if_pos c3] at k
    exact A1.stP H7 λh8 H8=>k h8 (A1.drp (A1.drp (A1.none H8)))
   ·rw [if_neg c3] at k
    exact k h7 (A1.drp (A1.drp (A1.none H7)))
 rw [if_neg c] at k
 refine A4 (λc=>?_) (λc=>by omega)
 have O5:=A1.loc H5
 have l3:∀F:Value->Prop,D1 h5 ⟨N2,3,none⟩ F=F (iQ x.m.p.c.level):=λF=>by unfold D1;rw [E0 O5];rfl
 try simp +decide only [B4,F2,Nat.reduceAdd,Int.reduceLE,Int.reduceLT,Int.reduceToNat,J0,G5,B0,A1.l2 H5,A1.r H5,l3]
 refine A4 (λc2=>?_) (λc2=>?_)
 ·rw [if_pos c2] at k
  refine A0 (Dj H5 (U.lit rfl) U0 U0 (by omega) λh6 b' o' _ st H6=>?_)
  have e2:A3 h6 ⟨b,o+4,none⟩=some (uQ (x.f.g 2)):=by
   have e:(((((x.s 7 1).s 8 0).s 9 0).pc 90).f).g 2=x.f.g 2:=by try simp +decide only [B4,F2,Nat.reduceAdd,Int.reduceLE,Int.reduceLT,Int.reduceToNat,J0,G5,B0,B.len]
   rw [<- e]
   exact st b o 4 _ rfl rfl
  have ld2:∀F:Value->Prop,D1 h6 ⟨b,o+4,none⟩ F=F (uQ (x.f.g 2)):=λF=>by unfold D1;rw [e2]
  try simp only [B4,F2,Nat.reduceAdd,Int.reduceLE,Int.reduceLT,Int.reduceToNat,A1.l2 H6,ld2]
  refine A0 (Vv H6 [x.f.g 2] rfl (W5 (B.g 2)) (by omega) ?_ λh7 b'' o'' _ _ H7=>k h7 (A1.drp (A1.drp (A1.none H7))))
  have l1:=An x 7 1
  have l2:=An (x.s 7 1) 8 0
  have l3:=An ((x.s 7 1).s 8 0) 9 0
  have l4:=Ex (((x.s 7 1).s 8 0).s 9 0) 90
  show ((((((x.s 7 1).s 8 0).s 9 0).pc 90).t.fr) ++ [_]).length < _
  rw [List.length_append]
  simp only [List.length_singleton]
  omega
 ·rw [if_neg c2] at k
  refine A0 (Rt H5 (by decide) (R7 _) O.st λh6 H6=>?_)
  refine sb ?_
  exact A1.stR (i:=3) H6 rfl U0 λh7 H7=>A1.stP H7 λh8 H8=>k h8 (A1.drp (A1.drp (A1.none H8)))
theorem RS (H:A7 h (A1 M T tv (some (b,o)) x R)) (O:Ok x) (hp:8<=x.f.pc/\x.f.pc<=9) (k:∀h',A7 h' (A1 M T tv none (DV x) R)->K tQ h') :
  A5 Tryz.prog 151 #[rV M T b o] h K:=by
 refine call151 ?_
 unfold F151 g151 cf ce bd lP lI nP G3 de2 Ou L1
 have B:=A1.fB H
 have P:=A1.pl H
 have hd:=O.fr
 unfold DV at k
 dsimp only at k
 have H1:=A1.new H (oQ #[mP M,mP T,fP b o] 193);generalize h.push (oQ #[mP M,mP T,fP b o] 193)=h1 at *;generalize h.size=N at *
 refine sl H1 ?_
 refine A0 (JG H1 λh2 H2=>?_)
 refine sb ?_
 refine Ax rfl (E6 rfl (E6 rfl ?_))
 have H3:=A1.new H2 (oQ #[iQ 0,iQ 0] 282)
 generalize h2.push (oQ #[iQ 0,iQ 0] 282)=h3 at *
 generalize h2.size=N2 at *
 refine stR (A1.loc H3) rfl trivial λh4 w4=>stR w4.new rfl trivial λh5 w5=>?_
 have H5:=A1.wr (A1.wr H3 w4.new w4.old) w5.new w5.old
 clear H1 H2 H3 w4 w5
 generalize hs:GV x=s at *
 have O5:=A1.loc H5
 have l0:∀F:Value->Prop,D1 h5 (aQ N2) F=F (iQ s.lo):=λF=>by unfold D1;rw [E0 O5];rfl
 have l1:∀F:Value->Prop,D1 h5 ⟨N2,1,none⟩ F=F (iQ s.hi):=λF=>by unfold D1;rw [E0 O5];rfl
 try simp +decide only [B4,F2,Nat.reduceAdd,Int.reduceLE,Int.reduceLT,Int.reduceToNat,J0,G5,B0,A1.l2 H5,A1.r H5,A1.tc H5,l0,l1]
 refine A4 (λc=>?_) (λc=>?_)
 ·rw [if_pos c] at k
  refine A0 (Lu λh6 o6=>?_)
  have H6:=A1.old H5 o6
  have O6:=A1.loc H6
  have m0:∀F:Value->Prop,D1 h6 (aQ N2) F=F (iQ s.lo):=λF=>by unfold D1;rw [E0 O6];rfl
  have m1:∀F:Value->Prop,D1 h6 ⟨N2,1,none⟩ F=F (iQ s.hi):=λF=>by unfold D1;rw [E0 O6];rfl
  try simp +decide only [B4,F2,Nat.reduceAdd,Int.reduceLE,Int.reduceLT,Int.reduceToNat,J0,G5,B0,A1.l2 H6,A1.r H6,m0,m1]
  refine C7 (λc2=>?_) (λc2=>?_)
  ·rw [if_pos c2] at k
   exact A1.stP H6 λh7 H7=>k h7 (A1.drp (A1.drp (A1.none H7)))
  ·rw [if_neg (by rw [c2];simp)] at k
   refine A0 (Je λh7 o7=>?_)
   have H7:=A1.old H6 o7
   have hm:=Yk s
   try simp only [B4,F2,Nat.reduceAdd,Int.reduceLE,Int.reduceLT,Int.reduceToNat,A1.l2 H7]
   refine A0 (JI H7 ⟨by omega,by omega⟩ λh8 H8=>?_)
   try simp only [B4,F2,Nat.reduceAdd,Int.reduceLE,Int.reduceLT,Int.reduceToNat,A1.l2 H8]
   exact A0 (Cr H8 [Jw x s.mid] rfl (W5 (R7 _)) rfl (by omega) λh9 b' o' _ _ H9=>k h9 (A1.drp (A1.drp (A1.none H9))))
 rw [if_neg c] at k
 refine A4 (λc=>?_) (λc=>by omega)
 refine A0 (ZN λh6 o6=>?_)
 have H6:=A1.old H5 o6
 try simp only [B4,F2,Nat.reduceAdd,Int.reduceLE,Int.reduceLT,Int.reduceToNat,A1.l2 H6]
 refine Ax rfl (E6 rfl (E6 rfl ?_))
 try simp only [B4,F2,Nat.reduceAdd,Int.reduceLE,Int.reduceLT,Int.reduceToNat,A1.l2 H6]
 refine A0 (JH H6 λh7 H7=>?_)
 try simp only [B4,F2,Nat.reduceAdd,Int.reduceLE,Int.reduceLT,Int.reduceToNat,A1.l2 H7]
 exact A1.stP H7 λh8 H8=>k h8 (A1.drp (A1.drp (A1.none H8)))
theorem VI (H:A7 h (A1 M T tv (some (b,o)) x R)) (O:Ok x) (k:∀h',A7 h' (A1 M T tv none (Ii x) R)->K tQ h') :
  A5 Tryz.prog 152 #[rV M T b o] h K:=by
 refine call152 ?_
 unfold F152 g152 cf bd lP lI nP G3 dc3 de2 N0 L1 ce
 have B:=A1.fB H
 have P:=A1.pl H
 have hd:=O.fr
 have r0:=A1.ret H 0
 have r1:=A1.ret H 1
 unfold Ii at k
 dsimp only at k
 have H1:=A1.new H (oQ #[mP M,mP T,fP b o] 193);generalize h.push (oQ #[mP M,mP T,fP b o] 193)=h1 at *;generalize h.size=N at *
 refine sl H1 ?_
 refine A0 (JG H1 λh2 H2=>?_)
 refine sb ?_
 refine Ax rfl (E6 rfl (E6 rfl ?_))
 refine sl H2 ?_
 have hsl:iN (GV x).lo:=by
  have hg:=B.g 6
  have g0:=hg.1
  have g1:=hg.2
  unfold GV
  constructor <;> simp only <;> omega
 refine A0 (JI H2 hsl λh3 H3=>?_)
 refine sl H3 ?_
 refine A0 (V4 3 rfl H3 λh4 H4=>?_)
 clear H1 H2 H3
 have hpl:U (Jw x (GV x).lo):=R7 _
 generalize Jw x (GV x).lo=place at *
 try simp +decide only [B4,F2,Nat.reduceAdd,Int.reduceLE,Int.reduceLT,Int.reduceToNat,J0,G5,B0,A1.l H4,A1.r H4,A1.tc H4]
 refine A4 (λc=>?_) (λc=>?_)
 ·rw [if_pos c] at k
  exact A0 (Cr H4 [place] rfl (W5 hpl) rfl (by omega) λh5 b' o' _ _ H5=>k h5 (A1.drp (A1.none H5)))
 rw [if_neg c] at k
 refine A4 (λc=>?_) (λc=>?_)
 ·rw [if_pos c] at k
  refine A4 (λc2=>?_) (λc2=>?_)
  ·rw [if_pos c2] at k
   exact A1.stR (i:=3) H4 rfl U0 λh5 H5=>A1.stP H5 λh6 H6=>k h6 (A1.drp (A1.none H6))
  ·rw [if_neg c2] at k
   refine A1.stR (i:=3) H4 rfl r0 λh5 H5=>?_
   try simp +decide only [B4,F2,Nat.reduceAdd,Int.reduceLE,Int.reduceLT,Int.reduceToNat,J0,G5,B0,A1.l H5,A1.r H5,B.len]
   refine A0 (Ef H5 λh6 H6=>AZ ?_)
   try simp +decide only [B4,F2,Nat.reduceAdd,Int.reduceLE,Int.reduceLT,Int.reduceToNat,J0,G5,B0,A1.l H6,A1.c H6,B.len]
   refine A0 (N5 P (S5 _) (by decide) λh7 o7=>?_)
   have H7:=A1.old H6 o7
   refine sl H7 ?_
   refine A0 (V4 3 rfl H7 λh8 H8=>?_)
   try simp +decide only [B4,F2,Nat.reduceAdd,Int.reduceLE,Int.reduceLT,Int.reduceToNat,J0,G5,B0,A1.l H8,B.len]
   refine A0 (M7 r0 ?_)
   try simp +decide only [B4,F2,Nat.reduceAdd,Int.reduceLE,Int.reduceLT,Int.reduceToNat,J0,G5,B0,A1.l H8]
   refine A0 (T8 H8 (E8 P _ _) (T9 _) O.st λh9 H9=>?_)
   refine A1.stP H9 λh10 H10=>?_
   refine A4 (λc3=>?_) (λc3=>?_)
   ·rw [if_pos c3] at k
    exact A1.stP H10 λh11 H11=>k h11 (A1.drp (A1.none H11))
   ·rw [if_neg c3] at k
    exact k h10 (A1.drp (A1.none H10))
 rw [if_neg c] at k
 refine A4 (λc=>?_) (λc=>?_)
 ·rw [if_pos c] at k
  refine A0 (V3 (B.g 3) ?_)
  refine ss H4 ?_
  refine A0 (Gf H4 (B.g 3) O.st λh5 H5=>?_)
  refine ss H5 ?_
  exact A0 (Gg H5 (show x.t.fr.length < _ by omega) λh6 H6=>k h6 (A1.drp H6))
 have e2:Int.fdiv place 2=place / 2:=Bc (by omega)
 have e3:Int.tdiv place 2=place / 2:=Int.tdiv_eq_ediv_of_nonneg hpl.1
 have hu:U (place / 2):=⟨by have:=hpl.1;omega,by have:=hpl.2;have:=hpl.1;omega⟩
 rw [if_neg c] at k
 refine A4 (λc=>?_) (λc=>?_)
 ·rw [if_pos c] at k
  try simp only [B4,F2,Nat.reduceAdd,Int.reduceLE,Int.reduceLT,Int.reduceToNat,e2,e3,hu.u64]
  try refine ⟨by decide,?_⟩
  exact A0 (Cr H4 [place / 2] rfl (W5 hu) rfl (by omega) λh5 b' o' _ _ H5=>k h5 (A1.drp (A1.none H5)))
 rw [if_neg c] at k
 refine A4 (λc=>?_) (λc=>?_)
 ·rw [if_pos c] at k
  refine A4 (λc2=>?_) (λc2=>?_)
  ·rw [if_pos c2] at k
   exact A0 (Gg H4 (by omega) λh5 H5=>k h5 (A1.drp H5))
  ·rw [if_neg c2] at k
   refine A0 (Dx H4 λh5 H5=>?_)
   refine ss H5 ?_
   refine A0 (V3 (B.g 3) ?_)
   refine ss H5 ?_
   refine A0 (T7 (B.g 3) ?_)
   try simp +decide only [B4,F2,Nat.reduceAdd,Int.reduceLE,Int.reduceLT,Int.reduceToNat,J0,G5,B0,A1.al H5,e2,e3,hu.u64]
   refine A0 (Dx H5 λh6 H6=>?_)
   try simp +decide only [B4,F2,Nat.reduceAdd,Int.reduceLE,Int.reduceLT,Int.reduceToNat,J0,G5,B0,A1.al H6,e2,e3,hu.u64]
   refine A0 (SV8 H6 (RP P _) (RP P _) AL O.st λh7 H7=>?_)
   refine ss H7 ?_
   exact A0 (Gg H7 (show x.t.fr.length < _ by omega) λh8 H8=>k h8 (A1.drp H8))
 rw [if_neg c] at k
 exact k h4 (A1.drp (A1.none H4))
end
end
section
set_option maxRecDepth 100000
variable {K:kQ} {h:A2}
def F64 (K:kQ) (h:A2) (xa xb:Option Addr):Prop:=
 (cf 105 #[pQ xb] h λa b=>C2 a λa=>O0 λI3=>(D0 (Option.isNone a) (I3 [dQ true] b) (I3 [dQ (Option.isNone xa)] b))/\(∀(b:Value) (c:F8) (c:A2),(I3 [b] c)->(asBool b λb=>D0 b (K tQ c) (C4 (c.push (oQ #[pQ none,pQ none,pQ none] 197)) (aQ c.size) (pQ xa) λb=>C4 b ⟨c.size,1,none⟩ (pQ xb) λb=>C4 b ⟨c.size,2,none⟩ (pQ a) λb=>O0 λI11=>(nP a λd=>lI .i64 b d λd=>D0 (decide (d < 21)) (I11 [dQ true,dQ true] b) (nP a λd=>lI .i64 b d λd=>I11 [dQ (decide (d > 23)),dQ (decide (d > 23))] b))/\(∀(b d:Value) (e:F8) (e:A2),(I11 [b,d] e)->(asBool b λb=>D0 b (cf 112 #[pQ xa,pQ xb] e λb b=>K tQ b) (nP a λb=>lI .i64 e (b.add 1) λb=>D0 (b == 90) (nP a λb=>bd 7 10 (lI .u64 e (b.add 9) λb=>nP a λd=>bd 8 10 (lI .u64 e (d.add 10) λd=>nP a λf=>bd 9 10 (lI .u64 e (f.add 11) λf=>cf 106 #[pQ xb,lQ (some (aQ e.size)) 3 3] (e.push (oQ #[uQ b,uQ d,uQ f] 178)) λb b=>K tQ b)))) (nP a λa=>lI .i64 e a λa=>D0 (a == 21) (L1 e c.size λa b d=>cf 113 #[.agg #[a,b,d]] e λa a=>K tQ a) (L1 e c.size λa b c=>cf 114 #[.agg #[a,b,c]] e λa a=>K tQ a)))))))))
theorem call64 {xa xb:Option Addr} (H:F64 K h xa xb):A5 Tryz.prog 64 #[(pQ xa),(pQ xb)] h K:=
 cQ Tryz.func64 H
def F112 (K:kQ) (h:A2) (xa xb:Option Addr):Prop:=
 (cf 105 #[pQ xb] h λa b=>C2 a λa=>O0 λI3=>(D0 (Option.isNone a) (I3 [dQ true,dQ true] b) (I3 [dQ (Option.isNone xa),dQ (Option.isNone xa)] b))/\(∀(b c:Value) (d:F8) (d:A2),(I3 [b,c] d)->(asBool b λb=>D0 b (K tQ d) (nP a λb=>lI .i64 d b λb=>D0 (b == 20) (cf 166 #[.agg #[pQ xa,pQ xb,pQ a]] d λa a=>K tQ a) (cf 111 #[pQ xa,pQ xb] d λa a=>K tQ a)))))
theorem call112 {xa xb:Option Addr} (H:F112 K h xa xb):A5 Tryz.prog 112 #[(pQ xa),(pQ xb)] h K:=
 cQ Tryz.func112 H
abbrev g113 (K:kQ) (h H1:A2):Prop:=
 (lP H1 (Addr.add (aQ h.size) 2) λa=>nP a λa=>lI .i64 H1 (a.add 1) λa=>D0 (decide (a<=2)) (L1 H1 h.size λa b c=>cf 167 #[.agg #[a,b,c]] H1 λa a=>K tQ a) (lP H1 (Addr.add (aQ h.size) 2) λa=>nP a λa=>lI .i64 H1 (a.add 1) λa=>D0 (decide (a<=7)) (L1 H1 h.size λa b c=>cf 168 #[.agg #[a,b,c]] H1 λa a=>K tQ a) (lP H1 (Addr.add (aQ h.size) 2) λa=>nP a λa=>lI .i64 H1 (a.add 1) λa=>D0 (decide (a<=11)) (L1 H1 h.size λa b c=>cf 169 #[.agg #[a,b,c]] H1 λa a=>K tQ a) (lP H1 (Addr.add (aQ h.size) 2) λa=>nP a λa=>lI .i64 H1 (a.add 1) λa=>D0 (decide (a<=14)) (L1 H1 h.size λa b c=>cf 170 #[.agg #[a,b,c]] H1 λa a=>K tQ a) (L1 H1 h.size λa b c=>cf 171 #[.agg #[a,b,c]] H1 λa a=>K tQ a)))))
def F113 (K:kQ) (h:A2) (xa xb xc:Option Addr):Prop:=
 (g113 K h (h.push (oQ #[pQ xa,pQ xb,pQ xc] 199)))
theorem call113 {xa xb xc:Option Addr} (H:F113 K h xa xb xc):A5 Tryz.prog 113 #[(.agg #[(pQ xa),(pQ xb),(pQ xc)])] h K:=
 cQ Tryz.func113 H
abbrev g114 (K:kQ) (h H1:A2):Prop:=
 (lP H1 (Addr.add (aQ h.size) 2) λa=>nP a λa=>lI .i64 H1 (a.add 1) λa=>D0 (decide (a<=3)) (L1 H1 h.size λa b c=>cf 172 #[.agg #[a,b,c]] H1 λa a=>K tQ a) (lP H1 (Addr.add (aQ h.size) 2) λa=>nP a λa=>lI .i64 H1 (a.add 1) λa=>D0 (decide (a<=6)) (L1 H1 h.size λa b c=>cf 173 #[.agg #[a,b,c]] H1 λa a=>K tQ a) (lP H1 (Addr.add (aQ h.size) 2) λa=>nP a λa=>lI .i64 H1 (a.add 1) λa=>D0 (decide (a<=8)) (L1 H1 h.size λa b c=>cf 174 #[.agg #[a,b,c]] H1 λa a=>K tQ a) (L1 H1 h.size λa b c=>cf 175 #[.agg #[a,b,c]] H1 λa a=>K tQ a))))
def F114 (K:kQ) (h:A2) (xa xb xc:Option Addr):Prop:=
 (g114 K h (h.push (oQ #[pQ xa,pQ xb,pQ xc] 200)))
theorem call114 {xa xb xc:Option Addr} (H:F114 K h xa xb xc):A5 Tryz.prog 114 #[(.agg #[(pQ xa),(pQ xb),(pQ xc)])] h K:=
 cQ Tryz.func114 H
abbrev g166 (K:kQ) (h H1:A2):Prop:=
 (lP H1 (Addr.add (aQ h.size) 2) λa=>nP a λb=>lI .i64 H1 (b.add 1) λb=>D0 (b == 0) (L1 H1 h.size λc d e=>cf 242 #[.agg #[c,d,e]] H1 λc c=>K tQ c) (D0 (b == 1) (D1 H1 (aQ h.size) λc=>C2 c λd=>lP H1 (aQ h.size) λe=>D1 H1 (Addr.add (aQ h.size) 1) λf=>C2 f λg=>nP g λg=>D1 H1 g λi=>asInt .i64 i λj=>G3 H1 (aQ h.size) λk l m=>nP a λn=>bd 2 10 (D1 H1 (n.add 4) λo=>asInt .u64 o λp=>cf 79 #[pQ e] H1 λe q=>asAgg e λe=>G0 e 15 (N0 e λe r s t u v w x y z A B C D E=>((A3 q (n.add 4))=(some o))/\(ce q h.size 0 k (((A3 q (Addr.add (aQ h.size) 1))=(some l))/\(((A3 q (Addr.add (aQ h.size) 2))=(some m))/\(((A3 q g)=(some i))/\(((A3 q (Addr.add (aQ h.size) 1))=(some f))/\(ce q h.size 0 c (cf 243 #[.agg #[k,l,m]] q λk l=>asInt .i64 k λk=>((A3 l (n.add 4))=(some o))/\(((A3 l g)=(some i))/\(((A3 l (Addr.add (aQ h.size) 1))=(some f))/\(ce l h.size 0 c (cf 232 #[.agg #[e,r,s,t,u,v,w,x,y,z,A,B,C,D,E],iQ j,iQ (IntKind.wrap .i64 (2*k))] l λe f=>asInt .i64 e λe=>((A3 f (n.add 4))=(some o))/\(ce f h.size 0 c (cf 212 #[pQ d,iQ e,uQ p] f λc c=>nP a λd=>C4 c (d.add 1) (iQ 2) λc=>K tQ c)))))))))))))))) (D0 (b == 2) (L1 H1 h.size λc d e=>D1 H1 (aQ h.size) λf=>C2 f λg=>G3 H1 (aQ h.size) λi j k=>nP a λl=>bd 2 10 (lI .u64 H1 (l.add 4) λl=>cf 245 #[.agg #[i,j,k],uQ l] H1 λi j=>asInt .i64 i λi=>ce j h.size 0 f (dc3 j h.size c d e (cf 147 #[pQ g,iQ i] j λf g=>asInt .u64 f λf=>ce g h.size 0 c (ce g h.size 1 d (ce g h.size 2 e (cf 244 #[.agg #[c,d,e],uQ f] g λc c=>K tQ c))))))) (D0 (b == 8) (D1 H1 (aQ h.size) λb=>C2 b λc=>lP H1 (aQ h.size) λd=>nP a λe=>bd 2 10 (D1 H1 (e.add 4) λf=>asInt .u64 f λg=>cf 79 #[pQ d] H1 λd i=>asAgg d λd=>G0 d 15 (N0 d λd j k l m n o p q r s t u v w=>((A3 i (e.add 4))=(some f))/\(ce i h.size 0 b (cf 143 #[.agg #[d,j,k,l,m,n,o,p,q,r,s,t,u,v,w],iQ (IntKind.wrap .i64 g),iQ 4] i λd e=>asInt .i64 d λd=>ce e h.size 0 b (cf 147 #[pQ c,iQ d] e λb c=>asInt .u64 b λb=>nP a λa=>C4 c (a.add 1) (iQ 0) λa=>K tQ a)))))) (L1 H1 h.size λa b c=>cf 246 #[.agg #[a,b,c]] H1 λa a=>K tQ a)))))
def F166 (K:kQ) (h:A2) (xa xb xc:Option Addr):Prop:=
 (g166 K h (h.push (oQ #[pQ xa,pQ xb,pQ xc] 250)))
theorem call166 {xa xb xc:Option Addr} (H:F166 K h xa xb xc):A5 Tryz.prog 166 #[(.agg #[(pQ xa),(pQ xb),(pQ xc)])] h K:=
 cQ Tryz.func166 H
abbrev g167 (K:kQ) (h H1:A2):Prop:=
 (lP H1 (Addr.add (aQ h.size) 2) λa=>nP a λb=>lI .i64 H1 (b.add 1) λb=>D0 (b == 0) (G3 H1 (aQ h.size) λc d e=>cf 247 #[.agg #[c,d,e],iQ 1,iQ 1,lQ none 0 0] H1 λc c=>K tQ c) (D0 (b == 1) (lP H1 (Addr.add (aQ h.size) 1) λc=>nP c λc=>bd 0 3 (lI .u64 H1 (c.add 2) λc=>nP a λd=>bd 2 10 (C4 H1 (d.add 4) (uQ c) λc=>nP a λd=>bd 2 10 (lI .u64 c (d.add 4) λd=>D0 (d != 0) (nP a λd=>C4 c (d.add 1) (iQ 2) λd=>K tQ d) (O0 λI22=>(nP a λd=>bd 5 10 (lI .u64 c (d.add 7) λd=>D0 (d == 0) (lP c (Addr.add (aQ h.size) 1) λd=>nP d λd=>cf 211 #[pQ (some (d.add 8))] c λd e=>asInt .i64 d λd=>I22 [dQ (decide (d > 0)),dQ (decide (d > 0))] e) (I22 [dQ false,dQ false] c)))/\(∀(c d:Value) (e:F8) (e:A2),(I22 [c,d] e)->(asBool c λc=>D0 c (nP a λc=>bd 5 10 (C4 e (c.add 7) (uQ 1) λc=>G3 c (aQ h.size) λd f g=>cf 247 #[.agg #[d,f,g],iQ 0,iQ 6,lQ none 0 0] c λc c=>K tQ c)) (G3 e (aQ h.size) λc d f=>cf 248 #[.agg #[c,d,f],uQ 1,uQ 0,uQ 0] e λc c=>K tQ c)))))))) (D0 (b == 2) (nP a λb=>bd 0 10 (D1 H1 (b.add 2) λc=>asInt .u64 c λd=>lP H1 (aQ h.size) λe=>nP a λf=>cf 188 #[pQ e,iQ 3,uQ 1] H1 λe g=>asInt .u64 e λe=>((A3 g (b.add 2))=(some c))/\(cf 249 #[.int .u32 (IntKind.wrap .u32 d),.int .u32 (IntKind.wrap .u32 e)] g λb c=>asInt .u64 b λb=>bd 4 10 (C4 c (f.add 6) (uQ b) λb=>lP b (aQ h.size) λc=>D1 b (aQ h.size) λd=>C2 d λe=>nP a λf=>cf 214 #[pQ c] b λb c=>C2 b λb=>ce c h.size 0 d (cf 79 #[pQ e] c λc d=>asAgg c λc=>G0 c 15 (N0 c λc e g i j k l m n o p q r s t=>cf 139 #[.agg #[c,e,g,i,j,k,l,m,n,o,p,q,r,s,t]] d λc d=>asAgg c λc=>G0 c 7 (Nh c λc c c c e e e=>asInt .i64 c λc=>cf 250 #[pQ b,iQ c] d λb c=>asInt .i64 b λb=>bd 3 10 (C4 c (f.add 5) (uQ (IntKind.wrap .u64 b)) λb=>nP a λa=>C4 b (a.add 1) (iQ 3) λa=>K tQ a)))))))) (K tQ H1))))
def F167 (K:kQ) (h:A2) (xa xb xc:Option Addr):Prop:=
 (g167 K h (h.push (oQ #[pQ xa,pQ xb,pQ xc] 199)))
theorem call167 {xa xb xc:Option Addr} (H:F167 K h xa xb xc):A5 Tryz.prog 167 #[(.agg #[(pQ xa),(pQ xb),(pQ xc)])] h K:=
 cQ Tryz.func167 H
abbrev g168 (K:kQ) (h H1:A2):Prop:=
 (lP H1 (Addr.add (aQ h.size) 2) λa=>nP a λb=>bd 2 10 (lI .u64 H1 (b.add 4) λb=>O0 λI5=>(nP a λc=>lI .i64 H1 (c.add 1) λc=>D0 (c == 3) (D1 H1 (aQ h.size) λd=>C2 d λe=>G3 H1 (aQ h.size) λf g i=>nP a λj=>bd 4 10 (D1 H1 (j.add 6) λk=>asInt .u64 k λl=>cf 251 #[.agg #[f,g,i],uQ b,iQ 0] H1 λf g=>asInt .i64 f λf=>((A3 g (j.add 6))=(some k))/\(ce g h.size 0 d (cf 212 #[pQ e,iQ f,uQ l] g λd d=>I5 [dQ true,tQ,tQ,tQ,tQ] d)))) (D0 (c == 4) (D1 H1 (aQ h.size) λd=>C2 d λe=>G3 H1 (aQ h.size) λf g i=>nP a λj=>bd 1 10 (D1 H1 (j.add 3) λk=>asInt .u64 k λl=>cf 251 #[.agg #[f,g,i],uQ b,iQ 1] H1 λf g=>asInt .i64 f λf=>((A3 g (j.add 3))=(some k))/\(ce g h.size 0 d (cf 252 #[.int .u32 (IntKind.wrap .u32 l),dQ false] g λg i=>asInt .u64 g λg=>ce i h.size 0 d (cf 212 #[pQ e,iQ f,uQ g] i λd d=>I5 [dQ false,dQ true,tQ,tQ,tQ] d))))) (D0 (c == 5) (D1 H1 (aQ h.size) λd=>C2 d λe=>G3 H1 (aQ h.size) λf g i=>cf 251 #[.agg #[f,g,i],uQ b,iQ 2] H1 λf g=>asInt .i64 f λf=>ce g h.size 0 d (cf 212 #[pQ e,iQ f,uQ 2] g λd d=>I5 [dQ false,dQ false,dQ true,tQ,tQ] d)) (D0 (c == 6) (D1 H1 (aQ h.size) λd=>C2 d λe=>G3 H1 (aQ h.size) λf g i=>nP a λj=>bd 3 10 (D1 H1 (j.add 5) λk=>asInt .u64 k λl=>cf 251 #[.agg #[f,g,i],uQ b,iQ 3] H1 λf g=>asInt .i64 f λf=>((A3 g (j.add 5))=(some k))/\(ce g h.size 0 d (cf 212 #[pQ e,iQ f,uQ l] g λd d=>I5 [dQ false,dQ false,dQ false,dQ true,tQ] d)))) (D0 (c == 7) (D1 H1 (aQ h.size) λc=>C2 c λd=>G3 H1 (aQ h.size) λe f g=>cf 251 #[.agg #[e,f,g],uQ b,iQ 4] H1 λb e=>asInt .i64 b λb=>ce e h.size 0 c (cf 212 #[pQ d,iQ b,uQ 0] e λb b=>I5 [dQ false,dQ false,dQ false,dQ false,dQ true] b)) (I5 [dQ false,dQ false,dQ false,dQ false,dQ false] H1))))))/\(∀(b c d e f:Value) (g:F8) (g:A2),(I5 [b,c,d,e,f] g)->(nP a λb=>lI .i64 g (b.add 1) λb=>nP a λa=>C4 g (a.add 1) (iQ (IntKind.wrap .i64 (b+1))) λa=>K tQ a))))
def F168 (K:kQ) (h:A2) (xa xb xc:Option Addr):Prop:=
 (g168 K h (h.push (oQ #[pQ xa,pQ xb,pQ xc] 199)))
theorem call168 {xa xb xc:Option Addr} (H:F168 K h xa xb xc):A5 Tryz.prog 168 #[(.agg #[(pQ xa),(pQ xb),(pQ xc)])] h K:=
 cQ Tryz.func168 H
abbrev g169 (K:kQ) (h H1:A2):Prop:=
 (lP H1 (Addr.add (aQ h.size) 2) λa=>nP a λb=>bd 2 10 (lI .u64 H1 (b.add 4) λb=>nP a λc=>bd 5 10 (lI .u64 H1 (c.add 7) λc=>nP a λd=>lI .i64 H1 (d.add 1) λd=>D0 (d == 8) (nP a λe=>bd 5 10 (C4 H1 (e.add 7) (uQ 0) λe=>G3 e (aQ h.size) λf g i=>nP a λj=>bd 4 10 (lI .u64 e (j.add 6) λj=>((A3 (e.push (oQ #[uQ j] 178)) (aQ h.size))=(some f))/\(((A3 (e.push (oQ #[uQ j] 178)) (Addr.add (aQ h.size) 1))=(some g))/\(((A3 (e.push (oQ #[uQ j] 178)) (Addr.add (aQ h.size) 2))=(some i))/\(cf 247 #[.agg #[f,g,i],iQ 9,iQ 20,lQ (some (aQ e.size)) 1 1] (e.push (oQ #[uQ j] 178)) λe e=>K tQ e)))))) (D0 (d == 9) (D1 H1 (aQ h.size) λe=>C2 e λf=>G3 H1 (aQ h.size) λg i j=>nP a λk=>cf 253 #[.agg #[g,i,j],uQ b,uQ c] H1 λg i=>asInt .i64 g λg=>ce i h.size 0 e (cf 147 #[pQ f,iQ g] i λe f=>asInt .u64 e λe=>bd 6 10 (C4 f (k.add 8) (uQ e) λe=>nP a λf=>C4 e (f.add 1) (iQ 10) λe=>K tQ e))) (D0 (d == 10) (D1 H1 (aQ h.size) λe=>C2 e λf=>G3 H1 (aQ h.size) λg i j=>nP a λk=>bd 6 10 (D1 H1 (k.add 8) λl=>asInt .u64 l λm=>D1 H1 (Addr.add (aQ h.size) 1) λn=>C2 n λo=>nP o λo=>D1 H1 (o.add 6) λp=>C8 p λq r s=>bd c (r:Int) (E5 (pQ q) λq=>D1 H1 (q.add (c.toNat*1)) λr=>asInt .u64 r λs=>cf 253 #[.agg #[g,i,j],uQ b,uQ c] H1 λg i=>asInt .i64 g λg=>((A3 i (q.add (c.toNat*1)))=(some r))/\(((A3 i (o.add 6))=(some p))/\(((A3 i (Addr.add (aQ h.size) 1))=(some n))/\(((A3 i (k.add 8))=(some l))/\(ce i h.size 0 e (cf 228 #[uQ m,iQ (IntKind.wrap .i64 s),dQ false] i λc i=>asInt .u64 c λc=>ce i h.size 0 e (cf 212 #[pQ f,iQ g,uQ c] i λc c=>nP a λe=>bd 5 10 (lI .u64 c (e.add 7) λe=>nP a λf=>bd 5 10 (C4 c (f.add 7) (uQ (IntKind.wrap .u64 (e+1))) λc=>nP a λe=>C4 c (e.add 1) (iQ 9) λc=>nP a λe=>bd 5 10 (lI .u64 c (e.add 7) λe=>nP a λf=>bd 3 10 (lI .u64 c (f.add 5) λf=>D0 (decide (e >= f)) (nP a λe=>C4 c (e.add 1) (iQ 11) λe=>K tQ e) (K tQ c)))))))))))))) (D0 (d == 11) (nP a λc=>bd 5 10 (C4 H1 (c.add 7) (uQ 1) λc=>nP a λd=>C4 c (d.add 1) (iQ 8) λc=>G3 c (aQ h.size) λd e f=>G3 c (aQ h.size) λg i j=>lP c (Addr.add (aQ h.size) 1) λk=>nP k λk=>lS c (k.add 5) λk l m=>bd 0 (l:Int) (E5 (pQ k) λk=>lI .u64 c k λk=>D1 c (Addr.add (aQ h.size) 1) λl=>C2 l λm=>nP m λm=>D1 c (m.add 7) λn=>C8 n λo p q=>bd 0 (p:Int) (E5 (pQ o) λo=>D1 c o λp=>asInt .u64 p λq=>cf 253 #[.agg #[g,i,j],uQ k,uQ 0] c λc g=>asInt .i64 c λc=>((A3 g o)=(some p))/\(((A3 g (m.add 7))=(some n))/\(((A3 g (Addr.add (aQ h.size) 1))=(some l))/\(ce g h.size 0 d (((A3 g (Addr.add (aQ h.size) 1))=(some e))/\(((A3 g (Addr.add (aQ h.size) 2))=(some f))/\(cf 254 #[.agg #[d,e,f],iQ c,uQ q,uQ b] g λb c=>asBool b λb=>D0 b (nP a λa=>C4 c (a.add 1) (iQ 12) λa=>K tQ a) (K tQ c))))))))))) (K tQ H1)))))))
def F169 (K:kQ) (h:A2) (xa xb xc:Option Addr):Prop:=
 (g169 K h (h.push (oQ #[pQ xa,pQ xb,pQ xc] 199)))
theorem call169 {xa xb xc:Option Addr} (H:F169 K h xa xb xc):A5 Tryz.prog 169 #[(.agg #[(pQ xa),(pQ xb),(pQ xc)])] h K:=
 cQ Tryz.func169 H
abbrev g170 (K:kQ) (h H1:A2):Prop:=
 (lP H1 (Addr.add (aQ h.size) 2) λa=>nP a λb=>bd 2 10 (lI .u64 H1 (b.add 4) λb=>nP a λc=>bd 5 10 (lI .u64 H1 (c.add 7) λc=>nP a λd=>lI .i64 H1 (d.add 1) λd=>D0 (d == 12) (nP a λe=>bd 3 10 (lI .u64 H1 (e.add 5) λe=>D0 (decide (c >= e)) (nP a λe=>C4 H1 (e.add 1) (iQ 15) λe=>K tQ e) (D1 H1 (aQ h.size) λe=>C2 e λf=>G3 H1 (aQ h.size) λg i j=>nP a λk=>cf 253 #[.agg #[g,i,j],uQ b,uQ c] H1 λg i=>asInt .i64 g λg=>ce i h.size 0 e (cf 147 #[pQ f,iQ g] i λe f=>asInt .u64 e λe=>bd 6 10 (C4 f (k.add 8) (uQ e) λe=>nP a λf=>bd 6 10 (lI .u64 e (f.add 8) λf=>cf 255 #[uQ f] e λe f=>asBool e λe=>D0 e (nP a λe=>C4 f (e.add 1) (iQ 15) λe=>K tQ e) (nP a λe=>bd 6 10 (lI .u64 f (e.add 8) λe=>D1 f (Addr.add (aQ h.size) 1) λg=>C2 g λi=>nP i λi=>D1 f (i.add 6) λj=>C8 j λk l m=>bd c (l:Int) (E5 (pQ k) λk=>D1 f (k.add (c.toNat*1)) λl=>asInt .u64 l λm=>cf 256 #[uQ e] f λe f=>asInt .u64 e λe=>((A3 f (k.add (c.toNat*1)))=(some l))/\(((A3 f (i.add 6))=(some j))/\(((A3 f (Addr.add (aQ h.size) 1))=(some g))/\(D0 (e != m) (nP a λe=>C4 f (e.add 1) (iQ 13) λe=>K tQ e) (nP a λe=>C4 f (e.add 1) (iQ 14) λe=>K tQ e))))))))))))) (D0 (d == 13) (G3 H1 (aQ h.size) λe f g=>G3 H1 (aQ h.size) λi j k=>nP a λl=>bd 6 10 (D1 H1 (l.add 8) λm=>asInt .u64 m λn=>D1 H1 (Addr.add (aQ h.size) 1) λo=>C2 o λp=>nP p λp=>D1 H1 (p.add 6) λq=>C8 q λr s t=>bd c (s:Int) (E5 (pQ r) λr=>D1 H1 (r.add (c.toNat*1)) λs=>asInt .u64 s λt=>cf 253 #[.agg #[i,j,k],uQ b,uQ c] H1 λi j=>asInt .i64 i λi=>((A3 j (r.add (c.toNat*1)))=(some s))/\(((A3 j (p.add 6))=(some q))/\(((A3 j (Addr.add (aQ h.size) 1))=(some o))/\(((A3 j (l.add 8))=(some m))/\(ce j h.size 0 e (((A3 j (Addr.add (aQ h.size) 1))=(some f))/\(((A3 j (Addr.add (aQ h.size) 2))=(some g))/\(cf 254 #[.agg #[e,f,g],iQ i,uQ n,uQ t] j λe f=>asBool e λe=>nP a λe=>C4 f (e.add 1) (iQ 12) λe=>K tQ e)))))))))) (D0 (d == 14) (G3 H1 (aQ h.size) λd e f=>G3 H1 (aQ h.size) λg i j=>lP H1 (Addr.add (aQ h.size) 1) λk=>nP k λk=>lS H1 (k.add 5) λk l m=>bd c (l:Int) (E5 (pQ k) λk=>lI .u64 H1 (k.add (c.toNat*1)) λk=>D1 H1 (Addr.add (aQ h.size) 1) λl=>C2 l λm=>nP m λm=>D1 H1 (m.add 7) λn=>C8 n λo p q=>bd c (p:Int) (E5 (pQ o) λo=>D1 H1 (o.add (c.toNat*1)) λp=>asInt .u64 p λq=>cf 253 #[.agg #[g,i,j],uQ k,uQ c] H1 λg i=>asInt .i64 g λg=>((A3 i (o.add (c.toNat*1)))=(some p))/\(((A3 i (m.add 7))=(some n))/\(((A3 i (Addr.add (aQ h.size) 1))=(some l))/\(ce i h.size 0 d (((A3 i (Addr.add (aQ h.size) 1))=(some e))/\(((A3 i (Addr.add (aQ h.size) 2))=(some f))/\(cf 254 #[.agg #[d,e,f],iQ g,uQ q,uQ b] i λb c=>asBool b λb=>D0 b (nP a λb=>bd 5 10 (lI .u64 c (b.add 7) λb=>nP a λd=>bd 5 10 (C4 c (d.add 7) (uQ (IntKind.wrap .u64 (b+1))) λb=>nP a λd=>C4 b (d.add 1) (iQ 12) λb=>K tQ b))) (G3 c (aQ h.size) λb d e=>nP a λa=>bd 4 10 (lI .u64 c (a.add 6) λa=>((A3 (c.push (oQ #[uQ a] 178)) (aQ h.size))=(some b))/\(((A3 (c.push (oQ #[uQ a] 178)) (Addr.add (aQ h.size) 1))=(some d))/\(((A3 (c.push (oQ #[uQ a] 178)) (Addr.add (aQ h.size) 2))=(some e))/\(cf 247 #[.agg #[b,d,e],iQ 12,iQ 20,lQ (some (aQ c.size)) 1 1] (c.push (oQ #[uQ a] 178)) λa a=>K tQ a)))))))))))))) (K tQ H1))))))
def F170 (K:kQ) (h:A2) (xa xb xc:Option Addr):Prop:=
 (g170 K h (h.push (oQ #[pQ xa,pQ xb,pQ xc] 199)))
theorem call170 {xa xb xc:Option Addr} (H:F170 K h xa xb xc):A5 Tryz.prog 170 #[(.agg #[(pQ xa),(pQ xb),(pQ xc)])] h K:=
 cQ Tryz.func170 H
abbrev g171 (K:kQ) (h H1:A2):Prop:=
 (lP H1 (Addr.add (aQ h.size) 2) λa=>nP a λb=>lI .i64 H1 (b.add 1) λb=>D0 (b == 15) (G3 H1 (aQ h.size) λc d e=>nP a λf=>bd 2 10 (lI .u64 H1 (f.add 4) λf=>cf 257 #[.agg #[c,d,e],uQ f] H1 λc d=>asBool c λc=>D0 c (G3 d (aQ h.size) λc e f=>nP a λg=>bd 4 10 (lI .u64 d (g.add 6) λg=>((A3 (d.push (oQ #[uQ g] 178)) (aQ h.size))=(some c))/\(((A3 (d.push (oQ #[uQ g] 178)) (Addr.add (aQ h.size) 1))=(some e))/\(((A3 (d.push (oQ #[uQ g] 178)) (Addr.add (aQ h.size) 2))=(some f))/\(cf 247 #[.agg #[c,e,f],iQ 17,iQ 20,lQ (some (aQ d.size)) 1 1] (d.push (oQ #[uQ g] 178)) λc c=>K tQ c))))) (nP a λc=>C4 d (c.add 1) (iQ 16) λc=>K tQ c))) (D0 (b == 17) (G3 H1 (aQ h.size) λb c d=>nP a λa=>bd 2 10 (lI .u64 H1 (a.add 4) λa=>((A3 (H1.push (oQ #[uQ a] 178)) (aQ h.size))=(some b))/\(((A3 (H1.push (oQ #[uQ a] 178)) (Addr.add (aQ h.size) 1))=(some c))/\(((A3 (H1.push (oQ #[uQ a] 178)) (Addr.add (aQ h.size) 2))=(some d))/\(cf 247 #[.agg #[b,c,d],iQ 16,iQ 5,lQ (some (aQ H1.size)) 1 1] (H1.push (oQ #[uQ a] 178)) λa a=>K tQ a))))) (G3 H1 (aQ h.size) λa b c=>cf 248 #[.agg #[a,b,c],uQ 0,uQ 0,uQ 0] H1 λa a=>K tQ a)))
def F171 (K:kQ) (h:A2) (xa xb xc:Option Addr):Prop:=
 (g171 K h (h.push (oQ #[pQ xa,pQ xb,pQ xc] 199)))
theorem call171 {xa xb xc:Option Addr} (H:F171 K h xa xb xc):A5 Tryz.prog 171 #[(.agg #[(pQ xa),(pQ xb),(pQ xc)])] h K:=
 cQ Tryz.func171 H
abbrev q172_1 (h37:A2) (n35 n38:Int):A2:=(h37.push (oQ #[(uQ (IntKind.wrap .u64 (IntKind.wrap .i64 (n35 - 2)))),(uQ (IntKind.wrap .u64 n38))] 178))
abbrev g172 (K:kQ) (h H1:A2):Prop:=
 (lP H1 (Addr.add (aQ h.size) 2) λa=>nP a λb=>lI .i64 H1 (b.add 1) λb=>D0 (b == 0) (nP a λc=>bd 6 10 (C4 H1 (c.add 8) (uQ 0) λc=>G3 c (aQ h.size) λd e f=>lP c (aQ h.size) λg=>G3 c (aQ h.size) λi j k=>cf 79 #[pQ g] c λc g=>asAgg c λc=>G0 c 15 (N0 c λc l m n o p q r s t u v w x y=>ce g h.size 0 i (((A3 g (Addr.add (aQ h.size) 1))=(some j))/\(((A3 g (Addr.add (aQ h.size) 2))=(some k))/\(ce g h.size 0 d (((A3 g (Addr.add (aQ h.size) 1))=(some e))/\(((A3 g (Addr.add (aQ h.size) 2))=(some f))/\(cf 233 #[.agg #[c,l,m,n,o,p,q,r,s,t,u,v,w,x,y]] g λc g=>asInt .i64 c λc=>ce g h.size 0 i (((A3 g (Addr.add (aQ h.size) 1))=(some j))/\(((A3 g (Addr.add (aQ h.size) 2))=(some k))/\(ce g h.size 0 d (((A3 g (Addr.add (aQ h.size) 1))=(some e))/\(((A3 g (Addr.add (aQ h.size) 2))=(some f))/\(cf 253 #[.agg #[i,j,k],uQ 1,uQ 0] g λg i=>asInt .i64 g λg=>ce i h.size 0 d (((A3 i (Addr.add (aQ h.size) 1))=(some e))/\(((A3 i (Addr.add (aQ h.size) 2))=(some f))/\(ce (q172_1 i c g) h.size 0 d (((A3 (q172_1 i c g) (Addr.add (aQ h.size) 1))=(some e))/\(((A3 (q172_1 i c g) (Addr.add (aQ h.size) 2))=(some f))/\(cf 247 #[.agg #[d,e,f],iQ 1,iQ 3,lQ (some (aQ i.size)) 2 2] (q172_1 i c g) λc c=>K tQ c))))))))))))))))))))) (D0 (b == 1) (D1 H1 (Addr.add (aQ h.size) 1) λc=>C2 c λd=>nP d λd=>bd 0 3 (D1 H1 (d.add 2) λe=>asInt .u64 e λf=>lP H1 (Addr.add (aQ h.size) 1) λg=>nP g λg=>bd 0 3 (lI .u64 H1 (g.add 2) λg=>nP a λi=>nP a λj=>cf 256 #[uQ g] H1 λg k=>asInt .u64 g λg=>((A3 k (d.add 2))=(some e))/\(((A3 k (Addr.add (aQ h.size) 1))=(some c))/\(bd 0 10 (C4 k (i.add 2) (uQ f) λc=>bd 1 10 (C4 c (j.add 3) (uQ g) λc=>nP a λd=>C4 c (d.add 1) (iQ 2) λc=>nP a λd=>bd 1 10 (lI .u64 c (d.add 3) λd=>D0 (d == 2) (G3 c (aQ h.size) λd e f=>cf 248 #[.agg #[d,e,f],uQ 3,uQ 0,uQ 0] c λd d=>K tQ d) (K tQ c))))))))) (D0 (b == 2) (D1 H1 (aQ h.size) λc=>C2 c λd=>G3 H1 (aQ h.size) λe f g=>nP a λi=>bd 1 10 (lI .u64 H1 (i.add 3) λi=>nP a λj=>cf 251 #[.agg #[e,f,g],uQ i,iQ 1] H1 λe f=>asInt .i64 e λe=>ce f h.size 0 c (cf 147 #[pQ d,iQ e] f λc d=>asInt .u64 c λc=>bd 3 10 (C4 d (j.add 5) (uQ c) λc=>nP a λd=>C4 c (d.add 1) (iQ 3) λc=>nP a λd=>bd 3 10 (lI .u64 c (d.add 5) λd=>cf 258 #[uQ d] c λc d=>asBool c λc=>D0 c (nP a λc=>C4 d (c.add 1) (iQ 6) λc=>K tQ c) (K tQ d)))))) (D0 (b == 3) (D1 H1 (aQ h.size) λb=>C2 b λc=>G3 H1 (aQ h.size) λd e f=>nP a λg=>bd 1 10 (lI .u64 H1 (g.add 3) λg=>nP a λi=>cf 251 #[.agg #[d,e,f],uQ g,iQ 0] H1 λd e=>asInt .i64 d λd=>ce e h.size 0 b (cf 147 #[pQ c,iQ d] e λb c=>asInt .u64 b λb=>bd 2 10 (C4 c (i.add 4) (uQ b) λb=>nP a λc=>C4 b (c.add 1) (iQ 4) λb=>nP a λa=>lI .i64 b a λa=>D0 (a == 23) (L1 b h.size λa c d=>cf 259 #[.agg #[a,c,d]] b λa a=>K tQ a) (K tQ b))))) (K tQ H1)))))
def F172 (K:kQ) (h:A2) (xa xb xc:Option Addr):Prop:=
 (g172 K h (h.push (oQ #[pQ xa,pQ xb,pQ xc] 200)))
theorem call172 {xa xb xc:Option Addr} (H:F172 K h xa xb xc):A5 Tryz.prog 172 #[(.agg #[(pQ xa),(pQ xb),(pQ xc)])] h K:=
 cQ Tryz.func172 H
abbrev g173 (K:kQ) (h H1:A2):Prop:=
 (lP H1 (Addr.add (aQ h.size) 2) λa=>nP a λb=>lI .i64 H1 (b.add 1) λb=>D0 (b == 4) (nP a λc=>C4 H1 (c.add 1) (iQ 0) λc=>D1 c (aQ h.size) λd=>C2 d λe=>G3 c (aQ h.size) λf g i=>nP a λj=>bd 1 10 (lI .u64 c (j.add 3) λj=>nP a λk=>bd 3 10 (D1 c (k.add 5) λl=>asInt .u64 l λm=>nP a λn=>bd 3 10 (D1 c (n.add 5) λo=>asInt .u64 o λp=>cf 251 #[.agg #[f,g,i],uQ j,iQ 1] c λc f=>asInt .i64 c λc=>((A3 f (n.add 5))=(some o))/\(((A3 f (k.add 5))=(some l))/\(ce f h.size 0 d (cf 260 #[uQ p] f λf g=>asInt .u64 f λf=>((A3 g (k.add 5))=(some l))/\(ce g h.size 0 d (cf 219 #[pQ e,iQ c,uQ m,uQ f] g λc d=>asBool c λc=>D0 c (nP a λc=>bd 6 10 (C4 d (c.add 8) (uQ 1) λc=>nP a λe=>C4 c (e.add 1) (iQ 5) λc=>K tQ c)) (K tQ d)))))))))) (D0 (b == 5) (D1 H1 (aQ h.size) λc=>C2 c λd=>G3 H1 (aQ h.size) λe f g=>nP a λi=>bd 1 10 (lI .u64 H1 (i.add 3) λi=>cf 251 #[.agg #[e,f,g],uQ i,iQ 4] H1 λe f=>asInt .i64 e λe=>ce f h.size 0 c (cf 212 #[pQ d,iQ e,uQ 1] f λc c=>nP a λd=>C4 c (d.add 1) (iQ 6) λc=>K tQ c))) (D0 (b == 6) (D1 H1 (aQ h.size) λb=>C2 b λc=>G3 H1 (aQ h.size) λd e f=>nP a λg=>bd 1 10 (lI .u64 H1 (g.add 3) λg=>nP a λi=>cf 251 #[.agg #[d,e,f],uQ g,iQ 3] H1 λd e=>asInt .i64 d λd=>ce e h.size 0 b (cf 147 #[pQ c,iQ d] e λb c=>asInt .u64 b λb=>bd 4 10 (C4 c (i.add 6) (uQ b) λb=>nP a λa=>C4 b (a.add 1) (iQ 7) λa=>K tQ a)))) (K tQ H1))))
def F173 (K:kQ) (h:A2) (xa xb xc:Option Addr):Prop:=
 (g173 K h (h.push (oQ #[pQ xa,pQ xb,pQ xc] 200)))
theorem call173 {xa xb xc:Option Addr} (H:F173 K h xa xb xc):A5 Tryz.prog 173 #[(.agg #[(pQ xa),(pQ xb),(pQ xc)])] h K:=
 cQ Tryz.func173 H
abbrev g174 (K:kQ) (h H1:A2):Prop:=
 (lP H1 (Addr.add (aQ h.size) 2) λa=>nP a λb=>lI .i64 H1 (b.add 1) λb=>D0 (b == 7) (nP a λc=>bd 4 10 (lI .u64 H1 (c.add 6) λc=>D0 (c == 0) (nP a λc=>C4 H1 (c.add 1) (iQ 9) λc=>nP a λd=>bd 6 10 (lI .u64 c (d.add 8) λd=>D0 (d == 1) (nP a λd=>C4 c (d.add 1) (iQ 11) λd=>K tQ d) (K tQ c))) (D1 H1 (aQ h.size) λc=>C2 c λd=>G3 H1 (aQ h.size) λe f g=>nP a λi=>bd 1 10 (lI .u64 H1 (i.add 3) λi=>nP a λj=>bd 4 10 (lI .u64 H1 (j.add 6) λj=>nP a λk=>cf 253 #[.agg #[e,f,g],uQ i,uQ (IntKind.wrap .u64 (j - 1))] H1 λe f=>asInt .i64 e λe=>ce f h.size 0 c (cf 147 #[pQ d,iQ e] f λc d=>asInt .u64 c λc=>bd 5 10 (C4 d (k.add 7) (uQ c) λc=>nP a λd=>C4 c (d.add 1) (iQ 8) λc=>nP a λd=>bd 5 10 (lI .u64 c (d.add 7) λd=>cf 255 #[uQ d] c λc d=>asBool c λc=>D0 c (nP a λc=>bd 4 10 (lI .u64 d (c.add 6) λc=>nP a λe=>bd 4 10 (C4 d (e.add 6) (uQ (IntKind.wrap .u64 (c - 1))) λc=>nP a λe=>C4 c (e.add 1) (iQ 7) λc=>K tQ c))) (K tQ d))))))))) (D0 (b == 8) (nP a λb=>C4 H1 (b.add 1) (iQ 7) λb=>D1 b (aQ h.size) λc=>C2 c λd=>G3 b (aQ h.size) λe f g=>nP a λi=>bd 1 10 (lI .u64 b (i.add 3) λi=>nP a λj=>bd 4 10 (lI .u64 b (j.add 6) λj=>nP a λk=>bd 5 10 (D1 b (k.add 7) λl=>asInt .u64 l λm=>nP a λn=>bd 5 10 (D1 b (n.add 7) λo=>asInt .u64 o λp=>cf 253 #[.agg #[e,f,g],uQ i,uQ (IntKind.wrap .u64 (j - 1))] b λb e=>asInt .i64 b λb=>((A3 e (n.add 7))=(some o))/\(((A3 e (k.add 7))=(some l))/\(ce e h.size 0 c (cf 261 #[uQ p] e λe f=>asInt .u64 e λe=>((A3 f (k.add 7))=(some l))/\(ce f h.size 0 c (cf 219 #[pQ d,iQ b,uQ m,uQ e] f λb c=>asBool b λb=>D0 b (nP a λb=>bd 4 10 (lI .u64 c (b.add 6) λb=>nP a λa=>bd 4 10 (C4 c (a.add 6) (uQ (IntKind.wrap .u64 (b - 1))) λa=>K tQ a))) (K tQ c))))))))))) (K tQ H1)))
def F174 (K:kQ) (h:A2) (xa xb xc:Option Addr):Prop:=
 (g174 K h (h.push (oQ #[pQ xa,pQ xb,pQ xc] 200)))
theorem call174 {xa xb xc:Option Addr} (H:F174 K h xa xb xc):A5 Tryz.prog 174 #[(.agg #[(pQ xa),(pQ xb),(pQ xc)])] h K:=
 cQ Tryz.func174 H
abbrev g175 (K:kQ) (h H1:A2):Prop:=
 (lP H1 (Addr.add (aQ h.size) 2) λa=>nP a λb=>lI .i64 H1 (b.add 1) λb=>D0 (b == 9) (D1 H1 (aQ h.size) λc=>C2 c λd=>G3 H1 (aQ h.size) λe f g=>nP a λi=>bd 1 10 (lI .u64 H1 (i.add 3) λi=>nP a λj=>cf 253 #[.agg #[e,f,g],uQ i,uQ 0] H1 λe f=>asInt .i64 e λe=>ce f h.size 0 c (cf 147 #[pQ d,iQ e] f λc d=>asInt .u64 c λc=>bd 5 10 (C4 d (j.add 7) (uQ c) λc=>nP a λd=>C4 c (d.add 1) (iQ 10) λc=>K tQ c)))) (D0 (b == 10) (G3 H1 (aQ h.size) λc d e=>G3 H1 (aQ h.size) λf g i=>nP a λj=>bd 0 10 (D1 H1 (j.add 2) λk=>asInt .u64 k λl=>nP a λm=>bd 5 10 (D1 H1 (m.add 7) λn=>asInt .u64 n λo=>cf 253 #[.agg #[f,g,i],uQ 1,uQ 0] H1 λf g=>asInt .i64 f λf=>((A3 g (m.add 7))=(some n))/\(((A3 g (j.add 2))=(some k))/\(ce g h.size 0 c (((A3 g (Addr.add (aQ h.size) 1))=(some d))/\(((A3 g (Addr.add (aQ h.size) 2))=(some e))/\(cf 256 #[uQ o] g λg i=>asInt .u64 g λg=>((A3 i (j.add 2))=(some k))/\(ce i h.size 0 c (((A3 i (Addr.add (aQ h.size) 1))=(some d))/\(((A3 i (Addr.add (aQ h.size) 2))=(some e))/\(cf 254 #[.agg #[c,d,e],iQ f,uQ l,uQ g] i λc d=>asBool c λc=>nP a λc=>C4 d (c.add 1) (iQ 0) λc=>K tQ c)))))))))))) (D0 (b == 11) (G3 H1 (aQ h.size) λc d e=>nP a λf=>bd 1 10 (lI .u64 H1 (f.add 3) λf=>cf 257 #[.agg #[c,d,e],uQ f] H1 λc d=>asBool c λc=>D0 c (G3 d (aQ h.size) λc e f=>nP a λg=>bd 2 10 (lI .u64 d (g.add 4) λg=>((A3 (d.push (oQ #[uQ g] 178)) (aQ h.size))=(some c))/\(((A3 (d.push (oQ #[uQ g] 178)) (Addr.add (aQ h.size) 1))=(some e))/\(((A3 (d.push (oQ #[uQ g] 178)) (Addr.add (aQ h.size) 2))=(some f))/\(cf 247 #[.agg #[c,e,f],iQ 12,iQ 20,lQ (some (aQ d.size)) 1 1] (d.push (oQ #[uQ g] 178)) λc c=>K tQ c))))) (nP a λc=>C4 d (c.add 1) (iQ 13) λc=>K tQ c))) (D0 (b == 12) (G3 H1 (aQ h.size) λb c d=>nP a λa=>bd 1 10 (lI .u64 H1 (a.add 3) λa=>((A3 (H1.push (oQ #[uQ a] 178)) (aQ h.size))=(some b))/\(((A3 (H1.push (oQ #[uQ a] 178)) (Addr.add (aQ h.size) 1))=(some c))/\(((A3 (H1.push (oQ #[uQ a] 178)) (Addr.add (aQ h.size) 2))=(some d))/\(cf 247 #[.agg #[b,c,d],iQ 13,iQ 5,lQ (some (aQ H1.size)) 1 1] (H1.push (oQ #[uQ a] 178)) λa a=>K tQ a))))) (L1 H1 h.size λa b c=>cf 259 #[.agg #[a,b,c]] H1 λa a=>K tQ a)))))
def F175 (K:kQ) (h:A2) (xa xb xc:Option Addr):Prop:=
 (g175 K h (h.push (oQ #[pQ xa,pQ xb,pQ xc] 200)))
theorem call175 {xa xb xc:Option Addr} (H:F175 K h xa xb xc):A5 Tryz.prog 175 #[(.agg #[(pQ xa),(pQ xb),(pQ xc)])] h K:=
 cQ Tryz.func175 H
abbrev g242 (K:kQ) (h H1:A2):Prop:=
 (lP H1 (Addr.add (aQ h.size) 2) λa=>nP a λa=>bd 2 10 (C4 H1 (a.add 4) (uQ 1) λa=>D1 a (Addr.add (aQ h.size) 2) λb=>C2 b λc=>lP a (aQ h.size) λd=>nP c λc=>cf 79 #[pQ d] a λa d=>asAgg a λa=>G0 a 15 (N0 a λa e f g i j k l m n o p q r s=>((A3 d (Addr.add (aQ h.size) 2))=(some b))/\(cf 139 #[.agg #[a,e,f,g,i,j,k,l,m,n,o,p,q,r,s]] d λa d=>asAgg a λa=>G0 a 7 (Nh a λa a a a e e e=>((A3 d (Addr.add (aQ h.size) 2))=(some b))/\(asInt .i64 a λa=>bd 1 10 (C4 d (c.add 3) (uQ (IntKind.wrap .u64 (IntKind.wrap .i64 (a - 1)))) λa=>lP a (Addr.add (aQ h.size) 2) λb=>nP b λb=>C4 a (b.add 1) (iQ 1) λa=>K tQ a)))))))
def F242 (K:kQ) (h:A2) (xa xb xc:Option Addr):Prop:=
 (g242 K h (h.push (oQ #[pQ xa,pQ xb,pQ xc] 250)))
theorem call242 {xa xb xc:Option Addr} (H:F242 K h xa xb xc):A5 Tryz.prog 242 #[(.agg #[(pQ xa),(pQ xb),(pQ xc)])] h K:=
 cQ Tryz.func242 H
abbrev g243 (K:kQ) (h H1:A2):Prop:=
 (lP H1 ⟨h.size,2,none⟩ λa=>nP a λa=>bd 1 10 (lI .u64 H1 (a.add 3) λa=>K (iQ (IntKind.wrap .i64 a)) H1))
def F243 (K:kQ) (h:A2) (xa xb xc:Option Addr):Prop:=
 (g243 K h (h.push (oQ #[pQ xa,pQ xb,pQ xc] 248)))
theorem call243 {xa xb xc:Option Addr} (H:F243 K h xa xb xc):A5 Tryz.prog 243 #[(.agg #[(pQ xa),(pQ xb),(pQ xc)])] h K:=
 cQ Tryz.func243 H
abbrev g244 (K:kQ) (h H1:A2) (xa:Int):Prop:=
 (lP H1 (Addr.add (aQ h.size) 2) λa=>nP a λa=>bd 3 10 (C4 H1 (a.add 5) (uQ xa) λa=>G3 a (aQ h.size) λb c d=>cf 296 #[.agg #[b,c,d]] a λa b=>asInt .u64 a λa=>cf 226 #[uQ a] b λa b=>asBool a λa=>D0 a (lP b (Addr.add (aQ h.size) 2) λa=>nP a λa=>C4 b (a.add 1) (iQ 8) λa=>K tQ a) (G3 b (aQ h.size) λa c d=>cf 296 #[.agg #[a,c,d]] b λa b=>asInt .u64 a λa=>cf 146 #[uQ a] b λa b=>asInt .i64 a λa=>D0 (a == 2) (L1 b h.size λa c d=>cf 297 #[.agg #[a,c,d]] b λa a=>K tQ a) (lP b (Addr.add (aQ h.size) 2) λa=>nP a λa=>C4 b (a.add 1) (iQ 3) λa=>K tQ a))))
def F244 (K:kQ) (h:A2) (xa xb xc:Option Addr) (xd:Int):Prop:=
 (g244 K h (h.push (oQ #[pQ xa,pQ xb,pQ xc] 250)) xd)
theorem call244 {xa xb xc:Option Addr} {xd:Int} (H:F244 K h xa xb xc xd):A5 Tryz.prog 244 #[(.agg #[(pQ xa),(pQ xb),(pQ xc)]),(uQ xd)] h K:=
 cQ Tryz.func244 H
abbrev g245 (K:kQ) (h H1:A2) (xa:Int):Prop:=
 (lP H1 (aQ h.size) λa=>L1 H1 h.size λb c d=>cf 79 #[pQ a] H1 λa e=>asAgg a λa=>G0 a 15 (N0 a λa f g i j k l m n o p q r s t=>ce e h.size 0 b (ce e h.size 1 c (ce e h.size 2 d (cf 243 #[.agg #[b,c,d]] e λb c=>asInt .i64 b λb=>cf 143 #[.agg #[a,f,g,i,j,k,l,m,n,o,p,q,r,s,t],iQ (IntKind.wrap .i64 xa),iQ (IntKind.wrap .i64 (5+b))] c λa b=>asInt .i64 a λa=>K (iQ a) b)))))
def F245 (K:kQ) (h:A2) (xa xb xc:Option Addr) (xd:Int):Prop:=
 (g245 K h (h.push (oQ #[pQ xa,pQ xb,pQ xc] 248)) xd)
theorem call245 {xa xb xc:Option Addr} {xd:Int} (H:F245 K h xa xb xc xd):A5 Tryz.prog 245 #[(.agg #[(pQ xa),(pQ xb),(pQ xc)]),(uQ xd)] h K:=
 cQ Tryz.func245 H
abbrev g246 (K:kQ) (h H1:A2):Prop:=
 (lP H1 (Addr.add (aQ h.size) 2) λa=>G3 H1 (aQ h.size) λb c d=>cf 296 #[.agg #[b,c,d]] H1 λb c=>asInt .u64 b λb=>cf 146 #[uQ b] c λb c=>asInt .i64 b λb=>nP a λd=>lI .i64 c (d.add 1) λd=>D0 (d == 3) (D1 c (aQ h.size) λe=>C2 e λf=>lP c (aQ h.size) λg=>D1 c (Addr.add (aQ h.size) 1) λi=>C2 i λj=>nP j λj=>D1 c j λk=>asInt .i64 k λl=>G3 c (aQ h.size) λm n o=>cf 79 #[pQ g] c λg p=>asAgg g λg=>G0 g 15 (N0 g λg q r s t u v w x y z A B C D=>ce p h.size 0 m (((A3 p (Addr.add (aQ h.size) 1))=(some n))/\(((A3 p (Addr.add (aQ h.size) 2))=(some o))/\(((A3 p j)=(some k))/\(((A3 p (Addr.add (aQ h.size) 1))=(some i))/\(ce p h.size 0 e (cf 243 #[.agg #[m,n,o]] p λm n=>asInt .i64 m λm=>((A3 n j)=(some k))/\(((A3 n (Addr.add (aQ h.size) 1))=(some i))/\(ce n h.size 0 e (cf 232 #[.agg #[g,q,r,s,t,u,v,w,x,y,z,A,B,C,D],iQ l,iQ (IntKind.wrap .i64 ((IntKind.wrap .i64 (2*m))+1))] n λg i=>asInt .i64 g λg=>ce i h.size 0 e (cf 212 #[pQ f,iQ g,uQ (IntKind.wrap .u64 b)] i λe e=>nP a λf=>C4 e (f.add 1) (iQ 4) λe=>K tQ e)))))))))))) (D0 (d == 4) (D1 c (aQ h.size) λe=>C2 e λf=>G3 c (aQ h.size) λg i j=>nP a λk=>bd 2 10 (lI .u64 c (k.add 4) λk=>cf 245 #[.agg #[g,i,j],uQ k] c λg i=>asInt .i64 g λg=>ce i h.size 0 e (cf 147 #[pQ f,iQ g] i λe f=>asInt .u64 e λe=>nP a λg=>bd 3 10 (lI .u64 f (g.add 5) λg=>D0 (e != g) (L1 f h.size λg i j=>cf 244 #[.agg #[g,i,j],uQ e] f λe e=>K tQ e) (nP a λe=>C4 f (e.add 1) (iQ 5) λe=>K tQ e))))) (D0 (d == 5) (D1 c (aQ h.size) λe=>C2 e λf=>G3 c (aQ h.size) λg i j=>nP a λk=>cf 245 #[.agg #[g,i,j],uQ (IntKind.wrap .u64 b)] c λg i=>asInt .i64 g λg=>ce i h.size 0 e (cf 147 #[pQ f,iQ g] i λe f=>asInt .u64 e λe=>bd 4 10 (C4 f (k.add 6) (uQ e) λe=>nP a λf=>C4 e (f.add 1) (iQ 7) λe=>nP a λf=>bd 4 10 (lI .u64 e (f.add 6) λf=>cf 226 #[uQ f] e λe f=>asBool e λe=>D0 e (nP a λe=>C4 f (e.add 1) (iQ 6) λe=>K tQ e) (K tQ f))))) (D0 (d == 6) (G3 c (aQ h.size) λe f g=>nP a λi=>bd 4 10 (D1 c (i.add 6) λj=>asInt .u64 j λk=>cf 296 #[.agg #[e,f,g]] c λe f=>asInt .u64 e λe=>((A3 f (i.add 6))=(some j))/\(cf 146 #[uQ k] f λf g=>asInt .i64 f λf=>cf 228 #[uQ e,iQ f,dQ false] g λe f=>asInt .u64 e λe=>D1 f (aQ h.size) λg=>C2 g λi=>G3 f (aQ h.size) λj k l=>nP a λm=>bd 2 10 (lI .u64 f (m.add 4) λm=>nP a λn=>bd 3 10 (D1 f (n.add 5) λo=>asInt .u64 o λp=>cf 245 #[.agg #[j,k,l],uQ m] f λf j=>asInt .i64 f λf=>((A3 j (n.add 5))=(some o))/\(ce j h.size 0 g (cf 219 #[pQ i,iQ f,uQ p,uQ e] j λf g=>asBool f λf=>D0 (!f) (nP a λf=>C4 g (f.add 1) (iQ 2) λf=>K tQ f) (L1 g h.size λf i j=>cf 244 #[.agg #[f,i,j],uQ e] g λe e=>K tQ e)))))))) (D0 (d == 7) (D1 c (aQ h.size) λd=>C2 d λe=>lP c (aQ h.size) λf=>nP a λg=>bd 0 10 (D1 c (g.add 2) λi=>asInt .u64 i λj=>cf 79 #[pQ f] c λf k=>asAgg f λf=>G0 f 15 (N0 f λf l m n o p q r s t u v w x y=>((A3 k (g.add 2))=(some i))/\(ce k h.size 0 d (cf 143 #[.agg #[f,l,m,n,o,p,q,r,s,t,u,v,w,x,y],iQ (IntKind.wrap .i64 (IntKind.wrap .u64 b)),iQ 0] k λf k=>asInt .i64 f λf=>((A3 k (g.add 2))=(some i))/\(ce k h.size 0 d (cf 147 #[pQ e,iQ f] k λd e=>asInt .u64 d λd=>((A3 e (g.add 2))=(some i))/\(D0 (decide (d >= j)) (L1 e h.size λd f g=>cf 297 #[.agg #[d,f,g]] e λd d=>K tQ d) (nP a λd=>bd 2 10 (C4 e (d.add 4) (uQ (IntKind.wrap .u64 b)) λb=>nP a λa=>C4 b (a.add 1) (iQ 1) λa=>K tQ a)))))))))) (K tQ c))))))
def F246 (K:kQ) (h:A2) (xa xb xc:Option Addr):Prop:=
 (g246 K h (h.push (oQ #[pQ xa,pQ xb,pQ xc] 250)))
theorem call246 {xa xb xc:Option Addr} (H:F246 K h xa xb xc):A5 Tryz.prog 246 #[(.agg #[(pQ xa),(pQ xb),(pQ xc)])] h K:=
 cQ Tryz.func246 H
abbrev g247 (K:kQ) (h H1:A2) (xa xb:Int) (xc:Option Addr) (xd xe:Nat):Prop:=
 (lP H1 ⟨h.size,2,none⟩ λa=>nP a λa=>C4 H1 (a.add 1) (iQ xa) λa=>lP a ⟨h.size,1,none⟩ λb=>cf 130 #[pQ b,iQ xb,lQ xc xd xe] a λa a=>K tQ a)
def F247 (K:kQ) (h:A2) (xa xb xc:Option Addr) (xd xe:Int) (xf:Option Addr) (xg xh:Nat):Prop:=
 (g247 K h (h.push (oQ #[pQ xa,pQ xb,pQ xc] 197)) xd xe xf xg xh)
theorem call247 {xa xb xc:Option Addr} {xd xe:Int} {xf:Option Addr} {xg xh:Nat} (H:F247 K h xa xb xc xd xe xf xg xh):A5 Tryz.prog 247 #[(.agg #[(pQ xa),(pQ xb),(pQ xc)]),(iQ xd),(iQ xe),(lQ xf xg xh)] h K:=
 cQ Tryz.func247 H
abbrev g248 (K:kQ) (h H1:A2) (xa xb xc:Int):Prop:=
 (lP H1 ⟨h.size,2,none⟩ λa=>D1 H1 ⟨h.size,2,none⟩ λb=>C2 b λc=>D1 H1 ⟨h.size,2,none⟩ λd=>C2 d λe=>nP a λa=>bd 7 10 (nP c λc=>nP e λe=>C4 H1 (a.add 9) (uQ xa) λa=>ce a h.size 2 d (ce a h.size 2 b (bd 8 10 (C4 a (c.add 10) (uQ xb) λa=>ce a h.size 2 d (bd 9 10 (C4 a (e.add 11) (uQ xc) λa=>L1 a h.size λb c d=>cf 247 #[.agg #[b,c,d],iQ 90,iQ 4,lQ none 0 0] a λa a=>K tQ a)))))))
def F248 (K:kQ) (h:A2) (xa xb xc:Option Addr) (xd xe xf:Int):Prop:=
 (g248 K h (h.push (oQ #[pQ xa,pQ xb,pQ xc] 197)) xd xe xf)
theorem call248 {xa xb xc:Option Addr} {xd xe xf:Int} (H:F248 K h xa xb xc xd xe xf):A5 Tryz.prog 248 #[(.agg #[(pQ xa),(pQ xb),(pQ xc)]),(uQ xd),(uQ xe),(uQ xf)] h K:=
 cQ Tryz.func248 H
abbrev g251 (K:kQ) (h H1:A2) (xa xb:Int):Prop:=
 (lP H1 (aQ h.size) λa=>cf 79 #[pQ a] H1 λa b=>asAgg a λa=>G0 a 15 (N0 a λa c d e f g i j k l m n o p q=>cf 143 #[.agg #[a,c,d,e,f,g,i,j,k,l,m,n,o,p,q],iQ (IntKind.wrap .i64 xa),iQ xb] b λa b=>asInt .i64 a λa=>K (iQ a) b))
def F251 (K:kQ) (h:A2) (xa xb xc:Option Addr) (xd xe:Int):Prop:=
 (g251 K h (h.push (oQ #[pQ xa,pQ xb,pQ xc] 197)) xd xe)
theorem call251 {xa xb xc:Option Addr} {xd xe:Int} (H:F251 K h xa xb xc xd xe):A5 Tryz.prog 251 #[(.agg #[(pQ xa),(pQ xb),(pQ xc)]),(uQ xd),(iQ xe)] h K:=
 cQ Tryz.func251 H
abbrev g253 (K:kQ) (h H1:A2) (xa xb:Int):Prop:=
 (L1 H1 h.size λa b c=>cf 251 #[.agg #[a,b,c],uQ xa,iQ (IntKind.wrap .i64 (5+(IntKind.wrap .i64 xb)))] H1 λa b=>asInt .i64 a λa=>K (iQ a) b)
def F253 (K:kQ) (h:A2) (xa xb xc:Option Addr) (xd xe:Int):Prop:=
 (g253 K h (h.push (oQ #[pQ xa,pQ xb,pQ xc] 197)) xd xe)
theorem call253 {xa xb xc:Option Addr} {xd xe:Int} (H:F253 K h xa xb xc xd xe):A5 Tryz.prog 253 #[(.agg #[(pQ xa),(pQ xb),(pQ xc)]),(uQ xd),(uQ xe)] h K:=
 cQ Tryz.func253 H
abbrev g254 (K:kQ) (h H1:A2) (xa xb xc:Int):Prop:=
 (D1 H1 (aQ h.size) λa=>C2 a λb=>cf 228 #[uQ xb,iQ (IntKind.wrap .i64 xc),dQ false] H1 λc d=>asInt .u64 c λc=>ce d h.size 0 a (cf 219 #[pQ b,iQ xa,uQ xb,uQ c] d λa b=>asBool a λa=>K (dQ a) b))
def F254 (K:kQ) (h:A2) (xa xb xc:Option Addr) (xd xe xf:Int):Prop:=
 (g254 K h (h.push (oQ #[pQ xa,pQ xb,pQ xc] 197)) xd xe xf)
theorem call254 {xa xb xc:Option Addr} {xd xe xf:Int} (H:F254 K h xa xb xc xd xe xf):A5 Tryz.prog 254 #[(.agg #[(pQ xa),(pQ xb),(pQ xc)]),(iQ xd),(uQ xe),(uQ xf)] h K:=
 cQ Tryz.func254 H
def F255 (K:kQ) (h:A2) (xa:Int):Prop:=
 (cf 226 #[uQ xa] h λa b=>asBool a λa=>K (dQ a) b)
theorem call255 {xa:Int} (H:F255 K h xa):A5 Tryz.prog 255 #[(uQ xa)] h K:=
 cQ Tryz.func255 H
def F256 (K:kQ) (h:A2) (xa:Int):Prop:=
 (cf 146 #[uQ xa] h λa b=>asInt .i64 a λa=>K (uQ (IntKind.wrap .u64 a)) b)
theorem call256 {xa:Int} (H:F256 K h xa):A5 Tryz.prog 256 #[(uQ xa)] h K:=
 cQ Tryz.func256 H
abbrev g257 (K:kQ) (h H1:A2) (xa:Int):Prop:=
 (D1 H1 (aQ h.size) λa=>C2 a λb=>L1 H1 h.size λc d e=>cf 251 #[.agg #[c,d,e],uQ xa,iQ 2] H1 λc d=>asInt .i64 c λc=>ce d h.size 0 a (cf 188 #[pQ b,iQ c,uQ 18446744073709551615] d λa b=>asInt .u64 a λa=>K (dQ (a == 1)) b))
def F257 (K:kQ) (h:A2) (xa xb xc:Option Addr) (xd:Int):Prop:=
 (g257 K h (h.push (oQ #[pQ xa,pQ xb,pQ xc] 197)) xd)
theorem call257 {xa xb xc:Option Addr} {xd:Int} (H:F257 K h xa xb xc xd):A5 Tryz.prog 257 #[(.agg #[(pQ xa),(pQ xb),(pQ xc)]),(uQ xd)] h K:=
 cQ Tryz.func257 H
abbrev g259 (K:kQ) (h H1:A2):Prop:=
 (G3 H1 (aQ h.size) λa b c=>lP H1 (Addr.add (aQ h.size) 2) λd=>nP d λd=>bd 2 10 (lI .u64 H1 (d.add 4) λd=>D1 H1 (Addr.add (aQ h.size) 2) λe=>C2 e λf=>nP f λf=>bd 3 10 (D1 H1 (f.add 5) λg=>asInt .u64 g λi=>cf 274 #[uQ d] H1 λd j=>asInt .u32 d λd=>((A3 j (f.add 5))=(some g))/\(((A3 j (Addr.add (aQ h.size) 2))=(some e))/\(ce j h.size 0 a (((A3 j (Addr.add (aQ h.size) 1))=(some b))/\(((A3 j (Addr.add (aQ h.size) 2))=(some c))/\(cf 298 #[uQ i] j λe f=>asInt .u32 e λe=>ce f h.size 0 a (((A3 f (Addr.add (aQ h.size) 1))=(some b))/\(((A3 f (Addr.add (aQ h.size) 2))=(some c))/\(cf 248 #[.agg #[a,b,c],uQ 2,uQ (IntKind.wrap .u64 d),uQ (IntKind.wrap .u64 e)] f λa a=>K tQ a)))))))))))
def F259 (K:kQ) (h:A2) (xa xb xc:Option Addr):Prop:=
 (g259 K h (h.push (oQ #[pQ xa,pQ xb,pQ xc] 200)))
theorem call259 {xa xb xc:Option Addr} (H:F259 K h xa xb xc):A5 Tryz.prog 259 #[(.agg #[(pQ xa),(pQ xb),(pQ xc)])] h K:=
 cQ Tryz.func259 H
abbrev g296 (K:kQ) (h H1:A2):Prop:=
 (lP H1 ⟨h.size,2,none⟩ λa=>nP a λa=>bd 3 10 (lI .u64 H1 (a.add 5) λa=>K (uQ a) H1))
def F296 (K:kQ) (h:A2) (xa xb xc:Option Addr):Prop:=
 (g296 K h (h.push (oQ #[pQ xa,pQ xb,pQ xc] 248)))
theorem call296 {xa xb xc:Option Addr} (H:F296 K h xa xb xc):A5 Tryz.prog 296 #[(.agg #[(pQ xa),(pQ xb),(pQ xc)])] h K:=
 cQ Tryz.func296 H
abbrev g297 (K:kQ) (h H1:A2):Prop:=
 (D1 H1 (Addr.add (aQ h.size) 2) λa=>C2 a λb=>G3 H1 (aQ h.size) λc d e=>cf 243 #[.agg #[c,d,e]] H1 λc d=>asInt .i64 c λc=>((A3 d (Addr.add (aQ h.size) 2))=(some a))/\(D1 d (Addr.add (aQ h.size) 1) λa=>C2 a λe=>nP e λe=>D1 d (e.add 5) λf=>C8 f λg i j=>D1 d (Addr.add (aQ h.size) 1) λj=>C2 j λk=>nP k λk=>D1 d (k.add 7) λl=>C8 l λm n o=>D1 d (Addr.add (aQ h.size) 1) λo=>C2 o λp=>nP p λp=>D1 d (p.add 6) λq=>C8 q λr s t=>nP b λt=>bd 2 10 (D1 d (t.add 4) λu=>asInt .u64 u λv=>nP b λw=>bd 3 10 (D1 d (w.add 5) λx=>asInt .u64 x λy=>G3 d (aQ h.size) λz A B=>cf 296 #[.agg #[z,A,B]] d λd z=>asInt .u64 d λd=>((A3 z (w.add 5))=(some x))/\(((A3 z (t.add 4))=(some u))/\(((A3 z (p.add 6))=(some q))/\(((A3 z (Addr.add (aQ h.size) 1))=(some o))/\(((A3 z (k.add 7))=(some l))/\(((A3 z (Addr.add (aQ h.size) 1))=(some j))/\(((A3 z (e.add 5))=(some f))/\(((A3 z (Addr.add (aQ h.size) 1))=(some a))/\(cf 146 #[uQ d] z λd z=>asInt .i64 d λd=>((A3 z (w.add 5))=(some x))/\(((A3 z (t.add 4))=(some u))/\(((A3 z (p.add 6))=(some q))/\(((A3 z (Addr.add (aQ h.size) 1))=(some o))/\(((A3 z (k.add 7))=(some l))/\(((A3 z (Addr.add (aQ h.size) 1))=(some j))/\(((A3 z (e.add 5))=(some f))/\(((A3 z (Addr.add (aQ h.size) 1))=(some a))/\(bd c (i:Int) (E5 (pQ g) λa=>C4 z (a.add (c.toNat*1)) (uQ v) λa=>bd c (n:Int) (E5 (pQ m) λe=>C4 a (e.add (c.toNat*1)) (uQ y) λa=>bd c (s:Int) (E5 (pQ r) λe=>C4 a (e.add (c.toNat*1)) (uQ (IntKind.wrap .u64 d)) λa=>D0 (c == 0) (lP a (Addr.add (aQ h.size) 1) λc=>cf 106 #[pQ c,lQ none 0 0] a λc c=>K tQ c) (nP b λc=>bd 1 10 (lI .u64 a (c.add 3) λc=>nP b λd=>bd 1 10 (C4 a (d.add 3) (uQ (IntKind.wrap .u64 (c - 1))) λa=>nP b λb=>C4 a (b.add 1) (iQ 1) λa=>K tQ a))))))))))))))))))))))))))
def F297 (K:kQ) (h:A2) (xa xb xc:Option Addr):Prop:=
 (g297 K h (h.push (oQ #[pQ xa,pQ xb,pQ xc] 250)))
theorem call297 {xa xb xc:Option Addr} (H:F297 K h xa xb xc):A5 Tryz.prog 297 #[(.agg #[(pQ xa),(pQ xb),(pQ xc)])] h K:=
 cQ Tryz.func297 H
end
section
open Mod
def Thr.setPl (t:Thr) (p s w:List Int):Thr:={ t with pred:=p,succ:=s,word:=w }
theorem ZP {h:A2} {T:Nat} {fo:Option (Nat × Nat)} {t:Thr} {id:Int} {R:Hp} (H:A7 h (M1 T fo t id*R)):∃pb sb wb,∃Q:Hp,
  (∀h' P,A7 h' (Q*P)->A3 h' ⟨T,5,none⟩=some (lQ (some (aQ pb)) t.pred.length t.pred.length)/\A3 h' ⟨T,6,none⟩=some (lQ (some (aQ sb)) t.succ.length t.succ.length)/\A3 h' ⟨T,7,none⟩=some (lQ (some (aQ wb)) t.word.length t.word.length)) /\
  A7 h (pt pb (oQ (U8 t.pred).toArray 178)*(pt sb (oQ (U8 t.succ).toArray 178)*(pt wb (oQ (U8 t.word).toArray 178)*(Q*R)))) /\
  ∀R' h' p s w,p.length=t.pred.length->s.length=t.succ.length->w.length=t.word.length->(∀v ∈ p,U v)->(∀v ∈ s,U v)->(∀v ∈ w,U v) ->
   A7 h' (pt pb (oQ (U8 p).toArray 178)*(pt sb (oQ (U8 s).toArray 178)*(pt wb (oQ (U8 w).toArray 178)*(Q*R'))))->A7 h' (M1 T fo (Thr.setPl t p s w) id*R'):=by
 obtain ⟨B,x,H0⟩:=J4.1 H
 refine ⟨B.pred,B.succ,B.word,pt T (oQ (Db B t id).toArray 183)*(F3 190 12 B.fr t.fr.length B.frn (t.fr.flatMap CD)*(F3 3 1 B.re t.retired.length B.ren (t.retired.map iv)*CZ B.fo t.found.length B.fon t.found)),λh' P HQ=>?_,A7.ac H0 (by ac_rfl),?_⟩
 ·have O:=A7.at (E7 _ _ _ ▸ HQ)
  exact ⟨E9 O rfl,E9 O rfl,E9 O rfl⟩
 ·intro R' h' p s w hp hs hw up us uw H1
  obtain ⟨b1,b2,b3,b4,b5,b6,b7,b8⟩:=x.1
  refine J4.2 ⟨B,⟨⟨b1,b2,up,us,uw,b6,b7,b8⟩,x.2⟩,?_⟩
  unfold Thr.setPl Db
  simp only [hp,hs,hw]
  exact A7.ac H1 (by ac_rfl)
section
variable {K:kQ} {h:A2} {M T b o N:Nat} {tv:Value} {fo:Option (Nat × Nat)} {x:A9} {R:Hp}
theorem Pg (H:A7 h (A1 M T tv fo x R)):∃pb sb wb,∃Q:Hp,
  (∀h' P,A7 h' (Q*P)->A3 h' ⟨T,5,none⟩=some (lQ (some (aQ pb)) x.t.pred.length x.t.pred.length)/\A3 h' ⟨T,6,none⟩=some (lQ (some (aQ sb)) x.t.succ.length x.t.succ.length)/\A3 h' ⟨T,7,none⟩=some (lQ (some (aQ wb)) x.t.word.length x.t.word.length)) /\
  A7 h (pt pb (oQ (U8 x.t.pred).toArray 178)*(pt sb (oQ (U8 x.t.succ).toArray 178)*(pt wb (oQ (U8 x.t.word).toArray 178)*(Q*(M3 M tv x.m*R))))) /\
  ∀h' p s w,p.length=x.t.pred.length->s.length=x.t.succ.length->w.length=x.t.word.length->(∀v ∈ p,U v)->(∀v ∈ s,U v)->(∀v ∈ w,U v) ->
   A7 h' (pt pb (oQ (U8 p).toArray 178)*(pt sb (oQ (U8 s).toArray 178)*(pt wb (oQ (U8 w).toArray 178)*(Q*(M3 M tv x.m*R)))))->A7 h' (A1 M T tv fo (x.setPl p s w) R):=by
 obtain ⟨pb,sb,wb,Q,h1,h2,h3⟩:=ZP (A1.thr H)
 exact ⟨pb,sb,wb,Q,h1,h2,λh' p s w a1 a2 a3 a4 a5 a6 H1=>A1.ofThr (h3 _ h' p s w a1 a2 a3 a4 a5 a6 H1)⟩
theorem Sr7 {h:A2} {B:Nat} {l:List Int} {t:TypeId} (e:h[B]? = some (oQ (U8 l).toArray t)) {i:Int} (h0:0<=i) (h1:i < l.length):A3 h ⟨B,i.toNat,none⟩=some (uQ (l.getD i.toNat 0)):=Sp7 e h0 h1
theorem GI (H:A7 h (A1 M T tv (some (b,o)) x R)) (k:∀h',G4 h.size h h'->K (iQ (F5 (x.f.g 1))) h') :
  A5 Tryz.prog 243 #[rV M T b o] h K:=by
 refine call243 ?_
 unfold F243 g243 bd lP lI nP
 have oo:G4 h.size h (h.push (oQ #[mP M,mP T,fP b o] 248)):=(G4.refl _ _).push _ (Nat.le_refl _)
 have H1:=A1.new H (oQ #[mP M,mP T,fP b o] 248);generalize h.push (oQ #[mP M,mP T,fP b o] 248)=h1 at *;generalize h.size=N at *
 refine ss H1 ?_
 exact k h1 oo
theorem Dy (H:A7 h (A1 M T tv (some (b,o)) x R)) (k:∀h',G4 h.size h h'->K (uQ (x.f.g 3)) h') :
  A5 Tryz.prog 296 #[rV M T b o] h K:=by
 refine call296 ?_
 unfold F296 g296 bd lP lI nP
 have oo:G4 h.size h (h.push (oQ #[mP M,mP T,fP b o] 248)):=(G4.refl _ _).push _ (Nat.le_refl _)
 have H1:=A1.new H (oQ #[mP M,mP T,fP b o] 248);generalize h.push (oQ #[mP M,mP T,fP b o] 248)=h1 at *;generalize h.size=N at *
 refine ss H1 ?_
 exact k h1 oo
theorem Fg (H:A7 h (A1 M T tv (some (b,o)) x R)) {n:Int} (hr:0<=F5 (x.f.g 1)/\F5 (x.f.g 1) < 1000) (k:∀h',G4 h.size h h'->K (iQ (x.nlink n (x.f.g 1))) h') :
  A5 Tryz.prog 245 #[rV M T b o,uQ n] h K:=by
 refine call245 ?_
 unfold F245 g245 cf ce lP N0 L1
 have oo:G4 h.size h (h.push (oQ #[mP M,mP T,fP b o] 248)):=(G4.refl _ _).push _ (Nat.le_refl _)
 have P:=A1.pl H
 have s1:=oo.1
 have H1:=A1.new H (oQ #[mP M,mP T,fP b o] 248);generalize h.push (oQ #[mP M,mP T,fP b o] 248)=h1 at *;generalize h.size=N at *
 refine ss H1 ?_
 refine A0 (AX H1 λh2 o2=>AZ ?_)
 have H2:=A1.old H1 o2
 refine ss H2 ?_
 refine A0 (GI H2 λh3 o3=>?_)
 refine sb ?_
 rw [show F5 (5+F5 (x.f.g 1))=5+F5 (x.f.g 1) from by rw [<- FT,D8 (by omega) (by omega)]]
 refine A0 (N5 P (S5 _) ⟨by omega,by omega⟩ λh4 o4=>?_)
 refine sb ?_
 exact k h4 (oo.trans (((o2.trans (o3.mono o2.1)).trans (o4.mono (Nat.le_trans o2.1 o3.1))).mono s1))
structure EN (x:A9) (r:Int):Prop where
 r:0<=F5 r/\F5 r < x.t.pred.length
 e1:x.t.succ.length=x.t.pred.length
 e2:x.t.word.length=x.t.pred.length
 e3:x.t.pred.length<=6
theorem Io (H:A7 h (A1 M T tv (some (b,o)) x R)) (hr:EN x (x.f.g 1)) (k:∀h',A7 h' (A1 M T tv none (X1 x) R)->K tQ h') :
  A5 Tryz.prog 297 #[rV M T b o] h K:=by
 refine call297 ?_
 unfold F297 g297 cf bd lP lI nP G3
 have B:=A1.fB H
 have TB:=A1.B H
 obtain ⟨⟨r0,r1⟩,e1,e2,e3⟩:=hr
 unfold X1 at k
 dsimp only at k
 have H1:=A1.new H (oQ #[mP M,mP T,fP b o] 250);generalize h.push (oQ #[mP M,mP T,fP b o] 250)=h1 at *;generalize h.size=N at *
 refine ss H1 ?_
 refine A0 (GI H1 λh2 o2=>?_)
 have H2:=A1.old H1 o2
 obtain ⟨pb,sb,wb,Q,hQ,HR,re⟩:=Pg H2
 obtain ⟨c5,c6,c7⟩:=hQ h2 _ HR.drop.drop.drop
 have d5:∀F:Value->Prop,D1 h2 ⟨T,5,none⟩ F=F (lQ (some (aQ pb)) x.t.pred.length x.t.pred.length):=λF=>by unfold D1;rw [c5]
 have d6:∀F:Value->Prop,D1 h2 ⟨T,6,none⟩ F=F (lQ (some (aQ sb)) x.t.succ.length x.t.succ.length):=λF=>by unfold D1;rw [c6]
 have d7:∀F:Value->Prop,D1 h2 ⟨T,7,none⟩ F=F (lQ (some (aQ wb)) x.t.word.length x.t.word.length):=λF=>by unfold D1;rw [c7]
 try simp +decide only [B4,F2,Nat.reduceAdd,Int.reduceLE,Int.reduceLT,Int.reduceToNat,J0,G5,B0,A1.al H2,d5,d6,d7]
 refine A0 (Dy H2 λh3 o3=>?_)
 have H3:=A1.old H2 o3
 have HR3:=HR.old o3
 obtain ⟨c5,c6,c7⟩:=hQ h3 _ HR3.drop.drop.drop
 try simp +decide only [B4,F2,Nat.reduceAdd,Int.reduceLE,Int.reduceLT,Int.reduceToNat,J0,G5,B0,A1.al H3,c5,c6,c7]
 refine A0 (M7 (B.g 3) ?_)
 try simp +decide only [B4,F2,Nat.reduceAdd,Int.reduceLE,Int.reduceLT,Int.reduceToNat,J0,G5,B0,A1.al H3,c5,c6,c7]
 refine ⟨r0,by omega,?_⟩
 have hu:∀l:List Int,(U8 l).length=l.length:=Kq
 have us:∀(l:List Int) (i:Nat) (v:Int),(U8 l).set i (uQ v)=U8 (l.set i v):=λl i v=>by unfold U8;rw [List.map_set]
 refine CK HR3 (by rw [hu];omega) trivial λh4 H4=>?_
 refine ⟨r0,by omega,?_⟩
 rw [Hr,us] at H4
 refine CK H4 (by rw [hu];omega) trivial λh5 H5=>?_
 refine ⟨r0,by omega,?_⟩
 rw [<- Hr,us,D4] at H5
 refine CK H5 (by rw [hu];omega) trivial λh6 H6=>?_
 rw [D4,us] at H6
 have H7:=re h6 _ _ _ (by simp) (by simp) (by simp) (Z2 TB.pr (B.g 2)) (Z2 TB.su (T9 _)) (Z2 TB.wo (B.g 3)) H6
 refine ss H7 ?_
 refine A4 (λc=>?_) (λc=>?_)
 ·have c':(F5 (x.f.g 1)).toNat=0:=by omega
  rw [if_pos c'] at k
  exact A0 (Mx H7 Z9.none (by omega) λh8 H8=>k h8 (A1.drp H8))
 ·have c':¬ (F5 (x.f.g 1)).toNat=0:=by omega
  rw [if_neg c'] at k
  have ef:(x.setPl (x.t.pred.set (F5 (x.f.g 1)).toNat (x.f.g 2)) (x.t.succ.set (F5 (x.f.g 1)).toNat (J2 (x.f.g 3))) (x.t.word.set (F5 (x.f.g 1)).toNat (x.f.g 3))).f=x.f:=rfl
  try simp only [B4,F2,Nat.reduceAdd,Int.reduceLE,Int.reduceLT,Int.reduceToNat,ef]
  exact A1.stR (i:=1) H7 rfl (R7 _) λh8 H8=>A1.stP H8 λh9 H9=>k h9 (A1.drp (A1.none H9))
end
end
section
open Mod
theorem Fh {n:Int} (h0:0<=n) (h1:n < 1000):F5 n=n:=by unfold F5;omega
section
variable {K:kQ} {h:A2} {M T b o N:Nat} {tv:Value} {fo:Option (Nat × Nat)} {x:A9} {R:Hp}
theorem EN.same {y:A9} {r:Int} (H:EN x r) (e:y.t.pred=x.t.pred/\y.t.succ=x.t.succ/\y.t.word=x.t.word):EN y r:=by
 obtain ⟨h1,h2,h3,h4⟩:=H
 exact ⟨by rw [e.1];exact h1,by rw [e.1,e.2.1];exact h2,by rw [e.1,e.2.2];exact h3,by rw [e.1];exact h4⟩
theorem Gi (H:A7 h (A1 M T tv (some (b,o)) x R)) {w:Int} (hw:U w) (hr:EN x (x.f.g 1)) (k:∀h',A7 h' (A1 M T tv none (Ce x w) R)->K tQ h') :
  A5 Tryz.prog 244 #[rV M T b o,uQ w] h K:=by
 refine call244 ?_
 unfold F244 g244 cf bd lP nP G3 L1
 have B:=A1.fB H
 unfold Ce at k
 dsimp only at k
 have H1:=A1.new H (oQ #[mP M,mP T,fP b o] 250);generalize h.push (oQ #[mP M,mP T,fP b o] 250)=h1 at *;generalize h.size=N at *
 refine ss H1 ?_
 refine A1.stR (i:=3) H1 rfl hw λh2 H2=>?_
 refine ss H2 ?_
 refine A0 (Dy H2 λh3 o3=>?_)
 have H3:=A1.old H2 o3
 try simp +decide only [B4,F2,Nat.reduceAdd,Int.reduceLE,Int.reduceLT,Int.reduceToNat,J0,G5,B0,A1.al H3,B.len]
 refine A0 (V3 hw ?_)
 refine ss H3 ?_
 refine C7 (λc=>?_) (λc=>?_)
 ·rw [if_pos c] at k
  exact A1.stP H3 λh4 H4=>k h4 (A1.drp (A1.none H4))
 rw [if_neg (by rw [c];simp)] at k
 refine A0 (Dy H3 λh4 o4=>?_)
 have H4:=A1.old H3 o4
 try simp +decide only [B4,F2,Nat.reduceAdd,Int.reduceLE,Int.reduceLT,Int.reduceToNat,J0,G5,B0,A1.al H4,B.len]
 refine A0 (M7 hw ?_)
 refine ss H4 ?_
 refine A4 (λc=>?_) (λc=>?_)
 ·rw [if_pos c] at k
  have hr2:EN (x.s 3 w) ((x.s 3 w).f.g 1):=by
   rw [CM,B0 _ (by decide)]
   exact hr.same ⟨rfl,rfl,rfl⟩
  exact A0 (Io H4 hr2 λh5 H5=>k h5 (A1.drp H5))
 ·rw [if_neg c] at k
  exact A1.stP H4 λh5 H5=>k h5 (A1.drp (A1.none H5))
theorem RT (H:A7 h (A1 M T tv (some (b,o)) x R)) (k:∀h',A7 h' (A1 M T tv none (((x.s 2 1).s 1 (u64 (x.m.p.c.level - 1))).pc 1) R)->K tQ h') :
  A5 Tryz.prog 242 #[rV M T b o] h K:=by
 refine call242 ?_
 unfold F242 g242 cf bd lP nP Nh N0
 have P:=A1.pl H
 have H1:=A1.new H (oQ #[mP M,mP T,fP b o] 250);generalize h.push (oQ #[mP M,mP T,fP b o] 250)=h1 at *;generalize h.size=N at *
 refine ss H1 ?_
 refine A1.stR (i:=2) H1 rfl (U.lit rfl) λh2 H2=>?_
 refine ss H2 ?_
 refine A0 (Ef H2 λh3 H3=>AZ ?_)
 refine ss H3 ?_
 refine A0 (U9 λh4 o4=>cf7 ?_)
 have H4:=A1.old H3 o4
 refine ss H4 ?_
 refine A1.stR (i:=1) H4 rfl (R7 _) λh5 H5=>?_
 refine ss H5 ?_
 exact A1.stP H5 λh6 H6=>k h6 (A1.drp (A1.none H6))
theorem VJ (H:A7 h (A1 M T tv (some (b,o)) x R)) (O:Ok x) (hr:EN x (x.f.g 1)) (k:∀h',A7 h' (A1 M T tv none (Ea x) R)->K tQ h') :
  A5 Tryz.prog 246 #[rV M T b o] h K:=by
 refine call246 ?_
 unfold F246 g246 cf ce bd lP lI nP G3 N0 L1
 have B:=A1.fB H
 have P:=A1.pl H
 have hrr:0<=F5 (x.f.g 1)/\F5 (x.f.g 1) < 1000:=⟨hr.r.1,by have:=hr.r.2;have:=hr.e3;omega⟩
 have hr6:F5 (x.f.g 1) < 6:=by have:=hr.r.2;have:=hr.e3;omega
 unfold Ea at k
 dsimp only at k
 have H1:=A1.new H (oQ #[mP M,mP T,fP b o] 250);generalize h.push (oQ #[mP M,mP T,fP b o] 250)=h1 at *;generalize h.size=N at *
 refine ss H1 ?_
 refine A0 (Dy H1 λh2 o2=>?_)
 have H2:=A1.old H1 o2
 refine ss H2 ?_
 refine A0 (M7 (B.g 3) ?_)
 refine ss H2 ?_
 refine A4 (λc=>?_) (λc=>?_)
 ·rw [if_pos c] at k
  refine A0 (AX H2 λh3 o3=>AZ ?_)
  have H3:=A1.old H2 o3
  refine ss H3 ?_
  refine A0 (GI H3 λh4 o4=>?_)
  have H4:=A1.old H3 o4
  refine ss H4 ?_
  rw [Fh (n:=2*F5 (x.f.g 1)) (by omega) (by omega),Fh (n:=2*F5 (x.f.g 1)+1) (by omega) (by omega)]
  refine A0 (Bt P O.id ⟨by omega,by omega⟩ λh5 o5=>?_)
  have H5:=A1.old H4 o5
  refine ss H5 ?_
  refine A0 (T8 H5 (Ga P _ _) (T9 _) O.st λh6 H6=>?_)
  exact A1.stP H6 λh7 H7=>k h7 (A1.drp (A1.none H7))
 rw [if_neg c] at k
 refine A4 (λc=>?_) (λc=>?_)
 ·rw [if_pos c] at k
  refine A0 (Fg H2 hrr λh3 o3=>?_)
  have H3:=A1.old H2 o3
  refine ss H3 ?_
  refine A0 (M0 H3 (E8 P _ _) O.st λh4 H4 u4=>?_)
  refine ss H4 ?_
  refine C7 (λc2=>?_) (λc2=>?_)
  ·rw [if_pos (by simpa using c2)] at k
   exact A0 (Gi H4 u4 (hr.same ⟨rfl,rfl,rfl⟩) λh5 H5=>k h5 (A1.drp H5))
  ·rw [if_neg (by simpa using c2)] at k
   exact A1.stP H4 λh5 H5=>k h5 (A1.drp (A1.none H5))
 rw [if_neg c] at k
 refine A4 (λc=>?_) (λc=>?_)
 ·rw [if_pos c] at k
  refine A0 (Fg H2 hrr λh3 o3=>?_)
  have H3:=A1.old H2 o3
  refine ss H3 ?_
  refine A0 (M0 H3 (E8 P _ _) O.st λh4 H4 u4=>?_)
  refine ss H4 ?_
  refine A1.stR (i:=4) H4 rfl u4 λh5 H5=>A1.stP H5 λh6 H6=>?_
  try simp +decide only [B4,F2,Nat.reduceAdd,Int.reduceLE,Int.reduceLT,Int.reduceToNat,J0,G5,B0,A1.al H6,B.len]
  refine A0 (V3 u4 ?_)
  refine ss H6 ?_
  refine C7 (λc2=>?_) (λc2=>?_)
  ·rw [if_pos c2] at k
   exact A1.stP H6 λh7 H7=>k h7 (A1.drp (A1.none H7))
  ·rw [if_neg (by rw [c2];simp)] at k
   exact k h6 (A1.drp (A1.none H6))
 rw [if_neg c] at k
 refine A4 (λc=>?_) (λc=>?_)
 ·rw [if_pos c] at k
  refine A0 (Dy H2 λh3 o3=>?_)
  have H3:=A1.old H2 o3
  refine ss H3 ?_
  refine A0 (M7 (B.g 4) ?_)
  refine ss H3 ?_
  refine A0 (T7 (B.g 3) ?_)
  refine ss H3 ?_
  refine A0 (Fg H3 hrr λh4 o4=>?_)
  have H4:=A1.old H3 o4
  refine ss H4 ?_
  refine A0 (Rt H4 (E8 P _ _) AL O.st λh5 H5=>?_)
  refine ss H5 ?_
  refine C7 (λc2=>?_) (λc2=>?_)
  ·rw [if_neg (by simpa using c2)] at k
   exact A1.stP H5 λh6 H6=>k h6 (A1.drp (A1.none H6))
  ·rw [if_pos (by simpa using c2)] at k
   exact A0 (Gi H5 AL (hr.same ⟨rfl,rfl,rfl⟩) λh6 H6=>k h6 (A1.drp H6))
 rw [if_neg c] at k
 refine A4 (λc=>?_) (λc=>?_)
 ·rw [if_pos c] at k
  refine A0 (AX H2 λh3 o3=>AZ ?_)
  have H3:=A1.old H2 o3
  refine ss H3 ?_
  have es:F5 (J2 (x.f.g 3))=J2 (x.f.g 3):=by have:=FZ (x.f.g 3);unfold F5;omega
  try rw [es]
  refine A0 (N5 P (Kr _) (by decide) λh4 o4=>?_)
  have H4:=A1.old H3 o4
  refine ss H4 ?_
  refine A0 (M0 H4 (E8 P _ _) O.st λh5 H5 u5=>?_)
  refine ss H5 ?_
  refine A4 (λc2=>?_) (λc2=>?_)
  ·rw [if_pos c2] at k
   exact A0 (Io H5 (hr.same ⟨rfl,rfl,rfl⟩) λh6 H6=>k h6 (A1.drp H6))
  ·rw [if_neg c2] at k
   exact A1.stR (i:=2) H5 rfl (T9 _) λh6 H6=>A1.stP H6 λh7 H7=>k h7 (A1.drp (A1.none H7))
 rw [if_neg c] at k
 exact k h2 (A1.drp (A1.none H2))
theorem VK (H:A7 h (A1 M T tv (some (b,o)) x R)) (O:Ok x) (hr:x.f.pc≠0->EN x (x.f.g 1)) (k:∀h',A7 h' (A1 M T tv none (Eb x) R)->K tQ h') :
  A5 Tryz.prog 166 #[rV M T b o] h K:=by
 refine call166 ?_
 unfold F166 g166 cf bd lP lI nP G3 dc3 N0 L1 ce
 have B:=A1.fB H
 have P:=A1.pl H
 unfold Eb at k
 dsimp only at k
 have H1:=A1.new H (oQ #[mP M,mP T,fP b o] 250);generalize h.push (oQ #[mP M,mP T,fP b o] 250)=h1 at *;generalize h.size=N at *
 refine ss H1 ?_
 refine A4 (λc=>?_) (λc=>?_)
 ·rw [if_pos c] at k
  exact A0 (RT H1 λh2 H2=>k h2 (A1.drp H2))
 rw [if_neg c] at k
 have hr:=hr c
 have hrr:0<=F5 (x.f.g 1)/\F5 (x.f.g 1) < 1000:=⟨hr.r.1,by have:=hr.r.2;have:=hr.e3;omega⟩
 have hr6:F5 (x.f.g 1) < 6:=by have:=hr.r.2;have:=hr.e3;omega
 refine A4 (λc=>?_) (λc=>?_)
 ·rw [if_pos c] at k
  refine A0 (AX H1 λh3 o3=>AZ ?_)
  have H3:=A1.old H1 o3
  refine ss H3 ?_
  refine A0 (GI H3 λh4 o4=>?_)
  have H4:=A1.old H3 o4
  refine ss H4 ?_
  rw [Fh (n:=2*F5 (x.f.g 1)) (by omega) (by omega)]
  refine A0 (Bt P O.id ⟨by omega,by omega⟩ λh5 o5=>?_)
  have H5:=A1.old H4 o5
  refine ss H5 ?_
  refine A0 (T8 H5 (Ga P _ _) (B.g 2) O.st λh6 H6=>?_)
  exact A1.stP H6 λh7 H7=>k h7 (A1.drp (A1.none H7))
 rw [if_neg c] at k
 refine A4 (λc=>?_) (λc=>?_)
 ·rw [if_pos c] at k
  refine A0 (Fg H1 hrr λh3 o3=>?_)
  have H3:=A1.old H1 o3
  refine ss H3 ?_
  refine A0 (M0 H3 (E8 P _ _) O.st λh4 H4 u4=>?_)
  refine ss H4 ?_
  exact A0 (Gi H4 u4 (hr.same ⟨rfl,rfl,rfl⟩) λh5 H5=>k h5 (A1.drp H5))
 rw [if_neg c] at k
 refine A4 (λc=>?_) (λc=>?_)
 ·rw [if_pos c] at k
  refine A0 (AX H1 λh3 o3=>AZ ?_)
  have H3:=A1.old H1 o3
  refine ss H3 ?_
  refine A0 (N5 P (S5 _) (by decide) λh4 o4=>?_)
  have H4:=A1.old H3 o4
  refine ss H4 ?_
  refine A0 (M0 H4 (E8 P _ _) O.st λh5 H5 u5=>?_)
  refine ss H5 ?_
  exact A1.stP H5 λh7 H7=>k h7 (A1.drp (A1.none H7))
 rw [if_neg c] at k
 exact A0 (VJ H1 O hr λh2 H2=>k h2 (A1.drp H2))
def FOk (x:A9):Prop:=x.f.fn=20->x.f.pc≠0->EN x (x.f.g 1)
theorem RU (H:A7 h (A1 M T tv fo x R)) (O:Ok x) (hf:FOk x) (k:∀h',A7 h' (A1 M T tv none (BL x) R)->K tQ h') :
  A5 Tryz.prog 112 #[mP M,mP T] h K:=by
 refine call112 ?_
 unfold F112 cf lI nP
 unfold BL at k
 refine A0 (OU H (λe=>?_) λb o hne _ H1=>?_)
 ·rw [if_pos e] at k
  refine sb ?_
  refine ⟨λvs h'=>(∃w,vs = [dQ true,w])/\h' = h,⟨⟨_,rfl⟩,rfl⟩,?_⟩
  rintro v4 v5 g6 h7 ⟨⟨w,e⟩,rfl⟩
  cases e
  refine sb ?_
  exact k _ (A1.none H)
 ·rw [if_neg hne] at k
  refine sb ?_
  refine ⟨λvs h'=>(∃w,vs = [dQ false,w])/\h' = h,⟨⟨_,rfl⟩,rfl⟩,?_⟩
  rintro v4 v5 g6 h7 ⟨⟨w,e⟩,rfl⟩
  cases e
  try simp +decide only [B4,F2,Nat.reduceAdd,Int.reduceLE,Int.reduceLT,Int.reduceToNat,J0,G5,B0,A1.r H1]
  refine A4 (λc=>?_) (λc=>?_)
  ·rw [if_pos c] at k
   exact A0 (VK H1 O (hf c) k)
  rw [if_neg c] at k
  exact A0 (Ey H1 O k)
end
end
section
open Mod
theorem Jf (n:Int):IntKind.wrap .u32 n=Mod.u32 n:=Fa n
structure RL (x:A9):Prop where
 e1:x.t.succ.length=x.t.pred.length
 e2:x.t.word.length=x.t.pred.length
 e0:1<=x.t.pred.length
 e3:x.t.pred.length<=6
theorem RV {p:Pl} (B:Me p) {n r:Int} (hr:iN r):p.node n (F5 (5+r))=p.node n (5+r):=by
 have h2:=B.wi
 by_cases c:5+r < 9223372036854775808
 ·congr 1;unfold iN at hr;unfold F5;omega
 ·unfold iN at hr
  have e:F5 (5+r) < 0:=by unfold F5;omega
  unfold Pl.node
  rw [if_neg (by omega),if_neg (by omega)]
section
variable {K:kQ} {h:A2} {M T b o N:Nat} {tv:Value} {fo:Option (Nat × Nat)} {x:A9} {R:Hp}
structure Gj (h:A2) (T pb sb wb:Nat) (t:Thr):Prop where
 c5:A3 h ⟨T,5,Option.none⟩=some (lQ (some ⟨pb,0,Option.none⟩) t.pred.length t.pred.length)
 c6:A3 h ⟨T,6,Option.none⟩=some (lQ (some ⟨sb,0,Option.none⟩) t.pred.length t.pred.length)
 c7:A3 h ⟨T,7,Option.none⟩=some (lQ (some ⟨wb,0,Option.none⟩) t.pred.length t.pred.length)
 p:∀i:Nat,i < t.pred.length->A3 h ⟨pb,i,Option.none⟩=some (uQ (t.pred.getD i 0))
 s:∀i:Nat,i < t.pred.length->A3 h ⟨sb,i,Option.none⟩=some (uQ (t.succ.getD i 0))
 w:∀i:Nat,i < t.pred.length->A3 h ⟨wb,i,Option.none⟩=some (uQ (t.word.getD i 0))
theorem Dk {h h':A2} {a:Addr} {v:Value} (e:A3 h a=some v) (o:G4 h.size h h'):A3 h' a=some v:=(S0 (o.2 _ (Bv e))).trans e
theorem Gj.old {h h':A2} {T pb sb wb:Nat} {t:Thr} (H:Gj h T pb sb wb t) (o:G4 h.size h h'):Gj h' T pb sb wb t:=
 ⟨Dk H.c5 o,Dk H.c6 o,Dk H.c7 o,λi hi=>Dk (H.p i hi) o,λi hi=>Dk (H.s i hi) o,λi hi=>Dk (H.w i hi) o⟩
theorem Ny {h:A2} {a:Addr} {v:Value} (e:A3 h a=some v) (F:Value->Prop):D1 h a F=F v:=by unfold D1;rw [e]
theorem Gj.f {h:A2} {T pb sb wb:Nat} {t:Thr} (H:Gj h T pb sb wb t):(∀F,D1 h ⟨T,5,Option.none⟩ F=F (lQ (some ⟨pb,0,Option.none⟩) t.pred.length t.pred.length))/\(∀F,D1 h ⟨T,6,Option.none⟩ F=F (lQ (some ⟨sb,0,Option.none⟩) t.pred.length t.pred.length))/\(∀F,D1 h ⟨T,7,Option.none⟩ F=F (lQ (some ⟨wb,0,Option.none⟩) t.pred.length t.pred.length)) /\
  A3 h ⟨T,5,Option.none⟩=some (lQ (some ⟨pb,0,Option.none⟩) t.pred.length t.pred.length)/\A3 h ⟨T,6,Option.none⟩=some (lQ (some ⟨sb,0,Option.none⟩) t.pred.length t.pred.length)/\A3 h ⟨T,7,Option.none⟩=some (lQ (some ⟨wb,0,Option.none⟩) t.pred.length t.pred.length):=
 ⟨Ny H.c5,Ny H.c6,Ny H.c7,H.c5,H.c6,H.c7⟩
theorem Gj.g {h:A2} {T pb sb wb:Nat} {t:Thr} (H:Gj h T pb sb wb t) {i:Nat} (hi:i < t.pred.length):(∀F,D1 h ⟨pb,i,Option.none⟩ F=F (uQ (t.pred.getD i 0)))/\(∀F,D1 h ⟨sb,i,Option.none⟩ F=F (uQ (t.succ.getD i 0)))/\(∀F,D1 h ⟨wb,i,Option.none⟩ F=F (uQ (t.word.getD i 0))) /\
  A3 h ⟨pb,i,Option.none⟩=some (uQ (t.pred.getD i 0))/\A3 h ⟨sb,i,Option.none⟩=some (uQ (t.succ.getD i 0))/\A3 h ⟨wb,i,Option.none⟩=some (uQ (t.word.getD i 0)):=
 ⟨Ny (H.p i hi),Ny (H.s i hi),Ny (H.w i hi),H.p i hi,H.s i hi,H.w i hi⟩
theorem A1.rows (H:A7 h (A1 M T tv fo x R)) (L:RL x):∃pb sb wb:Nat,Gj h T pb sb wb x.t:=by
 obtain ⟨pb,sb,wb,Q,hQ,HR,re⟩:=Pg H
 obtain ⟨c5,c6,c7⟩:=hQ h _ HR.drop.drop.drop
 have lc:∀ {B:Nat} {l:List Int} {t:TypeId} (_:h[B]? = some (oQ (U8 l).toArray t)) (i:Nat),i < l.length->A3 h ⟨B,i,Option.none⟩=some (uQ (l.getD i 0)):=by
  intro B l t e i hi
  have:=Sr7 e (i:=(i:Int)) (by omega) (by omega)
  rw [Int.toNat_natCast] at this
  exact this
 rw [L.e1] at c6
 rw [L.e2] at c7
 exact ⟨pb,sb,wb,c5,c6,c7,λi hi=>lc HR.at i hi,λi hi=>lc HR.drop.at i (by rw [L.e1];exact hi),λi hi=>lc HR.drop.drop.at i (by rw [L.e2];exact hi)⟩
theorem Sr8 (H:A7 h (A1 M T tv fo x R)) (us:x.m.used < 1099511627776) {K:kQ}
  {q:Nat} {R':Hp} (HF:A7 h (Mw q x.m.b x.m.used*R')) (re:∀h' u,A7 h' (Mw q x.m.b u*R')->A7 h' (A1 M T tv fo { x with m:=Mac.feed x.m u } R)) (hn:1<=x.m.p.c.level/\x.m.p.c.level<=6)
  (k:∀h',A7 h' (A1 M T tv fo { x with m:=(x.m.lvl x.m.p.c.level).2 } R)->K (iQ (x.m.lvl x.m.p.c.level).1) h') :
  A5 Tryz.prog 250 #[mP q,iQ x.m.p.c.level] h K:=by
 refine OO HF us hn λh2 H2=>?_
 have H3:=re _ _ H2
 have e:x.m.lvl x.m.p.c.level=(Ur (drawn x.m.b x.m.used) x.m.p.c.level.toNat 0,Mac.feed x.m (x.m.used+1)):=by
  unfold Mac.lvl Mac.take
  first
   | rfl
   | (rw [if_neg (by omega)];rfl)
 rw [e] at k
 exact k h2 H3
theorem Ej (H:A7 h (A1 M T tv (some (b,o)) x R)) {pc fn:Int} {a:Option Addr} {l c:Nat} {rs:List Int} (A:Z9 R a l c rs) (hl:l<=10) (hd:x.t.fr.length < 1073741823)
  (k:∀h' b' o',¬ (b' = b/\o' = o)->Fx h' (some (b,o)) (x.pc pc).f->A7 h' (A1 M T tv (some (b',o')) (x.call pc fn rs) R)->K tQ h') :
  A5 Tryz.prog 247 #[rV M T b o,iQ pc,iQ fn,lQ a l c] h K:=by
 refine call247 ?_
 unfold F247 g247 cf lP nP
 have H1:=A1.new H (oQ #[mP M,mP T,fP b o] 197);generalize h.push (oQ #[mP M,mP T,fP b o] 197)=h1 at *;generalize h.size=N at *
 refine sl H1 ?_
 refine A1.stP H1 λh2 H2=>?_
 refine sl H2 ?_
 refine A0 (Ru H2 A.skip hl (by show (x.t.fr.dropLast ++ [_]).length < _;simp;omega) λh3 b' o' h1 h2 H3=>k h3 b' o' (λe=>h1 b o rfl e) h2 (A1.drp H3))
theorem Fi (H:A7 h (A1 M T tv (some (b,o)) x R)) {pc fn:Int} {l:Nat} (rs:List Int) {ty:TypeId} (hr:rs.length=l) (hu:∀v ∈ rs,U v) (hl:Nat.ble l 10=true) (hd:x.t.fr.length < 1073741823)
  (k:∀h' b' o',¬ (b' = b/\o' = o)->Fx h' (some (b,o)) (x.pc pc).f->A7 h' (A1 M T tv (some (b',o')) (x.call pc fn rs) R)->K tQ h') :
  A5 Tryz.prog 247 #[rV M T b o,iQ pc,iQ fn,lQ (some (aQ h.size)) l l] (h.push (oQ (U8 rs).toArray ty)) K:=
 Ej (A1.new H (oQ (U8 rs).toArray ty)) (Z9.mk' hr hu) (Nat.le_of_ble_eq_true hl) hd λh' b' o' h1 h2 H'=>k h' b' o' h1 h2 (A1.drp H')
theorem W7 (H:A7 h (A1 M T tv fo x R)) {n f:Int} (hf:iN f) (k:∀h',G4 h.size h h'->K (iQ (x.na n f)) h') :
  A5 Tryz.prog 251 #[rV M T b o,uQ n,iQ f] h K:=by
 refine call251 ?_
 unfold F251 g251 cf lP N0
 have oo:G4 h.size h (h.push (oQ #[mP M,mP T,fP b o] 197)):=(G4.refl _ _).push _ (Nat.le_refl _)
 have s1:=oo.1
 have H1:=A1.new H (oQ #[mP M,mP T,fP b o] 197);generalize h.push (oQ #[mP M,mP T,fP b o] 197)=h1 at *;generalize h.size=N at *
 refine sl H1 ?_
 refine A0 (AX H1 λh2 o2=>AZ ?_)
 refine A0 (N5 (A1.pl H) (S5 _) hf λh3 o3=>?_)
 refine sb ?_
 exact k h3 (oo.trans ((o2.trans (o3.mono o2.1)).mono s1))
theorem S8 (H:A7 h (A1 M T tv fo x R)) {n r:Int} (k:∀h',G4 h.size h h'->K (iQ (x.nlink n r)) h') :
  A5 Tryz.prog 253 #[rV M T b o,uQ n,uQ r] h K:=by
 refine call253 ?_
 unfold F253 g253 cf L1
 have oo:G4 h.size h (h.push (oQ #[mP M,mP T,fP b o] 197)):=(G4.refl _ _).push _ (Nat.le_refl _)
 have s1:=oo.1
 have H1:=A1.new H (oQ #[mP M,mP T,fP b o] 197);generalize h.push (oQ #[mP M,mP T,fP b o] 197)=h1 at *;generalize h.size=N at *
 refine sl H1 ?_
 refine A0 (W7 H1 (S5 _) λh2 o2=>?_)
 refine sb ?_
 have e:x.na n (F5 (5+F5 r))=x.nlink n r:=RV (A1.pl H) (S5 _)
 rw [e]
 exact k h2 (oo.trans (o2.mono s1))
theorem Df (H:A7 h (A1 M T tv fo x R)) {a w t:Int} (ha:iN a) (hw:U w) (hs:x.m.mm.st < 1099511627776) (k:∀h',A7 h' (A1 M T tv fo (x.swingA a w t).2 R)->K (dQ (x.swingA a w t).1) h') :
  A5 Tryz.prog 254 #[rV M T b o,iQ a,uQ w,uQ t] h K:=by
 refine call254 ?_
 unfold F254 g254 cf ce
 have H1:=A1.new H (oQ #[mP M,mP T,fP b o] 197);generalize h.push (oQ #[mP M,mP T,fP b o] 197)=h1 at *;generalize h.size=N at *
 refine sl H1 ?_
 refine A0 (T7 hw ?_)
 refine sl H1 ?_
 refine A0 (Rt H1 ha AL hs λh3 H3=>?_)
 refine sb ?_
 exact k h3 (A1.drp H3)
theorem Fj (H:A7 h (A1 M T tv (some (b,o)) x R)) {k7 k8 k9:Int} (h7:U k7) (h8:U k8) (h9:U k9) (hd:x.t.fr.length < 1073741823)
  (k:∀h' b' o',A7 h' (A1 M T tv (some (b',o')) (x.fin k7 k8 k9) R)->K tQ h') :
  A5 Tryz.prog 248 #[rV M T b o,uQ k7,uQ k8,uQ k9] h K:=by
 refine call248 ?_
 unfold F248 g248 cf ce bd lP nP L1
 have H1:=A1.new H (oQ #[mP M,mP T,fP b o] 197);generalize h.push (oQ #[mP M,mP T,fP b o] 197)=h1 at *;generalize h.size=N at *
 refine sl H1 ?_
 refine A1.stR (i:=7) H1 rfl h7 λh2 H2=>?_
 refine sl H2 ?_
 refine A1.stR (i:=8) H2 rfl h8 λh3 H3=>?_
 refine sl H3 ?_
 refine A1.stR (i:=9) H3 rfl h9 λh4 H4=>?_
 refine sl H4 ?_
 refine A0 (Ej H4 Z9.none (by omega) ?_ λh5 b' o' h1 h2 H5=>k h5 b' o' (A1.drp H5))
 have e:=List.length_pos_iff.2 (Ik (A1.thr H))
 show ((((x.t.fr.dropLast ++ [_]).dropLast ++ [_]).dropLast) ++ [_]).length < _
 simp
 omega
theorem JJ (H:A7 h (A1 M T tv fo x R)) {n:Int} (hs:x.m.mm.st < 1099511627776) (k:∀h',A7 h' (A1 M T tv fo (x.drop1 n).2 R)->K (dQ (x.drop1 n).1) h') :
  A5 Tryz.prog 257 #[rV M T b o,uQ n] h K:=by
 refine call257 ?_
 unfold F257 g257 cf ce L1
 have P:=A1.pl H
 have H1:=A1.new H (oQ #[mP M,mP T,fP b o] 197);generalize h.push (oQ #[mP M,mP T,fP b o] 197)=h1 at *;generalize h.size=N at *
 refine sl H1 ?_
 refine A0 (W7 H1 (by decide) λh2 o2=>?_)
 have H2:=A1.old H1 o2
 refine sl H2 ?_
 refine A0 (SG6 H2 (E8 P _ _) hs λh3 H3 u3=>?_)
 refine sb ?_
 exact k h3 (A1.drp H3)
theorem Hw {w:Int} (hw:U w) (k:K (uQ (J2 w)) h):A5 Tryz.prog 256 #[uQ w] h K:=by
 refine call256 ?_
 unfold F256 cf
 refine A0 (M7 hw ?_)
 refine sb ?_
 exact k
theorem JK {w:Int} (hw:U w) (k:K (dQ (Y9 w)) h):A5 Tryz.prog 255 #[uQ w] h K:=by
 refine call255 ?_
 unfold F255 cf
 refine A0 (V3 hw ?_)
 refine sb ?_
 exact k
end
end
section
open Mod
section
variable {K:kQ} {h:A2} {M T b o N:Nat} {tv:Value} {fo:Option (Nat × Nat)} {x:A9} {R:Hp}
theorem RL.at {y:A9} (H:RL x) (e:y.t.pred=x.t.pred/\y.t.succ=x.t.succ/\y.t.word=x.t.word):RL y:=by
 obtain ⟨h1,h2,h3,h4⟩:=H
 exact ⟨by rw [e.1,e.2.1];exact h1,by rw [e.1,e.2.2];exact h2,by rw [e.1];exact h3,by rw [e.1];exact h4⟩
theorem A1.woU (H:A7 h (A1 M T tv fo x R)) (i:Nat):U (x.t.word.getD i 0):=Ld (A1.B H).wo i
theorem RW (x:A9) (a d:Int):(x.add a d).2.m.used=x.m.used:=by
 show (x.m.add a d).2.used=x.m.used
 unfold Mac.add
 dsimp only
 have:=(Bd x.m a).2.2.2.1
 split <;> exact this
theorem Nz (a b:Int):U (R5 a b):=by unfold R5 u32;constructor <;> omega
theorem ZQ (a:Int) (g:Bool):U (GF a g):=by unfold GF u32 b2i;constructor <;> split <;> omega
theorem ZR {w:Int} (h:U w):U (GG w):=by
 obtain ⟨h0,h1⟩:=h
 unfold GG
 constructor <;> split <;> omega
theorem RY {w:Int} (h:U w):Mod.u64 (EZ w)=EZ w:=by
 obtain ⟨h0,h1⟩:=h
 unfold EZ u64;omega
theorem RZ {w:Int} (h:U w):U (EZ w):=by
 obtain ⟨h0,h1⟩:=h
 unfold EZ;constructor <;> omega
theorem Sr9 (w:Int):Mod.u64 (Hs w)=Hs w:=by unfold Hs u32 u64;omega
theorem Ss0 (w:Int):U (Hs w):=by unfold Hs u32;constructor <;> omega
theorem Sa (H:A7 h (A1 M T tv (some (b,o)) x R)) (O:Ok x) (k:∀h',A7 h' (A1 M T tv none (BM x) R)->K tQ h') :
  A5 Tryz.prog 167 #[rV M T b o] h K:=by
 refine call167 ?_
 unfold F167 g167 cf ce bd lP lI nP G3 Nh N0
 have B:=A1.fB H
 have P:=A1.pl H
 have hd:=O.fr
 have r0:=A1.ret H 0
 unfold BM at k
 dsimp only at k
 have H1:=A1.new H (oQ #[mP M,mP T,fP b o] 199);generalize h.push (oQ #[mP M,mP T,fP b o] 199)=h1 at *;generalize h.size=N at *
 refine ss H1 ?_
 refine A4 (λc=>?_) (λc=>?_)
 ·rw [if_pos c] at k
  exact A0 (Ej H1 Z9.none (by omega) (by omega) λh2 b' o' _ _ H2=>k h2 (A1.drp (A1.none H2)))
 rw [if_neg c] at k
 refine A4 (λc=>?_) (λc=>?_)
 ·rw [if_pos c] at k
  refine A1.stR (i:=2) H1 rfl r0 λh2 H2=>?_
  try simp +decide only [B4,F2,Nat.reduceAdd,Int.reduceLE,Int.reduceLT,Int.reduceToNat,J0,G5,B0,A1.al H2,B.len]
  refine C7 (λc2=>?_) (λc2=>?_)
  ·have c2':x.ret 0≠0:=by simpa [A9.ret] using c2
   rw [if_pos c2'] at k
   exact A1.stP H2 λh3 H3=>k h3 (A1.drp (A1.none H3))
  ·have c2':¬ x.ret 0≠0:=by simpa [A9.ret] using c2
   rw [if_neg c2'] at k
   have hfl:=An x 2 (x.ret 0)
   refine ⟨λvs h'=>(∃w,vs = [dQ (decide (x.f.g 5=0/\x.t.retired.length > 0)),w])/\A7 h' (A1 M T tv (some (b,o)) (x.s 2 (x.ret 0)) (pt N (oQ #[mP M,mP T,fP b o] 199)*R)),?_,?_⟩
   ·refine A4 (λc3=>?_) (λc3=>?_)
    ·refine A0 (De (A1.thr H2) ?_)
     refine sb ?_
     have e:decide (((x.s 2 (x.ret 0)).t.retired.length:Int) > 0)=decide (x.f.g 5=0/\x.t.retired.length > 0):=by
      rw [decide_eq_decide]
      have e2:(x.s 2 (x.ret 0)).t.retired=x.t.retired:=rfl
      rw [e2]
      omega
     rw [e]
     exact ⟨⟨_,rfl⟩,H2⟩
    ·exact ⟨⟨_,by rw [decide_eq_false (λhh=>c3 hh.1)]⟩,H2⟩
   rintro v32 v33 g34 h35 ⟨⟨w,e⟩,H3⟩
   cases e
   refine sb ?_
   refine A4 (λc3=>?_) (λc3=>?_)
   ·rw [if_pos c3] at k
    refine A1.stR (i:=5) H3 rfl (U.lit rfl) λh4 H4=>?_
    have hfl2:=An (x.s 2 (x.ret 0)) 5 1
    refine sl H4 ?_
    exact A0 (Ej H4 Z9.none (by omega) (by omega) λh5 b' o' _ _ H5=>k h5 (A1.drp (A1.none H5)))
   ·rw [if_neg c3] at k
    refine sl H3 ?_
    exact A0 (Fj H3 (U.lit rfl) U0 U0 (by omega) λh5 b' o' H5=>k h5 (A1.drp (A1.none H5)))
 rw [if_neg c] at k
 refine A4 (λc=>?_) (λc=>?_)
 ·rw [if_pos c] at k
  refine A0 (SG6 H1 (by decide) O.st λh2 H2 u2=>?_)
  try simp +decide only [B4,F2,Nat.reduceAdd,Int.reduceLE,Int.reduceLT,Int.reduceToNat,J0,G5,B0,A1.al H2,Jf]
  refine A0 (Lb (Rc _) (Rc _) ?_)
  refine ss H2 ?_
  refine A1.stR (i:=4) H2 rfl (Nz _ _) λh3 H3=>?_
  refine ss H3 ?_
  refine A0 (A1.feed H3 λq R' HF re=>?_)
  refine ss H3 ?_
  refine A0 (AX H3 λh4 o4=>AZ ?_)
  have H4:=A1.old H3 o4
  have HF4:=HF.old o4
  try simp only [B4,F2,Nat.reduceAdd,Int.reduceLE,Int.reduceLT,Int.reduceToNat]
  refine A0 (U9 λh5 o5=>cf7 ?_)
  have H5:=A1.old H4 o5
  have HF5:=HF4.old o5
  refine sb ?_
  have P5:=A1.pl H5
  refine A0 (Sr8 H5 ?_ HF5 re P5.lv λh6 H6=>?_)
  ·show (x.add 3 1).2.m.used < _
   rw [RW];exact O.us
  refine sb ?_
  refine A1.stR (i:=3) H6 rfl (R7 _) λh7 H7=>A1.stP H7 λh8 H8=>k h8 (A1.drp (A1.none H8))
 rw [if_neg c] at k
 exact k h1 (A1.drp (A1.none H1))
def Lx (x:A9):A9:=if x.f.pc=3 then x.store (x.na (x.f.g 2) 0) (x.f.g 4) else if x.f.pc=4 then x.store (x.na (x.f.g 2) 1) (GF (u32 (x.f.g 1)) false)
 else if x.f.pc=5 then x.store (x.na (x.f.g 2) 2) 2 else if x.f.pc=6 then x.store (x.na (x.f.g 2) 3) (x.f.g 3) else if x.f.pc=7 then x.store (x.na (x.f.g 2) 4) 0 else x
theorem Ss1 (x:A9):(Lx x).f=x.f:=by
 unfold Lx
 split
 ·rfl
 split
 ·rfl
 split
 ·rfl
 split
 ·rfl
 split <;> rfl
theorem VL (H:A7 h (A1 M T tv (some (b,o)) x R)) (O:Ok x) (k:∀h',A7 h' (A1 M T tv none (EK x) R)->K tQ h') :
  A5 Tryz.prog 168 #[rV M T b o] h K:=by
 refine call168 ?_
 unfold F168 g168 cf ce bd lP lI nP G3
 have B:=A1.fB H
 have P:=A1.pl H
 have k:∀h',A7 h' (A1 M T tv none ((Lx x).pc (x.f.pc+1)) R)->K tQ h':=k
 have H1:=A1.new H (oQ #[mP M,mP T,fP b o] 199);generalize h.push (oQ #[mP M,mP T,fP b o] 199)=h1 at *;generalize h.size=N at *
 refine ss H1 ?_
 refine ⟨λ_ h'=>A7 h' (A1 M T tv (some (b,o)) (Lx x) (pt N (oQ #[mP M,mP T,fP b o] 199)*R)),?_,?_⟩
 ·unfold Lx
  refine A4 (λc=>?_) (λc=>?_)
  ·rw [if_pos c]
   refine A0 (W7 H1 (by decide) λh2 o2=>?_)
   have H2:=A1.old H1 o2
   refine ss H2 ?_
   exact A0 (T8 H2 (E8 P _ _) (B.g 4) O.st λh3 H3=>H3)
  rw [if_neg c]
  refine A4 (λc=>?_) (λc=>?_)
  ·rw [if_pos c]
   refine A0 (W7 H1 (by decide) λh2 o2=>?_)
   have H2:=A1.old H1 o2
   try simp +decide only [B4,F2,Nat.reduceAdd,Int.reduceLE,Int.reduceLT,Int.reduceToNat,J0,G5,B0,A1.al H2,Jf]
   refine A0 (Vk (Rc _) ?_)
   refine ss H2 ?_
   exact A0 (T8 H2 (E8 P _ _) (ZQ _ _) O.st λh3 H3=>H3)
  rw [if_neg c]
  refine A4 (λc=>?_) (λc=>?_)
  ·rw [if_pos c]
   refine A0 (W7 H1 (by decide) λh2 o2=>?_)
   have H2:=A1.old H1 o2
   refine ss H2 ?_
   exact A0 (T8 H2 (E8 P _ _) (U.lit rfl) O.st λh3 H3=>H3)
  rw [if_neg c]
  refine A4 (λc=>?_) (λc=>?_)
  ·rw [if_pos c]
   refine A0 (W7 H1 (by decide) λh2 o2=>?_)
   have H2:=A1.old H1 o2
   refine ss H2 ?_
   exact A0 (T8 H2 (E8 P _ _) (B.g 3) O.st λh3 H3=>H3)
  rw [if_neg c]
  refine A4 (λc=>?_) (λc=>?_)
  ·rw [if_pos c]
   refine A0 (W7 H1 (by decide) λh2 o2=>?_)
   have H2:=A1.old H1 o2
   refine ss H2 ?_
   exact A0 (T8 H2 (E8 P _ _) U0 O.st λh3 H3=>H3)
  rw [if_neg c]
  exact H1
 intro v1 v2 v3 v4 v5 g6 h7 H7
 try simp +decide only [B4,F2,Nat.reduceAdd,Int.reduceLE,Int.reduceLT,Int.reduceToNat,J0,G5,B0,A1.al H7,Ss1]
 rw [Fh (n:=x.f.pc+1) (by have:=O.pc;omega) (by have:=O.pc;omega)]
 exact A1.stP H7 λh8 H8=>k h8 (A1.drp (A1.none H8))
theorem Ph (H:A7 h (A1 M T tv (some (b,o)) x R)) (O:Ok x) (L:RL x) (hr:x.f.pc=10->x.f.g 5 < x.t.pred.length) (k:∀h',A7 h' (A1 M T tv none (Ai x) R)->K tQ h') :
  A5 Tryz.prog 169 #[rV M T b o] h K:=by
 refine call169 ?_
 unfold F169 g169 cf ce bd lS lP lI nP G3
 have B:=A1.fB H
 have P:=A1.pl H
 have hd:=O.fr
 unfold Ai at k
 dsimp only at k
 have H1:=A1.new H (oQ #[mP M,mP T,fP b o] 199);generalize h.push (oQ #[mP M,mP T,fP b o] 199)=h1 at *;generalize h.size=N at *
 refine ss H1 ?_
 refine A4 (λc=>?_) (λc=>?_)
 ·rw [if_pos c] at k
  refine A1.stR (i:=5) H1 rfl U0 λh2 H2=>?_
  refine ss H2 ?_
  have l1:=An x 5 0
  exact A0 (Fi H2 [x.f.g 4] rfl (W5 (B.g 4)) rfl (by omega) λh4 b' o' _ _ H4=>k h4 (A1.drp (A1.none H4)))
 rw [if_neg c] at k
 refine A4 (λc=>?_) (λc=>?_)
 ·rw [if_pos c] at k
  refine A0 (S8 H1 λh2 o2=>?_)
  have H2:=A1.old H1 o2
  refine ss H2 ?_
  refine A0 (M0 H2 (E8 P _ _) O.st λh3 H3 u3=>?_)
  refine ss H3 ?_
  exact A1.stR (i:=6) H3 rfl u3 λh4 H4=>A1.stP H4 λh5 H5=>k h5 (A1.drp (A1.none H5))
 rw [if_neg c] at k
 refine A4 (λc=>?_) (λc=>?_)
 ·rw [if_pos c] at k
  have hr:=hr c
  have hr0:=(B.g 5).1
  obtain ⟨pb,sb,wb,W⟩:=A1.rows H1 L
  have wf:=W.f
  try simp +decide only [B4,F2,Nat.reduceAdd,Int.reduceLE,Int.reduceLT,Int.reduceToNat,J0,G5,B0,A1.al H1,wf]
  refine ⟨by omega,by omega,?_⟩
  have wg:=W.g (i:=(x.f.g 5).toNat) (by omega)
  try simp +decide only [B4,F2,Nat.reduceAdd,Int.reduceLE,Int.reduceLT,Int.reduceToNat,J0,G5,B0,A1.al H1,wg]
  refine A0 (S8 H1 λh2 o2=>?_)
  have H2:=A1.old H1 o2
  have W2:=W.old o2
  have wf2:=W2.f
  have wg2:=W2.g (i:=(x.f.g 5).toNat) (by omega)
  try simp +decide only [B4,F2,Nat.reduceAdd,Int.reduceLE,Int.reduceLT,Int.reduceToNat,J0,G5,B0,A1.al H2,wf2,wg2]
  refine A0 (T7 (B.g 6) ?_)
  refine ss H2 ?_
  refine A0 (T8 H2 (E8 P _ _) AL O.st λh3 H3=>?_)
  refine ss H3 ?_
  refine A1.stR (i:=5) H3 rfl (R7 _) λh4 H4=>?_
  try simp +decide only [B4,F2,Nat.reduceAdd,Int.reduceLE,Int.reduceLT,Int.reduceToNat,J0,G5,B0,A1.al H4]
  refine A1.stP H4 λh5 H5=>?_
  try simp +decide only [B4,F2,Nat.reduceAdd,Int.reduceLE,Int.reduceLT,Int.reduceToNat,J0,G5,B0,A1.al H5,B.len]
  refine A4 (λc2=>?_) (λc2=>?_)
  ·rw [if_pos c2] at k
   exact A1.stP H5 λh6 H6=>k h6 (A1.drp (A1.none H6))
  ·rw [if_neg c2] at k
   exact k h5 (A1.drp (A1.none H5))
 rw [if_neg c] at k
 refine A4 (λc=>?_) (λc=>?_)
 ·rw [if_pos c] at k
  refine A1.stR (i:=5) H1 rfl (U.lit rfl) λh2 H2=>?_
  try simp +decide only [B4,F2,Nat.reduceAdd,Int.reduceLE,Int.reduceLT,Int.reduceToNat,J0,G5,B0,A1.al H2]
  refine A1.stP H2 λh3 H3=>?_
  have L3:RL ((x.s 5 1).pc 8):=L.at ⟨rfl,rfl,rfl⟩
  obtain ⟨pb,sb,wb,W⟩:=A1.rows H3 L3
  have wf:=W.f
  have l0:=L3.e0
  have wg:=W.g (i:=0) (by omega)
  try simp +decide only [B4,F2,Nat.reduceAdd,Int.reduceLE,Int.reduceLT,Int.reduceToNat,J0,G5,B0,A1.al H3,wf,wg]
  refine ⟨by omega,?_⟩
  try simp +decide only [B4,F2,Nat.reduceAdd,Int.reduceLE,Int.reduceLT,Int.reduceToNat,J0,G5,B0,A1.al H3,wf,wg]
  refine ⟨by omega,?_⟩
  try simp +decide only [B4,F2,Nat.reduceAdd,Int.reduceLE,Int.reduceLT,Int.reduceToNat,J0,G5,B0,A1.al H3,wf,wg]
  refine A0 (S8 H3 λh4 o4=>?_)
  have H4:=A1.old H3 o4
  have W4:=W.old o4
  have wf4:=W4.f
  have wg4:=W4.g (i:=0) (by omega)
  try simp +decide only [B4,F2,Nat.reduceAdd,Int.reduceLE,Int.reduceLT,Int.reduceToNat,J0,G5,B0,A1.al H4,wf4,wg4]
  refine A0 (Df H4 (E8 P _ _) (A1.woU H4 0) O.st λh5 H5=>?_)
  refine ss H5 ?_
  refine C7 (λc2=>?_) (λc2=>?_)
  ·rw [if_pos c2] at k
   exact A1.stP H5 λh6 H6=>k h6 (A1.drp (A1.none H6))
  ·rw [if_neg (by rw [c2];simp)] at k
   exact k h5 (A1.drp (A1.none H5))
 rw [if_neg c] at k
 exact k h1 (A1.drp (A1.none H1))
theorem Pi (H:A7 h (A1 M T tv (some (b,o)) x R)) (O:Ok x) (L:RL x) (hr:x.f.pc=12->x.f.g 3<=x.t.pred.length) (hr2:13<=x.f.pc->x.f.g 5 < x.t.pred.length) (k:∀h',A7 h' (A1 M T tv none (Aj x) R)->K tQ h') :
  A5 Tryz.prog 170 #[rV M T b o] h K:=by
 refine call170 ?_
 unfold F170 g170 cf ce bd lS lP lI nP G3
 have B:=A1.fB H
 have P:=A1.pl H
 have hd:=O.fr
 have hr0:=(B.g 5).1
 unfold Aj at k
 dsimp only at k
 have H1:=A1.new H (oQ #[mP M,mP T,fP b o] 199);generalize h.push (oQ #[mP M,mP T,fP b o] 199)=h1 at *;generalize h.size=N at *
 refine ss H1 ?_
 refine A4 (λc=>?_) (λc=>?_)
 ·rw [if_pos c] at k
  have hr:=hr c
  refine A4 (λc2=>?_) (λc2=>?_)
  ·rw [if_pos c2] at k
   exact A1.stP H1 λh2 H2=>k h2 (A1.drp (A1.none H2))
  rw [if_neg c2] at k
  have hi:x.f.g 5 < x.t.pred.length:=by omega
  refine A0 (S8 H1 λh2 o2=>?_)
  have H2:=A1.old H1 o2
  refine ss H2 ?_
  refine A0 (M0 H2 (E8 P _ _) O.st λh3 H3 u3=>?_)
  refine ss H3 ?_
  refine A1.stR (i:=6) H3 rfl u3 λh4 H4=>?_
  try simp +decide only [B4,F2,Nat.reduceAdd,Int.reduceLE,Int.reduceLT,Int.reduceToNat,J0,G5,B0,A1.al H4,B.len]
  refine A0 (JK u3 ?_)
  refine ss H4 ?_
  refine C7 (λc3=>?_) (λc3=>?_)
  ·rw [if_pos c3] at k
   exact A1.stP H4 λh5 H5=>k h5 (A1.drp (A1.none H5))
  rw [if_neg (by rw [c3];simp)] at k
  have L4:RL ((x.load (x.nlink (x.f.g 2) (x.f.g 5))).2.s 6 (x.load (x.nlink (x.f.g 2) (x.f.g 5))).1):=L.at ⟨rfl,rfl,rfl⟩
  obtain ⟨pb,sb,wb,W⟩:=A1.rows H4 L4
  have wf:=W.f
  try simp +decide only [B4,F2,Nat.reduceAdd,Int.reduceLE,Int.reduceLT,Int.reduceToNat,J0,G5,B0,A1.al H4,B.len,wf]
  refine ⟨by omega,hi,?_⟩
  have wg:=W.g (i:=(x.f.g 5).toNat) (by show _ < x.t.pred.length;omega)
  try simp +decide only [B4,F2,Nat.reduceAdd,Int.reduceLE,Int.reduceLT,Int.reduceToNat,J0,G5,B0,A1.al H4,wf,wg]
  refine A0 (Hw u3 ?_)
  try simp +decide only [B4,F2,Nat.reduceAdd,Int.reduceLE,Int.reduceLT,Int.reduceToNat,J0,G5,B0,A1.al H4,wf,wg]
  refine C7 (λc3=>?_) (λc3=>?_)
  ·have c3':J2 (x.load (x.nlink (x.f.g 2) (x.f.g 5))).1≠x.t.succ.getD (x.f.g 5).toNat 0:=bne_iff_ne.1 c3
   rw [if_pos c3'] at k
   exact A1.stP H4 λh5 H5=>k h5 (A1.drp (A1.none H5))
  ·have c3':¬ J2 (x.load (x.nlink (x.f.g 2) (x.f.g 5))).1≠x.t.succ.getD (x.f.g 5).toNat 0:=λhh=>hh (bne_eq_false_iff_eq.1 c3)
   rw [if_neg c3'] at k
   exact A1.stP H4 λh5 H5=>k h5 (A1.drp (A1.none H5))
 rw [if_neg c] at k
 obtain ⟨pb,sb,wb,W⟩:=A1.rows H1 L
 have wf:=W.f
 refine A4 (λc=>?_) (λc=>?_)
 ·rw [if_pos c] at k
  have hr:=hr2 (by omega)
  try simp +decide only [B4,F2,Nat.reduceAdd,Int.reduceLE,Int.reduceLT,Int.reduceToNat,J0,G5,B0,A1.al H1,wf]
  refine ⟨by omega,by omega,?_⟩
  have wg:=W.g (i:=(x.f.g 5).toNat) (by omega)
  try simp +decide only [B4,F2,Nat.reduceAdd,Int.reduceLE,Int.reduceLT,Int.reduceToNat,J0,G5,B0,A1.al H1,wg]
  refine A0 (S8 H1 λh2 o2=>?_)
  have H2:=A1.old H1 o2
  have W2:=W.old o2
  have wf2:=W2.f
  have wg2:=W2.g (i:=(x.f.g 5).toNat) (by omega)
  try simp +decide only [B4,F2,Nat.reduceAdd,Int.reduceLE,Int.reduceLT,Int.reduceToNat,J0,G5,B0,A1.al H2,wf2,wg2]
  refine A0 (Df H2 (E8 P _ _) (B.g 6) O.st λh3 H3=>?_)
  refine ss H3 ?_
  exact A1.stP H3 λh5 H5=>k h5 (A1.drp (A1.none H5))
 rw [if_neg c] at k
 refine A4 (λc=>?_) (λc=>?_)
 ·rw [if_pos c] at k
  have hr:=hr2 (by omega)
  try simp +decide only [B4,F2,Nat.reduceAdd,Int.reduceLE,Int.reduceLT,Int.reduceToNat,J0,G5,B0,A1.al H1,wf]
  refine ⟨by omega,by omega,?_⟩
  have wg:=W.g (i:=(x.f.g 5).toNat) (by omega)
  try simp +decide only [B4,F2,Nat.reduceAdd,Int.reduceLE,Int.reduceLT,Int.reduceToNat,J0,G5,B0,A1.al H1,wf,wg]
  refine ⟨by omega,by omega,?_⟩
  try simp +decide only [B4,F2,Nat.reduceAdd,Int.reduceLE,Int.reduceLT,Int.reduceToNat,J0,G5,B0,A1.al H1,wf,wg]
  refine A0 (S8 H1 λh2 o2=>?_)
  have H2:=A1.old H1 o2
  have W2:=W.old o2
  have wf2:=W2.f
  have wg2:=W2.g (i:=(x.f.g 5).toNat) (by omega)
  try simp +decide only [B4,F2,Nat.reduceAdd,Int.reduceLE,Int.reduceLT,Int.reduceToNat,J0,G5,B0,A1.al H2,wf2,wg2]
  refine A0 (Df H2 (E8 P _ _) (A1.woU H2 _) O.st λh3 H3=>?_)
  refine ss H3 ?_
  refine C7 (λc3=>?_) (λc3=>?_)
  ·rw [if_pos c3] at k
   refine A1.stR (i:=5) H3 rfl (R7 _) λh4 H4=>?_
   try simp +decide only [B4,F2,Nat.reduceAdd,Int.reduceLE,Int.reduceLT,Int.reduceToNat,J0,G5,B0,A1.al H4]
   exact A1.stP H4 λh5 H5=>k h5 (A1.drp (A1.none H5))
  ·rw [if_neg (by rw [c3];simp)] at k
   exact A0 (Fi H3 [x.f.g 4] rfl (W5 (B.g 4)) rfl (show x.t.fr.length < _ by omega) λh4 b' o' _ _ H4=>k h4 (A1.drp (A1.none H4)))
 rw [if_neg c] at k
 exact k h1 (A1.drp (A1.none H1))
theorem Pj (H:A7 h (A1 M T tv (some (b,o)) x R)) (O:Ok x) (k:∀h',A7 h' (A1 M T tv none (Ak x) R)->K tQ h') :
  A5 Tryz.prog 171 #[rV M T b o] h K:=by
 refine call171 ?_
 unfold F171 g171 cf bd lP lI nP G3
 have B:=A1.fB H
 have P:=A1.pl H
 have hd:=O.fr
 unfold Ak at k
 dsimp only at k
 have H1:=A1.new H (oQ #[mP M,mP T,fP b o] 199);generalize h.push (oQ #[mP M,mP T,fP b o] 199)=h1 at *;generalize h.size=N at *
 refine ss H1 ?_
 refine A4 (λc=>?_) (λc=>?_)
 ·rw [if_pos c] at k
  refine A0 (JJ H1 O.st λh2 H2=>?_)
  refine ss H2 ?_
  refine C7 (λc3=>?_) (λc3=>?_)
  ·rw [if_pos c3] at k
   have ef:(x.drop1 (x.f.g 2)).2.f=x.f:=rfl
   try simp +decide only [B4,F2,Nat.reduceAdd,Int.reduceLE,Int.reduceLT,Int.reduceToNat,J0,G5,B0,A1.al H2,ef]
   exact A0 (Fi H2 [x.f.g 4] rfl (W5 (B.g 4)) rfl (show x.t.fr.length < _ by omega) λh4 b' o' _ _ H4=>k h4 (A1.drp (A1.none H4)))
  ·rw [if_neg (by rw [c3];simp)] at k
   exact A1.stP H2 λh5 H5=>k h5 (A1.drp (A1.none H5))
 rw [if_neg c] at k
 refine A4 (λc=>?_) (λc=>?_)
 ·rw [if_pos c] at k
  exact A0 (Fi H1 [x.f.g 2] rfl (W5 (B.g 2)) rfl (by omega) λh4 b' o' _ _ H4=>k h4 (A1.drp (A1.none H4)))
 ·rw [if_neg c] at k
  exact A0 (Fj H1 U0 U0 U0 (by omega) λh5 b' o' H5=>k h5 (A1.drp (A1.none H5)))
structure SR7 (x:A9):Prop where
 L:RL x
 a:x.f.pc=10->x.f.g 5 < x.t.pred.length
 b:x.f.pc=12->x.f.g 3<=x.t.pred.length
 c:13<=x.f.pc->x.f.pc<=14->x.f.g 5 < x.t.pred.length
theorem Sb (H:A7 h (A1 M T tv (some (b,o)) x R)) (O:Ok x) (S:SR7 x) (k:∀h',A7 h' (A1 M T tv none (BN x) R)->K tQ h') :
  A5 Tryz.prog 113 #[rV M T b o] h K:=by
 refine call113 ?_
 unfold F113 g113 cf lP lI nP L1
 unfold BN at k
 have H1:=A1.new H (oQ #[mP M,mP T,fP b o] 199);generalize h.push (oQ #[mP M,mP T,fP b o] 199)=h1 at *;generalize h.size=N at *
 refine ss H1 ?_
 refine A4 (λc=>?_) (λc=>?_)
 ·rw [if_pos c] at k
  exact A0 (Sa H1 O λh2 H2=>k h2 (A1.drp H2))
 rw [if_neg c] at k
 refine A4 (λc=>?_) (λc=>?_)
 ·rw [if_pos c] at k
  exact A0 (VL H1 O λh2 H2=>k h2 (A1.drp H2))
 rw [if_neg c] at k
 refine A4 (λc=>?_) (λc=>?_)
 ·rw [if_pos c] at k
  exact A0 (Ph H1 O S.L S.a λh2 H2=>k h2 (A1.drp H2))
 rw [if_neg c] at k
 refine A4 (λc=>?_) (λc=>?_)
 ·rw [if_pos c] at k
  exact A0 (Pi H1 O S.L S.b (λhh=>S.c hh c) λh2 H2=>k h2 (A1.drp H2))
 rw [if_neg c] at k
 exact A0 (Pj H1 O λh2 H2=>k h2 (A1.drp H2))
end
end
end Go.Proofs.YtahpbclnkofhfaaGreat
