/- Part 9 of what the proofs of this seat rest on: see the last text of the claim. -/
import Derived.Test.YtahpbclnkofhfaaGreatQcd8117312422
import Derived.Test.YtahpbclnkofhfaaGreatProg
set_option linter.unusedSimpArgs false
set_option linter.unusedVariables false
set_option linter.ambiguousOpen false
set_option maxRecDepth 20000
open Go.Proofs.Tryz (prog)
open Go.IntKind (wrap)
namespace Go.Proofs.YtahpbclnkofhfaaGreat
section
set_option maxRecDepth 100000
variable {K:kQ} {h:A2}
def F63 (K:kQ) (h:A2) (xa xb:rQ):Prop:=
 (cf 105 #[pQ xb] h λa b=>C9 a λa=>R3 λI3=>(D4 (Option.isNone a) (I3 [dQ true] b) (I3 [dQ (Option.isNone xa)] b))/\(∀(b:vQ) (c:G4) (c:A2),(I3 [b] c)->(asBool b λb=>D4 b (K tQ c) (C7 (c.push (oQ #[pQ none,pQ none,pQ none] 187)) (aQ c.size) (pQ xa) λb=>C7 b ⟨c.size,1,none⟩ (pQ xb) λb=>C7 b ⟨c.size,2,none⟩ (pQ a) λb=>R3 λI11=>(nP a λd=>lI .i64 b (d.add 1) λd=>D4 (d == 90) (nP a λd=>lI .i64 b d λd=>D4 (decide (d >= 11)) (nP a λe=>lI .i64 b e λe=>I11 [dQ (decide (e<=13)),dQ (decide (d >= 11)),dQ (decide (e<=13))] b) (I11 [dQ false,dQ (decide (d >= 11)),dQ false] b)) (I11 [dQ false,dQ false,dQ false] b))/\(∀(b d e:vQ) (f:G4) (f:A2),(I11 [b,d,e] f)->(asBool b λb=>D4 b (nP a λb=>bd 7 10 (lI .u64 f (b.add 9) λb=>nP a λd=>bd 8 10 (lI .u64 f (d.add 10) λd=>nP a λe=>bd 9 10 (lI .u64 f (e.add 11) λe=>cf 106 #[pQ xb,lQ (some (aQ f.size)) 3 3] (f.push (oQ #[uQ b,uQ d,uQ e] 178)) λb b=>K tQ b)))) (nP a λb=>lI .i64 f b λb=>D4 (b == 10) (M0 f c.size λb d e=>cf 107 #[.agg #[b,d,e]] f λb b=>K tQ b) (nP a λb=>lI .i64 f b λb=>D4 (b == 11) (M0 f c.size λb d e=>cf 108 #[.agg #[b,d,e]] f λb b=>K tQ b) (R3 λI54=>(nP a λb=>lI .i64 f b λb=>D4 (b == 12) (I54 [dQ true,dQ true] f) (nP a λb=>lI .i64 f b λb=>I54 [dQ (b == 13),dQ (b == 13)] f))/\(∀(b d:vQ) (e:G4) (e:A2),(I54 [b,d] e)->(asBool b λb=>D4 b (M0 e c.size λb d f=>cf 109 #[.agg #[b,d,f]] e λb b=>K tQ b) (nP a λa=>lI .i64 e a λa=>D4 (a == 14) (M0 e c.size λa b c=>cf 110 #[.agg #[a,b,c]] e λa a=>K tQ a) (cf 111 #[pQ xa,pQ xb] e λa a=>K tQ a)))))))))))))
theorem call63 {xa xb:rQ} (H:F63 K h xa xb):A4 prog 63 #[(pQ xa),(pQ xb)] h K:=
 cQ Tryz.func63 H
abbrev g107 (K:kQ) (h H1:A2):Prop:=
 (lP H1 ⟨h.size,2,none⟩ λa=>nP a λa=>lI .i64 H1 (a.add 1) λa=>D4 (a == 0) (M0 H1 h.size λa b c=>M0 H1 h.size λd e f=>lP H1 ⟨h.size,2,none⟩ λg=>nP g λg=>bd 0 10 (lI .u64 H1 (g.add 2) λg=>cf 145 #[.agg #[d,e,f],uQ g] H1 λd e=>asInt .i64 d λd=>ce e h.size 0 a (ce e h.size 1 b (ce e h.size 2 c (((A3 (e.push (oQ #[uQ 1,uQ (wrap .u64 d)] 178)) (aQ h.size))=(some a))/\(((A3 (e.push (oQ #[uQ 1,uQ (wrap .u64 d)] 178)) ⟨h.size,1,none⟩)=(some b))/\(((A3 (e.push (oQ #[uQ 1,uQ (wrap .u64 d)] 178)) ⟨h.size,2,none⟩)=(some c))/\(cf 144 #[.agg #[a,b,c],iQ 1,iQ 3,lQ (some (aQ e.size)) 2 2] (e.push (oQ #[uQ 1,uQ (wrap .u64 d)] 178)) λa a=>K tQ a)))))))) (lP H1 ⟨h.size,1,none⟩ λa=>nP a λa=>bd 0 3 (lI .u64 H1 (a.add 2) λa=>cf 146 #[uQ a] H1 λb c=>asInt .i64 b λb=>D4 (b == 0) (lP c ⟨h.size,1,none⟩ λb=>cf 106 #[pQ b,lQ (some (aQ c.size)) 2 2] (c.push (oQ #[uQ a,uQ 1099511627776] 178)) λb b=>K tQ b) (D2 c ⟨h.size,1,none⟩ λb=>C9 b λd=>D2 c (aQ h.size) λe=>C9 e λf=>M0 c h.size λg i j=>cf 148 #[.agg #[g,i,j],uQ a,iQ 0] c λc g=>asInt .i64 c λc=>ce g h.size 0 e (ce g h.size 1 b (cf 147 #[pQ f,iQ c] g λc e=>asInt .u64 c λc=>ce e h.size 1 b (((A3 (e.push (oQ #[uQ a,uQ c] 178)) ⟨h.size,1,none⟩)=(some b))/\(cf 106 #[pQ d,lQ (some (aQ e.size)) 2 2] (e.push (oQ #[uQ a,uQ c] 178)) λa a=>K tQ a))))))))
def F107 (K:kQ) (h:A2) (xa xb xc:rQ):Prop:=
 (g107 K h (h.push (oQ #[pQ xa,pQ xb,pQ xc] 187)))
theorem call107 {xa xb xc:rQ} (H:F107 K h xa xb xc):A4 prog 107 #[(.agg #[(pQ xa),(pQ xb),(pQ xc)])] h K:=
 cQ Tryz.func107 H
abbrev g108 (K:kQ) (h H1:A2):Prop:=
 (lP H1 ((aQ h.size).add 2) λa=>nP a λa=>lI .i64 H1 (a.add 1) λa=>D4 (decide (a<=3)) (M0 H1 h.size λa b c=>cf 149 #[.agg #[a,b,c]] H1 λa a=>K tQ a) (lP H1 ((aQ h.size).add 2) λa=>nP a λa=>lI .i64 H1 (a.add 1) λa=>D4 (decide (a<=7)) (M0 H1 h.size λa b c=>cf 150 #[.agg #[a,b,c]] H1 λa a=>K tQ a) (lP H1 ((aQ h.size).add 2) λa=>nP a λa=>lI .i64 H1 (a.add 1) λa=>D4 (decide (a<=9)) (M0 H1 h.size λa b c=>cf 151 #[.agg #[a,b,c]] H1 λa a=>K tQ a) (M0 H1 h.size λa b c=>cf 152 #[.agg #[a,b,c]] H1 λa a=>K tQ a))))
def F108 (K:kQ) (h:A2) (xa xb xc:rQ):Prop:=
 (g108 K h (h.push (oQ #[pQ xa,pQ xb,pQ xc] 193)))
theorem call108 {xa xb xc:rQ} (H:F108 K h xa xb xc):A4 prog 108 #[(.agg #[(pQ xa),(pQ xb),(pQ xc)])] h K:=
 cQ Tryz.func108 H
abbrev g109 (K:kQ) (h H1:A2):Prop:=
 (lP H1 ((aQ h.size).add 2) λa=>I8 H1 (aQ h.size) λb c d=>cf 153 #[.agg #[b,c,d],iQ 0] H1 λb c=>asInt .u64 b λb=>nP a λd=>lI .i64 c (d.add 1) λd=>D4 (d == 4) (D2 c (aQ h.size) λe=>C9 e λf=>I8 c (aQ h.size) λg i j=>nP a λk=>cf 148 #[.agg #[g,i,j],uQ b,iQ 2] c λg i=>asInt .i64 g λg=>ce i h.size 0 e (cf 147 #[pQ f,iQ g] i λe f=>asInt .u64 e λe=>bd 3 10 (C7 f (k.add 5) (uQ e) λe=>nP a λf=>C7 e (f.add 1) (iQ 5) λe=>K tQ e))) (D4 (d == 5) (nP a λe=>C7 c (e.add 1) (iQ 0) λe=>I8 e (aQ h.size) λf g i=>nP a λj=>bd 3 10 (lI .u64 e (j.add 5) λj=>cf 154 #[.agg #[f,g,i],uQ 1,uQ b,iQ (wrap .i64 j),dQ true] e λe f=>asBool e λe=>D4 e (I8 f (aQ h.size) λe g i=>cf 144 #[.agg #[e,g,i],iQ 6,iQ 14,lQ (some (aQ f.size)) 1 1] (f.push (oQ #[uQ 1] 178)) λe e=>K tQ e) (K tQ f))) (D4 (d == 6) (I8 c (aQ h.size) λe f g=>cf 146 #[uQ b] c λb i=>asInt .i64 b λb=>ce i h.size 0 e (((A3 i ((aQ h.size).add 1))=(some f))/\(((A3 i ((aQ h.size).add 2))=(some g))/\(((A3 (i.push (oQ #[uQ (wrap .u64 b)] 178)) (aQ h.size))=(some e))/\(((A3 (i.push (oQ #[uQ (wrap .u64 b)] 178)) ((aQ h.size).add 1))=(some f))/\(((A3 (i.push (oQ #[uQ (wrap .u64 b)] 178)) ((aQ h.size).add 2))=(some g))/\(cf 144 #[.agg #[e,f,g],iQ 7,iQ 5,lQ (some (aQ i.size)) 1 1] (i.push (oQ #[uQ (wrap .u64 b)] 178)) λb b=>K tQ b))))))) (D4 (d == 7) (I8 c (aQ h.size) λb d e=>nP a λf=>bd 1 10 (lI .u64 c (f.add 3) λf=>nP a λa=>bd 2 10 (lI .u64 c (a.add 4) λa=>cf 155 #[.agg #[b,d,e],uQ 2,uQ f,uQ a] c λa a=>K tQ a))) (M0 c h.size λa b d=>cf 156 #[.agg #[a,b,d]] c λa a=>K tQ a)))))
def F109 (K:kQ) (h:A2) (xa xb xc:rQ):Prop:=
 (g109 K h (h.push (oQ #[pQ xa,pQ xb,pQ xc] 194)))
theorem call109 {xa xb xc:rQ} (H:F109 K h xa xb xc):A4 prog 109 #[(.agg #[(pQ xa),(pQ xb),(pQ xc)])] h K:=
 cQ Tryz.func109 H
abbrev g110 (K:kQ) (h H1:A2):Prop:=
 (lP H1 ((aQ h.size).add 2) λa=>nP a λb=>bd 0 10 (lI .u64 H1 (b.add 2) λb=>nP a λc=>lI .i64 H1 (c.add 1) λc=>D4 (c == 4) (I8 H1 (aQ h.size) λd e f=>cf 144 #[.agg #[d,e,f],iQ 5,iQ 10,lQ (some (aQ H1.size)) 1 1] (H1.push (oQ #[uQ (wrap .u64 (2*b))] 178)) λd d=>K tQ d) (D4 (c == 5) (M0 H1 h.size λd e f=>cf 157 #[.agg #[d,e,f],iQ 3,iQ 6,uQ (wrap .u64 (2*b))] H1 λd d=>R3 λI18=>(nP a λe=>lI .i64 d (e.add 1) λe=>D4 (e == 6) (lP d ((aQ h.size).add 1) λe=>cf 105 #[pQ e] d λe f=>C9 e λe=>To prog .eql 184 e a f λe f=>asBool e λe=>I18 [dQ e] f) (I18 [dQ false] d))/\(∀(d:vQ) (e:G4) (e:A2),(I18 [d] e)->(asBool d λd=>D4 d (I8 e (aQ h.size) λd f g=>cf 144 #[.agg #[d,f,g],iQ 6,iQ 10,lQ (some (aQ e.size)) 1 1] (e.push (oQ #[uQ (wrap .u64 ((wrap .u64 (2*b))+1))] 178)) λd d=>K tQ d) (K tQ e)))) (D4 (c == 6) (M0 H1 h.size λd e f=>cf 157 #[.agg #[d,e,f],iQ 5,iQ 7,uQ (wrap .u64 ((wrap .u64 (2*b))+1))] H1 λd d=>K tQ d) (D4 (c == 7) (R3 λI44=>(nP a λc=>bd 4 10 (lI .u64 H1 (c.add 6) λc=>nP a λd=>bd 6 10 (lI .u64 H1 (d.add 8) λd=>D4 (decide (c<=d)) (nP a λc=>bd 4 10 (lI .u64 H1 (c.add 6) λc=>nP a λd=>bd 2 10 (lI .u64 H1 (d.add 4) λd=>I44 [dQ (decide (c < d)),dQ (decide (c < d))] H1))) (I44 [dQ false,dQ false] H1))))/\(∀(c d:vQ) (e:G4) (e:A2),(I44 [c,d] e)->(asBool c λc=>D4 c (M0 e h.size λc d f=>cf 158 #[.agg #[c,d,f],iQ 3,uQ (wrap .u64 (2*b))] e λc c=>K tQ c) (R3 λI67=>(nP a λc=>bd 6 10 (lI .u64 e (c.add 8) λc=>nP a λd=>bd 4 10 (lI .u64 e (d.add 6) λd=>D4 (decide (c < d)) (nP a λc=>bd 6 10 (lI .u64 e (c.add 8) λc=>nP a λa=>bd 2 10 (lI .u64 e (a.add 4) λa=>I67 [dQ (decide (c < a)),dQ (decide (c < a))] e))) (I67 [dQ false,dQ false] e))))/\(∀(a c:vQ) (d:G4) (d:A2),(I67 [a,c] d)->(asBool a λa=>D4 a (M0 d h.size λa c e=>cf 158 #[.agg #[a,c,e],iQ 5,uQ (wrap .u64 ((wrap .u64 (2*b))+1))] d λa a=>K tQ a) (M0 d h.size λa b c=>cf 159 #[.agg #[a,b,c]] d λa a=>K tQ a))))))) (M0 H1 h.size λa b c=>cf 160 #[.agg #[a,b,c]] H1 λa a=>K tQ a))))))
def F110 (K:kQ) (h:A2) (xa xb xc:rQ):Prop:=
 (g110 K h (h.push (oQ #[pQ xa,pQ xb,pQ xc] 195)))
theorem call110 {xa xb xc:rQ} (H:F110 K h xa xb xc):A4 prog 110 #[(.agg #[(pQ xa),(pQ xb),(pQ xc)])] h K:=
 cQ Tryz.func110 H
abbrev g144 (K:kQ) (h H1:A2) (xa xb:Int) (xc:rQ) (xd xe:Nat):Prop:=
 (lP H1 ⟨h.size,2,none⟩ λa=>nP a λa=>C7 H1 (a.add 1) (iQ xa) λa=>lP a ⟨h.size,1,none⟩ λb=>cf 130 #[pQ b,iQ xb,lQ xc xd xe] a λa a=>K tQ a)
def F144 (K:kQ) (h:A2) (xa xb xc:rQ) (xd xe:Int) (xf:rQ) (xg xh:Nat):Prop:=
 (g144 K h (h.push (oQ #[pQ xa,pQ xb,pQ xc] 187)) xd xe xf xg xh)
theorem call144 {xa xb xc:rQ} {xd xe:Int} {xf:rQ} {xg xh:Nat} (H:F144 K h xa xb xc xd xe xf xg xh):A4 prog 144 #[(.agg #[(pQ xa),(pQ xb),(pQ xc)]),(iQ xd),(iQ xe),(lQ xf xg xh)] h K:=
 cQ Tryz.func144 H
abbrev g145 (K:kQ) (h H1:A2) (xa:Int):Prop:=
 (lP H1 (aQ h.size) λa=>cf 79 #[pQ a] H1 λa b=>asAgg a λa=>G3 a 15 (O8 a λa c d e f g i j k l m n o p q=>cf 207 #[.agg #[a,c,d,e,f,g,i,j,k,l,m,n,o,p,q],iQ (wrap .i64 xa)] b λa b=>asInt .i64 a λa=>K (iQ a) b))
def F145 (K:kQ) (h:A2) (xa xb xc:rQ) (xd:Int):Prop:=
 (g145 K h (h.push (oQ #[pQ xa,pQ xb,pQ xc] 187)) xd)
theorem call145 {xa xb xc:rQ} {xd:Int} (H:F145 K h xa xb xc xd):A4 prog 145 #[(.agg #[(pQ xa),(pQ xb),(pQ xc)]),(uQ xd)] h K:=
 cQ Tryz.func145 H
abbrev g148 (K:kQ) (h H1:A2) (xa xb:Int):Prop:=
 (lP H1 (aQ h.size) λa=>cf 79 #[pQ a] H1 λa b=>asAgg a λa=>G3 a 15 (O8 a λa c d e f g i j k l m n o p q=>cf 146 #[uQ xa] b λb r=>asInt .i64 b λb=>cf 143 #[.agg #[a,c,d,e,f,g,i,j,k,l,m,n,o,p,q],iQ b,iQ xb] r λa b=>asInt .i64 a λa=>K (iQ a) b))
def F148 (K:kQ) (h:A2) (xa xb xc:rQ) (xd xe:Int):Prop:=
 (g148 K h (h.push (oQ #[pQ xa,pQ xb,pQ xc] 187)) xd xe)
theorem call148 {xa xb xc:rQ} {xd xe:Int} (H:F148 K h xa xb xc xd xe):A4 prog 148 #[(.agg #[(pQ xa),(pQ xb),(pQ xc)]),(uQ xd),(iQ xe)] h K:=
 cQ Tryz.func148 H
abbrev g149 (K:kQ) (h H1:A2):Prop:=
 (lP H1 ((aQ h.size).add 2) λa=>nP a λb=>lI .i64 H1 (b.add 1) λb=>D4 (b == 0) (I8 H1 (aQ h.size) λc d e=>cf 144 #[.agg #[c,d,e],iQ 1,iQ 1,lQ none 0 0] H1 λc c=>K tQ c) (D4 (b == 1) (lP H1 ((aQ h.size).add 1) λc=>nP c λc=>bd 0 3 (lI .u64 H1 (c.add 2) λc=>nP a λd=>bd 2 10 (C7 H1 (d.add 4) (uQ c) λc=>nP a λd=>bd 2 10 (lI .u64 c (d.add 4) λd=>D4 (d != 0) (nP a λd=>C7 c (d.add 1) (iQ 2) λd=>K tQ d) (R3 λI22=>(nP a λd=>bd 3 10 (lI .u64 c (d.add 5) λd=>D4 (d == 0) (lP c ((aQ h.size).add 1) λd=>nP d λd=>cf 211 #[pQ (some (d.add 8))] c λd e=>asInt .i64 d λd=>I22 [dQ (decide (d > 0)),dQ (decide (d > 0))] e) (I22 [dQ false,dQ false] c)))/\(∀(c d:vQ) (e:G4) (e:A2),(I22 [c,d] e)->(asBool c λc=>D4 c (nP a λc=>bd 3 10 (C7 e (c.add 5) (uQ 1) λc=>I8 c (aQ h.size) λd f g=>cf 144 #[.agg #[d,f,g],iQ 0,iQ 6,lQ none 0 0] c λc c=>K tQ c)) (I8 e (aQ h.size) λc d f=>cf 155 #[.agg #[c,d,f],uQ 1,uQ 0,uQ 0] e λc c=>K tQ c)))))))) (D4 (b == 2) (D2 H1 (aQ h.size) λc=>C9 c λd=>lP H1 (aQ h.size) λe=>nP a λf=>bd 2 10 (D2 H1 (f.add 4) λg=>asInt .u64 g λi=>nP a λj=>bd 0 10 (D2 H1 (j.add 2) λk=>asInt .u64 k λl=>cf 79 #[pQ e] H1 λe m=>asAgg e λe=>G3 e 15 (O8 e λe n o p q r s t u v w x y z A=>((A3 m (j.add 2))=(some k))/\(((A3 m (f.add 4))=(some g))/\(ce m h.size 0 c (cf 143 #[.agg #[e,n,o,p,q,r,s,t,u,v,w,x,y,z,A],iQ (wrap .i64 i),iQ 0] m λe f=>asInt .i64 e λe=>((A3 f (j.add 2))=(some k))/\(ce f h.size 0 c (cf 212 #[pQ d,iQ e,uQ l] f λc c=>nP a λd=>C7 c (d.add 1) (iQ 3) λc=>K tQ c))))))))) (D4 (b == 3) (D2 H1 (aQ h.size) λb=>C9 b λc=>lP H1 (aQ h.size) λd=>nP a λe=>bd 2 10 (D2 H1 (e.add 4) λf=>asInt .u64 f λg=>nP a λi=>bd 1 10 (D2 H1 (i.add 3) λj=>asInt .u64 j λk=>cf 79 #[pQ d] H1 λd l=>asAgg d λd=>G3 d 15 (O8 d λd m n o p q r s t u v w x y z=>((A3 l (i.add 3))=(some j))/\(((A3 l (e.add 4))=(some f))/\(ce l h.size 0 b (cf 143 #[.agg #[d,m,n,o,p,q,r,s,t,u,v,w,x,y,z],iQ (wrap .i64 g),iQ 1] l λd e=>asInt .i64 d λd=>((A3 e (i.add 3))=(some j))/\(ce e h.size 0 b (cf 212 #[pQ c,iQ d,uQ k] e λb b=>nP a λc=>bd 3 10 (C7 b (c.add 5) (uQ 0) λb=>nP a λa=>C7 b (a.add 1) (iQ 4) λa=>K tQ a)))))))))) (K tQ H1)))))
def F149 (K:kQ) (h:A2) (xa xb xc:rQ):Prop:=
 (g149 K h (h.push (oQ #[pQ xa,pQ xb,pQ xc] 193)))
theorem call149 {xa xb xc:rQ} (H:F149 K h xa xb xc):A4 prog 149 #[(.agg #[(pQ xa),(pQ xb),(pQ xc)])] h K:=
 cQ Tryz.func149 H
abbrev g150 (K:kQ) (h H1:A2):Prop:=
 (lP H1 ((aQ h.size).add 2) λa=>lP H1 (aQ h.size) λb=>cf 79 #[pQ b] H1 λb c=>asAgg b λb=>G3 b 15 (O8 b λb d e f g i j k l m n o p q r=>cf 139 #[.agg #[b,d,e,f,g,i,j,k,l,m,n,o,p,q,r]] c λb c=>asAgg b λb=>G3 b 7 (Jv b λb d e f g i j=>C7 (c.push (oQ Dp 23)) (aQ c.size) b λb=>C7 b ⟨c.size,1,none⟩ d λb=>C7 b ⟨c.size,2,none⟩ e λb=>C7 b ⟨c.size,3,none⟩ f λb=>C7 b ⟨c.size,4,none⟩ g λb=>C7 b ⟨c.size,5,none⟩ i λb=>C7 b ⟨c.size,6,none⟩ j λb=>nP a λd=>lI .i64 b (d.add 1) λd=>D4 (d == 4) (lP b (aQ h.size) λe=>nP a λf=>cf 147 #[pQ e,iQ 2] b λe g=>asInt .u64 e λe=>bd 4 10 (C7 g (f.add 6) (uQ e) λe=>nP a λf=>bd 4 10 (lI .u64 e (f.add 6) λf=>lP e (aQ h.size) λg=>nP a λi=>cf 214 #[pQ g] e λe g=>C9 e λe=>cf 216 #[iQ (wrap .i64 f)] g λg j=>asInt .i64 g λg=>cf 215 #[pQ e,iQ g] j λe g=>asInt .i64 e λe=>cf 213 #[iQ (wrap .i64 f),iQ e] g λe f=>asInt .i64 e λe=>bd 5 10 (C7 f (i.add 7) (uQ (wrap .u64 e)) λe=>nP a λf=>C7 e (f.add 1) (iQ 5) λe=>K tQ e)))) (D4 (d == 5) (I8 b (aQ h.size) λe f g=>nP a λi=>bd 5 10 (lI .u64 b (i.add 7) λi=>((A3 (b.push (oQ #[uQ i] 178)) (aQ h.size))=(some e))/\(((A3 (b.push (oQ #[uQ i] 178)) ((aQ h.size).add 1))=(some f))/\(((A3 (b.push (oQ #[uQ i] 178)) ((aQ h.size).add 2))=(some g))/\(cf 144 #[.agg #[e,f,g],iQ 6,iQ 10,lQ (some (aQ b.size)) 1 1] (b.push (oQ #[uQ i] 178)) λe e=>K tQ e))))) (D4 (d == 6) (lP b ((aQ h.size).add 1) λe=>nP e λe=>bd 1 3 (lI .u64 b (e.add 3) λe=>nP a λf=>bd 0 10 (lI .u64 b (f.add 2) λf=>D4 (decide (e >= f)) (M0 b h.size λe f g=>nP a λi=>bd 4 10 (lI .u64 b (i.add 6) λi=>cf 218 #[iQ (wrap .i64 i)] b λi j=>asAgg i λi=>G3 i 2 (de2 i λi k=>ce j h.size 0 e (ce j h.size 1 f (ce j h.size 2 g (cf 217 #[.agg #[e,f,g],.agg #[i,k]] j λe e=>nP a λf=>C7 e (f.add 1) (iQ 8) λe=>K tQ e)))))) (nP a λe=>bd 3 10 (lI .u64 b (e.add 5) λe=>nP a λf=>bd 3 10 (C7 b (f.add 5) (uQ (wrap .u64 (e+1))) λe=>nP a λf=>C7 e (f.add 1) (iQ 4) λe=>nP a λf=>bd 3 10 (lI .u64 e (f.add 5) λf=>lI .i64 e ⟨c.size,5,none⟩ λg=>D4 (decide ((wrap .i64 f) >= g)) (nP a λf=>C7 e (f.add 1) (iQ 7) λf=>K tQ f) (K tQ e)))))))) (D4 (d == 7) (nP a λd=>bd 4 10 (lI .u64 b (d.add 6) λd=>lI .i64 b ⟨c.size,3,none⟩ λc=>D4 (decide ((wrap .i64 d) >= c)) (I8 b (aQ h.size) λc d e=>cf 155 #[.agg #[c,d,e],uQ 1,uQ 0,uQ 0] b λc c=>D2 c ((aQ h.size).add 1) λd=>C9 d λe=>nP a λf=>bd 2 10 (lI .u64 c (f.add 4) λf=>((A3 (c.push (oQ #[uQ f] 178)) ((aQ h.size).add 1))=(some d))/\(cf 130 #[pQ e,iQ 5,lQ (some (aQ c.size)) 1 1] (c.push (oQ #[uQ f] 178)) λc c=>K tQ c))) (lP b (aQ h.size) λc=>nP a λd=>bd 4 10 (lI .u64 b (d.add 6) λd=>nP a λe=>bd 4 10 (lI .u64 b (e.add 6) λe=>cf 219 #[pQ c,iQ 2,uQ d,uQ (wrap .u64 (e+1))] b λc d=>asBool c λc=>nP a λc=>bd 3 10 (C7 d (c.add 5) (uQ 0) λc=>nP a λa=>C7 c (a.add 1) (iQ 4) λa=>K tQ a)))))) (K tQ b)))))))
def F150 (K:kQ) (h:A2) (xa xb xc:rQ):Prop:=
 (g150 K h (h.push (oQ #[pQ xa,pQ xb,pQ xc] 193)))
theorem call150 {xa xb xc:rQ} (H:F150 K h xa xb xc):A4 prog 150 #[(.agg #[(pQ xa),(pQ xb),(pQ xc)])] h K:=
 cQ Tryz.func150 H
abbrev g151 (K:kQ) (h H1:A2):Prop:=
 (M0 H1 h.size λa b c=>cf 220 #[.agg #[a,b,c]] H1 λa b=>asAgg a λa=>G3 a 2 (de2 a λa c=>C7 (b.push (oQ #[iQ 0,iQ 0] 282)) (aQ b.size) a λa=>C7 a ⟨b.size,1,none⟩ c λa=>lP a ((aQ h.size).add 2) λc=>nP c λc=>lI .i64 a (c.add 1) λc=>D4 (c == 8) (Rt a b.size λd e=>cf 221 #[.agg #[d,e]] a λd e=>asBool d λd=>D4 d (lP e ((aQ h.size).add 2) λd=>nP d λd=>C7 e (d.add 1) (iQ 10) λd=>K tQ d) (I8 e (aQ h.size) λd f g=>M0 e h.size λi j k=>Rt e b.size λl m=>cf 223 #[.agg #[l,m]] e λe l=>asInt .i64 e λe=>ce l h.size 0 i (ce l h.size 1 j (ce l h.size 2 k (ce l h.size 0 d (((A3 l ((aQ h.size).add 1))=(some f))/\(((A3 l ((aQ h.size).add 2))=(some g))/\(cf 222 #[.agg #[i,j,k],iQ e] l λe i=>asInt .u64 e λe=>ce i h.size 0 d (((A3 i ((aQ h.size).add 1))=(some f))/\(((A3 i ((aQ h.size).add 2))=(some g))/\(((A3 (i.push (oQ #[uQ e] 178)) (aQ h.size))=(some d))/\(((A3 (i.push (oQ #[uQ e] 178)) ((aQ h.size).add 1))=(some f))/\(((A3 (i.push (oQ #[uQ e] 178)) ((aQ h.size).add 2))=(some g))/\(cf 144 #[.agg #[d,f,g],iQ 9,iQ 10,lQ (some (aQ i.size)) 1 1] (i.push (oQ #[uQ e] 178)) λd d=>K tQ d)))))))))))))) (D4 (c == 9) (M0 a h.size λc d e=>Rt a b.size λb f=>lP a ((aQ h.size).add 1) λg=>nP g λg=>bd 1 3 (lI .u64 a (g.add 3) λg=>lP a ((aQ h.size).add 2) λi=>nP i λi=>bd 0 10 (lI .u64 a (i.add 2) λi=>cf 224 #[.agg #[b,f],dQ (decide (g >= i))] a λb f=>asAgg b λb=>G3 b 2 (de2 b λb g=>ce f h.size 0 c (ce f h.size 1 d (ce f h.size 2 e (cf 217 #[.agg #[c,d,e],.agg #[b,g]] f λb b=>lP b ((aQ h.size).add 2) λc=>nP c λc=>C7 b (c.add 1) (iQ 8) λb=>K tQ b))))))) (K tQ a))))
def F151 (K:kQ) (h:A2) (xa xb xc:rQ):Prop:=
 (g151 K h (h.push (oQ #[pQ xa,pQ xb,pQ xc] 193)))
theorem call151 {xa xb xc:rQ} (H:F151 K h xa xb xc):A4 prog 151 #[(.agg #[(pQ xa),(pQ xb),(pQ xc)])] h K:=
 cQ Tryz.func151 H
abbrev g152 (K:kQ) (h H1:A2):Prop:=
 (lP H1 ((aQ h.size).add 2) λa=>M0 H1 h.size λb c d=>M0 H1 h.size λe f g=>cf 220 #[.agg #[e,f,g]] H1 λe f=>asAgg e λe=>G3 e 2 (de2 e λe g=>ce f h.size 0 b (ce f h.size 1 c (ce f h.size 2 d (asInt .i64 e λe=>cf 222 #[.agg #[b,c,d],iQ e] f λb c=>asInt .u64 b λb=>I8 c (aQ h.size) λd e f=>cf 153 #[.agg #[d,e,f],iQ 3] c λc d=>asInt .u64 c λc=>nP a λe=>lI .i64 d (e.add 1) λe=>D4 (e == 10) (I8 d (aQ h.size) λf g i=>cf 144 #[.agg #[f,g,i],iQ 11,iQ 10,lQ (some (aQ d.size)) 1 1] (d.push (oQ #[uQ b] 178)) λf f=>K tQ f) (D4 (e == 11) (lP d ((aQ h.size).add 1) λf=>nP f λf=>bd 1 3 (lI .u64 d (f.add 3) λf=>nP a λg=>bd 0 10 (lI .u64 d (g.add 2) λg=>D4 (decide (f < g)) (nP a λf=>bd 3 10 (C7 d (f.add 5) (uQ 0) λf=>nP a λg=>C7 f (g.add 1) (iQ 4) λf=>K tQ f)) (lP d ((aQ h.size).add 1) λf=>nP f λf=>bd 0 3 (lI .u64 d (f.add 2) λf=>nP a λg=>bd 3 10 (C7 d (g.add 5) (uQ f) λf=>D2 f (aQ h.size) λg=>C9 g λi=>lP f (aQ h.size) λj=>nP a λk=>bd 2 10 (D2 f (k.add 4) λl=>asInt .u64 l λm=>I8 f (aQ h.size) λn o p=>cf 79 #[pQ j] f λf j=>asAgg f λf=>G3 f 15 (O8 f λf q r s t u v w x y z A B C D=>ce j h.size 0 n (((A3 j ((aQ h.size).add 1))=(some o))/\(((A3 j ((aQ h.size).add 2))=(some p))/\(((A3 j (k.add 4))=(some l))/\(ce j h.size 0 g (cf 143 #[.agg #[f,q,r,s,t,u,v,w,x,y,z,A,B,C,D],iQ (wrap .i64 m),iQ 2] j λf j=>asInt .i64 f λf=>ce j h.size 0 n (((A3 j ((aQ h.size).add 1))=(some o))/\(((A3 j ((aQ h.size).add 2))=(some p))/\(ce j h.size 0 g (cf 153 #[.agg #[n,o,p],iQ 3] j λj k=>asInt .u64 j λj=>ce k h.size 0 g (cf 146 #[uQ j] k λj k=>asInt .i64 j λj=>ce k h.size 0 g (cf 212 #[pQ i,iQ f,uQ (wrap .u64 j)] k λf f=>nP a λg=>C7 f (g.add 1) (iQ 13) λf=>D4 (b == 1) (nP a λg=>C7 f (g.add 1) (iQ 12) λg=>K tQ g) (K tQ f)))))))))))))))))))) (D4 (e == 12) (M0 d h.size λf g i=>I8 d (aQ h.size) λj k l=>nP a λm=>bd 2 10 (D2 d (m.add 4) λn=>asInt .u64 n λo=>cf 226 #[uQ c] d λp q=>asBool p λp=>((A3 q (m.add 4))=(some n))/\(ce q h.size 0 j (((A3 q ((aQ h.size).add 1))=(some k))/\(((A3 q ((aQ h.size).add 2))=(some l))/\(dc3 q h.size f g i (cf 154 #[.agg #[j,k,l],uQ 1,uQ c,iQ (wrap .i64 o),dQ p] q λj k=>asBool j λj=>ce k h.size 0 f (ce k h.size 1 g (ce k h.size 2 i (cf 225 #[.agg #[f,g,i],dQ j] k λf f=>K tQ f)))))))))) (D4 (e == 13) (I8 d (aQ h.size) λf g i=>((2:Int)≠0)/\(cf 144 #[.agg #[f,g,i],iQ 14,iQ 10,lQ (some (aQ d.size)) 1 1] (d.push (oQ #[uQ (wrap .u64 (Int.tdiv b 2))] 178)) λf f=>K tQ f)) (D4 (e == 14) (lP d ((aQ h.size).add 1) λe=>nP e λe=>bd 1 3 (lI .u64 d (e.add 3) λe=>nP a λf=>bd 0 10 (lI .u64 d (f.add 2) λf=>D4 (decide (e > f)) (M0 d h.size λe f g=>cf 225 #[.agg #[e,f,g],dQ false] d λe e=>K tQ e) (M0 d h.size λe f g=>D2 d (aQ h.size) λi=>C9 i λj=>I8 d (aQ h.size) λk l m=>nP a λa=>bd 2 10 (D2 d (a.add 4) λn=>asInt .u64 n λo=>I8 d (aQ h.size) λp q r=>((2:Int)≠0)/\(D2 d ((aQ h.size).add 1) λs=>C9 s λt=>nP t λt=>bd 0 3 (D2 d (t.add 2) λu=>asInt .u64 u λv=>cf 145 #[.agg #[k,l,m],uQ b] d λk l=>asInt .i64 k λk=>((A3 l (t.add 2))=(some u))/\(((A3 l ((aQ h.size).add 1))=(some s))/\(ce l h.size 0 p (((A3 l ((aQ h.size).add 1))=(some q))/\(((A3 l ((aQ h.size).add 2))=(some r))/\(((A3 l (a.add 4))=(some n))/\(ce l h.size 0 i (dc3 l h.size e f g (cf 226 #[uQ c] l λl m=>asBool l λl=>((A3 m (t.add 2))=(some u))/\(((A3 m ((aQ h.size).add 1))=(some s))/\(ce m h.size 0 p (((A3 m ((aQ h.size).add 1))=(some q))/\(((A3 m ((aQ h.size).add 2))=(some r))/\(((A3 m (a.add 4))=(some n))/\(ce m h.size 0 i (dc3 m h.size e f g (cf 228 #[uQ c,iQ (wrap .i64 o),dQ l] m λa l=>asInt .u64 a λa=>((A3 l (t.add 2))=(some u))/\(((A3 l ((aQ h.size).add 1))=(some s))/\(ce l h.size 0 p (((A3 l ((aQ h.size).add 1))=(some q))/\(((A3 l ((aQ h.size).add 2))=(some r))/\(ce l h.size 0 i (dc3 l h.size e f g (cf 145 #[.agg #[p,q,r],uQ (wrap .u64 (Int.tdiv b 2))] l λb l=>asInt .i64 b λb=>((A3 l (t.add 2))=(some u))/\(((A3 l ((aQ h.size).add 1))=(some s))/\(ce l h.size 0 i (dc3 l h.size e f g (cf 227 #[pQ j,iQ k,uQ c,uQ a,iQ b,uQ v] l λa b=>asBool a λa=>ce b h.size 0 e (ce b h.size 1 f (ce b h.size 2 g (cf 225 #[.agg #[e,f,g],dQ a] b λa a=>K tQ a))))))))))))))))))))))))))))))))))))) (K tQ d))))))))))
def F152 (K:kQ) (h:A2) (xa xb xc:rQ):Prop:=
 (g152 K h (h.push (oQ #[pQ xa,pQ xb,pQ xc] 193)))
theorem call152 {xa xb xc:rQ} (H:F152 K h xa xb xc):A4 prog 152 #[(.agg #[(pQ xa),(pQ xb),(pQ xc)])] h K:=
 cQ Tryz.func152 H
abbrev g153 (K:kQ) (h H1:A2) (xa:Int):Prop:=
 (lP H1 ⟨h.size,2,none⟩ λa=>nP a λa=>bd xa 10 (D2 H1 (Addr.add (a.add 2) (xa.toNat*1)) λa=>asInt .u64 a λa=>K (uQ a) H1))
def F153 (K:kQ) (h:A2) (xa xb xc:rQ) (xd:Int):Prop:=
 (g153 K h (h.push (oQ #[pQ xa,pQ xb,pQ xc] 187)) xd)
theorem call153 {xa xb xc:rQ} {xd:Int} (H:F153 K h xa xb xc xd):A4 prog 153 #[(.agg #[(pQ xa),(pQ xb),(pQ xc)]),(iQ xd)] h K:=
 cQ Tryz.func153 H
abbrev g154 (K:kQ) (h H1:A2) (xa xb xc:Int) (xd:Bool):Prop:=
 (D2 H1 (aQ h.size) λa=>C9 a λb=>M0 H1 h.size λc d e=>cf 145 #[.agg #[c,d,e],uQ xa] H1 λc d=>asInt .i64 c λc=>ce d h.size 0 a (cf 228 #[uQ xb,iQ xc,dQ xd] d λd e=>asInt .u64 d λd=>ce e h.size 0 a (cf 219 #[pQ b,iQ c,uQ xb,uQ d] e λa b=>asBool a λa=>K (dQ a) b)))
def F154 (K:kQ) (h:A2) (xa xb xc:rQ) (xd xe xf:Int) (xg:Bool):Prop:=
 (g154 K h (h.push (oQ #[pQ xa,pQ xb,pQ xc] 187)) xd xe xf xg)
theorem call154 {xa xb xc:rQ} {xd xe xf:Int} {xg:Bool} (H:F154 K h xa xb xc xd xe xf xg):A4 prog 154 #[(.agg #[(pQ xa),(pQ xb),(pQ xc)]),(uQ xd),(uQ xe),(iQ xf),(dQ xg)] h K:=
 cQ Tryz.func154 H
abbrev g155 (K:kQ) (h H1:A2) (xa xb xc:Int):Prop:=
 (lP H1 ⟨h.size,2,none⟩ λa=>D2 H1 ⟨h.size,2,none⟩ λb=>C9 b λc=>D2 H1 ⟨h.size,2,none⟩ λd=>C9 d λe=>nP a λa=>bd 7 10 (nP c λc=>nP e λe=>C7 H1 (a.add 9) (uQ xa) λa=>ce a h.size 2 d (ce a h.size 2 b (bd 8 10 (C7 a (c.add 10) (uQ xb) λa=>ce a h.size 2 d (bd 9 10 (C7 a (e.add 11) (uQ xc) λa=>M0 a h.size λb c d=>cf 144 #[.agg #[b,c,d],iQ 90,iQ 4,lQ none 0 0] a λa a=>K tQ a)))))))
def F155 (K:kQ) (h:A2) (xa xb xc:rQ) (xd xe xf:Int):Prop:=
 (g155 K h (h.push (oQ #[pQ xa,pQ xb,pQ xc] 187)) xd xe xf)
theorem call155 {xa xb xc:rQ} {xd xe xf:Int} (H:F155 K h xa xb xc xd xe xf):A4 prog 155 #[(.agg #[(pQ xa),(pQ xb),(pQ xc)]),(uQ xd),(uQ xe),(uQ xf)] h K:=
 cQ Tryz.func155 H
abbrev g156 (K:kQ) (h H1:A2):Prop:=
 (lP H1 ((aQ h.size).add 2) λa=>I8 H1 (aQ h.size) λb c d=>cf 153 #[.agg #[b,c,d],iQ 0] H1 λb c=>asInt .u64 b λb=>nP a λd=>lI .i64 c (d.add 1) λd=>D4 (d == 0) (I8 c (aQ h.size) λe f g=>I8 c (aQ h.size) λi j k=>cf 145 #[.agg #[i,j,k],uQ 1] c λi j=>asInt .i64 i λi=>ce j h.size 0 e (((A3 j ((aQ h.size).add 1))=(some f))/\(((A3 j ((aQ h.size).add 2))=(some g))/\(((A3 (j.push (oQ #[uQ 0,uQ (wrap .u64 i)] 178)) (aQ h.size))=(some e))/\(((A3 (j.push (oQ #[uQ 0,uQ (wrap .u64 i)] 178)) ((aQ h.size).add 1))=(some f))/\(((A3 (j.push (oQ #[uQ 0,uQ (wrap .u64 i)] 178)) ((aQ h.size).add 2))=(some g))/\(cf 144 #[.agg #[e,f,g],iQ 1,iQ 3,lQ (some (aQ j.size)) 2 2] (j.push (oQ #[uQ 0,uQ (wrap .u64 i)] 178)) λe e=>K tQ e))))))) (D4 (d == 1) (lP c ((aQ h.size).add 1) λe=>nP e λe=>bd 0 3 (lI .u64 c (e.add 2) λe=>nP a λf=>bd 0 10 (C7 c (f.add 2) (uQ e) λe=>nP a λf=>C7 e (f.add 1) (iQ 2) λe=>I8 e (aQ h.size) λf g i=>cf 153 #[.agg #[f,g,i],iQ 0] e λe f=>asInt .u64 e λe=>cf 226 #[uQ e] f λe f=>asBool e λe=>D4 e (I8 f (aQ h.size) λe g i=>cf 144 #[.agg #[e,g,i],iQ 0,iQ 14,lQ (some (aQ f.size)) 1 1] (f.push (oQ #[uQ 1] 178)) λe e=>K tQ e) (I8 f (aQ h.size) λe g i=>cf 153 #[.agg #[e,g,i],iQ 0] f λe f=>asInt .u64 e λe=>cf 146 #[uQ e] f λe f=>asInt .i64 e λe=>D4 (e == 0) (I8 f (aQ h.size) λe g i=>cf 155 #[.agg #[e,g,i],uQ 3,uQ 0,uQ 0] f λe e=>K tQ e) (K tQ f))))) (D4 (d == 2) (D2 c (aQ h.size) λe=>C9 e λf=>I8 c (aQ h.size) λg i j=>nP a λk=>cf 148 #[.agg #[g,i,j],uQ b,iQ 0] c λg i=>asInt .i64 g λg=>ce i h.size 0 e (cf 147 #[pQ f,iQ g] i λe f=>asInt .u64 e λe=>bd 1 10 (C7 f (k.add 3) (uQ e) λe=>nP a λf=>C7 e (f.add 1) (iQ 3) λe=>K tQ e))) (D4 (d == 3) (D2 c (aQ h.size) λd=>C9 d λe=>I8 c (aQ h.size) λf g i=>nP a λj=>cf 148 #[.agg #[f,g,i],uQ b,iQ 1] c λb f=>asInt .i64 b λb=>ce f h.size 0 d (cf 147 #[pQ e,iQ b] f λb d=>asInt .u64 b λb=>bd 2 10 (C7 d (j.add 4) (uQ b) λb=>nP a λd=>C7 b (d.add 1) (iQ 4) λb=>nP a λd=>lI .i64 b d λd=>D4 (d == 13) (I8 b (aQ h.size) λd e f=>nP a λg=>bd 1 10 (lI .u64 b (g.add 3) λg=>nP a λa=>bd 2 10 (lI .u64 b (a.add 4) λa=>cf 155 #[.agg #[d,e,f],uQ 2,uQ g,uQ a] b λa a=>K tQ a))) (K tQ b)))) (K tQ c)))))
def F156 (K:kQ) (h:A2) (xa xb xc:rQ):Prop:=
 (g156 K h (h.push (oQ #[pQ xa,pQ xb,pQ xc] 194)))
theorem call156 {xa xb xc:rQ} (H:F156 K h xa xb xc):A4 prog 156 #[(.agg #[(pQ xa),(pQ xb),(pQ xc)])] h K:=
 cQ Tryz.func156 H
abbrev g157 (K:kQ) (h H1:A2) (xa xb xc:Int):Prop:=
 (lP H1 ((aQ h.size).add 2) λa=>lP H1 ((aQ h.size).add 1) λb=>nP b λb=>bd 0 3 (lI .u64 H1 (b.add 2) λb=>lP H1 ((aQ h.size).add 1) λc=>nP c λc=>bd 1 3 (lI .u64 H1 (c.add 3) λc=>nP a λd=>bd xa 10 (nP a λe=>C7 H1 (Addr.add (d.add 2) (xa.toNat*1)) (uQ b) λb=>((0:Int)<=(wrap .i64 (xa+1)))/\((((wrap .i64 (xa+1)):Int) < 10)/\(C7 b (Addr.add (e.add 2) ((wrap .i64 (xa+1)).toNat*1)) (uQ c) λb=>nP a λa=>C7 b (a.add 1) (iQ xb) λa=>I8 a (aQ h.size) λb c d=>cf 153 #[.agg #[b,c,d],iQ xa] a λa b=>asInt .u64 a λa=>cf 226 #[uQ a] b λa b=>asBool a λa=>D4 a (I8 b (aQ h.size) λa c d=>cf 144 #[.agg #[a,c,d],iQ 0,iQ 14,lQ (some (aQ b.size)) 1 1] (b.push (oQ #[uQ xc] 178)) λa a=>K tQ a) (K tQ b)))))))
def F157 (K:kQ) (h:A2) (xa xb xc:rQ) (xd xe xf:Int):Prop:=
 (g157 K h (h.push (oQ #[pQ xa,pQ xb,pQ xc] 195)) xd xe xf)
theorem call157 {xa xb xc:rQ} {xd xe xf:Int} (H:F157 K h xa xb xc xd xe xf):A4 prog 157 #[(.agg #[(pQ xa),(pQ xb),(pQ xc)]),(iQ xd),(iQ xe),(uQ xf)] h K:=
 cQ Tryz.func157 H
abbrev g158 (K:kQ) (h H1:A2) (xa xb:Int):Prop:=
 (lP H1 ((aQ h.size).add 2) λa=>I8 H1 (aQ h.size) λb c d=>I8 H1 (aQ h.size) λe f g=>cf 153 #[.agg #[b,c,d],iQ 1] H1 λb c=>asInt .u64 b λb=>ce c h.size 0 e (((A3 c ((aQ h.size).add 1))=(some f))/\(((A3 c ((aQ h.size).add 2))=(some g))/\(cf 153 #[.agg #[e,f,g],iQ xa] c λc d=>asInt .u64 c λc=>nP a λe=>C7 d (e.add 1) (iQ 0) λd=>D2 d (aQ h.size) λe=>C9 e λf=>I8 d (aQ h.size) λg i j=>nP a λk=>bd 0 10 (lI .u64 d (k.add 2) λk=>I8 d (aQ h.size) λl m n=>cf 145 #[.agg #[g,i,j],uQ k] d λd g=>asInt .i64 d λd=>ce g h.size 0 l (((A3 g ((aQ h.size).add 1))=(some m))/\(((A3 g ((aQ h.size).add 2))=(some n))/\(ce g h.size 0 e (cf 146 #[uQ c] g λg i=>asInt .i64 g λg=>ce i h.size 0 l (((A3 i ((aQ h.size).add 1))=(some m))/\(((A3 i ((aQ h.size).add 2))=(some n))/\(ce i h.size 0 e (cf 228 #[uQ b,iQ g,dQ false] i λg i=>asInt .u64 g λg=>ce i h.size 0 l (((A3 i ((aQ h.size).add 1))=(some m))/\(((A3 i ((aQ h.size).add 2))=(some n))/\(ce i h.size 0 e (cf 145 #[.agg #[l,m,n],uQ xb] i λi j=>asInt .i64 i λi=>ce j h.size 0 e (cf 146 #[uQ b] j λj k=>asInt .i64 j λj=>ce k h.size 0 e (cf 228 #[uQ c,iQ j,dQ true] k λj k=>asInt .u64 j λj=>ce k h.size 0 e (cf 229 #[pQ f,iQ d,uQ b,uQ g,iQ i,uQ c,uQ j] k λb c=>asBool b λb=>D4 b (nP a λa=>bd 0 10 (C7 c (a.add 2) (uQ xb) λa=>K tQ a)) (K tQ c)))))))))))))))))))))
def F158 (K:kQ) (h:A2) (xa xb xc:rQ) (xd xe:Int):Prop:=
 (g158 K h (h.push (oQ #[pQ xa,pQ xb,pQ xc] 195)) xd xe)
theorem call158 {xa xb xc:rQ} {xd xe:Int} (H:F158 K h xa xb xc xd xe):A4 prog 158 #[(.agg #[(pQ xa),(pQ xb),(pQ xc)]),(iQ xd),(uQ xe)] h K:=
 cQ Tryz.func158 H
abbrev g159 (K:kQ) (h H1:A2):Prop:=
 (I8 H1 (aQ h.size) λa b c=>cf 153 #[.agg #[a,b,c],iQ 1] H1 λa b=>asInt .u64 a λa=>lP b ((aQ h.size).add 2) λc=>nP c λc=>C7 b (c.add 1) (iQ 0) λb=>I8 b (aQ h.size) λc d e=>D2 b ((aQ h.size).add 2) λf=>C9 f λg=>nP g λg=>bd 0 10 (D2 b (g.add 2) λi=>asInt .u64 i λj=>cf 146 #[uQ a] b λb k=>asInt .i64 b λb=>((A3 k (g.add 2))=(some i))/\(((A3 k ((aQ h.size).add 2))=(some f))/\(ce k h.size 0 c (((A3 k ((aQ h.size).add 1))=(some d))/\(((A3 k ((aQ h.size).add 2))=(some e))/\(cf 154 #[.agg #[c,d,e],uQ j,uQ a,iQ b,dQ false] k λa b=>asBool a λa=>D4 a (lP b ((aQ h.size).add 1) λa=>cf 106 #[pQ a,lQ none 0 0] b λa a=>K tQ a) (K tQ b))))))))
def F159 (K:kQ) (h:A2) (xa xb xc:rQ):Prop:=
 (g159 K h (h.push (oQ #[pQ xa,pQ xb,pQ xc] 195)))
theorem call159 {xa xb xc:rQ} (H:F159 K h xa xb xc):A4 prog 159 #[(.agg #[(pQ xa),(pQ xb),(pQ xc)])] h K:=
 cQ Tryz.func159 H
abbrev g160 (K:kQ) (h H1:A2):Prop:=
 (lP H1 ((aQ h.size).add 2) λa=>nP a λb=>lI .i64 H1 (b.add 1) λb=>D4 (b == 0) (I8 H1 (aQ h.size) λc d e=>nP a λf=>bd 0 10 (lI .u64 H1 (f.add 2) λf=>((A3 (H1.push (oQ #[uQ f] 178)) (aQ h.size))=(some c))/\(((A3 (H1.push (oQ #[uQ f] 178)) ((aQ h.size).add 1))=(some d))/\(((A3 (H1.push (oQ #[uQ f] 178)) ((aQ h.size).add 2))=(some e))/\(cf 144 #[.agg #[c,d,e],iQ 1,iQ 10,lQ (some (aQ H1.size)) 1 1] (H1.push (oQ #[uQ f] 178)) λc c=>K tQ c))))) (D4 (b == 1) (lP H1 ((aQ h.size).add 1) λc=>nP c λc=>bd 0 3 (lI .u64 H1 (c.add 2) λc=>lP H1 ((aQ h.size).add 1) λd=>nP d λd=>bd 1 3 (lI .u64 H1 (d.add 3) λd=>nP a λe=>bd 1 10 (nP a λf=>C7 H1 (e.add 3) (uQ c) λc=>bd 2 10 (C7 c (f.add 4) (uQ d) λc=>nP a λd=>C7 c (d.add 1) (iQ 2) λc=>I8 c (aQ h.size) λd e f=>cf 153 #[.agg #[d,e,f],iQ 1] c λc d=>asInt .u64 c λc=>cf 226 #[uQ c] d λc d=>asBool c λc=>D4 (!c) (lP d ((aQ h.size).add 1) λc=>cf 106 #[pQ c,lQ none 0 0] d λc c=>K tQ c) (K tQ d)))))) (D4 (b == 2) (nP a λc=>C7 H1 (c.add 1) (iQ 3) λc=>nP a λd=>bd 0 10 (D2 c (d.add 2) λe=>asInt .u64 e λf=>lP c (aQ h.size) λg=>cf 147 #[pQ g,iQ 2] c λc g=>asInt .u64 c λc=>((A3 g (d.add 2))=(some e))/\(cf 230 #[iQ (wrap .i64 f),iQ (wrap .i64 c)] g λc d=>asBool c λc=>D4 c (nP a λa=>C7 d (a.add 1) (iQ 4) λa=>K tQ a) (K tQ d)))) (D4 (b == 3) (M0 H1 h.size λa b c=>cf 159 #[.agg #[a,b,c]] H1 λa a=>K tQ a) (K tQ H1)))))
def F160 (K:kQ) (h:A2) (xa xb xc:rQ):Prop:=
 (g160 K h (h.push (oQ #[pQ xa,pQ xb,pQ xc] 195)))
theorem call160 {xa xb xc:rQ} (H:F160 K h xa xb xc):A4 prog 160 #[(.agg #[(pQ xa),(pQ xb),(pQ xc)])] h K:=
 cQ Tryz.func160 H
abbrev g217 (K:kQ) (h H1 H2:A2):Prop:=
 (lP H2 ((aQ h.size).add 2) λa=>lI .i64 H2 (aQ H1.size) λb=>((0:Int)<=8)/\(lI .i64 H2 ⟨H1.size,1,none⟩ λc=>nP a λa=>bd 6 10 (C7 H2 (a.add 8) (uQ (wrap .u64 ((((BitVec.ofInt 64 (wrap .u64 ((wrap .u64 b)*256))) ||| (BitVec.ofInt 64 (wrap .u64 c))).toNat:Nat):Int))) λa=>K tQ a)))
def F217 (K:kQ) (h:A2) (xa xb xc:rQ) (xd xe:Int):Prop:=
 (g217 K h (h.push (oQ #[pQ xa,pQ xb,pQ xc] 193)) (Array.push (h.push (oQ #[pQ xa,pQ xb,pQ xc] 193)) (oQ #[iQ xd,iQ xe] 282)))
theorem call217 {xa xb xc:rQ} {xd xe:Int} (H:F217 K h xa xb xc xd xe):A4 prog 217 #[(.agg #[(pQ xa),(pQ xb),(pQ xc)]),(.agg #[(iQ xd),(iQ xe)])] h K:=
 cQ Tryz.func217 H
abbrev g220 (K:kQ) (h H1 H2:A2):Prop:=
 (lP H2 ((aQ h.size).add 2) λa=>nP a λa=>bd 6 10 (lI .u64 H2 (a.add 8) λa=>((0:Int)<=8)/\(lP H2 ((aQ h.size).add 2) λb=>nP b λb=>bd 6 10 (lI .u64 H2 (b.add 8) λb=>C7 H2 (aQ H1.size) (iQ (wrap .i64 (Int.fdiv a 256))) λa=>C7 a ⟨H1.size,1,none⟩ (iQ (wrap .i64 (wrap .u64 ((((BitVec.ofInt 64 b) &&& (BitVec.ofInt 64 255)).toNat:Nat):Int)))) λa=>Rt a H1.size λb c=>K (.agg #[b,c]) a))))
def F220 (K:kQ) (h:A2) (xa xb xc:rQ):Prop:=
 (g220 K h (h.push (oQ #[pQ xa,pQ xb,pQ xc] 193)) (Array.push (h.push (oQ #[pQ xa,pQ xb,pQ xc] 193)) (oQ #[iQ 0,iQ 0] 282)))
theorem call220 {xa xb xc:rQ} (H:F220 K h xa xb xc):A4 prog 220 #[(.agg #[(pQ xa),(pQ xb),(pQ xc)])] h K:=
 cQ Tryz.func220 H
abbrev g222 (K:kQ) (h H1:A2) (xa:Int):Prop:=
 (lP H1 ((aQ h.size).add 2) λa=>nP a λa=>bd 5 10 (lI .u64 H1 (a.add 7) λa=>cf 282 #[iQ (wrap .i64 a),iQ xa] H1 λa b=>asInt .i64 a λa=>K (uQ (wrap .u64 a)) b))
def F222 (K:kQ) (h:A2) (xa xb xc:rQ) (xd:Int):Prop:=
 (g222 K h (h.push (oQ #[pQ xa,pQ xb,pQ xc] 193)) xd)
theorem call222 {xa xb xc:rQ} {xd:Int} (H:F222 K h xa xb xc xd):A4 prog 222 #[(.agg #[(pQ xa),(pQ xb),(pQ xc)]),(iQ xd)] h K:=
 cQ Tryz.func222 H
abbrev g225 (K:kQ) (h H1:A2) (xa:Bool):Prop:=
 (D4 xa (I8 H1 (aQ h.size) λa b c=>cf 155 #[.agg #[a,b,c],uQ 0,uQ 0,uQ 0] H1 λa a=>K tQ a) (lP H1 ((aQ h.size).add 2) λa=>nP a λa=>bd 3 10 (C7 H1 (a.add 5) (uQ 0) λa=>lP a ((aQ h.size).add 2) λb=>nP b λb=>C7 a (b.add 1) (iQ 4) λa=>K tQ a)))
def F225 (K:kQ) (h:A2) (xa xb xc:rQ) (xd:Bool):Prop:=
 (g225 K h (h.push (oQ #[pQ xa,pQ xb,pQ xc] 193)) xd)
theorem call225 {xa xb xc:rQ} {xd:Bool} (H:F225 K h xa xb xc xd):A4 prog 225 #[(.agg #[(pQ xa),(pQ xb),(pQ xc)]),(dQ xd)] h K:=
 cQ Tryz.func225 H
end
section
open Mod
abbrev rV (M T b o:Nat):vQ:=.agg #[mP M,mP T,fP b o]
theorem F4 {p:Pl} (B:Ow p) (n f:Int):iN (p.node n f):=by
 have h1:=B.no
 have h2:=B.wi
 have h3:=B.nd
 have h4:=B.li
 unfold Pl.node
 split
 ·rename_i c
  have:(n - 1)*p.width<=64*11:=OA (by omega) (by omega) (by omega) (by omega)
  have h0:0<=(n - 1)*p.width:=QV (by omega) (by omega)
  constructor <;> omega
 ·constructor <;> omega
theorem UZ {p:Pl} (B:Ow p) (n:Int):iN (p.at n):=by
 have h1:=B.tr
 have h2:=B.si
 have h3:=B.nd
 have h4:=B.li
 unfold Pl.at
 split <;> constructor <;> omega
theorem LD {u v:Int} (h1:U u) (h2:U v):∀w ∈ [u,v],U w:=by
 intro w hw
 simp only [ED,GF,or_false] at hw
 rcases hw with rfl | rfl
 ·exact h1
 ·exact h2
section
variable {K:kQ} {h:A2} {M T b o N:Nat} {tv:vQ} {fo:Option (Nat × Nat)} {x:B9} {R:Hp}
theorem W7 (i:Nat) (hi:Nat.ble (i+1) 10=true) (H:A9 h (A1 M T tv (some (b,o)) x R)) (k:∀h',A9 h' (A1 M T tv (some (b,o)) x R)->K (uQ (x.f.g i)) h') :
  A4 prog 153 #[rV M T b o,iQ (i:Int)] h K:=by
 refine call153 ?_
 unfold F153 g153 bd lP nP
 have H1:=A1.new H (oQ #[mP M,mP T,fP b o] 187);generalize h.push (oQ #[mP M,mP T,fP b o] 187)=h1 at *;generalize h.size=N at *
 have hi':i < 10:=by rw [Ld] at hi;omega
 refine sl H1 ?_
 refine ⟨by omega,by omega,?_⟩
 rw [show o+(2+i)=o+(i+2) by omega,A1.rg H1 hi]
 refine sb ?_
 exact k h1 (A1.drp H1)
theorem Gs (H:A9 h (A1 M T tv (some (b,o)) x R)) {pc fn:Int} {a:rQ} {l c:Nat} {rs:List Int} (A:As R a l c rs) (hl:l<=10) (hd:x.t.fr.length < 1073741823)
  (k:∀h' b' o',¬ (b' = b/\o' = o)->GM h' (some (b,o)) (x.pc pc).f->A9 h' (A1 M T tv (some (b',o')) (x.call pc fn rs) R)->K tQ h') :
  A4 prog 144 #[rV M T b o,iQ pc,iQ fn,lQ a l c] h K:=by
 refine call144 ?_
 unfold F144 g144 cf lP nP
 have H1:=A1.new H (oQ #[mP M,mP T,fP b o] 187);generalize h.push (oQ #[mP M,mP T,fP b o] 187)=h1 at *;generalize h.size=N at *
 refine sl H1 ?_
 refine A1.stP H1 λh2 H2=>?_
 refine sl H2 ?_
 refine A0 (UI H2 A.skip hl (by show (x.t.fr.dropLast ++ [_]).length < _;simp;omega) λh3 b' o' h1 h2 H3=>k h3 b' o' (λe=>h1 b o rfl e) h2 (A1.drp H3))
theorem Sr3 (H:A9 h (A1 M T tv fo x R)) {l:Nat} (rs:List Int) {ty:TypeId} (hr:rs.length=l) (hu:∀v ∈ rs,U v) (hl:Nat.ble l 3=true) (k:∀h',A9 h' (A1 M T tv none (x.pop rs) R)->K tQ h') :
 A4 prog 106 #[mP T,lQ (some (aQ h.size)) l l] (h.push (oQ (V7 rs).toArray ty)) K:=Qo H rs hr hu (PE hl) k
theorem CV (H:A9 h (A1 M T tv (some (b,o)) x R)) {pc fn:Int} {l:Nat} (rs:List Int) {ty:TypeId} (hr:rs.length=l) (hu:∀v ∈ rs,U v) (hl:Nat.ble l 10=true) (hd:x.t.fr.length < 1073741823)
  (k:∀h' b' o',¬ (b' = b/\o' = o)->GM h' (some (b,o)) (x.pc pc).f->A9 h' (A1 M T tv (some (b',o')) (x.call pc fn rs) R)->K tQ h') :
  A4 prog 144 #[rV M T b o,iQ pc,iQ fn,lQ (some (aQ h.size)) l l] (h.push (oQ (V7 rs).toArray ty)) K:=
 Gs (A1.new H (oQ (V7 rs).toArray ty)) (As.mk' hr hu) (PE hl) hd λh' b' o' h1 h2 H'=>k h' b' o' h1 h2 (A1.drp H')
theorem Ew (H:A9 h (A1 M T tv fo x R)) {pl:Int} (k:∀h',A9 h' (A1 M T tv fo x R)->K (iQ (x.at pl)) h') :
  A4 prog 145 #[rV M T b o,uQ pl] h K:=by
 refine call145 ?_
 unfold F145 g145 cf lP O8
 have H1:=A1.new H (oQ #[mP M,mP T,fP b o] 187);generalize h.push (oQ #[mP M,mP T,fP b o] 187)=h1 at *;generalize h.size=N at *
 refine sl H1 ?_
 refine A0 (Fh H1 λh2 H2=>By ?_)
 refine A0 (Uu (A1.pl H) (T9 _) λh3 o3=>?_)
 refine sb ?_
 exact k h3 (A1.drp (A1.old H2 o3))
theorem Gt (H:A9 h (A1 M T tv fo x R)) {w f:Int} (hw:U w) (hf:iN f) (k:∀h',A9 h' (A1 M T tv fo x R)->K (iQ (x.nodeW w f)) h') :
  A4 prog 148 #[rV M T b o,uQ w,iQ f] h K:=by
 refine call148 ?_
 unfold F148 g148 cf lP O8
 have H1:=A1.new H (oQ #[mP M,mP T,fP b o] 187);generalize h.push (oQ #[mP M,mP T,fP b o] 187)=h1 at *;generalize h.size=N at *
 refine sl H1 ?_
 refine A0 (Fh H1 λh2 H2=>By ?_)
 refine A0 (N9 hw ?_)
 refine sb ?_
 refine A0 (R0 (A1.pl H) (Mx _) hf λh3 o3=>?_)
 refine sb ?_
 exact k h3 (A1.drp (A1.old H2 o3))
theorem HO (H:A9 h (A1 M T tv fo x R)) {pl w ptr:Int} {d:Bool} (hw:U w) (hs:x.m.mm.st < 1099511627776) (k:∀h',A9 h' (A1 M T tv fo (x.swing pl w ptr d).2 R)->K (dQ (x.swing pl w ptr d).1) h') :
  A4 prog 154 #[rV M T b o,uQ pl,uQ w,iQ ptr,dQ d] h K:=by
 refine call154 ?_
 unfold F154 g154 cf ce M0
 have H1:=A1.new H (oQ #[mP M,mP T,fP b o] 187);generalize h.push (oQ #[mP M,mP T,fP b o] 187)=h1 at *;generalize h.size=N at *
 refine sl H1 ?_
 refine A0 (Ew H1 λh2 H2=>?_)
 refine sl H2 ?_
 refine A0 (U6 hw ?_)
 refine sl H2 ?_
 refine A0 (UH H2 (UZ (A1.pl H) _) Bi hs λh3 H3=>?_)
 refine sb ?_
 exact k h3 (A1.drp H3)
theorem Ee (H:A9 h (A1 M T tv (some (b,o)) x R)) {k7 k8 k9:Int} (h7:U k7) (h8:U k8) (h9:U k9) (hd:x.t.fr.length < 1073741823)
  (k:∀h' b' o',¬ (b' = b/\o' = o)->GM h' (some (b,o)) ((((x.s 7 k7).s 8 k8).s 9 k9).pc 90).f->A9 h' (A1 M T tv (some (b',o')) (x.fin k7 k8 k9) R)->K tQ h') :
  A4 prog 155 #[rV M T b o,uQ k7,uQ k8,uQ k9] h K:=by
 refine call155 ?_
 unfold F155 g155 cf ce bd lP nP M0
 have H1:=A1.new H (oQ #[mP M,mP T,fP b o] 187);generalize h.push (oQ #[mP M,mP T,fP b o] 187)=h1 at *;generalize h.size=N at *
 refine sl H1 ?_
 refine A1.stR (i:=7) H1 rfl h7 λh2 H2=>?_
 refine sl H2 ?_
 refine A1.stR (i:=8) H2 rfl h8 λh3 H3=>?_
 refine sl H3 ?_
 refine A1.stR (i:=9) H3 rfl h9 λh4 H4=>?_
 refine sl H4 ?_
 refine A0 (Gs H4 As.none (by omega) ?_ λh5 b' o' h1 h2 H5=>k h5 b' o' h1 h2 (A1.drp H5))
 have e:=OE.2 (JW (A1.thr H))
 show ((((x.t.fr.dropLast ++ [_]).dropLast ++ [_]).dropLast) ++ [_]).length < _
 simp
 omega
theorem Tj0 (H:A9 h (A1 M T tv (some (b,o)) x R)):0 < x.t.fr.length:=OE.2 (JW (A1.thr H))
theorem YT (H:A9 h (A1 M T tv (some (b,o)) x R)) (hs:x.m.mm.st < 1099511627776) (hd:x.t.fr.length < 1073741823) (k:∀h',A9 h' (A1 M T tv none (EV x) R)->K tQ h') :
  A4 prog 107 #[rV M T b o] h K:=by
 refine call107 ?_
 unfold F107 g107 cf ce bd lP lI nP M0
 have B:=A1.fB H
 have P:=A1.pl H
 unfold EV at k
 have H1:=A1.new H (oQ #[mP M,mP T,fP b o] 187);generalize h.push (oQ #[mP M,mP T,fP b o] 187)=h1 at *;generalize h.size=N at *
 refine sd3 (A1.l H1) (A1.r H1) (A1.tc H1) ?_
 apply A6<;>intro c
 ·rw [A8 c] at k
  refine A0 (Ew H1 λh2 H2=>?_)
  refine sd2 (A1.l H2) (A1.c H2) ?_
  refine A0 (CV H2 [1,u64 (x.at (x.f.g 0))] rfl (LD (U.lit rfl) (S9 _)) rfl hd λh4 b' o' _ _ H4=>k h4 (A1.drp (A1.none H4)))
 ·rw [A7 c] at k
  have hr:=(A1.B H).ret.2
  have hr0:U (x.ret 0):=Nr hr 0
  refine A0 (N9 hr0 ?_)
  refine sd1 (A1.l H1) ?_
  apply A6<;>intro c2
  ·rw [A8 c2] at k
   exact A0 (Sr3 H1 [x.ret 0,1099511627776] rfl (LD hr0 (U.lit rfl)) rfl λh2 H2=>k h2 (A1.drp H2))
  ·rw [A7 c2] at k
   refine A0 (Gt H1 hr0 (by decide) λh2 H2=>?_)
   refine sl H2 ?_
   refine A0 (M5 H2 (F4 P _ _) hs λh3 H3 u3=>?_)
   refine sl H3 ?_
   exact A0 (Sr3 H3 [x.ret 0,(x.load (x.nodeW (x.ret 0) 0)).1] rfl (LD hr0 u3) rfl λh4 H4=>k h4 (A1.drp H4))
end
end
section
open Mod
theorem Te1 {n:Int} (h:U n):Mod.u64 ((((BitVec.ofInt 64 n) &&& (BitVec.ofInt 64 255)).toNat:Nat):Int)=n % 256:=by
 have h0:=h.1
 have h1:=h.2
 rw [BitVec.toNat_and,h.bv,show (BitVec.ofInt 64 255).toNat=2 ^ 8 - 1 from rfl,Nat.and_two_pow_sub_one_eq_mod]
 unfold Mod.u64
 omega
theorem S85 (a b:Int):U (((Nat.lor (Mod.u64 a).toNat (Mod.u64 b).toNat:Nat)):Int):=by
 have ha:=S9 a
 have hb:=S9 b
 have:=Nat.or_lt_two_pow (x:=(Mod.u64 a).toNat) (y:=(Mod.u64 b).toNat) (n:=64) (by have:=ha.1;have:=ha.2;omega) (by have:=hb.1;have:=hb.2;omega)
 constructor
 ·omega
 ·have e:(Mod.u64 a).toNat ||| (Mod.u64 b).toNat=Nat.lor (Mod.u64 a).toNat (Mod.u64 b).toNat:=rfl
  rw [e] at this
  omega
theorem Te2 (a b:Int):Mod.u64 ((((BitVec.ofInt 64 (Mod.u64 a)) ||| (BitVec.ofInt 64 (Mod.u64 b))).toNat:Nat):Int)=((Nat.lor (Mod.u64 a).toNat (Mod.u64 b).toNat:Nat):Int):=by
 rw [BitVec.toNat_or,(S9 a).bv,(S9 b).bv]
 exact (S85 a b).u64
section
variable {K:kQ} {h:A2} {M T b o N:Nat} {tv:vQ} {fo:Option (Nat × Nat)} {x:B9} {R:Hp}
theorem LF (H:A9 h (A1 M T tv (some (b,o)) x R)) (k:∀h',A9 h' (A1 M T tv (some (b,o)) x R)->K (spV (IP x)) h') :
  A4 prog 220 #[rV M T b o] h K:=by
 refine call220 ?_
 unfold F220 g220 bd lP lI nP Rt
 have B:=A1.fB H
 have H1:=A1.new H (oQ #[mP M,mP T,fP b o] 193);generalize h.push (oQ #[mP M,mP T,fP b o] 193)=h1 at *;generalize h.size=N at *
 have H2:=A1.new H1 (oQ #[iQ 0,iQ 0] 282)
 generalize h1.push (oQ #[iQ 0,iQ 0] 282)=h2 at *
 generalize h1.size=N2 at *
 try simp +decide only [G5,GN,Nat.reduceAdd,Int.reduceLE,Int.reduceLT,Int.reduceToNat,Ox,Ht,L9,A1.l2 H2,A1.r H2,Te1 (B.g 6)]
 have hg:=B.g 6
 have g0:=hg.1
 have g1:=hg.2
 rw [BE (by omega),show G2 (x.f.g 6 / 256)=x.f.g 6 / 256 by unfold G2;omega,show G2 (x.f.g 6 % 256)=x.f.g 6 % 256 by unfold G2;omega]
 refine stR (A1.loc H2) rfl trivial λh3 w3=>stR w3.new rfl trivial λh4 w4=>C4 w4.new rfl (C4 w4.new rfl ?_)
 exact k h4 (A1.drp (A1.drp (A1.wr (A1.wr H2 w3.new w3.old) w4.new w4.old)))
theorem LH (H:A9 h (A1 M T tv (some (b,o)) x R)) {s:Sp} (k:∀h',A9 h' (A1 M T tv (some (b,o)) (FN x s) R)->K tQ h') :
  A4 prog 217 #[rV M T b o,spV s] h K:=by
 refine call217 ?_
 unfold F217 g217 bd lP lI nP
 have H1:=A1.new H (oQ #[mP M,mP T,fP b o] 193);generalize h.push (oQ #[mP M,mP T,fP b o] 193)=h1 at *;generalize h.size=N at *
 have H2:=A1.new H1 (oQ #[iQ s.lo,iQ s.hi] 282)
 generalize h1.push (oQ #[iQ s.lo,iQ s.hi] 282)=h2 at *
 generalize h1.size=N2 at *
 have O:=A1.loc H2
 have l0:∀F:vQ->Prop,D2 h2 (aQ N2) F=F (iQ s.lo):=λF=>by unfold D2;rw [E5 O];rfl
 have l1:∀F:vQ->Prop,D2 h2 ⟨N2,1,none⟩ F=F (iQ s.hi):=λF=>by unfold D2;rw [E5 O];rfl
 try simp +decide only [G5,GN,Nat.reduceAdd,Int.reduceLE,Int.reduceLT,Int.reduceToNat,Ox,Ht,L9,A1.l2 H2,l0,l1,Te2]
 exact A1.stR (i:=6) H2 rfl (S85 _ _) λh3 H3=>k h3 (A1.drp (A1.drp H3))
theorem LI (H:A9 h (A1 M T tv (some (b,o)) x R)) {l:Int} (hl:iN l) (k:∀h',A9 h' (A1 M T tv (some (b,o)) x R)->K (uQ (Ls x l)) h') :
  A4 prog 222 #[rV M T b o,iQ l] h K:=by
 refine call222 ?_
 unfold F222 g222 cf bd lP lI nP
 have H1:=A1.new H (oQ #[mP M,mP T,fP b o] 193);generalize h.push (oQ #[mP M,mP T,fP b o] 193)=h1 at *;generalize h.size=N at *
 refine sd2 (A1.l H1) (A1.r H1) ?_
 refine A0 (SM6 hl ?_)
 refine sb ?_
 exact k h1 (A1.drp H1)
theorem HS (H:A9 h (A1 M T tv (some (b,o)) x R)) {ok:Bool} (hd:x.t.fr.length < 1000000002) (k:∀h',A9 h' (A1 M T tv none (IQ x ok) R)->K tQ h') :
  A4 prog 225 #[rV M T b o,dQ ok] h K:=by
 refine call225 ?_
 unfold F225 g225 cf bd lP nP I8
 have H1:=A1.new H (oQ #[mP M,mP T,fP b o] 193);generalize h.push (oQ #[mP M,mP T,fP b o] 193)=h1 at *;generalize h.size=N at *
 unfold IQ at k
 cases ok with
 | true=>
  refine sl H1 ?_
  exact A0 (Ee H1 U0 U0 U0 (by omega) λh2 b' o' _ _ H2=>k h2 (A1.drp (A1.none H2)))
 | false=>
  refine sl H1 ?_
  refine A1.stR (i:=3) H1 rfl U0 λh2 H2=>?_
  refine sl H2 ?_
  exact A1.stP H2 λh3 H3=>k h3 (A1.drp (A1.none H3))
theorem A1.ret (H:A9 h (A1 M T tv fo x R)) (i:Nat):U (x.ret i):=Nr (A1.B H).ret.2 i
theorem Va (H:A9 h (A1 M T tv (some (b,o)) x R)) (O:Ok x) (hp:x.f.pc<=3) (k:∀h',A9 h' (A1 M T tv none (EW x) R)->K tQ h') :
  A4 prog 149 #[rV M T b o] h K:=by
 refine call149 ?_
 unfold F149 g149 cf ce bd lP lI nP I8 O8
 have B:=A1.fB H
 have P:=A1.pl H
 have hp0:=O.pc
 have hd:=O.fr
 have r0:=A1.ret H 0
 unfold EW at k
 dsimp only at k
 have H1:=A1.new H (oQ #[mP M,mP T,fP b o] 193);generalize h.push (oQ #[mP M,mP T,fP b o] 193)=h1 at *;generalize h.size=N at *
 refine sd3 (A1.l H1) (A1.r H1) (A1.tc H1) ?_
 apply A6<;>intro c
 ·rw [A8 c] at k
  exact A0 (Gs H1 As.none (by omega) (by omega) λh2 b' o' _ _ H2=>k h2 (A1.drp (A1.none H2)))
 rw [A7 c] at k
 apply A6<;>intro c
 ·rw [A8 c] at k
  refine A1.stR (i:=2) H1 rfl r0 λh2 H2=>?_
  refine sd3 (A1.l H2) (A1.r H2) B.len ?_
  apply D1<;>intro c2
  ·have c2':x.ret 0≠0:=by simpa [B9.ret] using c2
   rw [A8 c2'] at k
   exact A1.stP H2 λh3 H3=>k h3 (A1.drp (A1.none H3))
  ·have c2':¬ x.ret 0≠0:=by simpa [B9.ret] using c2
   rw [A7 c2'] at k
   have hfl:=AK x 2 (x.ret 0)
   refine ⟨λvs h'=>(∃w,vs = [dQ (decide (x.f.g 3=0/\x.t.retired.length > 0)),w])/\A9 h' (A1 M T tv (some (b,o)) (x.s 2 (x.ret 0)) (pt N (oQ #[mP M,mP T,fP b o] 193)*R)),?_,?_⟩
   ·apply A6<;>intro c3
    ·refine A0 (DV (A1.thr H2) ?_)
     refine sb ?_
     have e:decide (((x.s 2 (x.ret 0)).t.retired.length:Int) > 0)=decide (x.f.g 3=0/\x.t.retired.length > 0):=by
      rw [decide_eq_decide]
      have e2:(x.s 2 (x.ret 0)).t.retired=x.t.retired:=rfl
      rw [e2]
      omega
     rw [e]
     exact ⟨⟨_,rfl⟩,H2⟩
    ·exact ⟨⟨_,by rw [S4 (λhh=>c3 hh.1)]⟩,H2⟩
   rintro v32 v33 g34 h35 ⟨⟨w,e⟩,H3⟩
   cases e
   refine sb ?_
   apply A6<;>intro c3
   ·rw [A8 c3] at k
    refine A1.stR (i:=3) H3 rfl (U.lit rfl) λh4 H4=>?_
    have hfl2:=AK (x.s 2 (x.ret 0)) 3 1
    refine sl H4 ?_
    exact A0 (Gs H4 As.none (by omega) (by omega) λh5 b' o' _ _ H5=>k h5 (A1.drp (A1.none H5)))
   ·rw [A7 c3] at k
    refine sl H3 ?_
    exact A0 (Ee H3 (U.lit rfl) U0 U0 (by omega) λh5 b' o' _ _ H5=>k h5 (A1.drp (A1.none H5)))
 rw [A7 c] at k
 apply A6<;>intro c
 ·rw [A8 c] at k
  refine A0 (Fh H1 λh2 H2=>By ?_)
  refine se2 (A1.c H2) (A1.l H2) ?_
  refine A0 (R0 P (T9 _) (by decide) λh3 o3=>?_)
  have H3:=A1.old H2 o3
  refine se2 (A1.c H3) (A1.l H3) ?_
  refine A0 (U7 H3 (F4 P _ _) (B.g 0) O.st λh4 H4=>?_)
  exact A1.stP H4 λh5 H5=>k h5 (A1.drp (A1.none H5))
 rw [A7 c] at k
 refine A6 (λc=>?_) (λc=>by omega)
 ·refine A0 (Fh H1 λh2 H2=>By ?_)
  refine se2 (A1.c H2) (A1.l H2) ?_
  refine A0 (R0 P (T9 _) (by decide) λh3 o3=>?_)
  have H3:=A1.old H2 o3
  refine se2 (A1.c H3) (A1.l H3) ?_
  refine A0 (U7 H3 (F4 P _ _) (B.g 1) O.st λh4 H4=>?_)
  exact A1.stR (i:=3) H4 rfl U0 λh5 H5=>A1.stP H5 λh6 H6=>k h6 (A1.drp (A1.none H6))
theorem A1.feed (H:A9 h (A1 M T tv fo x R)) (k:∀q R',A9 h (Pf q x.m.b x.m.used*R')->(∀h' u,A9 h' (Pf q x.m.b u*R')->A9 h' (A1 M T tv fo { x with m:=Mac.feed x.m u } R))->K (mP q) h) :
 A4 prog 214 #[mP M] h K:=UE H λq R' H1 re=>k q R' H1 λh' u H2=>re h' u H2
theorem Vb (H:A9 h (A1 M T tv (some (b,o)) x R)) (O:Ok x) (hp:4<=x.f.pc/\x.f.pc<=7) (k:∀h',A9 h' (A1 M T tv none (Y4 x) R)->K tQ h') :
  A4 prog 150 #[rV M T b o] h K:=by
 refine call150 ?_
 unfold F150 g150 cf ce bd lP lI nP I8 de2 Jv O8 M0
 have B:=A1.fB H
 have P:=A1.pl H
 have hd:=O.fr
 have r1:=A1.ret H 1
 unfold Y4 at k
 dsimp only at k
 have H1:=A1.new H (oQ #[mP M,mP T,fP b o] 193);generalize h.push (oQ #[mP M,mP T,fP b o] 193)=h1 at *;generalize h.size=N at *
 refine sl H1 ?_
 refine A0 (Fh H1 λh2 H2=>By ?_)
 refine A0 (V8 λh3 o3=>cf7 ?_)
 have H3:=A1.old H2 o3
 have H4:=A1.new H3 (oQ Dp 23)
 generalize h3.push (oQ Dp 23)=h4 at *
 generalize h3.size=N2 at *
 refine st7 (F5 (vs:=Qk x.m.p.c) (A1.loc H4) rfl (by simp [Qk,J0]) λh5 w=>?_)
 have H5:=A1.wr H4 w.new w.old
 clear H1 H2 H3 H4 o3 w
 refine sd3 (A1.l2 H5) (A1.r H5) (A1.tc H5) ?_
 apply A6<;>intro c
 ·rw [A8 c] at k
  refine A0 (M5 H5 (by decide) O.st λh6 H6 u6=>?_)
  refine sb ?_
  refine A1.stR (i:=4) H6 rfl u6 λh7 H7=>?_
  refine sd3 (A1.l2 H7) (A1.r H7) B.len ?_
  refine A0 (A1.feed H7 λq R' HF re=>?_)
  refine sb ?_
  refine A0 (Gr (T9 _) ?_)
  refine sb ?_
  have hus:((x.load 2).2.s 4 (x.load 2).1).m.used < 1099511627776:=by
   have e:((x.load 2).2.s 4 (x.load 2).1).m.used=x.m.used:=by
    show (x.m.load 2).2.used=x.m.used
    unfold Mac.load
    dsimp only
    have:=(BF x.m 2).2.2.2.1
    split <;> exact this
   rw [e];exact O.us
  have hb:=(Nv HF)
  obtain ⟨fa,fc,FF,_⟩:=hb
  refine A0 (UA HF hus (λhn=>?_) (λhn h8 H8=>?_))
  ·refine sb ?_
   refine A0 (NH (T9 _) ?_)
   refine sb ?_
   refine A1.stR (i:=5) H7 rfl (S9 _) λh9 H9=>A1.stP H9 λh10 H10=>k h10 ?_
   have e:(((x.load 2).2.s 4 (x.load 2).1).m.next (S8 (G2 (x.load 2).1)))=(0,((x.load 2).2.s 4 (x.load 2).1).m):=by unfold Mac.next;rw [A8 hn]
   rw [e]
   exact A1.drp (A1.drp (A1.none H10))
  ·refine sb ?_
   refine A0 (NH (T9 _) ?_)
   refine sb ?_
   refine A1.stR (i:=5) (re h8 _ H8) rfl (S9 _) λh9 H9=>A1.stP H9 λh10 H10=>k h10 ?_
   have e:(((x.load 2).2.s 4 (x.load 2).1).m.next (S8 (G2 (x.load 2).1)))=(drawn ((x.load 2).2.s 4 (x.load 2).1).m.b ((x.load 2).2.s 4 (x.load 2).1).m.used % S8 (G2 (x.load 2).1),Mac.feed ((x.load 2).2.s 4 (x.load 2).1).m (((x.load 2).2.s 4 (x.load 2).1).m.used+1)):=by
    unfold Mac.next Mac.take;rw [A7 (by omega)];rfl
   rw [e]
   exact A1.drp (A1.drp (A1.none H10))
 rw [A7 c] at k
 apply A6<;>intro c
 ·rw [A8 c] at k
  exact A0 (CV H5 [x.f.g 5] rfl (X6 (B.g 5)) rfl (by omega) λh6 b' o' _ _ H6=>k h6 (A1.drp (A1.drp (A1.none H6))))
 rw [A7 c] at k
 apply A6<;>intro c
 ·rw [A8 c] at k
  apply A6<;>intro c2
  ·rw [A8 c2] at k
   refine A0 (Sr1 (T9 _) λh6 o6=>?_)
   have H6:=A1.old H5 o6
   refine se2 (A1.l2 H6) (A1.c H6) ?_
   refine U9 rfl (D5 rfl (D5 rfl ?_))
   refine A0 (LH H6 (s:=SK4 (G2 (x.f.g 4))) λh7 H7=>?_)
   exact A1.stP H7 λh8 H8=>k h8 (A1.drp (A1.drp (A1.none H8)))
  ·rw [A7 c2] at k
   refine A1.stR (i:=3) H5 rfl (S9 _) λh6 H6=>A1.stP H6 λh7 H7=>?_
   have O7:=A1.loc H7
   have l5:∀F:vQ->Prop,D2 h7 ⟨N2,5,none⟩ F=F (iQ x.m.p.c.probes):=λF=>by unfold D2;rw [E5 O7];rfl
   refine sd4 (A1.l2 H7) (A1.r H7) B.len l5 ?_
   apply A6<;>intro c3
   ·rw [A8 c3] at k
    exact A1.stP H7 λh8 H8=>k h8 (A1.drp (A1.drp (A1.none H8)))
   ·rw [A7 c3] at k
    exact k h7 (A1.drp (A1.drp (A1.none H7)))
 rw [A7 c] at k
 refine A6 (λc=>?_) (λc=>by omega)
 have O5:=A1.loc H5
 have l3:∀F:vQ->Prop,D2 h5 ⟨N2,3,none⟩ F=F (iQ x.m.p.c.level):=λF=>by unfold D2;rw [E5 O5];rfl
 refine sd3 (A1.l2 H5) (A1.r H5) l3 ?_
 apply A6<;>intro c2
 ·rw [A8 c2] at k
  refine A0 (Ee H5 (U.lit rfl) U0 U0 (by omega) λh6 b' o' _ st H6=>?_)
  have e2:A3 h6 ⟨b,o+4,none⟩=some (uQ (x.f.g 2)):=by
   have e:(((((x.s 7 1).s 8 0).s 9 0).pc 90).f).g 2=x.f.g 2:=by try simp +decide only [G5,GN,Nat.reduceAdd,Int.reduceLE,Int.reduceLT,Int.reduceToNat,Ox,Ht,L9,B.len]
   rw [<- e]
   exact st b o 4 _ rfl rfl
  have ld2:∀F:vQ->Prop,D2 h6 ⟨b,o+4,none⟩ F=F (uQ (x.f.g 2)):=λF=>by unfold D2;rw [e2]
  refine se2 (A1.l2 H6) ld2 ?_
  refine A0 (YH H6 [x.f.g 2] rfl (X6 (B.g 2)) (by omega) ?_ λh7 b'' o'' _ _ H7=>k h7 (A1.drp (A1.drp (A1.none H7))))
  have l1:=AK x 7 1
  have l2:=AK (x.s 7 1) 8 0
  have l3:=AK ((x.s 7 1).s 8 0) 9 0
  have l4:=Fx (((x.s 7 1).s 8 0).s 9 0) 90
  show ((((((x.s 7 1).s 8 0).s 9 0).pc 90).t.fr) ++ [_]).length < _
  rw [DK]
  simp only [List.length_singleton]
  omega
 ·rw [A7 c2] at k
  refine A0 (UH H5 (by decide) (S9 _) O.st λh6 H6=>?_)
  refine sb ?_
  exact A1.stR (i:=3) H6 rfl U0 λh7 H7=>A1.stP H7 λh8 H8=>k h8 (A1.drp (A1.drp (A1.none H8)))
theorem Vc (H:A9 h (A1 M T tv (some (b,o)) x R)) (O:Ok x) (hp:8<=x.f.pc/\x.f.pc<=9) (k:∀h',A9 h' (A1 M T tv none (EX x) R)->K tQ h') :
  A4 prog 151 #[rV M T b o] h K:=by
 refine call151 ?_
 unfold F151 g151 cf ce bd lP lI nP I8 de2 Rt M0
 have B:=A1.fB H
 have P:=A1.pl H
 have hd:=O.fr
 unfold EX at k
 dsimp only at k
 have H1:=A1.new H (oQ #[mP M,mP T,fP b o] 193);generalize h.push (oQ #[mP M,mP T,fP b o] 193)=h1 at *;generalize h.size=N at *
 refine sl H1 ?_
 refine A0 (LF H1 λh2 H2=>?_)
 refine sb ?_
 refine U9 rfl (D5 rfl (D5 rfl ?_))
 have H3:=A1.new H2 (oQ #[iQ 0,iQ 0] 282)
 generalize h2.push (oQ #[iQ 0,iQ 0] 282)=h3 at *
 generalize h2.size=N2 at *
 refine stR (A1.loc H3) rfl trivial λh4 w4=>stR w4.new rfl trivial λh5 w5=>?_
 have H5:=A1.wr (A1.wr H3 w4.new w4.old) w5.new w5.old
 clear H1 H2 H3 w4 w5
 generalize hs:IP x=s at *
 have O5:=A1.loc H5
 have l0:∀F:vQ->Prop,D2 h5 (aQ N2) F=F (iQ s.lo):=λF=>by unfold D2;rw [E5 O5];rfl
 have l1:∀F:vQ->Prop,D2 h5 ⟨N2,1,none⟩ F=F (iQ s.hi):=λF=>by unfold D2;rw [E5 O5];rfl
 refine sd5 (A1.l2 H5) (A1.r H5) (A1.tc H5) l0 l1 ?_
 apply A6<;>intro c
 ·rw [A8 c] at k
  refine A0 (NI λh6 o6=>?_)
  have H6:=A1.old H5 o6
  have O6:=A1.loc H6
  have m0:∀F:vQ->Prop,D2 h6 (aQ N2) F=F (iQ s.lo):=λF=>by unfold D2;rw [E5 O6];rfl
  have m1:∀F:vQ->Prop,D2 h6 ⟨N2,1,none⟩ F=F (iQ s.hi):=λF=>by unfold D2;rw [E5 O6];rfl
  refine sd4 (A1.l2 H6) (A1.r H6) m0 m1 ?_
  apply D1<;>intro c2
  ·rw [A8 c2] at k
   exact A1.stP H6 λh7 H7=>k h7 (A1.drp (A1.drp (A1.none H7)))
  ·rw [A7 (by rw [c2];simp)] at k
   refine A0 (KV λh7 o7=>?_)
   have H7:=A1.old H6 o7
   have hm:=Sh9 s
   refine se1 (A1.l2 H7) ?_
   refine A0 (LI H7 ⟨by omega,by omega⟩ λh8 H8=>?_)
   refine se1 (A1.l2 H8) ?_
   exact A0 (CV H8 [Ls x s.mid] rfl (X6 (S9 _)) rfl (by omega) λh9 b' o' _ _ H9=>k h9 (A1.drp (A1.drp (A1.none H9))))
 rw [A7 c] at k
 refine A6 (λc=>?_) (λc=>by omega)
 refine A0 (Sr2 λh6 o6=>?_)
 have H6:=A1.old H5 o6
 refine se1 (A1.l2 H6) ?_
 refine U9 rfl (D5 rfl (D5 rfl ?_))
 refine A0 (LH H6 λh7 H7=>?_)
 refine se1 (A1.l2 H7) ?_
 exact A1.stP H7 λh8 H8=>k h8 (A1.drp (A1.drp (A1.none H8)))
theorem YU (H:A9 h (A1 M T tv (some (b,o)) x R)) (O:Ok x) (k:∀h',A9 h' (A1 M T tv none (JU x) R)->K tQ h') :
  A4 prog 152 #[rV M T b o] h K:=by
 refine call152 ?_
 unfold F152 g152 cf bd lP lI nP I8 dc3 de2 O8 M0 ce
 have B:=A1.fB H
 have P:=A1.pl H
 have hd:=O.fr
 have r0:=A1.ret H 0
 have r1:=A1.ret H 1
 unfold JU at k
 dsimp only at k
 have H1:=A1.new H (oQ #[mP M,mP T,fP b o] 193);generalize h.push (oQ #[mP M,mP T,fP b o] 193)=h1 at *;generalize h.size=N at *
 refine sl H1 ?_
 refine A0 (LF H1 λh2 H2=>?_)
 refine sb ?_
 refine U9 rfl (D5 rfl (D5 rfl ?_))
 refine sl H2 ?_
 have hsl:iN (IP x).lo:=by
  have hg:=B.g 6
  have g0:=hg.1
  have g1:=hg.2
  unfold IP
  constructor <;> simp only <;> omega
 refine A0 (LI H2 hsl λh3 H3=>?_)
 refine sl H3 ?_
 refine A0 (W7 3 rfl H3 λh4 H4=>?_)
 clear H1 H2 H3
 have hpl:U (Ls x (IP x).lo):=S9 _
 generalize Ls x (IP x).lo=place at *
 refine sd3 (A1.l H4) (A1.r H4) (A1.tc H4) ?_
 apply A6<;>intro c
 ·rw [A8 c] at k
  exact A0 (CV H4 [place] rfl (X6 hpl) rfl (by omega) λh5 b' o' _ _ H5=>k h5 (A1.drp (A1.none H5)))
 rw [A7 c] at k
 apply A6<;>intro c
 ·rw [A8 c] at k
  apply A6<;>intro c2
  ·rw [A8 c2] at k
   exact A1.stR (i:=3) H4 rfl U0 λh5 H5=>A1.stP H5 λh6 H6=>k h6 (A1.drp (A1.none H6))
  ·rw [A7 c2] at k
   refine A1.stR (i:=3) H4 rfl r0 λh5 H5=>?_
   refine sd3 (A1.l H5) (A1.r H5) B.len ?_
   refine A0 (Fh H5 λh6 H6=>By ?_)
   refine sd3 (A1.l H6) (A1.c H6) B.len ?_
   refine A0 (R0 P (T9 _) (by decide) λh7 o7=>?_)
   have H7:=A1.old H6 o7
   refine sl H7 ?_
   refine A0 (W7 3 rfl H7 λh8 H8=>?_)
   refine sd2 (A1.l H8) B.len ?_
   refine A0 (N9 r0 ?_)
   refine sd1 (A1.l H8) ?_
   refine A0 (U7 H8 (F4 P _ _) (U8 _) O.st λh9 H9=>?_)
   refine A1.stP H9 λh10 H10=>?_
   apply A6<;>intro c3
   ·rw [A8 c3] at k
    exact A1.stP H10 λh11 H11=>k h11 (A1.drp (A1.none H11))
   ·rw [A7 c3] at k
    exact k h10 (A1.drp (A1.none H10))
 rw [A7 c] at k
 apply A6<;>intro c
 ·rw [A8 c] at k
  refine A0 (W6 (B.g 3) ?_)
  refine ss H4 ?_
  refine A0 (HO H4 (B.g 3) O.st λh5 H5=>?_)
  refine ss H5 ?_
  exact A0 (HS H5 (show x.t.fr.length < _ by omega) λh6 H6=>k h6 (A1.drp H6))
 have e2:Int.fdiv place 2=place / 2:=BE (by omega)
 have e3:Int.tdiv place 2=place / 2:=Sk3 hpl.1
 have hu:U (place / 2):=⟨by have:=hpl.1;omega,by have:=hpl.2;have:=hpl.1;omega⟩
 rw [A7 c] at k
 apply A6<;>intro c
 ·rw [A8 c] at k
  refine se3 e2 e3 hu.u64 ?_
  try refine ⟨by decide,?_⟩
  exact A0 (CV H4 [place / 2] rfl (X6 hu) rfl (by omega) λh5 b' o' _ _ H5=>k h5 (A1.drp (A1.none H5)))
 rw [A7 c] at k
 apply A6<;>intro c
 ·rw [A8 c] at k
  apply A6<;>intro c2
  ·rw [A8 c2] at k
   exact A0 (HS H4 (by omega) λh5 H5=>k h5 (A1.drp H5))
  ·rw [A7 c2] at k
   refine A0 (Ew H4 λh5 H5=>?_)
   refine ss H5 ?_
   refine A0 (W6 (B.g 3) ?_)
   refine ss H5 ?_
   refine A0 (U6 (B.g 3) ?_)
   refine sd4 (A1.al H5) e2 e3 hu.u64 ?_
   refine A0 (Ew H5 λh6 H6=>?_)
   refine sd4 (A1.al H6) e2 e3 hu.u64 ?_
   refine A0 (Ti4 H6 (UZ P _) (UZ P _) Bi O.st λh7 H7=>?_)
   refine ss H7 ?_
   exact A0 (HS H7 (show x.t.fr.length < _ by omega) λh8 H8=>k h8 (A1.drp H8))
 rw [A7 c] at k
 exact k h4 (A1.drp (A1.none H4))
end
end
section
set_option maxRecDepth 100000
variable {K:kQ} {h:A2}
def F64 (K:kQ) (h:A2) (xa xb:rQ):Prop:=
 (cf 105 #[pQ xb] h λa b=>C9 a λa=>R3 λI3=>(D4 (Option.isNone a) (I3 [dQ true] b) (I3 [dQ (Option.isNone xa)] b))/\(∀(b:vQ) (c:G4) (c:A2),(I3 [b] c)->(asBool b λb=>D4 b (K tQ c) (C7 (c.push (oQ #[pQ none,pQ none,pQ none] 197)) (aQ c.size) (pQ xa) λb=>C7 b ⟨c.size,1,none⟩ (pQ xb) λb=>C7 b ⟨c.size,2,none⟩ (pQ a) λb=>R3 λI11=>(nP a λd=>lI .i64 b d λd=>D4 (decide (d < 21)) (I11 [dQ true,dQ true] b) (nP a λd=>lI .i64 b d λd=>I11 [dQ (decide (d > 23)),dQ (decide (d > 23))] b))/\(∀(b d:vQ) (e:G4) (e:A2),(I11 [b,d] e)->(asBool b λb=>D4 b (cf 112 #[pQ xa,pQ xb] e λb b=>K tQ b) (nP a λb=>lI .i64 e (b.add 1) λb=>D4 (b == 90) (nP a λb=>bd 7 10 (lI .u64 e (b.add 9) λb=>nP a λd=>bd 8 10 (lI .u64 e (d.add 10) λd=>nP a λf=>bd 9 10 (lI .u64 e (f.add 11) λf=>cf 106 #[pQ xb,lQ (some (aQ e.size)) 3 3] (e.push (oQ #[uQ b,uQ d,uQ f] 178)) λb b=>K tQ b)))) (nP a λa=>lI .i64 e a λa=>D4 (a == 21) (M0 e c.size λa b d=>cf 113 #[.agg #[a,b,d]] e λa a=>K tQ a) (M0 e c.size λa b c=>cf 114 #[.agg #[a,b,c]] e λa a=>K tQ a)))))))))
theorem call64 {xa xb:rQ} (H:F64 K h xa xb):A4 prog 64 #[(pQ xa),(pQ xb)] h K:=
 cQ Tryz.func64 H
def F112 (K:kQ) (h:A2) (xa xb:rQ):Prop:=
 (cf 105 #[pQ xb] h λa b=>C9 a λa=>R3 λI3=>(D4 (Option.isNone a) (I3 [dQ true,dQ true] b) (I3 [dQ (Option.isNone xa),dQ (Option.isNone xa)] b))/\(∀(b c:vQ) (d:G4) (d:A2),(I3 [b,c] d)->(asBool b λb=>D4 b (K tQ d) (nP a λb=>lI .i64 d b λb=>D4 (b == 20) (cf 166 #[.agg #[pQ xa,pQ xb,pQ a]] d λa a=>K tQ a) (cf 111 #[pQ xa,pQ xb] d λa a=>K tQ a)))))
theorem call112 {xa xb:rQ} (H:F112 K h xa xb):A4 prog 112 #[(pQ xa),(pQ xb)] h K:=
 cQ Tryz.func112 H
abbrev g113 (K:kQ) (h H1:A2):Prop:=
 (lP H1 ((aQ h.size).add 2) λa=>nP a λa=>lI .i64 H1 (a.add 1) λa=>D4 (decide (a<=2)) (M0 H1 h.size λa b c=>cf 167 #[.agg #[a,b,c]] H1 λa a=>K tQ a) (lP H1 ((aQ h.size).add 2) λa=>nP a λa=>lI .i64 H1 (a.add 1) λa=>D4 (decide (a<=7)) (M0 H1 h.size λa b c=>cf 168 #[.agg #[a,b,c]] H1 λa a=>K tQ a) (lP H1 ((aQ h.size).add 2) λa=>nP a λa=>lI .i64 H1 (a.add 1) λa=>D4 (decide (a<=11)) (M0 H1 h.size λa b c=>cf 169 #[.agg #[a,b,c]] H1 λa a=>K tQ a) (lP H1 ((aQ h.size).add 2) λa=>nP a λa=>lI .i64 H1 (a.add 1) λa=>D4 (decide (a<=14)) (M0 H1 h.size λa b c=>cf 170 #[.agg #[a,b,c]] H1 λa a=>K tQ a) (M0 H1 h.size λa b c=>cf 171 #[.agg #[a,b,c]] H1 λa a=>K tQ a)))))
def F113 (K:kQ) (h:A2) (xa xb xc:rQ):Prop:=
 (g113 K h (h.push (oQ #[pQ xa,pQ xb,pQ xc] 199)))
theorem call113 {xa xb xc:rQ} (H:F113 K h xa xb xc):A4 prog 113 #[(.agg #[(pQ xa),(pQ xb),(pQ xc)])] h K:=
 cQ Tryz.func113 H
abbrev g114 (K:kQ) (h H1:A2):Prop:=
 (lP H1 ((aQ h.size).add 2) λa=>nP a λa=>lI .i64 H1 (a.add 1) λa=>D4 (decide (a<=3)) (M0 H1 h.size λa b c=>cf 172 #[.agg #[a,b,c]] H1 λa a=>K tQ a) (lP H1 ((aQ h.size).add 2) λa=>nP a λa=>lI .i64 H1 (a.add 1) λa=>D4 (decide (a<=6)) (M0 H1 h.size λa b c=>cf 173 #[.agg #[a,b,c]] H1 λa a=>K tQ a) (lP H1 ((aQ h.size).add 2) λa=>nP a λa=>lI .i64 H1 (a.add 1) λa=>D4 (decide (a<=8)) (M0 H1 h.size λa b c=>cf 174 #[.agg #[a,b,c]] H1 λa a=>K tQ a) (M0 H1 h.size λa b c=>cf 175 #[.agg #[a,b,c]] H1 λa a=>K tQ a))))
def F114 (K:kQ) (h:A2) (xa xb xc:rQ):Prop:=
 (g114 K h (h.push (oQ #[pQ xa,pQ xb,pQ xc] 200)))
theorem call114 {xa xb xc:rQ} (H:F114 K h xa xb xc):A4 prog 114 #[(.agg #[(pQ xa),(pQ xb),(pQ xc)])] h K:=
 cQ Tryz.func114 H
abbrev g166 (K:kQ) (h H1:A2):Prop:=
 (lP H1 ((aQ h.size).add 2) λa=>nP a λb=>lI .i64 H1 (b.add 1) λb=>D4 (b == 0) (M0 H1 h.size λc d e=>cf 242 #[.agg #[c,d,e]] H1 λc c=>K tQ c) (D4 (b == 1) (D2 H1 (aQ h.size) λc=>C9 c λd=>lP H1 (aQ h.size) λe=>D2 H1 ((aQ h.size).add 1) λf=>C9 f λg=>nP g λg=>D2 H1 g λi=>asInt .i64 i λj=>I8 H1 (aQ h.size) λk l m=>nP a λn=>bd 2 10 (D2 H1 (n.add 4) λo=>asInt .u64 o λp=>cf 79 #[pQ e] H1 λe q=>asAgg e λe=>G3 e 15 (O8 e λe r s t u v w x y z A B C D E=>((A3 q (n.add 4))=(some o))/\(ce q h.size 0 k (((A3 q ((aQ h.size).add 1))=(some l))/\(((A3 q ((aQ h.size).add 2))=(some m))/\(((A3 q g)=(some i))/\(((A3 q ((aQ h.size).add 1))=(some f))/\(ce q h.size 0 c (cf 243 #[.agg #[k,l,m]] q λk l=>asInt .i64 k λk=>((A3 l (n.add 4))=(some o))/\(((A3 l g)=(some i))/\(((A3 l ((aQ h.size).add 1))=(some f))/\(ce l h.size 0 c (cf 232 #[.agg #[e,r,s,t,u,v,w,x,y,z,A,B,C,D,E],iQ j,iQ (wrap .i64 (2*k))] l λe f=>asInt .i64 e λe=>((A3 f (n.add 4))=(some o))/\(ce f h.size 0 c (cf 212 #[pQ d,iQ e,uQ p] f λc c=>nP a λd=>C7 c (d.add 1) (iQ 2) λc=>K tQ c)))))))))))))))) (D4 (b == 2) (M0 H1 h.size λc d e=>D2 H1 (aQ h.size) λf=>C9 f λg=>I8 H1 (aQ h.size) λi j k=>nP a λl=>bd 2 10 (lI .u64 H1 (l.add 4) λl=>cf 245 #[.agg #[i,j,k],uQ l] H1 λi j=>asInt .i64 i λi=>ce j h.size 0 f (dc3 j h.size c d e (cf 147 #[pQ g,iQ i] j λf g=>asInt .u64 f λf=>ce g h.size 0 c (ce g h.size 1 d (ce g h.size 2 e (cf 244 #[.agg #[c,d,e],uQ f] g λc c=>K tQ c))))))) (D4 (b == 8) (D2 H1 (aQ h.size) λb=>C9 b λc=>lP H1 (aQ h.size) λd=>nP a λe=>bd 2 10 (D2 H1 (e.add 4) λf=>asInt .u64 f λg=>cf 79 #[pQ d] H1 λd i=>asAgg d λd=>G3 d 15 (O8 d λd j k l m n o p q r s t u v w=>((A3 i (e.add 4))=(some f))/\(ce i h.size 0 b (cf 143 #[.agg #[d,j,k,l,m,n,o,p,q,r,s,t,u,v,w],iQ (wrap .i64 g),iQ 4] i λd e=>asInt .i64 d λd=>ce e h.size 0 b (cf 147 #[pQ c,iQ d] e λb c=>asInt .u64 b λb=>nP a λa=>C7 c (a.add 1) (iQ 0) λa=>K tQ a)))))) (M0 H1 h.size λa b c=>cf 246 #[.agg #[a,b,c]] H1 λa a=>K tQ a)))))
def F166 (K:kQ) (h:A2) (xa xb xc:rQ):Prop:=
 (g166 K h (h.push (oQ #[pQ xa,pQ xb,pQ xc] 250)))
theorem call166 {xa xb xc:rQ} (H:F166 K h xa xb xc):A4 prog 166 #[(.agg #[(pQ xa),(pQ xb),(pQ xc)])] h K:=
 cQ Tryz.func166 H
abbrev g167 (K:kQ) (h H1:A2):Prop:=
 (lP H1 ((aQ h.size).add 2) λa=>nP a λb=>lI .i64 H1 (b.add 1) λb=>D4 (b == 0) (I8 H1 (aQ h.size) λc d e=>cf 247 #[.agg #[c,d,e],iQ 1,iQ 1,lQ none 0 0] H1 λc c=>K tQ c) (D4 (b == 1) (lP H1 ((aQ h.size).add 1) λc=>nP c λc=>bd 0 3 (lI .u64 H1 (c.add 2) λc=>nP a λd=>bd 2 10 (C7 H1 (d.add 4) (uQ c) λc=>nP a λd=>bd 2 10 (lI .u64 c (d.add 4) λd=>D4 (d != 0) (nP a λd=>C7 c (d.add 1) (iQ 2) λd=>K tQ d) (R3 λI22=>(nP a λd=>bd 5 10 (lI .u64 c (d.add 7) λd=>D4 (d == 0) (lP c ((aQ h.size).add 1) λd=>nP d λd=>cf 211 #[pQ (some (d.add 8))] c λd e=>asInt .i64 d λd=>I22 [dQ (decide (d > 0)),dQ (decide (d > 0))] e) (I22 [dQ false,dQ false] c)))/\(∀(c d:vQ) (e:G4) (e:A2),(I22 [c,d] e)->(asBool c λc=>D4 c (nP a λc=>bd 5 10 (C7 e (c.add 7) (uQ 1) λc=>I8 c (aQ h.size) λd f g=>cf 247 #[.agg #[d,f,g],iQ 0,iQ 6,lQ none 0 0] c λc c=>K tQ c)) (I8 e (aQ h.size) λc d f=>cf 248 #[.agg #[c,d,f],uQ 1,uQ 0,uQ 0] e λc c=>K tQ c)))))))) (D4 (b == 2) (nP a λb=>bd 0 10 (D2 H1 (b.add 2) λc=>asInt .u64 c λd=>lP H1 (aQ h.size) λe=>nP a λf=>cf 188 #[pQ e,iQ 3,uQ 1] H1 λe g=>asInt .u64 e λe=>((A3 g (b.add 2))=(some c))/\(cf 249 #[.int .u32 (wrap .u32 d),.int .u32 (wrap .u32 e)] g λb c=>asInt .u64 b λb=>bd 4 10 (C7 c (f.add 6) (uQ b) λb=>lP b (aQ h.size) λc=>D2 b (aQ h.size) λd=>C9 d λe=>nP a λf=>cf 214 #[pQ c] b λb c=>C9 b λb=>ce c h.size 0 d (cf 79 #[pQ e] c λc d=>asAgg c λc=>G3 c 15 (O8 c λc e g i j k l m n o p q r s t=>cf 139 #[.agg #[c,e,g,i,j,k,l,m,n,o,p,q,r,s,t]] d λc d=>asAgg c λc=>G3 c 7 (Jv c λc c c c e e e=>asInt .i64 c λc=>cf 250 #[pQ b,iQ c] d λb c=>asInt .i64 b λb=>bd 3 10 (C7 c (f.add 5) (uQ (wrap .u64 b)) λb=>nP a λa=>C7 b (a.add 1) (iQ 3) λa=>K tQ a)))))))) (K tQ H1))))
def F167 (K:kQ) (h:A2) (xa xb xc:rQ):Prop:=
 (g167 K h (h.push (oQ #[pQ xa,pQ xb,pQ xc] 199)))
theorem call167 {xa xb xc:rQ} (H:F167 K h xa xb xc):A4 prog 167 #[(.agg #[(pQ xa),(pQ xb),(pQ xc)])] h K:=
 cQ Tryz.func167 H
abbrev g168 (K:kQ) (h H1:A2):Prop:=
 (lP H1 ((aQ h.size).add 2) λa=>nP a λb=>bd 2 10 (lI .u64 H1 (b.add 4) λb=>R3 λI5=>(nP a λc=>lI .i64 H1 (c.add 1) λc=>D4 (c == 3) (D2 H1 (aQ h.size) λd=>C9 d λe=>I8 H1 (aQ h.size) λf g i=>nP a λj=>bd 4 10 (D2 H1 (j.add 6) λk=>asInt .u64 k λl=>cf 251 #[.agg #[f,g,i],uQ b,iQ 0] H1 λf g=>asInt .i64 f λf=>((A3 g (j.add 6))=(some k))/\(ce g h.size 0 d (cf 212 #[pQ e,iQ f,uQ l] g λd d=>I5 [dQ true,tQ,tQ,tQ,tQ] d)))) (D4 (c == 4) (D2 H1 (aQ h.size) λd=>C9 d λe=>I8 H1 (aQ h.size) λf g i=>nP a λj=>bd 1 10 (D2 H1 (j.add 3) λk=>asInt .u64 k λl=>cf 251 #[.agg #[f,g,i],uQ b,iQ 1] H1 λf g=>asInt .i64 f λf=>((A3 g (j.add 3))=(some k))/\(ce g h.size 0 d (cf 252 #[.int .u32 (wrap .u32 l),dQ false] g λg i=>asInt .u64 g λg=>ce i h.size 0 d (cf 212 #[pQ e,iQ f,uQ g] i λd d=>I5 [dQ false,dQ true,tQ,tQ,tQ] d))))) (D4 (c == 5) (D2 H1 (aQ h.size) λd=>C9 d λe=>I8 H1 (aQ h.size) λf g i=>cf 251 #[.agg #[f,g,i],uQ b,iQ 2] H1 λf g=>asInt .i64 f λf=>ce g h.size 0 d (cf 212 #[pQ e,iQ f,uQ 2] g λd d=>I5 [dQ false,dQ false,dQ true,tQ,tQ] d)) (D4 (c == 6) (D2 H1 (aQ h.size) λd=>C9 d λe=>I8 H1 (aQ h.size) λf g i=>nP a λj=>bd 3 10 (D2 H1 (j.add 5) λk=>asInt .u64 k λl=>cf 251 #[.agg #[f,g,i],uQ b,iQ 3] H1 λf g=>asInt .i64 f λf=>((A3 g (j.add 5))=(some k))/\(ce g h.size 0 d (cf 212 #[pQ e,iQ f,uQ l] g λd d=>I5 [dQ false,dQ false,dQ false,dQ true,tQ] d)))) (D4 (c == 7) (D2 H1 (aQ h.size) λc=>C9 c λd=>I8 H1 (aQ h.size) λe f g=>cf 251 #[.agg #[e,f,g],uQ b,iQ 4] H1 λb e=>asInt .i64 b λb=>ce e h.size 0 c (cf 212 #[pQ d,iQ b,uQ 0] e λb b=>I5 [dQ false,dQ false,dQ false,dQ false,dQ true] b)) (I5 [dQ false,dQ false,dQ false,dQ false,dQ false] H1))))))/\(∀(b c d e f:vQ) (g:G4) (g:A2),(I5 [b,c,d,e,f] g)->(nP a λb=>lI .i64 g (b.add 1) λb=>nP a λa=>C7 g (a.add 1) (iQ (wrap .i64 (b+1))) λa=>K tQ a))))
def F168 (K:kQ) (h:A2) (xa xb xc:rQ):Prop:=
 (g168 K h (h.push (oQ #[pQ xa,pQ xb,pQ xc] 199)))
theorem call168 {xa xb xc:rQ} (H:F168 K h xa xb xc):A4 prog 168 #[(.agg #[(pQ xa),(pQ xb),(pQ xc)])] h K:=
 cQ Tryz.func168 H
abbrev g169 (K:kQ) (h H1:A2):Prop:=
 (lP H1 ((aQ h.size).add 2) λa=>nP a λb=>bd 2 10 (lI .u64 H1 (b.add 4) λb=>nP a λc=>bd 5 10 (lI .u64 H1 (c.add 7) λc=>nP a λd=>lI .i64 H1 (d.add 1) λd=>D4 (d == 8) (nP a λe=>bd 5 10 (C7 H1 (e.add 7) (uQ 0) λe=>I8 e (aQ h.size) λf g i=>nP a λj=>bd 4 10 (lI .u64 e (j.add 6) λj=>((A3 (e.push (oQ #[uQ j] 178)) (aQ h.size))=(some f))/\(((A3 (e.push (oQ #[uQ j] 178)) ((aQ h.size).add 1))=(some g))/\(((A3 (e.push (oQ #[uQ j] 178)) ((aQ h.size).add 2))=(some i))/\(cf 247 #[.agg #[f,g,i],iQ 9,iQ 20,lQ (some (aQ e.size)) 1 1] (e.push (oQ #[uQ j] 178)) λe e=>K tQ e)))))) (D4 (d == 9) (D2 H1 (aQ h.size) λe=>C9 e λf=>I8 H1 (aQ h.size) λg i j=>nP a λk=>cf 253 #[.agg #[g,i,j],uQ b,uQ c] H1 λg i=>asInt .i64 g λg=>ce i h.size 0 e (cf 147 #[pQ f,iQ g] i λe f=>asInt .u64 e λe=>bd 6 10 (C7 f (k.add 8) (uQ e) λe=>nP a λf=>C7 e (f.add 1) (iQ 10) λe=>K tQ e))) (D4 (d == 10) (D2 H1 (aQ h.size) λe=>C9 e λf=>I8 H1 (aQ h.size) λg i j=>nP a λk=>bd 6 10 (D2 H1 (k.add 8) λl=>asInt .u64 l λm=>D2 H1 ((aQ h.size).add 1) λn=>C9 n λo=>nP o λo=>D2 H1 (o.add 6) λp=>D3 p λq r s=>bd c (r:Int) (F3 (pQ q) λq=>D2 H1 (q.add (c.toNat*1)) λr=>asInt .u64 r λs=>cf 253 #[.agg #[g,i,j],uQ b,uQ c] H1 λg i=>asInt .i64 g λg=>((A3 i (q.add (c.toNat*1)))=(some r))/\(((A3 i (o.add 6))=(some p))/\(((A3 i ((aQ h.size).add 1))=(some n))/\(((A3 i (k.add 8))=(some l))/\(ce i h.size 0 e (cf 228 #[uQ m,iQ (wrap .i64 s),dQ false] i λc i=>asInt .u64 c λc=>ce i h.size 0 e (cf 212 #[pQ f,iQ g,uQ c] i λc c=>nP a λe=>bd 5 10 (lI .u64 c (e.add 7) λe=>nP a λf=>bd 5 10 (C7 c (f.add 7) (uQ (wrap .u64 (e+1))) λc=>nP a λe=>C7 c (e.add 1) (iQ 9) λc=>nP a λe=>bd 5 10 (lI .u64 c (e.add 7) λe=>nP a λf=>bd 3 10 (lI .u64 c (f.add 5) λf=>D4 (decide (e >= f)) (nP a λe=>C7 c (e.add 1) (iQ 11) λe=>K tQ e) (K tQ c)))))))))))))) (D4 (d == 11) (nP a λc=>bd 5 10 (C7 H1 (c.add 7) (uQ 1) λc=>nP a λd=>C7 c (d.add 1) (iQ 8) λc=>I8 c (aQ h.size) λd e f=>I8 c (aQ h.size) λg i j=>lP c ((aQ h.size).add 1) λk=>nP k λk=>lS c (k.add 5) λk l m=>bd 0 (l:Int) (F3 (pQ k) λk=>lI .u64 c k λk=>D2 c ((aQ h.size).add 1) λl=>C9 l λm=>nP m λm=>D2 c (m.add 7) λn=>D3 n λo p q=>bd 0 (p:Int) (F3 (pQ o) λo=>D2 c o λp=>asInt .u64 p λq=>cf 253 #[.agg #[g,i,j],uQ k,uQ 0] c λc g=>asInt .i64 c λc=>((A3 g o)=(some p))/\(((A3 g (m.add 7))=(some n))/\(((A3 g ((aQ h.size).add 1))=(some l))/\(ce g h.size 0 d (((A3 g ((aQ h.size).add 1))=(some e))/\(((A3 g ((aQ h.size).add 2))=(some f))/\(cf 254 #[.agg #[d,e,f],iQ c,uQ q,uQ b] g λb c=>asBool b λb=>D4 b (nP a λa=>C7 c (a.add 1) (iQ 12) λa=>K tQ a) (K tQ c))))))))))) (K tQ H1)))))))
def F169 (K:kQ) (h:A2) (xa xb xc:rQ):Prop:=
 (g169 K h (h.push (oQ #[pQ xa,pQ xb,pQ xc] 199)))
theorem call169 {xa xb xc:rQ} (H:F169 K h xa xb xc):A4 prog 169 #[(.agg #[(pQ xa),(pQ xb),(pQ xc)])] h K:=
 cQ Tryz.func169 H
abbrev g170 (K:kQ) (h H1:A2):Prop:=
 (lP H1 ((aQ h.size).add 2) λa=>nP a λb=>bd 2 10 (lI .u64 H1 (b.add 4) λb=>nP a λc=>bd 5 10 (lI .u64 H1 (c.add 7) λc=>nP a λd=>lI .i64 H1 (d.add 1) λd=>D4 (d == 12) (nP a λe=>bd 3 10 (lI .u64 H1 (e.add 5) λe=>D4 (decide (c >= e)) (nP a λe=>C7 H1 (e.add 1) (iQ 15) λe=>K tQ e) (D2 H1 (aQ h.size) λe=>C9 e λf=>I8 H1 (aQ h.size) λg i j=>nP a λk=>cf 253 #[.agg #[g,i,j],uQ b,uQ c] H1 λg i=>asInt .i64 g λg=>ce i h.size 0 e (cf 147 #[pQ f,iQ g] i λe f=>asInt .u64 e λe=>bd 6 10 (C7 f (k.add 8) (uQ e) λe=>nP a λf=>bd 6 10 (lI .u64 e (f.add 8) λf=>cf 255 #[uQ f] e λe f=>asBool e λe=>D4 e (nP a λe=>C7 f (e.add 1) (iQ 15) λe=>K tQ e) (nP a λe=>bd 6 10 (lI .u64 f (e.add 8) λe=>D2 f ((aQ h.size).add 1) λg=>C9 g λi=>nP i λi=>D2 f (i.add 6) λj=>D3 j λk l m=>bd c (l:Int) (F3 (pQ k) λk=>D2 f (k.add (c.toNat*1)) λl=>asInt .u64 l λm=>cf 256 #[uQ e] f λe f=>asInt .u64 e λe=>((A3 f (k.add (c.toNat*1)))=(some l))/\(((A3 f (i.add 6))=(some j))/\(((A3 f ((aQ h.size).add 1))=(some g))/\(D4 (e != m) (nP a λe=>C7 f (e.add 1) (iQ 13) λe=>K tQ e) (nP a λe=>C7 f (e.add 1) (iQ 14) λe=>K tQ e))))))))))))) (D4 (d == 13) (I8 H1 (aQ h.size) λe f g=>I8 H1 (aQ h.size) λi j k=>nP a λl=>bd 6 10 (D2 H1 (l.add 8) λm=>asInt .u64 m λn=>D2 H1 ((aQ h.size).add 1) λo=>C9 o λp=>nP p λp=>D2 H1 (p.add 6) λq=>D3 q λr s t=>bd c (s:Int) (F3 (pQ r) λr=>D2 H1 (r.add (c.toNat*1)) λs=>asInt .u64 s λt=>cf 253 #[.agg #[i,j,k],uQ b,uQ c] H1 λi j=>asInt .i64 i λi=>((A3 j (r.add (c.toNat*1)))=(some s))/\(((A3 j (p.add 6))=(some q))/\(((A3 j ((aQ h.size).add 1))=(some o))/\(((A3 j (l.add 8))=(some m))/\(ce j h.size 0 e (((A3 j ((aQ h.size).add 1))=(some f))/\(((A3 j ((aQ h.size).add 2))=(some g))/\(cf 254 #[.agg #[e,f,g],iQ i,uQ n,uQ t] j λe f=>asBool e λe=>nP a λe=>C7 f (e.add 1) (iQ 12) λe=>K tQ e)))))))))) (D4 (d == 14) (I8 H1 (aQ h.size) λd e f=>I8 H1 (aQ h.size) λg i j=>lP H1 ((aQ h.size).add 1) λk=>nP k λk=>lS H1 (k.add 5) λk l m=>bd c (l:Int) (F3 (pQ k) λk=>lI .u64 H1 (k.add (c.toNat*1)) λk=>D2 H1 ((aQ h.size).add 1) λl=>C9 l λm=>nP m λm=>D2 H1 (m.add 7) λn=>D3 n λo p q=>bd c (p:Int) (F3 (pQ o) λo=>D2 H1 (o.add (c.toNat*1)) λp=>asInt .u64 p λq=>cf 253 #[.agg #[g,i,j],uQ k,uQ c] H1 λg i=>asInt .i64 g λg=>((A3 i (o.add (c.toNat*1)))=(some p))/\(((A3 i (m.add 7))=(some n))/\(((A3 i ((aQ h.size).add 1))=(some l))/\(ce i h.size 0 d (((A3 i ((aQ h.size).add 1))=(some e))/\(((A3 i ((aQ h.size).add 2))=(some f))/\(cf 254 #[.agg #[d,e,f],iQ g,uQ q,uQ b] i λb c=>asBool b λb=>D4 b (nP a λb=>bd 5 10 (lI .u64 c (b.add 7) λb=>nP a λd=>bd 5 10 (C7 c (d.add 7) (uQ (wrap .u64 (b+1))) λb=>nP a λd=>C7 b (d.add 1) (iQ 12) λb=>K tQ b))) (I8 c (aQ h.size) λb d e=>nP a λa=>bd 4 10 (lI .u64 c (a.add 6) λa=>((A3 (c.push (oQ #[uQ a] 178)) (aQ h.size))=(some b))/\(((A3 (c.push (oQ #[uQ a] 178)) ((aQ h.size).add 1))=(some d))/\(((A3 (c.push (oQ #[uQ a] 178)) ((aQ h.size).add 2))=(some e))/\(cf 247 #[.agg #[b,d,e],iQ 12,iQ 20,lQ (some (aQ c.size)) 1 1] (c.push (oQ #[uQ a] 178)) λa a=>K tQ a)))))))))))))) (K tQ H1))))))
def F170 (K:kQ) (h:A2) (xa xb xc:rQ):Prop:=
 (g170 K h (h.push (oQ #[pQ xa,pQ xb,pQ xc] 199)))
theorem call170 {xa xb xc:rQ} (H:F170 K h xa xb xc):A4 prog 170 #[(.agg #[(pQ xa),(pQ xb),(pQ xc)])] h K:=
 cQ Tryz.func170 H
abbrev g171 (K:kQ) (h H1:A2):Prop:=
 (lP H1 ((aQ h.size).add 2) λa=>nP a λb=>lI .i64 H1 (b.add 1) λb=>D4 (b == 15) (I8 H1 (aQ h.size) λc d e=>nP a λf=>bd 2 10 (lI .u64 H1 (f.add 4) λf=>cf 257 #[.agg #[c,d,e],uQ f] H1 λc d=>asBool c λc=>D4 c (I8 d (aQ h.size) λc e f=>nP a λg=>bd 4 10 (lI .u64 d (g.add 6) λg=>((A3 (d.push (oQ #[uQ g] 178)) (aQ h.size))=(some c))/\(((A3 (d.push (oQ #[uQ g] 178)) ((aQ h.size).add 1))=(some e))/\(((A3 (d.push (oQ #[uQ g] 178)) ((aQ h.size).add 2))=(some f))/\(cf 247 #[.agg #[c,e,f],iQ 17,iQ 20,lQ (some (aQ d.size)) 1 1] (d.push (oQ #[uQ g] 178)) λc c=>K tQ c))))) (nP a λc=>C7 d (c.add 1) (iQ 16) λc=>K tQ c))) (D4 (b == 17) (I8 H1 (aQ h.size) λb c d=>nP a λa=>bd 2 10 (lI .u64 H1 (a.add 4) λa=>((A3 (H1.push (oQ #[uQ a] 178)) (aQ h.size))=(some b))/\(((A3 (H1.push (oQ #[uQ a] 178)) ((aQ h.size).add 1))=(some c))/\(((A3 (H1.push (oQ #[uQ a] 178)) ((aQ h.size).add 2))=(some d))/\(cf 247 #[.agg #[b,c,d],iQ 16,iQ 5,lQ (some (aQ H1.size)) 1 1] (H1.push (oQ #[uQ a] 178)) λa a=>K tQ a))))) (I8 H1 (aQ h.size) λa b c=>cf 248 #[.agg #[a,b,c],uQ 0,uQ 0,uQ 0] H1 λa a=>K tQ a)))
def F171 (K:kQ) (h:A2) (xa xb xc:rQ):Prop:=
 (g171 K h (h.push (oQ #[pQ xa,pQ xb,pQ xc] 199)))
theorem call171 {xa xb xc:rQ} (H:F171 K h xa xb xc):A4 prog 171 #[(.agg #[(pQ xa),(pQ xb),(pQ xc)])] h K:=
 cQ Tryz.func171 H
abbrev q172_1 (h37:A2) (n35 n38:Int):A2:=(h37.push (oQ #[(uQ (wrap .u64 (wrap .i64 (n35 - 2)))),(uQ (wrap .u64 n38))] 178))
abbrev g172 (K:kQ) (h H1:A2):Prop:=
 (lP H1 ((aQ h.size).add 2) λa=>nP a λb=>lI .i64 H1 (b.add 1) λb=>D4 (b == 0) (nP a λc=>bd 6 10 (C7 H1 (c.add 8) (uQ 0) λc=>I8 c (aQ h.size) λd e f=>lP c (aQ h.size) λg=>I8 c (aQ h.size) λi j k=>cf 79 #[pQ g] c λc g=>asAgg c λc=>G3 c 15 (O8 c λc l m n o p q r s t u v w x y=>ce g h.size 0 i (((A3 g ((aQ h.size).add 1))=(some j))/\(((A3 g ((aQ h.size).add 2))=(some k))/\(ce g h.size 0 d (((A3 g ((aQ h.size).add 1))=(some e))/\(((A3 g ((aQ h.size).add 2))=(some f))/\(cf 233 #[.agg #[c,l,m,n,o,p,q,r,s,t,u,v,w,x,y]] g λc g=>asInt .i64 c λc=>ce g h.size 0 i (((A3 g ((aQ h.size).add 1))=(some j))/\(((A3 g ((aQ h.size).add 2))=(some k))/\(ce g h.size 0 d (((A3 g ((aQ h.size).add 1))=(some e))/\(((A3 g ((aQ h.size).add 2))=(some f))/\(cf 253 #[.agg #[i,j,k],uQ 1,uQ 0] g λg i=>asInt .i64 g λg=>ce i h.size 0 d (((A3 i ((aQ h.size).add 1))=(some e))/\(((A3 i ((aQ h.size).add 2))=(some f))/\(ce (q172_1 i c g) h.size 0 d (((A3 (q172_1 i c g) ((aQ h.size).add 1))=(some e))/\(((A3 (q172_1 i c g) ((aQ h.size).add 2))=(some f))/\(cf 247 #[.agg #[d,e,f],iQ 1,iQ 3,lQ (some (aQ i.size)) 2 2] (q172_1 i c g) λc c=>K tQ c))))))))))))))))))))) (D4 (b == 1) (D2 H1 ((aQ h.size).add 1) λc=>C9 c λd=>nP d λd=>bd 0 3 (D2 H1 (d.add 2) λe=>asInt .u64 e λf=>lP H1 ((aQ h.size).add 1) λg=>nP g λg=>bd 0 3 (lI .u64 H1 (g.add 2) λg=>nP a λi=>nP a λj=>cf 256 #[uQ g] H1 λg k=>asInt .u64 g λg=>((A3 k (d.add 2))=(some e))/\(((A3 k ((aQ h.size).add 1))=(some c))/\(bd 0 10 (C7 k (i.add 2) (uQ f) λc=>bd 1 10 (C7 c (j.add 3) (uQ g) λc=>nP a λd=>C7 c (d.add 1) (iQ 2) λc=>nP a λd=>bd 1 10 (lI .u64 c (d.add 3) λd=>D4 (d == 2) (I8 c (aQ h.size) λd e f=>cf 248 #[.agg #[d,e,f],uQ 3,uQ 0,uQ 0] c λd d=>K tQ d) (K tQ c))))))))) (D4 (b == 2) (D2 H1 (aQ h.size) λc=>C9 c λd=>I8 H1 (aQ h.size) λe f g=>nP a λi=>bd 1 10 (lI .u64 H1 (i.add 3) λi=>nP a λj=>cf 251 #[.agg #[e,f,g],uQ i,iQ 1] H1 λe f=>asInt .i64 e λe=>ce f h.size 0 c (cf 147 #[pQ d,iQ e] f λc d=>asInt .u64 c λc=>bd 3 10 (C7 d (j.add 5) (uQ c) λc=>nP a λd=>C7 c (d.add 1) (iQ 3) λc=>nP a λd=>bd 3 10 (lI .u64 c (d.add 5) λd=>cf 258 #[uQ d] c λc d=>asBool c λc=>D4 c (nP a λc=>C7 d (c.add 1) (iQ 6) λc=>K tQ c) (K tQ d)))))) (D4 (b == 3) (D2 H1 (aQ h.size) λb=>C9 b λc=>I8 H1 (aQ h.size) λd e f=>nP a λg=>bd 1 10 (lI .u64 H1 (g.add 3) λg=>nP a λi=>cf 251 #[.agg #[d,e,f],uQ g,iQ 0] H1 λd e=>asInt .i64 d λd=>ce e h.size 0 b (cf 147 #[pQ c,iQ d] e λb c=>asInt .u64 b λb=>bd 2 10 (C7 c (i.add 4) (uQ b) λb=>nP a λc=>C7 b (c.add 1) (iQ 4) λb=>nP a λa=>lI .i64 b a λa=>D4 (a == 23) (M0 b h.size λa c d=>cf 259 #[.agg #[a,c,d]] b λa a=>K tQ a) (K tQ b))))) (K tQ H1)))))
def F172 (K:kQ) (h:A2) (xa xb xc:rQ):Prop:=
 (g172 K h (h.push (oQ #[pQ xa,pQ xb,pQ xc] 200)))
theorem call172 {xa xb xc:rQ} (H:F172 K h xa xb xc):A4 prog 172 #[(.agg #[(pQ xa),(pQ xb),(pQ xc)])] h K:=
 cQ Tryz.func172 H
abbrev g173 (K:kQ) (h H1:A2):Prop:=
 (lP H1 ((aQ h.size).add 2) λa=>nP a λb=>lI .i64 H1 (b.add 1) λb=>D4 (b == 4) (nP a λc=>C7 H1 (c.add 1) (iQ 0) λc=>D2 c (aQ h.size) λd=>C9 d λe=>I8 c (aQ h.size) λf g i=>nP a λj=>bd 1 10 (lI .u64 c (j.add 3) λj=>nP a λk=>bd 3 10 (D2 c (k.add 5) λl=>asInt .u64 l λm=>nP a λn=>bd 3 10 (D2 c (n.add 5) λo=>asInt .u64 o λp=>cf 251 #[.agg #[f,g,i],uQ j,iQ 1] c λc f=>asInt .i64 c λc=>((A3 f (n.add 5))=(some o))/\(((A3 f (k.add 5))=(some l))/\(ce f h.size 0 d (cf 260 #[uQ p] f λf g=>asInt .u64 f λf=>((A3 g (k.add 5))=(some l))/\(ce g h.size 0 d (cf 219 #[pQ e,iQ c,uQ m,uQ f] g λc d=>asBool c λc=>D4 c (nP a λc=>bd 6 10 (C7 d (c.add 8) (uQ 1) λc=>nP a λe=>C7 c (e.add 1) (iQ 5) λc=>K tQ c)) (K tQ d)))))))))) (D4 (b == 5) (D2 H1 (aQ h.size) λc=>C9 c λd=>I8 H1 (aQ h.size) λe f g=>nP a λi=>bd 1 10 (lI .u64 H1 (i.add 3) λi=>cf 251 #[.agg #[e,f,g],uQ i,iQ 4] H1 λe f=>asInt .i64 e λe=>ce f h.size 0 c (cf 212 #[pQ d,iQ e,uQ 1] f λc c=>nP a λd=>C7 c (d.add 1) (iQ 6) λc=>K tQ c))) (D4 (b == 6) (D2 H1 (aQ h.size) λb=>C9 b λc=>I8 H1 (aQ h.size) λd e f=>nP a λg=>bd 1 10 (lI .u64 H1 (g.add 3) λg=>nP a λi=>cf 251 #[.agg #[d,e,f],uQ g,iQ 3] H1 λd e=>asInt .i64 d λd=>ce e h.size 0 b (cf 147 #[pQ c,iQ d] e λb c=>asInt .u64 b λb=>bd 4 10 (C7 c (i.add 6) (uQ b) λb=>nP a λa=>C7 b (a.add 1) (iQ 7) λa=>K tQ a)))) (K tQ H1))))
def F173 (K:kQ) (h:A2) (xa xb xc:rQ):Prop:=
 (g173 K h (h.push (oQ #[pQ xa,pQ xb,pQ xc] 200)))
theorem call173 {xa xb xc:rQ} (H:F173 K h xa xb xc):A4 prog 173 #[(.agg #[(pQ xa),(pQ xb),(pQ xc)])] h K:=
 cQ Tryz.func173 H
abbrev g174 (K:kQ) (h H1:A2):Prop:=
 (lP H1 ((aQ h.size).add 2) λa=>nP a λb=>lI .i64 H1 (b.add 1) λb=>D4 (b == 7) (nP a λc=>bd 4 10 (lI .u64 H1 (c.add 6) λc=>D4 (c == 0) (nP a λc=>C7 H1 (c.add 1) (iQ 9) λc=>nP a λd=>bd 6 10 (lI .u64 c (d.add 8) λd=>D4 (d == 1) (nP a λd=>C7 c (d.add 1) (iQ 11) λd=>K tQ d) (K tQ c))) (D2 H1 (aQ h.size) λc=>C9 c λd=>I8 H1 (aQ h.size) λe f g=>nP a λi=>bd 1 10 (lI .u64 H1 (i.add 3) λi=>nP a λj=>bd 4 10 (lI .u64 H1 (j.add 6) λj=>nP a λk=>cf 253 #[.agg #[e,f,g],uQ i,uQ (wrap .u64 (j - 1))] H1 λe f=>asInt .i64 e λe=>ce f h.size 0 c (cf 147 #[pQ d,iQ e] f λc d=>asInt .u64 c λc=>bd 5 10 (C7 d (k.add 7) (uQ c) λc=>nP a λd=>C7 c (d.add 1) (iQ 8) λc=>nP a λd=>bd 5 10 (lI .u64 c (d.add 7) λd=>cf 255 #[uQ d] c λc d=>asBool c λc=>D4 c (nP a λc=>bd 4 10 (lI .u64 d (c.add 6) λc=>nP a λe=>bd 4 10 (C7 d (e.add 6) (uQ (wrap .u64 (c - 1))) λc=>nP a λe=>C7 c (e.add 1) (iQ 7) λc=>K tQ c))) (K tQ d))))))))) (D4 (b == 8) (nP a λb=>C7 H1 (b.add 1) (iQ 7) λb=>D2 b (aQ h.size) λc=>C9 c λd=>I8 b (aQ h.size) λe f g=>nP a λi=>bd 1 10 (lI .u64 b (i.add 3) λi=>nP a λj=>bd 4 10 (lI .u64 b (j.add 6) λj=>nP a λk=>bd 5 10 (D2 b (k.add 7) λl=>asInt .u64 l λm=>nP a λn=>bd 5 10 (D2 b (n.add 7) λo=>asInt .u64 o λp=>cf 253 #[.agg #[e,f,g],uQ i,uQ (wrap .u64 (j - 1))] b λb e=>asInt .i64 b λb=>((A3 e (n.add 7))=(some o))/\(((A3 e (k.add 7))=(some l))/\(ce e h.size 0 c (cf 261 #[uQ p] e λe f=>asInt .u64 e λe=>((A3 f (k.add 7))=(some l))/\(ce f h.size 0 c (cf 219 #[pQ d,iQ b,uQ m,uQ e] f λb c=>asBool b λb=>D4 b (nP a λb=>bd 4 10 (lI .u64 c (b.add 6) λb=>nP a λa=>bd 4 10 (C7 c (a.add 6) (uQ (wrap .u64 (b - 1))) λa=>K tQ a))) (K tQ c))))))))))) (K tQ H1)))
def F174 (K:kQ) (h:A2) (xa xb xc:rQ):Prop:=
 (g174 K h (h.push (oQ #[pQ xa,pQ xb,pQ xc] 200)))
theorem call174 {xa xb xc:rQ} (H:F174 K h xa xb xc):A4 prog 174 #[(.agg #[(pQ xa),(pQ xb),(pQ xc)])] h K:=
 cQ Tryz.func174 H
abbrev g175 (K:kQ) (h H1:A2):Prop:=
 (lP H1 ((aQ h.size).add 2) λa=>nP a λb=>lI .i64 H1 (b.add 1) λb=>D4 (b == 9) (D2 H1 (aQ h.size) λc=>C9 c λd=>I8 H1 (aQ h.size) λe f g=>nP a λi=>bd 1 10 (lI .u64 H1 (i.add 3) λi=>nP a λj=>cf 253 #[.agg #[e,f,g],uQ i,uQ 0] H1 λe f=>asInt .i64 e λe=>ce f h.size 0 c (cf 147 #[pQ d,iQ e] f λc d=>asInt .u64 c λc=>bd 5 10 (C7 d (j.add 7) (uQ c) λc=>nP a λd=>C7 c (d.add 1) (iQ 10) λc=>K tQ c)))) (D4 (b == 10) (I8 H1 (aQ h.size) λc d e=>I8 H1 (aQ h.size) λf g i=>nP a λj=>bd 0 10 (D2 H1 (j.add 2) λk=>asInt .u64 k λl=>nP a λm=>bd 5 10 (D2 H1 (m.add 7) λn=>asInt .u64 n λo=>cf 253 #[.agg #[f,g,i],uQ 1,uQ 0] H1 λf g=>asInt .i64 f λf=>((A3 g (m.add 7))=(some n))/\(((A3 g (j.add 2))=(some k))/\(ce g h.size 0 c (((A3 g ((aQ h.size).add 1))=(some d))/\(((A3 g ((aQ h.size).add 2))=(some e))/\(cf 256 #[uQ o] g λg i=>asInt .u64 g λg=>((A3 i (j.add 2))=(some k))/\(ce i h.size 0 c (((A3 i ((aQ h.size).add 1))=(some d))/\(((A3 i ((aQ h.size).add 2))=(some e))/\(cf 254 #[.agg #[c,d,e],iQ f,uQ l,uQ g] i λc d=>asBool c λc=>nP a λc=>C7 d (c.add 1) (iQ 0) λc=>K tQ c)))))))))))) (D4 (b == 11) (I8 H1 (aQ h.size) λc d e=>nP a λf=>bd 1 10 (lI .u64 H1 (f.add 3) λf=>cf 257 #[.agg #[c,d,e],uQ f] H1 λc d=>asBool c λc=>D4 c (I8 d (aQ h.size) λc e f=>nP a λg=>bd 2 10 (lI .u64 d (g.add 4) λg=>((A3 (d.push (oQ #[uQ g] 178)) (aQ h.size))=(some c))/\(((A3 (d.push (oQ #[uQ g] 178)) ((aQ h.size).add 1))=(some e))/\(((A3 (d.push (oQ #[uQ g] 178)) ((aQ h.size).add 2))=(some f))/\(cf 247 #[.agg #[c,e,f],iQ 12,iQ 20,lQ (some (aQ d.size)) 1 1] (d.push (oQ #[uQ g] 178)) λc c=>K tQ c))))) (nP a λc=>C7 d (c.add 1) (iQ 13) λc=>K tQ c))) (D4 (b == 12) (I8 H1 (aQ h.size) λb c d=>nP a λa=>bd 1 10 (lI .u64 H1 (a.add 3) λa=>((A3 (H1.push (oQ #[uQ a] 178)) (aQ h.size))=(some b))/\(((A3 (H1.push (oQ #[uQ a] 178)) ((aQ h.size).add 1))=(some c))/\(((A3 (H1.push (oQ #[uQ a] 178)) ((aQ h.size).add 2))=(some d))/\(cf 247 #[.agg #[b,c,d],iQ 13,iQ 5,lQ (some (aQ H1.size)) 1 1] (H1.push (oQ #[uQ a] 178)) λa a=>K tQ a))))) (M0 H1 h.size λa b c=>cf 259 #[.agg #[a,b,c]] H1 λa a=>K tQ a)))))
def F175 (K:kQ) (h:A2) (xa xb xc:rQ):Prop:=
 (g175 K h (h.push (oQ #[pQ xa,pQ xb,pQ xc] 200)))
theorem call175 {xa xb xc:rQ} (H:F175 K h xa xb xc):A4 prog 175 #[(.agg #[(pQ xa),(pQ xb),(pQ xc)])] h K:=
 cQ Tryz.func175 H
abbrev g242 (K:kQ) (h H1:A2):Prop:=
 (lP H1 ((aQ h.size).add 2) λa=>nP a λa=>bd 2 10 (C7 H1 (a.add 4) (uQ 1) λa=>D2 a ((aQ h.size).add 2) λb=>C9 b λc=>lP a (aQ h.size) λd=>nP c λc=>cf 79 #[pQ d] a λa d=>asAgg a λa=>G3 a 15 (O8 a λa e f g i j k l m n o p q r s=>((A3 d ((aQ h.size).add 2))=(some b))/\(cf 139 #[.agg #[a,e,f,g,i,j,k,l,m,n,o,p,q,r,s]] d λa d=>asAgg a λa=>G3 a 7 (Jv a λa a a a e e e=>((A3 d ((aQ h.size).add 2))=(some b))/\(asInt .i64 a λa=>bd 1 10 (C7 d (c.add 3) (uQ (wrap .u64 (wrap .i64 (a - 1)))) λa=>lP a ((aQ h.size).add 2) λb=>nP b λb=>C7 a (b.add 1) (iQ 1) λa=>K tQ a)))))))
def F242 (K:kQ) (h:A2) (xa xb xc:rQ):Prop:=
 (g242 K h (h.push (oQ #[pQ xa,pQ xb,pQ xc] 250)))
theorem call242 {xa xb xc:rQ} (H:F242 K h xa xb xc):A4 prog 242 #[(.agg #[(pQ xa),(pQ xb),(pQ xc)])] h K:=
 cQ Tryz.func242 H
abbrev g243 (K:kQ) (h H1:A2):Prop:=
 (lP H1 ⟨h.size,2,none⟩ λa=>nP a λa=>bd 1 10 (lI .u64 H1 (a.add 3) λa=>K (iQ (wrap .i64 a)) H1))
def F243 (K:kQ) (h:A2) (xa xb xc:rQ):Prop:=
 (g243 K h (h.push (oQ #[pQ xa,pQ xb,pQ xc] 248)))
theorem call243 {xa xb xc:rQ} (H:F243 K h xa xb xc):A4 prog 243 #[(.agg #[(pQ xa),(pQ xb),(pQ xc)])] h K:=
 cQ Tryz.func243 H
abbrev g244 (K:kQ) (h H1:A2) (xa:Int):Prop:=
 (lP H1 ((aQ h.size).add 2) λa=>nP a λa=>bd 3 10 (C7 H1 (a.add 5) (uQ xa) λa=>I8 a (aQ h.size) λb c d=>cf 296 #[.agg #[b,c,d]] a λa b=>asInt .u64 a λa=>cf 226 #[uQ a] b λa b=>asBool a λa=>D4 a (lP b ((aQ h.size).add 2) λa=>nP a λa=>C7 b (a.add 1) (iQ 8) λa=>K tQ a) (I8 b (aQ h.size) λa c d=>cf 296 #[.agg #[a,c,d]] b λa b=>asInt .u64 a λa=>cf 146 #[uQ a] b λa b=>asInt .i64 a λa=>D4 (a == 2) (M0 b h.size λa c d=>cf 297 #[.agg #[a,c,d]] b λa a=>K tQ a) (lP b ((aQ h.size).add 2) λa=>nP a λa=>C7 b (a.add 1) (iQ 3) λa=>K tQ a))))
def F244 (K:kQ) (h:A2) (xa xb xc:rQ) (xd:Int):Prop:=
 (g244 K h (h.push (oQ #[pQ xa,pQ xb,pQ xc] 250)) xd)
theorem call244 {xa xb xc:rQ} {xd:Int} (H:F244 K h xa xb xc xd):A4 prog 244 #[(.agg #[(pQ xa),(pQ xb),(pQ xc)]),(uQ xd)] h K:=
 cQ Tryz.func244 H
abbrev g245 (K:kQ) (h H1:A2) (xa:Int):Prop:=
 (lP H1 (aQ h.size) λa=>M0 H1 h.size λb c d=>cf 79 #[pQ a] H1 λa e=>asAgg a λa=>G3 a 15 (O8 a λa f g i j k l m n o p q r s t=>ce e h.size 0 b (ce e h.size 1 c (ce e h.size 2 d (cf 243 #[.agg #[b,c,d]] e λb c=>asInt .i64 b λb=>cf 143 #[.agg #[a,f,g,i,j,k,l,m,n,o,p,q,r,s,t],iQ (wrap .i64 xa),iQ (wrap .i64 (5+b))] c λa b=>asInt .i64 a λa=>K (iQ a) b)))))
def F245 (K:kQ) (h:A2) (xa xb xc:rQ) (xd:Int):Prop:=
 (g245 K h (h.push (oQ #[pQ xa,pQ xb,pQ xc] 248)) xd)
theorem call245 {xa xb xc:rQ} {xd:Int} (H:F245 K h xa xb xc xd):A4 prog 245 #[(.agg #[(pQ xa),(pQ xb),(pQ xc)]),(uQ xd)] h K:=
 cQ Tryz.func245 H
abbrev g246 (K:kQ) (h H1:A2):Prop:=
 (lP H1 ((aQ h.size).add 2) λa=>I8 H1 (aQ h.size) λb c d=>cf 296 #[.agg #[b,c,d]] H1 λb c=>asInt .u64 b λb=>cf 146 #[uQ b] c λb c=>asInt .i64 b λb=>nP a λd=>lI .i64 c (d.add 1) λd=>D4 (d == 3) (D2 c (aQ h.size) λe=>C9 e λf=>lP c (aQ h.size) λg=>D2 c ((aQ h.size).add 1) λi=>C9 i λj=>nP j λj=>D2 c j λk=>asInt .i64 k λl=>I8 c (aQ h.size) λm n o=>cf 79 #[pQ g] c λg p=>asAgg g λg=>G3 g 15 (O8 g λg q r s t u v w x y z A B C D=>ce p h.size 0 m (((A3 p ((aQ h.size).add 1))=(some n))/\(((A3 p ((aQ h.size).add 2))=(some o))/\(((A3 p j)=(some k))/\(((A3 p ((aQ h.size).add 1))=(some i))/\(ce p h.size 0 e (cf 243 #[.agg #[m,n,o]] p λm n=>asInt .i64 m λm=>((A3 n j)=(some k))/\(((A3 n ((aQ h.size).add 1))=(some i))/\(ce n h.size 0 e (cf 232 #[.agg #[g,q,r,s,t,u,v,w,x,y,z,A,B,C,D],iQ l,iQ (wrap .i64 ((wrap .i64 (2*m))+1))] n λg i=>asInt .i64 g λg=>ce i h.size 0 e (cf 212 #[pQ f,iQ g,uQ (wrap .u64 b)] i λe e=>nP a λf=>C7 e (f.add 1) (iQ 4) λe=>K tQ e)))))))))))) (D4 (d == 4) (D2 c (aQ h.size) λe=>C9 e λf=>I8 c (aQ h.size) λg i j=>nP a λk=>bd 2 10 (lI .u64 c (k.add 4) λk=>cf 245 #[.agg #[g,i,j],uQ k] c λg i=>asInt .i64 g λg=>ce i h.size 0 e (cf 147 #[pQ f,iQ g] i λe f=>asInt .u64 e λe=>nP a λg=>bd 3 10 (lI .u64 f (g.add 5) λg=>D4 (e != g) (M0 f h.size λg i j=>cf 244 #[.agg #[g,i,j],uQ e] f λe e=>K tQ e) (nP a λe=>C7 f (e.add 1) (iQ 5) λe=>K tQ e))))) (D4 (d == 5) (D2 c (aQ h.size) λe=>C9 e λf=>I8 c (aQ h.size) λg i j=>nP a λk=>cf 245 #[.agg #[g,i,j],uQ (wrap .u64 b)] c λg i=>asInt .i64 g λg=>ce i h.size 0 e (cf 147 #[pQ f,iQ g] i λe f=>asInt .u64 e λe=>bd 4 10 (C7 f (k.add 6) (uQ e) λe=>nP a λf=>C7 e (f.add 1) (iQ 7) λe=>nP a λf=>bd 4 10 (lI .u64 e (f.add 6) λf=>cf 226 #[uQ f] e λe f=>asBool e λe=>D4 e (nP a λe=>C7 f (e.add 1) (iQ 6) λe=>K tQ e) (K tQ f))))) (D4 (d == 6) (I8 c (aQ h.size) λe f g=>nP a λi=>bd 4 10 (D2 c (i.add 6) λj=>asInt .u64 j λk=>cf 296 #[.agg #[e,f,g]] c λe f=>asInt .u64 e λe=>((A3 f (i.add 6))=(some j))/\(cf 146 #[uQ k] f λf g=>asInt .i64 f λf=>cf 228 #[uQ e,iQ f,dQ false] g λe f=>asInt .u64 e λe=>D2 f (aQ h.size) λg=>C9 g λi=>I8 f (aQ h.size) λj k l=>nP a λm=>bd 2 10 (lI .u64 f (m.add 4) λm=>nP a λn=>bd 3 10 (D2 f (n.add 5) λo=>asInt .u64 o λp=>cf 245 #[.agg #[j,k,l],uQ m] f λf j=>asInt .i64 f λf=>((A3 j (n.add 5))=(some o))/\(ce j h.size 0 g (cf 219 #[pQ i,iQ f,uQ p,uQ e] j λf g=>asBool f λf=>D4 (!f) (nP a λf=>C7 g (f.add 1) (iQ 2) λf=>K tQ f) (M0 g h.size λf i j=>cf 244 #[.agg #[f,i,j],uQ e] g λe e=>K tQ e)))))))) (D4 (d == 7) (D2 c (aQ h.size) λd=>C9 d λe=>lP c (aQ h.size) λf=>nP a λg=>bd 0 10 (D2 c (g.add 2) λi=>asInt .u64 i λj=>cf 79 #[pQ f] c λf k=>asAgg f λf=>G3 f 15 (O8 f λf l m n o p q r s t u v w x y=>((A3 k (g.add 2))=(some i))/\(ce k h.size 0 d (cf 143 #[.agg #[f,l,m,n,o,p,q,r,s,t,u,v,w,x,y],iQ (wrap .i64 (wrap .u64 b)),iQ 0] k λf k=>asInt .i64 f λf=>((A3 k (g.add 2))=(some i))/\(ce k h.size 0 d (cf 147 #[pQ e,iQ f] k λd e=>asInt .u64 d λd=>((A3 e (g.add 2))=(some i))/\(D4 (decide (d >= j)) (M0 e h.size λd f g=>cf 297 #[.agg #[d,f,g]] e λd d=>K tQ d) (nP a λd=>bd 2 10 (C7 e (d.add 4) (uQ (wrap .u64 b)) λb=>nP a λa=>C7 b (a.add 1) (iQ 1) λa=>K tQ a)))))))))) (K tQ c))))))
def F246 (K:kQ) (h:A2) (xa xb xc:rQ):Prop:=
 (g246 K h (h.push (oQ #[pQ xa,pQ xb,pQ xc] 250)))
theorem call246 {xa xb xc:rQ} (H:F246 K h xa xb xc):A4 prog 246 #[(.agg #[(pQ xa),(pQ xb),(pQ xc)])] h K:=
 cQ Tryz.func246 H
abbrev g247 (K:kQ) (h H1:A2) (xa xb:Int) (xc:rQ) (xd xe:Nat):Prop:=
 (lP H1 ⟨h.size,2,none⟩ λa=>nP a λa=>C7 H1 (a.add 1) (iQ xa) λa=>lP a ⟨h.size,1,none⟩ λb=>cf 130 #[pQ b,iQ xb,lQ xc xd xe] a λa a=>K tQ a)
def F247 (K:kQ) (h:A2) (xa xb xc:rQ) (xd xe:Int) (xf:rQ) (xg xh:Nat):Prop:=
 (g247 K h (h.push (oQ #[pQ xa,pQ xb,pQ xc] 197)) xd xe xf xg xh)
theorem call247 {xa xb xc:rQ} {xd xe:Int} {xf:rQ} {xg xh:Nat} (H:F247 K h xa xb xc xd xe xf xg xh):A4 prog 247 #[(.agg #[(pQ xa),(pQ xb),(pQ xc)]),(iQ xd),(iQ xe),(lQ xf xg xh)] h K:=
 cQ Tryz.func247 H
abbrev g248 (K:kQ) (h H1:A2) (xa xb xc:Int):Prop:=
 (lP H1 ⟨h.size,2,none⟩ λa=>D2 H1 ⟨h.size,2,none⟩ λb=>C9 b λc=>D2 H1 ⟨h.size,2,none⟩ λd=>C9 d λe=>nP a λa=>bd 7 10 (nP c λc=>nP e λe=>C7 H1 (a.add 9) (uQ xa) λa=>ce a h.size 2 d (ce a h.size 2 b (bd 8 10 (C7 a (c.add 10) (uQ xb) λa=>ce a h.size 2 d (bd 9 10 (C7 a (e.add 11) (uQ xc) λa=>M0 a h.size λb c d=>cf 247 #[.agg #[b,c,d],iQ 90,iQ 4,lQ none 0 0] a λa a=>K tQ a)))))))
def F248 (K:kQ) (h:A2) (xa xb xc:rQ) (xd xe xf:Int):Prop:=
 (g248 K h (h.push (oQ #[pQ xa,pQ xb,pQ xc] 197)) xd xe xf)
theorem call248 {xa xb xc:rQ} {xd xe xf:Int} (H:F248 K h xa xb xc xd xe xf):A4 prog 248 #[(.agg #[(pQ xa),(pQ xb),(pQ xc)]),(uQ xd),(uQ xe),(uQ xf)] h K:=
 cQ Tryz.func248 H
abbrev g251 (K:kQ) (h H1:A2) (xa xb:Int):Prop:=
 (lP H1 (aQ h.size) λa=>cf 79 #[pQ a] H1 λa b=>asAgg a λa=>G3 a 15 (O8 a λa c d e f g i j k l m n o p q=>cf 143 #[.agg #[a,c,d,e,f,g,i,j,k,l,m,n,o,p,q],iQ (wrap .i64 xa),iQ xb] b λa b=>asInt .i64 a λa=>K (iQ a) b))
def F251 (K:kQ) (h:A2) (xa xb xc:rQ) (xd xe:Int):Prop:=
 (g251 K h (h.push (oQ #[pQ xa,pQ xb,pQ xc] 197)) xd xe)
theorem call251 {xa xb xc:rQ} {xd xe:Int} (H:F251 K h xa xb xc xd xe):A4 prog 251 #[(.agg #[(pQ xa),(pQ xb),(pQ xc)]),(uQ xd),(iQ xe)] h K:=
 cQ Tryz.func251 H
abbrev g253 (K:kQ) (h H1:A2) (xa xb:Int):Prop:=
 (M0 H1 h.size λa b c=>cf 251 #[.agg #[a,b,c],uQ xa,iQ (wrap .i64 (5+(wrap .i64 xb)))] H1 λa b=>asInt .i64 a λa=>K (iQ a) b)
def F253 (K:kQ) (h:A2) (xa xb xc:rQ) (xd xe:Int):Prop:=
 (g253 K h (h.push (oQ #[pQ xa,pQ xb,pQ xc] 197)) xd xe)
theorem call253 {xa xb xc:rQ} {xd xe:Int} (H:F253 K h xa xb xc xd xe):A4 prog 253 #[(.agg #[(pQ xa),(pQ xb),(pQ xc)]),(uQ xd),(uQ xe)] h K:=
 cQ Tryz.func253 H
abbrev g254 (K:kQ) (h H1:A2) (xa xb xc:Int):Prop:=
 (D2 H1 (aQ h.size) λa=>C9 a λb=>cf 228 #[uQ xb,iQ (wrap .i64 xc),dQ false] H1 λc d=>asInt .u64 c λc=>ce d h.size 0 a (cf 219 #[pQ b,iQ xa,uQ xb,uQ c] d λa b=>asBool a λa=>K (dQ a) b))
def F254 (K:kQ) (h:A2) (xa xb xc:rQ) (xd xe xf:Int):Prop:=
 (g254 K h (h.push (oQ #[pQ xa,pQ xb,pQ xc] 197)) xd xe xf)
theorem call254 {xa xb xc:rQ} {xd xe xf:Int} (H:F254 K h xa xb xc xd xe xf):A4 prog 254 #[(.agg #[(pQ xa),(pQ xb),(pQ xc)]),(iQ xd),(uQ xe),(uQ xf)] h K:=
 cQ Tryz.func254 H
def F255 (K:kQ) (h:A2) (xa:Int):Prop:=
 (cf 226 #[uQ xa] h λa b=>asBool a λa=>K (dQ a) b)
theorem call255 {xa:Int} (H:F255 K h xa):A4 prog 255 #[(uQ xa)] h K:=
 cQ Tryz.func255 H
def F256 (K:kQ) (h:A2) (xa:Int):Prop:=
 (cf 146 #[uQ xa] h λa b=>asInt .i64 a λa=>K (uQ (wrap .u64 a)) b)
theorem call256 {xa:Int} (H:F256 K h xa):A4 prog 256 #[(uQ xa)] h K:=
 cQ Tryz.func256 H
abbrev g257 (K:kQ) (h H1:A2) (xa:Int):Prop:=
 (D2 H1 (aQ h.size) λa=>C9 a λb=>M0 H1 h.size λc d e=>cf 251 #[.agg #[c,d,e],uQ xa,iQ 2] H1 λc d=>asInt .i64 c λc=>ce d h.size 0 a (cf 188 #[pQ b,iQ c,uQ 18446744073709551615] d λa b=>asInt .u64 a λa=>K (dQ (a == 1)) b))
def F257 (K:kQ) (h:A2) (xa xb xc:rQ) (xd:Int):Prop:=
 (g257 K h (h.push (oQ #[pQ xa,pQ xb,pQ xc] 197)) xd)
theorem call257 {xa xb xc:rQ} {xd:Int} (H:F257 K h xa xb xc xd):A4 prog 257 #[(.agg #[(pQ xa),(pQ xb),(pQ xc)]),(uQ xd)] h K:=
 cQ Tryz.func257 H
abbrev g259 (K:kQ) (h H1:A2):Prop:=
 (I8 H1 (aQ h.size) λa b c=>lP H1 ((aQ h.size).add 2) λd=>nP d λd=>bd 2 10 (lI .u64 H1 (d.add 4) λd=>D2 H1 ((aQ h.size).add 2) λe=>C9 e λf=>nP f λf=>bd 3 10 (D2 H1 (f.add 5) λg=>asInt .u64 g λi=>cf 274 #[uQ d] H1 λd j=>asInt .u32 d λd=>((A3 j (f.add 5))=(some g))/\(((A3 j ((aQ h.size).add 2))=(some e))/\(ce j h.size 0 a (((A3 j ((aQ h.size).add 1))=(some b))/\(((A3 j ((aQ h.size).add 2))=(some c))/\(cf 298 #[uQ i] j λe f=>asInt .u32 e λe=>ce f h.size 0 a (((A3 f ((aQ h.size).add 1))=(some b))/\(((A3 f ((aQ h.size).add 2))=(some c))/\(cf 248 #[.agg #[a,b,c],uQ 2,uQ (wrap .u64 d),uQ (wrap .u64 e)] f λa a=>K tQ a)))))))))))
def F259 (K:kQ) (h:A2) (xa xb xc:rQ):Prop:=
 (g259 K h (h.push (oQ #[pQ xa,pQ xb,pQ xc] 200)))
theorem call259 {xa xb xc:rQ} (H:F259 K h xa xb xc):A4 prog 259 #[(.agg #[(pQ xa),(pQ xb),(pQ xc)])] h K:=
 cQ Tryz.func259 H
abbrev g296 (K:kQ) (h H1:A2):Prop:=
 (lP H1 ⟨h.size,2,none⟩ λa=>nP a λa=>bd 3 10 (lI .u64 H1 (a.add 5) λa=>K (uQ a) H1))
def F296 (K:kQ) (h:A2) (xa xb xc:rQ):Prop:=
 (g296 K h (h.push (oQ #[pQ xa,pQ xb,pQ xc] 248)))
theorem call296 {xa xb xc:rQ} (H:F296 K h xa xb xc):A4 prog 296 #[(.agg #[(pQ xa),(pQ xb),(pQ xc)])] h K:=
 cQ Tryz.func296 H
abbrev g297 (K:kQ) (h H1:A2):Prop:=
 (D2 H1 ((aQ h.size).add 2) λa=>C9 a λb=>I8 H1 (aQ h.size) λc d e=>cf 243 #[.agg #[c,d,e]] H1 λc d=>asInt .i64 c λc=>((A3 d ((aQ h.size).add 2))=(some a))/\(D2 d ((aQ h.size).add 1) λa=>C9 a λe=>nP e λe=>D2 d (e.add 5) λf=>D3 f λg i j=>D2 d ((aQ h.size).add 1) λj=>C9 j λk=>nP k λk=>D2 d (k.add 7) λl=>D3 l λm n o=>D2 d ((aQ h.size).add 1) λo=>C9 o λp=>nP p λp=>D2 d (p.add 6) λq=>D3 q λr s t=>nP b λt=>bd 2 10 (D2 d (t.add 4) λu=>asInt .u64 u λv=>nP b λw=>bd 3 10 (D2 d (w.add 5) λx=>asInt .u64 x λy=>I8 d (aQ h.size) λz A B=>cf 296 #[.agg #[z,A,B]] d λd z=>asInt .u64 d λd=>((A3 z (w.add 5))=(some x))/\(((A3 z (t.add 4))=(some u))/\(((A3 z (p.add 6))=(some q))/\(((A3 z ((aQ h.size).add 1))=(some o))/\(((A3 z (k.add 7))=(some l))/\(((A3 z ((aQ h.size).add 1))=(some j))/\(((A3 z (e.add 5))=(some f))/\(((A3 z ((aQ h.size).add 1))=(some a))/\(cf 146 #[uQ d] z λd z=>asInt .i64 d λd=>((A3 z (w.add 5))=(some x))/\(((A3 z (t.add 4))=(some u))/\(((A3 z (p.add 6))=(some q))/\(((A3 z ((aQ h.size).add 1))=(some o))/\(((A3 z (k.add 7))=(some l))/\(((A3 z ((aQ h.size).add 1))=(some j))/\(((A3 z (e.add 5))=(some f))/\(((A3 z ((aQ h.size).add 1))=(some a))/\(bd c (i:Int) (F3 (pQ g) λa=>C7 z (a.add (c.toNat*1)) (uQ v) λa=>bd c (n:Int) (F3 (pQ m) λe=>C7 a (e.add (c.toNat*1)) (uQ y) λa=>bd c (s:Int) (F3 (pQ r) λe=>C7 a (e.add (c.toNat*1)) (uQ (wrap .u64 d)) λa=>D4 (c == 0) (lP a ((aQ h.size).add 1) λc=>cf 106 #[pQ c,lQ none 0 0] a λc c=>K tQ c) (nP b λc=>bd 1 10 (lI .u64 a (c.add 3) λc=>nP b λd=>bd 1 10 (C7 a (d.add 3) (uQ (wrap .u64 (c - 1))) λa=>nP b λb=>C7 a (b.add 1) (iQ 1) λa=>K tQ a))))))))))))))))))))))))))
def F297 (K:kQ) (h:A2) (xa xb xc:rQ):Prop:=
 (g297 K h (h.push (oQ #[pQ xa,pQ xb,pQ xc] 250)))
theorem call297 {xa xb xc:rQ} (H:F297 K h xa xb xc):A4 prog 297 #[(.agg #[(pQ xa),(pQ xb),(pQ xc)])] h K:=
 cQ Tryz.func297 H
end
section
open Mod
def Thr.setPl (t:Thr) (p s w:List Int):Thr:={ t with pred:=p,succ:=s,word:=w }
theorem Sr4 {h:A2} {T:Nat} {fo:Option (Nat × Nat)} {t:Thr} {id:Int} {R:Hp} (H:A9 h (M7 T fo t id*R)):∃pb sb wb,∃Q:Hp,
  (∀h' P,A9 h' (Q*P)->A3 h' ⟨T,5,none⟩=some (lQ (some (aQ pb)) t.pred.length t.pred.length)/\A3 h' ⟨T,6,none⟩=some (lQ (some (aQ sb)) t.succ.length t.succ.length)/\A3 h' ⟨T,7,none⟩=some (lQ (some (aQ wb)) t.word.length t.word.length)) /\
  A9 h (pt pb (oQ (V7 t.pred).toArray 178)*(pt sb (oQ (V7 t.succ).toArray 178)*(pt wb (oQ (V7 t.word).toArray 178)*(Q*R)))) /\
  ∀R' h' p s w,p.length=t.pred.length->s.length=t.succ.length->w.length=t.word.length->(∀v ∈ p,U v)->(∀v ∈ s,U v)->(∀v ∈ w,U v) ->
   A9 h' (pt pb (oQ (V7 p).toArray 178)*(pt sb (oQ (V7 s).toArray 178)*(pt wb (oQ (V7 w).toArray 178)*(Q*R'))))->A9 h' (M7 T fo (Thr.setPl t p s w) id*R'):=by
 obtain ⟨B,x,H0⟩:=J8.1 H
 refine ⟨B.pred,B.succ,B.word,pt T (oQ (DR B t id).toArray 183)*(E8 190 12 B.fr t.fr.length B.frn (t.fr.flatMap Dk)*(E8 3 1 B.re t.retired.length B.ren (t.retired.map iv)*DP B.fo t.found.length B.fon t.found)),λh' P HQ=>?_,A9.ac H0 (by ac_rfl),?_⟩
 ·have O:=A9.at (F2 _ _ _ ▸ HQ)
  exact ⟨F6 O rfl,F6 O rfl,F6 O rfl⟩
 ·intro R' h' p s w hp hs hw up us uw H1
  obtain ⟨b1,b2,b3,b4,b5,b6,b7,b8⟩:=x.1
  refine J8.2 ⟨B,⟨⟨b1,b2,up,us,uw,b6,b7,b8⟩,x.2⟩,?_⟩
  unfold Thr.setPl DR
  simp only [hp,hs,hw]
  exact A9.ac H1 (by ac_rfl)
section
variable {K:kQ} {h:A2} {M T b o N:Nat} {tv:vQ} {fo:Option (Nat × Nat)} {x:B9} {R:Hp}
theorem Se (H:A9 h (A1 M T tv fo x R)):∃pb sb wb,∃Q:Hp,
  (∀h' P,A9 h' (Q*P)->A3 h' ⟨T,5,none⟩=some (lQ (some (aQ pb)) x.t.pred.length x.t.pred.length)/\A3 h' ⟨T,6,none⟩=some (lQ (some (aQ sb)) x.t.succ.length x.t.succ.length)/\A3 h' ⟨T,7,none⟩=some (lQ (some (aQ wb)) x.t.word.length x.t.word.length)) /\
  A9 h (pt pb (oQ (V7 x.t.pred).toArray 178)*(pt sb (oQ (V7 x.t.succ).toArray 178)*(pt wb (oQ (V7 x.t.word).toArray 178)*(Q*(M9 M tv x.m*R))))) /\
  ∀h' p s w,p.length=x.t.pred.length->s.length=x.t.succ.length->w.length=x.t.word.length->(∀v ∈ p,U v)->(∀v ∈ s,U v)->(∀v ∈ w,U v) ->
   A9 h' (pt pb (oQ (V7 p).toArray 178)*(pt sb (oQ (V7 s).toArray 178)*(pt wb (oQ (V7 w).toArray 178)*(Q*(M9 M tv x.m*R)))))->A9 h' (A1 M T tv fo (x.setPl p s w) R):=by
 obtain ⟨pb,sb,wb,Q,h1,h2,h3⟩:=Sr4 (A1.thr H)
 exact ⟨pb,sb,wb,Q,h1,h2,λh' p s w a1 a2 a3 a4 a5 a6 H1=>A1.ofThr (h3 _ h' p s w a1 a2 a3 a4 a5 a6 H1)⟩
theorem SM7 {h:A2} {B:Nat} {l:List Int} {t:TypeId} (e:h[B]? = some (oQ (V7 l).toArray t)) {i:Int} (h0:0<=i) (h1:i < l.length):A3 h ⟨B,i.toNat,none⟩=some (uQ (l.getD i.toNat 0)):=SK7 e h0 h1
theorem Iy (H:A9 h (A1 M T tv (some (b,o)) x R)) (k:∀h',G9 h.size h h'->K (iQ (G2 (x.f.g 1))) h') :
  A4 prog 243 #[rV M T b o] h K:=by
 refine call243 ?_
 unfold F243 g243 bd lP lI nP
 have oo:G9 h.size h (h.push (oQ #[mP M,mP T,fP b o] 248)):=(G9.refl _ _).push _ (G0 _)
 have H1:=A1.new H (oQ #[mP M,mP T,fP b o] 248);generalize h.push (oQ #[mP M,mP T,fP b o] 248)=h1 at *;generalize h.size=N at *
 refine ss H1 ?_
 exact k h1 oo
theorem Ex (H:A9 h (A1 M T tv (some (b,o)) x R)) (k:∀h',G9 h.size h h'->K (uQ (x.f.g 3)) h') :
  A4 prog 296 #[rV M T b o] h K:=by
 refine call296 ?_
 unfold F296 g296 bd lP lI nP
 have oo:G9 h.size h (h.push (oQ #[mP M,mP T,fP b o] 248)):=(G9.refl _ _).push _ (G0 _)
 have H1:=A1.new H (oQ #[mP M,mP T,fP b o] 248);generalize h.push (oQ #[mP M,mP T,fP b o] 248)=h1 at *;generalize h.size=N at *
 refine ss H1 ?_
 exact k h1 oo
theorem Gu (H:A9 h (A1 M T tv (some (b,o)) x R)) {n:Int} (hr:0<=G2 (x.f.g 1)/\G2 (x.f.g 1) < 1000) (k:∀h',G9 h.size h h'->K (iQ (x.nlink n (x.f.g 1))) h') :
  A4 prog 245 #[rV M T b o,uQ n] h K:=by
 refine call245 ?_
 unfold F245 g245 cf ce lP O8 M0
 have oo:G9 h.size h (h.push (oQ #[mP M,mP T,fP b o] 248)):=(G9.refl _ _).push _ (G0 _)
 have P:=A1.pl H
 have s1:=oo.1
 have H1:=A1.new H (oQ #[mP M,mP T,fP b o] 248);generalize h.push (oQ #[mP M,mP T,fP b o] 248)=h1 at *;generalize h.size=N at *
 refine ss H1 ?_
 refine A0 (Bw H1 λh2 o2=>By ?_)
 have H2:=A1.old H1 o2
 refine ss H2 ?_
 refine A0 (Iy H2 λh3 o3=>?_)
 refine sb ?_
 rw [show G2 (5+G2 (x.f.g 1))=5+G2 (x.f.g 1) from by rw [<- Hn,E3 (by omega) (by omega)]]
 refine A0 (R0 P (T9 _) ⟨by omega,by omega⟩ λh4 o4=>?_)
 refine sb ?_
 exact k h4 (oo.trans (((o2.trans (o3.mono o2.1)).trans (o4.mono (R4 o2.1 o3.1))).mono s1))
structure FS (x:B9) (r:Int):Prop where
 r:0<=G2 r/\G2 r < x.t.pred.length
 e1:x.t.succ.length=x.t.pred.length
 e2:x.t.word.length=x.t.pred.length
 e3:x.t.pred.length<=6
theorem Ka (H:A9 h (A1 M T tv (some (b,o)) x R)) (hr:FS x (x.f.g 1)) (k:∀h',A9 h' (A1 M T tv none (Y5 x) R)->K tQ h') :
  A4 prog 297 #[rV M T b o] h K:=by
 refine call297 ?_
 unfold F297 g297 cf bd lP lI nP I8
 have B:=A1.fB H
 have TB:=A1.B H
 obtain ⟨⟨r0,r1⟩,e1,e2,e3⟩:=hr
 unfold Y5 at k
 dsimp only at k
 have H1:=A1.new H (oQ #[mP M,mP T,fP b o] 250);generalize h.push (oQ #[mP M,mP T,fP b o] 250)=h1 at *;generalize h.size=N at *
 refine ss H1 ?_
 refine A0 (Iy H1 λh2 o2=>?_)
 have H2:=A1.old H1 o2
 obtain ⟨pb,sb,wb,Q,hQ,HR,re⟩:=Se H2
 obtain ⟨c5,c6,c7⟩:=hQ h2 _ HR.drop.drop.drop
 have d5:∀F:vQ->Prop,D2 h2 ⟨T,5,none⟩ F=F (lQ (some (aQ pb)) x.t.pred.length x.t.pred.length):=λF=>by unfold D2;rw [c5]
 have d6:∀F:vQ->Prop,D2 h2 ⟨T,6,none⟩ F=F (lQ (some (aQ sb)) x.t.succ.length x.t.succ.length):=λF=>by unfold D2;rw [c6]
 have d7:∀F:vQ->Prop,D2 h2 ⟨T,7,none⟩ F=F (lQ (some (aQ wb)) x.t.word.length x.t.word.length):=λF=>by unfold D2;rw [c7]
 refine sd4 (A1.al H2) d5 d6 d7 ?_
 refine A0 (Ex H2 λh3 o3=>?_)
 have H3:=A1.old H2 o3
 have HR3:=HR.old o3
 obtain ⟨c5,c6,c7⟩:=hQ h3 _ HR3.drop.drop.drop
 refine sd4 (A1.al H3) c5 c6 c7 ?_
 refine A0 (N9 (B.g 3) ?_)
 refine sd4 (A1.al H3) c5 c6 c7 ?_
 refine ⟨r0,by omega,?_⟩
 have hu:∀l:List Int,(V7 l).length=l.length:=Mw
 have us:∀(l:List Int) (i:Nat) (v:Int),(V7 l).set i (uQ v)=V7 (l.set i v):=λl i v=>by unfold V7;rw [Ra]
 refine Dv HR3 (by rw [hu];omega) trivial λh4 H4=>?_
 refine ⟨r0,by omega,?_⟩
 rw [Jk,us] at H4
 refine Dv H4 (by rw [hu];omega) trivial λh5 H5=>?_
 refine ⟨r0,by omega,?_⟩
 rw [<- Jk,us,D8] at H5
 refine Dv H5 (by rw [hu];omega) trivial λh6 H6=>?_
 rw [D8,us] at H6
 have H7:=re h6 _ _ _ (by simp) (by simp) (by simp) (Ak TB.pr (B.g 2)) (Ak TB.su (U8 _)) (Ak TB.wo (B.g 3)) H6
 refine ss H7 ?_
 apply A6<;>intro c
 ·have c':(G2 (x.f.g 1)).toNat=0:=by omega
  rw [A8 c'] at k
  exact A0 (Pg H7 As.none (by omega) λh8 H8=>k h8 (A1.drp H8))
 ·have c':¬ (G2 (x.f.g 1)).toNat=0:=by omega
  rw [A7 c'] at k
  have ef:(x.setPl (x.t.pred.set (G2 (x.f.g 1)).toNat (x.f.g 2)) (x.t.succ.set (G2 (x.f.g 1)).toNat (J5 (x.f.g 3))) (x.t.word.set (G2 (x.f.g 1)).toNat (x.f.g 3))).f=x.f:=rfl
  refine se1 ef ?_
  exact A1.stR (i:=1) H7 rfl (S9 _) λh8 H8=>A1.stP H8 λh9 H9=>k h9 (A1.drp (A1.none H9))
end
end
section
open Mod
theorem Gv {n:Int} (h0:0<=n) (h1:n < 1000):G2 n=n:=by unfold G2;omega
section
variable {K:kQ} {h:A2} {M T b o N:Nat} {tv:vQ} {fo:Option (Nat × Nat)} {x:B9} {R:Hp}
theorem FS.same {y:B9} {r:Int} (H:FS x r) (e:y.t.pred=x.t.pred/\y.t.succ=x.t.succ/\y.t.word=x.t.word):FS y r:=by
 obtain ⟨h1,h2,h3,h4⟩:=H
 exact ⟨by rw [e.1];exact h1,by rw [e.1,e.2.1];exact h2,by rw [e.1,e.2.2];exact h3,by rw [e.1];exact h4⟩
theorem HU (H:A9 h (A1 M T tv (some (b,o)) x R)) {w:Int} (hw:U w) (hr:FS x (x.f.g 1)) (k:∀h',A9 h' (A1 M T tv none (CH x w) R)->K tQ h') :
  A4 prog 244 #[rV M T b o,uQ w] h K:=by
 refine call244 ?_
 unfold F244 g244 cf bd lP nP I8 M0
 have B:=A1.fB H
 unfold CH at k
 dsimp only at k
 have H1:=A1.new H (oQ #[mP M,mP T,fP b o] 250);generalize h.push (oQ #[mP M,mP T,fP b o] 250)=h1 at *;generalize h.size=N at *
 refine ss H1 ?_
 refine A1.stR (i:=3) H1 rfl hw λh2 H2=>?_
 refine ss H2 ?_
 refine A0 (Ex H2 λh3 o3=>?_)
 have H3:=A1.old H2 o3
 refine sd2 (A1.al H3) B.len ?_
 refine A0 (W6 hw ?_)
 refine ss H3 ?_
 apply D1<;>intro c
 ·rw [A8 c] at k
  exact A1.stP H3 λh4 H4=>k h4 (A1.drp (A1.none H4))
 rw [A7 (by rw [c];simp)] at k
 refine A0 (Ex H3 λh4 o4=>?_)
 have H4:=A1.old H3 o4
 refine sd2 (A1.al H4) B.len ?_
 refine A0 (N9 hw ?_)
 refine ss H4 ?_
 apply A6<;>intro c
 ·rw [A8 c] at k
  have hr2:FS (x.s 3 w) ((x.s 3 w).f.g 1):=by
   rw [Dw,L9 _ (by decide)]
   exact hr.same ⟨rfl,rfl,rfl⟩
  exact A0 (Ka H4 hr2 λh5 H5=>k h5 (A1.drp H5))
 ·rw [A7 c] at k
  exact A1.stP H4 λh5 H5=>k h5 (A1.drp (A1.none H5))
theorem Vd (H:A9 h (A1 M T tv (some (b,o)) x R)) (k:∀h',A9 h' (A1 M T tv none (((x.s 2 1).s 1 (u64 (x.m.p.c.level - 1))).pc 1) R)->K tQ h') :
  A4 prog 242 #[rV M T b o] h K:=by
 refine call242 ?_
 unfold F242 g242 cf bd lP nP Jv O8
 have P:=A1.pl H
 have H1:=A1.new H (oQ #[mP M,mP T,fP b o] 250);generalize h.push (oQ #[mP M,mP T,fP b o] 250)=h1 at *;generalize h.size=N at *
 refine ss H1 ?_
 refine A1.stR (i:=2) H1 rfl (U.lit rfl) λh2 H2=>?_
 refine ss H2 ?_
 refine A0 (Fh H2 λh3 H3=>By ?_)
 refine ss H3 ?_
 refine A0 (V8 λh4 o4=>cf7 ?_)
 have H4:=A1.old H3 o4
 refine ss H4 ?_
 refine A1.stR (i:=1) H4 rfl (S9 _) λh5 H5=>?_
 refine ss H5 ?_
 exact A1.stP H5 λh6 H6=>k h6 (A1.drp (A1.none H6))
theorem YV (H:A9 h (A1 M T tv (some (b,o)) x R)) (O:Ok x) (hr:FS x (x.f.g 1)) (k:∀h',A9 h' (A1 M T tv none (Fb x) R)->K tQ h') :
  A4 prog 246 #[rV M T b o] h K:=by
 refine call246 ?_
 unfold F246 g246 cf ce bd lP lI nP I8 O8 M0
 have B:=A1.fB H
 have P:=A1.pl H
 have hrr:0<=G2 (x.f.g 1)/\G2 (x.f.g 1) < 1000:=⟨hr.r.1,by have:=hr.r.2;have:=hr.e3;omega⟩
 have hr6:G2 (x.f.g 1) < 6:=by have:=hr.r.2;have:=hr.e3;omega
 unfold Fb at k
 dsimp only at k
 have H1:=A1.new H (oQ #[mP M,mP T,fP b o] 250);generalize h.push (oQ #[mP M,mP T,fP b o] 250)=h1 at *;generalize h.size=N at *
 refine ss H1 ?_
 refine A0 (Ex H1 λh2 o2=>?_)
 have H2:=A1.old H1 o2
 refine ss H2 ?_
 refine A0 (N9 (B.g 3) ?_)
 refine ss H2 ?_
 apply A6<;>intro c
 ·rw [A8 c] at k
  refine A0 (Bw H2 λh3 o3=>By ?_)
  have H3:=A1.old H2 o3
  refine ss H3 ?_
  refine A0 (Iy H3 λh4 o4=>?_)
  have H4:=A1.old H3 o4
  refine ss H4 ?_
  rw [Gv (n:=2*G2 (x.f.g 1)) (by omega) (by omega),Gv (n:=2*G2 (x.f.g 1)+1) (by omega) (by omega)]
  refine A0 (BP P O.id ⟨by omega,by omega⟩ λh5 o5=>?_)
  have H5:=A1.old H4 o5
  refine ss H5 ?_
  refine A0 (U7 H5 (Hv P _ _) (U8 _) O.st λh6 H6=>?_)
  exact A1.stP H6 λh7 H7=>k h7 (A1.drp (A1.none H7))
 rw [A7 c] at k
 apply A6<;>intro c
 ·rw [A8 c] at k
  refine A0 (Gu H2 hrr λh3 o3=>?_)
  have H3:=A1.old H2 o3
  refine ss H3 ?_
  refine A0 (M5 H3 (F4 P _ _) O.st λh4 H4 u4=>?_)
  refine ss H4 ?_
  apply D1<;>intro c2
  ·rw [A8 (by simpa using c2)] at k
   exact A0 (HU H4 u4 (hr.same ⟨rfl,rfl,rfl⟩) λh5 H5=>k h5 (A1.drp H5))
  ·rw [A7 (by simpa using c2)] at k
   exact A1.stP H4 λh5 H5=>k h5 (A1.drp (A1.none H5))
 rw [A7 c] at k
 apply A6<;>intro c
 ·rw [A8 c] at k
  refine A0 (Gu H2 hrr λh3 o3=>?_)
  have H3:=A1.old H2 o3
  refine ss H3 ?_
  refine A0 (M5 H3 (F4 P _ _) O.st λh4 H4 u4=>?_)
  refine ss H4 ?_
  refine A1.stR (i:=4) H4 rfl u4 λh5 H5=>A1.stP H5 λh6 H6=>?_
  refine sd2 (A1.al H6) B.len ?_
  refine A0 (W6 u4 ?_)
  refine ss H6 ?_
  apply D1<;>intro c2
  ·rw [A8 c2] at k
   exact A1.stP H6 λh7 H7=>k h7 (A1.drp (A1.none H7))
  ·rw [A7 (by rw [c2];simp)] at k
   exact k h6 (A1.drp (A1.none H6))
 rw [A7 c] at k
 apply A6<;>intro c
 ·rw [A8 c] at k
  refine A0 (Ex H2 λh3 o3=>?_)
  have H3:=A1.old H2 o3
  refine ss H3 ?_
  refine A0 (N9 (B.g 4) ?_)
  refine ss H3 ?_
  refine A0 (U6 (B.g 3) ?_)
  refine ss H3 ?_
  refine A0 (Gu H3 hrr λh4 o4=>?_)
  have H4:=A1.old H3 o4
  refine ss H4 ?_
  refine A0 (UH H4 (F4 P _ _) Bi O.st λh5 H5=>?_)
  refine ss H5 ?_
  apply D1<;>intro c2
  ·rw [A7 (by simpa using c2)] at k
   exact A1.stP H5 λh6 H6=>k h6 (A1.drp (A1.none H6))
  ·rw [A8 (by simpa using c2)] at k
   exact A0 (HU H5 Bi (hr.same ⟨rfl,rfl,rfl⟩) λh6 H6=>k h6 (A1.drp H6))
 rw [A7 c] at k
 apply A6<;>intro c
 ·rw [A8 c] at k
  refine A0 (Bw H2 λh3 o3=>By ?_)
  have H3:=A1.old H2 o3
  refine ss H3 ?_
  have es:G2 (J5 (x.f.g 3))=J5 (x.f.g 3):=by have:=Hu (x.f.g 3);unfold G2;omega
  try rw [es]
  refine A0 (R0 P (Mx _) (by decide) λh4 o4=>?_)
  have H4:=A1.old H3 o4
  refine ss H4 ?_
  refine A0 (M5 H4 (F4 P _ _) O.st λh5 H5 u5=>?_)
  refine ss H5 ?_
  apply A6<;>intro c2
  ·rw [A8 c2] at k
   exact A0 (Ka H5 (hr.same ⟨rfl,rfl,rfl⟩) λh6 H6=>k h6 (A1.drp H6))
  ·rw [A7 c2] at k
   exact A1.stR (i:=2) H5 rfl (U8 _) λh6 H6=>A1.stP H6 λh7 H7=>k h7 (A1.drp (A1.none H7))
 rw [A7 c] at k
 exact k h2 (A1.drp (A1.none H2))
theorem YW (H:A9 h (A1 M T tv (some (b,o)) x R)) (O:Ok x) (hr:x.f.pc≠0->FS x (x.f.g 1)) (k:∀h',A9 h' (A1 M T tv none (Fc x) R)->K tQ h') :
  A4 prog 166 #[rV M T b o] h K:=by
 refine call166 ?_
 unfold F166 g166 cf bd lP lI nP I8 dc3 O8 M0 ce
 have B:=A1.fB H
 have P:=A1.pl H
 unfold Fc at k
 dsimp only at k
 have H1:=A1.new H (oQ #[mP M,mP T,fP b o] 250);generalize h.push (oQ #[mP M,mP T,fP b o] 250)=h1 at *;generalize h.size=N at *
 refine ss H1 ?_
 apply A6<;>intro c
 ·rw [A8 c] at k
  exact A0 (Vd H1 λh2 H2=>k h2 (A1.drp H2))
 rw [A7 c] at k
 have hr:=hr c
 have hrr:0<=G2 (x.f.g 1)/\G2 (x.f.g 1) < 1000:=⟨hr.r.1,by have:=hr.r.2;have:=hr.e3;omega⟩
 have hr6:G2 (x.f.g 1) < 6:=by have:=hr.r.2;have:=hr.e3;omega
 apply A6<;>intro c
 ·rw [A8 c] at k
  refine A0 (Bw H1 λh3 o3=>By ?_)
  have H3:=A1.old H1 o3
  refine ss H3 ?_
  refine A0 (Iy H3 λh4 o4=>?_)
  have H4:=A1.old H3 o4
  refine ss H4 ?_
  rw [Gv (n:=2*G2 (x.f.g 1)) (by omega) (by omega)]
  refine A0 (BP P O.id ⟨by omega,by omega⟩ λh5 o5=>?_)
  have H5:=A1.old H4 o5
  refine ss H5 ?_
  refine A0 (U7 H5 (Hv P _ _) (B.g 2) O.st λh6 H6=>?_)
  exact A1.stP H6 λh7 H7=>k h7 (A1.drp (A1.none H7))
 rw [A7 c] at k
 apply A6<;>intro c
 ·rw [A8 c] at k
  refine A0 (Gu H1 hrr λh3 o3=>?_)
  have H3:=A1.old H1 o3
  refine ss H3 ?_
  refine A0 (M5 H3 (F4 P _ _) O.st λh4 H4 u4=>?_)
  refine ss H4 ?_
  exact A0 (HU H4 u4 (hr.same ⟨rfl,rfl,rfl⟩) λh5 H5=>k h5 (A1.drp H5))
 rw [A7 c] at k
 apply A6<;>intro c
 ·rw [A8 c] at k
  refine A0 (Bw H1 λh3 o3=>By ?_)
  have H3:=A1.old H1 o3
  refine ss H3 ?_
  refine A0 (R0 P (T9 _) (by decide) λh4 o4=>?_)
  have H4:=A1.old H3 o4
  refine ss H4 ?_
  refine A0 (M5 H4 (F4 P _ _) O.st λh5 H5 u5=>?_)
  refine ss H5 ?_
  exact A1.stP H5 λh7 H7=>k h7 (A1.drp (A1.none H7))
 rw [A7 c] at k
 exact A0 (YV H1 O hr λh2 H2=>k h2 (A1.drp H2))
def FOk (x:B9):Prop:=x.f.fn=20->x.f.pc≠0->FS x (x.f.g 1)
theorem Ve (H:A9 h (A1 M T tv fo x R)) (O:Ok x) (hf:FOk x) (k:∀h',A9 h' (A1 M T tv none (Ck x) R)->K tQ h') :
  A4 prog 112 #[mP M,mP T] h K:=by
 refine call112 ?_
 unfold F112 cf lI nP
 unfold Ck at k
 refine A0 (RQ H (λe=>?_) λb o hne _ H1=>?_)
 ·rw [A8 e] at k
  refine sb ?_
  refine ⟨λvs h'=>(∃w,vs = [dQ true,w])/\h' = h,⟨⟨_,rfl⟩,rfl⟩,?_⟩
  rintro v4 v5 g6 h7 ⟨⟨w,e⟩,rfl⟩
  cases e
  refine sb ?_
  exact k _ (A1.none H)
 ·rw [A7 hne] at k
  refine sb ?_
  refine ⟨λvs h'=>(∃w,vs = [dQ false,w])/\h' = h,⟨⟨_,rfl⟩,rfl⟩,?_⟩
  rintro v4 v5 g6 h7 ⟨⟨w,e⟩,rfl⟩
  cases e
  refine sd1 (A1.r H1) ?_
  apply A6<;>intro c
  ·rw [A8 c] at k
   exact A0 (YW H1 O (hf c) k)
  rw [A7 c] at k
  exact A0 (Fy H1 O k)
end
end
section
open Mod
theorem KW (n:Int):wrap .u32 n=Mod.u32 n:=Gn n
structure RL (x:B9):Prop where
 e1:x.t.succ.length=x.t.pred.length
 e2:x.t.word.length=x.t.pred.length
 e0:1<=x.t.pred.length
 e3:x.t.pred.length<=6
theorem Vf {p:Pl} (B:Ow p) {n r:Int} (hr:iN r):p.node n (G2 (5+r))=p.node n (5+r):=by
 have h2:=B.wi
 by_cases c:5+r < 9223372036854775808
 ·congr 1;unfold iN at hr;unfold G2;omega
 ·unfold iN at hr
  have e:G2 (5+r) < 0:=by unfold G2;omega
  unfold Pl.node
  rw [A7 (by omega),A7 (by omega)]
section
variable {K:kQ} {h:A2} {M T b o N:Nat} {tv:vQ} {fo:Option (Nat × Nat)} {x:B9} {R:Hp}
structure HV (h:A2) (T pb sb wb:Nat) (t:Thr):Prop where
 c5:A3 h ⟨T,5,Option.none⟩=some (lQ (some ⟨pb,0,Option.none⟩) t.pred.length t.pred.length)
 c6:A3 h ⟨T,6,Option.none⟩=some (lQ (some ⟨sb,0,Option.none⟩) t.pred.length t.pred.length)
 c7:A3 h ⟨T,7,Option.none⟩=some (lQ (some ⟨wb,0,Option.none⟩) t.pred.length t.pred.length)
 p:∀i:Nat,i < t.pred.length->A3 h ⟨pb,i,Option.none⟩=some (uQ (t.pred.getD i 0))
 s:∀i:Nat,i < t.pred.length->A3 h ⟨sb,i,Option.none⟩=some (uQ (t.succ.getD i 0))
 w:∀i:Nat,i < t.pred.length->A3 h ⟨wb,i,Option.none⟩=some (uQ (t.word.getD i 0))
theorem Ef {h h':A2} {a:Addr} {v:vQ} (e:A3 h a=some v) (o:G9 h.size h h'):A3 h' a=some v:=(T5 (o.2 _ (BS e))).trans e
theorem HV.old {h h':A2} {T pb sb wb:Nat} {t:Thr} (H:HV h T pb sb wb t) (o:G9 h.size h h'):HV h' T pb sb wb t:=
 ⟨Ef H.c5 o,Ef H.c6 o,Ef H.c7 o,λi hi=>Ef (H.p i hi) o,λi hi=>Ef (H.s i hi) o,λi hi=>Ef (H.w i hi) o⟩
theorem Qv {h:A2} {a:Addr} {v:vQ} (e:A3 h a=some v) (F:vQ->Prop):D2 h a F=F v:=by unfold D2;rw [e]
theorem HV.f {h:A2} {T pb sb wb:Nat} {t:Thr} (H:HV h T pb sb wb t):(∀F,D2 h ⟨T,5,Option.none⟩ F=F (lQ (some ⟨pb,0,Option.none⟩) t.pred.length t.pred.length))/\(∀F,D2 h ⟨T,6,Option.none⟩ F=F (lQ (some ⟨sb,0,Option.none⟩) t.pred.length t.pred.length))/\(∀F,D2 h ⟨T,7,Option.none⟩ F=F (lQ (some ⟨wb,0,Option.none⟩) t.pred.length t.pred.length)) /\
  A3 h ⟨T,5,Option.none⟩=some (lQ (some ⟨pb,0,Option.none⟩) t.pred.length t.pred.length)/\A3 h ⟨T,6,Option.none⟩=some (lQ (some ⟨sb,0,Option.none⟩) t.pred.length t.pred.length)/\A3 h ⟨T,7,Option.none⟩=some (lQ (some ⟨wb,0,Option.none⟩) t.pred.length t.pred.length):=
 ⟨Qv H.c5,Qv H.c6,Qv H.c7,H.c5,H.c6,H.c7⟩
theorem HV.g {h:A2} {T pb sb wb:Nat} {t:Thr} (H:HV h T pb sb wb t) {i:Nat} (hi:i < t.pred.length):(∀F,D2 h ⟨pb,i,Option.none⟩ F=F (uQ (t.pred.getD i 0)))/\(∀F,D2 h ⟨sb,i,Option.none⟩ F=F (uQ (t.succ.getD i 0)))/\(∀F,D2 h ⟨wb,i,Option.none⟩ F=F (uQ (t.word.getD i 0))) /\
  A3 h ⟨pb,i,Option.none⟩=some (uQ (t.pred.getD i 0))/\A3 h ⟨sb,i,Option.none⟩=some (uQ (t.succ.getD i 0))/\A3 h ⟨wb,i,Option.none⟩=some (uQ (t.word.getD i 0)):=
 ⟨Qv (H.p i hi),Qv (H.s i hi),Qv (H.w i hi),H.p i hi,H.s i hi,H.w i hi⟩
theorem A1.rows (H:A9 h (A1 M T tv fo x R)) (L:RL x):∃pb sb wb:Nat,HV h T pb sb wb x.t:=by
 obtain ⟨pb,sb,wb,Q,hQ,HR,re⟩:=Se H
 obtain ⟨c5,c6,c7⟩:=hQ h _ HR.drop.drop.drop
 have lc:∀ {B:Nat} {l:List Int} {t:TypeId} (_:h[B]? = some (oQ (V7 l).toArray t)) (i:Nat),i < l.length->A3 h ⟨B,i,Option.none⟩=some (uQ (l.getD i 0)):=by
  intro B l t e i hi
  have:=SM7 e (i:=(i:Int)) (by omega) (by omega)
  rw [X5] at this
  exact this
 rw [L.e1] at c6
 rw [L.e2] at c7
 exact ⟨pb,sb,wb,c5,c6,c7,λi hi=>lc HR.at i hi,λi hi=>lc HR.drop.at i (by rw [L.e1];exact hi),λi hi=>lc HR.drop.drop.at i (by rw [L.e2];exact hi)⟩
theorem SM8 (H:A9 h (A1 M T tv fo x R)) (us:x.m.used < 1099511627776) {K:kQ}
  {q:Nat} {R':Hp} (HF:A9 h (Pf q x.m.b x.m.used*R')) (re:∀h' u,A9 h' (Pf q x.m.b u*R')->A9 h' (A1 M T tv fo { x with m:=Mac.feed x.m u } R)) (hn:1<=x.m.p.c.level/\x.m.p.c.level<=6)
  (k:∀h',A9 h' (A1 M T tv fo { x with m:=(x.m.lvl x.m.p.c.level).2 } R)->K (iQ (x.m.lvl x.m.p.c.level).1) h') :
  A4 prog 250 #[mP q,iQ x.m.p.c.level] h K:=by
 refine RN HF us hn λh2 H2=>?_
 have H3:=re _ _ H2
 have e:x.m.lvl x.m.p.c.level=(Xq (drawn x.m.b x.m.used) x.m.p.c.level.toNat 0,Mac.feed x.m (x.m.used+1)):=by
  unfold Mac.lvl Mac.take
  first
   | rfl
   | (rw [A7 (by omega)];rfl)
 rw [e] at k
 exact k h2 H3
theorem Fl (H:A9 h (A1 M T tv (some (b,o)) x R)) {pc fn:Int} {a:rQ} {l c:Nat} {rs:List Int} (A:As R a l c rs) (hl:l<=10) (hd:x.t.fr.length < 1073741823)
  (k:∀h' b' o',¬ (b' = b/\o' = o)->GM h' (some (b,o)) (x.pc pc).f->A9 h' (A1 M T tv (some (b',o')) (x.call pc fn rs) R)->K tQ h') :
  A4 prog 247 #[rV M T b o,iQ pc,iQ fn,lQ a l c] h K:=by
 refine call247 ?_
 unfold F247 g247 cf lP nP
 have H1:=A1.new H (oQ #[mP M,mP T,fP b o] 197);generalize h.push (oQ #[mP M,mP T,fP b o] 197)=h1 at *;generalize h.size=N at *
 refine sl H1 ?_
 refine A1.stP H1 λh2 H2=>?_
 refine sl H2 ?_
 refine A0 (UI H2 A.skip hl (by show (x.t.fr.dropLast ++ [_]).length < _;simp;omega) λh3 b' o' h1 h2 H3=>k h3 b' o' (λe=>h1 b o rfl e) h2 (A1.drp H3))
theorem Gw (H:A9 h (A1 M T tv (some (b,o)) x R)) {pc fn:Int} {l:Nat} (rs:List Int) {ty:TypeId} (hr:rs.length=l) (hu:∀v ∈ rs,U v) (hl:Nat.ble l 10=true) (hd:x.t.fr.length < 1073741823)
  (k:∀h' b' o',¬ (b' = b/\o' = o)->GM h' (some (b,o)) (x.pc pc).f->A9 h' (A1 M T tv (some (b',o')) (x.call pc fn rs) R)->K tQ h') :
  A4 prog 247 #[rV M T b o,iQ pc,iQ fn,lQ (some (aQ h.size)) l l] (h.push (oQ (V7 rs).toArray ty)) K:=
 Fl (A1.new H (oQ (V7 rs).toArray ty)) (As.mk' hr hu) (PE hl) hd λh' b' o' h1 h2 H'=>k h' b' o' h1 h2 (A1.drp H')
theorem Y0 (H:A9 h (A1 M T tv fo x R)) {n f:Int} (hf:iN f) (k:∀h',G9 h.size h h'->K (iQ (x.na n f)) h') :
  A4 prog 251 #[rV M T b o,uQ n,iQ f] h K:=by
 refine call251 ?_
 unfold F251 g251 cf lP O8
 have oo:G9 h.size h (h.push (oQ #[mP M,mP T,fP b o] 197)):=(G9.refl _ _).push _ (G0 _)
 have s1:=oo.1
 have H1:=A1.new H (oQ #[mP M,mP T,fP b o] 197);generalize h.push (oQ #[mP M,mP T,fP b o] 197)=h1 at *;generalize h.size=N at *
 refine sl H1 ?_
 refine A0 (Bw H1 λh2 o2=>By ?_)
 refine A0 (R0 (A1.pl H) (T9 _) hf λh3 o3=>?_)
 refine sb ?_
 exact k h3 (oo.trans ((o2.trans (o3.mono o2.1)).mono s1))
theorem U1 (H:A9 h (A1 M T tv fo x R)) {n r:Int} (k:∀h',G9 h.size h h'->K (iQ (x.nlink n r)) h') :
  A4 prog 253 #[rV M T b o,uQ n,uQ r] h K:=by
 refine call253 ?_
 unfold F253 g253 cf M0
 have oo:G9 h.size h (h.push (oQ #[mP M,mP T,fP b o] 197)):=(G9.refl _ _).push _ (G0 _)
 have s1:=oo.1
 have H1:=A1.new H (oQ #[mP M,mP T,fP b o] 197);generalize h.push (oQ #[mP M,mP T,fP b o] 197)=h1 at *;generalize h.size=N at *
 refine sl H1 ?_
 refine A0 (Y0 H1 (T9 _) λh2 o2=>?_)
 refine sb ?_
 have e:x.na n (G2 (5+G2 r))=x.nlink n r:=Vf (A1.pl H) (T9 _)
 rw [e]
 exact k h2 (oo.trans (o2.mono s1))
theorem DW (H:A9 h (A1 M T tv fo x R)) {a w t:Int} (ha:iN a) (hw:U w) (hs:x.m.mm.st < 1099511627776) (k:∀h',A9 h' (A1 M T tv fo (x.swingA a w t).2 R)->K (dQ (x.swingA a w t).1) h') :
  A4 prog 254 #[rV M T b o,iQ a,uQ w,uQ t] h K:=by
 refine call254 ?_
 unfold F254 g254 cf ce
 have H1:=A1.new H (oQ #[mP M,mP T,fP b o] 197);generalize h.push (oQ #[mP M,mP T,fP b o] 197)=h1 at *;generalize h.size=N at *
 refine sl H1 ?_
 refine A0 (U6 hw ?_)
 refine sl H1 ?_
 refine A0 (UH H1 ha Bi hs λh3 H3=>?_)
 refine sb ?_
 exact k h3 (A1.drp H3)
theorem Gx (H:A9 h (A1 M T tv (some (b,o)) x R)) {k7 k8 k9:Int} (h7:U k7) (h8:U k8) (h9:U k9) (hd:x.t.fr.length < 1073741823)
  (k:∀h' b' o',A9 h' (A1 M T tv (some (b',o')) (x.fin k7 k8 k9) R)->K tQ h') :
  A4 prog 248 #[rV M T b o,uQ k7,uQ k8,uQ k9] h K:=by
 refine call248 ?_
 unfold F248 g248 cf ce bd lP nP M0
 have H1:=A1.new H (oQ #[mP M,mP T,fP b o] 197);generalize h.push (oQ #[mP M,mP T,fP b o] 197)=h1 at *;generalize h.size=N at *
 refine sl H1 ?_
 refine A1.stR (i:=7) H1 rfl h7 λh2 H2=>?_
 refine sl H2 ?_
 refine A1.stR (i:=8) H2 rfl h8 λh3 H3=>?_
 refine sl H3 ?_
 refine A1.stR (i:=9) H3 rfl h9 λh4 H4=>?_
 refine sl H4 ?_
 refine A0 (Fl H4 As.none (by omega) ?_ λh5 b' o' h1 h2 H5=>k h5 b' o' (A1.drp H5))
 have e:=OE.2 (JW (A1.thr H))
 show ((((x.t.fr.dropLast ++ [_]).dropLast ++ [_]).dropLast) ++ [_]).length < _
 simp
 omega
theorem LJ (H:A9 h (A1 M T tv fo x R)) {n:Int} (hs:x.m.mm.st < 1099511627776) (k:∀h',A9 h' (A1 M T tv fo (x.drop1 n).2 R)->K (dQ (x.drop1 n).1) h') :
  A4 prog 257 #[rV M T b o,uQ n] h K:=by
 refine call257 ?_
 unfold F257 g257 cf ce M0
 have P:=A1.pl H
 have H1:=A1.new H (oQ #[mP M,mP T,fP b o] 197);generalize h.push (oQ #[mP M,mP T,fP b o] 197)=h1 at *;generalize h.size=N at *
 refine sl H1 ?_
 refine A0 (Y0 H1 (by decide) λh2 o2=>?_)
 have H2:=A1.old H1 o2
 refine sl H2 ?_
 refine A0 (S27 H2 (F4 P _ _) hs λh3 H3 u3=>?_)
 refine sb ?_
 exact k h3 (A1.drp H3)
theorem Jp {w:Int} (hw:U w) (k:K (uQ (J5 w)) h):A4 prog 256 #[uQ w] h K:=by
 refine call256 ?_
 unfold F256 cf
 refine A0 (N9 hw ?_)
 refine sb ?_
 exact k
theorem LK {w:Int} (hw:U w) (k:K (dQ (Ae w)) h):A4 prog 255 #[uQ w] h K:=by
 refine call255 ?_
 unfold F255 cf
 refine A0 (W6 hw ?_)
 refine sb ?_
 exact k
end
end
section
open Mod
section
variable {K:kQ} {h:A2} {M T b o N:Nat} {tv:vQ} {fo:Option (Nat × Nat)} {x:B9} {R:Hp}
theorem RL.at {y:B9} (H:RL x) (e:y.t.pred=x.t.pred/\y.t.succ=x.t.succ/\y.t.word=x.t.word):RL y:=by
 obtain ⟨h1,h2,h3,h4⟩:=H
 exact ⟨by rw [e.1,e.2.1];exact h1,by rw [e.1,e.2.2];exact h2,by rw [e.1];exact h3,by rw [e.1];exact h4⟩
theorem A1.woU (H:A9 h (A1 M T tv fo x R)) (i:Nat):U (x.t.word.getD i 0):=Nr (A1.B H).wo i
theorem Vg (x:B9) (a d:Int):(x.add a d).2.m.used=x.m.used:=by
 show (x.m.add a d).2.used=x.m.used
 unfold Mac.add
 dsimp only
 have:=(BF x.m a).2.2.2.1
 split <;> exact this
theorem Qw (a b:Int):U (S5 a b):=by unfold S5 u32;constructor <;> omega
theorem Sr5 (a:Int) (g:Bool):U (Iu a g):=by unfold Iu u32 b2i;constructor <;> split <;> omega
theorem Sr6 {w:Int} (h:U w):U (Iv w):=by
 obtain ⟨h0,h1⟩:=h
 unfold Iv
 constructor <;> split <;> omega
theorem Vh {w:Int} (h:U w):Mod.u64 (Gm w)=Gm w:=by
 obtain ⟨h0,h1⟩:=h
 unfold Gm u64;omega
theorem Vi {w:Int} (h:U w):U (Gm w):=by
 obtain ⟨h0,h1⟩:=h
 unfold Gm;constructor <;> omega
theorem SM9 (w:Int):Mod.u64 (Jl w)=Jl w:=by unfold Jl u32 u64;omega
theorem SN0 (w:Int):U (Jl w):=by unfold Jl u32;constructor <;> omega
theorem Vj (H:A9 h (A1 M T tv (some (b,o)) x R)) (O:Ok x) (k:∀h',A9 h' (A1 M T tv none (Cm x) R)->K tQ h') :
  A4 prog 167 #[rV M T b o] h K:=by
 refine call167 ?_
 unfold F167 g167 cf ce bd lP lI nP I8 Jv O8
 have B:=A1.fB H
 have P:=A1.pl H
 have hd:=O.fr
 have r0:=A1.ret H 0
 unfold Cm at k
 dsimp only at k
 have H1:=A1.new H (oQ #[mP M,mP T,fP b o] 199);generalize h.push (oQ #[mP M,mP T,fP b o] 199)=h1 at *;generalize h.size=N at *
 refine ss H1 ?_
 apply A6<;>intro c
 ·rw [A8 c] at k
  exact A0 (Fl H1 As.none (by omega) (by omega) λh2 b' o' _ _ H2=>k h2 (A1.drp (A1.none H2)))
 rw [A7 c] at k
 apply A6<;>intro c
 ·rw [A8 c] at k
  refine A1.stR (i:=2) H1 rfl r0 λh2 H2=>?_
  refine sd2 (A1.al H2) B.len ?_
  apply D1<;>intro c2
  ·have c2':x.ret 0≠0:=by simpa [B9.ret] using c2
   rw [A8 c2'] at k
   exact A1.stP H2 λh3 H3=>k h3 (A1.drp (A1.none H3))
  ·have c2':¬ x.ret 0≠0:=by simpa [B9.ret] using c2
   rw [A7 c2'] at k
   have hfl:=AK x 2 (x.ret 0)
   refine ⟨λvs h'=>(∃w,vs = [dQ (decide (x.f.g 5=0/\x.t.retired.length > 0)),w])/\A9 h' (A1 M T tv (some (b,o)) (x.s 2 (x.ret 0)) (pt N (oQ #[mP M,mP T,fP b o] 199)*R)),?_,?_⟩
   ·apply A6<;>intro c3
    ·refine A0 (DV (A1.thr H2) ?_)
     refine sb ?_
     have e:decide (((x.s 2 (x.ret 0)).t.retired.length:Int) > 0)=decide (x.f.g 5=0/\x.t.retired.length > 0):=by
      rw [decide_eq_decide]
      have e2:(x.s 2 (x.ret 0)).t.retired=x.t.retired:=rfl
      rw [e2]
      omega
     rw [e]
     exact ⟨⟨_,rfl⟩,H2⟩
    ·exact ⟨⟨_,by rw [S4 (λhh=>c3 hh.1)]⟩,H2⟩
   rintro v32 v33 g34 h35 ⟨⟨w,e⟩,H3⟩
   cases e
   refine sb ?_
   apply A6<;>intro c3
   ·rw [A8 c3] at k
    refine A1.stR (i:=5) H3 rfl (U.lit rfl) λh4 H4=>?_
    have hfl2:=AK (x.s 2 (x.ret 0)) 5 1
    refine sl H4 ?_
    exact A0 (Fl H4 As.none (by omega) (by omega) λh5 b' o' _ _ H5=>k h5 (A1.drp (A1.none H5)))
   ·rw [A7 c3] at k
    refine sl H3 ?_
    exact A0 (Gx H3 (U.lit rfl) U0 U0 (by omega) λh5 b' o' H5=>k h5 (A1.drp (A1.none H5)))
 rw [A7 c] at k
 apply A6<;>intro c
 ·rw [A8 c] at k
  refine A0 (S27 H1 (by decide) O.st λh2 H2 u2=>?_)
  try simp +decide only [G5,GN,Nat.reduceAdd,Int.reduceLE,Int.reduceLT,Int.reduceToNat,Ox,Ht,L9,A1.al H2,KW]
  refine A0 (No (Us _) (Us _) ?_)
  refine ss H2 ?_
  refine A1.stR (i:=4) H2 rfl (Qw _ _) λh3 H3=>?_
  refine ss H3 ?_
  refine A0 (A1.feed H3 λq R' HF re=>?_)
  refine ss H3 ?_
  refine A0 (Bw H3 λh4 o4=>By ?_)
  have H4:=A1.old H3 o4
  have HF4:=HF.old o4
  refine A0 (V8 λh5 o5=>cf7 ?_)
  have H5:=A1.old H4 o5
  have HF5:=HF4.old o5
  refine sb ?_
  have P5:=A1.pl H5
  refine A0 (SM8 H5 ?_ HF5 re P5.lv λh6 H6=>?_)
  ·show (x.add 3 1).2.m.used < _
   rw [Vg];exact O.us
  refine sb ?_
  refine A1.stR (i:=3) H6 rfl (S9 _) λh7 H7=>A1.stP H7 λh8 H8=>k h8 (A1.drp (A1.none H8))
 rw [A7 c] at k
 exact k h1 (A1.drp (A1.none H1))
def NK (x:B9):B9:=if x.f.pc=3 then x.store (x.na (x.f.g 2) 0) (x.f.g 4) else if x.f.pc=4 then x.store (x.na (x.f.g 2) 1) (Iu (u32 (x.f.g 1)) false)
 else if x.f.pc=5 then x.store (x.na (x.f.g 2) 2) 2 else if x.f.pc=6 then x.store (x.na (x.f.g 2) 3) (x.f.g 3) else if x.f.pc=7 then x.store (x.na (x.f.g 2) 4) 0 else x
theorem SN1 (x:B9):(NK x).f=x.f:=by
 unfold NK
 split
 ·rfl
 split
 ·rfl
 split
 ·rfl
 split
 ·rfl
 split <;> rfl
theorem YX (H:A9 h (A1 M T tv (some (b,o)) x R)) (O:Ok x) (k:∀h',A9 h' (A1 M T tv none (FO x) R)->K tQ h') :
  A4 prog 168 #[rV M T b o] h K:=by
 refine call168 ?_
 unfold F168 g168 cf ce bd lP lI nP I8
 have B:=A1.fB H
 have P:=A1.pl H
 have k:∀h',A9 h' (A1 M T tv none ((NK x).pc (x.f.pc+1)) R)->K tQ h':=k
 have H1:=A1.new H (oQ #[mP M,mP T,fP b o] 199);generalize h.push (oQ #[mP M,mP T,fP b o] 199)=h1 at *;generalize h.size=N at *
 refine ss H1 ?_
 refine ⟨λ_ h'=>A9 h' (A1 M T tv (some (b,o)) (NK x) (pt N (oQ #[mP M,mP T,fP b o] 199)*R)),?_,?_⟩
 ·unfold NK
  apply A6<;>intro c
  ·rw [A8 c]
   refine A0 (Y0 H1 (by decide) λh2 o2=>?_)
   have H2:=A1.old H1 o2
   refine ss H2 ?_
   exact A0 (U7 H2 (F4 P _ _) (B.g 4) O.st λh3 H3=>H3)
  rw [A7 c]
  apply A6<;>intro c
  ·rw [A8 c]
   refine A0 (Y0 H1 (by decide) λh2 o2=>?_)
   have H2:=A1.old H1 o2
   try simp +decide only [G5,GN,Nat.reduceAdd,Int.reduceLE,Int.reduceLT,Int.reduceToNat,Ox,Ht,L9,A1.al H2,KW]
   refine A0 (Yw (Us _) ?_)
   refine ss H2 ?_
   exact A0 (U7 H2 (F4 P _ _) (Sr5 _ _) O.st λh3 H3=>H3)
  rw [A7 c]
  apply A6<;>intro c
  ·rw [A8 c]
   refine A0 (Y0 H1 (by decide) λh2 o2=>?_)
   have H2:=A1.old H1 o2
   refine ss H2 ?_
   exact A0 (U7 H2 (F4 P _ _) (U.lit rfl) O.st λh3 H3=>H3)
  rw [A7 c]
  apply A6<;>intro c
  ·rw [A8 c]
   refine A0 (Y0 H1 (by decide) λh2 o2=>?_)
   have H2:=A1.old H1 o2
   refine ss H2 ?_
   exact A0 (U7 H2 (F4 P _ _) (B.g 3) O.st λh3 H3=>H3)
  rw [A7 c]
  apply A6<;>intro c
  ·rw [A8 c]
   refine A0 (Y0 H1 (by decide) λh2 o2=>?_)
   have H2:=A1.old H1 o2
   refine ss H2 ?_
   exact A0 (U7 H2 (F4 P _ _) U0 O.st λh3 H3=>H3)
  rw [A7 c]
  exact H1
 intro v1 v2 v3 v4 v5 g6 h7 H7
 try simp +decide only [G5,GN,Nat.reduceAdd,Int.reduceLE,Int.reduceLT,Int.reduceToNat,Ox,Ht,L9,A1.al H7,SN1]
 rw [Gv (n:=x.f.pc+1) (by have:=O.pc;omega) (by have:=O.pc;omega)]
 exact A1.stP H7 λh8 H8=>k h8 (A1.drp (A1.none H8))
theorem Sf (H:A9 h (A1 M T tv (some (b,o)) x R)) (O:Ok x) (L:RL x) (hr:x.f.pc=10->x.f.g 5 < x.t.pred.length) (k:∀h',A9 h' (A1 M T tv none (AF x) R)->K tQ h') :
  A4 prog 169 #[rV M T b o] h K:=by
 refine call169 ?_
 unfold F169 g169 cf ce bd lS lP lI nP I8
 have B:=A1.fB H
 have P:=A1.pl H
 have hd:=O.fr
 unfold AF at k
 dsimp only at k
 have H1:=A1.new H (oQ #[mP M,mP T,fP b o] 199);generalize h.push (oQ #[mP M,mP T,fP b o] 199)=h1 at *;generalize h.size=N at *
 refine ss H1 ?_
 apply A6<;>intro c
 ·rw [A8 c] at k
  refine A1.stR (i:=5) H1 rfl U0 λh2 H2=>?_
  refine ss H2 ?_
  have l1:=AK x 5 0
  exact A0 (Gw H2 [x.f.g 4] rfl (X6 (B.g 4)) rfl (by omega) λh4 b' o' _ _ H4=>k h4 (A1.drp (A1.none H4)))
 rw [A7 c] at k
 apply A6<;>intro c
 ·rw [A8 c] at k
  refine A0 (U1 H1 λh2 o2=>?_)
  have H2:=A1.old H1 o2
  refine ss H2 ?_
  refine A0 (M5 H2 (F4 P _ _) O.st λh3 H3 u3=>?_)
  refine ss H3 ?_
  exact A1.stR (i:=6) H3 rfl u3 λh4 H4=>A1.stP H4 λh5 H5=>k h5 (A1.drp (A1.none H5))
 rw [A7 c] at k
 apply A6<;>intro c
 ·rw [A8 c] at k
  have hr:=hr c
  have hr0:=(B.g 5).1
  obtain ⟨pb,sb,wb,W⟩:=A1.rows H1 L
  have wf:=W.f
  refine sd2 (A1.al H1) wf ?_
  refine ⟨by omega,by omega,?_⟩
  have wg:=W.g (i:=(x.f.g 5).toNat) (by omega)
  refine sd2 (A1.al H1) wg ?_
  refine A0 (U1 H1 λh2 o2=>?_)
  have H2:=A1.old H1 o2
  have W2:=W.old o2
  have wf2:=W2.f
  have wg2:=W2.g (i:=(x.f.g 5).toNat) (by omega)
  refine sd3 (A1.al H2) wf2 wg2 ?_
  refine A0 (U6 (B.g 6) ?_)
  refine ss H2 ?_
  refine A0 (U7 H2 (F4 P _ _) Bi O.st λh3 H3=>?_)
  refine ss H3 ?_
  refine A1.stR (i:=5) H3 rfl (S9 _) λh4 H4=>?_
  refine A1.stP H4 λh5 H5=>?_
  refine sd2 (A1.al H5) B.len ?_
  apply A6<;>intro c2
  ·rw [A8 c2] at k
   exact A1.stP H5 λh6 H6=>k h6 (A1.drp (A1.none H6))
  ·rw [A7 c2] at k
   exact k h5 (A1.drp (A1.none H5))
 rw [A7 c] at k
 apply A6<;>intro c
 ·rw [A8 c] at k
  refine A1.stR (i:=5) H1 rfl (U.lit rfl) λh2 H2=>?_
  refine A1.stP H2 λh3 H3=>?_
  have L3:RL ((x.s 5 1).pc 8):=L.at ⟨rfl,rfl,rfl⟩
  obtain ⟨pb,sb,wb,W⟩:=A1.rows H3 L3
  have wf:=W.f
  have l0:=L3.e0
  have wg:=W.g (i:=0) (by omega)
  refine sd3 (A1.al H3) wf wg ?_
  refine ⟨by omega,?_⟩
  refine ⟨by omega,?_⟩
  refine A0 (U1 H3 λh4 o4=>?_)
  have H4:=A1.old H3 o4
  have W4:=W.old o4
  have wf4:=W4.f
  have wg4:=W4.g (i:=0) (by omega)
  refine sd3 (A1.al H4) wf4 wg4 ?_
  refine A0 (DW H4 (F4 P _ _) (A1.woU H4 0) O.st λh5 H5=>?_)
  refine ss H5 ?_
  apply D1<;>intro c2
  ·rw [A8 c2] at k
   exact A1.stP H5 λh6 H6=>k h6 (A1.drp (A1.none H6))
  ·rw [A7 (by rw [c2];simp)] at k
   exact k h5 (A1.drp (A1.none H5))
 rw [A7 c] at k
 exact k h1 (A1.drp (A1.none H1))
theorem Sg (H:A9 h (A1 M T tv (some (b,o)) x R)) (O:Ok x) (L:RL x) (hr:x.f.pc=12->x.f.g 3<=x.t.pred.length) (hr2:13<=x.f.pc->x.f.g 5 < x.t.pred.length) (k:∀h',A9 h' (A1 M T tv none (AG x) R)->K tQ h') :
  A4 prog 170 #[rV M T b o] h K:=by
 refine call170 ?_
 unfold F170 g170 cf ce bd lS lP lI nP I8
 have B:=A1.fB H
 have P:=A1.pl H
 have hd:=O.fr
 have hr0:=(B.g 5).1
 unfold AG at k
 dsimp only at k
 have H1:=A1.new H (oQ #[mP M,mP T,fP b o] 199);generalize h.push (oQ #[mP M,mP T,fP b o] 199)=h1 at *;generalize h.size=N at *
 refine ss H1 ?_
 apply A6<;>intro c
 ·rw [A8 c] at k
  have hr:=hr c
  apply A6<;>intro c2
  ·rw [A8 c2] at k
   exact A1.stP H1 λh2 H2=>k h2 (A1.drp (A1.none H2))
  rw [A7 c2] at k
  have hi:x.f.g 5 < x.t.pred.length:=by omega
  refine A0 (U1 H1 λh2 o2=>?_)
  have H2:=A1.old H1 o2
  refine ss H2 ?_
  refine A0 (M5 H2 (F4 P _ _) O.st λh3 H3 u3=>?_)
  refine ss H3 ?_
  refine A1.stR (i:=6) H3 rfl u3 λh4 H4=>?_
  refine sd2 (A1.al H4) B.len ?_
  refine A0 (LK u3 ?_)
  refine ss H4 ?_
  apply D1<;>intro c3
  ·rw [A8 c3] at k
   exact A1.stP H4 λh5 H5=>k h5 (A1.drp (A1.none H5))
  rw [A7 (by rw [c3];simp)] at k
  have L4:RL ((x.load (x.nlink (x.f.g 2) (x.f.g 5))).2.s 6 (x.load (x.nlink (x.f.g 2) (x.f.g 5))).1):=L.at ⟨rfl,rfl,rfl⟩
  obtain ⟨pb,sb,wb,W⟩:=A1.rows H4 L4
  have wf:=W.f
  refine sd3 (A1.al H4) B.len wf ?_
  refine ⟨by omega,hi,?_⟩
  have wg:=W.g (i:=(x.f.g 5).toNat) (by show _ < x.t.pred.length;omega)
  refine sd3 (A1.al H4) wf wg ?_
  refine A0 (Jp u3 ?_)
  refine sd3 (A1.al H4) wf wg ?_
  apply D1<;>intro c3
  ·have c3':J5 (x.load (x.nlink (x.f.g 2) (x.f.g 5))).1≠x.t.succ.getD (x.f.g 5).toNat 0:=bne_iff_ne.1 c3
   rw [A8 c3'] at k
   exact A1.stP H4 λh5 H5=>k h5 (A1.drp (A1.none H5))
  ·have c3':¬ J5 (x.load (x.nlink (x.f.g 2) (x.f.g 5))).1≠x.t.succ.getD (x.f.g 5).toNat 0:=λhh=>hh (bne_eq_false_iff_eq.1 c3)
   rw [A7 c3'] at k
   exact A1.stP H4 λh5 H5=>k h5 (A1.drp (A1.none H5))
 rw [A7 c] at k
 obtain ⟨pb,sb,wb,W⟩:=A1.rows H1 L
 have wf:=W.f
 apply A6<;>intro c
 ·rw [A8 c] at k
  have hr:=hr2 (by omega)
  refine sd2 (A1.al H1) wf ?_
  refine ⟨by omega,by omega,?_⟩
  have wg:=W.g (i:=(x.f.g 5).toNat) (by omega)
  refine sd2 (A1.al H1) wg ?_
  refine A0 (U1 H1 λh2 o2=>?_)
  have H2:=A1.old H1 o2
  have W2:=W.old o2
  have wf2:=W2.f
  have wg2:=W2.g (i:=(x.f.g 5).toNat) (by omega)
  refine sd3 (A1.al H2) wf2 wg2 ?_
  refine A0 (DW H2 (F4 P _ _) (B.g 6) O.st λh3 H3=>?_)
  refine ss H3 ?_
  exact A1.stP H3 λh5 H5=>k h5 (A1.drp (A1.none H5))
 rw [A7 c] at k
 apply A6<;>intro c
 ·rw [A8 c] at k
  have hr:=hr2 (by omega)
  refine sd2 (A1.al H1) wf ?_
  refine ⟨by omega,by omega,?_⟩
  have wg:=W.g (i:=(x.f.g 5).toNat) (by omega)
  refine sd3 (A1.al H1) wf wg ?_
  refine ⟨by omega,by omega,?_⟩
  refine A0 (U1 H1 λh2 o2=>?_)
  have H2:=A1.old H1 o2
  have W2:=W.old o2
  have wf2:=W2.f
  have wg2:=W2.g (i:=(x.f.g 5).toNat) (by omega)
  refine sd3 (A1.al H2) wf2 wg2 ?_
  refine A0 (DW H2 (F4 P _ _) (A1.woU H2 _) O.st λh3 H3=>?_)
  refine ss H3 ?_
  apply D1<;>intro c3
  ·rw [A8 c3] at k
   refine A1.stR (i:=5) H3 rfl (S9 _) λh4 H4=>?_
   exact A1.stP H4 λh5 H5=>k h5 (A1.drp (A1.none H5))
  ·rw [A7 (by rw [c3];simp)] at k
   exact A0 (Gw H3 [x.f.g 4] rfl (X6 (B.g 4)) rfl (show x.t.fr.length < _ by omega) λh4 b' o' _ _ H4=>k h4 (A1.drp (A1.none H4)))
 rw [A7 c] at k
 exact k h1 (A1.drp (A1.none H1))
theorem Sh (H:A9 h (A1 M T tv (some (b,o)) x R)) (O:Ok x) (k:∀h',A9 h' (A1 M T tv none (AH x) R)->K tQ h') :
  A4 prog 171 #[rV M T b o] h K:=by
 refine call171 ?_
 unfold F171 g171 cf bd lP lI nP I8
 have B:=A1.fB H
 have P:=A1.pl H
 have hd:=O.fr
 unfold AH at k
 dsimp only at k
 have H1:=A1.new H (oQ #[mP M,mP T,fP b o] 199);generalize h.push (oQ #[mP M,mP T,fP b o] 199)=h1 at *;generalize h.size=N at *
 refine ss H1 ?_
 apply A6<;>intro c
 ·rw [A8 c] at k
  refine A0 (LJ H1 O.st λh2 H2=>?_)
  refine ss H2 ?_
  apply D1<;>intro c3
  ·rw [A8 c3] at k
   have ef:(x.drop1 (x.f.g 2)).2.f=x.f:=rfl
   refine sd2 (A1.al H2) ef ?_
   exact A0 (Gw H2 [x.f.g 4] rfl (X6 (B.g 4)) rfl (show x.t.fr.length < _ by omega) λh4 b' o' _ _ H4=>k h4 (A1.drp (A1.none H4)))
  ·rw [A7 (by rw [c3];simp)] at k
   exact A1.stP H2 λh5 H5=>k h5 (A1.drp (A1.none H5))
 rw [A7 c] at k
 apply A6<;>intro c
 ·rw [A8 c] at k
  exact A0 (Gw H1 [x.f.g 2] rfl (X6 (B.g 2)) rfl (by omega) λh4 b' o' _ _ H4=>k h4 (A1.drp (A1.none H4)))
 ·rw [A7 c] at k
  exact A0 (Gx H1 U0 U0 U0 (by omega) λh5 b' o' H5=>k h5 (A1.drp (A1.none H5)))
structure Te3 (x:B9):Prop where
 L:RL x
 a:x.f.pc=10->x.f.g 5 < x.t.pred.length
 b:x.f.pc=12->x.f.g 3<=x.t.pred.length
 c:13<=x.f.pc->x.f.pc<=14->x.f.g 5 < x.t.pred.length
theorem Vk (H:A9 h (A1 M T tv (some (b,o)) x R)) (O:Ok x) (S:Te3 x) (k:∀h',A9 h' (A1 M T tv none (Cn x) R)->K tQ h') :
  A4 prog 113 #[rV M T b o] h K:=by
 refine call113 ?_
 unfold F113 g113 cf lP lI nP M0
 unfold Cn at k
 have H1:=A1.new H (oQ #[mP M,mP T,fP b o] 199);generalize h.push (oQ #[mP M,mP T,fP b o] 199)=h1 at *;generalize h.size=N at *
 refine ss H1 ?_
 apply A6<;>intro c
 ·rw [A8 c] at k
  exact A0 (Vj H1 O λh2 H2=>k h2 (A1.drp H2))
 rw [A7 c] at k
 apply A6<;>intro c
 ·rw [A8 c] at k
  exact A0 (YX H1 O λh2 H2=>k h2 (A1.drp H2))
 rw [A7 c] at k
 apply A6<;>intro c
 ·rw [A8 c] at k
  exact A0 (Sf H1 O S.L S.a λh2 H2=>k h2 (A1.drp H2))
 rw [A7 c] at k
 apply A6<;>intro c
 ·rw [A8 c] at k
  exact A0 (Sg H1 O S.L S.b (λhh=>S.c hh c) λh2 H2=>k h2 (A1.drp H2))
 rw [A7 c] at k
 exact A0 (Sh H1 O λh2 H2=>k h2 (A1.drp H2))
end
end
end Go.Proofs.YtahpbclnkofhfaaGreat
