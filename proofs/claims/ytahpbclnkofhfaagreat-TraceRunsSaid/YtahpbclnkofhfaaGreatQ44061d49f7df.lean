/- Part 10 of what the proofs of this seat rest on: see the last text of the claim. -/
import Derived.Test.YtahpbclnkofhfaaGreatQ915eaebd692e
import Derived.Test.YtahpbclnkofhfaaGreatProg
set_option linter.unusedSimpArgs false
set_option linter.unusedVariables false
set_option linter.ambiguousOpen false
set_option maxRecDepth 20000
namespace Go.Proofs.YtahpbclnkofhfaaGreat
section
set_option maxRecDepth 100000
variable {K:kQ} {h:A2}
def F65 (K:kQ) (h:A2) (xa xb:Option Addr):Prop:=
 (cf 105 #[pQ xb] h λa b=>C2 a λa=>O0 λI3=>(D0 (Option.isNone a) (I3 [dQ true] b) (I3 [dQ (Option.isNone xa)] b))/\(∀(b:Value) (c:F8) (c:A2),(I3 [b] c)->(asBool b λb=>D0 b (K tQ c) (C4 (c.push (oQ #[pQ none,pQ none,pQ none] 202)) (aQ c.size) (pQ xa) λb=>C4 b ⟨c.size,1,none⟩ (pQ xb) λb=>C4 b ⟨c.size,2,none⟩ (pQ a) λb=>O0 λI11=>(nP a λd=>lI .i64 b d λd=>D0 (decide (d < 31)) (I11 [dQ true,dQ true] b) (nP a λd=>lI .i64 b d λd=>I11 [dQ (decide (d > 36)),dQ (decide (d > 36))] b))/\(∀(b d:Value) (e:F8) (e:A2),(I11 [b,d] e)->(asBool b λb=>D0 b (cf 115 #[pQ xa,pQ xb] e λb b=>K tQ b) (nP a λb=>lI .i64 e (b.add 1) λb=>D0 (b == 90) (nP a λb=>bd 7 10 (lI .u64 e (b.add 9) λb=>nP a λd=>bd 8 10 (lI .u64 e (d.add 10) λd=>nP a λf=>bd 9 10 (lI .u64 e (f.add 11) λf=>cf 106 #[pQ xb,lQ (some (aQ e.size)) 3 3] (e.push (oQ #[uQ b,uQ d,uQ f] 178)) λb b=>K tQ b)))) (nP a λb=>lI .i64 e b λb=>D0 (b == 31) (L1 e c.size λb d f=>cf 116 #[.agg #[b,d,f]] e λb b=>K tQ b) (nP a λb=>lI .i64 e b λb=>D0 (b == 34) (L1 e c.size λb d f=>cf 117 #[.agg #[b,d,f]] e λb b=>K tQ b) (nP a λb=>lI .i64 e b λb=>D0 (b == 35) (L1 e c.size λb d f=>cf 118 #[.agg #[b,d,f]] e λb b=>K tQ b) (nP a λa=>lI .i64 e a λa=>D0 (a == 36) (L1 e c.size λa b d=>cf 119 #[.agg #[a,b,d]] e λa a=>K tQ a) (L1 e c.size λa b c=>cf 120 #[.agg #[a,b,c]] e λa a=>K tQ a))))))))))))
theorem call65 {xa xb:Option Addr} (H:F65 K h xa xb):A5 Tryz.prog 65 #[(pQ xa),(pQ xb)] h K:=
 cQ Tryz.func65 H
def F115 (K:kQ) (h:A2) (xa xb:Option Addr):Prop:=
 (cf 105 #[pQ xb] h λa b=>C2 a λa=>O0 λI3=>(D0 (Option.isNone a) (I3 [dQ true,dQ true] b) (I3 [dQ (Option.isNone xa),dQ (Option.isNone xa)] b))/\(∀(b c:Value) (d:F8) (d:A2),(I3 [b,c] d)->(asBool b λb=>D0 b (K tQ d) (nP a λb=>lI .i64 d b λb=>D0 (b == 30) (cf 176 #[.agg #[pQ xa,pQ xb,pQ a]] d λa a=>K tQ a) (cf 111 #[pQ xa,pQ xb] d λa a=>K tQ a)))))
theorem call115 {xa xb:Option Addr} (H:F115 K h xa xb):A5 Tryz.prog 115 #[(pQ xa),(pQ xb)] h K:=
 cQ Tryz.func115 H
abbrev g116 (K:kQ) (h H1:A2):Prop:=
 (lP H1 (Addr.add (aQ h.size) 2) λa=>nP a λa=>lI .i64 H1 (a.add 1) λa=>D0 (decide (a<=2)) (L1 H1 h.size λa b c=>cf 177 #[.agg #[a,b,c]] H1 λa a=>K tQ a) (lP H1 (Addr.add (aQ h.size) 2) λa=>nP a λa=>lI .i64 H1 (a.add 1) λa=>D0 (decide (a<=6)) (L1 H1 h.size λa b c=>cf 178 #[.agg #[a,b,c]] H1 λa a=>K tQ a) (lP H1 (Addr.add (aQ h.size) 2) λa=>nP a λa=>lI .i64 H1 (a.add 1) λa=>D0 (decide (a<=10)) (L1 H1 h.size λa b c=>cf 179 #[.agg #[a,b,c]] H1 λa a=>K tQ a) (lP H1 (Addr.add (aQ h.size) 2) λa=>nP a λa=>lI .i64 H1 (a.add 1) λa=>D0 (decide (a<=14)) (L1 H1 h.size λa b c=>cf 180 #[.agg #[a,b,c]] H1 λa a=>K tQ a) (L1 H1 h.size λa b c=>cf 181 #[.agg #[a,b,c]] H1 λa a=>K tQ a)))))
def F116 (K:kQ) (h:A2) (xa xb xc:Option Addr):Prop:=
 (g116 K h (h.push (oQ #[pQ xa,pQ xb,pQ xc] 204)))
theorem call116 {xa xb xc:Option Addr} (H:F116 K h xa xb xc):A5 Tryz.prog 116 #[(.agg #[(pQ xa),(pQ xb),(pQ xc)])] h K:=
 cQ Tryz.func116 H
abbrev g117 (K:kQ) (h H1:A2):Prop:=
 (lP H1 (Addr.add (aQ h.size) 2) λa=>nP a λb=>lI .i64 H1 (b.add 1) λb=>D0 (b == 0) (D1 H1 (aQ h.size) λc=>C2 c λd=>G3 H1 (aQ h.size) λe f g=>nP a λi=>cf 182 #[.agg #[e,f,g],uQ 1,uQ 0] H1 λe f=>asInt .i64 e λe=>ce f h.size 0 c (cf 147 #[pQ d,iQ e] f λc d=>asInt .u64 c λc=>bd 0 10 (C4 d (i.add 2) (uQ c) λc=>nP a λd=>bd 0 10 (lI .u64 c (d.add 2) λd=>nP a λe=>bd 0 10 (D1 c (e.add 2) λf=>asInt .u64 f λg=>nP a λi=>nP a λj=>cf 183 #[uQ d] c λc d=>asInt .u64 c λc=>((A3 d (e.add 2))=(some f))/\(cf 183 #[uQ g] d λd e=>asInt .u64 d λd=>bd 1 10 (C4 e (i.add 3) (uQ c) λc=>bd 2 10 (C4 c (j.add 4) (uQ d) λc=>nP a λd=>C4 c (d.add 1) (iQ 1) λc=>nP a λd=>bd 0 10 (lI .u64 c (d.add 2) λd=>cf 184 #[uQ d] c λc d=>asBool c λc=>D0 (!c) (G3 d (aQ h.size) λc e f=>cf 185 #[.agg #[c,e,f],uQ 0] d λc c=>K tQ c) (K tQ d)))))))))) (D0 (b == 1) (D1 H1 (aQ h.size) λc=>C2 c λd=>G3 H1 (aQ h.size) λe f g=>nP a λi=>bd 1 10 (lI .u64 H1 (i.add 3) λi=>cf 182 #[.agg #[e,f,g],uQ i,uQ 0] H1 λe f=>asInt .i64 e λe=>ce f h.size 0 c (cf 147 #[pQ d,iQ e] f λc d=>asInt .u64 c λc=>nP a λe=>cf 183 #[uQ c] d λd f=>asInt .u64 d λd=>bd 2 10 (C4 f (e.add 4) (uQ d) λd=>nP a λe=>C4 d (e.add 1) (iQ 2) λd=>cf 184 #[uQ c] d λd e=>asBool d λd=>D0 d (nP a λd=>cf 183 #[uQ c] e λc f=>asInt .u64 c λc=>bd 1 10 (C4 f (d.add 3) (uQ c) λc=>nP a λd=>C4 c (d.add 1) (iQ 1) λc=>K tQ c)) (K tQ e))))) (D0 (b == 2) (G3 H1 (aQ h.size) λc d e=>nP a λf=>bd 1 10 (lI .u64 H1 (f.add 3) λf=>((A3 (H1.push (oQ #[uQ f] 178)) (aQ h.size))=(some c))/\(((A3 (H1.push (oQ #[uQ f] 178)) (Addr.add (aQ h.size) 1))=(some d))/\(((A3 (H1.push (oQ #[uQ f] 178)) (Addr.add (aQ h.size) 2))=(some e))/\(cf 186 #[.agg #[c,d,e],iQ 3,iQ 36,lQ (some (aQ H1.size)) 1 1] (H1.push (oQ #[uQ f] 178)) λc c=>K tQ c))))) (D0 (b == 3) (G3 H1 (aQ h.size) λc d e=>G3 H1 (aQ h.size) λf g i=>nP a λj=>bd 0 10 (D1 H1 (j.add 2) λk=>asInt .u64 k λl=>nP a λm=>bd 2 10 (D1 H1 (m.add 4) λn=>asInt .u64 n λo=>cf 182 #[.agg #[f,g,i],uQ 1,uQ 0] H1 λf g=>asInt .i64 f λf=>((A3 g (m.add 4))=(some n))/\(((A3 g (j.add 2))=(some k))/\(ce g h.size 0 c (((A3 g (Addr.add (aQ h.size) 1))=(some d))/\(((A3 g (Addr.add (aQ h.size) 2))=(some e))/\(cf 187 #[.agg #[c,d,e],iQ f,uQ l,uQ o,dQ false] g λc d=>asBool c λc=>nP a λc=>C4 d (c.add 1) (iQ 4) λc=>K tQ c)))))))) (D0 (b == 4) (G3 H1 (aQ h.size) λb c d=>nP a λe=>bd 0 10 (lI .u64 H1 (e.add 2) λe=>nP a λa=>bd 2 10 (D1 H1 (a.add 4) λf=>asInt .u64 f λg=>cf 183 #[uQ e] H1 λe i=>asInt .u64 e λe=>((A3 i (a.add 4))=(some f))/\(ce i h.size 0 b (((A3 i (Addr.add (aQ h.size) 1))=(some c))/\(((A3 i (Addr.add (aQ h.size) 2))=(some d))/\(((A3 (i.push (oQ #[uQ e,uQ g] 178)) (aQ h.size))=(some b))/\(((A3 (i.push (oQ #[uQ e,uQ g] 178)) (Addr.add (aQ h.size) 1))=(some c))/\(((A3 (i.push (oQ #[uQ e,uQ g] 178)) (Addr.add (aQ h.size) 2))=(some d))/\(cf 186 #[.agg #[b,c,d],iQ 5,iQ 35,lQ (some (aQ i.size)) 2 2] (i.push (oQ #[uQ e,uQ g] 178)) λa a=>K tQ a)))))))))) (G3 H1 (aQ h.size) λa b c=>cf 185 #[.agg #[a,b,c],uQ 0] H1 λa a=>K tQ a))))))
def F117 (K:kQ) (h:A2) (xa xb xc:Option Addr):Prop:=
 (g117 K h (h.push (oQ #[pQ xa,pQ xb,pQ xc] 205)))
theorem call117 {xa xb xc:Option Addr} (H:F117 K h xa xb xc):A5 Tryz.prog 117 #[(.agg #[(pQ xa),(pQ xb),(pQ xc)])] h K:=
 cQ Tryz.func117 H
abbrev g118 (K:kQ) (h H1:A2):Prop:=
 (lP H1 (Addr.add (aQ h.size) 2) λa=>nP a λb=>lI .i64 H1 (b.add 1) λb=>D0 (b == 0) (lP H1 (aQ h.size) λc=>cf 188 #[pQ c,iQ 1,uQ 1] H1 λc d=>asInt .u64 c λc=>nP a λc=>C4 d (c.add 1) (iQ 1) λc=>K tQ c) (D0 (b == 1) (nP a λb=>bd 0 10 (lI .u64 H1 (b.add 2) λb=>nP a λc=>bd 1 10 (lI .u64 H1 (c.add 3) λc=>D0 (b == c) (lP H1 (Addr.add (aQ h.size) 1) λb=>cf 106 #[pQ b,lQ none 0 0] H1 λb b=>K tQ b) (D1 H1 (aQ h.size) λb=>C2 b λc=>G3 H1 (aQ h.size) λd e f=>nP a λg=>bd 0 10 (lI .u64 H1 (g.add 2) λg=>nP a λi=>cf 182 #[.agg #[d,e,f],uQ g,uQ 0] H1 λd e=>asInt .i64 d λd=>ce e h.size 0 b (cf 147 #[pQ c,iQ d] e λb c=>asInt .u64 b λb=>cf 183 #[uQ b] c λb c=>asInt .u64 b λb=>bd 2 10 (C4 c (i.add 4) (uQ b) λb=>nP a λc=>C4 b (c.add 1) (iQ 2) λb=>K tQ b))))))) (nP a λb=>bd 0 10 (lI .u64 H1 (b.add 2) λb=>nP a λc=>bd 2 10 (lI .u64 H1 (c.add 4) λc=>nP a λa=>bd 0 10 (C4 H1 (a.add 2) (uQ c) λa=>G3 a (aQ h.size) λc d e=>cf 186 #[.agg #[c,d,e],iQ 1,iQ 5,lQ (some (aQ a.size)) 1 1] (a.push (oQ #[uQ b] 178)) λa a=>K tQ a))))))
def F118 (K:kQ) (h:A2) (xa xb xc:Option Addr):Prop:=
 (g118 K h (h.push (oQ #[pQ xa,pQ xb,pQ xc] 206)))
theorem call118 {xa xb xc:Option Addr} (H:F118 K h xa xb xc):A5 Tryz.prog 118 #[(.agg #[(pQ xa),(pQ xb),(pQ xc)])] h K:=
 cQ Tryz.func118 H
abbrev g119 (K:kQ) (h H1:A2):Prop:=
 (lP H1 (Addr.add (aQ h.size) 2) λa=>nP a λb=>lI .i64 H1 (b.add 1) λb=>D0 (b == 0) (lP H1 (aQ h.size) λc=>nP a λd=>cf 147 #[pQ c,iQ 1] H1 λc e=>asInt .u64 c λc=>bd 1 10 (C4 e (d.add 3) (uQ c) λc=>lP c (aQ h.size) λd=>nP a λe=>cf 79 #[pQ d] c λc d=>asAgg c λc=>G0 c 15 (N0 c λc f g i j k l m n o p q r s t=>cf 139 #[.agg #[c,f,g,i,j,k,l,m,n,o,p,q,r,s,t]] d λc d=>asAgg c λc=>G0 c 7 (Nh c λc c c c f f f=>asInt .i64 c λc=>bd 2 10 (C4 d (e.add 4) (uQ (IntKind.wrap .u64 (IntKind.wrap .i64 (c - 1)))) λc=>nP a λd=>C4 c (d.add 1) (iQ 1) λc=>K tQ c))))) (D0 (b == 1) (nP a λc=>bd 2 10 (lI .u64 H1 (c.add 4) λc=>D0 (c == 0) (lP H1 (Addr.add (aQ h.size) 1) λc=>cf 106 #[pQ c,lQ none 0 0] H1 λc c=>K tQ c) (D1 H1 (aQ h.size) λc=>C2 c λd=>G3 H1 (aQ h.size) λe f g=>nP a λi=>bd 2 10 (lI .u64 H1 (i.add 4) λi=>nP a λj=>cf 182 #[.agg #[e,f,g],uQ 1,uQ i] H1 λe f=>asInt .i64 e λe=>ce f h.size 0 c (cf 147 #[pQ d,iQ e] f λc d=>asInt .u64 c λc=>bd 3 10 (C4 d (j.add 5) (uQ c) λc=>nP a λd=>bd 3 10 (lI .u64 c (d.add 5) λd=>nP a λe=>cf 183 #[uQ d] c λc d=>asInt .u64 c λc=>bd 4 10 (C4 d (e.add 6) (uQ c) λc=>nP a λd=>C4 c (d.add 1) (iQ 2) λc=>nP a λd=>bd 4 10 (lI .u64 c (d.add 6) λd=>D0 (d == 2) (L1 c h.size λd e f=>cf 189 #[.agg #[d,e,f]] c λd d=>K tQ d) (K tQ c)))))))))) (D0 (b == 2) (G3 H1 (aQ h.size) λc d e=>nP a λf=>bd 5 10 (lI .u64 H1 (f.add 7) λf=>nP a λg=>bd 4 10 (lI .u64 H1 (g.add 6) λg=>cf 190 #[.agg #[c,d,e],uQ f,uQ g] H1 λc c=>nP a λd=>bd 5 10 (lI .u64 c (d.add 7) λd=>nP a λe=>bd 5 10 (C4 c (e.add 7) (uQ (IntKind.wrap .u64 (d+1))) λc=>nP a λd=>C4 c (d.add 1) (iQ 3) λc=>K tQ c))))) (D0 (b == 3) (nP a λb=>C4 H1 (b.add 1) (iQ 4) λb=>lP b (aQ h.size) λc=>nP a λd=>bd 1 10 (D1 b (d.add 3) λe=>asInt .u64 e λf=>cf 147 #[pQ c,iQ 1] b λb c=>asInt .u64 b λb=>((A3 c (d.add 3))=(some e))/\(D0 (b != f) (nP a λa=>C4 c (a.add 1) (iQ 0) λa=>K tQ a) (K tQ c)))) (L1 H1 h.size λa b c=>cf 191 #[.agg #[a,b,c]] H1 λa a=>K tQ a)))))
def F119 (K:kQ) (h:A2) (xa xb xc:Option Addr):Prop:=
 (g119 K h (h.push (oQ #[pQ xa,pQ xb,pQ xc] 207)))
theorem call119 {xa xb xc:Option Addr} (H:F119 K h xa xb xc):A5 Tryz.prog 119 #[(.agg #[(pQ xa),(pQ xb),(pQ xc)])] h K:=
 cQ Tryz.func119 H
abbrev g120 (K:kQ) (h H1:A2):Prop:=
 (lP H1 (Addr.add (aQ h.size) 2) λa=>nP a λa=>lI .i64 H1 (a.add 1) λa=>D0 (decide (a<=4)) (L1 H1 h.size λa b c=>cf 192 #[.agg #[a,b,c]] H1 λa a=>K tQ a) (lP H1 (Addr.add (aQ h.size) 2) λa=>nP a λa=>lI .i64 H1 (a.add 1) λa=>D0 (decide (a<=8)) (L1 H1 h.size λa b c=>cf 193 #[.agg #[a,b,c]] H1 λa a=>K tQ a) (lP H1 (Addr.add (aQ h.size) 2) λa=>nP a λa=>lI .i64 H1 (a.add 1) λa=>D0 (decide (a<=10)) (L1 H1 h.size λa b c=>cf 194 #[.agg #[a,b,c]] H1 λa a=>K tQ a) (L1 H1 h.size λa b c=>cf 195 #[.agg #[a,b,c]] H1 λa a=>K tQ a))))
def F120 (K:kQ) (h:A2) (xa xb xc:Option Addr):Prop:=
 (g120 K h (h.push (oQ #[pQ xa,pQ xb,pQ xc] 208)))
theorem call120 {xa xb xc:Option Addr} (H:F120 K h xa xb xc):A5 Tryz.prog 120 #[(.agg #[(pQ xa),(pQ xb),(pQ xc)])] h K:=
 cQ Tryz.func120 H
abbrev g176 (K:kQ) (h H1:A2):Prop:=
 (lP H1 (Addr.add (aQ h.size) 2) λa=>nP a λb=>lI .i64 H1 (b.add 1) λb=>D0 (b == 0) (L1 H1 h.size λc d e=>cf 262 #[.agg #[c,d,e]] H1 λc c=>K tQ c) (D0 (b == 1) (D1 H1 (aQ h.size) λc=>C2 c λd=>G3 H1 (aQ h.size) λe f g=>G3 H1 (aQ h.size) λi j k=>nP a λl=>bd 3 10 (D1 H1 (l.add 5) λm=>asInt .u64 m λn=>cf 264 #[.agg #[i,j,k]] H1 λi j=>asInt .i64 i λi=>((A3 j (l.add 5))=(some m))/\(ce j h.size 0 e (((A3 j (Addr.add (aQ h.size) 1))=(some f))/\(((A3 j (Addr.add (aQ h.size) 2))=(some g))/\(ce j h.size 0 c (cf 263 #[.agg #[e,f,g],iQ (IntKind.wrap .i64 (2*i))] j λe f=>asInt .i64 e λe=>((A3 f (l.add 5))=(some m))/\(ce f h.size 0 c (cf 212 #[pQ d,iQ e,uQ n] f λc c=>nP a λd=>C4 c (d.add 1) (iQ 2) λc=>K tQ c))))))))) (D0 (b == 2) (D1 H1 (aQ h.size) λc=>C2 c λd=>G3 H1 (aQ h.size) λe f g=>nP a λi=>bd 3 10 (D1 H1 (i.add 5) λj=>asInt .u64 j λk=>G3 H1 (aQ h.size) λl m n=>nP a λo=>cf 264 #[.agg #[l,m,n]] H1 λl m=>asInt .i64 l λl=>((A3 m (i.add 5))=(some j))/\(ce m h.size 0 e (((A3 m (Addr.add (aQ h.size) 1))=(some f))/\(((A3 m (Addr.add (aQ h.size) 2))=(some g))/\(ce m h.size 0 c (cf 265 #[.agg #[e,f,g],uQ k,iQ (IntKind.wrap .i64 (5+l))] m λe f=>asInt .i64 e λe=>ce f h.size 0 c (cf 147 #[pQ d,iQ e] f λc d=>asInt .u64 c λc=>bd 4 10 (C4 d (o.add 6) (uQ c) λc=>nP a λd=>C4 c (d.add 1) (iQ 3) λc=>G3 c (aQ h.size) λd e f=>cf 266 #[.agg #[d,e,f]] c λc d=>asInt .u64 c λc=>D0 (c == 2) (L1 d h.size λc e f=>cf 267 #[.agg #[c,e,f]] d λc c=>K tQ c) (K tQ d)))))))))) (D0 (b == 3) (D1 H1 (aQ h.size) λc=>C2 c λd=>G3 H1 (aQ h.size) λe f g=>G3 H1 (aQ h.size) λi j k=>G3 H1 (aQ h.size) λl m n=>cf 264 #[.agg #[i,j,k]] H1 λi j=>asInt .i64 i λi=>ce j h.size 0 l (((A3 j (Addr.add (aQ h.size) 1))=(some m))/\(((A3 j (Addr.add (aQ h.size) 2))=(some n))/\(ce j h.size 0 e (((A3 j (Addr.add (aQ h.size) 1))=(some f))/\(((A3 j (Addr.add (aQ h.size) 2))=(some g))/\(ce j h.size 0 c (cf 263 #[.agg #[e,f,g],iQ (IntKind.wrap .i64 ((IntKind.wrap .i64 (2*i))+1))] j λe f=>asInt .i64 e λe=>ce f h.size 0 l (((A3 f (Addr.add (aQ h.size) 1))=(some m))/\(((A3 f (Addr.add (aQ h.size) 2))=(some n))/\(ce f h.size 0 c (cf 266 #[.agg #[l,m,n]] f λf g=>asInt .u64 f λf=>ce g h.size 0 c (cf 212 #[pQ d,iQ e,uQ f] g λc c=>nP a λd=>C4 c (d.add 1) (iQ 4) λc=>K tQ c))))))))))))) (D0 (b == 4) (L1 H1 h.size λc d e=>cf 268 #[.agg #[c,d,e]] H1 λc c=>K tQ c) (D0 (b == 5) (nP a λb=>C4 H1 (b.add 1) (iQ 6) λb=>D1 b (aQ h.size) λc=>C2 c λd=>G3 b (aQ h.size) λe f g=>G3 b (aQ h.size) λi j k=>cf 266 #[.agg #[i,j,k]] b λb i=>asInt .u64 b λb=>ce i h.size 0 e (((A3 i (Addr.add (aQ h.size) 1))=(some f))/\(((A3 i (Addr.add (aQ h.size) 2))=(some g))/\(ce i h.size 0 c (cf 265 #[.agg #[e,f,g],uQ b,iQ 5] i λb e=>asInt .i64 b λb=>ce e h.size 0 c (cf 147 #[pQ d,iQ b] e λb c=>asInt .u64 b λb=>cf 226 #[uQ b] c λb c=>asBool b λb=>D0 b (L1 c h.size λb d e=>cf 269 #[.agg #[b,d,e]] c λb b=>K tQ b) (K tQ c))))))) (D1 H1 (aQ h.size) λb=>C2 b λc=>G3 H1 (aQ h.size) λd e f=>G3 H1 (aQ h.size) λg i j=>nP a λa=>bd 0 10 (D1 H1 (a.add 2) λk=>asInt .u64 k λl=>cf 266 #[.agg #[g,i,j]] H1 λg i=>asInt .u64 g λg=>((A3 i (a.add 2))=(some k))/\(ce i h.size 0 d (((A3 i (Addr.add (aQ h.size) 1))=(some e))/\(((A3 i (Addr.add (aQ h.size) 2))=(some f))/\(ce i h.size 0 b (cf 265 #[.agg #[d,e,f],uQ g,iQ 0] i λd e=>asInt .i64 d λd=>((A3 e (a.add 2))=(some k))/\(ce e h.size 0 b (cf 147 #[pQ c,iQ d] e λb c=>asInt .u64 b λb=>((A3 c (a.add 2))=(some k))/\(D0 (decide (b < l)) (L1 c h.size λa b d=>cf 269 #[.agg #[a,b,d]] c λa a=>K tQ a) (L1 c h.size λa b d=>cf 267 #[.agg #[a,b,d]] c λa a=>K tQ a)))))))))))))))))
def F176 (K:kQ) (h:A2) (xa xb xc:Option Addr):Prop:=
 (g176 K h (h.push (oQ #[pQ xa,pQ xb,pQ xc] 254)))
theorem call176 {xa xb xc:Option Addr} (H:F176 K h xa xb xc):A5 Tryz.prog 176 #[(.agg #[(pQ xa),(pQ xb),(pQ xc)])] h K:=
 cQ Tryz.func176 H
abbrev g177 (K:kQ) (h H1:A2):Prop:=
 (lP H1 (Addr.add (aQ h.size) 2) λa=>nP a λb=>lI .i64 H1 (b.add 1) λb=>D0 (b == 0) (G3 H1 (aQ h.size) λc d e=>cf 186 #[.agg #[c,d,e],iQ 1,iQ 1,lQ none 0 0] H1 λc c=>K tQ c) (D0 (b == 1) (lP H1 (Addr.add (aQ h.size) 1) λc=>nP c λc=>bd 0 3 (lI .u64 H1 (c.add 2) λc=>nP a λd=>bd 2 10 (C4 H1 (d.add 4) (uQ c) λc=>nP a λd=>bd 2 10 (lI .u64 c (d.add 4) λd=>D0 (d != 0) (nP a λd=>C4 c (d.add 1) (iQ 2) λd=>K tQ d) (O0 λI22=>(nP a λd=>bd 5 10 (lI .u64 c (d.add 7) λd=>D0 (d == 0) (lP c (Addr.add (aQ h.size) 1) λd=>nP d λd=>cf 211 #[pQ (some (d.add 8))] c λd e=>asInt .i64 d λd=>I22 [dQ (decide (d > 0)),dQ (decide (d > 0))] e) (I22 [dQ false,dQ false] c)))/\(∀(c d:Value) (e:F8) (e:A2),(I22 [c,d] e)->(asBool c λc=>D0 c (nP a λc=>bd 5 10 (C4 e (c.add 7) (uQ 1) λc=>G3 c (aQ h.size) λd f g=>cf 186 #[.agg #[d,f,g],iQ 0,iQ 6,lQ none 0 0] c λc c=>K tQ c)) (G3 e (aQ h.size) λc d f=>cf 185 #[.agg #[c,d,f],uQ 1] e λc c=>K tQ c)))))))) (D0 (b == 2) (nP a λb=>bd 0 10 (D1 H1 (b.add 2) λc=>asInt .u64 c λd=>lP H1 (aQ h.size) λe=>nP a λf=>cf 188 #[pQ e,iQ 3,uQ 1] H1 λe g=>asInt .u64 e λe=>((A3 g (b.add 2))=(some c))/\(cf 249 #[.int .u32 (IntKind.wrap .u32 d),.int .u32 (IntKind.wrap .u32 e)] g λb c=>asInt .u64 b λb=>bd 4 10 (C4 c (f.add 6) (uQ b) λb=>lP b (aQ h.size) λc=>D1 b (aQ h.size) λd=>C2 d λe=>nP a λf=>cf 214 #[pQ c] b λb c=>C2 b λb=>ce c h.size 0 d (cf 79 #[pQ e] c λc d=>asAgg c λc=>G0 c 15 (N0 c λc e g i j k l m n o p q r s t=>cf 139 #[.agg #[c,e,g,i,j,k,l,m,n,o,p,q,r,s,t]] d λc d=>asAgg c λc=>G0 c 7 (Nh c λc c c c e e e=>asInt .i64 c λc=>cf 250 #[pQ b,iQ c] d λb c=>asInt .i64 b λb=>bd 3 10 (C4 c (f.add 5) (uQ (IntKind.wrap .u64 b)) λb=>nP a λa=>C4 b (a.add 1) (iQ 3) λa=>K tQ a)))))))) (K tQ H1))))
def F177 (K:kQ) (h:A2) (xa xb xc:Option Addr):Prop:=
 (g177 K h (h.push (oQ #[pQ xa,pQ xb,pQ xc] 204)))
theorem call177 {xa xb xc:Option Addr} (H:F177 K h xa xb xc):A5 Tryz.prog 177 #[(.agg #[(pQ xa),(pQ xb),(pQ xc)])] h K:=
 cQ Tryz.func177 H
abbrev g178 (K:kQ) (h H1:A2):Prop:=
 (lP H1 (Addr.add (aQ h.size) 2) λa=>nP a λb=>bd 2 10 (lI .u64 H1 (b.add 4) λb=>O0 λI5=>(nP a λc=>lI .i64 H1 (c.add 1) λc=>D0 (c == 3) (D1 H1 (aQ h.size) λd=>C2 d λe=>G3 H1 (aQ h.size) λf g i=>nP a λj=>bd 4 10 (D1 H1 (j.add 6) λk=>asInt .u64 k λl=>cf 270 #[.agg #[f,g,i],uQ b,iQ 0] H1 λf g=>asInt .i64 f λf=>((A3 g (j.add 6))=(some k))/\(ce g h.size 0 d (cf 212 #[pQ e,iQ f,uQ l] g λd d=>I5 [dQ true,tQ,tQ,tQ] d)))) (D0 (c == 4) (D1 H1 (aQ h.size) λd=>C2 d λe=>G3 H1 (aQ h.size) λf g i=>nP a λj=>bd 1 10 (D1 H1 (j.add 3) λk=>asInt .u64 k λl=>cf 270 #[.agg #[f,g,i],uQ b,iQ 1] H1 λf g=>asInt .i64 f λf=>((A3 g (j.add 3))=(some k))/\(ce g h.size 0 d (cf 212 #[pQ e,iQ f,uQ l] g λd d=>I5 [dQ false,dQ true,tQ,tQ] d)))) (D0 (c == 5) (D1 H1 (aQ h.size) λd=>C2 d λe=>G3 H1 (aQ h.size) λf g i=>cf 270 #[.agg #[f,g,i],uQ b,iQ 2] H1 λf g=>asInt .i64 f λf=>ce g h.size 0 d (cf 212 #[pQ e,iQ f,uQ 1] g λd d=>I5 [dQ false,dQ false,dQ true,tQ] d)) (D0 (c == 6) (D1 H1 (aQ h.size) λc=>C2 c λd=>G3 H1 (aQ h.size) λe f g=>nP a λi=>bd 3 10 (D1 H1 (i.add 5) λj=>asInt .u64 j λk=>cf 270 #[.agg #[e,f,g],uQ b,iQ 3] H1 λb e=>asInt .i64 b λb=>((A3 e (i.add 5))=(some j))/\(ce e h.size 0 c (cf 212 #[pQ d,iQ b,uQ k] e λb b=>I5 [dQ false,dQ false,dQ false,dQ true] b)))) (I5 [dQ false,dQ false,dQ false,dQ false] H1)))))/\(∀(b c d e:Value) (f:F8) (f:A2),(I5 [b,c,d,e] f)->(nP a λb=>lI .i64 f (b.add 1) λb=>nP a λa=>C4 f (a.add 1) (iQ (IntKind.wrap .i64 (b+1))) λa=>K tQ a))))
def F178 (K:kQ) (h:A2) (xa xb xc:Option Addr):Prop:=
 (g178 K h (h.push (oQ #[pQ xa,pQ xb,pQ xc] 204)))
theorem call178 {xa xb xc:Option Addr} (H:F178 K h xa xb xc):A5 Tryz.prog 178 #[(.agg #[(pQ xa),(pQ xb),(pQ xc)])] h K:=
 cQ Tryz.func178 H
abbrev g179 (K:kQ) (h H1:A2):Prop:=
 (lP H1 (Addr.add (aQ h.size) 2) λa=>nP a λb=>bd 2 10 (lI .u64 H1 (b.add 4) λb=>nP a λc=>lI .i64 H1 (c.add 1) λc=>D0 (c == 7) (G3 H1 (aQ h.size) λd e f=>nP a λg=>bd 4 10 (lI .u64 H1 (g.add 6) λg=>((A3 (H1.push (oQ #[uQ g] 178)) (aQ h.size))=(some d))/\(((A3 (H1.push (oQ #[uQ g] 178)) (Addr.add (aQ h.size) 1))=(some e))/\(((A3 (H1.push (oQ #[uQ g] 178)) (Addr.add (aQ h.size) 2))=(some f))/\(cf 186 #[.agg #[d,e,f],iQ 8,iQ 30,lQ (some (aQ H1.size)) 1 1] (H1.push (oQ #[uQ g] 178)) λd d=>K tQ d))))) (D0 (c == 8) (lP H1 (Addr.add (aQ h.size) 1) λd=>nP d λd=>bd 0 3 (lI .u64 H1 (d.add 2) λd=>nP a λe=>bd 7 10 (C4 H1 (e.add 9) (uQ d) λd=>D1 d (aQ h.size) λe=>C2 e λf=>G3 d (aQ h.size) λg i j=>nP a λk=>cf 182 #[.agg #[g,i,j],uQ b,uQ 0] d λd g=>asInt .i64 d λd=>ce g h.size 0 e (cf 147 #[pQ f,iQ d] g λd e=>asInt .u64 d λd=>bd 6 10 (C4 e (k.add 8) (uQ d) λd=>nP a λe=>C4 d (e.add 1) (iQ 9) λd=>K tQ d))))) (D0 (c == 9) (D1 H1 (aQ h.size) λd=>C2 d λe=>G3 H1 (aQ h.size) λf g i=>nP a λj=>bd 6 10 (D1 H1 (j.add 8) λk=>asInt .u64 k λl=>D1 H1 (Addr.add (aQ h.size) 1) λm=>C2 m λn=>nP n λn=>D1 H1 (n.add 6) λo=>C8 o λp q r=>bd 0 (q:Int) (E5 (pQ p) λp=>D1 H1 p λq=>asInt .u64 q λr=>cf 182 #[.agg #[f,g,i],uQ b,uQ 0] H1 λf g=>asInt .i64 f λf=>((A3 g p)=(some q))/\(((A3 g (n.add 6))=(some o))/\(((A3 g (Addr.add (aQ h.size) 1))=(some m))/\(((A3 g (j.add 8))=(some k))/\(ce g h.size 0 d (cf 228 #[uQ l,iQ (IntKind.wrap .i64 r),dQ false] g λg i=>asInt .u64 g λg=>ce i h.size 0 d (cf 212 #[pQ e,iQ f,uQ g] i λd d=>nP a λe=>C4 d (e.add 1) (iQ 10) λd=>K tQ d))))))))) (D0 (c == 10) (nP a λc=>bd 5 10 (C4 H1 (c.add 7) (uQ 1) λc=>nP a λd=>C4 c (d.add 1) (iQ 7) λc=>G3 c (aQ h.size) λd e f=>G3 c (aQ h.size) λg i j=>lP c (Addr.add (aQ h.size) 1) λk=>nP k λk=>lS c (k.add 5) λk l m=>bd 0 (l:Int) (E5 (pQ k) λk=>lI .u64 c k λk=>D1 c (Addr.add (aQ h.size) 1) λl=>C2 l λm=>nP m λm=>D1 c (m.add 7) λn=>C8 n λo p q=>bd 0 (p:Int) (E5 (pQ o) λo=>D1 c o λp=>asInt .u64 p λq=>cf 182 #[.agg #[g,i,j],uQ k,uQ 0] c λc g=>asInt .i64 c λc=>((A3 g o)=(some p))/\(((A3 g (m.add 7))=(some n))/\(((A3 g (Addr.add (aQ h.size) 1))=(some l))/\(ce g h.size 0 d (((A3 g (Addr.add (aQ h.size) 1))=(some e))/\(((A3 g (Addr.add (aQ h.size) 2))=(some f))/\(cf 187 #[.agg #[d,e,f],iQ c,uQ q,uQ b,dQ false] g λb c=>asBool b λb=>D0 b (nP a λa=>C4 c (a.add 1) (iQ 11) λa=>K tQ a) (K tQ c))))))))))) (K tQ H1))))))
def F179 (K:kQ) (h:A2) (xa xb xc:Option Addr):Prop:=
 (g179 K h (h.push (oQ #[pQ xa,pQ xb,pQ xc] 204)))
theorem call179 {xa xb xc:Option Addr} (H:F179 K h xa xb xc):A5 Tryz.prog 179 #[(.agg #[(pQ xa),(pQ xb),(pQ xc)])] h K:=
 cQ Tryz.func179 H
abbrev g180 (K:kQ) (h H1:A2):Prop:=
 (lP H1 (Addr.add (aQ h.size) 2) λa=>nP a λb=>bd 2 10 (lI .u64 H1 (b.add 4) λb=>nP a λc=>bd 5 10 (lI .u64 H1 (c.add 7) λc=>nP a λd=>lI .i64 H1 (d.add 1) λd=>D0 (d == 11) (nP a λe=>bd 3 10 (lI .u64 H1 (e.add 5) λe=>D0 (decide (c >= e)) (nP a λe=>C4 H1 (e.add 1) (iQ 17) λe=>K tQ e) (nP a λe=>C4 H1 (e.add 1) (iQ 12) λe=>D1 e (aQ h.size) λf=>C2 f λg=>G3 e (aQ h.size) λi j k=>cf 182 #[.agg #[i,j,k],uQ b,uQ 0] e λe i=>asInt .i64 e λe=>ce i h.size 0 f (cf 147 #[pQ g,iQ e] i λe f=>asInt .u64 e λe=>cf 184 #[uQ e] f λe f=>asBool e λe=>D0 e (nP a λe=>C4 f (e.add 1) (iQ 17) λe=>K tQ e) (K tQ f))))) (D0 (d == 12) (nP a λe=>C4 H1 (e.add 1) (iQ 13) λe=>lP e (Addr.add (aQ h.size) 1) λf=>nP f λf=>lS e (f.add 6) λf g i=>bd c (g:Int) (E5 (pQ f) λf=>lI .u64 e (f.add (c.toNat*1)) λf=>O0 λI46=>(D0 (f != 2) (nP a λg=>bd 7 10 (lI .u64 e (g.add 9) λg=>D0 (f == g) (I46 [dQ true,dQ true] e) (D1 e (aQ h.size) λg=>C2 g λi=>G3 e (aQ h.size) λj k l=>cf 182 #[.agg #[j,k,l],uQ f,uQ 0] e λf j=>asInt .i64 f λf=>ce j h.size 0 g (cf 147 #[pQ i,iQ f] j λf g=>asInt .u64 f λf=>cf 184 #[uQ f] g λf g=>asBool f λf=>I46 [dQ f,dQ f] g)))) (I46 [tQ,dQ false] e))/\(∀(e f:Value) (g:F8) (g:A2),(I46 [e,f] g)->(asBool f λe=>D0 e (nP a λe=>C4 g (e.add 1) (iQ 17) λe=>K tQ e) (K tQ g))))) (D0 (d == 13) (D1 H1 (aQ h.size) λe=>C2 e λf=>G3 H1 (aQ h.size) λg i j=>nP a λk=>cf 182 #[.agg #[g,i,j],uQ b,uQ c] H1 λg i=>asInt .i64 g λg=>ce i h.size 0 e (cf 147 #[pQ f,iQ g] i λe f=>asInt .u64 e λe=>bd 6 10 (C4 f (k.add 8) (uQ e) λe=>nP a λf=>C4 e (f.add 1) (iQ 14) λe=>K tQ e))) (D0 (d == 14) (D1 H1 (aQ h.size) λd=>C2 d λe=>G3 H1 (aQ h.size) λf g i=>nP a λj=>bd 6 10 (D1 H1 (j.add 8) λk=>asInt .u64 k λl=>D1 H1 (Addr.add (aQ h.size) 1) λm=>C2 m λn=>nP n λn=>D1 H1 (n.add 6) λo=>C8 o λp q r=>bd c (q:Int) (E5 (pQ p) λp=>D1 H1 (p.add (c.toNat*1)) λq=>asInt .u64 q λr=>cf 182 #[.agg #[f,g,i],uQ b,uQ c] H1 λb f=>asInt .i64 b λb=>((A3 f (p.add (c.toNat*1)))=(some q))/\(((A3 f (n.add 6))=(some o))/\(((A3 f (Addr.add (aQ h.size) 1))=(some m))/\(((A3 f (j.add 8))=(some k))/\(ce f h.size 0 d (cf 228 #[uQ l,iQ (IntKind.wrap .i64 r),dQ false] f λc f=>asInt .u64 c λc=>ce f h.size 0 d (cf 212 #[pQ e,iQ b,uQ c] f λb b=>nP a λa=>C4 b (a.add 1) (iQ 15) λa=>K tQ a))))))))) (K tQ H1)))))))
def F180 (K:kQ) (h:A2) (xa xb xc:Option Addr):Prop:=
 (g180 K h (h.push (oQ #[pQ xa,pQ xb,pQ xc] 204)))
theorem call180 {xa xb xc:Option Addr} (H:F180 K h xa xb xc):A5 Tryz.prog 180 #[(.agg #[(pQ xa),(pQ xb),(pQ xc)])] h K:=
 cQ Tryz.func180 H
abbrev g181 (K:kQ) (h H1:A2):Prop:=
 (lP H1 (Addr.add (aQ h.size) 2) λa=>nP a λb=>lI .i64 H1 (b.add 1) λb=>D0 (b == 15) (nP a λc=>bd 5 10 (lI .u64 H1 (c.add 7) λc=>G3 H1 (aQ h.size) λd e f=>G3 H1 (aQ h.size) λg i j=>lP H1 (Addr.add (aQ h.size) 1) λk=>nP k λk=>lS H1 (k.add 5) λk l m=>bd c (l:Int) (E5 (pQ k) λk=>lI .u64 H1 (k.add (c.toNat*1)) λk=>D1 H1 (Addr.add (aQ h.size) 1) λl=>C2 l λm=>nP m λm=>D1 H1 (m.add 7) λn=>C8 n λo p q=>bd c (p:Int) (E5 (pQ o) λo=>D1 H1 (o.add (c.toNat*1)) λp=>asInt .u64 p λq=>nP a λr=>bd 2 10 (D1 H1 (r.add 4) λs=>asInt .u64 s λt=>cf 182 #[.agg #[g,i,j],uQ k,uQ c] H1 λg i=>asInt .i64 g λg=>((A3 i (r.add 4))=(some s))/\(((A3 i (o.add (c.toNat*1)))=(some p))/\(((A3 i (m.add 7))=(some n))/\(((A3 i (Addr.add (aQ h.size) 1))=(some l))/\(ce i h.size 0 d (((A3 i (Addr.add (aQ h.size) 1))=(some e))/\(((A3 i (Addr.add (aQ h.size) 2))=(some f))/\(cf 187 #[.agg #[d,e,f],iQ g,uQ q,uQ t,dQ false] i λc d=>asBool c λc=>D0 c (nP a λc=>bd 5 10 (lI .u64 d (c.add 7) λc=>nP a λe=>bd 5 10 (C4 d (e.add 7) (uQ (IntKind.wrap .u64 (c+1))) λc=>nP a λe=>C4 c (e.add 1) (iQ 11) λc=>K tQ c))) (G3 d (aQ h.size) λc e f=>nP a λg=>bd 4 10 (lI .u64 d (g.add 6) λg=>((A3 (d.push (oQ #[uQ g] 178)) (aQ h.size))=(some c))/\(((A3 (d.push (oQ #[uQ g] 178)) (Addr.add (aQ h.size) 1))=(some e))/\(((A3 (d.push (oQ #[uQ g] 178)) (Addr.add (aQ h.size) 2))=(some f))/\(cf 186 #[.agg #[c,e,f],iQ 16,iQ 30,lQ (some (aQ d.size)) 1 1] (d.push (oQ #[uQ g] 178)) λc c=>K tQ c))))))))))))))))) (D0 (b == 16) (lP H1 (Addr.add (aQ h.size) 1) λc=>nP c λc=>bd 0 3 (lI .u64 H1 (c.add 2) λc=>nP a λd=>bd 7 10 (C4 H1 (d.add 9) (uQ c) λc=>nP a λd=>C4 c (d.add 1) (iQ 11) λc=>lP c (Addr.add (aQ h.size) 1) λd=>nP d λd=>lS c (d.add 6) λd e f=>bd 0 (e:Int) (E5 (pQ d) λd=>lI .u64 c d λd=>nP a λe=>bd 2 10 (lI .u64 c (e.add 4) λe=>D0 (d != e) (nP a λd=>C4 c (d.add 1) (iQ 17) λd=>K tQ d) (K tQ c)))))) (D0 (b == 17) (D1 H1 (aQ h.size) λb=>C2 b λc=>G3 H1 (aQ h.size) λd e f=>nP a λg=>bd 2 10 (lI .u64 H1 (g.add 4) λg=>cf 270 #[.agg #[d,e,f],uQ g,iQ 2] H1 λd e=>asInt .i64 d λd=>ce e h.size 0 b (cf 212 #[pQ c,iQ d,uQ 0] e λb b=>nP a λa=>C4 b (a.add 1) (iQ 18) λa=>K tQ a))) (G3 H1 (aQ h.size) λa b c=>cf 185 #[.agg #[a,b,c],uQ 0] H1 λa a=>K tQ a))))
def F181 (K:kQ) (h:A2) (xa xb xc:Option Addr):Prop:=
 (g181 K h (h.push (oQ #[pQ xa,pQ xb,pQ xc] 204)))
theorem call181 {xa xb xc:Option Addr} (H:F181 K h xa xb xc):A5 Tryz.prog 181 #[(.agg #[(pQ xa),(pQ xb),(pQ xc)])] h K:=
 cQ Tryz.func181 H
abbrev g182 (K:kQ) (h H1:A2) (xa xb:Int):Prop:=
 (L1 H1 h.size λa b c=>cf 270 #[.agg #[a,b,c],uQ xa,iQ (IntKind.wrap .i64 (5+(IntKind.wrap .i64 xb)))] H1 λa b=>asInt .i64 a λa=>K (iQ a) b)
def F182 (K:kQ) (h:A2) (xa xb xc:Option Addr) (xd xe:Int):Prop:=
 (g182 K h (h.push (oQ #[pQ xa,pQ xb,pQ xc] 202)) xd xe)
theorem call182 {xa xb xc:Option Addr} {xd xe:Int} (H:F182 K h xa xb xc xd xe):A5 Tryz.prog 182 #[(.agg #[(pQ xa),(pQ xb),(pQ xc)]),(uQ xd),(uQ xe)] h K:=
 cQ Tryz.func182 H
def F183 (K:kQ) (h:A2) (xa:Int):Prop:=
 (cf 146 #[uQ xa] h λa b=>asInt .i64 a λa=>K (uQ (IntKind.wrap .u64 a)) b)
theorem call183 {xa:Int} (H:F183 K h xa):A5 Tryz.prog 183 #[(uQ xa)] h K:=
 cQ Tryz.func183 H
def F184 (K:kQ) (h:A2) (xa:Int):Prop:=
 (cf 226 #[uQ xa] h λa b=>asBool a λa=>K (dQ a) b)
theorem call184 {xa:Int} (H:F184 K h xa):A5 Tryz.prog 184 #[(uQ xa)] h K:=
 cQ Tryz.func184 H
abbrev g185 (K:kQ) (h H1:A2) (xa:Int):Prop:=
 (L1 H1 h.size λa b c=>cf 271 #[.agg #[a,b,c],uQ xa,uQ 0,uQ 0] H1 λa a=>K tQ a)
def F185 (K:kQ) (h:A2) (xa xb xc:Option Addr) (xd:Int):Prop:=
 (g185 K h (h.push (oQ #[pQ xa,pQ xb,pQ xc] 202)) xd)
theorem call185 {xa xb xc:Option Addr} {xd:Int} (H:F185 K h xa xb xc xd):A5 Tryz.prog 185 #[(.agg #[(pQ xa),(pQ xb),(pQ xc)]),(uQ xd)] h K:=
 cQ Tryz.func185 H
abbrev g186 (K:kQ) (h H1:A2) (xa xb:Int) (xc:Option Addr) (xd xe:Nat):Prop:=
 (lP H1 ⟨h.size,2,none⟩ λa=>nP a λa=>C4 H1 (a.add 1) (iQ xa) λa=>lP a ⟨h.size,1,none⟩ λb=>cf 130 #[pQ b,iQ xb,lQ xc xd xe] a λa a=>K tQ a)
def F186 (K:kQ) (h:A2) (xa xb xc:Option Addr) (xd xe:Int) (xf:Option Addr) (xg xh:Nat):Prop:=
 (g186 K h (h.push (oQ #[pQ xa,pQ xb,pQ xc] 202)) xd xe xf xg xh)
theorem call186 {xa xb xc:Option Addr} {xd xe:Int} {xf:Option Addr} {xg xh:Nat} (H:F186 K h xa xb xc xd xe xf xg xh):A5 Tryz.prog 186 #[(.agg #[(pQ xa),(pQ xb),(pQ xc)]),(iQ xd),(iQ xe),(lQ xf xg xh)] h K:=
 cQ Tryz.func186 H
abbrev g187 (K:kQ) (h H1:A2) (xa xb xc:Int) (xd:Bool):Prop:=
 (D1 H1 (aQ h.size) λa=>C2 a λb=>cf 228 #[uQ xb,iQ (IntKind.wrap .i64 xc),dQ xd] H1 λc d=>asInt .u64 c λc=>ce d h.size 0 a (cf 219 #[pQ b,iQ xa,uQ xb,uQ c] d λa b=>asBool a λa=>K (dQ a) b))
def F187 (K:kQ) (h:A2) (xa xb xc:Option Addr) (xd xe xf:Int) (xg:Bool):Prop:=
 (g187 K h (h.push (oQ #[pQ xa,pQ xb,pQ xc] 202)) xd xe xf xg)
theorem call187 {xa xb xc:Option Addr} {xd xe xf:Int} {xg:Bool} (H:F187 K h xa xb xc xd xe xf xg):A5 Tryz.prog 187 #[(.agg #[(pQ xa),(pQ xb),(pQ xc)]),(iQ xd),(uQ xe),(uQ xf),(dQ xg)] h K:=
 cQ Tryz.func187 H
abbrev g189 (K:kQ) (h H1:A2):Prop:=
 (lP H1 (Addr.add (aQ h.size) 2) λa=>nP a λb=>bd 2 10 (lI .u64 H1 (b.add 4) λb=>nP a λa=>bd 2 10 (C4 H1 (a.add 4) (uQ (IntKind.wrap .u64 (b - 1))) λa=>lP a (Addr.add (aQ h.size) 2) λb=>nP b λb=>C4 a (b.add 1) (iQ 1) λa=>K tQ a)))
def F189 (K:kQ) (h:A2) (xa xb xc:Option Addr):Prop:=
 (g189 K h (h.push (oQ #[pQ xa,pQ xb,pQ xc] 207)))
theorem call189 {xa xb xc:Option Addr} (H:F189 K h xa xb xc):A5 Tryz.prog 189 #[(.agg #[(pQ xa),(pQ xb),(pQ xc)])] h K:=
 cQ Tryz.func189 H
abbrev g190 (K:kQ) (h H1:A2) (xa xb:Int):Prop:=
 (lP H1 (aQ h.size) λa=>cf 79 #[pQ a] H1 λa b=>asAgg a λa=>G0 a 15 (N0 a λa c d e f g i j k l m n o p q=>C4 (b.push (oQ Ae 117)) (aQ b.size) a λa=>C4 a ⟨b.size,1,none⟩ c λa=>C4 a ⟨b.size,2,none⟩ d λa=>C4 a ⟨b.size,3,none⟩ e λa=>C4 a ⟨b.size,4,none⟩ f λa=>C4 a ⟨b.size,5,none⟩ g λa=>C4 a ⟨b.size,6,none⟩ i λa=>C4 a ⟨b.size,7,none⟩ j λa=>C4 a ⟨b.size,8,none⟩ k λa=>C4 a ⟨b.size,9,none⟩ l λa=>C4 a ⟨b.size,10,none⟩ m λa=>C4 a ⟨b.size,11,none⟩ n λa=>C4 a ⟨b.size,12,none⟩ o λa=>C4 a ⟨b.size,13,none⟩ p λa=>C4 a ⟨b.size,14,none⟩ q λa=>D1 a (aQ h.size) λc=>C2 c λd=>Bs a b.size λe f g i j k l m n o p q r s t=>D1 a ⟨h.size,1,none⟩ λu=>C2 u λv=>nP v λv=>D1 a v λw=>asInt .i64 w λx=>Bs a b.size λy z A B C D E F G H I J L M N=>cf 233 #[.agg #[y,z,A,B,C,D,E,F,G,H,I,J,L,M,N]] a λa y=>asInt .i64 a λa=>((A3 y v)=(some w))/\(ce y h.size 1 u (Sn9 y b.size e f g i j k l m n o p q r s t (ce y h.size 0 c (cf 232 #[.agg #[e,f,g,i,j,k,l,m,n,o,p,q,r,s,t],iQ x,iQ (IntKind.wrap .i64 ((IntKind.wrap .i64 (a - 1)) - (IntKind.wrap .i64 (IntKind.wrap .u64 ((((BitVec.ofInt 64 xa) &&& (BitVec.ofInt 64 1)).toNat:Nat):Int)))))] y λa b=>asInt .i64 a λa=>ce b h.size 0 c (cf 212 #[pQ d,iQ a,uQ xb] b λa a=>K tQ a)))))))
def F190 (K:kQ) (h:A2) (xa xb xc:Option Addr) (xd xe:Int):Prop:=
 (g190 K h (h.push (oQ #[pQ xa,pQ xb,pQ xc] 202)) xd xe)
theorem call190 {xa xb xc:Option Addr} {xd xe:Int} (H:F190 K h xa xb xc xd xe):A5 Tryz.prog 190 #[(.agg #[(pQ xa),(pQ xb),(pQ xc)]),(uQ xd),(uQ xe)] h K:=
 cQ Tryz.func190 H
abbrev g191 (K:kQ) (h H1:A2):Prop:=
 (lP H1 (Addr.add (aQ h.size) 2) λa=>nP a λb=>lI .i64 H1 (b.add 1) λb=>D0 (b == 4) (O0 λI5=>(nP a λc=>bd 4 10 (lI .u64 H1 (c.add 6) λc=>nP a λd=>bd 0 10 (lI .u64 H1 (d.add 2) λd=>D0 (c == d) (I5 [dQ true,dQ true] H1) (D1 H1 (aQ h.size) λc=>C2 c λd=>G3 H1 (aQ h.size) λe f g=>nP a λi=>bd 4 10 (lI .u64 H1 (i.add 6) λi=>cf 182 #[.agg #[e,f,g],uQ i,uQ 0] H1 λe f=>asInt .i64 e λe=>ce f h.size 0 c (cf 147 #[pQ d,iQ e] f λc d=>asInt .u64 c λc=>cf 184 #[uQ c] d λc d=>asBool c λc=>I5 [dQ c,dQ c] d))))))/\(∀(c d:Value) (e:F8) (e:A2),(I5 [c,d] e)->(asBool c λc=>D0 c (nP a λc=>C4 e (c.add 1) (iQ 5) λc=>K tQ c) (nP a λc=>bd 4 10 (D1 e (c.add 6) λd=>asInt .u64 d λf=>nP a λg=>bd 3 10 (lI .u64 e (g.add 5) λg=>cf 183 #[uQ g] e λe g=>asInt .u64 e λe=>((A3 g (c.add 6))=(some d))/\(D0 (f == e) (L1 g h.size λc d e=>cf 189 #[.agg #[c,d,e]] g λc c=>K tQ c) (nP a λc=>C4 g (c.add 1) (iQ 6) λc=>K tQ c)))))))) (D0 (b == 5) (D1 H1 (aQ h.size) λb=>C2 b λc=>G3 H1 (aQ h.size) λd e f=>nP a λg=>bd 4 10 (lI .u64 H1 (g.add 6) λg=>nP a λi=>bd 2 10 (lI .u64 H1 (i.add 4) λi=>nP a λj=>cf 182 #[.agg #[d,e,f],uQ g,uQ i] H1 λd e=>asInt .i64 d λd=>ce e h.size 0 b (cf 147 #[pQ c,iQ d] e λb c=>asInt .u64 b λb=>cf 183 #[uQ b] c λb c=>asInt .u64 b λb=>bd 4 10 (C4 c (j.add 6) (uQ b) λb=>nP a λc=>C4 b (c.add 1) (iQ 2) λb=>nP a λc=>bd 4 10 (lI .u64 b (c.add 6) λc=>D0 (c == 2) (nP a λc=>C4 b (c.add 1) (iQ 6) λc=>K tQ c) (K tQ b))))))) (G3 H1 (aQ h.size) λb c d=>G3 H1 (aQ h.size) λe f g=>nP a λi=>bd 2 10 (lI .u64 H1 (i.add 4) λi=>nP a λj=>bd 3 10 (D1 H1 (j.add 5) λk=>asInt .u64 k λl=>nP a λm=>bd 4 10 (D1 H1 (m.add 6) λn=>asInt .u64 n λo=>cf 182 #[.agg #[e,f,g],uQ 1,uQ i] H1 λe f=>asInt .i64 e λe=>((A3 f (m.add 6))=(some n))/\(((A3 f (j.add 5))=(some k))/\(ce f h.size 0 b (((A3 f (Addr.add (aQ h.size) 1))=(some c))/\(((A3 f (Addr.add (aQ h.size) 2))=(some d))/\(cf 187 #[.agg #[b,c,d],iQ e,uQ l,uQ o,dQ false] f λb c=>asBool b λb=>D0 b (L1 c h.size λb d e=>cf 189 #[.agg #[b,d,e]] c λb b=>K tQ b) (nP a λa=>C4 c (a.add 1) (iQ 1) λa=>K tQ a))))))))))))
def F191 (K:kQ) (h:A2) (xa xb xc:Option Addr):Prop:=
 (g191 K h (h.push (oQ #[pQ xa,pQ xb,pQ xc] 207)))
theorem call191 {xa xb xc:Option Addr} (H:F191 K h xa xb xc):A5 Tryz.prog 191 #[(.agg #[(pQ xa),(pQ xb),(pQ xc)])] h K:=
 cQ Tryz.func191 H
abbrev g192 (K:kQ) (h H1:A2):Prop:=
 (lP H1 (Addr.add (aQ h.size) 2) λa=>nP a λb=>lI .i64 H1 (b.add 1) λb=>D0 (b == 0) (lP H1 (aQ h.size) λc=>nP a λd=>cf 147 #[pQ c,iQ 1] H1 λc e=>asInt .u64 c λc=>bd 0 10 (C4 e (d.add 2) (uQ c) λc=>nP a λd=>bd 2 10 (nP a λe=>nP a λf=>C4 c (d.add 4) (uQ 1) λc=>bd 3 10 (C4 c (e.add 5) (uQ 0) λc=>bd 4 10 (C4 c (f.add 6) (uQ 0) λc=>nP a λd=>C4 c (d.add 1) (iQ 1) λc=>K tQ c))))) (D0 (b == 1) (D1 H1 (aQ h.size) λc=>C2 c λd=>G3 H1 (aQ h.size) λe f g=>nP a λi=>cf 182 #[.agg #[e,f,g],uQ 1,uQ 0] H1 λe f=>asInt .i64 e λe=>ce f h.size 0 c (cf 147 #[pQ d,iQ e] f λc d=>asInt .u64 c λc=>bd 1 10 (C4 d (i.add 3) (uQ c) λc=>nP a λd=>bd 1 10 (lI .u64 c (d.add 3) λd=>nP a λe=>bd 5 10 (C4 c (e.add 7) (uQ d) λc=>nP a λd=>C4 c (d.add 1) (iQ 2) λc=>K tQ c))))) (D0 (b == 2) (nP a λc=>C4 H1 (c.add 1) (iQ 3) λc=>L1 c h.size λd e f=>cf 273 #[.agg #[d,e,f]] c λc d=>asInt .u64 c λc=>D0 (c == 2) (G3 d (aQ h.size) λc e f=>cf 185 #[.agg #[c,e,f],uQ 3] d λc c=>K tQ c) (K tQ d)) (D0 (b == 3) (G3 H1 (aQ h.size) λc d e=>nP a λf=>bd 3 10 (D1 H1 (f.add 5) λg=>asInt .u64 g λi=>L1 H1 h.size λj k l=>cf 273 #[.agg #[j,k,l]] H1 λj k=>asInt .u64 j λj=>((A3 k (f.add 5))=(some g))/\(ce k h.size 0 c (((A3 k (Addr.add (aQ h.size) 1))=(some d))/\(((A3 k (Addr.add (aQ h.size) 2))=(some e))/\(cf 190 #[.agg #[c,d,e],uQ i,uQ j] k λc c=>nP a λd=>bd 3 10 (lI .u64 c (d.add 5) λd=>nP a λe=>bd 3 10 (C4 c (e.add 5) (uQ (IntKind.wrap .u64 (d+1))) λc=>nP a λd=>C4 c (d.add 1) (iQ 4) λc=>K tQ c)))))))) (D0 (b == 4) (nP a λb=>C4 H1 (b.add 1) (iQ 5) λb=>lP b (aQ h.size) λc=>nP a λd=>bd 0 10 (D1 b (d.add 2) λe=>asInt .u64 e λf=>cf 147 #[pQ c,iQ 1] b λb c=>asInt .u64 b λb=>((A3 c (d.add 2))=(some e))/\(D0 (b != f) (nP a λa=>C4 c (a.add 1) (iQ 0) λa=>K tQ a) (K tQ c)))) (K tQ H1))))))
def F192 (K:kQ) (h:A2) (xa xb xc:Option Addr):Prop:=
 (g192 K h (h.push (oQ #[pQ xa,pQ xb,pQ xc] 208)))
theorem call192 {xa xb xc:Option Addr} (H:F192 K h xa xb xc):A5 Tryz.prog 192 #[(.agg #[(pQ xa),(pQ xb),(pQ xc)])] h K:=
 cQ Tryz.func192 H
abbrev g193 (K:kQ) (h H1:A2):Prop:=
 (lP H1 (Addr.add (aQ h.size) 2) λa=>nP a λb=>lI .i64 H1 (b.add 1) λb=>D0 (b == 5) (nP a λc=>C4 H1 (c.add 1) (iQ 6) λc=>O0 λI7=>(nP a λd=>bd 2 10 (lI .u64 c (d.add 4) λd=>D0 (d != 1) (nP a λd=>bd 4 10 (lI .u64 c (d.add 6) λd=>D0 (d == 0) (D1 c (aQ h.size) λe=>C2 e λf=>G3 c (aQ h.size) λg i j=>nP a λk=>bd 2 10 (lI .u64 c (k.add 4) λk=>cf 270 #[.agg #[g,i,j],uQ k,iQ 2] c λg i=>asInt .i64 g λg=>ce i h.size 0 e (cf 147 #[pQ f,iQ g] i λe f=>asInt .u64 e λe=>I7 [dQ (d == 0),dQ (e == 1)] f))) (I7 [dQ (d == 0),dQ false] c))) (I7 [dQ false,dQ false] c)))/\(∀(c d:Value) (e:F8) (e:A2),(I7 [c,d] e)->(asBool d λc=>D0 c (nP a λc=>bd 2 10 (lI .u64 e (c.add 4) λc=>nP a λd=>bd 4 10 (C4 e (d.add 6) (uQ c) λc=>K tQ c))) (K tQ e)))) (D0 (b == 6) (nP a λc=>C4 H1 (c.add 1) (iQ 8) λc=>nP a λd=>bd 5 10 (lI .u64 c (d.add 7) λd=>cf 184 #[uQ d] c λc d=>asBool c λc=>D0 c (L1 d h.size λc e f=>nP a λg=>cf 273 #[.agg #[c,e,f]] d λc e=>asInt .u64 c λc=>bd 2 10 (C4 e (g.add 4) (uQ c) λc=>nP a λe=>C4 c (e.add 1) (iQ 7) λc=>K tQ c)) (nP a λc=>lI .i64 d c λc=>D0 (c == 33) (nP a λc=>C4 d (c.add 1) (iQ 9) λc=>K tQ c) (K tQ d)))) (D0 (b == 7) (D1 H1 (aQ h.size) λc=>C2 c λd=>G3 H1 (aQ h.size) λe f g=>nP a λi=>bd 2 10 (lI .u64 H1 (i.add 4) λi=>nP a λj=>cf 182 #[.agg #[e,f,g],uQ i,uQ 0] H1 λe f=>asInt .i64 e λe=>ce f h.size 0 c (cf 147 #[pQ d,iQ e] f λc d=>asInt .u64 c λc=>bd 5 10 (C4 d (j.add 7) (uQ c) λc=>nP a λd=>C4 c (d.add 1) (iQ 2) λc=>K tQ c)))) (D0 (b == 8) (nP a λb=>C4 H1 (b.add 1) (iQ 9) λb=>G3 b (aQ h.size) λc d e=>G3 b (aQ h.size) λf g i=>nP a λj=>bd 2 10 (lI .u64 b (j.add 4) λj=>nP a λk=>bd 5 10 (D1 b (k.add 7) λl=>asInt .u64 l λm=>L1 b h.size λn o p=>cf 182 #[.agg #[f,g,i],uQ j,uQ 0] b λb f=>asInt .i64 b λb=>ce f h.size 0 n (ce f h.size 1 o (ce f h.size 2 p (((A3 f (k.add 7))=(some l))/\(ce f h.size 0 c (((A3 f (Addr.add (aQ h.size) 1))=(some d))/\(((A3 f (Addr.add (aQ h.size) 2))=(some e))/\(cf 273 #[.agg #[n,o,p]] f λf g=>asInt .u64 f λf=>((A3 g (k.add 7))=(some l))/\(ce g h.size 0 c (((A3 g (Addr.add (aQ h.size) 1))=(some d))/\(((A3 g (Addr.add (aQ h.size) 2))=(some e))/\(cf 187 #[.agg #[c,d,e],iQ b,uQ m,uQ f,dQ true] g λb c=>asBool b λb=>D0 (!b) (nP a λb=>bd 3 10 (lI .u64 c (b.add 5) λb=>nP a λd=>bd 3 10 (C4 c (d.add 5) (uQ (IntKind.wrap .u64 (b - 1))) λb=>nP a λa=>C4 b (a.add 1) (iQ 7) λa=>K tQ a))) (K tQ c))))))))))))))) (K tQ H1)))))
def F193 (K:kQ) (h:A2) (xa xb xc:Option Addr):Prop:=
 (g193 K h (h.push (oQ #[pQ xa,pQ xb,pQ xc] 208)))
theorem call193 {xa xb xc:Option Addr} (H:F193 K h xa xb xc):A5 Tryz.prog 193 #[(.agg #[(pQ xa),(pQ xb),(pQ xc)])] h K:=
 cQ Tryz.func193 H
abbrev g194 (K:kQ) (h H1:A2):Prop:=
 (lP H1 (Addr.add (aQ h.size) 2) λa=>nP a λb=>lI .i64 H1 (b.add 1) λb=>D0 (b == 9) (D1 H1 (aQ h.size) λc=>C2 c λd=>G3 H1 (aQ h.size) λe f g=>L1 H1 h.size λi j k=>nP a λl=>cf 273 #[.agg #[i,j,k]] H1 λi j=>asInt .u64 i λi=>ce j h.size 0 e (((A3 j (Addr.add (aQ h.size) 1))=(some f))/\(((A3 j (Addr.add (aQ h.size) 2))=(some g))/\(ce j h.size 0 c (cf 270 #[.agg #[e,f,g],uQ i,iQ 1] j λe f=>asInt .i64 e λe=>ce f h.size 0 c (cf 147 #[pQ d,iQ e] f λc d=>asInt .u64 c λc=>bd 6 10 (C4 d (l.add 8) (uQ c) λc=>nP a λd=>C4 c (d.add 1) (iQ 10) λc=>K tQ c))))))) (D0 (b == 10) (D1 H1 (aQ h.size) λb=>C2 b λc=>G3 H1 (aQ h.size) λd e f=>L1 H1 h.size λg i j=>nP a λk=>cf 273 #[.agg #[g,i,j]] H1 λg i=>asInt .u64 g λg=>ce i h.size 0 d (((A3 i (Addr.add (aQ h.size) 1))=(some e))/\(((A3 i (Addr.add (aQ h.size) 2))=(some f))/\(ce i h.size 0 b (cf 270 #[.agg #[d,e,f],uQ g,iQ 0] i λd e=>asInt .i64 d λd=>ce e h.size 0 b (cf 147 #[pQ c,iQ d] e λb c=>asInt .u64 b λb=>cf 274 #[uQ b] c λb c=>asInt .u32 b λb=>bd 8 10 (C4 c (k.add 10) (uQ (IntKind.wrap .u64 b)) λb=>nP a λc=>C4 b (c.add 1) (iQ 11) λb=>O0 λI50=>(O0 λI51=>(nP a λc=>lI .i64 b c λc=>D0 (c == 33) (I51 [dQ true] b) (nP a λc=>bd 3 10 (D1 b (c.add 5) λd=>asInt .u64 d λe=>lP b (aQ h.size) λf=>cf 79 #[pQ f] b λb f=>asAgg b λb=>G0 b 15 (N0 b λb g i j k l m n o p q r s t u=>((A3 f (c.add 5))=(some d))/\(cf 139 #[.agg #[b,g,i,j,k,l,m,n,o,p,q,r,s,t,u]] f λb f=>asAgg b λb=>G0 b 7 (Nh b λb b b b b g g=>((A3 f (c.add 5))=(some d))/\(asInt .i64 b λb=>I51 [dQ (decide (e < (IntKind.wrap .u64 b)))] f)))))))/\(∀(b:Value) (c:F8) (c:A2),(I51 [b] c)->(asBool b λb=>D0 b (nP a λb=>C4 c (b.add 1) (iQ 14) λb=>I50 [] b) (I50 [] c))))/\(∀(b:F8) (b:A2),(I50 [] b)->(nP a λc=>bd 4 10 (lI .u64 b (c.add 6) λc=>D0 (c == 0) (L1 b h.size λc d e=>nP a λa=>cf 273 #[.agg #[c,d,e]] b λc d=>asInt .u64 c λc=>bd 4 10 (C4 d (a.add 6) (uQ c) λa=>K tQ a)) (K tQ b))))))))))) (K tQ H1)))
def F194 (K:kQ) (h:A2) (xa xb xc:Option Addr):Prop:=
 (g194 K h (h.push (oQ #[pQ xa,pQ xb,pQ xc] 208)))
theorem call194 {xa xb xc:Option Addr} (H:F194 K h xa xb xc):A5 Tryz.prog 194 #[(.agg #[(pQ xa),(pQ xb),(pQ xc)])] h K:=
 cQ Tryz.func194 H
abbrev g195 (K:kQ) (h H1:A2):Prop:=
 (lP H1 (Addr.add (aQ h.size) 2) λa=>nP a λb=>lI .i64 H1 (b.add 1) λb=>D0 (b == 11) (nP a λc=>C4 H1 (c.add 1) (iQ 14) λc=>G3 c (aQ h.size) λd e f=>G3 c (aQ h.size) λg i j=>nP a λk=>bd 1 10 (D1 c (k.add 3) λl=>asInt .u64 l λm=>nP a λn=>bd 4 10 (D1 c (n.add 6) λo=>asInt .u64 o λp=>cf 182 #[.agg #[g,i,j],uQ 1,uQ 0] c λc g=>asInt .i64 c λc=>((A3 g (n.add 6))=(some o))/\(((A3 g (k.add 3))=(some l))/\(ce g h.size 0 d (((A3 g (Addr.add (aQ h.size) 1))=(some e))/\(((A3 g (Addr.add (aQ h.size) 2))=(some f))/\(cf 187 #[.agg #[d,e,f],iQ c,uQ m,uQ p,dQ true] g λc d=>asBool c λc=>D0 c (nP a λc=>C4 d (c.add 1) (iQ 12) λc=>K tQ c) (K tQ d))))))))) (D0 (b == 12) (G3 H1 (aQ h.size) λc d e=>cf 186 #[.agg #[c,d,e],iQ 13,iQ 36,lQ (some (aQ H1.size)) 1 1] (H1.push (oQ #[uQ 0] 178)) λc c=>K tQ c) (D0 (b == 13) (G3 H1 (aQ h.size) λb c d=>nP a λe=>bd 1 10 (lI .u64 H1 (e.add 3) λe=>nP a λf=>bd 4 10 (D1 H1 (f.add 6) λg=>asInt .u64 g λi=>cf 183 #[uQ e] H1 λe j=>asInt .u64 e λe=>((A3 j (f.add 6))=(some g))/\(ce j h.size 0 b (((A3 j (Addr.add (aQ h.size) 1))=(some c))/\(((A3 j (Addr.add (aQ h.size) 2))=(some d))/\(((A3 (j.push (oQ #[uQ e,uQ i] 178)) (aQ h.size))=(some b))/\(((A3 (j.push (oQ #[uQ e,uQ i] 178)) (Addr.add (aQ h.size) 1))=(some c))/\(((A3 (j.push (oQ #[uQ e,uQ i] 178)) (Addr.add (aQ h.size) 2))=(some d))/\(cf 186 #[.agg #[b,c,d],iQ 14,iQ 35,lQ (some (aQ j.size)) 2 2] (j.push (oQ #[uQ e,uQ i] 178)) λb b=>K tQ b)))))))))) (G3 H1 (aQ h.size) λb c d=>nP a λe=>bd 8 10 (lI .u64 H1 (e.add 10) λe=>nP a λa=>bd 6 10 (lI .u64 H1 (a.add 8) λa=>cf 271 #[.agg #[b,c,d],uQ 2,uQ e,uQ a] H1 λa a=>K tQ a))))))
def F195 (K:kQ) (h:A2) (xa xb xc:Option Addr):Prop:=
 (g195 K h (h.push (oQ #[pQ xa,pQ xb,pQ xc] 208)))
theorem call195 {xa xb xc:Option Addr} (H:F195 K h xa xb xc):A5 Tryz.prog 195 #[(.agg #[(pQ xa),(pQ xb),(pQ xc)])] h K:=
 cQ Tryz.func195 H
abbrev g262 (K:kQ) (h H1:A2):Prop:=
 (lP H1 (Addr.add (aQ h.size) 2) λa=>lP H1 (aQ h.size) λb=>nP a λc=>cf 147 #[pQ b,iQ 1] H1 λb d=>asInt .u64 b λb=>bd 1 10 (C4 d (c.add 3) (uQ b) λb=>nP a λc=>bd 3 10 (nP a λd=>C4 b (c.add 5) (uQ 1) λb=>bd 5 10 (C4 b (d.add 7) (uQ 0) λb=>lP b (aQ h.size) λc=>nP a λd=>cf 79 #[pQ c] b λb c=>asAgg b λb=>G0 b 15 (N0 b λb e f g i j k l m n o p q r s=>cf 139 #[.agg #[b,e,f,g,i,j,k,l,m,n,o,p,q,r,s]] c λb c=>asAgg b λb=>G0 b 7 (Nh b λb b b b e e e=>asInt .i64 b λb=>bd 2 10 (C4 c (d.add 4) (uQ (IntKind.wrap .u64 (IntKind.wrap .i64 (b - 1)))) λb=>nP a λa=>C4 b (a.add 1) (iQ 1) λa=>K tQ a)))))))
def F262 (K:kQ) (h:A2) (xa xb xc:Option Addr):Prop:=
 (g262 K h (h.push (oQ #[pQ xa,pQ xb,pQ xc] 254)))
theorem call262 {xa xb xc:Option Addr} (H:F262 K h xa xb xc):A5 Tryz.prog 262 #[(.agg #[(pQ xa),(pQ xb),(pQ xc)])] h K:=
 cQ Tryz.func262 H
abbrev g263 (K:kQ) (h H1:A2) (xa:Int):Prop:=
 (lP H1 (aQ h.size) λa=>D1 H1 ⟨h.size,1,none⟩ λb=>C2 b λc=>nP c λc=>D1 H1 c λd=>asInt .i64 d λe=>cf 79 #[pQ a] H1 λa f=>asAgg a λa=>G0 a 15 (N0 a λa g i j k l m n o p q r s t u=>((A3 f c)=(some d))/\(ce f h.size 1 b (cf 232 #[.agg #[a,g,i,j,k,l,m,n,o,p,q,r,s,t,u],iQ e,iQ xa] f λa b=>asInt .i64 a λa=>K (iQ a) b))))
def F263 (K:kQ) (h:A2) (xa xb xc:Option Addr) (xd:Int):Prop:=
 (g263 K h (h.push (oQ #[pQ xa,pQ xb,pQ xc] 252)) xd)
theorem call263 {xa xb xc:Option Addr} {xd:Int} (H:F263 K h xa xb xc xd):A5 Tryz.prog 263 #[(.agg #[(pQ xa),(pQ xb),(pQ xc)]),(iQ xd)] h K:=
 cQ Tryz.func263 H
abbrev g264 (K:kQ) (h H1:A2):Prop:=
 (lP H1 ⟨h.size,2,none⟩ λa=>nP a λa=>bd 2 10 (lI .u64 H1 (a.add 4) λa=>K (iQ (IntKind.wrap .i64 a)) H1))
def F264 (K:kQ) (h:A2) (xa xb xc:Option Addr):Prop:=
 (g264 K h (h.push (oQ #[pQ xa,pQ xb,pQ xc] 252)))
theorem call264 {xa xb xc:Option Addr} (H:F264 K h xa xb xc):A5 Tryz.prog 264 #[(.agg #[(pQ xa),(pQ xb),(pQ xc)])] h K:=
 cQ Tryz.func264 H
abbrev g265 (K:kQ) (h H1:A2) (xa xb:Int):Prop:=
 (lP H1 (aQ h.size) λa=>cf 79 #[pQ a] H1 λa b=>asAgg a λa=>G0 a 15 (N0 a λa c d e f g i j k l m n o p q=>cf 143 #[.agg #[a,c,d,e,f,g,i,j,k,l,m,n,o,p,q],iQ (IntKind.wrap .i64 xa),iQ xb] b λa b=>asInt .i64 a λa=>K (iQ a) b))
def F265 (K:kQ) (h:A2) (xa xb xc:Option Addr) (xd xe:Int):Prop:=
 (g265 K h (h.push (oQ #[pQ xa,pQ xb,pQ xc] 252)) xd xe)
theorem call265 {xa xb xc:Option Addr} {xd xe:Int} (H:F265 K h xa xb xc xd xe):A5 Tryz.prog 265 #[(.agg #[(pQ xa),(pQ xb),(pQ xc)]),(uQ xd),(iQ xe)] h K:=
 cQ Tryz.func265 H
abbrev g266 (K:kQ) (h H1:A2):Prop:=
 (L1 H1 h.size λa b c=>cf 299 #[.agg #[a,b,c]] H1 λa b=>asInt .u64 a λa=>cf 146 #[uQ a] b λa b=>asInt .i64 a λa=>K (uQ (IntKind.wrap .u64 a)) b)
def F266 (K:kQ) (h:A2) (xa xb xc:Option Addr):Prop:=
 (g266 K h (h.push (oQ #[pQ xa,pQ xb,pQ xc] 252)))
theorem call266 {xa xb xc:Option Addr} (H:F266 K h xa xb xc):A5 Tryz.prog 266 #[(.agg #[(pQ xa),(pQ xb),(pQ xc)])] h K:=
 cQ Tryz.func266 H
abbrev g267 (K:kQ) (h H1:A2):Prop:=
 (D1 H1 (Addr.add (aQ h.size) 2) λa=>C2 a λb=>G3 H1 (aQ h.size) λc d e=>cf 264 #[.agg #[c,d,e]] H1 λc d=>asInt .i64 c λc=>((A3 d (Addr.add (aQ h.size) 2))=(some a))/\(D1 d (Addr.add (aQ h.size) 1) λa=>C2 a λe=>nP e λe=>D1 d (e.add 5) λf=>C8 f λg i j=>D1 d (Addr.add (aQ h.size) 1) λj=>C2 j λk=>nP k λk=>D1 d (k.add 7) λl=>C8 l λm n o=>D1 d (Addr.add (aQ h.size) 1) λo=>C2 o λp=>nP p λp=>D1 d (p.add 6) λq=>C8 q λr s t=>nP b λt=>bd 3 10 (D1 d (t.add 5) λu=>asInt .u64 u λv=>nP b λw=>bd 4 10 (D1 d (w.add 6) λx=>asInt .u64 x λy=>G3 d (aQ h.size) λz A B=>cf 266 #[.agg #[z,A,B]] d λd z=>asInt .u64 d λd=>((A3 z (w.add 6))=(some x))/\(((A3 z (t.add 5))=(some u))/\(((A3 z (p.add 6))=(some q))/\(((A3 z (Addr.add (aQ h.size) 1))=(some o))/\(((A3 z (k.add 7))=(some l))/\(((A3 z (Addr.add (aQ h.size) 1))=(some j))/\(((A3 z (e.add 5))=(some f))/\(((A3 z (Addr.add (aQ h.size) 1))=(some a))/\(bd c (i:Int) (E5 (pQ g) λa=>C4 z (a.add (c.toNat*1)) (uQ v) λa=>bd c (n:Int) (E5 (pQ m) λe=>C4 a (e.add (c.toNat*1)) (uQ y) λa=>bd c (s:Int) (E5 (pQ r) λe=>C4 a (e.add (c.toNat*1)) (uQ d) λa=>D0 (c == 0) (D1 a (Addr.add (aQ h.size) 1) λc=>C2 c λd=>nP b λe=>bd 5 10 (lI .u64 a (e.add 7) λe=>((A3 (a.push (oQ #[uQ e] 178)) (Addr.add (aQ h.size) 1))=(some c))/\(cf 106 #[pQ d,lQ (some (aQ a.size)) 1 1] (a.push (oQ #[uQ e] 178)) λc c=>K tQ c))) (nP b λc=>bd 2 10 (lI .u64 a (c.add 4) λc=>nP b λd=>bd 2 10 (C4 a (d.add 4) (uQ (IntKind.wrap .u64 (c - 1))) λa=>nP b λb=>C4 a (b.add 1) (iQ 1) λa=>K tQ a))))))))))))))))))
def F267 (K:kQ) (h:A2) (xa xb xc:Option Addr):Prop:=
 (g267 K h (h.push (oQ #[pQ xa,pQ xb,pQ xc] 254)))
theorem call267 {xa xb xc:Option Addr} (H:F267 K h xa xb xc):A5 Tryz.prog 267 #[(.agg #[(pQ xa),(pQ xb),(pQ xc)])] h K:=
 cQ Tryz.func267 H
abbrev g268 (K:kQ) (h H1:A2):Prop:=
 (lP H1 (Addr.add (aQ h.size) 2) λa=>lP H1 (aQ h.size) λb=>nP a λc=>bd 1 10 (D1 H1 (c.add 3) λd=>asInt .u64 d λe=>cf 147 #[pQ b,iQ 1] H1 λb f=>asInt .u64 b λb=>((A3 f (c.add 3))=(some d))/\(D0 (b != e) (nP a λb=>C4 f (b.add 1) (iQ 0) λb=>K tQ b) (O0 λI12=>(G3 f (aQ h.size) λb c d=>cf 264 #[.agg #[b,c,d]] f λb c=>asInt .i64 b λb=>D0 (b == 0) (G3 c (aQ h.size) λb d e=>cf 299 #[.agg #[b,d,e]] c λb d=>asInt .u64 b λb=>cf 226 #[uQ b] d λb d=>asBool b λb=>I12 [dQ b,dQ b] d) (I12 [dQ false,dQ false] c))/\(∀(b c:Value) (d:F8) (d:A2),(I12 [b,c] d)->(asBool b λb=>D0 b (G3 d (aQ h.size) λb c e=>nP a λf=>cf 266 #[.agg #[b,c,e]] d λb c=>asInt .u64 b λb=>bd 5 10 (C4 c (f.add 7) (uQ b) λb=>L1 b h.size λc e f=>cf 269 #[.agg #[c,e,f]] b λb b=>K tQ b)) (G3 d (aQ h.size) λb c e=>cf 264 #[.agg #[b,c,e]] d λb c=>asInt .i64 b λb=>D0 (decide (b > 0)) (nP a λb=>C4 c (b.add 1) (iQ 5) λb=>K tQ b) (nP a λa=>C4 c (a.add 1) (iQ 6) λa=>K tQ a))))))))
def F268 (K:kQ) (h:A2) (xa xb xc:Option Addr):Prop:=
 (g268 K h (h.push (oQ #[pQ xa,pQ xb,pQ xc] 254)))
theorem call268 {xa xb xc:Option Addr} (H:F268 K h xa xb xc):A5 Tryz.prog 268 #[(.agg #[(pQ xa),(pQ xb),(pQ xc)])] h K:=
 cQ Tryz.func268 H
abbrev g269 (K:kQ) (h H1:A2):Prop:=
 (D1 H1 (Addr.add (aQ h.size) 2) λa=>C2 a λb=>G3 H1 (aQ h.size) λc d e=>nP b λb=>cf 266 #[.agg #[c,d,e]] H1 λc d=>asInt .u64 c λc=>((A3 d (Addr.add (aQ h.size) 2))=(some a))/\(bd 3 10 (C4 d (b.add 5) (uQ c) λa=>lP a (Addr.add (aQ h.size) 2) λb=>nP b λb=>C4 a (b.add 1) (iQ 1) λa=>K tQ a)))
def F269 (K:kQ) (h:A2) (xa xb xc:Option Addr):Prop:=
 (g269 K h (h.push (oQ #[pQ xa,pQ xb,pQ xc] 254)))
theorem call269 {xa xb xc:Option Addr} (H:F269 K h xa xb xc):A5 Tryz.prog 269 #[(.agg #[(pQ xa),(pQ xb),(pQ xc)])] h K:=
 cQ Tryz.func269 H
abbrev g270 (K:kQ) (h H1:A2) (xa xb:Int):Prop:=
 (lP H1 (aQ h.size) λa=>cf 79 #[pQ a] H1 λa b=>asAgg a λa=>G0 a 15 (N0 a λa c d e f g i j k l m n o p q=>cf 143 #[.agg #[a,c,d,e,f,g,i,j,k,l,m,n,o,p,q],iQ (IntKind.wrap .i64 xa),iQ xb] b λa b=>asInt .i64 a λa=>K (iQ a) b))
def F270 (K:kQ) (h:A2) (xa xb xc:Option Addr) (xd xe:Int):Prop:=
 (g270 K h (h.push (oQ #[pQ xa,pQ xb,pQ xc] 202)) xd xe)
theorem call270 {xa xb xc:Option Addr} {xd xe:Int} (H:F270 K h xa xb xc xd xe):A5 Tryz.prog 270 #[(.agg #[(pQ xa),(pQ xb),(pQ xc)]),(uQ xd),(iQ xe)] h K:=
 cQ Tryz.func270 H
abbrev g271 (K:kQ) (h H1:A2) (xa xb xc:Int):Prop:=
 (lP H1 ⟨h.size,2,none⟩ λa=>D1 H1 ⟨h.size,2,none⟩ λb=>C2 b λc=>D1 H1 ⟨h.size,2,none⟩ λd=>C2 d λe=>nP a λa=>bd 7 10 (nP c λc=>nP e λe=>C4 H1 (a.add 9) (uQ xa) λa=>ce a h.size 2 d (ce a h.size 2 b (bd 8 10 (C4 a (c.add 10) (uQ xb) λa=>ce a h.size 2 d (bd 9 10 (C4 a (e.add 11) (uQ xc) λa=>L1 a h.size λb c d=>cf 186 #[.agg #[b,c,d],iQ 90,iQ 4,lQ none 0 0] a λa a=>K tQ a)))))))
def F271 (K:kQ) (h:A2) (xa xb xc:Option Addr) (xd xe xf:Int):Prop:=
 (g271 K h (h.push (oQ #[pQ xa,pQ xb,pQ xc] 202)) xd xe xf)
theorem call271 {xa xb xc:Option Addr} {xd xe xf:Int} (H:F271 K h xa xb xc xd xe xf):A5 Tryz.prog 271 #[(.agg #[(pQ xa),(pQ xb),(pQ xc)]),(uQ xd),(uQ xe),(uQ xf)] h K:=
 cQ Tryz.func271 H
abbrev g273 (K:kQ) (h H1:A2):Prop:=
 (lP H1 (Addr.add (aQ h.size) 2) λa=>nP a λa=>bd 5 10 (lI .u64 H1 (a.add 7) λa=>cf 183 #[uQ a] H1 λa b=>asInt .u64 a λa=>K (uQ a) b))
def F273 (K:kQ) (h:A2) (xa xb xc:Option Addr):Prop:=
 (g273 K h (h.push (oQ #[pQ xa,pQ xb,pQ xc] 208)))
theorem call273 {xa xb xc:Option Addr} (H:F273 K h xa xb xc):A5 Tryz.prog 273 #[(.agg #[(pQ xa),(pQ xb),(pQ xc)])] h K:=
 cQ Tryz.func273 H
abbrev g299 (K:kQ) (h H1:A2):Prop:=
 (lP H1 ⟨h.size,2,none⟩ λa=>nP a λa=>bd 4 10 (lI .u64 H1 (a.add 6) λa=>K (uQ a) H1))
def F299 (K:kQ) (h:A2) (xa xb xc:Option Addr):Prop:=
 (g299 K h (h.push (oQ #[pQ xa,pQ xb,pQ xc] 252)))
theorem call299 {xa xb xc:Option Addr} (H:F299 K h xa xb xc):A5 Tryz.prog 299 #[(.agg #[(pQ xa),(pQ xb),(pQ xc)])] h K:=
 cQ Tryz.func299 H
end
section
open Mod
section
variable {K:kQ} {h:A2} {M T b o N:Nat} {tv:Value} {fo:Option (Nat × Nat)} {x:A9} {R:Hp}
theorem Ss2 (x:A9) (a:Int):(x.load a).2.m.p=x.m.p:=by
 show (x.m.load a).2.p=x.m.p
 unfold Mac.load
 dsimp only
 have:(x.m.touch a).p=x.m.p:=by unfold Mac.touch;split <;> rfl
 split <;> exact this
theorem Ss3 (w:Int):F5 (J2 w)=J2 w:=by have:=FZ w;unfold F5;omega
theorem Yl (x:A9) (w f:Int):x.na (J2 w) f=x.m.p.node (J2 w) f:=by unfold A9.na;rw [Ss3]
theorem Cs (H:A7 h (A1 M T tv (some (b,o)) x R)) (k:∀h',G4 h.size h h'->K (iQ (F5 (x.f.g 2))) h') :
  A5 Tryz.prog 264 #[rV M T b o] h K:=by
 refine call264 ?_
 unfold F264 g264 bd lP lI nP
 have oo:G4 h.size h (h.push (oQ #[mP M,mP T,fP b o] 252)):=(G4.refl _ _).push _ (Nat.le_refl _)
 have H1:=A1.new H (oQ #[mP M,mP T,fP b o] 252);generalize h.push (oQ #[mP M,mP T,fP b o] 252)=h1 at *;generalize h.size=N at *
 refine ss H1 ?_
 exact k h1 oo
theorem JL (H:A7 h (A1 M T tv (some (b,o)) x R)) (k:∀h',G4 h.size h h'->K (uQ (x.f.g 4)) h') :
  A5 Tryz.prog 299 #[rV M T b o] h K:=by
 refine call299 ?_
 unfold F299 g299 bd lP lI nP
 have oo:G4 h.size h (h.push (oQ #[mP M,mP T,fP b o] 252)):=(G4.refl _ _).push _ (Nat.le_refl _)
 have H1:=A1.new H (oQ #[mP M,mP T,fP b o] 252);generalize h.push (oQ #[mP M,mP T,fP b o] 252)=h1 at *;generalize h.size=N at *
 refine ss H1 ?_
 exact k h1 oo
theorem AD (H:A7 h (A1 M T tv (some (b,o)) x R)) (k:∀h',G4 h.size h h'->K (uQ (J2 (x.f.g 4))) h') :
  A5 Tryz.prog 266 #[rV M T b o] h K:=by
 refine call266 ?_
 unfold F266 g266 cf L1
 have B:=A1.fB H
 have oo:G4 h.size h (h.push (oQ #[mP M,mP T,fP b o] 252)):=(G4.refl _ _).push _ (Nat.le_refl _)
 have s1:=oo.1
 have H1:=A1.new H (oQ #[mP M,mP T,fP b o] 252);generalize h.push (oQ #[mP M,mP T,fP b o] 252)=h1 at *;generalize h.size=N at *
 refine ss H1 ?_
 refine A0 (JL H1 λh2 o2=>?_)
 refine sb ?_
 refine A0 (M7 (B.g 4) ?_)
 refine sb ?_
 exact k h2 (oo.trans (o2.mono s1))
theorem Jg (H:A7 h (A1 M T tv fo x R)) {n f:Int} (hf:iN f) (k:∀h',G4 h.size h h'->K (iQ (x.na n f)) h') :
  A5 Tryz.prog 265 #[rV M T b o,uQ n,iQ f] h K:=by
 refine call265 ?_
 unfold F265 g265 cf lP N0
 have oo:G4 h.size h (h.push (oQ #[mP M,mP T,fP b o] 252)):=(G4.refl _ _).push _ (Nat.le_refl _)
 have s1:=oo.1
 have H1:=A1.new H (oQ #[mP M,mP T,fP b o] 252);generalize h.push (oQ #[mP M,mP T,fP b o] 252)=h1 at *;generalize h.size=N at *
 refine sl H1 ?_
 refine A0 (AX H1 λh2 o2=>AZ ?_)
 refine A0 (N5 (A1.pl H) (S5 _) hf λh3 o3=>?_)
 refine sb ?_
 exact k h3 (oo.trans ((o2.trans (o3.mono o2.1)).mono s1))
theorem JM (H:A7 h (A1 M T tv (some (b,o)) x R)) (O:Ok x) {i:Int} (hi:iN i) (k:∀h',G4 h.size h h'->K (iQ (x.m.p.haz x.id i)) h') :
  A5 Tryz.prog 263 #[rV M T b o,iQ i] h K:=by
 refine call263 ?_
 unfold F263 g263 cf ce lP nP N0
 have oo:G4 h.size h (h.push (oQ #[mP M,mP T,fP b o] 252)):=(G4.refl _ _).push _ (Nat.le_refl _)
 have s1:=oo.1
 have H1:=A1.new H (oQ #[mP M,mP T,fP b o] 252);generalize h.push (oQ #[mP M,mP T,fP b o] 252)=h1 at *;generalize h.size=N at *
 refine ss H1 ?_
 refine A0 (AX H1 λh2 o2=>AZ ?_)
 have H2:=A1.old H1 o2
 refine ss H2 ?_
 refine A0 (Bt (A1.pl H) O.id hi λh3 o3=>?_)
 refine sb ?_
 exact k h3 (oo.trans ((o2.trans (o3.mono o2.1)).mono s1))
theorem Gk (H:A7 h (A1 M T tv (some (b,o)) x R)) (k:∀h',A7 h' (A1 M T tv none (Cg x) R)->K tQ h') :
  A5 Tryz.prog 269 #[rV M T b o] h K:=by
 refine call269 ?_
 unfold F269 g269 cf bd lP nP G3
 unfold Cg at k
 have H1:=A1.new H (oQ #[mP M,mP T,fP b o] 254);generalize h.push (oQ #[mP M,mP T,fP b o] 254)=h1 at *;generalize h.size=N at *
 refine ss H1 ?_
 refine A0 (AD H1 λh2 o2=>?_)
 have H2:=A1.old H1 o2
 refine ss H2 ?_
 refine A1.stR (i:=3) H2 rfl (T9 _) λh3 H3=>?_
 refine ss H3 ?_
 exact A1.stP H3 λh4 H4=>k h4 (A1.drp (A1.none H4))
theorem Pk (H:A7 h (A1 M T tv (some (b,o)) x R)) (O:Ok x) (k:∀h',A7 h' (A1 M T tv none (((((( x.load 1).2.s 1 (x.load 1).1).s 3 1).s 5 0).s 2 (u64 (x.m.p.c.level - 1))).pc 1) R)->K tQ h') :
  A5 Tryz.prog 262 #[rV M T b o] h K:=by
 refine call262 ?_
 unfold F262 g262 cf bd lP nP Nh N0
 have P:=A1.pl H
 have H1:=A1.new H (oQ #[mP M,mP T,fP b o] 254);generalize h.push (oQ #[mP M,mP T,fP b o] 254)=h1 at *;generalize h.size=N at *
 refine ss H1 ?_
 refine A0 (M0 H1 (by decide) O.st λh2 H2 u2=>?_)
 refine ss H2 ?_
 refine A1.stR (i:=1) H2 rfl u2 λh3 H3=>?_
 try simp +decide only [B4,F2,Nat.reduceAdd,Int.reduceLE,Int.reduceLT,Int.reduceToNat,J0,G5,B0,A1.al H3]
 refine A1.stR (i:=3) H3 rfl (U.lit rfl) λh4 H4=>?_
 try simp +decide only [B4,F2,Nat.reduceAdd,Int.reduceLE,Int.reduceLT,Int.reduceToNat,J0,G5,B0,A1.al H4]
 refine A1.stR (i:=5) H4 rfl U0 λh5 H5=>?_
 refine ss H5 ?_
 refine A0 (AX H5 λh6 o6=>AZ ?_)
 have H6:=A1.old H5 o6
 try simp +decide only [B4,F2,Nat.reduceAdd,Int.reduceLE,Int.reduceLT,Int.reduceToNat,J0,G5,B0,A1.al H6]
 refine A0 (U9 λh7 o7=>cf7 ?_)
 have H7:=A1.old H6 o7
 refine ss H7 ?_
 have em:(x.load 1).2.m.p=x.m.p:=Ss2 x 1
 have em2:(((( x.load 1).2.s 1 (x.load 1).1).s 3 1).s 5 0).m.p=x.m.p:=em
 rw [em2]
 refine A1.stR (i:=2) H7 rfl (R7 _) λh8 H8=>?_
 exact A1.stP H8 λh9 H9=>k h9 (A1.drp (A1.none H9))
theorem GY (H:A7 h (A1 M T tv (some (b,o)) x R)) (hr:EN x (x.f.g 2)) (k:∀h',A7 h' (A1 M T tv none (W0 x) R)->K tQ h') :
  A5 Tryz.prog 267 #[rV M T b o] h K:=by
 refine call267 ?_
 unfold F267 g267 cf bd lI nP G3
 have B:=A1.fB H
 have TB:=A1.B H
 obtain ⟨⟨r0,r1⟩,e1,e2,e3⟩:=hr
 unfold W0 at k
 dsimp only at k
 have H1:=A1.new H (oQ #[mP M,mP T,fP b o] 254);generalize h.push (oQ #[mP M,mP T,fP b o] 254)=h1 at *;generalize h.size=N at *
 refine ss H1 ?_
 refine A0 (Cs H1 λh2 o2=>?_)
 have H2:=A1.old H1 o2
 obtain ⟨pb,sb,wb,Q,hQ,HR,re⟩:=Pg H2
 obtain ⟨c5,c6,c7⟩:=hQ h2 _ HR.drop.drop.drop
 have d5:∀F:Value->Prop,D1 h2 ⟨T,5,none⟩ F=F (lQ (some (aQ pb)) x.t.pred.length x.t.pred.length):=λF=>by unfold D1;rw [c5]
 have d6:∀F:Value->Prop,D1 h2 ⟨T,6,none⟩ F=F (lQ (some (aQ sb)) x.t.succ.length x.t.succ.length):=λF=>by unfold D1;rw [c6]
 have d7:∀F:Value->Prop,D1 h2 ⟨T,7,none⟩ F=F (lQ (some (aQ wb)) x.t.word.length x.t.word.length):=λF=>by unfold D1;rw [c7]
 try simp +decide only [B4,F2,Nat.reduceAdd,Int.reduceLE,Int.reduceLT,Int.reduceToNat,J0,G5,B0,A1.al H2,d5,d6,d7]
 refine A0 (AD H2 λh3 o3=>?_)
 have H3:=A1.old H2 o3
 have HR3:=HR.old o3
 obtain ⟨c5,c6,c7⟩:=hQ h3 _ HR3.drop.drop.drop
 try simp +decide only [B4,F2,Nat.reduceAdd,Int.reduceLE,Int.reduceLT,Int.reduceToNat,J0,G5,B0,A1.al H3,c5,c6,c7]
 refine ⟨r0,by omega,?_⟩
 have hu:∀l:List Int,(U8 l).length=l.length:=Kq
 have us:∀(l:List Int) (i:Nat) (v:Int),(U8 l).set i (uQ v)=U8 (l.set i v):=λl i v=>by unfold U8;rw [List.map_set]
 refine CK HR3 (by rw [hu];omega) trivial λh4 H4=>?_
 refine ⟨r0,by omega,?_⟩
 rw [Hr,us] at H4
 refine CK H4 (by rw [hu];omega) trivial λh5 H5=>?_
 refine ⟨r0,by omega,?_⟩
 rw [<- Hr,us,D4] at H5
 refine CK H5 (by rw [hu];omega) trivial λh6 H6=>?_
 rw [D4,us] at H6
 have H7:=re h6 _ _ _ (by simp) (by simp) (by simp) (Z2 TB.pr (B.g 3)) (Z2 TB.su (T9 _)) (Z2 TB.wo (B.g 4)) H6
 have ef:(x.setPl (x.t.pred.set (F5 (x.f.g 2)).toNat (x.f.g 3)) (x.t.succ.set (F5 (x.f.g 2)).toNat (J2 (x.f.g 4))) (x.t.word.set (F5 (x.f.g 2)).toNat (x.f.g 4))).f=x.f:=rfl
 try simp +decide only [B4,F2,Nat.reduceAdd,Int.reduceLE,Int.reduceLT,Int.reduceToNat,J0,G5,B0,A1.al H7,ef]
 refine A4 (λc=>?_) (λc=>?_)
 ·have c':(F5 (x.f.g 2)).toNat=0:=by omega
  rw [if_pos c'] at k
  exact A0 (ZO H7 [x.f.g 5] rfl (W5 (B.g 5)) rfl λh8 H8=>k h8 (A1.drp H8))
 ·have c':¬ (F5 (x.f.g 2)).toNat=0:=by omega
  rw [if_neg c'] at k
  exact A1.stR (i:=2) H7 rfl (R7 _) λh8 H8=>A1.stP H8 λh9 H9=>k h9 (A1.drp (A1.none H9))
theorem Pm (H:A7 h (A1 M T tv (some (b,o)) x R)) (O:Ok x) (k:∀h',A7 h' (A1 M T tv none (BP x) R)->K tQ h') :
  A5 Tryz.prog 268 #[rV M T b o] h K:=by
 refine call268 ?_
 unfold F268 g268 cf bd lP nP G3 L1
 have B:=A1.fB H
 unfold BP at k
 dsimp only at k
 have H1:=A1.new H (oQ #[mP M,mP T,fP b o] 254);generalize h.push (oQ #[mP M,mP T,fP b o] 254)=h1 at *;generalize h.size=N at *
 refine ss H1 ?_
 refine A0 (M0 H1 (by decide) O.st λh2 H2 u2=>?_)
 refine ss H2 ?_
 refine C7 (λc=>?_) (λc=>?_)
 ·rw [if_pos (bne_iff_ne.1 c)] at k
  exact A1.stP H2 λh3 H3=>k h3 (A1.drp (A1.none H3))
 rw [if_neg (λhh=>hh (bne_eq_false_iff_eq.1 c))] at k
 refine ⟨λvs h'=>(∃w,vs = [dQ (decide (F5 (x.f.g 2)=0/\Y9 (x.f.g 4)=true)),w])/\A7 h' (A1 M T tv (some (b,o)) (x.load 1).2 (pt N (oQ #[mP M,mP T,fP b o] 254)*R)),?_,?_⟩
 ·refine ss H2 ?_
  refine A0 (Cs H2 λh3 o3=>?_)
  have H3:=A1.old H2 o3
  refine ss H3 ?_
  refine A4 (λc2=>?_) (λc2=>?_)
  ·try simp +decide only [B4,F2,Nat.reduceAdd,Int.reduceLE,Int.reduceLT,Int.reduceToNat,J0,G5,B0,A1.al H3]
   refine A0 (JL H3 λh4 o4=>?_)
   have H4:=A1.old H3 o4
   refine ss H4 ?_
   refine A0 (V3 (B.g 4) ?_)
   refine sb ?_
   rw [show decide (F5 (x.f.g 2)=0/\Y9 (x.f.g 4)=true)=Y9 (x.f.g 4) by simp [c2]]
   exact ⟨⟨_,rfl⟩,H4⟩
  ·rw [decide_eq_false (p:=F5 (x.f.g 2)=0/\Y9 (x.f.g 4)=true) (λhh=>c2 hh.1)]
   exact ⟨⟨_,rfl⟩,H3⟩
 rintro v28 v29 g30 h31 ⟨⟨w,e⟩,H3⟩
 cases e
 refine ss H3 ?_
 refine A4 (λc2=>?_) (λc2=>?_)
 ·rw [if_pos c2] at k
  refine A0 (AD H3 λh4 o4=>?_)
  have H4:=A1.old H3 o4
  refine ss H4 ?_
  refine A1.stR (i:=5) H4 rfl (T9 _) λh5 H5=>?_
  refine ss H5 ?_
  exact A0 (Gk H5 λh6 H6=>k h6 (A1.drp H6))
 rw [if_neg c2] at k
 refine A0 (Cs H3 λh4 o4=>?_)
 have H4:=A1.old H3 o4
 refine ss H4 ?_
 refine A4 (λc3=>?_) (λc3=>?_)
 ·rw [if_pos c3] at k
  exact A1.stP H4 λh5 H5=>k h5 (A1.drp (A1.none H5))
 ·rw [if_neg c3] at k
  exact A1.stP H4 λh5 H5=>k h5 (A1.drp (A1.none H5))
theorem Sc (H:A7 h (A1 M T tv (some (b,o)) x R)) (O:Ok x) (hr:x.f.pc≠0->EN x (x.f.g 2)) (k:∀h',A7 h' (A1 M T tv none (Ec x) R)->K tQ h') :
  A5 Tryz.prog 176 #[rV M T b o] h K:=by
 refine call176 ?_
 unfold F176 g176 cf ce bd lP lI nP G3 L1
 have B:=A1.fB H
 have P:=A1.pl H
 unfold Ec at k
 dsimp only at k
 have H1:=A1.new H (oQ #[mP M,mP T,fP b o] 254);generalize h.push (oQ #[mP M,mP T,fP b o] 254)=h1 at *;generalize h.size=N at *
 refine ss H1 ?_
 refine A4 (λc=>?_) (λc=>?_)
 ·rw [if_pos c] at k
  have em:(x.load 1).2.m.p=x.m.p:=Ss2 x 1
  rw [em] at k
  exact A0 (Pk H1 O λh2 H2=>k h2 (A1.drp H2))
 rw [if_neg c] at k
 have hr:=hr c
 have hrr:0<=F5 (x.f.g 2)/\F5 (x.f.g 2) < 1000:=⟨hr.r.1,by have:=hr.r.2;have:=hr.e3;omega⟩
 have hr6:F5 (x.f.g 2) < 6:=by have:=hr.r.2;have:=hr.e3;omega
 refine A4 (λc=>?_) (λc=>?_)
 ·rw [if_pos c] at k
  refine A0 (Cs H1 λh3 o3=>?_)
  have H3:=A1.old H1 o3
  refine ss H3 ?_
  rw [Fh (n:=2*F5 (x.f.g 2)) (by omega) (by omega)]
  refine A0 (JM H3 O ⟨by omega,by omega⟩ λh4 o4=>?_)
  have H4:=A1.old H3 o4
  refine ss H4 ?_
  refine A0 (T8 H4 (Ga P _ _) (B.g 3) O.st λh5 H5=>?_)
  exact A1.stP H5 λh7 H7=>k h7 (A1.drp (A1.none H7))
 rw [if_neg c] at k
 refine A4 (λc=>?_) (λc=>?_)
 ·rw [if_pos c] at k
  refine A0 (Cs H1 λh3 o3=>?_)
  have H3:=A1.old H1 o3
  refine ss H3 ?_
  rw [Fh (n:=5+F5 (x.f.g 2)) (by omega) (by omega)]
  refine A0 (Jg H3 ⟨by omega,by omega⟩ λh4 o4=>?_)
  have H4:=A1.old H3 o4
  rw [show x.na (x.f.g 3) (5+F5 (x.f.g 2))=x.nlink (x.f.g 3) (x.f.g 2) from rfl]
  refine ss H4 ?_
  refine A0 (M0 H4 (E8 P _ _) O.st λh5 H5 u5=>?_)
  refine ss H5 ?_
  refine A1.stR (i:=4) H5 rfl u5 λh6 H6=>A1.stP H6 λh7 H7=>?_
  refine ss H7 ?_
  refine A0 (AD H7 λh8 o8=>?_)
  have H8:=A1.old H7 o8
  try simp +decide only [B4,F2,Nat.reduceAdd,Int.reduceLE,Int.reduceLT,Int.reduceToNat,J0,G5,B0,A1.al H8,B.len]
  refine A4 (λc2=>?_) (λc2=>?_)
  ·rw [if_pos c2] at k
   have hr7:EN (((x.load (x.nlink (x.f.g 3) (x.f.g 2))).2.s 4 (x.load (x.nlink (x.f.g 3) (x.f.g 2))).1).pc 3) (((((x.load (x.nlink (x.f.g 3) (x.f.g 2))).2.s 4 (x.load (x.nlink (x.f.g 3) (x.f.g 2))).1).pc 3).f.g 2)):=by
    rw [AY,CN,CM,B0 _ (by decide),X9]
    exact hr.same ⟨rfl,rfl,rfl⟩
   exact A0 (GY H8 hr7 λh9 H9=>k h9 (A1.drp H9))
  ·rw [if_neg c2] at k
   exact k h8 (A1.drp (A1.none H8))
 rw [if_neg c] at k
 refine A4 (λc=>?_) (λc=>?_)
 ·rw [if_pos c] at k
  refine A0 (Cs H1 λh3 o3=>?_)
  have H3:=A1.old H1 o3
  refine ss H3 ?_
  rw [Fh (n:=2*F5 (x.f.g 2)) (by omega) (by omega),Fh (n:=2*F5 (x.f.g 2)+1) (by omega) (by omega)]
  refine A0 (JM H3 O ⟨by omega,by omega⟩ λh4 o4=>?_)
  have H4:=A1.old H3 o4
  refine ss H4 ?_
  refine A0 (AD H4 λh5 o5=>?_)
  have H5:=A1.old H4 o5
  refine ss H5 ?_
  refine A0 (T8 H5 (Ga P _ _) (T9 _) O.st λh6 H6=>?_)
  exact A1.stP H6 λh7 H7=>k h7 (A1.drp (A1.none H7))
 rw [if_neg c] at k
 refine A4 (λc=>?_) (λc=>?_)
 ·rw [if_pos c] at k
  exact A0 (Pm H1 O λh3 H3=>k h3 (A1.drp H3))
 rw [if_neg c] at k
 refine A4 (λc=>?_) (λc=>?_)
 ·rw [if_pos c] at k
  rw [<- Yl] at k
  refine A1.stP H1 λh2 H2=>?_
  refine ss H2 ?_
  refine A0 (AD H2 λh3 o3=>?_)
  have H3:=A1.old H2 o3
  refine ss H3 ?_
  refine A0 (Jg H3 (by decide) λh4 o4=>?_)
  have H4:=A1.old H3 o4
  rw [show (x.pc 6).na (J2 (x.f.g 4)) 5=x.na (J2 (x.f.g 4)) 5 from rfl]
  refine ss H4 ?_
  refine A0 (M0 H4 (E8 P _ _) O.st λh5 H5 u5=>?_)
  refine ss H5 ?_
  refine A0 (V3 u5 ?_)
  refine ss H5 ?_
  refine C7 (λc2=>?_) (λc2=>?_)
  ·rw [if_pos c2] at k
   exact A0 (Gk H5 λh6 H6=>k h6 (A1.drp H6))
  ·rw [if_neg (by rw [c2];simp)] at k
   exact k h5 (A1.drp (A1.none H5))
 rw [if_neg c] at k
 rw [<- Yl] at k
 refine A0 (AD H1 λh3 o3=>?_)
 have H3:=A1.old H1 o3
 refine ss H3 ?_
 refine A0 (Jg H3 (by decide) λh4 o4=>?_)
 have H4:=A1.old H3 o4
 refine ss H4 ?_
 refine A0 (M0 H4 (E8 P _ _) O.st λh5 H5 u5=>?_)
 refine ss H5 ?_
 refine A4 (λc2=>?_) (λc2=>?_)
 ·rw [if_pos c2] at k
  exact A0 (Gk H5 λh6 H6=>k h6 (A1.drp H6))
 ·rw [if_neg c2] at k
  exact A0 (GY H5 (hr.same ⟨rfl,rfl,rfl⟩) λh6 H6=>k h6 (A1.drp H6))
def LOk (x:A9):Prop:=x.f.fn=30->x.f.pc≠0->EN x (x.f.g 2)
theorem MF (H:A7 h (A1 M T tv fo x R)) (O:Ok x) (hf:LOk x) (k:∀h',A7 h' (A1 M T tv none (Z7 x) R)->K tQ h') :
  A5 Tryz.prog 115 #[mP M,mP T] h K:=by
 refine call115 ?_
 unfold F115 cf lI nP
 unfold Z7 at k
 refine A0 (OU H (λe=>?_) λb o hne _ H1=>?_)
 ·rw [if_pos e] at k
  refine sb ?_
  refine ⟨λvs h'=>(∃w,vs = [dQ true,w])/\h' = h,⟨⟨_,rfl⟩,rfl⟩,?_⟩
  rintro v4 v5 g6 h7 ⟨⟨w,e⟩,rfl⟩
  cases e
  refine sb ?_
  exact k _ (A1.none H)
 ·rw [if_neg hne] at k
  refine sb ?_
  refine ⟨λvs h'=>(∃w,vs = [dQ false,w])/\h' = h,⟨⟨_,rfl⟩,rfl⟩,?_⟩
  rintro v4 v5 g6 h7 ⟨⟨w,e⟩,rfl⟩
  cases e
  try simp +decide only [B4,F2,Nat.reduceAdd,Int.reduceLE,Int.reduceLT,Int.reduceToNat,J0,G5,B0,A1.r H1]
  refine A4 (λc=>?_) (λc=>?_)
  ·rw [if_pos c] at k
   exact A0 (Sc H1 O (hf c) k)
  rw [if_neg c] at k
  exact A0 (Ey H1 O k)
end
end
section
open Mod
theorem and1 {n:Int} (h:U n):Mod.u64 ((((BitVec.ofInt 64 n) &&& (BitVec.ofInt 64 1)).toNat:Nat):Int)=n % 2:=by
 obtain ⟨h0,h1⟩:=h
 have e:(BitVec.ofInt 64 n).toNat=n.toNat:=by
  rw [BitVec.toNat_ofInt]
  omega
 rw [BitVec.toNat_and,e,show (BitVec.ofInt 64 1).toNat=1 from rfl,Nat.and_one_is_mod]
 unfold Mod.u64
 omega
section
variable {K:kQ} {h:A2} {M T b o N:Nat} {tv:Value} {fo:Option (Nat × Nat)} {x:A9} {R:Hp}
theorem El (H:A7 h (A1 M T tv (some (b,o)) x R)) {pc fn:Int} {a:Option Addr} {l c:Nat} {rs:List Int} (A:Z9 R a l c rs) (hl:l<=10) (hd:x.t.fr.length < 1073741823)
  (k:∀h' b' o',¬ (b' = b/\o' = o)->Fx h' (some (b,o)) (x.pc pc).f->A7 h' (A1 M T tv (some (b',o')) (x.call pc fn rs) R)->K tQ h') :
  A5 Tryz.prog 186 #[rV M T b o,iQ pc,iQ fn,lQ a l c] h K:=by
 refine call186 ?_
 unfold F186 g186 cf lP nP
 have H1:=A1.new H (oQ #[mP M,mP T,fP b o] 202);generalize h.push (oQ #[mP M,mP T,fP b o] 202)=h1 at *;generalize h.size=N at *
 try simp only [B4,F2,Nat.reduceAdd,Int.reduceLE,Int.reduceLT,Int.reduceToNat,A1.l H1]
 refine A1.stP H1 λh2 H2=>?_
 try simp only [B4,F2,Nat.reduceAdd,Int.reduceLE,Int.reduceLT,Int.reduceToNat,A1.l H2]
 refine A0 (Ru H2 A.skip hl (by show (x.t.fr.dropLast ++ [_]).length < _;simp;omega) λh3 b' o' h1 h2 H3=>k h3 b' o' (λe=>h1 b o rfl e) h2 (A1.drp H3))
theorem Fk (H:A7 h (A1 M T tv (some (b,o)) x R)) {pc fn:Int} {l:Nat} (rs:List Int) {ty:TypeId} (hr:rs.length=l) (hu:∀v ∈ rs,U v) (hl:Nat.ble l 10=true) (hd:x.t.fr.length < 1073741823)
  (k:∀h' b' o',¬ (b' = b/\o' = o)->Fx h' (some (b,o)) (x.pc pc).f->A7 h' (A1 M T tv (some (b',o')) (x.call pc fn rs) R)->K tQ h') :
  A5 Tryz.prog 186 #[rV M T b o,iQ pc,iQ fn,lQ (some (aQ h.size)) l l] (h.push (oQ (U8 rs).toArray ty)) K:=
 El (A1.new H (oQ (U8 rs).toArray ty)) (Z9.mk' hr hu) (Nat.le_of_ble_eq_true hl) hd λh' b' o' h1 h2 H'=>k h' b' o' h1 h2 (A1.drp H')
theorem AN (H:A7 h (A1 M T tv fo x R)) {n f:Int} (hf:iN f) (k:∀h',G4 h.size h h'->K (iQ (x.na n f)) h') :
  A5 Tryz.prog 270 #[rV M T b o,uQ n,iQ f] h K:=by
 refine call270 ?_
 unfold F270 g270 cf lP N0
 have oo:G4 h.size h (h.push (oQ #[mP M,mP T,fP b o] 202)):=(G4.refl _ _).push _ (Nat.le_refl _)
 have s1:=oo.1
 have H1:=A1.new H (oQ #[mP M,mP T,fP b o] 202);generalize h.push (oQ #[mP M,mP T,fP b o] 202)=h1 at *;generalize h.size=N at *
 try simp only [B4,F2,Nat.reduceAdd,Int.reduceLE,Int.reduceLT,Int.reduceToNat,A1.l H1]
 refine A0 (AX H1 λh2 o2=>AZ ?_)
 refine A0 (N5 (A1.pl H) (S5 _) hf λh3 o3=>?_)
 refine sb ?_
 exact k h3 (oo.trans ((o2.trans (o3.mono o2.1)).mono s1))
theorem I9 (H:A7 h (A1 M T tv fo x R)) {n r:Int} (k:∀h',G4 h.size h h'->K (iQ (x.nlink n r)) h') :
  A5 Tryz.prog 182 #[rV M T b o,uQ n,uQ r] h K:=by
 refine call182 ?_
 unfold F182 g182 cf L1
 have oo:G4 h.size h (h.push (oQ #[mP M,mP T,fP b o] 202)):=(G4.refl _ _).push _ (Nat.le_refl _)
 have s1:=oo.1
 have H1:=A1.new H (oQ #[mP M,mP T,fP b o] 202);generalize h.push (oQ #[mP M,mP T,fP b o] 202)=h1 at *;generalize h.size=N at *
 try simp only [B4,F2,Nat.reduceAdd,Int.reduceLE,Int.reduceLT,Int.reduceToNat,A1.l H1]
 refine A0 (AN H1 (S5 _) λh2 o2=>?_)
 refine sb ?_
 have e:x.na n (F5 (5+F5 r))=x.nlink n r:=RV (A1.pl H) (S5 _)
 rw [e]
 exact k h2 (oo.trans (o2.mono s1))
theorem AO (H:A7 h (A1 M T tv fo x R)) {a w t:Int} {mk:Bool} (ha:iN a) (hw:U w) (hs:x.m.mm.st < 1099511627776) (k:∀h',A7 h' (A1 M T tv fo (x.swingM a w t mk).2 R)->K (dQ (x.swingM a w t mk).1) h') :
  A5 Tryz.prog 187 #[rV M T b o,iQ a,uQ w,uQ t,dQ mk] h K:=by
 refine call187 ?_
 unfold F187 g187 cf ce
 have H1:=A1.new H (oQ #[mP M,mP T,fP b o] 202);generalize h.push (oQ #[mP M,mP T,fP b o] 202)=h1 at *;generalize h.size=N at *
 try simp only [B4,F2,Nat.reduceAdd,Int.reduceLE,Int.reduceLT,Int.reduceToNat,A1.l H1]
 refine A0 (T7 hw ?_)
 try simp only [B4,F2,Nat.reduceAdd,Int.reduceLE,Int.reduceLT,Int.reduceToNat,A1.l H1]
 refine A0 (Rt H1 ha AL hs λh3 H3=>?_)
 refine sb ?_
 exact k h3 (A1.drp H3)
theorem Ly (H:A7 h (A1 M T tv (some (b,o)) x R)) {k7 k8 k9:Int} (h7:U k7) (h8:U k8) (h9:U k9) (hd:x.t.fr.length < 1073741823)
  (k:∀h' b' o',A7 h' (A1 M T tv (some (b',o')) (x.fin k7 k8 k9) R)->K tQ h') :
  A5 Tryz.prog 271 #[rV M T b o,uQ k7,uQ k8,uQ k9] h K:=by
 refine call271 ?_
 unfold F271 g271 cf ce bd lP nP L1
 have H1:=A1.new H (oQ #[mP M,mP T,fP b o] 202);generalize h.push (oQ #[mP M,mP T,fP b o] 202)=h1 at *;generalize h.size=N at *
 try simp only [B4,F2,Nat.reduceAdd,Int.reduceLE,Int.reduceLT,Int.reduceToNat,A1.l H1]
 refine A1.stR (i:=7) H1 rfl h7 λh2 H2=>?_
 try simp only [B4,F2,Nat.reduceAdd,Int.reduceLE,Int.reduceLT,Int.reduceToNat,A1.l H2]
 refine A1.stR (i:=8) H2 rfl h8 λh3 H3=>?_
 try simp only [B4,F2,Nat.reduceAdd,Int.reduceLE,Int.reduceLT,Int.reduceToNat,A1.l H3]
 refine A1.stR (i:=9) H3 rfl h9 λh4 H4=>?_
 try simp only [B4,F2,Nat.reduceAdd,Int.reduceLE,Int.reduceLT,Int.reduceToNat,A1.l H4]
 refine A0 (El H4 Z9.none (by omega) ?_ λh5 b' o' h1 h2 H5=>k h5 b' o' (A1.drp H5))
 have e:=List.length_pos_iff.2 (Ik (A1.thr H))
 show ((((x.t.fr.dropLast ++ [_]).dropLast ++ [_]).dropLast) ++ [_]).length < _
 simp
 omega
theorem CE (H:A7 h (A1 M T tv (some (b,o)) x R)) {kd:Int} (h7:U kd) (hd:x.t.fr.length < 1073741823)
  (k:∀h' b' o',A7 h' (A1 M T tv (some (b',o')) (x.fin kd 0 0) R)->K tQ h') :
  A5 Tryz.prog 185 #[rV M T b o,uQ kd] h K:=by
 refine call185 ?_
 unfold F185 g185 cf L1
 have H1:=A1.new H (oQ #[mP M,mP T,fP b o] 202);generalize h.push (oQ #[mP M,mP T,fP b o] 202)=h1 at *;generalize h.size=N at *
 try simp only [B4,F2,Nat.reduceAdd,Int.reduceLE,Int.reduceLT,Int.reduceToNat,A1.l H1]
 exact A0 (Ly H1 h7 U0 U0 hd λh5 b' o' H5=>k h5 b' o' (A1.drp H5))
theorem Ip (H:A7 h (A1 M T tv fo x R)) (O:Ok x) {sl n:Int} (hs:U sl) (hn:U n) (k:∀h',A7 h' (A1 M T tv fo (x.guard sl n) R)->K tQ h') :
  A5 Tryz.prog 190 #[rV M T b o,uQ sl,uQ n] h K:=by
 refine call190 ?_
 unfold F190 g190 cf lP nP Sn9 N0 Bs ce
 have P:=A1.pl H
 have P1:=P.sl
 have H1:=A1.new H (oQ #[mP M,mP T,fP b o] 202);generalize h.push (oQ #[mP M,mP T,fP b o] 202)=h1 at *;generalize h.size=N at *
 try simp only [B4,F2,Nat.reduceAdd,Int.reduceLE,Int.reduceLT,Int.reduceToNat,A1.l H1]
 refine A0 (AX H1 λh2 o2=>AZ ?_)
 have H2:=A1.old H1 o2
 have H3:=A1.new H2 (oQ Ae 117)
 generalize h2.push (oQ Ae 117)=h3 at *
 generalize h2.size=N2 at *
 refine Mn (F6 (vs:=Di x.m.p) (A1.loc H3) rfl (by simp [J3]) λh4 w=>?_)
 have H4:=A1.wr H3 w.new w.old
 clear H3 w
 try simp only [B4,F2,Nat.reduceAdd,Int.reduceLE,Int.reduceLT,Int.reduceToNat,A1.l2 H4]
 refine Gb (A1.loc H4) ?_
 try simp only [B4,F2,Nat.reduceAdd,Int.reduceLE,Int.reduceLT,Int.reduceToNat,A1.l2 H4,A1.tc H4]
 refine Gb (A1.loc H4) ?_
 refine A0 (AM λh5 o5=>?_)
 have H5:=A1.old H4 o5
 try simp only [B4,F2,Nat.reduceAdd,Int.reduceLE,Int.reduceLT,Int.reduceToNat,A1.l2 H5,A1.tc H5]
 refine VA (A1.loc H5) ?_
 have es:F5 (F5 (x.m.p.slots - 1) - F5 (Mod.u64 ((((BitVec.ofInt 64 sl) &&& (BitVec.ofInt 64 1)).toNat:Nat):Int)))=x.m.p.slots - 1 - sl % 2:=by
  rw [and1 hs]
  unfold F5
  omega
 try rw [es]
 refine A0 (Bt P O.id ⟨by omega,by omega⟩ λh6 o6=>?_)
 have H6:=A1.old H5 o6
 try simp only [B4,F2,Nat.reduceAdd,Int.reduceLE,Int.reduceLT,Int.reduceToNat,A1.l2 H6]
 exact A0 (T8 H6 (Ga P _ _) hn O.st λh7 H7=>k h7 (A1.drp (A1.drp H7)))
theorem V5 {w:Int} (hw:U w) (k:K (uQ (J2 w)) h):A5 Tryz.prog 183 #[uQ w] h K:=by
 refine call183 ?_
 unfold F183 cf
 refine A0 (M7 hw ?_)
 refine sb ?_
 exact k
theorem Bz {w:Int} (hw:U w) (k:K (dQ (Y9 w)) h):A5 Tryz.prog 184 #[uQ w] h K:=by
 refine call184 ?_
 unfold F184 cf
 refine A0 (V3 hw ?_)
 refine sb ?_
 exact k
end
end
section
open Mod
section
variable {K:kQ} {h:A2} {M T b o N:Nat} {tv:Value} {fo:Option (Nat × Nat)} {x:A9} {R:Hp}
theorem Pn {u v w:Int} (h1:U u) (h2:U v) (h3:U w):∀y ∈ [u,v,w],U y:=by
 intro y hy
 simp only [List.mem_cons,List.not_mem_nil,or_false] at hy
 rcases hy with rfl | rfl | rfl
 ·exact h1
 ·exact h2
 ·exact h3
theorem Sd (H:A7 h (A1 M T tv (some (b,o)) x R)) (O:Ok x) (k:∀h',A7 h' (A1 M T tv none (DW x) R)->K tQ h') :
  A5 Tryz.prog 108 #[rV M T b o] h K:=by
 refine call108 ?_
 unfold F108 g108 cf lP lI nP L1
 have hp:=O.pc
 unfold DW at k
 have H1:=A1.new H (oQ #[mP M,mP T,fP b o] 193);generalize h.push (oQ #[mP M,mP T,fP b o] 193)=h1 at *;generalize h.size=N at *
 refine ss H1 ?_
 refine A4 (λc=>?_) (λc=>?_)
 ·rw [if_pos c] at k
  exact A0 (RQ H1 O c λh2 H2=>k h2 (A1.drp H2))
 rw [if_neg c] at k
 refine A4 (λc=>?_) (λc=>?_)
 ·rw [if_pos c] at k
  exact A0 (RR H1 O (by omega) λh2 H2=>k h2 (A1.drp H2))
 rw [if_neg c] at k
 refine A4 (λc=>?_) (λc=>?_)
 ·rw [if_pos c] at k
  exact A0 (RS H1 O (by omega) λh2 H2=>k h2 (A1.drp H2))
 rw [if_neg c] at k
 exact A0 (VI H1 O λh2 H2=>k h2 (A1.drp H2))
theorem Se (H:A7 h (A1 M T tv (some (b,o)) x R)) (O:Ok x) (k:∀h',A7 h' (A1 M T tv none (CS x) R)->K tQ h') :
  A5 Tryz.prog 156 #[rV M T b o] h K:=by
 refine call156 ?_
 unfold F156 g156 cf ce bd lP lI nP G3
 have B:=A1.fB H
 have P:=A1.pl H
 have hd:=O.fr
 have r0:=A1.ret H 0
 unfold CS at k
 dsimp only at k
 have H1:=A1.new H (oQ #[mP M,mP T,fP b o] 194);generalize h.push (oQ #[mP M,mP T,fP b o] 194)=h1 at *;generalize h.size=N at *
 refine ss H1 ?_
 refine A0 (V4 0 rfl H1 λh2 H2=>?_)
 refine ss H2 ?_
 refine A4 (λc=>?_) (λc=>?_)
 ·rw [if_pos c] at k
  refine A0 (Dx H2 λh3 H3=>?_)
  refine ss H3 ?_
  exact A0 (Cr H3 [0,u64 (x.at 1)] rfl (JF U0 (R7 _)) rfl (by omega) λh4 b' o' _ _ H4=>k h4 (A1.drp (A1.none H4)))
 rw [if_neg c] at k
 refine A4 (λc=>?_) (λc=>?_)
 ·rw [if_pos c] at k
  refine A1.stR (i:=0) H2 rfl r0 λh3 H3=>A1.stP H3 λh4 H4=>?_
  have l1:=An x 0 (x.ret 0)
  have l2:=Ex (x.s 0 (x.ret 0)) 2
  refine ss H4 ?_
  refine A0 (V4 0 rfl H4 λh5 H5=>?_)
  try simp +decide only [B4,F2,Nat.reduceAdd,Int.reduceLE,Int.reduceLT,Int.reduceToNat,J0,G5,B0,A1.al H5,B.len]
  refine A0 (V3 r0 ?_)
  refine ss H5 ?_
  refine C7 (λc2=>?_) (λc2=>?_)
  ·rw [if_pos c2] at k
   exact A0 (Cr H5 [1] rfl (W5 (U.lit rfl)) rfl (by omega) λh6 b' o' _ _ H6=>k h6 (A1.drp (A1.none H6)))
  ·rw [if_neg (by rw [c2];simp)] at k
   refine A0 (V4 0 rfl H5 λh6 H6=>?_)
   try simp +decide only [B4,F2,Nat.reduceAdd,Int.reduceLE,Int.reduceLT,Int.reduceToNat,J0,G5,B0,A1.al H6,B.len]
   refine A0 (M7 r0 ?_)
   refine ss H6 ?_
   refine A4 (λc3=>?_) (λc3=>?_)
   ·rw [if_pos c3] at k
    exact A0 (Dj H6 (U.lit rfl) U0 U0 (by omega) λh7 b' o' _ _ H7=>k h7 (A1.drp (A1.none H7)))
   ·rw [if_neg c3] at k
    exact k h6 (A1.drp (A1.none H6))
 rw [if_neg c] at k
 refine A4 (λc=>?_) (λc=>?_)
 ·rw [if_pos c] at k
  refine A0 (Ff H2 (B.g 0) (by decide) λh3 H3=>?_)
  refine ss H3 ?_
  refine A0 (M0 H3 (E8 P _ _) O.st λh4 H4 u4=>?_)
  refine ss H4 ?_
  exact A1.stR (i:=1) H4 rfl u4 λh5 H5=>A1.stP H5 λh6 H6=>k h6 (A1.drp (A1.none H6))
 rw [if_neg c] at k
 refine A4 (λc=>?_) (λc=>?_)
 ·rw [if_pos c] at k
  refine A0 (Ff H2 (B.g 0) (by decide) λh3 H3=>?_)
  refine ss H3 ?_
  refine A0 (M0 H3 (E8 P _ _) O.st λh4 H4 u4=>?_)
  refine ss H4 ?_
  refine A1.stR (i:=2) H4 rfl u4 λh5 H5=>A1.stP H5 λh6 H6=>?_
  have l1:=An (x.load (x.nodeW (x.f.g 0) 1)).2 2 (x.load (x.nodeW (x.f.g 0) 1)).1
  have l2:=Ex ((x.load (x.nodeW (x.f.g 0) 1)).2.s 2 (x.load (x.nodeW (x.f.g 0) 1)).1) 4
  rw [t_load] at l1
  try simp +decide only [B4,F2,Nat.reduceAdd,Int.reduceLE,Int.reduceLT,Int.reduceToNat,J0,G5,B0,A1.al H6,B.len]
  refine A4 (λc2=>?_) (λc2=>?_)
  ·rw [if_pos c2] at k
   exact A0 (Dj H6 (U.lit rfl) (B.g 1) u4 (by omega) λh7 b' o' _ _ H7=>k h7 (A1.drp (A1.none H7)))
  ·rw [if_neg c2] at k
   exact k h6 (A1.drp (A1.none H6))
 rw [if_neg c] at k
 exact k h2 (A1.drp (A1.none H2))
theorem Sf (H:A7 h (A1 M T tv (some (b,o)) x R)) (O:Ok x) (k:∀h',A7 h' (A1 M T tv none (CT x) R)->K tQ h') :
  A5 Tryz.prog 109 #[rV M T b o] h K:=by
 refine call109 ?_
 unfold F109 g109 cf ce bd lP lI nP G3 L1
 have B:=A1.fB H
 have P:=A1.pl H
 have hd:=O.fr
 unfold CT at k
 dsimp only at k
 have H1:=A1.new H (oQ #[mP M,mP T,fP b o] 194);generalize h.push (oQ #[mP M,mP T,fP b o] 194)=h1 at *;generalize h.size=N at *
 refine ss H1 ?_
 refine A0 (V4 0 rfl H1 λh2 H2=>?_)
 refine ss H2 ?_
 refine A4 (λc=>?_) (λc=>?_)
 ·rw [if_pos c] at k
  refine A0 (Ff H2 (B.g 0) (by decide) λh3 H3=>?_)
  refine ss H3 ?_
  refine A0 (M0 H3 (E8 P _ _) O.st λh4 H4 u4=>?_)
  refine ss H4 ?_
  exact A1.stR (i:=3) H4 rfl u4 λh5 H5=>A1.stP H5 λh6 H6=>k h6 (A1.drp (A1.none H6))
 rw [if_neg c] at k
 refine A4 (λc=>?_) (λc=>?_)
 ·rw [if_pos c] at k
  refine A1.stP H2 λh3 H3=>?_
  have l1:=Ex x 0
  refine ss H3 ?_
  refine A0 (Gf H3 (B.g 0) O.st λh4 H4=>?_)
  refine ss H4 ?_
  refine C7 (λc2=>?_) (λc2=>?_)
  ·rw [if_pos c2] at k
   exact A0 (Cr H4 [1] rfl (W5 (U.lit rfl)) rfl (show (x.pc 0).t.fr.length < _ by omega) λh6 b' o' _ _ H6=>k h6 (A1.drp (A1.none H6)))
  ·rw [if_neg (by rw [c2];simp)] at k
   exact k h4 (A1.drp (A1.none H4))
 rw [if_neg c] at k
 refine A4 (λc=>?_) (λc=>?_)
 ·rw [if_pos c] at k
  refine A0 (M7 (B.g 0) ?_)
  refine ss H2 ?_
  exact A0 (Cr H2 [J2 (x.f.g 0)] rfl (W5 (T9 _)) rfl (by omega) λh6 b' o' _ _ H6=>k h6 (by rw [Lq];exact A1.drp (A1.none H6)))
 rw [if_neg c] at k
 refine A4 (λc=>?_) (λc=>?_)
 ·rw [if_pos c] at k
  exact A0 (Dj H2 (U.lit rfl) (B.g 1) (B.g 2) (by omega) λh7 b' o' _ _ H7=>k h7 (A1.drp (A1.none H7)))
 rw [if_neg c] at k
 exact A0 (Se H2 O λh3 H3=>k h3 (A1.drp H3))
theorem JN (H:A7 h (A1 M T tv (some (b,o)) x R)) (O:Ok x) (k:∀h',A7 h' (A1 M T tv none (Dq x) R)->K tQ h') :
  A5 Tryz.prog 159 #[rV M T b o] h K:=by
 refine call159 ?_
 unfold F159 g159 cf ce bd lP nP G3
 have B:=A1.fB H
 have P:=A1.pl H
 unfold Dq at k
 dsimp only at k
 have H1:=A1.new H (oQ #[mP M,mP T,fP b o] 195);generalize h.push (oQ #[mP M,mP T,fP b o] 195)=h1 at *;generalize h.size=N at *
 refine ss H1 ?_
 refine A0 (V4 1 rfl H1 λh2 H2=>?_)
 refine ss H2 ?_
 refine A1.stP H2 λh3 H3=>?_
 refine ss H3 ?_
 refine A0 (M7 (B.g 1) ?_)
 refine ss H3 ?_
 refine A0 (Gf H3 (B.g 1) O.st λh4 H4=>?_)
 refine ss H4 ?_
 refine C7 (λc2=>?_) (λc2=>?_)
 ·rw [if_pos c2] at k
  try simp +decide only [B4,F2,Nat.reduceAdd,Int.reduceLE,Int.reduceLT,Int.reduceToNat,J0,G5,B0,A1.al H4]
  exact A0 (Mx H4 Z9.none (by omega) λh5 H5=>k h5 (A1.drp H5))
 ·rw [if_neg (by rw [c2];simp)] at k
  exact k h4 (A1.drp (A1.none H4))
theorem Sg (H:A7 h (A1 M T tv (some (b,o)) x R)) (O:Ok x) (k:∀h',A7 h' (A1 M T tv none (DY x) R)->K tQ h') :
  A5 Tryz.prog 160 #[rV M T b o] h K:=by
 refine call160 ?_
 unfold F160 g160 cf bd lP lI nP G3 L1
 have B:=A1.fB H
 have P:=A1.pl H
 have hd:=O.fr
 have r0:=A1.ret H 0
 have r1:=A1.ret H 1
 unfold DY at k
 dsimp only at k
 have H1:=A1.new H (oQ #[mP M,mP T,fP b o] 195);generalize h.push (oQ #[mP M,mP T,fP b o] 195)=h1 at *;generalize h.size=N at *
 refine ss H1 ?_
 refine A4 (λc=>?_) (λc=>?_)
 ·rw [if_pos c] at k
  exact A0 (Cr H1 [x.f.g 0] rfl (W5 (B.g 0)) rfl (by omega) λh4 b' o' _ _ H4=>k h4 (A1.drp (A1.none H4)))
 rw [if_neg c] at k
 refine A4 (λc=>?_) (λc=>?_)
 ·rw [if_pos c] at k
  refine A1.stR (i:=1) H1 rfl r0 λh2 H2=>?_
  try simp +decide only [B4,F2,Nat.reduceAdd,Int.reduceLE,Int.reduceLT,Int.reduceToNat,J0,G5,B0,A1.al H2]
  refine A1.stR (i:=2) H2 rfl r1 λh3 H3=>A1.stP H3 λh4 H4=>?_
  refine ss H4 ?_
  refine A0 (V4 1 rfl H4 λh5 H5=>?_)
  try simp +decide only [B4,F2,Nat.reduceAdd,Int.reduceLE,Int.reduceLT,Int.reduceToNat,J0,G5,B0,A1.al H5,B.len]
  refine A0 (V3 r0 ?_)
  refine ss H5 ?_
  refine C7 (λc2=>?_) (λc2=>?_)
  ·rw [if_neg (by simpa using c2)] at k
   exact A0 (Mx H5 Z9.none (by omega) λh6 H6=>k h6 (A1.drp H6))
  ·rw [if_pos (by simpa using c2)] at k
   exact k h5 (A1.drp (A1.none H5))
 rw [if_neg c] at k
 refine A4 (λc=>?_) (λc=>?_)
 ·rw [if_pos c] at k
  refine A1.stP H1 λh2 H2=>?_
  refine ss H2 ?_
  refine A0 (M0 H2 (by decide) O.st λh3 H3 u3=>?_)
  refine ss H3 ?_
  refine A0 (RN (S5 _) ?_)
  refine ss H3 ?_
  refine C7 (λc2=>?_) (λc2=>?_)
  ·rw [if_pos c2] at k
   exact A1.stP H3 λh4 H4=>k h4 (A1.drp (A1.none H4))
  ·rw [if_neg (by rw [c2];simp)] at k
   exact k h3 (A1.drp (A1.none H3))
 rw [if_neg c] at k
 refine A4 (λc=>?_) (λc=>?_)
 ·rw [if_pos c] at k
  exact A0 (JN H1 O λh2 H2=>k h2 (A1.drp H2))
 rw [if_neg c] at k
 exact k h1 (A1.drp (A1.none H1))
theorem SR8:AH Tryz.prog 184=.pointer 190:=by kernel_rfl
theorem ZS {P:Program} (d:Nat) {t el:TypeId} {a b:Addr} (hu:P.underlying t=some (.pointer el)) (hth:J7 P el=true) (hsz:L7 P el≠0) (F:Bool->A2->Prop) (h:A2) (H:hp P (sameAddr a b) F h):hp P (Op.equalIn (d+1) t (.pointer (some a)) (.pointer (some b))) F h:=by
 simp only [Op.equalIn,A8,C0 hu,I8 hth]
 rw [if_pos hsz]
 exact H
theorem SH3 {h:A2} {p q:Nat} {K:kQ} (k:K (dQ true) h):Qb Tryz.prog .eql 184 (some ⟨p,q,none⟩) (some ⟨p,q,none⟩) h K:=by
 unfold Qb
 rw [U3 (by simp) (by simp) (by simp) (by simp),O8]
 refine ZS 9999 (D9 SR8 (by simp)) Rs (by rw [IX];omega) _ _ ?_
 unfold sameAddr
 simp only [beq_self_eq_true,if_true]
 exact k
theorem Iq (H:A7 h (A1 M T tv (some (b,o)) x R)) (O:Ok x) {at_:Nat} {next place:Int} (ha:at_<=8) (hp:U place)
  (k1:Y9 (x.ret 0)=true->∀h',A3 h' ⟨b,o+1,none⟩=some (iQ 0)->A7 h' (A1 M T tv none (Z0 x at_ next place) R)->K tQ h')
  (k0:Y9 (x.ret 0)=false->∀h',A7 h' (A1 M T tv (some (b,o)) (Z0 x at_ next place) R)->K tQ h') :
  A5 Tryz.prog 157 #[rV M T b o,iQ (at_:Int),iQ next,uQ place] h K:=by
 refine call157 ?_
 unfold F157 g157 cf bd lP lI nP G3
 have B:=A1.fB H
 have hd:=O.fr
 have r0:=A1.ret H 0
 have r1:=A1.ret H 1
 unfold Z0 at k1 k0
 dsimp only at k1 k0
 have e1:F5 ((at_:Int)+1)=((at_+1:Nat):Int):=by unfold F5;omega
 have H1:=A1.new H (oQ #[mP M,mP T,fP b o] 195);generalize h.push (oQ #[mP M,mP T,fP b o] 195)=h1 at *;generalize h.size=N at *
 try simp +decide only [B4,F2,Nat.reduceAdd,Int.reduceLE,Int.reduceLT,Int.reduceToNat,J0,G5,B0,A1.al H1,e1]
 refine ⟨by omega,by omega,?_⟩
 rw [show o+(2+at_)=o+(at_+2) by omega]
 refine A1.stR (i:=at_) H1 (by rw [Nat.ble_eq];omega) r0 λh2 H2=>?_
 refine ⟨by omega,by omega,?_⟩
 rw [show o+(2+(at_+1))=o+(at_+1+2) by omega]
 refine A1.stR (i:=at_+1) H2 (by rw [Nat.ble_eq];omega) r1 λh3 H3=>A1.stP H3 λh4 H4=>?_
 refine ss H4 ?_
 have hfl:(((x.s at_ (x.ret 0)).s (at_+1) (x.ret 1)).pc next).t.fr.length<=x.t.fr.length+3:=by
  have l1:=An x at_ (x.ret 0)
  have l2:=An (x.s at_ (x.ret 0)) (at_+1) (x.ret 1)
  have l3:=Ex ((x.s at_ (x.ret 0)).s (at_+1) (x.ret 1)) next
  omega
 refine A0 (V4 at_ (by rw [Nat.ble_eq];omega) H4 λh5 H5=>?_)
 have eg:(((x.s at_ (x.ret 0)).s (at_+1) (x.ret 1)).pc next).f.g at_=x.ret 0:=by
  rw [AY,CM,CM,CN,B0 _ (by omega),G5 B.len (by omega)]
 rw [eg]
 refine ss H5 ?_
 refine A0 (V3 r0 ?_)
 refine ss H5 ?_
 refine C7 (λc=>?_) (λc=>?_)
 ·rw [if_pos c] at k1
  refine A0 (Cr H5 [place] rfl (W5 hp) rfl (by omega) λh6 b' o' _ st H6=>k1 c h6 ?_ (A1.drp (A1.none H6)))
  refine st b o 1 _ rfl ?_
  rw [AY]
  rfl
 ·rw [if_neg (by rw [c];simp)] at k0
  exact k0 c h5 (A1.drp H5)
theorem JO (H:A7 h (A1 M T tv (some (b,o)) x R)) (O:Ok x) {at_:Nat} {place:Int} (ha:at_<=8) (hp:U place) (k:∀h',A7 h' (A1 M T tv none (Ds x at_ place) R)->K tQ h') :
  A5 Tryz.prog 158 #[rV M T b o,iQ (at_:Int),uQ place] h K:=by
 refine call158 ?_
 unfold F158 g158 cf ce bd lP lI nP G3
 have B:=A1.fB H
 have P:=A1.pl H
 unfold Ds at k
 dsimp only at k
 have H1:=A1.new H (oQ #[mP M,mP T,fP b o] 195);generalize h.push (oQ #[mP M,mP T,fP b o] 195)=h1 at *;generalize h.size=N at *
 refine ss H1 ?_
 refine A0 (V4 1 rfl H1 λh2 H2=>?_)
 refine ss H2 ?_
 refine A0 (V4 at_ (by rw [Nat.ble_eq];omega) H2 λh3 H3=>?_)
 refine ss H3 ?_
 refine A1.stP H3 λh4 H4=>?_
 refine ss H4 ?_
 refine A0 (Dx H4 λh5 H5=>?_)
 refine ss H5 ?_
 refine A0 (M7 (B.g at_) ?_)
 refine ss H5 ?_
 refine A0 (T7 (B.g 1) ?_)
 refine ss H5 ?_
 refine A0 (Dx H5 λh6 H6=>?_)
 refine ss H6 ?_
 refine A0 (M7 (B.g 1) ?_)
 refine ss H6 ?_
 refine A0 (T7 (B.g at_) ?_)
 refine ss H6 ?_
 refine A0 (SV9 H6 (RP P _) (RP P _) AL AL O.st λh7 H7=>?_)
 refine ss H7 ?_
 refine C7 (λc=>?_) (λc=>?_)
 ·rw [if_pos c] at k
  exact A1.stR (i:=0) H7 rfl hp λh8 H8=>k h8 (A1.drp (A1.none H8))
 ·rw [if_neg (by rw [c];simp)] at k
  exact k h7 (A1.drp (A1.none H7))
theorem Sh (H:A7 h (A1 M T tv (some (b,o)) x R)) (O:Ok x) (k:∀h',A7 h' (A1 M T tv none (DZ x) R)->K tQ h') :
  A5 Tryz.prog 110 #[rV M T b o] h K:=by
 refine call110 ?_
 unfold F110 g110 cf bd lP lI nP G3 L1
 have B:=A1.fB H
 have P:=A1.pl H
 have hd:=O.fr
 unfold DZ at k
 dsimp only at k
 have hl:U (u64 (2*x.f.g 0)):=R7 _
 have H1:=A1.new H (oQ #[mP M,mP T,fP b o] 195);generalize h.push (oQ #[mP M,mP T,fP b o] 195)=h1 at *;generalize h.size=N at *
 refine ss H1 ?_
 generalize hle:u64 (2*x.f.g 0)=left at *
 refine A4 (λc=>?_) (λc=>?_)
 ·rw [if_pos c] at k
  exact A0 (Cr H1 [left] rfl (W5 hl) rfl (by omega) λh4 b' o' _ _ H4=>k h4 (A1.drp (A1.none H4)))
 rw [if_neg c] at k
 refine A4 (λc=>?_) (λc=>?_)
 ·rw [if_pos c] at k
  refine A0 (Iq (at_:=3) H1 O (by omega) hl (λcm h2 e2 H2=>?_) λcm h2 H2=>?_)
  ·rw [if_pos cm] at k
   refine ⟨λvs h'=>vs = [dQ false]/\h' = h2,?_,?_⟩
   ·refine D3 e2 ?_
    refine sb ?_
    rw [show ((0:Int) == 6)=false from rfl]
    try simp only [B4,F2,Nat.reduceAdd,Int.reduceLE,Int.reduceLT,Int.reduceToNat]
   rintro v30 g31 h32 ⟨e,rfl⟩
   cases e
   refine sb ?_
   exact k h32 (A1.drp H2)
  ·rw [if_neg (by rw [cm];simp)] at k
   have epc:(Z0 x 3 6 left).f.pc=6:=by
    unfold Z0
    dsimp only
    rw [if_neg (by rw [cm];simp)]
    try simp +decide only [B4,F2,Nat.reduceAdd,Int.reduceLE,Int.reduceLT,Int.reduceToNat,J0,G5,B0,B.len]
   have efl:(Z0 x 3 6 left).t.fr.length<=x.t.fr.length+3:=by
    unfold Z0
    dsimp only
    rw [if_neg (by rw [cm];simp)]
    have l1:=An x 3 (x.ret 0)
    have l2:=An (x.s 3 (x.ret 0)) (3+1) (x.ret 1)
    have l3:=Ex ((x.s 3 (x.ret 0)).s (3+1) (x.ret 1)) 6
    omega
   refine ⟨λvs h'=>vs = [dQ true]/\h' = h2,?_,?_⟩
   ·try simp +decide only [B4,F2,Nat.reduceAdd,Int.reduceLE,Int.reduceLT,Int.reduceToNat,J0,G5,B0,A1.al H2,epc]
    rw [show ((6:Int) == 6)=true from rfl]
    refine sb ?_
    refine A0 (OU H2 (λhn=>absurd hn (List.length_pos_iff.1 (SW4 H2))) λb2 o2 _ hbo _=>?_)
    obtain ⟨rfl,rfl⟩:=hbo b o rfl
    refine sb ?_
    exact SH3 (by simp only [B6];trivial)
   rintro v30 g31 h32 ⟨e,rfl⟩
   cases e
   refine ss H2 ?_
   exact A0 (Cr H2 [u64 (left+1)] rfl (W5 (R7 _)) rfl (by omega) λh4 b' o' _ _ H4=>k h4 (A1.drp (A1.none H4)))
 rw [if_neg c] at k
 refine A4 (λc=>?_) (λc=>?_)
 ·rw [if_pos c] at k
  exact A0 (Iq (at_:=5) H1 O (by omega) (R7 _) (λcm h2 e2 H2=>k h2 (A1.drp H2)) λcm h2 H2=>k h2 (A1.drp (A1.none H2)))
 rw [if_neg c] at k
 refine A4 (λc=>?_) (λc=>?_)
 ·rw [if_pos c] at k
  refine ⟨λvs h'=>(∃w,vs = [dQ (decide (x.f.g 4<=x.f.g 6/\x.f.g 4 < x.f.g 2)),w])/\h' = h1,?_,?_⟩
  ·refine A4 (λc2=>?_) (λc2=>?_)
   ·rw [show decide (x.f.g 4 < x.f.g 2)=decide (x.f.g 4<=x.f.g 6/\x.f.g 4 < x.f.g 2) by rw [decide_eq_decide];omega]
    exact ⟨⟨_,rfl⟩,by trivial⟩
   ·rw [decide_eq_false (p:=x.f.g 4<=x.f.g 6/\x.f.g 4 < x.f.g 2) (by omega)]
    exact ⟨⟨_,rfl⟩,by trivial⟩
  rintro v57 v58 g59 h60 ⟨⟨w,e⟩,rfl⟩
  cases e
  refine sb ?_
  refine A4 (λc2=>?_) (λc2=>?_)
  ·rw [if_pos c2] at k
   refine ss H1 ?_
   exact A0 (JO (at_:=3) H1 O (by omega) hl λh2 H2=>k h2 (A1.drp H2))
  rw [if_neg c2] at k
  refine ⟨λvs h'=>(∃w,vs = [dQ (decide (x.f.g 6 < x.f.g 4/\x.f.g 6 < x.f.g 2)),w])/\h' = h60,?_,?_⟩
  ·refine ss H1 ?_
   refine A4 (λc2=>?_) (λc2=>?_)
   ·rw [show decide (x.f.g 6 < x.f.g 2)=decide (x.f.g 6 < x.f.g 4/\x.f.g 6 < x.f.g 2) by rw [decide_eq_decide];omega]
    exact ⟨_,rfl⟩
   ·rw [decide_eq_false (p:=x.f.g 6 < x.f.g 4/\x.f.g 6 < x.f.g 2) (by omega)]
    exact ⟨_,rfl⟩
  rintro v57 v58 g59 h60 ⟨⟨w,e⟩,rfl⟩
  cases e
  refine ss H1 ?_
  refine A4 (λc3=>?_) (λc3=>?_)
  ·rw [if_pos c3] at k
   exact A0 (JO (at_:=5) H1 O (by omega) (R7 _) λh2 H2=>k h2 (A1.drp H2))
  ·rw [if_neg c3] at k
   exact A0 (JN H1 O λh2 H2=>k h2 (A1.drp H2))
 rw [if_neg c] at k
 exact A0 (Sg H1 O λh2 H2=>k h2 (A1.drp H2))
theorem Po (H:A7 h (A1 M T tv fo x R)) (O:Ok x) (k:∀h',A7 h' (A1 M T tv none (N7 x) R)->K tQ h') :
  A5 Tryz.prog 63 #[mP M,mP T] h K:=by
 refine call63 ?_
 unfold F63 cf bd lI nP L1
 unfold N7 at k
 dsimp only at k
 refine A0 (OU H (λe=>?_) λb o hne _ H1=>?_)
 ·rw [if_pos e] at k
  refine sb ?_
  refine ⟨λvs h'=>vs = [dQ true]/\h' = h,⟨rfl,rfl⟩,?_⟩
  rintro v4 g6 h7 ⟨e,rfl⟩
  cases e
  refine sb ?_
  exact k _ (A1.none H)
 ·rw [if_neg hne] at k
  refine sb ?_
  refine ⟨λvs h'=>vs = [dQ false]/\h' = h,⟨rfl,rfl⟩,?_⟩
  rintro v4 g6 h7 ⟨e,rfl⟩
  cases e
  refine sb ?_
  have B:=A1.fB H1
  have H2:=A1.new H1 (oQ #[pQ none,pQ none,pQ none] 187)
  generalize h7.push (oQ #[pQ none,pQ none,pQ none] 187)=h2 at *
  generalize h7.size=N at *
  refine st3 (F6 (vs:=[mP M,mP T,fP b o]) (A1.loc H2) rfl (by simp [J3]) λh3 w=>?_)
  have H3:A7 h3 (A1 M T tv (some (b,o)) x (pt N (oQ #[mP M,mP T,fP b o] 187)*R)):=A1.wr H2 w.new w.old
  clear H2 w
  refine ss H3 ?_
  refine ⟨λvs h'=>(∃w1 w2,vs = [dQ (decide (x.f.pc=90/\11<=x.f.fn/\x.f.fn<=13)),w1,w2])/\h' = h3,?_,?_⟩
  ·refine A4 (λc=>?_) (λc=>?_)
   ·refine A4 (λc2=>?_) (λc2=>?_)
    ·rw [show decide (x.f.fn<=13)=decide (x.f.pc=90/\11<=x.f.fn/\x.f.fn<=13) by rw [decide_eq_decide];omega]
     exact ⟨⟨_,_,rfl⟩,by trivial⟩
    ·rw [decide_eq_false (p:=x.f.pc=90/\11<=x.f.fn/\x.f.fn<=13) (by omega)]
     exact ⟨⟨_,_,rfl⟩,by trivial⟩
   ·rw [decide_eq_false (p:=x.f.pc=90/\11<=x.f.fn/\x.f.fn<=13) (by omega)]
    exact ⟨⟨_,_,rfl⟩,by trivial⟩
  rintro v21 v22 v23 g24 h25 ⟨⟨w1,w2,e⟩,rfl⟩
  cases e
  refine ss H3 ?_
  refine A4 (λc=>?_) (λc=>?_)
  ·rw [if_pos c] at k
   exact A0 (ZO H3 [x.f.g 7,x.f.g 8,x.f.g 9] rfl (Pn (B.g 7) (B.g 8) (B.g 9)) rfl λh4 H4=>k h4 (A1.drp H4))
  rw [if_neg c] at k
  refine A4 (λc=>?_) (λc=>?_)
  ·rw [if_pos c] at k
   exact A0 (VH H3 O.st (by have:=O.fr;omega) λh4 H4=>k h4 (A1.drp H4))
  rw [if_neg c] at k
  refine A4 (λc=>?_) (λc=>?_)
  ·rw [if_pos c] at k
   exact A0 (Sd H3 O λh4 H4=>k h4 (A1.drp H4))
  rw [if_neg c] at k
  refine ⟨λvs h'=>(∃w,vs = [dQ (decide (x.f.fn=12\/x.f.fn=13)),w])/\h' = h25,?_,?_⟩
  ·refine A4 (λc=>?_) (λc=>?_)
   ·rw [decide_eq_true (p:=x.f.fn=12\/x.f.fn=13) (.inl c)]
    exact ⟨⟨_,rfl⟩,by trivial⟩
   ·rw [show (x.f.fn == 13)=decide (x.f.fn=12\/x.f.fn=13) by rw [Bool.eq_iff_iff,beq_iff_eq,decide_eq_true_iff];omega]
    exact ⟨⟨_,rfl⟩,by trivial⟩
  rintro v61 v62 g63 h64 ⟨⟨w,e⟩,rfl⟩
  cases e
  refine ss H3 ?_
  refine A4 (λc=>?_) (λc=>?_)
  ·rw [if_pos c] at k
   exact A0 (Sf H3 O λh4 H4=>k h4 (A1.drp H4))
  rw [if_neg c] at k
  refine A4 (λc=>?_) (λc=>?_)
  ·rw [if_pos c] at k
   exact A0 (Sh H3 O λh4 H4=>k h4 (A1.drp H4))
  rw [if_neg c] at k
  exact A0 (Ey H3 O λh4 H4=>k h4 (A1.drp H4))
end
end
section
open Mod
section
variable {K:kQ} {h:A2} {M T b o N:Nat} {tv:Value} {fo:Option (Nat × Nat)} {x:A9} {R:Hp}
theorem Ym (x:A9) (n r:Int):x.nlink n (Mod.u64 r)=x.nlink n r:=by
 unfold A9.nlink
 have e:F5 (Mod.u64 r)=F5 r:=by unfold F5 Mod.u64;omega
 rw [e]
theorem SM5 (x:A9) (i j:Int):(x.pc i).pc j=x.pc j:=by
 show (x.pc i).setF ((x.pc i).f.at j)=x.setF (x.f.at j)
 rw [AY]
 unfold A9.pc A9.setF Thr.setTop
 simp [M6.at]
theorem JP (H:A7 h (A1 M T tv (some (b,o)) x R)) (hd:x.t.fr.length < 1073741823) (k:∀h',A7 h' (A1 M T tv none (AS x) R)->K tQ h') :
  A5 Tryz.prog 259 #[rV M T b o] h K:=by
 refine call259 ?_
 unfold F259 g259 cf ce bd lP lI nP G3
 have B:=A1.fB H
 unfold AS at k
 have H1:=A1.new H (oQ #[mP M,mP T,fP b o] 200);generalize h.push (oQ #[mP M,mP T,fP b o] 200)=h1 at *;generalize h.size=N at *
 refine ss H1 ?_
 refine A0 (Nl (B.g 2) ?_)
 refine ss H1 ?_
 refine A0 (Zl ?_)
 try simp +decide only [B4,F2,Nat.reduceAdd,Int.reduceLE,Int.reduceLT,Int.reduceToNat,J0,G5,B0,A1.al H1,RY (B.g 2),Sr9]
 exact A0 (Fj H1 (U.lit rfl) (RZ (B.g 2)) (Ss0 _) hd λh5 b' o' H5=>k h5 (A1.drp (A1.none H5)))
theorem Si (H:A7 h (A1 M T tv (some (b,o)) x R)) (O:Ok x) (k:∀h',A7 h' (A1 M T tv none (Az x) R)->K tQ h') :
  A5 Tryz.prog 172 #[rV M T b o] h K:=by
 refine call172 ?_
 unfold F172 g172 q172_1 cf ce bd lP lI nP G3 N0 L1
 have B:=A1.fB H
 have P:=A1.pl H
 have hd:=O.fr
 have r0:=A1.ret H 0
 unfold Az at k
 dsimp only at k
 have H1:=A1.new H (oQ #[mP M,mP T,fP b o] 200);generalize h.push (oQ #[mP M,mP T,fP b o] 200)=h1 at *;generalize h.size=N at *
 refine ss H1 ?_
 refine A4 (λc=>?_) (λc=>?_)
 ·rw [if_pos c] at k
  refine A1.stR (i:=6) H1 rfl U0 λh2 H2=>?_
  refine ss H2 ?_
  refine A0 (AX H2 λh3 o3=>AZ ?_)
  have H3:=A1.old H2 o3
  refine ss H3 ?_
  refine A0 (AM λh4 o4=>?_)
  have H4:=A1.old H3 o4
  refine ss H4 ?_
  refine A0 (S8 H4 λh5 o5=>?_)
  have H5:=A1.old H4 o5
  refine ss H5 ?_
  have l1:=An x 6 0
  exact A0 (Fi H5 [Mod.u64 (x.m.p.slots - 2),Mod.u64 (x.nlink 1 0)] rfl (JF (R7 _) (R7 _)) rfl (by omega) λh6 b' o' _ _ H6=>k h6 (A1.drp (A1.none H6)))
 rw [if_neg c] at k
 refine A4 (λc=>?_) (λc=>?_)
 ·rw [if_pos c] at k
  refine A0 (Hw r0 ?_)
  refine ss H1 ?_
  refine A1.stR (i:=0) H1 rfl r0 λh2 H2=>?_
  try simp +decide only [B4,F2,Nat.reduceAdd,Int.reduceLE,Int.reduceLT,Int.reduceToNat,J0,G5,B0,A1.al H2]
  refine A1.stR (i:=1) H2 rfl (T9 _) λh3 H3=>?_
  try simp +decide only [B4,F2,Nat.reduceAdd,Int.reduceLE,Int.reduceLT,Int.reduceToNat,J0,G5,B0,A1.al H3]
  refine A1.stP H3 λh4 H4=>?_
  try simp +decide only [B4,F2,Nat.reduceAdd,Int.reduceLE,Int.reduceLT,Int.reduceToNat,J0,G5,B0,A1.al H4,B.len]
  refine A4 (λc2=>?_) (λc2=>?_)
  ·rw [if_pos c2] at k
   have l1:=An x 0 (x.ret 0)
   have l2:=An (x.s 0 (x.ret 0)) 1 (J2 (x.ret 0))
   have l3:=Ex ((x.s 0 (x.ret 0)).s 1 (J2 (x.ret 0))) 2
   exact A0 (Fj H4 (U.lit rfl) U0 U0 (by omega) λh5 b' o' H5=>k h5 (A1.drp (A1.none H5)))
  ·rw [if_neg c2] at k
   exact k h4 (A1.drp (A1.none H4))
 rw [if_neg c] at k
 refine A4 (λc=>?_) (λc=>?_)
 ·rw [if_pos c] at k
  refine A0 (W7 H1 (by decide) λh2 o2=>?_)
  have H2:=A1.old H1 o2
  refine ss H2 ?_
  refine A0 (M0 H2 (E8 P _ _) O.st λh3 H3 u3=>?_)
  refine ss H3 ?_
  refine A1.stR (i:=3) H3 rfl u3 λh4 H4=>A1.stP H4 λh5 H5=>?_
  try simp +decide only [B4,F2,Nat.reduceAdd,Int.reduceLE,Int.reduceLT,Int.reduceToNat,J0,G5,B0,A1.al H5,B.len]
  refine A0 (Vl u3 ?_)
  refine ss H5 ?_
  refine C7 (λc2=>?_) (λc2=>?_)
  ·rw [if_pos c2] at k
   exact A1.stP H5 λh6 H6=>k h6 (A1.drp (A1.none H6))
  ·rw [if_neg (by rw [c2];simp)] at k
   exact k h5 (A1.drp (A1.none H5))
 rw [if_neg c] at k
 refine A4 (λc=>?_) (λc=>?_)
 ·rw [if_pos c] at k
  refine A0 (W7 H1 (by decide) λh2 o2=>?_)
  have H2:=A1.old H1 o2
  refine ss H2 ?_
  refine A0 (M0 H2 (E8 P _ _) O.st λh3 H3 u3=>?_)
  refine ss H3 ?_
  refine A1.stR (i:=2) H3 rfl u3 λh4 H4=>A1.stP H4 λh5 H5=>?_
  try simp +decide only [B4,F2,Nat.reduceAdd,Int.reduceLE,Int.reduceLT,Int.reduceToNat,J0,G5,B0,A1.al H5,B.len]
  refine A4 (λc2=>?_) (λc2=>?_)
  ·rw [if_pos c2] at k
   have l1:=An (x.load (x.na (x.f.g 1) 0)).2 2 (x.load (x.na (x.f.g 1) 0)).1
   have l2:=Ex ((x.load (x.na (x.f.g 1) 0)).2.s 2 (x.load (x.na (x.f.g 1) 0)).1) 4
   have l3:(x.load (x.na (x.f.g 1) 0)).2.t.fr=x.t.fr:=rfl
   rw [l3] at l1
   exact A0 (JP H5 (by omega) λh6 H6=>k h6 (A1.drp H6))
  ·rw [if_neg c2] at k
   exact k h5 (A1.drp (A1.none H5))
 rw [if_neg c] at k
 exact k h1 (A1.drp (A1.none H1))
theorem Sj (H:A7 h (A1 M T tv (some (b,o)) x R)) (O:Ok x) (k:∀h',A7 h' (A1 M T tv none (AA x) R)->K tQ h') :
  A5 Tryz.prog 173 #[rV M T b o] h K:=by
 refine call173 ?_
 unfold F173 g173 cf ce bd lP lI nP G3
 have B:=A1.fB H
 have P:=A1.pl H
 unfold AA at k
 dsimp only at k
 have H1:=A1.new H (oQ #[mP M,mP T,fP b o] 200);generalize h.push (oQ #[mP M,mP T,fP b o] 200)=h1 at *;generalize h.size=N at *
 refine ss H1 ?_
 refine A4 (λc=>?_) (λc=>?_)
 ·rw [if_pos c] at k
  refine A1.stP H1 λh2 H2=>?_
  refine ss H2 ?_
  refine A0 (W7 H2 (by decide) λh3 o3=>?_)
  have H3:=A1.old H2 o3
  refine ss H3 ?_
  refine A0 (Vm (B.g 3) ?_)
  refine ss H3 ?_
  refine A0 (Rt H3 (E8 P _ _) (ZR (B.g 3)) O.st λh4 H4=>?_)
  refine ss H4 ?_
  refine C7 (λc2=>?_) (λc2=>?_)
  ·rw [if_pos c2] at k
   refine A1.stR (i:=6) H4 rfl (U.lit rfl) λh5 H5=>?_
   try simp +decide only [B4,F2,Nat.reduceAdd,Int.reduceLE,Int.reduceLT,Int.reduceToNat,J0,G5,B0,A1.al H5]
   exact A1.stP H5 λh6 H6=>k h6 (A1.drp (A1.none H6))
  ·rw [if_neg (by rw [c2];simp)] at k
   exact k h4 (A1.drp (A1.none H4))
 rw [if_neg c] at k
 refine A4 (λc=>?_) (λc=>?_)
 ·rw [if_pos c] at k
  refine A0 (W7 H1 (by decide) λh3 o3=>?_)
  have H3:=A1.old H1 o3
  refine ss H3 ?_
  refine A0 (T8 H3 (E8 P _ _) (U.lit rfl) O.st λh4 H4=>?_)
  exact A1.stP H4 λh6 H6=>k h6 (A1.drp (A1.none H6))
 rw [if_neg c] at k
 refine A4 (λc=>?_) (λc=>?_)
 ·rw [if_pos c] at k
  refine A0 (W7 H1 (by decide) λh3 o3=>?_)
  have H3:=A1.old H1 o3
  refine ss H3 ?_
  refine A0 (M0 H3 (E8 P _ _) O.st λh4 H4 u4=>?_)
  refine ss H4 ?_
  exact A1.stR (i:=4) H4 rfl u4 λh5 H5=>A1.stP H5 λh6 H6=>k h6 (A1.drp (A1.none H6))
 rw [if_neg c] at k
 exact k h1 (A1.drp (A1.none H1))
theorem Sk (H:A7 h (A1 M T tv (some (b,o)) x R)) (O:Ok x) (k:∀h',A7 h' (A1 M T tv none (AC x) R)->K tQ h') :
  A5 Tryz.prog 174 #[rV M T b o] h K:=by
 refine call174 ?_
 unfold F174 g174 cf ce bd lP lI nP G3
 have B:=A1.fB H
 have P:=A1.pl H
 unfold AC at k
 dsimp only at k
 have H1:=A1.new H (oQ #[mP M,mP T,fP b o] 200);generalize h.push (oQ #[mP M,mP T,fP b o] 200)=h1 at *;generalize h.size=N at *
 refine ss H1 ?_
 refine A4 (λc=>?_) (λc=>?_)
 ·rw [if_pos c] at k
  refine A4 (λc2=>?_) (λc2=>?_)
  ·rw [if_pos c2] at k
   refine A1.stP H1 λh2 H2=>?_
   refine ss H2 ?_
   refine A4 (λc3=>?_) (λc3=>?_)
   ·rw [if_pos c3] at k
    exact A1.stP H2 λh3 H3=>k h3 (SM5 x 9 11 ▸ A1.drp (A1.none H3))
   ·rw [if_neg c3] at k
    exact k h2 (A1.drp (A1.none H2))
  rw [if_neg c2] at k
  refine A0 (S8 H1 λh3 o3=>?_)
  have H3:=A1.old H1 o3
  try simp +decide only [B4,F2,Nat.reduceAdd,Int.reduceLE,Int.reduceLT,Int.reduceToNat,J0,G5,B0,A1.al H3,Ym]
  refine A0 (M0 H3 (E8 P _ _) O.st λh4 H4 u4=>?_)
  refine ss H4 ?_
  refine A1.stR (i:=5) H4 rfl u4 λh5 H5=>A1.stP H5 λh6 H6=>?_
  try simp +decide only [B4,F2,Nat.reduceAdd,Int.reduceLE,Int.reduceLT,Int.reduceToNat,J0,G5,B0,A1.al H6,B.len]
  refine A0 (JK u4 ?_)
  refine ss H6 ?_
  refine C7 (λc3=>?_) (λc3=>?_)
  ·rw [if_pos c3] at k
   refine A1.stR (i:=4) H6 rfl (R7 _) λh7 H7=>?_
   try simp +decide only [B4,F2,Nat.reduceAdd,Int.reduceLE,Int.reduceLT,Int.reduceToNat,J0,G5,B0,A1.al H7]
   exact A1.stP H7 λh8 H8=>k h8 (A1.drp (A1.none H8))
  ·rw [if_neg (by rw [c3];simp)] at k
   exact k h6 (A1.drp (A1.none H6))
 rw [if_neg c] at k
 refine A4 (λc=>?_) (λc=>?_)
 ·rw [if_pos c] at k
  refine A1.stP H1 λh2 H2=>?_
  refine ss H2 ?_
  refine A0 (S8 H2 λh3 o3=>?_)
  have H3:=A1.old H2 o3
  try simp +decide only [B4,F2,Nat.reduceAdd,Int.reduceLE,Int.reduceLT,Int.reduceToNat,J0,G5,B0,A1.al H3,Ym]
  refine A0 (OE (B.g 5) ?_)
  refine ss H3 ?_
  refine A0 (Rt H3 (E8 P _ _) AL O.st λh4 H4=>?_)
  refine ss H4 ?_
  refine C7 (λc2=>?_) (λc2=>?_)
  ·rw [if_pos c2] at k
   exact A1.stR (i:=4) H4 rfl (R7 _) λh5 H5=>k h5 (A1.drp (A1.none H5))
  ·rw [if_neg (by rw [c2];simp)] at k
   exact k h4 (A1.drp (A1.none H4))
 rw [if_neg c] at k
 exact k h1 (A1.drp (A1.none H1))
theorem Pp (H:A7 h (A1 M T tv (some (b,o)) x R)) (O:Ok x) (k:∀h',A7 h' (A1 M T tv none (X2 x) R)->K tQ h') :
  A5 Tryz.prog 175 #[rV M T b o] h K:=by
 refine call175 ?_
 unfold F175 g175 cf ce bd lP lI nP G3 L1
 have B:=A1.fB H
 have P:=A1.pl H
 have hd:=O.fr
 unfold X2 at k
 dsimp only at k
 have H1:=A1.new H (oQ #[mP M,mP T,fP b o] 200);generalize h.push (oQ #[mP M,mP T,fP b o] 200)=h1 at *;generalize h.size=N at *
 refine ss H1 ?_
 refine A4 (λc=>?_) (λc=>?_)
 ·rw [if_pos c] at k
  refine A0 (S8 H1 λh3 o3=>?_)
  have H3:=A1.old H1 o3
  refine ss H3 ?_
  refine A0 (M0 H3 (E8 P _ _) O.st λh4 H4 u4=>?_)
  refine ss H4 ?_
  exact A1.stR (i:=5) H4 rfl u4 λh5 H5=>A1.stP H5 λh6 H6=>k h6 (A1.drp (A1.none H6))
 rw [if_neg c] at k
 refine A4 (λc=>?_) (λc=>?_)
 ·rw [if_pos c] at k
  refine A0 (S8 H1 λh3 o3=>?_)
  have H3:=A1.old H1 o3
  refine ss H3 ?_
  refine A0 (Hw (B.g 5) ?_)
  refine ss H3 ?_
  refine A0 (Df H3 (E8 P _ _) (B.g 0) O.st λh4 H4=>?_)
  refine ss H4 ?_
  exact A1.stP H4 λh6 H6=>k h6 (A1.drp (A1.none H6))
 rw [if_neg c] at k
 refine A4 (λc=>?_) (λc=>?_)
 ·rw [if_pos c] at k
  refine A0 (JJ H1 O.st λh2 H2=>?_)
  refine ss H2 ?_
  refine C7 (λc3=>?_) (λc3=>?_)
  ·rw [if_pos c3] at k
   have ef:(x.drop1 (x.f.g 1)).2.f=x.f:=rfl
   try simp +decide only [B4,F2,Nat.reduceAdd,Int.reduceLE,Int.reduceLT,Int.reduceToNat,J0,G5,B0,A1.al H2,ef]
   exact A0 (Fi H2 [x.f.g 2] rfl (W5 (B.g 2)) rfl (show x.t.fr.length < _ by omega) λh4 b' o' _ _ H4=>k h4 (A1.drp (A1.none H4)))
  ·rw [if_neg (by rw [c3];simp)] at k
   exact A1.stP H2 λh5 H5=>k h5 (A1.drp (A1.none H5))
 rw [if_neg c] at k
 refine A4 (λc=>?_) (λc=>?_)
 ·rw [if_pos c] at k
  exact A0 (Fi H1 [x.f.g 1] rfl (W5 (B.g 1)) rfl (by omega) λh4 b' o' _ _ H4=>k h4 (A1.drp (A1.none H4)))
 ·rw [if_neg c] at k
  exact A0 (JP H1 (by omega) λh6 H6=>k h6 (A1.drp H6))
theorem Sl (H:A7 h (A1 M T tv (some (b,o)) x R)) (O:Ok x) (k:∀h',A7 h' (A1 M T tv none (BO x) R)->K tQ h') :
  A5 Tryz.prog 114 #[rV M T b o] h K:=by
 refine call114 ?_
 unfold F114 g114 cf lP lI nP L1
 unfold BO at k
 have H1:=A1.new H (oQ #[mP M,mP T,fP b o] 200);generalize h.push (oQ #[mP M,mP T,fP b o] 200)=h1 at *;generalize h.size=N at *
 refine ss H1 ?_
 refine A4 (λc=>?_) (λc=>?_)
 ·rw [if_pos c] at k
  exact A0 (Si H1 O λh2 H2=>k h2 (A1.drp H2))
 rw [if_neg c] at k
 refine A4 (λc=>?_) (λc=>?_)
 ·rw [if_pos c] at k
  exact A0 (Sj H1 O λh2 H2=>k h2 (A1.drp H2))
 rw [if_neg c] at k
 refine A4 (λc=>?_) (λc=>?_)
 ·rw [if_pos c] at k
  exact A0 (Sk H1 O λh2 H2=>k h2 (A1.drp H2))
 rw [if_neg c] at k
 exact A0 (Pp H1 O λh2 H2=>k h2 (A1.drp H2))
theorem Lz (H:A7 h (A1 M T tv fo x R)) (O:Ok x) (hf:FOk x) (hS:x.f.fn=21->SR7 x) (k:∀h',A7 h' (A1 M T tv none (R3 x) R)->K tQ h') :
  A5 Tryz.prog 64 #[mP M,mP T] h K:=by
 refine call64 ?_
 unfold F64 cf bd lI nP L1
 unfold R3 at k
 dsimp only at k
 refine A0 (OU H (λe=>?_) λb o hne _ H1=>?_)
 ·rw [if_pos e] at k
  refine sb ?_
  refine ⟨λvs h'=>vs = [dQ true]/\h' = h,⟨rfl,rfl⟩,?_⟩
  rintro v4 g6 h7 ⟨e,rfl⟩
  cases e
  refine sb ?_
  exact k _ (A1.none H)
 ·rw [if_neg hne] at k
  refine sb ?_
  refine ⟨λvs h'=>vs = [dQ false]/\h' = h,⟨rfl,rfl⟩,?_⟩
  rintro v4 g6 h7 ⟨e,rfl⟩
  cases e
  have B:=A1.fB H1
  refine sb ?_
  have H2:=A1.new H1 (oQ #[pQ none,pQ none,pQ none] 197)
  generalize h7.push (oQ #[pQ none,pQ none,pQ none] 197)=h2 at *
  generalize h7.size=N at *
  refine st3 (F6 (vs:=[mP M,mP T,fP b o]) (A1.loc H2) rfl (by simp [J3]) λh3 w=>?_)
  have H3:=A1.wr H2 w.new w.old
  clear H2 w
  refine ss H3 ?_
  refine ⟨λvs h'=>(∃w,vs = [dQ (decide (x.f.fn < 21\/23 < x.f.fn)),w])/\h' = h3,?_,?_⟩
  ·refine A4 (λc=>?_) (λc=>?_)
   ·rw [decide_eq_true (p:=x.f.fn < 21\/23 < x.f.fn) (by omega)]
    exact ⟨⟨_,rfl⟩,by trivial⟩
   ·rw [show decide (x.f.fn > 23)=decide (x.f.fn < 21\/23 < x.f.fn) by rw [decide_eq_decide];omega]
    exact ⟨⟨_,rfl⟩,by trivial⟩
  rintro v18 v19 g20 h21 ⟨⟨w,e⟩,rfl⟩
  cases e
  refine ss H3 ?_
  refine A4 (λc=>?_) (λc=>?_)
  ·rw [if_pos c] at k
   exact A0 (RU H3 O hf λh4 H4=>k h4 (A1.drp H4))
  rw [if_neg c] at k
  refine A4 (λc=>?_) (λc=>?_)
  ·rw [if_pos c] at k
   exact A0 (ZO H3 [x.f.g 7,x.f.g 8,x.f.g 9] rfl (Pn (B.g 7) (B.g 8) (B.g 9)) rfl λh4 H4=>k h4 (A1.drp H4))
  rw [if_neg c] at k
  refine A4 (λc=>?_) (λc=>?_)
  ·rw [if_pos c] at k
   exact A0 (Sb H3 O (hS c) λh4 H4=>k h4 (A1.drp H4))
  rw [if_neg c] at k
  exact A0 (Sl H3 O λh4 H4=>k h4 (A1.drp H4))
end
end
section
open Mod
section
variable {K:kQ} {h:A2} {M T b o N:Nat} {tv:Value} {fo:Option (Nat × Nat)} {x:A9} {R:Hp}
theorem Ss4 (x:A9) (i n r:Int):(x.pc i).nlink n r=x.nlink n r:=rfl
theorem Sm (H:A7 h (A1 M T tv (some (b,o)) x R)) (O:Ok x) (k:∀h',A7 h' (A1 M T tv none (BV x) R)->K tQ h') :
  A5 Tryz.prog 177 #[rV M T b o] h K:=by
 refine call177 ?_
 unfold F177 g177 cf ce bd lP lI nP G3 Nh N0
 have B:=A1.fB H
 have P:=A1.pl H
 have hd:=O.fr
 have r0:=A1.ret H 0
 unfold BV at k
 dsimp only at k
 have H1:=A1.new H (oQ #[mP M,mP T,fP b o] 204);generalize h.push (oQ #[mP M,mP T,fP b o] 204)=h1 at *;generalize h.size=N at *
 refine ss H1 ?_
 refine A4 (λc=>?_) (λc=>?_)
 ·rw [if_pos c] at k
  exact A0 (El H1 Z9.none (by omega) (by omega) λh2 b' o' _ _ H2=>k h2 (A1.drp (A1.none H2)))
 rw [if_neg c] at k
 refine A4 (λc=>?_) (λc=>?_)
 ·rw [if_pos c] at k
  refine A1.stR (i:=2) H1 rfl r0 λh2 H2=>?_
  try simp +decide only [B4,F2,Nat.reduceAdd,Int.reduceLE,Int.reduceLT,Int.reduceToNat,J0,G5,B0,A1.al H2,B.len]
  refine C7 (λc2=>?_) (λc2=>?_)
  ·have c2':x.ret 0≠0:=by simpa [A9.ret] using c2
   rw [if_pos c2'] at k
   exact A1.stP H2 λh3 H3=>k h3 (A1.drp (A1.none H3))
  ·have c2':¬ x.ret 0≠0:=by simpa [A9.ret] using c2
   rw [if_neg c2'] at k
   have hfl:=An x 2 (x.ret 0)
   refine ⟨λvs h'=>(∃w,vs = [dQ (decide (x.f.g 5=0/\x.t.retired.length > 0)),w])/\A7 h' (A1 M T tv (some (b,o)) (x.s 2 (x.ret 0)) (pt N (oQ #[mP M,mP T,fP b o] 204)*R)),?_,?_⟩
   ·refine A4 (λc3=>?_) (λc3=>?_)
    ·refine A0 (De (A1.thr H2) ?_)
     refine sb ?_
     have e:decide (((x.s 2 (x.ret 0)).t.retired.length:Int) > 0)=decide (x.f.g 5=0/\x.t.retired.length > 0):=by
      rw [decide_eq_decide]
      have e2:(x.s 2 (x.ret 0)).t.retired=x.t.retired:=rfl
      rw [e2]
      omega
     rw [e]
     exact ⟨⟨_,rfl⟩,H2⟩
    ·exact ⟨⟨_,by rw [decide_eq_false (λhh=>c3 hh.1)]⟩,H2⟩
   rintro v32 v33 g34 h35 ⟨⟨w,e⟩,H3⟩
   cases e
   refine sb ?_
   refine A4 (λc3=>?_) (λc3=>?_)
   ·rw [if_pos c3] at k
    refine A1.stR (i:=5) H3 rfl (U.lit rfl) λh4 H4=>?_
    have hfl2:=An (x.s 2 (x.ret 0)) 5 1
    try simp only [B4,F2,Nat.reduceAdd,Int.reduceLE,Int.reduceLT,Int.reduceToNat,A1.l H4]
    exact A0 (El H4 Z9.none (by omega) (by omega) λh5 b' o' _ _ H5=>k h5 (A1.drp (A1.none H5)))
   ·rw [if_neg c3] at k
    try simp only [B4,F2,Nat.reduceAdd,Int.reduceLE,Int.reduceLT,Int.reduceToNat,A1.l H3]
    exact A0 (CE H3 (U.lit rfl) (by omega) λh5 b' o' H5=>k h5 (A1.drp (A1.none H5)))
 rw [if_neg c] at k
 refine A4 (λc=>?_) (λc=>?_)
 ·rw [if_pos c] at k
  refine A0 (SG6 H1 (by decide) O.st λh2 H2 u2=>?_)
  try simp +decide only [B4,F2,Nat.reduceAdd,Int.reduceLE,Int.reduceLT,Int.reduceToNat,J0,G5,B0,A1.al H2,Jf]
  refine A0 (Lb (Rc _) (Rc _) ?_)
  refine ss H2 ?_
  refine A1.stR (i:=4) H2 rfl (Nz _ _) λh3 H3=>?_
  refine ss H3 ?_
  refine A0 (A1.feed H3 λq R' HF re=>?_)
  refine ss H3 ?_
  refine A0 (AX H3 λh4 o4=>AZ ?_)
  have H4:=A1.old H3 o4
  have HF4:=HF.old o4
  try simp only [B4,F2,Nat.reduceAdd,Int.reduceLE,Int.reduceLT,Int.reduceToNat]
  refine A0 (U9 λh5 o5=>cf7 ?_)
  have H5:=A1.old H4 o5
  have HF5:=HF4.old o5
  refine sb ?_
  have P5:=A1.pl H5
  refine A0 (Sr8 H5 ?_ HF5 re P5.lv λh6 H6=>?_)
  ·show (x.add 3 1).2.m.used < _
   rw [RW];exact O.us
  refine sb ?_
  refine A1.stR (i:=3) H6 rfl (R7 _) λh7 H7=>A1.stP H7 λh8 H8=>k h8 (A1.drp (A1.none H8))
 rw [if_neg c] at k
 exact k h1 (A1.drp (A1.none H1))
def LA (x:A9):A9:=if x.f.pc=3 then x.store (x.na (x.f.g 2) 0) (x.f.g 4) else if x.f.pc=4 then x.store (x.na (x.f.g 2) 1) (x.f.g 1)
 else if x.f.pc=5 then x.store (x.na (x.f.g 2) 2) 1 else if x.f.pc=6 then x.store (x.na (x.f.g 2) 3) (x.f.g 3) else x
theorem Ss5 (x:A9):(LA x).f=x.f:=by
 unfold LA
 split
 ·rfl
 split
 ·rfl
 split
 ·rfl
 split <;> rfl
theorem VM (H:A7 h (A1 M T tv (some (b,o)) x R)) (O:Ok x) (k:∀h',A7 h' (A1 M T tv none (EL x) R)->K tQ h') :
  A5 Tryz.prog 178 #[rV M T b o] h K:=by
 refine call178 ?_
 unfold F178 g178 cf ce bd lP lI nP G3
 have B:=A1.fB H
 have P:=A1.pl H
 have k:∀h',A7 h' (A1 M T tv none ((LA x).pc (x.f.pc+1)) R)->K tQ h':=k
 have H1:=A1.new H (oQ #[mP M,mP T,fP b o] 204);generalize h.push (oQ #[mP M,mP T,fP b o] 204)=h1 at *;generalize h.size=N at *
 refine ss H1 ?_
 refine ⟨λ_ h'=>A7 h' (A1 M T tv (some (b,o)) (LA x) (pt N (oQ #[mP M,mP T,fP b o] 204)*R)),?_,?_⟩
 ·unfold LA
  refine A4 (λc=>?_) (λc=>?_)
  ·rw [if_pos c]
   refine A0 (AN H1 (by decide) λh2 o2=>?_)
   have H2:=A1.old H1 o2
   refine ss H2 ?_
   exact A0 (T8 H2 (E8 P _ _) (B.g 4) O.st λh3 H3=>H3)
  rw [if_neg c]
  refine A4 (λc=>?_) (λc=>?_)
  ·rw [if_pos c]
   refine A0 (AN H1 (by decide) λh2 o2=>?_)
   have H2:=A1.old H1 o2
   refine ss H2 ?_
   exact A0 (T8 H2 (E8 P _ _) (B.g 1) O.st λh3 H3=>H3)
  rw [if_neg c]
  refine A4 (λc=>?_) (λc=>?_)
  ·rw [if_pos c]
   refine A0 (AN H1 (by decide) λh2 o2=>?_)
   have H2:=A1.old H1 o2
   refine ss H2 ?_
   exact A0 (T8 H2 (E8 P _ _) (U.lit rfl) O.st λh3 H3=>H3)
  rw [if_neg c]
  refine A4 (λc=>?_) (λc=>?_)
  ·rw [if_pos c]
   refine A0 (AN H1 (by decide) λh2 o2=>?_)
   have H2:=A1.old H1 o2
   refine ss H2 ?_
   exact A0 (T8 H2 (E8 P _ _) (B.g 3) O.st λh3 H3=>H3)
  rw [if_neg c]
  exact H1
 intro v1 v2 v3 v4 g6 h7 H7
 try simp +decide only [B4,F2,Nat.reduceAdd,Int.reduceLE,Int.reduceLT,Int.reduceToNat,J0,G5,B0,A1.al H7,Ss5]
 rw [Fh (n:=x.f.pc+1) (by have:=O.pc;omega) (by have:=O.pc;omega)]
 exact A1.stP H7 λh8 H8=>k h8 (A1.drp (A1.none H8))
theorem Pq (H:A7 h (A1 M T tv (some (b,o)) x R)) (O:Ok x) (L:RL x) (k:∀h',A7 h' (A1 M T tv none (Al x) R)->K tQ h') :
  A5 Tryz.prog 179 #[rV M T b o] h K:=by
 refine call179 ?_
 unfold F179 g179 cf ce bd lS lP lI nP G3
 have B:=A1.fB H
 have P:=A1.pl H
 have hd:=O.fr
 have r0:=A1.ret H 0
 unfold Al at k
 dsimp only at k
 have H1:=A1.new H (oQ #[mP M,mP T,fP b o] 204);generalize h.push (oQ #[mP M,mP T,fP b o] 204)=h1 at *;generalize h.size=N at *
 refine ss H1 ?_
 refine A4 (λc=>?_) (λc=>?_)
 ·rw [if_pos c] at k
  exact A0 (Fk H1 [x.f.g 4] rfl (W5 (B.g 4)) rfl (by omega) λh4 b' o' _ _ H4=>k h4 (A1.drp (A1.none H4)))
 rw [if_neg c] at k
 refine A4 (λc=>?_) (λc=>?_)
 ·rw [if_pos c] at k
  refine A1.stR (i:=7) H1 rfl r0 λh2 H2=>?_
  refine ss H2 ?_
  refine A0 (I9 H2 λh3 o3=>?_)
  have H3:=A1.old H2 o3
  refine ss H3 ?_
  refine A0 (M0 H3 (E8 P _ _) O.st λh4 H4 u4=>?_)
  refine ss H4 ?_
  exact A1.stR (i:=6) H4 rfl u4 λh5 H5=>A1.stP H5 λh6 H6=>k h6 (A1.drp (A1.none H6))
 rw [if_neg c] at k
 refine A4 (λc=>?_) (λc=>?_)
 ·rw [if_pos c] at k
  obtain ⟨pb,sb,wb,W⟩:=A1.rows H1 L
  have wf:=W.f
  have l0:=L.e0
  have wg:=W.g (i:=0) (by omega)
  try simp +decide only [B4,F2,Nat.reduceAdd,Int.reduceLE,Int.reduceLT,Int.reduceToNat,J0,G5,B0,A1.al H1,wf,wg]
  refine ⟨by omega,?_⟩
  try simp +decide only [B4,F2,Nat.reduceAdd,Int.reduceLE,Int.reduceLT,Int.reduceToNat,J0,G5,B0,A1.al H1,wf,wg]
  refine A0 (I9 H1 λh2 o2=>?_)
  have H2:=A1.old H1 o2
  have W2:=W.old o2
  have wf2:=W2.f
  have wg2:=W2.g (i:=0) (by omega)
  try simp +decide only [B4,F2,Nat.reduceAdd,Int.reduceLE,Int.reduceLT,Int.reduceToNat,J0,G5,B0,A1.al H2,wf2,wg2]
  refine A0 (T7 (B.g 6) ?_)
  refine ss H2 ?_
  refine A0 (T8 H2 (E8 P _ _) AL O.st λh3 H3=>?_)
  exact A1.stP H3 λh5 H5=>k h5 (A1.drp (A1.none H5))
 rw [if_neg c] at k
 refine A4 (λc=>?_) (λc=>?_)
 ·rw [if_pos c] at k
  refine A1.stR (i:=5) H1 rfl (U.lit rfl) λh2 H2=>?_
  try simp +decide only [B4,F2,Nat.reduceAdd,Int.reduceLE,Int.reduceLT,Int.reduceToNat,J0,G5,B0,A1.al H2]
  refine A1.stP H2 λh3 H3=>?_
  have L3:RL ((x.s 5 1).pc 7):=L.at ⟨rfl,rfl,rfl⟩
  obtain ⟨pb,sb,wb,W⟩:=A1.rows H3 L3
  have wf:=W.f
  have l0:=L3.e0
  have wg:=W.g (i:=0) (by omega)
  try simp +decide only [B4,F2,Nat.reduceAdd,Int.reduceLE,Int.reduceLT,Int.reduceToNat,J0,G5,B0,A1.al H3,wf,wg]
  refine ⟨by omega,?_⟩
  try simp +decide only [B4,F2,Nat.reduceAdd,Int.reduceLE,Int.reduceLT,Int.reduceToNat,J0,G5,B0,A1.al H3,wf,wg]
  refine ⟨by omega,?_⟩
  try simp +decide only [B4,F2,Nat.reduceAdd,Int.reduceLE,Int.reduceLT,Int.reduceToNat,J0,G5,B0,A1.al H3,wf,wg]
  refine A0 (I9 H3 λh4 o4=>?_)
  have H4:=A1.old H3 o4
  have W4:=W.old o4
  have wf4:=W4.f
  have wg4:=W4.g (i:=0) (by omega)
  try simp +decide only [B4,F2,Nat.reduceAdd,Int.reduceLE,Int.reduceLT,Int.reduceToNat,J0,G5,B0,A1.al H4,wf4,wg4]
  refine A0 (AO H4 (E8 P _ _) (A1.woU H4 0) O.st λh5 H5=>?_)
  refine ss H5 ?_
  refine C7 (λc2=>?_) (λc2=>?_)
  ·rw [if_pos c2] at k
   exact A1.stP H5 λh6 H6=>k h6 (A1.drp (A1.none H6))
  ·rw [if_neg (by rw [c2];simp)] at k
   exact k h5 (A1.drp (A1.none H5))
 rw [if_neg c] at k
 exact k h1 (A1.drp (A1.none H1))
theorem Ps (H:A7 h (A1 M T tv (some (b,o)) x R)) (O:Ok x) (L:RL x) (hr2:12<=x.f.pc->x.f.g 5 < x.t.pred.length) (k:∀h',A7 h' (A1 M T tv none (Am x) R)->K tQ h') :
  A5 Tryz.prog 180 #[rV M T b o] h K:=by
 refine call180 ?_
 unfold F180 g180 cf ce bd lS lP lI nP G3
 have B:=A1.fB H
 have P:=A1.pl H
 have hd:=O.fr
 have hr0:=(B.g 5).1
 unfold Am at k
 dsimp only at k
 have H1:=A1.new H (oQ #[mP M,mP T,fP b o] 204);generalize h.push (oQ #[mP M,mP T,fP b o] 204)=h1 at *;generalize h.size=N at *
 refine ss H1 ?_
 refine A4 (λc=>?_) (λc=>?_)
 ·rw [if_pos c] at k
  refine A4 (λc2=>?_) (λc2=>?_)
  ·rw [if_pos c2] at k
   exact A1.stP H1 λh2 H2=>k h2 (A1.drp (A1.none H2))
  rw [if_neg c2] at k
  refine A1.stP H1 λh2 H2=>?_
  refine ss H2 ?_
  refine A0 (I9 H2 λh3 o3=>?_)
  have H3:=A1.old H2 o3
  try simp +decide only [B4,F2,Nat.reduceAdd,Int.reduceLE,Int.reduceLT,Int.reduceToNat,J0,G5,B0,A1.al H3,Ss4]
  refine A0 (M0 H3 (E8 P _ _) O.st λh4 H4 u4=>?_)
  refine ss H4 ?_
  refine A0 (Bz u4 ?_)
  refine ss H4 ?_
  refine C7 (λc3=>?_) (λc3=>?_)
  ·rw [if_pos c3] at k
   exact A1.stP H4 λh5 H5=>k h5 (A1.drp (A1.none H5))
  ·rw [if_neg (by rw [c3];simp)] at k
   exact k h4 (A1.drp (A1.none H4))
 rw [if_neg c] at k
 refine A4 (λc=>?_) (λc=>?_)
 ·rw [if_pos c] at k
  have hr:=hr2 (by omega)
  refine A1.stP H1 λh2 H2=>?_
  have L2:RL (x.pc 13):=L.at ⟨rfl,rfl,rfl⟩
  obtain ⟨pb,sb,wb,W⟩:=A1.rows H2 L2
  have wf:=W.f
  try simp +decide only [B4,F2,Nat.reduceAdd,Int.reduceLE,Int.reduceLT,Int.reduceToNat,J0,G5,B0,A1.al H2,wf]
  refine ⟨by omega,hr,?_⟩
  have wg:=W.g (i:=(x.f.g 5).toNat) (by show _ < x.t.pred.length;omega)
  try simp +decide only [B4,F2,Nat.reduceAdd,Int.reduceLE,Int.reduceLT,Int.reduceToNat,J0,G5,B0,A1.al H2,wf,wg]
  refine ⟨λvs h'=>∃(w:Value) (d:Bool) (y:A9),vs = [w,dQ d]/\A7 h' (A1 M T tv (some (b,o)) y (pt N (oQ #[mP M,mP T,fP b o] 204)*R))/\∀h'',A7 h'' (A1 M T tv none (if d then y.pc 17 else y) R)->K tQ h'',?_,?_⟩
  ·refine C7 (λc2=>?_) (λc2=>?_)
   ·have c2':¬ (x.pc 13).t.succ.getD (x.f.g 5).toNat 0=2:=bne_iff_ne.1 c2
    rw [if_neg c2'] at k
    refine A4 (λc3=>?_) (λc3=>?_)
    ·rw [if_pos c3] at k
     exact ⟨_,_,_,rfl,H2,k⟩
    ·rw [if_neg c3] at k
     refine ss H2 ?_
     refine A0 (I9 H2 λh3 o3=>?_)
     have H3:=A1.old H2 o3
     refine ss H3 ?_
     refine A0 (M0 H3 (E8 P _ _) O.st λh4 H4 u4=>?_)
     refine ss H4 ?_
     refine A0 (Bz u4 ?_)
     try simp only [B4,F2,Nat.reduceAdd,Int.reduceLE,Int.reduceLT,Int.reduceToNat]
     exact ⟨_,_,_,rfl,H4,k⟩
   ·have c2':(x.pc 13).t.succ.getD (x.f.g 5).toNat 0=2:=bne_eq_false_iff_eq.1 c2
    rw [if_pos c2'] at k
    exact ⟨_,false,_,rfl,H2,k⟩
  rintro v64 v65 g66 h67 ⟨w,d,y,e,H3,k⟩
  cases e
  refine ss H3 ?_
  cases d
  ·exact k h67 (A1.drp (A1.none H3))
  ·exact A1.stP H3 λh5 H5=>k h5 (A1.drp (A1.none H5))
 rw [if_neg c] at k
 refine A4 (λc=>?_) (λc=>?_)
 ·rw [if_pos c] at k
  refine A0 (I9 H1 λh2 o2=>?_)
  have H2:=A1.old H1 o2
  refine ss H2 ?_
  refine A0 (M0 H2 (E8 P _ _) O.st λh3 H3 u3=>?_)
  refine ss H3 ?_
  exact A1.stR (i:=6) H3 rfl u3 λh4 H4=>A1.stP H4 λh5 H5=>k h5 (A1.drp (A1.none H5))
 rw [if_neg c] at k
 refine A4 (λc=>?_) (λc=>?_)
 ·rw [if_pos c] at k
  have hr:=hr2 (by omega)
  obtain ⟨pb,sb,wb,W⟩:=A1.rows H1 L
  have wf:=W.f
  try simp +decide only [B4,F2,Nat.reduceAdd,Int.reduceLE,Int.reduceLT,Int.reduceToNat,J0,G5,B0,A1.al H1,wf]
  refine ⟨by omega,by omega,?_⟩
  have wg:=W.g (i:=(x.f.g 5).toNat) (by omega)
  try simp +decide only [B4,F2,Nat.reduceAdd,Int.reduceLE,Int.reduceLT,Int.reduceToNat,J0,G5,B0,A1.al H1,wg]
  refine A0 (I9 H1 λh2 o2=>?_)
  have H2:=A1.old H1 o2
  have W2:=W.old o2
  have wf2:=W2.f
  have wg2:=W2.g (i:=(x.f.g 5).toNat) (by omega)
  try simp +decide only [B4,F2,Nat.reduceAdd,Int.reduceLE,Int.reduceLT,Int.reduceToNat,J0,G5,B0,A1.al H2,wf2,wg2]
  refine A0 (T7 (B.g 6) ?_)
  refine ss H2 ?_
  refine A0 (T8 H2 (E8 P _ _) AL O.st λh3 H3=>?_)
  exact A1.stP H3 λh5 H5=>k h5 (A1.drp (A1.none H5))
 rw [if_neg c] at k
 exact k h1 (A1.drp (A1.none H1))
theorem Sn (H:A7 h (A1 M T tv (some (b,o)) x R)) (O:Ok x) (L:RL x) (hr2:x.f.pc=15->x.f.g 5 < x.t.pred.length) (k:∀h',A7 h' (A1 M T tv none (BW x) R)->K tQ h') :
  A5 Tryz.prog 181 #[rV M T b o] h K:=by
 refine call181 ?_
 unfold F181 g181 cf ce bd lS lP lI nP G3
 have B:=A1.fB H
 have P:=A1.pl H
 have hd:=O.fr
 have hr0:=(B.g 5).1
 have r0:=A1.ret H 0
 unfold BW at k
 dsimp only at k
 have H1:=A1.new H (oQ #[mP M,mP T,fP b o] 204);generalize h.push (oQ #[mP M,mP T,fP b o] 204)=h1 at *;generalize h.size=N at *
 refine ss H1 ?_
 refine A4 (λc=>?_) (λc=>?_)
 ·rw [if_pos c] at k
  have hr:=hr2 c
  obtain ⟨pb,sb,wb,W⟩:=A1.rows H1 L
  have wf:=W.f
  try simp +decide only [B4,F2,Nat.reduceAdd,Int.reduceLE,Int.reduceLT,Int.reduceToNat,J0,G5,B0,A1.al H1,wf]
  refine ⟨by omega,by omega,?_⟩
  have wg:=W.g (i:=(x.f.g 5).toNat) (by omega)
  try simp +decide only [B4,F2,Nat.reduceAdd,Int.reduceLE,Int.reduceLT,Int.reduceToNat,J0,G5,B0,A1.al H1,wf,wg]
  refine ⟨by omega,by omega,?_⟩
  try simp +decide only [B4,F2,Nat.reduceAdd,Int.reduceLE,Int.reduceLT,Int.reduceToNat,J0,G5,B0,A1.al H1,wf,wg]
  refine A0 (I9 H1 λh2 o2=>?_)
  have H2:=A1.old H1 o2
  have W2:=W.old o2
  have wf2:=W2.f
  have wg2:=W2.g (i:=(x.f.g 5).toNat) (by omega)
  try simp +decide only [B4,F2,Nat.reduceAdd,Int.reduceLE,Int.reduceLT,Int.reduceToNat,J0,G5,B0,A1.al H2,wf2,wg2]
  refine A0 (AO H2 (E8 P _ _) (A1.woU H2 _) O.st λh3 H3=>?_)
  refine ss H3 ?_
  have ef:(x.swingM (x.nlink (x.t.pred.getD (x.f.g 5).toNat 0) (x.f.g 5)) (x.t.word.getD (x.f.g 5).toNat 0) (x.f.g 2) false).2.f=x.f:=rfl
  refine C7 (λc3=>?_) (λc3=>?_)
  ·rw [if_pos c3] at k
   try simp +decide only [B4,F2,Nat.reduceAdd,Int.reduceLE,Int.reduceLT,Int.reduceToNat,J0,G5,B0,A1.al H3,ef]
   refine A1.stR (i:=5) H3 rfl (R7 _) λh4 H4=>?_
   try simp +decide only [B4,F2,Nat.reduceAdd,Int.reduceLE,Int.reduceLT,Int.reduceToNat,J0,G5,B0,A1.al H4]
   exact A1.stP H4 λh5 H5=>k h5 (A1.drp (A1.none H5))
  ·rw [if_neg (by rw [c3];simp)] at k
   try simp +decide only [B4,F2,Nat.reduceAdd,Int.reduceLE,Int.reduceLT,Int.reduceToNat,J0,G5,B0,A1.al H3,ef]
   exact A0 (Fk H3 [x.f.g 4] rfl (W5 (B.g 4)) rfl (show x.t.fr.length < _ by omega) λh4 b' o' _ _ H4=>k h4 (A1.drp (A1.none H4)))
 rw [if_neg c] at k
 refine A4 (λc=>?_) (λc=>?_)
 ·rw [if_pos c] at k
  refine A1.stR (i:=7) H1 rfl r0 λh2 H2=>?_
  try simp +decide only [B4,F2,Nat.reduceAdd,Int.reduceLE,Int.reduceLT,Int.reduceToNat,J0,G5,B0,A1.al H2]
  refine A1.stP H2 λh3 H3=>?_
  have L3:RL ((x.s 7 (x.ret 0)).pc 11):=L.at ⟨rfl,rfl,rfl⟩
  obtain ⟨pb,sb,wb,W⟩:=A1.rows H3 L3
  have wf:=W.f
  have l0:=L3.e0
  have wg:=W.g (i:=0) (by omega)
  try simp +decide only [B4,F2,Nat.reduceAdd,Int.reduceLE,Int.reduceLT,Int.reduceToNat,J0,G5,B0,A1.al H3,wf,wg]
  refine ⟨by omega,?_⟩
  try simp +decide only [B4,F2,Nat.reduceAdd,Int.reduceLE,Int.reduceLT,Int.reduceToNat,J0,G5,B0,A1.al H3,wf,wg]
  refine C7 (λc2=>?_) (λc2=>?_)
  ·rw [if_pos (bne_iff_ne.1 c2)] at k
   exact A1.stP H3 λh5 H5=>k h5 (A1.drp (A1.none H5))
  ·rw [if_neg (λhh=>hh (bne_eq_false_iff_eq.1 c2))] at k
   exact k h3 (A1.drp (A1.none H3))
 rw [if_neg c] at k
 refine A4 (λc=>?_) (λc=>?_)
 ·rw [if_pos c] at k
  refine A0 (AN H1 (by decide) λh2 o2=>?_)
  have H2:=A1.old H1 o2
  refine ss H2 ?_
  refine A0 (T8 H2 (E8 P _ _) U0 O.st λh3 H3=>?_)
  exact A1.stP H3 λh5 H5=>k h5 (A1.drp (A1.none H5))
 ·rw [if_neg c] at k
  exact A0 (CE H1 U0 (by omega) λh5 b' o' H5=>k h5 (A1.drp (A1.none H5)))
structure SR9 (x:A9):Prop where
 L:RL x
 a:12<=x.f.pc->x.f.pc<=15->x.f.g 5 < x.t.pred.length
theorem So (H:A7 h (A1 M T tv (some (b,o)) x R)) (O:Ok x) (S:SR9 x) (k:∀h',A7 h' (A1 M T tv none (BX x) R)->K tQ h') :
  A5 Tryz.prog 116 #[rV M T b o] h K:=by
 refine call116 ?_
 unfold F116 g116 cf lP lI nP L1
 unfold BX at k
 have H1:=A1.new H (oQ #[mP M,mP T,fP b o] 204);generalize h.push (oQ #[mP M,mP T,fP b o] 204)=h1 at *;generalize h.size=N at *
 refine ss H1 ?_
 refine A4 (λc=>?_) (λc=>?_)
 ·rw [if_pos c] at k
  exact A0 (Sm H1 O λh2 H2=>k h2 (A1.drp H2))
 rw [if_neg c] at k
 refine A4 (λc=>?_) (λc=>?_)
 ·rw [if_pos c] at k
  exact A0 (VM H1 O λh2 H2=>k h2 (A1.drp H2))
 rw [if_neg c] at k
 refine A4 (λc=>?_) (λc=>?_)
 ·rw [if_pos c] at k
  exact A0 (Pq H1 O S.L λh2 H2=>k h2 (A1.drp H2))
 rw [if_neg c] at k
 refine A4 (λc=>?_) (λc=>?_)
 ·rw [if_pos c] at k
  exact A0 (Ps H1 O S.L (λhh=>S.a hh (by omega)) λh2 H2=>k h2 (A1.drp H2))
 rw [if_neg c] at k
 exact A0 (Sn H1 O S.L (λhh=>S.a (by omega) (by omega)) λh2 H2=>k h2 (A1.drp H2))
end
end
section
open Mod
section
variable {K:kQ} {h:A2} {M T b o N:Nat} {tv:Value} {fo:Option (Nat × Nat)} {x:A9} {R:Hp}
theorem SH4 (x:A9) (i j:Int) (n:Nat) (v:Int):((x.pc i).s n v).pc j=(x.s n v).pc j:=by
 show ((x.pc i).setF ((x.pc i).f.s n v)).setF (((x.pc i).setF ((x.pc i).f.s n v)).f.at j)=(x.setF (x.f.s n v)).setF ((x.setF (x.f.s n v)).f.at j)
 rw [Hu,Hu,AY]
 unfold A9.pc A9.setF Thr.setTop
 simp [M6.at,M6.s]
theorem Sq (H:A7 h (A1 M T tv (some (b,o)) x R)) (O:Ok x) (k:∀h',A7 h' (A1 M T tv none (BQ x) R)->K tQ h') :
  A5 Tryz.prog 117 #[rV M T b o] h K:=by
 refine call117 ?_
 unfold F117 g117 cf ce bd lP lI nP G3
 have B:=A1.fB H
 have P:=A1.pl H
 unfold BQ at k
 dsimp only at k
 have H1:=A1.new H (oQ #[mP M,mP T,fP b o] 205);generalize h.push (oQ #[mP M,mP T,fP b o] 205)=h1 at *;generalize h.size=N at *
 refine ss H1 ?_
 refine A4 (λc=>?_) (λc=>?_)
 ·rw [if_pos c] at k
  refine A0 (I9 H1 λh2 o2=>?_)
  have H2:=A1.old H1 o2
  refine ss H2 ?_
  refine A0 (M0 H2 (E8 P _ _) O.st λh3 H3 u3=>?_)
  refine ss H3 ?_
  refine A1.stR (i:=0) H3 rfl u3 λh4 H4=>?_
  try simp +decide only [B4,F2,Nat.reduceAdd,Int.reduceLE,Int.reduceLT,Int.reduceToNat,J0,G5,B0,A1.al H4,B.len]
  refine A0 (V5 u3 ?_)
  try simp +decide only [B4,F2,Nat.reduceAdd,Int.reduceLE,Int.reduceLT,Int.reduceToNat,J0,G5,B0,A1.al H4,B.len]
  refine A0 (V5 u3 ?_)
  try simp +decide only [B4,F2,Nat.reduceAdd,Int.reduceLE,Int.reduceLT,Int.reduceToNat,J0,G5,B0,A1.al H4,B.len]
  refine A1.stR (i:=1) H4 rfl (T9 _) λh5 H5=>?_
  try simp +decide only [B4,F2,Nat.reduceAdd,Int.reduceLE,Int.reduceLT,Int.reduceToNat,J0,G5,B0,A1.al H5]
  refine A1.stR (i:=2) H5 rfl (T9 _) λh6 H6=>?_
  try simp +decide only [B4,F2,Nat.reduceAdd,Int.reduceLE,Int.reduceLT,Int.reduceToNat,J0,G5,B0,A1.al H6]
  refine A1.stP H6 λh7 H7=>?_
  try simp +decide only [B4,F2,Nat.reduceAdd,Int.reduceLE,Int.reduceLT,Int.reduceToNat,J0,G5,B0,A1.al H7,B.len]
  refine A0 (Bz u3 ?_)
  refine ss H7 ?_
  refine C7 (λc2=>?_) (λc2=>?_)
  ·rw [if_neg (by simpa using c2)] at k
   have hd:=O.fr
   have l0:(x.load (x.nlink 1 0)).2.t.fr=x.t.fr:=rfl
   have l1:=An (x.load (x.nlink 1 0)).2 0 (x.load (x.nlink 1 0)).1
   have l2:=An ((x.load (x.nlink 1 0)).2.s 0 (x.load (x.nlink 1 0)).1) 1 (J2 (x.load (x.nlink 1 0)).1)
   have l3:=An (((x.load (x.nlink 1 0)).2.s 0 (x.load (x.nlink 1 0)).1).s 1 (J2 (x.load (x.nlink 1 0)).1)) 2 (J2 (x.load (x.nlink 1 0)).1)
   have l4:=Ex ((((x.load (x.nlink 1 0)).2.s 0 (x.load (x.nlink 1 0)).1).s 1 (J2 (x.load (x.nlink 1 0)).1)).s 2 (J2 (x.load (x.nlink 1 0)).1)) 1
   rw [l0] at l1
   exact A0 (CE H7 U0 (by omega) λh8 b' o' H8=>k h8 (A1.drp (A1.none H8)))
  ·rw [if_pos (by simpa using c2)] at k
   exact k h7 (A1.drp (A1.none H7))
 rw [if_neg c] at k
 refine A4 (λc=>?_) (λc=>?_)
 ·rw [if_pos c] at k
  refine A0 (I9 H1 λh2 o2=>?_)
  have H2:=A1.old H1 o2
  refine ss H2 ?_
  refine A0 (M0 H2 (E8 P _ _) O.st λh3 H3 u3=>?_)
  refine ss H3 ?_
  refine A0 (V5 u3 ?_)
  refine ss H3 ?_
  refine A1.stR (i:=2) H3 rfl (T9 _) λh4 H4=>?_
  try simp +decide only [B4,F2,Nat.reduceAdd,Int.reduceLE,Int.reduceLT,Int.reduceToNat,J0,G5,B0,A1.al H4]
  refine A1.stP H4 λh5 H5=>?_
  try simp +decide only [B4,F2,Nat.reduceAdd,Int.reduceLE,Int.reduceLT,Int.reduceToNat,J0,G5,B0,A1.al H5]
  refine A0 (Bz u3 ?_)
  refine ss H5 ?_
  refine C7 (λc2=>?_) (λc2=>?_)
  ·rw [if_pos c2] at k
   refine A0 (V5 u3 ?_)
   refine ss H5 ?_
   refine A1.stR (i:=1) H5 rfl (T9 _) λh6 H6=>?_
   try simp +decide only [B4,F2,Nat.reduceAdd,Int.reduceLE,Int.reduceLT,Int.reduceToNat,J0,G5,B0,A1.al H6]
   exact A1.stP H6 λh90 H90=>k h90 (A1.drp (A1.none H90))
  ·rw [if_neg (by rw [c2];simp)] at k
   exact k h5 (A1.drp (A1.none H5))
 rw [if_neg c] at k
 refine A4 (λc=>?_) (λc=>?_)
 ·rw [if_pos c] at k
  have hd:=O.fr
  exact A0 (Fk H1 [x.f.g 1] rfl (W5 (B.g 1)) rfl (by omega) λh4 b' o' _ _ H4=>k h4 (A1.drp (A1.none H4)))
 rw [if_neg c] at k
 refine A4 (λc=>?_) (λc=>?_)
 ·rw [if_pos c] at k
  refine A0 (I9 H1 λh2 o2=>?_)
  have H2:=A1.old H1 o2
  refine ss H2 ?_
  refine A0 (AO H2 (E8 P _ _) (B.g 0) O.st λh3 H3=>?_)
  refine ss H3 ?_
  exact A1.stP H3 λh90 H90=>k h90 (A1.drp (A1.none H90))
 rw [if_neg c] at k
 refine A4 (λc=>?_) (λc=>?_)
 ·rw [if_pos c] at k
  have hd:=O.fr
  refine A0 (V5 (B.g 0) ?_)
  refine ss H1 ?_
  exact A0 (Fk H1 [J2 (x.f.g 0),x.f.g 2] rfl (JF (T9 _) (B.g 2)) rfl (by omega) λh4 b' o' _ _ H4=>k h4 (A1.drp (A1.none H4)))
 rw [if_neg c] at k
 have hd:=O.fr
 exact A0 (CE H1 U0 (by omega) λh8 b' o' H8=>k h8 (A1.drp (A1.none H8)))
theorem Sr (H:A7 h (A1 M T tv (some (b,o)) x R)) (O:Ok x) (k:∀h',A7 h' (A1 M T tv none (BR x) R)->K tQ h') :
  A5 Tryz.prog 118 #[rV M T b o] h K:=by
 refine call118 ?_
 unfold F118 g118 cf ce bd lP lI nP G3
 have B:=A1.fB H
 have P:=A1.pl H
 unfold BR at k
 dsimp only at k
 have H1:=A1.new H (oQ #[mP M,mP T,fP b o] 206);generalize h.push (oQ #[mP M,mP T,fP b o] 206)=h1 at *;generalize h.size=N at *
 refine ss H1 ?_
 refine A4 (λc=>?_) (λc=>?_)
 ·rw [if_pos c] at k
  refine A0 (SG6 H1 (by decide) O.st λh2 H2 u2=>?_)
  refine ss H2 ?_
  exact A1.stP H2 λh90 H90=>k h90 (A1.drp (A1.none H90))
 rw [if_neg c] at k
 refine A4 (λc=>?_) (λc=>?_)
 ·rw [if_pos c] at k
  refine A4 (λc2=>?_) (λc2=>?_)
  ·rw [if_pos c2] at k
   exact A0 (Mx H1 Z9.none (by omega) λh2 H2=>k h2 (A1.drp H2))
  rw [if_neg c2] at k
  refine A0 (I9 H1 λh2 o2=>?_)
  have H2:=A1.old H1 o2
  refine ss H2 ?_
  refine A0 (M0 H2 (E8 P _ _) O.st λh3 H3 u3=>?_)
  refine ss H3 ?_
  refine A0 (V5 u3 ?_)
  refine ss H3 ?_
  refine A1.stR (i:=2) H3 rfl (T9 _) λh4 H4=>?_
  try simp +decide only [B4,F2,Nat.reduceAdd,Int.reduceLE,Int.reduceLT,Int.reduceToNat,J0,G5,B0,A1.al H4]
  exact A1.stP H4 λh90 H90=>k h90 (A1.drp (A1.none H90))
 rw [if_neg c] at k
 refine A1.stR (i:=0) H1 rfl (B.g 2) λh2 H2=>?_
 refine ss H2 ?_
 have hd:=O.fr
 have l1:=An x 0 (x.f.g 2)
 exact A0 (Fk H2 [x.f.g 0] rfl (W5 (B.g 0)) rfl (by omega) λh4 b' o' _ _ H4=>k h4 (A1.drp (A1.none H4)))
theorem Gl (H:A7 h (A1 M T tv (some (b,o)) x R)) (k:∀h',A7 h' (A1 M T tv none (AT x) R)->K tQ h') :
  A5 Tryz.prog 189 #[rV M T b o] h K:=by
 refine call189 ?_
 unfold F189 g189 bd lP lI nP
 unfold AT at k
 have H1:=A1.new H (oQ #[mP M,mP T,fP b o] 207);generalize h.push (oQ #[mP M,mP T,fP b o] 207)=h1 at *;generalize h.size=N at *
 refine ss H1 ?_
 refine A1.stR (i:=2) H1 rfl (R7 _) λh2 H2=>?_
 refine ss H2 ?_
 exact A1.stP H2 λh3 H3=>k h3 (A1.drp (A1.none H3))
theorem Ss (H:A7 h (A1 M T tv (some (b,o)) x R)) (O:Ok x) (k:∀h',A7 h' (A1 M T tv none (BS x) R)->K tQ h') :
  A5 Tryz.prog 191 #[rV M T b o] h K:=by
 refine call191 ?_
 unfold F191 g191 cf ce bd lP lI nP G3 L1
 have B:=A1.fB H
 have P:=A1.pl H
 unfold BS at k
 dsimp only at k
 have H1:=A1.new H (oQ #[mP M,mP T,fP b o] 207);generalize h.push (oQ #[mP M,mP T,fP b o] 207)=h1 at *;generalize h.size=N at *
 refine ss H1 ?_
 refine A4 (λc=>?_) (λc=>?_)
 ·rw [if_pos c] at k
  refine ⟨λvs h'=>∃(d:Bool) (y:A9),vs = [dQ d,dQ d]/\A7 h' (A1 M T tv (some (b,o)) y (pt N (oQ #[mP M,mP T,fP b o] 207)*R))/\y.f=x.f/\∀h'',A7 h'' (A1 M T tv none (if d then y.pc 5 else if x.f.g 4=J2 (x.f.g 3) then AT y else y.pc 6) R)->K tQ h'',?_,?_⟩
  ·refine A4 (λc2=>?_) (λc2=>?_)
   ·rw [if_pos c2] at k
    exact ⟨true,x,rfl,H1,rfl,k⟩
   rw [if_neg c2] at k
   refine A0 (I9 H1 λh2 o2=>?_)
   have H2:=A1.old H1 o2
   refine ss H2 ?_
   refine A0 (M0 H2 (E8 P _ _) O.st λh3 H3 u3=>?_)
   refine ss H3 ?_
   refine A0 (Bz u3 ?_)
   refine ss H3 ?_
   exact ⟨_,_,rfl,H3,rfl,k⟩
  rintro v29 v30 g31 h32 ⟨d,y,e,H3,ef,k⟩
  cases e
  try simp +decide only [B4,F2,Nat.reduceAdd,Int.reduceLE,Int.reduceLT,Int.reduceToNat,J0,G5,B0,A1.al H3,ef]
  cases d
  ·simp only [Bool.false_eq_true,if_false] at k
   try simp +decide only [B4,F2,Nat.reduceAdd,Int.reduceLE,Int.reduceLT,Int.reduceToNat,J0,G5,B0,A1.al H3,ef]
   refine A0 (V5 (B.g 3) ?_)
   try simp +decide only [B4,F2,Nat.reduceAdd,Int.reduceLE,Int.reduceLT,Int.reduceToNat,J0,G5,B0,A1.al H3,ef]
   refine A4 (λc2=>?_) (λc2=>?_)
   ·rw [if_pos c2] at k
    exact A0 (Gl H3 λh4 H4=>k h4 (A1.drp H4))
   ·rw [if_neg c2] at k
    exact A1.stP H3 λh4 H4=>k h4 (A1.drp (A1.none H4))
  ·exact A1.stP H3 λh4 H4=>k h4 (A1.drp (A1.none H4))
 rw [if_neg c] at k
 refine A4 (λc=>?_) (λc=>?_)
 ·rw [if_pos c] at k
  refine A0 (I9 H1 λh2 o2=>?_)
  have H2:=A1.old H1 o2
  refine ss H2 ?_
  refine A0 (M0 H2 (E8 P _ _) O.st λh3 H3 u3=>?_)
  refine ss H3 ?_
  refine A0 (V5 u3 ?_)
  refine ss H3 ?_
  refine A1.stR (i:=4) H3 rfl (T9 _) λh4 H4=>?_
  try simp +decide only [B4,F2,Nat.reduceAdd,Int.reduceLE,Int.reduceLT,Int.reduceToNat,J0,G5,B0,A1.al H4]
  refine A1.stP H4 λh5 H5=>?_
  try simp +decide only [B4,F2,Nat.reduceAdd,Int.reduceLE,Int.reduceLT,Int.reduceToNat,J0,G5,B0,A1.al H5,B.len]
  refine A4 (λc2=>?_) (λc2=>?_)
  ·rw [if_pos c2] at k
   exact A1.stP H5 λh90 H90=>k h90 (A1.drp (A1.none H90))
  ·rw [if_neg c2] at k
   exact k h5 (A1.drp (A1.none H5))
 rw [if_neg c] at k
 refine A0 (I9 H1 λh2 o2=>?_)
 have H2:=A1.old H1 o2
 refine ss H2 ?_
 refine A0 (AO H2 (E8 P _ _) (B.g 3) O.st λh3 H3=>?_)
 refine ss H3 ?_
 refine C7 (λc2=>?_) (λc2=>?_)
 ·rw [if_pos c2] at k
  exact A0 (Gl H3 λh4 H4=>k h4 (A1.drp H4))
 ·rw [if_neg (by rw [c2];simp)] at k
  exact A1.stP H3 λh90 H90=>k h90 (A1.drp (A1.none H90))
theorem Su (H:A7 h (A1 M T tv (some (b,o)) x R)) (O:Ok x) (k:∀h',A7 h' (A1 M T tv none (BT x) R)->K tQ h') :
  A5 Tryz.prog 119 #[rV M T b o] h K:=by
 refine call119 ?_
 unfold F119 g119 cf ce bd lP lI nP G3 Nh N0 L1
 have B:=A1.fB H
 have P:=A1.pl H
 unfold BT at k
 dsimp only at k
 have H1:=A1.new H (oQ #[mP M,mP T,fP b o] 207);generalize h.push (oQ #[mP M,mP T,fP b o] 207)=h1 at *;generalize h.size=N at *
 refine ss H1 ?_
 refine A4 (λc=>?_) (λc=>?_)
 ·rw [if_pos c] at k
  refine A0 (M0 H1 (by decide) O.st λh2 H2 u2=>?_)
  refine ss H2 ?_
  refine A1.stR (i:=1) H2 rfl u2 λh3 H3=>?_
  refine ss H3 ?_
  refine A0 (AX H3 λh4 o4=>AZ ?_)
  have H4:=A1.old H3 o4
  try simp +decide only [B4,F2,Nat.reduceAdd,Int.reduceLE,Int.reduceLT,Int.reduceToNat,J0,G5,B0,A1.al H4]
  refine A0 (U9 λh5 o5=>cf7 ?_)
  have H5:=A1.old H4 o5
  refine ss H5 ?_
  refine A1.stR (i:=2) H5 rfl (R7 _) λh6 H6=>?_
  try simp +decide only [B4,F2,Nat.reduceAdd,Int.reduceLE,Int.reduceLT,Int.reduceToNat,J0,G5,B0,A1.al H6]
  exact A1.stP H6 λh90 H90=>k h90 (A1.drp (A1.none H90))
 rw [if_neg c] at k
 refine A4 (λc=>?_) (λc=>?_)
 ·rw [if_pos c] at k
  refine A4 (λc2=>?_) (λc2=>?_)
  ·rw [if_pos c2] at k
   exact A0 (Mx H1 Z9.none (by omega) λh2 H2=>k h2 (A1.drp H2))
  rw [if_neg c2] at k
  refine A0 (I9 H1 λh2 o2=>?_)
  have H2:=A1.old H1 o2
  refine ss H2 ?_
  refine A0 (M0 H2 (E8 P _ _) O.st λh3 H3 u3=>?_)
  refine ss H3 ?_
  refine A1.stR (i:=3) H3 rfl u3 λh4 H4=>?_
  try simp +decide only [B4,F2,Nat.reduceAdd,Int.reduceLE,Int.reduceLT,Int.reduceToNat,J0,G5,B0,A1.al H4,B.len]
  refine A0 (V5 u3 ?_)
  refine ss H4 ?_
  refine A1.stR (i:=4) H4 rfl (T9 _) λh5 H5=>?_
  try simp +decide only [B4,F2,Nat.reduceAdd,Int.reduceLE,Int.reduceLT,Int.reduceToNat,J0,G5,B0,A1.al H5]
  refine A1.stP H5 λh6 H6=>?_
  try simp +decide only [B4,F2,Nat.reduceAdd,Int.reduceLE,Int.reduceLT,Int.reduceToNat,J0,G5,B0,A1.al H6,B.len]
  refine A4 (λc3=>?_) (λc3=>?_)
  ·rw [if_pos c3] at k
   exact A0 (Gl H6 λh7 H7=>k h7 (A1.drp H7))
  ·rw [if_neg c3] at k
   exact k h6 (A1.drp (A1.none H6))
 rw [if_neg c] at k
 refine A4 (λc=>?_) (λc=>?_)
 ·rw [if_pos c] at k
  refine A0 (Ip H1 O (B.g 5) (B.g 4) λh2 H2=>?_)
  refine ss H2 ?_
  refine A1.stR (i:=5) H2 rfl (R7 _) λh3 H3=>?_
  try simp +decide only [B4,F2,Nat.reduceAdd,Int.reduceLE,Int.reduceLT,Int.reduceToNat,J0,G5,B0,A1.al H3]
  exact A1.stP H3 λh90 H90=>k h90 (A1.drp (A1.none H90))
 rw [if_neg c] at k
 refine A4 (λc=>?_) (λc=>?_)
 ·rw [if_pos c] at k
  refine A1.stP H1 λh2 H2=>?_
  refine ss H2 ?_
  refine A0 (M0 H2 (by decide) O.st λh3 H3 u3=>?_)
  refine ss H3 ?_
  refine C7 (λc2=>?_) (λc2=>?_)
  ·rw [if_pos (bne_iff_ne.1 c2)] at k
   exact A1.stP H3 λh5 H5=>k h5 (A1.drp (A1.none H5))
  ·rw [if_neg (λhh=>hh (bne_eq_false_iff_eq.1 c2))] at k
   exact k h3 (A1.drp (A1.none H3))
 rw [if_neg c] at k
 exact A0 (Ss H1 O λh2 H2=>k h2 (A1.drp H2))
theorem AE (H:A7 h (A1 M T tv (some (b,o)) x R)) (k:∀h',G4 h.size h h'->K (uQ (J2 (x.f.g 5))) h') :
  A5 Tryz.prog 273 #[rV M T b o] h K:=by
 refine call273 ?_
 unfold F273 g273 cf bd lP lI nP
 have B:=A1.fB H
 have oo:G4 h.size h (h.push (oQ #[mP M,mP T,fP b o] 208)):=(G4.refl _ _).push _ (Nat.le_refl _)
 have H1:=A1.new H (oQ #[mP M,mP T,fP b o] 208);generalize h.push (oQ #[mP M,mP T,fP b o] 208)=h1 at *;generalize h.size=N at *
 refine ss H1 ?_
 refine A0 (V5 (B.g 5) ?_)
 refine sb ?_
 exact k h1 oo
theorem Sv (H:A7 h (A1 M T tv (some (b,o)) x R)) (O:Ok x) (k:∀h',A7 h' (A1 M T tv none (AU x) R)->K tQ h') :
  A5 Tryz.prog 192 #[rV M T b o] h K:=by
 refine call192 ?_
 unfold F192 g192 cf ce bd lP lI nP G3 L1
 have B:=A1.fB H
 have P:=A1.pl H
 unfold AU at k
 dsimp only at k
 have H1:=A1.new H (oQ #[mP M,mP T,fP b o] 208);generalize h.push (oQ #[mP M,mP T,fP b o] 208)=h1 at *;generalize h.size=N at *
 refine ss H1 ?_
 refine A4 (λc=>?_) (λc=>?_)
 ·rw [if_pos c] at k
  refine A0 (M0 H1 (by decide) O.st λh2 H2 u2=>?_)
  refine ss H2 ?_
  refine A1.stR (i:=0) H2 rfl u2 λh3 H3=>?_
  try simp +decide only [B4,F2,Nat.reduceAdd,Int.reduceLE,Int.reduceLT,Int.reduceToNat,J0,G5,B0,A1.al H3]
  refine A1.stR (i:=2) H3 rfl (U.lit rfl) λh4 H4=>?_
  try simp +decide only [B4,F2,Nat.reduceAdd,Int.reduceLE,Int.reduceLT,Int.reduceToNat,J0,G5,B0,A1.al H4]
  refine A1.stR (i:=3) H4 rfl U0 λh5 H5=>?_
  try simp +decide only [B4,F2,Nat.reduceAdd,Int.reduceLE,Int.reduceLT,Int.reduceToNat,J0,G5,B0,A1.al H5]
  refine A1.stR (i:=4) H5 rfl U0 λh6 H6=>?_
  try simp +decide only [B4,F2,Nat.reduceAdd,Int.reduceLE,Int.reduceLT,Int.reduceToNat,J0,G5,B0,A1.al H6]
  exact A1.stP H6 λh90 H90=>k h90 (A1.drp (A1.none H90))
 rw [if_neg c] at k
 refine A4 (λc=>?_) (λc=>?_)
 ·rw [if_pos c] at k
  refine A0 (I9 H1 λh2 o2=>?_)
  have H2:=A1.old H1 o2
  refine ss H2 ?_
  refine A0 (M0 H2 (E8 P _ _) O.st λh3 H3 u3=>?_)
  refine ss H3 ?_
  refine A1.stR (i:=1) H3 rfl u3 λh4 H4=>?_
  try simp +decide only [B4,F2,Nat.reduceAdd,Int.reduceLE,Int.reduceLT,Int.reduceToNat,J0,G5,B0,A1.al H4,B.len]
  refine A1.stR (i:=5) H4 rfl u3 λh5 H5=>?_
  try simp +decide only [B4,F2,Nat.reduceAdd,Int.reduceLE,Int.reduceLT,Int.reduceToNat,J0,G5,B0,A1.al H5]
  exact A1.stP H5 λh90 H90=>k h90 (A1.drp (A1.none H90))
 rw [if_neg c] at k
 refine A4 (λc=>?_) (λc=>?_)
 ·rw [if_pos c] at k
  refine A1.stP H1 λh2 H2=>?_
  refine ss H2 ?_
  refine A0 (AE H2 λh3 o3=>?_)
  have H3:=A1.old H2 o3
  refine ss H3 ?_
  have hd:=O.fr
  have l1:=Ex x 3
  refine A4 (λc2=>?_) (λc2=>?_)
  ·rw [if_pos c2] at k
   exact A0 (CE H3 (U.lit rfl) (by omega) λh8 b' o' H8=>k h8 (A1.drp (A1.none H8)))
  ·rw [if_neg c2] at k
   exact k h3 (A1.drp (A1.none H3))
 rw [if_neg c] at k
 refine A4 (λc=>?_) (λc=>?_)
 ·rw [if_pos c] at k
  refine A0 (AE H1 λh2 o2=>?_)
  have H2:=A1.old H1 o2
  refine ss H2 ?_
  refine A0 (Ip H2 O (B.g 3) (T9 _) λh3 H3=>?_)
  have ef:(x.guard (x.f.g 3) (J2 (x.f.g 5))).f=x.f:=rfl
  try simp +decide only [B4,F2,Nat.reduceAdd,Int.reduceLE,Int.reduceLT,Int.reduceToNat,J0,G5,B0,A1.al H3,ef]
  refine A1.stR (i:=3) H3 rfl (R7 _) λh4 H4=>?_
  try simp +decide only [B4,F2,Nat.reduceAdd,Int.reduceLE,Int.reduceLT,Int.reduceToNat,J0,G5,B0,A1.al H4]
  exact A1.stP H4 λh90 H90=>k h90 (A1.drp (A1.none H90))
 rw [if_neg c] at k
 refine A4 (λc=>?_) (λc=>?_)
 ·rw [if_pos c] at k
  refine A1.stP H1 λh2 H2=>?_
  refine ss H2 ?_
  refine A0 (M0 H2 (by decide) O.st λh3 H3 u3=>?_)
  refine ss H3 ?_
  refine C7 (λc2=>?_) (λc2=>?_)
  ·rw [if_pos (bne_iff_ne.1 c2)] at k
   exact A1.stP H3 λh5 H5=>k h5 (A1.drp (A1.none H5))
  ·rw [if_neg (λhh=>hh (bne_eq_false_iff_eq.1 c2))] at k
   exact k h3 (A1.drp (A1.none H3))
 rw [if_neg c] at k
 exact k h1 (A1.drp (A1.none H1))
theorem ZT (H:A7 h (A1 M T tv (some (b,o)) x R)) (O:Ok x) (k:∀h',A7 h' (A1 M T tv none (GO x) R)->K tQ h') :
  A5 Tryz.prog 193 #[rV M T b o] h K:=by
 refine call193 ?_
 unfold F193 g193 cf ce bd lP lI nP G3 L1
 have B:=A1.fB H
 have P:=A1.pl H
 unfold GO at k
 dsimp only at k
 have H1:=A1.new H (oQ #[mP M,mP T,fP b o] 208);generalize h.push (oQ #[mP M,mP T,fP b o] 208)=h1 at *;generalize h.size=N at *
 refine ss H1 ?_
 refine A4 (λc=>?_) (λc=>?_)
 ·rw [if_pos c] at k
  refine A1.stP H1 λh2 H2=>?_
  refine ss H2 ?_
  refine ⟨λvs h'=>∃(w:Value) (d:Bool) (y:A9),vs = [w,dQ d]/\A7 h' (A1 M T tv (some (b,o)) y (pt N (oQ #[mP M,mP T,fP b o] 208)*R))/\(∀i,y.f.g i=x.f.g i)/\∀h'',A7 h'' (A1 M T tv none (if d then y.s 4 (x.f.g 2) else y) R)->K tQ h'',?_,?_⟩
  ·refine C7 (λc2=>?_) (λc2=>?_)
   ·have c2':=bne_iff_ne.1 c2
    refine A4 (λc3=>?_) (λc3=>?_)
    ·rw [if_pos ⟨c2',c3⟩] at k
     refine ss H2 ?_
     refine A0 (AN H2 (by decide) λh3 o3=>?_)
     have H3:=A1.old H2 o3
     refine ss H3 ?_
     refine A0 (M0 H3 (E8 P _ _) O.st λh4 H4 u4=>?_)
     refine ss H4 ?_
     refine ⟨_,decide (((x.pc 6).load ((x.pc 6).na (x.f.g 2) 2)).1=1),_,rfl,H4,λi=>by rw [X9,AY,CN],?_⟩
     simp only [decide_eq_true_eq]
     exact k
    ·rw [if_neg (λhh=>c3 hh.2)] at k
     exact ⟨_,false,_,rfl,H2,λi=>by rw [AY,CN],k⟩
   ·have c2':=bne_eq_false_iff_eq.1 c2
    rw [if_neg (λhh=>hh.1 c2')] at k
    exact ⟨_,false,_,rfl,H2,λi=>by rw [AY,CN],k⟩
  rintro v28 v29 g30 h31 ⟨w,d,y,e,H3,eg,k⟩
  cases e
  try simp +decide only [B4,F2,Nat.reduceAdd,Int.reduceLE,Int.reduceLT,Int.reduceToNat,J0,G5,B0,A1.al H3,eg]
  cases d
  ·exact k h31 (A1.drp (A1.none H3))
  ·try simp +decide only [B4,F2,Nat.reduceAdd,Int.reduceLE,Int.reduceLT,Int.reduceToNat,J0,G5,B0,A1.al H3,eg]
   exact A1.stR (i:=4) H3 rfl (B.g 2) λh4 H4=>k h4 (A1.drp (A1.none H4))
 rw [if_neg c] at k
 refine A4 (λc=>?_) (λc=>?_)
 ·rw [if_pos c] at k
  refine A1.stP H1 λh2 H2=>?_
  refine ss H2 ?_
  refine A0 (Bz (B.g 5) ?_)
  refine ss H2 ?_
  refine C7 (λc2=>?_) (λc2=>?_)
  ·rw [if_pos c2,<- SH4 x 8 7] at k
   try simp +decide only [B4,F2,Nat.reduceAdd,Int.reduceLE,Int.reduceLT,Int.reduceToNat,J0,G5,B0,A1.al H2]
   refine A0 (AE H2 λh3 o3=>?_)
   have H3:=A1.old H2 o3
   refine ss H3 ?_
   refine A1.stR (i:=2) H3 rfl (T9 _) λh4 H4=>?_
   try simp +decide only [B4,F2,Nat.reduceAdd,Int.reduceLE,Int.reduceLT,Int.reduceToNat,J0,G5,B0,A1.al H4]
   exact A1.stP H4 λh5 H5=>k h5 (A1.drp (A1.none H5))
  ·rw [if_neg (by rw [c2];simp)] at k
   try simp +decide only [B4,F2,Nat.reduceAdd,Int.reduceLE,Int.reduceLT,Int.reduceToNat,J0,G5,B0,A1.al H2]
   refine A4 (λc3=>?_) (λc3=>?_)
   ·rw [if_pos c3,<- SM5 x 8 9] at k
    exact A1.stP H2 λh5 H5=>k h5 (A1.drp (A1.none H5))
   ·rw [if_neg c3] at k
    exact k h2 (A1.drp (A1.none H2))
 rw [if_neg c] at k
 refine A4 (λc=>?_) (λc=>?_)
 ·rw [if_pos c] at k
  refine A0 (I9 H1 λh2 o2=>?_)
  have H2:=A1.old H1 o2
  refine ss H2 ?_
  refine A0 (M0 H2 (E8 P _ _) O.st λh3 H3 u3=>?_)
  refine ss H3 ?_
  refine A1.stR (i:=5) H3 rfl u3 λh4 H4=>?_
  try simp +decide only [B4,F2,Nat.reduceAdd,Int.reduceLE,Int.reduceLT,Int.reduceToNat,J0,G5,B0,A1.al H4]
  exact A1.stP H4 λh90 H90=>k h90 (A1.drp (A1.none H90))
 rw [if_neg c] at k
 refine A4 (λc=>?_) (λc=>?_)
 ·rw [if_pos c] at k
  refine A1.stP H1 λh2 H2=>?_
  refine ss H2 ?_
  refine A0 (I9 H2 λh3 o3=>?_)
  have H3:=A1.old H2 o3
  refine ss H3 ?_
  refine A0 (AE H3 λh4 o4=>?_)
  have H4:=A1.old H3 o4
  refine ss H4 ?_
  refine A0 (AO H4 (E8 P _ _) (B.g 5) O.st λh5 H5=>?_)
  have ef:((x.pc 9).swingM ((x.pc 9).nlink (x.f.g 2) 0) (x.f.g 5) (J2 (x.f.g 5)) true).2.f=(x.pc 9).f:=rfl
  try simp +decide only [B4,F2,Nat.reduceAdd,Int.reduceLE,Int.reduceLT,Int.reduceToNat,J0,G5,B0,A1.al H5,ef]
  refine C7 (λc2=>?_) (λc2=>?_)
  ·rw [if_neg (by simpa using c2)] at k
   refine A1.stR (i:=3) H5 rfl (R7 _) λh6 H6=>?_
   try simp +decide only [B4,F2,Nat.reduceAdd,Int.reduceLE,Int.reduceLT,Int.reduceToNat,J0,G5,B0,A1.al H6]
   exact A1.stP H6 λh7 H7=>k h7 (A1.drp (A1.none H7))
  ·rw [if_pos (by simpa using c2)] at k
   exact k h5 (A1.drp (A1.none H5))
 rw [if_neg c] at k
 exact k h1 (A1.drp (A1.none H1))
theorem Sw (H:A7 h (A1 M T tv (some (b,o)) x R)) (O:Ok x) (k:∀h',A7 h' (A1 M T tv none (AV x) R)->K tQ h') :
  A5 Tryz.prog 194 #[rV M T b o] h K:=by
 refine call194 ?_
 unfold F194 g194 cf ce bd lP lI nP G3 Nh N0 L1
 have B:=A1.fB H
 have P:=A1.pl H
 unfold AV at k
 dsimp only at k
 have H1:=A1.new H (oQ #[mP M,mP T,fP b o] 208);generalize h.push (oQ #[mP M,mP T,fP b o] 208)=h1 at *;generalize h.size=N at *
 refine ss H1 ?_
 refine A4 (λc=>?_) (λc=>?_)
 ·rw [if_pos c] at k
  refine A0 (AE H1 λh2 o2=>?_)
  have H2:=A1.old H1 o2
  refine ss H2 ?_
  refine A0 (AN H2 (by decide) λh3 o3=>?_)
  have H3:=A1.old H2 o3
  refine ss H3 ?_
  refine A0 (M0 H3 (E8 P _ _) O.st λh4 H4 u4=>?_)
  refine ss H4 ?_
  refine A1.stR (i:=6) H4 rfl u4 λh5 H5=>?_
  try simp +decide only [B4,F2,Nat.reduceAdd,Int.reduceLE,Int.reduceLT,Int.reduceToNat,J0,G5,B0,A1.al H5]
  exact A1.stP H5 λh90 H90=>k h90 (A1.drp (A1.none H90))
 rw [if_neg c] at k
 refine A4 (λc=>?_) (λc=>?_)
 ·rw [if_pos c] at k
  refine A0 (AE H1 λh2 o2=>?_)
  have H2:=A1.old H1 o2
  refine ss H2 ?_
  refine A0 (AN H2 (by decide) λh3 o3=>?_)
  have H3:=A1.old H2 o3
  refine ss H3 ?_
  refine A0 (M0 H3 (E8 P _ _) O.st λh4 H4 u4=>?_)
  refine ss H4 ?_
  refine A0 (Nl u4 ?_)
  try simp +decide only [B4,F2,Nat.reduceAdd,Int.reduceLE,Int.reduceLT,Int.reduceToNat,J0,G5,B0,A1.al H4,RY u4]
  refine A1.stR (i:=8) H4 rfl (RZ u4) λh5 H5=>?_
  try simp +decide only [B4,F2,Nat.reduceAdd,Int.reduceLE,Int.reduceLT,Int.reduceToNat,J0,G5,B0,A1.al H5]
  generalize hy:((x.load (x.na (J2 (x.f.g 5)) 0)).2.s 8 (EZ (x.load (x.na (J2 (x.f.g 5)) 0)).1)).pc 11=y at k
  have hyg:∀i,¬ 8=i->y.f.g i=x.f.g i:=λi hi=>by rw [<- hy,AY,CN,CM,B0 _ hi,X9]
  have hyn:y.f.fn=x.f.fn:=by rw [<- hy,AY,Ao,CM,Du,X9]
  refine A1.stP H5 λh6 H6=>?_
  rw [hy] at H6
  have e3:=hyg 3 (by decide)
  have e4:=hyg 4 (by decide)
  have e5:=hyg 5 (by decide)
  refine ⟨λvs h'=>∃y2:A9,A7 h' (A1 M T tv (some (b,o)) y2 (pt N (oQ #[mP M,mP T,fP b o] 208)*R))/\(∀i,y2.f.g i=y.f.g i)/\∀h'',A7 h'' (A1 M T tv none (if x.f.g 4=0 then y2.s 4 (J2 (x.f.g 5)) else y2) R)->K tQ h'',?_,?_⟩
  ·refine ⟨λvs h'=>∃d:Bool,vs = [dQ d]/\A7 h' (A1 M T tv (some (b,o)) y (pt N (oQ #[mP M,mP T,fP b o] 208)*R))/\(d=true↔(x.f.fn=33\/x.f.g 3 < Mod.u64 y.m.p.c.batch)),?_,?_⟩
   ·try simp +decide only [B4,F2,Nat.reduceAdd,Int.reduceLE,Int.reduceLT,Int.reduceToNat,J0,G5,B0,A1.al H6,hyn,e3]
    refine A4 (λc2=>?_) (λc2=>?_)
    ·exact ⟨true,rfl,H6,by simp [c2]⟩
    ·try simp +decide only [B4,F2,Nat.reduceAdd,Int.reduceLE,Int.reduceLT,Int.reduceToNat,J0,G5,B0,A1.al H6,hyn,e3]
     refine A0 (AX H6 λh7 o7=>AZ ?_)
     have H7:=A1.old H6 o7
     try simp +decide only [B4,F2,Nat.reduceAdd,Int.reduceLE,Int.reduceLT,Int.reduceToNat,J0,G5,B0,A1.al H7,e3]
     refine A0 (U9 λh8 o8=>cf7 ?_)
     have H8:=A1.old H7 o8
     try simp +decide only [B4,F2,Nat.reduceAdd,Int.reduceLE,Int.reduceLT,Int.reduceToNat,J0,G5,B0,A1.al H8,e3]
     exact ⟨_,rfl,H8,by simp [c2]⟩
   rintro v89 g90 h91 ⟨d,e,H7,hd⟩
   cases e
   refine ss H7 ?_
   refine C7 (λc2=>?_) (λc2=>?_)
   ·rw [if_pos (show x.f.fn=33\/x.f.g 3 < Mod.u64 y.m.p.c.batch from hd.1 c2)] at k
    exact A1.stP H7 λh8 H8=>⟨_,H8,λi=>by rw [AY,CN],k⟩
   ·have hn:¬ (x.f.fn=33\/x.f.g 3 < Mod.u64 y.m.p.c.batch):=λhh=>by rw [hd.2 hh] at c2;cases c2
    rw [if_neg hn] at k
    exact ⟨_,H7,λi=>rfl,k⟩
  rintro g95 h96 ⟨y2,H7,eg,k⟩
  have f4:=(eg 4).trans e4
  have f5:=(eg 5).trans e5
  try simp +decide only [B4,F2,Nat.reduceAdd,Int.reduceLE,Int.reduceLT,Int.reduceToNat,J0,G5,B0,A1.al H7,f4,f5]
  refine A4 (λc2=>?_) (λc2=>?_)
  ·rw [if_pos c2] at k
   try simp +decide only [B4,F2,Nat.reduceAdd,Int.reduceLE,Int.reduceLT,Int.reduceToNat,J0,G5,B0,A1.al H7,f4,f5]
   refine A0 (AE H7 λh8 o8=>?_)
   have H8:=A1.old H7 o8
   try simp +decide only [B4,F2,Nat.reduceAdd,Int.reduceLE,Int.reduceLT,Int.reduceToNat,J0,G5,B0,A1.al H8,f4,f5]
   exact A1.stR (i:=4) H8 rfl (T9 _) λh9 H9=>k h9 (A1.drp (A1.none H9))
  ·rw [if_neg c2] at k
   exact k h96 (A1.drp (A1.none H7))
 rw [if_neg c] at k
 exact k h1 (A1.drp (A1.none H1))
theorem VN (H:A7 h (A1 M T tv (some (b,o)) x R)) (O:Ok x) (k:∀h',A7 h' (A1 M T tv none (CU x) R)->K tQ h') :
  A5 Tryz.prog 195 #[rV M T b o] h K:=by
 refine call195 ?_
 unfold F195 g195 cf ce bd lP lI nP G3
 have B:=A1.fB H
 have P:=A1.pl H
 unfold CU at k
 dsimp only at k
 have H1:=A1.new H (oQ #[mP M,mP T,fP b o] 208);generalize h.push (oQ #[mP M,mP T,fP b o] 208)=h1 at *;generalize h.size=N at *
 refine ss H1 ?_
 refine A4 (λc=>?_) (λc=>?_)
 ·rw [if_pos c] at k
  refine A1.stP H1 λh2 H2=>?_
  refine ss H2 ?_
  refine A0 (I9 H2 λh3 o3=>?_)
  have H3:=A1.old H2 o3
  refine ss H3 ?_
  refine A0 (AO H3 (E8 P _ _) (B.g 1) O.st λh5 H5=>?_)
  refine ss H5 ?_
  refine C7 (λc2=>?_) (λc2=>?_)
  ·rw [if_pos c2] at k
   exact A1.stP H5 λh90 H90=>k h90 (A1.drp (A1.none H90))
  ·rw [if_neg (by rw [c2];simp)] at k
   exact k h5 (A1.drp (A1.none H5))
 rw [if_neg c] at k
 refine A4 (λc=>?_) (λc=>?_)
 ·rw [if_pos c] at k
  have hd:=O.fr
  exact A0 (Fk H1 [0] rfl (W5 U0) rfl (by omega) λh4 b' o' _ _ H4=>k h4 (A1.drp (A1.none H4)))
 rw [if_neg c] at k
 refine A4 (λc=>?_) (λc=>?_)
 ·rw [if_pos c] at k
  have hd:=O.fr
  refine A0 (V5 (B.g 1) ?_)
  refine ss H1 ?_
  exact A0 (Fk H1 [J2 (x.f.g 1),x.f.g 4] rfl (JF (T9 _) (B.g 4)) rfl (by omega) λh4 b' o' _ _ H4=>k h4 (A1.drp (A1.none H4)))
 rw [if_neg c] at k
 have hd:=O.fr
 exact A0 (Ly H1 (U.lit rfl) (B.g 8) (B.g 6) (by omega) λh5 b' o' H5=>k h5 (A1.drp (A1.none H5)))
theorem Sx (H:A7 h (A1 M T tv (some (b,o)) x R)) (O:Ok x) (k:∀h',A7 h' (A1 M T tv none (AW x) R)->K tQ h') :
  A5 Tryz.prog 120 #[rV M T b o] h K:=by
 refine call120 ?_
 unfold F120 g120 cf lP lI nP L1
 have B:=A1.fB H
 have P:=A1.pl H
 unfold AW at k
 have H1:=A1.new H (oQ #[mP M,mP T,fP b o] 208);generalize h.push (oQ #[mP M,mP T,fP b o] 208)=h1 at *;generalize h.size=N at *
 refine ss H1 ?_
 refine A4 (λc=>?_) (λc=>?_)
 ·rw [if_pos c] at k
  exact A0 (Sv H1 O λh2 H2=>k h2 (A1.drp H2))
 rw [if_neg c] at k
 refine A4 (λc=>?_) (λc=>?_)
 ·rw [if_pos c] at k
  exact A0 (ZT H1 O λh2 H2=>k h2 (A1.drp H2))
 rw [if_neg c] at k
 refine A4 (λc=>?_) (λc=>?_)
 ·rw [if_pos c] at k
  exact A0 (Sw H1 O λh2 H2=>k h2 (A1.drp H2))
 rw [if_neg c] at k
 exact A0 (VN H1 O λh2 H2=>k h2 (A1.drp H2))
theorem MG (H:A7 h (A1 M T tv fo x R)) (O:Ok x) (hf:LOk x) (hS:x.f.fn=31->SR9 x) (k:∀h',A7 h' (A1 M T tv none (U2 x) R)->K tQ h') :
  A5 Tryz.prog 65 #[mP M,mP T] h K:=by
 refine call65 ?_
 unfold F65 cf bd lI nP L1
 unfold U2 at k
 dsimp only at k
 refine A0 (OU H (λe=>?_) λb o hne _ H1=>?_)
 ·rw [if_pos e] at k
  refine sb ?_
  refine ⟨λvs h'=>vs = [dQ true]/\h' = h,⟨rfl,rfl⟩,?_⟩
  rintro v4 g6 h7 ⟨e,rfl⟩
  cases e
  refine sb ?_
  exact k _ (A1.none H)
 ·rw [if_neg hne] at k
  refine sb ?_
  refine ⟨λvs h'=>vs = [dQ false]/\h' = h,⟨rfl,rfl⟩,?_⟩
  rintro v4 g6 h7 ⟨e,rfl⟩
  cases e
  have B:=A1.fB H1
  refine sb ?_
  have H2:=A1.new H1 (oQ #[pQ none,pQ none,pQ none] 202)
  generalize h7.push (oQ #[pQ none,pQ none,pQ none] 202)=h2 at *
  generalize h7.size=N at *
  refine st3 (F6 (vs:=[mP M,mP T,fP b o]) (A1.loc H2) rfl (by simp [J3]) λh3 w=>?_)
  have H3:=A1.wr H2 w.new w.old
  clear H2 w
  refine ss H3 ?_
  refine ⟨λvs h'=>(∃w,vs = [dQ (decide (x.f.fn < 31\/36 < x.f.fn)),w])/\h' = h3,?_,?_⟩
  ·refine A4 (λc=>?_) (λc=>?_)
   ·rw [decide_eq_true (p:=x.f.fn < 31\/36 < x.f.fn) (by omega)]
    exact ⟨⟨_,rfl⟩,by trivial⟩
   ·rw [show decide (x.f.fn > 36)=decide (x.f.fn < 31\/36 < x.f.fn) by rw [decide_eq_decide];omega]
    exact ⟨⟨_,rfl⟩,by trivial⟩
  rintro v18 v19 g20 h21 ⟨⟨w,e⟩,rfl⟩
  cases e
  refine ss H3 ?_
  refine A4 (λc=>?_) (λc=>?_)
  ·rw [if_pos c] at k
   exact A0 (MF H3 O hf λh4 H4=>k h4 (A1.drp H4))
  rw [if_neg c] at k
  refine A4 (λc=>?_) (λc=>?_)
  ·rw [if_pos c] at k
   exact A0 (ZO H3 [x.f.g 7,x.f.g 8,x.f.g 9] rfl (Pn (B.g 7) (B.g 8) (B.g 9)) rfl λh4 H4=>k h4 (A1.drp H4))
  rw [if_neg c] at k
  refine A4 (λc=>?_) (λc=>?_)
  ·rw [if_pos c] at k
   exact A0 (So H3 O (hS c) λh4 H4=>k h4 (A1.drp H4))
  rw [if_neg c] at k
  refine A4 (λc=>?_) (λc=>?_)
  ·rw [if_pos c] at k
   exact A0 (Sq H3 O λh4 H4=>k h4 (A1.drp H4))
  rw [if_neg c] at k
  refine A4 (λc=>?_) (λc=>?_)
  ·rw [if_pos c] at k
   exact A0 (Sr H3 O λh4 H4=>k h4 (A1.drp H4))
  rw [if_neg c] at k
  refine A4 (λc=>?_) (λc=>?_)
  ·rw [if_pos c] at k
   exact A0 (Su H3 O λh4 H4=>k h4 (A1.drp H4))
  rw [if_neg c] at k
  exact A0 (Sx H3 O λh4 H4=>k h4 (A1.drp H4))
end
end
section
open Mod
theorem Sy {d:A9->A9}:∀ {n m:Nat} {x z w:A9},Mod.bits d n x=some z->Mod.bits d m x=some w->z=w
 | 0,0,x,z,w,h1,h2=>by
  rw [h1] at h2;exact Option.some.inj h2
 | 0,m+1,x,z,w,h1,h2=>by
  unfold Mod.bits at h1 h2
  split at h1
  ·rename_i c
   rw [if_pos c] at h2
   rw [h1] at h2;exact Option.some.inj h2
  ·cases h1
 | n+1,0,x,z,w,h1,h2=>by
  unfold Mod.bits at h1 h2
  split at h2
  ·rename_i c
   rw [if_pos c] at h1
   rw [h1] at h2;exact Option.some.inj h2
  ·cases h2
 | n+1,m+1,x,z,w,h1,h2=>by
  unfold Mod.bits at h1 h2
  split at h1
  ·rename_i c
   rw [if_pos c] at h2
   rw [h1] at h2;exact Option.some.inj h2
  ·rename_i c
   rw [if_neg c] at h2
   exact Sy h1 h2
open Classical in
noncomputable def S9 (d:A9->A9) (x:A9):A9:=if h:∃z,∃n,Mod.bits d n x=some z then h.choose else x
theorem Dz {d:A9->A9} {n:Nat} {x z:A9} (h:Mod.bits d n x=some z):S9 d x=z:=by
 have hh:∃z,∃n,Mod.bits d n x=some z:=⟨z,n,h⟩
 unfold S9
 rw [dif_pos hh]
 obtain ⟨m,hm⟩:=hh.choose_spec
 exact Sy hm h
def F4 (m:Mac) (k:Nat):Thr:=m.th.getD k (Ay m.p.c)
def Fz (t:Thr):Cl:=⟨F5 (t.ret.getD 0 0),u32 (t.ret.getD 1 0),u32 (t.ret.getD 2 0)⟩
def DA:Cl:=⟨0,0,0⟩
def DS.enter (ins:Int) (calls:List (List Cl)) (s:DS) (k:Nat):Option DS:=
 if (F4 s.m k).fr = [] then
  if (calls.getD k []).length<=(s.nx.getD k 0).toNat then none
  else some ⟨s.m.setTh (s.m.th.set k ((F4 s.m k).push (ins+((calls.getD k []).getD (s.nx.getD k 0).toNat DA).op) [((calls.getD k []).getD (s.nx.getD k 0).toNat DA).key,((calls.getD k []).getD (s.nx.getD k 0).toNat DA).val])),s.nx.set k (s.nx.getD k 0+1),s.cu.set k ((calls.getD k []).getD (s.nx.getD k 0).toNat DA),s.ev ++ [⟨k,false,(calls.getD k []).getD (s.nx.getD k 0).toNat DA,DA⟩]⟩
 else some s
noncomputable def DS.go (d:A9->A9) (s:DS) (k:Nat):DS:=
 if (S9 d ⟨s.m.quiet,F4 s.m k,k⟩).t.fr = [] then ⟨(S9 d ⟨s.m.quiet,F4 s.m k,k⟩).m.setTh (s.m.th.set k (S9 d ⟨s.m.quiet,F4 s.m k,k⟩).t),s.nx,s.cu,s.ev ++ [⟨k,true,DA,Fz (S9 d ⟨s.m.quiet,F4 s.m k,k⟩).t⟩]⟩
 else ⟨(S9 d ⟨s.m.quiet,F4 s.m k,k⟩).m.setTh (s.m.th.set k (S9 d ⟨s.m.quiet,F4 s.m k,k⟩).t),s.nx,s.cu,s.ev⟩
noncomputable def DS.pick (d:A9->A9) (ins:Int) (calls:List (List Cl)) (s:DS) (k:Int):DS:=match s.enter ins calls k.toNat with
 | none=>s
 | some s1=>s1.go d k.toNat
structure LC (d:A9->A9) (W:A9->Prop) (ins:Int) (Inv:Nat->Mac->Prop):Prop where
 mono:∀(i:Nat) (m:Mac),Inv i m->Inv (i+1) m
 wd:∀i m,Inv i m->SZ5 m/\2 < m.mm.w.length
 push:∀(i:Nat) (m:Mac) (k:Nat) (t:Thr) (c:Cl),Inv i m->m.th[k]? = some t->t.fr = []->0<=c.op/\c.op<=2->V c.key->V c.val->Inv i (m.setTh (m.th.set k (t.push (ins+c.op) [c.key,c.val])))
 step:∀(i:Nat) (m:Mac) (k:Nat) (t:Thr),Inv i m->i < 100000->m.th[k]? = some t->t.fr≠[]->∃n z,Mod.bits d n ⟨m.quiet,t,k⟩=some z/\ZC d W n ⟨m.quiet,t,k⟩/\z.id=k/\z.m.th=m.th/\Inv (i+1) (z.m.setTh (m.th.set k z.t))
structure Sz (h:A2) (ca:Option Addr) (cl:Nat) (pa:Option Addr) (pl:Nat) (calls:List (List Cl)) (B9:List Int):Prop where
 cs:cl=calls.length
 row:∀i,i < calls.length->∃a c,(∃ad,ca=some ad/\A3 h (ad.add i)=some (lQ a (calls.getD i []).length c))/\N8 h a ((calls.getD i []).flatMap Cc)
 ps:pl=B9.length
 pk:N8 h pa (B9.map iv)
section
variable {K:kQ} {h:A2} {M:Nat} {B:DB} {Ts:List Nat} {R:Hp} {d:A9->A9} {W:A9->Prop} {ins:Int} {Inv:Nat->Mac->Prop} {calls:List (List Cl)}
end
end
section
open Mod
theorem SH5 {K:kQ} {h:A2} {n:Nat} (hn:n<=4096) (k:K (lQ (some (aQ h.size)) n n) (h.push (oQ ((List.replicate n (0:Int)).map iv).toArray 3))):Y5 Tryz.prog 3 (n:Int) (n:Int) h K:=by
 refine Sr0 (by omega) ?_
 rw [Int.toNat_natCast]
 exact k
def N9 (c:Mod.Cf) (ca:Option Addr) (cl cc:Nat) (pa:Option Addr) (pl pc:Nat) (da:Option Addr) (dl dc:Nat):List Value:=[iQ c.algo,iQ c.threads,iQ c.nodes,iQ c.level,iQ c.batch,iQ c.probes,iQ c.scan,lQ ca cl cc,lQ pa pl pc,lQ da dl dc]
section
variable {K:kQ} {h:A2} {M:Nat} {Ts:List Nat} {R:Hp} {d:A9->A9} {W:A9->Prop} {ins:Int} {Inv:Nat->Mac->Prop} {calls:List (List Cl)} {B9:List Int} {m:Mac}
end
end
section
open Mod
theorem SW5 {h:A2} {b:Nat} {v0 v1 v2 v3 v4 v5 v6 v7 v8 v9:Value} {K:A2->Prop} (H:NX h (aQ b) 0 [v0,v1,v2,v3,v4,v5,v6,v7,v8,v9] K) :
 C4 h (aQ b) v0 λh=>C4 h ⟨b,1,none⟩ v1 λh=>C4 h ⟨b,2,none⟩ v2 λh=>C4 h ⟨b,3,none⟩ v3 λh=>C4 h ⟨b,4,none⟩ v4 λh=>C4 h ⟨b,5,none⟩ v5 λh=>C4 h ⟨b,6,none⟩ v6 λh=>C4 h ⟨b,7,none⟩ v7 λh=>C4 h ⟨b,8,none⟩ v8 λh=>C4 h ⟨b,9,none⟩ v9 K:=H
def SA (n:Int):Value:=.int .u8 n
structure EO (h:A2) (ca:Option Addr) (cl:Nat) (pa:Option Addr) (pl:Nat) (da:Option Addr) (dl:Nat) (calls:List (List Cl)) (B9 draws:List Int):Prop where
 f:Sz h ca cl pa pl calls B9
 ds:dl=draws.length
 dr:N8 h da (draws.map SA)
structure SC (calls:List (List Cl)) (B9 draws:List Int):Prop where
 cl:∀l ∈ calls,∀c ∈ l,V c.key/\V c.val
 dr:∀n ∈ draws,0<=n/\n < 256
def opL (n:Int):Int:=Int.tmod (F5 (Int.tmod n 3+3)) 3
def Us (c:Cl):Cl:=if opL c.op=0 then ⟨0,c.key,c.val⟩ else ⟨opL c.op,0,0⟩
def CO (n:Nat) (l:List Cl):List Cl:=(l.take n).map Us
def M8 (th n:Nat) (calls:List (List Cl)):List (List Cl):=(List.range th).map λi=>CO n (calls.getD i [])
def LD (th:Int) (k:Int):Int:=Int.tmod (F5 (Int.tmod k th+th)) th
def U6 (th:Int) (n:Nat) (B9:List Int):List Int:=(B9.take n).map (LD th)
theorem Yn (n:Int):0<=opL n/\opL n<=2:=by
 have h1:Int.tmod n 3 < 3:=Int.tmod_lt_of_pos n (by decide)
 have h2 : -3 < Int.tmod n 3:=by
  have:=Int.lt_tmod_of_pos n (b:=3) (by decide)
  omega
 have h3:F5 (Int.tmod n 3+3)=Int.tmod n 3+3:=by unfold F5;omega
 unfold opL
 rw [h3]
 generalize Int.tmod n 3=m at *
 rw [Int.tmod_eq_emod_of_nonneg (by omega)]
 omega
theorem NA {th:Int} (ht:1<=th/\th<=6) (n:Int):0<=LD th n/\LD th n < th:=by
 have h1:Int.tmod n th < th:=Int.tmod_lt_of_pos n (by omega)
 have h2 : -th < Int.tmod n th:=by
  have:=Int.lt_tmod_of_pos n (b:=th) (by omega)
  omega
 have h3:F5 (Int.tmod n th+th)=Int.tmod n th+th:=by unfold F5;omega
 unfold LD
 rw [h3]
 generalize Int.tmod n th=m at *
 rw [Int.tmod_eq_emod_of_nonneg (by omega)]
 exact ⟨Int.emod_nonneg _ (by omega),Int.emod_lt_of_pos _ (by omega)⟩
theorem SS0 {c:Cl} (h:V c.key/\V c.val):(0<=(Us c).op/\(Us c).op<=2)/\V (Us c).key/\V (Us c).val:=by
 have:=Yn c.op
 unfold Us
 split
 ·exact ⟨⟨by show (0:Int)<=0;omega,by show (0:Int)<=2;omega⟩,h⟩
 ·exact ⟨this,⟨by show (0:Int)<=0;omega,by show (0:Int) < _;omega⟩,⟨by show (0:Int)<=0;omega,by show (0:Int) < _;omega⟩⟩
theorem Ct (th n:Nat) (calls:List (List Cl)):(M8 th n calls).length=th:=by unfold M8;simp
theorem Jh {th n:Nat} {calls:List (List Cl)} {B9 draws:List Int} (R:SC calls B9 draws) (hn:n<=1000):∀l ∈ M8 th n calls,l.length<=1000/\∀c ∈ l,(0<=c.op/\c.op<=2)/\V c.key/\V c.val:=by
 intro l hl
 unfold M8 at hl
 obtain ⟨i,_,rfl⟩:=List.mem_map.1 hl
 unfold CO
 refine ⟨by rw [List.length_map,List.length_take];omega,λc hc=>?_⟩
 obtain ⟨c0,hc0,rfl⟩:=List.mem_map.1 hc
 have hm:=List.mem_of_mem_take hc0
 have:calls.getD i [] ∈ calls\/calls.getD i [] = []:=by
  rw [List.getD_eq_getElem?_getD]
  cases e:calls[i]? with
  | none=>right;rfl
  | some l=>left;exact List.mem_of_getElem? e
 rcases this with h | h
 ·exact SS0 (R.cl _ h _ hm)
 ·rw [h] at hm;cases hm
def Ez (p:(Option Addr × Nat) × List Cl):List Value:=[lQ p.1.1 p.2.length p.1.2]
def BZ:List (Option Addr × Nat)->List (List Cl)->Hp
 | p :: ps,l :: ls=>F3 41 3 p.1 l.length p.2 (l.flatMap Cc)*BZ ps ls
 | _,_=>Mr
theorem LE (p:Option Addr × Nat) (l:List Cl):∀(ps:List (Option Addr × Nat)) (ls:List (List Cl)),ps.length=ls.length->BZ (ps ++ [p]) (ls ++ [l])=BZ ps ls*F3 41 3 p.1 l.length p.2 (l.flatMap Cc)
 | [],[],_=>by
  show _*Mr=Mr*_
  rw [Dh]
 | [],_ :: _,h=>by simp at h
 | _ :: _,[],h=>by simp at h
 | a :: ps,b :: ls,h=>by
  show _*BZ (ps ++ [p]) (ls ++ [l])=(_*BZ ps ls)*_
  rw [LE p l ps ls (by simpa using h),E7]
theorem LF {h:A2}:∀ {ps:List (Option Addr × Nat)} {ls:List (List Cl)} {R:Hp},ps.length=ls.length->A7 h (BZ ps ls*R)->∀i,i < ls.length->∃p,ps[i]? = some p/\N8 h p.1 ((ls.getD i []).flatMap Cc)
 | [],[],_,_,_,i,hi=>by simp at hi
 | [],_ :: _,_,hl,_,_,_=>by simp at hl
 | _ :: _,[],_,hl,_,_,_=>by simp at hl
 | p :: ps,l :: ls,R,hl,H,i,hi=>by
  have H:A7 h ((F3 41 3 p.1 l.length p.2 (l.flatMap Cc)*BZ ps ls)*R):=H
  rw [E7] at H
  cases i with
  | zero=>exact ⟨p,rfl,H.own.sees⟩
  | succ i=>
   have:=LF (by simpa using hl) H.drop i (by simpa using hi)
   simpa using this
def Ss6 (ca:Option Addr) (cc:Nat) (pa:Option Addr) (pc:Nat) (da:Option Addr) (dc:Nat) (ps:List (Option Addr × Nat)) (calls:List (List Cl)) (B9 draws:List Int):Hp:=
 pr (ps.length=calls.length) (F3 58 1 ca calls.length cc ((ps.zip calls).flatMap Ez)*(BZ ps calls*(F3 3 1 pa B9.length pc (B9.map iv)*F3 5 1 da draws.length dc (draws.map SA))))
theorem SE {h:A2} {ca pa da:Option Addr} {cc pc dc:Nat} {ps:List (Option Addr × Nat)} {calls:List (List Cl)} {B9 draws:List Int} {R:Hp}:A7 h (Ss6 ca cc pa pc da dc ps calls B9 draws*R)↔ps.length=calls.length /\
  A7 h (F3 58 1 ca calls.length cc ((ps.zip calls).flatMap Ez)*(BZ ps calls*(F3 3 1 pa B9.length pc (B9.map iv)*(F3 5 1 da draws.length dc (draws.map SA)*R)))):=by
 unfold Ss6
 simp only [A7.pr,E7]
theorem SS1 {h:A2} {ca pa da:Option Addr} {cc pc dc:Nat} {ps:List (Option Addr × Nat)} {calls:List (List Cl)} {B9 draws:List Int} {R:Hp} (H:A7 h (Ss6 ca cc pa pc da dc ps calls B9 draws*R)):EO h ca calls.length pa B9.length da draws.length calls B9 draws:=by
 obtain ⟨hl,H⟩:=SE.1 H
 refine ⟨⟨rfl,λi hi=>?_,rfl,H.drop.drop.own.sees⟩,rfl,H.drop.drop.drop.own.sees⟩
 obtain ⟨p,hp,hs⟩:=LF hl H.drop i hi
 refine ⟨p.1,p.2,?_,hs⟩
 refine H.own.sees i _ ?_
 have hz:i < (ps.zip calls).length:=by rw [List.length_zip];omega
 have:=N3 (f:=Ez) (n:=1) (λ_=>rfl) hz (j:=0) (by decide)
 rw [Nat.mul_one,Nat.add_zero] at this
 rw [this]
 have hi2:i < ps.length:=by omega
 have e1:ps[i]=p:=by
  rw [List.getElem?_eq_getElem hi2] at hp
  exact Option.some.inj hp
 have e2:calls.getD i []=calls[i]:=by rw [List.getD_eq_getElem?_getD,List.getElem?_eq_getElem hi];rfl
 rw [e2]
 simp [Ez,e1]
theorem SH6:AH Tryz.prog 24=.slice 58:=by kernel_rfl
theorem ZU:J7 Tryz.prog 58=true:=by kernel_rfl
theorem SH7:Gw Tryz.prog 58=some (lQ none 0 0):=by kernel_rfl
theorem Ku:L7 Tryz.prog 58=1:=by kernel_rfl
theorem Yo:Eo Tryz.prog 58=24:=by kernel_rfl
theorem SS2:AH Tryz.prog 58=.slice 41:=by kernel_rfl
theorem Ss7:J7 Tryz.prog 41=true:=by kernel_rfl
theorem SS3:Gw Tryz.prog 41=some (.agg #[iQ 0,.int .u32 0,.int .u32 0]):=by kernel_rfl
theorem Pt:L7 Tryz.prog 41=3:=by kernel_rfl
theorem Ss8:Eo Tryz.prog 41=16:=by kernel_rfl
theorem SS4:AH Tryz.prog 25=.slice 3:=by kernel_rfl
theorem Ss9:J7 Tryz.prog 3=true:=by kernel_rfl
theorem SS5:Gw Tryz.prog 3=some (iQ 0):=by kernel_rfl
theorem Pu:L7 Tryz.prog 3=1:=by kernel_rfl
theorem St0:Eo Tryz.prog 3=8:=by kernel_rfl
theorem Ir {h:A2} {row:List Value} {t:TypeId}:N8 (h.push (oQ row.toArray t)) (some (aQ h.size)) row:=by
 intro i v hi
 refine ⟨_,rfl,?_⟩
 rw [E1,Nat.zero_add]
 exact E9 (t:=t) (row:=row) (by simp) hi
section
variable {K:kQ} {h:A2} {R:Hp}
theorem SS6 {a:Option Addr} {l c:Nat} {xs:List Cl} {x:Cl} {X:Hp} {F:kQ} (H:A7 h (F3 41 3 a l c (xs.flatMap Cc)*X)) (hl:l<=60000)
  (k:∀a' c' h',A7 h' (F3 41 3 a' (l+1) c' ((xs ++ [x]).flatMap Cc)*X)->F (lQ a' (l+1) c') h') :
  T2 Tryz.prog #[58,58] 58 #[lQ a l c,lQ (some (aQ h.size)) 1 1] (h.push (oQ #[iQ x.op,.int .u32 x.key,.int .u32 x.val] 41)) F:=by
 have H1:=H.push (oQ (Cc x).toArray 41)
 have hs:N8 (h.push (oQ (Cc x).toArray 41)) (some (aQ h.size)) (Cc x):=Ir
 have e:(oQ #[iQ x.op,.int .u32 x.key,.int .u32 x.val] 41:Obj)=oQ (Cc x).toArray 41:=rfl
 rw [e]
 have H2:A7 (h.push (oQ (Cc x).toArray 41)) (F3 41 (L7 Tryz.prog 41) a l c (xs.flatMap Cc)*X):=by
  rw [Pt];exact H1.drop
 refine H2.app SS2 Ss7 SS3 (by rw [Pt];rfl) hs (n:=1) (by rw [Pt];rfl) (by simp [Cc,J3]) (by rw [Ss8];omega) (by rw [Ss8];omega) λa' c' h' H3=>k a' c' h' ?_
 rw [Pt] at H3
 rw [List.flatMap_append,List.flatMap_singleton]
 exact H3
theorem SS7 {a:Option Addr} {l c:Nat} {xs:List Int} {x:Int} {X:Hp} {F:kQ} (H:A7 h (F3 3 1 a l c (xs.map iv)*X)) (hl:l<=60000)
  (k:∀a' c' h',A7 h' (F3 3 1 a' (l+1) c' ((xs ++ [x]).map iv)*X)->F (lQ a' (l+1) c') h') :
  T2 Tryz.prog #[25,25] 25 #[lQ a l c,lQ (some (aQ h.size)) 1 1] (h.push (oQ #[iQ x] 3)) F:=by
 have H1:=H.push (.cells [iv x].toArray 3)
 have hs:N8 (h.push (.cells [iv x].toArray 3)) (some (aQ h.size)) [iv x]:=Ir
 have e:(oQ #[iQ x] 3:Obj)=.cells [iv x].toArray 3:=rfl
 rw [e]
 have H2:A7 (h.push (.cells [iv x].toArray 3)) (F3 3 (L7 Tryz.prog 3) a l c (xs.map iv)*X):=by
  rw [Pu];exact H1.drop
 refine H2.app SS4 Ss9 SS5 (by rw [Pu];rfl) hs (n:=1) (by rw [Pu];rfl) (by simp [J3]) (by rw [St0];omega) (by rw [St0];omega) λa' c' h' H3=>k a' c' h' ?_
 rw [Pu] at H3
 rw [List.map_append]
 exact H3
theorem SS8 {a:Option Addr} {l c:Nat} {xs:List Int} {x:Int} {X:Hp} {F:kQ} (H:A7 h (F3 5 1 a l c (xs.map SA)*X)) (hl:l<=60000)
  (k:∀a' c' h',A7 h' (F3 5 1 a' (l+1) c' ((xs ++ [x]).map SA)*X)->F (lQ a' (l+1) c') h') :
  T2 Tryz.prog #[26,26] 26 #[lQ a l c,lQ (some (aQ h.size)) 1 1] (h.push (oQ #[.int .u8 x] 5)) F:=by
 have H1:=H.push (.cells [SA x].toArray 5)
 have hs:N8 (h.push (.cells [SA x].toArray 5)) (some (aQ h.size)) [SA x]:=Ir
 have e:(oQ #[.int .u8 x] 5:Obj)=.cells [SA x].toArray 5:=rfl
 rw [e]
 have H2:A7 (h.push (.cells [SA x].toArray 5)) (F3 5 (L7 Tryz.prog 5) a l c (xs.map SA)*X):=by
  rw [Jd];exact H1.drop
 refine H2.app Sr1 RF Sr2 (by rw [Jd];rfl) hs (n:=1) (by rw [Jd];rfl) (by simp [SA,J3]) (by rw [Pc];omega) (by rw [Pc];omega) λa' c' h' H3=>k a' c' h' ?_
 rw [Jd] at H3
 rw [List.map_append]
 exact H3
theorem SH8 {a:Option Addr} {l c:Nat} {ps:List (Option Addr × Nat)} {xs:List (List Cl)} {p:Option Addr × Nat} {x:List Cl} {n:Nat} {X:Hp} {F:kQ} (H:A7 h (F3 58 1 a l c ((ps.zip xs).flatMap Ez)*X)) (hz:ps.length=xs.length) (hn:n=x.length) (hl:l<=60000)
  (k:∀a' c' h',A7 h' (F3 58 1 a' (l+1) c' (((ps ++ [p]).zip (xs ++ [x])).flatMap Ez)*X)->F (lQ a' (l+1) c') h') :
  T2 Tryz.prog #[24,24] 24 #[lQ a l c,lQ (some (aQ h.size)) 1 1] (h.push (oQ #[lQ p.1 n p.2] 58)) F:=by
 subst hn
 have H1:=H.push (oQ (Ez (p,x)).toArray 58)
 have hs:N8 (h.push (oQ (Ez (p,x)).toArray 58)) (some (aQ h.size)) (Ez (p,x)):=Ir
 have e:(oQ #[lQ p.1 x.length p.2] 58:Obj)=oQ (Ez (p,x)).toArray 58:=rfl
 rw [e]
 have H2:A7 (h.push (oQ (Ez (p,x)).toArray 58)) (F3 58 (L7 Tryz.prog 58) a l c ((ps.zip xs).flatMap Ez)*X):=by
  rw [Ku];exact H1.drop
 refine H2.app SH6 ZU SH7 (by rw [Ku];rfl) hs (n:=1) (by rw [Ku];rfl) (by simp [Ez,J3]) (by rw [Yo];omega) (by rw [Yo];omega) λa' c' h' H3=>k a' c' h' ?_
 rw [Ku] at H3
 rw [List.zip_append hz,List.flatMap_append]
 exact H3
end
end
end Go.Proofs.YtahpbclnkofhfaaGreat
