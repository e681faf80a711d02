/- Part 10 of what the proofs of this seat rest on: see the last text of the claim. -/
import Derived.Test.YtahpbclnkofhfaaGreatQ78a914c7f108
import Derived.Test.YtahpbclnkofhfaaGreatProg
set_option linter.unusedSimpArgs false
set_option linter.unusedVariables false
set_option linter.ambiguousOpen false
set_option maxRecDepth 20000
open Go.Proofs.Tryz (prog)
open Go.IntKind (wrap)
namespace Go.Proofs.YtahpbclnkofhfaaGreat
section
set_option maxRecDepth 100000
variable {K:kQ} {h:A2}
def F65 (K:kQ) (h:A2) (xa xb:rQ):Prop:=
 (cf 105 #[pQ xb] h λa b=>C9 a λa=>R3 λI3=>(D4 (Option.isNone a) (I3 [dQ true] b) (I3 [dQ (Option.isNone xa)] b))/\(∀(b:vQ) (c:G4) (c:A2),(I3 [b] c)->(asBool b λb=>D4 b (K tQ c) (C7 (c.push (oQ #[pQ none,pQ none,pQ none] 202)) (aQ c.size) (pQ xa) λb=>C7 b ⟨c.size,1,none⟩ (pQ xb) λb=>C7 b ⟨c.size,2,none⟩ (pQ a) λb=>R3 λI11=>(nP a λd=>lI .i64 b d λd=>D4 (decide (d < 31)) (I11 [dQ true,dQ true] b) (nP a λd=>lI .i64 b d λd=>I11 [dQ (decide (d > 36)),dQ (decide (d > 36))] b))/\(∀(b d:vQ) (e:G4) (e:A2),(I11 [b,d] e)->(asBool b λb=>D4 b (cf 115 #[pQ xa,pQ xb] e λb b=>K tQ b) (nP a λb=>lI .i64 e (b.add 1) λb=>D4 (b == 90) (nP a λb=>bd 7 10 (lI .u64 e (b.add 9) λb=>nP a λd=>bd 8 10 (lI .u64 e (d.add 10) λd=>nP a λf=>bd 9 10 (lI .u64 e (f.add 11) λf=>cf 106 #[pQ xb,lQ (some (aQ e.size)) 3 3] (e.push (oQ #[uQ b,uQ d,uQ f] 178)) λb b=>K tQ b)))) (nP a λb=>lI .i64 e b λb=>D4 (b == 31) (M0 e c.size λb d f=>cf 116 #[.agg #[b,d,f]] e λb b=>K tQ b) (nP a λb=>lI .i64 e b λb=>D4 (b == 34) (M0 e c.size λb d f=>cf 117 #[.agg #[b,d,f]] e λb b=>K tQ b) (nP a λb=>lI .i64 e b λb=>D4 (b == 35) (M0 e c.size λb d f=>cf 118 #[.agg #[b,d,f]] e λb b=>K tQ b) (nP a λa=>lI .i64 e a λa=>D4 (a == 36) (M0 e c.size λa b d=>cf 119 #[.agg #[a,b,d]] e λa a=>K tQ a) (M0 e c.size λa b c=>cf 120 #[.agg #[a,b,c]] e λa a=>K tQ a))))))))))))
theorem call65 {xa xb:rQ} (H:F65 K h xa xb):A4 prog 65 #[(pQ xa),(pQ xb)] h K:=
 cQ Tryz.func65 H
def F115 (K:kQ) (h:A2) (xa xb:rQ):Prop:=
 (cf 105 #[pQ xb] h λa b=>C9 a λa=>R3 λI3=>(D4 (Option.isNone a) (I3 [dQ true,dQ true] b) (I3 [dQ (Option.isNone xa),dQ (Option.isNone xa)] b))/\(∀(b c:vQ) (d:G4) (d:A2),(I3 [b,c] d)->(asBool b λb=>D4 b (K tQ d) (nP a λb=>lI .i64 d b λb=>D4 (b == 30) (cf 176 #[.agg #[pQ xa,pQ xb,pQ a]] d λa a=>K tQ a) (cf 111 #[pQ xa,pQ xb] d λa a=>K tQ a)))))
theorem call115 {xa xb:rQ} (H:F115 K h xa xb):A4 prog 115 #[(pQ xa),(pQ xb)] h K:=
 cQ Tryz.func115 H
abbrev g116 (K:kQ) (h H1:A2):Prop:=
 (lP H1 ((aQ h.size).add 2) λa=>nP a λa=>lI .i64 H1 (a.add 1) λa=>D4 (decide (a<=2)) (M0 H1 h.size λa b c=>cf 177 #[.agg #[a,b,c]] H1 λa a=>K tQ a) (lP H1 ((aQ h.size).add 2) λa=>nP a λa=>lI .i64 H1 (a.add 1) λa=>D4 (decide (a<=6)) (M0 H1 h.size λa b c=>cf 178 #[.agg #[a,b,c]] H1 λa a=>K tQ a) (lP H1 ((aQ h.size).add 2) λa=>nP a λa=>lI .i64 H1 (a.add 1) λa=>D4 (decide (a<=10)) (M0 H1 h.size λa b c=>cf 179 #[.agg #[a,b,c]] H1 λa a=>K tQ a) (lP H1 ((aQ h.size).add 2) λa=>nP a λa=>lI .i64 H1 (a.add 1) λa=>D4 (decide (a<=14)) (M0 H1 h.size λa b c=>cf 180 #[.agg #[a,b,c]] H1 λa a=>K tQ a) (M0 H1 h.size λa b c=>cf 181 #[.agg #[a,b,c]] H1 λa a=>K tQ a)))))
def F116 (K:kQ) (h:A2) (xa xb xc:rQ):Prop:=
 (g116 K h (h.push (oQ #[pQ xa,pQ xb,pQ xc] 204)))
theorem call116 {xa xb xc:rQ} (H:F116 K h xa xb xc):A4 prog 116 #[(.agg #[(pQ xa),(pQ xb),(pQ xc)])] h K:=
 cQ Tryz.func116 H
abbrev g117 (K:kQ) (h H1:A2):Prop:=
 (lP H1 ((aQ h.size).add 2) λa=>nP a λb=>lI .i64 H1 (b.add 1) λb=>D4 (b == 0) (D2 H1 (aQ h.size) λc=>C9 c λd=>I8 H1 (aQ h.size) λe f g=>nP a λi=>cf 182 #[.agg #[e,f,g],uQ 1,uQ 0] H1 λe f=>asInt .i64 e λe=>ce f h.size 0 c (cf 147 #[pQ d,iQ e] f λc d=>asInt .u64 c λc=>bd 0 10 (C7 d (i.add 2) (uQ c) λc=>nP a λd=>bd 0 10 (lI .u64 c (d.add 2) λd=>nP a λe=>bd 0 10 (D2 c (e.add 2) λf=>asInt .u64 f λg=>nP a λi=>nP a λj=>cf 183 #[uQ d] c λc d=>asInt .u64 c λc=>((A3 d (e.add 2))=(some f))/\(cf 183 #[uQ g] d λd e=>asInt .u64 d λd=>bd 1 10 (C7 e (i.add 3) (uQ c) λc=>bd 2 10 (C7 c (j.add 4) (uQ d) λc=>nP a λd=>C7 c (d.add 1) (iQ 1) λc=>nP a λd=>bd 0 10 (lI .u64 c (d.add 2) λd=>cf 184 #[uQ d] c λc d=>asBool c λc=>D4 (!c) (I8 d (aQ h.size) λc e f=>cf 185 #[.agg #[c,e,f],uQ 0] d λc c=>K tQ c) (K tQ d)))))))))) (D4 (b == 1) (D2 H1 (aQ h.size) λc=>C9 c λd=>I8 H1 (aQ h.size) λe f g=>nP a λi=>bd 1 10 (lI .u64 H1 (i.add 3) λi=>cf 182 #[.agg #[e,f,g],uQ i,uQ 0] H1 λe f=>asInt .i64 e λe=>ce f h.size 0 c (cf 147 #[pQ d,iQ e] f λc d=>asInt .u64 c λc=>nP a λe=>cf 183 #[uQ c] d λd f=>asInt .u64 d λd=>bd 2 10 (C7 f (e.add 4) (uQ d) λd=>nP a λe=>C7 d (e.add 1) (iQ 2) λd=>cf 184 #[uQ c] d λd e=>asBool d λd=>D4 d (nP a λd=>cf 183 #[uQ c] e λc f=>asInt .u64 c λc=>bd 1 10 (C7 f (d.add 3) (uQ c) λc=>nP a λd=>C7 c (d.add 1) (iQ 1) λc=>K tQ c)) (K tQ e))))) (D4 (b == 2) (I8 H1 (aQ h.size) λc d e=>nP a λf=>bd 1 10 (lI .u64 H1 (f.add 3) λf=>((A3 (H1.push (oQ #[uQ f] 178)) (aQ h.size))=(some c))/\(((A3 (H1.push (oQ #[uQ f] 178)) ((aQ h.size).add 1))=(some d))/\(((A3 (H1.push (oQ #[uQ f] 178)) ((aQ h.size).add 2))=(some e))/\(cf 186 #[.agg #[c,d,e],iQ 3,iQ 36,lQ (some (aQ H1.size)) 1 1] (H1.push (oQ #[uQ f] 178)) λc c=>K tQ c))))) (D4 (b == 3) (I8 H1 (aQ h.size) λc d e=>I8 H1 (aQ h.size) λf g i=>nP a λj=>bd 0 10 (D2 H1 (j.add 2) λk=>asInt .u64 k λl=>nP a λm=>bd 2 10 (D2 H1 (m.add 4) λn=>asInt .u64 n λo=>cf 182 #[.agg #[f,g,i],uQ 1,uQ 0] H1 λf g=>asInt .i64 f λf=>((A3 g (m.add 4))=(some n))/\(((A3 g (j.add 2))=(some k))/\(ce g h.size 0 c (((A3 g ((aQ h.size).add 1))=(some d))/\(((A3 g ((aQ h.size).add 2))=(some e))/\(cf 187 #[.agg #[c,d,e],iQ f,uQ l,uQ o,dQ false] g λc d=>asBool c λc=>nP a λc=>C7 d (c.add 1) (iQ 4) λc=>K tQ c)))))))) (D4 (b == 4) (I8 H1 (aQ h.size) λb c d=>nP a λe=>bd 0 10 (lI .u64 H1 (e.add 2) λe=>nP a λa=>bd 2 10 (D2 H1 (a.add 4) λf=>asInt .u64 f λg=>cf 183 #[uQ e] H1 λe i=>asInt .u64 e λe=>((A3 i (a.add 4))=(some f))/\(ce i h.size 0 b (((A3 i ((aQ h.size).add 1))=(some c))/\(((A3 i ((aQ h.size).add 2))=(some d))/\(((A3 (i.push (oQ #[uQ e,uQ g] 178)) (aQ h.size))=(some b))/\(((A3 (i.push (oQ #[uQ e,uQ g] 178)) ((aQ h.size).add 1))=(some c))/\(((A3 (i.push (oQ #[uQ e,uQ g] 178)) ((aQ h.size).add 2))=(some d))/\(cf 186 #[.agg #[b,c,d],iQ 5,iQ 35,lQ (some (aQ i.size)) 2 2] (i.push (oQ #[uQ e,uQ g] 178)) λa a=>K tQ a)))))))))) (I8 H1 (aQ h.size) λa b c=>cf 185 #[.agg #[a,b,c],uQ 0] H1 λa a=>K tQ a))))))
def F117 (K:kQ) (h:A2) (xa xb xc:rQ):Prop:=
 (g117 K h (h.push (oQ #[pQ xa,pQ xb,pQ xc] 205)))
theorem call117 {xa xb xc:rQ} (H:F117 K h xa xb xc):A4 prog 117 #[(.agg #[(pQ xa),(pQ xb),(pQ xc)])] h K:=
 cQ Tryz.func117 H
abbrev g118 (K:kQ) (h H1:A2):Prop:=
 (lP H1 ((aQ h.size).add 2) λa=>nP a λb=>lI .i64 H1 (b.add 1) λb=>D4 (b == 0) (lP H1 (aQ h.size) λc=>cf 188 #[pQ c,iQ 1,uQ 1] H1 λc d=>asInt .u64 c λc=>nP a λc=>C7 d (c.add 1) (iQ 1) λc=>K tQ c) (D4 (b == 1) (nP a λb=>bd 0 10 (lI .u64 H1 (b.add 2) λb=>nP a λc=>bd 1 10 (lI .u64 H1 (c.add 3) λc=>D4 (b == c) (lP H1 ((aQ h.size).add 1) λb=>cf 106 #[pQ b,lQ none 0 0] H1 λb b=>K tQ b) (D2 H1 (aQ h.size) λb=>C9 b λc=>I8 H1 (aQ h.size) λd e f=>nP a λg=>bd 0 10 (lI .u64 H1 (g.add 2) λg=>nP a λi=>cf 182 #[.agg #[d,e,f],uQ g,uQ 0] H1 λd e=>asInt .i64 d λd=>ce e h.size 0 b (cf 147 #[pQ c,iQ d] e λb c=>asInt .u64 b λb=>cf 183 #[uQ b] c λb c=>asInt .u64 b λb=>bd 2 10 (C7 c (i.add 4) (uQ b) λb=>nP a λc=>C7 b (c.add 1) (iQ 2) λb=>K tQ b))))))) (nP a λb=>bd 0 10 (lI .u64 H1 (b.add 2) λb=>nP a λc=>bd 2 10 (lI .u64 H1 (c.add 4) λc=>nP a λa=>bd 0 10 (C7 H1 (a.add 2) (uQ c) λa=>I8 a (aQ h.size) λc d e=>cf 186 #[.agg #[c,d,e],iQ 1,iQ 5,lQ (some (aQ a.size)) 1 1] (a.push (oQ #[uQ b] 178)) λa a=>K tQ a))))))
def F118 (K:kQ) (h:A2) (xa xb xc:rQ):Prop:=
 (g118 K h (h.push (oQ #[pQ xa,pQ xb,pQ xc] 206)))
theorem call118 {xa xb xc:rQ} (H:F118 K h xa xb xc):A4 prog 118 #[(.agg #[(pQ xa),(pQ xb),(pQ xc)])] h K:=
 cQ Tryz.func118 H
abbrev g119 (K:kQ) (h H1:A2):Prop:=
 (lP H1 ((aQ h.size).add 2) λa=>nP a λb=>lI .i64 H1 (b.add 1) λb=>D4 (b == 0) (lP H1 (aQ h.size) λc=>nP a λd=>cf 147 #[pQ c,iQ 1] H1 λc e=>asInt .u64 c λc=>bd 1 10 (C7 e (d.add 3) (uQ c) λc=>lP c (aQ h.size) λd=>nP a λe=>cf 79 #[pQ d] c λc d=>asAgg c λc=>G3 c 15 (O8 c λc f g i j k l m n o p q r s t=>cf 139 #[.agg #[c,f,g,i,j,k,l,m,n,o,p,q,r,s,t]] d λc d=>asAgg c λc=>G3 c 7 (Jv c λc c c c f f f=>asInt .i64 c λc=>bd 2 10 (C7 d (e.add 4) (uQ (wrap .u64 (wrap .i64 (c - 1)))) λc=>nP a λd=>C7 c (d.add 1) (iQ 1) λc=>K tQ c))))) (D4 (b == 1) (nP a λc=>bd 2 10 (lI .u64 H1 (c.add 4) λc=>D4 (c == 0) (lP H1 ((aQ h.size).add 1) λc=>cf 106 #[pQ c,lQ none 0 0] H1 λc c=>K tQ c) (D2 H1 (aQ h.size) λc=>C9 c λd=>I8 H1 (aQ h.size) λe f g=>nP a λi=>bd 2 10 (lI .u64 H1 (i.add 4) λi=>nP a λj=>cf 182 #[.agg #[e,f,g],uQ 1,uQ i] H1 λe f=>asInt .i64 e λe=>ce f h.size 0 c (cf 147 #[pQ d,iQ e] f λc d=>asInt .u64 c λc=>bd 3 10 (C7 d (j.add 5) (uQ c) λc=>nP a λd=>bd 3 10 (lI .u64 c (d.add 5) λd=>nP a λe=>cf 183 #[uQ d] c λc d=>asInt .u64 c λc=>bd 4 10 (C7 d (e.add 6) (uQ c) λc=>nP a λd=>C7 c (d.add 1) (iQ 2) λc=>nP a λd=>bd 4 10 (lI .u64 c (d.add 6) λd=>D4 (d == 2) (M0 c h.size λd e f=>cf 189 #[.agg #[d,e,f]] c λd d=>K tQ d) (K tQ c)))))))))) (D4 (b == 2) (I8 H1 (aQ h.size) λc d e=>nP a λf=>bd 5 10 (lI .u64 H1 (f.add 7) λf=>nP a λg=>bd 4 10 (lI .u64 H1 (g.add 6) λg=>cf 190 #[.agg #[c,d,e],uQ f,uQ g] H1 λc c=>nP a λd=>bd 5 10 (lI .u64 c (d.add 7) λd=>nP a λe=>bd 5 10 (C7 c (e.add 7) (uQ (wrap .u64 (d+1))) λc=>nP a λd=>C7 c (d.add 1) (iQ 3) λc=>K tQ c))))) (D4 (b == 3) (nP a λb=>C7 H1 (b.add 1) (iQ 4) λb=>lP b (aQ h.size) λc=>nP a λd=>bd 1 10 (D2 b (d.add 3) λe=>asInt .u64 e λf=>cf 147 #[pQ c,iQ 1] b λb c=>asInt .u64 b λb=>((A3 c (d.add 3))=(some e))/\(D4 (b != f) (nP a λa=>C7 c (a.add 1) (iQ 0) λa=>K tQ a) (K tQ c)))) (M0 H1 h.size λa b c=>cf 191 #[.agg #[a,b,c]] H1 λa a=>K tQ a)))))
def F119 (K:kQ) (h:A2) (xa xb xc:rQ):Prop:=
 (g119 K h (h.push (oQ #[pQ xa,pQ xb,pQ xc] 207)))
theorem call119 {xa xb xc:rQ} (H:F119 K h xa xb xc):A4 prog 119 #[(.agg #[(pQ xa),(pQ xb),(pQ xc)])] h K:=
 cQ Tryz.func119 H
abbrev g120 (K:kQ) (h H1:A2):Prop:=
 (lP H1 ((aQ h.size).add 2) λa=>nP a λa=>lI .i64 H1 (a.add 1) λa=>D4 (decide (a<=4)) (M0 H1 h.size λa b c=>cf 192 #[.agg #[a,b,c]] H1 λa a=>K tQ a) (lP H1 ((aQ h.size).add 2) λa=>nP a λa=>lI .i64 H1 (a.add 1) λa=>D4 (decide (a<=8)) (M0 H1 h.size λa b c=>cf 193 #[.agg #[a,b,c]] H1 λa a=>K tQ a) (lP H1 ((aQ h.size).add 2) λa=>nP a λa=>lI .i64 H1 (a.add 1) λa=>D4 (decide (a<=10)) (M0 H1 h.size λa b c=>cf 194 #[.agg #[a,b,c]] H1 λa a=>K tQ a) (M0 H1 h.size λa b c=>cf 195 #[.agg #[a,b,c]] H1 λa a=>K tQ a))))
def F120 (K:kQ) (h:A2) (xa xb xc:rQ):Prop:=
 (g120 K h (h.push (oQ #[pQ xa,pQ xb,pQ xc] 208)))
theorem call120 {xa xb xc:rQ} (H:F120 K h xa xb xc):A4 prog 120 #[(.agg #[(pQ xa),(pQ xb),(pQ xc)])] h K:=
 cQ Tryz.func120 H
abbrev g176 (K:kQ) (h H1:A2):Prop:=
 (lP H1 ((aQ h.size).add 2) λa=>nP a λb=>lI .i64 H1 (b.add 1) λb=>D4 (b == 0) (M0 H1 h.size λc d e=>cf 262 #[.agg #[c,d,e]] H1 λc c=>K tQ c) (D4 (b == 1) (D2 H1 (aQ h.size) λc=>C9 c λd=>I8 H1 (aQ h.size) λe f g=>I8 H1 (aQ h.size) λi j k=>nP a λl=>bd 3 10 (D2 H1 (l.add 5) λm=>asInt .u64 m λn=>cf 264 #[.agg #[i,j,k]] H1 λi j=>asInt .i64 i λi=>((A3 j (l.add 5))=(some m))/\(ce j h.size 0 e (((A3 j ((aQ h.size).add 1))=(some f))/\(((A3 j ((aQ h.size).add 2))=(some g))/\(ce j h.size 0 c (cf 263 #[.agg #[e,f,g],iQ (wrap .i64 (2*i))] j λe f=>asInt .i64 e λe=>((A3 f (l.add 5))=(some m))/\(ce f h.size 0 c (cf 212 #[pQ d,iQ e,uQ n] f λc c=>nP a λd=>C7 c (d.add 1) (iQ 2) λc=>K tQ c))))))))) (D4 (b == 2) (D2 H1 (aQ h.size) λc=>C9 c λd=>I8 H1 (aQ h.size) λe f g=>nP a λi=>bd 3 10 (D2 H1 (i.add 5) λj=>asInt .u64 j λk=>I8 H1 (aQ h.size) λl m n=>nP a λo=>cf 264 #[.agg #[l,m,n]] H1 λl m=>asInt .i64 l λl=>((A3 m (i.add 5))=(some j))/\(ce m h.size 0 e (((A3 m ((aQ h.size).add 1))=(some f))/\(((A3 m ((aQ h.size).add 2))=(some g))/\(ce m h.size 0 c (cf 265 #[.agg #[e,f,g],uQ k,iQ (wrap .i64 (5+l))] m λe f=>asInt .i64 e λe=>ce f h.size 0 c (cf 147 #[pQ d,iQ e] f λc d=>asInt .u64 c λc=>bd 4 10 (C7 d (o.add 6) (uQ c) λc=>nP a λd=>C7 c (d.add 1) (iQ 3) λc=>I8 c (aQ h.size) λd e f=>cf 266 #[.agg #[d,e,f]] c λc d=>asInt .u64 c λc=>D4 (c == 2) (M0 d h.size λc e f=>cf 267 #[.agg #[c,e,f]] d λc c=>K tQ c) (K tQ d)))))))))) (D4 (b == 3) (D2 H1 (aQ h.size) λc=>C9 c λd=>I8 H1 (aQ h.size) λe f g=>I8 H1 (aQ h.size) λi j k=>I8 H1 (aQ h.size) λl m n=>cf 264 #[.agg #[i,j,k]] H1 λi j=>asInt .i64 i λi=>ce j h.size 0 l (((A3 j ((aQ h.size).add 1))=(some m))/\(((A3 j ((aQ h.size).add 2))=(some n))/\(ce j h.size 0 e (((A3 j ((aQ h.size).add 1))=(some f))/\(((A3 j ((aQ h.size).add 2))=(some g))/\(ce j h.size 0 c (cf 263 #[.agg #[e,f,g],iQ (wrap .i64 ((wrap .i64 (2*i))+1))] j λe f=>asInt .i64 e λe=>ce f h.size 0 l (((A3 f ((aQ h.size).add 1))=(some m))/\(((A3 f ((aQ h.size).add 2))=(some n))/\(ce f h.size 0 c (cf 266 #[.agg #[l,m,n]] f λf g=>asInt .u64 f λf=>ce g h.size 0 c (cf 212 #[pQ d,iQ e,uQ f] g λc c=>nP a λd=>C7 c (d.add 1) (iQ 4) λc=>K tQ c))))))))))))) (D4 (b == 4) (M0 H1 h.size λc d e=>cf 268 #[.agg #[c,d,e]] H1 λc c=>K tQ c) (D4 (b == 5) (nP a λb=>C7 H1 (b.add 1) (iQ 6) λb=>D2 b (aQ h.size) λc=>C9 c λd=>I8 b (aQ h.size) λe f g=>I8 b (aQ h.size) λi j k=>cf 266 #[.agg #[i,j,k]] b λb i=>asInt .u64 b λb=>ce i h.size 0 e (((A3 i ((aQ h.size).add 1))=(some f))/\(((A3 i ((aQ h.size).add 2))=(some g))/\(ce i h.size 0 c (cf 265 #[.agg #[e,f,g],uQ b,iQ 5] i λb e=>asInt .i64 b λb=>ce e h.size 0 c (cf 147 #[pQ d,iQ b] e λb c=>asInt .u64 b λb=>cf 226 #[uQ b] c λb c=>asBool b λb=>D4 b (M0 c h.size λb d e=>cf 269 #[.agg #[b,d,e]] c λb b=>K tQ b) (K tQ c))))))) (D2 H1 (aQ h.size) λb=>C9 b λc=>I8 H1 (aQ h.size) λd e f=>I8 H1 (aQ h.size) λg i j=>nP a λa=>bd 0 10 (D2 H1 (a.add 2) λk=>asInt .u64 k λl=>cf 266 #[.agg #[g,i,j]] H1 λg i=>asInt .u64 g λg=>((A3 i (a.add 2))=(some k))/\(ce i h.size 0 d (((A3 i ((aQ h.size).add 1))=(some e))/\(((A3 i ((aQ h.size).add 2))=(some f))/\(ce i h.size 0 b (cf 265 #[.agg #[d,e,f],uQ g,iQ 0] i λd e=>asInt .i64 d λd=>((A3 e (a.add 2))=(some k))/\(ce e h.size 0 b (cf 147 #[pQ c,iQ d] e λb c=>asInt .u64 b λb=>((A3 c (a.add 2))=(some k))/\(D4 (decide (b < l)) (M0 c h.size λa b d=>cf 269 #[.agg #[a,b,d]] c λa a=>K tQ a) (M0 c h.size λa b d=>cf 267 #[.agg #[a,b,d]] c λa a=>K tQ a)))))))))))))))))
def F176 (K:kQ) (h:A2) (xa xb xc:rQ):Prop:=
 (g176 K h (h.push (oQ #[pQ xa,pQ xb,pQ xc] 254)))
theorem call176 {xa xb xc:rQ} (H:F176 K h xa xb xc):A4 prog 176 #[(.agg #[(pQ xa),(pQ xb),(pQ xc)])] h K:=
 cQ Tryz.func176 H
abbrev g177 (K:kQ) (h H1:A2):Prop:=
 (lP H1 ((aQ h.size).add 2) λa=>nP a λb=>lI .i64 H1 (b.add 1) λb=>D4 (b == 0) (I8 H1 (aQ h.size) λc d e=>cf 186 #[.agg #[c,d,e],iQ 1,iQ 1,lQ none 0 0] H1 λc c=>K tQ c) (D4 (b == 1) (lP H1 ((aQ h.size).add 1) λc=>nP c λc=>bd 0 3 (lI .u64 H1 (c.add 2) λc=>nP a λd=>bd 2 10 (C7 H1 (d.add 4) (uQ c) λc=>nP a λd=>bd 2 10 (lI .u64 c (d.add 4) λd=>D4 (d != 0) (nP a λd=>C7 c (d.add 1) (iQ 2) λd=>K tQ d) (R3 λI22=>(nP a λd=>bd 5 10 (lI .u64 c (d.add 7) λd=>D4 (d == 0) (lP c ((aQ h.size).add 1) λd=>nP d λd=>cf 211 #[pQ (some (d.add 8))] c λd e=>asInt .i64 d λd=>I22 [dQ (decide (d > 0)),dQ (decide (d > 0))] e) (I22 [dQ false,dQ false] c)))/\(∀(c d:vQ) (e:G4) (e:A2),(I22 [c,d] e)->(asBool c λc=>D4 c (nP a λc=>bd 5 10 (C7 e (c.add 7) (uQ 1) λc=>I8 c (aQ h.size) λd f g=>cf 186 #[.agg #[d,f,g],iQ 0,iQ 6,lQ none 0 0] c λc c=>K tQ c)) (I8 e (aQ h.size) λc d f=>cf 185 #[.agg #[c,d,f],uQ 1] e λc c=>K tQ c)))))))) (D4 (b == 2) (nP a λb=>bd 0 10 (D2 H1 (b.add 2) λc=>asInt .u64 c λd=>lP H1 (aQ h.size) λe=>nP a λf=>cf 188 #[pQ e,iQ 3,uQ 1] H1 λe g=>asInt .u64 e λe=>((A3 g (b.add 2))=(some c))/\(cf 249 #[.int .u32 (wrap .u32 d),.int .u32 (wrap .u32 e)] g λb c=>asInt .u64 b λb=>bd 4 10 (C7 c (f.add 6) (uQ b) λb=>lP b (aQ h.size) λc=>D2 b (aQ h.size) λd=>C9 d λe=>nP a λf=>cf 214 #[pQ c] b λb c=>C9 b λb=>ce c h.size 0 d (cf 79 #[pQ e] c λc d=>asAgg c λc=>G3 c 15 (O8 c λc e g i j k l m n o p q r s t=>cf 139 #[.agg #[c,e,g,i,j,k,l,m,n,o,p,q,r,s,t]] d λc d=>asAgg c λc=>G3 c 7 (Jv c λc c c c e e e=>asInt .i64 c λc=>cf 250 #[pQ b,iQ c] d λb c=>asInt .i64 b λb=>bd 3 10 (C7 c (f.add 5) (uQ (wrap .u64 b)) λb=>nP a λa=>C7 b (a.add 1) (iQ 3) λa=>K tQ a)))))))) (K tQ H1))))
def F177 (K:kQ) (h:A2) (xa xb xc:rQ):Prop:=
 (g177 K h (h.push (oQ #[pQ xa,pQ xb,pQ xc] 204)))
theorem call177 {xa xb xc:rQ} (H:F177 K h xa xb xc):A4 prog 177 #[(.agg #[(pQ xa),(pQ xb),(pQ xc)])] h K:=
 cQ Tryz.func177 H
abbrev g178 (K:kQ) (h H1:A2):Prop:=
 (lP H1 ((aQ h.size).add 2) λa=>nP a λb=>bd 2 10 (lI .u64 H1 (b.add 4) λb=>R3 λI5=>(nP a λc=>lI .i64 H1 (c.add 1) λc=>D4 (c == 3) (D2 H1 (aQ h.size) λd=>C9 d λe=>I8 H1 (aQ h.size) λf g i=>nP a λj=>bd 4 10 (D2 H1 (j.add 6) λk=>asInt .u64 k λl=>cf 270 #[.agg #[f,g,i],uQ b,iQ 0] H1 λf g=>asInt .i64 f λf=>((A3 g (j.add 6))=(some k))/\(ce g h.size 0 d (cf 212 #[pQ e,iQ f,uQ l] g λd d=>I5 [dQ true,tQ,tQ,tQ] d)))) (D4 (c == 4) (D2 H1 (aQ h.size) λd=>C9 d λe=>I8 H1 (aQ h.size) λf g i=>nP a λj=>bd 1 10 (D2 H1 (j.add 3) λk=>asInt .u64 k λl=>cf 270 #[.agg #[f,g,i],uQ b,iQ 1] H1 λf g=>asInt .i64 f λf=>((A3 g (j.add 3))=(some k))/\(ce g h.size 0 d (cf 212 #[pQ e,iQ f,uQ l] g λd d=>I5 [dQ false,dQ true,tQ,tQ] d)))) (D4 (c == 5) (D2 H1 (aQ h.size) λd=>C9 d λe=>I8 H1 (aQ h.size) λf g i=>cf 270 #[.agg #[f,g,i],uQ b,iQ 2] H1 λf g=>asInt .i64 f λf=>ce g h.size 0 d (cf 212 #[pQ e,iQ f,uQ 1] g λd d=>I5 [dQ false,dQ false,dQ true,tQ] d)) (D4 (c == 6) (D2 H1 (aQ h.size) λc=>C9 c λd=>I8 H1 (aQ h.size) λe f g=>nP a λi=>bd 3 10 (D2 H1 (i.add 5) λj=>asInt .u64 j λk=>cf 270 #[.agg #[e,f,g],uQ b,iQ 3] H1 λb e=>asInt .i64 b λb=>((A3 e (i.add 5))=(some j))/\(ce e h.size 0 c (cf 212 #[pQ d,iQ b,uQ k] e λb b=>I5 [dQ false,dQ false,dQ false,dQ true] b)))) (I5 [dQ false,dQ false,dQ false,dQ false] H1)))))/\(∀(b c d e:vQ) (f:G4) (f:A2),(I5 [b,c,d,e] f)->(nP a λb=>lI .i64 f (b.add 1) λb=>nP a λa=>C7 f (a.add 1) (iQ (wrap .i64 (b+1))) λa=>K tQ a))))
def F178 (K:kQ) (h:A2) (xa xb xc:rQ):Prop:=
 (g178 K h (h.push (oQ #[pQ xa,pQ xb,pQ xc] 204)))
theorem call178 {xa xb xc:rQ} (H:F178 K h xa xb xc):A4 prog 178 #[(.agg #[(pQ xa),(pQ xb),(pQ xc)])] h K:=
 cQ Tryz.func178 H
abbrev g179 (K:kQ) (h H1:A2):Prop:=
 (lP H1 ((aQ h.size).add 2) λa=>nP a λb=>bd 2 10 (lI .u64 H1 (b.add 4) λb=>nP a λc=>lI .i64 H1 (c.add 1) λc=>D4 (c == 7) (I8 H1 (aQ h.size) λd e f=>nP a λg=>bd 4 10 (lI .u64 H1 (g.add 6) λg=>((A3 (H1.push (oQ #[uQ g] 178)) (aQ h.size))=(some d))/\(((A3 (H1.push (oQ #[uQ g] 178)) ((aQ h.size).add 1))=(some e))/\(((A3 (H1.push (oQ #[uQ g] 178)) ((aQ h.size).add 2))=(some f))/\(cf 186 #[.agg #[d,e,f],iQ 8,iQ 30,lQ (some (aQ H1.size)) 1 1] (H1.push (oQ #[uQ g] 178)) λd d=>K tQ d))))) (D4 (c == 8) (lP H1 ((aQ h.size).add 1) λd=>nP d λd=>bd 0 3 (lI .u64 H1 (d.add 2) λd=>nP a λe=>bd 7 10 (C7 H1 (e.add 9) (uQ d) λd=>D2 d (aQ h.size) λe=>C9 e λf=>I8 d (aQ h.size) λg i j=>nP a λk=>cf 182 #[.agg #[g,i,j],uQ b,uQ 0] d λd g=>asInt .i64 d λd=>ce g h.size 0 e (cf 147 #[pQ f,iQ d] g λd e=>asInt .u64 d λd=>bd 6 10 (C7 e (k.add 8) (uQ d) λd=>nP a λe=>C7 d (e.add 1) (iQ 9) λd=>K tQ d))))) (D4 (c == 9) (D2 H1 (aQ h.size) λd=>C9 d λe=>I8 H1 (aQ h.size) λf g i=>nP a λj=>bd 6 10 (D2 H1 (j.add 8) λk=>asInt .u64 k λl=>D2 H1 ((aQ h.size).add 1) λm=>C9 m λn=>nP n λn=>D2 H1 (n.add 6) λo=>D3 o λp q r=>bd 0 (q:Int) (F3 (pQ p) λp=>D2 H1 p λq=>asInt .u64 q λr=>cf 182 #[.agg #[f,g,i],uQ b,uQ 0] H1 λf g=>asInt .i64 f λf=>((A3 g p)=(some q))/\(((A3 g (n.add 6))=(some o))/\(((A3 g ((aQ h.size).add 1))=(some m))/\(((A3 g (j.add 8))=(some k))/\(ce g h.size 0 d (cf 228 #[uQ l,iQ (wrap .i64 r),dQ false] g λg i=>asInt .u64 g λg=>ce i h.size 0 d (cf 212 #[pQ e,iQ f,uQ g] i λd d=>nP a λe=>C7 d (e.add 1) (iQ 10) λd=>K tQ d))))))))) (D4 (c == 10) (nP a λc=>bd 5 10 (C7 H1 (c.add 7) (uQ 1) λc=>nP a λd=>C7 c (d.add 1) (iQ 7) λc=>I8 c (aQ h.size) λd e f=>I8 c (aQ h.size) λg i j=>lP c ((aQ h.size).add 1) λk=>nP k λk=>lS c (k.add 5) λk l m=>bd 0 (l:Int) (F3 (pQ k) λk=>lI .u64 c k λk=>D2 c ((aQ h.size).add 1) λl=>C9 l λm=>nP m λm=>D2 c (m.add 7) λn=>D3 n λo p q=>bd 0 (p:Int) (F3 (pQ o) λo=>D2 c o λp=>asInt .u64 p λq=>cf 182 #[.agg #[g,i,j],uQ k,uQ 0] c λc g=>asInt .i64 c λc=>((A3 g o)=(some p))/\(((A3 g (m.add 7))=(some n))/\(((A3 g ((aQ h.size).add 1))=(some l))/\(ce g h.size 0 d (((A3 g ((aQ h.size).add 1))=(some e))/\(((A3 g ((aQ h.size).add 2))=(some f))/\(cf 187 #[.agg #[d,e,f],iQ c,uQ q,uQ b,dQ false] g λb c=>asBool b λb=>D4 b (nP a λa=>C7 c (a.add 1) (iQ 11) λa=>K tQ a) (K tQ c))))))))))) (K tQ H1))))))
def F179 (K:kQ) (h:A2) (xa xb xc:rQ):Prop:=
 (g179 K h (h.push (oQ #[pQ xa,pQ xb,pQ xc] 204)))
theorem call179 {xa xb xc:rQ} (H:F179 K h xa xb xc):A4 prog 179 #[(.agg #[(pQ xa),(pQ xb),(pQ xc)])] h K:=
 cQ Tryz.func179 H
abbrev g180 (K:kQ) (h H1:A2):Prop:=
 (lP H1 ((aQ h.size).add 2) λa=>nP a λb=>bd 2 10 (lI .u64 H1 (b.add 4) λb=>nP a λc=>bd 5 10 (lI .u64 H1 (c.add 7) λc=>nP a λd=>lI .i64 H1 (d.add 1) λd=>D4 (d == 11) (nP a λe=>bd 3 10 (lI .u64 H1 (e.add 5) λe=>D4 (decide (c >= e)) (nP a λe=>C7 H1 (e.add 1) (iQ 17) λe=>K tQ e) (nP a λe=>C7 H1 (e.add 1) (iQ 12) λe=>D2 e (aQ h.size) λf=>C9 f λg=>I8 e (aQ h.size) λi j k=>cf 182 #[.agg #[i,j,k],uQ b,uQ 0] e λe i=>asInt .i64 e λe=>ce i h.size 0 f (cf 147 #[pQ g,iQ e] i λe f=>asInt .u64 e λe=>cf 184 #[uQ e] f λe f=>asBool e λe=>D4 e (nP a λe=>C7 f (e.add 1) (iQ 17) λe=>K tQ e) (K tQ f))))) (D4 (d == 12) (nP a λe=>C7 H1 (e.add 1) (iQ 13) λe=>lP e ((aQ h.size).add 1) λf=>nP f λf=>lS e (f.add 6) λf g i=>bd c (g:Int) (F3 (pQ f) λf=>lI .u64 e (f.add (c.toNat*1)) λf=>R3 λI46=>(D4 (f != 2) (nP a λg=>bd 7 10 (lI .u64 e (g.add 9) λg=>D4 (f == g) (I46 [dQ true,dQ true] e) (D2 e (aQ h.size) λg=>C9 g λi=>I8 e (aQ h.size) λj k l=>cf 182 #[.agg #[j,k,l],uQ f,uQ 0] e λf j=>asInt .i64 f λf=>ce j h.size 0 g (cf 147 #[pQ i,iQ f] j λf g=>asInt .u64 f λf=>cf 184 #[uQ f] g λf g=>asBool f λf=>I46 [dQ f,dQ f] g)))) (I46 [tQ,dQ false] e))/\(∀(e f:vQ) (g:G4) (g:A2),(I46 [e,f] g)->(asBool f λe=>D4 e (nP a λe=>C7 g (e.add 1) (iQ 17) λe=>K tQ e) (K tQ g))))) (D4 (d == 13) (D2 H1 (aQ h.size) λe=>C9 e λf=>I8 H1 (aQ h.size) λg i j=>nP a λk=>cf 182 #[.agg #[g,i,j],uQ b,uQ c] H1 λg i=>asInt .i64 g λg=>ce i h.size 0 e (cf 147 #[pQ f,iQ g] i λe f=>asInt .u64 e λe=>bd 6 10 (C7 f (k.add 8) (uQ e) λe=>nP a λf=>C7 e (f.add 1) (iQ 14) λe=>K tQ e))) (D4 (d == 14) (D2 H1 (aQ h.size) λd=>C9 d λe=>I8 H1 (aQ h.size) λf g i=>nP a λj=>bd 6 10 (D2 H1 (j.add 8) λk=>asInt .u64 k λl=>D2 H1 ((aQ h.size).add 1) λm=>C9 m λn=>nP n λn=>D2 H1 (n.add 6) λo=>D3 o λp q r=>bd c (q:Int) (F3 (pQ p) λp=>D2 H1 (p.add (c.toNat*1)) λq=>asInt .u64 q λr=>cf 182 #[.agg #[f,g,i],uQ b,uQ c] H1 λb f=>asInt .i64 b λb=>((A3 f (p.add (c.toNat*1)))=(some q))/\(((A3 f (n.add 6))=(some o))/\(((A3 f ((aQ h.size).add 1))=(some m))/\(((A3 f (j.add 8))=(some k))/\(ce f h.size 0 d (cf 228 #[uQ l,iQ (wrap .i64 r),dQ false] f λc f=>asInt .u64 c λc=>ce f h.size 0 d (cf 212 #[pQ e,iQ b,uQ c] f λb b=>nP a λa=>C7 b (a.add 1) (iQ 15) λa=>K tQ a))))))))) (K tQ H1)))))))
def F180 (K:kQ) (h:A2) (xa xb xc:rQ):Prop:=
 (g180 K h (h.push (oQ #[pQ xa,pQ xb,pQ xc] 204)))
theorem call180 {xa xb xc:rQ} (H:F180 K h xa xb xc):A4 prog 180 #[(.agg #[(pQ xa),(pQ xb),(pQ xc)])] h K:=
 cQ Tryz.func180 H
abbrev g181 (K:kQ) (h H1:A2):Prop:=
 (lP H1 ((aQ h.size).add 2) λa=>nP a λb=>lI .i64 H1 (b.add 1) λb=>D4 (b == 15) (nP a λc=>bd 5 10 (lI .u64 H1 (c.add 7) λc=>I8 H1 (aQ h.size) λd e f=>I8 H1 (aQ h.size) λg i j=>lP H1 ((aQ h.size).add 1) λk=>nP k λk=>lS H1 (k.add 5) λk l m=>bd c (l:Int) (F3 (pQ k) λk=>lI .u64 H1 (k.add (c.toNat*1)) λk=>D2 H1 ((aQ h.size).add 1) λl=>C9 l λm=>nP m λm=>D2 H1 (m.add 7) λn=>D3 n λo p q=>bd c (p:Int) (F3 (pQ o) λo=>D2 H1 (o.add (c.toNat*1)) λp=>asInt .u64 p λq=>nP a λr=>bd 2 10 (D2 H1 (r.add 4) λs=>asInt .u64 s λt=>cf 182 #[.agg #[g,i,j],uQ k,uQ c] H1 λg i=>asInt .i64 g λg=>((A3 i (r.add 4))=(some s))/\(((A3 i (o.add (c.toNat*1)))=(some p))/\(((A3 i (m.add 7))=(some n))/\(((A3 i ((aQ h.size).add 1))=(some l))/\(ce i h.size 0 d (((A3 i ((aQ h.size).add 1))=(some e))/\(((A3 i ((aQ h.size).add 2))=(some f))/\(cf 187 #[.agg #[d,e,f],iQ g,uQ q,uQ t,dQ false] i λc d=>asBool c λc=>D4 c (nP a λc=>bd 5 10 (lI .u64 d (c.add 7) λc=>nP a λe=>bd 5 10 (C7 d (e.add 7) (uQ (wrap .u64 (c+1))) λc=>nP a λe=>C7 c (e.add 1) (iQ 11) λc=>K tQ c))) (I8 d (aQ h.size) λc e f=>nP a λg=>bd 4 10 (lI .u64 d (g.add 6) λg=>((A3 (d.push (oQ #[uQ g] 178)) (aQ h.size))=(some c))/\(((A3 (d.push (oQ #[uQ g] 178)) ((aQ h.size).add 1))=(some e))/\(((A3 (d.push (oQ #[uQ g] 178)) ((aQ h.size).add 2))=(some f))/\(cf 186 #[.agg #[c,e,f],iQ 16,iQ 30,lQ (some (aQ d.size)) 1 1] (d.push (oQ #[uQ g] 178)) λc c=>K tQ c))))))))))))))))) (D4 (b == 16) (lP H1 ((aQ h.size).add 1) λc=>nP c λc=>bd 0 3 (lI .u64 H1 (c.add 2) λc=>nP a λd=>bd 7 10 (C7 H1 (d.add 9) (uQ c) λc=>nP a λd=>C7 c (d.add 1) (iQ 11) λc=>lP c ((aQ h.size).add 1) λd=>nP d λd=>lS c (d.add 6) λd e f=>bd 0 (e:Int) (F3 (pQ d) λd=>lI .u64 c d λd=>nP a λe=>bd 2 10 (lI .u64 c (e.add 4) λe=>D4 (d != e) (nP a λd=>C7 c (d.add 1) (iQ 17) λd=>K tQ d) (K tQ c)))))) (D4 (b == 17) (D2 H1 (aQ h.size) λb=>C9 b λc=>I8 H1 (aQ h.size) λd e f=>nP a λg=>bd 2 10 (lI .u64 H1 (g.add 4) λg=>cf 270 #[.agg #[d,e,f],uQ g,iQ 2] H1 λd e=>asInt .i64 d λd=>ce e h.size 0 b (cf 212 #[pQ c,iQ d,uQ 0] e λb b=>nP a λa=>C7 b (a.add 1) (iQ 18) λa=>K tQ a))) (I8 H1 (aQ h.size) λa b c=>cf 185 #[.agg #[a,b,c],uQ 0] H1 λa a=>K tQ a))))
def F181 (K:kQ) (h:A2) (xa xb xc:rQ):Prop:=
 (g181 K h (h.push (oQ #[pQ xa,pQ xb,pQ xc] 204)))
theorem call181 {xa xb xc:rQ} (H:F181 K h xa xb xc):A4 prog 181 #[(.agg #[(pQ xa),(pQ xb),(pQ xc)])] h K:=
 cQ Tryz.func181 H
abbrev g182 (K:kQ) (h H1:A2) (xa xb:Int):Prop:=
 (M0 H1 h.size λa b c=>cf 270 #[.agg #[a,b,c],uQ xa,iQ (wrap .i64 (5+(wrap .i64 xb)))] H1 λa b=>asInt .i64 a λa=>K (iQ a) b)
def F182 (K:kQ) (h:A2) (xa xb xc:rQ) (xd xe:Int):Prop:=
 (g182 K h (h.push (oQ #[pQ xa,pQ xb,pQ xc] 202)) xd xe)
theorem call182 {xa xb xc:rQ} {xd xe:Int} (H:F182 K h xa xb xc xd xe):A4 prog 182 #[(.agg #[(pQ xa),(pQ xb),(pQ xc)]),(uQ xd),(uQ xe)] h K:=
 cQ Tryz.func182 H
def F183 (K:kQ) (h:A2) (xa:Int):Prop:=
 (cf 146 #[uQ xa] h λa b=>asInt .i64 a λa=>K (uQ (wrap .u64 a)) b)
theorem call183 {xa:Int} (H:F183 K h xa):A4 prog 183 #[(uQ xa)] h K:=
 cQ Tryz.func183 H
def F184 (K:kQ) (h:A2) (xa:Int):Prop:=
 (cf 226 #[uQ xa] h λa b=>asBool a λa=>K (dQ a) b)
theorem call184 {xa:Int} (H:F184 K h xa):A4 prog 184 #[(uQ xa)] h K:=
 cQ Tryz.func184 H
abbrev g185 (K:kQ) (h H1:A2) (xa:Int):Prop:=
 (M0 H1 h.size λa b c=>cf 271 #[.agg #[a,b,c],uQ xa,uQ 0,uQ 0] H1 λa a=>K tQ a)
def F185 (K:kQ) (h:A2) (xa xb xc:rQ) (xd:Int):Prop:=
 (g185 K h (h.push (oQ #[pQ xa,pQ xb,pQ xc] 202)) xd)
theorem call185 {xa xb xc:rQ} {xd:Int} (H:F185 K h xa xb xc xd):A4 prog 185 #[(.agg #[(pQ xa),(pQ xb),(pQ xc)]),(uQ xd)] h K:=
 cQ Tryz.func185 H
abbrev g186 (K:kQ) (h H1:A2) (xa xb:Int) (xc:rQ) (xd xe:Nat):Prop:=
 (lP H1 ⟨h.size,2,none⟩ λa=>nP a λa=>C7 H1 (a.add 1) (iQ xa) λa=>lP a ⟨h.size,1,none⟩ λb=>cf 130 #[pQ b,iQ xb,lQ xc xd xe] a λa a=>K tQ a)
def F186 (K:kQ) (h:A2) (xa xb xc:rQ) (xd xe:Int) (xf:rQ) (xg xh:Nat):Prop:=
 (g186 K h (h.push (oQ #[pQ xa,pQ xb,pQ xc] 202)) xd xe xf xg xh)
theorem call186 {xa xb xc:rQ} {xd xe:Int} {xf:rQ} {xg xh:Nat} (H:F186 K h xa xb xc xd xe xf xg xh):A4 prog 186 #[(.agg #[(pQ xa),(pQ xb),(pQ xc)]),(iQ xd),(iQ xe),(lQ xf xg xh)] h K:=
 cQ Tryz.func186 H
abbrev g187 (K:kQ) (h H1:A2) (xa xb xc:Int) (xd:Bool):Prop:=
 (D2 H1 (aQ h.size) λa=>C9 a λb=>cf 228 #[uQ xb,iQ (wrap .i64 xc),dQ xd] H1 λc d=>asInt .u64 c λc=>ce d h.size 0 a (cf 219 #[pQ b,iQ xa,uQ xb,uQ c] d λa b=>asBool a λa=>K (dQ a) b))
def F187 (K:kQ) (h:A2) (xa xb xc:rQ) (xd xe xf:Int) (xg:Bool):Prop:=
 (g187 K h (h.push (oQ #[pQ xa,pQ xb,pQ xc] 202)) xd xe xf xg)
theorem call187 {xa xb xc:rQ} {xd xe xf:Int} {xg:Bool} (H:F187 K h xa xb xc xd xe xf xg):A4 prog 187 #[(.agg #[(pQ xa),(pQ xb),(pQ xc)]),(iQ xd),(uQ xe),(uQ xf),(dQ xg)] h K:=
 cQ Tryz.func187 H
abbrev g189 (K:kQ) (h H1:A2):Prop:=
 (lP H1 ((aQ h.size).add 2) λa=>nP a λb=>bd 2 10 (lI .u64 H1 (b.add 4) λb=>nP a λa=>bd 2 10 (C7 H1 (a.add 4) (uQ (wrap .u64 (b - 1))) λa=>lP a ((aQ h.size).add 2) λb=>nP b λb=>C7 a (b.add 1) (iQ 1) λa=>K tQ a)))
def F189 (K:kQ) (h:A2) (xa xb xc:rQ):Prop:=
 (g189 K h (h.push (oQ #[pQ xa,pQ xb,pQ xc] 207)))
theorem call189 {xa xb xc:rQ} (H:F189 K h xa xb xc):A4 prog 189 #[(.agg #[(pQ xa),(pQ xb),(pQ xc)])] h K:=
 cQ Tryz.func189 H
abbrev g190 (K:kQ) (h H1:A2) (xa xb:Int):Prop:=
 (lP H1 (aQ h.size) λa=>cf 79 #[pQ a] H1 λa b=>asAgg a λa=>G3 a 15 (O8 a λa c d e f g i j k l m n o p q=>C7 (b.push (oQ AA 117)) (aQ b.size) a λa=>C7 a ⟨b.size,1,none⟩ c λa=>C7 a ⟨b.size,2,none⟩ d λa=>C7 a ⟨b.size,3,none⟩ e λa=>C7 a ⟨b.size,4,none⟩ f λa=>C7 a ⟨b.size,5,none⟩ g λa=>C7 a ⟨b.size,6,none⟩ i λa=>C7 a ⟨b.size,7,none⟩ j λa=>C7 a ⟨b.size,8,none⟩ k λa=>C7 a ⟨b.size,9,none⟩ l λa=>C7 a ⟨b.size,10,none⟩ m λa=>C7 a ⟨b.size,11,none⟩ n λa=>C7 a ⟨b.size,12,none⟩ o λa=>C7 a ⟨b.size,13,none⟩ p λa=>C7 a ⟨b.size,14,none⟩ q λa=>D2 a (aQ h.size) λc=>C9 c λd=>BO a b.size λe f g i j k l m n o p q r s t=>D2 a ⟨h.size,1,none⟩ λu=>C9 u λv=>nP v λv=>D2 a v λw=>asInt .i64 w λx=>BO a b.size λy z A B C D E F G H I J L M N=>cf 233 #[.agg #[y,z,A,B,C,D,E,F,G,H,I,J,L,M,N]] a λa y=>asInt .i64 a λa=>((A3 y v)=(some w))/\(ce y h.size 1 u (SI2 y b.size e f g i j k l m n o p q r s t (ce y h.size 0 c (cf 232 #[.agg #[e,f,g,i,j,k,l,m,n,o,p,q,r,s,t],iQ x,iQ (wrap .i64 ((wrap .i64 (a - 1)) - (wrap .i64 (wrap .u64 ((((BitVec.ofInt 64 xa) &&& (BitVec.ofInt 64 1)).toNat:Nat):Int)))))] y λa b=>asInt .i64 a λa=>ce b h.size 0 c (cf 212 #[pQ d,iQ a,uQ xb] b λa a=>K tQ a)))))))
def F190 (K:kQ) (h:A2) (xa xb xc:rQ) (xd xe:Int):Prop:=
 (g190 K h (h.push (oQ #[pQ xa,pQ xb,pQ xc] 202)) xd xe)
theorem call190 {xa xb xc:rQ} {xd xe:Int} (H:F190 K h xa xb xc xd xe):A4 prog 190 #[(.agg #[(pQ xa),(pQ xb),(pQ xc)]),(uQ xd),(uQ xe)] h K:=
 cQ Tryz.func190 H
abbrev g191 (K:kQ) (h H1:A2):Prop:=
 (lP H1 ((aQ h.size).add 2) λa=>nP a λb=>lI .i64 H1 (b.add 1) λb=>D4 (b == 4) (R3 λI5=>(nP a λc=>bd 4 10 (lI .u64 H1 (c.add 6) λc=>nP a λd=>bd 0 10 (lI .u64 H1 (d.add 2) λd=>D4 (c == d) (I5 [dQ true,dQ true] H1) (D2 H1 (aQ h.size) λc=>C9 c λd=>I8 H1 (aQ h.size) λe f g=>nP a λi=>bd 4 10 (lI .u64 H1 (i.add 6) λi=>cf 182 #[.agg #[e,f,g],uQ i,uQ 0] H1 λe f=>asInt .i64 e λe=>ce f h.size 0 c (cf 147 #[pQ d,iQ e] f λc d=>asInt .u64 c λc=>cf 184 #[uQ c] d λc d=>asBool c λc=>I5 [dQ c,dQ c] d))))))/\(∀(c d:vQ) (e:G4) (e:A2),(I5 [c,d] e)->(asBool c λc=>D4 c (nP a λc=>C7 e (c.add 1) (iQ 5) λc=>K tQ c) (nP a λc=>bd 4 10 (D2 e (c.add 6) λd=>asInt .u64 d λf=>nP a λg=>bd 3 10 (lI .u64 e (g.add 5) λg=>cf 183 #[uQ g] e λe g=>asInt .u64 e λe=>((A3 g (c.add 6))=(some d))/\(D4 (f == e) (M0 g h.size λc d e=>cf 189 #[.agg #[c,d,e]] g λc c=>K tQ c) (nP a λc=>C7 g (c.add 1) (iQ 6) λc=>K tQ c)))))))) (D4 (b == 5) (D2 H1 (aQ h.size) λb=>C9 b λc=>I8 H1 (aQ h.size) λd e f=>nP a λg=>bd 4 10 (lI .u64 H1 (g.add 6) λg=>nP a λi=>bd 2 10 (lI .u64 H1 (i.add 4) λi=>nP a λj=>cf 182 #[.agg #[d,e,f],uQ g,uQ i] H1 λd e=>asInt .i64 d λd=>ce e h.size 0 b (cf 147 #[pQ c,iQ d] e λb c=>asInt .u64 b λb=>cf 183 #[uQ b] c λb c=>asInt .u64 b λb=>bd 4 10 (C7 c (j.add 6) (uQ b) λb=>nP a λc=>C7 b (c.add 1) (iQ 2) λb=>nP a λc=>bd 4 10 (lI .u64 b (c.add 6) λc=>D4 (c == 2) (nP a λc=>C7 b (c.add 1) (iQ 6) λc=>K tQ c) (K tQ b))))))) (I8 H1 (aQ h.size) λb c d=>I8 H1 (aQ h.size) λe f g=>nP a λi=>bd 2 10 (lI .u64 H1 (i.add 4) λi=>nP a λj=>bd 3 10 (D2 H1 (j.add 5) λk=>asInt .u64 k λl=>nP a λm=>bd 4 10 (D2 H1 (m.add 6) λn=>asInt .u64 n λo=>cf 182 #[.agg #[e,f,g],uQ 1,uQ i] H1 λe f=>asInt .i64 e λe=>((A3 f (m.add 6))=(some n))/\(((A3 f (j.add 5))=(some k))/\(ce f h.size 0 b (((A3 f ((aQ h.size).add 1))=(some c))/\(((A3 f ((aQ h.size).add 2))=(some d))/\(cf 187 #[.agg #[b,c,d],iQ e,uQ l,uQ o,dQ false] f λb c=>asBool b λb=>D4 b (M0 c h.size λb d e=>cf 189 #[.agg #[b,d,e]] c λb b=>K tQ b) (nP a λa=>C7 c (a.add 1) (iQ 1) λa=>K tQ a))))))))))))
def F191 (K:kQ) (h:A2) (xa xb xc:rQ):Prop:=
 (g191 K h (h.push (oQ #[pQ xa,pQ xb,pQ xc] 207)))
theorem call191 {xa xb xc:rQ} (H:F191 K h xa xb xc):A4 prog 191 #[(.agg #[(pQ xa),(pQ xb),(pQ xc)])] h K:=
 cQ Tryz.func191 H
abbrev g192 (K:kQ) (h H1:A2):Prop:=
 (lP H1 ((aQ h.size).add 2) λa=>nP a λb=>lI .i64 H1 (b.add 1) λb=>D4 (b == 0) (lP H1 (aQ h.size) λc=>nP a λd=>cf 147 #[pQ c,iQ 1] H1 λc e=>asInt .u64 c λc=>bd 0 10 (C7 e (d.add 2) (uQ c) λc=>nP a λd=>bd 2 10 (nP a λe=>nP a λf=>C7 c (d.add 4) (uQ 1) λc=>bd 3 10 (C7 c (e.add 5) (uQ 0) λc=>bd 4 10 (C7 c (f.add 6) (uQ 0) λc=>nP a λd=>C7 c (d.add 1) (iQ 1) λc=>K tQ c))))) (D4 (b == 1) (D2 H1 (aQ h.size) λc=>C9 c λd=>I8 H1 (aQ h.size) λe f g=>nP a λi=>cf 182 #[.agg #[e,f,g],uQ 1,uQ 0] H1 λe f=>asInt .i64 e λe=>ce f h.size 0 c (cf 147 #[pQ d,iQ e] f λc d=>asInt .u64 c λc=>bd 1 10 (C7 d (i.add 3) (uQ c) λc=>nP a λd=>bd 1 10 (lI .u64 c (d.add 3) λd=>nP a λe=>bd 5 10 (C7 c (e.add 7) (uQ d) λc=>nP a λd=>C7 c (d.add 1) (iQ 2) λc=>K tQ c))))) (D4 (b == 2) (nP a λc=>C7 H1 (c.add 1) (iQ 3) λc=>M0 c h.size λd e f=>cf 273 #[.agg #[d,e,f]] c λc d=>asInt .u64 c λc=>D4 (c == 2) (I8 d (aQ h.size) λc e f=>cf 185 #[.agg #[c,e,f],uQ 3] d λc c=>K tQ c) (K tQ d)) (D4 (b == 3) (I8 H1 (aQ h.size) λc d e=>nP a λf=>bd 3 10 (D2 H1 (f.add 5) λg=>asInt .u64 g λi=>M0 H1 h.size λj k l=>cf 273 #[.agg #[j,k,l]] H1 λj k=>asInt .u64 j λj=>((A3 k (f.add 5))=(some g))/\(ce k h.size 0 c (((A3 k ((aQ h.size).add 1))=(some d))/\(((A3 k ((aQ h.size).add 2))=(some e))/\(cf 190 #[.agg #[c,d,e],uQ i,uQ j] k λc c=>nP a λd=>bd 3 10 (lI .u64 c (d.add 5) λd=>nP a λe=>bd 3 10 (C7 c (e.add 5) (uQ (wrap .u64 (d+1))) λc=>nP a λd=>C7 c (d.add 1) (iQ 4) λc=>K tQ c)))))))) (D4 (b == 4) (nP a λb=>C7 H1 (b.add 1) (iQ 5) λb=>lP b (aQ h.size) λc=>nP a λd=>bd 0 10 (D2 b (d.add 2) λe=>asInt .u64 e λf=>cf 147 #[pQ c,iQ 1] b λb c=>asInt .u64 b λb=>((A3 c (d.add 2))=(some e))/\(D4 (b != f) (nP a λa=>C7 c (a.add 1) (iQ 0) λa=>K tQ a) (K tQ c)))) (K tQ H1))))))
def F192 (K:kQ) (h:A2) (xa xb xc:rQ):Prop:=
 (g192 K h (h.push (oQ #[pQ xa,pQ xb,pQ xc] 208)))
theorem call192 {xa xb xc:rQ} (H:F192 K h xa xb xc):A4 prog 192 #[(.agg #[(pQ xa),(pQ xb),(pQ xc)])] h K:=
 cQ Tryz.func192 H
abbrev g193 (K:kQ) (h H1:A2):Prop:=
 (lP H1 ((aQ h.size).add 2) λa=>nP a λb=>lI .i64 H1 (b.add 1) λb=>D4 (b == 5) (nP a λc=>C7 H1 (c.add 1) (iQ 6) λc=>R3 λI7=>(nP a λd=>bd 2 10 (lI .u64 c (d.add 4) λd=>D4 (d != 1) (nP a λd=>bd 4 10 (lI .u64 c (d.add 6) λd=>D4 (d == 0) (D2 c (aQ h.size) λe=>C9 e λf=>I8 c (aQ h.size) λg i j=>nP a λk=>bd 2 10 (lI .u64 c (k.add 4) λk=>cf 270 #[.agg #[g,i,j],uQ k,iQ 2] c λg i=>asInt .i64 g λg=>ce i h.size 0 e (cf 147 #[pQ f,iQ g] i λe f=>asInt .u64 e λe=>I7 [dQ (d == 0),dQ (e == 1)] f))) (I7 [dQ (d == 0),dQ false] c))) (I7 [dQ false,dQ false] c)))/\(∀(c d:vQ) (e:G4) (e:A2),(I7 [c,d] e)->(asBool d λc=>D4 c (nP a λc=>bd 2 10 (lI .u64 e (c.add 4) λc=>nP a λd=>bd 4 10 (C7 e (d.add 6) (uQ c) λc=>K tQ c))) (K tQ e)))) (D4 (b == 6) (nP a λc=>C7 H1 (c.add 1) (iQ 8) λc=>nP a λd=>bd 5 10 (lI .u64 c (d.add 7) λd=>cf 184 #[uQ d] c λc d=>asBool c λc=>D4 c (M0 d h.size λc e f=>nP a λg=>cf 273 #[.agg #[c,e,f]] d λc e=>asInt .u64 c λc=>bd 2 10 (C7 e (g.add 4) (uQ c) λc=>nP a λe=>C7 c (e.add 1) (iQ 7) λc=>K tQ c)) (nP a λc=>lI .i64 d c λc=>D4 (c == 33) (nP a λc=>C7 d (c.add 1) (iQ 9) λc=>K tQ c) (K tQ d)))) (D4 (b == 7) (D2 H1 (aQ h.size) λc=>C9 c λd=>I8 H1 (aQ h.size) λe f g=>nP a λi=>bd 2 10 (lI .u64 H1 (i.add 4) λi=>nP a λj=>cf 182 #[.agg #[e,f,g],uQ i,uQ 0] H1 λe f=>asInt .i64 e λe=>ce f h.size 0 c (cf 147 #[pQ d,iQ e] f λc d=>asInt .u64 c λc=>bd 5 10 (C7 d (j.add 7) (uQ c) λc=>nP a λd=>C7 c (d.add 1) (iQ 2) λc=>K tQ c)))) (D4 (b == 8) (nP a λb=>C7 H1 (b.add 1) (iQ 9) λb=>I8 b (aQ h.size) λc d e=>I8 b (aQ h.size) λf g i=>nP a λj=>bd 2 10 (lI .u64 b (j.add 4) λj=>nP a λk=>bd 5 10 (D2 b (k.add 7) λl=>asInt .u64 l λm=>M0 b h.size λn o p=>cf 182 #[.agg #[f,g,i],uQ j,uQ 0] b λb f=>asInt .i64 b λb=>ce f h.size 0 n (ce f h.size 1 o (ce f h.size 2 p (((A3 f (k.add 7))=(some l))/\(ce f h.size 0 c (((A3 f ((aQ h.size).add 1))=(some d))/\(((A3 f ((aQ h.size).add 2))=(some e))/\(cf 273 #[.agg #[n,o,p]] f λf g=>asInt .u64 f λf=>((A3 g (k.add 7))=(some l))/\(ce g h.size 0 c (((A3 g ((aQ h.size).add 1))=(some d))/\(((A3 g ((aQ h.size).add 2))=(some e))/\(cf 187 #[.agg #[c,d,e],iQ b,uQ m,uQ f,dQ true] g λb c=>asBool b λb=>D4 (!b) (nP a λb=>bd 3 10 (lI .u64 c (b.add 5) λb=>nP a λd=>bd 3 10 (C7 c (d.add 5) (uQ (wrap .u64 (b - 1))) λb=>nP a λa=>C7 b (a.add 1) (iQ 7) λa=>K tQ a))) (K tQ c))))))))))))))) (K tQ H1)))))
def F193 (K:kQ) (h:A2) (xa xb xc:rQ):Prop:=
 (g193 K h (h.push (oQ #[pQ xa,pQ xb,pQ xc] 208)))
theorem call193 {xa xb xc:rQ} (H:F193 K h xa xb xc):A4 prog 193 #[(.agg #[(pQ xa),(pQ xb),(pQ xc)])] h K:=
 cQ Tryz.func193 H
abbrev g194 (K:kQ) (h H1:A2):Prop:=
 (lP H1 ((aQ h.size).add 2) λa=>nP a λb=>lI .i64 H1 (b.add 1) λb=>D4 (b == 9) (D2 H1 (aQ h.size) λc=>C9 c λd=>I8 H1 (aQ h.size) λe f g=>M0 H1 h.size λi j k=>nP a λl=>cf 273 #[.agg #[i,j,k]] H1 λi j=>asInt .u64 i λi=>ce j h.size 0 e (((A3 j ((aQ h.size).add 1))=(some f))/\(((A3 j ((aQ h.size).add 2))=(some g))/\(ce j h.size 0 c (cf 270 #[.agg #[e,f,g],uQ i,iQ 1] j λe f=>asInt .i64 e λe=>ce f h.size 0 c (cf 147 #[pQ d,iQ e] f λc d=>asInt .u64 c λc=>bd 6 10 (C7 d (l.add 8) (uQ c) λc=>nP a λd=>C7 c (d.add 1) (iQ 10) λc=>K tQ c))))))) (D4 (b == 10) (D2 H1 (aQ h.size) λb=>C9 b λc=>I8 H1 (aQ h.size) λd e f=>M0 H1 h.size λg i j=>nP a λk=>cf 273 #[.agg #[g,i,j]] H1 λg i=>asInt .u64 g λg=>ce i h.size 0 d (((A3 i ((aQ h.size).add 1))=(some e))/\(((A3 i ((aQ h.size).add 2))=(some f))/\(ce i h.size 0 b (cf 270 #[.agg #[d,e,f],uQ g,iQ 0] i λd e=>asInt .i64 d λd=>ce e h.size 0 b (cf 147 #[pQ c,iQ d] e λb c=>asInt .u64 b λb=>cf 274 #[uQ b] c λb c=>asInt .u32 b λb=>bd 8 10 (C7 c (k.add 10) (uQ (wrap .u64 b)) λb=>nP a λc=>C7 b (c.add 1) (iQ 11) λb=>R3 λI50=>(R3 λI51=>(nP a λc=>lI .i64 b c λc=>D4 (c == 33) (I51 [dQ true] b) (nP a λc=>bd 3 10 (D2 b (c.add 5) λd=>asInt .u64 d λe=>lP b (aQ h.size) λf=>cf 79 #[pQ f] b λb f=>asAgg b λb=>G3 b 15 (O8 b λb g i j k l m n o p q r s t u=>((A3 f (c.add 5))=(some d))/\(cf 139 #[.agg #[b,g,i,j,k,l,m,n,o,p,q,r,s,t,u]] f λb f=>asAgg b λb=>G3 b 7 (Jv b λb b b b b g g=>((A3 f (c.add 5))=(some d))/\(asInt .i64 b λb=>I51 [dQ (decide (e < (wrap .u64 b)))] f)))))))/\(∀(b:vQ) (c:G4) (c:A2),(I51 [b] c)->(asBool b λb=>D4 b (nP a λb=>C7 c (b.add 1) (iQ 14) λb=>I50 [] b) (I50 [] c))))/\(∀(b:G4) (b:A2),(I50 [] b)->(nP a λc=>bd 4 10 (lI .u64 b (c.add 6) λc=>D4 (c == 0) (M0 b h.size λc d e=>nP a λa=>cf 273 #[.agg #[c,d,e]] b λc d=>asInt .u64 c λc=>bd 4 10 (C7 d (a.add 6) (uQ c) λa=>K tQ a)) (K tQ b))))))))))) (K tQ H1)))
def F194 (K:kQ) (h:A2) (xa xb xc:rQ):Prop:=
 (g194 K h (h.push (oQ #[pQ xa,pQ xb,pQ xc] 208)))
theorem call194 {xa xb xc:rQ} (H:F194 K h xa xb xc):A4 prog 194 #[(.agg #[(pQ xa),(pQ xb),(pQ xc)])] h K:=
 cQ Tryz.func194 H
abbrev g195 (K:kQ) (h H1:A2):Prop:=
 (lP H1 ((aQ h.size).add 2) λa=>nP a λb=>lI .i64 H1 (b.add 1) λb=>D4 (b == 11) (nP a λc=>C7 H1 (c.add 1) (iQ 14) λc=>I8 c (aQ h.size) λd e f=>I8 c (aQ h.size) λg i j=>nP a λk=>bd 1 10 (D2 c (k.add 3) λl=>asInt .u64 l λm=>nP a λn=>bd 4 10 (D2 c (n.add 6) λo=>asInt .u64 o λp=>cf 182 #[.agg #[g,i,j],uQ 1,uQ 0] c λc g=>asInt .i64 c λc=>((A3 g (n.add 6))=(some o))/\(((A3 g (k.add 3))=(some l))/\(ce g h.size 0 d (((A3 g ((aQ h.size).add 1))=(some e))/\(((A3 g ((aQ h.size).add 2))=(some f))/\(cf 187 #[.agg #[d,e,f],iQ c,uQ m,uQ p,dQ true] g λc d=>asBool c λc=>D4 c (nP a λc=>C7 d (c.add 1) (iQ 12) λc=>K tQ c) (K tQ d))))))))) (D4 (b == 12) (I8 H1 (aQ h.size) λc d e=>cf 186 #[.agg #[c,d,e],iQ 13,iQ 36,lQ (some (aQ H1.size)) 1 1] (H1.push (oQ #[uQ 0] 178)) λc c=>K tQ c) (D4 (b == 13) (I8 H1 (aQ h.size) λb c d=>nP a λe=>bd 1 10 (lI .u64 H1 (e.add 3) λe=>nP a λf=>bd 4 10 (D2 H1 (f.add 6) λg=>asInt .u64 g λi=>cf 183 #[uQ e] H1 λe j=>asInt .u64 e λe=>((A3 j (f.add 6))=(some g))/\(ce j h.size 0 b (((A3 j ((aQ h.size).add 1))=(some c))/\(((A3 j ((aQ h.size).add 2))=(some d))/\(((A3 (j.push (oQ #[uQ e,uQ i] 178)) (aQ h.size))=(some b))/\(((A3 (j.push (oQ #[uQ e,uQ i] 178)) ((aQ h.size).add 1))=(some c))/\(((A3 (j.push (oQ #[uQ e,uQ i] 178)) ((aQ h.size).add 2))=(some d))/\(cf 186 #[.agg #[b,c,d],iQ 14,iQ 35,lQ (some (aQ j.size)) 2 2] (j.push (oQ #[uQ e,uQ i] 178)) λb b=>K tQ b)))))))))) (I8 H1 (aQ h.size) λb c d=>nP a λe=>bd 8 10 (lI .u64 H1 (e.add 10) λe=>nP a λa=>bd 6 10 (lI .u64 H1 (a.add 8) λa=>cf 271 #[.agg #[b,c,d],uQ 2,uQ e,uQ a] H1 λa a=>K tQ a))))))
def F195 (K:kQ) (h:A2) (xa xb xc:rQ):Prop:=
 (g195 K h (h.push (oQ #[pQ xa,pQ xb,pQ xc] 208)))
theorem call195 {xa xb xc:rQ} (H:F195 K h xa xb xc):A4 prog 195 #[(.agg #[(pQ xa),(pQ xb),(pQ xc)])] h K:=
 cQ Tryz.func195 H
abbrev g262 (K:kQ) (h H1:A2):Prop:=
 (lP H1 ((aQ h.size).add 2) λa=>lP H1 (aQ h.size) λb=>nP a λc=>cf 147 #[pQ b,iQ 1] H1 λb d=>asInt .u64 b λb=>bd 1 10 (C7 d (c.add 3) (uQ b) λb=>nP a λc=>bd 3 10 (nP a λd=>C7 b (c.add 5) (uQ 1) λb=>bd 5 10 (C7 b (d.add 7) (uQ 0) λb=>lP b (aQ h.size) λc=>nP a λd=>cf 79 #[pQ c] b λb c=>asAgg b λb=>G3 b 15 (O8 b λb e f g i j k l m n o p q r s=>cf 139 #[.agg #[b,e,f,g,i,j,k,l,m,n,o,p,q,r,s]] c λb c=>asAgg b λb=>G3 b 7 (Jv b λb b b b e e e=>asInt .i64 b λb=>bd 2 10 (C7 c (d.add 4) (uQ (wrap .u64 (wrap .i64 (b - 1)))) λb=>nP a λa=>C7 b (a.add 1) (iQ 1) λa=>K tQ a)))))))
def F262 (K:kQ) (h:A2) (xa xb xc:rQ):Prop:=
 (g262 K h (h.push (oQ #[pQ xa,pQ xb,pQ xc] 254)))
theorem call262 {xa xb xc:rQ} (H:F262 K h xa xb xc):A4 prog 262 #[(.agg #[(pQ xa),(pQ xb),(pQ xc)])] h K:=
 cQ Tryz.func262 H
abbrev g263 (K:kQ) (h H1:A2) (xa:Int):Prop:=
 (lP H1 (aQ h.size) λa=>D2 H1 ⟨h.size,1,none⟩ λb=>C9 b λc=>nP c λc=>D2 H1 c λd=>asInt .i64 d λe=>cf 79 #[pQ a] H1 λa f=>asAgg a λa=>G3 a 15 (O8 a λa g i j k l m n o p q r s t u=>((A3 f c)=(some d))/\(ce f h.size 1 b (cf 232 #[.agg #[a,g,i,j,k,l,m,n,o,p,q,r,s,t,u],iQ e,iQ xa] f λa b=>asInt .i64 a λa=>K (iQ a) b))))
def F263 (K:kQ) (h:A2) (xa xb xc:rQ) (xd:Int):Prop:=
 (g263 K h (h.push (oQ #[pQ xa,pQ xb,pQ xc] 252)) xd)
theorem call263 {xa xb xc:rQ} {xd:Int} (H:F263 K h xa xb xc xd):A4 prog 263 #[(.agg #[(pQ xa),(pQ xb),(pQ xc)]),(iQ xd)] h K:=
 cQ Tryz.func263 H
abbrev g264 (K:kQ) (h H1:A2):Prop:=
 (lP H1 ⟨h.size,2,none⟩ λa=>nP a λa=>bd 2 10 (lI .u64 H1 (a.add 4) λa=>K (iQ (wrap .i64 a)) H1))
def F264 (K:kQ) (h:A2) (xa xb xc:rQ):Prop:=
 (g264 K h (h.push (oQ #[pQ xa,pQ xb,pQ xc] 252)))
theorem call264 {xa xb xc:rQ} (H:F264 K h xa xb xc):A4 prog 264 #[(.agg #[(pQ xa),(pQ xb),(pQ xc)])] h K:=
 cQ Tryz.func264 H
abbrev g265 (K:kQ) (h H1:A2) (xa xb:Int):Prop:=
 (lP H1 (aQ h.size) λa=>cf 79 #[pQ a] H1 λa b=>asAgg a λa=>G3 a 15 (O8 a λa c d e f g i j k l m n o p q=>cf 143 #[.agg #[a,c,d,e,f,g,i,j,k,l,m,n,o,p,q],iQ (wrap .i64 xa),iQ xb] b λa b=>asInt .i64 a λa=>K (iQ a) b))
def F265 (K:kQ) (h:A2) (xa xb xc:rQ) (xd xe:Int):Prop:=
 (g265 K h (h.push (oQ #[pQ xa,pQ xb,pQ xc] 252)) xd xe)
theorem call265 {xa xb xc:rQ} {xd xe:Int} (H:F265 K h xa xb xc xd xe):A4 prog 265 #[(.agg #[(pQ xa),(pQ xb),(pQ xc)]),(uQ xd),(iQ xe)] h K:=
 cQ Tryz.func265 H
abbrev g266 (K:kQ) (h H1:A2):Prop:=
 (M0 H1 h.size λa b c=>cf 299 #[.agg #[a,b,c]] H1 λa b=>asInt .u64 a λa=>cf 146 #[uQ a] b λa b=>asInt .i64 a λa=>K (uQ (wrap .u64 a)) b)
def F266 (K:kQ) (h:A2) (xa xb xc:rQ):Prop:=
 (g266 K h (h.push (oQ #[pQ xa,pQ xb,pQ xc] 252)))
theorem call266 {xa xb xc:rQ} (H:F266 K h xa xb xc):A4 prog 266 #[(.agg #[(pQ xa),(pQ xb),(pQ xc)])] h K:=
 cQ Tryz.func266 H
abbrev g267 (K:kQ) (h H1:A2):Prop:=
 (D2 H1 ((aQ h.size).add 2) λa=>C9 a λb=>I8 H1 (aQ h.size) λc d e=>cf 264 #[.agg #[c,d,e]] H1 λc d=>asInt .i64 c λc=>((A3 d ((aQ h.size).add 2))=(some a))/\(D2 d ((aQ h.size).add 1) λa=>C9 a λe=>nP e λe=>D2 d (e.add 5) λf=>D3 f λg i j=>D2 d ((aQ h.size).add 1) λj=>C9 j λk=>nP k λk=>D2 d (k.add 7) λl=>D3 l λm n o=>D2 d ((aQ h.size).add 1) λo=>C9 o λp=>nP p λp=>D2 d (p.add 6) λq=>D3 q λr s t=>nP b λt=>bd 3 10 (D2 d (t.add 5) λu=>asInt .u64 u λv=>nP b λw=>bd 4 10 (D2 d (w.add 6) λx=>asInt .u64 x λy=>I8 d (aQ h.size) λz A B=>cf 266 #[.agg #[z,A,B]] d λd z=>asInt .u64 d λd=>((A3 z (w.add 6))=(some x))/\(((A3 z (t.add 5))=(some u))/\(((A3 z (p.add 6))=(some q))/\(((A3 z ((aQ h.size).add 1))=(some o))/\(((A3 z (k.add 7))=(some l))/\(((A3 z ((aQ h.size).add 1))=(some j))/\(((A3 z (e.add 5))=(some f))/\(((A3 z ((aQ h.size).add 1))=(some a))/\(bd c (i:Int) (F3 (pQ g) λa=>C7 z (a.add (c.toNat*1)) (uQ v) λa=>bd c (n:Int) (F3 (pQ m) λe=>C7 a (e.add (c.toNat*1)) (uQ y) λa=>bd c (s:Int) (F3 (pQ r) λe=>C7 a (e.add (c.toNat*1)) (uQ d) λa=>D4 (c == 0) (D2 a ((aQ h.size).add 1) λc=>C9 c λd=>nP b λe=>bd 5 10 (lI .u64 a (e.add 7) λe=>((A3 (a.push (oQ #[uQ e] 178)) ((aQ h.size).add 1))=(some c))/\(cf 106 #[pQ d,lQ (some (aQ a.size)) 1 1] (a.push (oQ #[uQ e] 178)) λc c=>K tQ c))) (nP b λc=>bd 2 10 (lI .u64 a (c.add 4) λc=>nP b λd=>bd 2 10 (C7 a (d.add 4) (uQ (wrap .u64 (c - 1))) λa=>nP b λb=>C7 a (b.add 1) (iQ 1) λa=>K tQ a))))))))))))))))))
def F267 (K:kQ) (h:A2) (xa xb xc:rQ):Prop:=
 (g267 K h (h.push (oQ #[pQ xa,pQ xb,pQ xc] 254)))
theorem call267 {xa xb xc:rQ} (H:F267 K h xa xb xc):A4 prog 267 #[(.agg #[(pQ xa),(pQ xb),(pQ xc)])] h K:=
 cQ Tryz.func267 H
abbrev g268 (K:kQ) (h H1:A2):Prop:=
 (lP H1 ((aQ h.size).add 2) λa=>lP H1 (aQ h.size) λb=>nP a λc=>bd 1 10 (D2 H1 (c.add 3) λd=>asInt .u64 d λe=>cf 147 #[pQ b,iQ 1] H1 λb f=>asInt .u64 b λb=>((A3 f (c.add 3))=(some d))/\(D4 (b != e) (nP a λb=>C7 f (b.add 1) (iQ 0) λb=>K tQ b) (R3 λI12=>(I8 f (aQ h.size) λb c d=>cf 264 #[.agg #[b,c,d]] f λb c=>asInt .i64 b λb=>D4 (b == 0) (I8 c (aQ h.size) λb d e=>cf 299 #[.agg #[b,d,e]] c λb d=>asInt .u64 b λb=>cf 226 #[uQ b] d λb d=>asBool b λb=>I12 [dQ b,dQ b] d) (I12 [dQ false,dQ false] c))/\(∀(b c:vQ) (d:G4) (d:A2),(I12 [b,c] d)->(asBool b λb=>D4 b (I8 d (aQ h.size) λb c e=>nP a λf=>cf 266 #[.agg #[b,c,e]] d λb c=>asInt .u64 b λb=>bd 5 10 (C7 c (f.add 7) (uQ b) λb=>M0 b h.size λc e f=>cf 269 #[.agg #[c,e,f]] b λb b=>K tQ b)) (I8 d (aQ h.size) λb c e=>cf 264 #[.agg #[b,c,e]] d λb c=>asInt .i64 b λb=>D4 (decide (b > 0)) (nP a λb=>C7 c (b.add 1) (iQ 5) λb=>K tQ b) (nP a λa=>C7 c (a.add 1) (iQ 6) λa=>K tQ a))))))))
def F268 (K:kQ) (h:A2) (xa xb xc:rQ):Prop:=
 (g268 K h (h.push (oQ #[pQ xa,pQ xb,pQ xc] 254)))
theorem call268 {xa xb xc:rQ} (H:F268 K h xa xb xc):A4 prog 268 #[(.agg #[(pQ xa),(pQ xb),(pQ xc)])] h K:=
 cQ Tryz.func268 H
abbrev g269 (K:kQ) (h H1:A2):Prop:=
 (D2 H1 ((aQ h.size).add 2) λa=>C9 a λb=>I8 H1 (aQ h.size) λc d e=>nP b λb=>cf 266 #[.agg #[c,d,e]] H1 λc d=>asInt .u64 c λc=>((A3 d ((aQ h.size).add 2))=(some a))/\(bd 3 10 (C7 d (b.add 5) (uQ c) λa=>lP a ((aQ h.size).add 2) λb=>nP b λb=>C7 a (b.add 1) (iQ 1) λa=>K tQ a)))
def F269 (K:kQ) (h:A2) (xa xb xc:rQ):Prop:=
 (g269 K h (h.push (oQ #[pQ xa,pQ xb,pQ xc] 254)))
theorem call269 {xa xb xc:rQ} (H:F269 K h xa xb xc):A4 prog 269 #[(.agg #[(pQ xa),(pQ xb),(pQ xc)])] h K:=
 cQ Tryz.func269 H
abbrev g270 (K:kQ) (h H1:A2) (xa xb:Int):Prop:=
 (lP H1 (aQ h.size) λa=>cf 79 #[pQ a] H1 λa b=>asAgg a λa=>G3 a 15 (O8 a λa c d e f g i j k l m n o p q=>cf 143 #[.agg #[a,c,d,e,f,g,i,j,k,l,m,n,o,p,q],iQ (wrap .i64 xa),iQ xb] b λa b=>asInt .i64 a λa=>K (iQ a) b))
def F270 (K:kQ) (h:A2) (xa xb xc:rQ) (xd xe:Int):Prop:=
 (g270 K h (h.push (oQ #[pQ xa,pQ xb,pQ xc] 202)) xd xe)
theorem call270 {xa xb xc:rQ} {xd xe:Int} (H:F270 K h xa xb xc xd xe):A4 prog 270 #[(.agg #[(pQ xa),(pQ xb),(pQ xc)]),(uQ xd),(iQ xe)] h K:=
 cQ Tryz.func270 H
abbrev g271 (K:kQ) (h H1:A2) (xa xb xc:Int):Prop:=
 (lP H1 ⟨h.size,2,none⟩ λa=>D2 H1 ⟨h.size,2,none⟩ λb=>C9 b λc=>D2 H1 ⟨h.size,2,none⟩ λd=>C9 d λe=>nP a λa=>bd 7 10 (nP c λc=>nP e λe=>C7 H1 (a.add 9) (uQ xa) λa=>ce a h.size 2 d (ce a h.size 2 b (bd 8 10 (C7 a (c.add 10) (uQ xb) λa=>ce a h.size 2 d (bd 9 10 (C7 a (e.add 11) (uQ xc) λa=>M0 a h.size λb c d=>cf 186 #[.agg #[b,c,d],iQ 90,iQ 4,lQ none 0 0] a λa a=>K tQ a)))))))
def F271 (K:kQ) (h:A2) (xa xb xc:rQ) (xd xe xf:Int):Prop:=
 (g271 K h (h.push (oQ #[pQ xa,pQ xb,pQ xc] 202)) xd xe xf)
theorem call271 {xa xb xc:rQ} {xd xe xf:Int} (H:F271 K h xa xb xc xd xe xf):A4 prog 271 #[(.agg #[(pQ xa),(pQ xb),(pQ xc)]),(uQ xd),(uQ xe),(uQ xf)] h K:=
 cQ Tryz.func271 H
abbrev g273 (K:kQ) (h H1:A2):Prop:=
 (lP H1 ((aQ h.size).add 2) λa=>nP a λa=>bd 5 10 (lI .u64 H1 (a.add 7) λa=>cf 183 #[uQ a] H1 λa b=>asInt .u64 a λa=>K (uQ a) b))
def F273 (K:kQ) (h:A2) (xa xb xc:rQ):Prop:=
 (g273 K h (h.push (oQ #[pQ xa,pQ xb,pQ xc] 208)))
theorem call273 {xa xb xc:rQ} (H:F273 K h xa xb xc):A4 prog 273 #[(.agg #[(pQ xa),(pQ xb),(pQ xc)])] h K:=
 cQ Tryz.func273 H
abbrev g299 (K:kQ) (h H1:A2):Prop:=
 (lP H1 ⟨h.size,2,none⟩ λa=>nP a λa=>bd 4 10 (lI .u64 H1 (a.add 6) λa=>K (uQ a) H1))
def F299 (K:kQ) (h:A2) (xa xb xc:rQ):Prop:=
 (g299 K h (h.push (oQ #[pQ xa,pQ xb,pQ xc] 252)))
theorem call299 {xa xb xc:rQ} (H:F299 K h xa xb xc):A4 prog 299 #[(.agg #[(pQ xa),(pQ xb),(pQ xc)])] h K:=
 cQ Tryz.func299 H
end
section
open Mod
section
variable {K:kQ} {h:A2} {M T b o N:Nat} {tv:vQ} {fo:Option (Nat × Nat)} {x:B9} {R:Hp}
theorem SN2 (x:B9) (a:Int):(x.load a).2.m.p=x.m.p:=by
 show (x.m.load a).2.p=x.m.p
 unfold Mac.load
 dsimp only
 have:(x.m.touch a).p=x.m.p:=by unfold Mac.touch;split <;> rfl
 split <;> exact this
theorem SN3 (w:Int):G2 (J5 w)=J5 w:=by have:=Hu w;unfold G2;omega
theorem Si0 (x:B9) (w f:Int):x.na (J5 w) f=x.m.p.node (J5 w) f:=by unfold B9.na;rw [SN3]
theorem CW (H:A9 h (A1 M T tv (some (b,o)) x R)) (k:∀h',G9 h.size h h'->K (iQ (G2 (x.f.g 2))) h') :
  A4 prog 264 #[rV M T b o] h K:=by
 refine call264 ?_
 unfold F264 g264 bd lP lI nP
 have oo:G9 h.size h (h.push (oQ #[mP M,mP T,fP b o] 252)):=(G9.refl _ _).push _ (G0 _)
 have H1:=A1.new H (oQ #[mP M,mP T,fP b o] 252);generalize h.push (oQ #[mP M,mP T,fP b o] 252)=h1 at *;generalize h.size=N at *
 refine ss H1 ?_
 exact k h1 oo
theorem LL (H:A9 h (A1 M T tv (some (b,o)) x R)) (k:∀h',G9 h.size h h'->K (uQ (x.f.g 4)) h') :
  A4 prog 299 #[rV M T b o] h K:=by
 refine call299 ?_
 unfold F299 g299 bd lP lI nP
 have oo:G9 h.size h (h.push (oQ #[mP M,mP T,fP b o] 252)):=(G9.refl _ _).push _ (G0 _)
 have H1:=A1.new H (oQ #[mP M,mP T,fP b o] 252);generalize h.push (oQ #[mP M,mP T,fP b o] 252)=h1 at *;generalize h.size=N at *
 refine ss H1 ?_
 exact k h1 oo
theorem AZ (H:A9 h (A1 M T tv (some (b,o)) x R)) (k:∀h',G9 h.size h h'->K (uQ (J5 (x.f.g 4))) h') :
  A4 prog 266 #[rV M T b o] h K:=by
 refine call266 ?_
 unfold F266 g266 cf M0
 have B:=A1.fB H
 have oo:G9 h.size h (h.push (oQ #[mP M,mP T,fP b o] 252)):=(G9.refl _ _).push _ (G0 _)
 have s1:=oo.1
 have H1:=A1.new H (oQ #[mP M,mP T,fP b o] 252);generalize h.push (oQ #[mP M,mP T,fP b o] 252)=h1 at *;generalize h.size=N at *
 refine ss H1 ?_
 refine A0 (LL H1 λh2 o2=>?_)
 refine sb ?_
 refine A0 (N9 (B.g 4) ?_)
 refine sb ?_
 exact k h2 (oo.trans (o2.mono s1))
theorem KX (H:A9 h (A1 M T tv fo x R)) {n f:Int} (hf:iN f) (k:∀h',G9 h.size h h'->K (iQ (x.na n f)) h') :
  A4 prog 265 #[rV M T b o,uQ n,iQ f] h K:=by
 refine call265 ?_
 unfold F265 g265 cf lP O8
 have oo:G9 h.size h (h.push (oQ #[mP M,mP T,fP b o] 252)):=(G9.refl _ _).push _ (G0 _)
 have s1:=oo.1
 have H1:=A1.new H (oQ #[mP M,mP T,fP b o] 252);generalize h.push (oQ #[mP M,mP T,fP b o] 252)=h1 at *;generalize h.size=N at *
 refine sl H1 ?_
 refine A0 (Bw H1 λh2 o2=>By ?_)
 refine A0 (R0 (A1.pl H) (T9 _) hf λh3 o3=>?_)
 refine sb ?_
 exact k h3 (oo.trans ((o2.trans (o3.mono o2.1)).mono s1))
theorem LM (H:A9 h (A1 M T tv (some (b,o)) x R)) (O:Ok x) {i:Int} (hi:iN i) (k:∀h',G9 h.size h h'->K (iQ (x.m.p.haz x.id i)) h') :
  A4 prog 263 #[rV M T b o,iQ i] h K:=by
 refine call263 ?_
 unfold F263 g263 cf ce lP nP O8
 have oo:G9 h.size h (h.push (oQ #[mP M,mP T,fP b o] 252)):=(G9.refl _ _).push _ (G0 _)
 have s1:=oo.1
 have H1:=A1.new H (oQ #[mP M,mP T,fP b o] 252);generalize h.push (oQ #[mP M,mP T,fP b o] 252)=h1 at *;generalize h.size=N at *
 refine ss H1 ?_
 refine A0 (Bw H1 λh2 o2=>By ?_)
 have H2:=A1.old H1 o2
 refine ss H2 ?_
 refine A0 (BP (A1.pl H) O.id hi λh3 o3=>?_)
 refine sb ?_
 exact k h3 (oo.trans ((o2.trans (o3.mono o2.1)).mono s1))
theorem HW (H:A9 h (A1 M T tv (some (b,o)) x R)) (k:∀h',A9 h' (A1 M T tv none (CI x) R)->K tQ h') :
  A4 prog 269 #[rV M T b o] h K:=by
 refine call269 ?_
 unfold F269 g269 cf bd lP nP I8
 unfold CI at k
 have H1:=A1.new H (oQ #[mP M,mP T,fP b o] 254);generalize h.push (oQ #[mP M,mP T,fP b o] 254)=h1 at *;generalize h.size=N at *
 refine ss H1 ?_
 refine A0 (AZ H1 λh2 o2=>?_)
 have H2:=A1.old H1 o2
 refine ss H2 ?_
 refine A1.stR (i:=3) H2 rfl (U8 _) λh3 H3=>?_
 refine ss H3 ?_
 exact A1.stP H3 λh4 H4=>k h4 (A1.drp (A1.none H4))
theorem Si (H:A9 h (A1 M T tv (some (b,o)) x R)) (O:Ok x) (k:∀h',A9 h' (A1 M T tv none (((((( x.load 1).2.s 1 (x.load 1).1).s 3 1).s 5 0).s 2 (u64 (x.m.p.c.level - 1))).pc 1) R)->K tQ h') :
  A4 prog 262 #[rV M T b o] h K:=by
 refine call262 ?_
 unfold F262 g262 cf bd lP nP Jv O8
 have P:=A1.pl H
 have H1:=A1.new H (oQ #[mP M,mP T,fP b o] 254);generalize h.push (oQ #[mP M,mP T,fP b o] 254)=h1 at *;generalize h.size=N at *
 refine ss H1 ?_
 refine A0 (M5 H1 (by decide) O.st λh2 H2 u2=>?_)
 refine ss H2 ?_
 refine A1.stR (i:=1) H2 rfl u2 λh3 H3=>?_
 refine A1.stR (i:=3) H3 rfl (U.lit rfl) λh4 H4=>?_
 refine A1.stR (i:=5) H4 rfl U0 λh5 H5=>?_
 refine ss H5 ?_
 refine A0 (Bw H5 λh6 o6=>By ?_)
 have H6:=A1.old H5 o6
 refine A0 (V8 λh7 o7=>cf7 ?_)
 have H7:=A1.old H6 o7
 refine ss H7 ?_
 have em:(x.load 1).2.m.p=x.m.p:=SN2 x 1
 have em2:(((( x.load 1).2.s 1 (x.load 1).1).s 3 1).s 5 0).m.p=x.m.p:=em
 rw [em2]
 refine A1.stR (i:=2) H7 rfl (S9 _) λh8 H8=>?_
 exact A1.stP H8 λh9 H9=>k h9 (A1.drp (A1.none H9))
theorem IR (H:A9 h (A1 M T tv (some (b,o)) x R)) (hr:FS x (x.f.g 2)) (k:∀h',A9 h' (A1 M T tv none (X3 x) R)->K tQ h') :
  A4 prog 267 #[rV M T b o] h K:=by
 refine call267 ?_
 unfold F267 g267 cf bd lI nP I8
 have B:=A1.fB H
 have TB:=A1.B H
 obtain ⟨⟨r0,r1⟩,e1,e2,e3⟩:=hr
 unfold X3 at k
 dsimp only at k
 have H1:=A1.new H (oQ #[mP M,mP T,fP b o] 254);generalize h.push (oQ #[mP M,mP T,fP b o] 254)=h1 at *;generalize h.size=N at *
 refine ss H1 ?_
 refine A0 (CW H1 λh2 o2=>?_)
 have H2:=A1.old H1 o2
 obtain ⟨pb,sb,wb,Q,hQ,HR,re⟩:=Se H2
 obtain ⟨c5,c6,c7⟩:=hQ h2 _ HR.drop.drop.drop
 have d5:∀F:vQ->Prop,D2 h2 ⟨T,5,none⟩ F=F (lQ (some (aQ pb)) x.t.pred.length x.t.pred.length):=λF=>by unfold D2;rw [c5]
 have d6:∀F:vQ->Prop,D2 h2 ⟨T,6,none⟩ F=F (lQ (some (aQ sb)) x.t.succ.length x.t.succ.length):=λF=>by unfold D2;rw [c6]
 have d7:∀F:vQ->Prop,D2 h2 ⟨T,7,none⟩ F=F (lQ (some (aQ wb)) x.t.word.length x.t.word.length):=λF=>by unfold D2;rw [c7]
 refine sd4 (A1.al H2) d5 d6 d7 ?_
 refine A0 (AZ H2 λh3 o3=>?_)
 have H3:=A1.old H2 o3
 have HR3:=HR.old o3
 obtain ⟨c5,c6,c7⟩:=hQ h3 _ HR3.drop.drop.drop
 refine sd4 (A1.al H3) c5 c6 c7 ?_
 refine ⟨r0,by omega,?_⟩
 have hu:∀l:List Int,(V7 l).length=l.length:=Mw
 have us:∀(l:List Int) (i:Nat) (v:Int),(V7 l).set i (uQ v)=V7 (l.set i v):=λl i v=>by unfold V7;rw [Ra]
 refine Dv HR3 (by rw [hu];omega) trivial λh4 H4=>?_
 refine ⟨r0,by omega,?_⟩
 rw [Jk,us] at H4
 refine Dv H4 (by rw [hu];omega) trivial λh5 H5=>?_
 refine ⟨r0,by omega,?_⟩
 rw [<- Jk,us,D8] at H5
 refine Dv H5 (by rw [hu];omega) trivial λh6 H6=>?_
 rw [D8,us] at H6
 have H7:=re h6 _ _ _ (by simp) (by simp) (by simp) (Ak TB.pr (B.g 3)) (Ak TB.su (U8 _)) (Ak TB.wo (B.g 4)) H6
 have ef:(x.setPl (x.t.pred.set (G2 (x.f.g 2)).toNat (x.f.g 3)) (x.t.succ.set (G2 (x.f.g 2)).toNat (J5 (x.f.g 4))) (x.t.word.set (G2 (x.f.g 2)).toNat (x.f.g 4))).f=x.f:=rfl
 refine sd2 (A1.al H7) ef ?_
 apply A6<;>intro c
 ·have c':(G2 (x.f.g 2)).toNat=0:=by omega
  rw [A8 c'] at k
  exact A0 (Sr3 H7 [x.f.g 5] rfl (X6 (B.g 5)) rfl λh8 H8=>k h8 (A1.drp H8))
 ·have c':¬ (G2 (x.f.g 2)).toNat=0:=by omega
  rw [A7 c'] at k
  exact A1.stR (i:=2) H7 rfl (S9 _) λh8 H8=>A1.stP H8 λh9 H9=>k h9 (A1.drp (A1.none H9))
theorem Sj (H:A9 h (A1 M T tv (some (b,o)) x R)) (O:Ok x) (k:∀h',A9 h' (A1 M T tv none (Cp x) R)->K tQ h') :
  A4 prog 268 #[rV M T b o] h K:=by
 refine call268 ?_
 unfold F268 g268 cf bd lP nP I8 M0
 have B:=A1.fB H
 unfold Cp at k
 dsimp only at k
 have H1:=A1.new H (oQ #[mP M,mP T,fP b o] 254);generalize h.push (oQ #[mP M,mP T,fP b o] 254)=h1 at *;generalize h.size=N at *
 refine ss H1 ?_
 refine A0 (M5 H1 (by decide) O.st λh2 H2 u2=>?_)
 refine ss H2 ?_
 apply D1<;>intro c
 ·rw [A8 (bne_iff_ne.1 c)] at k
  exact A1.stP H2 λh3 H3=>k h3 (A1.drp (A1.none H3))
 rw [A7 (λhh=>hh (bne_eq_false_iff_eq.1 c))] at k
 refine ⟨λvs h'=>(∃w,vs = [dQ (decide (G2 (x.f.g 2)=0/\Ae (x.f.g 4)=true)),w])/\A9 h' (A1 M T tv (some (b,o)) (x.load 1).2 (pt N (oQ #[mP M,mP T,fP b o] 254)*R)),?_,?_⟩
 ·refine ss H2 ?_
  refine A0 (CW H2 λh3 o3=>?_)
  have H3:=A1.old H2 o3
  refine ss H3 ?_
  apply A6<;>intro c2
  ·skip
   refine A0 (LL H3 λh4 o4=>?_)
   have H4:=A1.old H3 o4
   refine ss H4 ?_
   refine A0 (W6 (B.g 4) ?_)
   refine sb ?_
   rw [show decide (G2 (x.f.g 2)=0/\Ae (x.f.g 4)=true)=Ae (x.f.g 4) by simp [c2]]
   exact ⟨⟨_,rfl⟩,H4⟩
  ·rw [S4 (p:=G2 (x.f.g 2)=0/\Ae (x.f.g 4)=true) (λhh=>c2 hh.1)]
   exact ⟨⟨_,rfl⟩,H3⟩
 rintro v28 v29 g30 h31 ⟨⟨w,e⟩,H3⟩
 cases e
 refine ss H3 ?_
 apply A6<;>intro c2
 ·rw [A8 c2] at k
  refine A0 (AZ H3 λh4 o4=>?_)
  have H4:=A1.old H3 o4
  refine ss H4 ?_
  refine A1.stR (i:=5) H4 rfl (U8 _) λh5 H5=>?_
  refine ss H5 ?_
  exact A0 (HW H5 λh6 H6=>k h6 (A1.drp H6))
 rw [A7 c2] at k
 refine A0 (CW H3 λh4 o4=>?_)
 have H4:=A1.old H3 o4
 refine ss H4 ?_
 apply A6<;>intro c3
 ·rw [A8 c3] at k
  exact A1.stP H4 λh5 H5=>k h5 (A1.drp (A1.none H5))
 ·rw [A7 c3] at k
  exact A1.stP H4 λh5 H5=>k h5 (A1.drp (A1.none H5))
theorem Vl (H:A9 h (A1 M T tv (some (b,o)) x R)) (O:Ok x) (hr:x.f.pc≠0->FS x (x.f.g 2)) (k:∀h',A9 h' (A1 M T tv none (Fe x) R)->K tQ h') :
  A4 prog 176 #[rV M T b o] h K:=by
 refine call176 ?_
 unfold F176 g176 cf ce bd lP lI nP I8 M0
 have B:=A1.fB H
 have P:=A1.pl H
 unfold Fe at k
 dsimp only at k
 have H1:=A1.new H (oQ #[mP M,mP T,fP b o] 254);generalize h.push (oQ #[mP M,mP T,fP b o] 254)=h1 at *;generalize h.size=N at *
 refine ss H1 ?_
 apply A6<;>intro c
 ·rw [A8 c] at k
  have em:(x.load 1).2.m.p=x.m.p:=SN2 x 1
  rw [em] at k
  exact A0 (Si H1 O λh2 H2=>k h2 (A1.drp H2))
 rw [A7 c] at k
 have hr:=hr c
 have hrr:0<=G2 (x.f.g 2)/\G2 (x.f.g 2) < 1000:=⟨hr.r.1,by have:=hr.r.2;have:=hr.e3;omega⟩
 have hr6:G2 (x.f.g 2) < 6:=by have:=hr.r.2;have:=hr.e3;omega
 apply A6<;>intro c
 ·rw [A8 c] at k
  refine A0 (CW H1 λh3 o3=>?_)
  have H3:=A1.old H1 o3
  refine ss H3 ?_
  rw [Gv (n:=2*G2 (x.f.g 2)) (by omega) (by omega)]
  refine A0 (LM H3 O ⟨by omega,by omega⟩ λh4 o4=>?_)
  have H4:=A1.old H3 o4
  refine ss H4 ?_
  refine A0 (U7 H4 (Hv P _ _) (B.g 3) O.st λh5 H5=>?_)
  exact A1.stP H5 λh7 H7=>k h7 (A1.drp (A1.none H7))
 rw [A7 c] at k
 apply A6<;>intro c
 ·rw [A8 c] at k
  refine A0 (CW H1 λh3 o3=>?_)
  have H3:=A1.old H1 o3
  refine ss H3 ?_
  rw [Gv (n:=5+G2 (x.f.g 2)) (by omega) (by omega)]
  refine A0 (KX H3 ⟨by omega,by omega⟩ λh4 o4=>?_)
  have H4:=A1.old H3 o4
  rw [show x.na (x.f.g 3) (5+G2 (x.f.g 2))=x.nlink (x.f.g 3) (x.f.g 2) from rfl]
  refine ss H4 ?_
  refine A0 (M5 H4 (F4 P _ _) O.st λh5 H5 u5=>?_)
  refine ss H5 ?_
  refine A1.stR (i:=4) H5 rfl u5 λh6 H6=>A1.stP H6 λh7 H7=>?_
  refine ss H7 ?_
  refine A0 (AZ H7 λh8 o8=>?_)
  have H8:=A1.old H7 o8
  refine sd2 (A1.al H8) B.len ?_
  apply A6<;>intro c2
  ·rw [A8 c2] at k
   have hr7:FS (((x.load (x.nlink (x.f.g 3) (x.f.g 2))).2.s 4 (x.load (x.nlink (x.f.g 3) (x.f.g 2))).1).pc 3) (((((x.load (x.nlink (x.f.g 3) (x.f.g 2))).2.s 4 (x.load (x.nlink (x.f.g 3) (x.f.g 2))).1).pc 3).f.g 2)):=by
    rw [Bx,Dx,Dw,L9 _ (by decide),Z4]
    exact hr.same ⟨rfl,rfl,rfl⟩
   exact A0 (IR H8 hr7 λh9 H9=>k h9 (A1.drp H9))
  ·rw [A7 c2] at k
   exact k h8 (A1.drp (A1.none H8))
 rw [A7 c] at k
 apply A6<;>intro c
 ·rw [A8 c] at k
  refine A0 (CW H1 λh3 o3=>?_)
  have H3:=A1.old H1 o3
  refine ss H3 ?_
  rw [Gv (n:=2*G2 (x.f.g 2)) (by omega) (by omega),Gv (n:=2*G2 (x.f.g 2)+1) (by omega) (by omega)]
  refine A0 (LM H3 O ⟨by omega,by omega⟩ λh4 o4=>?_)
  have H4:=A1.old H3 o4
  refine ss H4 ?_
  refine A0 (AZ H4 λh5 o5=>?_)
  have H5:=A1.old H4 o5
  refine ss H5 ?_
  refine A0 (U7 H5 (Hv P _ _) (U8 _) O.st λh6 H6=>?_)
  exact A1.stP H6 λh7 H7=>k h7 (A1.drp (A1.none H7))
 rw [A7 c] at k
 apply A6<;>intro c
 ·rw [A8 c] at k
  exact A0 (Sj H1 O λh3 H3=>k h3 (A1.drp H3))
 rw [A7 c] at k
 apply A6<;>intro c
 ·rw [A8 c] at k
  rw [<- Si0] at k
  refine A1.stP H1 λh2 H2=>?_
  refine ss H2 ?_
  refine A0 (AZ H2 λh3 o3=>?_)
  have H3:=A1.old H2 o3
  refine ss H3 ?_
  refine A0 (KX H3 (by decide) λh4 o4=>?_)
  have H4:=A1.old H3 o4
  rw [show (x.pc 6).na (J5 (x.f.g 4)) 5=x.na (J5 (x.f.g 4)) 5 from rfl]
  refine ss H4 ?_
  refine A0 (M5 H4 (F4 P _ _) O.st λh5 H5 u5=>?_)
  refine ss H5 ?_
  refine A0 (W6 u5 ?_)
  refine ss H5 ?_
  apply D1<;>intro c2
  ·rw [A8 c2] at k
   exact A0 (HW H5 λh6 H6=>k h6 (A1.drp H6))
  ·rw [A7 (by rw [c2];simp)] at k
   exact k h5 (A1.drp (A1.none H5))
 rw [A7 c] at k
 rw [<- Si0] at k
 refine A0 (AZ H1 λh3 o3=>?_)
 have H3:=A1.old H1 o3
 refine ss H3 ?_
 refine A0 (KX H3 (by decide) λh4 o4=>?_)
 have H4:=A1.old H3 o4
 refine ss H4 ?_
 refine A0 (M5 H4 (F4 P _ _) O.st λh5 H5 u5=>?_)
 refine ss H5 ?_
 apply A6<;>intro c2
 ·rw [A8 c2] at k
  exact A0 (HW H5 λh6 H6=>k h6 (A1.drp H6))
 ·rw [A7 c2] at k
  exact A0 (IR H5 (hr.same ⟨rfl,rfl,rfl⟩) λh6 H6=>k h6 (A1.drp H6))
def LOk (x:B9):Prop:=x.f.fn=30->x.f.pc≠0->FS x (x.f.g 2)
theorem Po (H:A9 h (A1 M T tv fo x R)) (O:Ok x) (hf:LOk x) (k:∀h',A9 h' (A1 M T tv none (Aq x) R)->K tQ h') :
  A4 prog 115 #[mP M,mP T] h K:=by
 refine call115 ?_
 unfold F115 cf lI nP
 unfold Aq at k
 refine A0 (RQ H (λe=>?_) λb o hne _ H1=>?_)
 ·rw [A8 e] at k
  refine sb ?_
  refine ⟨λvs h'=>(∃w,vs = [dQ true,w])/\h' = h,⟨⟨_,rfl⟩,rfl⟩,?_⟩
  rintro v4 v5 g6 h7 ⟨⟨w,e⟩,rfl⟩
  cases e
  refine sb ?_
  exact k _ (A1.none H)
 ·rw [A7 hne] at k
  refine sb ?_
  refine ⟨λvs h'=>(∃w,vs = [dQ false,w])/\h' = h,⟨⟨_,rfl⟩,rfl⟩,?_⟩
  rintro v4 v5 g6 h7 ⟨⟨w,e⟩,rfl⟩
  cases e
  refine sd1 (A1.r H1) ?_
  apply A6<;>intro c
  ·rw [A8 c] at k
   exact A0 (Vl H1 O (hf c) k)
  rw [A7 c] at k
  exact A0 (Fy H1 O k)
end
end
section
open Mod
theorem and1 {n:Int} (h:U n):Mod.u64 ((((BitVec.ofInt 64 n) &&& (BitVec.ofInt 64 1)).toNat:Nat):Int)=n % 2:=by
 obtain ⟨h0,h1⟩:=h
 have e:(BitVec.ofInt 64 n).toNat=n.toNat:=by
  rw [BitVec.toNat_ofInt]
  omega
 rw [BitVec.toNat_and,e,show (BitVec.ofInt 64 1).toNat=1 from rfl,Nat.and_one_is_mod]
 unfold Mod.u64
 omega
section
variable {K:kQ} {h:A2} {M T b o N:Nat} {tv:vQ} {fo:Option (Nat × Nat)} {x:B9} {R:Hp}
theorem Fm (H:A9 h (A1 M T tv (some (b,o)) x R)) {pc fn:Int} {a:rQ} {l c:Nat} {rs:List Int} (A:As R a l c rs) (hl:l<=10) (hd:x.t.fr.length < 1073741823)
  (k:∀h' b' o',¬ (b' = b/\o' = o)->GM h' (some (b,o)) (x.pc pc).f->A9 h' (A1 M T tv (some (b',o')) (x.call pc fn rs) R)->K tQ h') :
  A4 prog 186 #[rV M T b o,iQ pc,iQ fn,lQ a l c] h K:=by
 refine call186 ?_
 unfold F186 g186 cf lP nP
 have H1:=A1.new H (oQ #[mP M,mP T,fP b o] 202);generalize h.push (oQ #[mP M,mP T,fP b o] 202)=h1 at *;generalize h.size=N at *
 refine se1 (A1.l H1) ?_
 refine A1.stP H1 λh2 H2=>?_
 refine se1 (A1.l H2) ?_
 refine A0 (UI H2 A.skip hl (by show (x.t.fr.dropLast ++ [_]).length < _;simp;omega) λh3 b' o' h1 h2 H3=>k h3 b' o' (λe=>h1 b o rfl e) h2 (A1.drp H3))
theorem Gy (H:A9 h (A1 M T tv (some (b,o)) x R)) {pc fn:Int} {l:Nat} (rs:List Int) {ty:TypeId} (hr:rs.length=l) (hu:∀v ∈ rs,U v) (hl:Nat.ble l 10=true) (hd:x.t.fr.length < 1073741823)
  (k:∀h' b' o',¬ (b' = b/\o' = o)->GM h' (some (b,o)) (x.pc pc).f->A9 h' (A1 M T tv (some (b',o')) (x.call pc fn rs) R)->K tQ h') :
  A4 prog 186 #[rV M T b o,iQ pc,iQ fn,lQ (some (aQ h.size)) l l] (h.push (oQ (V7 rs).toArray ty)) K:=
 Fm (A1.new H (oQ (V7 rs).toArray ty)) (As.mk' hr hu) (PE hl) hd λh' b' o' h1 h2 H'=>k h' b' o' h1 h2 (A1.drp H')
theorem Bm (H:A9 h (A1 M T tv fo x R)) {n f:Int} (hf:iN f) (k:∀h',G9 h.size h h'->K (iQ (x.na n f)) h') :
  A4 prog 270 #[rV M T b o,uQ n,iQ f] h K:=by
 refine call270 ?_
 unfold F270 g270 cf lP O8
 have oo:G9 h.size h (h.push (oQ #[mP M,mP T,fP b o] 202)):=(G9.refl _ _).push _ (G0 _)
 have s1:=oo.1
 have H1:=A1.new H (oQ #[mP M,mP T,fP b o] 202);generalize h.push (oQ #[mP M,mP T,fP b o] 202)=h1 at *;generalize h.size=N at *
 refine se1 (A1.l H1) ?_
 refine A0 (Bw H1 λh2 o2=>By ?_)
 refine A0 (R0 (A1.pl H) (T9 _) hf λh3 o3=>?_)
 refine sb ?_
 exact k h3 (oo.trans ((o2.trans (o3.mono o2.1)).mono s1))
theorem J2 (H:A9 h (A1 M T tv fo x R)) {n r:Int} (k:∀h',G9 h.size h h'->K (iQ (x.nlink n r)) h') :
  A4 prog 182 #[rV M T b o,uQ n,uQ r] h K:=by
 refine call182 ?_
 unfold F182 g182 cf M0
 have oo:G9 h.size h (h.push (oQ #[mP M,mP T,fP b o] 202)):=(G9.refl _ _).push _ (G0 _)
 have s1:=oo.1
 have H1:=A1.new H (oQ #[mP M,mP T,fP b o] 202);generalize h.push (oQ #[mP M,mP T,fP b o] 202)=h1 at *;generalize h.size=N at *
 refine se1 (A1.l H1) ?_
 refine A0 (Bm H1 (T9 _) λh2 o2=>?_)
 refine sb ?_
 have e:x.na n (G2 (5+G2 r))=x.nlink n r:=Vf (A1.pl H) (T9 _)
 rw [e]
 exact k h2 (oo.trans (o2.mono s1))
theorem Bn (H:A9 h (A1 M T tv fo x R)) {a w t:Int} {mk:Bool} (ha:iN a) (hw:U w) (hs:x.m.mm.st < 1099511627776) (k:∀h',A9 h' (A1 M T tv fo (x.swingM a w t mk).2 R)->K (dQ (x.swingM a w t mk).1) h') :
  A4 prog 187 #[rV M T b o,iQ a,uQ w,uQ t,dQ mk] h K:=by
 refine call187 ?_
 unfold F187 g187 cf ce
 have H1:=A1.new H (oQ #[mP M,mP T,fP b o] 202);generalize h.push (oQ #[mP M,mP T,fP b o] 202)=h1 at *;generalize h.size=N at *
 refine se1 (A1.l H1) ?_
 refine A0 (U6 hw ?_)
 refine se1 (A1.l H1) ?_
 refine A0 (UH H1 ha Bi hs λh3 H3=>?_)
 refine sb ?_
 exact k h3 (A1.drp H3)
theorem NL (H:A9 h (A1 M T tv (some (b,o)) x R)) {k7 k8 k9:Int} (h7:U k7) (h8:U k8) (h9:U k9) (hd:x.t.fr.length < 1073741823)
  (k:∀h' b' o',A9 h' (A1 M T tv (some (b',o')) (x.fin k7 k8 k9) R)->K tQ h') :
  A4 prog 271 #[rV M T b o,uQ k7,uQ k8,uQ k9] h K:=by
 refine call271 ?_
 unfold F271 g271 cf ce bd lP nP M0
 have H1:=A1.new H (oQ #[mP M,mP T,fP b o] 202);generalize h.push (oQ #[mP M,mP T,fP b o] 202)=h1 at *;generalize h.size=N at *
 refine se1 (A1.l H1) ?_
 refine A1.stR (i:=7) H1 rfl h7 λh2 H2=>?_
 refine se1 (A1.l H2) ?_
 refine A1.stR (i:=8) H2 rfl h8 λh3 H3=>?_
 refine se1 (A1.l H3) ?_
 refine A1.stR (i:=9) H3 rfl h9 λh4 H4=>?_
 refine se1 (A1.l H4) ?_
 refine A0 (Fm H4 As.none (by omega) ?_ λh5 b' o' h1 h2 H5=>k h5 b' o' (A1.drp H5))
 have e:=OE.2 (JW (A1.thr H))
 show ((((x.t.fr.dropLast ++ [_]).dropLast ++ [_]).dropLast) ++ [_]).length < _
 simp
 omega
theorem Dl (H:A9 h (A1 M T tv (some (b,o)) x R)) {kd:Int} (h7:U kd) (hd:x.t.fr.length < 1073741823)
  (k:∀h' b' o',A9 h' (A1 M T tv (some (b',o')) (x.fin kd 0 0) R)->K tQ h') :
  A4 prog 185 #[rV M T b o,uQ kd] h K:=by
 refine call185 ?_
 unfold F185 g185 cf M0
 have H1:=A1.new H (oQ #[mP M,mP T,fP b o] 202);generalize h.push (oQ #[mP M,mP T,fP b o] 202)=h1 at *;generalize h.size=N at *
 refine se1 (A1.l H1) ?_
 exact A0 (NL H1 h7 U0 U0 hd λh5 b' o' H5=>k h5 b' o' (A1.drp H5))
theorem Kb (H:A9 h (A1 M T tv fo x R)) (O:Ok x) {sl n:Int} (hs:U sl) (hn:U n) (k:∀h',A9 h' (A1 M T tv fo (x.guard sl n) R)->K tQ h') :
  A4 prog 190 #[rV M T b o,uQ sl,uQ n] h K:=by
 refine call190 ?_
 unfold F190 g190 cf lP nP SI2 O8 BO ce
 have P:=A1.pl H
 have P1:=P.sl
 have H1:=A1.new H (oQ #[mP M,mP T,fP b o] 202);generalize h.push (oQ #[mP M,mP T,fP b o] 202)=h1 at *;generalize h.size=N at *
 refine se1 (A1.l H1) ?_
 refine A0 (Bw H1 λh2 o2=>By ?_)
 have H2:=A1.old H1 o2
 have H3:=A1.new H2 (oQ AA 117)
 generalize h2.push (oQ AA 117)=h3 at *
 generalize h2.size=N2 at *
 refine OV (F5 (vs:=Ed x.m.p) (A1.loc H3) rfl (by simp [J0]) λh4 w=>?_)
 have H4:=A1.wr H3 w.new w.old
 clear H3 w
 refine se1 (A1.l2 H4) ?_
 refine Hw (A1.loc H4) ?_
 refine se2 (A1.l2 H4) (A1.tc H4) ?_
 refine Hw (A1.loc H4) ?_
 refine A0 (Bj λh5 o5=>?_)
 have H5:=A1.old H4 o5
 refine se2 (A1.l2 H5) (A1.tc H5) ?_
 refine YM (A1.loc H5) ?_
 have es:G2 (G2 (x.m.p.slots - 1) - G2 (Mod.u64 ((((BitVec.ofInt 64 sl) &&& (BitVec.ofInt 64 1)).toNat:Nat):Int)))=x.m.p.slots - 1 - sl % 2:=by
  rw [and1 hs]
  unfold G2
  omega
 try rw [es]
 refine A0 (BP P O.id ⟨by omega,by omega⟩ λh6 o6=>?_)
 have H6:=A1.old H5 o6
 refine se1 (A1.l2 H6) ?_
 exact A0 (U7 H6 (Hv P _ _) hn O.st λh7 H7=>k h7 (A1.drp (A1.drp H7)))
theorem W8 {w:Int} (hw:U w) (k:K (uQ (J5 w)) h):A4 prog 183 #[uQ w] h K:=by
 refine call183 ?_
 unfold F183 cf
 refine A0 (N9 hw ?_)
 refine sb ?_
 exact k
theorem BW {w:Int} (hw:U w) (k:K (dQ (Ae w)) h):A4 prog 184 #[uQ w] h K:=by
 refine call184 ?_
 unfold F184 cf
 refine A0 (W6 hw ?_)
 refine sb ?_
 exact k
end
end
section
open Mod
section
variable {K:kQ} {h:A2} {M T b o N:Nat} {tv:vQ} {fo:Option (Nat × Nat)} {x:B9} {R:Hp}
theorem Sk {u v w:Int} (h1:U u) (h2:U v) (h3:U w):∀y ∈ [u,v,w],U y:=by
 intro y hy
 simp only [ED,GF,or_false] at hy
 rcases hy with rfl | rfl | rfl
 ·exact h1
 ·exact h2
 ·exact h3
theorem Vm (H:A9 h (A1 M T tv (some (b,o)) x R)) (O:Ok x) (k:∀h',A9 h' (A1 M T tv none (EY x) R)->K tQ h') :
  A4 prog 108 #[rV M T b o] h K:=by
 refine call108 ?_
 unfold F108 g108 cf lP lI nP M0
 have hp:=O.pc
 unfold EY at k
 have H1:=A1.new H (oQ #[mP M,mP T,fP b o] 193);generalize h.push (oQ #[mP M,mP T,fP b o] 193)=h1 at *;generalize h.size=N at *
 refine ss H1 ?_
 apply A6<;>intro c
 ·rw [A8 c] at k
  exact A0 (Va H1 O c λh2 H2=>k h2 (A1.drp H2))
 rw [A7 c] at k
 apply A6<;>intro c
 ·rw [A8 c] at k
  exact A0 (Vb H1 O (by omega) λh2 H2=>k h2 (A1.drp H2))
 rw [A7 c] at k
 apply A6<;>intro c
 ·rw [A8 c] at k
  exact A0 (Vc H1 O (by omega) λh2 H2=>k h2 (A1.drp H2))
 rw [A7 c] at k
 exact A0 (YU H1 O λh2 H2=>k h2 (A1.drp H2))
theorem Vn (H:A9 h (A1 M T tv (some (b,o)) x R)) (O:Ok x) (k:∀h',A9 h' (A1 M T tv none (DF x) R)->K tQ h') :
  A4 prog 156 #[rV M T b o] h K:=by
 refine call156 ?_
 unfold F156 g156 cf ce bd lP lI nP I8
 have B:=A1.fB H
 have P:=A1.pl H
 have hd:=O.fr
 have r0:=A1.ret H 0
 unfold DF at k
 dsimp only at k
 have H1:=A1.new H (oQ #[mP M,mP T,fP b o] 194);generalize h.push (oQ #[mP M,mP T,fP b o] 194)=h1 at *;generalize h.size=N at *
 refine ss H1 ?_
 refine A0 (W7 0 rfl H1 λh2 H2=>?_)
 refine ss H2 ?_
 apply A6<;>intro c
 ·rw [A8 c] at k
  refine A0 (Ew H2 λh3 H3=>?_)
  refine ss H3 ?_
  exact A0 (CV H3 [0,u64 (x.at 1)] rfl (LD U0 (S9 _)) rfl (by omega) λh4 b' o' _ _ H4=>k h4 (A1.drp (A1.none H4)))
 rw [A7 c] at k
 apply A6<;>intro c
 ·rw [A8 c] at k
  refine A1.stR (i:=0) H2 rfl r0 λh3 H3=>A1.stP H3 λh4 H4=>?_
  have l1:=AK x 0 (x.ret 0)
  have l2:=Fx (x.s 0 (x.ret 0)) 2
  refine ss H4 ?_
  refine A0 (W7 0 rfl H4 λh5 H5=>?_)
  refine sd2 (A1.al H5) B.len ?_
  refine A0 (W6 r0 ?_)
  refine ss H5 ?_
  apply D1<;>intro c2
  ·rw [A8 c2] at k
   exact A0 (CV H5 [1] rfl (X6 (U.lit rfl)) rfl (by omega) λh6 b' o' _ _ H6=>k h6 (A1.drp (A1.none H6)))
  ·rw [A7 (by rw [c2];simp)] at k
   refine A0 (W7 0 rfl H5 λh6 H6=>?_)
   refine sd2 (A1.al H6) B.len ?_
   refine A0 (N9 r0 ?_)
   refine ss H6 ?_
   apply A6<;>intro c3
   ·rw [A8 c3] at k
    exact A0 (Ee H6 (U.lit rfl) U0 U0 (by omega) λh7 b' o' _ _ H7=>k h7 (A1.drp (A1.none H7)))
   ·rw [A7 c3] at k
    exact k h6 (A1.drp (A1.none H6))
 rw [A7 c] at k
 apply A6<;>intro c
 ·rw [A8 c] at k
  refine A0 (Gt H2 (B.g 0) (by decide) λh3 H3=>?_)
  refine ss H3 ?_
  refine A0 (M5 H3 (F4 P _ _) O.st λh4 H4 u4=>?_)
  refine ss H4 ?_
  exact A1.stR (i:=1) H4 rfl u4 λh5 H5=>A1.stP H5 λh6 H6=>k h6 (A1.drp (A1.none H6))
 rw [A7 c] at k
 apply A6<;>intro c
 ·rw [A8 c] at k
  refine A0 (Gt H2 (B.g 0) (by decide) λh3 H3=>?_)
  refine ss H3 ?_
  refine A0 (M5 H3 (F4 P _ _) O.st λh4 H4 u4=>?_)
  refine ss H4 ?_
  refine A1.stR (i:=2) H4 rfl u4 λh5 H5=>A1.stP H5 λh6 H6=>?_
  have l1:=AK (x.load (x.nodeW (x.f.g 0) 1)).2 2 (x.load (x.nodeW (x.f.g 0) 1)).1
  have l2:=Fx ((x.load (x.nodeW (x.f.g 0) 1)).2.s 2 (x.load (x.nodeW (x.f.g 0) 1)).1) 4
  rw [t_load] at l1
  refine sd2 (A1.al H6) B.len ?_
  apply A6<;>intro c2
  ·rw [A8 c2] at k
   exact A0 (Ee H6 (U.lit rfl) (B.g 1) u4 (by omega) λh7 b' o' _ _ H7=>k h7 (A1.drp (A1.none H7)))
  ·rw [A7 c2] at k
   exact k h6 (A1.drp (A1.none H6))
 rw [A7 c] at k
 exact k h2 (A1.drp (A1.none H2))
theorem Vo (H:A9 h (A1 M T tv (some (b,o)) x R)) (O:Ok x) (k:∀h',A9 h' (A1 M T tv none (DG x) R)->K tQ h') :
  A4 prog 109 #[rV M T b o] h K:=by
 refine call109 ?_
 unfold F109 g109 cf ce bd lP lI nP I8 M0
 have B:=A1.fB H
 have P:=A1.pl H
 have hd:=O.fr
 unfold DG at k
 dsimp only at k
 have H1:=A1.new H (oQ #[mP M,mP T,fP b o] 194);generalize h.push (oQ #[mP M,mP T,fP b o] 194)=h1 at *;generalize h.size=N at *
 refine ss H1 ?_
 refine A0 (W7 0 rfl H1 λh2 H2=>?_)
 refine ss H2 ?_
 apply A6<;>intro c
 ·rw [A8 c] at k
  refine A0 (Gt H2 (B.g 0) (by decide) λh3 H3=>?_)
  refine ss H3 ?_
  refine A0 (M5 H3 (F4 P _ _) O.st λh4 H4 u4=>?_)
  refine ss H4 ?_
  exact A1.stR (i:=3) H4 rfl u4 λh5 H5=>A1.stP H5 λh6 H6=>k h6 (A1.drp (A1.none H6))
 rw [A7 c] at k
 apply A6<;>intro c
 ·rw [A8 c] at k
  refine A1.stP H2 λh3 H3=>?_
  have l1:=Fx x 0
  refine ss H3 ?_
  refine A0 (HO H3 (B.g 0) O.st λh4 H4=>?_)
  refine ss H4 ?_
  apply D1<;>intro c2
  ·rw [A8 c2] at k
   exact A0 (CV H4 [1] rfl (X6 (U.lit rfl)) rfl (show (x.pc 0).t.fr.length < _ by omega) λh6 b' o' _ _ H6=>k h6 (A1.drp (A1.none H6)))
  ·rw [A7 (by rw [c2];simp)] at k
   exact k h4 (A1.drp (A1.none H4))
 rw [A7 c] at k
 apply A6<;>intro c
 ·rw [A8 c] at k
  refine A0 (N9 (B.g 0) ?_)
  refine ss H2 ?_
  exact A0 (CV H2 [J5 (x.f.g 0)] rfl (X6 (U8 _)) rfl (by omega) λh6 b' o' _ _ H6=>k h6 (by rw [NE];exact A1.drp (A1.none H6)))
 rw [A7 c] at k
 apply A6<;>intro c
 ·rw [A8 c] at k
  exact A0 (Ee H2 (U.lit rfl) (B.g 1) (B.g 2) (by omega) λh7 b' o' _ _ H7=>k h7 (A1.drp (A1.none H7)))
 rw [A7 c] at k
 exact A0 (Vn H2 O λh3 H3=>k h3 (A1.drp H3))
theorem LN (H:A9 h (A1 M T tv (some (b,o)) x R)) (O:Ok x) (k:∀h',A9 h' (A1 M T tv none (En x) R)->K tQ h') :
  A4 prog 159 #[rV M T b o] h K:=by
 refine call159 ?_
 unfold F159 g159 cf ce bd lP nP I8
 have B:=A1.fB H
 have P:=A1.pl H
 unfold En at k
 dsimp only at k
 have H1:=A1.new H (oQ #[mP M,mP T,fP b o] 195);generalize h.push (oQ #[mP M,mP T,fP b o] 195)=h1 at *;generalize h.size=N at *
 refine ss H1 ?_
 refine A0 (W7 1 rfl H1 λh2 H2=>?_)
 refine ss H2 ?_
 refine A1.stP H2 λh3 H3=>?_
 refine ss H3 ?_
 refine A0 (N9 (B.g 1) ?_)
 refine ss H3 ?_
 refine A0 (HO H3 (B.g 1) O.st λh4 H4=>?_)
 refine ss H4 ?_
 apply D1<;>intro c2
 ·rw [A8 c2] at k
  exact A0 (Pg H4 As.none (by omega) λh5 H5=>k h5 (A1.drp H5))
 ·rw [A7 (by rw [c2];simp)] at k
  exact k h4 (A1.drp (A1.none H4))
theorem Vp (H:A9 h (A1 M T tv (some (b,o)) x R)) (O:Ok x) (k:∀h',A9 h' (A1 M T tv none (EZ x) R)->K tQ h') :
  A4 prog 160 #[rV M T b o] h K:=by
 refine call160 ?_
 unfold F160 g160 cf bd lP lI nP I8 M0
 have B:=A1.fB H
 have P:=A1.pl H
 have hd:=O.fr
 have r0:=A1.ret H 0
 have r1:=A1.ret H 1
 unfold EZ at k
 dsimp only at k
 have H1:=A1.new H (oQ #[mP M,mP T,fP b o] 195);generalize h.push (oQ #[mP M,mP T,fP b o] 195)=h1 at *;generalize h.size=N at *
 refine ss H1 ?_
 apply A6<;>intro c
 ·rw [A8 c] at k
  exact A0 (CV H1 [x.f.g 0] rfl (X6 (B.g 0)) rfl (by omega) λh4 b' o' _ _ H4=>k h4 (A1.drp (A1.none H4)))
 rw [A7 c] at k
 apply A6<;>intro c
 ·rw [A8 c] at k
  refine A1.stR (i:=1) H1 rfl r0 λh2 H2=>?_
  refine A1.stR (i:=2) H2 rfl r1 λh3 H3=>A1.stP H3 λh4 H4=>?_
  refine ss H4 ?_
  refine A0 (W7 1 rfl H4 λh5 H5=>?_)
  refine sd2 (A1.al H5) B.len ?_
  refine A0 (W6 r0 ?_)
  refine ss H5 ?_
  apply D1<;>intro c2
  ·rw [A7 (by simpa using c2)] at k
   exact A0 (Pg H5 As.none (by omega) λh6 H6=>k h6 (A1.drp H6))
  ·rw [A8 (by simpa using c2)] at k
   exact k h5 (A1.drp (A1.none H5))
 rw [A7 c] at k
 apply A6<;>intro c
 ·rw [A8 c] at k
  refine A1.stP H1 λh2 H2=>?_
  refine ss H2 ?_
  refine A0 (M5 H2 (by decide) O.st λh3 H3 u3=>?_)
  refine ss H3 ?_
  refine A0 (UY (T9 _) ?_)
  refine ss H3 ?_
  apply D1<;>intro c2
  ·rw [A8 c2] at k
   exact A1.stP H3 λh4 H4=>k h4 (A1.drp (A1.none H4))
  ·rw [A7 (by rw [c2];simp)] at k
   exact k h3 (A1.drp (A1.none H3))
 rw [A7 c] at k
 apply A6<;>intro c
 ·rw [A8 c] at k
  exact A0 (LN H1 O λh2 H2=>k h2 (A1.drp H2))
 rw [A7 c] at k
 exact k h1 (A1.drp (A1.none H1))
theorem Te4:Be prog 184=.pointer 190:=by kernel_rfl
theorem Sr7 {P:Program} (d:Nat) {t el:TypeId} {a b:Addr} (hu:P.underlying t=some (.pointer el)) (hth:L0 P el=true) (hsz:M2 P el≠0) (F:Bool->A2->Prop) (h:A2) (H:hp P (sameAddr a b) F h):hp P (Op.equalIn (d+1) t (.pointer (some a)) (.pointer (some b))) F h:=by
 simp only [Op.equalIn,B6,C8 hu,J7 hth]
 rw [A8 hsz]
 exact H
theorem S33 {h:A2} {p q:Nat} {K:kQ} (k:K (dQ true) h):To prog .eql 184 (some ⟨p,q,none⟩) (some ⟨p,q,none⟩) h K:=by
 unfold To
 rw [V2 (by simp) (by simp) (by simp) (by simp),R6]
 refine Sr7 9999 (E4 Te4 (by simp)) UG (by rw [KO];omega) _ _ ?_
 unfold sameAddr
 simp only [PF,if_true]
 exact k
theorem Kc (H:A9 h (A1 M T tv (some (b,o)) x R)) (O:Ok x) {at_:Nat} {next place:Int} (ha:at_<=8) (hp:U place)
  (k1:Ae (x.ret 0)=true->∀h',A3 h' ⟨b,o+1,none⟩=some (iQ 0)->A9 h' (A1 M T tv none (Af x at_ next place) R)->K tQ h')
  (k0:Ae (x.ret 0)=false->∀h',A9 h' (A1 M T tv (some (b,o)) (Af x at_ next place) R)->K tQ h') :
  A4 prog 157 #[rV M T b o,iQ (at_:Int),iQ next,uQ place] h K:=by
 refine call157 ?_
 unfold F157 g157 cf bd lP lI nP I8
 have B:=A1.fB H
 have hd:=O.fr
 have r0:=A1.ret H 0
 have r1:=A1.ret H 1
 unfold Af at k1 k0
 dsimp only at k1 k0
 have e1:G2 ((at_:Int)+1)=((at_+1:Nat):Int):=by unfold G2;omega
 have H1:=A1.new H (oQ #[mP M,mP T,fP b o] 195);generalize h.push (oQ #[mP M,mP T,fP b o] 195)=h1 at *;generalize h.size=N at *
 refine sd2 (A1.al H1) e1 ?_
 refine ⟨by omega,by omega,?_⟩
 rw [show o+(2+at_)=o+(at_+2) by omega]
 refine A1.stR (i:=at_) H1 (by rw [Ld];omega) r0 λh2 H2=>?_
 refine ⟨by omega,by omega,?_⟩
 rw [show o+(2+(at_+1))=o+(at_+1+2) by omega]
 refine A1.stR (i:=at_+1) H2 (by rw [Ld];omega) r1 λh3 H3=>A1.stP H3 λh4 H4=>?_
 refine ss H4 ?_
 have hfl:(((x.s at_ (x.ret 0)).s (at_+1) (x.ret 1)).pc next).t.fr.length<=x.t.fr.length+3:=by
  have l1:=AK x at_ (x.ret 0)
  have l2:=AK (x.s at_ (x.ret 0)) (at_+1) (x.ret 1)
  have l3:=Fx ((x.s at_ (x.ret 0)).s (at_+1) (x.ret 1)) next
  omega
 refine A0 (W7 at_ (by rw [Ld];omega) H4 λh5 H5=>?_)
 have eg:(((x.s at_ (x.ret 0)).s (at_+1) (x.ret 1)).pc next).f.g at_=x.ret 0:=by
  rw [Bx,Dw,Dw,Dx,L9 _ (by omega),Ht B.len (by omega)]
 rw [eg]
 refine ss H5 ?_
 refine A0 (W6 r0 ?_)
 refine ss H5 ?_
 apply D1<;>intro c
 ·rw [A8 c] at k1
  refine A0 (CV H5 [place] rfl (X6 hp) rfl (by omega) λh6 b' o' _ st H6=>k1 c h6 ?_ (A1.drp (A1.none H6)))
  refine st b o 1 _ rfl ?_
  rw [Bx]
  rfl
 ·rw [A7 (by rw [c];simp)] at k0
  exact k0 c h5 (A1.drp H5)
theorem LO (H:A9 h (A1 M T tv (some (b,o)) x R)) (O:Ok x) {at_:Nat} {place:Int} (ha:at_<=8) (hp:U place) (k:∀h',A9 h' (A1 M T tv none (Eo x at_ place) R)->K tQ h') :
  A4 prog 158 #[rV M T b o,iQ (at_:Int),uQ place] h K:=by
 refine call158 ?_
 unfold F158 g158 cf ce bd lP lI nP I8
 have B:=A1.fB H
 have P:=A1.pl H
 unfold Eo at k
 dsimp only at k
 have H1:=A1.new H (oQ #[mP M,mP T,fP b o] 195);generalize h.push (oQ #[mP M,mP T,fP b o] 195)=h1 at *;generalize h.size=N at *
 refine ss H1 ?_
 refine A0 (W7 1 rfl H1 λh2 H2=>?_)
 refine ss H2 ?_
 refine A0 (W7 at_ (by rw [Ld];omega) H2 λh3 H3=>?_)
 refine ss H3 ?_
 refine A1.stP H3 λh4 H4=>?_
 refine ss H4 ?_
 refine A0 (Ew H4 λh5 H5=>?_)
 refine ss H5 ?_
 refine A0 (N9 (B.g at_) ?_)
 refine ss H5 ?_
 refine A0 (U6 (B.g 1) ?_)
 refine ss H5 ?_
 refine A0 (Ew H5 λh6 H6=>?_)
 refine ss H6 ?_
 refine A0 (N9 (B.g 1) ?_)
 refine ss H6 ?_
 refine A0 (U6 (B.g at_) ?_)
 refine ss H6 ?_
 refine A0 (Ti5 H6 (UZ P _) (UZ P _) Bi Bi O.st λh7 H7=>?_)
 refine ss H7 ?_
 apply D1<;>intro c
 ·rw [A8 c] at k
  exact A1.stR (i:=0) H7 rfl hp λh8 H8=>k h8 (A1.drp (A1.none H8))
 ·rw [A7 (by rw [c];simp)] at k
  exact k h7 (A1.drp (A1.none H7))
theorem Vq (H:A9 h (A1 M T tv (some (b,o)) x R)) (O:Ok x) (k:∀h',A9 h' (A1 M T tv none (Fa x) R)->K tQ h') :
  A4 prog 110 #[rV M T b o] h K:=by
 refine call110 ?_
 unfold F110 g110 cf bd lP lI nP I8 M0
 have B:=A1.fB H
 have P:=A1.pl H
 have hd:=O.fr
 unfold Fa at k
 dsimp only at k
 have hl:U (u64 (2*x.f.g 0)):=S9 _
 have H1:=A1.new H (oQ #[mP M,mP T,fP b o] 195);generalize h.push (oQ #[mP M,mP T,fP b o] 195)=h1 at *;generalize h.size=N at *
 refine ss H1 ?_
 generalize hle:u64 (2*x.f.g 0)=left at *
 apply A6<;>intro c
 ·rw [A8 c] at k
  exact A0 (CV H1 [left] rfl (X6 hl) rfl (by omega) λh4 b' o' _ _ H4=>k h4 (A1.drp (A1.none H4)))
 rw [A7 c] at k
 apply A6<;>intro c
 ·rw [A8 c] at k
  refine A0 (Kc (at_:=3) H1 O (by omega) hl (λcm h2 e2 H2=>?_) λcm h2 H2=>?_)
  ·rw [A8 cm] at k
   refine ⟨λvs h'=>vs = [dQ false]/\h' = h2,?_,?_⟩
   ·refine C6 e2 ?_
    refine sb ?_
    rw [show ((0:Int) == 6)=false from rfl]
    (try simp only [G5,GN,Nat.reduceAdd,Int.reduceLE,Int.reduceLT,Int.reduceToNat])
   rintro v30 g31 h32 ⟨e,rfl⟩
   cases e
   refine sb ?_
   exact k h32 (A1.drp H2)
  ·rw [A7 (by rw [cm];simp)] at k
   have epc:(Af x 3 6 left).f.pc=6:=by
    unfold Af
    dsimp only
    rw [A7 (by rw [cm];simp)]
    (try simp +decide only [G5,GN,Nat.reduceAdd,Int.reduceLE,Int.reduceLT,Int.reduceToNat,Ox,Ht,L9,B.len])
   have efl:(Af x 3 6 left).t.fr.length<=x.t.fr.length+3:=by
    unfold Af
    dsimp only
    rw [A7 (by rw [cm];simp)]
    have l1:=AK x 3 (x.ret 0)
    have l2:=AK (x.s 3 (x.ret 0)) (3+1) (x.ret 1)
    have l3:=Fx ((x.s 3 (x.ret 0)).s (3+1) (x.ret 1)) 6
    omega
   refine ⟨λvs h'=>vs = [dQ true]/\h' = h2,?_,?_⟩
   ·refine sd2 (A1.al H2) epc ?_
    rw [show ((6:Int) == 6)=true from rfl]
    refine sb ?_
    refine A0 (RQ H2 (λhn=>absurd hn (OE.1 (Tj0 H2))) λb2 o2 _ hbo _=>?_)
    obtain ⟨rfl,rfl⟩:=hbo b o rfl
    refine sb ?_
    exact S33 (by simp only [C0];trivial)
   rintro v30 g31 h32 ⟨e,rfl⟩
   cases e
   refine ss H2 ?_
   exact A0 (CV H2 [u64 (left+1)] rfl (X6 (S9 _)) rfl (by omega) λh4 b' o' _ _ H4=>k h4 (A1.drp (A1.none H4)))
 rw [A7 c] at k
 apply A6<;>intro c
 ·rw [A8 c] at k
  exact A0 (Kc (at_:=5) H1 O (by omega) (S9 _) (λcm h2 e2 H2=>k h2 (A1.drp H2)) λcm h2 H2=>k h2 (A1.drp (A1.none H2)))
 rw [A7 c] at k
 apply A6<;>intro c
 ·rw [A8 c] at k
  refine ⟨λvs h'=>(∃w,vs = [dQ (decide (x.f.g 4<=x.f.g 6/\x.f.g 4 < x.f.g 2)),w])/\h' = h1,?_,?_⟩
  ·apply A6<;>intro c2
   ·rw [show decide (x.f.g 4 < x.f.g 2)=decide (x.f.g 4<=x.f.g 6/\x.f.g 4 < x.f.g 2) by rw [decide_eq_decide];omega]
    exact ⟨⟨_,rfl⟩,by trivial⟩
   ·rw [S4 (p:=x.f.g 4<=x.f.g 6/\x.f.g 4 < x.f.g 2) (by omega)]
    exact ⟨⟨_,rfl⟩,by trivial⟩
  rintro v57 v58 g59 h60 ⟨⟨w,e⟩,rfl⟩
  cases e
  refine sb ?_
  apply A6<;>intro c2
  ·rw [A8 c2] at k
   refine ss H1 ?_
   exact A0 (LO (at_:=3) H1 O (by omega) hl λh2 H2=>k h2 (A1.drp H2))
  rw [A7 c2] at k
  refine ⟨λvs h'=>(∃w,vs = [dQ (decide (x.f.g 6 < x.f.g 4/\x.f.g 6 < x.f.g 2)),w])/\h' = h60,?_,?_⟩
  ·refine ss H1 ?_
   apply A6<;>intro c2
   ·rw [show decide (x.f.g 6 < x.f.g 2)=decide (x.f.g 6 < x.f.g 4/\x.f.g 6 < x.f.g 2) by rw [decide_eq_decide];omega]
    exact ⟨_,rfl⟩
   ·rw [S4 (p:=x.f.g 6 < x.f.g 4/\x.f.g 6 < x.f.g 2) (by omega)]
    exact ⟨_,rfl⟩
  rintro v57 v58 g59 h60 ⟨⟨w,e⟩,rfl⟩
  cases e
  refine ss H1 ?_
  apply A6<;>intro c3
  ·rw [A8 c3] at k
   exact A0 (LO (at_:=5) H1 O (by omega) (S9 _) λh2 H2=>k h2 (A1.drp H2))
  ·rw [A7 c3] at k
   exact A0 (LN H1 O λh2 H2=>k h2 (A1.drp H2))
 rw [A7 c] at k
 exact A0 (Vp H1 O λh2 H2=>k h2 (A1.drp H2))
theorem Sl (H:A9 h (A1 M T tv fo x R)) (O:Ok x) (k:∀h',A9 h' (A1 M T tv none (Z9 x) R)->K tQ h') :
  A4 prog 63 #[mP M,mP T] h K:=by
 refine call63 ?_
 unfold F63 cf bd lI nP M0
 unfold Z9 at k
 dsimp only at k
 refine A0 (RQ H (λe=>?_) λb o hne _ H1=>?_)
 ·rw [A8 e] at k
  refine sb ?_
  refine ⟨λvs h'=>vs = [dQ true]/\h' = h,⟨rfl,rfl⟩,?_⟩
  rintro v4 g6 h7 ⟨e,rfl⟩
  cases e
  refine sb ?_
  exact k _ (A1.none H)
 ·rw [A7 hne] at k
  refine sb ?_
  refine ⟨λvs h'=>vs = [dQ false]/\h' = h,⟨rfl,rfl⟩,?_⟩
  rintro v4 g6 h7 ⟨e,rfl⟩
  cases e
  refine sb ?_
  have B:=A1.fB H1
  have H2:=A1.new H1 (oQ #[pQ none,pQ none,pQ none] 187)
  generalize h7.push (oQ #[pQ none,pQ none,pQ none] 187)=h2 at *
  generalize h7.size=N at *
  refine st3 (F5 (vs:=[mP M,mP T,fP b o]) (A1.loc H2) rfl (by simp [J0]) λh3 w=>?_)
  have H3:A9 h3 (A1 M T tv (some (b,o)) x (pt N (oQ #[mP M,mP T,fP b o] 187)*R)):=A1.wr H2 w.new w.old
  clear H2 w
  refine ss H3 ?_
  refine ⟨λvs h'=>(∃w1 w2,vs = [dQ (decide (x.f.pc=90/\11<=x.f.fn/\x.f.fn<=13)),w1,w2])/\h' = h3,?_,?_⟩
  ·apply A6<;>intro c
   ·apply A6<;>intro c2
    ·rw [show decide (x.f.fn<=13)=decide (x.f.pc=90/\11<=x.f.fn/\x.f.fn<=13) by rw [decide_eq_decide];omega]
     exact ⟨⟨_,_,rfl⟩,by trivial⟩
    ·rw [S4 (p:=x.f.pc=90/\11<=x.f.fn/\x.f.fn<=13) (by omega)]
     exact ⟨⟨_,_,rfl⟩,by trivial⟩
   ·rw [S4 (p:=x.f.pc=90/\11<=x.f.fn/\x.f.fn<=13) (by omega)]
    exact ⟨⟨_,_,rfl⟩,by trivial⟩
  rintro v21 v22 v23 g24 h25 ⟨⟨w1,w2,e⟩,rfl⟩
  cases e
  refine ss H3 ?_
  apply A6<;>intro c
  ·rw [A8 c] at k
   exact A0 (Sr3 H3 [x.f.g 7,x.f.g 8,x.f.g 9] rfl (Sk (B.g 7) (B.g 8) (B.g 9)) rfl λh4 H4=>k h4 (A1.drp H4))
  rw [A7 c] at k
  apply A6<;>intro c
  ·rw [A8 c] at k
   exact A0 (YT H3 O.st (by have:=O.fr;omega) λh4 H4=>k h4 (A1.drp H4))
  rw [A7 c] at k
  apply A6<;>intro c
  ·rw [A8 c] at k
   exact A0 (Vm H3 O λh4 H4=>k h4 (A1.drp H4))
  rw [A7 c] at k
  refine ⟨λvs h'=>(∃w,vs = [dQ (decide (x.f.fn=12\/x.f.fn=13)),w])/\h' = h25,?_,?_⟩
  ·apply A6<;>intro c
   ·rw [V6 (p:=x.f.fn=12\/x.f.fn=13) (.inl c)]
    exact ⟨⟨_,rfl⟩,by trivial⟩
   ·rw [show (x.f.fn == 13)=decide (x.f.fn=12\/x.f.fn=13) by rw [QU,beq_iff_eq,decide_eq_true_iff];omega]
    exact ⟨⟨_,rfl⟩,by trivial⟩
  rintro v61 v62 g63 h64 ⟨⟨w,e⟩,rfl⟩
  cases e
  refine ss H3 ?_
  apply A6<;>intro c
  ·rw [A8 c] at k
   exact A0 (Vo H3 O λh4 H4=>k h4 (A1.drp H4))
  rw [A7 c] at k
  apply A6<;>intro c
  ·rw [A8 c] at k
   exact A0 (Vq H3 O λh4 H4=>k h4 (A1.drp H4))
  rw [A7 c] at k
  exact A0 (Fy H3 O λh4 H4=>k h4 (A1.drp H4))
end
end
section
open Mod
section
variable {K:kQ} {h:A2} {M T b o N:Nat} {tv:vQ} {fo:Option (Nat × Nat)} {x:B9} {R:Hp}
theorem Si1 (x:B9) (n r:Int):x.nlink n (Mod.u64 r)=x.nlink n r:=by
 unfold B9.nlink
 have e:G2 (Mod.u64 r)=G2 r:=by unfold G2 Mod.u64;omega
 rw [e]
theorem S86 (x:B9) (i j:Int):(x.pc i).pc j=x.pc j:=by
 show (x.pc i).setF ((x.pc i).f.at j)=x.setF (x.f.at j)
 rw [Bx]
 unfold B9.pc B9.setF Thr.setTop
 simp [N6.at]
theorem LP (H:A9 h (A1 M T tv (some (b,o)) x R)) (hd:x.t.fr.length < 1073741823) (k:∀h',A9 h' (A1 M T tv none (Br x) R)->K tQ h') :
  A4 prog 259 #[rV M T b o] h K:=by
 refine call259 ?_
 unfold F259 g259 cf ce bd lP lI nP I8
 have B:=A1.fB H
 unfold Br at k
 have H1:=A1.new H (oQ #[mP M,mP T,fP b o] 200);generalize h.push (oQ #[mP M,mP T,fP b o] 200)=h1 at *;generalize h.size=N at *
 refine ss H1 ?_
 refine A0 (Qi (B.g 2) ?_)
 refine ss H1 ?_
 refine A0 (So6 ?_)
 try simp +decide only [G5,GN,Nat.reduceAdd,Int.reduceLE,Int.reduceLT,Int.reduceToNat,Ox,Ht,L9,A1.al H1,Vh (B.g 2),SM9]
 exact A0 (Gx H1 (U.lit rfl) (Vi (B.g 2)) (SN0 _) hd λh5 b' o' H5=>k h5 (A1.drp (A1.none H5)))
theorem Vr (H:A9 h (A1 M T tv (some (b,o)) x R)) (O:Ok x) (k:∀h',A9 h' (A1 M T tv none (AW x) R)->K tQ h') :
  A4 prog 172 #[rV M T b o] h K:=by
 refine call172 ?_
 unfold F172 g172 q172_1 cf ce bd lP lI nP I8 O8 M0
 have B:=A1.fB H
 have P:=A1.pl H
 have hd:=O.fr
 have r0:=A1.ret H 0
 unfold AW at k
 dsimp only at k
 have H1:=A1.new H (oQ #[mP M,mP T,fP b o] 200);generalize h.push (oQ #[mP M,mP T,fP b o] 200)=h1 at *;generalize h.size=N at *
 refine ss H1 ?_
 apply A6<;>intro c
 ·rw [A8 c] at k
  refine A1.stR (i:=6) H1 rfl U0 λh2 H2=>?_
  refine ss H2 ?_
  refine A0 (Bw H2 λh3 o3=>By ?_)
  have H3:=A1.old H2 o3
  refine ss H3 ?_
  refine A0 (Bj λh4 o4=>?_)
  have H4:=A1.old H3 o4
  refine ss H4 ?_
  refine A0 (U1 H4 λh5 o5=>?_)
  have H5:=A1.old H4 o5
  refine ss H5 ?_
  have l1:=AK x 6 0
  exact A0 (Gw H5 [Mod.u64 (x.m.p.slots - 2),Mod.u64 (x.nlink 1 0)] rfl (LD (S9 _) (S9 _)) rfl (by omega) λh6 b' o' _ _ H6=>k h6 (A1.drp (A1.none H6)))
 rw [A7 c] at k
 apply A6<;>intro c
 ·rw [A8 c] at k
  refine A0 (Jp r0 ?_)
  refine ss H1 ?_
  refine A1.stR (i:=0) H1 rfl r0 λh2 H2=>?_
  refine A1.stR (i:=1) H2 rfl (U8 _) λh3 H3=>?_
  refine A1.stP H3 λh4 H4=>?_
  refine sd2 (A1.al H4) B.len ?_
  apply A6<;>intro c2
  ·rw [A8 c2] at k
   have l1:=AK x 0 (x.ret 0)
   have l2:=AK (x.s 0 (x.ret 0)) 1 (J5 (x.ret 0))
   have l3:=Fx ((x.s 0 (x.ret 0)).s 1 (J5 (x.ret 0))) 2
   exact A0 (Gx H4 (U.lit rfl) U0 U0 (by omega) λh5 b' o' H5=>k h5 (A1.drp (A1.none H5)))
  ·rw [A7 c2] at k
   exact k h4 (A1.drp (A1.none H4))
 rw [A7 c] at k
 apply A6<;>intro c
 ·rw [A8 c] at k
  refine A0 (Y0 H1 (by decide) λh2 o2=>?_)
  have H2:=A1.old H1 o2
  refine ss H2 ?_
  refine A0 (M5 H2 (F4 P _ _) O.st λh3 H3 u3=>?_)
  refine ss H3 ?_
  refine A1.stR (i:=3) H3 rfl u3 λh4 H4=>A1.stP H4 λh5 H5=>?_
  refine sd2 (A1.al H5) B.len ?_
  refine A0 (Yx u3 ?_)
  refine ss H5 ?_
  apply D1<;>intro c2
  ·rw [A8 c2] at k
   exact A1.stP H5 λh6 H6=>k h6 (A1.drp (A1.none H6))
  ·rw [A7 (by rw [c2];simp)] at k
   exact k h5 (A1.drp (A1.none H5))
 rw [A7 c] at k
 apply A6<;>intro c
 ·rw [A8 c] at k
  refine A0 (Y0 H1 (by decide) λh2 o2=>?_)
  have H2:=A1.old H1 o2
  refine ss H2 ?_
  refine A0 (M5 H2 (F4 P _ _) O.st λh3 H3 u3=>?_)
  refine ss H3 ?_
  refine A1.stR (i:=2) H3 rfl u3 λh4 H4=>A1.stP H4 λh5 H5=>?_
  refine sd2 (A1.al H5) B.len ?_
  apply A6<;>intro c2
  ·rw [A8 c2] at k
   have l1:=AK (x.load (x.na (x.f.g 1) 0)).2 2 (x.load (x.na (x.f.g 1) 0)).1
   have l2:=Fx ((x.load (x.na (x.f.g 1) 0)).2.s 2 (x.load (x.na (x.f.g 1) 0)).1) 4
   have l3:(x.load (x.na (x.f.g 1) 0)).2.t.fr=x.t.fr:=rfl
   rw [l3] at l1
   exact A0 (LP H5 (by omega) λh6 H6=>k h6 (A1.drp H6))
  ·rw [A7 c2] at k
   exact k h5 (A1.drp (A1.none H5))
 rw [A7 c] at k
 exact k h1 (A1.drp (A1.none H1))
theorem Vs (H:A9 h (A1 M T tv (some (b,o)) x R)) (O:Ok x) (k:∀h',A9 h' (A1 M T tv none (AX x) R)->K tQ h') :
  A4 prog 173 #[rV M T b o] h K:=by
 refine call173 ?_
 unfold F173 g173 cf ce bd lP lI nP I8
 have B:=A1.fB H
 have P:=A1.pl H
 unfold AX at k
 dsimp only at k
 have H1:=A1.new H (oQ #[mP M,mP T,fP b o] 200);generalize h.push (oQ #[mP M,mP T,fP b o] 200)=h1 at *;generalize h.size=N at *
 refine ss H1 ?_
 apply A6<;>intro c
 ·rw [A8 c] at k
  refine A1.stP H1 λh2 H2=>?_
  refine ss H2 ?_
  refine A0 (Y0 H2 (by decide) λh3 o3=>?_)
  have H3:=A1.old H2 o3
  refine ss H3 ?_
  refine A0 (Yy (B.g 3) ?_)
  refine ss H3 ?_
  refine A0 (UH H3 (F4 P _ _) (Sr6 (B.g 3)) O.st λh4 H4=>?_)
  refine ss H4 ?_
  apply D1<;>intro c2
  ·rw [A8 c2] at k
   refine A1.stR (i:=6) H4 rfl (U.lit rfl) λh5 H5=>?_
   exact A1.stP H5 λh6 H6=>k h6 (A1.drp (A1.none H6))
  ·rw [A7 (by rw [c2];simp)] at k
   exact k h4 (A1.drp (A1.none H4))
 rw [A7 c] at k
 apply A6<;>intro c
 ·rw [A8 c] at k
  refine A0 (Y0 H1 (by decide) λh3 o3=>?_)
  have H3:=A1.old H1 o3
  refine ss H3 ?_
  refine A0 (U7 H3 (F4 P _ _) (U.lit rfl) O.st λh4 H4=>?_)
  exact A1.stP H4 λh6 H6=>k h6 (A1.drp (A1.none H6))
 rw [A7 c] at k
 apply A6<;>intro c
 ·rw [A8 c] at k
  refine A0 (Y0 H1 (by decide) λh3 o3=>?_)
  have H3:=A1.old H1 o3
  refine ss H3 ?_
  refine A0 (M5 H3 (F4 P _ _) O.st λh4 H4 u4=>?_)
  refine ss H4 ?_
  exact A1.stR (i:=4) H4 rfl u4 λh5 H5=>A1.stP H5 λh6 H6=>k h6 (A1.drp (A1.none H6))
 rw [A7 c] at k
 exact k h1 (A1.drp (A1.none H1))
theorem Vt (H:A9 h (A1 M T tv (some (b,o)) x R)) (O:Ok x) (k:∀h',A9 h' (A1 M T tv none (AY x) R)->K tQ h') :
  A4 prog 174 #[rV M T b o] h K:=by
 refine call174 ?_
 unfold F174 g174 cf ce bd lP lI nP I8
 have B:=A1.fB H
 have P:=A1.pl H
 unfold AY at k
 dsimp only at k
 have H1:=A1.new H (oQ #[mP M,mP T,fP b o] 200);generalize h.push (oQ #[mP M,mP T,fP b o] 200)=h1 at *;generalize h.size=N at *
 refine ss H1 ?_
 apply A6<;>intro c
 ·rw [A8 c] at k
  apply A6<;>intro c2
  ·rw [A8 c2] at k
   refine A1.stP H1 λh2 H2=>?_
   refine ss H2 ?_
   apply A6<;>intro c3
   ·rw [A8 c3] at k
    exact A1.stP H2 λh3 H3=>k h3 (S86 x 9 11 ▸ A1.drp (A1.none H3))
   ·rw [A7 c3] at k
    exact k h2 (A1.drp (A1.none H2))
  rw [A7 c2] at k
  refine A0 (U1 H1 λh3 o3=>?_)
  have H3:=A1.old H1 o3
  try simp +decide only [G5,GN,Nat.reduceAdd,Int.reduceLE,Int.reduceLT,Int.reduceToNat,Ox,Ht,L9,A1.al H3,Si1]
  refine A0 (M5 H3 (F4 P _ _) O.st λh4 H4 u4=>?_)
  refine ss H4 ?_
  refine A1.stR (i:=5) H4 rfl u4 λh5 H5=>A1.stP H5 λh6 H6=>?_
  refine sd2 (A1.al H6) B.len ?_
  refine A0 (LK u4 ?_)
  refine ss H6 ?_
  apply D1<;>intro c3
  ·rw [A8 c3] at k
   refine A1.stR (i:=4) H6 rfl (S9 _) λh7 H7=>?_
   exact A1.stP H7 λh8 H8=>k h8 (A1.drp (A1.none H8))
  ·rw [A7 (by rw [c3];simp)] at k
   exact k h6 (A1.drp (A1.none H6))
 rw [A7 c] at k
 apply A6<;>intro c
 ·rw [A8 c] at k
  refine A1.stP H1 λh2 H2=>?_
  refine ss H2 ?_
  refine A0 (U1 H2 λh3 o3=>?_)
  have H3:=A1.old H2 o3
  try simp +decide only [G5,GN,Nat.reduceAdd,Int.reduceLE,Int.reduceLT,Int.reduceToNat,Ox,Ht,L9,A1.al H3,Si1]
  refine A0 (RD (B.g 5) ?_)
  refine ss H3 ?_
  refine A0 (UH H3 (F4 P _ _) Bi O.st λh4 H4=>?_)
  refine ss H4 ?_
  apply D1<;>intro c2
  ·rw [A8 c2] at k
   exact A1.stR (i:=4) H4 rfl (S9 _) λh5 H5=>k h5 (A1.drp (A1.none H5))
  ·rw [A7 (by rw [c2];simp)] at k
   exact k h4 (A1.drp (A1.none H4))
 rw [A7 c] at k
 exact k h1 (A1.drp (A1.none H1))
theorem Sm (H:A9 h (A1 M T tv (some (b,o)) x R)) (O:Ok x) (k:∀h',A9 h' (A1 M T tv none (Y6 x) R)->K tQ h') :
  A4 prog 175 #[rV M T b o] h K:=by
 refine call175 ?_
 unfold F175 g175 cf ce bd lP lI nP I8 M0
 have B:=A1.fB H
 have P:=A1.pl H
 have hd:=O.fr
 unfold Y6 at k
 dsimp only at k
 have H1:=A1.new H (oQ #[mP M,mP T,fP b o] 200);generalize h.push (oQ #[mP M,mP T,fP b o] 200)=h1 at *;generalize h.size=N at *
 refine ss H1 ?_
 apply A6<;>intro c
 ·rw [A8 c] at k
  refine A0 (U1 H1 λh3 o3=>?_)
  have H3:=A1.old H1 o3
  refine ss H3 ?_
  refine A0 (M5 H3 (F4 P _ _) O.st λh4 H4 u4=>?_)
  refine ss H4 ?_
  exact A1.stR (i:=5) H4 rfl u4 λh5 H5=>A1.stP H5 λh6 H6=>k h6 (A1.drp (A1.none H6))
 rw [A7 c] at k
 apply A6<;>intro c
 ·rw [A8 c] at k
  refine A0 (U1 H1 λh3 o3=>?_)
  have H3:=A1.old H1 o3
  refine ss H3 ?_
  refine A0 (Jp (B.g 5) ?_)
  refine ss H3 ?_
  refine A0 (DW H3 (F4 P _ _) (B.g 0) O.st λh4 H4=>?_)
  refine ss H4 ?_
  exact A1.stP H4 λh6 H6=>k h6 (A1.drp (A1.none H6))
 rw [A7 c] at k
 apply A6<;>intro c
 ·rw [A8 c] at k
  refine A0 (LJ H1 O.st λh2 H2=>?_)
  refine ss H2 ?_
  apply D1<;>intro c3
  ·rw [A8 c3] at k
   have ef:(x.drop1 (x.f.g 1)).2.f=x.f:=rfl
   refine sd2 (A1.al H2) ef ?_
   exact A0 (Gw H2 [x.f.g 2] rfl (X6 (B.g 2)) rfl (show x.t.fr.length < _ by omega) λh4 b' o' _ _ H4=>k h4 (A1.drp (A1.none H4)))
  ·rw [A7 (by rw [c3];simp)] at k
   exact A1.stP H2 λh5 H5=>k h5 (A1.drp (A1.none H5))
 rw [A7 c] at k
 apply A6<;>intro c
 ·rw [A8 c] at k
  exact A0 (Gw H1 [x.f.g 1] rfl (X6 (B.g 1)) rfl (by omega) λh4 b' o' _ _ H4=>k h4 (A1.drp (A1.none H4)))
 ·rw [A7 c] at k
  exact A0 (LP H1 (by omega) λh6 H6=>k h6 (A1.drp H6))
theorem Vu (H:A9 h (A1 M T tv (some (b,o)) x R)) (O:Ok x) (k:∀h',A9 h' (A1 M T tv none (Co x) R)->K tQ h') :
  A4 prog 114 #[rV M T b o] h K:=by
 refine call114 ?_
 unfold F114 g114 cf lP lI nP M0
 unfold Co at k
 have H1:=A1.new H (oQ #[mP M,mP T,fP b o] 200);generalize h.push (oQ #[mP M,mP T,fP b o] 200)=h1 at *;generalize h.size=N at *
 refine ss H1 ?_
 apply A6<;>intro c
 ·rw [A8 c] at k
  exact A0 (Vr H1 O λh2 H2=>k h2 (A1.drp H2))
 rw [A7 c] at k
 apply A6<;>intro c
 ·rw [A8 c] at k
  exact A0 (Vs H1 O λh2 H2=>k h2 (A1.drp H2))
 rw [A7 c] at k
 apply A6<;>intro c
 ·rw [A8 c] at k
  exact A0 (Vt H1 O λh2 H2=>k h2 (A1.drp H2))
 rw [A7 c] at k
 exact A0 (Sm H1 O λh2 H2=>k h2 (A1.drp H2))
theorem NM (H:A9 h (A1 M T tv fo x R)) (O:Ok x) (hf:FOk x) (hS:x.f.fn=21->Te3 x) (k:∀h',A9 h' (A1 M T tv none (S3 x) R)->K tQ h') :
  A4 prog 64 #[mP M,mP T] h K:=by
 refine call64 ?_
 unfold F64 cf bd lI nP M0
 unfold S3 at k
 dsimp only at k
 refine A0 (RQ H (λe=>?_) λb o hne _ H1=>?_)
 ·rw [A8 e] at k
  refine sb ?_
  refine ⟨λvs h'=>vs = [dQ true]/\h' = h,⟨rfl,rfl⟩,?_⟩
  rintro v4 g6 h7 ⟨e,rfl⟩
  cases e
  refine sb ?_
  exact k _ (A1.none H)
 ·rw [A7 hne] at k
  refine sb ?_
  refine ⟨λvs h'=>vs = [dQ false]/\h' = h,⟨rfl,rfl⟩,?_⟩
  rintro v4 g6 h7 ⟨e,rfl⟩
  cases e
  have B:=A1.fB H1
  refine sb ?_
  have H2:=A1.new H1 (oQ #[pQ none,pQ none,pQ none] 197)
  generalize h7.push (oQ #[pQ none,pQ none,pQ none] 197)=h2 at *
  generalize h7.size=N at *
  refine st3 (F5 (vs:=[mP M,mP T,fP b o]) (A1.loc H2) rfl (by simp [J0]) λh3 w=>?_)
  have H3:=A1.wr H2 w.new w.old
  clear H2 w
  refine ss H3 ?_
  refine ⟨λvs h'=>(∃w,vs = [dQ (decide (x.f.fn < 21\/23 < x.f.fn)),w])/\h' = h3,?_,?_⟩
  ·apply A6<;>intro c
   ·rw [V6 (p:=x.f.fn < 21\/23 < x.f.fn) (by omega)]
    exact ⟨⟨_,rfl⟩,by trivial⟩
   ·rw [show decide (x.f.fn > 23)=decide (x.f.fn < 21\/23 < x.f.fn) by rw [decide_eq_decide];omega]
    exact ⟨⟨_,rfl⟩,by trivial⟩
  rintro v18 v19 g20 h21 ⟨⟨w,e⟩,rfl⟩
  cases e
  refine ss H3 ?_
  apply A6<;>intro c
  ·rw [A8 c] at k
   exact A0 (Ve H3 O hf λh4 H4=>k h4 (A1.drp H4))
  rw [A7 c] at k
  apply A6<;>intro c
  ·rw [A8 c] at k
   exact A0 (Sr3 H3 [x.f.g 7,x.f.g 8,x.f.g 9] rfl (Sk (B.g 7) (B.g 8) (B.g 9)) rfl λh4 H4=>k h4 (A1.drp H4))
  rw [A7 c] at k
  apply A6<;>intro c
  ·rw [A8 c] at k
   exact A0 (Vk H3 O (hS c) λh4 H4=>k h4 (A1.drp H4))
  rw [A7 c] at k
  exact A0 (Vu H3 O λh4 H4=>k h4 (A1.drp H4))
end
end
section
open Mod
section
variable {K:kQ} {h:A2} {M T b o N:Nat} {tv:vQ} {fo:Option (Nat × Nat)} {x:B9} {R:Hp}
theorem SN4 (x:B9) (i n r:Int):(x.pc i).nlink n r=x.nlink n r:=rfl
theorem Vv (H:A9 h (A1 M T tv (some (b,o)) x R)) (O:Ok x) (k:∀h',A9 h' (A1 M T tv none (Cu x) R)->K tQ h') :
  A4 prog 177 #[rV M T b o] h K:=by
 refine call177 ?_
 unfold F177 g177 cf ce bd lP lI nP I8 Jv O8
 have B:=A1.fB H
 have P:=A1.pl H
 have hd:=O.fr
 have r0:=A1.ret H 0
 unfold Cu at k
 dsimp only at k
 have H1:=A1.new H (oQ #[mP M,mP T,fP b o] 204);generalize h.push (oQ #[mP M,mP T,fP b o] 204)=h1 at *;generalize h.size=N at *
 refine ss H1 ?_
 apply A6<;>intro c
 ·rw [A8 c] at k
  exact A0 (Fm H1 As.none (by omega) (by omega) λh2 b' o' _ _ H2=>k h2 (A1.drp (A1.none H2)))
 rw [A7 c] at k
 apply A6<;>intro c
 ·rw [A8 c] at k
  refine A1.stR (i:=2) H1 rfl r0 λh2 H2=>?_
  refine sd2 (A1.al H2) B.len ?_
  apply D1<;>intro c2
  ·have c2':x.ret 0≠0:=by simpa [B9.ret] using c2
   rw [A8 c2'] at k
   exact A1.stP H2 λh3 H3=>k h3 (A1.drp (A1.none H3))
  ·have c2':¬ x.ret 0≠0:=by simpa [B9.ret] using c2
   rw [A7 c2'] at k
   have hfl:=AK x 2 (x.ret 0)
   refine ⟨λvs h'=>(∃w,vs = [dQ (decide (x.f.g 5=0/\x.t.retired.length > 0)),w])/\A9 h' (A1 M T tv (some (b,o)) (x.s 2 (x.ret 0)) (pt N (oQ #[mP M,mP T,fP b o] 204)*R)),?_,?_⟩
   ·apply A6<;>intro c3
    ·refine A0 (DV (A1.thr H2) ?_)
     refine sb ?_
     have e:decide (((x.s 2 (x.ret 0)).t.retired.length:Int) > 0)=decide (x.f.g 5=0/\x.t.retired.length > 0):=by
      rw [decide_eq_decide]
      have e2:(x.s 2 (x.ret 0)).t.retired=x.t.retired:=rfl
      rw [e2]
      omega
     rw [e]
     exact ⟨⟨_,rfl⟩,H2⟩
    ·exact ⟨⟨_,by rw [S4 (λhh=>c3 hh.1)]⟩,H2⟩
   rintro v32 v33 g34 h35 ⟨⟨w,e⟩,H3⟩
   cases e
   refine sb ?_
   apply A6<;>intro c3
   ·rw [A8 c3] at k
    refine A1.stR (i:=5) H3 rfl (U.lit rfl) λh4 H4=>?_
    have hfl2:=AK (x.s 2 (x.ret 0)) 5 1
    refine se1 (A1.l H4) ?_
    exact A0 (Fm H4 As.none (by omega) (by omega) λh5 b' o' _ _ H5=>k h5 (A1.drp (A1.none H5)))
   ·rw [A7 c3] at k
    refine se1 (A1.l H3) ?_
    exact A0 (Dl H3 (U.lit rfl) (by omega) λh5 b' o' H5=>k h5 (A1.drp (A1.none H5)))
 rw [A7 c] at k
 apply A6<;>intro c
 ·rw [A8 c] at k
  refine A0 (S27 H1 (by decide) O.st λh2 H2 u2=>?_)
  try simp +decide only [G5,GN,Nat.reduceAdd,Int.reduceLE,Int.reduceLT,Int.reduceToNat,Ox,Ht,L9,A1.al H2,KW]
  refine A0 (No (Us _) (Us _) ?_)
  refine ss H2 ?_
  refine A1.stR (i:=4) H2 rfl (Qw _ _) λh3 H3=>?_
  refine ss H3 ?_
  refine A0 (A1.feed H3 λq R' HF re=>?_)
  refine ss H3 ?_
  refine A0 (Bw H3 λh4 o4=>By ?_)
  have H4:=A1.old H3 o4
  have HF4:=HF.old o4
  refine A0 (V8 λh5 o5=>cf7 ?_)
  have H5:=A1.old H4 o5
  have HF5:=HF4.old o5
  refine sb ?_
  have P5:=A1.pl H5
  refine A0 (SM8 H5 ?_ HF5 re P5.lv λh6 H6=>?_)
  ·show (x.add 3 1).2.m.used < _
   rw [Vg];exact O.us
  refine sb ?_
  refine A1.stR (i:=3) H6 rfl (S9 _) λh7 H7=>A1.stP H7 λh8 H8=>k h8 (A1.drp (A1.none H8))
 rw [A7 c] at k
 exact k h1 (A1.drp (A1.none H1))
def NN (x:B9):B9:=if x.f.pc=3 then x.store (x.na (x.f.g 2) 0) (x.f.g 4) else if x.f.pc=4 then x.store (x.na (x.f.g 2) 1) (x.f.g 1)
 else if x.f.pc=5 then x.store (x.na (x.f.g 2) 2) 1 else if x.f.pc=6 then x.store (x.na (x.f.g 2) 3) (x.f.g 3) else x
theorem SN5 (x:B9):(NN x).f=x.f:=by
 unfold NN
 split
 ·rfl
 split
 ·rfl
 split
 ·rfl
 split <;> rfl
theorem YY (H:A9 h (A1 M T tv (some (b,o)) x R)) (O:Ok x) (k:∀h',A9 h' (A1 M T tv none (FP x) R)->K tQ h') :
  A4 prog 178 #[rV M T b o] h K:=by
 refine call178 ?_
 unfold F178 g178 cf ce bd lP lI nP I8
 have B:=A1.fB H
 have P:=A1.pl H
 have k:∀h',A9 h' (A1 M T tv none ((NN x).pc (x.f.pc+1)) R)->K tQ h':=k
 have H1:=A1.new H (oQ #[mP M,mP T,fP b o] 204);generalize h.push (oQ #[mP M,mP T,fP b o] 204)=h1 at *;generalize h.size=N at *
 refine ss H1 ?_
 refine ⟨λ_ h'=>A9 h' (A1 M T tv (some (b,o)) (NN x) (pt N (oQ #[mP M,mP T,fP b o] 204)*R)),?_,?_⟩
 ·unfold NN
  apply A6<;>intro c
  ·rw [A8 c]
   refine A0 (Bm H1 (by decide) λh2 o2=>?_)
   have H2:=A1.old H1 o2
   refine ss H2 ?_
   exact A0 (U7 H2 (F4 P _ _) (B.g 4) O.st λh3 H3=>H3)
  rw [A7 c]
  apply A6<;>intro c
  ·rw [A8 c]
   refine A0 (Bm H1 (by decide) λh2 o2=>?_)
   have H2:=A1.old H1 o2
   refine ss H2 ?_
   exact A0 (U7 H2 (F4 P _ _) (B.g 1) O.st λh3 H3=>H3)
  rw [A7 c]
  apply A6<;>intro c
  ·rw [A8 c]
   refine A0 (Bm H1 (by decide) λh2 o2=>?_)
   have H2:=A1.old H1 o2
   refine ss H2 ?_
   exact A0 (U7 H2 (F4 P _ _) (U.lit rfl) O.st λh3 H3=>H3)
  rw [A7 c]
  apply A6<;>intro c
  ·rw [A8 c]
   refine A0 (Bm H1 (by decide) λh2 o2=>?_)
   have H2:=A1.old H1 o2
   refine ss H2 ?_
   exact A0 (U7 H2 (F4 P _ _) (B.g 3) O.st λh3 H3=>H3)
  rw [A7 c]
  exact H1
 intro v1 v2 v3 v4 g6 h7 H7
 try simp +decide only [G5,GN,Nat.reduceAdd,Int.reduceLE,Int.reduceLT,Int.reduceToNat,Ox,Ht,L9,A1.al H7,SN5]
 rw [Gv (n:=x.f.pc+1) (by have:=O.pc;omega) (by have:=O.pc;omega)]
 exact A1.stP H7 λh8 H8=>k h8 (A1.drp (A1.none H8))
theorem Sn (H:A9 h (A1 M T tv (some (b,o)) x R)) (O:Ok x) (L:RL x) (k:∀h',A9 h' (A1 M T tv none (AI x) R)->K tQ h') :
  A4 prog 179 #[rV M T b o] h K:=by
 refine call179 ?_
 unfold F179 g179 cf ce bd lS lP lI nP I8
 have B:=A1.fB H
 have P:=A1.pl H
 have hd:=O.fr
 have r0:=A1.ret H 0
 unfold AI at k
 dsimp only at k
 have H1:=A1.new H (oQ #[mP M,mP T,fP b o] 204);generalize h.push (oQ #[mP M,mP T,fP b o] 204)=h1 at *;generalize h.size=N at *
 refine ss H1 ?_
 apply A6<;>intro c
 ·rw [A8 c] at k
  exact A0 (Gy H1 [x.f.g 4] rfl (X6 (B.g 4)) rfl (by omega) λh4 b' o' _ _ H4=>k h4 (A1.drp (A1.none H4)))
 rw [A7 c] at k
 apply A6<;>intro c
 ·rw [A8 c] at k
  refine A1.stR (i:=7) H1 rfl r0 λh2 H2=>?_
  refine ss H2 ?_
  refine A0 (J2 H2 λh3 o3=>?_)
  have H3:=A1.old H2 o3
  refine ss H3 ?_
  refine A0 (M5 H3 (F4 P _ _) O.st λh4 H4 u4=>?_)
  refine ss H4 ?_
  exact A1.stR (i:=6) H4 rfl u4 λh5 H5=>A1.stP H5 λh6 H6=>k h6 (A1.drp (A1.none H6))
 rw [A7 c] at k
 apply A6<;>intro c
 ·rw [A8 c] at k
  obtain ⟨pb,sb,wb,W⟩:=A1.rows H1 L
  have wf:=W.f
  have l0:=L.e0
  have wg:=W.g (i:=0) (by omega)
  refine sd3 (A1.al H1) wf wg ?_
  refine ⟨by omega,?_⟩
  refine A0 (J2 H1 λh2 o2=>?_)
  have H2:=A1.old H1 o2
  have W2:=W.old o2
  have wf2:=W2.f
  have wg2:=W2.g (i:=0) (by omega)
  refine sd3 (A1.al H2) wf2 wg2 ?_
  refine A0 (U6 (B.g 6) ?_)
  refine ss H2 ?_
  refine A0 (U7 H2 (F4 P _ _) Bi O.st λh3 H3=>?_)
  exact A1.stP H3 λh5 H5=>k h5 (A1.drp (A1.none H5))
 rw [A7 c] at k
 apply A6<;>intro c
 ·rw [A8 c] at k
  refine A1.stR (i:=5) H1 rfl (U.lit rfl) λh2 H2=>?_
  refine A1.stP H2 λh3 H3=>?_
  have L3:RL ((x.s 5 1).pc 7):=L.at ⟨rfl,rfl,rfl⟩
  obtain ⟨pb,sb,wb,W⟩:=A1.rows H3 L3
  have wf:=W.f
  have l0:=L3.e0
  have wg:=W.g (i:=0) (by omega)
  refine sd3 (A1.al H3) wf wg ?_
  refine ⟨by omega,?_⟩
  refine ⟨by omega,?_⟩
  refine A0 (J2 H3 λh4 o4=>?_)
  have H4:=A1.old H3 o4
  have W4:=W.old o4
  have wf4:=W4.f
  have wg4:=W4.g (i:=0) (by omega)
  refine sd3 (A1.al H4) wf4 wg4 ?_
  refine A0 (Bn H4 (F4 P _ _) (A1.woU H4 0) O.st λh5 H5=>?_)
  refine ss H5 ?_
  apply D1<;>intro c2
  ·rw [A8 c2] at k
   exact A1.stP H5 λh6 H6=>k h6 (A1.drp (A1.none H6))
  ·rw [A7 (by rw [c2];simp)] at k
   exact k h5 (A1.drp (A1.none H5))
 rw [A7 c] at k
 exact k h1 (A1.drp (A1.none H1))
theorem So (H:A9 h (A1 M T tv (some (b,o)) x R)) (O:Ok x) (L:RL x) (hr2:12<=x.f.pc->x.f.g 5 < x.t.pred.length) (k:∀h',A9 h' (A1 M T tv none (AJ x) R)->K tQ h') :
  A4 prog 180 #[rV M T b o] h K:=by
 refine call180 ?_
 unfold F180 g180 cf ce bd lS lP lI nP I8
 have B:=A1.fB H
 have P:=A1.pl H
 have hd:=O.fr
 have hr0:=(B.g 5).1
 unfold AJ at k
 dsimp only at k
 have H1:=A1.new H (oQ #[mP M,mP T,fP b o] 204);generalize h.push (oQ #[mP M,mP T,fP b o] 204)=h1 at *;generalize h.size=N at *
 refine ss H1 ?_
 apply A6<;>intro c
 ·rw [A8 c] at k
  apply A6<;>intro c2
  ·rw [A8 c2] at k
   exact A1.stP H1 λh2 H2=>k h2 (A1.drp (A1.none H2))
  rw [A7 c2] at k
  refine A1.stP H1 λh2 H2=>?_
  refine ss H2 ?_
  refine A0 (J2 H2 λh3 o3=>?_)
  have H3:=A1.old H2 o3
  try simp +decide only [G5,GN,Nat.reduceAdd,Int.reduceLE,Int.reduceLT,Int.reduceToNat,Ox,Ht,L9,A1.al H3,SN4]
  refine A0 (M5 H3 (F4 P _ _) O.st λh4 H4 u4=>?_)
  refine ss H4 ?_
  refine A0 (BW u4 ?_)
  refine ss H4 ?_
  apply D1<;>intro c3
  ·rw [A8 c3] at k
   exact A1.stP H4 λh5 H5=>k h5 (A1.drp (A1.none H5))
  ·rw [A7 (by rw [c3];simp)] at k
   exact k h4 (A1.drp (A1.none H4))
 rw [A7 c] at k
 apply A6<;>intro c
 ·rw [A8 c] at k
  have hr:=hr2 (by omega)
  refine A1.stP H1 λh2 H2=>?_
  have L2:RL (x.pc 13):=L.at ⟨rfl,rfl,rfl⟩
  obtain ⟨pb,sb,wb,W⟩:=A1.rows H2 L2
  have wf:=W.f
  refine sd2 (A1.al H2) wf ?_
  refine ⟨by omega,hr,?_⟩
  have wg:=W.g (i:=(x.f.g 5).toNat) (by show _ < x.t.pred.length;omega)
  refine sd3 (A1.al H2) wf wg ?_
  refine ⟨λvs h'=>∃(w:vQ) (d:Bool) (y:B9),vs = [w,dQ d]/\A9 h' (A1 M T tv (some (b,o)) y (pt N (oQ #[mP M,mP T,fP b o] 204)*R))/\∀h'',A9 h'' (A1 M T tv none (if d then y.pc 17 else y) R)->K tQ h'',?_,?_⟩
  ·apply D1<;>intro c2
   ·have c2':¬ (x.pc 13).t.succ.getD (x.f.g 5).toNat 0=2:=bne_iff_ne.1 c2
    rw [A7 c2'] at k
    apply A6<;>intro c3
    ·rw [A8 c3] at k
     exact ⟨_,_,_,rfl,H2,k⟩
    ·rw [A7 c3] at k
     refine ss H2 ?_
     refine A0 (J2 H2 λh3 o3=>?_)
     have H3:=A1.old H2 o3
     refine ss H3 ?_
     refine A0 (M5 H3 (F4 P _ _) O.st λh4 H4 u4=>?_)
     refine ss H4 ?_
     refine A0 (BW u4 ?_)
     try simp only [G5,GN,Nat.reduceAdd,Int.reduceLE,Int.reduceLT,Int.reduceToNat]
     exact ⟨_,_,_,rfl,H4,k⟩
   ·have c2':(x.pc 13).t.succ.getD (x.f.g 5).toNat 0=2:=bne_eq_false_iff_eq.1 c2
    rw [A8 c2'] at k
    exact ⟨_,false,_,rfl,H2,k⟩
  rintro v64 v65 g66 h67 ⟨w,d,y,e,H3,k⟩
  cases e
  refine ss H3 ?_
  cases d
  ·exact k h67 (A1.drp (A1.none H3))
  ·exact A1.stP H3 λh5 H5=>k h5 (A1.drp (A1.none H5))
 rw [A7 c] at k
 apply A6<;>intro c
 ·rw [A8 c] at k
  refine A0 (J2 H1 λh2 o2=>?_)
  have H2:=A1.old H1 o2
  refine ss H2 ?_
  refine A0 (M5 H2 (F4 P _ _) O.st λh3 H3 u3=>?_)
  refine ss H3 ?_
  exact A1.stR (i:=6) H3 rfl u3 λh4 H4=>A1.stP H4 λh5 H5=>k h5 (A1.drp (A1.none H5))
 rw [A7 c] at k
 apply A6<;>intro c
 ·rw [A8 c] at k
  have hr:=hr2 (by omega)
  obtain ⟨pb,sb,wb,W⟩:=A1.rows H1 L
  have wf:=W.f
  refine sd2 (A1.al H1) wf ?_
  refine ⟨by omega,by omega,?_⟩
  have wg:=W.g (i:=(x.f.g 5).toNat) (by omega)
  refine sd2 (A1.al H1) wg ?_
  refine A0 (J2 H1 λh2 o2=>?_)
  have H2:=A1.old H1 o2
  have W2:=W.old o2
  have wf2:=W2.f
  have wg2:=W2.g (i:=(x.f.g 5).toNat) (by omega)
  refine sd3 (A1.al H2) wf2 wg2 ?_
  refine A0 (U6 (B.g 6) ?_)
  refine ss H2 ?_
  refine A0 (U7 H2 (F4 P _ _) Bi O.st λh3 H3=>?_)
  exact A1.stP H3 λh5 H5=>k h5 (A1.drp (A1.none H5))
 rw [A7 c] at k
 exact k h1 (A1.drp (A1.none H1))
theorem Vw (H:A9 h (A1 M T tv (some (b,o)) x R)) (O:Ok x) (L:RL x) (hr2:x.f.pc=15->x.f.g 5 < x.t.pred.length) (k:∀h',A9 h' (A1 M T tv none (Cv x) R)->K tQ h') :
  A4 prog 181 #[rV M T b o] h K:=by
 refine call181 ?_
 unfold F181 g181 cf ce bd lS lP lI nP I8
 have B:=A1.fB H
 have P:=A1.pl H
 have hd:=O.fr
 have hr0:=(B.g 5).1
 have r0:=A1.ret H 0
 unfold Cv at k
 dsimp only at k
 have H1:=A1.new H (oQ #[mP M,mP T,fP b o] 204);generalize h.push (oQ #[mP M,mP T,fP b o] 204)=h1 at *;generalize h.size=N at *
 refine ss H1 ?_
 apply A6<;>intro c
 ·rw [A8 c] at k
  have hr:=hr2 c
  obtain ⟨pb,sb,wb,W⟩:=A1.rows H1 L
  have wf:=W.f
  refine sd2 (A1.al H1) wf ?_
  refine ⟨by omega,by omega,?_⟩
  have wg:=W.g (i:=(x.f.g 5).toNat) (by omega)
  refine sd3 (A1.al H1) wf wg ?_
  refine ⟨by omega,by omega,?_⟩
  refine A0 (J2 H1 λh2 o2=>?_)
  have H2:=A1.old H1 o2
  have W2:=W.old o2
  have wf2:=W2.f
  have wg2:=W2.g (i:=(x.f.g 5).toNat) (by omega)
  refine sd3 (A1.al H2) wf2 wg2 ?_
  refine A0 (Bn H2 (F4 P _ _) (A1.woU H2 _) O.st λh3 H3=>?_)
  refine ss H3 ?_
  have ef:(x.swingM (x.nlink (x.t.pred.getD (x.f.g 5).toNat 0) (x.f.g 5)) (x.t.word.getD (x.f.g 5).toNat 0) (x.f.g 2) false).2.f=x.f:=rfl
  apply D1<;>intro c3
  ·rw [A8 c3] at k
   refine sd2 (A1.al H3) ef ?_
   refine A1.stR (i:=5) H3 rfl (S9 _) λh4 H4=>?_
   exact A1.stP H4 λh5 H5=>k h5 (A1.drp (A1.none H5))
  ·rw [A7 (by rw [c3];simp)] at k
   refine sd2 (A1.al H3) ef ?_
   exact A0 (Gy H3 [x.f.g 4] rfl (X6 (B.g 4)) rfl (show x.t.fr.length < _ by omega) λh4 b' o' _ _ H4=>k h4 (A1.drp (A1.none H4)))
 rw [A7 c] at k
 apply A6<;>intro c
 ·rw [A8 c] at k
  refine A1.stR (i:=7) H1 rfl r0 λh2 H2=>?_
  refine A1.stP H2 λh3 H3=>?_
  have L3:RL ((x.s 7 (x.ret 0)).pc 11):=L.at ⟨rfl,rfl,rfl⟩
  obtain ⟨pb,sb,wb,W⟩:=A1.rows H3 L3
  have wf:=W.f
  have l0:=L3.e0
  have wg:=W.g (i:=0) (by omega)
  refine sd3 (A1.al H3) wf wg ?_
  refine ⟨by omega,?_⟩
  apply D1<;>intro c2
  ·rw [A8 (bne_iff_ne.1 c2)] at k
   exact A1.stP H3 λh5 H5=>k h5 (A1.drp (A1.none H5))
  ·rw [A7 (λhh=>hh (bne_eq_false_iff_eq.1 c2))] at k
   exact k h3 (A1.drp (A1.none H3))
 rw [A7 c] at k
 apply A6<;>intro c
 ·rw [A8 c] at k
  refine A0 (Bm H1 (by decide) λh2 o2=>?_)
  have H2:=A1.old H1 o2
  refine ss H2 ?_
  refine A0 (U7 H2 (F4 P _ _) U0 O.st λh3 H3=>?_)
  exact A1.stP H3 λh5 H5=>k h5 (A1.drp (A1.none H5))
 ·rw [A7 c] at k
  exact A0 (Dl H1 U0 (by omega) λh5 b' o' H5=>k h5 (A1.drp (A1.none H5)))
structure Te5 (x:B9):Prop where
 L:RL x
 a:12<=x.f.pc->x.f.pc<=15->x.f.g 5 < x.t.pred.length
theorem Vx (H:A9 h (A1 M T tv (some (b,o)) x R)) (O:Ok x) (S:Te5 x) (k:∀h',A9 h' (A1 M T tv none (Cw x) R)->K tQ h') :
  A4 prog 116 #[rV M T b o] h K:=by
 refine call116 ?_
 unfold F116 g116 cf lP lI nP M0
 unfold Cw at k
 have H1:=A1.new H (oQ #[mP M,mP T,fP b o] 204);generalize h.push (oQ #[mP M,mP T,fP b o] 204)=h1 at *;generalize h.size=N at *
 refine ss H1 ?_
 apply A6<;>intro c
 ·rw [A8 c] at k
  exact A0 (Vv H1 O λh2 H2=>k h2 (A1.drp H2))
 rw [A7 c] at k
 apply A6<;>intro c
 ·rw [A8 c] at k
  exact A0 (YY H1 O λh2 H2=>k h2 (A1.drp H2))
 rw [A7 c] at k
 apply A6<;>intro c
 ·rw [A8 c] at k
  exact A0 (Sn H1 O S.L λh2 H2=>k h2 (A1.drp H2))
 rw [A7 c] at k
 apply A6<;>intro c
 ·rw [A8 c] at k
  exact A0 (So H1 O S.L (λhh=>S.a hh (by omega)) λh2 H2=>k h2 (A1.drp H2))
 rw [A7 c] at k
 exact A0 (Vw H1 O S.L (λhh=>S.a (by omega) (by omega)) λh2 H2=>k h2 (A1.drp H2))
end
end
section
open Mod
section
variable {K:kQ} {h:A2} {M T b o N:Nat} {tv:vQ} {fo:Option (Nat × Nat)} {x:B9} {R:Hp}
theorem S34 (x:B9) (i j:Int) (n:Nat) (v:Int):((x.pc i).s n v).pc j=(x.s n v).pc j:=by
 show ((x.pc i).setF ((x.pc i).f.s n v)).setF (((x.pc i).setF ((x.pc i).f.s n v)).f.at j)=(x.setF (x.f.s n v)).setF ((x.setF (x.f.s n v)).f.at j)
 rw [Jn,Jn,Bx]
 unfold B9.pc B9.setF Thr.setTop
 simp [N6.at,N6.s]
theorem Vy (H:A9 h (A1 M T tv (some (b,o)) x R)) (O:Ok x) (k:∀h',A9 h' (A1 M T tv none (Cq x) R)->K tQ h') :
  A4 prog 117 #[rV M T b o] h K:=by
 refine call117 ?_
 unfold F117 g117 cf ce bd lP lI nP I8
 have B:=A1.fB H
 have P:=A1.pl H
 unfold Cq at k
 dsimp only at k
 have H1:=A1.new H (oQ #[mP M,mP T,fP b o] 205);generalize h.push (oQ #[mP M,mP T,fP b o] 205)=h1 at *;generalize h.size=N at *
 refine ss H1 ?_
 apply A6<;>intro c
 ·rw [A8 c] at k
  refine A0 (J2 H1 λh2 o2=>?_)
  have H2:=A1.old H1 o2
  refine ss H2 ?_
  refine A0 (M5 H2 (F4 P _ _) O.st λh3 H3 u3=>?_)
  refine ss H3 ?_
  refine A1.stR (i:=0) H3 rfl u3 λh4 H4=>?_
  refine sd2 (A1.al H4) B.len ?_
  refine A0 (W8 u3 ?_)
  refine sd2 (A1.al H4) B.len ?_
  refine A0 (W8 u3 ?_)
  refine sd2 (A1.al H4) B.len ?_
  refine A1.stR (i:=1) H4 rfl (U8 _) λh5 H5=>?_
  refine A1.stR (i:=2) H5 rfl (U8 _) λh6 H6=>?_
  refine A1.stP H6 λh7 H7=>?_
  refine sd2 (A1.al H7) B.len ?_
  refine A0 (BW u3 ?_)
  refine ss H7 ?_
  apply D1<;>intro c2
  ·rw [A7 (by simpa using c2)] at k
   have hd:=O.fr
   have l0:(x.load (x.nlink 1 0)).2.t.fr=x.t.fr:=rfl
   have l1:=AK (x.load (x.nlink 1 0)).2 0 (x.load (x.nlink 1 0)).1
   have l2:=AK ((x.load (x.nlink 1 0)).2.s 0 (x.load (x.nlink 1 0)).1) 1 (J5 (x.load (x.nlink 1 0)).1)
   have l3:=AK (((x.load (x.nlink 1 0)).2.s 0 (x.load (x.nlink 1 0)).1).s 1 (J5 (x.load (x.nlink 1 0)).1)) 2 (J5 (x.load (x.nlink 1 0)).1)
   have l4:=Fx ((((x.load (x.nlink 1 0)).2.s 0 (x.load (x.nlink 1 0)).1).s 1 (J5 (x.load (x.nlink 1 0)).1)).s 2 (J5 (x.load (x.nlink 1 0)).1)) 1
   rw [l0] at l1
   exact A0 (Dl H7 U0 (by omega) λh8 b' o' H8=>k h8 (A1.drp (A1.none H8)))
  ·rw [A8 (by simpa using c2)] at k
   exact k h7 (A1.drp (A1.none H7))
 rw [A7 c] at k
 apply A6<;>intro c
 ·rw [A8 c] at k
  refine A0 (J2 H1 λh2 o2=>?_)
  have H2:=A1.old H1 o2
  refine ss H2 ?_
  refine A0 (M5 H2 (F4 P _ _) O.st λh3 H3 u3=>?_)
  refine ss H3 ?_
  refine A0 (W8 u3 ?_)
  refine ss H3 ?_
  refine A1.stR (i:=2) H3 rfl (U8 _) λh4 H4=>?_
  refine A1.stP H4 λh5 H5=>?_
  refine A0 (BW u3 ?_)
  refine ss H5 ?_
  apply D1<;>intro c2
  ·rw [A8 c2] at k
   refine A0 (W8 u3 ?_)
   refine ss H5 ?_
   refine A1.stR (i:=1) H5 rfl (U8 _) λh6 H6=>?_
   exact A1.stP H6 λh90 H90=>k h90 (A1.drp (A1.none H90))
  ·rw [A7 (by rw [c2];simp)] at k
   exact k h5 (A1.drp (A1.none H5))
 rw [A7 c] at k
 apply A6<;>intro c
 ·rw [A8 c] at k
  have hd:=O.fr
  exact A0 (Gy H1 [x.f.g 1] rfl (X6 (B.g 1)) rfl (by omega) λh4 b' o' _ _ H4=>k h4 (A1.drp (A1.none H4)))
 rw [A7 c] at k
 apply A6<;>intro c
 ·rw [A8 c] at k
  refine A0 (J2 H1 λh2 o2=>?_)
  have H2:=A1.old H1 o2
  refine ss H2 ?_
  refine A0 (Bn H2 (F4 P _ _) (B.g 0) O.st λh3 H3=>?_)
  refine ss H3 ?_
  exact A1.stP H3 λh90 H90=>k h90 (A1.drp (A1.none H90))
 rw [A7 c] at k
 apply A6<;>intro c
 ·rw [A8 c] at k
  have hd:=O.fr
  refine A0 (W8 (B.g 0) ?_)
  refine ss H1 ?_
  exact A0 (Gy H1 [J5 (x.f.g 0),x.f.g 2] rfl (LD (U8 _) (B.g 2)) rfl (by omega) λh4 b' o' _ _ H4=>k h4 (A1.drp (A1.none H4)))
 rw [A7 c] at k
 have hd:=O.fr
 exact A0 (Dl H1 U0 (by omega) λh8 b' o' H8=>k h8 (A1.drp (A1.none H8)))
theorem Vz (H:A9 h (A1 M T tv (some (b,o)) x R)) (O:Ok x) (k:∀h',A9 h' (A1 M T tv none (Cr x) R)->K tQ h') :
  A4 prog 118 #[rV M T b o] h K:=by
 refine call118 ?_
 unfold F118 g118 cf ce bd lP lI nP I8
 have B:=A1.fB H
 have P:=A1.pl H
 unfold Cr at k
 dsimp only at k
 have H1:=A1.new H (oQ #[mP M,mP T,fP b o] 206);generalize h.push (oQ #[mP M,mP T,fP b o] 206)=h1 at *;generalize h.size=N at *
 refine ss H1 ?_
 apply A6<;>intro c
 ·rw [A8 c] at k
  refine A0 (S27 H1 (by decide) O.st λh2 H2 u2=>?_)
  refine ss H2 ?_
  exact A1.stP H2 λh90 H90=>k h90 (A1.drp (A1.none H90))
 rw [A7 c] at k
 apply A6<;>intro c
 ·rw [A8 c] at k
  apply A6<;>intro c2
  ·rw [A8 c2] at k
   exact A0 (Pg H1 As.none (by omega) λh2 H2=>k h2 (A1.drp H2))
  rw [A7 c2] at k
  refine A0 (J2 H1 λh2 o2=>?_)
  have H2:=A1.old H1 o2
  refine ss H2 ?_
  refine A0 (M5 H2 (F4 P _ _) O.st λh3 H3 u3=>?_)
  refine ss H3 ?_
  refine A0 (W8 u3 ?_)
  refine ss H3 ?_
  refine A1.stR (i:=2) H3 rfl (U8 _) λh4 H4=>?_
  exact A1.stP H4 λh90 H90=>k h90 (A1.drp (A1.none H90))
 rw [A7 c] at k
 refine A1.stR (i:=0) H1 rfl (B.g 2) λh2 H2=>?_
 refine ss H2 ?_
 have hd:=O.fr
 have l1:=AK x 0 (x.f.g 2)
 exact A0 (Gy H2 [x.f.g 0] rfl (X6 (B.g 0)) rfl (by omega) λh4 b' o' _ _ H4=>k h4 (A1.drp (A1.none H4)))
theorem HZ (H:A9 h (A1 M T tv (some (b,o)) x R)) (k:∀h',A9 h' (A1 M T tv none (Bs x) R)->K tQ h') :
  A4 prog 189 #[rV M T b o] h K:=by
 refine call189 ?_
 unfold F189 g189 bd lP lI nP
 unfold Bs at k
 have H1:=A1.new H (oQ #[mP M,mP T,fP b o] 207);generalize h.push (oQ #[mP M,mP T,fP b o] 207)=h1 at *;generalize h.size=N at *
 refine ss H1 ?_
 refine A1.stR (i:=2) H1 rfl (S9 _) λh2 H2=>?_
 refine ss H2 ?_
 exact A1.stP H2 λh3 H3=>k h3 (A1.drp (A1.none H3))
theorem VA (H:A9 h (A1 M T tv (some (b,o)) x R)) (O:Ok x) (k:∀h',A9 h' (A1 M T tv none (Cs x) R)->K tQ h') :
  A4 prog 191 #[rV M T b o] h K:=by
 refine call191 ?_
 unfold F191 g191 cf ce bd lP lI nP I8 M0
 have B:=A1.fB H
 have P:=A1.pl H
 unfold Cs at k
 dsimp only at k
 have H1:=A1.new H (oQ #[mP M,mP T,fP b o] 207);generalize h.push (oQ #[mP M,mP T,fP b o] 207)=h1 at *;generalize h.size=N at *
 refine ss H1 ?_
 apply A6<;>intro c
 ·rw [A8 c] at k
  refine ⟨λvs h'=>∃(d:Bool) (y:B9),vs = [dQ d,dQ d]/\A9 h' (A1 M T tv (some (b,o)) y (pt N (oQ #[mP M,mP T,fP b o] 207)*R))/\y.f=x.f/\∀h'',A9 h'' (A1 M T tv none (if d then y.pc 5 else if x.f.g 4=J5 (x.f.g 3) then Bs y else y.pc 6) R)->K tQ h'',?_,?_⟩
  ·apply A6<;>intro c2
   ·rw [A8 c2] at k
    exact ⟨true,x,rfl,H1,rfl,k⟩
   rw [A7 c2] at k
   refine A0 (J2 H1 λh2 o2=>?_)
   have H2:=A1.old H1 o2
   refine ss H2 ?_
   refine A0 (M5 H2 (F4 P _ _) O.st λh3 H3 u3=>?_)
   refine ss H3 ?_
   refine A0 (BW u3 ?_)
   refine ss H3 ?_
   exact ⟨_,_,rfl,H3,rfl,k⟩
  rintro v29 v30 g31 h32 ⟨d,y,e,H3,ef,k⟩
  cases e
  refine sd2 (A1.al H3) ef ?_
  cases d
  ·simp only [Cd,if_false] at k
   refine sd2 (A1.al H3) ef ?_
   refine A0 (W8 (B.g 3) ?_)
   refine sd2 (A1.al H3) ef ?_
   apply A6<;>intro c2
   ·rw [A8 c2] at k
    exact A0 (HZ H3 λh4 H4=>k h4 (A1.drp H4))
   ·rw [A7 c2] at k
    exact A1.stP H3 λh4 H4=>k h4 (A1.drp (A1.none H4))
  ·exact A1.stP H3 λh4 H4=>k h4 (A1.drp (A1.none H4))
 rw [A7 c] at k
 apply A6<;>intro c
 ·rw [A8 c] at k
  refine A0 (J2 H1 λh2 o2=>?_)
  have H2:=A1.old H1 o2
  refine ss H2 ?_
  refine A0 (M5 H2 (F4 P _ _) O.st λh3 H3 u3=>?_)
  refine ss H3 ?_
  refine A0 (W8 u3 ?_)
  refine ss H3 ?_
  refine A1.stR (i:=4) H3 rfl (U8 _) λh4 H4=>?_
  refine A1.stP H4 λh5 H5=>?_
  refine sd2 (A1.al H5) B.len ?_
  apply A6<;>intro c2
  ·rw [A8 c2] at k
   exact A1.stP H5 λh90 H90=>k h90 (A1.drp (A1.none H90))
  ·rw [A7 c2] at k
   exact k h5 (A1.drp (A1.none H5))
 rw [A7 c] at k
 refine A0 (J2 H1 λh2 o2=>?_)
 have H2:=A1.old H1 o2
 refine ss H2 ?_
 refine A0 (Bn H2 (F4 P _ _) (B.g 3) O.st λh3 H3=>?_)
 refine ss H3 ?_
 apply D1<;>intro c2
 ·rw [A8 c2] at k
  exact A0 (HZ H3 λh4 H4=>k h4 (A1.drp H4))
 ·rw [A7 (by rw [c2];simp)] at k
  exact A1.stP H3 λh90 H90=>k h90 (A1.drp (A1.none H90))
theorem VB (H:A9 h (A1 M T tv (some (b,o)) x R)) (O:Ok x) (k:∀h',A9 h' (A1 M T tv none (Ct x) R)->K tQ h') :
  A4 prog 119 #[rV M T b o] h K:=by
 refine call119 ?_
 unfold F119 g119 cf ce bd lP lI nP I8 Jv O8 M0
 have B:=A1.fB H
 have P:=A1.pl H
 unfold Ct at k
 dsimp only at k
 have H1:=A1.new H (oQ #[mP M,mP T,fP b o] 207);generalize h.push (oQ #[mP M,mP T,fP b o] 207)=h1 at *;generalize h.size=N at *
 refine ss H1 ?_
 apply A6<;>intro c
 ·rw [A8 c] at k
  refine A0 (M5 H1 (by decide) O.st λh2 H2 u2=>?_)
  refine ss H2 ?_
  refine A1.stR (i:=1) H2 rfl u2 λh3 H3=>?_
  refine ss H3 ?_
  refine A0 (Bw H3 λh4 o4=>By ?_)
  have H4:=A1.old H3 o4
  refine A0 (V8 λh5 o5=>cf7 ?_)
  have H5:=A1.old H4 o5
  refine ss H5 ?_
  refine A1.stR (i:=2) H5 rfl (S9 _) λh6 H6=>?_
  exact A1.stP H6 λh90 H90=>k h90 (A1.drp (A1.none H90))
 rw [A7 c] at k
 apply A6<;>intro c
 ·rw [A8 c] at k
  apply A6<;>intro c2
  ·rw [A8 c2] at k
   exact A0 (Pg H1 As.none (by omega) λh2 H2=>k h2 (A1.drp H2))
  rw [A7 c2] at k
  refine A0 (J2 H1 λh2 o2=>?_)
  have H2:=A1.old H1 o2
  refine ss H2 ?_
  refine A0 (M5 H2 (F4 P _ _) O.st λh3 H3 u3=>?_)
  refine ss H3 ?_
  refine A1.stR (i:=3) H3 rfl u3 λh4 H4=>?_
  refine sd2 (A1.al H4) B.len ?_
  refine A0 (W8 u3 ?_)
  refine ss H4 ?_
  refine A1.stR (i:=4) H4 rfl (U8 _) λh5 H5=>?_
  refine A1.stP H5 λh6 H6=>?_
  refine sd2 (A1.al H6) B.len ?_
  apply A6<;>intro c3
  ·rw [A8 c3] at k
   exact A0 (HZ H6 λh7 H7=>k h7 (A1.drp H7))
  ·rw [A7 c3] at k
   exact k h6 (A1.drp (A1.none H6))
 rw [A7 c] at k
 apply A6<;>intro c
 ·rw [A8 c] at k
  refine A0 (Kb H1 O (B.g 5) (B.g 4) λh2 H2=>?_)
  refine ss H2 ?_
  refine A1.stR (i:=5) H2 rfl (S9 _) λh3 H3=>?_
  exact A1.stP H3 λh90 H90=>k h90 (A1.drp (A1.none H90))
 rw [A7 c] at k
 apply A6<;>intro c
 ·rw [A8 c] at k
  refine A1.stP H1 λh2 H2=>?_
  refine ss H2 ?_
  refine A0 (M5 H2 (by decide) O.st λh3 H3 u3=>?_)
  refine ss H3 ?_
  apply D1<;>intro c2
  ·rw [A8 (bne_iff_ne.1 c2)] at k
   exact A1.stP H3 λh5 H5=>k h5 (A1.drp (A1.none H5))
  ·rw [A7 (λhh=>hh (bne_eq_false_iff_eq.1 c2))] at k
   exact k h3 (A1.drp (A1.none H3))
 rw [A7 c] at k
 exact A0 (VA H1 O λh2 H2=>k h2 (A1.drp H2))
theorem Ba (H:A9 h (A1 M T tv (some (b,o)) x R)) (k:∀h',G9 h.size h h'->K (uQ (J5 (x.f.g 5))) h') :
  A4 prog 273 #[rV M T b o] h K:=by
 refine call273 ?_
 unfold F273 g273 cf bd lP lI nP
 have B:=A1.fB H
 have oo:G9 h.size h (h.push (oQ #[mP M,mP T,fP b o] 208)):=(G9.refl _ _).push _ (G0 _)
 have H1:=A1.new H (oQ #[mP M,mP T,fP b o] 208);generalize h.push (oQ #[mP M,mP T,fP b o] 208)=h1 at *;generalize h.size=N at *
 refine ss H1 ?_
 refine A0 (W8 (B.g 5) ?_)
 refine sb ?_
 exact k h1 oo
theorem VC (H:A9 h (A1 M T tv (some (b,o)) x R)) (O:Ok x) (k:∀h',A9 h' (A1 M T tv none (Bt x) R)->K tQ h') :
  A4 prog 192 #[rV M T b o] h K:=by
 refine call192 ?_
 unfold F192 g192 cf ce bd lP lI nP I8 M0
 have B:=A1.fB H
 have P:=A1.pl H
 unfold Bt at k
 dsimp only at k
 have H1:=A1.new H (oQ #[mP M,mP T,fP b o] 208);generalize h.push (oQ #[mP M,mP T,fP b o] 208)=h1 at *;generalize h.size=N at *
 refine ss H1 ?_
 apply A6<;>intro c
 ·rw [A8 c] at k
  refine A0 (M5 H1 (by decide) O.st λh2 H2 u2=>?_)
  refine ss H2 ?_
  refine A1.stR (i:=0) H2 rfl u2 λh3 H3=>?_
  refine A1.stR (i:=2) H3 rfl (U.lit rfl) λh4 H4=>?_
  refine A1.stR (i:=3) H4 rfl U0 λh5 H5=>?_
  refine A1.stR (i:=4) H5 rfl U0 λh6 H6=>?_
  exact A1.stP H6 λh90 H90=>k h90 (A1.drp (A1.none H90))
 rw [A7 c] at k
 apply A6<;>intro c
 ·rw [A8 c] at k
  refine A0 (J2 H1 λh2 o2=>?_)
  have H2:=A1.old H1 o2
  refine ss H2 ?_
  refine A0 (M5 H2 (F4 P _ _) O.st λh3 H3 u3=>?_)
  refine ss H3 ?_
  refine A1.stR (i:=1) H3 rfl u3 λh4 H4=>?_
  refine sd2 (A1.al H4) B.len ?_
  refine A1.stR (i:=5) H4 rfl u3 λh5 H5=>?_
  exact A1.stP H5 λh90 H90=>k h90 (A1.drp (A1.none H90))
 rw [A7 c] at k
 apply A6<;>intro c
 ·rw [A8 c] at k
  refine A1.stP H1 λh2 H2=>?_
  refine ss H2 ?_
  refine A0 (Ba H2 λh3 o3=>?_)
  have H3:=A1.old H2 o3
  refine ss H3 ?_
  have hd:=O.fr
  have l1:=Fx x 3
  apply A6<;>intro c2
  ·rw [A8 c2] at k
   exact A0 (Dl H3 (U.lit rfl) (by omega) λh8 b' o' H8=>k h8 (A1.drp (A1.none H8)))
  ·rw [A7 c2] at k
   exact k h3 (A1.drp (A1.none H3))
 rw [A7 c] at k
 apply A6<;>intro c
 ·rw [A8 c] at k
  refine A0 (Ba H1 λh2 o2=>?_)
  have H2:=A1.old H1 o2
  refine ss H2 ?_
  refine A0 (Kb H2 O (B.g 3) (U8 _) λh3 H3=>?_)
  have ef:(x.guard (x.f.g 3) (J5 (x.f.g 5))).f=x.f:=rfl
  refine sd2 (A1.al H3) ef ?_
  refine A1.stR (i:=3) H3 rfl (S9 _) λh4 H4=>?_
  exact A1.stP H4 λh90 H90=>k h90 (A1.drp (A1.none H90))
 rw [A7 c] at k
 apply A6<;>intro c
 ·rw [A8 c] at k
  refine A1.stP H1 λh2 H2=>?_
  refine ss H2 ?_
  refine A0 (M5 H2 (by decide) O.st λh3 H3 u3=>?_)
  refine ss H3 ?_
  apply D1<;>intro c2
  ·rw [A8 (bne_iff_ne.1 c2)] at k
   exact A1.stP H3 λh5 H5=>k h5 (A1.drp (A1.none H5))
  ·rw [A7 (λhh=>hh (bne_eq_false_iff_eq.1 c2))] at k
   exact k h3 (A1.drp (A1.none H3))
 rw [A7 c] at k
 exact k h1 (A1.drp (A1.none H1))
theorem Sr8 (H:A9 h (A1 M T tv (some (b,o)) x R)) (O:Ok x) (k:∀h',A9 h' (A1 M T tv none (IF x) R)->K tQ h') :
  A4 prog 193 #[rV M T b o] h K:=by
 refine call193 ?_
 unfold F193 g193 cf ce bd lP lI nP I8 M0
 have B:=A1.fB H
 have P:=A1.pl H
 unfold IF at k
 dsimp only at k
 have H1:=A1.new H (oQ #[mP M,mP T,fP b o] 208);generalize h.push (oQ #[mP M,mP T,fP b o] 208)=h1 at *;generalize h.size=N at *
 refine ss H1 ?_
 apply A6<;>intro c
 ·rw [A8 c] at k
  refine A1.stP H1 λh2 H2=>?_
  refine ss H2 ?_
  refine ⟨λvs h'=>∃(w:vQ) (d:Bool) (y:B9),vs = [w,dQ d]/\A9 h' (A1 M T tv (some (b,o)) y (pt N (oQ #[mP M,mP T,fP b o] 208)*R))/\(∀i,y.f.g i=x.f.g i)/\∀h'',A9 h'' (A1 M T tv none (if d then y.s 4 (x.f.g 2) else y) R)->K tQ h'',?_,?_⟩
  ·apply D1<;>intro c2
   ·have c2':=bne_iff_ne.1 c2
    apply A6<;>intro c3
    ·rw [A8 ⟨c2',c3⟩] at k
     refine ss H2 ?_
     refine A0 (Bm H2 (by decide) λh3 o3=>?_)
     have H3:=A1.old H2 o3
     refine ss H3 ?_
     refine A0 (M5 H3 (F4 P _ _) O.st λh4 H4 u4=>?_)
     refine ss H4 ?_
     refine ⟨_,decide (((x.pc 6).load ((x.pc 6).na (x.f.g 2) 2)).1=1),_,rfl,H4,λi=>by rw [Z4,Bx,Dx],?_⟩
     simp only [EK]
     exact k
    ·rw [A7 (λhh=>c3 hh.2)] at k
     exact ⟨_,false,_,rfl,H2,λi=>by rw [Bx,Dx],k⟩
   ·have c2':=bne_eq_false_iff_eq.1 c2
    rw [A7 (λhh=>hh.1 c2')] at k
    exact ⟨_,false,_,rfl,H2,λi=>by rw [Bx,Dx],k⟩
  rintro v28 v29 g30 h31 ⟨w,d,y,e,H3,eg,k⟩
  cases e
  refine sd2 (A1.al H3) eg ?_
  cases d
  ·exact k h31 (A1.drp (A1.none H3))
  ·refine sd2 (A1.al H3) eg ?_
   exact A1.stR (i:=4) H3 rfl (B.g 2) λh4 H4=>k h4 (A1.drp (A1.none H4))
 rw [A7 c] at k
 apply A6<;>intro c
 ·rw [A8 c] at k
  refine A1.stP H1 λh2 H2=>?_
  refine ss H2 ?_
  refine A0 (BW (B.g 5) ?_)
  refine ss H2 ?_
  apply D1<;>intro c2
  ·rw [A8 c2,<- S34 x 8 7] at k
   refine A0 (Ba H2 λh3 o3=>?_)
   have H3:=A1.old H2 o3
   refine ss H3 ?_
   refine A1.stR (i:=2) H3 rfl (U8 _) λh4 H4=>?_
   exact A1.stP H4 λh5 H5=>k h5 (A1.drp (A1.none H5))
  ·rw [A7 (by rw [c2];simp)] at k
   apply A6<;>intro c3
   ·rw [A8 c3,<- S86 x 8 9] at k
    exact A1.stP H2 λh5 H5=>k h5 (A1.drp (A1.none H5))
   ·rw [A7 c3] at k
    exact k h2 (A1.drp (A1.none H2))
 rw [A7 c] at k
 apply A6<;>intro c
 ·rw [A8 c] at k
  refine A0 (J2 H1 λh2 o2=>?_)
  have H2:=A1.old H1 o2
  refine ss H2 ?_
  refine A0 (M5 H2 (F4 P _ _) O.st λh3 H3 u3=>?_)
  refine ss H3 ?_
  refine A1.stR (i:=5) H3 rfl u3 λh4 H4=>?_
  exact A1.stP H4 λh90 H90=>k h90 (A1.drp (A1.none H90))
 rw [A7 c] at k
 apply A6<;>intro c
 ·rw [A8 c] at k
  refine A1.stP H1 λh2 H2=>?_
  refine ss H2 ?_
  refine A0 (J2 H2 λh3 o3=>?_)
  have H3:=A1.old H2 o3
  refine ss H3 ?_
  refine A0 (Ba H3 λh4 o4=>?_)
  have H4:=A1.old H3 o4
  refine ss H4 ?_
  refine A0 (Bn H4 (F4 P _ _) (B.g 5) O.st λh5 H5=>?_)
  have ef:((x.pc 9).swingM ((x.pc 9).nlink (x.f.g 2) 0) (x.f.g 5) (J5 (x.f.g 5)) true).2.f=(x.pc 9).f:=rfl
  refine sd2 (A1.al H5) ef ?_
  apply D1<;>intro c2
  ·rw [A7 (by simpa using c2)] at k
   refine A1.stR (i:=3) H5 rfl (S9 _) λh6 H6=>?_
   exact A1.stP H6 λh7 H7=>k h7 (A1.drp (A1.none H7))
  ·rw [A8 (by simpa using c2)] at k
   exact k h5 (A1.drp (A1.none H5))
 rw [A7 c] at k
 exact k h1 (A1.drp (A1.none H1))
theorem VD (H:A9 h (A1 M T tv (some (b,o)) x R)) (O:Ok x) (k:∀h',A9 h' (A1 M T tv none (Bu x) R)->K tQ h') :
  A4 prog 194 #[rV M T b o] h K:=by
 refine call194 ?_
 unfold F194 g194 cf ce bd lP lI nP I8 Jv O8 M0
 have B:=A1.fB H
 have P:=A1.pl H
 unfold Bu at k
 dsimp only at k
 have H1:=A1.new H (oQ #[mP M,mP T,fP b o] 208);generalize h.push (oQ #[mP M,mP T,fP b o] 208)=h1 at *;generalize h.size=N at *
 refine ss H1 ?_
 apply A6<;>intro c
 ·rw [A8 c] at k
  refine A0 (Ba H1 λh2 o2=>?_)
  have H2:=A1.old H1 o2
  refine ss H2 ?_
  refine A0 (Bm H2 (by decide) λh3 o3=>?_)
  have H3:=A1.old H2 o3
  refine ss H3 ?_
  refine A0 (M5 H3 (F4 P _ _) O.st λh4 H4 u4=>?_)
  refine ss H4 ?_
  refine A1.stR (i:=6) H4 rfl u4 λh5 H5=>?_
  exact A1.stP H5 λh90 H90=>k h90 (A1.drp (A1.none H90))
 rw [A7 c] at k
 apply A6<;>intro c
 ·rw [A8 c] at k
  refine A0 (Ba H1 λh2 o2=>?_)
  have H2:=A1.old H1 o2
  refine ss H2 ?_
  refine A0 (Bm H2 (by decide) λh3 o3=>?_)
  have H3:=A1.old H2 o3
  refine ss H3 ?_
  refine A0 (M5 H3 (F4 P _ _) O.st λh4 H4 u4=>?_)
  refine ss H4 ?_
  refine A0 (Qi u4 ?_)
  try simp +decide only [G5,GN,Nat.reduceAdd,Int.reduceLE,Int.reduceLT,Int.reduceToNat,Ox,Ht,L9,A1.al H4,Vh u4]
  refine A1.stR (i:=8) H4 rfl (Vi u4) λh5 H5=>?_
  generalize hy:((x.load (x.na (J5 (x.f.g 5)) 0)).2.s 8 (Gm (x.load (x.na (J5 (x.f.g 5)) 0)).1)).pc 11=y at k
  have hyg:∀i,¬ 8=i->y.f.g i=x.f.g i:=λi hi=>by rw [<- hy,Bx,Dx,Dw,L9 _ hi,Z4]
  have hyn:y.f.fn=x.f.fn:=by rw [<- hy,Bx,AL,Dw,Er,Z4]
  refine A1.stP H5 λh6 H6=>?_
  rw [hy] at H6
  have e3:=hyg 3 (by decide)
  have e4:=hyg 4 (by decide)
  have e5:=hyg 5 (by decide)
  refine ⟨λvs h'=>∃y2:B9,A9 h' (A1 M T tv (some (b,o)) y2 (pt N (oQ #[mP M,mP T,fP b o] 208)*R))/\(∀i,y2.f.g i=y.f.g i)/\∀h'',A9 h'' (A1 M T tv none (if x.f.g 4=0 then y2.s 4 (J5 (x.f.g 5)) else y2) R)->K tQ h'',?_,?_⟩
  ·refine ⟨λvs h'=>∃d:Bool,vs = [dQ d]/\A9 h' (A1 M T tv (some (b,o)) y (pt N (oQ #[mP M,mP T,fP b o] 208)*R))/\(d=true↔(x.f.fn=33\/x.f.g 3 < Mod.u64 y.m.p.c.batch)),?_,?_⟩
   ·refine sd3 (A1.al H6) hyn e3 ?_
    apply A6<;>intro c2
    ·exact ⟨true,rfl,H6,by simp [c2]⟩
    ·skip
     refine A0 (Bw H6 λh7 o7=>By ?_)
     have H7:=A1.old H6 o7
     refine sd2 (A1.al H7) e3 ?_
     refine A0 (V8 λh8 o8=>cf7 ?_)
     have H8:=A1.old H7 o8
     refine sd2 (A1.al H8) e3 ?_
     exact ⟨_,rfl,H8,by simp [c2]⟩
   rintro v89 g90 h91 ⟨d,e,H7,hd⟩
   cases e
   refine ss H7 ?_
   apply D1<;>intro c2
   ·rw [A8 (show x.f.fn=33\/x.f.g 3 < Mod.u64 y.m.p.c.batch from hd.1 c2)] at k
    exact A1.stP H7 λh8 H8=>⟨_,H8,λi=>by rw [Bx,Dx],k⟩
   ·have hn:¬ (x.f.fn=33\/x.f.g 3 < Mod.u64 y.m.p.c.batch):=λhh=>by rw [hd.2 hh] at c2;cases c2
    rw [A7 hn] at k
    exact ⟨_,H7,λi=>rfl,k⟩
  rintro g95 h96 ⟨y2,H7,eg,k⟩
  have f4:=(eg 4).trans e4
  have f5:=(eg 5).trans e5
  refine sd3 (A1.al H7) f4 f5 ?_
  apply A6<;>intro c2
  ·rw [A8 c2] at k
   refine A0 (Ba H7 λh8 o8=>?_)
   have H8:=A1.old H7 o8
   refine sd3 (A1.al H8) f4 f5 ?_
   exact A1.stR (i:=4) H8 rfl (U8 _) λh9 H9=>k h9 (A1.drp (A1.none H9))
  ·rw [A7 c2] at k
   exact k h96 (A1.drp (A1.none H7))
 rw [A7 c] at k
 exact k h1 (A1.drp (A1.none H1))
theorem YZ (H:A9 h (A1 M T tv (some (b,o)) x R)) (O:Ok x) (k:∀h',A9 h' (A1 M T tv none (DH x) R)->K tQ h') :
  A4 prog 195 #[rV M T b o] h K:=by
 refine call195 ?_
 unfold F195 g195 cf ce bd lP lI nP I8
 have B:=A1.fB H
 have P:=A1.pl H
 unfold DH at k
 dsimp only at k
 have H1:=A1.new H (oQ #[mP M,mP T,fP b o] 208);generalize h.push (oQ #[mP M,mP T,fP b o] 208)=h1 at *;generalize h.size=N at *
 refine ss H1 ?_
 apply A6<;>intro c
 ·rw [A8 c] at k
  refine A1.stP H1 λh2 H2=>?_
  refine ss H2 ?_
  refine A0 (J2 H2 λh3 o3=>?_)
  have H3:=A1.old H2 o3
  refine ss H3 ?_
  refine A0 (Bn H3 (F4 P _ _) (B.g 1) O.st λh5 H5=>?_)
  refine ss H5 ?_
  apply D1<;>intro c2
  ·rw [A8 c2] at k
   exact A1.stP H5 λh90 H90=>k h90 (A1.drp (A1.none H90))
  ·rw [A7 (by rw [c2];simp)] at k
   exact k h5 (A1.drp (A1.none H5))
 rw [A7 c] at k
 apply A6<;>intro c
 ·rw [A8 c] at k
  have hd:=O.fr
  exact A0 (Gy H1 [0] rfl (X6 U0) rfl (by omega) λh4 b' o' _ _ H4=>k h4 (A1.drp (A1.none H4)))
 rw [A7 c] at k
 apply A6<;>intro c
 ·rw [A8 c] at k
  have hd:=O.fr
  refine A0 (W8 (B.g 1) ?_)
  refine ss H1 ?_
  exact A0 (Gy H1 [J5 (x.f.g 1),x.f.g 4] rfl (LD (U8 _) (B.g 4)) rfl (by omega) λh4 b' o' _ _ H4=>k h4 (A1.drp (A1.none H4)))
 rw [A7 c] at k
 have hd:=O.fr
 exact A0 (NL H1 (U.lit rfl) (B.g 8) (B.g 6) (by omega) λh5 b' o' H5=>k h5 (A1.drp (A1.none H5)))
theorem VE (H:A9 h (A1 M T tv (some (b,o)) x R)) (O:Ok x) (k:∀h',A9 h' (A1 M T tv none (Bv x) R)->K tQ h') :
  A4 prog 120 #[rV M T b o] h K:=by
 refine call120 ?_
 unfold F120 g120 cf lP lI nP M0
 have B:=A1.fB H
 have P:=A1.pl H
 unfold Bv at k
 have H1:=A1.new H (oQ #[mP M,mP T,fP b o] 208);generalize h.push (oQ #[mP M,mP T,fP b o] 208)=h1 at *;generalize h.size=N at *
 refine ss H1 ?_
 apply A6<;>intro c
 ·rw [A8 c] at k
  exact A0 (VC H1 O λh2 H2=>k h2 (A1.drp H2))
 rw [A7 c] at k
 apply A6<;>intro c
 ·rw [A8 c] at k
  exact A0 (Sr8 H1 O λh2 H2=>k h2 (A1.drp H2))
 rw [A7 c] at k
 apply A6<;>intro c
 ·rw [A8 c] at k
  exact A0 (VD H1 O λh2 H2=>k h2 (A1.drp H2))
 rw [A7 c] at k
 exact A0 (YZ H1 O λh2 H2=>k h2 (A1.drp H2))
theorem Pp (H:A9 h (A1 M T tv fo x R)) (O:Ok x) (hf:LOk x) (hS:x.f.fn=31->Te5 x) (k:∀h',A9 h' (A1 M T tv none (V1 x) R)->K tQ h') :
  A4 prog 65 #[mP M,mP T] h K:=by
 refine call65 ?_
 unfold F65 cf bd lI nP M0
 unfold V1 at k
 dsimp only at k
 refine A0 (RQ H (λe=>?_) λb o hne _ H1=>?_)
 ·rw [A8 e] at k
  refine sb ?_
  refine ⟨λvs h'=>vs = [dQ true]/\h' = h,⟨rfl,rfl⟩,?_⟩
  rintro v4 g6 h7 ⟨e,rfl⟩
  cases e
  refine sb ?_
  exact k _ (A1.none H)
 ·rw [A7 hne] at k
  refine sb ?_
  refine ⟨λvs h'=>vs = [dQ false]/\h' = h,⟨rfl,rfl⟩,?_⟩
  rintro v4 g6 h7 ⟨e,rfl⟩
  cases e
  have B:=A1.fB H1
  refine sb ?_
  have H2:=A1.new H1 (oQ #[pQ none,pQ none,pQ none] 202)
  generalize h7.push (oQ #[pQ none,pQ none,pQ none] 202)=h2 at *
  generalize h7.size=N at *
  refine st3 (F5 (vs:=[mP M,mP T,fP b o]) (A1.loc H2) rfl (by simp [J0]) λh3 w=>?_)
  have H3:=A1.wr H2 w.new w.old
  clear H2 w
  refine ss H3 ?_
  refine ⟨λvs h'=>(∃w,vs = [dQ (decide (x.f.fn < 31\/36 < x.f.fn)),w])/\h' = h3,?_,?_⟩
  ·apply A6<;>intro c
   ·rw [V6 (p:=x.f.fn < 31\/36 < x.f.fn) (by omega)]
    exact ⟨⟨_,rfl⟩,by trivial⟩
   ·rw [show decide (x.f.fn > 36)=decide (x.f.fn < 31\/36 < x.f.fn) by rw [decide_eq_decide];omega]
    exact ⟨⟨_,rfl⟩,by trivial⟩
  rintro v18 v19 g20 h21 ⟨⟨w,e⟩,rfl⟩
  cases e
  refine ss H3 ?_
  apply A6<;>intro c
  ·rw [A8 c] at k
   exact A0 (Po H3 O hf λh4 H4=>k h4 (A1.drp H4))
  rw [A7 c] at k
  apply A6<;>intro c
  ·rw [A8 c] at k
   exact A0 (Sr3 H3 [x.f.g 7,x.f.g 8,x.f.g 9] rfl (Sk (B.g 7) (B.g 8) (B.g 9)) rfl λh4 H4=>k h4 (A1.drp H4))
  rw [A7 c] at k
  apply A6<;>intro c
  ·rw [A8 c] at k
   exact A0 (Vx H3 O (hS c) λh4 H4=>k h4 (A1.drp H4))
  rw [A7 c] at k
  apply A6<;>intro c
  ·rw [A8 c] at k
   exact A0 (Vy H3 O λh4 H4=>k h4 (A1.drp H4))
  rw [A7 c] at k
  apply A6<;>intro c
  ·rw [A8 c] at k
   exact A0 (Vz H3 O λh4 H4=>k h4 (A1.drp H4))
  rw [A7 c] at k
  apply A6<;>intro c
  ·rw [A8 c] at k
   exact A0 (VB H3 O λh4 H4=>k h4 (A1.drp H4))
  rw [A7 c] at k
  exact A0 (VE H3 O λh4 H4=>k h4 (A1.drp H4))
end
end
section
open Mod
theorem VF {d:B9->B9}:∀ {n m:Nat} {x z w:B9},Mod.bits d n x=some z->Mod.bits d m x=some w->z=w
 | 0,0,x,z,w,h1,h2=>by
  rw [h1] at h2;exact Option.some.inj h2
 | 0,m+1,x,z,w,h1,h2=>by
  unfold Mod.bits at h1 h2
  split at h1
  ·rename_i c
   rw [A8 c] at h2
   rw [h1] at h2;exact Option.some.inj h2
  ·cases h1
 | n+1,0,x,z,w,h1,h2=>by
  unfold Mod.bits at h1 h2
  split at h2
  ·rename_i c
   rw [A8 c] at h1
   rw [h1] at h2;exact Option.some.inj h2
  ·cases h2
 | n+1,m+1,x,z,w,h1,h2=>by
  unfold Mod.bits at h1 h2
  split at h1
  ·rename_i c
   rw [A8 c] at h2
   rw [h1] at h2;exact Option.some.inj h2
  ·rename_i c
   rw [A7 c] at h2
   exact VF h1 h2
open Classical in
noncomputable def R8 (d:B9->B9) (x:B9):B9:=if h:∃z,∃n,Mod.bits d n x=some z then h.choose else x
theorem FT {d:B9->B9} {n:Nat} {x z:B9} (h:Mod.bits d n x=some z):R8 d x=z:=by
 have hh:∃z,∃n,Mod.bits d n x=some z:=⟨z,n,h⟩
 unfold R8
 rw [dif_pos hh]
 obtain ⟨m,hm⟩:=hh.choose_spec
 exact VF hm h
def F7 (m:Mac) (k:Nat):Thr:=m.th.getD k (CT m.p.c)
def FU (t:Thr):Cl:=⟨G2 (t.ret.getD 0 0),u32 (t.ret.getD 1 0),u32 (t.ret.getD 2 0)⟩
def DY:Cl:=⟨0,0,0⟩
def DS.enter (ins:Int) (calls:List (List Cl)) (s:DS) (k:Nat):Option DS:=
 if (F7 s.m k).fr = [] then
  if (calls.getD k []).length<=(s.nx.getD k 0).toNat then none
  else some ⟨s.m.setTh (s.m.th.set k ((F7 s.m k).push (ins+((calls.getD k []).getD (s.nx.getD k 0).toNat DY).op) [((calls.getD k []).getD (s.nx.getD k 0).toNat DY).key,((calls.getD k []).getD (s.nx.getD k 0).toNat DY).val])),s.nx.set k (s.nx.getD k 0+1),s.cu.set k ((calls.getD k []).getD (s.nx.getD k 0).toNat DY),s.ev ++ [⟨k,false,(calls.getD k []).getD (s.nx.getD k 0).toNat DY,DY⟩]⟩
 else some s
noncomputable def DS.go (d:B9->B9) (s:DS) (k:Nat):DS:=
 if (R8 d ⟨s.m.quiet,F7 s.m k,k⟩).t.fr = [] then ⟨(R8 d ⟨s.m.quiet,F7 s.m k,k⟩).m.setTh (s.m.th.set k (R8 d ⟨s.m.quiet,F7 s.m k,k⟩).t),s.nx,s.cu,s.ev ++ [⟨k,true,DY,FU (R8 d ⟨s.m.quiet,F7 s.m k,k⟩).t⟩]⟩
 else ⟨(R8 d ⟨s.m.quiet,F7 s.m k,k⟩).m.setTh (s.m.th.set k (R8 d ⟨s.m.quiet,F7 s.m k,k⟩).t),s.nx,s.cu,s.ev⟩
noncomputable def DS.pick (d:B9->B9) (ins:Int) (calls:List (List Cl)) (s:DS) (k:Int):DS:=match s.enter ins calls k.toNat with
 | none=>s
 | some s1=>s1.go d k.toNat
structure NO (d:B9->B9) (W:B9->Prop) (ins:Int) (Inv:Nat->Mac->Prop):Prop where
 mono:∀(i:Nat) (m:Mac),Inv i m->Inv (i+1) m
 wd:∀i m,Inv i m->Tl6 m/\2 < m.mm.w.length
 push:∀(i:Nat) (m:Mac) (k:Nat) (t:Thr) (c:Cl),Inv i m->m.th[k]? = some t->t.fr = []->0<=c.op/\c.op<=2->V c.key->V c.val->Inv i (m.setTh (m.th.set k (t.push (ins+c.op) [c.key,c.val])))
 step:∀(i:Nat) (m:Mac) (k:Nat) (t:Thr),Inv i m->i < 100000->m.th[k]? = some t->t.fr≠[]->∃n z,Mod.bits d n ⟨m.quiet,t,k⟩=some z/\Sq1 d W n ⟨m.quiet,t,k⟩/\z.id=k/\z.m.th=m.th/\Inv (i+1) (z.m.setTh (m.th.set k z.t))
structure VG (h:A2) (ca:rQ) (cl:Nat) (pa:rQ) (pl:Nat) (calls:List (List Cl)) (C2:List Int):Prop where
 cs:cl=calls.length
 row:∀i,i < calls.length->∃a c,(∃ad,ca=some ad/\A3 h (ad.add i)=some (lQ a (calls.getD i []).length c))/\N5 h a ((calls.getD i []).flatMap CJ)
 ps:pl=C2.length
 pk:N5 h pa (C2.map iv)
section
variable {K:kQ} {h:A2} {M:Nat} {B:DB} {Ts:List Nat} {R:Hp} {d:B9->B9} {W:B9->Prop} {ins:Int} {Inv:Nat->Mac->Prop} {calls:List (List Cl)}
end
end
section
open Mod
theorem S35 {K:kQ} {h:A2} {n:Nat} (hn:n<=4096) (k:K (lQ (some (aQ h.size)) n n) (h.push (oQ ((List.replicate n (0:Int)).map iv).toArray 3))):Y2 prog 3 (n:Int) (n:Int) h K:=by
 refine SM0 (by omega) ?_
 rw [X5]
 exact k
def N1 (c:Mod.Cf) (ca:rQ) (cl cc:Nat) (pa:rQ) (pl pc:Nat) (da:rQ) (dl dc:Nat):List vQ:=[iQ c.algo,iQ c.threads,iQ c.nodes,iQ c.level,iQ c.batch,iQ c.probes,iQ c.scan,lQ ca cl cc,lQ pa pl pc,lQ da dl dc]
section
variable {K:kQ} {h:A2} {M:Nat} {Ts:List Nat} {R:Hp} {d:B9->B9} {W:B9->Prop} {ins:Int} {Inv:Nat->Mac->Prop} {calls:List (List Cl)} {C2:List Int} {m:Mac}
end
end
section
open Mod
theorem Tj1 {h:A2} {b:Nat} {v0 v1 v2 v3 v4 v5 v6 v7 v8 v9:vQ} {K:A2->Prop} (H:OH h (aQ b) 0 [v0,v1,v2,v3,v4,v5,v6,v7,v8,v9] K) :
 C7 h (aQ b) v0 λh=>C7 h ⟨b,1,none⟩ v1 λh=>C7 h ⟨b,2,none⟩ v2 λh=>C7 h ⟨b,3,none⟩ v3 λh=>C7 h ⟨b,4,none⟩ v4 λh=>C7 h ⟨b,5,none⟩ v5 λh=>C7 h ⟨b,6,none⟩ v6 λh=>C7 h ⟨b,7,none⟩ v7 λh=>C7 h ⟨b,8,none⟩ v8 λh=>C7 h ⟨b,9,none⟩ v9 K:=H
def VH (n:Int):vQ:=.int .u8 n
structure FV (h:A2) (ca:rQ) (cl:Nat) (pa:rQ) (pl:Nat) (da:rQ) (dl:Nat) (calls:List (List Cl)) (C2 draws:List Int):Prop where
 f:VG h ca cl pa pl calls C2
 ds:dl=draws.length
 dr:N5 h da (draws.map VH)
structure Sq (calls:List (List Cl)) (C2 draws:List Int):Prop where
 cl:∀l ∈ calls,∀c ∈ l,V c.key/\V c.val
 dr:∀n ∈ draws,0<=n/\n < 256
def opL (n:Int):Int:=Int.tmod (G2 (Int.tmod n 3+3)) 3
def Xr (c:Cl):Cl:=if opL c.op=0 then ⟨0,c.key,c.val⟩ else ⟨opL c.op,0,0⟩
def Dy (n:Nat) (l:List Cl):List Cl:=(l.take n).map Xr
def O0 (th n:Nat) (calls:List (List Cl)):List (List Cl):=(List.range th).map λi=>Dy n (calls.getD i [])
def NP (th:Int) (k:Int):Int:=Int.tmod (G2 (Int.tmod k th+th)) th
def V5 (th:Int) (n:Nat) (C2:List Int):List Int:=(C2.take n).map (NP th)
theorem Si2 (n:Int):0<=opL n/\opL n<=2:=by
 have h1:Int.tmod n 3 < 3:=Int.tmod_lt_of_pos n (by decide)
 have h2 : -3 < Int.tmod n 3:=by
  have:=Int.lt_tmod_of_pos n (b:=3) (by decide)
  omega
 have h3:G2 (Int.tmod n 3+3)=Int.tmod n 3+3:=by unfold G2;omega
 unfold opL
 rw [h3]
 generalize Int.tmod n 3=m at *
 rw [Sk4 (by omega)]
 omega
theorem Qx {th:Int} (ht:1<=th/\th<=6) (n:Int):0<=NP th n/\NP th n < th:=by
 have h1:Int.tmod n th < th:=Int.tmod_lt_of_pos n (by omega)
 have h2 : -th < Int.tmod n th:=by
  have:=Int.lt_tmod_of_pos n (b:=th) (by omega)
  omega
 have h3:G2 (Int.tmod n th+th)=Int.tmod n th+th:=by unfold G2;omega
 unfold NP
 rw [h3]
 generalize Int.tmod n th=m at *
 rw [Sk4 (by omega)]
 exact ⟨Int.emod_nonneg _ (by omega),Int.emod_lt_of_pos _ (by omega)⟩
theorem Te6 {c:Cl} (h:V c.key/\V c.val):(0<=(Xr c).op/\(Xr c).op<=2)/\V (Xr c).key/\V (Xr c).val:=by
 have:=Si2 c.op
 unfold Xr
 split
 ·exact ⟨⟨by show (0:Int)<=0;omega,by show (0:Int)<=2;omega⟩,h⟩
 ·exact ⟨this,⟨by show (0:Int)<=0;omega,by show (0:Int) < _;omega⟩,⟨by show (0:Int)<=0;omega,by show (0:Int) < _;omega⟩⟩
theorem CX (th n:Nat) (calls:List (List Cl)):(O0 th n calls).length=th:=by unfold O0;simp
theorem KY {th n:Nat} {calls:List (List Cl)} {C2 draws:List Int} (R:Sq calls C2 draws) (hn:n<=1000):∀l ∈ O0 th n calls,l.length<=1000/\∀c ∈ l,(0<=c.op/\c.op<=2)/\V c.key/\V c.val:=by
 intro l hl
 unfold O0 at hl
 obtain ⟨i,_,rfl⟩:=Ga.1 hl
 unfold Dy
 refine ⟨by rw [Jz,CM];omega,λc hc=>?_⟩
 obtain ⟨c0,hc0,rfl⟩:=Ga.1 hc
 have hm:=List.mem_of_mem_take hc0
 have:calls.getD i [] ∈ calls\/calls.getD i [] = []:=by
  rw [An]
  cases e:calls[i]? with
  | none=>right;rfl
  | some l=>left;exact OF e
 rcases this with h | h
 ·exact Te6 (R.cl _ h _ hm)
 ·rw [h] at hm;cases hm
def Fz (p:(rQ × Nat) × List Cl):List vQ:=[lQ p.1.1 p.2.length p.1.2]
def Cz:List (rQ × Nat)->List (List Cl)->Hp
 | p :: ps,l :: ls=>E8 41 3 p.1 l.length p.2 (l.flatMap CJ)*Cz ps ls
 | _,_=>Mt
theorem NQ (p:rQ × Nat) (l:List Cl):∀(ps:List (rQ × Nat)) (ls:List (List Cl)),ps.length=ls.length->Cz (ps ++ [p]) (ls ++ [l])=Cz ps ls*E8 41 3 p.1 l.length p.2 (l.flatMap CJ)
 | [],[],_=>by
  show _*Mt=Mt*_
  rw [Ec]
 | [],_ :: _,h=>by simp at h
 | _ :: _,[],h=>by simp at h
 | a :: ps,b :: ls,h=>by
  show _*Cz (ps ++ [p]) (ls ++ [l])=(_*Cz ps ls)*_
  rw [NQ p l ps ls (by simpa using h),F2]
theorem NR {h:A2}:∀ {ps:List (rQ × Nat)} {ls:List (List Cl)} {R:Hp},ps.length=ls.length->A9 h (Cz ps ls*R)->∀i,i < ls.length->∃p,ps[i]? = some p/\N5 h p.1 ((ls.getD i []).flatMap CJ)
 | [],[],_,_,_,i,hi=>by simp at hi
 | [],_ :: _,_,hl,_,_,_=>by simp at hl
 | _ :: _,[],_,hl,_,_,_=>by simp at hl
 | p :: ps,l :: ls,R,hl,H,i,hi=>by
  have H:A9 h ((E8 41 3 p.1 l.length p.2 (l.flatMap CJ)*Cz ps ls)*R):=H
  rw [F2] at H
  cases i with
  | zero=>exact ⟨p,rfl,H.own.sees⟩
  | succ i=>
   have:=NR (by simpa using hl) H.drop i (by simpa using hi)
   simpa using this
def SN6 (ca:rQ) (cc:Nat) (pa:rQ) (pc:Nat) (da:rQ) (dc:Nat) (ps:List (rQ × Nat)) (calls:List (List Cl)) (C2 draws:List Int):Hp:=
 pr (ps.length=calls.length) (E8 58 1 ca calls.length cc ((ps.zip calls).flatMap Fz)*(Cz ps calls*(E8 3 1 pa C2.length pc (C2.map iv)*E8 5 1 da draws.length dc (draws.map VH))))
theorem VI {h:A2} {ca pa da:rQ} {cc pc dc:Nat} {ps:List (rQ × Nat)} {calls:List (List Cl)} {C2 draws:List Int} {R:Hp}:A9 h (SN6 ca cc pa pc da dc ps calls C2 draws*R)↔ps.length=calls.length /\
  A9 h (E8 58 1 ca calls.length cc ((ps.zip calls).flatMap Fz)*(Cz ps calls*(E8 3 1 pa C2.length pc (C2.map iv)*(E8 5 1 da draws.length dc (draws.map VH)*R)))):=by
 unfold SN6
 simp only [A9.pr,F2]
theorem Te7 {h:A2} {ca pa da:rQ} {cc pc dc:Nat} {ps:List (rQ × Nat)} {calls:List (List Cl)} {C2 draws:List Int} {R:Hp} (H:A9 h (SN6 ca cc pa pc da dc ps calls C2 draws*R)):FV h ca calls.length pa C2.length da draws.length calls C2 draws:=by
 obtain ⟨hl,H⟩:=VI.1 H
 refine ⟨⟨rfl,λi hi=>?_,rfl,H.drop.drop.own.sees⟩,rfl,H.drop.drop.drop.own.sees⟩
 obtain ⟨p,hp,hs⟩:=NR hl H.drop i hi
 refine ⟨p.1,p.2,?_,hs⟩
 refine H.own.sees i _ ?_
 have hz:i < (ps.zip calls).length:=by rw [List.length_zip];omega
 have:=N0 (f:=Fz) (n:=1) (λ_=>rfl) hz (j:=0) (by decide)
 rw [BQ,Lc] at this
 rw [this]
 have hi2:i < ps.length:=by omega
 have e1:ps[i]=p:=by
  rw [X7 hi2] at hp
  exact Option.some.inj hp
 have e2:calls.getD i []=calls[i]:=by rw [An,X7 hi];rfl
 rw [e2]
 simp [Fz,e1]
theorem S36:Be prog 24=.slice 58:=by kernel_rfl
theorem Sr9:L0 prog 58=true:=by kernel_rfl
theorem S37:GZ prog 58=some (lQ none 0 0):=by kernel_rfl
theorem MA:M2 prog 58=1:=by kernel_rfl
theorem Si3:EL prog 58=24:=by kernel_rfl
theorem Te8:Be prog 58=.slice 41:=by kernel_rfl
theorem SN7:L0 prog 41=true:=by kernel_rfl
theorem Te9:GZ prog 41=some (.agg #[iQ 0,.int .u32 0,.int .u32 0]):=by kernel_rfl
theorem Sr:M2 prog 41=3:=by kernel_rfl
theorem SN8:EL prog 41=16:=by kernel_rfl
theorem Tf0:Be prog 25=.slice 3:=by kernel_rfl
theorem SN9:L0 prog 3=true:=by kernel_rfl
theorem Tf1:GZ prog 3=some (iQ 0):=by kernel_rfl
theorem Ss:M2 prog 3=1:=by kernel_rfl
theorem SO0:EL prog 3=8:=by kernel_rfl
theorem Ke {h:A2} {row:List vQ} {t:TypeId}:N5 (h.push (oQ row.toArray t)) (some (aQ h.size)) row:=by
 intro i v hi
 refine ⟨_,rfl,?_⟩
 rw [E2,J6]
 exact F6 (t:=t) (row:=row) (by simp) hi
section
variable {K:kQ} {h:A2} {R:Hp}
theorem Tf2 {a:rQ} {l c:Nat} {xs:List Cl} {x:Cl} {X:Hp} {F:kQ} (H:A9 h (E8 41 3 a l c (xs.flatMap CJ)*X)) (hl:l<=60000)
  (k:∀a' c' h',A9 h' (E8 41 3 a' (l+1) c' ((xs ++ [x]).flatMap CJ)*X)->F (lQ a' (l+1) c') h') :
  U4 prog #[58,58] 58 #[lQ a l c,lQ (some (aQ h.size)) 1 1] (h.push (oQ #[iQ x.op,.int .u32 x.key,.int .u32 x.val] 41)) F:=by
 have H1:=H.push (oQ (CJ x).toArray 41)
 have hs:N5 (h.push (oQ (CJ x).toArray 41)) (some (aQ h.size)) (CJ x):=Ke
 have e:(oQ #[iQ x.op,.int .u32 x.key,.int .u32 x.val] 41:Obj)=oQ (CJ x).toArray 41:=rfl
 rw [e]
 have H2:A9 (h.push (oQ (CJ x).toArray 41)) (E8 41 (M2 prog 41) a l c (xs.flatMap CJ)*X):=by
  rw [Sr];exact H1.drop
 refine H2.app Te8 SN7 Te9 (by rw [Sr];rfl) hs (n:=1) (by rw [Sr];rfl) (by simp [CJ,J0]) (by rw [SN8];omega) (by rw [SN8];omega) λa' c' h' H3=>k a' c' h' ?_
 rw [Sr] at H3
 rw [SZ6,List.flatMap_singleton]
 exact H3
theorem Tf3 {a:rQ} {l c:Nat} {xs:List Int} {x:Int} {X:Hp} {F:kQ} (H:A9 h (E8 3 1 a l c (xs.map iv)*X)) (hl:l<=60000)
  (k:∀a' c' h',A9 h' (E8 3 1 a' (l+1) c' ((xs ++ [x]).map iv)*X)->F (lQ a' (l+1) c') h') :
  U4 prog #[25,25] 25 #[lQ a l c,lQ (some (aQ h.size)) 1 1] (h.push (oQ #[iQ x] 3)) F:=by
 have H1:=H.push (.cells [iv x].toArray 3)
 have hs:N5 (h.push (.cells [iv x].toArray 3)) (some (aQ h.size)) [iv x]:=Ke
 have e:(oQ #[iQ x] 3:Obj)=.cells [iv x].toArray 3:=rfl
 rw [e]
 have H2:A9 (h.push (.cells [iv x].toArray 3)) (E8 3 (M2 prog 3) a l c (xs.map iv)*X):=by
  rw [Ss];exact H1.drop
 refine H2.app Tf0 SN9 Tf1 (by rw [Ss];rfl) hs (n:=1) (by rw [Ss];rfl) (by simp [J0]) (by rw [SO0];omega) (by rw [SO0];omega) λa' c' h' H3=>k a' c' h' ?_
 rw [Ss] at H3
 rw [GW]
 exact H3
theorem Tf4 {a:rQ} {l c:Nat} {xs:List Int} {x:Int} {X:Hp} {F:kQ} (H:A9 h (E8 5 1 a l c (xs.map VH)*X)) (hl:l<=60000)
  (k:∀a' c' h',A9 h' (E8 5 1 a' (l+1) c' ((xs ++ [x]).map VH)*X)->F (lQ a' (l+1) c') h') :
  U4 prog #[26,26] 26 #[lQ a l c,lQ (some (aQ h.size)) 1 1] (h.push (oQ #[.int .u8 x] 5)) F:=by
 have H1:=H.push (.cells [VH x].toArray 5)
 have hs:N5 (h.push (.cells [VH x].toArray 5)) (some (aQ h.size)) [VH x]:=Ke
 have e:(oQ #[.int .u8 x] 5:Obj)=.cells [VH x].toArray 5:=rfl
 rw [e]
 have H2:A9 (h.push (.cells [VH x].toArray 5)) (E8 5 (M2 prog 5) a l c (xs.map VH)*X):=by
  rw [KU];exact H1.drop
 refine H2.app SM1 US SM2 (by rw [KU];rfl) hs (n:=1) (by rw [KU];rfl) (by simp [VH,J0]) (by rw [RZ];omega) (by rw [RZ];omega) λa' c' h' H3=>k a' c' h' ?_
 rw [KU] at H3
 rw [GW]
 exact H3
theorem S38 {a:rQ} {l c:Nat} {ps:List (rQ × Nat)} {xs:List (List Cl)} {p:rQ × Nat} {x:List Cl} {n:Nat} {X:Hp} {F:kQ} (H:A9 h (E8 58 1 a l c ((ps.zip xs).flatMap Fz)*X)) (hz:ps.length=xs.length) (hn:n=x.length) (hl:l<=60000)
  (k:∀a' c' h',A9 h' (E8 58 1 a' (l+1) c' (((ps ++ [p]).zip (xs ++ [x])).flatMap Fz)*X)->F (lQ a' (l+1) c') h') :
  U4 prog #[24,24] 24 #[lQ a l c,lQ (some (aQ h.size)) 1 1] (h.push (oQ #[lQ p.1 n p.2] 58)) F:=by
 subst hn
 have H1:=H.push (oQ (Fz (p,x)).toArray 58)
 have hs:N5 (h.push (oQ (Fz (p,x)).toArray 58)) (some (aQ h.size)) (Fz (p,x)):=Ke
 have e:(oQ #[lQ p.1 x.length p.2] 58:Obj)=oQ (Fz (p,x)).toArray 58:=rfl
 rw [e]
 have H2:A9 (h.push (oQ (Fz (p,x)).toArray 58)) (E8 58 (M2 prog 58) a l c ((ps.zip xs).flatMap Fz)*X):=by
  rw [MA];exact H1.drop
 refine H2.app S36 Sr9 S37 (by rw [MA];rfl) hs (n:=1) (by rw [MA];rfl) (by simp [Fz,J0]) (by rw [Si3];omega) (by rw [Si3];omega) λa' c' h' H3=>k a' c' h' ?_
 rw [MA] at H3
 rw [List.zip_append hz,SZ6]
 exact H3
end
end
section
open Go.ChangeShapes Go.WideShapes Go.ChangeAt Go.RowKit
theorem Tj2 {n:Int} (h:(Lit.int .u32 n).wf=true):V n:=by
 unfold Lit.wf at h
 rw [Bool.and_eq_true,decide_eq_true_eq,decide_eq_true_eq] at h
 have e1:IntKind.min .u32=0:=rfl
 have e2:IntKind.max .u32=4294967295:=rfl
 rw [e1,e2] at h
 exact ⟨h.1,by omega⟩
theorem Tj3 {n:Int} (h:(Lit.int .u8 n).wf=true):0<=n/\n < 256:=by
 unfold Lit.wf at h
 rw [Bool.and_eq_true,decide_eq_true_eq,decide_eq_true_eq] at h
 have e1:IntKind.min .u8=0:=rfl
 have e2:IntKind.max .u8=255:=rfl
 rw [e1,e2] at h
 exact ⟨h.1,by omega⟩
theorem Si4 {α:Type} {P:α->Prop} {f:α->List Value} {h:A2} {a:Option Addr} {l c:Nat} {es:List {x:α // P x}} (H:SX (λx:{x:α // P x}=>f x.1) h a l c es):∃xs:List α,(∀x ∈ xs,P x)/\SX f h a l c xs:=by
 refine ⟨es.map (·.1),λx hx=>?_,⟨?_,by rw [List.length_map];exact H.len,H.cap⟩⟩
 ·obtain ⟨y,_,rfl⟩:=List.mem_map.1 hx;exact y.2
 ·have:(es.map (·.1)).flatMap f=es.flatMap λx:{x:α // P x}=>f x.1:=by rw [List.flatMap_map]
  rw [this];exact H.s
theorem N5.oldR {h h':A2} {a:Option Addr} {vs:List Value} (H:N5 h a vs) (o:G9 h.size h h'):N5 h' a vs:=λi v hi=>by
 obtain ⟨ad,ea,hc⟩:=H i v hi
 exact ⟨ad,ea,(T5 (o.2 _ (BS hc))).trans hc⟩
theorem FV.old {h h':A2} {ca:Option Addr} {cl:Nat} {pa:Option Addr} {pl:Nat} {da:Option Addr} {dl:Nat} {calls:List (List Cl)} {C2 draws:List Int} (S:FV h ca cl pa pl da dl calls C2 draws) (o:G9 h.size h h'):FV h' ca cl pa pl da dl calls C2 draws:=by
 refine ⟨⟨S.f.cs,λi hi=>?_,S.f.ps,S.f.pk.oldR o⟩,S.ds,S.dr.oldR o⟩
 obtain ⟨a,c,⟨ad,e,hc⟩,hs⟩:=S.f.row i hi
 exact ⟨a,c,⟨ad,e,(T5 (o.2 _ (BS hc))).trans hc⟩,hs.oldR o⟩
theorem Ss0 {h h0:A2} (H:A9 h (Ur h0)):G9 h0.size h0 h:=by
 rw [<- T8 (Ur h0),Ec] at H
 exact H.fullOld
theorem Ss1 {h h0:A2} {P:Hp} (H:A9 h (P*Ur h0)):G9 h0.size h0 h:=by
 rw [Ec] at H
 exact H.fullOld
section
variable {H:Type} {enc:TypeId × Value->H} {W:World} {fuel:Nat} {cs:List Value} {x:DataW H × List MemPlace}
theorem SO1 (h:DataW.trod enc Tryz.prog W 0 (λ_=>true) true fuel 41 cs=some x):∃e:{e:Cl // V e.key/\V e.val},cs=CJ e.1:=by
 have hl:=Qg Tryz.underlying41 h
 rw [Pa] at hl
 obtain ⟨_,_,e0⟩:=N3 Tryz.underlying41 h 0 _ rfl
 obtain ⟨_,_,e1⟩:=N3 Tryz.underlying41 h 1 _ rfl
 obtain ⟨_,_,e2⟩:=N3 Tryz.underlying41 h 2 _ rfl
 obtain ⟨n0,u0,_,_⟩:=DataW.trod_int Tryz.underlying3 e0
 obtain ⟨n1,u1,_,r1⟩:=DataW.trod_int Tryz.underlying39 e1
 obtain ⟨n2,u2,_,r2⟩:=DataW.trod_int Tryz.underlying39 e2
 have q0:(cs.drop 0).take (Program.cellsOf Tryz.prog 3) = [iQ n0]:=u0
 have q1:(cs.drop 1).take (Program.cellsOf Tryz.prog 39) = [.int .u32 n1]:=u1
 have q2:(cs.drop 2).take (Program.cellsOf Tryz.prog 39) = [.int .u32 n2]:=u2
 rw [Y3] at q0
 rw [RA] at q1 q2
 refine ⟨⟨⟨n0,n1,n2⟩,Tj2 r1,Tj2 r2⟩,?_⟩
 rcases cs with _ | ⟨c0,cs⟩;· simp at hl
 rcases cs with _ | ⟨c1,cs⟩;· simp at hl
 rcases cs with _ | ⟨c2,cs⟩;· simp at hl
 rcases cs with _ | ⟨c3,cs⟩
 ·simp at q0 q1 q2
  rw [q0,q1,q2];rfl
 ·simp at hl
theorem SO2 (h:DataW.trod enc Tryz.prog W 0 (λ_=>true) true fuel 5 cs=some x):∃e:{e:Int // 0<=e/\e < 256},cs = [VH e.1]:=by
 obtain ⟨n,u,_,r⟩:=DataW.trod_int Tryz.underlying5 h
 exact ⟨⟨n,Tj3 r⟩,u⟩
theorem BX (h:DataW.trod enc Tryz.prog W 0 (λ_=>true) true fuel 3 cs=some x):∃e:Int,cs = [iv e]:=by
 obtain ⟨n,u,_,r⟩:=DataW.trod_int Tryz.underlying3 h
 exact ⟨n,u⟩
theorem Gz {ts t:TypeId} (hu:Program.underlying Tryz.prog ts=some (.slice t)) (h:DataW.trod enc Tryz.prog W 0 (λ_=>true) true fuel ts cs=some x):∃a l c,cs = [.slice a l c]:=by
 rcases DataW.trod_slice hu h with ⟨hcs,_⟩ | ⟨y,l1,c1,elems,rest,n,_,hcs,_⟩
 ·exact ⟨_,_,_,hcs⟩
 ·exact ⟨_,_,_,hcs⟩
theorem VJ:Program.cellsOf Tryz.prog 58=1:=by kernel_rfl
theorem Su:Program.cellsOf Tryz.prog 24=1:=by kernel_rfl
theorem Sv:Program.cellsOf Tryz.prog 25=1:=by kernel_rfl
theorem VK:Program.cellsOf Tryz.prog 26=1:=by kernel_rfl
theorem LQ:Program.cellsOf Tryz.prog 23=7:=by kernel_rfl
theorem VL:Program.cellsOf Tryz.prog 28=10:=by kernel_rfl
structure S39 (h:A2) (a:Option Addr) (l:Nat) (row:List Cl):Prop where
 len:l=row.length
 s:N5 h a (row.flatMap CJ)
 v:∀c ∈ row,V c.key/\V c.val
theorem Tf5 {a:Option Addr} {l c:Nat} {d:DataW H} {ps:List MemPlace} (h:DataW.Trod enc Tryz.prog W 0 (λ_=>true) true 58 (.slice a l c) d ps):∃row,S39 W.heap a l row:=by
 obtain ⟨es,S⟩:=Yt (f:=λe:{e:Cl // V e.key/\V e.val}=>CJ e.1) (n:=3) (λ_=>rfl) (by omega) Tryz.underlying58 (by kernel_rfl) (λ_ _ _ h=>SO1 h) h
 obtain ⟨xs,hx,S⟩:=Si4 S
 exact ⟨xs,S.len.symm,S.s,hx⟩
theorem S40 {a:Option Addr} {l c:Nat} {d:DataW H} {ps:List MemPlace} (h:DataW.Trod enc Tryz.prog W 0 (λ_=>true) true 24 (.slice a l c) d ps) :
  ∃calls:List (List Cl),calls.length=l/\∀i (hi:i < calls.length),∃ai ci,(∃ad,a=some ad/\A3 W.heap (ad.add i)=some (.slice ai calls[i].length ci))/\S39 W.heap ai calls[i].length calls[i]:=by
 obtain ⟨fuel,hf⟩:=h
 rcases DataW.trod_slice Tryz.underlying24 hf with ⟨hcs,_⟩ | ⟨x,l1,c1,elems,rest,n,_,hcs,_,_,hl,hm,hlen,hel,_,_⟩
 ·simp [Value.cells] at hcs
  obtain ⟨rfl,rfl,rfl⟩:=hcs
  exact ⟨[],rfl,λi hi=>by simp at hi⟩
 ·simp [Value.cells] at hcs
  obtain ⟨rfl,rfl,rfl⟩:=hcs
  have each:∀i,i < l->∃ai li ci row,A3 W.heap (x.add i)=some (.slice ai li ci)/\S39 W.heap ai li row:=by
   intro i hi
   have:=hel i hi
   rw [List.getElem?_eq_getElem (by omega),Option.bind_eq_some_iff] at this
   obtain ⟨cs,h1,h2⟩:=this
   obtain ⟨ai,li,ci,rfl⟩:=Gz Tryz.underlying58 h2
   obtain ⟨row,hr⟩:=Tf5 ⟨_,h2⟩
   rw [VJ,Nat.mul_one] at h1
   obtain ⟨_,_,h4⟩:=World.cells?_some h1
   have h5:=h4 0 (by omega)
   exact ⟨ai,li,ci,row,h5,hr⟩
  have pick:∀m,m<=l->∃calls:List (List Cl),calls.length=m/\∀i (hi:i < calls.length),∃ai ci,A3 W.heap (x.add i)=some (.slice ai calls[i].length ci)/\S39 W.heap ai calls[i].length calls[i]:=by
   intro m
   induction m with
   | zero=>intro _;exact ⟨[],rfl,λi hi=>by simp at hi⟩
   | succ m ih=>
    intro hm
    obtain ⟨calls,h1,h3⟩:=ih (by omega)
    obtain ⟨ai,li,ci,row,e1,e2⟩:=each m (by omega)
    refine ⟨calls ++ [row],by simp [h1],λi hi=>?_⟩
    by_cases e:i < calls.length
    ·obtain ⟨ai',ci',q2,q3⟩:=h3 i e
     refine ⟨ai',ci',?_,?_⟩
     ·rw [List.getElem_append_left e];exact q2
     ·rw [List.getElem_append_left e];exact q3
    ·have:i=m:=by simp at hi;omega
     subst this
     have e3:(calls ++ [row])[i]=row:=by
      rw [List.getElem_append_right (by omega)]
      simp [h1]
     have e4:=e2.len
     subst e4
     refine ⟨ai,ci,?_,?_⟩
     ·rw [e3];exact e1
     ·rw [e3];exact e2
  obtain ⟨calls,h1,h3⟩:=pick l (Nat.le_refl _)
  refine ⟨calls,h1,λi hi=>?_⟩
  obtain ⟨ai,ci,q2,q3⟩:=h3 i hi
  exact ⟨ai,ci,⟨x,rfl,q2⟩,q3⟩
theorem S87 {f:Int->Value} (l:List Int):(l.flatMap λn=>[f n])=l.map f:=by
 induction l with
 | nil=>rfl
 | cons a l ih=>simp [ih]
theorem NS (h:DataW.trod enc Tryz.prog W 0 (λ_=>true) true fuel 23 cs=some x):∃c:Mod.Cf,cs = [iQ c.algo,iQ c.threads,iQ c.nodes,iQ c.level,iQ c.batch,iQ c.probes,iQ c.scan]:=by
 have hl:=Qg Tryz.underlying23 h
 rw [LQ] at hl
 obtain ⟨_,_,e0⟩:=N3 Tryz.underlying23 h 0 _ rfl
 obtain ⟨n0,u0⟩:=BX e0
 have q0:(cs.drop 0).take (Program.cellsOf Tryz.prog 3) = [iQ n0]:=u0
 rw [Y3] at q0
 obtain ⟨_,_,e1⟩:=N3 Tryz.underlying23 h 1 _ rfl
 obtain ⟨n1,u1⟩:=BX e1
 have q1:(cs.drop 1).take (Program.cellsOf Tryz.prog 3) = [iQ n1]:=u1
 rw [Y3] at q1
 obtain ⟨_,_,e2⟩:=N3 Tryz.underlying23 h 2 _ rfl
 obtain ⟨n2,u2⟩:=BX e2
 have q2:(cs.drop 2).take (Program.cellsOf Tryz.prog 3) = [iQ n2]:=u2
 rw [Y3] at q2
 obtain ⟨_,_,e3⟩:=N3 Tryz.underlying23 h 3 _ rfl
 obtain ⟨n3,u3⟩:=BX e3
 have q3:(cs.drop 3).take (Program.cellsOf Tryz.prog 3) = [iQ n3]:=u3
 rw [Y3] at q3
 obtain ⟨_,_,e4⟩:=N3 Tryz.underlying23 h 4 _ rfl
 obtain ⟨n4,u4⟩:=BX e4
 have q4:(cs.drop 4).take (Program.cellsOf Tryz.prog 3) = [iQ n4]:=u4
 rw [Y3] at q4
 obtain ⟨_,_,e5⟩:=N3 Tryz.underlying23 h 5 _ rfl
 obtain ⟨n5,u5⟩:=BX e5
 have q5:(cs.drop 5).take (Program.cellsOf Tryz.prog 3) = [iQ n5]:=u5
 rw [Y3] at q5
 obtain ⟨_,_,e6⟩:=N3 Tryz.underlying23 h 6 _ rfl
 obtain ⟨n6,u6⟩:=BX e6
 have q6:(cs.drop 6).take (Program.cellsOf Tryz.prog 3) = [iQ n6]:=u6
 rw [Y3] at q6
 refine ⟨⟨n0,n1,n2,n3,n4,n5,n6⟩,?_⟩
 rcases cs with _ | ⟨c0,cs⟩;· simp at hl
 rcases cs with _ | ⟨c1,cs⟩;· simp at hl
 rcases cs with _ | ⟨c2,cs⟩;· simp at hl
 rcases cs with _ | ⟨c3,cs⟩;· simp at hl
 rcases cs with _ | ⟨c4,cs⟩;· simp at hl
 rcases cs with _ | ⟨c5,cs⟩;· simp at hl
 rcases cs with _ | ⟨c6,cs⟩;· simp at hl
 rcases cs with _ | ⟨c7,cs⟩
 ·simp at q0 q1 q2 q3 q4 q5 q6
  rw [q0,q1,q2,q3,q4,q5,q6]
 ·simp at hl
end
section
variable {H:Type} {enc:TypeId × Value->H} {W:World} {v:Value} {d:DataW H} {ps:List MemPlace} {r:Reach} {b0:Nat}
theorem Za (hval:Value.okWide Tryz.prog W r b0 28 v) (h:DataW.Trod enc Tryz.prog W 0 (λ_=>true) true 28 v d ps) :
  ∃(c:Mod.Cf) (ca:Option Addr) (cl cc:Nat) (pa:Option Addr) (pl pc:Nat) (da:Option Addr) (dl dc:Nat) (calls:List (List Cl)) (C2 draws:List Int),
   v=.agg #[iQ c.algo,iQ c.threads,iQ c.nodes,iQ c.level,iQ c.batch,iQ c.probes,iQ c.scan,.slice ca cl cc,.slice pa pl pc,.slice da dl dc]/\FV W.heap ca cl pa pl da dl calls C2 draws/\Sq calls C2 draws:=by
 obtain ⟨vs,rfl,hsz⟩:=okWide_struct Tryz.underlying28 hval
 rw [VL] at hsz
 obtain ⟨fuel,hf⟩:=h
 obtain ⟨l⟩:=vs
 have hl:l.length=10:=by simpa using hsz
 have hf:DataW.trod enc Tryz.prog W 0 (λ_=>true) true fuel 28 l=some (d,ps):=hf
 obtain ⟨m0,x0,e0⟩:=N3 Tryz.underlying28 hf 0 _ rfl
 obtain ⟨m1,x1,e1⟩:=N3 Tryz.underlying28 hf 1 _ rfl
 obtain ⟨m2,x2,e2⟩:=N3 Tryz.underlying28 hf 2 _ rfl
 obtain ⟨m3,x3,e3⟩:=N3 Tryz.underlying28 hf 3 _ rfl
 obtain ⟨c,q0⟩:=NS e0
 obtain ⟨ca,cl,cc,q1⟩:=Gz Tryz.underlying24 e1
 obtain ⟨pa,pl,pc,q2⟩:=Gz Tryz.underlying25 e2
 obtain ⟨da,dl,dc,q3⟩:=Gz Tryz.underlying26 e3
 rw [q1] at e1
 rw [q2] at e2
 rw [q3] at e3
 obtain ⟨calls,hcl,hrow⟩:=S40 (d:=x1.1) (ps:=x1.2) ⟨m1,e1⟩
 obtain ⟨C2,SP⟩:=Yt (f:=λe:Int=>[iv e]) (n:=1) (λ_=>rfl) (by omega) Tryz.underlying25 (by kernel_rfl) (λ_ _ _ h=>BX h) (d:=x2.1) (ps:=x2.2) ⟨m2,e2⟩
 obtain ⟨des,SD⟩:=Yt (f:=λe:{e:Int // 0<=e/\e < 256}=>[VH e.1]) (n:=1) (λ_=>rfl) (by omega) Tryz.underlying26 (by kernel_rfl) (λ_ _ _ h=>SO2 h) (d:=x3.1) (ps:=x3.2) ⟨m3,e3⟩
 obtain ⟨draws,hdr,SD⟩:=Si4 (f:=λe:Int=>[VH e]) SD
 refine ⟨c,ca,cl,cc,pa,pl,pc,da,dl,dc,calls,C2,draws,?_,⟨⟨hcl.symm,λi hi=>?_,SP.len.symm,?_⟩,SD.len.symm,?_⟩,⟨λl hl c hc=>?_,hdr⟩⟩
 ·have p0:(l.drop 0).take (Program.cellsOf Tryz.prog 23)=_:=q0
  have p1:(l.drop 7).take (Program.cellsOf Tryz.prog 24)=_:=q1
  have p2:(l.drop 8).take (Program.cellsOf Tryz.prog 25)=_:=q2
  have p3:(l.drop 9).take (Program.cellsOf Tryz.prog 26)=_:=q3
  rw [LQ] at p0
  rw [Su] at p1
  rw [Sv] at p2
  rw [VK] at p3
  clear q0 q1 q2 q3 e0 e1 e2 e3 hf hval hsz
  rcases l with _ | ⟨y0,l⟩;· simp at hl
  rcases l with _ | ⟨y1,l⟩;· simp at hl
  rcases l with _ | ⟨y2,l⟩;· simp at hl
  rcases l with _ | ⟨y3,l⟩;· simp at hl
  rcases l with _ | ⟨y4,l⟩;· simp at hl
  rcases l with _ | ⟨y5,l⟩;· simp at hl
  rcases l with _ | ⟨y6,l⟩;· simp at hl
  rcases l with _ | ⟨y7,l⟩;· simp at hl
  rcases l with _ | ⟨y8,l⟩;· simp at hl
  rcases l with _ | ⟨y9,l⟩;· simp at hl
  rcases l with _ | ⟨y10,l⟩
  ·simp at p0 p1 p2 p3
   obtain ⟨r0,r1,r2,r3,r4,r5,r6⟩:=p0
   rw [r0,r1,r2,r3,r4,r5,r6,p1,p2,p3]
  ·simp at hl
 ·obtain ⟨ai,ci,q2,q3⟩:=hrow i hi
  have e:calls.getD i []=calls[i]:=by rw [List.getD_eq_getElem?_getD,List.getElem?_eq_getElem hi];rfl
  rw [e]
  exact ⟨ai,ci,q2,q3.s⟩
 ·have:=SP.s
  rw [S87] at this
  exact this
 ·have:=SD.s
  rw [S87] at this
  exact this
 ·obtain ⟨i,hi,rfl⟩:=List.getElem_of_mem hl
  obtain ⟨ai,ci,q2,q3⟩:=hrow i hi
  exact q3.v c hc
theorem Ss2 (hval:Value.okWide Tryz.prog W r b0 23 v) (h:DataW.Trod enc Tryz.prog W 0 (λ_=>true) true 23 v d ps):∃c:Mod.Cf,v=.agg #[iQ c.algo,iQ c.threads,iQ c.nodes,iQ c.level,iQ c.batch,iQ c.probes,iQ c.scan]:=by
 obtain ⟨vs,rfl,hsz⟩:=okWide_struct Tryz.underlying23 hval
 obtain ⟨fuel,hf⟩:=h
 obtain ⟨l⟩:=vs
 have hf:DataW.trod enc Tryz.prog W 0 (λ_=>true) true fuel 23 l=some (d,ps):=hf
 obtain ⟨c,q⟩:=NS hf
 exact ⟨c,by rw [q]⟩
end
end
end Go.Proofs.YtahpbclnkofhfaaGreat
