/- Part 10 of what the proofs of this seat rest on: see the last text of the claim. -/
import Derived.Test.YtahpbclnkofhfaaGreatQ74d7561dc600
import Derived.Test.YtahpbclnkofhfaaGreatProg
set_option linter.unusedSimpArgs false
set_option linter.unusedVariables false
set_option linter.ambiguousOpen false
set_option maxRecDepth 20000
namespace Go.Proofs.YtahpbclnkofhfaaGreat
section
set_option maxRecDepth 100000
def F65 (K:kQ) (h:Wa2) (xa xb:Option Addr):Prop:=
 (cf 105 #[.pointer xb] h λa b=>Wb2 a λa=>exI λI3=>(ifB (Option.isNone a) (I3 [.bool true] b) (I3 [.bool (Option.isNone xa)] b))/\(∀(b:Value) (c:Env) (c:Wa2),(I3 [b] c)->(asBool b λb=>ifB b (K (.tuple #[]) c) (stH (Array.push c (.cells #[.pointer none,.pointer none,.pointer none] 202)) (aQ c.size) (.pointer xa) λb=>stH b ⟨c.size,1,none⟩ (.pointer xb) λb=>stH b ⟨c.size,2,none⟩ (.pointer a) λb=>exI λI11=>(nP a λd=>lI .i64 b d λd=>ifB (decide (d < 31)) (I11 [.bool true,.bool true] b) (nP a λd=>lI .i64 b d λd=>I11 [.bool (decide (d > 36)),.bool (decide (d > 36))] b))/\(∀(b d:Value) (e:Env) (e:Wa2),(I11 [b,d] e)->(asBool b λb=>ifB b (cf 115 #[.pointer xa,.pointer xb] e λb b=>K (.tuple #[]) b) (nP a λb=>lI .i64 e (Addr.add b 1) λb=>ifB (b == 90) (nP a λb=>bd 7 10 (lI .u64 e (Addr.add b 9) λb=>nP a λd=>bd 8 10 (lI .u64 e (Addr.add d 10) λd=>nP a λf=>bd 9 10 (lI .u64 e (Addr.add f 11) λf=>cf 106 #[.pointer xb,.slice (some (aQ e.size)) 3 3] (Array.push e (.cells #[uQ b,uQ d,uQ f] 178)) λb b=>K (.tuple #[]) b)))) (nP a λb=>lI .i64 e b λb=>ifB (b == 31) (dl3 e c.size λb d f=>cf 116 #[.agg #[b,d,f]] e λb b=>K (.tuple #[]) b) (nP a λb=>lI .i64 e b λb=>ifB (b == 34) (dl3 e c.size λb d f=>cf 117 #[.agg #[b,d,f]] e λb b=>K (.tuple #[]) b) (nP a λb=>lI .i64 e b λb=>ifB (b == 35) (dl3 e c.size λb d f=>cf 118 #[.agg #[b,d,f]] e λb b=>K (.tuple #[]) b) (nP a λa=>lI .i64 e a λa=>ifB (a == 36) (dl3 e c.size λa b d=>cf 119 #[.agg #[a,b,d]] e λa a=>K (.tuple #[]) a) (dl3 e c.size λa b c=>cf 120 #[.agg #[a,b,c]] e λa a=>K (.tuple #[]) a))))))))))))
theorem call65 {K:kQ} {h:Wa2} {xa xb:Option Addr} (H:F65 K h xa xb):Wa5 Tryz.prog 65 #[(.pointer xa),(.pointer xb)] h K:=
 cQ Tryz.func65 H
def F115 (K:kQ) (h:Wa2) (xa xb:Option Addr):Prop:=
 (cf 105 #[.pointer xb] h λa b=>Wb2 a λa=>exI λI3=>(ifB (Option.isNone a) (I3 [.bool true,.bool true] b) (I3 [.bool (Option.isNone xa),.bool (Option.isNone xa)] b))/\(∀(b c:Value) (d:Env) (d:Wa2),(I3 [b,c] d)->(asBool b λb=>ifB b (K (.tuple #[]) d) (nP a λb=>lI .i64 d b λb=>ifB (b == 30) (cf 176 #[.agg #[.pointer xa,.pointer xb,.pointer a]] d λa a=>K (.tuple #[]) a) (cf 111 #[.pointer xa,.pointer xb] d λa a=>K (.tuple #[]) a)))))
theorem call115 {K:kQ} {h:Wa2} {xa xb:Option Addr} (H:F115 K h xa xb):Wa5 Tryz.prog 115 #[(.pointer xa),(.pointer xb)] h K:=
 cQ Tryz.func115 H
abbrev g116 (K:kQ) (h H1:Wa2):Prop:=
 (lP H1 (Addr.add (aQ h.size) 2) λa=>nP a λa=>lI .i64 H1 (Addr.add a 1) λa=>ifB (decide (a<=2)) (dl3 H1 h.size λa b c=>cf 177 #[.agg #[a,b,c]] H1 λa a=>K (.tuple #[]) a) (lP H1 (Addr.add (aQ h.size) 2) λa=>nP a λa=>lI .i64 H1 (Addr.add a 1) λa=>ifB (decide (a<=6)) (dl3 H1 h.size λa b c=>cf 178 #[.agg #[a,b,c]] H1 λa a=>K (.tuple #[]) a) (lP H1 (Addr.add (aQ h.size) 2) λa=>nP a λa=>lI .i64 H1 (Addr.add a 1) λa=>ifB (decide (a<=10)) (dl3 H1 h.size λa b c=>cf 179 #[.agg #[a,b,c]] H1 λa a=>K (.tuple #[]) a) (lP H1 (Addr.add (aQ h.size) 2) λa=>nP a λa=>lI .i64 H1 (Addr.add a 1) λa=>ifB (decide (a<=14)) (dl3 H1 h.size λa b c=>cf 180 #[.agg #[a,b,c]] H1 λa a=>K (.tuple #[]) a) (dl3 H1 h.size λa b c=>cf 181 #[.agg #[a,b,c]] H1 λa a=>K (.tuple #[]) a)))))
def F116 (K:kQ) (h:Wa2) (xa xb xc:Option Addr):Prop:=
 (g116 K h (Array.push h (.cells #[.pointer xa,.pointer xb,.pointer xc] 204)))
theorem call116 {K:kQ} {h:Wa2} {xa xb xc:Option Addr} (H:F116 K h xa xb xc):Wa5 Tryz.prog 116 #[(.agg #[(.pointer xa),(.pointer xb),(.pointer xc)])] h K:=
 cQ Tryz.func116 H
abbrev g117 (K:kQ) (h H1:Wa2):Prop:=
 (lP H1 (Addr.add (aQ h.size) 2) λa=>nP a λb=>lI .i64 H1 (Addr.add b 1) λb=>ifB (b == 0) (ldH H1 (aQ h.size) λc=>Wb2 c λd=>da3 H1 (aQ h.size) λe f g=>nP a λi=>cf 182 #[.agg #[e,f,g],uQ 1,uQ 0] H1 λe f=>asInt .i64 e λe=>ce f h.size 0 c (cf 147 #[.pointer d,iQ e] f λc d=>asInt .u64 c λc=>bd 0 10 (stH d (Addr.add i 2) (uQ c) λc=>nP a λd=>bd 0 10 (lI .u64 c (Addr.add d 2) λd=>nP a λe=>bd 0 10 (ldH c (Addr.add e 2) λf=>asInt .u64 f λg=>nP a λi=>nP a λj=>cf 183 #[uQ d] c λc d=>asInt .u64 c λc=>((Wa1 d (Addr.add e 2))=(some f))/\(cf 183 #[uQ g] d λd e=>asInt .u64 d λd=>bd 1 10 (stH e (Addr.add i 3) (uQ c) λc=>bd 2 10 (stH c (Addr.add j 4) (uQ d) λc=>nP a λd=>stH c (Addr.add d 1) (iQ 1) λc=>nP a λd=>bd 0 10 (lI .u64 c (Addr.add d 2) λd=>cf 184 #[uQ d] c λc d=>asBool c λc=>ifB (!c) (da3 d (aQ h.size) λc e f=>cf 185 #[.agg #[c,e,f],uQ 0] d λc c=>K (.tuple #[]) c) (K (.tuple #[]) d)))))))))) (ifB (b == 1) (ldH H1 (aQ h.size) λc=>Wb2 c λd=>da3 H1 (aQ h.size) λe f g=>nP a λi=>bd 1 10 (lI .u64 H1 (Addr.add i 3) λi=>cf 182 #[.agg #[e,f,g],uQ i,uQ 0] H1 λe f=>asInt .i64 e λe=>ce f h.size 0 c (cf 147 #[.pointer d,iQ e] f λc d=>asInt .u64 c λc=>nP a λe=>cf 183 #[uQ c] d λd f=>asInt .u64 d λd=>bd 2 10 (stH f (Addr.add e 4) (uQ d) λd=>nP a λe=>stH d (Addr.add e 1) (iQ 2) λd=>cf 184 #[uQ c] d λd e=>asBool d λd=>ifB d (nP a λd=>cf 183 #[uQ c] e λc f=>asInt .u64 c λc=>bd 1 10 (stH f (Addr.add d 3) (uQ c) λc=>nP a λd=>stH c (Addr.add d 1) (iQ 1) λc=>K (.tuple #[]) c)) (K (.tuple #[]) e))))) (ifB (b == 2) (da3 H1 (aQ h.size) λc d e=>nP a λf=>bd 1 10 (lI .u64 H1 (Addr.add f 3) λf=>((Wa1 (Array.push H1 (.cells #[uQ f] 178)) (aQ h.size))=(some c))/\(((Wa1 (Array.push H1 (.cells #[uQ f] 178)) (Addr.add (aQ h.size) 1))=(some d))/\(((Wa1 (Array.push H1 (.cells #[uQ f] 178)) (Addr.add (aQ h.size) 2))=(some e))/\(cf 186 #[.agg #[c,d,e],iQ 3,iQ 36,.slice (some (aQ H1.size)) 1 1] (Array.push H1 (.cells #[uQ f] 178)) λc c=>K (.tuple #[]) c))))) (ifB (b == 3) (da3 H1 (aQ h.size) λc d e=>da3 H1 (aQ h.size) λf g i=>nP a λj=>bd 0 10 (ldH H1 (Addr.add j 2) λk=>asInt .u64 k λl=>nP a λm=>bd 2 10 (ldH H1 (Addr.add m 4) λn=>asInt .u64 n λo=>cf 182 #[.agg #[f,g,i],uQ 1,uQ 0] H1 λf g=>asInt .i64 f λf=>((Wa1 g (Addr.add m 4))=(some n))/\(((Wa1 g (Addr.add j 2))=(some k))/\(ce g h.size 0 c (((Wa1 g (Addr.add (aQ h.size) 1))=(some d))/\(((Wa1 g (Addr.add (aQ h.size) 2))=(some e))/\(cf 187 #[.agg #[c,d,e],iQ f,uQ l,uQ o,.bool false] g λc d=>asBool c λc=>nP a λc=>stH d (Addr.add c 1) (iQ 4) λc=>K (.tuple #[]) c)))))))) (ifB (b == 4) (da3 H1 (aQ h.size) λb c d=>nP a λe=>bd 0 10 (lI .u64 H1 (Addr.add e 2) λe=>nP a λa=>bd 2 10 (ldH H1 (Addr.add a 4) λf=>asInt .u64 f λg=>cf 183 #[uQ e] H1 λe i=>asInt .u64 e λe=>((Wa1 i (Addr.add a 4))=(some f))/\(ce i h.size 0 b (((Wa1 i (Addr.add (aQ h.size) 1))=(some c))/\(((Wa1 i (Addr.add (aQ h.size) 2))=(some d))/\(((Wa1 (Array.push i (.cells #[uQ e,uQ g] 178)) (aQ h.size))=(some b))/\(((Wa1 (Array.push i (.cells #[uQ e,uQ g] 178)) (Addr.add (aQ h.size) 1))=(some c))/\(((Wa1 (Array.push i (.cells #[uQ e,uQ g] 178)) (Addr.add (aQ h.size) 2))=(some d))/\(cf 186 #[.agg #[b,c,d],iQ 5,iQ 35,.slice (some (aQ i.size)) 2 2] (Array.push i (.cells #[uQ e,uQ g] 178)) λa a=>K (.tuple #[]) a)))))))))) (da3 H1 (aQ h.size) λa b c=>cf 185 #[.agg #[a,b,c],uQ 0] H1 λa a=>K (.tuple #[]) a))))))
def F117 (K:kQ) (h:Wa2) (xa xb xc:Option Addr):Prop:=
 (g117 K h (Array.push h (.cells #[.pointer xa,.pointer xb,.pointer xc] 205)))
theorem call117 {K:kQ} {h:Wa2} {xa xb xc:Option Addr} (H:F117 K h xa xb xc):Wa5 Tryz.prog 117 #[(.agg #[(.pointer xa),(.pointer xb),(.pointer xc)])] h K:=
 cQ Tryz.func117 H
abbrev g118 (K:kQ) (h H1:Wa2):Prop:=
 (lP H1 (Addr.add (aQ h.size) 2) λa=>nP a λb=>lI .i64 H1 (Addr.add b 1) λb=>ifB (b == 0) (lP H1 (aQ h.size) λc=>cf 188 #[.pointer c,iQ 1,uQ 1] H1 λc d=>asInt .u64 c λc=>nP a λc=>stH d (Addr.add c 1) (iQ 1) λc=>K (.tuple #[]) c) (ifB (b == 1) (nP a λb=>bd 0 10 (lI .u64 H1 (Addr.add b 2) λb=>nP a λc=>bd 1 10 (lI .u64 H1 (Addr.add c 3) λc=>ifB (b == c) (lP H1 (Addr.add (aQ h.size) 1) λb=>cf 106 #[.pointer b,.slice none 0 0] H1 λb b=>K (.tuple #[]) b) (ldH H1 (aQ h.size) λb=>Wb2 b λc=>da3 H1 (aQ h.size) λd e f=>nP a λg=>bd 0 10 (lI .u64 H1 (Addr.add g 2) λg=>nP a λi=>cf 182 #[.agg #[d,e,f],uQ g,uQ 0] H1 λd e=>asInt .i64 d λd=>ce e h.size 0 b (cf 147 #[.pointer c,iQ d] e λb c=>asInt .u64 b λb=>cf 183 #[uQ b] c λb c=>asInt .u64 b λb=>bd 2 10 (stH c (Addr.add i 4) (uQ b) λb=>nP a λc=>stH b (Addr.add c 1) (iQ 2) λb=>K (.tuple #[]) b))))))) (nP a λb=>bd 0 10 (lI .u64 H1 (Addr.add b 2) λb=>nP a λc=>bd 2 10 (lI .u64 H1 (Addr.add c 4) λc=>nP a λa=>bd 0 10 (stH H1 (Addr.add a 2) (uQ c) λa=>da3 a (aQ h.size) λc d e=>cf 186 #[.agg #[c,d,e],iQ 1,iQ 5,.slice (some (aQ a.size)) 1 1] (Array.push a (.cells #[uQ b] 178)) λa a=>K (.tuple #[]) a))))))
def F118 (K:kQ) (h:Wa2) (xa xb xc:Option Addr):Prop:=
 (g118 K h (Array.push h (.cells #[.pointer xa,.pointer xb,.pointer xc] 206)))
theorem call118 {K:kQ} {h:Wa2} {xa xb xc:Option Addr} (H:F118 K h xa xb xc):Wa5 Tryz.prog 118 #[(.agg #[(.pointer xa),(.pointer xb),(.pointer xc)])] h K:=
 cQ Tryz.func118 H
abbrev g119 (K:kQ) (h H1:Wa2):Prop:=
 (lP H1 (Addr.add (aQ h.size) 2) λa=>nP a λb=>lI .i64 H1 (Addr.add b 1) λb=>ifB (b == 0) (lP H1 (aQ h.size) λc=>nP a λd=>cf 147 #[.pointer c,iQ 1] H1 λc e=>asInt .u64 c λc=>bd 1 10 (stH e (Addr.add d 3) (uQ c) λc=>lP c (aQ h.size) λd=>nP a λe=>cf 79 #[.pointer d] c λc d=>asAgg c λc=>We2 c 15 (Wm8 c λc f g i j k l m n o p q r s t=>cf 139 #[.agg #[c,f,g,i,j,k,l,m,n,o,p,q,r,s,t]] d λc d=>asAgg c λc=>We2 c 7 (de7 c λc c c c f f f=>asInt .i64 c λc=>bd 2 10 (stH d (Addr.add e 4) (uQ (IntKind.wrap .u64 (IntKind.wrap .i64 (c - 1)))) λc=>nP a λd=>stH c (Addr.add d 1) (iQ 1) λc=>K (.tuple #[]) c))))) (ifB (b == 1) (nP a λc=>bd 2 10 (lI .u64 H1 (Addr.add c 4) λc=>ifB (c == 0) (lP H1 (Addr.add (aQ h.size) 1) λc=>cf 106 #[.pointer c,.slice none 0 0] H1 λc c=>K (.tuple #[]) c) (ldH H1 (aQ h.size) λc=>Wb2 c λd=>da3 H1 (aQ h.size) λe f g=>nP a λi=>bd 2 10 (lI .u64 H1 (Addr.add i 4) λi=>nP a λj=>cf 182 #[.agg #[e,f,g],uQ 1,uQ i] H1 λe f=>asInt .i64 e λe=>ce f h.size 0 c (cf 147 #[.pointer d,iQ e] f λc d=>asInt .u64 c λc=>bd 3 10 (stH d (Addr.add j 5) (uQ c) λc=>nP a λd=>bd 3 10 (lI .u64 c (Addr.add d 5) λd=>nP a λe=>cf 183 #[uQ d] c λc d=>asInt .u64 c λc=>bd 4 10 (stH d (Addr.add e 6) (uQ c) λc=>nP a λd=>stH c (Addr.add d 1) (iQ 2) λc=>nP a λd=>bd 4 10 (lI .u64 c (Addr.add d 6) λd=>ifB (d == 2) (dl3 c h.size λd e f=>cf 189 #[.agg #[d,e,f]] c λd d=>K (.tuple #[]) d) (K (.tuple #[]) c)))))))))) (ifB (b == 2) (da3 H1 (aQ h.size) λc d e=>nP a λf=>bd 5 10 (lI .u64 H1 (Addr.add f 7) λf=>nP a λg=>bd 4 10 (lI .u64 H1 (Addr.add g 6) λg=>cf 190 #[.agg #[c,d,e],uQ f,uQ g] H1 λc c=>nP a λd=>bd 5 10 (lI .u64 c (Addr.add d 7) λd=>nP a λe=>bd 5 10 (stH c (Addr.add e 7) (uQ (IntKind.wrap .u64 (d+1))) λc=>nP a λd=>stH c (Addr.add d 1) (iQ 3) λc=>K (.tuple #[]) c))))) (ifB (b == 3) (nP a λb=>stH H1 (Addr.add b 1) (iQ 4) λb=>lP b (aQ h.size) λc=>nP a λd=>bd 1 10 (ldH b (Addr.add d 3) λe=>asInt .u64 e λf=>cf 147 #[.pointer c,iQ 1] b λb c=>asInt .u64 b λb=>((Wa1 c (Addr.add d 3))=(some e))/\(ifB (b != f) (nP a λa=>stH c (Addr.add a 1) (iQ 0) λa=>K (.tuple #[]) a) (K (.tuple #[]) c)))) (dl3 H1 h.size λa b c=>cf 191 #[.agg #[a,b,c]] H1 λa a=>K (.tuple #[]) a)))))
def F119 (K:kQ) (h:Wa2) (xa xb xc:Option Addr):Prop:=
 (g119 K h (Array.push h (.cells #[.pointer xa,.pointer xb,.pointer xc] 207)))
theorem call119 {K:kQ} {h:Wa2} {xa xb xc:Option Addr} (H:F119 K h xa xb xc):Wa5 Tryz.prog 119 #[(.agg #[(.pointer xa),(.pointer xb),(.pointer xc)])] h K:=
 cQ Tryz.func119 H
abbrev g120 (K:kQ) (h H1:Wa2):Prop:=
 (lP H1 (Addr.add (aQ h.size) 2) λa=>nP a λa=>lI .i64 H1 (Addr.add a 1) λa=>ifB (decide (a<=4)) (dl3 H1 h.size λa b c=>cf 192 #[.agg #[a,b,c]] H1 λa a=>K (.tuple #[]) a) (lP H1 (Addr.add (aQ h.size) 2) λa=>nP a λa=>lI .i64 H1 (Addr.add a 1) λa=>ifB (decide (a<=8)) (dl3 H1 h.size λa b c=>cf 193 #[.agg #[a,b,c]] H1 λa a=>K (.tuple #[]) a) (lP H1 (Addr.add (aQ h.size) 2) λa=>nP a λa=>lI .i64 H1 (Addr.add a 1) λa=>ifB (decide (a<=10)) (dl3 H1 h.size λa b c=>cf 194 #[.agg #[a,b,c]] H1 λa a=>K (.tuple #[]) a) (dl3 H1 h.size λa b c=>cf 195 #[.agg #[a,b,c]] H1 λa a=>K (.tuple #[]) a))))
def F120 (K:kQ) (h:Wa2) (xa xb xc:Option Addr):Prop:=
 (g120 K h (Array.push h (.cells #[.pointer xa,.pointer xb,.pointer xc] 208)))
theorem call120 {K:kQ} {h:Wa2} {xa xb xc:Option Addr} (H:F120 K h xa xb xc):Wa5 Tryz.prog 120 #[(.agg #[(.pointer xa),(.pointer xb),(.pointer xc)])] h K:=
 cQ Tryz.func120 H
abbrev g176 (K:kQ) (h H1:Wa2):Prop:=
 (lP H1 (Addr.add (aQ h.size) 2) λa=>nP a λb=>lI .i64 H1 (Addr.add b 1) λb=>ifB (b == 0) (dl3 H1 h.size λc d e=>cf 262 #[.agg #[c,d,e]] H1 λc c=>K (.tuple #[]) c) (ifB (b == 1) (ldH H1 (aQ h.size) λc=>Wb2 c λd=>da3 H1 (aQ h.size) λe f g=>da3 H1 (aQ h.size) λi j k=>nP a λl=>bd 3 10 (ldH H1 (Addr.add l 5) λm=>asInt .u64 m λn=>cf 264 #[.agg #[i,j,k]] H1 λi j=>asInt .i64 i λi=>((Wa1 j (Addr.add l 5))=(some m))/\(ce j h.size 0 e (((Wa1 j (Addr.add (aQ h.size) 1))=(some f))/\(((Wa1 j (Addr.add (aQ h.size) 2))=(some g))/\(ce j h.size 0 c (cf 263 #[.agg #[e,f,g],iQ (IntKind.wrap .i64 (2*i))] j λe f=>asInt .i64 e λe=>((Wa1 f (Addr.add l 5))=(some m))/\(ce f h.size 0 c (cf 212 #[.pointer d,iQ e,uQ n] f λc c=>nP a λd=>stH c (Addr.add d 1) (iQ 2) λc=>K (.tuple #[]) c))))))))) (ifB (b == 2) (ldH H1 (aQ h.size) λc=>Wb2 c λd=>da3 H1 (aQ h.size) λe f g=>nP a λi=>bd 3 10 (ldH H1 (Addr.add i 5) λj=>asInt .u64 j λk=>da3 H1 (aQ h.size) λl m n=>nP a λo=>cf 264 #[.agg #[l,m,n]] H1 λl m=>asInt .i64 l λl=>((Wa1 m (Addr.add i 5))=(some j))/\(ce m h.size 0 e (((Wa1 m (Addr.add (aQ h.size) 1))=(some f))/\(((Wa1 m (Addr.add (aQ h.size) 2))=(some g))/\(ce m h.size 0 c (cf 265 #[.agg #[e,f,g],uQ k,iQ (IntKind.wrap .i64 (5+l))] m λe f=>asInt .i64 e λe=>ce f h.size 0 c (cf 147 #[.pointer d,iQ e] f λc d=>asInt .u64 c λc=>bd 4 10 (stH d (Addr.add o 6) (uQ c) λc=>nP a λd=>stH c (Addr.add d 1) (iQ 3) λc=>da3 c (aQ h.size) λd e f=>cf 266 #[.agg #[d,e,f]] c λc d=>asInt .u64 c λc=>ifB (c == 2) (dl3 d h.size λc e f=>cf 267 #[.agg #[c,e,f]] d λc c=>K (.tuple #[]) c) (K (.tuple #[]) d)))))))))) (ifB (b == 3) (ldH H1 (aQ h.size) λc=>Wb2 c λd=>da3 H1 (aQ h.size) λe f g=>da3 H1 (aQ h.size) λi j k=>da3 H1 (aQ h.size) λl m n=>cf 264 #[.agg #[i,j,k]] H1 λi j=>asInt .i64 i λi=>ce j h.size 0 l (((Wa1 j (Addr.add (aQ h.size) 1))=(some m))/\(((Wa1 j (Addr.add (aQ h.size) 2))=(some n))/\(ce j h.size 0 e (((Wa1 j (Addr.add (aQ h.size) 1))=(some f))/\(((Wa1 j (Addr.add (aQ h.size) 2))=(some g))/\(ce j h.size 0 c (cf 263 #[.agg #[e,f,g],iQ (IntKind.wrap .i64 ((IntKind.wrap .i64 (2*i))+1))] j λe f=>asInt .i64 e λe=>ce f h.size 0 l (((Wa1 f (Addr.add (aQ h.size) 1))=(some m))/\(((Wa1 f (Addr.add (aQ h.size) 2))=(some n))/\(ce f h.size 0 c (cf 266 #[.agg #[l,m,n]] f λf g=>asInt .u64 f λf=>ce g h.size 0 c (cf 212 #[.pointer d,iQ e,uQ f] g λc c=>nP a λd=>stH c (Addr.add d 1) (iQ 4) λc=>K (.tuple #[]) c))))))))))))) (ifB (b == 4) (dl3 H1 h.size λc d e=>cf 268 #[.agg #[c,d,e]] H1 λc c=>K (.tuple #[]) c) (ifB (b == 5) (nP a λb=>stH H1 (Addr.add b 1) (iQ 6) λb=>ldH b (aQ h.size) λc=>Wb2 c λd=>da3 b (aQ h.size) λe f g=>da3 b (aQ h.size) λi j k=>cf 266 #[.agg #[i,j,k]] b λb i=>asInt .u64 b λb=>ce i h.size 0 e (((Wa1 i (Addr.add (aQ h.size) 1))=(some f))/\(((Wa1 i (Addr.add (aQ h.size) 2))=(some g))/\(ce i h.size 0 c (cf 265 #[.agg #[e,f,g],uQ b,iQ 5] i λb e=>asInt .i64 b λb=>ce e h.size 0 c (cf 147 #[.pointer d,iQ b] e λb c=>asInt .u64 b λb=>cf 226 #[uQ b] c λb c=>asBool b λb=>ifB b (dl3 c h.size λb d e=>cf 269 #[.agg #[b,d,e]] c λb b=>K (.tuple #[]) b) (K (.tuple #[]) c))))))) (ldH H1 (aQ h.size) λb=>Wb2 b λc=>da3 H1 (aQ h.size) λd e f=>da3 H1 (aQ h.size) λg i j=>nP a λa=>bd 0 10 (ldH H1 (Addr.add a 2) λk=>asInt .u64 k λl=>cf 266 #[.agg #[g,i,j]] H1 λg i=>asInt .u64 g λg=>((Wa1 i (Addr.add a 2))=(some k))/\(ce i h.size 0 d (((Wa1 i (Addr.add (aQ h.size) 1))=(some e))/\(((Wa1 i (Addr.add (aQ h.size) 2))=(some f))/\(ce i h.size 0 b (cf 265 #[.agg #[d,e,f],uQ g,iQ 0] i λd e=>asInt .i64 d λd=>((Wa1 e (Addr.add a 2))=(some k))/\(ce e h.size 0 b (cf 147 #[.pointer c,iQ d] e λb c=>asInt .u64 b λb=>((Wa1 c (Addr.add a 2))=(some k))/\(ifB (decide (b < l)) (dl3 c h.size λa b d=>cf 269 #[.agg #[a,b,d]] c λa a=>K (.tuple #[]) a) (dl3 c h.size λa b d=>cf 267 #[.agg #[a,b,d]] c λa a=>K (.tuple #[]) a)))))))))))))))))
def F176 (K:kQ) (h:Wa2) (xa xb xc:Option Addr):Prop:=
 (g176 K h (Array.push h (.cells #[.pointer xa,.pointer xb,.pointer xc] 254)))
theorem call176 {K:kQ} {h:Wa2} {xa xb xc:Option Addr} (H:F176 K h xa xb xc):Wa5 Tryz.prog 176 #[(.agg #[(.pointer xa),(.pointer xb),(.pointer xc)])] h K:=
 cQ Tryz.func176 H
abbrev g177 (K:kQ) (h H1:Wa2):Prop:=
 (lP H1 (Addr.add (aQ h.size) 2) λa=>nP a λb=>lI .i64 H1 (Addr.add b 1) λb=>ifB (b == 0) (da3 H1 (aQ h.size) λc d e=>cf 186 #[.agg #[c,d,e],iQ 1,iQ 1,.slice none 0 0] H1 λc c=>K (.tuple #[]) c) (ifB (b == 1) (lP H1 (Addr.add (aQ h.size) 1) λc=>nP c λc=>bd 0 3 (lI .u64 H1 (Addr.add c 2) λc=>nP a λd=>bd 2 10 (stH H1 (Addr.add d 4) (uQ c) λc=>nP a λd=>bd 2 10 (lI .u64 c (Addr.add d 4) λd=>ifB (d != 0) (nP a λd=>stH c (Addr.add d 1) (iQ 2) λd=>K (.tuple #[]) d) (exI λI22=>(nP a λd=>bd 5 10 (lI .u64 c (Addr.add d 7) λd=>ifB (d == 0) (lP c (Addr.add (aQ h.size) 1) λd=>nP d λd=>cf 211 #[.pointer (some (Addr.add d 8))] c λd e=>asInt .i64 d λd=>I22 [.bool (decide (d > 0)),.bool (decide (d > 0))] e) (I22 [.bool false,.bool false] c)))/\(∀(c d:Value) (e:Env) (e:Wa2),(I22 [c,d] e)->(asBool c λc=>ifB c (nP a λc=>bd 5 10 (stH e (Addr.add c 7) (uQ 1) λc=>da3 c (aQ h.size) λd f g=>cf 186 #[.agg #[d,f,g],iQ 0,iQ 6,.slice none 0 0] c λc c=>K (.tuple #[]) c)) (da3 e (aQ h.size) λc d f=>cf 185 #[.agg #[c,d,f],uQ 1] e λc c=>K (.tuple #[]) c)))))))) (ifB (b == 2) (nP a λb=>bd 0 10 (ldH H1 (Addr.add b 2) λc=>asInt .u64 c λd=>lP H1 (aQ h.size) λe=>nP a λf=>cf 188 #[.pointer e,iQ 3,uQ 1] H1 λe g=>asInt .u64 e λe=>((Wa1 g (Addr.add b 2))=(some c))/\(cf 249 #[.int .u32 (IntKind.wrap .u32 d),.int .u32 (IntKind.wrap .u32 e)] g λb c=>asInt .u64 b λb=>bd 4 10 (stH c (Addr.add f 6) (uQ b) λb=>lP b (aQ h.size) λc=>ldH b (aQ h.size) λd=>Wb2 d λe=>nP a λf=>cf 214 #[.pointer c] b λb c=>Wb2 b λb=>ce c h.size 0 d (cf 79 #[.pointer e] c λc d=>asAgg c λc=>We2 c 15 (Wm8 c λc e g i j k l m n o p q r s t=>cf 139 #[.agg #[c,e,g,i,j,k,l,m,n,o,p,q,r,s,t]] d λc d=>asAgg c λc=>We2 c 7 (de7 c λc c c c e e e=>asInt .i64 c λc=>cf 250 #[.pointer b,iQ c] d λb c=>asInt .i64 b λb=>bd 3 10 (stH c (Addr.add f 5) (uQ (IntKind.wrap .u64 b)) λb=>nP a λa=>stH b (Addr.add a 1) (iQ 3) λa=>K (.tuple #[]) a)))))))) (K (.tuple #[]) H1))))
def F177 (K:kQ) (h:Wa2) (xa xb xc:Option Addr):Prop:=
 (g177 K h (Array.push h (.cells #[.pointer xa,.pointer xb,.pointer xc] 204)))
theorem call177 {K:kQ} {h:Wa2} {xa xb xc:Option Addr} (H:F177 K h xa xb xc):Wa5 Tryz.prog 177 #[(.agg #[(.pointer xa),(.pointer xb),(.pointer xc)])] h K:=
 cQ Tryz.func177 H
abbrev g178 (K:kQ) (h H1:Wa2):Prop:=
 (lP H1 (Addr.add (aQ h.size) 2) λa=>nP a λb=>bd 2 10 (lI .u64 H1 (Addr.add b 4) λb=>exI λI5=>(nP a λc=>lI .i64 H1 (Addr.add c 1) λc=>ifB (c == 3) (ldH H1 (aQ h.size) λd=>Wb2 d λe=>da3 H1 (aQ h.size) λf g i=>nP a λj=>bd 4 10 (ldH H1 (Addr.add j 6) λk=>asInt .u64 k λl=>cf 270 #[.agg #[f,g,i],uQ b,iQ 0] H1 λf g=>asInt .i64 f λf=>((Wa1 g (Addr.add j 6))=(some k))/\(ce g h.size 0 d (cf 212 #[.pointer e,iQ f,uQ l] g λd d=>I5 [.bool true,.tuple #[],.tuple #[],.tuple #[]] d)))) (ifB (c == 4) (ldH H1 (aQ h.size) λd=>Wb2 d λe=>da3 H1 (aQ h.size) λf g i=>nP a λj=>bd 1 10 (ldH H1 (Addr.add j 3) λk=>asInt .u64 k λl=>cf 270 #[.agg #[f,g,i],uQ b,iQ 1] H1 λf g=>asInt .i64 f λf=>((Wa1 g (Addr.add j 3))=(some k))/\(ce g h.size 0 d (cf 212 #[.pointer e,iQ f,uQ l] g λd d=>I5 [.bool false,.bool true,.tuple #[],.tuple #[]] d)))) (ifB (c == 5) (ldH H1 (aQ h.size) λd=>Wb2 d λe=>da3 H1 (aQ h.size) λf g i=>cf 270 #[.agg #[f,g,i],uQ b,iQ 2] H1 λf g=>asInt .i64 f λf=>ce g h.size 0 d (cf 212 #[.pointer e,iQ f,uQ 1] g λd d=>I5 [.bool false,.bool false,.bool true,.tuple #[]] d)) (ifB (c == 6) (ldH H1 (aQ h.size) λc=>Wb2 c λd=>da3 H1 (aQ h.size) λe f g=>nP a λi=>bd 3 10 (ldH H1 (Addr.add i 5) λj=>asInt .u64 j λk=>cf 270 #[.agg #[e,f,g],uQ b,iQ 3] H1 λb e=>asInt .i64 b λb=>((Wa1 e (Addr.add i 5))=(some j))/\(ce e h.size 0 c (cf 212 #[.pointer d,iQ b,uQ k] e λb b=>I5 [.bool false,.bool false,.bool false,.bool true] b)))) (I5 [.bool false,.bool false,.bool false,.bool false] H1)))))/\(∀(b c d e:Value) (f:Env) (f:Wa2),(I5 [b,c,d,e] f)->(nP a λb=>lI .i64 f (Addr.add b 1) λb=>nP a λa=>stH f (Addr.add a 1) (iQ (IntKind.wrap .i64 (b+1))) λa=>K (.tuple #[]) a))))
def F178 (K:kQ) (h:Wa2) (xa xb xc:Option Addr):Prop:=
 (g178 K h (Array.push h (.cells #[.pointer xa,.pointer xb,.pointer xc] 204)))
theorem call178 {K:kQ} {h:Wa2} {xa xb xc:Option Addr} (H:F178 K h xa xb xc):Wa5 Tryz.prog 178 #[(.agg #[(.pointer xa),(.pointer xb),(.pointer xc)])] h K:=
 cQ Tryz.func178 H
abbrev g179 (K:kQ) (h H1:Wa2):Prop:=
 (lP H1 (Addr.add (aQ h.size) 2) λa=>nP a λb=>bd 2 10 (lI .u64 H1 (Addr.add b 4) λb=>nP a λc=>lI .i64 H1 (Addr.add c 1) λc=>ifB (c == 7) (da3 H1 (aQ h.size) λd e f=>nP a λg=>bd 4 10 (lI .u64 H1 (Addr.add g 6) λg=>((Wa1 (Array.push H1 (.cells #[uQ g] 178)) (aQ h.size))=(some d))/\(((Wa1 (Array.push H1 (.cells #[uQ g] 178)) (Addr.add (aQ h.size) 1))=(some e))/\(((Wa1 (Array.push H1 (.cells #[uQ g] 178)) (Addr.add (aQ h.size) 2))=(some f))/\(cf 186 #[.agg #[d,e,f],iQ 8,iQ 30,.slice (some (aQ H1.size)) 1 1] (Array.push H1 (.cells #[uQ g] 178)) λd d=>K (.tuple #[]) d))))) (ifB (c == 8) (lP H1 (Addr.add (aQ h.size) 1) λd=>nP d λd=>bd 0 3 (lI .u64 H1 (Addr.add d 2) λd=>nP a λe=>bd 7 10 (stH H1 (Addr.add e 9) (uQ d) λd=>ldH d (aQ h.size) λe=>Wb2 e λf=>da3 d (aQ h.size) λg i j=>nP a λk=>cf 182 #[.agg #[g,i,j],uQ b,uQ 0] d λd g=>asInt .i64 d λd=>ce g h.size 0 e (cf 147 #[.pointer f,iQ d] g λd e=>asInt .u64 d λd=>bd 6 10 (stH e (Addr.add k 8) (uQ d) λd=>nP a λe=>stH d (Addr.add e 1) (iQ 9) λd=>K (.tuple #[]) d))))) (ifB (c == 9) (ldH H1 (aQ h.size) λd=>Wb2 d λe=>da3 H1 (aQ h.size) λf g i=>nP a λj=>bd 6 10 (ldH H1 (Addr.add j 8) λk=>asInt .u64 k λl=>ldH H1 (Addr.add (aQ h.size) 1) λm=>Wb2 m λn=>nP n λn=>ldH H1 (Addr.add n 6) λo=>Wb3 o λp q r=>bd 0 (q:Int) (Wd2 (.pointer p) λp=>ldH H1 p λq=>asInt .u64 q λr=>cf 182 #[.agg #[f,g,i],uQ b,uQ 0] H1 λf g=>asInt .i64 f λf=>((Wa1 g p)=(some q))/\(((Wa1 g (Addr.add n 6))=(some o))/\(((Wa1 g (Addr.add (aQ h.size) 1))=(some m))/\(((Wa1 g (Addr.add j 8))=(some k))/\(ce g h.size 0 d (cf 228 #[uQ l,iQ (IntKind.wrap .i64 r),.bool false] g λg i=>asInt .u64 g λg=>ce i h.size 0 d (cf 212 #[.pointer e,iQ f,uQ g] i λd d=>nP a λe=>stH d (Addr.add e 1) (iQ 10) λd=>K (.tuple #[]) d))))))))) (ifB (c == 10) (nP a λc=>bd 5 10 (stH H1 (Addr.add c 7) (uQ 1) λc=>nP a λd=>stH c (Addr.add d 1) (iQ 7) λc=>da3 c (aQ h.size) λd e f=>da3 c (aQ h.size) λg i j=>lP c (Addr.add (aQ h.size) 1) λk=>nP k λk=>lS c (Addr.add k 5) λk l m=>bd 0 (l:Int) (Wd2 (.pointer k) λk=>lI .u64 c k λk=>ldH c (Addr.add (aQ h.size) 1) λl=>Wb2 l λm=>nP m λm=>ldH c (Addr.add m 7) λn=>Wb3 n λo p q=>bd 0 (p:Int) (Wd2 (.pointer o) λo=>ldH c o λp=>asInt .u64 p λq=>cf 182 #[.agg #[g,i,j],uQ k,uQ 0] c λc g=>asInt .i64 c λc=>((Wa1 g o)=(some p))/\(((Wa1 g (Addr.add m 7))=(some n))/\(((Wa1 g (Addr.add (aQ h.size) 1))=(some l))/\(ce g h.size 0 d (((Wa1 g (Addr.add (aQ h.size) 1))=(some e))/\(((Wa1 g (Addr.add (aQ h.size) 2))=(some f))/\(cf 187 #[.agg #[d,e,f],iQ c,uQ q,uQ b,.bool false] g λb c=>asBool b λb=>ifB b (nP a λa=>stH c (Addr.add a 1) (iQ 11) λa=>K (.tuple #[]) a) (K (.tuple #[]) c))))))))))) (K (.tuple #[]) H1))))))
def F179 (K:kQ) (h:Wa2) (xa xb xc:Option Addr):Prop:=
 (g179 K h (Array.push h (.cells #[.pointer xa,.pointer xb,.pointer xc] 204)))
theorem call179 {K:kQ} {h:Wa2} {xa xb xc:Option Addr} (H:F179 K h xa xb xc):Wa5 Tryz.prog 179 #[(.agg #[(.pointer xa),(.pointer xb),(.pointer xc)])] h K:=
 cQ Tryz.func179 H
abbrev g180 (K:kQ) (h H1:Wa2):Prop:=
 (lP H1 (Addr.add (aQ h.size) 2) λa=>nP a λb=>bd 2 10 (lI .u64 H1 (Addr.add b 4) λb=>nP a λc=>bd 5 10 (lI .u64 H1 (Addr.add c 7) λc=>nP a λd=>lI .i64 H1 (Addr.add d 1) λd=>ifB (d == 11) (nP a λe=>bd 3 10 (lI .u64 H1 (Addr.add e 5) λe=>ifB (decide (c >= e)) (nP a λe=>stH H1 (Addr.add e 1) (iQ 17) λe=>K (.tuple #[]) e) (nP a λe=>stH H1 (Addr.add e 1) (iQ 12) λe=>ldH e (aQ h.size) λf=>Wb2 f λg=>da3 e (aQ h.size) λi j k=>cf 182 #[.agg #[i,j,k],uQ b,uQ 0] e λe i=>asInt .i64 e λe=>ce i h.size 0 f (cf 147 #[.pointer g,iQ e] i λe f=>asInt .u64 e λe=>cf 184 #[uQ e] f λe f=>asBool e λe=>ifB e (nP a λe=>stH f (Addr.add e 1) (iQ 17) λe=>K (.tuple #[]) e) (K (.tuple #[]) f))))) (ifB (d == 12) (nP a λe=>stH H1 (Addr.add e 1) (iQ 13) λe=>lP e (Addr.add (aQ h.size) 1) λf=>nP f λf=>lS e (Addr.add f 6) λf g i=>bd c (g:Int) (Wd2 (.pointer f) λf=>lI .u64 e (Addr.add f (c.toNat*1)) λf=>exI λI46=>(ifB (f != 2) (nP a λg=>bd 7 10 (lI .u64 e (Addr.add g 9) λg=>ifB (f == g) (I46 [.bool true,.bool true] e) (ldH e (aQ h.size) λg=>Wb2 g λi=>da3 e (aQ h.size) λj k l=>cf 182 #[.agg #[j,k,l],uQ f,uQ 0] e λf j=>asInt .i64 f λf=>ce j h.size 0 g (cf 147 #[.pointer i,iQ f] j λf g=>asInt .u64 f λf=>cf 184 #[uQ f] g λf g=>asBool f λf=>I46 [.bool f,.bool f] g)))) (I46 [.tuple #[],.bool false] e))/\(∀(e f:Value) (g:Env) (g:Wa2),(I46 [e,f] g)->(asBool f λe=>ifB e (nP a λe=>stH g (Addr.add e 1) (iQ 17) λe=>K (.tuple #[]) e) (K (.tuple #[]) g))))) (ifB (d == 13) (ldH H1 (aQ h.size) λe=>Wb2 e λf=>da3 H1 (aQ h.size) λg i j=>nP a λk=>cf 182 #[.agg #[g,i,j],uQ b,uQ c] H1 λg i=>asInt .i64 g λg=>ce i h.size 0 e (cf 147 #[.pointer f,iQ g] i λe f=>asInt .u64 e λe=>bd 6 10 (stH f (Addr.add k 8) (uQ e) λe=>nP a λf=>stH e (Addr.add f 1) (iQ 14) λe=>K (.tuple #[]) e))) (ifB (d == 14) (ldH H1 (aQ h.size) λd=>Wb2 d λe=>da3 H1 (aQ h.size) λf g i=>nP a λj=>bd 6 10 (ldH H1 (Addr.add j 8) λk=>asInt .u64 k λl=>ldH H1 (Addr.add (aQ h.size) 1) λm=>Wb2 m λn=>nP n λn=>ldH H1 (Addr.add n 6) λo=>Wb3 o λp q r=>bd c (q:Int) (Wd2 (.pointer p) λp=>ldH H1 (Addr.add p (c.toNat*1)) λq=>asInt .u64 q λr=>cf 182 #[.agg #[f,g,i],uQ b,uQ c] H1 λb f=>asInt .i64 b λb=>((Wa1 f (Addr.add p (c.toNat*1)))=(some q))/\(((Wa1 f (Addr.add n 6))=(some o))/\(((Wa1 f (Addr.add (aQ h.size) 1))=(some m))/\(((Wa1 f (Addr.add j 8))=(some k))/\(ce f h.size 0 d (cf 228 #[uQ l,iQ (IntKind.wrap .i64 r),.bool false] f λc f=>asInt .u64 c λc=>ce f h.size 0 d (cf 212 #[.pointer e,iQ b,uQ c] f λb b=>nP a λa=>stH b (Addr.add a 1) (iQ 15) λa=>K (.tuple #[]) a))))))))) (K (.tuple #[]) H1)))))))
def F180 (K:kQ) (h:Wa2) (xa xb xc:Option Addr):Prop:=
 (g180 K h (Array.push h (.cells #[.pointer xa,.pointer xb,.pointer xc] 204)))
theorem call180 {K:kQ} {h:Wa2} {xa xb xc:Option Addr} (H:F180 K h xa xb xc):Wa5 Tryz.prog 180 #[(.agg #[(.pointer xa),(.pointer xb),(.pointer xc)])] h K:=
 cQ Tryz.func180 H
abbrev g181 (K:kQ) (h H1:Wa2):Prop:=
 (lP H1 (Addr.add (aQ h.size) 2) λa=>nP a λb=>lI .i64 H1 (Addr.add b 1) λb=>ifB (b == 15) (nP a λc=>bd 5 10 (lI .u64 H1 (Addr.add c 7) λc=>da3 H1 (aQ h.size) λd e f=>da3 H1 (aQ h.size) λg i j=>lP H1 (Addr.add (aQ h.size) 1) λk=>nP k λk=>lS H1 (Addr.add k 5) λk l m=>bd c (l:Int) (Wd2 (.pointer k) λk=>lI .u64 H1 (Addr.add k (c.toNat*1)) λk=>ldH H1 (Addr.add (aQ h.size) 1) λl=>Wb2 l λm=>nP m λm=>ldH H1 (Addr.add m 7) λn=>Wb3 n λo p q=>bd c (p:Int) (Wd2 (.pointer o) λo=>ldH H1 (Addr.add o (c.toNat*1)) λp=>asInt .u64 p λq=>nP a λr=>bd 2 10 (ldH H1 (Addr.add r 4) λs=>asInt .u64 s λt=>cf 182 #[.agg #[g,i,j],uQ k,uQ c] H1 λg i=>asInt .i64 g λg=>((Wa1 i (Addr.add r 4))=(some s))/\(((Wa1 i (Addr.add o (c.toNat*1)))=(some p))/\(((Wa1 i (Addr.add m 7))=(some n))/\(((Wa1 i (Addr.add (aQ h.size) 1))=(some l))/\(ce i h.size 0 d (((Wa1 i (Addr.add (aQ h.size) 1))=(some e))/\(((Wa1 i (Addr.add (aQ h.size) 2))=(some f))/\(cf 187 #[.agg #[d,e,f],iQ g,uQ q,uQ t,.bool false] i λc d=>asBool c λc=>ifB c (nP a λc=>bd 5 10 (lI .u64 d (Addr.add c 7) λc=>nP a λe=>bd 5 10 (stH d (Addr.add e 7) (uQ (IntKind.wrap .u64 (c+1))) λc=>nP a λe=>stH c (Addr.add e 1) (iQ 11) λc=>K (.tuple #[]) c))) (da3 d (aQ h.size) λc e f=>nP a λg=>bd 4 10 (lI .u64 d (Addr.add g 6) λg=>((Wa1 (Array.push d (.cells #[uQ g] 178)) (aQ h.size))=(some c))/\(((Wa1 (Array.push d (.cells #[uQ g] 178)) (Addr.add (aQ h.size) 1))=(some e))/\(((Wa1 (Array.push d (.cells #[uQ g] 178)) (Addr.add (aQ h.size) 2))=(some f))/\(cf 186 #[.agg #[c,e,f],iQ 16,iQ 30,.slice (some (aQ d.size)) 1 1] (Array.push d (.cells #[uQ g] 178)) λc c=>K (.tuple #[]) c))))))))))))))))) (ifB (b == 16) (lP H1 (Addr.add (aQ h.size) 1) λc=>nP c λc=>bd 0 3 (lI .u64 H1 (Addr.add c 2) λc=>nP a λd=>bd 7 10 (stH H1 (Addr.add d 9) (uQ c) λc=>nP a λd=>stH c (Addr.add d 1) (iQ 11) λc=>lP c (Addr.add (aQ h.size) 1) λd=>nP d λd=>lS c (Addr.add d 6) λd e f=>bd 0 (e:Int) (Wd2 (.pointer d) λd=>lI .u64 c d λd=>nP a λe=>bd 2 10 (lI .u64 c (Addr.add e 4) λe=>ifB (d != e) (nP a λd=>stH c (Addr.add d 1) (iQ 17) λd=>K (.tuple #[]) d) (K (.tuple #[]) c)))))) (ifB (b == 17) (ldH H1 (aQ h.size) λb=>Wb2 b λc=>da3 H1 (aQ h.size) λd e f=>nP a λg=>bd 2 10 (lI .u64 H1 (Addr.add g 4) λg=>cf 270 #[.agg #[d,e,f],uQ g,iQ 2] H1 λd e=>asInt .i64 d λd=>ce e h.size 0 b (cf 212 #[.pointer c,iQ d,uQ 0] e λb b=>nP a λa=>stH b (Addr.add a 1) (iQ 18) λa=>K (.tuple #[]) a))) (da3 H1 (aQ h.size) λa b c=>cf 185 #[.agg #[a,b,c],uQ 0] H1 λa a=>K (.tuple #[]) a))))
def F181 (K:kQ) (h:Wa2) (xa xb xc:Option Addr):Prop:=
 (g181 K h (Array.push h (.cells #[.pointer xa,.pointer xb,.pointer xc] 204)))
theorem call181 {K:kQ} {h:Wa2} {xa xb xc:Option Addr} (H:F181 K h xa xb xc):Wa5 Tryz.prog 181 #[(.agg #[(.pointer xa),(.pointer xb),(.pointer xc)])] h K:=
 cQ Tryz.func181 H
abbrev g182 (K:kQ) (h H1:Wa2) (xa xb:Int):Prop:=
 (dl3 H1 h.size λa b c=>cf 270 #[.agg #[a,b,c],uQ xa,iQ (IntKind.wrap .i64 (5+(IntKind.wrap .i64 xb)))] H1 λa b=>asInt .i64 a λa=>K (iQ a) b)
def F182 (K:kQ) (h:Wa2) (xa xb xc:Option Addr) (xd xe:Int):Prop:=
 (g182 K h (Array.push h (.cells #[.pointer xa,.pointer xb,.pointer xc] 202)) xd xe)
theorem call182 {K:kQ} {h:Wa2} {xa xb xc:Option Addr} {xd xe:Int} (H:F182 K h xa xb xc xd xe):Wa5 Tryz.prog 182 #[(.agg #[(.pointer xa),(.pointer xb),(.pointer xc)]),(uQ xd),(uQ xe)] h K:=
 cQ Tryz.func182 H
def F183 (K:kQ) (h:Wa2) (xa:Int):Prop:=
 (cf 146 #[uQ xa] h λa b=>asInt .i64 a λa=>K (uQ (IntKind.wrap .u64 a)) b)
theorem call183 {K:kQ} {h:Wa2} {xa:Int} (H:F183 K h xa):Wa5 Tryz.prog 183 #[(uQ xa)] h K:=
 cQ Tryz.func183 H
def F184 (K:kQ) (h:Wa2) (xa:Int):Prop:=
 (cf 226 #[uQ xa] h λa b=>asBool a λa=>K (.bool a) b)
theorem call184 {K:kQ} {h:Wa2} {xa:Int} (H:F184 K h xa):Wa5 Tryz.prog 184 #[(uQ xa)] h K:=
 cQ Tryz.func184 H
abbrev g185 (K:kQ) (h H1:Wa2) (xa:Int):Prop:=
 (dl3 H1 h.size λa b c=>cf 271 #[.agg #[a,b,c],uQ xa,uQ 0,uQ 0] H1 λa a=>K (.tuple #[]) a)
def F185 (K:kQ) (h:Wa2) (xa xb xc:Option Addr) (xd:Int):Prop:=
 (g185 K h (Array.push h (.cells #[.pointer xa,.pointer xb,.pointer xc] 202)) xd)
theorem call185 {K:kQ} {h:Wa2} {xa xb xc:Option Addr} {xd:Int} (H:F185 K h xa xb xc xd):Wa5 Tryz.prog 185 #[(.agg #[(.pointer xa),(.pointer xb),(.pointer xc)]),(uQ xd)] h K:=
 cQ Tryz.func185 H
abbrev g186 (K:kQ) (h H1:Wa2) (xa xb:Int) (xc:Option Addr) (xd xe:Nat):Prop:=
 (lP H1 ⟨h.size,2,none⟩ λa=>nP a λa=>stH H1 (Addr.add a 1) (iQ xa) λa=>lP a ⟨h.size,1,none⟩ λb=>cf 130 #[.pointer b,iQ xb,.slice xc xd xe] a λa a=>K (.tuple #[]) a)
def F186 (K:kQ) (h:Wa2) (xa xb xc:Option Addr) (xd xe:Int) (xf:Option Addr) (xg xh:Nat):Prop:=
 (g186 K h (Array.push h (.cells #[.pointer xa,.pointer xb,.pointer xc] 202)) xd xe xf xg xh)
theorem call186 {K:kQ} {h:Wa2} {xa xb xc:Option Addr} {xd xe:Int} {xf:Option Addr} {xg xh:Nat} (H:F186 K h xa xb xc xd xe xf xg xh):Wa5 Tryz.prog 186 #[(.agg #[(.pointer xa),(.pointer xb),(.pointer xc)]),(iQ xd),(iQ xe),(.slice xf xg xh)] h K:=
 cQ Tryz.func186 H
abbrev g187 (K:kQ) (h H1:Wa2) (xa xb xc:Int) (xd:Bool):Prop:=
 (ldH H1 (aQ h.size) λa=>Wb2 a λb=>cf 228 #[uQ xb,iQ (IntKind.wrap .i64 xc),.bool xd] H1 λc d=>asInt .u64 c λc=>ce d h.size 0 a (cf 219 #[.pointer b,iQ xa,uQ xb,uQ c] d λa b=>asBool a λa=>K (.bool a) b))
def F187 (K:kQ) (h:Wa2) (xa xb xc:Option Addr) (xd xe xf:Int) (xg:Bool):Prop:=
 (g187 K h (Array.push h (.cells #[.pointer xa,.pointer xb,.pointer xc] 202)) xd xe xf xg)
theorem call187 {K:kQ} {h:Wa2} {xa xb xc:Option Addr} {xd xe xf:Int} {xg:Bool} (H:F187 K h xa xb xc xd xe xf xg):Wa5 Tryz.prog 187 #[(.agg #[(.pointer xa),(.pointer xb),(.pointer xc)]),(iQ xd),(uQ xe),(uQ xf),(.bool xg)] h K:=
 cQ Tryz.func187 H
abbrev g189 (K:kQ) (h H1:Wa2):Prop:=
 (lP H1 (Addr.add (aQ h.size) 2) λa=>nP a λb=>bd 2 10 (lI .u64 H1 (Addr.add b 4) λb=>nP a λa=>bd 2 10 (stH H1 (Addr.add a 4) (uQ (IntKind.wrap .u64 (b - 1))) λa=>lP a (Addr.add (aQ h.size) 2) λb=>nP b λb=>stH a (Addr.add b 1) (iQ 1) λa=>K (.tuple #[]) a)))
def F189 (K:kQ) (h:Wa2) (xa xb xc:Option Addr):Prop:=
 (g189 K h (Array.push h (.cells #[.pointer xa,.pointer xb,.pointer xc] 207)))
theorem call189 {K:kQ} {h:Wa2} {xa xb xc:Option Addr} (H:F189 K h xa xb xc):Wa5 Tryz.prog 189 #[(.agg #[(.pointer xa),(.pointer xb),(.pointer xc)])] h K:=
 cQ Tryz.func189 H
abbrev g190 (K:kQ) (h H1:Wa2) (xa xb:Int):Prop:=
 (lP H1 (aQ h.size) λa=>cf 79 #[.pointer a] H1 λa b=>asAgg a λa=>We2 a 15 (Wm8 a λa c d e f g i j k l m n o p q=>stH (Array.push b (.cells Ws5 117)) (aQ b.size) a λa=>stH a ⟨b.size,1,none⟩ c λa=>stH a ⟨b.size,2,none⟩ d λa=>stH a ⟨b.size,3,none⟩ e λa=>stH a ⟨b.size,4,none⟩ f λa=>stH a ⟨b.size,5,none⟩ g λa=>stH a ⟨b.size,6,none⟩ i λa=>stH a ⟨b.size,7,none⟩ j λa=>stH a ⟨b.size,8,none⟩ k λa=>stH a ⟨b.size,9,none⟩ l λa=>stH a ⟨b.size,10,none⟩ m λa=>stH a ⟨b.size,11,none⟩ n λa=>stH a ⟨b.size,12,none⟩ o λa=>stH a ⟨b.size,13,none⟩ p λa=>stH a ⟨b.size,14,none⟩ q λa=>ldH a (aQ h.size) λc=>Wb2 c λd=>WG2 a b.size λe f g i j k l m n o p q r s t=>ldH a ⟨h.size,1,none⟩ λu=>Wb2 u λv=>nP v λv=>ldH a v λw=>asInt .i64 w λx=>WG2 a b.size λy z A B C D E F G H I J L M N=>cf 233 #[.agg #[y,z,A,B,C,D,E,F,G,H,I,J,L,M,N]] a λa y=>asInt .i64 a λa=>((Wa1 y v)=(some w))/\(ce y h.size 1 u (ZE1 y b.size e f g i j k l m n o p q r s t (ce y h.size 0 c (cf 232 #[.agg #[e,f,g,i,j,k,l,m,n,o,p,q,r,s,t],iQ x,iQ (IntKind.wrap .i64 ((IntKind.wrap .i64 (a - 1)) - (IntKind.wrap .i64 (IntKind.wrap .u64 ((((BitVec.ofInt 64 xa) &&& (BitVec.ofInt 64 1)).toNat:Nat):Int)))))] y λa b=>asInt .i64 a λa=>ce b h.size 0 c (cf 212 #[.pointer d,iQ a,uQ xb] b λa a=>K (.tuple #[]) a)))))))
def F190 (K:kQ) (h:Wa2) (xa xb xc:Option Addr) (xd xe:Int):Prop:=
 (g190 K h (Array.push h (.cells #[.pointer xa,.pointer xb,.pointer xc] 202)) xd xe)
theorem call190 {K:kQ} {h:Wa2} {xa xb xc:Option Addr} {xd xe:Int} (H:F190 K h xa xb xc xd xe):Wa5 Tryz.prog 190 #[(.agg #[(.pointer xa),(.pointer xb),(.pointer xc)]),(uQ xd),(uQ xe)] h K:=
 cQ Tryz.func190 H
abbrev g191 (K:kQ) (h H1:Wa2):Prop:=
 (lP H1 (Addr.add (aQ h.size) 2) λa=>nP a λb=>lI .i64 H1 (Addr.add b 1) λb=>ifB (b == 4) (exI λI5=>(nP a λc=>bd 4 10 (lI .u64 H1 (Addr.add c 6) λc=>nP a λd=>bd 0 10 (lI .u64 H1 (Addr.add d 2) λd=>ifB (c == d) (I5 [.bool true,.bool true] H1) (ldH H1 (aQ h.size) λc=>Wb2 c λd=>da3 H1 (aQ h.size) λe f g=>nP a λi=>bd 4 10 (lI .u64 H1 (Addr.add i 6) λi=>cf 182 #[.agg #[e,f,g],uQ i,uQ 0] H1 λe f=>asInt .i64 e λe=>ce f h.size 0 c (cf 147 #[.pointer d,iQ e] f λc d=>asInt .u64 c λc=>cf 184 #[uQ c] d λc d=>asBool c λc=>I5 [.bool c,.bool c] d))))))/\(∀(c d:Value) (e:Env) (e:Wa2),(I5 [c,d] e)->(asBool c λc=>ifB c (nP a λc=>stH e (Addr.add c 1) (iQ 5) λc=>K (.tuple #[]) c) (nP a λc=>bd 4 10 (ldH e (Addr.add c 6) λd=>asInt .u64 d λf=>nP a λg=>bd 3 10 (lI .u64 e (Addr.add g 5) λg=>cf 183 #[uQ g] e λe g=>asInt .u64 e λe=>((Wa1 g (Addr.add c 6))=(some d))/\(ifB (f == e) (dl3 g h.size λc d e=>cf 189 #[.agg #[c,d,e]] g λc c=>K (.tuple #[]) c) (nP a λc=>stH g (Addr.add c 1) (iQ 6) λc=>K (.tuple #[]) c)))))))) (ifB (b == 5) (ldH H1 (aQ h.size) λb=>Wb2 b λc=>da3 H1 (aQ h.size) λd e f=>nP a λg=>bd 4 10 (lI .u64 H1 (Addr.add g 6) λg=>nP a λi=>bd 2 10 (lI .u64 H1 (Addr.add i 4) λi=>nP a λj=>cf 182 #[.agg #[d,e,f],uQ g,uQ i] H1 λd e=>asInt .i64 d λd=>ce e h.size 0 b (cf 147 #[.pointer c,iQ d] e λb c=>asInt .u64 b λb=>cf 183 #[uQ b] c λb c=>asInt .u64 b λb=>bd 4 10 (stH c (Addr.add j 6) (uQ b) λb=>nP a λc=>stH b (Addr.add c 1) (iQ 2) λb=>nP a λc=>bd 4 10 (lI .u64 b (Addr.add c 6) λc=>ifB (c == 2) (nP a λc=>stH b (Addr.add c 1) (iQ 6) λc=>K (.tuple #[]) c) (K (.tuple #[]) b))))))) (da3 H1 (aQ h.size) λb c d=>da3 H1 (aQ h.size) λe f g=>nP a λi=>bd 2 10 (lI .u64 H1 (Addr.add i 4) λi=>nP a λj=>bd 3 10 (ldH H1 (Addr.add j 5) λk=>asInt .u64 k λl=>nP a λm=>bd 4 10 (ldH H1 (Addr.add m 6) λn=>asInt .u64 n λo=>cf 182 #[.agg #[e,f,g],uQ 1,uQ i] H1 λe f=>asInt .i64 e λe=>((Wa1 f (Addr.add m 6))=(some n))/\(((Wa1 f (Addr.add j 5))=(some k))/\(ce f h.size 0 b (((Wa1 f (Addr.add (aQ h.size) 1))=(some c))/\(((Wa1 f (Addr.add (aQ h.size) 2))=(some d))/\(cf 187 #[.agg #[b,c,d],iQ e,uQ l,uQ o,.bool false] f λb c=>asBool b λb=>ifB b (dl3 c h.size λb d e=>cf 189 #[.agg #[b,d,e]] c λb b=>K (.tuple #[]) b) (nP a λa=>stH c (Addr.add a 1) (iQ 1) λa=>K (.tuple #[]) a))))))))))))
def F191 (K:kQ) (h:Wa2) (xa xb xc:Option Addr):Prop:=
 (g191 K h (Array.push h (.cells #[.pointer xa,.pointer xb,.pointer xc] 207)))
theorem call191 {K:kQ} {h:Wa2} {xa xb xc:Option Addr} (H:F191 K h xa xb xc):Wa5 Tryz.prog 191 #[(.agg #[(.pointer xa),(.pointer xb),(.pointer xc)])] h K:=
 cQ Tryz.func191 H
abbrev g192 (K:kQ) (h H1:Wa2):Prop:=
 (lP H1 (Addr.add (aQ h.size) 2) λa=>nP a λb=>lI .i64 H1 (Addr.add b 1) λb=>ifB (b == 0) (lP H1 (aQ h.size) λc=>nP a λd=>cf 147 #[.pointer c,iQ 1] H1 λc e=>asInt .u64 c λc=>bd 0 10 (stH e (Addr.add d 2) (uQ c) λc=>nP a λd=>bd 2 10 (nP a λe=>nP a λf=>stH c (Addr.add d 4) (uQ 1) λc=>bd 3 10 (stH c (Addr.add e 5) (uQ 0) λc=>bd 4 10 (stH c (Addr.add f 6) (uQ 0) λc=>nP a λd=>stH c (Addr.add d 1) (iQ 1) λc=>K (.tuple #[]) c))))) (ifB (b == 1) (ldH H1 (aQ h.size) λc=>Wb2 c λd=>da3 H1 (aQ h.size) λe f g=>nP a λi=>cf 182 #[.agg #[e,f,g],uQ 1,uQ 0] H1 λe f=>asInt .i64 e λe=>ce f h.size 0 c (cf 147 #[.pointer d,iQ e] f λc d=>asInt .u64 c λc=>bd 1 10 (stH d (Addr.add i 3) (uQ c) λc=>nP a λd=>bd 1 10 (lI .u64 c (Addr.add d 3) λd=>nP a λe=>bd 5 10 (stH c (Addr.add e 7) (uQ d) λc=>nP a λd=>stH c (Addr.add d 1) (iQ 2) λc=>K (.tuple #[]) c))))) (ifB (b == 2) (nP a λc=>stH H1 (Addr.add c 1) (iQ 3) λc=>dl3 c h.size λd e f=>cf 273 #[.agg #[d,e,f]] c λc d=>asInt .u64 c λc=>ifB (c == 2) (da3 d (aQ h.size) λc e f=>cf 185 #[.agg #[c,e,f],uQ 3] d λc c=>K (.tuple #[]) c) (K (.tuple #[]) d)) (ifB (b == 3) (da3 H1 (aQ h.size) λc d e=>nP a λf=>bd 3 10 (ldH H1 (Addr.add f 5) λg=>asInt .u64 g λi=>dl3 H1 h.size λj k l=>cf 273 #[.agg #[j,k,l]] H1 λj k=>asInt .u64 j λj=>((Wa1 k (Addr.add f 5))=(some g))/\(ce k h.size 0 c (((Wa1 k (Addr.add (aQ h.size) 1))=(some d))/\(((Wa1 k (Addr.add (aQ h.size) 2))=(some e))/\(cf 190 #[.agg #[c,d,e],uQ i,uQ j] k λc c=>nP a λd=>bd 3 10 (lI .u64 c (Addr.add d 5) λd=>nP a λe=>bd 3 10 (stH c (Addr.add e 5) (uQ (IntKind.wrap .u64 (d+1))) λc=>nP a λd=>stH c (Addr.add d 1) (iQ 4) λc=>K (.tuple #[]) c)))))))) (ifB (b == 4) (nP a λb=>stH H1 (Addr.add b 1) (iQ 5) λb=>lP b (aQ h.size) λc=>nP a λd=>bd 0 10 (ldH b (Addr.add d 2) λe=>asInt .u64 e λf=>cf 147 #[.pointer c,iQ 1] b λb c=>asInt .u64 b λb=>((Wa1 c (Addr.add d 2))=(some e))/\(ifB (b != f) (nP a λa=>stH c (Addr.add a 1) (iQ 0) λa=>K (.tuple #[]) a) (K (.tuple #[]) c)))) (K (.tuple #[]) H1))))))
def F192 (K:kQ) (h:Wa2) (xa xb xc:Option Addr):Prop:=
 (g192 K h (Array.push h (.cells #[.pointer xa,.pointer xb,.pointer xc] 208)))
theorem call192 {K:kQ} {h:Wa2} {xa xb xc:Option Addr} (H:F192 K h xa xb xc):Wa5 Tryz.prog 192 #[(.agg #[(.pointer xa),(.pointer xb),(.pointer xc)])] h K:=
 cQ Tryz.func192 H
abbrev g193 (K:kQ) (h H1:Wa2):Prop:=
 (lP H1 (Addr.add (aQ h.size) 2) λa=>nP a λb=>lI .i64 H1 (Addr.add b 1) λb=>ifB (b == 5) (nP a λc=>stH H1 (Addr.add c 1) (iQ 6) λc=>exI λI7=>(nP a λd=>bd 2 10 (lI .u64 c (Addr.add d 4) λd=>ifB (d != 1) (nP a λd=>bd 4 10 (lI .u64 c (Addr.add d 6) λd=>ifB (d == 0) (ldH c (aQ h.size) λe=>Wb2 e λf=>da3 c (aQ h.size) λg i j=>nP a λk=>bd 2 10 (lI .u64 c (Addr.add k 4) λk=>cf 270 #[.agg #[g,i,j],uQ k,iQ 2] c λg i=>asInt .i64 g λg=>ce i h.size 0 e (cf 147 #[.pointer f,iQ g] i λe f=>asInt .u64 e λe=>I7 [.bool (d == 0),.bool (e == 1)] f))) (I7 [.bool (d == 0),.bool false] c))) (I7 [.bool false,.bool false] c)))/\(∀(c d:Value) (e:Env) (e:Wa2),(I7 [c,d] e)->(asBool d λc=>ifB c (nP a λc=>bd 2 10 (lI .u64 e (Addr.add c 4) λc=>nP a λd=>bd 4 10 (stH e (Addr.add d 6) (uQ c) λc=>K (.tuple #[]) c))) (K (.tuple #[]) e)))) (ifB (b == 6) (nP a λc=>stH H1 (Addr.add c 1) (iQ 8) λc=>nP a λd=>bd 5 10 (lI .u64 c (Addr.add d 7) λd=>cf 184 #[uQ d] c λc d=>asBool c λc=>ifB c (dl3 d h.size λc e f=>nP a λg=>cf 273 #[.agg #[c,e,f]] d λc e=>asInt .u64 c λc=>bd 2 10 (stH e (Addr.add g 4) (uQ c) λc=>nP a λe=>stH c (Addr.add e 1) (iQ 7) λc=>K (.tuple #[]) c)) (nP a λc=>lI .i64 d c λc=>ifB (c == 33) (nP a λc=>stH d (Addr.add c 1) (iQ 9) λc=>K (.tuple #[]) c) (K (.tuple #[]) d)))) (ifB (b == 7) (ldH H1 (aQ h.size) λc=>Wb2 c λd=>da3 H1 (aQ h.size) λe f g=>nP a λi=>bd 2 10 (lI .u64 H1 (Addr.add i 4) λi=>nP a λj=>cf 182 #[.agg #[e,f,g],uQ i,uQ 0] H1 λe f=>asInt .i64 e λe=>ce f h.size 0 c (cf 147 #[.pointer d,iQ e] f λc d=>asInt .u64 c λc=>bd 5 10 (stH d (Addr.add j 7) (uQ c) λc=>nP a λd=>stH c (Addr.add d 1) (iQ 2) λc=>K (.tuple #[]) c)))) (ifB (b == 8) (nP a λb=>stH H1 (Addr.add b 1) (iQ 9) λb=>da3 b (aQ h.size) λc d e=>da3 b (aQ h.size) λf g i=>nP a λj=>bd 2 10 (lI .u64 b (Addr.add j 4) λj=>nP a λk=>bd 5 10 (ldH b (Addr.add k 7) λl=>asInt .u64 l λm=>dl3 b h.size λn o p=>cf 182 #[.agg #[f,g,i],uQ j,uQ 0] b λb f=>asInt .i64 b λb=>ce f h.size 0 n (ce f h.size 1 o (ce f h.size 2 p (((Wa1 f (Addr.add k 7))=(some l))/\(ce f h.size 0 c (((Wa1 f (Addr.add (aQ h.size) 1))=(some d))/\(((Wa1 f (Addr.add (aQ h.size) 2))=(some e))/\(cf 273 #[.agg #[n,o,p]] f λf g=>asInt .u64 f λf=>((Wa1 g (Addr.add k 7))=(some l))/\(ce g h.size 0 c (((Wa1 g (Addr.add (aQ h.size) 1))=(some d))/\(((Wa1 g (Addr.add (aQ h.size) 2))=(some e))/\(cf 187 #[.agg #[c,d,e],iQ b,uQ m,uQ f,.bool true] g λb c=>asBool b λb=>ifB (!b) (nP a λb=>bd 3 10 (lI .u64 c (Addr.add b 5) λb=>nP a λd=>bd 3 10 (stH c (Addr.add d 5) (uQ (IntKind.wrap .u64 (b - 1))) λb=>nP a λa=>stH b (Addr.add a 1) (iQ 7) λa=>K (.tuple #[]) a))) (K (.tuple #[]) c))))))))))))))) (K (.tuple #[]) H1)))))
def F193 (K:kQ) (h:Wa2) (xa xb xc:Option Addr):Prop:=
 (g193 K h (Array.push h (.cells #[.pointer xa,.pointer xb,.pointer xc] 208)))
theorem call193 {K:kQ} {h:Wa2} {xa xb xc:Option Addr} (H:F193 K h xa xb xc):Wa5 Tryz.prog 193 #[(.agg #[(.pointer xa),(.pointer xb),(.pointer xc)])] h K:=
 cQ Tryz.func193 H
abbrev g194 (K:kQ) (h H1:Wa2):Prop:=
 (lP H1 (Addr.add (aQ h.size) 2) λa=>nP a λb=>lI .i64 H1 (Addr.add b 1) λb=>ifB (b == 9) (ldH H1 (aQ h.size) λc=>Wb2 c λd=>da3 H1 (aQ h.size) λe f g=>dl3 H1 h.size λi j k=>nP a λl=>cf 273 #[.agg #[i,j,k]] H1 λi j=>asInt .u64 i λi=>ce j h.size 0 e (((Wa1 j (Addr.add (aQ h.size) 1))=(some f))/\(((Wa1 j (Addr.add (aQ h.size) 2))=(some g))/\(ce j h.size 0 c (cf 270 #[.agg #[e,f,g],uQ i,iQ 1] j λe f=>asInt .i64 e λe=>ce f h.size 0 c (cf 147 #[.pointer d,iQ e] f λc d=>asInt .u64 c λc=>bd 6 10 (stH d (Addr.add l 8) (uQ c) λc=>nP a λd=>stH c (Addr.add d 1) (iQ 10) λc=>K (.tuple #[]) c))))))) (ifB (b == 10) (ldH H1 (aQ h.size) λb=>Wb2 b λc=>da3 H1 (aQ h.size) λd e f=>dl3 H1 h.size λg i j=>nP a λk=>cf 273 #[.agg #[g,i,j]] H1 λg i=>asInt .u64 g λg=>ce i h.size 0 d (((Wa1 i (Addr.add (aQ h.size) 1))=(some e))/\(((Wa1 i (Addr.add (aQ h.size) 2))=(some f))/\(ce i h.size 0 b (cf 270 #[.agg #[d,e,f],uQ g,iQ 0] i λd e=>asInt .i64 d λd=>ce e h.size 0 b (cf 147 #[.pointer c,iQ d] e λb c=>asInt .u64 b λb=>cf 274 #[uQ b] c λb c=>asInt .u32 b λb=>bd 8 10 (stH c (Addr.add k 10) (uQ (IntKind.wrap .u64 b)) λb=>nP a λc=>stH b (Addr.add c 1) (iQ 11) λb=>exI λI50=>(exI λI51=>(nP a λc=>lI .i64 b c λc=>ifB (c == 33) (I51 [.bool true] b) (nP a λc=>bd 3 10 (ldH b (Addr.add c 5) λd=>asInt .u64 d λe=>lP b (aQ h.size) λf=>cf 79 #[.pointer f] b λb f=>asAgg b λb=>We2 b 15 (Wm8 b λb g i j k l m n o p q r s t u=>((Wa1 f (Addr.add c 5))=(some d))/\(cf 139 #[.agg #[b,g,i,j,k,l,m,n,o,p,q,r,s,t,u]] f λb f=>asAgg b λb=>We2 b 7 (de7 b λb b b b b g g=>((Wa1 f (Addr.add c 5))=(some d))/\(asInt .i64 b λb=>I51 [.bool (decide (e < (IntKind.wrap .u64 b)))] f)))))))/\(∀(b:Value) (c:Env) (c:Wa2),(I51 [b] c)->(asBool b λb=>ifB b (nP a λb=>stH c (Addr.add b 1) (iQ 14) λb=>I50 [] b) (I50 [] c))))/\(∀(b:Env) (b:Wa2),(I50 [] b)->(nP a λc=>bd 4 10 (lI .u64 b (Addr.add c 6) λc=>ifB (c == 0) (dl3 b h.size λc d e=>nP a λa=>cf 273 #[.agg #[c,d,e]] b λc d=>asInt .u64 c λc=>bd 4 10 (stH d (Addr.add a 6) (uQ c) λa=>K (.tuple #[]) a)) (K (.tuple #[]) b))))))))))) (K (.tuple #[]) H1)))
def F194 (K:kQ) (h:Wa2) (xa xb xc:Option Addr):Prop:=
 (g194 K h (Array.push h (.cells #[.pointer xa,.pointer xb,.pointer xc] 208)))
theorem call194 {K:kQ} {h:Wa2} {xa xb xc:Option Addr} (H:F194 K h xa xb xc):Wa5 Tryz.prog 194 #[(.agg #[(.pointer xa),(.pointer xb),(.pointer xc)])] h K:=
 cQ Tryz.func194 H
abbrev g195 (K:kQ) (h H1:Wa2):Prop:=
 (lP H1 (Addr.add (aQ h.size) 2) λa=>nP a λb=>lI .i64 H1 (Addr.add b 1) λb=>ifB (b == 11) (nP a λc=>stH H1 (Addr.add c 1) (iQ 14) λc=>da3 c (aQ h.size) λd e f=>da3 c (aQ h.size) λg i j=>nP a λk=>bd 1 10 (ldH c (Addr.add k 3) λl=>asInt .u64 l λm=>nP a λn=>bd 4 10 (ldH c (Addr.add n 6) λo=>asInt .u64 o λp=>cf 182 #[.agg #[g,i,j],uQ 1,uQ 0] c λc g=>asInt .i64 c λc=>((Wa1 g (Addr.add n 6))=(some o))/\(((Wa1 g (Addr.add k 3))=(some l))/\(ce g h.size 0 d (((Wa1 g (Addr.add (aQ h.size) 1))=(some e))/\(((Wa1 g (Addr.add (aQ h.size) 2))=(some f))/\(cf 187 #[.agg #[d,e,f],iQ c,uQ m,uQ p,.bool true] g λc d=>asBool c λc=>ifB c (nP a λc=>stH d (Addr.add c 1) (iQ 12) λc=>K (.tuple #[]) c) (K (.tuple #[]) d))))))))) (ifB (b == 12) (da3 H1 (aQ h.size) λc d e=>cf 186 #[.agg #[c,d,e],iQ 13,iQ 36,.slice (some (aQ H1.size)) 1 1] (Array.push H1 (.cells #[uQ 0] 178)) λc c=>K (.tuple #[]) c) (ifB (b == 13) (da3 H1 (aQ h.size) λb c d=>nP a λe=>bd 1 10 (lI .u64 H1 (Addr.add e 3) λe=>nP a λf=>bd 4 10 (ldH H1 (Addr.add f 6) λg=>asInt .u64 g λi=>cf 183 #[uQ e] H1 λe j=>asInt .u64 e λe=>((Wa1 j (Addr.add f 6))=(some g))/\(ce j h.size 0 b (((Wa1 j (Addr.add (aQ h.size) 1))=(some c))/\(((Wa1 j (Addr.add (aQ h.size) 2))=(some d))/\(((Wa1 (Array.push j (.cells #[uQ e,uQ i] 178)) (aQ h.size))=(some b))/\(((Wa1 (Array.push j (.cells #[uQ e,uQ i] 178)) (Addr.add (aQ h.size) 1))=(some c))/\(((Wa1 (Array.push j (.cells #[uQ e,uQ i] 178)) (Addr.add (aQ h.size) 2))=(some d))/\(cf 186 #[.agg #[b,c,d],iQ 14,iQ 35,.slice (some (aQ j.size)) 2 2] (Array.push j (.cells #[uQ e,uQ i] 178)) λb b=>K (.tuple #[]) b)))))))))) (da3 H1 (aQ h.size) λb c d=>nP a λe=>bd 8 10 (lI .u64 H1 (Addr.add e 10) λe=>nP a λa=>bd 6 10 (lI .u64 H1 (Addr.add a 8) λa=>cf 271 #[.agg #[b,c,d],uQ 2,uQ e,uQ a] H1 λa a=>K (.tuple #[]) a))))))
def F195 (K:kQ) (h:Wa2) (xa xb xc:Option Addr):Prop:=
 (g195 K h (Array.push h (.cells #[.pointer xa,.pointer xb,.pointer xc] 208)))
theorem call195 {K:kQ} {h:Wa2} {xa xb xc:Option Addr} (H:F195 K h xa xb xc):Wa5 Tryz.prog 195 #[(.agg #[(.pointer xa),(.pointer xb),(.pointer xc)])] h K:=
 cQ Tryz.func195 H
abbrev g262 (K:kQ) (h H1:Wa2):Prop:=
 (lP H1 (Addr.add (aQ h.size) 2) λa=>lP H1 (aQ h.size) λb=>nP a λc=>cf 147 #[.pointer b,iQ 1] H1 λb d=>asInt .u64 b λb=>bd 1 10 (stH d (Addr.add c 3) (uQ b) λb=>nP a λc=>bd 3 10 (nP a λd=>stH b (Addr.add c 5) (uQ 1) λb=>bd 5 10 (stH b (Addr.add d 7) (uQ 0) λb=>lP b (aQ h.size) λc=>nP a λd=>cf 79 #[.pointer c] b λb c=>asAgg b λb=>We2 b 15 (Wm8 b λb e f g i j k l m n o p q r s=>cf 139 #[.agg #[b,e,f,g,i,j,k,l,m,n,o,p,q,r,s]] c λb c=>asAgg b λb=>We2 b 7 (de7 b λb b b b e e e=>asInt .i64 b λb=>bd 2 10 (stH c (Addr.add d 4) (uQ (IntKind.wrap .u64 (IntKind.wrap .i64 (b - 1)))) λb=>nP a λa=>stH b (Addr.add a 1) (iQ 1) λa=>K (.tuple #[]) a)))))))
def F262 (K:kQ) (h:Wa2) (xa xb xc:Option Addr):Prop:=
 (g262 K h (Array.push h (.cells #[.pointer xa,.pointer xb,.pointer xc] 254)))
theorem call262 {K:kQ} {h:Wa2} {xa xb xc:Option Addr} (H:F262 K h xa xb xc):Wa5 Tryz.prog 262 #[(.agg #[(.pointer xa),(.pointer xb),(.pointer xc)])] h K:=
 cQ Tryz.func262 H
abbrev g263 (K:kQ) (h H1:Wa2) (xa:Int):Prop:=
 (lP H1 (aQ h.size) λa=>ldH H1 ⟨h.size,1,none⟩ λb=>Wb2 b λc=>nP c λc=>ldH H1 c λd=>asInt .i64 d λe=>cf 79 #[.pointer a] H1 λa f=>asAgg a λa=>We2 a 15 (Wm8 a λa g i j k l m n o p q r s t u=>((Wa1 f c)=(some d))/\(ce f h.size 1 b (cf 232 #[.agg #[a,g,i,j,k,l,m,n,o,p,q,r,s,t,u],iQ e,iQ xa] f λa b=>asInt .i64 a λa=>K (iQ a) b))))
def F263 (K:kQ) (h:Wa2) (xa xb xc:Option Addr) (xd:Int):Prop:=
 (g263 K h (Array.push h (.cells #[.pointer xa,.pointer xb,.pointer xc] 252)) xd)
theorem call263 {K:kQ} {h:Wa2} {xa xb xc:Option Addr} {xd:Int} (H:F263 K h xa xb xc xd):Wa5 Tryz.prog 263 #[(.agg #[(.pointer xa),(.pointer xb),(.pointer xc)]),(iQ xd)] h K:=
 cQ Tryz.func263 H
abbrev g264 (K:kQ) (h H1:Wa2):Prop:=
 (lP H1 ⟨h.size,2,none⟩ λa=>nP a λa=>bd 2 10 (lI .u64 H1 (Addr.add a 4) λa=>K (iQ (IntKind.wrap .i64 a)) H1))
def F264 (K:kQ) (h:Wa2) (xa xb xc:Option Addr):Prop:=
 (g264 K h (Array.push h (.cells #[.pointer xa,.pointer xb,.pointer xc] 252)))
theorem call264 {K:kQ} {h:Wa2} {xa xb xc:Option Addr} (H:F264 K h xa xb xc):Wa5 Tryz.prog 264 #[(.agg #[(.pointer xa),(.pointer xb),(.pointer xc)])] h K:=
 cQ Tryz.func264 H
abbrev g265 (K:kQ) (h H1:Wa2) (xa xb:Int):Prop:=
 (lP H1 (aQ h.size) λa=>cf 79 #[.pointer a] H1 λa b=>asAgg a λa=>We2 a 15 (Wm8 a λa c d e f g i j k l m n o p q=>cf 143 #[.agg #[a,c,d,e,f,g,i,j,k,l,m,n,o,p,q],iQ (IntKind.wrap .i64 xa),iQ xb] b λa b=>asInt .i64 a λa=>K (iQ a) b))
def F265 (K:kQ) (h:Wa2) (xa xb xc:Option Addr) (xd xe:Int):Prop:=
 (g265 K h (Array.push h (.cells #[.pointer xa,.pointer xb,.pointer xc] 252)) xd xe)
theorem call265 {K:kQ} {h:Wa2} {xa xb xc:Option Addr} {xd xe:Int} (H:F265 K h xa xb xc xd xe):Wa5 Tryz.prog 265 #[(.agg #[(.pointer xa),(.pointer xb),(.pointer xc)]),(uQ xd),(iQ xe)] h K:=
 cQ Tryz.func265 H
abbrev g266 (K:kQ) (h H1:Wa2):Prop:=
 (dl3 H1 h.size λa b c=>cf 299 #[.agg #[a,b,c]] H1 λa b=>asInt .u64 a λa=>cf 146 #[uQ a] b λa b=>asInt .i64 a λa=>K (uQ (IntKind.wrap .u64 a)) b)
def F266 (K:kQ) (h:Wa2) (xa xb xc:Option Addr):Prop:=
 (g266 K h (Array.push h (.cells #[.pointer xa,.pointer xb,.pointer xc] 252)))
theorem call266 {K:kQ} {h:Wa2} {xa xb xc:Option Addr} (H:F266 K h xa xb xc):Wa5 Tryz.prog 266 #[(.agg #[(.pointer xa),(.pointer xb),(.pointer xc)])] h K:=
 cQ Tryz.func266 H
abbrev g267 (K:kQ) (h H1:Wa2):Prop:=
 (ldH H1 (Addr.add (aQ h.size) 2) λa=>Wb2 a λb=>da3 H1 (aQ h.size) λc d e=>cf 264 #[.agg #[c,d,e]] H1 λc d=>asInt .i64 c λc=>((Wa1 d (Addr.add (aQ h.size) 2))=(some a))/\(ldH d (Addr.add (aQ h.size) 1) λa=>Wb2 a λe=>nP e λe=>ldH d (Addr.add e 5) λf=>Wb3 f λg i j=>ldH d (Addr.add (aQ h.size) 1) λj=>Wb2 j λk=>nP k λk=>ldH d (Addr.add k 7) λl=>Wb3 l λm n o=>ldH d (Addr.add (aQ h.size) 1) λo=>Wb2 o λp=>nP p λp=>ldH d (Addr.add p 6) λq=>Wb3 q λr s t=>nP b λt=>bd 3 10 (ldH d (Addr.add t 5) λu=>asInt .u64 u λv=>nP b λw=>bd 4 10 (ldH d (Addr.add w 6) λx=>asInt .u64 x λy=>da3 d (aQ h.size) λz A B=>cf 266 #[.agg #[z,A,B]] d λd z=>asInt .u64 d λd=>((Wa1 z (Addr.add w 6))=(some x))/\(((Wa1 z (Addr.add t 5))=(some u))/\(((Wa1 z (Addr.add p 6))=(some q))/\(((Wa1 z (Addr.add (aQ h.size) 1))=(some o))/\(((Wa1 z (Addr.add k 7))=(some l))/\(((Wa1 z (Addr.add (aQ h.size) 1))=(some j))/\(((Wa1 z (Addr.add e 5))=(some f))/\(((Wa1 z (Addr.add (aQ h.size) 1))=(some a))/\(bd c (i:Int) (Wd2 (.pointer g) λa=>stH z (Addr.add a (c.toNat*1)) (uQ v) λa=>bd c (n:Int) (Wd2 (.pointer m) λe=>stH a (Addr.add e (c.toNat*1)) (uQ y) λa=>bd c (s:Int) (Wd2 (.pointer r) λe=>stH a (Addr.add e (c.toNat*1)) (uQ d) λa=>ifB (c == 0) (ldH a (Addr.add (aQ h.size) 1) λc=>Wb2 c λd=>nP b λe=>bd 5 10 (lI .u64 a (Addr.add e 7) λe=>((Wa1 (Array.push a (.cells #[uQ e] 178)) (Addr.add (aQ h.size) 1))=(some c))/\(cf 106 #[.pointer d,.slice (some (aQ a.size)) 1 1] (Array.push a (.cells #[uQ e] 178)) λc c=>K (.tuple #[]) c))) (nP b λc=>bd 2 10 (lI .u64 a (Addr.add c 4) λc=>nP b λd=>bd 2 10 (stH a (Addr.add d 4) (uQ (IntKind.wrap .u64 (c - 1))) λa=>nP b λb=>stH a (Addr.add b 1) (iQ 1) λa=>K (.tuple #[]) a))))))))))))))))))
def F267 (K:kQ) (h:Wa2) (xa xb xc:Option Addr):Prop:=
 (g267 K h (Array.push h (.cells #[.pointer xa,.pointer xb,.pointer xc] 254)))
theorem call267 {K:kQ} {h:Wa2} {xa xb xc:Option Addr} (H:F267 K h xa xb xc):Wa5 Tryz.prog 267 #[(.agg #[(.pointer xa),(.pointer xb),(.pointer xc)])] h K:=
 cQ Tryz.func267 H
abbrev g268 (K:kQ) (h H1:Wa2):Prop:=
 (lP H1 (Addr.add (aQ h.size) 2) λa=>lP H1 (aQ h.size) λb=>nP a λc=>bd 1 10 (ldH H1 (Addr.add c 3) λd=>asInt .u64 d λe=>cf 147 #[.pointer b,iQ 1] H1 λb f=>asInt .u64 b λb=>((Wa1 f (Addr.add c 3))=(some d))/\(ifB (b != e) (nP a λb=>stH f (Addr.add b 1) (iQ 0) λb=>K (.tuple #[]) b) (exI λI12=>(da3 f (aQ h.size) λb c d=>cf 264 #[.agg #[b,c,d]] f λb c=>asInt .i64 b λb=>ifB (b == 0) (da3 c (aQ h.size) λb d e=>cf 299 #[.agg #[b,d,e]] c λb d=>asInt .u64 b λb=>cf 226 #[uQ b] d λb d=>asBool b λb=>I12 [.bool b,.bool b] d) (I12 [.bool false,.bool false] c))/\(∀(b c:Value) (d:Env) (d:Wa2),(I12 [b,c] d)->(asBool b λb=>ifB b (da3 d (aQ h.size) λb c e=>nP a λf=>cf 266 #[.agg #[b,c,e]] d λb c=>asInt .u64 b λb=>bd 5 10 (stH c (Addr.add f 7) (uQ b) λb=>dl3 b h.size λc e f=>cf 269 #[.agg #[c,e,f]] b λb b=>K (.tuple #[]) b)) (da3 d (aQ h.size) λb c e=>cf 264 #[.agg #[b,c,e]] d λb c=>asInt .i64 b λb=>ifB (decide (b > 0)) (nP a λb=>stH c (Addr.add b 1) (iQ 5) λb=>K (.tuple #[]) b) (nP a λa=>stH c (Addr.add a 1) (iQ 6) λa=>K (.tuple #[]) a))))))))
def F268 (K:kQ) (h:Wa2) (xa xb xc:Option Addr):Prop:=
 (g268 K h (Array.push h (.cells #[.pointer xa,.pointer xb,.pointer xc] 254)))
theorem call268 {K:kQ} {h:Wa2} {xa xb xc:Option Addr} (H:F268 K h xa xb xc):Wa5 Tryz.prog 268 #[(.agg #[(.pointer xa),(.pointer xb),(.pointer xc)])] h K:=
 cQ Tryz.func268 H
abbrev g269 (K:kQ) (h H1:Wa2):Prop:=
 (ldH H1 (Addr.add (aQ h.size) 2) λa=>Wb2 a λb=>da3 H1 (aQ h.size) λc d e=>nP b λb=>cf 266 #[.agg #[c,d,e]] H1 λc d=>asInt .u64 c λc=>((Wa1 d (Addr.add (aQ h.size) 2))=(some a))/\(bd 3 10 (stH d (Addr.add b 5) (uQ c) λa=>lP a (Addr.add (aQ h.size) 2) λb=>nP b λb=>stH a (Addr.add b 1) (iQ 1) λa=>K (.tuple #[]) a)))
def F269 (K:kQ) (h:Wa2) (xa xb xc:Option Addr):Prop:=
 (g269 K h (Array.push h (.cells #[.pointer xa,.pointer xb,.pointer xc] 254)))
theorem call269 {K:kQ} {h:Wa2} {xa xb xc:Option Addr} (H:F269 K h xa xb xc):Wa5 Tryz.prog 269 #[(.agg #[(.pointer xa),(.pointer xb),(.pointer xc)])] h K:=
 cQ Tryz.func269 H
abbrev g270 (K:kQ) (h H1:Wa2) (xa xb:Int):Prop:=
 (lP H1 (aQ h.size) λa=>cf 79 #[.pointer a] H1 λa b=>asAgg a λa=>We2 a 15 (Wm8 a λa c d e f g i j k l m n o p q=>cf 143 #[.agg #[a,c,d,e,f,g,i,j,k,l,m,n,o,p,q],iQ (IntKind.wrap .i64 xa),iQ xb] b λa b=>asInt .i64 a λa=>K (iQ a) b))
def F270 (K:kQ) (h:Wa2) (xa xb xc:Option Addr) (xd xe:Int):Prop:=
 (g270 K h (Array.push h (.cells #[.pointer xa,.pointer xb,.pointer xc] 202)) xd xe)
theorem call270 {K:kQ} {h:Wa2} {xa xb xc:Option Addr} {xd xe:Int} (H:F270 K h xa xb xc xd xe):Wa5 Tryz.prog 270 #[(.agg #[(.pointer xa),(.pointer xb),(.pointer xc)]),(uQ xd),(iQ xe)] h K:=
 cQ Tryz.func270 H
abbrev g271 (K:kQ) (h H1:Wa2) (xa xb xc:Int):Prop:=
 (lP H1 ⟨h.size,2,none⟩ λa=>ldH H1 ⟨h.size,2,none⟩ λb=>Wb2 b λc=>ldH H1 ⟨h.size,2,none⟩ λd=>Wb2 d λe=>nP a λa=>bd 7 10 (nP c λc=>nP e λe=>stH H1 (Addr.add a 9) (uQ xa) λa=>ce a h.size 2 d (ce a h.size 2 b (bd 8 10 (stH a (Addr.add c 10) (uQ xb) λa=>ce a h.size 2 d (bd 9 10 (stH a (Addr.add e 11) (uQ xc) λa=>dl3 a h.size λb c d=>cf 186 #[.agg #[b,c,d],iQ 90,iQ 4,.slice none 0 0] a λa a=>K (.tuple #[]) a)))))))
def F271 (K:kQ) (h:Wa2) (xa xb xc:Option Addr) (xd xe xf:Int):Prop:=
 (g271 K h (Array.push h (.cells #[.pointer xa,.pointer xb,.pointer xc] 202)) xd xe xf)
theorem call271 {K:kQ} {h:Wa2} {xa xb xc:Option Addr} {xd xe xf:Int} (H:F271 K h xa xb xc xd xe xf):Wa5 Tryz.prog 271 #[(.agg #[(.pointer xa),(.pointer xb),(.pointer xc)]),(uQ xd),(uQ xe),(uQ xf)] h K:=
 cQ Tryz.func271 H
abbrev g273 (K:kQ) (h H1:Wa2):Prop:=
 (lP H1 (Addr.add (aQ h.size) 2) λa=>nP a λa=>bd 5 10 (lI .u64 H1 (Addr.add a 7) λa=>cf 183 #[uQ a] H1 λa b=>asInt .u64 a λa=>K (uQ a) b))
def F273 (K:kQ) (h:Wa2) (xa xb xc:Option Addr):Prop:=
 (g273 K h (Array.push h (.cells #[.pointer xa,.pointer xb,.pointer xc] 208)))
theorem call273 {K:kQ} {h:Wa2} {xa xb xc:Option Addr} (H:F273 K h xa xb xc):Wa5 Tryz.prog 273 #[(.agg #[(.pointer xa),(.pointer xb),(.pointer xc)])] h K:=
 cQ Tryz.func273 H
abbrev g299 (K:kQ) (h H1:Wa2):Prop:=
 (lP H1 ⟨h.size,2,none⟩ λa=>nP a λa=>bd 4 10 (lI .u64 H1 (Addr.add a 6) λa=>K (uQ a) H1))
def F299 (K:kQ) (h:Wa2) (xa xb xc:Option Addr):Prop:=
 (g299 K h (Array.push h (.cells #[.pointer xa,.pointer xb,.pointer xc] 252)))
theorem call299 {K:kQ} {h:Wa2} {xa xb xc:Option Addr} (H:F299 K h xa xb xc):Wa5 Tryz.prog 299 #[(.agg #[(.pointer xa),(.pointer xb),(.pointer xc)])] h K:=
 cQ Tryz.func299 H
end
section
open Mod
section
variable {K:kQ} {h:Wa2} {M T b o N:Nat} {tv:Value} {fo:Option (Nat × Nat)} {x:Run} {R:Hp}
theorem Zt4 (x:Run) (a:Int):(x.load a).2.m.p=x.m.p:=by
 show (x.m.load a).2.p=x.m.p
 unfold Mac.load
 dsimp only
 have:(x.m.touch a).p=x.m.p:=by unfold Mac.touch;split <;> rfl
 split <;> exact this
theorem Zj4 (w:Int):s64 (Wg8 w)=Wg8 w:=by have:=WK1 w;unfold s64;omega
theorem Y23 (x:Run) (w f:Int):x.na (Wg8 w) f=x.m.p.node (Wg8 w) f:=by unfold Run.na;rw [Zj4]
theorem Wt7 (H:Sat h (RunS M T tv (some (b,o)) x R)) (k:∀h',Old h.size h h'->K (iQ (s64 (x.f.g 2))) h') :
  Wa5 Tryz.prog 264 #[rV M T b o] h K:=by
 refine call264 ?_
 unfold F264 g264 bd lP lI nP
 have oo:Old h.size h (h.push (.cells #[mP M,mP T,fP b o] 252)):=(Old.refl _ _).push _ (Nat.le_refl _)
 have H1:=RunS.new H (.cells #[mP M,mP T,fP b o] 252);generalize h.push (.cells #[mP M,mP T,fP b o] 252)=h1 at *;generalize h.size=N at *
 refine ss H1 ?_
 exact k h1 oo
theorem WV9 (H:Sat h (RunS M T tv (some (b,o)) x R)) (k:∀h',Old h.size h h'->K (uQ (x.f.g 4)) h') :
  Wa5 Tryz.prog 299 #[rV M T b o] h K:=by
 refine call299 ?_
 unfold F299 g299 bd lP lI nP
 have oo:Old h.size h (h.push (.cells #[mP M,mP T,fP b o] 252)):=(Old.refl _ _).push _ (Nat.le_refl _)
 have H1:=RunS.new H (.cells #[mP M,mP T,fP b o] 252);generalize h.push (.cells #[mP M,mP T,fP b o] 252)=h1 at *;generalize h.size=N at *
 refine ss H1 ?_
 exact k h1 oo
theorem Wn0 (H:Sat h (RunS M T tv (some (b,o)) x R)) (k:∀h',Old h.size h h'->K (uQ (Wg8 (x.f.g 4))) h') :
  Wa5 Tryz.prog 266 #[rV M T b o] h K:=by
 refine call266 ?_
 unfold F266 g266 cf dl3
 have B:=RunS.fB H
 have oo:Old h.size h (h.push (.cells #[mP M,mP T,fP b o] 252)):=(Old.refl _ _).push _ (Nat.le_refl _)
 have s1:=oo.1
 have H1:=RunS.new H (.cells #[mP M,mP T,fP b o] 252);generalize h.push (.cells #[mP M,mP T,fP b o] 252)=h1 at *;generalize h.size=N at *
 refine ss H1 ?_
 refine Wa0 (WV9 H1 λh2 o2=>?_)
 refine sb ?_
 refine Wa0 (Wf3 (B.g 4) ?_)
 refine sb ?_
 exact k h2 (oo.trans (o2.mono s1))
theorem WW0 (H:Sat h (RunS M T tv fo x R)) {n f:Int} (hf:iN f) (k:∀h',Old h.size h h'->K (iQ (x.na n f)) h') :
  Wa5 Tryz.prog 265 #[rV M T b o,uQ n,iQ f] h K:=by
 refine call265 ?_
 unfold F265 g265 cf lP Wm8
 have oo:Old h.size h (h.push (.cells #[mP M,mP T,fP b o] 252)):=(Old.refl _ _).push _ (Nat.le_refl _)
 have s1:=oo.1
 have H1:=RunS.new H (.cells #[mP M,mP T,fP b o] 252);generalize h.push (.cells #[mP M,mP T,fP b o] 252)=h1 at *;generalize h.size=N at *
 refine sl H1 ?_
 refine Wa0 (Ws3 H1 λh2 o2=>WF3 ?_)
 refine Wa0 (Wf7 (RunS.pl H) (Wi8 _) hf λh3 o3=>?_)
 refine sb ?_
 exact k h3 (oo.trans ((o2.trans (o3.mono o2.1)).mono s1))
theorem WW1 (H:Sat h (RunS M T tv (some (b,o)) x R)) (O:Ok x) {i:Int} (hi:iN i) (k:∀h',Old h.size h h'->K (iQ (x.m.p.haz x.id i)) h') :
  Wa5 Tryz.prog 263 #[rV M T b o,iQ i] h K:=by
 refine call263 ?_
 unfold F263 g263 cf ce lP nP Wm8
 have oo:Old h.size h (h.push (.cells #[mP M,mP T,fP b o] 252)):=(Old.refl _ _).push _ (Nat.le_refl _)
 have s1:=oo.1
 have H1:=RunS.new H (.cells #[mP M,mP T,fP b o] 252);generalize h.push (.cells #[mP M,mP T,fP b o] 252)=h1 at *;generalize h.size=N at *
 refine ss H1 ?_
 refine Wa0 (Ws3 H1 λh2 o2=>WF3 ?_)
 have H2:=RunS.old H1 o2
 refine ss H2 ?_
 refine Wa0 (Wq4 (RunS.pl H) O.id hi λh3 o3=>?_)
 refine sb ?_
 exact k h3 (oo.trans ((o2.trans (o3.mono o2.1)).mono s1))
theorem WH2 (H:Sat h (RunS M T tv (some (b,o)) x R)) (k:∀h',Sat h' (RunS M T tv none (WF1 x) R)->K (.tuple #[]) h') :
  Wa5 Tryz.prog 269 #[rV M T b o] h K:=by
 refine call269 ?_
 unfold F269 g269 cf bd lP nP da3
 unfold WF1 at k
 have H1:=RunS.new H (.cells #[mP M,mP T,fP b o] 254);generalize h.push (.cells #[mP M,mP T,fP b o] 254)=h1 at *;generalize h.size=N at *
 refine ss H1 ?_
 refine Wa0 (Wn0 H1 λh2 o2=>?_)
 have H2:=RunS.old H1 o2
 refine ss H2 ?_
 refine RunS.stR (i:=3) H2 rfl (Wj4 _) λh3 H3=>?_
 refine ss H3 ?_
 exact RunS.stP H3 λh4 H4=>k h4 (RunS.drp (RunS.none H4))
theorem Yf9 (H:Sat h (RunS M T tv (some (b,o)) x R)) (O:Ok x) (k:∀h',Sat h' (RunS M T tv none (((((( x.load 1).2.s 1 (x.load 1).1).s 3 1).s 5 0).s 2 (u64 (x.m.p.c.level - 1))).pc 1) R)->K (.tuple #[]) h') :
  Wa5 Tryz.prog 262 #[rV M T b o] h K:=by
 refine call262 ?_
 unfold F262 g262 cf bd lP nP de7 Wm8
 have P:=RunS.pl H
 have H1:=RunS.new H (.cells #[mP M,mP T,fP b o] 254);generalize h.push (.cells #[mP M,mP T,fP b o] 254)=h1 at *;generalize h.size=N at *
 refine ss H1 ?_
 refine Wa0 (Wg2 H1 (by decide) O.st λh2 H2 u2=>?_)
 refine ss H2 ?_
 refine RunS.stR (i:=1) H2 rfl u2 λh3 H3=>?_
 try simp +decide only [Wb8,bsx,Nat.reduceAdd,Int.reduceLE,Int.reduceLT,Int.reduceToNat,rsx,g_s,Wa7,RunS.al H3]
 refine RunS.stR (i:=3) H3 rfl (U.lit rfl) λh4 H4=>?_
 try simp +decide only [Wb8,bsx,Nat.reduceAdd,Int.reduceLE,Int.reduceLT,Int.reduceToNat,rsx,g_s,Wa7,RunS.al H4]
 refine RunS.stR (i:=5) H4 rfl U0 λh5 H5=>?_
 refine ss H5 ?_
 refine Wa0 (Ws3 H5 λh6 o6=>WF3 ?_)
 have H6:=RunS.old H5 o6
 try simp +decide only [Wb8,bsx,Nat.reduceAdd,Int.reduceLE,Int.reduceLT,Int.reduceToNat,rsx,g_s,Wa7,RunS.al H6]
 refine Wa0 (Wh6 λh7 o7=>cf7 ?_)
 have H7:=RunS.old H6 o7
 refine ss H7 ?_
 have em:(x.load 1).2.m.p=x.m.p:=Zt4 x 1
 have em2:(((( x.load 1).2.s 1 (x.load 1).1).s 3 1).s 5 0).m.p=x.m.p:=em
 rw [em2]
 refine RunS.stR (i:=2) H7 rfl (Wk4 _) λh8 H8=>?_
 exact RunS.stP H8 λh9 H9=>k h9 (RunS.drp (RunS.none H9))
theorem WK5 (H:Sat h (RunS M T tv (some (b,o)) x R)) (hr:RowOk x (x.f.g 2)) (k:∀h',Sat h' (RunS M T tv none (Wm9 x) R)->K (.tuple #[]) h') :
  Wa5 Tryz.prog 267 #[rV M T b o] h K:=by
 refine call267 ?_
 unfold F267 g267 cf bd lI nP da3
 have B:=RunS.fB H
 have TB:=RunS.B H
 obtain ⟨⟨r0,r1⟩,e1,e2,e3⟩:=hr
 unfold Wm9 at k
 dsimp only at k
 have H1:=RunS.new H (.cells #[mP M,mP T,fP b o] 254);generalize h.push (.cells #[mP M,mP T,fP b o] 254)=h1 at *;generalize h.size=N at *
 refine ss H1 ?_
 refine Wa0 (Wt7 H1 λh2 o2=>?_)
 have H2:=RunS.old H1 o2
 obtain ⟨pb,sb,wb,Q,hQ,HR,re⟩:=Yp2 H2
 obtain ⟨c5,c6,c7⟩:=hQ h2 _ HR.drop.drop.drop
 have d5:∀F:Value->Prop,ldH h2 ⟨T,5,none⟩ F=F (.slice (some (aQ pb)) x.t.pred.length x.t.pred.length):=λF=>by unfold ldH;rw [c5]
 have d6:∀F:Value->Prop,ldH h2 ⟨T,6,none⟩ F=F (.slice (some (aQ sb)) x.t.succ.length x.t.succ.length):=λF=>by unfold ldH;rw [c6]
 have d7:∀F:Value->Prop,ldH h2 ⟨T,7,none⟩ F=F (.slice (some (aQ wb)) x.t.word.length x.t.word.length):=λF=>by unfold ldH;rw [c7]
 try simp +decide only [Wb8,bsx,Nat.reduceAdd,Int.reduceLE,Int.reduceLT,Int.reduceToNat,rsx,g_s,Wa7,RunS.al H2,d5,d6,d7]
 refine Wa0 (Wn0 H2 λh3 o3=>?_)
 have H3:=RunS.old H2 o3
 have HR3:=HR.old o3
 obtain ⟨c5,c6,c7⟩:=hQ h3 _ HR3.drop.drop.drop
 try simp +decide only [Wb8,bsx,Nat.reduceAdd,Int.reduceLE,Int.reduceLT,Int.reduceToNat,rsx,g_s,Wa7,RunS.al H3,c5,c6,c7]
 refine ⟨r0,by omega,?_⟩
 have hu:∀l:List Int,(uvs l).length=l.length:=W63
 have us:∀(l:List Int) (i:Nat) (v:Int),(uvs l).set i (uQ v)=uvs (l.set i v):=λl i v=>by unfold uvs;rw [List.map_set]
 refine WC4 HR3 (by rw [hu];omega) trivial λh4 H4=>?_
 refine ⟨r0,by omega,?_⟩
 rw [Yz9,us] at H4
 refine WC4 H4 (by rw [hu];omega) trivial λh5 H5=>?_
 refine ⟨r0,by omega,?_⟩
 rw [<- Yz9,us,Wb7] at H5
 refine WC4 H5 (by rw [hu];omega) trivial λh6 H6=>?_
 rw [Wb7,us] at H6
 have H7:=re h6 _ _ _ (by simp) (by simp) (by simp) (Wk6 TB.pr (B.g 3)) (Wk6 TB.su (Wj4 _)) (Wk6 TB.wo (B.g 4)) H6
 have ef:(x.setPl (x.t.pred.set (s64 (x.f.g 2)).toNat (x.f.g 3)) (x.t.succ.set (s64 (x.f.g 2)).toNat (Wg8 (x.f.g 4))) (x.t.word.set (s64 (x.f.g 2)).toNat (x.f.g 4))).f=x.f:=rfl
 try simp +decide only [Wb8,bsx,Nat.reduceAdd,Int.reduceLE,Int.reduceLT,Int.reduceToNat,rsx,g_s,Wa7,RunS.al H7,ef]
 refine Wa3 (λc=>?_) (λc=>?_)
 ·have c':(s64 (x.f.g 2)).toNat=0:=by omega
  rw [if_pos c'] at k
  exact Wa0 (ZC1 H7 [x.f.g 5] rfl (Wn8 (B.g 5)) rfl λh8 H8=>k h8 (RunS.drp H8))
 ·have c':¬ (s64 (x.f.g 2)).toNat=0:=by omega
  rw [if_neg c'] at k
  exact RunS.stR (i:=2) H7 rfl (Wk4 _) λh8 H8=>RunS.stP H8 λh9 H9=>k h9 (RunS.drp (RunS.none H9))
theorem Yg0 (H:Sat h (RunS M T tv (some (b,o)) x R)) (O:Ok x) (k:∀h',Sat h' (RunS M T tv none (WB6 x) R)->K (.tuple #[]) h') :
  Wa5 Tryz.prog 268 #[rV M T b o] h K:=by
 refine call268 ?_
 unfold F268 g268 cf bd lP nP da3 dl3
 have B:=RunS.fB H
 unfold WB6 at k
 dsimp only at k
 have H1:=RunS.new H (.cells #[mP M,mP T,fP b o] 254);generalize h.push (.cells #[mP M,mP T,fP b o] 254)=h1 at *;generalize h.size=N at *
 refine ss H1 ?_
 refine Wa0 (Wg2 H1 (by decide) O.st λh2 H2 u2=>?_)
 refine ss H2 ?_
 refine Wb6 (λc=>?_) (λc=>?_)
 ·rw [if_pos (bne_iff_ne.1 c)] at k
  exact RunS.stP H2 λh3 H3=>k h3 (RunS.drp (RunS.none H3))
 rw [if_neg (λhh=>hh (bne_eq_false_iff_eq.1 c))] at k
 refine ⟨λvs h'=>(∃w,vs = [.bool (decide (s64 (x.f.g 2)=0/\Wq2 (x.f.g 4)=true)),w])/\Sat h' (RunS M T tv (some (b,o)) (x.load 1).2 (pt N (.cells #[mP M,mP T,fP b o] 254)*R)),?_,?_⟩
 ·refine ss H2 ?_
  refine Wa0 (Wt7 H2 λh3 o3=>?_)
  have H3:=RunS.old H2 o3
  refine ss H3 ?_
  refine Wa3 (λc2=>?_) (λc2=>?_)
  ·try simp +decide only [Wb8,bsx,Nat.reduceAdd,Int.reduceLE,Int.reduceLT,Int.reduceToNat,rsx,g_s,Wa7,RunS.al H3]
   refine Wa0 (WV9 H3 λh4 o4=>?_)
   have H4:=RunS.old H3 o4
   refine ss H4 ?_
   refine Wa0 (Wi1 (B.g 4) ?_)
   refine sb ?_
   rw [show decide (s64 (x.f.g 2)=0/\Wq2 (x.f.g 4)=true)=Wq2 (x.f.g 4) by simp [c2]]
   exact ⟨⟨_,rfl⟩,H4⟩
  ·rw [decide_eq_false (p:=s64 (x.f.g 2)=0/\Wq2 (x.f.g 4)=true) (λhh=>c2 hh.1)]
   exact ⟨⟨_,rfl⟩,H3⟩
 rintro v28 v29 g30 h31 ⟨⟨w,e⟩,H3⟩
 cases e
 refine ss H3 ?_
 refine Wa3 (λc2=>?_) (λc2=>?_)
 ·rw [if_pos c2] at k
  refine Wa0 (Wn0 H3 λh4 o4=>?_)
  have H4:=RunS.old H3 o4
  refine ss H4 ?_
  refine RunS.stR (i:=5) H4 rfl (Wj4 _) λh5 H5=>?_
  refine ss H5 ?_
  exact Wa0 (WH2 H5 λh6 H6=>k h6 (RunS.drp H6))
 rw [if_neg c2] at k
 refine Wa0 (Wt7 H3 λh4 o4=>?_)
 have H4:=RunS.old H3 o4
 refine ss H4 ?_
 refine Wa3 (λc3=>?_) (λc3=>?_)
 ·rw [if_pos c3] at k
  exact RunS.stP H4 λh5 H5=>k h5 (RunS.drp (RunS.none H5))
 ·rw [if_neg c3] at k
  exact RunS.stP H4 λh5 H5=>k h5 (RunS.drp (RunS.none H5))
theorem Yp7 (H:Sat h (RunS M T tv (some (b,o)) x R)) (O:Ok x) (hr:x.f.pc≠0->RowOk x (x.f.g 2)) (k:∀h',Sat h' (RunS M T tv none (WT4 x) R)->K (.tuple #[]) h') :
  Wa5 Tryz.prog 176 #[rV M T b o] h K:=by
 refine call176 ?_
 unfold F176 g176 cf ce bd lP lI nP da3 dl3
 have B:=RunS.fB H
 have P:=RunS.pl H
 unfold WT4 at k
 dsimp only at k
 have H1:=RunS.new H (.cells #[mP M,mP T,fP b o] 254);generalize h.push (.cells #[mP M,mP T,fP b o] 254)=h1 at *;generalize h.size=N at *
 refine ss H1 ?_
 refine Wa3 (λc=>?_) (λc=>?_)
 ·rw [if_pos c] at k
  have em:(x.load 1).2.m.p=x.m.p:=Zt4 x 1
  rw [em] at k
  exact Wa0 (Yf9 H1 O λh2 H2=>k h2 (RunS.drp H2))
 rw [if_neg c] at k
 have hr:=hr c
 have hrr:0<=s64 (x.f.g 2)/\s64 (x.f.g 2) < 1000:=⟨hr.r.1,by have:=hr.r.2;have:=hr.e3;omega⟩
 have hr6:s64 (x.f.g 2) < 6:=by have:=hr.r.2;have:=hr.e3;omega
 refine Wa3 (λc=>?_) (λc=>?_)
 ·rw [if_pos c] at k
  refine Wa0 (Wt7 H1 λh3 o3=>?_)
  have H3:=RunS.old H1 o3
  refine ss H3 ?_
  rw [WK4 (n:=2*s64 (x.f.g 2)) (by omega) (by omega)]
  refine Wa0 (WW1 H3 O ⟨by omega,by omega⟩ λh4 o4=>?_)
  have H4:=RunS.old H3 o4
  refine ss H4 ?_
  refine Wa0 (Wj3 H4 (WN9 P _ _) (B.g 3) O.st λh5 H5=>?_)
  exact RunS.stP H5 λh7 H7=>k h7 (RunS.drp (RunS.none H7))
 rw [if_neg c] at k
 refine Wa3 (λc=>?_) (λc=>?_)
 ·rw [if_pos c] at k
  refine Wa0 (Wt7 H1 λh3 o3=>?_)
  have H3:=RunS.old H1 o3
  refine ss H3 ?_
  rw [WK4 (n:=5+s64 (x.f.g 2)) (by omega) (by omega)]
  refine Wa0 (WW0 H3 ⟨by omega,by omega⟩ λh4 o4=>?_)
  have H4:=RunS.old H3 o4
  rw [show x.na (x.f.g 3) (5+s64 (x.f.g 2))=x.nlink (x.f.g 3) (x.f.g 2) from rfl]
  refine ss H4 ?_
  refine Wa0 (Wg2 H4 (Wc9 P _ _) O.st λh5 H5 u5=>?_)
  refine ss H5 ?_
  refine RunS.stR (i:=4) H5 rfl u5 λh6 H6=>RunS.stP H6 λh7 H7=>?_
  refine ss H7 ?_
  refine Wa0 (Wn0 H7 λh8 o8=>?_)
  have H8:=RunS.old H7 o8
  try simp +decide only [Wb8,bsx,Nat.reduceAdd,Int.reduceLE,Int.reduceLT,Int.reduceToNat,rsx,g_s,Wa7,RunS.al H8,B.len]
  refine Wa3 (λc2=>?_) (λc2=>?_)
  ·rw [if_pos c2] at k
   have hr7:RowOk (((x.load (x.nlink (x.f.g 3) (x.f.g 2))).2.s 4 (x.load (x.nlink (x.f.g 3) (x.f.g 2))).1).pc 3) (((((x.load (x.nlink (x.f.g 3) (x.f.g 2))).2.s 4 (x.load (x.nlink (x.f.g 3) (x.f.g 2))).1).pc 3).f.g 2)):=by
    rw [WF2,WP0,f_s,Wa7 _ (by decide),Wm4]
    exact hr.same ⟨rfl,rfl,rfl⟩
   exact Wa0 (WK5 H8 hr7 λh9 H9=>k h9 (RunS.drp H9))
  ·rw [if_neg c2] at k
   exact k h8 (RunS.drp (RunS.none H8))
 rw [if_neg c] at k
 refine Wa3 (λc=>?_) (λc=>?_)
 ·rw [if_pos c] at k
  refine Wa0 (Wt7 H1 λh3 o3=>?_)
  have H3:=RunS.old H1 o3
  refine ss H3 ?_
  rw [WK4 (n:=2*s64 (x.f.g 2)) (by omega) (by omega),WK4 (n:=2*s64 (x.f.g 2)+1) (by omega) (by omega)]
  refine Wa0 (WW1 H3 O ⟨by omega,by omega⟩ λh4 o4=>?_)
  have H4:=RunS.old H3 o4
  refine ss H4 ?_
  refine Wa0 (Wn0 H4 λh5 o5=>?_)
  have H5:=RunS.old H4 o5
  refine ss H5 ?_
  refine Wa0 (Wj3 H5 (WN9 P _ _) (Wj4 _) O.st λh6 H6=>?_)
  exact RunS.stP H6 λh7 H7=>k h7 (RunS.drp (RunS.none H7))
 rw [if_neg c] at k
 refine Wa3 (λc=>?_) (λc=>?_)
 ·rw [if_pos c] at k
  exact Wa0 (Yg0 H1 O λh3 H3=>k h3 (RunS.drp H3))
 rw [if_neg c] at k
 refine Wa3 (λc=>?_) (λc=>?_)
 ·rw [if_pos c] at k
  rw [<- Y23] at k
  refine RunS.stP H1 λh2 H2=>?_
  refine ss H2 ?_
  refine Wa0 (Wn0 H2 λh3 o3=>?_)
  have H3:=RunS.old H2 o3
  refine ss H3 ?_
  refine Wa0 (WW0 H3 (by decide) λh4 o4=>?_)
  have H4:=RunS.old H3 o4
  rw [show (x.pc 6).na (Wg8 (x.f.g 4)) 5=x.na (Wg8 (x.f.g 4)) 5 from rfl]
  refine ss H4 ?_
  refine Wa0 (Wg2 H4 (Wc9 P _ _) O.st λh5 H5 u5=>?_)
  refine ss H5 ?_
  refine Wa0 (Wi1 u5 ?_)
  refine ss H5 ?_
  refine Wb6 (λc2=>?_) (λc2=>?_)
  ·rw [if_pos c2] at k
   exact Wa0 (WH2 H5 λh6 H6=>k h6 (RunS.drp H6))
  ·rw [if_neg (by rw [c2];simp)] at k
   exact k h5 (RunS.drp (RunS.none H5))
 rw [if_neg c] at k
 rw [<- Y23] at k
 refine Wa0 (Wn0 H1 λh3 o3=>?_)
 have H3:=RunS.old H1 o3
 refine ss H3 ?_
 refine Wa0 (WW0 H3 (by decide) λh4 o4=>?_)
 have H4:=RunS.old H3 o4
 refine ss H4 ?_
 refine Wa0 (Wg2 H4 (Wc9 P _ _) O.st λh5 H5 u5=>?_)
 refine ss H5 ?_
 refine Wa3 (λc2=>?_) (λc2=>?_)
 ·rw [if_pos c2] at k
  exact Wa0 (WH2 H5 λh6 H6=>k h6 (RunS.drp H6))
 ·rw [if_neg c2] at k
  exact Wa0 (WK5 H5 (hr.same ⟨rfl,rfl,rfl⟩) λh6 H6=>k h6 (RunS.drp H6))
def LOk (x:Run):Prop:=x.f.fn=30->x.f.pc≠0->RowOk x (x.f.g 2)
theorem W74 (H:Sat h (RunS M T tv fo x R)) (O:Ok x) (hf:LOk x) (k:∀h',Sat h' (RunS M T tv none (Ws8 x) R)->K (.tuple #[]) h') :
  Wa5 Tryz.prog 115 #[mP M,mP T] h K:=by
 refine call115 ?_
 unfold F115 cf lI nP
 unfold Ws8 at k
 refine Wa0 (Zi3 H (λe=>?_) λb o hne _ H1=>?_)
 ·rw [if_pos e] at k
  refine sb ?_
  refine ⟨λvs h'=>(∃w,vs = [.bool true,w])/\h' = h,⟨⟨_,rfl⟩,rfl⟩,?_⟩
  rintro v4 v5 g6 h7 ⟨⟨w,e⟩,rfl⟩
  cases e
  refine sb ?_
  exact k _ (RunS.none H)
 ·rw [if_neg hne] at k
  refine sb ?_
  refine ⟨λvs h'=>(∃w,vs = [.bool false,w])/\h' = h,⟨⟨_,rfl⟩,rfl⟩,?_⟩
  rintro v4 v5 g6 h7 ⟨⟨w,e⟩,rfl⟩
  cases e
  try simp +decide only [Wb8,bsx,Nat.reduceAdd,Int.reduceLE,Int.reduceLT,Int.reduceToNat,rsx,g_s,Wa7,RunS.r H1]
  refine Wa3 (λc=>?_) (λc=>?_)
  ·rw [if_pos c] at k
   exact Wa0 (Yp7 H1 O (hf c) k)
  rw [if_neg c] at k
  exact Wa0 (Wz1 H1 O k)
end
end
section
open Mod
theorem and1 {n:Int} (h:U n):Mod.u64 ((((BitVec.ofInt 64 n) &&& (BitVec.ofInt 64 1)).toNat:Nat):Int)=n % 2:=by
 obtain ⟨h0,h1⟩:=h
 have e:(BitVec.ofInt 64 n).toNat=n.toNat:=by
  rw [BitVec.toNat_ofInt]
  omega
 rw [BitVec.toNat_and,e,show (BitVec.ofInt 64 1).toNat=1 from rfl,Nat.and_one_is_mod]
 unfold Mod.u64
 omega
section
variable {K:kQ} {h:Wa2} {M T b o N:Nat} {tv:Value} {fo:Option (Nat × Nat)} {x:Run} {R:Hp}
theorem Wz6 (H:Sat h (RunS M T tv (some (b,o)) x R)) {pc fn:Int} {a:Option Addr} {l c:Nat} {rs:List Int} (A:Args R a l c rs) (hl:l<=10) (hd:x.t.fr.length < 1073741823)
  (k:∀h' b' o',¬ (b' = b/\o' = o)->WO9 h' (some (b,o)) (x.pc pc).f->Sat h' (RunS M T tv (some (b',o')) (x.call pc fn rs) R)->K (.tuple #[]) h') :
  Wa5 Tryz.prog 186 #[rV M T b o,iQ pc,iQ fn,.slice a l c] h K:=by
 refine call186 ?_
 unfold F186 g186 cf lP nP
 have H1:=RunS.new H (.cells #[mP M,mP T,fP b o] 202);generalize h.push (.cells #[mP M,mP T,fP b o] 202)=h1 at *;generalize h.size=N at *
 try simp only [Wb8,bsx,Nat.reduceAdd,Int.reduceLE,Int.reduceLT,Int.reduceToNat,RunS.l H1]
 refine RunS.stP H1 λh2 H2=>?_
 try simp only [Wb8,bsx,Nat.reduceAdd,Int.reduceLE,Int.reduceLT,Int.reduceToNat,RunS.l H2]
 refine Wa0 (YZ5 H2 A.skip hl (by show (x.t.fr.dropLast ++ [_]).length < _;simp;omega) λh3 b' o' h1 h2 H3=>k h3 b' o' (λe=>h1 b o rfl e) h2 (RunS.drp H3))
theorem WH3 (H:Sat h (RunS M T tv (some (b,o)) x R)) {pc fn:Int} {l:Nat} (rs:List Int) {ty:TypeId} (hr:rs.length=l) (hu:∀v ∈ rs,U v) (hl:Nat.ble l 10=true) (hd:x.t.fr.length < 1073741823)
  (k:∀h' b' o',¬ (b' = b/\o' = o)->WO9 h' (some (b,o)) (x.pc pc).f->Sat h' (RunS M T tv (some (b',o')) (x.call pc fn rs) R)->K (.tuple #[]) h') :
  Wa5 Tryz.prog 186 #[rV M T b o,iQ pc,iQ fn,.slice (some (aQ h.size)) l l] (h.push (.cells (uvs rs).toArray ty)) K:=
 Wz6 (RunS.new H (.cells (uvs rs).toArray ty)) (Args.mk' hr hu) (Nat.le_of_ble_eq_true hl) hd λh' b' o' h1 h2 H'=>k h' b' o' h1 h2 (RunS.drp H')
theorem Wo9 (H:Sat h (RunS M T tv fo x R)) {n f:Int} (hf:iN f) (k:∀h',Old h.size h h'->K (iQ (x.na n f)) h') :
  Wa5 Tryz.prog 270 #[rV M T b o,uQ n,iQ f] h K:=by
 refine call270 ?_
 unfold F270 g270 cf lP Wm8
 have oo:Old h.size h (h.push (.cells #[mP M,mP T,fP b o] 202)):=(Old.refl _ _).push _ (Nat.le_refl _)
 have s1:=oo.1
 have H1:=RunS.new H (.cells #[mP M,mP T,fP b o] 202);generalize h.push (.cells #[mP M,mP T,fP b o] 202)=h1 at *;generalize h.size=N at *
 try simp only [Wb8,bsx,Nat.reduceAdd,Int.reduceLE,Int.reduceLT,Int.reduceToNat,RunS.l H1]
 refine Wa0 (Ws3 H1 λh2 o2=>WF3 ?_)
 refine Wa0 (Wf7 (RunS.pl H) (Wi8 _) hf λh3 o3=>?_)
 refine sb ?_
 exact k h3 (oo.trans ((o2.trans (o3.mono o2.1)).mono s1))
theorem Wd6 (H:Sat h (RunS M T tv fo x R)) {n r:Int} (k:∀h',Old h.size h h'->K (iQ (x.nlink n r)) h') :
  Wa5 Tryz.prog 182 #[rV M T b o,uQ n,uQ r] h K:=by
 refine call182 ?_
 unfold F182 g182 cf dl3
 have oo:Old h.size h (h.push (.cells #[mP M,mP T,fP b o] 202)):=(Old.refl _ _).push _ (Nat.le_refl _)
 have s1:=oo.1
 have H1:=RunS.new H (.cells #[mP M,mP T,fP b o] 202);generalize h.push (.cells #[mP M,mP T,fP b o] 202)=h1 at *;generalize h.size=N at *
 try simp only [Wb8,bsx,Nat.reduceAdd,Int.reduceLE,Int.reduceLT,Int.reduceToNat,RunS.l H1]
 refine Wa0 (Wo9 H1 (Wi8 _) λh2 o2=>?_)
 refine sb ?_
 have e:x.na n (s64 (5+s64 r))=x.nlink n r:=YB7 (RunS.pl H) (Wi8 _)
 rw [e]
 exact k h2 (oo.trans (o2.mono s1))
theorem Wn6 (H:Sat h (RunS M T tv fo x R)) {a w t:Int} {mk:Bool} (ha:iN a) (hw:U w) (hs:x.m.mm.st < 1099511627776) (k:∀h',Sat h' (RunS M T tv fo (x.swingM a w t mk).2 R)->K (.bool (x.swingM a w t mk).1) h') :
  Wa5 Tryz.prog 187 #[rV M T b o,iQ a,uQ w,uQ t,.bool mk] h K:=by
 refine call187 ?_
 unfold F187 g187 cf ce
 have H1:=RunS.new H (.cells #[mP M,mP T,fP b o] 202);generalize h.push (.cells #[mP M,mP T,fP b o] 202)=h1 at *;generalize h.size=N at *
 try simp only [Wb8,bsx,Nat.reduceAdd,Int.reduceLE,Int.reduceLT,Int.reduceToNat,RunS.l H1]
 refine Wa0 (Wg9 hw ?_)
 try simp only [Wb8,bsx,Nat.reduceAdd,Int.reduceLE,Int.reduceLT,Int.reduceToNat,RunS.l H1]
 refine Wa0 (Zs6 H1 ha Wq3 hs λh3 H3=>?_)
 refine sb ?_
 exact k h3 (RunS.drp H3)
theorem W30 (H:Sat h (RunS M T tv (some (b,o)) x R)) {k7 k8 k9:Int} (h7:U k7) (h8:U k8) (h9:U k9) (hd:x.t.fr.length < 1073741823)
  (k:∀h' b' o',Sat h' (RunS M T tv (some (b',o')) (x.fin k7 k8 k9) R)->K (.tuple #[]) h') :
  Wa5 Tryz.prog 271 #[rV M T b o,uQ k7,uQ k8,uQ k9] h K:=by
 refine call271 ?_
 unfold F271 g271 cf ce bd lP nP dl3
 have H1:=RunS.new H (.cells #[mP M,mP T,fP b o] 202);generalize h.push (.cells #[mP M,mP T,fP b o] 202)=h1 at *;generalize h.size=N at *
 try simp only [Wb8,bsx,Nat.reduceAdd,Int.reduceLE,Int.reduceLT,Int.reduceToNat,RunS.l H1]
 refine RunS.stR (i:=7) H1 rfl h7 λh2 H2=>?_
 try simp only [Wb8,bsx,Nat.reduceAdd,Int.reduceLE,Int.reduceLT,Int.reduceToNat,RunS.l H2]
 refine RunS.stR (i:=8) H2 rfl h8 λh3 H3=>?_
 try simp only [Wb8,bsx,Nat.reduceAdd,Int.reduceLE,Int.reduceLT,Int.reduceToNat,RunS.l H3]
 refine RunS.stR (i:=9) H3 rfl h9 λh4 H4=>?_
 try simp only [Wb8,bsx,Nat.reduceAdd,Int.reduceLE,Int.reduceLT,Int.reduceToNat,RunS.l H4]
 refine Wa0 (Wz6 H4 Args.none (by omega) ?_ λh5 b' o' h1 h2 H5=>k h5 b' o' (RunS.drp H5))
 have e:=List.length_pos_iff.2 (WU1 (RunS.thr H))
 show ((((x.t.fr.dropLast ++ [_]).dropLast ++ [_]).dropLast) ++ [_]).length < _
 simp
 omega
theorem Wu9 (H:Sat h (RunS M T tv (some (b,o)) x R)) {kd:Int} (h7:U kd) (hd:x.t.fr.length < 1073741823)
  (k:∀h' b' o',Sat h' (RunS M T tv (some (b',o')) (x.fin kd 0 0) R)->K (.tuple #[]) h') :
  Wa5 Tryz.prog 185 #[rV M T b o,uQ kd] h K:=by
 refine call185 ?_
 unfold F185 g185 cf dl3
 have H1:=RunS.new H (.cells #[mP M,mP T,fP b o] 202);generalize h.push (.cells #[mP M,mP T,fP b o] 202)=h1 at *;generalize h.size=N at *
 try simp only [Wb8,bsx,Nat.reduceAdd,Int.reduceLE,Int.reduceLT,Int.reduceToNat,RunS.l H1]
 exact Wa0 (W30 H1 h7 U0 U0 hd λh5 b' o' H5=>k h5 b' o' (RunS.drp H5))
theorem WO1 (H:Sat h (RunS M T tv fo x R)) (O:Ok x) {sl n:Int} (hs:U sl) (hn:U n) (k:∀h',Sat h' (RunS M T tv fo (x.guard sl n) R)->K (.tuple #[]) h') :
  Wa5 Tryz.prog 190 #[rV M T b o,uQ sl,uQ n] h K:=by
 refine call190 ?_
 unfold F190 g190 cf lP nP ZE1 Wm8 WG2 ce
 have P:=RunS.pl H
 have P1:=P.sl
 have H1:=RunS.new H (.cells #[mP M,mP T,fP b o] 202);generalize h.push (.cells #[mP M,mP T,fP b o] 202)=h1 at *;generalize h.size=N at *
 try simp only [Wb8,bsx,Nat.reduceAdd,Int.reduceLE,Int.reduceLT,Int.reduceToNat,RunS.l H1]
 refine Wa0 (Ws3 H1 λh2 o2=>WF3 ?_)
 have H2:=RunS.old H1 o2
 have H3:=RunS.new H2 (.cells Ws5 117)
 generalize h2.push (.cells Ws5 117)=h3 at *
 generalize h2.size=N2 at *
 refine Zd4 (Wd9 (vs:=plc x.m.p) (RunS.loc H3) rfl (by simp [Wi4]) λh4 w=>?_)
 have H4:=RunS.wr H3 w.new w.old
 clear H3 w
 try simp only [Wb8,bsx,Nat.reduceAdd,Int.reduceLE,Int.reduceLT,Int.reduceToNat,RunS.l2 H4]
 refine Ye3 (RunS.loc H4) ?_
 try simp only [Wb8,bsx,Nat.reduceAdd,Int.reduceLE,Int.reduceLT,Int.reduceToNat,RunS.l2 H4,RunS.tc H4]
 refine Ye3 (RunS.loc H4) ?_
 refine Wa0 (Wn5 λh5 o5=>?_)
 have H5:=RunS.old H4 o5
 try simp only [Wb8,bsx,Nat.reduceAdd,Int.reduceLE,Int.reduceLT,Int.reduceToNat,RunS.l2 H5,RunS.tc H5]
 refine Y03 (RunS.loc H5) ?_
 have es:s64 (s64 (x.m.p.slots - 1) - s64 (Mod.u64 ((((BitVec.ofInt 64 sl) &&& (BitVec.ofInt 64 1)).toNat:Nat):Int)))=x.m.p.slots - 1 - sl % 2:=by
  rw [and1 hs]
  unfold s64
  omega
 try rw [es]
 refine Wa0 (Wq4 P O.id ⟨by omega,by omega⟩ λh6 o6=>?_)
 have H6:=RunS.old H5 o6
 try simp only [Wb8,bsx,Nat.reduceAdd,Int.reduceLE,Int.reduceLT,Int.reduceToNat,RunS.l2 H6]
 exact Wa0 (Wj3 H6 (WN9 P _ _) hn O.st λh7 H7=>k h7 (RunS.drp (RunS.drp H7)))
theorem Wi3 {w:Int} (hw:U w) (k:K (uQ (Wg8 w)) h):Wa5 Tryz.prog 183 #[uQ w] h K:=by
 refine call183 ?_
 unfold F183 cf
 refine Wa0 (Wf3 hw ?_)
 refine sb ?_
 exact k
theorem Wq7 {w:Int} (hw:U w) (k:K (.bool (Wq2 w)) h):Wa5 Tryz.prog 184 #[uQ w] h K:=by
 refine call184 ?_
 unfold F184 cf
 refine Wa0 (Wi1 hw ?_)
 refine sb ?_
 exact k
end
end
section
open Mod
section
variable {K:kQ} {h:Wa2} {M T b o N:Nat} {tv:Value} {fo:Option (Nat × Nat)} {x:Run} {R:Hp}
theorem Yp8 {u v w:Int} (h1:U u) (h2:U v) (h3:U w):∀y ∈ [u,v,w],U y:=by
 intro y hy
 simp only [List.mem_cons,List.not_mem_nil,or_false] at hy
 rcases hy with rfl | rfl | rfl
 ·exact h1
 ·exact h2
 ·exact h3
theorem Yp9 (H:Sat h (RunS M T tv (some (b,o)) x R)) (O:Ok x) (k:∀h',Sat h' (RunS M T tv none (WS8 x) R)->K (.tuple #[]) h') :
  Wa5 Tryz.prog 108 #[rV M T b o] h K:=by
 refine call108 ?_
 unfold F108 g108 cf lP lI nP dl3
 have hp:=O.pc
 unfold WS8 at k
 have H1:=RunS.new H (.cells #[mP M,mP T,fP b o] 193);generalize h.push (.cells #[mP M,mP T,fP b o] 193)=h1 at *;generalize h.size=N at *
 refine ss H1 ?_
 refine Wa3 (λc=>?_) (λc=>?_)
 ·rw [if_pos c] at k
  exact Wa0 (Yo9 H1 O c λh2 H2=>k h2 (RunS.drp H2))
 rw [if_neg c] at k
 refine Wa3 (λc=>?_) (λc=>?_)
 ·rw [if_pos c] at k
  exact Wa0 (Yp0 H1 O (by omega) λh2 H2=>k h2 (RunS.drp H2))
 rw [if_neg c] at k
 refine Wa3 (λc=>?_) (λc=>?_)
 ·rw [if_pos c] at k
  exact Wa0 (Yp1 H1 O (by omega) λh2 H2=>k h2 (RunS.drp H2))
 rw [if_neg c] at k
 exact Wa0 (YJ8 H1 O λh2 H2=>k h2 (RunS.drp H2))
theorem Yq0 (H:Sat h (RunS M T tv (some (b,o)) x R)) (O:Ok x) (k:∀h',Sat h' (RunS M T tv none (WM3 x) R)->K (.tuple #[]) h') :
  Wa5 Tryz.prog 156 #[rV M T b o] h K:=by
 refine call156 ?_
 unfold F156 g156 cf ce bd lP lI nP da3
 have B:=RunS.fB H
 have P:=RunS.pl H
 have hd:=O.fr
 have r0:=RunS.ret H 0
 unfold WM3 at k
 dsimp only at k
 have H1:=RunS.new H (.cells #[mP M,mP T,fP b o] 194);generalize h.push (.cells #[mP M,mP T,fP b o] 194)=h1 at *;generalize h.size=N at *
 refine ss H1 ?_
 refine Wa0 (Wi2 0 rfl H1 λh2 H2=>?_)
 refine ss H2 ?_
 refine Wa3 (λc=>?_) (λc=>?_)
 ·rw [if_pos c] at k
  refine Wa0 (Wz4 H2 λh3 H3=>?_)
  refine ss H3 ?_
  exact Wa0 (Wx2 H3 [0,u64 (x.at 1)] rfl (Yf3 U0 (Wk4 _)) rfl (by omega) λh4 b' o' _ _ H4=>k h4 (RunS.drp (RunS.none H4)))
 rw [if_neg c] at k
 refine Wa3 (λc=>?_) (λc=>?_)
 ·rw [if_pos c] at k
  refine RunS.stR (i:=0) H2 rfl r0 λh3 H3=>RunS.stP H3 λh4 H4=>?_
  have l1:=Ws9 x 0 (x.ret 0)
  have l2:=WF9 (x.s 0 (x.ret 0)) 2
  refine ss H4 ?_
  refine Wa0 (Wi2 0 rfl H4 λh5 H5=>?_)
  try simp +decide only [Wb8,bsx,Nat.reduceAdd,Int.reduceLE,Int.reduceLT,Int.reduceToNat,rsx,g_s,Wa7,RunS.al H5,B.len]
  refine Wa0 (Wi1 r0 ?_)
  refine ss H5 ?_
  refine Wb6 (λc2=>?_) (λc2=>?_)
  ·rw [if_pos c2] at k
   exact Wa0 (Wx2 H5 [1] rfl (Wn8 (U.lit rfl)) rfl (by omega) λh6 b' o' _ _ H6=>k h6 (RunS.drp (RunS.none H6)))
  ·rw [if_neg (by rw [c2];simp)] at k
   refine Wa0 (Wi2 0 rfl H5 λh6 H6=>?_)
   try simp +decide only [Wb8,bsx,Nat.reduceAdd,Int.reduceLE,Int.reduceLT,Int.reduceToNat,rsx,g_s,Wa7,RunS.al H6,B.len]
   refine Wa0 (Wf3 r0 ?_)
   refine ss H6 ?_
   refine Wa3 (λc3=>?_) (λc3=>?_)
   ·rw [if_pos c3] at k
    exact Wa0 (Wx3 H6 (U.lit rfl) U0 U0 (by omega) λh7 b' o' _ _ H7=>k h7 (RunS.drp (RunS.none H7)))
   ·rw [if_neg c3] at k
    exact k h6 (RunS.drp (RunS.none H6))
 rw [if_neg c] at k
 refine Wa3 (λc=>?_) (λc=>?_)
 ·rw [if_pos c] at k
  refine Wa0 (WE6 H2 (B.g 0) (by decide) λh3 H3=>?_)
  refine ss H3 ?_
  refine Wa0 (Wg2 H3 (Wc9 P _ _) O.st λh4 H4 u4=>?_)
  refine ss H4 ?_
  exact RunS.stR (i:=1) H4 rfl u4 λh5 H5=>RunS.stP H5 λh6 H6=>k h6 (RunS.drp (RunS.none H6))
 rw [if_neg c] at k
 refine Wa3 (λc=>?_) (λc=>?_)
 ·rw [if_pos c] at k
  refine Wa0 (WE6 H2 (B.g 0) (by decide) λh3 H3=>?_)
  refine ss H3 ?_
  refine Wa0 (Wg2 H3 (Wc9 P _ _) O.st λh4 H4 u4=>?_)
  refine ss H4 ?_
  refine RunS.stR (i:=2) H4 rfl u4 λh5 H5=>RunS.stP H5 λh6 H6=>?_
  have l1:=Ws9 (x.load (x.nodeW (x.f.g 0) 1)).2 2 (x.load (x.nodeW (x.f.g 0) 1)).1
  have l2:=WF9 ((x.load (x.nodeW (x.f.g 0) 1)).2.s 2 (x.load (x.nodeW (x.f.g 0) 1)).1) 4
  rw [YZ7] at l1
  try simp +decide only [Wb8,bsx,Nat.reduceAdd,Int.reduceLE,Int.reduceLT,Int.reduceToNat,rsx,g_s,Wa7,RunS.al H6,B.len]
  refine Wa3 (λc2=>?_) (λc2=>?_)
  ·rw [if_pos c2] at k
   exact Wa0 (Wx3 H6 (U.lit rfl) (B.g 1) u4 (by omega) λh7 b' o' _ _ H7=>k h7 (RunS.drp (RunS.none H7)))
  ·rw [if_neg c2] at k
   exact k h6 (RunS.drp (RunS.none H6))
 rw [if_neg c] at k
 exact k h2 (RunS.drp (RunS.none H2))
theorem Yq1 (H:Sat h (RunS M T tv (some (b,o)) x R)) (O:Ok x) (k:∀h',Sat h' (RunS M T tv none (WM4 x) R)->K (.tuple #[]) h') :
  Wa5 Tryz.prog 109 #[rV M T b o] h K:=by
 refine call109 ?_
 unfold F109 g109 cf ce bd lP lI nP da3 dl3
 have B:=RunS.fB H
 have P:=RunS.pl H
 have hd:=O.fr
 unfold WM4 at k
 dsimp only at k
 have H1:=RunS.new H (.cells #[mP M,mP T,fP b o] 194);generalize h.push (.cells #[mP M,mP T,fP b o] 194)=h1 at *;generalize h.size=N at *
 refine ss H1 ?_
 refine Wa0 (Wi2 0 rfl H1 λh2 H2=>?_)
 refine ss H2 ?_
 refine Wa3 (λc=>?_) (λc=>?_)
 ·rw [if_pos c] at k
  refine Wa0 (WE6 H2 (B.g 0) (by decide) λh3 H3=>?_)
  refine ss H3 ?_
  refine Wa0 (Wg2 H3 (Wc9 P _ _) O.st λh4 H4 u4=>?_)
  refine ss H4 ?_
  exact RunS.stR (i:=3) H4 rfl u4 λh5 H5=>RunS.stP H5 λh6 H6=>k h6 (RunS.drp (RunS.none H6))
 rw [if_neg c] at k
 refine Wa3 (λc=>?_) (λc=>?_)
 ·rw [if_pos c] at k
  refine RunS.stP H2 λh3 H3=>?_
  have l1:=WF9 x 0
  refine ss H3 ?_
  refine Wa0 (WG8 H3 (B.g 0) O.st λh4 H4=>?_)
  refine ss H4 ?_
  refine Wb6 (λc2=>?_) (λc2=>?_)
  ·rw [if_pos c2] at k
   exact Wa0 (Wx2 H4 [1] rfl (Wn8 (U.lit rfl)) rfl (show (x.pc 0).t.fr.length < _ by omega) λh6 b' o' _ _ H6=>k h6 (RunS.drp (RunS.none H6)))
  ·rw [if_neg (by rw [c2];simp)] at k
   exact k h4 (RunS.drp (RunS.none H4))
 rw [if_neg c] at k
 refine Wa3 (λc=>?_) (λc=>?_)
 ·rw [if_pos c] at k
  refine Wa0 (Wf3 (B.g 0) ?_)
  refine ss H2 ?_
  exact Wa0 (Wx2 H2 [Wg8 (x.f.g 0)] rfl (Wn8 (Wj4 _)) rfl (by omega) λh6 b' o' _ _ H6=>k h6 (by rw [W65];exact RunS.drp (RunS.none H6)))
 rw [if_neg c] at k
 refine Wa3 (λc=>?_) (λc=>?_)
 ·rw [if_pos c] at k
  exact Wa0 (Wx3 H2 (U.lit rfl) (B.g 1) (B.g 2) (by omega) λh7 b' o' _ _ H7=>k h7 (RunS.drp (RunS.none H7)))
 rw [if_neg c] at k
 exact Wa0 (Yq0 H2 O λh3 H3=>k h3 (RunS.drp H3))
theorem WW2 (H:Sat h (RunS M T tv (some (b,o)) x R)) (O:Ok x) (k:∀h',Sat h' (RunS M T tv none (WO7 x) R)->K (.tuple #[]) h') :
  Wa5 Tryz.prog 159 #[rV M T b o] h K:=by
 refine call159 ?_
 unfold F159 g159 cf ce bd lP nP da3
 have B:=RunS.fB H
 have P:=RunS.pl H
 unfold WO7 at k
 dsimp only at k
 have H1:=RunS.new H (.cells #[mP M,mP T,fP b o] 195);generalize h.push (.cells #[mP M,mP T,fP b o] 195)=h1 at *;generalize h.size=N at *
 refine ss H1 ?_
 refine Wa0 (Wi2 1 rfl H1 λh2 H2=>?_)
 refine ss H2 ?_
 refine RunS.stP H2 λh3 H3=>?_
 refine ss H3 ?_
 refine Wa0 (Wf3 (B.g 1) ?_)
 refine ss H3 ?_
 refine Wa0 (WG8 H3 (B.g 1) O.st λh4 H4=>?_)
 refine ss H4 ?_
 refine Wb6 (λc2=>?_) (λc2=>?_)
 ·rw [if_pos c2] at k
  try simp +decide only [Wb8,bsx,Nat.reduceAdd,Int.reduceLE,Int.reduceLT,Int.reduceToNat,rsx,g_s,Wa7,RunS.al H4]
  exact Wa0 (Zd6 H4 Args.none (by omega) λh5 H5=>k h5 (RunS.drp H5))
 ·rw [if_neg (by rw [c2];simp)] at k
  exact k h4 (RunS.drp (RunS.none H4))
theorem Yq2 (H:Sat h (RunS M T tv (some (b,o)) x R)) (O:Ok x) (k:∀h',Sat h' (RunS M T tv none (WS9 x) R)->K (.tuple #[]) h') :
  Wa5 Tryz.prog 160 #[rV M T b o] h K:=by
 refine call160 ?_
 unfold F160 g160 cf bd lP lI nP da3 dl3
 have B:=RunS.fB H
 have P:=RunS.pl H
 have hd:=O.fr
 have r0:=RunS.ret H 0
 have r1:=RunS.ret H 1
 unfold WS9 at k
 dsimp only at k
 have H1:=RunS.new H (.cells #[mP M,mP T,fP b o] 195);generalize h.push (.cells #[mP M,mP T,fP b o] 195)=h1 at *;generalize h.size=N at *
 refine ss H1 ?_
 refine Wa3 (λc=>?_) (λc=>?_)
 ·rw [if_pos c] at k
  exact Wa0 (Wx2 H1 [x.f.g 0] rfl (Wn8 (B.g 0)) rfl (by omega) λh4 b' o' _ _ H4=>k h4 (RunS.drp (RunS.none H4)))
 rw [if_neg c] at k
 refine Wa3 (λc=>?_) (λc=>?_)
 ·rw [if_pos c] at k
  refine RunS.stR (i:=1) H1 rfl r0 λh2 H2=>?_
  try simp +decide only [Wb8,bsx,Nat.reduceAdd,Int.reduceLE,Int.reduceLT,Int.reduceToNat,rsx,g_s,Wa7,RunS.al H2]
  refine RunS.stR (i:=2) H2 rfl r1 λh3 H3=>RunS.stP H3 λh4 H4=>?_
  refine ss H4 ?_
  refine Wa0 (Wi2 1 rfl H4 λh5 H5=>?_)
  try simp +decide only [Wb8,bsx,Nat.reduceAdd,Int.reduceLE,Int.reduceLT,Int.reduceToNat,rsx,g_s,Wa7,RunS.al H5,B.len]
  refine Wa0 (Wi1 r0 ?_)
  refine ss H5 ?_
  refine Wb6 (λc2=>?_) (λc2=>?_)
  ·rw [if_neg (by simpa using c2)] at k
   exact Wa0 (Zd6 H5 Args.none (by omega) λh6 H6=>k h6 (RunS.drp H6))
  ·rw [if_pos (by simpa using c2)] at k
   exact k h5 (RunS.drp (RunS.none H5))
 rw [if_neg c] at k
 refine Wa3 (λc=>?_) (λc=>?_)
 ·rw [if_pos c] at k
  refine RunS.stP H1 λh2 H2=>?_
  refine ss H2 ?_
  refine Wa0 (Wg2 H2 (by decide) O.st λh3 H3 u3=>?_)
  refine ss H3 ?_
  refine Wa0 (Yo8 (Wi8 _) ?_)
  refine ss H3 ?_
  refine Wb6 (λc2=>?_) (λc2=>?_)
  ·rw [if_pos c2] at k
   exact RunS.stP H3 λh4 H4=>k h4 (RunS.drp (RunS.none H4))
  ·rw [if_neg (by rw [c2];simp)] at k
   exact k h3 (RunS.drp (RunS.none H3))
 rw [if_neg c] at k
 refine Wa3 (λc=>?_) (λc=>?_)
 ·rw [if_pos c] at k
  exact Wa0 (WW2 H1 O λh2 H2=>k h2 (RunS.drp H2))
 rw [if_neg c] at k
 exact k h1 (RunS.drp (RunS.none H1))
theorem ZG5:und Tryz.prog 184=.pointer 190:=by kernel_rfl
theorem Y24 {P:Program} (d:Nat) {t el:TypeId} {a b:Addr} (hu:P.underlying t=some (.pointer el)) (hth:Wf4 P el=true) (hsz:siz P el≠0) (F:Bool->Wa2->Prop) (h:Wa2) (H:hp P (sameAddr a b) F h):hp P (Op.equalIn (d+1) t (.pointer (some a)) (.pointer (some b))) F h:=by
 simp only [Op.equalIn,Wa6,Wa8 hu,Wd7 hth]
 rw [if_pos hsz]
 exact H
theorem Zx7 {h:Wa2} {p q:Nat} {K:kQ} (k:K (.bool true) h):Zr4 Tryz.prog .eql 184 (some ⟨p,q,none⟩) (some ⟨p,q,none⟩) h K:=by
 unfold Zr4
 rw [Wh1 (by simp) (by simp) (by simp) (by simp),Wf9]
 refine Y24 9999 (Wc6 ZG5 (by simp)) YA5 (by rw [W22];omega) _ _ ?_
 unfold sameAddr
 simp only [beq_self_eq_true,if_true]
 exact k
theorem WO2 (H:Sat h (RunS M T tv (some (b,o)) x R)) (O:Ok x) {at_:Nat} {next place:Int} (ha:at_<=8) (hp:U place)
  (k1:Wq2 (x.ret 0)=true->∀h',Wa1 h' ⟨b,o+1,none⟩=some (iQ 0)->Sat h' (RunS M T tv none (Wr6 x at_ next place) R)->K (.tuple #[]) h')
  (k0:Wq2 (x.ret 0)=false->∀h',Sat h' (RunS M T tv (some (b,o)) (Wr6 x at_ next place) R)->K (.tuple #[]) h') :
  Wa5 Tryz.prog 157 #[rV M T b o,iQ (at_:Int),iQ next,uQ place] h K:=by
 refine call157 ?_
 unfold F157 g157 cf bd lP lI nP da3
 have B:=RunS.fB H
 have hd:=O.fr
 have r0:=RunS.ret H 0
 have r1:=RunS.ret H 1
 unfold Wr6 at k1 k0
 dsimp only at k1 k0
 have e1:s64 ((at_:Int)+1)=((at_+1:Nat):Int):=by unfold s64;omega
 have H1:=RunS.new H (.cells #[mP M,mP T,fP b o] 195);generalize h.push (.cells #[mP M,mP T,fP b o] 195)=h1 at *;generalize h.size=N at *
 try simp +decide only [Wb8,bsx,Nat.reduceAdd,Int.reduceLE,Int.reduceLT,Int.reduceToNat,rsx,g_s,Wa7,RunS.al H1,e1]
 refine ⟨by omega,by omega,?_⟩
 rw [show o+(2+at_)=o+(at_+2) by omega]
 refine RunS.stR (i:=at_) H1 (by rw [Nat.ble_eq];omega) r0 λh2 H2=>?_
 refine ⟨by omega,by omega,?_⟩
 rw [show o+(2+(at_+1))=o+(at_+1+2) by omega]
 refine RunS.stR (i:=at_+1) H2 (by rw [Nat.ble_eq];omega) r1 λh3 H3=>RunS.stP H3 λh4 H4=>?_
 refine ss H4 ?_
 have hfl:(((x.s at_ (x.ret 0)).s (at_+1) (x.ret 1)).pc next).t.fr.length<=x.t.fr.length+3:=by
  have l1:=Ws9 x at_ (x.ret 0)
  have l2:=Ws9 (x.s at_ (x.ret 0)) (at_+1) (x.ret 1)
  have l3:=WF9 ((x.s at_ (x.ret 0)).s (at_+1) (x.ret 1)) next
  omega
 refine Wa0 (Wi2 at_ (by rw [Nat.ble_eq];omega) H4 λh5 H5=>?_)
 have eg:(((x.s at_ (x.ret 0)).s (at_+1) (x.ret 1)).pc next).f.g at_=x.ret 0:=by
  rw [WF2,f_s,f_s,WP0,Wa7 _ (by omega),g_s B.len (by omega)]
 rw [eg]
 refine ss H5 ?_
 refine Wa0 (Wi1 r0 ?_)
 refine ss H5 ?_
 refine Wb6 (λc=>?_) (λc=>?_)
 ·rw [if_pos c] at k1
  refine Wa0 (Wx2 H5 [place] rfl (Wn8 hp) rfl (by omega) λh6 b' o' _ st H6=>k1 c h6 ?_ (RunS.drp (RunS.none H6)))
  refine st b o 1 _ rfl ?_
  rw [WF2]
  rfl
 ·rw [if_neg (by rw [c];simp)] at k0
  exact k0 c h5 (RunS.drp H5)
theorem WW3 (H:Sat h (RunS M T tv (some (b,o)) x R)) (O:Ok x) {at_:Nat} {place:Int} (ha:at_<=8) (hp:U place) (k:∀h',Sat h' (RunS M T tv none (WO8 x at_ place) R)->K (.tuple #[]) h') :
  Wa5 Tryz.prog 158 #[rV M T b o,iQ (at_:Int),uQ place] h K:=by
 refine call158 ?_
 unfold F158 g158 cf ce bd lP lI nP da3
 have B:=RunS.fB H
 have P:=RunS.pl H
 unfold WO8 at k
 dsimp only at k
 have H1:=RunS.new H (.cells #[mP M,mP T,fP b o] 195);generalize h.push (.cells #[mP M,mP T,fP b o] 195)=h1 at *;generalize h.size=N at *
 refine ss H1 ?_
 refine Wa0 (Wi2 1 rfl H1 λh2 H2=>?_)
 refine ss H2 ?_
 refine Wa0 (Wi2 at_ (by rw [Nat.ble_eq];omega) H2 λh3 H3=>?_)
 refine ss H3 ?_
 refine RunS.stP H3 λh4 H4=>?_
 refine ss H4 ?_
 refine Wa0 (Wz4 H4 λh5 H5=>?_)
 refine ss H5 ?_
 refine Wa0 (Wf3 (B.g at_) ?_)
 refine ss H5 ?_
 refine Wa0 (Wg9 (B.g 1) ?_)
 refine ss H5 ?_
 refine Wa0 (Wz4 H5 λh6 H6=>?_)
 refine ss H6 ?_
 refine Wa0 (Wf3 (B.g 1) ?_)
 refine ss H6 ?_
 refine Wa0 (Wg9 (B.g at_) ?_)
 refine ss H6 ?_
 refine Wa0 (ZN8 H6 (Y19 P _) (Y19 P _) Wq3 Wq3 O.st λh7 H7=>?_)
 refine ss H7 ?_
 refine Wb6 (λc=>?_) (λc=>?_)
 ·rw [if_pos c] at k
  exact RunS.stR (i:=0) H7 rfl hp λh8 H8=>k h8 (RunS.drp (RunS.none H8))
 ·rw [if_neg (by rw [c];simp)] at k
  exact k h7 (RunS.drp (RunS.none H7))
theorem Yq3 (H:Sat h (RunS M T tv (some (b,o)) x R)) (O:Ok x) (k:∀h',Sat h' (RunS M T tv none (WT0 x) R)->K (.tuple #[]) h') :
  Wa5 Tryz.prog 110 #[rV M T b o] h K:=by
 refine call110 ?_
 unfold F110 g110 cf bd lP lI nP da3 dl3
 have B:=RunS.fB H
 have P:=RunS.pl H
 have hd:=O.fr
 unfold WT0 at k
 dsimp only at k
 have hl:U (u64 (2*x.f.g 0)):=Wk4 _
 have H1:=RunS.new H (.cells #[mP M,mP T,fP b o] 195);generalize h.push (.cells #[mP M,mP T,fP b o] 195)=h1 at *;generalize h.size=N at *
 refine ss H1 ?_
 generalize hle:u64 (2*x.f.g 0)=left at *
 refine Wa3 (λc=>?_) (λc=>?_)
 ·rw [if_pos c] at k
  exact Wa0 (Wx2 H1 [left] rfl (Wn8 hl) rfl (by omega) λh4 b' o' _ _ H4=>k h4 (RunS.drp (RunS.none H4)))
 rw [if_neg c] at k
 refine Wa3 (λc=>?_) (λc=>?_)
 ·rw [if_pos c] at k
  refine Wa0 (WO2 (at_:=3) H1 O (by omega) hl (λcm h2 e2 H2=>?_) λcm h2 H2=>?_)
  ·rw [if_pos cm] at k
   refine ⟨λvs h'=>vs = [.bool false]/\h' = h2,?_,?_⟩
   ·refine Wb4 e2 ?_
    refine sb ?_
    rw [show ((0:Int) == 6)=false from rfl]
    try simp only [Wb8,bsx,Nat.reduceAdd,Int.reduceLE,Int.reduceLT,Int.reduceToNat]
   rintro v30 g31 h32 ⟨e,rfl⟩
   cases e
   refine sb ?_
   exact k h32 (RunS.drp H2)
  ·rw [if_neg (by rw [cm];simp)] at k
   have epc:(Wr6 x 3 6 left).f.pc=6:=by
    unfold Wr6
    dsimp only
    rw [if_neg (by rw [cm];simp)]
    try simp +decide only [Wb8,bsx,Nat.reduceAdd,Int.reduceLE,Int.reduceLT,Int.reduceToNat,rsx,g_s,Wa7,B.len]
   have efl:(Wr6 x 3 6 left).t.fr.length<=x.t.fr.length+3:=by
    unfold Wr6
    dsimp only
    rw [if_neg (by rw [cm];simp)]
    have l1:=Ws9 x 3 (x.ret 0)
    have l2:=Ws9 (x.s 3 (x.ret 0)) (3+1) (x.ret 1)
    have l3:=WF9 ((x.s 3 (x.ret 0)).s (3+1) (x.ret 1)) 6
    omega
   refine ⟨λvs h'=>vs = [.bool true]/\h' = h2,?_,?_⟩
   ·try simp +decide only [Wb8,bsx,Nat.reduceAdd,Int.reduceLE,Int.reduceLT,Int.reduceToNat,rsx,g_s,Wa7,RunS.al H2,epc]
    rw [show ((6:Int) == 6)=true from rfl]
    refine sb ?_
    refine Wa0 (Zi3 H2 (λhn=>absurd hn (List.length_pos_iff.1 (ZO3 H2))) λb2 o2 _ hbo _=>?_)
    obtain ⟨rfl,rfl⟩:=hbo b o rfl
    refine sb ?_
    exact Zx7 (by simp only [Wa9];trivial)
   rintro v30 g31 h32 ⟨e,rfl⟩
   cases e
   refine ss H2 ?_
   exact Wa0 (Wx2 H2 [u64 (left+1)] rfl (Wn8 (Wk4 _)) rfl (by omega) λh4 b' o' _ _ H4=>k h4 (RunS.drp (RunS.none H4)))
 rw [if_neg c] at k
 refine Wa3 (λc=>?_) (λc=>?_)
 ·rw [if_pos c] at k
  exact Wa0 (WO2 (at_:=5) H1 O (by omega) (Wk4 _) (λcm h2 e2 H2=>k h2 (RunS.drp H2)) λcm h2 H2=>k h2 (RunS.drp (RunS.none H2)))
 rw [if_neg c] at k
 refine Wa3 (λc=>?_) (λc=>?_)
 ·rw [if_pos c] at k
  refine ⟨λvs h'=>(∃w,vs = [.bool (decide (x.f.g 4<=x.f.g 6/\x.f.g 4 < x.f.g 2)),w])/\h' = h1,?_,?_⟩
  ·refine Wa3 (λc2=>?_) (λc2=>?_)
   ·rw [show decide (x.f.g 4 < x.f.g 2)=decide (x.f.g 4<=x.f.g 6/\x.f.g 4 < x.f.g 2) by rw [decide_eq_decide];omega]
    exact ⟨⟨_,rfl⟩,by trivial⟩
   ·rw [decide_eq_false (p:=x.f.g 4<=x.f.g 6/\x.f.g 4 < x.f.g 2) (by omega)]
    exact ⟨⟨_,rfl⟩,by trivial⟩
  rintro v57 v58 g59 h60 ⟨⟨w,e⟩,rfl⟩
  cases e
  refine sb ?_
  refine Wa3 (λc2=>?_) (λc2=>?_)
  ·rw [if_pos c2] at k
   refine ss H1 ?_
   exact Wa0 (WW3 (at_:=3) H1 O (by omega) hl λh2 H2=>k h2 (RunS.drp H2))
  rw [if_neg c2] at k
  refine ⟨λvs h'=>(∃w,vs = [.bool (decide (x.f.g 6 < x.f.g 4/\x.f.g 6 < x.f.g 2)),w])/\h' = h60,?_,?_⟩
  ·refine ss H1 ?_
   refine Wa3 (λc2=>?_) (λc2=>?_)
   ·rw [show decide (x.f.g 6 < x.f.g 2)=decide (x.f.g 6 < x.f.g 4/\x.f.g 6 < x.f.g 2) by rw [decide_eq_decide];omega]
    exact ⟨_,rfl⟩
   ·rw [decide_eq_false (p:=x.f.g 6 < x.f.g 4/\x.f.g 6 < x.f.g 2) (by omega)]
    exact ⟨_,rfl⟩
  rintro v57 v58 g59 h60 ⟨⟨w,e⟩,rfl⟩
  cases e
  refine ss H1 ?_
  refine Wa3 (λc3=>?_) (λc3=>?_)
  ·rw [if_pos c3] at k
   exact Wa0 (WW3 (at_:=5) H1 O (by omega) (Wk4 _) λh2 H2=>k h2 (RunS.drp H2))
  ·rw [if_neg c3] at k
   exact Wa0 (WW2 H1 O λh2 H2=>k h2 (RunS.drp H2))
 rw [if_neg c] at k
 exact Wa0 (Yq2 H1 O λh2 H2=>k h2 (RunS.drp H2))
theorem Yg1 (H:Sat h (RunS M T tv fo x R)) (O:Ok x) (k:∀h',Sat h' (RunS M T tv none (Wh5 x) R)->K (.tuple #[]) h') :
  Wa5 Tryz.prog 63 #[mP M,mP T] h K:=by
 refine call63 ?_
 unfold F63 cf bd lI nP dl3
 unfold Wh5 at k
 dsimp only at k
 refine Wa0 (Zi3 H (λe=>?_) λb o hne _ H1=>?_)
 ·rw [if_pos e] at k
  refine sb ?_
  refine ⟨λvs h'=>vs = [.bool true]/\h' = h,⟨rfl,rfl⟩,?_⟩
  rintro v4 g6 h7 ⟨e,rfl⟩
  cases e
  refine sb ?_
  exact k _ (RunS.none H)
 ·rw [if_neg hne] at k
  refine sb ?_
  refine ⟨λvs h'=>vs = [.bool false]/\h' = h,⟨rfl,rfl⟩,?_⟩
  rintro v4 g6 h7 ⟨e,rfl⟩
  cases e
  refine sb ?_
  have B:=RunS.fB H1
  have H2:=RunS.new H1 (.cells #[.pointer none,.pointer none,.pointer none] 187)
  generalize h7.push (.cells #[.pointer none,.pointer none,.pointer none] 187)=h2 at *
  generalize h7.size=N at *
  refine st3 (Wd9 (vs:=[mP M,mP T,fP b o]) (RunS.loc H2) rfl (by simp [Wi4]) λh3 w=>?_)
  have H3:Sat h3 (RunS M T tv (some (b,o)) x (pt N (.cells #[mP M,mP T,fP b o] 187)*R)):=RunS.wr H2 w.new w.old
  clear H2 w
  refine ss H3 ?_
  refine ⟨λvs h'=>(∃w1 w2,vs = [.bool (decide (x.f.pc=90/\11<=x.f.fn/\x.f.fn<=13)),w1,w2])/\h' = h3,?_,?_⟩
  ·refine Wa3 (λc=>?_) (λc=>?_)
   ·refine Wa3 (λc2=>?_) (λc2=>?_)
    ·rw [show decide (x.f.fn<=13)=decide (x.f.pc=90/\11<=x.f.fn/\x.f.fn<=13) by rw [decide_eq_decide];omega]
     exact ⟨⟨_,_,rfl⟩,by trivial⟩
    ·rw [decide_eq_false (p:=x.f.pc=90/\11<=x.f.fn/\x.f.fn<=13) (by omega)]
     exact ⟨⟨_,_,rfl⟩,by trivial⟩
   ·rw [decide_eq_false (p:=x.f.pc=90/\11<=x.f.fn/\x.f.fn<=13) (by omega)]
    exact ⟨⟨_,_,rfl⟩,by trivial⟩
  rintro v21 v22 v23 g24 h25 ⟨⟨w1,w2,e⟩,rfl⟩
  cases e
  refine ss H3 ?_
  refine Wa3 (λc=>?_) (λc=>?_)
  ·rw [if_pos c] at k
   exact Wa0 (ZC1 H3 [x.f.g 7,x.f.g 8,x.f.g 9] rfl (Yp8 (B.g 7) (B.g 8) (B.g 9)) rfl λh4 H4=>k h4 (RunS.drp H4))
  rw [if_neg c] at k
  refine Wa3 (λc=>?_) (λc=>?_)
  ·rw [if_pos c] at k
   exact Wa0 (YJ7 H3 O.st (by have:=O.fr;omega) λh4 H4=>k h4 (RunS.drp H4))
  rw [if_neg c] at k
  refine Wa3 (λc=>?_) (λc=>?_)
  ·rw [if_pos c] at k
   exact Wa0 (Yp9 H3 O λh4 H4=>k h4 (RunS.drp H4))
  rw [if_neg c] at k
  refine ⟨λvs h'=>(∃w,vs = [.bool (decide (x.f.fn=12\/x.f.fn=13)),w])/\h' = h25,?_,?_⟩
  ·refine Wa3 (λc=>?_) (λc=>?_)
   ·rw [decide_eq_true (p:=x.f.fn=12\/x.f.fn=13) (.inl c)]
    exact ⟨⟨_,rfl⟩,by trivial⟩
   ·rw [show (x.f.fn == 13)=decide (x.f.fn=12\/x.f.fn=13) by rw [Bool.eq_iff_iff,beq_iff_eq,decide_eq_true_iff];omega]
    exact ⟨⟨_,rfl⟩,by trivial⟩
  rintro v61 v62 g63 h64 ⟨⟨w,e⟩,rfl⟩
  cases e
  refine ss H3 ?_
  refine Wa3 (λc=>?_) (λc=>?_)
  ·rw [if_pos c] at k
   exact Wa0 (Yq1 H3 O λh4 H4=>k h4 (RunS.drp H4))
  rw [if_neg c] at k
  refine Wa3 (λc=>?_) (λc=>?_)
  ·rw [if_pos c] at k
   exact Wa0 (Yq3 H3 O λh4 H4=>k h4 (RunS.drp H4))
  rw [if_neg c] at k
  exact Wa0 (Wz1 H3 O λh4 H4=>k h4 (RunS.drp H4))
end
end
section
open Mod
section
variable {K:kQ} {h:Wa2} {M T b o N:Nat} {tv:Value} {fo:Option (Nat × Nat)} {x:Run} {R:Hp}
theorem Y25 (x:Run) (n r:Int):x.nlink n (Mod.u64 r)=x.nlink n r:=by
 unfold Run.nlink
 have e:s64 (Mod.u64 r)=s64 r:=by unfold s64 Mod.u64;omega
 rw [e]
theorem ZG6 (x:Run) (i j:Int):(x.pc i).pc j=x.pc j:=by
 show (x.pc i).setF ((x.pc i).f.at j)=x.setF (x.f.at j)
 rw [WF2]
 unfold Run.pc Run.setF Thr.setTop
 simp [Frm.at]
theorem WW4 (H:Sat h (RunS M T tv (some (b,o)) x R)) (hd:x.t.fr.length < 1073741823) (k:∀h',Sat h' (RunS M T tv none (Wv2 x) R)->K (.tuple #[]) h') :
  Wa5 Tryz.prog 259 #[rV M T b o] h K:=by
 refine call259 ?_
 unfold F259 g259 cf ce bd lP lI nP da3
 have B:=RunS.fB H
 unfold Wv2 at k
 have H1:=RunS.new H (.cells #[mP M,mP T,fP b o] 200);generalize h.push (.cells #[mP M,mP T,fP b o] 200)=h1 at *;generalize h.size=N at *
 refine ss H1 ?_
 refine Wa0 (Yd0 (B.g 2) ?_)
 refine ss H1 ?_
 refine Wa0 (YX6 ?_)
 try simp +decide only [Wb8,bsx,Nat.reduceAdd,Int.reduceLE,Int.reduceLT,Int.reduceToNat,rsx,g_s,Wa7,RunS.al H1,YB9 (B.g 2),Zj1]
 exact Wa0 (WE8 H1 (U.lit rfl) (YC0 (B.g 2)) (Zj2 _) hd λh5 b' o' H5=>k h5 (RunS.drp (RunS.none H5)))
theorem Yq4 (H:Sat h (RunS M T tv (some (b,o)) x R)) (O:Ok x) (k:∀h',Sat h' (RunS M T tv none (Wv3 x) R)->K (.tuple #[]) h') :
  Wa5 Tryz.prog 172 #[rV M T b o] h K:=by
 refine call172 ?_
 unfold F172 g172 q172_1 cf ce bd lP lI nP da3 Wm8 dl3
 have B:=RunS.fB H
 have P:=RunS.pl H
 have hd:=O.fr
 have r0:=RunS.ret H 0
 unfold Wv3 at k
 dsimp only at k
 have H1:=RunS.new H (.cells #[mP M,mP T,fP b o] 200);generalize h.push (.cells #[mP M,mP T,fP b o] 200)=h1 at *;generalize h.size=N at *
 refine ss H1 ?_
 refine Wa3 (λc=>?_) (λc=>?_)
 ·rw [if_pos c] at k
  refine RunS.stR (i:=6) H1 rfl U0 λh2 H2=>?_
  refine ss H2 ?_
  refine Wa0 (Ws3 H2 λh3 o3=>WF3 ?_)
  have H3:=RunS.old H2 o3
  refine ss H3 ?_
  refine Wa0 (Wn5 λh4 o4=>?_)
  have H4:=RunS.old H3 o4
  refine ss H4 ?_
  refine Wa0 (Wg3 H4 λh5 o5=>?_)
  have H5:=RunS.old H4 o5
  refine ss H5 ?_
  have l1:=Ws9 x 6 0
  exact Wa0 (WH1 H5 [Mod.u64 (x.m.p.slots - 2),Mod.u64 (x.nlink 1 0)] rfl (Yf3 (Wk4 _) (Wk4 _)) rfl (by omega) λh6 b' o' _ _ H6=>k h6 (RunS.drp (RunS.none H6)))
 rw [if_neg c] at k
 refine Wa3 (λc=>?_) (λc=>?_)
 ·rw [if_pos c] at k
  refine Wa0 (WN0 r0 ?_)
  refine ss H1 ?_
  refine RunS.stR (i:=0) H1 rfl r0 λh2 H2=>?_
  try simp +decide only [Wb8,bsx,Nat.reduceAdd,Int.reduceLE,Int.reduceLT,Int.reduceToNat,rsx,g_s,Wa7,RunS.al H2]
  refine RunS.stR (i:=1) H2 rfl (Wj4 _) λh3 H3=>?_
  try simp +decide only [Wb8,bsx,Nat.reduceAdd,Int.reduceLE,Int.reduceLT,Int.reduceToNat,rsx,g_s,Wa7,RunS.al H3]
  refine RunS.stP H3 λh4 H4=>?_
  try simp +decide only [Wb8,bsx,Nat.reduceAdd,Int.reduceLE,Int.reduceLT,Int.reduceToNat,rsx,g_s,Wa7,RunS.al H4,B.len]
  refine Wa3 (λc2=>?_) (λc2=>?_)
  ·rw [if_pos c2] at k
   have l1:=Ws9 x 0 (x.ret 0)
   have l2:=Ws9 (x.s 0 (x.ret 0)) 1 (Wg8 (x.ret 0))
   have l3:=WF9 ((x.s 0 (x.ret 0)).s 1 (Wg8 (x.ret 0))) 2
   exact Wa0 (WE8 H4 (U.lit rfl) U0 U0 (by omega) λh5 b' o' H5=>k h5 (RunS.drp (RunS.none H5)))
  ·rw [if_neg c2] at k
   exact k h4 (RunS.drp (RunS.none H4))
 rw [if_neg c] at k
 refine Wa3 (λc=>?_) (λc=>?_)
 ·rw [if_pos c] at k
  refine Wa0 (Wj5 H1 (by decide) λh2 o2=>?_)
  have H2:=RunS.old H1 o2
  refine ss H2 ?_
  refine Wa0 (Wg2 H2 (Wc9 P _ _) O.st λh3 H3 u3=>?_)
  refine ss H3 ?_
  refine RunS.stR (i:=3) H3 rfl u3 λh4 H4=>RunS.stP H4 λh5 H5=>?_
  try simp +decide only [Wb8,bsx,Nat.reduceAdd,Int.reduceLE,Int.reduceLT,Int.reduceToNat,rsx,g_s,Wa7,RunS.al H5,B.len]
  refine Wa0 (YH7 u3 ?_)
  refine ss H5 ?_
  refine Wb6 (λc2=>?_) (λc2=>?_)
  ·rw [if_pos c2] at k
   exact RunS.stP H5 λh6 H6=>k h6 (RunS.drp (RunS.none H6))
  ·rw [if_neg (by rw [c2];simp)] at k
   exact k h5 (RunS.drp (RunS.none H5))
 rw [if_neg c] at k
 refine Wa3 (λc=>?_) (λc=>?_)
 ·rw [if_pos c] at k
  refine Wa0 (Wj5 H1 (by decide) λh2 o2=>?_)
  have H2:=RunS.old H1 o2
  refine ss H2 ?_
  refine Wa0 (Wg2 H2 (Wc9 P _ _) O.st λh3 H3 u3=>?_)
  refine ss H3 ?_
  refine RunS.stR (i:=2) H3 rfl u3 λh4 H4=>RunS.stP H4 λh5 H5=>?_
  try simp +decide only [Wb8,bsx,Nat.reduceAdd,Int.reduceLE,Int.reduceLT,Int.reduceToNat,rsx,g_s,Wa7,RunS.al H5,B.len]
  refine Wa3 (λc2=>?_) (λc2=>?_)
  ·rw [if_pos c2] at k
   have l1:=Ws9 (x.load (x.na (x.f.g 1) 0)).2 2 (x.load (x.na (x.f.g 1) 0)).1
   have l2:=WF9 ((x.load (x.na (x.f.g 1) 0)).2.s 2 (x.load (x.na (x.f.g 1) 0)).1) 4
   have l3:(x.load (x.na (x.f.g 1) 0)).2.t.fr=x.t.fr:=rfl
   rw [l3] at l1
   exact Wa0 (WW4 H5 (by omega) λh6 H6=>k h6 (RunS.drp H6))
  ·rw [if_neg c2] at k
   exact k h5 (RunS.drp (RunS.none H5))
 rw [if_neg c] at k
 exact k h1 (RunS.drp (RunS.none H1))
theorem Yq5 (H:Sat h (RunS M T tv (some (b,o)) x R)) (O:Ok x) (k:∀h',Sat h' (RunS M T tv none (Wv4 x) R)->K (.tuple #[]) h') :
  Wa5 Tryz.prog 173 #[rV M T b o] h K:=by
 refine call173 ?_
 unfold F173 g173 cf ce bd lP lI nP da3
 have B:=RunS.fB H
 have P:=RunS.pl H
 unfold Wv4 at k
 dsimp only at k
 have H1:=RunS.new H (.cells #[mP M,mP T,fP b o] 200);generalize h.push (.cells #[mP M,mP T,fP b o] 200)=h1 at *;generalize h.size=N at *
 refine ss H1 ?_
 refine Wa3 (λc=>?_) (λc=>?_)
 ·rw [if_pos c] at k
  refine RunS.stP H1 λh2 H2=>?_
  refine ss H2 ?_
  refine Wa0 (Wj5 H2 (by decide) λh3 o3=>?_)
  have H3:=RunS.old H2 o3
  refine ss H3 ?_
  refine Wa0 (YH8 (B.g 3) ?_)
  refine ss H3 ?_
  refine Wa0 (Zs6 H3 (Wc9 P _ _) (Y22 (B.g 3)) O.st λh4 H4=>?_)
  refine ss H4 ?_
  refine Wb6 (λc2=>?_) (λc2=>?_)
  ·rw [if_pos c2] at k
   refine RunS.stR (i:=6) H4 rfl (U.lit rfl) λh5 H5=>?_
   try simp +decide only [Wb8,bsx,Nat.reduceAdd,Int.reduceLE,Int.reduceLT,Int.reduceToNat,rsx,g_s,Wa7,RunS.al H5]
   exact RunS.stP H5 λh6 H6=>k h6 (RunS.drp (RunS.none H6))
  ·rw [if_neg (by rw [c2];simp)] at k
   exact k h4 (RunS.drp (RunS.none H4))
 rw [if_neg c] at k
 refine Wa3 (λc=>?_) (λc=>?_)
 ·rw [if_pos c] at k
  refine Wa0 (Wj5 H1 (by decide) λh3 o3=>?_)
  have H3:=RunS.old H1 o3
  refine ss H3 ?_
  refine Wa0 (Wj3 H3 (Wc9 P _ _) (U.lit rfl) O.st λh4 H4=>?_)
  exact RunS.stP H4 λh6 H6=>k h6 (RunS.drp (RunS.none H6))
 rw [if_neg c] at k
 refine Wa3 (λc=>?_) (λc=>?_)
 ·rw [if_pos c] at k
  refine Wa0 (Wj5 H1 (by decide) λh3 o3=>?_)
  have H3:=RunS.old H1 o3
  refine ss H3 ?_
  refine Wa0 (Wg2 H3 (Wc9 P _ _) O.st λh4 H4 u4=>?_)
  refine ss H4 ?_
  exact RunS.stR (i:=4) H4 rfl u4 λh5 H5=>RunS.stP H5 λh6 H6=>k h6 (RunS.drp (RunS.none H6))
 rw [if_neg c] at k
 exact k h1 (RunS.drp (RunS.none H1))
theorem Yq6 (H:Sat h (RunS M T tv (some (b,o)) x R)) (O:Ok x) (k:∀h',Sat h' (RunS M T tv none (Wv5 x) R)->K (.tuple #[]) h') :
  Wa5 Tryz.prog 174 #[rV M T b o] h K:=by
 refine call174 ?_
 unfold F174 g174 cf ce bd lP lI nP da3
 have B:=RunS.fB H
 have P:=RunS.pl H
 unfold Wv5 at k
 dsimp only at k
 have H1:=RunS.new H (.cells #[mP M,mP T,fP b o] 200);generalize h.push (.cells #[mP M,mP T,fP b o] 200)=h1 at *;generalize h.size=N at *
 refine ss H1 ?_
 refine Wa3 (λc=>?_) (λc=>?_)
 ·rw [if_pos c] at k
  refine Wa3 (λc2=>?_) (λc2=>?_)
  ·rw [if_pos c2] at k
   refine RunS.stP H1 λh2 H2=>?_
   refine ss H2 ?_
   refine Wa3 (λc3=>?_) (λc3=>?_)
   ·rw [if_pos c3] at k
    exact RunS.stP H2 λh3 H3=>k h3 (ZG6 x 9 11 ▸ RunS.drp (RunS.none H3))
   ·rw [if_neg c3] at k
    exact k h2 (RunS.drp (RunS.none H2))
  rw [if_neg c2] at k
  refine Wa0 (Wg3 H1 λh3 o3=>?_)
  have H3:=RunS.old H1 o3
  try simp +decide only [Wb8,bsx,Nat.reduceAdd,Int.reduceLE,Int.reduceLT,Int.reduceToNat,rsx,g_s,Wa7,RunS.al H3,Y25]
  refine Wa0 (Wg2 H3 (Wc9 P _ _) O.st λh4 H4 u4=>?_)
  refine ss H4 ?_
  refine RunS.stR (i:=5) H4 rfl u4 λh5 H5=>RunS.stP H5 λh6 H6=>?_
  try simp +decide only [Wb8,bsx,Nat.reduceAdd,Int.reduceLE,Int.reduceLT,Int.reduceToNat,rsx,g_s,Wa7,RunS.al H6,B.len]
  refine Wa0 (WV8 u4 ?_)
  refine ss H6 ?_
  refine Wb6 (λc3=>?_) (λc3=>?_)
  ·rw [if_pos c3] at k
   refine RunS.stR (i:=4) H6 rfl (Wk4 _) λh7 H7=>?_
   try simp +decide only [Wb8,bsx,Nat.reduceAdd,Int.reduceLE,Int.reduceLT,Int.reduceToNat,rsx,g_s,Wa7,RunS.al H7]
   exact RunS.stP H7 λh8 H8=>k h8 (RunS.drp (RunS.none H8))
  ·rw [if_neg (by rw [c3];simp)] at k
   exact k h6 (RunS.drp (RunS.none H6))
 rw [if_neg c] at k
 refine Wa3 (λc=>?_) (λc=>?_)
 ·rw [if_pos c] at k
  refine RunS.stP H1 λh2 H2=>?_
  refine ss H2 ?_
  refine Wa0 (Wg3 H2 λh3 o3=>?_)
  have H3:=RunS.old H2 o3
  try simp +decide only [Wb8,bsx,Nat.reduceAdd,Int.reduceLE,Int.reduceLT,Int.reduceToNat,rsx,g_s,Wa7,RunS.al H3,Y25]
  refine Wa0 (Yc9 (B.g 5) ?_)
  refine ss H3 ?_
  refine Wa0 (Zs6 H3 (Wc9 P _ _) Wq3 O.st λh4 H4=>?_)
  refine ss H4 ?_
  refine Wb6 (λc2=>?_) (λc2=>?_)
  ·rw [if_pos c2] at k
   exact RunS.stR (i:=4) H4 rfl (Wk4 _) λh5 H5=>k h5 (RunS.drp (RunS.none H5))
  ·rw [if_neg (by rw [c2];simp)] at k
   exact k h4 (RunS.drp (RunS.none H4))
 rw [if_neg c] at k
 exact k h1 (RunS.drp (RunS.none H1))
theorem Yg2 (H:Sat h (RunS M T tv (some (b,o)) x R)) (O:Ok x) (k:∀h',Sat h' (RunS M T tv none (Wo6 x) R)->K (.tuple #[]) h') :
  Wa5 Tryz.prog 175 #[rV M T b o] h K:=by
 refine call175 ?_
 unfold F175 g175 cf ce bd lP lI nP da3 dl3
 have B:=RunS.fB H
 have P:=RunS.pl H
 have hd:=O.fr
 unfold Wo6 at k
 dsimp only at k
 have H1:=RunS.new H (.cells #[mP M,mP T,fP b o] 200);generalize h.push (.cells #[mP M,mP T,fP b o] 200)=h1 at *;generalize h.size=N at *
 refine ss H1 ?_
 refine Wa3 (λc=>?_) (λc=>?_)
 ·rw [if_pos c] at k
  refine Wa0 (Wg3 H1 λh3 o3=>?_)
  have H3:=RunS.old H1 o3
  refine ss H3 ?_
  refine Wa0 (Wg2 H3 (Wc9 P _ _) O.st λh4 H4 u4=>?_)
  refine ss H4 ?_
  exact RunS.stR (i:=5) H4 rfl u4 λh5 H5=>RunS.stP H5 λh6 H6=>k h6 (RunS.drp (RunS.none H6))
 rw [if_neg c] at k
 refine Wa3 (λc=>?_) (λc=>?_)
 ·rw [if_pos c] at k
  refine Wa0 (Wg3 H1 λh3 o3=>?_)
  have H3:=RunS.old H1 o3
  refine ss H3 ?_
  refine Wa0 (WN0 (B.g 5) ?_)
  refine ss H3 ?_
  refine Wa0 (Wv8 H3 (Wc9 P _ _) (B.g 0) O.st λh4 H4=>?_)
  refine ss H4 ?_
  exact RunS.stP H4 λh6 H6=>k h6 (RunS.drp (RunS.none H6))
 rw [if_neg c] at k
 refine Wa3 (λc=>?_) (λc=>?_)
 ·rw [if_pos c] at k
  refine Wa0 (WV7 H1 O.st λh2 H2=>?_)
  refine ss H2 ?_
  refine Wb6 (λc3=>?_) (λc3=>?_)
  ·rw [if_pos c3] at k
   have ef:(x.drop1 (x.f.g 1)).2.f=x.f:=rfl
   try simp +decide only [Wb8,bsx,Nat.reduceAdd,Int.reduceLE,Int.reduceLT,Int.reduceToNat,rsx,g_s,Wa7,RunS.al H2,ef]
   exact Wa0 (WH1 H2 [x.f.g 2] rfl (Wn8 (B.g 2)) rfl (show x.t.fr.length < _ by omega) λh4 b' o' _ _ H4=>k h4 (RunS.drp (RunS.none H4)))
  ·rw [if_neg (by rw [c3];simp)] at k
   exact RunS.stP H2 λh5 H5=>k h5 (RunS.drp (RunS.none H5))
 rw [if_neg c] at k
 refine Wa3 (λc=>?_) (λc=>?_)
 ·rw [if_pos c] at k
  exact Wa0 (WH1 H1 [x.f.g 1] rfl (Wn8 (B.g 1)) rfl (by omega) λh4 b' o' _ _ H4=>k h4 (RunS.drp (RunS.none H4)))
 ·rw [if_neg c] at k
  exact Wa0 (WW4 H1 (by omega) λh6 H6=>k h6 (RunS.drp H6))
theorem Yq7 (H:Sat h (RunS M T tv (some (b,o)) x R)) (O:Ok x) (k:∀h',Sat h' (RunS M T tv none (WB5 x) R)->K (.tuple #[]) h') :
  Wa5 Tryz.prog 114 #[rV M T b o] h K:=by
 refine call114 ?_
 unfold F114 g114 cf lP lI nP dl3
 unfold WB5 at k
 have H1:=RunS.new H (.cells #[mP M,mP T,fP b o] 200);generalize h.push (.cells #[mP M,mP T,fP b o] 200)=h1 at *;generalize h.size=N at *
 refine ss H1 ?_
 refine Wa3 (λc=>?_) (λc=>?_)
 ·rw [if_pos c] at k
  exact Wa0 (Yq4 H1 O λh2 H2=>k h2 (RunS.drp H2))
 rw [if_neg c] at k
 refine Wa3 (λc=>?_) (λc=>?_)
 ·rw [if_pos c] at k
  exact Wa0 (Yq5 H1 O λh2 H2=>k h2 (RunS.drp H2))
 rw [if_neg c] at k
 refine Wa3 (λc=>?_) (λc=>?_)
 ·rw [if_pos c] at k
  exact Wa0 (Yq6 H1 O λh2 H2=>k h2 (RunS.drp H2))
 rw [if_neg c] at k
 exact Wa0 (Yg2 H1 O λh2 H2=>k h2 (RunS.drp H2))
theorem WZ9 (H:Sat h (RunS M T tv fo x R)) (O:Ok x) (hf:FOk x) (hS:x.f.fn=21->ZO4 x) (k:∀h',Sat h' (RunS M T tv none (Wi0 x) R)->K (.tuple #[]) h') :
  Wa5 Tryz.prog 64 #[mP M,mP T] h K:=by
 refine call64 ?_
 unfold F64 cf bd lI nP dl3
 unfold Wi0 at k
 dsimp only at k
 refine Wa0 (Zi3 H (λe=>?_) λb o hne _ H1=>?_)
 ·rw [if_pos e] at k
  refine sb ?_
  refine ⟨λvs h'=>vs = [.bool true]/\h' = h,⟨rfl,rfl⟩,?_⟩
  rintro v4 g6 h7 ⟨e,rfl⟩
  cases e
  refine sb ?_
  exact k _ (RunS.none H)
 ·rw [if_neg hne] at k
  refine sb ?_
  refine ⟨λvs h'=>vs = [.bool false]/\h' = h,⟨rfl,rfl⟩,?_⟩
  rintro v4 g6 h7 ⟨e,rfl⟩
  cases e
  have B:=RunS.fB H1
  refine sb ?_
  have H2:=RunS.new H1 (.cells #[.pointer none,.pointer none,.pointer none] 197)
  generalize h7.push (.cells #[.pointer none,.pointer none,.pointer none] 197)=h2 at *
  generalize h7.size=N at *
  refine st3 (Wd9 (vs:=[mP M,mP T,fP b o]) (RunS.loc H2) rfl (by simp [Wi4]) λh3 w=>?_)
  have H3:=RunS.wr H2 w.new w.old
  clear H2 w
  refine ss H3 ?_
  refine ⟨λvs h'=>(∃w,vs = [.bool (decide (x.f.fn < 21\/23 < x.f.fn)),w])/\h' = h3,?_,?_⟩
  ·refine Wa3 (λc=>?_) (λc=>?_)
   ·rw [decide_eq_true (p:=x.f.fn < 21\/23 < x.f.fn) (by omega)]
    exact ⟨⟨_,rfl⟩,by trivial⟩
   ·rw [show decide (x.f.fn > 23)=decide (x.f.fn < 21\/23 < x.f.fn) by rw [decide_eq_decide];omega]
    exact ⟨⟨_,rfl⟩,by trivial⟩
  rintro v18 v19 g20 h21 ⟨⟨w,e⟩,rfl⟩
  cases e
  refine ss H3 ?_
  refine Wa3 (λc=>?_) (λc=>?_)
  ·rw [if_pos c] at k
   exact Wa0 (Yp4 H3 O hf λh4 H4=>k h4 (RunS.drp H4))
  rw [if_neg c] at k
  refine Wa3 (λc=>?_) (λc=>?_)
  ·rw [if_pos c] at k
   exact Wa0 (ZC1 H3 [x.f.g 7,x.f.g 8,x.f.g 9] rfl (Yp8 (B.g 7) (B.g 8) (B.g 9)) rfl λh4 H4=>k h4 (RunS.drp H4))
  rw [if_neg c] at k
  refine Wa3 (λc=>?_) (λc=>?_)
  ·rw [if_pos c] at k
   exact Wa0 (Yp6 H3 O (hS c) λh4 H4=>k h4 (RunS.drp H4))
  rw [if_neg c] at k
  exact Wa0 (Yq7 H3 O λh4 H4=>k h4 (RunS.drp H4))
end
end
section
open Mod
section
variable {K:kQ} {h:Wa2} {M T b o N:Nat} {tv:Value} {fo:Option (Nat × Nat)} {x:Run} {R:Hp}
theorem Zj5 (x:Run) (i n r:Int):(x.pc i).nlink n r=x.nlink n r:=rfl
theorem Yq8 (H:Sat h (RunS M T tv (some (b,o)) x R)) (O:Ok x) (k:∀h',Sat h' (RunS M T tv none (WC1 x) R)->K (.tuple #[]) h') :
  Wa5 Tryz.prog 177 #[rV M T b o] h K:=by
 refine call177 ?_
 unfold F177 g177 cf ce bd lP lI nP da3 de7 Wm8
 have B:=RunS.fB H
 have P:=RunS.pl H
 have hd:=O.fr
 have r0:=RunS.ret H 0
 unfold WC1 at k
 dsimp only at k
 have H1:=RunS.new H (.cells #[mP M,mP T,fP b o] 204);generalize h.push (.cells #[mP M,mP T,fP b o] 204)=h1 at *;generalize h.size=N at *
 refine ss H1 ?_
 refine Wa3 (λc=>?_) (λc=>?_)
 ·rw [if_pos c] at k
  exact Wa0 (Wz6 H1 Args.none (by omega) (by omega) λh2 b' o' _ _ H2=>k h2 (RunS.drp (RunS.none H2)))
 rw [if_neg c] at k
 refine Wa3 (λc=>?_) (λc=>?_)
 ·rw [if_pos c] at k
  refine RunS.stR (i:=2) H1 rfl r0 λh2 H2=>?_
  try simp +decide only [Wb8,bsx,Nat.reduceAdd,Int.reduceLE,Int.reduceLT,Int.reduceToNat,rsx,g_s,Wa7,RunS.al H2,B.len]
  refine Wb6 (λc2=>?_) (λc2=>?_)
  ·have c2':x.ret 0≠0:=by simpa [Run.ret] using c2
   rw [if_pos c2'] at k
   exact RunS.stP H2 λh3 H3=>k h3 (RunS.drp (RunS.none H3))
  ·have c2':¬ x.ret 0≠0:=by simpa [Run.ret] using c2
   rw [if_neg c2'] at k
   have hfl:=Ws9 x 2 (x.ret 0)
   refine ⟨λvs h'=>(∃w,vs = [.bool (decide (x.f.g 5=0/\x.t.retired.length > 0)),w])/\Sat h' (RunS M T tv (some (b,o)) (x.s 2 (x.ret 0)) (pt N (.cells #[mP M,mP T,fP b o] 204)*R)),?_,?_⟩
   ·refine Wa3 (λc3=>?_) (λc3=>?_)
    ·refine Wa0 (Wv7 (RunS.thr H2) ?_)
     refine sb ?_
     have e:decide (((x.s 2 (x.ret 0)).t.retired.length:Int) > 0)=decide (x.f.g 5=0/\x.t.retired.length > 0):=by
      rw [decide_eq_decide]
      have e2:(x.s 2 (x.ret 0)).t.retired=x.t.retired:=rfl
      rw [e2]
      omega
     rw [e]
     exact ⟨⟨_,rfl⟩,H2⟩
    ·exact ⟨⟨_,by rw [decide_eq_false (λhh=>c3 hh.1)]⟩,H2⟩
   rintro v32 v33 g34 h35 ⟨⟨w,e⟩,H3⟩
   cases e
   refine sb ?_
   refine Wa3 (λc3=>?_) (λc3=>?_)
   ·rw [if_pos c3] at k
    refine RunS.stR (i:=5) H3 rfl (U.lit rfl) λh4 H4=>?_
    have hfl2:=Ws9 (x.s 2 (x.ret 0)) 5 1
    try simp only [Wb8,bsx,Nat.reduceAdd,Int.reduceLE,Int.reduceLT,Int.reduceToNat,RunS.l H4]
    exact Wa0 (Wz6 H4 Args.none (by omega) (by omega) λh5 b' o' _ _ H5=>k h5 (RunS.drp (RunS.none H5)))
   ·rw [if_neg c3] at k
    try simp only [Wb8,bsx,Nat.reduceAdd,Int.reduceLE,Int.reduceLT,Int.reduceToNat,RunS.l H3]
    exact Wa0 (Wu9 H3 (U.lit rfl) (by omega) λh5 b' o' H5=>k h5 (RunS.drp (RunS.none H5)))
 rw [if_neg c] at k
 refine Wa3 (λc=>?_) (λc=>?_)
 ·rw [if_pos c] at k
  refine Wa0 (ZK9 H1 (by decide) O.st λh2 H2 u2=>?_)
  try simp +decide only [Wb8,bsx,Nat.reduceAdd,Int.reduceLE,Int.reduceLT,Int.reduceToNat,rsx,g_s,Wa7,RunS.al H2,WV6]
  refine Wa0 (W17 (YX5 _) (YX5 _) ?_)
  refine ss H2 ?_
  refine RunS.stR (i:=4) H2 rfl (Yf4 _ _) λh3 H3=>?_
  refine ss H3 ?_
  refine Wa0 (RunS.feed H3 λq R' HF re=>?_)
  refine ss H3 ?_
  refine Wa0 (Ws3 H3 λh4 o4=>WF3 ?_)
  have H4:=RunS.old H3 o4
  have HF4:=HF.old o4
  try simp only [Wb8,bsx,Nat.reduceAdd,Int.reduceLE,Int.reduceLT,Int.reduceToNat]
  refine Wa0 (Wh6 λh5 o5=>cf7 ?_)
  have H5:=RunS.old H4 o5
  have HF5:=HF4.old o5
  refine sb ?_
  have P5:=RunS.pl H5
  refine Wa0 (Zt3 H5 ?_ HF5 re P5.lv λh6 H6=>?_)
  ·show (x.add 3 1).2.m.used < _
   rw [YB8];exact O.us
  refine sb ?_
  refine RunS.stR (i:=3) H6 rfl (Wk4 _) λh7 H7=>RunS.stP H7 λh8 H8=>k h8 (RunS.drp (RunS.none H8))
 rw [if_neg c] at k
 exact k h1 (RunS.drp (RunS.none H1))
def Yg3 (x:Run):Run:=if x.f.pc=3 then x.store (x.na (x.f.g 2) 0) (x.f.g 4) else if x.f.pc=4 then x.store (x.na (x.f.g 2) 1) (x.f.g 1)
 else if x.f.pc=5 then x.store (x.na (x.f.g 2) 2) 1 else if x.f.pc=6 then x.store (x.na (x.f.g 2) 3) (x.f.g 3) else x
theorem Zj6 (x:Run):(Yg3 x).f=x.f:=by
 unfold Yg3
 split
 ·rfl
 split
 ·rfl
 split
 ·rfl
 split <;> rfl
theorem YK3 (H:Sat h (RunS M T tv (some (b,o)) x R)) (O:Ok x) (k:∀h',Sat h' (RunS M T tv none (WZ5 x) R)->K (.tuple #[]) h') :
  Wa5 Tryz.prog 178 #[rV M T b o] h K:=by
 refine call178 ?_
 unfold F178 g178 cf ce bd lP lI nP da3
 have B:=RunS.fB H
 have P:=RunS.pl H
 have k:∀h',Sat h' (RunS M T tv none ((Yg3 x).pc (x.f.pc+1)) R)->K (.tuple #[]) h':=k
 have H1:=RunS.new H (.cells #[mP M,mP T,fP b o] 204);generalize h.push (.cells #[mP M,mP T,fP b o] 204)=h1 at *;generalize h.size=N at *
 refine ss H1 ?_
 refine ⟨λ_ h'=>Sat h' (RunS M T tv (some (b,o)) (Yg3 x) (pt N (.cells #[mP M,mP T,fP b o] 204)*R)),?_,?_⟩
 ·unfold Yg3
  refine Wa3 (λc=>?_) (λc=>?_)
  ·rw [if_pos c]
   refine Wa0 (Wo9 H1 (by decide) λh2 o2=>?_)
   have H2:=RunS.old H1 o2
   refine ss H2 ?_
   exact Wa0 (Wj3 H2 (Wc9 P _ _) (B.g 4) O.st λh3 H3=>H3)
  rw [if_neg c]
  refine Wa3 (λc=>?_) (λc=>?_)
  ·rw [if_pos c]
   refine Wa0 (Wo9 H1 (by decide) λh2 o2=>?_)
   have H2:=RunS.old H1 o2
   refine ss H2 ?_
   exact Wa0 (Wj3 H2 (Wc9 P _ _) (B.g 1) O.st λh3 H3=>H3)
  rw [if_neg c]
  refine Wa3 (λc=>?_) (λc=>?_)
  ·rw [if_pos c]
   refine Wa0 (Wo9 H1 (by decide) λh2 o2=>?_)
   have H2:=RunS.old H1 o2
   refine ss H2 ?_
   exact Wa0 (Wj3 H2 (Wc9 P _ _) (U.lit rfl) O.st λh3 H3=>H3)
  rw [if_neg c]
  refine Wa3 (λc=>?_) (λc=>?_)
  ·rw [if_pos c]
   refine Wa0 (Wo9 H1 (by decide) λh2 o2=>?_)
   have H2:=RunS.old H1 o2
   refine ss H2 ?_
   exact Wa0 (Wj3 H2 (Wc9 P _ _) (B.g 3) O.st λh3 H3=>H3)
  rw [if_neg c]
  exact H1
 intro v1 v2 v3 v4 g6 h7 H7
 try simp +decide only [Wb8,bsx,Nat.reduceAdd,Int.reduceLE,Int.reduceLT,Int.reduceToNat,rsx,g_s,Wa7,RunS.al H7,Zj6]
 rw [WK4 (n:=x.f.pc+1) (by have:=O.pc;omega) (by have:=O.pc;omega)]
 exact RunS.stP H7 λh8 H8=>k h8 (RunS.drp (RunS.none H8))
theorem Yg4 (H:Sat h (RunS M T tv (some (b,o)) x R)) (O:Ok x) (L:RL x) (k:∀h',Sat h' (RunS M T tv none (Wu7 x) R)->K (.tuple #[]) h') :
  Wa5 Tryz.prog 179 #[rV M T b o] h K:=by
 refine call179 ?_
 unfold F179 g179 cf ce bd lS lP lI nP da3
 have B:=RunS.fB H
 have P:=RunS.pl H
 have hd:=O.fr
 have r0:=RunS.ret H 0
 unfold Wu7 at k
 dsimp only at k
 have H1:=RunS.new H (.cells #[mP M,mP T,fP b o] 204);generalize h.push (.cells #[mP M,mP T,fP b o] 204)=h1 at *;generalize h.size=N at *
 refine ss H1 ?_
 refine Wa3 (λc=>?_) (λc=>?_)
 ·rw [if_pos c] at k
  exact Wa0 (WH3 H1 [x.f.g 4] rfl (Wn8 (B.g 4)) rfl (by omega) λh4 b' o' _ _ H4=>k h4 (RunS.drp (RunS.none H4)))
 rw [if_neg c] at k
 refine Wa3 (λc=>?_) (λc=>?_)
 ·rw [if_pos c] at k
  refine RunS.stR (i:=7) H1 rfl r0 λh2 H2=>?_
  refine ss H2 ?_
  refine Wa0 (Wd6 H2 λh3 o3=>?_)
  have H3:=RunS.old H2 o3
  refine ss H3 ?_
  refine Wa0 (Wg2 H3 (Wc9 P _ _) O.st λh4 H4 u4=>?_)
  refine ss H4 ?_
  exact RunS.stR (i:=6) H4 rfl u4 λh5 H5=>RunS.stP H5 λh6 H6=>k h6 (RunS.drp (RunS.none H6))
 rw [if_neg c] at k
 refine Wa3 (λc=>?_) (λc=>?_)
 ·rw [if_pos c] at k
  obtain ⟨pb,sb,wb,W⟩:=RunS.rows H1 L
  have wf:=W.f
  have l0:=L.e0
  have wg:=W.g (i:=0) (by omega)
  try simp +decide only [Wb8,bsx,Nat.reduceAdd,Int.reduceLE,Int.reduceLT,Int.reduceToNat,rsx,g_s,Wa7,RunS.al H1,wf,wg]
  refine ⟨by omega,?_⟩
  try simp +decide only [Wb8,bsx,Nat.reduceAdd,Int.reduceLE,Int.reduceLT,Int.reduceToNat,rsx,g_s,Wa7,RunS.al H1,wf,wg]
  refine Wa0 (Wd6 H1 λh2 o2=>?_)
  have H2:=RunS.old H1 o2
  have W2:=W.old o2
  have wf2:=W2.f
  have wg2:=W2.g (i:=0) (by omega)
  try simp +decide only [Wb8,bsx,Nat.reduceAdd,Int.reduceLE,Int.reduceLT,Int.reduceToNat,rsx,g_s,Wa7,RunS.al H2,wf2,wg2]
  refine Wa0 (Wg9 (B.g 6) ?_)
  refine ss H2 ?_
  refine Wa0 (Wj3 H2 (Wc9 P _ _) Wq3 O.st λh3 H3=>?_)
  exact RunS.stP H3 λh5 H5=>k h5 (RunS.drp (RunS.none H5))
 rw [if_neg c] at k
 refine Wa3 (λc=>?_) (λc=>?_)
 ·rw [if_pos c] at k
  refine RunS.stR (i:=5) H1 rfl (U.lit rfl) λh2 H2=>?_
  try simp +decide only [Wb8,bsx,Nat.reduceAdd,Int.reduceLE,Int.reduceLT,Int.reduceToNat,rsx,g_s,Wa7,RunS.al H2]
  refine RunS.stP H2 λh3 H3=>?_
  have L3:RL ((x.s 5 1).pc 7):=L.at ⟨rfl,rfl,rfl⟩
  obtain ⟨pb,sb,wb,W⟩:=RunS.rows H3 L3
  have wf:=W.f
  have l0:=L3.e0
  have wg:=W.g (i:=0) (by omega)
  try simp +decide only [Wb8,bsx,Nat.reduceAdd,Int.reduceLE,Int.reduceLT,Int.reduceToNat,rsx,g_s,Wa7,RunS.al H3,wf,wg]
  refine ⟨by omega,?_⟩
  try simp +decide only [Wb8,bsx,Nat.reduceAdd,Int.reduceLE,Int.reduceLT,Int.reduceToNat,rsx,g_s,Wa7,RunS.al H3,wf,wg]
  refine ⟨by omega,?_⟩
  try simp +decide only [Wb8,bsx,Nat.reduceAdd,Int.reduceLE,Int.reduceLT,Int.reduceToNat,rsx,g_s,Wa7,RunS.al H3,wf,wg]
  refine Wa0 (Wd6 H3 λh4 o4=>?_)
  have H4:=RunS.old H3 o4
  have W4:=W.old o4
  have wf4:=W4.f
  have wg4:=W4.g (i:=0) (by omega)
  try simp +decide only [Wb8,bsx,Nat.reduceAdd,Int.reduceLE,Int.reduceLT,Int.reduceToNat,rsx,g_s,Wa7,RunS.al H4,wf4,wg4]
  refine Wa0 (Wn6 H4 (Wc9 P _ _) (RunS.woU H4 0) O.st λh5 H5=>?_)
  refine ss H5 ?_
  refine Wb6 (λc2=>?_) (λc2=>?_)
  ·rw [if_pos c2] at k
   exact RunS.stP H5 λh6 H6=>k h6 (RunS.drp (RunS.none H6))
  ·rw [if_neg (by rw [c2];simp)] at k
   exact k h5 (RunS.drp (RunS.none H5))
 rw [if_neg c] at k
 exact k h1 (RunS.drp (RunS.none H1))
theorem Yg5 (H:Sat h (RunS M T tv (some (b,o)) x R)) (O:Ok x) (L:RL x) (hr2:12<=x.f.pc->x.f.g 5 < x.t.pred.length) (k:∀h',Sat h' (RunS M T tv none (Wu8 x) R)->K (.tuple #[]) h') :
  Wa5 Tryz.prog 180 #[rV M T b o] h K:=by
 refine call180 ?_
 unfold F180 g180 cf ce bd lS lP lI nP da3
 have B:=RunS.fB H
 have P:=RunS.pl H
 have hd:=O.fr
 have hr0:=(B.g 5).1
 unfold Wu8 at k
 dsimp only at k
 have H1:=RunS.new H (.cells #[mP M,mP T,fP b o] 204);generalize h.push (.cells #[mP M,mP T,fP b o] 204)=h1 at *;generalize h.size=N at *
 refine ss H1 ?_
 refine Wa3 (λc=>?_) (λc=>?_)
 ·rw [if_pos c] at k
  refine Wa3 (λc2=>?_) (λc2=>?_)
  ·rw [if_pos c2] at k
   exact RunS.stP H1 λh2 H2=>k h2 (RunS.drp (RunS.none H2))
  rw [if_neg c2] at k
  refine RunS.stP H1 λh2 H2=>?_
  refine ss H2 ?_
  refine Wa0 (Wd6 H2 λh3 o3=>?_)
  have H3:=RunS.old H2 o3
  try simp +decide only [Wb8,bsx,Nat.reduceAdd,Int.reduceLE,Int.reduceLT,Int.reduceToNat,rsx,g_s,Wa7,RunS.al H3,Zj5]
  refine Wa0 (Wg2 H3 (Wc9 P _ _) O.st λh4 H4 u4=>?_)
  refine ss H4 ?_
  refine Wa0 (Wq7 u4 ?_)
  refine ss H4 ?_
  refine Wb6 (λc3=>?_) (λc3=>?_)
  ·rw [if_pos c3] at k
   exact RunS.stP H4 λh5 H5=>k h5 (RunS.drp (RunS.none H5))
  ·rw [if_neg (by rw [c3];simp)] at k
   exact k h4 (RunS.drp (RunS.none H4))
 rw [if_neg c] at k
 refine Wa3 (λc=>?_) (λc=>?_)
 ·rw [if_pos c] at k
  have hr:=hr2 (by omega)
  refine RunS.stP H1 λh2 H2=>?_
  have L2:RL (x.pc 13):=L.at ⟨rfl,rfl,rfl⟩
  obtain ⟨pb,sb,wb,W⟩:=RunS.rows H2 L2
  have wf:=W.f
  try simp +decide only [Wb8,bsx,Nat.reduceAdd,Int.reduceLE,Int.reduceLT,Int.reduceToNat,rsx,g_s,Wa7,RunS.al H2,wf]
  refine ⟨by omega,hr,?_⟩
  have wg:=W.g (i:=(x.f.g 5).toNat) (by show _ < x.t.pred.length;omega)
  try simp +decide only [Wb8,bsx,Nat.reduceAdd,Int.reduceLE,Int.reduceLT,Int.reduceToNat,rsx,g_s,Wa7,RunS.al H2,wf,wg]
  refine ⟨λvs h'=>∃(w:Value) (d:Bool) (y:Run),vs = [w,.bool d]/\Sat h' (RunS M T tv (some (b,o)) y (pt N (.cells #[mP M,mP T,fP b o] 204)*R))/\∀h'',Sat h'' (RunS M T tv none (if d then y.pc 17 else y) R)->K (.tuple #[]) h'',?_,?_⟩
  ·refine Wb6 (λc2=>?_) (λc2=>?_)
   ·have c2':¬ (x.pc 13).t.succ.getD (x.f.g 5).toNat 0=2:=bne_iff_ne.1 c2
    rw [if_neg c2'] at k
    refine Wa3 (λc3=>?_) (λc3=>?_)
    ·rw [if_pos c3] at k
     exact ⟨_,_,_,rfl,H2,k⟩
    ·rw [if_neg c3] at k
     refine ss H2 ?_
     refine Wa0 (Wd6 H2 λh3 o3=>?_)
     have H3:=RunS.old H2 o3
     refine ss H3 ?_
     refine Wa0 (Wg2 H3 (Wc9 P _ _) O.st λh4 H4 u4=>?_)
     refine ss H4 ?_
     refine Wa0 (Wq7 u4 ?_)
     try simp only [Wb8,bsx,Nat.reduceAdd,Int.reduceLE,Int.reduceLT,Int.reduceToNat]
     exact ⟨_,_,_,rfl,H4,k⟩
   ·have c2':(x.pc 13).t.succ.getD (x.f.g 5).toNat 0=2:=bne_eq_false_iff_eq.1 c2
    rw [if_pos c2'] at k
    exact ⟨_,false,_,rfl,H2,k⟩
  rintro v64 v65 g66 h67 ⟨w,d,y,e,H3,k⟩
  cases e
  refine ss H3 ?_
  cases d
  ·exact k h67 (RunS.drp (RunS.none H3))
  ·exact RunS.stP H3 λh5 H5=>k h5 (RunS.drp (RunS.none H5))
 rw [if_neg c] at k
 refine Wa3 (λc=>?_) (λc=>?_)
 ·rw [if_pos c] at k
  refine Wa0 (Wd6 H1 λh2 o2=>?_)
  have H2:=RunS.old H1 o2
  refine ss H2 ?_
  refine Wa0 (Wg2 H2 (Wc9 P _ _) O.st λh3 H3 u3=>?_)
  refine ss H3 ?_
  exact RunS.stR (i:=6) H3 rfl u3 λh4 H4=>RunS.stP H4 λh5 H5=>k h5 (RunS.drp (RunS.none H5))
 rw [if_neg c] at k
 refine Wa3 (λc=>?_) (λc=>?_)
 ·rw [if_pos c] at k
  have hr:=hr2 (by omega)
  obtain ⟨pb,sb,wb,W⟩:=RunS.rows H1 L
  have wf:=W.f
  try simp +decide only [Wb8,bsx,Nat.reduceAdd,Int.reduceLE,Int.reduceLT,Int.reduceToNat,rsx,g_s,Wa7,RunS.al H1,wf]
  refine ⟨by omega,by omega,?_⟩
  have wg:=W.g (i:=(x.f.g 5).toNat) (by omega)
  try simp +decide only [Wb8,bsx,Nat.reduceAdd,Int.reduceLE,Int.reduceLT,Int.reduceToNat,rsx,g_s,Wa7,RunS.al H1,wg]
  refine Wa0 (Wd6 H1 λh2 o2=>?_)
  have H2:=RunS.old H1 o2
  have W2:=W.old o2
  have wf2:=W2.f
  have wg2:=W2.g (i:=(x.f.g 5).toNat) (by omega)
  try simp +decide only [Wb8,bsx,Nat.reduceAdd,Int.reduceLE,Int.reduceLT,Int.reduceToNat,rsx,g_s,Wa7,RunS.al H2,wf2,wg2]
  refine Wa0 (Wg9 (B.g 6) ?_)
  refine ss H2 ?_
  refine Wa0 (Wj3 H2 (Wc9 P _ _) Wq3 O.st λh3 H3=>?_)
  exact RunS.stP H3 λh5 H5=>k h5 (RunS.drp (RunS.none H5))
 rw [if_neg c] at k
 exact k h1 (RunS.drp (RunS.none H1))
theorem Yq9 (H:Sat h (RunS M T tv (some (b,o)) x R)) (O:Ok x) (L:RL x) (hr2:x.f.pc=15->x.f.g 5 < x.t.pred.length) (k:∀h',Sat h' (RunS M T tv none (WC2 x) R)->K (.tuple #[]) h') :
  Wa5 Tryz.prog 181 #[rV M T b o] h K:=by
 refine call181 ?_
 unfold F181 g181 cf ce bd lS lP lI nP da3
 have B:=RunS.fB H
 have P:=RunS.pl H
 have hd:=O.fr
 have hr0:=(B.g 5).1
 have r0:=RunS.ret H 0
 unfold WC2 at k
 dsimp only at k
 have H1:=RunS.new H (.cells #[mP M,mP T,fP b o] 204);generalize h.push (.cells #[mP M,mP T,fP b o] 204)=h1 at *;generalize h.size=N at *
 refine ss H1 ?_
 refine Wa3 (λc=>?_) (λc=>?_)
 ·rw [if_pos c] at k
  have hr:=hr2 c
  obtain ⟨pb,sb,wb,W⟩:=RunS.rows H1 L
  have wf:=W.f
  try simp +decide only [Wb8,bsx,Nat.reduceAdd,Int.reduceLE,Int.reduceLT,Int.reduceToNat,rsx,g_s,Wa7,RunS.al H1,wf]
  refine ⟨by omega,by omega,?_⟩
  have wg:=W.g (i:=(x.f.g 5).toNat) (by omega)
  try simp +decide only [Wb8,bsx,Nat.reduceAdd,Int.reduceLE,Int.reduceLT,Int.reduceToNat,rsx,g_s,Wa7,RunS.al H1,wf,wg]
  refine ⟨by omega,by omega,?_⟩
  try simp +decide only [Wb8,bsx,Nat.reduceAdd,Int.reduceLE,Int.reduceLT,Int.reduceToNat,rsx,g_s,Wa7,RunS.al H1,wf,wg]
  refine Wa0 (Wd6 H1 λh2 o2=>?_)
  have H2:=RunS.old H1 o2
  have W2:=W.old o2
  have wf2:=W2.f
  have wg2:=W2.g (i:=(x.f.g 5).toNat) (by omega)
  try simp +decide only [Wb8,bsx,Nat.reduceAdd,Int.reduceLE,Int.reduceLT,Int.reduceToNat,rsx,g_s,Wa7,RunS.al H2,wf2,wg2]
  refine Wa0 (Wn6 H2 (Wc9 P _ _) (RunS.woU H2 _) O.st λh3 H3=>?_)
  refine ss H3 ?_
  have ef:(x.swingM (x.nlink (x.t.pred.getD (x.f.g 5).toNat 0) (x.f.g 5)) (x.t.word.getD (x.f.g 5).toNat 0) (x.f.g 2) false).2.f=x.f:=rfl
  refine Wb6 (λc3=>?_) (λc3=>?_)
  ·rw [if_pos c3] at k
   try simp +decide only [Wb8,bsx,Nat.reduceAdd,Int.reduceLE,Int.reduceLT,Int.reduceToNat,rsx,g_s,Wa7,RunS.al H3,ef]
   refine RunS.stR (i:=5) H3 rfl (Wk4 _) λh4 H4=>?_
   try simp +decide only [Wb8,bsx,Nat.reduceAdd,Int.reduceLE,Int.reduceLT,Int.reduceToNat,rsx,g_s,Wa7,RunS.al H4]
   exact RunS.stP H4 λh5 H5=>k h5 (RunS.drp (RunS.none H5))
  ·rw [if_neg (by rw [c3];simp)] at k
   try simp +decide only [Wb8,bsx,Nat.reduceAdd,Int.reduceLE,Int.reduceLT,Int.reduceToNat,rsx,g_s,Wa7,RunS.al H3,ef]
   exact Wa0 (WH3 H3 [x.f.g 4] rfl (Wn8 (B.g 4)) rfl (show x.t.fr.length < _ by omega) λh4 b' o' _ _ H4=>k h4 (RunS.drp (RunS.none H4)))
 rw [if_neg c] at k
 refine Wa3 (λc=>?_) (λc=>?_)
 ·rw [if_pos c] at k
  refine RunS.stR (i:=7) H1 rfl r0 λh2 H2=>?_
  try simp +decide only [Wb8,bsx,Nat.reduceAdd,Int.reduceLE,Int.reduceLT,Int.reduceToNat,rsx,g_s,Wa7,RunS.al H2]
  refine RunS.stP H2 λh3 H3=>?_
  have L3:RL ((x.s 7 (x.ret 0)).pc 11):=L.at ⟨rfl,rfl,rfl⟩
  obtain ⟨pb,sb,wb,W⟩:=RunS.rows H3 L3
  have wf:=W.f
  have l0:=L3.e0
  have wg:=W.g (i:=0) (by omega)
  try simp +decide only [Wb8,bsx,Nat.reduceAdd,Int.reduceLE,Int.reduceLT,Int.reduceToNat,rsx,g_s,Wa7,RunS.al H3,wf,wg]
  refine ⟨by omega,?_⟩
  try simp +decide only [Wb8,bsx,Nat.reduceAdd,Int.reduceLE,Int.reduceLT,Int.reduceToNat,rsx,g_s,Wa7,RunS.al H3,wf,wg]
  refine Wb6 (λc2=>?_) (λc2=>?_)
  ·rw [if_pos (bne_iff_ne.1 c2)] at k
   exact RunS.stP H3 λh5 H5=>k h5 (RunS.drp (RunS.none H5))
  ·rw [if_neg (λhh=>hh (bne_eq_false_iff_eq.1 c2))] at k
   exact k h3 (RunS.drp (RunS.none H3))
 rw [if_neg c] at k
 refine Wa3 (λc=>?_) (λc=>?_)
 ·rw [if_pos c] at k
  refine Wa0 (Wo9 H1 (by decide) λh2 o2=>?_)
  have H2:=RunS.old H1 o2
  refine ss H2 ?_
  refine Wa0 (Wj3 H2 (Wc9 P _ _) U0 O.st λh3 H3=>?_)
  exact RunS.stP H3 λh5 H5=>k h5 (RunS.drp (RunS.none H5))
 ·rw [if_neg c] at k
  exact Wa0 (Wu9 H1 U0 (by omega) λh5 b' o' H5=>k h5 (RunS.drp (RunS.none H5)))
structure ZO5 (x:Run):Prop where
 L:RL x
 a:12<=x.f.pc->x.f.pc<=15->x.f.g 5 < x.t.pred.length
theorem Yr0 (H:Sat h (RunS M T tv (some (b,o)) x R)) (O:Ok x) (S:ZO5 x) (k:∀h',Sat h' (RunS M T tv none (WC3 x) R)->K (.tuple #[]) h') :
  Wa5 Tryz.prog 116 #[rV M T b o] h K:=by
 refine call116 ?_
 unfold F116 g116 cf lP lI nP dl3
 unfold WC3 at k
 have H1:=RunS.new H (.cells #[mP M,mP T,fP b o] 204);generalize h.push (.cells #[mP M,mP T,fP b o] 204)=h1 at *;generalize h.size=N at *
 refine ss H1 ?_
 refine Wa3 (λc=>?_) (λc=>?_)
 ·rw [if_pos c] at k
  exact Wa0 (Yq8 H1 O λh2 H2=>k h2 (RunS.drp H2))
 rw [if_neg c] at k
 refine Wa3 (λc=>?_) (λc=>?_)
 ·rw [if_pos c] at k
  exact Wa0 (YK3 H1 O λh2 H2=>k h2 (RunS.drp H2))
 rw [if_neg c] at k
 refine Wa3 (λc=>?_) (λc=>?_)
 ·rw [if_pos c] at k
  exact Wa0 (Yg4 H1 O S.L λh2 H2=>k h2 (RunS.drp H2))
 rw [if_neg c] at k
 refine Wa3 (λc=>?_) (λc=>?_)
 ·rw [if_pos c] at k
  exact Wa0 (Yg5 H1 O S.L (λhh=>S.a hh (by omega)) λh2 H2=>k h2 (RunS.drp H2))
 rw [if_neg c] at k
 exact Wa0 (Yq9 H1 O S.L (λhh=>S.a (by omega) (by omega)) λh2 H2=>k h2 (RunS.drp H2))
end
end
section
open Mod
section
variable {K:kQ} {h:Wa2} {M T b o N:Nat} {tv:Value} {fo:Option (Nat × Nat)} {x:Run} {R:Hp}
theorem Zx8 (x:Run) (i j:Int) (n:Nat) (v:Int):((x.pc i).s n v).pc j=(x.s n v).pc j:=by
 show ((x.pc i).setF ((x.pc i).f.s n v)).setF (((x.pc i).setF ((x.pc i).f.s n v)).f.at j)=(x.setF (x.f.s n v)).setF ((x.setF (x.f.s n v)).f.at j)
 rw [WU2,WU2,WF2]
 unfold Run.pc Run.setF Thr.setTop
 simp [Frm.at,Frm.s]
theorem Yr1 (H:Sat h (RunS M T tv (some (b,o)) x R)) (O:Ok x) (k:∀h',Sat h' (RunS M T tv none (WB7 x) R)->K (.tuple #[]) h') :
  Wa5 Tryz.prog 117 #[rV M T b o] h K:=by
 refine call117 ?_
 unfold F117 g117 cf ce bd lP lI nP da3
 have B:=RunS.fB H
 have P:=RunS.pl H
 unfold WB7 at k
 dsimp only at k
 have H1:=RunS.new H (.cells #[mP M,mP T,fP b o] 205);generalize h.push (.cells #[mP M,mP T,fP b o] 205)=h1 at *;generalize h.size=N at *
 refine ss H1 ?_
 refine Wa3 (λc=>?_) (λc=>?_)
 ·rw [if_pos c] at k
  refine Wa0 (Wd6 H1 λh2 o2=>?_)
  have H2:=RunS.old H1 o2
  refine ss H2 ?_
  refine Wa0 (Wg2 H2 (Wc9 P _ _) O.st λh3 H3 u3=>?_)
  refine ss H3 ?_
  refine RunS.stR (i:=0) H3 rfl u3 λh4 H4=>?_
  try simp +decide only [Wb8,bsx,Nat.reduceAdd,Int.reduceLE,Int.reduceLT,Int.reduceToNat,rsx,g_s,Wa7,RunS.al H4,B.len]
  refine Wa0 (Wi3 u3 ?_)
  try simp +decide only [Wb8,bsx,Nat.reduceAdd,Int.reduceLE,Int.reduceLT,Int.reduceToNat,rsx,g_s,Wa7,RunS.al H4,B.len]
  refine Wa0 (Wi3 u3 ?_)
  try simp +decide only [Wb8,bsx,Nat.reduceAdd,Int.reduceLE,Int.reduceLT,Int.reduceToNat,rsx,g_s,Wa7,RunS.al H4,B.len]
  refine RunS.stR (i:=1) H4 rfl (Wj4 _) λh5 H5=>?_
  try simp +decide only [Wb8,bsx,Nat.reduceAdd,Int.reduceLE,Int.reduceLT,Int.reduceToNat,rsx,g_s,Wa7,RunS.al H5]
  refine RunS.stR (i:=2) H5 rfl (Wj4 _) λh6 H6=>?_
  try simp +decide only [Wb8,bsx,Nat.reduceAdd,Int.reduceLE,Int.reduceLT,Int.reduceToNat,rsx,g_s,Wa7,RunS.al H6]
  refine RunS.stP H6 λh7 H7=>?_
  try simp +decide only [Wb8,bsx,Nat.reduceAdd,Int.reduceLE,Int.reduceLT,Int.reduceToNat,rsx,g_s,Wa7,RunS.al H7,B.len]
  refine Wa0 (Wq7 u3 ?_)
  refine ss H7 ?_
  refine Wb6 (λc2=>?_) (λc2=>?_)
  ·rw [if_neg (by simpa using c2)] at k
   have hd:=O.fr
   have l0:(x.load (x.nlink 1 0)).2.t.fr=x.t.fr:=rfl
   have l1:=Ws9 (x.load (x.nlink 1 0)).2 0 (x.load (x.nlink 1 0)).1
   have l2:=Ws9 ((x.load (x.nlink 1 0)).2.s 0 (x.load (x.nlink 1 0)).1) 1 (Wg8 (x.load (x.nlink 1 0)).1)
   have l3:=Ws9 (((x.load (x.nlink 1 0)).2.s 0 (x.load (x.nlink 1 0)).1).s 1 (Wg8 (x.load (x.nlink 1 0)).1)) 2 (Wg8 (x.load (x.nlink 1 0)).1)
   have l4:=WF9 ((((x.load (x.nlink 1 0)).2.s 0 (x.load (x.nlink 1 0)).1).s 1 (Wg8 (x.load (x.nlink 1 0)).1)).s 2 (Wg8 (x.load (x.nlink 1 0)).1)) 1
   rw [l0] at l1
   exact Wa0 (Wu9 H7 U0 (by omega) λh8 b' o' H8=>k h8 (RunS.drp (RunS.none H8)))
  ·rw [if_pos (by simpa using c2)] at k
   exact k h7 (RunS.drp (RunS.none H7))
 rw [if_neg c] at k
 refine Wa3 (λc=>?_) (λc=>?_)
 ·rw [if_pos c] at k
  refine Wa0 (Wd6 H1 λh2 o2=>?_)
  have H2:=RunS.old H1 o2
  refine ss H2 ?_
  refine Wa0 (Wg2 H2 (Wc9 P _ _) O.st λh3 H3 u3=>?_)
  refine ss H3 ?_
  refine Wa0 (Wi3 u3 ?_)
  refine ss H3 ?_
  refine RunS.stR (i:=2) H3 rfl (Wj4 _) λh4 H4=>?_
  try simp +decide only [Wb8,bsx,Nat.reduceAdd,Int.reduceLE,Int.reduceLT,Int.reduceToNat,rsx,g_s,Wa7,RunS.al H4]
  refine RunS.stP H4 λh5 H5=>?_
  try simp +decide only [Wb8,bsx,Nat.reduceAdd,Int.reduceLE,Int.reduceLT,Int.reduceToNat,rsx,g_s,Wa7,RunS.al H5]
  refine Wa0 (Wq7 u3 ?_)
  refine ss H5 ?_
  refine Wb6 (λc2=>?_) (λc2=>?_)
  ·rw [if_pos c2] at k
   refine Wa0 (Wi3 u3 ?_)
   refine ss H5 ?_
   refine RunS.stR (i:=1) H5 rfl (Wj4 _) λh6 H6=>?_
   try simp +decide only [Wb8,bsx,Nat.reduceAdd,Int.reduceLE,Int.reduceLT,Int.reduceToNat,rsx,g_s,Wa7,RunS.al H6]
   exact RunS.stP H6 λh90 H90=>k h90 (RunS.drp (RunS.none H90))
  ·rw [if_neg (by rw [c2];simp)] at k
   exact k h5 (RunS.drp (RunS.none H5))
 rw [if_neg c] at k
 refine Wa3 (λc=>?_) (λc=>?_)
 ·rw [if_pos c] at k
  have hd:=O.fr
  exact Wa0 (WH3 H1 [x.f.g 1] rfl (Wn8 (B.g 1)) rfl (by omega) λh4 b' o' _ _ H4=>k h4 (RunS.drp (RunS.none H4)))
 rw [if_neg c] at k
 refine Wa3 (λc=>?_) (λc=>?_)
 ·rw [if_pos c] at k
  refine Wa0 (Wd6 H1 λh2 o2=>?_)
  have H2:=RunS.old H1 o2
  refine ss H2 ?_
  refine Wa0 (Wn6 H2 (Wc9 P _ _) (B.g 0) O.st λh3 H3=>?_)
  refine ss H3 ?_
  exact RunS.stP H3 λh90 H90=>k h90 (RunS.drp (RunS.none H90))
 rw [if_neg c] at k
 refine Wa3 (λc=>?_) (λc=>?_)
 ·rw [if_pos c] at k
  have hd:=O.fr
  refine Wa0 (Wi3 (B.g 0) ?_)
  refine ss H1 ?_
  exact Wa0 (WH3 H1 [Wg8 (x.f.g 0),x.f.g 2] rfl (Yf3 (Wj4 _) (B.g 2)) rfl (by omega) λh4 b' o' _ _ H4=>k h4 (RunS.drp (RunS.none H4)))
 rw [if_neg c] at k
 have hd:=O.fr
 exact Wa0 (Wu9 H1 U0 (by omega) λh8 b' o' H8=>k h8 (RunS.drp (RunS.none H8)))
theorem Yr2 (H:Sat h (RunS M T tv (some (b,o)) x R)) (O:Ok x) (k:∀h',Sat h' (RunS M T tv none (WB8 x) R)->K (.tuple #[]) h') :
  Wa5 Tryz.prog 118 #[rV M T b o] h K:=by
 refine call118 ?_
 unfold F118 g118 cf ce bd lP lI nP da3
 have B:=RunS.fB H
 have P:=RunS.pl H
 unfold WB8 at k
 dsimp only at k
 have H1:=RunS.new H (.cells #[mP M,mP T,fP b o] 206);generalize h.push (.cells #[mP M,mP T,fP b o] 206)=h1 at *;generalize h.size=N at *
 refine ss H1 ?_
 refine Wa3 (λc=>?_) (λc=>?_)
 ·rw [if_pos c] at k
  refine Wa0 (ZK9 H1 (by decide) O.st λh2 H2 u2=>?_)
  refine ss H2 ?_
  exact RunS.stP H2 λh90 H90=>k h90 (RunS.drp (RunS.none H90))
 rw [if_neg c] at k
 refine Wa3 (λc=>?_) (λc=>?_)
 ·rw [if_pos c] at k
  refine Wa3 (λc2=>?_) (λc2=>?_)
  ·rw [if_pos c2] at k
   exact Wa0 (Zd6 H1 Args.none (by omega) λh2 H2=>k h2 (RunS.drp H2))
  rw [if_neg c2] at k
  refine Wa0 (Wd6 H1 λh2 o2=>?_)
  have H2:=RunS.old H1 o2
  refine ss H2 ?_
  refine Wa0 (Wg2 H2 (Wc9 P _ _) O.st λh3 H3 u3=>?_)
  refine ss H3 ?_
  refine Wa0 (Wi3 u3 ?_)
  refine ss H3 ?_
  refine RunS.stR (i:=2) H3 rfl (Wj4 _) λh4 H4=>?_
  try simp +decide only [Wb8,bsx,Nat.reduceAdd,Int.reduceLE,Int.reduceLT,Int.reduceToNat,rsx,g_s,Wa7,RunS.al H4]
  exact RunS.stP H4 λh90 H90=>k h90 (RunS.drp (RunS.none H90))
 rw [if_neg c] at k
 refine RunS.stR (i:=0) H1 rfl (B.g 2) λh2 H2=>?_
 refine ss H2 ?_
 have hd:=O.fr
 have l1:=Ws9 x 0 (x.f.g 2)
 exact Wa0 (WH3 H2 [x.f.g 0] rfl (Wn8 (B.g 0)) rfl (by omega) λh4 b' o' _ _ H4=>k h4 (RunS.drp (RunS.none H4)))
theorem WH4 (H:Sat h (RunS M T tv (some (b,o)) x R)) (k:∀h',Sat h' (RunS M T tv none (Wv6 x) R)->K (.tuple #[]) h') :
  Wa5 Tryz.prog 189 #[rV M T b o] h K:=by
 refine call189 ?_
 unfold F189 g189 bd lP lI nP
 unfold Wv6 at k
 have H1:=RunS.new H (.cells #[mP M,mP T,fP b o] 207);generalize h.push (.cells #[mP M,mP T,fP b o] 207)=h1 at *;generalize h.size=N at *
 refine ss H1 ?_
 refine RunS.stR (i:=2) H1 rfl (Wk4 _) λh2 H2=>?_
 refine ss H2 ?_
 exact RunS.stP H2 λh3 H3=>k h3 (RunS.drp (RunS.none H3))
theorem Yr3 (H:Sat h (RunS M T tv (some (b,o)) x R)) (O:Ok x) (k:∀h',Sat h' (RunS M T tv none (WB9 x) R)->K (.tuple #[]) h') :
  Wa5 Tryz.prog 191 #[rV M T b o] h K:=by
 refine call191 ?_
 unfold F191 g191 cf ce bd lP lI nP da3 dl3
 have B:=RunS.fB H
 have P:=RunS.pl H
 unfold WB9 at k
 dsimp only at k
 have H1:=RunS.new H (.cells #[mP M,mP T,fP b o] 207);generalize h.push (.cells #[mP M,mP T,fP b o] 207)=h1 at *;generalize h.size=N at *
 refine ss H1 ?_
 refine Wa3 (λc=>?_) (λc=>?_)
 ·rw [if_pos c] at k
  refine ⟨λvs h'=>∃(d:Bool) (y:Run),vs = [.bool d,.bool d]/\Sat h' (RunS M T tv (some (b,o)) y (pt N (.cells #[mP M,mP T,fP b o] 207)*R))/\y.f=x.f/\∀h'',Sat h'' (RunS M T tv none (if d then y.pc 5 else if x.f.g 4=Wg8 (x.f.g 3) then Wv6 y else y.pc 6) R)->K (.tuple #[]) h'',?_,?_⟩
  ·refine Wa3 (λc2=>?_) (λc2=>?_)
   ·rw [if_pos c2] at k
    exact ⟨true,x,rfl,H1,rfl,k⟩
   rw [if_neg c2] at k
   refine Wa0 (Wd6 H1 λh2 o2=>?_)
   have H2:=RunS.old H1 o2
   refine ss H2 ?_
   refine Wa0 (Wg2 H2 (Wc9 P _ _) O.st λh3 H3 u3=>?_)
   refine ss H3 ?_
   refine Wa0 (Wq7 u3 ?_)
   refine ss H3 ?_
   exact ⟨_,_,rfl,H3,rfl,k⟩
  rintro v29 v30 g31 h32 ⟨d,y,e,H3,ef,k⟩
  cases e
  try simp +decide only [Wb8,bsx,Nat.reduceAdd,Int.reduceLE,Int.reduceLT,Int.reduceToNat,rsx,g_s,Wa7,RunS.al H3,ef]
  cases d
  ·simp only [Bool.false_eq_true,if_false] at k
   try simp +decide only [Wb8,bsx,Nat.reduceAdd,Int.reduceLE,Int.reduceLT,Int.reduceToNat,rsx,g_s,Wa7,RunS.al H3,ef]
   refine Wa0 (Wi3 (B.g 3) ?_)
   try simp +decide only [Wb8,bsx,Nat.reduceAdd,Int.reduceLE,Int.reduceLT,Int.reduceToNat,rsx,g_s,Wa7,RunS.al H3,ef]
   refine Wa3 (λc2=>?_) (λc2=>?_)
   ·rw [if_pos c2] at k
    exact Wa0 (WH4 H3 λh4 H4=>k h4 (RunS.drp H4))
   ·rw [if_neg c2] at k
    exact RunS.stP H3 λh4 H4=>k h4 (RunS.drp (RunS.none H4))
  ·exact RunS.stP H3 λh4 H4=>k h4 (RunS.drp (RunS.none H4))
 rw [if_neg c] at k
 refine Wa3 (λc=>?_) (λc=>?_)
 ·rw [if_pos c] at k
  refine Wa0 (Wd6 H1 λh2 o2=>?_)
  have H2:=RunS.old H1 o2
  refine ss H2 ?_
  refine Wa0 (Wg2 H2 (Wc9 P _ _) O.st λh3 H3 u3=>?_)
  refine ss H3 ?_
  refine Wa0 (Wi3 u3 ?_)
  refine ss H3 ?_
  refine RunS.stR (i:=4) H3 rfl (Wj4 _) λh4 H4=>?_
  try simp +decide only [Wb8,bsx,Nat.reduceAdd,Int.reduceLE,Int.reduceLT,Int.reduceToNat,rsx,g_s,Wa7,RunS.al H4]
  refine RunS.stP H4 λh5 H5=>?_
  try simp +decide only [Wb8,bsx,Nat.reduceAdd,Int.reduceLE,Int.reduceLT,Int.reduceToNat,rsx,g_s,Wa7,RunS.al H5,B.len]
  refine Wa3 (λc2=>?_) (λc2=>?_)
  ·rw [if_pos c2] at k
   exact RunS.stP H5 λh90 H90=>k h90 (RunS.drp (RunS.none H90))
  ·rw [if_neg c2] at k
   exact k h5 (RunS.drp (RunS.none H5))
 rw [if_neg c] at k
 refine Wa0 (Wd6 H1 λh2 o2=>?_)
 have H2:=RunS.old H1 o2
 refine ss H2 ?_
 refine Wa0 (Wn6 H2 (Wc9 P _ _) (B.g 3) O.st λh3 H3=>?_)
 refine ss H3 ?_
 refine Wb6 (λc2=>?_) (λc2=>?_)
 ·rw [if_pos c2] at k
  exact Wa0 (WH4 H3 λh4 H4=>k h4 (RunS.drp H4))
 ·rw [if_neg (by rw [c2];simp)] at k
  exact RunS.stP H3 λh90 H90=>k h90 (RunS.drp (RunS.none H90))
theorem Yr4 (H:Sat h (RunS M T tv (some (b,o)) x R)) (O:Ok x) (k:∀h',Sat h' (RunS M T tv none (WC0 x) R)->K (.tuple #[]) h') :
  Wa5 Tryz.prog 119 #[rV M T b o] h K:=by
 refine call119 ?_
 unfold F119 g119 cf ce bd lP lI nP da3 de7 Wm8 dl3
 have B:=RunS.fB H
 have P:=RunS.pl H
 unfold WC0 at k
 dsimp only at k
 have H1:=RunS.new H (.cells #[mP M,mP T,fP b o] 207);generalize h.push (.cells #[mP M,mP T,fP b o] 207)=h1 at *;generalize h.size=N at *
 refine ss H1 ?_
 refine Wa3 (λc=>?_) (λc=>?_)
 ·rw [if_pos c] at k
  refine Wa0 (Wg2 H1 (by decide) O.st λh2 H2 u2=>?_)
  refine ss H2 ?_
  refine RunS.stR (i:=1) H2 rfl u2 λh3 H3=>?_
  refine ss H3 ?_
  refine Wa0 (Ws3 H3 λh4 o4=>WF3 ?_)
  have H4:=RunS.old H3 o4
  try simp +decide only [Wb8,bsx,Nat.reduceAdd,Int.reduceLE,Int.reduceLT,Int.reduceToNat,rsx,g_s,Wa7,RunS.al H4]
  refine Wa0 (Wh6 λh5 o5=>cf7 ?_)
  have H5:=RunS.old H4 o5
  refine ss H5 ?_
  refine RunS.stR (i:=2) H5 rfl (Wk4 _) λh6 H6=>?_
  try simp +decide only [Wb8,bsx,Nat.reduceAdd,Int.reduceLE,Int.reduceLT,Int.reduceToNat,rsx,g_s,Wa7,RunS.al H6]
  exact RunS.stP H6 λh90 H90=>k h90 (RunS.drp (RunS.none H90))
 rw [if_neg c] at k
 refine Wa3 (λc=>?_) (λc=>?_)
 ·rw [if_pos c] at k
  refine Wa3 (λc2=>?_) (λc2=>?_)
  ·rw [if_pos c2] at k
   exact Wa0 (Zd6 H1 Args.none (by omega) λh2 H2=>k h2 (RunS.drp H2))
  rw [if_neg c2] at k
  refine Wa0 (Wd6 H1 λh2 o2=>?_)
  have H2:=RunS.old H1 o2
  refine ss H2 ?_
  refine Wa0 (Wg2 H2 (Wc9 P _ _) O.st λh3 H3 u3=>?_)
  refine ss H3 ?_
  refine RunS.stR (i:=3) H3 rfl u3 λh4 H4=>?_
  try simp +decide only [Wb8,bsx,Nat.reduceAdd,Int.reduceLE,Int.reduceLT,Int.reduceToNat,rsx,g_s,Wa7,RunS.al H4,B.len]
  refine Wa0 (Wi3 u3 ?_)
  refine ss H4 ?_
  refine RunS.stR (i:=4) H4 rfl (Wj4 _) λh5 H5=>?_
  try simp +decide only [Wb8,bsx,Nat.reduceAdd,Int.reduceLE,Int.reduceLT,Int.reduceToNat,rsx,g_s,Wa7,RunS.al H5]
  refine RunS.stP H5 λh6 H6=>?_
  try simp +decide only [Wb8,bsx,Nat.reduceAdd,Int.reduceLE,Int.reduceLT,Int.reduceToNat,rsx,g_s,Wa7,RunS.al H6,B.len]
  refine Wa3 (λc3=>?_) (λc3=>?_)
  ·rw [if_pos c3] at k
   exact Wa0 (WH4 H6 λh7 H7=>k h7 (RunS.drp H7))
  ·rw [if_neg c3] at k
   exact k h6 (RunS.drp (RunS.none H6))
 rw [if_neg c] at k
 refine Wa3 (λc=>?_) (λc=>?_)
 ·rw [if_pos c] at k
  refine Wa0 (WO1 H1 O (B.g 5) (B.g 4) λh2 H2=>?_)
  refine ss H2 ?_
  refine RunS.stR (i:=5) H2 rfl (Wk4 _) λh3 H3=>?_
  try simp +decide only [Wb8,bsx,Nat.reduceAdd,Int.reduceLE,Int.reduceLT,Int.reduceToNat,rsx,g_s,Wa7,RunS.al H3]
  exact RunS.stP H3 λh90 H90=>k h90 (RunS.drp (RunS.none H90))
 rw [if_neg c] at k
 refine Wa3 (λc=>?_) (λc=>?_)
 ·rw [if_pos c] at k
  refine RunS.stP H1 λh2 H2=>?_
  refine ss H2 ?_
  refine Wa0 (Wg2 H2 (by decide) O.st λh3 H3 u3=>?_)
  refine ss H3 ?_
  refine Wb6 (λc2=>?_) (λc2=>?_)
  ·rw [if_pos (bne_iff_ne.1 c2)] at k
   exact RunS.stP H3 λh5 H5=>k h5 (RunS.drp (RunS.none H5))
  ·rw [if_neg (λhh=>hh (bne_eq_false_iff_eq.1 c2))] at k
   exact k h3 (RunS.drp (RunS.none H3))
 rw [if_neg c] at k
 exact Wa0 (Yr3 H1 O λh2 H2=>k h2 (RunS.drp H2))
theorem Wn1 (H:Sat h (RunS M T tv (some (b,o)) x R)) (k:∀h',Old h.size h h'->K (uQ (Wg8 (x.f.g 5))) h') :
  Wa5 Tryz.prog 273 #[rV M T b o] h K:=by
 refine call273 ?_
 unfold F273 g273 cf bd lP lI nP
 have B:=RunS.fB H
 have oo:Old h.size h (h.push (.cells #[mP M,mP T,fP b o] 208)):=(Old.refl _ _).push _ (Nat.le_refl _)
 have H1:=RunS.new H (.cells #[mP M,mP T,fP b o] 208);generalize h.push (.cells #[mP M,mP T,fP b o] 208)=h1 at *;generalize h.size=N at *
 refine ss H1 ?_
 refine Wa0 (Wi3 (B.g 5) ?_)
 refine sb ?_
 exact k h1 oo
theorem Yr5 (H:Sat h (RunS M T tv (some (b,o)) x R)) (O:Ok x) (k:∀h',Sat h' (RunS M T tv none (Ww9 x) R)->K (.tuple #[]) h') :
  Wa5 Tryz.prog 192 #[rV M T b o] h K:=by
 refine call192 ?_
 unfold F192 g192 cf ce bd lP lI nP da3 dl3
 have B:=RunS.fB H
 have P:=RunS.pl H
 unfold Ww9 at k
 dsimp only at k
 have H1:=RunS.new H (.cells #[mP M,mP T,fP b o] 208);generalize h.push (.cells #[mP M,mP T,fP b o] 208)=h1 at *;generalize h.size=N at *
 refine ss H1 ?_
 refine Wa3 (λc=>?_) (λc=>?_)
 ·rw [if_pos c] at k
  refine Wa0 (Wg2 H1 (by decide) O.st λh2 H2 u2=>?_)
  refine ss H2 ?_
  refine RunS.stR (i:=0) H2 rfl u2 λh3 H3=>?_
  try simp +decide only [Wb8,bsx,Nat.reduceAdd,Int.reduceLE,Int.reduceLT,Int.reduceToNat,rsx,g_s,Wa7,RunS.al H3]
  refine RunS.stR (i:=2) H3 rfl (U.lit rfl) λh4 H4=>?_
  try simp +decide only [Wb8,bsx,Nat.reduceAdd,Int.reduceLE,Int.reduceLT,Int.reduceToNat,rsx,g_s,Wa7,RunS.al H4]
  refine RunS.stR (i:=3) H4 rfl U0 λh5 H5=>?_
  try simp +decide only [Wb8,bsx,Nat.reduceAdd,Int.reduceLE,Int.reduceLT,Int.reduceToNat,rsx,g_s,Wa7,RunS.al H5]
  refine RunS.stR (i:=4) H5 rfl U0 λh6 H6=>?_
  try simp +decide only [Wb8,bsx,Nat.reduceAdd,Int.reduceLE,Int.reduceLT,Int.reduceToNat,rsx,g_s,Wa7,RunS.al H6]
  exact RunS.stP H6 λh90 H90=>k h90 (RunS.drp (RunS.none H90))
 rw [if_neg c] at k
 refine Wa3 (λc=>?_) (λc=>?_)
 ·rw [if_pos c] at k
  refine Wa0 (Wd6 H1 λh2 o2=>?_)
  have H2:=RunS.old H1 o2
  refine ss H2 ?_
  refine Wa0 (Wg2 H2 (Wc9 P _ _) O.st λh3 H3 u3=>?_)
  refine ss H3 ?_
  refine RunS.stR (i:=1) H3 rfl u3 λh4 H4=>?_
  try simp +decide only [Wb8,bsx,Nat.reduceAdd,Int.reduceLE,Int.reduceLT,Int.reduceToNat,rsx,g_s,Wa7,RunS.al H4,B.len]
  refine RunS.stR (i:=5) H4 rfl u3 λh5 H5=>?_
  try simp +decide only [Wb8,bsx,Nat.reduceAdd,Int.reduceLE,Int.reduceLT,Int.reduceToNat,rsx,g_s,Wa7,RunS.al H5]
  exact RunS.stP H5 λh90 H90=>k h90 (RunS.drp (RunS.none H90))
 rw [if_neg c] at k
 refine Wa3 (λc=>?_) (λc=>?_)
 ·rw [if_pos c] at k
  refine RunS.stP H1 λh2 H2=>?_
  refine ss H2 ?_
  refine Wa0 (Wn1 H2 λh3 o3=>?_)
  have H3:=RunS.old H2 o3
  refine ss H3 ?_
  have hd:=O.fr
  have l1:=WF9 x 3
  refine Wa3 (λc2=>?_) (λc2=>?_)
  ·rw [if_pos c2] at k
   exact Wa0 (Wu9 H3 (U.lit rfl) (by omega) λh8 b' o' H8=>k h8 (RunS.drp (RunS.none H8)))
  ·rw [if_neg c2] at k
   exact k h3 (RunS.drp (RunS.none H3))
 rw [if_neg c] at k
 refine Wa3 (λc=>?_) (λc=>?_)
 ·rw [if_pos c] at k
  refine Wa0 (Wn1 H1 λh2 o2=>?_)
  have H2:=RunS.old H1 o2
  refine ss H2 ?_
  refine Wa0 (WO1 H2 O (B.g 3) (Wj4 _) λh3 H3=>?_)
  have ef:(x.guard (x.f.g 3) (Wg8 (x.f.g 5))).f=x.f:=rfl
  try simp +decide only [Wb8,bsx,Nat.reduceAdd,Int.reduceLE,Int.reduceLT,Int.reduceToNat,rsx,g_s,Wa7,RunS.al H3,ef]
  refine RunS.stR (i:=3) H3 rfl (Wk4 _) λh4 H4=>?_
  try simp +decide only [Wb8,bsx,Nat.reduceAdd,Int.reduceLE,Int.reduceLT,Int.reduceToNat,rsx,g_s,Wa7,RunS.al H4]
  exact RunS.stP H4 λh90 H90=>k h90 (RunS.drp (RunS.none H90))
 rw [if_neg c] at k
 refine Wa3 (λc=>?_) (λc=>?_)
 ·rw [if_pos c] at k
  refine RunS.stP H1 λh2 H2=>?_
  refine ss H2 ?_
  refine Wa0 (Wg2 H2 (by decide) O.st λh3 H3 u3=>?_)
  refine ss H3 ?_
  refine Wb6 (λc2=>?_) (λc2=>?_)
  ·rw [if_pos (bne_iff_ne.1 c2)] at k
   exact RunS.stP H3 λh5 H5=>k h5 (RunS.drp (RunS.none H5))
  ·rw [if_neg (λhh=>hh (bne_eq_false_iff_eq.1 c2))] at k
   exact k h3 (RunS.drp (RunS.none H3))
 rw [if_neg c] at k
 exact k h1 (RunS.drp (RunS.none H1))
theorem Y26 (H:Sat h (RunS M T tv (some (b,o)) x R)) (O:Ok x) (k:∀h',Sat h' (RunS M T tv none (YH5 x) R)->K (.tuple #[]) h') :
  Wa5 Tryz.prog 193 #[rV M T b o] h K:=by
 refine call193 ?_
 unfold F193 g193 cf ce bd lP lI nP da3 dl3
 have B:=RunS.fB H
 have P:=RunS.pl H
 unfold YH5 at k
 dsimp only at k
 have H1:=RunS.new H (.cells #[mP M,mP T,fP b o] 208);generalize h.push (.cells #[mP M,mP T,fP b o] 208)=h1 at *;generalize h.size=N at *
 refine ss H1 ?_
 refine Wa3 (λc=>?_) (λc=>?_)
 ·rw [if_pos c] at k
  refine RunS.stP H1 λh2 H2=>?_
  refine ss H2 ?_
  refine ⟨λvs h'=>∃(w:Value) (d:Bool) (y:Run),vs = [w,.bool d]/\Sat h' (RunS M T tv (some (b,o)) y (pt N (.cells #[mP M,mP T,fP b o] 208)*R))/\(∀i,y.f.g i=x.f.g i)/\∀h'',Sat h'' (RunS M T tv none (if d then y.s 4 (x.f.g 2) else y) R)->K (.tuple #[]) h'',?_,?_⟩
  ·refine Wb6 (λc2=>?_) (λc2=>?_)
   ·have c2':=bne_iff_ne.1 c2
    refine Wa3 (λc3=>?_) (λc3=>?_)
    ·rw [if_pos ⟨c2',c3⟩] at k
     refine ss H2 ?_
     refine Wa0 (Wo9 H2 (by decide) λh3 o3=>?_)
     have H3:=RunS.old H2 o3
     refine ss H3 ?_
     refine Wa0 (Wg2 H3 (Wc9 P _ _) O.st λh4 H4 u4=>?_)
     refine ss H4 ?_
     refine ⟨_,decide (((x.pc 6).load ((x.pc 6).na (x.f.g 2) 2)).1=1),_,rfl,H4,λi=>by rw [Wm4,WF2,WP0],?_⟩
     simp only [decide_eq_true_eq]
     exact k
    ·rw [if_neg (λhh=>c3 hh.2)] at k
     exact ⟨_,false,_,rfl,H2,λi=>by rw [WF2,WP0],k⟩
   ·have c2':=bne_eq_false_iff_eq.1 c2
    rw [if_neg (λhh=>hh.1 c2')] at k
    exact ⟨_,false,_,rfl,H2,λi=>by rw [WF2,WP0],k⟩
  rintro v28 v29 g30 h31 ⟨w,d,y,e,H3,eg,k⟩
  cases e
  try simp +decide only [Wb8,bsx,Nat.reduceAdd,Int.reduceLE,Int.reduceLT,Int.reduceToNat,rsx,g_s,Wa7,RunS.al H3,eg]
  cases d
  ·exact k h31 (RunS.drp (RunS.none H3))
  ·try simp +decide only [Wb8,bsx,Nat.reduceAdd,Int.reduceLE,Int.reduceLT,Int.reduceToNat,rsx,g_s,Wa7,RunS.al H3,eg]
   exact RunS.stR (i:=4) H3 rfl (B.g 2) λh4 H4=>k h4 (RunS.drp (RunS.none H4))
 rw [if_neg c] at k
 refine Wa3 (λc=>?_) (λc=>?_)
 ·rw [if_pos c] at k
  refine RunS.stP H1 λh2 H2=>?_
  refine ss H2 ?_
  refine Wa0 (Wq7 (B.g 5) ?_)
  refine ss H2 ?_
  refine Wb6 (λc2=>?_) (λc2=>?_)
  ·rw [if_pos c2,<- Zx8 x 8 7] at k
   try simp +decide only [Wb8,bsx,Nat.reduceAdd,Int.reduceLE,Int.reduceLT,Int.reduceToNat,rsx,g_s,Wa7,RunS.al H2]
   refine Wa0 (Wn1 H2 λh3 o3=>?_)
   have H3:=RunS.old H2 o3
   refine ss H3 ?_
   refine RunS.stR (i:=2) H3 rfl (Wj4 _) λh4 H4=>?_
   try simp +decide only [Wb8,bsx,Nat.reduceAdd,Int.reduceLE,Int.reduceLT,Int.reduceToNat,rsx,g_s,Wa7,RunS.al H4]
   exact RunS.stP H4 λh5 H5=>k h5 (RunS.drp (RunS.none H5))
  ·rw [if_neg (by rw [c2];simp)] at k
   try simp +decide only [Wb8,bsx,Nat.reduceAdd,Int.reduceLE,Int.reduceLT,Int.reduceToNat,rsx,g_s,Wa7,RunS.al H2]
   refine Wa3 (λc3=>?_) (λc3=>?_)
   ·rw [if_pos c3,<- ZG6 x 8 9] at k
    exact RunS.stP H2 λh5 H5=>k h5 (RunS.drp (RunS.none H5))
   ·rw [if_neg c3] at k
    exact k h2 (RunS.drp (RunS.none H2))
 rw [if_neg c] at k
 refine Wa3 (λc=>?_) (λc=>?_)
 ·rw [if_pos c] at k
  refine Wa0 (Wd6 H1 λh2 o2=>?_)
  have H2:=RunS.old H1 o2
  refine ss H2 ?_
  refine Wa0 (Wg2 H2 (Wc9 P _ _) O.st λh3 H3 u3=>?_)
  refine ss H3 ?_
  refine RunS.stR (i:=5) H3 rfl u3 λh4 H4=>?_
  try simp +decide only [Wb8,bsx,Nat.reduceAdd,Int.reduceLE,Int.reduceLT,Int.reduceToNat,rsx,g_s,Wa7,RunS.al H4]
  exact RunS.stP H4 λh90 H90=>k h90 (RunS.drp (RunS.none H90))
 rw [if_neg c] at k
 refine Wa3 (λc=>?_) (λc=>?_)
 ·rw [if_pos c] at k
  refine RunS.stP H1 λh2 H2=>?_
  refine ss H2 ?_
  refine Wa0 (Wd6 H2 λh3 o3=>?_)
  have H3:=RunS.old H2 o3
  refine ss H3 ?_
  refine Wa0 (Wn1 H3 λh4 o4=>?_)
  have H4:=RunS.old H3 o4
  refine ss H4 ?_
  refine Wa0 (Wn6 H4 (Wc9 P _ _) (B.g 5) O.st λh5 H5=>?_)
  have ef:((x.pc 9).swingM ((x.pc 9).nlink (x.f.g 2) 0) (x.f.g 5) (Wg8 (x.f.g 5)) true).2.f=(x.pc 9).f:=rfl
  try simp +decide only [Wb8,bsx,Nat.reduceAdd,Int.reduceLE,Int.reduceLT,Int.reduceToNat,rsx,g_s,Wa7,RunS.al H5,ef]
  refine Wb6 (λc2=>?_) (λc2=>?_)
  ·rw [if_neg (by simpa using c2)] at k
   refine RunS.stR (i:=3) H5 rfl (Wk4 _) λh6 H6=>?_
   try simp +decide only [Wb8,bsx,Nat.reduceAdd,Int.reduceLE,Int.reduceLT,Int.reduceToNat,rsx,g_s,Wa7,RunS.al H6]
   exact RunS.stP H6 λh7 H7=>k h7 (RunS.drp (RunS.none H7))
  ·rw [if_pos (by simpa using c2)] at k
   exact k h5 (RunS.drp (RunS.none H5))
 rw [if_neg c] at k
 exact k h1 (RunS.drp (RunS.none H1))
theorem Yr6 (H:Sat h (RunS M T tv (some (b,o)) x R)) (O:Ok x) (k:∀h',Sat h' (RunS M T tv none (Wx0 x) R)->K (.tuple #[]) h') :
  Wa5 Tryz.prog 194 #[rV M T b o] h K:=by
 refine call194 ?_
 unfold F194 g194 cf ce bd lP lI nP da3 de7 Wm8 dl3
 have B:=RunS.fB H
 have P:=RunS.pl H
 unfold Wx0 at k
 dsimp only at k
 have H1:=RunS.new H (.cells #[mP M,mP T,fP b o] 208);generalize h.push (.cells #[mP M,mP T,fP b o] 208)=h1 at *;generalize h.size=N at *
 refine ss H1 ?_
 refine Wa3 (λc=>?_) (λc=>?_)
 ·rw [if_pos c] at k
  refine Wa0 (Wn1 H1 λh2 o2=>?_)
  have H2:=RunS.old H1 o2
  refine ss H2 ?_
  refine Wa0 (Wo9 H2 (by decide) λh3 o3=>?_)
  have H3:=RunS.old H2 o3
  refine ss H3 ?_
  refine Wa0 (Wg2 H3 (Wc9 P _ _) O.st λh4 H4 u4=>?_)
  refine ss H4 ?_
  refine RunS.stR (i:=6) H4 rfl u4 λh5 H5=>?_
  try simp +decide only [Wb8,bsx,Nat.reduceAdd,Int.reduceLE,Int.reduceLT,Int.reduceToNat,rsx,g_s,Wa7,RunS.al H5]
  exact RunS.stP H5 λh90 H90=>k h90 (RunS.drp (RunS.none H90))
 rw [if_neg c] at k
 refine Wa3 (λc=>?_) (λc=>?_)
 ·rw [if_pos c] at k
  refine Wa0 (Wn1 H1 λh2 o2=>?_)
  have H2:=RunS.old H1 o2
  refine ss H2 ?_
  refine Wa0 (Wo9 H2 (by decide) λh3 o3=>?_)
  have H3:=RunS.old H2 o3
  refine ss H3 ?_
  refine Wa0 (Wg2 H3 (Wc9 P _ _) O.st λh4 H4 u4=>?_)
  refine ss H4 ?_
  refine Wa0 (Yd0 u4 ?_)
  try simp +decide only [Wb8,bsx,Nat.reduceAdd,Int.reduceLE,Int.reduceLT,Int.reduceToNat,rsx,g_s,Wa7,RunS.al H4,YB9 u4]
  refine RunS.stR (i:=8) H4 rfl (YC0 u4) λh5 H5=>?_
  try simp +decide only [Wb8,bsx,Nat.reduceAdd,Int.reduceLE,Int.reduceLT,Int.reduceToNat,rsx,g_s,Wa7,RunS.al H5]
  generalize hy:((x.load (x.na (Wg8 (x.f.g 5)) 0)).2.s 8 (WJ5 (x.load (x.na (Wg8 (x.f.g 5)) 0)).1)).pc 11=y at k
  have hyg:∀i,¬ 8=i->y.f.g i=x.f.g i:=λi hi=>by rw [<- hy,WF2,WP0,f_s,Wa7 _ hi,Wm4]
  have hyn:y.f.fn=x.f.fn:=by rw [<- hy,WF2,Wt0,f_s,WU3,Wm4]
  refine RunS.stP H5 λh6 H6=>?_
  rw [hy] at H6
  have e3:=hyg 3 (by decide)
  have e4:=hyg 4 (by decide)
  have e5:=hyg 5 (by decide)
  refine ⟨λvs h'=>∃y2:Run,Sat h' (RunS M T tv (some (b,o)) y2 (pt N (.cells #[mP M,mP T,fP b o] 208)*R))/\(∀i,y2.f.g i=y.f.g i)/\∀h'',Sat h'' (RunS M T tv none (if x.f.g 4=0 then y2.s 4 (Wg8 (x.f.g 5)) else y2) R)->K (.tuple #[]) h'',?_,?_⟩
  ·refine ⟨λvs h'=>∃d:Bool,vs = [.bool d]/\Sat h' (RunS M T tv (some (b,o)) y (pt N (.cells #[mP M,mP T,fP b o] 208)*R))/\(d=true↔(x.f.fn=33\/x.f.g 3 < Mod.u64 y.m.p.c.batch)),?_,?_⟩
   ·try simp +decide only [Wb8,bsx,Nat.reduceAdd,Int.reduceLE,Int.reduceLT,Int.reduceToNat,rsx,g_s,Wa7,RunS.al H6,hyn,e3]
    refine Wa3 (λc2=>?_) (λc2=>?_)
    ·exact ⟨true,rfl,H6,by simp [c2]⟩
    ·try simp +decide only [Wb8,bsx,Nat.reduceAdd,Int.reduceLE,Int.reduceLT,Int.reduceToNat,rsx,g_s,Wa7,RunS.al H6,hyn,e3]
     refine Wa0 (Ws3 H6 λh7 o7=>WF3 ?_)
     have H7:=RunS.old H6 o7
     try simp +decide only [Wb8,bsx,Nat.reduceAdd,Int.reduceLE,Int.reduceLT,Int.reduceToNat,rsx,g_s,Wa7,RunS.al H7,e3]
     refine Wa0 (Wh6 λh8 o8=>cf7 ?_)
     have H8:=RunS.old H7 o8
     try simp +decide only [Wb8,bsx,Nat.reduceAdd,Int.reduceLE,Int.reduceLT,Int.reduceToNat,rsx,g_s,Wa7,RunS.al H8,e3]
     exact ⟨_,rfl,H8,by simp [c2]⟩
   rintro v89 g90 h91 ⟨d,e,H7,hd⟩
   cases e
   refine ss H7 ?_
   refine Wb6 (λc2=>?_) (λc2=>?_)
   ·rw [if_pos (show x.f.fn=33\/x.f.g 3 < Mod.u64 y.m.p.c.batch from hd.1 c2)] at k
    exact RunS.stP H7 λh8 H8=>⟨_,H8,λi=>by rw [WF2,WP0],k⟩
   ·have hn:¬ (x.f.fn=33\/x.f.g 3 < Mod.u64 y.m.p.c.batch):=λhh=>by rw [hd.2 hh] at c2;cases c2
    rw [if_neg hn] at k
    exact ⟨_,H7,λi=>rfl,k⟩
  rintro g95 h96 ⟨y2,H7,eg,k⟩
  have f4:=(eg 4).trans e4
  have f5:=(eg 5).trans e5
  try simp +decide only [Wb8,bsx,Nat.reduceAdd,Int.reduceLE,Int.reduceLT,Int.reduceToNat,rsx,g_s,Wa7,RunS.al H7,f4,f5]
  refine Wa3 (λc2=>?_) (λc2=>?_)
  ·rw [if_pos c2] at k
   try simp +decide only [Wb8,bsx,Nat.reduceAdd,Int.reduceLE,Int.reduceLT,Int.reduceToNat,rsx,g_s,Wa7,RunS.al H7,f4,f5]
   refine Wa0 (Wn1 H7 λh8 o8=>?_)
   have H8:=RunS.old H7 o8
   try simp +decide only [Wb8,bsx,Nat.reduceAdd,Int.reduceLE,Int.reduceLT,Int.reduceToNat,rsx,g_s,Wa7,RunS.al H8,f4,f5]
   exact RunS.stR (i:=4) H8 rfl (Wj4 _) λh9 H9=>k h9 (RunS.drp (RunS.none H9))
  ·rw [if_neg c2] at k
   exact k h96 (RunS.drp (RunS.none H7))
 rw [if_neg c] at k
 exact k h1 (RunS.drp (RunS.none H1))
theorem YK4 (H:Sat h (RunS M T tv (some (b,o)) x R)) (O:Ok x) (k:∀h',Sat h' (RunS M T tv none (WM7 x) R)->K (.tuple #[]) h') :
  Wa5 Tryz.prog 195 #[rV M T b o] h K:=by
 refine call195 ?_
 unfold F195 g195 cf ce bd lP lI nP da3
 have B:=RunS.fB H
 have P:=RunS.pl H
 unfold WM7 at k
 dsimp only at k
 have H1:=RunS.new H (.cells #[mP M,mP T,fP b o] 208);generalize h.push (.cells #[mP M,mP T,fP b o] 208)=h1 at *;generalize h.size=N at *
 refine ss H1 ?_
 refine Wa3 (λc=>?_) (λc=>?_)
 ·rw [if_pos c] at k
  refine RunS.stP H1 λh2 H2=>?_
  refine ss H2 ?_
  refine Wa0 (Wd6 H2 λh3 o3=>?_)
  have H3:=RunS.old H2 o3
  refine ss H3 ?_
  refine Wa0 (Wn6 H3 (Wc9 P _ _) (B.g 1) O.st λh5 H5=>?_)
  refine ss H5 ?_
  refine Wb6 (λc2=>?_) (λc2=>?_)
  ·rw [if_pos c2] at k
   exact RunS.stP H5 λh90 H90=>k h90 (RunS.drp (RunS.none H90))
  ·rw [if_neg (by rw [c2];simp)] at k
   exact k h5 (RunS.drp (RunS.none H5))
 rw [if_neg c] at k
 refine Wa3 (λc=>?_) (λc=>?_)
 ·rw [if_pos c] at k
  have hd:=O.fr
  exact Wa0 (WH3 H1 [0] rfl (Wn8 U0) rfl (by omega) λh4 b' o' _ _ H4=>k h4 (RunS.drp (RunS.none H4)))
 rw [if_neg c] at k
 refine Wa3 (λc=>?_) (λc=>?_)
 ·rw [if_pos c] at k
  have hd:=O.fr
  refine Wa0 (Wi3 (B.g 1) ?_)
  refine ss H1 ?_
  exact Wa0 (WH3 H1 [Wg8 (x.f.g 1),x.f.g 4] rfl (Yf3 (Wj4 _) (B.g 4)) rfl (by omega) λh4 b' o' _ _ H4=>k h4 (RunS.drp (RunS.none H4)))
 rw [if_neg c] at k
 have hd:=O.fr
 exact Wa0 (W30 H1 (U.lit rfl) (B.g 8) (B.g 6) (by omega) λh5 b' o' H5=>k h5 (RunS.drp (RunS.none H5)))
theorem Yr7 (H:Sat h (RunS M T tv (some (b,o)) x R)) (O:Ok x) (k:∀h',Sat h' (RunS M T tv none (Wx1 x) R)->K (.tuple #[]) h') :
  Wa5 Tryz.prog 120 #[rV M T b o] h K:=by
 refine call120 ?_
 unfold F120 g120 cf lP lI nP dl3
 have B:=RunS.fB H
 have P:=RunS.pl H
 unfold Wx1 at k
 have H1:=RunS.new H (.cells #[mP M,mP T,fP b o] 208);generalize h.push (.cells #[mP M,mP T,fP b o] 208)=h1 at *;generalize h.size=N at *
 refine ss H1 ?_
 refine Wa3 (λc=>?_) (λc=>?_)
 ·rw [if_pos c] at k
  exact Wa0 (Yr5 H1 O λh2 H2=>k h2 (RunS.drp H2))
 rw [if_neg c] at k
 refine Wa3 (λc=>?_) (λc=>?_)
 ·rw [if_pos c] at k
  exact Wa0 (Y26 H1 O λh2 H2=>k h2 (RunS.drp H2))
 rw [if_neg c] at k
 refine Wa3 (λc=>?_) (λc=>?_)
 ·rw [if_pos c] at k
  exact Wa0 (Yr6 H1 O λh2 H2=>k h2 (RunS.drp H2))
 rw [if_neg c] at k
 exact Wa0 (YK4 H1 O λh2 H2=>k h2 (RunS.drp H2))
theorem W75 (H:Sat h (RunS M T tv fo x R)) (O:Ok x) (hf:LOk x) (hS:x.f.fn=31->ZO5 x) (k:∀h',Sat h' (RunS M T tv none (Wl2 x) R)->K (.tuple #[]) h') :
  Wa5 Tryz.prog 65 #[mP M,mP T] h K:=by
 refine call65 ?_
 unfold F65 cf bd lI nP dl3
 unfold Wl2 at k
 dsimp only at k
 refine Wa0 (Zi3 H (λe=>?_) λb o hne _ H1=>?_)
 ·rw [if_pos e] at k
  refine sb ?_
  refine ⟨λvs h'=>vs = [.bool true]/\h' = h,⟨rfl,rfl⟩,?_⟩
  rintro v4 g6 h7 ⟨e,rfl⟩
  cases e
  refine sb ?_
  exact k _ (RunS.none H)
 ·rw [if_neg hne] at k
  refine sb ?_
  refine ⟨λvs h'=>vs = [.bool false]/\h' = h,⟨rfl,rfl⟩,?_⟩
  rintro v4 g6 h7 ⟨e,rfl⟩
  cases e
  have B:=RunS.fB H1
  refine sb ?_
  have H2:=RunS.new H1 (.cells #[.pointer none,.pointer none,.pointer none] 202)
  generalize h7.push (.cells #[.pointer none,.pointer none,.pointer none] 202)=h2 at *
  generalize h7.size=N at *
  refine st3 (Wd9 (vs:=[mP M,mP T,fP b o]) (RunS.loc H2) rfl (by simp [Wi4]) λh3 w=>?_)
  have H3:=RunS.wr H2 w.new w.old
  clear H2 w
  refine ss H3 ?_
  refine ⟨λvs h'=>(∃w,vs = [.bool (decide (x.f.fn < 31\/36 < x.f.fn)),w])/\h' = h3,?_,?_⟩
  ·refine Wa3 (λc=>?_) (λc=>?_)
   ·rw [decide_eq_true (p:=x.f.fn < 31\/36 < x.f.fn) (by omega)]
    exact ⟨⟨_,rfl⟩,by trivial⟩
   ·rw [show decide (x.f.fn > 36)=decide (x.f.fn < 31\/36 < x.f.fn) by rw [decide_eq_decide];omega]
    exact ⟨⟨_,rfl⟩,by trivial⟩
  rintro v18 v19 g20 h21 ⟨⟨w,e⟩,rfl⟩
  cases e
  refine ss H3 ?_
  refine Wa3 (λc=>?_) (λc=>?_)
  ·rw [if_pos c] at k
   exact Wa0 (W74 H3 O hf λh4 H4=>k h4 (RunS.drp H4))
  rw [if_neg c] at k
  refine Wa3 (λc=>?_) (λc=>?_)
  ·rw [if_pos c] at k
   exact Wa0 (ZC1 H3 [x.f.g 7,x.f.g 8,x.f.g 9] rfl (Yp8 (B.g 7) (B.g 8) (B.g 9)) rfl λh4 H4=>k h4 (RunS.drp H4))
  rw [if_neg c] at k
  refine Wa3 (λc=>?_) (λc=>?_)
  ·rw [if_pos c] at k
   exact Wa0 (Yr0 H3 O (hS c) λh4 H4=>k h4 (RunS.drp H4))
  rw [if_neg c] at k
  refine Wa3 (λc=>?_) (λc=>?_)
  ·rw [if_pos c] at k
   exact Wa0 (Yr1 H3 O λh4 H4=>k h4 (RunS.drp H4))
  rw [if_neg c] at k
  refine Wa3 (λc=>?_) (λc=>?_)
  ·rw [if_pos c] at k
   exact Wa0 (Yr2 H3 O λh4 H4=>k h4 (RunS.drp H4))
  rw [if_neg c] at k
  refine Wa3 (λc=>?_) (λc=>?_)
  ·rw [if_pos c] at k
   exact Wa0 (Yr4 H3 O λh4 H4=>k h4 (RunS.drp H4))
  rw [if_neg c] at k
  exact Wa0 (Yr7 H3 O λh4 H4=>k h4 (RunS.drp H4))
end
end
section
open Mod
theorem YC1 {d:Run->Run}:∀ {n m:Nat} {x z w:Run},Mod.bits d n x=some z->Mod.bits d m x=some w->z=w
 | 0,0,x,z,w,h1,h2=>by
  rw [h1] at h2;exact Option.some.inj h2
 | 0,m+1,x,z,w,h1,h2=>by
  unfold Mod.bits at h1 h2
  split at h1
  ·rename_i c
   rw [if_pos c] at h2
   rw [h1] at h2;exact Option.some.inj h2
  ·cases h1
 | n+1,0,x,z,w,h1,h2=>by
  unfold Mod.bits at h1 h2
  split at h2
  ·rename_i c
   rw [if_pos c] at h1
   rw [h1] at h2;exact Option.some.inj h2
  ·cases h2
 | n+1,m+1,x,z,w,h1,h2=>by
  unfold Mod.bits at h1 h2
  split at h1
  ·rename_i c
   rw [if_pos c] at h2
   rw [h1] at h2;exact Option.some.inj h2
  ·rename_i c
   rw [if_neg c] at h2
   exact YC1 h1 h2
open Classical in
noncomputable def Wx6 (d:Run->Run) (x:Run):Run:=if h:∃z,∃n,Mod.bits d n x=some z then h.choose else x
theorem WQ2 {d:Run->Run} {n:Nat} {x z:Run} (h:Mod.bits d n x=some z):Wx6 d x=z:=by
 have hh:∃z,∃n,Mod.bits d n x=some z:=⟨z,n,h⟩
 unfold Wx6
 rw [dif_pos hh]
 obtain ⟨m,hm⟩:=hh.choose_spec
 exact YC1 hm h
def We8 (m:Mac) (k:Nat):Thr:=m.th.getD k (WE2 m.p.c)
def Y27 (t:Thr):Cl:=⟨s64 (t.ret.getD 0 0),u32 (t.ret.getD 1 0),u32 (t.ret.getD 2 0)⟩
def cl0:Cl:=⟨0,0,0⟩
def DS.enter (ins:Int) (calls:List (List Cl)) (s:DS) (k:Nat):Option DS:=
 if (We8 s.m k).fr = [] then
  if (calls.getD k []).length<=(s.nx.getD k 0).toNat then none
  else some ⟨s.m.setTh (s.m.th.set k ((We8 s.m k).push (ins+((calls.getD k []).getD (s.nx.getD k 0).toNat cl0).op) [((calls.getD k []).getD (s.nx.getD k 0).toNat cl0).key,((calls.getD k []).getD (s.nx.getD k 0).toNat cl0).val])),s.nx.set k (s.nx.getD k 0+1),s.cu.set k ((calls.getD k []).getD (s.nx.getD k 0).toNat cl0),s.ev ++ [⟨k,false,(calls.getD k []).getD (s.nx.getD k 0).toNat cl0,cl0⟩]⟩
 else some s
noncomputable def DS.go (d:Run->Run) (s:DS) (k:Nat):DS:=
 if (Wx6 d ⟨s.m.quiet,We8 s.m k,k⟩).t.fr = [] then ⟨(Wx6 d ⟨s.m.quiet,We8 s.m k,k⟩).m.setTh (s.m.th.set k (Wx6 d ⟨s.m.quiet,We8 s.m k,k⟩).t),s.nx,s.cu,s.ev ++ [⟨k,true,cl0,Y27 (Wx6 d ⟨s.m.quiet,We8 s.m k,k⟩).t⟩]⟩
 else ⟨(Wx6 d ⟨s.m.quiet,We8 s.m k,k⟩).m.setTh (s.m.th.set k (Wx6 d ⟨s.m.quiet,We8 s.m k,k⟩).t),s.nx,s.cu,s.ev⟩
noncomputable def DS.pick (d:Run->Run) (ins:Int) (calls:List (List Cl)) (s:DS) (k:Int):DS:=match s.enter ins calls k.toNat with
 | none=>s
 | some s1=>s1.go d k.toNat
structure Zj7 (d:Run->Run) (W:Run->Prop) (ins:Int) (Inv:Nat->Mac->Prop):Prop where
 mono:∀(i:Nat) (m:Mac),Inv i m->Inv (i+1) m
 wd:∀i m,Inv i m->ZR7 m/\2 < m.mm.w.length
 push:∀(i:Nat) (m:Mac) (k:Nat) (t:Thr) (c:Cl),Inv i m->m.th[k]? = some t->t.fr = []->0<=c.op/\c.op<=2->V c.key->V c.val->Inv i (m.setTh (m.th.set k (t.push (ins+c.op) [c.key,c.val])))
 step:∀(i:Nat) (m:Mac) (k:Nat) (t:Thr),Inv i m->i < 100000->m.th[k]? = some t->t.fr≠[]->∃n z,Mod.bits d n ⟨m.quiet,t,k⟩=some z/\ZB8 d W n ⟨m.quiet,t,k⟩/\z.id=k/\z.m.th=m.th/\Inv (i+1) (z.m.setTh (m.th.set k z.t))
structure ZL0 (h:Wa2) (ca:Option Addr) (cl:Nat) (pa:Option Addr) (pl:Nat) (calls:List (List Cl)) (Wc3:List Int):Prop where
 cs:cl=calls.length
 row:∀i,i < calls.length->∃a c,(∃ad,ca=some ad/\Wa1 h (ad.add i)=some (.slice a (calls.getD i []).length c))/\Sees h a ((calls.getD i []).flatMap clc)
 ps:pl=Wc3.length
 pk:Sees h pa (Wc3.map iv)
section
variable {K:kQ} {h:Wa2} {M:Nat} {B:DB} {Ts:List Nat} {R:Hp} {d:Run->Run} {W:Run->Prop} {ins:Int} {Inv:Nat->Mac->Prop} {calls:List (List Cl)}
end
end
section
open Mod
theorem Zx9 {K:kQ} {h:Wa2} {n:Nat} (hn:n<=4096) (k:K (.slice (some (aQ h.size)) n n) (h.push (.cells ((List.replicate n (0:Int)).map iv).toArray 3))):Wr4 Tryz.prog 3 (n:Int) (n:Int) h K:=by
 refine Zs9 (by omega) ?_
 rw [Int.toNat_natCast]
 exact k
def Wz7 (c:Mod.Cf) (ca:Option Addr) (cl cc:Nat) (pa:Option Addr) (pl pc:Nat) (da:Option Addr) (dl dc:Nat):List Value:=[iQ c.algo,iQ c.threads,iQ c.nodes,iQ c.level,iQ c.batch,iQ c.probes,iQ c.scan,.slice ca cl cc,.slice pa pl pc,.slice da dl dc]
section
variable {K:kQ} {h:Wa2} {M:Nat} {Ts:List Nat} {R:Hp} {d:Run->Run} {W:Run->Prop} {ins:Int} {Inv:Nat->Mac->Prop} {calls:List (List Cl)} {Wc3:List Int} {m:Mac}
end
end
end Go.Proofs.YtahpbclnkofhfaaGreat
