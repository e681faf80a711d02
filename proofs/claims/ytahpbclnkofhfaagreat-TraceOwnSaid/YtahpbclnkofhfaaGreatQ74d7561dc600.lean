/- Part 9 of what the proofs of this seat rest on: see the last text of the claim. -/
import Derived.Test.YtahpbclnkofhfaaGreatQadabf5faf52e
import Derived.Test.YtahpbclnkofhfaaGreatProg
set_option linter.unusedSimpArgs false
set_option linter.unusedVariables false
set_option linter.ambiguousOpen false
set_option maxRecDepth 20000
namespace Go.Proofs.YtahpbclnkofhfaaGreat
section
set_option maxRecDepth 100000
def F63 (K:kQ) (h:Wa2) (xa xb:Option Addr):Prop:=
 (cf 105 #[.pointer xb] h λa b=>Wb2 a λa=>exI λI3=>(ifB (Option.isNone a) (I3 [.bool true] b) (I3 [.bool (Option.isNone xa)] b))/\(∀(b:Value) (c:Env) (c:Wa2),(I3 [b] c)->(asBool b λb=>ifB b (K (.tuple #[]) c) (stH (Array.push c (.cells #[.pointer none,.pointer none,.pointer none] 187)) (aQ c.size) (.pointer xa) λb=>stH b ⟨c.size,1,none⟩ (.pointer xb) λb=>stH b ⟨c.size,2,none⟩ (.pointer a) λb=>exI λI11=>(nP a λd=>lI .i64 b (Addr.add d 1) λd=>ifB (d == 90) (nP a λd=>lI .i64 b d λd=>ifB (decide (d >= 11)) (nP a λe=>lI .i64 b e λe=>I11 [.bool (decide (e<=13)),.bool (decide (d >= 11)),.bool (decide (e<=13))] b) (I11 [.bool false,.bool (decide (d >= 11)),.bool false] b)) (I11 [.bool false,.bool false,.bool false] b))/\(∀(b d e:Value) (f:Env) (f:Wa2),(I11 [b,d,e] f)->(asBool b λb=>ifB b (nP a λb=>bd 7 10 (lI .u64 f (Addr.add b 9) λb=>nP a λd=>bd 8 10 (lI .u64 f (Addr.add d 10) λd=>nP a λe=>bd 9 10 (lI .u64 f (Addr.add e 11) λe=>cf 106 #[.pointer xb,.slice (some (aQ f.size)) 3 3] (Array.push f (.cells #[uQ b,uQ d,uQ e] 178)) λb b=>K (.tuple #[]) b)))) (nP a λb=>lI .i64 f b λb=>ifB (b == 10) (dl3 f c.size λb d e=>cf 107 #[.agg #[b,d,e]] f λb b=>K (.tuple #[]) b) (nP a λb=>lI .i64 f b λb=>ifB (b == 11) (dl3 f c.size λb d e=>cf 108 #[.agg #[b,d,e]] f λb b=>K (.tuple #[]) b) (exI λI54=>(nP a λb=>lI .i64 f b λb=>ifB (b == 12) (I54 [.bool true,.bool true] f) (nP a λb=>lI .i64 f b λb=>I54 [.bool (b == 13),.bool (b == 13)] f))/\(∀(b d:Value) (e:Env) (e:Wa2),(I54 [b,d] e)->(asBool b λb=>ifB b (dl3 e c.size λb d f=>cf 109 #[.agg #[b,d,f]] e λb b=>K (.tuple #[]) b) (nP a λa=>lI .i64 e a λa=>ifB (a == 14) (dl3 e c.size λa b c=>cf 110 #[.agg #[a,b,c]] e λa a=>K (.tuple #[]) a) (cf 111 #[.pointer xa,.pointer xb] e λa a=>K (.tuple #[]) a)))))))))))))
theorem call63 {K:kQ} {h:Wa2} {xa xb:Option Addr} (H:F63 K h xa xb):Wa5 Tryz.prog 63 #[(.pointer xa),(.pointer xb)] h K:=
 cQ Tryz.func63 H
abbrev g107 (K:kQ) (h H1:Wa2):Prop:=
 (lP H1 ⟨h.size,2,none⟩ λa=>nP a λa=>lI .i64 H1 (Addr.add a 1) λa=>ifB (a == 0) (dl3 H1 h.size λa b c=>dl3 H1 h.size λd e f=>lP H1 ⟨h.size,2,none⟩ λg=>nP g λg=>bd 0 10 (lI .u64 H1 (Addr.add g 2) λg=>cf 145 #[.agg #[d,e,f],uQ g] H1 λd e=>asInt .i64 d λd=>ce e h.size 0 a (ce e h.size 1 b (ce e h.size 2 c (((Wa1 (Array.push e (.cells #[uQ 1,uQ (IntKind.wrap .u64 d)] 178)) (aQ h.size))=(some a))/\(((Wa1 (Array.push e (.cells #[uQ 1,uQ (IntKind.wrap .u64 d)] 178)) ⟨h.size,1,none⟩)=(some b))/\(((Wa1 (Array.push e (.cells #[uQ 1,uQ (IntKind.wrap .u64 d)] 178)) ⟨h.size,2,none⟩)=(some c))/\(cf 144 #[.agg #[a,b,c],iQ 1,iQ 3,.slice (some (aQ e.size)) 2 2] (Array.push e (.cells #[uQ 1,uQ (IntKind.wrap .u64 d)] 178)) λa a=>K (.tuple #[]) a)))))))) (lP H1 ⟨h.size,1,none⟩ λa=>nP a λa=>bd 0 3 (lI .u64 H1 (Addr.add a 2) λa=>cf 146 #[uQ a] H1 λb c=>asInt .i64 b λb=>ifB (b == 0) (lP c ⟨h.size,1,none⟩ λb=>cf 106 #[.pointer b,.slice (some (aQ c.size)) 2 2] (Array.push c (.cells #[uQ a,uQ 1099511627776] 178)) λb b=>K (.tuple #[]) b) (ldH c ⟨h.size,1,none⟩ λb=>Wb2 b λd=>ldH c (aQ h.size) λe=>Wb2 e λf=>dl3 c h.size λg i j=>cf 148 #[.agg #[g,i,j],uQ a,iQ 0] c λc g=>asInt .i64 c λc=>ce g h.size 0 e (ce g h.size 1 b (cf 147 #[.pointer f,iQ c] g λc e=>asInt .u64 c λc=>ce e h.size 1 b (((Wa1 (Array.push e (.cells #[uQ a,uQ c] 178)) ⟨h.size,1,none⟩)=(some b))/\(cf 106 #[.pointer d,.slice (some (aQ e.size)) 2 2] (Array.push e (.cells #[uQ a,uQ c] 178)) λa a=>K (.tuple #[]) a))))))))
def F107 (K:kQ) (h:Wa2) (xa xb xc:Option Addr):Prop:=
 (g107 K h (Array.push h (.cells #[.pointer xa,.pointer xb,.pointer xc] 187)))
theorem call107 {K:kQ} {h:Wa2} {xa xb xc:Option Addr} (H:F107 K h xa xb xc):Wa5 Tryz.prog 107 #[(.agg #[(.pointer xa),(.pointer xb),(.pointer xc)])] h K:=
 cQ Tryz.func107 H
abbrev g108 (K:kQ) (h H1:Wa2):Prop:=
 (lP H1 (Addr.add (aQ h.size) 2) λa=>nP a λa=>lI .i64 H1 (Addr.add a 1) λa=>ifB (decide (a<=3)) (dl3 H1 h.size λa b c=>cf 149 #[.agg #[a,b,c]] H1 λa a=>K (.tuple #[]) a) (lP H1 (Addr.add (aQ h.size) 2) λa=>nP a λa=>lI .i64 H1 (Addr.add a 1) λa=>ifB (decide (a<=7)) (dl3 H1 h.size λa b c=>cf 150 #[.agg #[a,b,c]] H1 λa a=>K (.tuple #[]) a) (lP H1 (Addr.add (aQ h.size) 2) λa=>nP a λa=>lI .i64 H1 (Addr.add a 1) λa=>ifB (decide (a<=9)) (dl3 H1 h.size λa b c=>cf 151 #[.agg #[a,b,c]] H1 λa a=>K (.tuple #[]) a) (dl3 H1 h.size λa b c=>cf 152 #[.agg #[a,b,c]] H1 λa a=>K (.tuple #[]) a))))
def F108 (K:kQ) (h:Wa2) (xa xb xc:Option Addr):Prop:=
 (g108 K h (Array.push h (.cells #[.pointer xa,.pointer xb,.pointer xc] 193)))
theorem call108 {K:kQ} {h:Wa2} {xa xb xc:Option Addr} (H:F108 K h xa xb xc):Wa5 Tryz.prog 108 #[(.agg #[(.pointer xa),(.pointer xb),(.pointer xc)])] h K:=
 cQ Tryz.func108 H
abbrev g109 (K:kQ) (h H1:Wa2):Prop:=
 (lP H1 (Addr.add (aQ h.size) 2) λa=>da3 H1 (aQ h.size) λb c d=>cf 153 #[.agg #[b,c,d],iQ 0] H1 λb c=>asInt .u64 b λb=>nP a λd=>lI .i64 c (Addr.add d 1) λd=>ifB (d == 4) (ldH c (aQ h.size) λe=>Wb2 e λf=>da3 c (aQ h.size) λg i j=>nP a λk=>cf 148 #[.agg #[g,i,j],uQ b,iQ 2] c λg i=>asInt .i64 g λg=>ce i h.size 0 e (cf 147 #[.pointer f,iQ g] i λe f=>asInt .u64 e λe=>bd 3 10 (stH f (Addr.add k 5) (uQ e) λe=>nP a λf=>stH e (Addr.add f 1) (iQ 5) λe=>K (.tuple #[]) e))) (ifB (d == 5) (nP a λe=>stH c (Addr.add e 1) (iQ 0) λe=>da3 e (aQ h.size) λf g i=>nP a λj=>bd 3 10 (lI .u64 e (Addr.add j 5) λj=>cf 154 #[.agg #[f,g,i],uQ 1,uQ b,iQ (IntKind.wrap .i64 j),.bool true] e λe f=>asBool e λe=>ifB e (da3 f (aQ h.size) λe g i=>cf 144 #[.agg #[e,g,i],iQ 6,iQ 14,.slice (some (aQ f.size)) 1 1] (Array.push f (.cells #[uQ 1] 178)) λe e=>K (.tuple #[]) e) (K (.tuple #[]) f))) (ifB (d == 6) (da3 c (aQ h.size) λe f g=>cf 146 #[uQ b] c λb i=>asInt .i64 b λb=>ce i h.size 0 e (((Wa1 i (Addr.add (aQ h.size) 1))=(some f))/\(((Wa1 i (Addr.add (aQ h.size) 2))=(some g))/\(((Wa1 (Array.push i (.cells #[uQ (IntKind.wrap .u64 b)] 178)) (aQ h.size))=(some e))/\(((Wa1 (Array.push i (.cells #[uQ (IntKind.wrap .u64 b)] 178)) (Addr.add (aQ h.size) 1))=(some f))/\(((Wa1 (Array.push i (.cells #[uQ (IntKind.wrap .u64 b)] 178)) (Addr.add (aQ h.size) 2))=(some g))/\(cf 144 #[.agg #[e,f,g],iQ 7,iQ 5,.slice (some (aQ i.size)) 1 1] (Array.push i (.cells #[uQ (IntKind.wrap .u64 b)] 178)) λb b=>K (.tuple #[]) b))))))) (ifB (d == 7) (da3 c (aQ h.size) λb d e=>nP a λf=>bd 1 10 (lI .u64 c (Addr.add f 3) λf=>nP a λa=>bd 2 10 (lI .u64 c (Addr.add a 4) λa=>cf 155 #[.agg #[b,d,e],uQ 2,uQ f,uQ a] c λa a=>K (.tuple #[]) a))) (dl3 c h.size λa b d=>cf 156 #[.agg #[a,b,d]] c λa a=>K (.tuple #[]) a)))))
def F109 (K:kQ) (h:Wa2) (xa xb xc:Option Addr):Prop:=
 (g109 K h (Array.push h (.cells #[.pointer xa,.pointer xb,.pointer xc] 194)))
theorem call109 {K:kQ} {h:Wa2} {xa xb xc:Option Addr} (H:F109 K h xa xb xc):Wa5 Tryz.prog 109 #[(.agg #[(.pointer xa),(.pointer xb),(.pointer xc)])] h K:=
 cQ Tryz.func109 H
abbrev g110 (K:kQ) (h H1:Wa2):Prop:=
 (lP H1 (Addr.add (aQ h.size) 2) λa=>nP a λb=>bd 0 10 (lI .u64 H1 (Addr.add b 2) λb=>nP a λc=>lI .i64 H1 (Addr.add c 1) λc=>ifB (c == 4) (da3 H1 (aQ h.size) λd e f=>cf 144 #[.agg #[d,e,f],iQ 5,iQ 10,.slice (some (aQ H1.size)) 1 1] (Array.push H1 (.cells #[uQ (IntKind.wrap .u64 (2*b))] 178)) λd d=>K (.tuple #[]) d) (ifB (c == 5) (dl3 H1 h.size λd e f=>cf 157 #[.agg #[d,e,f],iQ 3,iQ 6,uQ (IntKind.wrap .u64 (2*b))] H1 λd d=>exI λI18=>(nP a λe=>lI .i64 d (Addr.add e 1) λe=>ifB (e == 6) (lP d (Addr.add (aQ h.size) 1) λe=>cf 105 #[.pointer e] d λe f=>Wb2 e λe=>Zr4 Tryz.prog .eql 184 e a f λe f=>asBool e λe=>I18 [.bool e] f) (I18 [.bool false] d))/\(∀(d:Value) (e:Env) (e:Wa2),(I18 [d] e)->(asBool d λd=>ifB d (da3 e (aQ h.size) λd f g=>cf 144 #[.agg #[d,f,g],iQ 6,iQ 10,.slice (some (aQ e.size)) 1 1] (Array.push e (.cells #[uQ (IntKind.wrap .u64 ((IntKind.wrap .u64 (2*b))+1))] 178)) λd d=>K (.tuple #[]) d) (K (.tuple #[]) e)))) (ifB (c == 6) (dl3 H1 h.size λd e f=>cf 157 #[.agg #[d,e,f],iQ 5,iQ 7,uQ (IntKind.wrap .u64 ((IntKind.wrap .u64 (2*b))+1))] H1 λd d=>K (.tuple #[]) d) (ifB (c == 7) (exI λI44=>(nP a λc=>bd 4 10 (lI .u64 H1 (Addr.add c 6) λc=>nP a λd=>bd 6 10 (lI .u64 H1 (Addr.add d 8) λd=>ifB (decide (c<=d)) (nP a λc=>bd 4 10 (lI .u64 H1 (Addr.add c 6) λc=>nP a λd=>bd 2 10 (lI .u64 H1 (Addr.add d 4) λd=>I44 [.bool (decide (c < d)),.bool (decide (c < d))] H1))) (I44 [.bool false,.bool false] H1))))/\(∀(c d:Value) (e:Env) (e:Wa2),(I44 [c,d] e)->(asBool c λc=>ifB c (dl3 e h.size λc d f=>cf 158 #[.agg #[c,d,f],iQ 3,uQ (IntKind.wrap .u64 (2*b))] e λc c=>K (.tuple #[]) c) (exI λI67=>(nP a λc=>bd 6 10 (lI .u64 e (Addr.add c 8) λc=>nP a λd=>bd 4 10 (lI .u64 e (Addr.add d 6) λd=>ifB (decide (c < d)) (nP a λc=>bd 6 10 (lI .u64 e (Addr.add c 8) λc=>nP a λa=>bd 2 10 (lI .u64 e (Addr.add a 4) λa=>I67 [.bool (decide (c < a)),.bool (decide (c < a))] e))) (I67 [.bool false,.bool false] e))))/\(∀(a c:Value) (d:Env) (d:Wa2),(I67 [a,c] d)->(asBool a λa=>ifB a (dl3 d h.size λa c e=>cf 158 #[.agg #[a,c,e],iQ 5,uQ (IntKind.wrap .u64 ((IntKind.wrap .u64 (2*b))+1))] d λa a=>K (.tuple #[]) a) (dl3 d h.size λa b c=>cf 159 #[.agg #[a,b,c]] d λa a=>K (.tuple #[]) a))))))) (dl3 H1 h.size λa b c=>cf 160 #[.agg #[a,b,c]] H1 λa a=>K (.tuple #[]) a))))))
def F110 (K:kQ) (h:Wa2) (xa xb xc:Option Addr):Prop:=
 (g110 K h (Array.push h (.cells #[.pointer xa,.pointer xb,.pointer xc] 195)))
theorem call110 {K:kQ} {h:Wa2} {xa xb xc:Option Addr} (H:F110 K h xa xb xc):Wa5 Tryz.prog 110 #[(.agg #[(.pointer xa),(.pointer xb),(.pointer xc)])] h K:=
 cQ Tryz.func110 H
abbrev g144 (K:kQ) (h H1:Wa2) (xa xb:Int) (xc:Option Addr) (xd xe:Nat):Prop:=
 (lP H1 ⟨h.size,2,none⟩ λa=>nP a λa=>stH H1 (Addr.add a 1) (iQ xa) λa=>lP a ⟨h.size,1,none⟩ λb=>cf 130 #[.pointer b,iQ xb,.slice xc xd xe] a λa a=>K (.tuple #[]) a)
def F144 (K:kQ) (h:Wa2) (xa xb xc:Option Addr) (xd xe:Int) (xf:Option Addr) (xg xh:Nat):Prop:=
 (g144 K h (Array.push h (.cells #[.pointer xa,.pointer xb,.pointer xc] 187)) xd xe xf xg xh)
theorem call144 {K:kQ} {h:Wa2} {xa xb xc:Option Addr} {xd xe:Int} {xf:Option Addr} {xg xh:Nat} (H:F144 K h xa xb xc xd xe xf xg xh):Wa5 Tryz.prog 144 #[(.agg #[(.pointer xa),(.pointer xb),(.pointer xc)]),(iQ xd),(iQ xe),(.slice xf xg xh)] h K:=
 cQ Tryz.func144 H
abbrev g145 (K:kQ) (h H1:Wa2) (xa:Int):Prop:=
 (lP H1 (aQ h.size) λa=>cf 79 #[.pointer a] H1 λa b=>asAgg a λa=>We2 a 15 (Wm8 a λa c d e f g i j k l m n o p q=>cf 207 #[.agg #[a,c,d,e,f,g,i,j,k,l,m,n,o,p,q],iQ (IntKind.wrap .i64 xa)] b λa b=>asInt .i64 a λa=>K (iQ a) b))
def F145 (K:kQ) (h:Wa2) (xa xb xc:Option Addr) (xd:Int):Prop:=
 (g145 K h (Array.push h (.cells #[.pointer xa,.pointer xb,.pointer xc] 187)) xd)
theorem call145 {K:kQ} {h:Wa2} {xa xb xc:Option Addr} {xd:Int} (H:F145 K h xa xb xc xd):Wa5 Tryz.prog 145 #[(.agg #[(.pointer xa),(.pointer xb),(.pointer xc)]),(uQ xd)] h K:=
 cQ Tryz.func145 H
abbrev g148 (K:kQ) (h H1:Wa2) (xa xb:Int):Prop:=
 (lP H1 (aQ h.size) λa=>cf 79 #[.pointer a] H1 λa b=>asAgg a λa=>We2 a 15 (Wm8 a λa c d e f g i j k l m n o p q=>cf 146 #[uQ xa] b λb r=>asInt .i64 b λb=>cf 143 #[.agg #[a,c,d,e,f,g,i,j,k,l,m,n,o,p,q],iQ b,iQ xb] r λa b=>asInt .i64 a λa=>K (iQ a) b))
def F148 (K:kQ) (h:Wa2) (xa xb xc:Option Addr) (xd xe:Int):Prop:=
 (g148 K h (Array.push h (.cells #[.pointer xa,.pointer xb,.pointer xc] 187)) xd xe)
theorem call148 {K:kQ} {h:Wa2} {xa xb xc:Option Addr} {xd xe:Int} (H:F148 K h xa xb xc xd xe):Wa5 Tryz.prog 148 #[(.agg #[(.pointer xa),(.pointer xb),(.pointer xc)]),(uQ xd),(iQ xe)] h K:=
 cQ Tryz.func148 H
abbrev g149 (K:kQ) (h H1:Wa2):Prop:=
 (lP H1 (Addr.add (aQ h.size) 2) λa=>nP a λb=>lI .i64 H1 (Addr.add b 1) λb=>ifB (b == 0) (da3 H1 (aQ h.size) λc d e=>cf 144 #[.agg #[c,d,e],iQ 1,iQ 1,.slice none 0 0] H1 λc c=>K (.tuple #[]) c) (ifB (b == 1) (lP H1 (Addr.add (aQ h.size) 1) λc=>nP c λc=>bd 0 3 (lI .u64 H1 (Addr.add c 2) λc=>nP a λd=>bd 2 10 (stH H1 (Addr.add d 4) (uQ c) λc=>nP a λd=>bd 2 10 (lI .u64 c (Addr.add d 4) λd=>ifB (d != 0) (nP a λd=>stH c (Addr.add d 1) (iQ 2) λd=>K (.tuple #[]) d) (exI λI22=>(nP a λd=>bd 3 10 (lI .u64 c (Addr.add d 5) λd=>ifB (d == 0) (lP c (Addr.add (aQ h.size) 1) λd=>nP d λd=>cf 211 #[.pointer (some (Addr.add d 8))] c λd e=>asInt .i64 d λd=>I22 [.bool (decide (d > 0)),.bool (decide (d > 0))] e) (I22 [.bool false,.bool false] c)))/\(∀(c d:Value) (e:Env) (e:Wa2),(I22 [c,d] e)->(asBool c λc=>ifB c (nP a λc=>bd 3 10 (stH e (Addr.add c 5) (uQ 1) λc=>da3 c (aQ h.size) λd f g=>cf 144 #[.agg #[d,f,g],iQ 0,iQ 6,.slice none 0 0] c λc c=>K (.tuple #[]) c)) (da3 e (aQ h.size) λc d f=>cf 155 #[.agg #[c,d,f],uQ 1,uQ 0,uQ 0] e λc c=>K (.tuple #[]) c)))))))) (ifB (b == 2) (ldH H1 (aQ h.size) λc=>Wb2 c λd=>lP H1 (aQ h.size) λe=>nP a λf=>bd 2 10 (ldH H1 (Addr.add f 4) λg=>asInt .u64 g λi=>nP a λj=>bd 0 10 (ldH H1 (Addr.add j 2) λk=>asInt .u64 k λl=>cf 79 #[.pointer e] H1 λe m=>asAgg e λe=>We2 e 15 (Wm8 e λe n o p q r s t u v w x y z A=>((Wa1 m (Addr.add j 2))=(some k))/\(((Wa1 m (Addr.add f 4))=(some g))/\(ce m h.size 0 c (cf 143 #[.agg #[e,n,o,p,q,r,s,t,u,v,w,x,y,z,A],iQ (IntKind.wrap .i64 i),iQ 0] m λe f=>asInt .i64 e λe=>((Wa1 f (Addr.add j 2))=(some k))/\(ce f h.size 0 c (cf 212 #[.pointer d,iQ e,uQ l] f λc c=>nP a λd=>stH c (Addr.add d 1) (iQ 3) λc=>K (.tuple #[]) c))))))))) (ifB (b == 3) (ldH H1 (aQ h.size) λb=>Wb2 b λc=>lP H1 (aQ h.size) λd=>nP a λe=>bd 2 10 (ldH H1 (Addr.add e 4) λf=>asInt .u64 f λg=>nP a λi=>bd 1 10 (ldH H1 (Addr.add i 3) λj=>asInt .u64 j λk=>cf 79 #[.pointer d] H1 λd l=>asAgg d λd=>We2 d 15 (Wm8 d λd m n o p q r s t u v w x y z=>((Wa1 l (Addr.add i 3))=(some j))/\(((Wa1 l (Addr.add e 4))=(some f))/\(ce l h.size 0 b (cf 143 #[.agg #[d,m,n,o,p,q,r,s,t,u,v,w,x,y,z],iQ (IntKind.wrap .i64 g),iQ 1] l λd e=>asInt .i64 d λd=>((Wa1 e (Addr.add i 3))=(some j))/\(ce e h.size 0 b (cf 212 #[.pointer c,iQ d,uQ k] e λb b=>nP a λc=>bd 3 10 (stH b (Addr.add c 5) (uQ 0) λb=>nP a λa=>stH b (Addr.add a 1) (iQ 4) λa=>K (.tuple #[]) a)))))))))) (K (.tuple #[]) H1)))))
def F149 (K:kQ) (h:Wa2) (xa xb xc:Option Addr):Prop:=
 (g149 K h (Array.push h (.cells #[.pointer xa,.pointer xb,.pointer xc] 193)))
theorem call149 {K:kQ} {h:Wa2} {xa xb xc:Option Addr} (H:F149 K h xa xb xc):Wa5 Tryz.prog 149 #[(.agg #[(.pointer xa),(.pointer xb),(.pointer xc)])] h K:=
 cQ Tryz.func149 H
abbrev g150 (K:kQ) (h H1:Wa2):Prop:=
 (lP H1 (Addr.add (aQ h.size) 2) λa=>lP H1 (aQ h.size) λb=>cf 79 #[.pointer b] H1 λb c=>asAgg b λb=>We2 b 15 (Wm8 b λb d e f g i j k l m n o p q r=>cf 139 #[.agg #[b,d,e,f,g,i,j,k,l,m,n,o,p,q,r]] c λb c=>asAgg b λb=>We2 b 7 (de7 b λb d e f g i j=>stH (Array.push c (.cells Zd8 23)) (aQ c.size) b λb=>stH b ⟨c.size,1,none⟩ d λb=>stH b ⟨c.size,2,none⟩ e λb=>stH b ⟨c.size,3,none⟩ f λb=>stH b ⟨c.size,4,none⟩ g λb=>stH b ⟨c.size,5,none⟩ i λb=>stH b ⟨c.size,6,none⟩ j λb=>nP a λd=>lI .i64 b (Addr.add d 1) λd=>ifB (d == 4) (lP b (aQ h.size) λe=>nP a λf=>cf 147 #[.pointer e,iQ 2] b λe g=>asInt .u64 e λe=>bd 4 10 (stH g (Addr.add f 6) (uQ e) λe=>nP a λf=>bd 4 10 (lI .u64 e (Addr.add f 6) λf=>lP e (aQ h.size) λg=>nP a λi=>cf 214 #[.pointer g] e λe g=>Wb2 e λe=>cf 216 #[iQ (IntKind.wrap .i64 f)] g λg j=>asInt .i64 g λg=>cf 215 #[.pointer e,iQ g] j λe g=>asInt .i64 e λe=>cf 213 #[iQ (IntKind.wrap .i64 f),iQ e] g λe f=>asInt .i64 e λe=>bd 5 10 (stH f (Addr.add i 7) (uQ (IntKind.wrap .u64 e)) λe=>nP a λf=>stH e (Addr.add f 1) (iQ 5) λe=>K (.tuple #[]) e)))) (ifB (d == 5) (da3 b (aQ h.size) λe f g=>nP a λi=>bd 5 10 (lI .u64 b (Addr.add i 7) λi=>((Wa1 (Array.push b (.cells #[uQ i] 178)) (aQ h.size))=(some e))/\(((Wa1 (Array.push b (.cells #[uQ i] 178)) (Addr.add (aQ h.size) 1))=(some f))/\(((Wa1 (Array.push b (.cells #[uQ i] 178)) (Addr.add (aQ h.size) 2))=(some g))/\(cf 144 #[.agg #[e,f,g],iQ 6,iQ 10,.slice (some (aQ b.size)) 1 1] (Array.push b (.cells #[uQ i] 178)) λe e=>K (.tuple #[]) e))))) (ifB (d == 6) (lP b (Addr.add (aQ h.size) 1) λe=>nP e λe=>bd 1 3 (lI .u64 b (Addr.add e 3) λe=>nP a λf=>bd 0 10 (lI .u64 b (Addr.add f 2) λf=>ifB (decide (e >= f)) (dl3 b h.size λe f g=>nP a λi=>bd 4 10 (lI .u64 b (Addr.add i 6) λi=>cf 218 #[iQ (IntKind.wrap .i64 i)] b λi j=>asAgg i λi=>We2 i 2 (de2 i λi k=>ce j h.size 0 e (ce j h.size 1 f (ce j h.size 2 g (cf 217 #[.agg #[e,f,g],.agg #[i,k]] j λe e=>nP a λf=>stH e (Addr.add f 1) (iQ 8) λe=>K (.tuple #[]) e)))))) (nP a λe=>bd 3 10 (lI .u64 b (Addr.add e 5) λe=>nP a λf=>bd 3 10 (stH b (Addr.add f 5) (uQ (IntKind.wrap .u64 (e+1))) λe=>nP a λf=>stH e (Addr.add f 1) (iQ 4) λe=>nP a λf=>bd 3 10 (lI .u64 e (Addr.add f 5) λf=>lI .i64 e ⟨c.size,5,none⟩ λg=>ifB (decide ((IntKind.wrap .i64 f) >= g)) (nP a λf=>stH e (Addr.add f 1) (iQ 7) λf=>K (.tuple #[]) f) (K (.tuple #[]) e)))))))) (ifB (d == 7) (nP a λd=>bd 4 10 (lI .u64 b (Addr.add d 6) λd=>lI .i64 b ⟨c.size,3,none⟩ λc=>ifB (decide ((IntKind.wrap .i64 d) >= c)) (da3 b (aQ h.size) λc d e=>cf 155 #[.agg #[c,d,e],uQ 1,uQ 0,uQ 0] b λc c=>ldH c (Addr.add (aQ h.size) 1) λd=>Wb2 d λe=>nP a λf=>bd 2 10 (lI .u64 c (Addr.add f 4) λf=>((Wa1 (Array.push c (.cells #[uQ f] 178)) (Addr.add (aQ h.size) 1))=(some d))/\(cf 130 #[.pointer e,iQ 5,.slice (some (aQ c.size)) 1 1] (Array.push c (.cells #[uQ f] 178)) λc c=>K (.tuple #[]) c))) (lP b (aQ h.size) λc=>nP a λd=>bd 4 10 (lI .u64 b (Addr.add d 6) λd=>nP a λe=>bd 4 10 (lI .u64 b (Addr.add e 6) λe=>cf 219 #[.pointer c,iQ 2,uQ d,uQ (IntKind.wrap .u64 (e+1))] b λc d=>asBool c λc=>nP a λc=>bd 3 10 (stH d (Addr.add c 5) (uQ 0) λc=>nP a λa=>stH c (Addr.add a 1) (iQ 4) λa=>K (.tuple #[]) a)))))) (K (.tuple #[]) b)))))))
def F150 (K:kQ) (h:Wa2) (xa xb xc:Option Addr):Prop:=
 (g150 K h (Array.push h (.cells #[.pointer xa,.pointer xb,.pointer xc] 193)))
theorem call150 {K:kQ} {h:Wa2} {xa xb xc:Option Addr} (H:F150 K h xa xb xc):Wa5 Tryz.prog 150 #[(.agg #[(.pointer xa),(.pointer xb),(.pointer xc)])] h K:=
 cQ Tryz.func150 H
abbrev g151 (K:kQ) (h H1:Wa2):Prop:=
 (dl3 H1 h.size λa b c=>cf 220 #[.agg #[a,b,c]] H1 λa b=>asAgg a λa=>We2 a 2 (de2 a λa c=>stH (Array.push b (.cells #[iQ 0,iQ 0] 282)) (aQ b.size) a λa=>stH a ⟨b.size,1,none⟩ c λa=>lP a (Addr.add (aQ h.size) 2) λc=>nP c λc=>lI .i64 a (Addr.add c 1) λc=>ifB (c == 8) (dl2 a b.size λd e=>cf 221 #[.agg #[d,e]] a λd e=>asBool d λd=>ifB d (lP e (Addr.add (aQ h.size) 2) λd=>nP d λd=>stH e (Addr.add d 1) (iQ 10) λd=>K (.tuple #[]) d) (da3 e (aQ h.size) λd f g=>dl3 e h.size λi j k=>dl2 e b.size λl m=>cf 223 #[.agg #[l,m]] e λe l=>asInt .i64 e λe=>ce l h.size 0 i (ce l h.size 1 j (ce l h.size 2 k (ce l h.size 0 d (((Wa1 l (Addr.add (aQ h.size) 1))=(some f))/\(((Wa1 l (Addr.add (aQ h.size) 2))=(some g))/\(cf 222 #[.agg #[i,j,k],iQ e] l λe i=>asInt .u64 e λe=>ce i h.size 0 d (((Wa1 i (Addr.add (aQ h.size) 1))=(some f))/\(((Wa1 i (Addr.add (aQ h.size) 2))=(some g))/\(((Wa1 (Array.push i (.cells #[uQ e] 178)) (aQ h.size))=(some d))/\(((Wa1 (Array.push i (.cells #[uQ e] 178)) (Addr.add (aQ h.size) 1))=(some f))/\(((Wa1 (Array.push i (.cells #[uQ e] 178)) (Addr.add (aQ h.size) 2))=(some g))/\(cf 144 #[.agg #[d,f,g],iQ 9,iQ 10,.slice (some (aQ i.size)) 1 1] (Array.push i (.cells #[uQ e] 178)) λd d=>K (.tuple #[]) d)))))))))))))) (ifB (c == 9) (dl3 a h.size λc d e=>dl2 a b.size λb f=>lP a (Addr.add (aQ h.size) 1) λg=>nP g λg=>bd 1 3 (lI .u64 a (Addr.add g 3) λg=>lP a (Addr.add (aQ h.size) 2) λi=>nP i λi=>bd 0 10 (lI .u64 a (Addr.add i 2) λi=>cf 224 #[.agg #[b,f],.bool (decide (g >= i))] a λb f=>asAgg b λb=>We2 b 2 (de2 b λb g=>ce f h.size 0 c (ce f h.size 1 d (ce f h.size 2 e (cf 217 #[.agg #[c,d,e],.agg #[b,g]] f λb b=>lP b (Addr.add (aQ h.size) 2) λc=>nP c λc=>stH b (Addr.add c 1) (iQ 8) λb=>K (.tuple #[]) b))))))) (K (.tuple #[]) a))))
def F151 (K:kQ) (h:Wa2) (xa xb xc:Option Addr):Prop:=
 (g151 K h (Array.push h (.cells #[.pointer xa,.pointer xb,.pointer xc] 193)))
theorem call151 {K:kQ} {h:Wa2} {xa xb xc:Option Addr} (H:F151 K h xa xb xc):Wa5 Tryz.prog 151 #[(.agg #[(.pointer xa),(.pointer xb),(.pointer xc)])] h K:=
 cQ Tryz.func151 H
abbrev g152 (K:kQ) (h H1:Wa2):Prop:=
 (lP H1 (Addr.add (aQ h.size) 2) λa=>dl3 H1 h.size λb c d=>dl3 H1 h.size λe f g=>cf 220 #[.agg #[e,f,g]] H1 λe f=>asAgg e λe=>We2 e 2 (de2 e λe g=>ce f h.size 0 b (ce f h.size 1 c (ce f h.size 2 d (asInt .i64 e λe=>cf 222 #[.agg #[b,c,d],iQ e] f λb c=>asInt .u64 b λb=>da3 c (aQ h.size) λd e f=>cf 153 #[.agg #[d,e,f],iQ 3] c λc d=>asInt .u64 c λc=>nP a λe=>lI .i64 d (Addr.add e 1) λe=>ifB (e == 10) (da3 d (aQ h.size) λf g i=>cf 144 #[.agg #[f,g,i],iQ 11,iQ 10,.slice (some (aQ d.size)) 1 1] (Array.push d (.cells #[uQ b] 178)) λf f=>K (.tuple #[]) f) (ifB (e == 11) (lP d (Addr.add (aQ h.size) 1) λf=>nP f λf=>bd 1 3 (lI .u64 d (Addr.add f 3) λf=>nP a λg=>bd 0 10 (lI .u64 d (Addr.add g 2) λg=>ifB (decide (f < g)) (nP a λf=>bd 3 10 (stH d (Addr.add f 5) (uQ 0) λf=>nP a λg=>stH f (Addr.add g 1) (iQ 4) λf=>K (.tuple #[]) f)) (lP d (Addr.add (aQ h.size) 1) λf=>nP f λf=>bd 0 3 (lI .u64 d (Addr.add f 2) λf=>nP a λg=>bd 3 10 (stH d (Addr.add g 5) (uQ f) λf=>ldH f (aQ h.size) λg=>Wb2 g λi=>lP f (aQ h.size) λj=>nP a λk=>bd 2 10 (ldH f (Addr.add k 4) λl=>asInt .u64 l λm=>da3 f (aQ h.size) λn o p=>cf 79 #[.pointer j] f λf j=>asAgg f λf=>We2 f 15 (Wm8 f λf q r s t u v w x y z A B C D=>ce j h.size 0 n (((Wa1 j (Addr.add (aQ h.size) 1))=(some o))/\(((Wa1 j (Addr.add (aQ h.size) 2))=(some p))/\(((Wa1 j (Addr.add k 4))=(some l))/\(ce j h.size 0 g (cf 143 #[.agg #[f,q,r,s,t,u,v,w,x,y,z,A,B,C,D],iQ (IntKind.wrap .i64 m),iQ 2] j λf j=>asInt .i64 f λf=>ce j h.size 0 n (((Wa1 j (Addr.add (aQ h.size) 1))=(some o))/\(((Wa1 j (Addr.add (aQ h.size) 2))=(some p))/\(ce j h.size 0 g (cf 153 #[.agg #[n,o,p],iQ 3] j λj k=>asInt .u64 j λj=>ce k h.size 0 g (cf 146 #[uQ j] k λj k=>asInt .i64 j λj=>ce k h.size 0 g (cf 212 #[.pointer i,iQ f,uQ (IntKind.wrap .u64 j)] k λf f=>nP a λg=>stH f (Addr.add g 1) (iQ 13) λf=>ifB (b == 1) (nP a λg=>stH f (Addr.add g 1) (iQ 12) λg=>K (.tuple #[]) g) (K (.tuple #[]) f)))))))))))))))))))) (ifB (e == 12) (dl3 d h.size λf g i=>da3 d (aQ h.size) λj k l=>nP a λm=>bd 2 10 (ldH d (Addr.add m 4) λn=>asInt .u64 n λo=>cf 226 #[uQ c] d λp q=>asBool p λp=>((Wa1 q (Addr.add m 4))=(some n))/\(ce q h.size 0 j (((Wa1 q (Addr.add (aQ h.size) 1))=(some k))/\(((Wa1 q (Addr.add (aQ h.size) 2))=(some l))/\(dc3 q h.size f g i (cf 154 #[.agg #[j,k,l],uQ 1,uQ c,iQ (IntKind.wrap .i64 o),.bool p] q λj k=>asBool j λj=>ce k h.size 0 f (ce k h.size 1 g (ce k h.size 2 i (cf 225 #[.agg #[f,g,i],.bool j] k λf f=>K (.tuple #[]) f)))))))))) (ifB (e == 13) (da3 d (aQ h.size) λf g i=>((2:Int)≠0)/\(cf 144 #[.agg #[f,g,i],iQ 14,iQ 10,.slice (some (aQ d.size)) 1 1] (Array.push d (.cells #[uQ (IntKind.wrap .u64 (Int.tdiv b 2))] 178)) λf f=>K (.tuple #[]) f)) (ifB (e == 14) (lP d (Addr.add (aQ h.size) 1) λe=>nP e λe=>bd 1 3 (lI .u64 d (Addr.add e 3) λe=>nP a λf=>bd 0 10 (lI .u64 d (Addr.add f 2) λf=>ifB (decide (e > f)) (dl3 d h.size λe f g=>cf 225 #[.agg #[e,f,g],.bool false] d λe e=>K (.tuple #[]) e) (dl3 d h.size λe f g=>ldH d (aQ h.size) λi=>Wb2 i λj=>da3 d (aQ h.size) λk l m=>nP a λa=>bd 2 10 (ldH d (Addr.add a 4) λn=>asInt .u64 n λo=>da3 d (aQ h.size) λp q r=>((2:Int)≠0)/\(ldH d (Addr.add (aQ h.size) 1) λs=>Wb2 s λt=>nP t λt=>bd 0 3 (ldH d (Addr.add t 2) λu=>asInt .u64 u λv=>cf 145 #[.agg #[k,l,m],uQ b] d λk l=>asInt .i64 k λk=>((Wa1 l (Addr.add t 2))=(some u))/\(((Wa1 l (Addr.add (aQ h.size) 1))=(some s))/\(ce l h.size 0 p (((Wa1 l (Addr.add (aQ h.size) 1))=(some q))/\(((Wa1 l (Addr.add (aQ h.size) 2))=(some r))/\(((Wa1 l (Addr.add a 4))=(some n))/\(ce l h.size 0 i (dc3 l h.size e f g (cf 226 #[uQ c] l λl m=>asBool l λl=>((Wa1 m (Addr.add t 2))=(some u))/\(((Wa1 m (Addr.add (aQ h.size) 1))=(some s))/\(ce m h.size 0 p (((Wa1 m (Addr.add (aQ h.size) 1))=(some q))/\(((Wa1 m (Addr.add (aQ h.size) 2))=(some r))/\(((Wa1 m (Addr.add a 4))=(some n))/\(ce m h.size 0 i (dc3 m h.size e f g (cf 228 #[uQ c,iQ (IntKind.wrap .i64 o),.bool l] m λa l=>asInt .u64 a λa=>((Wa1 l (Addr.add t 2))=(some u))/\(((Wa1 l (Addr.add (aQ h.size) 1))=(some s))/\(ce l h.size 0 p (((Wa1 l (Addr.add (aQ h.size) 1))=(some q))/\(((Wa1 l (Addr.add (aQ h.size) 2))=(some r))/\(ce l h.size 0 i (dc3 l h.size e f g (cf 145 #[.agg #[p,q,r],uQ (IntKind.wrap .u64 (Int.tdiv b 2))] l λb l=>asInt .i64 b λb=>((Wa1 l (Addr.add t 2))=(some u))/\(((Wa1 l (Addr.add (aQ h.size) 1))=(some s))/\(ce l h.size 0 i (dc3 l h.size e f g (cf 227 #[.pointer j,iQ k,uQ c,uQ a,iQ b,uQ v] l λa b=>asBool a λa=>ce b h.size 0 e (ce b h.size 1 f (ce b h.size 2 g (cf 225 #[.agg #[e,f,g],.bool a] b λa a=>K (.tuple #[]) a))))))))))))))))))))))))))))))))))))) (K (.tuple #[]) d))))))))))
def F152 (K:kQ) (h:Wa2) (xa xb xc:Option Addr):Prop:=
 (g152 K h (Array.push h (.cells #[.pointer xa,.pointer xb,.pointer xc] 193)))
theorem call152 {K:kQ} {h:Wa2} {xa xb xc:Option Addr} (H:F152 K h xa xb xc):Wa5 Tryz.prog 152 #[(.agg #[(.pointer xa),(.pointer xb),(.pointer xc)])] h K:=
 cQ Tryz.func152 H
abbrev g153 (K:kQ) (h H1:Wa2) (xa:Int):Prop:=
 (lP H1 ⟨h.size,2,none⟩ λa=>nP a λa=>bd xa 10 (ldH H1 (Addr.add (Addr.add a 2) (xa.toNat*1)) λa=>asInt .u64 a λa=>K (uQ a) H1))
def F153 (K:kQ) (h:Wa2) (xa xb xc:Option Addr) (xd:Int):Prop:=
 (g153 K h (Array.push h (.cells #[.pointer xa,.pointer xb,.pointer xc] 187)) xd)
theorem call153 {K:kQ} {h:Wa2} {xa xb xc:Option Addr} {xd:Int} (H:F153 K h xa xb xc xd):Wa5 Tryz.prog 153 #[(.agg #[(.pointer xa),(.pointer xb),(.pointer xc)]),(iQ xd)] h K:=
 cQ Tryz.func153 H
abbrev g154 (K:kQ) (h H1:Wa2) (xa xb xc:Int) (xd:Bool):Prop:=
 (ldH H1 (aQ h.size) λa=>Wb2 a λb=>dl3 H1 h.size λc d e=>cf 145 #[.agg #[c,d,e],uQ xa] H1 λc d=>asInt .i64 c λc=>ce d h.size 0 a (cf 228 #[uQ xb,iQ xc,.bool xd] d λd e=>asInt .u64 d λd=>ce e h.size 0 a (cf 219 #[.pointer b,iQ c,uQ xb,uQ d] e λa b=>asBool a λa=>K (.bool a) b)))
def F154 (K:kQ) (h:Wa2) (xa xb xc:Option Addr) (xd xe xf:Int) (xg:Bool):Prop:=
 (g154 K h (Array.push h (.cells #[.pointer xa,.pointer xb,.pointer xc] 187)) xd xe xf xg)
theorem call154 {K:kQ} {h:Wa2} {xa xb xc:Option Addr} {xd xe xf:Int} {xg:Bool} (H:F154 K h xa xb xc xd xe xf xg):Wa5 Tryz.prog 154 #[(.agg #[(.pointer xa),(.pointer xb),(.pointer xc)]),(uQ xd),(uQ xe),(iQ xf),(.bool xg)] h K:=
 cQ Tryz.func154 H
abbrev g155 (K:kQ) (h H1:Wa2) (xa xb xc:Int):Prop:=
 (lP H1 ⟨h.size,2,none⟩ λa=>ldH H1 ⟨h.size,2,none⟩ λb=>Wb2 b λc=>ldH H1 ⟨h.size,2,none⟩ λd=>Wb2 d λe=>nP a λa=>bd 7 10 (nP c λc=>nP e λe=>stH H1 (Addr.add a 9) (uQ xa) λa=>ce a h.size 2 d (ce a h.size 2 b (bd 8 10 (stH a (Addr.add c 10) (uQ xb) λa=>ce a h.size 2 d (bd 9 10 (stH a (Addr.add e 11) (uQ xc) λa=>dl3 a h.size λb c d=>cf 144 #[.agg #[b,c,d],iQ 90,iQ 4,.slice none 0 0] a λa a=>K (.tuple #[]) a)))))))
def F155 (K:kQ) (h:Wa2) (xa xb xc:Option Addr) (xd xe xf:Int):Prop:=
 (g155 K h (Array.push h (.cells #[.pointer xa,.pointer xb,.pointer xc] 187)) xd xe xf)
theorem call155 {K:kQ} {h:Wa2} {xa xb xc:Option Addr} {xd xe xf:Int} (H:F155 K h xa xb xc xd xe xf):Wa5 Tryz.prog 155 #[(.agg #[(.pointer xa),(.pointer xb),(.pointer xc)]),(uQ xd),(uQ xe),(uQ xf)] h K:=
 cQ Tryz.func155 H
abbrev g156 (K:kQ) (h H1:Wa2):Prop:=
 (lP H1 (Addr.add (aQ h.size) 2) λa=>da3 H1 (aQ h.size) λb c d=>cf 153 #[.agg #[b,c,d],iQ 0] H1 λb c=>asInt .u64 b λb=>nP a λd=>lI .i64 c (Addr.add d 1) λd=>ifB (d == 0) (da3 c (aQ h.size) λe f g=>da3 c (aQ h.size) λi j k=>cf 145 #[.agg #[i,j,k],uQ 1] c λi j=>asInt .i64 i λi=>ce j h.size 0 e (((Wa1 j (Addr.add (aQ h.size) 1))=(some f))/\(((Wa1 j (Addr.add (aQ h.size) 2))=(some g))/\(((Wa1 (Array.push j (.cells #[uQ 0,uQ (IntKind.wrap .u64 i)] 178)) (aQ h.size))=(some e))/\(((Wa1 (Array.push j (.cells #[uQ 0,uQ (IntKind.wrap .u64 i)] 178)) (Addr.add (aQ h.size) 1))=(some f))/\(((Wa1 (Array.push j (.cells #[uQ 0,uQ (IntKind.wrap .u64 i)] 178)) (Addr.add (aQ h.size) 2))=(some g))/\(cf 144 #[.agg #[e,f,g],iQ 1,iQ 3,.slice (some (aQ j.size)) 2 2] (Array.push j (.cells #[uQ 0,uQ (IntKind.wrap .u64 i)] 178)) λe e=>K (.tuple #[]) e))))))) (ifB (d == 1) (lP c (Addr.add (aQ h.size) 1) λe=>nP e λe=>bd 0 3 (lI .u64 c (Addr.add e 2) λe=>nP a λf=>bd 0 10 (stH c (Addr.add f 2) (uQ e) λe=>nP a λf=>stH e (Addr.add f 1) (iQ 2) λe=>da3 e (aQ h.size) λf g i=>cf 153 #[.agg #[f,g,i],iQ 0] e λe f=>asInt .u64 e λe=>cf 226 #[uQ e] f λe f=>asBool e λe=>ifB e (da3 f (aQ h.size) λe g i=>cf 144 #[.agg #[e,g,i],iQ 0,iQ 14,.slice (some (aQ f.size)) 1 1] (Array.push f (.cells #[uQ 1] 178)) λe e=>K (.tuple #[]) e) (da3 f (aQ h.size) λe g i=>cf 153 #[.agg #[e,g,i],iQ 0] f λe f=>asInt .u64 e λe=>cf 146 #[uQ e] f λe f=>asInt .i64 e λe=>ifB (e == 0) (da3 f (aQ h.size) λe g i=>cf 155 #[.agg #[e,g,i],uQ 3,uQ 0,uQ 0] f λe e=>K (.tuple #[]) e) (K (.tuple #[]) f))))) (ifB (d == 2) (ldH c (aQ h.size) λe=>Wb2 e λf=>da3 c (aQ h.size) λg i j=>nP a λk=>cf 148 #[.agg #[g,i,j],uQ b,iQ 0] c λg i=>asInt .i64 g λg=>ce i h.size 0 e (cf 147 #[.pointer f,iQ g] i λe f=>asInt .u64 e λe=>bd 1 10 (stH f (Addr.add k 3) (uQ e) λe=>nP a λf=>stH e (Addr.add f 1) (iQ 3) λe=>K (.tuple #[]) e))) (ifB (d == 3) (ldH c (aQ h.size) λd=>Wb2 d λe=>da3 c (aQ h.size) λf g i=>nP a λj=>cf 148 #[.agg #[f,g,i],uQ b,iQ 1] c λb f=>asInt .i64 b λb=>ce f h.size 0 d (cf 147 #[.pointer e,iQ b] f λb d=>asInt .u64 b λb=>bd 2 10 (stH d (Addr.add j 4) (uQ b) λb=>nP a λd=>stH b (Addr.add d 1) (iQ 4) λb=>nP a λd=>lI .i64 b d λd=>ifB (d == 13) (da3 b (aQ h.size) λd e f=>nP a λg=>bd 1 10 (lI .u64 b (Addr.add g 3) λg=>nP a λa=>bd 2 10 (lI .u64 b (Addr.add a 4) λa=>cf 155 #[.agg #[d,e,f],uQ 2,uQ g,uQ a] b λa a=>K (.tuple #[]) a))) (K (.tuple #[]) b)))) (K (.tuple #[]) c)))))
def F156 (K:kQ) (h:Wa2) (xa xb xc:Option Addr):Prop:=
 (g156 K h (Array.push h (.cells #[.pointer xa,.pointer xb,.pointer xc] 194)))
theorem call156 {K:kQ} {h:Wa2} {xa xb xc:Option Addr} (H:F156 K h xa xb xc):Wa5 Tryz.prog 156 #[(.agg #[(.pointer xa),(.pointer xb),(.pointer xc)])] h K:=
 cQ Tryz.func156 H
abbrev g157 (K:kQ) (h H1:Wa2) (xa xb xc:Int):Prop:=
 (lP H1 (Addr.add (aQ h.size) 2) λa=>lP H1 (Addr.add (aQ h.size) 1) λb=>nP b λb=>bd 0 3 (lI .u64 H1 (Addr.add b 2) λb=>lP H1 (Addr.add (aQ h.size) 1) λc=>nP c λc=>bd 1 3 (lI .u64 H1 (Addr.add c 3) λc=>nP a λd=>bd xa 10 (nP a λe=>stH H1 (Addr.add (Addr.add d 2) (xa.toNat*1)) (uQ b) λb=>((0:Int)<=(IntKind.wrap .i64 (xa+1)))/\((((IntKind.wrap .i64 (xa+1)):Int) < 10)/\(stH b (Addr.add (Addr.add e 2) ((IntKind.wrap .i64 (xa+1)).toNat*1)) (uQ c) λb=>nP a λa=>stH b (Addr.add a 1) (iQ xb) λa=>da3 a (aQ h.size) λb c d=>cf 153 #[.agg #[b,c,d],iQ xa] a λa b=>asInt .u64 a λa=>cf 226 #[uQ a] b λa b=>asBool a λa=>ifB a (da3 b (aQ h.size) λa c d=>cf 144 #[.agg #[a,c,d],iQ 0,iQ 14,.slice (some (aQ b.size)) 1 1] (Array.push b (.cells #[uQ xc] 178)) λa a=>K (.tuple #[]) a) (K (.tuple #[]) b)))))))
def F157 (K:kQ) (h:Wa2) (xa xb xc:Option Addr) (xd xe xf:Int):Prop:=
 (g157 K h (Array.push h (.cells #[.pointer xa,.pointer xb,.pointer xc] 195)) xd xe xf)
theorem call157 {K:kQ} {h:Wa2} {xa xb xc:Option Addr} {xd xe xf:Int} (H:F157 K h xa xb xc xd xe xf):Wa5 Tryz.prog 157 #[(.agg #[(.pointer xa),(.pointer xb),(.pointer xc)]),(iQ xd),(iQ xe),(uQ xf)] h K:=
 cQ Tryz.func157 H
abbrev g158 (K:kQ) (h H1:Wa2) (xa xb:Int):Prop:=
 (lP H1 (Addr.add (aQ h.size) 2) λa=>da3 H1 (aQ h.size) λb c d=>da3 H1 (aQ h.size) λe f g=>cf 153 #[.agg #[b,c,d],iQ 1] H1 λb c=>asInt .u64 b λb=>ce c h.size 0 e (((Wa1 c (Addr.add (aQ h.size) 1))=(some f))/\(((Wa1 c (Addr.add (aQ h.size) 2))=(some g))/\(cf 153 #[.agg #[e,f,g],iQ xa] c λc d=>asInt .u64 c λc=>nP a λe=>stH d (Addr.add e 1) (iQ 0) λd=>ldH d (aQ h.size) λe=>Wb2 e λf=>da3 d (aQ h.size) λg i j=>nP a λk=>bd 0 10 (lI .u64 d (Addr.add k 2) λk=>da3 d (aQ h.size) λl m n=>cf 145 #[.agg #[g,i,j],uQ k] d λd g=>asInt .i64 d λd=>ce g h.size 0 l (((Wa1 g (Addr.add (aQ h.size) 1))=(some m))/\(((Wa1 g (Addr.add (aQ h.size) 2))=(some n))/\(ce g h.size 0 e (cf 146 #[uQ c] g λg i=>asInt .i64 g λg=>ce i h.size 0 l (((Wa1 i (Addr.add (aQ h.size) 1))=(some m))/\(((Wa1 i (Addr.add (aQ h.size) 2))=(some n))/\(ce i h.size 0 e (cf 228 #[uQ b,iQ g,.bool false] i λg i=>asInt .u64 g λg=>ce i h.size 0 l (((Wa1 i (Addr.add (aQ h.size) 1))=(some m))/\(((Wa1 i (Addr.add (aQ h.size) 2))=(some n))/\(ce i h.size 0 e (cf 145 #[.agg #[l,m,n],uQ xb] i λi j=>asInt .i64 i λi=>ce j h.size 0 e (cf 146 #[uQ b] j λj k=>asInt .i64 j λj=>ce k h.size 0 e (cf 228 #[uQ c,iQ j,.bool true] k λj k=>asInt .u64 j λj=>ce k h.size 0 e (cf 229 #[.pointer f,iQ d,uQ b,uQ g,iQ i,uQ c,uQ j] k λb c=>asBool b λb=>ifB b (nP a λa=>bd 0 10 (stH c (Addr.add a 2) (uQ xb) λa=>K (.tuple #[]) a)) (K (.tuple #[]) c)))))))))))))))))))))
def F158 (K:kQ) (h:Wa2) (xa xb xc:Option Addr) (xd xe:Int):Prop:=
 (g158 K h (Array.push h (.cells #[.pointer xa,.pointer xb,.pointer xc] 195)) xd xe)
theorem call158 {K:kQ} {h:Wa2} {xa xb xc:Option Addr} {xd xe:Int} (H:F158 K h xa xb xc xd xe):Wa5 Tryz.prog 158 #[(.agg #[(.pointer xa),(.pointer xb),(.pointer xc)]),(iQ xd),(uQ xe)] h K:=
 cQ Tryz.func158 H
abbrev g159 (K:kQ) (h H1:Wa2):Prop:=
 (da3 H1 (aQ h.size) λa b c=>cf 153 #[.agg #[a,b,c],iQ 1] H1 λa b=>asInt .u64 a λa=>lP b (Addr.add (aQ h.size) 2) λc=>nP c λc=>stH b (Addr.add c 1) (iQ 0) λb=>da3 b (aQ h.size) λc d e=>ldH b (Addr.add (aQ h.size) 2) λf=>Wb2 f λg=>nP g λg=>bd 0 10 (ldH b (Addr.add g 2) λi=>asInt .u64 i λj=>cf 146 #[uQ a] b λb k=>asInt .i64 b λb=>((Wa1 k (Addr.add g 2))=(some i))/\(((Wa1 k (Addr.add (aQ h.size) 2))=(some f))/\(ce k h.size 0 c (((Wa1 k (Addr.add (aQ h.size) 1))=(some d))/\(((Wa1 k (Addr.add (aQ h.size) 2))=(some e))/\(cf 154 #[.agg #[c,d,e],uQ j,uQ a,iQ b,.bool false] k λa b=>asBool a λa=>ifB a (lP b (Addr.add (aQ h.size) 1) λa=>cf 106 #[.pointer a,.slice none 0 0] b λa a=>K (.tuple #[]) a) (K (.tuple #[]) b))))))))
def F159 (K:kQ) (h:Wa2) (xa xb xc:Option Addr):Prop:=
 (g159 K h (Array.push h (.cells #[.pointer xa,.pointer xb,.pointer xc] 195)))
theorem call159 {K:kQ} {h:Wa2} {xa xb xc:Option Addr} (H:F159 K h xa xb xc):Wa5 Tryz.prog 159 #[(.agg #[(.pointer xa),(.pointer xb),(.pointer xc)])] h K:=
 cQ Tryz.func159 H
abbrev g160 (K:kQ) (h H1:Wa2):Prop:=
 (lP H1 (Addr.add (aQ h.size) 2) λa=>nP a λb=>lI .i64 H1 (Addr.add b 1) λb=>ifB (b == 0) (da3 H1 (aQ h.size) λc d e=>nP a λf=>bd 0 10 (lI .u64 H1 (Addr.add f 2) λf=>((Wa1 (Array.push H1 (.cells #[uQ f] 178)) (aQ h.size))=(some c))/\(((Wa1 (Array.push H1 (.cells #[uQ f] 178)) (Addr.add (aQ h.size) 1))=(some d))/\(((Wa1 (Array.push H1 (.cells #[uQ f] 178)) (Addr.add (aQ h.size) 2))=(some e))/\(cf 144 #[.agg #[c,d,e],iQ 1,iQ 10,.slice (some (aQ H1.size)) 1 1] (Array.push H1 (.cells #[uQ f] 178)) λc c=>K (.tuple #[]) c))))) (ifB (b == 1) (lP H1 (Addr.add (aQ h.size) 1) λc=>nP c λc=>bd 0 3 (lI .u64 H1 (Addr.add c 2) λc=>lP H1 (Addr.add (aQ h.size) 1) λd=>nP d λd=>bd 1 3 (lI .u64 H1 (Addr.add d 3) λd=>nP a λe=>bd 1 10 (nP a λf=>stH H1 (Addr.add e 3) (uQ c) λc=>bd 2 10 (stH c (Addr.add f 4) (uQ d) λc=>nP a λd=>stH c (Addr.add d 1) (iQ 2) λc=>da3 c (aQ h.size) λd e f=>cf 153 #[.agg #[d,e,f],iQ 1] c λc d=>asInt .u64 c λc=>cf 226 #[uQ c] d λc d=>asBool c λc=>ifB (!c) (lP d (Addr.add (aQ h.size) 1) λc=>cf 106 #[.pointer c,.slice none 0 0] d λc c=>K (.tuple #[]) c) (K (.tuple #[]) d)))))) (ifB (b == 2) (nP a λc=>stH H1 (Addr.add c 1) (iQ 3) λc=>nP a λd=>bd 0 10 (ldH c (Addr.add d 2) λe=>asInt .u64 e λf=>lP c (aQ h.size) λg=>cf 147 #[.pointer g,iQ 2] c λc g=>asInt .u64 c λc=>((Wa1 g (Addr.add d 2))=(some e))/\(cf 230 #[iQ (IntKind.wrap .i64 f),iQ (IntKind.wrap .i64 c)] g λc d=>asBool c λc=>ifB c (nP a λa=>stH d (Addr.add a 1) (iQ 4) λa=>K (.tuple #[]) a) (K (.tuple #[]) d)))) (ifB (b == 3) (dl3 H1 h.size λa b c=>cf 159 #[.agg #[a,b,c]] H1 λa a=>K (.tuple #[]) a) (K (.tuple #[]) H1)))))
def F160 (K:kQ) (h:Wa2) (xa xb xc:Option Addr):Prop:=
 (g160 K h (Array.push h (.cells #[.pointer xa,.pointer xb,.pointer xc] 195)))
theorem call160 {K:kQ} {h:Wa2} {xa xb xc:Option Addr} (H:F160 K h xa xb xc):Wa5 Tryz.prog 160 #[(.agg #[(.pointer xa),(.pointer xb),(.pointer xc)])] h K:=
 cQ Tryz.func160 H
abbrev g217 (K:kQ) (h H1 H2:Wa2):Prop:=
 (lP H2 (Addr.add (aQ h.size) 2) λa=>lI .i64 H2 (aQ H1.size) λb=>((0:Int)<=8)/\(lI .i64 H2 ⟨H1.size,1,none⟩ λc=>nP a λa=>bd 6 10 (stH H2 (Addr.add a 8) (uQ (IntKind.wrap .u64 ((((BitVec.ofInt 64 (IntKind.wrap .u64 ((IntKind.wrap .u64 b)*256))) ||| (BitVec.ofInt 64 (IntKind.wrap .u64 c))).toNat:Nat):Int))) λa=>K (.tuple #[]) a)))
def F217 (K:kQ) (h:Wa2) (xa xb xc:Option Addr) (xd xe:Int):Prop:=
 (g217 K h (Array.push h (.cells #[.pointer xa,.pointer xb,.pointer xc] 193)) (Array.push (Array.push h (.cells #[.pointer xa,.pointer xb,.pointer xc] 193)) (.cells #[iQ xd,iQ xe] 282)))
theorem call217 {K:kQ} {h:Wa2} {xa xb xc:Option Addr} {xd xe:Int} (H:F217 K h xa xb xc xd xe):Wa5 Tryz.prog 217 #[(.agg #[(.pointer xa),(.pointer xb),(.pointer xc)]),(.agg #[(iQ xd),(iQ xe)])] h K:=
 cQ Tryz.func217 H
abbrev g220 (K:kQ) (h H1 H2:Wa2):Prop:=
 (lP H2 (Addr.add (aQ h.size) 2) λa=>nP a λa=>bd 6 10 (lI .u64 H2 (Addr.add a 8) λa=>((0:Int)<=8)/\(lP H2 (Addr.add (aQ h.size) 2) λb=>nP b λb=>bd 6 10 (lI .u64 H2 (Addr.add b 8) λb=>stH H2 (aQ H1.size) (iQ (IntKind.wrap .i64 (Int.fdiv a 256))) λa=>stH a ⟨H1.size,1,none⟩ (iQ (IntKind.wrap .i64 (IntKind.wrap .u64 ((((BitVec.ofInt 64 b) &&& (BitVec.ofInt 64 255)).toNat:Nat):Int)))) λa=>dl2 a H1.size λb c=>K (.agg #[b,c]) a))))
def F220 (K:kQ) (h:Wa2) (xa xb xc:Option Addr):Prop:=
 (g220 K h (Array.push h (.cells #[.pointer xa,.pointer xb,.pointer xc] 193)) (Array.push (Array.push h (.cells #[.pointer xa,.pointer xb,.pointer xc] 193)) (.cells #[iQ 0,iQ 0] 282)))
theorem call220 {K:kQ} {h:Wa2} {xa xb xc:Option Addr} (H:F220 K h xa xb xc):Wa5 Tryz.prog 220 #[(.agg #[(.pointer xa),(.pointer xb),(.pointer xc)])] h K:=
 cQ Tryz.func220 H
abbrev g222 (K:kQ) (h H1:Wa2) (xa:Int):Prop:=
 (lP H1 (Addr.add (aQ h.size) 2) λa=>nP a λa=>bd 5 10 (lI .u64 H1 (Addr.add a 7) λa=>cf 282 #[iQ (IntKind.wrap .i64 a),iQ xa] H1 λa b=>asInt .i64 a λa=>K (uQ (IntKind.wrap .u64 a)) b))
def F222 (K:kQ) (h:Wa2) (xa xb xc:Option Addr) (xd:Int):Prop:=
 (g222 K h (Array.push h (.cells #[.pointer xa,.pointer xb,.pointer xc] 193)) xd)
theorem call222 {K:kQ} {h:Wa2} {xa xb xc:Option Addr} {xd:Int} (H:F222 K h xa xb xc xd):Wa5 Tryz.prog 222 #[(.agg #[(.pointer xa),(.pointer xb),(.pointer xc)]),(iQ xd)] h K:=
 cQ Tryz.func222 H
abbrev g225 (K:kQ) (h H1:Wa2) (xa:Bool):Prop:=
 (ifB xa (da3 H1 (aQ h.size) λa b c=>cf 155 #[.agg #[a,b,c],uQ 0,uQ 0,uQ 0] H1 λa a=>K (.tuple #[]) a) (lP H1 (Addr.add (aQ h.size) 2) λa=>nP a λa=>bd 3 10 (stH H1 (Addr.add a 5) (uQ 0) λa=>lP a (Addr.add (aQ h.size) 2) λb=>nP b λb=>stH a (Addr.add b 1) (iQ 4) λa=>K (.tuple #[]) a)))
def F225 (K:kQ) (h:Wa2) (xa xb xc:Option Addr) (xd:Bool):Prop:=
 (g225 K h (Array.push h (.cells #[.pointer xa,.pointer xb,.pointer xc] 193)) xd)
theorem call225 {K:kQ} {h:Wa2} {xa xb xc:Option Addr} {xd:Bool} (H:F225 K h xa xb xc xd):Wa5 Tryz.prog 225 #[(.agg #[(.pointer xa),(.pointer xb),(.pointer xc)]),(.bool xd)] h K:=
 cQ Tryz.func225 H
end
section
open Mod
abbrev rV (M T b o:Nat):Value:=.agg #[mP M,mP T,fP b o]
theorem Wc9 {p:Pl} (B:PlB p) (n f:Int):iN (p.node n f):=by
 have h1:=B.no
 have h2:=B.wi
 have h3:=B.nd
 have h4:=B.li
 unfold Pl.node
 split
 ·rename_i c
  have:(n - 1)*p.width<=64*11:=Int.mul_le_mul (by omega) (by omega) (by omega) (by omega)
  have h0:0<=(n - 1)*p.width:=Int.mul_nonneg (by omega) (by omega)
  constructor <;> omega
 ·constructor <;> omega
theorem Y19 {p:Pl} (B:PlB p) (n:Int):iN (p.at n):=by
 have h1:=B.tr
 have h2:=B.si
 have h3:=B.nd
 have h4:=B.li
 unfold Pl.at
 split <;> constructor <;> omega
theorem Yf3 {u v:Int} (h1:U u) (h2:U v):∀w ∈ [u,v],U w:=by
 intro w hw
 simp only [List.mem_cons,List.not_mem_nil,or_false] at hw
 rcases hw with rfl | rfl
 ·exact h1
 ·exact h2
section
variable {K:kQ} {h:Wa2} {M T b o N:Nat} {tv:Value} {fo:Option (Nat × Nat)} {x:Run} {R:Hp}
theorem Wi2 (i:Nat) (hi:Nat.ble (i+1) 10=true) (H:Sat h (RunS M T tv (some (b,o)) x R)) (k:∀h',Sat h' (RunS M T tv (some (b,o)) x R)->K (uQ (x.f.g i)) h') :
  Wa5 Tryz.prog 153 #[rV M T b o,iQ (i:Int)] h K:=by
 refine call153 ?_
 unfold F153 g153 bd lP nP
 have H1:=RunS.new H (.cells #[mP M,mP T,fP b o] 187);generalize h.push (.cells #[mP M,mP T,fP b o] 187)=h1 at *;generalize h.size=N at *
 have hi':i < 10:=by rw [Nat.ble_eq] at hi;omega
 refine sl H1 ?_
 refine ⟨by omega,by omega,?_⟩
 rw [show o+(2+i)=o+(i+2) by omega,RunS.rg H1 hi]
 refine sb ?_
 exact k h1 (RunS.drp H1)
theorem WE5 (H:Sat h (RunS M T tv (some (b,o)) x R)) {pc fn:Int} {a:Option Addr} {l c:Nat} {rs:List Int} (A:Args R a l c rs) (hl:l<=10) (hd:x.t.fr.length < 1073741823)
  (k:∀h' b' o',¬ (b' = b/\o' = o)->WO9 h' (some (b,o)) (x.pc pc).f->Sat h' (RunS M T tv (some (b',o')) (x.call pc fn rs) R)->K (.tuple #[]) h') :
  Wa5 Tryz.prog 144 #[rV M T b o,iQ pc,iQ fn,.slice a l c] h K:=by
 refine call144 ?_
 unfold F144 g144 cf lP nP
 have H1:=RunS.new H (.cells #[mP M,mP T,fP b o] 187);generalize h.push (.cells #[mP M,mP T,fP b o] 187)=h1 at *;generalize h.size=N at *
 refine sl H1 ?_
 refine RunS.stP H1 λh2 H2=>?_
 refine sl H2 ?_
 refine Wa0 (YZ5 H2 A.skip hl (by show (x.t.fr.dropLast ++ [_]).length < _;simp;omega) λh3 b' o' h1 h2 H3=>k h3 b' o' (λe=>h1 b o rfl e) h2 (RunS.drp H3))
theorem ZC1 (H:Sat h (RunS M T tv fo x R)) {l:Nat} (rs:List Int) {ty:TypeId} (hr:rs.length=l) (hu:∀v ∈ rs,U v) (hl:Nat.ble l 3=true) (k:∀h',Sat h' (RunS M T tv none (x.pop rs) R)->K (.tuple #[]) h') :
 Wa5 Tryz.prog 106 #[mP T,.slice (some (aQ h.size)) l l] (h.push (.cells (uvs rs).toArray ty)) K:=YI6 H rs hr hu (Nat.le_of_ble_eq_true hl) k
theorem Wx2 (H:Sat h (RunS M T tv (some (b,o)) x R)) {pc fn:Int} {l:Nat} (rs:List Int) {ty:TypeId} (hr:rs.length=l) (hu:∀v ∈ rs,U v) (hl:Nat.ble l 10=true) (hd:x.t.fr.length < 1073741823)
  (k:∀h' b' o',¬ (b' = b/\o' = o)->WO9 h' (some (b,o)) (x.pc pc).f->Sat h' (RunS M T tv (some (b',o')) (x.call pc fn rs) R)->K (.tuple #[]) h') :
  Wa5 Tryz.prog 144 #[rV M T b o,iQ pc,iQ fn,.slice (some (aQ h.size)) l l] (h.push (.cells (uvs rs).toArray ty)) K:=
 WE5 (RunS.new H (.cells (uvs rs).toArray ty)) (Args.mk' hr hu) (Nat.le_of_ble_eq_true hl) hd λh' b' o' h1 h2 H'=>k h' b' o' h1 h2 (RunS.drp H')
theorem Wz4 (H:Sat h (RunS M T tv fo x R)) {pl:Int} (k:∀h',Sat h' (RunS M T tv fo x R)->K (iQ (x.at pl)) h') :
  Wa5 Tryz.prog 145 #[rV M T b o,uQ pl] h K:=by
 refine call145 ?_
 unfold F145 g145 cf lP Wm8
 have H1:=RunS.new H (.cells #[mP M,mP T,fP b o] 187);generalize h.push (.cells #[mP M,mP T,fP b o] 187)=h1 at *;generalize h.size=N at *
 refine sl H1 ?_
 refine Wa0 (WJ8 H1 λh2 H2=>WF3 ?_)
 refine Wa0 (Ym9 (RunS.pl H) (Wi8 _) λh3 o3=>?_)
 refine sb ?_
 exact k h3 (RunS.drp (RunS.old H2 o3))
theorem WE6 (H:Sat h (RunS M T tv fo x R)) {w f:Int} (hw:U w) (hf:iN f) (k:∀h',Sat h' (RunS M T tv fo x R)->K (iQ (x.nodeW w f)) h') :
  Wa5 Tryz.prog 148 #[rV M T b o,uQ w,iQ f] h K:=by
 refine call148 ?_
 unfold F148 g148 cf lP Wm8
 have H1:=RunS.new H (.cells #[mP M,mP T,fP b o] 187);generalize h.push (.cells #[mP M,mP T,fP b o] 187)=h1 at *;generalize h.size=N at *
 refine sl H1 ?_
 refine Wa0 (WJ8 H1 λh2 H2=>WF3 ?_)
 refine Wa0 (Wf3 hw ?_)
 refine sb ?_
 refine Wa0 (Wf7 (RunS.pl H) (W64 _) hf λh3 o3=>?_)
 refine sb ?_
 exact k h3 (RunS.drp (RunS.old H2 o3))
theorem WG8 (H:Sat h (RunS M T tv fo x R)) {pl w ptr:Int} {d:Bool} (hw:U w) (hs:x.m.mm.st < 1099511627776) (k:∀h',Sat h' (RunS M T tv fo (x.swing pl w ptr d).2 R)->K (.bool (x.swing pl w ptr d).1) h') :
  Wa5 Tryz.prog 154 #[rV M T b o,uQ pl,uQ w,iQ ptr,.bool d] h K:=by
 refine call154 ?_
 unfold F154 g154 cf ce dl3
 have H1:=RunS.new H (.cells #[mP M,mP T,fP b o] 187);generalize h.push (.cells #[mP M,mP T,fP b o] 187)=h1 at *;generalize h.size=N at *
 refine sl H1 ?_
 refine Wa0 (Wz4 H1 λh2 H2=>?_)
 refine sl H2 ?_
 refine Wa0 (Wg9 hw ?_)
 refine sl H2 ?_
 refine Wa0 (Zs6 H2 (Y19 (RunS.pl H) _) Wq3 hs λh3 H3=>?_)
 refine sb ?_
 exact k h3 (RunS.drp H3)
theorem Wx3 (H:Sat h (RunS M T tv (some (b,o)) x R)) {k7 k8 k9:Int} (h7:U k7) (h8:U k8) (h9:U k9) (hd:x.t.fr.length < 1073741823)
  (k:∀h' b' o',¬ (b' = b/\o' = o)->WO9 h' (some (b,o)) ((((x.s 7 k7).s 8 k8).s 9 k9).pc 90).f->Sat h' (RunS M T tv (some (b',o')) (x.fin k7 k8 k9) R)->K (.tuple #[]) h') :
  Wa5 Tryz.prog 155 #[rV M T b o,uQ k7,uQ k8,uQ k9] h K:=by
 refine call155 ?_
 unfold F155 g155 cf ce bd lP nP dl3
 have H1:=RunS.new H (.cells #[mP M,mP T,fP b o] 187);generalize h.push (.cells #[mP M,mP T,fP b o] 187)=h1 at *;generalize h.size=N at *
 refine sl H1 ?_
 refine RunS.stR (i:=7) H1 rfl h7 λh2 H2=>?_
 refine sl H2 ?_
 refine RunS.stR (i:=8) H2 rfl h8 λh3 H3=>?_
 refine sl H3 ?_
 refine RunS.stR (i:=9) H3 rfl h9 λh4 H4=>?_
 refine sl H4 ?_
 refine Wa0 (WE5 H4 Args.none (by omega) ?_ λh5 b' o' h1 h2 H5=>k h5 b' o' h1 h2 (RunS.drp H5))
 have e:=List.length_pos_iff.2 (WU1 (RunS.thr H))
 show ((((x.t.fr.dropLast ++ [_]).dropLast ++ [_]).dropLast) ++ [_]).length < _
 simp
 omega
theorem ZO3 (H:Sat h (RunS M T tv (some (b,o)) x R)):0 < x.t.fr.length:=List.length_pos_iff.2 (WU1 (RunS.thr H))
theorem YJ7 (H:Sat h (RunS M T tv (some (b,o)) x R)) (hs:x.m.mm.st < 1099511627776) (hd:x.t.fr.length < 1073741823) (k:∀h',Sat h' (RunS M T tv none (WS4 x) R)->K (.tuple #[]) h') :
  Wa5 Tryz.prog 107 #[rV M T b o] h K:=by
 refine call107 ?_
 unfold F107 g107 cf ce bd lP lI nP dl3
 have B:=RunS.fB H
 have P:=RunS.pl H
 unfold WS4 at k
 have H1:=RunS.new H (.cells #[mP M,mP T,fP b o] 187);generalize h.push (.cells #[mP M,mP T,fP b o] 187)=h1 at *;generalize h.size=N at *
 try simp +decide only [Wb8,bsx,Nat.reduceAdd,Int.reduceLE,Int.reduceLT,Int.reduceToNat,rsx,g_s,Wa7,RunS.l H1,RunS.r H1,RunS.tc H1]
 refine Wa3 (λc=>?_) (λc=>?_)
 ·rw [if_pos c] at k
  refine Wa0 (Wz4 H1 λh2 H2=>?_)
  try simp +decide only [Wb8,bsx,Nat.reduceAdd,Int.reduceLE,Int.reduceLT,Int.reduceToNat,rsx,g_s,Wa7,RunS.l H2,RunS.c H2]
  refine Wa0 (Wx2 H2 [1,u64 (x.at (x.f.g 0))] rfl (Yf3 (U.lit rfl) (Wk4 _)) rfl hd λh4 b' o' _ _ H4=>k h4 (RunS.drp (RunS.none H4)))
 ·rw [if_neg c] at k
  have hr:=(RunS.B H).ret.2
  have hr0:U (x.ret 0):=Yd2 hr 0
  refine Wa0 (Wf3 hr0 ?_)
  try simp +decide only [Wb8,bsx,Nat.reduceAdd,Int.reduceLE,Int.reduceLT,Int.reduceToNat,rsx,g_s,Wa7,RunS.l H1]
  refine Wa3 (λc2=>?_) (λc2=>?_)
  ·rw [if_pos c2] at k
   exact Wa0 (ZC1 H1 [x.ret 0,1099511627776] rfl (Yf3 hr0 (U.lit rfl)) rfl λh2 H2=>k h2 (RunS.drp H2))
  ·rw [if_neg c2] at k
   refine Wa0 (WE6 H1 hr0 (by decide) λh2 H2=>?_)
   refine sl H2 ?_
   refine Wa0 (Wg2 H2 (Wc9 P _ _) hs λh3 H3 u3=>?_)
   refine sl H3 ?_
   exact Wa0 (ZC1 H3 [x.ret 0,(x.load (x.nodeW (x.ret 0) 0)).1] rfl (Yf3 hr0 u3) rfl λh4 H4=>k h4 (RunS.drp H4))
end
end
section
open Mod
theorem ZG2 {n:Int} (h:U n):Mod.u64 ((((BitVec.ofInt 64 n) &&& (BitVec.ofInt 64 255)).toNat:Nat):Int)=n % 256:=by
 have h0:=h.1
 have h1:=h.2
 rw [BitVec.toNat_and,h.bv,show (BitVec.ofInt 64 255).toNat=2 ^ 8 - 1 from rfl,Nat.and_two_pow_sub_one_eq_mod]
 unfold Mod.u64
 omega
theorem ZG3 (a b:Int):U (((Nat.lor (Mod.u64 a).toNat (Mod.u64 b).toNat:Nat)):Int):=by
 have ha:=Wk4 a
 have hb:=Wk4 b
 have:=Nat.or_lt_two_pow (x:=(Mod.u64 a).toNat) (y:=(Mod.u64 b).toNat) (n:=64) (by have:=ha.1;have:=ha.2;omega) (by have:=hb.1;have:=hb.2;omega)
 constructor
 ·omega
 ·have e:(Mod.u64 a).toNat ||| (Mod.u64 b).toNat=Nat.lor (Mod.u64 a).toNat (Mod.u64 b).toNat:=rfl
  rw [e] at this
  omega
theorem ZG4 (a b:Int):Mod.u64 ((((BitVec.ofInt 64 (Mod.u64 a)) ||| (BitVec.ofInt 64 (Mod.u64 b))).toNat:Nat):Int)=((Nat.lor (Mod.u64 a).toNat (Mod.u64 b).toNat:Nat):Int):=by
 rw [BitVec.toNat_or,(Wk4 a).bv,(Wk4 b).bv]
 exact (ZG3 a b).u64
section
variable {K:kQ} {h:Wa2} {M T b o N:Nat} {tv:Value} {fo:Option (Nat × Nat)} {x:Run} {R:Hp}
theorem WV3 (H:Sat h (RunS M T tv (some (b,o)) x R)) (k:∀h',Sat h' (RunS M T tv (some (b,o)) x R)->K (spV (Yc7 x)) h') :
  Wa5 Tryz.prog 220 #[rV M T b o] h K:=by
 refine call220 ?_
 unfold F220 g220 bd lP lI nP dl2
 have B:=RunS.fB H
 have H1:=RunS.new H (.cells #[mP M,mP T,fP b o] 193);generalize h.push (.cells #[mP M,mP T,fP b o] 193)=h1 at *;generalize h.size=N at *
 have H2:=RunS.new H1 (.cells #[iQ 0,iQ 0] 282)
 generalize h1.push (.cells #[iQ 0,iQ 0] 282)=h2 at *
 generalize h1.size=N2 at *
 try simp +decide only [Wb8,bsx,Nat.reduceAdd,Int.reduceLE,Int.reduceLT,Int.reduceToNat,rsx,g_s,Wa7,RunS.l2 H2,RunS.r H2,ZG2 (B.g 6)]
 have hg:=B.g 6
 have g0:=hg.1
 have g1:=hg.2
 rw [Wr1 (by omega),show s64 (x.f.g 6 / 256)=x.f.g 6 / 256 by unfold s64;omega,show s64 (x.f.g 6 % 256)=x.f.g 6 % 256 by unfold s64;omega]
 refine stR (RunS.loc H2) rfl trivial λh3 w3=>stR w3.new rfl trivial λh4 w4=>ldR w4.new rfl (ldR w4.new rfl ?_)
 exact k h4 (RunS.drp (RunS.drp (RunS.wr (RunS.wr H2 w3.new w3.old) w4.new w4.old)))
theorem WV4 (H:Sat h (RunS M T tv (some (b,o)) x R)) {s:Sp} (k:∀h',Sat h' (RunS M T tv (some (b,o)) (WS5 x s) R)->K (.tuple #[]) h') :
  Wa5 Tryz.prog 217 #[rV M T b o,spV s] h K:=by
 refine call217 ?_
 unfold F217 g217 bd lP lI nP
 have H1:=RunS.new H (.cells #[mP M,mP T,fP b o] 193);generalize h.push (.cells #[mP M,mP T,fP b o] 193)=h1 at *;generalize h.size=N at *
 have H2:=RunS.new H1 (.cells #[iQ s.lo,iQ s.hi] 282)
 generalize h1.push (.cells #[iQ s.lo,iQ s.hi] 282)=h2 at *
 generalize h1.size=N2 at *
 have O:=RunS.loc H2
 have l0:∀F:Value->Prop,ldH h2 (aQ N2) F=F (iQ s.lo):=λF=>by unfold ldH;rw [Wc1 O];rfl
 have l1:∀F:Value->Prop,ldH h2 ⟨N2,1,none⟩ F=F (iQ s.hi):=λF=>by unfold ldH;rw [Wc1 O];rfl
 try simp +decide only [Wb8,bsx,Nat.reduceAdd,Int.reduceLE,Int.reduceLT,Int.reduceToNat,rsx,g_s,Wa7,RunS.l2 H2,l0,l1,ZG4]
 exact RunS.stR (i:=6) H2 rfl (ZG3 _ _) λh3 H3=>k h3 (RunS.drp (RunS.drp H3))
theorem WV5 (H:Sat h (RunS M T tv (some (b,o)) x R)) {l:Int} (hl:iN l) (k:∀h',Sat h' (RunS M T tv (some (b,o)) x R)->K (uQ (YH4 x l)) h') :
  Wa5 Tryz.prog 222 #[rV M T b o,iQ l] h K:=by
 refine call222 ?_
 unfold F222 g222 cf bd lP lI nP
 have H1:=RunS.new H (.cells #[mP M,mP T,fP b o] 193);generalize h.push (.cells #[mP M,mP T,fP b o] 193)=h1 at *;generalize h.size=N at *
 try simp +decide only [Wb8,bsx,Nat.reduceAdd,Int.reduceLE,Int.reduceLT,Int.reduceToNat,rsx,g_s,Wa7,RunS.l H1,RunS.r H1]
 refine Wa0 (Zi9 hl ?_)
 refine sb ?_
 exact k h1 (RunS.drp H1)
theorem WG9 (H:Sat h (RunS M T tv (some (b,o)) x R)) {ok:Bool} (hd:x.t.fr.length < 1000000002) (k:∀h',Sat h' (RunS M T tv none (W55 x ok) R)->K (.tuple #[]) h') :
  Wa5 Tryz.prog 225 #[rV M T b o,.bool ok] h K:=by
 refine call225 ?_
 unfold F225 g225 cf bd lP nP da3
 have H1:=RunS.new H (.cells #[mP M,mP T,fP b o] 193);generalize h.push (.cells #[mP M,mP T,fP b o] 193)=h1 at *;generalize h.size=N at *
 unfold W55 at k
 cases ok with
 | true=>
  refine sl H1 ?_
  exact Wa0 (Wx3 H1 U0 U0 U0 (by omega) λh2 b' o' _ _ H2=>k h2 (RunS.drp (RunS.none H2)))
 | false=>
  refine sl H1 ?_
  refine RunS.stR (i:=3) H1 rfl U0 λh2 H2=>?_
  refine sl H2 ?_
  exact RunS.stP H2 λh3 H3=>k h3 (RunS.drp (RunS.none H3))
theorem RunS.ret (H:Sat h (RunS M T tv fo x R)) (i:Nat):U (x.ret i):=Yd2 (RunS.B H).ret.2 i
theorem Yo9 (H:Sat h (RunS M T tv (some (b,o)) x R)) (O:Ok x) (hp:x.f.pc<=3) (k:∀h',Sat h' (RunS M T tv none (WS6 x) R)->K (.tuple #[]) h') :
  Wa5 Tryz.prog 149 #[rV M T b o] h K:=by
 refine call149 ?_
 unfold F149 g149 cf ce bd lP lI nP da3 Wm8
 have B:=RunS.fB H
 have P:=RunS.pl H
 have hp0:=O.pc
 have hd:=O.fr
 have r0:=RunS.ret H 0
 unfold WS6 at k
 dsimp only at k
 have H1:=RunS.new H (.cells #[mP M,mP T,fP b o] 193);generalize h.push (.cells #[mP M,mP T,fP b o] 193)=h1 at *;generalize h.size=N at *
 try simp +decide only [Wb8,bsx,Nat.reduceAdd,Int.reduceLE,Int.reduceLT,Int.reduceToNat,rsx,g_s,Wa7,RunS.l H1,RunS.r H1,RunS.tc H1]
 refine Wa3 (λc=>?_) (λc=>?_)
 ·rw [if_pos c] at k
  exact Wa0 (WE5 H1 Args.none (by omega) (by omega) λh2 b' o' _ _ H2=>k h2 (RunS.drp (RunS.none H2)))
 rw [if_neg c] at k
 refine Wa3 (λc=>?_) (λc=>?_)
 ·rw [if_pos c] at k
  refine RunS.stR (i:=2) H1 rfl r0 λh2 H2=>?_
  try simp +decide only [Wb8,bsx,Nat.reduceAdd,Int.reduceLE,Int.reduceLT,Int.reduceToNat,rsx,g_s,Wa7,RunS.l H2,RunS.r H2,B.len]
  refine Wb6 (λc2=>?_) (λc2=>?_)
  ·have c2':x.ret 0≠0:=by simpa [Run.ret] using c2
   rw [if_pos c2'] at k
   exact RunS.stP H2 λh3 H3=>k h3 (RunS.drp (RunS.none H3))
  ·have c2':¬ x.ret 0≠0:=by simpa [Run.ret] using c2
   rw [if_neg c2'] at k
   have hfl:=Ws9 x 2 (x.ret 0)
   refine ⟨λvs h'=>(∃w,vs = [.bool (decide (x.f.g 3=0/\x.t.retired.length > 0)),w])/\Sat h' (RunS M T tv (some (b,o)) (x.s 2 (x.ret 0)) (pt N (.cells #[mP M,mP T,fP b o] 193)*R)),?_,?_⟩
   ·refine Wa3 (λc3=>?_) (λc3=>?_)
    ·refine Wa0 (Wv7 (RunS.thr H2) ?_)
     refine sb ?_
     have e:decide (((x.s 2 (x.ret 0)).t.retired.length:Int) > 0)=decide (x.f.g 3=0/\x.t.retired.length > 0):=by
      rw [decide_eq_decide]
      have e2:(x.s 2 (x.ret 0)).t.retired=x.t.retired:=rfl
      rw [e2]
      omega
     rw [e]
     exact ⟨⟨_,rfl⟩,H2⟩
    ·exact ⟨⟨_,by rw [decide_eq_false (λhh=>c3 hh.1)]⟩,H2⟩
   rintro v32 v33 g34 h35 ⟨⟨w,e⟩,H3⟩
   cases e
   refine sb ?_
   refine Wa3 (λc3=>?_) (λc3=>?_)
   ·rw [if_pos c3] at k
    refine RunS.stR (i:=3) H3 rfl (U.lit rfl) λh4 H4=>?_
    have hfl2:=Ws9 (x.s 2 (x.ret 0)) 3 1
    refine sl H4 ?_
    exact Wa0 (WE5 H4 Args.none (by omega) (by omega) λh5 b' o' _ _ H5=>k h5 (RunS.drp (RunS.none H5)))
   ·rw [if_neg c3] at k
    refine sl H3 ?_
    exact Wa0 (Wx3 H3 (U.lit rfl) U0 U0 (by omega) λh5 b' o' _ _ H5=>k h5 (RunS.drp (RunS.none H5)))
 rw [if_neg c] at k
 refine Wa3 (λc=>?_) (λc=>?_)
 ·rw [if_pos c] at k
  refine Wa0 (WJ8 H1 λh2 H2=>WF3 ?_)
  try simp only [Wb8,bsx,Nat.reduceAdd,Int.reduceLE,Int.reduceLT,Int.reduceToNat,RunS.c H2,RunS.l H2]
  refine Wa0 (Wf7 P (Wi8 _) (by decide) λh3 o3=>?_)
  have H3:=RunS.old H2 o3
  try simp only [Wb8,bsx,Nat.reduceAdd,Int.reduceLE,Int.reduceLT,Int.reduceToNat,RunS.c H3,RunS.l H3]
  refine Wa0 (Wj3 H3 (Wc9 P _ _) (B.g 0) O.st λh4 H4=>?_)
  exact RunS.stP H4 λh5 H5=>k h5 (RunS.drp (RunS.none H5))
 rw [if_neg c] at k
 refine Wa3 (λc=>?_) (λc=>by omega)
 ·refine Wa0 (WJ8 H1 λh2 H2=>WF3 ?_)
  try simp only [Wb8,bsx,Nat.reduceAdd,Int.reduceLE,Int.reduceLT,Int.reduceToNat,RunS.c H2,RunS.l H2]
  refine Wa0 (Wf7 P (Wi8 _) (by decide) λh3 o3=>?_)
  have H3:=RunS.old H2 o3
  try simp only [Wb8,bsx,Nat.reduceAdd,Int.reduceLE,Int.reduceLT,Int.reduceToNat,RunS.c H3,RunS.l H3]
  refine Wa0 (Wj3 H3 (Wc9 P _ _) (B.g 1) O.st λh4 H4=>?_)
  exact RunS.stR (i:=3) H4 rfl U0 λh5 H5=>RunS.stP H5 λh6 H6=>k h6 (RunS.drp (RunS.none H6))
theorem RunS.feed (H:Sat h (RunS M T tv fo x R)) (k:∀q R',Sat h (fdS q x.m.b x.m.used*R')->(∀h' u,Sat h' (fdS q x.m.b u*R')->Sat h' (RunS M T tv fo { x with m:=Mac.feed x.m u } R))->K (mP q) h) :
 Wa5 Tryz.prog 214 #[mP M] h K:=Yn9 H λq R' H1 re=>k q R' H1 λh' u H2=>re h' u H2
theorem Yp0 (H:Sat h (RunS M T tv (some (b,o)) x R)) (O:Ok x) (hp:4<=x.f.pc/\x.f.pc<=7) (k:∀h',Sat h' (RunS M T tv none (Wo4 x) R)->K (.tuple #[]) h') :
  Wa5 Tryz.prog 150 #[rV M T b o] h K:=by
 refine call150 ?_
 unfold F150 g150 cf ce bd lP lI nP da3 de2 de7 Wm8 dl3
 have B:=RunS.fB H
 have P:=RunS.pl H
 have hd:=O.fr
 have r1:=RunS.ret H 1
 unfold Wo4 at k
 dsimp only at k
 have H1:=RunS.new H (.cells #[mP M,mP T,fP b o] 193);generalize h.push (.cells #[mP M,mP T,fP b o] 193)=h1 at *;generalize h.size=N at *
 refine sl H1 ?_
 refine Wa0 (WJ8 H1 λh2 H2=>WF3 ?_)
 refine Wa0 (Wh6 λh3 o3=>cf7 ?_)
 have H3:=RunS.old H2 o3
 have H4:=RunS.new H3 (.cells Zd8 23)
 generalize h3.push (.cells Zd8 23)=h4 at *
 generalize h3.size=N2 at *
 refine st7 (Wd9 (vs:=cfc x.m.p.c) (RunS.loc H4) rfl (by simp [cfc,Wi4]) λh5 w=>?_)
 have H5:=RunS.wr H4 w.new w.old
 clear H1 H2 H3 H4 o3 w
 try simp +decide only [Wb8,bsx,Nat.reduceAdd,Int.reduceLE,Int.reduceLT,Int.reduceToNat,rsx,g_s,Wa7,RunS.l2 H5,RunS.r H5,RunS.tc H5]
 refine Wa3 (λc=>?_) (λc=>?_)
 ·rw [if_pos c] at k
  refine Wa0 (Wg2 H5 (by decide) O.st λh6 H6 u6=>?_)
  refine sb ?_
  refine RunS.stR (i:=4) H6 rfl u6 λh7 H7=>?_
  try simp +decide only [Wb8,bsx,Nat.reduceAdd,Int.reduceLE,Int.reduceLT,Int.reduceToNat,rsx,g_s,Wa7,RunS.l2 H7,RunS.r H7,B.len]
  refine Wa0 (RunS.feed H7 λq R' HF re=>?_)
  refine sb ?_
  refine Wa0 (WC9 (Wi8 _) ?_)
  refine sb ?_
  have hus:((x.load 2).2.s 4 (x.load 2).1).m.used < 1099511627776:=by
   have e:((x.load 2).2.s 4 (x.load 2).1).m.used=x.m.used:=by
    show (x.m.load 2).2.used=x.m.used
    unfold Mac.load
    dsimp only
    have:=(Wr2 x.m 2).2.2.2.1
    split <;> exact this
   rw [e];exact O.us
  have hb:=(W60 HF)
  obtain ⟨fa,fc,FF,_⟩:=hb
  refine Wa0 (Yn4 HF hus (λhn=>?_) (λhn h8 H8=>?_))
  ·refine sb ?_
   refine Wa0 (W27 (Wi8 _) ?_)
   refine sb ?_
   refine RunS.stR (i:=5) H7 rfl (Wk4 _) λh9 H9=>RunS.stP H9 λh10 H10=>k h10 ?_
   have e:(((x.load 2).2.s 4 (x.load 2).1).m.next (Wg4 (s64 (x.load 2).1)))=(0,((x.load 2).2.s 4 (x.load 2).1).m):=by unfold Mac.next;rw [if_pos hn]
   rw [e]
   exact RunS.drp (RunS.drp (RunS.none H10))
  ·refine sb ?_
   refine Wa0 (W27 (Wi8 _) ?_)
   refine sb ?_
   refine RunS.stR (i:=5) (re h8 _ H8) rfl (Wk4 _) λh9 H9=>RunS.stP H9 λh10 H10=>k h10 ?_
   have e:(((x.load 2).2.s 4 (x.load 2).1).m.next (Wg4 (s64 (x.load 2).1)))=(drawn ((x.load 2).2.s 4 (x.load 2).1).m.b ((x.load 2).2.s 4 (x.load 2).1).m.used % Wg4 (s64 (x.load 2).1),Mac.feed ((x.load 2).2.s 4 (x.load 2).1).m (((x.load 2).2.s 4 (x.load 2).1).m.used+1)):=by
    unfold Mac.next Mac.take;rw [if_neg (by omega)];rfl
   rw [e]
   exact RunS.drp (RunS.drp (RunS.none H10))
 rw [if_neg c] at k
 refine Wa3 (λc=>?_) (λc=>?_)
 ·rw [if_pos c] at k
  exact Wa0 (Wx2 H5 [x.f.g 5] rfl (Wn8 (B.g 5)) rfl (by omega) λh6 b' o' _ _ H6=>k h6 (RunS.drp (RunS.drp (RunS.none H6))))
 rw [if_neg c] at k
 refine Wa3 (λc=>?_) (λc=>?_)
 ·rw [if_pos c] at k
  refine Wa3 (λc2=>?_) (λc2=>?_)
  ·rw [if_pos c2] at k
   refine Wa0 (Y16 (Wi8 _) λh6 o6=>?_)
   have H6:=RunS.old H5 o6
   try simp only [Wb8,bsx,Nat.reduceAdd,Int.reduceLE,Int.reduceLT,Int.reduceToNat,RunS.l2 H6,RunS.c H6]
   refine WE0 rfl (Wd1 rfl (Wd1 rfl ?_))
   try simp only [Wb8,bsx,Nat.reduceAdd,Int.reduceLE,Int.reduceLT,Int.reduceToNat,RunS.l2 H6,RunS.c H6]
   refine Wa0 (WV4 H6 (s:=Zw1 (s64 (x.f.g 4))) λh7 H7=>?_)
   exact RunS.stP H7 λh8 H8=>k h8 (RunS.drp (RunS.drp (RunS.none H8)))
  ·rw [if_neg c2] at k
   refine RunS.stR (i:=3) H5 rfl (Wk4 _) λh6 H6=>RunS.stP H6 λh7 H7=>?_
   have O7:=RunS.loc H7
   have l5:∀F:Value->Prop,ldH h7 ⟨N2,5,none⟩ F=F (iQ x.m.p.c.probes):=λF=>by unfold ldH;rw [Wc1 O7];rfl
   try simp +decide only [Wb8,bsx,Nat.reduceAdd,Int.reduceLE,Int.reduceLT,Int.reduceToNat,rsx,g_s,Wa7,RunS.l2 H7,RunS.r H7,B.len,l5]
   refine Wa3 (λc3=>?_) (λc3=>?_)
   ·rw [if_pos c3] at k
    exact RunS.stP H7 λh8 H8=>k h8 (RunS.drp (RunS.drp (RunS.none H8)))
   ·rw [if_neg c3] at k
    exact k h7 (RunS.drp (RunS.drp (RunS.none H7)))
 rw [if_neg c] at k
 refine Wa3 (λc=>?_) (λc=>by omega)
 have O5:=RunS.loc H5
 have l3:∀F:Value->Prop,ldH h5 ⟨N2,3,none⟩ F=F (iQ x.m.p.c.level):=λF=>by unfold ldH;rw [Wc1 O5];rfl
 try simp +decide only [Wb8,bsx,Nat.reduceAdd,Int.reduceLE,Int.reduceLT,Int.reduceToNat,rsx,g_s,Wa7,RunS.l2 H5,RunS.r H5,l3]
 refine Wa3 (λc2=>?_) (λc2=>?_)
 ·rw [if_pos c2] at k
  refine Wa0 (Wx3 H5 (U.lit rfl) U0 U0 (by omega) λh6 b' o' _ st H6=>?_)
  have e2:Wa1 h6 ⟨b,o+4,none⟩=some (uQ (x.f.g 2)):=by
   have e:(((((x.s 7 1).s 8 0).s 9 0).pc 90).f).g 2=x.f.g 2:=by try simp +decide only [Wb8,bsx,Nat.reduceAdd,Int.reduceLE,Int.reduceLT,Int.reduceToNat,rsx,g_s,Wa7,B.len]
   rw [<- e]
   exact st b o 4 _ rfl rfl
  have ld2:∀F:Value->Prop,ldH h6 ⟨b,o+4,none⟩ F=F (uQ (x.f.g 2)):=λF=>by unfold ldH;rw [e2]
  try simp only [Wb8,bsx,Nat.reduceAdd,Int.reduceLE,Int.reduceLT,Int.reduceToNat,RunS.l2 H6,ld2]
  refine Wa0 (YZ6 H6 [x.f.g 2] rfl (Wn8 (B.g 2)) (by omega) ?_ λh7 b'' o'' _ _ H7=>k h7 (RunS.drp (RunS.drp (RunS.none H7))))
  have l1:=Ws9 x 7 1
  have l2:=Ws9 (x.s 7 1) 8 0
  have l3:=Ws9 ((x.s 7 1).s 8 0) 9 0
  have l4:=WF9 (((x.s 7 1).s 8 0).s 9 0) 90
  show ((((((x.s 7 1).s 8 0).s 9 0).pc 90).t.fr) ++ [_]).length < _
  rw [List.length_append]
  simp only [List.length_singleton]
  omega
 ·rw [if_neg c2] at k
  refine Wa0 (Zs6 H5 (by decide) (Wk4 _) O.st λh6 H6=>?_)
  refine sb ?_
  exact RunS.stR (i:=3) H6 rfl U0 λh7 H7=>RunS.stP H7 λh8 H8=>k h8 (RunS.drp (RunS.drp (RunS.none H8)))
theorem Yp1 (H:Sat h (RunS M T tv (some (b,o)) x R)) (O:Ok x) (hp:8<=x.f.pc/\x.f.pc<=9) (k:∀h',Sat h' (RunS M T tv none (WS7 x) R)->K (.tuple #[]) h') :
  Wa5 Tryz.prog 151 #[rV M T b o] h K:=by
 refine call151 ?_
 unfold F151 g151 cf ce bd lP lI nP da3 de2 dl2 dl3
 have B:=RunS.fB H
 have P:=RunS.pl H
 have hd:=O.fr
 unfold WS7 at k
 dsimp only at k
 have H1:=RunS.new H (.cells #[mP M,mP T,fP b o] 193);generalize h.push (.cells #[mP M,mP T,fP b o] 193)=h1 at *;generalize h.size=N at *
 refine sl H1 ?_
 refine Wa0 (WV3 H1 λh2 H2=>?_)
 refine sb ?_
 refine WE0 rfl (Wd1 rfl (Wd1 rfl ?_))
 have H3:=RunS.new H2 (.cells #[iQ 0,iQ 0] 282)
 generalize h2.push (.cells #[iQ 0,iQ 0] 282)=h3 at *
 generalize h2.size=N2 at *
 refine stR (RunS.loc H3) rfl trivial λh4 w4=>stR w4.new rfl trivial λh5 w5=>?_
 have H5:=RunS.wr (RunS.wr H3 w4.new w4.old) w5.new w5.old
 clear H1 H2 H3 w4 w5
 generalize hs:Yc7 x=s at *
 have O5:=RunS.loc H5
 have l0:∀F:Value->Prop,ldH h5 (aQ N2) F=F (iQ s.lo):=λF=>by unfold ldH;rw [Wc1 O5];rfl
 have l1:∀F:Value->Prop,ldH h5 ⟨N2,1,none⟩ F=F (iQ s.hi):=λF=>by unfold ldH;rw [Wc1 O5];rfl
 try simp +decide only [Wb8,bsx,Nat.reduceAdd,Int.reduceLE,Int.reduceLT,Int.reduceToNat,rsx,g_s,Wa7,RunS.l2 H5,RunS.r H5,RunS.tc H5,l0,l1]
 refine Wa3 (λc=>?_) (λc=>?_)
 ·rw [if_pos c] at k
  refine Wa0 (W28 λh6 o6=>?_)
  have H6:=RunS.old H5 o6
  have O6:=RunS.loc H6
  have m0:∀F:Value->Prop,ldH h6 (aQ N2) F=F (iQ s.lo):=λF=>by unfold ldH;rw [Wc1 O6];rfl
  have m1:∀F:Value->Prop,ldH h6 ⟨N2,1,none⟩ F=F (iQ s.hi):=λF=>by unfold ldH;rw [Wc1 O6];rfl
  try simp +decide only [Wb8,bsx,Nat.reduceAdd,Int.reduceLE,Int.reduceLT,Int.reduceToNat,rsx,g_s,Wa7,RunS.l2 H6,RunS.r H6,m0,m1]
  refine Wb6 (λc2=>?_) (λc2=>?_)
  ·rw [if_pos c2] at k
   exact RunS.stP H6 λh7 H7=>k h7 (RunS.drp (RunS.drp (RunS.none H7)))
  ·rw [if_neg (by rw [c2];simp)] at k
   refine Wa0 (WV2 λh7 o7=>?_)
   have H7:=RunS.old H6 o7
   have hm:=Y17 s
   try simp only [Wb8,bsx,Nat.reduceAdd,Int.reduceLE,Int.reduceLT,Int.reduceToNat,RunS.l2 H7]
   refine Wa0 (WV5 H7 ⟨by omega,by omega⟩ λh8 H8=>?_)
   try simp only [Wb8,bsx,Nat.reduceAdd,Int.reduceLE,Int.reduceLT,Int.reduceToNat,RunS.l2 H8]
   exact Wa0 (Wx2 H8 [YH4 x s.mid] rfl (Wn8 (Wk4 _)) rfl (by omega) λh9 b' o' _ _ H9=>k h9 (RunS.drp (RunS.drp (RunS.none H9))))
 rw [if_neg c] at k
 refine Wa3 (λc=>?_) (λc=>by omega)
 refine Wa0 (Y18 λh6 o6=>?_)
 have H6:=RunS.old H5 o6
 try simp only [Wb8,bsx,Nat.reduceAdd,Int.reduceLE,Int.reduceLT,Int.reduceToNat,RunS.l2 H6]
 refine WE0 rfl (Wd1 rfl (Wd1 rfl ?_))
 try simp only [Wb8,bsx,Nat.reduceAdd,Int.reduceLE,Int.reduceLT,Int.reduceToNat,RunS.l2 H6]
 refine Wa0 (WV4 H6 λh7 H7=>?_)
 try simp only [Wb8,bsx,Nat.reduceAdd,Int.reduceLE,Int.reduceLT,Int.reduceToNat,RunS.l2 H7]
 exact RunS.stP H7 λh8 H8=>k h8 (RunS.drp (RunS.drp (RunS.none H8)))
theorem YJ8 (H:Sat h (RunS M T tv (some (b,o)) x R)) (O:Ok x) (k:∀h',Sat h' (RunS M T tv none (YX1 x) R)->K (.tuple #[]) h') :
  Wa5 Tryz.prog 152 #[rV M T b o] h K:=by
 refine call152 ?_
 unfold F152 g152 cf bd lP lI nP da3 dc3 de2 Wm8 dl3 ce
 have B:=RunS.fB H
 have P:=RunS.pl H
 have hd:=O.fr
 have r0:=RunS.ret H 0
 have r1:=RunS.ret H 1
 unfold YX1 at k
 dsimp only at k
 have H1:=RunS.new H (.cells #[mP M,mP T,fP b o] 193);generalize h.push (.cells #[mP M,mP T,fP b o] 193)=h1 at *;generalize h.size=N at *
 refine sl H1 ?_
 refine Wa0 (WV3 H1 λh2 H2=>?_)
 refine sb ?_
 refine WE0 rfl (Wd1 rfl (Wd1 rfl ?_))
 refine sl H2 ?_
 have hsl:iN (Yc7 x).lo:=by
  have hg:=B.g 6
  have g0:=hg.1
  have g1:=hg.2
  unfold Yc7
  constructor <;> simp only <;> omega
 refine Wa0 (WV5 H2 hsl λh3 H3=>?_)
 refine sl H3 ?_
 refine Wa0 (Wi2 3 rfl H3 λh4 H4=>?_)
 clear H1 H2 H3
 have hpl:U (YH4 x (Yc7 x).lo):=Wk4 _
 generalize YH4 x (Yc7 x).lo=place at *
 try simp +decide only [Wb8,bsx,Nat.reduceAdd,Int.reduceLE,Int.reduceLT,Int.reduceToNat,rsx,g_s,Wa7,RunS.l H4,RunS.r H4,RunS.tc H4]
 refine Wa3 (λc=>?_) (λc=>?_)
 ·rw [if_pos c] at k
  exact Wa0 (Wx2 H4 [place] rfl (Wn8 hpl) rfl (by omega) λh5 b' o' _ _ H5=>k h5 (RunS.drp (RunS.none H5)))
 rw [if_neg c] at k
 refine Wa3 (λc=>?_) (λc=>?_)
 ·rw [if_pos c] at k
  refine Wa3 (λc2=>?_) (λc2=>?_)
  ·rw [if_pos c2] at k
   exact RunS.stR (i:=3) H4 rfl U0 λh5 H5=>RunS.stP H5 λh6 H6=>k h6 (RunS.drp (RunS.none H6))
  ·rw [if_neg c2] at k
   refine RunS.stR (i:=3) H4 rfl r0 λh5 H5=>?_
   try simp +decide only [Wb8,bsx,Nat.reduceAdd,Int.reduceLE,Int.reduceLT,Int.reduceToNat,rsx,g_s,Wa7,RunS.l H5,RunS.r H5,B.len]
   refine Wa0 (WJ8 H5 λh6 H6=>WF3 ?_)
   try simp +decide only [Wb8,bsx,Nat.reduceAdd,Int.reduceLE,Int.reduceLT,Int.reduceToNat,rsx,g_s,Wa7,RunS.l H6,RunS.c H6,B.len]
   refine Wa0 (Wf7 P (Wi8 _) (by decide) λh7 o7=>?_)
   have H7:=RunS.old H6 o7
   refine sl H7 ?_
   refine Wa0 (Wi2 3 rfl H7 λh8 H8=>?_)
   try simp +decide only [Wb8,bsx,Nat.reduceAdd,Int.reduceLE,Int.reduceLT,Int.reduceToNat,rsx,g_s,Wa7,RunS.l H8,B.len]
   refine Wa0 (Wf3 r0 ?_)
   try simp +decide only [Wb8,bsx,Nat.reduceAdd,Int.reduceLE,Int.reduceLT,Int.reduceToNat,rsx,g_s,Wa7,RunS.l H8]
   refine Wa0 (Wj3 H8 (Wc9 P _ _) (Wj4 _) O.st λh9 H9=>?_)
   refine RunS.stP H9 λh10 H10=>?_
   refine Wa3 (λc3=>?_) (λc3=>?_)
   ·rw [if_pos c3] at k
    exact RunS.stP H10 λh11 H11=>k h11 (RunS.drp (RunS.none H11))
   ·rw [if_neg c3] at k
    exact k h10 (RunS.drp (RunS.none H10))
 rw [if_neg c] at k
 refine Wa3 (λc=>?_) (λc=>?_)
 ·rw [if_pos c] at k
  refine Wa0 (Wi1 (B.g 3) ?_)
  refine ss H4 ?_
  refine Wa0 (WG8 H4 (B.g 3) O.st λh5 H5=>?_)
  refine ss H5 ?_
  exact Wa0 (WG9 H5 (show x.t.fr.length < _ by omega) λh6 H6=>k h6 (RunS.drp H6))
 have e2:Int.fdiv place 2=place / 2:=Wr1 (by omega)
 have e3:Int.tdiv place 2=place / 2:=Int.tdiv_eq_ediv_of_nonneg hpl.1
 have hu:U (place / 2):=⟨by have:=hpl.1;omega,by have:=hpl.2;have:=hpl.1;omega⟩
 rw [if_neg c] at k
 refine Wa3 (λc=>?_) (λc=>?_)
 ·rw [if_pos c] at k
  try simp only [Wb8,bsx,Nat.reduceAdd,Int.reduceLE,Int.reduceLT,Int.reduceToNat,e2,e3,hu.u64]
  try refine ⟨by decide,?_⟩
  exact Wa0 (Wx2 H4 [place / 2] rfl (Wn8 hu) rfl (by omega) λh5 b' o' _ _ H5=>k h5 (RunS.drp (RunS.none H5)))
 rw [if_neg c] at k
 refine Wa3 (λc=>?_) (λc=>?_)
 ·rw [if_pos c] at k
  refine Wa3 (λc2=>?_) (λc2=>?_)
  ·rw [if_pos c2] at k
   exact Wa0 (WG9 H4 (by omega) λh5 H5=>k h5 (RunS.drp H5))
  ·rw [if_neg c2] at k
   refine Wa0 (Wz4 H4 λh5 H5=>?_)
   refine ss H5 ?_
   refine Wa0 (Wi1 (B.g 3) ?_)
   refine ss H5 ?_
   refine Wa0 (Wg9 (B.g 3) ?_)
   try simp +decide only [Wb8,bsx,Nat.reduceAdd,Int.reduceLE,Int.reduceLT,Int.reduceToNat,rsx,g_s,Wa7,RunS.al H5,e2,e3,hu.u64]
   refine Wa0 (Wz4 H5 λh6 H6=>?_)
   try simp +decide only [Wb8,bsx,Nat.reduceAdd,Int.reduceLE,Int.reduceLT,Int.reduceToNat,rsx,g_s,Wa7,RunS.al H6,e2,e3,hu.u64]
   refine Wa0 (ZN7 H6 (Y19 P _) (Y19 P _) Wq3 O.st λh7 H7=>?_)
   refine ss H7 ?_
   exact Wa0 (WG9 H7 (show x.t.fr.length < _ by omega) λh8 H8=>k h8 (RunS.drp H8))
 rw [if_neg c] at k
 exact k h4 (RunS.drp (RunS.none H4))
end
end
section
set_option maxRecDepth 100000
def F64 (K:kQ) (h:Wa2) (xa xb:Option Addr):Prop:=
 (cf 105 #[.pointer xb] h λa b=>Wb2 a λa=>exI λI3=>(ifB (Option.isNone a) (I3 [.bool true] b) (I3 [.bool (Option.isNone xa)] b))/\(∀(b:Value) (c:Env) (c:Wa2),(I3 [b] c)->(asBool b λb=>ifB b (K (.tuple #[]) c) (stH (Array.push c (.cells #[.pointer none,.pointer none,.pointer none] 197)) (aQ c.size) (.pointer xa) λb=>stH b ⟨c.size,1,none⟩ (.pointer xb) λb=>stH b ⟨c.size,2,none⟩ (.pointer a) λb=>exI λI11=>(nP a λd=>lI .i64 b d λd=>ifB (decide (d < 21)) (I11 [.bool true,.bool true] b) (nP a λd=>lI .i64 b d λd=>I11 [.bool (decide (d > 23)),.bool (decide (d > 23))] b))/\(∀(b d:Value) (e:Env) (e:Wa2),(I11 [b,d] e)->(asBool b λb=>ifB b (cf 112 #[.pointer xa,.pointer xb] e λb b=>K (.tuple #[]) b) (nP a λb=>lI .i64 e (Addr.add b 1) λb=>ifB (b == 90) (nP a λb=>bd 7 10 (lI .u64 e (Addr.add b 9) λb=>nP a λd=>bd 8 10 (lI .u64 e (Addr.add d 10) λd=>nP a λf=>bd 9 10 (lI .u64 e (Addr.add f 11) λf=>cf 106 #[.pointer xb,.slice (some (aQ e.size)) 3 3] (Array.push e (.cells #[uQ b,uQ d,uQ f] 178)) λb b=>K (.tuple #[]) b)))) (nP a λa=>lI .i64 e a λa=>ifB (a == 21) (dl3 e c.size λa b d=>cf 113 #[.agg #[a,b,d]] e λa a=>K (.tuple #[]) a) (dl3 e c.size λa b c=>cf 114 #[.agg #[a,b,c]] e λa a=>K (.tuple #[]) a)))))))))
theorem call64 {K:kQ} {h:Wa2} {xa xb:Option Addr} (H:F64 K h xa xb):Wa5 Tryz.prog 64 #[(.pointer xa),(.pointer xb)] h K:=
 cQ Tryz.func64 H
def F112 (K:kQ) (h:Wa2) (xa xb:Option Addr):Prop:=
 (cf 105 #[.pointer xb] h λa b=>Wb2 a λa=>exI λI3=>(ifB (Option.isNone a) (I3 [.bool true,.bool true] b) (I3 [.bool (Option.isNone xa),.bool (Option.isNone xa)] b))/\(∀(b c:Value) (d:Env) (d:Wa2),(I3 [b,c] d)->(asBool b λb=>ifB b (K (.tuple #[]) d) (nP a λb=>lI .i64 d b λb=>ifB (b == 20) (cf 166 #[.agg #[.pointer xa,.pointer xb,.pointer a]] d λa a=>K (.tuple #[]) a) (cf 111 #[.pointer xa,.pointer xb] d λa a=>K (.tuple #[]) a)))))
theorem call112 {K:kQ} {h:Wa2} {xa xb:Option Addr} (H:F112 K h xa xb):Wa5 Tryz.prog 112 #[(.pointer xa),(.pointer xb)] h K:=
 cQ Tryz.func112 H
abbrev g113 (K:kQ) (h H1:Wa2):Prop:=
 (lP H1 (Addr.add (aQ h.size) 2) λa=>nP a λa=>lI .i64 H1 (Addr.add a 1) λa=>ifB (decide (a<=2)) (dl3 H1 h.size λa b c=>cf 167 #[.agg #[a,b,c]] H1 λa a=>K (.tuple #[]) a) (lP H1 (Addr.add (aQ h.size) 2) λa=>nP a λa=>lI .i64 H1 (Addr.add a 1) λa=>ifB (decide (a<=7)) (dl3 H1 h.size λa b c=>cf 168 #[.agg #[a,b,c]] H1 λa a=>K (.tuple #[]) a) (lP H1 (Addr.add (aQ h.size) 2) λa=>nP a λa=>lI .i64 H1 (Addr.add a 1) λa=>ifB (decide (a<=11)) (dl3 H1 h.size λa b c=>cf 169 #[.agg #[a,b,c]] H1 λa a=>K (.tuple #[]) a) (lP H1 (Addr.add (aQ h.size) 2) λa=>nP a λa=>lI .i64 H1 (Addr.add a 1) λa=>ifB (decide (a<=14)) (dl3 H1 h.size λa b c=>cf 170 #[.agg #[a,b,c]] H1 λa a=>K (.tuple #[]) a) (dl3 H1 h.size λa b c=>cf 171 #[.agg #[a,b,c]] H1 λa a=>K (.tuple #[]) a)))))
def F113 (K:kQ) (h:Wa2) (xa xb xc:Option Addr):Prop:=
 (g113 K h (Array.push h (.cells #[.pointer xa,.pointer xb,.pointer xc] 199)))
theorem call113 {K:kQ} {h:Wa2} {xa xb xc:Option Addr} (H:F113 K h xa xb xc):Wa5 Tryz.prog 113 #[(.agg #[(.pointer xa),(.pointer xb),(.pointer xc)])] h K:=
 cQ Tryz.func113 H
abbrev g114 (K:kQ) (h H1:Wa2):Prop:=
 (lP H1 (Addr.add (aQ h.size) 2) λa=>nP a λa=>lI .i64 H1 (Addr.add a 1) λa=>ifB (decide (a<=3)) (dl3 H1 h.size λa b c=>cf 172 #[.agg #[a,b,c]] H1 λa a=>K (.tuple #[]) a) (lP H1 (Addr.add (aQ h.size) 2) λa=>nP a λa=>lI .i64 H1 (Addr.add a 1) λa=>ifB (decide (a<=6)) (dl3 H1 h.size λa b c=>cf 173 #[.agg #[a,b,c]] H1 λa a=>K (.tuple #[]) a) (lP H1 (Addr.add (aQ h.size) 2) λa=>nP a λa=>lI .i64 H1 (Addr.add a 1) λa=>ifB (decide (a<=8)) (dl3 H1 h.size λa b c=>cf 174 #[.agg #[a,b,c]] H1 λa a=>K (.tuple #[]) a) (dl3 H1 h.size λa b c=>cf 175 #[.agg #[a,b,c]] H1 λa a=>K (.tuple #[]) a))))
def F114 (K:kQ) (h:Wa2) (xa xb xc:Option Addr):Prop:=
 (g114 K h (Array.push h (.cells #[.pointer xa,.pointer xb,.pointer xc] 200)))
theorem call114 {K:kQ} {h:Wa2} {xa xb xc:Option Addr} (H:F114 K h xa xb xc):Wa5 Tryz.prog 114 #[(.agg #[(.pointer xa),(.pointer xb),(.pointer xc)])] h K:=
 cQ Tryz.func114 H
abbrev g166 (K:kQ) (h H1:Wa2):Prop:=
 (lP H1 (Addr.add (aQ h.size) 2) λa=>nP a λb=>lI .i64 H1 (Addr.add b 1) λb=>ifB (b == 0) (dl3 H1 h.size λc d e=>cf 242 #[.agg #[c,d,e]] H1 λc c=>K (.tuple #[]) c) (ifB (b == 1) (ldH H1 (aQ h.size) λc=>Wb2 c λd=>lP H1 (aQ h.size) λe=>ldH H1 (Addr.add (aQ h.size) 1) λf=>Wb2 f λg=>nP g λg=>ldH H1 g λi=>asInt .i64 i λj=>da3 H1 (aQ h.size) λk l m=>nP a λn=>bd 2 10 (ldH H1 (Addr.add n 4) λo=>asInt .u64 o λp=>cf 79 #[.pointer e] H1 λe q=>asAgg e λe=>We2 e 15 (Wm8 e λe r s t u v w x y z A B C D E=>((Wa1 q (Addr.add n 4))=(some o))/\(ce q h.size 0 k (((Wa1 q (Addr.add (aQ h.size) 1))=(some l))/\(((Wa1 q (Addr.add (aQ h.size) 2))=(some m))/\(((Wa1 q g)=(some i))/\(((Wa1 q (Addr.add (aQ h.size) 1))=(some f))/\(ce q h.size 0 c (cf 243 #[.agg #[k,l,m]] q λk l=>asInt .i64 k λk=>((Wa1 l (Addr.add n 4))=(some o))/\(((Wa1 l g)=(some i))/\(((Wa1 l (Addr.add (aQ h.size) 1))=(some f))/\(ce l h.size 0 c (cf 232 #[.agg #[e,r,s,t,u,v,w,x,y,z,A,B,C,D,E],iQ j,iQ (IntKind.wrap .i64 (2*k))] l λe f=>asInt .i64 e λe=>((Wa1 f (Addr.add n 4))=(some o))/\(ce f h.size 0 c (cf 212 #[.pointer d,iQ e,uQ p] f λc c=>nP a λd=>stH c (Addr.add d 1) (iQ 2) λc=>K (.tuple #[]) c)))))))))))))))) (ifB (b == 2) (dl3 H1 h.size λc d e=>ldH H1 (aQ h.size) λf=>Wb2 f λg=>da3 H1 (aQ h.size) λi j k=>nP a λl=>bd 2 10 (lI .u64 H1 (Addr.add l 4) λl=>cf 245 #[.agg #[i,j,k],uQ l] H1 λi j=>asInt .i64 i λi=>ce j h.size 0 f (dc3 j h.size c d e (cf 147 #[.pointer g,iQ i] j λf g=>asInt .u64 f λf=>ce g h.size 0 c (ce g h.size 1 d (ce g h.size 2 e (cf 244 #[.agg #[c,d,e],uQ f] g λc c=>K (.tuple #[]) c))))))) (ifB (b == 8) (ldH H1 (aQ h.size) λb=>Wb2 b λc=>lP H1 (aQ h.size) λd=>nP a λe=>bd 2 10 (ldH H1 (Addr.add e 4) λf=>asInt .u64 f λg=>cf 79 #[.pointer d] H1 λd i=>asAgg d λd=>We2 d 15 (Wm8 d λd j k l m n o p q r s t u v w=>((Wa1 i (Addr.add e 4))=(some f))/\(ce i h.size 0 b (cf 143 #[.agg #[d,j,k,l,m,n,o,p,q,r,s,t,u,v,w],iQ (IntKind.wrap .i64 g),iQ 4] i λd e=>asInt .i64 d λd=>ce e h.size 0 b (cf 147 #[.pointer c,iQ d] e λb c=>asInt .u64 b λb=>nP a λa=>stH c (Addr.add a 1) (iQ 0) λa=>K (.tuple #[]) a)))))) (dl3 H1 h.size λa b c=>cf 246 #[.agg #[a,b,c]] H1 λa a=>K (.tuple #[]) a)))))
def F166 (K:kQ) (h:Wa2) (xa xb xc:Option Addr):Prop:=
 (g166 K h (Array.push h (.cells #[.pointer xa,.pointer xb,.pointer xc] 250)))
theorem call166 {K:kQ} {h:Wa2} {xa xb xc:Option Addr} (H:F166 K h xa xb xc):Wa5 Tryz.prog 166 #[(.agg #[(.pointer xa),(.pointer xb),(.pointer xc)])] h K:=
 cQ Tryz.func166 H
abbrev g167 (K:kQ) (h H1:Wa2):Prop:=
 (lP H1 (Addr.add (aQ h.size) 2) λa=>nP a λb=>lI .i64 H1 (Addr.add b 1) λb=>ifB (b == 0) (da3 H1 (aQ h.size) λc d e=>cf 247 #[.agg #[c,d,e],iQ 1,iQ 1,.slice none 0 0] H1 λc c=>K (.tuple #[]) c) (ifB (b == 1) (lP H1 (Addr.add (aQ h.size) 1) λc=>nP c λc=>bd 0 3 (lI .u64 H1 (Addr.add c 2) λc=>nP a λd=>bd 2 10 (stH H1 (Addr.add d 4) (uQ c) λc=>nP a λd=>bd 2 10 (lI .u64 c (Addr.add d 4) λd=>ifB (d != 0) (nP a λd=>stH c (Addr.add d 1) (iQ 2) λd=>K (.tuple #[]) d) (exI λI22=>(nP a λd=>bd 5 10 (lI .u64 c (Addr.add d 7) λd=>ifB (d == 0) (lP c (Addr.add (aQ h.size) 1) λd=>nP d λd=>cf 211 #[.pointer (some (Addr.add d 8))] c λd e=>asInt .i64 d λd=>I22 [.bool (decide (d > 0)),.bool (decide (d > 0))] e) (I22 [.bool false,.bool false] c)))/\(∀(c d:Value) (e:Env) (e:Wa2),(I22 [c,d] e)->(asBool c λc=>ifB c (nP a λc=>bd 5 10 (stH e (Addr.add c 7) (uQ 1) λc=>da3 c (aQ h.size) λd f g=>cf 247 #[.agg #[d,f,g],iQ 0,iQ 6,.slice none 0 0] c λc c=>K (.tuple #[]) c)) (da3 e (aQ h.size) λc d f=>cf 248 #[.agg #[c,d,f],uQ 1,uQ 0,uQ 0] e λc c=>K (.tuple #[]) c)))))))) (ifB (b == 2) (nP a λb=>bd 0 10 (ldH H1 (Addr.add b 2) λc=>asInt .u64 c λd=>lP H1 (aQ h.size) λe=>nP a λf=>cf 188 #[.pointer e,iQ 3,uQ 1] H1 λe g=>asInt .u64 e λe=>((Wa1 g (Addr.add b 2))=(some c))/\(cf 249 #[.int .u32 (IntKind.wrap .u32 d),.int .u32 (IntKind.wrap .u32 e)] g λb c=>asInt .u64 b λb=>bd 4 10 (stH c (Addr.add f 6) (uQ b) λb=>lP b (aQ h.size) λc=>ldH b (aQ h.size) λd=>Wb2 d λe=>nP a λf=>cf 214 #[.pointer c] b λb c=>Wb2 b λb=>ce c h.size 0 d (cf 79 #[.pointer e] c λc d=>asAgg c λc=>We2 c 15 (Wm8 c λc e g i j k l m n o p q r s t=>cf 139 #[.agg #[c,e,g,i,j,k,l,m,n,o,p,q,r,s,t]] d λc d=>asAgg c λc=>We2 c 7 (de7 c λc c c c e e e=>asInt .i64 c λc=>cf 250 #[.pointer b,iQ c] d λb c=>asInt .i64 b λb=>bd 3 10 (stH c (Addr.add f 5) (uQ (IntKind.wrap .u64 b)) λb=>nP a λa=>stH b (Addr.add a 1) (iQ 3) λa=>K (.tuple #[]) a)))))))) (K (.tuple #[]) H1))))
def F167 (K:kQ) (h:Wa2) (xa xb xc:Option Addr):Prop:=
 (g167 K h (Array.push h (.cells #[.pointer xa,.pointer xb,.pointer xc] 199)))
theorem call167 {K:kQ} {h:Wa2} {xa xb xc:Option Addr} (H:F167 K h xa xb xc):Wa5 Tryz.prog 167 #[(.agg #[(.pointer xa),(.pointer xb),(.pointer xc)])] h K:=
 cQ Tryz.func167 H
abbrev g168 (K:kQ) (h H1:Wa2):Prop:=
 (lP H1 (Addr.add (aQ h.size) 2) λa=>nP a λb=>bd 2 10 (lI .u64 H1 (Addr.add b 4) λb=>exI λI5=>(nP a λc=>lI .i64 H1 (Addr.add c 1) λc=>ifB (c == 3) (ldH H1 (aQ h.size) λd=>Wb2 d λe=>da3 H1 (aQ h.size) λf g i=>nP a λj=>bd 4 10 (ldH H1 (Addr.add j 6) λk=>asInt .u64 k λl=>cf 251 #[.agg #[f,g,i],uQ b,iQ 0] H1 λf g=>asInt .i64 f λf=>((Wa1 g (Addr.add j 6))=(some k))/\(ce g h.size 0 d (cf 212 #[.pointer e,iQ f,uQ l] g λd d=>I5 [.bool true,.tuple #[],.tuple #[],.tuple #[],.tuple #[]] d)))) (ifB (c == 4) (ldH H1 (aQ h.size) λd=>Wb2 d λe=>da3 H1 (aQ h.size) λf g i=>nP a λj=>bd 1 10 (ldH H1 (Addr.add j 3) λk=>asInt .u64 k λl=>cf 251 #[.agg #[f,g,i],uQ b,iQ 1] H1 λf g=>asInt .i64 f λf=>((Wa1 g (Addr.add j 3))=(some k))/\(ce g h.size 0 d (cf 252 #[.int .u32 (IntKind.wrap .u32 l),.bool false] g λg i=>asInt .u64 g λg=>ce i h.size 0 d (cf 212 #[.pointer e,iQ f,uQ g] i λd d=>I5 [.bool false,.bool true,.tuple #[],.tuple #[],.tuple #[]] d))))) (ifB (c == 5) (ldH H1 (aQ h.size) λd=>Wb2 d λe=>da3 H1 (aQ h.size) λf g i=>cf 251 #[.agg #[f,g,i],uQ b,iQ 2] H1 λf g=>asInt .i64 f λf=>ce g h.size 0 d (cf 212 #[.pointer e,iQ f,uQ 2] g λd d=>I5 [.bool false,.bool false,.bool true,.tuple #[],.tuple #[]] d)) (ifB (c == 6) (ldH H1 (aQ h.size) λd=>Wb2 d λe=>da3 H1 (aQ h.size) λf g i=>nP a λj=>bd 3 10 (ldH H1 (Addr.add j 5) λk=>asInt .u64 k λl=>cf 251 #[.agg #[f,g,i],uQ b,iQ 3] H1 λf g=>asInt .i64 f λf=>((Wa1 g (Addr.add j 5))=(some k))/\(ce g h.size 0 d (cf 212 #[.pointer e,iQ f,uQ l] g λd d=>I5 [.bool false,.bool false,.bool false,.bool true,.tuple #[]] d)))) (ifB (c == 7) (ldH H1 (aQ h.size) λc=>Wb2 c λd=>da3 H1 (aQ h.size) λe f g=>cf 251 #[.agg #[e,f,g],uQ b,iQ 4] H1 λb e=>asInt .i64 b λb=>ce e h.size 0 c (cf 212 #[.pointer d,iQ b,uQ 0] e λb b=>I5 [.bool false,.bool false,.bool false,.bool false,.bool true] b)) (I5 [.bool false,.bool false,.bool false,.bool false,.bool false] H1))))))/\(∀(b c d e f:Value) (g:Env) (g:Wa2),(I5 [b,c,d,e,f] g)->(nP a λb=>lI .i64 g (Addr.add b 1) λb=>nP a λa=>stH g (Addr.add a 1) (iQ (IntKind.wrap .i64 (b+1))) λa=>K (.tuple #[]) a))))
def F168 (K:kQ) (h:Wa2) (xa xb xc:Option Addr):Prop:=
 (g168 K h (Array.push h (.cells #[.pointer xa,.pointer xb,.pointer xc] 199)))
theorem call168 {K:kQ} {h:Wa2} {xa xb xc:Option Addr} (H:F168 K h xa xb xc):Wa5 Tryz.prog 168 #[(.agg #[(.pointer xa),(.pointer xb),(.pointer xc)])] h K:=
 cQ Tryz.func168 H
abbrev g169 (K:kQ) (h H1:Wa2):Prop:=
 (lP H1 (Addr.add (aQ h.size) 2) λa=>nP a λb=>bd 2 10 (lI .u64 H1 (Addr.add b 4) λb=>nP a λc=>bd 5 10 (lI .u64 H1 (Addr.add c 7) λc=>nP a λd=>lI .i64 H1 (Addr.add d 1) λd=>ifB (d == 8) (nP a λe=>bd 5 10 (stH H1 (Addr.add e 7) (uQ 0) λe=>da3 e (aQ h.size) λf g i=>nP a λj=>bd 4 10 (lI .u64 e (Addr.add j 6) λj=>((Wa1 (Array.push e (.cells #[uQ j] 178)) (aQ h.size))=(some f))/\(((Wa1 (Array.push e (.cells #[uQ j] 178)) (Addr.add (aQ h.size) 1))=(some g))/\(((Wa1 (Array.push e (.cells #[uQ j] 178)) (Addr.add (aQ h.size) 2))=(some i))/\(cf 247 #[.agg #[f,g,i],iQ 9,iQ 20,.slice (some (aQ e.size)) 1 1] (Array.push e (.cells #[uQ j] 178)) λe e=>K (.tuple #[]) e)))))) (ifB (d == 9) (ldH H1 (aQ h.size) λe=>Wb2 e λf=>da3 H1 (aQ h.size) λg i j=>nP a λk=>cf 253 #[.agg #[g,i,j],uQ b,uQ c] H1 λg i=>asInt .i64 g λg=>ce i h.size 0 e (cf 147 #[.pointer f,iQ g] i λe f=>asInt .u64 e λe=>bd 6 10 (stH f (Addr.add k 8) (uQ e) λe=>nP a λf=>stH e (Addr.add f 1) (iQ 10) λe=>K (.tuple #[]) e))) (ifB (d == 10) (ldH H1 (aQ h.size) λe=>Wb2 e λf=>da3 H1 (aQ h.size) λg i j=>nP a λk=>bd 6 10 (ldH H1 (Addr.add k 8) λl=>asInt .u64 l λm=>ldH H1 (Addr.add (aQ h.size) 1) λn=>Wb2 n λo=>nP o λo=>ldH H1 (Addr.add o 6) λp=>Wb3 p λq r s=>bd c (r:Int) (Wd2 (.pointer q) λq=>ldH H1 (Addr.add q (c.toNat*1)) λr=>asInt .u64 r λs=>cf 253 #[.agg #[g,i,j],uQ b,uQ c] H1 λg i=>asInt .i64 g λg=>((Wa1 i (Addr.add q (c.toNat*1)))=(some r))/\(((Wa1 i (Addr.add o 6))=(some p))/\(((Wa1 i (Addr.add (aQ h.size) 1))=(some n))/\(((Wa1 i (Addr.add k 8))=(some l))/\(ce i h.size 0 e (cf 228 #[uQ m,iQ (IntKind.wrap .i64 s),.bool false] i λc i=>asInt .u64 c λc=>ce i h.size 0 e (cf 212 #[.pointer f,iQ g,uQ c] i λc c=>nP a λe=>bd 5 10 (lI .u64 c (Addr.add e 7) λe=>nP a λf=>bd 5 10 (stH c (Addr.add f 7) (uQ (IntKind.wrap .u64 (e+1))) λc=>nP a λe=>stH c (Addr.add e 1) (iQ 9) λc=>nP a λe=>bd 5 10 (lI .u64 c (Addr.add e 7) λe=>nP a λf=>bd 3 10 (lI .u64 c (Addr.add f 5) λf=>ifB (decide (e >= f)) (nP a λe=>stH c (Addr.add e 1) (iQ 11) λe=>K (.tuple #[]) e) (K (.tuple #[]) c)))))))))))))) (ifB (d == 11) (nP a λc=>bd 5 10 (stH H1 (Addr.add c 7) (uQ 1) λc=>nP a λd=>stH c (Addr.add d 1) (iQ 8) λc=>da3 c (aQ h.size) λd e f=>da3 c (aQ h.size) λg i j=>lP c (Addr.add (aQ h.size) 1) λk=>nP k λk=>lS c (Addr.add k 5) λk l m=>bd 0 (l:Int) (Wd2 (.pointer k) λk=>lI .u64 c k λk=>ldH c (Addr.add (aQ h.size) 1) λl=>Wb2 l λm=>nP m λm=>ldH c (Addr.add m 7) λn=>Wb3 n λo p q=>bd 0 (p:Int) (Wd2 (.pointer o) λo=>ldH c o λp=>asInt .u64 p λq=>cf 253 #[.agg #[g,i,j],uQ k,uQ 0] c λc g=>asInt .i64 c λc=>((Wa1 g o)=(some p))/\(((Wa1 g (Addr.add m 7))=(some n))/\(((Wa1 g (Addr.add (aQ h.size) 1))=(some l))/\(ce g h.size 0 d (((Wa1 g (Addr.add (aQ h.size) 1))=(some e))/\(((Wa1 g (Addr.add (aQ h.size) 2))=(some f))/\(cf 254 #[.agg #[d,e,f],iQ c,uQ q,uQ b] g λb c=>asBool b λb=>ifB b (nP a λa=>stH c (Addr.add a 1) (iQ 12) λa=>K (.tuple #[]) a) (K (.tuple #[]) c))))))))))) (K (.tuple #[]) H1)))))))
def F169 (K:kQ) (h:Wa2) (xa xb xc:Option Addr):Prop:=
 (g169 K h (Array.push h (.cells #[.pointer xa,.pointer xb,.pointer xc] 199)))
theorem call169 {K:kQ} {h:Wa2} {xa xb xc:Option Addr} (H:F169 K h xa xb xc):Wa5 Tryz.prog 169 #[(.agg #[(.pointer xa),(.pointer xb),(.pointer xc)])] h K:=
 cQ Tryz.func169 H
abbrev g170 (K:kQ) (h H1:Wa2):Prop:=
 (lP H1 (Addr.add (aQ h.size) 2) λa=>nP a λb=>bd 2 10 (lI .u64 H1 (Addr.add b 4) λb=>nP a λc=>bd 5 10 (lI .u64 H1 (Addr.add c 7) λc=>nP a λd=>lI .i64 H1 (Addr.add d 1) λd=>ifB (d == 12) (nP a λe=>bd 3 10 (lI .u64 H1 (Addr.add e 5) λe=>ifB (decide (c >= e)) (nP a λe=>stH H1 (Addr.add e 1) (iQ 15) λe=>K (.tuple #[]) e) (ldH H1 (aQ h.size) λe=>Wb2 e λf=>da3 H1 (aQ h.size) λg i j=>nP a λk=>cf 253 #[.agg #[g,i,j],uQ b,uQ c] H1 λg i=>asInt .i64 g λg=>ce i h.size 0 e (cf 147 #[.pointer f,iQ g] i λe f=>asInt .u64 e λe=>bd 6 10 (stH f (Addr.add k 8) (uQ e) λe=>nP a λf=>bd 6 10 (lI .u64 e (Addr.add f 8) λf=>cf 255 #[uQ f] e λe f=>asBool e λe=>ifB e (nP a λe=>stH f (Addr.add e 1) (iQ 15) λe=>K (.tuple #[]) e) (nP a λe=>bd 6 10 (lI .u64 f (Addr.add e 8) λe=>ldH f (Addr.add (aQ h.size) 1) λg=>Wb2 g λi=>nP i λi=>ldH f (Addr.add i 6) λj=>Wb3 j λk l m=>bd c (l:Int) (Wd2 (.pointer k) λk=>ldH f (Addr.add k (c.toNat*1)) λl=>asInt .u64 l λm=>cf 256 #[uQ e] f λe f=>asInt .u64 e λe=>((Wa1 f (Addr.add k (c.toNat*1)))=(some l))/\(((Wa1 f (Addr.add i 6))=(some j))/\(((Wa1 f (Addr.add (aQ h.size) 1))=(some g))/\(ifB (e != m) (nP a λe=>stH f (Addr.add e 1) (iQ 13) λe=>K (.tuple #[]) e) (nP a λe=>stH f (Addr.add e 1) (iQ 14) λe=>K (.tuple #[]) e))))))))))))) (ifB (d == 13) (da3 H1 (aQ h.size) λe f g=>da3 H1 (aQ h.size) λi j k=>nP a λl=>bd 6 10 (ldH H1 (Addr.add l 8) λm=>asInt .u64 m λn=>ldH H1 (Addr.add (aQ h.size) 1) λo=>Wb2 o λp=>nP p λp=>ldH H1 (Addr.add p 6) λq=>Wb3 q λr s t=>bd c (s:Int) (Wd2 (.pointer r) λr=>ldH H1 (Addr.add r (c.toNat*1)) λs=>asInt .u64 s λt=>cf 253 #[.agg #[i,j,k],uQ b,uQ c] H1 λi j=>asInt .i64 i λi=>((Wa1 j (Addr.add r (c.toNat*1)))=(some s))/\(((Wa1 j (Addr.add p 6))=(some q))/\(((Wa1 j (Addr.add (aQ h.size) 1))=(some o))/\(((Wa1 j (Addr.add l 8))=(some m))/\(ce j h.size 0 e (((Wa1 j (Addr.add (aQ h.size) 1))=(some f))/\(((Wa1 j (Addr.add (aQ h.size) 2))=(some g))/\(cf 254 #[.agg #[e,f,g],iQ i,uQ n,uQ t] j λe f=>asBool e λe=>nP a λe=>stH f (Addr.add e 1) (iQ 12) λe=>K (.tuple #[]) e)))))))))) (ifB (d == 14) (da3 H1 (aQ h.size) λd e f=>da3 H1 (aQ h.size) λg i j=>lP H1 (Addr.add (aQ h.size) 1) λk=>nP k λk=>lS H1 (Addr.add k 5) λk l m=>bd c (l:Int) (Wd2 (.pointer k) λk=>lI .u64 H1 (Addr.add k (c.toNat*1)) λk=>ldH H1 (Addr.add (aQ h.size) 1) λl=>Wb2 l λm=>nP m λm=>ldH H1 (Addr.add m 7) λn=>Wb3 n λo p q=>bd c (p:Int) (Wd2 (.pointer o) λo=>ldH H1 (Addr.add o (c.toNat*1)) λp=>asInt .u64 p λq=>cf 253 #[.agg #[g,i,j],uQ k,uQ c] H1 λg i=>asInt .i64 g λg=>((Wa1 i (Addr.add o (c.toNat*1)))=(some p))/\(((Wa1 i (Addr.add m 7))=(some n))/\(((Wa1 i (Addr.add (aQ h.size) 1))=(some l))/\(ce i h.size 0 d (((Wa1 i (Addr.add (aQ h.size) 1))=(some e))/\(((Wa1 i (Addr.add (aQ h.size) 2))=(some f))/\(cf 254 #[.agg #[d,e,f],iQ g,uQ q,uQ b] i λb c=>asBool b λb=>ifB b (nP a λb=>bd 5 10 (lI .u64 c (Addr.add b 7) λb=>nP a λd=>bd 5 10 (stH c (Addr.add d 7) (uQ (IntKind.wrap .u64 (b+1))) λb=>nP a λd=>stH b (Addr.add d 1) (iQ 12) λb=>K (.tuple #[]) b))) (da3 c (aQ h.size) λb d e=>nP a λa=>bd 4 10 (lI .u64 c (Addr.add a 6) λa=>((Wa1 (Array.push c (.cells #[uQ a] 178)) (aQ h.size))=(some b))/\(((Wa1 (Array.push c (.cells #[uQ a] 178)) (Addr.add (aQ h.size) 1))=(some d))/\(((Wa1 (Array.push c (.cells #[uQ a] 178)) (Addr.add (aQ h.size) 2))=(some e))/\(cf 247 #[.agg #[b,d,e],iQ 12,iQ 20,.slice (some (aQ c.size)) 1 1] (Array.push c (.cells #[uQ a] 178)) λa a=>K (.tuple #[]) a)))))))))))))) (K (.tuple #[]) H1))))))
def F170 (K:kQ) (h:Wa2) (xa xb xc:Option Addr):Prop:=
 (g170 K h (Array.push h (.cells #[.pointer xa,.pointer xb,.pointer xc] 199)))
theorem call170 {K:kQ} {h:Wa2} {xa xb xc:Option Addr} (H:F170 K h xa xb xc):Wa5 Tryz.prog 170 #[(.agg #[(.pointer xa),(.pointer xb),(.pointer xc)])] h K:=
 cQ Tryz.func170 H
abbrev g171 (K:kQ) (h H1:Wa2):Prop:=
 (lP H1 (Addr.add (aQ h.size) 2) λa=>nP a λb=>lI .i64 H1 (Addr.add b 1) λb=>ifB (b == 15) (da3 H1 (aQ h.size) λc d e=>nP a λf=>bd 2 10 (lI .u64 H1 (Addr.add f 4) λf=>cf 257 #[.agg #[c,d,e],uQ f] H1 λc d=>asBool c λc=>ifB c (da3 d (aQ h.size) λc e f=>nP a λg=>bd 4 10 (lI .u64 d (Addr.add g 6) λg=>((Wa1 (Array.push d (.cells #[uQ g] 178)) (aQ h.size))=(some c))/\(((Wa1 (Array.push d (.cells #[uQ g] 178)) (Addr.add (aQ h.size) 1))=(some e))/\(((Wa1 (Array.push d (.cells #[uQ g] 178)) (Addr.add (aQ h.size) 2))=(some f))/\(cf 247 #[.agg #[c,e,f],iQ 17,iQ 20,.slice (some (aQ d.size)) 1 1] (Array.push d (.cells #[uQ g] 178)) λc c=>K (.tuple #[]) c))))) (nP a λc=>stH d (Addr.add c 1) (iQ 16) λc=>K (.tuple #[]) c))) (ifB (b == 17) (da3 H1 (aQ h.size) λb c d=>nP a λa=>bd 2 10 (lI .u64 H1 (Addr.add a 4) λa=>((Wa1 (Array.push H1 (.cells #[uQ a] 178)) (aQ h.size))=(some b))/\(((Wa1 (Array.push H1 (.cells #[uQ a] 178)) (Addr.add (aQ h.size) 1))=(some c))/\(((Wa1 (Array.push H1 (.cells #[uQ a] 178)) (Addr.add (aQ h.size) 2))=(some d))/\(cf 247 #[.agg #[b,c,d],iQ 16,iQ 5,.slice (some (aQ H1.size)) 1 1] (Array.push H1 (.cells #[uQ a] 178)) λa a=>K (.tuple #[]) a))))) (da3 H1 (aQ h.size) λa b c=>cf 248 #[.agg #[a,b,c],uQ 0,uQ 0,uQ 0] H1 λa a=>K (.tuple #[]) a)))
def F171 (K:kQ) (h:Wa2) (xa xb xc:Option Addr):Prop:=
 (g171 K h (Array.push h (.cells #[.pointer xa,.pointer xb,.pointer xc] 199)))
theorem call171 {K:kQ} {h:Wa2} {xa xb xc:Option Addr} (H:F171 K h xa xb xc):Wa5 Tryz.prog 171 #[(.agg #[(.pointer xa),(.pointer xb),(.pointer xc)])] h K:=
 cQ Tryz.func171 H
abbrev q172_1 (h37:Wa2) (n35 n38:Int):Wa2:=(Array.push h37 (.cells #[(uQ (IntKind.wrap .u64 (IntKind.wrap .i64 (n35 - 2)))),(uQ (IntKind.wrap .u64 n38))] 178))
abbrev g172 (K:kQ) (h H1:Wa2):Prop:=
 (lP H1 (Addr.add (aQ h.size) 2) λa=>nP a λb=>lI .i64 H1 (Addr.add b 1) λb=>ifB (b == 0) (nP a λc=>bd 6 10 (stH H1 (Addr.add c 8) (uQ 0) λc=>da3 c (aQ h.size) λd e f=>lP c (aQ h.size) λg=>da3 c (aQ h.size) λi j k=>cf 79 #[.pointer g] c λc g=>asAgg c λc=>We2 c 15 (Wm8 c λc l m n o p q r s t u v w x y=>ce g h.size 0 i (((Wa1 g (Addr.add (aQ h.size) 1))=(some j))/\(((Wa1 g (Addr.add (aQ h.size) 2))=(some k))/\(ce g h.size 0 d (((Wa1 g (Addr.add (aQ h.size) 1))=(some e))/\(((Wa1 g (Addr.add (aQ h.size) 2))=(some f))/\(cf 233 #[.agg #[c,l,m,n,o,p,q,r,s,t,u,v,w,x,y]] g λc g=>asInt .i64 c λc=>ce g h.size 0 i (((Wa1 g (Addr.add (aQ h.size) 1))=(some j))/\(((Wa1 g (Addr.add (aQ h.size) 2))=(some k))/\(ce g h.size 0 d (((Wa1 g (Addr.add (aQ h.size) 1))=(some e))/\(((Wa1 g (Addr.add (aQ h.size) 2))=(some f))/\(cf 253 #[.agg #[i,j,k],uQ 1,uQ 0] g λg i=>asInt .i64 g λg=>ce i h.size 0 d (((Wa1 i (Addr.add (aQ h.size) 1))=(some e))/\(((Wa1 i (Addr.add (aQ h.size) 2))=(some f))/\(ce (q172_1 i c g) h.size 0 d (((Wa1 (q172_1 i c g) (Addr.add (aQ h.size) 1))=(some e))/\(((Wa1 (q172_1 i c g) (Addr.add (aQ h.size) 2))=(some f))/\(cf 247 #[.agg #[d,e,f],iQ 1,iQ 3,.slice (some (aQ i.size)) 2 2] (q172_1 i c g) λc c=>K (.tuple #[]) c))))))))))))))))))))) (ifB (b == 1) (ldH H1 (Addr.add (aQ h.size) 1) λc=>Wb2 c λd=>nP d λd=>bd 0 3 (ldH H1 (Addr.add d 2) λe=>asInt .u64 e λf=>lP H1 (Addr.add (aQ h.size) 1) λg=>nP g λg=>bd 0 3 (lI .u64 H1 (Addr.add g 2) λg=>nP a λi=>nP a λj=>cf 256 #[uQ g] H1 λg k=>asInt .u64 g λg=>((Wa1 k (Addr.add d 2))=(some e))/\(((Wa1 k (Addr.add (aQ h.size) 1))=(some c))/\(bd 0 10 (stH k (Addr.add i 2) (uQ f) λc=>bd 1 10 (stH c (Addr.add j 3) (uQ g) λc=>nP a λd=>stH c (Addr.add d 1) (iQ 2) λc=>nP a λd=>bd 1 10 (lI .u64 c (Addr.add d 3) λd=>ifB (d == 2) (da3 c (aQ h.size) λd e f=>cf 248 #[.agg #[d,e,f],uQ 3,uQ 0,uQ 0] c λd d=>K (.tuple #[]) d) (K (.tuple #[]) c))))))))) (ifB (b == 2) (ldH H1 (aQ h.size) λc=>Wb2 c λd=>da3 H1 (aQ h.size) λe f g=>nP a λi=>bd 1 10 (lI .u64 H1 (Addr.add i 3) λi=>nP a λj=>cf 251 #[.agg #[e,f,g],uQ i,iQ 1] H1 λe f=>asInt .i64 e λe=>ce f h.size 0 c (cf 147 #[.pointer d,iQ e] f λc d=>asInt .u64 c λc=>bd 3 10 (stH d (Addr.add j 5) (uQ c) λc=>nP a λd=>stH c (Addr.add d 1) (iQ 3) λc=>nP a λd=>bd 3 10 (lI .u64 c (Addr.add d 5) λd=>cf 258 #[uQ d] c λc d=>asBool c λc=>ifB c (nP a λc=>stH d (Addr.add c 1) (iQ 6) λc=>K (.tuple #[]) c) (K (.tuple #[]) d)))))) (ifB (b == 3) (ldH H1 (aQ h.size) λb=>Wb2 b λc=>da3 H1 (aQ h.size) λd e f=>nP a λg=>bd 1 10 (lI .u64 H1 (Addr.add g 3) λg=>nP a λi=>cf 251 #[.agg #[d,e,f],uQ g,iQ 0] H1 λd e=>asInt .i64 d λd=>ce e h.size 0 b (cf 147 #[.pointer c,iQ d] e λb c=>asInt .u64 b λb=>bd 2 10 (stH c (Addr.add i 4) (uQ b) λb=>nP a λc=>stH b (Addr.add c 1) (iQ 4) λb=>nP a λa=>lI .i64 b a λa=>ifB (a == 23) (dl3 b h.size λa c d=>cf 259 #[.agg #[a,c,d]] b λa a=>K (.tuple #[]) a) (K (.tuple #[]) b))))) (K (.tuple #[]) H1)))))
def F172 (K:kQ) (h:Wa2) (xa xb xc:Option Addr):Prop:=
 (g172 K h (Array.push h (.cells #[.pointer xa,.pointer xb,.pointer xc] 200)))
theorem call172 {K:kQ} {h:Wa2} {xa xb xc:Option Addr} (H:F172 K h xa xb xc):Wa5 Tryz.prog 172 #[(.agg #[(.pointer xa),(.pointer xb),(.pointer xc)])] h K:=
 cQ Tryz.func172 H
abbrev g173 (K:kQ) (h H1:Wa2):Prop:=
 (lP H1 (Addr.add (aQ h.size) 2) λa=>nP a λb=>lI .i64 H1 (Addr.add b 1) λb=>ifB (b == 4) (nP a λc=>stH H1 (Addr.add c 1) (iQ 0) λc=>ldH c (aQ h.size) λd=>Wb2 d λe=>da3 c (aQ h.size) λf g i=>nP a λj=>bd 1 10 (lI .u64 c (Addr.add j 3) λj=>nP a λk=>bd 3 10 (ldH c (Addr.add k 5) λl=>asInt .u64 l λm=>nP a λn=>bd 3 10 (ldH c (Addr.add n 5) λo=>asInt .u64 o λp=>cf 251 #[.agg #[f,g,i],uQ j,iQ 1] c λc f=>asInt .i64 c λc=>((Wa1 f (Addr.add n 5))=(some o))/\(((Wa1 f (Addr.add k 5))=(some l))/\(ce f h.size 0 d (cf 260 #[uQ p] f λf g=>asInt .u64 f λf=>((Wa1 g (Addr.add k 5))=(some l))/\(ce g h.size 0 d (cf 219 #[.pointer e,iQ c,uQ m,uQ f] g λc d=>asBool c λc=>ifB c (nP a λc=>bd 6 10 (stH d (Addr.add c 8) (uQ 1) λc=>nP a λe=>stH c (Addr.add e 1) (iQ 5) λc=>K (.tuple #[]) c)) (K (.tuple #[]) d)))))))))) (ifB (b == 5) (ldH H1 (aQ h.size) λc=>Wb2 c λd=>da3 H1 (aQ h.size) λe f g=>nP a λi=>bd 1 10 (lI .u64 H1 (Addr.add i 3) λi=>cf 251 #[.agg #[e,f,g],uQ i,iQ 4] H1 λe f=>asInt .i64 e λe=>ce f h.size 0 c (cf 212 #[.pointer d,iQ e,uQ 1] f λc c=>nP a λd=>stH c (Addr.add d 1) (iQ 6) λc=>K (.tuple #[]) c))) (ifB (b == 6) (ldH H1 (aQ h.size) λb=>Wb2 b λc=>da3 H1 (aQ h.size) λd e f=>nP a λg=>bd 1 10 (lI .u64 H1 (Addr.add g 3) λg=>nP a λi=>cf 251 #[.agg #[d,e,f],uQ g,iQ 3] H1 λd e=>asInt .i64 d λd=>ce e h.size 0 b (cf 147 #[.pointer c,iQ d] e λb c=>asInt .u64 b λb=>bd 4 10 (stH c (Addr.add i 6) (uQ b) λb=>nP a λa=>stH b (Addr.add a 1) (iQ 7) λa=>K (.tuple #[]) a)))) (K (.tuple #[]) H1))))
def F173 (K:kQ) (h:Wa2) (xa xb xc:Option Addr):Prop:=
 (g173 K h (Array.push h (.cells #[.pointer xa,.pointer xb,.pointer xc] 200)))
theorem call173 {K:kQ} {h:Wa2} {xa xb xc:Option Addr} (H:F173 K h xa xb xc):Wa5 Tryz.prog 173 #[(.agg #[(.pointer xa),(.pointer xb),(.pointer xc)])] h K:=
 cQ Tryz.func173 H
abbrev g174 (K:kQ) (h H1:Wa2):Prop:=
 (lP H1 (Addr.add (aQ h.size) 2) λa=>nP a λb=>lI .i64 H1 (Addr.add b 1) λb=>ifB (b == 7) (nP a λc=>bd 4 10 (lI .u64 H1 (Addr.add c 6) λc=>ifB (c == 0) (nP a λc=>stH H1 (Addr.add c 1) (iQ 9) λc=>nP a λd=>bd 6 10 (lI .u64 c (Addr.add d 8) λd=>ifB (d == 1) (nP a λd=>stH c (Addr.add d 1) (iQ 11) λd=>K (.tuple #[]) d) (K (.tuple #[]) c))) (ldH H1 (aQ h.size) λc=>Wb2 c λd=>da3 H1 (aQ h.size) λe f g=>nP a λi=>bd 1 10 (lI .u64 H1 (Addr.add i 3) λi=>nP a λj=>bd 4 10 (lI .u64 H1 (Addr.add j 6) λj=>nP a λk=>cf 253 #[.agg #[e,f,g],uQ i,uQ (IntKind.wrap .u64 (j - 1))] H1 λe f=>asInt .i64 e λe=>ce f h.size 0 c (cf 147 #[.pointer d,iQ e] f λc d=>asInt .u64 c λc=>bd 5 10 (stH d (Addr.add k 7) (uQ c) λc=>nP a λd=>stH c (Addr.add d 1) (iQ 8) λc=>nP a λd=>bd 5 10 (lI .u64 c (Addr.add d 7) λd=>cf 255 #[uQ d] c λc d=>asBool c λc=>ifB c (nP a λc=>bd 4 10 (lI .u64 d (Addr.add c 6) λc=>nP a λe=>bd 4 10 (stH d (Addr.add e 6) (uQ (IntKind.wrap .u64 (c - 1))) λc=>nP a λe=>stH c (Addr.add e 1) (iQ 7) λc=>K (.tuple #[]) c))) (K (.tuple #[]) d))))))))) (ifB (b == 8) (nP a λb=>stH H1 (Addr.add b 1) (iQ 7) λb=>ldH b (aQ h.size) λc=>Wb2 c λd=>da3 b (aQ h.size) λe f g=>nP a λi=>bd 1 10 (lI .u64 b (Addr.add i 3) λi=>nP a λj=>bd 4 10 (lI .u64 b (Addr.add j 6) λj=>nP a λk=>bd 5 10 (ldH b (Addr.add k 7) λl=>asInt .u64 l λm=>nP a λn=>bd 5 10 (ldH b (Addr.add n 7) λo=>asInt .u64 o λp=>cf 253 #[.agg #[e,f,g],uQ i,uQ (IntKind.wrap .u64 (j - 1))] b λb e=>asInt .i64 b λb=>((Wa1 e (Addr.add n 7))=(some o))/\(((Wa1 e (Addr.add k 7))=(some l))/\(ce e h.size 0 c (cf 261 #[uQ p] e λe f=>asInt .u64 e λe=>((Wa1 f (Addr.add k 7))=(some l))/\(ce f h.size 0 c (cf 219 #[.pointer d,iQ b,uQ m,uQ e] f λb c=>asBool b λb=>ifB b (nP a λb=>bd 4 10 (lI .u64 c (Addr.add b 6) λb=>nP a λa=>bd 4 10 (stH c (Addr.add a 6) (uQ (IntKind.wrap .u64 (b - 1))) λa=>K (.tuple #[]) a))) (K (.tuple #[]) c))))))))))) (K (.tuple #[]) H1)))
def F174 (K:kQ) (h:Wa2) (xa xb xc:Option Addr):Prop:=
 (g174 K h (Array.push h (.cells #[.pointer xa,.pointer xb,.pointer xc] 200)))
theorem call174 {K:kQ} {h:Wa2} {xa xb xc:Option Addr} (H:F174 K h xa xb xc):Wa5 Tryz.prog 174 #[(.agg #[(.pointer xa),(.pointer xb),(.pointer xc)])] h K:=
 cQ Tryz.func174 H
abbrev g175 (K:kQ) (h H1:Wa2):Prop:=
 (lP H1 (Addr.add (aQ h.size) 2) λa=>nP a λb=>lI .i64 H1 (Addr.add b 1) λb=>ifB (b == 9) (ldH H1 (aQ h.size) λc=>Wb2 c λd=>da3 H1 (aQ h.size) λe f g=>nP a λi=>bd 1 10 (lI .u64 H1 (Addr.add i 3) λi=>nP a λj=>cf 253 #[.agg #[e,f,g],uQ i,uQ 0] H1 λe f=>asInt .i64 e λe=>ce f h.size 0 c (cf 147 #[.pointer d,iQ e] f λc d=>asInt .u64 c λc=>bd 5 10 (stH d (Addr.add j 7) (uQ c) λc=>nP a λd=>stH c (Addr.add d 1) (iQ 10) λc=>K (.tuple #[]) c)))) (ifB (b == 10) (da3 H1 (aQ h.size) λc d e=>da3 H1 (aQ h.size) λf g i=>nP a λj=>bd 0 10 (ldH H1 (Addr.add j 2) λk=>asInt .u64 k λl=>nP a λm=>bd 5 10 (ldH H1 (Addr.add m 7) λn=>asInt .u64 n λo=>cf 253 #[.agg #[f,g,i],uQ 1,uQ 0] H1 λf g=>asInt .i64 f λf=>((Wa1 g (Addr.add m 7))=(some n))/\(((Wa1 g (Addr.add j 2))=(some k))/\(ce g h.size 0 c (((Wa1 g (Addr.add (aQ h.size) 1))=(some d))/\(((Wa1 g (Addr.add (aQ h.size) 2))=(some e))/\(cf 256 #[uQ o] g λg i=>asInt .u64 g λg=>((Wa1 i (Addr.add j 2))=(some k))/\(ce i h.size 0 c (((Wa1 i (Addr.add (aQ h.size) 1))=(some d))/\(((Wa1 i (Addr.add (aQ h.size) 2))=(some e))/\(cf 254 #[.agg #[c,d,e],iQ f,uQ l,uQ g] i λc d=>asBool c λc=>nP a λc=>stH d (Addr.add c 1) (iQ 0) λc=>K (.tuple #[]) c)))))))))))) (ifB (b == 11) (da3 H1 (aQ h.size) λc d e=>nP a λf=>bd 1 10 (lI .u64 H1 (Addr.add f 3) λf=>cf 257 #[.agg #[c,d,e],uQ f] H1 λc d=>asBool c λc=>ifB c (da3 d (aQ h.size) λc e f=>nP a λg=>bd 2 10 (lI .u64 d (Addr.add g 4) λg=>((Wa1 (Array.push d (.cells #[uQ g] 178)) (aQ h.size))=(some c))/\(((Wa1 (Array.push d (.cells #[uQ g] 178)) (Addr.add (aQ h.size) 1))=(some e))/\(((Wa1 (Array.push d (.cells #[uQ g] 178)) (Addr.add (aQ h.size) 2))=(some f))/\(cf 247 #[.agg #[c,e,f],iQ 12,iQ 20,.slice (some (aQ d.size)) 1 1] (Array.push d (.cells #[uQ g] 178)) λc c=>K (.tuple #[]) c))))) (nP a λc=>stH d (Addr.add c 1) (iQ 13) λc=>K (.tuple #[]) c))) (ifB (b == 12) (da3 H1 (aQ h.size) λb c d=>nP a λa=>bd 1 10 (lI .u64 H1 (Addr.add a 3) λa=>((Wa1 (Array.push H1 (.cells #[uQ a] 178)) (aQ h.size))=(some b))/\(((Wa1 (Array.push H1 (.cells #[uQ a] 178)) (Addr.add (aQ h.size) 1))=(some c))/\(((Wa1 (Array.push H1 (.cells #[uQ a] 178)) (Addr.add (aQ h.size) 2))=(some d))/\(cf 247 #[.agg #[b,c,d],iQ 13,iQ 5,.slice (some (aQ H1.size)) 1 1] (Array.push H1 (.cells #[uQ a] 178)) λa a=>K (.tuple #[]) a))))) (dl3 H1 h.size λa b c=>cf 259 #[.agg #[a,b,c]] H1 λa a=>K (.tuple #[]) a)))))
def F175 (K:kQ) (h:Wa2) (xa xb xc:Option Addr):Prop:=
 (g175 K h (Array.push h (.cells #[.pointer xa,.pointer xb,.pointer xc] 200)))
theorem call175 {K:kQ} {h:Wa2} {xa xb xc:Option Addr} (H:F175 K h xa xb xc):Wa5 Tryz.prog 175 #[(.agg #[(.pointer xa),(.pointer xb),(.pointer xc)])] h K:=
 cQ Tryz.func175 H
abbrev g242 (K:kQ) (h H1:Wa2):Prop:=
 (lP H1 (Addr.add (aQ h.size) 2) λa=>nP a λa=>bd 2 10 (stH H1 (Addr.add a 4) (uQ 1) λa=>ldH a (Addr.add (aQ h.size) 2) λb=>Wb2 b λc=>lP a (aQ h.size) λd=>nP c λc=>cf 79 #[.pointer d] a λa d=>asAgg a λa=>We2 a 15 (Wm8 a λa e f g i j k l m n o p q r s=>((Wa1 d (Addr.add (aQ h.size) 2))=(some b))/\(cf 139 #[.agg #[a,e,f,g,i,j,k,l,m,n,o,p,q,r,s]] d λa d=>asAgg a λa=>We2 a 7 (de7 a λa a a a e e e=>((Wa1 d (Addr.add (aQ h.size) 2))=(some b))/\(asInt .i64 a λa=>bd 1 10 (stH d (Addr.add c 3) (uQ (IntKind.wrap .u64 (IntKind.wrap .i64 (a - 1)))) λa=>lP a (Addr.add (aQ h.size) 2) λb=>nP b λb=>stH a (Addr.add b 1) (iQ 1) λa=>K (.tuple #[]) a)))))))
def F242 (K:kQ) (h:Wa2) (xa xb xc:Option Addr):Prop:=
 (g242 K h (Array.push h (.cells #[.pointer xa,.pointer xb,.pointer xc] 250)))
theorem call242 {K:kQ} {h:Wa2} {xa xb xc:Option Addr} (H:F242 K h xa xb xc):Wa5 Tryz.prog 242 #[(.agg #[(.pointer xa),(.pointer xb),(.pointer xc)])] h K:=
 cQ Tryz.func242 H
abbrev g243 (K:kQ) (h H1:Wa2):Prop:=
 (lP H1 ⟨h.size,2,none⟩ λa=>nP a λa=>bd 1 10 (lI .u64 H1 (Addr.add a 3) λa=>K (iQ (IntKind.wrap .i64 a)) H1))
def F243 (K:kQ) (h:Wa2) (xa xb xc:Option Addr):Prop:=
 (g243 K h (Array.push h (.cells #[.pointer xa,.pointer xb,.pointer xc] 248)))
theorem call243 {K:kQ} {h:Wa2} {xa xb xc:Option Addr} (H:F243 K h xa xb xc):Wa5 Tryz.prog 243 #[(.agg #[(.pointer xa),(.pointer xb),(.pointer xc)])] h K:=
 cQ Tryz.func243 H
abbrev g244 (K:kQ) (h H1:Wa2) (xa:Int):Prop:=
 (lP H1 (Addr.add (aQ h.size) 2) λa=>nP a λa=>bd 3 10 (stH H1 (Addr.add a 5) (uQ xa) λa=>da3 a (aQ h.size) λb c d=>cf 296 #[.agg #[b,c,d]] a λa b=>asInt .u64 a λa=>cf 226 #[uQ a] b λa b=>asBool a λa=>ifB a (lP b (Addr.add (aQ h.size) 2) λa=>nP a λa=>stH b (Addr.add a 1) (iQ 8) λa=>K (.tuple #[]) a) (da3 b (aQ h.size) λa c d=>cf 296 #[.agg #[a,c,d]] b λa b=>asInt .u64 a λa=>cf 146 #[uQ a] b λa b=>asInt .i64 a λa=>ifB (a == 2) (dl3 b h.size λa c d=>cf 297 #[.agg #[a,c,d]] b λa a=>K (.tuple #[]) a) (lP b (Addr.add (aQ h.size) 2) λa=>nP a λa=>stH b (Addr.add a 1) (iQ 3) λa=>K (.tuple #[]) a))))
def F244 (K:kQ) (h:Wa2) (xa xb xc:Option Addr) (xd:Int):Prop:=
 (g244 K h (Array.push h (.cells #[.pointer xa,.pointer xb,.pointer xc] 250)) xd)
theorem call244 {K:kQ} {h:Wa2} {xa xb xc:Option Addr} {xd:Int} (H:F244 K h xa xb xc xd):Wa5 Tryz.prog 244 #[(.agg #[(.pointer xa),(.pointer xb),(.pointer xc)]),(uQ xd)] h K:=
 cQ Tryz.func244 H
abbrev g245 (K:kQ) (h H1:Wa2) (xa:Int):Prop:=
 (lP H1 (aQ h.size) λa=>dl3 H1 h.size λb c d=>cf 79 #[.pointer a] H1 λa e=>asAgg a λa=>We2 a 15 (Wm8 a λa f g i j k l m n o p q r s t=>ce e h.size 0 b (ce e h.size 1 c (ce e h.size 2 d (cf 243 #[.agg #[b,c,d]] e λb c=>asInt .i64 b λb=>cf 143 #[.agg #[a,f,g,i,j,k,l,m,n,o,p,q,r,s,t],iQ (IntKind.wrap .i64 xa),iQ (IntKind.wrap .i64 (5+b))] c λa b=>asInt .i64 a λa=>K (iQ a) b)))))
def F245 (K:kQ) (h:Wa2) (xa xb xc:Option Addr) (xd:Int):Prop:=
 (g245 K h (Array.push h (.cells #[.pointer xa,.pointer xb,.pointer xc] 248)) xd)
theorem call245 {K:kQ} {h:Wa2} {xa xb xc:Option Addr} {xd:Int} (H:F245 K h xa xb xc xd):Wa5 Tryz.prog 245 #[(.agg #[(.pointer xa),(.pointer xb),(.pointer xc)]),(uQ xd)] h K:=
 cQ Tryz.func245 H
abbrev g246 (K:kQ) (h H1:Wa2):Prop:=
 (lP H1 (Addr.add (aQ h.size) 2) λa=>da3 H1 (aQ h.size) λb c d=>cf 296 #[.agg #[b,c,d]] H1 λb c=>asInt .u64 b λb=>cf 146 #[uQ b] c λb c=>asInt .i64 b λb=>nP a λd=>lI .i64 c (Addr.add d 1) λd=>ifB (d == 3) (ldH c (aQ h.size) λe=>Wb2 e λf=>lP c (aQ h.size) λg=>ldH c (Addr.add (aQ h.size) 1) λi=>Wb2 i λj=>nP j λj=>ldH c j λk=>asInt .i64 k λl=>da3 c (aQ h.size) λm n o=>cf 79 #[.pointer g] c λg p=>asAgg g λg=>We2 g 15 (Wm8 g λg q r s t u v w x y z A B C D=>ce p h.size 0 m (((Wa1 p (Addr.add (aQ h.size) 1))=(some n))/\(((Wa1 p (Addr.add (aQ h.size) 2))=(some o))/\(((Wa1 p j)=(some k))/\(((Wa1 p (Addr.add (aQ h.size) 1))=(some i))/\(ce p h.size 0 e (cf 243 #[.agg #[m,n,o]] p λm n=>asInt .i64 m λm=>((Wa1 n j)=(some k))/\(((Wa1 n (Addr.add (aQ h.size) 1))=(some i))/\(ce n h.size 0 e (cf 232 #[.agg #[g,q,r,s,t,u,v,w,x,y,z,A,B,C,D],iQ l,iQ (IntKind.wrap .i64 ((IntKind.wrap .i64 (2*m))+1))] n λg i=>asInt .i64 g λg=>ce i h.size 0 e (cf 212 #[.pointer f,iQ g,uQ (IntKind.wrap .u64 b)] i λe e=>nP a λf=>stH e (Addr.add f 1) (iQ 4) λe=>K (.tuple #[]) e)))))))))))) (ifB (d == 4) (ldH c (aQ h.size) λe=>Wb2 e λf=>da3 c (aQ h.size) λg i j=>nP a λk=>bd 2 10 (lI .u64 c (Addr.add k 4) λk=>cf 245 #[.agg #[g,i,j],uQ k] c λg i=>asInt .i64 g λg=>ce i h.size 0 e (cf 147 #[.pointer f,iQ g] i λe f=>asInt .u64 e λe=>nP a λg=>bd 3 10 (lI .u64 f (Addr.add g 5) λg=>ifB (e != g) (dl3 f h.size λg i j=>cf 244 #[.agg #[g,i,j],uQ e] f λe e=>K (.tuple #[]) e) (nP a λe=>stH f (Addr.add e 1) (iQ 5) λe=>K (.tuple #[]) e))))) (ifB (d == 5) (ldH c (aQ h.size) λe=>Wb2 e λf=>da3 c (aQ h.size) λg i j=>nP a λk=>cf 245 #[.agg #[g,i,j],uQ (IntKind.wrap .u64 b)] c λg i=>asInt .i64 g λg=>ce i h.size 0 e (cf 147 #[.pointer f,iQ g] i λe f=>asInt .u64 e λe=>bd 4 10 (stH f (Addr.add k 6) (uQ e) λe=>nP a λf=>stH e (Addr.add f 1) (iQ 7) λe=>nP a λf=>bd 4 10 (lI .u64 e (Addr.add f 6) λf=>cf 226 #[uQ f] e λe f=>asBool e λe=>ifB e (nP a λe=>stH f (Addr.add e 1) (iQ 6) λe=>K (.tuple #[]) e) (K (.tuple #[]) f))))) (ifB (d == 6) (da3 c (aQ h.size) λe f g=>nP a λi=>bd 4 10 (ldH c (Addr.add i 6) λj=>asInt .u64 j λk=>cf 296 #[.agg #[e,f,g]] c λe f=>asInt .u64 e λe=>((Wa1 f (Addr.add i 6))=(some j))/\(cf 146 #[uQ k] f λf g=>asInt .i64 f λf=>cf 228 #[uQ e,iQ f,.bool false] g λe f=>asInt .u64 e λe=>ldH f (aQ h.size) λg=>Wb2 g λi=>da3 f (aQ h.size) λj k l=>nP a λm=>bd 2 10 (lI .u64 f (Addr.add m 4) λm=>nP a λn=>bd 3 10 (ldH f (Addr.add n 5) λo=>asInt .u64 o λp=>cf 245 #[.agg #[j,k,l],uQ m] f λf j=>asInt .i64 f λf=>((Wa1 j (Addr.add n 5))=(some o))/\(ce j h.size 0 g (cf 219 #[.pointer i,iQ f,uQ p,uQ e] j λf g=>asBool f λf=>ifB (!f) (nP a λf=>stH g (Addr.add f 1) (iQ 2) λf=>K (.tuple #[]) f) (dl3 g h.size λf i j=>cf 244 #[.agg #[f,i,j],uQ e] g λe e=>K (.tuple #[]) e)))))))) (ifB (d == 7) (ldH c (aQ h.size) λd=>Wb2 d λe=>lP c (aQ h.size) λf=>nP a λg=>bd 0 10 (ldH c (Addr.add g 2) λi=>asInt .u64 i λj=>cf 79 #[.pointer f] c λf k=>asAgg f λf=>We2 f 15 (Wm8 f λf l m n o p q r s t u v w x y=>((Wa1 k (Addr.add g 2))=(some i))/\(ce k h.size 0 d (cf 143 #[.agg #[f,l,m,n,o,p,q,r,s,t,u,v,w,x,y],iQ (IntKind.wrap .i64 (IntKind.wrap .u64 b)),iQ 0] k λf k=>asInt .i64 f λf=>((Wa1 k (Addr.add g 2))=(some i))/\(ce k h.size 0 d (cf 147 #[.pointer e,iQ f] k λd e=>asInt .u64 d λd=>((Wa1 e (Addr.add g 2))=(some i))/\(ifB (decide (d >= j)) (dl3 e h.size λd f g=>cf 297 #[.agg #[d,f,g]] e λd d=>K (.tuple #[]) d) (nP a λd=>bd 2 10 (stH e (Addr.add d 4) (uQ (IntKind.wrap .u64 b)) λb=>nP a λa=>stH b (Addr.add a 1) (iQ 1) λa=>K (.tuple #[]) a)))))))))) (K (.tuple #[]) c))))))
def F246 (K:kQ) (h:Wa2) (xa xb xc:Option Addr):Prop:=
 (g246 K h (Array.push h (.cells #[.pointer xa,.pointer xb,.pointer xc] 250)))
theorem call246 {K:kQ} {h:Wa2} {xa xb xc:Option Addr} (H:F246 K h xa xb xc):Wa5 Tryz.prog 246 #[(.agg #[(.pointer xa),(.pointer xb),(.pointer xc)])] h K:=
 cQ Tryz.func246 H
abbrev g247 (K:kQ) (h H1:Wa2) (xa xb:Int) (xc:Option Addr) (xd xe:Nat):Prop:=
 (lP H1 ⟨h.size,2,none⟩ λa=>nP a λa=>stH H1 (Addr.add a 1) (iQ xa) λa=>lP a ⟨h.size,1,none⟩ λb=>cf 130 #[.pointer b,iQ xb,.slice xc xd xe] a λa a=>K (.tuple #[]) a)
def F247 (K:kQ) (h:Wa2) (xa xb xc:Option Addr) (xd xe:Int) (xf:Option Addr) (xg xh:Nat):Prop:=
 (g247 K h (Array.push h (.cells #[.pointer xa,.pointer xb,.pointer xc] 197)) xd xe xf xg xh)
theorem call247 {K:kQ} {h:Wa2} {xa xb xc:Option Addr} {xd xe:Int} {xf:Option Addr} {xg xh:Nat} (H:F247 K h xa xb xc xd xe xf xg xh):Wa5 Tryz.prog 247 #[(.agg #[(.pointer xa),(.pointer xb),(.pointer xc)]),(iQ xd),(iQ xe),(.slice xf xg xh)] h K:=
 cQ Tryz.func247 H
abbrev g248 (K:kQ) (h H1:Wa2) (xa xb xc:Int):Prop:=
 (lP H1 ⟨h.size,2,none⟩ λa=>ldH H1 ⟨h.size,2,none⟩ λb=>Wb2 b λc=>ldH H1 ⟨h.size,2,none⟩ λd=>Wb2 d λe=>nP a λa=>bd 7 10 (nP c λc=>nP e λe=>stH H1 (Addr.add a 9) (uQ xa) λa=>ce a h.size 2 d (ce a h.size 2 b (bd 8 10 (stH a (Addr.add c 10) (uQ xb) λa=>ce a h.size 2 d (bd 9 10 (stH a (Addr.add e 11) (uQ xc) λa=>dl3 a h.size λb c d=>cf 247 #[.agg #[b,c,d],iQ 90,iQ 4,.slice none 0 0] a λa a=>K (.tuple #[]) a)))))))
def F248 (K:kQ) (h:Wa2) (xa xb xc:Option Addr) (xd xe xf:Int):Prop:=
 (g248 K h (Array.push h (.cells #[.pointer xa,.pointer xb,.pointer xc] 197)) xd xe xf)
theorem call248 {K:kQ} {h:Wa2} {xa xb xc:Option Addr} {xd xe xf:Int} (H:F248 K h xa xb xc xd xe xf):Wa5 Tryz.prog 248 #[(.agg #[(.pointer xa),(.pointer xb),(.pointer xc)]),(uQ xd),(uQ xe),(uQ xf)] h K:=
 cQ Tryz.func248 H
abbrev g251 (K:kQ) (h H1:Wa2) (xa xb:Int):Prop:=
 (lP H1 (aQ h.size) λa=>cf 79 #[.pointer a] H1 λa b=>asAgg a λa=>We2 a 15 (Wm8 a λa c d e f g i j k l m n o p q=>cf 143 #[.agg #[a,c,d,e,f,g,i,j,k,l,m,n,o,p,q],iQ (IntKind.wrap .i64 xa),iQ xb] b λa b=>asInt .i64 a λa=>K (iQ a) b))
def F251 (K:kQ) (h:Wa2) (xa xb xc:Option Addr) (xd xe:Int):Prop:=
 (g251 K h (Array.push h (.cells #[.pointer xa,.pointer xb,.pointer xc] 197)) xd xe)
theorem call251 {K:kQ} {h:Wa2} {xa xb xc:Option Addr} {xd xe:Int} (H:F251 K h xa xb xc xd xe):Wa5 Tryz.prog 251 #[(.agg #[(.pointer xa),(.pointer xb),(.pointer xc)]),(uQ xd),(iQ xe)] h K:=
 cQ Tryz.func251 H
abbrev g253 (K:kQ) (h H1:Wa2) (xa xb:Int):Prop:=
 (dl3 H1 h.size λa b c=>cf 251 #[.agg #[a,b,c],uQ xa,iQ (IntKind.wrap .i64 (5+(IntKind.wrap .i64 xb)))] H1 λa b=>asInt .i64 a λa=>K (iQ a) b)
def F253 (K:kQ) (h:Wa2) (xa xb xc:Option Addr) (xd xe:Int):Prop:=
 (g253 K h (Array.push h (.cells #[.pointer xa,.pointer xb,.pointer xc] 197)) xd xe)
theorem call253 {K:kQ} {h:Wa2} {xa xb xc:Option Addr} {xd xe:Int} (H:F253 K h xa xb xc xd xe):Wa5 Tryz.prog 253 #[(.agg #[(.pointer xa),(.pointer xb),(.pointer xc)]),(uQ xd),(uQ xe)] h K:=
 cQ Tryz.func253 H
abbrev g254 (K:kQ) (h H1:Wa2) (xa xb xc:Int):Prop:=
 (ldH H1 (aQ h.size) λa=>Wb2 a λb=>cf 228 #[uQ xb,iQ (IntKind.wrap .i64 xc),.bool false] H1 λc d=>asInt .u64 c λc=>ce d h.size 0 a (cf 219 #[.pointer b,iQ xa,uQ xb,uQ c] d λa b=>asBool a λa=>K (.bool a) b))
def F254 (K:kQ) (h:Wa2) (xa xb xc:Option Addr) (xd xe xf:Int):Prop:=
 (g254 K h (Array.push h (.cells #[.pointer xa,.pointer xb,.pointer xc] 197)) xd xe xf)
theorem call254 {K:kQ} {h:Wa2} {xa xb xc:Option Addr} {xd xe xf:Int} (H:F254 K h xa xb xc xd xe xf):Wa5 Tryz.prog 254 #[(.agg #[(.pointer xa),(.pointer xb),(.pointer xc)]),(iQ xd),(uQ xe),(uQ xf)] h K:=
 cQ Tryz.func254 H
def F255 (K:kQ) (h:Wa2) (xa:Int):Prop:=
 (cf 226 #[uQ xa] h λa b=>asBool a λa=>K (.bool a) b)
theorem call255 {K:kQ} {h:Wa2} {xa:Int} (H:F255 K h xa):Wa5 Tryz.prog 255 #[(uQ xa)] h K:=
 cQ Tryz.func255 H
def F256 (K:kQ) (h:Wa2) (xa:Int):Prop:=
 (cf 146 #[uQ xa] h λa b=>asInt .i64 a λa=>K (uQ (IntKind.wrap .u64 a)) b)
theorem call256 {K:kQ} {h:Wa2} {xa:Int} (H:F256 K h xa):Wa5 Tryz.prog 256 #[(uQ xa)] h K:=
 cQ Tryz.func256 H
abbrev g257 (K:kQ) (h H1:Wa2) (xa:Int):Prop:=
 (ldH H1 (aQ h.size) λa=>Wb2 a λb=>dl3 H1 h.size λc d e=>cf 251 #[.agg #[c,d,e],uQ xa,iQ 2] H1 λc d=>asInt .i64 c λc=>ce d h.size 0 a (cf 188 #[.pointer b,iQ c,uQ 18446744073709551615] d λa b=>asInt .u64 a λa=>K (.bool (a == 1)) b))
def F257 (K:kQ) (h:Wa2) (xa xb xc:Option Addr) (xd:Int):Prop:=
 (g257 K h (Array.push h (.cells #[.pointer xa,.pointer xb,.pointer xc] 197)) xd)
theorem call257 {K:kQ} {h:Wa2} {xa xb xc:Option Addr} {xd:Int} (H:F257 K h xa xb xc xd):Wa5 Tryz.prog 257 #[(.agg #[(.pointer xa),(.pointer xb),(.pointer xc)]),(uQ xd)] h K:=
 cQ Tryz.func257 H
abbrev g259 (K:kQ) (h H1:Wa2):Prop:=
 (da3 H1 (aQ h.size) λa b c=>lP H1 (Addr.add (aQ h.size) 2) λd=>nP d λd=>bd 2 10 (lI .u64 H1 (Addr.add d 4) λd=>ldH H1 (Addr.add (aQ h.size) 2) λe=>Wb2 e λf=>nP f λf=>bd 3 10 (ldH H1 (Addr.add f 5) λg=>asInt .u64 g λi=>cf 274 #[uQ d] H1 λd j=>asInt .u32 d λd=>((Wa1 j (Addr.add f 5))=(some g))/\(((Wa1 j (Addr.add (aQ h.size) 2))=(some e))/\(ce j h.size 0 a (((Wa1 j (Addr.add (aQ h.size) 1))=(some b))/\(((Wa1 j (Addr.add (aQ h.size) 2))=(some c))/\(cf 298 #[uQ i] j λe f=>asInt .u32 e λe=>ce f h.size 0 a (((Wa1 f (Addr.add (aQ h.size) 1))=(some b))/\(((Wa1 f (Addr.add (aQ h.size) 2))=(some c))/\(cf 248 #[.agg #[a,b,c],uQ 2,uQ (IntKind.wrap .u64 d),uQ (IntKind.wrap .u64 e)] f λa a=>K (.tuple #[]) a)))))))))))
def F259 (K:kQ) (h:Wa2) (xa xb xc:Option Addr):Prop:=
 (g259 K h (Array.push h (.cells #[.pointer xa,.pointer xb,.pointer xc] 200)))
theorem call259 {K:kQ} {h:Wa2} {xa xb xc:Option Addr} (H:F259 K h xa xb xc):Wa5 Tryz.prog 259 #[(.agg #[(.pointer xa),(.pointer xb),(.pointer xc)])] h K:=
 cQ Tryz.func259 H
abbrev g296 (K:kQ) (h H1:Wa2):Prop:=
 (lP H1 ⟨h.size,2,none⟩ λa=>nP a λa=>bd 3 10 (lI .u64 H1 (Addr.add a 5) λa=>K (uQ a) H1))
def F296 (K:kQ) (h:Wa2) (xa xb xc:Option Addr):Prop:=
 (g296 K h (Array.push h (.cells #[.pointer xa,.pointer xb,.pointer xc] 248)))
theorem call296 {K:kQ} {h:Wa2} {xa xb xc:Option Addr} (H:F296 K h xa xb xc):Wa5 Tryz.prog 296 #[(.agg #[(.pointer xa),(.pointer xb),(.pointer xc)])] h K:=
 cQ Tryz.func296 H
abbrev g297 (K:kQ) (h H1:Wa2):Prop:=
 (ldH H1 (Addr.add (aQ h.size) 2) λa=>Wb2 a λb=>da3 H1 (aQ h.size) λc d e=>cf 243 #[.agg #[c,d,e]] H1 λc d=>asInt .i64 c λc=>((Wa1 d (Addr.add (aQ h.size) 2))=(some a))/\(ldH d (Addr.add (aQ h.size) 1) λa=>Wb2 a λe=>nP e λe=>ldH d (Addr.add e 5) λf=>Wb3 f λg i j=>ldH d (Addr.add (aQ h.size) 1) λj=>Wb2 j λk=>nP k λk=>ldH d (Addr.add k 7) λl=>Wb3 l λm n o=>ldH d (Addr.add (aQ h.size) 1) λo=>Wb2 o λp=>nP p λp=>ldH d (Addr.add p 6) λq=>Wb3 q λr s t=>nP b λt=>bd 2 10 (ldH d (Addr.add t 4) λu=>asInt .u64 u λv=>nP b λw=>bd 3 10 (ldH d (Addr.add w 5) λx=>asInt .u64 x λy=>da3 d (aQ h.size) λz A B=>cf 296 #[.agg #[z,A,B]] d λd z=>asInt .u64 d λd=>((Wa1 z (Addr.add w 5))=(some x))/\(((Wa1 z (Addr.add t 4))=(some u))/\(((Wa1 z (Addr.add p 6))=(some q))/\(((Wa1 z (Addr.add (aQ h.size) 1))=(some o))/\(((Wa1 z (Addr.add k 7))=(some l))/\(((Wa1 z (Addr.add (aQ h.size) 1))=(some j))/\(((Wa1 z (Addr.add e 5))=(some f))/\(((Wa1 z (Addr.add (aQ h.size) 1))=(some a))/\(cf 146 #[uQ d] z λd z=>asInt .i64 d λd=>((Wa1 z (Addr.add w 5))=(some x))/\(((Wa1 z (Addr.add t 4))=(some u))/\(((Wa1 z (Addr.add p 6))=(some q))/\(((Wa1 z (Addr.add (aQ h.size) 1))=(some o))/\(((Wa1 z (Addr.add k 7))=(some l))/\(((Wa1 z (Addr.add (aQ h.size) 1))=(some j))/\(((Wa1 z (Addr.add e 5))=(some f))/\(((Wa1 z (Addr.add (aQ h.size) 1))=(some a))/\(bd c (i:Int) (Wd2 (.pointer g) λa=>stH z (Addr.add a (c.toNat*1)) (uQ v) λa=>bd c (n:Int) (Wd2 (.pointer m) λe=>stH a (Addr.add e (c.toNat*1)) (uQ y) λa=>bd c (s:Int) (Wd2 (.pointer r) λe=>stH a (Addr.add e (c.toNat*1)) (uQ (IntKind.wrap .u64 d)) λa=>ifB (c == 0) (lP a (Addr.add (aQ h.size) 1) λc=>cf 106 #[.pointer c,.slice none 0 0] a λc c=>K (.tuple #[]) c) (nP b λc=>bd 1 10 (lI .u64 a (Addr.add c 3) λc=>nP b λd=>bd 1 10 (stH a (Addr.add d 3) (uQ (IntKind.wrap .u64 (c - 1))) λa=>nP b λb=>stH a (Addr.add b 1) (iQ 1) λa=>K (.tuple #[]) a))))))))))))))))))))))))))
def F297 (K:kQ) (h:Wa2) (xa xb xc:Option Addr):Prop:=
 (g297 K h (Array.push h (.cells #[.pointer xa,.pointer xb,.pointer xc] 250)))
theorem call297 {K:kQ} {h:Wa2} {xa xb xc:Option Addr} (H:F297 K h xa xb xc):Wa5 Tryz.prog 297 #[(.agg #[(.pointer xa),(.pointer xb),(.pointer xc)])] h K:=
 cQ Tryz.func297 H
end
section
open Mod
def Thr.setPl (t:Thr) (p s w:List Int):Thr:={ t with pred:=p,succ:=s,word:=w }
theorem Y20 {h:Wa2} {T:Nat} {fo:Option (Nat × Nat)} {t:Thr} {id:Int} {R:Hp} (H:Sat h (Wk9 T fo t id*R)):∃pb sb wb,∃Q:Hp,
  (∀h' P,Sat h' (Q*P)->Wa1 h' ⟨T,5,none⟩=some (.slice (some (aQ pb)) t.pred.length t.pred.length)/\Wa1 h' ⟨T,6,none⟩=some (.slice (some (aQ sb)) t.succ.length t.succ.length)/\Wa1 h' ⟨T,7,none⟩=some (.slice (some (aQ wb)) t.word.length t.word.length)) /\
  Sat h (pt pb (.cells (uvs t.pred).toArray 178)*(pt sb (.cells (uvs t.succ).toArray 178)*(pt wb (.cells (uvs t.word).toArray 178)*(Q*R)))) /\
  ∀R' h' p s w,p.length=t.pred.length->s.length=t.succ.length->w.length=t.word.length->(∀v ∈ p,U v)->(∀v ∈ s,U v)->(∀v ∈ w,U v) ->
   Sat h' (pt pb (.cells (uvs p).toArray 178)*(pt sb (.cells (uvs s).toArray 178)*(pt wb (.cells (uvs w).toArray 178)*(Q*R'))))->Sat h' (Wk9 T fo (Thr.setPl t p s w) id*R'):=by
 obtain ⟨B,x,H0⟩:=We0.1 H
 refine ⟨B.pred,B.succ,B.word,pt T (.cells (WQ0 B t id).toArray 183)*(Wf1 190 12 B.fr t.fr.length B.frn (t.fr.flatMap frc)*(Wf1 3 1 B.re t.retired.length B.ren (t.retired.map iv)*WP8 B.fo t.found.length B.fon t.found)),λh' P HQ=>?_,Sat.ac H0 (by ac_rfl),?_⟩
 ·have O:=Sat.at (Wc7 _ _ _ ▸ HQ)
  exact ⟨Wd3 O rfl,Wd3 O rfl,Wd3 O rfl⟩
 ·intro R' h' p s w hp hs hw up us uw H1
  obtain ⟨b1,b2,b3,b4,b5,b6,b7,b8⟩:=x.1
  refine We0.2 ⟨B,⟨⟨b1,b2,up,us,uw,b6,b7,b8⟩,x.2⟩,?_⟩
  unfold Thr.setPl WQ0
  simp only [hp,hs,hw]
  exact Sat.ac H1 (by ac_rfl)
section
variable {K:kQ} {h:Wa2} {M T b o N:Nat} {tv:Value} {fo:Option (Nat × Nat)} {x:Run} {R:Hp}
theorem Yp2 (H:Sat h (RunS M T tv fo x R)):∃pb sb wb,∃Q:Hp,
  (∀h' P,Sat h' (Q*P)->Wa1 h' ⟨T,5,none⟩=some (.slice (some (aQ pb)) x.t.pred.length x.t.pred.length)/\Wa1 h' ⟨T,6,none⟩=some (.slice (some (aQ sb)) x.t.succ.length x.t.succ.length)/\Wa1 h' ⟨T,7,none⟩=some (.slice (some (aQ wb)) x.t.word.length x.t.word.length)) /\
  Sat h (pt pb (.cells (uvs x.t.pred).toArray 178)*(pt sb (.cells (uvs x.t.succ).toArray 178)*(pt wb (.cells (uvs x.t.word).toArray 178)*(Q*(Wl8 M tv x.m*R))))) /\
  ∀h' p s w,p.length=x.t.pred.length->s.length=x.t.succ.length->w.length=x.t.word.length->(∀v ∈ p,U v)->(∀v ∈ s,U v)->(∀v ∈ w,U v) ->
   Sat h' (pt pb (.cells (uvs p).toArray 178)*(pt sb (.cells (uvs s).toArray 178)*(pt wb (.cells (uvs w).toArray 178)*(Q*(Wl8 M tv x.m*R)))))->Sat h' (RunS M T tv fo (x.setPl p s w) R):=by
 obtain ⟨pb,sb,wb,Q,h1,h2,h3⟩:=Y20 (RunS.thr H)
 exact ⟨pb,sb,wb,Q,h1,h2,λh' p s w a1 a2 a3 a4 a5 a6 H1=>RunS.ofThr (h3 _ h' p s w a1 a2 a3 a4 a5 a6 H1)⟩
theorem Zj0 {h:Wa2} {B:Nat} {l:List Int} {t:TypeId} (e:h[B]? = some (.cells (uvs l).toArray t)) {i:Int} (h0:0<=i) (h1:i < l.length):Wa1 h ⟨B,i.toNat,none⟩=some (uQ (l.getD i.toNat 0)):=Zs2 e h0 h1
theorem WK3 (H:Sat h (RunS M T tv (some (b,o)) x R)) (k:∀h',Old h.size h h'->K (iQ (s64 (x.f.g 1))) h') :
  Wa5 Tryz.prog 243 #[rV M T b o] h K:=by
 refine call243 ?_
 unfold F243 g243 bd lP lI nP
 have oo:Old h.size h (h.push (.cells #[mP M,mP T,fP b o] 248)):=(Old.refl _ _).push _ (Nat.le_refl _)
 have H1:=RunS.new H (.cells #[mP M,mP T,fP b o] 248);generalize h.push (.cells #[mP M,mP T,fP b o] 248)=h1 at *;generalize h.size=N at *
 refine ss H1 ?_
 exact k h1 oo
theorem Wx4 (H:Sat h (RunS M T tv (some (b,o)) x R)) (k:∀h',Old h.size h h'->K (uQ (x.f.g 3)) h') :
  Wa5 Tryz.prog 296 #[rV M T b o] h K:=by
 refine call296 ?_
 unfold F296 g296 bd lP lI nP
 have oo:Old h.size h (h.push (.cells #[mP M,mP T,fP b o] 248)):=(Old.refl _ _).push _ (Nat.le_refl _)
 have H1:=RunS.new H (.cells #[mP M,mP T,fP b o] 248);generalize h.push (.cells #[mP M,mP T,fP b o] 248)=h1 at *;generalize h.size=N at *
 refine ss H1 ?_
 exact k h1 oo
theorem WE7 (H:Sat h (RunS M T tv (some (b,o)) x R)) {n:Int} (hr:0<=s64 (x.f.g 1)/\s64 (x.f.g 1) < 1000) (k:∀h',Old h.size h h'->K (iQ (x.nlink n (x.f.g 1))) h') :
  Wa5 Tryz.prog 245 #[rV M T b o,uQ n] h K:=by
 refine call245 ?_
 unfold F245 g245 cf ce lP Wm8 dl3
 have oo:Old h.size h (h.push (.cells #[mP M,mP T,fP b o] 248)):=(Old.refl _ _).push _ (Nat.le_refl _)
 have P:=RunS.pl H
 have s1:=oo.1
 have H1:=RunS.new H (.cells #[mP M,mP T,fP b o] 248);generalize h.push (.cells #[mP M,mP T,fP b o] 248)=h1 at *;generalize h.size=N at *
 refine ss H1 ?_
 refine Wa0 (Ws3 H1 λh2 o2=>WF3 ?_)
 have H2:=RunS.old H1 o2
 refine ss H2 ?_
 refine Wa0 (WK3 H2 λh3 o3=>?_)
 refine sb ?_
 rw [show s64 (5+s64 (x.f.g 1))=5+s64 (x.f.g 1) from by rw [<- WJ7,Wb5 (by omega) (by omega)]]
 refine Wa0 (Wf7 P (Wi8 _) ⟨by omega,by omega⟩ λh4 o4=>?_)
 refine sb ?_
 exact k h4 (oo.trans (((o2.trans (o3.mono o2.1)).trans (o4.mono (Nat.le_trans o2.1 o3.1))).mono s1))
structure RowOk (x:Run) (r:Int):Prop where
 r:0<=s64 r/\s64 r < x.t.pred.length
 e1:x.t.succ.length=x.t.pred.length
 e2:x.t.word.length=x.t.pred.length
 e3:x.t.pred.length<=6
theorem WO0 (H:Sat h (RunS M T tv (some (b,o)) x R)) (hr:RowOk x (x.f.g 1)) (k:∀h',Sat h' (RunS M T tv none (Wo5 x) R)->K (.tuple #[]) h') :
  Wa5 Tryz.prog 297 #[rV M T b o] h K:=by
 refine call297 ?_
 unfold F297 g297 cf bd lP lI nP da3
 have B:=RunS.fB H
 have TB:=RunS.B H
 obtain ⟨⟨r0,r1⟩,e1,e2,e3⟩:=hr
 unfold Wo5 at k
 dsimp only at k
 have H1:=RunS.new H (.cells #[mP M,mP T,fP b o] 250);generalize h.push (.cells #[mP M,mP T,fP b o] 250)=h1 at *;generalize h.size=N at *
 refine ss H1 ?_
 refine Wa0 (WK3 H1 λh2 o2=>?_)
 have H2:=RunS.old H1 o2
 obtain ⟨pb,sb,wb,Q,hQ,HR,re⟩:=Yp2 H2
 obtain ⟨c5,c6,c7⟩:=hQ h2 _ HR.drop.drop.drop
 have d5:∀F:Value->Prop,ldH h2 ⟨T,5,none⟩ F=F (.slice (some (aQ pb)) x.t.pred.length x.t.pred.length):=λF=>by unfold ldH;rw [c5]
 have d6:∀F:Value->Prop,ldH h2 ⟨T,6,none⟩ F=F (.slice (some (aQ sb)) x.t.succ.length x.t.succ.length):=λF=>by unfold ldH;rw [c6]
 have d7:∀F:Value->Prop,ldH h2 ⟨T,7,none⟩ F=F (.slice (some (aQ wb)) x.t.word.length x.t.word.length):=λF=>by unfold ldH;rw [c7]
 try simp +decide only [Wb8,bsx,Nat.reduceAdd,Int.reduceLE,Int.reduceLT,Int.reduceToNat,rsx,g_s,Wa7,RunS.al H2,d5,d6,d7]
 refine Wa0 (Wx4 H2 λh3 o3=>?_)
 have H3:=RunS.old H2 o3
 have HR3:=HR.old o3
 obtain ⟨c5,c6,c7⟩:=hQ h3 _ HR3.drop.drop.drop
 try simp +decide only [Wb8,bsx,Nat.reduceAdd,Int.reduceLE,Int.reduceLT,Int.reduceToNat,rsx,g_s,Wa7,RunS.al H3,c5,c6,c7]
 refine Wa0 (Wf3 (B.g 3) ?_)
 try simp +decide only [Wb8,bsx,Nat.reduceAdd,Int.reduceLE,Int.reduceLT,Int.reduceToNat,rsx,g_s,Wa7,RunS.al H3,c5,c6,c7]
 refine ⟨r0,by omega,?_⟩
 have hu:∀l:List Int,(uvs l).length=l.length:=W63
 have us:∀(l:List Int) (i:Nat) (v:Int),(uvs l).set i (uQ v)=uvs (l.set i v):=λl i v=>by unfold uvs;rw [List.map_set]
 refine WC4 HR3 (by rw [hu];omega) trivial λh4 H4=>?_
 refine ⟨r0,by omega,?_⟩
 rw [Yz9,us] at H4
 refine WC4 H4 (by rw [hu];omega) trivial λh5 H5=>?_
 refine ⟨r0,by omega,?_⟩
 rw [<- Yz9,us,Wb7] at H5
 refine WC4 H5 (by rw [hu];omega) trivial λh6 H6=>?_
 rw [Wb7,us] at H6
 have H7:=re h6 _ _ _ (by simp) (by simp) (by simp) (Wk6 TB.pr (B.g 2)) (Wk6 TB.su (Wj4 _)) (Wk6 TB.wo (B.g 3)) H6
 refine ss H7 ?_
 refine Wa3 (λc=>?_) (λc=>?_)
 ·have c':(s64 (x.f.g 1)).toNat=0:=by omega
  rw [if_pos c'] at k
  exact Wa0 (Zd6 H7 Args.none (by omega) λh8 H8=>k h8 (RunS.drp H8))
 ·have c':¬ (s64 (x.f.g 1)).toNat=0:=by omega
  rw [if_neg c'] at k
  have ef:(x.setPl (x.t.pred.set (s64 (x.f.g 1)).toNat (x.f.g 2)) (x.t.succ.set (s64 (x.f.g 1)).toNat (Wg8 (x.f.g 3))) (x.t.word.set (s64 (x.f.g 1)).toNat (x.f.g 3))).f=x.f:=rfl
  try simp only [Wb8,bsx,Nat.reduceAdd,Int.reduceLE,Int.reduceLT,Int.reduceToNat,ef]
  exact RunS.stR (i:=1) H7 rfl (Wk4 _) λh8 H8=>RunS.stP H8 λh9 H9=>k h9 (RunS.drp (RunS.none H9))
end
end
section
open Mod
theorem WK4 {n:Int} (h0:0<=n) (h1:n < 1000):s64 n=n:=by unfold s64;omega
section
variable {K:kQ} {h:Wa2} {M T b o N:Nat} {tv:Value} {fo:Option (Nat × Nat)} {x:Run} {R:Hp}
theorem RowOk.same {y:Run} {r:Int} (H:RowOk x r) (e:y.t.pred=x.t.pred/\y.t.succ=x.t.succ/\y.t.word=x.t.word):RowOk y r:=by
 obtain ⟨h1,h2,h3,h4⟩:=H
 exact ⟨by rw [e.1];exact h1,by rw [e.1,e.2.1];exact h2,by rw [e.1,e.2.2];exact h3,by rw [e.1];exact h4⟩
theorem WH0 (H:Sat h (RunS M T tv (some (b,o)) x R)) {w:Int} (hw:U w) (hr:RowOk x (x.f.g 1)) (k:∀h',Sat h' (RunS M T tv none (WG3 x w) R)->K (.tuple #[]) h') :
  Wa5 Tryz.prog 244 #[rV M T b o,uQ w] h K:=by
 refine call244 ?_
 unfold F244 g244 cf bd lP nP da3 dl3
 have B:=RunS.fB H
 unfold WG3 at k
 dsimp only at k
 have H1:=RunS.new H (.cells #[mP M,mP T,fP b o] 250);generalize h.push (.cells #[mP M,mP T,fP b o] 250)=h1 at *;generalize h.size=N at *
 refine ss H1 ?_
 refine RunS.stR (i:=3) H1 rfl hw λh2 H2=>?_
 refine ss H2 ?_
 refine Wa0 (Wx4 H2 λh3 o3=>?_)
 have H3:=RunS.old H2 o3
 try simp +decide only [Wb8,bsx,Nat.reduceAdd,Int.reduceLE,Int.reduceLT,Int.reduceToNat,rsx,g_s,Wa7,RunS.al H3,B.len]
 refine Wa0 (Wi1 hw ?_)
 refine ss H3 ?_
 refine Wb6 (λc=>?_) (λc=>?_)
 ·rw [if_pos c] at k
  exact RunS.stP H3 λh4 H4=>k h4 (RunS.drp (RunS.none H4))
 rw [if_neg (by rw [c];simp)] at k
 refine Wa0 (Wx4 H3 λh4 o4=>?_)
 have H4:=RunS.old H3 o4
 try simp +decide only [Wb8,bsx,Nat.reduceAdd,Int.reduceLE,Int.reduceLT,Int.reduceToNat,rsx,g_s,Wa7,RunS.al H4,B.len]
 refine Wa0 (Wf3 hw ?_)
 refine ss H4 ?_
 refine Wa3 (λc=>?_) (λc=>?_)
 ·rw [if_pos c] at k
  have hr2:RowOk (x.s 3 w) ((x.s 3 w).f.g 1):=by
   rw [f_s,Wa7 _ (by decide)]
   exact hr.same ⟨rfl,rfl,rfl⟩
  exact Wa0 (WO0 H4 hr2 λh5 H5=>k h5 (RunS.drp H5))
 ·rw [if_neg c] at k
  exact RunS.stP H4 λh5 H5=>k h5 (RunS.drp (RunS.none H5))
theorem Yp3 (H:Sat h (RunS M T tv (some (b,o)) x R)) (k:∀h',Sat h' (RunS M T tv none (((x.s 2 1).s 1 (u64 (x.m.p.c.level - 1))).pc 1) R)->K (.tuple #[]) h') :
  Wa5 Tryz.prog 242 #[rV M T b o] h K:=by
 refine call242 ?_
 unfold F242 g242 cf bd lP nP de7 Wm8
 have P:=RunS.pl H
 have H1:=RunS.new H (.cells #[mP M,mP T,fP b o] 250);generalize h.push (.cells #[mP M,mP T,fP b o] 250)=h1 at *;generalize h.size=N at *
 refine ss H1 ?_
 refine RunS.stR (i:=2) H1 rfl (U.lit rfl) λh2 H2=>?_
 refine ss H2 ?_
 refine Wa0 (WJ8 H2 λh3 H3=>WF3 ?_)
 refine ss H3 ?_
 refine Wa0 (Wh6 λh4 o4=>cf7 ?_)
 have H4:=RunS.old H3 o4
 refine ss H4 ?_
 refine RunS.stR (i:=1) H4 rfl (Wk4 _) λh5 H5=>?_
 refine ss H5 ?_
 exact RunS.stP H5 λh6 H6=>k h6 (RunS.drp (RunS.none H6))
theorem YJ9 (H:Sat h (RunS M T tv (some (b,o)) x R)) (O:Ok x) (hr:RowOk x (x.f.g 1)) (k:∀h',Sat h' (RunS M T tv none (WT2 x) R)->K (.tuple #[]) h') :
  Wa5 Tryz.prog 246 #[rV M T b o] h K:=by
 refine call246 ?_
 unfold F246 g246 cf ce bd lP lI nP da3 Wm8 dl3
 have B:=RunS.fB H
 have P:=RunS.pl H
 have hrr:0<=s64 (x.f.g 1)/\s64 (x.f.g 1) < 1000:=⟨hr.r.1,by have:=hr.r.2;have:=hr.e3;omega⟩
 have hr6:s64 (x.f.g 1) < 6:=by have:=hr.r.2;have:=hr.e3;omega
 unfold WT2 at k
 dsimp only at k
 have H1:=RunS.new H (.cells #[mP M,mP T,fP b o] 250);generalize h.push (.cells #[mP M,mP T,fP b o] 250)=h1 at *;generalize h.size=N at *
 refine ss H1 ?_
 refine Wa0 (Wx4 H1 λh2 o2=>?_)
 have H2:=RunS.old H1 o2
 refine ss H2 ?_
 refine Wa0 (Wf3 (B.g 3) ?_)
 refine ss H2 ?_
 refine Wa3 (λc=>?_) (λc=>?_)
 ·rw [if_pos c] at k
  refine Wa0 (Ws3 H2 λh3 o3=>WF3 ?_)
  have H3:=RunS.old H2 o3
  refine ss H3 ?_
  refine Wa0 (WK3 H3 λh4 o4=>?_)
  have H4:=RunS.old H3 o4
  refine ss H4 ?_
  rw [WK4 (n:=2*s64 (x.f.g 1)) (by omega) (by omega),WK4 (n:=2*s64 (x.f.g 1)+1) (by omega) (by omega)]
  refine Wa0 (Wq4 P O.id ⟨by omega,by omega⟩ λh5 o5=>?_)
  have H5:=RunS.old H4 o5
  refine ss H5 ?_
  refine Wa0 (Wj3 H5 (WN9 P _ _) (Wj4 _) O.st λh6 H6=>?_)
  exact RunS.stP H6 λh7 H7=>k h7 (RunS.drp (RunS.none H7))
 rw [if_neg c] at k
 refine Wa3 (λc=>?_) (λc=>?_)
 ·rw [if_pos c] at k
  refine Wa0 (WE7 H2 hrr λh3 o3=>?_)
  have H3:=RunS.old H2 o3
  refine ss H3 ?_
  refine Wa0 (Wg2 H3 (Wc9 P _ _) O.st λh4 H4 u4=>?_)
  refine ss H4 ?_
  refine Wb6 (λc2=>?_) (λc2=>?_)
  ·rw [if_pos (by simpa using c2)] at k
   exact Wa0 (WH0 H4 u4 (hr.same ⟨rfl,rfl,rfl⟩) λh5 H5=>k h5 (RunS.drp H5))
  ·rw [if_neg (by simpa using c2)] at k
   exact RunS.stP H4 λh5 H5=>k h5 (RunS.drp (RunS.none H5))
 rw [if_neg c] at k
 refine Wa3 (λc=>?_) (λc=>?_)
 ·rw [if_pos c] at k
  refine Wa0 (WE7 H2 hrr λh3 o3=>?_)
  have H3:=RunS.old H2 o3
  refine ss H3 ?_
  refine Wa0 (Wg2 H3 (Wc9 P _ _) O.st λh4 H4 u4=>?_)
  refine ss H4 ?_
  refine RunS.stR (i:=4) H4 rfl u4 λh5 H5=>RunS.stP H5 λh6 H6=>?_
  try simp +decide only [Wb8,bsx,Nat.reduceAdd,Int.reduceLE,Int.reduceLT,Int.reduceToNat,rsx,g_s,Wa7,RunS.al H6,B.len]
  refine Wa0 (Wi1 u4 ?_)
  refine ss H6 ?_
  refine Wb6 (λc2=>?_) (λc2=>?_)
  ·rw [if_pos c2] at k
   exact RunS.stP H6 λh7 H7=>k h7 (RunS.drp (RunS.none H7))
  ·rw [if_neg (by rw [c2];simp)] at k
   exact k h6 (RunS.drp (RunS.none H6))
 rw [if_neg c] at k
 refine Wa3 (λc=>?_) (λc=>?_)
 ·rw [if_pos c] at k
  refine Wa0 (Wx4 H2 λh3 o3=>?_)
  have H3:=RunS.old H2 o3
  refine ss H3 ?_
  refine Wa0 (Wf3 (B.g 4) ?_)
  refine ss H3 ?_
  refine Wa0 (Wg9 (B.g 3) ?_)
  refine ss H3 ?_
  refine Wa0 (WE7 H3 hrr λh4 o4=>?_)
  have H4:=RunS.old H3 o4
  refine ss H4 ?_
  refine Wa0 (Zs6 H4 (Wc9 P _ _) Wq3 O.st λh5 H5=>?_)
  refine ss H5 ?_
  refine Wb6 (λc2=>?_) (λc2=>?_)
  ·rw [if_neg (by simpa using c2)] at k
   exact RunS.stP H5 λh6 H6=>k h6 (RunS.drp (RunS.none H6))
  ·rw [if_pos (by simpa using c2)] at k
   exact Wa0 (WH0 H5 Wq3 (hr.same ⟨rfl,rfl,rfl⟩) λh6 H6=>k h6 (RunS.drp H6))
 rw [if_neg c] at k
 refine Wa3 (λc=>?_) (λc=>?_)
 ·rw [if_pos c] at k
  refine Wa0 (Ws3 H2 λh3 o3=>WF3 ?_)
  have H3:=RunS.old H2 o3
  refine ss H3 ?_
  have es:s64 (Wg8 (x.f.g 3))=Wg8 (x.f.g 3):=by have:=WK1 (x.f.g 3);unfold s64;omega
  try rw [es]
  refine Wa0 (Wf7 P (W64 _) (by decide) λh4 o4=>?_)
  have H4:=RunS.old H3 o4
  refine ss H4 ?_
  refine Wa0 (Wg2 H4 (Wc9 P _ _) O.st λh5 H5 u5=>?_)
  refine ss H5 ?_
  refine Wa3 (λc2=>?_) (λc2=>?_)
  ·rw [if_pos c2] at k
   exact Wa0 (WO0 H5 (hr.same ⟨rfl,rfl,rfl⟩) λh6 H6=>k h6 (RunS.drp H6))
  ·rw [if_neg c2] at k
   exact RunS.stR (i:=2) H5 rfl (Wj4 _) λh6 H6=>RunS.stP H6 λh7 H7=>k h7 (RunS.drp (RunS.none H7))
 rw [if_neg c] at k
 exact k h2 (RunS.drp (RunS.none H2))
theorem YK0 (H:Sat h (RunS M T tv (some (b,o)) x R)) (O:Ok x) (hr:x.f.pc≠0->RowOk x (x.f.g 1)) (k:∀h',Sat h' (RunS M T tv none (WT3 x) R)->K (.tuple #[]) h') :
  Wa5 Tryz.prog 166 #[rV M T b o] h K:=by
 refine call166 ?_
 unfold F166 g166 cf bd lP lI nP da3 dc3 Wm8 dl3 ce
 have B:=RunS.fB H
 have P:=RunS.pl H
 unfold WT3 at k
 dsimp only at k
 have H1:=RunS.new H (.cells #[mP M,mP T,fP b o] 250);generalize h.push (.cells #[mP M,mP T,fP b o] 250)=h1 at *;generalize h.size=N at *
 refine ss H1 ?_
 refine Wa3 (λc=>?_) (λc=>?_)
 ·rw [if_pos c] at k
  exact Wa0 (Yp3 H1 λh2 H2=>k h2 (RunS.drp H2))
 rw [if_neg c] at k
 have hr:=hr c
 have hrr:0<=s64 (x.f.g 1)/\s64 (x.f.g 1) < 1000:=⟨hr.r.1,by have:=hr.r.2;have:=hr.e3;omega⟩
 have hr6:s64 (x.f.g 1) < 6:=by have:=hr.r.2;have:=hr.e3;omega
 refine Wa3 (λc=>?_) (λc=>?_)
 ·rw [if_pos c] at k
  refine Wa0 (Ws3 H1 λh3 o3=>WF3 ?_)
  have H3:=RunS.old H1 o3
  refine ss H3 ?_
  refine Wa0 (WK3 H3 λh4 o4=>?_)
  have H4:=RunS.old H3 o4
  refine ss H4 ?_
  rw [WK4 (n:=2*s64 (x.f.g 1)) (by omega) (by omega)]
  refine Wa0 (Wq4 P O.id ⟨by omega,by omega⟩ λh5 o5=>?_)
  have H5:=RunS.old H4 o5
  refine ss H5 ?_
  refine Wa0 (Wj3 H5 (WN9 P _ _) (B.g 2) O.st λh6 H6=>?_)
  exact RunS.stP H6 λh7 H7=>k h7 (RunS.drp (RunS.none H7))
 rw [if_neg c] at k
 refine Wa3 (λc=>?_) (λc=>?_)
 ·rw [if_pos c] at k
  refine Wa0 (WE7 H1 hrr λh3 o3=>?_)
  have H3:=RunS.old H1 o3
  refine ss H3 ?_
  refine Wa0 (Wg2 H3 (Wc9 P _ _) O.st λh4 H4 u4=>?_)
  refine ss H4 ?_
  exact Wa0 (WH0 H4 u4 (hr.same ⟨rfl,rfl,rfl⟩) λh5 H5=>k h5 (RunS.drp H5))
 rw [if_neg c] at k
 refine Wa3 (λc=>?_) (λc=>?_)
 ·rw [if_pos c] at k
  refine Wa0 (Ws3 H1 λh3 o3=>WF3 ?_)
  have H3:=RunS.old H1 o3
  refine ss H3 ?_
  refine Wa0 (Wf7 P (Wi8 _) (by decide) λh4 o4=>?_)
  have H4:=RunS.old H3 o4
  refine ss H4 ?_
  refine Wa0 (Wg2 H4 (Wc9 P _ _) O.st λh5 H5 u5=>?_)
  refine ss H5 ?_
  exact RunS.stP H5 λh7 H7=>k h7 (RunS.drp (RunS.none H7))
 rw [if_neg c] at k
 exact Wa0 (YJ9 H1 O hr λh2 H2=>k h2 (RunS.drp H2))
def FOk (x:Run):Prop:=x.f.fn=20->x.f.pc≠0->RowOk x (x.f.g 1)
theorem Yp4 (H:Sat h (RunS M T tv fo x R)) (O:Ok x) (hf:FOk x) (k:∀h',Sat h' (RunS M T tv none (WB2 x) R)->K (.tuple #[]) h') :
  Wa5 Tryz.prog 112 #[mP M,mP T] h K:=by
 refine call112 ?_
 unfold F112 cf lI nP
 unfold WB2 at k
 refine Wa0 (Zi3 H (λe=>?_) λb o hne _ H1=>?_)
 ·rw [if_pos e] at k
  refine sb ?_
  refine ⟨λvs h'=>(∃w,vs = [.bool true,w])/\h' = h,⟨⟨_,rfl⟩,rfl⟩,?_⟩
  rintro v4 v5 g6 h7 ⟨⟨w,e⟩,rfl⟩
  cases e
  refine sb ?_
  exact k _ (RunS.none H)
 ·rw [if_neg hne] at k
  refine sb ?_
  refine ⟨λvs h'=>(∃w,vs = [.bool false,w])/\h' = h,⟨⟨_,rfl⟩,rfl⟩,?_⟩
  rintro v4 v5 g6 h7 ⟨⟨w,e⟩,rfl⟩
  cases e
  try simp +decide only [Wb8,bsx,Nat.reduceAdd,Int.reduceLE,Int.reduceLT,Int.reduceToNat,rsx,g_s,Wa7,RunS.r H1]
  refine Wa3 (λc=>?_) (λc=>?_)
  ·rw [if_pos c] at k
   exact Wa0 (YK0 H1 O (hf c) k)
  rw [if_neg c] at k
  exact Wa0 (Wz1 H1 O k)
end
end
section
open Mod
theorem WV6 (n:Int):IntKind.wrap .u32 n=Mod.u32 n:=WE3 n
structure RL (x:Run):Prop where
 e1:x.t.succ.length=x.t.pred.length
 e2:x.t.word.length=x.t.pred.length
 e0:1<=x.t.pred.length
 e3:x.t.pred.length<=6
theorem YB7 {p:Pl} (B:PlB p) {n r:Int} (hr:iN r):p.node n (s64 (5+r))=p.node n (5+r):=by
 have h2:=B.wi
 by_cases c:5+r < 9223372036854775808
 ·congr 1;unfold iN at hr;unfold s64;omega
 ·unfold iN at hr
  have e:s64 (5+r) < 0:=by unfold s64;omega
  unfold Pl.node
  rw [if_neg (by omega),if_neg (by omega)]
section
variable {K:kQ} {h:Wa2} {M T b o N:Nat} {tv:Value} {fo:Option (Nat × Nat)} {x:Run} {R:Hp}
structure RowsAt (h:Wa2) (T pb sb wb:Nat) (t:Thr):Prop where
 c5:Wa1 h ⟨T,5,Option.none⟩=some (.slice (some ⟨pb,0,Option.none⟩) t.pred.length t.pred.length)
 c6:Wa1 h ⟨T,6,Option.none⟩=some (.slice (some ⟨sb,0,Option.none⟩) t.pred.length t.pred.length)
 c7:Wa1 h ⟨T,7,Option.none⟩=some (.slice (some ⟨wb,0,Option.none⟩) t.pred.length t.pred.length)
 p:∀i:Nat,i < t.pred.length->Wa1 h ⟨pb,i,Option.none⟩=some (uQ (t.pred.getD i 0))
 s:∀i:Nat,i < t.pred.length->Wa1 h ⟨sb,i,Option.none⟩=some (uQ (t.succ.getD i 0))
 w:∀i:Nat,i < t.pred.length->Wa1 h ⟨wb,i,Option.none⟩=some (uQ (t.word.getD i 0))
theorem Wx5 {h h':Wa2} {a:Addr} {v:Value} (e:Wa1 h a=some v) (o:Old h.size h h'):Wa1 h' a=some v:=(Wg0 (o.2 _ (Wr5 e))).trans e
theorem RowsAt.old {h h':Wa2} {T pb sb wb:Nat} {t:Thr} (H:RowsAt h T pb sb wb t) (o:Old h.size h h'):RowsAt h' T pb sb wb t:=
 ⟨Wx5 H.c5 o,Wx5 H.c6 o,Wx5 H.c7 o,λi hi=>Wx5 (H.p i hi) o,λi hi=>Wx5 (H.s i hi) o,λi hi=>Wx5 (H.w i hi) o⟩
theorem YK1 {h:Wa2} {a:Addr} {v:Value} (e:Wa1 h a=some v) (F:Value->Prop):ldH h a F=F v:=by unfold ldH;rw [e]
theorem RowsAt.f {h:Wa2} {T pb sb wb:Nat} {t:Thr} (H:RowsAt h T pb sb wb t):(∀F,ldH h ⟨T,5,Option.none⟩ F=F (.slice (some ⟨pb,0,Option.none⟩) t.pred.length t.pred.length))/\(∀F,ldH h ⟨T,6,Option.none⟩ F=F (.slice (some ⟨sb,0,Option.none⟩) t.pred.length t.pred.length))/\(∀F,ldH h ⟨T,7,Option.none⟩ F=F (.slice (some ⟨wb,0,Option.none⟩) t.pred.length t.pred.length)) /\
  Wa1 h ⟨T,5,Option.none⟩=some (.slice (some ⟨pb,0,Option.none⟩) t.pred.length t.pred.length)/\Wa1 h ⟨T,6,Option.none⟩=some (.slice (some ⟨sb,0,Option.none⟩) t.pred.length t.pred.length)/\Wa1 h ⟨T,7,Option.none⟩=some (.slice (some ⟨wb,0,Option.none⟩) t.pred.length t.pred.length):=
 ⟨YK1 H.c5,YK1 H.c6,YK1 H.c7,H.c5,H.c6,H.c7⟩
theorem RowsAt.g {h:Wa2} {T pb sb wb:Nat} {t:Thr} (H:RowsAt h T pb sb wb t) {i:Nat} (hi:i < t.pred.length):(∀F,ldH h ⟨pb,i,Option.none⟩ F=F (uQ (t.pred.getD i 0)))/\(∀F,ldH h ⟨sb,i,Option.none⟩ F=F (uQ (t.succ.getD i 0)))/\(∀F,ldH h ⟨wb,i,Option.none⟩ F=F (uQ (t.word.getD i 0))) /\
  Wa1 h ⟨pb,i,Option.none⟩=some (uQ (t.pred.getD i 0))/\Wa1 h ⟨sb,i,Option.none⟩=some (uQ (t.succ.getD i 0))/\Wa1 h ⟨wb,i,Option.none⟩=some (uQ (t.word.getD i 0)):=
 ⟨YK1 (H.p i hi),YK1 (H.s i hi),YK1 (H.w i hi),H.p i hi,H.s i hi,H.w i hi⟩
theorem RunS.rows (H:Sat h (RunS M T tv fo x R)) (L:RL x):∃pb sb wb:Nat,RowsAt h T pb sb wb x.t:=by
 obtain ⟨pb,sb,wb,Q,hQ,HR,re⟩:=Yp2 H
 obtain ⟨c5,c6,c7⟩:=hQ h _ HR.drop.drop.drop
 have lc:∀ {B:Nat} {l:List Int} {t:TypeId} (_:h[B]? = some (.cells (uvs l).toArray t)) (i:Nat),i < l.length->Wa1 h ⟨B,i,Option.none⟩=some (uQ (l.getD i 0)):=by
  intro B l t e i hi
  have:=Zj0 e (i:=(i:Int)) (by omega) (by omega)
  rw [Int.toNat_natCast] at this
  exact this
 rw [L.e1] at c6
 rw [L.e2] at c7
 exact ⟨pb,sb,wb,c5,c6,c7,λi hi=>lc HR.at i hi,λi hi=>lc HR.drop.at i (by rw [L.e1];exact hi),λi hi=>lc HR.drop.drop.at i (by rw [L.e2];exact hi)⟩
theorem Zt3 (H:Sat h (RunS M T tv fo x R)) (us:x.m.used < 1099511627776) {K:kQ}
  {q:Nat} {R':Hp} (HF:Sat h (fdS q x.m.b x.m.used*R')) (re:∀h' u,Sat h' (fdS q x.m.b u*R')->Sat h' (RunS M T tv fo { x with m:=Mac.feed x.m u } R)) (hn:1<=x.m.p.c.level/\x.m.p.c.level<=6)
  (k:∀h',Sat h' (RunS M T tv fo { x with m:=(x.m.lvl x.m.p.c.level).2 } R)->K (iQ (x.m.lvl x.m.p.c.level).1) h') :
  Wa5 Tryz.prog 250 #[mP q,iQ x.m.p.c.level] h K:=by
 refine Yd6 HF us hn λh2 H2=>?_
 have H3:=re _ _ H2
 have e:x.m.lvl x.m.p.c.level=(lev (drawn x.m.b x.m.used) x.m.p.c.level.toNat 0,Mac.feed x.m (x.m.used+1)):=by
  unfold Mac.lvl Mac.take
  first
   | rfl
   | (rw [if_neg (by omega)];rfl)
 rw [e] at k
 exact k h2 H3
theorem Wz5 (H:Sat h (RunS M T tv (some (b,o)) x R)) {pc fn:Int} {a:Option Addr} {l c:Nat} {rs:List Int} (A:Args R a l c rs) (hl:l<=10) (hd:x.t.fr.length < 1073741823)
  (k:∀h' b' o',¬ (b' = b/\o' = o)->WO9 h' (some (b,o)) (x.pc pc).f->Sat h' (RunS M T tv (some (b',o')) (x.call pc fn rs) R)->K (.tuple #[]) h') :
  Wa5 Tryz.prog 247 #[rV M T b o,iQ pc,iQ fn,.slice a l c] h K:=by
 refine call247 ?_
 unfold F247 g247 cf lP nP
 have H1:=RunS.new H (.cells #[mP M,mP T,fP b o] 197);generalize h.push (.cells #[mP M,mP T,fP b o] 197)=h1 at *;generalize h.size=N at *
 refine sl H1 ?_
 refine RunS.stP H1 λh2 H2=>?_
 refine sl H2 ?_
 refine Wa0 (YZ5 H2 A.skip hl (by show (x.t.fr.dropLast ++ [_]).length < _;simp;omega) λh3 b' o' h1 h2 H3=>k h3 b' o' (λe=>h1 b o rfl e) h2 (RunS.drp H3))
theorem WH1 (H:Sat h (RunS M T tv (some (b,o)) x R)) {pc fn:Int} {l:Nat} (rs:List Int) {ty:TypeId} (hr:rs.length=l) (hu:∀v ∈ rs,U v) (hl:Nat.ble l 10=true) (hd:x.t.fr.length < 1073741823)
  (k:∀h' b' o',¬ (b' = b/\o' = o)->WO9 h' (some (b,o)) (x.pc pc).f->Sat h' (RunS M T tv (some (b',o')) (x.call pc fn rs) R)->K (.tuple #[]) h') :
  Wa5 Tryz.prog 247 #[rV M T b o,iQ pc,iQ fn,.slice (some (aQ h.size)) l l] (h.push (.cells (uvs rs).toArray ty)) K:=
 Wz5 (RunS.new H (.cells (uvs rs).toArray ty)) (Args.mk' hr hu) (Nat.le_of_ble_eq_true hl) hd λh' b' o' h1 h2 H'=>k h' b' o' h1 h2 (RunS.drp H')
theorem Wj5 (H:Sat h (RunS M T tv fo x R)) {n f:Int} (hf:iN f) (k:∀h',Old h.size h h'->K (iQ (x.na n f)) h') :
  Wa5 Tryz.prog 251 #[rV M T b o,uQ n,iQ f] h K:=by
 refine call251 ?_
 unfold F251 g251 cf lP Wm8
 have oo:Old h.size h (h.push (.cells #[mP M,mP T,fP b o] 197)):=(Old.refl _ _).push _ (Nat.le_refl _)
 have s1:=oo.1
 have H1:=RunS.new H (.cells #[mP M,mP T,fP b o] 197);generalize h.push (.cells #[mP M,mP T,fP b o] 197)=h1 at *;generalize h.size=N at *
 refine sl H1 ?_
 refine Wa0 (Ws3 H1 λh2 o2=>WF3 ?_)
 refine Wa0 (Wf7 (RunS.pl H) (Wi8 _) hf λh3 o3=>?_)
 refine sb ?_
 exact k h3 (oo.trans ((o2.trans (o3.mono o2.1)).mono s1))
theorem Wg3 (H:Sat h (RunS M T tv fo x R)) {n r:Int} (k:∀h',Old h.size h h'->K (iQ (x.nlink n r)) h') :
  Wa5 Tryz.prog 253 #[rV M T b o,uQ n,uQ r] h K:=by
 refine call253 ?_
 unfold F253 g253 cf dl3
 have oo:Old h.size h (h.push (.cells #[mP M,mP T,fP b o] 197)):=(Old.refl _ _).push _ (Nat.le_refl _)
 have s1:=oo.1
 have H1:=RunS.new H (.cells #[mP M,mP T,fP b o] 197);generalize h.push (.cells #[mP M,mP T,fP b o] 197)=h1 at *;generalize h.size=N at *
 refine sl H1 ?_
 refine Wa0 (Wj5 H1 (Wi8 _) λh2 o2=>?_)
 refine sb ?_
 have e:x.na n (s64 (5+s64 r))=x.nlink n r:=YB7 (RunS.pl H) (Wi8 _)
 rw [e]
 exact k h2 (oo.trans (o2.mono s1))
theorem Wv8 (H:Sat h (RunS M T tv fo x R)) {a w t:Int} (ha:iN a) (hw:U w) (hs:x.m.mm.st < 1099511627776) (k:∀h',Sat h' (RunS M T tv fo (x.swingA a w t).2 R)->K (.bool (x.swingA a w t).1) h') :
  Wa5 Tryz.prog 254 #[rV M T b o,iQ a,uQ w,uQ t] h K:=by
 refine call254 ?_
 unfold F254 g254 cf ce
 have H1:=RunS.new H (.cells #[mP M,mP T,fP b o] 197);generalize h.push (.cells #[mP M,mP T,fP b o] 197)=h1 at *;generalize h.size=N at *
 refine sl H1 ?_
 refine Wa0 (Wg9 hw ?_)
 refine sl H1 ?_
 refine Wa0 (Zs6 H1 ha Wq3 hs λh3 H3=>?_)
 refine sb ?_
 exact k h3 (RunS.drp H3)
theorem WE8 (H:Sat h (RunS M T tv (some (b,o)) x R)) {k7 k8 k9:Int} (h7:U k7) (h8:U k8) (h9:U k9) (hd:x.t.fr.length < 1073741823)
  (k:∀h' b' o',Sat h' (RunS M T tv (some (b',o')) (x.fin k7 k8 k9) R)->K (.tuple #[]) h') :
  Wa5 Tryz.prog 248 #[rV M T b o,uQ k7,uQ k8,uQ k9] h K:=by
 refine call248 ?_
 unfold F248 g248 cf ce bd lP nP dl3
 have H1:=RunS.new H (.cells #[mP M,mP T,fP b o] 197);generalize h.push (.cells #[mP M,mP T,fP b o] 197)=h1 at *;generalize h.size=N at *
 refine sl H1 ?_
 refine RunS.stR (i:=7) H1 rfl h7 λh2 H2=>?_
 refine sl H2 ?_
 refine RunS.stR (i:=8) H2 rfl h8 λh3 H3=>?_
 refine sl H3 ?_
 refine RunS.stR (i:=9) H3 rfl h9 λh4 H4=>?_
 refine sl H4 ?_
 refine Wa0 (Wz5 H4 Args.none (by omega) ?_ λh5 b' o' h1 h2 H5=>k h5 b' o' (RunS.drp H5))
 have e:=List.length_pos_iff.2 (WU1 (RunS.thr H))
 show ((((x.t.fr.dropLast ++ [_]).dropLast ++ [_]).dropLast) ++ [_]).length < _
 simp
 omega
theorem WV7 (H:Sat h (RunS M T tv fo x R)) {n:Int} (hs:x.m.mm.st < 1099511627776) (k:∀h',Sat h' (RunS M T tv fo (x.drop1 n).2 R)->K (.bool (x.drop1 n).1) h') :
  Wa5 Tryz.prog 257 #[rV M T b o,uQ n] h K:=by
 refine call257 ?_
 unfold F257 g257 cf ce dl3
 have P:=RunS.pl H
 have H1:=RunS.new H (.cells #[mP M,mP T,fP b o] 197);generalize h.push (.cells #[mP M,mP T,fP b o] 197)=h1 at *;generalize h.size=N at *
 refine sl H1 ?_
 refine Wa0 (Wj5 H1 (by decide) λh2 o2=>?_)
 have H2:=RunS.old H1 o2
 refine sl H2 ?_
 refine Wa0 (ZK9 H2 (Wc9 P _ _) hs λh3 H3 u3=>?_)
 refine sb ?_
 exact k h3 (RunS.drp H3)
theorem WN0 {w:Int} (hw:U w) (k:K (uQ (Wg8 w)) h):Wa5 Tryz.prog 256 #[uQ w] h K:=by
 refine call256 ?_
 unfold F256 cf
 refine Wa0 (Wf3 hw ?_)
 refine sb ?_
 exact k
theorem WV8 {w:Int} (hw:U w) (k:K (.bool (Wq2 w)) h):Wa5 Tryz.prog 255 #[uQ w] h K:=by
 refine call255 ?_
 unfold F255 cf
 refine Wa0 (Wi1 hw ?_)
 refine sb ?_
 exact k
end
end
section
open Mod
section
variable {K:kQ} {h:Wa2} {M T b o N:Nat} {tv:Value} {fo:Option (Nat × Nat)} {x:Run} {R:Hp}
theorem RL.at {y:Run} (H:RL x) (e:y.t.pred=x.t.pred/\y.t.succ=x.t.succ/\y.t.word=x.t.word):RL y:=by
 obtain ⟨h1,h2,h3,h4⟩:=H
 exact ⟨by rw [e.1,e.2.1];exact h1,by rw [e.1,e.2.2];exact h2,by rw [e.1];exact h3,by rw [e.1];exact h4⟩
theorem RunS.woU (H:Sat h (RunS M T tv fo x R)) (i:Nat):U (x.t.word.getD i 0):=Yd2 (RunS.B H).wo i
theorem YB8 (x:Run) (a d:Int):(x.add a d).2.m.used=x.m.used:=by
 show (x.m.add a d).2.used=x.m.used
 unfold Mac.add
 dsimp only
 have:=(Wr2 x.m a).2.2.2.1
 split <;> exact this
theorem Yf4 (a b:Int):U (Wg6 a b):=by unfold Wg6 u32;constructor <;> omega
theorem Y21 (a:Int) (g:Bool):U (WM5 a g):=by unfold WM5 u32 b2i;constructor <;> split <;> omega
theorem Y22 {w:Int} (h:U w):U (WM6 w):=by
 obtain ⟨h0,h1⟩:=h
 unfold WM6
 constructor <;> split <;> omega
theorem YB9 {w:Int} (h:U w):Mod.u64 (WJ5 w)=WJ5 w:=by
 obtain ⟨h0,h1⟩:=h
 unfold WJ5 u64;omega
theorem YC0 {w:Int} (h:U w):U (WJ5 w):=by
 obtain ⟨h0,h1⟩:=h
 unfold WJ5;constructor <;> omega
theorem Zj1 (w:Int):Mod.u64 (WT1 w)=WT1 w:=by unfold WT1 u32 u64;omega
theorem Zj2 (w:Int):U (WT1 w):=by unfold WT1 u32;constructor <;> omega
theorem Yp5 (H:Sat h (RunS M T tv (some (b,o)) x R)) (O:Ok x) (k:∀h',Sat h' (RunS M T tv none (WB3 x) R)->K (.tuple #[]) h') :
  Wa5 Tryz.prog 167 #[rV M T b o] h K:=by
 refine call167 ?_
 unfold F167 g167 cf ce bd lP lI nP da3 de7 Wm8
 have B:=RunS.fB H
 have P:=RunS.pl H
 have hd:=O.fr
 have r0:=RunS.ret H 0
 unfold WB3 at k
 dsimp only at k
 have H1:=RunS.new H (.cells #[mP M,mP T,fP b o] 199);generalize h.push (.cells #[mP M,mP T,fP b o] 199)=h1 at *;generalize h.size=N at *
 refine ss H1 ?_
 refine Wa3 (λc=>?_) (λc=>?_)
 ·rw [if_pos c] at k
  exact Wa0 (Wz5 H1 Args.none (by omega) (by omega) λh2 b' o' _ _ H2=>k h2 (RunS.drp (RunS.none H2)))
 rw [if_neg c] at k
 refine Wa3 (λc=>?_) (λc=>?_)
 ·rw [if_pos c] at k
  refine RunS.stR (i:=2) H1 rfl r0 λh2 H2=>?_
  try simp +decide only [Wb8,bsx,Nat.reduceAdd,Int.reduceLE,Int.reduceLT,Int.reduceToNat,rsx,g_s,Wa7,RunS.al H2,B.len]
  refine Wb6 (λc2=>?_) (λc2=>?_)
  ·have c2':x.ret 0≠0:=by simpa [Run.ret] using c2
   rw [if_pos c2'] at k
   exact RunS.stP H2 λh3 H3=>k h3 (RunS.drp (RunS.none H3))
  ·have c2':¬ x.ret 0≠0:=by simpa [Run.ret] using c2
   rw [if_neg c2'] at k
   have hfl:=Ws9 x 2 (x.ret 0)
   refine ⟨λvs h'=>(∃w,vs = [.bool (decide (x.f.g 5=0/\x.t.retired.length > 0)),w])/\Sat h' (RunS M T tv (some (b,o)) (x.s 2 (x.ret 0)) (pt N (.cells #[mP M,mP T,fP b o] 199)*R)),?_,?_⟩
   ·refine Wa3 (λc3=>?_) (λc3=>?_)
    ·refine Wa0 (Wv7 (RunS.thr H2) ?_)
     refine sb ?_
     have e:decide (((x.s 2 (x.ret 0)).t.retired.length:Int) > 0)=decide (x.f.g 5=0/\x.t.retired.length > 0):=by
      rw [decide_eq_decide]
      have e2:(x.s 2 (x.ret 0)).t.retired=x.t.retired:=rfl
      rw [e2]
      omega
     rw [e]
     exact ⟨⟨_,rfl⟩,H2⟩
    ·exact ⟨⟨_,by rw [decide_eq_false (λhh=>c3 hh.1)]⟩,H2⟩
   rintro v32 v33 g34 h35 ⟨⟨w,e⟩,H3⟩
   cases e
   refine sb ?_
   refine Wa3 (λc3=>?_) (λc3=>?_)
   ·rw [if_pos c3] at k
    refine RunS.stR (i:=5) H3 rfl (U.lit rfl) λh4 H4=>?_
    have hfl2:=Ws9 (x.s 2 (x.ret 0)) 5 1
    refine sl H4 ?_
    exact Wa0 (Wz5 H4 Args.none (by omega) (by omega) λh5 b' o' _ _ H5=>k h5 (RunS.drp (RunS.none H5)))
   ·rw [if_neg c3] at k
    refine sl H3 ?_
    exact Wa0 (WE8 H3 (U.lit rfl) U0 U0 (by omega) λh5 b' o' H5=>k h5 (RunS.drp (RunS.none H5)))
 rw [if_neg c] at k
 refine Wa3 (λc=>?_) (λc=>?_)
 ·rw [if_pos c] at k
  refine Wa0 (ZK9 H1 (by decide) O.st λh2 H2 u2=>?_)
  try simp +decide only [Wb8,bsx,Nat.reduceAdd,Int.reduceLE,Int.reduceLT,Int.reduceToNat,rsx,g_s,Wa7,RunS.al H2,WV6]
  refine Wa0 (W17 (YX5 _) (YX5 _) ?_)
  refine ss H2 ?_
  refine RunS.stR (i:=4) H2 rfl (Yf4 _ _) λh3 H3=>?_
  refine ss H3 ?_
  refine Wa0 (RunS.feed H3 λq R' HF re=>?_)
  refine ss H3 ?_
  refine Wa0 (Ws3 H3 λh4 o4=>WF3 ?_)
  have H4:=RunS.old H3 o4
  have HF4:=HF.old o4
  try simp only [Wb8,bsx,Nat.reduceAdd,Int.reduceLE,Int.reduceLT,Int.reduceToNat]
  refine Wa0 (Wh6 λh5 o5=>cf7 ?_)
  have H5:=RunS.old H4 o5
  have HF5:=HF4.old o5
  refine sb ?_
  have P5:=RunS.pl H5
  refine Wa0 (Zt3 H5 ?_ HF5 re P5.lv λh6 H6=>?_)
  ·show (x.add 3 1).2.m.used < _
   rw [YB8];exact O.us
  refine sb ?_
  refine RunS.stR (i:=3) H6 rfl (Wk4 _) λh7 H7=>RunS.stP H7 λh8 H8=>k h8 (RunS.drp (RunS.none H8))
 rw [if_neg c] at k
 exact k h1 (RunS.drp (RunS.none H1))
def Yf5 (x:Run):Run:=if x.f.pc=3 then x.store (x.na (x.f.g 2) 0) (x.f.g 4) else if x.f.pc=4 then x.store (x.na (x.f.g 2) 1) (WM5 (u32 (x.f.g 1)) false)
 else if x.f.pc=5 then x.store (x.na (x.f.g 2) 2) 2 else if x.f.pc=6 then x.store (x.na (x.f.g 2) 3) (x.f.g 3) else if x.f.pc=7 then x.store (x.na (x.f.g 2) 4) 0 else x
theorem Zj3 (x:Run):(Yf5 x).f=x.f:=by
 unfold Yf5
 split
 ·rfl
 split
 ·rfl
 split
 ·rfl
 split
 ·rfl
 split <;> rfl
theorem YK2 (H:Sat h (RunS M T tv (some (b,o)) x R)) (O:Ok x) (k:∀h',Sat h' (RunS M T tv none (WZ4 x) R)->K (.tuple #[]) h') :
  Wa5 Tryz.prog 168 #[rV M T b o] h K:=by
 refine call168 ?_
 unfold F168 g168 cf ce bd lP lI nP da3
 have B:=RunS.fB H
 have P:=RunS.pl H
 have k:∀h',Sat h' (RunS M T tv none ((Yf5 x).pc (x.f.pc+1)) R)->K (.tuple #[]) h':=k
 have H1:=RunS.new H (.cells #[mP M,mP T,fP b o] 199);generalize h.push (.cells #[mP M,mP T,fP b o] 199)=h1 at *;generalize h.size=N at *
 refine ss H1 ?_
 refine ⟨λ_ h'=>Sat h' (RunS M T tv (some (b,o)) (Yf5 x) (pt N (.cells #[mP M,mP T,fP b o] 199)*R)),?_,?_⟩
 ·unfold Yf5
  refine Wa3 (λc=>?_) (λc=>?_)
  ·rw [if_pos c]
   refine Wa0 (Wj5 H1 (by decide) λh2 o2=>?_)
   have H2:=RunS.old H1 o2
   refine ss H2 ?_
   exact Wa0 (Wj3 H2 (Wc9 P _ _) (B.g 4) O.st λh3 H3=>H3)
  rw [if_neg c]
  refine Wa3 (λc=>?_) (λc=>?_)
  ·rw [if_pos c]
   refine Wa0 (Wj5 H1 (by decide) λh2 o2=>?_)
   have H2:=RunS.old H1 o2
   try simp +decide only [Wb8,bsx,Nat.reduceAdd,Int.reduceLE,Int.reduceLT,Int.reduceToNat,rsx,g_s,Wa7,RunS.al H2,WV6]
   refine Wa0 (YH6 (YX5 _) ?_)
   refine ss H2 ?_
   exact Wa0 (Wj3 H2 (Wc9 P _ _) (Y21 _ _) O.st λh3 H3=>H3)
  rw [if_neg c]
  refine Wa3 (λc=>?_) (λc=>?_)
  ·rw [if_pos c]
   refine Wa0 (Wj5 H1 (by decide) λh2 o2=>?_)
   have H2:=RunS.old H1 o2
   refine ss H2 ?_
   exact Wa0 (Wj3 H2 (Wc9 P _ _) (U.lit rfl) O.st λh3 H3=>H3)
  rw [if_neg c]
  refine Wa3 (λc=>?_) (λc=>?_)
  ·rw [if_pos c]
   refine Wa0 (Wj5 H1 (by decide) λh2 o2=>?_)
   have H2:=RunS.old H1 o2
   refine ss H2 ?_
   exact Wa0 (Wj3 H2 (Wc9 P _ _) (B.g 3) O.st λh3 H3=>H3)
  rw [if_neg c]
  refine Wa3 (λc=>?_) (λc=>?_)
  ·rw [if_pos c]
   refine Wa0 (Wj5 H1 (by decide) λh2 o2=>?_)
   have H2:=RunS.old H1 o2
   refine ss H2 ?_
   exact Wa0 (Wj3 H2 (Wc9 P _ _) U0 O.st λh3 H3=>H3)
  rw [if_neg c]
  exact H1
 intro v1 v2 v3 v4 v5 g6 h7 H7
 try simp +decide only [Wb8,bsx,Nat.reduceAdd,Int.reduceLE,Int.reduceLT,Int.reduceToNat,rsx,g_s,Wa7,RunS.al H7,Zj3]
 rw [WK4 (n:=x.f.pc+1) (by have:=O.pc;omega) (by have:=O.pc;omega)]
 exact RunS.stP H7 λh8 H8=>k h8 (RunS.drp (RunS.none H8))
theorem Yf6 (H:Sat h (RunS M T tv (some (b,o)) x R)) (O:Ok x) (L:RL x) (hr:x.f.pc=10->x.f.g 5 < x.t.pred.length) (k:∀h',Sat h' (RunS M T tv none (Wu4 x) R)->K (.tuple #[]) h') :
  Wa5 Tryz.prog 169 #[rV M T b o] h K:=by
 refine call169 ?_
 unfold F169 g169 cf ce bd lS lP lI nP da3
 have B:=RunS.fB H
 have P:=RunS.pl H
 have hd:=O.fr
 unfold Wu4 at k
 dsimp only at k
 have H1:=RunS.new H (.cells #[mP M,mP T,fP b o] 199);generalize h.push (.cells #[mP M,mP T,fP b o] 199)=h1 at *;generalize h.size=N at *
 refine ss H1 ?_
 refine Wa3 (λc=>?_) (λc=>?_)
 ·rw [if_pos c] at k
  refine RunS.stR (i:=5) H1 rfl U0 λh2 H2=>?_
  refine ss H2 ?_
  have l1:=Ws9 x 5 0
  exact Wa0 (WH1 H2 [x.f.g 4] rfl (Wn8 (B.g 4)) rfl (by omega) λh4 b' o' _ _ H4=>k h4 (RunS.drp (RunS.none H4)))
 rw [if_neg c] at k
 refine Wa3 (λc=>?_) (λc=>?_)
 ·rw [if_pos c] at k
  refine Wa0 (Wg3 H1 λh2 o2=>?_)
  have H2:=RunS.old H1 o2
  refine ss H2 ?_
  refine Wa0 (Wg2 H2 (Wc9 P _ _) O.st λh3 H3 u3=>?_)
  refine ss H3 ?_
  exact RunS.stR (i:=6) H3 rfl u3 λh4 H4=>RunS.stP H4 λh5 H5=>k h5 (RunS.drp (RunS.none H5))
 rw [if_neg c] at k
 refine Wa3 (λc=>?_) (λc=>?_)
 ·rw [if_pos c] at k
  have hr:=hr c
  have hr0:=(B.g 5).1
  obtain ⟨pb,sb,wb,W⟩:=RunS.rows H1 L
  have wf:=W.f
  try simp +decide only [Wb8,bsx,Nat.reduceAdd,Int.reduceLE,Int.reduceLT,Int.reduceToNat,rsx,g_s,Wa7,RunS.al H1,wf]
  refine ⟨by omega,by omega,?_⟩
  have wg:=W.g (i:=(x.f.g 5).toNat) (by omega)
  try simp +decide only [Wb8,bsx,Nat.reduceAdd,Int.reduceLE,Int.reduceLT,Int.reduceToNat,rsx,g_s,Wa7,RunS.al H1,wg]
  refine Wa0 (Wg3 H1 λh2 o2=>?_)
  have H2:=RunS.old H1 o2
  have W2:=W.old o2
  have wf2:=W2.f
  have wg2:=W2.g (i:=(x.f.g 5).toNat) (by omega)
  try simp +decide only [Wb8,bsx,Nat.reduceAdd,Int.reduceLE,Int.reduceLT,Int.reduceToNat,rsx,g_s,Wa7,RunS.al H2,wf2,wg2]
  refine Wa0 (Wg9 (B.g 6) ?_)
  refine ss H2 ?_
  refine Wa0 (Wj3 H2 (Wc9 P _ _) Wq3 O.st λh3 H3=>?_)
  refine ss H3 ?_
  refine RunS.stR (i:=5) H3 rfl (Wk4 _) λh4 H4=>?_
  try simp +decide only [Wb8,bsx,Nat.reduceAdd,Int.reduceLE,Int.reduceLT,Int.reduceToNat,rsx,g_s,Wa7,RunS.al H4]
  refine RunS.stP H4 λh5 H5=>?_
  try simp +decide only [Wb8,bsx,Nat.reduceAdd,Int.reduceLE,Int.reduceLT,Int.reduceToNat,rsx,g_s,Wa7,RunS.al H5,B.len]
  refine Wa3 (λc2=>?_) (λc2=>?_)
  ·rw [if_pos c2] at k
   exact RunS.stP H5 λh6 H6=>k h6 (RunS.drp (RunS.none H6))
  ·rw [if_neg c2] at k
   exact k h5 (RunS.drp (RunS.none H5))
 rw [if_neg c] at k
 refine Wa3 (λc=>?_) (λc=>?_)
 ·rw [if_pos c] at k
  refine RunS.stR (i:=5) H1 rfl (U.lit rfl) λh2 H2=>?_
  try simp +decide only [Wb8,bsx,Nat.reduceAdd,Int.reduceLE,Int.reduceLT,Int.reduceToNat,rsx,g_s,Wa7,RunS.al H2]
  refine RunS.stP H2 λh3 H3=>?_
  have L3:RL ((x.s 5 1).pc 8):=L.at ⟨rfl,rfl,rfl⟩
  obtain ⟨pb,sb,wb,W⟩:=RunS.rows H3 L3
  have wf:=W.f
  have l0:=L3.e0
  have wg:=W.g (i:=0) (by omega)
  try simp +decide only [Wb8,bsx,Nat.reduceAdd,Int.reduceLE,Int.reduceLT,Int.reduceToNat,rsx,g_s,Wa7,RunS.al H3,wf,wg]
  refine ⟨by omega,?_⟩
  try simp +decide only [Wb8,bsx,Nat.reduceAdd,Int.reduceLE,Int.reduceLT,Int.reduceToNat,rsx,g_s,Wa7,RunS.al H3,wf,wg]
  refine ⟨by omega,?_⟩
  try simp +decide only [Wb8,bsx,Nat.reduceAdd,Int.reduceLE,Int.reduceLT,Int.reduceToNat,rsx,g_s,Wa7,RunS.al H3,wf,wg]
  refine Wa0 (Wg3 H3 λh4 o4=>?_)
  have H4:=RunS.old H3 o4
  have W4:=W.old o4
  have wf4:=W4.f
  have wg4:=W4.g (i:=0) (by omega)
  try simp +decide only [Wb8,bsx,Nat.reduceAdd,Int.reduceLE,Int.reduceLT,Int.reduceToNat,rsx,g_s,Wa7,RunS.al H4,wf4,wg4]
  refine Wa0 (Wv8 H4 (Wc9 P _ _) (RunS.woU H4 0) O.st λh5 H5=>?_)
  refine ss H5 ?_
  refine Wb6 (λc2=>?_) (λc2=>?_)
  ·rw [if_pos c2] at k
   exact RunS.stP H5 λh6 H6=>k h6 (RunS.drp (RunS.none H6))
  ·rw [if_neg (by rw [c2];simp)] at k
   exact k h5 (RunS.drp (RunS.none H5))
 rw [if_neg c] at k
 exact k h1 (RunS.drp (RunS.none H1))
theorem Yf7 (H:Sat h (RunS M T tv (some (b,o)) x R)) (O:Ok x) (L:RL x) (hr:x.f.pc=12->x.f.g 3<=x.t.pred.length) (hr2:13<=x.f.pc->x.f.g 5 < x.t.pred.length) (k:∀h',Sat h' (RunS M T tv none (Wu5 x) R)->K (.tuple #[]) h') :
  Wa5 Tryz.prog 170 #[rV M T b o] h K:=by
 refine call170 ?_
 unfold F170 g170 cf ce bd lS lP lI nP da3
 have B:=RunS.fB H
 have P:=RunS.pl H
 have hd:=O.fr
 have hr0:=(B.g 5).1
 unfold Wu5 at k
 dsimp only at k
 have H1:=RunS.new H (.cells #[mP M,mP T,fP b o] 199);generalize h.push (.cells #[mP M,mP T,fP b o] 199)=h1 at *;generalize h.size=N at *
 refine ss H1 ?_
 refine Wa3 (λc=>?_) (λc=>?_)
 ·rw [if_pos c] at k
  have hr:=hr c
  refine Wa3 (λc2=>?_) (λc2=>?_)
  ·rw [if_pos c2] at k
   exact RunS.stP H1 λh2 H2=>k h2 (RunS.drp (RunS.none H2))
  rw [if_neg c2] at k
  have hi:x.f.g 5 < x.t.pred.length:=by omega
  refine Wa0 (Wg3 H1 λh2 o2=>?_)
  have H2:=RunS.old H1 o2
  refine ss H2 ?_
  refine Wa0 (Wg2 H2 (Wc9 P _ _) O.st λh3 H3 u3=>?_)
  refine ss H3 ?_
  refine RunS.stR (i:=6) H3 rfl u3 λh4 H4=>?_
  try simp +decide only [Wb8,bsx,Nat.reduceAdd,Int.reduceLE,Int.reduceLT,Int.reduceToNat,rsx,g_s,Wa7,RunS.al H4,B.len]
  refine Wa0 (WV8 u3 ?_)
  refine ss H4 ?_
  refine Wb6 (λc3=>?_) (λc3=>?_)
  ·rw [if_pos c3] at k
   exact RunS.stP H4 λh5 H5=>k h5 (RunS.drp (RunS.none H5))
  rw [if_neg (by rw [c3];simp)] at k
  have L4:RL ((x.load (x.nlink (x.f.g 2) (x.f.g 5))).2.s 6 (x.load (x.nlink (x.f.g 2) (x.f.g 5))).1):=L.at ⟨rfl,rfl,rfl⟩
  obtain ⟨pb,sb,wb,W⟩:=RunS.rows H4 L4
  have wf:=W.f
  try simp +decide only [Wb8,bsx,Nat.reduceAdd,Int.reduceLE,Int.reduceLT,Int.reduceToNat,rsx,g_s,Wa7,RunS.al H4,B.len,wf]
  refine ⟨by omega,hi,?_⟩
  have wg:=W.g (i:=(x.f.g 5).toNat) (by show _ < x.t.pred.length;omega)
  try simp +decide only [Wb8,bsx,Nat.reduceAdd,Int.reduceLE,Int.reduceLT,Int.reduceToNat,rsx,g_s,Wa7,RunS.al H4,wf,wg]
  refine Wa0 (WN0 u3 ?_)
  try simp +decide only [Wb8,bsx,Nat.reduceAdd,Int.reduceLE,Int.reduceLT,Int.reduceToNat,rsx,g_s,Wa7,RunS.al H4,wf,wg]
  refine Wb6 (λc3=>?_) (λc3=>?_)
  ·have c3':Wg8 (x.load (x.nlink (x.f.g 2) (x.f.g 5))).1≠x.t.succ.getD (x.f.g 5).toNat 0:=bne_iff_ne.1 c3
   rw [if_pos c3'] at k
   exact RunS.stP H4 λh5 H5=>k h5 (RunS.drp (RunS.none H5))
  ·have c3':¬ Wg8 (x.load (x.nlink (x.f.g 2) (x.f.g 5))).1≠x.t.succ.getD (x.f.g 5).toNat 0:=λhh=>hh (bne_eq_false_iff_eq.1 c3)
   rw [if_neg c3'] at k
   exact RunS.stP H4 λh5 H5=>k h5 (RunS.drp (RunS.none H5))
 rw [if_neg c] at k
 obtain ⟨pb,sb,wb,W⟩:=RunS.rows H1 L
 have wf:=W.f
 refine Wa3 (λc=>?_) (λc=>?_)
 ·rw [if_pos c] at k
  have hr:=hr2 (by omega)
  try simp +decide only [Wb8,bsx,Nat.reduceAdd,Int.reduceLE,Int.reduceLT,Int.reduceToNat,rsx,g_s,Wa7,RunS.al H1,wf]
  refine ⟨by omega,by omega,?_⟩
  have wg:=W.g (i:=(x.f.g 5).toNat) (by omega)
  try simp +decide only [Wb8,bsx,Nat.reduceAdd,Int.reduceLE,Int.reduceLT,Int.reduceToNat,rsx,g_s,Wa7,RunS.al H1,wg]
  refine Wa0 (Wg3 H1 λh2 o2=>?_)
  have H2:=RunS.old H1 o2
  have W2:=W.old o2
  have wf2:=W2.f
  have wg2:=W2.g (i:=(x.f.g 5).toNat) (by omega)
  try simp +decide only [Wb8,bsx,Nat.reduceAdd,Int.reduceLE,Int.reduceLT,Int.reduceToNat,rsx,g_s,Wa7,RunS.al H2,wf2,wg2]
  refine Wa0 (Wv8 H2 (Wc9 P _ _) (B.g 6) O.st λh3 H3=>?_)
  refine ss H3 ?_
  exact RunS.stP H3 λh5 H5=>k h5 (RunS.drp (RunS.none H5))
 rw [if_neg c] at k
 refine Wa3 (λc=>?_) (λc=>?_)
 ·rw [if_pos c] at k
  have hr:=hr2 (by omega)
  try simp +decide only [Wb8,bsx,Nat.reduceAdd,Int.reduceLE,Int.reduceLT,Int.reduceToNat,rsx,g_s,Wa7,RunS.al H1,wf]
  refine ⟨by omega,by omega,?_⟩
  have wg:=W.g (i:=(x.f.g 5).toNat) (by omega)
  try simp +decide only [Wb8,bsx,Nat.reduceAdd,Int.reduceLE,Int.reduceLT,Int.reduceToNat,rsx,g_s,Wa7,RunS.al H1,wf,wg]
  refine ⟨by omega,by omega,?_⟩
  try simp +decide only [Wb8,bsx,Nat.reduceAdd,Int.reduceLE,Int.reduceLT,Int.reduceToNat,rsx,g_s,Wa7,RunS.al H1,wf,wg]
  refine Wa0 (Wg3 H1 λh2 o2=>?_)
  have H2:=RunS.old H1 o2
  have W2:=W.old o2
  have wf2:=W2.f
  have wg2:=W2.g (i:=(x.f.g 5).toNat) (by omega)
  try simp +decide only [Wb8,bsx,Nat.reduceAdd,Int.reduceLE,Int.reduceLT,Int.reduceToNat,rsx,g_s,Wa7,RunS.al H2,wf2,wg2]
  refine Wa0 (Wv8 H2 (Wc9 P _ _) (RunS.woU H2 _) O.st λh3 H3=>?_)
  refine ss H3 ?_
  refine Wb6 (λc3=>?_) (λc3=>?_)
  ·rw [if_pos c3] at k
   refine RunS.stR (i:=5) H3 rfl (Wk4 _) λh4 H4=>?_
   try simp +decide only [Wb8,bsx,Nat.reduceAdd,Int.reduceLE,Int.reduceLT,Int.reduceToNat,rsx,g_s,Wa7,RunS.al H4]
   exact RunS.stP H4 λh5 H5=>k h5 (RunS.drp (RunS.none H5))
  ·rw [if_neg (by rw [c3];simp)] at k
   exact Wa0 (WH1 H3 [x.f.g 4] rfl (Wn8 (B.g 4)) rfl (show x.t.fr.length < _ by omega) λh4 b' o' _ _ H4=>k h4 (RunS.drp (RunS.none H4)))
 rw [if_neg c] at k
 exact k h1 (RunS.drp (RunS.none H1))
theorem Yf8 (H:Sat h (RunS M T tv (some (b,o)) x R)) (O:Ok x) (k:∀h',Sat h' (RunS M T tv none (Wu6 x) R)->K (.tuple #[]) h') :
  Wa5 Tryz.prog 171 #[rV M T b o] h K:=by
 refine call171 ?_
 unfold F171 g171 cf bd lP lI nP da3
 have B:=RunS.fB H
 have P:=RunS.pl H
 have hd:=O.fr
 unfold Wu6 at k
 dsimp only at k
 have H1:=RunS.new H (.cells #[mP M,mP T,fP b o] 199);generalize h.push (.cells #[mP M,mP T,fP b o] 199)=h1 at *;generalize h.size=N at *
 refine ss H1 ?_
 refine Wa3 (λc=>?_) (λc=>?_)
 ·rw [if_pos c] at k
  refine Wa0 (WV7 H1 O.st λh2 H2=>?_)
  refine ss H2 ?_
  refine Wb6 (λc3=>?_) (λc3=>?_)
  ·rw [if_pos c3] at k
   have ef:(x.drop1 (x.f.g 2)).2.f=x.f:=rfl
   try simp +decide only [Wb8,bsx,Nat.reduceAdd,Int.reduceLE,Int.reduceLT,Int.reduceToNat,rsx,g_s,Wa7,RunS.al H2,ef]
   exact Wa0 (WH1 H2 [x.f.g 4] rfl (Wn8 (B.g 4)) rfl (show x.t.fr.length < _ by omega) λh4 b' o' _ _ H4=>k h4 (RunS.drp (RunS.none H4)))
  ·rw [if_neg (by rw [c3];simp)] at k
   exact RunS.stP H2 λh5 H5=>k h5 (RunS.drp (RunS.none H5))
 rw [if_neg c] at k
 refine Wa3 (λc=>?_) (λc=>?_)
 ·rw [if_pos c] at k
  exact Wa0 (WH1 H1 [x.f.g 2] rfl (Wn8 (B.g 2)) rfl (by omega) λh4 b' o' _ _ H4=>k h4 (RunS.drp (RunS.none H4)))
 ·rw [if_neg c] at k
  exact Wa0 (WE8 H1 U0 U0 U0 (by omega) λh5 b' o' H5=>k h5 (RunS.drp (RunS.none H5)))
structure ZO4 (x:Run):Prop where
 L:RL x
 a:x.f.pc=10->x.f.g 5 < x.t.pred.length
 b:x.f.pc=12->x.f.g 3<=x.t.pred.length
 c:13<=x.f.pc->x.f.pc<=14->x.f.g 5 < x.t.pred.length
theorem Yp6 (H:Sat h (RunS M T tv (some (b,o)) x R)) (O:Ok x) (S:ZO4 x) (k:∀h',Sat h' (RunS M T tv none (WB4 x) R)->K (.tuple #[]) h') :
  Wa5 Tryz.prog 113 #[rV M T b o] h K:=by
 refine call113 ?_
 unfold F113 g113 cf lP lI nP dl3
 unfold WB4 at k
 have H1:=RunS.new H (.cells #[mP M,mP T,fP b o] 199);generalize h.push (.cells #[mP M,mP T,fP b o] 199)=h1 at *;generalize h.size=N at *
 refine ss H1 ?_
 refine Wa3 (λc=>?_) (λc=>?_)
 ·rw [if_pos c] at k
  exact Wa0 (Yp5 H1 O λh2 H2=>k h2 (RunS.drp H2))
 rw [if_neg c] at k
 refine Wa3 (λc=>?_) (λc=>?_)
 ·rw [if_pos c] at k
  exact Wa0 (YK2 H1 O λh2 H2=>k h2 (RunS.drp H2))
 rw [if_neg c] at k
 refine Wa3 (λc=>?_) (λc=>?_)
 ·rw [if_pos c] at k
  exact Wa0 (Yf6 H1 O S.L S.a λh2 H2=>k h2 (RunS.drp H2))
 rw [if_neg c] at k
 refine Wa3 (λc=>?_) (λc=>?_)
 ·rw [if_pos c] at k
  exact Wa0 (Yf7 H1 O S.L S.b (λhh=>S.c hh c) λh2 H2=>k h2 (RunS.drp H2))
 rw [if_neg c] at k
 exact Wa0 (Yf8 H1 O λh2 H2=>k h2 (RunS.drp H2))
end
end
end Go.Proofs.YtahpbclnkofhfaaGreat
