/- Part 8 of what the proofs of this seat rest on: see the last text of the claim. -/
import Derived.Test.YtahpbclnkofhfaaGreatQ6ca7ce18dfc5
import Derived.Test.YtahpbclnkofhfaaGreatProg
set_option linter.unusedSimpArgs false
set_option linter.unusedVariables false
set_option linter.ambiguousOpen false
set_option maxRecDepth 20000
namespace Go.Proofs.YtahpbclnkofhfaaGreat
section
set_option maxRecDepth 100000
def F111 (K:kQ) (h:Wa2) (xa xb:Option Addr):Prop:=
 (cf 105 #[.pointer xb] h λa b=>Wb2 a λa=>exI λI3=>(ifB (Option.isNone a) (I3 [.bool true,.bool true] b) (I3 [.bool (Option.isNone xa),.bool (Option.isNone xa)] b))/\(∀(b c:Value) (d:Env) (d:Wa2),(I3 [b,c] d)->(asBool b λb=>ifB b (K (.tuple #[]) d) (nP a λb=>lI .i64 d b λb=>ifB (b == 3) (cf 161 #[.pointer xa,.pointer xb,.pointer a] d λb b=>K (.tuple #[]) b) (nP a λb=>lI .i64 d b λb=>ifB (b == 4) (cf 162 #[.pointer xa,.pointer xb,.pointer a] d λb b=>K (.tuple #[]) b) (nP a λb=>lI .i64 d b λb=>ifB (b == 5) (cf 163 #[.pointer xa,.pointer xb,.pointer a] d λb b=>K (.tuple #[]) b) (nP a λb=>lI .i64 d b λb=>ifB (b == 6) (cf 164 #[.pointer xa,.pointer xb,.pointer a] d λa a=>K (.tuple #[]) a) (cf 165 #[.pointer xa,.pointer xb] d λa a=>K (.tuple #[]) a))))))))
theorem call111 {K:kQ} {h:Wa2} {xa xb:Option Addr} (H:F111 K h xa xb):Wa5 Tryz.prog 111 #[(.pointer xa),(.pointer xb)] h K:=
 cQ Tryz.func111 H
def F161 (K:kQ) (h:Wa2) (xa xb xc:Option Addr):Prop:=
 (nP xc λa=>bd 1 10 (lI .u64 h (Addr.add a 3) λa=>nP xc λb=>lI .i64 h (Addr.add b 1) λb=>ifB (b == 0) (nP xc λc=>cf 147 #[.pointer xa,iQ (IntKind.wrap .i64 a)] h λd e=>asInt .u64 d λd=>bd 2 10 (stH e (Addr.add c 4) (uQ d) λc=>nP xc λd=>stH c (Addr.add d 1) (iQ 1) λc=>nP xc λd=>bd 2 10 (lI .u64 c (Addr.add d 4) λd=>cf 231 #[uQ d] c λc d=>asInt .u64 c λc=>ifB (c == 0) (nP xc λc=>bd 2 10 (lI .u64 d (Addr.add c 4) λc=>cf 106 #[.pointer xb,.slice (some (aQ d.size)) 1 1] (Array.push d (.cells #[uQ c] 178)) λc c=>K (.tuple #[]) c)) (K (.tuple #[]) d)))) (ifB (b == 1) (nP xb λb=>ldH h b λc=>asInt .i64 c λd=>nP xc λe=>bd 0 10 (ldH h (Addr.add e 2) λf=>asInt .u64 f λg=>nP xc λi=>bd 2 10 (ldH h (Addr.add i 4) λj=>asInt .u64 j λk=>cf 79 #[.pointer xa] h λl m=>asAgg l λl=>We2 l 15 (Wm8 l λl n o p q r s t u v w x y z A=>((Wa1 m (Addr.add i 4))=(some j))/\(((Wa1 m (Addr.add e 2))=(some f))/\(((Wa1 m b)=(some c))/\(cf 232 #[.agg #[l,n,o,p,q,r,s,t,u,v,w,x,y,z,A],iQ d,iQ (IntKind.wrap .i64 g)] m λb c=>asInt .i64 b λb=>((Wa1 c (Addr.add i 4))=(some j))/\(cf 231 #[uQ k] c λc d=>asInt .u64 c λc=>cf 212 #[.pointer xa,iQ b,uQ c] d λb b=>nP xc λc=>stH b (Addr.add c 1) (iQ 2) λb=>K (.tuple #[]) b)))))))) (cf 147 #[.pointer xa,iQ (IntKind.wrap .i64 a)] h λa b=>asInt .u64 a λa=>exI λI64=>(nP xc λc=>bd 2 10 (lI .u64 b (Addr.add c 4) λc=>ifB (a == c) (I64 [.bool true] b) (cf 231 #[uQ a] b λb c=>asInt .u64 b λb=>I64 [.bool (b == 0)] c)))/\(∀(b:Value) (c:Env) (c:Wa2),(I64 [b] c)->(asBool b λb=>ifB b (cf 106 #[.pointer xb,.slice (some (aQ c.size)) 1 1] (Array.push c (.cells #[uQ a] 178)) λb b=>K (.tuple #[]) b) (nP xc λb=>bd 2 10 (stH c (Addr.add b 4) (uQ a) λa=>nP xc λb=>stH a (Addr.add b 1) (iQ 1) λa=>K (.tuple #[]) a))))))))
theorem call161 {K:kQ} {h:Wa2} {xa xb xc:Option Addr} (H:F161 K h xa xb xc):Wa5 Tryz.prog 161 #[(.pointer xa),(.pointer xb),(.pointer xc)] h K:=
 cQ Tryz.func161 H
def F162 (K:kQ) (h:Wa2) (xa xb xc:Option Addr):Prop:=
 (nP xc λa=>ldH h (Addr.add a 1) λb=>asInt .i64 b λc=>cf 79 #[.pointer xa] h λd e=>asAgg d λd=>We2 d 15 (Wm8 d λd f g i j k l m n o p q r s t=>((Wa1 e (Addr.add a 1))=(some b))/\(cf 233 #[.agg #[d,f,g,i,j,k,l,m,n,o,p,q,r,s,t]] e λd e=>asInt .i64 d λd=>((Wa1 e (Addr.add a 1))=(some b))/\(ifB (decide (c >= d)) (cf 106 #[.pointer xb,.slice none 0 0] e λa a=>K (.tuple #[]) a) (nP xb λa=>ldH e a λb=>asInt .i64 b λc=>nP xc λd=>ldH e (Addr.add d 1) λf=>asInt .i64 f λg=>cf 79 #[.pointer xa] e λe i=>asAgg e λe=>We2 e 15 (Wm8 e λe j k l m n o p q r s t u v w=>((Wa1 i (Addr.add d 1))=(some f))/\(((Wa1 i a)=(some b))/\(cf 232 #[.agg #[e,j,k,l,m,n,o,p,q,r,s,t,u,v,w],iQ c,iQ g] i λa b=>asInt .i64 a λa=>cf 212 #[.pointer xa,iQ a,uQ 0] b λa a=>nP xc λb=>lI .i64 a (Addr.add b 1) λb=>nP xc λc=>stH a (Addr.add c 1) (iQ (IntKind.wrap .i64 (b+1))) λa=>K (.tuple #[]) a))))))))
theorem call162 {K:kQ} {h:Wa2} {xa xb xc:Option Addr} (H:F162 K h xa xb xc):Wa5 Tryz.prog 162 #[(.pointer xa),(.pointer xb),(.pointer xc)] h K:=
 cQ Tryz.func162 H
def F163 (K:kQ) (h:Wa2) (xa xb xc:Option Addr):Prop:=
 (nP xc λa=>bd 0 10 (lI .u64 h (Addr.add a 2) λa=>cf 234 #[.pointer xa,iQ (IntKind.wrap .i64 a)] h λb b=>nP xb λc=>cf 235 #[.pointer (some (Addr.add c 8)),iQ (IntKind.wrap .i64 a)] b λa a=>cf 106 #[.pointer xb,.slice none 0 0] a λa a=>nP xb λb=>cf 211 #[.pointer (some (Addr.add b 8))] a λa b=>asInt .i64 a λa=>cf 79 #[.pointer xa] b λb c=>asAgg b λb=>We2 b 15 (Wm8 b λb d e f g i j k l m n o p q r=>cf 139 #[.agg #[b,d,e,f,g,i,j,k,l,m,n,o,p,q,r]] c λb c=>asAgg b λb=>We2 b 7 (de7 b λb b b b b b b=>asInt .i64 b λb=>ifB (decide (a >= b)) (cf 130 #[.pointer xb,iQ 6,.slice none 0 0] c λa a=>K (.tuple #[]) a) (K (.tuple #[]) c)))))
theorem call163 {K:kQ} {h:Wa2} {xa xb xc:Option Addr} (H:F163 K h xa xb xc):Wa5 Tryz.prog 163 #[(.pointer xa),(.pointer xb),(.pointer xc)] h K:=
 cQ Tryz.func163 H
def F164 (K:kQ) (h:Wa2) (xa xb xc:Option Addr):Prop:=
 (cf 79 #[.pointer xa] (Array.push h (.cells #[.pointer xb] 176)) λa b=>asAgg a λa=>We2 a 15 (Wm8 a λa c d e f g i j k l m n o p q=>stH (Array.push b (.cells Ws5 117)) (aQ b.size) a λa=>stH a ⟨b.size,1,none⟩ c λa=>stH a ⟨b.size,2,none⟩ d λa=>stH a ⟨b.size,3,none⟩ e λa=>stH a ⟨b.size,4,none⟩ f λa=>stH a ⟨b.size,5,none⟩ g λa=>stH a ⟨b.size,6,none⟩ i λa=>stH a ⟨b.size,7,none⟩ j λa=>stH a ⟨b.size,8,none⟩ k λa=>stH a ⟨b.size,9,none⟩ l λa=>stH a ⟨b.size,10,none⟩ m λa=>stH a ⟨b.size,11,none⟩ n λa=>stH a ⟨b.size,12,none⟩ o λa=>stH a ⟨b.size,13,none⟩ p λa=>stH a ⟨b.size,14,none⟩ q λa=>WG2 a b.size λc d e f g i j k l m n o p q r=>WG2 a b.size λs t u v w x y z A B C D E F G=>cf 233 #[.agg #[c,d,e,f,g,i,j,k,l,m,n,o,p,q,r]] a λa c=>asInt .i64 a λa=>ce c b.size 0 s (ce c b.size 1 t (ce c b.size 2 u (ce c b.size 3 v (ce c b.size 4 w (ce c b.size 5 x (ce c b.size 6 y (ce c b.size 7 z (ce c b.size 8 A (ce c b.size 9 B (ce c b.size 10 C (ce c b.size 11 D (ce c b.size 12 E (ce c b.size 13 F (ce c b.size 14 G (cf 139 #[.agg #[s,t,u,v,w,x,y,z,A,B,C,D,E,F,G]] c λc d=>asAgg c λc=>We2 c 7 (de7 c λc c e e e e e=>asInt .i64 c λc=>exI λI77=>(nP xc λe=>lI .i64 d (Addr.add e 1) λe=>ifB (e == 0) (lP d (aQ h.size) λe=>nP e λe=>stH d (Addr.add e 9) (.slice none 0 0) λe=>I77 [] e) (I77 [] d))/\(∀(d:Env) (d:Wa2),(I77 [] d)->(nP xc λe=>lI .i64 d (Addr.add e 1) λe=>ifB (decide (e < (IntKind.wrap .i64 (a*c)))) (ldH d (aQ h.size) λe=>Wb2 e λf=>ldH d (aQ h.size) λg=>Wb2 g λi=>nP i λi=>ldH d (Addr.add i 9) λj=>Wb3 j λk l m=>WG2 d b.size λn o p q r s t u v w x y z A B=>nP xc λC=>ldH d (Addr.add C 1) λD=>asInt .i64 D λE=>WG2 d b.size λF G H I J L M N O P Q R S T U=>nP xc λV=>ldH d (Addr.add V 1) λW=>asInt .i64 W λX=>WG2 d b.size λY Z aa ab ac ad ae af ag ah ai aj ak al am=>cf 233 #[.agg #[F,G,H,I,J,L,M,N,O,P,Q,R,S,T,U]] d λF G=>asInt .i64 F λF=>ce G b.size 0 Y (ce G b.size 1 Z (ce G b.size 2 aa (ce G b.size 3 ab (ce G b.size 4 ac (ce G b.size 5 ad (ce G b.size 6 ae (ce G b.size 7 af (ce G b.size 8 ag (ce G b.size 9 ah (ce G b.size 10 ai (ce G b.size 11 aj (ce G b.size 12 ak (ce G b.size 13 al (ce G b.size 14 am (((Wa1 G (Addr.add V 1))=(some W))/\(((Wa1 G (Addr.add C 1))=(some D))/\(ZE1 G b.size n o p q r s t u v w x y z A B (((Wa1 G (Addr.add i 9))=(some j))/\(ce G h.size 0 g (ce G h.size 0 e (((F:Int)≠0)/\(cf 233 #[.agg #[Y,Z,aa,ab,ac,ad,ae,af,ag,ah,ai,aj,ak,al,am]] G λG H=>asInt .i64 G λG=>((Wa1 H (Addr.add V 1))=(some W))/\(((Wa1 H (Addr.add C 1))=(some D))/\(ZE1 H b.size n o p q r s t u v w x y z A B (((Wa1 H (Addr.add i 9))=(some j))/\(ce H h.size 0 g (ce H h.size 0 e (((G:Int)≠0)/\(cf 232 #[.agg #[n,o,p,q,r,s,t,u,v,w,x,y,z,A,B],iQ (IntKind.wrap .i64 (Int.tdiv E F)),iQ (Int.tmod X G)] H λb n=>asInt .i64 b λb=>((Wa1 n (Addr.add i 9))=(some j))/\(ce n h.size 0 g (ce n h.size 0 e (cf 147 #[.pointer xa,iQ b] n λb n=>asInt .u64 b λb=>((Wa1 n (Addr.add i 9))=(some j))/\(ce n h.size 0 g (ce n h.size 0 e (((Wa1 (Array.push n (.cells #[iQ (IntKind.wrap .i64 b)] 3)) (Addr.add i 9))=(some j))/\(((Wa1 (Array.push n (.cells #[iQ (IntKind.wrap .i64 b)] 3)) (aQ h.size))=(some g))/\(((Wa1 (Array.push n (.cells #[iQ (IntKind.wrap .i64 b)] 3)) (aQ h.size))=(some e))/\(Wt2 Tryz.prog #[25,25] 25 #[.slice k l m,.slice (some (aQ n.size)) 1 1] (Array.push n (.cells #[iQ (IntKind.wrap .i64 b)] 3)) λb g=>Wb3 b λb i j=>ce g h.size 0 e (nP f λe=>stH g (Addr.add e 9) (.slice b i j) λb=>nP xc λe=>lI .i64 b (Addr.add e 1) λe=>nP xc λf=>stH b (Addr.add f 1) (iQ (IntKind.wrap .i64 (e+1))) λb=>K (.tuple #[]) b)))))))))))))))))))))))))))))))))))))))) (exI λI174=>(nP xc λb=>lI .i64 d (Addr.add b 1) λb=>ifB (b == (IntKind.wrap .i64 (a*c))) (lP d (aQ h.size) λa=>nP a λa=>cf 238 #[.pointer (some (Addr.add a 8))] d λa b=>Wb3 a λa c e=>exI λI186=>exM λm187=>(I186 [.slice none 0 0,.tuple #[],iQ 0] b)/\(∀(b e f:Value) (g:Env) (g:Wa2),(I186 [b,e,f] g)->(asInt .i64 f λi=>ifB (decide (i < (c:Int))) (asI f λi=>bd i (c:Int) (Wd2 (.pointer a) λa=>lI .i64 g (Addr.add a (i.toNat*1)) λa=>Wv0 Tryz.prog (.func (.func 236) #[] #[.pointer (some (aQ h.size))]) #[iQ a] g λc i=>asBool c λc=>ifB (!c) (Wb3 b λc j k=>Wt2 Tryz.prog #[25,25] 25 #[.slice c j k,.slice (some (aQ i.size)) 1 1] (Array.push i (.cells #[iQ a] 3)) λc j=>Wb3 c λc k l=>asInt .i64 f λm=>(I186 [.slice c k l,iQ a,iQ (IntKind.wrap .i64 (m+1))] j)/\((m187 [.slice c k l,iQ a,iQ (IntKind.wrap .i64 (m+1))] j) < (m187 [b,e,f] g))) (asInt .i64 f λc=>(I186 [b,iQ a,iQ (IntKind.wrap .i64 (c+1))] i)/\((m187 [b,iQ a,iQ (IntKind.wrap .i64 (c+1))] i) < (m187 [b,e,f] g))))) (lP g (aQ h.size) λa=>nP a λa=>cf 239 #[.pointer (some (Addr.add a 8)),.func (.func 236) #[] #[.pointer (some (aQ h.size))]] g λa c=>asInt .i64 a λa=>lP c (aQ h.size) λa=>Wb3 b λg i j=>nP a λa=>stH c (Addr.add a 9) (.slice g i j) λa=>nP xc λc=>lI .i64 a (Addr.add c 1) λc=>nP xc λg=>stH a (Addr.add g 1) (iQ (IntKind.wrap .i64 (c+1))) λa=>I174 [b,e,f] a)))) (I174 [.tuple #[],.tuple #[],.tuple #[]] d))/\(∀(a b c:Value) (d:Env) (d:Wa2),(I174 [a,b,c] d)->(lP d (aQ h.size) λa=>nP a λa=>lS d (Addr.add a 9) λa a b=>ifB ((a:Int) == 0) (lP d (aQ h.size) λa=>cf 106 #[.pointer a,.slice none 0 0] d λa a=>K (.tuple #[]) a) (lP d (aQ h.size) λa=>nP a λa=>lS d (Addr.add a 9) λa b c=>bd 0 (b:Int) (Wd2 (.pointer a) λa=>lI .i64 d a λa=>lP d (aQ h.size) λb=>lP d (aQ h.size) λc=>nP c λc=>lS d (Addr.add c 9) λc e f=>((0:Int)<=1)/\(((1:Int)<=(e:Int))/\(nP b λb=>stH d (Addr.add b 9) (.slice (W95 c 1 f 1) (e - 1) (f - 1)) λb=>lP b (aQ h.size) λc=>cf 130 #[.pointer c,iQ 2,.slice (some (aQ b.size)) 1 1] (Array.push b (.cells #[uQ (IntKind.wrap .u64 a)] 178)) λa a=>K (.tuple #[]) a)))))))))))))))))))))))))))
theorem call164 {K:kQ} {h:Wa2} {xa xb xc:Option Addr} (H:F164 K h xa xb xc):Wa5 Tryz.prog 164 #[(.pointer xa),(.pointer xb),(.pointer xc)] h K:=
 cQ Tryz.func164 H
def F165 (K:kQ) (h:Wa2) (xa xb:Option Addr):Prop:=
 (cf 105 #[.pointer xb] h λa b=>Wb2 a λa=>exI λI3=>(ifB (Option.isNone a) (I3 [.bool true,.bool true] b) (I3 [.bool (Option.isNone xa),.bool (Option.isNone xa)] b))/\(∀(b c:Value) (d:Env) (d:Wa2),(I3 [b,c] d)->(asBool b λb=>ifB b (K (.tuple #[]) d) (nP a λb=>lI .i64 d b λb=>ifB (b == 1) (cf 240 #[.pointer xa,.pointer xb,.pointer a] d λb b=>K (.tuple #[]) b) (nP a λb=>lI .i64 d b λb=>ifB (b == 2) (cf 241 #[.pointer xa,.pointer xb,.pointer a] d λa a=>K (.tuple #[]) a) (cf 106 #[.pointer xb,.slice none 0 0] d λa a=>K (.tuple #[]) a))))))
theorem call165 {K:kQ} {h:Wa2} {xa xb:Option Addr} (H:F165 K h xa xb):Wa5 Tryz.prog 165 #[(.pointer xa),(.pointer xb)] h K:=
 cQ Tryz.func165 H
def F231 (K:kQ) (h:Wa2) (xa:Int):Prop:=
 (cf 146 #[uQ xa] h λa b=>asInt .i64 a λa=>K (uQ (IntKind.wrap .u64 a)) b)
theorem call231 {K:kQ} {h:Wa2} {xa:Int} (H:F231 K h xa):Wa5 Tryz.prog 231 #[(uQ xa)] h K:=
 cQ Tryz.func231 H
def F236 (K:kQ) (h:Wa2) (xa:Int) (c0:Value):Prop:=
 (Wd2 c0 λa=>lP h a λa=>nP a λa=>lS h (Addr.add a 9) λa b c=>cf 237 #[.slice a b c,iQ xa] h λa b=>asBool a λa=>K (.bool a) b)
theorem call236 {K:kQ} {h:Wa2} {xa:Int} {c0:Value} (H:F236 K h xa c0):Wa5 Tryz.prog 236 #[(iQ xa),c0] h K:=
 cQ Tryz.func236 H
def F240 (K:kQ) (h:Wa2) (xa xb xc:Option Addr):Prop:=
 (nP xc λa=>bd 0 10 (lI .u64 h (Addr.add a 2) λa=>cf 292 #[uQ a] h λa b=>asInt .i64 a λa=>nP xc λc=>lI .i64 b (Addr.add c 1) λc=>ifB (c == 0) (nP xc λd=>cf 147 #[.pointer xa,iQ 0] b λe f=>asInt .u64 e λe=>bd 0 10 (stH f (Addr.add d 2) (uQ e) λd=>nP xc λe=>stH d (Addr.add e 1) (iQ 1) λd=>nP xc λe=>bd 0 10 (lI .u64 d (Addr.add e 2) λe=>cf 292 #[uQ e] d λd e=>asInt .i64 d λd=>ifB (d == 0) (cf 106 #[.pointer xb,.slice (some (aQ e.size)) 1 1] (Array.push e (.cells #[uQ 0] 178)) λd d=>K (.tuple #[]) d) (K (.tuple #[]) e)))) (ifB (c == 1) (nP xc λc=>cf 79 #[.pointer xa] b λd e=>asAgg d λd=>We2 d 15 (Wm8 d λd f g i j k l m n o p q r s t=>cf 142 #[.agg #[d,f,g,i,j,k,l,m,n,o,p,q,r,s,t],iQ a] e λd e=>asInt .i64 d λd=>cf 147 #[.pointer xa,iQ d] e λd e=>asInt .u64 d λd=>bd 1 10 (stH e (Addr.add c 3) (uQ d) λc=>nP xc λd=>stH c (Addr.add d 1) (iQ 2) λc=>K (.tuple #[]) c))) (nP xc λc=>stH b (Addr.add c 1) (iQ 0) λb=>nP xc λc=>bd 0 10 (lI .u64 b (Addr.add c 2) λc=>nP xc λd=>bd 1 10 (lI .u64 b (Addr.add d 3) λd=>cf 293 #[.pointer xa,uQ c,iQ (IntKind.wrap .i64 d)] b λb c=>asBool b λb=>ifB b (cf 294 #[.pointer xa,iQ a] c λb b=>cf 106 #[.pointer xb,.slice (some (aQ b.size)) 1 1] (Array.push b (.cells #[uQ (IntKind.wrap .u64 a)] 178)) λa a=>K (.tuple #[]) a) (K (.tuple #[]) c)))))))
theorem call240 {K:kQ} {h:Wa2} {xa xb xc:Option Addr} (H:F240 K h xa xb xc):Wa5 Tryz.prog 240 #[(.pointer xa),(.pointer xb),(.pointer xc)] h K:=
 cQ Tryz.func240 H
def F241 (K:kQ) (h:Wa2) (xa xb xc:Option Addr):Prop:=
 (nP xc λa=>bd 0 10 (lI .u64 h (Addr.add a 2) λa=>nP xc λb=>lI .i64 h (Addr.add b 1) λb=>ifB (b == 0) (nP xc λc=>cf 147 #[.pointer xa,iQ 0] h λd e=>asInt .u64 d λd=>bd 1 10 (stH e (Addr.add c 3) (uQ d) λc=>nP xc λd=>stH c (Addr.add d 1) (iQ 1) λc=>K (.tuple #[]) c)) (ifB (b == 1) (nP xc λb=>bd 1 10 (ldH h (Addr.add b 3) λc=>asInt .u64 c λd=>cf 79 #[.pointer xa] h λe f=>asAgg e λe=>We2 e 15 (Wm8 e λe g i j k l m n o p q r s t u=>((Wa1 f (Addr.add b 3))=(some c))/\(cf 142 #[.agg #[e,g,i,j,k,l,m,n,o,p,q,r,s,t,u],iQ (IntKind.wrap .i64 a)] f λe f=>asInt .i64 e λe=>((Wa1 f (Addr.add b 3))=(some c))/\(cf 292 #[uQ d] f λb c=>asInt .i64 b λb=>cf 212 #[.pointer xa,iQ e,uQ (IntKind.wrap .u64 b)] c λb b=>nP xc λc=>stH b (Addr.add c 1) (iQ 2) λb=>K (.tuple #[]) b))))) (nP xc λb=>stH h (Addr.add b 1) (iQ 0) λb=>nP xc λc=>bd 1 10 (lI .u64 b (Addr.add c 3) λc=>cf 293 #[.pointer xa,uQ c,iQ (IntKind.wrap .i64 a)] b λb c=>asBool b λb=>ifB b (cf 295 #[.pointer xa,iQ (IntKind.wrap .i64 a)] c λb b=>cf 106 #[.pointer xb,.slice (some (aQ b.size)) 1 1] (Array.push b (.cells #[uQ (IntKind.wrap .u64 (IntKind.wrap .i64 a))] 178)) λa a=>K (.tuple #[]) a) (K (.tuple #[]) c))))))
theorem call241 {K:kQ} {h:Wa2} {xa xb xc:Option Addr} (H:F241 K h xa xb xc):Wa5 Tryz.prog 241 #[(.pointer xa),(.pointer xb),(.pointer xc)] h K:=
 cQ Tryz.func241 H
def F292 (K:kQ) (h:Wa2) (xa:Int):Prop:=
 (cf 146 #[uQ xa] h λa b=>asInt .i64 a λa=>K (iQ a) b)
theorem call292 {K:kQ} {h:Wa2} {xa:Int} (H:F292 K h xa):Wa5 Tryz.prog 292 #[(uQ xa)] h K:=
 cQ Tryz.func292 H
def F293 (K:kQ) (h:Wa2) (xa:Option Addr) (xb xc:Int):Prop:=
 (cf 228 #[uQ xb,iQ xc,.bool false] h λa b=>asInt .u64 a λa=>cf 219 #[.pointer xa,iQ 0,uQ xb,uQ a] b λa b=>asBool a λa=>K (.bool a) b)
theorem call293 {K:kQ} {h:Wa2} {xa:Option Addr} {xb xc:Int} (H:F293 K h xa xb xc):Wa5 Tryz.prog 293 #[(.pointer xa),(uQ xb),(iQ xc)] h K:=
 cQ Tryz.func293 H
end
section
open Mod
section
variable {K:kQ} {h:Wa2} {M T b o N:Nat} {tv:Value} {fo:Option (Nat × Nat)} {x:Run} {R:Hp}
theorem WU4 {w:Int} (hw:U w) (k:K (iQ (Wg8 w)) h):Wa5 Tryz.prog 292 #[uQ w] h K:=by
 refine call292 ?_
 unfold F292 cf
 refine Wa0 (Wf3 hw ?_)
 simp only [Wa4]
 exact k
theorem WU5 (H:Sat h (RunS M T tv fo x R)) {w to_:Int} (hw:U w) (hs:x.m.mm.st < 1099511627776) (k:∀h',Sat h' (RunS M T tv fo (x.cas 0 w (WB0 w to_ false)).2 R)->K (.bool (x.cas 0 w (WB0 w to_ false)).1) h') :
  Wa5 Tryz.prog 293 #[mP M,uQ w,iQ to_] h K:=by
 refine call293 ?_
 unfold F293 cf
 refine Wa0 (Wg9 hw ?_)
 simp only [Wa4]
 refine Wa0 (Zs6 H (by decide) Wq3 hs λh' H'=>?_)
 simp only [Wa9]
 exact k h' H'
theorem YI8 (H:Sat h (RunS M T tv (some (b,o)) x R)) (hs:x.m.mm.st < 1099511627776) (k:∀h',Sat h' (RunS M T tv none (alloc x) R)->K (.tuple #[]) h') :
  Wa5 Tryz.prog 240 #[mP M,mP T,fP b o] h K:=by
 refine call240 ?_
 unfold F240 cf bd lI nP Wm8
 have B:=RunS.fB H
 have P:=RunS.pl H
 unfold alloc at k
 try simp +decide only [Wb8,bsx,Nat.reduceAdd,Int.reduceLE,Int.reduceLT,Int.reduceToNat,rsx,g_s,Wa7,RunS.r H]
 refine Wa0 (WU4 (B.g 0) ?_)
 try simp +decide only [Wb8,bsx,Nat.reduceAdd,Int.reduceLE,Int.reduceLT,Int.reduceToNat,rsx,g_s,Wa7,RunS.r H]
 refine Wa3 (λc=>?_) (λc=>?_)
 ·rw [if_pos c] at k
  refine Wa0 (Wg2 H (by decide) hs λh1 H1 u1=>?_)
  refine sb ?_
  refine RunS.stR (i:=0) H1 rfl u1 λh2 H2=>RunS.stP H2 λh3 H3=>?_
  try simp +decide only [Wb8,bsx,Nat.reduceAdd,Int.reduceLE,Int.reduceLT,Int.reduceToNat,rsx,g_s,Wa7,RunS.r H3,B.len]
  refine Wa0 (WU4 u1 ?_)
  refine sb ?_
  refine Wa3 (λc2=>?_) (λc2=>?_)
  ·simp only [if_pos c2] at k
   exact Wa0 (YI6 H3 [0] rfl (Wn8 U0) (by omega) λh4 H4=>k h4 H4)
  ·simp only [if_neg c2] at k
   exact k h3 (RunS.none H3)
 rw [if_neg c] at k
 refine Wa3 (λc=>?_) (λc=>?_)
 ·rw [if_pos c] at k
  refine Wa0 (WJ8 H λh1 H1=>WF3 ?_)
  refine Wa0 (WG5 P (W64 _) λh2 o2=>?_)
  refine sb ?_
  refine Wa0 (Wg2 (RunS.old H1 o2) (Y00 P _) hs λh3 H3 u3=>?_)
  refine sb ?_
  exact RunS.stR (i:=1) H3 rfl u3 λh4 H4=>RunS.stP H4 λh5 H5=>k h5 (RunS.none H5)
 ·rw [if_neg c] at k
  refine RunS.stP H λh1 H1=>?_
  try simp +decide only [Wb8,bsx,Nat.reduceAdd,Int.reduceLE,Int.reduceLT,Int.reduceToNat,rsx,g_s,Wa7,RunS.r H1]
  refine Wa0 (WU5 H1 (B.g 0) hs λh2 H2=>?_)
  refine sb ?_
  refine Wb6 (λc=>?_) (λc=>?_)
  ·simp only [if_pos c] at k
   refine Wa0 (ZN9 H2 (W64 _) λh3 H3=>?_)
   exact Wa0 (YI6 H3 [Wg8 (x.f.g 0)] rfl (Wn8 (Wj4 _)) (by omega) λh4 H4=>k h4 H4)
  ·simp only [c] at k
   exact k h2 (RunS.none H2)
theorem Ye1 (H:Sat h (RunS M T tv (some (b,o)) x R)) (hs:x.m.mm.st < 1099511627776) (k:∀h',Sat h' (RunS M T tv none (Wu1 x) R)->K (.tuple #[]) h') :
  Wa5 Tryz.prog 241 #[mP M,mP T,fP b o] h K:=by
 refine call241 ?_
 unfold F241 cf bd lI nP Wm8
 have B:=RunS.fB H
 have P:=RunS.pl H
 unfold Wu1 at k
 try simp +decide only [Wb8,bsx,Nat.reduceAdd,Int.reduceLE,Int.reduceLT,Int.reduceToNat,rsx,g_s,Wa7,RunS.r H]
 refine Wa3 (λc=>?_) (λc=>?_)
 ·rw [if_pos c] at k
  refine Wa0 (Wg2 H (by decide) hs λh1 H1 u1=>?_)
  refine sb ?_
  exact RunS.stR (i:=1) H1 rfl u1 λh2 H2=>RunS.stP H2 λh3 H3=>k h3 (RunS.none H3)
 rw [if_neg c] at k
 refine Wa3 (λc=>?_) (λc=>?_)
 ·rw [if_pos c] at k
  refine Wa0 (WJ8 H λh1 H1=>WF3 ⟨(RunS.c H1).2.2.1,?_⟩)
  refine Wa0 (WG5 P (Wi8 _) λh2 o2=>?_)
  have H2:=RunS.old H1 o2
  try simp only [Wb8,bsx,Nat.reduceAdd,Int.reduceLE,Int.reduceLT,Int.reduceToNat,RunS.c H2]
  refine Wa0 (WU4 (B.g 1) ?_)
  refine sb ?_
  refine Wa0 (Wj3 H2 (Y00 P _) (Wj4 _) hs λh3 H3=>?_)
  exact RunS.stP H3 λh4 H4=>k h4 (RunS.none H4)
 ·rw [if_neg c] at k
  refine RunS.stP H λh1 H1=>?_
  try simp +decide only [Wb8,bsx,Nat.reduceAdd,Int.reduceLE,Int.reduceLT,Int.reduceToNat,rsx,g_s,Wa7,RunS.r H1]
  refine Wa0 (WU5 H1 (B.g 1) hs λh2 H2=>?_)
  refine sb ?_
  refine Wb6 (λc=>?_) (λc=>?_)
  ·simp only [if_pos c] at k
   refine Wa0 (ZF5 H2 (Wi8 _) λh3 H3=>?_)
   exact Wa0 (YI6 H3 [u64 (x.f.g 0)] rfl (Wn8 (Wk4 _)) (by omega) λh4 H4=>k h4 (by rw [Yo0];exact H4))
  ·simp only [c] at k
   exact k h2 (RunS.none H2)
end
end
section

end
section
def ZO1 (h:Wa2) (ad:Addr) (o:Op9):Prop:=Wa1 h ad=some (iQ o.th)/\∀j v,o.cells[j]? = some v->Wa1 h (ad.add j)=some v
theorem ld9 {h:Wa2} {ad:Addr} {o:Op9} {K:Value->Value->Value->Value->Value->Value->Value->Value->Value->Prop} (H:ZO1 h ad o)
  (k:K (iQ o.th) (iQ o.op) (.int .u32 o.key) (.int .u32 o.val) (iQ o.kind) (.int .u32 o.ak) (.int .u32 o.av) (iQ o.fr) (iQ o.to)) :
  ldH h ad λv0=>ldH h (ad.add 1) λv1=>ldH h (ad.add 2) λv2=>ldH h (ad.add 3) λv3=>ldH h (ad.add 4) λv4=>ldH h (ad.add 5) λv5=>ldH h (ad.add 6) λv6=>ldH h (ad.add 7) λv7=>ldH h (ad.add 8) λv8=>K v0 v1 v2 v3 v4 v5 v6 v7 v8:=
 Wb4 H.1 (Wb4 (H.2 1 _ rfl) (Wb4 (H.2 2 _ rfl) (Wb4 (H.2 3 _ rfl) (Wb4 (H.2 4 _ rfl) (Wb4 (H.2 5 _ rfl) (Wb4 (H.2 6 _ rfl) (Wb4 (H.2 7 _ rfl) (Wb4 (H.2 8 _ rfl) k))))))))
end
section
def OldA (av:Nat->Prop) (h h':Wa2):Prop:=h.size<=h'.size/\∀b,b < h.size->¬ av b->h'[b]? = h[b]?
theorem OldA.of {av:Nat->Prop} {h h':Wa2} (o:Old h.size h h'):OldA av h h':=⟨o.1,λb hb _=>o.2 b hb⟩
theorem OldA.cell {av:Nat->Prop} {h h':Wa2} {a:Addr} {v:Value} (o:OldA av h h') (ha:¬ av a.block) (hc:Wa1 h a=some v):Wa1 h' a=some v:=(Wg0 (o.2 _ (Wr5 hc) ha)).trans hc
def Zi4 (av:Nat->Prop) (g:Value) (L:List Int) (h:Wa2):Prop:=
 ∃f fst cap Ev,g=.func (.func f) fst cap/\Zr8 Tryz.prog g L.length (WJ4 L) Ev/\Ev h/\∀h h',OldA av h h'->Ev h->Ev h'
def KeepOnA (av:Nat->Prop) (f:Value) (D:Int->Prop) (p:Int->Bool) (h:Wa2):Prop:=
 (∃g x y,f=.func (.func g) x y)/\∃Ev:Wa2->Prop,Ev h/\(∀h h',OldA av h h'->Ev h->Ev h') /\
  ∀(h:Wa2) (x:Int) (K:kQ),Ev h->D x->(∀h',Old h.size h h'->K (.bool (p x)) h')->Wv0 Tryz.prog f #[iQ x] h K
theorem KeepOnA.old {av:Nat->Prop} {f:Value} {D:Int->Prop} {p:Int->Bool} {h h':Wa2} (H:KeepOnA av f D p h) (o:OldA av h h'):KeepOnA av f D p h':=by
 obtain ⟨e,Ev,h1,h2,h3⟩:=H
 exact ⟨e,Ev,h2 _ _ o h1,h2,h3⟩
theorem KeepOnA.call {av:Nat->Prop} {f:Value} {D:Int->Prop} {p:Int->Bool} {h:Wa2} (H:KeepOnA av f D p h) {x:Int} (hD:D x) {K:kQ} (k:∀h',Old h.size h h'->K (.bool (p x)) h'):Wv0 Tryz.prog f #[iQ x] h K:=by
 obtain ⟨_,Ev,h1,_,h3⟩:=H
 exact h3 _ _ _ h1 hD k
theorem YI9 {K:kQ} {h:Wa2} {av:Nat->Prop} {g f:Value} {L:List Int} {D:Int->Prop} {p:Int->Bool} (H:Zi4 av g L h) (Hk:KeepOnA av f D p h) (hD:∀x ∈ L,D x) (hav:∀b,av b->b < h.size)
  (k:∀g' h',Zi4 av g' (L.filter p) h'->Old h.size h h'->K g' h'):Wa5 Tryz.prog 290 #[g,f] h K:=by
 obtain ⟨f0,fst,cap,Ev,rfl,hs,he,hst⟩:=H
 obtain ⟨⟨f1,a1,a2,rfl⟩,Ek,hk1,hk2,hk3⟩:=Hk
 refine call290 ?_
 unfold F290 g290
 obtain ⟨ho,h1,h2⟩:=ZN1 (h:=h) (.cells #[.func (.func f0) fst cap] 311) (.cells #[.func (.func f1) a1 a2] 102)
 simp only [Yb7]
 rw [Array.size_push]
 generalize (h.push (.cells #[.func (.func f0) fst cap] 311)).push (.cells #[.func (.func f1) a1 a2] 102)=h5 at *
 refine ⟨λvs h'=>vs = [.bool false]/\h' = h5,?_,?_⟩
 ·refine Wb4 (Wk0 h1) ?_
  simp only [WN8,Wc5]
  refine Wb4 (Wk0 h2) ?_
  simp only [WN8]
  exact ⟨by trivial,by trivial⟩
 ·rintro v5 g6 h7 ⟨e,rfl⟩
  cases e
  simp only [Wa9,Wc5]
  refine k _ _ ⟨_,_,_,_,rfl,Zh2 hD (show fnV (.func (.func f0) fst cap) from trivial) hs (λa b o e=>hst _ _ (OldA.of o) e) (λa b o e=>hk2 _ _ (OldA.of o) e) hk3,⟨Wk0 h1,Wk0 h2,hst _ _ (OldA.of ho) he,hk2 _ _ (OldA.of ho) hk1⟩,
   λa b o e=>⟨o.cell (λx=>?_) e.1,o.cell (λx=>?_) e.2.1,hst _ _ o e.2.2.1,hk2 _ _ o e.2.2.2⟩⟩ ho
  ·have:=hav _ x;simp at this
  ·have:=hav _ x;simp at this;omega
end
section
open Mod
theorem Yo1 {K:kQ} {h:Wa2} {a:Option Addr} {l c:Nat} {xs:List Int} {x:Int} (H:RI h a l c xs) (hl:l < 2 ^ 60) (k:∀n:Int,(decide (n >= 0)=xs.contains x)->K (iQ n) h) :
  Wa5 Tryz.prog 289 #[.slice a l c,iQ x] h K:=by
 refine call289 ?_
 unfold F289 bd lI
 have hlen:=H.len
 refine ⟨λvs h'=>∃w1 w2,∃i:Nat,vs = [w1,w2,iv i]/\i<=l/\h' = h/\(xs.take i).contains x=false,λvs _=>(match vs with | [_,_,.int _ n]=>l - n.toNat | _=>0),⟨_,_,0,rfl,Nat.zero_le _,rfl,rfl⟩,?_⟩
 rintro v2 v3 v4 g5 h6 ⟨w1,w2,i,e,hi,rfl,hno⟩
 cases e
 simp only [Wa4]
 refine Wa3 (λhlt=>?_) (λhge=>?_)
 ·have hi':i < xs.length:=by omega
  obtain ⟨ad,rfl,hc⟩:=H.at hi'
  have htk:(xs.take (i+1)).contains x=((xs.take i).contains x || (xs[i] == x)):=by
   rw [List.take_succ_eq_append_getElem hi',Bool.eq_iff_iff,Bool.or_eq_true,List.contains_iff_mem,List.contains_iff_mem,List.mem_append,List.mem_singleton,beq_iff_eq]
   exact or_congr Iff.rfl eq_comm
  refine ⟨by omega,hlt,?_⟩
  simp only [Wb1,Int.toNat_natCast,Nat.mul_one]
  refine Wb4 hc ?_
  simp only [Wa4]
  refine Wb6 (λhq=>?_) (λhq=>?_)
  ·have hq':x=xs[i]:=by simpa using hq
   refine k i ?_
   have:xs.contains x=true:=by rw [hq'];simp
   rw [this];simp
  ·rw [Wm3 (by omega)]
   have hq':¬ x=xs[i]:=by simpa using hq
   exact ⟨⟨_,_,i+1,rfl,by omega,by trivial,by rw [htk,hno];simp [Ne.symm hq']⟩,by show l - ((i+1:Nat):Int).toNat < l - (i:Int).toNat;omega⟩
 ·rw [List.take_of_length_le (by omega)] at hno
  exact k (-1) (by rw [hno];decide)
theorem WZ8 {K:kQ} {h:Wa2} {a:Option Addr} {l c:Nat} {xs:List Int} {x:Int} (H:RI h a l c xs) (hl:l < 2 ^ 60) (k:K (.bool (xs.contains x)) h) :
  Wa5 Tryz.prog 237 #[.slice a l c,iQ x] h K:=by
 refine call237 ?_
 unfold F237 cf
 refine Wa0 (Yo1 H hl λn hn=>?_)
 simp only [Wa4]
 rw [hn];exact k
theorem RI.congrA {av:Nat->Prop} {h h':Wa2} {a:Option Addr} {l c:Nat} {xs:List Int} (H:RI h a l c xs) (o:OldA av h h') (ha:xs≠[]->∀ad,a=some ad->¬ av ad.block):RI h' a l c xs:=by
 refine ⟨λi v hi=>?_,H.len,H.cap⟩
 obtain ⟨ad,e,hc⟩:=H.s i v hi
 refine ⟨ad,e,(Wg0 ?_).trans hc⟩
 have hlt:=Wr5 hc
 rw [WR9] at hlt ⊢
 exact o.2 _ hlt (ha (λe=>by rw [e] at hi;simp at hi) ad e)
theorem Y01 {K:kQ} {h:Wa2} {av:Nat->Prop} {a:Option Addr} {l c:Nat} {xs:List Int} (H:RI h a l c xs) (hl:l < 2 ^ 60) (hna:xs≠[]->∀ad,a=some ad->¬ av ad.block) (hav:∀b,av b->b < h.size) (k:∀g h',Zi4 av g xs h'->Old h.size h h'->K g h') :
  Wa5 Tryz.prog 291 #[.slice a l c] h K:=by
 refine call291 ?_
 unfold F291
 have o1:Old h.size h (h.push (.cells #[.slice a l c] 25)):=(Old.refl _ _).push _ (Nat.le_refl _)
 exact k _ _ ⟨_,_,_,_,rfl,ZE7 hl,⟨Wk0 (Wo3 _ _),H.old o1⟩,λh h' o e=>⟨o.cell (λx=>by have:=hav _ x;simp at this) e.1,e.2.congrA o hna⟩⟩ o1
theorem W66 {h:Wa2} {N:Nat} {g:Value} {L:List Int} {D:Wa2->Prop} (H:Zi4 (λb=>b=N) g L h) (hN:h[N]? = some (.cells #[.slice none 0 0] 25)) (hn:L.length<=2 ^ 39)
  (k:∀h' a c,h.size<=h'.size->(∀b,b < h.size->b≠N->h'[b]? = h[b]?)->h'[N]? = some (.cells #[.slice a L.length c] 25)->OwnI h' a L.length c L->(∀b,blk a b->h.size<=b)->D h') :
  WQ9 Tryz.prog g 1 h (λI vs hh=>asInt .i64 (vs.getD 0 (.tuple #[])) λn=>ldH hh (aQ N) λv=>Wb3 v λo l c=>Wt2 Tryz.prog #[25,25] 25 #[.slice o l c,.slice (some (aQ hh.size)) 1 1] (hh.push (.cells #[iQ n] 3)) λv h2=>Wb3 v λo l c=>stH h2 (aQ N) (.slice o l c) λh3=>I .normal h3) D []:=by
 obtain ⟨f0,fst,cap,Ev,rfl,hs,he,hst⟩:=H
 have hlt:=(Array.getElem?_eq_some_iff.1 hN).1
 refine YH0 (n:=L.length) (xs:=WJ4 L) (Ev:=Ev)
  (λj w h'=>h.size<=h'.size/\(∀b,b < h.size->b≠N->h'[b]? = h[b]?)/\∃a c,h'[N]? = some (.cells #[.slice a j c] 25)/\OwnI h' a j c (L.take j)/\∀b,blk a b->w b) (λ_ _ _=>False)
  (show fnV (.func (.func f0) fst cap) from trivial) hs (λ_ _=>rfl) ?_ (λ_ _ _ _ _ _ _ x=>x) (λj w' h' x=>hst _ _ ⟨x.1,x.2.1⟩ he) ⟨Nat.le_refl _,λ_ _ _=>rfl,none,0,hN,Own.nil _ _ _,λb hb=>by obtain ⟨_,e,_⟩:=hb;cases e⟩ ?_ ?_ trivial
 ·rintro j w' ha hb hs1 hs2 hw ⟨x1,x2,a,c,x3,x4,x5⟩
  exact ⟨Nat.le_trans x1 hs1,λb hb hne=>(hs2 b hb).trans (x2 b hb hne),a,c,(hs2 _ hlt).trans x3,x4.congr λb hb=>hw b (x5 b hb),x5⟩
 ·rintro M j w' h13 hj hM hs1 hw ⟨x1,x2,a,c,x3,x4,x5⟩
  have e2:(WJ4 L j).getD 0 (.tuple #[])=iQ L[j]:=by unfold WJ4;simp [hj]
  rw [e2]
  simp only [Wa4]
  refine Wb4 (Wk0 x3) ?_
  simp only [Wb0]
  refine Zv3 x4 (by omega) λa2 c2 h2 own2 hs2 old2 hor=>?_
  simp only [Wb0]
  have hNa:∀ad,a=some ad->ad.block≠N:=λad e he=>by
   have:=(hw _ (x5 _ ⟨ad,e,rfl⟩)).1
   omega
  have x3':h2[N]? = some (.cells #[.slice a j c] 25):=(old2 _ (by omega) hNa).trans x3
  refine Yb6 x3' (by simp) trivial ?_
  rintro h21 rfl
  have hbig:∀b,blk a2 b->M<=b:=by
   rintro b ⟨ad,e,rfl⟩
   rcases hor with rfl | ⟨b',rfl,hb⟩
   ·exact (hw _ (x5 _ ⟨ad,e,rfl⟩)).1
   ·cases e;show M<=b';omega
  have own3:OwnI (h2.setIfInBounds N (.cells ((#[.slice a j c]:Array Value).setIfInBounds 0 (.slice a2 (j+1) c2)) 25)) a2 (j+1) c2 (L.take j ++ [L[j]]):=
   own2.congr λb hb=>Wm7 (by have:=hbig b hb;omega)
  refine ⟨⟨by simp;exact hs2,λb hb1 hb2=>?_⟩,by simp;omega,blk a2,λb hb=>⟨hbig b hb,?_⟩,by simp;omega,λb hb hne=>?_,a2,c2,?_,?_,λb hb=>hb⟩
  ·refine (Wm7 (by omega)).trans (old2 b (by omega) λad e he=>?_)
   have:=(hw _ (x5 _ ⟨ad,e,rfl⟩)).1
   omega
  ·rcases own3.2.2 with ⟨e,_⟩ | ⟨b',row,e,hb',_⟩
   ·obtain ⟨_,e',_⟩:=hb;rw [e] at e';cases e'
   ·obtain ⟨ad,e',rfl⟩:=hb
    rw [e] at e'
    cases e'
    exact ⟨row,_,_,hb'⟩
  ·refine (Wm7 hne).trans ((old2 b (by omega) λad e he=>?_).trans (x2 b hb hne))
   have:=(hw _ (x5 _ ⟨ad,e,rfl⟩)).1
   omega
  ·exact Wl6 (by omega)
  ·rw [List.take_succ_eq_append_getElem hj];exact own3
 ·rintro M w' h22 hM hs1 hw ⟨x1,x2,a,c,x3,x4,x5⟩
  rw [List.take_length] at x4
  exact k h22 a c x1 x2 x3 x4 λb hb=>by have:=(hw b (x5 b hb)).1;omega
end
section
open Mod
def Thr.setRe (t:Thr) (l:List Int):Thr:={ t with retired:=l }
def Thr.setFo (t:Thr) (l:List Int):Thr:={ t with found:=l }
theorem Yo2 {h:Wa2} {T:Nat} {fo:Option (Nat × Nat)} {t:Thr} {id:Int} {R:Hp} (H:Sat h (Wk9 T fo t id*R)):∃a c,Wa1 h ⟨T,8,none⟩=some (.slice a t.retired.length c)/\OwnI h a t.retired.length c t.retired:=by
 obtain ⟨B,x,H0⟩:=We0.1 H
 exact ⟨_,_,Wd3 H0.at rfl,Sat.own (Sat.drop (Sat.drop (Sat.drop (Sat.drop (Sat.drop H0)))))⟩
theorem Zx1 {h:Wa2} {T:Nat} {fo:Option (Nat × Nat)} {t:Thr} {id:Int} {R:Hp} (H:Sat h (Wk9 T fo t id*R)):∃a c,Wa1 h ⟨T,9,none⟩=some (.slice a t.found.length c)/\OwnF h a t.found.length c t.found:=by
 obtain ⟨B,x,H0⟩:=We0.1 H
 exact ⟨_,_,Wd3 H0.at rfl,Sat.ownf (Sat.drop (Sat.drop (Sat.drop (Sat.drop (Sat.drop (Sat.drop H0))))))⟩
theorem YJ0 {h:Wa2} {T:Nat} {fo:Option (Nat × Nat)} {t:Thr} {id:Int} {R:Hp} {a:Option Addr} {l c:Nat} {xs:List Int} {K:Wa2->Prop} (H:Sat h (Wf1 3 1 a l c (xs.map iv)*(Wk9 T fo t id*R))) (hx:∀v ∈ xs,iN v) (hl:l<=1073741824)
  (k:∀h',Sat h' (Wk9 T fo (Thr.setRe t xs) id*R)->K h'):stH h ⟨T,8,none⟩ (.slice a l c) K:=by
 have hlen:xs.length=l:=by have:=H.own.1;simpa using this
 rw [Wb7] at H
 obtain ⟨B,x,H0⟩:=We0.1 H
 refine H0.st rfl trivial λh' H1=>k h' (We0.2 ⟨{ B with re:=a,ren:=c },⟨?_,?_⟩,?_⟩)
 ·obtain ⟨b1,b2,b3,b4,b5,b6,b7,b8⟩:=x.1
  exact ⟨b1,b2,b3,b4,b5,hx,b7,by unfold Thr.setRe;simp only;omega⟩
 ·exact x.2
 ·unfold Thr.setRe WQ0
  simp only [hlen]
  refine Sat.drop (P:=Wf1 3 1 B.re t.retired.length B.ren (t.retired.map iv)) (Sat.ac H1 ?_)
  simp only [List.set_cons_succ,List.set_cons_zero]
  ac_rfl
theorem YJ1 {h:Wa2} {T:Nat} {fo:Option (Nat × Nat)} {t:Thr} {id:Int} {R:Hp} {a:Option Addr} {l c:Nat} {xs:List Int} {K:Wa2->Prop} (H:Sat h (WP8 a l c xs*(Wk9 T fo t id*R))) (hx:∀v ∈ xs,iN v) (hl:l<=1073741824)
  (k:∀h',Sat h' (Wk9 T fo (Thr.setFo t xs) id*R)->K h'):stH h ⟨T,9,none⟩ (.slice a l c) K:=by
 have hlen:xs.length=l:=H.ownf.1
 rw [Wb7] at H
 obtain ⟨B,x,H0⟩:=We0.1 H
 refine H0.st rfl trivial λh' H1=>k h' (We0.2 ⟨{ B with fo:=a,fon:=c },⟨?_,?_⟩,?_⟩)
 ·obtain ⟨b1,b2,b3,b4,b5,b6,b7,b8⟩:=x.1
  exact ⟨b1,b2,b3,b4,b5,b6,hx,by unfold Thr.setFo;simp only;omega⟩
 ·exact x.2
 ·unfold Thr.setFo WQ0
  simp only [hlen]
  refine Sat.drop (P:=WP8 B.fo t.found.length B.fon t.found) (Sat.ac H1 ?_)
  simp only [List.set_cons_succ,List.set_cons_zero]
  ac_rfl
theorem WU6 {h:Wa2} {T:Nat} {fo:Option (Nat × Nat)} {t:Thr} {id:Int} {R:Hp} (H:Sat h (Wk9 T fo t id*R)):∃a c,∃Q:Hp,(∀h' P,Sat h' (Q*P)->Wa1 h' ⟨T,9,none⟩=some (.slice a t.found.length c))/\Sat h (WP8 a t.found.length c t.found*(Q*R)) /\
  ∀R' h' a' l' c' xs,l'<=1073741824->(∀v ∈ xs,iN v)->Sat h' (WP8 a' l' c' xs*(Q*R'))->∀K:Wa2->Prop,(∀h'',Sat h'' (Wk9 T fo (Thr.setFo t xs) id*R')->K h'')->stH h' ⟨T,9,none⟩ (.slice a' l' c') K:=by
 obtain ⟨B,x,H0⟩:=We0.1 H
 refine ⟨B.fo,B.fon,pt T (.cells (WQ0 B t id).toArray 183)*(Wf1 190 12 B.fr t.fr.length B.frn (t.fr.flatMap frc)*(pt B.pred (.cells (uvs t.pred).toArray 178)*(pt B.succ (.cells (uvs t.succ).toArray 178)*(pt B.word (.cells (uvs t.word).toArray 178)*Wf1 3 1 B.re t.retired.length B.ren (t.retired.map iv))))),λh' P HQ=>Wd3 (Sat.at (Wc7 _ _ _ ▸ HQ)) rfl,Sat.ac H0 (by ac_rfl),?_⟩
 intro R' h' a' l' c' xs hl hx H1 K k
 have hlen:xs.length=l':=H1.ownf.1
 have H2:Sat h' (pt T (.cells (WQ0 B t id).toArray 183)*(Wf1 190 12 B.fr t.fr.length B.frn (t.fr.flatMap frc)*(pt B.pred (.cells (uvs t.pred).toArray 178)*(pt B.succ (.cells (uvs t.succ).toArray 178)*(pt B.word (.cells (uvs t.word).toArray 178)*(Wf1 3 1 B.re t.retired.length B.ren (t.retired.map iv)*(WP8 a' l' c' xs*R'))))))):=Sat.ac H1 (by ac_rfl)
 refine H2.st rfl trivial λh'' H3=>k h'' (We0.2 ⟨{ B with fo:=a',fon:=c' },⟨?_,?_⟩,?_⟩)
 ·obtain ⟨b1,b2,b3,b4,b5,b6,b7,b8⟩:=x.1
  exact ⟨b1,b2,b3,b4,b5,b6,hx,by unfold Thr.setFo;simp only;omega⟩
 ·exact x.2
 ·unfold Thr.setFo WQ0
  simp only [hlen]
  exact H3
theorem Yo3 {h:Wa2} {T:Nat} {fo:Option (Nat × Nat)} {t:Thr} {id:Int} {R:Hp} (H:Sat h (Wk9 T fo t id*R)):∃a c,∃Q:Hp,(∀h' P,Sat h' (Q*P)->Wa1 h' ⟨T,8,none⟩=some (.slice a t.retired.length c))/\Sat h (Wf1 3 1 a t.retired.length c (t.retired.map iv)*(Q*R)) /\
  ∀R' h' a' l' c' xs,l'<=1073741824->(∀v ∈ xs,iN v)->Sat h' (Wf1 3 1 a' l' c' (xs.map iv)*(Q*R'))->∀K:Wa2->Prop,(∀h'',Sat h'' (Wk9 T fo (Thr.setRe t xs) id*R')->K h'')->stH h' ⟨T,8,none⟩ (.slice a' l' c') K:=by
 obtain ⟨B,x,H0⟩:=We0.1 H
 refine ⟨B.re,B.ren,pt T (.cells (WQ0 B t id).toArray 183)*(Wf1 190 12 B.fr t.fr.length B.frn (t.fr.flatMap frc)*(pt B.pred (.cells (uvs t.pred).toArray 178)*(pt B.succ (.cells (uvs t.succ).toArray 178)*(pt B.word (.cells (uvs t.word).toArray 178)*WP8 B.fo t.found.length B.fon t.found)))),λh' P HQ=>Wd3 (Sat.at (Wc7 _ _ _ ▸ HQ)) rfl,Sat.ac H0 (by ac_rfl),?_⟩
 intro R' h' a' l' c' xs hl hx H1 K k
 have hlen:xs.length=l':=by have:=H1.own.1;simpa using this
 have H2:Sat h' (pt T (.cells (WQ0 B t id).toArray 183)*(Wf1 190 12 B.fr t.fr.length B.frn (t.fr.flatMap frc)*(pt B.pred (.cells (uvs t.pred).toArray 178)*(pt B.succ (.cells (uvs t.succ).toArray 178)*(pt B.word (.cells (uvs t.word).toArray 178)*(Wf1 3 1 a' l' c' (xs.map iv)*(WP8 B.fo t.found.length B.fon t.found*R'))))))):=Sat.ac H1 (by ac_rfl)
 refine H2.st rfl trivial λh'' H3=>k h'' (We0.2 ⟨{ B with re:=a',ren:=c' },⟨?_,?_⟩,?_⟩)
 ·obtain ⟨b1,b2,b3,b4,b5,b6,b7,b8⟩:=x.1
  exact ⟨b1,b2,b3,b4,b5,hx,b7,by unfold Thr.setRe;simp only;omega⟩
 ·exact x.2
 ·unfold Thr.setRe WQ0
  simp only [hlen]
  exact H3
theorem Sat.app1 {h:Wa2} {a:Option Addr} {l c:Nat} {xs:List Int} {y:Int} {K:kQ} {R:Hp} (H:Sat h (Wf1 3 1 a l c (xs.map iv)*R)) (hl:l<=1099511627776) (k:∀a' c' h',Sat h' (Wf1 3 1 a' (l+1) c' ((xs ++ [y]).map iv)*R)->K (.slice a' (l+1) c') h') :
  Wt2 Tryz.prog #[25,25] 25 #[.slice a l c,.slice (some (aQ h.size)) 1 1] (h.push (.cells #[iQ y] 3)) K:=by
 have H1:=H.push (.cells #[iQ y] 3)
 generalize h.push (.cells #[iQ y] 3)=h1 at *
 generalize h.size=N at *
 have hs:Sees h1 (some (aQ N)) [iv y]:=λi v hi=>⟨_,rfl,by rw [Wc4,Nat.zero_add,Wc1 H1.at];simpa using hi⟩
 rw [Wb7,<- Wl7] at H1
 refine H1.app WP6 WJ0 W50 (by rw [Wl7];rfl) hs (n:=1) (by rw [Wl7];rfl) (by simp [Wi4]) (by rw [WA9];omega) (by rw [WA9];omega) λa' c' h' H2=>k a' c' h' ?_
 rw [Wl7] at H2
 rw [List.map_append]
 exact H2.drop2
theorem Sat.appF {h:Wa2} {a:Option Addr} {l c:Nat} {xs:List Int} {y:Int} {K:kQ} {R:Hp} (H:Sat h (WP8 a l c xs*R)) (hl:l<=1099511627776) (k:∀a' c' h',Sat h' (WP8 a' (l+1) c' (xs ++ [y])*R)->K (.slice a' (l+1) c') h') :
  Wt2 Tryz.prog #[25,25] 25 #[.slice a l c,.slice (some (aQ h.size)) 1 1] (h.push (.cells #[iQ y] 3)) K:=by
 have H1:=H.push (.cells #[iQ y] 3)
 generalize h.push (.cells #[iQ y] 3)=h1 at *
 generalize h.size=N at *
 have hs:Sees h1 (some (aQ N)) [iv y]:=λi v hi=>⟨_,rfl,by rw [Wc4,Nat.zero_add,Wc1 H1.at];simpa using hi⟩
 have H2:=H1.drop
 obtain ⟨ow,hlt,re⟩:=H2.opn
 have hxl:=ow.1
 refine Zh5 WP6 WJ0 W50 (by rw [Wl7];rfl) ow.ri.s (by rw [Wl7,List.length_map];omega) ow.2.1 hs (n:=1) (by rw [Wl7];rfl) (by simp [Wi4]) (by rw [WA9];omega) (by rw [WA9];omega) (λhc ad ea=>?_) (λhc ea=>?_) (λc' h' o' old=>?_)
 ·rw [Wl7,Nat.mul_one]
  obtain ⟨h1',h2',h3'⟩:=ow
  rcases h3' with ⟨e,_⟩ | ⟨b,o,row,e,hb,hsz,ht⟩
  ·rw [ea] at e;cases e
  ·rw [ea] at e
   cases e
   rw [Wc4]
   have hbl:=(Array.getElem?_eq_some_iff.1 hb).1
   refine WM2 [iv y] h1 b (o+l) 0 row _ _ hb (by simp;omega) (by simp [Wi4]) λrow' r1 r2=>?_
   have hlen:(row.toList.drop o).length >= l:=by rw [List.length_drop,Array.length_toList];omega
   refine k a c _ (re _ (blk a) (λh=>OwnF h a (l+1) c (xs ++ [y])) ⟨by simp,λc2 hc2 hn=>Wm7 λe=>hn ⟨_,ea,e.symm⟩⟩ (λb2 hb2=>⟨.inl hb2,by simpa using hlt b2 hb2⟩) (λb2 ob hb2 e2 x hx=>?_) λh'' e2=>?_)
   ·obtain ⟨ad2,ea2,rfl⟩:=hb2
    rw [ea] at ea2;cases ea2
    rw [Wl6 hbl] at e2;cases e2;cases hx
   ·refine ⟨by simp;omega,hc,.inr ⟨b,o,row',ea,(e2 b ⟨_,ea,rfl⟩).trans (Wl6 hbl),by omega,?_⟩⟩
    apply List.ext_getElem?
    intro j
    rw [List.getElem?_take,List.getElem?_drop,Array.getElem?_toList,r2]
    have hx:∀j,j < l->(xs.map iv)[j]? = row[o+j]?:=λj hj=>by rw [<- ht,List.getElem?_take,if_pos hj,List.getElem?_drop,Array.getElem?_toList]
    simp only [List.length_singleton,List.map_append,List.map_cons,List.map_nil]
    by_cases c1:j < l
    ·rw [if_pos (by omega),if_neg (by omega),List.getElem?_append_left (by simp;omega),hx j c1]
    ·by_cases c2:j=l
     ·subst c2
      rw [if_pos (by omega),if_pos (by omega),List.getElem?_append_right (by simp;omega),List.length_map,h1']
      congr 1;omega
     ·rw [if_neg (by omega)]
      symm;apply List.getElem?_eq_none;simp;omega
 ·obtain ⟨h1',h2',h3'⟩:=ow
  rcases h3' with ⟨_,e⟩ | ⟨b,o,row,e,_⟩
  ·omega
  ·rw [ea] at e;cases e
 ·have o2:OwnF h' (some (aQ h1.size)) (l+1) c' (xs ++ [y]):=OwnF.of (by rw [Wl7] at o';unfold OwnI;simpa using o')
  have H3:Sat h' (WP8 (some ⟨h1.size,0,none⟩) (l+1) c' (xs ++ [y])*(WP8 a l c xs*R)):=H2.mk_new old (λb hb=>⟨by obtain ⟨ad,e,rfl⟩:=hb;cases e;exact Nat.le_refl _,o2.lt2 hb⟩) o2.nd λh'' e=>o2.congr e
  exact k _ c' h' H3.drop2
theorem W67 {K:kQ} {h:Wa2} {T:Nat} {fo:Option (Nat × Nat)} {t:Thr} {id:Int} {R:Hp} {y:Int} (H:Sat h (Wk9 T fo t id*R)) (hy:iN y) (hl:t.retired.length < 1073741824) (k:∀h',Sat h' (Wk9 T fo (Thr.setRe t (t.retired ++ [y])) id*R)->K (.tuple #[]) h') :
  Wa5 Tryz.prog 235 #[.pointer (some ⟨T,8,none⟩),iQ y] h K:=by
 refine call235 ?_
 unfold F235 lS nP
 obtain ⟨a,c,Q,e,H1,re⟩:=Yo3 H
 have e0:=e h _ H1.drop
 have hB:=(YA3 H).re
 refine sb ?_
 refine Wb4 e0 ?_
 refine sb ?_
 refine H1.app1 (by omega) λa' c' h' H2=>?_
 refine sb ?_
 refine re _ h' a' _ c' _ (by omega) (λv hv=>?_) H2 _ k
 rcases List.mem_append.1 hv with h1 | h1
 ·exact hB v h1
 ·rw [List.mem_singleton.1 h1];exact hy
theorem Wv7 {K:kQ} {h:Wa2} {T:Nat} {fo:Option (Nat × Nat)} {t:Thr} {id:Int} {R:Hp} (H:Sat h (Wk9 T fo t id*R)) (k:K (iQ (t.retired.length:Int)) h) :
  Wa5 Tryz.prog 211 #[.pointer (some ⟨T,8,none⟩)] h K:=by
 refine call211 ?_
 unfold F211 lS nP
 obtain ⟨a,c,e0,ow⟩:=Yo2 H
 refine sb ?_
 refine Wb4 e0 ?_
 refine sb ?_
 exact k
theorem New.part {h h':Wa2} {a:Option Addr} {l c:Nat} {xs:List Int} {R:Hp} (H:New h h' a l c xs) (S:Sat h R) (o:Old h.size h h'):∃Q:Hp,Sat h' (Q*R)/\∀h P,Sat h (Q*P)->RI h a l c xs:=by
 rcases H with ⟨h1,h2,h3⟩ | ⟨h1,h2⟩
 ·subst h1;subst h2;subst h3
  exact ⟨emp,by rw [Wl0];exact S.old o,λh P _=>⟨Sees.nil _ _,rfl,Nat.le_refl _⟩⟩
 ·refine ⟨Wf1 3 1 a l c (xs.map iv),S.mk_new o (λb hb=>?_) h1.nd λh'' e=>h1.congr e,λh P S=>OwnI.ri S.own⟩
  refine ⟨?_,h1.lt2 hb⟩
  obtain ⟨ad,e,rfl⟩:=hb
  exact h2 ad e
theorem W68 {K:kQ} {h:Wa2} {T:Nat} {fo:Option (Nat × Nat)} {t:Thr} {id:Int} {R:Hp} (H:Sat h (Wk9 T fo t id*R)) (k:∀a' c' h' Q,Sat h' (Q*(Wk9 T fo t id*R))->(∀h P,Sat h (Q*P)->RI h a' t.retired.length c' t.retired)->K (.slice a' t.retired.length c') h') :
  Wa5 Tryz.prog 238 #[.pointer (some ⟨T,8,none⟩)] h K:=by
 refine call238 ?_
 unfold F238 cf lS nP
 obtain ⟨a,c,e0,ow⟩:=Yo2 H
 have hB:=(YA3 H).len
 refine sb ?_
 refine Wb4 e0 ?_
 refine sb ?_
 refine Wa0 (YV5 (OwnI.ri ow) (by omega) λa' c' h' hn o=>?_)
 refine sb ?_
 obtain ⟨Q,h1,h2⟩:=hn.part H o
 exact k a' c' h' Q h1 h2
theorem WU7 {K:kQ} {h:Wa2} {w:Int} (hw:U w) (k:K (uQ (Wg8 w)) h):Wa5 Tryz.prog 231 #[uQ w] h K:=by
 refine call231 ?_
 unfold F231 cf
 refine Wa0 (Wf3 hw ?_)
 refine sb ?_
 exact k
def cfV (c:Mod.Cf):Value:=.agg #[iQ c.algo,iQ c.threads,iQ c.nodes,iQ c.level,iQ c.batch,iQ c.probes,iQ c.scan]
theorem cf7 {c:Mod.Cf} {F:Value->Value->Value->Value->Value->Value->Value->Prop} (k:F (iQ c.algo) (iQ c.threads) (iQ c.nodes) (iQ c.level) (iQ c.batch) (iQ c.probes) (iQ c.scan)) :
 asAgg (cfV c) λvs=>We2 vs 7 (Wc2 vs 0 λv0=>Wc2 vs 1 λv1=>Wc2 vs 2 λv2=>Wc2 vs 3 λv3=>Wc2 vs 4 λv4=>Wc2 vs 5 λv5=>Wc2 vs 6 λv6=>F v0 v1 v2 v3 v4 v5 v6):=k
theorem Wh6 {K:kQ} {h:Wa2} {p:Pl} (k:∀h',Old h.size h h'->K (cfV p.c) h'):Wa5 Tryz.prog 139 #[plV p] h K:=by
 refine call139 ?_
 unfold F139 g139 da7 dl7 dw7
 rw [WT6]
 have p1:=Wf2 h (plc p).toArray 117
 generalize h.push (.cells (plc p).toArray 117)=h1 at *
 have p2:=Wf2 h1 Zd8 23
 generalize h1.push (.cells Zd8 23)=h2 at *
 have hs1:=p1.size
 have O:h2[h.size]? = some (.cells (plc p).toArray 117):=(p2.old _ (by omega)).trans p1.new
 refine ldR O rfl (ldR O rfl (ldR O rfl (ldR O rfl (ldR O rfl (ldR O rfl (ldR O rfl ?_))))))
 refine st7 (Wd9 (vs:=cfc p.c) p2.new rfl (by simp [cfc,Wi4]) λh3 w=>?_)
 have Q:=w.new
 refine ldR Q rfl (ldR Q rfl (ldR Q rfl (ldR Q rfl (ldR Q rfl (ldR Q rfl (ldR Q rfl ?_))))))
 exact k h3 ((p1.toOld.trans (p2.toOld.mono (by omega))).trans ⟨by rw [w.size];exact Nat.le_refl _,λc hc=>w.old c (by omega)⟩)
theorem WN9 {p:Pl} (B:PlB p) (t s:Int):iN (p.haz t s):=by
 have h1:=B.th
 have h2:=B.sl
 have h3:=B.hz
 unfold Pl.haz
 split
 ·rename_i c
  have:t*p.slots<=6*14:=Int.mul_le_mul (by omega) (by omega) (by omega) (by omega)
  have h0:0<=t*p.slots:=Int.mul_nonneg (by omega) (by omega)
  constructor <;> omega
 ·constructor <;> omega
section
variable {K:kQ} {h:Wa2} {M T b o N:Nat} {tv:Value} {fo:Option (Nat × Nat)} {x:Run} {R:Hp}
theorem RunS.tc (H:Sat h (RunS M T tv fo x R)):Wa1 h ⟨T,0,Option.none⟩=some (iQ x.id)/\(∀F:Value->Prop,ldH h ⟨T,0,Option.none⟩ F=F (iQ x.id))/\(∀F:Value->Prop,ldH h ⟨T,2,Option.none⟩ F=F (uQ (x.ret 0)))/\(∀F:Value->Prop,ldH h ⟨T,3,Option.none⟩ F=F (uQ (x.ret 1)))/\(∀F:Value->Prop,ldH h ⟨T,4,Option.none⟩ F=F (uQ (x.ret 2))) /\
  Wa1 h ⟨T,2,Option.none⟩=some (uQ (x.ret 0))/\Wa1 h ⟨T,3,Option.none⟩=some (uQ (x.ret 1))/\(∀ob,Wa1 (h.push ob) ⟨T,2,Option.none⟩=some (uQ (x.ret 0)))/\(∀ob,Wa1 (h.push ob) ⟨T,3,Option.none⟩=some (uQ (x.ret 1)))/\(∀ob,Wa1 (h.push ob) ⟨T,0,Option.none⟩=some (iQ x.id)):=by
 obtain ⟨B,e⟩:=W62 (RunS.thr H)
 have c0:=Wd3 (i:=0) e rfl
 have c2:Wa1 h ⟨T,2,Option.none⟩=some (uQ (x.ret 0)):=Wd3 (i:=2) e rfl
 have c3:Wa1 h ⟨T,3,Option.none⟩=some (uQ (x.ret 1)):=Wd3 (i:=3) e rfl
 have c4:Wa1 h ⟨T,4,Option.none⟩=some (uQ (x.ret 2)):=Wd3 (i:=4) e rfl
 refine ⟨c0,λF=>?_,λF=>?_,λF=>?_,λF=>?_,c2,c3,λ_=>Wc8 c2,λ_=>Wc8 c3,λ_=>Wc8 c0⟩
 ·unfold ldH;rw [c0]
 ·unfold ldH;rw [c2]
 ·unfold ldH;rw [c3]
 ·unfold ldH;rw [c4]
theorem RunS.al {N:Nat} {ty:TypeId} {v0 v1 v2:Value} (H:Sat h (RunS M T tv (some (b,o)) x (pt N (.cells #[v0,v1,v2] ty)*R))):type_of% (And.intro (RunS.l H) (And.intro (RunS.r H) (And.intro (RunS.c H) (And.intro (RunS.cp H) (RunS.tc H))))):=And.intro (RunS.l H) (And.intro (RunS.r H) (And.intro (RunS.c H) (And.intro (RunS.cp H) (RunS.tc H))))
theorem Ye2 (H:Sat h (RunS M T tv (some (b,o)) x R)) (hi:iN x.id) (hs:x.m.mm.st < 1099511627776) (k:∀h',Sat h' (RunS M T tv none (Wu3 x) R)->K (.tuple #[]) h') :
  Wa5 Tryz.prog 161 #[mP M,mP T,fP b o] h K:=by
 refine call161 ?_
 unfold F161 cf bd lI nP Wm8
 have B:=RunS.fB H
 have P:=RunS.pl H
 unfold Wu3 at k
 try simp +decide only [Wb8,bsx,Nat.reduceAdd,Int.reduceLE,Int.reduceLT,Int.reduceToNat,rsx,g_s,Wa7,RunS.r H,RunS.tc H]
 refine Wa3 (λc=>?_) (λc=>?_)
 ·rw [if_pos c] at k
  refine Wa0 (Wg2 H (Wi8 _) hs λh1 H1 u1=>?_)
  refine sb ?_
  refine RunS.stR (i:=2) H1 rfl u1 λh2 H2=>RunS.stP H2 λh3 H3=>?_
  try simp +decide only [Wb8,bsx,Nat.reduceAdd,Int.reduceLE,Int.reduceLT,Int.reduceToNat,rsx,g_s,Wa7,RunS.r H3,B.len]
  refine Wa0 (WU7 u1 ?_)
  try simp +decide only [Wb8,bsx,Nat.reduceAdd,Int.reduceLE,Int.reduceLT,Int.reduceToNat,rsx,g_s,Wa7,RunS.r H3,B.len]
  refine Wa3 (λc2=>?_) (λc2=>?_)
  ·simp only [if_pos c2] at k
   exact Wa0 (YI6 H3 [(x.load (s64 (x.f.g 1))).1] rfl (Wn8 u1) (by omega) λh4 H4=>k h4 H4)
  ·simp only [if_neg c2] at k
   exact k h3 (RunS.none H3)
 rw [if_neg c] at k
 refine Wa3 (λc=>?_) (λc=>?_)
 ·rw [if_pos c] at k
  refine Wa0 (WJ8 H λh1 H1=>WF3 ?_)
  refine ⟨(RunS.c H1).2.2.2.1,(RunS.c H1).2.1,(RunS.tc H1).1,?_⟩
  refine Wa0 (Wq4 P hi (Wi8 _) λh2 o2=>?_)
  have H2:=RunS.old H1 o2
  try simp +decide only [Wb8,bsx,Nat.reduceAdd,Int.reduceLE,Int.reduceLT,Int.reduceToNat,rsx,g_s,Wa7,RunS.c H2]
  refine Wa0 (WU7 (B.g 2) ?_)
  refine sb ?_
  refine Wa0 (Wj3 H2 (WN9 P _ _) (Wj4 _) hs λh3 H3=>?_)
  exact RunS.stP H3 λh4 H4=>k h4 (RunS.none H4)
 ·rw [if_neg c] at k
  refine Wa0 (Wg2 H (Wi8 _) hs λh1 H1 u1=>?_)
  refine sb ?_
  refine ⟨λvs h'=>vs = [.bool (decide ((x.load (s64 (x.f.g 1))).1=x.f.g 2\/Wg8 (x.load (s64 (x.f.g 1))).1=0))]/\h' = h1,?_,?_⟩
  ·try simp +decide only [Wb8,bsx,Nat.reduceAdd,Int.reduceLE,Int.reduceLT,Int.reduceToNat,rsx,g_s,Wa7,RunS.r H1]
   refine Wa3 (λq=>by rw [decide_eq_true (.inl q)]) (λq=>?_)
   refine Wa0 (WU7 u1 ?_)
   refine sb ?_
   congr 2
   rw [Bool.eq_iff_iff,beq_iff_eq,decide_eq_true_iff]
   exact ⟨.inr,λh=>h.resolve_left q⟩
  rintro v71 g72 h73 ⟨e,rfl⟩
  cases e
  refine sb ?_
  refine Wa3 (λc2=>?_) (λc2=>?_)
  ·simp only [if_pos c2] at k
   exact Wa0 (YI6 H1 [(x.load (s64 (x.f.g 1))).1] rfl (Wn8 u1) (by omega) λh4 H4=>k h4 H4)
  ·simp only [if_neg c2] at k
   exact RunS.stR (i:=2) H1 rfl u1 λh2 H2=>RunS.stP H2 λh3 H3=>k h3 (RunS.none H3)
theorem Y02 (H:Sat h (RunS M T tv (some (b,o)) x R)) (hi:iN x.id) (hpc:0<=x.f.pc/\x.f.pc<=100) (hs:x.m.mm.st < 1099511627776) (k:∀h',Sat h' (RunS M T tv none (YW9 x) R)->K (.tuple #[]) h') :
  Wa5 Tryz.prog 162 #[mP M,mP T,fP b o] h K:=by
 refine call162 ?_
 unfold F162 cf lI nP Wm8
 have B:=RunS.fB H
 have P:=RunS.pl H
 unfold YW9 at k
 try simp +decide only [Wb8,bsx,Nat.reduceAdd,Int.reduceLE,Int.reduceLT,Int.reduceToNat,rsx,g_s,Wa7,RunS.r H,RunS.tc H]
 refine Wa0 (WJ8 H λh1 H1=>WF3 ?_)
 try refine ⟨(RunS.c H1).1,?_⟩
 refine Wa0 (Wn5 λh2 o2=>?_)
 have H2:=RunS.old H1 o2
 try simp +decide only [Wb8,bsx,Nat.reduceAdd,Int.reduceLE,Int.reduceLT,Int.reduceToNat,rsx,g_s,Wa7,RunS.r H2,RunS.c H2,RunS.tc H2]
 refine Wa3 (λc=>?_) (λc=>?_)
 ·rw [if_pos c] at k
  exact Wa0 (Zd6 H2 Args.none (by omega) k)
 ·rw [if_neg c] at k
  refine Wa0 (WJ8 H2 λh3 H3=>WF3 ?_)
  refine ⟨(RunS.c H3).1,(RunS.tc H3).1,?_⟩
  refine Wa0 (Wq4 P hi ⟨by omega,by omega⟩ λh4 o4=>?_)
  have H4:=RunS.old H3 o4
  refine sb ?_
  refine Wa0 (Wj3 H4 (WN9 P _ _) U0 hs λh5 H5=>?_)
  try simp +decide only [Wb8,bsx,Nat.reduceAdd,Int.reduceLE,Int.reduceLT,Int.reduceToNat,rsx,g_s,Wa7,RunS.r H5]
  rw [<- WJ7,Wb5 (by omega) (by omega)]
  exact RunS.stP H5 λh6 H6=>k h6 (RunS.none H6)
theorem RunS.ofRe {l:List Int} {h':Wa2} (H:Sat h' (Wk9 T fo (Thr.setRe x.t l) x.id*(Wl8 M tv x.m*R))):Sat h' (RunS M T tv fo (x.re l) R):=RunS.ofThr H
theorem Yo4 (H:Sat h (RunS M T tv (some (b,o)) x R)) (hl:x.t.retired.length < 1073741824) (hd:x.t.fr.length < 1073741824) (k:∀h',Sat h' (RunS M T tv none (WB1 x) R)->K (.tuple #[]) h') :
  Wa5 Tryz.prog 163 #[mP M,mP T,fP b o] h K:=by
 refine call163 ?_
 unfold F163 cf bd lI nP de7 Wm8
 have B:=RunS.fB H
 have P:=RunS.pl H
 unfold WB1 at k
 try simp +decide only [Wb8,bsx,Nat.reduceAdd,Int.reduceLE,Int.reduceLT,Int.reduceToNat,rsx,g_s,Wa7,RunS.r H]
 refine Wa0 (ZO0 H (Wi8 _) λh1 H1=>?_)
 refine Wa0 (W67 (RunS.thr H1) (Wi8 _) hl λh2 H2'=>?_)
 have H2:=RunS.ofRe H2'
 refine Wa0 (Zd6 H2 Args.none (by omega) λh3 H3=>?_)
 refine Wa0 (Wv7 (RunS.thr H3) ?_)
 refine sb ?_
 refine Wa0 (WJ8 H3 λh4 H4=>WF3 ?_)
 refine Wa0 (Wh6 λh5 o5=>cf7 ?_)
 have H5:=RunS.old H4 o5
 refine sb ?_
 refine Wa3 (λc=>?_) (λc=>?_)
 ·simp only [if_pos c] at k
  refine Wa0 (YZ5 H5 Args.none (by omega) ?_ λh6 b6 o6 _ _ H6=>k h6 (RunS.none H6))
  show (Thr.pop _ _).fr.length < _
  unfold Thr.pop
  split
  ·exact hd
  ·simp only [List.length_dropLast]
   show x.t.fr.length - 1 < _
   omega
 ·simp only [if_neg c] at k
  exact k h5 (RunS.none H5)
end
end
section
open Mod
theorem Ye3 {h:Wa2} {N:Nat} {p:Pl} {ty:TypeId} {F:Value->Value->Value->Value->Value->Value->Value->Value->Value->Value->Value->Value->Value->Value->Value->Prop} (O:h[N]? = some (.cells (plc p).toArray ty))
  (k:F (iQ p.c.algo) (iQ p.c.threads) (iQ p.c.nodes) (iQ p.c.level) (iQ p.c.batch) (iQ p.c.probes) (iQ p.c.scan) (iQ p.slots) (iQ p.width) (iQ p.sent) (iQ p.hazards) (iQ p.links) (iQ p.nodes) (iQ p.tree) (iQ p.size)) :
  ldH h (aQ N) λv0=>ldH h ⟨N,1,none⟩ λv1=>ldH h ⟨N,2,none⟩ λv2=>ldH h ⟨N,3,none⟩ λv3=>ldH h ⟨N,4,none⟩ λv4=>ldH h ⟨N,5,none⟩ λv5=>ldH h ⟨N,6,none⟩ λv6=>ldH h ⟨N,7,none⟩ λv7=>ldH h ⟨N,8,none⟩ λv8=>ldH h ⟨N,9,none⟩ λv9=>ldH h ⟨N,10,none⟩ λv10=>ldH h ⟨N,11,none⟩ λv11=>ldH h ⟨N,12,none⟩ λv12=>ldH h ⟨N,13,none⟩ λv13=>ldH h ⟨N,14,none⟩ λv14=>F v0 v1 v2 v3 v4 v5 v6 v7 v8 v9 v10 v11 v12 v13 v14:=
 ldR O rfl (ldR O rfl (ldR O rfl (ldR O rfl (ldR O rfl (ldR O rfl (ldR O rfl (ldR O rfl (ldR O rfl (ldR O rfl (ldR O rfl (ldR O rfl (ldR O rfl (ldR O rfl (ldR O rfl k))))))))))))))
theorem Y03 {h:Wa2} {N:Nat} {p:Pl} {ty:TypeId} {X:Prop} (O:h[N]? = some (.cells (plc p).toArray ty)) (k:X) :
  Wa1 h (aQ N)=some (iQ p.c.algo)/\Wa1 h ⟨N,1,none⟩=some (iQ p.c.threads)/\Wa1 h ⟨N,2,none⟩=some (iQ p.c.nodes)/\Wa1 h ⟨N,3,none⟩=some (iQ p.c.level)/\Wa1 h ⟨N,4,none⟩=some (iQ p.c.batch)/\Wa1 h ⟨N,5,none⟩=some (iQ p.c.probes)/\Wa1 h ⟨N,6,none⟩=some (iQ p.c.scan)/\Wa1 h ⟨N,7,none⟩=some (iQ p.slots)/\Wa1 h ⟨N,8,none⟩=some (iQ p.width)/\Wa1 h ⟨N,9,none⟩=some (iQ p.sent)/\Wa1 h ⟨N,10,none⟩=some (iQ p.hazards)/\Wa1 h ⟨N,11,none⟩=some (iQ p.links)/\Wa1 h ⟨N,12,none⟩=some (iQ p.nodes)/\Wa1 h ⟨N,13,none⟩=some (iQ p.tree)/\Wa1 h ⟨N,14,none⟩=some (iQ p.size)/\X:=
 ⟨Wd3 O rfl,Wd3 O rfl,Wd3 O rfl,Wd3 O rfl,Wd3 O rfl,Wd3 O rfl,Wd3 O rfl,Wd3 O rfl,Wd3 O rfl,Wd3 O rfl,Wd3 O rfl,Wd3 O rfl,Wd3 O rfl,Wd3 O rfl,Wd3 O rfl,k⟩
theorem c15 {h:Wa2} {N:Nat} {p:Pl} {ty:TypeId} (O:h[N]? = some (.cells (plc p).toArray ty)):Wa1 h (aQ N)=some (iQ p.c.algo)/\Wa1 h ⟨N,1,none⟩=some (iQ p.c.threads)/\Wa1 h ⟨N,2,none⟩=some (iQ p.c.nodes)/\Wa1 h ⟨N,3,none⟩=some (iQ p.c.level)/\Wa1 h ⟨N,4,none⟩=some (iQ p.c.batch)/\Wa1 h ⟨N,5,none⟩=some (iQ p.c.probes)/\Wa1 h ⟨N,6,none⟩=some (iQ p.c.scan)/\Wa1 h ⟨N,7,none⟩=some (iQ p.slots)/\Wa1 h ⟨N,8,none⟩=some (iQ p.width)/\Wa1 h ⟨N,9,none⟩=some (iQ p.sent)/\Wa1 h ⟨N,10,none⟩=some (iQ p.hazards)/\Wa1 h ⟨N,11,none⟩=some (iQ p.links)/\Wa1 h ⟨N,12,none⟩=some (iQ p.nodes)/\Wa1 h ⟨N,13,none⟩=some (iQ p.tree)/\Wa1 h ⟨N,14,none⟩=some (iQ p.size):=
 ⟨Wd3 O rfl,Wd3 O rfl,Wd3 O rfl,Wd3 O rfl,Wd3 O rfl,Wd3 O rfl,Wd3 O rfl,Wd3 O rfl,Wd3 O rfl,Wd3 O rfl,Wd3 O rfl,Wd3 O rfl,Wd3 O rfl,Wd3 O rfl,Wd3 O rfl⟩
section
variable {K:kQ} {h:Wa2} {M T b o N:Nat} {tv:Value} {fo:Option (Nat × Nat)} {x:Run} {R:Hp}
theorem Zx2 {h:Wa2} {b c:Nat} {r1 r2:Array Value} {t1 t2:TypeId} (e1:h[b]? = some (.cells r1 t1)) (e2:h[c]? = some (.cells r2 t2)) (hne:t1≠t2):b≠c:=by
 rintro rfl
 rw [e1] at e2
 have:=congrArg (λo:Option Obj=>match o with | some (.cells _ t _)=>some t | _=>none) e2
 exact hne (by simpa using this)
theorem YA9 {h:Wa2} {P T:Nat} {av:Nat->Prop} {a:Option Addr} {l c:Nat} {xs:List Int} (e1:Wa1 h (aQ P)=some (mP T)) (e2:Wa1 h ⟨T,9,none⟩=some (.slice a l c)) (R:RI h a l c xs) (hl:l < 2 ^ 60) (n1:¬ av P) (n2:¬ av T) (n3:xs≠[]->∀ad,a=some ad->¬ av ad.block) :
  KeepOnA av (.func (.func 236) #[] #[.pointer (some (aQ P))]) (λ_=>True) (λy=>xs.contains y) h:=by
 refine ⟨⟨_,_,_,rfl⟩,λh=>Wa1 h (aQ P)=some (mP T)/\Wa1 h ⟨T,9,none⟩=some (.slice a l c)/\RI h a l c xs,⟨e1,e2,R⟩,λh h' o e=>⟨o.cell n1 e.1,o.cell n2 e.2.1,e.2.2.congrA o n3⟩,?_⟩
 rintro h y K ⟨e1,e2,R⟩ _ k
 refine W49 ?_
 rw [cl2]
 refine call236 ?_
 unfold F236 cf lS lP nP
 refine sb ?_
 refine Wb4 e1 ?_
 refine sb ?_
 refine Wb4 e2 ?_
 refine sb ?_
 refine Wa0 (WZ8 R hl ?_)
 refine sb ?_
 exact k h (Old.refl _ _)
theorem Sat.pt_ne {h:Wa2} {N M:Nat} {o o':Obj} {R:Hp} (H:Sat h (pt N o*(pt M o' * R))):M≠N:=by
 obtain ⟨_,s,σ,τ,d,rfl,p,_,_,d2,rfl,q,r⟩:=H
 rintro rfl
 have h1:=q M
 have h2:=p M
 rw [if_pos rfl] at h1 h2
 rcases d M with e | e
 ·rw [e] at h2;cases h2
 ·have:=(Wv1.1 e).1
  rw [this] at h1;cases h1
theorem W69 {P:Nat} {h:Wa2} {T:Nat} {fo:Option (Nat × Nat)} {t:Thr} {id:Int} {ty:TypeId} {R:Hp} (H:Sat h (Wk9 T fo t id*(pt P (.cells #[mP T] ty)*R)))
  (k:∀n h',Sat h' (Wk9 T fo (Thr.setRe t (t.retired.filter λy=>t.found.contains y)) id*(pt P (.cells #[mP T] ty)*R))->K (iQ n) h') :
  Wa5 Tryz.prog 239 #[.pointer (some ⟨T,8,none⟩),.func (.func 236) #[] #[.pointer (some (aQ P))]] h K:=by
 refine call239 ?_
 unfold F239 cf lS nP
 have TB:=YA3 H
 rw [<- Wc7] at H
 obtain ⟨R',hR',bR',H⟩:=H.freeze
 rw [Wc7] at H
 refine ⟨λvs h'=>vs = [.bool false]/\h' = h,?_,?_⟩
 ·simp only [Option.isNone_some,Wc5,Wk1]
  exact ⟨by trivial,by trivial⟩
 rintro v2 g3 h4 ⟨e,rfl⟩
 cases e
 refine sb ?_
 have k:∀n h',Sat h' (Wk9 T fo (Thr.setRe t (t.retired.filter λy=>t.found.contains y)) id*(pt P (.cells #[mP T] ty)*R'))->K (iQ n) h':=λn h' H'=>by
  rw [<- Wc7] at H'
  have H2:=H'.mono2 hR'
  rw [Wc7] at H2
  exact k n h' H2
 clear hR'
 have H1:=H.push (.cells #[.slice none 0 0] 25)
 generalize h4.push (.cells #[.slice none 0 0] 25)=h5 at *
 generalize h4.size=N at *
 obtain ⟨B,x,H2⟩:=We0.1 H1.drop
 have e8:=Wd3 (i:=8) H2.at rfl
 have e9:=Wd3 (i:=9) H2.at rfl
 have oR:=Sat.own (Sat.drop (Sat.drop (Sat.drop (Sat.drop (Sat.drop H2)))))
 have oF:=Sat.ownf (Sat.drop (Sat.drop (Sat.drop (Sat.drop (Sat.drop (Sat.drop H2))))))
 have eP:h5[P]? = some (.cells #[mP T] ty):=H1.drop.drop.at
 have H3:Sat h5 (pt N (.cells #[.slice none 0 0] 25)*(Wk9 T fo t id*(pt P (.cells #[mP T] ty)*R'))):=H1
 have hN:h5[N]? = some (.cells #[.slice none 0 0] 25):=H3.at
 have hTN:T≠N:=Zx2 H2.at hN (by decide)
 have hPN:P≠N:=Sat.pt_ne (Sat.ac H3 (by ac_rfl):Sat h5 (pt N (.cells #[.slice none 0 0] 25)*(pt P (.cells #[mP T] ty)*(Wk9 T fo t id*R'))))
 have nR:∀ad,B.re=some ad->¬ ad.block=N:=λad ea e=>by
  have eN:=oR.sees
  rcases oR.2.2 with ⟨y,_⟩ | ⟨b,row,y,hb,_⟩
  ·rw [ea] at y;cases y
  ·rw [ea] at y;cases y
   exact Zx2 hb hN (by decide) e
 have nF:∀ad,B.fo=some ad->¬ ad.block=N:=λad ea e=>by
  rcases oF.2.2 with ⟨y,_⟩ | ⟨b,o,row,y,hb,_⟩
  ·rw [ea] at y;cases y
  ·rw [ea] at y;cases y
   exact Zx2 hb hN (by decide) e
 have hlen:=TB.len
 refine Wb4 e8 ?_
 refine sb ?_
 have hNs:N < h5.size:=(Array.getElem?_eq_some_iff.1 hN).1
 refine Wa0 (Y01 (av:=λb=>b=N) (OwnI.ri oR) (by omega) (λ_=>nR) (λb hb=>by rw [hb];exact hNs) λg h6 S6 o6=>?_)
 have hk:KeepOnA (λb=>b=N) (.func (.func 236) #[] #[.pointer (some (aQ P))]) (λ_=>True) (λy=>t.found.contains y) h5:=
  YA9 (by rw [Wc1 eP];rfl) e9 oF.ri (by omega) hPN hTN (λ_=>nF)
 refine Wa0 (YI9 S6 (hk.old (OldA.of o6)) (λ_ _=>trivial) (λb hb=>by rw [hb];have:=o6.1;omega) λg' h7 S7 o7=>?_)
 have o57:Old h5.size h5 h7:=o6.trans (o7.mono o6.1)
 have H7:=H3.old o57
 refine W66 S7 H7.at (Nat.le_trans (List.length_filter_le _ _) (by omega)) λh8 a c s8 old8 n8 own8 new8=>?_
 have H8:=H7.collect s8 old8 n8 own8 new8
 have H9:Sat h8 (Wf1 3 1 a _ c _*(Wk9 T fo t id*(pt P (.cells #[mP T] ty)*R'))):=H8.drop2
 try simp only [Wb8,bsx,Nat.reduceAdd,Int.reduceLE,Int.reduceLT,Int.reduceToNat]
 obtain ⟨a1,c1,e1,_⟩:=Yo2 H9.drop
 refine Wb4 e1 ?_
 refine sb ?_
 refine Wb4 (Wk0 n8) ?_
 refine sb ?_
 refine Wb4 (Wk0 n8) ?_
 refine sb ?_
 refine YJ0 H9 (λv hv=>TB.re v ((List.mem_filter.1 hv).1)) (Nat.le_trans (List.length_filter_le _ _) (by omega)) λh9 H10=>?_
 intro h10 hsd
 rw [<- Wc7] at H10
 have H11:=H10.sameD (Zw8.star NdA.pt) bR' hsd
 rw [Wc7] at H11
 exact k _ h10 H11
theorem Yo5 {h:Wa2} {N:Nat} {t:Thr} {id:Int} {a:Option Addr} {c:Nat} {Q S:Hp} {REST:Value->Value->Value->Wa2->Prop} (hQ:∀h P,Sat h (Q*P)->RI h a t.retired.length c t.retired) (hS:∀h P,Sat h (P*S)->Wa1 h ⟨N,0,Option.none⟩=some (mP T)) (hl:t.retired.length<=1073741824) (hl2:t.found.length<=1073741824)
  (H:Sat h (Q*(Wk9 T fo t id*S)))
  (k:∀oa oc h',Sat h' (Wf1 3 1 oa (t.retired.filter (λn=>!t.found.contains n)).length oc ((t.retired.filter (λn=>!t.found.contains n)).map iv)*(Q*(Wk9 T fo t id*S)))->∀v189 v190,REST (.slice oa (t.retired.filter (λn=>!t.found.contains n)).length oc) v189 v190 h') :
  exI λI=>exM λm=>I [.slice Option.none 0 0,.tuple #[],iQ 0] h/\∀v188:Value,∀v189:Value,∀v190:Value,∀g191:Env,∀h192:Wa2,I [v188,v189,v190] h192->asInt .i64 v190 λn193=>ifB (decide (n193 < ((t.retired.length:Nat):Int)))
   (asI v190 λn194=>((0:Int)<=n194)/\((n194:Int) < ((t.retired.length:Nat):Int))/\Wd2 (.pointer a) λa195=>ldH h192 (a195.add n194.toNat) λv196=>asInt .i64 v196 λn197=>Wv0 Tryz.prog (.func (.func 236) #[] #[.pointer (some ⟨N,0,Option.none⟩)]) #[iQ n197] h192 λv198 h199=>asBool v198 λb200=>
    ifB (!b200) (Wb3 v188 λo201 k202 k203=>Wt2 Tryz.prog #[25,25] 25 #[.slice o201 k202 k203,.slice (some ⟨h199.size,0,Option.none⟩) 1 1] (h199.push (.cells #[iQ n197] 3)) λv204 h205=>Wb3 v204 λo206 k207 k208=>asInt .i64 v190 λn209=>
      I [.slice o206 k207 k208,iQ n197,iQ (s64 (n209+1))] h205/\m [.slice o206 k207 k208,iQ n197,iQ (s64 (n209+1))] h205 < m [v188,v189,v190] h192)
     (asInt .i64 v190 λn210=>I [v188,iQ n197,iQ (s64 (n210+1))] h199/\m [v188,iQ n197,iQ (s64 (n210+1))] h199 < m [v188,v189,v190] h192))
   (REST v188 v189 v190 h192):=by
 refine ⟨λvs h'=>∃oa oc w,∃i:Nat,∃out:List Int,vs = [.slice oa out.length oc,w,iv i]/\i<=t.retired.length/\out=(t.retired.take i).filter (λn=>!t.found.contains n)/\Sat h' (Wf1 3 1 oa out.length oc (out.map iv)*(Q*(Wk9 T fo t id*S))),
  λvs _=>(match vs with | [_,_,.int _ n]=>t.retired.length - n.toNat | _=>0),⟨Option.none,0,_,0,[],rfl,Nat.zero_le _,rfl,H.own_new _ _⟩,?_⟩
 rintro v188 v189 v190 g191 h9 ⟨oa,oc,w,i,out,e,hi,hout,H9⟩
 cases e
 refine sb ?_
 have eN9:=hS h9 _ (Sat.ac H9 (by simp only [<- Wc7]):Sat h9 (Wf1 3 1 oa out.length oc (out.map iv)*Q*Wk9 T fo t id*S))
 refine Wa3 (λhlt=>?_) (λhge=>?_)
 ·have hlt':i < t.retired.length:=by omega
  have RI9:=hQ h9 _ H9.drop
  obtain ⟨ad,rfl,hc⟩:=RI9.at hlt'
  have htk:(t.retired.take (i+1)).filter (λn=>!t.found.contains n)=out ++ (if t.found.contains t.retired[i] then [] else [t.retired[i]]):=by
   rw [List.take_succ_eq_append_getElem hlt',List.filter_append,<- hout]
   congr 1
   cases hcn:t.found.contains t.retired[i] <;> simp only [List.filter_cons,List.filter_nil,hcn,Bool.not_false,Bool.not_true,if_true,Bool.false_eq_true,if_false]
  have hol:out.length<=i:=by rw [hout];exact Nat.le_trans (List.length_filter_le _ _) (by rw [List.length_take];omega)
  generalize t.retired[i]=y at *
  refine ⟨by omega,by omega,?_⟩
  refine Wb4 hc ?_
  refine sb ?_
  obtain ⟨a9,c9,e99,of9⟩:=Zx1 H9.drop.drop
  refine KeepOnA.call (av:=λ_=>False) (YA9 eN9 e99 of9.ri (by omega) (λh=>h) (λh=>h) (λ_ _ _ h=>h)) trivial λh10 o10=>?_
  have H10:=H9.old o10
  refine sb ?_
  have hw:IntKind.i64.wrap ((i:Int)+1)=((i+1:Nat):Int):=Wm3 (by omega)
  rw [WJ7] at hw
  cases hcn:t.found.contains y with
  | false=>
   simp only [hcn,Bool.false_eq_true,if_false] at htk
   refine sb ?_
   refine H10.app1 (by omega) λa' c' h11 H11=>?_
   try simp only [Wb8,bsx,Nat.reduceAdd,Int.reduceLE,Int.reduceLT,Int.reduceToNat,hw]
   exact ⟨⟨a',c',iQ y,i+1,out ++ [y],by rw [List.length_append];rfl,by omega,htk.symm,by rw [List.length_append];exact H11⟩,by show t.retired.length - ((i+1:Nat):Int).toNat < t.retired.length - (i:Int).toNat;omega⟩
  | true=>
   simp only [hcn,if_true,List.append_nil] at htk
   try simp only [Wb8,bsx,Nat.reduceAdd,Int.reduceLE,Int.reduceLT,Int.reduceToNat,hw]
   exact ⟨⟨oa,oc,iQ y,i+1,out,rfl,by omega,htk.symm,H10⟩,by show t.retired.length - ((i+1:Nat):Int).toNat < t.retired.length - (i:Int).toNat;omega⟩
 ·have hi2:i=t.retired.length:=by omega
  rw [hi2,List.take_length] at hout
  subst hout
  exact k oa oc h9 H9 _ _
theorem RunS.wr {ob ob':Obj} {h':Wa2} (H:Sat h (RunS M T tv fo x (pt N ob*R))) (new:h'[N]? = some ob') (old:∀c,c≠N->h'[c]? = h[c]?) (ho:Nd ob':=by intro x e;cases e):Sat h' (RunS M T tv fo x (pt N ob' * R)):=
 Sat.ac (Sat.wr (Sat.ac H (by unfold RunS;ac_rfl):Sat h (pt N ob*(Wl8 M tv x.m*(Wk9 T fo x.t x.id*R)))) new old ho) (by unfold RunS;ac_rfl)
theorem RunS.setFo {a:Option Addr} {l c:Nat} {xs:List Int} {F:Wa2->Prop} (H:Sat h (WP8 a l c xs*RunS M T tv fo x R)) (hx:∀v ∈ xs,iN v) (hl:l<=1073741824) (k:∀h',Sat h' (RunS M T tv fo (x.fo xs) R)->F h'):stH h ⟨T,9,Option.none⟩ (.slice a l c) F:=
 YJ1 (Sat.ac H (by unfold RunS;ac_rfl):Sat h (WP8 a l c xs*(Wk9 T fo x.t x.id*(Wl8 M tv x.m*R)))) hx hl λh' H'=>k h' (RunS.ofThr H')
theorem Y04 (H:Sat h (RunS M T tv (some (b,o)) x R)) (hpc:0<=x.f.pc/\x.f.pc<=100) (hs:x.m.mm.st < 1099511627776) (hf:x.t.found.length < 1073741824) (hd:x.t.fr.length < 1073741824) (k:∀h',Sat h' (RunS M T tv none (scan x) R)->K (.tuple #[]) h') :
  Wa5 Tryz.prog 164 #[mP M,mP T,fP b o] h K:=by
 refine call164 ?_
 unfold F164 cf bd lS lP lI nP ZE1 de7 Wm8 WG2 ce
 have P:=RunS.pl H
 unfold scan at k
 dsimp only at k
 have H1:=RunS.new H (.cells #[mP T] 176)
 generalize h.push (.cells #[mP T] 176)=h1 at *
 generalize h.size=N at *
 refine Wa0 (WJ8 H1 λh2 H2=>WF3 ?_)
 have H3:=RunS.new H2 (.cells Ws5 117)
 generalize h2.push (.cells Ws5 117)=h3 at *
 generalize h2.size=N2 at *
 refine Zd4 (Wd9 (vs:=plc x.m.p) (RunS.loc H3) rfl (by simp [Wi4]) λh4 w=>?_)
 have H4:=RunS.wr H3 w.new w.old
 refine Ye3 (RunS.loc H4) (Ye3 (RunS.loc H4) ?_)
 refine Wa0 (Wn5 λh5 o5=>?_)
 have H5:=RunS.old H4 o5
 refine sb ?_
 refine Y03 (RunS.loc H5) ?_
 refine Wa0 (Wh6 λh6 o6=>cf7 ?_)
 have H6:=RunS.old H5 o6
 refine sb ?_
 have hsl:=P.sl
 have hth:=P.th
 have hall:0<=x.m.p.slots*x.m.p.c.threads/\x.m.p.slots*x.m.p.c.threads<=84:=⟨Int.mul_nonneg (by omega) (by omega),Int.le_trans (Int.mul_le_mul hsl.2 hth.2 (by omega) (by omega)) (by omega)⟩
 have e84:s64 (x.m.p.slots*x.m.p.c.threads)=x.m.p.slots*x.m.p.c.threads:=by unfold s64;omega
 rw [e84]
 refine ⟨λvs h'=>vs = []/\Sat h' (RunS M T tv (some (b,o)) (if x.f.pc=0 then x.fo [] else x) (pt N2 (.cells (plc x.m.p).toArray 117)*(pt N (.cells #[mP T] 176)*R))),?_,?_⟩
 ·try simp +decide only [Wb8,bsx,Nat.reduceAdd,Int.reduceLE,Int.reduceLT,Int.reduceToNat,rsx,g_s,Wa7,RunS.r H6]
  refine Wa3 (λc=>?_) (λc=>?_)
  ·rw [if_pos c]
   refine Wb4 (v:=mP T) (Wc1 (RunS.loc2 H6) 0) ?_
   refine sb ?_
   refine RunS.setFo (Sat.toF (xs:=[]) (Sat.own_new H6 3 1)) (λv hv=>by cases hv) (by omega) λh7 H7=>H7
  ·rw [if_neg c]
   exact H6
 rintro g85 h86 ⟨_,H7⟩
 generalize hx1:(if x.f.pc=0 then x.fo [] else x)=x1 at *
 have ep:x1.m=x.m:=by rw [<- hx1];split <;> rfl
 have ef:x1.f=x.f:=by rw [<- hx1];split <;> rfl
 have efr:x1.t.fr=x.t.fr:=by rw [<- hx1];split <;> rfl
 have efo:x1.t.found.length<=x.t.found.length:=by rw [<- hx1];split;exact Nat.zero_le _;exact Nat.le_refl _
 rw [ef] at k
 try simp +decide only [Wb8,bsx,Nat.reduceAdd,Int.reduceLE,Int.reduceLT,Int.reduceToNat,rsx,g_s,Wa7,RunS.r H7,ef]
 have eN:=Wc1 (RunS.loc2 H7) 0
 have eN':Wa1 h86 (aQ N)=some (mP T):=eN
 have ldN:∀F:Value->Prop,ldH h86 (aQ N) F=F (mP T):=λF=>by unfold ldH;rw [eN']
 refine Wa3 (λc=>?_) (λc=>?_)
 ·rw [if_pos c] at k
  try simp only [Wb8,bsx,Nat.reduceAdd,Int.reduceLE,Int.reduceLT,Int.reduceToNat,ldN]
  obtain ⟨a,cc,Q,e9,HQ,re⟩:=WU6 (RunS.thr H7)
  refine Wb4 (e9 h86 _ HQ.drop) ?_
  refine sb ?_
  refine Ye3 (RunS.loc H7) ?_
  try simp +decide only [Wb8,bsx,Nat.reduceAdd,Int.reduceLE,Int.reduceLT,Int.reduceToNat,rsx,g_s,Wa7,RunS.r H7,ef]
  refine Ye3 (RunS.loc H7) ?_
  try simp +decide only [Wb8,bsx,Nat.reduceAdd,Int.reduceLE,Int.reduceLT,Int.reduceToNat,rsx,g_s,Wa7,RunS.r H7,ef]
  refine Ye3 (RunS.loc H7) ?_
  refine Wa0 (Wn5 λh8 o8=>?_)
  have H8:=RunS.old H7 o8
  refine sb ?_
  have eN8:Wa1 h8 (aQ N)=some (mP T):=Wc1 (RunS.loc2 H8) 0
  have e98:=e9 h8 _ (HQ.old o8).drop
  try simp +decide only [Wb8,bsx,Nat.reduceAdd,Int.reduceLE,Int.reduceLT,Int.reduceToNat,rsx,g_s,Wa7,c15 (RunS.loc H8),RunS.c H8,ef,eN8,e98]
  refine ⟨by omega,?_⟩
  refine Wa0 (Wn5 λh9 o9=>?_)
  have H9:=RunS.old H8 o9
  have eN9:Wa1 h9 (aQ N)=some (mP T):=Wc1 (RunS.loc2 H9) 0
  have e99:=e9 h9 _ ((HQ.old o8).old o9).drop
  try simp +decide only [Wb8,bsx,Nat.reduceAdd,Int.reduceLE,Int.reduceLT,Int.reduceToNat,rsx,g_s,Wa7,c15 (RunS.loc H9),RunS.c H9,ef,eN9,e99]
  refine ⟨by omega,?_⟩
  have hd0:0<=x.f.pc / x.m.p.slots:=Int.ediv_nonneg (by omega) (by omega)
  have hd1:x.f.pc / x.m.p.slots<=x.f.pc:=Int.ediv_le_self _ (by omega)
  have hm0:0<=x.f.pc % x.m.p.slots:=Int.emod_nonneg _ (by omega)
  have hm1:x.f.pc % x.m.p.slots < x.m.p.slots:=Int.emod_lt_of_pos _ (by omega)
  have e1:s64 (Int.tdiv x.f.pc x.m.p.slots)=x.f.pc / x.m.p.slots:=by
   rw [Int.tdiv_eq_ediv_of_nonneg (by omega)];unfold s64;omega
  have e2:Int.tmod x.f.pc x.m.p.slots=x.f.pc % x.m.p.slots:=Int.tmod_eq_emod_of_nonneg (by omega)
  rw [e1,e2]
  refine Wa0 (Wq4 P ⟨by omega,by omega⟩ ⟨by omega,by omega⟩ λh10 o10=>?_)
  have o86:Old h86.size h86 h10:=(o8.trans (o9.mono o8.1)).trans (o10.mono (Nat.le_trans o8.1 o9.1))
  have HQ10:=HQ.old o86
  have H10:=RunS.old H7 o86
  refine sb ?_
  have eN10:Wa1 h10 (aQ N)=some (mP T):=Wc1 (RunS.loc2 H10) 0
  refine ⟨e9 h10 _ HQ10.drop,eN10,eN10,?_⟩
  rw [Yz9] at HQ10
  have hs1:x1.m.mm.st < 1099511627776:=by rw [ep];exact hs
  refine Wa0 (W20 HQ10 (WN9 P _ _) hs1 λh12 H12 u12=>?_)
  have eN12:Wa1 h12 (aQ N)=some (mP T):=Wc1 H12.drop.drop.drop.drop.at 0
  try simp only [Wb8,bsx,Nat.reduceAdd,Int.reduceLE,Int.reduceLT,Int.reduceToNat,eN12,e9 h12 _ H12.drop.drop]
  have hB:=RunS.B H7
  rw [<- Yz9] at H12
  refine ⟨Wc8 (e9 h12 _ H12.drop),Wc8 eN12,Wc8 eN12,?_⟩
  refine Sat.appF H12 (by omega) λa' c' h13 H13=>?_
  have eN13:Wa1 h13 (aQ N)=some (mP T):=Wc1 H13.drop.drop.drop.drop.at 0
  try simp only [Wb8,bsx,Nat.reduceAdd,Int.reduceLE,Int.reduceLT,Int.reduceToNat,eN13]
  refine re _ h13 a' _ c' _ (by omega) (λv hv=>?_) H13 _ λh14 H14=>?_
  ·rcases List.mem_append.1 hv with h1 | h1
   ·exact hB.fo v h1
   ·rw [List.mem_singleton.1 h1];exact Wi8 _
  have H15:=RunS.ofThr H14
  have ef2:(⟨(x1.m.load (x.m.p.haz (x.f.pc / x.m.p.slots) (x.f.pc % x.m.p.slots))).2,Thr.setFo x1.t (x1.t.found ++ [s64 (x1.m.load (x.m.p.haz (x.f.pc / x.m.p.slots) (x.f.pc % x.m.p.slots))).1]),x1.id⟩ : Run).f=x.f:=ef
  try simp +decide only [Wb8,bsx,Nat.reduceAdd,Int.reduceLE,Int.reduceLT,Int.reduceToNat,rsx,g_s,Wa7,RunS.r H15,ef2]
  have e3:s64 (x.f.pc+1)=x.f.pc+1:=by unfold s64;omega
  rw [e3]
  exact RunS.stP H15 λh16 H16=>k h16 (RunS.drp (RunS.drp (RunS.none H16)))
 ·rw [if_neg c] at k
  clear H1 H2 H3 H4 H5 H6 w o5 o6 hx1
  have B7:=RunS.B H7
  have ere:x1.t.retired.length<=1073741824:=B7.len.2.1
  refine ⟨λvs h'=>∃v0 v1 v2,vs = [v0,v1,v2]/\Sat h' (RunS M T tv (some (b,o)) (WF0 x1 (x.m.p.slots*x.m.p.c.threads)) (pt N2 (.cells (plc x.m.p).toArray 117)*(pt N (.cells #[mP T] 176)*R))),?_,?_⟩
  ·unfold WF0
   try simp +decide only [Wb8,bsx,Nat.reduceAdd,Int.reduceLE,Int.reduceLT,Int.reduceToNat,rsx,g_s,Wa7,RunS.r H7,ef]
   refine Wa3 (λc2=>?_) (λc2=>?_)
   ·rw [if_pos c2]
    try simp only [Wb8,bsx,Nat.reduceAdd,Int.reduceLE,Int.reduceLT,Int.reduceToNat,ldN]
    refine Wa0 (W68 (RunS.thr H7) λa c' h8 Q H8 hQ=>?_)
    refine sb ?_
    refine Yo5 hQ (λh P HP=>Wc1 (Sat.ac HP (by ac_rfl):Sat h (pt N (.cells #[mP T] 176)*(P*(Wl8 M tv x1.m*(pt N2 (.cells (plc x.m.p).toArray 117)*R))))).at 0) ere (by have:=B7.len;omega) H8 λoa oc h9 H9 v189 v190=>?_
    have eN9:Wa1 h9 (aQ N)=some (mP T):=Wc1 H9.drop.drop.drop.drop.drop.at 0
    have hout:∃out,out=x1.t.retired.filter (λn=>!x1.t.found.contains n):=⟨_,rfl⟩
    obtain ⟨out,hout⟩:=hout
    rw [<- hout] at H9 ⊢
    ·have ldN9:∀F:Value->Prop,ldH h9 (aQ N) F=F (mP T):=λF=>by unfold ldH;rw [eN9]
     try simp only [Wb8,bsx,Nat.reduceAdd,Int.reduceLE,Int.reduceLT,Int.reduceToNat,ldN9]
     have H10:Sat h9 (Wk9 T (some (b,o)) x1.t x1.id*(pt N (.cells #[mP T] 176)*(Wf1 3 1 oa out.length oc (out.map iv)*(Wl8 M tv x1.m*(pt N2 (.cells (plc x.m.p).toArray 117)*R))))):=
      Sat.drop (P:=Q) (Sat.ac H9 (by ac_rfl))
     refine Wa0 (W69 H10 λnk h11 H11=>?_)
     have eN11:Wa1 h11 (aQ N)=some (mP T):=Wc1 H11.drop.at 0
     have ldN11:∀F:Value->Prop,ldH h11 (aQ N) F=F (mP T):=λF=>by unfold ldH;rw [eN11]
     try simp only [Wb8,bsx,Nat.reduceAdd,Int.reduceLE,Int.reduceLT,Int.reduceToNat,ldN11]
     have H12:Sat h11 (WP8 oa out.length oc out*RunS M T tv (some (b,o)) (x1.re (x1.t.retired.filter λn=>x1.t.found.contains n)) (pt N2 (.cells (plc x.m.p).toArray 117)*(pt N (.cells #[mP T] 176)*R))):=
      Sat.toF (Sat.ac H11 (by unfold RunS;ac_rfl))
     refine RunS.setFo H12 (λv hv=>B7.re v (by rw [hout] at hv;exact (List.mem_filter.1 hv).1)) (by rw [hout];exact Nat.le_trans (List.length_filter_le _ _) ere) λh13 H13=>?_
     have ef2:((x1.re (x1.t.retired.filter λn=>x1.t.found.contains n)).fo out).f=x.f:=ef
     try simp +decide only [Wb8,bsx,Nat.reduceAdd,Int.reduceLE,Int.reduceLT,Int.reduceToNat,rsx,g_s,Wa7,RunS.r H13,ef2]
     have e3:s64 (x.f.pc+1)=x.f.pc+1:=by unfold s64;omega
     rw [e3]
     exact RunS.stP H13 λh14 H14=>⟨_,_,_,rfl,H14⟩
   ·rw [if_neg c2]
    exact ⟨_,_,_,rfl,H7⟩
  rintro v229 v230 v231 g232 h233 ⟨w0,w1,w2,e,H8⟩
  cases e
  have ed:(WF0 x1 (x.m.p.slots*x.m.p.c.threads)).t.fr.length < 1073741824:=by
   unfold WF0
   split
   ·show (x1.t.fr.dropLast ++ [_]).length < _
    rw [efr];simp;omega
   ·rw [efr];exact hd
  generalize WF0 x1 (x.m.p.slots*x.m.p.c.threads)=x2 at *
  have eN8:Wa1 h233 (aQ N)=some (mP T):=Wc1 (RunS.loc2 H8) 0
  have ldN8:∀F:Value->Prop,ldH h233 (aQ N) F=F (mP T):=λF=>by unfold ldH;rw [eN8]
  have B8:=RunS.B H8
  obtain ⟨a,cc,Q,e9,HQ,re⟩:=WU6 (RunS.thr H8)
  have ld9:∀F:Value->Prop,ldH h233 ⟨T,9,none⟩ F=F (.slice a x2.t.found.length cc):=λF=>by unfold ldH;rw [e9 h233 _ HQ.drop]
  try simp only [Wb8,bsx,Nat.reduceAdd,Int.reduceLE,Int.reduceLT,Int.reduceToNat,ldN8,ld9]
  unfold W54 at k
  cases hfo:x2.t.found with
  | nil=>
   rw [hfo] at k
   try simp only [Wb8,bsx,Nat.reduceAdd,Int.reduceLE,Int.reduceLT,Int.reduceToNat,List.length_nil]
   exact Wa0 (Zd6 H8 Args.none (by omega) λh9 H9=>k h9 (RunS.drp (RunS.drp H9)))
  | cons n rest=>
   rw [hfo] at k HQ
   have hl:((((n :: rest).length:Nat):Int) == 0)=false:=by rw [beq_eq_false_iff_ne,List.length_cons];omega
   rw [hl]
   try simp only [Wb8,bsx,Nat.reduceAdd,Int.reduceLE,Int.reduceLT,Int.reduceToNat,ldN8,ld9]
   refine ⟨by rw [List.length_cons];omega,?_⟩
   have ow:=HQ.ownf
   obtain ⟨ad,rfl,hc⟩:=ow.ri.at (i:=0) (by simp)
   rw [add_zero] at hc
   obtain ⟨tl,hsub⟩:=ow.tail
   refine sb ?_
   refine Wb4 hc ?_
   refine sb ?_
   refine ⟨by rw [List.length_cons];omega,?_⟩
   obtain ⟨_,hlt2,re2⟩:=HQ.opn
   have HT:=re2 h233 (blk (W95 (some ad) 1 cc 1)) (λh=>OwnF h (W95 (some ad) 1 cc 1) ((n :: rest).length - 1) (cc - 1) rest) (Fr.refl _ _) (λb2 hb2=>⟨.inl (hsub b2 hb2),hlt2 b2 (hsub b2 hb2)⟩) tl.nd λh'' e=>tl.congr e
   have hfl:=B8.len.2.2
   rw [hfo] at hfl
   refine re _ h233 _ _ _ rest (by omega) (λv hv=>B8.fo v (by rw [hfo];exact List.mem_cons_of_mem _ hv)) HT _ λh9 H9=>?_
   have H10:Sat h9 (RunS M T tv (some (b,o)) (x2.fo rest) _):=RunS.ofThr H9
   have eN10:Wa1 h9 (aQ N)=some (mP T):=Wc1 (RunS.loc2 H10) 0
   have ldN10:∀F:Value->Prop,ldH h9 (aQ N) F=F (mP T):=λF=>by unfold ldH;rw [eN10]
   try simp only [Wb8,bsx,Nat.reduceAdd,Int.reduceLE,Int.reduceLT,Int.reduceToNat,ldN10]
   exact Wa0 (YZ6 H10 [u64 n] rfl (Wn8 (Wk4 _)) (by omega) ed λh11 b2 o2 _ _ H11=>k h11 (RunS.drp (RunS.drp (RunS.none H11))))
end
end
section
open Mod
structure Ok (x:Run):Prop where
 st:x.m.mm.st < 1099511627776
 us:x.m.used < 1099511627776
 re:x.t.retired.length < 1073741824
 fo:x.t.found.length < 1073741824
 fr:x.t.fr.length < 1000000000
 id:iN x.id
 pc:0<=x.f.pc/\x.f.pc<=100
section
variable {K:kQ} {h:Wa2} {M T b o N:Nat} {tv:Value} {fo:Option (Nat × Nat)} {x:Run} {R:Hp}
theorem Ye4 (H:Sat h (RunS M T tv fo x R)) (O:Ok x) (k:∀h',Sat h' (RunS M T tv none (Wu2 x) R)->K (.tuple #[]) h') :
  Wa5 Tryz.prog 165 #[mP M,mP T] h K:=by
 refine call165 ?_
 unfold F165 cf lI nP
 unfold Wu2 at k
 refine Wa0 (Zi3 H (λe=>?_) λb o hne _ H1=>?_)
 ·rw [if_pos e] at k
  refine sb ?_
  refine ⟨λvs h'=>(∃w,vs = [.bool true,w])/\h' = h,⟨⟨_,rfl⟩,rfl⟩,?_⟩
  rintro v4 v5 g6 h7 ⟨⟨w,e⟩,rfl⟩
  cases e
  refine sb ?_
  exact k _ (RunS.none H)
 ·rw [if_neg hne] at k
  refine sb ?_
  refine ⟨λvs h'=>(∃w,vs = [.bool false,w])/\h' = h,⟨⟨_,rfl⟩,rfl⟩,?_⟩
  rintro v4 v5 g6 h7 ⟨⟨w,e⟩,rfl⟩
  cases e
  try simp +decide only [Wb8,bsx,Nat.reduceAdd,Int.reduceLE,Int.reduceLT,Int.reduceToNat,rsx,g_s,Wa7,RunS.r H1]
  refine Wa3 (λc=>?_) (λc=>?_)
  ·rw [if_pos c] at k
   exact Wa0 (YI8 H1 O.st k)
  rw [if_neg c] at k
  refine Wa3 (λc=>?_) (λc=>?_)
  ·rw [if_pos c] at k
   exact Wa0 (Ye1 H1 O.st k)
  rw [if_neg c] at k
  exact Wa0 (Zd6 H1 Args.none (by omega) k)
theorem Wz1 (H:Sat h (RunS M T tv fo x R)) (O:Ok x) (k:∀h',Sat h' (RunS M T tv none (Wl1 x) R)->K (.tuple #[]) h') :
  Wa5 Tryz.prog 111 #[mP M,mP T] h K:=by
 refine call111 ?_
 unfold F111 cf lI nP
 unfold Wl1 at k
 refine Wa0 (Zi3 H (λe=>?_) λb o hne _ H1=>?_)
 ·rw [if_pos e] at k
  refine sb ?_
  refine ⟨λvs h'=>(∃w,vs = [.bool true,w])/\h' = h,⟨⟨_,rfl⟩,rfl⟩,?_⟩
  rintro v4 v5 g6 h7 ⟨⟨w,e⟩,rfl⟩
  cases e
  refine sb ?_
  exact k _ (RunS.none H)
 ·rw [if_neg hne] at k
  refine sb ?_
  refine ⟨λvs h'=>(∃w,vs = [.bool false,w])/\h' = h,⟨⟨_,rfl⟩,rfl⟩,?_⟩
  rintro v4 v5 g6 h7 ⟨⟨w,e⟩,rfl⟩
  cases e
  try simp +decide only [Wb8,bsx,Nat.reduceAdd,Int.reduceLE,Int.reduceLT,Int.reduceToNat,rsx,g_s,Wa7,RunS.r H1]
  refine Wa3 (λc=>?_) (λc=>?_)
  ·rw [if_pos c] at k
   exact Wa0 (Ye2 H1 O.id O.st k)
  rw [if_neg c] at k
  refine Wa3 (λc=>?_) (λc=>?_)
  ·rw [if_pos c] at k
   exact Wa0 (Y02 H1 O.id O.pc O.st k)
  rw [if_neg c] at k
  refine Wa3 (λc=>?_) (λc=>?_)
  ·rw [if_pos c] at k
   exact Wa0 (Yo4 H1 O.re (by have:=O.fr;omega) k)
  rw [if_neg c] at k
  refine Wa3 (λc=>?_) (λc=>?_)
  ·rw [if_pos c] at k
   exact Wa0 (Y04 H1 O.pc O.st O.fo (by have:=O.fr;omega) k)
  rw [if_neg c] at k
  exact Wa0 (Ye4 H1 O k)
end
end
section
open Mod
def Mod.Mac.setTh (m:Mac) (l:List Thr):Mac:={ m with th:=l }
def Mod.Mac.quiet (m:Mac):Mac:={ m with acted:=false }
def Ye5:Int->List Nat->List Thr->Hp
 | _,[],_=>emp
 | _,_ :: _,[]=>emp
 | i,T :: Ts,t :: ts=>Wk9 T none t i*Ye5 (i+1) Ts ts
theorem Ye6 {h:Wa2}:∀ {Ts:List Nat} {ts:List Thr} {i:Int} {k:Nat} {R:Hp} (T:Nat) (t:Thr),Ts[k]? = some T->ts[k]? = some t->Sat h (Ye5 i Ts ts*R) ->
  ∃Q:Hp,Sat h (Wk9 T none t (i+k)*(Q*R))/\∀R' h' t',Sat h' (Wk9 T none t' (i+k)*(Q*R'))->Sat h' (Ye5 i Ts (ts.set k t')*R')
 | [],_,_,k,_,_,_,e,_,_=>by simp at e
 | _ :: _,[],_,k,_,_,_,_,e,_=>by simp at e
 | T0 :: Ts,t0 :: ts,i,0,R,T,t,e1,e2,H=>by
  simp only [List.getElem?_cons_zero,Option.some.injEq] at e1 e2
  subst e1 e2
  refine ⟨Ye5 (i+1) Ts ts,?_,λR' h' t' H'=>?_⟩
  ·rw [show i+((0:Nat):Int)=i by omega,<- Wc7]
   exact H
  ·rw [show i+((0:Nat):Int)=i by omega,<- Wc7] at H'
   exact H'
 | T0 :: Ts,t0 :: ts,i,k+1,R,T,t,e1,e2,H=>by
  simp only [List.getElem?_cons_succ] at e1 e2
  have H:Sat h ((Wk9 T0 none t0 i*Ye5 (i+1) Ts ts)*R):=H
  rw [Wc7,Wb7] at H
  obtain ⟨Q,H1,re⟩:=Ye6 T t e1 e2 H
  have ei:i+1+(k:Int)=i+((k+1:Nat):Int):=by omega
  rw [ei] at H1 re
  refine ⟨Q*Wk9 T0 none t0 i,by rw [Wc7];exact H1,λR' h' t' H'=>?_⟩
  rw [Wc7] at H'
  have H2:=re _ _ _ H'
  show Sat h' ((Wk9 T0 none t0 i*Ye5 (i+1) Ts (ts.set k t'))*R')
  rw [Wc7,Wb7]
  exact H2
def WF4 (M:Nat) (Ts:List Nat) (m:Mac):Hp:=ex λa=>ex λc=>pr (Ts.length=m.th.length/\m.th.length<=6) (Wl8 M (.slice a m.th.length c) m*(Wf1 176 1 a m.th.length c (Ts.map mP)*Ye5 0 Ts m.th))
theorem Wk7 {h:Wa2} {M:Nat} {Ts:List Nat} {m:Mac} {R:Hp}:Sat h (WF4 M Ts m*R)↔∃a c,(Ts.length=m.th.length/\m.th.length<=6)/\Sat h (Wl8 M (.slice a m.th.length c) m*(Wf1 176 1 a m.th.length c (Ts.map mP)*(Ye5 0 Ts m.th*R))):=by
 unfold WF4
 simp only [Sat.ex,Sat.pr,Wc7]
theorem WE4 {h:Wa2} {M:Nat} {Ts:List Nat} {m:Mac} {R:Hp} {k:Nat} {T:Nat} {t:Thr} (H:Sat h (WF4 M Ts m*R)) (e1:Ts[k]? = some T) (e2:m.th[k]? = some t) :
  ∃tv,∃Q:Hp,Sat h (RunS M T tv none ⟨m,t,k⟩ (Q*R))/\∀h' (x:Run) R',x.id=(k:Int)->Sat h' (RunS M T tv none x (Q*R'))->Sat h' (WF4 M Ts (x.m.setTh (m.th.set k x.t))*R'):=by
 obtain ⟨a,c,⟨hl,h6⟩,H1⟩:=Wk7.1 H
 have H2:Sat h (Ye5 0 Ts m.th*(Wl8 M (.slice a m.th.length c) m*(Wf1 176 1 a m.th.length c (Ts.map mP)*R))):=Sat.ac H1 (by ac_rfl)
 obtain ⟨Q,H3,re⟩:=Ye6 T t e1 e2 H2
 rw [Int.zero_add] at H3 re
 refine ⟨.slice a m.th.length c,Q*Wf1 176 1 a m.th.length c (Ts.map mP),?_,λh' x R' ei H'=>?_⟩
 ·unfold RunS
  exact Sat.ac H3 (by ac_rfl)
 ·unfold RunS at H'
  rw [ei] at H'
  have H4:Sat h' (Wk9 T none x.t k*(Q*(Wl8 M (.slice a m.th.length c) x.m*(Wf1 176 1 a m.th.length c (Ts.map mP)*R')))):=Sat.ac H' (by ac_rfl)
  have H5:=re _ _ _ H4
  refine Wk7.2 ⟨a,c,⟨by simp [Mod.Mac.setTh,hl],by simp [Mod.Mac.setTh,h6]⟩,?_⟩
  show Sat h' (Wl8 M (.slice a (m.th.set k x.t).length c) x.m*(Wf1 176 1 a (m.th.set k x.t).length c (Ts.map mP)*(Ye5 0 Ts (m.th.set k x.t)*R')))
  rw [List.length_set]
  exact Sat.ac H5 (by ac_rfl)
section
variable {K:kQ} {h:Wa2} {M T b o N:Nat} {tv:Value} {fo:Option (Nat × Nat)} {x:Run} {R:Hp} {m:Mac} {Ts:List Nat}
theorem WU8 (H:Sat h (WF4 M Ts m*R)) {i:Int} (k0:(i < 0\/m.th.length<=i)->K (.pointer none) h) (k:∀T,0<=i->Ts[i.toNat]? = some T->K (mP T) h) :
  Wa5 Tryz.prog 196 #[mP M,iQ i] h K:=by
 refine call196 ?_
 unfold F196 bd lS lP nP
 obtain ⟨a,c,⟨hl,h6⟩,H1⟩:=Wk7.1 H
 obtain ⟨q,gq,fq,P,H2⟩:=We6.1 H1
 have O:=H2.at
 have S:=(H1.drop).own.sees
 refine sb ?_
 refine ⟨λvs h'=>(∃w,vs = [w,.bool (decide (i < 0\/m.th.length<=i))])/\h' = h,?_,?_⟩
 ·refine Wa3 (λc1=>?_) (λc1=>?_)
  ·rw [decide_eq_true (p:=i < 0\/m.th.length<=i) (.inl c1)]
   exact ⟨⟨_,rfl⟩,rfl⟩
  ·refine H2.ld rfl ?_
   refine sb ?_
   rw [show decide (i >= (m.th.length:Int))=decide (i < 0\/m.th.length<=i) by rw [decide_eq_decide];omega]
   first | exact ⟨⟨.bool (decide (i < 0)),rfl⟩,by trivial⟩ | exact ⟨.bool (decide (i < 0)),rfl⟩
 rintro v6 v7 g8 h9 ⟨⟨w,e⟩,rfl⟩
 cases e
 refine sb ?_
 refine Wa3 (λc1=>k0 c1) (λc1=>?_)
 refine H2.ld rfl ?_
 refine sb ?_
 have hlt:i.toNat < Ts.length:=by omega
 obtain ⟨T,hT⟩ : ∃T,Ts[i.toNat]? = some T:=⟨_,List.getElem?_eq_getElem hlt⟩
 obtain ⟨ad,ea,hc⟩:=S i.toNat (mP T) (by rw [List.getElem?_map,hT];rfl)
 subst ea
 refine ⟨by omega,by omega,?_⟩
 refine sb ?_
 unfold ldH
 rw [hc]
 refine sb ?_
 exact k T (by omega) hT
theorem ZG0 (P:Nat->Prop) (h:∃n,P n):∃n,P n/\∀m,P m->n<=m:=by
 obtain ⟨n,hn⟩:=h
 induction n using Nat.strongRecOn with
 | _ n ih=>
  by_cases c:∃m,m < n/\P m
  ·obtain ⟨m,hm,hp⟩:=c
   exact ih m hm hp
  ·exact ⟨n,hn,λm hm=>Nat.le_of_not_lt λhh=>c ⟨m,hh,hm⟩⟩
open Classical in
noncomputable def WU9 (P:Nat->Prop):Nat:=if h:∃n,P n then (ZG0 P h).choose else 0
theorem WV0 {P:Nat->Prop} (h:∃n,P n):P (WU9 P)/\∀m,P m->WU9 P<=m:=by
 unfold WU9
 rw [dif_pos h]
 exact (ZG0 P h).choose_spec
def done (x:Run):Bool:=x.m.acted || x.t.fr.isEmpty
def ZB8 (d:Run->Run) (W:Run->Prop):Nat->Run->Prop
 | 0,_=>True
 | n+1,x=>done x=true\/(W x/\ZB8 d W n (d x))
def DoC (f:Nat) (d:Run->Run) (W:Run->Prop):Prop:=∀(h:Wa2) (M T:Nat) (tv:Value) (x:Run) (R:Hp) (K:kQ),Sat h (RunS M T tv none x R)->W x->(∀h',Sat h' (RunS M T tv none (d x) R)->K (.tuple #[]) h')->Wa5 Tryz.prog f #[mP M,mP T] h K
def Zi5 (d:Run->Run) (W:Run->Prop) (M T:Nat) (tv:Value) (R:Hp) (z:Run) (h:Wa2) (n:Nat):Prop:=∃y,Sat h (RunS M T tv none y R)/\Mod.bits d n y=some z/\ZB8 d W n y
theorem W70 {f:Nat} {d:Run->Run} {W:Run->Prop} (D:DoC f d W) (H:Sat h (WF4 M Ts m*R)) {i:Int} {n:Nat} {z:Run} {t:Thr} (h0:0<=i) (ht:m.th[i.toNat]? = some t)
  (hz:Mod.bits d n ⟨m.quiet,t,i⟩=some z) (hs:ZB8 d W n ⟨m.quiet,t,i⟩) (hid:z.id=i)
  (k:∀h',Sat h' (WF4 M Ts (z.m.setTh (m.th.set i.toNat z.t))*R)->K (.bool (!z.t.fr.isEmpty)) h') :
  Wa5 Tryz.prog 123 #[mP M,iQ i,.func (.func f) #[] #[]] h K:=by
 refine call123 ?_
 unfold F123 cf lS nP
 have hlt:i.toNat < m.th.length:=(List.getElem?_eq_some_iff.1 ht).1
 refine Wa0 (WU8 H (λc=>by omega) λT _ hT=>?_)
 refine sb ?_
 unfold Wk1
 dsimp only
 refine ⟨λvs h'=>vs = [.bool false]/\h' = h,⟨rfl,rfl⟩,?_⟩
 rintro v5 g6 h7 ⟨e,rfl⟩
 cases e
 refine sb ?_
 obtain ⟨tv,Q,H1,re⟩:=WE4 H hT ht
 have ei:((i.toNat:Nat):Int)=i:=by omega
 rw [ei] at H1 re
 obtain ⟨q,gq,fq,P,H2⟩:=We6.1 H1
 refine H2.st (i:=19) rfl trivial λh8 H3=>?_
 have H4:Sat h8 (RunS M T tv none ⟨m.quiet,t,i⟩ (Q*R)):=We6.2 ⟨q,gq,fq,P,H3⟩
 have acc:∀ {h:Wa2} {y:Run},Sat h (RunS M T tv none y (Q*R))->(∀F:Value->Prop,ldH h ⟨M,19,none⟩ F=F (.bool y.m.acted))/\∃a c,∀F:Value->Prop,ldH h ⟨T,1,none⟩ F=F (.slice a y.t.fr.length c):=by
  intro h y Y
  obtain ⟨q,gq,fq,P,Y1⟩:=We6.1 Y
  obtain ⟨B,O⟩:=W62 (RunS.thr Y)
  refine ⟨λF=>?_,B.fr,B.frn,λF=>?_⟩
  ·unfold ldH;rw [Wc1 Y1.at];rfl
  ·unfold ldH;rw [Wc1 O];rfl
 refine ⟨λ_ h=>∃n,Zi5 d W M T tv (Q*R) z h n,λ_ h=>WU9 (Zi5 d W M T tv (Q*R) z h),⟨n,_,H4,hz,hs⟩,?_⟩
 intro g13 h14 HI
 obtain ⟨⟨y,Y,hb,hS⟩,hmin⟩:=WV0 HI
 obtain ⟨n0,hn⟩ : ∃n0,WU9 (Zi5 d W M T tv (Q*R) z h14)=n0:=⟨_,rfl⟩
 rw [hn] at hb hS
 obtain ⟨ac,af,an,al⟩:=acc Y
 refine ⟨λvs h'=>vs = [.bool (!Proofs.YtahpbclnkofhfaaGreat.done y)]/\h' = h14,?_,?_⟩
 ·rw [ac]
  refine sb ?_
  refine Wb6 (λc=>?_) (λc=>?_)
  ·have c':y.m.acted=false:=by simpa using c
   rw [al]
   have e2:decide ((y.t.fr.length:Int) > 0) = !Proofs.YtahpbclnkofhfaaGreat.done y:=by
    unfold Proofs.YtahpbclnkofhfaaGreat.done
    rw [c']
    cases y.t.fr <;> simp
   try simp only [Wb0,e2,and_self,and_true]
  ·have c':y.m.acted=true:=by simpa using c
   have e2:false = !Proofs.YtahpbclnkofhfaaGreat.done y:=by
    unfold Proofs.YtahpbclnkofhfaaGreat.done
    rw [c']
    rfl
   rw [<- e2]
   try trivial
 rintro v24 g25 h26 ⟨e,rfl⟩
 cases e
 refine sb ?_
 refine Wb6 (λc=>?_) (λc=>?_)
 ·have c':Proofs.YtahpbclnkofhfaaGreat.done y=false:=by simpa using c
  cases n0 with
  | zero=>
   unfold Mod.bits at hb
   unfold Proofs.YtahpbclnkofhfaaGreat.done at c'
   rw [c'] at hb
   cases hb
  | succ n'=>
   rcases hS with hS | ⟨hW,hS⟩
   ·rw [hS] at c';cases c'
   ·have hb':Mod.bits d n' (d y)=some z:=by
     unfold Mod.bits at hb
     unfold Proofs.YtahpbclnkofhfaaGreat.done at c'
     rw [c'] at hb
     exact hb
    refine Wa0 (D _ _ _ _ _ _ _ Y hW λh29 H29=>⟨⟨n',_,H29,hb',hS⟩,?_⟩)
    have hP:Zi5 d W M T tv (Q*R) z h29 n':=⟨_,H29,hb',hS⟩
    have hl:=(WV0 ⟨n',hP⟩).2 n' hP
    show WU9 _ < WU9 _
    rw [hn]
    omega
 ·have c':Proofs.YtahpbclnkofhfaaGreat.done y=true:=by simpa using c
  have ez:y=z:=by
   unfold Proofs.YtahpbclnkofhfaaGreat.done at c'
   cases n0 <;> unfold Mod.bits at hb <;> rw [c'] at hb <;> exact Option.some.inj hb
  subst ez
  rw [al]
  refine sb ?_
  have e2:decide ((y.t.fr.length:Int) > 0) = !y.t.fr.isEmpty:=by
   cases y.t.fr <;> simp
  rw [e2]
  exact k h26 (re _ y R hid Y)
end
end
section
open Mod
def ZB9 (c:Mod.Cf):Proofs.YtahpbclnkofhfaaGreat.Cf:=⟨c.algo,c.threads,c.nodes,c.level,c.batch,c.probes,c.scan⟩
theorem Wt6 (c:Mod.Cf):(ZB9 c).Right↔okC c=true:=by
 unfold okC
 rw [decide_eq_true_iff]
 constructor
 ·rintro ⟨a1,a2,a3,a4,a5,a6,a7,a8⟩
  exact ⟨a1.1,a1.2,a2.1,a2.2,a3.1,a3.2,a4.1,a4.2,a5.1,a5.2,a6.1,a6.2,a7.1,a7.2,a8⟩
 ·rintro ⟨b1,b2,b3,b4,b5,b6,b7,b8,b9,b10,b11,b12,b13,b14,b15⟩
  exact ⟨⟨b1,b2⟩,⟨b3,b4⟩,⟨b5,b6⟩,⟨b7,b8⟩,⟨b9,b10⟩,⟨b11,b12⟩,⟨b13,b14⟩,b15⟩
theorem Y05 (c:Mod.Cf):Value.agg (ZB9 c).plan=plV (Wb9 c):=by
 unfold plV Wb9 Proofs.YtahpbclnkofhfaaGreat.Cf.plan Cf.size Cf.tree Cf.nodes Cf.links Cf.slots Cf.width Cf.sent ZB9
 simp only [beq_iff_eq]
theorem Ye7 {K:kQ} {h:Wa2} (c:Mod.Cf) (k1:okC c=true->∀h',Old h.size h h'->K (.tuple #[plV (Wb9 c),iQ 0]) h') (k0:okC c=false->∀h',Old h.size h h'->K (.tuple #[.agg Wk3,iQ 6]) h') :
  Wa5 Tryz.prog 98 #[cfV c] h K:=by
 refine Yz8 (ZB9 c) (λhr h' o=>?_) (λhr h' o=>k0 ?_ h' o)
 ·rw [Y05];exact k1 ((Wt6 c).1 hr) h' o
 ·rw [<- Bool.not_eq_true];exact λhh=>hr ((Wt6 c).2 hh)
theorem Wt1 {c:Mod.Cf} (h:okC c=true):PlB (Wb9 c):=by
 unfold okC at h
 rw [decide_eq_true_iff] at h
 obtain ⟨b1,b2,b3,b4,b5,b6,b7,b8,b9,b10,b11,b12,b13,b14,b15⟩:=h
 have h1:c.threads*(if c.algo == 0 then 2 else 2*c.level+2)<=6*14:=by
  split
  ·omega
  ·exact Int.mul_le_mul (by omega) (by omega) (by omega) (by omega)
 have h1':0<=c.threads*(if c.algo == 0 then 2 else 2*c.level+2):=Int.mul_nonneg (by omega) (by split <;> omega)
 have h2:c.nodes*(if c.algo == 0 then 3 else 5+c.level)<=64*11:=by
  split
  ·omega
  ·exact Int.mul_le_mul (by omega) (by omega) (by omega) (by omega)
 have h2':0<=c.nodes*(if c.algo == 0 then 3 else 5+c.level):=Int.mul_nonneg (by omega) (by split <;> omega)
 have h3:(2:Int) ^ c.level.toNat<=64:=by
  obtain ⟨n,hn⟩ : ∃n,c.level.toNat=n:=⟨_,rfl⟩
  rw [hn]
  have hn6:n<=6:=by omega
  match n,hn6 with
  | 0,_=>decide
  | 1,_=>decide
  | 2,_=>decide
  | 3,_=>decide
  | 4,_=>decide
  | 5,_=>decide
  | 6,_=>decide
 have h3':0<=(2:Int) ^ c.level.toNat:=Int.pow_nonneg (by omega)
 unfold Wb9
 dsimp only
 generalize c.threads*(if c.algo == 0 then 2 else 2*c.level+2)=A at *
 generalize c.nodes*(if c.algo == 0 then 3 else 5+c.level)=B at *
 generalize (2:Int) ^ c.level.toNat=D at *
 constructor <;> dsimp only <;> first | omega | (split <;> omega)
theorem Y06 {D E:Nat->Prop} {F G:Wa2->Prop} (σ:W92) (h:(lift D F*lift E G) σ):lift (λb=>D b\/E b) (λh=>F h/\G h) σ:=by
 obtain ⟨s,t,d,rfl,⟨a1,a2⟩,b1,b2⟩:=h
 refine ⟨λb=>?_,λh S=>⟨a2 h S.left,b2 h (S.right d)⟩⟩
 have:=Wv1 (σ:=s) (τ:=t) (b:=b)
 show D b\/E b↔uni s t b≠none
 rw [a1,b1,ne_eq,ne_eq,ne_eq,this]
 by_cases e1:s b=none <;> by_cases e2:t b=none <;> simp [e1,e2]
theorem Y07 {b:Nat} {o:Obj} (σ:W92) (h:pt b o σ):lift (λc=>c=b) (λh=>h[b]? = some o) σ:=by
 refine ⟨λc=>?_,λh' S=>S.at b o (by rw [h b,if_pos rfl])⟩
 rw [h c]
 by_cases e:c=b <;> simp [e]
theorem Zx3:byt Tryz.prog 178=8:=by kernel_rfl
theorem YJ2:Wt8 Tryz.prog 178 = [uQ 0]:=by kernel_rfl
theorem Zi6:Wt8 Tryz.prog 3 = [iQ 0]:=by kernel_rfl
theorem ZO2:byt Tryz.prog 3=8:=by kernel_rfl
theorem YB0 {v:Value} (n:Nat):(List.replicate n [v]).flatten=List.replicate n v:=by rw [List.flatten_replicate_singleton]
theorem Wz2 {K:kQ} {h:Wa2} {n:Int} (hn:0<=n/\n<=4096) (k:K (.slice (some (aQ h.size)) n.toNat n.toNat) (h.push (.cells (uvs (List.replicate n.toNat 0)).toArray 178))):Wr4 Tryz.prog 178 n n h K:=by
 unfold Wr4
 refine ⟨by omega,by omega,by omega,by rw [Zx3];omega,?_⟩
 rw [YJ2,YB0]
 have e:uvs (List.replicate n.toNat 0)=List.replicate n.toNat (uQ 0):=by unfold uvs;rw [List.map_replicate]
 rw [e] at k
 exact k
theorem Zs9 {K:kQ} {h:Wa2} {n:Int} (hn:0<=n/\n<=4096) (k:K (.slice (some (aQ h.size)) n.toNat n.toNat) (h.push (.cells ((List.replicate n.toNat (0:Int)).map iv).toArray 3))):Wr4 Tryz.prog 3 n n h K:=by
 unfold Wr4
 refine ⟨by omega,by omega,by omega,by rw [ZO2];omega,?_⟩
 rw [Zi6,YB0]
 rw [List.map_replicate] at k
 exact k
theorem Yo6 {K:kQ} {h:Wa2} {R:Hp} {n:Int} (H:Sat h R) (hn:1<=n/\n<=4096) (k:∀h' q,Sat h' (Wp2 q ⟨List.replicate n.toNat 0,0,false,[]⟩*R)->K (.tuple #[mP q,iQ 0]) h') :
  Wa5 Tryz.prog 99 #[iQ n] h K:=by
 refine call99 ?_
 unfold F99
 refine ⟨λvs h'=>vs = [.bool false]/\h' = h,?_,?_⟩
 ·refine Wa3 (λc=>by omega) (λc=>?_)
  rw [decide_eq_false (by omega)]
  exact ⟨rfl,rfl⟩
 rintro v1 g2 h3 ⟨e,rfl⟩
 cases e
 refine sb ?_
 refine Wz2 (by omega) ?_
 refine sb ?_
 have H1:=H.push (.cells (uvs (List.replicate n.toNat 0)).toArray 178)
 generalize h3.push (.cells (uvs (List.replicate n.toNat 0)).toArray 178)=h4 at *
 have H2:=H1.push (.cells #[.slice (some (aQ h3.size)) n.toNat n.toNat,iQ 0,.bool false,.slice none 0 0] 126)
 have H3:=H2.own_new 144 4
 refine k _ h4.size (Wo7.2 ⟨h3.size,none,0,⟨by simp;omega,by simp,by simp,λv hv=>by rw [List.eq_of_mem_replicate hv];exact U0⟩,?_⟩)
 have e:(Zs0 h3.size none 0 ⟨List.replicate n.toNat 0,0,false,[]⟩).toArray=#[.slice (some (aQ h3.size)) n.toNat n.toNat,iQ 0,.bool false,.slice none 0 0]:=by
  simp [Zs0]
 rw [e]
 exact Sat.ac H3 (by
  show Wf1 144 4 none 0 0 []*_=_*(_*(Wf1 144 4 none 0 0 []*_))
  ac_rfl)
theorem ZG1 {K:kQ} {h:Wa2} {B:Nat} {v lim:Int} (O:h[B]? = some (.cells #[uQ v] 178)) (k:K (.bool (decide (v < lim))) h) :
  Wa5 Tryz.prog 277 #[uQ lim,.slice (some (aQ B)) 1 1] h K:=by
 refine call277 ?_
 unfold F277 bd lI
 refine ⟨λvs h'=>∃w n,vs = [.bool false,w,.int .i64 n]/\h' = h/\(n=0\/n=1/\v < lim),λvs _=>match vs with | [_,_,.int _ n]=>(1 - n).toNat | _=>0,⟨_,0,rfl,rfl,.inl rfl⟩,?_⟩
 rintro v2 v3 v4 g5 h6 ⟨w,n,e,rfl,hn⟩
 cases e
 refine sb ?_
 refine Wa3 (λc=>?_) (λc=>?_)
 ·have hn0:n=0:=by omega
  subst hn0
  refine sb ?_
  refine ⟨by decide,?_⟩
  refine ldR O rfl ?_
  refine sb ?_
  refine Wa3 (λc2=>?_) (λc2=>?_)
  ·rw [decide_eq_false (by omega)] at k;exact k
  ·exact ⟨⟨_,1,rfl,.inr ⟨rfl,by omega⟩⟩,by decide⟩
 ·rw [decide_eq_true (by omega)] at k;exact k
theorem YJ3 {K:kQ} {h:Wa2} {R:Hp} {n ver:Int} {mk:Bool} (H:Sat h R) (hn:0<=n/\n < 65536) (hv:0<=ver/\ver < 140737488355328) (k:∀h',Sat h' R->K (.tuple #[uQ (Wp3 n mk ver),iQ 0]) h') :
  Wa5 Tryz.prog 206 #[iQ n,.bool mk,uQ ver] h K:=by
 refine call206 ?_
 unfold F206 cf
 have e1:IntKind.wrap .u64 n=n:=U.wrap ⟨by omega,by omega⟩
 simp only [e1]
 refine ⟨λvs h'=>(∃w,vs = [w,.bool false])/\Sat h' R,?_,?_⟩
 ·refine Wa3 (λc=>by omega) (λc=>?_)
  have H1:=H.push (.cells #[uQ n] 178)
  generalize h.push (.cells #[uQ n] 178)=h1 at *
  refine Wa0 (ZG1 H1.at ?_)
  rw [decide_eq_true (by omega)]
  refine sb ?_
  have H2:=H1.push (.cells #[uQ ver] 178)
  generalize h1.push (.cells #[uQ ver] 178)=h2 at *
  refine Wa0 (ZG1 H2.at ?_)
  rw [decide_eq_true (by omega)]
  refine sb ?_
  exact ⟨⟨_,rfl⟩,H2.drop.drop⟩
 rintro v7 v8 g9 h10 ⟨⟨w,e⟩,H1⟩
 cases e
 refine sb ?_
 refine Wa0 (W16 hn hv ?_)
 refine sb ?_
 exact k _ H1
theorem Ye8 {K:kQ} {h:Wa2} {R:Hp} {n:Int} (H:Sat h R) (hn:0<=n/\n < 65536) (k:∀h',Sat h' R->K (uQ (Wp3 n false 0)) h') :
  Wa5 Tryz.prog 141 #[iQ n] h K:=by
 refine call141 ?_
 unfold F141 cf
 refine Wa0 (YJ3 H hn (by omega) λh1 H1=>?_)
 refine sb ?_
 refine Wd1 rfl ?_
 refine sb ?_
 refine Wd1 rfl ?_
 refine sb ?_
 exact k _ H1
theorem W23 {K:kQ} {h:Wa2} {q:Nat} {m:Mm} {R:Hp} {a v:Int} (H:Sat h (Wp2 q m*R)) (hv:U v) (hs:m.st < 1099511627776)
  (k:∀h' e,Sat h' (Wp2 q (m.store a v)*R)->K (iQ e) h') :
  Wa5 Tryz.prog 140 #[mP q,iQ a,uQ v] h K:=by
 refine WT8 H hv hs (λc h' H'=>k h' 0 ?_) (λc h' H'=>k h' 2 ?_)
 ·unfold Mm.store;rw [if_pos c];exact H'
 ·unfold Mm.store;rw [if_neg (by rw [c];simp)];exact H'
theorem WK2 (m:Mm) (a v:Int):(m.store a v).st<=m.st+1:=by
 unfold Mm.store Mm.put Mm.tick
 split
 ·exact Int.le_refl _
 ·omega
end
section
open Mod
def WG6 (n i:Int):List Int:=(List.range n.toNat).map λ(k:Nat)=>if (k:Int) < i then 1 else 0
theorem Y08 {n i:Int} (h0:0<=i):(WG6 n i).set i.toNat 1=WG6 n (i+1):=by
 apply List.ext_getElem
 ·simp [WG6]
 ·intro k h1 h2
  rw [List.getElem_set]
  simp only [WG6,List.getElem_map,List.getElem_range]
  split
  ·rename_i e;rw [if_pos (by omega)]
  ·rename_i e
   by_cases c:(k:Int) < i
   ·rw [if_pos c,if_pos (by omega)]
   ·rw [if_neg c,if_neg (by omega)]
theorem YJ4 (n:Int):WG6 n 0=List.replicate n.toNat 0:=by
 apply List.ext_getElem
 ·simp [WG6]
 ·intro k h1 h2
  simp only [WG6,List.getElem_map,List.getElem_range,List.getElem_replicate]
  rw [if_neg (by omega)]
theorem W71 {K:kQ} {h:Wa2} {R:Hp} {n live:Int} (H:Sat h R) (hn:1<=n/\n<=64) (hl:0<=live/\live<=n) (k:∀h' q,Sat h' (ghS (some (Zh6 n live)) q*R)->K (mP q) h') :
  Wa5 Tryz.prog 103 #[iQ n,iQ live] h K:=by
 refine call103 ?_
 unfold F103 bd lS
 refine ⟨λvs h'=>vs = [iQ n]/\h' = h,?_,?_⟩
 ·refine ⟨λvs h'=>vs = [.bool false]/\h' = h,?_,?_⟩
  ·refine Wa3 (λc=>by omega) (λc=>?_)
   rw [decide_eq_false (by omega)]
   exact ⟨rfl,rfl⟩
  rintro v1 g2 h3 ⟨e,rfl⟩
  cases e
  try simp only [Wb8,bsx,Nat.reduceAdd,Int.reduceLE,Int.reduceLT,Int.reduceToNat]
  try exact ⟨rfl,rfl⟩
 rintro v6 g7 h8 ⟨e,rfl⟩
 cases e
 refine sb ?_
 refine Zs9 (by omega) ?_
 refine sb ?_
 rw [Wq1,Wq1]
 rw [show WY6 (WY5 live 0) n=live by unfold WY6 WY5;split <;> split <;> omega]
 have H1:=H.push (.cells ((List.replicate n.toNat (0:Int)).map iv).toArray 3)
 generalize h8.push (.cells ((List.replicate n.toNat (0:Int)).map iv).toArray 3)=h9 at *
 generalize h8.size=b at *
 have H2:=H1.push (.cells #[.slice (some (aQ b)) n.toNat n.toNat,iQ 0,iQ 0] 213)
 generalize h9.push (.cells #[.slice (some (aQ b)) n.toNat n.toNat,iQ 0,iQ 0] 213)=h10 at *
 generalize h9.size=q at *
 rw [<- YJ4] at H2
 have hlen:∀i,(WG6 n i).length=n.toNat:=λi=>by simp [WG6]
 refine ⟨λvs h'=>∃(w:Value) (i:Int),vs = [w,.int .i64 i]/\0<=i/\i<=live/\Sat h' (pt q (.cells #[.slice (some ⟨b,0,none⟩) n.toNat n.toNat,.int .i64 0,.int .i64 0] 213)*(pt b (.cells ((WG6 n i).map iv).toArray 3)*R)),λvs _=>match vs with | [_,.int _ i]=>(live - i).toNat | _=>0,⟨_,0,rfl,by omega,by omega,H2⟩,?_⟩
 rintro v24 v25 g26 h27 ⟨w,i,e,i0,i1,H3⟩
 cases e
 refine sb ?_
 refine Wa3 (λc=>?_) (λc=>?_)
 ·refine H3.ld rfl ?_
  refine sb ?_
  refine ⟨by omega,by omega,?_⟩
  rw [Wb7] at H3
  refine WC4 (row:=(WG6 n i).map iv) H3 (by simp [hlen];omega) trivial λh28 H4=>?_
  have e1:((WG6 n i).map iv).set i.toNat (iQ 1)=(WG6 n (i+1)).map iv:=by
   rw [<- Y08 i0,List.map_set]
  rw [e1,Wb7] at H4
  rw [show s64 (i+1)=i+1 from by unfold s64;omega]
  exact ⟨⟨_,i+1,rfl,by omega,by omega,H4⟩,by omega⟩
 ·have ei:i=live:=by omega
  subst ei
  refine k _ q ?_
  have hg:Zh6 n i=⟨WG6 n i,0,0⟩:=rfl
  rw [hg]
  show Sat h27 ((ex λb=>lift (wdS q b) λh=>GhF h q b ⟨WG6 n i,0,0⟩)*R)
  refine Sat.ex.2 ⟨b,?_⟩
  rw [<- Wc7] at H3
  refine H3.mono λσ hσ=>?_
  obtain ⟨s,t,d,rfl,p1,p2⟩:=hσ
  have J:=Y06 _ ⟨s,t,d,rfl,Y07 _ p1,Y07 _ p2⟩
  refine ⟨J.1,λh S=>?_⟩
  obtain ⟨j1,j2⟩:=J.2 h S
  refine ⟨?_,j2,by simp [hlen];omega⟩
  rw [j1]
  simp [hlen]
theorem Zt0:und Tryz.prog 26=.slice 5:=by kernel_rfl
theorem YB1:Wf4 Tryz.prog 5=true:=by kernel_rfl
theorem Zt1:zer Tryz.prog 5=some (.int .u8 0):=by kernel_rfl
theorem W24:siz Tryz.prog 5=1:=by kernel_rfl
theorem YB2:byt Tryz.prog 5=1:=by kernel_rfl
theorem Ye9 {K:kQ} {h:Wa2} {R:Hp} {a:Option Addr} {c:Nat} {bs:List Int} (H:Sat h R) (hs:Sees h a (bs.map λn=>.int .u8 n)) (hl:bs.length<=65536) (hr:∀n ∈ bs,0<=n/\n < 256) (k:∀h' q,Sat h' (fdS q bs 0*R)->K (mP q) h') :
  Wa5 Tryz.prog 102 #[.slice a bs.length c] h K:=by
 refine call102 ?_
 unfold F102
 have o1:Old h.size h (h.push (.cells #[] 5)):=(Old.refl _ _).push _ (Nat.le_refl _)
 have H1:=H.push (.cells #[] 5)
 have hs1:=hs.old o1
 have sz:(h.push (.cells #[] 5)).size=h.size+1:=by simp
 have ow:Own (h.push (.cells #[] 5)) 5 (siz Tryz.prog 5) (some (aQ h.size)) 0 0 []:=⟨by simp,Nat.le_refl _,.inr ⟨h.size,#[],rfl,H1.at,by simp,by simp⟩⟩
 generalize h.push (.cells #[] 5)=h1 at *
 refine WI9 Zt0 YB1 Zt1 (by rw [W24];rfl) ow hs1 (by rw [W24];simp) (λy hy=>?_) (by rw [YB2];omega) (by rw [YB2];omega) λa' c' h2 o' hsz old ha=>?_
 ·obtain ⟨n,_,rfl⟩:=List.mem_map.1 hy
  trivial
 rw [Nat.zero_add] at o' ⊢
 refine sb ?_
 have o2:Old h.size h h2:=⟨by omega,λb hb=>(old b (by omega) λad ea=>by cases ea;exact λe=>by simp at e;omega).trans (o1.2 b hb)⟩
 have fb:∀b,blk a' b->h.size<=b:=by
  rintro b ⟨ad,e,rfl⟩
  rcases ha with ha | ⟨ha,_⟩
  ·rw [e] at ha;cases ha;exact Nat.le_refl _
  ·rw [e] at ha;cases ha;show h.size<=h1.size;omega
 have o3:Old h.size h (h2.push (.cells #[.slice a' bs.length c',iQ 0] 236)):=o2.push _ o2.1
 have q1:(h2.push (.cells #[.slice a' bs.length c',iQ 0] 236))[h2.size]? = some (.cells #[.slice a' bs.length c',iQ 0] 236):=by simp
 have o4:=o'.keep (h':=h2.push (.cells #[.slice a' bs.length c',iQ 0] 236)) λad ea=>Wj0 _ _ _ (o'.lt ad ea)
 have nq:¬ blk a' h2.size:=λhb=>Nat.lt_irrefl _ (o'.lt2 hb)
 have sz3:(h2.push (.cells #[.slice a' bs.length c',iQ 0] 236)).size=h2.size+1:=by simp
 have lt2:∀b,blk a' b->b < h2.size:=λb hb=>o'.lt2 hb
 generalize h2.push (.cells #[.slice a' bs.length c',iQ 0] 236)=h3 at *
 have hsz2:=o2.1
 refine k h3 h2.size (Sat.ex.2 ⟨a',Sat.ex.2 ⟨c',H.mk_new o3 (λb hb=>?_) (λb o hb e=>?_) λh4 e=>?_⟩⟩)
 ·rcases hb with rfl | ⟨hb,_⟩
  ·exact ⟨hsz2,by omega⟩
  ·exact ⟨fb b hb,by have:=lt2 b hb;omega⟩
 ·rcases hb with rfl | ⟨hb,_⟩
  ·rw [q1] at e;cases e
   intro x hx;cases hx
  ·exact o4.nd b o hb e
 ·refine ⟨?_,?_,hr,by omega,nq⟩
  ·rw [e _ (.inl rfl),q1]
  ·by_cases c0:bs = []
   ·subst c0;exact Sees.nil _ _
   ·have o5:=o4.keep (h':=h4) λad ea=>e _ (.inr ⟨⟨ad,ea,rfl⟩,c0⟩)
    exact o5.sees
end
section
open Mod
def ZC0 (p:Pl) (m0:Mm):Mm:=
 let c:=p.c
 let first:=p.sent+1
 let m1:=m0.store 0 (Wp3 first false 0)
 let m2:=(List.range (c.nodes - first).toNat).foldl (λ(m:Mm) (i:Nat)=>m.store (p.link (first+i)) (first+i+1)) m1
 let m3:=m2.store 2 1
 if c.algo=0 then m3 else
  let m4:=m3.store (p.node 1 3) c.level
  let m5:=m4.store (p.node 2 0) 18446744073709551615
  (List.range c.level.toNat).foldl (λ(m:Mm) (i:Nat)=>m.store (p.node 1 (5+i)) (Wp3 2 false 0)) m5
theorem Zi7 (p:Pl):lay p=ZC0 p ⟨List.replicate p.size.toNat 0,0,false,[]⟩:=rfl
theorem Y09 (a v:Nat->Int) (m:Mm) (n:Nat):((List.range n).foldl (λ(m:Mm) (i:Nat)=>m.store (a i) (v i)) m).st<=m.st+n:=by
 induction n with
 | zero=>simp
 | succ n ih=>
  rw [List.range_succ,List.foldl_append]
  simp only [List.foldl_cons,List.foldl_nil]
  have:=WK2 ((List.range n).foldl (λ(m:Mm) (i:Nat)=>m.store (a i) (v i)) m) (a n) (v n)
  omega
theorem Yf0 (a v:Nat->Int) (m:Mm) (n:Nat):((List.range n).foldl (λ(m:Mm) (i:Nat)=>m.store (a i) (v i)) m).store (a n) (v n)=(List.range (n+1)).foldl (λ(m:Mm) (i:Nat)=>m.store (a i) (v i)) m:=by
 rw [List.range_succ,List.foldl_append]
 rfl
theorem YB3 {n:Int} (h:0<=n/\n < 65536):U (Wp3 n false 0):=YX4 h (by omega)
theorem Zi8 {K:kQ} {h:Wa2} {R:Hp} {q:Nat} {m0:Mm} {p:Pl} (H:Sat h (Wp2 q m0*R)) (P:PlB p) (h0:m0.st=0) (hsn:p.sent < p.c.nodes) (k:∀h',Sat h' (Wp2 q (ZC0 p m0)*R)->K (.tuple #[]) h') :
  Wa5 Tryz.prog 101 #[mP q,plV p] h K:=by
 refine call101 ?_
 unfold F101 g101 cf ce lI de7 WG2
 have hse:=P.se
 have hno:=P.no
 have hlv:=P.lv
 rw [WT6]
 have H1:=H.push (.cells (plc p).toArray 117)
 generalize h.push (.cells (plc p).toArray 117)=h1 at *
 generalize h.size=Np at *
 refine Ye3 H1.at ?_
 refine Wa0 (Wh6 λh2 o2=>cf7 ?_)
 have H2:=H1.old o2
 have H3:=H2.push (.cells Zd8 23)
 generalize h2.push (.cells Zd8 23)=h3 at *
 generalize h2.size=Nc at *
 refine st7 (Wd9 (vs:=cfc p.c) H3.at rfl (by simp [cfc,Wi4]) λh5 w=>?_)
 have H5:=H3.wr w.new w.old
 clear H3 w
 refine Ye3 H5.at2 ?_
 refine Wa0 (WT7 λh6 o6=>?_)
 have H6:=H5.old o6
 refine sb ?_
 rw [show s64 (p.sent+1)=p.sent+1 from by unfold s64;omega]
 refine Wa0 (Ye8 H6 (by omega) λh7 H7=>?_)
 refine sb ?_
 have H8:Sat h7 (Wp2 q m0*(pt Nc (.cells (cfc p.c).toArray 23)*(pt Np (.cells (plc p).toArray 117)*R))):=Sat.ac H7 (by ac_rfl)
 refine Wa0 (W23 H8 (YB3 (by omega)) (by omega) λh9 e9 H9=>?_)
 refine sb ?_
 have s1:=WK2 m0 0 (Wp3 (p.sent+1) false 0)
 have hf:=Y09 (λj=>p.link (p.sent+1+j)) (λj=>p.sent+1+j+1) (m0.store 0 (Wp3 (p.sent+1) false 0))
 refine ⟨λvs h'=>∃(j:Nat),vs = [.int .i64 (p.sent+1+j)]/\(j:Int)<=p.c.nodes - (p.sent+1)/\Sat h' (Wp2 q ((List.range j).foldl (λ(m:Mm) (i:Nat)=>m.store (p.link (p.sent+1+i)) (p.sent+1+i+1)) (m0.store 0 (Wp3 (p.sent+1) false 0)))*(pt Nc (.cells (cfc p.c).toArray 23)*(pt Np (.cells (plc p).toArray 117)*R))),λvs _=>match vs with | [.int _ i]=>(p.c.nodes - i).toNat | _=>0,⟨0,by simp,by omega,by simpa using H9⟩,?_⟩
 rintro v58 g59 h60 ⟨j,e,hj,HJ⟩
 cases e
 have C:=HJ.at2
 have PP:=HJ.at3
 refine sb ?_
 refine ldR C rfl ?_
 refine sb ?_
 refine Wa3 (λc=>?_) (λc=>?_)
 ·refine Ye3 PP ?_
  try simp only [Wb8,bsx,Nat.reduceAdd,Int.reduceLE,Int.reduceLT,Int.reduceToNat]
  refine Wa0 (WG5 P ⟨by omega,by omega⟩ λh61 o61=>?_)
  have HK:=HJ.old o61
  refine sb ?_
  rw [show s64 (p.sent+1+(j:Int)+1)=p.sent+1+j+1 from by unfold s64;omega,show Mod.u64 (p.sent+1+(j:Int)+1)=p.sent+1+j+1 from by unfold Mod.u64;omega]
  refine Wa0 (W23 HK ⟨by omega,by omega⟩ (by have:=hf j;omega) λh62 e62 HL=>?_)
  refine sb ?_
  rw [Yf0 (λj=>p.link (p.sent+1+j)) (λj=>p.sent+1+j+1)] at HL
  refine ⟨⟨j+1,?_,by omega,HL⟩,?_⟩
  ·simp;omega
  ·simp;omega
 have ej:(p.c.nodes - (p.sent+1)).toNat=j:=by omega
 have k:∀h',Sat h' (Wp2 q (if p.c.algo=0 then ((List.range j).foldl (λ(m:Mm) (i:Nat)=>m.store (p.link (p.sent+1+i)) (p.sent+1+i+1)) (m0.store 0 (Wp3 (p.sent+1) false 0))).store 2 1 else
   (List.range p.c.level.toNat).foldl (λ(m:Mm) (i:Nat)=>m.store (p.node 1 (5+i)) (Wp3 2 false 0)) (((((List.range j).foldl (λ(m:Mm) (i:Nat)=>m.store (p.link (p.sent+1+i)) (p.sent+1+i+1)) (m0.store 0 (Wp3 (p.sent+1) false 0))).store 2 1).store (p.node 1 3) p.c.level).store (p.node 2 0) 18446744073709551615))*R)->K (.tuple #[]) h':=by
  unfold ZC0 at k
  rw [<- ej]
  exact k
 have hfj:=hf j
 generalize (List.range j).foldl (λ(m:Mm) (i:Nat)=>m.store (p.link (p.sent+1+i)) (p.sent+1+i+1)) (m0.store 0 (Wp3 (p.sent+1) false 0))=m2 at *
 refine Wa0 (W23 HJ (U.lit rfl) (by omega) λh10 e10 H10=>?_)
 have s3:=WK2 m2 2 1
 refine sb ?_
 refine ldR H10.at2 rfl ?_
 refine sb ?_
 refine Wa3 (λc2=>?_) (λc2=>?_)
 ·rw [if_pos c2] at k
  exact k h10 H10.drop2.drop2
 rw [if_neg c2] at k
 refine Ye3 H10.at3 ?_
 refine ldR H10.at2 rfl ?_
 refine sb ?_
 refine Wa0 (Wf7 P (by decide) (by decide) λh11 o11=>?_)
 have H11:=H10.old o11
 refine sb ?_
 refine ⟨Wd3 H11.at2 rfl,?_⟩
 rw [show Mod.u64 p.c.level=p.c.level from by unfold Mod.u64;omega]
 refine Wa0 (W23 H11 ⟨by omega,by omega⟩ (by omega) λh12 e12 H12=>?_)
 have s4:=WK2 (m2.store 2 1) (p.node 1 3) p.c.level
 refine sb ?_
 refine Ye3 H12.at3 ?_
 refine Wa0 (Wf7 P (by decide) (by decide) λh13 o13=>?_)
 have H13:=H12.old o13
 refine sb ?_
 refine Wa0 (W23 H13 (U.lit rfl) (by omega) λh14 e14 H14=>?_)
 have s5:=WK2 ((m2.store 2 1).store (p.node 1 3) p.c.level) (p.node 2 0) 18446744073709551615
 refine sb ?_
 refine ldR H14.at2 rfl ?_
 refine sb ?_
 generalize ((m2.store 2 1).store (p.node 1 3) p.c.level).store (p.node 2 0) 18446744073709551615=m5 at *
 have hm5:m5.st<=2000:=by omega
 clear s1 s3 s4 s5 hfj H9 H10 H11 H12 H13
 clear hf
 have hf:=Y09 (λj=>p.node 1 (5+j)) (λj=>Wp3 2 false 0) m5
 refine ⟨λvs h'=>∃(w:Value) (j:Nat),vs = [w,.int .i64 j]/\(j:Int)<=p.c.level/\Sat h' (Wp2 q ((List.range j).foldl (λ(m:Mm) (i:Nat)=>m.store (p.node 1 (5+i)) (Wp3 2 false 0)) m5)*(pt Nc (.cells (cfc p.c).toArray 23)*(pt Np (.cells (plc p).toArray 117)*R))),λvs _=>match vs with | [_,.int _ i]=>(p.c.level - i).toNat | _=>0,⟨_,0,rfl,by omega,H14⟩,?_⟩
 rintro v141 v142 g143 h144 ⟨w,j2,e,hj2,HJ⟩
 cases e
 refine sb ?_
 refine Wa3 (λc3=>?_) (λc3=>?_)
 ·refine Ye3 HJ.at3 ?_
  rw [show s64 (5+(j2:Int))=5+j2 from by unfold s64;omega]
  refine Wa0 (Wf7 P (by decide) ⟨by omega,by omega⟩ λh61 o61=>?_)
  have HK:=HJ.old o61
  refine sb ?_
  refine Wa0 (Ye8 HK (by omega) λh62 HL=>?_)
  refine sb ?_
  refine Wa0 (W23 HL (YB3 (by omega)) (by have:=hf j2;omega) λh63 e63 HM=>?_)
  refine sb ?_
  rw [Yf0 (λj=>p.node 1 (5+j)) (λj=>Wp3 2 false 0)] at HM
  rw [show s64 ((j2:Int)+1)=((j2+1:Nat):Int) from by unfold s64;omega]
  refine ⟨⟨_,j2+1,rfl,by omega,HM⟩,?_⟩
  omega
 ·have ej2:p.c.level.toNat=j2:=by omega
  rw [ej2] at k
  exact k h144 HJ.drop2.drop2
end
section
open Mod
theorem Y10 (Ts:List Nat) (ts:List Thr) (T:Nat) (t:Thr):∀(i:Int),Ts.length=ts.length->Ye5 i (Ts ++ [T]) (ts ++ [t])=Ye5 i Ts ts*Wk9 T none t (i+ts.length):=by
 induction Ts generalizing ts with
 | nil=>
  intro i e
  cases ts with
  | nil=>
   show Wk9 T none t i*emp=emp*Wk9 T none t (i+0)
   rw [Ww8,Int.add_zero]
  | cons _ _=>simp at e
 | cons T0 Ts ih=>
  intro i e
  cases ts with
  | nil=>simp at e
  | cons t0 ts=>
   have e':Ts.length=ts.length:=by simpa using e
   show Wk9 T0 none t0 i*Ye5 (i+1) (Ts ++ [T]) (ts ++ [t])=(Wk9 T0 none t0 i*Ye5 (i+1) Ts ts)*Wk9 T none t (i+((t0 :: ts).length:Nat))
   rw [ih ts (i+1) e',Wc7]
   congr 3
   simp only [List.length_cons]
   omega
theorem Zx4:und Tryz.prog 120=.slice 176:=by kernel_rfl
theorem Y11:Wf4 Tryz.prog 176=true:=by kernel_rfl
theorem Zx5:zer Tryz.prog 176=some (.pointer none):=by kernel_rfl
theorem W72:siz Tryz.prog 176=1:=by kernel_rfl
theorem Y12:byt Tryz.prog 176=8:=by kernel_rfl
theorem Zx6 {h:Wa2} {R:Hp} {A B C:Nat} {c:Mod.Cf} (id:Int) (H:Sat h (pt A (.cells (uvs (List.replicate c.level.toNat 0)).toArray 178)*(pt B (.cells (uvs (List.replicate c.level.toNat 0)).toArray 178)*(pt C (.cells (uvs (List.replicate c.level.toNat 0)).toArray 178)*R)))) :
  Sat (h.push (.cells #[iQ id,.slice none 0 0,uQ 0,uQ 0,uQ 0,.slice (some (aQ A)) c.level.toNat c.level.toNat,.slice (some (aQ B)) c.level.toNat c.level.toNat,.slice (some (aQ C)) c.level.toNat c.level.toNat,.slice none 0 0,.slice none 0 0] 183)) (Wk9 h.size none (WE2 c) id*R):=by
 have H1:=H.push (.cells #[iQ id,.slice none 0 0,uQ 0,uQ 0,uQ 0,.slice (some (aQ A)) c.level.toNat c.level.toNat,.slice (some (aQ B)) c.level.toNat c.level.toNat,.slice (some (aQ C)) c.level.toNat c.level.toNat,.slice none 0 0,.slice none 0 0] 183)
 have H2:=((H1.own_new 190 12).own_new 3 1).own_new 3 1
 have z:∀v ∈ List.replicate c.level.toNat (0:Int),U v:=λv hv=>by rw [List.eq_of_mem_replicate hv];exact U0
 have hn:∀v ∈ ([]:List Int),iN v:=λv hv=>by cases hv
 refine We0.2 ⟨⟨none,0,A,B,C,none,0,none,0⟩,⟨⟨λf hf=>(by cases hf),⟨rfl,λv hv=>?_⟩,z,z,z,hn,hn,by simp [WE2]⟩,TopAt.none _ _⟩,?_⟩
 ·simp only [WE2,List.mem_cons,List.not_mem_nil,or_false] at hv
  rcases hv with rfl | rfl | rfl <;> exact U0
 have e:(WQ0 ⟨none,0,A,B,C,none,0,none,0⟩ (WE2 c) id).toArray=#[iQ id,.slice none 0 0,uQ 0,uQ 0,uQ 0,.slice (some (aQ A)) c.level.toNat c.level.toNat,.slice (some (aQ B)) c.level.toNat c.level.toNat,.slice (some (aQ C)) c.level.toNat c.level.toNat,.slice none 0 0,.slice none 0 0]:=by
  simp [WQ0,WE2]
 rw [e]
 have H3:Sat _ (WP8 none 0 0 []*_):=H2.toF (xs:=[])
 refine Sat.ac H3 ?_
 show _=_*(Wf1 190 12 none 0 0 []*(_*(_*(_*(Wf1 3 1 none 0 0 []*(WP8 none 0 0 []*_))))))
 ac_rfl
theorem WC7 {v0 v1:Value} {F:Value->Prop} (k:F v0):Wc2 #[v0,v1] 0 F:=k
theorem WC8 {v0 v1:Value} {F:Value->Prop} (k:F v1):Wc2 #[v0,v1] 1 F:=k
def W25 (c:Mod.Cf) (bs:List Int) (gh:Bool) (i:Nat):Mac:=(Wi7 c bs gh).setTh (List.replicate i (WE2 c))
theorem Zt2 {h:Wa2} {a:Addr} {v:Value} (e:Wa1 h a=some v) (F:Value->Prop):ldH h a F=F v:=by unfold ldH;rw [e]
theorem z15 {F:Value->Value->Value->Value->Value->Value->Value->Value->Value->Value->Value->Value->Value->Value->Value->Prop} (k:F (iQ 0) (iQ 0) (iQ 0) (iQ 0) (iQ 0) (iQ 0) (iQ 0) (iQ 0) (iQ 0) (iQ 0) (iQ 0) (iQ 0) (iQ 0) (iQ 0) (iQ 0)) :
 asAgg (.agg Wk3) λvs=>We2 vs 15 (Wc2 vs 0 λv0=>Wc2 vs 1 λv1=>Wc2 vs 2 λv2=>Wc2 vs 3 λv3=>Wc2 vs 4 λv4=>Wc2 vs 5 λv5=>Wc2 vs 6 λv6=>Wc2 vs 7 λv7=>Wc2 vs 8 λv8=>Wc2 vs 9 λv9=>Wc2 vs 10 λv10=>Wc2 vs 11 λv11=>Wc2 vs 12 λv12=>Wc2 vs 13 λv13=>Wc2 vs 14 λv14=>F v0 v1 v2 v3 v4 v5 v6 v7 v8 v9 v10 v11 v12 v13 v14):=k
theorem YB4 {h:Wa2} {X:Hp} {M q gq fq:Nat} {m:Mac} (P:PlB m.p) (e:m.th = []) (H:Sat h (pt M (.cells (YA2 (.slice none 0 0) q gq fq m).toArray 122)*(ghS m.g gq*(fdS fq m.b m.used*(Wp2 q m.mm*X))))):Sat h (WF4 M [] m*X):=by
 have H1:=H.own_new 176 1
 have H2:Sat h (Wl8 M (.slice none 0 0) m*(Wf1 176 1 none 0 0 []*X)):=We6.2 ⟨q,gq,fq,P,Sat.ac H1 (by ac_rfl)⟩
 refine Wk7.2 ⟨none,0,⟨by rw [e];rfl,by rw [e];simp⟩,?_⟩
 rw [e]
 show Sat h (Wl8 M (.slice none 0 0) m*(Wf1 176 1 none 0 0 []*(emp*X)))
 rw [Wl0]
 exact H2
theorem YJ5 {h:Wa2} {X:Hp} {M A B C:Nat} {Ts:List Nat} {c:Mod.Cf} {bs:List Int} {gh:Bool} {i:Nat} {a:Option Addr} {cc:Nat} {K:Wa2->Prop} (hi:i < 6) (hT:Ts.length=i)
  (H:Sat h (pt A (.cells (uvs (List.replicate c.level.toNat 0)).toArray 178)*(pt B (.cells (uvs (List.replicate c.level.toNat 0)).toArray 178)*(pt C (.cells (uvs (List.replicate c.level.toNat 0)).toArray 178)*(Wl8 M (.slice a i cc) (W25 c bs gh i)*(Wf1 176 1 a i cc (Ts.map mP)*(Ye5 0 Ts (List.replicate i (WE2 c))*X)))))))
  (k:∀h' T,Sat h' (WF4 M (Ts ++ [T]) (W25 c bs gh (i+1))*X)->K h') :
  Wt2 Tryz.prog #[120,120] 120 #[.slice a i cc,.slice (some ⟨(h.push (.cells #[iQ i,.slice none 0 0,uQ 0,uQ 0,uQ 0,.slice (some (aQ A)) c.level.toNat c.level.toNat,.slice (some (aQ B)) c.level.toNat c.level.toNat,.slice (some (aQ C)) c.level.toNat c.level.toNat,.slice none 0 0,.slice none 0 0] 183)).size,0,none⟩) 1 1]
   ((h.push (.cells #[iQ i,.slice none 0 0,uQ 0,uQ 0,uQ 0,.slice (some (aQ A)) c.level.toNat c.level.toNat,.slice (some (aQ B)) c.level.toNat c.level.toNat,.slice (some (aQ C)) c.level.toNat c.level.toNat,.slice none 0 0,.slice none 0 0] 183)).push (.cells #[.pointer (some (aQ h.size))] 176))
   λv h'=>Wb3 v λo k1 k2=>stH h' ⟨M,18,none⟩ (.slice o k1 k2) K:=by
 have H1:=Zx6 (i:Int) H
 generalize h.push _=h1 at *
 generalize h.size=T at *
 have H2:=H1.push (.cells #[.pointer (some (aQ T))] 176)
 have hs:Sees (h1.push (.cells #[.pointer (some (aQ T))] 176)) (some (aQ h1.size)) [mP T]:=λj v hj=>⟨_,rfl,by rw [Wc4,Nat.zero_add,Wc1 H2.at];simpa using hj⟩
 generalize h1.push (.cells #[.pointer (some (aQ T))] 176)=h2 at *
 have H3:Sat h2 (Wf1 176 (siz Tryz.prog 176) a i cc (Ts.map mP)*(Wl8 M (.slice a i cc) (W25 c bs gh i)*(Ye5 0 Ts (List.replicate i (WE2 c))*(Wk9 T none (WE2 c) i*X)))):=by
  rw [W72]
  exact Sat.ac H2.drop (by ac_rfl)
 refine H3.app Zx4 Y11 Zx5 (by rw [W72];rfl) hs (n:=1) (by rw [W72];rfl) (by simp [Wi4]) (by rw [Y12];omega) (by rw [Y12];omega) λa' c' h3 H4=>?_
 rw [W72,Wb7] at H4
 obtain ⟨q,gq,fq,P,H5⟩:=We6.1 H4
 refine sb ?_
 refine H5.st (i:=18) rfl trivial λh4 H6=>k h4 T ?_
 have H7:Sat h4 (Wl8 M (.slice a' (i+1) c') (W25 c bs gh (i+1))*(Wf1 176 1 a' (i+1) c' (Ts.map mP ++ [mP T])*(Ye5 0 Ts (List.replicate i (WE2 c))*(Wk9 T none (WE2 c) i*X)))):=We6.2 ⟨q,gq,fq,P,H6⟩
 refine Wk7.2 ⟨a',c',⟨by simp [W25,Mod.Mac.setTh,hT],by simp [W25,Mod.Mac.setTh];omega⟩,?_⟩
 have e1:(W25 c bs gh (i+1)).th=List.replicate i (WE2 c) ++ [WE2 c]:=List.replicate_succ'
 have e2:(W25 c bs gh (i+1)).th.length=i+1:=by rw [e1];simp
 rw [e2,e1,Y10 _ _ _ _ _ (by simp [hT]),List.map_append]
 have e3:(0:Int)+((List.replicate i (WE2 c)).length:Nat)=i:=by simp
 rw [e3]
 exact Sat.ac H7 (by show _=_*(Wf1 176 1 a' (i+1) c' (Ts.map mP ++ [mP T])*_);ac_rfl)
theorem Yf1 {K:kQ} {h:Wa2} {R:Hp} {c:Mod.Cf} {a:Option Addr} {cc:Nat} {bs:List Int} {gh:Bool} (H:Sat h R) (hs:∀h' P,Sat h' (P*R)->Sees h' a (bs.map λn=>.int .u8 n)) (hl:bs.length<=65536) (hr:∀n ∈ bs,0<=n/\n < 256)
  (k0:okC c=false->∀h',Sat h' R->K (.tuple #[.pointer none,iQ 6]) h') (k1:okC c=true->∀h' M Ts,Sat h' (WF4 M Ts (Wi7 c bs gh)*R)->K (.tuple #[mP M,iQ 0]) h') :
  Wa5 Tryz.prog 62 #[cfV c,.slice a bs.length cc,.bool gh] h K:=by
 refine call62 ?_
 unfold F62 g62 q62_7 q62_6 q62_5 q62_4 q62_3 q62_2 q62_1 cf ce lI Wm8 dl7 WG2
 have H1:=H.push (.cells #[iQ c.algo,iQ c.threads,iQ c.nodes,iQ c.level,iQ c.batch,iQ c.probes,iQ c.scan] 23)
 generalize h.push (.cells #[iQ c.algo,iQ c.threads,iQ c.nodes,iQ c.level,iQ c.batch,iQ c.probes,iQ c.scan] 23)=h1 at *
 generalize h.size=Nc at *
 have C1:=H1.at
 iterate 7 (refine ldR C1 rfl ?_)
 refine Wa0 (Ye7 c (λhok h2 o2=>?_) λhok h2 o2=>?_)
 ·have P:=Wt1 hok
  have hp:(Wb9 c).c=c:=rfl
  have H2:=H1.old o2
  refine sb ?_
  refine WC7 ?_
  refine WF3 ?_
  try simp only [Wb8,bsx,Nat.reduceAdd,Int.reduceLE,Int.reduceLT,Int.reduceToNat]
  refine WC8 ?_
  refine sb ?_
  have H3:=H2.push (.cells Ws5 117)
  generalize h2.push (.cells Ws5 117)=h3 at *
  generalize h2.size=Np at *
  refine Zd4 (Wd9 (vs:=plc (Wb9 c)) H3.at rfl (by simp [Wi4]) λh4 w=>?_)
  have H4:=H3.wr w.new w.old
  clear H3 w
  refine Wb6 (λc0=>by simp at c0) (λ_=>?_)
  refine Ye3 H4.at ?_
  refine Wa0 (Yn0 λh5 o5=>?_)
  have H5:=H4.old o5
  refine sb ?_
  have hsz:1<=(Wb9 c).size/\(Wb9 c).size<=4096:=by
   have:=P.si;have:=P.tr;have:=P.nd;have:=P.li
   omega
  refine Wa0 (Yo6 H5 hsz λh6 q H6=>?_)
  refine sb ?_
  refine WC7 ?_
  refine sb ?_
  refine WC8 ?_
  try simp only [Wb8,bsx,Nat.reduceAdd,Int.reduceLE,Int.reduceLT,Int.reduceToNat]
  refine Wb6 (λc0=>by simp at c0) (λ_=>?_)
  refine Ye3 H6.at2 ?_
  have hsn:(Wb9 c).sent < (Wb9 c).c.nodes:=by
   have:=hok
   unfold okC at this
   rw [decide_eq_true_iff] at this
   have h15:=this.2.2.2.2.2.2.2.2.2.2.2.2.2.2
   show (if (c.algo == 0)=true then (0:Int) else 2) < c.nodes
   simpa using h15
  refine Wa0 (Zi8 H6 P rfl hsn λh7 H7=>?_)
  refine Ye3 H7.at2 ?_
  refine Wa0 (Ye9 H7 ?_ hl hr λh8 fq H8=>?_)
  ·refine hs h7 (Wp2 q (ZC0 (Wb9 c) ⟨List.replicate (Wb9 c).size.toNat 0,0,false,[]⟩)*(pt Np (.cells (plc (Wb9 c)).toArray 117)*pt Nc (.cells #[iQ c.algo,iQ c.threads,iQ c.nodes,iQ c.level,iQ c.batch,iQ c.probes,iQ c.scan] 23))) (Sat.ac H7 (by ac_rfl))
  try simp only [Wb8,bsx,Nat.reduceAdd,Int.reduceLE,Int.reduceLT,Int.reduceToNat]
  refine Y03 H8.at3 ?_
  have H9:=H8.push (.cells (YA2 (.slice none 0 0) q 0 fq (W25 c bs false 0)).toArray 122)
  have em:(.cells #[iQ (Wb9 c).c.algo,iQ (Wb9 c).c.threads,iQ (Wb9 c).c.nodes,iQ (Wb9 c).c.level,iQ (Wb9 c).c.batch,iQ (Wb9 c).c.probes,iQ (Wb9 c).c.scan,iQ (Wb9 c).slots,iQ (Wb9 c).width,iQ (Wb9 c).sent,iQ (Wb9 c).hazards,iQ (Wb9 c).links,iQ (Wb9 c).nodes,iQ (Wb9 c).tree,iQ (Wb9 c).size,.pointer (some (aQ q)),.pointer none,.pointer (some (aQ fq)),.slice none 0 0,.bool false,.bool false] 122:Obj)=.cells (YA2 (.slice none 0 0) q 0 fq (W25 c bs false 0)).toArray 122:=rfl
  rw [em]
  generalize h8.push (.cells (YA2 (.slice none 0 0) q 0 fq (W25 c bs false 0)).toArray 122)=h9 at *
  generalize h8.size=M at *
  have e0:W25 c bs false 0=⟨Wb9 c,lay (Wb9 c),none,bs,0,[],false,false⟩:=rfl
  refine ⟨λ_ h'=>Sat h' (WF4 M [] (W25 c bs gh 0)*(pt Nc (.cells #[iQ c.algo,iQ c.threads,iQ c.nodes,iQ c.level,iQ c.batch,iQ c.probes,iQ c.scan] 23)*(pt Np (.cells (plc (Wb9 c)).toArray 117)*R))),?_,?_⟩
  ·cases gh with
   | false=>
    simp only [Wc5]
    refine YB4 (q:=q) (gq:=0) (fq:=fq) P rfl ?_
    show Sat h9 (_*(emp*(fdS fq bs 0*(Wp2 q (lay (Wb9 c))*_))))
    rw [Wl0,Zi7]
    exact Sat.ac H9 (by ac_rfl)
   | true=>
    simp only [Wd8]
    have HC:Sat h9 (pt Nc (.cells #[iQ c.algo,iQ c.threads,iQ c.nodes,iQ c.level,iQ c.batch,iQ c.probes,iQ c.scan] 23)*(pt Np (.cells (plc (Wb9 c)).toArray 117)*(pt M (.cells (YA2 (.slice none 0 0) q 0 fq (W25 c bs false 0)).toArray 122)*(fdS fq bs 0*(Wp2 q (ZC0 (Wb9 c) ⟨List.replicate (Wb9 c).size.toNat 0,0,false,[]⟩)*R))))):=Sat.ac H9 (by ac_rfl)
    refine ldR HC.at rfl ?_
    try simp only [Wb8,bsx,Nat.reduceAdd,Int.reduceLE,Int.reduceLT,Int.reduceToNat]
    refine Ye3 HC.at2 ?_
    refine Wa0 (WT7 λh10 o10=>?_)
    have HD:=HC.old o10
    try simp only [Wb8,bsx,Nat.reduceAdd,Int.reduceLE,Int.reduceLT,Int.reduceToNat]
    refine ⟨Wd3 HD.at rfl,?_⟩
    have hbd:=hok
    unfold okC at hbd
    rw [decide_eq_true_iff] at hbd
    refine Wa0 (W71 HD ⟨hbd.2.2.2.2.1,hbd.2.2.2.2.2.1⟩ ⟨P.se.1,by have:(Wb9 c).sent < c.nodes:=hsn;omega⟩ λh11 gq HE=>?_)
    try simp only [Wb8,bsx,Nat.reduceAdd,Int.reduceLE,Int.reduceLT,Int.reduceToNat]
    have HF:Sat h11 (pt M (.cells (YA2 (.slice none 0 0) q 0 fq (W25 c bs false 0)).toArray 122)*(ghS (some (Zh6 c.nodes (Wb9 c).sent)) gq*(fdS fq bs 0*(Wp2 q (ZC0 (Wb9 c) ⟨List.replicate (Wb9 c).size.toNat 0,0,false,[]⟩)*(pt Nc (.cells #[iQ c.algo,iQ c.threads,iQ c.nodes,iQ c.level,iQ c.batch,iQ c.probes,iQ c.scan] 23)*(pt Np (.cells (plc (Wb9 c)).toArray 117)*R)))))):=Sat.ac HE (by ac_rfl)
    refine HF.st (i:=16) rfl trivial λh12 HG=>?_
    exact YB4 (q:=q) (gq:=gq) (fq:=fq) (m:=W25 c bs true 0) P rfl HG
  intro g131 h132 H10
  refine ldR H10.at2 rfl ?_
  try simp only [Wb8,bsx,Nat.reduceAdd,Int.reduceLE,Int.reduceLT,Int.reduceToNat]
  refine ⟨λvs h'=>∃(w:Value) (i:Nat) (Ts:List Nat),vs = [w,.int .i64 i]/\(i:Int)<=c.threads/\Ts.length=i/\Sat h' (WF4 M Ts (W25 c bs gh i)*(pt Nc (.cells #[.int .i64 c.algo,.int .i64 c.threads,.int .i64 c.nodes,.int .i64 c.level,.int .i64 c.batch,.int .i64 c.probes,.int .i64 c.scan] 23)*(pt Np (.cells (plc (Wb9 c)).toArray 117)*R))),λvs _=>match vs with | [_,.int _ i]=>(c.threads - i).toNat | _=>0,⟨_,0,[],rfl,by have:=P.th;rw [hp] at this;omega,rfl,H10⟩,?_⟩
  rintro v137 v138 g139 h140 ⟨w,i,Ts,e,hi,hT,H11⟩
  cases e
  have hth:=P.th
  rw [hp] at hth
  have hlv:=P.lv
  rw [hp] at hlv
  try simp only [Wb8,bsx,Nat.reduceAdd,Int.reduceLE,Int.reduceLT,Int.reduceToNat]
  refine Wa3 (λc1=>?_) (λc1=>?_)
  ·obtain ⟨a',cc',⟨hl1,hl2⟩,H12⟩:=Wk7.1 H11
   have eth:(W25 c bs gh i).th=List.replicate i (WE2 c):=rfl
   have ethl:(W25 c bs gh i).th.length=i:=by rw [eth];simp
   rw [ethl,eth] at H12
   obtain ⟨q2,gq2,fq2,P2,H13⟩:=We6.1 H12
   have cM:Wa1 h140 ⟨M,18,none⟩=some (.slice a' i cc'):=Wc1 H13.at 18
   have HN:Sat h140 (pt Nc (.cells #[iQ c.algo,iQ c.threads,iQ c.nodes,iQ c.level,iQ c.batch,iQ c.probes,iQ c.scan] 23)*_):=H11.drop
   have cN:Wa1 h140 ⟨Nc,3,none⟩=some (iQ c.level):=Wc1 HN.at 3
   have lM:∀F:Value->Prop,ldH h140 ⟨M,18,none⟩ F=F (.slice a' i cc'):=Zt2 cM
   have lN:∀F:Value->Prop,ldH h140 ⟨Nc,3,none⟩ F=F (iQ c.level):=Zt2 cN
   have m1:=λo=>Wc8 (o:=o) cM
   have m2:=λo o2=>Wc8 (o:=o2) (m1 o)
   have m3:=λo o2 o3=>Wc8 (o:=o3) (m2 o o2)
   have m4:=λo o2 o3 o4=>Wc8 (o:=o4) (m3 o o2 o3)
   have m5:=λo o2 o3 o4 o5=>Wc8 (o:=o5) (m4 o o2 o3 o4)
   have n1:=λo=>Wc8 (o:=o) cN
   have n2:=λo o2=>Wc8 (o:=o2) (n1 o)
   have n3:=λo o2 o3=>Wc8 (o:=o3) (n2 o o2)
   have n4:=λo o2 o3 o4=>Wc8 (o:=o4) (n3 o o2 o3)
   have n5:=λo o2 o3 o4 o5=>Wc8 (o:=o5) (n4 o o2 o3 o4)
   try simp only [Wb8,bsx,Nat.reduceAdd,Int.reduceLE,Int.reduceLT,Int.reduceToNat,lM,lN]
   have hlv4:0<=c.level/\c.level<=4096:=by omega
   have H14:=((H12.push (.cells (uvs (List.replicate c.level.toNat 0)).toArray 178)).push (.cells (uvs (List.replicate c.level.toNat 0)).toArray 178)).push (.cells (uvs (List.replicate c.level.toNat 0)).toArray 178)
   refine ⟨Wz2 hlv4 ?_,Wz2 hlv4 ?_,Wz2 hlv4 ?_⟩
   all_goals
    try simp only [Wb8,bsx,Nat.reduceAdd,Int.reduceLE,Int.reduceLT,Int.reduceToNat,m1,n1]
    refine ⟨Wz2 hlv4 ?_,Wz2 hlv4 ?_⟩
   all_goals
    try simp only [Wb8,bsx,Nat.reduceAdd,Int.reduceLE,Int.reduceLT,Int.reduceToNat,m2,n2]
    refine Wz2 hlv4 ?_
    try simp only [Wb8,bsx,Nat.reduceAdd,Int.reduceLE,Int.reduceLT,Int.reduceToNat,m3,n3,m4,n4,m5,n5]
   all_goals
    refine YJ5 (i:=i) (X:=pt Nc (.cells #[iQ c.algo,iQ c.threads,iQ c.nodes,iQ c.level,iQ c.batch,iQ c.probes,iQ c.scan] 23)*(pt Np (.cells (plc (Wb9 c)).toArray 117)*R)) (by omega) hT (Sat.ac H14 (by ac_rfl)) λh' T H'=>?_
   all_goals
    try simp only [Wb8,bsx,Nat.reduceAdd,Int.reduceLE,Int.reduceLT,Int.reduceToNat]
    refine ⟨⟨iQ i,i+1,Ts ++ [T],?_,by omega,by simp [hT],H'⟩,?_⟩
   all_goals
    rw [show s64 ((i:Int)+1)=((i+1:Nat):Int) from by unfold s64;omega]
   all_goals
    first
     | rfl
     | omega
  ·have ei:c.threads.toNat=i:=by omega
   have em:W25 c bs gh i=Wi7 c bs gh:=by
    rw [<- ei];rfl
   rw [em] at H11
   exact k1 hok h140 M Ts H11.drop2.drop2
 ·have H2:=H1.old o2
  refine sb ?_
  refine WC7 ?_
  refine z15 ?_
  try simp only [Wb8,bsx,Nat.reduceAdd,Int.reduceLE,Int.reduceLT,Int.reduceToNat]
  refine WC8 ?_
  refine sb ?_
  have H3:=H2.push (.cells Ws5 117)
  generalize h2.push (.cells Ws5 117)=h3 at *
  generalize h2.size=Np at *
  refine Zd4 (Wd9 (vs:=[iQ 0,iQ 0,iQ 0,iQ 0,iQ 0,iQ 0,iQ 0,iQ 0,iQ 0,iQ 0,iQ 0,iQ 0,iQ 0,iQ 0,iQ 0]) H3.at rfl (by simp [Wi4]) λh4 w=>?_)
  have H4:=H3.wr w.new w.old
  refine Wb6 (λ_=>?_) (λc0=>by simp at c0)
  exact k0 hok h4 H4.drop.drop
end
section
set_option maxRecDepth 100000
abbrev g11 (K:kQ) (h H1 H2 H3:Wa2) (xa xb:Int):Prop:=
 (dl7 H3 H1.size λa b c d e f g=>stH (Array.push H3 (.cells #[iQ 0,iQ 0,iQ 0,iQ 0,iQ 0,iQ 0,iQ 0,.slice none 0 0,.slice none 0 0,.slice none 0 0] 28)) (aQ H3.size) a λa=>stH a ⟨H3.size,1,none⟩ b λa=>stH a ⟨H3.size,2,none⟩ c λa=>stH a ⟨H3.size,3,none⟩ d λa=>stH a ⟨H3.size,4,none⟩ e λa=>stH a ⟨H3.size,5,none⟩ f λa=>stH a ⟨H3.size,6,none⟩ g λa=>stH a ⟨H3.size,7,none⟩ (.slice none 0 0) λa=>stH a ⟨H3.size,8,none⟩ (.slice none 0 0) λa=>stH a ⟨H3.size,9,none⟩ (.slice none 0 0) λa=>exI λI17=>(lI .i64 a ⟨H1.size,1,none⟩ λb=>ifB (decide (b < 1)) (I17 [.bool true] a) (lI .i64 a ⟨H1.size,1,none⟩ λb=>I17 [.bool (decide (b > 6))] a))/\(∀(a:Value) (b:Env) (b:Wa2),(I17 [a] b)->(asBool a λa=>ifB a (YS2 b H3.size λa c d e f g i j k l=>ZN2 b H2.size a c d e f g i j k l λa=>YS2 a H2.size λc d e f g i j k l m=>K (.agg #[c,d,e,f,g,i,j,k,l,m]) a) (exI λI56=>exM λm57=>(I56 [iQ 0,.tuple #[],.tuple #[]] b)/\(∀(a b c:Value) (d:Env) (d:Wa2),(I56 [a,b,c] d)->(asInt .i64 a λe=>lI .i64 d ⟨H1.size,1,none⟩ λf=>ifB (decide (e < f)) (exI λI66=>exM λm67=>(I66 [.slice none 0 0,iQ 0] d)/\(∀(e f:Value) (g:Env) (g:Wa2),(I66 [e,f] g)->(exI λI72=>(asInt .i64 a λi=>lS g ⟨h.size,7,none⟩ λj j k=>ifB (decide (i < (j:Int))) (asInt .i64 f λi=>lS g ⟨h.size,7,none⟩ λj k l=>asInt .i64 a λl=>bd l (k:Int) (Wd2 (.pointer j) λj=>lS g (Addr.add j (l.toNat*1)) λj j k=>ifB (decide (i < (j:Int))) (asInt .i64 f λk=>I72 [.bool (decide (i < (j:Int))),.bool (decide (k < xa))] g) (I72 [.bool (decide (i < (j:Int))),.bool false] g))) (I72 [.bool false,.bool false] g))/\(∀(i j:Value) (k:Env) (k:Wa2),(I72 [i,j] k)->(asBool j λi=>ifB i (lS k ⟨h.size,7,none⟩ λi j l=>asInt .i64 a λl=>bd l (j:Int) (Wd2 (.pointer i) λi=>lS k (Addr.add i (l.toNat*1)) λi j l=>asInt .i64 f λl=>bd l (j:Int) (Wd2 (.pointer i) λi=>ldH k (Addr.add i (l.toNat*3)) λj=>ldH k (Addr.add (Addr.add i (l.toNat*3)) 1) λm=>ldH k (Addr.add (Addr.add i (l.toNat*3)) 2) λi=>stH (Array.push k (.cells #[iQ 0,.int .u32 0,.int .u32 0] 41)) (aQ k.size) j λj=>stH j ⟨k.size,1,none⟩ m λj=>stH j ⟨k.size,2,none⟩ i λi=>lI .i64 i (aQ k.size) λj=>((3:Int)≠0)/\(((3:Int)≠0)/\(stH (Array.push i (.cells #[iQ 0,.int .u32 0,.int .u32 0] 41)) (aQ i.size) (iQ (Int.tmod (IntKind.wrap .i64 ((Int.tmod j 3)+3)) 3)) λj=>stH j ⟨i.size,1,none⟩ (.int .u32 0) λj=>stH j ⟨i.size,2,none⟩ (.int .u32 0) λj=>exI λI118=>(lI .i64 j (aQ i.size) λl=>ifB (l == 0) (lI .u32 j ⟨k.size,1,none⟩ λl=>stH j ⟨i.size,1,none⟩ (.int .u32 l) λl=>lI .u32 l ⟨k.size,2,none⟩ λm=>stH l ⟨i.size,2,none⟩ (.int .u32 m) λl=>I118 [] l) (I118 [] j))/\(∀(j:Env) (j:Wa2),(I118 [] j)->(Wb3 e λl m n=>dl3 j i.size λi o p=>Wt2 Tryz.prog #[58,58] 58 #[.slice l m n,.slice (some (aQ j.size)) 1 1] (Array.push j (.cells #[i,o,p] 41)) λi j=>Wb3 i λi l m=>asInt .i64 f λn=>(I66 [.slice i l m,iQ (IntKind.wrap .i64 (n+1))] j)/\((m67 [.slice i l m,iQ (IntKind.wrap .i64 (n+1))] j) < (m67 [e,f] g))))))))) (lS k ⟨H3.size,7,none⟩ λg i j=>Wb3 e λl m n=>Wt2 Tryz.prog #[24,24] 24 #[.slice g i j,.slice (some (aQ k.size)) 1 1] (Array.push k (.cells #[.slice l m n] 58)) λg i=>Wb3 g λg j k=>stH i ⟨H3.size,7,none⟩ (.slice g j k) λg=>asInt .i64 a λi=>(I56 [iQ (IntKind.wrap .i64 (i+1)),e,f] g)/\((m57 [iQ (IntKind.wrap .i64 (i+1)),e,f] g) < (m57 [a,b,c] d)))))))) (exI λI155=>exM λm156=>(I155 [iQ 0] d)/\(∀(a:Value) (b:Env) (b:Wa2),(I155 [a] b)->(exI λI160=>(asInt .i64 a λc=>lS b ⟨h.size,8,none⟩ λd d e=>ifB (decide (c < (d:Int))) (asInt .i64 a λc=>I160 [.bool (decide (c < xb))] b) (I160 [.bool false] b))/\(∀(c:Value) (d:Env) (d:Wa2),(I160 [c] d)->(asBool c λc=>ifB c (ldH d ⟨H3.size,8,none⟩ λc=>Wb3 c λe f g=>lS d ⟨h.size,8,none⟩ λi j k=>asInt .i64 a λk=>bd k (j:Int) (Wd2 (.pointer i) λi=>lI .i64 d (Addr.add i (k.toNat*1)) λi=>lI .i64 d ⟨H1.size,1,none⟩ λj=>((j:Int)≠0)/\(lI .i64 d ⟨H1.size,1,none⟩ λk=>lI .i64 d ⟨H1.size,1,none⟩ λl=>((l:Int)≠0)/\(((Wa1 (Array.push d (.cells #[iQ (Int.tmod (IntKind.wrap .i64 ((Int.tmod i j)+k)) l)] 3)) ⟨H3.size,8,none⟩)=(some c))/\(Wt2 Tryz.prog #[25,25] 25 #[.slice e f g,.slice (some (aQ d.size)) 1 1] (Array.push d (.cells #[iQ (Int.tmod (IntKind.wrap .i64 ((Int.tmod i j)+k)) l)] 3)) λc e=>Wb3 c λc f g=>stH e ⟨H3.size,8,none⟩ (.slice c f g) λc=>asInt .i64 a λe=>(I155 [iQ (IntKind.wrap .i64 (e+1))] c)/\((m156 [iQ (IntKind.wrap .i64 (e+1))] c) < (m156 [a] b))))))) (exI λI196=>exM λm197=>(I196 [iQ 0] d)/\(∀(a:Value) (b:Env) (b:Wa2),(I196 [a] b)->(exI λI201=>(asInt .i64 a λc=>lS b ⟨h.size,9,none⟩ λd d e=>ifB (decide (c < (d:Int))) (asInt .i64 a λc=>I201 [.bool (decide (c < 4096))] b) (I201 [.bool false] b))/\(∀(c:Value) (d:Env) (d:Wa2),(I201 [c] d)->(asBool c λc=>ifB c (ldH d ⟨H3.size,9,none⟩ λc=>Wb3 c λe f g=>lS d ⟨h.size,9,none⟩ λi j k=>asInt .i64 a λk=>bd k (j:Int) (Wd2 (.pointer i) λi=>lI .u8 d (Addr.add i (k.toNat*1)) λi=>((Wa1 (Array.push d (.cells #[.int .u8 i] 5)) ⟨H3.size,9,none⟩)=(some c))/\(Wt2 Tryz.prog #[26,26] 26 #[.slice e f g,.slice (some (aQ d.size)) 1 1] (Array.push d (.cells #[.int .u8 i] 5)) λc e=>Wb3 c λc f g=>stH e ⟨H3.size,9,none⟩ (.slice c f g) λc=>asInt .i64 a λe=>(I196 [iQ (IntKind.wrap .i64 (e+1))] c)/\((m197 [iQ (IntKind.wrap .i64 (e+1))] c) < (m197 [a] b))))) (YS2 d H3.size λa b c e f g i j k l=>ZN2 d H2.size a b c e f g i j k l λa=>YS2 a H2.size λb c d e f g i j k l=>K (.agg #[b,c,d,e,f,g,i,j,k,l]) a)))))))))))))))))
def F11 (K:kQ) (h:Wa2) (xa xb xc xd xe xf xg:Int) (xh:Option Addr) (xi xj:Nat) (xk:Option Addr) (xl xm:Nat) (xn:Option Addr) (xo xp:Nat) (xq xr xs xt xu xv xw xx xy:Int):Prop:=
 (g11 K h (Array.push h (.cells #[iQ xa,iQ xb,iQ xc,iQ xd,iQ xe,iQ xf,iQ xg,.slice xh xi xj,.slice xk xl xm,.slice xn xo xp] 28)) (Array.push (Array.push h (.cells #[iQ xa,iQ xb,iQ xc,iQ xd,iQ xe,iQ xf,iQ xg,.slice xh xi xj,.slice xk xl xm,.slice xn xo xp] 28)) (.cells #[iQ xq,iQ xr,iQ xs,iQ xt,iQ xu,iQ xv,iQ xw] 23)) (Array.push (Array.push (Array.push h (.cells #[iQ xa,iQ xb,iQ xc,iQ xd,iQ xe,iQ xf,iQ xg,.slice xh xi xj,.slice xk xl xm,.slice xn xo xp] 28)) (.cells #[iQ xq,iQ xr,iQ xs,iQ xt,iQ xu,iQ xv,iQ xw] 23)) (.cells #[iQ 0,iQ 0,iQ 0,iQ 0,iQ 0,iQ 0,iQ 0,.slice none 0 0,.slice none 0 0,.slice none 0 0] 28)) xx xy)
theorem call11 {K:kQ} {h:Wa2} {xa xb xc xd xe xf xg:Int} {xh:Option Addr} {xi xj:Nat} {xk:Option Addr} {xl xm:Nat} {xn:Option Addr} {xo xp:Nat} {xq xr xs xt xu xv xw xx xy:Int} (H:F11 K h xa xb xc xd xe xf xg xh xi xj xk xl xm xn xo xp xq xr xs xt xu xv xw xx xy):Wa5 Tryz.prog 11 #[(.agg #[(iQ xa),(iQ xb),(iQ xc),(iQ xd),(iQ xe),(iQ xf),(iQ xg),(.slice xh xi xj),(.slice xk xl xm),(.slice xn xo xp)]),(.agg #[(iQ xq),(iQ xr),(iQ xs),(iQ xt),(iQ xu),(iQ xv),(iQ xw)]),(iQ xx),(iQ xy)] h K:=
 cQ Tryz.func11 H
end
section
open Go.Proofs.YtahpbclnkofhfaaGreat.Mod
end
section
open Mod
section
variable {K:kQ} {h:Wa2} {M T b o N:Nat} {tv:Value} {R:Hp} {m:Mac}
structure ZR7 (m:Mac):Prop where
 hn:m.p.links+m.p.c.nodes=m.p.nodes
 hw:(m.mm.w.length:Int)=m.p.size
end
end
section
open Mod
structure Cl where
 op:Int
 key:Int
 val:Int
def clc (c:Cl):List Value:=[iQ c.op,.int .u32 c.key,.int .u32 c.val]
structure EvM where
 k:Int
 back:Bool
 c:Cl
 a:Cl
structure DS where
 m:Mac
 nx:List Int
 cu:List Cl
 ev:List EvM
structure DB where
 pb:Nat
 nb:Nat
 tb:Nat
 cb:Nat
def bv (b:Bool):Value:=.bool b
theorem Wz3 (c:Cl):(clc c).length=3:=rfl
section
variable {K:kQ} {h:Wa2} {M T:Nat} {B:DB} {Ts:List Nat} {n:Nat} {s:DS} {R:Hp}
end
end
section
open Mod
def Y13:ByteArray:=⟨#[0,1,2,2,3,3,3,3,4,4,4,4,4,4,4,4,5,5,5,5,5,5,5,5,5,5,5,5,5,5,5,5,6,6,6,6,6,6,6,6,6,6,6,6,6,6,6,6,6,6,6,6,6,6,6,6,6,6,6,6,6,6,6,6,7,7,7,7,7,7,7,7,7,7,7,7,7,7,7,7,7,7,7,7,7,7,7,7,7,7,7,7,7,7,7,7,7,7,7,7,7,7,7,7,7,7,7,7,7,7,7,7,7,7,7,7,7,7,7,7,7,7,7,7,7,7,7,7,8,8,8,8,8,8,8,8,8,8,8,8,8,8,8,8,8,8,8,8,8,8,8,8,8,8,8,8,8,8,8,8,8,8,8,8,8,8,8,8,8,8,8,8,8,8,8,8,8,8,8,8,8,8,8,8,8,8,8,8,8,8,8,8,8,8,8,8,8,8,8,8,8,8,8,8,8,8,8,8,8,8,8,8,8,8,8,8,8,8,8,8,8,8,8,8,8,8,8,8,8,8,8,8,8,8,8,8,8,8,8,8,8,8,8,8,8,8,8,8,8,8,8,8,8,8,8,8]⟩
theorem Y14:((List.range 256).all λi=>W01 Y13 i == if i=0 then 0 else ((Nat.log2 i+1:Nat):Int))=true:=by decide +kernel
theorem Y15 {i:Nat} (h:i < 256) (h0:1<=i):W01 Y13 i=((Nat.log2 i+1:Nat):Int):=by
 have:=List.all_eq_true.1 Y14 i (List.mem_range.2 h)
 rw [if_neg (by omega)] at this
 simpa using this
theorem W26 {n k:Nat} (h:2 ^ k<=n):Nat.log2 n=Nat.log2 (n / 2 ^ k)+k:=by
 have hk:0 < 2 ^ k:=Nat.two_pow_pos k
 have h1:n / 2 ^ k≠0:=by
  have:=Nat.div_pos h hk
  omega
 have h2:=(Nat.log2_eq_iff h1).1 rfl
 rw [Nat.log2_eq_iff (by omega)]
 constructor
 ·rw [Nat.pow_add]
  exact Nat.le_trans (Nat.mul_le_mul_right _ h2.1) (Nat.div_mul_le_self n _)
 ·have:=(Nat.div_lt_iff_lt_mul hk).1 h2.2
  rw [show (n / 2 ^ k).log2+k+1=((n / 2 ^ k).log2+1)+k by omega,Nat.pow_add]
  exact this
section
variable {K:kQ} {h:Wa2}
theorem YJ6 {n:Nat} (h1:1<=n) (h2:n<=1048576) (k:K (iQ ((Nat.log2 n+1:Nat):Int)) h):Wa5 Tryz.prog 310 #[uQ (n:Int)] h K:=by
 refine call310 ?_
 unfold F310
 refine ⟨λvs h'=>vs = [uQ (n:Int),iQ 0]/\h' = h,?_,?_⟩
 ·exact Wa3 (λc=>by omega) (λ_=>⟨rfl,by trivial⟩)
 rintro v1 v2 g3 h4 ⟨e,rfl⟩
 cases e
 refine ⟨λvs h'=>(∃(m s:Nat),vs = [uQ (m:Int),iQ (s:Int)]/\1<=m/\m < 65536/\s<=16/\Nat.log2 n=Nat.log2 m+s)/\h' = h4,?_,?_⟩
 ·simp only [Wa4]
  refine Wa3 (λc=>⟨by decide,?_⟩) (λc=>?_)
  ·refine ⟨⟨n / 65536,16,?_,?_,?_,by omega,W26 (k:=16) (by omega)⟩,by trivial⟩
   ·rw [Wr1 (by omega),Wb5 (by omega) (by omega)];rfl
   ·omega
   ·omega
  ·exact ⟨⟨n,0,rfl,h1,by omega,by omega,rfl⟩,by trivial⟩
 rintro v9 v10 g11 h12 ⟨⟨m,s,e,m1,m2,hs,hl⟩,rfl⟩
 cases e
 refine ⟨λvs h'=>(∃(m s:Nat),vs = [uQ (m:Int),iQ (s:Int)]/\1<=m/\m < 256/\s<=24/\Nat.log2 n=Nat.log2 m+s)/\h' = h12,?_,?_⟩
 ·simp only [Wa4]
  refine Wa3 (λc=>⟨by decide,?_⟩) (λc=>?_)
  ·refine ⟨⟨m / 256,s+8,?_,?_,?_,by omega,?_⟩,by trivial⟩
   ·rw [Wr1 (by omega),Wb5 (by omega) (by omega)];rfl
   ·omega
   ·omega
   ·have:=W26 (n:=m) (k:=8) (by omega)
    rw [show (2:Nat) ^ 8=256 from rfl] at this
    omega
  ·exact ⟨⟨m,s,rfl,m1,by omega,by omega,hl⟩,by trivial⟩
 rintro v17 v18 g19 h20 ⟨⟨m,s,e,m1,m2,hs,hl⟩,rfl⟩
 cases e
 simp only [Wa4]
 have e8:IntKind.wrap .u8 (m:Int)=(m:Int):=by
  unfold IntKind.wrap IntKind.signed IntKind.bits
  simp only [Bool.false_and,Bool.false_eq_true,if_false]
  omega
 rw [e8]
 refine ⟨by omega,by omega,?_⟩
 show K (iQ (IntKind.wrap .i64 ((s:Int)+IntKind.wrap .i64 (W01 Y13 (m:Int).toNat)))) h20
 rw [show (m:Int).toNat=m by omega,Y15 m2 m1]
 have hlm:Nat.log2 m < 256:=Nat.lt_of_le_of_lt (Nat.log2_le_self m) m2
 rw [Wb5 (n:=((Nat.log2 m+1:Nat):Int)) (by omega) (by omega),Wb5 (by omega) (by omega)]
 rw [hl] at k
 rw [show ((s:Int)+((Nat.log2 m+1:Nat):Int))=((Nat.log2 m+s+1:Nat):Int) by omega]
 exact k
theorem WG7 {n:Int} (k:K (.bool (Zd5 n)) h):Wa5 Tryz.prog 287 #[iQ n] h K:=by
 refine call287 ?_
 unfold F287
 unfold Zd5 at k
 refine Wa3 (λc=>?_) (λc=>?_)
 ·have e:decide (n<=1048576)=decide (1<=n/\n<=1048576):=by rw [decide_eq_decide];omega
  rw [e];exact k
 ·rw [decide_eq_false (by omega)] at k
  exact k
theorem YB5 {n:Int}:Zd5 n=true↔1<=n/\n<=1048576:=by unfold Zd5;rw [decide_eq_true_eq]
theorem WV1 {n:Int} (k:K (iQ (Ws0 n)) h):Wa5 Tryz.prog 301 #[iQ n] h K:=by
 refine call301 ?_
 unfold F301 cf
 refine Wa0 (WG7 ?_)
 refine sb ?_
 unfold Ws0 at k
 refine Wb6 (λc=>?_) (λc=>?_)
 ·have c:Zd5 n=false:=by simpa using c
  rw [c] at k
  simpa using k
 ·have c:Zd5 n=true:=by simpa using c
  rw [c] at k
  obtain ⟨n1,n2⟩:=YB5.1 c
  have e:u64 n=((n.toNat:Nat):Int):=by unfold u64;omega
  refine Wa0 (call308 ?_)
  unfold F308 cf
  rw [e]
  refine Wa0 (YJ6 (by omega) (by omega) ?_)
  refine sb ?_
  have hl:Nat.log2 n.toNat<=n.toNat:=Nat.log2_le_self _
  rw [show s64 (((n.toNat.log2+1:Nat):Int) - 1)=(n.toNat.log2:Int) by unfold s64;omega]
  simpa using k
theorem Yo7 (n:Int):0<=Ws0 n/\Ws0 n<=20:=by
 unfold Ws0
 split
 ·rename_i c
  obtain ⟨n1,n2⟩:=YB5.1 c
  have h0:n.toNat≠0:=by omega
  have:=(Nat.log2_lt h0 (k:=21)).2 (by omega)
  omega
 ·omega
theorem WC9 {d:Int} (hd:iN d) (k:K (iQ (Wg4 d)) h):Wa5 Tryz.prog 216 #[iQ d] h K:=by
 refine call216 ?_
 unfold F216
 unfold Wg4 at k
 refine ⟨λvs h'=>vs = [.bool (decide (d < 1\/d > 20))]/\h' = h,?_,?_⟩
 ·refine Wa3 (λc=>⟨by rw [decide_eq_true (.inl c)],by trivial⟩) (λc=>⟨?_,by trivial⟩)
  congr 2
  rw [decide_eq_decide];omega
 rintro v1 g2 h3 ⟨e,rfl⟩
 cases e
 refine sb ?_
 refine Wa3 (λc=>?_) (λc=>?_)
 ·rw [if_pos c] at k;exact k
 ·rw [if_neg c] at k
  have e1:s64 (d - 1)=d - 1:=by unfold s64;omega
  rw [e1,show min (d - 1).toNat 64=(d - 1).toNat by omega,Int.one_mul]
  refine ⟨by omega,?_⟩
  have hp:(2:Int) ^ (d - 1).toNat<=2 ^ 19:=by
   have:=Nat.pow_le_pow_right (n:=2) (by omega) (show (d - 1).toNat<=19 by omega)
   exact_mod_cast this
  have hp0:(0:Int)<=2 ^ (d - 1).toNat:=by exact_mod_cast Nat.zero_le _
  rw [show s64 (2 ^ (d - 1).toNat)=2 ^ (d - 1).toNat by unfold s64;omega]
  exact k
theorem Yf2 (d:Int):0<=Wg4 d/\Wg4 d<=524288:=by
 unfold Wg4
 split
 ·omega
 ·rename_i c
  have hp:(2:Int) ^ (d - 1).toNat<=2 ^ 19:=by
   have:=Nat.pow_le_pow_right (n:=2) (by omega) (show (d - 1).toNat<=19 by omega)
   exact_mod_cast this
  have hp0:(0:Int)<=2 ^ (d - 1).toNat:=by exact_mod_cast Nat.zero_le _
  omega
theorem W73 (a b:Int):WY5 a b=max a b:=by unfold WY5;split <;> omega
theorem YB6 (a b:Int):WY6 a b=min a b:=by unfold WY6;split <;> omega
theorem W27 {d w:Int} (hd:iN d) (k:K (iQ (YX0 d w)) h):Wa5 Tryz.prog 213 #[iQ d,iQ w] h K:=by
 refine call213 ?_
 unfold F213 cf
 refine Wa0 (WC9 hd ?_)
 refine sb ?_
 unfold YX0 at k
 have hr:=Yf2 d
 refine Wa3 (λc=>?_) (λc=>?_)
 ·simp only [if_pos c] at k;exact k
 ·simp only [if_neg c] at k
  rw [Wq1,W73]
  refine ⟨c,?_⟩
  rw [WJ6 (by omega)]
  have h0:0<=max w 0 % Wg4 d:=Int.emod_nonneg _ c
  have h1:max w 0 % Wg4 d < Wg4 d:=Int.emod_lt_of_pos _ (by omega)
  have e:max (0:Int) w=max w 0:=Int.max_comm _ _
  try rw [e]
  rw [show s64 (Wg4 d+max w 0 % Wg4 d)=Wg4 d+max w 0 % Wg4 d by unfold s64;omega]
  exact k
theorem Zi9 {n l:Int} (hl:iN l) (k:K (iQ (ZN5 n l)) h):Wa5 Tryz.prog 282 #[iQ n,iQ l] h K:=by
 refine call282 ?_
 unfold F282 cf
 unfold ZN5 at k
 have hr:=Yo7 n
 refine ⟨λvs h'=>(∃w,vs = [w,.bool (!Zd5 n || decide (l < 0) || decide (Ws0 n < l))])/\h' = h,?_,?_⟩
 ·refine Wa0 (WG7 ?_)
  refine sb ?_
  refine Wb6 (λc=>?_) (λc=>?_)
  ·rw [c];exact ⟨_,rfl⟩
  ·rw [c]
   refine Wa3 (λc2=>?_) (λc2=>?_)
   ·rw [decide_eq_true c2];exact ⟨_,rfl⟩
   ·rw [decide_eq_false c2]
    refine Wa0 (WV1 ?_)
    refine sb ?_
    exact ⟨_,rfl⟩
 rintro v7 v8 g9 h10 ⟨⟨w,e⟩,rfl⟩
 cases e
 refine sb ?_
 refine Wb6 (λc=>?_) (λc=>?_)
 ·rw [if_pos c] at k;exact k
 ·rw [if_neg (by rw [c];simp)] at k
  refine Wa0 (WV1 ?_)
  refine sb ?_
  simp only [Bool.or_eq_false_iff,Bool.not_eq_false',decide_eq_false_iff_not] at c
  rw [show s64 (Ws0 n - l)=Ws0 n - l by unfold s64;omega]
  refine ⟨by omega,?_⟩
  rw [Wr1 (by exact_mod_cast Nat.zero_le _),show min (Ws0 n - l).toNat 64=(Ws0 n - l).toNat by omega]
  exact k
theorem Yo8 {n d:Int} (hd:iN d) (k:K (.bool (Ym8 n d)) h):Wa5 Tryz.prog 230 #[iQ n,iQ d] h K:=by
 refine call230 ?_
 unfold F230 cf
 refine Wa0 (WG7 ?_)
 refine sb ?_
 unfold Ym8 at k
 refine Wb6 (λc=>?_) (λc=>?_)
 ·rw [c,Bool.true_and] at k
  refine Wa0 (WC9 hd ?_)
  refine sb ?_
  exact k
 ·rw [c,Bool.false_and] at k
  exact k
abbrev spV (s:Sp):Value:=.agg #[iQ s.lo,iQ s.hi]
theorem Y16 {n:Int} (hn:iN n) (k:∀h',Old h.size h h'->K (spV (Zw1 n)) h'):Wa5 Tryz.prog 218 #[iQ n] h K:=by
 refine call218 ?_
 unfold F218 dl2
 rw [Wq1,W73]
 have p1:=Wf2 h #[iQ 0,iQ 0] 282
 generalize h.push (.cells #[iQ 0,iQ 0] 282)=h1 at *
 refine stR p1.new rfl trivial λh2 w2=>stR w2.new rfl trivial λh3 w3=>ldR w3.new rfl (ldR w3.new rfl ?_)
 rw [Wb5 (by omega) (by omega)]
 exact k h3 (w3.toOld (w2.toOld p1.toOld (Nat.le_refl _)) (Nat.le_refl _))
theorem W28 {s:Sp} (k:∀h',Old h.size h h'->K (.bool s.done) h'):Wa5 Tryz.prog 221 #[spV s] h K:=by
 refine call221 ?_
 unfold F221 g221 lI
 have p1:=Wf2 h #[iQ s.lo,iQ s.hi] 282
 generalize h.push (.cells #[iQ s.lo,iQ s.hi] 282)=h1 at *
 refine ldR p1.new rfl ?_
 refine sb ?_
 refine ldR p1.new rfl ?_
 refine sb ?_
 exact k h1 p1.toOld
theorem W29 {n:Int} (k:K (iQ (YA0 n)) h):Wa5 Tryz.prog 283 #[iQ n] h K:=by
 refine call283 ?_
 unfold F283
 rw [Wq1,YB6,Wq1,W73]
 exact k
theorem WQ1 (n:Int):0<=YA0 n/\YA0 n<=1073741824:=by unfold YA0;omega
theorem WV2 {s:Sp} (k:∀h',Old h.size h h'->K (iQ s.mid) h'):Wa5 Tryz.prog 223 #[spV s] h K:=by
 refine call223 ?_
 unfold F223 g223 cf ce lI
 have p1:=Wf2 h #[iQ s.lo,iQ s.hi] 282
 generalize h.push (.cells #[iQ s.lo,iQ s.hi] 282)=h1 at *
 refine ldR p1.new rfl ?_
 refine sb ?_
 refine ldR p1.new rfl ?_
 refine sb ?_
 refine Wa0 (W29 ?_)
 refine sb ?_
 refine ⟨Wd3 p1.new rfl,?_⟩
 refine Wa0 (W29 ?_)
 refine sb ?_
 have c1:=WQ1 s.lo
 have c2:=WQ1 s.hi
 refine ⟨by decide,?_⟩
 have e1:s64 (YA0 s.lo+YA0 s.hi)=YA0 s.lo+YA0 s.hi:=by unfold s64;omega
 rw [e1,Int.tdiv_eq_ediv_of_nonneg (by omega)]
 rw [show s64 ((YA0 s.lo+YA0 s.hi) / 2)=(YA0 s.lo+YA0 s.hi) / 2 by unfold s64;omega]
 exact k h1 p1.toOld
theorem Y17 (s:Sp):0<=s.mid/\s.mid<=1073741824:=by
 have c1:=WQ1 s.lo
 have c2:=WQ1 s.hi
 unfold Sp.mid
 omega
theorem Y18 {s:Sp} {b:Bool} (k:∀h',Old h.size h h'->K (spV (s.cut b)) h'):Wa5 Tryz.prog 224 #[spV s,.bool b] h K:=by
 refine call224 ?_
 unfold F224 g224 cf ce dl2 dw2
 have p1:=Wf2 h #[iQ s.lo,iQ s.hi] 282
 generalize h.push (.cells #[iQ s.lo,iQ s.hi] 282)=h1 at *
 have p2:=Wf2 h1 #[iQ 0,iQ 0] 282
 generalize h1.push (.cells #[iQ 0,iQ 0] 282)=h2 at *
 have hs:=p1.size
 have o2:Old h.size h h2:=p1.toOld.trans (p2.toOld.mono (by omega))
 have e0:h2[h.size]? = some (.cells #[iQ s.lo,iQ s.hi] 282):=(p2.old _ (by omega)).trans p1.new
 refine ldR e0 rfl (ldR e0 rfl ?_)
 refine Wa0 (W28 λh3 o3=>?_)
 refine sb ?_
 have e3:h3[h.size]? = some (.cells #[iQ s.lo,iQ s.hi] 282):=(o3.2 _ (by have:=p2.size;omega)).trans e0
 have n3:h3[h1.size]? = some (.cells #[iQ 0,iQ 0] 282):=(o3.2 _ (by have:=p2.size;omega)).trans p2.new
 have o23:Old h.size h h3:=o2.trans (o3.mono (by have:=p2.size;omega))
 unfold Sp.cut at k
 refine Wb6 (λc=>?_) (λc=>?_)
 ·rw [if_pos c] at k
  refine ldR e3 rfl (ldR e3 rfl ?_)
  refine stR n3 rfl trivial λh4 w4=>stR w4.new rfl trivial λh5 w5=>ldR w5.new rfl (ldR w5.new rfl ?_)
  exact k h5 (w5.toOld (w4.toOld o23 (by omega)) (by omega))
 ·rw [if_neg (by rw [c];simp)] at k
  cases b with
  | true=>
   simp only [Wd8,if_true] at k ⊢
   refine ldR e3 rfl ?_
   refine sb ?_
   refine ldR e3 rfl (ldR e3 rfl ?_)
   refine Wa0 (WV2 λh4 o4=>?_)
   refine sb ?_
   have e4:=(o4.2 _ (by have:=o3.1;have:=p2.size;omega)).trans e3
   have n4:=(o4.2 _ (by have:=o3.1;have:=p2.size;omega)).trans n3
   have o24:Old h.size h h4:=o23.trans (o4.mono o23.1)
   refine ⟨Wd3 e4 rfl,?_⟩
   refine stR n4 rfl trivial λh5 w5=>stR w5.new rfl trivial λh6 w6=>ldR w6.new rfl (ldR w6.new rfl ?_)
   exact k h6 (w6.toOld (w5.toOld o24 (by omega)) (by omega))
  | false=>
   simp only [Wc5,Bool.false_eq_true,if_false] at k ⊢
   refine ldR e3 rfl (ldR e3 rfl (ldR e3 rfl ?_))
   refine sb ?_
   refine Wa0 (WV2 λh4 o4=>?_)
   refine sb ?_
   have e4:=(o4.2 _ (by have:=o3.1;have:=p2.size;omega)).trans e3
   have n4:=(o4.2 _ (by have:=o3.1;have:=p2.size;omega)).trans n3
   have o24:Old h.size h h4:=o23.trans (o4.mono o23.1)
   have hm:=Y17 s
   rw [show s64 (s.mid+1)=s.mid+1 by unfold s64;omega]
   refine ⟨Wd3 e4 rfl,?_⟩
   refine stR n4 rfl trivial λh5 w5=>stR w5.new rfl trivial λh6 w6=>ldR w6.new rfl (ldR w6.new rfl ?_)
   exact k h6 (w6.toOld (w5.toOld o24 (by omega)) (by omega))
end
end
end Go.Proofs.YtahpbclnkofhfaaGreat
