/- Part 9 of what the proofs of this seat rest on: see the last text of the claim. -/
import Derived.Test.YtahpbclnkofhfaaGreatQ7913689b8979
import Derived.Test.YtahpbclnkofhfaaGreatProg
set_option linter.unusedSimpArgs false
set_option linter.unusedVariables false
set_option linter.ambiguousOpen false
set_option maxRecDepth 20000
namespace Go.Proofs.YtahpbclnkofhfaaGreat
section
set_option maxRecDepth 100000
def F63 (K:Value→Wa1→Prop) (h:Wa1) (xa xb:Option Addr):Prop:=
 (cf 105 #[.pointer xb] h λa b=>Wb1 a λa=>exI λI3=>(ifB (Option.isNone a) (I3 [.bool true] b) (I3 [.bool (Option.isNone xa)] b))∧(∀(b:Value) (c:Env) (c:Wa1),(I3 [b] c)→(asBool b λb=>ifB b (K (.tuple #[]) c) (stH (Array.push c (.cells #[.pointer none,.pointer none,.pointer none] 187)) ⟨c.size,0,none⟩ (.pointer xa) λb=>stH b ⟨c.size,1,none⟩ (.pointer xb) λb=>stH b ⟨c.size,2,none⟩ (.pointer a) λb=>exI λI11=>(nP a λd=>lI .i64 b (Addr.add d 1) λd=>ifB (d == 90) (nP a λd=>lI .i64 b d λd=>ifB (decide (d ≥ 11)) (nP a λe=>lI .i64 b e λe=>I11 [.bool (decide (e≤13)),.bool (decide (d ≥ 11)),.bool (decide (e≤13))] b) (I11 [.bool false,.bool (decide (d ≥ 11)),.bool false] b)) (I11 [.bool false,.bool false,.bool false] b))∧(∀(b d e:Value) (f:Env) (f:Wa1),(I11 [b,d,e] f)→(asBool b λb=>ifB b (nP a λb=>bd 7 10 (lI .u64 f (Addr.add b 9) λb=>nP a λd=>bd 8 10 (lI .u64 f (Addr.add d 10) λd=>nP a λe=>bd 9 10 (lI .u64 f (Addr.add e 11) λe=>cf 106 #[.pointer xb,.slice (some ⟨f.size,0,none⟩) 3 3] (Array.push f (.cells #[.int .u64 b,.int .u64 d,.int .u64 e] 178)) λb b=>K (.tuple #[]) b)))) (nP a λb=>lI .i64 f b λb=>ifB (b == 10) (dl3 f c.size λb d e=>cf 107 #[.agg #[b,d,e]] f λb b=>K (.tuple #[]) b) (nP a λb=>lI .i64 f b λb=>ifB (b == 11) (dl3 f c.size λb d e=>cf 108 #[.agg #[b,d,e]] f λb b=>K (.tuple #[]) b) (exI λI54=>(nP a λb=>lI .i64 f b λb=>ifB (b == 12) (I54 [.bool true,.bool true] f) (nP a λb=>lI .i64 f b λb=>I54 [.bool (b == 13),.bool (b == 13)] f))∧(∀(b d:Value) (e:Env) (e:Wa1),(I54 [b,d] e)→(asBool b λb=>ifB b (dl3 e c.size λb d f=>cf 109 #[.agg #[b,d,f]] e λb b=>K (.tuple #[]) b) (nP a λa=>lI .i64 e a λa=>ifB (a == 14) (dl3 e c.size λa b c=>cf 110 #[.agg #[a,b,c]] e λa a=>K (.tuple #[]) a) (cf 111 #[.pointer xa,.pointer xb] e λa a=>K (.tuple #[]) a)))))))))))))
theorem call63 {K:Value→Wa1→Prop} {h:Wa1} {xa xb:Option Addr} (H:F63 K h xa xb):Wa5 Tryz.prog 63 #[(.pointer xa),(.pointer xb)] h K:=
 Wa4 Tryz.func63 (by kernel_rfl) (Eq.mp (by kernel_rfl) H)
abbrev g107 (K:Value→Wa1→Prop) (h H1:Wa1):Prop:=
 (lP H1 ⟨h.size,2,none⟩ λa=>nP a λa=>lI .i64 H1 (Addr.add a 1) λa=>ifB (a == 0) (dl3 H1 h.size λa b c=>dl3 H1 h.size λd e f=>lP H1 ⟨h.size,2,none⟩ λg=>nP g λg=>bd 0 10 (lI .u64 H1 (Addr.add g 2) λg=>cf 145 #[.agg #[d,e,f],.int .u64 g] H1 λd e=>asInt .i64 d λd=>ce e h.size 0 a (ce e h.size 1 b (ce e h.size 2 c (((Wa2 (Array.push e (.cells #[.int .u64 1,.int .u64 (IntKind.wrap .u64 d)] 178)) ⟨h.size,0,none⟩)=(some a))∧(((Wa2 (Array.push e (.cells #[.int .u64 1,.int .u64 (IntKind.wrap .u64 d)] 178)) ⟨h.size,1,none⟩)=(some b))∧(((Wa2 (Array.push e (.cells #[.int .u64 1,.int .u64 (IntKind.wrap .u64 d)] 178)) ⟨h.size,2,none⟩)=(some c))∧(cf 144 #[.agg #[a,b,c],.int .i64 1,.int .i64 3,.slice (some ⟨e.size,0,none⟩) 2 2] (Array.push e (.cells #[.int .u64 1,.int .u64 (IntKind.wrap .u64 d)] 178)) λa a=>K (.tuple #[]) a)))))))) (lP H1 ⟨h.size,1,none⟩ λa=>nP a λa=>bd 0 3 (lI .u64 H1 (Addr.add a 2) λa=>cf 146 #[.int .u64 a] H1 λb c=>asInt .i64 b λb=>ifB (b == 0) (lP c ⟨h.size,1,none⟩ λb=>cf 106 #[.pointer b,.slice (some ⟨c.size,0,none⟩) 2 2] (Array.push c (.cells #[.int .u64 a,.int .u64 1099511627776] 178)) λb b=>K (.tuple #[]) b) (ldH c ⟨h.size,1,none⟩ λb=>Wb1 b λd=>ldH c ⟨h.size,0,none⟩ λe=>Wb1 e λf=>dl3 c h.size λg i j=>cf 148 #[.agg #[g,i,j],.int .u64 a,.int .i64 0] c λc g=>asInt .i64 c λc=>ce g h.size 0 e (ce g h.size 1 b (cf 147 #[.pointer f,.int .i64 c] g λc e=>asInt .u64 c λc=>ce e h.size 1 b (((Wa2 (Array.push e (.cells #[.int .u64 a,.int .u64 c] 178)) ⟨h.size,1,none⟩)=(some b))∧(cf 106 #[.pointer d,.slice (some ⟨e.size,0,none⟩) 2 2] (Array.push e (.cells #[.int .u64 a,.int .u64 c] 178)) λa a=>K (.tuple #[]) a))))))))
def F107 (K:Value→Wa1→Prop) (h:Wa1) (xa xb xc:Option Addr):Prop:=
 (g107 K h (Array.push h (.cells #[.pointer xa,.pointer xb,.pointer xc] 187)))
theorem call107 {K:Value→Wa1→Prop} {h:Wa1} {xa xb xc:Option Addr} (H:F107 K h xa xb xc):Wa5 Tryz.prog 107 #[(.agg #[(.pointer xa),(.pointer xb),(.pointer xc)])] h K:=
 Wa4 Tryz.func107 (by kernel_rfl) (Eq.mp (by kernel_rfl) H)
abbrev g108 (K:Value→Wa1→Prop) (h H1:Wa1):Prop:=
 (lP H1 (Addr.add ⟨h.size,0,none⟩ 2) λa=>nP a λa=>lI .i64 H1 (Addr.add a 1) λa=>ifB (decide (a≤3)) (dl3 H1 h.size λa b c=>cf 149 #[.agg #[a,b,c]] H1 λa a=>K (.tuple #[]) a) (lP H1 (Addr.add ⟨h.size,0,none⟩ 2) λa=>nP a λa=>lI .i64 H1 (Addr.add a 1) λa=>ifB (decide (a≤7)) (dl3 H1 h.size λa b c=>cf 150 #[.agg #[a,b,c]] H1 λa a=>K (.tuple #[]) a) (lP H1 (Addr.add ⟨h.size,0,none⟩ 2) λa=>nP a λa=>lI .i64 H1 (Addr.add a 1) λa=>ifB (decide (a≤9)) (dl3 H1 h.size λa b c=>cf 151 #[.agg #[a,b,c]] H1 λa a=>K (.tuple #[]) a) (dl3 H1 h.size λa b c=>cf 152 #[.agg #[a,b,c]] H1 λa a=>K (.tuple #[]) a))))
def F108 (K:Value→Wa1→Prop) (h:Wa1) (xa xb xc:Option Addr):Prop:=
 (g108 K h (Array.push h (.cells #[.pointer xa,.pointer xb,.pointer xc] 193)))
theorem call108 {K:Value→Wa1→Prop} {h:Wa1} {xa xb xc:Option Addr} (H:F108 K h xa xb xc):Wa5 Tryz.prog 108 #[(.agg #[(.pointer xa),(.pointer xb),(.pointer xc)])] h K:=
 Wa4 Tryz.func108 (by kernel_rfl) (Eq.mp (by kernel_rfl) H)
abbrev g109 (K:Value→Wa1→Prop) (h H1:Wa1):Prop:=
 (lP H1 (Addr.add ⟨h.size,0,none⟩ 2) λa=>da3 H1 ⟨h.size,0,none⟩ λb c d=>cf 153 #[.agg #[b,c,d],.int .i64 0] H1 λb c=>asInt .u64 b λb=>nP a λd=>lI .i64 c (Addr.add d 1) λd=>ifB (d == 4) (ldH c ⟨h.size,0,none⟩ λe=>Wb1 e λf=>da3 c ⟨h.size,0,none⟩ λg i j=>nP a λk=>cf 148 #[.agg #[g,i,j],.int .u64 b,.int .i64 2] c λg i=>asInt .i64 g λg=>ce i h.size 0 e (cf 147 #[.pointer f,.int .i64 g] i λe f=>asInt .u64 e λe=>bd 3 10 (stH f (Addr.add k 5) (.int .u64 e) λe=>nP a λf=>stH e (Addr.add f 1) (.int .i64 5) λe=>K (.tuple #[]) e))) (ifB (d == 5) (nP a λe=>stH c (Addr.add e 1) (.int .i64 0) λe=>da3 e ⟨h.size,0,none⟩ λf g i=>nP a λj=>bd 3 10 (lI .u64 e (Addr.add j 5) λj=>cf 154 #[.agg #[f,g,i],.int .u64 1,.int .u64 b,.int .i64 (IntKind.wrap .i64 j),.bool true] e λe f=>asBool e λe=>ifB e (da3 f ⟨h.size,0,none⟩ λe g i=>cf 144 #[.agg #[e,g,i],.int .i64 6,.int .i64 14,.slice (some ⟨f.size,0,none⟩) 1 1] (Array.push f (.cells #[.int .u64 1] 178)) λe e=>K (.tuple #[]) e) (K (.tuple #[]) f))) (ifB (d == 6) (da3 c ⟨h.size,0,none⟩ λe f g=>cf 146 #[.int .u64 b] c λb i=>asInt .i64 b λb=>ce i h.size 0 e (((Wa2 i (Addr.add ⟨h.size,0,none⟩ 1))=(some f))∧(((Wa2 i (Addr.add ⟨h.size,0,none⟩ 2))=(some g))∧(((Wa2 (Array.push i (.cells #[.int .u64 (IntKind.wrap .u64 b)] 178)) ⟨h.size,0,none⟩)=(some e))∧(((Wa2 (Array.push i (.cells #[.int .u64 (IntKind.wrap .u64 b)] 178)) (Addr.add ⟨h.size,0,none⟩ 1))=(some f))∧(((Wa2 (Array.push i (.cells #[.int .u64 (IntKind.wrap .u64 b)] 178)) (Addr.add ⟨h.size,0,none⟩ 2))=(some g))∧(cf 144 #[.agg #[e,f,g],.int .i64 7,.int .i64 5,.slice (some ⟨i.size,0,none⟩) 1 1] (Array.push i (.cells #[.int .u64 (IntKind.wrap .u64 b)] 178)) λb b=>K (.tuple #[]) b))))))) (ifB (d == 7) (da3 c ⟨h.size,0,none⟩ λb d e=>nP a λf=>bd 1 10 (lI .u64 c (Addr.add f 3) λf=>nP a λa=>bd 2 10 (lI .u64 c (Addr.add a 4) λa=>cf 155 #[.agg #[b,d,e],.int .u64 2,.int .u64 f,.int .u64 a] c λa a=>K (.tuple #[]) a))) (dl3 c h.size λa b d=>cf 156 #[.agg #[a,b,d]] c λa a=>K (.tuple #[]) a)))))
def F109 (K:Value→Wa1→Prop) (h:Wa1) (xa xb xc:Option Addr):Prop:=
 (g109 K h (Array.push h (.cells #[.pointer xa,.pointer xb,.pointer xc] 194)))
theorem call109 {K:Value→Wa1→Prop} {h:Wa1} {xa xb xc:Option Addr} (H:F109 K h xa xb xc):Wa5 Tryz.prog 109 #[(.agg #[(.pointer xa),(.pointer xb),(.pointer xc)])] h K:=
 Wa4 Tryz.func109 (by kernel_rfl) (Eq.mp (by kernel_rfl) H)
abbrev g110 (K:Value→Wa1→Prop) (h H1:Wa1):Prop:=
 (lP H1 (Addr.add ⟨h.size,0,none⟩ 2) λa=>nP a λb=>bd 0 10 (lI .u64 H1 (Addr.add b 2) λb=>nP a λc=>lI .i64 H1 (Addr.add c 1) λc=>ifB (c == 4) (da3 H1 ⟨h.size,0,none⟩ λd e f=>cf 144 #[.agg #[d,e,f],.int .i64 5,.int .i64 10,.slice (some ⟨H1.size,0,none⟩) 1 1] (Array.push H1 (.cells #[.int .u64 (IntKind.wrap .u64 (2*b))] 178)) λd d=>K (.tuple #[]) d) (ifB (c == 5) (dl3 H1 h.size λd e f=>cf 157 #[.agg #[d,e,f],.int .i64 3,.int .i64 6,.int .u64 (IntKind.wrap .u64 (2*b))] H1 λd d=>exI λI18=>(nP a λe=>lI .i64 d (Addr.add e 1) λe=>ifB (e == 6) (lP d (Addr.add ⟨h.size,0,none⟩ 1) λe=>cf 105 #[.pointer e] d λe f=>Wb1 e λe=>Zz8 Tryz.prog .eql 184 e a f λe f=>asBool e λe=>I18 [.bool e] f) (I18 [.bool false] d))∧(∀(d:Value) (e:Env) (e:Wa1),(I18 [d] e)→(asBool d λd=>ifB d (da3 e ⟨h.size,0,none⟩ λd f g=>cf 144 #[.agg #[d,f,g],.int .i64 6,.int .i64 10,.slice (some ⟨e.size,0,none⟩) 1 1] (Array.push e (.cells #[.int .u64 (IntKind.wrap .u64 ((IntKind.wrap .u64 (2*b))+1))] 178)) λd d=>K (.tuple #[]) d) (K (.tuple #[]) e)))) (ifB (c == 6) (dl3 H1 h.size λd e f=>cf 157 #[.agg #[d,e,f],.int .i64 5,.int .i64 7,.int .u64 (IntKind.wrap .u64 ((IntKind.wrap .u64 (2*b))+1))] H1 λd d=>K (.tuple #[]) d) (ifB (c == 7) (exI λI44=>(nP a λc=>bd 4 10 (lI .u64 H1 (Addr.add c 6) λc=>nP a λd=>bd 6 10 (lI .u64 H1 (Addr.add d 8) λd=>ifB (decide (c≤d)) (nP a λc=>bd 4 10 (lI .u64 H1 (Addr.add c 6) λc=>nP a λd=>bd 2 10 (lI .u64 H1 (Addr.add d 4) λd=>I44 [.bool (decide (c < d)),.bool (decide (c < d))] H1))) (I44 [.bool false,.bool false] H1))))∧(∀(c d:Value) (e:Env) (e:Wa1),(I44 [c,d] e)→(asBool c λc=>ifB c (dl3 e h.size λc d f=>cf 158 #[.agg #[c,d,f],.int .i64 3,.int .u64 (IntKind.wrap .u64 (2*b))] e λc c=>K (.tuple #[]) c) (exI λI67=>(nP a λc=>bd 6 10 (lI .u64 e (Addr.add c 8) λc=>nP a λd=>bd 4 10 (lI .u64 e (Addr.add d 6) λd=>ifB (decide (c < d)) (nP a λc=>bd 6 10 (lI .u64 e (Addr.add c 8) λc=>nP a λa=>bd 2 10 (lI .u64 e (Addr.add a 4) λa=>I67 [.bool (decide (c < a)),.bool (decide (c < a))] e))) (I67 [.bool false,.bool false] e))))∧(∀(a c:Value) (d:Env) (d:Wa1),(I67 [a,c] d)→(asBool a λa=>ifB a (dl3 d h.size λa c e=>cf 158 #[.agg #[a,c,e],.int .i64 5,.int .u64 (IntKind.wrap .u64 ((IntKind.wrap .u64 (2*b))+1))] d λa a=>K (.tuple #[]) a) (dl3 d h.size λa b c=>cf 159 #[.agg #[a,b,c]] d λa a=>K (.tuple #[]) a))))))) (dl3 H1 h.size λa b c=>cf 160 #[.agg #[a,b,c]] H1 λa a=>K (.tuple #[]) a))))))
def F110 (K:Value→Wa1→Prop) (h:Wa1) (xa xb xc:Option Addr):Prop:=
 (g110 K h (Array.push h (.cells #[.pointer xa,.pointer xb,.pointer xc] 195)))
theorem call110 {K:Value→Wa1→Prop} {h:Wa1} {xa xb xc:Option Addr} (H:F110 K h xa xb xc):Wa5 Tryz.prog 110 #[(.agg #[(.pointer xa),(.pointer xb),(.pointer xc)])] h K:=
 Wa4 Tryz.func110 (by kernel_rfl) (Eq.mp (by kernel_rfl) H)
abbrev g144 (K:Value→Wa1→Prop) (h H1:Wa1) (xa xb:Int) (xc:Option Addr) (xd xe:Nat):Prop:=
 (lP H1 ⟨h.size,2,none⟩ λa=>nP a λa=>stH H1 (Addr.add a 1) (.int .i64 xa) λa=>lP a ⟨h.size,1,none⟩ λb=>cf 130 #[.pointer b,.int .i64 xb,.slice xc xd xe] a λa a=>K (.tuple #[]) a)
def F144 (K:Value→Wa1→Prop) (h:Wa1) (xa xb xc:Option Addr) (xd xe:Int) (xf:Option Addr) (xg xh:Nat):Prop:=
 (g144 K h (Array.push h (.cells #[.pointer xa,.pointer xb,.pointer xc] 187)) xd xe xf xg xh)
theorem call144 {K:Value→Wa1→Prop} {h:Wa1} {xa xb xc:Option Addr} {xd xe:Int} {xf:Option Addr} {xg xh:Nat} (H:F144 K h xa xb xc xd xe xf xg xh):Wa5 Tryz.prog 144 #[(.agg #[(.pointer xa),(.pointer xb),(.pointer xc)]),(.int .i64 xd),(.int .i64 xe),(.slice xf xg xh)] h K:=
 Wa4 Tryz.func144 (by kernel_rfl) (Eq.mp (by kernel_rfl) H)
abbrev g145 (K:Value→Wa1→Prop) (h H1:Wa1) (xa:Int):Prop:=
 (lP H1 ⟨h.size,0,none⟩ λa=>cf 79 #[.pointer a] H1 λa b=>asAgg a λa=>We0 a 15 (Wn6 a λa c d e f g i j k l m n o p q=>cf 207 #[.agg #[a,c,d,e,f,g,i,j,k,l,m,n,o,p,q],.int .i64 (IntKind.wrap .i64 xa)] b λa b=>asInt .i64 a λa=>K (.int .i64 a) b))
def F145 (K:Value→Wa1→Prop) (h:Wa1) (xa xb xc:Option Addr) (xd:Int):Prop:=
 (g145 K h (Array.push h (.cells #[.pointer xa,.pointer xb,.pointer xc] 187)) xd)
theorem call145 {K:Value→Wa1→Prop} {h:Wa1} {xa xb xc:Option Addr} {xd:Int} (H:F145 K h xa xb xc xd):Wa5 Tryz.prog 145 #[(.agg #[(.pointer xa),(.pointer xb),(.pointer xc)]),(.int .u64 xd)] h K:=
 Wa4 Tryz.func145 (by kernel_rfl) (Eq.mp (by kernel_rfl) H)
abbrev g148 (K:Value→Wa1→Prop) (h H1:Wa1) (xa xb:Int):Prop:=
 (lP H1 ⟨h.size,0,none⟩ λa=>cf 79 #[.pointer a] H1 λa b=>asAgg a λa=>We0 a 15 (Wn6 a λa c d e f g i j k l m n o p q=>cf 146 #[.int .u64 xa] b λb r=>asInt .i64 b λb=>cf 143 #[.agg #[a,c,d,e,f,g,i,j,k,l,m,n,o,p,q],.int .i64 b,.int .i64 xb] r λa b=>asInt .i64 a λa=>K (.int .i64 a) b))
def F148 (K:Value→Wa1→Prop) (h:Wa1) (xa xb xc:Option Addr) (xd xe:Int):Prop:=
 (g148 K h (Array.push h (.cells #[.pointer xa,.pointer xb,.pointer xc] 187)) xd xe)
theorem call148 {K:Value→Wa1→Prop} {h:Wa1} {xa xb xc:Option Addr} {xd xe:Int} (H:F148 K h xa xb xc xd xe):Wa5 Tryz.prog 148 #[(.agg #[(.pointer xa),(.pointer xb),(.pointer xc)]),(.int .u64 xd),(.int .i64 xe)] h K:=
 Wa4 Tryz.func148 (by kernel_rfl) (Eq.mp (by kernel_rfl) H)
abbrev g149 (K:Value→Wa1→Prop) (h H1:Wa1):Prop:=
 (lP H1 (Addr.add ⟨h.size,0,none⟩ 2) λa=>nP a λb=>lI .i64 H1 (Addr.add b 1) λb=>ifB (b == 0) (da3 H1 ⟨h.size,0,none⟩ λc d e=>cf 144 #[.agg #[c,d,e],.int .i64 1,.int .i64 1,.slice none 0 0] H1 λc c=>K (.tuple #[]) c) (ifB (b == 1) (lP H1 (Addr.add ⟨h.size,0,none⟩ 1) λc=>nP c λc=>bd 0 3 (lI .u64 H1 (Addr.add c 2) λc=>nP a λd=>bd 2 10 (stH H1 (Addr.add d 4) (.int .u64 c) λc=>nP a λd=>bd 2 10 (lI .u64 c (Addr.add d 4) λd=>ifB (d != 0) (nP a λd=>stH c (Addr.add d 1) (.int .i64 2) λd=>K (.tuple #[]) d) (exI λI22=>(nP a λd=>bd 3 10 (lI .u64 c (Addr.add d 5) λd=>ifB (d == 0) (lP c (Addr.add ⟨h.size,0,none⟩ 1) λd=>nP d λd=>cf 211 #[.pointer (some (Addr.add d 8))] c λd e=>asInt .i64 d λd=>I22 [.bool (decide (d > 0)),.bool (decide (d > 0))] e) (I22 [.bool false,.bool false] c)))∧(∀(c d:Value) (e:Env) (e:Wa1),(I22 [c,d] e)→(asBool c λc=>ifB c (nP a λc=>bd 3 10 (stH e (Addr.add c 5) (.int .u64 1) λc=>da3 c ⟨h.size,0,none⟩ λd f g=>cf 144 #[.agg #[d,f,g],.int .i64 0,.int .i64 6,.slice none 0 0] c λc c=>K (.tuple #[]) c)) (da3 e ⟨h.size,0,none⟩ λc d f=>cf 155 #[.agg #[c,d,f],.int .u64 1,.int .u64 0,.int .u64 0] e λc c=>K (.tuple #[]) c)))))))) (ifB (b == 2) (ldH H1 ⟨h.size,0,none⟩ λc=>Wb1 c λd=>lP H1 ⟨h.size,0,none⟩ λe=>nP a λf=>bd 2 10 (ldH H1 (Addr.add f 4) λg=>asInt .u64 g λi=>nP a λj=>bd 0 10 (ldH H1 (Addr.add j 2) λk=>asInt .u64 k λl=>cf 79 #[.pointer e] H1 λe m=>asAgg e λe=>We0 e 15 (Wn6 e λe n o p q r s t u v w x y z A=>((Wa2 m (Addr.add j 2))=(some k))∧(((Wa2 m (Addr.add f 4))=(some g))∧(ce m h.size 0 c (cf 143 #[.agg #[e,n,o,p,q,r,s,t,u,v,w,x,y,z,A],.int .i64 (IntKind.wrap .i64 i),.int .i64 0] m λe f=>asInt .i64 e λe=>((Wa2 f (Addr.add j 2))=(some k))∧(ce f h.size 0 c (cf 212 #[.pointer d,.int .i64 e,.int .u64 l] f λc c=>nP a λd=>stH c (Addr.add d 1) (.int .i64 3) λc=>K (.tuple #[]) c))))))))) (ifB (b == 3) (ldH H1 ⟨h.size,0,none⟩ λb=>Wb1 b λc=>lP H1 ⟨h.size,0,none⟩ λd=>nP a λe=>bd 2 10 (ldH H1 (Addr.add e 4) λf=>asInt .u64 f λg=>nP a λi=>bd 1 10 (ldH H1 (Addr.add i 3) λj=>asInt .u64 j λk=>cf 79 #[.pointer d] H1 λd l=>asAgg d λd=>We0 d 15 (Wn6 d λd m n o p q r s t u v w x y z=>((Wa2 l (Addr.add i 3))=(some j))∧(((Wa2 l (Addr.add e 4))=(some f))∧(ce l h.size 0 b (cf 143 #[.agg #[d,m,n,o,p,q,r,s,t,u,v,w,x,y,z],.int .i64 (IntKind.wrap .i64 g),.int .i64 1] l λd e=>asInt .i64 d λd=>((Wa2 e (Addr.add i 3))=(some j))∧(ce e h.size 0 b (cf 212 #[.pointer c,.int .i64 d,.int .u64 k] e λb b=>nP a λc=>bd 3 10 (stH b (Addr.add c 5) (.int .u64 0) λb=>nP a λa=>stH b (Addr.add a 1) (.int .i64 4) λa=>K (.tuple #[]) a)))))))))) (K (.tuple #[]) H1)))))
def F149 (K:Value→Wa1→Prop) (h:Wa1) (xa xb xc:Option Addr):Prop:=
 (g149 K h (Array.push h (.cells #[.pointer xa,.pointer xb,.pointer xc] 193)))
theorem call149 {K:Value→Wa1→Prop} {h:Wa1} {xa xb xc:Option Addr} (H:F149 K h xa xb xc):Wa5 Tryz.prog 149 #[(.agg #[(.pointer xa),(.pointer xb),(.pointer xc)])] h K:=
 Wa4 Tryz.func149 (by kernel_rfl) (Eq.mp (by kernel_rfl) H)
abbrev g150 (K:Value→Wa1→Prop) (h H1:Wa1):Prop:=
 (lP H1 (Addr.add ⟨h.size,0,none⟩ 2) λa=>lP H1 ⟨h.size,0,none⟩ λb=>cf 79 #[.pointer b] H1 λb c=>asAgg b λb=>We0 b 15 (Wn6 b λb d e f g i j k l m n o p q r=>cf 139 #[.agg #[b,d,e,f,g,i,j,k,l,m,n,o,p,q,r]] c λb c=>asAgg b λb=>We0 b 7 (de7 b λb d e f g i j=>stH (Array.push c (.cells #[.int .i64 0,.int .i64 0,.int .i64 0,.int .i64 0,.int .i64 0,.int .i64 0,.int .i64 0] 23)) ⟨c.size,0,none⟩ b λb=>stH b ⟨c.size,1,none⟩ d λb=>stH b ⟨c.size,2,none⟩ e λb=>stH b ⟨c.size,3,none⟩ f λb=>stH b ⟨c.size,4,none⟩ g λb=>stH b ⟨c.size,5,none⟩ i λb=>stH b ⟨c.size,6,none⟩ j λb=>nP a λd=>lI .i64 b (Addr.add d 1) λd=>ifB (d == 4) (lP b ⟨h.size,0,none⟩ λe=>nP a λf=>cf 147 #[.pointer e,.int .i64 2] b λe g=>asInt .u64 e λe=>bd 4 10 (stH g (Addr.add f 6) (.int .u64 e) λe=>nP a λf=>bd 4 10 (lI .u64 e (Addr.add f 6) λf=>lP e ⟨h.size,0,none⟩ λg=>nP a λi=>cf 214 #[.pointer g] e λe g=>Wb1 e λe=>cf 216 #[.int .i64 (IntKind.wrap .i64 f)] g λg j=>asInt .i64 g λg=>cf 215 #[.pointer e,.int .i64 g] j λe g=>asInt .i64 e λe=>cf 213 #[.int .i64 (IntKind.wrap .i64 f),.int .i64 e] g λe f=>asInt .i64 e λe=>bd 5 10 (stH f (Addr.add i 7) (.int .u64 (IntKind.wrap .u64 e)) λe=>nP a λf=>stH e (Addr.add f 1) (.int .i64 5) λe=>K (.tuple #[]) e)))) (ifB (d == 5) (da3 b ⟨h.size,0,none⟩ λe f g=>nP a λi=>bd 5 10 (lI .u64 b (Addr.add i 7) λi=>((Wa2 (Array.push b (.cells #[.int .u64 i] 178)) ⟨h.size,0,none⟩)=(some e))∧(((Wa2 (Array.push b (.cells #[.int .u64 i] 178)) (Addr.add ⟨h.size,0,none⟩ 1))=(some f))∧(((Wa2 (Array.push b (.cells #[.int .u64 i] 178)) (Addr.add ⟨h.size,0,none⟩ 2))=(some g))∧(cf 144 #[.agg #[e,f,g],.int .i64 6,.int .i64 10,.slice (some ⟨b.size,0,none⟩) 1 1] (Array.push b (.cells #[.int .u64 i] 178)) λe e=>K (.tuple #[]) e))))) (ifB (d == 6) (lP b (Addr.add ⟨h.size,0,none⟩ 1) λe=>nP e λe=>bd 1 3 (lI .u64 b (Addr.add e 3) λe=>nP a λf=>bd 0 10 (lI .u64 b (Addr.add f 2) λf=>ifB (decide (e ≥ f)) (dl3 b h.size λe f g=>nP a λi=>bd 4 10 (lI .u64 b (Addr.add i 6) λi=>cf 218 #[.int .i64 (IntKind.wrap .i64 i)] b λi j=>asAgg i λi=>We0 i 2 (de2 i λi k=>ce j h.size 0 e (ce j h.size 1 f (ce j h.size 2 g (cf 217 #[.agg #[e,f,g],.agg #[i,k]] j λe e=>nP a λf=>stH e (Addr.add f 1) (.int .i64 8) λe=>K (.tuple #[]) e)))))) (nP a λe=>bd 3 10 (lI .u64 b (Addr.add e 5) λe=>nP a λf=>bd 3 10 (stH b (Addr.add f 5) (.int .u64 (IntKind.wrap .u64 (e+1))) λe=>nP a λf=>stH e (Addr.add f 1) (.int .i64 4) λe=>nP a λf=>bd 3 10 (lI .u64 e (Addr.add f 5) λf=>lI .i64 e ⟨c.size,5,none⟩ λg=>ifB (decide ((IntKind.wrap .i64 f) ≥ g)) (nP a λf=>stH e (Addr.add f 1) (.int .i64 7) λf=>K (.tuple #[]) f) (K (.tuple #[]) e)))))))) (ifB (d == 7) (nP a λd=>bd 4 10 (lI .u64 b (Addr.add d 6) λd=>lI .i64 b ⟨c.size,3,none⟩ λc=>ifB (decide ((IntKind.wrap .i64 d) ≥ c)) (da3 b ⟨h.size,0,none⟩ λc d e=>cf 155 #[.agg #[c,d,e],.int .u64 1,.int .u64 0,.int .u64 0] b λc c=>ldH c (Addr.add ⟨h.size,0,none⟩ 1) λd=>Wb1 d λe=>nP a λf=>bd 2 10 (lI .u64 c (Addr.add f 4) λf=>((Wa2 (Array.push c (.cells #[.int .u64 f] 178)) (Addr.add ⟨h.size,0,none⟩ 1))=(some d))∧(cf 130 #[.pointer e,.int .i64 5,.slice (some ⟨c.size,0,none⟩) 1 1] (Array.push c (.cells #[.int .u64 f] 178)) λc c=>K (.tuple #[]) c))) (lP b ⟨h.size,0,none⟩ λc=>nP a λd=>bd 4 10 (lI .u64 b (Addr.add d 6) λd=>nP a λe=>bd 4 10 (lI .u64 b (Addr.add e 6) λe=>cf 219 #[.pointer c,.int .i64 2,.int .u64 d,.int .u64 (IntKind.wrap .u64 (e+1))] b λc d=>asBool c λc=>nP a λc=>bd 3 10 (stH d (Addr.add c 5) (.int .u64 0) λc=>nP a λa=>stH c (Addr.add a 1) (.int .i64 4) λa=>K (.tuple #[]) a)))))) (K (.tuple #[]) b)))))))
def F150 (K:Value→Wa1→Prop) (h:Wa1) (xa xb xc:Option Addr):Prop:=
 (g150 K h (Array.push h (.cells #[.pointer xa,.pointer xb,.pointer xc] 193)))
theorem call150 {K:Value→Wa1→Prop} {h:Wa1} {xa xb xc:Option Addr} (H:F150 K h xa xb xc):Wa5 Tryz.prog 150 #[(.agg #[(.pointer xa),(.pointer xb),(.pointer xc)])] h K:=
 Wa4 Tryz.func150 (by kernel_rfl) (Eq.mp (by kernel_rfl) H)
abbrev g151 (K:Value→Wa1→Prop) (h H1:Wa1):Prop:=
 (dl3 H1 h.size λa b c=>cf 220 #[.agg #[a,b,c]] H1 λa b=>asAgg a λa=>We0 a 2 (de2 a λa c=>stH (Array.push b (.cells #[.int .i64 0,.int .i64 0] 282)) ⟨b.size,0,none⟩ a λa=>stH a ⟨b.size,1,none⟩ c λa=>lP a (Addr.add ⟨h.size,0,none⟩ 2) λc=>nP c λc=>lI .i64 a (Addr.add c 1) λc=>ifB (c == 8) (dl2 a b.size λd e=>cf 221 #[.agg #[d,e]] a λd e=>asBool d λd=>ifB d (lP e (Addr.add ⟨h.size,0,none⟩ 2) λd=>nP d λd=>stH e (Addr.add d 1) (.int .i64 10) λd=>K (.tuple #[]) d) (da3 e ⟨h.size,0,none⟩ λd f g=>dl3 e h.size λi j k=>dl2 e b.size λl m=>cf 223 #[.agg #[l,m]] e λe l=>asInt .i64 e λe=>ce l h.size 0 i (ce l h.size 1 j (ce l h.size 2 k (ce l h.size 0 d (((Wa2 l (Addr.add ⟨h.size,0,none⟩ 1))=(some f))∧(((Wa2 l (Addr.add ⟨h.size,0,none⟩ 2))=(some g))∧(cf 222 #[.agg #[i,j,k],.int .i64 e] l λe i=>asInt .u64 e λe=>ce i h.size 0 d (((Wa2 i (Addr.add ⟨h.size,0,none⟩ 1))=(some f))∧(((Wa2 i (Addr.add ⟨h.size,0,none⟩ 2))=(some g))∧(((Wa2 (Array.push i (.cells #[.int .u64 e] 178)) ⟨h.size,0,none⟩)=(some d))∧(((Wa2 (Array.push i (.cells #[.int .u64 e] 178)) (Addr.add ⟨h.size,0,none⟩ 1))=(some f))∧(((Wa2 (Array.push i (.cells #[.int .u64 e] 178)) (Addr.add ⟨h.size,0,none⟩ 2))=(some g))∧(cf 144 #[.agg #[d,f,g],.int .i64 9,.int .i64 10,.slice (some ⟨i.size,0,none⟩) 1 1] (Array.push i (.cells #[.int .u64 e] 178)) λd d=>K (.tuple #[]) d)))))))))))))) (ifB (c == 9) (dl3 a h.size λc d e=>dl2 a b.size λb f=>lP a (Addr.add ⟨h.size,0,none⟩ 1) λg=>nP g λg=>bd 1 3 (lI .u64 a (Addr.add g 3) λg=>lP a (Addr.add ⟨h.size,0,none⟩ 2) λi=>nP i λi=>bd 0 10 (lI .u64 a (Addr.add i 2) λi=>cf 224 #[.agg #[b,f],.bool (decide (g ≥ i))] a λb f=>asAgg b λb=>We0 b 2 (de2 b λb g=>ce f h.size 0 c (ce f h.size 1 d (ce f h.size 2 e (cf 217 #[.agg #[c,d,e],.agg #[b,g]] f λb b=>lP b (Addr.add ⟨h.size,0,none⟩ 2) λc=>nP c λc=>stH b (Addr.add c 1) (.int .i64 8) λb=>K (.tuple #[]) b))))))) (K (.tuple #[]) a))))
def F151 (K:Value→Wa1→Prop) (h:Wa1) (xa xb xc:Option Addr):Prop:=
 (g151 K h (Array.push h (.cells #[.pointer xa,.pointer xb,.pointer xc] 193)))
theorem call151 {K:Value→Wa1→Prop} {h:Wa1} {xa xb xc:Option Addr} (H:F151 K h xa xb xc):Wa5 Tryz.prog 151 #[(.agg #[(.pointer xa),(.pointer xb),(.pointer xc)])] h K:=
 Wa4 Tryz.func151 (by kernel_rfl) (Eq.mp (by kernel_rfl) H)
abbrev g152 (K:Value→Wa1→Prop) (h H1:Wa1):Prop:=
 (lP H1 (Addr.add ⟨h.size,0,none⟩ 2) λa=>dl3 H1 h.size λb c d=>dl3 H1 h.size λe f g=>cf 220 #[.agg #[e,f,g]] H1 λe f=>asAgg e λe=>We0 e 2 (de2 e λe g=>ce f h.size 0 b (ce f h.size 1 c (ce f h.size 2 d (asInt .i64 e λe=>cf 222 #[.agg #[b,c,d],.int .i64 e] f λb c=>asInt .u64 b λb=>da3 c ⟨h.size,0,none⟩ λd e f=>cf 153 #[.agg #[d,e,f],.int .i64 3] c λc d=>asInt .u64 c λc=>nP a λe=>lI .i64 d (Addr.add e 1) λe=>ifB (e == 10) (da3 d ⟨h.size,0,none⟩ λf g i=>cf 144 #[.agg #[f,g,i],.int .i64 11,.int .i64 10,.slice (some ⟨d.size,0,none⟩) 1 1] (Array.push d (.cells #[.int .u64 b] 178)) λf f=>K (.tuple #[]) f) (ifB (e == 11) (lP d (Addr.add ⟨h.size,0,none⟩ 1) λf=>nP f λf=>bd 1 3 (lI .u64 d (Addr.add f 3) λf=>nP a λg=>bd 0 10 (lI .u64 d (Addr.add g 2) λg=>ifB (decide (f < g)) (nP a λf=>bd 3 10 (stH d (Addr.add f 5) (.int .u64 0) λf=>nP a λg=>stH f (Addr.add g 1) (.int .i64 4) λf=>K (.tuple #[]) f)) (lP d (Addr.add ⟨h.size,0,none⟩ 1) λf=>nP f λf=>bd 0 3 (lI .u64 d (Addr.add f 2) λf=>nP a λg=>bd 3 10 (stH d (Addr.add g 5) (.int .u64 f) λf=>ldH f ⟨h.size,0,none⟩ λg=>Wb1 g λi=>lP f ⟨h.size,0,none⟩ λj=>nP a λk=>bd 2 10 (ldH f (Addr.add k 4) λl=>asInt .u64 l λm=>da3 f ⟨h.size,0,none⟩ λn o p=>cf 79 #[.pointer j] f λf j=>asAgg f λf=>We0 f 15 (Wn6 f λf q r s t u v w x y z A B C D=>ce j h.size 0 n (((Wa2 j (Addr.add ⟨h.size,0,none⟩ 1))=(some o))∧(((Wa2 j (Addr.add ⟨h.size,0,none⟩ 2))=(some p))∧(((Wa2 j (Addr.add k 4))=(some l))∧(ce j h.size 0 g (cf 143 #[.agg #[f,q,r,s,t,u,v,w,x,y,z,A,B,C,D],.int .i64 (IntKind.wrap .i64 m),.int .i64 2] j λf j=>asInt .i64 f λf=>ce j h.size 0 n (((Wa2 j (Addr.add ⟨h.size,0,none⟩ 1))=(some o))∧(((Wa2 j (Addr.add ⟨h.size,0,none⟩ 2))=(some p))∧(ce j h.size 0 g (cf 153 #[.agg #[n,o,p],.int .i64 3] j λj k=>asInt .u64 j λj=>ce k h.size 0 g (cf 146 #[.int .u64 j] k λj k=>asInt .i64 j λj=>ce k h.size 0 g (cf 212 #[.pointer i,.int .i64 f,.int .u64 (IntKind.wrap .u64 j)] k λf f=>nP a λg=>stH f (Addr.add g 1) (.int .i64 13) λf=>ifB (b == 1) (nP a λg=>stH f (Addr.add g 1) (.int .i64 12) λg=>K (.tuple #[]) g) (K (.tuple #[]) f)))))))))))))))))))) (ifB (e == 12) (dl3 d h.size λf g i=>da3 d ⟨h.size,0,none⟩ λj k l=>nP a λm=>bd 2 10 (ldH d (Addr.add m 4) λn=>asInt .u64 n λo=>cf 226 #[.int .u64 c] d λp q=>asBool p λp=>((Wa2 q (Addr.add m 4))=(some n))∧(ce q h.size 0 j (((Wa2 q (Addr.add ⟨h.size,0,none⟩ 1))=(some k))∧(((Wa2 q (Addr.add ⟨h.size,0,none⟩ 2))=(some l))∧(dc3 q h.size f g i (cf 154 #[.agg #[j,k,l],.int .u64 1,.int .u64 c,.int .i64 (IntKind.wrap .i64 o),.bool p] q λj k=>asBool j λj=>ce k h.size 0 f (ce k h.size 1 g (ce k h.size 2 i (cf 225 #[.agg #[f,g,i],.bool j] k λf f=>K (.tuple #[]) f)))))))))) (ifB (e == 13) (da3 d ⟨h.size,0,none⟩ λf g i=>((2:Int)≠0)∧(cf 144 #[.agg #[f,g,i],.int .i64 14,.int .i64 10,.slice (some ⟨d.size,0,none⟩) 1 1] (Array.push d (.cells #[.int .u64 (IntKind.wrap .u64 (Int.tdiv b 2))] 178)) λf f=>K (.tuple #[]) f)) (ifB (e == 14) (lP d (Addr.add ⟨h.size,0,none⟩ 1) λe=>nP e λe=>bd 1 3 (lI .u64 d (Addr.add e 3) λe=>nP a λf=>bd 0 10 (lI .u64 d (Addr.add f 2) λf=>ifB (decide (e > f)) (dl3 d h.size λe f g=>cf 225 #[.agg #[e,f,g],.bool false] d λe e=>K (.tuple #[]) e) (dl3 d h.size λe f g=>ldH d ⟨h.size,0,none⟩ λi=>Wb1 i λj=>da3 d ⟨h.size,0,none⟩ λk l m=>nP a λa=>bd 2 10 (ldH d (Addr.add a 4) λn=>asInt .u64 n λo=>da3 d ⟨h.size,0,none⟩ λp q r=>((2:Int)≠0)∧(ldH d (Addr.add ⟨h.size,0,none⟩ 1) λs=>Wb1 s λt=>nP t λt=>bd 0 3 (ldH d (Addr.add t 2) λu=>asInt .u64 u λv=>cf 145 #[.agg #[k,l,m],.int .u64 b] d λk l=>asInt .i64 k λk=>((Wa2 l (Addr.add t 2))=(some u))∧(((Wa2 l (Addr.add ⟨h.size,0,none⟩ 1))=(some s))∧(ce l h.size 0 p (((Wa2 l (Addr.add ⟨h.size,0,none⟩ 1))=(some q))∧(((Wa2 l (Addr.add ⟨h.size,0,none⟩ 2))=(some r))∧(((Wa2 l (Addr.add a 4))=(some n))∧(ce l h.size 0 i (dc3 l h.size e f g (cf 226 #[.int .u64 c] l λl m=>asBool l λl=>((Wa2 m (Addr.add t 2))=(some u))∧(((Wa2 m (Addr.add ⟨h.size,0,none⟩ 1))=(some s))∧(ce m h.size 0 p (((Wa2 m (Addr.add ⟨h.size,0,none⟩ 1))=(some q))∧(((Wa2 m (Addr.add ⟨h.size,0,none⟩ 2))=(some r))∧(((Wa2 m (Addr.add a 4))=(some n))∧(ce m h.size 0 i (dc3 m h.size e f g (cf 228 #[.int .u64 c,.int .i64 (IntKind.wrap .i64 o),.bool l] m λa l=>asInt .u64 a λa=>((Wa2 l (Addr.add t 2))=(some u))∧(((Wa2 l (Addr.add ⟨h.size,0,none⟩ 1))=(some s))∧(ce l h.size 0 p (((Wa2 l (Addr.add ⟨h.size,0,none⟩ 1))=(some q))∧(((Wa2 l (Addr.add ⟨h.size,0,none⟩ 2))=(some r))∧(ce l h.size 0 i (dc3 l h.size e f g (cf 145 #[.agg #[p,q,r],.int .u64 (IntKind.wrap .u64 (Int.tdiv b 2))] l λb l=>asInt .i64 b λb=>((Wa2 l (Addr.add t 2))=(some u))∧(((Wa2 l (Addr.add ⟨h.size,0,none⟩ 1))=(some s))∧(ce l h.size 0 i (dc3 l h.size e f g (cf 227 #[.pointer j,.int .i64 k,.int .u64 c,.int .u64 a,.int .i64 b,.int .u64 v] l λa b=>asBool a λa=>ce b h.size 0 e (ce b h.size 1 f (ce b h.size 2 g (cf 225 #[.agg #[e,f,g],.bool a] b λa a=>K (.tuple #[]) a))))))))))))))))))))))))))))))))))))) (K (.tuple #[]) d))))))))))
def F152 (K:Value→Wa1→Prop) (h:Wa1) (xa xb xc:Option Addr):Prop:=
 (g152 K h (Array.push h (.cells #[.pointer xa,.pointer xb,.pointer xc] 193)))
theorem call152 {K:Value→Wa1→Prop} {h:Wa1} {xa xb xc:Option Addr} (H:F152 K h xa xb xc):Wa5 Tryz.prog 152 #[(.agg #[(.pointer xa),(.pointer xb),(.pointer xc)])] h K:=
 Wa4 Tryz.func152 (by kernel_rfl) (Eq.mp (by kernel_rfl) H)
abbrev g153 (K:Value→Wa1→Prop) (h H1:Wa1) (xa:Int):Prop:=
 (lP H1 ⟨h.size,2,none⟩ λa=>nP a λa=>bd xa 10 (ldH H1 (Addr.add (Addr.add a 2) (xa.toNat*1)) λa=>asInt .u64 a λa=>K (.int .u64 a) H1))
def F153 (K:Value→Wa1→Prop) (h:Wa1) (xa xb xc:Option Addr) (xd:Int):Prop:=
 (g153 K h (Array.push h (.cells #[.pointer xa,.pointer xb,.pointer xc] 187)) xd)
theorem call153 {K:Value→Wa1→Prop} {h:Wa1} {xa xb xc:Option Addr} {xd:Int} (H:F153 K h xa xb xc xd):Wa5 Tryz.prog 153 #[(.agg #[(.pointer xa),(.pointer xb),(.pointer xc)]),(.int .i64 xd)] h K:=
 Wa4 Tryz.func153 (by kernel_rfl) (Eq.mp (by kernel_rfl) H)
abbrev g154 (K:Value→Wa1→Prop) (h H1:Wa1) (xa xb xc:Int) (xd:Bool):Prop:=
 (ldH H1 ⟨h.size,0,none⟩ λa=>Wb1 a λb=>dl3 H1 h.size λc d e=>cf 145 #[.agg #[c,d,e],.int .u64 xa] H1 λc d=>asInt .i64 c λc=>ce d h.size 0 a (cf 228 #[.int .u64 xb,.int .i64 xc,.bool xd] d λd e=>asInt .u64 d λd=>ce e h.size 0 a (cf 219 #[.pointer b,.int .i64 c,.int .u64 xb,.int .u64 d] e λa b=>asBool a λa=>K (.bool a) b)))
def F154 (K:Value→Wa1→Prop) (h:Wa1) (xa xb xc:Option Addr) (xd xe xf:Int) (xg:Bool):Prop:=
 (g154 K h (Array.push h (.cells #[.pointer xa,.pointer xb,.pointer xc] 187)) xd xe xf xg)
theorem call154 {K:Value→Wa1→Prop} {h:Wa1} {xa xb xc:Option Addr} {xd xe xf:Int} {xg:Bool} (H:F154 K h xa xb xc xd xe xf xg):Wa5 Tryz.prog 154 #[(.agg #[(.pointer xa),(.pointer xb),(.pointer xc)]),(.int .u64 xd),(.int .u64 xe),(.int .i64 xf),(.bool xg)] h K:=
 Wa4 Tryz.func154 (by kernel_rfl) (Eq.mp (by kernel_rfl) H)
abbrev g155 (K:Value→Wa1→Prop) (h H1:Wa1) (xa xb xc:Int):Prop:=
 (lP H1 ⟨h.size,2,none⟩ λa=>ldH H1 ⟨h.size,2,none⟩ λb=>Wb1 b λc=>ldH H1 ⟨h.size,2,none⟩ λd=>Wb1 d λe=>nP a λa=>bd 7 10 (nP c λc=>nP e λe=>stH H1 (Addr.add a 9) (.int .u64 xa) λa=>ce a h.size 2 d (ce a h.size 2 b (bd 8 10 (stH a (Addr.add c 10) (.int .u64 xb) λa=>ce a h.size 2 d (bd 9 10 (stH a (Addr.add e 11) (.int .u64 xc) λa=>dl3 a h.size λb c d=>cf 144 #[.agg #[b,c,d],.int .i64 90,.int .i64 4,.slice none 0 0] a λa a=>K (.tuple #[]) a)))))))
def F155 (K:Value→Wa1→Prop) (h:Wa1) (xa xb xc:Option Addr) (xd xe xf:Int):Prop:=
 (g155 K h (Array.push h (.cells #[.pointer xa,.pointer xb,.pointer xc] 187)) xd xe xf)
theorem call155 {K:Value→Wa1→Prop} {h:Wa1} {xa xb xc:Option Addr} {xd xe xf:Int} (H:F155 K h xa xb xc xd xe xf):Wa5 Tryz.prog 155 #[(.agg #[(.pointer xa),(.pointer xb),(.pointer xc)]),(.int .u64 xd),(.int .u64 xe),(.int .u64 xf)] h K:=
 Wa4 Tryz.func155 (by kernel_rfl) (Eq.mp (by kernel_rfl) H)
abbrev g156 (K:Value→Wa1→Prop) (h H1:Wa1):Prop:=
 (lP H1 (Addr.add ⟨h.size,0,none⟩ 2) λa=>da3 H1 ⟨h.size,0,none⟩ λb c d=>cf 153 #[.agg #[b,c,d],.int .i64 0] H1 λb c=>asInt .u64 b λb=>nP a λd=>lI .i64 c (Addr.add d 1) λd=>ifB (d == 0) (da3 c ⟨h.size,0,none⟩ λe f g=>da3 c ⟨h.size,0,none⟩ λi j k=>cf 145 #[.agg #[i,j,k],.int .u64 1] c λi j=>asInt .i64 i λi=>ce j h.size 0 e (((Wa2 j (Addr.add ⟨h.size,0,none⟩ 1))=(some f))∧(((Wa2 j (Addr.add ⟨h.size,0,none⟩ 2))=(some g))∧(((Wa2 (Array.push j (.cells #[.int .u64 0,.int .u64 (IntKind.wrap .u64 i)] 178)) ⟨h.size,0,none⟩)=(some e))∧(((Wa2 (Array.push j (.cells #[.int .u64 0,.int .u64 (IntKind.wrap .u64 i)] 178)) (Addr.add ⟨h.size,0,none⟩ 1))=(some f))∧(((Wa2 (Array.push j (.cells #[.int .u64 0,.int .u64 (IntKind.wrap .u64 i)] 178)) (Addr.add ⟨h.size,0,none⟩ 2))=(some g))∧(cf 144 #[.agg #[e,f,g],.int .i64 1,.int .i64 3,.slice (some ⟨j.size,0,none⟩) 2 2] (Array.push j (.cells #[.int .u64 0,.int .u64 (IntKind.wrap .u64 i)] 178)) λe e=>K (.tuple #[]) e))))))) (ifB (d == 1) (lP c (Addr.add ⟨h.size,0,none⟩ 1) λe=>nP e λe=>bd 0 3 (lI .u64 c (Addr.add e 2) λe=>nP a λf=>bd 0 10 (stH c (Addr.add f 2) (.int .u64 e) λe=>nP a λf=>stH e (Addr.add f 1) (.int .i64 2) λe=>da3 e ⟨h.size,0,none⟩ λf g i=>cf 153 #[.agg #[f,g,i],.int .i64 0] e λe f=>asInt .u64 e λe=>cf 226 #[.int .u64 e] f λe f=>asBool e λe=>ifB e (da3 f ⟨h.size,0,none⟩ λe g i=>cf 144 #[.agg #[e,g,i],.int .i64 0,.int .i64 14,.slice (some ⟨f.size,0,none⟩) 1 1] (Array.push f (.cells #[.int .u64 1] 178)) λe e=>K (.tuple #[]) e) (da3 f ⟨h.size,0,none⟩ λe g i=>cf 153 #[.agg #[e,g,i],.int .i64 0] f λe f=>asInt .u64 e λe=>cf 146 #[.int .u64 e] f λe f=>asInt .i64 e λe=>ifB (e == 0) (da3 f ⟨h.size,0,none⟩ λe g i=>cf 155 #[.agg #[e,g,i],.int .u64 3,.int .u64 0,.int .u64 0] f λe e=>K (.tuple #[]) e) (K (.tuple #[]) f))))) (ifB (d == 2) (ldH c ⟨h.size,0,none⟩ λe=>Wb1 e λf=>da3 c ⟨h.size,0,none⟩ λg i j=>nP a λk=>cf 148 #[.agg #[g,i,j],.int .u64 b,.int .i64 0] c λg i=>asInt .i64 g λg=>ce i h.size 0 e (cf 147 #[.pointer f,.int .i64 g] i λe f=>asInt .u64 e λe=>bd 1 10 (stH f (Addr.add k 3) (.int .u64 e) λe=>nP a λf=>stH e (Addr.add f 1) (.int .i64 3) λe=>K (.tuple #[]) e))) (ifB (d == 3) (ldH c ⟨h.size,0,none⟩ λd=>Wb1 d λe=>da3 c ⟨h.size,0,none⟩ λf g i=>nP a λj=>cf 148 #[.agg #[f,g,i],.int .u64 b,.int .i64 1] c λb f=>asInt .i64 b λb=>ce f h.size 0 d (cf 147 #[.pointer e,.int .i64 b] f λb d=>asInt .u64 b λb=>bd 2 10 (stH d (Addr.add j 4) (.int .u64 b) λb=>nP a λd=>stH b (Addr.add d 1) (.int .i64 4) λb=>nP a λd=>lI .i64 b d λd=>ifB (d == 13) (da3 b ⟨h.size,0,none⟩ λd e f=>nP a λg=>bd 1 10 (lI .u64 b (Addr.add g 3) λg=>nP a λa=>bd 2 10 (lI .u64 b (Addr.add a 4) λa=>cf 155 #[.agg #[d,e,f],.int .u64 2,.int .u64 g,.int .u64 a] b λa a=>K (.tuple #[]) a))) (K (.tuple #[]) b)))) (K (.tuple #[]) c)))))
def F156 (K:Value→Wa1→Prop) (h:Wa1) (xa xb xc:Option Addr):Prop:=
 (g156 K h (Array.push h (.cells #[.pointer xa,.pointer xb,.pointer xc] 194)))
theorem call156 {K:Value→Wa1→Prop} {h:Wa1} {xa xb xc:Option Addr} (H:F156 K h xa xb xc):Wa5 Tryz.prog 156 #[(.agg #[(.pointer xa),(.pointer xb),(.pointer xc)])] h K:=
 Wa4 Tryz.func156 (by kernel_rfl) (Eq.mp (by kernel_rfl) H)
abbrev g157 (K:Value→Wa1→Prop) (h H1:Wa1) (xa xb xc:Int):Prop:=
 (lP H1 (Addr.add ⟨h.size,0,none⟩ 2) λa=>lP H1 (Addr.add ⟨h.size,0,none⟩ 1) λb=>nP b λb=>bd 0 3 (lI .u64 H1 (Addr.add b 2) λb=>lP H1 (Addr.add ⟨h.size,0,none⟩ 1) λc=>nP c λc=>bd 1 3 (lI .u64 H1 (Addr.add c 3) λc=>nP a λd=>bd xa 10 (nP a λe=>stH H1 (Addr.add (Addr.add d 2) (xa.toNat*1)) (.int .u64 b) λb=>((0:Int)≤(IntKind.wrap .i64 (xa+1)))∧((((IntKind.wrap .i64 (xa+1)):Int) < 10)∧(stH b (Addr.add (Addr.add e 2) ((IntKind.wrap .i64 (xa+1)).toNat*1)) (.int .u64 c) λb=>nP a λa=>stH b (Addr.add a 1) (.int .i64 xb) λa=>da3 a ⟨h.size,0,none⟩ λb c d=>cf 153 #[.agg #[b,c,d],.int .i64 xa] a λa b=>asInt .u64 a λa=>cf 226 #[.int .u64 a] b λa b=>asBool a λa=>ifB a (da3 b ⟨h.size,0,none⟩ λa c d=>cf 144 #[.agg #[a,c,d],.int .i64 0,.int .i64 14,.slice (some ⟨b.size,0,none⟩) 1 1] (Array.push b (.cells #[.int .u64 xc] 178)) λa a=>K (.tuple #[]) a) (K (.tuple #[]) b)))))))
def F157 (K:Value→Wa1→Prop) (h:Wa1) (xa xb xc:Option Addr) (xd xe xf:Int):Prop:=
 (g157 K h (Array.push h (.cells #[.pointer xa,.pointer xb,.pointer xc] 195)) xd xe xf)
theorem call157 {K:Value→Wa1→Prop} {h:Wa1} {xa xb xc:Option Addr} {xd xe xf:Int} (H:F157 K h xa xb xc xd xe xf):Wa5 Tryz.prog 157 #[(.agg #[(.pointer xa),(.pointer xb),(.pointer xc)]),(.int .i64 xd),(.int .i64 xe),(.int .u64 xf)] h K:=
 Wa4 Tryz.func157 (by kernel_rfl) (Eq.mp (by kernel_rfl) H)
abbrev g158 (K:Value→Wa1→Prop) (h H1:Wa1) (xa xb:Int):Prop:=
 (lP H1 (Addr.add ⟨h.size,0,none⟩ 2) λa=>da3 H1 ⟨h.size,0,none⟩ λb c d=>da3 H1 ⟨h.size,0,none⟩ λe f g=>cf 153 #[.agg #[b,c,d],.int .i64 1] H1 λb c=>asInt .u64 b λb=>ce c h.size 0 e (((Wa2 c (Addr.add ⟨h.size,0,none⟩ 1))=(some f))∧(((Wa2 c (Addr.add ⟨h.size,0,none⟩ 2))=(some g))∧(cf 153 #[.agg #[e,f,g],.int .i64 xa] c λc d=>asInt .u64 c λc=>nP a λe=>stH d (Addr.add e 1) (.int .i64 0) λd=>ldH d ⟨h.size,0,none⟩ λe=>Wb1 e λf=>da3 d ⟨h.size,0,none⟩ λg i j=>nP a λk=>bd 0 10 (lI .u64 d (Addr.add k 2) λk=>da3 d ⟨h.size,0,none⟩ λl m n=>cf 145 #[.agg #[g,i,j],.int .u64 k] d λd g=>asInt .i64 d λd=>ce g h.size 0 l (((Wa2 g (Addr.add ⟨h.size,0,none⟩ 1))=(some m))∧(((Wa2 g (Addr.add ⟨h.size,0,none⟩ 2))=(some n))∧(ce g h.size 0 e (cf 146 #[.int .u64 c] g λg i=>asInt .i64 g λg=>ce i h.size 0 l (((Wa2 i (Addr.add ⟨h.size,0,none⟩ 1))=(some m))∧(((Wa2 i (Addr.add ⟨h.size,0,none⟩ 2))=(some n))∧(ce i h.size 0 e (cf 228 #[.int .u64 b,.int .i64 g,.bool false] i λg i=>asInt .u64 g λg=>ce i h.size 0 l (((Wa2 i (Addr.add ⟨h.size,0,none⟩ 1))=(some m))∧(((Wa2 i (Addr.add ⟨h.size,0,none⟩ 2))=(some n))∧(ce i h.size 0 e (cf 145 #[.agg #[l,m,n],.int .u64 xb] i λi j=>asInt .i64 i λi=>ce j h.size 0 e (cf 146 #[.int .u64 b] j λj k=>asInt .i64 j λj=>ce k h.size 0 e (cf 228 #[.int .u64 c,.int .i64 j,.bool true] k λj k=>asInt .u64 j λj=>ce k h.size 0 e (cf 229 #[.pointer f,.int .i64 d,.int .u64 b,.int .u64 g,.int .i64 i,.int .u64 c,.int .u64 j] k λb c=>asBool b λb=>ifB b (nP a λa=>bd 0 10 (stH c (Addr.add a 2) (.int .u64 xb) λa=>K (.tuple #[]) a)) (K (.tuple #[]) c)))))))))))))))))))))
def F158 (K:Value→Wa1→Prop) (h:Wa1) (xa xb xc:Option Addr) (xd xe:Int):Prop:=
 (g158 K h (Array.push h (.cells #[.pointer xa,.pointer xb,.pointer xc] 195)) xd xe)
theorem call158 {K:Value→Wa1→Prop} {h:Wa1} {xa xb xc:Option Addr} {xd xe:Int} (H:F158 K h xa xb xc xd xe):Wa5 Tryz.prog 158 #[(.agg #[(.pointer xa),(.pointer xb),(.pointer xc)]),(.int .i64 xd),(.int .u64 xe)] h K:=
 Wa4 Tryz.func158 (by kernel_rfl) (Eq.mp (by kernel_rfl) H)
abbrev g159 (K:Value→Wa1→Prop) (h H1:Wa1):Prop:=
 (da3 H1 ⟨h.size,0,none⟩ λa b c=>cf 153 #[.agg #[a,b,c],.int .i64 1] H1 λa b=>asInt .u64 a λa=>lP b (Addr.add ⟨h.size,0,none⟩ 2) λc=>nP c λc=>stH b (Addr.add c 1) (.int .i64 0) λb=>da3 b ⟨h.size,0,none⟩ λc d e=>ldH b (Addr.add ⟨h.size,0,none⟩ 2) λf=>Wb1 f λg=>nP g λg=>bd 0 10 (ldH b (Addr.add g 2) λi=>asInt .u64 i λj=>cf 146 #[.int .u64 a] b λb k=>asInt .i64 b λb=>((Wa2 k (Addr.add g 2))=(some i))∧(((Wa2 k (Addr.add ⟨h.size,0,none⟩ 2))=(some f))∧(ce k h.size 0 c (((Wa2 k (Addr.add ⟨h.size,0,none⟩ 1))=(some d))∧(((Wa2 k (Addr.add ⟨h.size,0,none⟩ 2))=(some e))∧(cf 154 #[.agg #[c,d,e],.int .u64 j,.int .u64 a,.int .i64 b,.bool false] k λa b=>asBool a λa=>ifB a (lP b (Addr.add ⟨h.size,0,none⟩ 1) λa=>cf 106 #[.pointer a,.slice none 0 0] b λa a=>K (.tuple #[]) a) (K (.tuple #[]) b))))))))
def F159 (K:Value→Wa1→Prop) (h:Wa1) (xa xb xc:Option Addr):Prop:=
 (g159 K h (Array.push h (.cells #[.pointer xa,.pointer xb,.pointer xc] 195)))
theorem call159 {K:Value→Wa1→Prop} {h:Wa1} {xa xb xc:Option Addr} (H:F159 K h xa xb xc):Wa5 Tryz.prog 159 #[(.agg #[(.pointer xa),(.pointer xb),(.pointer xc)])] h K:=
 Wa4 Tryz.func159 (by kernel_rfl) (Eq.mp (by kernel_rfl) H)
abbrev g160 (K:Value→Wa1→Prop) (h H1:Wa1):Prop:=
 (lP H1 (Addr.add ⟨h.size,0,none⟩ 2) λa=>nP a λb=>lI .i64 H1 (Addr.add b 1) λb=>ifB (b == 0) (da3 H1 ⟨h.size,0,none⟩ λc d e=>nP a λf=>bd 0 10 (lI .u64 H1 (Addr.add f 2) λf=>((Wa2 (Array.push H1 (.cells #[.int .u64 f] 178)) ⟨h.size,0,none⟩)=(some c))∧(((Wa2 (Array.push H1 (.cells #[.int .u64 f] 178)) (Addr.add ⟨h.size,0,none⟩ 1))=(some d))∧(((Wa2 (Array.push H1 (.cells #[.int .u64 f] 178)) (Addr.add ⟨h.size,0,none⟩ 2))=(some e))∧(cf 144 #[.agg #[c,d,e],.int .i64 1,.int .i64 10,.slice (some ⟨H1.size,0,none⟩) 1 1] (Array.push H1 (.cells #[.int .u64 f] 178)) λc c=>K (.tuple #[]) c))))) (ifB (b == 1) (lP H1 (Addr.add ⟨h.size,0,none⟩ 1) λc=>nP c λc=>bd 0 3 (lI .u64 H1 (Addr.add c 2) λc=>lP H1 (Addr.add ⟨h.size,0,none⟩ 1) λd=>nP d λd=>bd 1 3 (lI .u64 H1 (Addr.add d 3) λd=>nP a λe=>bd 1 10 (nP a λf=>stH H1 (Addr.add e 3) (.int .u64 c) λc=>bd 2 10 (stH c (Addr.add f 4) (.int .u64 d) λc=>nP a λd=>stH c (Addr.add d 1) (.int .i64 2) λc=>da3 c ⟨h.size,0,none⟩ λd e f=>cf 153 #[.agg #[d,e,f],.int .i64 1] c λc d=>asInt .u64 c λc=>cf 226 #[.int .u64 c] d λc d=>asBool c λc=>ifB (!c) (lP d (Addr.add ⟨h.size,0,none⟩ 1) λc=>cf 106 #[.pointer c,.slice none 0 0] d λc c=>K (.tuple #[]) c) (K (.tuple #[]) d)))))) (ifB (b == 2) (nP a λc=>stH H1 (Addr.add c 1) (.int .i64 3) λc=>nP a λd=>bd 0 10 (ldH c (Addr.add d 2) λe=>asInt .u64 e λf=>lP c ⟨h.size,0,none⟩ λg=>cf 147 #[.pointer g,.int .i64 2] c λc g=>asInt .u64 c λc=>((Wa2 g (Addr.add d 2))=(some e))∧(cf 230 #[.int .i64 (IntKind.wrap .i64 f),.int .i64 (IntKind.wrap .i64 c)] g λc d=>asBool c λc=>ifB c (nP a λa=>stH d (Addr.add a 1) (.int .i64 4) λa=>K (.tuple #[]) a) (K (.tuple #[]) d)))) (ifB (b == 3) (dl3 H1 h.size λa b c=>cf 159 #[.agg #[a,b,c]] H1 λa a=>K (.tuple #[]) a) (K (.tuple #[]) H1)))))
def F160 (K:Value→Wa1→Prop) (h:Wa1) (xa xb xc:Option Addr):Prop:=
 (g160 K h (Array.push h (.cells #[.pointer xa,.pointer xb,.pointer xc] 195)))
theorem call160 {K:Value→Wa1→Prop} {h:Wa1} {xa xb xc:Option Addr} (H:F160 K h xa xb xc):Wa5 Tryz.prog 160 #[(.agg #[(.pointer xa),(.pointer xb),(.pointer xc)])] h K:=
 Wa4 Tryz.func160 (by kernel_rfl) (Eq.mp (by kernel_rfl) H)
abbrev g217 (K:Value→Wa1→Prop) (h H1 H2:Wa1):Prop:=
 (lP H2 (Addr.add ⟨h.size,0,none⟩ 2) λa=>lI .i64 H2 ⟨H1.size,0,none⟩ λb=>((0:Int)≤8)∧(lI .i64 H2 ⟨H1.size,1,none⟩ λc=>nP a λa=>bd 6 10 (stH H2 (Addr.add a 8) (.int .u64 (IntKind.wrap .u64 ((((BitVec.ofInt 64 (IntKind.wrap .u64 ((IntKind.wrap .u64 b)*256))) ||| (BitVec.ofInt 64 (IntKind.wrap .u64 c))).toNat:Nat):Int))) λa=>K (.tuple #[]) a)))
def F217 (K:Value→Wa1→Prop) (h:Wa1) (xa xb xc:Option Addr) (xd xe:Int):Prop:=
 (g217 K h (Array.push h (.cells #[.pointer xa,.pointer xb,.pointer xc] 193)) (Array.push (Array.push h (.cells #[.pointer xa,.pointer xb,.pointer xc] 193)) (.cells #[.int .i64 xd,.int .i64 xe] 282)))
theorem call217 {K:Value→Wa1→Prop} {h:Wa1} {xa xb xc:Option Addr} {xd xe:Int} (H:F217 K h xa xb xc xd xe):Wa5 Tryz.prog 217 #[(.agg #[(.pointer xa),(.pointer xb),(.pointer xc)]),(.agg #[(.int .i64 xd),(.int .i64 xe)])] h K:=
 Wa4 Tryz.func217 (by kernel_rfl) (Eq.mp (by kernel_rfl) H)
abbrev g220 (K:Value→Wa1→Prop) (h H1 H2:Wa1):Prop:=
 (lP H2 (Addr.add ⟨h.size,0,none⟩ 2) λa=>nP a λa=>bd 6 10 (lI .u64 H2 (Addr.add a 8) λa=>((0:Int)≤8)∧(lP H2 (Addr.add ⟨h.size,0,none⟩ 2) λb=>nP b λb=>bd 6 10 (lI .u64 H2 (Addr.add b 8) λb=>stH H2 ⟨H1.size,0,none⟩ (.int .i64 (IntKind.wrap .i64 (Int.fdiv a 256))) λa=>stH a ⟨H1.size,1,none⟩ (.int .i64 (IntKind.wrap .i64 (IntKind.wrap .u64 ((((BitVec.ofInt 64 b) &&& (BitVec.ofInt 64 255)).toNat:Nat):Int)))) λa=>dl2 a H1.size λb c=>K (.agg #[b,c]) a))))
def F220 (K:Value→Wa1→Prop) (h:Wa1) (xa xb xc:Option Addr):Prop:=
 (g220 K h (Array.push h (.cells #[.pointer xa,.pointer xb,.pointer xc] 193)) (Array.push (Array.push h (.cells #[.pointer xa,.pointer xb,.pointer xc] 193)) (.cells #[.int .i64 0,.int .i64 0] 282)))
theorem call220 {K:Value→Wa1→Prop} {h:Wa1} {xa xb xc:Option Addr} (H:F220 K h xa xb xc):Wa5 Tryz.prog 220 #[(.agg #[(.pointer xa),(.pointer xb),(.pointer xc)])] h K:=
 Wa4 Tryz.func220 (by kernel_rfl) (Eq.mp (by kernel_rfl) H)
abbrev g222 (K:Value→Wa1→Prop) (h H1:Wa1) (xa:Int):Prop:=
 (lP H1 (Addr.add ⟨h.size,0,none⟩ 2) λa=>nP a λa=>bd 5 10 (lI .u64 H1 (Addr.add a 7) λa=>cf 282 #[.int .i64 (IntKind.wrap .i64 a),.int .i64 xa] H1 λa b=>asInt .i64 a λa=>K (.int .u64 (IntKind.wrap .u64 a)) b))
def F222 (K:Value→Wa1→Prop) (h:Wa1) (xa xb xc:Option Addr) (xd:Int):Prop:=
 (g222 K h (Array.push h (.cells #[.pointer xa,.pointer xb,.pointer xc] 193)) xd)
theorem call222 {K:Value→Wa1→Prop} {h:Wa1} {xa xb xc:Option Addr} {xd:Int} (H:F222 K h xa xb xc xd):Wa5 Tryz.prog 222 #[(.agg #[(.pointer xa),(.pointer xb),(.pointer xc)]),(.int .i64 xd)] h K:=
 Wa4 Tryz.func222 (by kernel_rfl) (Eq.mp (by kernel_rfl) H)
abbrev g225 (K:Value→Wa1→Prop) (h H1:Wa1) (xa:Bool):Prop:=
 (ifB xa (da3 H1 ⟨h.size,0,none⟩ λa b c=>cf 155 #[.agg #[a,b,c],.int .u64 0,.int .u64 0,.int .u64 0] H1 λa a=>K (.tuple #[]) a) (lP H1 (Addr.add ⟨h.size,0,none⟩ 2) λa=>nP a λa=>bd 3 10 (stH H1 (Addr.add a 5) (.int .u64 0) λa=>lP a (Addr.add ⟨h.size,0,none⟩ 2) λb=>nP b λb=>stH a (Addr.add b 1) (.int .i64 4) λa=>K (.tuple #[]) a)))
def F225 (K:Value→Wa1→Prop) (h:Wa1) (xa xb xc:Option Addr) (xd:Bool):Prop:=
 (g225 K h (Array.push h (.cells #[.pointer xa,.pointer xb,.pointer xc] 193)) xd)
theorem call225 {K:Value→Wa1→Prop} {h:Wa1} {xa xb xc:Option Addr} {xd:Bool} (H:F225 K h xa xb xc xd):Wa5 Tryz.prog 225 #[(.agg #[(.pointer xa),(.pointer xb),(.pointer xc)]),(.bool xd)] h K:=
 Wa4 Tryz.func225 (by kernel_rfl) (Eq.mp (by kernel_rfl) H)
end
section
open Mod
abbrev rV (M T b o:Nat):Value:=.agg #[mP M,mP T,fP b o]
theorem Wd1 {p:Pl} (B:PlB p) (n f:Int):iN (p.node n f):=by
 have h1:=B.no
 have h2:=B.wi
 have h3:=B.nd
 have h4:=B.li
 unfold Pl.node
 split
 ·rename_i c
  have:(n - 1)*p.width≤64*11:=Int.mul_le_mul (by omega) (by omega) (by omega) (by omega)
  have h0:0≤(n - 1)*p.width:=Int.mul_nonneg (by omega) (by omega)
  constructor <;> omega
 ·constructor <;> omega
theorem YZ7 {p:Pl} (B:PlB p) (n:Int):iN (p.at n):=by
 have h1:=B.tr
 have h2:=B.si
 have h3:=B.nd
 have h4:=B.li
 unfold Pl.at
 split <;> constructor <;> omega
theorem Yf0 {u v:Int} (h1:U u) (h2:U v):∀w ∈ [u,v],U w:=by
 intro w hw
 simp only [List.mem_cons,List.not_mem_nil,or_false] at hw
 rcases hw with rfl | rfl
 ·exact h1
 ·exact h2
section
variable {K:Value→Wa1→Prop} {h:Wa1} {M T b o N:Nat} {tv:Value} {fo:Option (Nat × Nat)} {x:Run} {R:Hp}
theorem Wh9 (i:Nat) (hi:Nat.ble (i+1) 10=true) (H:Sat h (RunS M T tv (some (b,o)) x R)) (k:∀h',Sat h' (RunS M T tv (some (b,o)) x R)→K (.int .u64 (x.f.g i)) h') :
  Wa5 Tryz.prog 153 #[rV M T b o,.int .i64 (i:Int)] h K:=by
 refine call153 ?_
 unfold F153 g153 bd lP nP
 have H1:=RunS.new H (.cells #[mP M,mP T,fP b o] 187);generalize h.push (.cells #[mP M,mP T,fP b o] 187)=h1 at *;generalize h.size=N at *
 have hi':i < 10:=by rw [Nat.ble_eq] at hi;omega
 refine sl H1 ?_
 refine ⟨by omega,by omega,?_⟩
 rw [show o+(2+i)=o+(i+2) by omega,RunS.rg H1 hi]
 refine sb ?_
 exact k h1 (RunS.drp H1)
theorem WD9 (H:Sat h (RunS M T tv (some (b,o)) x R)) {pc fn:Int} {a:Option Addr} {l c:Nat} {rs:List Int} (A:Args R a l c rs) (hl:l≤10) (hd:x.t.fr.length < 1073741823)
  (k:∀h' b' o',¬ (b' = b∧o' = o)→WP2 h' (some (b,o)) (x.pc pc).f→Sat h' (RunS M T tv (some (b',o')) (x.call pc fn rs) R)→K (.tuple #[]) h') :
  Wa5 Tryz.prog 144 #[rV M T b o,.int .i64 pc,.int .i64 fn,.slice a l c] h K:=by
 refine call144 ?_
 unfold F144 g144 cf lP nP
 have H1:=RunS.new H (.cells #[mP M,mP T,fP b o] 187);generalize h.push (.cells #[mP M,mP T,fP b o] 187)=h1 at *;generalize h.size=N at *
 refine sl H1 ?_
 refine RunS.stP H1 λh2 H2=>?_
 refine sl H2 ?_
 refine Wa0 (YX0 H2 A.skip hl (by show (x.t.fr.dropLast ++ [_]).length < _;simp;omega) λh3 b' o' h1 h2 H3=>k h3 b' o' (λe=>h1 b o rfl e) h2 (RunS.drp H3))
theorem Zz4 (H:Sat h (RunS M T tv fo x R)) {l:Nat} (rs:List Int) {ty:TypeId} (hr:rs.length=l) (hu:∀v ∈ rs,U v) (hl:Nat.ble l 3=true) (k:∀h',Sat h' (RunS M T tv none (x.pop rs) R)→K (.tuple #[]) h') :
 Wa5 Tryz.prog 106 #[mP T,.slice (some ⟨h.size,0,none⟩) l l] (h.push (.cells (uvs rs).toArray ty)) K:=YH2 H rs hr hu (Nat.le_of_ble_eq_true hl) k
theorem Ww8 (H:Sat h (RunS M T tv (some (b,o)) x R)) {pc fn:Int} {l:Nat} (rs:List Int) {ty:TypeId} (hr:rs.length=l) (hu:∀v ∈ rs,U v) (hl:Nat.ble l 10=true) (hd:x.t.fr.length < 1073741823)
  (k:∀h' b' o',¬ (b' = b∧o' = o)→WP2 h' (some (b,o)) (x.pc pc).f→Sat h' (RunS M T tv (some (b',o')) (x.call pc fn rs) R)→K (.tuple #[]) h') :
  Wa5 Tryz.prog 144 #[rV M T b o,.int .i64 pc,.int .i64 fn,.slice (some ⟨h.size,0,none⟩) l l] (h.push (.cells (uvs rs).toArray ty)) K:=
 WD9 (RunS.new H (.cells (uvs rs).toArray ty)) (Args.mk' hr hu) (Nat.le_of_ble_eq_true hl) hd λh' b' o' h1 h2 H'=>k h' b' o' h1 h2 (RunS.drp H')
theorem Wy9 (H:Sat h (RunS M T tv fo x R)) {pl:Int} (k:∀h',Sat h' (RunS M T tv fo x R)→K (.int .i64 (x.at pl)) h') :
  Wa5 Tryz.prog 145 #[rV M T b o,.int .u64 pl] h K:=by
 refine call145 ?_
 unfold F145 g145 cf lP Wn6
 have H1:=RunS.new H (.cells #[mP M,mP T,fP b o] 187);generalize h.push (.cells #[mP M,mP T,fP b o] 187)=h1 at *;generalize h.size=N at *
 refine sl H1 ?_
 refine Wa0 (WJ6 H1 λh2 H2=>WG2 ?_)
 refine Wa0 (Ym6 (RunS.pl H) (Wi4 _) λh3 o3=>?_)
 refine sb ?_
 exact k h3 (RunS.drp (RunS.old H2 o3))
theorem WE0 (H:Sat h (RunS M T tv fo x R)) {w f:Int} (hw:U w) (hf:iN f) (k:∀h',Sat h' (RunS M T tv fo x R)→K (.int .i64 (x.nodeW w f)) h') :
  Wa5 Tryz.prog 148 #[rV M T b o,.int .u64 w,.int .i64 f] h K:=by
 refine call148 ?_
 unfold F148 g148 cf lP Wn6
 have H1:=RunS.new H (.cells #[mP M,mP T,fP b o] 187);generalize h.push (.cells #[mP M,mP T,fP b o] 187)=h1 at *;generalize h.size=N at *
 refine sl H1 ?_
 refine Wa0 (WJ6 H1 λh2 H2=>WG2 ?_)
 refine Wa0 (Wf1 hw ?_)
 refine sb ?_
 refine Wa0 (Wf4 (RunS.pl H) (W60 _) hf λh3 o3=>?_)
 refine sb ?_
 exact k h3 (RunS.drp (RunS.old H2 o3))
theorem WG5 (H:Sat h (RunS M T tv fo x R)) {pl w ptr:Int} {d:Bool} (hw:U w) (hs:x.m.mm.st < 1099511627776) (k:∀h',Sat h' (RunS M T tv fo (x.swing pl w ptr d).2 R)→K (.bool (x.swing pl w ptr d).1) h') :
  Wa5 Tryz.prog 154 #[rV M T b o,.int .u64 pl,.int .u64 w,.int .i64 ptr,.bool d] h K:=by
 refine call154 ?_
 unfold F154 g154 cf ce dl3
 have H1:=RunS.new H (.cells #[mP M,mP T,fP b o] 187);generalize h.push (.cells #[mP M,mP T,fP b o] 187)=h1 at *;generalize h.size=N at *
 refine sl H1 ?_
 refine Wa0 (Wy9 H1 λh2 H2=>?_)
 refine sl H2 ?_
 refine Wa0 (Wg9 hw ?_)
 refine sl H2 ?_
 refine Wa0 (Zp5 H2 (YZ7 (RunS.pl H) _) Wp6 hs λh3 H3=>?_)
 refine sb ?_
 exact k h3 (RunS.drp H3)
theorem Ww9 (H:Sat h (RunS M T tv (some (b,o)) x R)) {k7 k8 k9:Int} (h7:U k7) (h8:U k8) (h9:U k9) (hd:x.t.fr.length < 1073741823)
  (k:∀h' b' o',¬ (b' = b∧o' = o)→WP2 h' (some (b,o)) ((((x.s 7 k7).s 8 k8).s 9 k9).pc 90).f→Sat h' (RunS M T tv (some (b',o')) (x.fin k7 k8 k9) R)→K (.tuple #[]) h') :
  Wa5 Tryz.prog 155 #[rV M T b o,.int .u64 k7,.int .u64 k8,.int .u64 k9] h K:=by
 refine call155 ?_
 unfold F155 g155 cf ce bd lP nP dl3
 have H1:=RunS.new H (.cells #[mP M,mP T,fP b o] 187);generalize h.push (.cells #[mP M,mP T,fP b o] 187)=h1 at *;generalize h.size=N at *
 refine sl H1 ?_
 refine RunS.stR (i:=7) H1 rfl h7 λh2 H2=>?_
 refine sl H2 ?_
 refine RunS.stR (i:=8) H2 rfl h8 λh3 H3=>?_
 refine sl H3 ?_
 refine RunS.stR (i:=9) H3 rfl h9 λh4 H4=>?_
 refine sl H4 ?_
 refine Wa0 (WD9 H4 Args.none (by omega) ?_ λh5 b' o' h1 h2 H5=>k h5 b' o' h1 h2 (RunS.drp H5))
 have e:=List.length_pos_iff.2 (WU0 (RunS.thr H))
 show ((((x.t.fr.dropLast ++ [_]).dropLast ++ [_]).dropLast) ++ [_]).length < _
 simp
 omega
theorem ZJ7 (H:Sat h (RunS M T tv (some (b,o)) x R)):0 < x.t.fr.length:=List.length_pos_iff.2 (WU0 (RunS.thr H))
theorem YI3 (H:Sat h (RunS M T tv (some (b,o)) x R)) (hs:x.m.mm.st < 1099511627776) (hd:x.t.fr.length < 1073741823) (k:∀h',Sat h' (RunS M T tv none (WS4 x) R)→K (.tuple #[]) h') :
  Wa5 Tryz.prog 107 #[rV M T b o] h K:=by
 refine call107 ?_
 unfold F107 g107 cf ce bd lP lI nP dl3
 have B:=RunS.fB H
 have P:=RunS.pl H
 unfold WS4 at k
 have H1:=RunS.new H (.cells #[mP M,mP T,fP b o] 187);generalize h.push (.cells #[mP M,mP T,fP b o] 187)=h1 at *;generalize h.size=N at *
 try simp +decide only [Wb8,bsx,Nat.reduceAdd,Int.reduceLE,Int.reduceLT,Int.reduceToNat,rsx,g_s,Wa8,RunS.l H1,RunS.r H1,RunS.tc H1]
 refine Wa3 (λc=>?_) (λc=>?_)
 ·rw [if_pos c] at k
  refine Wa0 (Wy9 H1 λh2 H2=>?_)
  try simp +decide only [Wb8,bsx,Nat.reduceAdd,Int.reduceLE,Int.reduceLT,Int.reduceToNat,rsx,g_s,Wa8,RunS.l H2,RunS.c H2]
  refine Wa0 (Ww8 H2 [1,u64 (x.at (x.f.g 0))] rfl (Yf0 (U.lit rfl) (Wj9 _)) rfl hd λh4 b' o' _ _ H4=>k h4 (RunS.drp (RunS.none H4)))
 ·rw [if_neg c] at k
  have hr:=(RunS.B H).ret.2
  have hr0:U (x.ret 0):=Yc7 hr 0
  refine Wa0 (Wf1 hr0 ?_)
  try simp +decide only [Wb8,bsx,Nat.reduceAdd,Int.reduceLE,Int.reduceLT,Int.reduceToNat,rsx,g_s,Wa8,RunS.l H1]
  refine Wa3 (λc2=>?_) (λc2=>?_)
  ·rw [if_pos c2] at k
   exact Wa0 (Zz4 H1 [x.ret 0,1099511627776] rfl (Yf0 hr0 (U.lit rfl)) rfl λh2 H2=>k h2 (RunS.drp H2))
  ·rw [if_neg c2] at k
   refine Wa0 (WE0 H1 hr0 (by decide) λh2 H2=>?_)
   refine sl H2 ?_
   refine Wa0 (Wg2 H2 (Wd1 P _ _) hs λh3 H3 u3=>?_)
   refine sl H3 ?_
   exact Wa0 (Zz4 H3 [x.ret 0,(x.load (x.nodeW (x.ret 0) 0)).1] rfl (Yf0 hr0 u3) rfl λh4 H4=>k h4 (RunS.drp H4))
end
end
section
open Mod
theorem ZD3 {n:Int} (h:U n):Mod.u64 ((((BitVec.ofInt 64 n) &&& (BitVec.ofInt 64 255)).toNat:Nat):Int)=n % 256:=by
 have h0:=h.1
 have h1:=h.2
 rw [BitVec.toNat_and,h.bv,show (BitVec.ofInt 64 255).toNat=2 ^ 8 - 1 from rfl,Nat.and_two_pow_sub_one_eq_mod]
 unfold Mod.u64
 omega
theorem ZD4 (a b:Int):U (((Nat.lor (Mod.u64 a).toNat (Mod.u64 b).toNat:Nat)):Int):=by
 have ha:=Wj9 a
 have hb:=Wj9 b
 have:=Nat.or_lt_two_pow (x:=(Mod.u64 a).toNat) (y:=(Mod.u64 b).toNat) (n:=64) (by have:=ha.1;have:=ha.2;omega) (by have:=hb.1;have:=hb.2;omega)
 constructor
 ·omega
 ·have e:(Mod.u64 a).toNat ||| (Mod.u64 b).toNat=Nat.lor (Mod.u64 a).toNat (Mod.u64 b).toNat:=rfl
  rw [e] at this
  omega
theorem ZD5 (a b:Int):Mod.u64 ((((BitVec.ofInt 64 (Mod.u64 a)) ||| (BitVec.ofInt 64 (Mod.u64 b))).toNat:Nat):Int)=((Nat.lor (Mod.u64 a).toNat (Mod.u64 b).toNat:Nat):Int):=by
 rw [BitVec.toNat_or,(Wj9 a).bv,(Wj9 b).bv]
 exact (ZD4 a b).u64
section
variable {K:Value→Wa1→Prop} {h:Wa1} {M T b o N:Nat} {tv:Value} {fo:Option (Nat × Nat)} {x:Run} {R:Hp}
theorem WV2 (H:Sat h (RunS M T tv (some (b,o)) x R)) (k:∀h',Sat h' (RunS M T tv (some (b,o)) x R)→K (spV (Yc2 x)) h') :
  Wa5 Tryz.prog 220 #[rV M T b o] h K:=by
 refine call220 ?_
 unfold F220 g220 bd lP lI nP dl2
 have B:=RunS.fB H
 have H1:=RunS.new H (.cells #[mP M,mP T,fP b o] 193);generalize h.push (.cells #[mP M,mP T,fP b o] 193)=h1 at *;generalize h.size=N at *
 have H2:=RunS.new H1 (.cells #[.int .i64 0,.int .i64 0] 282)
 generalize h1.push (.cells #[.int .i64 0,.int .i64 0] 282)=h2 at *
 generalize h1.size=N2 at *
 try simp +decide only [Wb8,bsx,Nat.reduceAdd,Int.reduceLE,Int.reduceLT,Int.reduceToNat,rsx,g_s,Wa8,RunS.l2 H2,RunS.r H2,ZD3 (B.g 6)]
 have hg:=B.g 6
 have g0:=hg.1
 have g1:=hg.2
 rw [Wq3 (by omega),show s64 (x.f.g 6 / 256)=x.f.g 6 / 256 by unfold s64;omega,show s64 (x.f.g 6 % 256)=x.f.g 6 % 256 by unfold s64;omega]
 refine stR (RunS.loc H2) rfl trivial λh3 w3=>stR w3.new rfl trivial λh4 w4=>ldR w4.new rfl (ldR w4.new rfl ?_)
 exact k h4 (RunS.drp (RunS.drp (RunS.wr (RunS.wr H2 w3.new w3.old) w4.new w4.old)))
theorem WV3 (H:Sat h (RunS M T tv (some (b,o)) x R)) {s:Sp} (k:∀h',Sat h' (RunS M T tv (some (b,o)) (WS5 x s) R)→K (.tuple #[]) h') :
  Wa5 Tryz.prog 217 #[rV M T b o,spV s] h K:=by
 refine call217 ?_
 unfold F217 g217 bd lP lI nP
 have H1:=RunS.new H (.cells #[mP M,mP T,fP b o] 193);generalize h.push (.cells #[mP M,mP T,fP b o] 193)=h1 at *;generalize h.size=N at *
 have H2:=RunS.new H1 (.cells #[.int .i64 s.lo,.int .i64 s.hi] 282)
 generalize h1.push (.cells #[.int .i64 s.lo,.int .i64 s.hi] 282)=h2 at *
 generalize h1.size=N2 at *
 have O:=RunS.loc H2
 have l0:∀F:Value→Prop,ldH h2 ⟨N2,0,none⟩ F=F (.int .i64 s.lo):=λF=>by unfold ldH;rw [Wb9 O];rfl
 have l1:∀F:Value→Prop,ldH h2 ⟨N2,1,none⟩ F=F (.int .i64 s.hi):=λF=>by unfold ldH;rw [Wb9 O];rfl
 try simp +decide only [Wb8,bsx,Nat.reduceAdd,Int.reduceLE,Int.reduceLT,Int.reduceToNat,rsx,g_s,Wa8,RunS.l2 H2,l0,l1,ZD5]
 exact RunS.stR (i:=6) H2 rfl (ZD4 _ _) λh3 H3=>k h3 (RunS.drp (RunS.drp H3))
theorem WV4 (H:Sat h (RunS M T tv (some (b,o)) x R)) {l:Int} (hl:iN l) (k:∀h',Sat h' (RunS M T tv (some (b,o)) x R)→K (.int .u64 (YF8 x l)) h') :
  Wa5 Tryz.prog 222 #[rV M T b o,.int .i64 l] h K:=by
 refine call222 ?_
 unfold F222 g222 cf bd lP lI nP
 have H1:=RunS.new H (.cells #[mP M,mP T,fP b o] 193);generalize h.push (.cells #[mP M,mP T,fP b o] 193)=h1 at *;generalize h.size=N at *
 try simp +decide only [Wb8,bsx,Nat.reduceAdd,Int.reduceLE,Int.reduceLT,Int.reduceToNat,rsx,g_s,Wa8,RunS.l H1,RunS.r H1]
 refine Wa0 (Zf9 hl ?_)
 refine sb ?_
 exact k h1 (RunS.drp H1)
theorem WG6 (H:Sat h (RunS M T tv (some (b,o)) x R)) {ok:Bool} (hd:x.t.fr.length < 1000000002) (k:∀h',Sat h' (RunS M T tv none (W51 x ok) R)→K (.tuple #[]) h') :
  Wa5 Tryz.prog 225 #[rV M T b o,.bool ok] h K:=by
 refine call225 ?_
 unfold F225 g225 cf bd lP nP da3
 have H1:=RunS.new H (.cells #[mP M,mP T,fP b o] 193);generalize h.push (.cells #[mP M,mP T,fP b o] 193)=h1 at *;generalize h.size=N at *
 unfold W51 at k
 cases ok with
 | true=>
  refine sl H1 ?_
  exact Wa0 (Ww9 H1 U0 U0 U0 (by omega) λh2 b' o' _ _ H2=>k h2 (RunS.drp (RunS.none H2)))
 | false=>
  refine sl H1 ?_
  refine RunS.stR (i:=3) H1 rfl U0 λh2 H2=>?_
  refine sl H2 ?_
  exact RunS.stP H2 λh3 H3=>k h3 (RunS.drp (RunS.none H3))
theorem RunS.ret (H:Sat h (RunS M T tv fo x R)) (i:Nat):U (x.ret i):=Yc7 (RunS.B H).ret.2 i
theorem Yo5 (H:Sat h (RunS M T tv (some (b,o)) x R)) (O:Ok x) (hp:x.f.pc≤3) (k:∀h',Sat h' (RunS M T tv none (WS6 x) R)→K (.tuple #[]) h') :
  Wa5 Tryz.prog 149 #[rV M T b o] h K:=by
 refine call149 ?_
 unfold F149 g149 cf ce bd lP lI nP da3 Wn6
 have B:=RunS.fB H
 have P:=RunS.pl H
 have hp0:=O.pc
 have hd:=O.fr
 have r0:=RunS.ret H 0
 unfold WS6 at k
 dsimp only at k
 have H1:=RunS.new H (.cells #[mP M,mP T,fP b o] 193);generalize h.push (.cells #[mP M,mP T,fP b o] 193)=h1 at *;generalize h.size=N at *
 try simp +decide only [Wb8,bsx,Nat.reduceAdd,Int.reduceLE,Int.reduceLT,Int.reduceToNat,rsx,g_s,Wa8,RunS.l H1,RunS.r H1,RunS.tc H1]
 refine Wa3 (λc=>?_) (λc=>?_)
 ·rw [if_pos c] at k
  exact Wa0 (WD9 H1 Args.none (by omega) (by omega) λh2 b' o' _ _ H2=>k h2 (RunS.drp (RunS.none H2)))
 rw [if_neg c] at k
 refine Wa3 (λc=>?_) (λc=>?_)
 ·rw [if_pos c] at k
  refine RunS.stR (i:=2) H1 rfl r0 λh2 H2=>?_
  try simp +decide only [Wb8,bsx,Nat.reduceAdd,Int.reduceLE,Int.reduceLT,Int.reduceToNat,rsx,g_s,Wa8,RunS.l H2,RunS.r H2,B.len]
  refine Wb7 (λc2=>?_) (λc2=>?_)
  ·have c2':x.ret 0≠0:=by simpa [Run.ret] using c2
   rw [if_pos c2'] at k
   exact RunS.stP H2 λh3 H3=>k h3 (RunS.drp (RunS.none H3))
  ·have c2':¬ x.ret 0≠0:=by simpa [Run.ret] using c2
   rw [if_neg c2'] at k
   have hfl:=Ws4 x 2 (x.ret 0)
   refine ⟨λvs h'=>(∃w,vs = [.bool (decide (x.f.g 3=0∧x.t.retired.length > 0)),w])∧Sat h' (RunS M T tv (some (b,o)) (x.s 2 (x.ret 0)) (pt N (.cells #[mP M,mP T,fP b o] 193)*R)),?_,?_⟩
   ·refine Wa3 (λc3=>?_) (λc3=>?_)
    ·refine Wa0 (Wv2 (RunS.thr H2) ?_)
     refine sb ?_
     have e:decide (((x.s 2 (x.ret 0)).t.retired.length:Int) > 0)=decide (x.f.g 3=0∧x.t.retired.length > 0):=by
      rw [decide_eq_decide]
      have e2:(x.s 2 (x.ret 0)).t.retired=x.t.retired:=rfl
      rw [e2]
      omega
     rw [e]
     exact ⟨⟨_,rfl⟩,H2⟩
    ·exact ⟨⟨_,by rw [decide_eq_false (λhh=>c3 hh.1)]⟩,H2⟩
   rintro v32 v33 g34 h35 ⟨⟨w,e⟩,H3⟩
   cases e
   refine sb ?_
   refine Wa3 (λc3=>?_) (λc3=>?_)
   ·rw [if_pos c3] at k
    refine RunS.stR (i:=3) H3 rfl (U.lit rfl) λh4 H4=>?_
    have hfl2:=Ws4 (x.s 2 (x.ret 0)) 3 1
    refine sl H4 ?_
    exact Wa0 (WD9 H4 Args.none (by omega) (by omega) λh5 b' o' _ _ H5=>k h5 (RunS.drp (RunS.none H5)))
   ·rw [if_neg c3] at k
    refine sl H3 ?_
    exact Wa0 (Ww9 H3 (U.lit rfl) U0 U0 (by omega) λh5 b' o' _ _ H5=>k h5 (RunS.drp (RunS.none H5)))
 rw [if_neg c] at k
 refine Wa3 (λc=>?_) (λc=>?_)
 ·rw [if_pos c] at k
  refine Wa0 (WJ6 H1 λh2 H2=>WG2 ?_)
  try simp only [Wb8,bsx,Nat.reduceAdd,Int.reduceLE,Int.reduceLT,Int.reduceToNat,RunS.c H2,RunS.l H2]
  refine Wa0 (Wf4 P (Wi4 _) (by decide) λh3 o3=>?_)
  have H3:=RunS.old H2 o3
  try simp only [Wb8,bsx,Nat.reduceAdd,Int.reduceLE,Int.reduceLT,Int.reduceToNat,RunS.c H3,RunS.l H3]
  refine Wa0 (Wi9 H3 (Wd1 P _ _) (B.g 0) O.st λh4 H4=>?_)
  exact RunS.stP H4 λh5 H5=>k h5 (RunS.drp (RunS.none H5))
 rw [if_neg c] at k
 refine Wa3 (λc=>?_) (λc=>by omega)
 ·refine Wa0 (WJ6 H1 λh2 H2=>WG2 ?_)
  try simp only [Wb8,bsx,Nat.reduceAdd,Int.reduceLE,Int.reduceLT,Int.reduceToNat,RunS.c H2,RunS.l H2]
  refine Wa0 (Wf4 P (Wi4 _) (by decide) λh3 o3=>?_)
  have H3:=RunS.old H2 o3
  try simp only [Wb8,bsx,Nat.reduceAdd,Int.reduceLE,Int.reduceLT,Int.reduceToNat,RunS.c H3,RunS.l H3]
  refine Wa0 (Wi9 H3 (Wd1 P _ _) (B.g 1) O.st λh4 H4=>?_)
  exact RunS.stR (i:=3) H4 rfl U0 λh5 H5=>RunS.stP H5 λh6 H6=>k h6 (RunS.drp (RunS.none H6))
theorem RunS.feed (H:Sat h (RunS M T tv fo x R)) (k:∀q R',Sat h (fdS q x.m.b x.m.used*R')→(∀h' u,Sat h' (fdS q x.m.b u*R')→Sat h' (RunS M T tv fo { x with m:=Mac.feed x.m u } R))→K (mP q) h) :
 Wa5 Tryz.prog 214 #[mP M] h K:=Yn5 H λq R' H1 re=>k q R' H1 λh' u H2=>re h' u H2
theorem Yo6 (H:Sat h (RunS M T tv (some (b,o)) x R)) (O:Ok x) (hp:4≤x.f.pc∧x.f.pc≤7) (k:∀h',Sat h' (RunS M T tv none (Wo3 x) R)→K (.tuple #[]) h') :
  Wa5 Tryz.prog 150 #[rV M T b o] h K:=by
 refine call150 ?_
 unfold F150 g150 cf ce bd lP lI nP da3 de2 de7 Wn6 dl3
 have B:=RunS.fB H
 have P:=RunS.pl H
 have hd:=O.fr
 have r1:=RunS.ret H 1
 unfold Wo3 at k
 dsimp only at k
 have H1:=RunS.new H (.cells #[mP M,mP T,fP b o] 193);generalize h.push (.cells #[mP M,mP T,fP b o] 193)=h1 at *;generalize h.size=N at *
 refine sl H1 ?_
 refine Wa0 (WJ6 H1 λh2 H2=>WG2 ?_)
 refine Wa0 (Wh3 λh3 o3=>cf7 ?_)
 have H3:=RunS.old H2 o3
 have H4:=RunS.new H3 (.cells #[.int .i64 0,.int .i64 0,.int .i64 0,.int .i64 0,.int .i64 0,.int .i64 0,.int .i64 0] 23)
 generalize h3.push (.cells #[.int .i64 0,.int .i64 0,.int .i64 0,.int .i64 0,.int .i64 0,.int .i64 0,.int .i64 0] 23)=h4 at *
 generalize h3.size=N2 at *
 refine st7 (Wd3 (vs:=cfc x.m.p.c) (RunS.loc H4) rfl (by simp [cfc,Wi5]) λh5 w=>?_)
 have H5:=RunS.wr H4 w.new w.old
 clear H1 H2 H3 H4 o3 w
 try simp +decide only [Wb8,bsx,Nat.reduceAdd,Int.reduceLE,Int.reduceLT,Int.reduceToNat,rsx,g_s,Wa8,RunS.l2 H5,RunS.r H5,RunS.tc H5]
 refine Wa3 (λc=>?_) (λc=>?_)
 ·rw [if_pos c] at k
  refine Wa0 (Wg2 H5 (by decide) O.st λh6 H6 u6=>?_)
  refine sb ?_
  refine RunS.stR (i:=4) H6 rfl u6 λh7 H7=>?_
  try simp +decide only [Wb8,bsx,Nat.reduceAdd,Int.reduceLE,Int.reduceLT,Int.reduceToNat,rsx,g_s,Wa8,RunS.l2 H7,RunS.r H7,B.len]
  refine Wa0 (RunS.feed H7 λq R' HF re=>?_)
  refine sb ?_
  refine Wa0 (WC3 (Wi4 _) ?_)
  refine sb ?_
  have hus:((x.load 2).2.s 4 (x.load 2).1).m.used < 1099511627776:=by
   have e:((x.load 2).2.s 4 (x.load 2).1).m.used=x.m.used:=by
    show (x.m.load 2).2.used=x.m.used
    unfold Mac.load
    dsimp only
    have:=(Wq5 x.m 2).2.2.2.1
    split <;> exact this
   rw [e];exact O.us
  have hb:=(W55 HF)
  obtain ⟨fa,fc,FF,_⟩:=hb
  refine Wa0 (Yn1 HF hus (λhn=>?_) (λhn h8 H8=>?_))
  ·refine sb ?_
   refine Wa0 (W21 (Wi4 _) ?_)
   refine sb ?_
   refine RunS.stR (i:=5) H7 rfl (Wj9 _) λh9 H9=>RunS.stP H9 λh10 H10=>k h10 ?_
   have e:(((x.load 2).2.s 4 (x.load 2).1).m.next (Wg4 (s64 (x.load 2).1)))=(0,((x.load 2).2.s 4 (x.load 2).1).m):=by unfold Mac.next;rw [if_pos hn]
   rw [e]
   exact RunS.drp (RunS.drp (RunS.none H10))
  ·refine sb ?_
   refine Wa0 (W21 (Wi4 _) ?_)
   refine sb ?_
   refine RunS.stR (i:=5) (re h8 _ H8) rfl (Wj9 _) λh9 H9=>RunS.stP H9 λh10 H10=>k h10 ?_
   have e:(((x.load 2).2.s 4 (x.load 2).1).m.next (Wg4 (s64 (x.load 2).1)))=(drawn ((x.load 2).2.s 4 (x.load 2).1).m.b ((x.load 2).2.s 4 (x.load 2).1).m.used % Wg4 (s64 (x.load 2).1),Mac.feed ((x.load 2).2.s 4 (x.load 2).1).m (((x.load 2).2.s 4 (x.load 2).1).m.used+1)):=by
    unfold Mac.next Mac.take;rw [if_neg (by omega)];rfl
   rw [e]
   exact RunS.drp (RunS.drp (RunS.none H10))
 rw [if_neg c] at k
 refine Wa3 (λc=>?_) (λc=>?_)
 ·rw [if_pos c] at k
  exact Wa0 (Ww8 H5 [x.f.g 5] rfl (Wn5 (B.g 5)) rfl (by omega) λh6 b' o' _ _ H6=>k h6 (RunS.drp (RunS.drp (RunS.none H6))))
 rw [if_neg c] at k
 refine Wa3 (λc=>?_) (λc=>?_)
 ·rw [if_pos c] at k
  refine Wa3 (λc2=>?_) (λc2=>?_)
  ·rw [if_pos c2] at k
   refine Wa0 (YZ4 (Wi4 _) λh6 o6=>?_)
   have H6:=RunS.old H5 o6
   try simp only [Wb8,bsx,Nat.reduceAdd,Int.reduceLE,Int.reduceLT,Int.reduceToNat,RunS.l2 H6,RunS.c H6]
   refine Wm0 rfl (Wc1 rfl (Wc1 rfl ?_))
   try simp only [Wb8,bsx,Nat.reduceAdd,Int.reduceLE,Int.reduceLT,Int.reduceToNat,RunS.l2 H6,RunS.c H6]
   refine Wa0 (WV3 H6 (s:=Zt0 (s64 (x.f.g 4))) λh7 H7=>?_)
   exact RunS.stP H7 λh8 H8=>k h8 (RunS.drp (RunS.drp (RunS.none H8)))
  ·rw [if_neg c2] at k
   refine RunS.stR (i:=3) H5 rfl (Wj9 _) λh6 H6=>RunS.stP H6 λh7 H7=>?_
   have O7:=RunS.loc H7
   have l5:∀F:Value→Prop,ldH h7 ⟨N2,5,none⟩ F=F (.int .i64 x.m.p.c.probes):=λF=>by unfold ldH;rw [Wb9 O7];rfl
   try simp +decide only [Wb8,bsx,Nat.reduceAdd,Int.reduceLE,Int.reduceLT,Int.reduceToNat,rsx,g_s,Wa8,RunS.l2 H7,RunS.r H7,B.len,l5]
   refine Wa3 (λc3=>?_) (λc3=>?_)
   ·rw [if_pos c3] at k
    exact RunS.stP H7 λh8 H8=>k h8 (RunS.drp (RunS.drp (RunS.none H8)))
   ·rw [if_neg c3] at k
    exact k h7 (RunS.drp (RunS.drp (RunS.none H7)))
 rw [if_neg c] at k
 refine Wa3 (λc=>?_) (λc=>by omega)
 have O5:=RunS.loc H5
 have l3:∀F:Value→Prop,ldH h5 ⟨N2,3,none⟩ F=F (.int .i64 x.m.p.c.level):=λF=>by unfold ldH;rw [Wb9 O5];rfl
 try simp +decide only [Wb8,bsx,Nat.reduceAdd,Int.reduceLE,Int.reduceLT,Int.reduceToNat,rsx,g_s,Wa8,RunS.l2 H5,RunS.r H5,l3]
 refine Wa3 (λc2=>?_) (λc2=>?_)
 ·rw [if_pos c2] at k
  refine Wa0 (Ww9 H5 (U.lit rfl) U0 U0 (by omega) λh6 b' o' _ st H6=>?_)
  have e2:Wa2 h6 ⟨b,o+4,none⟩=some (.int .u64 (x.f.g 2)):=by
   have e:(((((x.s 7 1).s 8 0).s 9 0).pc 90).f).g 2=x.f.g 2:=by try simp +decide only [Wb8,bsx,Nat.reduceAdd,Int.reduceLE,Int.reduceLT,Int.reduceToNat,rsx,g_s,Wa8,B.len]
   rw [← e]
   exact st b o 4 _ rfl rfl
  have ld2:∀F:Value→Prop,ldH h6 ⟨b,o+4,none⟩ F=F (.int .u64 (x.f.g 2)):=λF=>by unfold ldH;rw [e2]
  try simp only [Wb8,bsx,Nat.reduceAdd,Int.reduceLE,Int.reduceLT,Int.reduceToNat,RunS.l2 H6,ld2]
  refine Wa0 (YX1 H6 [x.f.g 2] rfl (Wn5 (B.g 2)) (by omega) ?_ λh7 b'' o'' _ _ H7=>k h7 (RunS.drp (RunS.drp (RunS.none H7))))
  have l1:=Ws4 x 7 1
  have l2:=Ws4 (x.s 7 1) 8 0
  have l3:=Ws4 ((x.s 7 1).s 8 0) 9 0
  have l4:=WF4 (((x.s 7 1).s 8 0).s 9 0) 90
  show ((((((x.s 7 1).s 8 0).s 9 0).pc 90).t.fr) ++ [_]).length < _
  rw [List.length_append]
  simp only [List.length_singleton]
  omega
 ·rw [if_neg c2] at k
  refine Wa0 (Zp5 H5 (by decide) (Wj9 _) O.st λh6 H6=>?_)
  refine sb ?_
  exact RunS.stR (i:=3) H6 rfl U0 λh7 H7=>RunS.stP H7 λh8 H8=>k h8 (RunS.drp (RunS.drp (RunS.none H8)))
theorem Yo7 (H:Sat h (RunS M T tv (some (b,o)) x R)) (O:Ok x) (hp:8≤x.f.pc∧x.f.pc≤9) (k:∀h',Sat h' (RunS M T tv none (WS7 x) R)→K (.tuple #[]) h') :
  Wa5 Tryz.prog 151 #[rV M T b o] h K:=by
 refine call151 ?_
 unfold F151 g151 cf ce bd lP lI nP da3 de2 dl2 dl3
 have B:=RunS.fB H
 have P:=RunS.pl H
 have hd:=O.fr
 unfold WS7 at k
 dsimp only at k
 have H1:=RunS.new H (.cells #[mP M,mP T,fP b o] 193);generalize h.push (.cells #[mP M,mP T,fP b o] 193)=h1 at *;generalize h.size=N at *
 refine sl H1 ?_
 refine Wa0 (WV2 H1 λh2 H2=>?_)
 refine sb ?_
 refine Wm0 rfl (Wc1 rfl (Wc1 rfl ?_))
 have H3:=RunS.new H2 (.cells #[.int .i64 0,.int .i64 0] 282)
 generalize h2.push (.cells #[.int .i64 0,.int .i64 0] 282)=h3 at *
 generalize h2.size=N2 at *
 refine stR (RunS.loc H3) rfl trivial λh4 w4=>stR w4.new rfl trivial λh5 w5=>?_
 have H5:=RunS.wr (RunS.wr H3 w4.new w4.old) w5.new w5.old
 clear H1 H2 H3 w4 w5
 generalize hs:Yc2 x=s at *
 have O5:=RunS.loc H5
 have l0:∀F:Value→Prop,ldH h5 ⟨N2,0,none⟩ F=F (.int .i64 s.lo):=λF=>by unfold ldH;rw [Wb9 O5];rfl
 have l1:∀F:Value→Prop,ldH h5 ⟨N2,1,none⟩ F=F (.int .i64 s.hi):=λF=>by unfold ldH;rw [Wb9 O5];rfl
 try simp +decide only [Wb8,bsx,Nat.reduceAdd,Int.reduceLE,Int.reduceLT,Int.reduceToNat,rsx,g_s,Wa8,RunS.l2 H5,RunS.r H5,RunS.tc H5,l0,l1]
 refine Wa3 (λc=>?_) (λc=>?_)
 ·rw [if_pos c] at k
  refine Wa0 (W22 λh6 o6=>?_)
  have H6:=RunS.old H5 o6
  have O6:=RunS.loc H6
  have m0:∀F:Value→Prop,ldH h6 ⟨N2,0,none⟩ F=F (.int .i64 s.lo):=λF=>by unfold ldH;rw [Wb9 O6];rfl
  have m1:∀F:Value→Prop,ldH h6 ⟨N2,1,none⟩ F=F (.int .i64 s.hi):=λF=>by unfold ldH;rw [Wb9 O6];rfl
  try simp +decide only [Wb8,bsx,Nat.reduceAdd,Int.reduceLE,Int.reduceLT,Int.reduceToNat,rsx,g_s,Wa8,RunS.l2 H6,RunS.r H6,m0,m1]
  refine Wb7 (λc2=>?_) (λc2=>?_)
  ·rw [if_pos c2] at k
   exact RunS.stP H6 λh7 H7=>k h7 (RunS.drp (RunS.drp (RunS.none H7)))
  ·rw [if_neg (by rw [c2];simp)] at k
   refine Wa0 (WV1 λh7 o7=>?_)
   have H7:=RunS.old H6 o7
   have hm:=YZ5 s
   try simp only [Wb8,bsx,Nat.reduceAdd,Int.reduceLE,Int.reduceLT,Int.reduceToNat,RunS.l2 H7]
   refine Wa0 (WV4 H7 ⟨by omega,by omega⟩ λh8 H8=>?_)
   try simp only [Wb8,bsx,Nat.reduceAdd,Int.reduceLE,Int.reduceLT,Int.reduceToNat,RunS.l2 H8]
   exact Wa0 (Ww8 H8 [YF8 x s.mid] rfl (Wn5 (Wj9 _)) rfl (by omega) λh9 b' o' _ _ H9=>k h9 (RunS.drp (RunS.drp (RunS.none H9))))
 rw [if_neg c] at k
 refine Wa3 (λc=>?_) (λc=>by omega)
 refine Wa0 (YZ6 λh6 o6=>?_)
 have H6:=RunS.old H5 o6
 try simp only [Wb8,bsx,Nat.reduceAdd,Int.reduceLE,Int.reduceLT,Int.reduceToNat,RunS.l2 H6]
 refine Wm0 rfl (Wc1 rfl (Wc1 rfl ?_))
 try simp only [Wb8,bsx,Nat.reduceAdd,Int.reduceLE,Int.reduceLT,Int.reduceToNat,RunS.l2 H6]
 refine Wa0 (WV3 H6 λh7 H7=>?_)
 try simp only [Wb8,bsx,Nat.reduceAdd,Int.reduceLE,Int.reduceLT,Int.reduceToNat,RunS.l2 H7]
 exact RunS.stP H7 λh8 H8=>k h8 (RunS.drp (RunS.drp (RunS.none H8)))
theorem YI4 (H:Sat h (RunS M T tv (some (b,o)) x R)) (O:Ok x) (k:∀h',Sat h' (RunS M T tv none (YU6 x) R)→K (.tuple #[]) h') :
  Wa5 Tryz.prog 152 #[rV M T b o] h K:=by
 refine call152 ?_
 unfold F152 g152 cf bd lP lI nP da3 dc3 de2 Wn6 dl3 ce
 have B:=RunS.fB H
 have P:=RunS.pl H
 have hd:=O.fr
 have r0:=RunS.ret H 0
 have r1:=RunS.ret H 1
 unfold YU6 at k
 dsimp only at k
 have H1:=RunS.new H (.cells #[mP M,mP T,fP b o] 193);generalize h.push (.cells #[mP M,mP T,fP b o] 193)=h1 at *;generalize h.size=N at *
 refine sl H1 ?_
 refine Wa0 (WV2 H1 λh2 H2=>?_)
 refine sb ?_
 refine Wm0 rfl (Wc1 rfl (Wc1 rfl ?_))
 refine sl H2 ?_
 have hsl:iN (Yc2 x).lo:=by
  have hg:=B.g 6
  have g0:=hg.1
  have g1:=hg.2
  unfold Yc2
  constructor <;> simp only <;> omega
 refine Wa0 (WV4 H2 hsl λh3 H3=>?_)
 refine sl H3 ?_
 refine Wa0 (Wh9 3 rfl H3 λh4 H4=>?_)
 clear H1 H2 H3
 have hpl:U (YF8 x (Yc2 x).lo):=Wj9 _
 generalize YF8 x (Yc2 x).lo=place at *
 try simp +decide only [Wb8,bsx,Nat.reduceAdd,Int.reduceLE,Int.reduceLT,Int.reduceToNat,rsx,g_s,Wa8,RunS.l H4,RunS.r H4,RunS.tc H4]
 refine Wa3 (λc=>?_) (λc=>?_)
 ·rw [if_pos c] at k
  exact Wa0 (Ww8 H4 [place] rfl (Wn5 hpl) rfl (by omega) λh5 b' o' _ _ H5=>k h5 (RunS.drp (RunS.none H5)))
 rw [if_neg c] at k
 refine Wa3 (λc=>?_) (λc=>?_)
 ·rw [if_pos c] at k
  refine Wa3 (λc2=>?_) (λc2=>?_)
  ·rw [if_pos c2] at k
   exact RunS.stR (i:=3) H4 rfl U0 λh5 H5=>RunS.stP H5 λh6 H6=>k h6 (RunS.drp (RunS.none H6))
  ·rw [if_neg c2] at k
   refine RunS.stR (i:=3) H4 rfl r0 λh5 H5=>?_
   try simp +decide only [Wb8,bsx,Nat.reduceAdd,Int.reduceLE,Int.reduceLT,Int.reduceToNat,rsx,g_s,Wa8,RunS.l H5,RunS.r H5,B.len]
   refine Wa0 (WJ6 H5 λh6 H6=>WG2 ?_)
   try simp +decide only [Wb8,bsx,Nat.reduceAdd,Int.reduceLE,Int.reduceLT,Int.reduceToNat,rsx,g_s,Wa8,RunS.l H6,RunS.c H6,B.len]
   refine Wa0 (Wf4 P (Wi4 _) (by decide) λh7 o7=>?_)
   have H7:=RunS.old H6 o7
   refine sl H7 ?_
   refine Wa0 (Wh9 3 rfl H7 λh8 H8=>?_)
   try simp +decide only [Wb8,bsx,Nat.reduceAdd,Int.reduceLE,Int.reduceLT,Int.reduceToNat,rsx,g_s,Wa8,RunS.l H8,B.len]
   refine Wa0 (Wf1 r0 ?_)
   try simp +decide only [Wb8,bsx,Nat.reduceAdd,Int.reduceLE,Int.reduceLT,Int.reduceToNat,rsx,g_s,Wa8,RunS.l H8]
   refine Wa0 (Wi9 H8 (Wd1 P _ _) (Wj0 _) O.st λh9 H9=>?_)
   refine RunS.stP H9 λh10 H10=>?_
   refine Wa3 (λc3=>?_) (λc3=>?_)
   ·rw [if_pos c3] at k
    exact RunS.stP H10 λh11 H11=>k h11 (RunS.drp (RunS.none H11))
   ·rw [if_neg c3] at k
    exact k h10 (RunS.drp (RunS.none H10))
 rw [if_neg c] at k
 refine Wa3 (λc=>?_) (λc=>?_)
 ·rw [if_pos c] at k
  refine Wa0 (Wh8 (B.g 3) ?_)
  refine ss H4 ?_
  refine Wa0 (WG5 H4 (B.g 3) O.st λh5 H5=>?_)
  refine ss H5 ?_
  exact Wa0 (WG6 H5 (show x.t.fr.length < _ by omega) λh6 H6=>k h6 (RunS.drp H6))
 have e2:Int.fdiv place 2=place / 2:=Wq3 (by omega)
 have e3:Int.tdiv place 2=place / 2:=Int.tdiv_eq_ediv_of_nonneg hpl.1
 have hu:U (place / 2):=⟨by have:=hpl.1;omega,by have:=hpl.2;have:=hpl.1;omega⟩
 rw [if_neg c] at k
 refine Wa3 (λc=>?_) (λc=>?_)
 ·rw [if_pos c] at k
  try simp only [Wb8,bsx,Nat.reduceAdd,Int.reduceLE,Int.reduceLT,Int.reduceToNat,e2,e3,hu.u64]
  try refine ⟨by decide,?_⟩
  exact Wa0 (Ww8 H4 [place / 2] rfl (Wn5 hu) rfl (by omega) λh5 b' o' _ _ H5=>k h5 (RunS.drp (RunS.none H5)))
 rw [if_neg c] at k
 refine Wa3 (λc=>?_) (λc=>?_)
 ·rw [if_pos c] at k
  refine Wa3 (λc2=>?_) (λc2=>?_)
  ·rw [if_pos c2] at k
   exact Wa0 (WG6 H4 (by omega) λh5 H5=>k h5 (RunS.drp H5))
  ·rw [if_neg c2] at k
   refine Wa0 (Wy9 H4 λh5 H5=>?_)
   refine ss H5 ?_
   refine Wa0 (Wh8 (B.g 3) ?_)
   refine ss H5 ?_
   refine Wa0 (Wg9 (B.g 3) ?_)
   try simp +decide only [Wb8,bsx,Nat.reduceAdd,Int.reduceLE,Int.reduceLT,Int.reduceToNat,rsx,g_s,Wa8,RunS.al H5,e2,e3,hu.u64]
   refine Wa0 (Wy9 H5 λh6 H6=>?_)
   try simp +decide only [Wb8,bsx,Nat.reduceAdd,Int.reduceLE,Int.reduceLT,Int.reduceToNat,rsx,g_s,Wa8,RunS.al H6,e2,e3,hu.u64]
   refine Wa0 (ZJ1 H6 (YZ7 P _) (YZ7 P _) Wp6 O.st λh7 H7=>?_)
   refine ss H7 ?_
   exact Wa0 (WG6 H7 (show x.t.fr.length < _ by omega) λh8 H8=>k h8 (RunS.drp H8))
 rw [if_neg c] at k
 exact k h4 (RunS.drp (RunS.none H4))
end
end
section
set_option maxRecDepth 100000
def F64 (K:Value→Wa1→Prop) (h:Wa1) (xa xb:Option Addr):Prop:=
 (cf 105 #[.pointer xb] h λa b=>Wb1 a λa=>exI λI3=>(ifB (Option.isNone a) (I3 [.bool true] b) (I3 [.bool (Option.isNone xa)] b))∧(∀(b:Value) (c:Env) (c:Wa1),(I3 [b] c)→(asBool b λb=>ifB b (K (.tuple #[]) c) (stH (Array.push c (.cells #[.pointer none,.pointer none,.pointer none] 197)) ⟨c.size,0,none⟩ (.pointer xa) λb=>stH b ⟨c.size,1,none⟩ (.pointer xb) λb=>stH b ⟨c.size,2,none⟩ (.pointer a) λb=>exI λI11=>(nP a λd=>lI .i64 b d λd=>ifB (decide (d < 21)) (I11 [.bool true,.bool true] b) (nP a λd=>lI .i64 b d λd=>I11 [.bool (decide (d > 23)),.bool (decide (d > 23))] b))∧(∀(b d:Value) (e:Env) (e:Wa1),(I11 [b,d] e)→(asBool b λb=>ifB b (cf 112 #[.pointer xa,.pointer xb] e λb b=>K (.tuple #[]) b) (nP a λb=>lI .i64 e (Addr.add b 1) λb=>ifB (b == 90) (nP a λb=>bd 7 10 (lI .u64 e (Addr.add b 9) λb=>nP a λd=>bd 8 10 (lI .u64 e (Addr.add d 10) λd=>nP a λf=>bd 9 10 (lI .u64 e (Addr.add f 11) λf=>cf 106 #[.pointer xb,.slice (some ⟨e.size,0,none⟩) 3 3] (Array.push e (.cells #[.int .u64 b,.int .u64 d,.int .u64 f] 178)) λb b=>K (.tuple #[]) b)))) (nP a λa=>lI .i64 e a λa=>ifB (a == 21) (dl3 e c.size λa b d=>cf 113 #[.agg #[a,b,d]] e λa a=>K (.tuple #[]) a) (dl3 e c.size λa b c=>cf 114 #[.agg #[a,b,c]] e λa a=>K (.tuple #[]) a)))))))))
theorem call64 {K:Value→Wa1→Prop} {h:Wa1} {xa xb:Option Addr} (H:F64 K h xa xb):Wa5 Tryz.prog 64 #[(.pointer xa),(.pointer xb)] h K:=
 Wa4 Tryz.func64 (by kernel_rfl) (Eq.mp (by kernel_rfl) H)
def F112 (K:Value→Wa1→Prop) (h:Wa1) (xa xb:Option Addr):Prop:=
 (cf 105 #[.pointer xb] h λa b=>Wb1 a λa=>exI λI3=>(ifB (Option.isNone a) (I3 [.bool true,.bool true] b) (I3 [.bool (Option.isNone xa),.bool (Option.isNone xa)] b))∧(∀(b c:Value) (d:Env) (d:Wa1),(I3 [b,c] d)→(asBool b λb=>ifB b (K (.tuple #[]) d) (nP a λb=>lI .i64 d b λb=>ifB (b == 20) (cf 166 #[.agg #[.pointer xa,.pointer xb,.pointer a]] d λa a=>K (.tuple #[]) a) (cf 111 #[.pointer xa,.pointer xb] d λa a=>K (.tuple #[]) a)))))
theorem call112 {K:Value→Wa1→Prop} {h:Wa1} {xa xb:Option Addr} (H:F112 K h xa xb):Wa5 Tryz.prog 112 #[(.pointer xa),(.pointer xb)] h K:=
 Wa4 Tryz.func112 (by kernel_rfl) (Eq.mp (by kernel_rfl) H)
abbrev g113 (K:Value→Wa1→Prop) (h H1:Wa1):Prop:=
 (lP H1 (Addr.add ⟨h.size,0,none⟩ 2) λa=>nP a λa=>lI .i64 H1 (Addr.add a 1) λa=>ifB (decide (a≤2)) (dl3 H1 h.size λa b c=>cf 167 #[.agg #[a,b,c]] H1 λa a=>K (.tuple #[]) a) (lP H1 (Addr.add ⟨h.size,0,none⟩ 2) λa=>nP a λa=>lI .i64 H1 (Addr.add a 1) λa=>ifB (decide (a≤7)) (dl3 H1 h.size λa b c=>cf 168 #[.agg #[a,b,c]] H1 λa a=>K (.tuple #[]) a) (lP H1 (Addr.add ⟨h.size,0,none⟩ 2) λa=>nP a λa=>lI .i64 H1 (Addr.add a 1) λa=>ifB (decide (a≤11)) (dl3 H1 h.size λa b c=>cf 169 #[.agg #[a,b,c]] H1 λa a=>K (.tuple #[]) a) (lP H1 (Addr.add ⟨h.size,0,none⟩ 2) λa=>nP a λa=>lI .i64 H1 (Addr.add a 1) λa=>ifB (decide (a≤14)) (dl3 H1 h.size λa b c=>cf 170 #[.agg #[a,b,c]] H1 λa a=>K (.tuple #[]) a) (dl3 H1 h.size λa b c=>cf 171 #[.agg #[a,b,c]] H1 λa a=>K (.tuple #[]) a)))))
def F113 (K:Value→Wa1→Prop) (h:Wa1) (xa xb xc:Option Addr):Prop:=
 (g113 K h (Array.push h (.cells #[.pointer xa,.pointer xb,.pointer xc] 199)))
theorem call113 {K:Value→Wa1→Prop} {h:Wa1} {xa xb xc:Option Addr} (H:F113 K h xa xb xc):Wa5 Tryz.prog 113 #[(.agg #[(.pointer xa),(.pointer xb),(.pointer xc)])] h K:=
 Wa4 Tryz.func113 (by kernel_rfl) (Eq.mp (by kernel_rfl) H)
abbrev g114 (K:Value→Wa1→Prop) (h H1:Wa1):Prop:=
 (lP H1 (Addr.add ⟨h.size,0,none⟩ 2) λa=>nP a λa=>lI .i64 H1 (Addr.add a 1) λa=>ifB (decide (a≤3)) (dl3 H1 h.size λa b c=>cf 172 #[.agg #[a,b,c]] H1 λa a=>K (.tuple #[]) a) (lP H1 (Addr.add ⟨h.size,0,none⟩ 2) λa=>nP a λa=>lI .i64 H1 (Addr.add a 1) λa=>ifB (decide (a≤6)) (dl3 H1 h.size λa b c=>cf 173 #[.agg #[a,b,c]] H1 λa a=>K (.tuple #[]) a) (lP H1 (Addr.add ⟨h.size,0,none⟩ 2) λa=>nP a λa=>lI .i64 H1 (Addr.add a 1) λa=>ifB (decide (a≤8)) (dl3 H1 h.size λa b c=>cf 174 #[.agg #[a,b,c]] H1 λa a=>K (.tuple #[]) a) (dl3 H1 h.size λa b c=>cf 175 #[.agg #[a,b,c]] H1 λa a=>K (.tuple #[]) a))))
def F114 (K:Value→Wa1→Prop) (h:Wa1) (xa xb xc:Option Addr):Prop:=
 (g114 K h (Array.push h (.cells #[.pointer xa,.pointer xb,.pointer xc] 200)))
theorem call114 {K:Value→Wa1→Prop} {h:Wa1} {xa xb xc:Option Addr} (H:F114 K h xa xb xc):Wa5 Tryz.prog 114 #[(.agg #[(.pointer xa),(.pointer xb),(.pointer xc)])] h K:=
 Wa4 Tryz.func114 (by kernel_rfl) (Eq.mp (by kernel_rfl) H)
abbrev g166 (K:Value→Wa1→Prop) (h H1:Wa1):Prop:=
 (lP H1 (Addr.add ⟨h.size,0,none⟩ 2) λa=>nP a λb=>lI .i64 H1 (Addr.add b 1) λb=>ifB (b == 0) (dl3 H1 h.size λc d e=>cf 242 #[.agg #[c,d,e]] H1 λc c=>K (.tuple #[]) c) (ifB (b == 1) (ldH H1 ⟨h.size,0,none⟩ λc=>Wb1 c λd=>lP H1 ⟨h.size,0,none⟩ λe=>ldH H1 (Addr.add ⟨h.size,0,none⟩ 1) λf=>Wb1 f λg=>nP g λg=>ldH H1 g λi=>asInt .i64 i λj=>da3 H1 ⟨h.size,0,none⟩ λk l m=>nP a λn=>bd 2 10 (ldH H1 (Addr.add n 4) λo=>asInt .u64 o λp=>cf 79 #[.pointer e] H1 λe q=>asAgg e λe=>We0 e 15 (Wn6 e λe r s t u v w x y z A B C D E=>((Wa2 q (Addr.add n 4))=(some o))∧(ce q h.size 0 k (((Wa2 q (Addr.add ⟨h.size,0,none⟩ 1))=(some l))∧(((Wa2 q (Addr.add ⟨h.size,0,none⟩ 2))=(some m))∧(((Wa2 q g)=(some i))∧(((Wa2 q (Addr.add ⟨h.size,0,none⟩ 1))=(some f))∧(ce q h.size 0 c (cf 243 #[.agg #[k,l,m]] q λk l=>asInt .i64 k λk=>((Wa2 l (Addr.add n 4))=(some o))∧(((Wa2 l g)=(some i))∧(((Wa2 l (Addr.add ⟨h.size,0,none⟩ 1))=(some f))∧(ce l h.size 0 c (cf 232 #[.agg #[e,r,s,t,u,v,w,x,y,z,A,B,C,D,E],.int .i64 j,.int .i64 (IntKind.wrap .i64 (2*k))] l λe f=>asInt .i64 e λe=>((Wa2 f (Addr.add n 4))=(some o))∧(ce f h.size 0 c (cf 212 #[.pointer d,.int .i64 e,.int .u64 p] f λc c=>nP a λd=>stH c (Addr.add d 1) (.int .i64 2) λc=>K (.tuple #[]) c)))))))))))))))) (ifB (b == 2) (dl3 H1 h.size λc d e=>ldH H1 ⟨h.size,0,none⟩ λf=>Wb1 f λg=>da3 H1 ⟨h.size,0,none⟩ λi j k=>nP a λl=>bd 2 10 (lI .u64 H1 (Addr.add l 4) λl=>cf 245 #[.agg #[i,j,k],.int .u64 l] H1 λi j=>asInt .i64 i λi=>ce j h.size 0 f (dc3 j h.size c d e (cf 147 #[.pointer g,.int .i64 i] j λf g=>asInt .u64 f λf=>ce g h.size 0 c (ce g h.size 1 d (ce g h.size 2 e (cf 244 #[.agg #[c,d,e],.int .u64 f] g λc c=>K (.tuple #[]) c))))))) (ifB (b == 8) (ldH H1 ⟨h.size,0,none⟩ λb=>Wb1 b λc=>lP H1 ⟨h.size,0,none⟩ λd=>nP a λe=>bd 2 10 (ldH H1 (Addr.add e 4) λf=>asInt .u64 f λg=>cf 79 #[.pointer d] H1 λd i=>asAgg d λd=>We0 d 15 (Wn6 d λd j k l m n o p q r s t u v w=>((Wa2 i (Addr.add e 4))=(some f))∧(ce i h.size 0 b (cf 143 #[.agg #[d,j,k,l,m,n,o,p,q,r,s,t,u,v,w],.int .i64 (IntKind.wrap .i64 g),.int .i64 4] i λd e=>asInt .i64 d λd=>ce e h.size 0 b (cf 147 #[.pointer c,.int .i64 d] e λb c=>asInt .u64 b λb=>nP a λa=>stH c (Addr.add a 1) (.int .i64 0) λa=>K (.tuple #[]) a)))))) (dl3 H1 h.size λa b c=>cf 246 #[.agg #[a,b,c]] H1 λa a=>K (.tuple #[]) a)))))
def F166 (K:Value→Wa1→Prop) (h:Wa1) (xa xb xc:Option Addr):Prop:=
 (g166 K h (Array.push h (.cells #[.pointer xa,.pointer xb,.pointer xc] 250)))
theorem call166 {K:Value→Wa1→Prop} {h:Wa1} {xa xb xc:Option Addr} (H:F166 K h xa xb xc):Wa5 Tryz.prog 166 #[(.agg #[(.pointer xa),(.pointer xb),(.pointer xc)])] h K:=
 Wa4 Tryz.func166 (by kernel_rfl) (Eq.mp (by kernel_rfl) H)
abbrev g167 (K:Value→Wa1→Prop) (h H1:Wa1):Prop:=
 (lP H1 (Addr.add ⟨h.size,0,none⟩ 2) λa=>nP a λb=>lI .i64 H1 (Addr.add b 1) λb=>ifB (b == 0) (da3 H1 ⟨h.size,0,none⟩ λc d e=>cf 247 #[.agg #[c,d,e],.int .i64 1,.int .i64 1,.slice none 0 0] H1 λc c=>K (.tuple #[]) c) (ifB (b == 1) (lP H1 (Addr.add ⟨h.size,0,none⟩ 1) λc=>nP c λc=>bd 0 3 (lI .u64 H1 (Addr.add c 2) λc=>nP a λd=>bd 2 10 (stH H1 (Addr.add d 4) (.int .u64 c) λc=>nP a λd=>bd 2 10 (lI .u64 c (Addr.add d 4) λd=>ifB (d != 0) (nP a λd=>stH c (Addr.add d 1) (.int .i64 2) λd=>K (.tuple #[]) d) (exI λI22=>(nP a λd=>bd 5 10 (lI .u64 c (Addr.add d 7) λd=>ifB (d == 0) (lP c (Addr.add ⟨h.size,0,none⟩ 1) λd=>nP d λd=>cf 211 #[.pointer (some (Addr.add d 8))] c λd e=>asInt .i64 d λd=>I22 [.bool (decide (d > 0)),.bool (decide (d > 0))] e) (I22 [.bool false,.bool false] c)))∧(∀(c d:Value) (e:Env) (e:Wa1),(I22 [c,d] e)→(asBool c λc=>ifB c (nP a λc=>bd 5 10 (stH e (Addr.add c 7) (.int .u64 1) λc=>da3 c ⟨h.size,0,none⟩ λd f g=>cf 247 #[.agg #[d,f,g],.int .i64 0,.int .i64 6,.slice none 0 0] c λc c=>K (.tuple #[]) c)) (da3 e ⟨h.size,0,none⟩ λc d f=>cf 248 #[.agg #[c,d,f],.int .u64 1,.int .u64 0,.int .u64 0] e λc c=>K (.tuple #[]) c)))))))) (ifB (b == 2) (nP a λb=>bd 0 10 (ldH H1 (Addr.add b 2) λc=>asInt .u64 c λd=>lP H1 ⟨h.size,0,none⟩ λe=>nP a λf=>cf 188 #[.pointer e,.int .i64 3,.int .u64 1] H1 λe g=>asInt .u64 e λe=>((Wa2 g (Addr.add b 2))=(some c))∧(cf 249 #[.int .u32 (IntKind.wrap .u32 d),.int .u32 (IntKind.wrap .u32 e)] g λb c=>asInt .u64 b λb=>bd 4 10 (stH c (Addr.add f 6) (.int .u64 b) λb=>lP b ⟨h.size,0,none⟩ λc=>ldH b ⟨h.size,0,none⟩ λd=>Wb1 d λe=>nP a λf=>cf 214 #[.pointer c] b λb c=>Wb1 b λb=>ce c h.size 0 d (cf 79 #[.pointer e] c λc d=>asAgg c λc=>We0 c 15 (Wn6 c λc e g i j k l m n o p q r s t=>cf 139 #[.agg #[c,e,g,i,j,k,l,m,n,o,p,q,r,s,t]] d λc d=>asAgg c λc=>We0 c 7 (de7 c λc c c c e e e=>asInt .i64 c λc=>cf 250 #[.pointer b,.int .i64 c] d λb c=>asInt .i64 b λb=>bd 3 10 (stH c (Addr.add f 5) (.int .u64 (IntKind.wrap .u64 b)) λb=>nP a λa=>stH b (Addr.add a 1) (.int .i64 3) λa=>K (.tuple #[]) a)))))))) (K (.tuple #[]) H1))))
def F167 (K:Value→Wa1→Prop) (h:Wa1) (xa xb xc:Option Addr):Prop:=
 (g167 K h (Array.push h (.cells #[.pointer xa,.pointer xb,.pointer xc] 199)))
theorem call167 {K:Value→Wa1→Prop} {h:Wa1} {xa xb xc:Option Addr} (H:F167 K h xa xb xc):Wa5 Tryz.prog 167 #[(.agg #[(.pointer xa),(.pointer xb),(.pointer xc)])] h K:=
 Wa4 Tryz.func167 (by kernel_rfl) (Eq.mp (by kernel_rfl) H)
abbrev g168 (K:Value→Wa1→Prop) (h H1:Wa1):Prop:=
 (lP H1 (Addr.add ⟨h.size,0,none⟩ 2) λa=>nP a λb=>bd 2 10 (lI .u64 H1 (Addr.add b 4) λb=>exI λI5=>(nP a λc=>lI .i64 H1 (Addr.add c 1) λc=>ifB (c == 3) (ldH H1 ⟨h.size,0,none⟩ λd=>Wb1 d λe=>da3 H1 ⟨h.size,0,none⟩ λf g i=>nP a λj=>bd 4 10 (ldH H1 (Addr.add j 6) λk=>asInt .u64 k λl=>cf 251 #[.agg #[f,g,i],.int .u64 b,.int .i64 0] H1 λf g=>asInt .i64 f λf=>((Wa2 g (Addr.add j 6))=(some k))∧(ce g h.size 0 d (cf 212 #[.pointer e,.int .i64 f,.int .u64 l] g λd d=>I5 [.bool true,.tuple #[],.tuple #[],.tuple #[],.tuple #[]] d)))) (ifB (c == 4) (ldH H1 ⟨h.size,0,none⟩ λd=>Wb1 d λe=>da3 H1 ⟨h.size,0,none⟩ λf g i=>nP a λj=>bd 1 10 (ldH H1 (Addr.add j 3) λk=>asInt .u64 k λl=>cf 251 #[.agg #[f,g,i],.int .u64 b,.int .i64 1] H1 λf g=>asInt .i64 f λf=>((Wa2 g (Addr.add j 3))=(some k))∧(ce g h.size 0 d (cf 252 #[.int .u32 (IntKind.wrap .u32 l),.bool false] g λg i=>asInt .u64 g λg=>ce i h.size 0 d (cf 212 #[.pointer e,.int .i64 f,.int .u64 g] i λd d=>I5 [.bool false,.bool true,.tuple #[],.tuple #[],.tuple #[]] d))))) (ifB (c == 5) (ldH H1 ⟨h.size,0,none⟩ λd=>Wb1 d λe=>da3 H1 ⟨h.size,0,none⟩ λf g i=>cf 251 #[.agg #[f,g,i],.int .u64 b,.int .i64 2] H1 λf g=>asInt .i64 f λf=>ce g h.size 0 d (cf 212 #[.pointer e,.int .i64 f,.int .u64 2] g λd d=>I5 [.bool false,.bool false,.bool true,.tuple #[],.tuple #[]] d)) (ifB (c == 6) (ldH H1 ⟨h.size,0,none⟩ λd=>Wb1 d λe=>da3 H1 ⟨h.size,0,none⟩ λf g i=>nP a λj=>bd 3 10 (ldH H1 (Addr.add j 5) λk=>asInt .u64 k λl=>cf 251 #[.agg #[f,g,i],.int .u64 b,.int .i64 3] H1 λf g=>asInt .i64 f λf=>((Wa2 g (Addr.add j 5))=(some k))∧(ce g h.size 0 d (cf 212 #[.pointer e,.int .i64 f,.int .u64 l] g λd d=>I5 [.bool false,.bool false,.bool false,.bool true,.tuple #[]] d)))) (ifB (c == 7) (ldH H1 ⟨h.size,0,none⟩ λc=>Wb1 c λd=>da3 H1 ⟨h.size,0,none⟩ λe f g=>cf 251 #[.agg #[e,f,g],.int .u64 b,.int .i64 4] H1 λb e=>asInt .i64 b λb=>ce e h.size 0 c (cf 212 #[.pointer d,.int .i64 b,.int .u64 0] e λb b=>I5 [.bool false,.bool false,.bool false,.bool false,.bool true] b)) (I5 [.bool false,.bool false,.bool false,.bool false,.bool false] H1))))))∧(∀(b c d e f:Value) (g:Env) (g:Wa1),(I5 [b,c,d,e,f] g)→(nP a λb=>lI .i64 g (Addr.add b 1) λb=>nP a λa=>stH g (Addr.add a 1) (.int .i64 (IntKind.wrap .i64 (b+1))) λa=>K (.tuple #[]) a))))
def F168 (K:Value→Wa1→Prop) (h:Wa1) (xa xb xc:Option Addr):Prop:=
 (g168 K h (Array.push h (.cells #[.pointer xa,.pointer xb,.pointer xc] 199)))
theorem call168 {K:Value→Wa1→Prop} {h:Wa1} {xa xb xc:Option Addr} (H:F168 K h xa xb xc):Wa5 Tryz.prog 168 #[(.agg #[(.pointer xa),(.pointer xb),(.pointer xc)])] h K:=
 Wa4 Tryz.func168 (by kernel_rfl) (Eq.mp (by kernel_rfl) H)
abbrev g169 (K:Value→Wa1→Prop) (h H1:Wa1):Prop:=
 (lP H1 (Addr.add ⟨h.size,0,none⟩ 2) λa=>nP a λb=>bd 2 10 (lI .u64 H1 (Addr.add b 4) λb=>nP a λc=>bd 5 10 (lI .u64 H1 (Addr.add c 7) λc=>nP a λd=>lI .i64 H1 (Addr.add d 1) λd=>ifB (d == 8) (nP a λe=>bd 5 10 (stH H1 (Addr.add e 7) (.int .u64 0) λe=>da3 e ⟨h.size,0,none⟩ λf g i=>nP a λj=>bd 4 10 (lI .u64 e (Addr.add j 6) λj=>((Wa2 (Array.push e (.cells #[.int .u64 j] 178)) ⟨h.size,0,none⟩)=(some f))∧(((Wa2 (Array.push e (.cells #[.int .u64 j] 178)) (Addr.add ⟨h.size,0,none⟩ 1))=(some g))∧(((Wa2 (Array.push e (.cells #[.int .u64 j] 178)) (Addr.add ⟨h.size,0,none⟩ 2))=(some i))∧(cf 247 #[.agg #[f,g,i],.int .i64 9,.int .i64 20,.slice (some ⟨e.size,0,none⟩) 1 1] (Array.push e (.cells #[.int .u64 j] 178)) λe e=>K (.tuple #[]) e)))))) (ifB (d == 9) (ldH H1 ⟨h.size,0,none⟩ λe=>Wb1 e λf=>da3 H1 ⟨h.size,0,none⟩ λg i j=>nP a λk=>cf 253 #[.agg #[g,i,j],.int .u64 b,.int .u64 c] H1 λg i=>asInt .i64 g λg=>ce i h.size 0 e (cf 147 #[.pointer f,.int .i64 g] i λe f=>asInt .u64 e λe=>bd 6 10 (stH f (Addr.add k 8) (.int .u64 e) λe=>nP a λf=>stH e (Addr.add f 1) (.int .i64 10) λe=>K (.tuple #[]) e))) (ifB (d == 10) (ldH H1 ⟨h.size,0,none⟩ λe=>Wb1 e λf=>da3 H1 ⟨h.size,0,none⟩ λg i j=>nP a λk=>bd 6 10 (ldH H1 (Addr.add k 8) λl=>asInt .u64 l λm=>ldH H1 (Addr.add ⟨h.size,0,none⟩ 1) λn=>Wb1 n λo=>nP o λo=>ldH H1 (Addr.add o 6) λp=>Wb5 p λq r s=>bd c (r:Int) (Wd2 (.pointer q) λq=>ldH H1 (Addr.add q (c.toNat*1)) λr=>asInt .u64 r λs=>cf 253 #[.agg #[g,i,j],.int .u64 b,.int .u64 c] H1 λg i=>asInt .i64 g λg=>((Wa2 i (Addr.add q (c.toNat*1)))=(some r))∧(((Wa2 i (Addr.add o 6))=(some p))∧(((Wa2 i (Addr.add ⟨h.size,0,none⟩ 1))=(some n))∧(((Wa2 i (Addr.add k 8))=(some l))∧(ce i h.size 0 e (cf 228 #[.int .u64 m,.int .i64 (IntKind.wrap .i64 s),.bool false] i λc i=>asInt .u64 c λc=>ce i h.size 0 e (cf 212 #[.pointer f,.int .i64 g,.int .u64 c] i λc c=>nP a λe=>bd 5 10 (lI .u64 c (Addr.add e 7) λe=>nP a λf=>bd 5 10 (stH c (Addr.add f 7) (.int .u64 (IntKind.wrap .u64 (e+1))) λc=>nP a λe=>stH c (Addr.add e 1) (.int .i64 9) λc=>nP a λe=>bd 5 10 (lI .u64 c (Addr.add e 7) λe=>nP a λf=>bd 3 10 (lI .u64 c (Addr.add f 5) λf=>ifB (decide (e ≥ f)) (nP a λe=>stH c (Addr.add e 1) (.int .i64 11) λe=>K (.tuple #[]) e) (K (.tuple #[]) c)))))))))))))) (ifB (d == 11) (nP a λc=>bd 5 10 (stH H1 (Addr.add c 7) (.int .u64 1) λc=>nP a λd=>stH c (Addr.add d 1) (.int .i64 8) λc=>da3 c ⟨h.size,0,none⟩ λd e f=>da3 c ⟨h.size,0,none⟩ λg i j=>lP c (Addr.add ⟨h.size,0,none⟩ 1) λk=>nP k λk=>lS c (Addr.add k 5) λk l m=>bd 0 (l:Int) (Wd2 (.pointer k) λk=>lI .u64 c k λk=>ldH c (Addr.add ⟨h.size,0,none⟩ 1) λl=>Wb1 l λm=>nP m λm=>ldH c (Addr.add m 7) λn=>Wb5 n λo p q=>bd 0 (p:Int) (Wd2 (.pointer o) λo=>ldH c o λp=>asInt .u64 p λq=>cf 253 #[.agg #[g,i,j],.int .u64 k,.int .u64 0] c λc g=>asInt .i64 c λc=>((Wa2 g o)=(some p))∧(((Wa2 g (Addr.add m 7))=(some n))∧(((Wa2 g (Addr.add ⟨h.size,0,none⟩ 1))=(some l))∧(ce g h.size 0 d (((Wa2 g (Addr.add ⟨h.size,0,none⟩ 1))=(some e))∧(((Wa2 g (Addr.add ⟨h.size,0,none⟩ 2))=(some f))∧(cf 254 #[.agg #[d,e,f],.int .i64 c,.int .u64 q,.int .u64 b] g λb c=>asBool b λb=>ifB b (nP a λa=>stH c (Addr.add a 1) (.int .i64 12) λa=>K (.tuple #[]) a) (K (.tuple #[]) c))))))))))) (K (.tuple #[]) H1)))))))
def F169 (K:Value→Wa1→Prop) (h:Wa1) (xa xb xc:Option Addr):Prop:=
 (g169 K h (Array.push h (.cells #[.pointer xa,.pointer xb,.pointer xc] 199)))
theorem call169 {K:Value→Wa1→Prop} {h:Wa1} {xa xb xc:Option Addr} (H:F169 K h xa xb xc):Wa5 Tryz.prog 169 #[(.agg #[(.pointer xa),(.pointer xb),(.pointer xc)])] h K:=
 Wa4 Tryz.func169 (by kernel_rfl) (Eq.mp (by kernel_rfl) H)
abbrev g170 (K:Value→Wa1→Prop) (h H1:Wa1):Prop:=
 (lP H1 (Addr.add ⟨h.size,0,none⟩ 2) λa=>nP a λb=>bd 2 10 (lI .u64 H1 (Addr.add b 4) λb=>nP a λc=>bd 5 10 (lI .u64 H1 (Addr.add c 7) λc=>nP a λd=>lI .i64 H1 (Addr.add d 1) λd=>ifB (d == 12) (nP a λe=>bd 3 10 (lI .u64 H1 (Addr.add e 5) λe=>ifB (decide (c ≥ e)) (nP a λe=>stH H1 (Addr.add e 1) (.int .i64 15) λe=>K (.tuple #[]) e) (ldH H1 ⟨h.size,0,none⟩ λe=>Wb1 e λf=>da3 H1 ⟨h.size,0,none⟩ λg i j=>nP a λk=>cf 253 #[.agg #[g,i,j],.int .u64 b,.int .u64 c] H1 λg i=>asInt .i64 g λg=>ce i h.size 0 e (cf 147 #[.pointer f,.int .i64 g] i λe f=>asInt .u64 e λe=>bd 6 10 (stH f (Addr.add k 8) (.int .u64 e) λe=>nP a λf=>bd 6 10 (lI .u64 e (Addr.add f 8) λf=>cf 255 #[.int .u64 f] e λe f=>asBool e λe=>ifB e (nP a λe=>stH f (Addr.add e 1) (.int .i64 15) λe=>K (.tuple #[]) e) (nP a λe=>bd 6 10 (lI .u64 f (Addr.add e 8) λe=>ldH f (Addr.add ⟨h.size,0,none⟩ 1) λg=>Wb1 g λi=>nP i λi=>ldH f (Addr.add i 6) λj=>Wb5 j λk l m=>bd c (l:Int) (Wd2 (.pointer k) λk=>ldH f (Addr.add k (c.toNat*1)) λl=>asInt .u64 l λm=>cf 256 #[.int .u64 e] f λe f=>asInt .u64 e λe=>((Wa2 f (Addr.add k (c.toNat*1)))=(some l))∧(((Wa2 f (Addr.add i 6))=(some j))∧(((Wa2 f (Addr.add ⟨h.size,0,none⟩ 1))=(some g))∧(ifB (e != m) (nP a λe=>stH f (Addr.add e 1) (.int .i64 13) λe=>K (.tuple #[]) e) (nP a λe=>stH f (Addr.add e 1) (.int .i64 14) λe=>K (.tuple #[]) e))))))))))))) (ifB (d == 13) (da3 H1 ⟨h.size,0,none⟩ λe f g=>da3 H1 ⟨h.size,0,none⟩ λi j k=>nP a λl=>bd 6 10 (ldH H1 (Addr.add l 8) λm=>asInt .u64 m λn=>ldH H1 (Addr.add ⟨h.size,0,none⟩ 1) λo=>Wb1 o λp=>nP p λp=>ldH H1 (Addr.add p 6) λq=>Wb5 q λr s t=>bd c (s:Int) (Wd2 (.pointer r) λr=>ldH H1 (Addr.add r (c.toNat*1)) λs=>asInt .u64 s λt=>cf 253 #[.agg #[i,j,k],.int .u64 b,.int .u64 c] H1 λi j=>asInt .i64 i λi=>((Wa2 j (Addr.add r (c.toNat*1)))=(some s))∧(((Wa2 j (Addr.add p 6))=(some q))∧(((Wa2 j (Addr.add ⟨h.size,0,none⟩ 1))=(some o))∧(((Wa2 j (Addr.add l 8))=(some m))∧(ce j h.size 0 e (((Wa2 j (Addr.add ⟨h.size,0,none⟩ 1))=(some f))∧(((Wa2 j (Addr.add ⟨h.size,0,none⟩ 2))=(some g))∧(cf 254 #[.agg #[e,f,g],.int .i64 i,.int .u64 n,.int .u64 t] j λe f=>asBool e λe=>nP a λe=>stH f (Addr.add e 1) (.int .i64 12) λe=>K (.tuple #[]) e)))))))))) (ifB (d == 14) (da3 H1 ⟨h.size,0,none⟩ λd e f=>da3 H1 ⟨h.size,0,none⟩ λg i j=>lP H1 (Addr.add ⟨h.size,0,none⟩ 1) λk=>nP k λk=>lS H1 (Addr.add k 5) λk l m=>bd c (l:Int) (Wd2 (.pointer k) λk=>lI .u64 H1 (Addr.add k (c.toNat*1)) λk=>ldH H1 (Addr.add ⟨h.size,0,none⟩ 1) λl=>Wb1 l λm=>nP m λm=>ldH H1 (Addr.add m 7) λn=>Wb5 n λo p q=>bd c (p:Int) (Wd2 (.pointer o) λo=>ldH H1 (Addr.add o (c.toNat*1)) λp=>asInt .u64 p λq=>cf 253 #[.agg #[g,i,j],.int .u64 k,.int .u64 c] H1 λg i=>asInt .i64 g λg=>((Wa2 i (Addr.add o (c.toNat*1)))=(some p))∧(((Wa2 i (Addr.add m 7))=(some n))∧(((Wa2 i (Addr.add ⟨h.size,0,none⟩ 1))=(some l))∧(ce i h.size 0 d (((Wa2 i (Addr.add ⟨h.size,0,none⟩ 1))=(some e))∧(((Wa2 i (Addr.add ⟨h.size,0,none⟩ 2))=(some f))∧(cf 254 #[.agg #[d,e,f],.int .i64 g,.int .u64 q,.int .u64 b] i λb c=>asBool b λb=>ifB b (nP a λb=>bd 5 10 (lI .u64 c (Addr.add b 7) λb=>nP a λd=>bd 5 10 (stH c (Addr.add d 7) (.int .u64 (IntKind.wrap .u64 (b+1))) λb=>nP a λd=>stH b (Addr.add d 1) (.int .i64 12) λb=>K (.tuple #[]) b))) (da3 c ⟨h.size,0,none⟩ λb d e=>nP a λa=>bd 4 10 (lI .u64 c (Addr.add a 6) λa=>((Wa2 (Array.push c (.cells #[.int .u64 a] 178)) ⟨h.size,0,none⟩)=(some b))∧(((Wa2 (Array.push c (.cells #[.int .u64 a] 178)) (Addr.add ⟨h.size,0,none⟩ 1))=(some d))∧(((Wa2 (Array.push c (.cells #[.int .u64 a] 178)) (Addr.add ⟨h.size,0,none⟩ 2))=(some e))∧(cf 247 #[.agg #[b,d,e],.int .i64 12,.int .i64 20,.slice (some ⟨c.size,0,none⟩) 1 1] (Array.push c (.cells #[.int .u64 a] 178)) λa a=>K (.tuple #[]) a)))))))))))))) (K (.tuple #[]) H1))))))
def F170 (K:Value→Wa1→Prop) (h:Wa1) (xa xb xc:Option Addr):Prop:=
 (g170 K h (Array.push h (.cells #[.pointer xa,.pointer xb,.pointer xc] 199)))
theorem call170 {K:Value→Wa1→Prop} {h:Wa1} {xa xb xc:Option Addr} (H:F170 K h xa xb xc):Wa5 Tryz.prog 170 #[(.agg #[(.pointer xa),(.pointer xb),(.pointer xc)])] h K:=
 Wa4 Tryz.func170 (by kernel_rfl) (Eq.mp (by kernel_rfl) H)
abbrev g171 (K:Value→Wa1→Prop) (h H1:Wa1):Prop:=
 (lP H1 (Addr.add ⟨h.size,0,none⟩ 2) λa=>nP a λb=>lI .i64 H1 (Addr.add b 1) λb=>ifB (b == 15) (da3 H1 ⟨h.size,0,none⟩ λc d e=>nP a λf=>bd 2 10 (lI .u64 H1 (Addr.add f 4) λf=>cf 257 #[.agg #[c,d,e],.int .u64 f] H1 λc d=>asBool c λc=>ifB c (da3 d ⟨h.size,0,none⟩ λc e f=>nP a λg=>bd 4 10 (lI .u64 d (Addr.add g 6) λg=>((Wa2 (Array.push d (.cells #[.int .u64 g] 178)) ⟨h.size,0,none⟩)=(some c))∧(((Wa2 (Array.push d (.cells #[.int .u64 g] 178)) (Addr.add ⟨h.size,0,none⟩ 1))=(some e))∧(((Wa2 (Array.push d (.cells #[.int .u64 g] 178)) (Addr.add ⟨h.size,0,none⟩ 2))=(some f))∧(cf 247 #[.agg #[c,e,f],.int .i64 17,.int .i64 20,.slice (some ⟨d.size,0,none⟩) 1 1] (Array.push d (.cells #[.int .u64 g] 178)) λc c=>K (.tuple #[]) c))))) (nP a λc=>stH d (Addr.add c 1) (.int .i64 16) λc=>K (.tuple #[]) c))) (ifB (b == 17) (da3 H1 ⟨h.size,0,none⟩ λb c d=>nP a λa=>bd 2 10 (lI .u64 H1 (Addr.add a 4) λa=>((Wa2 (Array.push H1 (.cells #[.int .u64 a] 178)) ⟨h.size,0,none⟩)=(some b))∧(((Wa2 (Array.push H1 (.cells #[.int .u64 a] 178)) (Addr.add ⟨h.size,0,none⟩ 1))=(some c))∧(((Wa2 (Array.push H1 (.cells #[.int .u64 a] 178)) (Addr.add ⟨h.size,0,none⟩ 2))=(some d))∧(cf 247 #[.agg #[b,c,d],.int .i64 16,.int .i64 5,.slice (some ⟨H1.size,0,none⟩) 1 1] (Array.push H1 (.cells #[.int .u64 a] 178)) λa a=>K (.tuple #[]) a))))) (da3 H1 ⟨h.size,0,none⟩ λa b c=>cf 248 #[.agg #[a,b,c],.int .u64 0,.int .u64 0,.int .u64 0] H1 λa a=>K (.tuple #[]) a)))
def F171 (K:Value→Wa1→Prop) (h:Wa1) (xa xb xc:Option Addr):Prop:=
 (g171 K h (Array.push h (.cells #[.pointer xa,.pointer xb,.pointer xc] 199)))
theorem call171 {K:Value→Wa1→Prop} {h:Wa1} {xa xb xc:Option Addr} (H:F171 K h xa xb xc):Wa5 Tryz.prog 171 #[(.agg #[(.pointer xa),(.pointer xb),(.pointer xc)])] h K:=
 Wa4 Tryz.func171 (by kernel_rfl) (Eq.mp (by kernel_rfl) H)
abbrev q172_1 (h37:Wa1) (n35 n38:Int):Wa1:=(Array.push h37 (.cells #[(.int .u64 (IntKind.wrap .u64 (IntKind.wrap .i64 (n35 - 2)))),(.int .u64 (IntKind.wrap .u64 n38))] 178))
abbrev g172 (K:Value→Wa1→Prop) (h H1:Wa1):Prop:=
 (lP H1 (Addr.add ⟨h.size,0,none⟩ 2) λa=>nP a λb=>lI .i64 H1 (Addr.add b 1) λb=>ifB (b == 0) (nP a λc=>bd 6 10 (stH H1 (Addr.add c 8) (.int .u64 0) λc=>da3 c ⟨h.size,0,none⟩ λd e f=>lP c ⟨h.size,0,none⟩ λg=>da3 c ⟨h.size,0,none⟩ λi j k=>cf 79 #[.pointer g] c λc g=>asAgg c λc=>We0 c 15 (Wn6 c λc l m n o p q r s t u v w x y=>ce g h.size 0 i (((Wa2 g (Addr.add ⟨h.size,0,none⟩ 1))=(some j))∧(((Wa2 g (Addr.add ⟨h.size,0,none⟩ 2))=(some k))∧(ce g h.size 0 d (((Wa2 g (Addr.add ⟨h.size,0,none⟩ 1))=(some e))∧(((Wa2 g (Addr.add ⟨h.size,0,none⟩ 2))=(some f))∧(cf 233 #[.agg #[c,l,m,n,o,p,q,r,s,t,u,v,w,x,y]] g λc g=>asInt .i64 c λc=>ce g h.size 0 i (((Wa2 g (Addr.add ⟨h.size,0,none⟩ 1))=(some j))∧(((Wa2 g (Addr.add ⟨h.size,0,none⟩ 2))=(some k))∧(ce g h.size 0 d (((Wa2 g (Addr.add ⟨h.size,0,none⟩ 1))=(some e))∧(((Wa2 g (Addr.add ⟨h.size,0,none⟩ 2))=(some f))∧(cf 253 #[.agg #[i,j,k],.int .u64 1,.int .u64 0] g λg i=>asInt .i64 g λg=>ce i h.size 0 d (((Wa2 i (Addr.add ⟨h.size,0,none⟩ 1))=(some e))∧(((Wa2 i (Addr.add ⟨h.size,0,none⟩ 2))=(some f))∧(ce (q172_1 i c g) h.size 0 d (((Wa2 (q172_1 i c g) (Addr.add ⟨h.size,0,none⟩ 1))=(some e))∧(((Wa2 (q172_1 i c g) (Addr.add ⟨h.size,0,none⟩ 2))=(some f))∧(cf 247 #[.agg #[d,e,f],.int .i64 1,.int .i64 3,.slice (some ⟨i.size,0,none⟩) 2 2] (q172_1 i c g) λc c=>K (.tuple #[]) c))))))))))))))))))))) (ifB (b == 1) (ldH H1 (Addr.add ⟨h.size,0,none⟩ 1) λc=>Wb1 c λd=>nP d λd=>bd 0 3 (ldH H1 (Addr.add d 2) λe=>asInt .u64 e λf=>lP H1 (Addr.add ⟨h.size,0,none⟩ 1) λg=>nP g λg=>bd 0 3 (lI .u64 H1 (Addr.add g 2) λg=>nP a λi=>nP a λj=>cf 256 #[.int .u64 g] H1 λg k=>asInt .u64 g λg=>((Wa2 k (Addr.add d 2))=(some e))∧(((Wa2 k (Addr.add ⟨h.size,0,none⟩ 1))=(some c))∧(bd 0 10 (stH k (Addr.add i 2) (.int .u64 f) λc=>bd 1 10 (stH c (Addr.add j 3) (.int .u64 g) λc=>nP a λd=>stH c (Addr.add d 1) (.int .i64 2) λc=>nP a λd=>bd 1 10 (lI .u64 c (Addr.add d 3) λd=>ifB (d == 2) (da3 c ⟨h.size,0,none⟩ λd e f=>cf 248 #[.agg #[d,e,f],.int .u64 3,.int .u64 0,.int .u64 0] c λd d=>K (.tuple #[]) d) (K (.tuple #[]) c))))))))) (ifB (b == 2) (ldH H1 ⟨h.size,0,none⟩ λc=>Wb1 c λd=>da3 H1 ⟨h.size,0,none⟩ λe f g=>nP a λi=>bd 1 10 (lI .u64 H1 (Addr.add i 3) λi=>nP a λj=>cf 251 #[.agg #[e,f,g],.int .u64 i,.int .i64 1] H1 λe f=>asInt .i64 e λe=>ce f h.size 0 c (cf 147 #[.pointer d,.int .i64 e] f λc d=>asInt .u64 c λc=>bd 3 10 (stH d (Addr.add j 5) (.int .u64 c) λc=>nP a λd=>stH c (Addr.add d 1) (.int .i64 3) λc=>nP a λd=>bd 3 10 (lI .u64 c (Addr.add d 5) λd=>cf 258 #[.int .u64 d] c λc d=>asBool c λc=>ifB c (nP a λc=>stH d (Addr.add c 1) (.int .i64 6) λc=>K (.tuple #[]) c) (K (.tuple #[]) d)))))) (ifB (b == 3) (ldH H1 ⟨h.size,0,none⟩ λb=>Wb1 b λc=>da3 H1 ⟨h.size,0,none⟩ λd e f=>nP a λg=>bd 1 10 (lI .u64 H1 (Addr.add g 3) λg=>nP a λi=>cf 251 #[.agg #[d,e,f],.int .u64 g,.int .i64 0] H1 λd e=>asInt .i64 d λd=>ce e h.size 0 b (cf 147 #[.pointer c,.int .i64 d] e λb c=>asInt .u64 b λb=>bd 2 10 (stH c (Addr.add i 4) (.int .u64 b) λb=>nP a λc=>stH b (Addr.add c 1) (.int .i64 4) λb=>nP a λa=>lI .i64 b a λa=>ifB (a == 23) (dl3 b h.size λa c d=>cf 259 #[.agg #[a,c,d]] b λa a=>K (.tuple #[]) a) (K (.tuple #[]) b))))) (K (.tuple #[]) H1)))))
def F172 (K:Value→Wa1→Prop) (h:Wa1) (xa xb xc:Option Addr):Prop:=
 (g172 K h (Array.push h (.cells #[.pointer xa,.pointer xb,.pointer xc] 200)))
theorem call172 {K:Value→Wa1→Prop} {h:Wa1} {xa xb xc:Option Addr} (H:F172 K h xa xb xc):Wa5 Tryz.prog 172 #[(.agg #[(.pointer xa),(.pointer xb),(.pointer xc)])] h K:=
 Wa4 Tryz.func172 (by kernel_rfl) (Eq.mp (by kernel_rfl) H)
abbrev g173 (K:Value→Wa1→Prop) (h H1:Wa1):Prop:=
 (lP H1 (Addr.add ⟨h.size,0,none⟩ 2) λa=>nP a λb=>lI .i64 H1 (Addr.add b 1) λb=>ifB (b == 4) (nP a λc=>stH H1 (Addr.add c 1) (.int .i64 0) λc=>ldH c ⟨h.size,0,none⟩ λd=>Wb1 d λe=>da3 c ⟨h.size,0,none⟩ λf g i=>nP a λj=>bd 1 10 (lI .u64 c (Addr.add j 3) λj=>nP a λk=>bd 3 10 (ldH c (Addr.add k 5) λl=>asInt .u64 l λm=>nP a λn=>bd 3 10 (ldH c (Addr.add n 5) λo=>asInt .u64 o λp=>cf 251 #[.agg #[f,g,i],.int .u64 j,.int .i64 1] c λc f=>asInt .i64 c λc=>((Wa2 f (Addr.add n 5))=(some o))∧(((Wa2 f (Addr.add k 5))=(some l))∧(ce f h.size 0 d (cf 260 #[.int .u64 p] f λf g=>asInt .u64 f λf=>((Wa2 g (Addr.add k 5))=(some l))∧(ce g h.size 0 d (cf 219 #[.pointer e,.int .i64 c,.int .u64 m,.int .u64 f] g λc d=>asBool c λc=>ifB c (nP a λc=>bd 6 10 (stH d (Addr.add c 8) (.int .u64 1) λc=>nP a λe=>stH c (Addr.add e 1) (.int .i64 5) λc=>K (.tuple #[]) c)) (K (.tuple #[]) d)))))))))) (ifB (b == 5) (ldH H1 ⟨h.size,0,none⟩ λc=>Wb1 c λd=>da3 H1 ⟨h.size,0,none⟩ λe f g=>nP a λi=>bd 1 10 (lI .u64 H1 (Addr.add i 3) λi=>cf 251 #[.agg #[e,f,g],.int .u64 i,.int .i64 4] H1 λe f=>asInt .i64 e λe=>ce f h.size 0 c (cf 212 #[.pointer d,.int .i64 e,.int .u64 1] f λc c=>nP a λd=>stH c (Addr.add d 1) (.int .i64 6) λc=>K (.tuple #[]) c))) (ifB (b == 6) (ldH H1 ⟨h.size,0,none⟩ λb=>Wb1 b λc=>da3 H1 ⟨h.size,0,none⟩ λd e f=>nP a λg=>bd 1 10 (lI .u64 H1 (Addr.add g 3) λg=>nP a λi=>cf 251 #[.agg #[d,e,f],.int .u64 g,.int .i64 3] H1 λd e=>asInt .i64 d λd=>ce e h.size 0 b (cf 147 #[.pointer c,.int .i64 d] e λb c=>asInt .u64 b λb=>bd 4 10 (stH c (Addr.add i 6) (.int .u64 b) λb=>nP a λa=>stH b (Addr.add a 1) (.int .i64 7) λa=>K (.tuple #[]) a)))) (K (.tuple #[]) H1))))
def F173 (K:Value→Wa1→Prop) (h:Wa1) (xa xb xc:Option Addr):Prop:=
 (g173 K h (Array.push h (.cells #[.pointer xa,.pointer xb,.pointer xc] 200)))
theorem call173 {K:Value→Wa1→Prop} {h:Wa1} {xa xb xc:Option Addr} (H:F173 K h xa xb xc):Wa5 Tryz.prog 173 #[(.agg #[(.pointer xa),(.pointer xb),(.pointer xc)])] h K:=
 Wa4 Tryz.func173 (by kernel_rfl) (Eq.mp (by kernel_rfl) H)
abbrev g174 (K:Value→Wa1→Prop) (h H1:Wa1):Prop:=
 (lP H1 (Addr.add ⟨h.size,0,none⟩ 2) λa=>nP a λb=>lI .i64 H1 (Addr.add b 1) λb=>ifB (b == 7) (nP a λc=>bd 4 10 (lI .u64 H1 (Addr.add c 6) λc=>ifB (c == 0) (nP a λc=>stH H1 (Addr.add c 1) (.int .i64 9) λc=>nP a λd=>bd 6 10 (lI .u64 c (Addr.add d 8) λd=>ifB (d == 1) (nP a λd=>stH c (Addr.add d 1) (.int .i64 11) λd=>K (.tuple #[]) d) (K (.tuple #[]) c))) (ldH H1 ⟨h.size,0,none⟩ λc=>Wb1 c λd=>da3 H1 ⟨h.size,0,none⟩ λe f g=>nP a λi=>bd 1 10 (lI .u64 H1 (Addr.add i 3) λi=>nP a λj=>bd 4 10 (lI .u64 H1 (Addr.add j 6) λj=>nP a λk=>cf 253 #[.agg #[e,f,g],.int .u64 i,.int .u64 (IntKind.wrap .u64 (j - 1))] H1 λe f=>asInt .i64 e λe=>ce f h.size 0 c (cf 147 #[.pointer d,.int .i64 e] f λc d=>asInt .u64 c λc=>bd 5 10 (stH d (Addr.add k 7) (.int .u64 c) λc=>nP a λd=>stH c (Addr.add d 1) (.int .i64 8) λc=>nP a λd=>bd 5 10 (lI .u64 c (Addr.add d 7) λd=>cf 255 #[.int .u64 d] c λc d=>asBool c λc=>ifB c (nP a λc=>bd 4 10 (lI .u64 d (Addr.add c 6) λc=>nP a λe=>bd 4 10 (stH d (Addr.add e 6) (.int .u64 (IntKind.wrap .u64 (c - 1))) λc=>nP a λe=>stH c (Addr.add e 1) (.int .i64 7) λc=>K (.tuple #[]) c))) (K (.tuple #[]) d))))))))) (ifB (b == 8) (nP a λb=>stH H1 (Addr.add b 1) (.int .i64 7) λb=>ldH b ⟨h.size,0,none⟩ λc=>Wb1 c λd=>da3 b ⟨h.size,0,none⟩ λe f g=>nP a λi=>bd 1 10 (lI .u64 b (Addr.add i 3) λi=>nP a λj=>bd 4 10 (lI .u64 b (Addr.add j 6) λj=>nP a λk=>bd 5 10 (ldH b (Addr.add k 7) λl=>asInt .u64 l λm=>nP a λn=>bd 5 10 (ldH b (Addr.add n 7) λo=>asInt .u64 o λp=>cf 253 #[.agg #[e,f,g],.int .u64 i,.int .u64 (IntKind.wrap .u64 (j - 1))] b λb e=>asInt .i64 b λb=>((Wa2 e (Addr.add n 7))=(some o))∧(((Wa2 e (Addr.add k 7))=(some l))∧(ce e h.size 0 c (cf 261 #[.int .u64 p] e λe f=>asInt .u64 e λe=>((Wa2 f (Addr.add k 7))=(some l))∧(ce f h.size 0 c (cf 219 #[.pointer d,.int .i64 b,.int .u64 m,.int .u64 e] f λb c=>asBool b λb=>ifB b (nP a λb=>bd 4 10 (lI .u64 c (Addr.add b 6) λb=>nP a λa=>bd 4 10 (stH c (Addr.add a 6) (.int .u64 (IntKind.wrap .u64 (b - 1))) λa=>K (.tuple #[]) a))) (K (.tuple #[]) c))))))))))) (K (.tuple #[]) H1)))
def F174 (K:Value→Wa1→Prop) (h:Wa1) (xa xb xc:Option Addr):Prop:=
 (g174 K h (Array.push h (.cells #[.pointer xa,.pointer xb,.pointer xc] 200)))
theorem call174 {K:Value→Wa1→Prop} {h:Wa1} {xa xb xc:Option Addr} (H:F174 K h xa xb xc):Wa5 Tryz.prog 174 #[(.agg #[(.pointer xa),(.pointer xb),(.pointer xc)])] h K:=
 Wa4 Tryz.func174 (by kernel_rfl) (Eq.mp (by kernel_rfl) H)
abbrev g175 (K:Value→Wa1→Prop) (h H1:Wa1):Prop:=
 (lP H1 (Addr.add ⟨h.size,0,none⟩ 2) λa=>nP a λb=>lI .i64 H1 (Addr.add b 1) λb=>ifB (b == 9) (ldH H1 ⟨h.size,0,none⟩ λc=>Wb1 c λd=>da3 H1 ⟨h.size,0,none⟩ λe f g=>nP a λi=>bd 1 10 (lI .u64 H1 (Addr.add i 3) λi=>nP a λj=>cf 253 #[.agg #[e,f,g],.int .u64 i,.int .u64 0] H1 λe f=>asInt .i64 e λe=>ce f h.size 0 c (cf 147 #[.pointer d,.int .i64 e] f λc d=>asInt .u64 c λc=>bd 5 10 (stH d (Addr.add j 7) (.int .u64 c) λc=>nP a λd=>stH c (Addr.add d 1) (.int .i64 10) λc=>K (.tuple #[]) c)))) (ifB (b == 10) (da3 H1 ⟨h.size,0,none⟩ λc d e=>da3 H1 ⟨h.size,0,none⟩ λf g i=>nP a λj=>bd 0 10 (ldH H1 (Addr.add j 2) λk=>asInt .u64 k λl=>nP a λm=>bd 5 10 (ldH H1 (Addr.add m 7) λn=>asInt .u64 n λo=>cf 253 #[.agg #[f,g,i],.int .u64 1,.int .u64 0] H1 λf g=>asInt .i64 f λf=>((Wa2 g (Addr.add m 7))=(some n))∧(((Wa2 g (Addr.add j 2))=(some k))∧(ce g h.size 0 c (((Wa2 g (Addr.add ⟨h.size,0,none⟩ 1))=(some d))∧(((Wa2 g (Addr.add ⟨h.size,0,none⟩ 2))=(some e))∧(cf 256 #[.int .u64 o] g λg i=>asInt .u64 g λg=>((Wa2 i (Addr.add j 2))=(some k))∧(ce i h.size 0 c (((Wa2 i (Addr.add ⟨h.size,0,none⟩ 1))=(some d))∧(((Wa2 i (Addr.add ⟨h.size,0,none⟩ 2))=(some e))∧(cf 254 #[.agg #[c,d,e],.int .i64 f,.int .u64 l,.int .u64 g] i λc d=>asBool c λc=>nP a λc=>stH d (Addr.add c 1) (.int .i64 0) λc=>K (.tuple #[]) c)))))))))))) (ifB (b == 11) (da3 H1 ⟨h.size,0,none⟩ λc d e=>nP a λf=>bd 1 10 (lI .u64 H1 (Addr.add f 3) λf=>cf 257 #[.agg #[c,d,e],.int .u64 f] H1 λc d=>asBool c λc=>ifB c (da3 d ⟨h.size,0,none⟩ λc e f=>nP a λg=>bd 2 10 (lI .u64 d (Addr.add g 4) λg=>((Wa2 (Array.push d (.cells #[.int .u64 g] 178)) ⟨h.size,0,none⟩)=(some c))∧(((Wa2 (Array.push d (.cells #[.int .u64 g] 178)) (Addr.add ⟨h.size,0,none⟩ 1))=(some e))∧(((Wa2 (Array.push d (.cells #[.int .u64 g] 178)) (Addr.add ⟨h.size,0,none⟩ 2))=(some f))∧(cf 247 #[.agg #[c,e,f],.int .i64 12,.int .i64 20,.slice (some ⟨d.size,0,none⟩) 1 1] (Array.push d (.cells #[.int .u64 g] 178)) λc c=>K (.tuple #[]) c))))) (nP a λc=>stH d (Addr.add c 1) (.int .i64 13) λc=>K (.tuple #[]) c))) (ifB (b == 12) (da3 H1 ⟨h.size,0,none⟩ λb c d=>nP a λa=>bd 1 10 (lI .u64 H1 (Addr.add a 3) λa=>((Wa2 (Array.push H1 (.cells #[.int .u64 a] 178)) ⟨h.size,0,none⟩)=(some b))∧(((Wa2 (Array.push H1 (.cells #[.int .u64 a] 178)) (Addr.add ⟨h.size,0,none⟩ 1))=(some c))∧(((Wa2 (Array.push H1 (.cells #[.int .u64 a] 178)) (Addr.add ⟨h.size,0,none⟩ 2))=(some d))∧(cf 247 #[.agg #[b,c,d],.int .i64 13,.int .i64 5,.slice (some ⟨H1.size,0,none⟩) 1 1] (Array.push H1 (.cells #[.int .u64 a] 178)) λa a=>K (.tuple #[]) a))))) (dl3 H1 h.size λa b c=>cf 259 #[.agg #[a,b,c]] H1 λa a=>K (.tuple #[]) a)))))
def F175 (K:Value→Wa1→Prop) (h:Wa1) (xa xb xc:Option Addr):Prop:=
 (g175 K h (Array.push h (.cells #[.pointer xa,.pointer xb,.pointer xc] 200)))
theorem call175 {K:Value→Wa1→Prop} {h:Wa1} {xa xb xc:Option Addr} (H:F175 K h xa xb xc):Wa5 Tryz.prog 175 #[(.agg #[(.pointer xa),(.pointer xb),(.pointer xc)])] h K:=
 Wa4 Tryz.func175 (by kernel_rfl) (Eq.mp (by kernel_rfl) H)
abbrev g242 (K:Value→Wa1→Prop) (h H1:Wa1):Prop:=
 (lP H1 (Addr.add ⟨h.size,0,none⟩ 2) λa=>nP a λa=>bd 2 10 (stH H1 (Addr.add a 4) (.int .u64 1) λa=>ldH a (Addr.add ⟨h.size,0,none⟩ 2) λb=>Wb1 b λc=>lP a ⟨h.size,0,none⟩ λd=>nP c λc=>cf 79 #[.pointer d] a λa d=>asAgg a λa=>We0 a 15 (Wn6 a λa e f g i j k l m n o p q r s=>((Wa2 d (Addr.add ⟨h.size,0,none⟩ 2))=(some b))∧(cf 139 #[.agg #[a,e,f,g,i,j,k,l,m,n,o,p,q,r,s]] d λa d=>asAgg a λa=>We0 a 7 (de7 a λa a a a e e e=>((Wa2 d (Addr.add ⟨h.size,0,none⟩ 2))=(some b))∧(asInt .i64 a λa=>bd 1 10 (stH d (Addr.add c 3) (.int .u64 (IntKind.wrap .u64 (IntKind.wrap .i64 (a - 1)))) λa=>lP a (Addr.add ⟨h.size,0,none⟩ 2) λb=>nP b λb=>stH a (Addr.add b 1) (.int .i64 1) λa=>K (.tuple #[]) a)))))))
def F242 (K:Value→Wa1→Prop) (h:Wa1) (xa xb xc:Option Addr):Prop:=
 (g242 K h (Array.push h (.cells #[.pointer xa,.pointer xb,.pointer xc] 250)))
theorem call242 {K:Value→Wa1→Prop} {h:Wa1} {xa xb xc:Option Addr} (H:F242 K h xa xb xc):Wa5 Tryz.prog 242 #[(.agg #[(.pointer xa),(.pointer xb),(.pointer xc)])] h K:=
 Wa4 Tryz.func242 (by kernel_rfl) (Eq.mp (by kernel_rfl) H)
abbrev g243 (K:Value→Wa1→Prop) (h H1:Wa1):Prop:=
 (lP H1 ⟨h.size,2,none⟩ λa=>nP a λa=>bd 1 10 (lI .u64 H1 (Addr.add a 3) λa=>K (.int .i64 (IntKind.wrap .i64 a)) H1))
def F243 (K:Value→Wa1→Prop) (h:Wa1) (xa xb xc:Option Addr):Prop:=
 (g243 K h (Array.push h (.cells #[.pointer xa,.pointer xb,.pointer xc] 248)))
theorem call243 {K:Value→Wa1→Prop} {h:Wa1} {xa xb xc:Option Addr} (H:F243 K h xa xb xc):Wa5 Tryz.prog 243 #[(.agg #[(.pointer xa),(.pointer xb),(.pointer xc)])] h K:=
 Wa4 Tryz.func243 (by kernel_rfl) (Eq.mp (by kernel_rfl) H)
abbrev g244 (K:Value→Wa1→Prop) (h H1:Wa1) (xa:Int):Prop:=
 (lP H1 (Addr.add ⟨h.size,0,none⟩ 2) λa=>nP a λa=>bd 3 10 (stH H1 (Addr.add a 5) (.int .u64 xa) λa=>da3 a ⟨h.size,0,none⟩ λb c d=>cf 296 #[.agg #[b,c,d]] a λa b=>asInt .u64 a λa=>cf 226 #[.int .u64 a] b λa b=>asBool a λa=>ifB a (lP b (Addr.add ⟨h.size,0,none⟩ 2) λa=>nP a λa=>stH b (Addr.add a 1) (.int .i64 8) λa=>K (.tuple #[]) a) (da3 b ⟨h.size,0,none⟩ λa c d=>cf 296 #[.agg #[a,c,d]] b λa b=>asInt .u64 a λa=>cf 146 #[.int .u64 a] b λa b=>asInt .i64 a λa=>ifB (a == 2) (dl3 b h.size λa c d=>cf 297 #[.agg #[a,c,d]] b λa a=>K (.tuple #[]) a) (lP b (Addr.add ⟨h.size,0,none⟩ 2) λa=>nP a λa=>stH b (Addr.add a 1) (.int .i64 3) λa=>K (.tuple #[]) a))))
def F244 (K:Value→Wa1→Prop) (h:Wa1) (xa xb xc:Option Addr) (xd:Int):Prop:=
 (g244 K h (Array.push h (.cells #[.pointer xa,.pointer xb,.pointer xc] 250)) xd)
theorem call244 {K:Value→Wa1→Prop} {h:Wa1} {xa xb xc:Option Addr} {xd:Int} (H:F244 K h xa xb xc xd):Wa5 Tryz.prog 244 #[(.agg #[(.pointer xa),(.pointer xb),(.pointer xc)]),(.int .u64 xd)] h K:=
 Wa4 Tryz.func244 (by kernel_rfl) (Eq.mp (by kernel_rfl) H)
abbrev g245 (K:Value→Wa1→Prop) (h H1:Wa1) (xa:Int):Prop:=
 (lP H1 ⟨h.size,0,none⟩ λa=>dl3 H1 h.size λb c d=>cf 79 #[.pointer a] H1 λa e=>asAgg a λa=>We0 a 15 (Wn6 a λa f g i j k l m n o p q r s t=>ce e h.size 0 b (ce e h.size 1 c (ce e h.size 2 d (cf 243 #[.agg #[b,c,d]] e λb c=>asInt .i64 b λb=>cf 143 #[.agg #[a,f,g,i,j,k,l,m,n,o,p,q,r,s,t],.int .i64 (IntKind.wrap .i64 xa),.int .i64 (IntKind.wrap .i64 (5+b))] c λa b=>asInt .i64 a λa=>K (.int .i64 a) b)))))
def F245 (K:Value→Wa1→Prop) (h:Wa1) (xa xb xc:Option Addr) (xd:Int):Prop:=
 (g245 K h (Array.push h (.cells #[.pointer xa,.pointer xb,.pointer xc] 248)) xd)
theorem call245 {K:Value→Wa1→Prop} {h:Wa1} {xa xb xc:Option Addr} {xd:Int} (H:F245 K h xa xb xc xd):Wa5 Tryz.prog 245 #[(.agg #[(.pointer xa),(.pointer xb),(.pointer xc)]),(.int .u64 xd)] h K:=
 Wa4 Tryz.func245 (by kernel_rfl) (Eq.mp (by kernel_rfl) H)
abbrev g246 (K:Value→Wa1→Prop) (h H1:Wa1):Prop:=
 (lP H1 (Addr.add ⟨h.size,0,none⟩ 2) λa=>da3 H1 ⟨h.size,0,none⟩ λb c d=>cf 296 #[.agg #[b,c,d]] H1 λb c=>asInt .u64 b λb=>cf 146 #[.int .u64 b] c λb c=>asInt .i64 b λb=>nP a λd=>lI .i64 c (Addr.add d 1) λd=>ifB (d == 3) (ldH c ⟨h.size,0,none⟩ λe=>Wb1 e λf=>lP c ⟨h.size,0,none⟩ λg=>ldH c (Addr.add ⟨h.size,0,none⟩ 1) λi=>Wb1 i λj=>nP j λj=>ldH c j λk=>asInt .i64 k λl=>da3 c ⟨h.size,0,none⟩ λm n o=>cf 79 #[.pointer g] c λg p=>asAgg g λg=>We0 g 15 (Wn6 g λg q r s t u v w x y z A B C D=>ce p h.size 0 m (((Wa2 p (Addr.add ⟨h.size,0,none⟩ 1))=(some n))∧(((Wa2 p (Addr.add ⟨h.size,0,none⟩ 2))=(some o))∧(((Wa2 p j)=(some k))∧(((Wa2 p (Addr.add ⟨h.size,0,none⟩ 1))=(some i))∧(ce p h.size 0 e (cf 243 #[.agg #[m,n,o]] p λm n=>asInt .i64 m λm=>((Wa2 n j)=(some k))∧(((Wa2 n (Addr.add ⟨h.size,0,none⟩ 1))=(some i))∧(ce n h.size 0 e (cf 232 #[.agg #[g,q,r,s,t,u,v,w,x,y,z,A,B,C,D],.int .i64 l,.int .i64 (IntKind.wrap .i64 ((IntKind.wrap .i64 (2*m))+1))] n λg i=>asInt .i64 g λg=>ce i h.size 0 e (cf 212 #[.pointer f,.int .i64 g,.int .u64 (IntKind.wrap .u64 b)] i λe e=>nP a λf=>stH e (Addr.add f 1) (.int .i64 4) λe=>K (.tuple #[]) e)))))))))))) (ifB (d == 4) (ldH c ⟨h.size,0,none⟩ λe=>Wb1 e λf=>da3 c ⟨h.size,0,none⟩ λg i j=>nP a λk=>bd 2 10 (lI .u64 c (Addr.add k 4) λk=>cf 245 #[.agg #[g,i,j],.int .u64 k] c λg i=>asInt .i64 g λg=>ce i h.size 0 e (cf 147 #[.pointer f,.int .i64 g] i λe f=>asInt .u64 e λe=>nP a λg=>bd 3 10 (lI .u64 f (Addr.add g 5) λg=>ifB (e != g) (dl3 f h.size λg i j=>cf 244 #[.agg #[g,i,j],.int .u64 e] f λe e=>K (.tuple #[]) e) (nP a λe=>stH f (Addr.add e 1) (.int .i64 5) λe=>K (.tuple #[]) e))))) (ifB (d == 5) (ldH c ⟨h.size,0,none⟩ λe=>Wb1 e λf=>da3 c ⟨h.size,0,none⟩ λg i j=>nP a λk=>cf 245 #[.agg #[g,i,j],.int .u64 (IntKind.wrap .u64 b)] c λg i=>asInt .i64 g λg=>ce i h.size 0 e (cf 147 #[.pointer f,.int .i64 g] i λe f=>asInt .u64 e λe=>bd 4 10 (stH f (Addr.add k 6) (.int .u64 e) λe=>nP a λf=>stH e (Addr.add f 1) (.int .i64 7) λe=>nP a λf=>bd 4 10 (lI .u64 e (Addr.add f 6) λf=>cf 226 #[.int .u64 f] e λe f=>asBool e λe=>ifB e (nP a λe=>stH f (Addr.add e 1) (.int .i64 6) λe=>K (.tuple #[]) e) (K (.tuple #[]) f))))) (ifB (d == 6) (da3 c ⟨h.size,0,none⟩ λe f g=>nP a λi=>bd 4 10 (ldH c (Addr.add i 6) λj=>asInt .u64 j λk=>cf 296 #[.agg #[e,f,g]] c λe f=>asInt .u64 e λe=>((Wa2 f (Addr.add i 6))=(some j))∧(cf 146 #[.int .u64 k] f λf g=>asInt .i64 f λf=>cf 228 #[.int .u64 e,.int .i64 f,.bool false] g λe f=>asInt .u64 e λe=>ldH f ⟨h.size,0,none⟩ λg=>Wb1 g λi=>da3 f ⟨h.size,0,none⟩ λj k l=>nP a λm=>bd 2 10 (lI .u64 f (Addr.add m 4) λm=>nP a λn=>bd 3 10 (ldH f (Addr.add n 5) λo=>asInt .u64 o λp=>cf 245 #[.agg #[j,k,l],.int .u64 m] f λf j=>asInt .i64 f λf=>((Wa2 j (Addr.add n 5))=(some o))∧(ce j h.size 0 g (cf 219 #[.pointer i,.int .i64 f,.int .u64 p,.int .u64 e] j λf g=>asBool f λf=>ifB (!f) (nP a λf=>stH g (Addr.add f 1) (.int .i64 2) λf=>K (.tuple #[]) f) (dl3 g h.size λf i j=>cf 244 #[.agg #[f,i,j],.int .u64 e] g λe e=>K (.tuple #[]) e)))))))) (ifB (d == 7) (ldH c ⟨h.size,0,none⟩ λd=>Wb1 d λe=>lP c ⟨h.size,0,none⟩ λf=>nP a λg=>bd 0 10 (ldH c (Addr.add g 2) λi=>asInt .u64 i λj=>cf 79 #[.pointer f] c λf k=>asAgg f λf=>We0 f 15 (Wn6 f λf l m n o p q r s t u v w x y=>((Wa2 k (Addr.add g 2))=(some i))∧(ce k h.size 0 d (cf 143 #[.agg #[f,l,m,n,o,p,q,r,s,t,u,v,w,x,y],.int .i64 (IntKind.wrap .i64 (IntKind.wrap .u64 b)),.int .i64 0] k λf k=>asInt .i64 f λf=>((Wa2 k (Addr.add g 2))=(some i))∧(ce k h.size 0 d (cf 147 #[.pointer e,.int .i64 f] k λd e=>asInt .u64 d λd=>((Wa2 e (Addr.add g 2))=(some i))∧(ifB (decide (d ≥ j)) (dl3 e h.size λd f g=>cf 297 #[.agg #[d,f,g]] e λd d=>K (.tuple #[]) d) (nP a λd=>bd 2 10 (stH e (Addr.add d 4) (.int .u64 (IntKind.wrap .u64 b)) λb=>nP a λa=>stH b (Addr.add a 1) (.int .i64 1) λa=>K (.tuple #[]) a)))))))))) (K (.tuple #[]) c))))))
def F246 (K:Value→Wa1→Prop) (h:Wa1) (xa xb xc:Option Addr):Prop:=
 (g246 K h (Array.push h (.cells #[.pointer xa,.pointer xb,.pointer xc] 250)))
theorem call246 {K:Value→Wa1→Prop} {h:Wa1} {xa xb xc:Option Addr} (H:F246 K h xa xb xc):Wa5 Tryz.prog 246 #[(.agg #[(.pointer xa),(.pointer xb),(.pointer xc)])] h K:=
 Wa4 Tryz.func246 (by kernel_rfl) (Eq.mp (by kernel_rfl) H)
abbrev g247 (K:Value→Wa1→Prop) (h H1:Wa1) (xa xb:Int) (xc:Option Addr) (xd xe:Nat):Prop:=
 (lP H1 ⟨h.size,2,none⟩ λa=>nP a λa=>stH H1 (Addr.add a 1) (.int .i64 xa) λa=>lP a ⟨h.size,1,none⟩ λb=>cf 130 #[.pointer b,.int .i64 xb,.slice xc xd xe] a λa a=>K (.tuple #[]) a)
def F247 (K:Value→Wa1→Prop) (h:Wa1) (xa xb xc:Option Addr) (xd xe:Int) (xf:Option Addr) (xg xh:Nat):Prop:=
 (g247 K h (Array.push h (.cells #[.pointer xa,.pointer xb,.pointer xc] 197)) xd xe xf xg xh)
theorem call247 {K:Value→Wa1→Prop} {h:Wa1} {xa xb xc:Option Addr} {xd xe:Int} {xf:Option Addr} {xg xh:Nat} (H:F247 K h xa xb xc xd xe xf xg xh):Wa5 Tryz.prog 247 #[(.agg #[(.pointer xa),(.pointer xb),(.pointer xc)]),(.int .i64 xd),(.int .i64 xe),(.slice xf xg xh)] h K:=
 Wa4 Tryz.func247 (by kernel_rfl) (Eq.mp (by kernel_rfl) H)
abbrev g248 (K:Value→Wa1→Prop) (h H1:Wa1) (xa xb xc:Int):Prop:=
 (lP H1 ⟨h.size,2,none⟩ λa=>ldH H1 ⟨h.size,2,none⟩ λb=>Wb1 b λc=>ldH H1 ⟨h.size,2,none⟩ λd=>Wb1 d λe=>nP a λa=>bd 7 10 (nP c λc=>nP e λe=>stH H1 (Addr.add a 9) (.int .u64 xa) λa=>ce a h.size 2 d (ce a h.size 2 b (bd 8 10 (stH a (Addr.add c 10) (.int .u64 xb) λa=>ce a h.size 2 d (bd 9 10 (stH a (Addr.add e 11) (.int .u64 xc) λa=>dl3 a h.size λb c d=>cf 247 #[.agg #[b,c,d],.int .i64 90,.int .i64 4,.slice none 0 0] a λa a=>K (.tuple #[]) a)))))))
def F248 (K:Value→Wa1→Prop) (h:Wa1) (xa xb xc:Option Addr) (xd xe xf:Int):Prop:=
 (g248 K h (Array.push h (.cells #[.pointer xa,.pointer xb,.pointer xc] 197)) xd xe xf)
theorem call248 {K:Value→Wa1→Prop} {h:Wa1} {xa xb xc:Option Addr} {xd xe xf:Int} (H:F248 K h xa xb xc xd xe xf):Wa5 Tryz.prog 248 #[(.agg #[(.pointer xa),(.pointer xb),(.pointer xc)]),(.int .u64 xd),(.int .u64 xe),(.int .u64 xf)] h K:=
 Wa4 Tryz.func248 (by kernel_rfl) (Eq.mp (by kernel_rfl) H)
abbrev g251 (K:Value→Wa1→Prop) (h H1:Wa1) (xa xb:Int):Prop:=
 (lP H1 ⟨h.size,0,none⟩ λa=>cf 79 #[.pointer a] H1 λa b=>asAgg a λa=>We0 a 15 (Wn6 a λa c d e f g i j k l m n o p q=>cf 143 #[.agg #[a,c,d,e,f,g,i,j,k,l,m,n,o,p,q],.int .i64 (IntKind.wrap .i64 xa),.int .i64 xb] b λa b=>asInt .i64 a λa=>K (.int .i64 a) b))
def F251 (K:Value→Wa1→Prop) (h:Wa1) (xa xb xc:Option Addr) (xd xe:Int):Prop:=
 (g251 K h (Array.push h (.cells #[.pointer xa,.pointer xb,.pointer xc] 197)) xd xe)
theorem call251 {K:Value→Wa1→Prop} {h:Wa1} {xa xb xc:Option Addr} {xd xe:Int} (H:F251 K h xa xb xc xd xe):Wa5 Tryz.prog 251 #[(.agg #[(.pointer xa),(.pointer xb),(.pointer xc)]),(.int .u64 xd),(.int .i64 xe)] h K:=
 Wa4 Tryz.func251 (by kernel_rfl) (Eq.mp (by kernel_rfl) H)
abbrev g253 (K:Value→Wa1→Prop) (h H1:Wa1) (xa xb:Int):Prop:=
 (dl3 H1 h.size λa b c=>cf 251 #[.agg #[a,b,c],.int .u64 xa,.int .i64 (IntKind.wrap .i64 (5+(IntKind.wrap .i64 xb)))] H1 λa b=>asInt .i64 a λa=>K (.int .i64 a) b)
def F253 (K:Value→Wa1→Prop) (h:Wa1) (xa xb xc:Option Addr) (xd xe:Int):Prop:=
 (g253 K h (Array.push h (.cells #[.pointer xa,.pointer xb,.pointer xc] 197)) xd xe)
theorem call253 {K:Value→Wa1→Prop} {h:Wa1} {xa xb xc:Option Addr} {xd xe:Int} (H:F253 K h xa xb xc xd xe):Wa5 Tryz.prog 253 #[(.agg #[(.pointer xa),(.pointer xb),(.pointer xc)]),(.int .u64 xd),(.int .u64 xe)] h K:=
 Wa4 Tryz.func253 (by kernel_rfl) (Eq.mp (by kernel_rfl) H)
abbrev g254 (K:Value→Wa1→Prop) (h H1:Wa1) (xa xb xc:Int):Prop:=
 (ldH H1 ⟨h.size,0,none⟩ λa=>Wb1 a λb=>cf 228 #[.int .u64 xb,.int .i64 (IntKind.wrap .i64 xc),.bool false] H1 λc d=>asInt .u64 c λc=>ce d h.size 0 a (cf 219 #[.pointer b,.int .i64 xa,.int .u64 xb,.int .u64 c] d λa b=>asBool a λa=>K (.bool a) b))
def F254 (K:Value→Wa1→Prop) (h:Wa1) (xa xb xc:Option Addr) (xd xe xf:Int):Prop:=
 (g254 K h (Array.push h (.cells #[.pointer xa,.pointer xb,.pointer xc] 197)) xd xe xf)
theorem call254 {K:Value→Wa1→Prop} {h:Wa1} {xa xb xc:Option Addr} {xd xe xf:Int} (H:F254 K h xa xb xc xd xe xf):Wa5 Tryz.prog 254 #[(.agg #[(.pointer xa),(.pointer xb),(.pointer xc)]),(.int .i64 xd),(.int .u64 xe),(.int .u64 xf)] h K:=
 Wa4 Tryz.func254 (by kernel_rfl) (Eq.mp (by kernel_rfl) H)
def F255 (K:Value→Wa1→Prop) (h:Wa1) (xa:Int):Prop:=
 (cf 226 #[.int .u64 xa] h λa b=>asBool a λa=>K (.bool a) b)
theorem call255 {K:Value→Wa1→Prop} {h:Wa1} {xa:Int} (H:F255 K h xa):Wa5 Tryz.prog 255 #[(.int .u64 xa)] h K:=
 Wa4 Tryz.func255 (by kernel_rfl) (Eq.mp (by kernel_rfl) H)
def F256 (K:Value→Wa1→Prop) (h:Wa1) (xa:Int):Prop:=
 (cf 146 #[.int .u64 xa] h λa b=>asInt .i64 a λa=>K (.int .u64 (IntKind.wrap .u64 a)) b)
theorem call256 {K:Value→Wa1→Prop} {h:Wa1} {xa:Int} (H:F256 K h xa):Wa5 Tryz.prog 256 #[(.int .u64 xa)] h K:=
 Wa4 Tryz.func256 (by kernel_rfl) (Eq.mp (by kernel_rfl) H)
abbrev g257 (K:Value→Wa1→Prop) (h H1:Wa1) (xa:Int):Prop:=
 (ldH H1 ⟨h.size,0,none⟩ λa=>Wb1 a λb=>dl3 H1 h.size λc d e=>cf 251 #[.agg #[c,d,e],.int .u64 xa,.int .i64 2] H1 λc d=>asInt .i64 c λc=>ce d h.size 0 a (cf 188 #[.pointer b,.int .i64 c,.int .u64 18446744073709551615] d λa b=>asInt .u64 a λa=>K (.bool (a == 1)) b))
def F257 (K:Value→Wa1→Prop) (h:Wa1) (xa xb xc:Option Addr) (xd:Int):Prop:=
 (g257 K h (Array.push h (.cells #[.pointer xa,.pointer xb,.pointer xc] 197)) xd)
theorem call257 {K:Value→Wa1→Prop} {h:Wa1} {xa xb xc:Option Addr} {xd:Int} (H:F257 K h xa xb xc xd):Wa5 Tryz.prog 257 #[(.agg #[(.pointer xa),(.pointer xb),(.pointer xc)]),(.int .u64 xd)] h K:=
 Wa4 Tryz.func257 (by kernel_rfl) (Eq.mp (by kernel_rfl) H)
abbrev g259 (K:Value→Wa1→Prop) (h H1:Wa1):Prop:=
 (da3 H1 ⟨h.size,0,none⟩ λa b c=>lP H1 (Addr.add ⟨h.size,0,none⟩ 2) λd=>nP d λd=>bd 2 10 (lI .u64 H1 (Addr.add d 4) λd=>ldH H1 (Addr.add ⟨h.size,0,none⟩ 2) λe=>Wb1 e λf=>nP f λf=>bd 3 10 (ldH H1 (Addr.add f 5) λg=>asInt .u64 g λi=>cf 274 #[.int .u64 d] H1 λd j=>asInt .u32 d λd=>((Wa2 j (Addr.add f 5))=(some g))∧(((Wa2 j (Addr.add ⟨h.size,0,none⟩ 2))=(some e))∧(ce j h.size 0 a (((Wa2 j (Addr.add ⟨h.size,0,none⟩ 1))=(some b))∧(((Wa2 j (Addr.add ⟨h.size,0,none⟩ 2))=(some c))∧(cf 298 #[.int .u64 i] j λe f=>asInt .u32 e λe=>ce f h.size 0 a (((Wa2 f (Addr.add ⟨h.size,0,none⟩ 1))=(some b))∧(((Wa2 f (Addr.add ⟨h.size,0,none⟩ 2))=(some c))∧(cf 248 #[.agg #[a,b,c],.int .u64 2,.int .u64 (IntKind.wrap .u64 d),.int .u64 (IntKind.wrap .u64 e)] f λa a=>K (.tuple #[]) a)))))))))))
def F259 (K:Value→Wa1→Prop) (h:Wa1) (xa xb xc:Option Addr):Prop:=
 (g259 K h (Array.push h (.cells #[.pointer xa,.pointer xb,.pointer xc] 200)))
theorem call259 {K:Value→Wa1→Prop} {h:Wa1} {xa xb xc:Option Addr} (H:F259 K h xa xb xc):Wa5 Tryz.prog 259 #[(.agg #[(.pointer xa),(.pointer xb),(.pointer xc)])] h K:=
 Wa4 Tryz.func259 (by kernel_rfl) (Eq.mp (by kernel_rfl) H)
abbrev g296 (K:Value→Wa1→Prop) (h H1:Wa1):Prop:=
 (lP H1 ⟨h.size,2,none⟩ λa=>nP a λa=>bd 3 10 (lI .u64 H1 (Addr.add a 5) λa=>K (.int .u64 a) H1))
def F296 (K:Value→Wa1→Prop) (h:Wa1) (xa xb xc:Option Addr):Prop:=
 (g296 K h (Array.push h (.cells #[.pointer xa,.pointer xb,.pointer xc] 248)))
theorem call296 {K:Value→Wa1→Prop} {h:Wa1} {xa xb xc:Option Addr} (H:F296 K h xa xb xc):Wa5 Tryz.prog 296 #[(.agg #[(.pointer xa),(.pointer xb),(.pointer xc)])] h K:=
 Wa4 Tryz.func296 (by kernel_rfl) (Eq.mp (by kernel_rfl) H)
abbrev g297 (K:Value→Wa1→Prop) (h H1:Wa1):Prop:=
 (ldH H1 (Addr.add ⟨h.size,0,none⟩ 2) λa=>Wb1 a λb=>da3 H1 ⟨h.size,0,none⟩ λc d e=>cf 243 #[.agg #[c,d,e]] H1 λc d=>asInt .i64 c λc=>((Wa2 d (Addr.add ⟨h.size,0,none⟩ 2))=(some a))∧(ldH d (Addr.add ⟨h.size,0,none⟩ 1) λa=>Wb1 a λe=>nP e λe=>ldH d (Addr.add e 5) λf=>Wb5 f λg i j=>ldH d (Addr.add ⟨h.size,0,none⟩ 1) λj=>Wb1 j λk=>nP k λk=>ldH d (Addr.add k 7) λl=>Wb5 l λm n o=>ldH d (Addr.add ⟨h.size,0,none⟩ 1) λo=>Wb1 o λp=>nP p λp=>ldH d (Addr.add p 6) λq=>Wb5 q λr s t=>nP b λt=>bd 2 10 (ldH d (Addr.add t 4) λu=>asInt .u64 u λv=>nP b λw=>bd 3 10 (ldH d (Addr.add w 5) λx=>asInt .u64 x λy=>da3 d ⟨h.size,0,none⟩ λz A B=>cf 296 #[.agg #[z,A,B]] d λd z=>asInt .u64 d λd=>((Wa2 z (Addr.add w 5))=(some x))∧(((Wa2 z (Addr.add t 4))=(some u))∧(((Wa2 z (Addr.add p 6))=(some q))∧(((Wa2 z (Addr.add ⟨h.size,0,none⟩ 1))=(some o))∧(((Wa2 z (Addr.add k 7))=(some l))∧(((Wa2 z (Addr.add ⟨h.size,0,none⟩ 1))=(some j))∧(((Wa2 z (Addr.add e 5))=(some f))∧(((Wa2 z (Addr.add ⟨h.size,0,none⟩ 1))=(some a))∧(cf 146 #[.int .u64 d] z λd z=>asInt .i64 d λd=>((Wa2 z (Addr.add w 5))=(some x))∧(((Wa2 z (Addr.add t 4))=(some u))∧(((Wa2 z (Addr.add p 6))=(some q))∧(((Wa2 z (Addr.add ⟨h.size,0,none⟩ 1))=(some o))∧(((Wa2 z (Addr.add k 7))=(some l))∧(((Wa2 z (Addr.add ⟨h.size,0,none⟩ 1))=(some j))∧(((Wa2 z (Addr.add e 5))=(some f))∧(((Wa2 z (Addr.add ⟨h.size,0,none⟩ 1))=(some a))∧(bd c (i:Int) (Wd2 (.pointer g) λa=>stH z (Addr.add a (c.toNat*1)) (.int .u64 v) λa=>bd c (n:Int) (Wd2 (.pointer m) λe=>stH a (Addr.add e (c.toNat*1)) (.int .u64 y) λa=>bd c (s:Int) (Wd2 (.pointer r) λe=>stH a (Addr.add e (c.toNat*1)) (.int .u64 (IntKind.wrap .u64 d)) λa=>ifB (c == 0) (lP a (Addr.add ⟨h.size,0,none⟩ 1) λc=>cf 106 #[.pointer c,.slice none 0 0] a λc c=>K (.tuple #[]) c) (nP b λc=>bd 1 10 (lI .u64 a (Addr.add c 3) λc=>nP b λd=>bd 1 10 (stH a (Addr.add d 3) (.int .u64 (IntKind.wrap .u64 (c - 1))) λa=>nP b λb=>stH a (Addr.add b 1) (.int .i64 1) λa=>K (.tuple #[]) a))))))))))))))))))))))))))
def F297 (K:Value→Wa1→Prop) (h:Wa1) (xa xb xc:Option Addr):Prop:=
 (g297 K h (Array.push h (.cells #[.pointer xa,.pointer xb,.pointer xc] 250)))
theorem call297 {K:Value→Wa1→Prop} {h:Wa1} {xa xb xc:Option Addr} (H:F297 K h xa xb xc):Wa5 Tryz.prog 297 #[(.agg #[(.pointer xa),(.pointer xb),(.pointer xc)])] h K:=
 Wa4 Tryz.func297 (by kernel_rfl) (Eq.mp (by kernel_rfl) H)
end
section
open Mod
def Thr.setPl (t:Thr) (p s w:List Int):Thr:={ t with pred:=p,succ:=s,word:=w }
theorem YZ8 {h:Wa1} {T:Nat} {fo:Option (Nat × Nat)} {t:Thr} {id:Int} {R:Hp} (H:Sat h (Wk6 T fo t id*R)):∃pb sb wb,∃Q:Hp,
  (∀h' P,Sat h' (Q*P)→Wa2 h' ⟨T,5,none⟩=some (.slice (some ⟨pb,0,none⟩) t.pred.length t.pred.length)∧Wa2 h' ⟨T,6,none⟩=some (.slice (some ⟨sb,0,none⟩) t.succ.length t.succ.length)∧Wa2 h' ⟨T,7,none⟩=some (.slice (some ⟨wb,0,none⟩) t.word.length t.word.length)) ∧
  Sat h (pt pb (.cells (uvs t.pred).toArray 178)*(pt sb (.cells (uvs t.succ).toArray 178)*(pt wb (.cells (uvs t.word).toArray 178)*(Q*R)))) ∧
  ∀R' h' p s w,p.length=t.pred.length→s.length=t.succ.length→w.length=t.word.length→(∀v ∈ p,U v)→(∀v ∈ s,U v)→(∀v ∈ w,U v) →
   Sat h' (pt pb (.cells (uvs p).toArray 178)*(pt sb (.cells (uvs s).toArray 178)*(pt wb (.cells (uvs w).toArray 178)*(Q*R'))))→Sat h' (Wk6 T fo (Thr.setPl t p s w) id*R'):=by
 obtain ⟨B,x,H0⟩:=Wd9.1 H
 refine ⟨B.pred,B.succ,B.word,pt T (.cells (WQ3 B t id).toArray 183)*(We4 190 12 B.fr t.fr.length B.frn (t.fr.flatMap frc)*(We4 3 1 B.re t.retired.length B.ren (t.retired.map iv)*WQ2 B.fo t.found.length B.fon t.found)),λh' P HQ=>?_,Sat.ac H0 (by ac_rfl),?_⟩
 ·have O:=Sat.at (Wc9 _ _ _ ▸ HQ)
  exact ⟨Wd4 O rfl,Wd4 O rfl,Wd4 O rfl⟩
 ·intro R' h' p s w hp hs hw up us uw H1
  obtain ⟨b1,b2,b3,b4,b5,b6,b7,b8⟩:=x.1
  refine Wd9.2 ⟨B,⟨⟨b1,b2,up,us,uw,b6,b7,b8⟩,x.2⟩,?_⟩
  unfold Thr.setPl WQ3
  simp only [hp,hs,hw]
  exact Sat.ac H1 (by ac_rfl)
section
variable {K:Value→Wa1→Prop} {h:Wa1} {M T b o N:Nat} {tv:Value} {fo:Option (Nat × Nat)} {x:Run} {R:Hp}
theorem Yo8 (H:Sat h (RunS M T tv fo x R)):∃pb sb wb,∃Q:Hp,
  (∀h' P,Sat h' (Q*P)→Wa2 h' ⟨T,5,none⟩=some (.slice (some ⟨pb,0,none⟩) x.t.pred.length x.t.pred.length)∧Wa2 h' ⟨T,6,none⟩=some (.slice (some ⟨sb,0,none⟩) x.t.succ.length x.t.succ.length)∧Wa2 h' ⟨T,7,none⟩=some (.slice (some ⟨wb,0,none⟩) x.t.word.length x.t.word.length)) ∧
  Sat h (pt pb (.cells (uvs x.t.pred).toArray 178)*(pt sb (.cells (uvs x.t.succ).toArray 178)*(pt wb (.cells (uvs x.t.word).toArray 178)*(Q*(Wl2 M tv x.m*R))))) ∧
  ∀h' p s w,p.length=x.t.pred.length→s.length=x.t.succ.length→w.length=x.t.word.length→(∀v ∈ p,U v)→(∀v ∈ s,U v)→(∀v ∈ w,U v) →
   Sat h' (pt pb (.cells (uvs p).toArray 178)*(pt sb (.cells (uvs s).toArray 178)*(pt wb (.cells (uvs w).toArray 178)*(Q*(Wl2 M tv x.m*R)))))→Sat h' (RunS M T tv fo (x.setPl p s w) R):=by
 obtain ⟨pb,sb,wb,Q,h1,h2,h3⟩:=YZ8 (RunS.thr H)
 exact ⟨pb,sb,wb,Q,h1,h2,λh' p s w a1 a2 a3 a4 a5 a6 H1=>RunS.ofThr (h3 _ h' p s w a1 a2 a3 a4 a5 a6 H1)⟩
theorem Zg0 {h:Wa1} {B:Nat} {l:List Int} {t:TypeId} (e:h[B]? = some (.cells (uvs l).toArray t)) {i:Int} (h0:0≤i) (h1:i < l.length):Wa2 h ⟨B,i.toNat,none⟩=some (.int .u64 (l.getD i.toNat 0)):=Zp1 e h0 h1
theorem WK2 (H:Sat h (RunS M T tv (some (b,o)) x R)) (k:∀h',Old h.size h h'→K (.int .i64 (s64 (x.f.g 1))) h') :
  Wa5 Tryz.prog 243 #[rV M T b o] h K:=by
 refine call243 ?_
 unfold F243 g243 bd lP lI nP
 have oo:Old h.size h (h.push (.cells #[mP M,mP T,fP b o] 248)):=(Old.refl _ _).push _ (Nat.le_refl _)
 have H1:=RunS.new H (.cells #[mP M,mP T,fP b o] 248);generalize h.push (.cells #[mP M,mP T,fP b o] 248)=h1 at *;generalize h.size=N at *
 refine ss H1 ?_
 exact k h1 oo
theorem Wx0 (H:Sat h (RunS M T tv (some (b,o)) x R)) (k:∀h',Old h.size h h'→K (.int .u64 (x.f.g 3)) h') :
  Wa5 Tryz.prog 296 #[rV M T b o] h K:=by
 refine call296 ?_
 unfold F296 g296 bd lP lI nP
 have oo:Old h.size h (h.push (.cells #[mP M,mP T,fP b o] 248)):=(Old.refl _ _).push _ (Nat.le_refl _)
 have H1:=RunS.new H (.cells #[mP M,mP T,fP b o] 248);generalize h.push (.cells #[mP M,mP T,fP b o] 248)=h1 at *;generalize h.size=N at *
 refine ss H1 ?_
 exact k h1 oo
theorem WE1 (H:Sat h (RunS M T tv (some (b,o)) x R)) {n:Int} (hr:0≤s64 (x.f.g 1)∧s64 (x.f.g 1) < 1000) (k:∀h',Old h.size h h'→K (.int .i64 (x.nlink n (x.f.g 1))) h') :
  Wa5 Tryz.prog 245 #[rV M T b o,.int .u64 n] h K:=by
 refine call245 ?_
 unfold F245 g245 cf ce lP Wn6 dl3
 have oo:Old h.size h (h.push (.cells #[mP M,mP T,fP b o] 248)):=(Old.refl _ _).push _ (Nat.le_refl _)
 have P:=RunS.pl H
 have s1:=oo.1
 have H1:=RunS.new H (.cells #[mP M,mP T,fP b o] 248);generalize h.push (.cells #[mP M,mP T,fP b o] 248)=h1 at *;generalize h.size=N at *
 refine ss H1 ?_
 refine Wa0 (Wr7 H1 λh2 o2=>WG2 ?_)
 have H2:=RunS.old H1 o2
 refine ss H2 ?_
 refine Wa0 (WK2 H2 λh3 o3=>?_)
 refine sb ?_
 rw [show s64 (5+s64 (x.f.g 1))=5+s64 (x.f.g 1) from by rw [← WJ4,Wc2 (by omega) (by omega)]]
 refine Wa0 (Wf4 P (Wi4 _) ⟨by omega,by omega⟩ λh4 o4=>?_)
 refine sb ?_
 exact k h4 (oo.trans (((o2.trans (o3.mono o2.1)).trans (o4.mono (Nat.le_trans o2.1 o3.1))).mono s1))
structure RowOk (x:Run) (r:Int):Prop where
 r:0≤s64 r∧s64 r < x.t.pred.length
 e1:x.t.succ.length=x.t.pred.length
 e2:x.t.word.length=x.t.pred.length
 e3:x.t.pred.length≤6
theorem WO2 (H:Sat h (RunS M T tv (some (b,o)) x R)) (hr:RowOk x (x.f.g 1)) (k:∀h',Sat h' (RunS M T tv none (Wo4 x) R)→K (.tuple #[]) h') :
  Wa5 Tryz.prog 297 #[rV M T b o] h K:=by
 refine call297 ?_
 unfold F297 g297 cf bd lP lI nP da3
 have B:=RunS.fB H
 have TB:=RunS.B H
 obtain ⟨⟨r0,r1⟩,e1,e2,e3⟩:=hr
 unfold Wo4 at k
 dsimp only at k
 have H1:=RunS.new H (.cells #[mP M,mP T,fP b o] 250);generalize h.push (.cells #[mP M,mP T,fP b o] 250)=h1 at *;generalize h.size=N at *
 refine ss H1 ?_
 refine Wa0 (WK2 H1 λh2 o2=>?_)
 have H2:=RunS.old H1 o2
 obtain ⟨pb,sb,wb,Q,hQ,HR,re⟩:=Yo8 H2
 obtain ⟨c5,c6,c7⟩:=hQ h2 _ HR.drop.drop.drop
 have d5:∀F:Value→Prop,ldH h2 ⟨T,5,none⟩ F=F (.slice (some ⟨pb,0,none⟩) x.t.pred.length x.t.pred.length):=λF=>by unfold ldH;rw [c5]
 have d6:∀F:Value→Prop,ldH h2 ⟨T,6,none⟩ F=F (.slice (some ⟨sb,0,none⟩) x.t.succ.length x.t.succ.length):=λF=>by unfold ldH;rw [c6]
 have d7:∀F:Value→Prop,ldH h2 ⟨T,7,none⟩ F=F (.slice (some ⟨wb,0,none⟩) x.t.word.length x.t.word.length):=λF=>by unfold ldH;rw [c7]
 try simp +decide only [Wb8,bsx,Nat.reduceAdd,Int.reduceLE,Int.reduceLT,Int.reduceToNat,rsx,g_s,Wa8,RunS.al H2,d5,d6,d7]
 refine Wa0 (Wx0 H2 λh3 o3=>?_)
 have H3:=RunS.old H2 o3
 have HR3:=HR.old o3
 obtain ⟨c5,c6,c7⟩:=hQ h3 _ HR3.drop.drop.drop
 try simp +decide only [Wb8,bsx,Nat.reduceAdd,Int.reduceLE,Int.reduceLT,Int.reduceToNat,rsx,g_s,Wa8,RunS.al H3,c5,c6,c7]
 refine Wa0 (Wf1 (B.g 3) ?_)
 try simp +decide only [Wb8,bsx,Nat.reduceAdd,Int.reduceLE,Int.reduceLT,Int.reduceToNat,rsx,g_s,Wa8,RunS.al H3,c5,c6,c7]
 refine ⟨r0,by omega,?_⟩
 have hu:∀l:List Int,(uvs l).length=l.length:=W59
 have us:∀(l:List Int) (i:Nat) (v:Int),(uvs l).set i (.int .u64 v)=uvs (l.set i v):=λl i v=>by unfold uvs;rw [List.map_set]
 refine WB9 HR3 (by rw [hu];omega) trivial λh4 H4=>?_
 refine ⟨r0,by omega,?_⟩
 rw [YF7,us] at H4
 refine WB9 H4 (by rw [hu];omega) trivial λh5 H5=>?_
 refine ⟨r0,by omega,?_⟩
 rw [← YF7,us,Wb4] at H5
 refine WB9 H5 (by rw [hu];omega) trivial λh6 H6=>?_
 rw [Wb4,us] at H6
 have H7:=re h6 _ _ _ (by simp) (by simp) (by simp) (Wk5 TB.pr (B.g 2)) (Wk5 TB.su (Wj0 _)) (Wk5 TB.wo (B.g 3)) H6
 refine ss H7 ?_
 refine Wa3 (λc=>?_) (λc=>?_)
 ·have c':(s64 (x.f.g 1)).toNat=0:=by omega
  rw [if_pos c'] at k
  exact Wa0 (Za8 H7 Args.none (by omega) λh8 H8=>k h8 (RunS.drp H8))
 ·have c':¬ (s64 (x.f.g 1)).toNat=0:=by omega
  rw [if_neg c'] at k
  have ef:(x.setPl (x.t.pred.set (s64 (x.f.g 1)).toNat (x.f.g 2)) (x.t.succ.set (s64 (x.f.g 1)).toNat (Wg8 (x.f.g 3))) (x.t.word.set (s64 (x.f.g 1)).toNat (x.f.g 3))).f=x.f:=rfl
  try simp only [Wb8,bsx,Nat.reduceAdd,Int.reduceLE,Int.reduceLT,Int.reduceToNat,ef]
  exact RunS.stR (i:=1) H7 rfl (Wj9 _) λh8 H8=>RunS.stP H8 λh9 H9=>k h9 (RunS.drp (RunS.none H9))
end
end
section
open Mod
theorem WK3 {n:Int} (h0:0≤n) (h1:n < 1000):s64 n=n:=by unfold s64;omega
section
variable {K:Value→Wa1→Prop} {h:Wa1} {M T b o N:Nat} {tv:Value} {fo:Option (Nat × Nat)} {x:Run} {R:Hp}
theorem RowOk.same {y:Run} {r:Int} (H:RowOk x r) (e:y.t.pred=x.t.pred∧y.t.succ=x.t.succ∧y.t.word=x.t.word):RowOk y r:=by
 obtain ⟨h1,h2,h3,h4⟩:=H
 exact ⟨by rw [e.1];exact h1,by rw [e.1,e.2.1];exact h2,by rw [e.1,e.2.2];exact h3,by rw [e.1];exact h4⟩
theorem WG7 (H:Sat h (RunS M T tv (some (b,o)) x R)) {w:Int} (hw:U w) (hr:RowOk x (x.f.g 1)) (k:∀h',Sat h' (RunS M T tv none (WF9 x w) R)→K (.tuple #[]) h') :
  Wa5 Tryz.prog 244 #[rV M T b o,.int .u64 w] h K:=by
 refine call244 ?_
 unfold F244 g244 cf bd lP nP da3 dl3
 have B:=RunS.fB H
 unfold WF9 at k
 dsimp only at k
 have H1:=RunS.new H (.cells #[mP M,mP T,fP b o] 250);generalize h.push (.cells #[mP M,mP T,fP b o] 250)=h1 at *;generalize h.size=N at *
 refine ss H1 ?_
 refine RunS.stR (i:=3) H1 rfl hw λh2 H2=>?_
 refine ss H2 ?_
 refine Wa0 (Wx0 H2 λh3 o3=>?_)
 have H3:=RunS.old H2 o3
 try simp +decide only [Wb8,bsx,Nat.reduceAdd,Int.reduceLE,Int.reduceLT,Int.reduceToNat,rsx,g_s,Wa8,RunS.al H3,B.len]
 refine Wa0 (Wh8 hw ?_)
 refine ss H3 ?_
 refine Wb7 (λc=>?_) (λc=>?_)
 ·rw [if_pos c] at k
  exact RunS.stP H3 λh4 H4=>k h4 (RunS.drp (RunS.none H4))
 rw [if_neg (by rw [c];simp)] at k
 refine Wa0 (Wx0 H3 λh4 o4=>?_)
 have H4:=RunS.old H3 o4
 try simp +decide only [Wb8,bsx,Nat.reduceAdd,Int.reduceLE,Int.reduceLT,Int.reduceToNat,rsx,g_s,Wa8,RunS.al H4,B.len]
 refine Wa0 (Wf1 hw ?_)
 refine ss H4 ?_
 refine Wa3 (λc=>?_) (λc=>?_)
 ·rw [if_pos c] at k
  have hr2:RowOk (x.s 3 w) ((x.s 3 w).f.g 1):=by
   rw [f_s,Wa8 _ (by decide)]
   exact hr.same ⟨rfl,rfl,rfl⟩
  exact Wa0 (WO2 H4 hr2 λh5 H5=>k h5 (RunS.drp H5))
 ·rw [if_neg c] at k
  exact RunS.stP H4 λh5 H5=>k h5 (RunS.drp (RunS.none H5))
theorem Yo9 (H:Sat h (RunS M T tv (some (b,o)) x R)) (k:∀h',Sat h' (RunS M T tv none (((x.s 2 1).s 1 (u64 (x.m.p.c.level - 1))).pc 1) R)→K (.tuple #[]) h') :
  Wa5 Tryz.prog 242 #[rV M T b o] h K:=by
 refine call242 ?_
 unfold F242 g242 cf bd lP nP de7 Wn6
 have P:=RunS.pl H
 have H1:=RunS.new H (.cells #[mP M,mP T,fP b o] 250);generalize h.push (.cells #[mP M,mP T,fP b o] 250)=h1 at *;generalize h.size=N at *
 refine ss H1 ?_
 refine RunS.stR (i:=2) H1 rfl (U.lit rfl) λh2 H2=>?_
 refine ss H2 ?_
 refine Wa0 (WJ6 H2 λh3 H3=>WG2 ?_)
 refine ss H3 ?_
 refine Wa0 (Wh3 λh4 o4=>cf7 ?_)
 have H4:=RunS.old H3 o4
 refine ss H4 ?_
 refine RunS.stR (i:=1) H4 rfl (Wj9 _) λh5 H5=>?_
 refine ss H5 ?_
 exact RunS.stP H5 λh6 H6=>k h6 (RunS.drp (RunS.none H6))
theorem YI5 (H:Sat h (RunS M T tv (some (b,o)) x R)) (O:Ok x) (hr:RowOk x (x.f.g 1)) (k:∀h',Sat h' (RunS M T tv none (WT2 x) R)→K (.tuple #[]) h') :
  Wa5 Tryz.prog 246 #[rV M T b o] h K:=by
 refine call246 ?_
 unfold F246 g246 cf ce bd lP lI nP da3 Wn6 dl3
 have B:=RunS.fB H
 have P:=RunS.pl H
 have hrr:0≤s64 (x.f.g 1)∧s64 (x.f.g 1) < 1000:=⟨hr.r.1,by have:=hr.r.2;have:=hr.e3;omega⟩
 have hr6:s64 (x.f.g 1) < 6:=by have:=hr.r.2;have:=hr.e3;omega
 unfold WT2 at k
 dsimp only at k
 have H1:=RunS.new H (.cells #[mP M,mP T,fP b o] 250);generalize h.push (.cells #[mP M,mP T,fP b o] 250)=h1 at *;generalize h.size=N at *
 refine ss H1 ?_
 refine Wa0 (Wx0 H1 λh2 o2=>?_)
 have H2:=RunS.old H1 o2
 refine ss H2 ?_
 refine Wa0 (Wf1 (B.g 3) ?_)
 refine ss H2 ?_
 refine Wa3 (λc=>?_) (λc=>?_)
 ·rw [if_pos c] at k
  refine Wa0 (Wr7 H2 λh3 o3=>WG2 ?_)
  have H3:=RunS.old H2 o3
  refine ss H3 ?_
  refine Wa0 (WK2 H3 λh4 o4=>?_)
  have H4:=RunS.old H3 o4
  refine ss H4 ?_
  rw [WK3 (n:=2*s64 (x.f.g 1)) (by omega) (by omega),WK3 (n:=2*s64 (x.f.g 1)+1) (by omega) (by omega)]
  refine Wa0 (Wp7 P O.id ⟨by omega,by omega⟩ λh5 o5=>?_)
  have H5:=RunS.old H4 o5
  refine ss H5 ?_
  refine Wa0 (Wi9 H5 (WO1 P _ _) (Wj0 _) O.st λh6 H6=>?_)
  exact RunS.stP H6 λh7 H7=>k h7 (RunS.drp (RunS.none H7))
 rw [if_neg c] at k
 refine Wa3 (λc=>?_) (λc=>?_)
 ·rw [if_pos c] at k
  refine Wa0 (WE1 H2 hrr λh3 o3=>?_)
  have H3:=RunS.old H2 o3
  refine ss H3 ?_
  refine Wa0 (Wg2 H3 (Wd1 P _ _) O.st λh4 H4 u4=>?_)
  refine ss H4 ?_
  refine Wb7 (λc2=>?_) (λc2=>?_)
  ·rw [if_pos (by simpa using c2)] at k
   exact Wa0 (WG7 H4 u4 (hr.same ⟨rfl,rfl,rfl⟩) λh5 H5=>k h5 (RunS.drp H5))
  ·rw [if_neg (by simpa using c2)] at k
   exact RunS.stP H4 λh5 H5=>k h5 (RunS.drp (RunS.none H5))
 rw [if_neg c] at k
 refine Wa3 (λc=>?_) (λc=>?_)
 ·rw [if_pos c] at k
  refine Wa0 (WE1 H2 hrr λh3 o3=>?_)
  have H3:=RunS.old H2 o3
  refine ss H3 ?_
  refine Wa0 (Wg2 H3 (Wd1 P _ _) O.st λh4 H4 u4=>?_)
  refine ss H4 ?_
  refine RunS.stR (i:=4) H4 rfl u4 λh5 H5=>RunS.stP H5 λh6 H6=>?_
  try simp +decide only [Wb8,bsx,Nat.reduceAdd,Int.reduceLE,Int.reduceLT,Int.reduceToNat,rsx,g_s,Wa8,RunS.al H6,B.len]
  refine Wa0 (Wh8 u4 ?_)
  refine ss H6 ?_
  refine Wb7 (λc2=>?_) (λc2=>?_)
  ·rw [if_pos c2] at k
   exact RunS.stP H6 λh7 H7=>k h7 (RunS.drp (RunS.none H7))
  ·rw [if_neg (by rw [c2];simp)] at k
   exact k h6 (RunS.drp (RunS.none H6))
 rw [if_neg c] at k
 refine Wa3 (λc=>?_) (λc=>?_)
 ·rw [if_pos c] at k
  refine Wa0 (Wx0 H2 λh3 o3=>?_)
  have H3:=RunS.old H2 o3
  refine ss H3 ?_
  refine Wa0 (Wf1 (B.g 4) ?_)
  refine ss H3 ?_
  refine Wa0 (Wg9 (B.g 3) ?_)
  refine ss H3 ?_
  refine Wa0 (WE1 H3 hrr λh4 o4=>?_)
  have H4:=RunS.old H3 o4
  refine ss H4 ?_
  refine Wa0 (Zp5 H4 (Wd1 P _ _) Wp6 O.st λh5 H5=>?_)
  refine ss H5 ?_
  refine Wb7 (λc2=>?_) (λc2=>?_)
  ·rw [if_neg (by simpa using c2)] at k
   exact RunS.stP H5 λh6 H6=>k h6 (RunS.drp (RunS.none H6))
  ·rw [if_pos (by simpa using c2)] at k
   exact Wa0 (WG7 H5 Wp6 (hr.same ⟨rfl,rfl,rfl⟩) λh6 H6=>k h6 (RunS.drp H6))
 rw [if_neg c] at k
 refine Wa3 (λc=>?_) (λc=>?_)
 ·rw [if_pos c] at k
  refine Wa0 (Wr7 H2 λh3 o3=>WG2 ?_)
  have H3:=RunS.old H2 o3
  refine ss H3 ?_
  have es:s64 (Wg8 (x.f.g 3))=Wg8 (x.f.g 3):=by have:=WJ9 (x.f.g 3);unfold s64;omega
  try rw [es]
  refine Wa0 (Wf4 P (W60 _) (by decide) λh4 o4=>?_)
  have H4:=RunS.old H3 o4
  refine ss H4 ?_
  refine Wa0 (Wg2 H4 (Wd1 P _ _) O.st λh5 H5 u5=>?_)
  refine ss H5 ?_
  refine Wa3 (λc2=>?_) (λc2=>?_)
  ·rw [if_pos c2] at k
   exact Wa0 (WO2 H5 (hr.same ⟨rfl,rfl,rfl⟩) λh6 H6=>k h6 (RunS.drp H6))
  ·rw [if_neg c2] at k
   exact RunS.stR (i:=2) H5 rfl (Wj0 _) λh6 H6=>RunS.stP H6 λh7 H7=>k h7 (RunS.drp (RunS.none H7))
 rw [if_neg c] at k
 exact k h2 (RunS.drp (RunS.none H2))
theorem YI6 (H:Sat h (RunS M T tv (some (b,o)) x R)) (O:Ok x) (hr:x.f.pc≠0→RowOk x (x.f.g 1)) (k:∀h',Sat h' (RunS M T tv none (WT3 x) R)→K (.tuple #[]) h') :
  Wa5 Tryz.prog 166 #[rV M T b o] h K:=by
 refine call166 ?_
 unfold F166 g166 cf bd lP lI nP da3 dc3 Wn6 dl3 ce
 have B:=RunS.fB H
 have P:=RunS.pl H
 unfold WT3 at k
 dsimp only at k
 have H1:=RunS.new H (.cells #[mP M,mP T,fP b o] 250);generalize h.push (.cells #[mP M,mP T,fP b o] 250)=h1 at *;generalize h.size=N at *
 refine ss H1 ?_
 refine Wa3 (λc=>?_) (λc=>?_)
 ·rw [if_pos c] at k
  exact Wa0 (Yo9 H1 λh2 H2=>k h2 (RunS.drp H2))
 rw [if_neg c] at k
 have hr:=hr c
 have hrr:0≤s64 (x.f.g 1)∧s64 (x.f.g 1) < 1000:=⟨hr.r.1,by have:=hr.r.2;have:=hr.e3;omega⟩
 have hr6:s64 (x.f.g 1) < 6:=by have:=hr.r.2;have:=hr.e3;omega
 refine Wa3 (λc=>?_) (λc=>?_)
 ·rw [if_pos c] at k
  refine Wa0 (Wr7 H1 λh3 o3=>WG2 ?_)
  have H3:=RunS.old H1 o3
  refine ss H3 ?_
  refine Wa0 (WK2 H3 λh4 o4=>?_)
  have H4:=RunS.old H3 o4
  refine ss H4 ?_
  rw [WK3 (n:=2*s64 (x.f.g 1)) (by omega) (by omega)]
  refine Wa0 (Wp7 P O.id ⟨by omega,by omega⟩ λh5 o5=>?_)
  have H5:=RunS.old H4 o5
  refine ss H5 ?_
  refine Wa0 (Wi9 H5 (WO1 P _ _) (B.g 2) O.st λh6 H6=>?_)
  exact RunS.stP H6 λh7 H7=>k h7 (RunS.drp (RunS.none H7))
 rw [if_neg c] at k
 refine Wa3 (λc=>?_) (λc=>?_)
 ·rw [if_pos c] at k
  refine Wa0 (WE1 H1 hrr λh3 o3=>?_)
  have H3:=RunS.old H1 o3
  refine ss H3 ?_
  refine Wa0 (Wg2 H3 (Wd1 P _ _) O.st λh4 H4 u4=>?_)
  refine ss H4 ?_
  exact Wa0 (WG7 H4 u4 (hr.same ⟨rfl,rfl,rfl⟩) λh5 H5=>k h5 (RunS.drp H5))
 rw [if_neg c] at k
 refine Wa3 (λc=>?_) (λc=>?_)
 ·rw [if_pos c] at k
  refine Wa0 (Wr7 H1 λh3 o3=>WG2 ?_)
  have H3:=RunS.old H1 o3
  refine ss H3 ?_
  refine Wa0 (Wf4 P (Wi4 _) (by decide) λh4 o4=>?_)
  have H4:=RunS.old H3 o4
  refine ss H4 ?_
  refine Wa0 (Wg2 H4 (Wd1 P _ _) O.st λh5 H5 u5=>?_)
  refine ss H5 ?_
  exact RunS.stP H5 λh7 H7=>k h7 (RunS.drp (RunS.none H7))
 rw [if_neg c] at k
 exact Wa0 (YI5 H1 O hr λh2 H2=>k h2 (RunS.drp H2))
def FOk (x:Run):Prop:=x.f.fn=20→x.f.pc≠0→RowOk x (x.f.g 1)
theorem Yp0 (H:Sat h (RunS M T tv fo x R)) (O:Ok x) (hf:FOk x) (k:∀h',Sat h' (RunS M T tv none (WA7 x) R)→K (.tuple #[]) h') :
  Wa5 Tryz.prog 112 #[mP M,mP T] h K:=by
 refine call112 ?_
 unfold F112 cf lI nP
 unfold WA7 at k
 refine Wa0 (Zf2 H (λe=>?_) λb o hne _ H1=>?_)
 ·rw [if_pos e] at k
  refine sb ?_
  refine ⟨λvs h'=>(∃w,vs = [.bool true,w])∧h' = h,⟨⟨_,rfl⟩,rfl⟩,?_⟩
  rintro v4 v5 g6 h7 ⟨⟨w,e⟩,rfl⟩
  cases e
  refine sb ?_
  exact k _ (RunS.none H)
 ·rw [if_neg hne] at k
  refine sb ?_
  refine ⟨λvs h'=>(∃w,vs = [.bool false,w])∧h' = h,⟨⟨_,rfl⟩,rfl⟩,?_⟩
  rintro v4 v5 g6 h7 ⟨⟨w,e⟩,rfl⟩
  cases e
  try simp +decide only [Wb8,bsx,Nat.reduceAdd,Int.reduceLE,Int.reduceLT,Int.reduceToNat,rsx,g_s,Wa8,RunS.r H1]
  refine Wa3 (λc=>?_) (λc=>?_)
  ·rw [if_pos c] at k
   exact Wa0 (YI6 H1 O (hf c) k)
  rw [if_neg c] at k
  exact Wa0 (Wy6 H1 O k)
end
end
section
open Mod
theorem WV5 (n:Int):IntKind.wrap .u32 n=Mod.u32 n:=WD7 n
structure RL (x:Run):Prop where
 e1:x.t.succ.length=x.t.pred.length
 e2:x.t.word.length=x.t.pred.length
 e0:1≤x.t.pred.length
 e3:x.t.pred.length≤6
theorem YA1 {p:Pl} (B:PlB p) {n r:Int} (hr:iN r):p.node n (s64 (5+r))=p.node n (5+r):=by
 have h2:=B.wi
 by_cases c:5+r < 9223372036854775808
 ·congr 1;unfold iN at hr;unfold s64;omega
 ·unfold iN at hr
  have e:s64 (5+r) < 0:=by unfold s64;omega
  unfold Pl.node
  rw [if_neg (by omega),if_neg (by omega)]
section
variable {K:Value→Wa1→Prop} {h:Wa1} {M T b o N:Nat} {tv:Value} {fo:Option (Nat × Nat)} {x:Run} {R:Hp}
structure RowsAt (h:Wa1) (T pb sb wb:Nat) (t:Thr):Prop where
 c5:Wa2 h ⟨T,5,Option.none⟩=some (.slice (some ⟨pb,0,Option.none⟩) t.pred.length t.pred.length)
 c6:Wa2 h ⟨T,6,Option.none⟩=some (.slice (some ⟨sb,0,Option.none⟩) t.pred.length t.pred.length)
 c7:Wa2 h ⟨T,7,Option.none⟩=some (.slice (some ⟨wb,0,Option.none⟩) t.pred.length t.pred.length)
 p:∀i:Nat,i < t.pred.length→Wa2 h ⟨pb,i,Option.none⟩=some (.int .u64 (t.pred.getD i 0))
 s:∀i:Nat,i < t.pred.length→Wa2 h ⟨sb,i,Option.none⟩=some (.int .u64 (t.succ.getD i 0))
 w:∀i:Nat,i < t.pred.length→Wa2 h ⟨wb,i,Option.none⟩=some (.int .u64 (t.word.getD i 0))
theorem Wx1 {h h':Wa1} {a:Addr} {v:Value} (e:Wa2 h a=some v) (o:Old h.size h h'):Wa2 h' a=some v:=(Wf9 (o.2 _ (Wq8 e))).trans e
theorem RowsAt.old {h h':Wa1} {T pb sb wb:Nat} {t:Thr} (H:RowsAt h T pb sb wb t) (o:Old h.size h h'):RowsAt h' T pb sb wb t:=
 ⟨Wx1 H.c5 o,Wx1 H.c6 o,Wx1 H.c7 o,λi hi=>Wx1 (H.p i hi) o,λi hi=>Wx1 (H.s i hi) o,λi hi=>Wx1 (H.w i hi) o⟩
theorem YI7 {h:Wa1} {a:Addr} {v:Value} (e:Wa2 h a=some v) (F:Value→Prop):ldH h a F=F v:=by unfold ldH;rw [e]
theorem RowsAt.f {h:Wa1} {T pb sb wb:Nat} {t:Thr} (H:RowsAt h T pb sb wb t):(∀F,ldH h ⟨T,5,Option.none⟩ F=F (.slice (some ⟨pb,0,Option.none⟩) t.pred.length t.pred.length))∧(∀F,ldH h ⟨T,6,Option.none⟩ F=F (.slice (some ⟨sb,0,Option.none⟩) t.pred.length t.pred.length))∧(∀F,ldH h ⟨T,7,Option.none⟩ F=F (.slice (some ⟨wb,0,Option.none⟩) t.pred.length t.pred.length)) ∧
  Wa2 h ⟨T,5,Option.none⟩=some (.slice (some ⟨pb,0,Option.none⟩) t.pred.length t.pred.length)∧Wa2 h ⟨T,6,Option.none⟩=some (.slice (some ⟨sb,0,Option.none⟩) t.pred.length t.pred.length)∧Wa2 h ⟨T,7,Option.none⟩=some (.slice (some ⟨wb,0,Option.none⟩) t.pred.length t.pred.length):=
 ⟨YI7 H.c5,YI7 H.c6,YI7 H.c7,H.c5,H.c6,H.c7⟩
theorem RowsAt.g {h:Wa1} {T pb sb wb:Nat} {t:Thr} (H:RowsAt h T pb sb wb t) {i:Nat} (hi:i < t.pred.length):(∀F,ldH h ⟨pb,i,Option.none⟩ F=F (.int .u64 (t.pred.getD i 0)))∧(∀F,ldH h ⟨sb,i,Option.none⟩ F=F (.int .u64 (t.succ.getD i 0)))∧(∀F,ldH h ⟨wb,i,Option.none⟩ F=F (.int .u64 (t.word.getD i 0))) ∧
  Wa2 h ⟨pb,i,Option.none⟩=some (.int .u64 (t.pred.getD i 0))∧Wa2 h ⟨sb,i,Option.none⟩=some (.int .u64 (t.succ.getD i 0))∧Wa2 h ⟨wb,i,Option.none⟩=some (.int .u64 (t.word.getD i 0)):=
 ⟨YI7 (H.p i hi),YI7 (H.s i hi),YI7 (H.w i hi),H.p i hi,H.s i hi,H.w i hi⟩
theorem RunS.rows (H:Sat h (RunS M T tv fo x R)) (L:RL x):∃pb sb wb:Nat,RowsAt h T pb sb wb x.t:=by
 obtain ⟨pb,sb,wb,Q,hQ,HR,re⟩:=Yo8 H
 obtain ⟨c5,c6,c7⟩:=hQ h _ HR.drop.drop.drop
 have lc:∀ {B:Nat} {l:List Int} {t:TypeId} (_:h[B]? = some (.cells (uvs l).toArray t)) (i:Nat),i < l.length→Wa2 h ⟨B,i,Option.none⟩=some (.int .u64 (l.getD i 0)):=by
  intro B l t e i hi
  have:=Zg0 e (i:=(i:Int)) (by omega) (by omega)
  rw [Int.toNat_natCast] at this
  exact this
 rw [L.e1] at c6
 rw [L.e2] at c7
 exact ⟨pb,sb,wb,c5,c6,c7,λi hi=>lc HR.at i hi,λi hi=>lc HR.drop.at i (by rw [L.e1];exact hi),λi hi=>lc HR.drop.drop.at i (by rw [L.e2];exact hi)⟩
theorem Zq2 (H:Sat h (RunS M T tv fo x R)) (us:x.m.used < 1099511627776) {K:Value→Wa1→Prop}
  {q:Nat} {R':Hp} (HF:Sat h (fdS q x.m.b x.m.used*R')) (re:∀h' u,Sat h' (fdS q x.m.b u*R')→Sat h' (RunS M T tv fo { x with m:=Mac.feed x.m u } R)) (hn:1≤x.m.p.c.level∧x.m.p.c.level≤6)
  (k:∀h',Sat h' (RunS M T tv fo { x with m:=(x.m.lvl x.m.p.c.level).2 } R)→K (.int .i64 (x.m.lvl x.m.p.c.level).1) h') :
  Wa5 Tryz.prog 250 #[mP q,.int .i64 x.m.p.c.level] h K:=by
 refine Yd2 HF us hn λh2 H2=>?_
 have H3:=re _ _ H2
 have e:x.m.lvl x.m.p.c.level=(lev (drawn x.m.b x.m.used) x.m.p.c.level.toNat 0,Mac.feed x.m (x.m.used+1)):=by
  unfold Mac.lvl Mac.take
  first
   | rfl
   | (rw [if_neg (by omega)];rfl)
 rw [e] at k
 exact k h2 H3
theorem Wz0 (H:Sat h (RunS M T tv (some (b,o)) x R)) {pc fn:Int} {a:Option Addr} {l c:Nat} {rs:List Int} (A:Args R a l c rs) (hl:l≤10) (hd:x.t.fr.length < 1073741823)
  (k:∀h' b' o',¬ (b' = b∧o' = o)→WP2 h' (some (b,o)) (x.pc pc).f→Sat h' (RunS M T tv (some (b',o')) (x.call pc fn rs) R)→K (.tuple #[]) h') :
  Wa5 Tryz.prog 247 #[rV M T b o,.int .i64 pc,.int .i64 fn,.slice a l c] h K:=by
 refine call247 ?_
 unfold F247 g247 cf lP nP
 have H1:=RunS.new H (.cells #[mP M,mP T,fP b o] 197);generalize h.push (.cells #[mP M,mP T,fP b o] 197)=h1 at *;generalize h.size=N at *
 refine sl H1 ?_
 refine RunS.stP H1 λh2 H2=>?_
 refine sl H2 ?_
 refine Wa0 (YX0 H2 A.skip hl (by show (x.t.fr.dropLast ++ [_]).length < _;simp;omega) λh3 b' o' h1 h2 H3=>k h3 b' o' (λe=>h1 b o rfl e) h2 (RunS.drp H3))
theorem WG8 (H:Sat h (RunS M T tv (some (b,o)) x R)) {pc fn:Int} {l:Nat} (rs:List Int) {ty:TypeId} (hr:rs.length=l) (hu:∀v ∈ rs,U v) (hl:Nat.ble l 10=true) (hd:x.t.fr.length < 1073741823)
  (k:∀h' b' o',¬ (b' = b∧o' = o)→WP2 h' (some (b,o)) (x.pc pc).f→Sat h' (RunS M T tv (some (b',o')) (x.call pc fn rs) R)→K (.tuple #[]) h') :
  Wa5 Tryz.prog 247 #[rV M T b o,.int .i64 pc,.int .i64 fn,.slice (some ⟨h.size,0,none⟩) l l] (h.push (.cells (uvs rs).toArray ty)) K:=
 Wz0 (RunS.new H (.cells (uvs rs).toArray ty)) (Args.mk' hr hu) (Nat.le_of_ble_eq_true hl) hd λh' b' o' h1 h2 H'=>k h' b' o' h1 h2 (RunS.drp H')
theorem Wj1 (H:Sat h (RunS M T tv fo x R)) {n f:Int} (hf:iN f) (k:∀h',Old h.size h h'→K (.int .i64 (x.na n f)) h') :
  Wa5 Tryz.prog 251 #[rV M T b o,.int .u64 n,.int .i64 f] h K:=by
 refine call251 ?_
 unfold F251 g251 cf lP Wn6
 have oo:Old h.size h (h.push (.cells #[mP M,mP T,fP b o] 197)):=(Old.refl _ _).push _ (Nat.le_refl _)
 have s1:=oo.1
 have H1:=RunS.new H (.cells #[mP M,mP T,fP b o] 197);generalize h.push (.cells #[mP M,mP T,fP b o] 197)=h1 at *;generalize h.size=N at *
 refine sl H1 ?_
 refine Wa0 (Wr7 H1 λh2 o2=>WG2 ?_)
 refine Wa0 (Wf4 (RunS.pl H) (Wi4 _) hf λh3 o3=>?_)
 refine sb ?_
 exact k h3 (oo.trans ((o2.trans (o3.mono o2.1)).mono s1))
theorem Wg3 (H:Sat h (RunS M T tv fo x R)) {n r:Int} (k:∀h',Old h.size h h'→K (.int .i64 (x.nlink n r)) h') :
  Wa5 Tryz.prog 253 #[rV M T b o,.int .u64 n,.int .u64 r] h K:=by
 refine call253 ?_
 unfold F253 g253 cf dl3
 have oo:Old h.size h (h.push (.cells #[mP M,mP T,fP b o] 197)):=(Old.refl _ _).push _ (Nat.le_refl _)
 have s1:=oo.1
 have H1:=RunS.new H (.cells #[mP M,mP T,fP b o] 197);generalize h.push (.cells #[mP M,mP T,fP b o] 197)=h1 at *;generalize h.size=N at *
 refine sl H1 ?_
 refine Wa0 (Wj1 H1 (Wi4 _) λh2 o2=>?_)
 refine sb ?_
 have e:x.na n (s64 (5+s64 r))=x.nlink n r:=YA1 (RunS.pl H) (Wi4 _)
 rw [e]
 exact k h2 (oo.trans (o2.mono s1))
theorem Wv4 (H:Sat h (RunS M T tv fo x R)) {a w t:Int} (ha:iN a) (hw:U w) (hs:x.m.mm.st < 1099511627776) (k:∀h',Sat h' (RunS M T tv fo (x.swingA a w t).2 R)→K (.bool (x.swingA a w t).1) h') :
  Wa5 Tryz.prog 254 #[rV M T b o,.int .i64 a,.int .u64 w,.int .u64 t] h K:=by
 refine call254 ?_
 unfold F254 g254 cf ce
 have H1:=RunS.new H (.cells #[mP M,mP T,fP b o] 197);generalize h.push (.cells #[mP M,mP T,fP b o] 197)=h1 at *;generalize h.size=N at *
 refine sl H1 ?_
 refine Wa0 (Wg9 hw ?_)
 refine sl H1 ?_
 refine Wa0 (Zp5 H1 ha Wp6 hs λh3 H3=>?_)
 refine sb ?_
 exact k h3 (RunS.drp H3)
theorem WE2 (H:Sat h (RunS M T tv (some (b,o)) x R)) {k7 k8 k9:Int} (h7:U k7) (h8:U k8) (h9:U k9) (hd:x.t.fr.length < 1073741823)
  (k:∀h' b' o',Sat h' (RunS M T tv (some (b',o')) (x.fin k7 k8 k9) R)→K (.tuple #[]) h') :
  Wa5 Tryz.prog 248 #[rV M T b o,.int .u64 k7,.int .u64 k8,.int .u64 k9] h K:=by
 refine call248 ?_
 unfold F248 g248 cf ce bd lP nP dl3
 have H1:=RunS.new H (.cells #[mP M,mP T,fP b o] 197);generalize h.push (.cells #[mP M,mP T,fP b o] 197)=h1 at *;generalize h.size=N at *
 refine sl H1 ?_
 refine RunS.stR (i:=7) H1 rfl h7 λh2 H2=>?_
 refine sl H2 ?_
 refine RunS.stR (i:=8) H2 rfl h8 λh3 H3=>?_
 refine sl H3 ?_
 refine RunS.stR (i:=9) H3 rfl h9 λh4 H4=>?_
 refine sl H4 ?_
 refine Wa0 (Wz0 H4 Args.none (by omega) ?_ λh5 b' o' h1 h2 H5=>k h5 b' o' (RunS.drp H5))
 have e:=List.length_pos_iff.2 (WU0 (RunS.thr H))
 show ((((x.t.fr.dropLast ++ [_]).dropLast ++ [_]).dropLast) ++ [_]).length < _
 simp
 omega
theorem WV6 (H:Sat h (RunS M T tv fo x R)) {n:Int} (hs:x.m.mm.st < 1099511627776) (k:∀h',Sat h' (RunS M T tv fo (x.drop1 n).2 R)→K (.bool (x.drop1 n).1) h') :
  Wa5 Tryz.prog 257 #[rV M T b o,.int .u64 n] h K:=by
 refine call257 ?_
 unfold F257 g257 cf ce dl3
 have P:=RunS.pl H
 have H1:=RunS.new H (.cells #[mP M,mP T,fP b o] 197);generalize h.push (.cells #[mP M,mP T,fP b o] 197)=h1 at *;generalize h.size=N at *
 refine sl H1 ?_
 refine Wa0 (Wj1 H1 (by decide) λh2 o2=>?_)
 have H2:=RunS.old H1 o2
 refine sl H2 ?_
 refine Wa0 (ZH2 H2 (Wd1 P _ _) hs λh3 H3 u3=>?_)
 refine sb ?_
 exact k h3 (RunS.drp H3)
theorem WN0 {w:Int} (hw:U w) (k:K (.int .u64 (Wg8 w)) h):Wa5 Tryz.prog 256 #[.int .u64 w] h K:=by
 refine call256 ?_
 unfold F256 cf
 refine Wa0 (Wf1 hw ?_)
 refine sb ?_
 exact k
theorem WV7 {w:Int} (hw:U w) (k:K (.bool (Wp4 w)) h):Wa5 Tryz.prog 255 #[.int .u64 w] h K:=by
 refine call255 ?_
 unfold F255 cf
 refine Wa0 (Wh8 hw ?_)
 refine sb ?_
 exact k
end
end
section
open Mod
section
variable {K:Value→Wa1→Prop} {h:Wa1} {M T b o N:Nat} {tv:Value} {fo:Option (Nat × Nat)} {x:Run} {R:Hp}
theorem RL.at {y:Run} (H:RL x) (e:y.t.pred=x.t.pred∧y.t.succ=x.t.succ∧y.t.word=x.t.word):RL y:=by
 obtain ⟨h1,h2,h3,h4⟩:=H
 exact ⟨by rw [e.1,e.2.1];exact h1,by rw [e.1,e.2.2];exact h2,by rw [e.1];exact h3,by rw [e.1];exact h4⟩
theorem RunS.woU (H:Sat h (RunS M T tv fo x R)) (i:Nat):U (x.t.word.getD i 0):=Yc7 (RunS.B H).wo i
theorem YA2 (x:Run) (a d:Int):(x.add a d).2.m.used=x.m.used:=by
 show (x.m.add a d).2.used=x.m.used
 unfold Mac.add
 dsimp only
 have:=(Wq5 x.m a).2.2.2.1
 split <;> exact this
theorem Yf1 (a b:Int):U (Wg6 a b):=by unfold Wg6 u32;constructor <;> omega
theorem YZ9 (a:Int) (g:Bool):U (WM5 a g):=by unfold WM5 u32 b2i;constructor <;> split <;> omega
theorem Y00 {w:Int} (h:U w):U (WM6 w):=by
 obtain ⟨h0,h1⟩:=h
 unfold WM6
 constructor <;> split <;> omega
theorem YA3 {w:Int} (h:U w):Mod.u64 (WJ2 w)=WJ2 w:=by
 obtain ⟨h0,h1⟩:=h
 unfold WJ2 u64;omega
theorem YA4 {w:Int} (h:U w):U (WJ2 w):=by
 obtain ⟨h0,h1⟩:=h
 unfold WJ2;constructor <;> omega
theorem Zg1 (w:Int):Mod.u64 (WT1 w)=WT1 w:=by unfold WT1 u32 u64;omega
theorem Zg2 (w:Int):U (WT1 w):=by unfold WT1 u32;constructor <;> omega
theorem Yp1 (H:Sat h (RunS M T tv (some (b,o)) x R)) (O:Ok x) (k:∀h',Sat h' (RunS M T tv none (WA8 x) R)→K (.tuple #[]) h') :
  Wa5 Tryz.prog 167 #[rV M T b o] h K:=by
 refine call167 ?_
 unfold F167 g167 cf ce bd lP lI nP da3 de7 Wn6
 have B:=RunS.fB H
 have P:=RunS.pl H
 have hd:=O.fr
 have r0:=RunS.ret H 0
 unfold WA8 at k
 dsimp only at k
 have H1:=RunS.new H (.cells #[mP M,mP T,fP b o] 199);generalize h.push (.cells #[mP M,mP T,fP b o] 199)=h1 at *;generalize h.size=N at *
 refine ss H1 ?_
 refine Wa3 (λc=>?_) (λc=>?_)
 ·rw [if_pos c] at k
  exact Wa0 (Wz0 H1 Args.none (by omega) (by omega) λh2 b' o' _ _ H2=>k h2 (RunS.drp (RunS.none H2)))
 rw [if_neg c] at k
 refine Wa3 (λc=>?_) (λc=>?_)
 ·rw [if_pos c] at k
  refine RunS.stR (i:=2) H1 rfl r0 λh2 H2=>?_
  try simp +decide only [Wb8,bsx,Nat.reduceAdd,Int.reduceLE,Int.reduceLT,Int.reduceToNat,rsx,g_s,Wa8,RunS.al H2,B.len]
  refine Wb7 (λc2=>?_) (λc2=>?_)
  ·have c2':x.ret 0≠0:=by simpa [Run.ret] using c2
   rw [if_pos c2'] at k
   exact RunS.stP H2 λh3 H3=>k h3 (RunS.drp (RunS.none H3))
  ·have c2':¬ x.ret 0≠0:=by simpa [Run.ret] using c2
   rw [if_neg c2'] at k
   have hfl:=Ws4 x 2 (x.ret 0)
   refine ⟨λvs h'=>(∃w,vs = [.bool (decide (x.f.g 5=0∧x.t.retired.length > 0)),w])∧Sat h' (RunS M T tv (some (b,o)) (x.s 2 (x.ret 0)) (pt N (.cells #[mP M,mP T,fP b o] 199)*R)),?_,?_⟩
   ·refine Wa3 (λc3=>?_) (λc3=>?_)
    ·refine Wa0 (Wv2 (RunS.thr H2) ?_)
     refine sb ?_
     have e:decide (((x.s 2 (x.ret 0)).t.retired.length:Int) > 0)=decide (x.f.g 5=0∧x.t.retired.length > 0):=by
      rw [decide_eq_decide]
      have e2:(x.s 2 (x.ret 0)).t.retired=x.t.retired:=rfl
      rw [e2]
      omega
     rw [e]
     exact ⟨⟨_,rfl⟩,H2⟩
    ·exact ⟨⟨_,by rw [decide_eq_false (λhh=>c3 hh.1)]⟩,H2⟩
   rintro v32 v33 g34 h35 ⟨⟨w,e⟩,H3⟩
   cases e
   refine sb ?_
   refine Wa3 (λc3=>?_) (λc3=>?_)
   ·rw [if_pos c3] at k
    refine RunS.stR (i:=5) H3 rfl (U.lit rfl) λh4 H4=>?_
    have hfl2:=Ws4 (x.s 2 (x.ret 0)) 5 1
    refine sl H4 ?_
    exact Wa0 (Wz0 H4 Args.none (by omega) (by omega) λh5 b' o' _ _ H5=>k h5 (RunS.drp (RunS.none H5)))
   ·rw [if_neg c3] at k
    refine sl H3 ?_
    exact Wa0 (WE2 H3 (U.lit rfl) U0 U0 (by omega) λh5 b' o' H5=>k h5 (RunS.drp (RunS.none H5)))
 rw [if_neg c] at k
 refine Wa3 (λc=>?_) (λc=>?_)
 ·rw [if_pos c] at k
  refine Wa0 (ZH2 H1 (by decide) O.st λh2 H2 u2=>?_)
  try simp +decide only [Wb8,bsx,Nat.reduceAdd,Int.reduceLE,Int.reduceLT,Int.reduceToNat,rsx,g_s,Wa8,RunS.al H2,WV5]
  refine Wa0 (W12 (YV0 _) (YV0 _) ?_)
  refine ss H2 ?_
  refine RunS.stR (i:=4) H2 rfl (Yf1 _ _) λh3 H3=>?_
  refine ss H3 ?_
  refine Wa0 (RunS.feed H3 λq R' HF re=>?_)
  refine ss H3 ?_
  refine Wa0 (Wr7 H3 λh4 o4=>WG2 ?_)
  have H4:=RunS.old H3 o4
  have HF4:=HF.old o4
  try simp only [Wb8,bsx,Nat.reduceAdd,Int.reduceLE,Int.reduceLT,Int.reduceToNat]
  refine Wa0 (Wh3 λh5 o5=>cf7 ?_)
  have H5:=RunS.old H4 o5
  have HF5:=HF4.old o5
  refine sb ?_
  have P5:=RunS.pl H5
  refine Wa0 (Zq2 H5 ?_ HF5 re P5.lv λh6 H6=>?_)
  ·show (x.add 3 1).2.m.used < _
   rw [YA2];exact O.us
  refine sb ?_
  refine RunS.stR (i:=3) H6 rfl (Wj9 _) λh7 H7=>RunS.stP H7 λh8 H8=>k h8 (RunS.drp (RunS.none H8))
 rw [if_neg c] at k
 exact k h1 (RunS.drp (RunS.none H1))
def Yf2 (x:Run):Run:=if x.f.pc=3 then x.store (x.na (x.f.g 2) 0) (x.f.g 4) else if x.f.pc=4 then x.store (x.na (x.f.g 2) 1) (WM5 (u32 (x.f.g 1)) false)
 else if x.f.pc=5 then x.store (x.na (x.f.g 2) 2) 2 else if x.f.pc=6 then x.store (x.na (x.f.g 2) 3) (x.f.g 3) else if x.f.pc=7 then x.store (x.na (x.f.g 2) 4) 0 else x
theorem Zg3 (x:Run):(Yf2 x).f=x.f:=by
 unfold Yf2
 split
 ·rfl
 split
 ·rfl
 split
 ·rfl
 split
 ·rfl
 split <;> rfl
theorem YI8 (H:Sat h (RunS M T tv (some (b,o)) x R)) (O:Ok x) (k:∀h',Sat h' (RunS M T tv none (WZ0 x) R)→K (.tuple #[]) h') :
  Wa5 Tryz.prog 168 #[rV M T b o] h K:=by
 refine call168 ?_
 unfold F168 g168 cf ce bd lP lI nP da3
 have B:=RunS.fB H
 have P:=RunS.pl H
 have k:∀h',Sat h' (RunS M T tv none ((Yf2 x).pc (x.f.pc+1)) R)→K (.tuple #[]) h':=k
 have H1:=RunS.new H (.cells #[mP M,mP T,fP b o] 199);generalize h.push (.cells #[mP M,mP T,fP b o] 199)=h1 at *;generalize h.size=N at *
 refine ss H1 ?_
 refine ⟨λ_ h'=>Sat h' (RunS M T tv (some (b,o)) (Yf2 x) (pt N (.cells #[mP M,mP T,fP b o] 199)*R)),?_,?_⟩
 ·unfold Yf2
  refine Wa3 (λc=>?_) (λc=>?_)
  ·rw [if_pos c]
   refine Wa0 (Wj1 H1 (by decide) λh2 o2=>?_)
   have H2:=RunS.old H1 o2
   refine ss H2 ?_
   exact Wa0 (Wi9 H2 (Wd1 P _ _) (B.g 4) O.st λh3 H3=>H3)
  rw [if_neg c]
  refine Wa3 (λc=>?_) (λc=>?_)
  ·rw [if_pos c]
   refine Wa0 (Wj1 H1 (by decide) λh2 o2=>?_)
   have H2:=RunS.old H1 o2
   try simp +decide only [Wb8,bsx,Nat.reduceAdd,Int.reduceLE,Int.reduceLT,Int.reduceToNat,rsx,g_s,Wa8,RunS.al H2,WV5]
   refine Wa0 (YG0 (YV0 _) ?_)
   refine ss H2 ?_
   exact Wa0 (Wi9 H2 (Wd1 P _ _) (YZ9 _ _) O.st λh3 H3=>H3)
  rw [if_neg c]
  refine Wa3 (λc=>?_) (λc=>?_)
  ·rw [if_pos c]
   refine Wa0 (Wj1 H1 (by decide) λh2 o2=>?_)
   have H2:=RunS.old H1 o2
   refine ss H2 ?_
   exact Wa0 (Wi9 H2 (Wd1 P _ _) (U.lit rfl) O.st λh3 H3=>H3)
  rw [if_neg c]
  refine Wa3 (λc=>?_) (λc=>?_)
  ·rw [if_pos c]
   refine Wa0 (Wj1 H1 (by decide) λh2 o2=>?_)
   have H2:=RunS.old H1 o2
   refine ss H2 ?_
   exact Wa0 (Wi9 H2 (Wd1 P _ _) (B.g 3) O.st λh3 H3=>H3)
  rw [if_neg c]
  refine Wa3 (λc=>?_) (λc=>?_)
  ·rw [if_pos c]
   refine Wa0 (Wj1 H1 (by decide) λh2 o2=>?_)
   have H2:=RunS.old H1 o2
   refine ss H2 ?_
   exact Wa0 (Wi9 H2 (Wd1 P _ _) U0 O.st λh3 H3=>H3)
  rw [if_neg c]
  exact H1
 intro v1 v2 v3 v4 v5 g6 h7 H7
 try simp +decide only [Wb8,bsx,Nat.reduceAdd,Int.reduceLE,Int.reduceLT,Int.reduceToNat,rsx,g_s,Wa8,RunS.al H7,Zg3]
 rw [WK3 (n:=x.f.pc+1) (by have:=O.pc;omega) (by have:=O.pc;omega)]
 exact RunS.stP H7 λh8 H8=>k h8 (RunS.drp (RunS.none H8))
theorem Yf3 (H:Sat h (RunS M T tv (some (b,o)) x R)) (O:Ok x) (L:RL x) (hr:x.f.pc=10→x.f.g 5 < x.t.pred.length) (k:∀h',Sat h' (RunS M T tv none (Wt6 x) R)→K (.tuple #[]) h') :
  Wa5 Tryz.prog 169 #[rV M T b o] h K:=by
 refine call169 ?_
 unfold F169 g169 cf ce bd lS lP lI nP da3
 have B:=RunS.fB H
 have P:=RunS.pl H
 have hd:=O.fr
 unfold Wt6 at k
 dsimp only at k
 have H1:=RunS.new H (.cells #[mP M,mP T,fP b o] 199);generalize h.push (.cells #[mP M,mP T,fP b o] 199)=h1 at *;generalize h.size=N at *
 refine ss H1 ?_
 refine Wa3 (λc=>?_) (λc=>?_)
 ·rw [if_pos c] at k
  refine RunS.stR (i:=5) H1 rfl U0 λh2 H2=>?_
  refine ss H2 ?_
  have l1:=Ws4 x 5 0
  exact Wa0 (WG8 H2 [x.f.g 4] rfl (Wn5 (B.g 4)) rfl (by omega) λh4 b' o' _ _ H4=>k h4 (RunS.drp (RunS.none H4)))
 rw [if_neg c] at k
 refine Wa3 (λc=>?_) (λc=>?_)
 ·rw [if_pos c] at k
  refine Wa0 (Wg3 H1 λh2 o2=>?_)
  have H2:=RunS.old H1 o2
  refine ss H2 ?_
  refine Wa0 (Wg2 H2 (Wd1 P _ _) O.st λh3 H3 u3=>?_)
  refine ss H3 ?_
  exact RunS.stR (i:=6) H3 rfl u3 λh4 H4=>RunS.stP H4 λh5 H5=>k h5 (RunS.drp (RunS.none H5))
 rw [if_neg c] at k
 refine Wa3 (λc=>?_) (λc=>?_)
 ·rw [if_pos c] at k
  have hr:=hr c
  have hr0:=(B.g 5).1
  obtain ⟨pb,sb,wb,W⟩:=RunS.rows H1 L
  have wf:=W.f
  try simp +decide only [Wb8,bsx,Nat.reduceAdd,Int.reduceLE,Int.reduceLT,Int.reduceToNat,rsx,g_s,Wa8,RunS.al H1,wf]
  refine ⟨by omega,by omega,?_⟩
  have wg:=W.g (i:=(x.f.g 5).toNat) (by omega)
  try simp +decide only [Wb8,bsx,Nat.reduceAdd,Int.reduceLE,Int.reduceLT,Int.reduceToNat,rsx,g_s,Wa8,RunS.al H1,wg]
  refine Wa0 (Wg3 H1 λh2 o2=>?_)
  have H2:=RunS.old H1 o2
  have W2:=W.old o2
  have wf2:=W2.f
  have wg2:=W2.g (i:=(x.f.g 5).toNat) (by omega)
  try simp +decide only [Wb8,bsx,Nat.reduceAdd,Int.reduceLE,Int.reduceLT,Int.reduceToNat,rsx,g_s,Wa8,RunS.al H2,wf2,wg2]
  refine Wa0 (Wg9 (B.g 6) ?_)
  refine ss H2 ?_
  refine Wa0 (Wi9 H2 (Wd1 P _ _) Wp6 O.st λh3 H3=>?_)
  refine ss H3 ?_
  refine RunS.stR (i:=5) H3 rfl (Wj9 _) λh4 H4=>?_
  try simp +decide only [Wb8,bsx,Nat.reduceAdd,Int.reduceLE,Int.reduceLT,Int.reduceToNat,rsx,g_s,Wa8,RunS.al H4]
  refine RunS.stP H4 λh5 H5=>?_
  try simp +decide only [Wb8,bsx,Nat.reduceAdd,Int.reduceLE,Int.reduceLT,Int.reduceToNat,rsx,g_s,Wa8,RunS.al H5,B.len]
  refine Wa3 (λc2=>?_) (λc2=>?_)
  ·rw [if_pos c2] at k
   exact RunS.stP H5 λh6 H6=>k h6 (RunS.drp (RunS.none H6))
  ·rw [if_neg c2] at k
   exact k h5 (RunS.drp (RunS.none H5))
 rw [if_neg c] at k
 refine Wa3 (λc=>?_) (λc=>?_)
 ·rw [if_pos c] at k
  refine RunS.stR (i:=5) H1 rfl (U.lit rfl) λh2 H2=>?_
  try simp +decide only [Wb8,bsx,Nat.reduceAdd,Int.reduceLE,Int.reduceLT,Int.reduceToNat,rsx,g_s,Wa8,RunS.al H2]
  refine RunS.stP H2 λh3 H3=>?_
  have L3:RL ((x.s 5 1).pc 8):=L.at ⟨rfl,rfl,rfl⟩
  obtain ⟨pb,sb,wb,W⟩:=RunS.rows H3 L3
  have wf:=W.f
  have l0:=L3.e0
  have wg:=W.g (i:=0) (by omega)
  try simp +decide only [Wb8,bsx,Nat.reduceAdd,Int.reduceLE,Int.reduceLT,Int.reduceToNat,rsx,g_s,Wa8,RunS.al H3,wf,wg]
  refine ⟨by omega,?_⟩
  try simp +decide only [Wb8,bsx,Nat.reduceAdd,Int.reduceLE,Int.reduceLT,Int.reduceToNat,rsx,g_s,Wa8,RunS.al H3,wf,wg]
  refine ⟨by omega,?_⟩
  try simp +decide only [Wb8,bsx,Nat.reduceAdd,Int.reduceLE,Int.reduceLT,Int.reduceToNat,rsx,g_s,Wa8,RunS.al H3,wf,wg]
  refine Wa0 (Wg3 H3 λh4 o4=>?_)
  have H4:=RunS.old H3 o4
  have W4:=W.old o4
  have wf4:=W4.f
  have wg4:=W4.g (i:=0) (by omega)
  try simp +decide only [Wb8,bsx,Nat.reduceAdd,Int.reduceLE,Int.reduceLT,Int.reduceToNat,rsx,g_s,Wa8,RunS.al H4,wf4,wg4]
  refine Wa0 (Wv4 H4 (Wd1 P _ _) (RunS.woU H4 0) O.st λh5 H5=>?_)
  refine ss H5 ?_
  refine Wb7 (λc2=>?_) (λc2=>?_)
  ·rw [if_pos c2] at k
   exact RunS.stP H5 λh6 H6=>k h6 (RunS.drp (RunS.none H6))
  ·rw [if_neg (by rw [c2];simp)] at k
   exact k h5 (RunS.drp (RunS.none H5))
 rw [if_neg c] at k
 exact k h1 (RunS.drp (RunS.none H1))
theorem Yf4 (H:Sat h (RunS M T tv (some (b,o)) x R)) (O:Ok x) (L:RL x) (hr:x.f.pc=12→x.f.g 3≤x.t.pred.length) (hr2:13≤x.f.pc→x.f.g 5 < x.t.pred.length) (k:∀h',Sat h' (RunS M T tv none (Wt7 x) R)→K (.tuple #[]) h') :
  Wa5 Tryz.prog 170 #[rV M T b o] h K:=by
 refine call170 ?_
 unfold F170 g170 cf ce bd lS lP lI nP da3
 have B:=RunS.fB H
 have P:=RunS.pl H
 have hd:=O.fr
 have hr0:=(B.g 5).1
 unfold Wt7 at k
 dsimp only at k
 have H1:=RunS.new H (.cells #[mP M,mP T,fP b o] 199);generalize h.push (.cells #[mP M,mP T,fP b o] 199)=h1 at *;generalize h.size=N at *
 refine ss H1 ?_
 refine Wa3 (λc=>?_) (λc=>?_)
 ·rw [if_pos c] at k
  have hr:=hr c
  refine Wa3 (λc2=>?_) (λc2=>?_)
  ·rw [if_pos c2] at k
   exact RunS.stP H1 λh2 H2=>k h2 (RunS.drp (RunS.none H2))
  rw [if_neg c2] at k
  have hi:x.f.g 5 < x.t.pred.length:=by omega
  refine Wa0 (Wg3 H1 λh2 o2=>?_)
  have H2:=RunS.old H1 o2
  refine ss H2 ?_
  refine Wa0 (Wg2 H2 (Wd1 P _ _) O.st λh3 H3 u3=>?_)
  refine ss H3 ?_
  refine RunS.stR (i:=6) H3 rfl u3 λh4 H4=>?_
  try simp +decide only [Wb8,bsx,Nat.reduceAdd,Int.reduceLE,Int.reduceLT,Int.reduceToNat,rsx,g_s,Wa8,RunS.al H4,B.len]
  refine Wa0 (WV7 u3 ?_)
  refine ss H4 ?_
  refine Wb7 (λc3=>?_) (λc3=>?_)
  ·rw [if_pos c3] at k
   exact RunS.stP H4 λh5 H5=>k h5 (RunS.drp (RunS.none H5))
  rw [if_neg (by rw [c3];simp)] at k
  have L4:RL ((x.load (x.nlink (x.f.g 2) (x.f.g 5))).2.s 6 (x.load (x.nlink (x.f.g 2) (x.f.g 5))).1):=L.at ⟨rfl,rfl,rfl⟩
  obtain ⟨pb,sb,wb,W⟩:=RunS.rows H4 L4
  have wf:=W.f
  try simp +decide only [Wb8,bsx,Nat.reduceAdd,Int.reduceLE,Int.reduceLT,Int.reduceToNat,rsx,g_s,Wa8,RunS.al H4,B.len,wf]
  refine ⟨by omega,hi,?_⟩
  have wg:=W.g (i:=(x.f.g 5).toNat) (by show _ < x.t.pred.length;omega)
  try simp +decide only [Wb8,bsx,Nat.reduceAdd,Int.reduceLE,Int.reduceLT,Int.reduceToNat,rsx,g_s,Wa8,RunS.al H4,wf,wg]
  refine Wa0 (WN0 u3 ?_)
  try simp +decide only [Wb8,bsx,Nat.reduceAdd,Int.reduceLE,Int.reduceLT,Int.reduceToNat,rsx,g_s,Wa8,RunS.al H4,wf,wg]
  refine Wb7 (λc3=>?_) (λc3=>?_)
  ·have c3':Wg8 (x.load (x.nlink (x.f.g 2) (x.f.g 5))).1≠x.t.succ.getD (x.f.g 5).toNat 0:=bne_iff_ne.1 c3
   rw [if_pos c3'] at k
   exact RunS.stP H4 λh5 H5=>k h5 (RunS.drp (RunS.none H5))
  ·have c3':¬ Wg8 (x.load (x.nlink (x.f.g 2) (x.f.g 5))).1≠x.t.succ.getD (x.f.g 5).toNat 0:=λhh=>hh (bne_eq_false_iff_eq.1 c3)
   rw [if_neg c3'] at k
   exact RunS.stP H4 λh5 H5=>k h5 (RunS.drp (RunS.none H5))
 rw [if_neg c] at k
 obtain ⟨pb,sb,wb,W⟩:=RunS.rows H1 L
 have wf:=W.f
 refine Wa3 (λc=>?_) (λc=>?_)
 ·rw [if_pos c] at k
  have hr:=hr2 (by omega)
  try simp +decide only [Wb8,bsx,Nat.reduceAdd,Int.reduceLE,Int.reduceLT,Int.reduceToNat,rsx,g_s,Wa8,RunS.al H1,wf]
  refine ⟨by omega,by omega,?_⟩
  have wg:=W.g (i:=(x.f.g 5).toNat) (by omega)
  try simp +decide only [Wb8,bsx,Nat.reduceAdd,Int.reduceLE,Int.reduceLT,Int.reduceToNat,rsx,g_s,Wa8,RunS.al H1,wg]
  refine Wa0 (Wg3 H1 λh2 o2=>?_)
  have H2:=RunS.old H1 o2
  have W2:=W.old o2
  have wf2:=W2.f
  have wg2:=W2.g (i:=(x.f.g 5).toNat) (by omega)
  try simp +decide only [Wb8,bsx,Nat.reduceAdd,Int.reduceLE,Int.reduceLT,Int.reduceToNat,rsx,g_s,Wa8,RunS.al H2,wf2,wg2]
  refine Wa0 (Wv4 H2 (Wd1 P _ _) (B.g 6) O.st λh3 H3=>?_)
  refine ss H3 ?_
  exact RunS.stP H3 λh5 H5=>k h5 (RunS.drp (RunS.none H5))
 rw [if_neg c] at k
 refine Wa3 (λc=>?_) (λc=>?_)
 ·rw [if_pos c] at k
  have hr:=hr2 (by omega)
  try simp +decide only [Wb8,bsx,Nat.reduceAdd,Int.reduceLE,Int.reduceLT,Int.reduceToNat,rsx,g_s,Wa8,RunS.al H1,wf]
  refine ⟨by omega,by omega,?_⟩
  have wg:=W.g (i:=(x.f.g 5).toNat) (by omega)
  try simp +decide only [Wb8,bsx,Nat.reduceAdd,Int.reduceLE,Int.reduceLT,Int.reduceToNat,rsx,g_s,Wa8,RunS.al H1,wf,wg]
  refine ⟨by omega,by omega,?_⟩
  try simp +decide only [Wb8,bsx,Nat.reduceAdd,Int.reduceLE,Int.reduceLT,Int.reduceToNat,rsx,g_s,Wa8,RunS.al H1,wf,wg]
  refine Wa0 (Wg3 H1 λh2 o2=>?_)
  have H2:=RunS.old H1 o2
  have W2:=W.old o2
  have wf2:=W2.f
  have wg2:=W2.g (i:=(x.f.g 5).toNat) (by omega)
  try simp +decide only [Wb8,bsx,Nat.reduceAdd,Int.reduceLE,Int.reduceLT,Int.reduceToNat,rsx,g_s,Wa8,RunS.al H2,wf2,wg2]
  refine Wa0 (Wv4 H2 (Wd1 P _ _) (RunS.woU H2 _) O.st λh3 H3=>?_)
  refine ss H3 ?_
  refine Wb7 (λc3=>?_) (λc3=>?_)
  ·rw [if_pos c3] at k
   refine RunS.stR (i:=5) H3 rfl (Wj9 _) λh4 H4=>?_
   try simp +decide only [Wb8,bsx,Nat.reduceAdd,Int.reduceLE,Int.reduceLT,Int.reduceToNat,rsx,g_s,Wa8,RunS.al H4]
   exact RunS.stP H4 λh5 H5=>k h5 (RunS.drp (RunS.none H5))
  ·rw [if_neg (by rw [c3];simp)] at k
   exact Wa0 (WG8 H3 [x.f.g 4] rfl (Wn5 (B.g 4)) rfl (show x.t.fr.length < _ by omega) λh4 b' o' _ _ H4=>k h4 (RunS.drp (RunS.none H4)))
 rw [if_neg c] at k
 exact k h1 (RunS.drp (RunS.none H1))
theorem Yf5 (H:Sat h (RunS M T tv (some (b,o)) x R)) (O:Ok x) (k:∀h',Sat h' (RunS M T tv none (Wt8 x) R)→K (.tuple #[]) h') :
  Wa5 Tryz.prog 171 #[rV M T b o] h K:=by
 refine call171 ?_
 unfold F171 g171 cf bd lP lI nP da3
 have B:=RunS.fB H
 have P:=RunS.pl H
 have hd:=O.fr
 unfold Wt8 at k
 dsimp only at k
 have H1:=RunS.new H (.cells #[mP M,mP T,fP b o] 199);generalize h.push (.cells #[mP M,mP T,fP b o] 199)=h1 at *;generalize h.size=N at *
 refine ss H1 ?_
 refine Wa3 (λc=>?_) (λc=>?_)
 ·rw [if_pos c] at k
  refine Wa0 (WV6 H1 O.st λh2 H2=>?_)
  refine ss H2 ?_
  refine Wb7 (λc3=>?_) (λc3=>?_)
  ·rw [if_pos c3] at k
   have ef:(x.drop1 (x.f.g 2)).2.f=x.f:=rfl
   try simp +decide only [Wb8,bsx,Nat.reduceAdd,Int.reduceLE,Int.reduceLT,Int.reduceToNat,rsx,g_s,Wa8,RunS.al H2,ef]
   exact Wa0 (WG8 H2 [x.f.g 4] rfl (Wn5 (B.g 4)) rfl (show x.t.fr.length < _ by omega) λh4 b' o' _ _ H4=>k h4 (RunS.drp (RunS.none H4)))
  ·rw [if_neg (by rw [c3];simp)] at k
   exact RunS.stP H2 λh5 H5=>k h5 (RunS.drp (RunS.none H5))
 rw [if_neg c] at k
 refine Wa3 (λc=>?_) (λc=>?_)
 ·rw [if_pos c] at k
  exact Wa0 (WG8 H1 [x.f.g 2] rfl (Wn5 (B.g 2)) rfl (by omega) λh4 b' o' _ _ H4=>k h4 (RunS.drp (RunS.none H4)))
 ·rw [if_neg c] at k
  exact Wa0 (WE2 H1 U0 U0 U0 (by omega) λh5 b' o' H5=>k h5 (RunS.drp (RunS.none H5)))
structure ZJ8 (x:Run):Prop where
 L:RL x
 a:x.f.pc=10→x.f.g 5 < x.t.pred.length
 b:x.f.pc=12→x.f.g 3≤x.t.pred.length
 c:13≤x.f.pc→x.f.pc≤14→x.f.g 5 < x.t.pred.length
theorem Yp2 (H:Sat h (RunS M T tv (some (b,o)) x R)) (O:Ok x) (S:ZJ8 x) (k:∀h',Sat h' (RunS M T tv none (WA9 x) R)→K (.tuple #[]) h') :
  Wa5 Tryz.prog 113 #[rV M T b o] h K:=by
 refine call113 ?_
 unfold F113 g113 cf lP lI nP dl3
 unfold WA9 at k
 have H1:=RunS.new H (.cells #[mP M,mP T,fP b o] 199);generalize h.push (.cells #[mP M,mP T,fP b o] 199)=h1 at *;generalize h.size=N at *
 refine ss H1 ?_
 refine Wa3 (λc=>?_) (λc=>?_)
 ·rw [if_pos c] at k
  exact Wa0 (Yp1 H1 O λh2 H2=>k h2 (RunS.drp H2))
 rw [if_neg c] at k
 refine Wa3 (λc=>?_) (λc=>?_)
 ·rw [if_pos c] at k
  exact Wa0 (YI8 H1 O λh2 H2=>k h2 (RunS.drp H2))
 rw [if_neg c] at k
 refine Wa3 (λc=>?_) (λc=>?_)
 ·rw [if_pos c] at k
  exact Wa0 (Yf3 H1 O S.L S.a λh2 H2=>k h2 (RunS.drp H2))
 rw [if_neg c] at k
 refine Wa3 (λc=>?_) (λc=>?_)
 ·rw [if_pos c] at k
  exact Wa0 (Yf4 H1 O S.L S.b (λhh=>S.c hh c) λh2 H2=>k h2 (RunS.drp H2))
 rw [if_neg c] at k
 exact Wa0 (Yf5 H1 O λh2 H2=>k h2 (RunS.drp H2))
end
end
end Go.Proofs.YtahpbclnkofhfaaGreat
