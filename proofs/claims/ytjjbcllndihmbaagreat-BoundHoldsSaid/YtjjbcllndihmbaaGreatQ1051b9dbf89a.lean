/- Part 10 of what the proofs of this seat rest on: see the last text of the claim. -/
import Derived.Test.YtjjbcllndihmbaaGreatQ7dfff6ccd037
import Derived.Test.YtjjbcllndihmbaaGreatProg
set_option linter.unusedSimpArgs false
set_option linter.unusedVariables false
set_option linter.ambiguousOpen false
set_option maxRecDepth 20000
namespace Go.Proofs.YtjjbcllndihmbaaGreat
section
set_option maxRecDepth 100000
def F27 (K:Value→Wa1→Prop) (h:Wa1) (xa xb:Option Addr):Prop:=
 (cf 42 #[.pointer xb] h λa b=>Wb2 a λa=>exI λI3=>(ifB (Option.isNone a) (I3 [.bool true] b) (I3 [.bool (Option.isNone xa)] b))∧(∀(b:Value) (c:Env) (c:Wa1),(I3 [b] c)→(asBool b λb=>ifB b (K (.tuple #[]) c) (stH (Array.push c (.cells #[.pointer none,.pointer none,.pointer none] 133)) ⟨c.size,0,none⟩ (.pointer xa) λb=>stH b ⟨c.size,1,none⟩ (.pointer xb) λb=>stH b ⟨c.size,2,none⟩ (.pointer a) λb=>exI λI11=>(nP a λd=>lI .i64 b d λd=>ifB (decide (d < 31)) (I11 [.bool true,.bool true] b) (nP a λd=>lI .i64 b d λd=>I11 [.bool (decide (d > 36)),.bool (decide (d > 36))] b))∧(∀(b d:Value) (e:Env) (e:Wa1),(I11 [b,d] e)→(asBool b λb=>ifB b (cf 52 #[.pointer xa,.pointer xb] e λb b=>K (.tuple #[]) b) (nP a λb=>lI .i64 e (Addr.add b 1) λb=>ifB (b == 90) (nP a λb=>bd 7 10 (lI .u64 e (Addr.add b 9) λb=>nP a λd=>bd 8 10 (lI .u64 e (Addr.add d 10) λd=>nP a λf=>bd 9 10 (lI .u64 e (Addr.add f 11) λf=>cf 43 #[.pointer xb,.slice (some ⟨e.size,0,none⟩) 3 3] (Array.push e (.cells #[.int .u64 b,.int .u64 d,.int .u64 f] 109)) λb b=>K (.tuple #[]) b)))) (nP a λb=>lI .i64 e b λb=>ifB (b == 31) (dl3 e c.size λb d f=>cf 53 #[.agg #[b,d,f]] e λb b=>K (.tuple #[]) b) (nP a λb=>lI .i64 e b λb=>ifB (b == 34) (dl3 e c.size λb d f=>cf 54 #[.agg #[b,d,f]] e λb b=>K (.tuple #[]) b) (nP a λb=>lI .i64 e b λb=>ifB (b == 35) (dl3 e c.size λb d f=>cf 55 #[.agg #[b,d,f]] e λb b=>K (.tuple #[]) b) (nP a λa=>lI .i64 e a λa=>ifB (a == 36) (dl3 e c.size λa b d=>cf 56 #[.agg #[a,b,d]] e λa a=>K (.tuple #[]) a) (dl3 e c.size λa b c=>cf 57 #[.agg #[a,b,c]] e λa a=>K (.tuple #[]) a))))))))))))
theorem call27 {K:Value→Wa1→Prop} {h:Wa1} {xa xb:Option Addr} (H:F27 K h xa xb):Wa5 Tryz.prog 27 #[(.pointer xa),(.pointer xb)] h K:=
 Wa4 Tryz.func27 (by kernel_rfl) (Eq.mp (by kernel_rfl) H)
def F52 (K:Value→Wa1→Prop) (h:Wa1) (xa xb:Option Addr):Prop:=
 (cf 42 #[.pointer xb] h λa b=>Wb2 a λa=>exI λI3=>(ifB (Option.isNone a) (I3 [.bool true,.bool true] b) (I3 [.bool (Option.isNone xa),.bool (Option.isNone xa)] b))∧(∀(b c:Value) (d:Env) (d:Wa1),(I3 [b,c] d)→(asBool b λb=>ifB b (K (.tuple #[]) d) (nP a λb=>lI .i64 d b λb=>ifB (b == 30) (cf 103 #[.agg #[.pointer xa,.pointer xb,.pointer a]] d λa a=>K (.tuple #[]) a) (cf 48 #[.pointer xa,.pointer xb] d λa a=>K (.tuple #[]) a)))))
theorem call52 {K:Value→Wa1→Prop} {h:Wa1} {xa xb:Option Addr} (H:F52 K h xa xb):Wa5 Tryz.prog 52 #[(.pointer xa),(.pointer xb)] h K:=
 Wa4 Tryz.func52 (by kernel_rfl) (Eq.mp (by kernel_rfl) H)
abbrev g53 (K:Value→Wa1→Prop) (h H1:Wa1):Prop:=
 (lP H1 (Addr.add ⟨h.size,0,none⟩ 2) λa=>nP a λa=>lI .i64 H1 (Addr.add a 1) λa=>ifB (decide (a≤2)) (dl3 H1 h.size λa b c=>cf 104 #[.agg #[a,b,c]] H1 λa a=>K (.tuple #[]) a) (lP H1 (Addr.add ⟨h.size,0,none⟩ 2) λa=>nP a λa=>lI .i64 H1 (Addr.add a 1) λa=>ifB (decide (a≤6)) (dl3 H1 h.size λa b c=>cf 105 #[.agg #[a,b,c]] H1 λa a=>K (.tuple #[]) a) (lP H1 (Addr.add ⟨h.size,0,none⟩ 2) λa=>nP a λa=>lI .i64 H1 (Addr.add a 1) λa=>ifB (decide (a≤10)) (dl3 H1 h.size λa b c=>cf 106 #[.agg #[a,b,c]] H1 λa a=>K (.tuple #[]) a) (lP H1 (Addr.add ⟨h.size,0,none⟩ 2) λa=>nP a λa=>lI .i64 H1 (Addr.add a 1) λa=>ifB (decide (a≤14)) (dl3 H1 h.size λa b c=>cf 107 #[.agg #[a,b,c]] H1 λa a=>K (.tuple #[]) a) (dl3 H1 h.size λa b c=>cf 108 #[.agg #[a,b,c]] H1 λa a=>K (.tuple #[]) a)))))
def F53 (K:Value→Wa1→Prop) (h:Wa1) (xa xb xc:Option Addr):Prop:=
 (g53 K h (Array.push h (.cells #[.pointer xa,.pointer xb,.pointer xc] 135)))
theorem call53 {K:Value→Wa1→Prop} {h:Wa1} {xa xb xc:Option Addr} (H:F53 K h xa xb xc):Wa5 Tryz.prog 53 #[(.agg #[(.pointer xa),(.pointer xb),(.pointer xc)])] h K:=
 Wa4 Tryz.func53 (by kernel_rfl) (Eq.mp (by kernel_rfl) H)
abbrev g54 (K:Value→Wa1→Prop) (h H1:Wa1):Prop:=
 (lP H1 (Addr.add ⟨h.size,0,none⟩ 2) λa=>nP a λb=>lI .i64 H1 (Addr.add b 1) λb=>ifB (b == 0) (ldH H1 ⟨h.size,0,none⟩ λc=>Wb2 c λd=>da3 H1 ⟨h.size,0,none⟩ λe f g=>nP a λi=>cf 109 #[.agg #[e,f,g],.int .u64 1,.int .u64 0] H1 λe f=>asInt .i64 e λe=>ce f h.size 0 c (cf 74 #[.pointer d,.int .i64 e] f λc d=>asInt .u64 c λc=>bd 0 10 (stH d (Addr.add i 2) (.int .u64 c) λc=>nP a λd=>bd 0 10 (lI .u64 c (Addr.add d 2) λd=>nP a λe=>bd 0 10 (ldH c (Addr.add e 2) λf=>asInt .u64 f λg=>nP a λi=>nP a λj=>cf 110 #[.int .u64 d] c λc d=>asInt .u64 c λc=>((Wa2 d (Addr.add e 2))=(some f))∧(cf 110 #[.int .u64 g] d λd e=>asInt .u64 d λd=>bd 1 10 (stH e (Addr.add i 3) (.int .u64 c) λc=>bd 2 10 (stH c (Addr.add j 4) (.int .u64 d) λc=>nP a λd=>stH c (Addr.add d 1) (.int .i64 1) λc=>nP a λd=>bd 0 10 (lI .u64 c (Addr.add d 2) λd=>cf 111 #[.int .u64 d] c λc d=>asBool c λc=>ifB (!c) (da3 d ⟨h.size,0,none⟩ λc e f=>cf 112 #[.agg #[c,e,f],.int .u64 0] d λc c=>K (.tuple #[]) c) (K (.tuple #[]) d)))))))))) (ifB (b == 1) (ldH H1 ⟨h.size,0,none⟩ λc=>Wb2 c λd=>da3 H1 ⟨h.size,0,none⟩ λe f g=>nP a λi=>bd 1 10 (lI .u64 H1 (Addr.add i 3) λi=>cf 109 #[.agg #[e,f,g],.int .u64 i,.int .u64 0] H1 λe f=>asInt .i64 e λe=>ce f h.size 0 c (cf 74 #[.pointer d,.int .i64 e] f λc d=>asInt .u64 c λc=>nP a λe=>cf 110 #[.int .u64 c] d λd f=>asInt .u64 d λd=>bd 2 10 (stH f (Addr.add e 4) (.int .u64 d) λd=>nP a λe=>stH d (Addr.add e 1) (.int .i64 2) λd=>cf 111 #[.int .u64 c] d λd e=>asBool d λd=>ifB d (nP a λd=>cf 110 #[.int .u64 c] e λc f=>asInt .u64 c λc=>bd 1 10 (stH f (Addr.add d 3) (.int .u64 c) λc=>nP a λd=>stH c (Addr.add d 1) (.int .i64 1) λc=>K (.tuple #[]) c)) (K (.tuple #[]) e))))) (ifB (b == 2) (da3 H1 ⟨h.size,0,none⟩ λc d e=>nP a λf=>bd 1 10 (lI .u64 H1 (Addr.add f 3) λf=>((Wa2 (Array.push H1 (.cells #[.int .u64 f] 109)) ⟨h.size,0,none⟩)=(some c))∧(((Wa2 (Array.push H1 (.cells #[.int .u64 f] 109)) (Addr.add ⟨h.size,0,none⟩ 1))=(some d))∧(((Wa2 (Array.push H1 (.cells #[.int .u64 f] 109)) (Addr.add ⟨h.size,0,none⟩ 2))=(some e))∧(cf 113 #[.agg #[c,d,e],.int .i64 3,.int .i64 36,.slice (some ⟨H1.size,0,none⟩) 1 1] (Array.push H1 (.cells #[.int .u64 f] 109)) λc c=>K (.tuple #[]) c))))) (ifB (b == 3) (da3 H1 ⟨h.size,0,none⟩ λc d e=>da3 H1 ⟨h.size,0,none⟩ λf g i=>nP a λj=>bd 0 10 (ldH H1 (Addr.add j 2) λk=>asInt .u64 k λl=>nP a λm=>bd 2 10 (ldH H1 (Addr.add m 4) λn=>asInt .u64 n λo=>cf 109 #[.agg #[f,g,i],.int .u64 1,.int .u64 0] H1 λf g=>asInt .i64 f λf=>((Wa2 g (Addr.add m 4))=(some n))∧(((Wa2 g (Addr.add j 2))=(some k))∧(ce g h.size 0 c (((Wa2 g (Addr.add ⟨h.size,0,none⟩ 1))=(some d))∧(((Wa2 g (Addr.add ⟨h.size,0,none⟩ 2))=(some e))∧(cf 114 #[.agg #[c,d,e],.int .i64 f,.int .u64 l,.int .u64 o,.bool false] g λc d=>asBool c λc=>nP a λc=>stH d (Addr.add c 1) (.int .i64 4) λc=>K (.tuple #[]) c)))))))) (ifB (b == 4) (da3 H1 ⟨h.size,0,none⟩ λb c d=>nP a λe=>bd 0 10 (lI .u64 H1 (Addr.add e 2) λe=>nP a λa=>bd 2 10 (ldH H1 (Addr.add a 4) λf=>asInt .u64 f λg=>cf 110 #[.int .u64 e] H1 λe i=>asInt .u64 e λe=>((Wa2 i (Addr.add a 4))=(some f))∧(ce i h.size 0 b (((Wa2 i (Addr.add ⟨h.size,0,none⟩ 1))=(some c))∧(((Wa2 i (Addr.add ⟨h.size,0,none⟩ 2))=(some d))∧(((Wa2 (Array.push i (.cells #[.int .u64 e,.int .u64 g] 109)) ⟨h.size,0,none⟩)=(some b))∧(((Wa2 (Array.push i (.cells #[.int .u64 e,.int .u64 g] 109)) (Addr.add ⟨h.size,0,none⟩ 1))=(some c))∧(((Wa2 (Array.push i (.cells #[.int .u64 e,.int .u64 g] 109)) (Addr.add ⟨h.size,0,none⟩ 2))=(some d))∧(cf 113 #[.agg #[b,c,d],.int .i64 5,.int .i64 35,.slice (some ⟨i.size,0,none⟩) 2 2] (Array.push i (.cells #[.int .u64 e,.int .u64 g] 109)) λa a=>K (.tuple #[]) a)))))))))) (da3 H1 ⟨h.size,0,none⟩ λa b c=>cf 112 #[.agg #[a,b,c],.int .u64 0] H1 λa a=>K (.tuple #[]) a))))))
def F54 (K:Value→Wa1→Prop) (h:Wa1) (xa xb xc:Option Addr):Prop:=
 (g54 K h (Array.push h (.cells #[.pointer xa,.pointer xb,.pointer xc] 136)))
theorem call54 {K:Value→Wa1→Prop} {h:Wa1} {xa xb xc:Option Addr} (H:F54 K h xa xb xc):Wa5 Tryz.prog 54 #[(.agg #[(.pointer xa),(.pointer xb),(.pointer xc)])] h K:=
 Wa4 Tryz.func54 (by kernel_rfl) (Eq.mp (by kernel_rfl) H)
abbrev g55 (K:Value→Wa1→Prop) (h H1:Wa1):Prop:=
 (lP H1 (Addr.add ⟨h.size,0,none⟩ 2) λa=>nP a λb=>lI .i64 H1 (Addr.add b 1) λb=>ifB (b == 0) (lP H1 ⟨h.size,0,none⟩ λc=>cf 115 #[.pointer c,.int .i64 1,.int .u64 1] H1 λc d=>asInt .u64 c λc=>nP a λc=>stH d (Addr.add c 1) (.int .i64 1) λc=>K (.tuple #[]) c) (ifB (b == 1) (nP a λb=>bd 0 10 (lI .u64 H1 (Addr.add b 2) λb=>nP a λc=>bd 1 10 (lI .u64 H1 (Addr.add c 3) λc=>ifB (b == c) (lP H1 (Addr.add ⟨h.size,0,none⟩ 1) λb=>cf 43 #[.pointer b,.slice none 0 0] H1 λb b=>K (.tuple #[]) b) (ldH H1 ⟨h.size,0,none⟩ λb=>Wb2 b λc=>da3 H1 ⟨h.size,0,none⟩ λd e f=>nP a λg=>bd 0 10 (lI .u64 H1 (Addr.add g 2) λg=>nP a λi=>cf 109 #[.agg #[d,e,f],.int .u64 g,.int .u64 0] H1 λd e=>asInt .i64 d λd=>ce e h.size 0 b (cf 74 #[.pointer c,.int .i64 d] e λb c=>asInt .u64 b λb=>cf 110 #[.int .u64 b] c λb c=>asInt .u64 b λb=>bd 2 10 (stH c (Addr.add i 4) (.int .u64 b) λb=>nP a λc=>stH b (Addr.add c 1) (.int .i64 2) λb=>K (.tuple #[]) b))))))) (nP a λb=>bd 0 10 (lI .u64 H1 (Addr.add b 2) λb=>nP a λc=>bd 2 10 (lI .u64 H1 (Addr.add c 4) λc=>nP a λa=>bd 0 10 (stH H1 (Addr.add a 2) (.int .u64 c) λa=>da3 a ⟨h.size,0,none⟩ λc d e=>cf 113 #[.agg #[c,d,e],.int .i64 1,.int .i64 5,.slice (some ⟨a.size,0,none⟩) 1 1] (Array.push a (.cells #[.int .u64 b] 109)) λa a=>K (.tuple #[]) a))))))
def F55 (K:Value→Wa1→Prop) (h:Wa1) (xa xb xc:Option Addr):Prop:=
 (g55 K h (Array.push h (.cells #[.pointer xa,.pointer xb,.pointer xc] 137)))
theorem call55 {K:Value→Wa1→Prop} {h:Wa1} {xa xb xc:Option Addr} (H:F55 K h xa xb xc):Wa5 Tryz.prog 55 #[(.agg #[(.pointer xa),(.pointer xb),(.pointer xc)])] h K:=
 Wa4 Tryz.func55 (by kernel_rfl) (Eq.mp (by kernel_rfl) H)
abbrev g56 (K:Value→Wa1→Prop) (h H1:Wa1):Prop:=
 (lP H1 (Addr.add ⟨h.size,0,none⟩ 2) λa=>nP a λb=>lI .i64 H1 (Addr.add b 1) λb=>ifB (b == 0) (lP H1 ⟨h.size,0,none⟩ λc=>nP a λd=>cf 74 #[.pointer c,.int .i64 1] H1 λc e=>asInt .u64 c λc=>bd 1 10 (stH e (Addr.add d 3) (.int .u64 c) λc=>lP c ⟨h.size,0,none⟩ λd=>nP a λe=>cf 116 #[.pointer d] c λc d=>asAgg c λc=>We1 c 15 (Wm8 c λc f g i j k l m n o p q r s t=>cf 66 #[.agg #[c,f,g,i,j,k,l,m,n,o,p,q,r,s,t]] d λc d=>asAgg c λc=>We1 c 7 (de7 c λc c c c f f f=>asInt .i64 c λc=>bd 2 10 (stH d (Addr.add e 4) (.int .u64 (IntKind.wrap .u64 (IntKind.wrap .i64 (c - 1)))) λc=>nP a λd=>stH c (Addr.add d 1) (.int .i64 1) λc=>K (.tuple #[]) c))))) (ifB (b == 1) (nP a λc=>bd 2 10 (lI .u64 H1 (Addr.add c 4) λc=>ifB (c == 0) (lP H1 (Addr.add ⟨h.size,0,none⟩ 1) λc=>cf 43 #[.pointer c,.slice none 0 0] H1 λc c=>K (.tuple #[]) c) (ldH H1 ⟨h.size,0,none⟩ λc=>Wb2 c λd=>da3 H1 ⟨h.size,0,none⟩ λe f g=>nP a λi=>bd 2 10 (lI .u64 H1 (Addr.add i 4) λi=>nP a λj=>cf 109 #[.agg #[e,f,g],.int .u64 1,.int .u64 i] H1 λe f=>asInt .i64 e λe=>ce f h.size 0 c (cf 74 #[.pointer d,.int .i64 e] f λc d=>asInt .u64 c λc=>bd 3 10 (stH d (Addr.add j 5) (.int .u64 c) λc=>nP a λd=>bd 3 10 (lI .u64 c (Addr.add d 5) λd=>nP a λe=>cf 110 #[.int .u64 d] c λc d=>asInt .u64 c λc=>bd 4 10 (stH d (Addr.add e 6) (.int .u64 c) λc=>nP a λd=>stH c (Addr.add d 1) (.int .i64 2) λc=>nP a λd=>bd 4 10 (lI .u64 c (Addr.add d 6) λd=>ifB (d == 2) (dl3 c h.size λd e f=>cf 117 #[.agg #[d,e,f]] c λd d=>K (.tuple #[]) d) (K (.tuple #[]) c)))))))))) (ifB (b == 2) (da3 H1 ⟨h.size,0,none⟩ λc d e=>nP a λf=>bd 5 10 (lI .u64 H1 (Addr.add f 7) λf=>nP a λg=>bd 4 10 (lI .u64 H1 (Addr.add g 6) λg=>cf 118 #[.agg #[c,d,e],.int .u64 f,.int .u64 g] H1 λc c=>nP a λd=>bd 5 10 (lI .u64 c (Addr.add d 7) λd=>nP a λe=>bd 5 10 (stH c (Addr.add e 7) (.int .u64 (IntKind.wrap .u64 (d+1))) λc=>nP a λd=>stH c (Addr.add d 1) (.int .i64 3) λc=>K (.tuple #[]) c))))) (ifB (b == 3) (nP a λb=>stH H1 (Addr.add b 1) (.int .i64 4) λb=>lP b ⟨h.size,0,none⟩ λc=>nP a λd=>bd 1 10 (ldH b (Addr.add d 3) λe=>asInt .u64 e λf=>cf 74 #[.pointer c,.int .i64 1] b λb c=>asInt .u64 b λb=>((Wa2 c (Addr.add d 3))=(some e))∧(ifB (b != f) (nP a λa=>stH c (Addr.add a 1) (.int .i64 0) λa=>K (.tuple #[]) a) (K (.tuple #[]) c)))) (dl3 H1 h.size λa b c=>cf 119 #[.agg #[a,b,c]] H1 λa a=>K (.tuple #[]) a)))))
def F56 (K:Value→Wa1→Prop) (h:Wa1) (xa xb xc:Option Addr):Prop:=
 (g56 K h (Array.push h (.cells #[.pointer xa,.pointer xb,.pointer xc] 138)))
theorem call56 {K:Value→Wa1→Prop} {h:Wa1} {xa xb xc:Option Addr} (H:F56 K h xa xb xc):Wa5 Tryz.prog 56 #[(.agg #[(.pointer xa),(.pointer xb),(.pointer xc)])] h K:=
 Wa4 Tryz.func56 (by kernel_rfl) (Eq.mp (by kernel_rfl) H)
abbrev g57 (K:Value→Wa1→Prop) (h H1:Wa1):Prop:=
 (lP H1 (Addr.add ⟨h.size,0,none⟩ 2) λa=>nP a λa=>lI .i64 H1 (Addr.add a 1) λa=>ifB (decide (a≤4)) (dl3 H1 h.size λa b c=>cf 120 #[.agg #[a,b,c]] H1 λa a=>K (.tuple #[]) a) (lP H1 (Addr.add ⟨h.size,0,none⟩ 2) λa=>nP a λa=>lI .i64 H1 (Addr.add a 1) λa=>ifB (decide (a≤8)) (dl3 H1 h.size λa b c=>cf 121 #[.agg #[a,b,c]] H1 λa a=>K (.tuple #[]) a) (lP H1 (Addr.add ⟨h.size,0,none⟩ 2) λa=>nP a λa=>lI .i64 H1 (Addr.add a 1) λa=>ifB (decide (a≤10)) (dl3 H1 h.size λa b c=>cf 122 #[.agg #[a,b,c]] H1 λa a=>K (.tuple #[]) a) (dl3 H1 h.size λa b c=>cf 123 #[.agg #[a,b,c]] H1 λa a=>K (.tuple #[]) a))))
def F57 (K:Value→Wa1→Prop) (h:Wa1) (xa xb xc:Option Addr):Prop:=
 (g57 K h (Array.push h (.cells #[.pointer xa,.pointer xb,.pointer xc] 139)))
theorem call57 {K:Value→Wa1→Prop} {h:Wa1} {xa xb xc:Option Addr} (H:F57 K h xa xb xc):Wa5 Tryz.prog 57 #[(.agg #[(.pointer xa),(.pointer xb),(.pointer xc)])] h K:=
 Wa4 Tryz.func57 (by kernel_rfl) (Eq.mp (by kernel_rfl) H)
abbrev g103 (K:Value→Wa1→Prop) (h H1:Wa1):Prop:=
 (lP H1 (Addr.add ⟨h.size,0,none⟩ 2) λa=>nP a λb=>lI .i64 H1 (Addr.add b 1) λb=>ifB (b == 0) (dl3 H1 h.size λc d e=>cf 185 #[.agg #[c,d,e]] H1 λc c=>K (.tuple #[]) c) (ifB (b == 1) (ldH H1 ⟨h.size,0,none⟩ λc=>Wb2 c λd=>da3 H1 ⟨h.size,0,none⟩ λe f g=>da3 H1 ⟨h.size,0,none⟩ λi j k=>nP a λl=>bd 3 10 (ldH H1 (Addr.add l 5) λm=>asInt .u64 m λn=>cf 187 #[.agg #[i,j,k]] H1 λi j=>asInt .i64 i λi=>((Wa2 j (Addr.add l 5))=(some m))∧(ce j h.size 0 e (((Wa2 j (Addr.add ⟨h.size,0,none⟩ 1))=(some f))∧(((Wa2 j (Addr.add ⟨h.size,0,none⟩ 2))=(some g))∧(ce j h.size 0 c (cf 186 #[.agg #[e,f,g],.int .i64 (IntKind.wrap .i64 (2*i))] j λe f=>asInt .i64 e λe=>((Wa2 f (Addr.add l 5))=(some m))∧(ce f h.size 0 c (cf 135 #[.pointer d,.int .i64 e,.int .u64 n] f λc c=>nP a λd=>stH c (Addr.add d 1) (.int .i64 2) λc=>K (.tuple #[]) c))))))))) (ifB (b == 2) (ldH H1 ⟨h.size,0,none⟩ λc=>Wb2 c λd=>da3 H1 ⟨h.size,0,none⟩ λe f g=>nP a λi=>bd 3 10 (ldH H1 (Addr.add i 5) λj=>asInt .u64 j λk=>da3 H1 ⟨h.size,0,none⟩ λl m n=>nP a λo=>cf 187 #[.agg #[l,m,n]] H1 λl m=>asInt .i64 l λl=>((Wa2 m (Addr.add i 5))=(some j))∧(ce m h.size 0 e (((Wa2 m (Addr.add ⟨h.size,0,none⟩ 1))=(some f))∧(((Wa2 m (Addr.add ⟨h.size,0,none⟩ 2))=(some g))∧(ce m h.size 0 c (cf 188 #[.agg #[e,f,g],.int .u64 k,.int .i64 (IntKind.wrap .i64 (5+l))] m λe f=>asInt .i64 e λe=>ce f h.size 0 c (cf 74 #[.pointer d,.int .i64 e] f λc d=>asInt .u64 c λc=>bd 4 10 (stH d (Addr.add o 6) (.int .u64 c) λc=>nP a λd=>stH c (Addr.add d 1) (.int .i64 3) λc=>da3 c ⟨h.size,0,none⟩ λd e f=>cf 189 #[.agg #[d,e,f]] c λc d=>asInt .u64 c λc=>ifB (c == 2) (dl3 d h.size λc e f=>cf 190 #[.agg #[c,e,f]] d λc c=>K (.tuple #[]) c) (K (.tuple #[]) d)))))))))) (ifB (b == 3) (ldH H1 ⟨h.size,0,none⟩ λc=>Wb2 c λd=>da3 H1 ⟨h.size,0,none⟩ λe f g=>da3 H1 ⟨h.size,0,none⟩ λi j k=>da3 H1 ⟨h.size,0,none⟩ λl m n=>cf 187 #[.agg #[i,j,k]] H1 λi j=>asInt .i64 i λi=>ce j h.size 0 l (((Wa2 j (Addr.add ⟨h.size,0,none⟩ 1))=(some m))∧(((Wa2 j (Addr.add ⟨h.size,0,none⟩ 2))=(some n))∧(ce j h.size 0 e (((Wa2 j (Addr.add ⟨h.size,0,none⟩ 1))=(some f))∧(((Wa2 j (Addr.add ⟨h.size,0,none⟩ 2))=(some g))∧(ce j h.size 0 c (cf 186 #[.agg #[e,f,g],.int .i64 (IntKind.wrap .i64 ((IntKind.wrap .i64 (2*i))+1))] j λe f=>asInt .i64 e λe=>ce f h.size 0 l (((Wa2 f (Addr.add ⟨h.size,0,none⟩ 1))=(some m))∧(((Wa2 f (Addr.add ⟨h.size,0,none⟩ 2))=(some n))∧(ce f h.size 0 c (cf 189 #[.agg #[l,m,n]] f λf g=>asInt .u64 f λf=>ce g h.size 0 c (cf 135 #[.pointer d,.int .i64 e,.int .u64 f] g λc c=>nP a λd=>stH c (Addr.add d 1) (.int .i64 4) λc=>K (.tuple #[]) c))))))))))))) (ifB (b == 4) (dl3 H1 h.size λc d e=>cf 191 #[.agg #[c,d,e]] H1 λc c=>K (.tuple #[]) c) (ifB (b == 5) (nP a λb=>stH H1 (Addr.add b 1) (.int .i64 6) λb=>ldH b ⟨h.size,0,none⟩ λc=>Wb2 c λd=>da3 b ⟨h.size,0,none⟩ λe f g=>da3 b ⟨h.size,0,none⟩ λi j k=>cf 189 #[.agg #[i,j,k]] b λb i=>asInt .u64 b λb=>ce i h.size 0 e (((Wa2 i (Addr.add ⟨h.size,0,none⟩ 1))=(some f))∧(((Wa2 i (Addr.add ⟨h.size,0,none⟩ 2))=(some g))∧(ce i h.size 0 c (cf 188 #[.agg #[e,f,g],.int .u64 b,.int .i64 5] i λb e=>asInt .i64 b λb=>ce e h.size 0 c (cf 74 #[.pointer d,.int .i64 b] e λb c=>asInt .u64 b λb=>cf 149 #[.int .u64 b] c λb c=>asBool b λb=>ifB b (dl3 c h.size λb d e=>cf 192 #[.agg #[b,d,e]] c λb b=>K (.tuple #[]) b) (K (.tuple #[]) c))))))) (ldH H1 ⟨h.size,0,none⟩ λb=>Wb2 b λc=>da3 H1 ⟨h.size,0,none⟩ λd e f=>da3 H1 ⟨h.size,0,none⟩ λg i j=>nP a λa=>bd 0 10 (ldH H1 (Addr.add a 2) λk=>asInt .u64 k λl=>cf 189 #[.agg #[g,i,j]] H1 λg i=>asInt .u64 g λg=>((Wa2 i (Addr.add a 2))=(some k))∧(ce i h.size 0 d (((Wa2 i (Addr.add ⟨h.size,0,none⟩ 1))=(some e))∧(((Wa2 i (Addr.add ⟨h.size,0,none⟩ 2))=(some f))∧(ce i h.size 0 b (cf 188 #[.agg #[d,e,f],.int .u64 g,.int .i64 0] i λd e=>asInt .i64 d λd=>((Wa2 e (Addr.add a 2))=(some k))∧(ce e h.size 0 b (cf 74 #[.pointer c,.int .i64 d] e λb c=>asInt .u64 b λb=>((Wa2 c (Addr.add a 2))=(some k))∧(ifB (decide (b < l)) (dl3 c h.size λa b d=>cf 192 #[.agg #[a,b,d]] c λa a=>K (.tuple #[]) a) (dl3 c h.size λa b d=>cf 190 #[.agg #[a,b,d]] c λa a=>K (.tuple #[]) a)))))))))))))))))
def F103 (K:Value→Wa1→Prop) (h:Wa1) (xa xb xc:Option Addr):Prop:=
 (g103 K h (Array.push h (.cells #[.pointer xa,.pointer xb,.pointer xc] 173)))
theorem call103 {K:Value→Wa1→Prop} {h:Wa1} {xa xb xc:Option Addr} (H:F103 K h xa xb xc):Wa5 Tryz.prog 103 #[(.agg #[(.pointer xa),(.pointer xb),(.pointer xc)])] h K:=
 Wa4 Tryz.func103 (by kernel_rfl) (Eq.mp (by kernel_rfl) H)
abbrev g104 (K:Value→Wa1→Prop) (h H1:Wa1):Prop:=
 (lP H1 (Addr.add ⟨h.size,0,none⟩ 2) λa=>nP a λb=>lI .i64 H1 (Addr.add b 1) λb=>ifB (b == 0) (da3 H1 ⟨h.size,0,none⟩ λc d e=>cf 113 #[.agg #[c,d,e],.int .i64 1,.int .i64 1,.slice none 0 0] H1 λc c=>K (.tuple #[]) c) (ifB (b == 1) (lP H1 (Addr.add ⟨h.size,0,none⟩ 1) λc=>nP c λc=>bd 0 3 (lI .u64 H1 (Addr.add c 2) λc=>nP a λd=>bd 2 10 (stH H1 (Addr.add d 4) (.int .u64 c) λc=>nP a λd=>bd 2 10 (lI .u64 c (Addr.add d 4) λd=>ifB (d != 0) (nP a λd=>stH c (Addr.add d 1) (.int .i64 2) λd=>K (.tuple #[]) d) (exI λI22=>(nP a λd=>bd 5 10 (lI .u64 c (Addr.add d 7) λd=>ifB (d == 0) (lP c (Addr.add ⟨h.size,0,none⟩ 1) λd=>nP d λd=>cf 134 #[.pointer (some (Addr.add d 8))] c λd e=>asInt .i64 d λd=>I22 [.bool (decide (d > 0)),.bool (decide (d > 0))] e) (I22 [.bool false,.bool false] c)))∧(∀(c d:Value) (e:Env) (e:Wa1),(I22 [c,d] e)→(asBool c λc=>ifB c (nP a λc=>bd 5 10 (stH e (Addr.add c 7) (.int .u64 1) λc=>da3 c ⟨h.size,0,none⟩ λd f g=>cf 113 #[.agg #[d,f,g],.int .i64 0,.int .i64 6,.slice none 0 0] c λc c=>K (.tuple #[]) c)) (da3 e ⟨h.size,0,none⟩ λc d f=>cf 112 #[.agg #[c,d,f],.int .u64 1] e λc c=>K (.tuple #[]) c)))))))) (ifB (b == 2) (nP a λb=>bd 0 10 (ldH H1 (Addr.add b 2) λc=>asInt .u64 c λd=>lP H1 ⟨h.size,0,none⟩ λe=>nP a λf=>cf 115 #[.pointer e,.int .i64 3,.int .u64 1] H1 λe g=>asInt .u64 e λe=>((Wa2 g (Addr.add b 2))=(some c))∧(cf 172 #[.int .u32 (IntKind.wrap .u32 d),.int .u32 (IntKind.wrap .u32 e)] g λb c=>asInt .u64 b λb=>bd 4 10 (stH c (Addr.add f 6) (.int .u64 b) λb=>lP b ⟨h.size,0,none⟩ λc=>ldH b ⟨h.size,0,none⟩ λd=>Wb2 d λe=>nP a λf=>cf 137 #[.pointer c] b λb c=>Wb2 b λb=>ce c h.size 0 d (cf 116 #[.pointer e] c λc d=>asAgg c λc=>We1 c 15 (Wm8 c λc e g i j k l m n o p q r s t=>cf 66 #[.agg #[c,e,g,i,j,k,l,m,n,o,p,q,r,s,t]] d λc d=>asAgg c λc=>We1 c 7 (de7 c λc c c c e e e=>asInt .i64 c λc=>cf 173 #[.pointer b,.int .i64 c] d λb c=>asInt .i64 b λb=>bd 3 10 (stH c (Addr.add f 5) (.int .u64 (IntKind.wrap .u64 b)) λb=>nP a λa=>stH b (Addr.add a 1) (.int .i64 3) λa=>K (.tuple #[]) a)))))))) (K (.tuple #[]) H1))))
def F104 (K:Value→Wa1→Prop) (h:Wa1) (xa xb xc:Option Addr):Prop:=
 (g104 K h (Array.push h (.cells #[.pointer xa,.pointer xb,.pointer xc] 135)))
theorem call104 {K:Value→Wa1→Prop} {h:Wa1} {xa xb xc:Option Addr} (H:F104 K h xa xb xc):Wa5 Tryz.prog 104 #[(.agg #[(.pointer xa),(.pointer xb),(.pointer xc)])] h K:=
 Wa4 Tryz.func104 (by kernel_rfl) (Eq.mp (by kernel_rfl) H)
abbrev g105 (K:Value→Wa1→Prop) (h H1:Wa1):Prop:=
 (lP H1 (Addr.add ⟨h.size,0,none⟩ 2) λa=>nP a λb=>bd 2 10 (lI .u64 H1 (Addr.add b 4) λb=>exI λI5=>(nP a λc=>lI .i64 H1 (Addr.add c 1) λc=>ifB (c == 3) (ldH H1 ⟨h.size,0,none⟩ λd=>Wb2 d λe=>da3 H1 ⟨h.size,0,none⟩ λf g i=>nP a λj=>bd 4 10 (ldH H1 (Addr.add j 6) λk=>asInt .u64 k λl=>cf 193 #[.agg #[f,g,i],.int .u64 b,.int .i64 0] H1 λf g=>asInt .i64 f λf=>((Wa2 g (Addr.add j 6))=(some k))∧(ce g h.size 0 d (cf 135 #[.pointer e,.int .i64 f,.int .u64 l] g λd d=>I5 [.bool true,.tuple #[],.tuple #[],.tuple #[]] d)))) (ifB (c == 4) (ldH H1 ⟨h.size,0,none⟩ λd=>Wb2 d λe=>da3 H1 ⟨h.size,0,none⟩ λf g i=>nP a λj=>bd 1 10 (ldH H1 (Addr.add j 3) λk=>asInt .u64 k λl=>cf 193 #[.agg #[f,g,i],.int .u64 b,.int .i64 1] H1 λf g=>asInt .i64 f λf=>((Wa2 g (Addr.add j 3))=(some k))∧(ce g h.size 0 d (cf 135 #[.pointer e,.int .i64 f,.int .u64 l] g λd d=>I5 [.bool false,.bool true,.tuple #[],.tuple #[]] d)))) (ifB (c == 5) (ldH H1 ⟨h.size,0,none⟩ λd=>Wb2 d λe=>da3 H1 ⟨h.size,0,none⟩ λf g i=>cf 193 #[.agg #[f,g,i],.int .u64 b,.int .i64 2] H1 λf g=>asInt .i64 f λf=>ce g h.size 0 d (cf 135 #[.pointer e,.int .i64 f,.int .u64 1] g λd d=>I5 [.bool false,.bool false,.bool true,.tuple #[]] d)) (ifB (c == 6) (ldH H1 ⟨h.size,0,none⟩ λc=>Wb2 c λd=>da3 H1 ⟨h.size,0,none⟩ λe f g=>nP a λi=>bd 3 10 (ldH H1 (Addr.add i 5) λj=>asInt .u64 j λk=>cf 193 #[.agg #[e,f,g],.int .u64 b,.int .i64 3] H1 λb e=>asInt .i64 b λb=>((Wa2 e (Addr.add i 5))=(some j))∧(ce e h.size 0 c (cf 135 #[.pointer d,.int .i64 b,.int .u64 k] e λb b=>I5 [.bool false,.bool false,.bool false,.bool true] b)))) (I5 [.bool false,.bool false,.bool false,.bool false] H1)))))∧(∀(b c d e:Value) (f:Env) (f:Wa1),(I5 [b,c,d,e] f)→(nP a λb=>lI .i64 f (Addr.add b 1) λb=>nP a λa=>stH f (Addr.add a 1) (.int .i64 (IntKind.wrap .i64 (b+1))) λa=>K (.tuple #[]) a))))
def F105 (K:Value→Wa1→Prop) (h:Wa1) (xa xb xc:Option Addr):Prop:=
 (g105 K h (Array.push h (.cells #[.pointer xa,.pointer xb,.pointer xc] 135)))
theorem call105 {K:Value→Wa1→Prop} {h:Wa1} {xa xb xc:Option Addr} (H:F105 K h xa xb xc):Wa5 Tryz.prog 105 #[(.agg #[(.pointer xa),(.pointer xb),(.pointer xc)])] h K:=
 Wa4 Tryz.func105 (by kernel_rfl) (Eq.mp (by kernel_rfl) H)
abbrev g106 (K:Value→Wa1→Prop) (h H1:Wa1):Prop:=
 (lP H1 (Addr.add ⟨h.size,0,none⟩ 2) λa=>nP a λb=>bd 2 10 (lI .u64 H1 (Addr.add b 4) λb=>nP a λc=>lI .i64 H1 (Addr.add c 1) λc=>ifB (c == 7) (da3 H1 ⟨h.size,0,none⟩ λd e f=>nP a λg=>bd 4 10 (lI .u64 H1 (Addr.add g 6) λg=>((Wa2 (Array.push H1 (.cells #[.int .u64 g] 109)) ⟨h.size,0,none⟩)=(some d))∧(((Wa2 (Array.push H1 (.cells #[.int .u64 g] 109)) (Addr.add ⟨h.size,0,none⟩ 1))=(some e))∧(((Wa2 (Array.push H1 (.cells #[.int .u64 g] 109)) (Addr.add ⟨h.size,0,none⟩ 2))=(some f))∧(cf 113 #[.agg #[d,e,f],.int .i64 8,.int .i64 30,.slice (some ⟨H1.size,0,none⟩) 1 1] (Array.push H1 (.cells #[.int .u64 g] 109)) λd d=>K (.tuple #[]) d))))) (ifB (c == 8) (lP H1 (Addr.add ⟨h.size,0,none⟩ 1) λd=>nP d λd=>bd 0 3 (lI .u64 H1 (Addr.add d 2) λd=>nP a λe=>bd 7 10 (stH H1 (Addr.add e 9) (.int .u64 d) λd=>ldH d ⟨h.size,0,none⟩ λe=>Wb2 e λf=>da3 d ⟨h.size,0,none⟩ λg i j=>nP a λk=>cf 109 #[.agg #[g,i,j],.int .u64 b,.int .u64 0] d λd g=>asInt .i64 d λd=>ce g h.size 0 e (cf 74 #[.pointer f,.int .i64 d] g λd e=>asInt .u64 d λd=>bd 6 10 (stH e (Addr.add k 8) (.int .u64 d) λd=>nP a λe=>stH d (Addr.add e 1) (.int .i64 9) λd=>K (.tuple #[]) d))))) (ifB (c == 9) (ldH H1 ⟨h.size,0,none⟩ λd=>Wb2 d λe=>da3 H1 ⟨h.size,0,none⟩ λf g i=>nP a λj=>bd 6 10 (ldH H1 (Addr.add j 8) λk=>asInt .u64 k λl=>ldH H1 (Addr.add ⟨h.size,0,none⟩ 1) λm=>Wb2 m λn=>nP n λn=>ldH H1 (Addr.add n 6) λo=>Wb5 o λp q r=>bd 0 (q:Int) (Wd2 (.pointer p) λp=>ldH H1 p λq=>asInt .u64 q λr=>cf 109 #[.agg #[f,g,i],.int .u64 b,.int .u64 0] H1 λf g=>asInt .i64 f λf=>((Wa2 g p)=(some q))∧(((Wa2 g (Addr.add n 6))=(some o))∧(((Wa2 g (Addr.add ⟨h.size,0,none⟩ 1))=(some m))∧(((Wa2 g (Addr.add j 8))=(some k))∧(ce g h.size 0 d (cf 151 #[.int .u64 l,.int .i64 (IntKind.wrap .i64 r),.bool false] g λg i=>asInt .u64 g λg=>ce i h.size 0 d (cf 135 #[.pointer e,.int .i64 f,.int .u64 g] i λd d=>nP a λe=>stH d (Addr.add e 1) (.int .i64 10) λd=>K (.tuple #[]) d))))))))) (ifB (c == 10) (nP a λc=>bd 5 10 (stH H1 (Addr.add c 7) (.int .u64 1) λc=>nP a λd=>stH c (Addr.add d 1) (.int .i64 7) λc=>da3 c ⟨h.size,0,none⟩ λd e f=>da3 c ⟨h.size,0,none⟩ λg i j=>lP c (Addr.add ⟨h.size,0,none⟩ 1) λk=>nP k λk=>lS c (Addr.add k 5) λk l m=>bd 0 (l:Int) (Wd2 (.pointer k) λk=>lI .u64 c k λk=>ldH c (Addr.add ⟨h.size,0,none⟩ 1) λl=>Wb2 l λm=>nP m λm=>ldH c (Addr.add m 7) λn=>Wb5 n λo p q=>bd 0 (p:Int) (Wd2 (.pointer o) λo=>ldH c o λp=>asInt .u64 p λq=>cf 109 #[.agg #[g,i,j],.int .u64 k,.int .u64 0] c λc g=>asInt .i64 c λc=>((Wa2 g o)=(some p))∧(((Wa2 g (Addr.add m 7))=(some n))∧(((Wa2 g (Addr.add ⟨h.size,0,none⟩ 1))=(some l))∧(ce g h.size 0 d (((Wa2 g (Addr.add ⟨h.size,0,none⟩ 1))=(some e))∧(((Wa2 g (Addr.add ⟨h.size,0,none⟩ 2))=(some f))∧(cf 114 #[.agg #[d,e,f],.int .i64 c,.int .u64 q,.int .u64 b,.bool false] g λb c=>asBool b λb=>ifB b (nP a λa=>stH c (Addr.add a 1) (.int .i64 11) λa=>K (.tuple #[]) a) (K (.tuple #[]) c))))))))))) (K (.tuple #[]) H1))))))
def F106 (K:Value→Wa1→Prop) (h:Wa1) (xa xb xc:Option Addr):Prop:=
 (g106 K h (Array.push h (.cells #[.pointer xa,.pointer xb,.pointer xc] 135)))
theorem call106 {K:Value→Wa1→Prop} {h:Wa1} {xa xb xc:Option Addr} (H:F106 K h xa xb xc):Wa5 Tryz.prog 106 #[(.agg #[(.pointer xa),(.pointer xb),(.pointer xc)])] h K:=
 Wa4 Tryz.func106 (by kernel_rfl) (Eq.mp (by kernel_rfl) H)
abbrev g107 (K:Value→Wa1→Prop) (h H1:Wa1):Prop:=
 (lP H1 (Addr.add ⟨h.size,0,none⟩ 2) λa=>nP a λb=>bd 2 10 (lI .u64 H1 (Addr.add b 4) λb=>nP a λc=>bd 5 10 (lI .u64 H1 (Addr.add c 7) λc=>nP a λd=>lI .i64 H1 (Addr.add d 1) λd=>ifB (d == 11) (nP a λe=>bd 3 10 (lI .u64 H1 (Addr.add e 5) λe=>ifB (decide (c ≥ e)) (nP a λe=>stH H1 (Addr.add e 1) (.int .i64 17) λe=>K (.tuple #[]) e) (nP a λe=>stH H1 (Addr.add e 1) (.int .i64 12) λe=>ldH e ⟨h.size,0,none⟩ λf=>Wb2 f λg=>da3 e ⟨h.size,0,none⟩ λi j k=>cf 109 #[.agg #[i,j,k],.int .u64 b,.int .u64 0] e λe i=>asInt .i64 e λe=>ce i h.size 0 f (cf 74 #[.pointer g,.int .i64 e] i λe f=>asInt .u64 e λe=>cf 111 #[.int .u64 e] f λe f=>asBool e λe=>ifB e (nP a λe=>stH f (Addr.add e 1) (.int .i64 17) λe=>K (.tuple #[]) e) (K (.tuple #[]) f))))) (ifB (d == 12) (nP a λe=>stH H1 (Addr.add e 1) (.int .i64 13) λe=>lP e (Addr.add ⟨h.size,0,none⟩ 1) λf=>nP f λf=>lS e (Addr.add f 6) λf g i=>bd c (g:Int) (Wd2 (.pointer f) λf=>lI .u64 e (Addr.add f (c.toNat*1)) λf=>exI λI46=>(ifB (f != 2) (nP a λg=>bd 7 10 (lI .u64 e (Addr.add g 9) λg=>ifB (f == g) (I46 [.bool true,.bool true] e) (ldH e ⟨h.size,0,none⟩ λg=>Wb2 g λi=>da3 e ⟨h.size,0,none⟩ λj k l=>cf 109 #[.agg #[j,k,l],.int .u64 f,.int .u64 0] e λf j=>asInt .i64 f λf=>ce j h.size 0 g (cf 74 #[.pointer i,.int .i64 f] j λf g=>asInt .u64 f λf=>cf 111 #[.int .u64 f] g λf g=>asBool f λf=>I46 [.bool f,.bool f] g)))) (I46 [.tuple #[],.bool false] e))∧(∀(e f:Value) (g:Env) (g:Wa1),(I46 [e,f] g)→(asBool f λe=>ifB e (nP a λe=>stH g (Addr.add e 1) (.int .i64 17) λe=>K (.tuple #[]) e) (K (.tuple #[]) g))))) (ifB (d == 13) (ldH H1 ⟨h.size,0,none⟩ λe=>Wb2 e λf=>da3 H1 ⟨h.size,0,none⟩ λg i j=>nP a λk=>cf 109 #[.agg #[g,i,j],.int .u64 b,.int .u64 c] H1 λg i=>asInt .i64 g λg=>ce i h.size 0 e (cf 74 #[.pointer f,.int .i64 g] i λe f=>asInt .u64 e λe=>bd 6 10 (stH f (Addr.add k 8) (.int .u64 e) λe=>nP a λf=>stH e (Addr.add f 1) (.int .i64 14) λe=>K (.tuple #[]) e))) (ifB (d == 14) (ldH H1 ⟨h.size,0,none⟩ λd=>Wb2 d λe=>da3 H1 ⟨h.size,0,none⟩ λf g i=>nP a λj=>bd 6 10 (ldH H1 (Addr.add j 8) λk=>asInt .u64 k λl=>ldH H1 (Addr.add ⟨h.size,0,none⟩ 1) λm=>Wb2 m λn=>nP n λn=>ldH H1 (Addr.add n 6) λo=>Wb5 o λp q r=>bd c (q:Int) (Wd2 (.pointer p) λp=>ldH H1 (Addr.add p (c.toNat*1)) λq=>asInt .u64 q λr=>cf 109 #[.agg #[f,g,i],.int .u64 b,.int .u64 c] H1 λb f=>asInt .i64 b λb=>((Wa2 f (Addr.add p (c.toNat*1)))=(some q))∧(((Wa2 f (Addr.add n 6))=(some o))∧(((Wa2 f (Addr.add ⟨h.size,0,none⟩ 1))=(some m))∧(((Wa2 f (Addr.add j 8))=(some k))∧(ce f h.size 0 d (cf 151 #[.int .u64 l,.int .i64 (IntKind.wrap .i64 r),.bool false] f λc f=>asInt .u64 c λc=>ce f h.size 0 d (cf 135 #[.pointer e,.int .i64 b,.int .u64 c] f λb b=>nP a λa=>stH b (Addr.add a 1) (.int .i64 15) λa=>K (.tuple #[]) a))))))))) (K (.tuple #[]) H1)))))))
def F107 (K:Value→Wa1→Prop) (h:Wa1) (xa xb xc:Option Addr):Prop:=
 (g107 K h (Array.push h (.cells #[.pointer xa,.pointer xb,.pointer xc] 135)))
theorem call107 {K:Value→Wa1→Prop} {h:Wa1} {xa xb xc:Option Addr} (H:F107 K h xa xb xc):Wa5 Tryz.prog 107 #[(.agg #[(.pointer xa),(.pointer xb),(.pointer xc)])] h K:=
 Wa4 Tryz.func107 (by kernel_rfl) (Eq.mp (by kernel_rfl) H)
abbrev g108 (K:Value→Wa1→Prop) (h H1:Wa1):Prop:=
 (lP H1 (Addr.add ⟨h.size,0,none⟩ 2) λa=>nP a λb=>lI .i64 H1 (Addr.add b 1) λb=>ifB (b == 15) (nP a λc=>bd 5 10 (lI .u64 H1 (Addr.add c 7) λc=>da3 H1 ⟨h.size,0,none⟩ λd e f=>da3 H1 ⟨h.size,0,none⟩ λg i j=>lP H1 (Addr.add ⟨h.size,0,none⟩ 1) λk=>nP k λk=>lS H1 (Addr.add k 5) λk l m=>bd c (l:Int) (Wd2 (.pointer k) λk=>lI .u64 H1 (Addr.add k (c.toNat*1)) λk=>ldH H1 (Addr.add ⟨h.size,0,none⟩ 1) λl=>Wb2 l λm=>nP m λm=>ldH H1 (Addr.add m 7) λn=>Wb5 n λo p q=>bd c (p:Int) (Wd2 (.pointer o) λo=>ldH H1 (Addr.add o (c.toNat*1)) λp=>asInt .u64 p λq=>nP a λr=>bd 2 10 (ldH H1 (Addr.add r 4) λs=>asInt .u64 s λt=>cf 109 #[.agg #[g,i,j],.int .u64 k,.int .u64 c] H1 λg i=>asInt .i64 g λg=>((Wa2 i (Addr.add r 4))=(some s))∧(((Wa2 i (Addr.add o (c.toNat*1)))=(some p))∧(((Wa2 i (Addr.add m 7))=(some n))∧(((Wa2 i (Addr.add ⟨h.size,0,none⟩ 1))=(some l))∧(ce i h.size 0 d (((Wa2 i (Addr.add ⟨h.size,0,none⟩ 1))=(some e))∧(((Wa2 i (Addr.add ⟨h.size,0,none⟩ 2))=(some f))∧(cf 114 #[.agg #[d,e,f],.int .i64 g,.int .u64 q,.int .u64 t,.bool false] i λc d=>asBool c λc=>ifB c (nP a λc=>bd 5 10 (lI .u64 d (Addr.add c 7) λc=>nP a λe=>bd 5 10 (stH d (Addr.add e 7) (.int .u64 (IntKind.wrap .u64 (c+1))) λc=>nP a λe=>stH c (Addr.add e 1) (.int .i64 11) λc=>K (.tuple #[]) c))) (da3 d ⟨h.size,0,none⟩ λc e f=>nP a λg=>bd 4 10 (lI .u64 d (Addr.add g 6) λg=>((Wa2 (Array.push d (.cells #[.int .u64 g] 109)) ⟨h.size,0,none⟩)=(some c))∧(((Wa2 (Array.push d (.cells #[.int .u64 g] 109)) (Addr.add ⟨h.size,0,none⟩ 1))=(some e))∧(((Wa2 (Array.push d (.cells #[.int .u64 g] 109)) (Addr.add ⟨h.size,0,none⟩ 2))=(some f))∧(cf 113 #[.agg #[c,e,f],.int .i64 16,.int .i64 30,.slice (some ⟨d.size,0,none⟩) 1 1] (Array.push d (.cells #[.int .u64 g] 109)) λc c=>K (.tuple #[]) c))))))))))))))))) (ifB (b == 16) (lP H1 (Addr.add ⟨h.size,0,none⟩ 1) λc=>nP c λc=>bd 0 3 (lI .u64 H1 (Addr.add c 2) λc=>nP a λd=>bd 7 10 (stH H1 (Addr.add d 9) (.int .u64 c) λc=>nP a λd=>stH c (Addr.add d 1) (.int .i64 11) λc=>lP c (Addr.add ⟨h.size,0,none⟩ 1) λd=>nP d λd=>lS c (Addr.add d 6) λd e f=>bd 0 (e:Int) (Wd2 (.pointer d) λd=>lI .u64 c d λd=>nP a λe=>bd 2 10 (lI .u64 c (Addr.add e 4) λe=>ifB (d != e) (nP a λd=>stH c (Addr.add d 1) (.int .i64 17) λd=>K (.tuple #[]) d) (K (.tuple #[]) c)))))) (ifB (b == 17) (ldH H1 ⟨h.size,0,none⟩ λb=>Wb2 b λc=>da3 H1 ⟨h.size,0,none⟩ λd e f=>nP a λg=>bd 2 10 (lI .u64 H1 (Addr.add g 4) λg=>cf 193 #[.agg #[d,e,f],.int .u64 g,.int .i64 2] H1 λd e=>asInt .i64 d λd=>ce e h.size 0 b (cf 135 #[.pointer c,.int .i64 d,.int .u64 0] e λb b=>nP a λa=>stH b (Addr.add a 1) (.int .i64 18) λa=>K (.tuple #[]) a))) (da3 H1 ⟨h.size,0,none⟩ λa b c=>cf 112 #[.agg #[a,b,c],.int .u64 0] H1 λa a=>K (.tuple #[]) a))))
def F108 (K:Value→Wa1→Prop) (h:Wa1) (xa xb xc:Option Addr):Prop:=
 (g108 K h (Array.push h (.cells #[.pointer xa,.pointer xb,.pointer xc] 135)))
theorem call108 {K:Value→Wa1→Prop} {h:Wa1} {xa xb xc:Option Addr} (H:F108 K h xa xb xc):Wa5 Tryz.prog 108 #[(.agg #[(.pointer xa),(.pointer xb),(.pointer xc)])] h K:=
 Wa4 Tryz.func108 (by kernel_rfl) (Eq.mp (by kernel_rfl) H)
abbrev g109 (K:Value→Wa1→Prop) (h H1:Wa1) (xa xb:Int):Prop:=
 (dl3 H1 h.size λa b c=>cf 193 #[.agg #[a,b,c],.int .u64 xa,.int .i64 (IntKind.wrap .i64 (5+(IntKind.wrap .i64 xb)))] H1 λa b=>asInt .i64 a λa=>K (.int .i64 a) b)
def F109 (K:Value→Wa1→Prop) (h:Wa1) (xa xb xc:Option Addr) (xd xe:Int):Prop:=
 (g109 K h (Array.push h (.cells #[.pointer xa,.pointer xb,.pointer xc] 133)) xd xe)
theorem call109 {K:Value→Wa1→Prop} {h:Wa1} {xa xb xc:Option Addr} {xd xe:Int} (H:F109 K h xa xb xc xd xe):Wa5 Tryz.prog 109 #[(.agg #[(.pointer xa),(.pointer xb),(.pointer xc)]),(.int .u64 xd),(.int .u64 xe)] h K:=
 Wa4 Tryz.func109 (by kernel_rfl) (Eq.mp (by kernel_rfl) H)
def F110 (K:Value→Wa1→Prop) (h:Wa1) (xa:Int):Prop:=
 (cf 73 #[.int .u64 xa] h λa b=>asInt .i64 a λa=>K (.int .u64 (IntKind.wrap .u64 a)) b)
theorem call110 {K:Value→Wa1→Prop} {h:Wa1} {xa:Int} (H:F110 K h xa):Wa5 Tryz.prog 110 #[(.int .u64 xa)] h K:=
 Wa4 Tryz.func110 (by kernel_rfl) (Eq.mp (by kernel_rfl) H)
def F111 (K:Value→Wa1→Prop) (h:Wa1) (xa:Int):Prop:=
 (cf 149 #[.int .u64 xa] h λa b=>asBool a λa=>K (.bool a) b)
theorem call111 {K:Value→Wa1→Prop} {h:Wa1} {xa:Int} (H:F111 K h xa):Wa5 Tryz.prog 111 #[(.int .u64 xa)] h K:=
 Wa4 Tryz.func111 (by kernel_rfl) (Eq.mp (by kernel_rfl) H)
abbrev g112 (K:Value→Wa1→Prop) (h H1:Wa1) (xa:Int):Prop:=
 (dl3 H1 h.size λa b c=>cf 194 #[.agg #[a,b,c],.int .u64 xa,.int .u64 0,.int .u64 0] H1 λa a=>K (.tuple #[]) a)
def F112 (K:Value→Wa1→Prop) (h:Wa1) (xa xb xc:Option Addr) (xd:Int):Prop:=
 (g112 K h (Array.push h (.cells #[.pointer xa,.pointer xb,.pointer xc] 133)) xd)
theorem call112 {K:Value→Wa1→Prop} {h:Wa1} {xa xb xc:Option Addr} {xd:Int} (H:F112 K h xa xb xc xd):Wa5 Tryz.prog 112 #[(.agg #[(.pointer xa),(.pointer xb),(.pointer xc)]),(.int .u64 xd)] h K:=
 Wa4 Tryz.func112 (by kernel_rfl) (Eq.mp (by kernel_rfl) H)
abbrev g113 (K:Value→Wa1→Prop) (h H1:Wa1) (xa xb:Int) (xc:Option Addr) (xd xe:Nat):Prop:=
 (lP H1 ⟨h.size,2,none⟩ λa=>nP a λa=>stH H1 (Addr.add a 1) (.int .i64 xa) λa=>lP a ⟨h.size,1,none⟩ λb=>cf 125 #[.pointer b,.int .i64 xb,.slice xc xd xe] a λa a=>K (.tuple #[]) a)
def F113 (K:Value→Wa1→Prop) (h:Wa1) (xa xb xc:Option Addr) (xd xe:Int) (xf:Option Addr) (xg xh:Nat):Prop:=
 (g113 K h (Array.push h (.cells #[.pointer xa,.pointer xb,.pointer xc] 133)) xd xe xf xg xh)
theorem call113 {K:Value→Wa1→Prop} {h:Wa1} {xa xb xc:Option Addr} {xd xe:Int} {xf:Option Addr} {xg xh:Nat} (H:F113 K h xa xb xc xd xe xf xg xh):Wa5 Tryz.prog 113 #[(.agg #[(.pointer xa),(.pointer xb),(.pointer xc)]),(.int .i64 xd),(.int .i64 xe),(.slice xf xg xh)] h K:=
 Wa4 Tryz.func113 (by kernel_rfl) (Eq.mp (by kernel_rfl) H)
abbrev g114 (K:Value→Wa1→Prop) (h H1:Wa1) (xa xb xc:Int) (xd:Bool):Prop:=
 (ldH H1 ⟨h.size,0,none⟩ λa=>Wb2 a λb=>cf 151 #[.int .u64 xb,.int .i64 (IntKind.wrap .i64 xc),.bool xd] H1 λc d=>asInt .u64 c λc=>ce d h.size 0 a (cf 142 #[.pointer b,.int .i64 xa,.int .u64 xb,.int .u64 c] d λa b=>asBool a λa=>K (.bool a) b))
def F114 (K:Value→Wa1→Prop) (h:Wa1) (xa xb xc:Option Addr) (xd xe xf:Int) (xg:Bool):Prop:=
 (g114 K h (Array.push h (.cells #[.pointer xa,.pointer xb,.pointer xc] 133)) xd xe xf xg)
theorem call114 {K:Value→Wa1→Prop} {h:Wa1} {xa xb xc:Option Addr} {xd xe xf:Int} {xg:Bool} (H:F114 K h xa xb xc xd xe xf xg):Wa5 Tryz.prog 114 #[(.agg #[(.pointer xa),(.pointer xb),(.pointer xc)]),(.int .i64 xd),(.int .u64 xe),(.int .u64 xf),(.bool xg)] h K:=
 Wa4 Tryz.func114 (by kernel_rfl) (Eq.mp (by kernel_rfl) H)
abbrev g117 (K:Value→Wa1→Prop) (h H1:Wa1):Prop:=
 (lP H1 (Addr.add ⟨h.size,0,none⟩ 2) λa=>nP a λb=>bd 2 10 (lI .u64 H1 (Addr.add b 4) λb=>nP a λa=>bd 2 10 (stH H1 (Addr.add a 4) (.int .u64 (IntKind.wrap .u64 (b - 1))) λa=>lP a (Addr.add ⟨h.size,0,none⟩ 2) λb=>nP b λb=>stH a (Addr.add b 1) (.int .i64 1) λa=>K (.tuple #[]) a)))
def F117 (K:Value→Wa1→Prop) (h:Wa1) (xa xb xc:Option Addr):Prop:=
 (g117 K h (Array.push h (.cells #[.pointer xa,.pointer xb,.pointer xc] 138)))
theorem call117 {K:Value→Wa1→Prop} {h:Wa1} {xa xb xc:Option Addr} (H:F117 K h xa xb xc):Wa5 Tryz.prog 117 #[(.agg #[(.pointer xa),(.pointer xb),(.pointer xc)])] h K:=
 Wa4 Tryz.func117 (by kernel_rfl) (Eq.mp (by kernel_rfl) H)
abbrev g118 (K:Value→Wa1→Prop) (h H1:Wa1) (xa xb:Int):Prop:=
 (lP H1 ⟨h.size,0,none⟩ λa=>cf 116 #[.pointer a] H1 λa b=>asAgg a λa=>We1 a 15 (Wm8 a λa c d e f g i j k l m n o p q=>stH (Array.push b (.cells #[.int .i64 0,.int .i64 0,.int .i64 0,.int .i64 0,.int .i64 0,.int .i64 0,.int .i64 0,.int .i64 0,.int .i64 0,.int .i64 0,.int .i64 0,.int .i64 0,.int .i64 0,.int .i64 0,.int .i64 0] 77)) ⟨b.size,0,none⟩ a λa=>stH a ⟨b.size,1,none⟩ c λa=>stH a ⟨b.size,2,none⟩ d λa=>stH a ⟨b.size,3,none⟩ e λa=>stH a ⟨b.size,4,none⟩ f λa=>stH a ⟨b.size,5,none⟩ g λa=>stH a ⟨b.size,6,none⟩ i λa=>stH a ⟨b.size,7,none⟩ j λa=>stH a ⟨b.size,8,none⟩ k λa=>stH a ⟨b.size,9,none⟩ l λa=>stH a ⟨b.size,10,none⟩ m λa=>stH a ⟨b.size,11,none⟩ n λa=>stH a ⟨b.size,12,none⟩ o λa=>stH a ⟨b.size,13,none⟩ p λa=>stH a ⟨b.size,14,none⟩ q λa=>ldH a ⟨h.size,0,none⟩ λc=>Wb2 c λd=>WD6 a b.size λe f g i j k l m n o p q r s t=>ldH a ⟨h.size,1,none⟩ λu=>Wb2 u λv=>nP v λv=>ldH a v λw=>asInt .i64 w λx=>WD6 a b.size λy z A B C D E F G H I J L M N=>cf 156 #[.agg #[y,z,A,B,C,D,E,F,G,H,I,J,L,M,N]] a λa y=>asInt .i64 a λa=>((Wa2 y v)=(some w))∧(ce y h.size 1 u (Zs2 y b.size e f g i j k l m n o p q r s t (ce y h.size 0 c (cf 155 #[.agg #[e,f,g,i,j,k,l,m,n,o,p,q,r,s,t],.int .i64 x,.int .i64 (IntKind.wrap .i64 ((IntKind.wrap .i64 (a - 1)) - (IntKind.wrap .i64 (IntKind.wrap .u64 ((((BitVec.ofInt 64 xa) &&& (BitVec.ofInt 64 1)).toNat:Nat):Int)))))] y λa b=>asInt .i64 a λa=>ce b h.size 0 c (cf 135 #[.pointer d,.int .i64 a,.int .u64 xb] b λa a=>K (.tuple #[]) a)))))))
def F118 (K:Value→Wa1→Prop) (h:Wa1) (xa xb xc:Option Addr) (xd xe:Int):Prop:=
 (g118 K h (Array.push h (.cells #[.pointer xa,.pointer xb,.pointer xc] 133)) xd xe)
theorem call118 {K:Value→Wa1→Prop} {h:Wa1} {xa xb xc:Option Addr} {xd xe:Int} (H:F118 K h xa xb xc xd xe):Wa5 Tryz.prog 118 #[(.agg #[(.pointer xa),(.pointer xb),(.pointer xc)]),(.int .u64 xd),(.int .u64 xe)] h K:=
 Wa4 Tryz.func118 (by kernel_rfl) (Eq.mp (by kernel_rfl) H)
abbrev g119 (K:Value→Wa1→Prop) (h H1:Wa1):Prop:=
 (lP H1 (Addr.add ⟨h.size,0,none⟩ 2) λa=>nP a λb=>lI .i64 H1 (Addr.add b 1) λb=>ifB (b == 4) (exI λI5=>(nP a λc=>bd 4 10 (lI .u64 H1 (Addr.add c 6) λc=>nP a λd=>bd 0 10 (lI .u64 H1 (Addr.add d 2) λd=>ifB (c == d) (I5 [.bool true,.bool true] H1) (ldH H1 ⟨h.size,0,none⟩ λc=>Wb2 c λd=>da3 H1 ⟨h.size,0,none⟩ λe f g=>nP a λi=>bd 4 10 (lI .u64 H1 (Addr.add i 6) λi=>cf 109 #[.agg #[e,f,g],.int .u64 i,.int .u64 0] H1 λe f=>asInt .i64 e λe=>ce f h.size 0 c (cf 74 #[.pointer d,.int .i64 e] f λc d=>asInt .u64 c λc=>cf 111 #[.int .u64 c] d λc d=>asBool c λc=>I5 [.bool c,.bool c] d))))))∧(∀(c d:Value) (e:Env) (e:Wa1),(I5 [c,d] e)→(asBool c λc=>ifB c (nP a λc=>stH e (Addr.add c 1) (.int .i64 5) λc=>K (.tuple #[]) c) (nP a λc=>bd 4 10 (ldH e (Addr.add c 6) λd=>asInt .u64 d λf=>nP a λg=>bd 3 10 (lI .u64 e (Addr.add g 5) λg=>cf 110 #[.int .u64 g] e λe g=>asInt .u64 e λe=>((Wa2 g (Addr.add c 6))=(some d))∧(ifB (f == e) (dl3 g h.size λc d e=>cf 117 #[.agg #[c,d,e]] g λc c=>K (.tuple #[]) c) (nP a λc=>stH g (Addr.add c 1) (.int .i64 6) λc=>K (.tuple #[]) c)))))))) (ifB (b == 5) (ldH H1 ⟨h.size,0,none⟩ λb=>Wb2 b λc=>da3 H1 ⟨h.size,0,none⟩ λd e f=>nP a λg=>bd 4 10 (lI .u64 H1 (Addr.add g 6) λg=>nP a λi=>bd 2 10 (lI .u64 H1 (Addr.add i 4) λi=>nP a λj=>cf 109 #[.agg #[d,e,f],.int .u64 g,.int .u64 i] H1 λd e=>asInt .i64 d λd=>ce e h.size 0 b (cf 74 #[.pointer c,.int .i64 d] e λb c=>asInt .u64 b λb=>cf 110 #[.int .u64 b] c λb c=>asInt .u64 b λb=>bd 4 10 (stH c (Addr.add j 6) (.int .u64 b) λb=>nP a λc=>stH b (Addr.add c 1) (.int .i64 2) λb=>nP a λc=>bd 4 10 (lI .u64 b (Addr.add c 6) λc=>ifB (c == 2) (nP a λc=>stH b (Addr.add c 1) (.int .i64 6) λc=>K (.tuple #[]) c) (K (.tuple #[]) b))))))) (da3 H1 ⟨h.size,0,none⟩ λb c d=>da3 H1 ⟨h.size,0,none⟩ λe f g=>nP a λi=>bd 2 10 (lI .u64 H1 (Addr.add i 4) λi=>nP a λj=>bd 3 10 (ldH H1 (Addr.add j 5) λk=>asInt .u64 k λl=>nP a λm=>bd 4 10 (ldH H1 (Addr.add m 6) λn=>asInt .u64 n λo=>cf 109 #[.agg #[e,f,g],.int .u64 1,.int .u64 i] H1 λe f=>asInt .i64 e λe=>((Wa2 f (Addr.add m 6))=(some n))∧(((Wa2 f (Addr.add j 5))=(some k))∧(ce f h.size 0 b (((Wa2 f (Addr.add ⟨h.size,0,none⟩ 1))=(some c))∧(((Wa2 f (Addr.add ⟨h.size,0,none⟩ 2))=(some d))∧(cf 114 #[.agg #[b,c,d],.int .i64 e,.int .u64 l,.int .u64 o,.bool false] f λb c=>asBool b λb=>ifB b (dl3 c h.size λb d e=>cf 117 #[.agg #[b,d,e]] c λb b=>K (.tuple #[]) b) (nP a λa=>stH c (Addr.add a 1) (.int .i64 1) λa=>K (.tuple #[]) a))))))))))))
def F119 (K:Value→Wa1→Prop) (h:Wa1) (xa xb xc:Option Addr):Prop:=
 (g119 K h (Array.push h (.cells #[.pointer xa,.pointer xb,.pointer xc] 138)))
theorem call119 {K:Value→Wa1→Prop} {h:Wa1} {xa xb xc:Option Addr} (H:F119 K h xa xb xc):Wa5 Tryz.prog 119 #[(.agg #[(.pointer xa),(.pointer xb),(.pointer xc)])] h K:=
 Wa4 Tryz.func119 (by kernel_rfl) (Eq.mp (by kernel_rfl) H)
abbrev g120 (K:Value→Wa1→Prop) (h H1:Wa1):Prop:=
 (lP H1 (Addr.add ⟨h.size,0,none⟩ 2) λa=>nP a λb=>lI .i64 H1 (Addr.add b 1) λb=>ifB (b == 0) (lP H1 ⟨h.size,0,none⟩ λc=>nP a λd=>cf 74 #[.pointer c,.int .i64 1] H1 λc e=>asInt .u64 c λc=>bd 0 10 (stH e (Addr.add d 2) (.int .u64 c) λc=>nP a λd=>bd 2 10 (nP a λe=>nP a λf=>stH c (Addr.add d 4) (.int .u64 1) λc=>bd 3 10 (stH c (Addr.add e 5) (.int .u64 0) λc=>bd 4 10 (stH c (Addr.add f 6) (.int .u64 0) λc=>nP a λd=>stH c (Addr.add d 1) (.int .i64 1) λc=>K (.tuple #[]) c))))) (ifB (b == 1) (ldH H1 ⟨h.size,0,none⟩ λc=>Wb2 c λd=>da3 H1 ⟨h.size,0,none⟩ λe f g=>nP a λi=>cf 109 #[.agg #[e,f,g],.int .u64 1,.int .u64 0] H1 λe f=>asInt .i64 e λe=>ce f h.size 0 c (cf 74 #[.pointer d,.int .i64 e] f λc d=>asInt .u64 c λc=>bd 1 10 (stH d (Addr.add i 3) (.int .u64 c) λc=>nP a λd=>bd 1 10 (lI .u64 c (Addr.add d 3) λd=>nP a λe=>bd 5 10 (stH c (Addr.add e 7) (.int .u64 d) λc=>nP a λd=>stH c (Addr.add d 1) (.int .i64 2) λc=>K (.tuple #[]) c))))) (ifB (b == 2) (nP a λc=>stH H1 (Addr.add c 1) (.int .i64 3) λc=>dl3 c h.size λd e f=>cf 196 #[.agg #[d,e,f]] c λc d=>asInt .u64 c λc=>ifB (c == 2) (da3 d ⟨h.size,0,none⟩ λc e f=>cf 112 #[.agg #[c,e,f],.int .u64 3] d λc c=>K (.tuple #[]) c) (K (.tuple #[]) d)) (ifB (b == 3) (da3 H1 ⟨h.size,0,none⟩ λc d e=>nP a λf=>bd 3 10 (ldH H1 (Addr.add f 5) λg=>asInt .u64 g λi=>dl3 H1 h.size λj k l=>cf 196 #[.agg #[j,k,l]] H1 λj k=>asInt .u64 j λj=>((Wa2 k (Addr.add f 5))=(some g))∧(ce k h.size 0 c (((Wa2 k (Addr.add ⟨h.size,0,none⟩ 1))=(some d))∧(((Wa2 k (Addr.add ⟨h.size,0,none⟩ 2))=(some e))∧(cf 118 #[.agg #[c,d,e],.int .u64 i,.int .u64 j] k λc c=>nP a λd=>bd 3 10 (lI .u64 c (Addr.add d 5) λd=>nP a λe=>bd 3 10 (stH c (Addr.add e 5) (.int .u64 (IntKind.wrap .u64 (d+1))) λc=>nP a λd=>stH c (Addr.add d 1) (.int .i64 4) λc=>K (.tuple #[]) c)))))))) (ifB (b == 4) (nP a λb=>stH H1 (Addr.add b 1) (.int .i64 5) λb=>lP b ⟨h.size,0,none⟩ λc=>nP a λd=>bd 0 10 (ldH b (Addr.add d 2) λe=>asInt .u64 e λf=>cf 74 #[.pointer c,.int .i64 1] b λb c=>asInt .u64 b λb=>((Wa2 c (Addr.add d 2))=(some e))∧(ifB (b != f) (nP a λa=>stH c (Addr.add a 1) (.int .i64 0) λa=>K (.tuple #[]) a) (K (.tuple #[]) c)))) (K (.tuple #[]) H1))))))
def F120 (K:Value→Wa1→Prop) (h:Wa1) (xa xb xc:Option Addr):Prop:=
 (g120 K h (Array.push h (.cells #[.pointer xa,.pointer xb,.pointer xc] 139)))
theorem call120 {K:Value→Wa1→Prop} {h:Wa1} {xa xb xc:Option Addr} (H:F120 K h xa xb xc):Wa5 Tryz.prog 120 #[(.agg #[(.pointer xa),(.pointer xb),(.pointer xc)])] h K:=
 Wa4 Tryz.func120 (by kernel_rfl) (Eq.mp (by kernel_rfl) H)
abbrev g121 (K:Value→Wa1→Prop) (h H1:Wa1):Prop:=
 (lP H1 (Addr.add ⟨h.size,0,none⟩ 2) λa=>nP a λb=>lI .i64 H1 (Addr.add b 1) λb=>ifB (b == 5) (nP a λc=>stH H1 (Addr.add c 1) (.int .i64 6) λc=>exI λI7=>(nP a λd=>bd 2 10 (lI .u64 c (Addr.add d 4) λd=>ifB (d != 1) (nP a λd=>bd 4 10 (lI .u64 c (Addr.add d 6) λd=>ifB (d == 0) (ldH c ⟨h.size,0,none⟩ λe=>Wb2 e λf=>da3 c ⟨h.size,0,none⟩ λg i j=>nP a λk=>bd 2 10 (lI .u64 c (Addr.add k 4) λk=>cf 193 #[.agg #[g,i,j],.int .u64 k,.int .i64 2] c λg i=>asInt .i64 g λg=>ce i h.size 0 e (cf 74 #[.pointer f,.int .i64 g] i λe f=>asInt .u64 e λe=>I7 [.bool (d == 0),.bool (e == 1)] f))) (I7 [.bool (d == 0),.bool false] c))) (I7 [.bool false,.bool false] c)))∧(∀(c d:Value) (e:Env) (e:Wa1),(I7 [c,d] e)→(asBool d λc=>ifB c (nP a λc=>bd 2 10 (lI .u64 e (Addr.add c 4) λc=>nP a λd=>bd 4 10 (stH e (Addr.add d 6) (.int .u64 c) λc=>K (.tuple #[]) c))) (K (.tuple #[]) e)))) (ifB (b == 6) (nP a λc=>stH H1 (Addr.add c 1) (.int .i64 8) λc=>nP a λd=>bd 5 10 (lI .u64 c (Addr.add d 7) λd=>cf 111 #[.int .u64 d] c λc d=>asBool c λc=>ifB c (dl3 d h.size λc e f=>nP a λg=>cf 196 #[.agg #[c,e,f]] d λc e=>asInt .u64 c λc=>bd 2 10 (stH e (Addr.add g 4) (.int .u64 c) λc=>nP a λe=>stH c (Addr.add e 1) (.int .i64 7) λc=>K (.tuple #[]) c)) (nP a λc=>lI .i64 d c λc=>ifB (c == 33) (nP a λc=>stH d (Addr.add c 1) (.int .i64 9) λc=>K (.tuple #[]) c) (K (.tuple #[]) d)))) (ifB (b == 7) (ldH H1 ⟨h.size,0,none⟩ λc=>Wb2 c λd=>da3 H1 ⟨h.size,0,none⟩ λe f g=>nP a λi=>bd 2 10 (lI .u64 H1 (Addr.add i 4) λi=>nP a λj=>cf 109 #[.agg #[e,f,g],.int .u64 i,.int .u64 0] H1 λe f=>asInt .i64 e λe=>ce f h.size 0 c (cf 74 #[.pointer d,.int .i64 e] f λc d=>asInt .u64 c λc=>bd 5 10 (stH d (Addr.add j 7) (.int .u64 c) λc=>nP a λd=>stH c (Addr.add d 1) (.int .i64 2) λc=>K (.tuple #[]) c)))) (ifB (b == 8) (nP a λb=>stH H1 (Addr.add b 1) (.int .i64 9) λb=>da3 b ⟨h.size,0,none⟩ λc d e=>da3 b ⟨h.size,0,none⟩ λf g i=>nP a λj=>bd 2 10 (lI .u64 b (Addr.add j 4) λj=>nP a λk=>bd 5 10 (ldH b (Addr.add k 7) λl=>asInt .u64 l λm=>dl3 b h.size λn o p=>cf 109 #[.agg #[f,g,i],.int .u64 j,.int .u64 0] b λb f=>asInt .i64 b λb=>ce f h.size 0 n (ce f h.size 1 o (ce f h.size 2 p (((Wa2 f (Addr.add k 7))=(some l))∧(ce f h.size 0 c (((Wa2 f (Addr.add ⟨h.size,0,none⟩ 1))=(some d))∧(((Wa2 f (Addr.add ⟨h.size,0,none⟩ 2))=(some e))∧(cf 196 #[.agg #[n,o,p]] f λf g=>asInt .u64 f λf=>((Wa2 g (Addr.add k 7))=(some l))∧(ce g h.size 0 c (((Wa2 g (Addr.add ⟨h.size,0,none⟩ 1))=(some d))∧(((Wa2 g (Addr.add ⟨h.size,0,none⟩ 2))=(some e))∧(cf 114 #[.agg #[c,d,e],.int .i64 b,.int .u64 m,.int .u64 f,.bool true] g λb c=>asBool b λb=>ifB (!b) (nP a λb=>bd 3 10 (lI .u64 c (Addr.add b 5) λb=>nP a λd=>bd 3 10 (stH c (Addr.add d 5) (.int .u64 (IntKind.wrap .u64 (b - 1))) λb=>nP a λa=>stH b (Addr.add a 1) (.int .i64 7) λa=>K (.tuple #[]) a))) (K (.tuple #[]) c))))))))))))))) (K (.tuple #[]) H1)))))
def F121 (K:Value→Wa1→Prop) (h:Wa1) (xa xb xc:Option Addr):Prop:=
 (g121 K h (Array.push h (.cells #[.pointer xa,.pointer xb,.pointer xc] 139)))
theorem call121 {K:Value→Wa1→Prop} {h:Wa1} {xa xb xc:Option Addr} (H:F121 K h xa xb xc):Wa5 Tryz.prog 121 #[(.agg #[(.pointer xa),(.pointer xb),(.pointer xc)])] h K:=
 Wa4 Tryz.func121 (by kernel_rfl) (Eq.mp (by kernel_rfl) H)
abbrev g122 (K:Value→Wa1→Prop) (h H1:Wa1):Prop:=
 (lP H1 (Addr.add ⟨h.size,0,none⟩ 2) λa=>nP a λb=>lI .i64 H1 (Addr.add b 1) λb=>ifB (b == 9) (ldH H1 ⟨h.size,0,none⟩ λc=>Wb2 c λd=>da3 H1 ⟨h.size,0,none⟩ λe f g=>dl3 H1 h.size λi j k=>nP a λl=>cf 196 #[.agg #[i,j,k]] H1 λi j=>asInt .u64 i λi=>ce j h.size 0 e (((Wa2 j (Addr.add ⟨h.size,0,none⟩ 1))=(some f))∧(((Wa2 j (Addr.add ⟨h.size,0,none⟩ 2))=(some g))∧(ce j h.size 0 c (cf 193 #[.agg #[e,f,g],.int .u64 i,.int .i64 1] j λe f=>asInt .i64 e λe=>ce f h.size 0 c (cf 74 #[.pointer d,.int .i64 e] f λc d=>asInt .u64 c λc=>bd 6 10 (stH d (Addr.add l 8) (.int .u64 c) λc=>nP a λd=>stH c (Addr.add d 1) (.int .i64 10) λc=>K (.tuple #[]) c))))))) (ifB (b == 10) (ldH H1 ⟨h.size,0,none⟩ λb=>Wb2 b λc=>da3 H1 ⟨h.size,0,none⟩ λd e f=>dl3 H1 h.size λg i j=>nP a λk=>cf 196 #[.agg #[g,i,j]] H1 λg i=>asInt .u64 g λg=>ce i h.size 0 d (((Wa2 i (Addr.add ⟨h.size,0,none⟩ 1))=(some e))∧(((Wa2 i (Addr.add ⟨h.size,0,none⟩ 2))=(some f))∧(ce i h.size 0 b (cf 193 #[.agg #[d,e,f],.int .u64 g,.int .i64 0] i λd e=>asInt .i64 d λd=>ce e h.size 0 b (cf 74 #[.pointer c,.int .i64 d] e λb c=>asInt .u64 b λb=>cf 197 #[.int .u64 b] c λb c=>asInt .u32 b λb=>bd 8 10 (stH c (Addr.add k 10) (.int .u64 (IntKind.wrap .u64 b)) λb=>nP a λc=>stH b (Addr.add c 1) (.int .i64 11) λb=>exI λI50=>(exI λI51=>(nP a λc=>lI .i64 b c λc=>ifB (c == 33) (I51 [.bool true] b) (nP a λc=>bd 3 10 (ldH b (Addr.add c 5) λd=>asInt .u64 d λe=>lP b ⟨h.size,0,none⟩ λf=>cf 116 #[.pointer f] b λb f=>asAgg b λb=>We1 b 15 (Wm8 b λb g i j k l m n o p q r s t u=>((Wa2 f (Addr.add c 5))=(some d))∧(cf 66 #[.agg #[b,g,i,j,k,l,m,n,o,p,q,r,s,t,u]] f λb f=>asAgg b λb=>We1 b 7 (de7 b λb b b b b g g=>((Wa2 f (Addr.add c 5))=(some d))∧(asInt .i64 b λb=>I51 [.bool (decide (e < (IntKind.wrap .u64 b)))] f)))))))∧(∀(b:Value) (c:Env) (c:Wa1),(I51 [b] c)→(asBool b λb=>ifB b (nP a λb=>stH c (Addr.add b 1) (.int .i64 14) λb=>I50 [] b) (I50 [] c))))∧(∀(b:Env) (b:Wa1),(I50 [] b)→(nP a λc=>bd 4 10 (lI .u64 b (Addr.add c 6) λc=>ifB (c == 0) (dl3 b h.size λc d e=>nP a λa=>cf 196 #[.agg #[c,d,e]] b λc d=>asInt .u64 c λc=>bd 4 10 (stH d (Addr.add a 6) (.int .u64 c) λa=>K (.tuple #[]) a)) (K (.tuple #[]) b))))))))))) (K (.tuple #[]) H1)))
def F122 (K:Value→Wa1→Prop) (h:Wa1) (xa xb xc:Option Addr):Prop:=
 (g122 K h (Array.push h (.cells #[.pointer xa,.pointer xb,.pointer xc] 139)))
theorem call122 {K:Value→Wa1→Prop} {h:Wa1} {xa xb xc:Option Addr} (H:F122 K h xa xb xc):Wa5 Tryz.prog 122 #[(.agg #[(.pointer xa),(.pointer xb),(.pointer xc)])] h K:=
 Wa4 Tryz.func122 (by kernel_rfl) (Eq.mp (by kernel_rfl) H)
abbrev g123 (K:Value→Wa1→Prop) (h H1:Wa1):Prop:=
 (lP H1 (Addr.add ⟨h.size,0,none⟩ 2) λa=>nP a λb=>lI .i64 H1 (Addr.add b 1) λb=>ifB (b == 11) (nP a λc=>stH H1 (Addr.add c 1) (.int .i64 14) λc=>da3 c ⟨h.size,0,none⟩ λd e f=>da3 c ⟨h.size,0,none⟩ λg i j=>nP a λk=>bd 1 10 (ldH c (Addr.add k 3) λl=>asInt .u64 l λm=>nP a λn=>bd 4 10 (ldH c (Addr.add n 6) λo=>asInt .u64 o λp=>cf 109 #[.agg #[g,i,j],.int .u64 1,.int .u64 0] c λc g=>asInt .i64 c λc=>((Wa2 g (Addr.add n 6))=(some o))∧(((Wa2 g (Addr.add k 3))=(some l))∧(ce g h.size 0 d (((Wa2 g (Addr.add ⟨h.size,0,none⟩ 1))=(some e))∧(((Wa2 g (Addr.add ⟨h.size,0,none⟩ 2))=(some f))∧(cf 114 #[.agg #[d,e,f],.int .i64 c,.int .u64 m,.int .u64 p,.bool true] g λc d=>asBool c λc=>ifB c (nP a λc=>stH d (Addr.add c 1) (.int .i64 12) λc=>K (.tuple #[]) c) (K (.tuple #[]) d))))))))) (ifB (b == 12) (da3 H1 ⟨h.size,0,none⟩ λc d e=>cf 113 #[.agg #[c,d,e],.int .i64 13,.int .i64 36,.slice (some ⟨H1.size,0,none⟩) 1 1] (Array.push H1 (.cells #[.int .u64 0] 109)) λc c=>K (.tuple #[]) c) (ifB (b == 13) (da3 H1 ⟨h.size,0,none⟩ λb c d=>nP a λe=>bd 1 10 (lI .u64 H1 (Addr.add e 3) λe=>nP a λf=>bd 4 10 (ldH H1 (Addr.add f 6) λg=>asInt .u64 g λi=>cf 110 #[.int .u64 e] H1 λe j=>asInt .u64 e λe=>((Wa2 j (Addr.add f 6))=(some g))∧(ce j h.size 0 b (((Wa2 j (Addr.add ⟨h.size,0,none⟩ 1))=(some c))∧(((Wa2 j (Addr.add ⟨h.size,0,none⟩ 2))=(some d))∧(((Wa2 (Array.push j (.cells #[.int .u64 e,.int .u64 i] 109)) ⟨h.size,0,none⟩)=(some b))∧(((Wa2 (Array.push j (.cells #[.int .u64 e,.int .u64 i] 109)) (Addr.add ⟨h.size,0,none⟩ 1))=(some c))∧(((Wa2 (Array.push j (.cells #[.int .u64 e,.int .u64 i] 109)) (Addr.add ⟨h.size,0,none⟩ 2))=(some d))∧(cf 113 #[.agg #[b,c,d],.int .i64 14,.int .i64 35,.slice (some ⟨j.size,0,none⟩) 2 2] (Array.push j (.cells #[.int .u64 e,.int .u64 i] 109)) λb b=>K (.tuple #[]) b)))))))))) (da3 H1 ⟨h.size,0,none⟩ λb c d=>nP a λe=>bd 8 10 (lI .u64 H1 (Addr.add e 10) λe=>nP a λa=>bd 6 10 (lI .u64 H1 (Addr.add a 8) λa=>cf 194 #[.agg #[b,c,d],.int .u64 2,.int .u64 e,.int .u64 a] H1 λa a=>K (.tuple #[]) a))))))
def F123 (K:Value→Wa1→Prop) (h:Wa1) (xa xb xc:Option Addr):Prop:=
 (g123 K h (Array.push h (.cells #[.pointer xa,.pointer xb,.pointer xc] 139)))
theorem call123 {K:Value→Wa1→Prop} {h:Wa1} {xa xb xc:Option Addr} (H:F123 K h xa xb xc):Wa5 Tryz.prog 123 #[(.agg #[(.pointer xa),(.pointer xb),(.pointer xc)])] h K:=
 Wa4 Tryz.func123 (by kernel_rfl) (Eq.mp (by kernel_rfl) H)
abbrev g185 (K:Value→Wa1→Prop) (h H1:Wa1):Prop:=
 (lP H1 (Addr.add ⟨h.size,0,none⟩ 2) λa=>lP H1 ⟨h.size,0,none⟩ λb=>nP a λc=>cf 74 #[.pointer b,.int .i64 1] H1 λb d=>asInt .u64 b λb=>bd 1 10 (stH d (Addr.add c 3) (.int .u64 b) λb=>nP a λc=>bd 3 10 (nP a λd=>stH b (Addr.add c 5) (.int .u64 1) λb=>bd 5 10 (stH b (Addr.add d 7) (.int .u64 0) λb=>lP b ⟨h.size,0,none⟩ λc=>nP a λd=>cf 116 #[.pointer c] b λb c=>asAgg b λb=>We1 b 15 (Wm8 b λb e f g i j k l m n o p q r s=>cf 66 #[.agg #[b,e,f,g,i,j,k,l,m,n,o,p,q,r,s]] c λb c=>asAgg b λb=>We1 b 7 (de7 b λb b b b e e e=>asInt .i64 b λb=>bd 2 10 (stH c (Addr.add d 4) (.int .u64 (IntKind.wrap .u64 (IntKind.wrap .i64 (b - 1)))) λb=>nP a λa=>stH b (Addr.add a 1) (.int .i64 1) λa=>K (.tuple #[]) a)))))))
def F185 (K:Value→Wa1→Prop) (h:Wa1) (xa xb xc:Option Addr):Prop:=
 (g185 K h (Array.push h (.cells #[.pointer xa,.pointer xb,.pointer xc] 173)))
theorem call185 {K:Value→Wa1→Prop} {h:Wa1} {xa xb xc:Option Addr} (H:F185 K h xa xb xc):Wa5 Tryz.prog 185 #[(.agg #[(.pointer xa),(.pointer xb),(.pointer xc)])] h K:=
 Wa4 Tryz.func185 (by kernel_rfl) (Eq.mp (by kernel_rfl) H)
abbrev g186 (K:Value→Wa1→Prop) (h H1:Wa1) (xa:Int):Prop:=
 (lP H1 ⟨h.size,0,none⟩ λa=>ldH H1 ⟨h.size,1,none⟩ λb=>Wb2 b λc=>nP c λc=>ldH H1 c λd=>asInt .i64 d λe=>cf 116 #[.pointer a] H1 λa f=>asAgg a λa=>We1 a 15 (Wm8 a λa g i j k l m n o p q r s t u=>((Wa2 f c)=(some d))∧(ce f h.size 1 b (cf 155 #[.agg #[a,g,i,j,k,l,m,n,o,p,q,r,s,t,u],.int .i64 e,.int .i64 xa] f λa b=>asInt .i64 a λa=>K (.int .i64 a) b))))
def F186 (K:Value→Wa1→Prop) (h:Wa1) (xa xb xc:Option Addr) (xd:Int):Prop:=
 (g186 K h (Array.push h (.cells #[.pointer xa,.pointer xb,.pointer xc] 171)) xd)
theorem call186 {K:Value→Wa1→Prop} {h:Wa1} {xa xb xc:Option Addr} {xd:Int} (H:F186 K h xa xb xc xd):Wa5 Tryz.prog 186 #[(.agg #[(.pointer xa),(.pointer xb),(.pointer xc)]),(.int .i64 xd)] h K:=
 Wa4 Tryz.func186 (by kernel_rfl) (Eq.mp (by kernel_rfl) H)
abbrev g187 (K:Value→Wa1→Prop) (h H1:Wa1):Prop:=
 (lP H1 ⟨h.size,2,none⟩ λa=>nP a λa=>bd 2 10 (lI .u64 H1 (Addr.add a 4) λa=>K (.int .i64 (IntKind.wrap .i64 a)) H1))
def F187 (K:Value→Wa1→Prop) (h:Wa1) (xa xb xc:Option Addr):Prop:=
 (g187 K h (Array.push h (.cells #[.pointer xa,.pointer xb,.pointer xc] 171)))
theorem call187 {K:Value→Wa1→Prop} {h:Wa1} {xa xb xc:Option Addr} (H:F187 K h xa xb xc):Wa5 Tryz.prog 187 #[(.agg #[(.pointer xa),(.pointer xb),(.pointer xc)])] h K:=
 Wa4 Tryz.func187 (by kernel_rfl) (Eq.mp (by kernel_rfl) H)
abbrev g188 (K:Value→Wa1→Prop) (h H1:Wa1) (xa xb:Int):Prop:=
 (lP H1 ⟨h.size,0,none⟩ λa=>cf 116 #[.pointer a] H1 λa b=>asAgg a λa=>We1 a 15 (Wm8 a λa c d e f g i j k l m n o p q=>cf 70 #[.agg #[a,c,d,e,f,g,i,j,k,l,m,n,o,p,q],.int .i64 (IntKind.wrap .i64 xa),.int .i64 xb] b λa b=>asInt .i64 a λa=>K (.int .i64 a) b))
def F188 (K:Value→Wa1→Prop) (h:Wa1) (xa xb xc:Option Addr) (xd xe:Int):Prop:=
 (g188 K h (Array.push h (.cells #[.pointer xa,.pointer xb,.pointer xc] 171)) xd xe)
theorem call188 {K:Value→Wa1→Prop} {h:Wa1} {xa xb xc:Option Addr} {xd xe:Int} (H:F188 K h xa xb xc xd xe):Wa5 Tryz.prog 188 #[(.agg #[(.pointer xa),(.pointer xb),(.pointer xc)]),(.int .u64 xd),(.int .i64 xe)] h K:=
 Wa4 Tryz.func188 (by kernel_rfl) (Eq.mp (by kernel_rfl) H)
abbrev g189 (K:Value→Wa1→Prop) (h H1:Wa1):Prop:=
 (dl3 H1 h.size λa b c=>cf 222 #[.agg #[a,b,c]] H1 λa b=>asInt .u64 a λa=>cf 73 #[.int .u64 a] b λa b=>asInt .i64 a λa=>K (.int .u64 (IntKind.wrap .u64 a)) b)
def F189 (K:Value→Wa1→Prop) (h:Wa1) (xa xb xc:Option Addr):Prop:=
 (g189 K h (Array.push h (.cells #[.pointer xa,.pointer xb,.pointer xc] 171)))
theorem call189 {K:Value→Wa1→Prop} {h:Wa1} {xa xb xc:Option Addr} (H:F189 K h xa xb xc):Wa5 Tryz.prog 189 #[(.agg #[(.pointer xa),(.pointer xb),(.pointer xc)])] h K:=
 Wa4 Tryz.func189 (by kernel_rfl) (Eq.mp (by kernel_rfl) H)
abbrev g190 (K:Value→Wa1→Prop) (h H1:Wa1):Prop:=
 (ldH H1 (Addr.add ⟨h.size,0,none⟩ 2) λa=>Wb2 a λb=>da3 H1 ⟨h.size,0,none⟩ λc d e=>cf 187 #[.agg #[c,d,e]] H1 λc d=>asInt .i64 c λc=>((Wa2 d (Addr.add ⟨h.size,0,none⟩ 2))=(some a))∧(ldH d (Addr.add ⟨h.size,0,none⟩ 1) λa=>Wb2 a λe=>nP e λe=>ldH d (Addr.add e 5) λf=>Wb5 f λg i j=>ldH d (Addr.add ⟨h.size,0,none⟩ 1) λj=>Wb2 j λk=>nP k λk=>ldH d (Addr.add k 7) λl=>Wb5 l λm n o=>ldH d (Addr.add ⟨h.size,0,none⟩ 1) λo=>Wb2 o λp=>nP p λp=>ldH d (Addr.add p 6) λq=>Wb5 q λr s t=>nP b λt=>bd 3 10 (ldH d (Addr.add t 5) λu=>asInt .u64 u λv=>nP b λw=>bd 4 10 (ldH d (Addr.add w 6) λx=>asInt .u64 x λy=>da3 d ⟨h.size,0,none⟩ λz A B=>cf 189 #[.agg #[z,A,B]] d λd z=>asInt .u64 d λd=>((Wa2 z (Addr.add w 6))=(some x))∧(((Wa2 z (Addr.add t 5))=(some u))∧(((Wa2 z (Addr.add p 6))=(some q))∧(((Wa2 z (Addr.add ⟨h.size,0,none⟩ 1))=(some o))∧(((Wa2 z (Addr.add k 7))=(some l))∧(((Wa2 z (Addr.add ⟨h.size,0,none⟩ 1))=(some j))∧(((Wa2 z (Addr.add e 5))=(some f))∧(((Wa2 z (Addr.add ⟨h.size,0,none⟩ 1))=(some a))∧(bd c (i:Int) (Wd2 (.pointer g) λa=>stH z (Addr.add a (c.toNat*1)) (.int .u64 v) λa=>bd c (n:Int) (Wd2 (.pointer m) λe=>stH a (Addr.add e (c.toNat*1)) (.int .u64 y) λa=>bd c (s:Int) (Wd2 (.pointer r) λe=>stH a (Addr.add e (c.toNat*1)) (.int .u64 d) λa=>ifB (c == 0) (ldH a (Addr.add ⟨h.size,0,none⟩ 1) λc=>Wb2 c λd=>nP b λe=>bd 5 10 (lI .u64 a (Addr.add e 7) λe=>((Wa2 (Array.push a (.cells #[.int .u64 e] 109)) (Addr.add ⟨h.size,0,none⟩ 1))=(some c))∧(cf 43 #[.pointer d,.slice (some ⟨a.size,0,none⟩) 1 1] (Array.push a (.cells #[.int .u64 e] 109)) λc c=>K (.tuple #[]) c))) (nP b λc=>bd 2 10 (lI .u64 a (Addr.add c 4) λc=>nP b λd=>bd 2 10 (stH a (Addr.add d 4) (.int .u64 (IntKind.wrap .u64 (c - 1))) λa=>nP b λb=>stH a (Addr.add b 1) (.int .i64 1) λa=>K (.tuple #[]) a))))))))))))))))))
def F190 (K:Value→Wa1→Prop) (h:Wa1) (xa xb xc:Option Addr):Prop:=
 (g190 K h (Array.push h (.cells #[.pointer xa,.pointer xb,.pointer xc] 173)))
theorem call190 {K:Value→Wa1→Prop} {h:Wa1} {xa xb xc:Option Addr} (H:F190 K h xa xb xc):Wa5 Tryz.prog 190 #[(.agg #[(.pointer xa),(.pointer xb),(.pointer xc)])] h K:=
 Wa4 Tryz.func190 (by kernel_rfl) (Eq.mp (by kernel_rfl) H)
abbrev g191 (K:Value→Wa1→Prop) (h H1:Wa1):Prop:=
 (lP H1 (Addr.add ⟨h.size,0,none⟩ 2) λa=>lP H1 ⟨h.size,0,none⟩ λb=>nP a λc=>bd 1 10 (ldH H1 (Addr.add c 3) λd=>asInt .u64 d λe=>cf 74 #[.pointer b,.int .i64 1] H1 λb f=>asInt .u64 b λb=>((Wa2 f (Addr.add c 3))=(some d))∧(ifB (b != e) (nP a λb=>stH f (Addr.add b 1) (.int .i64 0) λb=>K (.tuple #[]) b) (exI λI12=>(da3 f ⟨h.size,0,none⟩ λb c d=>cf 187 #[.agg #[b,c,d]] f λb c=>asInt .i64 b λb=>ifB (b == 0) (da3 c ⟨h.size,0,none⟩ λb d e=>cf 222 #[.agg #[b,d,e]] c λb d=>asInt .u64 b λb=>cf 149 #[.int .u64 b] d λb d=>asBool b λb=>I12 [.bool b,.bool b] d) (I12 [.bool false,.bool false] c))∧(∀(b c:Value) (d:Env) (d:Wa1),(I12 [b,c] d)→(asBool b λb=>ifB b (da3 d ⟨h.size,0,none⟩ λb c e=>nP a λf=>cf 189 #[.agg #[b,c,e]] d λb c=>asInt .u64 b λb=>bd 5 10 (stH c (Addr.add f 7) (.int .u64 b) λb=>dl3 b h.size λc e f=>cf 192 #[.agg #[c,e,f]] b λb b=>K (.tuple #[]) b)) (da3 d ⟨h.size,0,none⟩ λb c e=>cf 187 #[.agg #[b,c,e]] d λb c=>asInt .i64 b λb=>ifB (decide (b > 0)) (nP a λb=>stH c (Addr.add b 1) (.int .i64 5) λb=>K (.tuple #[]) b) (nP a λa=>stH c (Addr.add a 1) (.int .i64 6) λa=>K (.tuple #[]) a))))))))
def F191 (K:Value→Wa1→Prop) (h:Wa1) (xa xb xc:Option Addr):Prop:=
 (g191 K h (Array.push h (.cells #[.pointer xa,.pointer xb,.pointer xc] 173)))
theorem call191 {K:Value→Wa1→Prop} {h:Wa1} {xa xb xc:Option Addr} (H:F191 K h xa xb xc):Wa5 Tryz.prog 191 #[(.agg #[(.pointer xa),(.pointer xb),(.pointer xc)])] h K:=
 Wa4 Tryz.func191 (by kernel_rfl) (Eq.mp (by kernel_rfl) H)
abbrev g192 (K:Value→Wa1→Prop) (h H1:Wa1):Prop:=
 (ldH H1 (Addr.add ⟨h.size,0,none⟩ 2) λa=>Wb2 a λb=>da3 H1 ⟨h.size,0,none⟩ λc d e=>nP b λb=>cf 189 #[.agg #[c,d,e]] H1 λc d=>asInt .u64 c λc=>((Wa2 d (Addr.add ⟨h.size,0,none⟩ 2))=(some a))∧(bd 3 10 (stH d (Addr.add b 5) (.int .u64 c) λa=>lP a (Addr.add ⟨h.size,0,none⟩ 2) λb=>nP b λb=>stH a (Addr.add b 1) (.int .i64 1) λa=>K (.tuple #[]) a)))
def F192 (K:Value→Wa1→Prop) (h:Wa1) (xa xb xc:Option Addr):Prop:=
 (g192 K h (Array.push h (.cells #[.pointer xa,.pointer xb,.pointer xc] 173)))
theorem call192 {K:Value→Wa1→Prop} {h:Wa1} {xa xb xc:Option Addr} (H:F192 K h xa xb xc):Wa5 Tryz.prog 192 #[(.agg #[(.pointer xa),(.pointer xb),(.pointer xc)])] h K:=
 Wa4 Tryz.func192 (by kernel_rfl) (Eq.mp (by kernel_rfl) H)
abbrev g193 (K:Value→Wa1→Prop) (h H1:Wa1) (xa xb:Int):Prop:=
 (lP H1 ⟨h.size,0,none⟩ λa=>cf 116 #[.pointer a] H1 λa b=>asAgg a λa=>We1 a 15 (Wm8 a λa c d e f g i j k l m n o p q=>cf 70 #[.agg #[a,c,d,e,f,g,i,j,k,l,m,n,o,p,q],.int .i64 (IntKind.wrap .i64 xa),.int .i64 xb] b λa b=>asInt .i64 a λa=>K (.int .i64 a) b))
def F193 (K:Value→Wa1→Prop) (h:Wa1) (xa xb xc:Option Addr) (xd xe:Int):Prop:=
 (g193 K h (Array.push h (.cells #[.pointer xa,.pointer xb,.pointer xc] 133)) xd xe)
theorem call193 {K:Value→Wa1→Prop} {h:Wa1} {xa xb xc:Option Addr} {xd xe:Int} (H:F193 K h xa xb xc xd xe):Wa5 Tryz.prog 193 #[(.agg #[(.pointer xa),(.pointer xb),(.pointer xc)]),(.int .u64 xd),(.int .i64 xe)] h K:=
 Wa4 Tryz.func193 (by kernel_rfl) (Eq.mp (by kernel_rfl) H)
abbrev g194 (K:Value→Wa1→Prop) (h H1:Wa1) (xa xb xc:Int):Prop:=
 (lP H1 ⟨h.size,2,none⟩ λa=>ldH H1 ⟨h.size,2,none⟩ λb=>Wb2 b λc=>ldH H1 ⟨h.size,2,none⟩ λd=>Wb2 d λe=>nP a λa=>bd 7 10 (nP c λc=>nP e λe=>stH H1 (Addr.add a 9) (.int .u64 xa) λa=>ce a h.size 2 d (ce a h.size 2 b (bd 8 10 (stH a (Addr.add c 10) (.int .u64 xb) λa=>ce a h.size 2 d (bd 9 10 (stH a (Addr.add e 11) (.int .u64 xc) λa=>dl3 a h.size λb c d=>cf 113 #[.agg #[b,c,d],.int .i64 90,.int .i64 4,.slice none 0 0] a λa a=>K (.tuple #[]) a)))))))
def F194 (K:Value→Wa1→Prop) (h:Wa1) (xa xb xc:Option Addr) (xd xe xf:Int):Prop:=
 (g194 K h (Array.push h (.cells #[.pointer xa,.pointer xb,.pointer xc] 133)) xd xe xf)
theorem call194 {K:Value→Wa1→Prop} {h:Wa1} {xa xb xc:Option Addr} {xd xe xf:Int} (H:F194 K h xa xb xc xd xe xf):Wa5 Tryz.prog 194 #[(.agg #[(.pointer xa),(.pointer xb),(.pointer xc)]),(.int .u64 xd),(.int .u64 xe),(.int .u64 xf)] h K:=
 Wa4 Tryz.func194 (by kernel_rfl) (Eq.mp (by kernel_rfl) H)
abbrev g196 (K:Value→Wa1→Prop) (h H1:Wa1):Prop:=
 (lP H1 (Addr.add ⟨h.size,0,none⟩ 2) λa=>nP a λa=>bd 5 10 (lI .u64 H1 (Addr.add a 7) λa=>cf 110 #[.int .u64 a] H1 λa b=>asInt .u64 a λa=>K (.int .u64 a) b))
def F196 (K:Value→Wa1→Prop) (h:Wa1) (xa xb xc:Option Addr):Prop:=
 (g196 K h (Array.push h (.cells #[.pointer xa,.pointer xb,.pointer xc] 139)))
theorem call196 {K:Value→Wa1→Prop} {h:Wa1} {xa xb xc:Option Addr} (H:F196 K h xa xb xc):Wa5 Tryz.prog 196 #[(.agg #[(.pointer xa),(.pointer xb),(.pointer xc)])] h K:=
 Wa4 Tryz.func196 (by kernel_rfl) (Eq.mp (by kernel_rfl) H)
abbrev g222 (K:Value→Wa1→Prop) (h H1:Wa1):Prop:=
 (lP H1 ⟨h.size,2,none⟩ λa=>nP a λa=>bd 4 10 (lI .u64 H1 (Addr.add a 6) λa=>K (.int .u64 a) H1))
def F222 (K:Value→Wa1→Prop) (h:Wa1) (xa xb xc:Option Addr):Prop:=
 (g222 K h (Array.push h (.cells #[.pointer xa,.pointer xb,.pointer xc] 171)))
theorem call222 {K:Value→Wa1→Prop} {h:Wa1} {xa xb xc:Option Addr} (H:F222 K h xa xb xc):Wa5 Tryz.prog 222 #[(.agg #[(.pointer xa),(.pointer xb),(.pointer xc)])] h K:=
 Wa4 Tryz.func222 (by kernel_rfl) (Eq.mp (by kernel_rfl) H)
end
section
open Mod
section
variable {K:Value→Wa1→Prop} {h:Wa1} {M T b o N:Nat} {tv:Value} {fo:Option (Nat × Nat)} {x:Run} {R:Hp}
theorem Zi0 (x:Run) (a:Int):(x.load a).2.m.p=x.m.p:=by
 show (x.m.load a).2.p=x.m.p
 unfold Mac.load
 dsimp only
 have:(x.m.touch a).p=x.m.p:=by unfold Mac.touch;split <;> rfl
 split <;> exact this
theorem Za1 (w:Int):s64 (Wg8 w)=Wg8 w:=by have:=WI9 w;unfold s64;omega
theorem YV7 (x:Run) (w f:Int):x.na (Wg8 w) f=x.m.p.node (Wg8 w) f:=by unfold Run.na;rw [Za1]
theorem Ws2 (H:Sat h (RunS M T tv (some (b,o)) x R)) (k:∀h',Old h.size h h'→K (.int .i64 (s64 (x.f.g 2))) h') :
  Wa5 Tryz.prog 187 #[rV M T b o] h K:=by
 refine call187 ?_
 unfold F187 g187 bd lP lI nP
 have oo:Old h.size h (h.push (.cells #[mP M,mP T,fP b o] 171)):=(Old.refl _ _).push _ (Nat.le_refl _)
 have H1:=RunS.new H (.cells #[mP M,mP T,fP b o] 171);generalize h.push (.cells #[mP M,mP T,fP b o] 171)=h1 at *;generalize h.size=N at *
 refine ss H1 ?_
 exact k h1 oo
theorem WT6 (H:Sat h (RunS M T tv (some (b,o)) x R)) (k:∀h',Old h.size h h'→K (.int .u64 (x.f.g 4)) h') :
  Wa5 Tryz.prog 222 #[rV M T b o] h K:=by
 refine call222 ?_
 unfold F222 g222 bd lP lI nP
 have oo:Old h.size h (h.push (.cells #[mP M,mP T,fP b o] 171)):=(Old.refl _ _).push _ (Nat.le_refl _)
 have H1:=RunS.new H (.cells #[mP M,mP T,fP b o] 171);generalize h.push (.cells #[mP M,mP T,fP b o] 171)=h1 at *;generalize h.size=N at *
 refine ss H1 ?_
 exact k h1 oo
theorem Wm0 (H:Sat h (RunS M T tv (some (b,o)) x R)) (k:∀h',Old h.size h h'→K (.int .u64 (Wg8 (x.f.g 4))) h') :
  Wa5 Tryz.prog 189 #[rV M T b o] h K:=by
 refine call189 ?_
 unfold F189 g189 cf dl3
 have B:=RunS.fB H
 have oo:Old h.size h (h.push (.cells #[mP M,mP T,fP b o] 171)):=(Old.refl _ _).push _ (Nat.le_refl _)
 have s1:=oo.1
 have H1:=RunS.new H (.cells #[mP M,mP T,fP b o] 171);generalize h.push (.cells #[mP M,mP T,fP b o] 171)=h1 at *;generalize h.size=N at *
 refine ss H1 ?_
 refine Wa0 (WT6 H1 λh2 o2=>?_)
 refine sb ?_
 refine Wa0 (We9 (B.g 4) ?_)
 refine sb ?_
 exact k h2 (oo.trans (o2.mono s1))
theorem WT7 (H:Sat h (RunS M T tv fo x R)) {n f:Int} (hf:iN f) (k:∀h',Old h.size h h'→K (.int .i64 (x.na n f)) h') :
  Wa5 Tryz.prog 188 #[rV M T b o,.int .u64 n,.int .i64 f] h K:=by
 refine call188 ?_
 unfold F188 g188 cf lP Wm8
 have oo:Old h.size h (h.push (.cells #[mP M,mP T,fP b o] 171)):=(Old.refl _ _).push _ (Nat.le_refl _)
 have s1:=oo.1
 have H1:=RunS.new H (.cells #[mP M,mP T,fP b o] 171);generalize h.push (.cells #[mP M,mP T,fP b o] 171)=h1 at *;generalize h.size=N at *
 refine sl H1 ?_
 refine Wa0 (Wr1 H1 λh2 o2=>WE0 ?_)
 refine Wa0 (Wf3 (RunS.pl H) (Wi2 _) hf λh3 o3=>?_)
 refine sb ?_
 exact k h3 (oo.trans ((o2.trans (o3.mono o2.1)).mono s1))
theorem WT8 (H:Sat h (RunS M T tv (some (b,o)) x R)) (O:Ok x) {i:Int} (hi:iN i) (k:∀h',Old h.size h h'→K (.int .i64 (x.m.p.haz x.id i)) h') :
  Wa5 Tryz.prog 186 #[rV M T b o,.int .i64 i] h K:=by
 refine call186 ?_
 unfold F186 g186 cf ce lP nP Wm8
 have oo:Old h.size h (h.push (.cells #[mP M,mP T,fP b o] 171)):=(Old.refl _ _).push _ (Nat.le_refl _)
 have s1:=oo.1
 have H1:=RunS.new H (.cells #[mP M,mP T,fP b o] 171);generalize h.push (.cells #[mP M,mP T,fP b o] 171)=h1 at *;generalize h.size=N at *
 refine ss H1 ?_
 refine Wa0 (Wr1 H1 λh2 o2=>WE0 ?_)
 have H2:=RunS.old H1 o2
 refine ss H2 ?_
 refine Wa0 (Wo9 (RunS.pl H) O.id hi λh3 o3=>?_)
 refine sb ?_
 exact k h3 (oo.trans ((o2.trans (o3.mono o2.1)).mono s1))
theorem WE7 (H:Sat h (RunS M T tv (some (b,o)) x R)) (k:∀h',Sat h' (RunS M T tv none (WH4 x) R)→K (.tuple #[]) h') :
  Wa5 Tryz.prog 192 #[rV M T b o] h K:=by
 refine call192 ?_
 unfold F192 g192 cf bd lP nP da3
 unfold WH4 at k
 have H1:=RunS.new H (.cells #[mP M,mP T,fP b o] 173);generalize h.push (.cells #[mP M,mP T,fP b o] 173)=h1 at *;generalize h.size=N at *
 refine ss H1 ?_
 refine Wa0 (Wm0 H1 λh2 o2=>?_)
 have H2:=RunS.old H1 o2
 refine ss H2 ?_
 refine RunS.stR (i:=3) H2 rfl (Wi9 _) λh3 H3=>?_
 refine ss H3 ?_
 exact RunS.stP H3 λh4 H4=>k h4 (RunS.drp (RunS.none H4))
theorem Ye0 (H:Sat h (RunS M T tv (some (b,o)) x R)) (O:Ok x) (k:∀h',Sat h' (RunS M T tv none (((((( x.load 1).2.s 1 (x.load 1).1).s 3 1).s 5 0).s 2 (u64 (x.m.p.c.level - 1))).pc 1) R)→K (.tuple #[]) h') :
  Wa5 Tryz.prog 185 #[rV M T b o] h K:=by
 refine call185 ?_
 unfold F185 g185 cf bd lP nP de7 Wm8
 have P:=RunS.pl H
 have H1:=RunS.new H (.cells #[mP M,mP T,fP b o] 173);generalize h.push (.cells #[mP M,mP T,fP b o] 173)=h1 at *;generalize h.size=N at *
 refine ss H1 ?_
 refine Wa0 (Wg1 H1 (by decide) O.st λh2 H2 u2=>?_)
 refine ss H2 ?_
 refine RunS.stR (i:=1) H2 rfl u2 λh3 H3=>?_
 try simp +decide only [Wb9,bsx,Nat.reduceAdd,Int.reduceLE,Int.reduceLT,Int.reduceToNat,rsx,g_s,Wa8,RunS.al H3]
 refine RunS.stR (i:=3) H3 rfl (U.lit rfl) λh4 H4=>?_
 try simp +decide only [Wb9,bsx,Nat.reduceAdd,Int.reduceLE,Int.reduceLT,Int.reduceToNat,rsx,g_s,Wa8,RunS.al H4]
 refine RunS.stR (i:=5) H4 rfl U0 λh5 H5=>?_
 refine ss H5 ?_
 refine Wa0 (Wr1 H5 λh6 o6=>WE0 ?_)
 have H6:=RunS.old H5 o6
 try simp +decide only [Wb9,bsx,Nat.reduceAdd,Int.reduceLE,Int.reduceLT,Int.reduceToNat,rsx,g_s,Wa8,RunS.al H6]
 refine Wa0 (Wh2 λh7 o7=>cf7 ?_)
 have H7:=RunS.old H6 o7
 refine ss H7 ?_
 have em:(x.load 1).2.m.p=x.m.p:=Zi0 x 1
 have em2:(((( x.load 1).2.s 1 (x.load 1).1).s 3 1).s 5 0).m.p=x.m.p:=em
 rw [em2]
 refine RunS.stR (i:=2) H7 rfl (Wj8 _) λh8 H8=>?_
 exact RunS.stP H8 λh9 H9=>k h9 (RunS.drp (RunS.none H9))
theorem WJ3 (H:Sat h (RunS M T tv (some (b,o)) x R)) (hr:RowOk x (x.f.g 2)) (k:∀h',Sat h' (RunS M T tv none (Wo7 x) R)→K (.tuple #[]) h') :
  Wa5 Tryz.prog 190 #[rV M T b o] h K:=by
 refine call190 ?_
 unfold F190 g190 cf bd lI nP da3
 have B:=RunS.fB H
 have TB:=RunS.B H
 obtain ⟨⟨r0,r1⟩,e1,e2,e3⟩:=hr
 unfold Wo7 at k
 dsimp only at k
 have H1:=RunS.new H (.cells #[mP M,mP T,fP b o] 173);generalize h.push (.cells #[mP M,mP T,fP b o] 173)=h1 at *;generalize h.size=N at *
 refine ss H1 ?_
 refine Wa0 (Ws2 H1 λh2 o2=>?_)
 have H2:=RunS.old H1 o2
 obtain ⟨pb,sb,wb,Q,hQ,HR,re⟩:=Ym7 H2
 obtain ⟨c5,c6,c7⟩:=hQ h2 _ HR.drop.drop.drop
 have d5:∀F:Value→Prop,ldH h2 ⟨T,5,none⟩ F=F (.slice (some ⟨pb,0,none⟩) x.t.pred.length x.t.pred.length):=λF=>by unfold ldH;rw [c5]
 have d6:∀F:Value→Prop,ldH h2 ⟨T,6,none⟩ F=F (.slice (some ⟨sb,0,none⟩) x.t.succ.length x.t.succ.length):=λF=>by unfold ldH;rw [c6]
 have d7:∀F:Value→Prop,ldH h2 ⟨T,7,none⟩ F=F (.slice (some ⟨wb,0,none⟩) x.t.word.length x.t.word.length):=λF=>by unfold ldH;rw [c7]
 try simp +decide only [Wb9,bsx,Nat.reduceAdd,Int.reduceLE,Int.reduceLT,Int.reduceToNat,rsx,g_s,Wa8,RunS.al H2,d5,d6,d7]
 refine Wa0 (Wm0 H2 λh3 o3=>?_)
 have H3:=RunS.old H2 o3
 have HR3:=HR.old o3
 obtain ⟨c5,c6,c7⟩:=hQ h3 _ HR3.drop.drop.drop
 try simp +decide only [Wb9,bsx,Nat.reduceAdd,Int.reduceLE,Int.reduceLT,Int.reduceToNat,rsx,g_s,Wa8,RunS.al H3,c5,c6,c7]
 refine ⟨r0,by omega,?_⟩
 have hu:∀l:List Int,(uvs l).length=l.length:=W42
 have us:∀(l:List Int) (i:Nat) (v:Int),(uvs l).set i (.int .u64 v)=uvs (l.set i v):=λl i v=>by unfold uvs;rw [List.map_set]
 refine WA5 HR3 (by rw [hu];omega) trivial λh4 H4=>?_
 refine ⟨r0,by omega,?_⟩
 rw [YL6,us] at H4
 refine WA5 H4 (by rw [hu];omega) trivial λh5 H5=>?_
 refine ⟨r0,by omega,?_⟩
 rw [← YL6,us,Wb3] at H5
 refine WA5 H5 (by rw [hu];omega) trivial λh6 H6=>?_
 rw [Wb3,us] at H6
 have H7:=re h6 _ _ _ (by simp) (by simp) (by simp) (Wk2 TB.pr (B.g 3)) (Wk2 TB.su (Wi9 _)) (Wk2 TB.wo (B.g 4)) H6
 have ef:(x.setPl (x.t.pred.set (s64 (x.f.g 2)).toNat (x.f.g 3)) (x.t.succ.set (s64 (x.f.g 2)).toNat (Wg8 (x.f.g 4))) (x.t.word.set (s64 (x.f.g 2)).toNat (x.f.g 4))).f=x.f:=rfl
 try simp +decide only [Wb9,bsx,Nat.reduceAdd,Int.reduceLE,Int.reduceLT,Int.reduceToNat,rsx,g_s,Wa8,RunS.al H7,ef]
 refine Wa3 (λc=>?_) (λc=>?_)
 ·have c':(s64 (x.f.g 2)).toNat=0:=by omega
  rw [if_pos c'] at k
  exact Wa0 (Zq3 H7 [x.f.g 5] rfl (Wm7 (B.g 5)) rfl λh8 H8=>k h8 (RunS.drp H8))
 ·have c':¬ (s64 (x.f.g 2)).toNat=0:=by omega
  rw [if_neg c'] at k
  exact RunS.stR (i:=2) H7 rfl (Wj8 _) λh8 H8=>RunS.stP H8 λh9 H9=>k h9 (RunS.drp (RunS.none H9))
theorem Ye1 (H:Sat h (RunS M T tv (some (b,o)) x R)) (O:Ok x) (k:∀h',Sat h' (RunS M T tv none (WH5 x) R)→K (.tuple #[]) h') :
  Wa5 Tryz.prog 191 #[rV M T b o] h K:=by
 refine call191 ?_
 unfold F191 g191 cf bd lP nP da3 dl3
 have B:=RunS.fB H
 unfold WH5 at k
 dsimp only at k
 have H1:=RunS.new H (.cells #[mP M,mP T,fP b o] 173);generalize h.push (.cells #[mP M,mP T,fP b o] 173)=h1 at *;generalize h.size=N at *
 refine ss H1 ?_
 refine Wa0 (Wg1 H1 (by decide) O.st λh2 H2 u2=>?_)
 refine ss H2 ?_
 refine Wb6 (λc=>?_) (λc=>?_)
 ·rw [if_pos (bne_iff_ne.1 c)] at k
  exact RunS.stP H2 λh3 H3=>k h3 (RunS.drp (RunS.none H3))
 rw [if_neg (λhh=>hh (bne_eq_false_iff_eq.1 c))] at k
 refine ⟨λvs h'=>(∃w,vs = [.bool (decide (s64 (x.f.g 2)=0∧Wo6 (x.f.g 4)=true)),w])∧Sat h' (RunS M T tv (some (b,o)) (x.load 1).2 (pt N (.cells #[mP M,mP T,fP b o] 173)*R)),?_,?_⟩
 ·refine ss H2 ?_
  refine Wa0 (Ws2 H2 λh3 o3=>?_)
  have H3:=RunS.old H2 o3
  refine ss H3 ?_
  refine Wa3 (λc2=>?_) (λc2=>?_)
  ·try simp +decide only [Wb9,bsx,Nat.reduceAdd,Int.reduceLE,Int.reduceLT,Int.reduceToNat,rsx,g_s,Wa8,RunS.al H3]
   refine Wa0 (WT6 H3 λh4 o4=>?_)
   have H4:=RunS.old H3 o4
   refine ss H4 ?_
   refine Wa0 (Wh6 (B.g 4) ?_)
   refine sb ?_
   rw [show decide (s64 (x.f.g 2)=0∧Wo6 (x.f.g 4)=true)=Wo6 (x.f.g 4) by simp [c2]]
   exact ⟨⟨_,rfl⟩,H4⟩
  ·rw [decide_eq_false (p:=s64 (x.f.g 2)=0∧Wo6 (x.f.g 4)=true) (λhh=>c2 hh.1)]
   exact ⟨⟨_,rfl⟩,H3⟩
 rintro v28 v29 g30 h31 ⟨⟨w,e⟩,H3⟩
 cases e
 refine ss H3 ?_
 refine Wa3 (λc2=>?_) (λc2=>?_)
 ·rw [if_pos c2] at k
  refine Wa0 (Wm0 H3 λh4 o4=>?_)
  have H4:=RunS.old H3 o4
  refine ss H4 ?_
  refine RunS.stR (i:=5) H4 rfl (Wi9 _) λh5 H5=>?_
  refine ss H5 ?_
  exact Wa0 (WE7 H5 λh6 H6=>k h6 (RunS.drp H6))
 rw [if_neg c2] at k
 refine Wa0 (Ws2 H3 λh4 o4=>?_)
 have H4:=RunS.old H3 o4
 refine ss H4 ?_
 refine Wa3 (λc3=>?_) (λc3=>?_)
 ·rw [if_pos c3] at k
  exact RunS.stP H4 λh5 H5=>k h5 (RunS.drp (RunS.none H5))
 ·rw [if_neg c3] at k
  exact RunS.stP H4 λh5 H5=>k h5 (RunS.drp (RunS.none H5))
theorem Yn2 (H:Sat h (RunS M T tv (some (b,o)) x R)) (O:Ok x) (hr:x.f.pc≠0→RowOk x (x.f.g 2)) (k:∀h',Sat h' (RunS M T tv none (W35 x) R)→K (.tuple #[]) h') :
  Wa5 Tryz.prog 103 #[rV M T b o] h K:=by
 refine call103 ?_
 unfold F103 g103 cf ce bd lP lI nP da3 dl3
 have B:=RunS.fB H
 have P:=RunS.pl H
 unfold W35 at k
 dsimp only at k
 have H1:=RunS.new H (.cells #[mP M,mP T,fP b o] 173);generalize h.push (.cells #[mP M,mP T,fP b o] 173)=h1 at *;generalize h.size=N at *
 refine ss H1 ?_
 refine Wa3 (λc=>?_) (λc=>?_)
 ·rw [if_pos c] at k
  have em:(x.load 1).2.m.p=x.m.p:=Zi0 x 1
  rw [em] at k
  exact Wa0 (Ye0 H1 O λh2 H2=>k h2 (RunS.drp H2))
 rw [if_neg c] at k
 have hr:=hr c
 have hrr:0≤s64 (x.f.g 2)∧s64 (x.f.g 2) < 1000:=⟨hr.r.1,by have:=hr.r.2;have:=hr.e3;omega⟩
 have hr6:s64 (x.f.g 2) < 6:=by have:=hr.r.2;have:=hr.e3;omega
 refine Wa3 (λc=>?_) (λc=>?_)
 ·rw [if_pos c] at k
  refine Wa0 (Ws2 H1 λh3 o3=>?_)
  have H3:=RunS.old H1 o3
  refine ss H3 ?_
  rw [WJ2 (n:=2*s64 (x.f.g 2)) (by omega) (by omega)]
  refine Wa0 (WT8 H3 O ⟨by omega,by omega⟩ λh4 o4=>?_)
  have H4:=RunS.old H3 o4
  refine ss H4 ?_
  refine Wa0 (Wi8 H4 (WM6 P _ _) (B.g 3) O.st λh5 H5=>?_)
  exact RunS.stP H5 λh7 H7=>k h7 (RunS.drp (RunS.none H7))
 rw [if_neg c] at k
 refine Wa3 (λc=>?_) (λc=>?_)
 ·rw [if_pos c] at k
  refine Wa0 (Ws2 H1 λh3 o3=>?_)
  have H3:=RunS.old H1 o3
  refine ss H3 ?_
  rw [WJ2 (n:=5+s64 (x.f.g 2)) (by omega) (by omega)]
  refine Wa0 (WT7 H3 ⟨by omega,by omega⟩ λh4 o4=>?_)
  have H4:=RunS.old H3 o4
  rw [show x.na (x.f.g 3) (5+s64 (x.f.g 2))=x.nlink (x.f.g 3) (x.f.g 2) from rfl]
  refine ss H4 ?_
  refine Wa0 (Wg1 H4 (Wd1 P _ _) O.st λh5 H5 u5=>?_)
  refine ss H5 ?_
  refine RunS.stR (i:=4) H5 rfl u5 λh6 H6=>RunS.stP H6 λh7 H7=>?_
  refine ss H7 ?_
  refine Wa0 (Wm0 H7 λh8 o8=>?_)
  have H8:=RunS.old H7 o8
  try simp +decide only [Wb9,bsx,Nat.reduceAdd,Int.reduceLE,Int.reduceLT,Int.reduceToNat,rsx,g_s,Wa8,RunS.al H8,B.len]
  refine Wa3 (λc2=>?_) (λc2=>?_)
  ·rw [if_pos c2] at k
   have hr7:RowOk (((x.load (x.nlink (x.f.g 3) (x.f.g 2))).2.s 4 (x.load (x.nlink (x.f.g 3) (x.f.g 2))).1).pc 3) (((((x.load (x.nlink (x.f.g 3) (x.f.g 2))).2.s 4 (x.load (x.nlink (x.f.g 3) (x.f.g 2))).1).pc 3).f.g 2)):=by
    rw [WC9,WN6,f_s,Wa8 _ (by decide),Wl4]
    exact hr.same ⟨rfl,rfl,rfl⟩
   exact Wa0 (WJ3 H8 hr7 λh9 H9=>k h9 (RunS.drp H9))
  ·rw [if_neg c2] at k
   exact k h8 (RunS.drp (RunS.none H8))
 rw [if_neg c] at k
 refine Wa3 (λc=>?_) (λc=>?_)
 ·rw [if_pos c] at k
  refine Wa0 (Ws2 H1 λh3 o3=>?_)
  have H3:=RunS.old H1 o3
  refine ss H3 ?_
  rw [WJ2 (n:=2*s64 (x.f.g 2)) (by omega) (by omega),WJ2 (n:=2*s64 (x.f.g 2)+1) (by omega) (by omega)]
  refine Wa0 (WT8 H3 O ⟨by omega,by omega⟩ λh4 o4=>?_)
  have H4:=RunS.old H3 o4
  refine ss H4 ?_
  refine Wa0 (Wm0 H4 λh5 o5=>?_)
  have H5:=RunS.old H4 o5
  refine ss H5 ?_
  refine Wa0 (Wi8 H5 (WM6 P _ _) (Wi9 _) O.st λh6 H6=>?_)
  exact RunS.stP H6 λh7 H7=>k h7 (RunS.drp (RunS.none H7))
 rw [if_neg c] at k
 refine Wa3 (λc=>?_) (λc=>?_)
 ·rw [if_pos c] at k
  exact Wa0 (Ye1 H1 O λh3 H3=>k h3 (RunS.drp H3))
 rw [if_neg c] at k
 refine Wa3 (λc=>?_) (λc=>?_)
 ·rw [if_pos c] at k
  rw [← YV7] at k
  refine RunS.stP H1 λh2 H2=>?_
  refine ss H2 ?_
  refine Wa0 (Wm0 H2 λh3 o3=>?_)
  have H3:=RunS.old H2 o3
  refine ss H3 ?_
  refine Wa0 (WT7 H3 (by decide) λh4 o4=>?_)
  have H4:=RunS.old H3 o4
  rw [show (x.pc 6).na (Wg8 (x.f.g 4)) 5=x.na (Wg8 (x.f.g 4)) 5 from rfl]
  refine ss H4 ?_
  refine Wa0 (Wg1 H4 (Wd1 P _ _) O.st λh5 H5 u5=>?_)
  refine ss H5 ?_
  refine Wa0 (Wh6 u5 ?_)
  refine ss H5 ?_
  refine Wb6 (λc2=>?_) (λc2=>?_)
  ·rw [if_pos c2] at k
   exact Wa0 (WE7 H5 λh6 H6=>k h6 (RunS.drp H6))
  ·rw [if_neg (by rw [c2];simp)] at k
   exact k h5 (RunS.drp (RunS.none H5))
 rw [if_neg c] at k
 rw [← YV7] at k
 refine Wa0 (Wm0 H1 λh3 o3=>?_)
 have H3:=RunS.old H1 o3
 refine ss H3 ?_
 refine Wa0 (WT7 H3 (by decide) λh4 o4=>?_)
 have H4:=RunS.old H3 o4
 refine ss H4 ?_
 refine Wa0 (Wg1 H4 (Wd1 P _ _) O.st λh5 H5 u5=>?_)
 refine ss H5 ?_
 refine Wa3 (λc2=>?_) (λc2=>?_)
 ·rw [if_pos c2] at k
  exact Wa0 (WE7 H5 λh6 H6=>k h6 (RunS.drp H6))
 ·rw [if_neg c2] at k
  exact Wa0 (WJ3 H5 (hr.same ⟨rfl,rfl,rfl⟩) λh6 H6=>k h6 (RunS.drp H6))
def LOk (x:Run):Prop:=x.f.fn=30→x.f.pc≠0→RowOk x (x.f.g 2)
theorem W53 (H:Sat h (RunS M T tv fo x R)) (O:Ok x) (hf:LOk x) (k:∀h',Sat h' (RunS M T tv none (Wx0 x) R)→K (.tuple #[]) h') :
  Wa5 Tryz.prog 52 #[mP M,mP T] h K:=by
 refine call52 ?_
 unfold F52 cf lI nP
 unfold Wx0 at k
 refine Wa0 (Y89 H (λe=>?_) λb o hne _ H1=>?_)
 ·rw [if_pos e] at k
  refine sb ?_
  refine ⟨λvs h'=>(∃w,vs = [.bool true,w])∧h' = h,⟨⟨_,rfl⟩,rfl⟩,?_⟩
  rintro v4 v5 g6 h7 ⟨⟨w,e⟩,rfl⟩
  cases e
  refine sb ?_
  exact k _ (RunS.none H)
 ·rw [if_neg hne] at k
  refine sb ?_
  refine ⟨λvs h'=>(∃w,vs = [.bool false,w])∧h' = h,⟨⟨_,rfl⟩,rfl⟩,?_⟩
  rintro v4 v5 g6 h7 ⟨⟨w,e⟩,rfl⟩
  cases e
  try simp +decide only [Wb9,bsx,Nat.reduceAdd,Int.reduceLE,Int.reduceLT,Int.reduceToNat,rsx,g_s,Wa8,RunS.r H1]
  refine Wa3 (λc=>?_) (λc=>?_)
  ·rw [if_pos c] at k
   exact Wa0 (Yn2 H1 O (hf c) k)
  rw [if_neg c] at k
  exact Wa0 (Wx7 H1 O k)
end
end
section
open Mod
theorem and1 {n:Int} (h:U n):Mod.u64 ((((BitVec.ofInt 64 n) &&& (BitVec.ofInt 64 1)).toNat:Nat):Int)=n % 2:=by
 obtain ⟨h0,h1⟩:=h
 have e:(BitVec.ofInt 64 n).toNat=n.toNat:=by
  rw [BitVec.toNat_ofInt]
  omega
 rw [BitVec.toNat_and,e,show (BitVec.ofInt 64 1).toNat=1 from rfl,Nat.and_one_is_mod]
 unfold Mod.u64
 omega
section
variable {K:Value→Wa1→Prop} {h:Wa1} {M T b o N:Nat} {tv:Value} {fo:Option (Nat × Nat)} {x:Run} {R:Hp}
theorem Wy2 (H:Sat h (RunS M T tv (some (b,o)) x R)) {pc fn:Int} {a:Option Addr} {l c:Nat} {rs:List Int} (A:Args R a l c rs) (hl:l≤10) (hd:x.t.fr.length < 1073741823)
  (k:∀h' b' o',¬ (b' = b∧o' = o)→WN5 h' (some (b,o)) (x.pc pc).f→Sat h' (RunS M T tv (some (b',o')) (x.call pc fn rs) R)→K (.tuple #[]) h') :
  Wa5 Tryz.prog 113 #[rV M T b o,.int .i64 pc,.int .i64 fn,.slice a l c] h K:=by
 refine call113 ?_
 unfold F113 g113 cf lP nP
 have H1:=RunS.new H (.cells #[mP M,mP T,fP b o] 133);generalize h.push (.cells #[mP M,mP T,fP b o] 133)=h1 at *;generalize h.size=N at *
 try simp only [Wb9,bsx,Nat.reduceAdd,Int.reduceLE,Int.reduceLT,Int.reduceToNat,RunS.l H1]
 refine RunS.stP H1 λh2 H2=>?_
 try simp only [Wb9,bsx,Nat.reduceAdd,Int.reduceLE,Int.reduceLT,Int.reduceToNat,RunS.l H2]
 refine Wa0 (YS7 H2 A.skip hl (by show (x.t.fr.dropLast ++ [_]).length < _;simp;omega) λh3 b' o' h1 h2 H3=>k h3 b' o' (λe=>h1 b o rfl e) h2 (RunS.drp H3))
theorem WE8 (H:Sat h (RunS M T tv (some (b,o)) x R)) {pc fn:Int} {l:Nat} (rs:List Int) {ty:TypeId} (hr:rs.length=l) (hu:∀v ∈ rs,U v) (hl:Nat.ble l 10=true) (hd:x.t.fr.length < 1073741823)
  (k:∀h' b' o',¬ (b' = b∧o' = o)→WN5 h' (some (b,o)) (x.pc pc).f→Sat h' (RunS M T tv (some (b',o')) (x.call pc fn rs) R)→K (.tuple #[]) h') :
  Wa5 Tryz.prog 113 #[rV M T b o,.int .i64 pc,.int .i64 fn,.slice (some ⟨h.size,0,none⟩) l l] (h.push (.cells (uvs rs).toArray ty)) K:=
 Wy2 (RunS.new H (.cells (uvs rs).toArray ty)) (Args.mk' hr hu) (Nat.le_of_ble_eq_true hl) hd λh' b' o' h1 h2 H'=>k h' b' o' h1 h2 (RunS.drp H')
theorem Wn8 (H:Sat h (RunS M T tv fo x R)) {n f:Int} (hf:iN f) (k:∀h',Old h.size h h'→K (.int .i64 (x.na n f)) h') :
  Wa5 Tryz.prog 193 #[rV M T b o,.int .u64 n,.int .i64 f] h K:=by
 refine call193 ?_
 unfold F193 g193 cf lP Wm8
 have oo:Old h.size h (h.push (.cells #[mP M,mP T,fP b o] 133)):=(Old.refl _ _).push _ (Nat.le_refl _)
 have s1:=oo.1
 have H1:=RunS.new H (.cells #[mP M,mP T,fP b o] 133);generalize h.push (.cells #[mP M,mP T,fP b o] 133)=h1 at *;generalize h.size=N at *
 try simp only [Wb9,bsx,Nat.reduceAdd,Int.reduceLE,Int.reduceLT,Int.reduceToNat,RunS.l H1]
 refine Wa0 (Wr1 H1 λh2 o2=>WE0 ?_)
 refine Wa0 (Wf3 (RunS.pl H) (Wi2 _) hf λh3 o3=>?_)
 refine sb ?_
 exact k h3 (oo.trans ((o2.trans (o3.mono o2.1)).mono s1))
theorem Wd7 (H:Sat h (RunS M T tv fo x R)) {n r:Int} (k:∀h',Old h.size h h'→K (.int .i64 (x.nlink n r)) h') :
  Wa5 Tryz.prog 109 #[rV M T b o,.int .u64 n,.int .u64 r] h K:=by
 refine call109 ?_
 unfold F109 g109 cf dl3
 have oo:Old h.size h (h.push (.cells #[mP M,mP T,fP b o] 133)):=(Old.refl _ _).push _ (Nat.le_refl _)
 have s1:=oo.1
 have H1:=RunS.new H (.cells #[mP M,mP T,fP b o] 133);generalize h.push (.cells #[mP M,mP T,fP b o] 133)=h1 at *;generalize h.size=N at *
 try simp only [Wb9,bsx,Nat.reduceAdd,Int.reduceLE,Int.reduceLT,Int.reduceToNat,RunS.l H1]
 refine Wa0 (Wn8 H1 (Wi2 _) λh2 o2=>?_)
 refine sb ?_
 have e:x.na n (s64 (5+s64 r))=x.nlink n r:=Yy0 (RunS.pl H) (Wi2 _)
 rw [e]
 exact k h2 (oo.trans (o2.mono s1))
theorem Wm6 (H:Sat h (RunS M T tv fo x R)) {a w t:Int} {mk:Bool} (ha:iN a) (hw:U w) (hs:x.m.mm.st < 1099511627776) (k:∀h',Sat h' (RunS M T tv fo (x.swingM a w t mk).2 R)→K (.bool (x.swingM a w t mk).1) h') :
  Wa5 Tryz.prog 114 #[rV M T b o,.int .i64 a,.int .u64 w,.int .u64 t,.bool mk] h K:=by
 refine call114 ?_
 unfold F114 g114 cf ce
 have H1:=RunS.new H (.cells #[mP M,mP T,fP b o] 133);generalize h.push (.cells #[mP M,mP T,fP b o] 133)=h1 at *;generalize h.size=N at *
 try simp only [Wb9,bsx,Nat.reduceAdd,Int.reduceLE,Int.reduceLT,Int.reduceToNat,RunS.l H1]
 refine Wa0 (Wg9 hw ?_)
 try simp only [Wb9,bsx,Nat.reduceAdd,Int.reduceLE,Int.reduceLT,Int.reduceToNat,RunS.l H1]
 refine Wa0 (Zh2 H1 ha Wo8 hs λh3 H3=>?_)
 refine sb ?_
 exact k h3 (RunS.drp H3)
theorem W01 (H:Sat h (RunS M T tv (some (b,o)) x R)) {k7 k8 k9:Int} (h7:U k7) (h8:U k8) (h9:U k9) (hd:x.t.fr.length < 1073741823)
  (k:∀h' b' o',Sat h' (RunS M T tv (some (b',o')) (x.fin k7 k8 k9) R)→K (.tuple #[]) h') :
  Wa5 Tryz.prog 194 #[rV M T b o,.int .u64 k7,.int .u64 k8,.int .u64 k9] h K:=by
 refine call194 ?_
 unfold F194 g194 cf ce bd lP nP dl3
 have H1:=RunS.new H (.cells #[mP M,mP T,fP b o] 133);generalize h.push (.cells #[mP M,mP T,fP b o] 133)=h1 at *;generalize h.size=N at *
 try simp only [Wb9,bsx,Nat.reduceAdd,Int.reduceLE,Int.reduceLT,Int.reduceToNat,RunS.l H1]
 refine RunS.stR (i:=7) H1 rfl h7 λh2 H2=>?_
 try simp only [Wb9,bsx,Nat.reduceAdd,Int.reduceLE,Int.reduceLT,Int.reduceToNat,RunS.l H2]
 refine RunS.stR (i:=8) H2 rfl h8 λh3 H3=>?_
 try simp only [Wb9,bsx,Nat.reduceAdd,Int.reduceLE,Int.reduceLT,Int.reduceToNat,RunS.l H3]
 refine RunS.stR (i:=9) H3 rfl h9 λh4 H4=>?_
 try simp only [Wb9,bsx,Nat.reduceAdd,Int.reduceLE,Int.reduceLT,Int.reduceToNat,RunS.l H4]
 refine Wa0 (Wy2 H4 Args.none (by omega) ?_ λh5 b' o' h1 h2 H5=>k h5 b' o' (RunS.drp H5))
 have e:=List.length_pos_iff.2 (WR9 (RunS.thr H))
 show ((((x.t.fr.dropLast ++ [_]).dropLast ++ [_]).dropLast) ++ [_]).length < _
 simp
 omega
theorem Ws9 (H:Sat h (RunS M T tv (some (b,o)) x R)) {kd:Int} (h7:U kd) (hd:x.t.fr.length < 1073741823)
  (k:∀h' b' o',Sat h' (RunS M T tv (some (b',o')) (x.fin kd 0 0) R)→K (.tuple #[]) h') :
  Wa5 Tryz.prog 112 #[rV M T b o,.int .u64 kd] h K:=by
 refine call112 ?_
 unfold F112 g112 cf dl3
 have H1:=RunS.new H (.cells #[mP M,mP T,fP b o] 133);generalize h.push (.cells #[mP M,mP T,fP b o] 133)=h1 at *;generalize h.size=N at *
 try simp only [Wb9,bsx,Nat.reduceAdd,Int.reduceLE,Int.reduceLT,Int.reduceToNat,RunS.l H1]
 exact Wa0 (W01 H1 h7 U0 U0 hd λh5 b' o' H5=>k h5 b' o' (RunS.drp H5))
theorem WM8 (H:Sat h (RunS M T tv fo x R)) (O:Ok x) {sl n:Int} (hs:U sl) (hn:U n) (k:∀h',Sat h' (RunS M T tv fo (x.guard sl n) R)→K (.tuple #[]) h') :
  Wa5 Tryz.prog 118 #[rV M T b o,.int .u64 sl,.int .u64 n] h K:=by
 refine call118 ?_
 unfold F118 g118 cf lP nP Zs2 Wm8 WD6 ce
 have P:=RunS.pl H
 have P1:=P.sl
 have H1:=RunS.new H (.cells #[mP M,mP T,fP b o] 133);generalize h.push (.cells #[mP M,mP T,fP b o] 133)=h1 at *;generalize h.size=N at *
 try simp only [Wb9,bsx,Nat.reduceAdd,Int.reduceLE,Int.reduceLT,Int.reduceToNat,RunS.l H1]
 refine Wa0 (Wr1 H1 λh2 o2=>WE0 ?_)
 have H2:=RunS.old H1 o2
 have H3:=RunS.new H2 (.cells #[.int .i64 0,.int .i64 0,.int .i64 0,.int .i64 0,.int .i64 0,.int .i64 0,.int .i64 0,.int .i64 0,.int .i64 0,.int .i64 0,.int .i64 0,.int .i64 0,.int .i64 0,.int .i64 0,.int .i64 0] 77)
 generalize h2.push (.cells #[.int .i64 0,.int .i64 0,.int .i64 0,.int .i64 0,.int .i64 0,.int .i64 0,.int .i64 0,.int .i64 0,.int .i64 0,.int .i64 0,.int .i64 0,.int .i64 0,.int .i64 0,.int .i64 0,.int .i64 0] 77)=h3 at *
 generalize h2.size=N2 at *
 refine Y40 (Wd3 (vs:=plc x.m.p) (RunS.loc H3) rfl (by simp [Wi3]) λh4 w=>?_)
 have H4:=RunS.wr H3 w.new w.old
 clear H3 w
 try simp only [Wb9,bsx,Nat.reduceAdd,Int.reduceLE,Int.reduceLT,Int.reduceToNat,RunS.l2 H4]
 refine Yc3 (RunS.loc H4) ?_
 try simp only [Wb9,bsx,Nat.reduceAdd,Int.reduceLE,Int.reduceLT,Int.reduceToNat,RunS.l2 H4,RunS.tc H4]
 refine Yc3 (RunS.loc H4) ?_
 refine Wa0 (Wm5 λh5 o5=>?_)
 have H5:=RunS.old H4 o5
 try simp only [Wb9,bsx,Nat.reduceAdd,Int.reduceLE,Int.reduceLT,Int.reduceToNat,RunS.l2 H5,RunS.tc H5]
 refine YT5 (RunS.loc H5) ?_
 have es:s64 (s64 (x.m.p.slots - 1) - s64 (Mod.u64 ((((BitVec.ofInt 64 sl) &&& (BitVec.ofInt 64 1)).toNat:Nat):Int)))=x.m.p.slots - 1 - sl % 2:=by
  rw [and1 hs]
  unfold s64
  omega
 try rw [es]
 refine Wa0 (Wo9 P O.id ⟨by omega,by omega⟩ λh6 o6=>?_)
 have H6:=RunS.old H5 o6
 try simp only [Wb9,bsx,Nat.reduceAdd,Int.reduceLE,Int.reduceLT,Int.reduceToNat,RunS.l2 H6]
 exact Wa0 (Wi8 H6 (WM6 P _ _) hn O.st λh7 H7=>k h7 (RunS.drp (RunS.drp H7)))
theorem Wh8 {w:Int} (hw:U w) (k:K (.int .u64 (Wg8 w)) h):Wa5 Tryz.prog 110 #[.int .u64 w] h K:=by
 refine call110 ?_
 unfold F110 cf
 refine Wa0 (We9 hw ?_)
 refine sb ?_
 exact k
theorem Wp3 {w:Int} (hw:U w) (k:K (.bool (Wo6 w)) h):Wa5 Tryz.prog 111 #[.int .u64 w] h K:=by
 refine call111 ?_
 unfold F111 cf
 refine Wa0 (Wh6 hw ?_)
 refine sb ?_
 exact k
end
end
section
open Mod
section
variable {K:Value→Wa1→Prop} {h:Wa1} {M T b o N:Nat} {tv:Value} {fo:Option (Nat × Nat)} {x:Run} {R:Hp}
theorem Yn3 {u v w:Int} (h1:U u) (h2:U v) (h3:U w):∀y ∈ [u,v,w],U y:=by
 intro y hy
 simp only [List.mem_cons,List.not_mem_nil,or_false] at hy
 rcases hy with rfl | rfl | rfl
 ·exact h1
 ·exact h2
 ·exact h3
theorem Yn4 (H:Sat h (RunS M T tv (some (b,o)) x R)) (O:Ok x) (k:∀h',Sat h' (RunS M T tv none (W30 x) R)→K (.tuple #[]) h') :
  Wa5 Tryz.prog 45 #[rV M T b o] h K:=by
 refine call45 ?_
 unfold F45 g45 cf lP lI nP dl3
 have hp:=O.pc
 unfold W30 at k
 have H1:=RunS.new H (.cells #[mP M,mP T,fP b o] 124);generalize h.push (.cells #[mP M,mP T,fP b o] 124)=h1 at *;generalize h.size=N at *
 refine ss H1 ?_
 refine Wa3 (λc=>?_) (λc=>?_)
 ·rw [if_pos c] at k
  exact Wa0 (Ym4 H1 O c λh2 H2=>k h2 (RunS.drp H2))
 rw [if_neg c] at k
 refine Wa3 (λc=>?_) (λc=>?_)
 ·rw [if_pos c] at k
  exact Wa0 (Ym5 H1 O (by omega) λh2 H2=>k h2 (RunS.drp H2))
 rw [if_neg c] at k
 refine Wa3 (λc=>?_) (λc=>?_)
 ·rw [if_pos c] at k
  exact Wa0 (Ym6 H1 O (by omega) λh2 H2=>k h2 (RunS.drp H2))
 rw [if_neg c] at k
 exact Wa0 (YF2 H1 O λh2 H2=>k h2 (RunS.drp H2))
theorem Yn5 (H:Sat h (RunS M T tv (some (b,o)) x R)) (O:Ok x) (k:∀h',Sat h' (RunS M T tv none (WR0 x) R)→K (.tuple #[]) h') :
  Wa5 Tryz.prog 83 #[rV M T b o] h K:=by
 refine call83 ?_
 unfold F83 g83 q83_1 cf ce bd lP lI nP da3
 have B:=RunS.fB H
 have P:=RunS.pl H
 have hd:=O.fr
 have r0:=RunS.ret H 0
 unfold WR0 at k
 dsimp only at k
 have H1:=RunS.new H (.cells #[mP M,mP T,fP b o] 125);generalize h.push (.cells #[mP M,mP T,fP b o] 125)=h1 at *;generalize h.size=N at *
 refine ss H1 ?_
 refine Wa0 (Wh7 0 rfl H1 λh2 H2=>?_)
 refine ss H2 ?_
 refine Wa3 (λc=>?_) (λc=>?_)
 ·rw [if_pos c] at k
  refine Wa0 (Wy0 H2 λh3 H3=>?_)
  refine ss H3 ?_
  exact Wa0 (Wv0 H3 [0,u64 (x.at 1)] rfl (Yd4 U0 (Wj8 _)) rfl (by omega) λh4 b' o' _ _ H4=>k h4 (RunS.drp (RunS.none H4)))
 rw [if_neg c] at k
 refine Wa3 (λc=>?_) (λc=>?_)
 ·rw [if_pos c] at k
  refine RunS.stR (i:=0) H2 rfl r0 λh3 H3=>RunS.stP H3 λh4 H4=>?_
  have l1:=Wr8 x 0 (x.ret 0)
  have l2:=WD5 (x.s 0 (x.ret 0)) 2
  refine ss H4 ?_
  refine Wa0 (Wh7 0 rfl H4 λh5 H5=>?_)
  try simp +decide only [Wb9,bsx,Nat.reduceAdd,Int.reduceLE,Int.reduceLT,Int.reduceToNat,rsx,g_s,Wa8,RunS.al H5,B.len]
  refine Wa0 (Wh6 r0 ?_)
  refine ss H5 ?_
  refine Wb6 (λc2=>?_) (λc2=>?_)
  ·rw [if_pos c2] at k
   exact Wa0 (Wv0 H5 [1] rfl (Wm7 (U.lit rfl)) rfl (by omega) λh6 b' o' _ _ H6=>k h6 (RunS.drp (RunS.none H6)))
  ·rw [if_neg (by rw [c2];simp)] at k
   refine Wa0 (Wh7 0 rfl H5 λh6 H6=>?_)
   try simp +decide only [Wb9,bsx,Nat.reduceAdd,Int.reduceLE,Int.reduceLT,Int.reduceToNat,rsx,g_s,Wa8,RunS.al H6,B.len]
   refine Wa0 (We9 r0 ?_)
   refine ss H6 ?_
   refine Wa3 (λc3=>?_) (λc3=>?_)
   ·rw [if_pos c3] at k
    exact Wa0 (Wv1 H6 (U.lit rfl) U0 U0 (by omega) λh7 b' o' _ _ H7=>k h7 (RunS.drp (RunS.none H7)))
   ·rw [if_neg c3] at k
    exact k h6 (RunS.drp (RunS.none H6))
 rw [if_neg c] at k
 refine Wa3 (λc=>?_) (λc=>?_)
 ·rw [if_pos c] at k
  refine Wa0 (WC3 H2 (B.g 0) (by decide) λh3 H3=>?_)
  refine ss H3 ?_
  refine Wa0 (Wg1 H3 (Wd1 P _ _) O.st λh4 H4 u4=>?_)
  refine ss H4 ?_
  exact RunS.stR (i:=1) H4 rfl u4 λh5 H5=>RunS.stP H5 λh6 H6=>k h6 (RunS.drp (RunS.none H6))
 rw [if_neg c] at k
 refine Wa3 (λc=>?_) (λc=>?_)
 ·rw [if_pos c] at k
  refine Wa0 (WC3 H2 (B.g 0) (by decide) λh3 H3=>?_)
  refine ss H3 ?_
  refine Wa0 (Wg1 H3 (Wd1 P _ _) O.st λh4 H4 u4=>?_)
  refine ss H4 ?_
  refine RunS.stR (i:=2) H4 rfl u4 λh5 H5=>RunS.stP H5 λh6 H6=>?_
  have l1:=Wr8 (x.load (x.nodeW (x.f.g 0) 1)).2 2 (x.load (x.nodeW (x.f.g 0) 1)).1
  have l2:=WD5 ((x.load (x.nodeW (x.f.g 0) 1)).2.s 2 (x.load (x.nodeW (x.f.g 0) 1)).1) 4
  rw [YS9] at l1
  try simp +decide only [Wb9,bsx,Nat.reduceAdd,Int.reduceLE,Int.reduceLT,Int.reduceToNat,rsx,g_s,Wa8,RunS.al H6,B.len]
  refine Wa3 (λc2=>?_) (λc2=>?_)
  ·rw [if_pos c2] at k
   exact Wa0 (Wv1 H6 (U.lit rfl) (B.g 1) u4 (by omega) λh7 b' o' _ _ H7=>k h7 (RunS.drp (RunS.none H7)))
  ·rw [if_neg c2] at k
   exact k h6 (RunS.drp (RunS.none H6))
 rw [if_neg c] at k
 exact k h2 (RunS.drp (RunS.none H2))
theorem Yn6 (H:Sat h (RunS M T tv (some (b,o)) x R)) (O:Ok x) (k:∀h',Sat h' (RunS M T tv none (WR1 x) R)→K (.tuple #[]) h') :
  Wa5 Tryz.prog 46 #[rV M T b o] h K:=by
 refine call46 ?_
 unfold F46 g46 cf ce bd lP lI nP da3 dl3
 have B:=RunS.fB H
 have P:=RunS.pl H
 have hd:=O.fr
 unfold WR1 at k
 dsimp only at k
 have H1:=RunS.new H (.cells #[mP M,mP T,fP b o] 125);generalize h.push (.cells #[mP M,mP T,fP b o] 125)=h1 at *;generalize h.size=N at *
 refine ss H1 ?_
 refine Wa0 (Wh7 0 rfl H1 λh2 H2=>?_)
 refine ss H2 ?_
 refine Wa3 (λc=>?_) (λc=>?_)
 ·rw [if_pos c] at k
  refine Wa0 (WC3 H2 (B.g 0) (by decide) λh3 H3=>?_)
  refine ss H3 ?_
  refine Wa0 (Wg1 H3 (Wd1 P _ _) O.st λh4 H4 u4=>?_)
  refine ss H4 ?_
  exact RunS.stR (i:=3) H4 rfl u4 λh5 H5=>RunS.stP H5 λh6 H6=>k h6 (RunS.drp (RunS.none H6))
 rw [if_neg c] at k
 refine Wa3 (λc=>?_) (λc=>?_)
 ·rw [if_pos c] at k
  refine RunS.stP H2 λh3 H3=>?_
  have l1:=WD5 x 0
  refine ss H3 ?_
  refine Wa0 (WE3 H3 (B.g 0) O.st λh4 H4=>?_)
  refine ss H4 ?_
  refine Wb6 (λc2=>?_) (λc2=>?_)
  ·rw [if_pos c2] at k
   exact Wa0 (Wv0 H4 [1] rfl (Wm7 (U.lit rfl)) rfl (show (x.pc 0).t.fr.length < _ by omega) λh6 b' o' _ _ H6=>k h6 (RunS.drp (RunS.none H6)))
  ·rw [if_neg (by rw [c2];simp)] at k
   exact k h4 (RunS.drp (RunS.none H4))
 rw [if_neg c] at k
 refine Wa3 (λc=>?_) (λc=>?_)
 ·rw [if_pos c] at k
  refine Wa0 (We9 (B.g 0) ?_)
  refine ss H2 ?_
  exact Wa0 (Wv0 H2 [Wg8 (x.f.g 0)] rfl (Wm7 (Wi9 _)) rfl (by omega) λh6 b' o' _ _ H6=>k h6 (by rw [W44];exact RunS.drp (RunS.none H6)))
 rw [if_neg c] at k
 refine Wa3 (λc=>?_) (λc=>?_)
 ·rw [if_pos c] at k
  exact Wa0 (Wv1 H2 (U.lit rfl) (B.g 1) (B.g 2) (by omega) λh7 b' o' _ _ H7=>k h7 (RunS.drp (RunS.none H7)))
 rw [if_neg c] at k
 exact Wa0 (Yn5 H2 O λh3 H3=>k h3 (RunS.drp H3))
theorem WT9 (H:Sat h (RunS M T tv (some (b,o)) x R)) (O:Ok x) (k:∀h',Sat h' (RunS M T tv none (WW7 x) R)→K (.tuple #[]) h') :
  Wa5 Tryz.prog 86 #[rV M T b o] h K:=by
 refine call86 ?_
 unfold F86 g86 cf ce bd lP nP da3
 have B:=RunS.fB H
 have P:=RunS.pl H
 unfold WW7 at k
 dsimp only at k
 have H1:=RunS.new H (.cells #[mP M,mP T,fP b o] 126);generalize h.push (.cells #[mP M,mP T,fP b o] 126)=h1 at *;generalize h.size=N at *
 refine ss H1 ?_
 refine Wa0 (Wh7 1 rfl H1 λh2 H2=>?_)
 refine ss H2 ?_
 refine RunS.stP H2 λh3 H3=>?_
 refine ss H3 ?_
 refine Wa0 (We9 (B.g 1) ?_)
 refine ss H3 ?_
 refine Wa0 (WE3 H3 (B.g 1) O.st λh4 H4=>?_)
 refine ss H4 ?_
 refine Wb6 (λc2=>?_) (λc2=>?_)
 ·rw [if_pos c2] at k
  try simp +decide only [Wb9,bsx,Nat.reduceAdd,Int.reduceLE,Int.reduceLT,Int.reduceToNat,rsx,g_s,Wa8,RunS.al H4]
  exact Wa0 (Y42 H4 Args.none (by omega) λh5 H5=>k h5 (RunS.drp H5))
 ·rw [if_neg (by rw [c2];simp)] at k
  exact k h4 (RunS.drp (RunS.none H4))
theorem Yn7 (H:Sat h (RunS M T tv (some (b,o)) x R)) (O:Ok x) (k:∀h',Sat h' (RunS M T tv none (W31 x) R)→K (.tuple #[]) h') :
  Wa5 Tryz.prog 87 #[rV M T b o] h K:=by
 refine call87 ?_
 unfold F87 g87 cf bd lP lI nP da3 dl3
 have B:=RunS.fB H
 have P:=RunS.pl H
 have hd:=O.fr
 have r0:=RunS.ret H 0
 have r1:=RunS.ret H 1
 unfold W31 at k
 dsimp only at k
 have H1:=RunS.new H (.cells #[mP M,mP T,fP b o] 126);generalize h.push (.cells #[mP M,mP T,fP b o] 126)=h1 at *;generalize h.size=N at *
 refine ss H1 ?_
 refine Wa3 (λc=>?_) (λc=>?_)
 ·rw [if_pos c] at k
  exact Wa0 (Wv0 H1 [x.f.g 0] rfl (Wm7 (B.g 0)) rfl (by omega) λh4 b' o' _ _ H4=>k h4 (RunS.drp (RunS.none H4)))
 rw [if_neg c] at k
 refine Wa3 (λc=>?_) (λc=>?_)
 ·rw [if_pos c] at k
  refine RunS.stR (i:=1) H1 rfl r0 λh2 H2=>?_
  try simp +decide only [Wb9,bsx,Nat.reduceAdd,Int.reduceLE,Int.reduceLT,Int.reduceToNat,rsx,g_s,Wa8,RunS.al H2]
  refine RunS.stR (i:=2) H2 rfl r1 λh3 H3=>RunS.stP H3 λh4 H4=>?_
  refine ss H4 ?_
  refine Wa0 (Wh7 1 rfl H4 λh5 H5=>?_)
  try simp +decide only [Wb9,bsx,Nat.reduceAdd,Int.reduceLE,Int.reduceLT,Int.reduceToNat,rsx,g_s,Wa8,RunS.al H5,B.len]
  refine Wa0 (Wh6 r0 ?_)
  refine ss H5 ?_
  refine Wb6 (λc2=>?_) (λc2=>?_)
  ·rw [if_neg (by simpa using c2)] at k
   exact Wa0 (Y42 H5 Args.none (by omega) λh6 H6=>k h6 (RunS.drp H6))
  ·rw [if_pos (by simpa using c2)] at k
   exact k h5 (RunS.drp (RunS.none H5))
 rw [if_neg c] at k
 refine Wa3 (λc=>?_) (λc=>?_)
 ·rw [if_pos c] at k
  refine RunS.stP H1 λh2 H2=>?_
  refine ss H2 ?_
  refine Wa0 (Wg1 H2 (by decide) O.st λh3 H3 u3=>?_)
  refine ss H3 ?_
  refine Wa0 (Ym3 (Wi2 _) ?_)
  refine ss H3 ?_
  refine Wb6 (λc2=>?_) (λc2=>?_)
  ·rw [if_pos c2] at k
   exact RunS.stP H3 λh4 H4=>k h4 (RunS.drp (RunS.none H4))
  ·rw [if_neg (by rw [c2];simp)] at k
   exact k h3 (RunS.drp (RunS.none H3))
 rw [if_neg c] at k
 refine Wa3 (λc=>?_) (λc=>?_)
 ·rw [if_pos c] at k
  exact Wa0 (WT9 H1 O λh2 H2=>k h2 (RunS.drp H2))
 rw [if_neg c] at k
 exact k h1 (RunS.drp (RunS.none H1))
theorem Zu2:und Tryz.prog 115=.pointer 121:=by kernel_rfl
theorem YV8 {P:Program} (d:Nat) {t el:TypeId} {a b:Addr} (hu:P.underlying t=some (.pointer el)) (hth:Wf8 P el=true) (hsz:siz P el≠0) (F:Bool→Wa1→Prop) (h:Wa1) (H:hp P (sameAddr a b) F h):hp P (Op.equalIn (d+1) t (.pointer (some a)) (.pointer (some b))) F h:=by
 simp only [Op.equalIn,Wa7,Wb0 hu,We6 hth]
 rw [if_pos hsz]
 exact H
theorem Zm6 {h:Wa1} {p q:Nat} {K:Value→Wa1→Prop} (k:K (.bool true) h):Zq7 Tryz.prog .eql 115 (some ⟨p,q,none⟩) (some ⟨p,q,none⟩) h K:=by
 unfold Zq7
 rw [Wh1 (by simp) (by simp) (by simp) (by simp),Wg0]
 refine YV8 9999 (Wd0 Zu2 (by simp)) Yw9 (by rw [WZ3];omega) _ _ ?_
 unfold sameAddr
 simp only [beq_self_eq_true,if_true]
 exact k
theorem WM9 (H:Sat h (RunS M T tv (some (b,o)) x R)) (O:Ok x) {at_:Nat} {next place:Int} (ha:at_≤8) (hp:U place)
  (k1:Wo6 (x.ret 0)=true→∀h',Wa2 h' ⟨b,o+1,none⟩=some (.int .i64 0)→Sat h' (RunS M T tv none (Wt6 x at_ next place) R)→K (.tuple #[]) h')
  (k0:Wo6 (x.ret 0)=false→∀h',Sat h' (RunS M T tv (some (b,o)) (Wt6 x at_ next place) R)→K (.tuple #[]) h') :
  Wa5 Tryz.prog 84 #[rV M T b o,.int .i64 (at_:Int),.int .i64 next,.int .u64 place] h K:=by
 refine call84 ?_
 unfold F84 g84 cf bd lP lI nP da3
 have B:=RunS.fB H
 have hd:=O.fr
 have r0:=RunS.ret H 0
 have r1:=RunS.ret H 1
 unfold Wt6 at k1 k0
 dsimp only at k1 k0
 have e1:s64 ((at_:Int)+1)=((at_+1:Nat):Int):=by unfold s64;omega
 have H1:=RunS.new H (.cells #[mP M,mP T,fP b o] 126);generalize h.push (.cells #[mP M,mP T,fP b o] 126)=h1 at *;generalize h.size=N at *
 try simp +decide only [Wb9,bsx,Nat.reduceAdd,Int.reduceLE,Int.reduceLT,Int.reduceToNat,rsx,g_s,Wa8,RunS.al H1,e1]
 refine ⟨by omega,by omega,?_⟩
 rw [show o+(2+at_)=o+(at_+2) by omega]
 refine RunS.stR (i:=at_) H1 (by rw [Nat.ble_eq];omega) r0 λh2 H2=>?_
 refine ⟨by omega,by omega,?_⟩
 rw [show o+(2+(at_+1))=o+(at_+1+2) by omega]
 refine RunS.stR (i:=at_+1) H2 (by rw [Nat.ble_eq];omega) r1 λh3 H3=>RunS.stP H3 λh4 H4=>?_
 refine ss H4 ?_
 have hfl:(((x.s at_ (x.ret 0)).s (at_+1) (x.ret 1)).pc next).t.fr.length≤x.t.fr.length+3:=by
  have l1:=Wr8 x at_ (x.ret 0)
  have l2:=Wr8 (x.s at_ (x.ret 0)) (at_+1) (x.ret 1)
  have l3:=WD5 ((x.s at_ (x.ret 0)).s (at_+1) (x.ret 1)) next
  omega
 refine Wa0 (Wh7 at_ (by rw [Nat.ble_eq];omega) H4 λh5 H5=>?_)
 have eg:(((x.s at_ (x.ret 0)).s (at_+1) (x.ret 1)).pc next).f.g at_=x.ret 0:=by
  rw [WC9,f_s,f_s,WN6,Wa8 _ (by omega),g_s B.len (by omega)]
 rw [eg]
 refine ss H5 ?_
 refine Wa0 (Wh6 r0 ?_)
 refine ss H5 ?_
 refine Wb6 (λc=>?_) (λc=>?_)
 ·rw [if_pos c] at k1
  refine Wa0 (Wv0 H5 [place] rfl (Wm7 hp) rfl (by omega) λh6 b' o' _ st H6=>k1 c h6 ?_ (RunS.drp (RunS.none H6)))
  refine st b o 1 _ rfl ?_
  rw [WC9]
  rfl
 ·rw [if_neg (by rw [c];simp)] at k0
  exact k0 c h5 (RunS.drp H5)
theorem WU0 (H:Sat h (RunS M T tv (some (b,o)) x R)) (O:Ok x) {at_:Nat} {place:Int} (ha:at_≤8) (hp:U place) (k:∀h',Sat h' (RunS M T tv none (WW8 x at_ place) R)→K (.tuple #[]) h') :
  Wa5 Tryz.prog 85 #[rV M T b o,.int .i64 (at_:Int),.int .u64 place] h K:=by
 refine call85 ?_
 unfold F85 g85 cf ce bd lP lI nP da3
 have B:=RunS.fB H
 have P:=RunS.pl H
 unfold WW8 at k
 dsimp only at k
 have H1:=RunS.new H (.cells #[mP M,mP T,fP b o] 126);generalize h.push (.cells #[mP M,mP T,fP b o] 126)=h1 at *;generalize h.size=N at *
 refine ss H1 ?_
 refine Wa0 (Wh7 1 rfl H1 λh2 H2=>?_)
 refine ss H2 ?_
 refine Wa0 (Wh7 at_ (by rw [Nat.ble_eq];omega) H2 λh3 H3=>?_)
 refine ss H3 ?_
 refine RunS.stP H3 λh4 H4=>?_
 refine ss H4 ?_
 refine Wa0 (Wy0 H4 λh5 H5=>?_)
 refine ss H5 ?_
 refine Wa0 (We9 (B.g at_) ?_)
 refine ss H5 ?_
 refine Wa0 (Wg9 (B.g 1) ?_)
 refine ss H5 ?_
 refine Wa0 (Wy0 H5 λh6 H6=>?_)
 refine ss H6 ?_
 refine Wa0 (We9 (B.g 1) ?_)
 refine ss H6 ?_
 refine Wa0 (Wg9 (B.g at_) ?_)
 refine ss H6 ?_
 refine Wa0 (Zz7 H6 (YV3 P _) (YV3 P _) Wo8 Wo8 O.st λh7 H7=>?_)
 refine ss H7 ?_
 refine Wb6 (λc=>?_) (λc=>?_)
 ·rw [if_pos c] at k
  exact RunS.stR (i:=0) H7 rfl hp λh8 H8=>k h8 (RunS.drp (RunS.none H8))
 ·rw [if_neg (by rw [c];simp)] at k
  exact k h7 (RunS.drp (RunS.none H7))
theorem Yn8 (H:Sat h (RunS M T tv (some (b,o)) x R)) (O:Ok x) (k:∀h',Sat h' (RunS M T tv none (W32 x) R)→K (.tuple #[]) h') :
  Wa5 Tryz.prog 47 #[rV M T b o] h K:=by
 refine call47 ?_
 unfold F47 g47 cf bd lP lI nP da3 dl3
 have B:=RunS.fB H
 have P:=RunS.pl H
 have hd:=O.fr
 unfold W32 at k
 dsimp only at k
 have hl:U (u64 (2*x.f.g 0)):=Wj8 _
 have H1:=RunS.new H (.cells #[mP M,mP T,fP b o] 126);generalize h.push (.cells #[mP M,mP T,fP b o] 126)=h1 at *;generalize h.size=N at *
 refine ss H1 ?_
 generalize hle:u64 (2*x.f.g 0)=left at *
 refine Wa3 (λc=>?_) (λc=>?_)
 ·rw [if_pos c] at k
  exact Wa0 (Wv0 H1 [left] rfl (Wm7 hl) rfl (by omega) λh4 b' o' _ _ H4=>k h4 (RunS.drp (RunS.none H4)))
 rw [if_neg c] at k
 refine Wa3 (λc=>?_) (λc=>?_)
 ·rw [if_pos c] at k
  refine Wa0 (WM9 (at_:=3) H1 O (by omega) hl (λcm h2 e2 H2=>?_) λcm h2 H2=>?_)
  ·rw [if_pos cm] at k
   refine ⟨λvs h'=>vs = [.bool false]∧h' = h2,?_,?_⟩
   ·refine Wc5 e2 ?_
    refine sb ?_
    rw [show ((0:Int) == 6)=false from rfl]
    try simp only [Wb9,bsx,Nat.reduceAdd,Int.reduceLE,Int.reduceLT,Int.reduceToNat]
   rintro v30 g31 h32 ⟨e,rfl⟩
   cases e
   refine sb ?_
   exact k h32 (RunS.drp H2)
  ·rw [if_neg (by rw [cm];simp)] at k
   have epc:(Wt6 x 3 6 left).f.pc=6:=by
    unfold Wt6
    dsimp only
    rw [if_neg (by rw [cm];simp)]
    try simp +decide only [Wb9,bsx,Nat.reduceAdd,Int.reduceLE,Int.reduceLT,Int.reduceToNat,rsx,g_s,Wa8,B.len]
   have efl:(Wt6 x 3 6 left).t.fr.length≤x.t.fr.length+3:=by
    unfold Wt6
    dsimp only
    rw [if_neg (by rw [cm];simp)]
    have l1:=Wr8 x 3 (x.ret 0)
    have l2:=Wr8 (x.s 3 (x.ret 0)) (3+1) (x.ret 1)
    have l3:=WD5 ((x.s 3 (x.ret 0)).s (3+1) (x.ret 1)) 6
    omega
   refine ⟨λvs h'=>vs = [.bool true]∧h' = h2,?_,?_⟩
   ·try simp +decide only [Wb9,bsx,Nat.reduceAdd,Int.reduceLE,Int.reduceLT,Int.reduceToNat,rsx,g_s,Wa8,RunS.al H2,epc]
    rw [show ((6:Int) == 6)=true from rfl]
    refine sb ?_
    refine Wa0 (Y89 H2 (λhn=>absurd hn (List.length_pos_iff.1 (ZA2 H2))) λb2 o2 _ hbo _=>?_)
    obtain ⟨rfl,rfl⟩:=hbo b o rfl
    refine sb ?_
    exact Zm6 (by simp only [Wa9];trivial)
   rintro v30 g31 h32 ⟨e,rfl⟩
   cases e
   refine ss H2 ?_
   exact Wa0 (Wv0 H2 [u64 (left+1)] rfl (Wm7 (Wj8 _)) rfl (by omega) λh4 b' o' _ _ H4=>k h4 (RunS.drp (RunS.none H4)))
 rw [if_neg c] at k
 refine Wa3 (λc=>?_) (λc=>?_)
 ·rw [if_pos c] at k
  exact Wa0 (WM9 (at_:=5) H1 O (by omega) (Wj8 _) (λcm h2 e2 H2=>k h2 (RunS.drp H2)) λcm h2 H2=>k h2 (RunS.drp (RunS.none H2)))
 rw [if_neg c] at k
 refine Wa3 (λc=>?_) (λc=>?_)
 ·rw [if_pos c] at k
  refine ⟨λvs h'=>(∃w,vs = [.bool (decide (x.f.g 4≤x.f.g 6∧x.f.g 4 < x.f.g 2)),w])∧h' = h1,?_,?_⟩
  ·refine Wa3 (λc2=>?_) (λc2=>?_)
   ·rw [show decide (x.f.g 4 < x.f.g 2)=decide (x.f.g 4≤x.f.g 6∧x.f.g 4 < x.f.g 2) by rw [decide_eq_decide];omega]
    exact ⟨⟨_,rfl⟩,by trivial⟩
   ·rw [decide_eq_false (p:=x.f.g 4≤x.f.g 6∧x.f.g 4 < x.f.g 2) (by omega)]
    exact ⟨⟨_,rfl⟩,by trivial⟩
  rintro v57 v58 g59 h60 ⟨⟨w,e⟩,rfl⟩
  cases e
  refine sb ?_
  refine Wa3 (λc2=>?_) (λc2=>?_)
  ·rw [if_pos c2] at k
   refine ss H1 ?_
   exact Wa0 (WU0 (at_:=3) H1 O (by omega) hl λh2 H2=>k h2 (RunS.drp H2))
  rw [if_neg c2] at k
  refine ⟨λvs h'=>(∃w,vs = [.bool (decide (x.f.g 6 < x.f.g 4∧x.f.g 6 < x.f.g 2)),w])∧h' = h60,?_,?_⟩
  ·refine ss H1 ?_
   refine Wa3 (λc2=>?_) (λc2=>?_)
   ·rw [show decide (x.f.g 6 < x.f.g 2)=decide (x.f.g 6 < x.f.g 4∧x.f.g 6 < x.f.g 2) by rw [decide_eq_decide];omega]
    exact ⟨_,rfl⟩
   ·rw [decide_eq_false (p:=x.f.g 6 < x.f.g 4∧x.f.g 6 < x.f.g 2) (by omega)]
    exact ⟨_,rfl⟩
  rintro v57 v58 g59 h60 ⟨⟨w,e⟩,rfl⟩
  cases e
  refine ss H1 ?_
  refine Wa3 (λc3=>?_) (λc3=>?_)
  ·rw [if_pos c3] at k
   exact Wa0 (WU0 (at_:=5) H1 O (by omega) (Wj8 _) λh2 H2=>k h2 (RunS.drp H2))
  ·rw [if_neg c3] at k
   exact Wa0 (WT9 H1 O λh2 H2=>k h2 (RunS.drp H2))
 rw [if_neg c] at k
 exact Wa0 (Yn7 H1 O λh2 H2=>k h2 (RunS.drp H2))
theorem Ye2 (H:Sat h (RunS M T tv fo x R)) (O:Ok x) (k:∀h',Sat h' (RunS M T tv none (Wu3 x) R)→K (.tuple #[]) h') :
  Wa5 Tryz.prog 25 #[mP M,mP T] h K:=by
 refine call25 ?_
 unfold F25 cf bd lI nP dl3
 unfold Wu3 at k
 dsimp only at k
 refine Wa0 (Y89 H (λe=>?_) λb o hne _ H1=>?_)
 ·rw [if_pos e] at k
  refine sb ?_
  refine ⟨λvs h'=>vs = [.bool true]∧h' = h,⟨rfl,rfl⟩,?_⟩
  rintro v4 g6 h7 ⟨e,rfl⟩
  cases e
  refine sb ?_
  exact k _ (RunS.none H)
 ·rw [if_neg hne] at k
  refine sb ?_
  refine ⟨λvs h'=>vs = [.bool false]∧h' = h,⟨rfl,rfl⟩,?_⟩
  rintro v4 g6 h7 ⟨e,rfl⟩
  cases e
  refine sb ?_
  have B:=RunS.fB H1
  have H2:=RunS.new H1 (.cells #[.pointer none,.pointer none,.pointer none] 118)
  generalize h7.push (.cells #[.pointer none,.pointer none,.pointer none] 118)=h2 at *
  generalize h7.size=N at *
  refine st3 (Wd3 (vs:=[mP M,mP T,fP b o]) (RunS.loc H2) rfl (by simp [Wi3]) λh3 w=>?_)
  have H3:Sat h3 (RunS M T tv (some (b,o)) x (pt N (.cells #[mP M,mP T,fP b o] 118)*R)):=RunS.wr H2 w.new w.old
  clear H2 w
  refine ss H3 ?_
  refine ⟨λvs h'=>(∃w1 w2,vs = [.bool (decide (x.f.pc=90∧11≤x.f.fn∧x.f.fn≤13)),w1,w2])∧h' = h3,?_,?_⟩
  ·refine Wa3 (λc=>?_) (λc=>?_)
   ·refine Wa3 (λc2=>?_) (λc2=>?_)
    ·rw [show decide (x.f.fn≤13)=decide (x.f.pc=90∧11≤x.f.fn∧x.f.fn≤13) by rw [decide_eq_decide];omega]
     exact ⟨⟨_,_,rfl⟩,by trivial⟩
    ·rw [decide_eq_false (p:=x.f.pc=90∧11≤x.f.fn∧x.f.fn≤13) (by omega)]
     exact ⟨⟨_,_,rfl⟩,by trivial⟩
   ·rw [decide_eq_false (p:=x.f.pc=90∧11≤x.f.fn∧x.f.fn≤13) (by omega)]
    exact ⟨⟨_,_,rfl⟩,by trivial⟩
  rintro v21 v22 v23 g24 h25 ⟨⟨w1,w2,e⟩,rfl⟩
  cases e
  refine ss H3 ?_
  refine Wa3 (λc=>?_) (λc=>?_)
  ·rw [if_pos c] at k
   exact Wa0 (Zq3 H3 [x.f.g 7,x.f.g 8,x.f.g 9] rfl (Yn3 (B.g 7) (B.g 8) (B.g 9)) rfl λh4 H4=>k h4 (RunS.drp H4))
  rw [if_neg c] at k
  refine Wa3 (λc=>?_) (λc=>?_)
  ·rw [if_pos c] at k
   exact Wa0 (YF1 H3 O.st (by have:=O.fr;omega) λh4 H4=>k h4 (RunS.drp H4))
  rw [if_neg c] at k
  refine Wa3 (λc=>?_) (λc=>?_)
  ·rw [if_pos c] at k
   exact Wa0 (Yn4 H3 O λh4 H4=>k h4 (RunS.drp H4))
  rw [if_neg c] at k
  refine ⟨λvs h'=>(∃w,vs = [.bool (decide (x.f.fn=12∨x.f.fn=13)),w])∧h' = h25,?_,?_⟩
  ·refine Wa3 (λc=>?_) (λc=>?_)
   ·rw [decide_eq_true (p:=x.f.fn=12∨x.f.fn=13) (.inl c)]
    exact ⟨⟨_,rfl⟩,by trivial⟩
   ·rw [show (x.f.fn == 13)=decide (x.f.fn=12∨x.f.fn=13) by rw [Bool.eq_iff_iff,beq_iff_eq,decide_eq_true_iff];omega]
    exact ⟨⟨_,rfl⟩,by trivial⟩
  rintro v61 v62 g63 h64 ⟨⟨w,e⟩,rfl⟩
  cases e
  refine ss H3 ?_
  refine Wa3 (λc=>?_) (λc=>?_)
  ·rw [if_pos c] at k
   exact Wa0 (Yn6 H3 O λh4 H4=>k h4 (RunS.drp H4))
  rw [if_neg c] at k
  refine Wa3 (λc=>?_) (λc=>?_)
  ·rw [if_pos c] at k
   exact Wa0 (Yn8 H3 O λh4 H4=>k h4 (RunS.drp H4))
  rw [if_neg c] at k
  exact Wa0 (Wx7 H3 O λh4 H4=>k h4 (RunS.drp H4))
end
end
section
open Mod
section
variable {K:Value→Wa1→Prop} {h:Wa1} {M T b o N:Nat} {tv:Value} {fo:Option (Nat × Nat)} {x:Run} {R:Hp}
theorem YV9 (x:Run) (n r:Int):x.nlink n (Mod.u64 r)=x.nlink n r:=by
 unfold Run.nlink
 have e:s64 (Mod.u64 r)=s64 r:=by unfold s64 Mod.u64;omega
 rw [e]
theorem Zu3 (x:Run) (i j:Int):(x.pc i).pc j=x.pc j:=by
 show (x.pc i).setF ((x.pc i).f.at j)=x.setF (x.f.at j)
 rw [WC9]
 unfold Run.pc Run.setF Thr.setTop
 simp [Frm.at]
theorem WU1 (H:Sat h (RunS M T tv (some (b,o)) x R)) (hd:x.t.fr.length < 1073741823) (k:∀h',Sat h' (RunS M T tv none (Wy8 x) R)→K (.tuple #[]) h') :
  Wa5 Tryz.prog 182 #[rV M T b o] h K:=by
 refine call182 ?_
 unfold F182 g182 cf ce bd lP lI nP da3
 have B:=RunS.fB H
 unfold Wy8 at k
 have H1:=RunS.new H (.cells #[mP M,mP T,fP b o] 131);generalize h.push (.cells #[mP M,mP T,fP b o] 131)=h1 at *;generalize h.size=N at *
 refine ss H1 ?_
 refine Wa0 (Ya8 (B.g 2) ?_)
 refine ss H1 ?_
 refine Wa0 (YQ8 ?_)
 try simp +decide only [Wb9,bsx,Nat.reduceAdd,Int.reduceLE,Int.reduceLT,Int.reduceToNat,rsx,g_s,Wa8,RunS.al H1,Yy2 (B.g 2),Y98]
 exact Wa0 (WC5 H1 (U.lit rfl) (Yy3 (B.g 2)) (Y99 _) hd λh5 b' o' H5=>k h5 (RunS.drp (RunS.none H5)))
theorem Yn9 (H:Sat h (RunS M T tv (some (b,o)) x R)) (O:Ok x) (k:∀h',Sat h' (RunS M T tv none (Wy9 x) R)→K (.tuple #[]) h') :
  Wa5 Tryz.prog 99 #[rV M T b o] h K:=by
 refine call99 ?_
 unfold F99 g99 q99_1 cf ce bd lP lI nP da3 Wm8 dl3
 have B:=RunS.fB H
 have P:=RunS.pl H
 have hd:=O.fr
 have r0:=RunS.ret H 0
 unfold Wy9 at k
 dsimp only at k
 have H1:=RunS.new H (.cells #[mP M,mP T,fP b o] 131);generalize h.push (.cells #[mP M,mP T,fP b o] 131)=h1 at *;generalize h.size=N at *
 refine ss H1 ?_
 refine Wa3 (λc=>?_) (λc=>?_)
 ·rw [if_pos c] at k
  refine RunS.stR (i:=6) H1 rfl U0 λh2 H2=>?_
  refine ss H2 ?_
  refine Wa0 (Wr1 H2 λh3 o3=>WE0 ?_)
  have H3:=RunS.old H2 o3
  refine ss H3 ?_
  refine Wa0 (Wm5 λh4 o4=>?_)
  have H4:=RunS.old H3 o4
  refine ss H4 ?_
  refine Wa0 (Wg2 H4 λh5 o5=>?_)
  have H5:=RunS.old H4 o5
  refine ss H5 ?_
  have l1:=Wr8 x 6 0
  exact Wa0 (WE6 H5 [Mod.u64 (x.m.p.slots - 2),Mod.u64 (x.nlink 1 0)] rfl (Yd4 (Wj8 _) (Wj8 _)) rfl (by omega) λh6 b' o' _ _ H6=>k h6 (RunS.drp (RunS.none H6)))
 rw [if_neg c] at k
 refine Wa3 (λc=>?_) (λc=>?_)
 ·rw [if_pos c] at k
  refine Wa0 (WL6 r0 ?_)
  refine ss H1 ?_
  refine RunS.stR (i:=0) H1 rfl r0 λh2 H2=>?_
  try simp +decide only [Wb9,bsx,Nat.reduceAdd,Int.reduceLE,Int.reduceLT,Int.reduceToNat,rsx,g_s,Wa8,RunS.al H2]
  refine RunS.stR (i:=1) H2 rfl (Wi9 _) λh3 H3=>?_
  try simp +decide only [Wb9,bsx,Nat.reduceAdd,Int.reduceLE,Int.reduceLT,Int.reduceToNat,rsx,g_s,Wa8,RunS.al H3]
  refine RunS.stP H3 λh4 H4=>?_
  try simp +decide only [Wb9,bsx,Nat.reduceAdd,Int.reduceLE,Int.reduceLT,Int.reduceToNat,rsx,g_s,Wa8,RunS.al H4,B.len]
  refine Wa3 (λc2=>?_) (λc2=>?_)
  ·rw [if_pos c2] at k
   have l1:=Wr8 x 0 (x.ret 0)
   have l2:=Wr8 (x.s 0 (x.ret 0)) 1 (Wg8 (x.ret 0))
   have l3:=WD5 ((x.s 0 (x.ret 0)).s 1 (Wg8 (x.ret 0))) 2
   exact Wa0 (WC5 H4 (U.lit rfl) U0 U0 (by omega) λh5 b' o' H5=>k h5 (RunS.drp (RunS.none H5)))
  ·rw [if_neg c2] at k
   exact k h4 (RunS.drp (RunS.none H4))
 rw [if_neg c] at k
 refine Wa3 (λc=>?_) (λc=>?_)
 ·rw [if_pos c] at k
  refine Wa0 (Wj0 H1 (by decide) λh2 o2=>?_)
  have H2:=RunS.old H1 o2
  refine ss H2 ?_
  refine Wa0 (Wg1 H2 (Wd1 P _ _) O.st λh3 H3 u3=>?_)
  refine ss H3 ?_
  refine RunS.stR (i:=3) H3 rfl u3 λh4 H4=>RunS.stP H4 λh5 H5=>?_
  try simp +decide only [Wb9,bsx,Nat.reduceAdd,Int.reduceLE,Int.reduceLT,Int.reduceToNat,rsx,g_s,Wa8,RunS.al H5,B.len]
  refine Wa0 (YC9 u3 ?_)
  refine ss H5 ?_
  refine Wb6 (λc2=>?_) (λc2=>?_)
  ·rw [if_pos c2] at k
   exact RunS.stP H5 λh6 H6=>k h6 (RunS.drp (RunS.none H6))
  ·rw [if_neg (by rw [c2];simp)] at k
   exact k h5 (RunS.drp (RunS.none H5))
 rw [if_neg c] at k
 refine Wa3 (λc=>?_) (λc=>?_)
 ·rw [if_pos c] at k
  refine Wa0 (Wj0 H1 (by decide) λh2 o2=>?_)
  have H2:=RunS.old H1 o2
  refine ss H2 ?_
  refine Wa0 (Wg1 H2 (Wd1 P _ _) O.st λh3 H3 u3=>?_)
  refine ss H3 ?_
  refine RunS.stR (i:=2) H3 rfl u3 λh4 H4=>RunS.stP H4 λh5 H5=>?_
  try simp +decide only [Wb9,bsx,Nat.reduceAdd,Int.reduceLE,Int.reduceLT,Int.reduceToNat,rsx,g_s,Wa8,RunS.al H5,B.len]
  refine Wa3 (λc2=>?_) (λc2=>?_)
  ·rw [if_pos c2] at k
   have l1:=Wr8 (x.load (x.na (x.f.g 1) 0)).2 2 (x.load (x.na (x.f.g 1) 0)).1
   have l2:=WD5 ((x.load (x.na (x.f.g 1) 0)).2.s 2 (x.load (x.na (x.f.g 1) 0)).1) 4
   have l3:(x.load (x.na (x.f.g 1) 0)).2.t.fr=x.t.fr:=rfl
   rw [l3] at l1
   exact Wa0 (WU1 H5 (by omega) λh6 H6=>k h6 (RunS.drp H6))
  ·rw [if_neg c2] at k
   exact k h5 (RunS.drp (RunS.none H5))
 rw [if_neg c] at k
 exact k h1 (RunS.drp (RunS.none H1))
theorem Yo0 (H:Sat h (RunS M T tv (some (b,o)) x R)) (O:Ok x) (k:∀h',Sat h' (RunS M T tv none (Wz0 x) R)→K (.tuple #[]) h') :
  Wa5 Tryz.prog 100 #[rV M T b o] h K:=by
 refine call100 ?_
 unfold F100 g100 cf ce bd lP lI nP da3
 have B:=RunS.fB H
 have P:=RunS.pl H
 unfold Wz0 at k
 dsimp only at k
 have H1:=RunS.new H (.cells #[mP M,mP T,fP b o] 131);generalize h.push (.cells #[mP M,mP T,fP b o] 131)=h1 at *;generalize h.size=N at *
 refine ss H1 ?_
 refine Wa3 (λc=>?_) (λc=>?_)
 ·rw [if_pos c] at k
  refine RunS.stP H1 λh2 H2=>?_
  refine ss H2 ?_
  refine Wa0 (Wj0 H2 (by decide) λh3 o3=>?_)
  have H3:=RunS.old H2 o3
  refine ss H3 ?_
  refine Wa0 (YD0 (B.g 3) ?_)
  refine ss H3 ?_
  refine Wa0 (Zh2 H3 (Wd1 P _ _) (YV6 (B.g 3)) O.st λh4 H4=>?_)
  refine ss H4 ?_
  refine Wb6 (λc2=>?_) (λc2=>?_)
  ·rw [if_pos c2] at k
   refine RunS.stR (i:=6) H4 rfl (U.lit rfl) λh5 H5=>?_
   try simp +decide only [Wb9,bsx,Nat.reduceAdd,Int.reduceLE,Int.reduceLT,Int.reduceToNat,rsx,g_s,Wa8,RunS.al H5]
   exact RunS.stP H5 λh6 H6=>k h6 (RunS.drp (RunS.none H6))
  ·rw [if_neg (by rw [c2];simp)] at k
   exact k h4 (RunS.drp (RunS.none H4))
 rw [if_neg c] at k
 refine Wa3 (λc=>?_) (λc=>?_)
 ·rw [if_pos c] at k
  refine Wa0 (Wj0 H1 (by decide) λh3 o3=>?_)
  have H3:=RunS.old H1 o3
  refine ss H3 ?_
  refine Wa0 (Wi8 H3 (Wd1 P _ _) (U.lit rfl) O.st λh4 H4=>?_)
  exact RunS.stP H4 λh6 H6=>k h6 (RunS.drp (RunS.none H6))
 rw [if_neg c] at k
 refine Wa3 (λc=>?_) (λc=>?_)
 ·rw [if_pos c] at k
  refine Wa0 (Wj0 H1 (by decide) λh3 o3=>?_)
  have H3:=RunS.old H1 o3
  refine ss H3 ?_
  refine Wa0 (Wg1 H3 (Wd1 P _ _) O.st λh4 H4 u4=>?_)
  refine ss H4 ?_
  exact RunS.stR (i:=4) H4 rfl u4 λh5 H5=>RunS.stP H5 λh6 H6=>k h6 (RunS.drp (RunS.none H6))
 rw [if_neg c] at k
 exact k h1 (RunS.drp (RunS.none H1))
theorem Yo1 (H:Sat h (RunS M T tv (some (b,o)) x R)) (O:Ok x) (k:∀h',Sat h' (RunS M T tv none (Wz1 x) R)→K (.tuple #[]) h') :
  Wa5 Tryz.prog 101 #[rV M T b o] h K:=by
 refine call101 ?_
 unfold F101 g101 cf ce bd lP lI nP da3
 have B:=RunS.fB H
 have P:=RunS.pl H
 unfold Wz1 at k
 dsimp only at k
 have H1:=RunS.new H (.cells #[mP M,mP T,fP b o] 131);generalize h.push (.cells #[mP M,mP T,fP b o] 131)=h1 at *;generalize h.size=N at *
 refine ss H1 ?_
 refine Wa3 (λc=>?_) (λc=>?_)
 ·rw [if_pos c] at k
  refine Wa3 (λc2=>?_) (λc2=>?_)
  ·rw [if_pos c2] at k
   refine RunS.stP H1 λh2 H2=>?_
   refine ss H2 ?_
   refine Wa3 (λc3=>?_) (λc3=>?_)
   ·rw [if_pos c3] at k
    exact RunS.stP H2 λh3 H3=>k h3 (Zu3 x 9 11 ▸ RunS.drp (RunS.none H3))
   ·rw [if_neg c3] at k
    exact k h2 (RunS.drp (RunS.none H2))
  rw [if_neg c2] at k
  refine Wa0 (Wg2 H1 λh3 o3=>?_)
  have H3:=RunS.old H1 o3
  try simp +decide only [Wb9,bsx,Nat.reduceAdd,Int.reduceLE,Int.reduceLT,Int.reduceToNat,rsx,g_s,Wa8,RunS.al H3,YV9]
  refine Wa0 (Wg1 H3 (Wd1 P _ _) O.st λh4 H4 u4=>?_)
  refine ss H4 ?_
  refine RunS.stR (i:=5) H4 rfl u4 λh5 H5=>RunS.stP H5 λh6 H6=>?_
  try simp +decide only [Wb9,bsx,Nat.reduceAdd,Int.reduceLE,Int.reduceLT,Int.reduceToNat,rsx,g_s,Wa8,RunS.al H6,B.len]
  refine Wa0 (WT5 u4 ?_)
  refine ss H6 ?_
  refine Wb6 (λc3=>?_) (λc3=>?_)
  ·rw [if_pos c3] at k
   refine RunS.stR (i:=4) H6 rfl (Wj8 _) λh7 H7=>?_
   try simp +decide only [Wb9,bsx,Nat.reduceAdd,Int.reduceLE,Int.reduceLT,Int.reduceToNat,rsx,g_s,Wa8,RunS.al H7]
   exact RunS.stP H7 λh8 H8=>k h8 (RunS.drp (RunS.none H8))
  ·rw [if_neg (by rw [c3];simp)] at k
   exact k h6 (RunS.drp (RunS.none H6))
 rw [if_neg c] at k
 refine Wa3 (λc=>?_) (λc=>?_)
 ·rw [if_pos c] at k
  refine RunS.stP H1 λh2 H2=>?_
  refine ss H2 ?_
  refine Wa0 (Wg2 H2 λh3 o3=>?_)
  have H3:=RunS.old H2 o3
  try simp +decide only [Wb9,bsx,Nat.reduceAdd,Int.reduceLE,Int.reduceLT,Int.reduceToNat,rsx,g_s,Wa8,RunS.al H3,YV9]
  refine Wa0 (Ya7 (B.g 5) ?_)
  refine ss H3 ?_
  refine Wa0 (Zh2 H3 (Wd1 P _ _) Wo8 O.st λh4 H4=>?_)
  refine ss H4 ?_
  refine Wb6 (λc2=>?_) (λc2=>?_)
  ·rw [if_pos c2] at k
   exact RunS.stR (i:=4) H4 rfl (Wj8 _) λh5 H5=>k h5 (RunS.drp (RunS.none H5))
  ·rw [if_neg (by rw [c2];simp)] at k
   exact k h4 (RunS.drp (RunS.none H4))
 rw [if_neg c] at k
 exact k h1 (RunS.drp (RunS.none H1))
theorem Ye3 (H:Sat h (RunS M T tv (some (b,o)) x R)) (O:Ok x) (k:∀h',Sat h' (RunS M T tv none (Wq8 x) R)→K (.tuple #[]) h') :
  Wa5 Tryz.prog 102 #[rV M T b o] h K:=by
 refine call102 ?_
 unfold F102 g102 cf ce bd lP lI nP da3 dl3
 have B:=RunS.fB H
 have P:=RunS.pl H
 have hd:=O.fr
 unfold Wq8 at k
 dsimp only at k
 have H1:=RunS.new H (.cells #[mP M,mP T,fP b o] 131);generalize h.push (.cells #[mP M,mP T,fP b o] 131)=h1 at *;generalize h.size=N at *
 refine ss H1 ?_
 refine Wa3 (λc=>?_) (λc=>?_)
 ·rw [if_pos c] at k
  refine Wa0 (Wg2 H1 λh3 o3=>?_)
  have H3:=RunS.old H1 o3
  refine ss H3 ?_
  refine Wa0 (Wg1 H3 (Wd1 P _ _) O.st λh4 H4 u4=>?_)
  refine ss H4 ?_
  exact RunS.stR (i:=5) H4 rfl u4 λh5 H5=>RunS.stP H5 λh6 H6=>k h6 (RunS.drp (RunS.none H6))
 rw [if_neg c] at k
 refine Wa3 (λc=>?_) (λc=>?_)
 ·rw [if_pos c] at k
  refine Wa0 (Wg2 H1 λh3 o3=>?_)
  have H3:=RunS.old H1 o3
  refine ss H3 ?_
  refine Wa0 (WL6 (B.g 5) ?_)
  refine ss H3 ?_
  refine Wa0 (Wt9 H3 (Wd1 P _ _) (B.g 0) O.st λh4 H4=>?_)
  refine ss H4 ?_
  exact RunS.stP H4 λh6 H6=>k h6 (RunS.drp (RunS.none H6))
 rw [if_neg c] at k
 refine Wa3 (λc=>?_) (λc=>?_)
 ·rw [if_pos c] at k
  refine Wa0 (WT4 H1 O.st λh2 H2=>?_)
  refine ss H2 ?_
  refine Wb6 (λc3=>?_) (λc3=>?_)
  ·rw [if_pos c3] at k
   have ef:(x.drop1 (x.f.g 1)).2.f=x.f:=rfl
   try simp +decide only [Wb9,bsx,Nat.reduceAdd,Int.reduceLE,Int.reduceLT,Int.reduceToNat,rsx,g_s,Wa8,RunS.al H2,ef]
   exact Wa0 (WE6 H2 [x.f.g 2] rfl (Wm7 (B.g 2)) rfl (show x.t.fr.length < _ by omega) λh4 b' o' _ _ H4=>k h4 (RunS.drp (RunS.none H4)))
  ·rw [if_neg (by rw [c3];simp)] at k
   exact RunS.stP H2 λh5 H5=>k h5 (RunS.drp (RunS.none H5))
 rw [if_neg c] at k
 refine Wa3 (λc=>?_) (λc=>?_)
 ·rw [if_pos c] at k
  exact Wa0 (WE6 H1 [x.f.g 1] rfl (Wm7 (B.g 1)) rfl (by omega) λh4 b' o' _ _ H4=>k h4 (RunS.drp (RunS.none H4)))
 ·rw [if_neg c] at k
  exact Wa0 (WU1 H1 (by omega) λh6 H6=>k h6 (RunS.drp H6))
theorem Yo2 (H:Sat h (RunS M T tv (some (b,o)) x R)) (O:Ok x) (k:∀h',Sat h' (RunS M T tv none (WH3 x) R)→K (.tuple #[]) h') :
  Wa5 Tryz.prog 51 #[rV M T b o] h K:=by
 refine call51 ?_
 unfold F51 g51 cf lP lI nP dl3
 unfold WH3 at k
 have H1:=RunS.new H (.cells #[mP M,mP T,fP b o] 131);generalize h.push (.cells #[mP M,mP T,fP b o] 131)=h1 at *;generalize h.size=N at *
 refine ss H1 ?_
 refine Wa3 (λc=>?_) (λc=>?_)
 ·rw [if_pos c] at k
  exact Wa0 (Yn9 H1 O λh2 H2=>k h2 (RunS.drp H2))
 rw [if_neg c] at k
 refine Wa3 (λc=>?_) (λc=>?_)
 ·rw [if_pos c] at k
  exact Wa0 (Yo0 H1 O λh2 H2=>k h2 (RunS.drp H2))
 rw [if_neg c] at k
 refine Wa3 (λc=>?_) (λc=>?_)
 ·rw [if_pos c] at k
  exact Wa0 (Yo1 H1 O λh2 H2=>k h2 (RunS.drp H2))
 rw [if_neg c] at k
 exact Wa0 (Ye3 H1 O λh2 H2=>k h2 (RunS.drp H2))
theorem WX2 (H:Sat h (RunS M T tv fo x R)) (O:Ok x) (hf:FOk x) (hS:x.f.fn=21→ZA3 x) (k:∀h',Sat h' (RunS M T tv none (Wl3 x) R)→K (.tuple #[]) h') :
  Wa5 Tryz.prog 26 #[mP M,mP T] h K:=by
 refine call26 ?_
 unfold F26 cf bd lI nP dl3
 unfold Wl3 at k
 dsimp only at k
 refine Wa0 (Y89 H (λe=>?_) λb o hne _ H1=>?_)
 ·rw [if_pos e] at k
  refine sb ?_
  refine ⟨λvs h'=>vs = [.bool true]∧h' = h,⟨rfl,rfl⟩,?_⟩
  rintro v4 g6 h7 ⟨e,rfl⟩
  cases e
  refine sb ?_
  exact k _ (RunS.none H)
 ·rw [if_neg hne] at k
  refine sb ?_
  refine ⟨λvs h'=>vs = [.bool false]∧h' = h,⟨rfl,rfl⟩,?_⟩
  rintro v4 g6 h7 ⟨e,rfl⟩
  cases e
  have B:=RunS.fB H1
  refine sb ?_
  have H2:=RunS.new H1 (.cells #[.pointer none,.pointer none,.pointer none] 128)
  generalize h7.push (.cells #[.pointer none,.pointer none,.pointer none] 128)=h2 at *
  generalize h7.size=N at *
  refine st3 (Wd3 (vs:=[mP M,mP T,fP b o]) (RunS.loc H2) rfl (by simp [Wi3]) λh3 w=>?_)
  have H3:=RunS.wr H2 w.new w.old
  clear H2 w
  refine ss H3 ?_
  refine ⟨λvs h'=>(∃w,vs = [.bool (decide (x.f.fn < 21∨23 < x.f.fn)),w])∧h' = h3,?_,?_⟩
  ·refine Wa3 (λc=>?_) (λc=>?_)
   ·rw [decide_eq_true (p:=x.f.fn < 21∨23 < x.f.fn) (by omega)]
    exact ⟨⟨_,rfl⟩,by trivial⟩
   ·rw [show decide (x.f.fn > 23)=decide (x.f.fn < 21∨23 < x.f.fn) by rw [decide_eq_decide];omega]
    exact ⟨⟨_,rfl⟩,by trivial⟩
  rintro v18 v19 g20 h21 ⟨⟨w,e⟩,rfl⟩
  cases e
  refine ss H3 ?_
  refine Wa3 (λc=>?_) (λc=>?_)
  ·rw [if_pos c] at k
   exact Wa0 (Ym9 H3 O hf λh4 H4=>k h4 (RunS.drp H4))
  rw [if_neg c] at k
  refine Wa3 (λc=>?_) (λc=>?_)
  ·rw [if_pos c] at k
   exact Wa0 (Zq3 H3 [x.f.g 7,x.f.g 8,x.f.g 9] rfl (Yn3 (B.g 7) (B.g 8) (B.g 9)) rfl λh4 H4=>k h4 (RunS.drp H4))
  rw [if_neg c] at k
  refine Wa3 (λc=>?_) (λc=>?_)
  ·rw [if_pos c] at k
   exact Wa0 (Yn1 H3 O (hS c) λh4 H4=>k h4 (RunS.drp H4))
  rw [if_neg c] at k
  exact Wa0 (Yo2 H3 O λh4 H4=>k h4 (RunS.drp H4))
end
end
section
open Mod
section
variable {K:Value→Wa1→Prop} {h:Wa1} {M T b o N:Nat} {tv:Value} {fo:Option (Nat × Nat)} {x:Run} {R:Hp}
theorem Za2 (x:Run) (i n r:Int):(x.pc i).nlink n r=x.nlink n r:=rfl
theorem Yo3 (H:Sat h (RunS M T tv (some (b,o)) x R)) (O:Ok x) (k:∀h',Sat h' (RunS M T tv none (WI0 x) R)→K (.tuple #[]) h') :
  Wa5 Tryz.prog 104 #[rV M T b o] h K:=by
 refine call104 ?_
 unfold F104 g104 cf ce bd lP lI nP da3 de7 Wm8
 have B:=RunS.fB H
 have P:=RunS.pl H
 have hd:=O.fr
 have r0:=RunS.ret H 0
 unfold WI0 at k
 dsimp only at k
 have H1:=RunS.new H (.cells #[mP M,mP T,fP b o] 135);generalize h.push (.cells #[mP M,mP T,fP b o] 135)=h1 at *;generalize h.size=N at *
 refine ss H1 ?_
 refine Wa3 (λc=>?_) (λc=>?_)
 ·rw [if_pos c] at k
  exact Wa0 (Wy2 H1 Args.none (by omega) (by omega) λh2 b' o' _ _ H2=>k h2 (RunS.drp (RunS.none H2)))
 rw [if_neg c] at k
 refine Wa3 (λc=>?_) (λc=>?_)
 ·rw [if_pos c] at k
  refine RunS.stR (i:=2) H1 rfl r0 λh2 H2=>?_
  try simp +decide only [Wb9,bsx,Nat.reduceAdd,Int.reduceLE,Int.reduceLT,Int.reduceToNat,rsx,g_s,Wa8,RunS.al H2,B.len]
  refine Wb6 (λc2=>?_) (λc2=>?_)
  ·have c2':x.ret 0≠0:=by simpa [Run.ret] using c2
   rw [if_pos c2'] at k
   exact RunS.stP H2 λh3 H3=>k h3 (RunS.drp (RunS.none H3))
  ·have c2':¬ x.ret 0≠0:=by simpa [Run.ret] using c2
   rw [if_neg c2'] at k
   have hfl:=Wr8 x 2 (x.ret 0)
   refine ⟨λvs h'=>(∃w,vs = [.bool (decide (x.f.g 5=0∧x.t.retired.length > 0)),w])∧Sat h' (RunS M T tv (some (b,o)) (x.s 2 (x.ret 0)) (pt N (.cells #[mP M,mP T,fP b o] 135)*R)),?_,?_⟩
   ·refine Wa3 (λc3=>?_) (λc3=>?_)
    ·refine Wa0 (Wt8 (RunS.thr H2) ?_)
     refine sb ?_
     have e:decide (((x.s 2 (x.ret 0)).t.retired.length:Int) > 0)=decide (x.f.g 5=0∧x.t.retired.length > 0):=by
      rw [decide_eq_decide]
      have e2:(x.s 2 (x.ret 0)).t.retired=x.t.retired:=rfl
      rw [e2]
      omega
     rw [e]
     exact ⟨⟨_,rfl⟩,H2⟩
    ·exact ⟨⟨_,by rw [decide_eq_false (λhh=>c3 hh.1)]⟩,H2⟩
   rintro v32 v33 g34 h35 ⟨⟨w,e⟩,H3⟩
   cases e
   refine sb ?_
   refine Wa3 (λc3=>?_) (λc3=>?_)
   ·rw [if_pos c3] at k
    refine RunS.stR (i:=5) H3 rfl (U.lit rfl) λh4 H4=>?_
    have hfl2:=Wr8 (x.s 2 (x.ret 0)) 5 1
    try simp only [Wb9,bsx,Nat.reduceAdd,Int.reduceLE,Int.reduceLT,Int.reduceToNat,RunS.l H4]
    exact Wa0 (Wy2 H4 Args.none (by omega) (by omega) λh5 b' o' _ _ H5=>k h5 (RunS.drp (RunS.none H5)))
   ·rw [if_neg c3] at k
    try simp only [Wb9,bsx,Nat.reduceAdd,Int.reduceLE,Int.reduceLT,Int.reduceToNat,RunS.l H3]
    exact Wa0 (Ws9 H3 (U.lit rfl) (by omega) λh5 b' o' H5=>k h5 (RunS.drp (RunS.none H5)))
 rw [if_neg c] at k
 refine Wa3 (λc=>?_) (λc=>?_)
 ·rw [if_pos c] at k
  refine Wa0 (Zx6 H1 (by decide) O.st λh2 H2 u2=>?_)
  try simp +decide only [Wb9,bsx,Nat.reduceAdd,Int.reduceLE,Int.reduceLT,Int.reduceToNat,rsx,g_s,Wa8,RunS.al H2,WT3]
  refine Wa0 (WY9 (YQ7 _) (YQ7 _) ?_)
  refine ss H2 ?_
  refine RunS.stR (i:=4) H2 rfl (Yd5 _ _) λh3 H3=>?_
  refine ss H3 ?_
  refine Wa0 (RunS.feed H3 λq R' HF re=>?_)
  refine ss H3 ?_
  refine Wa0 (Wr1 H3 λh4 o4=>WE0 ?_)
  have H4:=RunS.old H3 o4
  have HF4:=HF.old o4
  try simp only [Wb9,bsx,Nat.reduceAdd,Int.reduceLE,Int.reduceLT,Int.reduceToNat]
  refine Wa0 (Wh2 λh5 o5=>cf7 ?_)
  have H5:=RunS.old H4 o5
  have HF5:=HF4.old o5
  refine sb ?_
  have P5:=RunS.pl H5
  refine Wa0 (Zh9 H5 ?_ HF5 re P5.lv λh6 H6=>?_)
  ·show (x.add 3 1).2.m.used < _
   rw [Yy1];exact O.us
  refine sb ?_
  refine RunS.stR (i:=3) H6 rfl (Wj8 _) λh7 H7=>RunS.stP H7 λh8 H8=>k h8 (RunS.drp (RunS.none H8))
 rw [if_neg c] at k
 exact k h1 (RunS.drp (RunS.none H1))
def Ye4 (x:Run):Run:=if x.f.pc=3 then x.store (x.na (x.f.g 2) 0) (x.f.g 4) else if x.f.pc=4 then x.store (x.na (x.f.g 2) 1) (x.f.g 1)
 else if x.f.pc=5 then x.store (x.na (x.f.g 2) 2) 1 else if x.f.pc=6 then x.store (x.na (x.f.g 2) 3) (x.f.g 3) else x
theorem Za3 (x:Run):(Ye4 x).f=x.f:=by
 unfold Ye4
 split
 ·rfl
 split
 ·rfl
 split
 ·rfl
 split <;> rfl
theorem YF7 (H:Sat h (RunS M T tv (some (b,o)) x R)) (O:Ok x) (k:∀h',Sat h' (RunS M T tv none (Ya5 x) R)→K (.tuple #[]) h') :
  Wa5 Tryz.prog 105 #[rV M T b o] h K:=by
 refine call105 ?_
 unfold F105 g105 cf ce bd lP lI nP da3
 have B:=RunS.fB H
 have P:=RunS.pl H
 have k:∀h',Sat h' (RunS M T tv none ((Ye4 x).pc (x.f.pc+1)) R)→K (.tuple #[]) h':=k
 have H1:=RunS.new H (.cells #[mP M,mP T,fP b o] 135);generalize h.push (.cells #[mP M,mP T,fP b o] 135)=h1 at *;generalize h.size=N at *
 refine ss H1 ?_
 refine ⟨λ_ h'=>Sat h' (RunS M T tv (some (b,o)) (Ye4 x) (pt N (.cells #[mP M,mP T,fP b o] 135)*R)),?_,?_⟩
 ·unfold Ye4
  refine Wa3 (λc=>?_) (λc=>?_)
  ·rw [if_pos c]
   refine Wa0 (Wn8 H1 (by decide) λh2 o2=>?_)
   have H2:=RunS.old H1 o2
   refine ss H2 ?_
   exact Wa0 (Wi8 H2 (Wd1 P _ _) (B.g 4) O.st λh3 H3=>H3)
  rw [if_neg c]
  refine Wa3 (λc=>?_) (λc=>?_)
  ·rw [if_pos c]
   refine Wa0 (Wn8 H1 (by decide) λh2 o2=>?_)
   have H2:=RunS.old H1 o2
   refine ss H2 ?_
   exact Wa0 (Wi8 H2 (Wd1 P _ _) (B.g 1) O.st λh3 H3=>H3)
  rw [if_neg c]
  refine Wa3 (λc=>?_) (λc=>?_)
  ·rw [if_pos c]
   refine Wa0 (Wn8 H1 (by decide) λh2 o2=>?_)
   have H2:=RunS.old H1 o2
   refine ss H2 ?_
   exact Wa0 (Wi8 H2 (Wd1 P _ _) (U.lit rfl) O.st λh3 H3=>H3)
  rw [if_neg c]
  refine Wa3 (λc=>?_) (λc=>?_)
  ·rw [if_pos c]
   refine Wa0 (Wn8 H1 (by decide) λh2 o2=>?_)
   have H2:=RunS.old H1 o2
   refine ss H2 ?_
   exact Wa0 (Wi8 H2 (Wd1 P _ _) (B.g 3) O.st λh3 H3=>H3)
  rw [if_neg c]
  exact H1
 intro v1 v2 v3 v4 g6 h7 H7
 try simp +decide only [Wb9,bsx,Nat.reduceAdd,Int.reduceLE,Int.reduceLT,Int.reduceToNat,rsx,g_s,Wa8,RunS.al H7,Za3]
 rw [WJ2 (n:=x.f.pc+1) (by have:=O.pc;omega) (by have:=O.pc;omega)]
 exact RunS.stP H7 λh8 H8=>k h8 (RunS.drp (RunS.none H8))
theorem Ye5 (H:Sat h (RunS M T tv (some (b,o)) x R)) (O:Ok x) (L:RL x) (k:∀h',Sat h' (RunS M T tv none (Wx1 x) R)→K (.tuple #[]) h') :
  Wa5 Tryz.prog 106 #[rV M T b o] h K:=by
 refine call106 ?_
 unfold F106 g106 cf ce bd lS lP lI nP da3
 have B:=RunS.fB H
 have P:=RunS.pl H
 have hd:=O.fr
 have r0:=RunS.ret H 0
 unfold Wx1 at k
 dsimp only at k
 have H1:=RunS.new H (.cells #[mP M,mP T,fP b o] 135);generalize h.push (.cells #[mP M,mP T,fP b o] 135)=h1 at *;generalize h.size=N at *
 refine ss H1 ?_
 refine Wa3 (λc=>?_) (λc=>?_)
 ·rw [if_pos c] at k
  exact Wa0 (WE8 H1 [x.f.g 4] rfl (Wm7 (B.g 4)) rfl (by omega) λh4 b' o' _ _ H4=>k h4 (RunS.drp (RunS.none H4)))
 rw [if_neg c] at k
 refine Wa3 (λc=>?_) (λc=>?_)
 ·rw [if_pos c] at k
  refine RunS.stR (i:=7) H1 rfl r0 λh2 H2=>?_
  refine ss H2 ?_
  refine Wa0 (Wd7 H2 λh3 o3=>?_)
  have H3:=RunS.old H2 o3
  refine ss H3 ?_
  refine Wa0 (Wg1 H3 (Wd1 P _ _) O.st λh4 H4 u4=>?_)
  refine ss H4 ?_
  exact RunS.stR (i:=6) H4 rfl u4 λh5 H5=>RunS.stP H5 λh6 H6=>k h6 (RunS.drp (RunS.none H6))
 rw [if_neg c] at k
 refine Wa3 (λc=>?_) (λc=>?_)
 ·rw [if_pos c] at k
  obtain ⟨pb,sb,wb,W⟩:=RunS.rows H1 L
  have wf:=W.f
  have l0:=L.e0
  have wg:=W.g (i:=0) (by omega)
  try simp +decide only [Wb9,bsx,Nat.reduceAdd,Int.reduceLE,Int.reduceLT,Int.reduceToNat,rsx,g_s,Wa8,RunS.al H1,wf,wg]
  refine ⟨by omega,?_⟩
  try simp +decide only [Wb9,bsx,Nat.reduceAdd,Int.reduceLE,Int.reduceLT,Int.reduceToNat,rsx,g_s,Wa8,RunS.al H1,wf,wg]
  refine Wa0 (Wd7 H1 λh2 o2=>?_)
  have H2:=RunS.old H1 o2
  have W2:=W.old o2
  have wf2:=W2.f
  have wg2:=W2.g (i:=0) (by omega)
  try simp +decide only [Wb9,bsx,Nat.reduceAdd,Int.reduceLE,Int.reduceLT,Int.reduceToNat,rsx,g_s,Wa8,RunS.al H2,wf2,wg2]
  refine Wa0 (Wg9 (B.g 6) ?_)
  refine ss H2 ?_
  refine Wa0 (Wi8 H2 (Wd1 P _ _) Wo8 O.st λh3 H3=>?_)
  exact RunS.stP H3 λh5 H5=>k h5 (RunS.drp (RunS.none H5))
 rw [if_neg c] at k
 refine Wa3 (λc=>?_) (λc=>?_)
 ·rw [if_pos c] at k
  refine RunS.stR (i:=5) H1 rfl (U.lit rfl) λh2 H2=>?_
  try simp +decide only [Wb9,bsx,Nat.reduceAdd,Int.reduceLE,Int.reduceLT,Int.reduceToNat,rsx,g_s,Wa8,RunS.al H2]
  refine RunS.stP H2 λh3 H3=>?_
  have L3:RL ((x.s 5 1).pc 7):=L.at ⟨rfl,rfl,rfl⟩
  obtain ⟨pb,sb,wb,W⟩:=RunS.rows H3 L3
  have wf:=W.f
  have l0:=L3.e0
  have wg:=W.g (i:=0) (by omega)
  try simp +decide only [Wb9,bsx,Nat.reduceAdd,Int.reduceLE,Int.reduceLT,Int.reduceToNat,rsx,g_s,Wa8,RunS.al H3,wf,wg]
  refine ⟨by omega,?_⟩
  try simp +decide only [Wb9,bsx,Nat.reduceAdd,Int.reduceLE,Int.reduceLT,Int.reduceToNat,rsx,g_s,Wa8,RunS.al H3,wf,wg]
  refine ⟨by omega,?_⟩
  try simp +decide only [Wb9,bsx,Nat.reduceAdd,Int.reduceLE,Int.reduceLT,Int.reduceToNat,rsx,g_s,Wa8,RunS.al H3,wf,wg]
  refine Wa0 (Wd7 H3 λh4 o4=>?_)
  have H4:=RunS.old H3 o4
  have W4:=W.old o4
  have wf4:=W4.f
  have wg4:=W4.g (i:=0) (by omega)
  try simp +decide only [Wb9,bsx,Nat.reduceAdd,Int.reduceLE,Int.reduceLT,Int.reduceToNat,rsx,g_s,Wa8,RunS.al H4,wf4,wg4]
  refine Wa0 (Wm6 H4 (Wd1 P _ _) (RunS.woU H4 0) O.st λh5 H5=>?_)
  refine ss H5 ?_
  refine Wb6 (λc2=>?_) (λc2=>?_)
  ·rw [if_pos c2] at k
   exact RunS.stP H5 λh6 H6=>k h6 (RunS.drp (RunS.none H6))
  ·rw [if_neg (by rw [c2];simp)] at k
   exact k h5 (RunS.drp (RunS.none H5))
 rw [if_neg c] at k
 exact k h1 (RunS.drp (RunS.none H1))
theorem Ye6 (H:Sat h (RunS M T tv (some (b,o)) x R)) (O:Ok x) (L:RL x) (hr2:12≤x.f.pc→x.f.g 5 < x.t.pred.length) (k:∀h',Sat h' (RunS M T tv none (Wx2 x) R)→K (.tuple #[]) h') :
  Wa5 Tryz.prog 107 #[rV M T b o] h K:=by
 refine call107 ?_
 unfold F107 g107 cf ce bd lS lP lI nP da3
 have B:=RunS.fB H
 have P:=RunS.pl H
 have hd:=O.fr
 have hr0:=(B.g 5).1
 unfold Wx2 at k
 dsimp only at k
 have H1:=RunS.new H (.cells #[mP M,mP T,fP b o] 135);generalize h.push (.cells #[mP M,mP T,fP b o] 135)=h1 at *;generalize h.size=N at *
 refine ss H1 ?_
 refine Wa3 (λc=>?_) (λc=>?_)
 ·rw [if_pos c] at k
  refine Wa3 (λc2=>?_) (λc2=>?_)
  ·rw [if_pos c2] at k
   exact RunS.stP H1 λh2 H2=>k h2 (RunS.drp (RunS.none H2))
  rw [if_neg c2] at k
  refine RunS.stP H1 λh2 H2=>?_
  refine ss H2 ?_
  refine Wa0 (Wd7 H2 λh3 o3=>?_)
  have H3:=RunS.old H2 o3
  try simp +decide only [Wb9,bsx,Nat.reduceAdd,Int.reduceLE,Int.reduceLT,Int.reduceToNat,rsx,g_s,Wa8,RunS.al H3,Za2]
  refine Wa0 (Wg1 H3 (Wd1 P _ _) O.st λh4 H4 u4=>?_)
  refine ss H4 ?_
  refine Wa0 (Wp3 u4 ?_)
  refine ss H4 ?_
  refine Wb6 (λc3=>?_) (λc3=>?_)
  ·rw [if_pos c3] at k
   exact RunS.stP H4 λh5 H5=>k h5 (RunS.drp (RunS.none H5))
  ·rw [if_neg (by rw [c3];simp)] at k
   exact k h4 (RunS.drp (RunS.none H4))
 rw [if_neg c] at k
 refine Wa3 (λc=>?_) (λc=>?_)
 ·rw [if_pos c] at k
  have hr:=hr2 (by omega)
  refine RunS.stP H1 λh2 H2=>?_
  have L2:RL (x.pc 13):=L.at ⟨rfl,rfl,rfl⟩
  obtain ⟨pb,sb,wb,W⟩:=RunS.rows H2 L2
  have wf:=W.f
  try simp +decide only [Wb9,bsx,Nat.reduceAdd,Int.reduceLE,Int.reduceLT,Int.reduceToNat,rsx,g_s,Wa8,RunS.al H2,wf]
  refine ⟨by omega,hr,?_⟩
  have wg:=W.g (i:=(x.f.g 5).toNat) (by show _ < x.t.pred.length;omega)
  try simp +decide only [Wb9,bsx,Nat.reduceAdd,Int.reduceLE,Int.reduceLT,Int.reduceToNat,rsx,g_s,Wa8,RunS.al H2,wf,wg]
  refine ⟨λvs h'=>∃(w:Value) (d:Bool) (y:Run),vs = [w,.bool d]∧Sat h' (RunS M T tv (some (b,o)) y (pt N (.cells #[mP M,mP T,fP b o] 135)*R))∧∀h'',Sat h'' (RunS M T tv none (if d then y.pc 17 else y) R)→K (.tuple #[]) h'',?_,?_⟩
  ·refine Wb6 (λc2=>?_) (λc2=>?_)
   ·have c2':¬ (x.pc 13).t.succ.getD (x.f.g 5).toNat 0=2:=bne_iff_ne.1 c2
    rw [if_neg c2'] at k
    refine Wa3 (λc3=>?_) (λc3=>?_)
    ·rw [if_pos c3] at k
     exact ⟨_,_,_,rfl,H2,k⟩
    ·rw [if_neg c3] at k
     refine ss H2 ?_
     refine Wa0 (Wd7 H2 λh3 o3=>?_)
     have H3:=RunS.old H2 o3
     refine ss H3 ?_
     refine Wa0 (Wg1 H3 (Wd1 P _ _) O.st λh4 H4 u4=>?_)
     refine ss H4 ?_
     refine Wa0 (Wp3 u4 ?_)
     try simp only [Wb9,bsx,Nat.reduceAdd,Int.reduceLE,Int.reduceLT,Int.reduceToNat]
     exact ⟨_,_,_,rfl,H4,k⟩
   ·have c2':(x.pc 13).t.succ.getD (x.f.g 5).toNat 0=2:=bne_eq_false_iff_eq.1 c2
    rw [if_pos c2'] at k
    exact ⟨_,false,_,rfl,H2,k⟩
  rintro v64 v65 g66 h67 ⟨w,d,y,e,H3,k⟩
  cases e
  refine ss H3 ?_
  cases d
  ·exact k h67 (RunS.drp (RunS.none H3))
  ·exact RunS.stP H3 λh5 H5=>k h5 (RunS.drp (RunS.none H5))
 rw [if_neg c] at k
 refine Wa3 (λc=>?_) (λc=>?_)
 ·rw [if_pos c] at k
  refine Wa0 (Wd7 H1 λh2 o2=>?_)
  have H2:=RunS.old H1 o2
  refine ss H2 ?_
  refine Wa0 (Wg1 H2 (Wd1 P _ _) O.st λh3 H3 u3=>?_)
  refine ss H3 ?_
  exact RunS.stR (i:=6) H3 rfl u3 λh4 H4=>RunS.stP H4 λh5 H5=>k h5 (RunS.drp (RunS.none H5))
 rw [if_neg c] at k
 refine Wa3 (λc=>?_) (λc=>?_)
 ·rw [if_pos c] at k
  have hr:=hr2 (by omega)
  obtain ⟨pb,sb,wb,W⟩:=RunS.rows H1 L
  have wf:=W.f
  try simp +decide only [Wb9,bsx,Nat.reduceAdd,Int.reduceLE,Int.reduceLT,Int.reduceToNat,rsx,g_s,Wa8,RunS.al H1,wf]
  refine ⟨by omega,by omega,?_⟩
  have wg:=W.g (i:=(x.f.g 5).toNat) (by omega)
  try simp +decide only [Wb9,bsx,Nat.reduceAdd,Int.reduceLE,Int.reduceLT,Int.reduceToNat,rsx,g_s,Wa8,RunS.al H1,wg]
  refine Wa0 (Wd7 H1 λh2 o2=>?_)
  have H2:=RunS.old H1 o2
  have W2:=W.old o2
  have wf2:=W2.f
  have wg2:=W2.g (i:=(x.f.g 5).toNat) (by omega)
  try simp +decide only [Wb9,bsx,Nat.reduceAdd,Int.reduceLE,Int.reduceLT,Int.reduceToNat,rsx,g_s,Wa8,RunS.al H2,wf2,wg2]
  refine Wa0 (Wg9 (B.g 6) ?_)
  refine ss H2 ?_
  refine Wa0 (Wi8 H2 (Wd1 P _ _) Wo8 O.st λh3 H3=>?_)
  exact RunS.stP H3 λh5 H5=>k h5 (RunS.drp (RunS.none H5))
 rw [if_neg c] at k
 exact k h1 (RunS.drp (RunS.none H1))
theorem Yo4 (H:Sat h (RunS M T tv (some (b,o)) x R)) (O:Ok x) (L:RL x) (hr2:x.f.pc=15→x.f.g 5 < x.t.pred.length) (k:∀h',Sat h' (RunS M T tv none (WI1 x) R)→K (.tuple #[]) h') :
  Wa5 Tryz.prog 108 #[rV M T b o] h K:=by
 refine call108 ?_
 unfold F108 g108 cf ce bd lS lP lI nP da3
 have B:=RunS.fB H
 have P:=RunS.pl H
 have hd:=O.fr
 have hr0:=(B.g 5).1
 have r0:=RunS.ret H 0
 unfold WI1 at k
 dsimp only at k
 have H1:=RunS.new H (.cells #[mP M,mP T,fP b o] 135);generalize h.push (.cells #[mP M,mP T,fP b o] 135)=h1 at *;generalize h.size=N at *
 refine ss H1 ?_
 refine Wa3 (λc=>?_) (λc=>?_)
 ·rw [if_pos c] at k
  have hr:=hr2 c
  obtain ⟨pb,sb,wb,W⟩:=RunS.rows H1 L
  have wf:=W.f
  try simp +decide only [Wb9,bsx,Nat.reduceAdd,Int.reduceLE,Int.reduceLT,Int.reduceToNat,rsx,g_s,Wa8,RunS.al H1,wf]
  refine ⟨by omega,by omega,?_⟩
  have wg:=W.g (i:=(x.f.g 5).toNat) (by omega)
  try simp +decide only [Wb9,bsx,Nat.reduceAdd,Int.reduceLE,Int.reduceLT,Int.reduceToNat,rsx,g_s,Wa8,RunS.al H1,wf,wg]
  refine ⟨by omega,by omega,?_⟩
  try simp +decide only [Wb9,bsx,Nat.reduceAdd,Int.reduceLE,Int.reduceLT,Int.reduceToNat,rsx,g_s,Wa8,RunS.al H1,wf,wg]
  refine Wa0 (Wd7 H1 λh2 o2=>?_)
  have H2:=RunS.old H1 o2
  have W2:=W.old o2
  have wf2:=W2.f
  have wg2:=W2.g (i:=(x.f.g 5).toNat) (by omega)
  try simp +decide only [Wb9,bsx,Nat.reduceAdd,Int.reduceLE,Int.reduceLT,Int.reduceToNat,rsx,g_s,Wa8,RunS.al H2,wf2,wg2]
  refine Wa0 (Wm6 H2 (Wd1 P _ _) (RunS.woU H2 _) O.st λh3 H3=>?_)
  refine ss H3 ?_
  have ef:(x.swingM (x.nlink (x.t.pred.getD (x.f.g 5).toNat 0) (x.f.g 5)) (x.t.word.getD (x.f.g 5).toNat 0) (x.f.g 2) false).2.f=x.f:=rfl
  refine Wb6 (λc3=>?_) (λc3=>?_)
  ·rw [if_pos c3] at k
   try simp +decide only [Wb9,bsx,Nat.reduceAdd,Int.reduceLE,Int.reduceLT,Int.reduceToNat,rsx,g_s,Wa8,RunS.al H3,ef]
   refine RunS.stR (i:=5) H3 rfl (Wj8 _) λh4 H4=>?_
   try simp +decide only [Wb9,bsx,Nat.reduceAdd,Int.reduceLE,Int.reduceLT,Int.reduceToNat,rsx,g_s,Wa8,RunS.al H4]
   exact RunS.stP H4 λh5 H5=>k h5 (RunS.drp (RunS.none H5))
  ·rw [if_neg (by rw [c3];simp)] at k
   try simp +decide only [Wb9,bsx,Nat.reduceAdd,Int.reduceLE,Int.reduceLT,Int.reduceToNat,rsx,g_s,Wa8,RunS.al H3,ef]
   exact Wa0 (WE8 H3 [x.f.g 4] rfl (Wm7 (B.g 4)) rfl (show x.t.fr.length < _ by omega) λh4 b' o' _ _ H4=>k h4 (RunS.drp (RunS.none H4)))
 rw [if_neg c] at k
 refine Wa3 (λc=>?_) (λc=>?_)
 ·rw [if_pos c] at k
  refine RunS.stR (i:=7) H1 rfl r0 λh2 H2=>?_
  try simp +decide only [Wb9,bsx,Nat.reduceAdd,Int.reduceLE,Int.reduceLT,Int.reduceToNat,rsx,g_s,Wa8,RunS.al H2]
  refine RunS.stP H2 λh3 H3=>?_
  have L3:RL ((x.s 7 (x.ret 0)).pc 11):=L.at ⟨rfl,rfl,rfl⟩
  obtain ⟨pb,sb,wb,W⟩:=RunS.rows H3 L3
  have wf:=W.f
  have l0:=L3.e0
  have wg:=W.g (i:=0) (by omega)
  try simp +decide only [Wb9,bsx,Nat.reduceAdd,Int.reduceLE,Int.reduceLT,Int.reduceToNat,rsx,g_s,Wa8,RunS.al H3,wf,wg]
  refine ⟨by omega,?_⟩
  try simp +decide only [Wb9,bsx,Nat.reduceAdd,Int.reduceLE,Int.reduceLT,Int.reduceToNat,rsx,g_s,Wa8,RunS.al H3,wf,wg]
  refine Wb6 (λc2=>?_) (λc2=>?_)
  ·rw [if_pos (bne_iff_ne.1 c2)] at k
   exact RunS.stP H3 λh5 H5=>k h5 (RunS.drp (RunS.none H5))
  ·rw [if_neg (λhh=>hh (bne_eq_false_iff_eq.1 c2))] at k
   exact k h3 (RunS.drp (RunS.none H3))
 rw [if_neg c] at k
 refine Wa3 (λc=>?_) (λc=>?_)
 ·rw [if_pos c] at k
  refine Wa0 (Wn8 H1 (by decide) λh2 o2=>?_)
  have H2:=RunS.old H1 o2
  refine ss H2 ?_
  refine Wa0 (Wi8 H2 (Wd1 P _ _) U0 O.st λh3 H3=>?_)
  exact RunS.stP H3 λh5 H5=>k h5 (RunS.drp (RunS.none H5))
 ·rw [if_neg c] at k
  exact Wa0 (Ws9 H1 U0 (by omega) λh5 b' o' H5=>k h5 (RunS.drp (RunS.none H5)))
structure ZA4 (x:Run):Prop where
 L:RL x
 a:12≤x.f.pc→x.f.pc≤15→x.f.g 5 < x.t.pred.length
theorem Yo5 (H:Sat h (RunS M T tv (some (b,o)) x R)) (O:Ok x) (S:ZA4 x) (k:∀h',Sat h' (RunS M T tv none (WI2 x) R)→K (.tuple #[]) h') :
  Wa5 Tryz.prog 53 #[rV M T b o] h K:=by
 refine call53 ?_
 unfold F53 g53 cf lP lI nP dl3
 unfold WI2 at k
 have H1:=RunS.new H (.cells #[mP M,mP T,fP b o] 135);generalize h.push (.cells #[mP M,mP T,fP b o] 135)=h1 at *;generalize h.size=N at *
 refine ss H1 ?_
 refine Wa3 (λc=>?_) (λc=>?_)
 ·rw [if_pos c] at k
  exact Wa0 (Yo3 H1 O λh2 H2=>k h2 (RunS.drp H2))
 rw [if_neg c] at k
 refine Wa3 (λc=>?_) (λc=>?_)
 ·rw [if_pos c] at k
  exact Wa0 (YF7 H1 O λh2 H2=>k h2 (RunS.drp H2))
 rw [if_neg c] at k
 refine Wa3 (λc=>?_) (λc=>?_)
 ·rw [if_pos c] at k
  exact Wa0 (Ye5 H1 O S.L λh2 H2=>k h2 (RunS.drp H2))
 rw [if_neg c] at k
 refine Wa3 (λc=>?_) (λc=>?_)
 ·rw [if_pos c] at k
  exact Wa0 (Ye6 H1 O S.L (λhh=>S.a hh (by omega)) λh2 H2=>k h2 (RunS.drp H2))
 rw [if_neg c] at k
 exact Wa0 (Yo4 H1 O S.L (λhh=>S.a (by omega) (by omega)) λh2 H2=>k h2 (RunS.drp H2))
end
end
section
open Mod
section
variable {K:Value→Wa1→Prop} {h:Wa1} {M T b o N:Nat} {tv:Value} {fo:Option (Nat × Nat)} {x:Run} {R:Hp}
theorem Zm7 (x:Run) (i j:Int) (n:Nat) (v:Int):((x.pc i).s n v).pc j=(x.s n v).pc j:=by
 show ((x.pc i).setF ((x.pc i).f.s n v)).setF (((x.pc i).setF ((x.pc i).f.s n v)).f.at j)=(x.setF (x.f.s n v)).setF ((x.setF (x.f.s n v)).f.at j)
 rw [Yb9,Yb9,WC9]
 unfold Run.pc Run.setF Thr.setTop
 simp [Frm.at,Frm.s]
theorem Yo6 (H:Sat h (RunS M T tv (some (b,o)) x R)) (O:Ok x) (k:∀h',Sat h' (RunS M T tv none (WH6 x) R)→K (.tuple #[]) h') :
  Wa5 Tryz.prog 54 #[rV M T b o] h K:=by
 refine call54 ?_
 unfold F54 g54 cf ce bd lP lI nP da3
 have B:=RunS.fB H
 have P:=RunS.pl H
 unfold WH6 at k
 dsimp only at k
 have H1:=RunS.new H (.cells #[mP M,mP T,fP b o] 136);generalize h.push (.cells #[mP M,mP T,fP b o] 136)=h1 at *;generalize h.size=N at *
 refine ss H1 ?_
 refine Wa3 (λc=>?_) (λc=>?_)
 ·rw [if_pos c] at k
  refine Wa0 (Wd7 H1 λh2 o2=>?_)
  have H2:=RunS.old H1 o2
  refine ss H2 ?_
  refine Wa0 (Wg1 H2 (Wd1 P _ _) O.st λh3 H3 u3=>?_)
  refine ss H3 ?_
  refine RunS.stR (i:=0) H3 rfl u3 λh4 H4=>?_
  try simp +decide only [Wb9,bsx,Nat.reduceAdd,Int.reduceLE,Int.reduceLT,Int.reduceToNat,rsx,g_s,Wa8,RunS.al H4,B.len]
  refine Wa0 (Wh8 u3 ?_)
  try simp +decide only [Wb9,bsx,Nat.reduceAdd,Int.reduceLE,Int.reduceLT,Int.reduceToNat,rsx,g_s,Wa8,RunS.al H4,B.len]
  refine Wa0 (Wh8 u3 ?_)
  try simp +decide only [Wb9,bsx,Nat.reduceAdd,Int.reduceLE,Int.reduceLT,Int.reduceToNat,rsx,g_s,Wa8,RunS.al H4,B.len]
  refine RunS.stR (i:=1) H4 rfl (Wi9 _) λh5 H5=>?_
  try simp +decide only [Wb9,bsx,Nat.reduceAdd,Int.reduceLE,Int.reduceLT,Int.reduceToNat,rsx,g_s,Wa8,RunS.al H5]
  refine RunS.stR (i:=2) H5 rfl (Wi9 _) λh6 H6=>?_
  try simp +decide only [Wb9,bsx,Nat.reduceAdd,Int.reduceLE,Int.reduceLT,Int.reduceToNat,rsx,g_s,Wa8,RunS.al H6]
  refine RunS.stP H6 λh7 H7=>?_
  try simp +decide only [Wb9,bsx,Nat.reduceAdd,Int.reduceLE,Int.reduceLT,Int.reduceToNat,rsx,g_s,Wa8,RunS.al H7,B.len]
  refine Wa0 (Wp3 u3 ?_)
  refine ss H7 ?_
  refine Wb6 (λc2=>?_) (λc2=>?_)
  ·rw [if_neg (by simpa using c2)] at k
   have hd:=O.fr
   have l0:(x.load (x.nlink 1 0)).2.t.fr=x.t.fr:=rfl
   have l1:=Wr8 (x.load (x.nlink 1 0)).2 0 (x.load (x.nlink 1 0)).1
   have l2:=Wr8 ((x.load (x.nlink 1 0)).2.s 0 (x.load (x.nlink 1 0)).1) 1 (Wg8 (x.load (x.nlink 1 0)).1)
   have l3:=Wr8 (((x.load (x.nlink 1 0)).2.s 0 (x.load (x.nlink 1 0)).1).s 1 (Wg8 (x.load (x.nlink 1 0)).1)) 2 (Wg8 (x.load (x.nlink 1 0)).1)
   have l4:=WD5 ((((x.load (x.nlink 1 0)).2.s 0 (x.load (x.nlink 1 0)).1).s 1 (Wg8 (x.load (x.nlink 1 0)).1)).s 2 (Wg8 (x.load (x.nlink 1 0)).1)) 1
   rw [l0] at l1
   exact Wa0 (Ws9 H7 U0 (by omega) λh8 b' o' H8=>k h8 (RunS.drp (RunS.none H8)))
  ·rw [if_pos (by simpa using c2)] at k
   exact k h7 (RunS.drp (RunS.none H7))
 rw [if_neg c] at k
 refine Wa3 (λc=>?_) (λc=>?_)
 ·rw [if_pos c] at k
  refine Wa0 (Wd7 H1 λh2 o2=>?_)
  have H2:=RunS.old H1 o2
  refine ss H2 ?_
  refine Wa0 (Wg1 H2 (Wd1 P _ _) O.st λh3 H3 u3=>?_)
  refine ss H3 ?_
  refine Wa0 (Wh8 u3 ?_)
  refine ss H3 ?_
  refine RunS.stR (i:=2) H3 rfl (Wi9 _) λh4 H4=>?_
  try simp +decide only [Wb9,bsx,Nat.reduceAdd,Int.reduceLE,Int.reduceLT,Int.reduceToNat,rsx,g_s,Wa8,RunS.al H4]
  refine RunS.stP H4 λh5 H5=>?_
  try simp +decide only [Wb9,bsx,Nat.reduceAdd,Int.reduceLE,Int.reduceLT,Int.reduceToNat,rsx,g_s,Wa8,RunS.al H5]
  refine Wa0 (Wp3 u3 ?_)
  refine ss H5 ?_
  refine Wb6 (λc2=>?_) (λc2=>?_)
  ·rw [if_pos c2] at k
   refine Wa0 (Wh8 u3 ?_)
   refine ss H5 ?_
   refine RunS.stR (i:=1) H5 rfl (Wi9 _) λh6 H6=>?_
   try simp +decide only [Wb9,bsx,Nat.reduceAdd,Int.reduceLE,Int.reduceLT,Int.reduceToNat,rsx,g_s,Wa8,RunS.al H6]
   exact RunS.stP H6 λh90 H90=>k h90 (RunS.drp (RunS.none H90))
  ·rw [if_neg (by rw [c2];simp)] at k
   exact k h5 (RunS.drp (RunS.none H5))
 rw [if_neg c] at k
 refine Wa3 (λc=>?_) (λc=>?_)
 ·rw [if_pos c] at k
  have hd:=O.fr
  exact Wa0 (WE8 H1 [x.f.g 1] rfl (Wm7 (B.g 1)) rfl (by omega) λh4 b' o' _ _ H4=>k h4 (RunS.drp (RunS.none H4)))
 rw [if_neg c] at k
 refine Wa3 (λc=>?_) (λc=>?_)
 ·rw [if_pos c] at k
  refine Wa0 (Wd7 H1 λh2 o2=>?_)
  have H2:=RunS.old H1 o2
  refine ss H2 ?_
  refine Wa0 (Wm6 H2 (Wd1 P _ _) (B.g 0) O.st λh3 H3=>?_)
  refine ss H3 ?_
  exact RunS.stP H3 λh90 H90=>k h90 (RunS.drp (RunS.none H90))
 rw [if_neg c] at k
 refine Wa3 (λc=>?_) (λc=>?_)
 ·rw [if_pos c] at k
  have hd:=O.fr
  refine Wa0 (Wh8 (B.g 0) ?_)
  refine ss H1 ?_
  exact Wa0 (WE8 H1 [Wg8 (x.f.g 0),x.f.g 2] rfl (Yd4 (Wi9 _) (B.g 2)) rfl (by omega) λh4 b' o' _ _ H4=>k h4 (RunS.drp (RunS.none H4)))
 rw [if_neg c] at k
 have hd:=O.fr
 exact Wa0 (Ws9 H1 U0 (by omega) λh8 b' o' H8=>k h8 (RunS.drp (RunS.none H8)))
theorem Yo7 (H:Sat h (RunS M T tv (some (b,o)) x R)) (O:Ok x) (k:∀h',Sat h' (RunS M T tv none (WH7 x) R)→K (.tuple #[]) h') :
  Wa5 Tryz.prog 55 #[rV M T b o] h K:=by
 refine call55 ?_
 unfold F55 g55 cf ce bd lP lI nP da3
 have B:=RunS.fB H
 have P:=RunS.pl H
 unfold WH7 at k
 dsimp only at k
 have H1:=RunS.new H (.cells #[mP M,mP T,fP b o] 137);generalize h.push (.cells #[mP M,mP T,fP b o] 137)=h1 at *;generalize h.size=N at *
 refine ss H1 ?_
 refine Wa3 (λc=>?_) (λc=>?_)
 ·rw [if_pos c] at k
  refine Wa0 (Zx6 H1 (by decide) O.st λh2 H2 u2=>?_)
  refine ss H2 ?_
  exact RunS.stP H2 λh90 H90=>k h90 (RunS.drp (RunS.none H90))
 rw [if_neg c] at k
 refine Wa3 (λc=>?_) (λc=>?_)
 ·rw [if_pos c] at k
  refine Wa3 (λc2=>?_) (λc2=>?_)
  ·rw [if_pos c2] at k
   exact Wa0 (Y42 H1 Args.none (by omega) λh2 H2=>k h2 (RunS.drp H2))
  rw [if_neg c2] at k
  refine Wa0 (Wd7 H1 λh2 o2=>?_)
  have H2:=RunS.old H1 o2
  refine ss H2 ?_
  refine Wa0 (Wg1 H2 (Wd1 P _ _) O.st λh3 H3 u3=>?_)
  refine ss H3 ?_
  refine Wa0 (Wh8 u3 ?_)
  refine ss H3 ?_
  refine RunS.stR (i:=2) H3 rfl (Wi9 _) λh4 H4=>?_
  try simp +decide only [Wb9,bsx,Nat.reduceAdd,Int.reduceLE,Int.reduceLT,Int.reduceToNat,rsx,g_s,Wa8,RunS.al H4]
  exact RunS.stP H4 λh90 H90=>k h90 (RunS.drp (RunS.none H90))
 rw [if_neg c] at k
 refine RunS.stR (i:=0) H1 rfl (B.g 2) λh2 H2=>?_
 refine ss H2 ?_
 have hd:=O.fr
 have l1:=Wr8 x 0 (x.f.g 2)
 exact Wa0 (WE8 H2 [x.f.g 0] rfl (Wm7 (B.g 0)) rfl (by omega) λh4 b' o' _ _ H4=>k h4 (RunS.drp (RunS.none H4)))
theorem WE9 (H:Sat h (RunS M T tv (some (b,o)) x R)) (k:∀h',Sat h' (RunS M T tv none (Wz2 x) R)→K (.tuple #[]) h') :
  Wa5 Tryz.prog 117 #[rV M T b o] h K:=by
 refine call117 ?_
 unfold F117 g117 bd lP lI nP
 unfold Wz2 at k
 have H1:=RunS.new H (.cells #[mP M,mP T,fP b o] 138);generalize h.push (.cells #[mP M,mP T,fP b o] 138)=h1 at *;generalize h.size=N at *
 refine ss H1 ?_
 refine RunS.stR (i:=2) H1 rfl (Wj8 _) λh2 H2=>?_
 refine ss H2 ?_
 exact RunS.stP H2 λh3 H3=>k h3 (RunS.drp (RunS.none H3))
theorem Yo8 (H:Sat h (RunS M T tv (some (b,o)) x R)) (O:Ok x) (k:∀h',Sat h' (RunS M T tv none (WH8 x) R)→K (.tuple #[]) h') :
  Wa5 Tryz.prog 119 #[rV M T b o] h K:=by
 refine call119 ?_
 unfold F119 g119 cf ce bd lP lI nP da3 dl3
 have B:=RunS.fB H
 have P:=RunS.pl H
 unfold WH8 at k
 dsimp only at k
 have H1:=RunS.new H (.cells #[mP M,mP T,fP b o] 138);generalize h.push (.cells #[mP M,mP T,fP b o] 138)=h1 at *;generalize h.size=N at *
 refine ss H1 ?_
 refine Wa3 (λc=>?_) (λc=>?_)
 ·rw [if_pos c] at k
  refine ⟨λvs h'=>∃(d:Bool) (y:Run),vs = [.bool d,.bool d]∧Sat h' (RunS M T tv (some (b,o)) y (pt N (.cells #[mP M,mP T,fP b o] 138)*R))∧y.f=x.f∧∀h'',Sat h'' (RunS M T tv none (if d then y.pc 5 else if x.f.g 4=Wg8 (x.f.g 3) then Wz2 y else y.pc 6) R)→K (.tuple #[]) h'',?_,?_⟩
  ·refine Wa3 (λc2=>?_) (λc2=>?_)
   ·rw [if_pos c2] at k
    exact ⟨true,x,rfl,H1,rfl,k⟩
   rw [if_neg c2] at k
   refine Wa0 (Wd7 H1 λh2 o2=>?_)
   have H2:=RunS.old H1 o2
   refine ss H2 ?_
   refine Wa0 (Wg1 H2 (Wd1 P _ _) O.st λh3 H3 u3=>?_)
   refine ss H3 ?_
   refine Wa0 (Wp3 u3 ?_)
   refine ss H3 ?_
   exact ⟨_,_,rfl,H3,rfl,k⟩
  rintro v29 v30 g31 h32 ⟨d,y,e,H3,ef,k⟩
  cases e
  try simp +decide only [Wb9,bsx,Nat.reduceAdd,Int.reduceLE,Int.reduceLT,Int.reduceToNat,rsx,g_s,Wa8,RunS.al H3,ef]
  cases d
  ·simp only [Bool.false_eq_true,if_false] at k
   try simp +decide only [Wb9,bsx,Nat.reduceAdd,Int.reduceLE,Int.reduceLT,Int.reduceToNat,rsx,g_s,Wa8,RunS.al H3,ef]
   refine Wa0 (Wh8 (B.g 3) ?_)
   try simp +decide only [Wb9,bsx,Nat.reduceAdd,Int.reduceLE,Int.reduceLT,Int.reduceToNat,rsx,g_s,Wa8,RunS.al H3,ef]
   refine Wa3 (λc2=>?_) (λc2=>?_)
   ·rw [if_pos c2] at k
    exact Wa0 (WE9 H3 λh4 H4=>k h4 (RunS.drp H4))
   ·rw [if_neg c2] at k
    exact RunS.stP H3 λh4 H4=>k h4 (RunS.drp (RunS.none H4))
  ·exact RunS.stP H3 λh4 H4=>k h4 (RunS.drp (RunS.none H4))
 rw [if_neg c] at k
 refine Wa3 (λc=>?_) (λc=>?_)
 ·rw [if_pos c] at k
  refine Wa0 (Wd7 H1 λh2 o2=>?_)
  have H2:=RunS.old H1 o2
  refine ss H2 ?_
  refine Wa0 (Wg1 H2 (Wd1 P _ _) O.st λh3 H3 u3=>?_)
  refine ss H3 ?_
  refine Wa0 (Wh8 u3 ?_)
  refine ss H3 ?_
  refine RunS.stR (i:=4) H3 rfl (Wi9 _) λh4 H4=>?_
  try simp +decide only [Wb9,bsx,Nat.reduceAdd,Int.reduceLE,Int.reduceLT,Int.reduceToNat,rsx,g_s,Wa8,RunS.al H4]
  refine RunS.stP H4 λh5 H5=>?_
  try simp +decide only [Wb9,bsx,Nat.reduceAdd,Int.reduceLE,Int.reduceLT,Int.reduceToNat,rsx,g_s,Wa8,RunS.al H5,B.len]
  refine Wa3 (λc2=>?_) (λc2=>?_)
  ·rw [if_pos c2] at k
   exact RunS.stP H5 λh90 H90=>k h90 (RunS.drp (RunS.none H90))
  ·rw [if_neg c2] at k
   exact k h5 (RunS.drp (RunS.none H5))
 rw [if_neg c] at k
 refine Wa0 (Wd7 H1 λh2 o2=>?_)
 have H2:=RunS.old H1 o2
 refine ss H2 ?_
 refine Wa0 (Wm6 H2 (Wd1 P _ _) (B.g 3) O.st λh3 H3=>?_)
 refine ss H3 ?_
 refine Wb6 (λc2=>?_) (λc2=>?_)
 ·rw [if_pos c2] at k
  exact Wa0 (WE9 H3 λh4 H4=>k h4 (RunS.drp H4))
 ·rw [if_neg (by rw [c2];simp)] at k
  exact RunS.stP H3 λh90 H90=>k h90 (RunS.drp (RunS.none H90))
theorem Yo9 (H:Sat h (RunS M T tv (some (b,o)) x R)) (O:Ok x) (k:∀h',Sat h' (RunS M T tv none (WH9 x) R)→K (.tuple #[]) h') :
  Wa5 Tryz.prog 56 #[rV M T b o] h K:=by
 refine call56 ?_
 unfold F56 g56 cf ce bd lP lI nP da3 de7 Wm8 dl3
 have B:=RunS.fB H
 have P:=RunS.pl H
 unfold WH9 at k
 dsimp only at k
 have H1:=RunS.new H (.cells #[mP M,mP T,fP b o] 138);generalize h.push (.cells #[mP M,mP T,fP b o] 138)=h1 at *;generalize h.size=N at *
 refine ss H1 ?_
 refine Wa3 (λc=>?_) (λc=>?_)
 ·rw [if_pos c] at k
  refine Wa0 (Wg1 H1 (by decide) O.st λh2 H2 u2=>?_)
  refine ss H2 ?_
  refine RunS.stR (i:=1) H2 rfl u2 λh3 H3=>?_
  refine ss H3 ?_
  refine Wa0 (Wr1 H3 λh4 o4=>WE0 ?_)
  have H4:=RunS.old H3 o4
  try simp +decide only [Wb9,bsx,Nat.reduceAdd,Int.reduceLE,Int.reduceLT,Int.reduceToNat,rsx,g_s,Wa8,RunS.al H4]
  refine Wa0 (Wh2 λh5 o5=>cf7 ?_)
  have H5:=RunS.old H4 o5
  refine ss H5 ?_
  refine RunS.stR (i:=2) H5 rfl (Wj8 _) λh6 H6=>?_
  try simp +decide only [Wb9,bsx,Nat.reduceAdd,Int.reduceLE,Int.reduceLT,Int.reduceToNat,rsx,g_s,Wa8,RunS.al H6]
  exact RunS.stP H6 λh90 H90=>k h90 (RunS.drp (RunS.none H90))
 rw [if_neg c] at k
 refine Wa3 (λc=>?_) (λc=>?_)
 ·rw [if_pos c] at k
  refine Wa3 (λc2=>?_) (λc2=>?_)
  ·rw [if_pos c2] at k
   exact Wa0 (Y42 H1 Args.none (by omega) λh2 H2=>k h2 (RunS.drp H2))
  rw [if_neg c2] at k
  refine Wa0 (Wd7 H1 λh2 o2=>?_)
  have H2:=RunS.old H1 o2
  refine ss H2 ?_
  refine Wa0 (Wg1 H2 (Wd1 P _ _) O.st λh3 H3 u3=>?_)
  refine ss H3 ?_
  refine RunS.stR (i:=3) H3 rfl u3 λh4 H4=>?_
  try simp +decide only [Wb9,bsx,Nat.reduceAdd,Int.reduceLE,Int.reduceLT,Int.reduceToNat,rsx,g_s,Wa8,RunS.al H4,B.len]
  refine Wa0 (Wh8 u3 ?_)
  refine ss H4 ?_
  refine RunS.stR (i:=4) H4 rfl (Wi9 _) λh5 H5=>?_
  try simp +decide only [Wb9,bsx,Nat.reduceAdd,Int.reduceLE,Int.reduceLT,Int.reduceToNat,rsx,g_s,Wa8,RunS.al H5]
  refine RunS.stP H5 λh6 H6=>?_
  try simp +decide only [Wb9,bsx,Nat.reduceAdd,Int.reduceLE,Int.reduceLT,Int.reduceToNat,rsx,g_s,Wa8,RunS.al H6,B.len]
  refine Wa3 (λc3=>?_) (λc3=>?_)
  ·rw [if_pos c3] at k
   exact Wa0 (WE9 H6 λh7 H7=>k h7 (RunS.drp H7))
  ·rw [if_neg c3] at k
   exact k h6 (RunS.drp (RunS.none H6))
 rw [if_neg c] at k
 refine Wa3 (λc=>?_) (λc=>?_)
 ·rw [if_pos c] at k
  refine Wa0 (WM8 H1 O (B.g 5) (B.g 4) λh2 H2=>?_)
  refine ss H2 ?_
  refine RunS.stR (i:=5) H2 rfl (Wj8 _) λh3 H3=>?_
  try simp +decide only [Wb9,bsx,Nat.reduceAdd,Int.reduceLE,Int.reduceLT,Int.reduceToNat,rsx,g_s,Wa8,RunS.al H3]
  exact RunS.stP H3 λh90 H90=>k h90 (RunS.drp (RunS.none H90))
 rw [if_neg c] at k
 refine Wa3 (λc=>?_) (λc=>?_)
 ·rw [if_pos c] at k
  refine RunS.stP H1 λh2 H2=>?_
  refine ss H2 ?_
  refine Wa0 (Wg1 H2 (by decide) O.st λh3 H3 u3=>?_)
  refine ss H3 ?_
  refine Wb6 (λc2=>?_) (λc2=>?_)
  ·rw [if_pos (bne_iff_ne.1 c2)] at k
   exact RunS.stP H3 λh5 H5=>k h5 (RunS.drp (RunS.none H5))
  ·rw [if_neg (λhh=>hh (bne_eq_false_iff_eq.1 c2))] at k
   exact k h3 (RunS.drp (RunS.none H3))
 rw [if_neg c] at k
 exact Wa0 (Yo8 H1 O λh2 H2=>k h2 (RunS.drp H2))
theorem Wm1 (H:Sat h (RunS M T tv (some (b,o)) x R)) (k:∀h',Old h.size h h'→K (.int .u64 (Wg8 (x.f.g 5))) h') :
  Wa5 Tryz.prog 196 #[rV M T b o] h K:=by
 refine call196 ?_
 unfold F196 g196 cf bd lP lI nP
 have B:=RunS.fB H
 have oo:Old h.size h (h.push (.cells #[mP M,mP T,fP b o] 139)):=(Old.refl _ _).push _ (Nat.le_refl _)
 have H1:=RunS.new H (.cells #[mP M,mP T,fP b o] 139);generalize h.push (.cells #[mP M,mP T,fP b o] 139)=h1 at *;generalize h.size=N at *
 refine ss H1 ?_
 refine Wa0 (Wh8 (B.g 5) ?_)
 refine sb ?_
 exact k h1 oo
theorem Yp0 (H:Sat h (RunS M T tv (some (b,o)) x R)) (O:Ok x) (k:∀h',Sat h' (RunS M T tv none (WA2 x) R)→K (.tuple #[]) h') :
  Wa5 Tryz.prog 120 #[rV M T b o] h K:=by
 refine call120 ?_
 unfold F120 g120 cf ce bd lP lI nP da3 dl3
 have B:=RunS.fB H
 have P:=RunS.pl H
 unfold WA2 at k
 dsimp only at k
 have H1:=RunS.new H (.cells #[mP M,mP T,fP b o] 139);generalize h.push (.cells #[mP M,mP T,fP b o] 139)=h1 at *;generalize h.size=N at *
 refine ss H1 ?_
 refine Wa3 (λc=>?_) (λc=>?_)
 ·rw [if_pos c] at k
  refine Wa0 (Wg1 H1 (by decide) O.st λh2 H2 u2=>?_)
  refine ss H2 ?_
  refine RunS.stR (i:=0) H2 rfl u2 λh3 H3=>?_
  try simp +decide only [Wb9,bsx,Nat.reduceAdd,Int.reduceLE,Int.reduceLT,Int.reduceToNat,rsx,g_s,Wa8,RunS.al H3]
  refine RunS.stR (i:=2) H3 rfl (U.lit rfl) λh4 H4=>?_
  try simp +decide only [Wb9,bsx,Nat.reduceAdd,Int.reduceLE,Int.reduceLT,Int.reduceToNat,rsx,g_s,Wa8,RunS.al H4]
  refine RunS.stR (i:=3) H4 rfl U0 λh5 H5=>?_
  try simp +decide only [Wb9,bsx,Nat.reduceAdd,Int.reduceLE,Int.reduceLT,Int.reduceToNat,rsx,g_s,Wa8,RunS.al H5]
  refine RunS.stR (i:=4) H5 rfl U0 λh6 H6=>?_
  try simp +decide only [Wb9,bsx,Nat.reduceAdd,Int.reduceLE,Int.reduceLT,Int.reduceToNat,rsx,g_s,Wa8,RunS.al H6]
  exact RunS.stP H6 λh90 H90=>k h90 (RunS.drp (RunS.none H90))
 rw [if_neg c] at k
 refine Wa3 (λc=>?_) (λc=>?_)
 ·rw [if_pos c] at k
  refine Wa0 (Wd7 H1 λh2 o2=>?_)
  have H2:=RunS.old H1 o2
  refine ss H2 ?_
  refine Wa0 (Wg1 H2 (Wd1 P _ _) O.st λh3 H3 u3=>?_)
  refine ss H3 ?_
  refine RunS.stR (i:=1) H3 rfl u3 λh4 H4=>?_
  try simp +decide only [Wb9,bsx,Nat.reduceAdd,Int.reduceLE,Int.reduceLT,Int.reduceToNat,rsx,g_s,Wa8,RunS.al H4,B.len]
  refine RunS.stR (i:=5) H4 rfl u3 λh5 H5=>?_
  try simp +decide only [Wb9,bsx,Nat.reduceAdd,Int.reduceLE,Int.reduceLT,Int.reduceToNat,rsx,g_s,Wa8,RunS.al H5]
  exact RunS.stP H5 λh90 H90=>k h90 (RunS.drp (RunS.none H90))
 rw [if_neg c] at k
 refine Wa3 (λc=>?_) (λc=>?_)
 ·rw [if_pos c] at k
  refine RunS.stP H1 λh2 H2=>?_
  refine ss H2 ?_
  refine Wa0 (Wm1 H2 λh3 o3=>?_)
  have H3:=RunS.old H2 o3
  refine ss H3 ?_
  have hd:=O.fr
  have l1:=WD5 x 3
  refine Wa3 (λc2=>?_) (λc2=>?_)
  ·rw [if_pos c2] at k
   exact Wa0 (Ws9 H3 (U.lit rfl) (by omega) λh8 b' o' H8=>k h8 (RunS.drp (RunS.none H8)))
  ·rw [if_neg c2] at k
   exact k h3 (RunS.drp (RunS.none H3))
 rw [if_neg c] at k
 refine Wa3 (λc=>?_) (λc=>?_)
 ·rw [if_pos c] at k
  refine Wa0 (Wm1 H1 λh2 o2=>?_)
  have H2:=RunS.old H1 o2
  refine ss H2 ?_
  refine Wa0 (WM8 H2 O (B.g 3) (Wi9 _) λh3 H3=>?_)
  have ef:(x.guard (x.f.g 3) (Wg8 (x.f.g 5))).f=x.f:=rfl
  try simp +decide only [Wb9,bsx,Nat.reduceAdd,Int.reduceLE,Int.reduceLT,Int.reduceToNat,rsx,g_s,Wa8,RunS.al H3,ef]
  refine RunS.stR (i:=3) H3 rfl (Wj8 _) λh4 H4=>?_
  try simp +decide only [Wb9,bsx,Nat.reduceAdd,Int.reduceLE,Int.reduceLT,Int.reduceToNat,rsx,g_s,Wa8,RunS.al H4]
  exact RunS.stP H4 λh90 H90=>k h90 (RunS.drp (RunS.none H90))
 rw [if_neg c] at k
 refine Wa3 (λc=>?_) (λc=>?_)
 ·rw [if_pos c] at k
  refine RunS.stP H1 λh2 H2=>?_
  refine ss H2 ?_
  refine Wa0 (Wg1 H2 (by decide) O.st λh3 H3 u3=>?_)
  refine ss H3 ?_
  refine Wb6 (λc2=>?_) (λc2=>?_)
  ·rw [if_pos (bne_iff_ne.1 c2)] at k
   exact RunS.stP H3 λh5 H5=>k h5 (RunS.drp (RunS.none H5))
  ·rw [if_neg (λhh=>hh (bne_eq_false_iff_eq.1 c2))] at k
   exact k h3 (RunS.drp (RunS.none H3))
 rw [if_neg c] at k
 exact k h1 (RunS.drp (RunS.none H1))
theorem YW0 (H:Sat h (RunS M T tv (some (b,o)) x R)) (O:Ok x) (k:∀h',Sat h' (RunS M T tv none (YQ4 x) R)→K (.tuple #[]) h') :
  Wa5 Tryz.prog 121 #[rV M T b o] h K:=by
 refine call121 ?_
 unfold F121 g121 cf ce bd lP lI nP da3 dl3
 have B:=RunS.fB H
 have P:=RunS.pl H
 unfold YQ4 at k
 dsimp only at k
 have H1:=RunS.new H (.cells #[mP M,mP T,fP b o] 139);generalize h.push (.cells #[mP M,mP T,fP b o] 139)=h1 at *;generalize h.size=N at *
 refine ss H1 ?_
 refine Wa3 (λc=>?_) (λc=>?_)
 ·rw [if_pos c] at k
  refine RunS.stP H1 λh2 H2=>?_
  refine ss H2 ?_
  refine ⟨λvs h'=>∃(w:Value) (d:Bool) (y:Run),vs = [w,.bool d]∧Sat h' (RunS M T tv (some (b,o)) y (pt N (.cells #[mP M,mP T,fP b o] 139)*R))∧(∀i,y.f.g i=x.f.g i)∧∀h'',Sat h'' (RunS M T tv none (if d then y.s 4 (x.f.g 2) else y) R)→K (.tuple #[]) h'',?_,?_⟩
  ·refine Wb6 (λc2=>?_) (λc2=>?_)
   ·have c2':=bne_iff_ne.1 c2
    refine Wa3 (λc3=>?_) (λc3=>?_)
    ·rw [if_pos ⟨c2',c3⟩] at k
     refine ss H2 ?_
     refine Wa0 (Wn8 H2 (by decide) λh3 o3=>?_)
     have H3:=RunS.old H2 o3
     refine ss H3 ?_
     refine Wa0 (Wg1 H3 (Wd1 P _ _) O.st λh4 H4 u4=>?_)
     refine ss H4 ?_
     refine ⟨_,decide (((x.pc 6).load ((x.pc 6).na (x.f.g 2) 2)).1=1),_,rfl,H4,λi=>by rw [Wl4,WC9,WN6],?_⟩
     simp only [decide_eq_true_eq]
     exact k
    ·rw [if_neg (λhh=>c3 hh.2)] at k
     exact ⟨_,false,_,rfl,H2,λi=>by rw [WC9,WN6],k⟩
   ·have c2':=bne_eq_false_iff_eq.1 c2
    rw [if_neg (λhh=>hh.1 c2')] at k
    exact ⟨_,false,_,rfl,H2,λi=>by rw [WC9,WN6],k⟩
  rintro v28 v29 g30 h31 ⟨w,d,y,e,H3,eg,k⟩
  cases e
  try simp +decide only [Wb9,bsx,Nat.reduceAdd,Int.reduceLE,Int.reduceLT,Int.reduceToNat,rsx,g_s,Wa8,RunS.al H3,eg]
  cases d
  ·exact k h31 (RunS.drp (RunS.none H3))
  ·try simp +decide only [Wb9,bsx,Nat.reduceAdd,Int.reduceLE,Int.reduceLT,Int.reduceToNat,rsx,g_s,Wa8,RunS.al H3,eg]
   exact RunS.stR (i:=4) H3 rfl (B.g 2) λh4 H4=>k h4 (RunS.drp (RunS.none H4))
 rw [if_neg c] at k
 refine Wa3 (λc=>?_) (λc=>?_)
 ·rw [if_pos c] at k
  refine RunS.stP H1 λh2 H2=>?_
  refine ss H2 ?_
  refine Wa0 (Wp3 (B.g 5) ?_)
  refine ss H2 ?_
  refine Wb6 (λc2=>?_) (λc2=>?_)
  ·rw [if_pos c2,← Zm7 x 8 7] at k
   try simp +decide only [Wb9,bsx,Nat.reduceAdd,Int.reduceLE,Int.reduceLT,Int.reduceToNat,rsx,g_s,Wa8,RunS.al H2]
   refine Wa0 (Wm1 H2 λh3 o3=>?_)
   have H3:=RunS.old H2 o3
   refine ss H3 ?_
   refine RunS.stR (i:=2) H3 rfl (Wi9 _) λh4 H4=>?_
   try simp +decide only [Wb9,bsx,Nat.reduceAdd,Int.reduceLE,Int.reduceLT,Int.reduceToNat,rsx,g_s,Wa8,RunS.al H4]
   exact RunS.stP H4 λh5 H5=>k h5 (RunS.drp (RunS.none H5))
  ·rw [if_neg (by rw [c2];simp)] at k
   try simp +decide only [Wb9,bsx,Nat.reduceAdd,Int.reduceLE,Int.reduceLT,Int.reduceToNat,rsx,g_s,Wa8,RunS.al H2]
   refine Wa3 (λc3=>?_) (λc3=>?_)
   ·rw [if_pos c3,← Zu3 x 8 9] at k
    exact RunS.stP H2 λh5 H5=>k h5 (RunS.drp (RunS.none H5))
   ·rw [if_neg c3] at k
    exact k h2 (RunS.drp (RunS.none H2))
 rw [if_neg c] at k
 refine Wa3 (λc=>?_) (λc=>?_)
 ·rw [if_pos c] at k
  refine Wa0 (Wd7 H1 λh2 o2=>?_)
  have H2:=RunS.old H1 o2
  refine ss H2 ?_
  refine Wa0 (Wg1 H2 (Wd1 P _ _) O.st λh3 H3 u3=>?_)
  refine ss H3 ?_
  refine RunS.stR (i:=5) H3 rfl u3 λh4 H4=>?_
  try simp +decide only [Wb9,bsx,Nat.reduceAdd,Int.reduceLE,Int.reduceLT,Int.reduceToNat,rsx,g_s,Wa8,RunS.al H4]
  exact RunS.stP H4 λh90 H90=>k h90 (RunS.drp (RunS.none H90))
 rw [if_neg c] at k
 refine Wa3 (λc=>?_) (λc=>?_)
 ·rw [if_pos c] at k
  refine RunS.stP H1 λh2 H2=>?_
  refine ss H2 ?_
  refine Wa0 (Wd7 H2 λh3 o3=>?_)
  have H3:=RunS.old H2 o3
  refine ss H3 ?_
  refine Wa0 (Wm1 H3 λh4 o4=>?_)
  have H4:=RunS.old H3 o4
  refine ss H4 ?_
  refine Wa0 (Wm6 H4 (Wd1 P _ _) (B.g 5) O.st λh5 H5=>?_)
  have ef:((x.pc 9).swingM ((x.pc 9).nlink (x.f.g 2) 0) (x.f.g 5) (Wg8 (x.f.g 5)) true).2.f=(x.pc 9).f:=rfl
  try simp +decide only [Wb9,bsx,Nat.reduceAdd,Int.reduceLE,Int.reduceLT,Int.reduceToNat,rsx,g_s,Wa8,RunS.al H5,ef]
  refine Wb6 (λc2=>?_) (λc2=>?_)
  ·rw [if_neg (by simpa using c2)] at k
   refine RunS.stR (i:=3) H5 rfl (Wj8 _) λh6 H6=>?_
   try simp +decide only [Wb9,bsx,Nat.reduceAdd,Int.reduceLE,Int.reduceLT,Int.reduceToNat,rsx,g_s,Wa8,RunS.al H6]
   exact RunS.stP H6 λh7 H7=>k h7 (RunS.drp (RunS.none H7))
  ·rw [if_pos (by simpa using c2)] at k
   exact k h5 (RunS.drp (RunS.none H5))
 rw [if_neg c] at k
 exact k h1 (RunS.drp (RunS.none H1))
theorem Yp1 (H:Sat h (RunS M T tv (some (b,o)) x R)) (O:Ok x) (k:∀h',Sat h' (RunS M T tv none (WA3 x) R)→K (.tuple #[]) h') :
  Wa5 Tryz.prog 122 #[rV M T b o] h K:=by
 refine call122 ?_
 unfold F122 g122 cf ce bd lP lI nP da3 de7 Wm8 dl3
 have B:=RunS.fB H
 have P:=RunS.pl H
 unfold WA3 at k
 dsimp only at k
 have H1:=RunS.new H (.cells #[mP M,mP T,fP b o] 139);generalize h.push (.cells #[mP M,mP T,fP b o] 139)=h1 at *;generalize h.size=N at *
 refine ss H1 ?_
 refine Wa3 (λc=>?_) (λc=>?_)
 ·rw [if_pos c] at k
  refine Wa0 (Wm1 H1 λh2 o2=>?_)
  have H2:=RunS.old H1 o2
  refine ss H2 ?_
  refine Wa0 (Wn8 H2 (by decide) λh3 o3=>?_)
  have H3:=RunS.old H2 o3
  refine ss H3 ?_
  refine Wa0 (Wg1 H3 (Wd1 P _ _) O.st λh4 H4 u4=>?_)
  refine ss H4 ?_
  refine RunS.stR (i:=6) H4 rfl u4 λh5 H5=>?_
  try simp +decide only [Wb9,bsx,Nat.reduceAdd,Int.reduceLE,Int.reduceLT,Int.reduceToNat,rsx,g_s,Wa8,RunS.al H5]
  exact RunS.stP H5 λh90 H90=>k h90 (RunS.drp (RunS.none H90))
 rw [if_neg c] at k
 refine Wa3 (λc=>?_) (λc=>?_)
 ·rw [if_pos c] at k
  refine Wa0 (Wm1 H1 λh2 o2=>?_)
  have H2:=RunS.old H1 o2
  refine ss H2 ?_
  refine Wa0 (Wn8 H2 (by decide) λh3 o3=>?_)
  have H3:=RunS.old H2 o3
  refine ss H3 ?_
  refine Wa0 (Wg1 H3 (Wd1 P _ _) O.st λh4 H4 u4=>?_)
  refine ss H4 ?_
  refine Wa0 (Ya8 u4 ?_)
  try simp +decide only [Wb9,bsx,Nat.reduceAdd,Int.reduceLE,Int.reduceLT,Int.reduceToNat,rsx,g_s,Wa8,RunS.al H4,Yy2 u4]
  refine RunS.stR (i:=8) H4 rfl (Yy3 u4) λh5 H5=>?_
  try simp +decide only [Wb9,bsx,Nat.reduceAdd,Int.reduceLE,Int.reduceLT,Int.reduceToNat,rsx,g_s,Wa8,RunS.al H5]
  generalize hy:((x.load (x.na (Wg8 (x.f.g 5)) 0)).2.s 8 (WG9 (x.load (x.na (Wg8 (x.f.g 5)) 0)).1)).pc 11=y at k
  have hyg:∀i,¬ 8=i→y.f.g i=x.f.g i:=λi hi=>by rw [← hy,WC9,WN6,f_s,Wa8 _ hi,Wl4]
  have hyn:y.f.fn=x.f.fn:=by rw [← hy,WC9,Wr9,f_s,WS0,Wl4]
  refine RunS.stP H5 λh6 H6=>?_
  rw [hy] at H6
  have e3:=hyg 3 (by decide)
  have e4:=hyg 4 (by decide)
  have e5:=hyg 5 (by decide)
  refine ⟨λvs h'=>∃y2:Run,Sat h' (RunS M T tv (some (b,o)) y2 (pt N (.cells #[mP M,mP T,fP b o] 139)*R))∧(∀i,y2.f.g i=y.f.g i)∧∀h'',Sat h'' (RunS M T tv none (if x.f.g 4=0 then y2.s 4 (Wg8 (x.f.g 5)) else y2) R)→K (.tuple #[]) h'',?_,?_⟩
  ·refine ⟨λvs h'=>∃d:Bool,vs = [.bool d]∧Sat h' (RunS M T tv (some (b,o)) y (pt N (.cells #[mP M,mP T,fP b o] 139)*R))∧(d=true↔(x.f.fn=33∨x.f.g 3 < Mod.u64 y.m.p.c.batch)),?_,?_⟩
   ·try simp +decide only [Wb9,bsx,Nat.reduceAdd,Int.reduceLE,Int.reduceLT,Int.reduceToNat,rsx,g_s,Wa8,RunS.al H6,hyn,e3]
    refine Wa3 (λc2=>?_) (λc2=>?_)
    ·exact ⟨true,rfl,H6,by simp [c2]⟩
    ·try simp +decide only [Wb9,bsx,Nat.reduceAdd,Int.reduceLE,Int.reduceLT,Int.reduceToNat,rsx,g_s,Wa8,RunS.al H6,hyn,e3]
     refine Wa0 (Wr1 H6 λh7 o7=>WE0 ?_)
     have H7:=RunS.old H6 o7
     try simp +decide only [Wb9,bsx,Nat.reduceAdd,Int.reduceLE,Int.reduceLT,Int.reduceToNat,rsx,g_s,Wa8,RunS.al H7,e3]
     refine Wa0 (Wh2 λh8 o8=>cf7 ?_)
     have H8:=RunS.old H7 o8
     try simp +decide only [Wb9,bsx,Nat.reduceAdd,Int.reduceLE,Int.reduceLT,Int.reduceToNat,rsx,g_s,Wa8,RunS.al H8,e3]
     exact ⟨_,rfl,H8,by simp [c2]⟩
   rintro v89 g90 h91 ⟨d,e,H7,hd⟩
   cases e
   refine ss H7 ?_
   refine Wb6 (λc2=>?_) (λc2=>?_)
   ·rw [if_pos (show x.f.fn=33∨x.f.g 3 < Mod.u64 y.m.p.c.batch from hd.1 c2)] at k
    exact RunS.stP H7 λh8 H8=>⟨_,H8,λi=>by rw [WC9,WN6],k⟩
   ·have hn:¬ (x.f.fn=33∨x.f.g 3 < Mod.u64 y.m.p.c.batch):=λhh=>by rw [hd.2 hh] at c2;cases c2
    rw [if_neg hn] at k
    exact ⟨_,H7,λi=>rfl,k⟩
  rintro g95 h96 ⟨y2,H7,eg,k⟩
  have f4:=(eg 4).trans e4
  have f5:=(eg 5).trans e5
  try simp +decide only [Wb9,bsx,Nat.reduceAdd,Int.reduceLE,Int.reduceLT,Int.reduceToNat,rsx,g_s,Wa8,RunS.al H7,f4,f5]
  refine Wa3 (λc2=>?_) (λc2=>?_)
  ·rw [if_pos c2] at k
   try simp +decide only [Wb9,bsx,Nat.reduceAdd,Int.reduceLE,Int.reduceLT,Int.reduceToNat,rsx,g_s,Wa8,RunS.al H7,f4,f5]
   refine Wa0 (Wm1 H7 λh8 o8=>?_)
   have H8:=RunS.old H7 o8
   try simp +decide only [Wb9,bsx,Nat.reduceAdd,Int.reduceLE,Int.reduceLT,Int.reduceToNat,rsx,g_s,Wa8,RunS.al H8,f4,f5]
   exact RunS.stR (i:=4) H8 rfl (Wi9 _) λh9 H9=>k h9 (RunS.drp (RunS.none H9))
  ·rw [if_neg c2] at k
   exact k h96 (RunS.drp (RunS.none H7))
 rw [if_neg c] at k
 exact k h1 (RunS.drp (RunS.none H1))
theorem YF8 (H:Sat h (RunS M T tv (some (b,o)) x R)) (O:Ok x) (k:∀h',Sat h' (RunS M T tv none (WR3 x) R)→K (.tuple #[]) h') :
  Wa5 Tryz.prog 123 #[rV M T b o] h K:=by
 refine call123 ?_
 unfold F123 g123 cf ce bd lP lI nP da3
 have B:=RunS.fB H
 have P:=RunS.pl H
 unfold WR3 at k
 dsimp only at k
 have H1:=RunS.new H (.cells #[mP M,mP T,fP b o] 139);generalize h.push (.cells #[mP M,mP T,fP b o] 139)=h1 at *;generalize h.size=N at *
 refine ss H1 ?_
 refine Wa3 (λc=>?_) (λc=>?_)
 ·rw [if_pos c] at k
  refine RunS.stP H1 λh2 H2=>?_
  refine ss H2 ?_
  refine Wa0 (Wd7 H2 λh3 o3=>?_)
  have H3:=RunS.old H2 o3
  refine ss H3 ?_
  refine Wa0 (Wm6 H3 (Wd1 P _ _) (B.g 1) O.st λh5 H5=>?_)
  refine ss H5 ?_
  refine Wb6 (λc2=>?_) (λc2=>?_)
  ·rw [if_pos c2] at k
   exact RunS.stP H5 λh90 H90=>k h90 (RunS.drp (RunS.none H90))
  ·rw [if_neg (by rw [c2];simp)] at k
   exact k h5 (RunS.drp (RunS.none H5))
 rw [if_neg c] at k
 refine Wa3 (λc=>?_) (λc=>?_)
 ·rw [if_pos c] at k
  have hd:=O.fr
  exact Wa0 (WE8 H1 [0] rfl (Wm7 U0) rfl (by omega) λh4 b' o' _ _ H4=>k h4 (RunS.drp (RunS.none H4)))
 rw [if_neg c] at k
 refine Wa3 (λc=>?_) (λc=>?_)
 ·rw [if_pos c] at k
  have hd:=O.fr
  refine Wa0 (Wh8 (B.g 1) ?_)
  refine ss H1 ?_
  exact Wa0 (WE8 H1 [Wg8 (x.f.g 1),x.f.g 4] rfl (Yd4 (Wi9 _) (B.g 4)) rfl (by omega) λh4 b' o' _ _ H4=>k h4 (RunS.drp (RunS.none H4)))
 rw [if_neg c] at k
 have hd:=O.fr
 exact Wa0 (W01 H1 (U.lit rfl) (B.g 8) (B.g 6) (by omega) λh5 b' o' H5=>k h5 (RunS.drp (RunS.none H5)))
theorem Yp2 (H:Sat h (RunS M T tv (some (b,o)) x R)) (O:Ok x) (k:∀h',Sat h' (RunS M T tv none (WA4 x) R)→K (.tuple #[]) h') :
  Wa5 Tryz.prog 57 #[rV M T b o] h K:=by
 refine call57 ?_
 unfold F57 g57 cf lP lI nP dl3
 have B:=RunS.fB H
 have P:=RunS.pl H
 unfold WA4 at k
 have H1:=RunS.new H (.cells #[mP M,mP T,fP b o] 139);generalize h.push (.cells #[mP M,mP T,fP b o] 139)=h1 at *;generalize h.size=N at *
 refine ss H1 ?_
 refine Wa3 (λc=>?_) (λc=>?_)
 ·rw [if_pos c] at k
  exact Wa0 (Yp0 H1 O λh2 H2=>k h2 (RunS.drp H2))
 rw [if_neg c] at k
 refine Wa3 (λc=>?_) (λc=>?_)
 ·rw [if_pos c] at k
  exact Wa0 (YW0 H1 O λh2 H2=>k h2 (RunS.drp H2))
 rw [if_neg c] at k
 refine Wa3 (λc=>?_) (λc=>?_)
 ·rw [if_pos c] at k
  exact Wa0 (Yp1 H1 O λh2 H2=>k h2 (RunS.drp H2))
 rw [if_neg c] at k
 exact Wa0 (YF8 H1 O λh2 H2=>k h2 (RunS.drp H2))
theorem W54 (H:Sat h (RunS M T tv fo x R)) (O:Ok x) (hf:LOk x) (hS:x.f.fn=31→ZA4 x) (k:∀h',Sat h' (RunS M T tv none (Wp6 x) R)→K (.tuple #[]) h') :
  Wa5 Tryz.prog 27 #[mP M,mP T] h K:=by
 refine call27 ?_
 unfold F27 cf bd lI nP dl3
 unfold Wp6 at k
 dsimp only at k
 refine Wa0 (Y89 H (λe=>?_) λb o hne _ H1=>?_)
 ·rw [if_pos e] at k
  refine sb ?_
  refine ⟨λvs h'=>vs = [.bool true]∧h' = h,⟨rfl,rfl⟩,?_⟩
  rintro v4 g6 h7 ⟨e,rfl⟩
  cases e
  refine sb ?_
  exact k _ (RunS.none H)
 ·rw [if_neg hne] at k
  refine sb ?_
  refine ⟨λvs h'=>vs = [.bool false]∧h' = h,⟨rfl,rfl⟩,?_⟩
  rintro v4 g6 h7 ⟨e,rfl⟩
  cases e
  have B:=RunS.fB H1
  refine sb ?_
  have H2:=RunS.new H1 (.cells #[.pointer none,.pointer none,.pointer none] 133)
  generalize h7.push (.cells #[.pointer none,.pointer none,.pointer none] 133)=h2 at *
  generalize h7.size=N at *
  refine st3 (Wd3 (vs:=[mP M,mP T,fP b o]) (RunS.loc H2) rfl (by simp [Wi3]) λh3 w=>?_)
  have H3:=RunS.wr H2 w.new w.old
  clear H2 w
  refine ss H3 ?_
  refine ⟨λvs h'=>(∃w,vs = [.bool (decide (x.f.fn < 31∨36 < x.f.fn)),w])∧h' = h3,?_,?_⟩
  ·refine Wa3 (λc=>?_) (λc=>?_)
   ·rw [decide_eq_true (p:=x.f.fn < 31∨36 < x.f.fn) (by omega)]
    exact ⟨⟨_,rfl⟩,by trivial⟩
   ·rw [show decide (x.f.fn > 36)=decide (x.f.fn < 31∨36 < x.f.fn) by rw [decide_eq_decide];omega]
    exact ⟨⟨_,rfl⟩,by trivial⟩
  rintro v18 v19 g20 h21 ⟨⟨w,e⟩,rfl⟩
  cases e
  refine ss H3 ?_
  refine Wa3 (λc=>?_) (λc=>?_)
  ·rw [if_pos c] at k
   exact Wa0 (W53 H3 O hf λh4 H4=>k h4 (RunS.drp H4))
  rw [if_neg c] at k
  refine Wa3 (λc=>?_) (λc=>?_)
  ·rw [if_pos c] at k
   exact Wa0 (Zq3 H3 [x.f.g 7,x.f.g 8,x.f.g 9] rfl (Yn3 (B.g 7) (B.g 8) (B.g 9)) rfl λh4 H4=>k h4 (RunS.drp H4))
  rw [if_neg c] at k
  refine Wa3 (λc=>?_) (λc=>?_)
  ·rw [if_pos c] at k
   exact Wa0 (Yo5 H3 O (hS c) λh4 H4=>k h4 (RunS.drp H4))
  rw [if_neg c] at k
  refine Wa3 (λc=>?_) (λc=>?_)
  ·rw [if_pos c] at k
   exact Wa0 (Yo6 H3 O λh4 H4=>k h4 (RunS.drp H4))
  rw [if_neg c] at k
  refine Wa3 (λc=>?_) (λc=>?_)
  ·rw [if_pos c] at k
   exact Wa0 (Yo7 H3 O λh4 H4=>k h4 (RunS.drp H4))
  rw [if_neg c] at k
  refine Wa3 (λc=>?_) (λc=>?_)
  ·rw [if_pos c] at k
   exact Wa0 (Yo9 H3 O λh4 H4=>k h4 (RunS.drp H4))
  rw [if_neg c] at k
  exact Wa0 (Yp2 H3 O λh4 H4=>k h4 (RunS.drp H4))
end
end
section
open Mod
theorem Yy4 {d:Run→Run}:∀ {n m:Nat} {x z w:Run},Mod.bits d n x=some z→Mod.bits d m x=some w→z=w
 | 0,0,x,z,w,h1,h2=>by
  rw [h1] at h2;exact Option.some.inj h2
 | 0,m+1,x,z,w,h1,h2=>by
  unfold Mod.bits at h1 h2
  split at h1
  ·rename_i c
   rw [if_pos c] at h2
   rw [h1] at h2;exact Option.some.inj h2
  ·cases h1
 | n+1,0,x,z,w,h1,h2=>by
  unfold Mod.bits at h1 h2
  split at h2
  ·rename_i c
   rw [if_pos c] at h1
   rw [h1] at h2;exact Option.some.inj h2
  ·cases h2
 | n+1,m+1,x,z,w,h1,h2=>by
  unfold Mod.bits at h1 h2
  split at h1
  ·rename_i c
   rw [if_pos c] at h2
   rw [h1] at h2;exact Option.some.inj h2
  ·rename_i c
   rw [if_neg c] at h2
   exact Yy4 h1 h2
open Classical in
noncomputable def WF0 (d:Run→Run) (x:Run):Run:=if h:∃z,∃n,Mod.bits d n x=some z then h.choose else x
theorem Za4 {d:Run→Run} {n:Nat} {x z:Run} (h:Mod.bits d n x=some z):WF0 d x=z:=by
 have hh:∃z,∃n,Mod.bits d n x=some z:=⟨z,n,h⟩
 unfold WF0
 rw [dif_pos hh]
 obtain ⟨m,hm⟩:=hh.choose_spec
 exact Yy4 hm h
def Wg5 (m:Mac) (k:Nat):Thr:=m.th.getD k (WO6 m.p.c)
def WU2 (t:Thr):Cl:=⟨s64 (t.ret.getD 0 0),u32 (t.ret.getD 1 0),u32 (t.ret.getD 2 0)⟩
def cl0:Cl:=⟨0,0,0⟩
def DS.enter (ins:Int) (calls:List (List Cl)) (s:DS) (k:Nat):Option DS:=
 if (Wg5 s.m k).fr = [] then
  if (calls.getD k []).length≤(s.nx.getD k 0).toNat then none
  else some ⟨s.m.setTh (s.m.th.set k ((Wg5 s.m k).push (ins+((calls.getD k []).getD (s.nx.getD k 0).toNat cl0).op) [((calls.getD k []).getD (s.nx.getD k 0).toNat cl0).key,((calls.getD k []).getD (s.nx.getD k 0).toNat cl0).val])),s.nx.set k (s.nx.getD k 0+1),s.cu.set k ((calls.getD k []).getD (s.nx.getD k 0).toNat cl0),s.ev ++ [⟨k,false,(calls.getD k []).getD (s.nx.getD k 0).toNat cl0,cl0⟩]⟩
 else some s
noncomputable def DS.go (d:Run→Run) (s:DS) (k:Nat):DS:=
 if (WF0 d ⟨s.m.quiet,Wg5 s.m k,k⟩).t.fr = [] then ⟨(WF0 d ⟨s.m.quiet,Wg5 s.m k,k⟩).m.setTh (s.m.th.set k (WF0 d ⟨s.m.quiet,Wg5 s.m k,k⟩).t),s.nx,s.cu,s.ev ++ [⟨k,true,cl0,WU2 (WF0 d ⟨s.m.quiet,Wg5 s.m k,k⟩).t⟩]⟩
 else ⟨(WF0 d ⟨s.m.quiet,Wg5 s.m k,k⟩).m.setTh (s.m.th.set k (WF0 d ⟨s.m.quiet,Wg5 s.m k,k⟩).t),s.nx,s.cu,s.ev⟩
noncomputable def DS.pick (d:Run→Run) (ins:Int) (calls:List (List Cl)) (s:DS) (k:Int):DS:=match s.enter ins calls k.toNat with
 | none=>s
 | some s1=>s1.go d k.toNat
structure YW1 (d:Run→Run) (W:Run→Prop) (ins:Int) (Inv:Nat→Mac→Prop):Prop where
 mono:∀(i:Nat) (m:Mac),Inv i m→Inv (i+1) m
 wd:∀i m,Inv i m→ZE0 m∧2 < m.mm.w.length
 push:∀(i:Nat) (m:Mac) (k:Nat) (t:Thr) (c:Cl),Inv i m→m.th[k]? = some t→t.fr = []→0≤c.op∧c.op≤2→V c.key→V c.val→Inv i (m.setTh (m.th.set k (t.push (ins+c.op) [c.key,c.val])))
 step:∀(i:Nat) (m:Mac) (k:Nat) (t:Thr),Inv i m→i < 100000→m.th[k]? = some t→t.fr≠[]→∃n z,Mod.bits d n ⟨m.quiet,t,k⟩=some z∧Zq1 d W n ⟨m.quiet,t,k⟩∧z.id=k∧z.m.th=m.th∧Inv (i+1) (z.m.setTh (m.th.set k z.t))
structure Zu4 (h:Wa1) (ca:Option Addr) (cl:Nat) (pa:Option Addr) (pl:Nat) (calls:List (List Cl)) (Wb8:List Int):Prop where
 cs:cl=calls.length
 row:∀i,i < calls.length→∃a c,(∃ad,ca=some ad∧Wa2 h (ad.add i)=some (.slice a (calls.getD i []).length c))∧Sees h a ((calls.getD i []).flatMap clc)
 ps:pl=Wb8.length
 pk:Sees h pa (Wb8.map iv)
section
variable {K:Value→Wa1→Prop} {h:Wa1} {M:Nat} {B:DB} {Ts:List Nat} {R:Hp} {d:Run→Run} {W:Run→Prop} {ins:Int} {Inv:Nat→Mac→Prop} {calls:List (List Cl)}
end
end
section
open Mod
theorem Zm8 {K:Value→Wa1→Prop} {h:Wa1} {n:Nat} (hn:n≤4096) (k:K (.slice (some ⟨h.size,0,none⟩) n n) (h.push (.cells ((List.replicate n (0:Int)).map iv).toArray 3))):Wq1 Tryz.prog 3 (n:Int) (n:Int) h K:=by
 refine Zh5 (by omega) ?_
 rw [Int.toNat_natCast]
 exact k
def Wo0 (c:Mod.Cf) (ca:Option Addr) (cl cc:Nat) (pa:Option Addr) (pl pc:Nat) (da:Option Addr) (dl dc:Nat):List Value:=[.int .i64 c.algo,.int .i64 c.threads,.int .i64 c.nodes,.int .i64 c.level,.int .i64 c.batch,.int .i64 c.probes,.int .i64 c.scan,.slice ca cl cc,.slice pa pl pc,.slice da dl dc]
section
variable {K:Value→Wa1→Prop} {h:Wa1} {M:Nat} {Ts:List Nat} {R:Hp} {d:Run→Run} {W:Run→Prop} {ins:Int} {Inv:Nat→Mac→Prop} {calls:List (List Cl)} {Wb8:List Int} {m:Mac}
end
end
end Go.Proofs.YtjjbcllndihmbaaGreat
