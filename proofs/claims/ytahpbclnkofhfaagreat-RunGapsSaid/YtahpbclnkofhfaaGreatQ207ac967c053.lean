/- Part 10 of what the proofs of this seat rest on: see the last text of the claim. -/
import Derived.Test.YtahpbclnkofhfaaGreatQ94173cae2ab8
import Derived.Test.YtahpbclnkofhfaaGreatProg
set_option linter.unusedSimpArgs false
set_option linter.unusedVariables false
set_option linter.ambiguousOpen false
set_option maxRecDepth 20000
namespace Go.Proofs.YtahpbclnkofhfaaGreat
section
set_option maxRecDepth 100000
def F65 (K:Value→Wa1→Prop) (h:Wa1) (xa xb:Option Addr):Prop:=
 (cf 105 #[.pointer xb] h λa b=>Wb1 a λa=>exI λI3=>(ifB (Option.isNone a) (I3 [.bool true] b) (I3 [.bool (Option.isNone xa)] b))∧(∀(b:Value) (c:Env) (c:Wa1),(I3 [b] c)→(asBool b λb=>ifB b (K (.tuple #[]) c) (stH (Array.push c (.cells #[.pointer none,.pointer none,.pointer none] 202)) ⟨c.size,0,none⟩ (.pointer xa) λb=>stH b ⟨c.size,1,none⟩ (.pointer xb) λb=>stH b ⟨c.size,2,none⟩ (.pointer a) λb=>exI λI11=>(nP a λd=>lI .i64 b d λd=>ifB (decide (d < 31)) (I11 [.bool true,.bool true] b) (nP a λd=>lI .i64 b d λd=>I11 [.bool (decide (d > 36)),.bool (decide (d > 36))] b))∧(∀(b d:Value) (e:Env) (e:Wa1),(I11 [b,d] e)→(asBool b λb=>ifB b (cf 115 #[.pointer xa,.pointer xb] e λb b=>K (.tuple #[]) b) (nP a λb=>lI .i64 e (Addr.add b 1) λb=>ifB (b == 90) (nP a λb=>bd 7 10 (lI .u64 e (Addr.add b 9) λb=>nP a λd=>bd 8 10 (lI .u64 e (Addr.add d 10) λd=>nP a λf=>bd 9 10 (lI .u64 e (Addr.add f 11) λf=>cf 106 #[.pointer xb,.slice (some ⟨e.size,0,none⟩) 3 3] (Array.push e (.cells #[.int .u64 b,.int .u64 d,.int .u64 f] 178)) λb b=>K (.tuple #[]) b)))) (nP a λb=>lI .i64 e b λb=>ifB (b == 31) (dl3 e c.size λb d f=>cf 116 #[.agg #[b,d,f]] e λb b=>K (.tuple #[]) b) (nP a λb=>lI .i64 e b λb=>ifB (b == 34) (dl3 e c.size λb d f=>cf 117 #[.agg #[b,d,f]] e λb b=>K (.tuple #[]) b) (nP a λb=>lI .i64 e b λb=>ifB (b == 35) (dl3 e c.size λb d f=>cf 118 #[.agg #[b,d,f]] e λb b=>K (.tuple #[]) b) (nP a λa=>lI .i64 e a λa=>ifB (a == 36) (dl3 e c.size λa b d=>cf 119 #[.agg #[a,b,d]] e λa a=>K (.tuple #[]) a) (dl3 e c.size λa b c=>cf 120 #[.agg #[a,b,c]] e λa a=>K (.tuple #[]) a))))))))))))
theorem call65 {K:Value→Wa1→Prop} {h:Wa1} {xa xb:Option Addr} (H:F65 K h xa xb):Wa5 Tryz.prog 65 #[(.pointer xa),(.pointer xb)] h K:=
 Wa4 Tryz.func65 (by kernel_rfl) (Eq.mp (by kernel_rfl) H)
def F115 (K:Value→Wa1→Prop) (h:Wa1) (xa xb:Option Addr):Prop:=
 (cf 105 #[.pointer xb] h λa b=>Wb1 a λa=>exI λI3=>(ifB (Option.isNone a) (I3 [.bool true,.bool true] b) (I3 [.bool (Option.isNone xa),.bool (Option.isNone xa)] b))∧(∀(b c:Value) (d:Env) (d:Wa1),(I3 [b,c] d)→(asBool b λb=>ifB b (K (.tuple #[]) d) (nP a λb=>lI .i64 d b λb=>ifB (b == 30) (cf 176 #[.agg #[.pointer xa,.pointer xb,.pointer a]] d λa a=>K (.tuple #[]) a) (cf 111 #[.pointer xa,.pointer xb] d λa a=>K (.tuple #[]) a)))))
theorem call115 {K:Value→Wa1→Prop} {h:Wa1} {xa xb:Option Addr} (H:F115 K h xa xb):Wa5 Tryz.prog 115 #[(.pointer xa),(.pointer xb)] h K:=
 Wa4 Tryz.func115 (by kernel_rfl) (Eq.mp (by kernel_rfl) H)
abbrev g116 (K:Value→Wa1→Prop) (h H1:Wa1):Prop:=
 (lP H1 (Addr.add ⟨h.size,0,none⟩ 2) λa=>nP a λa=>lI .i64 H1 (Addr.add a 1) λa=>ifB (decide (a≤2)) (dl3 H1 h.size λa b c=>cf 177 #[.agg #[a,b,c]] H1 λa a=>K (.tuple #[]) a) (lP H1 (Addr.add ⟨h.size,0,none⟩ 2) λa=>nP a λa=>lI .i64 H1 (Addr.add a 1) λa=>ifB (decide (a≤6)) (dl3 H1 h.size λa b c=>cf 178 #[.agg #[a,b,c]] H1 λa a=>K (.tuple #[]) a) (lP H1 (Addr.add ⟨h.size,0,none⟩ 2) λa=>nP a λa=>lI .i64 H1 (Addr.add a 1) λa=>ifB (decide (a≤10)) (dl3 H1 h.size λa b c=>cf 179 #[.agg #[a,b,c]] H1 λa a=>K (.tuple #[]) a) (lP H1 (Addr.add ⟨h.size,0,none⟩ 2) λa=>nP a λa=>lI .i64 H1 (Addr.add a 1) λa=>ifB (decide (a≤14)) (dl3 H1 h.size λa b c=>cf 180 #[.agg #[a,b,c]] H1 λa a=>K (.tuple #[]) a) (dl3 H1 h.size λa b c=>cf 181 #[.agg #[a,b,c]] H1 λa a=>K (.tuple #[]) a)))))
def F116 (K:Value→Wa1→Prop) (h:Wa1) (xa xb xc:Option Addr):Prop:=
 (g116 K h (Array.push h (.cells #[.pointer xa,.pointer xb,.pointer xc] 204)))
theorem call116 {K:Value→Wa1→Prop} {h:Wa1} {xa xb xc:Option Addr} (H:F116 K h xa xb xc):Wa5 Tryz.prog 116 #[(.agg #[(.pointer xa),(.pointer xb),(.pointer xc)])] h K:=
 Wa4 Tryz.func116 (by kernel_rfl) (Eq.mp (by kernel_rfl) H)
abbrev g117 (K:Value→Wa1→Prop) (h H1:Wa1):Prop:=
 (lP H1 (Addr.add ⟨h.size,0,none⟩ 2) λa=>nP a λb=>lI .i64 H1 (Addr.add b 1) λb=>ifB (b == 0) (ldH H1 ⟨h.size,0,none⟩ λc=>Wb1 c λd=>da3 H1 ⟨h.size,0,none⟩ λe f g=>nP a λi=>cf 182 #[.agg #[e,f,g],.int .u64 1,.int .u64 0] H1 λe f=>asInt .i64 e λe=>ce f h.size 0 c (cf 147 #[.pointer d,.int .i64 e] f λc d=>asInt .u64 c λc=>bd 0 10 (stH d (Addr.add i 2) (.int .u64 c) λc=>nP a λd=>bd 0 10 (lI .u64 c (Addr.add d 2) λd=>nP a λe=>bd 0 10 (ldH c (Addr.add e 2) λf=>asInt .u64 f λg=>nP a λi=>nP a λj=>cf 183 #[.int .u64 d] c λc d=>asInt .u64 c λc=>((Wa2 d (Addr.add e 2))=(some f))∧(cf 183 #[.int .u64 g] d λd e=>asInt .u64 d λd=>bd 1 10 (stH e (Addr.add i 3) (.int .u64 c) λc=>bd 2 10 (stH c (Addr.add j 4) (.int .u64 d) λc=>nP a λd=>stH c (Addr.add d 1) (.int .i64 1) λc=>nP a λd=>bd 0 10 (lI .u64 c (Addr.add d 2) λd=>cf 184 #[.int .u64 d] c λc d=>asBool c λc=>ifB (!c) (da3 d ⟨h.size,0,none⟩ λc e f=>cf 185 #[.agg #[c,e,f],.int .u64 0] d λc c=>K (.tuple #[]) c) (K (.tuple #[]) d)))))))))) (ifB (b == 1) (ldH H1 ⟨h.size,0,none⟩ λc=>Wb1 c λd=>da3 H1 ⟨h.size,0,none⟩ λe f g=>nP a λi=>bd 1 10 (lI .u64 H1 (Addr.add i 3) λi=>cf 182 #[.agg #[e,f,g],.int .u64 i,.int .u64 0] H1 λe f=>asInt .i64 e λe=>ce f h.size 0 c (cf 147 #[.pointer d,.int .i64 e] f λc d=>asInt .u64 c λc=>nP a λe=>cf 183 #[.int .u64 c] d λd f=>asInt .u64 d λd=>bd 2 10 (stH f (Addr.add e 4) (.int .u64 d) λd=>nP a λe=>stH d (Addr.add e 1) (.int .i64 2) λd=>cf 184 #[.int .u64 c] d λd e=>asBool d λd=>ifB d (nP a λd=>cf 183 #[.int .u64 c] e λc f=>asInt .u64 c λc=>bd 1 10 (stH f (Addr.add d 3) (.int .u64 c) λc=>nP a λd=>stH c (Addr.add d 1) (.int .i64 1) λc=>K (.tuple #[]) c)) (K (.tuple #[]) e))))) (ifB (b == 2) (da3 H1 ⟨h.size,0,none⟩ λc d e=>nP a λf=>bd 1 10 (lI .u64 H1 (Addr.add f 3) λf=>((Wa2 (Array.push H1 (.cells #[.int .u64 f] 178)) ⟨h.size,0,none⟩)=(some c))∧(((Wa2 (Array.push H1 (.cells #[.int .u64 f] 178)) (Addr.add ⟨h.size,0,none⟩ 1))=(some d))∧(((Wa2 (Array.push H1 (.cells #[.int .u64 f] 178)) (Addr.add ⟨h.size,0,none⟩ 2))=(some e))∧(cf 186 #[.agg #[c,d,e],.int .i64 3,.int .i64 36,.slice (some ⟨H1.size,0,none⟩) 1 1] (Array.push H1 (.cells #[.int .u64 f] 178)) λc c=>K (.tuple #[]) c))))) (ifB (b == 3) (da3 H1 ⟨h.size,0,none⟩ λc d e=>da3 H1 ⟨h.size,0,none⟩ λf g i=>nP a λj=>bd 0 10 (ldH H1 (Addr.add j 2) λk=>asInt .u64 k λl=>nP a λm=>bd 2 10 (ldH H1 (Addr.add m 4) λn=>asInt .u64 n λo=>cf 182 #[.agg #[f,g,i],.int .u64 1,.int .u64 0] H1 λf g=>asInt .i64 f λf=>((Wa2 g (Addr.add m 4))=(some n))∧(((Wa2 g (Addr.add j 2))=(some k))∧(ce g h.size 0 c (((Wa2 g (Addr.add ⟨h.size,0,none⟩ 1))=(some d))∧(((Wa2 g (Addr.add ⟨h.size,0,none⟩ 2))=(some e))∧(cf 187 #[.agg #[c,d,e],.int .i64 f,.int .u64 l,.int .u64 o,.bool false] g λc d=>asBool c λc=>nP a λc=>stH d (Addr.add c 1) (.int .i64 4) λc=>K (.tuple #[]) c)))))))) (ifB (b == 4) (da3 H1 ⟨h.size,0,none⟩ λb c d=>nP a λe=>bd 0 10 (lI .u64 H1 (Addr.add e 2) λe=>nP a λa=>bd 2 10 (ldH H1 (Addr.add a 4) λf=>asInt .u64 f λg=>cf 183 #[.int .u64 e] H1 λe i=>asInt .u64 e λe=>((Wa2 i (Addr.add a 4))=(some f))∧(ce i h.size 0 b (((Wa2 i (Addr.add ⟨h.size,0,none⟩ 1))=(some c))∧(((Wa2 i (Addr.add ⟨h.size,0,none⟩ 2))=(some d))∧(((Wa2 (Array.push i (.cells #[.int .u64 e,.int .u64 g] 178)) ⟨h.size,0,none⟩)=(some b))∧(((Wa2 (Array.push i (.cells #[.int .u64 e,.int .u64 g] 178)) (Addr.add ⟨h.size,0,none⟩ 1))=(some c))∧(((Wa2 (Array.push i (.cells #[.int .u64 e,.int .u64 g] 178)) (Addr.add ⟨h.size,0,none⟩ 2))=(some d))∧(cf 186 #[.agg #[b,c,d],.int .i64 5,.int .i64 35,.slice (some ⟨i.size,0,none⟩) 2 2] (Array.push i (.cells #[.int .u64 e,.int .u64 g] 178)) λa a=>K (.tuple #[]) a)))))))))) (da3 H1 ⟨h.size,0,none⟩ λa b c=>cf 185 #[.agg #[a,b,c],.int .u64 0] H1 λa a=>K (.tuple #[]) a))))))
def F117 (K:Value→Wa1→Prop) (h:Wa1) (xa xb xc:Option Addr):Prop:=
 (g117 K h (Array.push h (.cells #[.pointer xa,.pointer xb,.pointer xc] 205)))
theorem call117 {K:Value→Wa1→Prop} {h:Wa1} {xa xb xc:Option Addr} (H:F117 K h xa xb xc):Wa5 Tryz.prog 117 #[(.agg #[(.pointer xa),(.pointer xb),(.pointer xc)])] h K:=
 Wa4 Tryz.func117 (by kernel_rfl) (Eq.mp (by kernel_rfl) H)
abbrev g118 (K:Value→Wa1→Prop) (h H1:Wa1):Prop:=
 (lP H1 (Addr.add ⟨h.size,0,none⟩ 2) λa=>nP a λb=>lI .i64 H1 (Addr.add b 1) λb=>ifB (b == 0) (lP H1 ⟨h.size,0,none⟩ λc=>cf 188 #[.pointer c,.int .i64 1,.int .u64 1] H1 λc d=>asInt .u64 c λc=>nP a λc=>stH d (Addr.add c 1) (.int .i64 1) λc=>K (.tuple #[]) c) (ifB (b == 1) (nP a λb=>bd 0 10 (lI .u64 H1 (Addr.add b 2) λb=>nP a λc=>bd 1 10 (lI .u64 H1 (Addr.add c 3) λc=>ifB (b == c) (lP H1 (Addr.add ⟨h.size,0,none⟩ 1) λb=>cf 106 #[.pointer b,.slice none 0 0] H1 λb b=>K (.tuple #[]) b) (ldH H1 ⟨h.size,0,none⟩ λb=>Wb1 b λc=>da3 H1 ⟨h.size,0,none⟩ λd e f=>nP a λg=>bd 0 10 (lI .u64 H1 (Addr.add g 2) λg=>nP a λi=>cf 182 #[.agg #[d,e,f],.int .u64 g,.int .u64 0] H1 λd e=>asInt .i64 d λd=>ce e h.size 0 b (cf 147 #[.pointer c,.int .i64 d] e λb c=>asInt .u64 b λb=>cf 183 #[.int .u64 b] c λb c=>asInt .u64 b λb=>bd 2 10 (stH c (Addr.add i 4) (.int .u64 b) λb=>nP a λc=>stH b (Addr.add c 1) (.int .i64 2) λb=>K (.tuple #[]) b))))))) (nP a λb=>bd 0 10 (lI .u64 H1 (Addr.add b 2) λb=>nP a λc=>bd 2 10 (lI .u64 H1 (Addr.add c 4) λc=>nP a λa=>bd 0 10 (stH H1 (Addr.add a 2) (.int .u64 c) λa=>da3 a ⟨h.size,0,none⟩ λc d e=>cf 186 #[.agg #[c,d,e],.int .i64 1,.int .i64 5,.slice (some ⟨a.size,0,none⟩) 1 1] (Array.push a (.cells #[.int .u64 b] 178)) λa a=>K (.tuple #[]) a))))))
def F118 (K:Value→Wa1→Prop) (h:Wa1) (xa xb xc:Option Addr):Prop:=
 (g118 K h (Array.push h (.cells #[.pointer xa,.pointer xb,.pointer xc] 206)))
theorem call118 {K:Value→Wa1→Prop} {h:Wa1} {xa xb xc:Option Addr} (H:F118 K h xa xb xc):Wa5 Tryz.prog 118 #[(.agg #[(.pointer xa),(.pointer xb),(.pointer xc)])] h K:=
 Wa4 Tryz.func118 (by kernel_rfl) (Eq.mp (by kernel_rfl) H)
abbrev g119 (K:Value→Wa1→Prop) (h H1:Wa1):Prop:=
 (lP H1 (Addr.add ⟨h.size,0,none⟩ 2) λa=>nP a λb=>lI .i64 H1 (Addr.add b 1) λb=>ifB (b == 0) (lP H1 ⟨h.size,0,none⟩ λc=>nP a λd=>cf 147 #[.pointer c,.int .i64 1] H1 λc e=>asInt .u64 c λc=>bd 1 10 (stH e (Addr.add d 3) (.int .u64 c) λc=>lP c ⟨h.size,0,none⟩ λd=>nP a λe=>cf 79 #[.pointer d] c λc d=>asAgg c λc=>We0 c 15 (Wn6 c λc f g i j k l m n o p q r s t=>cf 139 #[.agg #[c,f,g,i,j,k,l,m,n,o,p,q,r,s,t]] d λc d=>asAgg c λc=>We0 c 7 (de7 c λc c c c f f f=>asInt .i64 c λc=>bd 2 10 (stH d (Addr.add e 4) (.int .u64 (IntKind.wrap .u64 (IntKind.wrap .i64 (c - 1)))) λc=>nP a λd=>stH c (Addr.add d 1) (.int .i64 1) λc=>K (.tuple #[]) c))))) (ifB (b == 1) (nP a λc=>bd 2 10 (lI .u64 H1 (Addr.add c 4) λc=>ifB (c == 0) (lP H1 (Addr.add ⟨h.size,0,none⟩ 1) λc=>cf 106 #[.pointer c,.slice none 0 0] H1 λc c=>K (.tuple #[]) c) (ldH H1 ⟨h.size,0,none⟩ λc=>Wb1 c λd=>da3 H1 ⟨h.size,0,none⟩ λe f g=>nP a λi=>bd 2 10 (lI .u64 H1 (Addr.add i 4) λi=>nP a λj=>cf 182 #[.agg #[e,f,g],.int .u64 1,.int .u64 i] H1 λe f=>asInt .i64 e λe=>ce f h.size 0 c (cf 147 #[.pointer d,.int .i64 e] f λc d=>asInt .u64 c λc=>bd 3 10 (stH d (Addr.add j 5) (.int .u64 c) λc=>nP a λd=>bd 3 10 (lI .u64 c (Addr.add d 5) λd=>nP a λe=>cf 183 #[.int .u64 d] c λc d=>asInt .u64 c λc=>bd 4 10 (stH d (Addr.add e 6) (.int .u64 c) λc=>nP a λd=>stH c (Addr.add d 1) (.int .i64 2) λc=>nP a λd=>bd 4 10 (lI .u64 c (Addr.add d 6) λd=>ifB (d == 2) (dl3 c h.size λd e f=>cf 189 #[.agg #[d,e,f]] c λd d=>K (.tuple #[]) d) (K (.tuple #[]) c)))))))))) (ifB (b == 2) (da3 H1 ⟨h.size,0,none⟩ λc d e=>nP a λf=>bd 5 10 (lI .u64 H1 (Addr.add f 7) λf=>nP a λg=>bd 4 10 (lI .u64 H1 (Addr.add g 6) λg=>cf 190 #[.agg #[c,d,e],.int .u64 f,.int .u64 g] H1 λc c=>nP a λd=>bd 5 10 (lI .u64 c (Addr.add d 7) λd=>nP a λe=>bd 5 10 (stH c (Addr.add e 7) (.int .u64 (IntKind.wrap .u64 (d+1))) λc=>nP a λd=>stH c (Addr.add d 1) (.int .i64 3) λc=>K (.tuple #[]) c))))) (ifB (b == 3) (nP a λb=>stH H1 (Addr.add b 1) (.int .i64 4) λb=>lP b ⟨h.size,0,none⟩ λc=>nP a λd=>bd 1 10 (ldH b (Addr.add d 3) λe=>asInt .u64 e λf=>cf 147 #[.pointer c,.int .i64 1] b λb c=>asInt .u64 b λb=>((Wa2 c (Addr.add d 3))=(some e))∧(ifB (b != f) (nP a λa=>stH c (Addr.add a 1) (.int .i64 0) λa=>K (.tuple #[]) a) (K (.tuple #[]) c)))) (dl3 H1 h.size λa b c=>cf 191 #[.agg #[a,b,c]] H1 λa a=>K (.tuple #[]) a)))))
def F119 (K:Value→Wa1→Prop) (h:Wa1) (xa xb xc:Option Addr):Prop:=
 (g119 K h (Array.push h (.cells #[.pointer xa,.pointer xb,.pointer xc] 207)))
theorem call119 {K:Value→Wa1→Prop} {h:Wa1} {xa xb xc:Option Addr} (H:F119 K h xa xb xc):Wa5 Tryz.prog 119 #[(.agg #[(.pointer xa),(.pointer xb),(.pointer xc)])] h K:=
 Wa4 Tryz.func119 (by kernel_rfl) (Eq.mp (by kernel_rfl) H)
abbrev g120 (K:Value→Wa1→Prop) (h H1:Wa1):Prop:=
 (lP H1 (Addr.add ⟨h.size,0,none⟩ 2) λa=>nP a λa=>lI .i64 H1 (Addr.add a 1) λa=>ifB (decide (a≤4)) (dl3 H1 h.size λa b c=>cf 192 #[.agg #[a,b,c]] H1 λa a=>K (.tuple #[]) a) (lP H1 (Addr.add ⟨h.size,0,none⟩ 2) λa=>nP a λa=>lI .i64 H1 (Addr.add a 1) λa=>ifB (decide (a≤8)) (dl3 H1 h.size λa b c=>cf 193 #[.agg #[a,b,c]] H1 λa a=>K (.tuple #[]) a) (lP H1 (Addr.add ⟨h.size,0,none⟩ 2) λa=>nP a λa=>lI .i64 H1 (Addr.add a 1) λa=>ifB (decide (a≤10)) (dl3 H1 h.size λa b c=>cf 194 #[.agg #[a,b,c]] H1 λa a=>K (.tuple #[]) a) (dl3 H1 h.size λa b c=>cf 195 #[.agg #[a,b,c]] H1 λa a=>K (.tuple #[]) a))))
def F120 (K:Value→Wa1→Prop) (h:Wa1) (xa xb xc:Option Addr):Prop:=
 (g120 K h (Array.push h (.cells #[.pointer xa,.pointer xb,.pointer xc] 208)))
theorem call120 {K:Value→Wa1→Prop} {h:Wa1} {xa xb xc:Option Addr} (H:F120 K h xa xb xc):Wa5 Tryz.prog 120 #[(.agg #[(.pointer xa),(.pointer xb),(.pointer xc)])] h K:=
 Wa4 Tryz.func120 (by kernel_rfl) (Eq.mp (by kernel_rfl) H)
abbrev g176 (K:Value→Wa1→Prop) (h H1:Wa1):Prop:=
 (lP H1 (Addr.add ⟨h.size,0,none⟩ 2) λa=>nP a λb=>lI .i64 H1 (Addr.add b 1) λb=>ifB (b == 0) (dl3 H1 h.size λc d e=>cf 262 #[.agg #[c,d,e]] H1 λc c=>K (.tuple #[]) c) (ifB (b == 1) (ldH H1 ⟨h.size,0,none⟩ λc=>Wb1 c λd=>da3 H1 ⟨h.size,0,none⟩ λe f g=>da3 H1 ⟨h.size,0,none⟩ λi j k=>nP a λl=>bd 3 10 (ldH H1 (Addr.add l 5) λm=>asInt .u64 m λn=>cf 264 #[.agg #[i,j,k]] H1 λi j=>asInt .i64 i λi=>((Wa2 j (Addr.add l 5))=(some m))∧(ce j h.size 0 e (((Wa2 j (Addr.add ⟨h.size,0,none⟩ 1))=(some f))∧(((Wa2 j (Addr.add ⟨h.size,0,none⟩ 2))=(some g))∧(ce j h.size 0 c (cf 263 #[.agg #[e,f,g],.int .i64 (IntKind.wrap .i64 (2*i))] j λe f=>asInt .i64 e λe=>((Wa2 f (Addr.add l 5))=(some m))∧(ce f h.size 0 c (cf 212 #[.pointer d,.int .i64 e,.int .u64 n] f λc c=>nP a λd=>stH c (Addr.add d 1) (.int .i64 2) λc=>K (.tuple #[]) c))))))))) (ifB (b == 2) (ldH H1 ⟨h.size,0,none⟩ λc=>Wb1 c λd=>da3 H1 ⟨h.size,0,none⟩ λe f g=>nP a λi=>bd 3 10 (ldH H1 (Addr.add i 5) λj=>asInt .u64 j λk=>da3 H1 ⟨h.size,0,none⟩ λl m n=>nP a λo=>cf 264 #[.agg #[l,m,n]] H1 λl m=>asInt .i64 l λl=>((Wa2 m (Addr.add i 5))=(some j))∧(ce m h.size 0 e (((Wa2 m (Addr.add ⟨h.size,0,none⟩ 1))=(some f))∧(((Wa2 m (Addr.add ⟨h.size,0,none⟩ 2))=(some g))∧(ce m h.size 0 c (cf 265 #[.agg #[e,f,g],.int .u64 k,.int .i64 (IntKind.wrap .i64 (5+l))] m λe f=>asInt .i64 e λe=>ce f h.size 0 c (cf 147 #[.pointer d,.int .i64 e] f λc d=>asInt .u64 c λc=>bd 4 10 (stH d (Addr.add o 6) (.int .u64 c) λc=>nP a λd=>stH c (Addr.add d 1) (.int .i64 3) λc=>da3 c ⟨h.size,0,none⟩ λd e f=>cf 266 #[.agg #[d,e,f]] c λc d=>asInt .u64 c λc=>ifB (c == 2) (dl3 d h.size λc e f=>cf 267 #[.agg #[c,e,f]] d λc c=>K (.tuple #[]) c) (K (.tuple #[]) d)))))))))) (ifB (b == 3) (ldH H1 ⟨h.size,0,none⟩ λc=>Wb1 c λd=>da3 H1 ⟨h.size,0,none⟩ λe f g=>da3 H1 ⟨h.size,0,none⟩ λi j k=>da3 H1 ⟨h.size,0,none⟩ λl m n=>cf 264 #[.agg #[i,j,k]] H1 λi j=>asInt .i64 i λi=>ce j h.size 0 l (((Wa2 j (Addr.add ⟨h.size,0,none⟩ 1))=(some m))∧(((Wa2 j (Addr.add ⟨h.size,0,none⟩ 2))=(some n))∧(ce j h.size 0 e (((Wa2 j (Addr.add ⟨h.size,0,none⟩ 1))=(some f))∧(((Wa2 j (Addr.add ⟨h.size,0,none⟩ 2))=(some g))∧(ce j h.size 0 c (cf 263 #[.agg #[e,f,g],.int .i64 (IntKind.wrap .i64 ((IntKind.wrap .i64 (2*i))+1))] j λe f=>asInt .i64 e λe=>ce f h.size 0 l (((Wa2 f (Addr.add ⟨h.size,0,none⟩ 1))=(some m))∧(((Wa2 f (Addr.add ⟨h.size,0,none⟩ 2))=(some n))∧(ce f h.size 0 c (cf 266 #[.agg #[l,m,n]] f λf g=>asInt .u64 f λf=>ce g h.size 0 c (cf 212 #[.pointer d,.int .i64 e,.int .u64 f] g λc c=>nP a λd=>stH c (Addr.add d 1) (.int .i64 4) λc=>K (.tuple #[]) c))))))))))))) (ifB (b == 4) (dl3 H1 h.size λc d e=>cf 268 #[.agg #[c,d,e]] H1 λc c=>K (.tuple #[]) c) (ifB (b == 5) (nP a λb=>stH H1 (Addr.add b 1) (.int .i64 6) λb=>ldH b ⟨h.size,0,none⟩ λc=>Wb1 c λd=>da3 b ⟨h.size,0,none⟩ λe f g=>da3 b ⟨h.size,0,none⟩ λi j k=>cf 266 #[.agg #[i,j,k]] b λb i=>asInt .u64 b λb=>ce i h.size 0 e (((Wa2 i (Addr.add ⟨h.size,0,none⟩ 1))=(some f))∧(((Wa2 i (Addr.add ⟨h.size,0,none⟩ 2))=(some g))∧(ce i h.size 0 c (cf 265 #[.agg #[e,f,g],.int .u64 b,.int .i64 5] i λb e=>asInt .i64 b λb=>ce e h.size 0 c (cf 147 #[.pointer d,.int .i64 b] e λb c=>asInt .u64 b λb=>cf 226 #[.int .u64 b] c λb c=>asBool b λb=>ifB b (dl3 c h.size λb d e=>cf 269 #[.agg #[b,d,e]] c λb b=>K (.tuple #[]) b) (K (.tuple #[]) c))))))) (ldH H1 ⟨h.size,0,none⟩ λb=>Wb1 b λc=>da3 H1 ⟨h.size,0,none⟩ λd e f=>da3 H1 ⟨h.size,0,none⟩ λg i j=>nP a λa=>bd 0 10 (ldH H1 (Addr.add a 2) λk=>asInt .u64 k λl=>cf 266 #[.agg #[g,i,j]] H1 λg i=>asInt .u64 g λg=>((Wa2 i (Addr.add a 2))=(some k))∧(ce i h.size 0 d (((Wa2 i (Addr.add ⟨h.size,0,none⟩ 1))=(some e))∧(((Wa2 i (Addr.add ⟨h.size,0,none⟩ 2))=(some f))∧(ce i h.size 0 b (cf 265 #[.agg #[d,e,f],.int .u64 g,.int .i64 0] i λd e=>asInt .i64 d λd=>((Wa2 e (Addr.add a 2))=(some k))∧(ce e h.size 0 b (cf 147 #[.pointer c,.int .i64 d] e λb c=>asInt .u64 b λb=>((Wa2 c (Addr.add a 2))=(some k))∧(ifB (decide (b < l)) (dl3 c h.size λa b d=>cf 269 #[.agg #[a,b,d]] c λa a=>K (.tuple #[]) a) (dl3 c h.size λa b d=>cf 267 #[.agg #[a,b,d]] c λa a=>K (.tuple #[]) a)))))))))))))))))
def F176 (K:Value→Wa1→Prop) (h:Wa1) (xa xb xc:Option Addr):Prop:=
 (g176 K h (Array.push h (.cells #[.pointer xa,.pointer xb,.pointer xc] 254)))
theorem call176 {K:Value→Wa1→Prop} {h:Wa1} {xa xb xc:Option Addr} (H:F176 K h xa xb xc):Wa5 Tryz.prog 176 #[(.agg #[(.pointer xa),(.pointer xb),(.pointer xc)])] h K:=
 Wa4 Tryz.func176 (by kernel_rfl) (Eq.mp (by kernel_rfl) H)
abbrev g177 (K:Value→Wa1→Prop) (h H1:Wa1):Prop:=
 (lP H1 (Addr.add ⟨h.size,0,none⟩ 2) λa=>nP a λb=>lI .i64 H1 (Addr.add b 1) λb=>ifB (b == 0) (da3 H1 ⟨h.size,0,none⟩ λc d e=>cf 186 #[.agg #[c,d,e],.int .i64 1,.int .i64 1,.slice none 0 0] H1 λc c=>K (.tuple #[]) c) (ifB (b == 1) (lP H1 (Addr.add ⟨h.size,0,none⟩ 1) λc=>nP c λc=>bd 0 3 (lI .u64 H1 (Addr.add c 2) λc=>nP a λd=>bd 2 10 (stH H1 (Addr.add d 4) (.int .u64 c) λc=>nP a λd=>bd 2 10 (lI .u64 c (Addr.add d 4) λd=>ifB (d != 0) (nP a λd=>stH c (Addr.add d 1) (.int .i64 2) λd=>K (.tuple #[]) d) (exI λI22=>(nP a λd=>bd 5 10 (lI .u64 c (Addr.add d 7) λd=>ifB (d == 0) (lP c (Addr.add ⟨h.size,0,none⟩ 1) λd=>nP d λd=>cf 211 #[.pointer (some (Addr.add d 8))] c λd e=>asInt .i64 d λd=>I22 [.bool (decide (d > 0)),.bool (decide (d > 0))] e) (I22 [.bool false,.bool false] c)))∧(∀(c d:Value) (e:Env) (e:Wa1),(I22 [c,d] e)→(asBool c λc=>ifB c (nP a λc=>bd 5 10 (stH e (Addr.add c 7) (.int .u64 1) λc=>da3 c ⟨h.size,0,none⟩ λd f g=>cf 186 #[.agg #[d,f,g],.int .i64 0,.int .i64 6,.slice none 0 0] c λc c=>K (.tuple #[]) c)) (da3 e ⟨h.size,0,none⟩ λc d f=>cf 185 #[.agg #[c,d,f],.int .u64 1] e λc c=>K (.tuple #[]) c)))))))) (ifB (b == 2) (nP a λb=>bd 0 10 (ldH H1 (Addr.add b 2) λc=>asInt .u64 c λd=>lP H1 ⟨h.size,0,none⟩ λe=>nP a λf=>cf 188 #[.pointer e,.int .i64 3,.int .u64 1] H1 λe g=>asInt .u64 e λe=>((Wa2 g (Addr.add b 2))=(some c))∧(cf 249 #[.int .u32 (IntKind.wrap .u32 d),.int .u32 (IntKind.wrap .u32 e)] g λb c=>asInt .u64 b λb=>bd 4 10 (stH c (Addr.add f 6) (.int .u64 b) λb=>lP b ⟨h.size,0,none⟩ λc=>ldH b ⟨h.size,0,none⟩ λd=>Wb1 d λe=>nP a λf=>cf 214 #[.pointer c] b λb c=>Wb1 b λb=>ce c h.size 0 d (cf 79 #[.pointer e] c λc d=>asAgg c λc=>We0 c 15 (Wn6 c λc e g i j k l m n o p q r s t=>cf 139 #[.agg #[c,e,g,i,j,k,l,m,n,o,p,q,r,s,t]] d λc d=>asAgg c λc=>We0 c 7 (de7 c λc c c c e e e=>asInt .i64 c λc=>cf 250 #[.pointer b,.int .i64 c] d λb c=>asInt .i64 b λb=>bd 3 10 (stH c (Addr.add f 5) (.int .u64 (IntKind.wrap .u64 b)) λb=>nP a λa=>stH b (Addr.add a 1) (.int .i64 3) λa=>K (.tuple #[]) a)))))))) (K (.tuple #[]) H1))))
def F177 (K:Value→Wa1→Prop) (h:Wa1) (xa xb xc:Option Addr):Prop:=
 (g177 K h (Array.push h (.cells #[.pointer xa,.pointer xb,.pointer xc] 204)))
theorem call177 {K:Value→Wa1→Prop} {h:Wa1} {xa xb xc:Option Addr} (H:F177 K h xa xb xc):Wa5 Tryz.prog 177 #[(.agg #[(.pointer xa),(.pointer xb),(.pointer xc)])] h K:=
 Wa4 Tryz.func177 (by kernel_rfl) (Eq.mp (by kernel_rfl) H)
abbrev g178 (K:Value→Wa1→Prop) (h H1:Wa1):Prop:=
 (lP H1 (Addr.add ⟨h.size,0,none⟩ 2) λa=>nP a λb=>bd 2 10 (lI .u64 H1 (Addr.add b 4) λb=>exI λI5=>(nP a λc=>lI .i64 H1 (Addr.add c 1) λc=>ifB (c == 3) (ldH H1 ⟨h.size,0,none⟩ λd=>Wb1 d λe=>da3 H1 ⟨h.size,0,none⟩ λf g i=>nP a λj=>bd 4 10 (ldH H1 (Addr.add j 6) λk=>asInt .u64 k λl=>cf 270 #[.agg #[f,g,i],.int .u64 b,.int .i64 0] H1 λf g=>asInt .i64 f λf=>((Wa2 g (Addr.add j 6))=(some k))∧(ce g h.size 0 d (cf 212 #[.pointer e,.int .i64 f,.int .u64 l] g λd d=>I5 [.bool true,.tuple #[],.tuple #[],.tuple #[]] d)))) (ifB (c == 4) (ldH H1 ⟨h.size,0,none⟩ λd=>Wb1 d λe=>da3 H1 ⟨h.size,0,none⟩ λf g i=>nP a λj=>bd 1 10 (ldH H1 (Addr.add j 3) λk=>asInt .u64 k λl=>cf 270 #[.agg #[f,g,i],.int .u64 b,.int .i64 1] H1 λf g=>asInt .i64 f λf=>((Wa2 g (Addr.add j 3))=(some k))∧(ce g h.size 0 d (cf 212 #[.pointer e,.int .i64 f,.int .u64 l] g λd d=>I5 [.bool false,.bool true,.tuple #[],.tuple #[]] d)))) (ifB (c == 5) (ldH H1 ⟨h.size,0,none⟩ λd=>Wb1 d λe=>da3 H1 ⟨h.size,0,none⟩ λf g i=>cf 270 #[.agg #[f,g,i],.int .u64 b,.int .i64 2] H1 λf g=>asInt .i64 f λf=>ce g h.size 0 d (cf 212 #[.pointer e,.int .i64 f,.int .u64 1] g λd d=>I5 [.bool false,.bool false,.bool true,.tuple #[]] d)) (ifB (c == 6) (ldH H1 ⟨h.size,0,none⟩ λc=>Wb1 c λd=>da3 H1 ⟨h.size,0,none⟩ λe f g=>nP a λi=>bd 3 10 (ldH H1 (Addr.add i 5) λj=>asInt .u64 j λk=>cf 270 #[.agg #[e,f,g],.int .u64 b,.int .i64 3] H1 λb e=>asInt .i64 b λb=>((Wa2 e (Addr.add i 5))=(some j))∧(ce e h.size 0 c (cf 212 #[.pointer d,.int .i64 b,.int .u64 k] e λb b=>I5 [.bool false,.bool false,.bool false,.bool true] b)))) (I5 [.bool false,.bool false,.bool false,.bool false] H1)))))∧(∀(b c d e:Value) (f:Env) (f:Wa1),(I5 [b,c,d,e] f)→(nP a λb=>lI .i64 f (Addr.add b 1) λb=>nP a λa=>stH f (Addr.add a 1) (.int .i64 (IntKind.wrap .i64 (b+1))) λa=>K (.tuple #[]) a))))
def F178 (K:Value→Wa1→Prop) (h:Wa1) (xa xb xc:Option Addr):Prop:=
 (g178 K h (Array.push h (.cells #[.pointer xa,.pointer xb,.pointer xc] 204)))
theorem call178 {K:Value→Wa1→Prop} {h:Wa1} {xa xb xc:Option Addr} (H:F178 K h xa xb xc):Wa5 Tryz.prog 178 #[(.agg #[(.pointer xa),(.pointer xb),(.pointer xc)])] h K:=
 Wa4 Tryz.func178 (by kernel_rfl) (Eq.mp (by kernel_rfl) H)
abbrev g179 (K:Value→Wa1→Prop) (h H1:Wa1):Prop:=
 (lP H1 (Addr.add ⟨h.size,0,none⟩ 2) λa=>nP a λb=>bd 2 10 (lI .u64 H1 (Addr.add b 4) λb=>nP a λc=>lI .i64 H1 (Addr.add c 1) λc=>ifB (c == 7) (da3 H1 ⟨h.size,0,none⟩ λd e f=>nP a λg=>bd 4 10 (lI .u64 H1 (Addr.add g 6) λg=>((Wa2 (Array.push H1 (.cells #[.int .u64 g] 178)) ⟨h.size,0,none⟩)=(some d))∧(((Wa2 (Array.push H1 (.cells #[.int .u64 g] 178)) (Addr.add ⟨h.size,0,none⟩ 1))=(some e))∧(((Wa2 (Array.push H1 (.cells #[.int .u64 g] 178)) (Addr.add ⟨h.size,0,none⟩ 2))=(some f))∧(cf 186 #[.agg #[d,e,f],.int .i64 8,.int .i64 30,.slice (some ⟨H1.size,0,none⟩) 1 1] (Array.push H1 (.cells #[.int .u64 g] 178)) λd d=>K (.tuple #[]) d))))) (ifB (c == 8) (lP H1 (Addr.add ⟨h.size,0,none⟩ 1) λd=>nP d λd=>bd 0 3 (lI .u64 H1 (Addr.add d 2) λd=>nP a λe=>bd 7 10 (stH H1 (Addr.add e 9) (.int .u64 d) λd=>ldH d ⟨h.size,0,none⟩ λe=>Wb1 e λf=>da3 d ⟨h.size,0,none⟩ λg i j=>nP a λk=>cf 182 #[.agg #[g,i,j],.int .u64 b,.int .u64 0] d λd g=>asInt .i64 d λd=>ce g h.size 0 e (cf 147 #[.pointer f,.int .i64 d] g λd e=>asInt .u64 d λd=>bd 6 10 (stH e (Addr.add k 8) (.int .u64 d) λd=>nP a λe=>stH d (Addr.add e 1) (.int .i64 9) λd=>K (.tuple #[]) d))))) (ifB (c == 9) (ldH H1 ⟨h.size,0,none⟩ λd=>Wb1 d λe=>da3 H1 ⟨h.size,0,none⟩ λf g i=>nP a λj=>bd 6 10 (ldH H1 (Addr.add j 8) λk=>asInt .u64 k λl=>ldH H1 (Addr.add ⟨h.size,0,none⟩ 1) λm=>Wb1 m λn=>nP n λn=>ldH H1 (Addr.add n 6) λo=>Wb5 o λp q r=>bd 0 (q:Int) (Wd2 (.pointer p) λp=>ldH H1 p λq=>asInt .u64 q λr=>cf 182 #[.agg #[f,g,i],.int .u64 b,.int .u64 0] H1 λf g=>asInt .i64 f λf=>((Wa2 g p)=(some q))∧(((Wa2 g (Addr.add n 6))=(some o))∧(((Wa2 g (Addr.add ⟨h.size,0,none⟩ 1))=(some m))∧(((Wa2 g (Addr.add j 8))=(some k))∧(ce g h.size 0 d (cf 228 #[.int .u64 l,.int .i64 (IntKind.wrap .i64 r),.bool false] g λg i=>asInt .u64 g λg=>ce i h.size 0 d (cf 212 #[.pointer e,.int .i64 f,.int .u64 g] i λd d=>nP a λe=>stH d (Addr.add e 1) (.int .i64 10) λd=>K (.tuple #[]) d))))))))) (ifB (c == 10) (nP a λc=>bd 5 10 (stH H1 (Addr.add c 7) (.int .u64 1) λc=>nP a λd=>stH c (Addr.add d 1) (.int .i64 7) λc=>da3 c ⟨h.size,0,none⟩ λd e f=>da3 c ⟨h.size,0,none⟩ λg i j=>lP c (Addr.add ⟨h.size,0,none⟩ 1) λk=>nP k λk=>lS c (Addr.add k 5) λk l m=>bd 0 (l:Int) (Wd2 (.pointer k) λk=>lI .u64 c k λk=>ldH c (Addr.add ⟨h.size,0,none⟩ 1) λl=>Wb1 l λm=>nP m λm=>ldH c (Addr.add m 7) λn=>Wb5 n λo p q=>bd 0 (p:Int) (Wd2 (.pointer o) λo=>ldH c o λp=>asInt .u64 p λq=>cf 182 #[.agg #[g,i,j],.int .u64 k,.int .u64 0] c λc g=>asInt .i64 c λc=>((Wa2 g o)=(some p))∧(((Wa2 g (Addr.add m 7))=(some n))∧(((Wa2 g (Addr.add ⟨h.size,0,none⟩ 1))=(some l))∧(ce g h.size 0 d (((Wa2 g (Addr.add ⟨h.size,0,none⟩ 1))=(some e))∧(((Wa2 g (Addr.add ⟨h.size,0,none⟩ 2))=(some f))∧(cf 187 #[.agg #[d,e,f],.int .i64 c,.int .u64 q,.int .u64 b,.bool false] g λb c=>asBool b λb=>ifB b (nP a λa=>stH c (Addr.add a 1) (.int .i64 11) λa=>K (.tuple #[]) a) (K (.tuple #[]) c))))))))))) (K (.tuple #[]) H1))))))
def F179 (K:Value→Wa1→Prop) (h:Wa1) (xa xb xc:Option Addr):Prop:=
 (g179 K h (Array.push h (.cells #[.pointer xa,.pointer xb,.pointer xc] 204)))
theorem call179 {K:Value→Wa1→Prop} {h:Wa1} {xa xb xc:Option Addr} (H:F179 K h xa xb xc):Wa5 Tryz.prog 179 #[(.agg #[(.pointer xa),(.pointer xb),(.pointer xc)])] h K:=
 Wa4 Tryz.func179 (by kernel_rfl) (Eq.mp (by kernel_rfl) H)
abbrev g180 (K:Value→Wa1→Prop) (h H1:Wa1):Prop:=
 (lP H1 (Addr.add ⟨h.size,0,none⟩ 2) λa=>nP a λb=>bd 2 10 (lI .u64 H1 (Addr.add b 4) λb=>nP a λc=>bd 5 10 (lI .u64 H1 (Addr.add c 7) λc=>nP a λd=>lI .i64 H1 (Addr.add d 1) λd=>ifB (d == 11) (nP a λe=>bd 3 10 (lI .u64 H1 (Addr.add e 5) λe=>ifB (decide (c ≥ e)) (nP a λe=>stH H1 (Addr.add e 1) (.int .i64 17) λe=>K (.tuple #[]) e) (nP a λe=>stH H1 (Addr.add e 1) (.int .i64 12) λe=>ldH e ⟨h.size,0,none⟩ λf=>Wb1 f λg=>da3 e ⟨h.size,0,none⟩ λi j k=>cf 182 #[.agg #[i,j,k],.int .u64 b,.int .u64 0] e λe i=>asInt .i64 e λe=>ce i h.size 0 f (cf 147 #[.pointer g,.int .i64 e] i λe f=>asInt .u64 e λe=>cf 184 #[.int .u64 e] f λe f=>asBool e λe=>ifB e (nP a λe=>stH f (Addr.add e 1) (.int .i64 17) λe=>K (.tuple #[]) e) (K (.tuple #[]) f))))) (ifB (d == 12) (nP a λe=>stH H1 (Addr.add e 1) (.int .i64 13) λe=>lP e (Addr.add ⟨h.size,0,none⟩ 1) λf=>nP f λf=>lS e (Addr.add f 6) λf g i=>bd c (g:Int) (Wd2 (.pointer f) λf=>lI .u64 e (Addr.add f (c.toNat*1)) λf=>exI λI46=>(ifB (f != 2) (nP a λg=>bd 7 10 (lI .u64 e (Addr.add g 9) λg=>ifB (f == g) (I46 [.bool true,.bool true] e) (ldH e ⟨h.size,0,none⟩ λg=>Wb1 g λi=>da3 e ⟨h.size,0,none⟩ λj k l=>cf 182 #[.agg #[j,k,l],.int .u64 f,.int .u64 0] e λf j=>asInt .i64 f λf=>ce j h.size 0 g (cf 147 #[.pointer i,.int .i64 f] j λf g=>asInt .u64 f λf=>cf 184 #[.int .u64 f] g λf g=>asBool f λf=>I46 [.bool f,.bool f] g)))) (I46 [.tuple #[],.bool false] e))∧(∀(e f:Value) (g:Env) (g:Wa1),(I46 [e,f] g)→(asBool f λe=>ifB e (nP a λe=>stH g (Addr.add e 1) (.int .i64 17) λe=>K (.tuple #[]) e) (K (.tuple #[]) g))))) (ifB (d == 13) (ldH H1 ⟨h.size,0,none⟩ λe=>Wb1 e λf=>da3 H1 ⟨h.size,0,none⟩ λg i j=>nP a λk=>cf 182 #[.agg #[g,i,j],.int .u64 b,.int .u64 c] H1 λg i=>asInt .i64 g λg=>ce i h.size 0 e (cf 147 #[.pointer f,.int .i64 g] i λe f=>asInt .u64 e λe=>bd 6 10 (stH f (Addr.add k 8) (.int .u64 e) λe=>nP a λf=>stH e (Addr.add f 1) (.int .i64 14) λe=>K (.tuple #[]) e))) (ifB (d == 14) (ldH H1 ⟨h.size,0,none⟩ λd=>Wb1 d λe=>da3 H1 ⟨h.size,0,none⟩ λf g i=>nP a λj=>bd 6 10 (ldH H1 (Addr.add j 8) λk=>asInt .u64 k λl=>ldH H1 (Addr.add ⟨h.size,0,none⟩ 1) λm=>Wb1 m λn=>nP n λn=>ldH H1 (Addr.add n 6) λo=>Wb5 o λp q r=>bd c (q:Int) (Wd2 (.pointer p) λp=>ldH H1 (Addr.add p (c.toNat*1)) λq=>asInt .u64 q λr=>cf 182 #[.agg #[f,g,i],.int .u64 b,.int .u64 c] H1 λb f=>asInt .i64 b λb=>((Wa2 f (Addr.add p (c.toNat*1)))=(some q))∧(((Wa2 f (Addr.add n 6))=(some o))∧(((Wa2 f (Addr.add ⟨h.size,0,none⟩ 1))=(some m))∧(((Wa2 f (Addr.add j 8))=(some k))∧(ce f h.size 0 d (cf 228 #[.int .u64 l,.int .i64 (IntKind.wrap .i64 r),.bool false] f λc f=>asInt .u64 c λc=>ce f h.size 0 d (cf 212 #[.pointer e,.int .i64 b,.int .u64 c] f λb b=>nP a λa=>stH b (Addr.add a 1) (.int .i64 15) λa=>K (.tuple #[]) a))))))))) (K (.tuple #[]) H1)))))))
def F180 (K:Value→Wa1→Prop) (h:Wa1) (xa xb xc:Option Addr):Prop:=
 (g180 K h (Array.push h (.cells #[.pointer xa,.pointer xb,.pointer xc] 204)))
theorem call180 {K:Value→Wa1→Prop} {h:Wa1} {xa xb xc:Option Addr} (H:F180 K h xa xb xc):Wa5 Tryz.prog 180 #[(.agg #[(.pointer xa),(.pointer xb),(.pointer xc)])] h K:=
 Wa4 Tryz.func180 (by kernel_rfl) (Eq.mp (by kernel_rfl) H)
abbrev g181 (K:Value→Wa1→Prop) (h H1:Wa1):Prop:=
 (lP H1 (Addr.add ⟨h.size,0,none⟩ 2) λa=>nP a λb=>lI .i64 H1 (Addr.add b 1) λb=>ifB (b == 15) (nP a λc=>bd 5 10 (lI .u64 H1 (Addr.add c 7) λc=>da3 H1 ⟨h.size,0,none⟩ λd e f=>da3 H1 ⟨h.size,0,none⟩ λg i j=>lP H1 (Addr.add ⟨h.size,0,none⟩ 1) λk=>nP k λk=>lS H1 (Addr.add k 5) λk l m=>bd c (l:Int) (Wd2 (.pointer k) λk=>lI .u64 H1 (Addr.add k (c.toNat*1)) λk=>ldH H1 (Addr.add ⟨h.size,0,none⟩ 1) λl=>Wb1 l λm=>nP m λm=>ldH H1 (Addr.add m 7) λn=>Wb5 n λo p q=>bd c (p:Int) (Wd2 (.pointer o) λo=>ldH H1 (Addr.add o (c.toNat*1)) λp=>asInt .u64 p λq=>nP a λr=>bd 2 10 (ldH H1 (Addr.add r 4) λs=>asInt .u64 s λt=>cf 182 #[.agg #[g,i,j],.int .u64 k,.int .u64 c] H1 λg i=>asInt .i64 g λg=>((Wa2 i (Addr.add r 4))=(some s))∧(((Wa2 i (Addr.add o (c.toNat*1)))=(some p))∧(((Wa2 i (Addr.add m 7))=(some n))∧(((Wa2 i (Addr.add ⟨h.size,0,none⟩ 1))=(some l))∧(ce i h.size 0 d (((Wa2 i (Addr.add ⟨h.size,0,none⟩ 1))=(some e))∧(((Wa2 i (Addr.add ⟨h.size,0,none⟩ 2))=(some f))∧(cf 187 #[.agg #[d,e,f],.int .i64 g,.int .u64 q,.int .u64 t,.bool false] i λc d=>asBool c λc=>ifB c (nP a λc=>bd 5 10 (lI .u64 d (Addr.add c 7) λc=>nP a λe=>bd 5 10 (stH d (Addr.add e 7) (.int .u64 (IntKind.wrap .u64 (c+1))) λc=>nP a λe=>stH c (Addr.add e 1) (.int .i64 11) λc=>K (.tuple #[]) c))) (da3 d ⟨h.size,0,none⟩ λc e f=>nP a λg=>bd 4 10 (lI .u64 d (Addr.add g 6) λg=>((Wa2 (Array.push d (.cells #[.int .u64 g] 178)) ⟨h.size,0,none⟩)=(some c))∧(((Wa2 (Array.push d (.cells #[.int .u64 g] 178)) (Addr.add ⟨h.size,0,none⟩ 1))=(some e))∧(((Wa2 (Array.push d (.cells #[.int .u64 g] 178)) (Addr.add ⟨h.size,0,none⟩ 2))=(some f))∧(cf 186 #[.agg #[c,e,f],.int .i64 16,.int .i64 30,.slice (some ⟨d.size,0,none⟩) 1 1] (Array.push d (.cells #[.int .u64 g] 178)) λc c=>K (.tuple #[]) c))))))))))))))))) (ifB (b == 16) (lP H1 (Addr.add ⟨h.size,0,none⟩ 1) λc=>nP c λc=>bd 0 3 (lI .u64 H1 (Addr.add c 2) λc=>nP a λd=>bd 7 10 (stH H1 (Addr.add d 9) (.int .u64 c) λc=>nP a λd=>stH c (Addr.add d 1) (.int .i64 11) λc=>lP c (Addr.add ⟨h.size,0,none⟩ 1) λd=>nP d λd=>lS c (Addr.add d 6) λd e f=>bd 0 (e:Int) (Wd2 (.pointer d) λd=>lI .u64 c d λd=>nP a λe=>bd 2 10 (lI .u64 c (Addr.add e 4) λe=>ifB (d != e) (nP a λd=>stH c (Addr.add d 1) (.int .i64 17) λd=>K (.tuple #[]) d) (K (.tuple #[]) c)))))) (ifB (b == 17) (ldH H1 ⟨h.size,0,none⟩ λb=>Wb1 b λc=>da3 H1 ⟨h.size,0,none⟩ λd e f=>nP a λg=>bd 2 10 (lI .u64 H1 (Addr.add g 4) λg=>cf 270 #[.agg #[d,e,f],.int .u64 g,.int .i64 2] H1 λd e=>asInt .i64 d λd=>ce e h.size 0 b (cf 212 #[.pointer c,.int .i64 d,.int .u64 0] e λb b=>nP a λa=>stH b (Addr.add a 1) (.int .i64 18) λa=>K (.tuple #[]) a))) (da3 H1 ⟨h.size,0,none⟩ λa b c=>cf 185 #[.agg #[a,b,c],.int .u64 0] H1 λa a=>K (.tuple #[]) a))))
def F181 (K:Value→Wa1→Prop) (h:Wa1) (xa xb xc:Option Addr):Prop:=
 (g181 K h (Array.push h (.cells #[.pointer xa,.pointer xb,.pointer xc] 204)))
theorem call181 {K:Value→Wa1→Prop} {h:Wa1} {xa xb xc:Option Addr} (H:F181 K h xa xb xc):Wa5 Tryz.prog 181 #[(.agg #[(.pointer xa),(.pointer xb),(.pointer xc)])] h K:=
 Wa4 Tryz.func181 (by kernel_rfl) (Eq.mp (by kernel_rfl) H)
abbrev g182 (K:Value→Wa1→Prop) (h H1:Wa1) (xa xb:Int):Prop:=
 (dl3 H1 h.size λa b c=>cf 270 #[.agg #[a,b,c],.int .u64 xa,.int .i64 (IntKind.wrap .i64 (5+(IntKind.wrap .i64 xb)))] H1 λa b=>asInt .i64 a λa=>K (.int .i64 a) b)
def F182 (K:Value→Wa1→Prop) (h:Wa1) (xa xb xc:Option Addr) (xd xe:Int):Prop:=
 (g182 K h (Array.push h (.cells #[.pointer xa,.pointer xb,.pointer xc] 202)) xd xe)
theorem call182 {K:Value→Wa1→Prop} {h:Wa1} {xa xb xc:Option Addr} {xd xe:Int} (H:F182 K h xa xb xc xd xe):Wa5 Tryz.prog 182 #[(.agg #[(.pointer xa),(.pointer xb),(.pointer xc)]),(.int .u64 xd),(.int .u64 xe)] h K:=
 Wa4 Tryz.func182 (by kernel_rfl) (Eq.mp (by kernel_rfl) H)
def F183 (K:Value→Wa1→Prop) (h:Wa1) (xa:Int):Prop:=
 (cf 146 #[.int .u64 xa] h λa b=>asInt .i64 a λa=>K (.int .u64 (IntKind.wrap .u64 a)) b)
theorem call183 {K:Value→Wa1→Prop} {h:Wa1} {xa:Int} (H:F183 K h xa):Wa5 Tryz.prog 183 #[(.int .u64 xa)] h K:=
 Wa4 Tryz.func183 (by kernel_rfl) (Eq.mp (by kernel_rfl) H)
def F184 (K:Value→Wa1→Prop) (h:Wa1) (xa:Int):Prop:=
 (cf 226 #[.int .u64 xa] h λa b=>asBool a λa=>K (.bool a) b)
theorem call184 {K:Value→Wa1→Prop} {h:Wa1} {xa:Int} (H:F184 K h xa):Wa5 Tryz.prog 184 #[(.int .u64 xa)] h K:=
 Wa4 Tryz.func184 (by kernel_rfl) (Eq.mp (by kernel_rfl) H)
abbrev g185 (K:Value→Wa1→Prop) (h H1:Wa1) (xa:Int):Prop:=
 (dl3 H1 h.size λa b c=>cf 271 #[.agg #[a,b,c],.int .u64 xa,.int .u64 0,.int .u64 0] H1 λa a=>K (.tuple #[]) a)
def F185 (K:Value→Wa1→Prop) (h:Wa1) (xa xb xc:Option Addr) (xd:Int):Prop:=
 (g185 K h (Array.push h (.cells #[.pointer xa,.pointer xb,.pointer xc] 202)) xd)
theorem call185 {K:Value→Wa1→Prop} {h:Wa1} {xa xb xc:Option Addr} {xd:Int} (H:F185 K h xa xb xc xd):Wa5 Tryz.prog 185 #[(.agg #[(.pointer xa),(.pointer xb),(.pointer xc)]),(.int .u64 xd)] h K:=
 Wa4 Tryz.func185 (by kernel_rfl) (Eq.mp (by kernel_rfl) H)
abbrev g186 (K:Value→Wa1→Prop) (h H1:Wa1) (xa xb:Int) (xc:Option Addr) (xd xe:Nat):Prop:=
 (lP H1 ⟨h.size,2,none⟩ λa=>nP a λa=>stH H1 (Addr.add a 1) (.int .i64 xa) λa=>lP a ⟨h.size,1,none⟩ λb=>cf 130 #[.pointer b,.int .i64 xb,.slice xc xd xe] a λa a=>K (.tuple #[]) a)
def F186 (K:Value→Wa1→Prop) (h:Wa1) (xa xb xc:Option Addr) (xd xe:Int) (xf:Option Addr) (xg xh:Nat):Prop:=
 (g186 K h (Array.push h (.cells #[.pointer xa,.pointer xb,.pointer xc] 202)) xd xe xf xg xh)
theorem call186 {K:Value→Wa1→Prop} {h:Wa1} {xa xb xc:Option Addr} {xd xe:Int} {xf:Option Addr} {xg xh:Nat} (H:F186 K h xa xb xc xd xe xf xg xh):Wa5 Tryz.prog 186 #[(.agg #[(.pointer xa),(.pointer xb),(.pointer xc)]),(.int .i64 xd),(.int .i64 xe),(.slice xf xg xh)] h K:=
 Wa4 Tryz.func186 (by kernel_rfl) (Eq.mp (by kernel_rfl) H)
abbrev g187 (K:Value→Wa1→Prop) (h H1:Wa1) (xa xb xc:Int) (xd:Bool):Prop:=
 (ldH H1 ⟨h.size,0,none⟩ λa=>Wb1 a λb=>cf 228 #[.int .u64 xb,.int .i64 (IntKind.wrap .i64 xc),.bool xd] H1 λc d=>asInt .u64 c λc=>ce d h.size 0 a (cf 219 #[.pointer b,.int .i64 xa,.int .u64 xb,.int .u64 c] d λa b=>asBool a λa=>K (.bool a) b))
def F187 (K:Value→Wa1→Prop) (h:Wa1) (xa xb xc:Option Addr) (xd xe xf:Int) (xg:Bool):Prop:=
 (g187 K h (Array.push h (.cells #[.pointer xa,.pointer xb,.pointer xc] 202)) xd xe xf xg)
theorem call187 {K:Value→Wa1→Prop} {h:Wa1} {xa xb xc:Option Addr} {xd xe xf:Int} {xg:Bool} (H:F187 K h xa xb xc xd xe xf xg):Wa5 Tryz.prog 187 #[(.agg #[(.pointer xa),(.pointer xb),(.pointer xc)]),(.int .i64 xd),(.int .u64 xe),(.int .u64 xf),(.bool xg)] h K:=
 Wa4 Tryz.func187 (by kernel_rfl) (Eq.mp (by kernel_rfl) H)
abbrev g189 (K:Value→Wa1→Prop) (h H1:Wa1):Prop:=
 (lP H1 (Addr.add ⟨h.size,0,none⟩ 2) λa=>nP a λb=>bd 2 10 (lI .u64 H1 (Addr.add b 4) λb=>nP a λa=>bd 2 10 (stH H1 (Addr.add a 4) (.int .u64 (IntKind.wrap .u64 (b - 1))) λa=>lP a (Addr.add ⟨h.size,0,none⟩ 2) λb=>nP b λb=>stH a (Addr.add b 1) (.int .i64 1) λa=>K (.tuple #[]) a)))
def F189 (K:Value→Wa1→Prop) (h:Wa1) (xa xb xc:Option Addr):Prop:=
 (g189 K h (Array.push h (.cells #[.pointer xa,.pointer xb,.pointer xc] 207)))
theorem call189 {K:Value→Wa1→Prop} {h:Wa1} {xa xb xc:Option Addr} (H:F189 K h xa xb xc):Wa5 Tryz.prog 189 #[(.agg #[(.pointer xa),(.pointer xb),(.pointer xc)])] h K:=
 Wa4 Tryz.func189 (by kernel_rfl) (Eq.mp (by kernel_rfl) H)
abbrev g190 (K:Value→Wa1→Prop) (h H1:Wa1) (xa xb:Int):Prop:=
 (lP H1 ⟨h.size,0,none⟩ λa=>cf 79 #[.pointer a] H1 λa b=>asAgg a λa=>We0 a 15 (Wn6 a λa c d e f g i j k l m n o p q=>stH (Array.push b (.cells #[.int .i64 0,.int .i64 0,.int .i64 0,.int .i64 0,.int .i64 0,.int .i64 0,.int .i64 0,.int .i64 0,.int .i64 0,.int .i64 0,.int .i64 0,.int .i64 0,.int .i64 0,.int .i64 0,.int .i64 0] 117)) ⟨b.size,0,none⟩ a λa=>stH a ⟨b.size,1,none⟩ c λa=>stH a ⟨b.size,2,none⟩ d λa=>stH a ⟨b.size,3,none⟩ e λa=>stH a ⟨b.size,4,none⟩ f λa=>stH a ⟨b.size,5,none⟩ g λa=>stH a ⟨b.size,6,none⟩ i λa=>stH a ⟨b.size,7,none⟩ j λa=>stH a ⟨b.size,8,none⟩ k λa=>stH a ⟨b.size,9,none⟩ l λa=>stH a ⟨b.size,10,none⟩ m λa=>stH a ⟨b.size,11,none⟩ n λa=>stH a ⟨b.size,12,none⟩ o λa=>stH a ⟨b.size,13,none⟩ p λa=>stH a ⟨b.size,14,none⟩ q λa=>ldH a ⟨h.size,0,none⟩ λc=>Wb1 c λd=>WF8 a b.size λe f g i j k l m n o p q r s t=>ldH a ⟨h.size,1,none⟩ λu=>Wb1 u λv=>nP v λv=>ldH a v λw=>asInt .i64 w λx=>WF8 a b.size λy z A B C D E F G H I J L M N=>cf 233 #[.agg #[y,z,A,B,C,D,E,F,G,H,I,J,L,M,N]] a λa y=>asInt .i64 a λa=>((Wa2 y v)=(some w))∧(ce y h.size 1 u (ZB5 y b.size e f g i j k l m n o p q r s t (ce y h.size 0 c (cf 232 #[.agg #[e,f,g,i,j,k,l,m,n,o,p,q,r,s,t],.int .i64 x,.int .i64 (IntKind.wrap .i64 ((IntKind.wrap .i64 (a - 1)) - (IntKind.wrap .i64 (IntKind.wrap .u64 ((((BitVec.ofInt 64 xa) &&& (BitVec.ofInt 64 1)).toNat:Nat):Int)))))] y λa b=>asInt .i64 a λa=>ce b h.size 0 c (cf 212 #[.pointer d,.int .i64 a,.int .u64 xb] b λa a=>K (.tuple #[]) a)))))))
def F190 (K:Value→Wa1→Prop) (h:Wa1) (xa xb xc:Option Addr) (xd xe:Int):Prop:=
 (g190 K h (Array.push h (.cells #[.pointer xa,.pointer xb,.pointer xc] 202)) xd xe)
theorem call190 {K:Value→Wa1→Prop} {h:Wa1} {xa xb xc:Option Addr} {xd xe:Int} (H:F190 K h xa xb xc xd xe):Wa5 Tryz.prog 190 #[(.agg #[(.pointer xa),(.pointer xb),(.pointer xc)]),(.int .u64 xd),(.int .u64 xe)] h K:=
 Wa4 Tryz.func190 (by kernel_rfl) (Eq.mp (by kernel_rfl) H)
abbrev g191 (K:Value→Wa1→Prop) (h H1:Wa1):Prop:=
 (lP H1 (Addr.add ⟨h.size,0,none⟩ 2) λa=>nP a λb=>lI .i64 H1 (Addr.add b 1) λb=>ifB (b == 4) (exI λI5=>(nP a λc=>bd 4 10 (lI .u64 H1 (Addr.add c 6) λc=>nP a λd=>bd 0 10 (lI .u64 H1 (Addr.add d 2) λd=>ifB (c == d) (I5 [.bool true,.bool true] H1) (ldH H1 ⟨h.size,0,none⟩ λc=>Wb1 c λd=>da3 H1 ⟨h.size,0,none⟩ λe f g=>nP a λi=>bd 4 10 (lI .u64 H1 (Addr.add i 6) λi=>cf 182 #[.agg #[e,f,g],.int .u64 i,.int .u64 0] H1 λe f=>asInt .i64 e λe=>ce f h.size 0 c (cf 147 #[.pointer d,.int .i64 e] f λc d=>asInt .u64 c λc=>cf 184 #[.int .u64 c] d λc d=>asBool c λc=>I5 [.bool c,.bool c] d))))))∧(∀(c d:Value) (e:Env) (e:Wa1),(I5 [c,d] e)→(asBool c λc=>ifB c (nP a λc=>stH e (Addr.add c 1) (.int .i64 5) λc=>K (.tuple #[]) c) (nP a λc=>bd 4 10 (ldH e (Addr.add c 6) λd=>asInt .u64 d λf=>nP a λg=>bd 3 10 (lI .u64 e (Addr.add g 5) λg=>cf 183 #[.int .u64 g] e λe g=>asInt .u64 e λe=>((Wa2 g (Addr.add c 6))=(some d))∧(ifB (f == e) (dl3 g h.size λc d e=>cf 189 #[.agg #[c,d,e]] g λc c=>K (.tuple #[]) c) (nP a λc=>stH g (Addr.add c 1) (.int .i64 6) λc=>K (.tuple #[]) c)))))))) (ifB (b == 5) (ldH H1 ⟨h.size,0,none⟩ λb=>Wb1 b λc=>da3 H1 ⟨h.size,0,none⟩ λd e f=>nP a λg=>bd 4 10 (lI .u64 H1 (Addr.add g 6) λg=>nP a λi=>bd 2 10 (lI .u64 H1 (Addr.add i 4) λi=>nP a λj=>cf 182 #[.agg #[d,e,f],.int .u64 g,.int .u64 i] H1 λd e=>asInt .i64 d λd=>ce e h.size 0 b (cf 147 #[.pointer c,.int .i64 d] e λb c=>asInt .u64 b λb=>cf 183 #[.int .u64 b] c λb c=>asInt .u64 b λb=>bd 4 10 (stH c (Addr.add j 6) (.int .u64 b) λb=>nP a λc=>stH b (Addr.add c 1) (.int .i64 2) λb=>nP a λc=>bd 4 10 (lI .u64 b (Addr.add c 6) λc=>ifB (c == 2) (nP a λc=>stH b (Addr.add c 1) (.int .i64 6) λc=>K (.tuple #[]) c) (K (.tuple #[]) b))))))) (da3 H1 ⟨h.size,0,none⟩ λb c d=>da3 H1 ⟨h.size,0,none⟩ λe f g=>nP a λi=>bd 2 10 (lI .u64 H1 (Addr.add i 4) λi=>nP a λj=>bd 3 10 (ldH H1 (Addr.add j 5) λk=>asInt .u64 k λl=>nP a λm=>bd 4 10 (ldH H1 (Addr.add m 6) λn=>asInt .u64 n λo=>cf 182 #[.agg #[e,f,g],.int .u64 1,.int .u64 i] H1 λe f=>asInt .i64 e λe=>((Wa2 f (Addr.add m 6))=(some n))∧(((Wa2 f (Addr.add j 5))=(some k))∧(ce f h.size 0 b (((Wa2 f (Addr.add ⟨h.size,0,none⟩ 1))=(some c))∧(((Wa2 f (Addr.add ⟨h.size,0,none⟩ 2))=(some d))∧(cf 187 #[.agg #[b,c,d],.int .i64 e,.int .u64 l,.int .u64 o,.bool false] f λb c=>asBool b λb=>ifB b (dl3 c h.size λb d e=>cf 189 #[.agg #[b,d,e]] c λb b=>K (.tuple #[]) b) (nP a λa=>stH c (Addr.add a 1) (.int .i64 1) λa=>K (.tuple #[]) a))))))))))))
def F191 (K:Value→Wa1→Prop) (h:Wa1) (xa xb xc:Option Addr):Prop:=
 (g191 K h (Array.push h (.cells #[.pointer xa,.pointer xb,.pointer xc] 207)))
theorem call191 {K:Value→Wa1→Prop} {h:Wa1} {xa xb xc:Option Addr} (H:F191 K h xa xb xc):Wa5 Tryz.prog 191 #[(.agg #[(.pointer xa),(.pointer xb),(.pointer xc)])] h K:=
 Wa4 Tryz.func191 (by kernel_rfl) (Eq.mp (by kernel_rfl) H)
abbrev g192 (K:Value→Wa1→Prop) (h H1:Wa1):Prop:=
 (lP H1 (Addr.add ⟨h.size,0,none⟩ 2) λa=>nP a λb=>lI .i64 H1 (Addr.add b 1) λb=>ifB (b == 0) (lP H1 ⟨h.size,0,none⟩ λc=>nP a λd=>cf 147 #[.pointer c,.int .i64 1] H1 λc e=>asInt .u64 c λc=>bd 0 10 (stH e (Addr.add d 2) (.int .u64 c) λc=>nP a λd=>bd 2 10 (nP a λe=>nP a λf=>stH c (Addr.add d 4) (.int .u64 1) λc=>bd 3 10 (stH c (Addr.add e 5) (.int .u64 0) λc=>bd 4 10 (stH c (Addr.add f 6) (.int .u64 0) λc=>nP a λd=>stH c (Addr.add d 1) (.int .i64 1) λc=>K (.tuple #[]) c))))) (ifB (b == 1) (ldH H1 ⟨h.size,0,none⟩ λc=>Wb1 c λd=>da3 H1 ⟨h.size,0,none⟩ λe f g=>nP a λi=>cf 182 #[.agg #[e,f,g],.int .u64 1,.int .u64 0] H1 λe f=>asInt .i64 e λe=>ce f h.size 0 c (cf 147 #[.pointer d,.int .i64 e] f λc d=>asInt .u64 c λc=>bd 1 10 (stH d (Addr.add i 3) (.int .u64 c) λc=>nP a λd=>bd 1 10 (lI .u64 c (Addr.add d 3) λd=>nP a λe=>bd 5 10 (stH c (Addr.add e 7) (.int .u64 d) λc=>nP a λd=>stH c (Addr.add d 1) (.int .i64 2) λc=>K (.tuple #[]) c))))) (ifB (b == 2) (nP a λc=>stH H1 (Addr.add c 1) (.int .i64 3) λc=>dl3 c h.size λd e f=>cf 273 #[.agg #[d,e,f]] c λc d=>asInt .u64 c λc=>ifB (c == 2) (da3 d ⟨h.size,0,none⟩ λc e f=>cf 185 #[.agg #[c,e,f],.int .u64 3] d λc c=>K (.tuple #[]) c) (K (.tuple #[]) d)) (ifB (b == 3) (da3 H1 ⟨h.size,0,none⟩ λc d e=>nP a λf=>bd 3 10 (ldH H1 (Addr.add f 5) λg=>asInt .u64 g λi=>dl3 H1 h.size λj k l=>cf 273 #[.agg #[j,k,l]] H1 λj k=>asInt .u64 j λj=>((Wa2 k (Addr.add f 5))=(some g))∧(ce k h.size 0 c (((Wa2 k (Addr.add ⟨h.size,0,none⟩ 1))=(some d))∧(((Wa2 k (Addr.add ⟨h.size,0,none⟩ 2))=(some e))∧(cf 190 #[.agg #[c,d,e],.int .u64 i,.int .u64 j] k λc c=>nP a λd=>bd 3 10 (lI .u64 c (Addr.add d 5) λd=>nP a λe=>bd 3 10 (stH c (Addr.add e 5) (.int .u64 (IntKind.wrap .u64 (d+1))) λc=>nP a λd=>stH c (Addr.add d 1) (.int .i64 4) λc=>K (.tuple #[]) c)))))))) (ifB (b == 4) (nP a λb=>stH H1 (Addr.add b 1) (.int .i64 5) λb=>lP b ⟨h.size,0,none⟩ λc=>nP a λd=>bd 0 10 (ldH b (Addr.add d 2) λe=>asInt .u64 e λf=>cf 147 #[.pointer c,.int .i64 1] b λb c=>asInt .u64 b λb=>((Wa2 c (Addr.add d 2))=(some e))∧(ifB (b != f) (nP a λa=>stH c (Addr.add a 1) (.int .i64 0) λa=>K (.tuple #[]) a) (K (.tuple #[]) c)))) (K (.tuple #[]) H1))))))
def F192 (K:Value→Wa1→Prop) (h:Wa1) (xa xb xc:Option Addr):Prop:=
 (g192 K h (Array.push h (.cells #[.pointer xa,.pointer xb,.pointer xc] 208)))
theorem call192 {K:Value→Wa1→Prop} {h:Wa1} {xa xb xc:Option Addr} (H:F192 K h xa xb xc):Wa5 Tryz.prog 192 #[(.agg #[(.pointer xa),(.pointer xb),(.pointer xc)])] h K:=
 Wa4 Tryz.func192 (by kernel_rfl) (Eq.mp (by kernel_rfl) H)
abbrev g193 (K:Value→Wa1→Prop) (h H1:Wa1):Prop:=
 (lP H1 (Addr.add ⟨h.size,0,none⟩ 2) λa=>nP a λb=>lI .i64 H1 (Addr.add b 1) λb=>ifB (b == 5) (nP a λc=>stH H1 (Addr.add c 1) (.int .i64 6) λc=>exI λI7=>(nP a λd=>bd 2 10 (lI .u64 c (Addr.add d 4) λd=>ifB (d != 1) (nP a λd=>bd 4 10 (lI .u64 c (Addr.add d 6) λd=>ifB (d == 0) (ldH c ⟨h.size,0,none⟩ λe=>Wb1 e λf=>da3 c ⟨h.size,0,none⟩ λg i j=>nP a λk=>bd 2 10 (lI .u64 c (Addr.add k 4) λk=>cf 270 #[.agg #[g,i,j],.int .u64 k,.int .i64 2] c λg i=>asInt .i64 g λg=>ce i h.size 0 e (cf 147 #[.pointer f,.int .i64 g] i λe f=>asInt .u64 e λe=>I7 [.bool (d == 0),.bool (e == 1)] f))) (I7 [.bool (d == 0),.bool false] c))) (I7 [.bool false,.bool false] c)))∧(∀(c d:Value) (e:Env) (e:Wa1),(I7 [c,d] e)→(asBool d λc=>ifB c (nP a λc=>bd 2 10 (lI .u64 e (Addr.add c 4) λc=>nP a λd=>bd 4 10 (stH e (Addr.add d 6) (.int .u64 c) λc=>K (.tuple #[]) c))) (K (.tuple #[]) e)))) (ifB (b == 6) (nP a λc=>stH H1 (Addr.add c 1) (.int .i64 8) λc=>nP a λd=>bd 5 10 (lI .u64 c (Addr.add d 7) λd=>cf 184 #[.int .u64 d] c λc d=>asBool c λc=>ifB c (dl3 d h.size λc e f=>nP a λg=>cf 273 #[.agg #[c,e,f]] d λc e=>asInt .u64 c λc=>bd 2 10 (stH e (Addr.add g 4) (.int .u64 c) λc=>nP a λe=>stH c (Addr.add e 1) (.int .i64 7) λc=>K (.tuple #[]) c)) (nP a λc=>lI .i64 d c λc=>ifB (c == 33) (nP a λc=>stH d (Addr.add c 1) (.int .i64 9) λc=>K (.tuple #[]) c) (K (.tuple #[]) d)))) (ifB (b == 7) (ldH H1 ⟨h.size,0,none⟩ λc=>Wb1 c λd=>da3 H1 ⟨h.size,0,none⟩ λe f g=>nP a λi=>bd 2 10 (lI .u64 H1 (Addr.add i 4) λi=>nP a λj=>cf 182 #[.agg #[e,f,g],.int .u64 i,.int .u64 0] H1 λe f=>asInt .i64 e λe=>ce f h.size 0 c (cf 147 #[.pointer d,.int .i64 e] f λc d=>asInt .u64 c λc=>bd 5 10 (stH d (Addr.add j 7) (.int .u64 c) λc=>nP a λd=>stH c (Addr.add d 1) (.int .i64 2) λc=>K (.tuple #[]) c)))) (ifB (b == 8) (nP a λb=>stH H1 (Addr.add b 1) (.int .i64 9) λb=>da3 b ⟨h.size,0,none⟩ λc d e=>da3 b ⟨h.size,0,none⟩ λf g i=>nP a λj=>bd 2 10 (lI .u64 b (Addr.add j 4) λj=>nP a λk=>bd 5 10 (ldH b (Addr.add k 7) λl=>asInt .u64 l λm=>dl3 b h.size λn o p=>cf 182 #[.agg #[f,g,i],.int .u64 j,.int .u64 0] b λb f=>asInt .i64 b λb=>ce f h.size 0 n (ce f h.size 1 o (ce f h.size 2 p (((Wa2 f (Addr.add k 7))=(some l))∧(ce f h.size 0 c (((Wa2 f (Addr.add ⟨h.size,0,none⟩ 1))=(some d))∧(((Wa2 f (Addr.add ⟨h.size,0,none⟩ 2))=(some e))∧(cf 273 #[.agg #[n,o,p]] f λf g=>asInt .u64 f λf=>((Wa2 g (Addr.add k 7))=(some l))∧(ce g h.size 0 c (((Wa2 g (Addr.add ⟨h.size,0,none⟩ 1))=(some d))∧(((Wa2 g (Addr.add ⟨h.size,0,none⟩ 2))=(some e))∧(cf 187 #[.agg #[c,d,e],.int .i64 b,.int .u64 m,.int .u64 f,.bool true] g λb c=>asBool b λb=>ifB (!b) (nP a λb=>bd 3 10 (lI .u64 c (Addr.add b 5) λb=>nP a λd=>bd 3 10 (stH c (Addr.add d 5) (.int .u64 (IntKind.wrap .u64 (b - 1))) λb=>nP a λa=>stH b (Addr.add a 1) (.int .i64 7) λa=>K (.tuple #[]) a))) (K (.tuple #[]) c))))))))))))))) (K (.tuple #[]) H1)))))
def F193 (K:Value→Wa1→Prop) (h:Wa1) (xa xb xc:Option Addr):Prop:=
 (g193 K h (Array.push h (.cells #[.pointer xa,.pointer xb,.pointer xc] 208)))
theorem call193 {K:Value→Wa1→Prop} {h:Wa1} {xa xb xc:Option Addr} (H:F193 K h xa xb xc):Wa5 Tryz.prog 193 #[(.agg #[(.pointer xa),(.pointer xb),(.pointer xc)])] h K:=
 Wa4 Tryz.func193 (by kernel_rfl) (Eq.mp (by kernel_rfl) H)
abbrev g194 (K:Value→Wa1→Prop) (h H1:Wa1):Prop:=
 (lP H1 (Addr.add ⟨h.size,0,none⟩ 2) λa=>nP a λb=>lI .i64 H1 (Addr.add b 1) λb=>ifB (b == 9) (ldH H1 ⟨h.size,0,none⟩ λc=>Wb1 c λd=>da3 H1 ⟨h.size,0,none⟩ λe f g=>dl3 H1 h.size λi j k=>nP a λl=>cf 273 #[.agg #[i,j,k]] H1 λi j=>asInt .u64 i λi=>ce j h.size 0 e (((Wa2 j (Addr.add ⟨h.size,0,none⟩ 1))=(some f))∧(((Wa2 j (Addr.add ⟨h.size,0,none⟩ 2))=(some g))∧(ce j h.size 0 c (cf 270 #[.agg #[e,f,g],.int .u64 i,.int .i64 1] j λe f=>asInt .i64 e λe=>ce f h.size 0 c (cf 147 #[.pointer d,.int .i64 e] f λc d=>asInt .u64 c λc=>bd 6 10 (stH d (Addr.add l 8) (.int .u64 c) λc=>nP a λd=>stH c (Addr.add d 1) (.int .i64 10) λc=>K (.tuple #[]) c))))))) (ifB (b == 10) (ldH H1 ⟨h.size,0,none⟩ λb=>Wb1 b λc=>da3 H1 ⟨h.size,0,none⟩ λd e f=>dl3 H1 h.size λg i j=>nP a λk=>cf 273 #[.agg #[g,i,j]] H1 λg i=>asInt .u64 g λg=>ce i h.size 0 d (((Wa2 i (Addr.add ⟨h.size,0,none⟩ 1))=(some e))∧(((Wa2 i (Addr.add ⟨h.size,0,none⟩ 2))=(some f))∧(ce i h.size 0 b (cf 270 #[.agg #[d,e,f],.int .u64 g,.int .i64 0] i λd e=>asInt .i64 d λd=>ce e h.size 0 b (cf 147 #[.pointer c,.int .i64 d] e λb c=>asInt .u64 b λb=>cf 274 #[.int .u64 b] c λb c=>asInt .u32 b λb=>bd 8 10 (stH c (Addr.add k 10) (.int .u64 (IntKind.wrap .u64 b)) λb=>nP a λc=>stH b (Addr.add c 1) (.int .i64 11) λb=>exI λI50=>(exI λI51=>(nP a λc=>lI .i64 b c λc=>ifB (c == 33) (I51 [.bool true] b) (nP a λc=>bd 3 10 (ldH b (Addr.add c 5) λd=>asInt .u64 d λe=>lP b ⟨h.size,0,none⟩ λf=>cf 79 #[.pointer f] b λb f=>asAgg b λb=>We0 b 15 (Wn6 b λb g i j k l m n o p q r s t u=>((Wa2 f (Addr.add c 5))=(some d))∧(cf 139 #[.agg #[b,g,i,j,k,l,m,n,o,p,q,r,s,t,u]] f λb f=>asAgg b λb=>We0 b 7 (de7 b λb b b b b g g=>((Wa2 f (Addr.add c 5))=(some d))∧(asInt .i64 b λb=>I51 [.bool (decide (e < (IntKind.wrap .u64 b)))] f)))))))∧(∀(b:Value) (c:Env) (c:Wa1),(I51 [b] c)→(asBool b λb=>ifB b (nP a λb=>stH c (Addr.add b 1) (.int .i64 14) λb=>I50 [] b) (I50 [] c))))∧(∀(b:Env) (b:Wa1),(I50 [] b)→(nP a λc=>bd 4 10 (lI .u64 b (Addr.add c 6) λc=>ifB (c == 0) (dl3 b h.size λc d e=>nP a λa=>cf 273 #[.agg #[c,d,e]] b λc d=>asInt .u64 c λc=>bd 4 10 (stH d (Addr.add a 6) (.int .u64 c) λa=>K (.tuple #[]) a)) (K (.tuple #[]) b))))))))))) (K (.tuple #[]) H1)))
def F194 (K:Value→Wa1→Prop) (h:Wa1) (xa xb xc:Option Addr):Prop:=
 (g194 K h (Array.push h (.cells #[.pointer xa,.pointer xb,.pointer xc] 208)))
theorem call194 {K:Value→Wa1→Prop} {h:Wa1} {xa xb xc:Option Addr} (H:F194 K h xa xb xc):Wa5 Tryz.prog 194 #[(.agg #[(.pointer xa),(.pointer xb),(.pointer xc)])] h K:=
 Wa4 Tryz.func194 (by kernel_rfl) (Eq.mp (by kernel_rfl) H)
abbrev g195 (K:Value→Wa1→Prop) (h H1:Wa1):Prop:=
 (lP H1 (Addr.add ⟨h.size,0,none⟩ 2) λa=>nP a λb=>lI .i64 H1 (Addr.add b 1) λb=>ifB (b == 11) (nP a λc=>stH H1 (Addr.add c 1) (.int .i64 14) λc=>da3 c ⟨h.size,0,none⟩ λd e f=>da3 c ⟨h.size,0,none⟩ λg i j=>nP a λk=>bd 1 10 (ldH c (Addr.add k 3) λl=>asInt .u64 l λm=>nP a λn=>bd 4 10 (ldH c (Addr.add n 6) λo=>asInt .u64 o λp=>cf 182 #[.agg #[g,i,j],.int .u64 1,.int .u64 0] c λc g=>asInt .i64 c λc=>((Wa2 g (Addr.add n 6))=(some o))∧(((Wa2 g (Addr.add k 3))=(some l))∧(ce g h.size 0 d (((Wa2 g (Addr.add ⟨h.size,0,none⟩ 1))=(some e))∧(((Wa2 g (Addr.add ⟨h.size,0,none⟩ 2))=(some f))∧(cf 187 #[.agg #[d,e,f],.int .i64 c,.int .u64 m,.int .u64 p,.bool true] g λc d=>asBool c λc=>ifB c (nP a λc=>stH d (Addr.add c 1) (.int .i64 12) λc=>K (.tuple #[]) c) (K (.tuple #[]) d))))))))) (ifB (b == 12) (da3 H1 ⟨h.size,0,none⟩ λc d e=>cf 186 #[.agg #[c,d,e],.int .i64 13,.int .i64 36,.slice (some ⟨H1.size,0,none⟩) 1 1] (Array.push H1 (.cells #[.int .u64 0] 178)) λc c=>K (.tuple #[]) c) (ifB (b == 13) (da3 H1 ⟨h.size,0,none⟩ λb c d=>nP a λe=>bd 1 10 (lI .u64 H1 (Addr.add e 3) λe=>nP a λf=>bd 4 10 (ldH H1 (Addr.add f 6) λg=>asInt .u64 g λi=>cf 183 #[.int .u64 e] H1 λe j=>asInt .u64 e λe=>((Wa2 j (Addr.add f 6))=(some g))∧(ce j h.size 0 b (((Wa2 j (Addr.add ⟨h.size,0,none⟩ 1))=(some c))∧(((Wa2 j (Addr.add ⟨h.size,0,none⟩ 2))=(some d))∧(((Wa2 (Array.push j (.cells #[.int .u64 e,.int .u64 i] 178)) ⟨h.size,0,none⟩)=(some b))∧(((Wa2 (Array.push j (.cells #[.int .u64 e,.int .u64 i] 178)) (Addr.add ⟨h.size,0,none⟩ 1))=(some c))∧(((Wa2 (Array.push j (.cells #[.int .u64 e,.int .u64 i] 178)) (Addr.add ⟨h.size,0,none⟩ 2))=(some d))∧(cf 186 #[.agg #[b,c,d],.int .i64 14,.int .i64 35,.slice (some ⟨j.size,0,none⟩) 2 2] (Array.push j (.cells #[.int .u64 e,.int .u64 i] 178)) λb b=>K (.tuple #[]) b)))))))))) (da3 H1 ⟨h.size,0,none⟩ λb c d=>nP a λe=>bd 8 10 (lI .u64 H1 (Addr.add e 10) λe=>nP a λa=>bd 6 10 (lI .u64 H1 (Addr.add a 8) λa=>cf 271 #[.agg #[b,c,d],.int .u64 2,.int .u64 e,.int .u64 a] H1 λa a=>K (.tuple #[]) a))))))
def F195 (K:Value→Wa1→Prop) (h:Wa1) (xa xb xc:Option Addr):Prop:=
 (g195 K h (Array.push h (.cells #[.pointer xa,.pointer xb,.pointer xc] 208)))
theorem call195 {K:Value→Wa1→Prop} {h:Wa1} {xa xb xc:Option Addr} (H:F195 K h xa xb xc):Wa5 Tryz.prog 195 #[(.agg #[(.pointer xa),(.pointer xb),(.pointer xc)])] h K:=
 Wa4 Tryz.func195 (by kernel_rfl) (Eq.mp (by kernel_rfl) H)
abbrev g262 (K:Value→Wa1→Prop) (h H1:Wa1):Prop:=
 (lP H1 (Addr.add ⟨h.size,0,none⟩ 2) λa=>lP H1 ⟨h.size,0,none⟩ λb=>nP a λc=>cf 147 #[.pointer b,.int .i64 1] H1 λb d=>asInt .u64 b λb=>bd 1 10 (stH d (Addr.add c 3) (.int .u64 b) λb=>nP a λc=>bd 3 10 (nP a λd=>stH b (Addr.add c 5) (.int .u64 1) λb=>bd 5 10 (stH b (Addr.add d 7) (.int .u64 0) λb=>lP b ⟨h.size,0,none⟩ λc=>nP a λd=>cf 79 #[.pointer c] b λb c=>asAgg b λb=>We0 b 15 (Wn6 b λb e f g i j k l m n o p q r s=>cf 139 #[.agg #[b,e,f,g,i,j,k,l,m,n,o,p,q,r,s]] c λb c=>asAgg b λb=>We0 b 7 (de7 b λb b b b e e e=>asInt .i64 b λb=>bd 2 10 (stH c (Addr.add d 4) (.int .u64 (IntKind.wrap .u64 (IntKind.wrap .i64 (b - 1)))) λb=>nP a λa=>stH b (Addr.add a 1) (.int .i64 1) λa=>K (.tuple #[]) a)))))))
def F262 (K:Value→Wa1→Prop) (h:Wa1) (xa xb xc:Option Addr):Prop:=
 (g262 K h (Array.push h (.cells #[.pointer xa,.pointer xb,.pointer xc] 254)))
theorem call262 {K:Value→Wa1→Prop} {h:Wa1} {xa xb xc:Option Addr} (H:F262 K h xa xb xc):Wa5 Tryz.prog 262 #[(.agg #[(.pointer xa),(.pointer xb),(.pointer xc)])] h K:=
 Wa4 Tryz.func262 (by kernel_rfl) (Eq.mp (by kernel_rfl) H)
abbrev g263 (K:Value→Wa1→Prop) (h H1:Wa1) (xa:Int):Prop:=
 (lP H1 ⟨h.size,0,none⟩ λa=>ldH H1 ⟨h.size,1,none⟩ λb=>Wb1 b λc=>nP c λc=>ldH H1 c λd=>asInt .i64 d λe=>cf 79 #[.pointer a] H1 λa f=>asAgg a λa=>We0 a 15 (Wn6 a λa g i j k l m n o p q r s t u=>((Wa2 f c)=(some d))∧(ce f h.size 1 b (cf 232 #[.agg #[a,g,i,j,k,l,m,n,o,p,q,r,s,t,u],.int .i64 e,.int .i64 xa] f λa b=>asInt .i64 a λa=>K (.int .i64 a) b))))
def F263 (K:Value→Wa1→Prop) (h:Wa1) (xa xb xc:Option Addr) (xd:Int):Prop:=
 (g263 K h (Array.push h (.cells #[.pointer xa,.pointer xb,.pointer xc] 252)) xd)
theorem call263 {K:Value→Wa1→Prop} {h:Wa1} {xa xb xc:Option Addr} {xd:Int} (H:F263 K h xa xb xc xd):Wa5 Tryz.prog 263 #[(.agg #[(.pointer xa),(.pointer xb),(.pointer xc)]),(.int .i64 xd)] h K:=
 Wa4 Tryz.func263 (by kernel_rfl) (Eq.mp (by kernel_rfl) H)
abbrev g264 (K:Value→Wa1→Prop) (h H1:Wa1):Prop:=
 (lP H1 ⟨h.size,2,none⟩ λa=>nP a λa=>bd 2 10 (lI .u64 H1 (Addr.add a 4) λa=>K (.int .i64 (IntKind.wrap .i64 a)) H1))
def F264 (K:Value→Wa1→Prop) (h:Wa1) (xa xb xc:Option Addr):Prop:=
 (g264 K h (Array.push h (.cells #[.pointer xa,.pointer xb,.pointer xc] 252)))
theorem call264 {K:Value→Wa1→Prop} {h:Wa1} {xa xb xc:Option Addr} (H:F264 K h xa xb xc):Wa5 Tryz.prog 264 #[(.agg #[(.pointer xa),(.pointer xb),(.pointer xc)])] h K:=
 Wa4 Tryz.func264 (by kernel_rfl) (Eq.mp (by kernel_rfl) H)
abbrev g265 (K:Value→Wa1→Prop) (h H1:Wa1) (xa xb:Int):Prop:=
 (lP H1 ⟨h.size,0,none⟩ λa=>cf 79 #[.pointer a] H1 λa b=>asAgg a λa=>We0 a 15 (Wn6 a λa c d e f g i j k l m n o p q=>cf 143 #[.agg #[a,c,d,e,f,g,i,j,k,l,m,n,o,p,q],.int .i64 (IntKind.wrap .i64 xa),.int .i64 xb] b λa b=>asInt .i64 a λa=>K (.int .i64 a) b))
def F265 (K:Value→Wa1→Prop) (h:Wa1) (xa xb xc:Option Addr) (xd xe:Int):Prop:=
 (g265 K h (Array.push h (.cells #[.pointer xa,.pointer xb,.pointer xc] 252)) xd xe)
theorem call265 {K:Value→Wa1→Prop} {h:Wa1} {xa xb xc:Option Addr} {xd xe:Int} (H:F265 K h xa xb xc xd xe):Wa5 Tryz.prog 265 #[(.agg #[(.pointer xa),(.pointer xb),(.pointer xc)]),(.int .u64 xd),(.int .i64 xe)] h K:=
 Wa4 Tryz.func265 (by kernel_rfl) (Eq.mp (by kernel_rfl) H)
abbrev g266 (K:Value→Wa1→Prop) (h H1:Wa1):Prop:=
 (dl3 H1 h.size λa b c=>cf 299 #[.agg #[a,b,c]] H1 λa b=>asInt .u64 a λa=>cf 146 #[.int .u64 a] b λa b=>asInt .i64 a λa=>K (.int .u64 (IntKind.wrap .u64 a)) b)
def F266 (K:Value→Wa1→Prop) (h:Wa1) (xa xb xc:Option Addr):Prop:=
 (g266 K h (Array.push h (.cells #[.pointer xa,.pointer xb,.pointer xc] 252)))
theorem call266 {K:Value→Wa1→Prop} {h:Wa1} {xa xb xc:Option Addr} (H:F266 K h xa xb xc):Wa5 Tryz.prog 266 #[(.agg #[(.pointer xa),(.pointer xb),(.pointer xc)])] h K:=
 Wa4 Tryz.func266 (by kernel_rfl) (Eq.mp (by kernel_rfl) H)
abbrev g267 (K:Value→Wa1→Prop) (h H1:Wa1):Prop:=
 (ldH H1 (Addr.add ⟨h.size,0,none⟩ 2) λa=>Wb1 a λb=>da3 H1 ⟨h.size,0,none⟩ λc d e=>cf 264 #[.agg #[c,d,e]] H1 λc d=>asInt .i64 c λc=>((Wa2 d (Addr.add ⟨h.size,0,none⟩ 2))=(some a))∧(ldH d (Addr.add ⟨h.size,0,none⟩ 1) λa=>Wb1 a λe=>nP e λe=>ldH d (Addr.add e 5) λf=>Wb5 f λg i j=>ldH d (Addr.add ⟨h.size,0,none⟩ 1) λj=>Wb1 j λk=>nP k λk=>ldH d (Addr.add k 7) λl=>Wb5 l λm n o=>ldH d (Addr.add ⟨h.size,0,none⟩ 1) λo=>Wb1 o λp=>nP p λp=>ldH d (Addr.add p 6) λq=>Wb5 q λr s t=>nP b λt=>bd 3 10 (ldH d (Addr.add t 5) λu=>asInt .u64 u λv=>nP b λw=>bd 4 10 (ldH d (Addr.add w 6) λx=>asInt .u64 x λy=>da3 d ⟨h.size,0,none⟩ λz A B=>cf 266 #[.agg #[z,A,B]] d λd z=>asInt .u64 d λd=>((Wa2 z (Addr.add w 6))=(some x))∧(((Wa2 z (Addr.add t 5))=(some u))∧(((Wa2 z (Addr.add p 6))=(some q))∧(((Wa2 z (Addr.add ⟨h.size,0,none⟩ 1))=(some o))∧(((Wa2 z (Addr.add k 7))=(some l))∧(((Wa2 z (Addr.add ⟨h.size,0,none⟩ 1))=(some j))∧(((Wa2 z (Addr.add e 5))=(some f))∧(((Wa2 z (Addr.add ⟨h.size,0,none⟩ 1))=(some a))∧(bd c (i:Int) (Wd2 (.pointer g) λa=>stH z (Addr.add a (c.toNat*1)) (.int .u64 v) λa=>bd c (n:Int) (Wd2 (.pointer m) λe=>stH a (Addr.add e (c.toNat*1)) (.int .u64 y) λa=>bd c (s:Int) (Wd2 (.pointer r) λe=>stH a (Addr.add e (c.toNat*1)) (.int .u64 d) λa=>ifB (c == 0) (ldH a (Addr.add ⟨h.size,0,none⟩ 1) λc=>Wb1 c λd=>nP b λe=>bd 5 10 (lI .u64 a (Addr.add e 7) λe=>((Wa2 (Array.push a (.cells #[.int .u64 e] 178)) (Addr.add ⟨h.size,0,none⟩ 1))=(some c))∧(cf 106 #[.pointer d,.slice (some ⟨a.size,0,none⟩) 1 1] (Array.push a (.cells #[.int .u64 e] 178)) λc c=>K (.tuple #[]) c))) (nP b λc=>bd 2 10 (lI .u64 a (Addr.add c 4) λc=>nP b λd=>bd 2 10 (stH a (Addr.add d 4) (.int .u64 (IntKind.wrap .u64 (c - 1))) λa=>nP b λb=>stH a (Addr.add b 1) (.int .i64 1) λa=>K (.tuple #[]) a))))))))))))))))))
def F267 (K:Value→Wa1→Prop) (h:Wa1) (xa xb xc:Option Addr):Prop:=
 (g267 K h (Array.push h (.cells #[.pointer xa,.pointer xb,.pointer xc] 254)))
theorem call267 {K:Value→Wa1→Prop} {h:Wa1} {xa xb xc:Option Addr} (H:F267 K h xa xb xc):Wa5 Tryz.prog 267 #[(.agg #[(.pointer xa),(.pointer xb),(.pointer xc)])] h K:=
 Wa4 Tryz.func267 (by kernel_rfl) (Eq.mp (by kernel_rfl) H)
abbrev g268 (K:Value→Wa1→Prop) (h H1:Wa1):Prop:=
 (lP H1 (Addr.add ⟨h.size,0,none⟩ 2) λa=>lP H1 ⟨h.size,0,none⟩ λb=>nP a λc=>bd 1 10 (ldH H1 (Addr.add c 3) λd=>asInt .u64 d λe=>cf 147 #[.pointer b,.int .i64 1] H1 λb f=>asInt .u64 b λb=>((Wa2 f (Addr.add c 3))=(some d))∧(ifB (b != e) (nP a λb=>stH f (Addr.add b 1) (.int .i64 0) λb=>K (.tuple #[]) b) (exI λI12=>(da3 f ⟨h.size,0,none⟩ λb c d=>cf 264 #[.agg #[b,c,d]] f λb c=>asInt .i64 b λb=>ifB (b == 0) (da3 c ⟨h.size,0,none⟩ λb d e=>cf 299 #[.agg #[b,d,e]] c λb d=>asInt .u64 b λb=>cf 226 #[.int .u64 b] d λb d=>asBool b λb=>I12 [.bool b,.bool b] d) (I12 [.bool false,.bool false] c))∧(∀(b c:Value) (d:Env) (d:Wa1),(I12 [b,c] d)→(asBool b λb=>ifB b (da3 d ⟨h.size,0,none⟩ λb c e=>nP a λf=>cf 266 #[.agg #[b,c,e]] d λb c=>asInt .u64 b λb=>bd 5 10 (stH c (Addr.add f 7) (.int .u64 b) λb=>dl3 b h.size λc e f=>cf 269 #[.agg #[c,e,f]] b λb b=>K (.tuple #[]) b)) (da3 d ⟨h.size,0,none⟩ λb c e=>cf 264 #[.agg #[b,c,e]] d λb c=>asInt .i64 b λb=>ifB (decide (b > 0)) (nP a λb=>stH c (Addr.add b 1) (.int .i64 5) λb=>K (.tuple #[]) b) (nP a λa=>stH c (Addr.add a 1) (.int .i64 6) λa=>K (.tuple #[]) a))))))))
def F268 (K:Value→Wa1→Prop) (h:Wa1) (xa xb xc:Option Addr):Prop:=
 (g268 K h (Array.push h (.cells #[.pointer xa,.pointer xb,.pointer xc] 254)))
theorem call268 {K:Value→Wa1→Prop} {h:Wa1} {xa xb xc:Option Addr} (H:F268 K h xa xb xc):Wa5 Tryz.prog 268 #[(.agg #[(.pointer xa),(.pointer xb),(.pointer xc)])] h K:=
 Wa4 Tryz.func268 (by kernel_rfl) (Eq.mp (by kernel_rfl) H)
abbrev g269 (K:Value→Wa1→Prop) (h H1:Wa1):Prop:=
 (ldH H1 (Addr.add ⟨h.size,0,none⟩ 2) λa=>Wb1 a λb=>da3 H1 ⟨h.size,0,none⟩ λc d e=>nP b λb=>cf 266 #[.agg #[c,d,e]] H1 λc d=>asInt .u64 c λc=>((Wa2 d (Addr.add ⟨h.size,0,none⟩ 2))=(some a))∧(bd 3 10 (stH d (Addr.add b 5) (.int .u64 c) λa=>lP a (Addr.add ⟨h.size,0,none⟩ 2) λb=>nP b λb=>stH a (Addr.add b 1) (.int .i64 1) λa=>K (.tuple #[]) a)))
def F269 (K:Value→Wa1→Prop) (h:Wa1) (xa xb xc:Option Addr):Prop:=
 (g269 K h (Array.push h (.cells #[.pointer xa,.pointer xb,.pointer xc] 254)))
theorem call269 {K:Value→Wa1→Prop} {h:Wa1} {xa xb xc:Option Addr} (H:F269 K h xa xb xc):Wa5 Tryz.prog 269 #[(.agg #[(.pointer xa),(.pointer xb),(.pointer xc)])] h K:=
 Wa4 Tryz.func269 (by kernel_rfl) (Eq.mp (by kernel_rfl) H)
abbrev g270 (K:Value→Wa1→Prop) (h H1:Wa1) (xa xb:Int):Prop:=
 (lP H1 ⟨h.size,0,none⟩ λa=>cf 79 #[.pointer a] H1 λa b=>asAgg a λa=>We0 a 15 (Wn6 a λa c d e f g i j k l m n o p q=>cf 143 #[.agg #[a,c,d,e,f,g,i,j,k,l,m,n,o,p,q],.int .i64 (IntKind.wrap .i64 xa),.int .i64 xb] b λa b=>asInt .i64 a λa=>K (.int .i64 a) b))
def F270 (K:Value→Wa1→Prop) (h:Wa1) (xa xb xc:Option Addr) (xd xe:Int):Prop:=
 (g270 K h (Array.push h (.cells #[.pointer xa,.pointer xb,.pointer xc] 202)) xd xe)
theorem call270 {K:Value→Wa1→Prop} {h:Wa1} {xa xb xc:Option Addr} {xd xe:Int} (H:F270 K h xa xb xc xd xe):Wa5 Tryz.prog 270 #[(.agg #[(.pointer xa),(.pointer xb),(.pointer xc)]),(.int .u64 xd),(.int .i64 xe)] h K:=
 Wa4 Tryz.func270 (by kernel_rfl) (Eq.mp (by kernel_rfl) H)
abbrev g271 (K:Value→Wa1→Prop) (h H1:Wa1) (xa xb xc:Int):Prop:=
 (lP H1 ⟨h.size,2,none⟩ λa=>ldH H1 ⟨h.size,2,none⟩ λb=>Wb1 b λc=>ldH H1 ⟨h.size,2,none⟩ λd=>Wb1 d λe=>nP a λa=>bd 7 10 (nP c λc=>nP e λe=>stH H1 (Addr.add a 9) (.int .u64 xa) λa=>ce a h.size 2 d (ce a h.size 2 b (bd 8 10 (stH a (Addr.add c 10) (.int .u64 xb) λa=>ce a h.size 2 d (bd 9 10 (stH a (Addr.add e 11) (.int .u64 xc) λa=>dl3 a h.size λb c d=>cf 186 #[.agg #[b,c,d],.int .i64 90,.int .i64 4,.slice none 0 0] a λa a=>K (.tuple #[]) a)))))))
def F271 (K:Value→Wa1→Prop) (h:Wa1) (xa xb xc:Option Addr) (xd xe xf:Int):Prop:=
 (g271 K h (Array.push h (.cells #[.pointer xa,.pointer xb,.pointer xc] 202)) xd xe xf)
theorem call271 {K:Value→Wa1→Prop} {h:Wa1} {xa xb xc:Option Addr} {xd xe xf:Int} (H:F271 K h xa xb xc xd xe xf):Wa5 Tryz.prog 271 #[(.agg #[(.pointer xa),(.pointer xb),(.pointer xc)]),(.int .u64 xd),(.int .u64 xe),(.int .u64 xf)] h K:=
 Wa4 Tryz.func271 (by kernel_rfl) (Eq.mp (by kernel_rfl) H)
abbrev g273 (K:Value→Wa1→Prop) (h H1:Wa1):Prop:=
 (lP H1 (Addr.add ⟨h.size,0,none⟩ 2) λa=>nP a λa=>bd 5 10 (lI .u64 H1 (Addr.add a 7) λa=>cf 183 #[.int .u64 a] H1 λa b=>asInt .u64 a λa=>K (.int .u64 a) b))
def F273 (K:Value→Wa1→Prop) (h:Wa1) (xa xb xc:Option Addr):Prop:=
 (g273 K h (Array.push h (.cells #[.pointer xa,.pointer xb,.pointer xc] 208)))
theorem call273 {K:Value→Wa1→Prop} {h:Wa1} {xa xb xc:Option Addr} (H:F273 K h xa xb xc):Wa5 Tryz.prog 273 #[(.agg #[(.pointer xa),(.pointer xb),(.pointer xc)])] h K:=
 Wa4 Tryz.func273 (by kernel_rfl) (Eq.mp (by kernel_rfl) H)
abbrev g299 (K:Value→Wa1→Prop) (h H1:Wa1):Prop:=
 (lP H1 ⟨h.size,2,none⟩ λa=>nP a λa=>bd 4 10 (lI .u64 H1 (Addr.add a 6) λa=>K (.int .u64 a) H1))
def F299 (K:Value→Wa1→Prop) (h:Wa1) (xa xb xc:Option Addr):Prop:=
 (g299 K h (Array.push h (.cells #[.pointer xa,.pointer xb,.pointer xc] 252)))
theorem call299 {K:Value→Wa1→Prop} {h:Wa1} {xa xb xc:Option Addr} (H:F299 K h xa xb xc):Wa5 Tryz.prog 299 #[(.agg #[(.pointer xa),(.pointer xb),(.pointer xc)])] h K:=
 Wa4 Tryz.func299 (by kernel_rfl) (Eq.mp (by kernel_rfl) H)
end
section
open Mod
section
variable {K:Value→Wa1→Prop} {h:Wa1} {M T b o N:Nat} {tv:Value} {fo:Option (Nat × Nat)} {x:Run} {R:Hp}
theorem Zq3 (x:Run) (a:Int):(x.load a).2.m.p=x.m.p:=by
 show (x.m.load a).2.p=x.m.p
 unfold Mac.load
 dsimp only
 have:(x.m.touch a).p=x.m.p:=by unfold Mac.touch;split <;> rfl
 split <;> exact this
theorem Zg4 (w:Int):s64 (Wg8 w)=Wg8 w:=by have:=WJ9 w;unfold s64;omega
theorem Y01 (x:Run) (w f:Int):x.na (Wg8 w) f=x.m.p.node (Wg8 w) f:=by unfold Run.na;rw [Zg4]
theorem Ws8 (H:Sat h (RunS M T tv (some (b,o)) x R)) (k:∀h',Old h.size h h'→K (.int .i64 (s64 (x.f.g 2))) h') :
  Wa5 Tryz.prog 264 #[rV M T b o] h K:=by
 refine call264 ?_
 unfold F264 g264 bd lP lI nP
 have oo:Old h.size h (h.push (.cells #[mP M,mP T,fP b o] 252)):=(Old.refl _ _).push _ (Nat.le_refl _)
 have H1:=RunS.new H (.cells #[mP M,mP T,fP b o] 252);generalize h.push (.cells #[mP M,mP T,fP b o] 252)=h1 at *;generalize h.size=N at *
 refine ss H1 ?_
 exact k h1 oo
theorem WV8 (H:Sat h (RunS M T tv (some (b,o)) x R)) (k:∀h',Old h.size h h'→K (.int .u64 (x.f.g 4)) h') :
  Wa5 Tryz.prog 299 #[rV M T b o] h K:=by
 refine call299 ?_
 unfold F299 g299 bd lP lI nP
 have oo:Old h.size h (h.push (.cells #[mP M,mP T,fP b o] 252)):=(Old.refl _ _).push _ (Nat.le_refl _)
 have H1:=RunS.new H (.cells #[mP M,mP T,fP b o] 252);generalize h.push (.cells #[mP M,mP T,fP b o] 252)=h1 at *;generalize h.size=N at *
 refine ss H1 ?_
 exact k h1 oo
theorem Wm4 (H:Sat h (RunS M T tv (some (b,o)) x R)) (k:∀h',Old h.size h h'→K (.int .u64 (Wg8 (x.f.g 4))) h') :
  Wa5 Tryz.prog 266 #[rV M T b o] h K:=by
 refine call266 ?_
 unfold F266 g266 cf dl3
 have B:=RunS.fB H
 have oo:Old h.size h (h.push (.cells #[mP M,mP T,fP b o] 252)):=(Old.refl _ _).push _ (Nat.le_refl _)
 have s1:=oo.1
 have H1:=RunS.new H (.cells #[mP M,mP T,fP b o] 252);generalize h.push (.cells #[mP M,mP T,fP b o] 252)=h1 at *;generalize h.size=N at *
 refine ss H1 ?_
 refine Wa0 (WV8 H1 λh2 o2=>?_)
 refine sb ?_
 refine Wa0 (Wf1 (B.g 4) ?_)
 refine sb ?_
 exact k h2 (oo.trans (o2.mono s1))
theorem WV9 (H:Sat h (RunS M T tv fo x R)) {n f:Int} (hf:iN f) (k:∀h',Old h.size h h'→K (.int .i64 (x.na n f)) h') :
  Wa5 Tryz.prog 265 #[rV M T b o,.int .u64 n,.int .i64 f] h K:=by
 refine call265 ?_
 unfold F265 g265 cf lP Wn6
 have oo:Old h.size h (h.push (.cells #[mP M,mP T,fP b o] 252)):=(Old.refl _ _).push _ (Nat.le_refl _)
 have s1:=oo.1
 have H1:=RunS.new H (.cells #[mP M,mP T,fP b o] 252);generalize h.push (.cells #[mP M,mP T,fP b o] 252)=h1 at *;generalize h.size=N at *
 refine sl H1 ?_
 refine Wa0 (Wr7 H1 λh2 o2=>WG2 ?_)
 refine Wa0 (Wf4 (RunS.pl H) (Wi4 _) hf λh3 o3=>?_)
 refine sb ?_
 exact k h3 (oo.trans ((o2.trans (o3.mono o2.1)).mono s1))
theorem WW0 (H:Sat h (RunS M T tv (some (b,o)) x R)) (O:Ok x) {i:Int} (hi:iN i) (k:∀h',Old h.size h h'→K (.int .i64 (x.m.p.haz x.id i)) h') :
  Wa5 Tryz.prog 263 #[rV M T b o,.int .i64 i] h K:=by
 refine call263 ?_
 unfold F263 g263 cf ce lP nP Wn6
 have oo:Old h.size h (h.push (.cells #[mP M,mP T,fP b o] 252)):=(Old.refl _ _).push _ (Nat.le_refl _)
 have s1:=oo.1
 have H1:=RunS.new H (.cells #[mP M,mP T,fP b o] 252);generalize h.push (.cells #[mP M,mP T,fP b o] 252)=h1 at *;generalize h.size=N at *
 refine ss H1 ?_
 refine Wa0 (Wr7 H1 λh2 o2=>WG2 ?_)
 have H2:=RunS.old H1 o2
 refine ss H2 ?_
 refine Wa0 (Wp7 (RunS.pl H) O.id hi λh3 o3=>?_)
 refine sb ?_
 exact k h3 (oo.trans ((o2.trans (o3.mono o2.1)).mono s1))
theorem WG9 (H:Sat h (RunS M T tv (some (b,o)) x R)) (k:∀h',Sat h' (RunS M T tv none (WE7 x) R)→K (.tuple #[]) h') :
  Wa5 Tryz.prog 269 #[rV M T b o] h K:=by
 refine call269 ?_
 unfold F269 g269 cf bd lP nP da3
 unfold WE7 at k
 have H1:=RunS.new H (.cells #[mP M,mP T,fP b o] 254);generalize h.push (.cells #[mP M,mP T,fP b o] 254)=h1 at *;generalize h.size=N at *
 refine ss H1 ?_
 refine Wa0 (Wm4 H1 λh2 o2=>?_)
 have H2:=RunS.old H1 o2
 refine ss H2 ?_
 refine RunS.stR (i:=3) H2 rfl (Wj0 _) λh3 H3=>?_
 refine ss H3 ?_
 exact RunS.stP H3 λh4 H4=>k h4 (RunS.drp (RunS.none H4))
theorem Yf6 (H:Sat h (RunS M T tv (some (b,o)) x R)) (O:Ok x) (k:∀h',Sat h' (RunS M T tv none (((((( x.load 1).2.s 1 (x.load 1).1).s 3 1).s 5 0).s 2 (u64 (x.m.p.c.level - 1))).pc 1) R)→K (.tuple #[]) h') :
  Wa5 Tryz.prog 262 #[rV M T b o] h K:=by
 refine call262 ?_
 unfold F262 g262 cf bd lP nP de7 Wn6
 have P:=RunS.pl H
 have H1:=RunS.new H (.cells #[mP M,mP T,fP b o] 254);generalize h.push (.cells #[mP M,mP T,fP b o] 254)=h1 at *;generalize h.size=N at *
 refine ss H1 ?_
 refine Wa0 (Wg2 H1 (by decide) O.st λh2 H2 u2=>?_)
 refine ss H2 ?_
 refine RunS.stR (i:=1) H2 rfl u2 λh3 H3=>?_
 try simp +decide only [Wb8,bsx,Nat.reduceAdd,Int.reduceLE,Int.reduceLT,Int.reduceToNat,rsx,g_s,Wa8,RunS.al H3]
 refine RunS.stR (i:=3) H3 rfl (U.lit rfl) λh4 H4=>?_
 try simp +decide only [Wb8,bsx,Nat.reduceAdd,Int.reduceLE,Int.reduceLT,Int.reduceToNat,rsx,g_s,Wa8,RunS.al H4]
 refine RunS.stR (i:=5) H4 rfl U0 λh5 H5=>?_
 refine ss H5 ?_
 refine Wa0 (Wr7 H5 λh6 o6=>WG2 ?_)
 have H6:=RunS.old H5 o6
 try simp +decide only [Wb8,bsx,Nat.reduceAdd,Int.reduceLE,Int.reduceLT,Int.reduceToNat,rsx,g_s,Wa8,RunS.al H6]
 refine Wa0 (Wh3 λh7 o7=>cf7 ?_)
 have H7:=RunS.old H6 o7
 refine ss H7 ?_
 have em:(x.load 1).2.m.p=x.m.p:=Zq3 x 1
 have em2:(((( x.load 1).2.s 1 (x.load 1).1).s 3 1).s 5 0).m.p=x.m.p:=em
 rw [em2]
 refine RunS.stR (i:=2) H7 rfl (Wj9 _) λh8 H8=>?_
 exact RunS.stP H8 λh9 H9=>k h9 (RunS.drp (RunS.none H9))
theorem WK4 (H:Sat h (RunS M T tv (some (b,o)) x R)) (hr:RowOk x (x.f.g 2)) (k:∀h',Sat h' (RunS M T tv none (Wm3 x) R)→K (.tuple #[]) h') :
  Wa5 Tryz.prog 267 #[rV M T b o] h K:=by
 refine call267 ?_
 unfold F267 g267 cf bd lI nP da3
 have B:=RunS.fB H
 have TB:=RunS.B H
 obtain ⟨⟨r0,r1⟩,e1,e2,e3⟩:=hr
 unfold Wm3 at k
 dsimp only at k
 have H1:=RunS.new H (.cells #[mP M,mP T,fP b o] 254);generalize h.push (.cells #[mP M,mP T,fP b o] 254)=h1 at *;generalize h.size=N at *
 refine ss H1 ?_
 refine Wa0 (Ws8 H1 λh2 o2=>?_)
 have H2:=RunS.old H1 o2
 obtain ⟨pb,sb,wb,Q,hQ,HR,re⟩:=Yo8 H2
 obtain ⟨c5,c6,c7⟩:=hQ h2 _ HR.drop.drop.drop
 have d5:∀F:Value→Prop,ldH h2 ⟨T,5,none⟩ F=F (.slice (some ⟨pb,0,none⟩) x.t.pred.length x.t.pred.length):=λF=>by unfold ldH;rw [c5]
 have d6:∀F:Value→Prop,ldH h2 ⟨T,6,none⟩ F=F (.slice (some ⟨sb,0,none⟩) x.t.succ.length x.t.succ.length):=λF=>by unfold ldH;rw [c6]
 have d7:∀F:Value→Prop,ldH h2 ⟨T,7,none⟩ F=F (.slice (some ⟨wb,0,none⟩) x.t.word.length x.t.word.length):=λF=>by unfold ldH;rw [c7]
 try simp +decide only [Wb8,bsx,Nat.reduceAdd,Int.reduceLE,Int.reduceLT,Int.reduceToNat,rsx,g_s,Wa8,RunS.al H2,d5,d6,d7]
 refine Wa0 (Wm4 H2 λh3 o3=>?_)
 have H3:=RunS.old H2 o3
 have HR3:=HR.old o3
 obtain ⟨c5,c6,c7⟩:=hQ h3 _ HR3.drop.drop.drop
 try simp +decide only [Wb8,bsx,Nat.reduceAdd,Int.reduceLE,Int.reduceLT,Int.reduceToNat,rsx,g_s,Wa8,RunS.al H3,c5,c6,c7]
 refine ⟨r0,by omega,?_⟩
 have hu:∀l:List Int,(uvs l).length=l.length:=W59
 have us:∀(l:List Int) (i:Nat) (v:Int),(uvs l).set i (.int .u64 v)=uvs (l.set i v):=λl i v=>by unfold uvs;rw [List.map_set]
 refine WB9 HR3 (by rw [hu];omega) trivial λh4 H4=>?_
 refine ⟨r0,by omega,?_⟩
 rw [YF7,us] at H4
 refine WB9 H4 (by rw [hu];omega) trivial λh5 H5=>?_
 refine ⟨r0,by omega,?_⟩
 rw [← YF7,us,Wb4] at H5
 refine WB9 H5 (by rw [hu];omega) trivial λh6 H6=>?_
 rw [Wb4,us] at H6
 have H7:=re h6 _ _ _ (by simp) (by simp) (by simp) (Wk5 TB.pr (B.g 3)) (Wk5 TB.su (Wj0 _)) (Wk5 TB.wo (B.g 4)) H6
 have ef:(x.setPl (x.t.pred.set (s64 (x.f.g 2)).toNat (x.f.g 3)) (x.t.succ.set (s64 (x.f.g 2)).toNat (Wg8 (x.f.g 4))) (x.t.word.set (s64 (x.f.g 2)).toNat (x.f.g 4))).f=x.f:=rfl
 try simp +decide only [Wb8,bsx,Nat.reduceAdd,Int.reduceLE,Int.reduceLT,Int.reduceToNat,rsx,g_s,Wa8,RunS.al H7,ef]
 refine Wa3 (λc=>?_) (λc=>?_)
 ·have c':(s64 (x.f.g 2)).toNat=0:=by omega
  rw [if_pos c'] at k
  exact Wa0 (Zz4 H7 [x.f.g 5] rfl (Wn5 (B.g 5)) rfl λh8 H8=>k h8 (RunS.drp H8))
 ·have c':¬ (s64 (x.f.g 2)).toNat=0:=by omega
  rw [if_neg c'] at k
  exact RunS.stR (i:=2) H7 rfl (Wj9 _) λh8 H8=>RunS.stP H8 λh9 H9=>k h9 (RunS.drp (RunS.none H9))
theorem Yf7 (H:Sat h (RunS M T tv (some (b,o)) x R)) (O:Ok x) (k:∀h',Sat h' (RunS M T tv none (WB1 x) R)→K (.tuple #[]) h') :
  Wa5 Tryz.prog 268 #[rV M T b o] h K:=by
 refine call268 ?_
 unfold F268 g268 cf bd lP nP da3 dl3
 have B:=RunS.fB H
 unfold WB1 at k
 dsimp only at k
 have H1:=RunS.new H (.cells #[mP M,mP T,fP b o] 254);generalize h.push (.cells #[mP M,mP T,fP b o] 254)=h1 at *;generalize h.size=N at *
 refine ss H1 ?_
 refine Wa0 (Wg2 H1 (by decide) O.st λh2 H2 u2=>?_)
 refine ss H2 ?_
 refine Wb7 (λc=>?_) (λc=>?_)
 ·rw [if_pos (bne_iff_ne.1 c)] at k
  exact RunS.stP H2 λh3 H3=>k h3 (RunS.drp (RunS.none H3))
 rw [if_neg (λhh=>hh (bne_eq_false_iff_eq.1 c))] at k
 refine ⟨λvs h'=>(∃w,vs = [.bool (decide (s64 (x.f.g 2)=0∧Wp4 (x.f.g 4)=true)),w])∧Sat h' (RunS M T tv (some (b,o)) (x.load 1).2 (pt N (.cells #[mP M,mP T,fP b o] 254)*R)),?_,?_⟩
 ·refine ss H2 ?_
  refine Wa0 (Ws8 H2 λh3 o3=>?_)
  have H3:=RunS.old H2 o3
  refine ss H3 ?_
  refine Wa3 (λc2=>?_) (λc2=>?_)
  ·try simp +decide only [Wb8,bsx,Nat.reduceAdd,Int.reduceLE,Int.reduceLT,Int.reduceToNat,rsx,g_s,Wa8,RunS.al H3]
   refine Wa0 (WV8 H3 λh4 o4=>?_)
   have H4:=RunS.old H3 o4
   refine ss H4 ?_
   refine Wa0 (Wh8 (B.g 4) ?_)
   refine sb ?_
   rw [show decide (s64 (x.f.g 2)=0∧Wp4 (x.f.g 4)=true)=Wp4 (x.f.g 4) by simp [c2]]
   exact ⟨⟨_,rfl⟩,H4⟩
  ·rw [decide_eq_false (p:=s64 (x.f.g 2)=0∧Wp4 (x.f.g 4)=true) (λhh=>c2 hh.1)]
   exact ⟨⟨_,rfl⟩,H3⟩
 rintro v28 v29 g30 h31 ⟨⟨w,e⟩,H3⟩
 cases e
 refine ss H3 ?_
 refine Wa3 (λc2=>?_) (λc2=>?_)
 ·rw [if_pos c2] at k
  refine Wa0 (Wm4 H3 λh4 o4=>?_)
  have H4:=RunS.old H3 o4
  refine ss H4 ?_
  refine RunS.stR (i:=5) H4 rfl (Wj0 _) λh5 H5=>?_
  refine ss H5 ?_
  exact Wa0 (WG9 H5 λh6 H6=>k h6 (RunS.drp H6))
 rw [if_neg c2] at k
 refine Wa0 (Ws8 H3 λh4 o4=>?_)
 have H4:=RunS.old H3 o4
 refine ss H4 ?_
 refine Wa3 (λc3=>?_) (λc3=>?_)
 ·rw [if_pos c3] at k
  exact RunS.stP H4 λh5 H5=>k h5 (RunS.drp (RunS.none H5))
 ·rw [if_neg c3] at k
  exact RunS.stP H4 λh5 H5=>k h5 (RunS.drp (RunS.none H5))
theorem Yp3 (H:Sat h (RunS M T tv (some (b,o)) x R)) (O:Ok x) (hr:x.f.pc≠0→RowOk x (x.f.g 2)) (k:∀h',Sat h' (RunS M T tv none (WT4 x) R)→K (.tuple #[]) h') :
  Wa5 Tryz.prog 176 #[rV M T b o] h K:=by
 refine call176 ?_
 unfold F176 g176 cf ce bd lP lI nP da3 dl3
 have B:=RunS.fB H
 have P:=RunS.pl H
 unfold WT4 at k
 dsimp only at k
 have H1:=RunS.new H (.cells #[mP M,mP T,fP b o] 254);generalize h.push (.cells #[mP M,mP T,fP b o] 254)=h1 at *;generalize h.size=N at *
 refine ss H1 ?_
 refine Wa3 (λc=>?_) (λc=>?_)
 ·rw [if_pos c] at k
  have em:(x.load 1).2.m.p=x.m.p:=Zq3 x 1
  rw [em] at k
  exact Wa0 (Yf6 H1 O λh2 H2=>k h2 (RunS.drp H2))
 rw [if_neg c] at k
 have hr:=hr c
 have hrr:0≤s64 (x.f.g 2)∧s64 (x.f.g 2) < 1000:=⟨hr.r.1,by have:=hr.r.2;have:=hr.e3;omega⟩
 have hr6:s64 (x.f.g 2) < 6:=by have:=hr.r.2;have:=hr.e3;omega
 refine Wa3 (λc=>?_) (λc=>?_)
 ·rw [if_pos c] at k
  refine Wa0 (Ws8 H1 λh3 o3=>?_)
  have H3:=RunS.old H1 o3
  refine ss H3 ?_
  rw [WK3 (n:=2*s64 (x.f.g 2)) (by omega) (by omega)]
  refine Wa0 (WW0 H3 O ⟨by omega,by omega⟩ λh4 o4=>?_)
  have H4:=RunS.old H3 o4
  refine ss H4 ?_
  refine Wa0 (Wi9 H4 (WO1 P _ _) (B.g 3) O.st λh5 H5=>?_)
  exact RunS.stP H5 λh7 H7=>k h7 (RunS.drp (RunS.none H7))
 rw [if_neg c] at k
 refine Wa3 (λc=>?_) (λc=>?_)
 ·rw [if_pos c] at k
  refine Wa0 (Ws8 H1 λh3 o3=>?_)
  have H3:=RunS.old H1 o3
  refine ss H3 ?_
  rw [WK3 (n:=5+s64 (x.f.g 2)) (by omega) (by omega)]
  refine Wa0 (WV9 H3 ⟨by omega,by omega⟩ λh4 o4=>?_)
  have H4:=RunS.old H3 o4
  rw [show x.na (x.f.g 3) (5+s64 (x.f.g 2))=x.nlink (x.f.g 3) (x.f.g 2) from rfl]
  refine ss H4 ?_
  refine Wa0 (Wg2 H4 (Wd1 P _ _) O.st λh5 H5 u5=>?_)
  refine ss H5 ?_
  refine RunS.stR (i:=4) H5 rfl u5 λh6 H6=>RunS.stP H6 λh7 H7=>?_
  refine ss H7 ?_
  refine Wa0 (Wm4 H7 λh8 o8=>?_)
  have H8:=RunS.old H7 o8
  try simp +decide only [Wb8,bsx,Nat.reduceAdd,Int.reduceLE,Int.reduceLT,Int.reduceToNat,rsx,g_s,Wa8,RunS.al H8,B.len]
  refine Wa3 (λc2=>?_) (λc2=>?_)
  ·rw [if_pos c2] at k
   have hr7:RowOk (((x.load (x.nlink (x.f.g 3) (x.f.g 2))).2.s 4 (x.load (x.nlink (x.f.g 3) (x.f.g 2))).1).pc 3) (((((x.load (x.nlink (x.f.g 3) (x.f.g 2))).2.s 4 (x.load (x.nlink (x.f.g 3) (x.f.g 2))).1).pc 3).f.g 2)):=by
    rw [WE8,WP3,f_s,Wa8 _ (by decide),Wl8]
    exact hr.same ⟨rfl,rfl,rfl⟩
   exact Wa0 (WK4 H8 hr7 λh9 H9=>k h9 (RunS.drp H9))
  ·rw [if_neg c2] at k
   exact k h8 (RunS.drp (RunS.none H8))
 rw [if_neg c] at k
 refine Wa3 (λc=>?_) (λc=>?_)
 ·rw [if_pos c] at k
  refine Wa0 (Ws8 H1 λh3 o3=>?_)
  have H3:=RunS.old H1 o3
  refine ss H3 ?_
  rw [WK3 (n:=2*s64 (x.f.g 2)) (by omega) (by omega),WK3 (n:=2*s64 (x.f.g 2)+1) (by omega) (by omega)]
  refine Wa0 (WW0 H3 O ⟨by omega,by omega⟩ λh4 o4=>?_)
  have H4:=RunS.old H3 o4
  refine ss H4 ?_
  refine Wa0 (Wm4 H4 λh5 o5=>?_)
  have H5:=RunS.old H4 o5
  refine ss H5 ?_
  refine Wa0 (Wi9 H5 (WO1 P _ _) (Wj0 _) O.st λh6 H6=>?_)
  exact RunS.stP H6 λh7 H7=>k h7 (RunS.drp (RunS.none H7))
 rw [if_neg c] at k
 refine Wa3 (λc=>?_) (λc=>?_)
 ·rw [if_pos c] at k
  exact Wa0 (Yf7 H1 O λh3 H3=>k h3 (RunS.drp H3))
 rw [if_neg c] at k
 refine Wa3 (λc=>?_) (λc=>?_)
 ·rw [if_pos c] at k
  rw [← Y01] at k
  refine RunS.stP H1 λh2 H2=>?_
  refine ss H2 ?_
  refine Wa0 (Wm4 H2 λh3 o3=>?_)
  have H3:=RunS.old H2 o3
  refine ss H3 ?_
  refine Wa0 (WV9 H3 (by decide) λh4 o4=>?_)
  have H4:=RunS.old H3 o4
  rw [show (x.pc 6).na (Wg8 (x.f.g 4)) 5=x.na (Wg8 (x.f.g 4)) 5 from rfl]
  refine ss H4 ?_
  refine Wa0 (Wg2 H4 (Wd1 P _ _) O.st λh5 H5 u5=>?_)
  refine ss H5 ?_
  refine Wa0 (Wh8 u5 ?_)
  refine ss H5 ?_
  refine Wb7 (λc2=>?_) (λc2=>?_)
  ·rw [if_pos c2] at k
   exact Wa0 (WG9 H5 λh6 H6=>k h6 (RunS.drp H6))
  ·rw [if_neg (by rw [c2];simp)] at k
   exact k h5 (RunS.drp (RunS.none H5))
 rw [if_neg c] at k
 rw [← Y01] at k
 refine Wa0 (Wm4 H1 λh3 o3=>?_)
 have H3:=RunS.old H1 o3
 refine ss H3 ?_
 refine Wa0 (WV9 H3 (by decide) λh4 o4=>?_)
 have H4:=RunS.old H3 o4
 refine ss H4 ?_
 refine Wa0 (Wg2 H4 (Wd1 P _ _) O.st λh5 H5 u5=>?_)
 refine ss H5 ?_
 refine Wa3 (λc2=>?_) (λc2=>?_)
 ·rw [if_pos c2] at k
  exact Wa0 (WG9 H5 λh6 H6=>k h6 (RunS.drp H6))
 ·rw [if_neg c2] at k
  exact Wa0 (WK4 H5 (hr.same ⟨rfl,rfl,rfl⟩) λh6 H6=>k h6 (RunS.drp H6))
def LOk (x:Run):Prop:=x.f.fn=30→x.f.pc≠0→RowOk x (x.f.g 2)
theorem W70 (H:Sat h (RunS M T tv fo x R)) (O:Ok x) (hf:LOk x) (k:∀h',Sat h' (RunS M T tv none (Ws2 x) R)→K (.tuple #[]) h') :
  Wa5 Tryz.prog 115 #[mP M,mP T] h K:=by
 refine call115 ?_
 unfold F115 cf lI nP
 unfold Ws2 at k
 refine Wa0 (Zf2 H (λe=>?_) λb o hne _ H1=>?_)
 ·rw [if_pos e] at k
  refine sb ?_
  refine ⟨λvs h'=>(∃w,vs = [.bool true,w])∧h' = h,⟨⟨_,rfl⟩,rfl⟩,?_⟩
  rintro v4 v5 g6 h7 ⟨⟨w,e⟩,rfl⟩
  cases e
  refine sb ?_
  exact k _ (RunS.none H)
 ·rw [if_neg hne] at k
  refine sb ?_
  refine ⟨λvs h'=>(∃w,vs = [.bool false,w])∧h' = h,⟨⟨_,rfl⟩,rfl⟩,?_⟩
  rintro v4 v5 g6 h7 ⟨⟨w,e⟩,rfl⟩
  cases e
  try simp +decide only [Wb8,bsx,Nat.reduceAdd,Int.reduceLE,Int.reduceLT,Int.reduceToNat,rsx,g_s,Wa8,RunS.r H1]
  refine Wa3 (λc=>?_) (λc=>?_)
  ·rw [if_pos c] at k
   exact Wa0 (Yp3 H1 O (hf c) k)
  rw [if_neg c] at k
  exact Wa0 (Wy6 H1 O k)
end
end
section
open Mod
theorem and1 {n:Int} (h:U n):Mod.u64 ((((BitVec.ofInt 64 n) &&& (BitVec.ofInt 64 1)).toNat:Nat):Int)=n % 2:=by
 obtain ⟨h0,h1⟩:=h
 have e:(BitVec.ofInt 64 n).toNat=n.toNat:=by
  rw [BitVec.toNat_ofInt]
  omega
 rw [BitVec.toNat_and,e,show (BitVec.ofInt 64 1).toNat=1 from rfl,Nat.and_one_is_mod]
 unfold Mod.u64
 omega
section
variable {K:Value→Wa1→Prop} {h:Wa1} {M T b o N:Nat} {tv:Value} {fo:Option (Nat × Nat)} {x:Run} {R:Hp}
theorem Wz1 (H:Sat h (RunS M T tv (some (b,o)) x R)) {pc fn:Int} {a:Option Addr} {l c:Nat} {rs:List Int} (A:Args R a l c rs) (hl:l≤10) (hd:x.t.fr.length < 1073741823)
  (k:∀h' b' o',¬ (b' = b∧o' = o)→WP2 h' (some (b,o)) (x.pc pc).f→Sat h' (RunS M T tv (some (b',o')) (x.call pc fn rs) R)→K (.tuple #[]) h') :
  Wa5 Tryz.prog 186 #[rV M T b o,.int .i64 pc,.int .i64 fn,.slice a l c] h K:=by
 refine call186 ?_
 unfold F186 g186 cf lP nP
 have H1:=RunS.new H (.cells #[mP M,mP T,fP b o] 202);generalize h.push (.cells #[mP M,mP T,fP b o] 202)=h1 at *;generalize h.size=N at *
 try simp only [Wb8,bsx,Nat.reduceAdd,Int.reduceLE,Int.reduceLT,Int.reduceToNat,RunS.l H1]
 refine RunS.stP H1 λh2 H2=>?_
 try simp only [Wb8,bsx,Nat.reduceAdd,Int.reduceLE,Int.reduceLT,Int.reduceToNat,RunS.l H2]
 refine Wa0 (YX0 H2 A.skip hl (by show (x.t.fr.dropLast ++ [_]).length < _;simp;omega) λh3 b' o' h1 h2 H3=>k h3 b' o' (λe=>h1 b o rfl e) h2 (RunS.drp H3))
theorem WH0 (H:Sat h (RunS M T tv (some (b,o)) x R)) {pc fn:Int} {l:Nat} (rs:List Int) {ty:TypeId} (hr:rs.length=l) (hu:∀v ∈ rs,U v) (hl:Nat.ble l 10=true) (hd:x.t.fr.length < 1073741823)
  (k:∀h' b' o',¬ (b' = b∧o' = o)→WP2 h' (some (b,o)) (x.pc pc).f→Sat h' (RunS M T tv (some (b',o')) (x.call pc fn rs) R)→K (.tuple #[]) h') :
  Wa5 Tryz.prog 186 #[rV M T b o,.int .i64 pc,.int .i64 fn,.slice (some ⟨h.size,0,none⟩) l l] (h.push (.cells (uvs rs).toArray ty)) K:=
 Wz1 (RunS.new H (.cells (uvs rs).toArray ty)) (Args.mk' hr hu) (Nat.le_of_ble_eq_true hl) hd λh' b' o' h1 h2 H'=>k h' b' o' h1 h2 (RunS.drp H')
theorem Wo7 (H:Sat h (RunS M T tv fo x R)) {n f:Int} (hf:iN f) (k:∀h',Old h.size h h'→K (.int .i64 (x.na n f)) h') :
  Wa5 Tryz.prog 270 #[rV M T b o,.int .u64 n,.int .i64 f] h K:=by
 refine call270 ?_
 unfold F270 g270 cf lP Wn6
 have oo:Old h.size h (h.push (.cells #[mP M,mP T,fP b o] 202)):=(Old.refl _ _).push _ (Nat.le_refl _)
 have s1:=oo.1
 have H1:=RunS.new H (.cells #[mP M,mP T,fP b o] 202);generalize h.push (.cells #[mP M,mP T,fP b o] 202)=h1 at *;generalize h.size=N at *
 try simp only [Wb8,bsx,Nat.reduceAdd,Int.reduceLE,Int.reduceLT,Int.reduceToNat,RunS.l H1]
 refine Wa0 (Wr7 H1 λh2 o2=>WG2 ?_)
 refine Wa0 (Wf4 (RunS.pl H) (Wi4 _) hf λh3 o3=>?_)
 refine sb ?_
 exact k h3 (oo.trans ((o2.trans (o3.mono o2.1)).mono s1))
theorem Wd7 (H:Sat h (RunS M T tv fo x R)) {n r:Int} (k:∀h',Old h.size h h'→K (.int .i64 (x.nlink n r)) h') :
  Wa5 Tryz.prog 182 #[rV M T b o,.int .u64 n,.int .u64 r] h K:=by
 refine call182 ?_
 unfold F182 g182 cf dl3
 have oo:Old h.size h (h.push (.cells #[mP M,mP T,fP b o] 202)):=(Old.refl _ _).push _ (Nat.le_refl _)
 have s1:=oo.1
 have H1:=RunS.new H (.cells #[mP M,mP T,fP b o] 202);generalize h.push (.cells #[mP M,mP T,fP b o] 202)=h1 at *;generalize h.size=N at *
 try simp only [Wb8,bsx,Nat.reduceAdd,Int.reduceLE,Int.reduceLT,Int.reduceToNat,RunS.l H1]
 refine Wa0 (Wo7 H1 (Wi4 _) λh2 o2=>?_)
 refine sb ?_
 have e:x.na n (s64 (5+s64 r))=x.nlink n r:=YA1 (RunS.pl H) (Wi4 _)
 rw [e]
 exact k h2 (oo.trans (o2.mono s1))
theorem Wn2 (H:Sat h (RunS M T tv fo x R)) {a w t:Int} {mk:Bool} (ha:iN a) (hw:U w) (hs:x.m.mm.st < 1099511627776) (k:∀h',Sat h' (RunS M T tv fo (x.swingM a w t mk).2 R)→K (.bool (x.swingM a w t mk).1) h') :
  Wa5 Tryz.prog 187 #[rV M T b o,.int .i64 a,.int .u64 w,.int .u64 t,.bool mk] h K:=by
 refine call187 ?_
 unfold F187 g187 cf ce
 have H1:=RunS.new H (.cells #[mP M,mP T,fP b o] 202);generalize h.push (.cells #[mP M,mP T,fP b o] 202)=h1 at *;generalize h.size=N at *
 try simp only [Wb8,bsx,Nat.reduceAdd,Int.reduceLE,Int.reduceLT,Int.reduceToNat,RunS.l H1]
 refine Wa0 (Wg9 hw ?_)
 try simp only [Wb8,bsx,Nat.reduceAdd,Int.reduceLE,Int.reduceLT,Int.reduceToNat,RunS.l H1]
 refine Wa0 (Zp5 H1 ha Wp6 hs λh3 H3=>?_)
 refine sb ?_
 exact k h3 (RunS.drp H3)
theorem W24 (H:Sat h (RunS M T tv (some (b,o)) x R)) {k7 k8 k9:Int} (h7:U k7) (h8:U k8) (h9:U k9) (hd:x.t.fr.length < 1073741823)
  (k:∀h' b' o',Sat h' (RunS M T tv (some (b',o')) (x.fin k7 k8 k9) R)→K (.tuple #[]) h') :
  Wa5 Tryz.prog 271 #[rV M T b o,.int .u64 k7,.int .u64 k8,.int .u64 k9] h K:=by
 refine call271 ?_
 unfold F271 g271 cf ce bd lP nP dl3
 have H1:=RunS.new H (.cells #[mP M,mP T,fP b o] 202);generalize h.push (.cells #[mP M,mP T,fP b o] 202)=h1 at *;generalize h.size=N at *
 try simp only [Wb8,bsx,Nat.reduceAdd,Int.reduceLE,Int.reduceLT,Int.reduceToNat,RunS.l H1]
 refine RunS.stR (i:=7) H1 rfl h7 λh2 H2=>?_
 try simp only [Wb8,bsx,Nat.reduceAdd,Int.reduceLE,Int.reduceLT,Int.reduceToNat,RunS.l H2]
 refine RunS.stR (i:=8) H2 rfl h8 λh3 H3=>?_
 try simp only [Wb8,bsx,Nat.reduceAdd,Int.reduceLE,Int.reduceLT,Int.reduceToNat,RunS.l H3]
 refine RunS.stR (i:=9) H3 rfl h9 λh4 H4=>?_
 try simp only [Wb8,bsx,Nat.reduceAdd,Int.reduceLE,Int.reduceLT,Int.reduceToNat,RunS.l H4]
 refine Wa0 (Wz1 H4 Args.none (by omega) ?_ λh5 b' o' h1 h2 H5=>k h5 b' o' (RunS.drp H5))
 have e:=List.length_pos_iff.2 (WU0 (RunS.thr H))
 show ((((x.t.fr.dropLast ++ [_]).dropLast ++ [_]).dropLast) ++ [_]).length < _
 simp
 omega
theorem Wu1 (H:Sat h (RunS M T tv (some (b,o)) x R)) {kd:Int} (h7:U kd) (hd:x.t.fr.length < 1073741823)
  (k:∀h' b' o',Sat h' (RunS M T tv (some (b',o')) (x.fin kd 0 0) R)→K (.tuple #[]) h') :
  Wa5 Tryz.prog 185 #[rV M T b o,.int .u64 kd] h K:=by
 refine call185 ?_
 unfold F185 g185 cf dl3
 have H1:=RunS.new H (.cells #[mP M,mP T,fP b o] 202);generalize h.push (.cells #[mP M,mP T,fP b o] 202)=h1 at *;generalize h.size=N at *
 try simp only [Wb8,bsx,Nat.reduceAdd,Int.reduceLE,Int.reduceLT,Int.reduceToNat,RunS.l H1]
 exact Wa0 (W24 H1 h7 U0 U0 hd λh5 b' o' H5=>k h5 b' o' (RunS.drp H5))
theorem WO3 (H:Sat h (RunS M T tv fo x R)) (O:Ok x) {sl n:Int} (hs:U sl) (hn:U n) (k:∀h',Sat h' (RunS M T tv fo (x.guard sl n) R)→K (.tuple #[]) h') :
  Wa5 Tryz.prog 190 #[rV M T b o,.int .u64 sl,.int .u64 n] h K:=by
 refine call190 ?_
 unfold F190 g190 cf lP nP ZB5 Wn6 WF8 ce
 have P:=RunS.pl H
 have P1:=P.sl
 have H1:=RunS.new H (.cells #[mP M,mP T,fP b o] 202);generalize h.push (.cells #[mP M,mP T,fP b o] 202)=h1 at *;generalize h.size=N at *
 try simp only [Wb8,bsx,Nat.reduceAdd,Int.reduceLE,Int.reduceLT,Int.reduceToNat,RunS.l H1]
 refine Wa0 (Wr7 H1 λh2 o2=>WG2 ?_)
 have H2:=RunS.old H1 o2
 have H3:=RunS.new H2 (.cells #[.int .i64 0,.int .i64 0,.int .i64 0,.int .i64 0,.int .i64 0,.int .i64 0,.int .i64 0,.int .i64 0,.int .i64 0,.int .i64 0,.int .i64 0,.int .i64 0,.int .i64 0,.int .i64 0,.int .i64 0] 117)
 generalize h2.push (.cells #[.int .i64 0,.int .i64 0,.int .i64 0,.int .i64 0,.int .i64 0,.int .i64 0,.int .i64 0,.int .i64 0,.int .i64 0,.int .i64 0,.int .i64 0,.int .i64 0,.int .i64 0,.int .i64 0,.int .i64 0] 117)=h3 at *
 generalize h2.size=N2 at *
 refine Za6 (Wd3 (vs:=plc x.m.p) (RunS.loc H3) rfl (by simp [Wi5]) λh4 w=>?_)
 have H4:=RunS.wr H3 w.new w.old
 clear H3 w
 try simp only [Wb8,bsx,Nat.reduceAdd,Int.reduceLE,Int.reduceLT,Int.reduceToNat,RunS.l2 H4]
 refine Yd9 (RunS.loc H4) ?_
 try simp only [Wb8,bsx,Nat.reduceAdd,Int.reduceLE,Int.reduceLT,Int.reduceToNat,RunS.l2 H4,RunS.tc H4]
 refine Yd9 (RunS.loc H4) ?_
 refine Wa0 (Wn1 λh5 o5=>?_)
 have H5:=RunS.old H4 o5
 try simp only [Wb8,bsx,Nat.reduceAdd,Int.reduceLE,Int.reduceLT,Int.reduceToNat,RunS.l2 H5,RunS.tc H5]
 refine YX8 (RunS.loc H5) ?_
 have es:s64 (s64 (x.m.p.slots - 1) - s64 (Mod.u64 ((((BitVec.ofInt 64 sl) &&& (BitVec.ofInt 64 1)).toNat:Nat):Int)))=x.m.p.slots - 1 - sl % 2:=by
  rw [and1 hs]
  unfold s64
  omega
 try rw [es]
 refine Wa0 (Wp7 P O.id ⟨by omega,by omega⟩ λh6 o6=>?_)
 have H6:=RunS.old H5 o6
 try simp only [Wb8,bsx,Nat.reduceAdd,Int.reduceLE,Int.reduceLT,Int.reduceToNat,RunS.l2 H6]
 exact Wa0 (Wi9 H6 (WO1 P _ _) hn O.st λh7 H7=>k h7 (RunS.drp (RunS.drp H7)))
theorem Wi0 {w:Int} (hw:U w) (k:K (.int .u64 (Wg8 w)) h):Wa5 Tryz.prog 183 #[.int .u64 w] h K:=by
 refine call183 ?_
 unfold F183 cf
 refine Wa0 (Wf1 hw ?_)
 refine sb ?_
 exact k
theorem Wq0 {w:Int} (hw:U w) (k:K (.bool (Wp4 w)) h):Wa5 Tryz.prog 184 #[.int .u64 w] h K:=by
 refine call184 ?_
 unfold F184 cf
 refine Wa0 (Wh8 hw ?_)
 refine sb ?_
 exact k
end
end
section
open Mod
section
variable {K:Value→Wa1→Prop} {h:Wa1} {M T b o N:Nat} {tv:Value} {fo:Option (Nat × Nat)} {x:Run} {R:Hp}
theorem Yp4 {u v w:Int} (h1:U u) (h2:U v) (h3:U w):∀y ∈ [u,v,w],U y:=by
 intro y hy
 simp only [List.mem_cons,List.not_mem_nil,or_false] at hy
 rcases hy with rfl | rfl | rfl
 ·exact h1
 ·exact h2
 ·exact h3
theorem Yp5 (H:Sat h (RunS M T tv (some (b,o)) x R)) (O:Ok x) (k:∀h',Sat h' (RunS M T tv none (WS8 x) R)→K (.tuple #[]) h') :
  Wa5 Tryz.prog 108 #[rV M T b o] h K:=by
 refine call108 ?_
 unfold F108 g108 cf lP lI nP dl3
 have hp:=O.pc
 unfold WS8 at k
 have H1:=RunS.new H (.cells #[mP M,mP T,fP b o] 193);generalize h.push (.cells #[mP M,mP T,fP b o] 193)=h1 at *;generalize h.size=N at *
 refine ss H1 ?_
 refine Wa3 (λc=>?_) (λc=>?_)
 ·rw [if_pos c] at k
  exact Wa0 (Yo5 H1 O c λh2 H2=>k h2 (RunS.drp H2))
 rw [if_neg c] at k
 refine Wa3 (λc=>?_) (λc=>?_)
 ·rw [if_pos c] at k
  exact Wa0 (Yo6 H1 O (by omega) λh2 H2=>k h2 (RunS.drp H2))
 rw [if_neg c] at k
 refine Wa3 (λc=>?_) (λc=>?_)
 ·rw [if_pos c] at k
  exact Wa0 (Yo7 H1 O (by omega) λh2 H2=>k h2 (RunS.drp H2))
 rw [if_neg c] at k
 exact Wa0 (YI4 H1 O λh2 H2=>k h2 (RunS.drp H2))
theorem Yp6 (H:Sat h (RunS M T tv (some (b,o)) x R)) (O:Ok x) (k:∀h',Sat h' (RunS M T tv none (WM3 x) R)→K (.tuple #[]) h') :
  Wa5 Tryz.prog 156 #[rV M T b o] h K:=by
 refine call156 ?_
 unfold F156 g156 cf ce bd lP lI nP da3
 have B:=RunS.fB H
 have P:=RunS.pl H
 have hd:=O.fr
 have r0:=RunS.ret H 0
 unfold WM3 at k
 dsimp only at k
 have H1:=RunS.new H (.cells #[mP M,mP T,fP b o] 194);generalize h.push (.cells #[mP M,mP T,fP b o] 194)=h1 at *;generalize h.size=N at *
 refine ss H1 ?_
 refine Wa0 (Wh9 0 rfl H1 λh2 H2=>?_)
 refine ss H2 ?_
 refine Wa3 (λc=>?_) (λc=>?_)
 ·rw [if_pos c] at k
  refine Wa0 (Wy9 H2 λh3 H3=>?_)
  refine ss H3 ?_
  exact Wa0 (Ww8 H3 [0,u64 (x.at 1)] rfl (Yf0 U0 (Wj9 _)) rfl (by omega) λh4 b' o' _ _ H4=>k h4 (RunS.drp (RunS.none H4)))
 rw [if_neg c] at k
 refine Wa3 (λc=>?_) (λc=>?_)
 ·rw [if_pos c] at k
  refine RunS.stR (i:=0) H2 rfl r0 λh3 H3=>RunS.stP H3 λh4 H4=>?_
  have l1:=Ws4 x 0 (x.ret 0)
  have l2:=WF4 (x.s 0 (x.ret 0)) 2
  refine ss H4 ?_
  refine Wa0 (Wh9 0 rfl H4 λh5 H5=>?_)
  try simp +decide only [Wb8,bsx,Nat.reduceAdd,Int.reduceLE,Int.reduceLT,Int.reduceToNat,rsx,g_s,Wa8,RunS.al H5,B.len]
  refine Wa0 (Wh8 r0 ?_)
  refine ss H5 ?_
  refine Wb7 (λc2=>?_) (λc2=>?_)
  ·rw [if_pos c2] at k
   exact Wa0 (Ww8 H5 [1] rfl (Wn5 (U.lit rfl)) rfl (by omega) λh6 b' o' _ _ H6=>k h6 (RunS.drp (RunS.none H6)))
  ·rw [if_neg (by rw [c2];simp)] at k
   refine Wa0 (Wh9 0 rfl H5 λh6 H6=>?_)
   try simp +decide only [Wb8,bsx,Nat.reduceAdd,Int.reduceLE,Int.reduceLT,Int.reduceToNat,rsx,g_s,Wa8,RunS.al H6,B.len]
   refine Wa0 (Wf1 r0 ?_)
   refine ss H6 ?_
   refine Wa3 (λc3=>?_) (λc3=>?_)
   ·rw [if_pos c3] at k
    exact Wa0 (Ww9 H6 (U.lit rfl) U0 U0 (by omega) λh7 b' o' _ _ H7=>k h7 (RunS.drp (RunS.none H7)))
   ·rw [if_neg c3] at k
    exact k h6 (RunS.drp (RunS.none H6))
 rw [if_neg c] at k
 refine Wa3 (λc=>?_) (λc=>?_)
 ·rw [if_pos c] at k
  refine Wa0 (WE0 H2 (B.g 0) (by decide) λh3 H3=>?_)
  refine ss H3 ?_
  refine Wa0 (Wg2 H3 (Wd1 P _ _) O.st λh4 H4 u4=>?_)
  refine ss H4 ?_
  exact RunS.stR (i:=1) H4 rfl u4 λh5 H5=>RunS.stP H5 λh6 H6=>k h6 (RunS.drp (RunS.none H6))
 rw [if_neg c] at k
 refine Wa3 (λc=>?_) (λc=>?_)
 ·rw [if_pos c] at k
  refine Wa0 (WE0 H2 (B.g 0) (by decide) λh3 H3=>?_)
  refine ss H3 ?_
  refine Wa0 (Wg2 H3 (Wd1 P _ _) O.st λh4 H4 u4=>?_)
  refine ss H4 ?_
  refine RunS.stR (i:=2) H4 rfl u4 λh5 H5=>RunS.stP H5 λh6 H6=>?_
  have l1:=Ws4 (x.load (x.nodeW (x.f.g 0) 1)).2 2 (x.load (x.nodeW (x.f.g 0) 1)).1
  have l2:=WF4 ((x.load (x.nodeW (x.f.g 0) 1)).2.s 2 (x.load (x.nodeW (x.f.g 0) 1)).1) 4
  rw [YX2] at l1
  try simp +decide only [Wb8,bsx,Nat.reduceAdd,Int.reduceLE,Int.reduceLT,Int.reduceToNat,rsx,g_s,Wa8,RunS.al H6,B.len]
  refine Wa3 (λc2=>?_) (λc2=>?_)
  ·rw [if_pos c2] at k
   exact Wa0 (Ww9 H6 (U.lit rfl) (B.g 1) u4 (by omega) λh7 b' o' _ _ H7=>k h7 (RunS.drp (RunS.none H7)))
  ·rw [if_neg c2] at k
   exact k h6 (RunS.drp (RunS.none H6))
 rw [if_neg c] at k
 exact k h2 (RunS.drp (RunS.none H2))
theorem Yp7 (H:Sat h (RunS M T tv (some (b,o)) x R)) (O:Ok x) (k:∀h',Sat h' (RunS M T tv none (WM4 x) R)→K (.tuple #[]) h') :
  Wa5 Tryz.prog 109 #[rV M T b o] h K:=by
 refine call109 ?_
 unfold F109 g109 cf ce bd lP lI nP da3 dl3
 have B:=RunS.fB H
 have P:=RunS.pl H
 have hd:=O.fr
 unfold WM4 at k
 dsimp only at k
 have H1:=RunS.new H (.cells #[mP M,mP T,fP b o] 194);generalize h.push (.cells #[mP M,mP T,fP b o] 194)=h1 at *;generalize h.size=N at *
 refine ss H1 ?_
 refine Wa0 (Wh9 0 rfl H1 λh2 H2=>?_)
 refine ss H2 ?_
 refine Wa3 (λc=>?_) (λc=>?_)
 ·rw [if_pos c] at k
  refine Wa0 (WE0 H2 (B.g 0) (by decide) λh3 H3=>?_)
  refine ss H3 ?_
  refine Wa0 (Wg2 H3 (Wd1 P _ _) O.st λh4 H4 u4=>?_)
  refine ss H4 ?_
  exact RunS.stR (i:=3) H4 rfl u4 λh5 H5=>RunS.stP H5 λh6 H6=>k h6 (RunS.drp (RunS.none H6))
 rw [if_neg c] at k
 refine Wa3 (λc=>?_) (λc=>?_)
 ·rw [if_pos c] at k
  refine RunS.stP H2 λh3 H3=>?_
  have l1:=WF4 x 0
  refine ss H3 ?_
  refine Wa0 (WG5 H3 (B.g 0) O.st λh4 H4=>?_)
  refine ss H4 ?_
  refine Wb7 (λc2=>?_) (λc2=>?_)
  ·rw [if_pos c2] at k
   exact Wa0 (Ww8 H4 [1] rfl (Wn5 (U.lit rfl)) rfl (show (x.pc 0).t.fr.length < _ by omega) λh6 b' o' _ _ H6=>k h6 (RunS.drp (RunS.none H6)))
  ·rw [if_neg (by rw [c2];simp)] at k
   exact k h4 (RunS.drp (RunS.none H4))
 rw [if_neg c] at k
 refine Wa3 (λc=>?_) (λc=>?_)
 ·rw [if_pos c] at k
  refine Wa0 (Wf1 (B.g 0) ?_)
  refine ss H2 ?_
  exact Wa0 (Ww8 H2 [Wg8 (x.f.g 0)] rfl (Wn5 (Wj0 _)) rfl (by omega) λh6 b' o' _ _ H6=>k h6 (by rw [W61];exact RunS.drp (RunS.none H6)))
 rw [if_neg c] at k
 refine Wa3 (λc=>?_) (λc=>?_)
 ·rw [if_pos c] at k
  exact Wa0 (Ww9 H2 (U.lit rfl) (B.g 1) (B.g 2) (by omega) λh7 b' o' _ _ H7=>k h7 (RunS.drp (RunS.none H7)))
 rw [if_neg c] at k
 exact Wa0 (Yp6 H2 O λh3 H3=>k h3 (RunS.drp H3))
theorem WW1 (H:Sat h (RunS M T tv (some (b,o)) x R)) (O:Ok x) (k:∀h',Sat h' (RunS M T tv none (WP0 x) R)→K (.tuple #[]) h') :
  Wa5 Tryz.prog 159 #[rV M T b o] h K:=by
 refine call159 ?_
 unfold F159 g159 cf ce bd lP nP da3
 have B:=RunS.fB H
 have P:=RunS.pl H
 unfold WP0 at k
 dsimp only at k
 have H1:=RunS.new H (.cells #[mP M,mP T,fP b o] 195);generalize h.push (.cells #[mP M,mP T,fP b o] 195)=h1 at *;generalize h.size=N at *
 refine ss H1 ?_
 refine Wa0 (Wh9 1 rfl H1 λh2 H2=>?_)
 refine ss H2 ?_
 refine RunS.stP H2 λh3 H3=>?_
 refine ss H3 ?_
 refine Wa0 (Wf1 (B.g 1) ?_)
 refine ss H3 ?_
 refine Wa0 (WG5 H3 (B.g 1) O.st λh4 H4=>?_)
 refine ss H4 ?_
 refine Wb7 (λc2=>?_) (λc2=>?_)
 ·rw [if_pos c2] at k
  try simp +decide only [Wb8,bsx,Nat.reduceAdd,Int.reduceLE,Int.reduceLT,Int.reduceToNat,rsx,g_s,Wa8,RunS.al H4]
  exact Wa0 (Za8 H4 Args.none (by omega) λh5 H5=>k h5 (RunS.drp H5))
 ·rw [if_neg (by rw [c2];simp)] at k
  exact k h4 (RunS.drp (RunS.none H4))
theorem Yp8 (H:Sat h (RunS M T tv (some (b,o)) x R)) (O:Ok x) (k:∀h',Sat h' (RunS M T tv none (WS9 x) R)→K (.tuple #[]) h') :
  Wa5 Tryz.prog 160 #[rV M T b o] h K:=by
 refine call160 ?_
 unfold F160 g160 cf bd lP lI nP da3 dl3
 have B:=RunS.fB H
 have P:=RunS.pl H
 have hd:=O.fr
 have r0:=RunS.ret H 0
 have r1:=RunS.ret H 1
 unfold WS9 at k
 dsimp only at k
 have H1:=RunS.new H (.cells #[mP M,mP T,fP b o] 195);generalize h.push (.cells #[mP M,mP T,fP b o] 195)=h1 at *;generalize h.size=N at *
 refine ss H1 ?_
 refine Wa3 (λc=>?_) (λc=>?_)
 ·rw [if_pos c] at k
  exact Wa0 (Ww8 H1 [x.f.g 0] rfl (Wn5 (B.g 0)) rfl (by omega) λh4 b' o' _ _ H4=>k h4 (RunS.drp (RunS.none H4)))
 rw [if_neg c] at k
 refine Wa3 (λc=>?_) (λc=>?_)
 ·rw [if_pos c] at k
  refine RunS.stR (i:=1) H1 rfl r0 λh2 H2=>?_
  try simp +decide only [Wb8,bsx,Nat.reduceAdd,Int.reduceLE,Int.reduceLT,Int.reduceToNat,rsx,g_s,Wa8,RunS.al H2]
  refine RunS.stR (i:=2) H2 rfl r1 λh3 H3=>RunS.stP H3 λh4 H4=>?_
  refine ss H4 ?_
  refine Wa0 (Wh9 1 rfl H4 λh5 H5=>?_)
  try simp +decide only [Wb8,bsx,Nat.reduceAdd,Int.reduceLE,Int.reduceLT,Int.reduceToNat,rsx,g_s,Wa8,RunS.al H5,B.len]
  refine Wa0 (Wh8 r0 ?_)
  refine ss H5 ?_
  refine Wb7 (λc2=>?_) (λc2=>?_)
  ·rw [if_neg (by simpa using c2)] at k
   exact Wa0 (Za8 H5 Args.none (by omega) λh6 H6=>k h6 (RunS.drp H6))
  ·rw [if_pos (by simpa using c2)] at k
   exact k h5 (RunS.drp (RunS.none H5))
 rw [if_neg c] at k
 refine Wa3 (λc=>?_) (λc=>?_)
 ·rw [if_pos c] at k
  refine RunS.stP H1 λh2 H2=>?_
  refine ss H2 ?_
  refine Wa0 (Wg2 H2 (by decide) O.st λh3 H3 u3=>?_)
  refine ss H3 ?_
  refine Wa0 (Yo4 (Wi4 _) ?_)
  refine ss H3 ?_
  refine Wb7 (λc2=>?_) (λc2=>?_)
  ·rw [if_pos c2] at k
   exact RunS.stP H3 λh4 H4=>k h4 (RunS.drp (RunS.none H4))
  ·rw [if_neg (by rw [c2];simp)] at k
   exact k h3 (RunS.drp (RunS.none H3))
 rw [if_neg c] at k
 refine Wa3 (λc=>?_) (λc=>?_)
 ·rw [if_pos c] at k
  exact Wa0 (WW1 H1 O λh2 H2=>k h2 (RunS.drp H2))
 rw [if_neg c] at k
 exact k h1 (RunS.drp (RunS.none H1))
theorem ZD6:und Tryz.prog 184=.pointer 190:=by kernel_rfl
theorem Y02 {P:Program} (d:Nat) {t el:TypeId} {a b:Addr} (hu:P.underlying t=some (.pointer el)) (hth:Wf8 P el=true) (hsz:siz P el≠0) (F:Bool→Wa1→Prop) (h:Wa1) (H:hp P (sameAddr a b) F h):hp P (Op.equalIn (d+1) t (.pointer (some a)) (.pointer (some b))) F h:=by
 simp only [Op.equalIn,Wa7,Wb0 hu,We6 hth]
 rw [if_pos hsz]
 exact H
theorem Zu6 {h:Wa1} {p q:Nat} {K:Value→Wa1→Prop} (k:K (.bool true) h):Zz8 Tryz.prog .eql 184 (some ⟨p,q,none⟩) (some ⟨p,q,none⟩) h K:=by
 unfold Zz8
 rw [Wh1 (by simp) (by simp) (by simp) (by simp),Wg1]
 refine Y02 9999 (Wd0 ZD6 (by simp)) Yz0 (by rw [W16];omega) _ _ ?_
 unfold sameAddr
 simp only [beq_self_eq_true,if_true]
 exact k
theorem WO4 (H:Sat h (RunS M T tv (some (b,o)) x R)) (O:Ok x) {at_:Nat} {next place:Int} (ha:at_≤8) (hp:U place)
  (k1:Wp4 (x.ret 0)=true→∀h',Wa2 h' ⟨b,o+1,none⟩=some (.int .i64 0)→Sat h' (RunS M T tv none (Wr0 x at_ next place) R)→K (.tuple #[]) h')
  (k0:Wp4 (x.ret 0)=false→∀h',Sat h' (RunS M T tv (some (b,o)) (Wr0 x at_ next place) R)→K (.tuple #[]) h') :
  Wa5 Tryz.prog 157 #[rV M T b o,.int .i64 (at_:Int),.int .i64 next,.int .u64 place] h K:=by
 refine call157 ?_
 unfold F157 g157 cf bd lP lI nP da3
 have B:=RunS.fB H
 have hd:=O.fr
 have r0:=RunS.ret H 0
 have r1:=RunS.ret H 1
 unfold Wr0 at k1 k0
 dsimp only at k1 k0
 have e1:s64 ((at_:Int)+1)=((at_+1:Nat):Int):=by unfold s64;omega
 have H1:=RunS.new H (.cells #[mP M,mP T,fP b o] 195);generalize h.push (.cells #[mP M,mP T,fP b o] 195)=h1 at *;generalize h.size=N at *
 try simp +decide only [Wb8,bsx,Nat.reduceAdd,Int.reduceLE,Int.reduceLT,Int.reduceToNat,rsx,g_s,Wa8,RunS.al H1,e1]
 refine ⟨by omega,by omega,?_⟩
 rw [show o+(2+at_)=o+(at_+2) by omega]
 refine RunS.stR (i:=at_) H1 (by rw [Nat.ble_eq];omega) r0 λh2 H2=>?_
 refine ⟨by omega,by omega,?_⟩
 rw [show o+(2+(at_+1))=o+(at_+1+2) by omega]
 refine RunS.stR (i:=at_+1) H2 (by rw [Nat.ble_eq];omega) r1 λh3 H3=>RunS.stP H3 λh4 H4=>?_
 refine ss H4 ?_
 have hfl:(((x.s at_ (x.ret 0)).s (at_+1) (x.ret 1)).pc next).t.fr.length≤x.t.fr.length+3:=by
  have l1:=Ws4 x at_ (x.ret 0)
  have l2:=Ws4 (x.s at_ (x.ret 0)) (at_+1) (x.ret 1)
  have l3:=WF4 ((x.s at_ (x.ret 0)).s (at_+1) (x.ret 1)) next
  omega
 refine Wa0 (Wh9 at_ (by rw [Nat.ble_eq];omega) H4 λh5 H5=>?_)
 have eg:(((x.s at_ (x.ret 0)).s (at_+1) (x.ret 1)).pc next).f.g at_=x.ret 0:=by
  rw [WE8,f_s,f_s,WP3,Wa8 _ (by omega),g_s B.len (by omega)]
 rw [eg]
 refine ss H5 ?_
 refine Wa0 (Wh8 r0 ?_)
 refine ss H5 ?_
 refine Wb7 (λc=>?_) (λc=>?_)
 ·rw [if_pos c] at k1
  refine Wa0 (Ww8 H5 [place] rfl (Wn5 hp) rfl (by omega) λh6 b' o' _ st H6=>k1 c h6 ?_ (RunS.drp (RunS.none H6)))
  refine st b o 1 _ rfl ?_
  rw [WE8]
  rfl
 ·rw [if_neg (by rw [c];simp)] at k0
  exact k0 c h5 (RunS.drp H5)
theorem WW2 (H:Sat h (RunS M T tv (some (b,o)) x R)) (O:Ok x) {at_:Nat} {place:Int} (ha:at_≤8) (hp:U place) (k:∀h',Sat h' (RunS M T tv none (WP1 x at_ place) R)→K (.tuple #[]) h') :
  Wa5 Tryz.prog 158 #[rV M T b o,.int .i64 (at_:Int),.int .u64 place] h K:=by
 refine call158 ?_
 unfold F158 g158 cf ce bd lP lI nP da3
 have B:=RunS.fB H
 have P:=RunS.pl H
 unfold WP1 at k
 dsimp only at k
 have H1:=RunS.new H (.cells #[mP M,mP T,fP b o] 195);generalize h.push (.cells #[mP M,mP T,fP b o] 195)=h1 at *;generalize h.size=N at *
 refine ss H1 ?_
 refine Wa0 (Wh9 1 rfl H1 λh2 H2=>?_)
 refine ss H2 ?_
 refine Wa0 (Wh9 at_ (by rw [Nat.ble_eq];omega) H2 λh3 H3=>?_)
 refine ss H3 ?_
 refine RunS.stP H3 λh4 H4=>?_
 refine ss H4 ?_
 refine Wa0 (Wy9 H4 λh5 H5=>?_)
 refine ss H5 ?_
 refine Wa0 (Wf1 (B.g at_) ?_)
 refine ss H5 ?_
 refine Wa0 (Wg9 (B.g 1) ?_)
 refine ss H5 ?_
 refine Wa0 (Wy9 H5 λh6 H6=>?_)
 refine ss H6 ?_
 refine Wa0 (Wf1 (B.g 1) ?_)
 refine ss H6 ?_
 refine Wa0 (Wg9 (B.g at_) ?_)
 refine ss H6 ?_
 refine Wa0 (ZJ2 H6 (YZ7 P _) (YZ7 P _) Wp6 Wp6 O.st λh7 H7=>?_)
 refine ss H7 ?_
 refine Wb7 (λc=>?_) (λc=>?_)
 ·rw [if_pos c] at k
  exact RunS.stR (i:=0) H7 rfl hp λh8 H8=>k h8 (RunS.drp (RunS.none H8))
 ·rw [if_neg (by rw [c];simp)] at k
  exact k h7 (RunS.drp (RunS.none H7))
theorem Yp9 (H:Sat h (RunS M T tv (some (b,o)) x R)) (O:Ok x) (k:∀h',Sat h' (RunS M T tv none (WT0 x) R)→K (.tuple #[]) h') :
  Wa5 Tryz.prog 110 #[rV M T b o] h K:=by
 refine call110 ?_
 unfold F110 g110 cf bd lP lI nP da3 dl3
 have B:=RunS.fB H
 have P:=RunS.pl H
 have hd:=O.fr
 unfold WT0 at k
 dsimp only at k
 have hl:U (u64 (2*x.f.g 0)):=Wj9 _
 have H1:=RunS.new H (.cells #[mP M,mP T,fP b o] 195);generalize h.push (.cells #[mP M,mP T,fP b o] 195)=h1 at *;generalize h.size=N at *
 refine ss H1 ?_
 generalize hle:u64 (2*x.f.g 0)=left at *
 refine Wa3 (λc=>?_) (λc=>?_)
 ·rw [if_pos c] at k
  exact Wa0 (Ww8 H1 [left] rfl (Wn5 hl) rfl (by omega) λh4 b' o' _ _ H4=>k h4 (RunS.drp (RunS.none H4)))
 rw [if_neg c] at k
 refine Wa3 (λc=>?_) (λc=>?_)
 ·rw [if_pos c] at k
  refine Wa0 (WO4 (at_:=3) H1 O (by omega) hl (λcm h2 e2 H2=>?_) λcm h2 H2=>?_)
  ·rw [if_pos cm] at k
   refine ⟨λvs h'=>vs = [.bool false]∧h' = h2,?_,?_⟩
   ·refine Wc5 e2 ?_
    refine sb ?_
    rw [show ((0:Int) == 6)=false from rfl]
    try simp only [Wb8,bsx,Nat.reduceAdd,Int.reduceLE,Int.reduceLT,Int.reduceToNat]
   rintro v30 g31 h32 ⟨e,rfl⟩
   cases e
   refine sb ?_
   exact k h32 (RunS.drp H2)
  ·rw [if_neg (by rw [cm];simp)] at k
   have epc:(Wr0 x 3 6 left).f.pc=6:=by
    unfold Wr0
    dsimp only
    rw [if_neg (by rw [cm];simp)]
    try simp +decide only [Wb8,bsx,Nat.reduceAdd,Int.reduceLE,Int.reduceLT,Int.reduceToNat,rsx,g_s,Wa8,B.len]
   have efl:(Wr0 x 3 6 left).t.fr.length≤x.t.fr.length+3:=by
    unfold Wr0
    dsimp only
    rw [if_neg (by rw [cm];simp)]
    have l1:=Ws4 x 3 (x.ret 0)
    have l2:=Ws4 (x.s 3 (x.ret 0)) (3+1) (x.ret 1)
    have l3:=WF4 ((x.s 3 (x.ret 0)).s (3+1) (x.ret 1)) 6
    omega
   refine ⟨λvs h'=>vs = [.bool true]∧h' = h2,?_,?_⟩
   ·try simp +decide only [Wb8,bsx,Nat.reduceAdd,Int.reduceLE,Int.reduceLT,Int.reduceToNat,rsx,g_s,Wa8,RunS.al H2,epc]
    rw [show ((6:Int) == 6)=true from rfl]
    refine sb ?_
    refine Wa0 (Zf2 H2 (λhn=>absurd hn (List.length_pos_iff.1 (ZJ7 H2))) λb2 o2 _ hbo _=>?_)
    obtain ⟨rfl,rfl⟩:=hbo b o rfl
    refine sb ?_
    exact Zu6 (by simp only [Wa9];trivial)
   rintro v30 g31 h32 ⟨e,rfl⟩
   cases e
   refine ss H2 ?_
   exact Wa0 (Ww8 H2 [u64 (left+1)] rfl (Wn5 (Wj9 _)) rfl (by omega) λh4 b' o' _ _ H4=>k h4 (RunS.drp (RunS.none H4)))
 rw [if_neg c] at k
 refine Wa3 (λc=>?_) (λc=>?_)
 ·rw [if_pos c] at k
  exact Wa0 (WO4 (at_:=5) H1 O (by omega) (Wj9 _) (λcm h2 e2 H2=>k h2 (RunS.drp H2)) λcm h2 H2=>k h2 (RunS.drp (RunS.none H2)))
 rw [if_neg c] at k
 refine Wa3 (λc=>?_) (λc=>?_)
 ·rw [if_pos c] at k
  refine ⟨λvs h'=>(∃w,vs = [.bool (decide (x.f.g 4≤x.f.g 6∧x.f.g 4 < x.f.g 2)),w])∧h' = h1,?_,?_⟩
  ·refine Wa3 (λc2=>?_) (λc2=>?_)
   ·rw [show decide (x.f.g 4 < x.f.g 2)=decide (x.f.g 4≤x.f.g 6∧x.f.g 4 < x.f.g 2) by rw [decide_eq_decide];omega]
    exact ⟨⟨_,rfl⟩,by trivial⟩
   ·rw [decide_eq_false (p:=x.f.g 4≤x.f.g 6∧x.f.g 4 < x.f.g 2) (by omega)]
    exact ⟨⟨_,rfl⟩,by trivial⟩
  rintro v57 v58 g59 h60 ⟨⟨w,e⟩,rfl⟩
  cases e
  refine sb ?_
  refine Wa3 (λc2=>?_) (λc2=>?_)
  ·rw [if_pos c2] at k
   refine ss H1 ?_
   exact Wa0 (WW2 (at_:=3) H1 O (by omega) hl λh2 H2=>k h2 (RunS.drp H2))
  rw [if_neg c2] at k
  refine ⟨λvs h'=>(∃w,vs = [.bool (decide (x.f.g 6 < x.f.g 4∧x.f.g 6 < x.f.g 2)),w])∧h' = h60,?_,?_⟩
  ·refine ss H1 ?_
   refine Wa3 (λc2=>?_) (λc2=>?_)
   ·rw [show decide (x.f.g 6 < x.f.g 2)=decide (x.f.g 6 < x.f.g 4∧x.f.g 6 < x.f.g 2) by rw [decide_eq_decide];omega]
    exact ⟨_,rfl⟩
   ·rw [decide_eq_false (p:=x.f.g 6 < x.f.g 4∧x.f.g 6 < x.f.g 2) (by omega)]
    exact ⟨_,rfl⟩
  rintro v57 v58 g59 h60 ⟨⟨w,e⟩,rfl⟩
  cases e
  refine ss H1 ?_
  refine Wa3 (λc3=>?_) (λc3=>?_)
  ·rw [if_pos c3] at k
   exact Wa0 (WW2 (at_:=5) H1 O (by omega) (Wj9 _) λh2 H2=>k h2 (RunS.drp H2))
  ·rw [if_neg c3] at k
   exact Wa0 (WW1 H1 O λh2 H2=>k h2 (RunS.drp H2))
 rw [if_neg c] at k
 exact Wa0 (Yp8 H1 O λh2 H2=>k h2 (RunS.drp H2))
theorem Yf8 (H:Sat h (RunS M T tv fo x R)) (O:Ok x) (k:∀h',Sat h' (RunS M T tv none (Wp5 x) R)→K (.tuple #[]) h') :
  Wa5 Tryz.prog 63 #[mP M,mP T] h K:=by
 refine call63 ?_
 unfold F63 cf bd lI nP dl3
 unfold Wp5 at k
 dsimp only at k
 refine Wa0 (Zf2 H (λe=>?_) λb o hne _ H1=>?_)
 ·rw [if_pos e] at k
  refine sb ?_
  refine ⟨λvs h'=>vs = [.bool true]∧h' = h,⟨rfl,rfl⟩,?_⟩
  rintro v4 g6 h7 ⟨e,rfl⟩
  cases e
  refine sb ?_
  exact k _ (RunS.none H)
 ·rw [if_neg hne] at k
  refine sb ?_
  refine ⟨λvs h'=>vs = [.bool false]∧h' = h,⟨rfl,rfl⟩,?_⟩
  rintro v4 g6 h7 ⟨e,rfl⟩
  cases e
  refine sb ?_
  have B:=RunS.fB H1
  have H2:=RunS.new H1 (.cells #[.pointer none,.pointer none,.pointer none] 187)
  generalize h7.push (.cells #[.pointer none,.pointer none,.pointer none] 187)=h2 at *
  generalize h7.size=N at *
  refine st3 (Wd3 (vs:=[mP M,mP T,fP b o]) (RunS.loc H2) rfl (by simp [Wi5]) λh3 w=>?_)
  have H3:Sat h3 (RunS M T tv (some (b,o)) x (pt N (.cells #[mP M,mP T,fP b o] 187)*R)):=RunS.wr H2 w.new w.old
  clear H2 w
  refine ss H3 ?_
  refine ⟨λvs h'=>(∃w1 w2,vs = [.bool (decide (x.f.pc=90∧11≤x.f.fn∧x.f.fn≤13)),w1,w2])∧h' = h3,?_,?_⟩
  ·refine Wa3 (λc=>?_) (λc=>?_)
   ·refine Wa3 (λc2=>?_) (λc2=>?_)
    ·rw [show decide (x.f.fn≤13)=decide (x.f.pc=90∧11≤x.f.fn∧x.f.fn≤13) by rw [decide_eq_decide];omega]
     exact ⟨⟨_,_,rfl⟩,by trivial⟩
    ·rw [decide_eq_false (p:=x.f.pc=90∧11≤x.f.fn∧x.f.fn≤13) (by omega)]
     exact ⟨⟨_,_,rfl⟩,by trivial⟩
   ·rw [decide_eq_false (p:=x.f.pc=90∧11≤x.f.fn∧x.f.fn≤13) (by omega)]
    exact ⟨⟨_,_,rfl⟩,by trivial⟩
  rintro v21 v22 v23 g24 h25 ⟨⟨w1,w2,e⟩,rfl⟩
  cases e
  refine ss H3 ?_
  refine Wa3 (λc=>?_) (λc=>?_)
  ·rw [if_pos c] at k
   exact Wa0 (Zz4 H3 [x.f.g 7,x.f.g 8,x.f.g 9] rfl (Yp4 (B.g 7) (B.g 8) (B.g 9)) rfl λh4 H4=>k h4 (RunS.drp H4))
  rw [if_neg c] at k
  refine Wa3 (λc=>?_) (λc=>?_)
  ·rw [if_pos c] at k
   exact Wa0 (YI3 H3 O.st (by have:=O.fr;omega) λh4 H4=>k h4 (RunS.drp H4))
  rw [if_neg c] at k
  refine Wa3 (λc=>?_) (λc=>?_)
  ·rw [if_pos c] at k
   exact Wa0 (Yp5 H3 O λh4 H4=>k h4 (RunS.drp H4))
  rw [if_neg c] at k
  refine ⟨λvs h'=>(∃w,vs = [.bool (decide (x.f.fn=12∨x.f.fn=13)),w])∧h' = h25,?_,?_⟩
  ·refine Wa3 (λc=>?_) (λc=>?_)
   ·rw [decide_eq_true (p:=x.f.fn=12∨x.f.fn=13) (.inl c)]
    exact ⟨⟨_,rfl⟩,by trivial⟩
   ·rw [show (x.f.fn == 13)=decide (x.f.fn=12∨x.f.fn=13) by rw [Bool.eq_iff_iff,beq_iff_eq,decide_eq_true_iff];omega]
    exact ⟨⟨_,rfl⟩,by trivial⟩
  rintro v61 v62 g63 h64 ⟨⟨w,e⟩,rfl⟩
  cases e
  refine ss H3 ?_
  refine Wa3 (λc=>?_) (λc=>?_)
  ·rw [if_pos c] at k
   exact Wa0 (Yp7 H3 O λh4 H4=>k h4 (RunS.drp H4))
  rw [if_neg c] at k
  refine Wa3 (λc=>?_) (λc=>?_)
  ·rw [if_pos c] at k
   exact Wa0 (Yp9 H3 O λh4 H4=>k h4 (RunS.drp H4))
  rw [if_neg c] at k
  exact Wa0 (Wy6 H3 O λh4 H4=>k h4 (RunS.drp H4))
end
end
section
open Mod
section
variable {K:Value→Wa1→Prop} {h:Wa1} {M T b o N:Nat} {tv:Value} {fo:Option (Nat × Nat)} {x:Run} {R:Hp}
theorem Y03 (x:Run) (n r:Int):x.nlink n (Mod.u64 r)=x.nlink n r:=by
 unfold Run.nlink
 have e:s64 (Mod.u64 r)=s64 r:=by unfold s64 Mod.u64;omega
 rw [e]
theorem ZD7 (x:Run) (i j:Int):(x.pc i).pc j=x.pc j:=by
 show (x.pc i).setF ((x.pc i).f.at j)=x.setF (x.f.at j)
 rw [WE8]
 unfold Run.pc Run.setF Thr.setTop
 simp [Frm.at]
theorem WW3 (H:Sat h (RunS M T tv (some (b,o)) x R)) (hd:x.t.fr.length < 1073741823) (k:∀h',Sat h' (RunS M T tv none (Wu6 x) R)→K (.tuple #[]) h') :
  Wa5 Tryz.prog 259 #[rV M T b o] h K:=by
 refine call259 ?_
 unfold F259 g259 cf ce bd lP lI nP da3
 have B:=RunS.fB H
 unfold Wu6 at k
 have H1:=RunS.new H (.cells #[mP M,mP T,fP b o] 200);generalize h.push (.cells #[mP M,mP T,fP b o] 200)=h1 at *;generalize h.size=N at *
 refine ss H1 ?_
 refine Wa0 (Yc5 (B.g 2) ?_)
 refine ss H1 ?_
 refine Wa0 (YV1 ?_)
 try simp +decide only [Wb8,bsx,Nat.reduceAdd,Int.reduceLE,Int.reduceLT,Int.reduceToNat,rsx,g_s,Wa8,RunS.al H1,YA3 (B.g 2),Zg1]
 exact Wa0 (WE2 H1 (U.lit rfl) (YA4 (B.g 2)) (Zg2 _) hd λh5 b' o' H5=>k h5 (RunS.drp (RunS.none H5)))
theorem Yq0 (H:Sat h (RunS M T tv (some (b,o)) x R)) (O:Ok x) (k:∀h',Sat h' (RunS M T tv none (Wu7 x) R)→K (.tuple #[]) h') :
  Wa5 Tryz.prog 172 #[rV M T b o] h K:=by
 refine call172 ?_
 unfold F172 g172 q172_1 cf ce bd lP lI nP da3 Wn6 dl3
 have B:=RunS.fB H
 have P:=RunS.pl H
 have hd:=O.fr
 have r0:=RunS.ret H 0
 unfold Wu7 at k
 dsimp only at k
 have H1:=RunS.new H (.cells #[mP M,mP T,fP b o] 200);generalize h.push (.cells #[mP M,mP T,fP b o] 200)=h1 at *;generalize h.size=N at *
 refine ss H1 ?_
 refine Wa3 (λc=>?_) (λc=>?_)
 ·rw [if_pos c] at k
  refine RunS.stR (i:=6) H1 rfl U0 λh2 H2=>?_
  refine ss H2 ?_
  refine Wa0 (Wr7 H2 λh3 o3=>WG2 ?_)
  have H3:=RunS.old H2 o3
  refine ss H3 ?_
  refine Wa0 (Wn1 λh4 o4=>?_)
  have H4:=RunS.old H3 o4
  refine ss H4 ?_
  refine Wa0 (Wg3 H4 λh5 o5=>?_)
  have H5:=RunS.old H4 o5
  refine ss H5 ?_
  have l1:=Ws4 x 6 0
  exact Wa0 (WG8 H5 [Mod.u64 (x.m.p.slots - 2),Mod.u64 (x.nlink 1 0)] rfl (Yf0 (Wj9 _) (Wj9 _)) rfl (by omega) λh6 b' o' _ _ H6=>k h6 (RunS.drp (RunS.none H6)))
 rw [if_neg c] at k
 refine Wa3 (λc=>?_) (λc=>?_)
 ·rw [if_pos c] at k
  refine Wa0 (WN0 r0 ?_)
  refine ss H1 ?_
  refine RunS.stR (i:=0) H1 rfl r0 λh2 H2=>?_
  try simp +decide only [Wb8,bsx,Nat.reduceAdd,Int.reduceLE,Int.reduceLT,Int.reduceToNat,rsx,g_s,Wa8,RunS.al H2]
  refine RunS.stR (i:=1) H2 rfl (Wj0 _) λh3 H3=>?_
  try simp +decide only [Wb8,bsx,Nat.reduceAdd,Int.reduceLE,Int.reduceLT,Int.reduceToNat,rsx,g_s,Wa8,RunS.al H3]
  refine RunS.stP H3 λh4 H4=>?_
  try simp +decide only [Wb8,bsx,Nat.reduceAdd,Int.reduceLE,Int.reduceLT,Int.reduceToNat,rsx,g_s,Wa8,RunS.al H4,B.len]
  refine Wa3 (λc2=>?_) (λc2=>?_)
  ·rw [if_pos c2] at k
   have l1:=Ws4 x 0 (x.ret 0)
   have l2:=Ws4 (x.s 0 (x.ret 0)) 1 (Wg8 (x.ret 0))
   have l3:=WF4 ((x.s 0 (x.ret 0)).s 1 (Wg8 (x.ret 0))) 2
   exact Wa0 (WE2 H4 (U.lit rfl) U0 U0 (by omega) λh5 b' o' H5=>k h5 (RunS.drp (RunS.none H5)))
  ·rw [if_neg c2] at k
   exact k h4 (RunS.drp (RunS.none H4))
 rw [if_neg c] at k
 refine Wa3 (λc=>?_) (λc=>?_)
 ·rw [if_pos c] at k
  refine Wa0 (Wj1 H1 (by decide) λh2 o2=>?_)
  have H2:=RunS.old H1 o2
  refine ss H2 ?_
  refine Wa0 (Wg2 H2 (Wd1 P _ _) O.st λh3 H3 u3=>?_)
  refine ss H3 ?_
  refine RunS.stR (i:=3) H3 rfl u3 λh4 H4=>RunS.stP H4 λh5 H5=>?_
  try simp +decide only [Wb8,bsx,Nat.reduceAdd,Int.reduceLE,Int.reduceLT,Int.reduceToNat,rsx,g_s,Wa8,RunS.al H5,B.len]
  refine Wa0 (YG1 u3 ?_)
  refine ss H5 ?_
  refine Wb7 (λc2=>?_) (λc2=>?_)
  ·rw [if_pos c2] at k
   exact RunS.stP H5 λh6 H6=>k h6 (RunS.drp (RunS.none H6))
  ·rw [if_neg (by rw [c2];simp)] at k
   exact k h5 (RunS.drp (RunS.none H5))
 rw [if_neg c] at k
 refine Wa3 (λc=>?_) (λc=>?_)
 ·rw [if_pos c] at k
  refine Wa0 (Wj1 H1 (by decide) λh2 o2=>?_)
  have H2:=RunS.old H1 o2
  refine ss H2 ?_
  refine Wa0 (Wg2 H2 (Wd1 P _ _) O.st λh3 H3 u3=>?_)
  refine ss H3 ?_
  refine RunS.stR (i:=2) H3 rfl u3 λh4 H4=>RunS.stP H4 λh5 H5=>?_
  try simp +decide only [Wb8,bsx,Nat.reduceAdd,Int.reduceLE,Int.reduceLT,Int.reduceToNat,rsx,g_s,Wa8,RunS.al H5,B.len]
  refine Wa3 (λc2=>?_) (λc2=>?_)
  ·rw [if_pos c2] at k
   have l1:=Ws4 (x.load (x.na (x.f.g 1) 0)).2 2 (x.load (x.na (x.f.g 1) 0)).1
   have l2:=WF4 ((x.load (x.na (x.f.g 1) 0)).2.s 2 (x.load (x.na (x.f.g 1) 0)).1) 4
   have l3:(x.load (x.na (x.f.g 1) 0)).2.t.fr=x.t.fr:=rfl
   rw [l3] at l1
   exact Wa0 (WW3 H5 (by omega) λh6 H6=>k h6 (RunS.drp H6))
  ·rw [if_neg c2] at k
   exact k h5 (RunS.drp (RunS.none H5))
 rw [if_neg c] at k
 exact k h1 (RunS.drp (RunS.none H1))
theorem Yq1 (H:Sat h (RunS M T tv (some (b,o)) x R)) (O:Ok x) (k:∀h',Sat h' (RunS M T tv none (Wu8 x) R)→K (.tuple #[]) h') :
  Wa5 Tryz.prog 173 #[rV M T b o] h K:=by
 refine call173 ?_
 unfold F173 g173 cf ce bd lP lI nP da3
 have B:=RunS.fB H
 have P:=RunS.pl H
 unfold Wu8 at k
 dsimp only at k
 have H1:=RunS.new H (.cells #[mP M,mP T,fP b o] 200);generalize h.push (.cells #[mP M,mP T,fP b o] 200)=h1 at *;generalize h.size=N at *
 refine ss H1 ?_
 refine Wa3 (λc=>?_) (λc=>?_)
 ·rw [if_pos c] at k
  refine RunS.stP H1 λh2 H2=>?_
  refine ss H2 ?_
  refine Wa0 (Wj1 H2 (by decide) λh3 o3=>?_)
  have H3:=RunS.old H2 o3
  refine ss H3 ?_
  refine Wa0 (YG2 (B.g 3) ?_)
  refine ss H3 ?_
  refine Wa0 (Zp5 H3 (Wd1 P _ _) (Y00 (B.g 3)) O.st λh4 H4=>?_)
  refine ss H4 ?_
  refine Wb7 (λc2=>?_) (λc2=>?_)
  ·rw [if_pos c2] at k
   refine RunS.stR (i:=6) H4 rfl (U.lit rfl) λh5 H5=>?_
   try simp +decide only [Wb8,bsx,Nat.reduceAdd,Int.reduceLE,Int.reduceLT,Int.reduceToNat,rsx,g_s,Wa8,RunS.al H5]
   exact RunS.stP H5 λh6 H6=>k h6 (RunS.drp (RunS.none H6))
  ·rw [if_neg (by rw [c2];simp)] at k
   exact k h4 (RunS.drp (RunS.none H4))
 rw [if_neg c] at k
 refine Wa3 (λc=>?_) (λc=>?_)
 ·rw [if_pos c] at k
  refine Wa0 (Wj1 H1 (by decide) λh3 o3=>?_)
  have H3:=RunS.old H1 o3
  refine ss H3 ?_
  refine Wa0 (Wi9 H3 (Wd1 P _ _) (U.lit rfl) O.st λh4 H4=>?_)
  exact RunS.stP H4 λh6 H6=>k h6 (RunS.drp (RunS.none H6))
 rw [if_neg c] at k
 refine Wa3 (λc=>?_) (λc=>?_)
 ·rw [if_pos c] at k
  refine Wa0 (Wj1 H1 (by decide) λh3 o3=>?_)
  have H3:=RunS.old H1 o3
  refine ss H3 ?_
  refine Wa0 (Wg2 H3 (Wd1 P _ _) O.st λh4 H4 u4=>?_)
  refine ss H4 ?_
  exact RunS.stR (i:=4) H4 rfl u4 λh5 H5=>RunS.stP H5 λh6 H6=>k h6 (RunS.drp (RunS.none H6))
 rw [if_neg c] at k
 exact k h1 (RunS.drp (RunS.none H1))
theorem Yq2 (H:Sat h (RunS M T tv (some (b,o)) x R)) (O:Ok x) (k:∀h',Sat h' (RunS M T tv none (Wu9 x) R)→K (.tuple #[]) h') :
  Wa5 Tryz.prog 174 #[rV M T b o] h K:=by
 refine call174 ?_
 unfold F174 g174 cf ce bd lP lI nP da3
 have B:=RunS.fB H
 have P:=RunS.pl H
 unfold Wu9 at k
 dsimp only at k
 have H1:=RunS.new H (.cells #[mP M,mP T,fP b o] 200);generalize h.push (.cells #[mP M,mP T,fP b o] 200)=h1 at *;generalize h.size=N at *
 refine ss H1 ?_
 refine Wa3 (λc=>?_) (λc=>?_)
 ·rw [if_pos c] at k
  refine Wa3 (λc2=>?_) (λc2=>?_)
  ·rw [if_pos c2] at k
   refine RunS.stP H1 λh2 H2=>?_
   refine ss H2 ?_
   refine Wa3 (λc3=>?_) (λc3=>?_)
   ·rw [if_pos c3] at k
    exact RunS.stP H2 λh3 H3=>k h3 (ZD7 x 9 11 ▸ RunS.drp (RunS.none H3))
   ·rw [if_neg c3] at k
    exact k h2 (RunS.drp (RunS.none H2))
  rw [if_neg c2] at k
  refine Wa0 (Wg3 H1 λh3 o3=>?_)
  have H3:=RunS.old H1 o3
  try simp +decide only [Wb8,bsx,Nat.reduceAdd,Int.reduceLE,Int.reduceLT,Int.reduceToNat,rsx,g_s,Wa8,RunS.al H3,Y03]
  refine Wa0 (Wg2 H3 (Wd1 P _ _) O.st λh4 H4 u4=>?_)
  refine ss H4 ?_
  refine RunS.stR (i:=5) H4 rfl u4 λh5 H5=>RunS.stP H5 λh6 H6=>?_
  try simp +decide only [Wb8,bsx,Nat.reduceAdd,Int.reduceLE,Int.reduceLT,Int.reduceToNat,rsx,g_s,Wa8,RunS.al H6,B.len]
  refine Wa0 (WV7 u4 ?_)
  refine ss H6 ?_
  refine Wb7 (λc3=>?_) (λc3=>?_)
  ·rw [if_pos c3] at k
   refine RunS.stR (i:=4) H6 rfl (Wj9 _) λh7 H7=>?_
   try simp +decide only [Wb8,bsx,Nat.reduceAdd,Int.reduceLE,Int.reduceLT,Int.reduceToNat,rsx,g_s,Wa8,RunS.al H7]
   exact RunS.stP H7 λh8 H8=>k h8 (RunS.drp (RunS.none H8))
  ·rw [if_neg (by rw [c3];simp)] at k
   exact k h6 (RunS.drp (RunS.none H6))
 rw [if_neg c] at k
 refine Wa3 (λc=>?_) (λc=>?_)
 ·rw [if_pos c] at k
  refine RunS.stP H1 λh2 H2=>?_
  refine ss H2 ?_
  refine Wa0 (Wg3 H2 λh3 o3=>?_)
  have H3:=RunS.old H2 o3
  try simp +decide only [Wb8,bsx,Nat.reduceAdd,Int.reduceLE,Int.reduceLT,Int.reduceToNat,rsx,g_s,Wa8,RunS.al H3,Y03]
  refine Wa0 (Yc4 (B.g 5) ?_)
  refine ss H3 ?_
  refine Wa0 (Zp5 H3 (Wd1 P _ _) Wp6 O.st λh4 H4=>?_)
  refine ss H4 ?_
  refine Wb7 (λc2=>?_) (λc2=>?_)
  ·rw [if_pos c2] at k
   exact RunS.stR (i:=4) H4 rfl (Wj9 _) λh5 H5=>k h5 (RunS.drp (RunS.none H5))
  ·rw [if_neg (by rw [c2];simp)] at k
   exact k h4 (RunS.drp (RunS.none H4))
 rw [if_neg c] at k
 exact k h1 (RunS.drp (RunS.none H1))
theorem Yf9 (H:Sat h (RunS M T tv (some (b,o)) x R)) (O:Ok x) (k:∀h',Sat h' (RunS M T tv none (Wo5 x) R)→K (.tuple #[]) h') :
  Wa5 Tryz.prog 175 #[rV M T b o] h K:=by
 refine call175 ?_
 unfold F175 g175 cf ce bd lP lI nP da3 dl3
 have B:=RunS.fB H
 have P:=RunS.pl H
 have hd:=O.fr
 unfold Wo5 at k
 dsimp only at k
 have H1:=RunS.new H (.cells #[mP M,mP T,fP b o] 200);generalize h.push (.cells #[mP M,mP T,fP b o] 200)=h1 at *;generalize h.size=N at *
 refine ss H1 ?_
 refine Wa3 (λc=>?_) (λc=>?_)
 ·rw [if_pos c] at k
  refine Wa0 (Wg3 H1 λh3 o3=>?_)
  have H3:=RunS.old H1 o3
  refine ss H3 ?_
  refine Wa0 (Wg2 H3 (Wd1 P _ _) O.st λh4 H4 u4=>?_)
  refine ss H4 ?_
  exact RunS.stR (i:=5) H4 rfl u4 λh5 H5=>RunS.stP H5 λh6 H6=>k h6 (RunS.drp (RunS.none H6))
 rw [if_neg c] at k
 refine Wa3 (λc=>?_) (λc=>?_)
 ·rw [if_pos c] at k
  refine Wa0 (Wg3 H1 λh3 o3=>?_)
  have H3:=RunS.old H1 o3
  refine ss H3 ?_
  refine Wa0 (WN0 (B.g 5) ?_)
  refine ss H3 ?_
  refine Wa0 (Wv4 H3 (Wd1 P _ _) (B.g 0) O.st λh4 H4=>?_)
  refine ss H4 ?_
  exact RunS.stP H4 λh6 H6=>k h6 (RunS.drp (RunS.none H6))
 rw [if_neg c] at k
 refine Wa3 (λc=>?_) (λc=>?_)
 ·rw [if_pos c] at k
  refine Wa0 (WV6 H1 O.st λh2 H2=>?_)
  refine ss H2 ?_
  refine Wb7 (λc3=>?_) (λc3=>?_)
  ·rw [if_pos c3] at k
   have ef:(x.drop1 (x.f.g 1)).2.f=x.f:=rfl
   try simp +decide only [Wb8,bsx,Nat.reduceAdd,Int.reduceLE,Int.reduceLT,Int.reduceToNat,rsx,g_s,Wa8,RunS.al H2,ef]
   exact Wa0 (WG8 H2 [x.f.g 2] rfl (Wn5 (B.g 2)) rfl (show x.t.fr.length < _ by omega) λh4 b' o' _ _ H4=>k h4 (RunS.drp (RunS.none H4)))
  ·rw [if_neg (by rw [c3];simp)] at k
   exact RunS.stP H2 λh5 H5=>k h5 (RunS.drp (RunS.none H5))
 rw [if_neg c] at k
 refine Wa3 (λc=>?_) (λc=>?_)
 ·rw [if_pos c] at k
  exact Wa0 (WG8 H1 [x.f.g 1] rfl (Wn5 (B.g 1)) rfl (by omega) λh4 b' o' _ _ H4=>k h4 (RunS.drp (RunS.none H4)))
 ·rw [if_neg c] at k
  exact Wa0 (WW3 H1 (by omega) λh6 H6=>k h6 (RunS.drp H6))
theorem Yq3 (H:Sat h (RunS M T tv (some (b,o)) x R)) (O:Ok x) (k:∀h',Sat h' (RunS M T tv none (WB0 x) R)→K (.tuple #[]) h') :
  Wa5 Tryz.prog 114 #[rV M T b o] h K:=by
 refine call114 ?_
 unfold F114 g114 cf lP lI nP dl3
 unfold WB0 at k
 have H1:=RunS.new H (.cells #[mP M,mP T,fP b o] 200);generalize h.push (.cells #[mP M,mP T,fP b o] 200)=h1 at *;generalize h.size=N at *
 refine ss H1 ?_
 refine Wa3 (λc=>?_) (λc=>?_)
 ·rw [if_pos c] at k
  exact Wa0 (Yq0 H1 O λh2 H2=>k h2 (RunS.drp H2))
 rw [if_neg c] at k
 refine Wa3 (λc=>?_) (λc=>?_)
 ·rw [if_pos c] at k
  exact Wa0 (Yq1 H1 O λh2 H2=>k h2 (RunS.drp H2))
 rw [if_neg c] at k
 refine Wa3 (λc=>?_) (λc=>?_)
 ·rw [if_pos c] at k
  exact Wa0 (Yq2 H1 O λh2 H2=>k h2 (RunS.drp H2))
 rw [if_neg c] at k
 exact Wa0 (Yf9 H1 O λh2 H2=>k h2 (RunS.drp H2))
theorem WZ5 (H:Sat h (RunS M T tv fo x R)) (O:Ok x) (hf:FOk x) (hS:x.f.fn=21→ZJ8 x) (k:∀h',Sat h' (RunS M T tv none (Wh7 x) R)→K (.tuple #[]) h') :
  Wa5 Tryz.prog 64 #[mP M,mP T] h K:=by
 refine call64 ?_
 unfold F64 cf bd lI nP dl3
 unfold Wh7 at k
 dsimp only at k
 refine Wa0 (Zf2 H (λe=>?_) λb o hne _ H1=>?_)
 ·rw [if_pos e] at k
  refine sb ?_
  refine ⟨λvs h'=>vs = [.bool true]∧h' = h,⟨rfl,rfl⟩,?_⟩
  rintro v4 g6 h7 ⟨e,rfl⟩
  cases e
  refine sb ?_
  exact k _ (RunS.none H)
 ·rw [if_neg hne] at k
  refine sb ?_
  refine ⟨λvs h'=>vs = [.bool false]∧h' = h,⟨rfl,rfl⟩,?_⟩
  rintro v4 g6 h7 ⟨e,rfl⟩
  cases e
  have B:=RunS.fB H1
  refine sb ?_
  have H2:=RunS.new H1 (.cells #[.pointer none,.pointer none,.pointer none] 197)
  generalize h7.push (.cells #[.pointer none,.pointer none,.pointer none] 197)=h2 at *
  generalize h7.size=N at *
  refine st3 (Wd3 (vs:=[mP M,mP T,fP b o]) (RunS.loc H2) rfl (by simp [Wi5]) λh3 w=>?_)
  have H3:=RunS.wr H2 w.new w.old
  clear H2 w
  refine ss H3 ?_
  refine ⟨λvs h'=>(∃w,vs = [.bool (decide (x.f.fn < 21∨23 < x.f.fn)),w])∧h' = h3,?_,?_⟩
  ·refine Wa3 (λc=>?_) (λc=>?_)
   ·rw [decide_eq_true (p:=x.f.fn < 21∨23 < x.f.fn) (by omega)]
    exact ⟨⟨_,rfl⟩,by trivial⟩
   ·rw [show decide (x.f.fn > 23)=decide (x.f.fn < 21∨23 < x.f.fn) by rw [decide_eq_decide];omega]
    exact ⟨⟨_,rfl⟩,by trivial⟩
  rintro v18 v19 g20 h21 ⟨⟨w,e⟩,rfl⟩
  cases e
  refine ss H3 ?_
  refine Wa3 (λc=>?_) (λc=>?_)
  ·rw [if_pos c] at k
   exact Wa0 (Yp0 H3 O hf λh4 H4=>k h4 (RunS.drp H4))
  rw [if_neg c] at k
  refine Wa3 (λc=>?_) (λc=>?_)
  ·rw [if_pos c] at k
   exact Wa0 (Zz4 H3 [x.f.g 7,x.f.g 8,x.f.g 9] rfl (Yp4 (B.g 7) (B.g 8) (B.g 9)) rfl λh4 H4=>k h4 (RunS.drp H4))
  rw [if_neg c] at k
  refine Wa3 (λc=>?_) (λc=>?_)
  ·rw [if_pos c] at k
   exact Wa0 (Yp2 H3 O (hS c) λh4 H4=>k h4 (RunS.drp H4))
  rw [if_neg c] at k
  exact Wa0 (Yq3 H3 O λh4 H4=>k h4 (RunS.drp H4))
end
end
section
open Mod
section
variable {K:Value→Wa1→Prop} {h:Wa1} {M T b o N:Nat} {tv:Value} {fo:Option (Nat × Nat)} {x:Run} {R:Hp}
theorem Zg5 (x:Run) (i n r:Int):(x.pc i).nlink n r=x.nlink n r:=rfl
theorem Yq4 (H:Sat h (RunS M T tv (some (b,o)) x R)) (O:Ok x) (k:∀h',Sat h' (RunS M T tv none (WB6 x) R)→K (.tuple #[]) h') :
  Wa5 Tryz.prog 177 #[rV M T b o] h K:=by
 refine call177 ?_
 unfold F177 g177 cf ce bd lP lI nP da3 de7 Wn6
 have B:=RunS.fB H
 have P:=RunS.pl H
 have hd:=O.fr
 have r0:=RunS.ret H 0
 unfold WB6 at k
 dsimp only at k
 have H1:=RunS.new H (.cells #[mP M,mP T,fP b o] 204);generalize h.push (.cells #[mP M,mP T,fP b o] 204)=h1 at *;generalize h.size=N at *
 refine ss H1 ?_
 refine Wa3 (λc=>?_) (λc=>?_)
 ·rw [if_pos c] at k
  exact Wa0 (Wz1 H1 Args.none (by omega) (by omega) λh2 b' o' _ _ H2=>k h2 (RunS.drp (RunS.none H2)))
 rw [if_neg c] at k
 refine Wa3 (λc=>?_) (λc=>?_)
 ·rw [if_pos c] at k
  refine RunS.stR (i:=2) H1 rfl r0 λh2 H2=>?_
  try simp +decide only [Wb8,bsx,Nat.reduceAdd,Int.reduceLE,Int.reduceLT,Int.reduceToNat,rsx,g_s,Wa8,RunS.al H2,B.len]
  refine Wb7 (λc2=>?_) (λc2=>?_)
  ·have c2':x.ret 0≠0:=by simpa [Run.ret] using c2
   rw [if_pos c2'] at k
   exact RunS.stP H2 λh3 H3=>k h3 (RunS.drp (RunS.none H3))
  ·have c2':¬ x.ret 0≠0:=by simpa [Run.ret] using c2
   rw [if_neg c2'] at k
   have hfl:=Ws4 x 2 (x.ret 0)
   refine ⟨λvs h'=>(∃w,vs = [.bool (decide (x.f.g 5=0∧x.t.retired.length > 0)),w])∧Sat h' (RunS M T tv (some (b,o)) (x.s 2 (x.ret 0)) (pt N (.cells #[mP M,mP T,fP b o] 204)*R)),?_,?_⟩
   ·refine Wa3 (λc3=>?_) (λc3=>?_)
    ·refine Wa0 (Wv2 (RunS.thr H2) ?_)
     refine sb ?_
     have e:decide (((x.s 2 (x.ret 0)).t.retired.length:Int) > 0)=decide (x.f.g 5=0∧x.t.retired.length > 0):=by
      rw [decide_eq_decide]
      have e2:(x.s 2 (x.ret 0)).t.retired=x.t.retired:=rfl
      rw [e2]
      omega
     rw [e]
     exact ⟨⟨_,rfl⟩,H2⟩
    ·exact ⟨⟨_,by rw [decide_eq_false (λhh=>c3 hh.1)]⟩,H2⟩
   rintro v32 v33 g34 h35 ⟨⟨w,e⟩,H3⟩
   cases e
   refine sb ?_
   refine Wa3 (λc3=>?_) (λc3=>?_)
   ·rw [if_pos c3] at k
    refine RunS.stR (i:=5) H3 rfl (U.lit rfl) λh4 H4=>?_
    have hfl2:=Ws4 (x.s 2 (x.ret 0)) 5 1
    try simp only [Wb8,bsx,Nat.reduceAdd,Int.reduceLE,Int.reduceLT,Int.reduceToNat,RunS.l H4]
    exact Wa0 (Wz1 H4 Args.none (by omega) (by omega) λh5 b' o' _ _ H5=>k h5 (RunS.drp (RunS.none H5)))
   ·rw [if_neg c3] at k
    try simp only [Wb8,bsx,Nat.reduceAdd,Int.reduceLE,Int.reduceLT,Int.reduceToNat,RunS.l H3]
    exact Wa0 (Wu1 H3 (U.lit rfl) (by omega) λh5 b' o' H5=>k h5 (RunS.drp (RunS.none H5)))
 rw [if_neg c] at k
 refine Wa3 (λc=>?_) (λc=>?_)
 ·rw [if_pos c] at k
  refine Wa0 (ZH2 H1 (by decide) O.st λh2 H2 u2=>?_)
  try simp +decide only [Wb8,bsx,Nat.reduceAdd,Int.reduceLE,Int.reduceLT,Int.reduceToNat,rsx,g_s,Wa8,RunS.al H2,WV5]
  refine Wa0 (W12 (YV0 _) (YV0 _) ?_)
  refine ss H2 ?_
  refine RunS.stR (i:=4) H2 rfl (Yf1 _ _) λh3 H3=>?_
  refine ss H3 ?_
  refine Wa0 (RunS.feed H3 λq R' HF re=>?_)
  refine ss H3 ?_
  refine Wa0 (Wr7 H3 λh4 o4=>WG2 ?_)
  have H4:=RunS.old H3 o4
  have HF4:=HF.old o4
  try simp only [Wb8,bsx,Nat.reduceAdd,Int.reduceLE,Int.reduceLT,Int.reduceToNat]
  refine Wa0 (Wh3 λh5 o5=>cf7 ?_)
  have H5:=RunS.old H4 o5
  have HF5:=HF4.old o5
  refine sb ?_
  have P5:=RunS.pl H5
  refine Wa0 (Zq2 H5 ?_ HF5 re P5.lv λh6 H6=>?_)
  ·show (x.add 3 1).2.m.used < _
   rw [YA2];exact O.us
  refine sb ?_
  refine RunS.stR (i:=3) H6 rfl (Wj9 _) λh7 H7=>RunS.stP H7 λh8 H8=>k h8 (RunS.drp (RunS.none H8))
 rw [if_neg c] at k
 exact k h1 (RunS.drp (RunS.none H1))
def Yg0 (x:Run):Run:=if x.f.pc=3 then x.store (x.na (x.f.g 2) 0) (x.f.g 4) else if x.f.pc=4 then x.store (x.na (x.f.g 2) 1) (x.f.g 1)
 else if x.f.pc=5 then x.store (x.na (x.f.g 2) 2) 1 else if x.f.pc=6 then x.store (x.na (x.f.g 2) 3) (x.f.g 3) else x
theorem Zg6 (x:Run):(Yg0 x).f=x.f:=by
 unfold Yg0
 split
 ·rfl
 split
 ·rfl
 split
 ·rfl
 split <;> rfl
theorem YI9 (H:Sat h (RunS M T tv (some (b,o)) x R)) (O:Ok x) (k:∀h',Sat h' (RunS M T tv none (WZ1 x) R)→K (.tuple #[]) h') :
  Wa5 Tryz.prog 178 #[rV M T b o] h K:=by
 refine call178 ?_
 unfold F178 g178 cf ce bd lP lI nP da3
 have B:=RunS.fB H
 have P:=RunS.pl H
 have k:∀h',Sat h' (RunS M T tv none ((Yg0 x).pc (x.f.pc+1)) R)→K (.tuple #[]) h':=k
 have H1:=RunS.new H (.cells #[mP M,mP T,fP b o] 204);generalize h.push (.cells #[mP M,mP T,fP b o] 204)=h1 at *;generalize h.size=N at *
 refine ss H1 ?_
 refine ⟨λ_ h'=>Sat h' (RunS M T tv (some (b,o)) (Yg0 x) (pt N (.cells #[mP M,mP T,fP b o] 204)*R)),?_,?_⟩
 ·unfold Yg0
  refine Wa3 (λc=>?_) (λc=>?_)
  ·rw [if_pos c]
   refine Wa0 (Wo7 H1 (by decide) λh2 o2=>?_)
   have H2:=RunS.old H1 o2
   refine ss H2 ?_
   exact Wa0 (Wi9 H2 (Wd1 P _ _) (B.g 4) O.st λh3 H3=>H3)
  rw [if_neg c]
  refine Wa3 (λc=>?_) (λc=>?_)
  ·rw [if_pos c]
   refine Wa0 (Wo7 H1 (by decide) λh2 o2=>?_)
   have H2:=RunS.old H1 o2
   refine ss H2 ?_
   exact Wa0 (Wi9 H2 (Wd1 P _ _) (B.g 1) O.st λh3 H3=>H3)
  rw [if_neg c]
  refine Wa3 (λc=>?_) (λc=>?_)
  ·rw [if_pos c]
   refine Wa0 (Wo7 H1 (by decide) λh2 o2=>?_)
   have H2:=RunS.old H1 o2
   refine ss H2 ?_
   exact Wa0 (Wi9 H2 (Wd1 P _ _) (U.lit rfl) O.st λh3 H3=>H3)
  rw [if_neg c]
  refine Wa3 (λc=>?_) (λc=>?_)
  ·rw [if_pos c]
   refine Wa0 (Wo7 H1 (by decide) λh2 o2=>?_)
   have H2:=RunS.old H1 o2
   refine ss H2 ?_
   exact Wa0 (Wi9 H2 (Wd1 P _ _) (B.g 3) O.st λh3 H3=>H3)
  rw [if_neg c]
  exact H1
 intro v1 v2 v3 v4 g6 h7 H7
 try simp +decide only [Wb8,bsx,Nat.reduceAdd,Int.reduceLE,Int.reduceLT,Int.reduceToNat,rsx,g_s,Wa8,RunS.al H7,Zg6]
 rw [WK3 (n:=x.f.pc+1) (by have:=O.pc;omega) (by have:=O.pc;omega)]
 exact RunS.stP H7 λh8 H8=>k h8 (RunS.drp (RunS.none H8))
theorem Yg1 (H:Sat h (RunS M T tv (some (b,o)) x R)) (O:Ok x) (L:RL x) (k:∀h',Sat h' (RunS M T tv none (Wt9 x) R)→K (.tuple #[]) h') :
  Wa5 Tryz.prog 179 #[rV M T b o] h K:=by
 refine call179 ?_
 unfold F179 g179 cf ce bd lS lP lI nP da3
 have B:=RunS.fB H
 have P:=RunS.pl H
 have hd:=O.fr
 have r0:=RunS.ret H 0
 unfold Wt9 at k
 dsimp only at k
 have H1:=RunS.new H (.cells #[mP M,mP T,fP b o] 204);generalize h.push (.cells #[mP M,mP T,fP b o] 204)=h1 at *;generalize h.size=N at *
 refine ss H1 ?_
 refine Wa3 (λc=>?_) (λc=>?_)
 ·rw [if_pos c] at k
  exact Wa0 (WH0 H1 [x.f.g 4] rfl (Wn5 (B.g 4)) rfl (by omega) λh4 b' o' _ _ H4=>k h4 (RunS.drp (RunS.none H4)))
 rw [if_neg c] at k
 refine Wa3 (λc=>?_) (λc=>?_)
 ·rw [if_pos c] at k
  refine RunS.stR (i:=7) H1 rfl r0 λh2 H2=>?_
  refine ss H2 ?_
  refine Wa0 (Wd7 H2 λh3 o3=>?_)
  have H3:=RunS.old H2 o3
  refine ss H3 ?_
  refine Wa0 (Wg2 H3 (Wd1 P _ _) O.st λh4 H4 u4=>?_)
  refine ss H4 ?_
  exact RunS.stR (i:=6) H4 rfl u4 λh5 H5=>RunS.stP H5 λh6 H6=>k h6 (RunS.drp (RunS.none H6))
 rw [if_neg c] at k
 refine Wa3 (λc=>?_) (λc=>?_)
 ·rw [if_pos c] at k
  obtain ⟨pb,sb,wb,W⟩:=RunS.rows H1 L
  have wf:=W.f
  have l0:=L.e0
  have wg:=W.g (i:=0) (by omega)
  try simp +decide only [Wb8,bsx,Nat.reduceAdd,Int.reduceLE,Int.reduceLT,Int.reduceToNat,rsx,g_s,Wa8,RunS.al H1,wf,wg]
  refine ⟨by omega,?_⟩
  try simp +decide only [Wb8,bsx,Nat.reduceAdd,Int.reduceLE,Int.reduceLT,Int.reduceToNat,rsx,g_s,Wa8,RunS.al H1,wf,wg]
  refine Wa0 (Wd7 H1 λh2 o2=>?_)
  have H2:=RunS.old H1 o2
  have W2:=W.old o2
  have wf2:=W2.f
  have wg2:=W2.g (i:=0) (by omega)
  try simp +decide only [Wb8,bsx,Nat.reduceAdd,Int.reduceLE,Int.reduceLT,Int.reduceToNat,rsx,g_s,Wa8,RunS.al H2,wf2,wg2]
  refine Wa0 (Wg9 (B.g 6) ?_)
  refine ss H2 ?_
  refine Wa0 (Wi9 H2 (Wd1 P _ _) Wp6 O.st λh3 H3=>?_)
  exact RunS.stP H3 λh5 H5=>k h5 (RunS.drp (RunS.none H5))
 rw [if_neg c] at k
 refine Wa3 (λc=>?_) (λc=>?_)
 ·rw [if_pos c] at k
  refine RunS.stR (i:=5) H1 rfl (U.lit rfl) λh2 H2=>?_
  try simp +decide only [Wb8,bsx,Nat.reduceAdd,Int.reduceLE,Int.reduceLT,Int.reduceToNat,rsx,g_s,Wa8,RunS.al H2]
  refine RunS.stP H2 λh3 H3=>?_
  have L3:RL ((x.s 5 1).pc 7):=L.at ⟨rfl,rfl,rfl⟩
  obtain ⟨pb,sb,wb,W⟩:=RunS.rows H3 L3
  have wf:=W.f
  have l0:=L3.e0
  have wg:=W.g (i:=0) (by omega)
  try simp +decide only [Wb8,bsx,Nat.reduceAdd,Int.reduceLE,Int.reduceLT,Int.reduceToNat,rsx,g_s,Wa8,RunS.al H3,wf,wg]
  refine ⟨by omega,?_⟩
  try simp +decide only [Wb8,bsx,Nat.reduceAdd,Int.reduceLE,Int.reduceLT,Int.reduceToNat,rsx,g_s,Wa8,RunS.al H3,wf,wg]
  refine ⟨by omega,?_⟩
  try simp +decide only [Wb8,bsx,Nat.reduceAdd,Int.reduceLE,Int.reduceLT,Int.reduceToNat,rsx,g_s,Wa8,RunS.al H3,wf,wg]
  refine Wa0 (Wd7 H3 λh4 o4=>?_)
  have H4:=RunS.old H3 o4
  have W4:=W.old o4
  have wf4:=W4.f
  have wg4:=W4.g (i:=0) (by omega)
  try simp +decide only [Wb8,bsx,Nat.reduceAdd,Int.reduceLE,Int.reduceLT,Int.reduceToNat,rsx,g_s,Wa8,RunS.al H4,wf4,wg4]
  refine Wa0 (Wn2 H4 (Wd1 P _ _) (RunS.woU H4 0) O.st λh5 H5=>?_)
  refine ss H5 ?_
  refine Wb7 (λc2=>?_) (λc2=>?_)
  ·rw [if_pos c2] at k
   exact RunS.stP H5 λh6 H6=>k h6 (RunS.drp (RunS.none H6))
  ·rw [if_neg (by rw [c2];simp)] at k
   exact k h5 (RunS.drp (RunS.none H5))
 rw [if_neg c] at k
 exact k h1 (RunS.drp (RunS.none H1))
theorem Yg2 (H:Sat h (RunS M T tv (some (b,o)) x R)) (O:Ok x) (L:RL x) (hr2:12≤x.f.pc→x.f.g 5 < x.t.pred.length) (k:∀h',Sat h' (RunS M T tv none (Wu0 x) R)→K (.tuple #[]) h') :
  Wa5 Tryz.prog 180 #[rV M T b o] h K:=by
 refine call180 ?_
 unfold F180 g180 cf ce bd lS lP lI nP da3
 have B:=RunS.fB H
 have P:=RunS.pl H
 have hd:=O.fr
 have hr0:=(B.g 5).1
 unfold Wu0 at k
 dsimp only at k
 have H1:=RunS.new H (.cells #[mP M,mP T,fP b o] 204);generalize h.push (.cells #[mP M,mP T,fP b o] 204)=h1 at *;generalize h.size=N at *
 refine ss H1 ?_
 refine Wa3 (λc=>?_) (λc=>?_)
 ·rw [if_pos c] at k
  refine Wa3 (λc2=>?_) (λc2=>?_)
  ·rw [if_pos c2] at k
   exact RunS.stP H1 λh2 H2=>k h2 (RunS.drp (RunS.none H2))
  rw [if_neg c2] at k
  refine RunS.stP H1 λh2 H2=>?_
  refine ss H2 ?_
  refine Wa0 (Wd7 H2 λh3 o3=>?_)
  have H3:=RunS.old H2 o3
  try simp +decide only [Wb8,bsx,Nat.reduceAdd,Int.reduceLE,Int.reduceLT,Int.reduceToNat,rsx,g_s,Wa8,RunS.al H3,Zg5]
  refine Wa0 (Wg2 H3 (Wd1 P _ _) O.st λh4 H4 u4=>?_)
  refine ss H4 ?_
  refine Wa0 (Wq0 u4 ?_)
  refine ss H4 ?_
  refine Wb7 (λc3=>?_) (λc3=>?_)
  ·rw [if_pos c3] at k
   exact RunS.stP H4 λh5 H5=>k h5 (RunS.drp (RunS.none H5))
  ·rw [if_neg (by rw [c3];simp)] at k
   exact k h4 (RunS.drp (RunS.none H4))
 rw [if_neg c] at k
 refine Wa3 (λc=>?_) (λc=>?_)
 ·rw [if_pos c] at k
  have hr:=hr2 (by omega)
  refine RunS.stP H1 λh2 H2=>?_
  have L2:RL (x.pc 13):=L.at ⟨rfl,rfl,rfl⟩
  obtain ⟨pb,sb,wb,W⟩:=RunS.rows H2 L2
  have wf:=W.f
  try simp +decide only [Wb8,bsx,Nat.reduceAdd,Int.reduceLE,Int.reduceLT,Int.reduceToNat,rsx,g_s,Wa8,RunS.al H2,wf]
  refine ⟨by omega,hr,?_⟩
  have wg:=W.g (i:=(x.f.g 5).toNat) (by show _ < x.t.pred.length;omega)
  try simp +decide only [Wb8,bsx,Nat.reduceAdd,Int.reduceLE,Int.reduceLT,Int.reduceToNat,rsx,g_s,Wa8,RunS.al H2,wf,wg]
  refine ⟨λvs h'=>∃(w:Value) (d:Bool) (y:Run),vs = [w,.bool d]∧Sat h' (RunS M T tv (some (b,o)) y (pt N (.cells #[mP M,mP T,fP b o] 204)*R))∧∀h'',Sat h'' (RunS M T tv none (if d then y.pc 17 else y) R)→K (.tuple #[]) h'',?_,?_⟩
  ·refine Wb7 (λc2=>?_) (λc2=>?_)
   ·have c2':¬ (x.pc 13).t.succ.getD (x.f.g 5).toNat 0=2:=bne_iff_ne.1 c2
    rw [if_neg c2'] at k
    refine Wa3 (λc3=>?_) (λc3=>?_)
    ·rw [if_pos c3] at k
     exact ⟨_,_,_,rfl,H2,k⟩
    ·rw [if_neg c3] at k
     refine ss H2 ?_
     refine Wa0 (Wd7 H2 λh3 o3=>?_)
     have H3:=RunS.old H2 o3
     refine ss H3 ?_
     refine Wa0 (Wg2 H3 (Wd1 P _ _) O.st λh4 H4 u4=>?_)
     refine ss H4 ?_
     refine Wa0 (Wq0 u4 ?_)
     try simp only [Wb8,bsx,Nat.reduceAdd,Int.reduceLE,Int.reduceLT,Int.reduceToNat]
     exact ⟨_,_,_,rfl,H4,k⟩
   ·have c2':(x.pc 13).t.succ.getD (x.f.g 5).toNat 0=2:=bne_eq_false_iff_eq.1 c2
    rw [if_pos c2'] at k
    exact ⟨_,false,_,rfl,H2,k⟩
  rintro v64 v65 g66 h67 ⟨w,d,y,e,H3,k⟩
  cases e
  refine ss H3 ?_
  cases d
  ·exact k h67 (RunS.drp (RunS.none H3))
  ·exact RunS.stP H3 λh5 H5=>k h5 (RunS.drp (RunS.none H5))
 rw [if_neg c] at k
 refine Wa3 (λc=>?_) (λc=>?_)
 ·rw [if_pos c] at k
  refine Wa0 (Wd7 H1 λh2 o2=>?_)
  have H2:=RunS.old H1 o2
  refine ss H2 ?_
  refine Wa0 (Wg2 H2 (Wd1 P _ _) O.st λh3 H3 u3=>?_)
  refine ss H3 ?_
  exact RunS.stR (i:=6) H3 rfl u3 λh4 H4=>RunS.stP H4 λh5 H5=>k h5 (RunS.drp (RunS.none H5))
 rw [if_neg c] at k
 refine Wa3 (λc=>?_) (λc=>?_)
 ·rw [if_pos c] at k
  have hr:=hr2 (by omega)
  obtain ⟨pb,sb,wb,W⟩:=RunS.rows H1 L
  have wf:=W.f
  try simp +decide only [Wb8,bsx,Nat.reduceAdd,Int.reduceLE,Int.reduceLT,Int.reduceToNat,rsx,g_s,Wa8,RunS.al H1,wf]
  refine ⟨by omega,by omega,?_⟩
  have wg:=W.g (i:=(x.f.g 5).toNat) (by omega)
  try simp +decide only [Wb8,bsx,Nat.reduceAdd,Int.reduceLE,Int.reduceLT,Int.reduceToNat,rsx,g_s,Wa8,RunS.al H1,wg]
  refine Wa0 (Wd7 H1 λh2 o2=>?_)
  have H2:=RunS.old H1 o2
  have W2:=W.old o2
  have wf2:=W2.f
  have wg2:=W2.g (i:=(x.f.g 5).toNat) (by omega)
  try simp +decide only [Wb8,bsx,Nat.reduceAdd,Int.reduceLE,Int.reduceLT,Int.reduceToNat,rsx,g_s,Wa8,RunS.al H2,wf2,wg2]
  refine Wa0 (Wg9 (B.g 6) ?_)
  refine ss H2 ?_
  refine Wa0 (Wi9 H2 (Wd1 P _ _) Wp6 O.st λh3 H3=>?_)
  exact RunS.stP H3 λh5 H5=>k h5 (RunS.drp (RunS.none H5))
 rw [if_neg c] at k
 exact k h1 (RunS.drp (RunS.none H1))
theorem Yq5 (H:Sat h (RunS M T tv (some (b,o)) x R)) (O:Ok x) (L:RL x) (hr2:x.f.pc=15→x.f.g 5 < x.t.pred.length) (k:∀h',Sat h' (RunS M T tv none (WB7 x) R)→K (.tuple #[]) h') :
  Wa5 Tryz.prog 181 #[rV M T b o] h K:=by
 refine call181 ?_
 unfold F181 g181 cf ce bd lS lP lI nP da3
 have B:=RunS.fB H
 have P:=RunS.pl H
 have hd:=O.fr
 have hr0:=(B.g 5).1
 have r0:=RunS.ret H 0
 unfold WB7 at k
 dsimp only at k
 have H1:=RunS.new H (.cells #[mP M,mP T,fP b o] 204);generalize h.push (.cells #[mP M,mP T,fP b o] 204)=h1 at *;generalize h.size=N at *
 refine ss H1 ?_
 refine Wa3 (λc=>?_) (λc=>?_)
 ·rw [if_pos c] at k
  have hr:=hr2 c
  obtain ⟨pb,sb,wb,W⟩:=RunS.rows H1 L
  have wf:=W.f
  try simp +decide only [Wb8,bsx,Nat.reduceAdd,Int.reduceLE,Int.reduceLT,Int.reduceToNat,rsx,g_s,Wa8,RunS.al H1,wf]
  refine ⟨by omega,by omega,?_⟩
  have wg:=W.g (i:=(x.f.g 5).toNat) (by omega)
  try simp +decide only [Wb8,bsx,Nat.reduceAdd,Int.reduceLE,Int.reduceLT,Int.reduceToNat,rsx,g_s,Wa8,RunS.al H1,wf,wg]
  refine ⟨by omega,by omega,?_⟩
  try simp +decide only [Wb8,bsx,Nat.reduceAdd,Int.reduceLE,Int.reduceLT,Int.reduceToNat,rsx,g_s,Wa8,RunS.al H1,wf,wg]
  refine Wa0 (Wd7 H1 λh2 o2=>?_)
  have H2:=RunS.old H1 o2
  have W2:=W.old o2
  have wf2:=W2.f
  have wg2:=W2.g (i:=(x.f.g 5).toNat) (by omega)
  try simp +decide only [Wb8,bsx,Nat.reduceAdd,Int.reduceLE,Int.reduceLT,Int.reduceToNat,rsx,g_s,Wa8,RunS.al H2,wf2,wg2]
  refine Wa0 (Wn2 H2 (Wd1 P _ _) (RunS.woU H2 _) O.st λh3 H3=>?_)
  refine ss H3 ?_
  have ef:(x.swingM (x.nlink (x.t.pred.getD (x.f.g 5).toNat 0) (x.f.g 5)) (x.t.word.getD (x.f.g 5).toNat 0) (x.f.g 2) false).2.f=x.f:=rfl
  refine Wb7 (λc3=>?_) (λc3=>?_)
  ·rw [if_pos c3] at k
   try simp +decide only [Wb8,bsx,Nat.reduceAdd,Int.reduceLE,Int.reduceLT,Int.reduceToNat,rsx,g_s,Wa8,RunS.al H3,ef]
   refine RunS.stR (i:=5) H3 rfl (Wj9 _) λh4 H4=>?_
   try simp +decide only [Wb8,bsx,Nat.reduceAdd,Int.reduceLE,Int.reduceLT,Int.reduceToNat,rsx,g_s,Wa8,RunS.al H4]
   exact RunS.stP H4 λh5 H5=>k h5 (RunS.drp (RunS.none H5))
  ·rw [if_neg (by rw [c3];simp)] at k
   try simp +decide only [Wb8,bsx,Nat.reduceAdd,Int.reduceLE,Int.reduceLT,Int.reduceToNat,rsx,g_s,Wa8,RunS.al H3,ef]
   exact Wa0 (WH0 H3 [x.f.g 4] rfl (Wn5 (B.g 4)) rfl (show x.t.fr.length < _ by omega) λh4 b' o' _ _ H4=>k h4 (RunS.drp (RunS.none H4)))
 rw [if_neg c] at k
 refine Wa3 (λc=>?_) (λc=>?_)
 ·rw [if_pos c] at k
  refine RunS.stR (i:=7) H1 rfl r0 λh2 H2=>?_
  try simp +decide only [Wb8,bsx,Nat.reduceAdd,Int.reduceLE,Int.reduceLT,Int.reduceToNat,rsx,g_s,Wa8,RunS.al H2]
  refine RunS.stP H2 λh3 H3=>?_
  have L3:RL ((x.s 7 (x.ret 0)).pc 11):=L.at ⟨rfl,rfl,rfl⟩
  obtain ⟨pb,sb,wb,W⟩:=RunS.rows H3 L3
  have wf:=W.f
  have l0:=L3.e0
  have wg:=W.g (i:=0) (by omega)
  try simp +decide only [Wb8,bsx,Nat.reduceAdd,Int.reduceLE,Int.reduceLT,Int.reduceToNat,rsx,g_s,Wa8,RunS.al H3,wf,wg]
  refine ⟨by omega,?_⟩
  try simp +decide only [Wb8,bsx,Nat.reduceAdd,Int.reduceLE,Int.reduceLT,Int.reduceToNat,rsx,g_s,Wa8,RunS.al H3,wf,wg]
  refine Wb7 (λc2=>?_) (λc2=>?_)
  ·rw [if_pos (bne_iff_ne.1 c2)] at k
   exact RunS.stP H3 λh5 H5=>k h5 (RunS.drp (RunS.none H5))
  ·rw [if_neg (λhh=>hh (bne_eq_false_iff_eq.1 c2))] at k
   exact k h3 (RunS.drp (RunS.none H3))
 rw [if_neg c] at k
 refine Wa3 (λc=>?_) (λc=>?_)
 ·rw [if_pos c] at k
  refine Wa0 (Wo7 H1 (by decide) λh2 o2=>?_)
  have H2:=RunS.old H1 o2
  refine ss H2 ?_
  refine Wa0 (Wi9 H2 (Wd1 P _ _) U0 O.st λh3 H3=>?_)
  exact RunS.stP H3 λh5 H5=>k h5 (RunS.drp (RunS.none H5))
 ·rw [if_neg c] at k
  exact Wa0 (Wu1 H1 U0 (by omega) λh5 b' o' H5=>k h5 (RunS.drp (RunS.none H5)))
structure ZJ9 (x:Run):Prop where
 L:RL x
 a:12≤x.f.pc→x.f.pc≤15→x.f.g 5 < x.t.pred.length
theorem Yq6 (H:Sat h (RunS M T tv (some (b,o)) x R)) (O:Ok x) (S:ZJ9 x) (k:∀h',Sat h' (RunS M T tv none (WB8 x) R)→K (.tuple #[]) h') :
  Wa5 Tryz.prog 116 #[rV M T b o] h K:=by
 refine call116 ?_
 unfold F116 g116 cf lP lI nP dl3
 unfold WB8 at k
 have H1:=RunS.new H (.cells #[mP M,mP T,fP b o] 204);generalize h.push (.cells #[mP M,mP T,fP b o] 204)=h1 at *;generalize h.size=N at *
 refine ss H1 ?_
 refine Wa3 (λc=>?_) (λc=>?_)
 ·rw [if_pos c] at k
  exact Wa0 (Yq4 H1 O λh2 H2=>k h2 (RunS.drp H2))
 rw [if_neg c] at k
 refine Wa3 (λc=>?_) (λc=>?_)
 ·rw [if_pos c] at k
  exact Wa0 (YI9 H1 O λh2 H2=>k h2 (RunS.drp H2))
 rw [if_neg c] at k
 refine Wa3 (λc=>?_) (λc=>?_)
 ·rw [if_pos c] at k
  exact Wa0 (Yg1 H1 O S.L λh2 H2=>k h2 (RunS.drp H2))
 rw [if_neg c] at k
 refine Wa3 (λc=>?_) (λc=>?_)
 ·rw [if_pos c] at k
  exact Wa0 (Yg2 H1 O S.L (λhh=>S.a hh (by omega)) λh2 H2=>k h2 (RunS.drp H2))
 rw [if_neg c] at k
 exact Wa0 (Yq5 H1 O S.L (λhh=>S.a (by omega) (by omega)) λh2 H2=>k h2 (RunS.drp H2))
end
end
section
open Mod
section
variable {K:Value→Wa1→Prop} {h:Wa1} {M T b o N:Nat} {tv:Value} {fo:Option (Nat × Nat)} {x:Run} {R:Hp}
theorem Zu7 (x:Run) (i j:Int) (n:Nat) (v:Int):((x.pc i).s n v).pc j=(x.s n v).pc j:=by
 show ((x.pc i).setF ((x.pc i).f.s n v)).setF (((x.pc i).setF ((x.pc i).f.s n v)).f.at j)=(x.setF (x.f.s n v)).setF ((x.setF (x.f.s n v)).f.at j)
 rw [WU1,WU1,WE8]
 unfold Run.pc Run.setF Thr.setTop
 simp [Frm.at,Frm.s]
theorem Yq7 (H:Sat h (RunS M T tv (some (b,o)) x R)) (O:Ok x) (k:∀h',Sat h' (RunS M T tv none (WB2 x) R)→K (.tuple #[]) h') :
  Wa5 Tryz.prog 117 #[rV M T b o] h K:=by
 refine call117 ?_
 unfold F117 g117 cf ce bd lP lI nP da3
 have B:=RunS.fB H
 have P:=RunS.pl H
 unfold WB2 at k
 dsimp only at k
 have H1:=RunS.new H (.cells #[mP M,mP T,fP b o] 205);generalize h.push (.cells #[mP M,mP T,fP b o] 205)=h1 at *;generalize h.size=N at *
 refine ss H1 ?_
 refine Wa3 (λc=>?_) (λc=>?_)
 ·rw [if_pos c] at k
  refine Wa0 (Wd7 H1 λh2 o2=>?_)
  have H2:=RunS.old H1 o2
  refine ss H2 ?_
  refine Wa0 (Wg2 H2 (Wd1 P _ _) O.st λh3 H3 u3=>?_)
  refine ss H3 ?_
  refine RunS.stR (i:=0) H3 rfl u3 λh4 H4=>?_
  try simp +decide only [Wb8,bsx,Nat.reduceAdd,Int.reduceLE,Int.reduceLT,Int.reduceToNat,rsx,g_s,Wa8,RunS.al H4,B.len]
  refine Wa0 (Wi0 u3 ?_)
  try simp +decide only [Wb8,bsx,Nat.reduceAdd,Int.reduceLE,Int.reduceLT,Int.reduceToNat,rsx,g_s,Wa8,RunS.al H4,B.len]
  refine Wa0 (Wi0 u3 ?_)
  try simp +decide only [Wb8,bsx,Nat.reduceAdd,Int.reduceLE,Int.reduceLT,Int.reduceToNat,rsx,g_s,Wa8,RunS.al H4,B.len]
  refine RunS.stR (i:=1) H4 rfl (Wj0 _) λh5 H5=>?_
  try simp +decide only [Wb8,bsx,Nat.reduceAdd,Int.reduceLE,Int.reduceLT,Int.reduceToNat,rsx,g_s,Wa8,RunS.al H5]
  refine RunS.stR (i:=2) H5 rfl (Wj0 _) λh6 H6=>?_
  try simp +decide only [Wb8,bsx,Nat.reduceAdd,Int.reduceLE,Int.reduceLT,Int.reduceToNat,rsx,g_s,Wa8,RunS.al H6]
  refine RunS.stP H6 λh7 H7=>?_
  try simp +decide only [Wb8,bsx,Nat.reduceAdd,Int.reduceLE,Int.reduceLT,Int.reduceToNat,rsx,g_s,Wa8,RunS.al H7,B.len]
  refine Wa0 (Wq0 u3 ?_)
  refine ss H7 ?_
  refine Wb7 (λc2=>?_) (λc2=>?_)
  ·rw [if_neg (by simpa using c2)] at k
   have hd:=O.fr
   have l0:(x.load (x.nlink 1 0)).2.t.fr=x.t.fr:=rfl
   have l1:=Ws4 (x.load (x.nlink 1 0)).2 0 (x.load (x.nlink 1 0)).1
   have l2:=Ws4 ((x.load (x.nlink 1 0)).2.s 0 (x.load (x.nlink 1 0)).1) 1 (Wg8 (x.load (x.nlink 1 0)).1)
   have l3:=Ws4 (((x.load (x.nlink 1 0)).2.s 0 (x.load (x.nlink 1 0)).1).s 1 (Wg8 (x.load (x.nlink 1 0)).1)) 2 (Wg8 (x.load (x.nlink 1 0)).1)
   have l4:=WF4 ((((x.load (x.nlink 1 0)).2.s 0 (x.load (x.nlink 1 0)).1).s 1 (Wg8 (x.load (x.nlink 1 0)).1)).s 2 (Wg8 (x.load (x.nlink 1 0)).1)) 1
   rw [l0] at l1
   exact Wa0 (Wu1 H7 U0 (by omega) λh8 b' o' H8=>k h8 (RunS.drp (RunS.none H8)))
  ·rw [if_pos (by simpa using c2)] at k
   exact k h7 (RunS.drp (RunS.none H7))
 rw [if_neg c] at k
 refine Wa3 (λc=>?_) (λc=>?_)
 ·rw [if_pos c] at k
  refine Wa0 (Wd7 H1 λh2 o2=>?_)
  have H2:=RunS.old H1 o2
  refine ss H2 ?_
  refine Wa0 (Wg2 H2 (Wd1 P _ _) O.st λh3 H3 u3=>?_)
  refine ss H3 ?_
  refine Wa0 (Wi0 u3 ?_)
  refine ss H3 ?_
  refine RunS.stR (i:=2) H3 rfl (Wj0 _) λh4 H4=>?_
  try simp +decide only [Wb8,bsx,Nat.reduceAdd,Int.reduceLE,Int.reduceLT,Int.reduceToNat,rsx,g_s,Wa8,RunS.al H4]
  refine RunS.stP H4 λh5 H5=>?_
  try simp +decide only [Wb8,bsx,Nat.reduceAdd,Int.reduceLE,Int.reduceLT,Int.reduceToNat,rsx,g_s,Wa8,RunS.al H5]
  refine Wa0 (Wq0 u3 ?_)
  refine ss H5 ?_
  refine Wb7 (λc2=>?_) (λc2=>?_)
  ·rw [if_pos c2] at k
   refine Wa0 (Wi0 u3 ?_)
   refine ss H5 ?_
   refine RunS.stR (i:=1) H5 rfl (Wj0 _) λh6 H6=>?_
   try simp +decide only [Wb8,bsx,Nat.reduceAdd,Int.reduceLE,Int.reduceLT,Int.reduceToNat,rsx,g_s,Wa8,RunS.al H6]
   exact RunS.stP H6 λh90 H90=>k h90 (RunS.drp (RunS.none H90))
  ·rw [if_neg (by rw [c2];simp)] at k
   exact k h5 (RunS.drp (RunS.none H5))
 rw [if_neg c] at k
 refine Wa3 (λc=>?_) (λc=>?_)
 ·rw [if_pos c] at k
  have hd:=O.fr
  exact Wa0 (WH0 H1 [x.f.g 1] rfl (Wn5 (B.g 1)) rfl (by omega) λh4 b' o' _ _ H4=>k h4 (RunS.drp (RunS.none H4)))
 rw [if_neg c] at k
 refine Wa3 (λc=>?_) (λc=>?_)
 ·rw [if_pos c] at k
  refine Wa0 (Wd7 H1 λh2 o2=>?_)
  have H2:=RunS.old H1 o2
  refine ss H2 ?_
  refine Wa0 (Wn2 H2 (Wd1 P _ _) (B.g 0) O.st λh3 H3=>?_)
  refine ss H3 ?_
  exact RunS.stP H3 λh90 H90=>k h90 (RunS.drp (RunS.none H90))
 rw [if_neg c] at k
 refine Wa3 (λc=>?_) (λc=>?_)
 ·rw [if_pos c] at k
  have hd:=O.fr
  refine Wa0 (Wi0 (B.g 0) ?_)
  refine ss H1 ?_
  exact Wa0 (WH0 H1 [Wg8 (x.f.g 0),x.f.g 2] rfl (Yf0 (Wj0 _) (B.g 2)) rfl (by omega) λh4 b' o' _ _ H4=>k h4 (RunS.drp (RunS.none H4)))
 rw [if_neg c] at k
 have hd:=O.fr
 exact Wa0 (Wu1 H1 U0 (by omega) λh8 b' o' H8=>k h8 (RunS.drp (RunS.none H8)))
theorem Yq8 (H:Sat h (RunS M T tv (some (b,o)) x R)) (O:Ok x) (k:∀h',Sat h' (RunS M T tv none (WB3 x) R)→K (.tuple #[]) h') :
  Wa5 Tryz.prog 118 #[rV M T b o] h K:=by
 refine call118 ?_
 unfold F118 g118 cf ce bd lP lI nP da3
 have B:=RunS.fB H
 have P:=RunS.pl H
 unfold WB3 at k
 dsimp only at k
 have H1:=RunS.new H (.cells #[mP M,mP T,fP b o] 206);generalize h.push (.cells #[mP M,mP T,fP b o] 206)=h1 at *;generalize h.size=N at *
 refine ss H1 ?_
 refine Wa3 (λc=>?_) (λc=>?_)
 ·rw [if_pos c] at k
  refine Wa0 (ZH2 H1 (by decide) O.st λh2 H2 u2=>?_)
  refine ss H2 ?_
  exact RunS.stP H2 λh90 H90=>k h90 (RunS.drp (RunS.none H90))
 rw [if_neg c] at k
 refine Wa3 (λc=>?_) (λc=>?_)
 ·rw [if_pos c] at k
  refine Wa3 (λc2=>?_) (λc2=>?_)
  ·rw [if_pos c2] at k
   exact Wa0 (Za8 H1 Args.none (by omega) λh2 H2=>k h2 (RunS.drp H2))
  rw [if_neg c2] at k
  refine Wa0 (Wd7 H1 λh2 o2=>?_)
  have H2:=RunS.old H1 o2
  refine ss H2 ?_
  refine Wa0 (Wg2 H2 (Wd1 P _ _) O.st λh3 H3 u3=>?_)
  refine ss H3 ?_
  refine Wa0 (Wi0 u3 ?_)
  refine ss H3 ?_
  refine RunS.stR (i:=2) H3 rfl (Wj0 _) λh4 H4=>?_
  try simp +decide only [Wb8,bsx,Nat.reduceAdd,Int.reduceLE,Int.reduceLT,Int.reduceToNat,rsx,g_s,Wa8,RunS.al H4]
  exact RunS.stP H4 λh90 H90=>k h90 (RunS.drp (RunS.none H90))
 rw [if_neg c] at k
 refine RunS.stR (i:=0) H1 rfl (B.g 2) λh2 H2=>?_
 refine ss H2 ?_
 have hd:=O.fr
 have l1:=Ws4 x 0 (x.f.g 2)
 exact Wa0 (WH0 H2 [x.f.g 0] rfl (Wn5 (B.g 0)) rfl (by omega) λh4 b' o' _ _ H4=>k h4 (RunS.drp (RunS.none H4)))
theorem WH1 (H:Sat h (RunS M T tv (some (b,o)) x R)) (k:∀h',Sat h' (RunS M T tv none (Wv0 x) R)→K (.tuple #[]) h') :
  Wa5 Tryz.prog 189 #[rV M T b o] h K:=by
 refine call189 ?_
 unfold F189 g189 bd lP lI nP
 unfold Wv0 at k
 have H1:=RunS.new H (.cells #[mP M,mP T,fP b o] 207);generalize h.push (.cells #[mP M,mP T,fP b o] 207)=h1 at *;generalize h.size=N at *
 refine ss H1 ?_
 refine RunS.stR (i:=2) H1 rfl (Wj9 _) λh2 H2=>?_
 refine ss H2 ?_
 exact RunS.stP H2 λh3 H3=>k h3 (RunS.drp (RunS.none H3))
theorem Yq9 (H:Sat h (RunS M T tv (some (b,o)) x R)) (O:Ok x) (k:∀h',Sat h' (RunS M T tv none (WB4 x) R)→K (.tuple #[]) h') :
  Wa5 Tryz.prog 191 #[rV M T b o] h K:=by
 refine call191 ?_
 unfold F191 g191 cf ce bd lP lI nP da3 dl3
 have B:=RunS.fB H
 have P:=RunS.pl H
 unfold WB4 at k
 dsimp only at k
 have H1:=RunS.new H (.cells #[mP M,mP T,fP b o] 207);generalize h.push (.cells #[mP M,mP T,fP b o] 207)=h1 at *;generalize h.size=N at *
 refine ss H1 ?_
 refine Wa3 (λc=>?_) (λc=>?_)
 ·rw [if_pos c] at k
  refine ⟨λvs h'=>∃(d:Bool) (y:Run),vs = [.bool d,.bool d]∧Sat h' (RunS M T tv (some (b,o)) y (pt N (.cells #[mP M,mP T,fP b o] 207)*R))∧y.f=x.f∧∀h'',Sat h'' (RunS M T tv none (if d then y.pc 5 else if x.f.g 4=Wg8 (x.f.g 3) then Wv0 y else y.pc 6) R)→K (.tuple #[]) h'',?_,?_⟩
  ·refine Wa3 (λc2=>?_) (λc2=>?_)
   ·rw [if_pos c2] at k
    exact ⟨true,x,rfl,H1,rfl,k⟩
   rw [if_neg c2] at k
   refine Wa0 (Wd7 H1 λh2 o2=>?_)
   have H2:=RunS.old H1 o2
   refine ss H2 ?_
   refine Wa0 (Wg2 H2 (Wd1 P _ _) O.st λh3 H3 u3=>?_)
   refine ss H3 ?_
   refine Wa0 (Wq0 u3 ?_)
   refine ss H3 ?_
   exact ⟨_,_,rfl,H3,rfl,k⟩
  rintro v29 v30 g31 h32 ⟨d,y,e,H3,ef,k⟩
  cases e
  try simp +decide only [Wb8,bsx,Nat.reduceAdd,Int.reduceLE,Int.reduceLT,Int.reduceToNat,rsx,g_s,Wa8,RunS.al H3,ef]
  cases d
  ·simp only [Bool.false_eq_true,if_false] at k
   try simp +decide only [Wb8,bsx,Nat.reduceAdd,Int.reduceLE,Int.reduceLT,Int.reduceToNat,rsx,g_s,Wa8,RunS.al H3,ef]
   refine Wa0 (Wi0 (B.g 3) ?_)
   try simp +decide only [Wb8,bsx,Nat.reduceAdd,Int.reduceLE,Int.reduceLT,Int.reduceToNat,rsx,g_s,Wa8,RunS.al H3,ef]
   refine Wa3 (λc2=>?_) (λc2=>?_)
   ·rw [if_pos c2] at k
    exact Wa0 (WH1 H3 λh4 H4=>k h4 (RunS.drp H4))
   ·rw [if_neg c2] at k
    exact RunS.stP H3 λh4 H4=>k h4 (RunS.drp (RunS.none H4))
  ·exact RunS.stP H3 λh4 H4=>k h4 (RunS.drp (RunS.none H4))
 rw [if_neg c] at k
 refine Wa3 (λc=>?_) (λc=>?_)
 ·rw [if_pos c] at k
  refine Wa0 (Wd7 H1 λh2 o2=>?_)
  have H2:=RunS.old H1 o2
  refine ss H2 ?_
  refine Wa0 (Wg2 H2 (Wd1 P _ _) O.st λh3 H3 u3=>?_)
  refine ss H3 ?_
  refine Wa0 (Wi0 u3 ?_)
  refine ss H3 ?_
  refine RunS.stR (i:=4) H3 rfl (Wj0 _) λh4 H4=>?_
  try simp +decide only [Wb8,bsx,Nat.reduceAdd,Int.reduceLE,Int.reduceLT,Int.reduceToNat,rsx,g_s,Wa8,RunS.al H4]
  refine RunS.stP H4 λh5 H5=>?_
  try simp +decide only [Wb8,bsx,Nat.reduceAdd,Int.reduceLE,Int.reduceLT,Int.reduceToNat,rsx,g_s,Wa8,RunS.al H5,B.len]
  refine Wa3 (λc2=>?_) (λc2=>?_)
  ·rw [if_pos c2] at k
   exact RunS.stP H5 λh90 H90=>k h90 (RunS.drp (RunS.none H90))
  ·rw [if_neg c2] at k
   exact k h5 (RunS.drp (RunS.none H5))
 rw [if_neg c] at k
 refine Wa0 (Wd7 H1 λh2 o2=>?_)
 have H2:=RunS.old H1 o2
 refine ss H2 ?_
 refine Wa0 (Wn2 H2 (Wd1 P _ _) (B.g 3) O.st λh3 H3=>?_)
 refine ss H3 ?_
 refine Wb7 (λc2=>?_) (λc2=>?_)
 ·rw [if_pos c2] at k
  exact Wa0 (WH1 H3 λh4 H4=>k h4 (RunS.drp H4))
 ·rw [if_neg (by rw [c2];simp)] at k
  exact RunS.stP H3 λh90 H90=>k h90 (RunS.drp (RunS.none H90))
theorem Yr0 (H:Sat h (RunS M T tv (some (b,o)) x R)) (O:Ok x) (k:∀h',Sat h' (RunS M T tv none (WB5 x) R)→K (.tuple #[]) h') :
  Wa5 Tryz.prog 119 #[rV M T b o] h K:=by
 refine call119 ?_
 unfold F119 g119 cf ce bd lP lI nP da3 de7 Wn6 dl3
 have B:=RunS.fB H
 have P:=RunS.pl H
 unfold WB5 at k
 dsimp only at k
 have H1:=RunS.new H (.cells #[mP M,mP T,fP b o] 207);generalize h.push (.cells #[mP M,mP T,fP b o] 207)=h1 at *;generalize h.size=N at *
 refine ss H1 ?_
 refine Wa3 (λc=>?_) (λc=>?_)
 ·rw [if_pos c] at k
  refine Wa0 (Wg2 H1 (by decide) O.st λh2 H2 u2=>?_)
  refine ss H2 ?_
  refine RunS.stR (i:=1) H2 rfl u2 λh3 H3=>?_
  refine ss H3 ?_
  refine Wa0 (Wr7 H3 λh4 o4=>WG2 ?_)
  have H4:=RunS.old H3 o4
  try simp +decide only [Wb8,bsx,Nat.reduceAdd,Int.reduceLE,Int.reduceLT,Int.reduceToNat,rsx,g_s,Wa8,RunS.al H4]
  refine Wa0 (Wh3 λh5 o5=>cf7 ?_)
  have H5:=RunS.old H4 o5
  refine ss H5 ?_
  refine RunS.stR (i:=2) H5 rfl (Wj9 _) λh6 H6=>?_
  try simp +decide only [Wb8,bsx,Nat.reduceAdd,Int.reduceLE,Int.reduceLT,Int.reduceToNat,rsx,g_s,Wa8,RunS.al H6]
  exact RunS.stP H6 λh90 H90=>k h90 (RunS.drp (RunS.none H90))
 rw [if_neg c] at k
 refine Wa3 (λc=>?_) (λc=>?_)
 ·rw [if_pos c] at k
  refine Wa3 (λc2=>?_) (λc2=>?_)
  ·rw [if_pos c2] at k
   exact Wa0 (Za8 H1 Args.none (by omega) λh2 H2=>k h2 (RunS.drp H2))
  rw [if_neg c2] at k
  refine Wa0 (Wd7 H1 λh2 o2=>?_)
  have H2:=RunS.old H1 o2
  refine ss H2 ?_
  refine Wa0 (Wg2 H2 (Wd1 P _ _) O.st λh3 H3 u3=>?_)
  refine ss H3 ?_
  refine RunS.stR (i:=3) H3 rfl u3 λh4 H4=>?_
  try simp +decide only [Wb8,bsx,Nat.reduceAdd,Int.reduceLE,Int.reduceLT,Int.reduceToNat,rsx,g_s,Wa8,RunS.al H4,B.len]
  refine Wa0 (Wi0 u3 ?_)
  refine ss H4 ?_
  refine RunS.stR (i:=4) H4 rfl (Wj0 _) λh5 H5=>?_
  try simp +decide only [Wb8,bsx,Nat.reduceAdd,Int.reduceLE,Int.reduceLT,Int.reduceToNat,rsx,g_s,Wa8,RunS.al H5]
  refine RunS.stP H5 λh6 H6=>?_
  try simp +decide only [Wb8,bsx,Nat.reduceAdd,Int.reduceLE,Int.reduceLT,Int.reduceToNat,rsx,g_s,Wa8,RunS.al H6,B.len]
  refine Wa3 (λc3=>?_) (λc3=>?_)
  ·rw [if_pos c3] at k
   exact Wa0 (WH1 H6 λh7 H7=>k h7 (RunS.drp H7))
  ·rw [if_neg c3] at k
   exact k h6 (RunS.drp (RunS.none H6))
 rw [if_neg c] at k
 refine Wa3 (λc=>?_) (λc=>?_)
 ·rw [if_pos c] at k
  refine Wa0 (WO3 H1 O (B.g 5) (B.g 4) λh2 H2=>?_)
  refine ss H2 ?_
  refine RunS.stR (i:=5) H2 rfl (Wj9 _) λh3 H3=>?_
  try simp +decide only [Wb8,bsx,Nat.reduceAdd,Int.reduceLE,Int.reduceLT,Int.reduceToNat,rsx,g_s,Wa8,RunS.al H3]
  exact RunS.stP H3 λh90 H90=>k h90 (RunS.drp (RunS.none H90))
 rw [if_neg c] at k
 refine Wa3 (λc=>?_) (λc=>?_)
 ·rw [if_pos c] at k
  refine RunS.stP H1 λh2 H2=>?_
  refine ss H2 ?_
  refine Wa0 (Wg2 H2 (by decide) O.st λh3 H3 u3=>?_)
  refine ss H3 ?_
  refine Wb7 (λc2=>?_) (λc2=>?_)
  ·rw [if_pos (bne_iff_ne.1 c2)] at k
   exact RunS.stP H3 λh5 H5=>k h5 (RunS.drp (RunS.none H5))
  ·rw [if_neg (λhh=>hh (bne_eq_false_iff_eq.1 c2))] at k
   exact k h3 (RunS.drp (RunS.none H3))
 rw [if_neg c] at k
 exact Wa0 (Yq9 H1 O λh2 H2=>k h2 (RunS.drp H2))
theorem Wm5 (H:Sat h (RunS M T tv (some (b,o)) x R)) (k:∀h',Old h.size h h'→K (.int .u64 (Wg8 (x.f.g 5))) h') :
  Wa5 Tryz.prog 273 #[rV M T b o] h K:=by
 refine call273 ?_
 unfold F273 g273 cf bd lP lI nP
 have B:=RunS.fB H
 have oo:Old h.size h (h.push (.cells #[mP M,mP T,fP b o] 208)):=(Old.refl _ _).push _ (Nat.le_refl _)
 have H1:=RunS.new H (.cells #[mP M,mP T,fP b o] 208);generalize h.push (.cells #[mP M,mP T,fP b o] 208)=h1 at *;generalize h.size=N at *
 refine ss H1 ?_
 refine Wa0 (Wi0 (B.g 5) ?_)
 refine sb ?_
 exact k h1 oo
theorem Yr1 (H:Sat h (RunS M T tv (some (b,o)) x R)) (O:Ok x) (k:∀h',Sat h' (RunS M T tv none (Ww5 x) R)→K (.tuple #[]) h') :
  Wa5 Tryz.prog 192 #[rV M T b o] h K:=by
 refine call192 ?_
 unfold F192 g192 cf ce bd lP lI nP da3 dl3
 have B:=RunS.fB H
 have P:=RunS.pl H
 unfold Ww5 at k
 dsimp only at k
 have H1:=RunS.new H (.cells #[mP M,mP T,fP b o] 208);generalize h.push (.cells #[mP M,mP T,fP b o] 208)=h1 at *;generalize h.size=N at *
 refine ss H1 ?_
 refine Wa3 (λc=>?_) (λc=>?_)
 ·rw [if_pos c] at k
  refine Wa0 (Wg2 H1 (by decide) O.st λh2 H2 u2=>?_)
  refine ss H2 ?_
  refine RunS.stR (i:=0) H2 rfl u2 λh3 H3=>?_
  try simp +decide only [Wb8,bsx,Nat.reduceAdd,Int.reduceLE,Int.reduceLT,Int.reduceToNat,rsx,g_s,Wa8,RunS.al H3]
  refine RunS.stR (i:=2) H3 rfl (U.lit rfl) λh4 H4=>?_
  try simp +decide only [Wb8,bsx,Nat.reduceAdd,Int.reduceLE,Int.reduceLT,Int.reduceToNat,rsx,g_s,Wa8,RunS.al H4]
  refine RunS.stR (i:=3) H4 rfl U0 λh5 H5=>?_
  try simp +decide only [Wb8,bsx,Nat.reduceAdd,Int.reduceLE,Int.reduceLT,Int.reduceToNat,rsx,g_s,Wa8,RunS.al H5]
  refine RunS.stR (i:=4) H5 rfl U0 λh6 H6=>?_
  try simp +decide only [Wb8,bsx,Nat.reduceAdd,Int.reduceLE,Int.reduceLT,Int.reduceToNat,rsx,g_s,Wa8,RunS.al H6]
  exact RunS.stP H6 λh90 H90=>k h90 (RunS.drp (RunS.none H90))
 rw [if_neg c] at k
 refine Wa3 (λc=>?_) (λc=>?_)
 ·rw [if_pos c] at k
  refine Wa0 (Wd7 H1 λh2 o2=>?_)
  have H2:=RunS.old H1 o2
  refine ss H2 ?_
  refine Wa0 (Wg2 H2 (Wd1 P _ _) O.st λh3 H3 u3=>?_)
  refine ss H3 ?_
  refine RunS.stR (i:=1) H3 rfl u3 λh4 H4=>?_
  try simp +decide only [Wb8,bsx,Nat.reduceAdd,Int.reduceLE,Int.reduceLT,Int.reduceToNat,rsx,g_s,Wa8,RunS.al H4,B.len]
  refine RunS.stR (i:=5) H4 rfl u3 λh5 H5=>?_
  try simp +decide only [Wb8,bsx,Nat.reduceAdd,Int.reduceLE,Int.reduceLT,Int.reduceToNat,rsx,g_s,Wa8,RunS.al H5]
  exact RunS.stP H5 λh90 H90=>k h90 (RunS.drp (RunS.none H90))
 rw [if_neg c] at k
 refine Wa3 (λc=>?_) (λc=>?_)
 ·rw [if_pos c] at k
  refine RunS.stP H1 λh2 H2=>?_
  refine ss H2 ?_
  refine Wa0 (Wm5 H2 λh3 o3=>?_)
  have H3:=RunS.old H2 o3
  refine ss H3 ?_
  have hd:=O.fr
  have l1:=WF4 x 3
  refine Wa3 (λc2=>?_) (λc2=>?_)
  ·rw [if_pos c2] at k
   exact Wa0 (Wu1 H3 (U.lit rfl) (by omega) λh8 b' o' H8=>k h8 (RunS.drp (RunS.none H8)))
  ·rw [if_neg c2] at k
   exact k h3 (RunS.drp (RunS.none H3))
 rw [if_neg c] at k
 refine Wa3 (λc=>?_) (λc=>?_)
 ·rw [if_pos c] at k
  refine Wa0 (Wm5 H1 λh2 o2=>?_)
  have H2:=RunS.old H1 o2
  refine ss H2 ?_
  refine Wa0 (WO3 H2 O (B.g 3) (Wj0 _) λh3 H3=>?_)
  have ef:(x.guard (x.f.g 3) (Wg8 (x.f.g 5))).f=x.f:=rfl
  try simp +decide only [Wb8,bsx,Nat.reduceAdd,Int.reduceLE,Int.reduceLT,Int.reduceToNat,rsx,g_s,Wa8,RunS.al H3,ef]
  refine RunS.stR (i:=3) H3 rfl (Wj9 _) λh4 H4=>?_
  try simp +decide only [Wb8,bsx,Nat.reduceAdd,Int.reduceLE,Int.reduceLT,Int.reduceToNat,rsx,g_s,Wa8,RunS.al H4]
  exact RunS.stP H4 λh90 H90=>k h90 (RunS.drp (RunS.none H90))
 rw [if_neg c] at k
 refine Wa3 (λc=>?_) (λc=>?_)
 ·rw [if_pos c] at k
  refine RunS.stP H1 λh2 H2=>?_
  refine ss H2 ?_
  refine Wa0 (Wg2 H2 (by decide) O.st λh3 H3 u3=>?_)
  refine ss H3 ?_
  refine Wb7 (λc2=>?_) (λc2=>?_)
  ·rw [if_pos (bne_iff_ne.1 c2)] at k
   exact RunS.stP H3 λh5 H5=>k h5 (RunS.drp (RunS.none H5))
  ·rw [if_neg (λhh=>hh (bne_eq_false_iff_eq.1 c2))] at k
   exact k h3 (RunS.drp (RunS.none H3))
 rw [if_neg c] at k
 exact k h1 (RunS.drp (RunS.none H1))
theorem Y04 (H:Sat h (RunS M T tv (some (b,o)) x R)) (O:Ok x) (k:∀h',Sat h' (RunS M T tv none (YF9 x) R)→K (.tuple #[]) h') :
  Wa5 Tryz.prog 193 #[rV M T b o] h K:=by
 refine call193 ?_
 unfold F193 g193 cf ce bd lP lI nP da3 dl3
 have B:=RunS.fB H
 have P:=RunS.pl H
 unfold YF9 at k
 dsimp only at k
 have H1:=RunS.new H (.cells #[mP M,mP T,fP b o] 208);generalize h.push (.cells #[mP M,mP T,fP b o] 208)=h1 at *;generalize h.size=N at *
 refine ss H1 ?_
 refine Wa3 (λc=>?_) (λc=>?_)
 ·rw [if_pos c] at k
  refine RunS.stP H1 λh2 H2=>?_
  refine ss H2 ?_
  refine ⟨λvs h'=>∃(w:Value) (d:Bool) (y:Run),vs = [w,.bool d]∧Sat h' (RunS M T tv (some (b,o)) y (pt N (.cells #[mP M,mP T,fP b o] 208)*R))∧(∀i,y.f.g i=x.f.g i)∧∀h'',Sat h'' (RunS M T tv none (if d then y.s 4 (x.f.g 2) else y) R)→K (.tuple #[]) h'',?_,?_⟩
  ·refine Wb7 (λc2=>?_) (λc2=>?_)
   ·have c2':=bne_iff_ne.1 c2
    refine Wa3 (λc3=>?_) (λc3=>?_)
    ·rw [if_pos ⟨c2',c3⟩] at k
     refine ss H2 ?_
     refine Wa0 (Wo7 H2 (by decide) λh3 o3=>?_)
     have H3:=RunS.old H2 o3
     refine ss H3 ?_
     refine Wa0 (Wg2 H3 (Wd1 P _ _) O.st λh4 H4 u4=>?_)
     refine ss H4 ?_
     refine ⟨_,decide (((x.pc 6).load ((x.pc 6).na (x.f.g 2) 2)).1=1),_,rfl,H4,λi=>by rw [Wl8,WE8,WP3],?_⟩
     simp only [decide_eq_true_eq]
     exact k
    ·rw [if_neg (λhh=>c3 hh.2)] at k
     exact ⟨_,false,_,rfl,H2,λi=>by rw [WE8,WP3],k⟩
   ·have c2':=bne_eq_false_iff_eq.1 c2
    rw [if_neg (λhh=>hh.1 c2')] at k
    exact ⟨_,false,_,rfl,H2,λi=>by rw [WE8,WP3],k⟩
  rintro v28 v29 g30 h31 ⟨w,d,y,e,H3,eg,k⟩
  cases e
  try simp +decide only [Wb8,bsx,Nat.reduceAdd,Int.reduceLE,Int.reduceLT,Int.reduceToNat,rsx,g_s,Wa8,RunS.al H3,eg]
  cases d
  ·exact k h31 (RunS.drp (RunS.none H3))
  ·try simp +decide only [Wb8,bsx,Nat.reduceAdd,Int.reduceLE,Int.reduceLT,Int.reduceToNat,rsx,g_s,Wa8,RunS.al H3,eg]
   exact RunS.stR (i:=4) H3 rfl (B.g 2) λh4 H4=>k h4 (RunS.drp (RunS.none H4))
 rw [if_neg c] at k
 refine Wa3 (λc=>?_) (λc=>?_)
 ·rw [if_pos c] at k
  refine RunS.stP H1 λh2 H2=>?_
  refine ss H2 ?_
  refine Wa0 (Wq0 (B.g 5) ?_)
  refine ss H2 ?_
  refine Wb7 (λc2=>?_) (λc2=>?_)
  ·rw [if_pos c2,← Zu7 x 8 7] at k
   try simp +decide only [Wb8,bsx,Nat.reduceAdd,Int.reduceLE,Int.reduceLT,Int.reduceToNat,rsx,g_s,Wa8,RunS.al H2]
   refine Wa0 (Wm5 H2 λh3 o3=>?_)
   have H3:=RunS.old H2 o3
   refine ss H3 ?_
   refine RunS.stR (i:=2) H3 rfl (Wj0 _) λh4 H4=>?_
   try simp +decide only [Wb8,bsx,Nat.reduceAdd,Int.reduceLE,Int.reduceLT,Int.reduceToNat,rsx,g_s,Wa8,RunS.al H4]
   exact RunS.stP H4 λh5 H5=>k h5 (RunS.drp (RunS.none H5))
  ·rw [if_neg (by rw [c2];simp)] at k
   try simp +decide only [Wb8,bsx,Nat.reduceAdd,Int.reduceLE,Int.reduceLT,Int.reduceToNat,rsx,g_s,Wa8,RunS.al H2]
   refine Wa3 (λc3=>?_) (λc3=>?_)
   ·rw [if_pos c3,← ZD7 x 8 9] at k
    exact RunS.stP H2 λh5 H5=>k h5 (RunS.drp (RunS.none H5))
   ·rw [if_neg c3] at k
    exact k h2 (RunS.drp (RunS.none H2))
 rw [if_neg c] at k
 refine Wa3 (λc=>?_) (λc=>?_)
 ·rw [if_pos c] at k
  refine Wa0 (Wd7 H1 λh2 o2=>?_)
  have H2:=RunS.old H1 o2
  refine ss H2 ?_
  refine Wa0 (Wg2 H2 (Wd1 P _ _) O.st λh3 H3 u3=>?_)
  refine ss H3 ?_
  refine RunS.stR (i:=5) H3 rfl u3 λh4 H4=>?_
  try simp +decide only [Wb8,bsx,Nat.reduceAdd,Int.reduceLE,Int.reduceLT,Int.reduceToNat,rsx,g_s,Wa8,RunS.al H4]
  exact RunS.stP H4 λh90 H90=>k h90 (RunS.drp (RunS.none H90))
 rw [if_neg c] at k
 refine Wa3 (λc=>?_) (λc=>?_)
 ·rw [if_pos c] at k
  refine RunS.stP H1 λh2 H2=>?_
  refine ss H2 ?_
  refine Wa0 (Wd7 H2 λh3 o3=>?_)
  have H3:=RunS.old H2 o3
  refine ss H3 ?_
  refine Wa0 (Wm5 H3 λh4 o4=>?_)
  have H4:=RunS.old H3 o4
  refine ss H4 ?_
  refine Wa0 (Wn2 H4 (Wd1 P _ _) (B.g 5) O.st λh5 H5=>?_)
  have ef:((x.pc 9).swingM ((x.pc 9).nlink (x.f.g 2) 0) (x.f.g 5) (Wg8 (x.f.g 5)) true).2.f=(x.pc 9).f:=rfl
  try simp +decide only [Wb8,bsx,Nat.reduceAdd,Int.reduceLE,Int.reduceLT,Int.reduceToNat,rsx,g_s,Wa8,RunS.al H5,ef]
  refine Wb7 (λc2=>?_) (λc2=>?_)
  ·rw [if_neg (by simpa using c2)] at k
   refine RunS.stR (i:=3) H5 rfl (Wj9 _) λh6 H6=>?_
   try simp +decide only [Wb8,bsx,Nat.reduceAdd,Int.reduceLE,Int.reduceLT,Int.reduceToNat,rsx,g_s,Wa8,RunS.al H6]
   exact RunS.stP H6 λh7 H7=>k h7 (RunS.drp (RunS.none H7))
  ·rw [if_pos (by simpa using c2)] at k
   exact k h5 (RunS.drp (RunS.none H5))
 rw [if_neg c] at k
 exact k h1 (RunS.drp (RunS.none H1))
theorem Yr2 (H:Sat h (RunS M T tv (some (b,o)) x R)) (O:Ok x) (k:∀h',Sat h' (RunS M T tv none (Ww6 x) R)→K (.tuple #[]) h') :
  Wa5 Tryz.prog 194 #[rV M T b o] h K:=by
 refine call194 ?_
 unfold F194 g194 cf ce bd lP lI nP da3 de7 Wn6 dl3
 have B:=RunS.fB H
 have P:=RunS.pl H
 unfold Ww6 at k
 dsimp only at k
 have H1:=RunS.new H (.cells #[mP M,mP T,fP b o] 208);generalize h.push (.cells #[mP M,mP T,fP b o] 208)=h1 at *;generalize h.size=N at *
 refine ss H1 ?_
 refine Wa3 (λc=>?_) (λc=>?_)
 ·rw [if_pos c] at k
  refine Wa0 (Wm5 H1 λh2 o2=>?_)
  have H2:=RunS.old H1 o2
  refine ss H2 ?_
  refine Wa0 (Wo7 H2 (by decide) λh3 o3=>?_)
  have H3:=RunS.old H2 o3
  refine ss H3 ?_
  refine Wa0 (Wg2 H3 (Wd1 P _ _) O.st λh4 H4 u4=>?_)
  refine ss H4 ?_
  refine RunS.stR (i:=6) H4 rfl u4 λh5 H5=>?_
  try simp +decide only [Wb8,bsx,Nat.reduceAdd,Int.reduceLE,Int.reduceLT,Int.reduceToNat,rsx,g_s,Wa8,RunS.al H5]
  exact RunS.stP H5 λh90 H90=>k h90 (RunS.drp (RunS.none H90))
 rw [if_neg c] at k
 refine Wa3 (λc=>?_) (λc=>?_)
 ·rw [if_pos c] at k
  refine Wa0 (Wm5 H1 λh2 o2=>?_)
  have H2:=RunS.old H1 o2
  refine ss H2 ?_
  refine Wa0 (Wo7 H2 (by decide) λh3 o3=>?_)
  have H3:=RunS.old H2 o3
  refine ss H3 ?_
  refine Wa0 (Wg2 H3 (Wd1 P _ _) O.st λh4 H4 u4=>?_)
  refine ss H4 ?_
  refine Wa0 (Yc5 u4 ?_)
  try simp +decide only [Wb8,bsx,Nat.reduceAdd,Int.reduceLE,Int.reduceLT,Int.reduceToNat,rsx,g_s,Wa8,RunS.al H4,YA3 u4]
  refine RunS.stR (i:=8) H4 rfl (YA4 u4) λh5 H5=>?_
  try simp +decide only [Wb8,bsx,Nat.reduceAdd,Int.reduceLE,Int.reduceLT,Int.reduceToNat,rsx,g_s,Wa8,RunS.al H5]
  generalize hy:((x.load (x.na (Wg8 (x.f.g 5)) 0)).2.s 8 (WJ2 (x.load (x.na (Wg8 (x.f.g 5)) 0)).1)).pc 11=y at k
  have hyg:∀i,¬ 8=i→y.f.g i=x.f.g i:=λi hi=>by rw [← hy,WE8,WP3,f_s,Wa8 _ hi,Wl8]
  have hyn:y.f.fn=x.f.fn:=by rw [← hy,WE8,Ws5,f_s,WU2,Wl8]
  refine RunS.stP H5 λh6 H6=>?_
  rw [hy] at H6
  have e3:=hyg 3 (by decide)
  have e4:=hyg 4 (by decide)
  have e5:=hyg 5 (by decide)
  refine ⟨λvs h'=>∃y2:Run,Sat h' (RunS M T tv (some (b,o)) y2 (pt N (.cells #[mP M,mP T,fP b o] 208)*R))∧(∀i,y2.f.g i=y.f.g i)∧∀h'',Sat h'' (RunS M T tv none (if x.f.g 4=0 then y2.s 4 (Wg8 (x.f.g 5)) else y2) R)→K (.tuple #[]) h'',?_,?_⟩
  ·refine ⟨λvs h'=>∃d:Bool,vs = [.bool d]∧Sat h' (RunS M T tv (some (b,o)) y (pt N (.cells #[mP M,mP T,fP b o] 208)*R))∧(d=true↔(x.f.fn=33∨x.f.g 3 < Mod.u64 y.m.p.c.batch)),?_,?_⟩
   ·try simp +decide only [Wb8,bsx,Nat.reduceAdd,Int.reduceLE,Int.reduceLT,Int.reduceToNat,rsx,g_s,Wa8,RunS.al H6,hyn,e3]
    refine Wa3 (λc2=>?_) (λc2=>?_)
    ·exact ⟨true,rfl,H6,by simp [c2]⟩
    ·try simp +decide only [Wb8,bsx,Nat.reduceAdd,Int.reduceLE,Int.reduceLT,Int.reduceToNat,rsx,g_s,Wa8,RunS.al H6,hyn,e3]
     refine Wa0 (Wr7 H6 λh7 o7=>WG2 ?_)
     have H7:=RunS.old H6 o7
     try simp +decide only [Wb8,bsx,Nat.reduceAdd,Int.reduceLE,Int.reduceLT,Int.reduceToNat,rsx,g_s,Wa8,RunS.al H7,e3]
     refine Wa0 (Wh3 λh8 o8=>cf7 ?_)
     have H8:=RunS.old H7 o8
     try simp +decide only [Wb8,bsx,Nat.reduceAdd,Int.reduceLE,Int.reduceLT,Int.reduceToNat,rsx,g_s,Wa8,RunS.al H8,e3]
     exact ⟨_,rfl,H8,by simp [c2]⟩
   rintro v89 g90 h91 ⟨d,e,H7,hd⟩
   cases e
   refine ss H7 ?_
   refine Wb7 (λc2=>?_) (λc2=>?_)
   ·rw [if_pos (show x.f.fn=33∨x.f.g 3 < Mod.u64 y.m.p.c.batch from hd.1 c2)] at k
    exact RunS.stP H7 λh8 H8=>⟨_,H8,λi=>by rw [WE8,WP3],k⟩
   ·have hn:¬ (x.f.fn=33∨x.f.g 3 < Mod.u64 y.m.p.c.batch):=λhh=>by rw [hd.2 hh] at c2;cases c2
    rw [if_neg hn] at k
    exact ⟨_,H7,λi=>rfl,k⟩
  rintro g95 h96 ⟨y2,H7,eg,k⟩
  have f4:=(eg 4).trans e4
  have f5:=(eg 5).trans e5
  try simp +decide only [Wb8,bsx,Nat.reduceAdd,Int.reduceLE,Int.reduceLT,Int.reduceToNat,rsx,g_s,Wa8,RunS.al H7,f4,f5]
  refine Wa3 (λc2=>?_) (λc2=>?_)
  ·rw [if_pos c2] at k
   try simp +decide only [Wb8,bsx,Nat.reduceAdd,Int.reduceLE,Int.reduceLT,Int.reduceToNat,rsx,g_s,Wa8,RunS.al H7,f4,f5]
   refine Wa0 (Wm5 H7 λh8 o8=>?_)
   have H8:=RunS.old H7 o8
   try simp +decide only [Wb8,bsx,Nat.reduceAdd,Int.reduceLE,Int.reduceLT,Int.reduceToNat,rsx,g_s,Wa8,RunS.al H8,f4,f5]
   exact RunS.stR (i:=4) H8 rfl (Wj0 _) λh9 H9=>k h9 (RunS.drp (RunS.none H9))
  ·rw [if_neg c2] at k
   exact k h96 (RunS.drp (RunS.none H7))
 rw [if_neg c] at k
 exact k h1 (RunS.drp (RunS.none H1))
theorem YJ0 (H:Sat h (RunS M T tv (some (b,o)) x R)) (O:Ok x) (k:∀h',Sat h' (RunS M T tv none (WM7 x) R)→K (.tuple #[]) h') :
  Wa5 Tryz.prog 195 #[rV M T b o] h K:=by
 refine call195 ?_
 unfold F195 g195 cf ce bd lP lI nP da3
 have B:=RunS.fB H
 have P:=RunS.pl H
 unfold WM7 at k
 dsimp only at k
 have H1:=RunS.new H (.cells #[mP M,mP T,fP b o] 208);generalize h.push (.cells #[mP M,mP T,fP b o] 208)=h1 at *;generalize h.size=N at *
 refine ss H1 ?_
 refine Wa3 (λc=>?_) (λc=>?_)
 ·rw [if_pos c] at k
  refine RunS.stP H1 λh2 H2=>?_
  refine ss H2 ?_
  refine Wa0 (Wd7 H2 λh3 o3=>?_)
  have H3:=RunS.old H2 o3
  refine ss H3 ?_
  refine Wa0 (Wn2 H3 (Wd1 P _ _) (B.g 1) O.st λh5 H5=>?_)
  refine ss H5 ?_
  refine Wb7 (λc2=>?_) (λc2=>?_)
  ·rw [if_pos c2] at k
   exact RunS.stP H5 λh90 H90=>k h90 (RunS.drp (RunS.none H90))
  ·rw [if_neg (by rw [c2];simp)] at k
   exact k h5 (RunS.drp (RunS.none H5))
 rw [if_neg c] at k
 refine Wa3 (λc=>?_) (λc=>?_)
 ·rw [if_pos c] at k
  have hd:=O.fr
  exact Wa0 (WH0 H1 [0] rfl (Wn5 U0) rfl (by omega) λh4 b' o' _ _ H4=>k h4 (RunS.drp (RunS.none H4)))
 rw [if_neg c] at k
 refine Wa3 (λc=>?_) (λc=>?_)
 ·rw [if_pos c] at k
  have hd:=O.fr
  refine Wa0 (Wi0 (B.g 1) ?_)
  refine ss H1 ?_
  exact Wa0 (WH0 H1 [Wg8 (x.f.g 1),x.f.g 4] rfl (Yf0 (Wj0 _) (B.g 4)) rfl (by omega) λh4 b' o' _ _ H4=>k h4 (RunS.drp (RunS.none H4)))
 rw [if_neg c] at k
 have hd:=O.fr
 exact Wa0 (W24 H1 (U.lit rfl) (B.g 8) (B.g 6) (by omega) λh5 b' o' H5=>k h5 (RunS.drp (RunS.none H5)))
theorem Yr3 (H:Sat h (RunS M T tv (some (b,o)) x R)) (O:Ok x) (k:∀h',Sat h' (RunS M T tv none (Ww7 x) R)→K (.tuple #[]) h') :
  Wa5 Tryz.prog 120 #[rV M T b o] h K:=by
 refine call120 ?_
 unfold F120 g120 cf lP lI nP dl3
 have B:=RunS.fB H
 have P:=RunS.pl H
 unfold Ww7 at k
 have H1:=RunS.new H (.cells #[mP M,mP T,fP b o] 208);generalize h.push (.cells #[mP M,mP T,fP b o] 208)=h1 at *;generalize h.size=N at *
 refine ss H1 ?_
 refine Wa3 (λc=>?_) (λc=>?_)
 ·rw [if_pos c] at k
  exact Wa0 (Yr1 H1 O λh2 H2=>k h2 (RunS.drp H2))
 rw [if_neg c] at k
 refine Wa3 (λc=>?_) (λc=>?_)
 ·rw [if_pos c] at k
  exact Wa0 (Y04 H1 O λh2 H2=>k h2 (RunS.drp H2))
 rw [if_neg c] at k
 refine Wa3 (λc=>?_) (λc=>?_)
 ·rw [if_pos c] at k
  exact Wa0 (Yr2 H1 O λh2 H2=>k h2 (RunS.drp H2))
 rw [if_neg c] at k
 exact Wa0 (YJ0 H1 O λh2 H2=>k h2 (RunS.drp H2))
theorem W71 (H:Sat h (RunS M T tv fo x R)) (O:Ok x) (hf:LOk x) (hS:x.f.fn=31→ZJ9 x) (k:∀h',Sat h' (RunS M T tv none (Wl0 x) R)→K (.tuple #[]) h') :
  Wa5 Tryz.prog 65 #[mP M,mP T] h K:=by
 refine call65 ?_
 unfold F65 cf bd lI nP dl3
 unfold Wl0 at k
 dsimp only at k
 refine Wa0 (Zf2 H (λe=>?_) λb o hne _ H1=>?_)
 ·rw [if_pos e] at k
  refine sb ?_
  refine ⟨λvs h'=>vs = [.bool true]∧h' = h,⟨rfl,rfl⟩,?_⟩
  rintro v4 g6 h7 ⟨e,rfl⟩
  cases e
  refine sb ?_
  exact k _ (RunS.none H)
 ·rw [if_neg hne] at k
  refine sb ?_
  refine ⟨λvs h'=>vs = [.bool false]∧h' = h,⟨rfl,rfl⟩,?_⟩
  rintro v4 g6 h7 ⟨e,rfl⟩
  cases e
  have B:=RunS.fB H1
  refine sb ?_
  have H2:=RunS.new H1 (.cells #[.pointer none,.pointer none,.pointer none] 202)
  generalize h7.push (.cells #[.pointer none,.pointer none,.pointer none] 202)=h2 at *
  generalize h7.size=N at *
  refine st3 (Wd3 (vs:=[mP M,mP T,fP b o]) (RunS.loc H2) rfl (by simp [Wi5]) λh3 w=>?_)
  have H3:=RunS.wr H2 w.new w.old
  clear H2 w
  refine ss H3 ?_
  refine ⟨λvs h'=>(∃w,vs = [.bool (decide (x.f.fn < 31∨36 < x.f.fn)),w])∧h' = h3,?_,?_⟩
  ·refine Wa3 (λc=>?_) (λc=>?_)
   ·rw [decide_eq_true (p:=x.f.fn < 31∨36 < x.f.fn) (by omega)]
    exact ⟨⟨_,rfl⟩,by trivial⟩
   ·rw [show decide (x.f.fn > 36)=decide (x.f.fn < 31∨36 < x.f.fn) by rw [decide_eq_decide];omega]
    exact ⟨⟨_,rfl⟩,by trivial⟩
  rintro v18 v19 g20 h21 ⟨⟨w,e⟩,rfl⟩
  cases e
  refine ss H3 ?_
  refine Wa3 (λc=>?_) (λc=>?_)
  ·rw [if_pos c] at k
   exact Wa0 (W70 H3 O hf λh4 H4=>k h4 (RunS.drp H4))
  rw [if_neg c] at k
  refine Wa3 (λc=>?_) (λc=>?_)
  ·rw [if_pos c] at k
   exact Wa0 (Zz4 H3 [x.f.g 7,x.f.g 8,x.f.g 9] rfl (Yp4 (B.g 7) (B.g 8) (B.g 9)) rfl λh4 H4=>k h4 (RunS.drp H4))
  rw [if_neg c] at k
  refine Wa3 (λc=>?_) (λc=>?_)
  ·rw [if_pos c] at k
   exact Wa0 (Yq6 H3 O (hS c) λh4 H4=>k h4 (RunS.drp H4))
  rw [if_neg c] at k
  refine Wa3 (λc=>?_) (λc=>?_)
  ·rw [if_pos c] at k
   exact Wa0 (Yq7 H3 O λh4 H4=>k h4 (RunS.drp H4))
  rw [if_neg c] at k
  refine Wa3 (λc=>?_) (λc=>?_)
  ·rw [if_pos c] at k
   exact Wa0 (Yq8 H3 O λh4 H4=>k h4 (RunS.drp H4))
  rw [if_neg c] at k
  refine Wa3 (λc=>?_) (λc=>?_)
  ·rw [if_pos c] at k
   exact Wa0 (Yr0 H3 O λh4 H4=>k h4 (RunS.drp H4))
  rw [if_neg c] at k
  exact Wa0 (Yr3 H3 O λh4 H4=>k h4 (RunS.drp H4))
end
end
section
open Mod
theorem YA5 {d:Run→Run}:∀ {n m:Nat} {x z w:Run},Mod.bits d n x=some z→Mod.bits d m x=some w→z=w
 | 0,0,x,z,w,h1,h2=>by
  rw [h1] at h2;exact Option.some.inj h2
 | 0,m+1,x,z,w,h1,h2=>by
  unfold Mod.bits at h1 h2
  split at h1
  ·rename_i c
   rw [if_pos c] at h2
   rw [h1] at h2;exact Option.some.inj h2
  ·cases h1
 | n+1,0,x,z,w,h1,h2=>by
  unfold Mod.bits at h1 h2
  split at h2
  ·rename_i c
   rw [if_pos c] at h1
   rw [h1] at h2;exact Option.some.inj h2
  ·cases h2
 | n+1,m+1,x,z,w,h1,h2=>by
  unfold Mod.bits at h1 h2
  split at h1
  ·rename_i c
   rw [if_pos c] at h2
   rw [h1] at h2;exact Option.some.inj h2
  ·rename_i c
   rw [if_neg c] at h2
   exact YA5 h1 h2
open Classical in
noncomputable def WF0 (d:Run→Run) (x:Run):Run:=if h:∃z,∃n,Mod.bits d n x=some z then h.choose else x
theorem YA6 {d:Run→Run} {n:Nat} {x z:Run} (h:Mod.bits d n x=some z):WF0 d x=z:=by
 have hh:∃z,∃n,Mod.bits d n x=some z:=⟨z,n,h⟩
 unfold WF0
 rw [dif_pos hh]
 obtain ⟨m,hm⟩:=hh.choose_spec
 exact YA5 hm h
def Wf0 (m:Mac) (k:Nat):Thr:=m.th.getD k (WM2 m.p.c)
def WH2 (t:Thr):Cl:=⟨s64 (t.ret.getD 0 0),u32 (t.ret.getD 1 0),u32 (t.ret.getD 2 0)⟩
def cl0:Cl:=⟨0,0,0⟩
def DS.enter (ins:Int) (calls:List (List Cl)) (s:DS) (k:Nat):Option DS:=
 if (Wf0 s.m k).fr = [] then
  if (calls.getD k []).length≤(s.nx.getD k 0).toNat then none
  else some ⟨s.m.setTh (s.m.th.set k ((Wf0 s.m k).push (ins+((calls.getD k []).getD (s.nx.getD k 0).toNat cl0).op) [((calls.getD k []).getD (s.nx.getD k 0).toNat cl0).key,((calls.getD k []).getD (s.nx.getD k 0).toNat cl0).val])),s.nx.set k (s.nx.getD k 0+1),s.cu.set k ((calls.getD k []).getD (s.nx.getD k 0).toNat cl0),s.ev ++ [⟨k,false,(calls.getD k []).getD (s.nx.getD k 0).toNat cl0,cl0⟩]⟩
 else some s
noncomputable def DS.go (d:Run→Run) (s:DS) (k:Nat):DS:=
 if (WF0 d ⟨s.m.quiet,Wf0 s.m k,k⟩).t.fr = [] then ⟨(WF0 d ⟨s.m.quiet,Wf0 s.m k,k⟩).m.setTh (s.m.th.set k (WF0 d ⟨s.m.quiet,Wf0 s.m k,k⟩).t),s.nx,s.cu,s.ev ++ [⟨k,true,cl0,WH2 (WF0 d ⟨s.m.quiet,Wf0 s.m k,k⟩).t⟩]⟩
 else ⟨(WF0 d ⟨s.m.quiet,Wf0 s.m k,k⟩).m.setTh (s.m.th.set k (WF0 d ⟨s.m.quiet,Wf0 s.m k,k⟩).t),s.nx,s.cu,s.ev⟩
noncomputable def DS.pick (d:Run→Run) (ins:Int) (calls:List (List Cl)) (s:DS) (k:Int):DS:=match s.enter ins calls k.toNat with
 | none=>s
 | some s1=>s1.go d k.toNat
structure Y05 (d:Run→Run) (W:Run→Prop) (ins:Int) (Inv:Nat→Mac→Prop):Prop where
 mono:∀(i:Nat) (m:Mac),Inv i m→Inv (i+1) m
 wd:∀i m,Inv i m→ZN9 m∧2 < m.mm.w.length
 push:∀(i:Nat) (m:Mac) (k:Nat) (t:Thr) (c:Cl),Inv i m→m.th[k]? = some t→t.fr = []→0≤c.op∧c.op≤2→V c.key→V c.val→Inv i (m.setTh (m.th.set k (t.push (ins+c.op) [c.key,c.val])))
 step:∀(i:Nat) (m:Mac) (k:Nat) (t:Thr),Inv i m→i < 100000→m.th[k]? = some t→t.fr≠[]→∃n z,Mod.bits d n ⟨m.quiet,t,k⟩=some z∧Zz1 d W n ⟨m.quiet,t,k⟩∧z.id=k∧z.m.th=m.th∧Inv (i+1) (z.m.setTh (m.th.set k z.t))
structure ZD8 (h:Wa1) (ca:Option Addr) (cl:Nat) (pa:Option Addr) (pl:Nat) (calls:List (List Cl)) (Wb6:List Int):Prop where
 cs:cl=calls.length
 row:∀i,i < calls.length→∃a c,(∃ad,ca=some ad∧Wa2 h (ad.add i)=some (.slice a (calls.getD i []).length c))∧Sees h a ((calls.getD i []).flatMap clc)
 ps:pl=Wb6.length
 pk:Sees h pa (Wb6.map iv)
section
variable {K:Value→Wa1→Prop} {h:Wa1} {M:Nat} {B:DB} {Ts:List Nat} {R:Hp} {d:Run→Run} {W:Run→Prop} {ins:Int} {Inv:Nat→Mac→Prop} {calls:List (List Cl)}
end
end
section
open Mod
theorem Zu8 {K:Value→Wa1→Prop} {h:Wa1} {n:Nat} (hn:n≤4096) (k:K (.slice (some ⟨h.size,0,none⟩) n n) (h.push (.cells ((List.replicate n (0:Int)).map iv).toArray 3))):Wq7 Tryz.prog 3 (n:Int) (n:Int) h K:=by
 refine Zp8 (by omega) ?_
 rw [Int.toNat_natCast]
 exact k
def Wv5 (c:Mod.Cf) (ca:Option Addr) (cl cc:Nat) (pa:Option Addr) (pl pc:Nat) (da:Option Addr) (dl dc:Nat):List Value:=[.int .i64 c.algo,.int .i64 c.threads,.int .i64 c.nodes,.int .i64 c.level,.int .i64 c.batch,.int .i64 c.probes,.int .i64 c.scan,.slice ca cl cc,.slice pa pl pc,.slice da dl dc]
section
variable {K:Value→Wa1→Prop} {h:Wa1} {M:Nat} {Ts:List Nat} {R:Hp} {d:Run→Run} {W:Run→Prop} {ins:Int} {Inv:Nat→Mac→Prop} {calls:List (List Cl)} {Wb6:List Int} {m:Mac}
end
end
end Go.Proofs.YtahpbclnkofhfaaGreat
