/- Part 7 of what the proofs of this seat rest on: see the last text of the claim. -/
import Derived.Test.YtahpbclnkofhfaaGreatQf8f31abd6288
import Derived.Test.YtahpbclnkofhfaaGreatProg
set_option linter.unusedSimpArgs false
set_option linter.unusedVariables false
set_option linter.ambiguousOpen false
set_option maxRecDepth 20000
namespace Go.Proofs.YtahpbclnkofhfaaGreat
section
set_option maxRecDepth 100000
def F99 (K:kQ) (h:Wa1) (xa:Int):Prop:=
 (exI λI0=>(ifB (decide (xa < 1)) (I0 [.bool true] h) (I0 [.bool (decide (xa > 4096))] h))/\(∀(a:Value) (b:Env) (b:Wa1),(I0 [a] b)->(asBool a λa=>ifB a (K (.tuple #[.pointer none,iQ 2]) b) (Wm5 Tryz.prog 178 xa xa b λa b=>Wb3 a λa c d=>K (.tuple #[.pointer (some (aQ b.size)),iQ 0]) (Array.push b (.cells #[.slice a c d,iQ 0,.bool false,.slice none 0 0] 126))))))
theorem call99 {K:kQ} {h:Wa1} {xa:Int} (H:F99 K h xa):Wa4 Tryz.prog 99 #[(iQ xa)] h K:=
 cQ Tryz.func99 H
def F103 (K:kQ) (h:Wa1) (xa xb:Int):Prop:=
 (exI λI0=>(exI λI1=>(ifB (decide (xa < 1)) (I1 [.bool true] h) (I1 [.bool (decide (xa > 64))] h))/\(∀(a:Value) (b:Env) (b:Wa1),(I1 [a] b)->(asBool a λa=>ifB a (I0 [iQ 0] b) (I0 [iQ xa] b))))/\(∀(a:Value) (b:Env) (b:Wa1),(I0 [a] b)->(asInt .i64 a λc=>Wm5 Tryz.prog 3 c c b λb c=>Wb3 b λb d e=>Wg1 (λf g=>WL6 f g) Tryz.prog 3 [iQ xb,iQ 0] λf=>asInt .i64 a λa=>Wg1 (λg i=>WL7 g i) Tryz.prog 3 [iQ f,iQ a] λa=>exI λI22=>exM λm23=>(I22 [.tuple #[],iQ 0] (Array.push c (.cells #[.slice b d e,iQ 0,iQ 0] 213)))/\(∀(b d:Value) (e:Env) (e:Wa1),(I22 [b,d] e)->(asInt .i64 d λf=>ifB (decide (f < a)) (asInt .i64 d λa=>Wc5 (.pointer (some (aQ c.size))) (lS e (aQ c.size) λf g i=>bd a (g:Int) (Wd1 (.pointer f) λf=>stH e (Addr.add f (a.toNat*1)) (iQ 1) λf=>asInt .i64 d λg=>(I22 [iQ a,iQ (IntKind.wrap .i64 (g+1))] f)/\((m23 [iQ a,iQ (IntKind.wrap .i64 (g+1))] f) < (m23 [b,d] e))))) (K (.pointer (some (aQ c.size))) e))))))
theorem call103 {K:kQ} {h:Wa1} {xa xb:Int} (H:F103 K h xa xb):Wa4 Tryz.prog 103 #[(iQ xa),(iQ xb)] h K:=
 cQ Tryz.func103 H
def F140 (K:kQ) (h:Wa1) (xa:Option Addr) (xb xc:Int):Prop:=
 (cf 204 #[.pointer xa,.slice (some (aQ h.size)) 1 1] (Array.push h (.cells #[iQ xb] 3)) λa b=>asInt .i64 a λa=>ifB (a != 0) (K (iQ a) b) (cf 205 #[.pointer xa,.agg #[iQ 1,iQ xb,iQ (-1),.bool true]] b λa a=>nP xa λb=>lS a b λb c d=>bd xb (c:Int) (Wd1 (.pointer b) λb=>stH a (Addr.add b (xb.toNat*1)) (uQ xc) λa=>K (iQ 0) a)))
theorem call140 {K:kQ} {h:Wa1} {xa:Option Addr} {xb xc:Int} (H:F140 K h xa xb xc):Wa4 Tryz.prog 140 #[(.pointer xa),(iQ xb),(uQ xc)] h K:=
 cQ Tryz.func140 H
def F204 (K:kQ) (h:Wa1) (xa xb:Option Addr) (xc xd:Nat):Prop:=
 (ifB (Option.isNone xa) (K (iQ 1) h) (exI λI0=>exM λm1=>(I0 [iQ 0,.tuple #[],iQ 0] h)/\(∀(a b c:Value) (d:Env) (d:Wa1),(I0 [a,b,c] d)->(asInt .i64 c λe=>ifB (decide (e < ((xc:Nat):Int))) (asI c λe=>bd e ((xc:Nat):Int) (Wd1 (.pointer xb) λf=>lI .i64 d (Addr.add f (e.toNat*1)) λe=>exI λI12=>(ifB (decide (e < 0)) (I12 [.bool true] d) (nP xa λf=>lS d f λf f g=>I12 [.bool (decide (e >= (f:Int)))] d))/\(∀(f:Value) (g:Env) (g:Wa1),(I12 [f] g)->(asBool f λf=>ifB f (K (iQ 2) g) (asInt .i64 c λf=>(I0 [a,iQ e,iQ (IntKind.wrap .i64 (f+1))] g)/\((m1 [a,iQ e,iQ (IntKind.wrap .i64 (f+1))] g) < (m1 [a,b,c] d))))))) (K (iQ 0) d)))))
theorem call204 {K:kQ} {h:Wa1} {xa xb:Option Addr} {xc xd:Nat} (H:F204 K h xa xb xc xd):Wa4 Tryz.prog 204 #[(.pointer xa),(.slice xb xc xd)] h K:=
 cQ Tryz.func204 H
abbrev g205 (K:kQ) (h H1:Wa1) (xa:Option Addr):Prop:=
 (nP xa λa=>lI .i64 H1 (Addr.add a 1) λa=>nP xa λb=>stH H1 (Addr.add b 1) (iQ (IntKind.wrap .i64 (a+1))) λa=>nP xa λb=>ldH a (Addr.add b 2) λb=>asBool b λb=>ifB b (nP xa λb=>ldH a (Addr.add b 3) λc=>Wb3 c λd e f=>dl4 a h.size λg i j k=>((Wa3 (Array.push a (.cells #[g,i,j,k] 144)) (Addr.add b 3))=(some c))/\(Wp5 Tryz.prog #[124,124] 124 #[.slice d e f,.slice (some (aQ a.size)) 1 1] (Array.push a (.cells #[g,i,j,k] 144)) λb c=>Wb3 b λb d e=>nP xa λf=>stH c (Addr.add f 3) (.slice b d e) λb=>K (.tuple #[]) b)) (K (.tuple #[]) a))
def F205 (K:kQ) (h:Wa1) (xa:Option Addr) (xb xc xd:Int) (xe:Bool):Prop:=
 (g205 K h (Array.push h (.cells #[iQ xb,iQ xc,iQ xd,.bool xe] 144)) xa)
theorem call205 {K:kQ} {h:Wa1} {xa:Option Addr} {xb xc xd:Int} {xe:Bool} (H:F205 K h xa xb xc xd xe):Wa4 Tryz.prog 205 #[(.pointer xa),(.agg #[(iQ xb),(iQ xc),(iQ xd),(.bool xe)])] h K:=
 cQ Tryz.func205 H
def F209 (K:kQ) (h:Wa1) (xa:Option Addr) (xb:Int):Prop:=
 (cf 204 #[.pointer xa,.slice (some (aQ h.size)) 1 1] (Array.push h (.cells #[iQ xb] 3)) λa b=>asInt .i64 a λa=>ifB (a != 0) (K (.tuple #[uQ 0,iQ a]) b) (cf 205 #[.pointer xa,.agg #[iQ 0,iQ xb,iQ (-1),.bool false]] b λa a=>nP xa λb=>lS a b λb c d=>bd xb (c:Int) (Wd1 (.pointer b) λb=>lI .u64 a (Addr.add b (xb.toNat*1)) λb=>K (.tuple #[uQ b,iQ 0]) a)))
theorem call209 {K:kQ} {h:Wa1} {xa:Option Addr} {xb:Int} (H:F209 K h xa xb):Wa4 Tryz.prog 209 #[(.pointer xa),(iQ xb)] h K:=
 cQ Tryz.func209 H
def F281 (K:kQ) (h:Wa1) (xa:Option Addr) (xb xc xd:Int):Prop:=
 (cf 204 #[.pointer xa,.slice (some (aQ h.size)) 1 1] (Array.push h (.cells #[iQ xb] 3)) λa b=>asInt .i64 a λa=>ifB (a != 0) (K (.tuple #[.bool false,iQ a]) b) (nP xa λa=>lS b a λa c d=>bd xb (c:Int) (Wd1 (.pointer a) λa=>lI .u64 b (Addr.add a (xb.toNat*1)) λa=>exI λI11=>(ifB (a == xc) (nP xa λc=>lS b c λc d e=>bd xb (d:Int) (Wd1 (.pointer c) λc=>stH b (Addr.add c (xb.toNat*1)) (uQ xd) λc=>I11 [] c)) (I11 [] b))/\(∀(b:Env) (b:Wa1),(I11 [] b)->(cf 205 #[.pointer xa,.agg #[iQ 2,iQ xb,iQ (-1),.bool (a == xc)]] b λb b=>K (.tuple #[.bool (a == xc),iQ 0]) b)))))
theorem call281 {K:kQ} {h:Wa1} {xa:Option Addr} {xb xc xd:Int} (H:F281 K h xa xb xc xd):Wa4 Tryz.prog 281 #[(.pointer xa),(iQ xb),(uQ xc),(uQ xd)] h K:=
 cQ Tryz.func281 H
def F279 (K:kQ) (h:Wa1) (xa:Option Addr) (xb:Int):Prop:=
 (exI λI0=>(ifB (Option.isNone xa) (I0 [.bool true,.bool true,.bool true] h) (ifB (decide (xb < 1)) (I0 [.bool true,.bool (decide (xb < 1)),.bool true] h) (nP xa λa=>lS h a λa a b=>I0 [.bool (decide (xb > (a:Int))),.bool (decide (xb < 1)),.bool (decide (xb > (a:Int)))] h)))/\(∀(a b c:Value) (d:Env) (d:Wa1),(I0 [a,b,c] d)->(asBool a λa=>ifB a (cf 300 #[.pointer xa,iQ 5,iQ xb] d λa b=>asBool a λa=>K (.bool a) b) (nP xa λa=>lS d a λa b c=>((0:Int)<=(IntKind.wrap .i64 (xb - 1)))/\((((IntKind.wrap .i64 (xb - 1)):Int) < (b:Int))/\(Wd1 (.pointer a) λa=>ldH d (Addr.add a ((IntKind.wrap .i64 (xb - 1)).toNat*1)) λa=>asInt .i64 a λa=>ifB (a == 0) (cf 300 #[.pointer xa,iQ 4,iQ xb] d λa b=>asBool a λa=>K (.bool a) b) (K (.bool true) d)))))))
theorem call279 {K:kQ} {h:Wa1} {xa:Option Addr} {xb:Int} (H:F279 K h xa xb):Wa4 Tryz.prog 279 #[(.pointer xa),(iQ xb)] h K:=
 cQ Tryz.func279 H
def F284 (K:kQ) (h:Wa1) (xa:Option Addr) (xb xc xd xe xf:Int):Prop:=
 (cf 204 #[.pointer xa,.slice (some (aQ h.size)) 2 2] (Array.push h (.cells #[iQ xb,iQ xe] 3)) λa b=>asInt .i64 a λa=>ifB (a != 0) (K (.tuple #[.bool false,iQ a]) b) (exI λI3=>(nP xa λa=>lS b a λa c d=>bd xb (c:Int) (Wd1 (.pointer a) λa=>lI .u64 b (Addr.add a (xb.toNat*1)) λa=>ifB (a == xc) (nP xa λa=>lS b a λa c d=>bd xe (c:Int) (Wd1 (.pointer a) λa=>lI .u64 b (Addr.add a (xe.toNat*1)) λa=>I3 [.bool (a == xf),.bool (a == xf)] b)) (I3 [.bool false,.bool false] b)))/\(∀(a b:Value) (c:Env) (c:Wa1),(I3 [a,b] c)->(exI λI24=>(asBool a λb=>ifB b (nP xa λb=>lS c b λb d e=>bd xb (d:Int) (Wd1 (.pointer b) λb=>stH c (Addr.add b (xb.toNat*1)) (uQ xd) λb=>I24 [] b)) (I24 [] c))/\(∀(b:Env) (b:Wa1),(I24 [] b)->(asBool a λc=>cf 205 #[.pointer xa,.agg #[iQ 5,iQ xb,iQ xe,.bool c]] b λb b=>asBool a λa=>K (.tuple #[.bool a,iQ 0]) b))))))
theorem call284 {K:kQ} {h:Wa1} {xa:Option Addr} {xb xc xd xe xf:Int} (H:F284 K h xa xb xc xd xe xf):Wa4 Tryz.prog 284 #[(.pointer xa),(iQ xb),(uQ xc),(uQ xd),(iQ xe),(uQ xf)] h K:=
 cQ Tryz.func284 H
def F286 (K:kQ) (h:Wa1) (xa:Option Addr) (xb xc xd xe xf xg:Int):Prop:=
 (cf 204 #[.pointer xa,.slice (some (aQ h.size)) 2 2] (Array.push h (.cells #[iQ xb,iQ xe] 3)) λa b=>asInt .i64 a λa=>ifB (a != 0) (K (.tuple #[.bool false,iQ a]) b) (ifB (xb == xe) (K (.tuple #[.bool false,iQ 2]) b) (exI λI3=>(nP xa λa=>lS b a λa c d=>bd xb (c:Int) (Wd1 (.pointer a) λa=>lI .u64 b (Addr.add a (xb.toNat*1)) λa=>ifB (a == xc) (nP xa λa=>lS b a λa c d=>bd xe (c:Int) (Wd1 (.pointer a) λa=>lI .u64 b (Addr.add a (xe.toNat*1)) λa=>I3 [.bool (a == xf),.bool (a == xf)] b)) (I3 [.bool false,.bool false] b)))/\(∀(a b:Value) (c:Env) (c:Wa1),(I3 [a,b] c)->(exI λI24=>(asBool a λb=>ifB b (nP xa λb=>lS c b λb d e=>nP xa λe=>lS c e λe f g=>bd xb (d:Int) (Wd1 (.pointer b) λb=>stH c (Addr.add b (xb.toNat*1)) (uQ xd) λb=>bd xe (f:Int) (Wd1 (.pointer e) λd=>stH b (Addr.add d (xe.toNat*1)) (uQ xg) λb=>I24 [] b))) (I24 [] c))/\(∀(b:Env) (b:Wa1),(I24 [] b)->(asBool a λc=>cf 205 #[.pointer xa,.agg #[iQ 4,iQ xb,iQ xe,.bool c]] b λb b=>asBool a λa=>K (.tuple #[.bool a,iQ 0]) b)))))))
theorem call286 {K:kQ} {h:Wa1} {xa:Option Addr} {xb xc xd xe xf xg:Int} (H:F286 K h xa xb xc xd xe xf xg):Wa4 Tryz.prog 286 #[(.pointer xa),(iQ xb),(uQ xc),(uQ xd),(iQ xe),(uQ xf),(uQ xg)] h K:=
 cQ Tryz.func286 H
def F288 (K:kQ) (h:Wa1) (xa:Option Addr) (xb:Int):Prop:=
 (cf 302 #[.pointer xa,iQ xb,iQ 1,iQ 2,iQ 2] h λa b=>asBool a λa=>K (.bool a) b)
theorem call288 {K:kQ} {h:Wa1} {xa:Option Addr} {xb:Int} (H:F288 K h xa xb):Wa4 Tryz.prog 288 #[(.pointer xa),(iQ xb)] h K:=
 cQ Tryz.func288 H
def F300 (K:kQ) (h:Wa1) (xa:Option Addr) (xb xc:Int):Prop:=
 (exI λI0=>(ifB (!(Option.isNone xa)) (nP xa λa=>ldH h (Addr.add a 1) λb=>ldH h (Addr.add a 2) λa=>WQ0 Tryz.prog 133 (.agg #[b,a]) (.agg #[iQ 0,iQ 0]) λa=>I0 [.bool a] h) (I0 [.bool false] h))/\(∀(a:Value) (b:Env) (b:Wa1),(I0 [a] b)->(asBool a λa=>ifB a (nP xa λa=>stH b (Addr.add a 1) (iQ xb) λc=>stH c (Addr.add a 2) (iQ xc) λa=>K (.bool false) a) (K (.bool false) b))))
theorem call300 {K:kQ} {h:Wa1} {xa:Option Addr} {xb xc:Int} (H:F300 K h xa xb xc):Wa4 Tryz.prog 300 #[(.pointer xa),(iQ xb),(iQ xc)] h K:=
 cQ Tryz.func300 H
def F302 (K:kQ) (h:Wa1) (xa:Option Addr) (xb xc xd xe:Int):Prop:=
 (exI λI0=>(ifB (Option.isNone xa) (I0 [.bool true,.bool true,.bool true] h) (ifB (decide (xb < 1)) (I0 [.bool true,.bool (decide (xb < 1)),.bool true] h) (nP xa λa=>lS h a λa a b=>I0 [.bool (decide (xb > (a:Int))),.bool (decide (xb < 1)),.bool (decide (xb > (a:Int)))] h)))/\(∀(a b c:Value) (d:Env) (d:Wa1),(I0 [a,b,c] d)->(asBool a λa=>ifB a (cf 300 #[.pointer xa,iQ 5,iQ xb] d λa b=>asBool a λa=>K (.bool a) b) (nP xa λa=>lS d a λa b c=>((0:Int)<=(IntKind.wrap .i64 (xb - 1)))/\((((IntKind.wrap .i64 (xb - 1)):Int) < (b:Int))/\(Wd1 (.pointer a) λa=>ldH d (Addr.add a ((IntKind.wrap .i64 (xb - 1)).toNat*1)) λa=>asInt .i64 a λa=>ifB (a != xc) (cf 300 #[.pointer xa,iQ xe,iQ xb] d λa b=>asBool a λa=>K (.bool a) b) (nP xa λa=>lS d a λa b c=>((0:Int)<=(IntKind.wrap .i64 (xb - 1)))/\((((IntKind.wrap .i64 (xb - 1)):Int) < (b:Int))/\(Wd1 (.pointer a) λa=>stH d (Addr.add a ((IntKind.wrap .i64 (xb - 1)).toNat*1)) (iQ xd) λa=>K (.bool true) a)))))))))
theorem call302 {K:kQ} {h:Wa1} {xa:Option Addr} {xb xc xd xe:Int} (H:F302 K h xa xb xc xd xe):Wa4 Tryz.prog 302 #[(.pointer xa),(iQ xb),(iQ xc),(iQ xd),(iQ xe)] h K:=
 cQ Tryz.func302 H
def F306 (K:kQ) (h:Wa1) (xa:Option Addr) (xb:Int):Prop:=
 (cf 302 #[.pointer xa,iQ xb,iQ 0,iQ 1,iQ 1] h λa b=>asBool a λa=>K (.bool a) b)
theorem call306 {K:kQ} {h:Wa1} {xa:Option Addr} {xb:Int} (H:F306 K h xa xb):Wa4 Tryz.prog 306 #[(.pointer xa),(iQ xb)] h K:=
 cQ Tryz.func306 H
def F307 (K:kQ) (h:Wa1) (xa:Option Addr) (xb:Int):Prop:=
 (cf 302 #[.pointer xa,iQ xb,iQ 2,iQ 0,iQ 3] h λa b=>asBool a λa=>K (.bool a) b)
theorem call307 {K:kQ} {h:Wa1} {xa:Option Addr} {xb:Int} (H:F307 K h xa xb):Wa4 Tryz.prog 307 #[(.pointer xa),(iQ xb)] h K:=
 cQ Tryz.func307 H
end
section
open Mod
def uvs (w:List Int):List Value:=w.map λn=>uQ n
def WM4 (x:Acc):List Value:=[iQ x.kind,iQ x.a,iQ x.b,.bool x.done]
theorem WR7:∀x:Acc,(WM4 x).length=4:=λ_=>rfl
abbrev YP4 (b:Nat) (la:Option Addr) (lc:Nat) (m:Mm):List Value:=[.slice (some (aQ b)) m.w.length m.w.length,iQ m.st,.bool m.wt,.slice la m.lg.length lc]
structure MmB (m:Mm):Prop where
 len:m.w.length<=4096
 st:0<=m.st
 lg:(m.lg.length:Int)<=m.st
 us:∀v ∈ m.w,U v
def Wm4 (q:Nat) (m:Mm):Hp:=ex λb=>ex λla=>ex λlc=>pr (MmB m) (pt q (.cells (YP4 b la lc m).toArray 126)*(pt b (.cells (uvs m.w).toArray 178)*Wf2 144 4 la m.lg.length lc (m.lg.flatMap WM4)))
theorem Wk9 {h:Wa1} {q:Nat} {m:Mm} {R:Hp}:Sat h (Wm4 q m*R)↔∃b la lc,MmB m/\Sat h (pt q (.cells (YP4 b la lc m).toArray 126)*(pt b (.cells (uvs m.w).toArray 178)*(Wf2 144 4 la m.lg.length lc (m.lg.flatMap WM4)*R))):=by
 unfold Wm4
 simp only [Sat.ex,Sat.pr,Wc4]
theorem Y06 {h:Wa1} {q:Nat} {m:Mm} {R:Hp} (H:Sat h (Wm4 q m*R)):MmB m:=by obtain ⟨_,_,_,x,_⟩:=Wk9.1 H;exact x
theorem Yd1 {w:List Int} (h:∀v ∈ w,U v) (i:Nat):U (w.getD i 0):=by
 rw [List.getD_eq_getElem?_getD]
 cases e:w[i]? with
 | none=>exact ⟨by simp,by simp⟩
 | some v=>exact h v (List.mem_of_getElem? e)
theorem MmB.get {m:Mm} (B:MmB m) (a:Int):U (m.get a):=Yd1 B.us _
theorem WI0 {P:Int->Prop} {w:List Int} {i:Nat} {v:Int} (h:∀x ∈ w,P x) (hv:P v):∀x ∈ w.set i v,P x:=λx hx=>by
 rcases List.mem_or_eq_of_mem_set hx with h1 | h1
 ·exact h x h1
 ·rw [h1];exact hv
theorem MmB.put {m:Mm} (B:MmB m) {a v:Int} (hv:U v):MmB (m.put a v):=⟨by unfold Mm.put;rw [List.length_set];exact B.len,B.st,B.lg,WI0 B.us hv⟩
theorem MmB.tick {m:Mm} (B:MmB m) (k a b:Int) (d:Bool):MmB (m.tick k a b d):=by
 have:=B.st
 have h2:=B.lg
 refine ⟨B.len,by unfold Mm.tick;simp only;omega,?_,B.us⟩
 unfold Mm.tick
 simp only
 split
 ·rw [List.length_append];simp;omega
 ·omega
theorem Y07 {h:Wa1} {b:Nat} {w:List Int} {t:TypeId} (e:h[b]? = some (.cells (uvs w).toArray t)) {a:Int} (h0:0<=a) (h1:a < w.length):Wa3 h ⟨b,a.toNat,none⟩=some (uQ (w.getD a.toNat 0)):=by
 rw [Wb4 e,List.getElem?_toArray]
 unfold uvs
 rw [List.getElem?_map,List.getElem?_eq_getElem (by omega),List.getD_eq_getElem?_getD,List.getElem?_eq_getElem (by omega)]
 rfl
theorem WX7 {h:Wa1} {b i:Nat} {v:Value} {row:List Value} {t:TypeId} {R:Hp} {K:Wa1->Prop} (H:Sat h (pt b (.cells row.toArray t)*R)) (hi:i < row.length) (ho:Wh0 v True)
  (k:∀h',Sat h' (pt b (.cells (row.set i v).toArray t)*R)->K h'):stH h ⟨b,i,none⟩ v K:=
 H.st (by rw [Nat.ble_eq];exact hi) ho k
theorem YT3:und Tryz.prog 124=.slice 144:=by kernel_rfl
theorem Yu4:We9 Tryz.prog 144=true:=by kernel_rfl
theorem YT4:zer Tryz.prog 144=some (.agg #[iQ 0,iQ 0,iQ 0,.bool false]):=by kernel_rfl
theorem WR8:siz Tryz.prog 144=4:=by kernel_rfl
theorem Yu5:byt Tryz.prog 144=32:=by kernel_rfl
theorem Wo4 {K:kQ} {h:Wa1} {q wl wc:Nat} {wa a:Option Addr} {l c:Nat} {L:List Int} (H:Wa3 h (aQ q)=some (.slice wa wl wc)) (R:RI h a l c L) (hl:l < 2 ^ 60) (k:K (iQ (if L.all (λx=>decide (0<=x/\x < wl)) then 0 else 2)) h) :
  Wa4 Tryz.prog 204 #[.pointer (some (aQ q)),.slice a l c] h K:=by
 refine call204 ?_
 unfold F204 bd lS lI nP
 have hlen:=R.len
 simp only [Option.isNone_some,Wc0]
 generalize hok:(λx:Int=>decide (0<=x/\x < (wl:Int)))=ok at *
 refine ⟨λvs h'=>∃w1 w2,∃i:Nat,vs = [w1,w2,iv i]/\i<=l/\h' = h/\(L.take i).all ok=true,λvs _=>(match vs with | [_,_,.int _ n]=>l - n.toNat | _=>0),⟨_,_,0,rfl,Nat.zero_le _,rfl,rfl⟩,?_⟩
 rintro v2 v3 v4 g5 h6 ⟨w1,w2,i,e,hi,rfl,hall⟩
 cases e
 simp only [Wa2,Ww1]
 refine Wa7 (λhlt=>?_) (λhge=>?_)
 ·have hi':i < L.length:=by omega
  obtain ⟨ad,rfl,hc⟩:=R.at hi'
  have htk:(L.take (i+1)).all ok=((L.take i).all ok && ok L[i]):=by rw [List.take_succ_eq_append_getElem hi',List.all_append];simp
  have hmem:L.all ok=true->ok L[i]=true:=λh=>List.all_eq_true.1 h _ (List.getElem_mem hi')
  generalize L[i]=x at *
  refine ⟨by omega,hlt,?_⟩
  simp only [Wb0,Int.toNat_natCast,Nat.mul_one]
  refine Wb5 hc ?_
  simp only [Wa2]
  refine ⟨λvs h'=>vs = [.bool (!ok x)]/\h' = h6,?_,?_⟩
  ·refine Wa7 (λq=>⟨by rw [<- hok];simp only;rw [decide_eq_false (by omega)];rfl,by trivial⟩) (λq=>?_)
   simp only [Wc5,Wb0]
   refine Wb5 H ?_
   simp only [Wa9]
   refine ⟨?_,by trivial⟩
   rw [<- hok]
   simp only
   congr 2
   rw [<- decide_not,decide_eq_decide];omega
  rintro v18 g19 h20 ⟨e,rfl⟩
  cases e
  simp only [Wa6]
  refine Wb7 (λhq=>?_) (λhq=>?_)
  ·have e:L.all ok=false:=by
    apply Decidable.byContradiction
    intro h
    have:=hmem (by simpa using h)
    rw [this] at hq;cases hq
   rw [e] at k
   exact k
  ·rw [Wf1 (by omega)]
   exact ⟨⟨_,_,i+1,rfl,by omega,by trivial,by rw [htk,hall];simpa using hq⟩,by show l - ((i+1:Nat):Int).toNat < l - (i:Int).toNat;omega⟩
 ·rw [List.take_of_length_le (by omega)] at hall
  rw [hall] at k
  exact k
theorem Wo5 {K:kQ} {h:Wa1} {q:Nat} {m:Mm} {R:Hp} {x0 x1 x2:Int} {x3:Bool} (H:Sat h (Wm4 q m*R)) (hs:m.st < 1099511627776) (k:∀h',Sat h' (Wm4 q (m.tick x0 x1 x2 x3)*R)->K (.tuple #[]) h') :
  Wa4 Tryz.prog 205 #[.pointer (some (aQ q)),.agg #[iQ x0,iQ x1,iQ x2,.bool x3]] h K:=by
 refine call205 ?_
 unfold F205 g205 lI nP dl4
 simp only [Wc5,Wb0,Wc1]
 obtain ⟨b,la,lc,B,H0⟩:=Wk9.1 H
 have Bst:=B.st
 have Blg:=B.lg
 have H1:=H0.push (.cells #[iQ x0,iQ x1,iQ x2,.bool x3] 144)
 generalize h.push (.cells #[iQ x0,iQ x1,iQ x2,.bool x3] 144)=h1 at *
 generalize h.size=N at *
 rw [Wb8] at H1
 refine H1.ld rfl ?_
 simp only [Wa2]
 rw [Wb2 (by omega) (by omega)]
 refine H1.st rfl trivial λh4 H4=>?_
 refine H4.ld rfl ?_
 simp only [Wa6]
 have kT:∀h',(∃b la lc,Sat h' (pt q (.cells (YP4 b la lc (m.tick x0 x1 x2 x3)).toArray 126)*(pt b (.cells (uvs m.w).toArray 178)*(Wf2 144 4 la (m.tick x0 x1 x2 x3).lg.length lc ((m.tick x0 x1 x2 x3).lg.flatMap WM4)*R))))->K (.tuple #[]) h':=λh' ⟨b,la,lc,H'⟩=>
  k h' (Wk9.2 ⟨b,la,lc,B.tick x0 x1 x2 x3,H'⟩)
 unfold Mm.tick at kT
 cases hw:m.wt with
 | false=>
  simp only [Wc0]
  simp only [hw,Bool.false_eq_true,if_false] at kT
  exact kT h4 ⟨b,la,lc,by simpa [hw] using H4.drop2⟩
 | true=>
  simp only [Wd5]
  simp only [hw,if_true] at kT
  refine H4.ld rfl ?_
  simp only [Wa9]
  have HN:Sat h4 _:=(Wb8 _ _ _ ▸ H4)
  refine HN.ld rfl (HN.ld rfl (HN.ld rfl (HN.ld rfl ?_)))
  have H5:=H4.push (.cells #[iQ x0,iQ x1,iQ x2,.bool x3] 144)
  generalize h4.push (.cells #[iQ x0,iQ x1,iQ x2,.bool x3] 144)=h5 at *
  generalize h4.size=N4 at *
  refine ⟨Wd3 H5.at2 rfl,?_⟩
  have hrot:∀(X:Hp) (A B C D E:Hp),A*(B*(C*(D*(E*X))))=E*(A*(B*(C*(D*X)))):=λX A B C D E=>by
   rw [Wb8 D E,Wb8 C E,Wb8 B E,Wb8 A E]
  have HA:=H5
  rw [hrot] at HA
  have hsee:Sees h5 (some (aQ N4)) (WM4 ⟨x0,x1,x2,x3⟩):=λi v hi=>⟨_,rfl,by rw [Wc1,Nat.zero_add,Wb4 H5.at];simpa [WM4] using hi⟩
  rw [<- WR8] at HA
  refine HA.app YT3 Yu4 YT4 (by rw [WR8];rfl) hsee (n:=1) (by rw [WR8];rfl) (by simp [WM4,Wh0]) (by rw [Yu5];omega) (by rw [Yu5];omega) λa' c' h' H6=>?_
  rw [WR8] at H6
  simp only [Wa9]
  rw [<- hrot] at H6
  have H7:Sat h' _:=(Wb8 _ _ _ ▸ H6)
  refine H7.st rfl trivial λh8 H8=>?_
  refine kT h8 ⟨b,a',c',?_⟩
  have H9:=H8.drop2.drop2
  unfold YP4;simpa [hw] using H9
theorem Wm1 {h:Wa1} {q:Nat} {m:Mm} {R:Hp} (H:Sat h (Wm4 q m*R)):∃b,Wa3 h (aQ q)=some (.slice (some (aQ b)) m.w.length m.w.length)/\(∀a,m.ok a=true->Wa3 h ⟨b,a.toNat,none⟩=some (uQ (m.get a))) /\
  ∀a v,m.ok a=true->U v->∀K:Wa1->Prop,(∀h',Sat h' (Wm4 q (m.put a v)*R)->K h')->stH h ⟨b,a.toNat,none⟩ (uQ v) K:=by
 obtain ⟨b,la,lc,B,H0⟩:=Wk9.1 H
 refine ⟨b,Wd3 H0.at rfl,λa ha=>?_,λa v ha hv K k=>?_⟩
 ·unfold Mm.ok at ha
  rw [decide_eq_true_eq] at ha
  exact Y07 H0.at2 ha.1 ha.2
 ·unfold Mm.ok at ha
  rw [decide_eq_true_eq] at ha
  have H1:Sat h _:=(Wb8 _ _ _ ▸ H0)
  refine WX7 H1 (by unfold uvs;rw [List.length_map];omega) trivial λh' H2=>k h' (Wk9.2 ⟨b,la,lc,B.put hv,?_⟩)
  have H3:Sat h' _:=(Wb8 _ _ _ ▸ H2)
  unfold Mm.put
  simp only
  rw [show uvs (m.w.set a.toNat v)=(uvs m.w).set a.toNat (uQ v) by unfold uvs;rw [List.map_set]]
  unfold YP4
  simp only [List.length_set]
  exact H3
theorem Mm.ok_iff {m:Mm} {a:Int}:m.ok a=true↔0<=a/\a < m.w.length:=by unfold Mm.ok;rw [decide_eq_true_eq]
theorem Yu6 {h:Wa1} {N:Nat} {a:Int} {t:TypeId} (e:h[N]? = some (.cells #[iQ a] t)):RI h (some (aQ N)) 1 1 [a]:=
 ⟨λj v hj=>⟨_,rfl,by rw [Wc1,Wb4 e,Nat.zero_add];simpa using hj⟩,rfl,Nat.le_refl _⟩
theorem YP5 {h:Wa1} {N:Nat} {a b:Int} {t:TypeId} (e:h[N]? = some (.cells #[iQ a,iQ b] t)):RI h (some (aQ N)) 2 2 [a,b]:=
 ⟨λj v hj=>⟨_,rfl,by
  rw [Wc1,Wb4 e,Nat.zero_add]
  show ([Value.int .i64 a,iQ b].toArray)[j]? = _
  rw [List.getElem?_toArray];exact hj⟩,rfl,Nat.le_refl _⟩
theorem Y77 {m:Mm} {a:Int}:([a].all λx=>decide (0<=x/\x < (m.w.length:Int)))=m.ok a:=by simp [Mm.ok]
theorem Za3 {m:Mm} {a b:Int}:([a,b].all λx=>decide (0<=x/\x < (m.w.length:Int)))=(m.ok a && m.ok b):=by simp [Mm.ok]
theorem Yj7 {K:kQ} {h:Wa1} {q:Nat} {m:Mm} {R:Hp} {a:Int} (H:Sat h (Wm4 q m*R)) (hs:m.st < 1099511627776)
  (k1:m.ok a=true->∀h',Sat h' (Wm4 q (m.tick 0 a (-1) false)*R)->K (.tuple #[uQ (m.get a),iQ 0]) h') (k0:m.ok a=false->∀h',Sat h' (Wm4 q m*R)->K (.tuple #[uQ 0,iQ 2]) h') :
  Wa4 Tryz.prog 209 #[.pointer (some (aQ q)),iQ a] h K:=by
 refine call209 ?_
 unfold F209 cf bd lS lI nP
 have H1:=(H.push (.cells #[iQ a] 3))
 generalize h.push (.cells #[iQ a] 3)=h1 at *
 generalize h.size=N at *
 obtain ⟨b,w0,w1,w2⟩:=Wm1 (Wb8 _ _ _ ▸ H1:Sat h1 (Wm4 q m*(_*R)))
 refine Wa0 (Wo4 w0 (Yu6 H1.at) (by omega) ?_)
 rw [Y77]
 simp only [Wa2]
 cases hok:m.ok a with
 | false=>
  simp only [Bool.false_eq_true,if_false]
  rw [show ((2:Int) != 0)=true from rfl]
  simp only [Wd5]
  exact k0 hok h1 H1.drop
 | true=>
  simp only [if_true]
  rw [show ((0:Int) != 0)=false from rfl]
  simp only [Wc0]
  obtain ⟨a0,a1⟩:=Mm.ok_iff.1 hok
  refine Wa0 (Wo5 H1.drop hs λh4 H4=>?_)
  simp only [Wc5,Wb0]
  obtain ⟨b,w0,w1,w2⟩:=Wm1 H4
  refine Wb5 w0 ?_
  simp only [Wa9]
  refine ⟨a0,a1,?_⟩
  simp only [Wb0,Nat.mul_one]
  rw [Wc1,Nat.zero_add]
  refine Wb5 (w1 a hok) ?_
  simp only [Wa2]
  exact k1 hok h4 H4
theorem WI1 {K:kQ} {h:Wa1} {q:Nat} {m:Mm} {R:Hp} {a v:Int} (H:Sat h (Wm4 q m*R)) (hv:U v) (hs:m.st < 1099511627776)
  (k1:m.ok a=true->∀h',Sat h' (Wm4 q ((m.tick 1 a (-1) true).put a v)*R)->K (iQ 0) h') (k0:m.ok a=false->∀h',Sat h' (Wm4 q m*R)->K (iQ 2) h') :
  Wa4 Tryz.prog 140 #[.pointer (some (aQ q)),iQ a,uQ v] h K:=by
 refine call140 ?_
 unfold F140 cf bd lS nP
 have H1:=(H.push (.cells #[iQ a] 3))
 generalize h.push (.cells #[iQ a] 3)=h1 at *
 generalize h.size=N at *
 obtain ⟨b,w0,w1,w2⟩:=Wm1 (Wb8 _ _ _ ▸ H1:Sat h1 (Wm4 q m*(_*R)))
 refine Wa0 (Wo4 w0 (Yu6 H1.at) (by omega) ?_)
 rw [Y77]
 simp only [Wa2]
 cases hok:m.ok a with
 | false=>
  simp only [Bool.false_eq_true,if_false]
  rw [show ((2:Int) != 0)=true from rfl]
  simp only [Wd5]
  exact k0 hok h1 H1.drop
 | true=>
  simp only [if_true]
  rw [show ((0:Int) != 0)=false from rfl]
  simp only [Wc0]
  obtain ⟨a0,a1⟩:=Mm.ok_iff.1 hok
  refine Wa0 (Wo5 H1.drop hs λh4 H4=>?_)
  simp only [Wc5,Wb0]
  obtain ⟨b,w0,w1,w2⟩:=Wm1 H4
  refine Wb5 w0 ?_
  simp only [Wa9]
  refine ⟨a0,a1,?_⟩
  simp only [Wb0,Nat.mul_one]
  rw [Wc1,Nat.zero_add]
  exact w2 a v hok hv _ λh' H'=>k1 hok h' H'
theorem Ws3 (n:Int):U (u64 n):=⟨by unfold u64;omega,by unfold u64;omega⟩
theorem Yu7 {K:kQ} {h:Wa1} {q:Nat} {m:Mm} {R:Hp} {a o n:Int} (H:Sat h (Wm4 q m*R)) (hn:U n) (hs:m.st < 1099511627776)
  (k1:m.ok a=true->∀h',Sat h' (Wm4 q (m.cas a o n)*R)->K (.tuple #[.bool (decide (m.get a=o)),iQ 0]) h') (k0:m.ok a=false->∀h',Sat h' (Wm4 q m*R)->K (.tuple #[.bool false,iQ 2]) h') :
  Wa4 Tryz.prog 281 #[.pointer (some (aQ q)),iQ a,uQ o,uQ n] h K:=by
 refine call281 ?_
 unfold F281 cf bd lS lI nP
 have H1:=(H.push (.cells #[iQ a] 3))
 generalize h.push (.cells #[iQ a] 3)=h1 at *
 generalize h.size=N at *
 have H2:Sat h1 (Wm4 q m*(_*R)):=(Wb8 _ _ _ ▸ H1)
 obtain ⟨b,w0,w1,w2⟩:=Wm1 H1.drop
 refine Wa0 (Wo4 w0 (Yu6 H1.at) (by omega) ?_)
 rw [Y77]
 simp only [Wa2]
 cases hok:m.ok a with
 | false=>
  simp only [Bool.false_eq_true,if_false]
  rw [show ((2:Int) != 0)=true from rfl]
  simp only [Wd5]
  exact k0 hok h1 H1.drop
 | true=>
  simp only [if_true]
  rw [show ((0:Int) != 0)=false from rfl]
  simp only [Wc0,Wc5,Wb0]
  obtain ⟨a0,a1⟩:=Mm.ok_iff.1 hok
  refine Wb5 w0 ?_
  simp only [Wa9]
  refine ⟨a0,a1,?_⟩
  simp only [Wb0,Nat.mul_one]
  rw [Wc1,Nat.zero_add]
  refine Wb5 (w1 a hok) ?_
  simp only [Wa2]
  have eb:(m.get a == o)=decide (m.get a=o):=rfl
  unfold Mm.cas at k1
  refine ⟨λvs h'=>vs = []/\Sat h' (Wm4 q (if m.get a=o then m.put a n else m)*R),?_,?_⟩
  ·refine Wb7 (λhc=>?_) (λhc=>?_)
   ·have hc':m.get a=o:=by simpa using hc
    rw [if_pos hc']
    refine Wb5 w0 ?_
    simp only [Wa9]
    refine ⟨a0,a1,?_⟩
    simp only [Wb0]
    try rw [Wc1,Nat.zero_add]
    exact w2 a n hok hn _ λh' H'=>⟨by trivial,H'⟩
   ·have hc':¬ m.get a=o:=by simpa using hc
    rw [if_neg hc']
    exact ⟨by trivial,H1.drop⟩
  rintro g19 h20 ⟨_,H20⟩
  rw [eb]
  refine Wa0 (Wo5 H20 (by split <;> exact hs) λh22 H22=>?_)
  refine k1 hok h22 ?_
  split
  ·rename_i hc;rw [if_pos hc,decide_eq_true hc] at H22;exact H22
  ·rename_i hc;rw [if_neg hc,decide_eq_false hc] at H22;exact H22
theorem Yj8 {K:kQ} {h:Wa1} {q:Nat} {m:Mm} {R:Hp} {a o n a2 o2:Int} (H:Sat h (Wm4 q m*R)) (hn:U n) (hs:m.st < 1099511627776)
  (k1:m.ok a=true->m.ok a2=true->∀h',Sat h' (Wm4 q (m.dcss a o n a2 o2)*R)->K (.tuple #[.bool (decide (m.get a=o/\m.get a2=o2)),iQ 0]) h')
  (k0:¬ (m.ok a=true/\m.ok a2=true)->∀h',Sat h' (Wm4 q m*R)->K (.tuple #[.bool false,iQ 2]) h') :
  Wa4 Tryz.prog 284 #[.pointer (some (aQ q)),iQ a,uQ o,uQ n,iQ a2,uQ o2] h K:=by
 refine call284 ?_
 unfold F284 cf bd lS lI nP
 have H1:=(H.push (.cells #[iQ a,iQ a2] 3))
 generalize h.push (.cells #[iQ a,iQ a2] 3)=h1 at *
 generalize h.size=N at *
 obtain ⟨b,w0,w1,w2⟩:=Wm1 H1.drop
 refine Wa0 (Wo4 w0 (YP5 H1.at) (by omega) ?_)
 rw [Za3]
 simp only [Wa2]
 cases hok:(m.ok a && m.ok a2) with
 | false=>
  simp only [Bool.false_eq_true,if_false]
  rw [show ((2:Int) != 0)=true from rfl]
  simp only [Wd5]
  exact k0 (λhx=>by rw [hx.1,hx.2] at hok;cases hok) h1 H1.drop
 | true=>
  simp only [if_true]
  rw [show ((0:Int) != 0)=false from rfl]
  simp only [Wc0,Wc5,Wb0]
  obtain ⟨hk1,hk2⟩:=(Bool.and_eq_true _ _).mp hok
  obtain ⟨a0,a1⟩:=Mm.ok_iff.1 hk1
  obtain ⟨c0,c1⟩:=Mm.ok_iff.1 hk2
  refine ⟨λvs h'=>vs = [.bool (decide (m.get a=o/\m.get a2=o2)),.bool (decide (m.get a=o/\m.get a2=o2))]/\h' = h1,?_,?_⟩
  ·refine Wb5 w0 ?_
   simp only [Wa9]
   refine ⟨a0,a1,?_⟩
   simp only [Wb0,Nat.mul_one]
   rw [Wc1,Nat.zero_add]
   refine Wb5 (w1 a hk1) ?_
   simp only [Wa2]
   refine Wb7 (λhc=>?_) (λhc=>?_)
   ·have hc':m.get a=o:=by simpa using hc
    refine Wb5 w0 ?_
    simp only [Wa9]
    refine ⟨c0,c1,?_⟩
    simp only [Wb0]
    rw [Wc1,Nat.zero_add]
    refine Wb5 (w1 a2 hk2) ?_
    simp only [Wa2]
    have e:(m.get a2 == o2)=decide (m.get a=o/\m.get a2=o2):=by
     rw [Bool.eq_iff_iff,beq_iff_eq,decide_eq_true_iff];exact ⟨λh=>⟨hc',h⟩,λh=>h.2⟩
    rw [e]
    exact ⟨rfl,by trivial⟩
   ·have hc':¬ m.get a=o:=by simpa using hc
    rw [decide_eq_false (λh=>hc' h.1)]
    exact ⟨rfl,by trivial⟩
  rintro v20 v21 g22 h23 ⟨e,rfl⟩
  cases e
  simp only [Wa6]
  unfold Mm.dcss at k1
  refine ⟨λvs h'=>vs = []/\Sat h' (Wm4 q (if m.get a=o/\m.get a2=o2 then m.put a n else m)*R),?_,?_⟩
  ·refine Wa7 (λhc=>?_) (λhc=>?_)
   ·rw [if_pos hc]
    refine Wb5 w0 ?_
    simp only [Wa9]
    refine ⟨a0,a1,?_⟩
    simp only [Wb0,Nat.mul_one]
    rw [Wc1,Nat.zero_add]
    exact w2 a n hk1 hn _ λh' H'=>⟨by trivial,H'⟩
   ·rw [if_neg hc]
    exact ⟨by trivial,H1.drop⟩
  rintro g33 h34 ⟨_,H34⟩
  refine Wa0 (Wo5 H34 (by split <;> exact hs) λh37 H37=>?_)
  refine k1 hk1 hk2 h37 ?_
  split
  ·rename_i hc;rw [if_pos hc,decide_eq_true hc] at H37;exact H37
  ·rename_i hc;rw [if_neg hc,decide_eq_false hc] at H37;exact H37
theorem Yj9 {K:kQ} {h:Wa1} {q:Nat} {m:Mm} {R:Hp} {a o n a2 o2 n2:Int} (H:Sat h (Wm4 q m*R)) (hn:U n) (hn2:U n2) (hs:m.st < 1099511627776)
  (k1:m.ok a=true->m.ok a2=true->a≠a2->∀h',Sat h' (Wm4 q (m.dcas a o n a2 o2 n2)*R)->K (.tuple #[.bool (decide (m.get a=o/\m.get a2=o2)),iQ 0]) h')
  (k0:¬ (m.ok a=true/\m.ok a2=true/\a≠a2)->∀h',Sat h' (Wm4 q m*R)->K (.tuple #[.bool false,iQ 2]) h') :
  Wa4 Tryz.prog 286 #[.pointer (some (aQ q)),iQ a,uQ o,uQ n,iQ a2,uQ o2,uQ n2] h K:=by
 refine call286 ?_
 unfold F286 cf bd lS lI nP
 have H1:=(H.push (.cells #[iQ a,iQ a2] 3))
 generalize h.push (.cells #[iQ a,iQ a2] 3)=h1 at *
 generalize h.size=N at *
 obtain ⟨b,w0,w1,w2⟩:=Wm1 H1.drop
 refine Wa0 (Wo4 w0 (YP5 H1.at) (by omega) ?_)
 rw [Za3]
 simp only [Wa2]
 cases hok:(m.ok a && m.ok a2) with
 | false=>
  simp only [Bool.false_eq_true,if_false]
  rw [show ((2:Int) != 0)=true from rfl]
  simp only [Wd5]
  exact k0 (λhx=>by rw [hx.1,hx.2.1] at hok;cases hok) h1 H1.drop
 | true=>
  simp only [if_true]
  rw [show ((0:Int) != 0)=false from rfl]
  simp only [Wc0,Wc5,Wb0]
  obtain ⟨hk1,hk2⟩:=(Bool.and_eq_true _ _).mp hok
  obtain ⟨a0,a1⟩:=Mm.ok_iff.1 hk1
  obtain ⟨c0,c1⟩:=Mm.ok_iff.1 hk2
  refine Wb7 (λhe=>k0 (λhx=>hx.2.2 (by simpa using he)) h1 H1.drop) (λhe=>?_)
  have hne:a≠a2:=by simpa using he
  refine ⟨λvs h'=>vs = [.bool (decide (m.get a=o/\m.get a2=o2)),.bool (decide (m.get a=o/\m.get a2=o2))]/\h' = h1,?_,?_⟩
  ·refine Wb5 w0 ?_
   simp only [Wa9]
   refine ⟨a0,a1,?_⟩
   simp only [Wb0,Nat.mul_one]
   rw [Wc1,Nat.zero_add]
   refine Wb5 (w1 a hk1) ?_
   simp only [Wa2]
   refine Wb7 (λhc=>?_) (λhc=>?_)
   ·have hc':m.get a=o:=by simpa using hc
    refine Wb5 w0 ?_
    simp only [Wa9]
    refine ⟨c0,c1,?_⟩
    simp only [Wb0]
    rw [Wc1,Nat.zero_add]
    refine Wb5 (w1 a2 hk2) ?_
    simp only [Wa2]
    have e:(m.get a2 == o2)=decide (m.get a=o/\m.get a2=o2):=by
     rw [Bool.eq_iff_iff,beq_iff_eq,decide_eq_true_iff];exact ⟨λh=>⟨hc',h⟩,λh=>h.2⟩
    rw [e]
    exact ⟨rfl,by trivial⟩
   ·have hc':¬ m.get a=o:=by simpa using hc
    rw [decide_eq_false (λh=>hc' h.1)]
    exact ⟨rfl,by trivial⟩
  rintro v20 v21 g22 h23 ⟨e,rfl⟩
  cases e
  simp only [Wa6]
  unfold Mm.dcas at k1
  refine ⟨λvs h'=>vs = []/\Sat h' (Wm4 q (if m.get a=o/\m.get a2=o2 then (m.put a n).put a2 n2 else m)*R),?_,?_⟩
  ·refine Wa7 (λhc=>?_) (λhc=>?_)
   ·rw [if_pos hc]
    obtain ⟨b,la,lc,B,H0⟩:=Wk9.1 H1.drop
    have e0:=Wd3 (i:=0) H0.at rfl
    refine Wb5 e0 ?_
    simp only [Wa9]
    refine Wb5 e0 ?_
    simp only [Wa9]
    refine ⟨a0,a1,?_⟩
    simp only [Wb0,Nat.mul_one]
    rw [Wc1,Nat.zero_add]
    have H2:Sat h23 _:=(Wb8 _ _ _ ▸ H0)
    refine WX7 H2 (by unfold uvs;rw [List.length_map];omega) trivial λh3 H3=>?_
    refine ⟨c0,c1,?_⟩
    try simp only [Wb0]
    rw [Wc1,Nat.zero_add]
    refine WX7 H3 (by unfold uvs;rw [List.length_set,List.length_map];omega) trivial λh4 H4=>⟨by trivial,?_⟩
    refine Wk9.2 ⟨b,la,lc,(B.put hn).put hn2,?_⟩
    have H5:Sat h4 _:=(Wb8 _ _ _ ▸ H4)
    unfold Mm.put
    simp only
    rw [show uvs ((m.w.set a.toNat n).set a2.toNat n2)=((uvs m.w).set a.toNat (uQ n)).set a2.toNat (uQ n2) by unfold uvs;rw [List.map_set,List.map_set]]
    unfold YP4
    simp only [List.length_set]
    exact H5
   ·rw [if_neg hc]
    exact ⟨by trivial,H1.drop⟩
  rintro g33 h34 ⟨_,H34⟩
  refine Wa0 (Wo5 H34 (by split <;> exact hs) λh37 H37=>?_)
  refine k1 hk1 hk2 hne h37 ?_
  split
  ·rename_i hc;rw [if_pos hc,decide_eq_true hc] at H37;exact H37
  ·rename_i hc;rw [if_neg hc,decide_eq_false hc] at H37;exact H37
end
section
open Mod
def wdS (q b c:Nat):Prop:=c=q\/c=b
structure GhF (h:Wa1) (q b:Nat) (g:Gh):Prop where
 obj:h[q]? = some (.cells [.slice (some (aQ b)) g.tags.length g.tags.length,iQ g.kind,iQ g.node].toArray 213)
 tg:h[b]? = some (.cells (g.tags.map iv).toArray 3)
 len:g.tags.length<=64
theorem GhF.ne {h:Wa1} {q b:Nat} {g:Gh} (H:GhF h q b g):q≠b:=by
 rintro rfl
 have h1:=H.obj
 rw [H.tg] at h1
 have:=congrArg (λo:Option Obj=>match o with | some (.cells _ t _)=>some t | _=>none) h1
 exact absurd this (by simp)
theorem Y08 (a b:Int):eqv Tryz.prog 10000 133 (.agg #[iQ a,iQ b]) (.agg #[iQ 0,iQ 0])=some ((a == 0) && ((b == 0) && true)):=by kernel_rfl
theorem YI0:Tryz.prog.eqGuardType Tryz.prog.depth 133=false:=by kernel_rfl
theorem YT5 {a b:Int} {K:Bool->Prop} (k:K (decide (a=0/\b=0))):WQ0 Tryz.prog 133 (.agg #[iQ a,iQ b]) (.agg #[iQ 0,iQ 0]) K:=by
 unfold WQ0
 rw [YI0,if_neg (by simp)]
 show (match eqv Tryz.prog 10000 133 (.agg #[.int .i64 a,.int .i64 b]) (.agg #[.int .i64 0,.int .i64 0]) with | some b=>K b | none=>False)
 rw [Y08]
 have e:((a == 0) && ((b == 0) && true))=decide (a=0/\b=0):=by
  rw [Bool.eq_iff_iff];simp
 rw [e]
 exact k
theorem Wr3 {K:kQ} {h:Wa1} {q b:Nat} {g:Gh} {kd i:Int} (H:GhF h q b g) (k:∀h',GhF h' q b (g.fault kd i)->Fr (wdS q b) h h'->K (.bool false) h'):Wa4 Tryz.prog 300 #[.pointer (some (aQ q)),iQ kd,iQ i] h K:=by
 refine call300 ?_
 unfold F300 nP
 simp only [Option.isNone_some,Bool.not_false,Wd5,Wc5,Wb0,Wc1]
 refine ⟨λvs h'=>vs = [.bool (decide (g.kind=0/\g.node=0))]/\h' = h,?_,?_⟩
 ·refine ldR H.obj rfl (ldR H.obj rfl ?_)
  exact YT5 ⟨rfl,by trivial⟩
 rintro v5 g6 h7 ⟨e,rfl⟩
 cases e
 simp only [Wa6]
 refine Wa7 (λhc=>?_) (λhc=>?_)
 ·refine stR H.obj rfl trivial λh10 w10=>?_
  refine stR w10.new rfl trivial λh11 w11=>?_
  have w:=w10.trans w11
  refine k h11 ?_ ⟨by rw [w.size];exact Nat.le_refl _,λc hc hn=>w.old _ λe=>hn (.inl e)⟩
  unfold Gh.fault
  rw [if_pos hc]
  exact ⟨w.new,(w.old _ (λe=>H.ne e.symm)).trans H.tg,H.len⟩
 ·refine k h7 ?_ (Fr.refl _ _)
  unfold Gh.fault
  rw [if_neg hc]
  exact H
theorem Yu8 {h:Wa1} {b:Nat} {l:List Int} {t:TypeId} (e:h[b]? = some (.cells (l.map iv).toArray t)) {a:Nat} (h1:a < l.length):Wa3 h ⟨b,a,none⟩=some (iv (l.getD a 0)):=by
 rw [Wb4 e,List.getElem?_toArray,List.getElem?_map,List.getElem?_eq_getElem h1,List.getD_eq_getElem?_getD,List.getElem?_eq_getElem h1]
 rfl
theorem hd3 {b b':Bool} {v w:Value} (h:b=b') : [.bool b,v,w] = [.bool b',v,w]:=by rw [h]
theorem WB4 {K:kQ} {h:Wa1} {q b:Nat} {g:Gh} {i fr to_ kd:Int} (H:GhF h q b g) (hi:iN i) (k:∀bb h',GhF h' q b (g.turn i fr to_ kd)->Fr (wdS q b) h h'->K (.bool bb) h') :
  Wa4 Tryz.prog 302 #[.pointer (some (aQ q)),iQ i,iQ fr,iQ to_,iQ kd] h K:=by
 refine call302 ?_
 unfold F302 cf lS nP
 have hl:=H.len
 refine ⟨λvs h'=>(∃w1 w2,vs = [.bool (decide (i < 1\/(g.tags.length:Int) < i)),w1,w2])/\h' = h,?_,?_⟩
 ·simp only [Option.isNone_some,Wc0]
  refine Wa7 (λq=>⟨⟨_,_,hd3 (decide_eq_true (Or.inl q:i < 1\/(g.tags.length:Int) < i)).symm⟩,by trivial⟩) (λq=>?_)
  simp only [Wc5,Wb0]
  refine ldR H.obj rfl ?_
  simp only [Wa9]
  exact ⟨⟨_,_,hd3 (show decide (i > (g.tags.length:Int))=decide (i < 1\/(g.tags.length:Int) < i) by rw [decide_eq_decide];omega)⟩,by trivial⟩
 rintro v6 v7 v8 g9 h10 ⟨⟨_,_,e⟩,rfl⟩
 cases e
 simp only [Wa6]
 unfold Gh.turn at k
 refine Wa7 (λhc=>?_) (λhc=>?_)
 ·rw [if_pos hc] at k
  refine Wa0 (Wr3 H λh13 H13 fr13=>?_)
  simp only [Wa6]
  exact k false h13 H13 fr13
 rw [if_neg hc] at k
 simp only [Wc5,Wb0]
 refine ldR H.obj rfl ?_
 simp only [Wa9]
 rw [Wb2 (n:=i - 1) (by omega) (by omega)]
 refine ⟨by omega,by omega,?_⟩
 simp only [Wb0,Nat.mul_one]
 rw [Wc1,Nat.zero_add]
 refine Wb5 (Yu8 H.tg (by omega)) ?_
 simp only [Wa2]
 refine Wb7 (λhne=>?_) (λheq=>?_)
 ·rw [if_pos (by simpa using hne)] at k
  refine Wa0 (Wr3 H λh13 H13 fr13=>?_)
  simp only [Wa6]
  exact k false h13 H13 fr13
 rw [if_neg (by simpa using heq)] at k
 refine ldR H.obj rfl ?_
 simp only [Wa9]
 refine ⟨by omega,by omega,?_⟩
 simp only [Wb0]
 try rw [Wc1,Nat.zero_add]
 refine WW6 H.tg (by simp;omega) trivial ?_
 rintro h32 rfl
 have hlt:=(Array.getElem?_eq_some_iff.1 H.tg).1
 refine k true _ ⟨?_,?_,by rw [List.length_set];exact H.len⟩ ⟨by simp,λc hc hn=>Wj6 λe=>hn (.inr e)⟩
 ·rw [Wj6 H.ne,List.length_set];exact H.obj
 ·rw [Wi8 hlt,List.setIfInBounds_toArray,List.map_set]
theorem W50 {K:kQ} {h:Wa1} {q b:Nat} {g:Gh} {i:Int} (H:GhF h q b g) (hi:iN i) (k:∀bb h',GhF h' q b (g.touch i)->Fr (wdS q b) h h'->K (.bool bb) h') :
  Wa4 Tryz.prog 279 #[.pointer (some (aQ q)),iQ i] h K:=by
 refine call279 ?_
 unfold F279 cf lS nP
 have hl:=H.len
 refine ⟨λvs h'=>(∃w1 w2,vs = [.bool (decide (i < 1\/(g.tags.length:Int) < i)),w1,w2])/\h' = h,?_,?_⟩
 ·simp only [Option.isNone_some,Wc0]
  refine Wa7 (λq=>⟨⟨_,_,hd3 (decide_eq_true (Or.inl q:i < 1\/(g.tags.length:Int) < i)).symm⟩,by trivial⟩) (λq=>?_)
  simp only [Wc5,Wb0]
  refine ldR H.obj rfl ?_
  simp only [Wa9]
  exact ⟨⟨_,_,hd3 (show decide (i > (g.tags.length:Int))=decide (i < 1\/(g.tags.length:Int) < i) by rw [decide_eq_decide];omega)⟩,by trivial⟩
 rintro v6 v7 v8 g9 h10 ⟨⟨_,_,e⟩,rfl⟩
 cases e
 simp only [Wa6]
 unfold Gh.touch at k
 refine Wa7 (λhc=>?_) (λhc=>?_)
 ·rw [if_pos hc] at k
  refine Wa0 (Wr3 H λh13 H13 fr13=>?_)
  simp only [Wa6]
  exact k false h13 H13 fr13
 rw [if_neg hc] at k
 simp only [Wc5,Wb0]
 refine ldR H.obj rfl ?_
 simp only [Wa9]
 rw [Wb2 (n:=i - 1) (by omega) (by omega)]
 refine ⟨by omega,by omega,?_⟩
 simp only [Wb0,Nat.mul_one]
 rw [Wc1,Nat.zero_add]
 refine Wb5 (Yu8 H.tg (by omega)) ?_
 simp only [Wa2]
 refine Wb7 (λhne=>?_) (λheq=>?_)
 ·rw [if_pos (by simpa using hne)] at k
  refine Wa0 (Wr3 H λh13 H13 fr13=>?_)
  simp only [Wa6]
  exact k false h13 H13 fr13
 rw [if_neg (by simpa using heq)] at k
 exact k true _ H (Fr.refl _ _)
end
section
open Mod
theorem W51 {K:kQ} {h:Wa1} {q b:Nat} {g:Gh} {i:Int} (H:GhF h q b g) (hi:iN i) (k:∀bb h',GhF h' q b (g.turn i 0 1 1)->Fr (wdS q b) h h'->K (.bool bb) h') :
  Wa4 Tryz.prog 306 #[.pointer (some (aQ q)),iQ i] h K:=by
 refine call306 ?_
 unfold F306 cf
 refine Wa0 (WB4 H hi λbb h1 H1 fr1=>?_)
 simp only [Wa6]
 exact k bb h1 H1 fr1
theorem WX8 {K:kQ} {h:Wa1} {q b:Nat} {g:Gh} {i:Int} (H:GhF h q b g) (hi:iN i) (k:∀bb h',GhF h' q b (g.turn i 1 2 2)->Fr (wdS q b) h h'->K (.bool bb) h') :
  Wa4 Tryz.prog 288 #[.pointer (some (aQ q)),iQ i] h K:=by
 refine call288 ?_
 unfold F288 cf
 refine Wa0 (WB4 H hi λbb h1 H1 fr1=>?_)
 simp only [Wa6]
 exact k bb h1 H1 fr1
theorem WR9 {K:kQ} {h:Wa1} {q b:Nat} {g:Gh} {i:Int} (H:GhF h q b g) (hi:iN i) (k:∀bb h',GhF h' q b (g.turn i 2 0 3)->Fr (wdS q b) h h'->K (.bool bb) h') :
  Wa4 Tryz.prog 307 #[.pointer (some (aQ q)),iQ i] h K:=by
 refine call307 ?_
 unfold F307 cf
 refine Wa0 (WB4 H hi λbb h1 H1 fr1=>?_)
 simp only [Wa6]
 exact k bb h1 H1 fr1
structure FdF (h:Wa1) (q:Nat) (a:Option Addr) (c:Nat) (bs:List Int) (used:Int):Prop where
 obj:h[q]? = some (.cells [.slice a bs.length c,iQ used].toArray 236)
 by_:Sees h a (bs.map λn=>.int .u8 n)
 rng:∀n ∈ bs,0<=n/\n < 256
 us:0<=used/\used < 4611686018427387904
 ap:¬ blk a q
theorem Yk0 {K:kQ} {h:Wa1} {q c:Nat} {a:Option Addr} {bs:List Int} {used:Int} (H:FdF h q a c bs used) (hu:used < 4611686018427387903)
  (k:∀h',FdF h' q a c bs (used+1)->Fr (λb=>b=q) h h'->K (iQ (if used+1 > bs.length then 0 else bs.getD used.toNat 0)) h') :
  Wa4 Tryz.prog 280 #[.pointer (some (aQ q))] h K:=by
 refine call280 ?_
 unfold F280 lS lI nP
 have hus:=H.us
 simp only [Option.isNone_some,Wc0,Wc5,Wb0,Wc1]
 refine ldR H.obj rfl ?_
 simp only [Wa2]
 rw [Wb2 (n:=used+1) (by omega) (by omega)]
 refine stR H.obj rfl trivial λh4 w4=>?_
 have by4:Sees h4 a (bs.map λn=>.int .u8 n):=H.by_.keep λad e=>w4.old _ λeb=>H.ap ⟨ad,e,eb⟩
 have H4:FdF h4 q a c bs (used+1):=⟨w4.new,by4,H.rng,by omega,H.ap⟩
 have kk:=k h4 H4 ⟨by rw [w4.size];exact Nat.le_refl _,λb hb hn=>w4.old _ hn⟩
 refine ldR w4.new rfl ?_
 simp only [Wa2]
 refine ldR w4.new rfl ?_
 simp only [Wa9]
 refine Wa7 (λhgt=>?_) (λhle=>?_)
 ·rw [if_pos (by omega)] at kk
  exact kk
 ·rw [if_neg (by omega)] at kk
  have hlt:used.toNat < bs.length:=by omega
  refine ldR w4.new rfl ?_
  simp only [Wa9]
  refine ldR w4.new rfl ?_
  simp only [Wa2]
  rw [Wb2 (n:=used+1 - 1) (by omega) (by omega),show used+1 - 1=used by omega]
  refine ⟨by omega,by omega,?_⟩
  obtain ⟨ad,rfl,hc⟩:=by4 used.toNat (.int .u8 bs[used.toNat]) (by rw [List.getElem?_map,List.getElem?_eq_getElem hlt];rfl)
  simp only [Wb0,Nat.mul_one]
  refine Wb5 hc ?_
  simp only [Wa2]
  have hr:=H.rng _ (List.getElem_mem hlt)
  rw [List.getD_eq_getElem?_getD,List.getElem?_eq_getElem hlt] at kk
  rw [Wb2 (by omega) (by omega)]
  exact kk
theorem Yk1 {K:kQ} {h:Wa1} {q c:Nat} {a:Option Addr} {bs:List Int} {used n:Int} (H:FdF h q a c bs used) (hu:used < 4611686018427387903)
  (k0:n < 1->K (iQ 0) h) (k:1<=n->∀h',FdF h' q a c bs (used+1)->Fr (λb=>b=q) h h'->K (iQ ((if used+1 > bs.length then 0 else bs.getD used.toNat 0) % n)) h') :
  Wa4 Tryz.prog 215 #[.pointer (some (aQ q)),iQ n] h K:=by
 refine call215 ?_
 unfold F215 cf
 refine Wa7 (λhn=>k0 hn) (λhn=>?_)
 refine Wa0 (Yk0 H hu λh1 H1 fr1=>?_)
 simp only [Wa2]
 have hpos:0<=(if used+1 > bs.length then 0 else bs.getD used.toNat 0):=by
  split
  ·omega
  ·rename_i h2
   have hus:=H.us
   have hlt:used.toNat < bs.length:=by omega
   rw [List.getD_eq_getElem?_getD,List.getElem?_eq_getElem hlt]
   exact (H.rng _ (List.getElem_mem hlt)).1
 rw [Wy9 hpos]
 exact ⟨by omega,k (by omega) h1 H1 fr1⟩
end
section
open Mod
def ghS:Option Gh->Nat->Hp
 | none,_=>emp
 | some g,q=>ex λb=>lift (wdS q b) λh=>GhF h q b g
theorem GhF.congr {h h':Wa1} {q b:Nat} {g:Gh} (H:GhF h q b g) (e:∀c,wdS q b c->h'[c]? = h[c]?):GhF h' q b g:=by
 have h1:=H.obj
 have h2:=H.tg
 obtain ⟨x1,x2,x3⟩:=H
 constructor
 ·rw [e q (.inl rfl)];exact h1
 ·rw [e b (.inr rfl)];exact h2
 ·exact x3
theorem GhF.nd {h:Wa1} {q b:Nat} {g:Gh} (H:GhF h q b g):∀c o,wdS q b c->h[c]? = some o->Nd o:=by
 rintro c o hc e x hx
 rcases hc with rfl | rfl
 ·rw [H.obj] at e;cases e;cases hx
 ·rw [H.tg] at e;cases e;cases hx
theorem WE6 {h:Wa1} {q:Nat} {g:Gh} {R:Hp} (H:Sat h (ghS (some g) q*R)):∃b,GhF h q b g/\∀h' g',GhF h' q b g'->Fr (wdS q b) h h'->Sat h' (ghS (some g') q*R):=by
 obtain ⟨b,H⟩:=Sat.ex.1 H
 obtain ⟨G,hlt,re⟩:=H.opn
 refine ⟨b,G,λh' g' G' fr=>Sat.ex.2 ⟨b,re h' (wdS q b) _ fr (λc hc=>⟨.inl hc,Nat.lt_of_lt_of_le (hlt c hc) fr.1⟩) G'.nd λh'' e=>G'.congr e⟩⟩
theorem WX9 {K:kQ} {h:Wa1} {q:Nat} {g:Gh} {R:Hp} {i:Int} (H:Sat h (ghS (some g) q*R)) (hi:iN i) (k:∀bb h',Sat h' (ghS (some (g.touch i)) q*R)->K (.bool bb) h') :
  Wa4 Tryz.prog 279 #[.pointer (some (aQ q)),iQ i] h K:=by
 obtain ⟨b,G,re⟩:=WE6 H
 exact W50 G hi λbb h' G' fr=>k bb h' (re h' _ G' fr)
theorem WY0 {K:kQ} {h:Wa1} {q:Nat} {g:Gh} {R:Hp} {i:Int} (H:Sat h (ghS (some g) q*R)) (hi:iN i) (k:∀bb h',Sat h' (ghS (some (g.turn i 0 1 1)) q*R)->K (.bool bb) h') :
  Wa4 Tryz.prog 306 #[.pointer (some (aQ q)),iQ i] h K:=by
 obtain ⟨b,G,re⟩:=WE6 H
 exact W51 G hi λbb h' G' fr=>k bb h' (re h' _ G' fr)
theorem WS0 {K:kQ} {h:Wa1} {q:Nat} {g:Gh} {R:Hp} {i:Int} (H:Sat h (ghS (some g) q*R)) (hi:iN i) (k:∀bb h',Sat h' (ghS (some (g.turn i 1 2 2)) q*R)->K (.bool bb) h') :
  Wa4 Tryz.prog 288 #[.pointer (some (aQ q)),iQ i] h K:=by
 obtain ⟨b,G,re⟩:=WE6 H
 exact WX8 G hi λbb h' G' fr=>k bb h' (re h' _ G' fr)
theorem WM5 {K:kQ} {h:Wa1} {q:Nat} {g:Gh} {R:Hp} {i:Int} (H:Sat h (ghS (some g) q*R)) (hi:iN i) (k:∀bb h',Sat h' (ghS (some (g.turn i 2 0 3)) q*R)->K (.bool bb) h') :
  Wa4 Tryz.prog 307 #[.pointer (some (aQ q)),iQ i] h K:=by
 obtain ⟨b,G,re⟩:=WE6 H
 exact WR9 G hi λbb h' G' fr=>k bb h' (re h' _ G' fr)
def fdS (q:Nat) (bs:List Int) (used:Int):Hp:=ex λa=>ex λc=>lift (λb=>b=q\/blk a b/\bs≠[]) λh=>FdF h q a c bs used
theorem Sees.congr {h h':Wa1} {a:Option Addr} {vs:List Value} (H:Sees h a vs) (e:∀b,blk a b->vs≠[]->h'[b]? = h[b]?):Sees h' a vs:=by
 intro i v hi
 obtain ⟨ad,ea,hc⟩:=H i v hi
 exact ⟨ad,ea,(Wi1 (by rw [WG2];exact e _ ⟨ad,ea,rfl⟩ λh=>by rw [h] at hi;simp at hi)).trans hc⟩
theorem FdF.congr {h h':Wa1} {q c:Nat} {a:Option Addr} {bs:List Int} {used:Int} (H:FdF h q a c bs used) (e:∀b,b=q\/blk a b/\bs≠[]->h'[b]? = h[b]?):FdF h' q a c bs used:=
 ⟨(e q (.inl rfl)).trans H.obj,H.by_.congr λb hb hn=>e b (.inr ⟨hb,λh=>hn (by rw [h];rfl)⟩),H.rng,H.us,H.ap⟩
theorem FdF.nd {h:Wa1} {q c:Nat} {a:Option Addr} {bs:List Int} {used:Int} (H:FdF h q a c bs used):∀b o,b=q\/blk a b/\bs≠[]->h[b]? = some o->Nd o:=by
 rintro b o hb e x hx
 rcases hb with rfl | ⟨⟨ad,ea,rfl⟩,hne⟩
 ·rw [H.obj] at e;cases e;cases hx
 ·cases bs with
  | nil=>exact hne rfl
  | cons n bs=>
   obtain ⟨ad2,ea2,hc⟩:=H.by_ 0 (.int .u8 n) rfl
   rw [ea] at ea2;cases ea2
   exact hx.elim
theorem Yd2 {h:Wa1} {q:Nat} {bs:List Int} {used:Int} {R:Hp} (H:Sat h (fdS q bs used*R)):∃a c,FdF h q a c bs used/\∀h' used',FdF h' q a c bs used'->Fr (λb=>b=q) h h'->Sat h' (fdS q bs used' * R):=by
 obtain ⟨a,H⟩:=Sat.ex.1 H
 obtain ⟨c,H⟩:=Sat.ex.1 H
 obtain ⟨G,hlt,re⟩:=H.opn
 refine ⟨a,c,G,λh' u' G' fr=>Sat.ex.2 ⟨a,Sat.ex.2 ⟨c,re h' _ _ (fr.mono λb _ e=>.inl e) (λc hc=>⟨.inl hc,Nat.lt_of_lt_of_le (hlt c hc) fr.1⟩) G'.nd λh'' e=>G'.congr e⟩⟩⟩
def drawn (bs:List Int) (used:Int):Int:=if used+1 > bs.length then 0 else bs.getD used.toNat 0
theorem W52 {K:kQ} {h:Wa1} {q:Nat} {bs:List Int} {used n:Int} {R:Hp} (H:Sat h (fdS q bs used*R)) (hu:used < 1099511627776)
  (k0:n < 1->K (iQ 0) h) (k:1<=n->∀h',Sat h' (fdS q bs (used+1)*R)->K (iQ (drawn bs used % n)) h') :
  Wa4 Tryz.prog 215 #[.pointer (some (aQ q)),iQ n] h K:=by
 obtain ⟨a,c,G,re⟩:=Yd2 H
 exact Yk1 G (by omega) k0 λh1 h' G' fr=>k h1 h' (re h' _ G' fr)
end
section
set_option maxRecDepth 100000
abbrev q62_1 (h104:Wa1) (v88 v89 v90 v91 v92 v93 v94 v95 v96 v97 v98 v99 v100 v101 v102:Value) (o67 o105:Option Addr):Wa1:=(Array.push h104 (.cells #[v88,v89,v90,v91,v92,v93,v94,v95,v96,v97,v98,v99,v100,v101,v102,(.pointer o67),(.pointer none),(.pointer o105),(.slice none 0 0),(.bool false),(.bool false)] 122))
abbrev q62_2 (h164:Wa1) (n142:Int) (o155:Option Addr) (k156 k157:Nat) (o160:Option Addr) (k161 k162:Nat) (o165:Option Addr) (k166 k167:Nat):Wa1:=(Array.push h164 (.cells #[(iQ n142),(.slice none 0 0),(uQ 0),(uQ 0),(uQ 0),(.slice o155 k156 k157),(.slice o160 k161 k162),(.slice o165 k166 k167),(.slice none 0 0),(.slice none 0 0)] 183))
abbrev q62_3 (h181:Wa1) (n142:Int) (o155:Option Addr) (k156 k157:Nat) (o182:Option Addr) (k183 k184:Nat) (o177:Option Addr) (k178 k179:Nat):Wa1:=(Array.push h181 (.cells #[(iQ n142),(.slice none 0 0),(uQ 0),(uQ 0),(uQ 0),(.slice o155 k156 k157),(.slice o182 k183 k184),(.slice o177 k178 k179),(.slice none 0 0),(.slice none 0 0)] 183))
abbrev q62_4 (h203:Wa1) (n142:Int) (o199:Option Addr) (k200 k201:Nat) (o194:Option Addr) (k195 k196:Nat) (o204:Option Addr) (k205 k206:Nat):Wa1:=(Array.push h203 (.cells #[(iQ n142),(.slice none 0 0),(uQ 0),(uQ 0),(uQ 0),(.slice o199 k200 k201),(.slice o194 k195 k196),(.slice o204 k205 k206),(.slice none 0 0),(.slice none 0 0)] 183))
abbrev q62_5 (h220:Wa1) (n142:Int) (o221:Option Addr) (k222 k223:Nat) (o194:Option Addr) (k195 k196:Nat) (o216:Option Addr) (k217 k218:Nat):Wa1:=(Array.push h220 (.cells #[(iQ n142),(.slice none 0 0),(uQ 0),(uQ 0),(uQ 0),(.slice o221 k222 k223),(.slice o194 k195 k196),(.slice o216 k217 k218),(.slice none 0 0),(.slice none 0 0)] 183))
abbrev q62_6 (h242:Wa1) (n142:Int) (o238:Option Addr) (k239 k240:Nat) (o243:Option Addr) (k244 k245:Nat) (o233:Option Addr) (k234 k235:Nat):Wa1:=(Array.push h242 (.cells #[(iQ n142),(.slice none 0 0),(uQ 0),(uQ 0),(uQ 0),(.slice o238 k239 k240),(.slice o243 k244 k245),(.slice o233 k234 k235),(.slice none 0 0),(.slice none 0 0)] 183))
abbrev q62_7 (h259:Wa1) (n142:Int) (o260:Option Addr) (k261 k262:Nat) (o255:Option Addr) (k256 k257:Nat) (o233:Option Addr) (k234 k235:Nat):Wa1:=(Array.push h259 (.cells #[(iQ n142),(.slice none 0 0),(uQ 0),(uQ 0),(uQ 0),(.slice o260 k261 k262),(.slice o255 k256 k257),(.slice o233 k234 k235),(.slice none 0 0),(.slice none 0 0)] 183))
abbrev g62 (K:kQ) (h H1:Wa1) (xa:Option Addr) (xb xc:Nat) (xd:Bool):Prop:=
 (dl7 H1 h.size λa b c d e f g=>cf 98 #[.agg #[a,b,c,d,e,f,g]] H1 λa b=>Wg5 a λc=>Wc2 c 0 λc=>asAgg c λc=>Wg6 c 15 (Ww2 c λc d e f g i j k l m n o p q r=>Wg5 a λa=>Wc2 a 1 λa=>asInt .i64 a λa=>stH (Array.push b (.cells Wp0 117)) (aQ b.size) c λc=>stH c ⟨b.size,1,none⟩ d λc=>stH c ⟨b.size,2,none⟩ e λc=>stH c ⟨b.size,3,none⟩ f λc=>stH c ⟨b.size,4,none⟩ g λc=>stH c ⟨b.size,5,none⟩ i λc=>stH c ⟨b.size,6,none⟩ j λc=>stH c ⟨b.size,7,none⟩ k λc=>stH c ⟨b.size,8,none⟩ l λc=>stH c ⟨b.size,9,none⟩ m λc=>stH c ⟨b.size,10,none⟩ n λc=>stH c ⟨b.size,11,none⟩ o λc=>stH c ⟨b.size,12,none⟩ p λc=>stH c ⟨b.size,13,none⟩ q λc=>stH c ⟨b.size,14,none⟩ r λc=>ifB (a != 0) (K (.tuple #[.pointer none,iQ a]) c) (Wz6 c b.size λa d e f g i j k l m n o p q r=>cf 100 #[.agg #[a,d,e,f,g,i,j,k,l,m,n,o,p,q,r]] c λa c=>asInt .i64 a λa=>cf 99 #[iQ a] c λa c=>Wg5 a λd=>Wc2 d 0 λd=>Wc8 d λd=>Wg5 a λa=>Wc2 a 1 λa=>asInt .i64 a λa=>ifB (a != 0) (K (.tuple #[.pointer none,iQ a]) c) (Wz6 c b.size λa e f g i j k l m n o p q r s=>cf 101 #[.pointer d,.agg #[a,e,f,g,i,j,k,l,m,n,o,p,q,r,s]] c λa a=>Wz6 a b.size λc e f g i j k l m n o p q r s=>cf 102 #[.slice xa xb xc] a λa t=>Wc8 a λa=>ce t b.size 0 c (ce t b.size 1 e (ce t b.size 2 f (ce t b.size 3 g (ce t b.size 4 i (ce t b.size 5 j (ce t b.size 6 k (ce t b.size 7 l (ce t b.size 8 m (ce t b.size 9 n (ce t b.size 10 o (ce t b.size 11 p (ce t b.size 12 q (ce t b.size 13 r (ce t b.size 14 s (exI λI106=>(ifB xd (ldH (q62_1 t c e f g i j k l m n o p q r s d a) ⟨h.size,2,none⟩ λu=>asInt .i64 u λv=>Wz6 (q62_1 t c e f g i j k l m n o p q r s d a) b.size λb w x y z A B C D E F G H I J=>cf 104 #[.agg #[b,w,x,y,z,A,B,C,D,E,F,G,H,I,J]] (q62_1 t c e f g i j k l m n o p q r s d a) λb w=>asInt .i64 b λb=>ce w h.size 2 u (cf 103 #[iQ v,iQ b] w λb u=>Wc8 b λb=>Wc5 (.pointer (some (aQ t.size))) (stH u ⟨t.size,16,none⟩ (.pointer b) λb=>I106 [] b))) (I106 [] (q62_1 t c e f g i j k l m n o p q r s d a)))/\(∀(a:Env) (a:Wa1),(I106 [] a)->(lI .i64 a ⟨h.size,1,none⟩ λb=>exI λI135=>exM λm136=>(I135 [.tuple #[],iQ 0] a)/\(∀(a c:Value) (d:Env) (d:Wa1),(I135 [a,c] d)->(asInt .i64 c λe=>ifB (decide (e < b)) (asInt .i64 c λb=>Wc5 (.pointer (some (aQ t.size))) (ldH d ⟨t.size,18,none⟩ λe=>Wb3 e λf g i=>ldH d ⟨h.size,3,none⟩ λj=>asInt .i64 j λk=>ldH d ⟨h.size,3,none⟩ λl=>asInt .i64 l λm=>ldH d ⟨h.size,3,none⟩ λn=>asInt .i64 n λo=>(Wm5 Tryz.prog 178 k k d λp q=>Wb3 p λp r s=>ce q h.size 3 n (ce q h.size 3 l (ce q t.size 18 e ((Wm5 Tryz.prog 178 m m q λu v=>Wb3 u λu w x=>ce v h.size 3 n (ce v h.size 3 j (ce v t.size 18 e (Wm5 Tryz.prog 178 o o v λv y=>Wb3 v λv z A=>ce y h.size 3 l (ce y h.size 3 j (ce y t.size 18 e (ce (q62_2 y b p r s u w x v z A) t.size 18 e (((Wa3 (Array.push (q62_2 y b p r s u w x v z A) (.cells #[.pointer (some (aQ y.size))] 176)) ⟨t.size,18,none⟩)=(some e))/\(Wp5 Tryz.prog #[120,120] 120 #[.slice f g i,.slice (some ⟨(q62_2 y b p r s u w x v z A).size,0,none⟩) 1 1] (Array.push (q62_2 y b p r s u w x v z A) (.cells #[.pointer (some (aQ y.size))] 176)) λu v=>Wb3 u λu w x=>Wc5 (.pointer (some (aQ t.size))) (stH v ⟨t.size,18,none⟩ (.slice u w x) λu=>asInt .i64 c λv=>(I135 [iQ b,iQ (IntKind.wrap .i64 (v+1))] u)/\((m136 [iQ b,iQ (IntKind.wrap .i64 (v+1))] u) < (m136 [a,c] d))))))))))))/\(Wm5 Tryz.prog 178 o o q λq u=>Wb3 q λq v w=>ce u h.size 3 l (ce u h.size 3 j (ce u t.size 18 e (Wm5 Tryz.prog 178 m m u λu x=>Wb3 u λu y z=>ce x h.size 3 n (ce x h.size 3 j (ce x t.size 18 e (ce (q62_3 x b p r s u y z q v w) t.size 18 e (((Wa3 (Array.push (q62_3 x b p r s u y z q v w) (.cells #[.pointer (some (aQ x.size))] 176)) ⟨t.size,18,none⟩)=(some e))/\(Wp5 Tryz.prog #[120,120] 120 #[.slice f g i,.slice (some ⟨(q62_3 x b p r s u y z q v w).size,0,none⟩) 1 1] (Array.push (q62_3 x b p r s u y z q v w) (.cells #[.pointer (some (aQ x.size))] 176)) λp q=>Wb3 p λp r s=>Wc5 (.pointer (some (aQ t.size))) (stH q ⟨t.size,18,none⟩ (.slice p r s) λp=>asInt .i64 c λq=>(I135 [iQ b,iQ (IntKind.wrap .i64 (q+1))] p)/\((m136 [iQ b,iQ (IntKind.wrap .i64 (q+1))] p) < (m136 [a,c] d))))))))))))))))/\((Wm5 Tryz.prog 178 m m d λp q=>Wb3 p λp r s=>ce q h.size 3 n (ce q h.size 3 j (ce q t.size 18 e ((Wm5 Tryz.prog 178 k k q λu v=>Wb3 u λu w x=>ce v h.size 3 n (ce v h.size 3 l (ce v t.size 18 e (Wm5 Tryz.prog 178 o o v λv y=>Wb3 v λv z A=>ce y h.size 3 l (ce y h.size 3 j (ce y t.size 18 e (ce (q62_4 y b u w x p r s v z A) t.size 18 e (((Wa3 (Array.push (q62_4 y b u w x p r s v z A) (.cells #[.pointer (some (aQ y.size))] 176)) ⟨t.size,18,none⟩)=(some e))/\(Wp5 Tryz.prog #[120,120] 120 #[.slice f g i,.slice (some ⟨(q62_4 y b u w x p r s v z A).size,0,none⟩) 1 1] (Array.push (q62_4 y b u w x p r s v z A) (.cells #[.pointer (some (aQ y.size))] 176)) λu v=>Wb3 u λu w x=>Wc5 (.pointer (some (aQ t.size))) (stH v ⟨t.size,18,none⟩ (.slice u w x) λu=>asInt .i64 c λv=>(I135 [iQ b,iQ (IntKind.wrap .i64 (v+1))] u)/\((m136 [iQ b,iQ (IntKind.wrap .i64 (v+1))] u) < (m136 [a,c] d))))))))))))/\(Wm5 Tryz.prog 178 o o q λq u=>Wb3 q λq v w=>ce u h.size 3 l (ce u h.size 3 j (ce u t.size 18 e (Wm5 Tryz.prog 178 k k u λu x=>Wb3 u λu y z=>ce x h.size 3 n (ce x h.size 3 l (ce x t.size 18 e (ce (q62_5 x b u y z p r s q v w) t.size 18 e (((Wa3 (Array.push (q62_5 x b u y z p r s q v w) (.cells #[.pointer (some (aQ x.size))] 176)) ⟨t.size,18,none⟩)=(some e))/\(Wp5 Tryz.prog #[120,120] 120 #[.slice f g i,.slice (some ⟨(q62_5 x b u y z p r s q v w).size,0,none⟩) 1 1] (Array.push (q62_5 x b u y z p r s q v w) (.cells #[.pointer (some (aQ x.size))] 176)) λp q=>Wb3 p λp r s=>Wc5 (.pointer (some (aQ t.size))) (stH q ⟨t.size,18,none⟩ (.slice p r s) λp=>asInt .i64 c λq=>(I135 [iQ b,iQ (IntKind.wrap .i64 (q+1))] p)/\((m136 [iQ b,iQ (IntKind.wrap .i64 (q+1))] p) < (m136 [a,c] d))))))))))))))))/\(Wm5 Tryz.prog 178 o o d λo p=>Wb3 o λo q r=>ce p h.size 3 l (ce p h.size 3 j (ce p t.size 18 e ((Wm5 Tryz.prog 178 k k p λs u=>Wb3 s λs v w=>ce u h.size 3 n (ce u h.size 3 l (ce u t.size 18 e (Wm5 Tryz.prog 178 m m u λu x=>Wb3 u λu y z=>ce x h.size 3 n (ce x h.size 3 j (ce x t.size 18 e (ce (q62_6 x b s v w u y z o q r) t.size 18 e (((Wa3 (Array.push (q62_6 x b s v w u y z o q r) (.cells #[.pointer (some (aQ x.size))] 176)) ⟨t.size,18,none⟩)=(some e))/\(Wp5 Tryz.prog #[120,120] 120 #[.slice f g i,.slice (some ⟨(q62_6 x b s v w u y z o q r).size,0,none⟩) 1 1] (Array.push (q62_6 x b s v w u y z o q r) (.cells #[.pointer (some (aQ x.size))] 176)) λs u=>Wb3 s λs v w=>Wc5 (.pointer (some (aQ t.size))) (stH u ⟨t.size,18,none⟩ (.slice s v w) λs=>asInt .i64 c λu=>(I135 [iQ b,iQ (IntKind.wrap .i64 (u+1))] s)/\((m136 [iQ b,iQ (IntKind.wrap .i64 (u+1))] s) < (m136 [a,c] d))))))))))))/\(Wm5 Tryz.prog 178 m m p λm p=>Wb3 m λm s u=>ce p h.size 3 n (ce p h.size 3 j (ce p t.size 18 e (Wm5 Tryz.prog 178 k k p λj k=>Wb3 j λj p v=>ce k h.size 3 n (ce k h.size 3 l (ce k t.size 18 e (ce (q62_7 k b j p v m s u o q r) t.size 18 e (((Wa3 (Array.push (q62_7 k b j p v m s u o q r) (.cells #[.pointer (some (aQ k.size))] 176)) ⟨t.size,18,none⟩)=(some e))/\(Wp5 Tryz.prog #[120,120] 120 #[.slice f g i,.slice (some ⟨(q62_7 k b j p v m s u o q r).size,0,none⟩) 1 1] (Array.push (q62_7 k b j p v m s u o q r) (.cells #[.pointer (some (aQ k.size))] 176)) λe f=>Wb3 e λe g i=>Wc5 (.pointer (some (aQ t.size))) (stH f ⟨t.size,18,none⟩ (.slice e g i) λe=>asInt .i64 c λf=>(I135 [iQ b,iQ (IntKind.wrap .i64 (f+1))] e)/\((m136 [iQ b,iQ (IntKind.wrap .i64 (f+1))] e) < (m136 [a,c] d))))))))))))))))))) (K (.tuple #[.pointer (some (aQ t.size)),iQ 0]) d))))))))))))))))))))))))
def F62 (K:kQ) (h:Wa1) (xa xb xc xd xe xf xg:Int) (xh:Option Addr) (xi xj:Nat) (xk:Bool):Prop:=
 (g62 K h (Array.push h (.cells #[iQ xa,iQ xb,iQ xc,iQ xd,iQ xe,iQ xf,iQ xg] 23)) xh xi xj xk)
theorem call62 {K:kQ} {h:Wa1} {xa xb xc xd xe xf xg:Int} {xh:Option Addr} {xi xj:Nat} {xk:Bool} (H:F62 K h xa xb xc xd xe xf xg xh xi xj xk):Wa4 Tryz.prog 62 #[(.agg #[(iQ xa),(iQ xb),(iQ xc),(iQ xd),(iQ xe),(iQ xf),(iQ xg)]),(.slice xh xi xj),(.bool xk)] h K:=
 cQ Tryz.func62 H
def F32 (K:kQ) (h:Wa1) (xa:Option Addr):Prop:=
 (ifB (Option.isNone xa) (K (.pointer none) h) (nP xa λa=>lP h (Addr.add a 15) λa=>K (.pointer a) h))
theorem call32 {K:kQ} {h:Wa1} {xa:Option Addr} (H:F32 K h xa):Wa4 Tryz.prog 32 #[(.pointer xa)] h K:=
 cQ Tryz.func32 H
abbrev g101 (K:kQ) (h H1:Wa1) (xa:Option Addr):Prop:=
 (Wz6 H1 h.size λa b c d e f g i j k l m n o p=>cf 139 #[.agg #[a,b,c,d,e,f,g,i,j,k,l,m,n,o,p]] H1 λa b=>asAgg a λa=>Wg6 a 7 (de7 a λa c d e f g i=>stH (Array.push b (.cells YD9 23)) (aQ b.size) a λa=>stH a ⟨b.size,1,none⟩ c λa=>stH a ⟨b.size,2,none⟩ d λa=>stH a ⟨b.size,3,none⟩ e λa=>stH a ⟨b.size,4,none⟩ f λa=>stH a ⟨b.size,5,none⟩ g λa=>stH a ⟨b.size,6,none⟩ i λa=>Wz6 a h.size λc d e f g i j k l m n o p q r=>cf 104 #[.agg #[c,d,e,f,g,i,j,k,l,m,n,o,p,q,r]] a λa c=>asInt .i64 a λa=>cf 141 #[iQ (IntKind.wrap .i64 (a+1))] c λc d=>asInt .u64 c λc=>cf 140 #[.pointer xa,iQ 0,uQ c] d λc d=>asInt .i64 c λc=>exI λI56=>exM λm57=>(I56 [iQ (IntKind.wrap .i64 (a+1))] d)/\(∀(a:Value) (c:Env) (c:Wa1),(I56 [a] c)->(asInt .i64 a λd=>lI .i64 c ⟨b.size,2,none⟩ λe=>ifB (decide (d < e)) (Wz6 c h.size λd e f g i j k l m n o p q r s=>asInt .i64 a λt=>cf 142 #[.agg #[d,e,f,g,i,j,k,l,m,n,o,p,q,r,s],iQ t] c λd e=>asInt .i64 d λd=>asInt .i64 a λf=>cf 140 #[.pointer xa,iQ d,uQ (IntKind.wrap .u64 (IntKind.wrap .i64 (f+1)))] e λd e=>asInt .i64 d λd=>asInt .i64 a λd=>(I56 [iQ (IntKind.wrap .i64 (d+1))] e)/\((m57 [iQ (IntKind.wrap .i64 (d+1))] e) < (m57 [a] c))) (cf 140 #[.pointer xa,iQ 2,uQ 1] c λa c=>asInt .i64 a λa=>lI .i64 c (aQ b.size) λa=>ifB (a == 0) (K (.tuple #[]) c) (Wz6 c h.size λa d e f g i j k l m n o p q r=>ldH c ⟨b.size,3,none⟩ λs=>asInt .i64 s λt=>cf 143 #[.agg #[a,d,e,f,g,i,j,k,l,m,n,o,p,q,r],iQ 1,iQ 3] c λa c=>asInt .i64 a λa=>ce c b.size 3 s (cf 140 #[.pointer xa,iQ a,uQ (IntKind.wrap .u64 t)] c λa c=>asInt .i64 a λa=>Wz6 c h.size λa d e f g i j k l m n o p q r=>cf 143 #[.agg #[a,d,e,f,g,i,j,k,l,m,n,o,p,q,r],iQ 2,iQ 0] c λa c=>asInt .i64 a λa=>cf 140 #[.pointer xa,iQ a,uQ 18446744073709551615] c λa c=>asInt .i64 a λa=>lI .i64 c ⟨b.size,3,none⟩ λa=>exI λI139=>exM λm140=>(I139 [.tuple #[],iQ 0] c)/\(∀(b c:Value) (d:Env) (d:Wa1),(I139 [b,c] d)->(asInt .i64 c λe=>ifB (decide (e < a)) (asInt .i64 c λa=>Wz6 d h.size λe f g i j k l m n o p q r s t=>cf 143 #[.agg #[e,f,g,i,j,k,l,m,n,o,p,q,r,s,t],iQ 1,iQ (IntKind.wrap .i64 (5+a))] d λe f=>asInt .i64 e λe=>cf 141 #[iQ 2] f λf g=>asInt .u64 f λf=>cf 140 #[.pointer xa,iQ e,uQ f] g λe f=>asInt .i64 e λe=>asInt .i64 c λe=>(I139 [iQ a,iQ (IntKind.wrap .i64 (e+1))] f)/\((m140 [iQ a,iQ (IntKind.wrap .i64 (e+1))] f) < (m140 [b,c] d))) (K (.tuple #[]) d))))))))))
def F101 (K:kQ) (h:Wa1) (xa:Option Addr) (xb xc xd xe xf xg xh xi xj xk xl xm xn xo xp:Int):Prop:=
 (g101 K h (Array.push h (.cells #[iQ xb,iQ xc,iQ xd,iQ xe,iQ xf,iQ xg,iQ xh,iQ xi,iQ xj,iQ xk,iQ xl,iQ xm,iQ xn,iQ xo,iQ xp] 117)) xa)
theorem call101 {K:kQ} {h:Wa1} {xa:Option Addr} {xb xc xd xe xf xg xh xi xj xk xl xm xn xo xp:Int} (H:F101 K h xa xb xc xd xe xf xg xh xi xj xk xl xm xn xo xp):Wa4 Tryz.prog 101 #[(.pointer xa),(.agg #[(iQ xb),(iQ xc),(iQ xd),(iQ xe),(iQ xf),(iQ xg),(iQ xh),(iQ xi),(iQ xj),(iQ xk),(iQ xl),(iQ xm),(iQ xn),(iQ xo),(iQ xp)])] h K:=
 cQ Tryz.func101 H
def F196 (K:kQ) (h:Wa1) (xa:Option Addr) (xb:Int):Prop:=
 (exI λI0=>(ifB (Option.isNone xa) (I0 [.bool true,.bool true] h) (ifB (decide (xb < 0)) (I0 [.bool (decide (xb < 0)),.bool true] h) (nP xa λa=>lS h (Addr.add a 18) λa a b=>I0 [.bool (decide (xb < 0)),.bool (decide (xb >= (a:Int)))] h)))/\(∀(a b:Value) (c:Env) (c:Wa1),(I0 [a,b] c)->(asBool b λa=>ifB a (K (.pointer none) c) (nP xa λa=>lS c (Addr.add a 18) λa b d=>bd xb (b:Int) (Wd1 (.pointer a) λa=>lP c (Addr.add a (xb.toNat*1)) λa=>K (.pointer a) c)))))
theorem call196 {K:kQ} {h:Wa1} {xa:Option Addr} {xb:Int} (H:F196 K h xa xb):Wa4 Tryz.prog 196 #[(.pointer xa),(iQ xb)] h K:=
 cQ Tryz.func196 H
def F130 (K:kQ) (h:Wa1) (xa:Option Addr) (xb:Int) (xc:Option Addr) (xd xe:Nat):Prop:=
 (ifB (Option.isNone xa) (K (.tuple #[]) h) (stH (Array.push h (.cells #[iQ 0,iQ 0,uQ 0,uQ 0,uQ 0,uQ 0,uQ 0,uQ 0,uQ 0,uQ 0,uQ 0,uQ 0] 190)) (aQ h.size) (iQ xb) λa=>stH a ⟨h.size,1,none⟩ (iQ 0) λa=>stH a ⟨h.size,2,none⟩ (uQ 0) λa=>stH a ⟨h.size,3,none⟩ (uQ 0) λa=>stH a ⟨h.size,4,none⟩ (uQ 0) λa=>stH a ⟨h.size,5,none⟩ (uQ 0) λa=>stH a ⟨h.size,6,none⟩ (uQ 0) λa=>stH a ⟨h.size,7,none⟩ (uQ 0) λa=>stH a ⟨h.size,8,none⟩ (uQ 0) λa=>stH a ⟨h.size,9,none⟩ (uQ 0) λa=>stH a ⟨h.size,10,none⟩ (uQ 0) λa=>stH a ⟨h.size,11,none⟩ (uQ 0) λa=>WQ1 Tryz.prog #[123,123] 3 #[.slice (some (Yg4 ⟨h.size,2,none⟩ 0 10 1)) 10 10,.slice xc xd xe] a λa b=>asInt .i64 a λa=>nP xa λa=>ldH b (Addr.add a 1) λc=>Wb3 c λd e f=>Za2 b h.size λg i j k l m n o p q r s=>((Wa3 (Array.push b (.cells #[g,i,j,k,l,m,n,o,p,q,r,s] 190)) (Addr.add a 1))=(some c))/\(Wp5 Tryz.prog #[177,177] 177 #[.slice d e f,.slice (some (aQ b.size)) 1 1] (Array.push b (.cells #[g,i,j,k,l,m,n,o,p,q,r,s] 190)) λa b=>Wb3 a λa c d=>nP xa λe=>stH b (Addr.add e 1) (.slice a c d) λa=>K (.tuple #[]) a)))
theorem call130 {K:kQ} {h:Wa1} {xa:Option Addr} {xb:Int} {xc:Option Addr} {xd xe:Nat} (H:F130 K h xa xb xc xd xe):Wa4 Tryz.prog 130 #[(.pointer xa),(iQ xb),(.slice xc xd xe)] h K:=
 cQ Tryz.func130 H
def F123 (K:kQ) (h:Wa1) (xa:Option Addr) (xb:Int) (xc:Value):Prop:=
 (cf 196 #[.pointer xa,iQ xb] h λa b=>Wc8 a λa=>exI λI3=>(ifB (Option.isNone a) (I3 [.bool true] b) (Wh7 xc λc=>I3 [.bool c] b))/\(∀(b:Value) (c:Env) (c:Wa1),(I3 [b] c)->(asBool b λb=>ifB b (K (.bool false) c) (nP xa λb=>stH c (Addr.add b 19) (.bool false) λb=>exI λI11=>exM λm12=>(I11 [] b)/\(∀(b:Env) (b:Wa1),(I11 [] b)->(exI λI15=>(nP xa λc=>ldH b (Addr.add c 19) λc=>asBool c λc=>ifB (!c) (nP a λc=>lS b (Addr.add c 1) λc c d=>I15 [.bool (decide ((c:Int) > 0))] b) (I15 [.bool false] b))/\(∀(c:Value) (d:Env) (d:Wa1),(I15 [c] d)->(asBool c λc=>ifB c (Wl3 Tryz.prog xc #[.pointer xa,.pointer a] d λc c=>(I11 [] c)/\((m12 [] c) < (m12 [] b))) (nP a λa=>lS d (Addr.add a 1) λa a b=>K (.bool (decide ((a:Int) > 0))) d)))))))))
theorem call123 {K:kQ} {h:Wa1} {xa:Option Addr} {xb:Int} {xc:Value} (H:F123 K h xa xb xc):Wa4 Tryz.prog 123 #[(.pointer xa),(iQ xb),xc] h K:=
 cQ Tryz.func123 H
def F105 (K:kQ) (h:Wa1) (xa:Option Addr):Prop:=
 (exI λI0=>(ifB (Option.isNone xa) (I0 [.bool true] h) (nP xa λa=>lS h (Addr.add a 1) λa a b=>I0 [.bool ((a:Int) == 0)] h))/\(∀(a:Value) (b:Env) (b:Wa1),(I0 [a] b)->(asBool a λa=>ifB a (K (.pointer none) b) (nP xa λa=>lS b (Addr.add a 1) λa c d=>nP xa λd=>lS b (Addr.add d 1) λd d e=>((0:Int)<=(IntKind.wrap .i64 ((d:Int) - 1)))/\((((IntKind.wrap .i64 ((d:Int) - 1)):Int) < (c:Int))/\(Wd1 (.pointer a) λa=>K (.pointer (some (Addr.add a ((IntKind.wrap .i64 ((d:Int) - 1)).toNat*12)))) b))))))
theorem call105 {K:kQ} {h:Wa1} {xa:Option Addr} (H:F105 K h xa):Wa4 Tryz.prog 105 #[(.pointer xa)] h K:=
 cQ Tryz.func105 H
def F106 (K:kQ) (h:Wa1) (xa xb:Option Addr) (xc xd:Nat):Prop:=
 (exI λI0=>(ifB (Option.isNone xa) (I0 [.bool true] h) (nP xa λa=>lS h (Addr.add a 1) λa a b=>I0 [.bool ((a:Int) == 0)] h))/\(∀(a:Value) (b:Env) (b:Wa1),(I0 [a] b)->(asBool a λa=>ifB a (K (.tuple #[]) b) (nP xa λa=>lS b (Addr.add a 1) λa c c=>nP xa λd=>lS b (Addr.add d 1) λd d e=>((0:Int)<=(IntKind.wrap .i64 ((d:Int) - 1)))/\((((IntKind.wrap .i64 ((d:Int) - 1)):Int)<=(c:Int))/\(nP xa λe=>stH b (Addr.add e 1) (.slice (WM9 a 0 c 12) ((IntKind.wrap .i64 ((d:Int) - 1)).toNat - 0) (c - 0)) λa=>nP xa λb=>stH a (Addr.add b 2) (uQ 0) λa=>stH a (Addr.add b 3) (uQ 0) λa=>stH a (Addr.add b 4) (uQ 0) λa=>nP xa λb=>WQ1 Tryz.prog #[123,123] 3 #[.slice (some (Yg4 (Addr.add b 2) 0 3 1)) 3 3,.slice xb xc xd] a λa b=>asInt .i64 a λa=>K (.tuple #[]) b))))))
theorem call106 {K:kQ} {h:Wa1} {xa xb:Option Addr} {xc xd:Nat} (H:F106 K h xa xb xc xd):Wa4 Tryz.prog 106 #[(.pointer xa),(.slice xb xc xd)] h K:=
 cQ Tryz.func106 H
def F141 (K:kQ) (h:Wa1) (xa:Int):Prop:=
 (cf 206 #[iQ xa,.bool false,uQ 0] h λa b=>Wg5 a λc=>Wc2 c 0 λc=>asInt .u64 c λc=>Wg5 a λa=>Wc2 a 1 λa=>asInt .i64 a λa=>K (uQ c) b)
theorem call141 {K:kQ} {h:Wa1} {xa:Int} (H:F141 K h xa):Wa4 Tryz.prog 141 #[(iQ xa)] h K:=
 cQ Tryz.func141 H
def F71 (K:kQ) (h:Wa1) (xa:Option Addr):Prop:=
 (ifB (!(Option.isNone xa)) (nP xa λa=>lP h (Addr.add a 16) λa=>K (.bool (!(Option.isNone a))) h) (K (.bool false) h))
theorem call71 {K:kQ} {h:Wa1} {xa:Option Addr} (H:F71 K h xa):Wa4 Tryz.prog 71 #[(.pointer xa)] h K:=
 cQ Tryz.func71 H
def F147 (K:kQ) (h:Wa1) (xa:Option Addr) (xb:Int):Prop:=
 (cf 208 #[.pointer xa,.slice (some (aQ h.size)) 1 1] (Array.push h (.cells #[iQ xb] 3)) λa b=>asBool a λa=>ifB (!a) (K (uQ 0) b) (nP xa λa=>lP b (Addr.add a 15) λa=>cf 209 #[.pointer a,iQ xb] b λa b=>Wg5 a λc=>Wc2 c 0 λc=>asInt .u64 c λc=>Wg5 a λa=>Wc2 a 1 λa=>asInt .i64 a λa=>cf 210 #[.pointer xa,iQ a] b λa a=>K (uQ c) a))
theorem call147 {K:kQ} {h:Wa1} {xa:Option Addr} {xb:Int} (H:F147 K h xa xb):Wa4 Tryz.prog 147 #[(.pointer xa),(iQ xb)] h K:=
 cQ Tryz.func147 H
abbrev g79 (K:kQ) (h H1:Wa1) (xa:Option Addr):Prop:=
 (ifB (Option.isNone xa) (YS3 H1 h.size (iQ 0) (iQ 0) (iQ 0) (iQ 0) (iQ 0) (iQ 0) (iQ 0) (iQ 0) (iQ 0) (iQ 0) (iQ 0) (iQ 0) (iQ 0) (iQ 0) (iQ 0) λa=>Wz6 a h.size λb c d e f g i j k l m n o p q=>K (.agg #[b,c,d,e,f,g,i,j,k,l,m,n,o,p,q]) a) (nP xa λa=>Y51 H1 a λa b c d e f g i j k l m n o p=>YS3 H1 h.size a b c d e f g i j k l m n o p λa=>Wz6 a h.size λb c d e f g i j k l m n o p q=>K (.agg #[b,c,d,e,f,g,i,j,k,l,m,n,o,p,q]) a))
def F79 (K:kQ) (h:Wa1) (xa:Option Addr):Prop:=
 (g79 K h (Array.push h (.cells Wp0 117)) xa)
theorem call79 {K:kQ} {h:Wa1} {xa:Option Addr} (H:F79 K h xa):Wa4 Tryz.prog 79 #[(.pointer xa)] h K:=
 cQ Tryz.func79 H
def F212 (K:kQ) (h:Wa1) (xa:Option Addr) (xb xc:Int):Prop:=
 (cf 208 #[.pointer xa,.slice (some (aQ h.size)) 1 1] (Array.push h (.cells #[iQ xb] 3)) λa b=>asBool a λa=>ifB a (nP xa λa=>lP b (Addr.add a 15) λa=>cf 140 #[.pointer a,iQ xb,uQ xc] b λa c=>asInt .i64 a λa=>cf 210 #[.pointer xa,iQ a] c λa a=>K (.tuple #[]) a) (K (.tuple #[]) b))
theorem call212 {K:kQ} {h:Wa1} {xa:Option Addr} {xb xc:Int} (H:F212 K h xa xb xc):Wa4 Tryz.prog 212 #[(.pointer xa),(iQ xb),(uQ xc)] h K:=
 cQ Tryz.func212 H
def F214 (K:kQ) (h:Wa1) (xa:Option Addr):Prop:=
 (ifB (Option.isNone xa) (K (.pointer none) h) (nP xa λa=>lP h (Addr.add a 17) λa=>K (.pointer a) h))
theorem call214 {K:kQ} {h:Wa1} {xa:Option Addr} (H:F214 K h xa):Wa4 Tryz.prog 214 #[(.pointer xa)] h K:=
 cQ Tryz.func214 H
def F219 (K:kQ) (h:Wa1) (xa:Option Addr) (xb xc xd:Int):Prop:=
 (cf 208 #[.pointer xa,.slice (some (aQ h.size)) 1 1] (Array.push h (.cells #[iQ xb] 3)) λa b=>asBool a λa=>ifB (!a) (K (.bool false) b) (nP xa λa=>lP b (Addr.add a 15) λa=>cf 281 #[.pointer a,iQ xb,uQ xc,uQ xd] b λa b=>Wg5 a λc=>Wc2 c 0 λc=>asBool c λc=>Wg5 a λa=>Wc2 a 1 λa=>asInt .i64 a λa=>cf 210 #[.pointer xa,iQ a] b λa a=>K (.bool c) a))
theorem call219 {K:kQ} {h:Wa1} {xa:Option Addr} {xb xc xd:Int} (H:F219 K h xa xb xc xd):Wa4 Tryz.prog 219 #[(.pointer xa),(iQ xb),(uQ xc),(uQ xd)] h K:=
 cQ Tryz.func219 H
def F208 (K:kQ) (h:Wa1) (xa xb:Option Addr) (xc xd:Nat):Prop:=
 (ifB (Option.isNone xa) (K (.bool false) h) (nP xa λa=>stH h (Addr.add a 19) (.bool true) λa=>exI λI2=>exM λm3=>(I2 [.tuple #[],.tuple #[],.tuple #[],.tuple #[],iQ 0,.tuple #[]] a)/\(∀(a b c d e f:Value) (g:Env) (g:Wa1),(I2 [a,b,c,d,e,f] g)->(asInt .i64 e λi=>ifB (decide (i < ((xc:Nat):Int))) (asI e λi=>bd i ((xc:Nat):Int) (Wd1 (.pointer xb) λj=>lI .i64 g (Addr.add j (i.toNat*1)) λi=>nP xa λj=>Y51 g j λj k l m n o p q r s t u v w x=>cf 80 #[.agg #[j,k,l,m,n,o,p,q,r,s,t,u,v,w,x],iQ i] g λj k=>Wg5 j λl=>Wc2 l 0 λl=>asInt .i64 l λl=>Wg5 j λm=>Wc2 m 1 λm=>asInt .i64 m λm=>Wg5 j λn=>Wc2 n 2 λn=>asInt .i64 n λn=>exI λI44=>(ifB (l == 3) (nP xa λo=>lP k (Addr.add o 16) λo=>I44 [.bool (!(Option.isNone o))] k) (I44 [.bool false] k))/\(∀(k:Value) (o:Env) (o:Wa1),(I44 [k] o)->(asBool k λk=>ifB k (nP xa λk=>lP o (Addr.add k 16) λk=>cf 279 #[.pointer k,iQ m] o λk p=>asBool k λk=>asInt .i64 e λk=>(I2 [iQ i,iQ l,iQ m,iQ n,iQ (IntKind.wrap .i64 (k+1)),j] p)/\((m3 [iQ i,iQ l,iQ m,iQ n,iQ (IntKind.wrap .i64 (k+1)),j] p) < (m3 [a,b,c,d,e,f] g))) (asInt .i64 e λk=>(I2 [iQ i,iQ l,iQ m,iQ n,iQ (IntKind.wrap .i64 (k+1)),j] o)/\((m3 [iQ i,iQ l,iQ m,iQ n,iQ (IntKind.wrap .i64 (k+1)),j] o) < (m3 [a,b,c,d,e,f] g))))))) (K (.bool true) g)))))
theorem call208 {K:kQ} {h:Wa1} {xa xb:Option Addr} {xc xd:Nat} (H:F208 K h xa xb xc xd):Wa4 Tryz.prog 208 #[(.pointer xa),(.slice xb xc xd)] h K:=
 cQ Tryz.func208 H
def F210 (K:kQ) (h:Wa1) (xa:Option Addr) (xb:Int):Prop:=
 (nP xa λa=>ldH h (Addr.add a 20) λa=>asBool a λa=>ifB a (nP xa λa=>stH h (Addr.add a 20) (.bool true) λa=>K (.tuple #[]) a) (nP xa λa=>stH h (Addr.add a 20) (.bool (xb != 0)) λa=>K (.tuple #[]) a))
theorem call210 {K:kQ} {h:Wa1} {xa:Option Addr} {xb:Int} (H:F210 K h xa xb):Wa4 Tryz.prog 210 #[(.pointer xa),(iQ xb)] h K:=
 cQ Tryz.func210 H
def F227 (K:kQ) (h:Wa1) (xa:Option Addr) (xb xc xd xe xf:Int):Prop:=
 (cf 208 #[.pointer xa,.slice (some (aQ h.size)) 2 2] (Array.push h (.cells #[iQ xb,iQ xe] 3)) λa b=>asBool a λa=>ifB (!a) (K (.bool false) b) (nP xa λa=>lP b (Addr.add a 15) λa=>cf 284 #[.pointer a,iQ xb,uQ xc,uQ xd,iQ xe,uQ xf] b λa b=>Wg5 a λc=>Wc2 c 0 λc=>asBool c λc=>Wg5 a λa=>Wc2 a 1 λa=>asInt .i64 a λa=>cf 210 #[.pointer xa,iQ a] b λa a=>K (.bool c) a))
theorem call227 {K:kQ} {h:Wa1} {xa:Option Addr} {xb xc xd xe xf:Int} (H:F227 K h xa xb xc xd xe xf):Wa4 Tryz.prog 227 #[(.pointer xa),(iQ xb),(uQ xc),(uQ xd),(iQ xe),(uQ xf)] h K:=
 cQ Tryz.func227 H
def F229 (K:kQ) (h:Wa1) (xa:Option Addr) (xb xc xd xe xf xg:Int):Prop:=
 (cf 208 #[.pointer xa,.slice (some (aQ h.size)) 2 2] (Array.push h (.cells #[iQ xb,iQ xe] 3)) λa b=>asBool a λa=>ifB (!a) (K (.bool false) b) (nP xa λa=>lP b (Addr.add a 15) λa=>cf 286 #[.pointer a,iQ xb,uQ xc,uQ xd,iQ xe,uQ xf,uQ xg] b λa b=>Wg5 a λc=>Wc2 c 0 λc=>asBool c λc=>Wg5 a λa=>Wc2 a 1 λa=>asInt .i64 a λa=>cf 210 #[.pointer xa,iQ a] b λa a=>K (.bool c) a))
theorem call229 {K:kQ} {h:Wa1} {xa:Option Addr} {xb xc xd xe xf xg:Int} (H:F229 K h xa xb xc xd xe xf xg):Wa4 Tryz.prog 229 #[(.pointer xa),(iQ xb),(uQ xc),(uQ xd),(iQ xe),(uQ xf),(uQ xg)] h K:=
 cQ Tryz.func229 H
def F234 (K:kQ) (h:Wa1) (xa:Option Addr) (xb:Int):Prop:=
 (cf 71 #[.pointer xa] h λa b=>asBool a λa=>ifB a (nP xa λa=>lP b (Addr.add a 16) λa=>cf 288 #[.pointer a,iQ xb] b λa c=>asBool a λa=>K (.tuple #[]) c) (K (.tuple #[]) b))
theorem call234 {K:kQ} {h:Wa1} {xa:Option Addr} {xb:Int} (H:F234 K h xa xb):Wa4 Tryz.prog 234 #[(.pointer xa),(iQ xb)] h K:=
 cQ Tryz.func234 H
def F294 (K:kQ) (h:Wa1) (xa:Option Addr) (xb:Int):Prop:=
 (cf 71 #[.pointer xa] h λa b=>asBool a λa=>ifB a (nP xa λa=>lP b (Addr.add a 16) λa=>cf 306 #[.pointer a,iQ xb] b λa c=>asBool a λa=>K (.tuple #[]) c) (K (.tuple #[]) b))
theorem call294 {K:kQ} {h:Wa1} {xa:Option Addr} {xb:Int} (H:F294 K h xa xb):Wa4 Tryz.prog 294 #[(.pointer xa),(iQ xb)] h K:=
 cQ Tryz.func294 H
def F295 (K:kQ) (h:Wa1) (xa:Option Addr) (xb:Int):Prop:=
 (cf 71 #[.pointer xa] h λa b=>asBool a λa=>ifB a (nP xa λa=>lP b (Addr.add a 16) λa=>cf 307 #[.pointer a,iQ xb] b λa c=>asBool a λa=>K (.tuple #[]) c) (K (.tuple #[]) b))
theorem call295 {K:kQ} {h:Wa1} {xa:Option Addr} {xb:Int} (H:F295 K h xa xb):Wa4 Tryz.prog 295 #[(.pointer xa),(iQ xb)] h K:=
 cQ Tryz.func295 H
end
section
open Mod
abbrev mP (M:Nat):Value:=.pointer (some (aQ M))
def ghV (g:Option Gh) (q:Nat):Value:=.pointer (if g.isSome then some (aQ q) else none)
abbrev Yd3 (tv:Value) (q gq fq:Nat) (s:Mac):List Value:=[iQ s.p.c.algo,iQ s.p.c.threads,iQ s.p.c.nodes,iQ s.p.c.level,iQ s.p.c.batch,iQ s.p.c.probes,iQ s.p.c.scan,iQ s.p.slots,iQ s.p.width,iQ s.p.sent,iQ s.p.hazards,iQ s.p.links,iQ s.p.nodes,iQ s.p.tree,iQ s.p.size,
 mP q,ghV s.g gq,mP fq,tv,.bool s.acted,.bool s.bad]
def Wj8 (M:Nat) (tv:Value) (s:Mac):Hp:=ex λq=>ex λgq=>ex λfq=>pr (PlB s.p) (pt M (.cells (Yd3 tv q gq fq s).toArray 122)*(Wm4 q s.mm*(ghS s.g gq*fdS fq s.b s.used)))
theorem We1 {h:Wa1} {M:Nat} {tv:Value} {s:Mac} {R:Hp}:Sat h (Wj8 M tv s*R)↔∃q gq fq,PlB s.p/\Sat h (pt M (.cells (Yd3 tv q gq fq s).toArray 122)*(Wm4 q s.mm*(ghS s.g gq*(fdS fq s.b s.used*R)))):=by
 unfold Wj8
 simp only [Sat.ex,Sat.pr,Wc4]
theorem Yu9 {h:Wa1} {M:Nat} {tv:Value} {s:Mac} {R:Hp} (H:Sat h (Wj8 M tv s*R)):PlB s.p:=by obtain ⟨_,_,_,x,_⟩:=We1.1 H;exact x
theorem Wj3 {K:kQ} {h:Wa1} {M:Nat} {tv:Value} {s:Mac} {R:Hp} {e:Int} (H:Sat h (Wj8 M tv s*R)) (k:∀h',Sat h' (Wj8 M tv { s with bad:=s.bad || decide (e≠0) }*R)->K (.tuple #[]) h') :
  Wa4 Tryz.prog 210 #[mP M,iQ e] h K:=by
 refine call210 ?_
 unfold F210 nP
 obtain ⟨q,gq,fq,B,H0⟩:=We1.1 H
 simp only [Wc5,Wb0,Wc1]
 refine H0.ld rfl ?_
 simp only [Wa6]
 have fin:∀(bb:Bool),bb=(s.bad || decide (e≠0))->stH h ⟨M,0+20,none⟩ (.bool bb) (λh'=>K (.tuple #[]) h'):=by
  intro bb hb
  refine H0.st rfl trivial λh' H'=>k h' (We1.2 ⟨q,gq,fq,B,?_⟩)
  rw [<- hb];exact H'
 refine Wb7 (λhb=>fin true (by rw [hb];rfl)) (λhb=>fin (e != 0) (by
  rw [hb,Bool.false_or,Bool.eq_iff_iff,bne_iff_ne,decide_eq_true_iff]))
theorem WI2 (s:Mac) (a:Int):(s.touch a).acted=true:=by unfold Mac.touch;split <;> rfl
theorem W53 (s:Mac) (l:List Int) (h:s.acted=true):(l.foldl Mac.touch s).acted=true:=by
 induction l generalizing s with
 | nil=>exact h
 | cons a l ih=>exact ih _ (WI2 s a)
theorem WY1 (s:Mac) (a:Int):({ s with acted:=true }:Mac).touch a=s.touch a:=by
 unfold Mac.touch
 cases h:s.p.within a <;> simp [h]
theorem Wo9 (s:Mac) (a:Int):(s.touch a).mm=s.mm/\(s.touch a).bad=s.bad/\(s.touch a).b=s.b/\(s.touch a).used=s.used/\(s.touch a).th=s.th:=by unfold Mac.touch;split <;> exact ⟨rfl,rfl,rfl,rfl,rfl⟩
theorem Yv0 {p:Pl} (B:PlB p) {x n:Int} (hx:iN x) (hw:p.within x=some n):iN n:=by
 have b1:=B.wi
 have b3:=B.tr
 have b4:=B.nd
 have b5:=B.li
 unfold Pl.within at hw
 split at hw
 ·rename_i hh
  cases hw
  have hd0:0<=(x - p.nodes) / p.width:=Int.ediv_nonneg (by omega) (by omega)
  have hd1:(x - p.nodes) / p.width<=x - p.nodes:=Int.ediv_le_self _ (by omega)
  exact ⟨by omega,by omega⟩
 ·cases hw
theorem WO6 {K:kQ} {h:Wa1} {M N:Nat} {tv:Value} {s:Mac} {R:Hp} {ty:TypeId} {l:Nat} {xs:List Int} (H:Sat h (Wj8 M tv s*(pt N (.cells (xs.map iv).toArray ty)*R))) (hl:xs.length=l) (hl2:l<=2) (hx:∀x ∈ xs,iN x)
  (k:∀h',Sat h' (Wj8 M tv (xs.foldl Mac.touch { s with acted:=true })*R)->K (.bool true) h') :
  Wa4 Tryz.prog 208 #[mP M,.slice (some (aQ N)) l l] h K:=by
 refine call208 ?_
 unfold F208 cf bd lP lI nP Y51
 obtain ⟨q,gq,fq,B,H0⟩:=We1.1 H
 simp only [Option.isNone_some,Wc0,Wc5,Wb0,Wc1]
 refine H0.st rfl trivial λh1 H01=>?_
 have H1:Sat h1 (Wj8 M tv { s with acted:=true }*(pt N (.cells (xs.map iv).toArray ty)*R)):=We1.2 ⟨q,gq,fq,B,H01⟩
 generalize hs0:({ s with acted:=true }:Mac)=s0 at *
 have hac:s0.acted=true:=by rw [<- hs0]
 refine ⟨λvs h'=>∃w1 w2 w3 w4 w5,∃i:Nat,vs = [w1,w2,w3,w4,iv i,w5]/\i<=l/\Sat h' (Wj8 M tv ((xs.take i).foldl Mac.touch s0)*(pt N (.cells (xs.map iv).toArray ty)*R)),λvs _=>(match vs with | [_,_,_,_,.int _ n,_]=>l - n.toNat | _=>0),⟨_,_,_,_,_,0,rfl,Nat.zero_le _,H1⟩,?_⟩
 rintro v4 v5 v6 v7 v8 v9 g10 h11 ⟨w1,w2,w3,w4,w5,i,e,hi,H11⟩
 cases e
 simp only [Wa2,Ww1]
 refine Wa7 (λhlt=>?_) (λhge=>?_)
 rotate_left
 ·rw [List.take_of_length_le (by omega)] at H11
  exact k h11 H11.drop2
 have hi':i < xs.length:=by omega
 have htk:(xs.take (i+1)).foldl Mac.touch s0=((xs.take i).foldl Mac.touch s0).touch xs[i]:=by rw [List.take_succ_eq_append_getElem hi',List.foldl_append];rfl
 have hxi:=hx _ (List.getElem_mem hi')
 have hact:=W53 s0 (xs.take i) hac
 have hcell:Wa3 h11 ⟨N,i,none⟩=some (iv xs[i]):=by rw [Wb4 H11.at2];simp [hi']
 generalize (xs.take i).foldl Mac.touch s0=t at *
 generalize xs[i]=x at *
 refine ⟨by omega,hlt,?_⟩
 simp only [Wb0,Int.toNat_natCast,Nat.mul_one]
 rw [show 0+i=i by omega]
 refine Wb5 hcell ?_
 simp only [Wa2]
 obtain ⟨q,gq,fq,B,H12⟩:=We1.1 H11
 have O:=H12.at
 refine ldR O rfl (ldR O rfl (ldR O rfl (ldR O rfl (ldR O rfl (ldR O rfl (ldR O rfl (ldR O rfl (ldR O rfl (ldR O rfl (ldR O rfl (ldR O rfl (ldR O rfl (ldR O rfl (ldR O rfl ?_))))))))))))))
 have back:∀ {v1 v2 v3 v4 v5:Value} (h2:Wa1),Sat h2 (Wj8 M tv (t.touch x)*(pt N (.cells (xs.map iv).toArray ty)*R))->(∃w1 w2 w3 w4 w5,∃i2:Nat,[v1,v2,v3,v4,Value.int .i64 (IntKind.wrap .i64 ((i:Int)+1)),v5] = [w1,w2,w3,w4,iv i2,w5]/\i2<=l/\Sat h2 (Wj8 M tv ((xs.take i2).foldl Mac.touch s0)*(pt N (.cells (xs.map iv).toArray ty)*R))):=by
  intro v1 v2 v3 v4 v5 h2 H2
  rw [Wf1 (by omega)]
  exact ⟨_,_,_,_,_,i+1,rfl,by omega,by rw [htk];exact H2⟩
 have dec:(l - (IntKind.wrap .i64 ((i:Int)+1)).toNat) < l - (i:Int).toNat:=by
  rw [Wf1 (by omega)];omega
 refine Wa0 (WX6 B hxi (λn y h34 hw o34=>?_) (λqk n y h34 hw hq o34=>?_))
 ·simp only [We8]
  refine Wc7 rfl ?_
  simp only [Wa2]
  refine Wc7 rfl ?_
  simp only [Wa2]
  refine Wc7 rfl ?_
  simp only [Wa2]
  have H34:=H12.old o34
  have hnB:=Yv0 B hxi hw
  refine ⟨λvs h'=>vs = [.bool t.g.isSome]/\h' = h34,?_,?_⟩
  ·rw [show ((3:Int) == 3)=true from rfl]
   simp only [Wd5]
   refine H34.ld rfl ?_
   unfold ghV
   simp only [We7]
   refine ⟨?_,by trivial⟩
   cases t.g <;> rfl
  rintro v48 g49 h50 ⟨e,rfl⟩
  cases e
  simp only [Wa6]
  cases hg:t.g with
  | none=>
   simp only [Option.isSome_none,Wc0]
   have et:t.touch x=t:=by unfold Mac.touch;rw [hw];cases t;simp_all
   exact ⟨back h50 (by rw [et];exact We1.2 ⟨q,gq,fq,B,H34⟩),dec⟩
  | some g=>
   simp only [Option.isSome_some,Wd5]
   refine H34.ld rfl ?_
   unfold ghV
   simp only [hg,Option.isSome_some,if_true,We7]
   rw [hg] at H34
   rw [YD5] at H34
   refine Wa0 (WX9 H34 hnB λbb h56 G56=>?_)
   simp only [Wa6]
   have et:t.touch x = { t with g:=some (g.touch n) }:=by unfold Mac.touch;rw [hw];cases t;simp_all
   refine ⟨back h56 ?_,dec⟩
   rw [et]
   refine We1.2 ⟨q,gq,fq,B,?_⟩
   rw [YD5]
   have eC:Yd3 tv q gq fq ({ t with g:=some (g.touch n) }:Mac)=Yd3 tv q gq fq t:=by
    unfold Yd3 ghV
    simp only [hg,Option.isSome_some]
   rw [eC]
   exact G56
 ·simp only [We8]
  refine Wc7 rfl ?_
  simp only [Wa2]
  refine Wc7 rfl ?_
  simp only [Wa2]
  refine Wc7 rfl ?_
  simp only [Wa2]
  have H34:=H12.old o34
  refine ⟨λvs h'=>vs = [.bool false]/\h' = h34,?_,?_⟩
  ·rw [show (qk == 3)=false by rw [beq_eq_false_iff_ne];exact hq]
   exact ⟨rfl,by trivial⟩
  rintro v48 g49 h50 ⟨e,rfl⟩
  cases e
  simp only [Wa6,Wc0]
  have et:t.touch x=t:=by unfold Mac.touch;rw [hw];cases t;simp_all
  exact ⟨back h50 (by rw [et];exact We1.2 ⟨q,gq,fq,B,H34⟩),dec⟩
theorem Ww5 {K:kQ} {h:Wa1} {M:Nat} {tv:Value} {s:Mac} {R:Hp} {a:Int} (H:Sat h (Wj8 M tv s*R)) (ha:iN a)
  (k:∀h',Sat h' (Wj8 M tv (s.touch a)*R)->K (.bool true) h') :
  Wa4 Tryz.prog 208 #[mP M,.slice (some (aQ h.size)) 1 1] (h.push (.cells #[iQ a] 3)) K:=by
 have H1:=H.push (.cells ([a].map iv).toArray 3)
 rw [Wb8] at H1
 refine WO6 (xs:=[a]) H1 rfl (by omega) (λx hx=>by rw [List.mem_singleton.1 hx];exact ha) λh' H'=>?_
 rw [List.foldl_cons,List.foldl_nil,WY1] at H'
 exact k h' H'
theorem WI3 {K:kQ} {h:Wa1} {M:Nat} {tv:Value} {s:Mac} {R:Hp} {a b:Int} (H:Sat h (Wj8 M tv s*R)) (ha:iN a) (hb:iN b)
  (k:∀h',Sat h' (Wj8 M tv ((s.touch a).touch b)*R)->K (.bool true) h') :
  Wa4 Tryz.prog 208 #[mP M,.slice (some (aQ h.size)) 2 2] (h.push (.cells #[iQ a,iQ b] 3)) K:=by
 have H1:=H.push (.cells ([a,b].map iv).toArray 3)
 rw [Wb8] at H1
 refine WO6 (xs:=[a,b]) H1 rfl (by omega) (λx hx=>?_) λh' H'=>?_
 ·simp only [List.mem_cons,List.not_mem_nil,or_false] at hx
  rcases hx with rfl | rfl
  ·exact ha
  ·exact hb
 ·rw [List.foldl_cons,List.foldl_cons,List.foldl_nil,WY1] at H'
  exact k h' H'
theorem Wu7 {h:Wa1} {M:Nat} {tv:Value} {s:Mac} {R:Hp} (H:Sat h (Wj8 M tv s*R)):∃q R',Wa3 h ⟨M,15,none⟩=some (mP q)/\Sat h (Wm4 q s.mm*R')/\∀h' m',Sat h' (Wm4 q m' * R')->Sat h' (Wj8 M tv (s.setM m')*R):=by
 obtain ⟨q,gq,fq,B,H0⟩:=We1.1 H
 refine ⟨q,_,Wd3 H0.at rfl,Wb8 _ _ _ ▸ H0,λh' m' H'=>We1.2 ⟨q,gq,fq,B,?_⟩⟩
 rw [Wb8] at H'
 exact H'
theorem WO7 {K:kQ} {h:Wa1} {M:Nat} {tv:Value} {s:Mac} {R:Hp} {a:Int} (H:Sat h (Wj8 M tv s*R)) (ha:iN a) (hs:s.mm.st < 1099511627776)
  (k:∀h',Sat h' (Wj8 M tv (s.load a).2*R)->U (s.load a).1->K (uQ (s.load a).1) h') :
  Wa4 Tryz.prog 147 #[mP M,iQ a] h K:=by
 refine call147 ?_
 unfold F147 cf lP nP
 refine Wa0 (Ww5 H ha λh1 H1=>?_)
 simp only [Wa6,Bool.not_true,Wc0,Wc5,Wb0,Wc1]
 obtain ⟨q,R',e0,HM,re⟩:=Wu7 H1
 refine Wb5 e0 ?_
 simp only [We7]
 unfold Mac.load at k
 rw [<- (Wo9 s a).1] at hs
 have BU:=(Y06 HM).get a
 generalize s.touch a=t at *
 refine Wa0 (Yj7 HM hs (λhok h7 H7=>?_) (λhok h7 H7=>?_))
 ·simp only [We8]
  refine Wc7 rfl ?_
  simp only [Wa2]
  refine Wc7 rfl ?_
  simp only [Wa2]
  refine Wa0 (Wj3 (re h7 _ H7) λh15 H15=>?_)
  simp only [hok,if_true] at k
  exact k h15 (by simpa using H15) BU
 ·simp only [We8]
  refine Wc7 rfl ?_
  simp only [Wa2]
  refine Wc7 rfl ?_
  simp only [Wa2]
  refine Wa0 (Wj3 (re h7 _ H7) λh15 H15=>?_)
  simp only [hok,Bool.false_eq_true,if_false] at k
  exact k h15 (by simpa [Mac.fail,Mac.setM] using H15) ⟨by omega,by omega⟩
theorem W54 {K:kQ} {h:Wa1} {M:Nat} {tv:Value} {s:Mac} {R:Hp} {a v:Int} (H:Sat h (Wj8 M tv s*R)) (ha:iN a) (hv:U v) (hs:s.mm.st < 1099511627776)
  (k:∀h',Sat h' (Wj8 M tv (s.store a v)*R)->K (.tuple #[]) h') :
  Wa4 Tryz.prog 212 #[mP M,iQ a,uQ v] h K:=by
 refine call212 ?_
 unfold F212 cf lP nP
 refine Wa0 (Ww5 H ha λh1 H1=>?_)
 simp only [Wa6,Wd5,Wc5,Wb0,Wc1]
 obtain ⟨q,R',e0,HM,re⟩:=Wu7 H1
 refine Wb5 e0 ?_
 simp only [We7]
 unfold Mac.store at k
 rw [<- (Wo9 s a).1] at hs
 generalize s.touch a=t at *
 refine Wa0 (WI1 HM hv hs (λhok h7 H7=>?_) (λhok h7 H7=>?_))
 ·simp only [Wa2]
  refine Wa0 (Wj3 (re h7 _ H7) λh15 H15=>?_)
  simp only [hok,if_true] at k
  exact k h15 (by simpa using H15)
 ·simp only [Wa2]
  refine Wa0 (Wj3 (re h7 _ H7) λh15 H15=>?_)
  simp only [hok,Bool.false_eq_true,if_false] at k
  exact k h15 (by simpa [Mac.fail,Mac.setM] using H15)
theorem Yv1 {K:kQ} {h:Wa1} {M:Nat} {tv:Value} {s:Mac} {R:Hp} {a o n:Int} (H:Sat h (Wj8 M tv s*R)) (ha:iN a) (hn:U n) (hs:s.mm.st < 1099511627776)
  (k:∀h',Sat h' (Wj8 M tv (s.cas a o n).2*R)->K (.bool (s.cas a o n).1) h') :
  Wa4 Tryz.prog 219 #[mP M,iQ a,uQ o,uQ n] h K:=by
 refine call219 ?_
 unfold F219 cf lP nP
 refine Wa0 (Ww5 H ha λh1 H1=>?_)
 simp only [Wa6,Bool.not_true,Wc0,Wc5,Wb0,Wc1]
 obtain ⟨q,R',e0,HM,re⟩:=Wu7 H1
 refine Wb5 e0 ?_
 simp only [We7]
 unfold Mac.cas at k
 rw [<- (Wo9 s a).1] at hs
 generalize s.touch a=t at *
 refine Wa0 (Yu7 HM hn hs (λhok h7 H7=>?_) (λhok h7 H7=>?_))
 ·simp only [We8]
  refine Wc7 rfl ?_
  simp only [Wa6]
  refine Wc7 rfl ?_
  simp only [Wa2]
  refine Wa0 (Wj3 (re h7 _ H7) λh15 H15=>?_)
  simp only [hok,if_true] at k
  exact k h15 (by simpa using H15)
 ·simp only [We8]
  refine Wc7 rfl ?_
  simp only [Wa6]
  refine Wc7 rfl ?_
  simp only [Wa2]
  refine Wa0 (Wj3 (re h7 _ H7) λh15 H15=>?_)
  simp only [hok,Bool.false_eq_true,if_false] at k
  exact k h15 (by simpa [Mac.fail,Mac.setM] using H15)
theorem Yk2 {K:kQ} {h:Wa1} {M:Nat} {tv:Value} {s:Mac} {R:Hp} {a o n a2 o2:Int} (H:Sat h (Wj8 M tv s*R)) (ha:iN a) (ha2:iN a2) (hn:U n) (hs:s.mm.st < 1099511627776)
  (k:∀h',Sat h' (Wj8 M tv (s.dcss a o n a2 o2).2*R)->K (.bool (s.dcss a o n a2 o2).1) h') :
  Wa4 Tryz.prog 227 #[mP M,iQ a,uQ o,uQ n,iQ a2,uQ o2] h K:=by
 refine call227 ?_
 unfold F227 cf lP nP
 refine Wa0 (WI3 H ha ha2 λh1 H1=>?_)
 simp only [Wa6,Bool.not_true,Wc0,Wc5,Wb0,Wc1]
 obtain ⟨q,R',e0,HM,re⟩:=Wu7 H1
 refine Wb5 e0 ?_
 simp only [We7]
 unfold Mac.dcss at k
 rw [<- (Wo9 s a).1,<- (Wo9 (s.touch a) a2).1] at hs
 generalize (s.touch a).touch a2=t at *
 refine Wa0 (Yj8 HM hn hs (λhok hok2 h7 H7=>?_) (λhok h7 H7=>?_))
 ·simp only [We8]
  refine Wc7 rfl ?_
  simp only [Wa6]
  refine Wc7 rfl ?_
  simp only [Wa2]
  refine Wa0 (Wj3 (re h7 _ H7) λh15 H15=>?_)
  simp only [hok,hok2,and_self,if_true] at k
  exact k h15 (by simpa using H15)
 ·simp only [We8]
  refine Wc7 rfl ?_
  simp only [Wa6]
  refine Wc7 rfl ?_
  simp only [Wa2]
  refine Wa0 (Wj3 (re h7 _ H7) λh15 H15=>?_)
  rw [if_neg hok] at k
  exact k h15 (by simpa [Mac.fail,Mac.setM] using H15)
theorem Yk3 {K:kQ} {h:Wa1} {M:Nat} {tv:Value} {s:Mac} {R:Hp} {a o n a2 o2 n2:Int} (H:Sat h (Wj8 M tv s*R)) (ha:iN a) (ha2:iN a2) (hn:U n) (hn2:U n2) (hs:s.mm.st < 1099511627776)
  (k:∀h',Sat h' (Wj8 M tv (s.dcas a o n a2 o2 n2).2*R)->K (.bool (s.dcas a o n a2 o2 n2).1) h') :
  Wa4 Tryz.prog 229 #[mP M,iQ a,uQ o,uQ n,iQ a2,uQ o2,uQ n2] h K:=by
 refine call229 ?_
 unfold F229 cf lP nP
 refine Wa0 (WI3 H ha ha2 λh1 H1=>?_)
 simp only [Wa6,Bool.not_true,Wc0,Wc5,Wb0,Wc1]
 obtain ⟨q,R',e0,HM,re⟩:=Wu7 H1
 refine Wb5 e0 ?_
 simp only [We7]
 unfold Mac.dcas at k
 rw [<- (Wo9 s a).1,<- (Wo9 (s.touch a) a2).1] at hs
 generalize (s.touch a).touch a2=t at *
 refine Wa0 (Yj9 HM hn hn2 hs (λhok hok2 hne h7 H7=>?_) (λhok h7 H7=>?_))
 ·simp only [We8]
  refine Wc7 rfl ?_
  simp only [Wa6]
  refine Wc7 rfl ?_
  simp only [Wa2]
  refine Wa0 (Wj3 (re h7 _ H7) λh15 H15=>?_)
  rw [if_pos ⟨hok,hok2,hne⟩] at k
  exact k h15 (by simpa using H15)
 ·simp only [We8]
  refine Wc7 rfl ?_
  simp only [Wa6]
  refine Wc7 rfl ?_
  simp only [Wa2]
  refine Wa0 (Wj3 (re h7 _ H7) λh15 H15=>?_)
  rw [if_neg hok] at k
  exact k h15 (by simpa [Mac.fail,Mac.setM] using H15)
end
section
open Mod
theorem Wt3 {K:kQ} {h:Wa1} {M:Nat} {tv:Value} {s:Mac} {R:Hp} (H:Sat h (Wj8 M tv s*R)) (k:K (.bool s.g.isSome) h):Wa4 Tryz.prog 71 #[mP M] h K:=by
 refine call71 ?_
 unfold F71 lP nP
 obtain ⟨q,gq,fq,B,H0⟩:=We1.1 H
 simp only [Option.isNone_some,Bool.not_false,Wd5,Wc5,Wb0,Wc1]
 refine H0.ld rfl ?_
 unfold ghV
 simp only [We7]
 cases hg:s.g with
 | none=>rw [hg] at k;exact k
 | some g=>rw [hg] at k;exact k
theorem W55 {h:Wa1} {M:Nat} {tv:Value} {s:Mac} {R:Hp} {g:Gh} (H:Sat h (Wj8 M tv s*R)) (hg:s.g=some g):∃q R',Wa3 h ⟨M,16,none⟩=some (mP q)/\Sat h (ghS (some g) q*R')/\∀h' g',Sat h' (ghS (some g') q*R')->Sat h' (Wj8 M tv { s with g:=some g' }*R):=by
 obtain ⟨q,gq,fq,B,H0⟩:=We1.1 H
 refine ⟨gq,_,?_,by rw [YD5,hg] at H0;exact H0,λh' g' H'=>We1.2 ⟨q,gq,fq,B,?_⟩⟩
 ·have:=Wd3 (i:=16) H0.at rfl
  unfold ghV at this
  simpa [hg] using this
 ·rw [YD5]
  have eC:Yd3 tv q gq fq ({ s with g:=some g' }:Mac)=Yd3 tv q gq fq s:=by unfold Yd3 ghV;simp only [hg,Option.isSome_some]
  rw [eC]
  exact H'
theorem Yv2 {K:kQ} {h:Wa1} {M:Nat} {tv:Value} {s:Mac} {R:Hp} {i:Int} (H:Sat h (Wj8 M tv s*R)) (hi:iN i) (k:∀h',Sat h' (Wj8 M tv (s.gh λg=>g.turn i 0 1 1)*R)->K (.tuple #[]) h') :
  Wa4 Tryz.prog 294 #[mP M,iQ i] h K:=by
 refine call294 ?_
 unfold F294 cf lP nP
 refine Wa0 (Wt3 H ?_)
 simp only [Wa6]
 unfold Mac.gh at k
 cases hg:s.g with
 | none=>
  simp only [Option.isSome_none,Wc0]
  have e:({ s with g:=none }:Mac)=s:=by cases s;simp_all
  exact k h (by simpa [hg,e] using H)
 | some g=>
  obtain ⟨q,R',e0,HG,re⟩:=W55 H hg
  simp only [Option.isSome_some,Wd5,Wc5,Wb0,Wc1]
  refine Wb5 e0 ?_
  simp only [We7]
  refine Wa0 (WY0 HG hi λbb h7 G7=>?_)
  simp only [Wa6]
  exact k h7 (by simpa [hg] using re h7 _ G7)
theorem Yv3 {K:kQ} {h:Wa1} {M:Nat} {tv:Value} {s:Mac} {R:Hp} {i:Int} (H:Sat h (Wj8 M tv s*R)) (hi:iN i) (k:∀h',Sat h' (Wj8 M tv (s.gh λg=>g.turn i 1 2 2)*R)->K (.tuple #[]) h') :
  Wa4 Tryz.prog 234 #[mP M,iQ i] h K:=by
 refine call234 ?_
 unfold F234 cf lP nP
 refine Wa0 (Wt3 H ?_)
 simp only [Wa6]
 unfold Mac.gh at k
 cases hg:s.g with
 | none=>
  simp only [Option.isSome_none,Wc0]
  have e:({ s with g:=none }:Mac)=s:=by cases s;simp_all
  exact k h (by simpa [hg,e] using H)
 | some g=>
  obtain ⟨q,R',e0,HG,re⟩:=W55 H hg
  simp only [Option.isSome_some,Wd5,Wc5,Wb0,Wc1]
  refine Wb5 e0 ?_
  simp only [We7]
  refine Wa0 (WS0 HG hi λbb h7 G7=>?_)
  simp only [Wa6]
  exact k h7 (by simpa [hg] using re h7 _ G7)
theorem Yk4 {K:kQ} {h:Wa1} {M:Nat} {tv:Value} {s:Mac} {R:Hp} {i:Int} (H:Sat h (Wj8 M tv s*R)) (hi:iN i) (k:∀h',Sat h' (Wj8 M tv (s.gh λg=>g.turn i 2 0 3)*R)->K (.tuple #[]) h') :
  Wa4 Tryz.prog 295 #[mP M,iQ i] h K:=by
 refine call295 ?_
 unfold F295 cf lP nP
 refine Wa0 (Wt3 H ?_)
 simp only [Wa6]
 unfold Mac.gh at k
 cases hg:s.g with
 | none=>
  simp only [Option.isSome_none,Wc0]
  have e:({ s with g:=none }:Mac)=s:=by cases s;simp_all
  exact k h (by simpa [hg,e] using H)
 | some g=>
  obtain ⟨q,R',e0,HG,re⟩:=W55 H hg
  simp only [Option.isSome_some,Wd5,Wc5,Wb0,Wc1]
  refine Wb5 e0 ?_
  simp only [We7]
  refine Wa0 (WM5 HG hi λbb h7 G7=>?_)
  simp only [Wa6]
  exact k h7 (by simpa [hg] using re h7 _ G7)
theorem WC6 {K:kQ} {h:Wa1} {M:Nat} {tv:Value} {s:Mac} {R:Hp} (H:Sat h (Wj8 M tv s*R)) (k:∀h',Old h.size h h'->K (plV s.p) h') :
  Wa4 Tryz.prog 79 #[mP M] h K:=by
 refine call79 ?_
 unfold F79 g79 nP Y51 Wz6 YS3
 obtain ⟨q,gq,fq,B,H0⟩:=We1.1 H
 simp only [Option.isNone_some,Wc0,Wc5,Wb0,Wc1]
 have hold:=(Wg8 h (.cells Wp0 117))
 have hsz:(h.push (.cells Wp0 117)).size=h.size+1:=Array.size_push _
 have H1:=H0.push (.cells Wp0 117)
 generalize h.push (.cells Wp0 117)=h1 at *
 obtain ⟨N,hN⟩ : ∃N,N=h.size:=⟨_,rfl⟩
 rw [<- hN] at H1 ⊢
 have O:=H1.at2
 refine ldR O rfl (ldR O rfl (ldR O rfl (ldR O rfl (ldR O rfl (ldR O rfl (ldR O rfl (ldR O rfl (ldR O rfl (ldR O rfl (ldR O rfl (ldR O rfl (ldR O rfl (ldR O rfl (ldR O rfl ?_))))))))))))))
 refine YG4 (We3 (vs:=plc s.p) H1.at rfl (by simp [Wh0]) λh2 w=>?_)
 have Q:=w.new
 refine ldR Q rfl (ldR Q rfl (ldR Q rfl (ldR Q rfl (ldR Q rfl (ldR Q rfl (ldR Q rfl (ldR Q rfl (ldR Q rfl (ldR Q rfl (ldR Q rfl (ldR Q rfl (ldR Q rfl (ldR Q rfl (ldR Q rfl ?_))))))))))))))
 exact k h2 ⟨by rw [w.size];omega,λc hc=>(w.old c (by omega)).trans (hold c hc)⟩
theorem W56 {K:kQ} {h:Wa1} {M:Nat} {tv:Value} {s:Mac} {R:Hp} (H:Sat h (Wj8 M tv s*R)) (k:∀h',Sat h' (Wj8 M tv s*R)->K (plV s.p) h') :
 Wa4 Tryz.prog 79 #[mP M] h K:=WC6 H λh' o=>k h' (H.old o)
theorem WO8 {K:kQ} {h:Wa1} {M:Nat} {tv:Value} {s:Mac} {R:Hp} (H:Sat h (Wj8 M tv s*R)) (k:∀q R',Sat h (Wm4 q s.mm*R')->(∀h' m',Sat h' (Wm4 q m' * R')->Sat h' (Wj8 M tv (s.setM m')*R))->K (mP q) h) :
  Wa4 Tryz.prog 32 #[mP M] h K:=by
 refine call32 ?_
 unfold F32 lP nP
 obtain ⟨q,R',e0,HM,re⟩:=Wu7 H
 simp only [Option.isNone_some,Wc0,Wc5,Wb0,Wc1]
 refine Wb5 e0 ?_
 simp only [We7]
 exact k q R' HM re
def Mac.feed (s:Mac) (u:Int):Mac:={ s with used:=u }
theorem W57 {K:kQ} {h:Wa1} {M:Nat} {tv:Value} {s:Mac} {R:Hp} (H:Sat h (Wj8 M tv s*R)) (k:∀q R',Sat h (fdS q s.b s.used*R')->(∀h' u,Sat h' (fdS q s.b u*R')->Sat h' (Wj8 M tv (Mac.feed s u)*R))->K (mP q) h) :
  Wa4 Tryz.prog 214 #[mP M] h K:=by
 refine call214 ?_
 unfold F214 lP nP
 obtain ⟨q,gq,fq,B,H0⟩:=We1.1 H
 simp only [Option.isNone_some,Wc0,Wc5,Wb0,Wc1]
 refine H0.ld rfl ?_
 simp only [We7]
 refine k fq _ (by rw [Y75] at H0;exact H0) λh' u H'=>We1.2 ⟨q,gq,fq,B,?_⟩
 rw [Y75]
 exact H'
theorem YI1 {row vs:List Value} {row':Array Value} {o:Nat} (r1:row'.size=row.length) (hi:o+vs.length<=row.length) (r2:∀j,row'[j]? = if o<=j/\j < o+vs.length then vs[j - o]? else row[j]?):row' = (row.take o ++ vs ++ row.drop (o+vs.length)).toArray:=by
 apply Array.ext_getElem?
 intro j
 rw [r2 j,List.getElem?_toArray]
 by_cases c1:j < o
 ·rw [if_neg (by omega),List.append_assoc,List.getElem?_append_left (by rw [List.length_take];omega),List.getElem?_take,if_pos c1]
 ·by_cases c2:j < o+vs.length
  ·rw [if_pos ⟨by omega,c2⟩,List.append_assoc,List.getElem?_append_right (by rw [List.length_take];omega),List.length_take,Nat.min_eq_left (by omega),List.getElem?_append_left (by omega)]
  ·rw [if_neg (by omega),List.append_assoc,List.getElem?_append_right (by rw [List.length_take];omega),List.length_take,Nat.min_eq_left (by omega),List.getElem?_append_right (by omega),List.getElem?_drop]
   congr 1;omega
theorem Sat.copy {P:Program} {t elem rt:TypeId} {h:Wa1} {b o:Nat} {a2:Option Addr} {dl dc sl sc m:Nat} {row vs:List Value} {ty:TypeId} {K:kQ} {R:Hp}
  (hu:und P t=.slice elem) (hth:We9 P elem=true) (hsz:siz P elem=1) (H:Sat h (pt b (.cells row.toArray ty)*R)) (hs:Sees h a2 vs) (hm:min sl dl=m) (hn:vs.length=m) (hone:∀y ∈ vs,Wh0 y True) (hi:o+m<=row.length)
  (k:∀h',Sat h' (pt b (.cells (row.take o ++ vs ++ row.drop (o+m)).toArray ty)*R)->K (iv m) h') :
  WQ1 P #[t,t] rt #[.slice (some ⟨b,o,none⟩) dl dc,.slice a2 sl sc] h K:=by
 have hu':=Wb9 hu (by simp)
 unfold WQ1 Builtin.copy_
 simp only [List.getElem?_toArray,List.getElem?_cons_zero,List.getElem?_cons_succ,Wa5,Wb1,Wa8 hu',Wd4 hth]
 show hp P (Builtin.lenOf _) _ h
 simp only [Builtin.lenOf,Wb1,Wa5,Wd4 hth]
 have em:Nat.min sl dl=m:=hm
 rw [em]
 refine Yc5 hs (by rw [hsz,hn,Nat.mul_one]) ?_
 simp only [Wa5]
 refine Wf7 _ _ h 0 _ ?_
 have hlt:=(Array.getElem?_eq_some_iff.1 H.at).1
 refine WB0 _ h b o 0 row.toArray ty _ H.at (by simp;omega) (by simpa using hone) ?_
 intro row' r1 r2
 simp only [Wb1]
 have e:row' = (row.take o ++ vs ++ row.drop (o+m)).toArray:=by
  rw [<- hn]
  exact YI1 (by simpa using r1) (by omega) λj=>by rw [r2 j,List.getElem?_toArray,Nat.add_zero]
 refine k _ (H.wr (o':=.cells (row.take o ++ vs ++ row.drop (o+m)).toArray ty) ?_ λc hc=>Wj6 hc)
 rw [<- e];exact Wi8 hlt
end
section
open Mod
def frc (f:Frm):List Value:=[iQ f.fn,iQ f.pc,uQ (f.g 0),uQ (f.g 1),uQ (f.g 2),uQ (f.g 3),uQ (f.g 4),uQ (f.g 5),uQ (f.g 6),uQ (f.g 7),uQ (f.g 8),uQ (f.g 9)]
theorem WB5:∀f:Frm,(frc f).length=12:=λ_=>rfl
structure TB where
 fr:Option Addr
 frn:Nat
 pred:Nat
 succ:Nat
 word:Nat
 re:Option Addr
 ren:Nat
 fo:Option Addr
 fon:Nat
abbrev WL4 (B:TB) (x:Thr) (id:Int):List Value:=[iQ id,.slice B.fr x.fr.length B.frn,uQ (x.ret.getD 0 0),uQ (x.ret.getD 1 0),uQ (x.ret.getD 2 0),.slice (some ⟨B.pred,0,none⟩) x.pred.length x.pred.length,.slice (some ⟨B.succ,0,none⟩) x.succ.length x.succ.length,.slice (some ⟨B.word,0,none⟩) x.word.length x.word.length,.slice B.re x.retired.length B.ren,.slice B.fo x.found.length B.fon]
structure FrB (f:Frm):Prop where
 len:f.r.length=10
 us:∀v ∈ f.r,U v
structure ThB (t:Thr):Prop where
 fr:∀f ∈ t.fr,FrB f
 ret:t.ret.length=3/\∀v ∈ t.ret,U v
 pr:∀v ∈ t.pred,U v
 su:∀v ∈ t.succ,U v
 wo:∀v ∈ t.word,U v
 re:∀v ∈ t.retired,iN v
 fo:∀v ∈ t.found,iN v
 len:t.fr.length<=1073741824/\t.retired.length<=1073741824/\t.found.length<=1073741824
def TopAt (B:TB) (t:Thr) (fo:Option (Nat × Nat)):Prop:=∀b o,fo=some (b,o)->B.fr=some (aQ b)/\t.fr≠[]/\o=(t.fr.length - 1)*12
def Wi6 (T:Nat) (fo:Option (Nat × Nat)) (t:Thr) (id:Int):Hp:=ex λB:TB=>pr (ThB t/\TopAt B t fo) (pt T (.cells (WL4 B t id).toArray 183)*(Wf2 190 12 B.fr t.fr.length B.frn (t.fr.flatMap frc)*(pt B.pred (.cells (uvs t.pred).toArray 178)*(pt B.succ (.cells (uvs t.succ).toArray 178)*(pt B.word (.cells (uvs t.word).toArray 178)*(Wf2 3 1 B.re t.retired.length B.ren (t.retired.map iv)*WG9 B.fo t.found.length B.fon t.found))))))
theorem Wd7 {h:Wa1} {T:Nat} {fo:Option (Nat × Nat)} {t:Thr} {id:Int} {R:Hp}:Sat h (Wi6 T fo t id*R)↔∃B,(ThB t/\TopAt B t fo)/\Sat h (pt T (.cells (WL4 B t id).toArray 183)*(Wf2 190 12 B.fr t.fr.length B.frn (t.fr.flatMap frc)*(pt B.pred (.cells (uvs t.pred).toArray 178)*(pt B.succ (.cells (uvs t.succ).toArray 178)*(pt B.word (.cells (uvs t.word).toArray 178)*(Wf2 3 1 B.re t.retired.length B.ren (t.retired.map iv)*(WG9 B.fo t.found.length B.fon t.found*R))))))):=by
 unfold Wi6
 simp only [Sat.ex,Sat.pr,Wc4]
theorem YT6 {T:Nat} {fo:Option (Nat × Nat)} {t:Thr} {id:Int}:NdA (Wi6 T fo t id):=
 NdA.ex λ_=>NdA.pr (NdA.pt.star (NdA.own.star (NdA.pt.star (NdA.pt.star (NdA.pt.star (NdA.own.star NdA.ownf))))))
theorem Yd4 {h:Wa1} {T:Nat} {fo:Option (Nat × Nat)} {t:Thr} {id:Int} {R:Hp} (H:Sat h (Wi6 T fo t id*R)):ThB t:=by obtain ⟨_,x,_⟩:=Wd7.1 H;exact x.1
theorem TopAt.none (B:TB) (t:Thr):TopAt B t Option.none:=λ_ _ e=>by cases e
theorem WY2 {h:Wa1} {T:Nat} {fo:Option (Nat × Nat)} {t:Thr} {id:Int} {R:Hp} (H:Sat h (Wi6 T fo t id*R)):Sat h (Wi6 T none t id*R):=by
 obtain ⟨B,x,H0⟩:=Wd7.1 H
 exact Wd7.2 ⟨B,⟨x.1,TopAt.none _ _⟩,H0⟩
theorem W58 {h:Wa1} {T b o:Nat} {t:Thr} {id:Int} {R:Hp} (H:Sat h (Wi6 T (some (b,o)) t id*R)):t.fr≠[]:=by
 obtain ⟨B,x,H0⟩:=Wd7.1 H
 exact (x.2 b o rfl).2.1
theorem YT7 {t:Thr} (hne:t.fr≠[]):t.top ∈ t.fr:=by
 unfold Thr.top
 rw [List.getLast?_eq_some_getLast hne]
 exact List.getLast_mem hne
theorem WS1 {t:Thr} (hne:t.fr≠[]):t.fr=t.fr.dropLast ++ [t.top]:=by
 unfold Thr.top
 rw [List.getLast?_eq_some_getLast hne]
 exact (List.dropLast_concat_getLast hne).symm
theorem Yv4 {h:Wa1} {T b o:Nat} {t:Thr} {id:Int} {R:Hp} (H:Sat h (Wi6 T (some (b,o)) t id*R)) {j:Nat} {v:Value} (e:(frc t.top)[j]? = some v):Wa3 h ⟨b,o+j,none⟩=some v:=by
 obtain ⟨B,x,H0⟩:=Wd7.1 H
 obtain ⟨e1,hne,e2⟩:=x.2 b o rfl
 have hj:j < 12:=(List.getElem?_eq_some_iff.1 e).1
 have hlen:0 < t.fr.length:=List.length_pos_iff.2 hne
 have ho:=Sat.own (Sat.drop H0)
 have e3:(t.fr.flatMap frc)[o+j]? = some v:=by
  have hlt:t.fr.length - 1 < t.fr.length:=by omega
  rw [e2,Wi3 WB5 hlt hj]
  have:t.fr[t.fr.length - 1]=t.top:=by
   unfold Thr.top
   rw [List.getLast?_eq_some_getLast hne,List.getLast_eq_getElem]
   rfl
  rw [this];exact e
 obtain ⟨ad,ea,hc⟩:=ho.sees _ _ e3
 rw [e1] at ea
 cases ea
 rw [Wc1,Nat.zero_add] at hc
 exact hc
theorem Yv5 (f:Frm):∀y ∈ frc f,Wh0 y True:=by
 intro y hy
 simp only [frc,List.mem_cons,List.not_mem_nil,or_false] at hy
 rcases hy with rfl | rfl | rfl | rfl | rfl | rfl | rfl | rfl | rfl | rfl | rfl | rfl <;> trivial
theorem Yv6 {h:Wa1} {T b o:Nat} {t:Thr} {id:Int} {R:Hp} {K:Wa1->Prop} {j:Nat} {v:Value} {f':Frm} (H:Sat h (Wi6 T (some (b,o)) t id*R)) (hj:j < 12) (ho:Wh0 v True) (hf:frc f' = (frc t.top).set j v) (hB:FrB f')
  (k:∀h',Sat h' (Wi6 T (some (b,o)) (t.setTop f') id*R)->K h'):stH h ⟨b,o+j,none⟩ v K:=by
 obtain ⟨B,x,H0⟩:=Wd7.1 H
 obtain ⟨e1,hne,e2⟩:=x.2 b o rfl
 have hlen:0 < t.fr.length:=List.length_pos_iff.2 hne
 rw [Wb8] at H0
 obtain ⟨ow,hlt,re⟩:=H0.opn
 obtain ⟨w1,w2,w3⟩:=ow
 rcases w3 with ⟨w3,w4⟩ | ⟨b',row,w3,w4,w5,w6⟩
 ·rw [e1] at w3;cases w3
 rw [e1] at w3
 cases w3
 have hrl:t.fr.length*12<=row.size:=by rw [w5];exact Nat.mul_le_mul_right _ w2
 refine WW6 w4 (by omega) ho ?_
 rintro h' rfl
 have hbl:=(Array.getElem?_eq_some_iff.1 w4).1
 have hfl:(t.fr.dropLast ++ [f']).length=t.fr.length:=by simp;omega
 have e3:(t.fr.dropLast ++ [f']).flatMap frc=(t.fr.flatMap frc).set (o+j) v:=by
  conv=>rhs;rw [WS1 hne]
  rw [List.flatMap_append,List.flatMap_append,List.flatMap_singleton,List.flatMap_singleton,hf]
  have hl:(t.fr.dropLast.flatMap frc).length=o:=by rw [Wo6 WB5,List.length_dropLast,e2]
  rw [List.set_append_right _ _ (by omega),hl,Nat.add_sub_cancel_left]
 have e4:((t.fr.flatMap frc).set (o+j) v).length=t.fr.length*12:=by rw [List.length_set,Wo6 WB5]
 have H2:=re (h.setIfInBounds b (.cells (row.setIfInBounds (o+j) v) 190)) (blk B.fr) (λh=>Own h 190 12 B.fr t.fr.length B.frn ((t.fr.flatMap frc).set (o+j) v))
  ⟨by simp,λc hc hn=>Wj6 λe=>hn ⟨_,e1,e.symm⟩⟩ (λc hc=>⟨.inl hc,by simpa using hlt c hc⟩) (λc ob hc e x hx=>by
   obtain ⟨ad,ea,rfl⟩:=hc
   rw [e1] at ea;cases ea
   rw [Wi8 hbl] at e;cases e;cases hx) λh'' hh=>by
   refine ⟨e4,w2,.inr ⟨b,row.setIfInBounds (o+j) v,e1,(hh b ⟨_,e1,rfl⟩).trans (Wi8 hbl),by simpa using w5,?_⟩⟩
   rw [Array.toList_setIfInBounds,<- w6,<- List.take_set]
 refine k _ (Wd7.2 ⟨B,⟨?_,?_⟩,?_⟩)
 ·obtain ⟨b1,b2,b3,b4,b5,b6,b7,b8⟩:=x.1
  refine ⟨λf hf=>?_,b2,b3,b4,b5,b6,b7,by unfold Thr.setTop;rw [hfl];exact b8⟩
  unfold Thr.setTop at hf
  rcases List.mem_append.1 hf with h1 | h1
  ·exact b1 f ((List.dropLast_sublist _).subset h1)
  ·rw [List.mem_singleton.1 h1];exact hB
 ·intro b2 o2 e
  cases e
  refine ⟨e1,by unfold Thr.setTop;simp,?_⟩
  unfold Thr.setTop
  rw [hfl];exact e2
 ·rw [Wb8]
  unfold Thr.setTop
  unfold WL4
  simp only [hfl,e3]
  exact H2
theorem Y09 (f:Frm) (pc:Int):frc (f.at pc)=(frc f).set 1 (iQ pc):=rfl
theorem Y78 {f:Frm} (hl:f.r.length=10) {i:Nat} (hi:i < 10) (v:Int):frc (f.s i v)=(frc f).set (2+i) (uQ v):=by
 obtain ⟨fn,pc,r⟩:=f
 simp only at hl
 match r,hl with
 | [r0,r1,r2,r3,r4,r5,r6,r7,r8,r9],_=>
  match i,hi with
  | 0,_=>rfl
  | 1,_=>rfl
  | 2,_=>rfl
  | 3,_=>rfl
  | 4,_=>rfl
  | 5,_=>rfl
  | 6,_=>rfl
  | 7,_=>rfl
  | 8,_=>rfl
  | 9,_=>rfl
theorem FrB.at {f:Frm} (B:FrB f) (pc:Int):FrB (f.at pc):=⟨B.len,B.us⟩
theorem FrB.s {f:Frm} (B:FrB f) (i:Nat) {v:Int} (hv:U v):FrB (f.s i v):=⟨by unfold Frm.s;rw [List.length_set];exact B.len,WI0 B.us hv⟩
theorem FrB.g {f:Frm} (B:FrB f) (i:Nat):U (f.g i):=Yd1 B.us i
theorem WS2 {h:Wa1} {T:Nat} {fo:Option (Nat × Nat)} {t:Thr} {id:Int} {R:Hp} (H:Sat h (Wi6 T fo t id*R)):∃B,h[T]? = some (.cells (WL4 B t id).toArray 183):=by
 obtain ⟨B,x,H0⟩:=Wd7.1 H
 exact ⟨B,H0.at⟩
theorem U0:U 0:=⟨by omega,by omega⟩
theorem YI2 {K:kQ} {h:Wa1} {T:Nat} {fo:Option (Nat × Nat)} {t:Thr} {id:Int} {R:Hp} (H:Sat h (Wi6 T fo t id*R)) (k0:t.fr = []->K (.pointer none) h)
  (k:∀b o,t.fr≠[]->(∀b' o',fo=some (b',o')->b=b'/\o=o')->Sat h (Wi6 T (some (b,o)) t id*R)->K (.pointer (some ⟨b,o,none⟩)) h) :
  Wa4 Tryz.prog 105 #[mP T] h K:=by
 refine call105 ?_
 unfold F105 lS nP
 obtain ⟨B,x,H0⟩:=Wd7.1 H
 have hl:=x.1.len
 refine ⟨λvs h'=>vs = [.bool (decide (t.fr.length=0))]/\h' = h,?_,?_⟩
 ·simp only [Option.isNone_some,Wc0,Wc5,Wb0,Wc1]
  refine H0.ld rfl ?_
  simp only [Wa9]
  refine ⟨?_,by trivial⟩
  congr 2
  rw [Bool.eq_iff_iff,beq_iff_eq,decide_eq_true_iff];omega
 rintro v6 g7 h8 ⟨e,rfl⟩
 cases e
 simp only [Wa6]
 refine Wa7 (λhz=>k0 (List.length_eq_zero_iff.1 hz)) (λhz=>?_)
 simp only [Wc5,Wb0,Wc1]
 refine H0.ld rfl ?_
 simp only [Wa9]
 refine H0.ld rfl ?_
 simp only [Wa9]
 rw [Wb2 (n:=(t.fr.length:Int) - 1) (by omega) (by omega)]
 refine ⟨by omega,by omega,?_⟩
 have hne:t.fr≠[]:=λe=>hz (by rw [e];rfl)
 have hpos:0 < t.fr.length:=by omega
 have ow:=Sat.own (Sat.drop H0)
 rcases ow.2.2 with ⟨_,hc⟩ | ⟨b,row,e,_⟩
 ·have:=ow.2.1;omega
 ·rw [e]
  simp only [Wb0]
  rw [show ((t.fr.length:Int) - 1).toNat=t.fr.length - 1 by omega,Wc1,Nat.zero_add]
  refine k _ _ hne (λb' o' e'=>?_) (Wd7.2 ⟨B,⟨x.1,λb2 o2 e2=>?_⟩,H0⟩)
  ·obtain ⟨y1,y2,y3⟩:=x.2 b' o' e'
   rw [e] at y1
   cases y1
   exact ⟨rfl,y3.symm⟩
  ·cases e2
   exact ⟨e,hne,rfl⟩
structure Args (R:Hp) (a:Option Addr) (l c:Nat) (rs:List Int):Prop where
 len:rs.length=l
 cap:l<=c
 us:∀v ∈ rs,U v
 see:∀h P,Sat h (P*R)->Sees h a (uvs rs)
theorem Args.none {R:Hp}:Args R Option.none 0 0 []:=⟨rfl,Nat.le_refl _,λv hv=>(by cases hv),λh P _=>Sees.nil _ _⟩
theorem Args.mk' {R:Hp} {N l:Nat} {rs:List Int} {ty:TypeId} (hl:rs.length=l) (hu:∀v ∈ rs,U v):Args (pt N (.cells (uvs rs).toArray ty)*R) (some ⟨N,0,Option.none⟩) l l rs:=
 ⟨hl,Nat.le_refl _,hu,λh P H i v hi=>⟨_,rfl,by rw [Wc1,Nat.zero_add,Wb4 H.at2,List.getElem?_toArray];exact hi⟩⟩
theorem Args.skip {R Q:Hp} {a:Option Addr} {l c:Nat} {rs:List Int} (A:Args R a l c rs):Args (Q*R) a l c rs:=⟨A.len,A.cap,A.us,λh P H=>A.see h (P*Q) (by rw [Wc4];exact H)⟩
theorem Yd5:und Tryz.prog 123=.slice 178:=by kernel_rfl
theorem WY3:We9 Tryz.prog 178=true:=by kernel_rfl
theorem Yv7:siz Tryz.prog 178=1:=by kernel_rfl
theorem YT8:und Tryz.prog 177=.slice 190:=by kernel_rfl
theorem Yd6:We9 Tryz.prog 190=true:=by kernel_rfl
theorem Y10:zer Tryz.prog 190=some (.agg #[iQ 0,iQ 0,uQ 0,uQ 0,uQ 0,uQ 0,uQ 0,uQ 0,uQ 0,uQ 0,uQ 0,uQ 0]):=by kernel_rfl
theorem WO9:siz Tryz.prog 190=12:=by kernel_rfl
theorem YP6:byt Tryz.prog 190=96:=by kernel_rfl
theorem Yv8 (l:List Int):∀y ∈ uvs l,Wh0 y True:=by
 intro y hy
 unfold uvs at hy
 obtain ⟨n,_,rfl⟩:=List.mem_map.1 hy
 trivial
theorem Yv9 (l:List Int):(uvs l).length=l.length:=by unfold uvs;rw [List.length_map]
theorem Ww6 (n:Nat) (l:List Int):(pad n l).length=n:=by unfold pad;simp
theorem Y11 {n:Nat} {l:List Int} (h:l.length<=n):pad n l=l ++ List.replicate (n - l.length) 0:=by
 unfold pad
 rw [List.take_append,List.take_of_length_le h,List.take_replicate,Nat.min_eq_left (by omega)]
theorem Y12 {n:Nat} {l:List Int} (h:∀v ∈ l,U v):∀v ∈ pad n l,U v:=by
 intro v hv
 unfold pad at hv
 rcases List.mem_append.1 (List.mem_of_mem_take hv) with h1 | h1
 ·exact h v h1
 ·rw [(List.mem_replicate.1 h1).2];exact U0
theorem YP7 {fn pc:Int} {r:List Int} (hl:r.length=10):frc ⟨fn,pc,r⟩=iQ fn :: iQ pc :: uvs r:=by
 match r,hl with
 | [r0,r1,r2,r3,r4,r5,r6,r7,r8,r9],_=>rfl
def WY4 (h:Wa1) (fo:Option (Nat × Nat)) (f:Frm):Prop:=∀b o j v,fo=some (b,o)->(frc f)[j]? = some v->Wa3 h ⟨b,o+j,none⟩=some v
theorem Za9 {h:Wa1} {b:Nat} {v0 v1 v2 v3 v4 v5 v6 v7 v8 v9 v10 v11:Value} {K:Wa1->Prop} (H:stN h (aQ b) 0 [v0,v1,v2,v3,v4,v5,v6,v7,v8,v9,v10,v11] K) :
 stH h (aQ b) v0 λh=>stH h ⟨b,1,none⟩ v1 λh=>stH h ⟨b,2,none⟩ v2 λh=>stH h ⟨b,3,none⟩ v3 λh=>stH h ⟨b,4,none⟩ v4 λh=>stH h ⟨b,5,none⟩ v5 λh=>stH h ⟨b,6,none⟩ v6 λh=>
 stH h ⟨b,7,none⟩ v7 λh=>stH h ⟨b,8,none⟩ v8 λh=>stH h ⟨b,9,none⟩ v9 λh=>stH h ⟨b,10,none⟩ v10 λh=>stH h ⟨b,11,none⟩ v11 K:=H
theorem Yw0 {K:kQ} {h:Wa1} {T:Nat} {fo:Option (Nat × Nat)} {t:Thr} {id:Int} {R:Hp} {fn:Int} {a:Option Addr} {l c:Nat} {rs:List Int} (H:Sat h (Wi6 T fo t id*R)) (A:Args R a l c rs) (hl:l<=10) (hd:t.fr.length < 1073741824)
  (k:∀h' b o,(∀b' o',fo=some (b',o')->¬ (b=b'/\o=o'))->WY4 h' fo t.top->Sat h' (Wi6 T (some (b,o)) (t.push fn rs) id*R)->K (.tuple #[]) h') :
  Wa4 Tryz.prog 130 #[mP T,iQ fn,.slice a l c] h K:=by
 refine call130 ?_
 unfold F130 nP Za2
 have hlen:=A.len
 obtain ⟨B,x,H0⟩:=Wd7.1 H
 simp only [Option.isNone_some,Wc0,Wc5,Wb0,Wc1]
 have H1:=H0.push (.cells #[iQ 0,iQ 0,uQ 0,uQ 0,uQ 0,uQ 0,uQ 0,uQ 0,uQ 0,uQ 0,uQ 0,uQ 0] 190)
 have HA:=(H.push (.cells #[iQ 0,iQ 0,uQ 0,uQ 0,uQ 0,uQ 0,uQ 0,uQ 0,uQ 0,uQ 0,uQ 0,uQ 0] 190))
 generalize h.push (.cells #[iQ 0,iQ 0,uQ 0,uQ 0,uQ 0,uQ 0,uQ 0,uQ 0,uQ 0,uQ 0,uQ 0,uQ 0] 190)=h1 at *
 generalize h.size=N at *
 refine Za9 (We3 (vs:=frc ⟨fn,0,List.replicate 10 0⟩) H1.at rfl (Yv5 _) λh2 w=>?_)
 have H2:=H1.wr w.new w.old
 have HB:=HA.wr w.new w.old
 have hsee:=A.see h2 (pt N _*Wi6 T fo t id) (by rw [Wc4];exact HB)
 have eS:some (Yg4 ⟨N,2,none⟩ 0 10 1)=some (⟨N,2,none⟩ : Addr):=rfl
 rw [eS]
 refine H2.copy Yd5 WY3 Yv7 hsee (m:=l) (by omega) (by rw [Yv9,hlen]) (Yv8 _) (by rw [WB5];omega) λh3 H3=>?_
 have erow:(frc ⟨fn,0,List.replicate 10 0⟩).take 2 ++ uvs rs ++ (frc ⟨fn,0,List.replicate 10 0⟩).drop (2+l)=frc ⟨fn,0,pad 10 rs⟩:=by
  rw [YP7 (by simp),YP7 (Ww6 _ _),Y11 (by omega)]
  simp only [List.take_succ_cons,List.take_zero,List.cons_append,List.nil_append]
  rw [show 2+l=l+1+1 by omega,List.drop_succ_cons,List.drop_succ_cons]
  congr 2
  unfold uvs
  rw [List.map_append,List.map_replicate,List.map_replicate,List.drop_replicate,hlen]
 rw [erow] at H3
 simp only [Wa2]
 have O:=(Wb8 _ _ _ ▸ H3:Sat h3 (pt T _*_))
 refine O.ld rfl ?_
 simp only [Wa9]
 have Q:=H3.at
 have hr:∀i v,(frc ⟨fn,0,pad 10 rs⟩)[i]? = some v->∀K:Value->Prop,K v->ldH h3 ⟨N,i,none⟩ K:=λi v e K k=>ldR Q e k
 refine hr 0 _ rfl _ (hr 1 _ rfl _ (hr 2 _ rfl _ (hr 3 _ rfl _ (hr 4 _ rfl _ (hr 5 _ rfl _ (hr 6 _ rfl _ (hr 7 _ rfl _ (hr 8 _ rfl _ (hr 9 _ rfl _ (hr 10 _ rfl _ (hr 11 _ rfl _ ?_)))))))))))
 have H4:=H3.push (.cells (frc ⟨fn,0,pad 10 rs⟩).toArray 190)
 have e4:h3.push (.cells (frc ⟨fn,0,pad 10 rs⟩).toArray 190)=h3.push (.cells #[iQ fn,iQ 0,uQ ((pad 10 rs).getD 0 0),uQ ((pad 10 rs).getD 1 0),uQ ((pad 10 rs).getD 2 0),uQ ((pad 10 rs).getD 3 0),uQ ((pad 10 rs).getD 4 0),uQ ((pad 10 rs).getD 5 0),uQ ((pad 10 rs).getD 6 0),uQ ((pad 10 rs).getD 7 0),uQ ((pad 10 rs).getD 8 0),uQ ((pad 10 rs).getD 9 0)] 190):=rfl
 generalize h3.push (.cells (frc ⟨fn,0,pad 10 rs⟩).toArray 190)=h4 at *
 show Wa3 (h3.push (.cells #[iQ fn,iQ 0,uQ ((pad 10 rs).getD 0 0),uQ ((pad 10 rs).getD 1 0),uQ ((pad 10 rs).getD 2 0),uQ ((pad 10 rs).getD 3 0),uQ ((pad 10 rs).getD 4 0),uQ ((pad 10 rs).getD 5 0),uQ ((pad 10 rs).getD 6 0),uQ ((pad 10 rs).getD 7 0),uQ ((pad 10 rs).getD 8 0),uQ ((pad 10 rs).getD 9 0)] 190)) _=_/\Wp5 Tryz.prog _ _ _ (h3.push (.cells #[iQ fn,iQ 0,uQ ((pad 10 rs).getD 0 0),uQ ((pad 10 rs).getD 1 0),uQ ((pad 10 rs).getD 2 0),uQ ((pad 10 rs).getD 3 0),uQ ((pad 10 rs).getD 4 0),uQ ((pad 10 rs).getD 5 0),uQ ((pad 10 rs).getD 6 0),uQ ((pad 10 rs).getD 7 0),uQ ((pad 10 rs).getD 8 0),uQ ((pad 10 rs).getD 9 0)] 190)) _
 rw [<- e4]
 generalize h3.size=N4 at *
 have hs4:Sees h4 (some (aQ N4)) (frc ⟨fn,0,pad 10 rs⟩):=λi v hi=>⟨_,rfl,by rw [Wc1,Nat.zero_add,Wb4 H4.at,List.getElem?_toArray];exact hi⟩
 rw [YD5] at H4
 refine ⟨Wd3 H4.at rfl,?_⟩
 rw [Y75] at H4
 have hB:ThB (t.push fn rs):=by
  obtain ⟨b1,b2,b3,b4,b5,b6,b7,b8⟩:=x.1
  refine ⟨λf hf=>?_,b2,b3,b4,b5,b6,b7,by unfold Thr.push;simp;omega⟩
  unfold Thr.push at hf
  rcases List.mem_append.1 hf with h1 | h1
  ·exact b1 f h1
  ·rw [List.mem_singleton.1 h1];exact ⟨Ww6 _ _,Y12 A.us⟩
 have hfl:(t.push fn rs).fr.length=t.fr.length+1:=by unfold Thr.push;simp
 have hff:(t.push fn rs).fr.flatMap frc=t.fr.flatMap frc ++ frc ⟨fn,0,pad 10 rs⟩:=by unfold Thr.push;simp
 have fin:∀(h5:Wa1) (b:Nat) (c':Nat) (X:Hp),(∀b' o',fo=some (b',o')->¬ (b=b'/\t.fr.length*12=o'))->(∀h P,Sat h (Wf2 190 12 (some (aQ b)) (t.fr.length+1) c' (t.fr.flatMap frc ++ frc ⟨fn,0,pad 10 rs⟩)*(X*P))->WY4 h fo t.top)->Sat h5 (pt T (.cells (WL4 B t id).toArray 183)*(Wf2 190 12 (some (aQ b)) (t.fr.length+1) c' (t.fr.flatMap frc ++ frc ⟨fn,0,pad 10 rs⟩)*(X*(pt B.pred (.cells (uvs t.pred).toArray 178)*(pt B.succ (.cells (uvs t.succ).toArray 178)*(pt B.word (.cells (uvs t.word).toArray 178)*(Wf2 3 1 B.re t.retired.length B.ren (t.retired.map iv)*(WG9 B.fo t.found.length B.fon t.found*R)))))))) ->
   stH h5 ⟨T,0+1,none⟩ (.slice (some (aQ b)) (t.fr.length+1) c') (λh38=>K (.tuple #[]) h38):=by
  intro h5 b c' X hne hst H5
  refine H5.st rfl trivial λh6 H6=>?_
  refine k h6 b (t.fr.length*12) (λb' o' e=>hne b' o' e) (hst h6 _ H6.drop) (Wd7.2 ⟨{ B with fr:=some (aQ b),frn:=c' },⟨hB,λb2 o2 e2=>?_⟩,?_⟩)
  ·cases e2
   exact ⟨rfl,by unfold Thr.push;simp,by rw [hfl];simp⟩
  ·rw [hfl,hff]
   have eC:WL4 { B with fr:=some (aQ b),frn:=c' } (t.push fn rs) id=(WL4 B t id).set (0+1) (.slice (some (aQ b)) (t.fr.length+1) c'):=by
    unfold WL4
    rw [hfl]
    rfl
   rw [eC]
   rw [Wb8 _ X] at H6
   exact Sat.drop2 (Sat.ac H6 (by ac_rfl))
 have stale:∀h5 a l5 c5 ys,Own h5 190 12 a l5 c5 (t.fr.flatMap frc ++ ys)->(∀b' o',fo=some (b',o')->a=some (aQ b')/\t.fr≠[]/\o' = (t.fr.length - 1)*12)->WY4 h5 fo t.top:=by
  intro h5 a l5 c5 ys ow hfo b' o' j v e ev
  obtain ⟨e1,hne,e2⟩:=hfo b' o' e
  have hj:j < 12:=(List.getElem?_eq_some_iff.1 ev).1
  have hlen:0 < t.fr.length:=List.length_pos_iff.2 hne
  have hlt:t.fr.length - 1 < t.fr.length:=by omega
  have e3:(t.fr.flatMap frc)[o' + j]? = some v:=by
   rw [e2,Wi3 WB5 hlt hj]
   have:t.fr[t.fr.length - 1]=t.top:=by
    unfold Thr.top
    rw [List.getLast?_eq_some_getLast hne,List.getLast_eq_getElem]
    rfl
   rw [this];exact ev
  obtain ⟨ad,ea,hc⟩:=ow.sees (o' + j) v (by rw [List.getElem?_append_left (List.getElem?_eq_some_iff.1 e3).1];exact e3)
  rw [e1] at ea
  cases ea
  rw [Wc1,Nat.zero_add] at hc
  exact hc
 have Blen:=x.1.len
 rw [<- WO9] at H4
 refine H4.app2 YT8 Yd6 Y10 (by rw [WO9];rfl) hs4 (n:=1) (by rw [WO9];rfl) (Yv5 _) (by rw [YP6];omega) (by rw [YP6];omega) (λc' h5 H5=>?_) (λb c' h5 hnb H5=>?_)
 ·rw [WO9] at H5
  simp only [Wa9]
  have ow:=H5.own
  obtain ⟨b,eb⟩ : ∃b,B.fr=some ⟨b,0,none⟩:=by
   rcases ow.2.2 with ⟨_,hc⟩ | ⟨b,row,e,_⟩
   ·have:=ow.2.1;omega
   ·exact ⟨b,e⟩
  rw [eb] at H5 ⊢
  refine fin h5 b c' (pt N4 (.cells (frc ⟨fn,0,pad 10 rs⟩).toArray 190)*pt N (.cells (frc ⟨fn,0,pad 10 rs⟩).toArray 190)) (λb' o' e ⟨y1,y2⟩=>?_) (λh P HH=>stale h _ _ _ _ HH.own λb' o' e=>?_) (Sat.ac H5 ?_)
  ·obtain ⟨z1,z2,z3⟩:=x.2 b' o' e
   have hlen:0 < t.fr.length:=List.length_pos_iff.2 z2
   omega
  ·obtain ⟨z1,z2,z3⟩:=x.2 b' o' e
   exact ⟨eb.symm.trans z1,z2,z3⟩
  ·ac_rfl
 ·rw [WO9] at H5
  simp only [Wa9]
  refine fin h5 b c' (Wf2 190 12 B.fr t.fr.length B.frn (t.fr.flatMap frc)*(pt N4 (.cells (frc ⟨fn,0,pad 10 rs⟩).toArray 190)*pt N (.cells (frc ⟨fn,0,pad 10 rs⟩).toArray 190))) (λb' o' e ⟨y1,y2⟩=>?_) (λh P HH=>stale h _ _ _ [] (by rw [Wc4] at HH;rw [List.append_nil];exact HH.drop.own) λb' o' e=>x.2 b' o' e) (Sat.ac H5 ?_)
  ·obtain ⟨z1,z2,z3⟩:=x.2 b' o' e
   exact hnb ⟨_,z1,by simp [y1]⟩
  ·ac_rfl
theorem Thr.pop_fr (t:Thr) (r:List Int) (hne:t.fr≠[]):t.pop r = { t with fr:=t.fr.dropLast,ret:=pad 3 r }:=by unfold Thr.pop;rw [if_neg hne]
theorem YI3 {K:kQ} {h:Wa1} {T:Nat} {fo:Option (Nat × Nat)} {t:Thr} {id:Int} {R:Hp} {a:Option Addr} {l c:Nat} {rs:List Int} (H:Sat h (Wi6 T fo t id*R)) (A:Args R a l c rs) (hl:l<=3)
  (k:∀h',Sat h' (Wi6 T none (t.pop rs) id*R)->K (.tuple #[]) h') :
  Wa4 Tryz.prog 106 #[mP T,.slice a l c] h K:=by
 refine call106 ?_
 unfold F106 lS nP
 have hlen:=A.len
 obtain ⟨B,x,H0⟩:=Wd7.1 H
 have Blen:=x.1.len
 refine ⟨λvs h'=>vs = [.bool (decide (t.fr.length=0))]/\h' = h,?_,?_⟩
 ·simp only [Option.isNone_some,Wc0,Wc5,Wb0,Wc1]
  refine H0.ld rfl ?_
  simp only [Wa9]
  refine ⟨?_,by trivial⟩
  congr 2
  rw [Bool.eq_iff_iff,beq_iff_eq,decide_eq_true_iff];omega
 rintro v6 g7 h8 ⟨e,rfl⟩
 cases e
 simp only [Wa6]
 refine Wa7 (λhz=>?_) (λhz=>?_)
 ·have e:t.pop rs=t:=by unfold Thr.pop;rw [if_pos (List.length_eq_zero_iff.1 hz)]
  rw [e] at k
  exact k h8 (WY2 H)
 have hne:t.fr≠[]:=λe=>hz (by rw [e];rfl)
 rw [Thr.pop_fr _ _ hne] at k
 simp only [Wc5,Wb0,Wc1]
 refine H0.ld rfl ?_
 simp only [Wa9]
 refine H0.ld rfl ?_
 simp only [Wa9]
 rw [Wb2 (n:=(t.fr.length:Int) - 1) (by omega) (by omega)]
 have ow:=H0.drop.own
 have hfl:=ow.2.1
 refine ⟨by omega,by omega,?_⟩
 have e1:WM9 B.fr 0 B.frn 12=B.fr:=WG4 _ _ _
 have e2:((t.fr.length:Int) - 1).toNat - 0=t.fr.length - 1:=by omega
 rw [e1,e2,Nat.sub_zero]
 refine H0.st rfl trivial λh1 H1=>H1.st rfl trivial λh2 H2=>H2.st rfl trivial λh3 H3=>H3.st rfl trivial λh4 H4=>?_
 have hsee:Sees h4 a (uvs rs):=A.see h4 (pt T _*(Wf2 190 12 B.fr t.fr.length B.frn (t.fr.flatMap frc)*(pt B.pred (.cells (uvs t.pred).toArray 178)*(pt B.succ (.cells (uvs t.succ).toArray 178)*(pt B.word (.cells (uvs t.word).toArray 178)*(Wf2 3 1 B.re t.retired.length B.ren (t.retired.map iv)*WG9 B.fo t.found.length B.fon t.found)))))) (by simp only [Wc4];exact H4)
 have eS:some (Yg4 ⟨T,2,none⟩ 0 3 1)=some (⟨T,2,none⟩ : Addr):=rfl
 show WQ1 Tryz.prog _ _ #[.slice (some (Yg4 ⟨T,2,none⟩ 0 3 1)) 3 3,_] _ _
 rw [eS]
 refine H4.copy Yd5 WY3 Yv7 hsee (m:=l) (by omega) (by rw [Yv9,hlen]) (Yv8 _) (by simp;omega) λh5 H5=>?_
 simp only [Wa2]
 have hB:ThB { t with fr:=t.fr.dropLast,ret:=pad 3 rs }:=by
  obtain ⟨b1,b2,b3,b4,b5,b6,b7,b8⟩:=x.1
  exact ⟨λf hf=>b1 f ((List.dropLast_sublist _).subset hf),⟨Ww6 _ _,Y12 A.us⟩,b3,b4,b5,b6,b7,by simp;omega⟩
 refine k h5 (Wd7.2 ⟨B,⟨hB,TopAt.none _ _⟩,?_⟩)
 rw [Wb8] at H5 ⊢
 obtain ⟨ow5,hlt5,re5⟩:=H5.opn
 have hdl:t.fr.dropLast.length=t.fr.length - 1:=List.length_dropLast
 have efl:t.fr.dropLast.flatMap frc=(t.fr.flatMap frc).take ((t.fr.length - 1)*12):=by
  rw [WW8 WB5,List.dropLast_eq_take]
 have H6:=re5 h5 (blk B.fr) (λh=>Own h 190 12 B.fr (t.fr.length - 1) B.frn ((t.fr.flatMap frc).take ((t.fr.length - 1)*12))) (Fr.refl _ _) (λb hb=>⟨.inl hb,hlt5 b hb⟩) ow5.nd λh'' e=>(ow5.congr e).take (by omega)
 simp only [hdl,efl]
 have eC:(((((WL4 B t id).set (0+1) (.slice B.fr (t.fr.length - 1) B.frn)).set (0+2) (uQ 0)).set (0+3) (uQ 0)).set (0+4) (uQ 0)).take 2 ++ uvs rs ++ (((((WL4 B t id).set (0+1) (.slice B.fr (t.fr.length - 1) B.frn)).set (0+2) (uQ 0)).set (0+3) (uQ 0)).set (0+4) (uQ 0)).drop (2+l)=WL4 B { t with fr:=t.fr.dropLast,ret:=pad 3 rs } id:=by
  unfold WL4
  simp only [hdl]
  match rs,hlen with
  | [],e=>subst e;rfl
  | [r0],e=>subst e;rfl
  | [r0,r1],e=>subst e;rfl
  | [r0,r1,r2],e=>subst e;rfl
  | _ :: _ :: _ :: _ :: _,e=>simp at e;omega
 rw [eC] at H6
 exact H6
end
section
open Mod
abbrev fP (b o:Nat):Value:=.pointer (some ⟨b,o,none⟩)
def RunS (M T:Nat) (tv:Value) (fo:Option (Nat × Nat)) (x:Run) (R:Hp):Hp:=Wj8 M tv x.m*(Wi6 T fo x.t x.id*R)
theorem Wc3 {h:Wa1} {a:Addr} {v:Value} {o:Obj} (e:Wa3 h a=some v):Wa3 (h.push o) a=some v:=(Wi1 (Wg8 _ _ _ (Ws8 e))).trans e
section
variable {K:kQ} {h:Wa1} {M T b o N:Nat} {tv:Value} {fo:Option (Nat × Nat)} {x:Run} {R:Hp}
theorem RunS.thr (H:Sat h (RunS M T tv fo x R)):Sat h (Wi6 T fo x.t x.id*(Wj8 M tv x.m*R)):=Wb8 _ _ _ ▸ (show Sat h (Wj8 M tv x.m*(Wi6 T fo x.t x.id*R)) from H)
theorem RunS.ofThr {t:Thr} {m:Mac} {id:Int} (H:Sat h (Wi6 T fo t id*(Wj8 M tv m*R))):Sat h (RunS M T tv fo ⟨m,t,id⟩ R):=by
 rw [Wb8] at H;exact H
theorem RunS.none (H:Sat h (RunS M T tv fo x R)):Sat h (RunS M T tv none x R):=RunS.ofThr (WY2 (RunS.thr H))
theorem RunS.B (H:Sat h (RunS M T tv fo x R)):ThB x.t:=Yd4 (RunS.thr H)
theorem RunS.pl (H:Sat h (RunS M T tv fo x R)):PlB x.m.p:=Yu9 H
theorem RunS.fB (H:Sat h (RunS M T tv (some (b,o)) x R)):FrB x.f:=(RunS.B H).fr _ (YT7 (W58 (RunS.thr H)))
theorem RunS.old {h':Wa1} (H:Sat h (RunS M T tv fo x R)) (ol:Old h.size h h'):Sat h' (RunS M T tv fo x R):=Sat.old H ol
theorem RunS.new (H:Sat h (RunS M T tv fo x R)) (ob:Obj) (ho:Nd ob:=by intro x e;cases e):Sat (h.push ob) (RunS M T tv fo x (pt h.size ob*R)):=
 Sat.ac (Sat.push H ob ho) (by unfold RunS;ac_rfl)
theorem RunS.loc {ob:Obj} (H:Sat h (RunS M T tv fo x (pt N ob*R))):h[N]? = some ob:=Sat.at3 H
theorem RunS.loc2 {ob:Obj} {Q:Hp} (H:Sat h (RunS M T tv fo x (Q*(pt N ob*R)))):h[N]? = some ob:=Sat.at (Sat.drop (Sat.drop (Sat.drop H)))
theorem RunS.drp {Q:Hp} (H:Sat h (RunS M T tv fo x (Q*R))):Sat h (RunS M T tv fo x R):=Sat.drop2 (Sat.ac H (by unfold RunS;ac_rfl):Sat h (Wj8 M tv x.m*(Q*(Wi6 T fo x.t x.id*R))))
theorem RunS.rd (H:Sat h (RunS M T tv (some (b,o)) x R)) {j:Nat} {v:Value} (e:(frc x.f)[j]? = some v):Wa3 h ⟨b,o+j,Option.none⟩=some v:=Yv4 (RunS.thr H) e
theorem RunS.fn (H:Sat h (RunS M T tv (some (b,o)) x R)) {F:Value->Prop}:ldH h ⟨b,o,Option.none⟩ F=F (iQ x.f.fn):=by have e:=RunS.rd (j:=0) H rfl;rw [Nat.add_zero] at e;unfold ldH;rw [e]
theorem RunS.pc (H:Sat h (RunS M T tv (some (b,o)) x R)) {F:Value->Prop}:ldH h ⟨b,o+1,Option.none⟩ F=F (iQ x.f.pc):=by unfold ldH;rw [RunS.rd (j:=1) H rfl]
theorem RunS.rgc (H:Sat h (RunS M T tv (some (b,o)) x R)) {i:Nat} (hi:Nat.ble (i+1) 10=true):Wa3 h ⟨b,o+(i+2),Option.none⟩=some (uQ (x.f.g i)):=by
 have hi:i < 10:=by rw [Nat.ble_eq] at hi;omega
 refine RunS.rd H ?_
 match i,hi with
 | 0,_=>rfl
 | 1,_=>rfl
 | 2,_=>rfl
 | 3,_=>rfl
 | 4,_=>rfl
 | 5,_=>rfl
 | 6,_=>rfl
 | 7,_=>rfl
 | 8,_=>rfl
 | 9,_=>rfl
theorem RunS.rg (H:Sat h (RunS M T tv (some (b,o)) x R)) {i:Nat} {F:Value->Prop} (hi:Nat.ble (i+1) 10=true):ldH h ⟨b,o+(i+2),Option.none⟩ F=F (uQ (x.f.g i)):=by unfold ldH;rw [RunS.rgc H hi]
theorem RunS.r (H:Sat h (RunS M T tv (some (b,o)) x R)):(∀F:Value->Prop,ldH h ⟨b,o,Option.none⟩ F=F (iQ x.f.fn))/\(∀F:Value->Prop,ldH h ⟨b,o+1,Option.none⟩ F=F (iQ x.f.pc))/\(∀F:Value->Prop,ldH h ⟨b,o+2,Option.none⟩ F=F (uQ (x.f.g 0)))/\(∀F:Value->Prop,ldH h ⟨b,o+3,Option.none⟩ F=F (uQ (x.f.g 1)))/\(∀F:Value->Prop,ldH h ⟨b,o+4,Option.none⟩ F=F (uQ (x.f.g 2)))/\(∀F:Value->Prop,ldH h ⟨b,o+5,Option.none⟩ F=F (uQ (x.f.g 3)))/\(∀F:Value->Prop,ldH h ⟨b,o+6,Option.none⟩ F=F (uQ (x.f.g 4)))/\(∀F:Value->Prop,ldH h ⟨b,o+7,Option.none⟩ F=F (uQ (x.f.g 5)))/\(∀F:Value->Prop,ldH h ⟨b,o+8,Option.none⟩ F=F (uQ (x.f.g 6)))/\(∀F:Value->Prop,ldH h ⟨b,o+9,Option.none⟩ F=F (uQ (x.f.g 7)))/\(∀F:Value->Prop,ldH h ⟨b,o+10,Option.none⟩ F=F (uQ (x.f.g 8)))/\(∀F:Value->Prop,ldH h ⟨b,o+11,Option.none⟩ F=F (uQ (x.f.g 9))):=
 ⟨λF=>RunS.fn H,λF=>RunS.pc H,λF=>RunS.rg (i:=0) H rfl,λF=>RunS.rg (i:=1) H rfl,λF=>RunS.rg (i:=2) H rfl,λF=>RunS.rg (i:=3) H rfl,λF=>RunS.rg (i:=4) H rfl,λF=>RunS.rg (i:=5) H rfl,λF=>RunS.rg (i:=6) H rfl,λF=>RunS.rg (i:=7) H rfl,λF=>RunS.rg (i:=8) H rfl,λF=>RunS.rg (i:=9) H rfl⟩
theorem RunS.c (H:Sat h (RunS M T tv (some (b,o)) x R)):Wa3 h ⟨b,o+1,Option.none⟩=some (iQ x.f.pc)/\Wa3 h ⟨b,o+2,Option.none⟩=some (uQ (x.f.g 0))/\Wa3 h ⟨b,o+3,Option.none⟩=some (uQ (x.f.g 1))/\Wa3 h ⟨b,o+4,Option.none⟩=some (uQ (x.f.g 2))/\Wa3 h ⟨b,o+5,Option.none⟩=some (uQ (x.f.g 3))/\Wa3 h ⟨b,o+6,Option.none⟩=some (uQ (x.f.g 4))/\Wa3 h ⟨b,o+7,Option.none⟩=some (uQ (x.f.g 5))/\Wa3 h ⟨b,o+8,Option.none⟩=some (uQ (x.f.g 6))/\Wa3 h ⟨b,o+9,Option.none⟩=some (uQ (x.f.g 7))/\Wa3 h ⟨b,o+10,Option.none⟩=some (uQ (x.f.g 8))/\Wa3 h ⟨b,o+11,Option.none⟩=some (uQ (x.f.g 9)):=
 ⟨RunS.rd (j:=1) H rfl,RunS.rgc (i:=0) H rfl,RunS.rgc (i:=1) H rfl,RunS.rgc (i:=2) H rfl,RunS.rgc (i:=3) H rfl,RunS.rgc (i:=4) H rfl,RunS.rgc (i:=5) H rfl,RunS.rgc (i:=6) H rfl,RunS.rgc (i:=7) H rfl,RunS.rgc (i:=8) H rfl,RunS.rgc (i:=9) H rfl⟩
theorem RunS.cp (H:Sat h (RunS M T tv (some (b,o)) x R)):(∀ob,Wa3 (h.push ob) ⟨b,o+1,Option.none⟩=some (iQ x.f.pc))/\(∀ob,Wa3 (h.push ob) ⟨b,o+2,Option.none⟩=some (uQ (x.f.g 0)))/\(∀ob,Wa3 (h.push ob) ⟨b,o+3,Option.none⟩=some (uQ (x.f.g 1)))/\(∀ob,Wa3 (h.push ob) ⟨b,o+4,Option.none⟩=some (uQ (x.f.g 2)))/\(∀ob,Wa3 (h.push ob) ⟨b,o+5,Option.none⟩=some (uQ (x.f.g 3)))/\(∀ob,Wa3 (h.push ob) ⟨b,o+6,Option.none⟩=some (uQ (x.f.g 4)))/\(∀ob,Wa3 (h.push ob) ⟨b,o+7,Option.none⟩=some (uQ (x.f.g 5)))/\(∀ob,Wa3 (h.push ob) ⟨b,o+8,Option.none⟩=some (uQ (x.f.g 6)))/\(∀ob,Wa3 (h.push ob) ⟨b,o+9,Option.none⟩=some (uQ (x.f.g 7)))/\(∀ob,Wa3 (h.push ob) ⟨b,o+10,Option.none⟩=some (uQ (x.f.g 8)))/\(∀ob,Wa3 (h.push ob) ⟨b,o+11,Option.none⟩=some (uQ (x.f.g 9))):=
 ⟨λ_=>Wc3 (RunS.rd (j:=1) H rfl),λ_=>Wc3 (RunS.rgc (i:=0) H rfl),λ_=>Wc3 (RunS.rgc (i:=1) H rfl),λ_=>Wc3 (RunS.rgc (i:=2) H rfl),λ_=>Wc3 (RunS.rgc (i:=3) H rfl),λ_=>Wc3 (RunS.rgc (i:=4) H rfl),λ_=>Wc3 (RunS.rgc (i:=5) H rfl),λ_=>Wc3 (RunS.rgc (i:=6) H rfl),λ_=>Wc3 (RunS.rgc (i:=7) H rfl),λ_=>Wc3 (RunS.rgc (i:=8) H rfl),λ_=>Wc3 (RunS.rgc (i:=9) H rfl)⟩
theorem RunS.stR (H:Sat h (RunS M T tv (some (b,o)) x R)) {i:Nat} {v:Int} {F:Wa1->Prop} (hi:Nat.ble (i+1) 10=true) (hv:U v) (k:∀h',Sat h' (RunS M T tv (some (b,o)) (x.s i v) R)->F h'):stH h ⟨b,o+(i+2),Option.none⟩ (uQ v) F:=by
 have hi:i < 10:=by rw [Nat.ble_eq] at hi;omega
 have B:=RunS.fB H
 exact Yv6 (RunS.thr H) (by omega) trivial (by rw [Nat.add_comm];exact Y78 B.len hi v) (B.s i hv) λh' H'=>k h' (RunS.ofThr H')
theorem RunS.stP (H:Sat h (RunS M T tv (some (b,o)) x R)) {pc:Int} {F:Wa1->Prop} (k:∀h',Sat h' (RunS M T tv (some (b,o)) (x.pc pc) R)->F h'):stH h ⟨b,o+1,Option.none⟩ (iQ pc) F:=
 Yv6 (RunS.thr H) (by omega) trivial (Y09 _ _) ((RunS.fB H).at pc) λh' H'=>k h' (RunS.ofThr H')
theorem RunS.l {ty:TypeId} {v0 v1 v2:Value} (H:Sat h (RunS M T tv fo x (pt N (.cells #[v0,v1,v2] ty)*R))):(∀F:Value->Prop,ldH h ⟨N,0,Option.none⟩ F=F v0)/\(∀F:Value->Prop,ldH h ⟨N,1,Option.none⟩ F=F v1)/\(∀F:Value->Prop,ldH h ⟨N,2,Option.none⟩ F=F v2)/\Wa3 h ⟨N,0,Option.none⟩=some v0/\Wa3 h ⟨N,1,Option.none⟩=some v1/\Wa3 h ⟨N,2,Option.none⟩=some v2/\(∀ob,Wa3 (h.push ob) ⟨N,0,Option.none⟩=some v0)/\(∀ob,Wa3 (h.push ob) ⟨N,1,Option.none⟩=some v1)/\(∀ob,Wa3 (h.push ob) ⟨N,2,Option.none⟩=some v2):=by
 have e:=RunS.loc H
 have c0:Wa3 h ⟨N,0,Option.none⟩=some v0:=Wb4 e 0
 have c1:Wa3 h ⟨N,1,Option.none⟩=some v1:=Wb4 e 1
 have c2:Wa3 h ⟨N,2,Option.none⟩=some v2:=Wb4 e 2
 refine ⟨λF=>?_,λF=>?_,λF=>?_,c0,c1,c2,λ_=>Wc3 c0,λ_=>Wc3 c1,λ_=>Wc3 c2⟩
 ·unfold ldH;rw [c0]
 ·unfold ldH;rw [c1]
 ·unfold ldH;rw [c2]
theorem RunS.l2 {Q:Hp} {ty:TypeId} {v0 v1 v2:Value} (H:Sat h (RunS M T tv fo x (Q*(pt N (.cells #[v0,v1,v2] ty)*R)))):(∀F:Value->Prop,ldH h ⟨N,0,Option.none⟩ F=F v0)/\(∀F:Value->Prop,ldH h ⟨N,1,Option.none⟩ F=F v1)/\(∀F:Value->Prop,ldH h ⟨N,2,Option.none⟩ F=F v2)/\Wa3 h ⟨N,0,Option.none⟩=some v0/\Wa3 h ⟨N,1,Option.none⟩=some v1/\Wa3 h ⟨N,2,Option.none⟩=some v2/\(∀ob,Wa3 (h.push ob) ⟨N,0,Option.none⟩=some v0)/\(∀ob,Wa3 (h.push ob) ⟨N,1,Option.none⟩=some v1)/\(∀ob,Wa3 (h.push ob) ⟨N,2,Option.none⟩=some v2):=by
 have e:=RunS.loc2 H
 have c0:Wa3 h ⟨N,0,Option.none⟩=some v0:=Wb4 e 0
 have c1:Wa3 h ⟨N,1,Option.none⟩=some v1:=Wb4 e 1
 have c2:Wa3 h ⟨N,2,Option.none⟩=some v2:=Wb4 e 2
 refine ⟨λF=>?_,λF=>?_,λF=>?_,c0,c1,c2,λ_=>Wc3 c0,λ_=>Wc3 c1,λ_=>Wc3 c2⟩
 ·unfold ldH;rw [c0]
 ·unfold ldH;rw [c1]
 ·unfold ldH;rw [c2]
theorem WI4 (H:Sat h (RunS M T tv fo x R)) {a:Int} (ha:iN a) (hs:x.m.mm.st < 1099511627776) (k:∀h',Sat h' (RunS M T tv fo (x.load a).2 R)->U (x.load a).1->K (uQ (x.load a).1) h') :
 Wa4 Tryz.prog 147 #[mP M,iQ a] h K:=WO7 H ha hs k
theorem WP0 (H:Sat h (RunS M T tv fo x R)) {a v:Int} (ha:iN a) (hv:U v) (hs:x.m.mm.st < 1099511627776) (k:∀h',Sat h' (RunS M T tv fo (x.store a v) R)->K (.tuple #[]) h') :
 Wa4 Tryz.prog 212 #[mP M,iQ a,uQ v] h K:=W54 H ha hv hs k
theorem Y79 (H:Sat h (RunS M T tv fo x R)) {a p n:Int} (ha:iN a) (hn:U n) (hs:x.m.mm.st < 1099511627776) (k:∀h',Sat h' (RunS M T tv fo (x.cas a p n).2 R)->K (.bool (x.cas a p n).1) h') :
 Wa4 Tryz.prog 219 #[mP M,iQ a,uQ p,uQ n] h K:=Yv1 H ha hn hs k
theorem Y80 (H:Sat h (RunS M T tv fo x R)) {a p n a2 p2:Int} (ha:iN a) (ha2:iN a2) (hn:U n) (hs:x.m.mm.st < 1099511627776) (k:∀h',Sat h' (RunS M T tv fo { x with m:=(x.m.dcss a p n a2 p2).2 } R)->K (.bool (x.m.dcss a p n a2 p2).1) h') :
 Wa4 Tryz.prog 227 #[mP M,iQ a,uQ p,uQ n,iQ a2,uQ p2] h K:=Yk2 H ha ha2 hn hs k
theorem Y81 (H:Sat h (RunS M T tv fo x R)) {a p n a2 p2 n2:Int} (ha:iN a) (ha2:iN a2) (hn:U n) (hn2:U n2) (hs:x.m.mm.st < 1099511627776) (k:∀h',Sat h' (RunS M T tv fo { x with m:=(x.m.dcas a p n a2 p2 n2).2 } R)->K (.bool (x.m.dcas a p n a2 p2 n2).1) h') :
 Wa4 Tryz.prog 229 #[mP M,iQ a,uQ p,uQ n,iQ a2,uQ p2,uQ n2] h K:=Yk3 H ha ha2 hn hn2 hs k
theorem WB6 (H:Sat h (RunS M T tv fo x R)) (k:∀h',Sat h' (RunS M T tv fo x R)->K (plV x.m.p) h') :
 Wa4 Tryz.prog 79 #[mP M] h K:=W56 H k
theorem Y82 (H:Sat h (RunS M T tv fo x R)) {i:Int} (hi:iN i) (k:∀h',Sat h' (RunS M T tv fo (x.gh λg=>g.turn i 0 1 1) R)->K (.tuple #[]) h') :
 Wa4 Tryz.prog 294 #[mP M,iQ i] h K:=Yv2 H hi k
theorem Y83 (H:Sat h (RunS M T tv fo x R)) {i:Int} (hi:iN i) (k:∀h',Sat h' (RunS M T tv fo (x.gh λg=>g.turn i 1 2 2) R)->K (.tuple #[]) h') :
 Wa4 Tryz.prog 234 #[mP M,iQ i] h K:=Yv3 H hi k
theorem Y13 (H:Sat h (RunS M T tv fo x R)) {i:Int} (hi:iN i) (k:∀h',Sat h' (RunS M T tv fo (x.gh λg=>g.turn i 2 0 3) R)->K (.tuple #[]) h') :
 Wa4 Tryz.prog 295 #[mP M,iQ i] h K:=Yk4 H hi k
theorem Y14 (H:Sat h (RunS M T tv fo x R)) (k0:x.t.fr = []->K (.pointer Option.none) h)
 (k:∀b o,x.t.fr≠[]->(∀b' o',fo=some (b',o')->b=b'/\o=o')->Sat h (RunS M T tv (some (b,o)) x R)->K (fP b o) h) :
 Wa4 Tryz.prog 105 #[mP T] h K:=YI2 (RunS.thr H) k0 λb o h1 h2 H'=>k b o h1 h2 (RunS.ofThr H')
theorem YT9 (H:Sat h (RunS M T tv fo x R)) {fn:Int} {a:Option Addr} {l c:Nat} {rs:List Int} (A:Args R a l c rs) (hl:l<=10) (hd:x.t.fr.length < 1073741824)
 (k:∀h' b o,(∀b' o',fo=some (b',o')->¬ (b=b'/\o=o'))->WY4 h' fo x.f->Sat h' (RunS M T tv (some (b,o)) (x.push fn rs) R)->K (.tuple #[]) h') :
 Wa4 Tryz.prog 130 #[mP T,iQ fn,.slice a l c] h K:=Yw0 (RunS.thr H) A.skip hl hd λh' b o h1 h2 H'=>k h' b o h1 h2 (RunS.ofThr H')
theorem YU0 (H:Sat h (RunS M T tv fo x R)) {a:Option Addr} {l c:Nat} {rs:List Int} (A:Args R a l c rs) (hl:l<=3) (k:∀h',Sat h' (RunS M T tv Option.none (x.pop rs) R)->K (.tuple #[]) h') :
 Wa4 Tryz.prog 106 #[mP T,.slice a l c] h K:=YI3 (RunS.thr H) A.skip hl λh' H'=>k h' (RunS.ofThr H')
theorem Yw1 (H:Sat h (RunS M T tv fo x R)) {fn:Int} {l:Nat} (rs:List Int) {ty:TypeId} (hr:rs.length=l) (hu:∀v ∈ rs,U v) (hl:l<=10) (hd:x.t.fr.length < 1073741824)
  (k:∀h' b o,(∀b' o',fo=some (b',o')->¬ (b=b'/\o=o'))->WY4 h' fo x.f->Sat h' (RunS M T tv (some (b,o)) (x.push fn rs) R)->K (.tuple #[]) h') :
  Wa4 Tryz.prog 130 #[mP T,iQ fn,.slice (some ⟨h.size,0,Option.none⟩) l l] (h.push (.cells (uvs rs).toArray ty)) K:=
 YT9 (RunS.new H (.cells (uvs rs).toArray ty)) (Args.mk' hr hu) hl hd λh' b o h1 h2 H'=>k h' b o h1 h2 (RunS.drp H')
theorem Yk5 (H:Sat h (RunS M T tv fo x R)) {l:Nat} (rs:List Int) {ty:TypeId} (hr:rs.length=l) (hu:∀v ∈ rs,U v) (hl:l<=3) (k:∀h',Sat h' (RunS M T tv Option.none (x.pop rs) R)->K (.tuple #[]) h') :
  Wa4 Tryz.prog 106 #[mP T,.slice (some ⟨h.size,0,Option.none⟩) l l] (h.push (.cells (uvs rs).toArray ty)) K:=
 YU0 (RunS.new H (.cells (uvs rs).toArray ty)) (Args.mk' hr hu) hl λh' H'=>k h' (RunS.drp H')
end
theorem WI5 (x:Run) (i:Nat) (v:Int):(x.s i v).t.fr.length<=x.t.fr.length+1:=by
 show (x.t.fr.dropLast ++ [_]).length<=_
 simp
theorem WP1 (x:Run) (pc:Int):(x.pc pc).t.fr.length<=x.t.fr.length+1:=by
 show (x.t.fr.dropLast ++ [_]).length<=_
 simp
theorem WY5 (x:Run) (f:Frm):(x.setF f).f=f:=by unfold Run.setF Run.f Thr.setTop Thr.top;simp
theorem f_s (x:Run) (i:Nat) (v:Int):(x.s i v).f=x.f.s i v:=WY5 _ _
theorem YP8 (x:Run) (pc:Int):(x.pc pc).f=x.f.at pc:=WY5 _ _
theorem Y84 (f:Frm) (pc:Int) (i:Nat):(f.at pc).g i=f.g i:=rfl
theorem Yw2 (f:Frm) (pc:Int):(f.at pc).pc=pc:=rfl
theorem Yw3 (f:Frm) (pc:Int):(f.at pc).fn=f.fn:=rfl
theorem Y52 (f:Frm) (i:Nat) (v:Int):(f.s i v).pc=f.pc:=rfl
theorem Y53 (f:Frm) (i:Nat) (v:Int):(f.s i v).fn=f.fn:=rfl
theorem Y15 (f:Frm) (i:Nat) (v:Int):(f.s i v).r.length=f.r.length:=by unfold Frm.s;rw [List.length_set]
theorem YP9 (f:Frm) (pc:Int):(f.at pc).r.length=f.r.length:=rfl
theorem Wc9 (f:Frm) {i j:Nat} (h:i≠j) (v:Int):(f.s i v).g j=f.g j:=by
 unfold Frm.s Frm.g
 simp only [List.getD_eq_getElem?_getD]
 rw [List.getElem?_set_ne h]
theorem g_s {f:Frm} {i:Nat} (hl:f.r.length=10) (hi:i < 10) (v:Int):(f.s i v).g i=v:=by
 unfold Frm.s Frm.g
 simp only [List.getD_eq_getElem?_getD]
 rw [List.getElem?_set_self (by omega)]
 rfl
theorem Yd7 (x:Run) (a:Int):(x.load a).2.f=x.f:=rfl
theorem WS3 (x:Run) (a v:Int):(x.store a v).f=x.f:=rfl
theorem YI4 (x:Run) (a p n:Int):(x.cas a p n).2.f=x.f:=rfl
theorem YI5 (x:Run) (a d:Int):(x.add a d).2.f=x.f:=rfl
theorem Y54 (x:Run) (g:Gh->Gh):(x.gh g).f=x.f:=rfl
theorem Yw4 (x:Run) (a:Int):(x.load a).2.t=x.t:=rfl
theorem Yw5 (x:Run) (a v:Int):(x.store a v).t=x.t:=rfl
theorem Y16 (x:Run) (a p n:Int):(x.cas a p n).2.t=x.t:=rfl
theorem Y17 (x:Run) (a d:Int):(x.add a d).2.t=x.t:=rfl
theorem Y18 (x:Run) (i:Nat) (v:Int) (j:Nat):(x.s i v).ret j=x.ret j:=rfl
theorem YQ0 (x:Run) (pc:Int) (j:Nat):(x.pc pc).ret j=x.ret j:=rfl
theorem Yd8 (x:Run) (a:Int) (j:Nat):(x.load a).2.ret j=x.ret j:=rfl
theorem WY6 (x:Run) (a v:Int) (j:Nat):(x.store a v).ret j=x.ret j:=rfl
theorem Yw6 (x:Run) (a p n:Int) (j:Nat):(x.cas a p n).2.ret j=x.ret j:=rfl
theorem Wm7 (n:Int):iN (s64 n):=by unfold s64;split <;> constructor <;> omega
theorem WS4 (w:Int):0<=Wz7 w/\Wz7 w < 65536:=⟨by unfold Wz7;omega,by unfold Wz7;omega⟩
theorem W59 (w:Int):iN (Wz7 w):=by have:=WS4 w;constructor <;> omega
theorem WY7 (w:Int):U (Wz7 w):=by have:=WS4 w;constructor <;> omega
theorem WS5 (w:Int):u64 (Wz7 w)=Wz7 w:=by have:=WS4 w;unfold u64;omega
theorem W60 (n:Int):u64 (s64 n)=u64 n:=by unfold s64 u64;split <;> omega
theorem U.u64 {n:Int} (h:U n):Mod.u64 n=n:=by unfold Mod.u64;have:=h.1;have:=h.2;omega
theorem U.lit {n:Int} (h:decide (0<=n/\n < 18446744073709551616)=true):U n:=(of_decide_eq_true h:0<=n/\n < 18446744073709551616)
theorem Yd9 (n:Int):IntKind.wrap .u64 n=Mod.u64 n:=WX5 n
theorem W16 {p:Pl} {F:Value->Value->Value->Value->Value->Value->Value->Value->Value->Value->Value->Value->Value->Value->Value->Prop} (k:F (iQ p.c.algo) (iQ p.c.threads) (iQ p.c.nodes) (iQ p.c.level) (iQ p.c.batch) (iQ p.c.probes) (iQ p.c.scan) (iQ p.slots) (iQ p.width) (iQ p.sent) (iQ p.hazards) (iQ p.links) (iQ p.nodes) (iQ p.tree) (iQ p.size)) :
 asAgg (plV p) λvs=>Wg6 vs 15 (Wc2 vs 0 λv0=>Wc2 vs 1 λv1=>Wc2 vs 2 λv2=>Wc2 vs 3 λv3=>Wc2 vs 4 λv4=>Wc2 vs 5 λv5=>Wc2 vs 6 λv6=>Wc2 vs 7 λv7=>Wc2 vs 8 λv8=>Wc2 vs 9 λv9=>Wc2 vs 10 λv10=>Wc2 vs 11 λv11=>Wc2 vs 12 λv12=>Wc2 vs 13 λv13=>Wc2 vs 14 λv14=>F v0 v1 v2 v3 v4 v5 v6 v7 v8 v9 v10 v11 v12 v13 v14):=k
theorem Yw7 {p:Pl} (B:PlB p) (n:Int):iN (p.link n):=by
 have:=B.li
 unfold Pl.link
 split
 ·have:=B.no;constructor <;> omega
 ·constructor <;> omega
theorem Ws4 {v:Int} (h:U v):∀u ∈ [v],U u:=λu hu=>by rw [List.mem_singleton.1 hu];exact h
theorem bsx:type_of% (And.intro @Wb0 (And.intro @We7 (And.intro @Wa2 (And.intro @Ww1 (And.intro @Wa6 (And.intro @Wa9 (And.intro @We8 (And.intro @Wy6 (And.intro @Wc1 (And.intro @Nat.zero_add (And.intro @Nat.mul_one (And.intro @Nat.add_assoc (And.intro @Int.toNat_natCast (And.intro @true_and (And.intro @and_true (And.intro (@Option.isNone_some Addr) (And.intro (@Option.isNone_none Addr) (And.intro @Bool.not_false (And.intro @Bool.not_true (And.intro @Wd5 (And.intro @Wc0 (And.intro @WE5 (And.intro @Yd9 (And.intro @WS5 @W60)))))))))))))))))))))))):=And.intro @Wb0 (And.intro @We7 (And.intro @Wa2 (And.intro @Ww1 (And.intro @Wa6 (And.intro @Wa9 (And.intro @We8 (And.intro @Wy6 (And.intro @Wc1 (And.intro @Nat.zero_add (And.intro @Nat.mul_one (And.intro @Nat.add_assoc (And.intro @Int.toNat_natCast (And.intro @true_and (And.intro @and_true (And.intro (@Option.isNone_some Addr) (And.intro (@Option.isNone_none Addr) (And.intro @Bool.not_false (And.intro @Bool.not_true (And.intro @Wd5 (And.intro @Wc0 (And.intro @WE5 (And.intro @Yd9 (And.intro @WS5 @W60)))))))))))))))))))))))
theorem rsx:type_of% (And.intro @Y18 (And.intro @YQ0 (And.intro @Yd8 (And.intro @WY6 (And.intro @Yw6 (And.intro @YP8 (And.intro @f_s (And.intro @Yd7 (And.intro @WS3 (And.intro @YI4 (And.intro @YI5 (And.intro @Y54 (And.intro @Yw4 (And.intro @Yw5 (And.intro @Y16 (And.intro @Y17 (And.intro @Y84 (And.intro @Yw2 (And.intro @Yw3 (And.intro @Y52 (And.intro @Y53 (And.intro @Y15 @YP9)))))))))))))))))))))):=And.intro @Y18 (And.intro @YQ0 (And.intro @Yd8 (And.intro @WY6 (And.intro @Yw6 (And.intro @YP8 (And.intro @f_s (And.intro @Yd7 (And.intro @WS3 (And.intro @YI4 (And.intro @YI5 (And.intro @Y54 (And.intro @Yw4 (And.intro @Yw5 (And.intro @Y16 (And.intro @Y17 (And.intro @Y84 (And.intro @Yw2 (And.intro @Yw3 (And.intro @Y52 (And.intro @Y53 (And.intro @Y15 @YP9)))))))))))))))))))))
end
section
set_option maxRecDepth 100000
def F111 (K:kQ) (h:Wa1) (xa xb:Option Addr):Prop:=
 (cf 105 #[.pointer xb] h λa b=>Wc8 a λa=>exI λI3=>(ifB (Option.isNone a) (I3 [.bool true,.bool true] b) (I3 [.bool (Option.isNone xa),.bool (Option.isNone xa)] b))/\(∀(b c:Value) (d:Env) (d:Wa1),(I3 [b,c] d)->(asBool b λb=>ifB b (K (.tuple #[]) d) (nP a λb=>lI .i64 d b λb=>ifB (b == 3) (cf 161 #[.pointer xa,.pointer xb,.pointer a] d λb b=>K (.tuple #[]) b) (nP a λb=>lI .i64 d b λb=>ifB (b == 4) (cf 162 #[.pointer xa,.pointer xb,.pointer a] d λb b=>K (.tuple #[]) b) (nP a λb=>lI .i64 d b λb=>ifB (b == 5) (cf 163 #[.pointer xa,.pointer xb,.pointer a] d λb b=>K (.tuple #[]) b) (nP a λb=>lI .i64 d b λb=>ifB (b == 6) (cf 164 #[.pointer xa,.pointer xb,.pointer a] d λa a=>K (.tuple #[]) a) (cf 165 #[.pointer xa,.pointer xb] d λa a=>K (.tuple #[]) a))))))))
theorem call111 {K:kQ} {h:Wa1} {xa xb:Option Addr} (H:F111 K h xa xb):Wa4 Tryz.prog 111 #[(.pointer xa),(.pointer xb)] h K:=
 cQ Tryz.func111 H
def F161 (K:kQ) (h:Wa1) (xa xb xc:Option Addr):Prop:=
 (nP xc λa=>bd 1 10 (lI .u64 h (Addr.add a 3) λa=>nP xc λb=>lI .i64 h (Addr.add b 1) λb=>ifB (b == 0) (nP xc λc=>cf 147 #[.pointer xa,iQ (IntKind.wrap .i64 a)] h λd e=>asInt .u64 d λd=>bd 2 10 (stH e (Addr.add c 4) (uQ d) λc=>nP xc λd=>stH c (Addr.add d 1) (iQ 1) λc=>nP xc λd=>bd 2 10 (lI .u64 c (Addr.add d 4) λd=>cf 231 #[uQ d] c λc d=>asInt .u64 c λc=>ifB (c == 0) (nP xc λc=>bd 2 10 (lI .u64 d (Addr.add c 4) λc=>cf 106 #[.pointer xb,.slice (some (aQ d.size)) 1 1] (Array.push d (.cells #[uQ c] 178)) λc c=>K (.tuple #[]) c)) (K (.tuple #[]) d)))) (ifB (b == 1) (nP xb λb=>ldH h b λc=>asInt .i64 c λd=>nP xc λe=>bd 0 10 (ldH h (Addr.add e 2) λf=>asInt .u64 f λg=>nP xc λi=>bd 2 10 (ldH h (Addr.add i 4) λj=>asInt .u64 j λk=>cf 79 #[.pointer xa] h λl m=>asAgg l λl=>Wg6 l 15 (Ww2 l λl n o p q r s t u v w x y z A=>((Wa3 m (Addr.add i 4))=(some j))/\(((Wa3 m (Addr.add e 2))=(some f))/\(((Wa3 m b)=(some c))/\(cf 232 #[.agg #[l,n,o,p,q,r,s,t,u,v,w,x,y,z,A],iQ d,iQ (IntKind.wrap .i64 g)] m λb c=>asInt .i64 b λb=>((Wa3 c (Addr.add i 4))=(some j))/\(cf 231 #[uQ k] c λc d=>asInt .u64 c λc=>cf 212 #[.pointer xa,iQ b,uQ c] d λb b=>nP xc λc=>stH b (Addr.add c 1) (iQ 2) λb=>K (.tuple #[]) b)))))))) (cf 147 #[.pointer xa,iQ (IntKind.wrap .i64 a)] h λa b=>asInt .u64 a λa=>exI λI64=>(nP xc λc=>bd 2 10 (lI .u64 b (Addr.add c 4) λc=>ifB (a == c) (I64 [.bool true] b) (cf 231 #[uQ a] b λb c=>asInt .u64 b λb=>I64 [.bool (b == 0)] c)))/\(∀(b:Value) (c:Env) (c:Wa1),(I64 [b] c)->(asBool b λb=>ifB b (cf 106 #[.pointer xb,.slice (some (aQ c.size)) 1 1] (Array.push c (.cells #[uQ a] 178)) λb b=>K (.tuple #[]) b) (nP xc λb=>bd 2 10 (stH c (Addr.add b 4) (uQ a) λa=>nP xc λb=>stH a (Addr.add b 1) (iQ 1) λa=>K (.tuple #[]) a))))))))
theorem call161 {K:kQ} {h:Wa1} {xa xb xc:Option Addr} (H:F161 K h xa xb xc):Wa4 Tryz.prog 161 #[(.pointer xa),(.pointer xb),(.pointer xc)] h K:=
 cQ Tryz.func161 H
def F162 (K:kQ) (h:Wa1) (xa xb xc:Option Addr):Prop:=
 (nP xc λa=>ldH h (Addr.add a 1) λb=>asInt .i64 b λc=>cf 79 #[.pointer xa] h λd e=>asAgg d λd=>Wg6 d 15 (Ww2 d λd f g i j k l m n o p q r s t=>((Wa3 e (Addr.add a 1))=(some b))/\(cf 233 #[.agg #[d,f,g,i,j,k,l,m,n,o,p,q,r,s,t]] e λd e=>asInt .i64 d λd=>((Wa3 e (Addr.add a 1))=(some b))/\(ifB (decide (c >= d)) (cf 106 #[.pointer xb,.slice none 0 0] e λa a=>K (.tuple #[]) a) (nP xb λa=>ldH e a λb=>asInt .i64 b λc=>nP xc λd=>ldH e (Addr.add d 1) λf=>asInt .i64 f λg=>cf 79 #[.pointer xa] e λe i=>asAgg e λe=>Wg6 e 15 (Ww2 e λe j k l m n o p q r s t u v w=>((Wa3 i (Addr.add d 1))=(some f))/\(((Wa3 i a)=(some b))/\(cf 232 #[.agg #[e,j,k,l,m,n,o,p,q,r,s,t,u,v,w],iQ c,iQ g] i λa b=>asInt .i64 a λa=>cf 212 #[.pointer xa,iQ a,uQ 0] b λa a=>nP xc λb=>lI .i64 a (Addr.add b 1) λb=>nP xc λc=>stH a (Addr.add c 1) (iQ (IntKind.wrap .i64 (b+1))) λa=>K (.tuple #[]) a))))))))
theorem call162 {K:kQ} {h:Wa1} {xa xb xc:Option Addr} (H:F162 K h xa xb xc):Wa4 Tryz.prog 162 #[(.pointer xa),(.pointer xb),(.pointer xc)] h K:=
 cQ Tryz.func162 H
def F163 (K:kQ) (h:Wa1) (xa xb xc:Option Addr):Prop:=
 (nP xc λa=>bd 0 10 (lI .u64 h (Addr.add a 2) λa=>cf 234 #[.pointer xa,iQ (IntKind.wrap .i64 a)] h λb b=>nP xb λc=>cf 235 #[.pointer (some (Addr.add c 8)),iQ (IntKind.wrap .i64 a)] b λa a=>cf 106 #[.pointer xb,.slice none 0 0] a λa a=>nP xb λb=>cf 211 #[.pointer (some (Addr.add b 8))] a λa b=>asInt .i64 a λa=>cf 79 #[.pointer xa] b λb c=>asAgg b λb=>Wg6 b 15 (Ww2 b λb d e f g i j k l m n o p q r=>cf 139 #[.agg #[b,d,e,f,g,i,j,k,l,m,n,o,p,q,r]] c λb c=>asAgg b λb=>Wg6 b 7 (de7 b λb b b b b b b=>asInt .i64 b λb=>ifB (decide (a >= b)) (cf 130 #[.pointer xb,iQ 6,.slice none 0 0] c λa a=>K (.tuple #[]) a) (K (.tuple #[]) c)))))
theorem call163 {K:kQ} {h:Wa1} {xa xb xc:Option Addr} (H:F163 K h xa xb xc):Wa4 Tryz.prog 163 #[(.pointer xa),(.pointer xb),(.pointer xc)] h K:=
 cQ Tryz.func163 H
def F164 (K:kQ) (h:Wa1) (xa xb xc:Option Addr):Prop:=
 (cf 79 #[.pointer xa] (Array.push h (.cells #[.pointer xb] 176)) λa b=>asAgg a λa=>Wg6 a 15 (Ww2 a λa c d e f g i j k l m n o p q=>stH (Array.push b (.cells Wp0 117)) (aQ b.size) a λa=>stH a ⟨b.size,1,none⟩ c λa=>stH a ⟨b.size,2,none⟩ d λa=>stH a ⟨b.size,3,none⟩ e λa=>stH a ⟨b.size,4,none⟩ f λa=>stH a ⟨b.size,5,none⟩ g λa=>stH a ⟨b.size,6,none⟩ i λa=>stH a ⟨b.size,7,none⟩ j λa=>stH a ⟨b.size,8,none⟩ k λa=>stH a ⟨b.size,9,none⟩ l λa=>stH a ⟨b.size,10,none⟩ m λa=>stH a ⟨b.size,11,none⟩ n λa=>stH a ⟨b.size,12,none⟩ o λa=>stH a ⟨b.size,13,none⟩ p λa=>stH a ⟨b.size,14,none⟩ q λa=>Wz6 a b.size λc d e f g i j k l m n o p q r=>Wz6 a b.size λs t u v w x y z A B C D E F G=>cf 233 #[.agg #[c,d,e,f,g,i,j,k,l,m,n,o,p,q,r]] a λa c=>asInt .i64 a λa=>ce c b.size 0 s (ce c b.size 1 t (ce c b.size 2 u (ce c b.size 3 v (ce c b.size 4 w (ce c b.size 5 x (ce c b.size 6 y (ce c b.size 7 z (ce c b.size 8 A (ce c b.size 9 B (ce c b.size 10 C (ce c b.size 11 D (ce c b.size 12 E (ce c b.size 13 F (ce c b.size 14 G (cf 139 #[.agg #[s,t,u,v,w,x,y,z,A,B,C,D,E,F,G]] c λc d=>asAgg c λc=>Wg6 c 7 (de7 c λc c e e e e e=>asInt .i64 c λc=>exI λI77=>(nP xc λe=>lI .i64 d (Addr.add e 1) λe=>ifB (e == 0) (lP d (aQ h.size) λe=>nP e λe=>stH d (Addr.add e 9) (.slice none 0 0) λe=>I77 [] e) (I77 [] d))/\(∀(d:Env) (d:Wa1),(I77 [] d)->(nP xc λe=>lI .i64 d (Addr.add e 1) λe=>ifB (decide (e < (IntKind.wrap .i64 (a*c)))) (ldH d (aQ h.size) λe=>Wc8 e λf=>ldH d (aQ h.size) λg=>Wc8 g λi=>nP i λi=>ldH d (Addr.add i 9) λj=>Wb3 j λk l m=>Wz6 d b.size λn o p q r s t u v w x y z A B=>nP xc λC=>ldH d (Addr.add C 1) λD=>asInt .i64 D λE=>Wz6 d b.size λF G H I J L M N O P Q R S T U=>nP xc λV=>ldH d (Addr.add V 1) λW=>asInt .i64 W λX=>Wz6 d b.size λY Z aa ab ac ad ae af ag ah ai aj ak al am=>cf 233 #[.agg #[F,G,H,I,J,L,M,N,O,P,Q,R,S,T,U]] d λF G=>asInt .i64 F λF=>ce G b.size 0 Y (ce G b.size 1 Z (ce G b.size 2 aa (ce G b.size 3 ab (ce G b.size 4 ac (ce G b.size 5 ad (ce G b.size 6 ae (ce G b.size 7 af (ce G b.size 8 ag (ce G b.size 9 ah (ce G b.size 10 ai (ce G b.size 11 aj (ce G b.size 12 ak (ce G b.size 13 al (ce G b.size 14 am (((Wa3 G (Addr.add V 1))=(some W))/\(((Wa3 G (Addr.add C 1))=(some D))/\(Y73 G b.size n o p q r s t u v w x y z A B (((Wa3 G (Addr.add i 9))=(some j))/\(ce G h.size 0 g (ce G h.size 0 e (((F:Int)≠0)/\(cf 233 #[.agg #[Y,Z,aa,ab,ac,ad,ae,af,ag,ah,ai,aj,ak,al,am]] G λG H=>asInt .i64 G λG=>((Wa3 H (Addr.add V 1))=(some W))/\(((Wa3 H (Addr.add C 1))=(some D))/\(Y73 H b.size n o p q r s t u v w x y z A B (((Wa3 H (Addr.add i 9))=(some j))/\(ce H h.size 0 g (ce H h.size 0 e (((G:Int)≠0)/\(cf 232 #[.agg #[n,o,p,q,r,s,t,u,v,w,x,y,z,A,B],iQ (IntKind.wrap .i64 (Int.tdiv E F)),iQ (Int.tmod X G)] H λb n=>asInt .i64 b λb=>((Wa3 n (Addr.add i 9))=(some j))/\(ce n h.size 0 g (ce n h.size 0 e (cf 147 #[.pointer xa,iQ b] n λb n=>asInt .u64 b λb=>((Wa3 n (Addr.add i 9))=(some j))/\(ce n h.size 0 g (ce n h.size 0 e (((Wa3 (Array.push n (.cells #[iQ (IntKind.wrap .i64 b)] 3)) (Addr.add i 9))=(some j))/\(((Wa3 (Array.push n (.cells #[iQ (IntKind.wrap .i64 b)] 3)) (aQ h.size))=(some g))/\(((Wa3 (Array.push n (.cells #[iQ (IntKind.wrap .i64 b)] 3)) (aQ h.size))=(some e))/\(Wp5 Tryz.prog #[25,25] 25 #[.slice k l m,.slice (some (aQ n.size)) 1 1] (Array.push n (.cells #[iQ (IntKind.wrap .i64 b)] 3)) λb g=>Wb3 b λb i j=>ce g h.size 0 e (nP f λe=>stH g (Addr.add e 9) (.slice b i j) λb=>nP xc λe=>lI .i64 b (Addr.add e 1) λe=>nP xc λf=>stH b (Addr.add f 1) (iQ (IntKind.wrap .i64 (e+1))) λb=>K (.tuple #[]) b)))))))))))))))))))))))))))))))))))))))) (exI λI174=>(nP xc λb=>lI .i64 d (Addr.add b 1) λb=>ifB (b == (IntKind.wrap .i64 (a*c))) (lP d (aQ h.size) λa=>nP a λa=>cf 238 #[.pointer (some (Addr.add a 8))] d λa b=>Wb3 a λa c e=>exI λI186=>exM λm187=>(I186 [.slice none 0 0,.tuple #[],iQ 0] b)/\(∀(b e f:Value) (g:Env) (g:Wa1),(I186 [b,e,f] g)->(asInt .i64 f λi=>ifB (decide (i < (c:Int))) (asI f λi=>bd i (c:Int) (Wd1 (.pointer a) λa=>lI .i64 g (Addr.add a (i.toNat*1)) λa=>Wl3 Tryz.prog (.func (.func 236) #[] #[.pointer (some (aQ h.size))]) #[iQ a] g λc i=>asBool c λc=>ifB (!c) (Wb3 b λc j k=>Wp5 Tryz.prog #[25,25] 25 #[.slice c j k,.slice (some (aQ i.size)) 1 1] (Array.push i (.cells #[iQ a] 3)) λc j=>Wb3 c λc k l=>asInt .i64 f λm=>(I186 [.slice c k l,iQ a,iQ (IntKind.wrap .i64 (m+1))] j)/\((m187 [.slice c k l,iQ a,iQ (IntKind.wrap .i64 (m+1))] j) < (m187 [b,e,f] g))) (asInt .i64 f λc=>(I186 [b,iQ a,iQ (IntKind.wrap .i64 (c+1))] i)/\((m187 [b,iQ a,iQ (IntKind.wrap .i64 (c+1))] i) < (m187 [b,e,f] g))))) (lP g (aQ h.size) λa=>nP a λa=>cf 239 #[.pointer (some (Addr.add a 8)),.func (.func 236) #[] #[.pointer (some (aQ h.size))]] g λa c=>asInt .i64 a λa=>lP c (aQ h.size) λa=>Wb3 b λg i j=>nP a λa=>stH c (Addr.add a 9) (.slice g i j) λa=>nP xc λc=>lI .i64 a (Addr.add c 1) λc=>nP xc λg=>stH a (Addr.add g 1) (iQ (IntKind.wrap .i64 (c+1))) λa=>I174 [b,e,f] a)))) (I174 [.tuple #[],.tuple #[],.tuple #[]] d))/\(∀(a b c:Value) (d:Env) (d:Wa1),(I174 [a,b,c] d)->(lP d (aQ h.size) λa=>nP a λa=>lS d (Addr.add a 9) λa a b=>ifB ((a:Int) == 0) (lP d (aQ h.size) λa=>cf 106 #[.pointer a,.slice none 0 0] d λa a=>K (.tuple #[]) a) (lP d (aQ h.size) λa=>nP a λa=>lS d (Addr.add a 9) λa b c=>bd 0 (b:Int) (Wd1 (.pointer a) λa=>lI .i64 d a λa=>lP d (aQ h.size) λb=>lP d (aQ h.size) λc=>nP c λc=>lS d (Addr.add c 9) λc e f=>((0:Int)<=1)/\(((1:Int)<=(e:Int))/\(nP b λb=>stH d (Addr.add b 9) (.slice (WM9 c 1 f 1) (e - 1) (f - 1)) λb=>lP b (aQ h.size) λc=>cf 130 #[.pointer c,iQ 2,.slice (some (aQ b.size)) 1 1] (Array.push b (.cells #[uQ (IntKind.wrap .u64 a)] 178)) λa a=>K (.tuple #[]) a)))))))))))))))))))))))))))
theorem call164 {K:kQ} {h:Wa1} {xa xb xc:Option Addr} (H:F164 K h xa xb xc):Wa4 Tryz.prog 164 #[(.pointer xa),(.pointer xb),(.pointer xc)] h K:=
 cQ Tryz.func164 H
def F165 (K:kQ) (h:Wa1) (xa xb:Option Addr):Prop:=
 (cf 105 #[.pointer xb] h λa b=>Wc8 a λa=>exI λI3=>(ifB (Option.isNone a) (I3 [.bool true,.bool true] b) (I3 [.bool (Option.isNone xa),.bool (Option.isNone xa)] b))/\(∀(b c:Value) (d:Env) (d:Wa1),(I3 [b,c] d)->(asBool b λb=>ifB b (K (.tuple #[]) d) (nP a λb=>lI .i64 d b λb=>ifB (b == 1) (cf 240 #[.pointer xa,.pointer xb,.pointer a] d λb b=>K (.tuple #[]) b) (nP a λb=>lI .i64 d b λb=>ifB (b == 2) (cf 241 #[.pointer xa,.pointer xb,.pointer a] d λa a=>K (.tuple #[]) a) (cf 106 #[.pointer xb,.slice none 0 0] d λa a=>K (.tuple #[]) a))))))
theorem call165 {K:kQ} {h:Wa1} {xa xb:Option Addr} (H:F165 K h xa xb):Wa4 Tryz.prog 165 #[(.pointer xa),(.pointer xb)] h K:=
 cQ Tryz.func165 H
def F231 (K:kQ) (h:Wa1) (xa:Int):Prop:=
 (cf 146 #[uQ xa] h λa b=>asInt .i64 a λa=>K (uQ (IntKind.wrap .u64 a)) b)
theorem call231 {K:kQ} {h:Wa1} {xa:Int} (H:F231 K h xa):Wa4 Tryz.prog 231 #[(uQ xa)] h K:=
 cQ Tryz.func231 H
def F236 (K:kQ) (h:Wa1) (xa:Int) (c0:Value):Prop:=
 (Wd1 c0 λa=>lP h a λa=>nP a λa=>lS h (Addr.add a 9) λa b c=>cf 237 #[.slice a b c,iQ xa] h λa b=>asBool a λa=>K (.bool a) b)
theorem call236 {K:kQ} {h:Wa1} {xa:Int} {c0:Value} (H:F236 K h xa c0):Wa4 Tryz.prog 236 #[(iQ xa),c0] h K:=
 cQ Tryz.func236 H
def F240 (K:kQ) (h:Wa1) (xa xb xc:Option Addr):Prop:=
 (nP xc λa=>bd 0 10 (lI .u64 h (Addr.add a 2) λa=>cf 292 #[uQ a] h λa b=>asInt .i64 a λa=>nP xc λc=>lI .i64 b (Addr.add c 1) λc=>ifB (c == 0) (nP xc λd=>cf 147 #[.pointer xa,iQ 0] b λe f=>asInt .u64 e λe=>bd 0 10 (stH f (Addr.add d 2) (uQ e) λd=>nP xc λe=>stH d (Addr.add e 1) (iQ 1) λd=>nP xc λe=>bd 0 10 (lI .u64 d (Addr.add e 2) λe=>cf 292 #[uQ e] d λd e=>asInt .i64 d λd=>ifB (d == 0) (cf 106 #[.pointer xb,.slice (some (aQ e.size)) 1 1] (Array.push e (.cells #[uQ 0] 178)) λd d=>K (.tuple #[]) d) (K (.tuple #[]) e)))) (ifB (c == 1) (nP xc λc=>cf 79 #[.pointer xa] b λd e=>asAgg d λd=>Wg6 d 15 (Ww2 d λd f g i j k l m n o p q r s t=>cf 142 #[.agg #[d,f,g,i,j,k,l,m,n,o,p,q,r,s,t],iQ a] e λd e=>asInt .i64 d λd=>cf 147 #[.pointer xa,iQ d] e λd e=>asInt .u64 d λd=>bd 1 10 (stH e (Addr.add c 3) (uQ d) λc=>nP xc λd=>stH c (Addr.add d 1) (iQ 2) λc=>K (.tuple #[]) c))) (nP xc λc=>stH b (Addr.add c 1) (iQ 0) λb=>nP xc λc=>bd 0 10 (lI .u64 b (Addr.add c 2) λc=>nP xc λd=>bd 1 10 (lI .u64 b (Addr.add d 3) λd=>cf 293 #[.pointer xa,uQ c,iQ (IntKind.wrap .i64 d)] b λb c=>asBool b λb=>ifB b (cf 294 #[.pointer xa,iQ a] c λb b=>cf 106 #[.pointer xb,.slice (some (aQ b.size)) 1 1] (Array.push b (.cells #[uQ (IntKind.wrap .u64 a)] 178)) λa a=>K (.tuple #[]) a) (K (.tuple #[]) c)))))))
theorem call240 {K:kQ} {h:Wa1} {xa xb xc:Option Addr} (H:F240 K h xa xb xc):Wa4 Tryz.prog 240 #[(.pointer xa),(.pointer xb),(.pointer xc)] h K:=
 cQ Tryz.func240 H
def F241 (K:kQ) (h:Wa1) (xa xb xc:Option Addr):Prop:=
 (nP xc λa=>bd 0 10 (lI .u64 h (Addr.add a 2) λa=>nP xc λb=>lI .i64 h (Addr.add b 1) λb=>ifB (b == 0) (nP xc λc=>cf 147 #[.pointer xa,iQ 0] h λd e=>asInt .u64 d λd=>bd 1 10 (stH e (Addr.add c 3) (uQ d) λc=>nP xc λd=>stH c (Addr.add d 1) (iQ 1) λc=>K (.tuple #[]) c)) (ifB (b == 1) (nP xc λb=>bd 1 10 (ldH h (Addr.add b 3) λc=>asInt .u64 c λd=>cf 79 #[.pointer xa] h λe f=>asAgg e λe=>Wg6 e 15 (Ww2 e λe g i j k l m n o p q r s t u=>((Wa3 f (Addr.add b 3))=(some c))/\(cf 142 #[.agg #[e,g,i,j,k,l,m,n,o,p,q,r,s,t,u],iQ (IntKind.wrap .i64 a)] f λe f=>asInt .i64 e λe=>((Wa3 f (Addr.add b 3))=(some c))/\(cf 292 #[uQ d] f λb c=>asInt .i64 b λb=>cf 212 #[.pointer xa,iQ e,uQ (IntKind.wrap .u64 b)] c λb b=>nP xc λc=>stH b (Addr.add c 1) (iQ 2) λb=>K (.tuple #[]) b))))) (nP xc λb=>stH h (Addr.add b 1) (iQ 0) λb=>nP xc λc=>bd 1 10 (lI .u64 b (Addr.add c 3) λc=>cf 293 #[.pointer xa,uQ c,iQ (IntKind.wrap .i64 a)] b λb c=>asBool b λb=>ifB b (cf 295 #[.pointer xa,iQ (IntKind.wrap .i64 a)] c λb b=>cf 106 #[.pointer xb,.slice (some (aQ b.size)) 1 1] (Array.push b (.cells #[uQ (IntKind.wrap .u64 (IntKind.wrap .i64 a))] 178)) λa a=>K (.tuple #[]) a) (K (.tuple #[]) c))))))
theorem call241 {K:kQ} {h:Wa1} {xa xb xc:Option Addr} (H:F241 K h xa xb xc):Wa4 Tryz.prog 241 #[(.pointer xa),(.pointer xb),(.pointer xc)] h K:=
 cQ Tryz.func241 H
def F292 (K:kQ) (h:Wa1) (xa:Int):Prop:=
 (cf 146 #[uQ xa] h λa b=>asInt .i64 a λa=>K (iQ a) b)
theorem call292 {K:kQ} {h:Wa1} {xa:Int} (H:F292 K h xa):Wa4 Tryz.prog 292 #[(uQ xa)] h K:=
 cQ Tryz.func292 H
def F293 (K:kQ) (h:Wa1) (xa:Option Addr) (xb xc:Int):Prop:=
 (cf 228 #[uQ xb,iQ xc,.bool false] h λa b=>asInt .u64 a λa=>cf 219 #[.pointer xa,iQ 0,uQ xb,uQ a] b λa b=>asBool a λa=>K (.bool a) b)
theorem call293 {K:kQ} {h:Wa1} {xa:Option Addr} {xb xc:Int} (H:F293 K h xa xb xc):Wa4 Tryz.prog 293 #[(.pointer xa),(uQ xb),(iQ xc)] h K:=
 cQ Tryz.func293 H
end
section
open Mod
section
variable {K:kQ} {h:Wa1} {M T b o N:Nat} {tv:Value} {fo:Option (Nat × Nat)} {x:Run} {R:Hp}
theorem WI6 {w:Int} (hw:U w) (k:K (iQ (Wz7 w)) h):Wa4 Tryz.prog 292 #[uQ w] h K:=by
 refine call292 ?_
 unfold F292 cf
 refine Wa0 (Wj2 hw ?_)
 simp only [Wa2]
 exact k
theorem WI7 (H:Sat h (RunS M T tv fo x R)) {w to_:Int} (hw:U w) (hs:x.m.mm.st < 1099511627776) (k:∀h',Sat h' (RunS M T tv fo (x.cas 0 w (WD4 w to_ false)).2 R)->K (.bool (x.cas 0 w (WD4 w to_ false)).1) h') :
  Wa4 Tryz.prog 293 #[mP M,uQ w,iQ to_] h K:=by
 refine call293 ?_
 unfold F293 cf
 refine Wa0 (Wp9 hw ?_)
 simp only [Wa2]
 refine Wa0 (Y79 H (by decide) WH7 hs λh' H'=>?_)
 simp only [Wa6]
 exact k h' H'
theorem Yk6 (H:Sat h (RunS M T tv (some (b,o)) x R)) (hs:x.m.mm.st < 1099511627776) (k:∀h',Sat h' (RunS M T tv none (alloc x) R)->K (.tuple #[]) h') :
  Wa4 Tryz.prog 240 #[mP M,mP T,fP b o] h K:=by
 refine call240 ?_
 unfold F240 cf bd lI nP Ww2
 have B:=RunS.fB H
 have P:=RunS.pl H
 unfold alloc at k
 try simp +decide only [Wc5,bsx,Nat.reduceAdd,Int.reduceLE,Int.reduceLT,Int.reduceToNat,rsx,g_s,Wc9,RunS.r H]
 refine Wa0 (WI6 (B.g 0) ?_)
 try simp +decide only [Wc5,bsx,Nat.reduceAdd,Int.reduceLE,Int.reduceLT,Int.reduceToNat,rsx,g_s,Wc9,RunS.r H]
 refine Wa7 (λc=>?_) (λc=>?_)
 ·rw [if_pos c] at k
  refine Wa0 (WI4 H (by decide) hs λh1 H1 u1=>?_)
  refine sb ?_
  refine RunS.stR (i:=0) H1 rfl u1 λh2 H2=>RunS.stP H2 λh3 H3=>?_
  try simp +decide only [Wc5,bsx,Nat.reduceAdd,Int.reduceLE,Int.reduceLT,Int.reduceToNat,rsx,g_s,Wc9,RunS.r H3,B.len]
  refine Wa0 (WI6 u1 ?_)
  refine sb ?_
  refine Wa7 (λc2=>?_) (λc2=>?_)
  ·simp only [if_pos c2] at k
   exact Wa0 (Yk5 H3 [0] rfl (Ws4 U0) (by omega) λh4 H4=>k h4 H4)
  ·simp only [if_neg c2] at k
   exact k h3 (RunS.none H3)
 rw [if_neg c] at k
 refine Wa7 (λc=>?_) (λc=>?_)
 ·rw [if_pos c] at k
  refine Wa0 (WB6 H λh1 H1=>W16 ?_)
  refine Wa0 (Ww4 P (W59 _) λh2 o2=>?_)
  refine sb ?_
  refine Wa0 (WI4 (RunS.old H1 o2) (Yw7 P _) hs λh3 H3 u3=>?_)
  refine sb ?_
  exact RunS.stR (i:=1) H3 rfl u3 λh4 H4=>RunS.stP H4 λh5 H5=>k h5 (RunS.none H5)
 ·rw [if_neg c] at k
  refine RunS.stP H λh1 H1=>?_
  try simp +decide only [Wc5,bsx,Nat.reduceAdd,Int.reduceLE,Int.reduceLT,Int.reduceToNat,rsx,g_s,Wc9,RunS.r H1]
  refine Wa0 (WI7 H1 (B.g 0) hs λh2 H2=>?_)
  refine sb ?_
  refine Wb7 (λc=>?_) (λc=>?_)
  ·simp only [if_pos c] at k
   refine Wa0 (Y82 H2 (W59 _) λh3 H3=>?_)
   exact Wa0 (Yk5 H3 [Wz7 (x.f.g 0)] rfl (Ws4 (WY7 _)) (by omega) λh4 H4=>k h4 H4)
  ·simp only [c] at k
   exact k h2 (RunS.none H2)
theorem WY8 (H:Sat h (RunS M T tv (some (b,o)) x R)) (hs:x.m.mm.st < 1099511627776) (k:∀h',Sat h' (RunS M T tv none (Wo1 x) R)->K (.tuple #[]) h') :
  Wa4 Tryz.prog 241 #[mP M,mP T,fP b o] h K:=by
 refine call241 ?_
 unfold F241 cf bd lI nP Ww2
 have B:=RunS.fB H
 have P:=RunS.pl H
 unfold Wo1 at k
 try simp +decide only [Wc5,bsx,Nat.reduceAdd,Int.reduceLE,Int.reduceLT,Int.reduceToNat,rsx,g_s,Wc9,RunS.r H]
 refine Wa7 (λc=>?_) (λc=>?_)
 ·rw [if_pos c] at k
  refine Wa0 (WI4 H (by decide) hs λh1 H1 u1=>?_)
  refine sb ?_
  exact RunS.stR (i:=1) H1 rfl u1 λh2 H2=>RunS.stP H2 λh3 H3=>k h3 (RunS.none H3)
 rw [if_neg c] at k
 refine Wa7 (λc=>?_) (λc=>?_)
 ·rw [if_pos c] at k
  refine Wa0 (WB6 H λh1 H1=>W16 ⟨(RunS.c H1).2.2.1,?_⟩)
  refine Wa0 (Ww4 P (Wm7 _) λh2 o2=>?_)
  have H2:=RunS.old H1 o2
  try simp only [Wc5,bsx,Nat.reduceAdd,Int.reduceLE,Int.reduceLT,Int.reduceToNat,RunS.c H2]
  refine Wa0 (WI6 (B.g 1) ?_)
  refine sb ?_
  refine Wa0 (WP0 H2 (Yw7 P _) (WY7 _) hs λh3 H3=>?_)
  exact RunS.stP H3 λh4 H4=>k h4 (RunS.none H4)
 ·rw [if_neg c] at k
  refine RunS.stP H λh1 H1=>?_
  try simp +decide only [Wc5,bsx,Nat.reduceAdd,Int.reduceLE,Int.reduceLT,Int.reduceToNat,rsx,g_s,Wc9,RunS.r H1]
  refine Wa0 (WI7 H1 (B.g 1) hs λh2 H2=>?_)
  refine sb ?_
  refine Wb7 (λc=>?_) (λc=>?_)
  ·simp only [if_pos c] at k
   refine Wa0 (Y13 H2 (Wm7 _) λh3 H3=>?_)
   exact Wa0 (Yk5 H3 [u64 (x.f.g 0)] rfl (Ws4 (Ws3 _)) (by omega) λh4 H4=>k h4 (by rw [W60];exact H4))
  ·simp only [c] at k
   exact k h2 (RunS.none H2)
end
end
section

end
section
def Y85 (h:Wa1) (ad:Addr) (o:Op9):Prop:=Wa3 h ad=some (iQ o.th)/\∀j v,o.cells[j]? = some v->Wa3 h (ad.add j)=some v
theorem ld9 {h:Wa1} {ad:Addr} {o:Op9} {K:Value->Value->Value->Value->Value->Value->Value->Value->Value->Prop} (H:Y85 h ad o)
  (k:K (iQ o.th) (iQ o.op) (.int .u32 o.key) (.int .u32 o.val) (iQ o.kind) (.int .u32 o.ak) (.int .u32 o.av) (iQ o.fr) (iQ o.to)) :
  ldH h ad λv0=>ldH h (ad.add 1) λv1=>ldH h (ad.add 2) λv2=>ldH h (ad.add 3) λv3=>ldH h (ad.add 4) λv4=>ldH h (ad.add 5) λv5=>ldH h (ad.add 6) λv6=>ldH h (ad.add 7) λv7=>ldH h (ad.add 8) λv8=>K v0 v1 v2 v3 v4 v5 v6 v7 v8:=
 Wb5 H.1 (Wb5 (H.2 1 _ rfl) (Wb5 (H.2 2 _ rfl) (Wb5 (H.2 3 _ rfl) (Wb5 (H.2 4 _ rfl) (Wb5 (H.2 5 _ rfl) (Wb5 (H.2 6 _ rfl) (Wb5 (H.2 7 _ rfl) (Wb5 (H.2 8 _ rfl) k))))))))
end
section
def OldA (av:Nat->Prop) (h h':Wa1):Prop:=h.size<=h'.size/\∀b,b < h.size->¬ av b->h'[b]? = h[b]?
theorem OldA.of {av:Nat->Prop} {h h':Wa1} (o:Old h.size h h'):OldA av h h':=⟨o.1,λb hb _=>o.2 b hb⟩
theorem OldA.cell {av:Nat->Prop} {h h':Wa1} {a:Addr} {v:Value} (o:OldA av h h') (ha:¬ av a.block) (hc:Wa3 h a=some v):Wa3 h' a=some v:=(Wi1 (o.2 _ (Ws8 hc) ha)).trans hc
def YI6 (av:Nat->Prop) (g:Value) (L:List Int) (h:Wa1):Prop:=
 ∃f fst cap Ev,g=.func (.func f) fst cap/\YP1 Tryz.prog g L.length (Wy8 L) Ev/\Ev h/\∀h h',OldA av h h'->Ev h->Ev h'
def KeepOnA (av:Nat->Prop) (f:Value) (D:Int->Prop) (p:Int->Bool) (h:Wa1):Prop:=
 (∃g x y,f=.func (.func g) x y)/\∃Ev:Wa1->Prop,Ev h/\(∀h h',OldA av h h'->Ev h->Ev h') /\
  ∀(h:Wa1) (x:Int) (K:kQ),Ev h->D x->(∀h',Old h.size h h'->K (.bool (p x)) h')->Wl3 Tryz.prog f #[iQ x] h K
theorem KeepOnA.old {av:Nat->Prop} {f:Value} {D:Int->Prop} {p:Int->Bool} {h h':Wa1} (H:KeepOnA av f D p h) (o:OldA av h h'):KeepOnA av f D p h':=by
 obtain ⟨e,Ev,h1,h2,h3⟩:=H
 exact ⟨e,Ev,h2 _ _ o h1,h2,h3⟩
theorem KeepOnA.call {av:Nat->Prop} {f:Value} {D:Int->Prop} {p:Int->Bool} {h:Wa1} (H:KeepOnA av f D p h) {x:Int} (hD:D x) {K:kQ} (k:∀h',Old h.size h h'->K (.bool (p x)) h'):Wl3 Tryz.prog f #[iQ x] h K:=by
 obtain ⟨_,Ev,h1,_,h3⟩:=H
 exact h3 _ _ _ h1 hD k
theorem Yk7 {K:kQ} {h:Wa1} {av:Nat->Prop} {g f:Value} {L:List Int} {D:Int->Prop} {p:Int->Bool} (H:YI6 av g L h) (Hk:KeepOnA av f D p h) (hD:∀x ∈ L,D x) (hav:∀b,av b->b < h.size)
  (k:∀g' h',YI6 av g' (L.filter p) h'->Old h.size h h'->K g' h'):Wa4 Tryz.prog 290 #[g,f] h K:=by
 obtain ⟨f0,fst,cap,Ev,rfl,hs,he,hst⟩:=H
 obtain ⟨⟨f1,a1,a2,rfl⟩,Ek,hk1,hk2,hk3⟩:=Hk
 refine call290 ?_
 unfold F290 g290
 obtain ⟨ho,h1,h2⟩:=Y72 (h:=h) (.cells #[.func (.func f0) fst cap] 311) (.cells #[.func (.func f1) a1 a2] 102)
 simp only [WG3]
 rw [Array.size_push]
 generalize (h.push (.cells #[.func (.func f0) fst cap] 311)).push (.cells #[.func (.func f1) a1 a2] 102)=h5 at *
 refine ⟨λvs h'=>vs = [.bool false]/\h' = h5,?_,?_⟩
 ·refine Wb5 (Wh6 h1) ?_
  simp only [WC5,Wc0]
  refine Wb5 (Wh6 h2) ?_
  simp only [WC5]
  exact ⟨by trivial,by trivial⟩
 ·rintro v5 g6 h7 ⟨e,rfl⟩
  cases e
  simp only [Wa6,Wc0]
  refine k _ _ ⟨_,_,_,_,rfl,YH4 hD (show fnV (.func (.func f0) fst cap) from trivial) hs (λa b o e=>hst _ _ (OldA.of o) e) (λa b o e=>hk2 _ _ (OldA.of o) e) hk3,⟨Wh6 h1,Wh6 h2,hst _ _ (OldA.of ho) he,hk2 _ _ (OldA.of ho) hk1⟩,
   λa b o e=>⟨o.cell (λx=>?_) e.1,o.cell (λx=>?_) e.2.1,hst _ _ o e.2.2.1,hk2 _ _ o e.2.2.2⟩⟩ ho
  ·have:=hav _ x;simp at this
  ·have:=hav _ x;simp at this;omega
end
section
open Mod
theorem W61 {K:kQ} {h:Wa1} {a:Option Addr} {l c:Nat} {xs:List Int} {x:Int} (H:RI h a l c xs) (hl:l < 2 ^ 60) (k:∀n:Int,(decide (n >= 0)=xs.contains x)->K (iQ n) h) :
  Wa4 Tryz.prog 289 #[.slice a l c,iQ x] h K:=by
 refine call289 ?_
 unfold F289 bd lI
 have hlen:=H.len
 refine ⟨λvs h'=>∃w1 w2,∃i:Nat,vs = [w1,w2,iv i]/\i<=l/\h' = h/\(xs.take i).contains x=false,λvs _=>(match vs with | [_,_,.int _ n]=>l - n.toNat | _=>0),⟨_,_,0,rfl,Nat.zero_le _,rfl,rfl⟩,?_⟩
 rintro v2 v3 v4 g5 h6 ⟨w1,w2,i,e,hi,rfl,hno⟩
 cases e
 simp only [Wa2]
 refine Wa7 (λhlt=>?_) (λhge=>?_)
 ·have hi':i < xs.length:=by omega
  obtain ⟨ad,rfl,hc⟩:=H.at hi'
  have htk:(xs.take (i+1)).contains x=((xs.take i).contains x || (xs[i] == x)):=by
   rw [List.take_succ_eq_append_getElem hi',Bool.eq_iff_iff,Bool.or_eq_true,List.contains_iff_mem,List.contains_iff_mem,List.mem_append,List.mem_singleton,beq_iff_eq]
   exact or_congr Iff.rfl eq_comm
  refine ⟨by omega,hlt,?_⟩
  simp only [Wb0,Int.toNat_natCast,Nat.mul_one]
  refine Wb5 hc ?_
  simp only [Wa2]
  refine Wb7 (λhq=>?_) (λhq=>?_)
  ·have hq':x=xs[i]:=by simpa using hq
   refine k i ?_
   have:xs.contains x=true:=by rw [hq'];simp
   rw [this];simp
  ·rw [Wf1 (by omega)]
   have hq':¬ x=xs[i]:=by simpa using hq
   exact ⟨⟨_,_,i+1,rfl,by omega,by trivial,by rw [htk,hno];simp [Ne.symm hq']⟩,by show l - ((i+1:Nat):Int).toNat < l - (i:Int).toNat;omega⟩
 ·rw [List.take_of_length_le (by omega)] at hno
  exact k (-1) (by rw [hno];decide)
theorem WM6 {K:kQ} {h:Wa1} {a:Option Addr} {l c:Nat} {xs:List Int} {x:Int} (H:RI h a l c xs) (hl:l < 2 ^ 60) (k:K (.bool (xs.contains x)) h) :
  Wa4 Tryz.prog 237 #[.slice a l c,iQ x] h K:=by
 refine call237 ?_
 unfold F237 cf
 refine Wa0 (W61 H hl λn hn=>?_)
 simp only [Wa2]
 rw [hn];exact k
theorem RI.congrA {av:Nat->Prop} {h h':Wa1} {a:Option Addr} {l c:Nat} {xs:List Int} (H:RI h a l c xs) (o:OldA av h h') (ha:xs≠[]->∀ad,a=some ad->¬ av ad.block):RI h' a l c xs:=by
 refine ⟨λi v hi=>?_,H.len,H.cap⟩
 obtain ⟨ad,e,hc⟩:=H.s i v hi
 refine ⟨ad,e,(Wi1 ?_).trans hc⟩
 have hlt:=Ws8 hc
 rw [WG2] at hlt ⊢
 exact o.2 _ hlt (ha (λe=>by rw [e] at hi;simp at hi) ad e)
theorem Yw8 {K:kQ} {h:Wa1} {av:Nat->Prop} {a:Option Addr} {l c:Nat} {xs:List Int} (H:RI h a l c xs) (hl:l < 2 ^ 60) (hna:xs≠[]->∀ad,a=some ad->¬ av ad.block) (hav:∀b,av b->b < h.size) (k:∀g h',YI6 av g xs h'->Old h.size h h'->K g h') :
  Wa4 Tryz.prog 291 #[.slice a l c] h K:=by
 refine call291 ?_
 unfold F291
 have o1:Old h.size h (h.push (.cells #[.slice a l c] 25)):=(Old.refl _ _).push _ (Nat.le_refl _)
 exact k _ _ ⟨_,_,_,_,rfl,Y02 hl,⟨Wh6 (Wk6 _ _),H.old o1⟩,λh h' o e=>⟨o.cell (λx=>by have:=hav _ x;simp at this) e.1,e.2.congrA o hna⟩⟩ o1
theorem WS6 {h:Wa1} {N:Nat} {g:Value} {L:List Int} {D:Wa1->Prop} (H:YI6 (λb=>b=N) g L h) (hN:h[N]? = some (.cells #[.slice none 0 0] 25)) (hn:L.length<=2 ^ 39)
  (k:∀h' a c,h.size<=h'.size->(∀b,b < h.size->b≠N->h'[b]? = h[b]?)->h'[N]? = some (.cells #[.slice a L.length c] 25)->OwnI h' a L.length c L->(∀b,blk a b->h.size<=b)->D h') :
  WF2 Tryz.prog g 1 h (λI vs hh=>asInt .i64 (vs.getD 0 (.tuple #[])) λn=>ldH hh (aQ N) λv=>Wb3 v λo l c=>Wp5 Tryz.prog #[25,25] 25 #[.slice o l c,.slice (some (aQ hh.size)) 1 1] (hh.push (.cells #[iQ n] 3)) λv h2=>Wb3 v λo l c=>stH h2 (aQ N) (.slice o l c) λh3=>I .normal h3) D []:=by
 obtain ⟨f0,fst,cap,Ev,rfl,hs,he,hst⟩:=H
 have hlt:=(Array.getElem?_eq_some_iff.1 hN).1
 refine Yj1 (n:=L.length) (xs:=Wy8 L) (Ev:=Ev)
  (λj w h'=>h.size<=h'.size/\(∀b,b < h.size->b≠N->h'[b]? = h[b]?)/\∃a c,h'[N]? = some (.cells #[.slice a j c] 25)/\OwnI h' a j c (L.take j)/\∀b,blk a b->w b) (λ_ _ _=>False)
  (show fnV (.func (.func f0) fst cap) from trivial) hs (λ_ _=>rfl) ?_ (λ_ _ _ _ _ _ _ x=>x) (λj w' h' x=>hst _ _ ⟨x.1,x.2.1⟩ he) ⟨Nat.le_refl _,λ_ _ _=>rfl,none,0,hN,Own.nil _ _ _,λb hb=>by obtain ⟨_,e,_⟩:=hb;cases e⟩ ?_ ?_ trivial
 ·rintro j w' ha hb hs1 hs2 hw ⟨x1,x2,a,c,x3,x4,x5⟩
  exact ⟨Nat.le_trans x1 hs1,λb hb hne=>(hs2 b hb).trans (x2 b hb hne),a,c,(hs2 _ hlt).trans x3,x4.congr λb hb=>hw b (x5 b hb),x5⟩
 ·rintro M j w' h13 hj hM hs1 hw ⟨x1,x2,a,c,x3,x4,x5⟩
  have e2:(Wy8 L j).getD 0 (.tuple #[])=iQ L[j]:=by unfold Wy8;simp [hj]
  rw [e2]
  simp only [Wa2]
  refine Wb5 (Wh6 x3) ?_
  simp only [Wa9]
  refine YS1 x4 (by omega) λa2 c2 h2 own2 hs2 old2 hor=>?_
  simp only [Wa9]
  have hNa:∀ad,a=some ad->ad.block≠N:=λad e he=>by
   have:=(hw _ (x5 _ ⟨ad,e,rfl⟩)).1
   omega
  have x3':h2[N]? = some (.cells #[.slice a j c] 25):=(old2 _ (by omega) hNa).trans x3
  refine WW6 x3' (by simp) trivial ?_
  rintro h21 rfl
  have hbig:∀b,blk a2 b->M<=b:=by
   rintro b ⟨ad,e,rfl⟩
   rcases hor with rfl | ⟨b',rfl,hb⟩
   ·exact (hw _ (x5 _ ⟨ad,e,rfl⟩)).1
   ·cases e;show M<=b';omega
  have own3:OwnI (h2.setIfInBounds N (.cells ((#[.slice a j c]:Array Value).setIfInBounds 0 (.slice a2 (j+1) c2)) 25)) a2 (j+1) c2 (L.take j ++ [L[j]]):=
   own2.congr λb hb=>Wj6 (by have:=hbig b hb;omega)
  refine ⟨⟨by simp;exact hs2,λb hb1 hb2=>?_⟩,by simp;omega,blk a2,λb hb=>⟨hbig b hb,?_⟩,by simp;omega,λb hb hne=>?_,a2,c2,?_,?_,λb hb=>hb⟩
  ·refine (Wj6 (by omega)).trans (old2 b (by omega) λad e he=>?_)
   have:=(hw _ (x5 _ ⟨ad,e,rfl⟩)).1
   omega
  ·rcases own3.2.2 with ⟨e,_⟩ | ⟨b',row,e,hb',_⟩
   ·obtain ⟨_,e',_⟩:=hb;rw [e] at e';cases e'
   ·obtain ⟨ad,e',rfl⟩:=hb
    rw [e] at e'
    cases e'
    exact ⟨row,_,_,hb'⟩
  ·refine (Wj6 hne).trans ((old2 b (by omega) λad e he=>?_).trans (x2 b hb hne))
   have:=(hw _ (x5 _ ⟨ad,e,rfl⟩)).1
   omega
  ·exact Wi8 (by omega)
  ·rw [List.take_succ_eq_append_getElem hj];exact own3
 ·rintro M w' h22 hM hs1 hw ⟨x1,x2,a,c,x3,x4,x5⟩
  rw [List.take_length] at x4
  exact k h22 a c x1 x2 x3 x4 λb hb=>by have:=(hw b (x5 b hb)).1;omega
end
end Go.Proofs.YtahpbclnkofhfaaGreat
