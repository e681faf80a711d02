/- Part 13 of what the proofs of this seat rest on: see the last text of the claim. -/
import Derived.Test.YtahpbclnkofhfaaGreatQ074a2f884efd
import Derived.Test.YtahpbclnkofhfaaGreatProg
set_option linter.unusedSimpArgs false
set_option linter.unusedVariables false
set_option linter.ambiguousOpen false
set_option maxRecDepth 20000
namespace Go.Proofs.YtahpbclnkofhfaaGreat
section
set_option maxRecDepth 100000
abbrev g3 (K:Value→Wa1→Prop) (h H1 H2:Wa1):Prop:=
 (dl7 H2 H1.size λa b c d e f g=>cf 9 #[.agg #[a,b,c,d,e,f,g]] H2 λa b=>asBool a λa=>ifB (!a) (cf 10 #[] b λa c=>asBool a λa=>K (.bool a) c) (YF6 b h.size λa c d e f g i j k l=>dl7 b H1.size λm n o p q r s=>cf 11 #[.agg #[a,c,d,e,f,g,i,j,k,l],.agg #[m,n,o,p,q,r,s],.int .i64 2,.int .i64 60] b λa b=>asAgg a λa=>We0 a 10 (ZM0 a λa c d e f g i j k l=>ZB6 b h.size a c d e f g i j k l λa=>lS a ⟨h.size,8,none⟩ λb c d=>exI λI57=>exM λm58=>(I57 [.bool false,.int .i64 0,.int .i64 0,.int .i64 0,.int .i64 0,.int .i64 0,.int .i64 1,.tuple #[],.tuple #[],.tuple #[],.tuple #[],.tuple #[],.tuple #[],.tuple #[]] a)∧(∀(a e f g i j k l m n o p q r:Value) (s:Env) (s:Wa1),(I57 [a,e,f,g,i,j,k,l,m,n,o,p,q,r] s)→(asInt .i64 k λt=>ifB (decide (t≤(c:Int))) (asInt .i64 k λc=>((0:Int)≤c)∧(((c:Int)≤(d:Int))∧(stH s ⟨h.size,8,none⟩ (.slice (YP8 b 0 d 1) (c.toNat - 0) (d - 0)) λb=>YF6 b h.size λc d t u v w x y z A=>cf 12 #[.agg #[c,d,t,u,v,w,x,y,z,A]] b λb c=>Wg5 b λd=>Wc0 d 0 λd=>asAgg d λd=>We0 d 5 (de5 d λd t u v w=>Wg5 b λx=>Wc0 x 1 λx=>Wb1 x λx=>Wg5 b λy=>Wc0 y 2 λy=>asInt .i64 y λy=>stH (Array.push c (.cells #[.slice none 0 0,.int .i64 0,.int .i64 0,.bool false,.int .i64 0] 34)) ⟨c.size,0,none⟩ d λd=>stH d ⟨c.size,1,none⟩ t λd=>stH d ⟨c.size,2,none⟩ u λd=>stH d ⟨c.size,3,none⟩ v λd=>stH d ⟨c.size,4,none⟩ w λd=>ifB (y != 0) (K (.bool false) d) (exI λI109=>exM λm110=>(I109 [.int .i64 0,.int .i64 0] d)∧(∀(d t:Value) (u:Env) (u:Wa1),(I109 [d,t] u)→(asInt .i64 t λv=>lS u ⟨c.size,0,none⟩ λw w z=>ifB (decide (v < (w:Int))) (exI λI120=>(lS u ⟨c.size,0,none⟩ λv w z=>asInt .i64 t λz=>bd z (w:Int) (Wd2 (.pointer v) λv=>ldH u (Addr.add (Addr.add v (z.toNat*8)) 1) λv=>asBool v λv=>ifB v (asInt .i64 d λv=>I120 [.int .i64 (IntKind.wrap .i64 (v+1))] u) (I120 [d] u)))∧(∀(v:Value) (w:Env) (w:Wa1),(I120 [v] w)→(asInt .i64 t λz=>(I109 [v,.int .i64 (IntKind.wrap .i64 (z+1))] w)∧((m110 [v,.int .i64 (IntKind.wrap .i64 (z+1))] w) < (m110 [d,t] u))))) (exI λI134=>(lI .i64 u ⟨c.size,2,none⟩ λv=>asInt .i64 g λw=>ifB (decide (v > w)) (asInt .i64 g λv=>I134 [e,f,.int .i64 (IntKind.wrap .i64 (v+1)),i,.bool true,r] u) (asInt .i64 d λv=>asInt .i64 i λw=>ifB (decide (v > w)) (asInt .i64 i λv=>I134 [.int .i64 0,f,g,.int .i64 (IntKind.wrap .i64 (v+1)),.bool false,.bool true] u) (asInt .i64 e λv=>asInt .i64 f λw=>Wk2 (λz A=>WO7 z A) Tryz.prog 3 [.int .i64 w,.int .i64 (IntKind.wrap .i64 (v+1))] λw=>I134 [.int .i64 (IntKind.wrap .i64 (v+1)),.int .i64 w,g,i,.bool false,.bool false] u)))∧(∀(u v w z A B:Value) (C:Env) (C:Wa1),(I134 [u,v,w,z,A,B] C)→(exI λI155=>(lI .i64 C ⟨c.size,2,none⟩ λD=>asInt .i64 w λE=>ifB (D != E) (I155 [.bool true,.bool true,.bool true,.bool true] C) (asInt .i64 d λD=>asInt .i64 z λE=>ifB (D != E) (I155 [.bool (D != E),.bool true,.bool true,.bool true] C) (lI .i64 C ⟨c.size,4,none⟩ λF=>asInt .i64 v λG=>ifB (F != G) (I155 [.bool (D != E),.bool (F != G),.bool true,.bool true] C) (lI .i64 C ⟨c.size,1,none⟩ λH=>asInt .i64 j λI=>ifB (decide (H < I)) (I155 [.bool (D != E),.bool (F != G),.bool (decide (H < I)),.bool true] C) (lI .i64 C ⟨c.size,1,none⟩ λJ=>asInt .i64 j λL=>I155 [.bool (D != E),.bool (F != G),.bool (decide (H < I)),.bool (decide (J > (IntKind.wrap .i64 (L+1))))] C)))))∧(∀(C D E F:Value) (G:Env) (G:Wa1),(I155 [C,D,E,F] G)→(asBool F λC=>ifB C (K (.bool false) G) (lI .i64 G ⟨c.size,1,none⟩ λc=>asInt .i64 k λC=>(I57 [a,u,v,w,z,.int .i64 c,.int .i64 (IntKind.wrap .i64 (C+1)),.pointer x,.int .i64 y,d,t,b,A,B] G)∧((m58 [a,u,v,w,z,.int .i64 c,.int .i64 (IntKind.wrap .i64 (C+1)),.pointer x,.int .i64 y,d,t,b,A,B] G) < (m58 [a,e,f,g,i,j,k,l,m,n,o,p,q,r] s))))))))))))))) (cf 10 #[] s λa b=>asBool a λa=>K (.bool a) b))))))
def F3 (K:Value→Wa1→Prop) (h:Wa1) (xa xb xc xd xe xf xg:Int) (xh:Option Addr) (xi xj:Nat) (xk:Option Addr) (xl xm:Nat) (xn:Option Addr) (xo xp:Nat) (xq xr xs xt xu xv xw:Int):Prop:=
 (g3 K h (Array.push h (.cells #[.int .i64 xa,.int .i64 xb,.int .i64 xc,.int .i64 xd,.int .i64 xe,.int .i64 xf,.int .i64 xg,.slice xh xi xj,.slice xk xl xm,.slice xn xo xp] 28)) (Array.push (Array.push h (.cells #[.int .i64 xa,.int .i64 xb,.int .i64 xc,.int .i64 xd,.int .i64 xe,.int .i64 xf,.int .i64 xg,.slice xh xi xj,.slice xk xl xm,.slice xn xo xp] 28)) (.cells #[.int .i64 xq,.int .i64 xr,.int .i64 xs,.int .i64 xt,.int .i64 xu,.int .i64 xv,.int .i64 xw] 23)))
theorem call3 {K:Value→Wa1→Prop} {h:Wa1} {xa xb xc xd xe xf xg:Int} {xh:Option Addr} {xi xj:Nat} {xk:Option Addr} {xl xm:Nat} {xn:Option Addr} {xo xp:Nat} {xq xr xs xt xu xv xw:Int} (H:F3 K h xa xb xc xd xe xf xg xh xi xj xk xl xm xn xo xp xq xr xs xt xu xv xw):Wa5 Tryz.prog 3 #[(.agg #[(.int .i64 xa),(.int .i64 xb),(.int .i64 xc),(.int .i64 xd),(.int .i64 xe),(.int .i64 xf),(.int .i64 xg),(.slice xh xi xj),(.slice xk xl xm),(.slice xn xo xp)]),(.agg #[(.int .i64 xq),(.int .i64 xr),(.int .i64 xs),(.int .i64 xt),(.int .i64 xu),(.int .i64 xv),(.int .i64 xw)])] h K:=
 Wa4 Tryz.func3 (by kernel_rfl) (Eq.mp (by kernel_rfl) H)
abbrev g10 (K:Value→Wa1→Prop) (h H1:Wa1):Prop:=
 (cf 12 #[.agg #[.int .i64 0,.int .i64 1,.int .i64 2,.int .i64 1,.int .i64 1,.int .i64 1,.int .i64 1,.slice (some ⟨H1.size,0,none⟩) 1 1,.slice none 0 0,.slice none 0 0]] (Array.push H1 (.cells #[.slice (some ⟨h.size,0,none⟩) 1 1] 58)) λa b=>Wg5 a λc=>Wc0 c 0 λc=>asAgg c λc=>We0 c 5 (de5 c λc d e f g=>Wg5 a λi=>Wc0 i 1 λi=>Wb1 i λi=>Wg5 a λa=>Wc0 a 2 λa=>asInt .i64 a λa=>stH (Array.push b (.cells #[.slice none 0 0,.int .i64 0,.int .i64 0,.bool false,.int .i64 0] 34)) ⟨b.size,0,none⟩ c λc=>stH c ⟨b.size,1,none⟩ d λc=>stH c ⟨b.size,2,none⟩ e λc=>stH c ⟨b.size,3,none⟩ f λc=>stH c ⟨b.size,4,none⟩ g λc=>ifB (a == 0) (ifB (!(Option.isNone i)) (lS c ⟨b.size,0,none⟩ λa a d=>ifB ((a:Int) == 0) (lI .i64 c ⟨b.size,1,none⟩ λa=>K (.bool (a == 0)) c) (K (.bool false) c)) (K (.bool false) c)) (K (.bool false) c)))
def F10 (K:Value→Wa1→Prop) (h:Wa1)  : Prop:=
 (g10 K h (Array.push h (.cells #[.int .i64 0,.int .u32 1,.int .u32 0] 41)))
theorem call10 {K:Value→Wa1→Prop} {h:Wa1}  (H:F10 K h ):Wa5 Tryz.prog 10 #[] h K:=
 Wa4 Tryz.func10 (by kernel_rfl) (Eq.mp (by kernel_rfl) H)
end
section
set_option maxHeartbeats 1000000
open Mod
section
variable {K:Value→Wa1→Prop} {h:Wa1} {R:Hp} {calls:List (List Cl)} {Wb6 draws:List Int}
theorem Yj8 (H:Sat h R) (k:∀h',Sat h' R→K (.bool true) h'):Wa5 Tryz.prog 10 #[] h K:=by
 refine call10 ?_
 unfold F10 g10 cf lS lI de5
 have H1:=H.push (.cells (clc ⟨0,1,0⟩).toArray 41)
 rw [show h.push (.cells #[.int .i64 0,.int .u32 1,.int .u32 0] 41)=h.push (.cells (clc ⟨0,1,0⟩).toArray 41) from rfl]
 generalize h.push (.cells (clc ⟨0,1,0⟩).toArray 41)=h1 at *
 generalize h.size=B1 at *
 have H2:=H1.push (.cells [Value.slice (some ⟨B1,0,none⟩) 1 1].toArray 58)
 rw [show h1.push (.cells #[.slice (some ⟨B1,0,none⟩) 1 1] 58)=h1.push (.cells [Value.slice (some ⟨B1,0,none⟩) 1 1].toArray 58) from rfl]
 generalize h1.push (.cells [Value.slice (some ⟨B1,0,none⟩) 1 1].toArray 58)=h2 at *
 generalize h1.size=B2 at *
 have hc:okC ⟨0,1,2,1,1,1,1⟩=true:=by decide
 obtain ⟨d,W,Q,D,G,hB,hins⟩:=Zr2 hc
 have hsc:YB4 ⟨0,1,2,1,1,1,1⟩ [[⟨0,1,0⟩]] [] []=true:=by decide
 have hS:∀h' P,Sat h' (P*(pt B2 (.cells [Value.slice (some ⟨B1,0,none⟩) 1 1].toArray 58)*(pt B1 (.cells (clc ⟨0,1,0⟩).toArray 41)*R)))→ScrI h' (some ⟨B2,0,none⟩) 1 none 0 none 0 [[⟨0,1,0⟩]] [] []:=by
  intro h' P HP
  refine ⟨⟨rfl,λi hi=>?_,rfl,λi v hv=>by simp at hv⟩,rfl,λi v hv=>by simp at hv⟩
  have hi:i < 1:=hi
  have e0:i=0:=by omega
  subst e0
  refine ⟨some ⟨B1,0,none⟩,1,⟨_,rfl,?_⟩,?_⟩
  ·rw [Wc6]
   exact Wd4 HP.drop.at rfl
  ·exact Zn8 HP.drop.drop.at
 refine Wa0 (WK6 (c:=⟨0,1,2,1,1,1,1⟩) (calls:=[[⟨0,1,0⟩]]) (Wb6:=[]) (draws:=[]) H2 hS ⟨λl hl x hx=>?_,λx hx=>by cases hx⟩ (by decide) (by decide) (by decide) (λl hl=>?_) D (MacOk.good (c:=⟨0,1,2,1,1,1,1⟩) G) (λ_=>MacOk.new hc _ _) (λhh=>by rw [hsc] at hh;cases hh) λ_ h3 ea ec q M Ts s es _ H3=>?_)
 ·rw [List.mem_singleton.1 hl] at hx
  rw [List.mem_singleton.1 hx]
  exact ⟨⟨by decide,by decide⟩,⟨by decide,by decide⟩⟩
 ·rw [List.mem_singleton.1 hl]
  decide
 have es:s=rs0 (We9 ⟨0,1,2,1,1,1,1⟩ [] true) 1:=es
 subst es
 have H4:=H3.push (.cells #[.slice none 0 0,.int .i64 0,.int .i64 0,.bool false,.int .i64 0] 34)
 refine sb ?_
 refine Za0 ?_
 refine sb ?_
 refine Wm0 rfl (Wc1 rfl (Wc1 rfl (Wc1 rfl (Wc1 rfl (Wc1 rfl ?_)))))
 try simp only [Wb8,bsx,Nat.reduceAdd,Int.reduceLE,Int.reduceLT,Int.reduceToNat]
 refine Za1 ?_
 refine sb ?_
 refine Za2 ?_
 refine sb ?_
 generalize h3.push (.cells #[.slice none 0 0,.int .i64 0,.int .i64 0,.bool false,.int .i64 0] 34)=h4 at *
 generalize h3.size=ZB at *
 refine Wd3 (vs:=[.slice ea 0 ec,.int .i64 (s64 ((rs0 (We9 ⟨0,1,2,1,1,1,1⟩ [] true) 1).m.mm.st - (We9 ⟨0,1,2,1,1,1,1⟩ [] true).mm.st)),.int .i64 0,.bool (rs0 (We9 ⟨0,1,2,1,1,1,1⟩ [] true) 1).m.fault,.int .i64 0]) H4.at rfl (by simp [Wi5]) λh5 w=>?_
 have H5:=H4.wr w.new w.old
 rw [show ((0:Int) == 0)=true from rfl]
 dsimp only
 refine ldR H5.at rfl ?_
 refine sb ?_
 refine Wb7 (λ_=>?_) (λhh=>by simp at hh)
 refine ldR H5.at rfl ?_
 refine sb ?_
 have e:s64 ((rs0 (We9 ⟨0,1,2,1,1,1,1⟩ [] true) 1).m.mm.st - (We9 ⟨0,1,2,1,1,1,1⟩ [] true).mm.st)=0:=by
  show s64 ((We9 ⟨0,1,2,1,1,1,1⟩ [] true).mm.st - (We9 ⟨0,1,2,1,1,1,1⟩ [] true).mm.st)=0
  rw [Int.sub_self];rfl
 rw [e]
 exact k h5 H5.drop.drop.drop.drop.drop
theorem ZL4 {a i:Nat} (h:i < a):((a:Int) - ((i+1:Nat):Int)).toNat < ((a:Int) - (i:Int)).toNat:=by omega
theorem Zy6 {i n:Nat} (h:i < n) (hn:n≤200):s64 ((i:Int)+1)=((i+1:Nat):Int):=by unfold s64;omega
theorem WY1 {n:Int} (h:0≤n∧n < 1000000):s64 n=n:=by unfold s64;omega
theorem YP6 {ev:List EvM} {i:Nat} (hi:i < ev.length):backs (ev.take (i+1))=backs (ev.take i)+(if (ev[i]).back then 1 else 0):=by
 rw [List.take_succ_eq_append_getElem hi,WY0]
 cases hb:(ev[i]).back
 ·rw [YC5 _ hb];rfl
 ·rw [Yj5 _ hb];rfl
theorem Yj9 (l:List EvM):0≤backs l∧backs l≤l.length:=by
 unfold backs
 have:=List.length_filter_le (λe:EvM=>e.back) l
 omega
theorem ZG3 {l:List EvM} (b:0≤backs l∧backs l≤l.length) (h:l.length≤200):s64 (backs l+1)=backs l+1:=by unfold s64;omega
def ZM7 (d:Run→Run) (ins:Int) (m0:Mac) (L:List (List Cl)) (P:List Int) (SB:Nat) (SC:Value→List Value) (ty:TypeId) (R:Hp) (vs:List Value) (h':Wa1):Prop:=
 ∃(n:Nat) (v8:Value) (u1 u2 u3 u4 u5 u6 u7:Value),n≤P.length∧vs = [.bool false,.int .i64 (Yh5 d ins L m0 (P.take n)).gap,.int .i64 (Yh5 d ins L m0 (P.take n)).most,.int .i64 (Yh5 d ins L m0 (P.take n)).idle,.int .i64 (backs (Yh5 d ins L m0 (P.take n)).ev),.int .i64 ((Yh5 d ins L m0 (P.take n)).m.mm.st - m0.mm.st),.int .i64 ((n+1:Nat):Int),u1,u2,u3,u4,u5,u6,u7] ∧
  (0≤(Yh5 d ins L m0 (P.take n)).m.mm.st - m0.mm.st∧(Yh5 d ins L m0 (P.take n)).m.mm.st - m0.mm.st≤n)∧Sat h' (pt SB (.cells (SC v8).toArray ty)*R)
theorem Zy7 {d:Run→Run} {ins:Int} {m0:Mac} {L:List (List Cl)} {P:List Int} {SB:Nat} {SC:Value→List Value} {ty:TypeId} {R:Hp} {n:Nat} {s:RnSt} (es:Yh5 d ins L m0 (P.take n)=s) {st0:Int} (h0:m0.mm.st=st0) (hn:n≤P.length) (hst:0≤s.m.mm.st - st0∧s.m.mm.st - st0≤n) {u1 u2 u3 u4 u5 u6 u7:Value} {h':Wa1} (v8:Value) (H:Sat h' (pt SB (.cells (SC v8).toArray ty)*R)) :
  ZM7 d ins m0 L P SB SC ty R [.bool false,.int .i64 s.gap,.int .i64 s.most,.int .i64 s.idle,.int .i64 (backs s.ev),.int .i64 (s.m.mm.st - st0),.int .i64 ((n+1:Nat):Int),u1,u2,u3,u4,u5,u6,u7] h':=by
 subst es h0
 exact ⟨n,v8,u1,u2,u3,u4,u5,u6,u7,hn,rfl,hst,H⟩
theorem Yk0 {c0 c:Mod.Cf} {ca pa da:Option Addr} {cl cc0 pl pc0 dl dc0:Nat} (H:Sat h R)
  (hS:∀h' P,Sat h' (P*R)→ScrI h' ca cl pa pl da dl calls Wb6 draws) (hR:Zu9 calls Wb6 draws) (k:∀h',Sat h' R→K (.bool true) h') :
  Wa5 Tryz.prog 3 #[.agg #[.int .i64 c0.algo,.int .i64 c0.threads,.int .i64 c0.nodes,.int .i64 c0.level,.int .i64 c0.batch,.int .i64 c0.probes,.int .i64 c0.scan,.slice ca cl cc0,.slice pa pl pc0,.slice da dl dc0],.agg #[.int .i64 c.algo,.int .i64 c.threads,.int .i64 c.nodes,.int .i64 c.level,.int .i64 c.batch,.int .i64 c.probes,.int .i64 c.scan]] h K:=by
 refine call3 ?_
 unfold F3 g3 cf bd lS lI de5 ZM0 dl7 YF6 ZB6
 have H1:=H.push (.cells (Wv5 c0 ca cl cc0 pa pl pc0 da dl dc0).toArray 28)
 rw [show h.push (.cells #[.int .i64 c0.algo,.int .i64 c0.threads,.int .i64 c0.nodes,.int .i64 c0.level,.int .i64 c0.batch,.int .i64 c0.probes,.int .i64 c0.scan,.slice ca cl cc0,.slice pa pl pc0,.slice da dl dc0] 28)=h.push (.cells (Wv5 c0 ca cl cc0 pa pl pc0 da dl dc0).toArray 28) from rfl]
 generalize h.push (.cells (Wv5 c0 ca cl cc0 pa pl pc0 da dl dc0).toArray 28)=h1 at *
 generalize h.size=SB at *
 have H2:=H1.push (.cells (cfc c).toArray 23)
 rw [show h1.push (.cells #[.int .i64 c.algo,.int .i64 c.threads,.int .i64 c.nodes,.int .i64 c.level,.int .i64 c.batch,.int .i64 c.probes,.int .i64 c.scan] 23)=h1.push (.cells (cfc c).toArray 23) from rfl]
 generalize h1.push (.cells (cfc c).toArray 23)=h2 at *
 generalize h1.size=CB at *
 have lv:∀ {h':Wa1} {P:Hp},Sat h' (P*R)→Wa5 Tryz.prog 10 #[] h' λv h''=>asBool v λb=>K (.bool b) h'':=λH'=>Yj8 H' λh'' H''=>by
  refine sb ?_
  exact k h'' H''.drop
 have O:=H2.at
 refine ldR O rfl (ldR O rfl (ldR O rfl (ldR O rfl (ldR O rfl (ldR O rfl (ldR O rfl ?_))))))
 refine Wa0 (Za3 H2 (λhc h3 H3=>?_) λhc h3 H3=>?_)
 ·refine sb ?_
  have OC:=H3.at
  have OS:=H3.at2
  refine ldR OS rfl (ldR OS rfl (ldR OS rfl (ldR OS rfl (ldR OS rfl (ldR OS rfl (ldR OS rfl (ldR OS rfl (ldR OS rfl (ldR OS rfl (ldR OC rfl (ldR OC rfl (ldR OC rfl (ldR OC rfl (ldR OC rfl (ldR OC rfl (ldR OC rfl ?_))))))))))))))))
  have B:=Wv3 hc
  have hth:1≤c.threads∧c.threads≤6:=B.th
  refine Wa0 (Ys8 (c:=c) (c0:=c0) (n:=2) (m:=60) H3 (λh' P H'=>hS h' emp (by rw [Wk8];exact H'.drop.drop.drop)) hth (by decide) (by decide) λh4 ca' cc pa' pc da' dc ps H4=>?_)
  refine ZL3 ?_
  have hsc:=Yv5 hc (n:=2) (m:=60) (by decide) (by decide) (calls:=calls) (Wb6:=Wb6) (draws:=draws)
  have hRL:=Zl4 (th:=c.threads) (n:=2) (m:=60) (by decide) hR
  have hCL:=Zn9 (th:=c.threads.toNat) (n:=2) (by omega) (by decide) hR
  have hpk:=YP5 hth (m:=60) (Wb6:=Wb6)
  have hlen:((Wg0 c.threads.toNat 2 calls).length:Int)=c.threads:=by rw [Ws9];omega
  have hfl:=WX9 c.threads.toNat 2 calls
  have hrow:∀l ∈ Wg0 c.threads.toNat 2 calls,l.length < 2 ^ 60:=λl hl=>by
   have:=(WW4 hR (n:=2) (by decide) l hl).1
   omega
  have hpl:(Wk1 c.threads 60 Wb6).length≤60:=by unfold Wk1;rw [List.length_map,List.length_take];omega
  generalize Wg0 c.threads.toNat 2 calls=L at *
  generalize Wk1 c.threads 60 Wb6=P at *
  generalize draws.take 4096=Dr at *
  rw [YF7] at H4
  refine Wd3 (vs:=Wv5 c ca' L.length cc pa' P.length pc da' Dr.length dc) H4.at rfl (by simp [Wv5,cfc,Wi5]) λh5 w=>?_
  have H5:=H4.wr w.new w.old
  clear H4 w
  refine ldR H5.at rfl ?_
  refine sb ?_
  obtain ⟨d,W,Q,D,G,hB,hins⟩:=Zr2 hc
  have hP:P.length≤pc∧(∀ {h':Wa1} {X:Hp},Sat h' (X*(Zz5 ca' cc pa' pc da' dc ps L P Dr*(pt CB (.cells (cfc c).toArray 23)*R)))→ScrI h' ca' L.length pa' P.length da' Dr.length L P Dr):=by
   refine ⟨?_,λHX=>ZE0 HX.drop⟩
   exact (W72.1 H5.drop).2.drop.drop.own.2.1
  obtain ⟨hpc,hI⟩:=hP
  generalize hX:Zz5 ca' cc pa' pc da' dc ps L P Dr*(pt CB (.cells (cfc c).toArray 23)*R)=X at *
  have hdr:∀ {h':Wa1} {Y:Hp},Sat h' (Y*X)→Sat h' (pt CB (.cells (cfc c).toArray 23)*R):=λHY=>by
   rw [← hX] at HY
   exact HY.drop.drop
  clear hX
  refine ⟨ZM7 d (Wm6 c.algo) (We9 c Dr true) L P SB (λv=>[.int .i64 c.algo,.int .i64 c.threads,.int .i64 c.nodes,.int .i64 c.level,.int .i64 c.batch,.int .i64 c.probes,.int .i64 c.scan,.slice ca' L.length cc,v,.slice da' Dr.length dc]) 28 X,λvs _=>match vs with | [_,_,_,_,_,_,.int _ n,_,_,_,_,_,_,_]=>((P.length:Int)+1 - n).toNat | _=>0,?_,?_⟩
  ·refine ⟨0,.slice pa' P.length pc,.tuple #[],.tuple #[],.tuple #[],.tuple #[],.tuple #[],.tuple #[],.tuple #[],Nat.zero_le _,?_,?_,H5⟩
   ·rw [List.take_zero]
    show (_:List Value) = [.bool false,.int .i64 0,.int .i64 0,.int .i64 0,.int .i64 0,.int .i64 ((We9 c Dr true).mm.st - (We9 c Dr true).mm.st),.int .i64 1,.tuple #[],.tuple #[],.tuple #[],.tuple #[],.tuple #[],.tuple #[],.tuple #[]]
    rw [Int.sub_self]
   ·rw [List.take_zero]
    show 0≤(We9 c Dr true).mm.st - (We9 c Dr true).mm.st∧(We9 c Dr true).mm.st - (We9 c Dr true).mm.st≤_
    omega
  rintro v59 v60 v61 v62 v63 v64 v65 v66 v67 v68 v69 v70 v71 v72 g73 h74 ⟨n,v8,u1,u2,u3,u4,u5,u6,u7,hn,e,hst,H6⟩
  cases e
  obtain ⟨O0,F0⟩:=Y99 G hB hins hCL hc hlen (b:=Dr) (g:=true) (Wb6:=P) (λp hp=>by have:=hpk p hp;omega) (by omega) n hn
  refine sb ?_
  refine Wa3 (λc1=>?_) (λc1=>?_)
  ·have hlt:n < P.length:=by omega
   have e1:=Yj7 (d:=d) (ins:=Wm6 c.algo) (calls:=L) (m:=We9 c Dr true) hlt
   have hpn:=hpk _ (List.getElem_mem hlt)
   obtain ⟨kk,hkk⟩ : ∃kk:Nat,P[n]=kk:=⟨P[n].toNat,by omega⟩
   rw [hkk] at hpn e1
   obtain ⟨O1,F1,⟨PR⟩⟩:=Yj6 G hB hins hCL (k:=kk) (by omega) (by omega) O0 F0
   generalize Yh5 d (Wm6 c.algo) L (We9 c Dr true) (P.take n)=s0 at *
   have oi:=O1.idle
   have om:=O1.most
   have og:=O1.gap
   have ob:=Yj9 (s0.pick d (Wm6 c.algo) L kk).ev
   have oe:=O1.ev
   have hst1:0≤(s0.pick d (Wm6 c.algo) L kk).m.mm.st - (We9 c Dr true).mm.st∧(s0.pick d (Wm6 c.algo) L kk).m.mm.st - (We9 c Dr true).mm.st≤(n+1:Nat):=by
    rcases PR with ⟨_,_,_,_,q⟩ | ⟨_,_,q | q⟩ <;> omega
   refine ⟨by omega,by omega,?_⟩
   rw [Yb7]
   simp only [Int.toNat_natCast,Nat.sub_zero]
   refine H6.st (i:=8) rfl trivial λh7 H7=>?_
   have O:=H7.at
   refine ldR O rfl (ldR O rfl (ldR O rfl (ldR O rfl (ldR O rfl (ldR O rfl (ldR O rfl (ldR O rfl (ldR O rfl (ldR O rfl ?_)))))))))
   refine Wa0 (WK6 (c:=c) (calls:=L) (Wb6:=P.take (n+1)) (draws:=Dr) H7 (λh' Y HY=>?_) ⟨hRL.cl,hRL.dr⟩ (by omega) (by omega) (by rw [List.length_take];omega) hrow D (MacOk.good G) (λ_=>MacOk.new hc _ _) (λhh=>by rw [Za4 hsc] at hh;cases hh) λ_ h8 ea ec q M Ts s es _ H8=>?_)
   ·rw [← Wc9] at HY
    exact (hI HY).take (by omega)
   rw [e1] at es
   rw [← es] at PR O1 F1 oi om og ob oe hst1 e1
   have e64:s64 (s.m.mm.st - (We9 c Dr true).mm.st)=s.m.mm.st - (We9 c Dr true).mm.st:=by unfold s64;omega
   rw [e64]
   clear e64
   obtain ⟨st0,hst0⟩ : ∃st0,(We9 c Dr true).mm.st=st0:=⟨_,rfl⟩
   rw [hst0] at hst1 ⊢
   have hev:s.ev.length≤200:=by omega
   have hn60:n < 60:=by omega
   obtain ⟨st1,hs1⟩ : ∃st1,s.m.mm.st - st0=st1:=⟨_,rfl⟩
   have hdf:s.m.mm.st - st0 < s0.m.mm.st - st0→False:=λhh=>by rcases PR with ⟨_,_,_,_,q⟩ | ⟨_,_,q | q⟩ <;> omega
   have hdg:¬ s.m.mm.st - st0 > s0.m.mm.st - st0+1:=by rcases PR with ⟨_,_,_,_,q⟩ | ⟨_,_,q | q⟩ <;> omega
   have hdr1:0≤s0.m.mm.st - st0+1∧s0.m.mm.st - st0+1 < 1000000:=by
    rw [hst0] at hst
    omega
   have H9:=H8.push (.cells #[.slice none 0 0,.int .i64 0,.int .i64 0,.bool false,.int .i64 0] 34)
   refine sb ?_
   refine Za0 ?_
   refine sb ?_
   refine Wm0 rfl (Wc1 rfl (Wc1 rfl (Wc1 rfl (Wc1 rfl (Wc1 rfl ?_)))))
   try simp only [Wb8,bsx,Nat.reduceAdd,Int.reduceLE,Int.reduceLT,Int.reduceToNat]
   refine Za1 ?_
   refine sb ?_
   refine Za2 ?_
   refine sb ?_
   generalize h8.push (.cells #[.slice none 0 0,.int .i64 0,.int .i64 0,.bool false,.int .i64 0] 34)=h9 at *
   generalize h8.size=ZB at *
   refine Wd3 (vs:=[.slice ea s.ev.length ec,.int .i64 (s.m.mm.st - st0),.int .i64 s.idle,.bool s.m.fault,.int .i64 s.most]) H9.at rfl (by simp [Wi5]) λh10 w=>?_
   have H10:=H9.wr w.new w.old
   clear w H9 H8 hst
   clear hfl hth B
   rw [show ((0:Int) != 0)=false from rfl]
   dsimp only
   refine ⟨λvs h'=>∃i:Nat,i≤s.ev.length∧vs = [.int .i64 (backs (s.ev.take i)),.int .i64 (i:Int)]∧h' = h10,λvs _=>match vs with | [_,.int _ i]=>((s.ev.length:Int) - i).toNat | _=>0,⟨0,Nat.zero_le _,rfl,by trivial⟩,?_⟩
   rintro v111 v112 g113 h114 ⟨i,hi,e,rfl⟩
   cases e
   refine sb ?_
   refine ldR H10.at rfl ?_
   refine sb ?_
   refine Wa3 (λc2=>?_) (λc2=>?_)
   ·have hi2:i < s.ev.length:=by omega
    have ew:=Zy6 hi2 hev
    refine ⟨λvs h'=>vs = [.int .i64 (backs (s.ev.take (i+1)))]∧h' = h114,?_,?_⟩
    ·refine ldR H10.at rfl ?_
     refine sb ?_
     refine ⟨Int.natCast_nonneg _,Int.ofNat_lt.2 hi2,?_⟩
     obtain ⟨ad,ea2,hcell⟩:=H10.drop.own.sees (i*8+1) (.bool (s.ev[i]).back) (Wh4 YY8 hi2 (j:=1) (by omega))
     subst ea2
     refine sb ?_
     try simp only [Int.toNat_natCast]
     rw [WF6]
     refine Wc5 hcell ?_
     refine sb ?_
     have bt:=YP6 hi2
     have br:=Yj9 (s.ev.take i)
     have bl:(s.ev.take i).length≤200:=Nat.le_trans (by rw [List.length_take];exact Nat.min_le_right _ _) hev
     refine Wb7 (λhb=>?_) (λhb=>?_)
     ·rw [hb,if_pos rfl] at bt
      rw [ZG3 br bl,← bt]
      all_goals first | exact ⟨rfl,by trivial⟩ | rfl
     ·rw [hb,if_neg (by decide),Int.add_zero] at bt
      rw [← bt]
      all_goals first | exact ⟨rfl,by trivial⟩ | rfl
    ·rintro v130 g131 h132 ⟨e,rfl⟩
     cases e
     refine sb ?_
     rw [ew]
     exact ⟨⟨i+1,Nat.succ_le_of_lt hi2,by first | exact ⟨rfl,by trivial⟩ | rfl⟩,ZL4 hi2⟩
   ·have ei:i=s.ev.length:=by omega
    subst ei
    rw [List.take_length]
    refine ⟨λvs h'=>(∃b1 b2,vs = [.int .i64 s.gap,.int .i64 s.most,.int .i64 s.idle,.int .i64 (backs s.ev),b1,b2])∧h' = h114,?_,?_⟩
    ·refine ldR H10.at rfl ?_
     refine sb ?_
     refine Wa3 (λc3=>?_) (λc3=>?_)
     ·rcases PR with ⟨p1,p2,p3,p4,p5⟩ | ⟨p1,_⟩
      ·rw [WY1 (by omega),← p1,← p2,← p3,← p4]
       first | exact ⟨⟨_,_,rfl⟩,by trivial⟩ | exact ⟨_,_,rfl⟩
      ·omega
     ·rcases PR with ⟨p1,_⟩ | ⟨p1,p2,_⟩
      ·omega
      refine Wa3 (λc4=>?_) (λc4=>?_)
      ·rcases p2 with ⟨q1,q2,q3⟩ | ⟨q1,_⟩
       ·rw [WY1 (by omega),← p1,← q1,← q3,← q2]
        first | exact ⟨⟨_,_,rfl⟩,by trivial⟩ | exact ⟨_,_,rfl⟩
       ·omega
      ·rcases p2 with ⟨q1,_⟩ | ⟨q1,q2,q3⟩
       ·omega
       rw [Wn0,WK1,WY1 (by omega),← p1,← q1,← q3,← q2]
       first | exact ⟨⟨_,_,rfl⟩,by trivial⟩ | exact ⟨_,_,rfl⟩
    rintro v147 v148 v149 v150 v151 v152 g153 h154 ⟨⟨b1,b2,e⟩,rfl⟩
    cases e
    refine ⟨λvs h'=>(∃a1 a2 a3,vs = [a1,a2,a3,.bool false])∧h' = h154,?_,?_⟩
    ·refine ldR H10.at rfl ?_
     refine sb ?_
     refine Wb7 (λhh=>by simp at hh) (λ_=>?_)
     refine Wb7 (λhh=>by simp at hh) (λ_=>?_)
     refine ldR H10.at rfl ?_
     refine sb ?_
     refine Wb7 (λhh=>by simp at hh) (λ_=>?_)
     refine ldR H10.at rfl ?_
     refine sb ?_
     refine Wa3 (λhh=>?_) (λ_=>?_)
     ·exact (hdf hh).elim
     refine ldR H10.at rfl ?_
     refine sb ?_
     rw [WY1 hdr1,decide_eq_false hdg]
     first | exact ⟨⟨_,_,_,rfl⟩,by trivial⟩ | exact ⟨_,_,_,rfl⟩
    rintro v170 v171 v172 v173 g174 h175 ⟨⟨a1,a2,a3,e⟩,rfl⟩
    cases e
    refine sb ?_
    refine ldR H10.at rfl ?_
    refine sb ?_
    rw [show s64 (((n+1:Nat):Int)+1)=((n+1+1:Nat):Int) from by rw [WY1 (by omega)];omega]
    refine ⟨Zy7 e1 hst0 (by omega) hst1 (.slice pa' (n+1) pc) H10.drop.drop.drop,?_⟩
    show ((P.length:Int)+1 - ((n+1+1:Nat):Int)).toNat < ((P.length:Int)+1 - ((n+1:Nat):Int)).toNat
    omega
  ·exact Wa0 (lv (hdr H6))
 ·refine sb ?_
  exact Wa0 (lv H3.drop)
end
end
end Go.Proofs.YtahpbclnkofhfaaGreat
