/- Part 11 of what the proofs of this seat rest on: see the last text of the claim. -/
import Derived.Test.YtahpbclnkofhfaaGreatQ44061d49f7df
import Derived.Test.YtahpbclnkofhfaaGreatProg
set_option linter.unusedSimpArgs false
set_option linter.unusedVariables false
set_option linter.ambiguousOpen false
set_option maxRecDepth 20000
namespace Go.Proofs.YtahpbclnkofhfaaGreat
section
open Go.ChangeShapes Go.WideShapes Go.ChangeAt Go.RowKit
theorem SW6 {n:Int} (h:(Lit.int .u32 n).wf=true):V n:=by
 unfold Lit.wf at h
 rw [Bool.and_eq_true,decide_eq_true_eq,decide_eq_true_eq] at h
 have e1:IntKind.min .u32=0:=rfl
 have e2:IntKind.max .u32=4294967295:=rfl
 rw [e1,e2] at h
 exact ⟨h.1,by omega⟩
theorem SW7 {n:Int} (h:(Lit.int .u8 n).wf=true):0<=n/\n < 256:=by
 unfold Lit.wf at h
 rw [Bool.and_eq_true,decide_eq_true_eq,decide_eq_true_eq] at h
 have e1:IntKind.min .u8=0:=rfl
 have e2:IntKind.max .u8=255:=rfl
 rw [e1,e2] at h
 exact ⟨h.1,by omega⟩
theorem Yp {α:Type} {P:α->Prop} {f:α->List Value} {h:A2} {a:Option Addr} {l c:Nat} {es:List {x:α // P x}} (H:SX (λx:{x:α // P x}=>f x.1) h a l c es):∃xs:List α,(∀x ∈ xs,P x)/\SX f h a l c xs:=by
 refine ⟨es.map (·.1),λx hx=>?_,⟨?_,by rw [List.length_map];exact H.len,H.cap⟩⟩
 ·obtain ⟨y,_,rfl⟩:=List.mem_map.1 hx;exact y.2
 ·have:(es.map (·.1)).flatMap f=es.flatMap λx:{x:α // P x}=>f x.1:=by rw [List.flatMap_map]
  rw [this];exact H.s
theorem N8.oldR {h h':A2} {a:Option Addr} {vs:List Value} (H:N8 h a vs) (o:G4 h.size h h'):N8 h' a vs:=λi v hi=>by
 obtain ⟨ad,ea,hc⟩:=H i v hi
 exact ⟨ad,ea,(S0 (o.2 _ (Bv hc))).trans hc⟩
theorem EO.old {h h':A2} {ca:Option Addr} {cl:Nat} {pa:Option Addr} {pl:Nat} {da:Option Addr} {dl:Nat} {calls:List (List Cl)} {B9 draws:List Int} (S:EO h ca cl pa pl da dl calls B9 draws) (o:G4 h.size h h'):EO h' ca cl pa pl da dl calls B9 draws:=by
 refine ⟨⟨S.f.cs,λi hi=>?_,S.f.ps,S.f.pk.oldR o⟩,S.ds,S.dr.oldR o⟩
 obtain ⟨a,c,⟨ad,e,hc⟩,hs⟩:=S.f.row i hi
 exact ⟨a,c,⟨ad,e,(S0 (o.2 _ (Bv hc))).trans hc⟩,hs.oldR o⟩
theorem ZV {h h0:A2} (H:A7 h (Rb h0)):G4 h0.size h0 h:=by
 rw [<- W9 (Rb h0),Dh] at H
 exact H.fullOld
theorem ZW {h h0:A2} {P:Hp} (H:A7 h (P*Rb h0)):G4 h0.size h0 h:=by
 rw [Dh] at H
 exact H.fullOld
section
variable {H:Type} {enc:TypeId × Value->H} {W:World} {fuel:Nat} {cs:List Value} {x:DataW H × List MemPlace}
theorem St1 (h:DataW.trod enc Tryz.prog W 0 (λ_=>true) true fuel 41 cs=some x):∃e:{e:Cl // V e.key/\V e.val},cs=Cc e.1:=by
 have hl:=Nj Tryz.underlying41 h
 rw [Mq] at hl
 obtain ⟨_,_,e0⟩:=M4 Tryz.underlying41 h 0 _ rfl
 obtain ⟨_,_,e1⟩:=M4 Tryz.underlying41 h 1 _ rfl
 obtain ⟨_,_,e2⟩:=M4 Tryz.underlying41 h 2 _ rfl
 obtain ⟨n0,u0,_,_⟩:=DataW.trod_int Tryz.underlying3 e0
 obtain ⟨n1,u1,_,r1⟩:=DataW.trod_int Tryz.underlying39 e1
 obtain ⟨n2,u2,_,r2⟩:=DataW.trod_int Tryz.underlying39 e2
 have q0:(cs.drop 0).take (Program.cellsOf Tryz.prog 3) = [iQ n0]:=u0
 have q1:(cs.drop 1).take (Program.cellsOf Tryz.prog 39) = [.int .u32 n1]:=u1
 have q2:(cs.drop 2).take (Program.cellsOf Tryz.prog 39) = [.int .u32 n2]:=u2
 rw [W8] at q0
 rw [OB] at q1 q2
 refine ⟨⟨⟨n0,n1,n2⟩,SW6 r1,SW6 r2⟩,?_⟩
 rcases cs with _ | ⟨c0,cs⟩;· simp at hl
 rcases cs with _ | ⟨c1,cs⟩;· simp at hl
 rcases cs with _ | ⟨c2,cs⟩;· simp at hl
 rcases cs with _ | ⟨c3,cs⟩
 ·simp at q0 q1 q2
  rw [q0,q1,q2];rfl
 ·simp at hl
theorem St2 (h:DataW.trod enc Tryz.prog W 0 (λ_=>true) true fuel 5 cs=some x):∃e:{e:Int // 0<=e/\e < 256},cs = [SA e.1]:=by
 obtain ⟨n,u,_,r⟩:=DataW.trod_int Tryz.underlying5 h
 exact ⟨⟨n,SW7 r⟩,u⟩
theorem BA (h:DataW.trod enc Tryz.prog W 0 (λ_=>true) true fuel 3 cs=some x):∃e:Int,cs = [iv e]:=by
 obtain ⟨n,u,_,r⟩:=DataW.trod_int Tryz.underlying3 h
 exact ⟨n,u⟩
theorem Fl {ts t:TypeId} (hu:Program.underlying Tryz.prog ts=some (.slice t)) (h:DataW.trod enc Tryz.prog W 0 (λ_=>true) true fuel ts cs=some x):∃a l c,cs = [.slice a l c]:=by
 rcases DataW.trod_slice hu h with ⟨hcs,_⟩ | ⟨y,l1,c1,elems,rest,n,_,hcs,_⟩
 ·exact ⟨_,_,_,hcs⟩
 ·exact ⟨_,_,_,hcs⟩
theorem SF:Program.cellsOf Tryz.prog 58=1:=by kernel_rfl
theorem Pv:Program.cellsOf Tryz.prog 24=1:=by kernel_rfl
theorem Pw:Program.cellsOf Tryz.prog 25=1:=by kernel_rfl
theorem SG:Program.cellsOf Tryz.prog 26=1:=by kernel_rfl
theorem JQ:Program.cellsOf Tryz.prog 23=7:=by kernel_rfl
theorem SH:Program.cellsOf Tryz.prog 28=10:=by kernel_rfl
structure SH9 (h:A2) (a:Option Addr) (l:Nat) (row:List Cl):Prop where
 len:l=row.length
 s:N8 h a (row.flatMap Cc)
 v:∀c ∈ row,V c.key/\V c.val
theorem SS9 {a:Option Addr} {l c:Nat} {d:DataW H} {ps:List MemPlace} (h:DataW.Trod enc Tryz.prog W 0 (λ_=>true) true 58 (.slice a l c) d ps):∃row,SH9 W.heap a l row:=by
 obtain ⟨es,S⟩:=Vh (f:=λe:{e:Cl // V e.key/\V e.val}=>Cc e.1) (n:=3) (λ_=>rfl) (by omega) Tryz.underlying58 (by kernel_rfl) (λ_ _ _ h=>St1 h) h
 obtain ⟨xs,hx,S⟩:=Yp S
 exact ⟨xs,S.len.symm,S.s,hx⟩
theorem SI0 {a:Option Addr} {l c:Nat} {d:DataW H} {ps:List MemPlace} (h:DataW.Trod enc Tryz.prog W 0 (λ_=>true) true 24 (.slice a l c) d ps) :
  ∃calls:List (List Cl),calls.length=l/\∀i (hi:i < calls.length),∃ai ci,(∃ad,a=some ad/\A3 W.heap (ad.add i)=some (.slice ai calls[i].length ci))/\SH9 W.heap ai calls[i].length calls[i]:=by
 obtain ⟨fuel,hf⟩:=h
 rcases DataW.trod_slice Tryz.underlying24 hf with ⟨hcs,_⟩ | ⟨x,l1,c1,elems,rest,n,_,hcs,_,_,hl,hm,hlen,hel,_,_⟩
 ·simp [Value.cells] at hcs
  obtain ⟨rfl,rfl,rfl⟩:=hcs
  exact ⟨[],rfl,λi hi=>by simp at hi⟩
 ·simp [Value.cells] at hcs
  obtain ⟨rfl,rfl,rfl⟩:=hcs
  have each:∀i,i < l->∃ai li ci row,A3 W.heap (x.add i)=some (.slice ai li ci)/\SH9 W.heap ai li row:=by
   intro i hi
   have:=hel i hi
   rw [List.getElem?_eq_getElem (by omega),Option.bind_eq_some_iff] at this
   obtain ⟨cs,h1,h2⟩:=this
   obtain ⟨ai,li,ci,rfl⟩:=Fl Tryz.underlying58 h2
   obtain ⟨row,hr⟩:=SS9 ⟨_,h2⟩
   rw [SF,Nat.mul_one] at h1
   obtain ⟨_,_,h4⟩:=World.cells?_some h1
   have h5:=h4 0 (by omega)
   exact ⟨ai,li,ci,row,h5,hr⟩
  have pick:∀m,m<=l->∃calls:List (List Cl),calls.length=m/\∀i (hi:i < calls.length),∃ai ci,A3 W.heap (x.add i)=some (.slice ai calls[i].length ci)/\SH9 W.heap ai calls[i].length calls[i]:=by
   intro m
   induction m with
   | zero=>intro _;exact ⟨[],rfl,λi hi=>by simp at hi⟩
   | succ m ih=>
    intro hm
    obtain ⟨calls,h1,h3⟩:=ih (by omega)
    obtain ⟨ai,li,ci,row,e1,e2⟩:=each m (by omega)
    refine ⟨calls ++ [row],by simp [h1],λi hi=>?_⟩
    by_cases e:i < calls.length
    ·obtain ⟨ai',ci',q2,q3⟩:=h3 i e
     refine ⟨ai',ci',?_,?_⟩
     ·rw [List.getElem_append_left e];exact q2
     ·rw [List.getElem_append_left e];exact q3
    ·have:i=m:=by simp at hi;omega
     subst this
     have e3:(calls ++ [row])[i]=row:=by
      rw [List.getElem_append_right (by omega)]
      simp [h1]
     have e4:=e2.len
     subst e4
     refine ⟨ai,ci,?_,?_⟩
     ·rw [e3];exact e1
     ·rw [e3];exact e2
  obtain ⟨calls,h1,h3⟩:=pick l (Nat.le_refl _)
  refine ⟨calls,h1,λi hi=>?_⟩
  obtain ⟨ai,ci,q2,q3⟩:=h3 i hi
  exact ⟨ai,ci,⟨x,rfl,q2⟩,q3⟩
theorem SM6 {f:Int->Value} (l:List Int):(l.flatMap λn=>[f n])=l.map f:=by
 induction l with
 | nil=>rfl
 | cons a l ih=>simp [ih]
theorem LH (h:DataW.trod enc Tryz.prog W 0 (λ_=>true) true fuel 23 cs=some x):∃c:Mod.Cf,cs = [iQ c.algo,iQ c.threads,iQ c.nodes,iQ c.level,iQ c.batch,iQ c.probes,iQ c.scan]:=by
 have hl:=Nj Tryz.underlying23 h
 rw [JQ] at hl
 obtain ⟨_,_,e0⟩:=M4 Tryz.underlying23 h 0 _ rfl
 obtain ⟨n0,u0⟩:=BA e0
 have q0:(cs.drop 0).take (Program.cellsOf Tryz.prog 3) = [iQ n0]:=u0
 rw [W8] at q0
 obtain ⟨_,_,e1⟩:=M4 Tryz.underlying23 h 1 _ rfl
 obtain ⟨n1,u1⟩:=BA e1
 have q1:(cs.drop 1).take (Program.cellsOf Tryz.prog 3) = [iQ n1]:=u1
 rw [W8] at q1
 obtain ⟨_,_,e2⟩:=M4 Tryz.underlying23 h 2 _ rfl
 obtain ⟨n2,u2⟩:=BA e2
 have q2:(cs.drop 2).take (Program.cellsOf Tryz.prog 3) = [iQ n2]:=u2
 rw [W8] at q2
 obtain ⟨_,_,e3⟩:=M4 Tryz.underlying23 h 3 _ rfl
 obtain ⟨n3,u3⟩:=BA e3
 have q3:(cs.drop 3).take (Program.cellsOf Tryz.prog 3) = [iQ n3]:=u3
 rw [W8] at q3
 obtain ⟨_,_,e4⟩:=M4 Tryz.underlying23 h 4 _ rfl
 obtain ⟨n4,u4⟩:=BA e4
 have q4:(cs.drop 4).take (Program.cellsOf Tryz.prog 3) = [iQ n4]:=u4
 rw [W8] at q4
 obtain ⟨_,_,e5⟩:=M4 Tryz.underlying23 h 5 _ rfl
 obtain ⟨n5,u5⟩:=BA e5
 have q5:(cs.drop 5).take (Program.cellsOf Tryz.prog 3) = [iQ n5]:=u5
 rw [W8] at q5
 obtain ⟨_,_,e6⟩:=M4 Tryz.underlying23 h 6 _ rfl
 obtain ⟨n6,u6⟩:=BA e6
 have q6:(cs.drop 6).take (Program.cellsOf Tryz.prog 3) = [iQ n6]:=u6
 rw [W8] at q6
 refine ⟨⟨n0,n1,n2,n3,n4,n5,n6⟩,?_⟩
 rcases cs with _ | ⟨c0,cs⟩;· simp at hl
 rcases cs with _ | ⟨c1,cs⟩;· simp at hl
 rcases cs with _ | ⟨c2,cs⟩;· simp at hl
 rcases cs with _ | ⟨c3,cs⟩;· simp at hl
 rcases cs with _ | ⟨c4,cs⟩;· simp at hl
 rcases cs with _ | ⟨c5,cs⟩;· simp at hl
 rcases cs with _ | ⟨c6,cs⟩;· simp at hl
 rcases cs with _ | ⟨c7,cs⟩
 ·simp at q0 q1 q2 q3 q4 q5 q6
  rw [q0,q1,q2,q3,q4,q5,q6]
 ·simp at hl
end
section
variable {H:Type} {enc:TypeId × Value->H} {W:World} {v:Value} {d:DataW H} {ps:List MemPlace} {r:Reach} {b0:Nat}
theorem VO (hval:Value.okWide Tryz.prog W r b0 28 v) (h:DataW.Trod enc Tryz.prog W 0 (λ_=>true) true 28 v d ps) :
  ∃(c:Mod.Cf) (ca:Option Addr) (cl cc:Nat) (pa:Option Addr) (pl pc:Nat) (da:Option Addr) (dl dc:Nat) (calls:List (List Cl)) (B9 draws:List Int),
   v=.agg #[iQ c.algo,iQ c.threads,iQ c.nodes,iQ c.level,iQ c.batch,iQ c.probes,iQ c.scan,.slice ca cl cc,.slice pa pl pc,.slice da dl dc]/\EO W.heap ca cl pa pl da dl calls B9 draws/\SC calls B9 draws:=by
 obtain ⟨vs,rfl,hsz⟩:=okWide_struct Tryz.underlying28 hval
 rw [SH] at hsz
 obtain ⟨fuel,hf⟩:=h
 obtain ⟨l⟩:=vs
 have hl:l.length=10:=by simpa using hsz
 have hf:DataW.trod enc Tryz.prog W 0 (λ_=>true) true fuel 28 l=some (d,ps):=hf
 obtain ⟨m0,x0,e0⟩:=M4 Tryz.underlying28 hf 0 _ rfl
 obtain ⟨m1,x1,e1⟩:=M4 Tryz.underlying28 hf 1 _ rfl
 obtain ⟨m2,x2,e2⟩:=M4 Tryz.underlying28 hf 2 _ rfl
 obtain ⟨m3,x3,e3⟩:=M4 Tryz.underlying28 hf 3 _ rfl
 obtain ⟨c,q0⟩:=LH e0
 obtain ⟨ca,cl,cc,q1⟩:=Fl Tryz.underlying24 e1
 obtain ⟨pa,pl,pc,q2⟩:=Fl Tryz.underlying25 e2
 obtain ⟨da,dl,dc,q3⟩:=Fl Tryz.underlying26 e3
 rw [q1] at e1
 rw [q2] at e2
 rw [q3] at e3
 obtain ⟨calls,hcl,hrow⟩:=SI0 (d:=x1.1) (ps:=x1.2) ⟨m1,e1⟩
 obtain ⟨B9,SP⟩:=Vh (f:=λe:Int=>[iv e]) (n:=1) (λ_=>rfl) (by omega) Tryz.underlying25 (by kernel_rfl) (λ_ _ _ h=>BA h) (d:=x2.1) (ps:=x2.2) ⟨m2,e2⟩
 obtain ⟨des,SD⟩:=Vh (f:=λe:{e:Int // 0<=e/\e < 256}=>[SA e.1]) (n:=1) (λ_=>rfl) (by omega) Tryz.underlying26 (by kernel_rfl) (λ_ _ _ h=>St2 h) (d:=x3.1) (ps:=x3.2) ⟨m3,e3⟩
 obtain ⟨draws,hdr,SD⟩:=Yp (f:=λe:Int=>[SA e]) SD
 refine ⟨c,ca,cl,cc,pa,pl,pc,da,dl,dc,calls,B9,draws,?_,⟨⟨hcl.symm,λi hi=>?_,SP.len.symm,?_⟩,SD.len.symm,?_⟩,⟨λl hl c hc=>?_,hdr⟩⟩
 ·have p0:(l.drop 0).take (Program.cellsOf Tryz.prog 23)=_:=q0
  have p1:(l.drop 7).take (Program.cellsOf Tryz.prog 24)=_:=q1
  have p2:(l.drop 8).take (Program.cellsOf Tryz.prog 25)=_:=q2
  have p3:(l.drop 9).take (Program.cellsOf Tryz.prog 26)=_:=q3
  rw [JQ] at p0
  rw [Pv] at p1
  rw [Pw] at p2
  rw [SG] at p3
  clear q0 q1 q2 q3 e0 e1 e2 e3 hf hval hsz
  rcases l with _ | ⟨y0,l⟩;· simp at hl
  rcases l with _ | ⟨y1,l⟩;· simp at hl
  rcases l with _ | ⟨y2,l⟩;· simp at hl
  rcases l with _ | ⟨y3,l⟩;· simp at hl
  rcases l with _ | ⟨y4,l⟩;· simp at hl
  rcases l with _ | ⟨y5,l⟩;· simp at hl
  rcases l with _ | ⟨y6,l⟩;· simp at hl
  rcases l with _ | ⟨y7,l⟩;· simp at hl
  rcases l with _ | ⟨y8,l⟩;· simp at hl
  rcases l with _ | ⟨y9,l⟩;· simp at hl
  rcases l with _ | ⟨y10,l⟩
  ·simp at p0 p1 p2 p3
   obtain ⟨r0,r1,r2,r3,r4,r5,r6⟩:=p0
   rw [r0,r1,r2,r3,r4,r5,r6,p1,p2,p3]
  ·simp at hl
 ·obtain ⟨ai,ci,q2,q3⟩:=hrow i hi
  have e:calls.getD i []=calls[i]:=by rw [List.getD_eq_getElem?_getD,List.getElem?_eq_getElem hi];rfl
  rw [e]
  exact ⟨ai,ci,q2,q3.s⟩
 ·have:=SP.s
  rw [SM6] at this
  exact this
 ·have:=SD.s
  rw [SM6] at this
  exact this
 ·obtain ⟨i,hi,rfl⟩:=List.getElem_of_mem hl
  obtain ⟨ai,ci,q2,q3⟩:=hrow i hi
  exact q3.v c hc
theorem ZX (hval:Value.okWide Tryz.prog W r b0 23 v) (h:DataW.Trod enc Tryz.prog W 0 (λ_=>true) true 23 v d ps):∃c:Mod.Cf,v=.agg #[iQ c.algo,iQ c.threads,iQ c.nodes,iQ c.level,iQ c.batch,iQ c.probes,iQ c.scan]:=by
 obtain ⟨vs,rfl,hsz⟩:=okWide_struct Tryz.underlying23 hval
 obtain ⟨fuel,hf⟩:=h
 obtain ⟨l⟩:=vs
 have hf:DataW.trod enc Tryz.prog W 0 (λ_=>true) true fuel 23 l=some (d,ps):=hf
 obtain ⟨c,q⟩:=LH hf
 exact ⟨c,by rw [q]⟩
end
end
section
open Mod
section
variable {K:kQ} {h:A2} {M:Nat} {Ts:List Nat} {R:Hp} {d:A9->A9} {W:A9->Prop} {ins:Int} {Inv:Nat->Mac->Prop} {m:Mac}
theorem V6 {m:Mac} {k:Nat} (h:k < m.th.length):m.th[k]? = some (F4 m k):=by
 unfold F4;rw [List.getElem?_eq_getElem h];simp [h]
theorem GJ {m z:Mac} {k:Nat} {t:Thr} (h:k < m.th.length):F4 (z.setTh (m.th.set k t)) k=t:=by
 unfold F4 Mod.Mac.setTh
 rw [List.getD_eq_getElem?_getD]
 simp [h]
end
end
section
set_option maxRecDepth 100000
variable {K:kQ} {h:A2}
abbrev g30 (K:kQ) (h H1:A2) (xa:Option Addr) (xb xc:Nat) (xd:Bool):Prop:=
 (PY H1 h.size λa b c d e f g=>cf 62 #[.agg #[a,b,c,d,e,f,g],lQ xa xb xc,dQ xd] H1 λa b=>J6 a λc=>D2 c 0 λc=>C2 c λc=>J6 a λa=>D2 a 1 λa=>asInt .i64 a λa=>D0 (a != 0) (K (.tuple #[pQ none,iQ a]) b) (O0 λI15=>(lI .i64 (b.push (oQ #[pQ c,.nilFunc,iQ 0] 115)) (aQ h.size) λa=>D0 (a == 0) (B4 (pQ (some (aQ b.size))) (C4 (b.push (oQ #[pQ c,.nilFunc,iQ 0] 115)) ⟨b.size,1,none⟩ (.func (.func 63) #[] #[]) λd=>B4 (pQ (some (aQ b.size))) (C4 d ⟨b.size,2,none⟩ (iQ 11) λd=>I15 [dQ true,tQ] d))) (D0 (a == 1) (B4 (pQ (some (aQ b.size))) (C4 (b.push (oQ #[pQ c,.nilFunc,iQ 0] 115)) ⟨b.size,1,none⟩ (.func (.func 64) #[] #[]) λa=>B4 (pQ (some (aQ b.size))) (C4 a ⟨b.size,2,none⟩ (iQ 21) λa=>I15 [dQ false,dQ true] a))) (B4 (pQ (some (aQ b.size))) (C4 (b.push (oQ #[pQ c,.nilFunc,iQ 0] 115)) ⟨b.size,1,none⟩ (.func (.func 65) #[] #[]) λa=>B4 (pQ (some (aQ b.size))) (C4 a ⟨b.size,2,none⟩ (iQ 31) λa=>I15 [dQ false,dQ false] a)))))/\(∀(a c:Value) (d:F8) (d:A2),(I15 [a,c] d)->(K (.tuple #[pQ (some (aQ b.size)),iQ 0]) d))))
def F30 (K:kQ) (h:A2) (xa xb xc xd xe xf xg:Int) (xh:Option Addr) (xi xj:Nat) (xk:Bool):Prop:=
 (g30 K h (h.push (oQ #[iQ xa,iQ xb,iQ xc,iQ xd,iQ xe,iQ xf,iQ xg] 23)) xh xi xj xk)
theorem call30 {xa xb xc xd xe xf xg:Int} {xh:Option Addr} {xi xj:Nat} {xk:Bool} (H:F30 K h xa xb xc xd xe xf xg xh xi xj xk):A5 Tryz.prog 30 #[(.agg #[(iQ xa),(iQ xb),(iQ xc),(iQ xd),(iQ xe),(iQ xf),(iQ xg)]),(lQ xh xi xj),(dQ xk)] h K:=
 cQ Tryz.func30 H
abbrev g77 (K:kQ) (h H1:A2) (xa:Option Addr) (xb:Int):Prop:=
 (D0 (Option.isNone xa) (K (iQ 1) H1) (cf 121 #[pQ xa,iQ xb] H1 λa b=>C2 a λa=>D0 (Option.isNone a) (K (iQ 2) b) (L1 b h.size λa c d=>cf 61 #[.agg #[a,c,d]] b λa b=>asBool a λa=>D0 (!a) (K (iQ 1) b) (cf 66 #[pQ xa,iQ xb] b λa b=>asBool a λa=>D0 a (K (iQ 5) b) (nP xa λa=>D1 b (a.add 2) λc=>asInt .i64 c λd=>D1 b (aQ h.size) λe=>asInt .i64 e λf=>D1 b ⟨h.size,1,none⟩ λg=>asInt .u32 g λi=>D1 b ⟨h.size,2,none⟩ λj=>asInt .u32 j λk=>(cf 121 #[pQ xa,iQ xb] b λl m=>C2 l λl=>ce m h.size 2 j (ce m h.size 1 g (ce m h.size 0 e (((A3 m (a.add 2))=(some c))/\(((A3 (m.push (oQ #[uQ (IntKind.wrap .u64 i),uQ (IntKind.wrap .u64 k)] 178)) (aQ h.size))=(some e))/\(((A3 (m.push (oQ #[uQ (IntKind.wrap .u64 i),uQ (IntKind.wrap .u64 k)] 178)) (a.add 2))=(some c))/\(cf 130 #[pQ l,iQ (IntKind.wrap .i64 (d+f)),lQ (some (aQ m.size)) 2 2] (m.push (oQ #[uQ (IntKind.wrap .u64 i),uQ (IntKind.wrap .u64 k)] 178)) λl l=>K (iQ 0) l)))))))/\(((A3 (b.push (oQ #[uQ (IntKind.wrap .u64 i),uQ (IntKind.wrap .u64 k)] 178)) (aQ h.size))=(some e))/\(((A3 (b.push (oQ #[uQ (IntKind.wrap .u64 i),uQ (IntKind.wrap .u64 k)] 178)) (a.add 2))=(some c))/\(cf 121 #[pQ xa,iQ xb] (b.push (oQ #[uQ (IntKind.wrap .u64 i),uQ (IntKind.wrap .u64 k)] 178)) λi k=>C2 i λi=>ce k h.size 2 j (ce k h.size 1 g (ce k h.size 0 e (((A3 k (a.add 2))=(some c))/\(cf 130 #[pQ i,iQ (IntKind.wrap .i64 (d+f)),lQ (some (aQ b.size)) 2 2] k λa a=>K (iQ 0) a))))))))))))
def F77 (K:kQ) (h:A2) (xa:Option Addr) (xb xc xd xe:Int):Prop:=
 (g77 K h (h.push (oQ #[iQ xc,.int .u32 xd,.int .u32 xe] 41)) xa xb)
theorem call77 {xa:Option Addr} {xb xc xd xe:Int} (H:F77 K h xa xb xc xd xe):A5 Tryz.prog 77 #[(pQ xa),(iQ xb),(.agg #[(iQ xc),(.int .u32 xd),(.int .u32 xe)])] h K:=
 cQ Tryz.func77 H
def F31 (K:kQ) (h:A2) (xa:Option Addr):Prop:=
 (D0 (Option.isNone xa) (K (pQ none) h) (nP xa λa=>lP h a λa=>K (pQ a) h))
theorem call31 {xa:Option Addr} (H:F31 K h xa):A5 Tryz.prog 31 #[(pQ xa)] h K:=
 cQ Tryz.func31 H
def F121 (K:kQ) (h:A2) (xa:Option Addr) (xb:Int):Prop:=
 (cf 31 #[pQ xa] h λa b=>C2 a λa=>cf 196 #[pQ a,iQ xb] b λa b=>C2 a λa=>K (pQ a) b)
theorem call121 {xa:Option Addr} {xb:Int} (H:F121 K h xa xb):A5 Tryz.prog 121 #[(pQ xa),(iQ xb)] h K:=
 cQ Tryz.func121 H
def F66 (K:kQ) (h:A2) (xa:Option Addr) (xb:Int):Prop:=
 (cf 121 #[pQ xa,iQ xb] h λa b=>C2 a λa=>cf 105 #[pQ a] b λa b=>C2 a λa=>K (dQ (!(Option.isNone a))) b)
theorem call66 {xa:Option Addr} {xb:Int} (H:F66 K h xa xb):A5 Tryz.prog 66 #[(pQ xa),(iQ xb)] h K:=
 cQ Tryz.func66 H
def F68 (K:kQ) (h:A2) (xa:Option Addr) (xb:Int):Prop:=
 (O0 λI0=>(cf 66 #[pQ xa,iQ xb] (h.push (oQ #[iQ 0,.int .u32 0,.int .u32 0] 43)) λa b=>asBool a λa=>D0 (!a) (I0 [dQ true] b) (nP xa λa=>lP b a λa=>nP xa λc=>D1 b (c.add 1) λc=>cf 123 #[pQ a,iQ xb,c] b λa b=>asBool a λa=>I0 [dQ a] b))/\(∀(a:Value) (b:F8) (b:A2),(I0 [a] b)->(asBool a λa=>D0 a (dw3 b h.size (iQ 0) (.int .u32 0) (.int .u32 0) λa=>L1 a h.size λc d e=>K (.tuple #[.agg #[c,d,e],dQ false]) a) (cf 121 #[pQ xa,iQ xb] b λa b=>C2 a λa=>nP a λa=>D1 b (a.add 2) λc=>D1 b (a.add 3) λd=>D1 b (a.add 4) λa=>C4 (b.push (oQ #[uQ 0,uQ 0,uQ 0] 179)) (aQ b.size) c λc=>C4 c ⟨b.size,1,none⟩ d λc=>C4 c ⟨b.size,2,none⟩ a λa=>bd 0 3 (lI .u64 a (aQ b.size) λc=>bd 1 3 (lI .u64 a ⟨b.size,1,none⟩ λd=>bd 2 3 (lI .u64 a ⟨b.size,2,none⟩ λb=>dw3 a h.size (iQ (IntKind.wrap .i64 c)) (.int .u32 (IntKind.wrap .u32 d)) (.int .u32 (IntKind.wrap .u32 b)) λa=>L1 a h.size λb c d=>K (.tuple #[.agg #[b,c,d],dQ true]) a)))))))
theorem call68 {xa:Option Addr} {xb:Int} (H:F68 K h xa xb):A5 Tryz.prog 68 #[(pQ xa),(iQ xb)] h K:=
 cQ Tryz.func68 H
end
section
open Mod
abbrev qC (M f:Nat) (ins:Int):List Value:=[mP M,.func (.func f) #[] #[],iQ ins]
def Cu (Q M f:Nat) (ins:Int) (Ts:List Nat) (m:Mac):Hp:=pt Q (oQ (qC M f ins).toArray 115)*CV M Ts m
theorem Em {h:A2} {Q M f:Nat} {ins:Int} {Ts:List Nat} {m:Mac} {R:Hp}:A7 h (Cu Q M f ins Ts m*R)↔A7 h (pt Q (oQ (qC M f ins).toArray 115)*(CV M Ts m*R)):=by
 unfold Cu
 rw [E7]
theorem Y4 {h:A2} {Q M f:Nat} {ins:Int} {Ts:List Nat} {m:Mac} {R:Hp}:A7 h (Cu Q M f ins Ts m*R)↔A7 h (CV M Ts m*(pt Q (oQ (qC M f ins).toArray 115)*R)):=by
 rw [Em,D4]
def CP (c:Cl):Bool:=c.op == 0 || ((c.op == 1 || c.op == 2) && (c.key == 0 && c.val == 0))
theorem NC {h:A2} {M:Nat} {Ts:List Nat} {m:Mac} {R:Hp} (H:A7 h (CV M Ts m*R)):Ts.length=m.th.length:=by
 obtain ⟨_,_,hl,_⟩:=V2.1 H
 exact hl.1
section
variable {K:kQ} {h:A2} {Q M f:Nat} {ins:Int} {Ts:List Nat} {m:Mac} {R:Hp}
theorem Cv (H:A7 h (Cu Q M f ins Ts m*R)) (k:K (mP M) h):A5 Tryz.prog 31 #[mP Q] h K:=by
 refine call31 ?_
 unfold F31 lP nP
 have H1:=Em.1 H
 refine C7 (λhh=>by cases hh) (λ_=>?_)
 refine sb ?_
 refine C5 H1.at rfl ?_
 refine sb ?_
 exact k
theorem Bf (H:A7 h (Cu Q M f ins Ts m*R)) {i:Int} (k0:(i < 0\/m.th.length<=i)->K (pQ none) h) (k:∀T,0<=i->Ts[i.toNat]? = some T->K (mP T) h) :
  A5 Tryz.prog 121 #[mP Q,iQ i] h K:=by
 refine call121 ?_
 unfold F121 cf
 refine A0 (Cv H ?_)
 refine sb ?_
 refine A0 (JC (Y4.1 H) (λc=>?_) λT h0 hT=>?_)
 ·refine sb ?_
  exact k0 c
 ·refine sb ?_
  exact k T h0 hT
theorem VP (H:A7 h (Cu Q M f ins Ts m*R)) {k T:Nat} (hk:Ts[k]? = some T) (hlt:k < m.th.length) {F:kQ} (k0:(F4 m k).fr = []->F (pQ none) h) (k1:∀b o,(F4 m k).fr≠[]->F (pQ (some ⟨b,o,none⟩)) h) :
  A5 Tryz.prog 105 #[mP T] h F:=by
 obtain ⟨tv,Q2,H2,re2⟩:=Fc (Y4.1 H) hk (V6 hlt)
 exact OU H2 (λe=>k0 e) λb o hne _ _=>k1 b o hne
theorem En (H:A7 h (Cu Q M f ins Ts m*R)) {i:Nat} (hi:i < m.th.length) (k:K (dQ (!(F4 m i).fr.isEmpty)) h):A5 Tryz.prog 66 #[mP Q,iQ i] h K:=by
 refine call66 ?_
 unfold F66 cf
 refine A0 (Bf H (λc=>by omega) λT _ hT=>?_)
 refine sb ?_
 rw [Int.toNat_natCast] at hT
 refine A0 (VP H hT hi (λe=>?_) λb o hne=>?_)
 ·refine sb ?_
  rw [e] at k
  exact k
 ·refine sb ?_
  cases e:(F4 m i).fr with
  | nil=>exact absurd e hne
  | cons a l=>rw [e] at k;exact k
theorem Fm {c:Cl} (k:∀h',G4 h.size h h'->K (dQ (CP c)) h'):A5 Tryz.prog 61 #[.agg #[iQ c.op,.int .u32 c.key,.int .u32 c.val]] h K:=by
 refine FP (c:=⟨c.op,c.key,c.val⟩) λh' o=>?_
 exact k h' o
theorem JR (H:A7 h (Cu Q M f ins Ts m*R)) {k T:Nat} {op:Int} {c:Cl} (hk:Ts[k]? = some T) (hk2:k < m.th.length) (he:(F4 m k).fr = []) (hc:U c.key) (hv:U c.val) {F:kQ}
  (kk:∀h',A7 h' (Cu Q M f ins Ts (m.setTh (m.th.set k ((F4 m k).push op [c.key,c.val])))*R)->F tQ h') :
  A5 Tryz.prog 130 #[mP T,iQ op,lQ (some (aQ h.size)) 2 2] (h.push (oQ #[uQ c.key,uQ c.val] 178)) F:=by
 obtain ⟨tv,Q2,H2,re2⟩:=Fc (Y4.1 H) hk (V6 hk2)
 exact Vv H2 [c.key,c.val] rfl (JF hc hv) (by omega) (by show (F4 m k).fr.length < _;rw [he];decide) λh' b o _ _ H3=>kk h' (Y4.2 (re2 _ _ _ rfl (A1.none H3)))
theorem Is (H:A7 h (Cu Q M f ins Ts m*R)) {i:Int} {c:Cl} (hins:0<=ins/\ins<=100) (hc:V c.key/\V c.val)
  (k2:(i < 0\/m.th.length<=i)->∀h',A7 h' (Cu Q M f ins Ts m*R)->K (iQ 2) h')
  (k1:0<=i/\i < m.th.length->CP c=false->∀h',A7 h' (Cu Q M f ins Ts m*R)->K (iQ 1) h')
  (k5:0<=i/\i < m.th.length->CP c=true->(F4 m i.toNat).fr≠[]->∀h',A7 h' (Cu Q M f ins Ts m*R)->K (iQ 5) h')
  (k0:0<=i/\i < m.th.length->CP c=true->(F4 m i.toNat).fr = []->∀h',A7 h' (Cu Q M f ins Ts (m.setTh (m.th.set i.toNat ((F4 m i.toNat).push (ins+c.op) [c.key,c.val])))*R)->K (iQ 0) h') :
  A5 Tryz.prog 77 #[mP Q,iQ i,.agg #[iQ c.op,.int .u32 c.key,.int .u32 c.val]] h K:=by
 refine call77 ?_
 unfold F77 g77 cf ce nP L1
 have H1:=H.push (oQ (Cc c).toArray 41)
 rw [show h.push (oQ #[iQ c.op,.int .u32 c.key,.int .u32 c.val] 41)=h.push (oQ (Cc c).toArray 41) from rfl]
 generalize h.push (oQ (Cc c).toArray 41)=h1 at *
 generalize h.size=CB at *
 rw [D4] at H1
 refine C7 (λhh=>by cases hh) (λ_=>?_)
 refine A0 (Bf H1 (λcc=>?_) λT h0 hT=>?_)
 ·refine sb ?_
  exact k2 cc h1 H1.drop2
 refine sb ?_
 have hT':=hT
 have hlen:=NC (Y4.1 H)
 have hlt:i.toNat < m.th.length:=by rw [<- hlen];exact (List.getElem?_eq_some_iff.1 hT).1
 have hir:0<=i/\i < m.th.length:=by omega
 have O:=H1.at2
 refine C5 O rfl (C5 O rfl (C5 O rfl ?_))
 refine A0 (Fm λh2 o2=>?_)
 have H2:=H1.old o2
 clear H1 O
 refine sb ?_
 refine C7 (λhr=>k1 hir (by simpa using hr) h2 H2.drop2) (λhr=>?_)
 have hr:CP c=true:=by simpa using hr
 obtain ⟨ii,hii⟩ : ∃ii:Nat,i=ii:=⟨i.toNat,by omega⟩
 subst hii
 rw [Int.toNat_natCast] at *
 refine A0 (En H2 hlt ?_)
 refine sb ?_
 refine C7 (λhb=>k5 hir hr (λe=>by rw [e] at hb;cases hb) h2 H2.drop2) (λhb=>?_)
 have he:(F4 m ii).fr = []:=by
  cases e:(F4 m ii).fr with
  | nil=>rfl
  | cons a l=>rw [e] at hb;cases hb
 have hop:0<=c.op/\c.op<=2:=by
  unfold CP at hr
  simp only [Bool.or_eq_true,Bool.and_eq_true,beq_iff_eq] at hr
  omega
 obtain ⟨hkey,hval⟩:=hc
 have hu1:Mod.u64 c.key=c.key:=by have:=hkey.1;have:=hkey.2;unfold Mod.u64;omega
 have hu2:Mod.u64 c.val=c.val:=by have:=hval.1;have:=hval.2;unfold Mod.u64;omega
 have hu3:F5 (ins+c.op)=ins+c.op:=by unfold F5;omega
 have OQ:=(Em.1 H2).at
 have OC:=H2.at2
 refine C5 OQ rfl ?_
 refine sb ?_
 refine C5 OC rfl ?_
 refine sb ?_
 refine C5 OC rfl ?_
 refine sb ?_
 refine C5 OC rfl ?_
 try simp only [B4,F2,Nat.reduceAdd,Int.reduceLE,Int.reduceLT,Int.reduceToNat,hu1,hu2,hu3]
 refine ⟨?_,?_⟩
 ·refine A0 (Bf H2 (λcc=>by omega) λT2 _ hT2=>?_)
  rw [Int.toNat_natCast,hT] at hT2
  cases hT2
  refine sb ?_
  repeat (first | refine ⟨E4 (E9 OC rfl),?_⟩ | refine ⟨E4 (E9 OQ rfl),?_⟩ | refine ⟨E9 OC rfl,?_⟩ | refine ⟨E9 OQ rfl,?_⟩)
  refine A0 (JR H2 hT hlt he ⟨hkey.1,by have:=hkey.2;omega⟩ ⟨hval.1,by have:=hval.2;omega⟩ λh3 H3=>?_)
  exact k0 hir hr he h3 H3.drop2
 ·repeat (first | refine ⟨E4 (E9 OC rfl),?_⟩ | refine ⟨E4 (E9 OQ rfl),?_⟩ | refine ⟨E9 OC rfl,?_⟩ | refine ⟨E9 OQ rfl,?_⟩)
  have H3:=H2.push (oQ (U8 [c.key,c.val]).toArray 178)
  rw [D4] at H3
  have OC3:=H3.at3
  have OQ3:=(Em.1 H3).at
  have e:h2.push (oQ #[uQ c.key,uQ c.val] 178)=h2.push (oQ (U8 [c.key,c.val]).toArray 178):=rfl
  rw [e]
  refine A0 (Bf H3 (λcc=>by omega) λT2 _ hT2=>?_)
  rw [Int.toNat_natCast,hT] at hT2
  cases hT2
  refine sb ?_
  rw [<- e]
  repeat (first | refine ⟨E4 (E9 OC rfl),?_⟩ | refine ⟨E4 (E9 OQ rfl),?_⟩)
  refine A0 (JR H2 hT hlt he ⟨hkey.1,by have:=hkey.2;omega⟩ ⟨hval.1,by have:=hval.2;omega⟩ λh3 H3=>?_)
  exact k0 hir hr he h3 H3.drop2
variable {d:A9->A9} {W:A9->Prop} {Inv:Nat->Mac->Prop}
theorem JS (D:DoC f d W) (H:A7 h (Cu Q M f ins Ts m*R)) {i n:Nat} {z:A9} (hi:i < m.th.length) (he:(F4 m i).fr≠[])
  (hz:Mod.bits d n ⟨m.quiet,F4 m i,i⟩=some z) (hs:ZC d W n ⟨m.quiet,F4 m i,i⟩) (hid:z.id=i)
  (k1:z.t.fr≠[]->∀h',A7 h' (Cu Q M f ins Ts (z.m.setTh (m.th.set i z.t))*R)->K (.tuple #[.agg #[iQ 0,.int .u32 0,.int .u32 0],dQ false]) h')
  (k0:z.t.fr = []->∀h',A7 h' (Cu Q M f ins Ts (z.m.setTh (m.th.set i z.t))*R)->K (.tuple #[.agg #[iQ (Fz z.t).op,.int .u32 (Fz z.t).key,.int .u32 (Fz z.t).val],dQ true]) h') :
  A5 Tryz.prog 68 #[mP Q,iQ i] h K:=by
 refine call68 ?_
 unfold F68 cf bd lP lI nP L1 dw3
 have H1:=H.push (oQ #[iQ 0,.int .u32 0,.int .u32 0] 43)
 generalize h.push (oQ #[iQ 0,.int .u32 0,.int .u32 0] 43)=h1 at *
 generalize h.size=AB at *
 have hlen:=NC (Y4.1 H)
 obtain ⟨T,hT⟩ : ∃T,Ts[i]? = some T:=⟨_,List.getElem?_eq_getElem (by omega)⟩
 have hthr:F4 (z.m.setTh (m.th.set i z.t)) i=z.t:=GJ hi
 have hl2:(z.m.setTh (m.th.set i z.t)).th.length=m.th.length:=by show (m.th.set i z.t).length=_;rw [List.length_set]
 refine ⟨λvs h'=>vs = [dQ (!z.t.fr.isEmpty)]/\A7 h' (Cu Q M f ins Ts (z.m.setTh (m.th.set i z.t))*(pt AB (oQ #[iQ 0,.int .u32 0,.int .u32 0] 43)*R)),?_,?_⟩
 ·rw [D4] at H1
  refine A0 (En H1 hi ?_)
  refine sb ?_
  refine C7 (λhb=>?_) (λ_=>?_)
  ·exact absurd (List.isEmpty_iff.1 (by simpa using hb)) he
  have OQ:=(Em.1 H1).at
  refine C5 OQ rfl ?_
  refine sb ?_
  refine C5 OQ rfl ?_
  refine A0 (MD D (Y4.1 H1) (n:=n) (z:=z) (i:=i) (by omega) (by rw [Int.toNat_natCast];exact V6 hi) hz hs hid λh' H2=>?_)
  rw [Int.toNat_natCast] at H2
  refine sb ?_
  first | exact ⟨rfl,Y4.2 H2⟩ | exact Y4.2 H2
 generalize z.m.setTh (m.th.set i z.t)=m2 at *
 rintro v12 g13 h14 ⟨e,H2⟩
 cases e
 refine sb ?_
 refine C7 (λhb=>?_) (λhb=>?_)
 ·have hne:z.t.fr≠[]:=λe=>by rw [e] at hb;cases hb
  rw [D4] at H2
  refine F6 (vs:=[iQ 0,.int .u32 0,.int .u32 0]) H2.at rfl (by simp [J3]) λh2 w=>?_
  have H3:=H2.wr w.new w.old
  refine C5 H3.at rfl (C5 H3.at rfl (C5 H3.at rfl ?_))
  exact k1 hne h2 H3.drop
 ·have hnil:z.t.fr = []:=by
   cases e:z.t.fr with
   | nil=>rfl
   | cons a l=>rw [e] at hb;cases hb
  refine A0 (Bf H2 (λcc=>by omega) λT2 _ hT2=>?_)
  rw [Int.toNat_natCast,hT] at hT2
  cases hT2
  refine sb ?_
  obtain ⟨tv,Q2,H3,re⟩:=Fc (Y4.1 H2) hT (V6 (by omega))
  rw [hthr] at H3
  obtain ⟨B,O⟩:=Lp (A1.thr H3)
  refine C5 O rfl (C5 O rfl (C5 O rfl ?_))
  have H4:=H2.push (oQ #[uQ 0,uQ 0,uQ 0] 179)
  generalize h14.push (oQ #[uQ 0,uQ 0,uQ 0] 179)=h15 at *
  generalize h14.size=RB at *
  refine F6 (vs:=[uQ (z.t.ret.getD 0 0),uQ (z.t.ret.getD 1 0),uQ (z.t.ret.getD 2 0)]) H4.at rfl (by simp [J3]) λh16 w=>?_
  have H5:=H4.wr w.new w.old
  refine C5 H5.at rfl ?_
  refine sb ?_
  refine C5 H5.at rfl ?_
  refine sb ?_
  refine C5 H5.at rfl ?_
  try simp only [B4,F2,Nat.reduceAdd,Int.reduceLE,Int.reduceLT,Int.reduceToNat,Fa]
  have H6:A7 h16 (pt AB (oQ #[iQ 0,.int .u32 0,.int .u32 0] 43)*(Cu Q M f ins Ts m2*R)):=by
   have:=H5.drop
   rw [D4] at this
   exact this
  refine F6 (vs:=[iQ (F5 (z.t.ret.getD 0 0)),.int .u32 (u32 (z.t.ret.getD 1 0)),.int .u32 (u32 (z.t.ret.getD 2 0))]) H6.at rfl (by simp [J3]) λh17 w2=>?_
  have H7:=H6.wr w2.new w2.old
  refine C5 H7.at rfl (C5 H7.at rfl (C5 H7.at rfl ?_))
  exact k0 hnil h17 H7.drop
end
end
end Go.Proofs.YtahpbclnkofhfaaGreat
section
namespace Go.Proofs.YtahpbclnkofhfaaGreat.Mod
inductive Lo:A9->A9->Prop
 | refl (x:A9):Lo x x
 | load {x y:A9} {a:Int} (h:Lo x y):Lo x (y.load a).2
 | store {x y:A9} {a v:Int} (h:Lo x y):Lo x (y.store a v)
 | cas {x y:A9} {a o v:Int} (h:Lo x y):Lo x (y.cas a o v).2
 | add {x y:A9} {a v:Int} (h:Lo x y):Lo x (y.add a v).2
 | swing {x y:A9} {a w p:Int} {b:Bool} (h:Lo x y):Lo x (y.swing a w p b).2
 | swingA {x y:A9} {a w p:Int} (h:Lo x y):Lo x (y.swingA a w p).2
 | swingM {x y:A9} {a w p:Int} {b:Bool} (h:Lo x y):Lo x (y.swingM a w p b).2
 | drop1 {x y:A9} {a:Int} (h:Lo x y):Lo x (y.drop1 a).2
 | guard {x y:A9} {a b:Int} (h:Lo x y):Lo x (y.guard a b)
 | gh {x y:A9} {f:Gh->Gh} (h:Lo x y):Lo x (y.gh f)
 | s {x y:A9} {i:Nat} {v:Int} (h:Lo x y):Lo x (y.s i v)
 | pc {x y:A9} {i:Int} (h:Lo x y):Lo x (y.pc i)
 | fo {x y:A9} {l:List Int} (h:Lo x y):Lo x (y.fo l)
 | re {x y:A9} {l:List Int} (h:Lo x y):Lo x (y.re l)
 | setPl {x y:A9} {p s w:List Int} (h:Lo x y):Lo x (y.setPl p s w)
 | next {x y:A9} {k:Int} (h:Lo x y):Lo x { y with m:=(y.m.next k).2 }
 | lvl {x y:A9} {k:Int} (h:Lo x y):Lo x { y with m:=(y.m.lvl k).2 }
 | dcas {x y:A9} {a o v b p q:Int} (h:Lo x y):Lo x { y with m:=(y.m.dcas a o v b p q).2 }
 | dcss {x y:A9} {a o v b p:Int} (h:Lo x y):Lo x { y with m:=(y.m.dcss a o v b p).2 }
inductive Ch:A9->Prop
 | load {y:A9} {a:Int}:Ch (y.load a).2
 | store {y:A9} {a v:Int}:Ch (y.store a v)
 | cas {y:A9} {a o v:Int}:Ch (y.cas a o v).2
 | add {y:A9} {a v:Int}:Ch (y.add a v).2
 | swing {y:A9} {a w p:Int} {b:Bool}:Ch (y.swing a w p b).2
 | swingA {y:A9} {a w p:Int}:Ch (y.swingA a w p).2
 | swingM {y:A9} {a w p:Int} {b:Bool}:Ch (y.swingM a w p b).2
 | drop1 {y:A9} {a:Int}:Ch (y.drop1 a).2
 | guard {y:A9} {a b:Int}:Ch (y.guard a b)
 | dcas {y:A9} {a o v b p q:Int}:Ch { y with m:=(y.m.dcas a o v b p q).2 }
 | dcss {y:A9} {a o v b p:Int}:Ch { y with m:=(y.m.dcss a o v b p).2 }
 | s {y:A9} {i:Nat} {v:Int} (h:Ch y):Ch (y.s i v)
 | pc {y:A9} {i:Int} (h:Ch y):Ch (y.pc i)
 | gh {y:A9} {f:Gh->Gh} (h:Ch y):Ch (y.gh f)
 | fo {y:A9} {l:List Int} (h:Ch y):Ch (y.fo l)
 | re {y:A9} {l:List Int} (h:Ch y):Ch (y.re l)
 | setPl {y:A9} {p s w:List Int} (h:Ch y):Ch (y.setPl p s w)
 | next {y:A9} {k:Int} (h:Ch y):Ch { y with m:=(y.m.next k).2 }
 | lvl {y:A9} {k:Int} (h:Ch y):Ch { y with m:=(y.m.lvl k).2 }
 | push {y:A9} {i:Int} {r:List Int} (h:Ch y):Ch (y.push i r)
 | pop {y:A9} {r:List Int} (h:Ch y):Ch (y.pop r)
 | call {y:A9} {i j:Int} {r:List Int} (h:Ch y):Ch (y.call i j r)
 | fin {y:A9} {i j k:Int} (h:Ch y):Ch (y.fin i j k)
inductive St:Nat->A9->A9->Prop
 | refl {n:Nat} (x:A9):St n x x
 | load {n:Nat} {x y:A9} {a:Int} (h:St n x y):St (n+1) x (y.load a).2
 | store {n:Nat} {x y:A9} {a v:Int} (h:St n x y):St (n+1) x (y.store a v)
 | cas {n:Nat} {x y:A9} {a o v:Int} (h:St n x y):St (n+1) x (y.cas a o v).2
 | add {n:Nat} {x y:A9} {a v:Int} (h:St n x y):St (n+1) x (y.add a v).2
 | dcas {n:Nat} {x y:A9} {a o v b p q:Int} (h:St n x y):St (n+1) x { y with m:=(y.m.dcas a o v b p q).2 }
 | dcss {n:Nat} {x y:A9} {a o v b p:Int} (h:St n x y):St (n+1) x { y with m:=(y.m.dcss a o v b p).2 }
 | next {n:Nat} {x y:A9} {k:Int} (h:St n x y):St (n+1) x { y with m:=(y.m.next k).2 }
 | lvl {n:Nat} {x y:A9} {k:Int} (h:St n x y):St (n+1) x { y with m:=(y.m.lvl k).2 }
 | gh {n:Nat} {x y:A9} {f:Gh->Gh} (h:St n x y):St n x (y.gh f)
 | s {n:Nat} {x y:A9} {i:Nat} {v:Int} (h:St n x y):St (n+1) x (y.s i v)
 | pc {n:Nat} {x y:A9} {i:Int} (h:St n x y):St (n+1) x (y.pc i)
 | push {n:Nat} {x y:A9} {i:Int} {r:List Int} (h:St n x y):St (n+1) x (y.push i r)
 | pop {n:Nat} {x y:A9} {r:List Int} (h:St n x y):St n x (y.pop r)
 | fo {n:Nat} {x y:A9} {l:List Int} (hl:l.length<=y.t.found.length+1) (h:St n x y):St (n+1) x (y.fo l)
 | re {n:Nat} {x y:A9} {l:List Int} (hl:l.length<=y.t.retired.length+1) (h:St n x y):St (n+1) x (y.re l)
 | part {n:Nat} {x y:A9} {p:Int->Bool} (h:St n x y):St (n+1) x ((y.re (y.t.retired.filter p)).fo (y.t.retired.filter λn=>!p n))
 | setPl {n:Nat} {x y:A9} {p s w:List Int} (h1:p.length=y.t.pred.length) (h2:s.length=y.t.succ.length) (h3:w.length=y.t.word.length) (h:St n x y):St n x (y.setPl p s w)
 | up {n k:Nat} {x y:A9} (h:St n x y):St (n+k) x y
section
variable {x y:A9} {n:Nat}
theorem St.swing {a w p:Int} {b:Bool} (h:St n x y):St (n+1) x (y.swing a w p b).2:=St.cas h
theorem St.swingA {a w p:Int} (h:St n x y):St (n+1) x (y.swingA a w p).2:=St.cas h
theorem St.swingM {a w p:Int} {b:Bool} (h:St n x y):St (n+1) x (y.swingM a w p b).2:=St.cas h
theorem St.drop1 {a:Int} (h:St n x y):St (n+1) x (y.drop1 a).2:=St.add h
theorem St.guard {a b:Int} (h:St n x y):St (n+1) x (y.guard a b):=St.store h
theorem St.call {i j:Int} {r:List Int} (h:St n x y):St (n+2) x (y.call i j r):=St.push (St.pc h)
theorem St.fin {i j k:Int} (h:St n x y):St (n+5) x (y.fin i j k):=St.call (St.s (St.s (St.s h)))
end
structure Fix (x y:A9):Prop where
 p:y.m.p=x.m.p
 id:y.id=x.id
 th:y.m.th=x.m.th
 b:y.m.b=x.m.b
 w:y.m.mm.w.length=x.m.mm.w.length
 pr:y.t.pred.length=x.t.pred.length
 su:y.t.succ.length=x.t.succ.length
 wo:y.t.word.length=x.t.word.length
structure S1 (m n:Mac):Prop where
 p:n.p=m.p
 th:n.th=m.th
 b:n.b=m.b
 w:n.mm.w.length=m.mm.w.length
 st:n.mm.st<=m.mm.st+1
 us:n.used<=m.used+1
theorem S1.touch (m:Mac) (a:Int):S1 m (m.touch a)/\(m.touch a).mm=m.mm/\(m.touch a).used=m.used:=by
 unfold Mac.touch
 split <;> exact ⟨⟨rfl,rfl,rfl,rfl,by show m.mm.st<=_;omega,by show m.used<=_;omega⟩,rfl,rfl⟩
theorem S1.of {m n k:Mac} (h:S1 m n) (hn:n.mm=m.mm/\n.used=m.used) (e:k.p=n.p/\k.th=n.th/\k.b=n.b/\k.used=n.used) (ew:k.mm.w.length=n.mm.w.length) (es:k.mm.st<=n.mm.st+1):S1 m k:=
 ⟨e.1.trans h.p,e.2.1.trans h.th,e.2.2.1.trans h.b,ew.trans h.w,by rw [<- hn.1];exact es,by rw [e.2.2.2,hn.2];omega⟩
theorem S1.load (m:Mac) (a:Int):S1 m (m.load a).2:=by
 have t:=S1.touch m a
 unfold Mac.load;dsimp only
 split
 ·exact t.1.of t.2 ⟨rfl,rfl,rfl,rfl⟩ rfl (Int.le_refl _)
 ·exact t.1.of t.2 ⟨rfl,rfl,rfl,rfl⟩ rfl (by show (m.touch a).mm.st<=_;omega)
theorem S1.store (m:Mac) (a v:Int):S1 m (m.store a v):=by
 have t:=S1.touch m a
 unfold Mac.store;dsimp only
 split
 ·exact t.1.of t.2 ⟨rfl,rfl,rfl,rfl⟩ (by show (List.set _ _ _).length=_;rw [List.length_set];rfl) (Int.le_refl _)
 ·exact t.1.of t.2 ⟨rfl,rfl,rfl,rfl⟩ rfl (by show (m.touch a).mm.st<=_;omega)
theorem S1.add (m:Mac) (a v:Int):S1 m (m.add a v).2:=by
 have t:=S1.touch m a
 unfold Mac.add;dsimp only
 split
 ·exact t.1.of t.2 ⟨rfl,rfl,rfl,rfl⟩ (by show (List.set _ _ _).length=_;rw [List.length_set];rfl) (Int.le_refl _)
 ·exact t.1.of t.2 ⟨rfl,rfl,rfl,rfl⟩ rfl (by show (m.touch a).mm.st<=_;omega)
theorem ST0 (m:Mm) (a o n:Int):(m.cas a o n).st=m.st+1/\(m.cas a o n).w.length=m.w.length:=by unfold Mm.cas;split <;> exact ⟨rfl,by simp [Mm.tick,Mm.put]⟩
theorem SI1 (m:Mm) (a o n b p q:Int):(m.dcas a o n b p q).st=m.st+1/\(m.dcas a o n b p q).w.length=m.w.length:=by unfold Mm.dcas;split <;> exact ⟨rfl,by simp [Mm.tick,Mm.put]⟩
theorem SI2 (m:Mm) (a o n b p:Int):(m.dcss a o n b p).st=m.st+1/\(m.dcss a o n b p).w.length=m.w.length:=by unfold Mm.dcss;split <;> exact ⟨rfl,by simp [Mm.tick,Mm.put]⟩
theorem S1.cas (m:Mac) (a o n:Int):S1 m (m.cas a o n).2:=by
 have t:=S1.touch m a
 have h:=ST0 (m.touch a).mm a o n
 unfold Mac.cas;dsimp only
 split
 ·exact t.1.of t.2 ⟨rfl,rfl,rfl,rfl⟩ h.2 (by show ((m.touch a).mm.cas a o n).st<=_;omega)
 ·exact t.1.of t.2 ⟨rfl,rfl,rfl,rfl⟩ rfl (by show (m.touch a).mm.st<=_;omega)
theorem S1.touch2 (m:Mac) (a b:Int):S1 m ((m.touch a).touch b)/\((m.touch a).touch b).mm=m.mm/\((m.touch a).touch b).used=m.used:=by
 have t:=S1.touch m a
 have t2:=S1.touch (m.touch a) b
 have e1:=t2.2.1.trans t.2.1
 have e2:=t2.2.2.trans t.2.2
 exact ⟨⟨t2.1.p.trans t.1.p,t2.1.th.trans t.1.th,t2.1.b.trans t.1.b,t2.1.w.trans t.1.w,by rw [e1];omega,by rw [e2];omega⟩,e1,e2⟩
theorem S1.dcas (m:Mac) (a o n b p q:Int):S1 m (m.dcas a o n b p q).2:=by
 have t:=S1.touch2 m a b
 have h:=SI1 ((m.touch a).touch b).mm a o n b p q
 unfold Mac.dcas;dsimp only
 split
 ·exact t.1.of t.2 ⟨rfl,rfl,rfl,rfl⟩ h.2 (by show (((m.touch a).touch b).mm.dcas a o n b p q).st<=_;omega)
 ·exact t.1.of t.2 ⟨rfl,rfl,rfl,rfl⟩ rfl (by show ((m.touch a).touch b).mm.st<=_;omega)
theorem S1.dcss (m:Mac) (a o n b p:Int):S1 m (m.dcss a o n b p).2:=by
 have t:=S1.touch2 m a b
 have h:=SI2 ((m.touch a).touch b).mm a o n b p
 unfold Mac.dcss;dsimp only
 split
 ·exact t.1.of t.2 ⟨rfl,rfl,rfl,rfl⟩ h.2 (by show (((m.touch a).touch b).mm.dcss a o n b p).st<=_;omega)
 ·exact t.1.of t.2 ⟨rfl,rfl,rfl,rfl⟩ rfl (by show ((m.touch a).touch b).mm.st<=_;omega)
theorem S1.refl (m:Mac):S1 m m:=⟨rfl,rfl,rfl,rfl,by omega,by omega⟩
theorem S1.next (m:Mac) (n:Int):S1 m (m.next n).2:=by
 unfold Mac.next
 split
 ·exact S1.refl m
 ·exact ⟨rfl,rfl,rfl,rfl,by show m.mm.st<=_;omega,Int.le_refl _⟩
theorem S1.lvl (m:Mac) (n:Int):S1 m (m.lvl n).2:=by
 unfold Mac.lvl
 split
 ·exact S1.refl m
 ·exact ⟨rfl,rfl,rfl,rfl,by show m.mm.st<=_;omega,Int.le_refl _⟩
theorem Fix.m {x y:A9} {m:Mac} (h:Fix x y) (e:S1 y.m m):Fix x { y with m:=m }:=⟨e.p.trans h.p,h.id,e.th.trans h.th,e.b.trans h.b,e.w.trans h.w,h.pr,h.su,h.wo⟩
theorem Fix.t {x y:A9} {t:Thr} (h:Fix x y) (h1:t.pred.length=y.t.pred.length) (h2:t.succ.length=y.t.succ.length) (h3:t.word.length=y.t.word.length):Fix x { y with t:=t }:=⟨h.p,h.id,h.th,h.b,h.w,h1.trans h.pr,h2.trans h.su,h3.trans h.wo⟩
theorem Thr.pop_pl (t:Thr) (r:List Int):(t.pop r).pred=t.pred/\(t.pop r).succ=t.succ/\(t.pop r).word=t.word:=by unfold Thr.pop;split <;> exact ⟨rfl,rfl,rfl⟩
theorem St.fix {n:Nat} {x y:A9} (h:St n x y):Fix x y:=by
 induction h with
 | refl x=>exact ⟨rfl,rfl,rfl,rfl,rfl,rfl,rfl,rfl⟩
 | load _ ih=>exact ih.m (S1.load _ _)
 | store _ ih=>exact ih.m (S1.store _ _ _)
 | cas _ ih=>exact ih.m (S1.cas _ _ _ _)
 | add _ ih=>exact ih.m (S1.add _ _ _)
 | dcas _ ih=>exact ih.m (S1.dcas _ _ _ _ _ _ _)
 | dcss _ ih=>exact ih.m (S1.dcss _ _ _ _ _ _)
 | next _ ih=>exact ih.m (S1.next _ _)
 | lvl _ ih=>exact ih.m (S1.lvl _ _)
 | gh _ ih=>exact ih.m ⟨rfl,rfl,rfl,rfl,by show Mm.st _<=_;exact Int.le_add_one (Int.le_refl _),by show Mac.used _<=_;exact Int.le_add_one (Int.le_refl _)⟩
 | s _ ih=>exact ih.t rfl rfl rfl
 | pc _ ih=>exact ih.t rfl rfl rfl
 | push _ ih=>exact ih.t rfl rfl rfl
 | pop _ ih=>exact ih.t (by rw [(Thr.pop_pl _ _).1]) (by rw [(Thr.pop_pl _ _).2.1]) (by rw [(Thr.pop_pl _ _).2.2])
 | fo _ _ ih=>exact ih.t rfl rfl rfl
 | re _ _ ih=>exact ih.t rfl rfl rfl
 | part _ ih=>exact ih.t rfl rfl rfl
 | setPl h1 h2 h3 _ ih=>exact ih.t h1 h2 h3
 | up _ ih=>exact ih
def A9.P (x:A9):Nat:=x.m.mm.st.toNat+x.m.used.toNat+x.t.retired.length+x.t.found.length+x.t.fr.length
theorem SM7 (p:Int->Bool):∀l:List Int,(l.filter p).length+(l.filter λn=>!p n).length=l.length
 | []=>rfl
 | a :: l=>by
  have ih:=SM7 p l
  cases h:p a <;> simp [List.filter_cons,h] <;> omega
theorem P_m {x:A9} {m:Mac} (h:S1 x.m m):({ x with m:=m }:A9).P<=x.P+2:=by
 have h1:=h.st
 have h2:=h.us
 unfold A9.P
 dsimp only
 omega
theorem St3 (x:A9) (f:M6):(x.setF f).P<=x.P+2:=by
 unfold A9.P
 show x.m.mm.st.toNat+x.m.used.toNat+x.t.retired.length+x.t.found.length+(x.t.fr.dropLast ++ [f]).length<=_
 simp
 omega
theorem St.P {n:Nat} {x y:A9} (h:St n x y):y.P<=x.P+2*n:=by
 induction h with
 | refl x=>omega
 | @load _ _ y a _ ih=>have:=P_m (x:=y) (S1.load y.m a);exact Nat.le_trans this (by omega)
 | @store _ _ y a v _ ih=>have:=P_m (x:=y) (S1.store y.m a v);exact Nat.le_trans this (by omega)
 | @cas _ _ y a o v _ ih=>have:=P_m (x:=y) (S1.cas y.m a o v);exact Nat.le_trans this (by omega)
 | @add _ _ y a v _ ih=>have:=P_m (x:=y) (S1.add y.m a v);exact Nat.le_trans this (by omega)
 | @dcas _ _ y a o v b p q _ ih=>have:=P_m (x:=y) (S1.dcas y.m a o v b p q);exact Nat.le_trans this (by omega)
 | @dcss _ _ y a o v b p _ ih=>have:=P_m (x:=y) (S1.dcss y.m a o v b p);exact Nat.le_trans this (by omega)
 | @next _ _ y k _ ih=>have:=P_m (x:=y) (S1.next y.m k);exact Nat.le_trans this (by omega)
 | @lvl _ _ y k _ ih=>have:=P_m (x:=y) (S1.lvl y.m k);exact Nat.le_trans this (by omega)
 | @gh _ _ y f _ ih=>have:(y.gh f).P=y.P:=rfl;omega
 | @s _ _ y i v _ ih=>have:=St3 y (y.f.s i v);exact Nat.le_trans this (by omega)
 | @pc _ _ y i _ ih=>have:=St3 y (y.f.at i);exact Nat.le_trans this (by omega)
 | @push _ _ y i r _ ih=>
  have:(y.push i r).P=y.P+1:=by
   unfold A9.P
   show y.m.mm.st.toNat+y.m.used.toNat+y.t.retired.length+y.t.found.length+(y.t.fr ++ [_]).length=_
   simp
   omega
  omega
 | @pop _ _ y r _ ih=>
  have:(y.pop r).P<=y.P:=by
   unfold A9.P A9.pop Thr.pop
   split
   ·exact Nat.le_refl _
   ·dsimp only
    simp
  omega
 | @fo _ _ y l hl _ ih=>
  have:(y.fo l).P<=y.P+1:=by
   unfold A9.P
   show y.m.mm.st.toNat+y.m.used.toNat+y.t.retired.length+l.length+y.t.fr.length<=_
   omega
  omega
 | @re _ _ y l hl _ ih=>
  have:(y.re l).P<=y.P+1:=by
   unfold A9.P
   show y.m.mm.st.toNat+y.m.used.toNat+l.length+y.t.found.length+y.t.fr.length<=_
   omega
  omega
 | @part _ _ y p _ ih=>
  have h:=SM7 p y.t.retired
  have:((y.re (y.t.retired.filter p)).fo (y.t.retired.filter λn=>!p n)).P<=y.P:=by
   unfold A9.P
   show y.m.mm.st.toNat+y.m.used.toNat+(y.t.retired.filter p).length+(y.t.retired.filter λn=>!p n).length+y.t.fr.length<=_
   omega
  omega
 | @setPl _ _ y p s w _ _ _ _ ih=>have:(y.setPl p s w).P=y.P:=rfl;omega
 | up _ ih=>omega
theorem St4 (x:A9):St 12 x (alloc x):=by
 unfold alloc;dsimp only
 repeat' split
 all_goals exact t_gro
theorem VQ (x:A9):St 12 x (Af x):=by
 unfold Af;dsimp only
 repeat' split
 all_goals exact t_gro
theorem VR (x:A9):St 12 x (Ag x):=by
 unfold Ag
 repeat' split
 ·exact t_gro
 ·exact St4 x
 ·exact VQ x
 ·exact t_gro
theorem VS (x:A9):St 12 x (Ah x):=by
 unfold Ah;dsimp only
 repeat' split
 all_goals exact t_gro
theorem SI3 (x:A9):St 12 x (Ig x):=by
 unfold Ig;dsimp only
 repeat' split
 all_goals exact t_gro
theorem ZY (x:A9):St 12 x (BJ x):=by
 unfold BJ;dsimp only
 have h2:St 2 x ((x.gh λg=>g.turn (F5 (x.f.g 0)) 1 2 2).re ((x.gh λg=>g.turn (F5 (x.f.g 0)) 1 2 2).t.retired ++ [F5 (x.f.g 0)])):=St.re (by simp) (St.gh (St.refl _))
 split
 ·exact St.up (k:=9) (St.push (St.pop h2))
 ·exact St.up (k:=10) (St.pop h2)
theorem St5 {x y:A9} {N:Nat} (all:Int) (h:St N x y):St (N+2) x (BK y all):=by
 unfold BK
 split
 ·exact St.pc (St.part h)
 ·exact St.up (k:=2) h
theorem St6 {x y:A9} {N:Nat} (h:St N x y):St (N+2) x (Fw y):=by
 unfold Fw
 split
 ·exact St.up (k:=2) (St.pop h)
 ·rename_i n rest e
  exact St.push (St.fo (by rw [e];simp;omega) h)
theorem SI4 (x:A9):St 12 x (scan x):=by
 have h0:St 1 x (if x.f.pc=0 then x.fo [] else x):=by
  split
  ·exact St.fo (by simp) (St.refl _)
  ·exact St.refl _
 unfold scan
 dsimp only
 generalize (if x.f.pc=0 then x.fo [] else x)=y at *
 split
 ·exact St.up (k:=8) (St.pc (St.fo (by simp) (St.load h0)))
 ·exact St.up (k:=7) (St6 (St5 _ h0))
theorem Gm (x:A9):St 12 x (U1 x):=by
 unfold U1
 repeat' split
 ·exact t_gro
 ·exact VS x
 ·exact SI3 x
 ·exact ZY x
 ·exact SI4 x
 ·exact VR x
theorem St7 (x:A9):St 12 x (DT x):=by
 unfold DT;dsimp only
 repeat' split
 all_goals exact t_gro
theorem St8 (x:A9):St 12 x (DU x):=by
 unfold DU;dsimp only
 repeat' split
 all_goals exact t_gro
theorem SI (x:A9):St 12 x (X0 x):=by
 unfold X0 EJ;dsimp only
 repeat' split
 all_goals exact t_gro
theorem St9 (x:A9):St 12 x (DV x):=by
 unfold DV EJ;dsimp only
 repeat' split
 all_goals exact t_gro
theorem SI5 (x:A9):St 12 x (Ii x):=by
 unfold Ii GW;dsimp only
 repeat' split
 all_goals exact t_gro
theorem Su0 (x:A9):St 12 x (DW x):=by
 unfold DW
 try dsimp only
 repeat' split
 all_goals first | with_reducible exact St8 x | with_reducible exact SI x | with_reducible exact St9 x | with_reducible exact SI5 x | exact t_gro
theorem Su1 (x:A9):St 12 x (CS x):=by
 unfold CS;dsimp only
 repeat' split
 all_goals exact t_gro
theorem Su2 (x:A9):St 12 x (CT x):=by
 unfold CT;dsimp only
 repeat' split
 all_goals first | with_reducible exact Su1 x | exact t_gro
theorem SJ (x:A9):St 12 x (Dq x):=by
 unfold Dq;dsimp only
 repeat' split
 all_goals exact t_gro
theorem Su3 (x:A9):St 12 x (DY x):=by
 unfold DY;dsimp only
 repeat' split
 all_goals first | with_reducible exact SJ x | exact t_gro
theorem ND (x:A9) (a:Nat) (i j:Int):St 5 x (Z0 x a i j):=by
 unfold Z0;dsimp only
 repeat' split
 all_goals exact t_gro
theorem Su4 (x:A9) (a:Nat) (j:Int):St 12 x (Ds x a j):=by
 unfold Ds;dsimp only
 repeat' split
 all_goals exact t_gro
theorem Su5 (x:A9):St 12 x (DZ x):=by
 unfold DZ;dsimp only
 repeat' split
 all_goals first | with_reducible exact St.up (k:=7) (ND _ _ _ _) | with_reducible exact St.up (k:=5) (St.call (ND _ _ _ _)) | with_reducible exact Su4 _ _ _ | with_reducible exact SJ x | with_reducible exact Su3 x | exact t_gro
theorem VT (x:A9):St 12 x (N7 x):=by
 unfold N7
 try dsimp only
 repeat' split
 all_goals first | with_reducible exact St7 x | with_reducible exact Su0 x | with_reducible exact Su2 x | with_reducible exact Su5 x | with_reducible exact Gm x | exact t_gro
theorem JT {x y:A9} {N:Nat} (h:St N x y):St (N+2) x (X1 y):=by
 unfold X1;dsimp only
 repeat' split
 ·exact St.up (k:=2) (St.pop (St.setPl (by simp) (by simp) (by simp) h))
 ·exact St.pc (St.s (St.setPl (by simp) (by simp) (by simp) h))
theorem LI {x y:A9} {N:Nat} {w:Int} (h:St N x y):St (N+3) x (Ce y w):=by
 unfold Ce;dsimp only
 have h1:St (N+1) x (y.s 3 w):=St.s h
 repeat' split
 ·exact St.up (k:=1) (St.pc h1)
 ·exact JT h1
 ·exact St.up (k:=1) (St.pc h1)
theorem Su6 (x:A9):St 12 x (Ea x):=by
 unfold Ea;dsimp only
 repeat' split
 all_goals first | with_reducible exact St.up (k:=7) (LI (St.load (St.refl _))) | with_reducible exact St.up (k:=7) (LI (St.cas (St.refl _))) | with_reducible exact St.up (k:=8) (JT (St.load (St.refl _))) | exact t_gro
theorem Su7 (x:A9):St 12 x (Eb x):=by
 unfold Eb;dsimp only
 repeat' split
 all_goals first | with_reducible exact Su6 x | with_reducible exact St.up (k:=7) (LI (St.load (St.refl _))) | exact t_gro
theorem ZZ (x:A9):St 12 x (BL x):=by
 unfold BL
 try dsimp only
 repeat' split
 all_goals first | with_reducible exact Su7 x | with_reducible exact Gm x | exact t_gro
theorem Sa0 (x:A9):St 12 x (BM x):=by
 unfold BM;dsimp only
 repeat' split
 all_goals exact t_gro
theorem Su8 (x:A9):St 12 x (EK x):=by
 unfold EK;dsimp only
 repeat' split
 all_goals exact t_gro
theorem VU (x:A9):St 12 x (Ai x):=by
 unfold Ai;dsimp only
 repeat' split
 all_goals exact t_gro
theorem VV (x:A9):St 12 x (Aj x):=by
 unfold Aj;dsimp only
 repeat' split
 all_goals exact t_gro
theorem VW (x:A9):St 12 x (Ak x):=by
 unfold Ak;dsimp only
 repeat' split
 all_goals exact t_gro
theorem Sa1 (x:A9):St 12 x (BN x):=by
 unfold BN
 try dsimp only
 repeat' split
 all_goals first | with_reducible exact Sa0 x | with_reducible exact Su8 x | with_reducible exact VU x | with_reducible exact VV x | with_reducible exact VW x | exact t_gro
theorem Sa2 (x:A9):St 12 x (Az x):=by
 unfold Az AS;dsimp only
 repeat' split
 all_goals exact t_gro
theorem Sa3 (x:A9):St 12 x (AA x):=by
 unfold AA;dsimp only
 repeat' split
 all_goals exact t_gro
theorem Sa4 (x:A9):St 12 x (AC x):=by
 unfold AC;dsimp only
 repeat' split
 all_goals exact t_gro
theorem VX (x:A9):St 12 x (X2 x):=by
 unfold X2 AS;dsimp only
 repeat' split
 all_goals exact t_gro
theorem Sa5 (x:A9):St 12 x (BO x):=by
 unfold BO
 try dsimp only
 repeat' split
 all_goals first | with_reducible exact Sa2 x | with_reducible exact Sa3 x | with_reducible exact Sa4 x | with_reducible exact VX x | exact t_gro
theorem Px (x:A9):St 12 x (R3 x):=by
 unfold R3
 try dsimp only
 repeat' split
 all_goals first | with_reducible exact ZZ x | with_reducible exact Sa1 x | with_reducible exact Sa5 x | exact t_gro
theorem SK {x y:A9} {N:Nat} (h:St N x y):St (N+2) x (W0 y):=by
 unfold W0;dsimp only
 repeat' split
 ·exact St.up (k:=2) (St.pop (St.setPl (by simp) (by simp) (by simp) h))
 ·exact St.pc (St.s (St.setPl (by simp) (by simp) (by simp) h))
theorem SL {x y:A9} {N:Nat} (h:St N x y):St (N+2) x (Cg y):=by
 unfold Cg
 exact St.pc (St.s h)
theorem Sa6 (x:A9):St 12 x (BP x):=by
 unfold BP;dsimp only
 repeat' split
 all_goals repeat' (first | with_reducible apply SL | with_reducible (first | apply St.refl | assumption | apply St.load | apply St.store | apply St.cas | apply St.add | apply St.swing | apply St.swingA | apply St.swingM | apply St.drop1 | apply St.guard | apply St.next | apply St.lvl | apply St.dcas | apply St.dcss | apply St.gh | apply St.call | apply St.fin | apply St.s | apply St.pc | apply St.push | apply St.pop))
theorem Su9 (x:A9):St 12 x (Ec x):=by
 unfold Ec;dsimp only
 repeat' split
 all_goals repeat' (first | with_reducible exact Sa6 x | with_reducible apply SL | with_reducible apply SK | with_reducible (first | apply St.refl | assumption | apply St.load | apply St.store | apply St.cas | apply St.add | apply St.swing | apply St.swingA | apply St.swingM | apply St.drop1 | apply St.guard | apply St.next | apply St.lvl | apply St.dcas | apply St.dcss | apply St.gh | apply St.call | apply St.fin | apply St.s | apply St.pc | apply St.push | apply St.pop))
theorem SM (x:A9):St 12 x (Z7 x):=by
 unfold Z7
 try dsimp only
 repeat' split
 all_goals first | with_reducible exact Su9 x | with_reducible exact Gm x | exact t_gro
theorem Sa7 (x:A9):St 12 x (BQ x):=by
 unfold BQ;dsimp only
 repeat' split
 all_goals exact t_gro
theorem Sa8 (x:A9):St 12 x (BR x):=by
 unfold BR;dsimp only
 repeat' split
 all_goals exact t_gro
theorem Sa9 (x:A9):St 12 x (BS x):=by
 unfold BS AT;dsimp only
 repeat' split
 all_goals exact t_gro
theorem Sb0 (x:A9):St 12 x (BT x):=by
 unfold BT AT;dsimp only
 repeat' split
 all_goals first | with_reducible exact Sa9 x | exact t_gro
theorem Sb1 (x:A9):St 12 x (BV x):=by
 unfold BV;dsimp only
 repeat' split
 all_goals exact t_gro
theorem Sv0 (x:A9):St 12 x (EL x):=by
 unfold EL;dsimp only
 repeat' split
 all_goals exact t_gro
theorem VY (x:A9):St 12 x (Al x):=by
 unfold Al;dsimp only
 repeat' split
 all_goals exact t_gro
theorem VZ (x:A9):St 12 x (Am x):=by
 unfold Am;dsimp only
 repeat' split
 all_goals exact t_gro
theorem Sb2 (x:A9):St 12 x (BW x):=by
 unfold BW;dsimp only
 repeat' split
 all_goals exact t_gro
theorem Sb3 (x:A9):St 12 x (BX x):=by
 unfold BX
 try dsimp only
 repeat' split
 all_goals first | with_reducible exact Sb1 x | with_reducible exact Sv0 x | with_reducible exact VY x | with_reducible exact VZ x | with_reducible exact Sb2 x | exact t_gro
theorem Sb4 (x:A9):St 12 x (AU x):=by
 unfold AU;dsimp only
 repeat' split
 all_goals exact t_gro
theorem SI6 (x:A9):St 12 x (GO x):=by
 unfold GO;dsimp only
 repeat' split
 all_goals exact t_gro
theorem Sb5 (x:A9):St 12 x (AV x):=by
 unfold AV;dsimp only
 repeat' split
 all_goals exact t_gro
theorem Sv1 (x:A9):St 12 x (CU x):=by
 unfold CU;dsimp only
 repeat' split
 all_goals exact t_gro
theorem Sb6 (x:A9):St 12 x (AW x):=by
 unfold AW
 try dsimp only
 repeat' split
 all_goals first | with_reducible exact Sb4 x | with_reducible exact SI6 x | with_reducible exact Sb5 x | with_reducible exact Sv1 x | exact t_gro
theorem SN (x:A9):St 12 x (U2 x):=by
 unfold U2
 try dsimp only
 repeat' split
 all_goals first | with_reducible exact SM x | with_reducible exact Sb3 x | with_reducible exact Sa7 x | with_reducible exact Sa8 x | with_reducible exact Sb0 x | with_reducible exact Sb6 x | exact t_gro
end Go.Proofs.YtahpbclnkofhfaaGreat.Mod
end
namespace Go.Proofs.YtahpbclnkofhfaaGreat
section
open Mod
structure B5 (Q:M6->Prop) (x:A9):Prop where
 a:∀f ∈ x.t.fr.dropLast,Q f
structure E3 (Q:M6->Prop) (x:A9):Prop where
 a:∀f ∈ x.t.fr,Q f
section
variable {Q:M6->Prop} {x:A9}
theorem E3.rest (h:E3 Q x):B5 Q x:=⟨λf hf=>h.a f (List.dropLast_subset _ hf)⟩
theorem E3.top (h:E3 Q x) (hne:x.t.fr≠[]):Q x.f:=by
 have e:x.f=x.t.fr.getLast hne:=by
  show x.t.fr.getLast?.getD dfF=_
  rw [List.getLast?_eq_some_getLast hne]
  rfl
 rw [e]
 exact h.a _ (List.getLast_mem hne)
theorem B5.setF {f:M6} (h:B5 Q x):B5 Q (x.setF f):=by
 constructor
 intro g hg
 have hg:g ∈ (x.t.fr.dropLast ++ [f]).dropLast:=hg
 rw [List.dropLast_append_of_ne_nil (by simp)] at hg
 simp at hg
 exact h.a g hg
theorem B5.s {i:Nat} {v:Int} (h:B5 Q x):B5 Q (x.s i v):=h.setF
theorem B5.pc {i:Int} (h:B5 Q x):B5 Q (x.pc i):=h.setF
theorem B5.m {m:Mac} (h:B5 Q x):B5 Q { x with m:=m }:=⟨h.a⟩
theorem Lo.rest {y:A9} (h:Lo x y) (r:B5 Q x):B5 Q y:=by
 induction h with
 | refl=>exact r
 | s _ ih=>exact ih.s
 | pc _ ih=>exact ih.pc
 | _=>rename_i ih;exact ⟨ih.a⟩
theorem B5.all {f:M6} (h:B5 Q x) (hf:Q f):E3 Q (x.setF f):=by
 constructor
 intro g hg
 have hg:g ∈ x.t.fr.dropLast ++ [f]:=hg
 rcases List.mem_append.1 hg with h1 | h1
 ·exact h.a g h1
 ·rw [List.mem_singleton.1 h1];exact hf
theorem B5.allPc {i:Int} (h:B5 Q x) (hf:Q (x.f.at i)):E3 Q (x.pc i):=h.all hf
theorem B5.allS {i:Nat} {v:Int} (h:B5 Q x) (hf:Q (x.f.s i v)):E3 Q (x.s i v):=h.all hf
theorem B5.pop {r:List Int} (h:B5 Q x):E3 Q (x.pop r):=by
 constructor
 intro g hg
 have hg:g ∈ (x.t.pop r).fr:=hg
 unfold Thr.pop at hg
 split at hg
 ·rename_i e;rw [e] at hg;cases hg
 ·exact h.a g hg
theorem E3.push {i:Int} {r:List Int} (h:E3 Q x) (hf:Q ⟨i,0,Ad 10 r⟩):E3 Q (x.push i r):=by
 constructor
 intro g hg
 have hg:g ∈ x.t.fr ++ [⟨i,0,Ad 10 r⟩]:=hg
 rcases List.mem_append.1 hg with h1 | h1
 ·exact h.a g h1
 ·rw [List.mem_singleton.1 h1];exact hf
theorem B5.call {i j:Int} {r:List Int} (h:B5 Q x) (hf:Q (x.f.at i)) (hg:Q ⟨j,0,Ad 10 r⟩):E3 Q (x.call i j r):=E3.push (h.allPc hf) hg
theorem B5.fin {i j k:Int} (h:B5 Q x) (hf:Q ((((x.f.s 7 i).s 8 j).s 9 k).at 90)) (hg:Q ⟨4,0,Ad 10 []⟩):E3 Q (x.fin i j k):=by
 unfold A9.fin
 refine B5.call (by exact t_rest) ?_ hg
 rw [CM,CM,CM]
 exact hf
theorem E3.load {a:Int} (h:E3 Q x):E3 Q (x.load a).2:=⟨h.a⟩
theorem E3.store {a v:Int} (h:E3 Q x):E3 Q (x.store a v):=⟨h.a⟩
theorem E3.cas {a o n:Int} (h:E3 Q x):E3 Q (x.cas a o n).2:=⟨h.a⟩
theorem E3.add {a v:Int} (h:E3 Q x):E3 Q (x.add a v).2:=⟨h.a⟩
theorem E3.swing {a v w:Int} {b:Bool} (h:E3 Q x):E3 Q (x.swing a v w b).2:=⟨h.a⟩
theorem E3.swingA {a v w:Int} (h:E3 Q x):E3 Q (x.swingA a v w).2:=⟨h.a⟩
theorem E3.swingM {a v w:Int} {b:Bool} (h:E3 Q x):E3 Q (x.swingM a v w b).2:=⟨h.a⟩
theorem E3.drop1 {a:Int} (h:E3 Q x):E3 Q (x.drop1 a).2:=⟨h.a⟩
theorem E3.guard {a v:Int} (h:E3 Q x):E3 Q (x.guard a v):=⟨h.a⟩
theorem E3.gh {f:Gh->Gh} (h:E3 Q x):E3 Q (x.gh f):=⟨h.a⟩
theorem E3.fo {l:List Int} (h:E3 Q x):E3 Q (x.fo l):=⟨h.a⟩
theorem E3.re {l:List Int} (h:E3 Q x):E3 Q (x.re l):=⟨h.a⟩
theorem E3.setPl {p s w:List Int} (h:E3 Q x):E3 Q (x.setPl p s w):=⟨h.a⟩
theorem E3.m {m:Mac} (h:E3 Q x):E3 Q { x with m:=m }:=⟨h.a⟩
end
theorem R0 (f:M6) (i:Int):(f.at i).r.length=f.r.length:=rfl
theorem R1 (f:M6) (i:Nat) (v:Int):(f.s i v).r.length=f.r.length:=by unfold M6.s;simp
def Z1 (sl th:Int) (f:M6):Prop:=f.r.length=10/\((f.fn=1\/f.fn=2\/f.fn=3)/\0<=f.pc/\f.pc<=2\/f.fn=4/\0<=f.pc/\f.pc<=sl\/f.fn=5/\f.pc=0\/f.fn=6/\0<=f.pc/\f.pc<=sl*th+1)
section
variable {Q:M6->Prop} {x:A9} {sl th:Int}
theorem Sb7 (hQ:∀f,Z1 sl th f->Q f) (h:E3 Q x) (o:Z1 sl th x.f) (e:x.f.fn=1):E3 Q (alloc x):=by
 have r:=h.rest
 obtain ⟨len,o2⟩:=o
 unfold alloc;dsimp only
 repeat' split
 all_goals (refine t_st ?_;first | with_reducible assumption | ((with_reducible first | apply B5.pop | apply B5.call | apply B5.allPc | apply B5.allS | apply B5.fin);exact t_rest))
 all_goals (refine hQ _ ?_;exact t_hz)
theorem SO (hQ:∀f,Z1 sl th f->Q f) (h:E3 Q x) (o:Z1 sl th x.f) (e:x.f.fn=2):E3 Q (Af x):=by
 have r:=h.rest
 obtain ⟨len,o2⟩:=o
 unfold Af;dsimp only
 repeat' split
 all_goals (refine t_st ?_;first | with_reducible assumption | ((with_reducible first | apply B5.pop | apply B5.call | apply B5.allPc | apply B5.allS | apply B5.fin);exact t_rest))
 all_goals (refine hQ _ ?_;exact t_hz)
theorem SQ (hQ:∀f,Z1 sl th f->Q f) (h:E3 Q x) (o:Z1 sl th x.f) (e:x.f.fn=3):E3 Q (Ah x):=by
 have r:=h.rest
 obtain ⟨len,o2⟩:=o
 unfold Ah;dsimp only
 repeat' split
 all_goals (refine t_st ?_;first | with_reducible assumption | ((with_reducible first | apply B5.pop | apply B5.call | apply B5.allPc | apply B5.allS | apply B5.fin);exact t_rest))
 all_goals (refine hQ _ ?_;exact t_hz)
theorem Sv2 (hQ:∀f,Z1 sl th f->Q f) (h:E3 Q x) (hs:sl=x.m.p.slots) (o:Z1 sl th x.f) (e:x.f.fn=4):E3 Q (Ig x):=by
 have r:=h.rest
 obtain ⟨len,o2⟩:=o
 unfold Ig;dsimp only
 repeat' split
 all_goals (refine t_st ?_;first | with_reducible assumption | ((with_reducible first | apply B5.pop | apply B5.call | apply B5.allPc | apply B5.allS | apply B5.fin);exact t_rest))
 all_goals (refine hQ _ ?_;exact t_hz)
theorem LJ {fn:Int} {l:List Int} (h:1<=fn/\fn<=6) (hs:0<=sl) (ht:0<=sl*th):Z1 sl th ⟨fn,0,Ad 10 l⟩:=by
 refine ⟨Dc _ _,?_⟩
 dsimp only
 omega
theorem Wa (hQ:∀f,Z1 sl th f->Q f) (h:E3 Q x) (hs:0<=sl) (ht:0<=sl*th):E3 Q (BJ x):=by
 have r:=h.rest
 unfold BJ;dsimp only
 split
 ·refine E3.push ?_ (hQ _ (LJ (by omega) hs ht))
  (refine t_st ?_;first | with_reducible assumption | ((with_reducible first | apply B5.pop | apply B5.call | apply B5.allPc | apply B5.allS | apply B5.fin);exact t_rest))
 ·(refine t_st ?_;first | with_reducible assumption | ((with_reducible first | apply B5.pop | apply B5.call | apply B5.allPc | apply B5.allS | apply B5.fin);exact t_rest))
theorem Sb8 (hQ:∀f,Z1 sl th f->Q f) (h:E3 Q x) {all:Int} (ha:all=sl*th) (h0:0<=all) (o:Z1 sl th x.f) (e:x.f.fn=6):E3 Q (BK x all):=by
 have r:=h.rest
 obtain ⟨len,o2⟩:=o
 unfold BK
 split
 ·refine B5.allPc (by exact t_rest) (hQ _ ?_)
  show Z1 sl th (x.f.at (x.f.pc+1))
  exact t_hz
 ·exact h
theorem Sb9 (hQ:∀f,Z1 sl th f->Q f) (h:E3 Q x) (hs:0<=sl) (ht:0<=sl*th):E3 Q (Fw x):=by
 have r:=h.rest
 unfold Fw
 split
 ·(refine t_st ?_;first | with_reducible assumption | ((with_reducible first | apply B5.pop | apply B5.call | apply B5.allPc | apply B5.allS | apply B5.fin);exact t_rest))
 ·refine E3.push ?_ (hQ _ (LJ (by omega) hs ht))
  exact h.fo
theorem Sv3 (hQ:∀f,Z1 sl th f->Q f) (h:E3 Q x) (hs:sl=x.m.p.slots) (ht:th=x.m.p.c.threads) (s0:0<=sl) (t0:0<=sl*th) (o:Z1 sl th x.f) (e:x.f.fn=6):E3 Q (scan x):=by
 have hy:E3 Q (if x.f.pc=0 then x.fo [] else x)/\(if x.f.pc=0 then x.fo [] else x).f=x.f:=by
  split
  ·exact ⟨h.fo,rfl⟩
  ·exact ⟨h,rfl⟩
 unfold scan
 dsimp only
 generalize (if x.f.pc=0 then x.fo [] else x)=y at *
 obtain ⟨h2,ef⟩:=hy
 have r:=h2.rest
 rw [<- hs,<- ht]
 split
 ·rename_i c
  obtain ⟨len,o2⟩:=o
  refine B5.allPc (by exact t_rest) (hQ _ ?_)
  show Z1 sl th (y.f.at (y.f.pc+1))
  rw [ef] at c ⊢
  exact t_hz
 ·rename_i c
  exact Sb9 hQ (Sb8 hQ h2 rfl t0 (by rw [ef];exact o) (by rw [ef];exact e)) s0 t0
theorem SR (hQ:∀f,Z1 sl th f->Q f) (h:E3 Q x) (o:Z1 sl th x.f):E3 Q (Ag x):=by
 have r:=h.rest
 unfold Ag
 split
 ·exact h
 split
 ·exact Sb7 hQ h o (by assumption)
 split
 ·exact SO hQ h o (by assumption)
 ·(refine t_st ?_;first | with_reducible assumption | ((with_reducible first | apply B5.pop | apply B5.call | apply B5.allPc | apply B5.allS | apply B5.fin);exact t_rest))
theorem Fo (hQ:∀f,Z1 sl th f->Q f) (h:E3 Q x) (hs:sl=x.m.p.slots) (ht:th=x.m.p.c.threads) (s0:0<=sl) (t0:0<=sl*th) (o:Z1 sl th x.f):E3 Q (U1 x):=by
 unfold U1
 split
 ·exact h
 split
 ·exact SQ hQ h o (by assumption)
 split
 ·exact Sv2 hQ h hs o (by assumption)
 split
 ·exact Wa hQ h s0 t0
 split
 ·exact Sv3 hQ h hs ht s0 t0 o (by assumption)
 ·exact SR hQ h o
end
end
section
open Mod
def fA (sl th fn pc:Int):Bool:=
 if fn=4 then decide (pc < sl) else if fn=5 then false else if fn=6 then decide (pc < sl*th)
 else if fn=10 then decide (pc=0) else if fn=14 then decide (pc≠1) else if fn=35 then decide (pc=0) else if fn=36 then decide (pc≠1)
 else decide (pc≠90)
def fW (fn pc:Int):Nat:=
 if fn=5 then 3 else if fn=6 then 2
 else if fn=20 then (if pc=0 then 2 else 1)
 else if fn=21 then (if pc=17 then 6 else if pc=8\/pc=1\/pc=12 then 3 else 2)
 else if fn=22\/fn=23 then (if pc=12 then 6 else if pc=1\/pc=7 then 3 else 2)
 else if fn=10 then (if pc=0 then 2 else 1)
 else if fn=11 then (if pc=6 then 6 else if pc=7\/pc=9 then 5 else if pc=8 then 4 else if pc=1\/pc=5\/pc=10\/pc=11\/pc=13\/pc=14 then 3 else 2)
 else if fn=12\/fn=13 then (if pc=6 then 6 else if pc=1 then 4 else if pc=0 then 3 else 2)
 else if fn=14 then (if pc=5\/pc=6 then 4 else if pc=0\/pc=1\/pc=4 then 3 else 2)
 else if fn=31 then (if pc=16 then 4 else if pc=1\/pc=7\/pc=11\/pc=12 then 3 else 2)
 else if fn=32\/fn=33 then (if pc=5 then 4 else if pc=2\/pc=6\/pc=12\/pc=13 then 3 else 2)
 else if fn=34 then (if pc=2\/pc=4 then 3 else 2)
 else if fn=35 then (if pc=2 then 6 else 2)
 else if fn=36 then (if pc=4 then 3 else 2)
 else 1
def fR (fn:Int):Nat:=if fn<=4 then 0 else if fn<=6 then 1 else if fn=10 then 2 else if fn=14\/fn=35 then 3 else 4
theorem SM8 (fn:Int):fR fn<=4:=by
 unfold fR;repeat' split
 all_goals omega
theorem SI7 {c:Prop} [Decidable c] {a b:Nat} (ha:1<=a/\a<=6) (hb:1<=b/\b<=6):1<=(if c then a else b)/\(if c then a else b)<=6:=by
 split
 ·exact ha
 ·exact hb
theorem LK (fn pc:Int):1<=fW fn pc/\fW fn pc<=6:=by
 unfold fW
 repeat' (first | with_reducible apply SI7 | exact ⟨by decide,by decide⟩)
section
variable (sl th:Int)
def NE:List M6->Nat
 | []=>0
 | f :: l=>fW f.fn f.pc+if fA sl th f.fn f.pc=true then 0 else NE l
def onR (fn:Int):List M6->Prop
 | []=>True
 | f :: _=>fA sl th f.fn f.pc=true\/fR fn < fR f.fn
def MH:List M6->Prop
 | []=>True
 | f :: l=>onR sl th f.fn l/\MH l
theorem Sv4:∀ {l:List M6} {fn:Int},onR sl th fn l->MH sl th l->NE sl th l<=6*(5 - fR fn)
 | [],_,_,_=>Nat.zero_le _
 | f :: l,fn,h1,h2=>by
  unfold NE
  have hw:=(LK f.fn f.pc).2
  have hr:=SM8 fn
  have hr2:=SM8 f.fn
  split
  ·omega
  ·rename_i c
   rcases h1 with h1 | h1
   ·exact absurd h1 c
   ·have ih:=Sv4 h2.1 h2.2
    omega
def GP (x:A9):List M6:=x.t.fr.dropLast.reverse
def mu (x:A9):Nat:=NE sl th x.t.fr.reverse
structure W3 (x:A9):Prop where
 a:MH sl th x.t.fr.reverse
structure J1 (fn:Int) (l:List M6) (x:A9):Prop where
 f:x.f.fn=fn
 e:GP x=l
 o:onR sl th fn l
 a:MH sl th l
end
section
variable {sl th:Int} {x y:A9} {fn:Int} {l:List M6}
theorem Gn (h:x.t.fr≠[]):x.t.fr.reverse=x.f :: GP x:=by
 conv=>lhs;rw [Ln h]
 simp [GP,A9.f]
theorem W3.r (h:W3 sl th x) (hne:x.t.fr≠[]):J1 sl th x.f.fn (GP x) x:=by
 have h:=h.a
 rw [Gn hne] at h
 exact ⟨rfl,rfl,h.1,h.2⟩
theorem Sv5 (x:A9) (f:M6):GP (x.setF f)=GP x:=by
 show (x.t.fr.dropLast ++ [f]).dropLast.reverse=_
 rw [List.dropLast_append_of_ne_nil (by simp)]
 simp [GP]
theorem J1.setF {f:M6} (h:J1 sl th fn l x) (hf:f.fn=fn):J1 sl th fn l (x.setF f):=⟨by rw [Hu];exact hf,by rw [Sv5];exact h.e,h.o,h.a⟩
theorem J1.s {i:Nat} {v:Int} (h:J1 sl th fn l x):J1 sl th fn l (x.s i v):=h.setF h.f
theorem J1.pc {i:Int} (h:J1 sl th fn l x):J1 sl th fn l (x.pc i):=h.setF h.f
theorem J1.gh {f:Gh->Gh} (h:J1 sl th fn l x):J1 sl th fn l (x.gh f):=⟨h.f,h.e,h.o,h.a⟩
theorem J1.fo {k:List Int} (h:J1 sl th fn l x):J1 sl th fn l (x.fo k):=⟨h.f,h.e,h.o,h.a⟩
theorem J1.re {k:List Int} (h:J1 sl th fn l x):J1 sl th fn l (x.re k):=⟨h.f,h.e,h.o,h.a⟩
theorem J1.all (h:J1 sl th fn l x) (hne:x.t.fr≠[]):W3 sl th x:=by
 constructor
 rw [Gn hne]
 exact ⟨by rw [h.f,h.e];exact h.o,by rw [h.e];exact h.a⟩
theorem Bn (x:A9) (f:M6):(x.setF f).t.fr≠[]:=by
 show x.t.fr.dropLast ++ [f]≠[]
 simp
theorem Lo.adjR (h:Lo x y) (r:J1 sl th fn l x):J1 sl th fn l y:=by
 induction h with
 | refl=>exact r
 | s _ ih=>exact ih.s
 | pc _ ih=>exact ih.pc
 | _=>rename_i ih;exact ⟨ih.f,ih.e,ih.o,ih.a⟩
theorem Lo.ne (h:Lo x y) (r:x.t.fr≠[]):y.t.fr≠[]:=by
 induction h with
 | refl=>exact r
 | s _ ih=>exact Bn _ _
 | pc _ ih=>exact Bn _ _
 | _=>rename_i ih;exact ih
theorem J1.allPc {i:Int} (h:J1 sl th fn l x):W3 sl th (x.pc i):=h.pc.all (Bn _ _)
theorem J1.allS {i:Nat} {v:Int} (h:J1 sl th fn l x):W3 sl th (x.s i v):=h.s.all (Bn _ _)
theorem J1.pop {r:List Int} (h:J1 sl th fn l x):W3 sl th (x.pop r):=by
 constructor
 show MH sl th (x.t.pop r).fr.reverse
 unfold Thr.pop
 split
 ·rename_i e;rw [e];trivial
 ·show MH sl th (GP x)
  rw [h.e];exact h.a
theorem W3.push {i:Int} {r:List Int} (h:W3 sl th x) (ho:onR sl th i x.t.fr.reverse):W3 sl th (x.push i r):=by
 constructor
 show MH sl th (x.t.fr ++ [(⟨i,0,Ad 10 r⟩ : M6)]).reverse
 rw [List.reverse_append]
 show MH sl th (⟨i,0,Ad 10 r⟩ :: x.t.fr.reverse)
 exact ⟨ho,h.a⟩
theorem J1.call {i j:Int} {r:List Int} (h:J1 sl th fn l x) (hd:fA sl th fn i=true\/fR j < fR fn):W3 sl th (x.call i j r):=by
 refine W3.push h.allPc ?_
 rw [show (x.pc i).t.fr.reverse=(x.pc i).f :: GP (x.pc i) from Gn (Bn _ _)]
 show fA sl th (x.pc i).f.fn (x.pc i).f.pc=true\/_ < fR (x.pc i).f.fn
 rw [AY,Ao,BY,h.f]
 exact hd
theorem J1.fin {i j k:Int} (h:J1 sl th fn l x) (hd:fR 4 < fR fn):W3 sl th (x.fin i j k):=by
 unfold A9.fin
 exact (h.s.s.s).call (.inr hd)
structure Act (x:A9):Prop where
 a:x.m.acted=true
theorem BB (m:Mac) (a:Int):(m.touch a).acted=true:=by unfold Mac.touch;split <;> rfl
theorem Act.load {a:Int}:Act (x.load a).2:=by
 constructor
 show (x.m.load a).2.acted=true
 unfold Mac.load;dsimp only
 split <;> exact BB _ _
theorem Act.store {a v:Int}:Act (x.store a v):=by
 constructor
 show (x.m.store a v).acted=true
 unfold Mac.store;dsimp only
 split <;> exact BB _ _
theorem Act.cas {a o v:Int}:Act (x.cas a o v).2:=by
 constructor
 show (x.m.cas a o v).2.acted=true
 unfold Mac.cas;dsimp only
 split <;> exact BB _ _
theorem Act.add {a v:Int}:Act (x.add a v).2:=by
 constructor
 show (x.m.add a v).2.acted=true
 unfold Mac.add;dsimp only
 split <;> exact BB _ _
theorem Act.swing {a v w:Int} {b:Bool}:Act (x.swing a v w b).2:=Act.cas
theorem Act.swingA {a v w:Int}:Act (x.swingA a v w).2:=Act.cas
theorem Act.swingM {a v w:Int} {b:Bool}:Act (x.swingM a v w b).2:=Act.cas
theorem Act.drop1 {a:Int}:Act (x.drop1 a).2:=Act.add
theorem Act.guard {a b:Int}:Act (x.guard a b):=Act.store
theorem Act.dcas {a o n b p q:Int}:Act { x with m:=(x.m.dcas a o n b p q).2 }:=by
 constructor
 show (x.m.dcas a o n b p q).2.acted=true
 unfold Mac.dcas;dsimp only
 split <;> exact BB _ _
theorem Act.dcss {a o n b p:Int}:Act { x with m:=(x.m.dcss a o n b p).2 }:=by
 constructor
 show (x.m.dcss a o n b p).2.acted=true
 unfold Mac.dcss;dsimp only
 split <;> exact BB _ _
theorem Act.next {n:Int} (h:Act x):Act { x with m:=(x.m.next n).2 }:=by
 constructor
 show (x.m.next n).2.acted=true
 unfold Mac.next
 split <;> exact h.a
theorem Act.lvl {n:Int} (h:Act x):Act { x with m:=(x.m.lvl n).2 }:=by
 constructor
 show (x.m.lvl n).2.acted=true
 unfold Mac.lvl
 split <;> exact h.a
theorem Ch.act (h:Ch x):Act x:=by
 induction h with
 | load=>exact Act.load
 | store=>exact Act.store
 | cas=>exact Act.cas
 | add=>exact Act.add
 | swing=>exact Act.swing
 | swingA=>exact Act.swingA
 | swingM=>exact Act.swingM
 | drop1=>exact Act.drop1
 | guard=>exact Act.guard
 | dcas=>exact Act.dcas
 | dcss=>exact Act.dcss
 | next _ ih=>exact ih.next
 | lvl _ ih=>exact ih.lvl
 | _=>rename_i ih;exact ⟨ih.a⟩
theorem Sv6 (h:x.t.fr≠[]):mu sl th x=fW x.f.fn x.f.pc+if fA sl th x.f.fn x.f.pc=true then 0 else NE sl th (GP x):=by
 unfold mu
 rw [Gn h]
 rfl
theorem Kv (x:A9) (i:Int) (r:List Int):mu sl th (x.push i r)=fW i 0+if fA sl th i 0=true then 0 else mu sl th x:=by
 unfold mu
 show NE sl th (x.t.fr ++ [(⟨i,0,Ad 10 r⟩ : M6)]).reverse=_
 rw [List.reverse_append]
 rfl
theorem Wb (r:List Int) (h:x.t.fr≠[]):mu sl th (x.pop r)=NE sl th (GP x):=by
 unfold mu
 show NE sl th (x.t.pop r).fr.reverse=_
 unfold Thr.pop
 rw [if_neg h]
 rfl
section
variable {x0:A9} {pc0:Int}
theorem J1.mu (h0:J1 sl th fn l x0) (hne:x0.t.fr≠[]) (hp:x0.f.pc=pc0):mu sl th x0=fW fn pc0+if fA sl th fn pc0=true then 0 else NE sl th l:=by
 rw [Sv6 hne,h0.f,h0.e,hp]
theorem J1.muPc (h:J1 sl th fn l y) (i:Int):Proofs.YtahpbclnkofhfaaGreat.mu sl th (y.pc i)=fW fn i+if fA sl th fn i=true then 0 else NE sl th l:=
 h.pc.mu (Bn _ _) (by rw [AY];rfl)
theorem J1.ltPc {i:Int} (h0:J1 sl th fn l x0) (hne:x0.t.fr≠[]) (hp:x0.f.pc=pc0) (h:J1 sl th fn l y)
  (hlt:(fW fn i+if fA sl th fn i=true then 0 else NE sl th l) < fW fn pc0+if fA sl th fn pc0=true then 0 else NE sl th l):Proofs.YtahpbclnkofhfaaGreat.mu sl th (y.pc i) < Proofs.YtahpbclnkofhfaaGreat.mu sl th x0:=by
 rw [h0.mu hne hp,h.muPc]
 exact hlt
theorem J1.ltCall {i j:Int} {r:List Int} (h0:J1 sl th fn l x0) (hne:x0.t.fr≠[]) (hp:x0.f.pc=pc0) (h:J1 sl th fn l y)
  (hlt:(fW j 0+if fA sl th j 0=true then 0 else fW fn i+if fA sl th fn i=true then 0 else NE sl th l) < fW fn pc0+if fA sl th fn pc0=true then 0 else NE sl th l):Proofs.YtahpbclnkofhfaaGreat.mu sl th (y.call i j r) < Proofs.YtahpbclnkofhfaaGreat.mu sl th x0:=by
 show Proofs.YtahpbclnkofhfaaGreat.mu sl th ((y.pc i).push j r) < _
 rw [h0.mu hne hp,Kv,h.muPc]
 exact hlt
theorem J1.ltFin {i j k:Int} (h0:J1 sl th fn l x0) (hne:x0.t.fr≠[]) (hp:x0.f.pc=pc0) (h:J1 sl th fn l y)
  (hlt:(fW 4 0+if fA sl th 4 0=true then 0 else fW fn 90+if fA sl th fn 90=true then 0 else NE sl th l) < fW fn pc0+if fA sl th fn pc0=true then 0 else NE sl th l):Proofs.YtahpbclnkofhfaaGreat.mu sl th (y.fin i j k) < Proofs.YtahpbclnkofhfaaGreat.mu sl th x0:=
 h0.ltCall hne hp (h.s.s.s) hlt
theorem J1.ltPop {r:List Int} (h0:J1 sl th fn l x0) (hne:x0.t.fr≠[]) (hp:x0.f.pc=pc0) (h:J1 sl th fn l y) (hny:y.t.fr≠[])
  (hlt:NE sl th l < fW fn pc0+if fA sl th fn pc0=true then 0 else NE sl th l):Proofs.YtahpbclnkofhfaaGreat.mu sl th (y.pop r) < Proofs.YtahpbclnkofhfaaGreat.mu sl th x0:=by
 rw [h0.mu hne hp,Wb r hny,h.e]
 exact hlt
end
def Nx (sl th:Int) (x y:A9):Prop:=W3 sl th y/\(Act y\/mu sl th y < mu sl th x)
end
end
section
open Mod
structure FA (Q:Mod.Cf->M6->Prop) (c:Mod.Cf) (x:A9) (B:Nat):Prop where
 p:x.m.p=D5 c
 q:E3 (Q c) x
 a:W3 (D5 c).slots c.threads x
 pr:(x.t.pred.length:Int)=c.level
 su:(x.t.succ.length:Int)=c.level
 wo:(x.t.word.length:Int)=c.level
 P:x.P<=B
structure It (d:A9->A9) (Q:Mod.Cf->M6->Prop) (W:A9->Prop) (ins:Int):Prop where
 st:∀x,St 12 x (d x)
 all:∀c x,Fv c=true->x.m.p=D5 c->x.t.fr≠[]->E3 (Q c) x->E3 (Q c) (d x)
 nx:∀c x,Fv c=true->x.m.p=D5 c->x.t.fr≠[]->E3 (Q c) x->W3 (D5 c).slots c.threads x->Nx (D5 c).slots c.threads x (d x)
 w:∀c x B,Fv c=true->FA Q c x B->B < 200000000->x.t.fr≠[]->0<=x.id/\x.id<=6->W x
 new:∀c op l,Fv c=true->0<=op/\op<=2->Q c ⟨ins+op,0,Ad 10 l⟩
section
variable {d:A9->A9} {Q:Mod.Cf->M6->Prop} {W:A9->Prop} {ins:Int} {c:Mod.Cf}
theorem FA.mono {x:A9} {B C:Nat} (h:FA Q c x B) (hb:B<=C):FA Q c x C:=⟨h.p,h.q,h.a,h.pr,h.su,h.wo,Nat.le_trans h.P hb⟩
theorem FA.bit (D:It d Q W ins) (hc:Fv c=true) {x:A9} {B:Nat} (h:FA Q c x B) (hne:x.t.fr≠[]):FA Q c (d x) (B+24)/\Nx (D5 c).slots c.threads x (d x):=by
 have s:=D.st x
 have f:=s.fix
 have n:=D.nx c x hc h.p hne h.q h.a
 have hP:=s.P
 have:=h.P
 exact ⟨⟨f.p.trans h.p,D.all c x hc h.p hne h.q,n.1,by rw [f.pr];exact h.pr,by rw [f.su];exact h.su,by rw [f.wo];exact h.wo,by omega⟩,n⟩
theorem SW8 {sl th:Int} {x:A9} (h:W3 sl th x):mu sl th x<=36:=by
 by_cases hne:x.t.fr = []
 ·unfold mu
  rw [hne]
  exact Nat.zero_le _
 ·rw [Sv6 hne]
  have r:=h.r hne
  have h1:=Sv4 sl th r.o r.a
  have h2:=(LK x.f.fn x.f.pc).2
  split <;> omega
theorem SS (D:It d Q W ins) (hc:Fv c=true):∀(n:Nat) (x:A9) (B:Nat),mu (D5 c).slots c.threads x<=n->FA Q c x B->B+24*(n+1) < 200000000->0<=x.id/\x.id<=6 ->
  ∃k z,Mod.bits d k x=some z/\ZC d W k x/\Fix x z/\FA Q c z (B+24*(n+1))
 | n,x,B,hm,h,hB,hid=>by
  by_cases c0:done x=true
  ·refine ⟨0,x,?_,trivial,⟨rfl,rfl,rfl,rfl,rfl,rfl,rfl,rfl⟩,h.mono (by omega)⟩
   unfold Mod.bits
   unfold done at c0
   rw [if_pos c0]
  ·have hne:x.t.fr≠[]:=by
    intro e
    unfold done at c0
    rw [e] at c0
    simp at c0
   have hb:∀k,Mod.bits d (k+1) x=Mod.bits d k (d x):=by
    intro k
    unfold done at c0
    conv=>lhs;unfold Mod.bits
    rw [if_neg c0]
   obtain ⟨h1,n1⟩:=h.bit D hc hne
   have hw:=D.w c x B hc h (by omega) hne hid
   have f:=(D.st x).fix
   rcases n1.2 with a | lt
   ·refine ⟨1,d x,?_,.inr ⟨hw,trivial⟩,f,h1.mono (by omega)⟩
    rw [hb]
    unfold Mod.bits
    rw [a.a]
    rfl
   ·cases n with
    | zero=>omega
    | succ n=>
     obtain ⟨k,z,e1,e2,e3,e4⟩:=SS D hc n (d x) (B+24) (by omega) h1 (by omega) (by rw [f.id];exact hid)
     refine ⟨k+1,z,by rw [hb];exact e1,.inr ⟨hw,e2⟩,⟨e3.p.trans f.p,e3.id.trans f.id,e3.th.trans f.th,e3.b.trans f.b,e3.w.trans f.w,e3.pr.trans f.pr,e3.su.trans f.su,e3.wo.trans f.wo⟩,e4.mono (by omega)⟩
structure SW9 (Q:Mod.Cf->M6->Prop) (c:Mod.Cf) (t:Thr):Prop where
 q:∀f ∈ t.fr,Q c f
 a:MH (D5 c).slots c.threads t.fr.reverse
 pr:(t.pred.length:Int)=c.level
 su:(t.succ.length:Int)=c.level
 wo:(t.word.length:Int)=c.level
def Mod.Thr.L (t:Thr):Nat:=t.retired.length+t.found.length+max t.fr.length 1
def Iu (l:List Thr):Nat:=(l.map Mod.Thr.L).sum
theorem LM:∀ {l:List Thr} {k:Nat} {t t':Thr},l[k]? = some t->Iu (l.set k t')+t.L=Iu l+t'.L
 | [],_,_,_,h=>by simp at h
 | a :: l,0,t,t',h=>by
  simp only [List.getElem?_cons_zero,Option.some.injEq] at h
  subst h
  simp only [List.set_cons_zero,Iu,List.map_cons,List.sum_cons]
  omega
 | a :: l,k+1,t,t',h=>by
  simp only [List.getElem?_cons_succ] at h
  have ih:=LM (t':=t') h
  simp only [List.set_cons_succ,Iu,List.map_cons,List.sum_cons] at *
  omega
def Mod.Mac.T (m:Mac):Nat:=m.mm.st.toNat+m.used.toNat+Iu m.th
structure AF (Q:Mod.Cf->M6->Prop) (c:Mod.Cf) (i:Nat) (m:Mac):Prop where
 ok:Fv c=true
 p:m.p=D5 c
 w:(m.mm.w.length:Int)=(D5 c).size
 n:m.th.length<=6
 t:∀t ∈ m.th,SW9 Q c t
 T:m.T<=1000*i+2000
theorem AF.good (D:It d Q W ins):LC d W ins (AF Q c) where
 mono i m h:=⟨h.ok,h.p,h.w,h.n,h.t,Nat.le_trans h.T (by omega)⟩
 wd i m h:=by
  have B:=Be h.ok
  have e:(m.mm.w.length:Int)=m.p.size:=by rw [h.p];exact h.w
  refine ⟨⟨by rw [h.p];rfl,e⟩,?_⟩
  have h1:=B.li
  have h2:=B.nd
  have h3:=B.tr
  have h4:=B.si
  rw [h.p] at e
  omega
 push i m k t cl h ht he ho hk hv:=by
  have hm:=List.mem_of_getElem? ht
  have o:=h.t t hm
  refine ⟨h.ok,h.p,h.w,?_,?_,?_⟩
  ·show (m.th.set k _).length<=6
   rw [List.length_set];exact h.n
  ·intro u hu
   rcases List.mem_or_eq_of_mem_set hu with hu | rfl
   ·exact h.t u hu
   ·refine ⟨?_,?_,o.pr,o.su,o.wo⟩
    ·intro f hf
     have hf:f ∈ t.fr ++ [⟨ins+cl.op,0,Ad 10 [cl.key,cl.val]⟩]:=hf
     rw [he] at hf
     rw [List.mem_singleton.1 hf]
     exact D.new c cl.op _ h.ok ho
    ·show MH _ _ (t.fr ++ [(⟨ins+cl.op,0,Ad 10 [cl.key,cl.val]⟩ : M6)]).reverse
     rw [he]
     exact ⟨trivial,trivial⟩
  ·have e:=LM (t':=t.push (ins+cl.op) [cl.key,cl.val]) ht
   have e2:(t.push (ins+cl.op) [cl.key,cl.val]).L=t.L:=by
    show t.retired.length+t.found.length+max (t.fr ++ [_]).length 1=t.retired.length+t.found.length+max t.fr.length 1
    rw [he]
    rfl
   have h2:m.mm.st.toNat+m.used.toNat+Iu m.th<=1000*i+2000:=h.T
   show m.mm.st.toNat+m.used.toNat+Iu (m.th.set k (t.push (ins+cl.op) [cl.key,cl.val]))<=_
   omega
 step i m k t h hi ht hne:=by
  have hm:=List.mem_of_getElem? ht
  have o:=h.t t hm
  have hk:=(List.getElem?_eq_some_iff.1 ht).1
  have hn:=h.n
  have hL:1<=t.fr.length:=List.length_pos_iff.2 hne
  have hT:m.mm.st.toNat+m.used.toNat+Iu m.th<=1000*i+2000:=h.T
  have e0:=λt'=>LM (t':=t') ht
  have e1:=e0 t
  have eT:t.L=t.retired.length+t.found.length+t.fr.length:=by
   unfold Mod.Thr.L
   rw [Nat.max_eq_left hL]
  have hs:Iu (m.th.set k ⟨[],[],[],[],[],[],[]⟩)+t.L=Iu m.th+1:=e0 _
  have hR:FA Q c ⟨m.quiet,t,k⟩ (m.mm.st.toNat+m.used.toNat+t.L):=by
   refine ⟨h.p,⟨o.q⟩,⟨o.a⟩,o.pr,o.su,o.wo,?_⟩
   show m.mm.st.toNat+m.used.toNat+t.retired.length+t.found.length+t.fr.length<=_
   omega
  obtain ⟨n,z,hb,hsf,f,hz⟩:=SS D h.ok 36 _ _ (SW8 hR.a) hR (by omega) ⟨by show (0:Int)<=(k:Int);omega,by show (k:Int)<=6;omega⟩
  refine ⟨n,z,hb,hsf,f.id,f.th,h.ok,?_,?_,?_,?_,?_⟩
  ·exact f.p.trans h.p
  ·show (z.m.mm.w.length:Int)=_
   rw [f.w]
   exact h.w
  ·show (m.th.set k z.t).length<=6
   rw [List.length_set];exact hn
  ·intro u hu
   rcases List.mem_or_eq_of_mem_set hu with hu | rfl
   ·exact h.t u hu
   ·exact ⟨hz.q.a,hz.a.a,hz.pr,hz.su,hz.wo⟩
  ·have e2:=e0 z.t
   have hP:z.m.mm.st.toNat+z.m.used.toNat+z.t.retired.length+z.t.found.length+z.t.fr.length<=_:=hz.P
   have hz2:z.t.L<=z.t.retired.length+z.t.found.length+z.t.fr.length+1:=by
    unfold Mod.Thr.L
    have:max z.t.fr.length 1<=z.t.fr.length+1:=Nat.max_le.2 ⟨by omega,by omega⟩
    omega
   show z.m.mm.st.toNat+z.m.used.toNat+Iu (m.th.set k z.t)<=_
   omega
theorem EP (m:Mm) (a v:Int):(m.store a v).w.length=m.w.length/\(m.store a v).st.toNat<=m.st.toNat+1:=by
 unfold Mm.store
 split
 ·exact ⟨by simp [Mm.tick,Mm.put],by show (m.st+1).toNat<=_;omega⟩
 ·exact ⟨rfl,by omega⟩
theorem Hx (f:Nat->Int × Int):∀(l:List Nat) (m:Mm),(l.foldl (λ(m:Mm) (i:Nat)=>m.store (f i).1 (f i).2) m).w.length=m.w.length/\(l.foldl (λ(m:Mm) (i:Nat)=>m.store (f i).1 (f i).2) m).st.toNat<=m.st.toNat+l.length
 | [],m=>⟨rfl,by simp⟩
 | i :: l,m=>by
  have h1:=EP m (f i).1 (f i).2
  have h2:=Hx f l (m.store (f i).1 (f i).2)
  simp only [List.foldl_cons,List.length_cons]
  exact ⟨h2.1.trans h1.1,by omega⟩
theorem SI8 {c:Mod.Cf} (h:Fv c=true):((lay (D5 c)).w.length:Int)=(D5 c).size/\(lay (D5 c)).st.toNat<=200:=by
 have B:=Be h
 have b1:=B.no
 have b2:=B.lv
 have b3:=B.se
 have b4:=B.si
 have b5:=B.tr
 have b6:=B.nd
 have b7:=B.li
 unfold lay
 dsimp only
 generalize hm0:(⟨List.replicate (D5 c).size.toNat 0,0,false,[]⟩ : Mm)=m0
 have h0:(m0.w.length:Int)=(D5 c).size/\m0.st.toNat=0:=by
  subst hm0
  exact ⟨by simp;omega,rfl⟩
 have h1:=EP m0 0 (Y0 ((D5 c).sent+1) false 0)
 generalize m0.store 0 (Y0 ((D5 c).sent+1) false 0)=m1 at *
 have h2:=Hx (λi=>((D5 c).link ((D5 c).sent+1+i),(D5 c).sent+1+i+1)) (List.range ((D5 c).c.nodes - ((D5 c).sent+1)).toNat) m1
 rw [List.length_range] at h2
 generalize hm2:(List.range ((D5 c).c.nodes - ((D5 c).sent+1)).toNat).foldl (λ(m:Mm) (i:Nat)=>m.store ((D5 c).link ((D5 c).sent+1+i)) ((D5 c).sent+1+i+1)) m1=m2
 have h2:m2.w.length=m1.w.length/\m2.st.toNat<=m1.st.toNat+((D5 c).c.nodes - ((D5 c).sent+1)).toNat:=by subst hm2;exact h2
 have h3:=EP m2 2 1
 generalize m2.store 2 1=m3 at *
 split
 ·exact ⟨by omega,by omega⟩
 ·have h4:=EP m3 ((D5 c).node 1 3) (D5 c).c.level
  generalize m3.store ((D5 c).node 1 3) (D5 c).c.level=m4 at *
  have h5:=EP m4 ((D5 c).node 2 0) 18446744073709551615
  generalize m4.store ((D5 c).node 2 0) 18446744073709551615=m5 at *
  have h6:=Hx (λi=>((D5 c).node 1 (5+i),Y0 2 false 0)) (List.range (D5 c).c.level.toNat) m5
  rw [List.length_range] at h6
  dsimp only at h6
  exact ⟨by omega,by omega⟩
theorem ST (c:Mod.Cf):∀n:Nat,Iu (List.replicate n (Ay c))=n
 | 0=>rfl
 | n+1=>by
  have ih:=ST c n
  simp only [List.replicate_succ,Iu,List.map_cons,List.sum_cons] at *
  have:(Ay c).L=1:=rfl
  omega
theorem AF.new (hc:Fv c=true) (b:List Int) (g:Bool):AF Q c 0 (J5 c b g):=by
 have hl:=SI8 hc
 have B:=Be hc
 have b1:1<=c.threads/\c.threads<=6:=B.th
 have b2:1<=c.level/\c.level<=6:=B.lv
 refine ⟨hc,rfl,hl.1,?_,?_,?_⟩
 ·show (List.replicate c.threads.toNat (Ay c)).length<=6
  rw [List.length_replicate];omega
 ·intro t ht
  have ht:t ∈ List.replicate c.threads.toNat (Ay c):=ht
  rw [(List.mem_replicate.1 ht).2]
  refine ⟨λf hf=>(by cases hf),trivial,?_,?_,?_⟩ <;> (show ((List.replicate c.level.toNat (0:Int)).length:Int)=c.level;rw [List.length_replicate];omega)
 ·show (lay (D5 c)).st.toNat+(0:Int).toNat+Iu (List.replicate c.threads.toNat (Ay c))<=_
  rw [ST]
  have:(0:Int).toNat=0:=rfl
  omega
end
end
section
open Mod
theorem A7.drop3q {h:A2} {A B C R:Hp} (H:A7 h (A*(B*(C*R)))):A7 h (A*(B*R)):=by
 rw [Hr] at H
 exact H.drop
section
variable {K:kQ} {h:A2} {Q M f:Nat} {ins:Int} {Ts:List Nat} {m:Mac} {R:Hp} {d:A9->A9} {W:A9->Prop} {Inv:Nat->Mac->Prop}
def DH (a:Int):Nat:=if a=0 then 63 else if a=1 then 64 else 65
def V0 (a:Int):Int:=if a=0 then 11 else if a=1 then 21 else 31
theorem LN {c:Mod.Cf} {a:Option Addr} {cc:Nat} {bs:List Int} {gh:Bool} (H:A7 h R) (hs:∀h' P,A7 h' (P*R)->N8 h' a (bs.map λn=>.int .u8 n)) (hl:bs.length<=65536) (hr:∀n ∈ bs,0<=n/\n < 256)
  (k0:Fv c=false->∀h',A7 h' R->K (.tuple #[pQ none,iQ 6]) h') (k1:Fv c=true->∀h' Q M Ts,A7 h' (Cu Q M (DH c.algo) (V0 c.algo) Ts (J5 c bs gh)*R)->K (.tuple #[mP Q,iQ 0]) h') :
  A5 Tryz.prog 30 #[cfV c,lQ a bs.length cc,dQ gh] h K:=by
 refine call30 ?_
 unfold F30 g30 cf lI PY
 have H1:=H.push (oQ (OF c).toArray 23)
 rw [show h.push (oQ #[iQ c.algo,iQ c.threads,iQ c.nodes,iQ c.level,iQ c.batch,iQ c.probes,iQ c.scan] 23)=h.push (oQ (OF c).toArray 23) from rfl]
 generalize h.push (oQ (OF c).toArray 23)=h1 at *
 generalize h.size=CB at *
 have O:=H1.at
 refine C5 O rfl (C5 O rfl (C5 O rfl (C5 O rfl (C5 O rfl (C5 O rfl (C5 O rfl ?_))))))
 refine A0 (Pe (c:=c) H1 (λh' P HP=>hs h' Mr (by rw [W9];exact HP.drop.drop)) hl hr (λhc h2 H2=>?_) λhc h2 M Ts H2=>?_)
 ·refine sb ?_
  refine Bk ?_
  refine sb ?_
  refine Bl ?_
  refine sb ?_
  refine C7 (λ_=>?_) (λhh=>by simp at hh)
  exact k0 hc h2 H2.drop
 ·refine sb ?_
  refine Bk ?_
  refine sb ?_
  refine Bl ?_
  refine sb ?_
  refine C7 (λhh=>by simp at hh) (λ_=>?_)
  generalize J5 c bs gh=m at *
  have H3:=H2.push (oQ #[mP M,.nilFunc,iQ 0] 115)
  generalize h2.push (oQ #[mP M,.nilFunc,iQ 0] 115)=h3 at *
  generalize h2.size=QB at *
  refine ⟨λ_ h'=>A7 h' (Cu QB M (DH c.algo) (V0 c.algo) Ts m*R),?_,?_⟩
  ·have OC:=(H3.drop.drop).at
   refine C5 OC rfl ?_
   refine sb ?_
   refine C7 (λe=>?_) (λe=>?_)
   ·have e:c.algo=0:=by simpa using e
    refine H3.st (i:=1) rfl trivial λh4 H4=>?_
    refine H4.st (i:=2) rfl trivial λh5 H5=>?_
    unfold DH V0
    rw [if_pos e,if_pos e]
    exact Em.2 (H5.drop3q)
   ·have e:¬ c.algo=0:=by simpa using e
    refine C7 (λe1=>?_) (λe1=>?_)
    ·have e1:c.algo=1:=by simpa using e1
     refine H3.st (i:=1) rfl trivial λh4 H4=>?_
     refine H4.st (i:=2) rfl trivial λh5 H5=>?_
     unfold DH V0
     rw [if_neg e,if_neg e,if_pos e1,if_pos e1]
     exact Em.2 (H5.drop3q)
    ·have e1:¬ c.algo=1:=by simpa using e1
     refine H3.st (i:=1) rfl trivial λh4 H4=>?_
     refine H4.st (i:=2) rfl trivial λh5 H5=>?_
     unfold DH V0
     rw [if_neg e,if_neg e,if_neg e1,if_neg e1]
     exact Em.2 (H5.drop3q)
  ·rintro v24 v25 g26 h27 H4
   exact k1 hc h27 QB M Ts H4
end
end
section
set_option maxRecDepth 100000
variable {K:kQ} {h:A2}
abbrev g14 (K:kQ) (h H1:A2):Prop:=
 (EH H1 h.size λa b c d e f g i j k=>cf 29 #[.agg #[a,b,c,d,e,f,g,i,j,k]] H1 λa b=>asBool a λa=>D0 (!a) (K (.tuple #[lQ none 0 0,iQ 1]) b) (da7 b (aQ h.size) λa c d e f g i=>lS b ⟨h.size,9,none⟩ λj k l=>cf 30 #[.agg #[a,c,d,e,f,g,i],lQ j k l,dQ false] b λa b=>J6 a λc=>D2 c 0 λc=>C2 c λc=>J6 a λa=>D2 a 1 λa=>asInt .i64 a λa=>D0 (a != 0) (K (.tuple #[lQ none 0 0,iQ a]) b) (EH b h.size λa d e f g i j k l m=>lI .i64 b (Addr.add (aQ h.size) 1) λn=>Y5 Tryz.prog 3 n n b λb n=>C8 b λb o p=>ce n h.size 0 a (ce n h.size 1 d (ce n h.size 2 e (ce n h.size 3 f (ce n h.size 4 g (ce n h.size 5 i (ce n h.size 6 j (ce n h.size 7 k (ce n h.size 8 l (ce n h.size 9 m (cf 31 #[pQ c] (n.push (oQ #[pQ c,a,d,e,f,g,i,j,k,l,m,lQ b o p,lQ none 0 0] 89)) λa b=>C2 a λa=>cf 32 #[pQ a] b λa b=>C2 a λa=>cf 38 #[pQ a,dQ true] b λa a=>lS a ⟨h.size,8,none⟩ λb c d=>O0 λI61=>Hg λm62=>(I61 [tQ,iQ 0] a)/\(∀(a d:Value) (e:F8) (e:A2),(I61 [a,d] e)->(asInt .i64 d λf=>D0 (decide (f < (c:Int))) (Gv d λf=>bd f (c:Int) (E5 (pQ b) λb=>lI .i64 e (b.add (f.toNat*1)) λb=>cf 39 #[pQ (some (aQ n.size)),iQ b] e λc c=>B4 (pQ (some (aQ n.size))) (lS c ⟨n.size,12,none⟩ λf f g=>cf 40 #[pQ (some (aQ n.size)),iQ b,iQ (f:Int)] c λc c=>asInt .i64 d λf=>(I61 [iQ b,iQ (IntKind.wrap .i64 (f+1))] c)/\((m62 [iQ b,iQ (IntKind.wrap .i64 (f+1))] c) < (m62 [a,d] e))))) (B4 (pQ (some (aQ n.size))) (lS e ⟨n.size,12,none⟩ λa b c=>K (.tuple #[lQ a b c,iQ 0]) e)))))))))))))))))
def F14 (K:kQ) (h:A2) (xa xb xc xd xe xf xg:Int) (xh:Option Addr) (xi xj:Nat) (xk:Option Addr) (xl xm:Nat) (xn:Option Addr) (xo xp:Nat):Prop:=
 (g14 K h (h.push (oQ #[iQ xa,iQ xb,iQ xc,iQ xd,iQ xe,iQ xf,iQ xg,lQ xh xi xj,lQ xk xl xm,lQ xn xo xp] 28)))
theorem call14 {xa xb xc xd xe xf xg:Int} {xh:Option Addr} {xi xj:Nat} {xk:Option Addr} {xl xm:Nat} {xn:Option Addr} {xo xp:Nat} (H:F14 K h xa xb xc xd xe xf xg xh xi xj xk xl xm xn xo xp):A5 Tryz.prog 14 #[(.agg #[(iQ xa),(iQ xb),(iQ xc),(iQ xd),(iQ xe),(iQ xf),(iQ xg),(lQ xh xi xj),(lQ xk xl xm),(lQ xn xo xp)])] h K:=
 cQ Tryz.func14 H
abbrev g37 (K:kQ) (h H1:A2):Prop:=
 (O0 λI0=>(lI .i64 H1 ⟨h.size,1,none⟩ λa=>D0 (decide (a < 0)) (I0 [dQ true,dQ true,dQ true,dQ true] H1) (lI .i64 H1 ⟨h.size,1,none⟩ λa=>D0 (decide (a > 5)) (I0 [dQ (decide (a > 5)),dQ true,dQ true,dQ true] H1) (lI .i64 H1 (aQ h.size) λb=>D0 (decide (b < 0)) (I0 [dQ (decide (a > 5)),dQ (decide (b < 0)),dQ true,dQ true] H1) (lI .i64 H1 (aQ h.size) λc=>D0 (decide (c >= 6)) (I0 [dQ (decide (a > 5)),dQ (decide (b < 0)),dQ (decide (c >= 6)),dQ true] H1) (lI .i64 H1 ⟨h.size,4,none⟩ λd=>lI .i64 H1 ⟨h.size,5,none⟩ λe=>lI .i64 H1 ⟨h.size,7,none⟩ λf=>lI .i64 H1 ⟨h.size,8,none⟩ λg=>O4 (λi j=>GR i j) Tryz.prog 3 [iQ d,iQ e,iQ f,iQ g] λd=>I0 [dQ (decide (a > 5)),dQ (decide (b < 0)),dQ (decide (c >= 6)),dQ (decide (d < 0))] H1)))))/\(∀(a b c d:Value) (e:F8) (e:A2),(I0 [a,b,c,d] e)->(asBool d λa=>D0 a (K (.string (⟨#[63]⟩ : ByteArray)) e) (lI .i64 e (aQ h.size) λa=>D1 e ⟨h.size,1,none⟩ λb=>asInt .i64 b λc=>D1 e ⟨h.size,3,none⟩ λd=>asInt .i64 d λf=>D1 e ⟨h.size,4,none⟩ λg=>asInt .i64 g λi=>D1 e ⟨h.size,5,none⟩ λj=>asInt .i64 j λk=>cf 73 #[iQ a] e λa e=>G9 a λa=>ce e h.size 5 j (ce e h.size 4 g (ce e h.size 3 d (ce e h.size 1 b (cf 74 #[] e λe l=>asAgg e λe=>G0 e 6 (de6 e λe m n o p q=>ce l h.size 5 j (ce l h.size 4 g (ce l h.size 3 d (ce l h.size 1 b (bd c 6 (EB Tryz.prog 9 #[e,m,n,o,p,q] (c.toNat*1) λc=>G9 c λc=>cf 75 #[iQ f,iQ i,iQ k] l λd e=>G9 d λd=>ce e h.size 1 b (O0 λI54=>(lI .i64 (e.push (oQ #[.string a,.string c,.string d] 9)) ⟨h.size,1,none⟩ λb=>cf 52 #[iQ b] (e.push (oQ #[.string a,.string c,.string d] 9)) λa b=>asBool a λa=>D0 a (lI .i64 b ⟨h.size,6,none⟩ λa=>lI .i64 b ⟨h.size,7,none⟩ λc=>lI .i64 b ⟨h.size,8,none⟩ λd=>cf 75 #[iQ a,iQ c,iQ d] b λa c=>G9 a λa=>T2 Tryz.prog #[139,139] 139 #[lQ (some (aQ e.size)) 3 3,lQ (some (aQ c.size)) 1 1] (c.push (oQ #[.string a] 9)) λa c=>C8 a λa d f=>I54 [lQ a d f] c) (I54 [lQ (some (aQ e.size)) 3 3] b))/\(∀(a:Value) (b:F8) (b:A2),(I54 [a] b)->(O0 λI77=>(lI .i64 b ⟨h.size,1,none⟩ λc=>cf 54 #[iQ c] b λb c=>asBool b λb=>D0 b (O0 λI83=>(D1 c ⟨h.size,2,none⟩ λb=>asBool b λb=>D0 b (I83 [.string (⟨#[100,111,110,101]⟩ : ByteArray)] c) (I83 [.string (⟨#[109,105,115,115,101,100]⟩ : ByteArray)] c))/\(∀(b:Value) (d:F8) (d:A2),(I83 [b] d)->(C8 a λe f g=>G9 b λi=>T2 Tryz.prog #[139,139] 139 #[lQ e f g,lQ (some (aQ d.size)) 1 1] (d.push (oQ #[.string i] 9)) λd e=>C8 d λd f g=>I77 [lQ d f g,b] e))) (I77 [a,tQ] c))/\(∀(a b:Value) (c:F8) (c:A2),(I77 [a,b] c)->(C8 a λa b d=>cf 76 #[lQ a b d,.string (⟨#[32]⟩ : ByteArray)] c λa b=>G9 a λa=>K (.string a) b)))))))))))))))))))
def F37 (K:kQ) (h:A2) (xa xb:Int) (xc:Bool) (xd xe xf xg xh xi:Int):Prop:=
 (g37 K h (h.push (oQ #[iQ xa,iQ xb,dQ xc,iQ xd,iQ xe,iQ xf,iQ xg,iQ xh,iQ xi] 51)))
theorem call37 {xa xb:Int} {xc:Bool} {xd xe xf xg xh xi:Int} (H:F37 K h xa xb xc xd xe xf xg xh xi):A5 Tryz.prog 37 #[(.agg #[(iQ xa),(iQ xb),(dQ xc),(iQ xd),(iQ xe),(iQ xf),(iQ xg),(iQ xh),(iQ xi)])] h K:=
 cQ Tryz.func37 H
def F52 (K:kQ) (h:A2) (xa:Int):Prop:=
 (D0 (xa == 4) (K (dQ true) h) (K (dQ (xa == 5)) h))
theorem call52 {xa:Int} (H:F52 K h xa):A5 Tryz.prog 52 #[(iQ xa)] h K:=
 cQ Tryz.func52 H
def F54 (K:kQ) (h:A2) (xa:Int):Prop:=
 (D0 (xa == 2) (K (dQ true) h) (cf 52 #[iQ xa] h λa b=>asBool a λa=>K (dQ a) b))
theorem call54 {xa:Int} (H:F54 K h xa):A5 Tryz.prog 54 #[(iQ xa)] h K:=
 cQ Tryz.func54 H
abbrev g29 (K:kQ) (h H1:A2):Prop:=
 (O0 λI0=>(da7 H1 (aQ h.size) λa b c d e f g=>cf 59 #[.agg #[a,b,c,d,e,f,g]] H1 λa b=>asInt .i64 a λa=>D0 (a != 0) (I0 [dQ true,dQ true,dQ true,dQ true] b) (lS b ⟨h.size,7,none⟩ λa a c=>lI .i64 b (Addr.add (aQ h.size) 1) λc=>D0 ((a:Int) != c) (I0 [dQ ((a:Int) != c),dQ true,dQ true,dQ true] b) (EH b h.size λd e f g i j k l m n=>cf 60 #[.agg #[d,e,f,g,i,j,k,l,m,n]] b λb d=>asInt .i64 b λb=>D0 (decide (b > 48)) (I0 [dQ ((a:Int) != c),dQ (decide (b > 48)),dQ true,dQ true] d) (lS d ⟨h.size,8,none⟩ λe e f=>D0 (decide ((e:Int) > 60000)) (I0 [dQ ((a:Int) != c),dQ (decide (b > 48)),dQ (decide ((e:Int) > 60000)),dQ true] d) (lS d ⟨h.size,9,none⟩ λf f g=>I0 [dQ ((a:Int) != c),dQ (decide (b > 48)),dQ (decide ((e:Int) > 60000)),dQ (decide ((f:Int) > 4096))] d)))))/\(∀(a b c d:Value) (e:F8) (e:A2),(I0 [a,b,c,d] e)->(asBool d λa=>D0 a (K (dQ false) e) (lS e ⟨h.size,7,none⟩ λa b c=>O0 λI49=>Hg λm50=>(I49 [dQ false,tQ,iQ 0,tQ] e)/\(∀(c d e f:Value) (g:F8) (g:A2),(I49 [c,d,e,f] g)->(asInt .i64 e λi=>D0 (decide (i < (b:Int))) (Gv e λi=>bd i (b:Int) (E5 (pQ a) λa=>lS g (a.add (i.toNat*1)) λa b i=>O0 λI64=>Hg λm65=>(I64 [c,iQ 0] g)/\(∀(j k:Value) (l:F8) (l:A2),(I64 [j,k] l)->(asInt .i64 k λm=>D0 (decide (m < (b:Int))) (Gv k λm=>bd m (b:Int) (E5 (pQ a) λn=>D1 l (n.add (m.toNat*3)) λo=>D1 l (Addr.add (n.add (m.toNat*3)) 1) λp=>D1 l (Addr.add (n.add (m.toNat*3)) 2) λm=>C4 (l.push (oQ #[iQ 0,.int .u32 0,.int .u32 0] 41)) (aQ l.size) o λn=>C4 n ⟨l.size,1,none⟩ p λn=>C4 n ⟨l.size,2,none⟩ m λm=>L1 m l.size λn o p=>cf 61 #[.agg #[n,o,p]] m λm n=>asBool m λm=>D0 (!m) (K (dQ false) n) (asInt .i64 k λm=>(I64 [j,iQ (IntKind.wrap .i64 (m+1))] n)/\((m65 [j,iQ (IntKind.wrap .i64 (m+1))] n) < (m65 [j,k] l))))) (asInt .i64 e λm=>(I49 [j,lQ a b i,iQ (IntKind.wrap .i64 (m+1)),k] l)/\((m50 [j,lQ a b i,iQ (IntKind.wrap .i64 (m+1)),k] l) < (m50 [c,d,e,f] g))))))) (lS g ⟨h.size,8,none⟩ λa b d=>O0 λI91=>Hg λm92=>(I91 [c,tQ,iQ 0] g)/\(∀(c d e:Value) (f:F8) (f:A2),(I91 [c,d,e] f)->(asInt .i64 e λg=>D0 (decide (g < (b:Int))) (Gv e λg=>bd g (b:Int) (E5 (pQ a) λa=>lI .i64 f (a.add (g.toNat*1)) λa=>O0 λI103=>(D0 (decide (a < 0)) (I103 [dQ true] f) (lI .i64 f (Addr.add (aQ h.size) 1) λb=>I103 [dQ (decide (a >= b))] f))/\(∀(b:Value) (g:F8) (g:A2),(I103 [b] g)->(asBool b λb=>D0 b (K (dQ false) g) (asInt .i64 e λb=>(I91 [c,iQ a,iQ (IntKind.wrap .i64 (b+1))] g)/\((m92 [c,iQ a,iQ (IntKind.wrap .i64 (b+1))] g) < (m92 [c,d,e] f))))))) (K (dQ true) f))))))))))
def F29 (K:kQ) (h:A2) (xa xb xc xd xe xf xg:Int) (xh:Option Addr) (xi xj:Nat) (xk:Option Addr) (xl xm:Nat) (xn:Option Addr) (xo xp:Nat):Prop:=
 (g29 K h (h.push (oQ #[iQ xa,iQ xb,iQ xc,iQ xd,iQ xe,iQ xf,iQ xg,lQ xh xi xj,lQ xk xl xm,lQ xn xo xp] 28)))
theorem call29 {xa xb xc xd xe xf xg:Int} {xh:Option Addr} {xi xj:Nat} {xk:Option Addr} {xl xm:Nat} {xn:Option Addr} {xo xp:Nat} (H:F29 K h xa xb xc xd xe xf xg xh xi xj xk xl xm xn xo xp):A5 Tryz.prog 29 #[(.agg #[(iQ xa),(iQ xb),(iQ xc),(iQ xd),(iQ xe),(iQ xf),(iQ xg),(lQ xh xi xj),(lQ xk xl xm),(lQ xn xo xp)])] h K:=
 cQ Tryz.func29 H
def F39 (K:kQ) (h:A2) (xa:Option Addr) (xb:Int):Prop:=
 (O0 λI0=>(nP xa λa=>lP h a λa=>cf 66 #[pQ a,iQ xb] h λa b=>asBool a λa=>D0 (!a) (nP xa λa=>lS b (a.add 11) λa c d=>bd xb (c:Int) (E5 (pQ a) λa=>lI .i64 b (a.add (xb.toNat*1)) λa=>nP xa λc=>lS b (c.add 8) λc d e=>bd xb (d:Int) (E5 (pQ c) λc=>lS b (c.add (xb.toNat*1)) λc c d=>D0 (decide (a >= (c:Int))) (K tQ b) (nP xa λa=>lP b a λa=>nP xa λc=>lS b (c.add 8) λc d e=>bd xb (d:Int) (E5 (pQ c) λc=>lS b (c.add (xb.toNat*1)) λc d e=>nP xa λe=>lS b (e.add 11) λe f g=>bd xb (f:Int) (E5 (pQ e) λe=>lI .i64 b (e.add (xb.toNat*1)) λe=>bd e (d:Int) (E5 (pQ c) λc=>D1 b (c.add (e.toNat*3)) λd=>D1 b (Addr.add (c.add (e.toNat*3)) 1) λf=>D1 b (Addr.add (c.add (e.toNat*3)) 2) λc=>cf 77 #[pQ a,iQ xb,.agg #[d,f,c]] b λa c=>asInt .i64 a λa=>nP xa λa=>lS c (a.add 11) λa d e=>bd xb (d:Int) (E5 (pQ a) λe=>lI .i64 c (e.add (xb.toNat*1)) λe=>bd xb (d:Int) (E5 (pQ a) λa=>C4 c (a.add (xb.toNat*1)) (iQ (IntKind.wrap .i64 (e+1))) λa=>I0 [] a))))))))) (I0 [] b))/\(∀(a:F8) (a:A2),(I0 [] a)->(nP xa λb=>lP a b λb=>cf 68 #[pQ b,iQ xb] a λa a=>K tQ a)))
theorem call39 {xa:Option Addr} {xb:Int} (H:F39 K h xa xb):A5 Tryz.prog 39 #[(pQ xa),(iQ xb)] h K:=
 cQ Tryz.func39 H
def F40 (K:kQ) (h:A2) (xa:Option Addr) (xb xc:Int):Prop:=
 (nP xa λa=>lP h a λa=>cf 31 #[pQ a] h λa b=>C2 a λa=>cf 32 #[pQ a] b λb c=>C2 b λb=>cf 78 #[pQ b] c λb c=>C8 b λb d e=>O4 (λf g=>GR f g) Tryz.prog 3 [iQ xc,iQ (d:Int)] λf=>((0:Int)<=f)/\(((f:Int)<=(d:Int))/\(O0 λI17=>Hg λm18=>(I17 [iQ 0,tQ,tQ] c)/\(∀(c g i:Value) (j:F8) (j:A2),(I17 [c,g,i] j)->(asInt .i64 c λk=>D0 (decide (k < (((d - f.toNat):Nat):Int))) (Gv c λk=>((0:Int)<=k)/\(((k:Int) < (((d - f.toNat):Nat):Int))/\(E5 (pQ (FD b f.toNat e 4)) λb=>D1 j (b.add (k.toNat*4)) λd=>D1 j (Addr.add (b.add (k.toNat*4)) 1) λe=>D1 j (Addr.add (b.add (k.toNat*4)) 2) λf=>D1 j (Addr.add (b.add (k.toNat*4)) 3) λb=>C4 (j.push (oQ #[iQ 0,iQ 0,iQ 0,dQ false] 144)) (aQ j.size) d λd=>C4 d ⟨j.size,1,none⟩ e λd=>C4 d ⟨j.size,2,none⟩ f λd=>C4 d ⟨j.size,3,none⟩ b λb=>lI .i64 b (aQ j.size) λd=>D1 b ⟨j.size,3,none⟩ λe=>asBool e λe=>C4 (b.push (oQ #[iQ 0,iQ 0,dQ false,iQ 0,iQ 0,iQ 0,iQ 0,iQ 0,iQ 0] 51)) (aQ b.size) (iQ xb) λf=>C4 f ⟨b.size,1,none⟩ (iQ d) λd=>C4 d ⟨b.size,2,none⟩ (dQ e) λd=>C4 d ⟨b.size,3,none⟩ (iQ 0) λd=>C4 d ⟨b.size,4,none⟩ (iQ 0) λd=>C4 d ⟨b.size,5,none⟩ (iQ 0) λd=>C4 d ⟨b.size,6,none⟩ (iQ 0) λd=>C4 d ⟨b.size,7,none⟩ (iQ 0) λd=>C4 d ⟨b.size,8,none⟩ (iQ 0) λd=>D1 d ⟨j.size,1,none⟩ λe=>asInt .i64 e λf=>cf 79 #[pQ a] d λd k=>asAgg d λd=>G0 d 15 (N0 d λd l m n o p q r s t u v w x y=>ce k j.size 1 e (cf 80 #[.agg #[d,l,m,n,o,p,q,r,s,t,u,v,w,x,y],iQ f] k λd e=>J6 d λf=>D2 f 0 λf=>asInt .i64 f λf=>J6 d λk=>D2 k 1 λk=>asInt .i64 k λk=>J6 d λl=>D2 l 2 λl=>asInt .i64 l λl=>C4 e ⟨b.size,3,none⟩ (iQ f) λe=>C4 e ⟨b.size,4,none⟩ (iQ k) λe=>C4 e ⟨b.size,5,none⟩ (iQ l) λe=>D1 e ⟨j.size,2,none⟩ λf=>asInt .i64 f λk=>cf 79 #[pQ a] e λa e=>asAgg a λa=>G0 a 15 (N0 a λa l m n o p q r s t u v w x y=>ce e j.size 2 f (cf 80 #[.agg #[a,l,m,n,o,p,q,r,s,t,u,v,w,x,y],iQ k] e λa e=>J6 a λf=>D2 f 0 λf=>asInt .i64 f λf=>J6 a λk=>D2 k 1 λk=>asInt .i64 k λk=>J6 a λl=>D2 l 2 λl=>asInt .i64 l λl=>C4 e ⟨b.size,6,none⟩ (iQ f) λe=>C4 e ⟨b.size,7,none⟩ (iQ k) λe=>C4 e ⟨b.size,8,none⟩ (iQ l) λe=>nP xa λf=>D1 e (f.add 12) λk=>C8 k λl m n=>dl9 e b.size λb o p q r s t u v=>((A3 (e.push (oQ #[b,o,p,q,r,s,t,u,v] 51)) (f.add 12))=(some k))/\(T2 Tryz.prog #[47,47] 47 #[lQ l m n,lQ (some (aQ e.size)) 1 1] (e.push (oQ #[b,o,p,q,r,s,t,u,v] 51)) λb e=>C8 b λb f k=>nP xa λl=>C4 e (l.add 12) (lQ b f k) λb=>asInt .i64 c λe=>(I17 [iQ (IntKind.wrap .i64 (e+1)),d,a] b)/\((m18 [iQ (IntKind.wrap .i64 (e+1)),d,a] b) < (m18 [c,g,i] j)))))))))) (K tQ j))))))
theorem call40 {xa:Option Addr} {xb xc:Int} (H:F40 K h xa xb xc):A5 Tryz.prog 40 #[(pQ xa),(iQ xb),(iQ xc)] h K:=
 cQ Tryz.func40 H
def F73 (K:kQ) (h:A2) (xa:Int):Prop:=
 (cf 128 #[.agg #[iQ 2,.int .u32 (IntKind.wrap .u32 xa),.int .u32 0]] h λa b=>G9 a λa=>cf 127 #[.string a,.string (⟨#[32,48]⟩ : ByteArray)] b λa b=>G9 a λa=>K (.string a) b)
theorem call73 {xa:Int} (H:F73 K h xa):A5 Tryz.prog 73 #[(iQ xa)] h K:=
 cQ Tryz.func73 H
def F74 (K:kQ) (h:A2)  : Prop:=
 (C4 (h.push (oQ #[.string (⟨#[]⟩ : ByteArray),.string (⟨#[]⟩ : ByteArray),.string (⟨#[]⟩ : ByteArray),.string (⟨#[]⟩ : ByteArray),.string (⟨#[]⟩ : ByteArray),.string (⟨#[]⟩ : ByteArray)] 136)) (aQ h.size) (.string (⟨#[108,111,97,100]⟩ : ByteArray)) λa=>C4 a ⟨h.size,1,none⟩ (.string (⟨#[115,116,111,114,101]⟩ : ByteArray)) λa=>C4 a ⟨h.size,2,none⟩ (.string (⟨#[99,97,115]⟩ : ByteArray)) λa=>C4 a ⟨h.size,3,none⟩ (.string (⟨#[97,100,100]⟩ : ByteArray)) λa=>C4 a ⟨h.size,4,none⟩ (.string (⟨#[100,99,97,115]⟩ : ByteArray)) λa=>C4 a ⟨h.size,5,none⟩ (.string (⟨#[100,99,115,115]⟩ : ByteArray)) λa=>dl6 a h.size λb c d e f g=>K (.agg #[b,c,d,e,f,g]) a)
theorem call74  (H:F74 K h ):A5 Tryz.prog 74 #[] h K:=
 cQ Tryz.func74 H
def F75 (K:kQ) (h:A2) (xa xb xc:Int):Prop:=
 (D0 (xa == 0) (cf 73 #[iQ xb] h λa b=>G9 a λa=>(((((5+a.size):Nat):Int):Int)<=9223372036854775807)/\(K (.string ((⟨#[119,111,114,100,32]⟩ : ByteArray) ++ a)) b)) (D0 (xa == 1) (cf 73 #[iQ xb] h λa b=>G9 a λa=>(((((5+a.size):Nat):Int):Int)<=9223372036854775807)/\((((((((⟨#[115,108,111,116,32]⟩ : ByteArray) ++ a).size+1):Nat):Int):Int)<=9223372036854775807)/\(cf 73 #[iQ xc] b λb c=>G9 b λb=>((((((((⟨#[115,108,111,116,32]⟩ : ByteArray) ++ a) ++ (⟨#[32]⟩ : ByteArray)).size+b.size):Nat):Int):Int)<=9223372036854775807)/\(K (.string ((((⟨#[115,108,111,116,32]⟩ : ByteArray) ++ a) ++ (⟨#[32]⟩ : ByteArray)) ++ b)) c)))) (D0 (xa == 2) (cf 73 #[iQ xb] h λa b=>G9 a λa=>(((((5+a.size):Nat):Int):Int)<=9223372036854775807)/\(K (.string ((⟨#[108,105,110,107,32]⟩ : ByteArray) ++ a)) b)) (D0 (xa == 3) (cf 73 #[iQ xb] h λa b=>G9 a λa=>(((((5+a.size):Nat):Int):Int)<=9223372036854775807)/\((((((((⟨#[110,111,100,101,32]⟩ : ByteArray) ++ a).size+1):Nat):Int):Int)<=9223372036854775807)/\(cf 73 #[iQ xc] b λb c=>G9 b λb=>((((((((⟨#[110,111,100,101,32]⟩ : ByteArray) ++ a) ++ (⟨#[32]⟩ : ByteArray)).size+b.size):Nat):Int):Int)<=9223372036854775807)/\(K (.string ((((⟨#[110,111,100,101,32]⟩ : ByteArray) ++ a) ++ (⟨#[32]⟩ : ByteArray)) ++ b)) c)))) (D0 (xa == 4) (cf 73 #[iQ xb] h λa b=>G9 a λa=>(((((5+a.size):Nat):Int):Int)<=9223372036854775807)/\(K (.string ((⟨#[116,114,101,101,32]⟩ : ByteArray) ++ a)) b)) (K (.string (⟨#[110,111,110,101]⟩ : ByteArray)) h))))))
theorem call75 {xa xb xc:Int} (H:F75 K h xa xb xc):A5 Tryz.prog 75 #[(iQ xa),(iQ xb),(iQ xc)] h K:=
 cQ Tryz.func75 H
def F76 (K:kQ) (h:A2) (xa:Option Addr) (xb xc:Nat) (xd:ByteArray):Prop:=
 (D0 (((xb:Nat):Int) == 0) (K (.string (⟨#[]⟩ : ByteArray)) h) (D0 (((xb:Nat):Int) == 1) (bd 0 ((xb:Nat):Int) (E5 (pQ xa) λa=>D1 h a λa=>G9 a λa=>K (.string a) h)) (O0 λI3=>(D0 (decide (((xd.size:Nat):Int) > 0)) (O0 λI4=>((((IntKind.wrap .i64 (((xb:Nat):Int) - 1)):Int)≠0)/\(D0 (decide (((xd.size:Nat):Int) >= (IntKind.wrap .i64 (Int.tdiv 9223372036854775807 (IntKind.wrap .i64 (((xb:Nat):Int) - 1)))))) False (I4 [] h)))/\(∀(a:F8) (a:A2),(I4 [] a)->(I3 [iQ (IntKind.wrap .i64 (0+(IntKind.wrap .i64 (((xd.size:Nat):Int)*(IntKind.wrap .i64 (((xb:Nat):Int) - 1))))))] a))) (I3 [iQ 0] h))/\(∀(a:Value) (b:F8) (b:A2),(I3 [a] b)->(O0 λI10=>Hg λm11=>(I10 [a,tQ,iQ 0] b)/\(∀(a b c:Value) (d:F8) (d:A2),(I10 [a,b,c] d)->(asInt .i64 c λe=>D0 (decide (e < ((xb:Nat):Int))) (Gv c λe=>bd e ((xb:Nat):Int) (E5 (pQ xa) λf=>D1 d (f.add (e.toNat*1)) λe=>G9 e λe=>O0 λI22=>(asInt .i64 a λf=>D0 (decide (((e.size:Nat):Int) > (IntKind.wrap .i64 (9223372036854775807 - f)))) False (I22 [] d))/\(∀(f:F8) (f:A2),(I22 [] f)->(asInt .i64 a λg=>asInt .i64 c λi=>(I10 [iQ (IntKind.wrap .i64 (g+((e.size:Nat):Int))),.string e,iQ (IntKind.wrap .i64 (i+1))] f)/\((m11 [iQ (IntKind.wrap .i64 (g+((e.size:Nat):Int))),.string e,iQ (IntKind.wrap .i64 (i+1))] f) < (m11 [a,b,c] d)))))) (asInt .i64 a λa=>cf 129 #[pQ (some (aQ d.size)),iQ a] (d.push (oQ #[pQ none,lQ none 0 0] 162)) λa a=>bd 0 ((xb:Nat):Int) (E5 (pQ xa) λb=>D1 a b λb=>G9 b λb=>cf 94 #[pQ (some (aQ d.size)),.string b] a λa a=>((0:Int)<=1)/\(((1:Int)<=((xb:Nat):Int))/\(O0 λI36=>Hg λm37=>(I36 [tQ,iQ 0] a)/\(∀(a b:Value) (c:F8) (c:A2),(I36 [a,b] c)->(asInt .i64 b λe=>D0 (decide (e < (((xb - 1):Nat):Int))) (Gv b λe=>((0:Int)<=e)/\(((e:Int) < (((xb - 1):Nat):Int))/\(E5 (pQ (FD xa 1 xc 1)) λf=>D1 c (f.add (e.toNat*1)) λe=>G9 e λe=>cf 94 #[pQ (some (aQ d.size)),.string xd] c λf f=>cf 94 #[pQ (some (aQ d.size)),.string e] f λf f=>asInt .i64 b λg=>(I36 [.string e,iQ (IntKind.wrap .i64 (g+1))] f)/\((m37 [.string e,iQ (IntKind.wrap .i64 (g+1))] f) < (m37 [a,b] c))))) (cf 97 #[pQ (some (aQ d.size))] c λa b=>G9 a λa=>K (.string a) b))))))))))))))
theorem call76 {xa:Option Addr} {xb xc:Nat} {xd:ByteArray} (H:F76 K h xa xb xc xd):A5 Tryz.prog 76 #[(lQ xa xb xc),(.string xd)] h K:=
 cQ Tryz.func76 H
abbrev g60 (K:kQ) (h H1:A2):Prop:=
 (lS H1 ⟨h.size,7,none⟩ λa b c=>O0 λI4=>Hg λm5=>(I4 [iQ 0,tQ,iQ 0] H1)/\(∀(c d e:Value) (f:F8) (f:A2),(I4 [c,d,e] f)->(asInt .i64 e λg=>D0 (decide (g < (b:Int))) (Gv e λg=>bd g (b:Int) (E5 (pQ a) λa=>lS f (a.add (g.toNat*1)) λa b g=>asInt .i64 c λi=>asInt .i64 e λj=>(I4 [iQ (IntKind.wrap .i64 (i+(b:Int))),lQ a b g,iQ (IntKind.wrap .i64 (j+1))] f)/\((m5 [iQ (IntKind.wrap .i64 (i+(b:Int))),lQ a b g,iQ (IntKind.wrap .i64 (j+1))] f) < (m5 [c,d,e] f)))) (asInt .i64 c λa=>K (iQ a) f))))
def F60 (K:kQ) (h:A2) (xa xb xc xd xe xf xg:Int) (xh:Option Addr) (xi xj:Nat) (xk:Option Addr) (xl xm:Nat) (xn:Option Addr) (xo xp:Nat):Prop:=
 (g60 K h (h.push (oQ #[iQ xa,iQ xb,iQ xc,iQ xd,iQ xe,iQ xf,iQ xg,lQ xh xi xj,lQ xk xl xm,lQ xn xo xp] 28)))
theorem call60 {xa xb xc xd xe xf xg:Int} {xh:Option Addr} {xi xj:Nat} {xk:Option Addr} {xl xm:Nat} {xn:Option Addr} {xo xp:Nat} (H:F60 K h xa xb xc xd xe xf xg xh xi xj xk xl xm xn xo xp):A5 Tryz.prog 60 #[(.agg #[(iQ xa),(iQ xb),(iQ xc),(iQ xd),(iQ xe),(iQ xf),(iQ xg),(lQ xh xi xj),(lQ xk xl xm),(lQ xn xo xp)])] h K:=
 cQ Tryz.func60 H
abbrev g13 (K:kQ) (h H1 H2:A2):Prop:=
 (cf 14 #[.agg #[iQ 0,iQ 1,iQ 2,iQ 1,iQ 1,iQ 1,iQ 1,lQ (some (aQ H1.size)) 1 1,lQ (some (aQ H2.size)) 1 1,lQ none 0 0]] (H2.push (oQ #[iQ 0] 3)) λa b=>J6 a λc=>D2 c 0 λc=>C8 c λc d e=>J6 a λa=>D2 a 1 λa=>asInt .i64 a λa=>D0 (a == 0) (D0 ((d:Int) == 1) (bd 0 (d:Int) (E5 (pQ c) λa=>da9 b a λa c d e f g h i j=>cf 37 #[.agg #[a,c,d,e,f,g,h,i,j]] b λa c=>G9 a λa=>K (dQ (a.toList == (⟨#[48,32,108,111,97,100,32,119,111,114,100,32,48]⟩ : ByteArray).toList)) c)) (K (dQ false) b)) (K (dQ false) b))
def F13 (K:kQ) (h:A2)  : Prop:=
 (g13 K h (h.push (oQ #[iQ 0,.int .u32 1,.int .u32 0] 41)) (Array.push (h.push (oQ #[iQ 0,.int .u32 1,.int .u32 0] 41)) (oQ #[lQ (some (aQ h.size)) 1 1] 58)))
theorem call13  (H:F13 K h ):A5 Tryz.prog 13 #[] h K:=
 cQ Tryz.func13 H
def F129 (K:kQ) (h:A2) (xa:Option Addr) (xb:Int):Prop:=
 (cf 136 #[pQ xa] h λa a=>O0 λI2=>(D0 (decide (xb < 0)) False (I2 [] a))/\(∀(a:F8) (a:A2),(I2 [] a)->(nP xa λb=>lS a (b.add 1) λb b b=>nP xa λc=>D1 a (c.add 1) λd=>C8 d λe e f=>((A3 a (c.add 1))=(some d))/\(D0 (decide ((IntKind.wrap .i64 ((b:Int) - (e:Int))) < xb)) (cf 200 #[pQ xa,iQ xb] a λb b=>K tQ b) (K tQ a)))))
theorem call129 {xa:Option Addr} {xb:Int} (H:F129 K h xa xb):A5 Tryz.prog 129 #[(pQ xa),(iQ xb)] h K:=
 cQ Tryz.func129 H
def F200 (K:kQ) (h:A2) (xa:Option Addr) (xb:Int):Prop:=
 (nP xa λa=>lS h (a.add 1) λa a a=>nP xa λb=>D1 h (b.add 1) λc=>C8 c λd d e=>((A3 h (b.add 1))=(some c))/\(Ke Tryz.prog (.func (.func 276) #[] #[]) #[iQ (IntKind.wrap .i64 ((IntKind.wrap .i64 (2*(a:Int)))+xb))] h λa e=>C8 a λa f f=>((A3 e (b.add 1))=(some c))/\(((0:Int)<=(d:Int))/\((((d:Int):Int)<=(f:Int))/\(nP xa λb=>lS e (b.add 1) λb c g=>HO Tryz.prog #[26,26] 3 #[lQ (FD a 0 f 1) ((d:Int).toNat - 0) (f - 0),lQ b c g] e λb c=>asInt .i64 b λb=>nP xa λb=>C4 c (b.add 1) (lQ (FD a 0 f 1) ((d:Int).toNat - 0) (f - 0)) λa=>K tQ a)))))
theorem call200 {xa:Option Addr} {xb:Int} (H:F200 K h xa xb):A5 Tryz.prog 200 #[(pQ xa),(iQ xb)] h K:=
 cQ Tryz.func200 H
def F131 (K:kQ) (h:A2) (xa:Option Addr) (xb xc:Nat):Prop:=
 (D0 (Option.isNone xa) (K (lQ none 0 0) h) (T2 Tryz.prog #[124,124] 124 #[lQ (some (aQ h.size)) 0 0,lQ xa xb xc] (h.push (oQ #[] 144)) λa b=>C8 a λa c d=>K (lQ a c d) b))
theorem call131 {xa:Option Addr} {xb xc:Nat} (H:F131 K h xa xb xc):A5 Tryz.prog 131 #[(lQ xa xb xc)] h K:=
 cQ Tryz.func131 H
end
section
theorem Wc {K:kQ} {h:A2} (c:Cf) (k1:c.Right->∀h',G4 h.size h h'->K (iQ 0) h') (k0:¬ c.Right->∀h',G4 h.size h h'->K (iQ 6) h') :
  A5 Tryz.prog 59 #[.agg c.vals] h K:=by
 refine call59 ?_
 unfold F59 g59 cf N0 PY
 have p1:=J8 h c.vals 23
 rw [show h.push (oQ #[iQ c.a,iQ c.t,iQ c.n,iQ c.l,iQ c.b,iQ c.p,iQ c.s] 23)=h.push (oQ c.vals 23) from rfl]
 generalize h.push (oQ c.vals 23)=h1 at *
 have o1:=p1.toOld
 iterate 7 (refine C5 p1.new rfl ?_)
 have key:∀(cs:Array Value) (e:Int),(∃v0 v1 v2 v3 v4 v5 v6 v7 v8 v9 v10 v11 v12 v13 v14,cs=#[v0,v1,v2,v3,v4,v5,v6,v7,v8,v9,v10,v11,v12,v13,v14]/\∀y ∈ [v0,v1,v2,v3,v4,v5,v6,v7,v8,v9,v10,v11,v12,v13,v14],J3 y True)->∀h8,G4 h.size h h8 ->
   (∀h',G4 h.size h h'->K (iQ e) h') ->
   (J6 (.tuple #[.agg cs,iQ e]) (λvs9=>(D2 vs9 0 (λv10=>(asAgg v10 (λvs11=>(G0 vs11 15 (D2 vs11 0 (λv12=>(D2 vs11 1 (λv13=>(D2 vs11 2 (λv14=>(D2 vs11 3 (λv15=>(D2 vs11 4 (λv16=>(D2 vs11 5 (λv17=>(D2 vs11 6 (λv18=>(D2 vs11 7 (λv19=>(D2 vs11 8 (λv20=>(D2 vs11 9 (λv21=>(D2 vs11 10 (λv22=>(D2 vs11 11 (λv23=>(D2 vs11 12 (λv24=>(D2 vs11 13 (λv25=>(D2 vs11 14 (λv26=>(J6 (.tuple #[.agg cs,iQ e]) (λvs27=>(D2 vs27 1 (λv28=>(asInt .i64 v28 (λn29=>(C4 (h8.push (oQ V9 117)) (aQ h8.size) v12 (λh30=>(C4 h30 ⟨h8.size,1,none⟩ v13 (λh31=>(C4 h31 ⟨h8.size,2,none⟩ v14 (λh32=>(C4 h32 ⟨h8.size,3,none⟩ v15 (λh33=>(C4 h33 ⟨h8.size,4,none⟩ v16 (λh34=>(C4 h34 ⟨h8.size,5,none⟩ v17 (λh35=>(C4 h35 ⟨h8.size,6,none⟩ v18 (λh36=>(C4 h36 ⟨h8.size,7,none⟩ v19 (λh37=>(C4 h37 ⟨h8.size,8,none⟩ v20 (λh38=>(C4 h38 ⟨h8.size,9,none⟩ v21 (λh39=>(C4 h39 ⟨h8.size,10,none⟩ v22 (λh40=>(C4 h40 ⟨h8.size,11,none⟩ v23 (λh41=>(C4 h41 ⟨h8.size,12,none⟩ v24 (λh42=>(C4 h42 ⟨h8.size,13,none⟩ v25 (λh43=>(C4 h43 ⟨h8.size,14,none⟩ v26 (λh44=>(K (iQ n29) h44)))))))))))))))))))))))))))))))))))))))))))))))))))))))))))))))))))))))))):=by
  rintro cs e ⟨v0,v1,v2,v3,v4,v5,v6,v7,v8,v9,v10,v11,v12,v13,v14,rfl,hone⟩ h8 o8 k
  simp only [L9,SP9,SQ0,Co]
  refine Ax rfl ?_
  iterate 15 (refine E6 rfl ?_)
  simp only [A6]
  have p:=J8 h8 V9 117
  generalize h8.push (oQ V9 117)=h9 at *
  refine Mn (F6 p.new rfl hone λh44 w=>?_)
  exact k _ (w.toOld (o8.trans (p.toOld.mono o8.1)) o8.1)
 refine A0 (Ra c (λhr h8 o8=>?_) (λhr h8 o8=>?_))
 ·exact key _ _ ⟨_,_,_,_,_,_,_,_,_,_,_,_,_,_,_,rfl,by simp [J3]⟩ h8 (o1.trans (o8.mono o1.1)) (k1 hr)
 ·exact key _ _ ⟨_,_,_,_,_,_,_,_,_,_,_,_,_,_,_,rfl,by simp [J3]⟩ h8 (o1.trans (o8.mono o1.1)) (k0 hr)
end
section
theorem Wd {K:kQ} {h:A2} (c:Cf) (k1:c.Right->∀h',G4 h.size h h'->K (dQ true) h') (k0:¬ c.Right->∀h',G4 h.size h h'->K (dQ false) h') :
  A5 Tryz.prog 9 #[.agg c.vals] h K:=by
 refine call9 ?_
 unfold F9 g9 cf ce lI PY
 have p1:=J8 h c.vals 23
 rw [show h.push (oQ #[iQ c.a,iQ c.t,iQ c.n,iQ c.l,iQ c.b,iQ c.p,iQ c.s] 23)=h.push (oQ c.vals 23) from rfl]
 generalize h.push (oQ c.vals 23)=h1 at *
 have o1:=p1.toOld
 have c1:=p1.new
 refine ⟨λvs h'=>∃v1 v2 v3 v4 v5 v6 b,vs = [v1,v2,v3,v4,v5,v6,dQ b]/\h' = h1/\(b=true->¬ c.Right)/\(b=false->0<=c.a/\c.a<=2/\1<=c.t/\c.t<=6/\1<=c.n/\c.n<=64/\1<=c.l/\c.l<=6),?_,?_⟩
 ·refine C5 c1 rfl ?_
  simp only [A6]
  refine A4 (λq=>⟨_,_,_,_,_,_,_,rfl,by trivial,λ_ r=>by have:=r.a;omega,λe=>by cases e⟩) λq1=>?_
  refine C5 c1 rfl ?_
  simp only [A6]
  refine A4 (λq=>⟨_,_,_,_,_,_,_,rfl,by trivial,λ_ r=>by have:=r.a;omega,λe=>by cases e⟩) λq2=>?_
  refine C5 c1 rfl ?_
  simp only [A6]
  refine A4 (λq=>⟨_,_,_,_,_,_,_,rfl,by trivial,λ_ r=>by have:=r.t;omega,λe=>by cases e⟩) λq3=>?_
  refine C5 c1 rfl ?_
  simp only [A6]
  refine A4 (λq=>⟨_,_,_,_,_,_,_,rfl,by trivial,λ_ r=>by have:=r.t;omega,λe=>by cases e⟩) λq4=>?_
  refine C5 c1 rfl ?_
  simp only [A6]
  refine A4 (λq=>⟨_,_,_,_,_,_,_,rfl,by trivial,λ_ r=>by have:=r.n;omega,λe=>by cases e⟩) λq5=>?_
  refine C5 c1 rfl ?_
  simp only [A6]
  refine A4 (λq=>⟨_,_,_,_,_,_,_,rfl,by trivial,λ_ r=>by have:=r.n;omega,λe=>by cases e⟩) λq6=>?_
  refine C5 c1 rfl ?_
  simp only [A6]
  refine A4 (λq=>⟨_,_,_,_,_,_,_,rfl,by trivial,λ_ r=>by have:=r.l;omega,λe=>by cases e⟩) λq7=>?_
  refine C5 c1 rfl ?_
  simp only [A6]
  refine ⟨_,_,_,_,_,_,_,rfl,by trivial,λe r=>?_,λe=>?_⟩
  ·have:=of_decide_eq_true e;have:=r.l;omega
  ·have:=of_decide_eq_false e;omega
 rintro v17 v18 v19 v20 v21 v22 v23 g24 h25 ⟨_,_,_,_,_,_,b,e,rfl,hb1,hb0⟩
 cases e
 simp only [B6]
 refine C7 (λhb=>k0 (hb1 hb) _ o1) (λhb=>?_)
 obtain ⟨a1,a2,t1,t2,n1,n2,l1,l2⟩:=hb0 hb
 refine ⟨λvs h'=>∃v1 v2 v3 v4 b,vs = [v1,v2,v3,v4,dQ b]/\h' = h25/\(b=true->¬ c.Right)/\(b=false->1<=c.b/\c.b<=16/\1<=c.p/\c.p<=16/\1<=c.s/\c.s<=64),?_,?_⟩
 ·refine C5 c1 rfl ?_
  simp only [A6]
  refine A4 (λq=>⟨_,_,_,_,_,rfl,by trivial,λ_ r=>by have:=r.b;omega,λe=>by cases e⟩) λq1=>?_
  refine C5 c1 rfl ?_
  simp only [A6]
  refine A4 (λq=>⟨_,_,_,_,_,rfl,by trivial,λ_ r=>by have:=r.b;omega,λe=>by cases e⟩) λq2=>?_
  refine C5 c1 rfl ?_
  simp only [A6]
  refine A4 (λq=>⟨_,_,_,_,_,rfl,by trivial,λ_ r=>by have:=r.p;omega,λe=>by cases e⟩) λq3=>?_
  refine C5 c1 rfl ?_
  simp only [A6]
  refine A4 (λq=>⟨_,_,_,_,_,rfl,by trivial,λ_ r=>by have:=r.p;omega,λe=>by cases e⟩) λq4=>?_
  refine C5 c1 rfl ?_
  simp only [A6]
  refine A4 (λq=>⟨_,_,_,_,_,rfl,by trivial,λ_ r=>by have:=r.s;omega,λe=>by cases e⟩) λq5=>?_
  refine C5 c1 rfl ?_
  simp only [A6]
  refine ⟨_,_,_,_,_,rfl,by trivial,λe r=>?_,λe=>?_⟩
  ·have:=of_decide_eq_true e;have:=r.s;omega
  ·have:=of_decide_eq_false e;omega
 rintro v40 v41 v42 v43 v44 g45 h46 ⟨_,_,_,_,b',e,rfl,hb1',hb0'⟩
 cases e
 simp only [B6]
 refine C7 (λhb'=>k0 (hb1' hb') _ o1) (λhb'=>?_)
 obtain ⟨b1,b2,p1',p2,s1,s2⟩:=hb0' hb'
 refine C5 c1 rfl ?_
 simp only [A6]
 iterate 7 (refine C5 c1 rfl ?_)
 refine A0 ?_
 refine (show A5 Tryz.prog 28 #[.agg c.vals] h46 _ from call28 ?_)
 unfold F28 g28 lI
 have p2':=J8 h46 c.vals 23
 rw [show h46.push (oQ #[iQ c.a,iQ c.t,iQ c.n,iQ c.l,iQ c.b,iQ c.p,iQ c.s] 23)=h46.push (oQ c.vals 23) from rfl]
 generalize h46.push (oQ c.vals 23)=h2 at *
 have o2:=o1.trans (p2'.toOld.mono o1.1)
 have c2:=(p2'.old h.size (by have:=p1.size;omega)).trans c1
 have fin:∀z:Int,z=c.sent->(z < c.n↔c.Right):=λz e=>⟨λhz=>⟨⟨a1,a2⟩,⟨t1,t2⟩,⟨n1,n2⟩,⟨l1,l2⟩,⟨b1,b2⟩,⟨p1',p2⟩,⟨s1,s2⟩,by omega⟩,λr=>by have:=r.z;omega⟩
 have fin2:∀z:Int,z=c.sent->K (dQ (decide (c.n > z))) h2:=λz e=>by
  by_cases hz:z < c.n
  ·rw [decide_eq_true hz];exact k1 ((fin z e).1 hz) _ o2
  ·rw [decide_eq_false hz];exact k0 (λr=>hz ((fin z e).2 r)) _ o2
 refine C5 p2'.new rfl ?_
 simp only [A6]
 refine C7 (λhz=>?_) (λhz=>?_)
 ·exact ⟨E9 c2 rfl,fin2 _ (by unfold Cf.sent;rw [if_pos (by simpa using hz)])⟩
 ·exact ⟨E9 c2 rfl,fin2 _ (by unfold Cf.sent;rw [if_neg (by simpa using hz)])⟩
end
section
open Mod
def GQ (c:Mod.Cf) (calls:List (List Cl)) (B9 draws:List Int):Bool:=
 Fv c && (((calls.length:Int) == c.threads) && (decide (calls.flatten.length<=48) && (decide (B9.length<=60000) && (decide (draws.length<=4096) && (calls.all (λl=>l.all CP) && B9.all λk=>decide (0<=k) && decide (k < c.threads))))))
theorem Bg (n:Nat) (h:n < 2 ^ 62):F5 (n:Int)=n:=by unfold F5;omega
theorem Py {α:Type} {L:List (List α)} {j:Nat} (hj:j < L.length):(L.take (j+1)).flatten.length=(L.take j).flatten.length+(L[j]).length:=by
 rw [List.take_succ_eq_append_getElem hj,List.flatten_append,List.length_append,List.flatten_singleton]
theorem Sv7 {α:Type} {L:List (List α)} (j:Nat):(L.take j).flatten.length<=L.flatten.length:=by
 conv=>rhs;rw [<- List.take_append_drop j L,List.flatten_append,List.length_append]
 omega
theorem Iv {K:kQ} {h:A2} {c:Mod.Cf} (k1:Fv c=true->∀h',G4 h.size h h'->K (iQ 0) h') (k0:Fv c=false->∀h',G4 h.size h h'->K (iQ 6) h') :
  A5 Tryz.prog 59 #[.agg #[iQ c.algo,iQ c.threads,iQ c.nodes,iQ c.level,iQ c.batch,iQ c.probes,iQ c.scan]] h K:=by
 refine Wc (ZD c) (λhr h' o=>k1 ((Cq c).1 hr) h' o) (λhr h' o=>k0 ?_ h' o)
 rw [<- Bool.not_eq_true]
 exact λhh=>hr ((Cq c).2 hh)
section
variable {K:kQ} {h:A2} {R:Hp} {c:Mod.Cf} {ca pa da:Option Addr} {cl cc pl pc dl dc:Nat} {calls:List (List Cl)} {B9 draws:List Int}
theorem Pz (H:A7 h R) (hS:∀h' P,A7 h' (P*R)->EO h' ca cl pa pl da dl calls B9 draws) (hn:calls.flatten.length < 2 ^ 60) (hn2:calls.length < 2 ^ 60) (k:∀h',A7 h' R->K (iQ calls.flatten.length) h') :
  A5 Tryz.prog 60 #[.agg #[iQ c.algo,iQ c.threads,iQ c.nodes,iQ c.level,iQ c.batch,iQ c.probes,iQ c.scan,lQ ca cl cc,lQ pa pl pc,lQ da dl dc]] h K:=by
 refine call60 ?_
 unfold F60 g60 bd lS
 have H1:=H.push (oQ (N9 c ca cl cc pa pl pc da dl dc).toArray 28)
 rw [show h.push (oQ #[iQ c.algo,iQ c.threads,iQ c.nodes,iQ c.level,iQ c.batch,iQ c.probes,iQ c.scan,lQ ca cl cc,lQ pa pl pc,lQ da dl dc] 28)=h.push (oQ (N9 c ca cl cc pa pl pc da dl dc).toArray 28) from rfl]
 generalize h.push (oQ (N9 c ca cl cc pa pl pc da dl dc).toArray 28)=h1 at *
 generalize h.size=SB at *
 have I:=hS h1 _ H1
 have ecl:=I.f.cs
 subst ecl
 refine C5 H1.at rfl ?_
 refine sb ?_
 refine ⟨λvs h'=>(∃(u:Value) (j:Nat),vs = [.int .i64 (calls.take j).flatten.length,u,.int .i64 j]/\j<=calls.length)/\h' = h1,λvs _=>match vs with | [_,_,.int _ i]=>((calls.length:Int) - i).toNat | _=>0,⟨⟨_,0,rfl,Nat.zero_le _⟩,rfl⟩,?_⟩
 rintro v6 v7 v8 g9 h10 ⟨⟨u,j,e,hj⟩,rfl⟩
 cases e
 refine sb ?_
 refine A4 (λc1=>?_) (λc1=>?_)
 ·have hj2:j < calls.length:=by omega
  obtain ⟨ra,rc,⟨ad,ea,hc⟩,_⟩:=I.f.row j hj2
  have eg:calls.getD j []=calls[j]:=by rw [List.getD_eq_getElem?_getD,List.getElem?_eq_getElem hj2];rfl
  rw [eg] at hc
  subst ea
  refine ⟨by omega,by omega,?_⟩
  refine sb ?_
  refine D3 hc ?_
  refine sb ?_
  have e3:=Py hj2
  have e4:=Sv7 (L:=calls) (j+1)
  rw [show F5 (((calls.take j).flatten.length:Int)+((calls[j]).length:Int))=((calls.take (j+1)).flatten.length:Int) from by rw [e3,<- Int.natCast_add];exact Bg _ (by omega),show F5 ((j:Int)+1)=((j+1:Nat):Int) from by rw [<- Int.natCast_add_one];exact Bg _ (by omega)]
  refine ⟨by first | exact ⟨⟨_,j+1,rfl,by omega⟩,rfl⟩ | exact ⟨_,j+1,rfl,by omega⟩,?_⟩
  show ((calls.length:Int) - ((j+1:Nat):Int)).toNat < ((calls.length:Int) - (j:Int)).toNat
  omega
 ·rw [show j=calls.length by omega,List.take_length]
  exact k h10 H1.drop
theorem Iw (H:A7 h R) (hS:∀h' P,A7 h' (P*R)->EO h' ca cl pa pl da dl calls B9 draws) (hn:calls.flatten.length < 2 ^ 60) (hn2:calls.length < 2 ^ 60) (hn3:B9.length < 2 ^ 60)
  (hV:∀l ∈ calls,l.length < 2 ^ 60) (k:∀h',A7 h' R->K (dQ (GQ c calls B9 draws)) h') :
  A5 Tryz.prog 29 #[.agg #[iQ c.algo,iQ c.threads,iQ c.nodes,iQ c.level,iQ c.batch,iQ c.probes,iQ c.scan,lQ ca cl cc,lQ pa pl pc,lQ da dl dc]] h K:=by
 refine call29 ?_
 unfold F29 g29 cf bd lS lI da7 L1 EH
 have H1:=H.push (oQ (N9 c ca cl cc pa pl pc da dl dc).toArray 28)
 rw [show h.push (oQ #[iQ c.algo,iQ c.threads,iQ c.nodes,iQ c.level,iQ c.batch,iQ c.probes,iQ c.scan,lQ ca cl cc,lQ pa pl pc,lQ da dl dc] 28)=h.push (oQ (N9 c ca cl cc pa pl pc da dl dc).toArray 28) from rfl]
 generalize h.push (oQ (N9 c ca cl cc pa pl pc da dl dc).toArray 28)=h1 at *
 generalize h.size=SB at *
 have I:=hS h1 _ H1
 have ecl:=I.f.cs
 have epl:=I.f.ps
 have edl:=I.ds
 subst ecl epl edl
 have hS1:∀h' P,A7 h' (P*(pt SB (oQ (N9 c ca calls.length cc pa B9.length pc da draws.length dc).toArray 28)*R))->EO h' ca calls.length pa B9.length da draws.length calls B9 draws:=λh' P HP=>hS h' Mr (by rw [W9];exact HP.drop.drop)
 obtain ⟨b0,hb0⟩ : ∃b0:Bool,b0=(Fv c && (((calls.length:Int) == c.threads) && (decide (calls.flatten.length<=48) && (decide (B9.length<=60000) && decide (draws.length<=4096))))):=⟨_,rfl⟩
 have hsc:GQ c calls B9 draws=(b0 && (calls.all (λl=>l.all CP) && B9.all λk=>decide (0<=k) && decide (k < c.threads))):=by
  rw [hb0]
  unfold GQ
  simp only [Bool.and_assoc]
 rw [hsc] at k
 refine ⟨λvs h'=>(∃u1 u2 u3,vs = [u1,u2,u3,dQ (!b0)])/\A7 h' (pt SB (oQ (N9 c ca calls.length cc pa B9.length pc da draws.length dc).toArray 28)*R),?_,?_⟩
 ·have O:=H1.at
  refine C5 O rfl (C5 O rfl (C5 O rfl (C5 O rfl (C5 O rfl (C5 O rfl (C5 O rfl ?_))))))
  refine A0 (Iv (c:=c) (λhc h2 o2=>?_) λhc h2 o2=>?_)
  rotate_left
  ·refine sb ?_
   refine C7 (λ_=>?_) (λhh=>by simp at hh)
   rw [hc,Bool.false_and] at hb0
   subst hb0
   exact ⟨⟨_,_,_,rfl⟩,H1.old o2⟩
  have H2:=H1.old o2
  rw [hc,Bool.true_and] at hb0
  refine sb ?_
  refine C7 (λhh=>by simp at hh) (λ_=>?_)
  have O:=H2.at
  refine C5 O rfl ?_
  refine sb ?_
  refine C5 O rfl ?_
  refine sb ?_
  refine C7 (λhh=>?_) (λhh=>?_)
  ·have e:((calls.length:Int) == c.threads)=false:=by simpa using hh
   rw [e,Bool.false_and] at hb0
   subst hb0
   exact ⟨⟨_,_,_,rfl⟩,H2⟩
  have e:((calls.length:Int) == c.threads)=true:=by simpa using hh
  rw [e,Bool.true_and] at hb0
  refine C5 O rfl (C5 O rfl (C5 O rfl (C5 O rfl (C5 O rfl (C5 O rfl (C5 O rfl (C5 O rfl (C5 O rfl (C5 O rfl ?_)))))))))
  refine A0 (Pz (c:=c) H2 hS1 hn hn2 λh3 H3=>?_)
  refine sb ?_
  have O:=H3.at
  refine A4 (λhh=>?_) (λhh=>?_)
  ·rw [decide_eq_false (show ¬ calls.flatten.length<=48 by omega),Bool.false_and] at hb0
   subst hb0
   exact ⟨⟨_,_,_,rfl⟩,H3⟩
  rw [decide_eq_true (show calls.flatten.length<=48 by omega),Bool.true_and] at hb0
  refine C5 O rfl ?_
  refine sb ?_
  refine A4 (λhh=>?_) (λhh=>?_)
  ·rw [decide_eq_false (show ¬ B9.length<=60000 by omega),Bool.false_and] at hb0
   subst hb0
   exact ⟨⟨_,_,_,rfl⟩,H3⟩
  rw [decide_eq_true (show B9.length<=60000 by omega),Bool.true_and] at hb0
  refine C5 O rfl ?_
  refine sb ?_
  have e9:decide ((draws.length:Int) > 4096) = !b0:=by
   rw [hb0,<- decide_not,decide_eq_decide]
   omega
  rw [e9]
  exact ⟨⟨_,_,_,rfl⟩,H3⟩
 rintro v38 v39 v40 v41 g42 h43 ⟨⟨u1,u2,u3,e⟩,H2⟩
 cases e
 refine sb ?_
 refine C7 (λhh=>?_) (λhh=>?_)
 ·have e:b0=false:=by simpa using hh
  rw [e,Bool.false_and] at k
  exact k h43 H2.drop
 have e:b0=true:=by simpa using hh
 rw [e,Bool.true_and] at k
 have I2:=hS1 h43 Mr (by rw [W9];exact H2)
 refine C5 H2.at rfl ?_
 refine sb ?_
 refine ⟨λvs h'=>(∃(w u v:Value) (j:Nat),vs = [w,u,.int .i64 j,v]/\j<=calls.length/\(calls.take j).all (λl=>l.all CP)=true)/\A7 h' (pt SB (.cells (N9 c ca calls.length cc pa B9.length pc da draws.length dc).toArray 28)*R),λvs _=>match vs with | [_,_,.int _ i,_]=>((calls.length:Int) - i).toNat | _=>0,⟨⟨_,_,_,0,rfl,Nat.zero_le _,rfl⟩,H2⟩,?_⟩
 rintro v51 v52 v53 v54 g55 h56 ⟨⟨w,u,v,j,e,hj,hall⟩,HJ⟩
 cases e
 refine sb ?_
 have IJ:=hS1 h56 Mr (by rw [W9];exact HJ)
 refine A4 (λc1=>?_) (λc1=>?_)
 ·have hj2:j < calls.length:=by omega
  obtain ⟨ra,rc,⟨ad,ea,hc⟩,hrow56⟩:=IJ.f.row j hj2
  have eg:calls.getD j []=calls[j]:=by rw [List.getD_eq_getElem?_getD,List.getElem?_eq_getElem hj2];rfl
  rw [eg] at hc hrow56
  subst ea
  refine ⟨by omega,by omega,?_⟩
  refine sb ?_
  refine D3 hc ?_
  refine sb ?_
  have hlen:=hV _ (List.getElem_mem hj2)
  have hmem:calls.all (λl=>l.all CP)=true->(calls[j]).all CP=true:=λh=>List.all_eq_true.1 h _ (List.getElem_mem hj2)
  have htk:(calls.take (j+1)).all (λl=>l.all CP)=(calls[j]).all CP:=by
   rw [List.take_succ_eq_append_getElem hj2,List.all_append,hall,List.all_cons,List.all_nil,Bool.true_and,Bool.and_true]
  refine ⟨λvs h'=>(∃(w:Value) (i:Nat),vs = [w,.int .i64 i]/\i<=(calls[j]).length/\((calls[j]).take i).all CP=true)/\G4 h56.size h56 h'/\A7 h' (pt SB (.cells (N9 c (some ad) calls.length cc pa B9.length pc da draws.length dc).toArray 28)*R),λvs _=>match vs with | [_,.int _ i]=>(((calls[j]).length:Int) - i).toNat | _=>0,⟨⟨_,0,rfl,Nat.zero_le _,rfl⟩,G4.refl _ _,HJ⟩,?_⟩
  rintro v66 v67 g68 h69 ⟨⟨w2,i,e,hi,hall2⟩,o69,HI⟩
  cases e
  refine sb ?_
  refine A4 (λc2=>?_) (λc2=>?_)
  ·have hi2:i < (calls[j]).length:=by omega
   have hrow:=(hrow56.old o69)
   have g0:=N3 Bm hi2 (j:=0) (by omega)
   have g1:=N3 Bm hi2 (j:=1) (by omega)
   have g2:=N3 Bm hi2 (j:=2) (by omega)
   obtain ⟨ad3,ea3,q0⟩:=hrow (i*3+0) (.int .i64 (calls[j])[i].op) g0
   subst ea3
   obtain ⟨_,ea4,q1⟩:=hrow (i*3+1) (.int .u32 (calls[j])[i].key) g1
   cases ea4
   obtain ⟨_,ea4,q2⟩:=hrow (i*3+2) (.int .u32 (calls[j])[i].val) g2
   cases ea4
   refine ⟨by omega,by omega,?_⟩
   have aa:∀i,(ad3.add (i*3)).add 1=ad3.add (i*3+1):=λi=>BH _ _ _
   have ab:∀i,(ad3.add (i*3)).add 2=ad3.add (i*3+2):=λi=>BH _ _ _
   rw [Nat.add_zero] at q0
   try simp only [B4,F2,Nat.reduceAdd,Int.reduceLE,Int.reduceLT,Int.reduceToNat,aa,ab]
   refine D3 q0 (D3 q1 (D3 q2 ?_))
   have H5:=HI.push (oQ #[iQ 0,.int .u32 0,.int .u32 0] 41)
   have p5:=(J8 h69 #[iQ 0,.int .u32 0,.int .u32 0] 41).toOld
   generalize h69.push (oQ #[iQ 0,.int .u32 0,.int .u32 0] 41)=h70 at *
   obtain ⟨LB,hLB⟩ : ∃LB,h69.size=LB:=⟨_,rfl⟩
   rw [hLB] at H5 p5 ⊢
   refine F6 (vs:=Cc (calls[j])[i]) H5.at rfl (by simp [Cc,J3]) λh71 x=>?_
   have H6:=H5.wr x.new x.old
   have o71:=x.toOld p5 (Nat.le_refl _)
   refine C5 H6.at rfl (C5 H6.at rfl (C5 H6.at rfl ?_))
   refine A0 (Fm λh72 o72=>?_)
   have H7:=(H6.old o72).drop
   have o72':G4 h56.size h56 h72:=o69.trans ((o71.trans (o72.mono (by rw [<- hLB];exact o71.1))).mono (by rw [<- hLB];exact o69.1))
   have hmem2:(calls[j]).all CP=true->CP (calls[j])[i]=true:=λh=>List.all_eq_true.1 h _ (List.getElem_mem hi2)
   refine sb ?_
   refine C7 (λhh=>?_) (λhh=>?_)
   ·have e:CP (calls[j])[i]=false:=by simpa using hh
    have e2:calls.all (λl=>l.all CP)=false:=by
     rw [<- Bool.not_eq_true]
     intro hx
     rw [hmem2 (hmem hx)] at e;cases e
    rw [e2,Bool.false_and] at k
    exact k h72 H7.drop
   ·have e:CP (calls[j])[i]=true:=by simpa using hh
    rw [show F5 ((i:Int)+1)=((i+1:Nat):Int) from by rw [<- Int.natCast_add_one];exact Bg _ (by omega)]
    refine ⟨⟨⟨_,i+1,rfl,by omega,?_⟩,o72',H7⟩,?_⟩
    ·rw [List.take_succ_eq_append_getElem hi2,List.all_append,hall2,List.all_cons,List.all_nil,e];rfl
    ·show (((calls[j]).length:Int) - ((i+1:Nat):Int)).toNat < (((calls[j]).length:Int) - (i:Int)).toNat
     omega
  ·rw [List.take_of_length_le (by omega)] at hall2
   rw [show F5 ((j:Int)+1)=((j+1:Nat):Int) from by rw [<- Int.natCast_add_one];exact Bg _ (by omega)]
   refine ⟨⟨⟨_,_,_,j+1,rfl,by omega,by rw [htk];exact hall2⟩,HI⟩,?_⟩
   show ((calls.length:Int) - ((j+1:Nat):Int)).toNat < ((calls.length:Int) - (j:Int)).toNat
   omega
 rw [List.take_of_length_le (by omega)] at hall
 rw [hall,Bool.true_and] at k
 refine C5 HJ.at rfl ?_
 refine sb ?_
 refine ⟨λvs h'=>(∃(w u:Value) (j:Nat),vs = [w,u,.int .i64 j]/\j<=B9.length/\(B9.take j).all (λk=>decide (0<=k) && decide (k < c.threads))=true)/\h' = h56,λvs _=>match vs with | [_,_,.int _ i]=>((B9.length:Int) - i).toNat | _=>0,⟨⟨_,_,0,rfl,Nat.zero_le _,rfl⟩,rfl⟩,?_⟩
 rintro v93 v94 v95 g96 h97 ⟨⟨w,u,j,e,hj,hall⟩,rfl⟩
 cases e
 refine sb ?_
 refine A4 (λc1=>?_) (λc1=>?_)
 ·have hj2:j < B9.length:=by omega
  obtain ⟨ad,ea,hc⟩:=IJ.f.pk j (.int .i64 B9[j]) (by rw [List.getElem?_map,List.getElem?_eq_getElem hj2];rfl)
  subst ea
  refine ⟨by omega,by omega,?_⟩
  refine sb ?_
  refine D3 hc ?_
  refine sb ?_
  have hmem:B9.all (λk=>decide (0<=k) && decide (k < c.threads))=true->(decide (0<=B9[j]) && decide (B9[j] < c.threads))=true:=λh=>List.all_eq_true.1 h _ (List.getElem_mem hj2)
  refine ⟨λvs h'=>vs = [dQ (!(decide (0<=B9[j]) && decide (B9[j] < c.threads)))]/\h' = h97,?_,?_⟩
  ·refine A4 (λhh=>?_) (λhh=>?_)
   ·rw [decide_eq_false (show ¬ 0<=B9[j] by omega)]
    exact ⟨rfl,rfl⟩
   ·refine C5 HJ.at rfl ?_
    refine sb ?_
    rw [decide_eq_true (show 0<=B9[j] by omega),Bool.true_and]
    first | exact ⟨by congr 2;rw [<- decide_not,decide_eq_decide];omega,rfl⟩ | (congr 2;rw [<- decide_not,decide_eq_decide];omega)
  rintro v106 g107 h108 ⟨e,rfl⟩
  cases e
  refine sb ?_
  refine C7 (λhh=>?_) (λhh=>?_)
  ·have e:(decide (0<=B9[j]) && decide (B9[j] < c.threads))=false:=by rwa [Bool.not_eq_true'] at hh
   have e2:B9.all (λk=>decide (0<=k) && decide (k < c.threads))=false:=by
    rw [<- Bool.not_eq_true]
    intro hx
    rw [hmem hx] at e;cases e
   rw [e2] at k
   exact k h108 HJ.drop
  ·have e:(decide (0<=B9[j]) && decide (B9[j] < c.threads))=true:=by rwa [Bool.not_eq_false'] at hh
   rw [show F5 ((j:Int)+1)=((j+1:Nat):Int) from by rw [<- Int.natCast_add_one];exact Bg _ (by omega)]
   have e9:(B9.take (j+1)).all (λk=>decide (0<=k) && decide (k < c.threads))=true:=by
    rw [List.take_succ_eq_append_getElem hj2,List.all_append,hall,List.all_cons,List.all_nil,e];rfl
   refine ⟨by first | exact ⟨⟨_,_,j+1,rfl,by omega,e9⟩,rfl⟩ | exact ⟨_,_,j+1,rfl,by omega,e9⟩,?_⟩
   show ((B9.length:Int) - ((j+1:Nat):Int)).toNat < ((B9.length:Int) - (j:Int)).toNat
   omega
 ·rw [List.take_of_length_le (by omega)] at hall
  rw [hall] at k
  exact k h97 HJ.drop
end
end
section
structure Ev8 where
 th:Int
 bk:Bool
 c:C3
 a:C3
abbrev Ev8.cells (e:Ev8):List Value:=[iQ e.th,dQ e.bk,iQ e.c.o,.int .u32 e.c.k,.int .u32 e.c.v,iQ e.a.o,.int .u32 e.a.k,.int .u32 e.a.v]
end
section
theorem DF.of {h:A2} {m:Nat} {f g:Int->Option Value} (H:DF h m f) (e:∀t,f t=g t):DF h m g:=by
 obtain ⟨es,c,kvs,h1,h2,h3⟩:=H
 exact ⟨es,c,kvs,h1,h2,λk=>(h3 k).trans (e k)⟩
theorem LO {K:kQ} {h:A2} {t:Int} (k:K (dQ (decide (0<=t) && decide (t<=5))) h):A5 Tryz.prog 124 #[iv t] h K:=by
 refine call124 ?_
 unfold F124
 refine A4 (λh1=>?_) (λh1=>?_)
 ·rw [decide_eq_true (by omega:0<=t),Bool.true_and] at k
  have:decide (t < 6)=decide (t<=5):=by rw [decide_eq_decide];omega
  rw [this];exact k
 ·rw [decide_eq_false (by omega:¬ 0<=t)] at k
  exact k
end
section
set_option maxRecDepth 100000
variable {K:kQ} {h:A2}
abbrev g12 (K:kQ) (h H1 H2:A2):Prop:=
 (EH H2 h.size λa b c d e f g i j k=>cf 29 #[.agg #[a,b,c,d,e,f,g,i,j,k]] H2 λa b=>asBool a λa=>D0 (!a) (dw5 b H1.size (lQ none 0 0) (iQ 0) (iQ 0) (dQ false) (iQ 0) λa=>dl5 a H1.size λc d e f g=>K (.tuple #[.agg #[c,d,e,f,g],pQ none,iQ 1]) a) (da7 b (aQ h.size) λa c d e f g i=>lS b ⟨h.size,9,none⟩ λj k l=>cf 30 #[.agg #[a,c,d,e,f,g,i],lQ j k l,dQ true] b λa b=>J6 a λc=>D2 c 0 λc=>C2 c λc=>J6 a λa=>D2 a 1 λa=>asInt .i64 a λa=>D0 (a != 0) (dw5 b H1.size (lQ none 0 0) (iQ 0) (iQ 0) (dQ false) (iQ 0) λd=>dl5 d H1.size λe f g i j=>K (.tuple #[.agg #[e,f,g,i,j],pQ none,iQ a]) d) (EH b h.size λa d e f g i j k l m=>lI .i64 b (Addr.add (aQ h.size) 1) λn=>Y5 Tryz.prog 3 n n b λb n=>C8 b λb o p=>ce n h.size 0 a (ce n h.size 1 d (ce n h.size 2 e (ce n h.size 3 f (ce n h.size 4 g (ce n h.size 5 i (ce n h.size 6 j (ce n h.size 7 k (ce n h.size 8 l (ce n h.size 9 m (cf 31 #[pQ c] (n.push (oQ #[lQ none 0 0,iQ 0,iQ 0,dQ false,iQ 0,pQ c,a,d,e,f,g,i,j,k,l,m,lQ b o p,lQ none 0 0,.map none,iQ 0] 78)) λa b=>C2 a λa=>cf 32 #[pQ a] b λa b=>C2 a λa=>cf 33 #[pQ a] b λa b=>asInt .i64 a λa=>lS b ⟨h.size,8,none⟩ λd e f=>O0 λI82=>Hg λm83=>(I82 [tQ,iQ 0] b)/\(∀(b f:Value) (g:F8) (g:A2),(I82 [b,f] g)->(asInt .i64 f λi=>D0 (decide (i < (e:Int))) (Gv f λi=>bd i (e:Int) (E5 (pQ d) λd=>lI .i64 g (d.add (i.toNat*1)) λd=>cf 34 #[pQ (some (aQ n.size)),iQ d] g λe e=>asInt .i64 f λi=>(I82 [iQ d,iQ (IntKind.wrap .i64 (i+1))] e)/\((m83 [iQ d,iQ (IntKind.wrap .i64 (i+1))] e) < (m83 [b,f] g)))) (B4 (pQ (some (aQ n.size))) (cf 35 #[pQ (some ⟨n.size,17,none⟩)] g λb d=>C8 b λb e f=>B4 (pQ (some (aQ n.size))) (C4 d (aQ n.size) (lQ b e f) λb=>cf 31 #[pQ c] b λb d=>C2 b λb=>cf 32 #[pQ b] d λb d=>C2 b λb=>cf 33 #[pQ b] d λb d=>asInt .i64 b λb=>B4 (pQ (some (aQ n.size))) (C4 d (Addr.add (aQ n.size) 1) (iQ (IntKind.wrap .i64 (b - a))) λa=>cf 31 #[pQ c] a λa b=>C2 a λa=>cf 36 #[pQ a] b λa b=>asBool a λa=>B4 (pQ (some (aQ n.size))) (C4 b (Addr.add (aQ n.size) 3) (dQ a) λa=>B4 (pQ (some (aQ n.size))) (da5 a (aQ n.size) λb d e f g=>dw5 a H1.size b d e f g λa=>dl5 a H1.size λb d e f g=>K (.tuple #[.agg #[b,d,e,f,g],pQ c,iQ 0]) a)))))))))))))))))))))
def F12 (K:kQ) (h:A2) (xa xb xc xd xe xf xg:Int) (xh:Option Addr) (xi xj:Nat) (xk:Option Addr) (xl xm:Nat) (xn:Option Addr) (xo xp:Nat):Prop:=
 (g12 K h (h.push (oQ #[iQ xa,iQ xb,iQ xc,iQ xd,iQ xe,iQ xf,iQ xg,lQ xh xi xj,lQ xk xl xm,lQ xn xo xp] 28)) (Array.push (h.push (oQ #[iQ xa,iQ xb,iQ xc,iQ xd,iQ xe,iQ xf,iQ xg,lQ xh xi xj,lQ xk xl xm,lQ xn xo xp] 28)) (oQ #[lQ none 0 0,iQ 0,iQ 0,dQ false,iQ 0] 34)))
theorem call12 {xa xb xc xd xe xf xg:Int} {xh:Option Addr} {xi xj:Nat} {xk:Option Addr} {xl xm:Nat} {xn:Option Addr} {xo xp:Nat} (H:F12 K h xa xb xc xd xe xf xg xh xi xj xk xl xm xn xo xp):A5 Tryz.prog 12 #[(.agg #[(iQ xa),(iQ xb),(iQ xc),(iQ xd),(iQ xe),(iQ xf),(iQ xg),(lQ xh xi xj),(lQ xk xl xm),(lQ xn xo xp)])] h K:=
 cQ Tryz.func12 H
def F34 (K:kQ) (h:A2) (xa:Option Addr) (xb:Int):Prop:=
 (O0 λI0=>(nP xa λa=>lP h (a.add 5) λa=>cf 66 #[pQ a,iQ xb] h λa b=>asBool a λa=>D0 (!a) (cf 67 #[pQ xa,iQ xb] b λa c=>asBool a λa=>I0 [dQ (!a)] c) (I0 [dQ false] b))/\(∀(a:Value) (b:F8) (b:A2),(I0 [a] b)->(asBool a λa=>D0 a (nP xa λa=>lI .i64 b (a.add 2) λa=>nP xa λc=>C4 b (c.add 2) (iQ (IntKind.wrap .i64 (a+1))) λa=>K tQ a) (nP xa λa=>lP b (a.add 5) λa=>cf 68 #[pQ a,iQ xb] b λa b=>J6 a λc=>D2 c 0 λc=>asAgg c λc=>G0 c 3 (de3 c λc d e=>J6 a λa=>D2 a 1 λa=>asBool a λa=>C4 (b.push (oQ #[iQ 0,.int .u32 0,.int .u32 0] 43)) (aQ b.size) c λc=>C4 c ⟨b.size,1,none⟩ d λc=>C4 c ⟨b.size,2,none⟩ e λc=>D0 a (nP xa λa=>L1 c b.size λb d e=>cf 69 #[pQ (some (a.add 17)),iQ xb,.agg #[b,d,e]] c λa b=>asInt .i64 a λa=>nP xa λa=>C4 b (a.add 19) (iQ 0) λa=>K tQ a) (nP xa λa=>lI .i64 c (a.add 19) λa=>nP xa λb=>C4 c (b.add 19) (iQ (IntKind.wrap .i64 (a+1))) λa=>nP xa λb=>lI .i64 a (b.add 4) λb=>nP xa λc=>lI .i64 a (c.add 19) λc=>O4 (λd e=>FG d e) Tryz.prog 3 [iQ b,iQ c] λb=>nP xa λc=>C4 a (c.add 4) (iQ b) λa=>K tQ a))))))
theorem call34 {xa:Option Addr} {xb:Int} (H:F34 K h xa xb):A5 Tryz.prog 34 #[(pQ xa),(iQ xb)] h K:=
 cQ Tryz.func34 H
abbrev g67 (K:kQ) (h H1:A2) (xa:Option Addr) (xb:Int):Prop:=
 (nP xa λa=>lS h (a.add 16) λa b c=>bd xb (b:Int) (E5 (pQ a) λa=>lI .i64 h (a.add (xb.toNat*1)) λa=>nP xa λb=>lS h (b.add 13) λb c d=>bd xb (c:Int) (E5 (pQ b) λb=>lS h (b.add (xb.toNat*1)) λb b c=>D0 (decide (a >= (b:Int))) (K (dQ false) h) (nP xa λa=>D1 h (a.add 13) λb=>C8 b λc d e=>bd xb (d:Int) (E5 (pQ c) λc=>D1 h (c.add (xb.toNat*1)) λd=>C8 d λe f g=>nP xa λg=>D1 h (g.add 16) λi=>C8 i λj k l=>bd xb (k:Int) (E5 (pQ j) λj=>D1 h (j.add (xb.toNat*1)) λk=>asInt .i64 k λl=>bd l (f:Int) (E5 (pQ e) λe=>D1 h (e.add (l.toNat*3)) λf=>D1 h (Addr.add (e.add (l.toNat*3)) 1) λm=>D1 h (Addr.add (e.add (l.toNat*3)) 2) λn=>((A3 H1 (e.add (l.toNat*3)))=(some f))/\(((A3 H1 (Addr.add (e.add (l.toNat*3)) 1))=(some m))/\(((A3 H1 (Addr.add (e.add (l.toNat*3)) 2))=(some n))/\(((A3 H1 (j.add (xb.toNat*1)))=(some k))/\(((A3 H1 (g.add 16))=(some i))/\(((A3 H1 (c.add (xb.toNat*1)))=(some d))/\(((A3 H1 (a.add 13))=(some b))/\(dw3 H1 h.size f m n λa=>nP xa λb=>lS a (b.add 16) λb c d=>bd xb (c:Int) (E5 (pQ b) λd=>lI .i64 a (d.add (xb.toNat*1)) λd=>bd xb (c:Int) (E5 (pQ b) λb=>C4 a (b.add (xb.toNat*1)) (iQ (IntKind.wrap .i64 (d+1))) λa=>nP xa λb=>lP a (b.add 5) λb=>L1 a h.size λc d e=>cf 77 #[pQ b,iQ xb,.agg #[c,d,e]] a λa b=>asInt .i64 a λa=>nP xa λa=>L1 b h.size λc d e=>cf 122 #[pQ (some (a.add 17)),iQ xb,.agg #[c,d,e]] b λa b=>asInt .i64 a λa=>K (dQ true) b))))))))))))))))
def F67 (K:kQ) (h:A2) (xa:Option Addr) (xb:Int):Prop:=
 (g67 K h (h.push (oQ #[iQ 0,.int .u32 0,.int .u32 0] 41)) xa xb)
theorem call67 {xa:Option Addr} {xb:Int} (H:F67 K h xa xb):A5 Tryz.prog 67 #[(pQ xa),(iQ xb)] h K:=
 cQ Tryz.func67 H
def F35 (K:kQ) (h:A2) (xa:Option Addr):Prop:=
 (D0 (Option.isNone xa) (K (lQ none 0 0) h) (nP xa λa=>lS h a λa b c=>cf 70 #[lQ a b c] h λa b=>C8 a λa c d=>K (lQ a c d) b))
theorem call35 {xa:Option Addr} (H:F35 K h xa):A5 Tryz.prog 35 #[(pQ xa)] h K:=
 cQ Tryz.func35 H
def F70 (K:kQ) (h:A2) (xa:Option Addr) (xb xc:Nat):Prop:=
 (D0 (Option.isNone xa) (K (lQ none 0 0) h) (T2 Tryz.prog #[32,32] 32 #[lQ (some (aQ h.size)) 0 0,lQ xa xb xc] (h.push (oQ #[] 45)) λa b=>C8 a λa c d=>K (lQ a c d) b))
theorem call70 {xa:Option Addr} {xb xc:Nat} (H:F70 K h xa xb xc):A5 Tryz.prog 70 #[(lQ xa xb xc)] h K:=
 cQ Tryz.func70 H
end
section
open Mod
structure R4 where
 m:Mac
 nx:List Int
 ev:List EvM
 cu:Int->Option Cl
 idle:Int
 gap:Int
 most:Int
def c3 (c:Cl):C3:=⟨c.op,c.key,c.val⟩
def R4.invoke (s:R4) (k:Int) (c:Cl):R4:=match s.cu k with
 | none=>{ s with cu:=λt=>if t=k then some c else s.cu t,ev:=s.ev ++ [⟨k,false,c,DA⟩] }
 | some _=>s
def R4.respond (s:R4) (k:Int) (a:Cl):R4:=match s.cu k with
 | some c=>if KY (c3 c) (c3 a) then { s with cu:=λt=>if t=k then none else s.cu t,ev:=s.ev ++ [⟨k,true,DA,a⟩] } else s
 | none=>s
def R4.begin (ins:Int) (calls:List (List Cl)) (s:R4) (k:Nat):Option R4:=
 if (calls.getD k []).length<=(s.nx.getD k 0).toNat then none
 else some (R4.invoke { s with m:=s.m.setTh (s.m.th.set k ((F4 s.m k).push (ins+((calls.getD k []).getD (s.nx.getD k 0).toNat DA).op) [((calls.getD k []).getD (s.nx.getD k 0).toNat DA).key,((calls.getD k []).getD (s.nx.getD k 0).toNat DA).val])),nx:=s.nx.set k (s.nx.getD k 0+1) } k ((calls.getD k []).getD (s.nx.getD k 0).toNat DA))
noncomputable def R4.go (d:A9->A9) (s:R4) (k:Nat):R4:=
 if (S9 d ⟨s.m.quiet,F4 s.m k,k⟩).t.fr = [] then { R4.respond { s with m:=(S9 d ⟨s.m.quiet,F4 s.m k,k⟩).m.setTh (s.m.th.set k (S9 d ⟨s.m.quiet,F4 s.m k,k⟩).t) } k (Fz (S9 d ⟨s.m.quiet,F4 s.m k,k⟩).t) with gap:=0 }
 else { s with m:=(S9 d ⟨s.m.quiet,F4 s.m k,k⟩).m.setTh (s.m.th.set k (S9 d ⟨s.m.quiet,F4 s.m k,k⟩).t),gap:=s.gap+1,most:=max s.most (s.gap+1) }
noncomputable def R4.pick (d:A9->A9) (ins:Int) (calls:List (List Cl)) (s:R4) (k:Int):R4:=
 if (F4 s.m k.toNat).fr = [] then match s.begin ins calls k.toNat with
  | none=>{ s with idle:=s.idle+1 }
  | some s1=>s1.go d k.toNat
 else s.go d k.toNat
def rs0 (m:Mac) (n:Nat):R4:=⟨m,List.replicate n 0,[],λ_=>none,0,0,0⟩
noncomputable def SU (d:A9->A9) (ins:Int) (calls:List (List Cl)) (m:Mac) (B9:List Int):R4:=B9.foldl (λs k=>s.pick d ins calls k) (rs0 m calls.length)
def clV (c:Cl):Value:=.agg (Cc c).toArray
def LP (mo:Option Nat) (f:Int->Option Cl):Hp:=lift (λb=>mo=some b) λh=>match mo with
 | none=>∀t,f t=none
 | some m=>DF h m λt=>(f t).map clV
structure RX where
 RB:Nat
 NB:Nat
 Q:Nat
 M:Nat
 f:Nat
 ins:Int
 Ts:List Nat
 c:Mod.Cf
 ca:Option Addr
 cl:Nat
 cc:Nat
 pa:Option Addr
 pl:Nat
 pc:Nat
 da:Option Addr
 dl:Nat
 dc:Nat
 n:Nat
abbrev rnC (X:RX) (idle most gap:Int) (ea:Option Addr) (en ec:Nat) (mo:Option Nat):List Value:=[lQ none 0 0,iQ 0,iQ idle,dQ false,iQ most,mP X.Q,iQ X.c.algo,iQ X.c.threads,iQ X.c.nodes,iQ X.c.level,iQ X.c.batch,iQ X.c.probes,iQ X.c.scan,lQ X.ca X.cl X.cc,lQ X.pa X.pl X.pc,lQ X.da X.dl X.dc,lQ (some ⟨X.NB,0,none⟩) X.n X.n,lQ ea en ec,.map mo,iQ gap]
def ID (X:RX) (s:R4):Hp:=ex λea=>ex λec=>ex λmo=>pr (s.nx.length=X.n)
 (pt X.RB (oQ (rnC X s.idle s.most s.gap ea s.ev.length ec mo).toArray 78)*(F3 45 8 ea s.ev.length ec (s.ev.flatMap Fy)*(LP mo s.cu*(pt X.NB (oQ (s.nx.map iv).toArray 3)*Cu X.Q X.M X.f X.ins X.Ts s.m))))
theorem T5 {h:A2} {X:RX} {s:R4} {R:Hp}:A7 h (ID X s*R)↔∃ea ec mo,s.nx.length=X.n /\
  A7 h (pt X.RB (oQ (rnC X s.idle s.most s.gap ea s.ev.length ec mo).toArray 78)*(F3 45 8 ea s.ev.length ec (s.ev.flatMap Fy)*(LP mo s.cu*(pt X.NB (oQ (s.nx.map iv).toArray 3)*(Cu X.Q X.M X.f X.ins X.Ts s.m*R))))):=by
 unfold ID
 simp only [A7.ex,A7.pr,E7]
section
variable {K:kQ} {h:A2} {X:RX} {s:R4} {R:Hp}
theorem Yq {mo:Option Nat} {f:Int->Option Cl} (H:A7 h (LP mo f*R)):(mo=none/\∀t,f t=none)\/∃m,mo=some m/\DF h m λt=>(f t).map clV:=by
 have H1:=H.see
 cases mo with
 | none=>exact .inl ⟨rfl,H1⟩
 | some m=>exact .inr ⟨m,rfl,H1⟩
theorem Sv8 {h:A2} {m:Nat} {f:Int->Option Value} (H:DF h m f):∀b o,some m=some b->h[b]? = some o->Nd o:=by
 intro b o e hb x hx
 cases e
 obtain ⟨es,c,kvs,q,_⟩:=H
 rw [q] at hb
 cases hb
 cases hx
theorem Sv9 {m:Nat} {f g:Int->Option Cl} {h':A2} (H:A7 h (LP (some m) f*R)) (hm:DF h' m λt=>(g t).map clV) (hs:h.size<=h'.size) (old:∀b,b≠m->h'[b]? = h[b]?):A7 h' (LP (some m) g*R):=by
 obtain ⟨_,hlt,re⟩:=H.opn
 refine re h' _ _ ⟨hs,λb _ hb=>old b λe=>hb (by rw [e])⟩ (λb hb=>?_) (Sv8 hm) λh'' e=>?_
 ·refine ⟨.inl hb,?_⟩
  cases hb
  exact hm.lt
 ·exact hm.keep (e m rfl)
theorem SI9 {f:Int->Option Cl} (H:A7 h (LP none f*R)):A7 (h.push (.map #[] 0)) (LP (some h.size) f*R):=by
 have hf:∀t,f t=none:=H.see
 have H1:=H.drop
 have hN:=DF.new h
 refine H1.mk_new ⟨by simp,λb hb=>S4 _ _ _ hb⟩ (λb hb=>?_) (Sv8 hN) λh'' e=>?_
 ·cases hb
  exact ⟨Nat.le_refl _,by simp⟩
 ·refine (hN.keep (e _ rfl)).of λt=>?_
  rw [hf t];rfl
theorem Sw0 (o:Option Cl):(o.map clV).getD (clV DA)=clV (o.getD DA):=by cases o <;> rfl
theorem PA:Gw Tryz.prog 41=some (clV DA):=by kernel_rfl
theorem Ix:AH Tryz.prog 74=.map 3 41:=by kernel_rfl
theorem LQ:AH Tryz.prog 3=.int .i64:=by kernel_rfl
theorem JU {t:Int} (H:A7 h (ID X s*R)) (k:∀h',A7 h' (ID X s*R)->G4 h.size h h'->K (dQ (s.cu t).isSome) h'):A5 Tryz.prog 125 #[pQ (some ⟨X.RB,17,none⟩),iQ t] h K:=by
 refine call125 ?_
 unfold F125 nP de3
 obtain ⟨ea,ec,mo,hl,H1⟩:=T5.1 H
 refine C7 (λhh=>by cases hh) (λ_=>?_)
 refine sb ?_
 refine C5 H1.at rfl ?_
 simp only [Cd]
 have HM:=H1.drop.drop
 have look:∀ {K:kQ},K (.tuple #[clV ((s.cu t).getD DA),dQ (s.cu t).isSome]) h->Jm Tryz.prog 74 (.map mo) (iQ t) true h K:=by
  intro K kk
  rcases Yq HM with ⟨rfl,hf⟩ | ⟨m,rfl,hf⟩
  ·rw [hf] at kk
   exact Sn7 Ix LQ PA kk
  ·refine XN Ix LQ PA hf ?_
   simp only [if_true]
   rw [Sw0,Option.isSome_map]
   exact kk
 refine look ?_
 simp only [J6]
 refine E6 rfl ?_
 unfold clV
 simp only [Co]
 refine Ax rfl (E6 rfl (E6 rfl (E6 rfl ?_)))
 refine E6 rfl ?_
 simp only [B6]
 have H2:=H.push (oQ #[iQ 0,.int .u32 0,.int .u32 0] 41)
 have p2:=(J8 h #[iQ 0,.int .u32 0,.int .u32 0] 41).toOld
 obtain ⟨LB,hLB⟩ : ∃LB,h.size=LB:=⟨_,rfl⟩
 rw [hLB] at H2 p2 ⊢
 generalize h.push (oQ #[iQ 0,.int .u32 0,.int .u32 0] 41)=h2 at *
 refine F6 (vs:=Cc ((s.cu t).getD DA)) H2.at rfl (by simp [Cc,J3]) λh3 w=>?_
 exact k h3 (H2.wr w.new w.old).drop (by rw [hLB];exact w.toOld p2 (Nat.le_refl _))
theorem SX0 (e:EvM):(Fy e).toArray=#[iQ e.k,dQ e.back,iQ e.c.op,.int .u32 e.c.key,.int .u32 e.c.val,iQ e.a.op,.int .u32 e.a.key,.int .u32 e.a.val]:=rfl
theorem SX1 {e:EvM} {ea:Option Addr} {ec:Nat} {mo:Option Nat} {idle most gap:Int} {ev:List EvM} {G:Hp} (H:A7 h (pt X.RB (oQ (rnC X idle most gap ea ev.length ec mo).toArray 78)*(F3 45 8 ea ev.length ec (ev.flatMap Fy)*G))) (hb:ev.length<=1000000) {F:A2->Prop}
  (k:∀h' ea' ec',A7 h' (pt X.RB (oQ (rnC X idle most gap ea' (ev ++ [e]).length ec' mo).toArray 78)*(F3 45 8 ea' (ev ++ [e]).length ec' ((ev ++ [e]).flatMap Fy)*G))->F h') :
  T2 Tryz.prog #[32,32] 32 #[lQ ea ev.length ec,lQ (some (aQ h.size)) 1 1] (h.push (oQ #[iQ e.k,dQ e.back,iQ e.c.op,.int .u32 e.c.key,.int .u32 e.c.val,iQ e.a.op,.int .u32 e.a.key,.int .u32 e.a.val] 45))
   λv h'=>C8 v λo k1 k2=>C4 h' ⟨X.RB,17,none⟩ (lQ o k1 k2) F:=by
 have H2:=H.push (oQ (Fy e).toArray 45)
 have hs:N8 (h.push (oQ (Fy e).toArray 45)) (some (aQ h.size)) (Fy e):=λj v hj=>⟨_,rfl,by rw [E1,Nat.zero_add,E0 H2.at];simpa using hj⟩
 rw [<- SX0]
 generalize h.push (oQ (Fy e).toArray 45)=h2 at *
 generalize h.size=N at *
 have H3:=H2.drop
 rw [D4,<- Ei] at H3
 refine H3.app Yi Nw Yj (by rw [Ei];rfl) hs (n:=1) (by rw [Ei];rfl) (λy hy=>?_) (by rw [Kt];omega) (by rw [Kt];omega) λa' c' h3 H4=>?_
 ·simp only [Fy,List.mem_cons,List.not_mem_nil,or_false] at hy
  rcases hy with rfl | rfl | rfl | rfl | rfl | rfl | rfl | rfl <;> trivial
 rw [Ei,D4] at H4
 refine sb ?_
 refine H4.st (i:=17) rfl trivial λh4 H5=>k h4 a' c' ?_
 have e1:(ev ++ [e]).length=ev.length+1:=by simp
 have e2:(ev ++ [e]).flatMap Fy=ev.flatMap Fy ++ Fy e:=by simp
 rw [e1,e2]
 exact H5
theorem MI {t:Int} {c:Cl} (H:A7 h (ID X s*R)) (ht:0<=t/\t<=5) (hc:CP c=true) (hb:s.ev.length<=1000000) (k:∀r h',A7 h' (ID X (s.invoke t c)*R)->K (iQ r) h') :
  A5 Tryz.prog 122 #[pQ (some ⟨X.RB,17,none⟩),iQ t,.agg #[iQ c.op,.int .u32 c.key,.int .u32 c.val]] h K:=by
 refine call122 ?_
 unfold F122 g122 cf nP L1
 have H1:=H.push (oQ (Cc c).toArray 41)
 rw [show h.push (oQ #[iQ c.op,.int .u32 c.key,.int .u32 c.val] 41)=h.push (oQ (Cc c).toArray 41) from rfl]
 generalize h.push (oQ (Cc c).toArray 41)=h1 at *
 generalize h.size=CB at *
 rw [D4] at H1
 refine C7 (λhh=>by cases hh) (λ_=>?_)
 refine A0 (LO ?_)
 rw [decide_eq_true ht.1,decide_eq_true ht.2]
 refine sb ?_
 have O:=H1.at2
 refine C5 O rfl (C5 O rfl (C5 O rfl ?_))
 refine A0 (Fm λh2 o2=>?_)
 have H2:=H1.old o2
 rw [hc]
 refine sb ?_
 refine A0 (JU H2 λh3 H3 o3=>?_)
 refine sb ?_
 refine C7 (λhh=>?_) (λhh=>?_)
 ·have e:s.invoke t c=s:=by
   unfold R4.invoke
   cases e:s.cu t with
   | none=>rw [e] at hh;cases hh
   | some x=>rfl
  rw [e] at k
  exact k 5 h3 H3.drop2
 have hno:s.cu t=none:=by
  cases e:s.cu t with
  | none=>rfl
  | some x=>rw [e] at hh;cases hh
 obtain ⟨ea,ec,mo,hl,H4⟩:=T5.1 H3
 refine ⟨λ_ h'=>∃m,A7 h' (pt X.RB (oQ (rnC X s.idle s.most s.gap ea s.ev.length ec (some m)).toArray 78)*(F3 45 8 ea s.ev.length ec (s.ev.flatMap Fy)*(LP (some m) s.cu*(pt X.NB (oQ (s.nx.map iv).toArray 3)*(Cu X.Q X.M X.f X.ins X.Ts s.m*(pt CB (oQ (Cc c).toArray 41)*R)))))),?_,?_⟩
 ·refine sb ?_
  refine C5 H4.at rfl ?_
  simp only [Cd]
  cases mo with
  | some m=>exact C7 (λhh=>by cases hh) (λ_=>⟨m,H4⟩)
  | none=>
   refine C7 (λ_=>?_) (λhh=>by cases hh)
   have H5:A7 h3 (LP none s.cu*(pt X.RB (oQ (rnC X s.idle s.most s.gap ea s.ev.length ec none).toArray 78)*(F3 45 8 ea s.ev.length ec (s.ev.flatMap Fy)*(pt X.NB (oQ (s.nx.map iv).toArray 3)*(Cu X.Q X.M X.f X.ins X.Ts s.m*(pt CB (oQ (Cc c).toArray 41)*R)))))):=A7.ac H4 (by ac_rfl)
   have H6:=SI9 H5
   generalize h3.push (.map #[] 0)=h4 at *
   generalize h3.size=m at *
   have H7:A7 h4 (pt X.RB (oQ (rnC X s.idle s.most s.gap ea s.ev.length ec none).toArray 78)*(F3 45 8 ea s.ev.length ec (s.ev.flatMap Fy)*(LP (some m) s.cu*(pt X.NB (oQ (s.nx.map iv).toArray 3)*(Cu X.Q X.M X.f X.ins X.Ts s.m*(pt CB (oQ (Cc c).toArray 41)*R)))))):=A7.ac H6 (by ac_rfl)
   exact H7.st (i:=18) rfl trivial λh5 H8=>⟨m,H8⟩
 rintro g18 h19 ⟨m,H5⟩
 try simp only [B4,F2,Nat.reduceAdd,Int.reduceLE,Int.reduceLT,Int.reduceToNat]
 refine C5 H5.at rfl ?_
 simp only [Cd]
 have OC:=(H5.drop.drop.drop.drop.drop).at
 refine C5 OC rfl (C5 OC rfl (C5 OC rfl ?_))
 have H6:A7 h19 (LP (some m) s.cu*(pt X.RB (oQ (rnC X s.idle s.most s.gap ea s.ev.length ec (some m)).toArray 78)*(F3 45 8 ea s.ev.length ec (s.ev.flatMap Fy)*(pt X.NB (oQ (s.nx.map iv).toArray 3)*(Cu X.Q X.M X.f X.ins X.Ts s.m*(pt CB (oQ (Cc c).toArray 41)*R)))))):=A7.ac H5 (by ac_rfl)
 have hf:DF h19 m λt=>(s.cu t).map clV:=H6.see
 refine SQ1 Ix LQ hf λh26 mf26 s26 old26=>?_
 have H7:=Sv9 (g:=λt'=>if t' = t then some c else s.cu t') H6 (mf26.of λt'=>by by_cases e:t' = t <;> simp [e,clV,Cc]) (by omega) old26
 have H8:A7 h26 (pt X.RB (oQ (rnC X s.idle s.most s.gap ea s.ev.length ec (some m)).toArray 78)*(F3 45 8 ea s.ev.length ec (s.ev.flatMap Fy)*(LP (some m) (λt'=>if t' = t then some c else s.cu t')*(pt X.NB (oQ (s.nx.map iv).toArray 3)*(Cu X.Q X.M X.f X.ins X.Ts s.m*(pt CB (oQ (Cc c).toArray 41)*R)))))):=A7.ac H7 (by ac_rfl)
 try simp only [B4,F2,Nat.reduceAdd,Int.reduceLE,Int.reduceLT,Int.reduceToNat]
 refine C5 H8.at rfl ?_
 refine sb ?_
 have OC:=(H8.drop.drop.drop.drop.drop).at
 refine C5 OC rfl (C5 OC rfl (C5 OC rfl ?_))
 refine ⟨E4 (E9 H8.at rfl),?_⟩
 refine SX1 (e:=⟨t,false,c,DA⟩) H8 hb λh36 ea' ec' H9=>?_
 have e:s.invoke t c = { s with cu:=λt'=>if t' = t then some c else s.cu t',ev:=s.ev ++ [⟨t,false,c,DA⟩] }:=by
  unfold R4.invoke
  rw [hno]
 rw [e] at k
 have H10:A7 h36 (ID X { s with cu:=λt'=>if t' = t then some c else s.cu t',ev:=s.ev ++ [⟨t,false,c,DA⟩] }*(pt CB (oQ (Cc c).toArray 41)*R)):=T5.2 ⟨ea',ec',some m,hl,H9⟩
 exact k 0 h36 H10.drop2
theorem LR {t:Int} {a:Cl} (H:A7 h (ID X s*R)) (ht:0<=t/\t<=5) (hb:s.ev.length<=1000000) (k:∀r h',A7 h' (ID X (s.respond t a)*R)->K (iQ r) h') :
  A5 Tryz.prog 69 #[pQ (some ⟨X.RB,17,none⟩),iQ t,.agg #[iQ a.op,.int .u32 a.key,.int .u32 a.val]] h K:=by
 refine call69 ?_
 unfold F69 g69 cf ce nP de3 L1
 have H1:=H.push (oQ (Cc a).toArray 43)
 rw [show h.push (oQ #[iQ a.op,.int .u32 a.key,.int .u32 a.val] 43)=h.push (oQ (Cc a).toArray 43) from rfl]
 generalize h.push (oQ (Cc a).toArray 43)=h1 at *
 generalize h.size=CB at *
 rw [D4] at H1
 refine C7 (λhh=>by cases hh) (λ_=>?_)
 refine A0 (LO ?_)
 rw [decide_eq_true ht.1,decide_eq_true ht.2]
 refine sb ?_
 refine A0 (JU H1 λh3 H3 o3=>?_)
 refine sb ?_
 refine C7 (λhh=>?_) (λhh=>?_)
 ·have e:s.respond t a=s:=by
   unfold R4.respond
   cases e:s.cu t with
   | none=>rfl
   | some x=>rw [e] at hh;cases hh
  rw [e] at k
  exact k 4 h3 H3.drop2
 obtain ⟨c,hcu⟩ : ∃c,s.cu t=some c:=by
  cases e:s.cu t with
  | none=>rw [e] at hh;cases hh
  | some x=>exact ⟨x,rfl⟩
 obtain ⟨ea,ec,mo,hl,H4⟩:=T5.1 H3
 rcases Yq H4.drop.drop with ⟨_,hf⟩ | ⟨m,rfl,hf⟩
 ·rw [hf] at hcu;cases hcu
 try simp only [B4,F2,Nat.reduceAdd,Int.reduceLE,Int.reduceLT,Int.reduceToNat]
 refine C5 H4.at rfl ?_
 simp only [Cd]
 have OC:=(H4.drop.drop.drop.drop.drop).at
 refine C5 OC rfl (C5 OC rfl (C5 OC rfl ?_))
 refine XN Ix LQ PA hf ?_
 simp only [hcu,Option.map_some,Option.getD_some,Bool.false_eq_true,if_false]
 unfold clV
 simp only [Co]
 refine Ax rfl (E6 rfl (E6 rfl (E6 rfl ?_)))
 refine ⟨E9 OC rfl,E9 OC rfl,E9 OC rfl,?_⟩
 refine A0 (Zh (c:=c3 c) (a:=c3 a) λh5 o5=>?_)
 have H5:=H4.old o5
 refine sb ?_
 refine C7 (λhh=>?_) (λhh=>?_)
 ·have e:s.respond t a=s:=by
   unfold R4.respond
   rw [hcu]
   show (if KY (c3 c) (c3 a) then _ else s)=s
   rw [if_neg (by simpa using hh)]
  rw [e] at k
  have H6:A7 h5 (ID X s*(pt CB (oQ (Cc a).toArray 43)*R)):=T5.2 ⟨ea,ec,some m,hl,H5⟩
  exact k 1 h5 H6.drop2
 have hfit:KY (c3 c) (c3 a)=true:=by simpa using hh
 refine C5 H5.at rfl ?_
 simp only [Cd]
 have H6:A7 h5 (LP (some m) s.cu*(pt X.RB (oQ (rnC X s.idle s.most s.gap ea s.ev.length ec (some m)).toArray 78)*(F3 45 8 ea s.ev.length ec (s.ev.flatMap Fy)*(pt X.NB (oQ (s.nx.map iv).toArray 3)*(Cu X.Q X.M X.f X.ins X.Ts s.m*(pt CB (oQ (Cc a).toArray 43)*R)))))):=A7.ac H5 (by ac_rfl)
 have hf5:DF h5 m λt=>(s.cu t).map clV:=H6.see
 refine SQ2 Ix LQ hf5 λh25 mf25 s25 old25=>?_
 have H7:=Sv9 (g:=λt'=>if t' = t then none else s.cu t') H6 (mf25.of λt'=>by by_cases e:t' = t <;> simp [e]) (by omega) old25
 have H8:A7 h25 (pt X.RB (oQ (rnC X s.idle s.most s.gap ea s.ev.length ec (some m)).toArray 78)*(F3 45 8 ea s.ev.length ec (s.ev.flatMap Fy)*(LP (some m) (λt'=>if t' = t then none else s.cu t')*(pt X.NB (oQ (s.nx.map iv).toArray 3)*(Cu X.Q X.M X.f X.ins X.Ts s.m*(pt CB (oQ (Cc a).toArray 43)*R)))))):=A7.ac H7 (by ac_rfl)
 try simp only [B4,F2,Nat.reduceAdd,Int.reduceLE,Int.reduceLT,Int.reduceToNat]
 refine C5 H8.at rfl ?_
 refine sb ?_
 have OC:=(H8.drop.drop.drop.drop.drop).at
 refine C5 OC rfl (C5 OC rfl (C5 OC rfl ?_))
 refine ⟨E4 (E9 H8.at rfl),?_⟩
 refine SX1 (e:=⟨t,true,DA,a⟩) H8 hb λh36 ea' ec' H9=>?_
 have e:s.respond t a = { s with cu:=λt'=>if t' = t then none else s.cu t',ev:=s.ev ++ [⟨t,true,DA,a⟩] }:=by
  unfold R4.respond
  rw [hcu]
  show (if KY (c3 c) (c3 a) then _ else s)=_
  rw [if_pos hfit]
 rw [e] at k
 have H10:A7 h36 (ID X { s with cu:=λt'=>if t' = t then none else s.cu t',ev:=s.ev ++ [⟨t,true,DA,a⟩] }*(pt CB (oQ (Cc a).toArray 43)*R)):=T5.2 ⟨ea',ec',some m,hl,H9⟩
 exact k 0 h36 H10.drop2
end
end
section
set_option maxHeartbeats 1000000
open Mod
structure Sw1 (Inv:Nat->Mac->Prop) (calls:List (List Cl)) (j:Nat) (s:R4):Prop where
 inv:Inv j s.m
 th:s.m.th.length=calls.length
 nx:∀k,k < calls.length->0<=s.nx.getD k 0/\s.nx.getD k 0<=(calls.getD k []).length
 ev:s.ev.length<=2*j
 gap:0<=s.gap/\s.gap<=j
 idle:0<=s.idle/\s.idle<=j
 most:0<=s.most/\s.most<=j
structure Cx (calls:List (List Cl)):Prop where
 n:1<=calls.length/\calls.length<=6
 cl:∀l ∈ calls,l.length<=1000/\∀c ∈ l,CP c=true/\V c.key/\V c.val
theorem PB {c:Cl} (h:CP c=true):0<=c.op/\c.op<=2:=by
 unfold CP at h
 simp only [Bool.or_eq_true,Bool.and_eq_true,beq_iff_eq] at h
 omega
theorem SM9 (s:R4) (k:Int) (c:Cl):(s.invoke k c).m=s.m/\(s.invoke k c).nx=s.nx/\(s.invoke k c).ev.length<=s.ev.length+1/\(s.invoke k c).gap=s.gap/\(s.invoke k c).idle=s.idle/\(s.invoke k c).most=s.most:=by
 unfold R4.invoke
 split
 ·exact ⟨rfl,rfl,by simp,rfl,rfl,rfl⟩
 ·exact ⟨rfl,rfl,by omega,rfl,rfl,rfl⟩
theorem SN0 (s:R4) (k:Int) (a:Cl):(s.respond k a).m=s.m/\(s.respond k a).nx=s.nx/\(s.respond k a).ev.length<=s.ev.length+1/\(s.respond k a).gap=s.gap/\(s.respond k a).idle=s.idle/\(s.respond k a).most=s.most:=by
 unfold R4.respond
 split
 ·split
  ·exact ⟨rfl,rfl,by simp,rfl,rfl,rfl⟩
  ·exact ⟨rfl,rfl,by omega,rfl,rfl,rfl⟩
 ·exact ⟨rfl,rfl,by omega,rfl,rfl,rfl⟩
theorem SN1 (j:Nat) (n:Int) (h:0<=n/\n<=j) (hj:j < 100000):F5 (n+1)=n+1:=by unfold F5;omega
section
variable {K:kQ} {h:A2} {X:RX} {s:R4} {R:Hp} {calls:List (List Cl)} {B9:List Int}
theorem Sw2 (H:A7 h (ID X s*R)) {k:Nat} (hk:k < X.n):A3 h ⟨X.NB,k,none⟩=some (iQ (s.nx.getD k 0)):=by
 obtain ⟨ea,ec,mo,hl,H1⟩:=T5.1 H
 have hk2:k < s.nx.length:=by omega
 rw [E0 (H1.drop.drop.drop).at]
 simp [hk2,iv]
theorem Sw3 (H:A7 h (ID X s*R)) {k:Nat} (hk:k < X.n) {v:Int} {F:A2->Prop} (kk:∀h',A7 h' (ID X { s with nx:=s.nx.set k v }*R)->F h'):C4 h ⟨X.NB,k,none⟩ (iQ v) F:=by
 obtain ⟨ea,ec,mo,hl,H1⟩:=T5.1 H
 have hk2:k < s.nx.length:=by omega
 rw [Sp2] at H1
 refine CK (row:=s.nx.map iv) (i:=k) H1 (by simpa using hk2) trivial λh' H'=>kk h' ?_
 have e:(s.nx.map iv).set k (iQ v)=(s.nx.set k v).map iv:=by rw [List.map_set];try rfl
 rw [e,<- Sp2] at H'
 exact T5.2 ⟨ea,ec,mo,by simp [hl],H'⟩
theorem Iy (H:A7 h (ID X s*R)):∃ea en ec mo,h[X.RB]? = some (oQ (rnC X s.idle s.most s.gap ea en ec mo).toArray 78):=by
 obtain ⟨ea,ec,mo,hl,H1⟩:=T5.1 H
 exact ⟨ea,_,ec,mo,H1.at⟩
theorem PC (H:A7 h (ID X s*R)):∃Q':Hp,A7 h (Cu X.Q X.M X.f X.ins X.Ts s.m*(Q' * R))/\∀h' m' P,A7 h' (Cu X.Q X.M X.f X.ins X.Ts m' * (Q' * P))->A7 h' (ID X { s with m:=m' }*P):=by
 obtain ⟨ea,ec,mo,hl,H1⟩:=T5.1 H
 refine ⟨pt X.RB (oQ (rnC X s.idle s.most s.gap ea s.ev.length ec mo).toArray 78)*(F3 45 8 ea s.ev.length ec (s.ev.flatMap Fy)*(LP mo s.cu*pt X.NB (oQ (s.nx.map iv).toArray 3))),A7.ac H1 (by ac_rfl),λh' m' P H'=>?_⟩
 exact T5.2 ⟨ea,ec,mo,hl,A7.ac H' (by ac_rfl)⟩
theorem PD (C:Cx calls) (hn:X.n=calls.length) (hins:0<=X.ins/\X.ins<=100) (H:A7 h (ID X s*R)) (hS:∀h' P,A7 h' (P*R)->Sz h' X.ca X.cl X.pa X.pl calls B9) {k:Nat} (hk:k < calls.length) (hth:s.m.th.length=calls.length) (he:(F4 s.m k).fr = []) (hb:s.ev.length<=900000)
  (hnx:0<=s.nx.getD k 0/\s.nx.getD k 0<=(calls.getD k []).length)
  (k0:s.begin X.ins calls k=none->∀h',A7 h' (ID X s*R)->K (dQ false) h') (k1:∀s1,s.begin X.ins calls k=some s1->∀h',A7 h' (ID X s1*R)->K (dQ true) h') :
  A5 Tryz.prog 67 #[mP X.RB,iQ k] h K:=by
 refine call67 ?_
 unfold F67 g67 cf bd lS lP lI nP L1 dw3
 obtain ⟨ea,en,ec,mo,O⟩:=Iy H
 have scr:∀ {h':A2} {P:Hp},A7 h' (P*R)->Sz h' X.ca X.cl X.pa X.pl calls B9:=λH'=>hS _ _ H'
 have F0:=scr H
 have hcs:=F0.cs
 have cN:=Sw2 H (k:=k) (by omega)
 obtain ⟨ra,rc,⟨ad,ea2,hcr⟩,hrow⟩:=F0.row k hk
 refine sb ?_
 refine C5 O rfl ?_
 refine sb ?_
 refine ⟨by omega,by omega,?_⟩
 refine D3 cN ?_
 refine sb ?_
 refine C5 O rfl ?_
 rw [ea2]
 refine sb ?_
 refine ⟨by omega,by omega,?_⟩
 refine D3 hcr ?_
 refine sb ?_
 refine A4 (λc1=>?_) (λc1=>?_)
 ·have e:s.begin X.ins calls k=none:=by
   unfold R4.begin
   rw [if_pos (by omega)]
  exact k0 e h H
 refine C5 O rfl ?_
 rw [ea2]
 refine sb ?_
 refine ⟨by omega,by omega,?_⟩
 refine D3 hcr ?_
 refine sb ?_
 refine C5 O rfl ?_
 refine sb ?_
 refine ⟨by omega,by omega,?_⟩
 refine D3 cN ?_
 refine sb ?_
 refine ⟨by omega,by omega,?_⟩
 generalize hq:(s.nx.getD k 0).toNat=q at *
 have hqlt:q < (calls.getD k []).length:=by omega
 have hmem:calls.getD k [] ∈ calls:=by
  have:calls.getD k []=calls[k]:=by rw [List.getD_eq_getElem?_getD,List.getElem?_eq_getElem hk];rfl
  rw [this];exact List.getElem_mem hk
 have hcq:(calls.getD k []).getD q DA=(calls.getD k [])[q]:=by rw [List.getD_eq_getElem?_getD,List.getElem?_eq_getElem hqlt];rfl
 have hcB:=(C.cl _ hmem).2 _ (List.getElem_mem hqlt)
 have hlen:=(C.cl _ hmem).1
 have g0:=N3 Bm hqlt (j:=0) (by omega)
 have g1:=N3 Bm hqlt (j:=1) (by omega)
 have g2:=N3 Bm hqlt (j:=2) (by omega)
 rw [<- hcq] at g0 g1 g2 hcB
 have hbeg:s.begin X.ins calls k=some (R4.invoke { s with m:=s.m.setTh (s.m.th.set k ((F4 s.m k).push (X.ins+((calls.getD k []).getD q DA).op) [((calls.getD k []).getD q DA).key,((calls.getD k []).getD q DA).val])),nx:=s.nx.set k (s.nx.getD k 0+1) } k ((calls.getD k []).getD q DA)):=by
  unfold R4.begin
  rw [hq,if_neg (by omega)]
 generalize (calls.getD k []).getD q DA=cq at *
 obtain ⟨ad3,ea3,q0⟩:=hrow (q*3+0) (.int .i64 cq.op) g0
 subst ea3
 obtain ⟨_,ea4,q1⟩:=hrow (q*3+1) (.int .u32 cq.key) g1
 cases ea4
 obtain ⟨_,ea4,q2⟩:=hrow (q*3+2) (.int .u32 cq.val) g2
 cases ea4
 have aa:∀i,(ad3.add (q*3)).add i=ad3.add (q*3+i):=λi=>BH _ _ _
 rw [Nat.add_zero] at q0
 try simp only [B4,F2,Nat.reduceAdd,Int.reduceLE,Int.reduceLT,Int.reduceToNat,aa]
 refine D3 q0 (D3 q1 (D3 q2 ?_))
 repeat (first | refine ⟨E4 q0,?_⟩ | refine ⟨E4 q1,?_⟩ | refine ⟨E4 q2,?_⟩ | refine ⟨E4 cN,?_⟩ | refine ⟨E4 hcr,?_⟩ | refine ⟨E4 (E9 O rfl),?_⟩ | (rw [<- ea2];refine ⟨E4 (E9 O rfl),?_⟩))
 have H1:=H.push (oQ #[iQ 0,.int .u32 0,.int .u32 0] 41)
 generalize h.push (oQ #[iQ 0,.int .u32 0,.int .u32 0] 41)=h1 at *
 generalize h.size=LB at *
 refine F6 (vs:=Cc cq) H1.at rfl (by simp [Cc,J3]) λh2 w=>?_
 have H2:=H1.wr w.new w.old
 rw [D4] at H2
 clear H1 w
 obtain ⟨ea5,en5,ec5,mo5,O2⟩:=Iy H2
 have cN2:=Sw2 H2 (k:=k) (by omega)
 refine C5 O2 rfl ?_
 refine sb ?_
 refine ⟨by omega,by omega,?_⟩
 refine D3 cN2 ?_
 refine sb ?_
 refine ⟨by omega,by omega,?_⟩
 have hs1:F5 (s.nx.getD k 0+1)=s.nx.getD k 0+1:=by unfold F5;omega
 rw [hs1]
 refine Sw3 H2 (by omega) λh3 H3=>?_
 obtain ⟨ea6,en6,ec6,mo6,O3⟩:=Iy H3
 refine C5 O3 rfl ?_
 refine sb ?_
 have L3:=H3.at2
 refine C5 L3 rfl (C5 L3 rfl (C5 L3 rfl ?_))
 obtain ⟨Q',H4,re⟩:=PC H3
 obtain ⟨hok,hkey,hval⟩:=hcB
 refine A0 (Is H4 (i:=k) (c:=cq) hins ⟨hkey,hval⟩ (λhh=>by
  have hh2:(k:Int) < 0\/(s.m.th.length:Int)<=k:=hh
  omega) (λ_ hh=>by rw [hok] at hh;cases hh) (λ_ _ hh=>absurd he (by rw [Int.toNat_natCast] at hh;exact hh)) λ_ _ _ h5 H5=>?_)
 rw [Int.toNat_natCast] at H5
 have H6:=re _ _ _ H5
 refine sb ?_
 have L6:=H6.at2
 refine C5 L6 rfl (C5 L6 rfl (C5 L6 rfl ?_))
 have hC:=C.n
 refine A0 (MI H6 (by omega) hok (by show s.ev.length<=1000000;omega) λr h7 H7=>?_)
 refine sb ?_
 exact k1 _ hbeg h7 H7.drop2
variable {d:A9->A9} {W:A9->Prop} {Inv:Nat->Mac->Prop}
def SX2 (d:A9->A9) (X:RX) (R:Hp) (calls:List (List Cl)) (Inv:Nat->Mac->Prop) (j k:Nat) (s:R4) (vs:List Value) (h':A2):Prop:=(vs = [dQ true]/\s.pick d X.ins calls k = { s with idle:=s.idle+1 }/\A7 h' (ID X s*R))\/(∃s1:R4,vs = [dQ false]/\s.pick d X.ins calls k=s1.go d k/\Inv j s1.m/\s1.m.th.length=calls.length/\(∀k,k < calls.length->0<=s1.nx.getD k 0/\s1.nx.getD k 0<=(calls.getD k []).length)/\s1.ev.length<=2*j+1/\s1.gap=s.gap/\s1.idle=s.idle/\s1.most=s.most/\(F4 s1.m k).fr≠[]/\A7 h' (ID X s1*R))
theorem SV (D:DoC X.f d W) (G:LC d W X.ins Inv) (C:Cx calls) (hn:X.n=calls.length) (hins:0<=X.ins/\X.ins<=100) (H:A7 h (ID X s*R)) (hS:∀h' P,A7 h' (P*R)->Sz h' X.ca X.cl X.pa X.pl calls B9) {j k:Nat} (hk:k < calls.length) (hj:j < 100000) (O:Sw1 Inv calls j s)
  (kk:∀h',Sw1 Inv calls (j+1) (s.pick d X.ins calls k)->A7 h' (ID X (s.pick d X.ins calls k)*R)->K tQ h') :
  A5 Tryz.prog 34 #[mP X.RB,iQ k] h K:=by
 refine call34 ?_
 unfold F34 cf lP lI nP de3 L1
 have hk2:k < s.m.th.length:=by rw [O.th];exact hk
 have hC:=C.n
 refine ⟨SX2 d X R calls Inv j k s,?_,?_⟩
 ·obtain ⟨ea,en,ec,mo,O1⟩:=Iy H
  refine sb ?_
  refine C5 O1 rfl ?_
  refine sb ?_
  obtain ⟨Q',H2,re⟩:=PC H
  refine A0 (En H2 hk2 ?_)
  refine sb ?_
  refine C7 (λhb=>?_) (λhb=>?_)
  ·have he:(F4 s.m k).fr = []:=List.isEmpty_iff.1 (by simpa using hb)
   refine A0 (PD C hn hins H hS hk O.th he (by have:=O.ev;omega) (O.nx k hk) (λe h1 H1=>?_) λs1 e h1 H1=>?_)
   ·refine sb ?_
    refine .inl ⟨rfl,?_,H1⟩
    unfold R4.pick
    rw [Int.toNat_natCast,if_pos he,e]
   ·refine sb ?_
    refine .inr ⟨s1,rfl,?_,?_⟩
    ·unfold R4.pick
     rw [Int.toNat_natCast,if_pos he,e]
    ·unfold R4.begin at e
     split at e
     ·cases e
     rename_i hlt
     have e:=Option.some.inj e
     have hmem:calls.getD k [] ∈ calls:=by
      have:calls.getD k []=calls[k]:=by rw [List.getD_eq_getElem?_getD,List.getElem?_eq_getElem hk];rfl
      rw [this];exact List.getElem_mem hk
     have hqlt:(s.nx.getD k 0).toNat < (calls.getD k []).length:=by omega
     have hcq:(calls.getD k []).getD (s.nx.getD k 0).toNat DA=(calls.getD k [])[(s.nx.getD k 0).toNat]:=by rw [List.getD_eq_getElem?_getD,List.getElem?_eq_getElem hqlt];rfl
     have hcB:=(C.cl _ hmem).2 _ (List.getElem_mem hqlt)
     rw [<- hcq] at hcB
     generalize (calls.getD k []).getD (s.nx.getD k 0).toNat DA=cq at *
     obtain ⟨i1,i2,i3,i4,i5,i6⟩:=SM9 { s with m:=s.m.setTh (s.m.th.set k ((F4 s.m k).push (X.ins+cq.op) [cq.key,cq.val])),nx:=s.nx.set k (s.nx.getD k 0+1) } k cq
     rw [e] at i1 i2 i3 i4 i5 i6
     have hthr:F4 s1.m k=(F4 s.m k).push (X.ins+cq.op) [cq.key,cq.val]:=by rw [i1];exact GJ hk2
     refine ⟨?_,?_,?_,?_,i4,i5,i6,?_,H1⟩
     ·rw [i1]
      exact G.push j s.m k (F4 s.m k) cq O.inv (V6 hk2) he (PB hcB.1) hcB.2.1 hcB.2.2
     ·rw [i1]
      show (s.m.th.set k _).length=_
      rw [List.length_set];exact O.th
     ·intro k' hk'
      rw [i2]
      have:=O.nx k' hk'
      show 0<=(s.nx.set k _).getD k' 0/\(s.nx.set k _).getD k' 0<=_
      by_cases ek:k=k'
      ·subst ek
       rw [List.getD_eq_getElem?_getD,List.getElem?_set]
       split
       ·split
        ·simp only [Option.getD_some];omega
        ·simp only [Option.getD_none];omega
       ·rename_i hh;exact absurd rfl hh
      ·rw [List.getD_eq_getElem?_getD,List.getElem?_set_ne ek,<- List.getD_eq_getElem?_getD]
       exact this
     ·have:=O.ev
      have i3:s1.ev.length<=s.ev.length+1:=i3
      omega
     ·rw [hthr];unfold Mod.Thr.push;simp
  ·have hne:(F4 s.m k).fr≠[]:=λe=>by rw [e] at hb;cases hb
   refine .inr ⟨s,rfl,?_,O.inv,O.th,O.nx,by have:=O.ev;omega,rfl,rfl,rfl,hne,H⟩
   unfold R4.pick
   rw [Int.toNat_natCast,if_neg hne]
 rintro v10 g11 h12 (⟨e,ep,H1⟩ | ⟨s1,e,ep,hI1,ht1,hn1,hv1,hg1,hi1,hm1,hne1,H1⟩)
 ·cases e
  refine sb ?_
  obtain ⟨ea,ec,mo,hl,H2⟩:=T5.1 H1
  refine C5 H2.at rfl ?_
  refine sb ?_
  rw [SN1 j s.idle O.idle hj]
  refine H2.st (i:=2) rfl trivial λh18 H3=>?_
  rw [ep] at kk
  refine kk h18 ⟨G.mono _ _ O.inv,O.th,O.nx,by have:=O.ev;show s.ev.length<=_;omega,by have:=O.gap;show 0<=s.gap/\s.gap<=_;omega,by have:=O.idle;show 0<=s.idle+1/\s.idle+1<=_;omega,by have:=O.most;show 0<=s.most/\s.most<=_;omega⟩ (T5.2 ⟨ea,ec,mo,hl,H3⟩)
 ·cases e
  refine sb ?_
  obtain ⟨ea,en,ec,mo,O1⟩:=Iy H1
  refine C5 O1 rfl ?_
  refine sb ?_
  obtain ⟨Q',H2,re⟩:=PC H1
  have hk3:k < s1.m.th.length:=by omega
  obtain ⟨nn,z,hz,hs,hid,_,hI2⟩:=G.step j s1.m k _ hI1 hj (V6 hk3) hne1
  have hzs:S9 d ⟨s1.m.quiet,F4 s1.m k,k⟩=z:=Dz hz
  have hgo:s1.go d k=if z.t.fr = [] then { R4.respond { s1 with m:=z.m.setTh (s1.m.th.set k z.t) } k (Fz z.t) with gap:=0 } else { s1 with m:=z.m.setTh (s1.m.th.set k z.t),gap:=s1.gap+1,most:=max s1.most (s1.gap+1) }:=by
   unfold R4.go
   rw [hzs]
  have ht2:(z.m.setTh (s1.m.th.set k z.t)).th.length=calls.length:=by
   show (s1.m.th.set k z.t).length=_
   rw [List.length_set];exact ht1
  have og:=O.gap
  have oi:=O.idle
  have om:=O.most
  rw [ep,hgo] at kk
  refine A0 (JS D H2 (n:=nn) (z:=z) hk3 hne1 hz hs hid (λhne2 h3 H3=>?_) λhnil h3 H3=>?_)
  ·rw [if_neg hne2] at kk
   have H4:=re _ _ _ H3
   generalize z.m.setTh (s1.m.th.set k z.t)=m2 at *
   have H5:=H4.push (oQ #[iQ 0,.int .u32 0,.int .u32 0] 43)
   refine sb ?_
   refine Bk ?_
   refine sb ?_
   refine Ax rfl (E6 rfl (E6 rfl (E6 rfl ?_)))
   try simp only [B4,F2,Nat.reduceAdd,Int.reduceLE,Int.reduceLT,Int.reduceToNat]
   refine Bl ?_
   refine sb ?_
   generalize h3.push (oQ #[iQ 0,.int .u32 0,.int .u32 0] 43)=h4 at *
   generalize h3.size=AB at *
   refine F6 (vs:=[iQ 0,.int .u32 0,.int .u32 0]) H5.at rfl (by simp [J3]) λh5 w=>?_
   have H6:=(H5.wr w.new w.old).drop
   obtain ⟨ea,ec,mo,hl,H7⟩:=T5.1 H6
   refine C5 H7.at rfl ?_
   refine sb ?_
   rw [show F5 (s1.gap+1)=s1.gap+1 from SN1 j _ (by rw [hg1];exact og) hj]
   refine H7.st (i:=19) rfl trivial λh6 H8=>?_
   refine C5 H8.at rfl ?_
   refine sb ?_
   refine C5 H8.at rfl ?_
   refine sb ?_
   rw [Aw,Im]
   refine H8.st (i:=4) rfl trivial λh7 H9=>?_
   refine kk h7 ⟨hI2,ht2,hn1,by show s1.ev.length<=_;omega,by show 0<=s1.gap+1/\s1.gap+1<=_;omega,by show 0<=s1.idle/\s1.idle<=_;omega,by show 0<=max s1.most (s1.gap+1)/\max s1.most (s1.gap+1)<=_;omega⟩ (T5.2 ⟨ea,ec,mo,hl,H9⟩)
  ·rw [if_pos hnil] at kk
   have H4:=re _ _ _ H3
   generalize z.m.setTh (s1.m.th.set k z.t)=m2 at *
   have H5:=H4.push (oQ #[iQ 0,.int .u32 0,.int .u32 0] 43)
   refine sb ?_
   refine Bk ?_
   refine sb ?_
   refine Ax rfl (E6 rfl (E6 rfl (E6 rfl ?_)))
   try simp only [B4,F2,Nat.reduceAdd,Int.reduceLE,Int.reduceLT,Int.reduceToNat]
   refine Bl ?_
   refine sb ?_
   generalize h3.push (oQ #[iQ 0,.int .u32 0,.int .u32 0] 43)=h4 at *
   generalize h3.size=AB at *
   refine F6 (vs:=[iQ (Fz z.t).op,.int .u32 (Fz z.t).key,.int .u32 (Fz z.t).val]) H5.at rfl (by simp [J3]) λh5 w=>?_
   have H6:=H5.wr w.new w.old
   refine C5 H6.at rfl (C5 H6.at rfl (C5 H6.at rfl ?_))
   refine A0 (LR H6.drop (by omega) (by show s1.ev.length<=1000000;omega) λr h7 H7=>?_)
   refine sb ?_
   obtain ⟨r1,r2,r3,r4,r5,r6⟩:=SN0 { s1 with m:=m2 } k (Fz z.t)
   generalize R4.respond { s1 with m:=m2 } k (Fz z.t)=s2 at *
   obtain ⟨ea,ec,mo,hl,H8⟩:=T5.1 H7
   refine H8.st (i:=19) rfl trivial λh8 H9=>?_
   have r3:s2.ev.length<=s1.ev.length+1:=r3
   have r5:s2.idle=s1.idle:=r5
   have r6:s2.most=s1.most:=r6
   refine kk h8 ⟨by show Inv _ s2.m;rw [r1];exact hI2,by show s2.m.th.length=_;rw [r1];exact ht2,by show ∀k,k < calls.length->0<=s2.nx.getD k 0/\s2.nx.getD k 0<=_;rw [r2];exact hn1,by show s2.ev.length<=_;omega,⟨by show (0:Int)<=0;omega,by show (0:Int)<=_;omega⟩,by show 0<=s2.idle/\s2.idle<=_;omega,by show 0<=s2.most/\s2.most<=_;omega⟩ (T5.2 ⟨ea,ec,mo,hl,H9⟩)
end
end
end Go.Proofs.YtahpbclnkofhfaaGreat
