/- Part 13 of what the proofs of this seat rest on: see the last text of the claim. -/
import Derived.Test.YtglgifgoojncpaaGreatQfd98ae3fbc95
set_option linter.unusedSimpArgs false
set_option linter.unusedVariables false
set_option linter.ambiguousOpen false
set_option maxRecDepth 20000
namespace Go.Proofs.YtglgifgoojncpaaGreat
section
open Mod
section
variable {K : Value → Heap → Prop} {h : Heap} {M : Nat} {Ts : List Nat} {R : Hp} {d : Run → Run} {W : Run → Prop} {ins : Int} {Inv : Nat → Mac → Prop} {m : Mac}
theorem inv_le (G : GoodI d W ins Inv) {i : Nat} : ∀ {j : Nat}, i ≤ j → Inv i m → Inv j m
  | 0, h, H => by
    have : i = 0 := by omega
    subst this; exact H
  | j + 1, h, H => by
    by_cases e : i = j + 1
    · subst e; exact H
    · exact G.mono j m (inv_le G (by omega) H)
theorem thrAt_some {m : Mac} {k : Nat} (h : k < m.th.length) : m.th[k]? = some (thrAt m k) := by
  unfold thrAt; rw [List.getElem?_eq_getElem h]; simp [h]
theorem thrAt_set {m z : Mac} {k : Nat} {t : Thr} (h : k < m.th.length) : thrAt (z.setTh (m.th.set k t)) k = t := by
  unfold thrAt Mod.Mac.setTh
  rw [List.getD_eq_getElem?_getD]
  simp [h]
theorem al1 {i n N : Nat} (h : N - i = n + 1) : i + 1 ≤ N := by omega
theorem al4 {i n N : Nat} (h : N - i = n + 1) : N - (i + 1) = n := by omega
theorem al2 (i : Nat) (h : i < 100000) : ((100000 : Int) - ((i + 1 : Nat) : Int)).toNat < ((100000 : Int) - (i : Int)).toNat := by omega
theorem al3 {i i0 n N : Nat} (h : N - i = n + 1) (h2 : i0 + N ≤ 90000) : i < 100000 := by omega
theorem al5 {i i0 n N : Nat} (h : N - i = n + 1) (h2 : i0 + N ≤ 90000) : i0 + i < 100000 := by omega
theorem al6 {i i0 n N : Nat} (h : N - i = n + 1) : i0 + i + 1 ≤ i0 + N := by omega
theorem s64_nat2 (j : Nat) (h : j < 100000) : s64 ((j : Int) + 1) = ((j + 1 : Nat) : Int) := by unfold s64; omega
theorem setTh_same {m : Mac} {k : Nat} (h : k < m.th.length) : m.setTh (m.th.set k (thrAt m k)) = m := by
  have ht := thrAt_some h
  unfold Mod.Mac.setTh
  have : m.th.set k (thrAt m k) = m.th := by
    apply List.ext_getElem (by simp)
    intro i h1 h2
    rw [List.getElem_set]
    split
    · rename_i e; subst e; exact (List.getElem?_eq_some_iff.1 ht).2.symm ▸ rfl
    · rfl
  rw [this]
theorem alone_call {f : Nat} (D : DoC f d W) (G : GoodI d W ins Inv) (hins : 0 ≤ ins ∧ ins ≤ 100) {k T i0 N : Nat} {t : Thr} {c : Cl} {m' : Mac} (H : Sat h (machS M Ts m * R)) (hT : Ts[k]? = some T) (ht : m.th[k]? = some t) (he : t.fr = []) (hI : Inv i0 m) (hi0 : i0 + N ≤ 90000)
    (hc : (0 ≤ c.op ∧ c.op ≤ 2) ∧ V c.key ∧ V c.val) (ha : alone d k N (m.setTh (m.th.set k (t.push (ins + c.op) [c.key, c.val]))) = some m')
    (kk : ∀ h', Inv (i0 + N) m' → m'.th.length = m.th.length → (thrAt m' k).fr = [] → Sat h' (machS M Ts m' * R) → K (.tuple #[.agg #[.int .i64 (ansOf (thrAt m' k)).op, .int .u32 (ansOf (thrAt m' k)).key, .int .u32 (ansOf (thrAt m' k)).val], .bool true]) h') :
    CallH Tryz.prog 21 #[.agg #[.func (.func f) #[] #[], .int .i64 ins], mP M, .int .i64 k, .agg #[.int .i64 c.op, .int .u32 c.key, .int .u32 c.val]] h K := by
  refine call21 ?_
  unfold F21 g21 cf lI
  have hlt : k < m.th.length := (List.getElem?_eq_some_iff.1 ht).1
  have H1 := H.push (.cells #[.func (.func f) #[] #[], .int .i64 ins] 37)
  generalize h.push (.cells #[.func (.func f) #[] #[], .int .i64 ins] 37) = h1 at *
  generalize h.size = QB at *
  have H2 := H1.push (.cells (clc c).toArray 53)
  rw [show (.cells #[.int .i64 c.op, .int .u32 c.key, .int .u32 c.val] 53 : Obj) = .cells (clc c).toArray 53 from rfl]
  generalize h1.push (.cells (clc c).toArray 53) = h2 at *
  generalize h1.size = CB at *
  have H3 := H2.push (.cells (clc cl0).toArray 49)
  rw [show (.cells #[.int .i64 0, .int .u32 0, .int .u32 0] 49 : Obj) = .cells (clc cl0).toArray 49 from rfl]
  generalize h2.push (.cells (clc cl0).toArray 49) = h3 at *
  generalize h2.size = AB at *
  have H4 : Sat h3 (machS M Ts m * (pt QB (.cells #[.func (.func f) #[] #[], .int .i64 ins] 37) * (pt CB (.cells (clc c).toArray 53) * (pt AB (.cells (clc cl0).toArray 49) * R)))) := Sat.ac H3 (by ac_rfl)
  refine callV_fn (thread_call H4 (fun hh => by omega) fun T2 _ hT2 => ?_)
  rw [Int.toNat_natCast, hT] at hT2
  cases hT2
  try simp only [nilC, bsx, Nat.reduceAdd, Int.reduceLE, Int.reduceLT, Int.reduceToNat]
  obtain ⟨⟨op0, op2⟩, hkey, hval⟩ := hc
  have hu1 : Mod.u64 c.key = c.key := by have := hkey.1; have := hkey.2; unfold Mod.u64; omega
  have hu2 : Mod.u64 c.val = c.val := by have := hval.1; have := hval.2; unfold Mod.u64; omega
  have hu3 : s64 (ins + c.op) = ins + c.op := by unfold s64; omega
  refine ldR H4.at2 rfl ?_
  try simp only [nilC, bsx, Nat.reduceAdd, Int.reduceLE, Int.reduceLT, Int.reduceToNat]
  refine ldR H4.at3 rfl ?_
  try simp only [nilC, bsx, Nat.reduceAdd, Int.reduceLE, Int.reduceLT, Int.reduceToNat]
  refine ldR H4.at3 rfl ?_
  try simp only [nilC, bsx, Nat.reduceAdd, Int.reduceLE, Int.reduceLT, Int.reduceToNat]
  refine ldR H4.at3 rfl ?_
  try simp only [nilC, bsx, Nat.reduceAdd, Int.reduceLE, Int.reduceLT, Int.reduceToNat, hu1, hu2, hu3]
  obtain ⟨tv, Q, H5, re⟩ := machS_take H4 hT ht
  refine callV_fn (rPushN H5 [c.key, c.val] rfl (two_U ⟨hkey.1, by have := hkey.2; omega⟩ ⟨hval.1, by have := hval.2; omega⟩) (by omega) (by show t.fr.length < _; rw [he]; decide) fun h4 b o _ _ H6 => ?_)
  have H7 := re h4 _ _ rfl (RunS.none H6)
  have hI1 := G.push i0 m k t c hI ht he ⟨op0, op2⟩ hkey hval
  have hm0 : (thrAt (m.setTh (m.th.set k (t.push (ins + c.op) [c.key, c.val]))) k).fr ≠ [] := by
    rw [thrAt_set hlt]; unfold Mod.Thr.push; simp
  have hl0 : (m.setTh (m.th.set k (t.push (ins + c.op) [c.key, c.val]))).th.length = m.th.length := by
    show (m.th.set k _).length = _; rw [List.length_set]
  have H7 : Sat h4 (machS M Ts (m.setTh (m.th.set k (t.push (ins + c.op) [c.key, c.val]))) * (pt QB (.cells #[.func (.func f) #[] #[], .int .i64 ins] 37) * (pt CB (.cells (clc c).toArray 53) * (pt AB (.cells (clc cl0).toArray 49) * R)))) := H7
  generalize m.setTh (m.th.set k (t.push (ins + c.op) [c.key, c.val])) = m0 at *
  try simp only [nilC, bsx, Nat.reduceAdd, Int.reduceLE, Int.reduceLT, Int.reduceToNat]
  refine ⟨fun vs h' => ∃ (i : Nat) (w : Value) (mi : Mac), vs = [w, .int .i64 i] ∧ i ≤ N ∧ alone d k (N - i) mi = some m' ∧ Inv (i0 + i) mi ∧ mi.th.length = m.th.length ∧ (thrAt mi k).fr ≠ [] ∧ Sat h' (machS M Ts mi * (pt QB (.cells #[.func (.func f) #[] #[], .int .i64 ins] 37) * (pt CB (.cells (clc c).toArray 53) * (pt AB (.cells (clc cl0).toArray 49) * R)))), fun vs _ => match vs with | [_, .int _ i] => (100000 - i).toNat | _ => 0, ⟨0, _, m0, rfl, Nat.zero_le _, ha, hI1, hl0, hm0, H7⟩, ?_⟩
  rintro v21 v22 g23 h24 ⟨i, w, mi, e, hi, hai, hIi, hli, hfi, H8⟩
  cases e
  try simp only [nilC, bsx, Nat.reduceAdd, Int.reduceLE, Int.reduceLT, Int.reduceToNat]
  have hN : ∃ n, N - i = n + 1 := by
    cases hNi : N - i with
    | zero => rw [hNi] at hai; unfold alone at hai; cases hai
    | succ n => exact ⟨n, rfl⟩
  obtain ⟨n, hn⟩ := hN
  rw [hn] at hai
  unfold alone at hai
  have hfl : mi.fault = false := by
    cases hh : mi.fault with
    | false => rfl
    | true => rw [hh] at hai; simp at hai
  rw [hfl] at hai
  simp only [Bool.false_eq_true, if_false] at hai
  refine ⟨fun vs h' => vs = [.bool true] ∧ Sat h' (machS M Ts mi * (pt QB (.cells #[.func (.func f) #[] #[], .int .i64 ins] 37) * (pt CB (.cells (clc c).toArray 53) * (pt AB (.cells (clc cl0).toArray 49) * R)))), ?_, ?_⟩
  · have e1 : decide ((i : Int) < 100000) = true := decide_eq_true (by have := al3 hn hi0; exact Int.ofNat_lt.2 this)
    rw [e1]
    simp only [ifB_true]
    obtain ⟨a, cc, hl, H9⟩ := machS_iff.1 H8
    refine callV_fn (fault_call H9 fun h' H10 => ?_)
    rw [hfl]
    try simp only [nilC, bsx, Nat.reduceAdd, Int.reduceLE, Int.reduceLT, Int.reduceToNat]
    exact machS_iff.2 ⟨a, cc, hl, H10⟩
  rintro v30 g31 h32 ⟨e, H9⟩
  cases e
  try simp only [nilC, bsx, Nat.reduceAdd, Int.reduceLE, Int.reduceLT, Int.reduceToNat]
  refine ldR H9.at2 rfl ?_
  have hlt2 : k < mi.th.length := by omega
  obtain ⟨nn, z, hb, hs, hid, hzt, hI2⟩ := G.step (i0 + i) mi k _ hIi (al5 hn hi0) (thrAt_some hlt2) hfi
  refine callV_fn (stepLoop_call D H9 (n := nn) (z := z) (i := k) (by omega) (by rw [Int.toNat_natCast]; exact thrAt_some hlt2) hb hs hid fun h' H10 => ?_)
  rw [Int.toNat_natCast] at H10
  have hstep : mi.step k d 40 = some (!z.t.fr.isEmpty, z.m.setTh (mi.th.set k z.t)) := by
    unfold Mod.Mac.step at hai ⊢
    rw [if_neg (by omega), Int.toNat_natCast] at hai ⊢
    cases hb4 : Mod.bits d 40 ⟨{ mi with acted := false }, mi.th.getD k (thr0 mi.p.c), k⟩ with
    | none => rw [hb4] at hai; cases hai
    | some y =>
      have ey : z = y := bits_det hb hb4
      subst ey
      show some (!z.t.fr.isEmpty, { z.m with th := z.m.th.set k z.t }) = _
      rw [hzt]
      rfl
  rw [hstep] at hai
  try simp only [nilC, bsx, Nat.reduceAdd, Int.reduceLE, Int.reduceLT, Int.reduceToNat]
  cases hzf : z.t.fr with
  | nil =>
    rw [hzf] at hai
    have hm' : z.m.setTh (mi.th.set k z.t) = m' := Option.some.inj hai
    rw [hm'] at H10 hI2
    have hthr : thrAt m' k = z.t := by rw [← hm']; exact thrAt_set hlt2
    have hl9 : m'.th.length = m.th.length := by
      rw [← hm']; show (mi.th.set k z.t).length = _; rw [List.length_set]; exact hli
    have hlt9 : k < m'.th.length := by omega
    obtain ⟨tv2, Q2, H11, re2⟩ := machS_take H10 hT (thrAt_some hlt9)
    refine ifB_mk (fun _ => ?_) (fun hh => by simp at hh)
    refine callV_fn (answer_call (RunS.thr H11) fun h5 H12 => ?_)
    have H13 := re2 h5 ⟨m', thrAt m' k, k⟩ (pt QB (.cells #[.func (.func f) #[] #[], .int .i64 ins] 37) * (pt CB (.cells (clc c).toArray 53) * (pt AB (.cells (clc cl0).toArray 49) * R))) rfl (RunS.ofThr H12)
    have H13 : Sat h5 (machS M Ts (m'.setTh (m'.th.set k (thrAt m' k))) * (pt QB (.cells #[.func (.func f) #[] #[], .int .i64 ins] 37) * (pt CB (.cells (clc c).toArray 53) * (pt AB (.cells (clc cl0).toArray 49) * R)))) := H13
    rw [setTh_same hlt9] at H13
    try simp only [nilC, bsx, Nat.reduceAdd, Int.reduceLE, Int.reduceLT, Int.reduceToNat]
    refine sizeH_mk rfl (elemH_mk rfl (elemH_mk rfl (elemH_mk rfl ?_)))
    rw [rot4] at H13
    have O := H13.at
    refine st3 (stN_full (vs := clc (ansOf (thrAt m' k))) H13.at rfl (by simp [clc, oneC]) fun h6 w => ?_)
    have H14 := H13.wr w.new w.old
    refine ldR H14.at rfl (ldR H14.at rfl (ldR H14.at rfl ?_))
    rw [← rot4] at H14
    exact kk h6 (inv_le G (al6 hn) hI2) hl9 (by rw [hthr, hzf]) H14.drop2.drop2.drop2
  | cons a l =>
    rw [hzf] at hai
    have hai : alone d k n (z.m.setTh (mi.th.set k z.t)) = some m' := hai
    refine ifB_mk (fun hh => by simp at hh) (fun _ => ?_)
    have hb8 : i < 100000 := al3 hn hi0
    have e2 := s64_nat2 i hb8
    rw [e2]
    refine ⟨⟨i + 1, _, _, rfl, al1 hn, by rw [al4 hn]; exact hai, hI2, ?_, ?_, H10⟩, ?_⟩
    · show (mi.th.set k z.t).length = _; rw [List.length_set]; exact hli
    · rw [thrAt_set hlt2, hzf]; simp
    · exact al2 i hb8
end
end
section
open Mod
def lives3 (d : Run → Run) (ins : Int) (m : Mac) : Option (List Int × List Int × List Int) := do
  let (a, m) ← aloneC d ins m 0 5 1
  let (b, m) ← aloneC d ins m 0 3 2
  let (c, m) ← aloneC d ins m 1 0 0
  pure (a, b, c)
theorem aloneC_some {d : Run → Run} {ins : Int} {m m' : Mac} {op key val : Int} {r : List Int} (h : aloneC d ins m op key val = some (r, m')) :
    alone d 0 2000 (m.setTh (m.th.set 0 ((thrAt m 0).push (ins + op) [key, val]))) = some m' ∧ (thrAt m' 0).ret = r := by
  unfold aloneC at h
  cases ha : alone d 0 2000 (pushM m 0 (ins + op) [key, val]) with
  | none => rw [ha] at h; cases h
  | some y =>
    rw [ha] at h
    have h := Option.some.inj h
    obtain ⟨h1, h2⟩ := Prod.mk.inj h
    subst h2
    exact ⟨ha, h1⟩
theorem lives3_parts {d : Run → Run} {ins : Int} {m : Mac} {a b c : List Int} (h : lives3 d ins m = some (a, b, c)) : ∃ m1 m2 m3, (alone d 0 2000 (m.setTh (m.th.set 0 ((thrAt m 0).push (ins + 0) [5, 1]))) = some m1 ∧ (thrAt m1 0).ret = a) ∧ (alone d 0 2000 (m1.setTh (m1.th.set 0 ((thrAt m1 0).push (ins + 0) [3, 2]))) = some m2 ∧ (thrAt m2 0).ret = b) ∧ (alone d 0 2000 (m2.setTh (m2.th.set 0 ((thrAt m2 0).push (ins + 1) [0, 0]))) = some m3 ∧ (thrAt m3 0).ret = c) := by
  unfold lives3 at h
  cases h1 : aloneC d ins m 0 5 1 with
  | none => rw [h1] at h; cases h
  | some p1 =>
    obtain ⟨r1, m1⟩ := p1
    cases h2 : aloneC d ins m1 0 3 2 with
    | none => simp [h1, h2] at h
    | some p2 =>
      obtain ⟨r2, m2⟩ := p2
      cases h3 : aloneC d ins m2 1 0 0 with
      | none => simp [h1, h2, h3] at h
      | some p3 =>
        obtain ⟨r3, m3⟩ := p3
        simp [h1, h2, h3] at h
        obtain ⟨rfl, rfl, rfl⟩ := h
        exact ⟨m1, m2, m3, aloneC_some h1, aloneC_some h2, aloneC_some h3⟩
section
variable {K : Value → Heap → Prop} {h : Heap} {R : Hp} {d : Run → Run} {W : Run → Prop} {Inv : Nat → Mac → Prop}
theorem st2 {h : Heap} {b : Nat} {v0 v1 : Value} {K : Heap → Prop} (H : stN h ⟨b, 0, none⟩ 0 [v0, v1] K) : stH h ⟨b, 0, none⟩ v0 fun h => stH h ⟨b, 1, none⟩ v1 K := H
theorem ans_guard : Tryz.prog.eqGuardType Tryz.prog.depth 49 = false := by kernel_rfl
theorem ans_eqv : eqv Tryz.prog 10000 49 (.agg #[.int .i64 2, .int .u32 3, .int .u32 2]) (.agg #[.int .i64 2, .int .u32 3, .int .u32 2]) = some true := by kernel_rfl
theorem answer_eqv {F : Bool → Prop} (k : F true) : eqvH Tryz.prog 49 (.agg #[.int .i64 2, .int .u32 3, .int .u32 2]) (.agg #[.int .i64 2, .int .u32 3, .int .u32 2]) F := by
  unfold eqvH
  rw [ans_guard]
  show (match eqv Tryz.prog 10000 49 (.agg #[.int .i64 2, .int .u32 3, .int .u32 2]) (.agg #[.int .i64 2, .int .u32 3, .int .u32 2]) with | some b => F b | none => False)
  rw [ans_eqv]
  exact k
theorem queue28_call (H : Sat h R) (k : ∀ h', Sat h' R → K (.agg #[.func (.func 28) #[] #[], .int .i64 31]) h') : CallH Tryz.prog 18 #[] h K := by
  refine call18 ?_
  unfold F18
  have H1 := H.push (.cells #[.nilFunc, .int .i64 0] 37)
  generalize h.push (.cells #[.nilFunc, .int .i64 0] 37) = h1 at *
  generalize h.size = QB at *
  refine st2 (stN_full (vs := [.func (.func 28) #[] #[], .int .i64 31]) H1.at rfl (by simp [oneC]) fun h2 w => ?_)
  have H2 := H1.wr w.new w.old
  exact ldR H2.at rfl (ldR H2.at rfl (k h2 H2.drop))
theorem lives28_call (D : DoC 28 lindenDo W) (G : GoodI lindenDo W 31 Inv) (hI : Inv 0 (macNew ⟨2, 1, 6, 3, 1, 1, 1⟩ [] true)) (H : Sat h R) (k : ∀ h', Sat h' R → K (.bool true) h') :
    CallH Tryz.prog 16 #[] h K := by
  refine call16 ?_
  unfold F16 cf lI
  have hl : lives3 lindenDo 31 (macNew ⟨2, 1, 6, 3, 1, 1, 1⟩ [] true) = some ([0, 0, 0], [0, 0, 0], [2, 3, 2]) := lives28_eq
  obtain ⟨m1, m2, m3, ⟨a1, r1⟩, ⟨a2, r2⟩, ⟨a3, r3⟩⟩ := lives3_parts hl
  refine callV_fn (coreNew_call (c := ⟨2, 1, 6, 3, 1, 1, 1⟩) (a := none) (cc := 0) (bs := []) H (fun _ _ _ => Sees.nil _ _) (by simp) (by simp) (fun hh => by simp [okC] at hh) fun _ h1 M Ts H1 => ?_)
  obtain ⟨ta, tc, ⟨hTl, _⟩, _⟩ := machS_iff.1 H1
  have hth0 : (macNew ⟨2, 1, 6, 3, 1, 1, 1⟩ [] true).th = [thr0 ⟨2, 1, 6, 3, 1, 1, 1⟩] := rfl
  generalize hm0 : macNew ⟨2, 1, 6, 3, 1, 1, 1⟩ [] true = m0 at *
  have hl0 : m0.th.length = 1 := by rw [hth0]; rfl
  obtain ⟨T, hT⟩ : ∃ T, Ts[0]? = some T := ⟨_, List.getElem?_eq_getElem (by omega)⟩
  have he0 : (thrAt m0 0).fr = [] := by unfold thrAt; rw [hth0]; rfl
  try simp only [nilC, bsx, Nat.reduceAdd, Int.reduceLE, Int.reduceLT, Int.reduceToNat]
  refine elem20' ?_
  try simp only [nilC, bsx, Nat.reduceAdd, Int.reduceLE, Int.reduceLT, Int.reduceToNat]
  refine elem21' ?_
  try simp only [nilC, bsx, Nat.reduceAdd, Int.reduceLE, Int.reduceLT, Int.reduceToNat]
  refine callV_fn (queue28_call H1 fun h2 H2 => ?_)
  try simp only [nilC, bsx, Nat.reduceAdd, Int.reduceLE, Int.reduceLT, Int.reduceToNat]
  refine sizeH_mk rfl (elemH_mk rfl (elemH_mk rfl ?_))
  have H3 := H2.push (.cells #[.nilFunc, .int .i64 0] 37)
  generalize h2.push (.cells #[.nilFunc, .int .i64 0] 37) = h3 at *
  generalize h2.size = QB at *
  refine st2 (stN_full (vs := [.func (.func 28) #[] #[], .int .i64 31]) H3.at rfl (by simp [oneC]) fun h4 w => ?_)
  have H4 := H3.wr w.new w.old
  clear H1 H2 H3 w
  rw [star_left] at H4
  refine ldR H4.at2 rfl (ldR H4.at2 rfl ?_)
  have g1 : ∀ (r : List Int) (a b c : Int), r = [a, b, c] → r.getD 0 0 = a ∧ r.getD 1 0 = b ∧ r.getD 2 0 = c := fun r a b c e => by subst e; exact ⟨rfl, rfl, rfl⟩
  have an : ∀ (m : Mac) (a b c : Int), (thrAt m 0).ret = [a, b, c] → ansOf (thrAt m 0) = ⟨s64 a, u32 b, u32 c⟩ := fun m a b c e => by unfold ansOf; rw [e]; rfl
  refine callV_fn (alone_call (k := 0) (i0 := 0) (N := 2000) (c := ⟨0, 5, 1⟩) D G (by omega) H4 hT (thrAt_some (by omega)) he0 hI (by omega) ⟨⟨by decide, by decide⟩, ⟨by decide, by decide⟩, ⟨by decide, by decide⟩⟩ a1 fun h5 hI1 hl1 he1 H5 => ?_)
  rw [an m1 _ _ _ r1]
  try simp only [nilC, bsx, Nat.reduceAdd, Int.reduceLE, Int.reduceLT, Int.reduceToNat]
  refine elem20' ?_
  try simp only [nilC, bsx, Nat.reduceAdd, Int.reduceLE, Int.reduceLT, Int.reduceToNat]
  refine sizeH_mk rfl (elemH_mk rfl (elemH_mk rfl (elemH_mk rfl ?_)))
  try simp only [nilC, bsx, Nat.reduceAdd, Int.reduceLE, Int.reduceLT, Int.reduceToNat]
  refine elem21' ?_
  try simp only [nilC, bsx, Nat.reduceAdd, Int.reduceLE, Int.reduceLT, Int.reduceToNat]
  have H6 := H5.push (.cells #[.int .i64 0, .int .u32 0, .int .u32 0] 49)
  generalize h5.push (.cells #[.int .i64 0, .int .u32 0, .int .u32 0] 49) = h6 at *
  generalize h5.size = A1 at *
  refine st3 (stN_full (vs := [.int .i64 (s64 0), .int .u32 (u32 0), .int .u32 (u32 0)]) H6.at rfl (by simp [oneC]) fun h7 w => ?_)
  have H7 := H6.wr w.new w.old
  clear H4 H5 H6 w
  rw [star_left] at H7
  refine ldR H7.at3 rfl (ldR H7.at3 rfl ?_)
  refine callV_fn (alone_call (k := 0) (i0 := 0 + 2000) (N := 2000) (c := ⟨0, 3, 2⟩) D G (by omega) H7 hT (thrAt_some (by omega)) he1 hI1 (by omega) ⟨⟨by decide, by decide⟩, ⟨by decide, by decide⟩, ⟨by decide, by decide⟩⟩ a2 fun h8 hI2 hl2 he2 H8 => ?_)
  rw [an m2 _ _ _ r2]
  try simp only [nilC, bsx, Nat.reduceAdd, Int.reduceLE, Int.reduceLT, Int.reduceToNat]
  refine elem20' ?_
  try simp only [nilC, bsx, Nat.reduceAdd, Int.reduceLE, Int.reduceLT, Int.reduceToNat]
  refine sizeH_mk rfl (elemH_mk rfl (elemH_mk rfl (elemH_mk rfl ?_)))
  try simp only [nilC, bsx, Nat.reduceAdd, Int.reduceLE, Int.reduceLT, Int.reduceToNat]
  refine elem21' ?_
  try simp only [nilC, bsx, Nat.reduceAdd, Int.reduceLE, Int.reduceLT, Int.reduceToNat]
  have H9 := H8.push (.cells #[.int .i64 0, .int .u32 0, .int .u32 0] 49)
  generalize h8.push (.cells #[.int .i64 0, .int .u32 0, .int .u32 0] 49) = h9 at *
  generalize h8.size = A2 at *
  refine st3 (stN_full (vs := [.int .i64 (s64 0), .int .u32 (u32 0), .int .u32 (u32 0)]) H9.at rfl (by simp [oneC]) fun h10 w => ?_)
  have H10 := H9.wr w.new w.old
  clear H7 H8 H9 w
  rw [star_left] at H10
  have HQ10 := (H10.drop.drop.drop).at
  refine ldR HQ10 rfl (ldR HQ10 rfl ?_)
  refine callV_fn (alone_call (k := 0) (i0 := 0 + 2000 + 2000) (N := 2000) (c := ⟨1, 0, 0⟩) D G (by omega) H10 hT (thrAt_some (by omega)) he2 hI2 (by omega) ⟨⟨by decide, by decide⟩, ⟨by decide, by decide⟩, ⟨by decide, by decide⟩⟩ a3 fun h11 hI3 hl3 he3 H11 => ?_)
  rw [an m3 _ _ _ r3]
  try simp only [nilC, bsx, Nat.reduceAdd, Int.reduceLE, Int.reduceLT, Int.reduceToNat]
  refine elem20' ?_
  try simp only [nilC, bsx, Nat.reduceAdd, Int.reduceLE, Int.reduceLT, Int.reduceToNat]
  refine sizeH_mk rfl (elemH_mk rfl (elemH_mk rfl (elemH_mk rfl ?_)))
  try simp only [nilC, bsx, Nat.reduceAdd, Int.reduceLE, Int.reduceLT, Int.reduceToNat]
  refine elem21' ?_
  try simp only [nilC, bsx, Nat.reduceAdd, Int.reduceLE, Int.reduceLT, Int.reduceToNat]
  have H12 := H11.push (.cells #[.int .i64 0, .int .u32 0, .int .u32 0] 49)
  generalize h11.push (.cells #[.int .i64 0, .int .u32 0, .int .u32 0] 49) = h12 at *
  generalize h11.size = A3 at *
  refine st3 (stN_full (vs := [.int .i64 (s64 2), .int .u32 (u32 3), .int .u32 (u32 2)]) H12.at rfl (by simp [oneC]) fun h13 w => ?_)
  have H13 := H12.wr w.new w.old
  clear H10 H11 H12 w
  have O3 := H13.at
  have O2 := (H13.drop.drop).at
  have O1 := (H13.drop.drop.drop).at
  have z0 : s64 0 = 0 := by decide
  have z1 : ((0 : Int) == 0) = true := by decide
  refine ldR O1 rfl ?_
  try simp only [nilC, bsx, Nat.reduceAdd, Int.reduceLE, Int.reduceLT, Int.reduceToNat, z0, z1]
  refine ldR O2 rfl ?_
  try simp only [nilC, bsx, Nat.reduceAdd, Int.reduceLE, Int.reduceLT, Int.reduceToNat, z0, z1]
  refine ldR O3 rfl (ldR O3 rfl (ldR O3 rfl ?_))
  have z2 : s64 2 = 2 := by decide
  have z3 : u32 3 = 3 := by decide
  have z4 : u32 2 = 2 := by decide
  try simp only [nilC, bsx, Nat.reduceAdd, Int.reduceLE, Int.reduceLT, Int.reduceToNat, z2, z3, z4]
  exact answer_eqv (k h13 H13.drop.drop.drop.drop.drop)
end
end
section

end
section
theorem right_call {K : Value → Heap → Prop} {h : Heap} (c : Cf) (k1 : c.Right → ∀ h', Old h.size h h' → K (.bool true) h') (k0 : ¬ c.Right → ∀ h', Old h.size h h' → K (.bool false) h') :
    CallH Tryz.prog 19 #[.agg c.vals] h K := by
  refine call19 ?_
  unfold F19 g19 cf ce lI
  have p1 := pushed h c.vals 23
  rw [show h.push (.cells #[.int .i64 c.a, .int .i64 c.t, .int .i64 c.n, .int .i64 c.l, .int .i64 c.b, .int .i64 c.p, .int .i64 c.s] 23) = h.push (.cells c.vals 23) from rfl]
  generalize h.push (.cells c.vals 23) = h1 at *
  have o1 := p1.toOld
  have c1 := p1.new
  refine ⟨fun vs h' => ∃ v1 v2 v3 v4 v5 v6 b, vs = [v1, v2, v3, v4, v5, v6, .bool b] ∧ h' = h1 ∧ (b = true → ¬ c.Right) ∧ (b = false → 0 ≤ c.a ∧ c.a ≤ 2 ∧ 1 ≤ c.t ∧ c.t ≤ 6 ∧ 1 ≤ c.n ∧ c.n ≤ 64 ∧ 1 ≤ c.l ∧ c.l ≤ 6), ?_, ?_⟩
  · refine ldR c1 rfl ?_
    simp only [asInt_int]
    refine ifB_dec (fun q => ⟨_, _, _, _, _, _, _, rfl, by trivial, fun _ r => by have := r.a; omega, fun e => by cases e⟩) fun q1 => ?_
    refine ldR c1 rfl ?_
    simp only [asInt_int]
    refine ifB_dec (fun q => ⟨_, _, _, _, _, _, _, rfl, by trivial, fun _ r => by have := r.a; omega, fun e => by cases e⟩) fun q2 => ?_
    refine ldR c1 rfl ?_
    simp only [asInt_int]
    refine ifB_dec (fun q => ⟨_, _, _, _, _, _, _, rfl, by trivial, fun _ r => by have := r.t; omega, fun e => by cases e⟩) fun q3 => ?_
    refine ldR c1 rfl ?_
    simp only [asInt_int]
    refine ifB_dec (fun q => ⟨_, _, _, _, _, _, _, rfl, by trivial, fun _ r => by have := r.t; omega, fun e => by cases e⟩) fun q4 => ?_
    refine ldR c1 rfl ?_
    simp only [asInt_int]
    refine ifB_dec (fun q => ⟨_, _, _, _, _, _, _, rfl, by trivial, fun _ r => by have := r.n; omega, fun e => by cases e⟩) fun q5 => ?_
    refine ldR c1 rfl ?_
    simp only [asInt_int]
    refine ifB_dec (fun q => ⟨_, _, _, _, _, _, _, rfl, by trivial, fun _ r => by have := r.n; omega, fun e => by cases e⟩) fun q6 => ?_
    refine ldR c1 rfl ?_
    simp only [asInt_int]
    refine ifB_dec (fun q => ⟨_, _, _, _, _, _, _, rfl, by trivial, fun _ r => by have := r.l; omega, fun e => by cases e⟩) fun q7 => ?_
    refine ldR c1 rfl ?_
    simp only [asInt_int]
    refine ⟨_, _, _, _, _, _, _, rfl, by trivial, fun e r => ?_, fun e => ?_⟩
    · have := of_decide_eq_true e; have := r.l; omega
    · have := of_decide_eq_false e; omega
  rintro v17 v18 v19 v20 v21 v22 v23 g24 h25 ⟨_, _, _, _, _, _, b, e, rfl, hb1, hb0⟩
  cases e
  simp only [asBool_bool]
  refine ifB_mk (fun hb => k0 (hb1 hb) _ o1) (fun hb => ?_)
  obtain ⟨a1, a2, t1, t2, n1, n2, l1, l2⟩ := hb0 hb
  refine ⟨fun vs h' => ∃ v1 v2 v3 v4 b, vs = [v1, v2, v3, v4, .bool b] ∧ h' = h25 ∧ (b = true → ¬ c.Right) ∧ (b = false → 1 ≤ c.b ∧ c.b ≤ 16 ∧ 1 ≤ c.p ∧ c.p ≤ 16 ∧ 1 ≤ c.s ∧ c.s ≤ 64), ?_, ?_⟩
  · refine ldR c1 rfl ?_
    simp only [asInt_int]
    refine ifB_dec (fun q => ⟨_, _, _, _, _, rfl, by trivial, fun _ r => by have := r.b; omega, fun e => by cases e⟩) fun q1 => ?_
    refine ldR c1 rfl ?_
    simp only [asInt_int]
    refine ifB_dec (fun q => ⟨_, _, _, _, _, rfl, by trivial, fun _ r => by have := r.b; omega, fun e => by cases e⟩) fun q2 => ?_
    refine ldR c1 rfl ?_
    simp only [asInt_int]
    refine ifB_dec (fun q => ⟨_, _, _, _, _, rfl, by trivial, fun _ r => by have := r.p; omega, fun e => by cases e⟩) fun q3 => ?_
    refine ldR c1 rfl ?_
    simp only [asInt_int]
    refine ifB_dec (fun q => ⟨_, _, _, _, _, rfl, by trivial, fun _ r => by have := r.p; omega, fun e => by cases e⟩) fun q4 => ?_
    refine ldR c1 rfl ?_
    simp only [asInt_int]
    refine ifB_dec (fun q => ⟨_, _, _, _, _, rfl, by trivial, fun _ r => by have := r.s; omega, fun e => by cases e⟩) fun q5 => ?_
    refine ldR c1 rfl ?_
    simp only [asInt_int]
    refine ⟨_, _, _, _, _, rfl, by trivial, fun e r => ?_, fun e => ?_⟩
    · have := of_decide_eq_true e; have := r.s; omega
    · have := of_decide_eq_false e; omega
  rintro v40 v41 v42 v43 v44 g45 h46 ⟨_, _, _, _, b', e, rfl, hb1', hb0'⟩
  cases e
  simp only [asBool_bool]
  refine ifB_mk (fun hb' => k0 (hb1' hb') _ o1) (fun hb' => ?_)
  obtain ⟨b1, b2, p1', p2, s1, s2⟩ := hb0' hb'
  refine ldR c1 rfl ?_
  simp only [asInt_int]
  iterate 7 (refine ldR c1 rfl ?_)
  refine callV_fn ?_
  refine (show CallH Tryz.prog 29 #[.agg c.vals] h46 _ from call29 ?_)
  unfold F29 g29 lI
  have p2' := pushed h46 c.vals 23
  rw [show h46.push (.cells #[.int .i64 c.a, .int .i64 c.t, .int .i64 c.n, .int .i64 c.l, .int .i64 c.b, .int .i64 c.p, .int .i64 c.s] 23) = h46.push (.cells c.vals 23) from rfl]
  generalize h46.push (.cells c.vals 23) = h2 at *
  have o2 := o1.trans (p2'.toOld.mono o1.1)
  have c2 := (p2'.old h.size (by have := p1.size; omega)).trans c1
  have fin : ∀ z : Int, z = c.sent → (z < c.n ↔ c.Right) := fun z e => ⟨fun hz => ⟨⟨a1, a2⟩, ⟨t1, t2⟩, ⟨n1, n2⟩, ⟨l1, l2⟩, ⟨b1, b2⟩, ⟨p1', p2⟩, ⟨s1, s2⟩, by omega⟩, fun r => by have := r.z; omega⟩
  have fin2 : ∀ z : Int, z = c.sent → K (.bool (decide (c.n > z))) h2 := fun z e => by
    by_cases hz : z < c.n
    · rw [decide_eq_true hz]; exact k1 ((fin z e).1 hz) _ o2
    · rw [decide_eq_false hz]; exact k0 (fun r => hz ((fin z e).2 r)) _ o2
  refine ldR p2'.new rfl ?_
  simp only [asInt_int]
  refine ifB_mk (fun hz => ?_) (fun hz => ?_)
  · exact ⟨cellR c2 rfl, fin2 _ (by unfold Cf.sent; rw [if_pos (by simpa using hz)])⟩
  · exact ⟨cellR c2 rfl, fin2 _ (by unfold Cf.sent; rw [if_neg (by simpa using hz)])⟩
end
section
set_option maxHeartbeats 1000000
open Mod
theorem ag10 {v0 v1 v2 v3 v4 v5 v6 v7 v8 v9 : Value} {F : Value → Value → Value → Value → Value → Value → Value → Value → Value → Value → Prop} (k : F v0 v1 v2 v3 v4 v5 v6 v7 v8 v9) : asAgg (.agg #[v0, v1, v2, v3, v4, v5, v6, v7, v8, v9]) fun vs => sizeH vs 10 (elemH vs 0 fun a => elemH vs 1 fun b => elemH vs 2 fun c => elemH vs 3 fun d => elemH vs 4 fun e => elemH vs 5 fun f => elemH vs 6 fun g => elemH vs 7 fun i => elemH vs 8 fun j => elemH vs 9 fun l => F a b c d e f g i j l) := k
theorem ag2 {v0 v1 : Value} {F : Value → Value → Prop} (k : F v0 v1) : asAgg (.agg #[v0, v1]) fun vs => sizeH vs 2 (elemH vs 0 fun a => elemH vs 1 fun b => F a b) := k
theorem tp20 {v0 v1 : Value} {F : Value → Prop} (k : F v0) : asTup (.tuple #[v0, v1]) fun vs => elemH vs 0 F := k
theorem tp21 {v0 v1 : Value} {F : Value → Prop} (k : F v1) : asTup (.tuple #[v0, v1]) fun vs => elemH vs 1 F := k
section
variable {K : Value → Heap → Prop} {h : Heap} {R : Hp}
theorem rgt_call {c : Mod.Cf} (H : Sat h R) (k1 : okC c = true → ∀ h', Old h.size h h' → Sat h' R → K (.bool true) h') (k0 : okC c = false → ∀ h', Old h.size h h' → Sat h' R → K (.bool false) h') :
    CallH Tryz.prog 19 #[.agg #[.int .i64 c.algo, .int .i64 c.threads, .int .i64 c.nodes, .int .i64 c.level, .int .i64 c.batch, .int .i64 c.probes, .int .i64 c.scan]] h K := by
  refine right_call (toCf c) (fun hr h' o => k1 ((toCf_right c).1 hr) h' o (H.old o)) (fun hr h' o => k0 ?_ h' o (H.old o))
  rw [← Bool.not_eq_true]
  exact fun hh => hr ((toCf_right c).2 hh)
theorem right28_call {c : Mod.Cf} (H : Sat h R) (k1 : okC { c with algo := 2 } = true → ∀ h', Sat h' R → K (.bool true) h') (k0 : okC { c with algo := 2 } = false → ∀ h', Sat h' R → K (.bool false) h') :
    CallH Tryz.prog 15 #[.agg #[.int .i64 c.algo, .int .i64 c.threads, .int .i64 c.nodes, .int .i64 c.level, .int .i64 c.batch, .int .i64 c.probes, .int .i64 c.scan]] h K := by
  refine call15 ?_
  unfold F15 cf
  have H1 := H.push (.cells #[.int .i64 c.algo, .int .i64 c.threads, .int .i64 c.nodes, .int .i64 c.level, .int .i64 c.batch, .int .i64 c.probes, .int .i64 c.scan] 23)
  generalize h.push (.cells #[.int .i64 c.algo, .int .i64 c.threads, .int .i64 c.nodes, .int .i64 c.level, .int .i64 c.batch, .int .i64 c.probes, .int .i64 c.scan] 23) = h1 at *
  generalize h.size = CB at *
  refine H1.st (i := 0) rfl trivial fun h2 H2 => ?_
  have O := H2.at
  refine ldR O rfl (ldR O rfl (ldR O rfl (ldR O rfl (ldR O rfl (ldR O rfl (ldR O rfl ?_))))))
  refine callV_fn (rgt_call (c := { c with algo := 2 }) H2 (fun hc h' _ H' => ?_) fun hc h' _ H' => ?_)
  · simp only [asBool_bool]
    exact k1 hc h' H'.drop
  · simp only [asBool_bool]
    exact k0 hc h' H'.drop
theorem made28_call {c0 c : Mod.Cf} (hc : okC { c with algo := 2 } = true) {ca pa da : Option Addr} {cl cc0 pl pc0 dl dc0 : Nat} {calls : List (List Cl)} {picks draws : List Int} {n m : Nat} (H : Sat h R)
    (hS : ∀ h' P, Sat h' (P * R) → ScrI h' ca cl pa pl da dl calls picks draws) (hR : ScrR calls picks draws) (hn : n ≤ 1000) (hm : m ≤ 60000)
    (k : ∀ M h' ca' cc pa' pc da' dc ps, Sat h' (scrS ca' cc pa' pc da' dc ps (callsL c.threads.toNat n calls) (picksL c.threads m picks) (draws.take 4096) * R) → K (.tuple #[mP M, .agg #[.int .i64 2, .int .i64 c.threads, .int .i64 c.nodes, .int .i64 c.level, .int .i64 c.batch, .int .i64 c.probes, .int .i64 c.scan, .slice ca' (callsL c.threads.toNat n calls).length cc, .slice pa' (picksL c.threads m picks).length pc, .slice da' (draws.take 4096).length dc]]) h') :
    CallH Tryz.prog 17 #[.agg #[.int .i64 c0.algo, .int .i64 c0.threads, .int .i64 c0.nodes, .int .i64 c0.level, .int .i64 c0.batch, .int .i64 c0.probes, .int .i64 c0.scan, .slice ca cl cc0, .slice pa pl pc0, .slice da dl dc0], .agg #[.int .i64 c.algo, .int .i64 c.threads, .int .i64 c.nodes, .int .i64 c.level, .int .i64 c.batch, .int .i64 c.probes, .int .i64 c.scan], .int .i64 n, .int .i64 m] h K := by
  refine call17 ?_
  unfold F17 g17 q17_1 cf lS
  have H1 := H.push (.cells #[.int .i64 c0.algo, .int .i64 c0.threads, .int .i64 c0.nodes, .int .i64 c0.level, .int .i64 c0.batch, .int .i64 c0.probes, .int .i64 c0.scan, .slice ca cl cc0, .slice pa pl pc0, .slice da dl dc0] 28)
  generalize h.push (.cells #[.int .i64 c0.algo, .int .i64 c0.threads, .int .i64 c0.nodes, .int .i64 c0.level, .int .i64 c0.batch, .int .i64 c0.probes, .int .i64 c0.scan, .slice ca cl cc0, .slice pa pl pc0, .slice da dl dc0] 28) = h1 at *
  generalize h.size = SB at *
  have H2 := H1.push (.cells #[.int .i64 c.algo, .int .i64 c.threads, .int .i64 c.nodes, .int .i64 c.level, .int .i64 c.batch, .int .i64 c.probes, .int .i64 c.scan] 23)
  generalize h1.push (.cells #[.int .i64 c.algo, .int .i64 c.threads, .int .i64 c.nodes, .int .i64 c.level, .int .i64 c.batch, .int .i64 c.probes, .int .i64 c.scan] 23) = h2 at *
  generalize h1.size = CB at *
  have H3 := H2.push (.cells #[.int .i64 0, .int .i64 0, .int .i64 0, .int .i64 0, .int .i64 0, .int .i64 0, .int .i64 0, .slice none 0 0, .slice none 0 0, .slice none 0 0] 28)
  generalize h2.push (.cells #[.int .i64 0, .int .i64 0, .int .i64 0, .int .i64 0, .int .i64 0, .int .i64 0, .int .i64 0, .slice none 0 0, .slice none 0 0, .slice none 0 0] 28) = h3 at *
  generalize h2.size = RB at *
  rw [star_left] at H3
  refine H3.st (i := 0) rfl trivial fun h4 H4 => ?_
  have O := H4.at
  refine ldR O rfl (ldR O rfl (ldR O rfl (ldR O rfl (ldR O rfl (ldR O rfl (ldR O rfl ?_))))))
  refine callV_fn (rgt_call (c := { c with algo := 2 }) H4 (fun _ h9 _ H9 => ?_) fun hf => by rw [hc] at hf; cases hf)
  simp only [asBool_bool, Bool.not_true, ifB_false]
  have OC := H9.at
  have OS := H9.at3
  refine ldR OS rfl (ldR OS rfl (ldR OS rfl (ldR OS rfl (ldR OS rfl (ldR OS rfl (ldR OS rfl (ldR OS rfl (ldR OS rfl (ldR OS rfl (ldR OC rfl (ldR OC rfl (ldR OC rfl (ldR OC rfl (ldR OC rfl (ldR OC rfl (ldR OC rfl ?_))))))))))))))))
  have B := planOf_B hc
  have hth : 1 ≤ c.threads ∧ c.threads ≤ 6 := B.th
  refine callV_fn (little_call (c := { c with algo := 2 }) (c0 := c0) H9 (fun h' P H' => hS h' emp (by rw [emp_star]; exact H'.drop.drop.drop.drop)) hth hn hm fun h59 ca' cc pa' pc da' dc ps H10 => ?_)
  refine ag10 ?_
  have H11 := H10.push (.cells #[.int .i64 0, .int .i64 0, .int .i64 0, .int .i64 0, .int .i64 0, .int .i64 0, .int .i64 0, .slice none 0 0, .slice none 0 0, .slice none 0 0] 28)
  generalize h59.push (.cells #[.int .i64 0, .int .i64 0, .int .i64 0, .int .i64 0, .int .i64 0, .int .i64 0, .int .i64 0, .slice none 0 0, .slice none 0 0, .slice none 0 0] 28) = h60 at *
  generalize h59.size = TB at *
  refine st10 (stN_full (vs := scrC { c with algo := 2 } ca' (callsL c.threads.toNat n calls).length cc pa' (picksL c.threads m picks).length pc da' (draws.take 4096).length dc) H11.at rfl (by simp [scrC, oneC]) fun h80 w => ?_)
  have H12 := H11.wr w.new w.old
  have OC := (H12.drop.drop).at
  have OT := H12.at
  refine ldR OC rfl (ldR OC rfl (ldR OC rfl (ldR OC rfl (ldR OC rfl (ldR OC rfl (ldR OC rfl (ldR OT rfl ?_)))))))
  simp only [asSlice_slice]
  have sI := fun (h' : Heap) (P : Hp) (H' : Sat h' (P * (pt TB (.cells (scrC { c with algo := 2 } ca' (callsL c.threads.toNat n calls).length cc pa' (picksL c.threads m picks).length pc da' (draws.take 4096).length dc).toArray 28) * (scrS ca' cc pa' pc da' dc ps (callsL c.threads.toNat n calls) (picksL c.threads m picks) (draws.take 4096) * (pt CB (.cells #[.int .i64 2, .int .i64 c.threads, .int .i64 c.nodes, .int .i64 c.level, .int .i64 c.batch, .int .i64 c.probes, .int .i64 c.scan] 23) * (pt RB (.cells #[.int .i64 0, .int .i64 0, .int .i64 0, .int .i64 0, .int .i64 0, .int .i64 0, .int .i64 0, .slice none 0 0, .slice none 0 0, .slice none 0 0] 28) * (pt SB (.cells #[.int .i64 c0.algo, .int .i64 c0.threads, .int .i64 c0.nodes, .int .i64 c0.level, .int .i64 c0.batch, .int .i64 c0.probes, .int .i64 c0.scan, .slice ca cl cc0, .slice pa pl pc0, .slice da dl dc0] 28) * R))))))) => scrS_I H'.drop.drop
  refine callV_fn (coreNew_call (c := { c with algo := 2 }) (bs := draws.take 4096) H12 (fun h' P H' => (sI h' P H').dr) (by rw [List.length_take]; omega) (fun x hx => hR.dr x (List.mem_of_mem_take hx)) (fun hh => by rw [hc] at hh; cases hh) fun _ h93 M Ts H13 => ?_)
  refine tp20 ?_
  simp only [asPtrO_ptr]
  refine tp21 ?_
  simp only [asInt_int]
  have OT := H13.at2
  refine ldR OT rfl (ldR OT rfl (ldR OT rfl (ldR OT rfl (ldR OT rfl (ldR OT rfl (ldR OT rfl (ldR OT rfl (ldR OT rfl (ldR OT rfl ?_)))))))))
  have H14 : Sat h93 (pt RB (.cells #[.int .i64 0, .int .i64 0, .int .i64 0, .int .i64 0, .int .i64 0, .int .i64 0, .int .i64 0, .slice none 0 0, .slice none 0 0, .slice none 0 0] 28) * (scrS ca' cc pa' pc da' dc ps (callsL c.threads.toNat n calls) (picksL c.threads m picks) (draws.take 4096) * (pt TB (.cells (scrC { c with algo := 2 } ca' (callsL c.threads.toNat n calls).length cc pa' (picksL c.threads m picks).length pc da' (draws.take 4096).length dc).toArray 28) * (pt CB (.cells #[.int .i64 2, .int .i64 c.threads, .int .i64 c.nodes, .int .i64 c.level, .int .i64 c.batch, .int .i64 c.probes, .int .i64 c.scan] 23) * (pt SB (.cells #[.int .i64 c0.algo, .int .i64 c0.threads, .int .i64 c0.nodes, .int .i64 c0.level, .int .i64 c0.batch, .int .i64 c0.probes, .int .i64 c0.scan, .slice ca cl cc0, .slice pa pl pc0, .slice da dl dc0] 28) * R))))) := Sat.ac H13.drop (by ac_rfl)
  refine st10 (stN_full (vs := scrC { c with algo := 2 } ca' (callsL c.threads.toNat n calls).length cc pa' (picksL c.threads m picks).length pc da' (draws.take 4096).length dc) H14.at rfl (by simp [scrC, oneC]) fun h94 w => ?_)
  have H15 := H14.wr w.new w.old
  have OR := H15.at
  refine ldR OR rfl (ldR OR rfl (ldR OR rfl (ldR OR rfl (ldR OR rfl (ldR OR rfl (ldR OR rfl (ldR OR rfl (ldR OR rfl (ldR OR rfl ?_)))))))))
  exact k M h94 ca' cc pa' pc da' dc ps H15.drop.drop2.drop2.drop2
theorem linden_un : ∀ x : Run, lindenDo x.un = (lindenDo x).un := fun x => lindenDo_un x
theorem lindenBlind_body {c0 c : Mod.Cf} {ca pa da : Option Addr} {cl cc0 pl pc0 dl dc0 : Nat} {calls : List (List Cl)} {picks draws : List Int} (H : Sat h R)
    (hS : ∀ h' P, Sat h' (P * R) → ScrI h' ca cl pa pl da dl calls picks draws) (hR : ScrR calls picks draws) (k : ∀ h', Sat h' R → K (.bool true) h') :
    CallH Tryz.prog 5 #[.agg #[.int .i64 c0.algo, .int .i64 c0.threads, .int .i64 c0.nodes, .int .i64 c0.level, .int .i64 c0.batch, .int .i64 c0.probes, .int .i64 c0.scan, .slice ca cl cc0, .slice pa pl pc0, .slice da dl dc0], .agg #[.int .i64 c.algo, .int .i64 c.threads, .int .i64 c.nodes, .int .i64 c.level, .int .i64 c.batch, .int .i64 c.probes, .int .i64 c.scan]] h K := by
  refine call5 ?_
  unfold F5 g5 cf ce
  have H1 := H.push (.cells #[.int .i64 c0.algo, .int .i64 c0.threads, .int .i64 c0.nodes, .int .i64 c0.level, .int .i64 c0.batch, .int .i64 c0.probes, .int .i64 c0.scan, .slice ca cl cc0, .slice pa pl pc0, .slice da dl dc0] 28)
  generalize h.push (.cells #[.int .i64 c0.algo, .int .i64 c0.threads, .int .i64 c0.nodes, .int .i64 c0.level, .int .i64 c0.batch, .int .i64 c0.probes, .int .i64 c0.scan, .slice ca cl cc0, .slice pa pl pc0, .slice da dl dc0] 28) = h1 at *
  generalize h.size = SB at *
  have H2 := H1.push (.cells #[.int .i64 c.algo, .int .i64 c.threads, .int .i64 c.nodes, .int .i64 c.level, .int .i64 c.batch, .int .i64 c.probes, .int .i64 c.scan] 23)
  generalize h1.push (.cells #[.int .i64 c.algo, .int .i64 c.threads, .int .i64 c.nodes, .int .i64 c.level, .int .i64 c.batch, .int .i64 c.probes, .int .i64 c.scan] 23) = h2 at *
  generalize h1.size = CB at *
  have lives : ∀ {h' : Heap} {P : Hp}, Sat h' (P * R) → CallH Tryz.prog 16 #[] h' fun v h'' => asBool v fun b => K (.bool b) h'' := by
    intro h' P H'
    refine lives28_call linden_DoC (MacOk.good linden_good) (MacOk.new rfl _ _) H' fun h'' H'' => ?_
    simp only [asBool_bool]
    exact k h'' H''.drop
  have O := H2.at
  refine ldR O rfl (ldR O rfl (ldR O rfl (ldR O rfl (ldR O rfl (ldR O rfl (ldR O rfl ?_))))))
  refine callV_fn (right28_call H2 (fun hc h8 H8 => ?_) fun _ h8 H8 => ?_)
  rotate_left
  · simp only [asBool_bool, Bool.not_false, ifB_true]
    exact callV_fn (lives H8.drop)
  simp only [asBool_bool, Bool.not_true, ifB_false]
  have OC := H8.at
  have OS := H8.at2
  refine ldR OS rfl (ldR OS rfl (ldR OS rfl (ldR OS rfl (ldR OS rfl (ldR OS rfl (ldR OS rfl (ldR OS rfl (ldR OS rfl (ldR OS rfl (ldR OC rfl (ldR OC rfl (ldR OC rfl (ldR OC rfl (ldR OC rfl (ldR OC rfl (ldR OC rfl ?_))))))))))))))))
  refine callV_fn (made28_call (n := 4) (m := 2000) (c0 := c0) hc H8 (fun h' P H' => hS h' emp (by rw [emp_star]; exact H'.drop.drop.drop)) hR (by decide) (by decide) fun M h31 ca' cc pa' pc da' dc ps H9 => ?_)
  have B := planOf_B hc
  have hth : 1 ≤ c.threads ∧ c.threads ≤ 6 := B.th
  refine tp20 ?_
  simp only [asPtrO_ptr]
  refine tp21 ?_
  refine ag10 ?_
  have H10 := H9.push (.cells #[.int .i64 0, .int .i64 0, .int .i64 0, .int .i64 0, .int .i64 0, .int .i64 0, .int .i64 0, .slice none 0 0, .slice none 0 0, .slice none 0 0] 28)
  generalize h31.push (.cells #[.int .i64 0, .int .i64 0, .int .i64 0, .int .i64 0, .int .i64 0, .int .i64 0, .int .i64 0, .slice none 0 0, .slice none 0 0, .slice none 0 0] 28) = h32 at *
  generalize h31.size = TB at *
  refine st10 (stN_full (vs := scrC { c with algo := 2 } ca' (callsL c.threads.toNat 4 calls).length cc pa' (picksL c.threads 2000 picks).length pc da' (draws.take 4096).length dc) H10.at rfl (by simp [scrC, oneC]) fun h57 w => ?_)
  have H11 := H10.wr w.new w.old
  have OT := H11.at
  refine ldR OT rfl (ldR OT rfl (ldR OT rfl (ldR OT rfl (ldR OT rfl (ldR OT rfl (ldR OT rfl (ldR OT rfl (ldR OT rfl (ldR OT rfl ?_)))))))))
  refine callV_fn (queue28_call H11 fun h69 H12 => ?_)
  refine ag2 ?_
  have OT := H12.at
  repeat (refine ⟨cellR OT rfl, ?_⟩)
  refine callV_fn (blind_call (c := { c with algo := 2 }) (ins := 31) linden_DoC (MacOk.good (c := { c with algo := 2 }) linden_good) linden_un (by decide) hc (fun g => MacOk.new hc _ g) (scrL_ok hth hR (by decide) (by decide)) (callsL_len _ _ _) (by rw [List.length_take]; omega) (fun x hx => hR.dr x (List.mem_of_mem_take hx)) H12 (fun h' P H' => scrS_I H'.drop.drop) fun h74 H13 => ?_)
  simp only [asBool_bool, ifB_true]
  exact callV_fn (lives H13.drop.drop.drop)
end
end
end Go.Proofs.YtglgifgoojncpaaGreat
