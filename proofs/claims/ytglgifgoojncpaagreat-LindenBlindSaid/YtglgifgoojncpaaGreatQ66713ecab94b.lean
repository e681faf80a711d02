/- Part 7 of what the proofs of this seat rest on: see the last text of the claim. -/
import Derived.Test.YtglgifgoojncpaaGreatQ0ce4bcfe394c
import Derived.Test.YtglgifgoojncpaaGreatProg
set_option linter.unusedSimpArgs false
set_option linter.unusedVariables false
set_option linter.ambiguousOpen false
set_option maxRecDepth 20000
namespace Go.Proofs.YtglgifgoojncpaaGreat
section
open Mod
abbrev T3 := Int × Int × Int
def spc (x : T3) : List Value := [.int .i64 x.1, .int .i64 x.2.1, .int .i64 x.2.2]
theorem spc_len : ∀ x : T3, (spc x).length = 3 := fun _ => rfl
theorem spc_one (x : T3) : ∀ y ∈ spc x, oneC y True := by
  intro y hy
  simp only [spc, List.mem_cons, List.not_mem_nil, or_false] at hy
  rcases hy with rfl | rfl | rfl <;> exact trivial
def inB (x : T3) : Bool := decide (x.2.1 ≤ x.1) && decide (x.1 ≤ x.2.2)
theorem st3p {h : Heap} {b : Nat} {v0 v1 v2 : Value} {K : Heap → Prop} (H : stN h ⟨b, 0, none⟩ 0 [v0, v1, v2] K) : stH h ⟨b, 0, none⟩ v0 fun h => stH h ⟨b, 1, none⟩ v1 fun h => stH h ⟨b, 2, none⟩ v2 K := H
theorem spanIn_call {K : Value → Heap → Prop} {h : Heap} {a : Option Addr} {l c : Nat} {L : List T3} (H : SX spc h a l c L) (hl : l < 2 ^ 60) (k : ∀ h', Old h.size h h' → K (.bool (L.all inB)) h') : CallH Tryz.prog 61 #[.slice a l c] h K := by
  refine call61 ?_
  unfold F61 bd lI
  have hlen := H.len
  refine ⟨fun vs h' => ∃ w, ∃ i : Nat, vs = [w, iv i] ∧ i ≤ l ∧ Old h.size h h' ∧ (L.take i).all inB = true, fun vs _ => (match vs with | [_, .int _ n] => l - n.toNat | _ => 0), ⟨_, 0, rfl, Nat.zero_le _, Old.refl _ _, rfl⟩, ?_⟩
  rintro v2 v3 g4 h5 ⟨w, i, e, hi, o5, hall⟩
  cases e
  simp only [asInt_int, asI_int]
  refine ifB_dec (fun hlt => ?_) (fun hge => ?_)
  · have hi' : i < L.length := by omega
    obtain ⟨ad, rfl, hc⟩ := SX.at spc_len (by omega) (H.old o5) hi'
    have htk : (L.take (i + 1)).all inB = ((L.take i).all inB && inB L[i]) := by rw [List.take_succ_eq_append_getElem hi', List.all_append]; simp
    have hmem : L.all inB = true → inB L[i] = true := fun h => List.all_eq_true.1 h _ (List.getElem_mem hi')
    generalize L[i] = x at *
    refine ⟨by omega, hlt, ?_⟩
    simp only [asPtr_some, Int.toNat_natCast]
    refine ldH_mk (hc 0 _ rfl) (ldH_mk (hc 1 _ rfl) (ldH_mk (hc 2 _ rfl) ?_))
    have p6 := pushed h5 (spc (0, 0, 0)).toArray 127
    rw [show h5.push (.cells #[.int .i64 0, .int .i64 0, .int .i64 0] 127) = h5.push (.cells (spc (0, 0, 0)).toArray 127) from rfl]
    generalize h5.push (.cells (spc (0, 0, 0)).toArray 127) = h6 at *
    refine st3p (stN_full (vs := spc x) p6.new rfl (spc_one x) fun h14 w14 => ?_)
    have o14 : Old h5.size h5 h14 := w14.toOld p6.toOld (Nat.le_refl _)
    have ok14 := o5.trans (o14.mono o5.1)
    refine ⟨fun vs h' => vs = [.bool (!inB x)] ∧ h' = h14, ?_, ?_⟩
    · refine ldR w14.new rfl ?_
      simp only [asInt_int]
      refine ldR w14.new rfl ?_
      simp only [asInt_int]
      refine ifB_dec (fun q => ?_) (fun q => ?_)
      · refine ⟨?_, by trivial⟩
        unfold inB
        rw [decide_eq_false (show ¬ x.2.1 ≤ x.1 by omega)]; rfl
      · refine ldR w14.new rfl ?_
        simp only [asInt_int]
        refine ldR w14.new rfl ?_
        simp only [asInt_int]
        refine ⟨?_, by trivial⟩
        unfold inB
        rw [decide_eq_true (show x.2.1 ≤ x.1 by omega), Bool.true_and]
        congr 2
        rw [← decide_not, decide_eq_decide]; omega
    rintro v24 g25 h26 ⟨e, rfl⟩
    cases e
    simp only [asBool_bool]
    refine ifB_mk (fun hq => ?_) (fun hq => ?_)
    · have := k h26 ok14
      have e : L.all inB = false := by
        apply Decidable.byContradiction
        intro h
        have := hmem (by simpa using h)
        rw [this] at hq; cases hq
      rwa [e] at this
    · rw [nat_wrap1 (by omega)]
      exact ⟨⟨_, i + 1, rfl, by omega, ok14, by rw [htk, hall]; simpa using hq⟩, by show l - ((i + 1 : Nat) : Int).toNat < l - (i : Int).toNat; omega⟩
  · rw [List.take_of_length_le (by omega)] at hall
    have := k h5 o5
    rwa [hall] at this
def cfc (c : Mod.Cf) : List Value := [.int .i64 c.algo, .int .i64 c.threads, .int .i64 c.nodes, .int .i64 c.level, .int .i64 c.batch, .int .i64 c.probes, .int .i64 c.scan]
abbrev plc (p : Pl) : List Value := [.int .i64 p.c.algo, .int .i64 p.c.threads, .int .i64 p.c.nodes, .int .i64 p.c.level, .int .i64 p.c.batch, .int .i64 p.c.probes, .int .i64 p.c.scan, .int .i64 p.slots, .int .i64 p.width, .int .i64 p.sent, .int .i64 p.hazards, .int .i64 p.links, .int .i64 p.nodes, .int .i64 p.tree, .int .i64 p.size]
structure PlB (p : Pl) : Prop where
  th : 1 ≤ p.c.threads ∧ p.c.threads ≤ 6
  no : 1 ≤ p.c.nodes ∧ p.c.nodes ≤ 64
  lv : 1 ≤ p.c.level ∧ p.c.level ≤ 6
  sl : 2 ≤ p.slots ∧ p.slots ≤ 14
  wi : 3 ≤ p.width ∧ p.width ≤ 11
  se : 0 ≤ p.sent ∧ p.sent ≤ 2
  hz : p.hazards = 8
  li : 8 ≤ p.links ∧ p.links ≤ 1000
  nd : p.links ≤ p.nodes ∧ p.nodes ≤ 2000
  tr : p.nodes ≤ p.tree ∧ p.tree ≤ 3000
  si : p.tree ≤ p.size ∧ p.size ≤ 4000
abbrev iN (n : Int) : Prop := -9223372036854775808 ≤ n ∧ n ≤ 9223372036854775807
def plV (p : Pl) : Value := .agg #[.int .i64 p.c.algo, .int .i64 p.c.threads, .int .i64 p.c.nodes, .int .i64 p.c.level, .int .i64 p.c.batch, .int .i64 p.c.probes, .int .i64 p.c.scan, .int .i64 p.slots, .int .i64 p.width, .int .i64 p.sent, .int .i64 p.hazards, .int .i64 p.links, .int .i64 p.nodes, .int .i64 p.tree, .int .i64 p.size]
theorem plLoc (h : Heap) (p : Pl) : h.push (.cells #[.int .i64 p.c.algo, .int .i64 p.c.threads, .int .i64 p.c.nodes, .int .i64 p.c.level, .int .i64 p.c.batch, .int .i64 p.c.probes, .int .i64 p.c.scan, .int .i64 p.slots, .int .i64 p.width, .int .i64 p.sent, .int .i64 p.hazards, .int .i64 p.links, .int .i64 p.nodes, .int .i64 p.tree, .int .i64 p.size] 69) = h.push (.cells (plc p).toArray 69) := rfl
theorem plNode_call {K : Value → Heap → Prop} {h : Heap} {p : Pl} {n f : Int} (B : PlB p) (hn : iN n) (hf : iN f) (k : ∀ h', Old h.size h h' → K (.int .i64 (p.node n f)) h') : CallH Tryz.prog 66 #[plV p, .int .i64 n, .int .i64 f] h K := by
  refine call66 ?_
  unfold F66 g66 cf lI
  have b1 := B.no
  have b2 := B.wi
  have b3 := B.tr
  have b4 := B.nd
  have b5 := B.li
  rw [plLoc]
  have p1 := pushed h (plc p).toArray 69
  generalize h.push (.cells (plc p).toArray 69) = h1 at *
  rw [add_lit]
  refine ldR p1.new rfl ?_
  simp only [asInt_int]
  refine ldR p1.new rfl ?_
  simp only [asInt_int]
  rw [wrap64_id' (n := p.width - 1) (by omega) (by omega)]
  have p2 := pushed h1 ([((n, 1, p.c.nodes) : T3), (f, 0, p.width - 1)].flatMap spc).toArray 127
  rw [show h1.push (.cells #[.int .i64 n, .int .i64 1, .int .i64 p.c.nodes, .int .i64 f, .int .i64 0, .int .i64 (p.width - 1)] 127) = h1.push (.cells ([((n, 1, p.c.nodes) : T3), (f, 0, p.width - 1)].flatMap spc).toArray 127) from rfl]
  generalize h1.push (.cells ([((n, 1, p.c.nodes) : T3), (f, 0, p.width - 1)].flatMap spc).toArray 127) = h2 at *
  have o1 := p1.toOld
  have o2 := o1.trans (p2.toOld.mono o1.1)
  have S2 : SX spc h2 (some ⟨h1.size, 0, none⟩) 2 2 [((n, 1, p.c.nodes) : T3), (f, 0, p.width - 1)] := ⟨fun j v hj => ⟨_, rfl, by rw [add_lit, cellAt_of p2.new, List.getElem?_toArray, Nat.zero_add]; exact hj⟩, rfl, Nat.le_refl _⟩
  refine callV_fn (spanIn_call S2 (by omega) fun h5 o5 => ?_)
  simp only [asBool_bool]
  have ok5 := o2.trans (o5.mono o2.1)
  have hs1 := p1.size
  have hs2 := p2.size
  have n5 := (o5.2 _ (show h.size < h2.size by omega)).trans ((p2.old _ (show h.size < h1.size by omega)).trans p1.new)
  have kk := k h5 ok5
  unfold Pl.node at kk
  have hin : ([((n, 1, p.c.nodes) : T3), (f, 0, p.width - 1)].all inB) = decide (1 ≤ n ∧ n ≤ p.c.nodes ∧ 0 ≤ f ∧ f < p.width) := by
    simp only [List.all_cons, List.all_nil, inB, Bool.and_true]
    rw [← Bool.decide_and, ← Bool.decide_and, ← Bool.decide_and, decide_eq_decide]
    omega
  rw [hin]
  by_cases hc : 1 ≤ n ∧ n ≤ p.c.nodes ∧ 0 ≤ f ∧ f < p.width
  · rw [decide_eq_true hc]
    rw [if_pos hc] at kk
    simp only [Bool.not_true, ifB_false]
    refine ldR n5 rfl ?_
    simp only [asInt_int]
    refine ldR n5 rfl ?_
    simp only [asInt_int]
    have hm : 0 ≤ (n - 1) * p.width ∧ (n - 1) * p.width ≤ 63 * 11 := ⟨Int.mul_nonneg (by omega) (by omega), Int.mul_le_mul (by omega) (by omega) (by omega) (by omega)⟩
    rw [wrap64_id' (n := n - 1) (by omega) (by omega), wrap64_id' (n := (n - 1) * p.width) (by omega) (by omega), wrap64_id' (n := p.nodes + (n - 1) * p.width) (by omega) (by omega), wrap64_id' (by omega) (by omega)]
    exact kk
  · rw [decide_eq_false hc]
    rw [if_neg hc] at kk
    simp only [Bool.not_false, ifB_true]
    exact kk
theorem plLink_call {K : Value → Heap → Prop} {h : Heap} {p : Pl} {n : Int} (B : PlB p) (hn : iN n) (k : ∀ h', Old h.size h h' → K (.int .i64 (p.link n)) h') : CallH Tryz.prog 65 #[plV p, .int .i64 n] h K := by
  refine call65 ?_
  unfold F65 g65 cf lI
  have b1 := B.no
  have b5 := B.li
  rw [plLoc]
  have p1 := pushed h (plc p).toArray 69
  generalize h.push (.cells (plc p).toArray 69) = h1 at *
  rw [add_lit]
  refine ldR p1.new rfl ?_
  simp only [asInt_int]
  have p2 := pushed h1 ([((n, 1, p.c.nodes) : T3)].flatMap spc).toArray 127
  rw [show h1.push (.cells #[.int .i64 n, .int .i64 1, .int .i64 p.c.nodes] 127) = h1.push (.cells ([((n, 1, p.c.nodes) : T3)].flatMap spc).toArray 127) from rfl]
  generalize h1.push (.cells ([((n, 1, p.c.nodes) : T3)].flatMap spc).toArray 127) = h2 at *
  have o1 := p1.toOld
  have o2 := o1.trans (p2.toOld.mono o1.1)
  have S2 : SX spc h2 (some ⟨h1.size, 0, none⟩) 1 1 [((n, 1, p.c.nodes) : T3)] := ⟨fun j v hj => ⟨_, rfl, by rw [add_lit, cellAt_of p2.new, List.getElem?_toArray, Nat.zero_add]; exact hj⟩, rfl, Nat.le_refl _⟩
  refine callV_fn (spanIn_call S2 (by omega) fun h5 o5 => ?_)
  simp only [asBool_bool]
  have ok5 := o2.trans (o5.mono o2.1)
  have hs1 := p1.size
  have hs2 := p2.size
  have n5 := (o5.2 _ (show h.size < h2.size by omega)).trans ((p2.old _ (show h.size < h1.size by omega)).trans p1.new)
  have kk := k h5 ok5
  unfold Pl.link at kk
  have hin : ([((n, 1, p.c.nodes) : T3)].all inB) = decide (1 ≤ n ∧ n ≤ p.c.nodes) := by
    simp only [List.all_cons, List.all_nil, inB, Bool.and_true]
    rw [← Bool.decide_and]
  rw [hin]
  by_cases hc : 1 ≤ n ∧ n ≤ p.c.nodes
  · rw [decide_eq_true hc]
    rw [if_pos hc] at kk
    simp only [Bool.not_true, ifB_false]
    refine ldR n5 rfl ?_
    simp only [asInt_int]
    rw [wrap64_id' (n := p.links + n) (by omega) (by omega), wrap64_id' (by omega) (by omega)]
    exact kk
  · rw [decide_eq_false hc]
    rw [if_neg hc] at kk
    simp only [Bool.not_false, ifB_true]
    exact kk
theorem plSlots_call {K : Value → Heap → Prop} {h : Heap} {p : Pl} (k : ∀ h', Old h.size h h' → K (.int .i64 p.slots) h') : CallH Tryz.prog 149 #[plV p] h K := by
  refine call149 ?_
  unfold F149 g149 lI
  rw [plLoc]
  have p1 := pushed h (plc p).toArray 69
  generalize h.push (.cells (plc p).toArray 69) = h1 at *
  refine ldR p1.new rfl ?_
  simp only [asInt_int]
  exact k _ p1.toOld
theorem plSent_call {K : Value → Heap → Prop} {h : Heap} {p : Pl} (k : ∀ h', Old h.size h h' → K (.int .i64 p.sent) h') : CallH Tryz.prog 36 #[plV p] h K := by
  refine call36 ?_
  unfold F36 g36 lI
  rw [plLoc]
  have p1 := pushed h (plc p).toArray 69
  generalize h.push (.cells (plc p).toArray 69) = h1 at *
  refine ldR p1.new rfl ?_
  simp only [asInt_int]
  exact k _ p1.toOld
theorem plSize_call {K : Value → Heap → Prop} {h : Heap} {p : Pl} (k : ∀ h', Old h.size h h' → K (.int .i64 p.size) h') : CallH Tryz.prog 32 #[plV p] h K := by
  refine call32 ?_
  unfold F32 g32 lI
  rw [plLoc]
  have p1 := pushed h (plc p).toArray 69
  generalize h.push (.cells (plc p).toArray 69) = h1 at *
  refine ldR p1.new rfl ?_
  simp only [asInt_int]
  exact k _ p1.toOld
theorem eqv_pl (p : Pl) : eqv Tryz.prog 10000 69 (.agg (plc p).toArray) (.agg (List.replicate 15 (Value.int .i64 0)).toArray) = some (((p.c.algo == 0) && ((p.c.threads == 0) && ((p.c.nodes == 0) && ((p.c.level == 0) && ((p.c.batch == 0) && ((p.c.probes == 0) && ((p.c.scan == 0) && true))))))) && ((p.slots == 0) && ((p.width == 0) && ((p.sent == 0) && ((p.hazards == 0) && ((p.links == 0) && ((p.nodes == 0) && ((p.tree == 0) && ((p.size == 0) && true))))))))) := by kernel_rfl
theorem guard_pl : Tryz.prog.eqGuardType Tryz.prog.depth 69 = false := by kernel_rfl
theorem eqvH_pl {p : Pl} {K : Bool → Prop} (B : PlB p) (k : K false) : eqvH Tryz.prog 69 (.agg #[.int .i64 p.c.algo, .int .i64 p.c.threads, .int .i64 p.c.nodes, .int .i64 p.c.level, .int .i64 p.c.batch, .int .i64 p.c.probes, .int .i64 p.c.scan, .int .i64 p.slots, .int .i64 p.width, .int .i64 p.sent, .int .i64 p.hazards, .int .i64 p.links, .int .i64 p.nodes, .int .i64 p.tree, .int .i64 p.size]) (.agg #[.int .i64 0, .int .i64 0, .int .i64 0, .int .i64 0, .int .i64 0, .int .i64 0, .int .i64 0, .int .i64 0, .int .i64 0, .int .i64 0, .int .i64 0, .int .i64 0, .int .i64 0, .int .i64 0, .int .i64 0]) K := by
  unfold eqvH
  rw [guard_pl, if_neg (by simp)]
  show (match eqv Tryz.prog 10000 69 (.agg (plc p).toArray) (.agg (List.replicate 15 (Value.int .i64 0)).toArray) with | some b => K b | none => False)
  rw [eqv_pl]
  have h1 := B.th
  have e : (p.c.threads == 0) = false := by rw [beq_eq_false_iff_ne]; omega
  simp only [e, Bool.false_and, Bool.and_false]
  exact k
theorem plHaz_call {K : Value → Heap → Prop} {h : Heap} {p : Pl} {t s : Int} (B : PlB p) (ht : iN t) (hs : iN s) (k : ∀ h', Old h.size h h' → K (.int .i64 (p.haz t s)) h') : CallH Tryz.prog 130 #[plV p, .int .i64 t, .int .i64 s] h K := by
  refine call130 ?_
  unfold F130 g130 cf lI
  have b1 := B.th
  have b2 := B.sl
  have b3 := B.hz
  rw [plLoc]
  have p1 := pushed h (plc p).toArray 69
  generalize h.push (.cells (plc p).toArray 69) = h1 at *
  have o1 := p1.toOld
  have hs1 := p1.size
  refine ⟨fun vs h' => vs = [.bool (!decide (0 ≤ t ∧ t < p.c.threads ∧ 0 ≤ s ∧ s < p.slots))] ∧ Old h.size h h' ∧ h'[h.size]? = some (.cells (plc p).toArray 69), ?_, ?_⟩
  · refine ldR p1.new rfl (ldR p1.new rfl (ldR p1.new rfl (ldR p1.new rfl (ldR p1.new rfl (ldR p1.new rfl (ldR p1.new rfl (ldR p1.new rfl (ldR p1.new rfl (ldR p1.new rfl (ldR p1.new rfl (ldR p1.new rfl (ldR p1.new rfl (ldR p1.new rfl (ldR p1.new rfl ?_))))))))))))))
    refine eqvH_pl B ?_
    simp only [ifB_false]
    rw [add_lit]
    refine ldR p1.new rfl ?_
    simp only [asInt_int]
    refine ldR p1.new rfl ?_
    simp only [asInt_int]
    rw [wrap64_id' (n := p.c.threads - 1) (by omega) (by omega), wrap64_id' (n := p.slots - 1) (by omega) (by omega)]
    have p2 := pushed h1 ([((t, 0, p.c.threads - 1) : T3), (s, 0, p.slots - 1)].flatMap spc).toArray 127
    rw [show h1.push (.cells #[.int .i64 t, .int .i64 0, .int .i64 (p.c.threads - 1), .int .i64 s, .int .i64 0, .int .i64 (p.slots - 1)] 127) = h1.push (.cells ([((t, 0, p.c.threads - 1) : T3), (s, 0, p.slots - 1)].flatMap spc).toArray 127) from rfl]
    generalize h1.push (.cells ([((t, 0, p.c.threads - 1) : T3), (s, 0, p.slots - 1)].flatMap spc).toArray 127) = h2 at *
    have o2 := o1.trans (p2.toOld.mono o1.1)
    have S2 : SX spc h2 (some ⟨h1.size, 0, none⟩) 2 2 [((t, 0, p.c.threads - 1) : T3), (s, 0, p.slots - 1)] := ⟨fun j v hj => ⟨_, rfl, by rw [add_lit, cellAt_of p2.new, List.getElem?_toArray, Nat.zero_add]; exact hj⟩, rfl, Nat.le_refl _⟩
    have hs2 := p2.size
    refine callV_fn (spanIn_call S2 (by omega) fun h5 o5 => ?_)
    simp only [asBool_bool]
    have hin : ([((t, 0, p.c.threads - 1) : T3), (s, 0, p.slots - 1)].all inB) = decide (0 ≤ t ∧ t < p.c.threads ∧ 0 ≤ s ∧ s < p.slots) := by
      simp only [List.all_cons, List.all_nil, inB, Bool.and_true]
      rw [← Bool.decide_and, ← Bool.decide_and, ← Bool.decide_and, decide_eq_decide]
      omega
    rw [hin]
    exact ⟨rfl, o2.trans (o5.mono o2.1), (o5.2 _ (show h.size < h2.size by omega)).trans ((p2.old _ (show h.size < h1.size by omega)).trans p1.new)⟩
  rintro v24 g25 h26 ⟨e, o26, n26⟩
  cases e
  simp only [asBool_bool]
  have kk := k h26 o26
  unfold Pl.haz at kk
  by_cases hc : 0 ≤ t ∧ t < p.c.threads ∧ 0 ≤ s ∧ s < p.slots
  · rw [decide_eq_true hc]
    rw [if_pos hc] at kk
    simp only [Bool.not_true, ifB_false]
    refine ldR n26 rfl ?_
    simp only [asInt_int]
    refine ldR n26 rfl ?_
    simp only [asInt_int]
    have hm : 0 ≤ t * p.slots ∧ t * p.slots ≤ 5 * 14 := ⟨Int.mul_nonneg (by omega) (by omega), Int.mul_le_mul (by omega) (by omega) (by omega) (by omega)⟩
    rw [wrap64_id' (n := t * p.slots) (by omega) (by omega), wrap64_id' (n := p.hazards + t * p.slots) (by omega) (by omega), wrap64_id' (by omega) (by omega)]
    exact kk
  · rw [decide_eq_false hc]
    rw [if_neg hc] at kk
    simp only [Bool.not_false, ifB_true]
    exact kk
theorem plWhere_call {K : Value → Heap → Prop} {h : Heap} {p : Pl} {a : Int} (B : PlB p) (ha : iN a) (k1 : ∀ n x h', p.within a = some n → Old h.size h h' → K (.tuple #[.int .i64 3, .int .i64 n, .int .i64 x]) h') (k0 : ∀ q n x h', p.within a = none → q ≠ 3 → Old h.size h h' → K (.tuple #[.int .i64 q, .int .i64 n, .int .i64 x]) h') : CallH Tryz.prog 207 #[plV p, .int .i64 a] h K := by
  refine call207 ?_
  unfold F207 g207 lI
  have b0 := B.sl
  have b1 := B.wi
  have b2 := B.hz
  have b3 := B.tr
  have b4 := B.nd
  have b5 := B.li
  have b6 := B.si
  have hwn : ¬ (p.nodes ≤ a ∧ a < p.tree) → p.within a = none := fun h => by unfold Pl.within; rw [if_neg h]
  rw [plLoc]
  have p1 := pushed h (plc p).toArray 69
  generalize h.push (.cells (plc p).toArray 69) = h1 at *
  have o1 := p1.toOld
  refine ⟨fun vs h' => (∃ w, vs = [.bool (decide (a < 0) || decide (a ≥ p.size)), w]) ∧ h' = h1, ?_, ?_⟩
  · refine ifB_dec (fun q => ⟨⟨_, by rw [decide_eq_true q]; rfl⟩, by trivial⟩) (fun q => ?_)
    refine ldR p1.new rfl ?_
    simp only [asInt_int]
    exact ⟨⟨_, by rw [decide_eq_false q, Bool.false_or]⟩, by trivial⟩
  rintro v3 v4 g5 h6 ⟨⟨_, e⟩, rfl⟩
  cases e
  simp only [asBool_bool]
  refine ifB_mk (fun q => ?_) (fun q => ?_)
  · rw [Bool.or_eq_true, decide_eq_true_eq, decide_eq_true_eq] at q
    exact k0 _ _ _ _ (hwn (by omega)) (by decide) o1
  rw [Bool.or_eq_false_iff, decide_eq_false_iff_not, decide_eq_false_iff_not] at q
  refine ldR p1.new rfl ?_
  simp only [asInt_int]
  refine ifB_dec (fun q1 => k0 _ _ _ _ (hwn (by omega)) (by decide) o1) (fun q1 => ?_)
  refine ldR p1.new rfl ?_
  simp only [asInt_int]
  refine ifB_dec (fun q2 => ?_) (fun q2 => ?_)
  · refine ldR p1.new rfl ?_
    simp only [asInt_int]
    refine ldR p1.new rfl ?_
    simp only [asInt_int]
    refine ⟨by omega, ldR p1.new rfl ?_⟩
    simp only [asInt_int]
    refine ldR p1.new rfl ?_
    simp only [asInt_int]
    exact ⟨by omega, k0 _ _ _ _ (hwn (by omega)) (by decide) o1⟩
  refine ldR p1.new rfl ?_
  simp only [asInt_int]
  refine ifB_dec (fun q3 => ?_) (fun q3 => ?_)
  · refine ldR p1.new rfl ?_
    simp only [asInt_int]
    exact k0 _ _ _ _ (hwn (by omega)) (by decide) o1
  refine ldR p1.new rfl ?_
  simp only [asInt_int]
  refine ifB_dec (fun q4 => ?_) (fun q4 => ?_)
  · refine ldR p1.new rfl ?_
    simp only [asInt_int]
    refine ldR p1.new rfl ?_
    simp only [asInt_int]
    refine ⟨by omega, ldR p1.new rfl ?_⟩
    simp only [asInt_int]
    refine ldR p1.new rfl ?_
    simp only [asInt_int]
    refine ⟨by omega, ?_⟩
    have hw : p.within a = some ((a - p.nodes) / p.width + 1) := by unfold Pl.within; rw [if_pos ⟨by omega, by omega⟩]
    have hd0 : 0 ≤ (a - p.nodes) / p.width := Int.ediv_nonneg (by omega) (by omega)
    have hd1 : (a - p.nodes) / p.width ≤ a - p.nodes := Int.ediv_le_self _ (by omega)
    rw [wrap64_id' (n := a - p.nodes) (by omega) (by omega), Int.tdiv_eq_ediv_of_nonneg (by omega), wrap64_id' (n := (a - p.nodes) / p.width) (by omega) (by omega), wrap64_id' (by omega) (by omega)]
    exact k1 _ _ _ hw o1
  · refine ldR p1.new rfl ?_
    simp only [asInt_int]
    exact k0 _ _ _ _ (hwn (by omega)) (by decide) o1
end
section
set_option maxRecDepth 100000
def F25 (K : Value → Heap → Prop) (h : Heap) (xa : Option Addr) : Prop :=
  (ifB (Option.isNone xa) (K (.slice none 0 0) h) (nP xa fun a0 => lS h a0 fun o2 k3 k4 => cf 49 #[.slice o2 k3 k4] h fun v5 h6 => asSlice v5 fun o7 k8 k9 => K (.slice o7 k8 k9) h6))
theorem call25 {K : Value → Heap → Prop} {h : Heap} {xa : Option Addr} (H : F25 K h xa) : CallH Tryz.prog 25 #[(.pointer xa)] h K :=
  callH_mk Tryz.func25 (by kernel_rfl) (Eq.mp (by kernel_rfl) H)
def F26 (K : Value → Heap → Prop) (h : Heap) (xa : Option Addr) : Prop :=
  (ifB (Option.isNone xa) (K (.int .i64 0) h) (nP xa fun a0 => lI .i64 h (Addr.add a0 1) fun n2 => K (.int .i64 n2) h))
theorem call26 {K : Value → Heap → Prop} {h : Heap} {xa : Option Addr} (H : F26 K h xa) : CallH Tryz.prog 26 #[(.pointer xa)] h K :=
  callH_mk Tryz.func26 (by kernel_rfl) (Eq.mp (by kernel_rfl) H)
def F31 (K : Value → Heap → Prop) (h : Heap) (xa : Int) : Prop :=
  (exI fun I0 => (ifB (decide (xa < 1)) (I0 [.bool true] h) (I0 [.bool (decide (xa > 4096))] h)) ∧ (∀ (v1 : Value) (g2 : Env) (h3 : Heap), (I0 [v1] h3) → (asBool v1 fun b4 => ifB b4 (K (.tuple #[.pointer none, .int .i64 2]) h3) (mkSlH Tryz.prog 65 xa xa h3 fun v5 h6 => asSlice v5 fun o7 k8 k9 => K (.tuple #[.pointer (some ⟨h6.size, 0, none⟩), .int .i64 0]) (Array.push h6 (.cells #[.slice o7 k8 k9, .int .i64 0, .bool false, .slice none 0 0] 110))))))
theorem call31 {K : Value → Heap → Prop} {h : Heap} {xa : Int} (H : F31 K h xa) : CallH Tryz.prog 31 #[(.int .i64 xa)] h K :=
  callH_mk Tryz.func31 (by kernel_rfl) (Eq.mp (by kernel_rfl) H)
def F35 (K : Value → Heap → Prop) (h : Heap) (xa xb : Int) : Prop :=
  (exI fun I0 => (exI fun I1 => (ifB (decide (xa < 1)) (I1 [.bool true] h) (I1 [.bool (decide (xa > 64))] h)) ∧ (∀ (v2 : Value) (g3 : Env) (h4 : Heap), (I1 [v2] h4) → (asBool v2 fun b5 => ifB b5 (I0 [.int .i64 0] h4) (I0 [.int .i64 xa] h4)))) ∧ (∀ (v6 : Value) (g7 : Env) (h8 : Heap), (I0 [v6] h8) → (asInt .i64 v6 fun n9 => mkSlH Tryz.prog 3 n9 n9 h8 fun v10 h11 => asSlice v10 fun o12 k13 k14 => minmax (fun n15 n16 => max2I n15 n16) Tryz.prog 3 [.int .i64 xb, .int .i64 0] fun n17 => asInt .i64 v6 fun n18 => minmax (fun n19 n20 => min2I n19 n20) Tryz.prog 3 [.int .i64 n17, .int .i64 n18] fun n21 => exI fun I22 => exM fun m23 => (I22 [.tuple #[], .int .i64 0] (Array.push h11 (.cells #[.slice o12 k13 k14, .int .i64 0, .int .i64 0] 138))) ∧ (∀ (v24 v25 : Value) (g26 : Env) (h27 : Heap), (I22 [v24, v25] h27) → (asInt .i64 v25 fun n28 => ifB (decide (n28 < n21)) (asInt .i64 v25 fun n29 => nilC (.pointer (some ⟨h11.size, 0, none⟩)) (lS h27 ⟨h11.size, 0, none⟩ fun o31 k32 k33 => bd n29 (k32 : Int) (asPtr (.pointer o31) fun a34 => stH h27 (Addr.add a34 (n29.toNat * 1)) (.int .i64 1) fun h35 => asInt .i64 v25 fun n36 => (I22 [.int .i64 n29, .int .i64 (IntKind.wrap .i64 (n36 + 1))] h35) ∧ ((m23 [.int .i64 n29, .int .i64 (IntKind.wrap .i64 (n36 + 1))] h35) < (m23 [v24, v25] h27))))) (K (.pointer (some ⟨h11.size, 0, none⟩)) h27))))))
theorem call35 {K : Value → Heap → Prop} {h : Heap} {xa xb : Int} (H : F35 K h xa xb) : CallH Tryz.prog 35 #[(.int .i64 xa), (.int .i64 xb)] h K :=
  callH_mk Tryz.func35 (by kernel_rfl) (Eq.mp (by kernel_rfl) H)
def F63 (K : Value → Heap → Prop) (h : Heap) (xa : Option Addr) (xb xc : Int) : Prop :=
  (cf 125 #[.pointer xa, .slice (some ⟨h.size, 0, none⟩) 1 1] (Array.push h (.cells #[.int .i64 xb] 3)) fun v0 h1 => asInt .i64 v0 fun n2 => ifB (n2 != 0) (K (.int .i64 n2) h1) (cf 126 #[.pointer xa, .agg #[.int .i64 1, .int .i64 xb, .int .i64 (-1), .bool true]] h1 fun v3 h4 => nP xa fun a5 => lS h4 a5 fun o7 k8 k9 => bd xb (k8 : Int) (asPtr (.pointer o7) fun a10 => stH h4 (Addr.add a10 (xb.toNat * 1)) (.int .u64 xc) fun h11 => K (.int .i64 0) h11)))
theorem call63 {K : Value → Heap → Prop} {h : Heap} {xa : Option Addr} {xb xc : Int} (H : F63 K h xa xb xc) : CallH Tryz.prog 63 #[(.pointer xa), (.int .i64 xb), (.int .u64 xc)] h K :=
  callH_mk Tryz.func63 (by kernel_rfl) (Eq.mp (by kernel_rfl) H)
abbrev g68 (K : Value → Heap → Prop) (h H1 : Heap) (xa : Option Addr) : Prop :=
  (ifB (Option.isNone xa) (stH H1 ⟨h.size, 0, none⟩ (.int .i64 0) fun h0 => stH h0 ⟨h.size, 1, none⟩ (.int .i64 0) fun h1 => ldH h1 ⟨h.size, 0, none⟩ fun v2 => ldH h1 ⟨h.size, 1, none⟩ fun v3 => K (.agg #[v2, v3]) h1) (nP xa fun a4 => ldH H1 (Addr.add a4 1) fun v5 => ldH H1 (Addr.add a4 2) fun v6 => stH H1 ⟨h.size, 0, none⟩ v5 fun h7 => stH h7 ⟨h.size, 1, none⟩ v6 fun h8 => ldH h8 ⟨h.size, 0, none⟩ fun v9 => ldH h8 ⟨h.size, 1, none⟩ fun v10 => K (.agg #[v9, v10]) h8))
def F68 (K : Value → Heap → Prop) (h : Heap) (xa : Option Addr) : Prop :=
  (g68 K h (Array.push h (.cells #[.int .i64 0, .int .i64 0] 136)) xa)
theorem call68 {K : Value → Heap → Prop} {h : Heap} {xa : Option Addr} (H : F68 K h xa) : CallH Tryz.prog 68 #[(.pointer xa)] h K :=
  callH_mk Tryz.func68 (by kernel_rfl) (Eq.mp (by kernel_rfl) H)
def F125 (K : Value → Heap → Prop) (h : Heap) (xa xb : Option Addr) (xc xd : Nat) : Prop :=
  (ifB (Option.isNone xa) (K (.int .i64 1) h) (exI fun I0 => exM fun m1 => (I0 [.int .i64 0, .tuple #[], .int .i64 0] h) ∧ (∀ (v2 v3 v4 : Value) (g5 : Env) (h6 : Heap), (I0 [v2, v3, v4] h6) → (asInt .i64 v4 fun n7 => ifB (decide (n7 < ((xc : Nat) : Int))) (asI v4 fun n8 => bd n8 ((xc : Nat) : Int) (asPtr (.pointer xb) fun a9 => lI .i64 h6 (Addr.add a9 (n8.toNat * 1)) fun n11 => exI fun I12 => (ifB (decide (n11 < 0)) (I12 [.bool true] h6) (nP xa fun a13 => lS h6 a13 fun o15 k16 k17 => I12 [.bool (decide (n11 ≥ (k16 : Int)))] h6)) ∧ (∀ (v18 : Value) (g19 : Env) (h20 : Heap), (I12 [v18] h20) → (asBool v18 fun b21 => ifB b21 (K (.int .i64 2) h20) (asInt .i64 v4 fun n22 => (I0 [v2, .int .i64 n11, .int .i64 (IntKind.wrap .i64 (n22 + 1))] h20) ∧ ((m1 [v2, .int .i64 n11, .int .i64 (IntKind.wrap .i64 (n22 + 1))] h20) < (m1 [v2, v3, v4] h6))))))) (K (.int .i64 0) h6)))))
theorem call125 {K : Value → Heap → Prop} {h : Heap} {xa xb : Option Addr} {xc xd : Nat} (H : F125 K h xa xb xc xd) : CallH Tryz.prog 125 #[(.pointer xa), (.slice xb xc xd)] h K :=
  callH_mk Tryz.func125 (by kernel_rfl) (Eq.mp (by kernel_rfl) H)
abbrev g126 (K : Value → Heap → Prop) (h H1 : Heap) (xa : Option Addr) : Prop :=
  (nP xa fun a0 => lI .i64 H1 (Addr.add a0 1) fun n2 => nP xa fun a3 => stH H1 (Addr.add a3 1) (.int .i64 (IntKind.wrap .i64 (n2 + 1))) fun h4 => nP xa fun a5 => ldH h4 (Addr.add a5 2) fun v6 => asBool v6 fun b7 => ifB b7 (nP xa fun a8 => ldH h4 (Addr.add a8 3) fun v9 => asSlice v9 fun o10 k11 k12 => ldH h4 ⟨h.size, 0, none⟩ fun v13 => ldH h4 ⟨h.size, 1, none⟩ fun v14 => ldH h4 ⟨h.size, 2, none⟩ fun v15 => ldH h4 ⟨h.size, 3, none⟩ fun v16 => ((cellAt (Array.push h4 (.cells #[v13, v14, v15, v16] 173)) (Addr.add a8 3)) = (some v9)) ∧ (appH Tryz.prog #[108, 108] 108 #[.slice o10 k11 k12, .slice (some ⟨h4.size, 0, none⟩) 1 1] (Array.push h4 (.cells #[v13, v14, v15, v16] 173)) fun v17 h18 => asSlice v17 fun o19 k20 k21 => nP xa fun a22 => stH h18 (Addr.add a22 3) (.slice o19 k20 k21) fun h23 => K (.tuple #[]) h23)) (K (.tuple #[]) h4))
def F126 (K : Value → Heap → Prop) (h : Heap) (xa : Option Addr) (xb xc xd : Int) (xe : Bool) : Prop :=
  (g126 K h (Array.push h (.cells #[.int .i64 xb, .int .i64 xc, .int .i64 xd, .bool xe] 173)) xa)
theorem call126 {K : Value → Heap → Prop} {h : Heap} {xa : Option Addr} {xb xc xd : Int} {xe : Bool} (H : F126 K h xa xb xc xd xe) : CallH Tryz.prog 126 #[(.pointer xa), (.agg #[(.int .i64 xb), (.int .i64 xc), (.int .i64 xd), (.bool xe)])] h K :=
  callH_mk Tryz.func126 (by kernel_rfl) (Eq.mp (by kernel_rfl) H)
def F158 (K : Value → Heap → Prop) (h : Heap) (xa : Option Addr) (xb : Int) : Prop :=
  (cf 125 #[.pointer xa, .slice (some ⟨h.size, 0, none⟩) 1 1] (Array.push h (.cells #[.int .i64 xb] 3)) fun v0 h1 => asInt .i64 v0 fun n2 => ifB (n2 != 0) (K (.tuple #[.int .u64 0, .int .i64 n2]) h1) (cf 126 #[.pointer xa, .agg #[.int .i64 0, .int .i64 xb, .int .i64 (-1), .bool false]] h1 fun v3 h4 => nP xa fun a5 => lS h4 a5 fun o7 k8 k9 => bd xb (k8 : Int) (asPtr (.pointer o7) fun a10 => lI .u64 h4 (Addr.add a10 (xb.toNat * 1)) fun n12 => K (.tuple #[.int .u64 n12, .int .i64 0]) h4)))
theorem call158 {K : Value → Heap → Prop} {h : Heap} {xa : Option Addr} {xb : Int} (H : F158 K h xa xb) : CallH Tryz.prog 158 #[(.pointer xa), (.int .i64 xb)] h K :=
  callH_mk Tryz.func158 (by kernel_rfl) (Eq.mp (by kernel_rfl) H)
def F194 (K : Value → Heap → Prop) (h : Heap) (xa : Option Addr) (xb xc : Int) : Prop :=
  (cf 125 #[.pointer xa, .slice (some ⟨h.size, 0, none⟩) 1 1] (Array.push h (.cells #[.int .i64 xb] 3)) fun v0 h1 => asInt .i64 v0 fun n2 => ifB (n2 != 0) (K (.tuple #[.int .u64 0, .int .i64 n2]) h1) (cf 126 #[.pointer xa, .agg #[.int .i64 3, .int .i64 xb, .int .i64 (-1), .bool true]] h1 fun v3 h4 => nP xa fun a5 => lS h4 a5 fun o7 k8 k9 => bd xb (k8 : Int) (asPtr (.pointer o7) fun a10 => lI .u64 h4 (Addr.add a10 (xb.toNat * 1)) fun n12 => nP xa fun a13 => lS h4 a13 fun o15 k16 k17 => bd xb (k16 : Int) (asPtr (.pointer o15) fun a18 => lI .u64 h4 (Addr.add a18 (xb.toNat * 1)) fun n20 => bd xb (k16 : Int) (asPtr (.pointer o15) fun a21 => stH h4 (Addr.add a21 (xb.toNat * 1)) (.int .u64 (IntKind.wrap .u64 (n20 + xc))) fun h22 => K (.tuple #[.int .u64 n12, .int .i64 0]) h22)))))
theorem call194 {K : Value → Heap → Prop} {h : Heap} {xa : Option Addr} {xb xc : Int} (H : F194 K h xa xb xc) : CallH Tryz.prog 194 #[(.pointer xa), (.int .i64 xb), (.int .u64 xc)] h K :=
  callH_mk Tryz.func194 (by kernel_rfl) (Eq.mp (by kernel_rfl) H)
def F204 (K : Value → Heap → Prop) (h : Heap) (xa : Option Addr) (xb xc xd : Int) : Prop :=
  (cf 125 #[.pointer xa, .slice (some ⟨h.size, 0, none⟩) 1 1] (Array.push h (.cells #[.int .i64 xb] 3)) fun v0 h1 => asInt .i64 v0 fun n2 => ifB (n2 != 0) (K (.tuple #[.bool false, .int .i64 n2]) h1) (nP xa fun a3 => lS h1 a3 fun o5 k6 k7 => bd xb (k6 : Int) (asPtr (.pointer o5) fun a8 => lI .u64 h1 (Addr.add a8 (xb.toNat * 1)) fun n10 => exI fun I11 => (ifB (n10 == xc) (nP xa fun a12 => lS h1 a12 fun o14 k15 k16 => bd xb (k15 : Int) (asPtr (.pointer o14) fun a17 => stH h1 (Addr.add a17 (xb.toNat * 1)) (.int .u64 xd) fun h18 => I11 [] h18)) (I11 [] h1)) ∧ (∀ (g19 : Env) (h20 : Heap), (I11 [] h20) → (cf 126 #[.pointer xa, .agg #[.int .i64 2, .int .i64 xb, .int .i64 (-1), .bool (n10 == xc)]] h20 fun v21 h22 => K (.tuple #[.bool (n10 == xc), .int .i64 0]) h22)))))
theorem call204 {K : Value → Heap → Prop} {h : Heap} {xa : Option Addr} {xb xc xd : Int} (H : F204 K h xa xb xc xd) : CallH Tryz.prog 204 #[(.pointer xa), (.int .i64 xb), (.int .u64 xc), (.int .u64 xd)] h K :=
  callH_mk Tryz.func204 (by kernel_rfl) (Eq.mp (by kernel_rfl) H)
def F208 (K : Value → Heap → Prop) (h : Heap) (xa : Option Addr) (xb : Int) : Prop :=
  (exI fun I0 => (ifB (Option.isNone xa) (I0 [.bool true, .bool true, .bool true] h) (ifB (decide (xb < 1)) (I0 [.bool true, .bool (decide (xb < 1)), .bool true] h) (nP xa fun a1 => lS h a1 fun o3 k4 k5 => I0 [.bool (decide (xb > (k4 : Int))), .bool (decide (xb < 1)), .bool (decide (xb > (k4 : Int)))] h))) ∧ (∀ (v6 v7 v8 : Value) (g9 : Env) (h10 : Heap), (I0 [v6, v7, v8] h10) → (asBool v6 fun b11 => ifB b11 (cf 223 #[.pointer xa, .int .i64 5, .int .i64 xb] h10 fun v12 h13 => asBool v12 fun b14 => K (.bool b14) h13) (nP xa fun a15 => lS h10 a15 fun o17 k18 k19 => ((0 : Int) ≤ (IntKind.wrap .i64 (xb - 1))) ∧ ((((IntKind.wrap .i64 (xb - 1)) : Int) < (k18 : Int)) ∧ (asPtr (.pointer o17) fun a20 => ldH h10 (Addr.add a20 ((IntKind.wrap .i64 (xb - 1)).toNat * 1)) fun v21 => asInt .i64 v21 fun n22 => ifB (n22 == 0) (cf 223 #[.pointer xa, .int .i64 4, .int .i64 xb] h10 fun v23 h24 => asBool v23 fun b25 => K (.bool b25) h24) (K (.bool true) h10)))))))
theorem call208 {K : Value → Heap → Prop} {h : Heap} {xa : Option Addr} {xb : Int} (H : F208 K h xa xb) : CallH Tryz.prog 208 #[(.pointer xa), (.int .i64 xb)] h K :=
  callH_mk Tryz.func208 (by kernel_rfl) (Eq.mp (by kernel_rfl) H)
def F214 (K : Value → Heap → Prop) (h : Heap) (xa : Option Addr) (xb : Int) : Prop :=
  (cf 225 #[.pointer xa, .int .i64 xb, .int .i64 1, .int .i64 2, .int .i64 2] h fun v0 h1 => asBool v0 fun b2 => K (.bool b2) h1)
theorem call214 {K : Value → Heap → Prop} {h : Heap} {xa : Option Addr} {xb : Int} (H : F214 K h xa xb) : CallH Tryz.prog 214 #[(.pointer xa), (.int .i64 xb)] h K :=
  callH_mk Tryz.func214 (by kernel_rfl) (Eq.mp (by kernel_rfl) H)
def F223 (K : Value → Heap → Prop) (h : Heap) (xa : Option Addr) (xb xc : Int) : Prop :=
  (exI fun I0 => (ifB (!(Option.isNone xa)) (nP xa fun a1 => ldH h (Addr.add a1 1) fun v2 => ldH h (Addr.add a1 2) fun v3 => eqvH Tryz.prog 136 (.agg #[v2, v3]) (.agg #[.int .i64 0, .int .i64 0]) fun b4 => I0 [.bool b4] h) (I0 [.bool false] h)) ∧ (∀ (v5 : Value) (g6 : Env) (h7 : Heap), (I0 [v5] h7) → (asBool v5 fun b8 => ifB b8 (nP xa fun a9 => stH h7 (Addr.add a9 1) (.int .i64 xb) fun h10 => stH h10 (Addr.add a9 2) (.int .i64 xc) fun h11 => K (.bool false) h11) (K (.bool false) h7))))
theorem call223 {K : Value → Heap → Prop} {h : Heap} {xa : Option Addr} {xb xc : Int} (H : F223 K h xa xb xc) : CallH Tryz.prog 223 #[(.pointer xa), (.int .i64 xb), (.int .i64 xc)] h K :=
  callH_mk Tryz.func223 (by kernel_rfl) (Eq.mp (by kernel_rfl) H)
def F225 (K : Value → Heap → Prop) (h : Heap) (xa : Option Addr) (xb xc xd xe : Int) : Prop :=
  (exI fun I0 => (ifB (Option.isNone xa) (I0 [.bool true, .bool true, .bool true] h) (ifB (decide (xb < 1)) (I0 [.bool true, .bool (decide (xb < 1)), .bool true] h) (nP xa fun a1 => lS h a1 fun o3 k4 k5 => I0 [.bool (decide (xb > (k4 : Int))), .bool (decide (xb < 1)), .bool (decide (xb > (k4 : Int)))] h))) ∧ (∀ (v6 v7 v8 : Value) (g9 : Env) (h10 : Heap), (I0 [v6, v7, v8] h10) → (asBool v6 fun b11 => ifB b11 (cf 223 #[.pointer xa, .int .i64 5, .int .i64 xb] h10 fun v12 h13 => asBool v12 fun b14 => K (.bool b14) h13) (nP xa fun a15 => lS h10 a15 fun o17 k18 k19 => ((0 : Int) ≤ (IntKind.wrap .i64 (xb - 1))) ∧ ((((IntKind.wrap .i64 (xb - 1)) : Int) < (k18 : Int)) ∧ (asPtr (.pointer o17) fun a20 => ldH h10 (Addr.add a20 ((IntKind.wrap .i64 (xb - 1)).toNat * 1)) fun v21 => asInt .i64 v21 fun n22 => ifB (n22 != xc) (cf 223 #[.pointer xa, .int .i64 xe, .int .i64 xb] h10 fun v23 h24 => asBool v23 fun b25 => K (.bool b25) h24) (nP xa fun a26 => lS h10 a26 fun o28 k29 k30 => ((0 : Int) ≤ (IntKind.wrap .i64 (xb - 1))) ∧ ((((IntKind.wrap .i64 (xb - 1)) : Int) < (k29 : Int)) ∧ (asPtr (.pointer o28) fun a31 => stH h10 (Addr.add a31 ((IntKind.wrap .i64 (xb - 1)).toNat * 1)) (.int .i64 xd) fun h32 => K (.bool true) h32)))))))))
theorem call225 {K : Value → Heap → Prop} {h : Heap} {xa : Option Addr} {xb xc xd xe : Int} (H : F225 K h xa xb xc xd xe) : CallH Tryz.prog 225 #[(.pointer xa), (.int .i64 xb), (.int .i64 xc), (.int .i64 xd), (.int .i64 xe)] h K :=
  callH_mk Tryz.func225 (by kernel_rfl) (Eq.mp (by kernel_rfl) H)
def F229 (K : Value → Heap → Prop) (h : Heap) (xa : Option Addr) (xb : Int) : Prop :=
  (cf 225 #[.pointer xa, .int .i64 xb, .int .i64 0, .int .i64 1, .int .i64 1] h fun v0 h1 => asBool v0 fun b2 => K (.bool b2) h1)
theorem call229 {K : Value → Heap → Prop} {h : Heap} {xa : Option Addr} {xb : Int} (H : F229 K h xa xb) : CallH Tryz.prog 229 #[(.pointer xa), (.int .i64 xb)] h K :=
  callH_mk Tryz.func229 (by kernel_rfl) (Eq.mp (by kernel_rfl) H)
def F230 (K : Value → Heap → Prop) (h : Heap) (xa : Option Addr) (xb : Int) : Prop :=
  (cf 225 #[.pointer xa, .int .i64 xb, .int .i64 2, .int .i64 0, .int .i64 3] h fun v0 h1 => asBool v0 fun b2 => K (.bool b2) h1)
theorem call230 {K : Value → Heap → Prop} {h : Heap} {xa : Option Addr} {xb : Int} (H : F230 K h xa xb) : CallH Tryz.prog 230 #[(.pointer xa), (.int .i64 xb)] h K :=
  callH_mk Tryz.func230 (by kernel_rfl) (Eq.mp (by kernel_rfl) H)
end
section
open Mod
def uvs (w : List Int) : List Value := w.map fun n => .int .u64 n
def accC (x : Acc) : List Value := [.int .i64 x.kind, .int .i64 x.a, .int .i64 x.b, .bool x.done]
abbrev memC (b : Nat) (la : Option Addr) (lc : Nat) (m : Mm) : List Value := [.slice (some ⟨b, 0, none⟩) m.w.length m.w.length, .int .i64 m.st, .bool m.wt, .slice la m.lg.length lc]
structure MmB (m : Mm) : Prop where
  len : m.w.length ≤ 4096
  st : 0 ≤ m.st
  lg : (m.lg.length : Int) ≤ m.st
  us : ∀ v ∈ m.w, U v
def memS (q : Nat) (m : Mm) : Hp := ex fun b => ex fun la => ex fun lc => pr (MmB m) (pt q (.cells (memC b la lc m).toArray 110) * (pt b (.cells (uvs m.w).toArray 65) * ownS 173 4 la m.lg.length lc (m.lg.flatMap accC)))
theorem memS_iff {h : Heap} {q : Nat} {m : Mm} {R : Hp} : Sat h (memS q m * R) ↔ ∃ b la lc, MmB m ∧ Sat h (pt q (.cells (memC b la lc m).toArray 110) * (pt b (.cells (uvs m.w).toArray 65) * (ownS 173 4 la m.lg.length lc (m.lg.flatMap accC) * R))) := by
  unfold memS
  simp only [Sat.ex, Sat.pr, star_assoc]
theorem memS_B {h : Heap} {q : Nat} {m : Mm} {R : Hp} (H : Sat h (memS q m * R)) : MmB m := by obtain ⟨_, _, _, x, _⟩ := memS_iff.1 H; exact x
theorem getD_U {w : List Int} (h : ∀ v ∈ w, U v) (i : Nat) : U (w.getD i 0) := by
  rw [List.getD_eq_getElem?_getD]
  cases e : w[i]? with
  | none => exact ⟨by simp, by simp⟩
  | some v => exact h v (List.mem_of_getElem? e)
theorem MmB.get {m : Mm} (B : MmB m) (a : Int) : U (m.get a) := getD_U B.us _
theorem mem_set_all {P : Int → Prop} {w : List Int} {i : Nat} {v : Int} (h : ∀ x ∈ w, P x) (hv : P v) : ∀ x ∈ w.set i v, P x := fun x hx => by
  rcases List.mem_or_eq_of_mem_set hx with h1 | h1
  · exact h x h1
  · rw [h1]; exact hv
theorem MmB.put {m : Mm} (B : MmB m) {a v : Int} (hv : U v) : MmB (m.put a v) := ⟨by unfold Mm.put; rw [List.length_set]; exact B.len, B.st, B.lg, mem_set_all B.us hv⟩
theorem MmB.tick {m : Mm} (B : MmB m) (k a b : Int) (d : Bool) : MmB (m.tick k a b d) := by
  have := B.st
  have h2 := B.lg
  refine ⟨B.len, by unfold Mm.tick; simp only; omega, ?_, B.us⟩
  unfold Mm.tick
  simp only
  split
  · rw [List.length_append]; simp; omega
  · omega
theorem uvs_at {h : Heap} {b : Nat} {w : List Int} {t : TypeId} (e : h[b]? = some (.cells (uvs w).toArray t)) {a : Int} (h0 : 0 ≤ a) (h1 : a < w.length) : cellAt h ⟨b, a.toNat, none⟩ = some (.int .u64 (w.getD a.toNat 0)) := by
  rw [cellAt_of e, List.getElem?_toArray]
  unfold uvs
  rw [List.getElem?_map, List.getElem?_eq_getElem (by omega), List.getD_eq_getElem?_getD, List.getElem?_eq_getElem (by omega)]
  rfl
theorem st_nat {h : Heap} {b i : Nat} {v : Value} {row : List Value} {t : TypeId} {R : Hp} {K : Heap → Prop} (H : Sat h (pt b (.cells row.toArray t) * R)) (hi : i < row.length) (ho : oneC v True)
    (k : ∀ h', Sat h' (pt b (.cells (row.set i v).toArray t) * R) → K h') : stH h ⟨b, i, none⟩ v K :=
  H.st (by rw [Nat.ble_eq]; exact hi) ho k
theorem und_acc : und Tryz.prog 108 = .slice 173 := by kernel_rfl
theorem there_acc : there Tryz.prog 173 = true := by kernel_rfl
theorem zer_acc : zer Tryz.prog 173 = some (.agg #[.int .i64 0, .int .i64 0, .int .i64 0, .bool false]) := by kernel_rfl
theorem siz_acc : siz Tryz.prog 173 = 4 := by kernel_rfl
theorem byt_acc : byt Tryz.prog 173 = 32 := by kernel_rfl
theorem mRight_call {K : Value → Heap → Prop} {h : Heap} {q wl wc : Nat} {wa a : Option Addr} {l c : Nat} {L : List Int} (H : cellAt h ⟨q, 0, none⟩ = some (.slice wa wl wc)) (R : RI h a l c L) (hl : l < 2 ^ 60) (k : K (.int .i64 (if L.all (fun x => decide (0 ≤ x ∧ x < wl)) then 0 else 2)) h) :
    CallH Tryz.prog 125 #[.pointer (some ⟨q, 0, none⟩), .slice a l c] h K := by
  refine call125 ?_
  unfold F125 bd lS lI nP
  have hlen := R.len
  simp only [Option.isNone_some, ifB_false]
  generalize hok : (fun x : Int => decide (0 ≤ x ∧ x < (wl : Int))) = ok at *
  refine ⟨fun vs h' => ∃ w1 w2, ∃ i : Nat, vs = [w1, w2, iv i] ∧ i ≤ l ∧ h' = h ∧ (L.take i).all ok = true, fun vs _ => (match vs with | [_, _, .int _ n] => l - n.toNat | _ => 0), ⟨_, _, 0, rfl, Nat.zero_le _, rfl, rfl⟩, ?_⟩
  rintro v2 v3 v4 g5 h6 ⟨w1, w2, i, e, hi, rfl, hall⟩
  cases e
  simp only [asInt_int, asI_int]
  refine ifB_dec (fun hlt => ?_) (fun hge => ?_)
  · have hi' : i < L.length := by omega
    obtain ⟨ad, rfl, hc⟩ := R.at hi'
    have htk : (L.take (i + 1)).all ok = ((L.take i).all ok && ok L[i]) := by rw [List.take_succ_eq_append_getElem hi', List.all_append]; simp
    have hmem : L.all ok = true → ok L[i] = true := fun h => List.all_eq_true.1 h _ (List.getElem_mem hi')
    generalize L[i] = x at *
    refine ⟨by omega, hlt, ?_⟩
    simp only [asPtr_some, Int.toNat_natCast, Nat.mul_one]
    refine ldH_mk hc ?_
    simp only [asInt_int]
    refine ⟨fun vs h' => vs = [.bool (!ok x)] ∧ h' = h6, ?_, ?_⟩
    · refine ifB_dec (fun q => ⟨by rw [← hok]; simp only; rw [decide_eq_false (by omega)]; rfl, by trivial⟩) (fun q => ?_)
      simp only [nilC, asPtr_some]
      refine ldH_mk H ?_
      simp only [asSlice_slice]
      refine ⟨?_, by trivial⟩
      rw [← hok]
      simp only
      congr 2
      rw [← decide_not, decide_eq_decide]; omega
    rintro v18 g19 h20 ⟨e, rfl⟩
    cases e
    simp only [asBool_bool]
    refine ifB_mk (fun hq => ?_) (fun hq => ?_)
    · have e : L.all ok = false := by
        apply Decidable.byContradiction
        intro h
        have := hmem (by simpa using h)
        rw [this] at hq; cases hq
      rw [e] at k
      exact k
    · rw [nat_wrap1 (by omega)]
      exact ⟨⟨_, _, i + 1, rfl, by omega, by trivial, by rw [htk, hall]; simpa using hq⟩, by show l - ((i + 1 : Nat) : Int).toNat < l - (i : Int).toNat; omega⟩
  · rw [List.take_of_length_le (by omega)] at hall
    rw [hall] at k
    exact k
theorem mCount_call {K : Value → Heap → Prop} {h : Heap} {q : Nat} {m : Mm} {R : Hp} {x0 x1 x2 : Int} {x3 : Bool} (H : Sat h (memS q m * R)) (hs : m.st < 1099511627776) (k : ∀ h', Sat h' (memS q (m.tick x0 x1 x2 x3) * R) → K (.tuple #[]) h') :
    CallH Tryz.prog 126 #[.pointer (some ⟨q, 0, none⟩), .agg #[.int .i64 x0, .int .i64 x1, .int .i64 x2, .bool x3]] h K := by
  refine call126 ?_
  unfold F126 g126 lI nP
  simp only [nilC, asPtr_some, add_lit]
  obtain ⟨b, la, lc, B, H0⟩ := memS_iff.1 H
  have Bst := B.st
  have Blg := B.lg
  have H1 := H0.push (.cells #[.int .i64 x0, .int .i64 x1, .int .i64 x2, .bool x3] 173)
  generalize h.push (.cells #[.int .i64 x0, .int .i64 x1, .int .i64 x2, .bool x3] 173) = h1 at *
  generalize h.size = N at *
  rw [star_left] at H1
  refine H1.ld rfl ?_
  simp only [asInt_int]
  rw [wrap64_id' (by omega) (by omega)]
  refine H1.st rfl trivial fun h4 H4 => ?_
  refine H4.ld rfl ?_
  simp only [asBool_bool]
  have kT : ∀ h', (∃ b la lc, Sat h' (pt q (.cells (memC b la lc (m.tick x0 x1 x2 x3)).toArray 110) * (pt b (.cells (uvs m.w).toArray 65) * (ownS 173 4 la (m.tick x0 x1 x2 x3).lg.length lc ((m.tick x0 x1 x2 x3).lg.flatMap accC) * R)))) → K (.tuple #[]) h' := fun h' ⟨b, la, lc, H'⟩ =>
    k h' (memS_iff.2 ⟨b, la, lc, B.tick x0 x1 x2 x3, H'⟩)
  unfold Mm.tick at kT
  cases hw : m.wt with
  | false =>
    simp only [ifB_false]
    simp only [hw, Bool.false_eq_true, if_false] at kT
    exact kT h4 ⟨b, la, lc, by simpa [hw] using H4.drop2⟩
  | true =>
    simp only [ifB_true]
    simp only [hw, if_true] at kT
    refine H4.ld rfl ?_
    simp only [asSlice_slice]
    have HN : Sat h4 _ := (star_left _ _ _ ▸ H4)
    refine HN.ld rfl (HN.ld rfl (HN.ld rfl (HN.ld rfl ?_)))
    have H5 := H4.push (.cells #[.int .i64 x0, .int .i64 x1, .int .i64 x2, .bool x3] 173)
    generalize h4.push (.cells #[.int .i64 x0, .int .i64 x1, .int .i64 x2, .bool x3] 173) = h5 at *
    generalize h4.size = N4 at *
    refine ⟨cellR H5.at2 rfl, ?_⟩
    have hrot : ∀ (X : Hp) (A B C D E : Hp), A * (B * (C * (D * (E * X)))) = E * (A * (B * (C * (D * X)))) := fun X A B C D E => by
      rw [star_left D E, star_left C E, star_left B E, star_left A E]
    have HA := H5
    rw [hrot] at HA
    have hsee : Sees h5 (some ⟨N4, 0, none⟩) (accC ⟨x0, x1, x2, x3⟩) := fun i v hi => ⟨_, rfl, by rw [add_lit, Nat.zero_add, cellAt_of H5.at]; simpa [accC] using hi⟩
    rw [← siz_acc] at HA
    refine HA.app und_acc there_acc zer_acc (by rw [siz_acc]; rfl) hsee (n := 1) (by rw [siz_acc]; rfl) (by simp [accC, oneC]) (by rw [byt_acc]; omega) (by rw [byt_acc]; omega) fun a' c' h' H6 => ?_
    rw [siz_acc] at H6
    simp only [asSlice_slice]
    rw [← hrot] at H6
    have H7 : Sat h' _ := (star_left _ _ _ ▸ H6)
    refine H7.st rfl trivial fun h8 H8 => ?_
    refine kT h8 ⟨b, a', c', ?_⟩
    have H9 := H8.drop2.drop2
    unfold memC; simpa [hw] using H9
theorem memS_words {h : Heap} {q : Nat} {m : Mm} {R : Hp} (H : Sat h (memS q m * R)) : ∃ b, cellAt h ⟨q, 0, none⟩ = some (.slice (some ⟨b, 0, none⟩) m.w.length m.w.length) ∧ (∀ a, m.ok a = true → cellAt h ⟨b, a.toNat, none⟩ = some (.int .u64 (m.get a))) ∧
    ∀ a v, m.ok a = true → U v → ∀ K : Heap → Prop, (∀ h', Sat h' (memS q (m.put a v) * R) → K h') → stH h ⟨b, a.toNat, none⟩ (.int .u64 v) K := by
  obtain ⟨b, la, lc, B, H0⟩ := memS_iff.1 H
  refine ⟨b, cellR H0.at rfl, fun a ha => ?_, fun a v ha hv K k => ?_⟩
  · unfold Mm.ok at ha
    rw [decide_eq_true_eq] at ha
    exact uvs_at H0.at2 ha.1 ha.2
  · unfold Mm.ok at ha
    rw [decide_eq_true_eq] at ha
    have H1 : Sat h _ := (star_left _ _ _ ▸ H0)
    refine st_nat H1 (by unfold uvs; rw [List.length_map]; omega) trivial fun h' H2 => k h' (memS_iff.2 ⟨b, la, lc, B.put hv, ?_⟩)
    have H3 : Sat h' _ := (star_left _ _ _ ▸ H2)
    unfold Mm.put
    simp only
    rw [show uvs (m.w.set a.toNat v) = (uvs m.w).set a.toNat (.int .u64 v) by unfold uvs; rw [List.map_set]]
    unfold memC
    simp only [List.length_set]
    exact H3
theorem Mm.ok_iff {m : Mm} {a : Int} : m.ok a = true ↔ 0 ≤ a ∧ a < m.w.length := by unfold Mm.ok; rw [decide_eq_true_eq]
theorem RI_one {h : Heap} {N : Nat} {a : Int} {t : TypeId} (e : h[N]? = some (.cells #[.int .i64 a] t)) : RI h (some ⟨N, 0, none⟩) 1 1 [a] :=
  ⟨fun j v hj => ⟨_, rfl, by rw [add_lit, cellAt_of e, Nat.zero_add]; simpa using hj⟩, rfl, Nat.le_refl _⟩
theorem all1 {m : Mm} {a : Int} : ([a].all fun x => decide (0 ≤ x ∧ x < (m.w.length : Int))) = m.ok a := by simp [Mm.ok]
theorem mLoad_call {K : Value → Heap → Prop} {h : Heap} {q : Nat} {m : Mm} {R : Hp} {a : Int} (H : Sat h (memS q m * R)) (hs : m.st < 1099511627776)
    (k1 : m.ok a = true → ∀ h', Sat h' (memS q (m.tick 0 a (-1) false) * R) → K (.tuple #[.int .u64 (m.get a), .int .i64 0]) h') (k0 : m.ok a = false → ∀ h', Sat h' (memS q m * R) → K (.tuple #[.int .u64 0, .int .i64 2]) h') :
    CallH Tryz.prog 158 #[.pointer (some ⟨q, 0, none⟩), .int .i64 a] h K := by
  refine call158 ?_
  unfold F158 cf bd lS lI nP
  have H1 := (H.push (.cells #[.int .i64 a] 3))
  generalize h.push (.cells #[.int .i64 a] 3) = h1 at *
  generalize h.size = N at *
  obtain ⟨b, w0, w1, w2⟩ := memS_words (star_left _ _ _ ▸ H1 : Sat h1 (memS q m * (_ * R)))
  refine callV_fn (mRight_call w0 (RI_one H1.at) (by omega) ?_)
  rw [all1]
  simp only [asInt_int]
  cases hok : m.ok a with
  | false =>
    simp only [Bool.false_eq_true, if_false]
    rw [show ((2 : Int) != 0) = true from rfl]
    simp only [ifB_true]
    exact k0 hok h1 H1.drop
  | true =>
    simp only [if_true]
    rw [show ((0 : Int) != 0) = false from rfl]
    simp only [ifB_false]
    obtain ⟨a0, a1⟩ := Mm.ok_iff.1 hok
    refine callV_fn (mCount_call H1.drop hs fun h4 H4 => ?_)
    simp only [nilC, asPtr_some]
    obtain ⟨b, w0, w1, w2⟩ := memS_words H4
    refine ldH_mk w0 ?_
    simp only [asSlice_slice]
    refine ⟨a0, a1, ?_⟩
    simp only [asPtr_some, Nat.mul_one]
    rw [add_lit, Nat.zero_add]
    refine ldH_mk (w1 a hok) ?_
    simp only [asInt_int]
    exact k1 hok h4 H4
theorem mStore_call {K : Value → Heap → Prop} {h : Heap} {q : Nat} {m : Mm} {R : Hp} {a v : Int} (H : Sat h (memS q m * R)) (hv : U v) (hs : m.st < 1099511627776)
    (k1 : m.ok a = true → ∀ h', Sat h' (memS q ((m.tick 1 a (-1) true).put a v) * R) → K (.int .i64 0) h') (k0 : m.ok a = false → ∀ h', Sat h' (memS q m * R) → K (.int .i64 2) h') :
    CallH Tryz.prog 63 #[.pointer (some ⟨q, 0, none⟩), .int .i64 a, .int .u64 v] h K := by
  refine call63 ?_
  unfold F63 cf bd lS nP
  have H1 := (H.push (.cells #[.int .i64 a] 3))
  generalize h.push (.cells #[.int .i64 a] 3) = h1 at *
  generalize h.size = N at *
  obtain ⟨b, w0, w1, w2⟩ := memS_words (star_left _ _ _ ▸ H1 : Sat h1 (memS q m * (_ * R)))
  refine callV_fn (mRight_call w0 (RI_one H1.at) (by omega) ?_)
  rw [all1]
  simp only [asInt_int]
  cases hok : m.ok a with
  | false =>
    simp only [Bool.false_eq_true, if_false]
    rw [show ((2 : Int) != 0) = true from rfl]
    simp only [ifB_true]
    exact k0 hok h1 H1.drop
  | true =>
    simp only [if_true]
    rw [show ((0 : Int) != 0) = false from rfl]
    simp only [ifB_false]
    obtain ⟨a0, a1⟩ := Mm.ok_iff.1 hok
    refine callV_fn (mCount_call H1.drop hs fun h4 H4 => ?_)
    simp only [nilC, asPtr_some]
    obtain ⟨b, w0, w1, w2⟩ := memS_words H4
    refine ldH_mk w0 ?_
    simp only [asSlice_slice]
    refine ⟨a0, a1, ?_⟩
    simp only [asPtr_some, Nat.mul_one]
    rw [add_lit, Nat.zero_add]
    exact w2 a v hok hv _ fun h' H' => k1 hok h' H'
theorem u64_U (n : Int) : U (u64 n) := ⟨by unfold u64; omega, by unfold u64; omega⟩
theorem mAdd_call {K : Value → Heap → Prop} {h : Heap} {q : Nat} {m : Mm} {R : Hp} {a d : Int} (H : Sat h (memS q m * R)) (hs : m.st < 1099511627776)
    (k1 : m.ok a = true → ∀ h', Sat h' (memS q ((m.tick 3 a (-1) true).put a (u64 (m.get a + d))) * R) → K (.tuple #[.int .u64 (m.get a), .int .i64 0]) h') (k0 : m.ok a = false → ∀ h', Sat h' (memS q m * R) → K (.tuple #[.int .u64 0, .int .i64 2]) h') :
    CallH Tryz.prog 194 #[.pointer (some ⟨q, 0, none⟩), .int .i64 a, .int .u64 d] h K := by
  refine call194 ?_
  unfold F194 cf bd lS lI nP
  have H1 := (H.push (.cells #[.int .i64 a] 3))
  generalize h.push (.cells #[.int .i64 a] 3) = h1 at *
  generalize h.size = N at *
  obtain ⟨b, w0, w1, w2⟩ := memS_words (star_left _ _ _ ▸ H1 : Sat h1 (memS q m * (_ * R)))
  refine callV_fn (mRight_call w0 (RI_one H1.at) (by omega) ?_)
  rw [all1]
  simp only [asInt_int]
  cases hok : m.ok a with
  | false =>
    simp only [Bool.false_eq_true, if_false]
    rw [show ((2 : Int) != 0) = true from rfl]
    simp only [ifB_true]
    exact k0 hok h1 H1.drop
  | true =>
    simp only [if_true]
    rw [show ((0 : Int) != 0) = false from rfl]
    simp only [ifB_false]
    obtain ⟨a0, a1⟩ := Mm.ok_iff.1 hok
    refine callV_fn (mCount_call H1.drop hs fun h4 H4 => ?_)
    simp only [nilC, asPtr_some]
    obtain ⟨b, w0, w1, w2⟩ := memS_words H4
    refine ldH_mk w0 ?_
    simp only [asSlice_slice]
    refine ⟨a0, a1, ?_⟩
    simp only [asPtr_some, Nat.mul_one]
    rw [add_lit, Nat.zero_add]
    refine ldH_mk (w1 a hok) ?_
    simp only [asInt_int]
    refine ldH_mk w0 ?_
    simp only [asSlice_slice]
    refine ⟨a0, a1, ?_⟩
    simp only [asPtr_some]
    try rw [add_lit, Nat.zero_add]
    refine ldH_mk (w1 a hok) ?_
    simp only [asInt_int]
    refine ⟨a0, a1, ?_⟩
    rw [wrapu_mod]
    exact w2 a _ hok (u64_U _) _ fun h' H' => k1 hok h' H'
theorem mCas_call {K : Value → Heap → Prop} {h : Heap} {q : Nat} {m : Mm} {R : Hp} {a o n : Int} (H : Sat h (memS q m * R)) (hn : U n) (hs : m.st < 1099511627776)
    (k1 : m.ok a = true → ∀ h', Sat h' (memS q (m.cas a o n) * R) → K (.tuple #[.bool (decide (m.get a = o)), .int .i64 0]) h') (k0 : m.ok a = false → ∀ h', Sat h' (memS q m * R) → K (.tuple #[.bool false, .int .i64 2]) h') :
    CallH Tryz.prog 204 #[.pointer (some ⟨q, 0, none⟩), .int .i64 a, .int .u64 o, .int .u64 n] h K := by
  refine call204 ?_
  unfold F204 cf bd lS lI nP
  have H1 := (H.push (.cells #[.int .i64 a] 3))
  generalize h.push (.cells #[.int .i64 a] 3) = h1 at *
  generalize h.size = N at *
  have H2 : Sat h1 (memS q m * (_ * R)) := (star_left _ _ _ ▸ H1)
  obtain ⟨b, w0, w1, w2⟩ := memS_words H1.drop
  refine callV_fn (mRight_call w0 (RI_one H1.at) (by omega) ?_)
  rw [all1]
  simp only [asInt_int]
  cases hok : m.ok a with
  | false =>
    simp only [Bool.false_eq_true, if_false]
    rw [show ((2 : Int) != 0) = true from rfl]
    simp only [ifB_true]
    exact k0 hok h1 H1.drop
  | true =>
    simp only [if_true]
    rw [show ((0 : Int) != 0) = false from rfl]
    simp only [ifB_false, nilC, asPtr_some]
    obtain ⟨a0, a1⟩ := Mm.ok_iff.1 hok
    refine ldH_mk w0 ?_
    simp only [asSlice_slice]
    refine ⟨a0, a1, ?_⟩
    simp only [asPtr_some, Nat.mul_one]
    rw [add_lit, Nat.zero_add]
    refine ldH_mk (w1 a hok) ?_
    simp only [asInt_int]
    have eb : (m.get a == o) = decide (m.get a = o) := rfl
    unfold Mm.cas at k1
    refine ⟨fun vs h' => vs = [] ∧ Sat h' (memS q (if m.get a = o then m.put a n else m) * R), ?_, ?_⟩
    · refine ifB_mk (fun hc => ?_) (fun hc => ?_)
      · have hc' : m.get a = o := by simpa using hc
        rw [if_pos hc']
        refine ldH_mk w0 ?_
        simp only [asSlice_slice]
        refine ⟨a0, a1, ?_⟩
        simp only [asPtr_some]
        try rw [add_lit, Nat.zero_add]
        exact w2 a n hok hn _ fun h' H' => ⟨by trivial, H'⟩
      · have hc' : ¬ m.get a = o := by simpa using hc
        rw [if_neg hc']
        exact ⟨by trivial, H1.drop⟩
    rintro g19 h20 ⟨_, H20⟩
    rw [eb]
    refine callV_fn (mCount_call H20 (by split <;> exact hs) fun h22 H22 => ?_)
    refine k1 hok h22 ?_
    split
    · rename_i hc; rw [if_pos hc, decide_eq_true hc] at H22; exact H22
    · rename_i hc; rw [if_neg hc, decide_eq_false hc] at H22; exact H22
end
section
open Mod
def wdS (q b c : Nat) : Prop := c = q ∨ c = b
structure GhF (h : Heap) (q b : Nat) (g : Gh) : Prop where
  obj : h[q]? = some (.cells [.slice (some ⟨b, 0, none⟩) g.tags.length g.tags.length, .int .i64 g.kind, .int .i64 g.node].toArray 138)
  tg : h[b]? = some (.cells (g.tags.map iv).toArray 3)
  len : g.tags.length ≤ 64
theorem GhF.ne {h : Heap} {q b : Nat} {g : Gh} (H : GhF h q b g) : q ≠ b := by
  rintro rfl
  have h1 := H.obj
  rw [H.tg] at h1
  have := congrArg (fun o : Option Obj => match o with | some (.cells _ t _) => some t | _ => none) h1
  exact absurd this (by simp)
theorem eqv_gf (a b : Int) : eqv Tryz.prog 10000 136 (.agg #[.int .i64 a, .int .i64 b]) (.agg #[.int .i64 0, .int .i64 0]) = some ((a == 0) && ((b == 0) && true)) := by kernel_rfl
theorem guard_gf : Tryz.prog.eqGuardType Tryz.prog.depth 136 = false := by kernel_rfl
theorem eqvH_gf {a b : Int} {K : Bool → Prop} (k : K (decide (a = 0 ∧ b = 0))) : eqvH Tryz.prog 136 (.agg #[.int .i64 a, .int .i64 b]) (.agg #[.int .i64 0, .int .i64 0]) K := by
  unfold eqvH
  rw [guard_gf, if_neg (by simp)]
  show (match eqv Tryz.prog 10000 136 (.agg #[.int .i64 a, .int .i64 b]) (.agg #[.int .i64 0, .int .i64 0]) with | some b => K b | none => False)
  rw [eqv_gf]
  have e : ((a == 0) && ((b == 0) && true)) = decide (a = 0 ∧ b = 0) := by
    rw [Bool.eq_iff_iff]; simp
  rw [e]
  exact k
theorem gFault_call {K : Value → Heap → Prop} {h : Heap} {q b : Nat} {g : Gh} {kd i : Int} (H : GhF h q b g) (k : ∀ h', GhF h' q b (g.fault kd i) → Fr (wdS q b) h h' → K (.bool false) h') : CallH Tryz.prog 223 #[.pointer (some ⟨q, 0, none⟩), .int .i64 kd, .int .i64 i] h K := by
  refine call223 ?_
  unfold F223 nP
  simp only [Option.isNone_some, Bool.not_false, ifB_true, nilC, asPtr_some, add_lit]
  refine ⟨fun vs h' => vs = [.bool (decide (g.kind = 0 ∧ g.node = 0))] ∧ h' = h, ?_, ?_⟩
  · refine ldR H.obj rfl (ldR H.obj rfl ?_)
    exact eqvH_gf ⟨rfl, by trivial⟩
  rintro v5 g6 h7 ⟨e, rfl⟩
  cases e
  simp only [asBool_bool]
  refine ifB_dec (fun hc => ?_) (fun hc => ?_)
  · refine stR H.obj rfl trivial fun h10 w10 => ?_
    refine stR w10.new rfl trivial fun h11 w11 => ?_
    have w := w10.trans w11
    refine k h11 ?_ ⟨by rw [w.size]; exact Nat.le_refl _, fun c hc hn => w.old _ fun e => hn (.inl e)⟩
    unfold Gh.fault
    rw [if_pos hc]
    exact ⟨w.new, (w.old _ (fun e => H.ne e.symm)).trans H.tg, H.len⟩
  · refine k h7 ?_ (Fr.refl _ _)
    unfold Gh.fault
    rw [if_neg hc]
    exact H
theorem tags_at {h : Heap} {b : Nat} {l : List Int} {t : TypeId} (e : h[b]? = some (.cells (l.map iv).toArray t)) {a : Nat} (h1 : a < l.length) : cellAt h ⟨b, a, none⟩ = some (iv (l.getD a 0)) := by
  rw [cellAt_of e, List.getElem?_toArray, List.getElem?_map, List.getElem?_eq_getElem h1, List.getD_eq_getElem?_getD, List.getElem?_eq_getElem h1]
  rfl
theorem hd3 {b b' : Bool} {v w : Value} (h : b = b') : [.bool b, v, w] = [.bool b', v, w] := by rw [h]
theorem gTurn_call {K : Value → Heap → Prop} {h : Heap} {q b : Nat} {g : Gh} {i fr to_ kd : Int} (H : GhF h q b g) (hi : iN i) (k : ∀ bb h', GhF h' q b (g.turn i fr to_ kd) → Fr (wdS q b) h h' → K (.bool bb) h') :
    CallH Tryz.prog 225 #[.pointer (some ⟨q, 0, none⟩), .int .i64 i, .int .i64 fr, .int .i64 to_, .int .i64 kd] h K := by
  refine call225 ?_
  unfold F225 cf lS nP
  have hl := H.len
  refine ⟨fun vs h' => (∃ w1 w2, vs = [.bool (decide (i < 1 ∨ (g.tags.length : Int) < i)), w1, w2]) ∧ h' = h, ?_, ?_⟩
  · simp only [Option.isNone_some, ifB_false]
    refine ifB_dec (fun q => ⟨⟨_, _, hd3 (decide_eq_true (Or.inl q : i < 1 ∨ (g.tags.length : Int) < i)).symm⟩, by trivial⟩) (fun q => ?_)
    simp only [nilC, asPtr_some]
    refine ldR H.obj rfl ?_
    simp only [asSlice_slice]
    exact ⟨⟨_, _, hd3 (show decide (i > (g.tags.length : Int)) = decide (i < 1 ∨ (g.tags.length : Int) < i) by rw [decide_eq_decide]; omega)⟩, by trivial⟩
  rintro v6 v7 v8 g9 h10 ⟨⟨_, _, e⟩, rfl⟩
  cases e
  simp only [asBool_bool]
  unfold Gh.turn at k
  refine ifB_dec (fun hc => ?_) (fun hc => ?_)
  · rw [if_pos hc] at k
    refine callV_fn (gFault_call H fun h13 H13 fr13 => ?_)
    simp only [asBool_bool]
    exact k false h13 H13 fr13
  rw [if_neg hc] at k
  simp only [nilC, asPtr_some]
  refine ldR H.obj rfl ?_
  simp only [asSlice_slice]
  rw [wrap64_id' (n := i - 1) (by omega) (by omega)]
  refine ⟨by omega, by omega, ?_⟩
  simp only [asPtr_some, Nat.mul_one]
  rw [add_lit, Nat.zero_add]
  refine ldH_mk (tags_at H.tg (by omega)) ?_
  simp only [asInt_int]
  refine ifB_mk (fun hne => ?_) (fun heq => ?_)
  · rw [if_pos (by simpa using hne)] at k
    refine callV_fn (gFault_call H fun h13 H13 fr13 => ?_)
    simp only [asBool_bool]
    exact k false h13 H13 fr13
  rw [if_neg (by simpa using heq)] at k
  refine ldR H.obj rfl ?_
  simp only [asSlice_slice]
  refine ⟨by omega, by omega, ?_⟩
  simp only [asPtr_some]
  try rw [add_lit, Nat.zero_add]
  refine stH_mk H.tg (by simp; omega) trivial ?_
  rintro h32 rfl
  have hlt := (Array.getElem?_eq_some_iff.1 H.tg).1
  refine k true _ ⟨?_, ?_, by rw [List.length_set]; exact H.len⟩ ⟨by simp, fun c hc hn => set_old fun e => hn (.inr e)⟩
  · rw [set_old H.ne, List.length_set]; exact H.obj
  · rw [set_new hlt, List.setIfInBounds_toArray, List.map_set]
theorem gTouch_call {K : Value → Heap → Prop} {h : Heap} {q b : Nat} {g : Gh} {i : Int} (H : GhF h q b g) (hi : iN i) (k : ∀ bb h', GhF h' q b (g.touch i) → Fr (wdS q b) h h' → K (.bool bb) h') :
    CallH Tryz.prog 208 #[.pointer (some ⟨q, 0, none⟩), .int .i64 i] h K := by
  refine call208 ?_
  unfold F208 cf lS nP
  have hl := H.len
  refine ⟨fun vs h' => (∃ w1 w2, vs = [.bool (decide (i < 1 ∨ (g.tags.length : Int) < i)), w1, w2]) ∧ h' = h, ?_, ?_⟩
  · simp only [Option.isNone_some, ifB_false]
    refine ifB_dec (fun q => ⟨⟨_, _, hd3 (decide_eq_true (Or.inl q : i < 1 ∨ (g.tags.length : Int) < i)).symm⟩, by trivial⟩) (fun q => ?_)
    simp only [nilC, asPtr_some]
    refine ldR H.obj rfl ?_
    simp only [asSlice_slice]
    exact ⟨⟨_, _, hd3 (show decide (i > (g.tags.length : Int)) = decide (i < 1 ∨ (g.tags.length : Int) < i) by rw [decide_eq_decide]; omega)⟩, by trivial⟩
  rintro v6 v7 v8 g9 h10 ⟨⟨_, _, e⟩, rfl⟩
  cases e
  simp only [asBool_bool]
  unfold Gh.touch at k
  refine ifB_dec (fun hc => ?_) (fun hc => ?_)
  · rw [if_pos hc] at k
    refine callV_fn (gFault_call H fun h13 H13 fr13 => ?_)
    simp only [asBool_bool]
    exact k false h13 H13 fr13
  rw [if_neg hc] at k
  simp only [nilC, asPtr_some]
  refine ldR H.obj rfl ?_
  simp only [asSlice_slice]
  rw [wrap64_id' (n := i - 1) (by omega) (by omega)]
  refine ⟨by omega, by omega, ?_⟩
  simp only [asPtr_some, Nat.mul_one]
  rw [add_lit, Nat.zero_add]
  refine ldH_mk (tags_at H.tg (by omega)) ?_
  simp only [asInt_int]
  refine ifB_mk (fun hne => ?_) (fun heq => ?_)
  · rw [if_pos (by simpa using hne)] at k
    refine callV_fn (gFault_call H fun h13 H13 fr13 => ?_)
    simp only [asBool_bool]
    exact k false h13 H13 fr13
  rw [if_neg (by simpa using heq)] at k
  exact k true _ H (Fr.refl _ _)
end
section
open Mod
theorem gAlloc_call {K : Value → Heap → Prop} {h : Heap} {q b : Nat} {g : Gh} {i : Int} (H : GhF h q b g) (hi : iN i) (k : ∀ bb h', GhF h' q b (g.turn i 0 1 1) → Fr (wdS q b) h h' → K (.bool bb) h') :
    CallH Tryz.prog 229 #[.pointer (some ⟨q, 0, none⟩), .int .i64 i] h K := by
  refine call229 ?_
  unfold F229 cf
  refine callV_fn (gTurn_call H hi fun bb h1 H1 fr1 => ?_)
  simp only [asBool_bool]
  exact k bb h1 H1 fr1
theorem gRetire_call {K : Value → Heap → Prop} {h : Heap} {q b : Nat} {g : Gh} {i : Int} (H : GhF h q b g) (hi : iN i) (k : ∀ bb h', GhF h' q b (g.turn i 1 2 2) → Fr (wdS q b) h h' → K (.bool bb) h') :
    CallH Tryz.prog 214 #[.pointer (some ⟨q, 0, none⟩), .int .i64 i] h K := by
  refine call214 ?_
  unfold F214 cf
  refine callV_fn (gTurn_call H hi fun bb h1 H1 fr1 => ?_)
  simp only [asBool_bool]
  exact k bb h1 H1 fr1
theorem gRelease_call {K : Value → Heap → Prop} {h : Heap} {q b : Nat} {g : Gh} {i : Int} (H : GhF h q b g) (hi : iN i) (k : ∀ bb h', GhF h' q b (g.turn i 2 0 3) → Fr (wdS q b) h h' → K (.bool bb) h') :
    CallH Tryz.prog 230 #[.pointer (some ⟨q, 0, none⟩), .int .i64 i] h K := by
  refine call230 ?_
  unfold F230 cf
  refine callV_fn (gTurn_call H hi fun bb h1 H1 fr1 => ?_)
  simp only [asBool_bool]
  exact k bb h1 H1 fr1
structure FdF (h : Heap) (q : Nat) (a : Option Addr) (c : Nat) (bs : List Int) (used : Int) : Prop where
  obj : h[q]? = some (.cells [.slice a bs.length c, .int .i64 used].toArray 134)
  by_ : Sees h a (bs.map fun n => .int .u8 n)
  rng : ∀ n ∈ bs, 0 ≤ n ∧ n < 256
  us : 0 ≤ used ∧ used < 4611686018427387904
  ap : ¬ blk a q
theorem fTake_call {K : Value → Heap → Prop} {h : Heap} {q c : Nat} {a : Option Addr} {bs : List Int} {used : Int} (H : FdF h q a c bs used) (hu : used < 4611686018427387903)
    (k : ∀ h', FdF h' q a c bs (used + 1) → Fr (fun b => b = q) h h' → K (.int .i64 (if used + 1 > bs.length then 0 else bs.getD used.toNat 0)) h') :
    CallH Tryz.prog 201 #[.pointer (some ⟨q, 0, none⟩)] h K := by
  refine call201 ?_
  unfold F201 lS lI nP
  have hus := H.us
  simp only [Option.isNone_some, ifB_false, nilC, asPtr_some, add_lit]
  refine ldR H.obj rfl ?_
  simp only [asInt_int]
  rw [wrap64_id' (n := used + 1) (by omega) (by omega)]
  refine stR H.obj rfl trivial fun h4 w4 => ?_
  have by4 : Sees h4 a (bs.map fun n => .int .u8 n) := H.by_.keep fun ad e => w4.old _ fun eb => H.ap ⟨ad, e, eb⟩
  have H4 : FdF h4 q a c bs (used + 1) := ⟨w4.new, by4, H.rng, by omega, H.ap⟩
  have kk := k h4 H4 ⟨by rw [w4.size]; exact Nat.le_refl _, fun b hb hn => w4.old _ hn⟩
  refine ldR w4.new rfl ?_
  simp only [asInt_int]
  refine ldR w4.new rfl ?_
  simp only [asSlice_slice]
  refine ifB_dec (fun hgt => ?_) (fun hle => ?_)
  · rw [if_pos (by omega)] at kk
    exact kk
  · rw [if_neg (by omega)] at kk
    have hlt : used.toNat < bs.length := by omega
    refine ldR w4.new rfl ?_
    simp only [asSlice_slice]
    refine ldR w4.new rfl ?_
    simp only [asInt_int]
    rw [wrap64_id' (n := used + 1 - 1) (by omega) (by omega), show used + 1 - 1 = used by omega]
    refine ⟨by omega, by omega, ?_⟩
    obtain ⟨ad, rfl, hc⟩ := by4 used.toNat (.int .u8 bs[used.toNat]) (by rw [List.getElem?_map, List.getElem?_eq_getElem hlt]; rfl)
    simp only [asPtr_some, Nat.mul_one]
    refine ldH_mk hc ?_
    simp only [asInt_int]
    have hr := H.rng _ (List.getElem_mem hlt)
    rw [List.getD_eq_getElem?_getD, List.getElem?_eq_getElem hlt] at kk
    rw [wrap64_id' (by omega) (by omega)]
    exact kk
end
section
open Mod
def ghS : Option Gh → Nat → Hp
  | none, _ => emp
  | some g, q => ex fun b => lift (wdS q b) fun h => GhF h q b g
theorem GhF.congr {h h' : Heap} {q b : Nat} {g : Gh} (H : GhF h q b g) (e : ∀ c, wdS q b c → h'[c]? = h[c]?) : GhF h' q b g := by
  have h1 := H.obj
  have h2 := H.tg
  obtain ⟨x1, x2, x3⟩ := H
  constructor
  · rw [e q (.inl rfl)]; exact h1
  · rw [e b (.inr rfl)]; exact h2
  · exact x3
theorem GhF.nd {h : Heap} {q b : Nat} {g : Gh} (H : GhF h q b g) : ∀ c o, wdS q b c → h[c]? = some o → Nd o := by
  rintro c o hc e x hx
  rcases hc with rfl | rfl
  · rw [H.obj] at e; cases e; cases hx
  · rw [H.tg] at e; cases e; cases hx
theorem ghS_step {h : Heap} {q : Nat} {g : Gh} {R : Hp} (H : Sat h (ghS (some g) q * R)) : ∃ b, GhF h q b g ∧ ∀ h' g', GhF h' q b g' → Fr (wdS q b) h h' → Sat h' (ghS (some g') q * R) := by
  obtain ⟨b, H⟩ := Sat.ex.1 H
  obtain ⟨G, hlt, re⟩ := H.opn
  refine ⟨b, G, fun h' g' G' fr => Sat.ex.2 ⟨b, re h' (wdS q b) _ fr (fun c hc => ⟨.inl hc, Nat.lt_of_lt_of_le (hlt c hc) fr.1⟩) G'.nd fun h'' e => G'.congr e⟩⟩
theorem ghTouch_call {K : Value → Heap → Prop} {h : Heap} {q : Nat} {g : Gh} {R : Hp} {i : Int} (H : Sat h (ghS (some g) q * R)) (hi : iN i) (k : ∀ bb h', Sat h' (ghS (some (g.touch i)) q * R) → K (.bool bb) h') :
    CallH Tryz.prog 208 #[.pointer (some ⟨q, 0, none⟩), .int .i64 i] h K := by
  obtain ⟨b, G, re⟩ := ghS_step H
  exact gTouch_call G hi fun bb h' G' fr => k bb h' (re h' _ G' fr)
theorem ghAlloc_call {K : Value → Heap → Prop} {h : Heap} {q : Nat} {g : Gh} {R : Hp} {i : Int} (H : Sat h (ghS (some g) q * R)) (hi : iN i) (k : ∀ bb h', Sat h' (ghS (some (g.turn i 0 1 1)) q * R) → K (.bool bb) h') :
    CallH Tryz.prog 229 #[.pointer (some ⟨q, 0, none⟩), .int .i64 i] h K := by
  obtain ⟨b, G, re⟩ := ghS_step H
  exact gAlloc_call G hi fun bb h' G' fr => k bb h' (re h' _ G' fr)
theorem ghRetire_call {K : Value → Heap → Prop} {h : Heap} {q : Nat} {g : Gh} {R : Hp} {i : Int} (H : Sat h (ghS (some g) q * R)) (hi : iN i) (k : ∀ bb h', Sat h' (ghS (some (g.turn i 1 2 2)) q * R) → K (.bool bb) h') :
    CallH Tryz.prog 214 #[.pointer (some ⟨q, 0, none⟩), .int .i64 i] h K := by
  obtain ⟨b, G, re⟩ := ghS_step H
  exact gRetire_call G hi fun bb h' G' fr => k bb h' (re h' _ G' fr)
theorem ghRelease_call {K : Value → Heap → Prop} {h : Heap} {q : Nat} {g : Gh} {R : Hp} {i : Int} (H : Sat h (ghS (some g) q * R)) (hi : iN i) (k : ∀ bb h', Sat h' (ghS (some (g.turn i 2 0 3)) q * R) → K (.bool bb) h') :
    CallH Tryz.prog 230 #[.pointer (some ⟨q, 0, none⟩), .int .i64 i] h K := by
  obtain ⟨b, G, re⟩ := ghS_step H
  exact gRelease_call G hi fun bb h' G' fr => k bb h' (re h' _ G' fr)
theorem ghFirst_call {K : Value → Heap → Prop} {h : Heap} {q : Nat} {g : Gh} {R : Hp} (H : Sat h (ghS (some g) q * R)) (k : ∀ h', Sat h' (ghS (some g) q * R) → K (.agg #[.int .i64 g.kind, .int .i64 g.node]) h') :
    CallH Tryz.prog 68 #[.pointer (some ⟨q, 0, none⟩)] h K := by
  refine call68 ?_
  unfold F68 g68 nP
  obtain ⟨b, G, re⟩ := ghS_step H
  simp only [Option.isNone_some, ifB_false, nilC, asPtr_some, add_lit]
  have H1 := H.push (.cells [.int .i64 0, .int .i64 0].toArray 136)
  have e0 : h.push (.cells [.int .i64 0, .int .i64 0].toArray 136) = h.push (.cells #[.int .i64 0, .int .i64 0] 136) := rfl
  rw [e0] at H1
  have G1 : (h.push (.cells #[.int .i64 0, .int .i64 0] 136))[q]? = h[q]? := push_old _ _ _ (Array.getElem?_eq_some_iff.1 G.obj).1
  generalize h.push (.cells #[.int .i64 0, .int .i64 0] 136) = h1 at *
  generalize h.size = N at *
  have g1 := G1.trans G.obj
  refine ldR g1 rfl (ldR g1 rfl ?_)
  refine H1.st rfl trivial fun h7 H7 => H7.st rfl trivial fun h8 H8 => H8.ld rfl (H8.ld rfl (k h8 H8.drop))
def fdS (q : Nat) (bs : List Int) (used : Int) : Hp := ex fun a => ex fun c => lift (fun b => b = q ∨ blk a b ∧ bs ≠ []) fun h => FdF h q a c bs used
theorem Sees.congr {h h' : Heap} {a : Option Addr} {vs : List Value} (H : Sees h a vs) (e : ∀ b, blk a b → vs ≠ [] → h'[b]? = h[b]?) : Sees h' a vs := by
  intro i v hi
  obtain ⟨ad, ea, hc⟩ := H i v hi
  exact ⟨ad, ea, (cellAt_congr (by rw [add_block]; exact e _ ⟨ad, ea, rfl⟩ fun h => by rw [h] at hi; simp at hi)).trans hc⟩
theorem FdF.congr {h h' : Heap} {q c : Nat} {a : Option Addr} {bs : List Int} {used : Int} (H : FdF h q a c bs used) (e : ∀ b, b = q ∨ blk a b ∧ bs ≠ [] → h'[b]? = h[b]?) : FdF h' q a c bs used :=
  ⟨(e q (.inl rfl)).trans H.obj, H.by_.congr fun b hb hn => e b (.inr ⟨hb, fun h => hn (by rw [h]; rfl)⟩), H.rng, H.us, H.ap⟩
theorem FdF.nd {h : Heap} {q c : Nat} {a : Option Addr} {bs : List Int} {used : Int} (H : FdF h q a c bs used) : ∀ b o, b = q ∨ blk a b ∧ bs ≠ [] → h[b]? = some o → Nd o := by
  rintro b o hb e x hx
  rcases hb with rfl | ⟨⟨ad, ea, rfl⟩, hne⟩
  · rw [H.obj] at e; cases e; cases hx
  · cases bs with
    | nil => exact hne rfl
    | cons n bs =>
      obtain ⟨ad2, ea2, hc⟩ := H.by_ 0 (.int .u8 n) rfl
      rw [ea] at ea2; cases ea2
      exact hx.elim
theorem fdS_step {h : Heap} {q : Nat} {bs : List Int} {used : Int} {R : Hp} (H : Sat h (fdS q bs used * R)) : ∃ a c, FdF h q a c bs used ∧ ∀ h' used', FdF h' q a c bs used' → Fr (fun b => b = q) h h' → Sat h' (fdS q bs used' * R) := by
  obtain ⟨a, H⟩ := Sat.ex.1 H
  obtain ⟨c, H⟩ := Sat.ex.1 H
  obtain ⟨G, hlt, re⟩ := H.opn
  refine ⟨a, c, G, fun h' u' G' fr => Sat.ex.2 ⟨a, Sat.ex.2 ⟨c, re h' _ _ (fr.mono fun b _ e => .inl e) (fun c hc => ⟨.inl hc, Nat.lt_of_lt_of_le (hlt c hc) fr.1⟩) G'.nd fun h'' e => G'.congr e⟩⟩⟩
def drawn (bs : List Int) (used : Int) : Int := if used + 1 > bs.length then 0 else bs.getD used.toNat 0
theorem drawn_rng {bs : List Int} {used : Int} (h : ∀ n ∈ bs, 0 ≤ n ∧ n < 256) : 0 ≤ drawn bs used ∧ drawn bs used < 256 := by
  unfold drawn
  split
  · omega
  · rw [List.getD_eq_getElem?_getD]
    cases e : bs[used.toNat]? with
    | none => simp
    | some v => exact h v (List.mem_of_getElem? e)
theorem fdTake_call {K : Value → Heap → Prop} {h : Heap} {q : Nat} {bs : List Int} {used : Int} {R : Hp} (H : Sat h (fdS q bs used * R)) (hu : used < 1099511627776)
    (k : ∀ h', Sat h' (fdS q bs (used + 1) * R) → 0 ≤ drawn bs used ∧ drawn bs used < 256 → K (.int .i64 (drawn bs used)) h') :
    CallH Tryz.prog 201 #[.pointer (some ⟨q, 0, none⟩)] h K := by
  obtain ⟨a, c, G, re⟩ := fdS_step H
  exact fTake_call G (by omega) fun h' G' fr => k h' (re h' _ G' fr) (drawn_rng G.rng)
theorem and1_i64 {n : Int} (h0 : 0 ≤ n) (h1 : n < 9223372036854775808) : IntKind.wrap .i64 ((((BitVec.ofInt 64 n) &&& (BitVec.ofInt 64 1)).toNat : Nat) : Int) = n % 2 := by
  have e : (BitVec.ofInt 64 n).toNat = n.toNat := by
    rw [BitVec.toNat_ofInt]
    omega
  rw [BitVec.toNat_and, e, show (BitVec.ofInt 64 1).toNat = 1 from rfl, Nat.and_one_is_mod]
  rw [wrap64_id' (by omega) (by omega)]
  omega
theorem fdLevel_call {K : Value → Heap → Prop} {h : Heap} {q : Nat} {bs : List Int} {used n : Int} {R : Hp} (H : Sat h (fdS q bs used * R)) (hu : used < 1099511627776) (hn : 1 ≤ n ∧ n ≤ 6)
    (k : ∀ h', Sat h' (fdS q bs (used + 1) * R) → K (.int .i64 (lev (drawn bs used) n.toNat 0)) h') :
    CallH Tryz.prog 140 #[.pointer (some ⟨q, 0, none⟩), .int .i64 n] h K := by
  refine call140 ?_
  unfold F140 cf
  refine ifB_dec (fun h1 => by omega) (fun _ => ?_)
  refine callV_fn (fdTake_call H hu fun h1 H1 hr => ?_)
  simp only [asInt_int]
  have k1 := k h1 H1
  generalize drawn bs used = c at *
  obtain ⟨Lv, hLv⟩ : ∃ Lv, lev c n.toNat 0 = Lv := ⟨_, rfl⟩
  rw [hLv] at k1
  have lz : ∀ i, lev c 0 i = i := fun _ => rfl
  have ls : ∀ m i, lev c (m + 1) i = if c / 2 ^ i % 2 = 0 then (i : Int) + 1 else lev c m (i + 1) := fun _ _ => rfl
  refine ⟨fun vs h' => ∃ w1 w2, ∃ i : Nat, vs = [w1, w2, iv i] ∧ (i : Int) ≤ n ∧ h' = h1 ∧ Lv = lev c (n.toNat - i) i, fun vs _ => (match vs with | [_, _, .int _ m] => n.toNat - m.toNat | _ => 0), ⟨_, _, 0, rfl, by omega, rfl, hLv.symm⟩, ?_⟩
  rintro v5 v6 v7 g8 h9 ⟨w1, w2, i, e, hi, rfl, hlev⟩
  cases e
  simp only [asInt_int]
  refine ifB_dec (fun hlt => ?_) (fun hge => ?_)
  · refine ⟨by omega, ?_⟩
    have hp0 : 0 ≤ c / 2 ^ i := Int.ediv_nonneg hr.1 (by exact_mod_cast Nat.zero_le _)
    have hp1 : c / 2 ^ i ≤ c := Int.ediv_le_self _ hr.1
    have hs : n.toNat - i = (n.toNat - (i + 1)) + 1 := by omega
    have e1 : min (i : Int).toNat 64 = i := by omega
    rw [e1, fdiv_pos (by exact_mod_cast Nat.zero_le _), and1_i64 hp0 (by omega)]
    rw [hs, ls] at hlev
    refine ifB_mk (fun hz => ?_) (fun hz => ?_)
    · have hz' : c / 2 ^ i % 2 = 0 := by simpa using hz
      rw [if_pos hz'] at hlev
      rw [nat_wrap1 (by omega)]
      rw [hlev] at k1
      exact_mod_cast k1
    · have hz' : ¬ c / 2 ^ i % 2 = 0 := by simpa using hz
      rw [if_neg hz'] at hlev
      rw [nat_wrap1 (by omega)]
      exact ⟨⟨_, _, i + 1, rfl, by omega, by trivial, hlev⟩, by show n.toNat - ((i + 1 : Nat) : Int).toNat < n.toNat - (i : Int).toNat; omega⟩
  · have : (i : Int) = n := by omega
    have e : n.toNat - i = 0 := by omega
    rw [e, lz] at hlev
    rw [hlev, this] at k1
    exact k1
end
section
set_option maxRecDepth 100000
abbrev q20_1 (h104 : Heap) (v88 v89 v90 v91 v92 v93 v94 v95 v96 v97 v98 v99 v100 v101 v102 : Value) (o67 o105 : Option Addr) : Heap := (Array.push h104 (.cells #[v88, v89, v90, v91, v92, v93, v94, v95, v96, v97, v98, v99, v100, v101, v102, (.pointer o67), (.pointer none), (.pointer o105), (.slice none 0 0), (.bool false), (.bool false)] 80))
abbrev q20_2 (h164 : Heap) (n142 : Int) (o155 : Option Addr) (k156 k157 : Nat) (o160 : Option Addr) (k161 k162 : Nat) (o165 : Option Addr) (k166 k167 : Nat) : Heap := (Array.push h164 (.cells #[(.int .i64 n142), (.slice none 0 0), (.int .u64 0), (.int .u64 0), (.int .u64 0), (.slice o155 k156 k157), (.slice o160 k161 k162), (.slice o165 k166 k167), (.slice none 0 0), (.slice none 0 0)] 88))
abbrev q20_3 (h181 : Heap) (n142 : Int) (o155 : Option Addr) (k156 k157 : Nat) (o182 : Option Addr) (k183 k184 : Nat) (o177 : Option Addr) (k178 k179 : Nat) : Heap := (Array.push h181 (.cells #[(.int .i64 n142), (.slice none 0 0), (.int .u64 0), (.int .u64 0), (.int .u64 0), (.slice o155 k156 k157), (.slice o182 k183 k184), (.slice o177 k178 k179), (.slice none 0 0), (.slice none 0 0)] 88))
abbrev q20_4 (h203 : Heap) (n142 : Int) (o199 : Option Addr) (k200 k201 : Nat) (o194 : Option Addr) (k195 k196 : Nat) (o204 : Option Addr) (k205 k206 : Nat) : Heap := (Array.push h203 (.cells #[(.int .i64 n142), (.slice none 0 0), (.int .u64 0), (.int .u64 0), (.int .u64 0), (.slice o199 k200 k201), (.slice o194 k195 k196), (.slice o204 k205 k206), (.slice none 0 0), (.slice none 0 0)] 88))
abbrev q20_5 (h220 : Heap) (n142 : Int) (o221 : Option Addr) (k222 k223 : Nat) (o194 : Option Addr) (k195 k196 : Nat) (o216 : Option Addr) (k217 k218 : Nat) : Heap := (Array.push h220 (.cells #[(.int .i64 n142), (.slice none 0 0), (.int .u64 0), (.int .u64 0), (.int .u64 0), (.slice o221 k222 k223), (.slice o194 k195 k196), (.slice o216 k217 k218), (.slice none 0 0), (.slice none 0 0)] 88))
abbrev q20_6 (h242 : Heap) (n142 : Int) (o238 : Option Addr) (k239 k240 : Nat) (o243 : Option Addr) (k244 k245 : Nat) (o233 : Option Addr) (k234 k235 : Nat) : Heap := (Array.push h242 (.cells #[(.int .i64 n142), (.slice none 0 0), (.int .u64 0), (.int .u64 0), (.int .u64 0), (.slice o238 k239 k240), (.slice o243 k244 k245), (.slice o233 k234 k235), (.slice none 0 0), (.slice none 0 0)] 88))
abbrev q20_7 (h259 : Heap) (n142 : Int) (o260 : Option Addr) (k261 k262 : Nat) (o255 : Option Addr) (k256 k257 : Nat) (o233 : Option Addr) (k234 k235 : Nat) : Heap := (Array.push h259 (.cells #[(.int .i64 n142), (.slice none 0 0), (.int .u64 0), (.int .u64 0), (.int .u64 0), (.slice o260 k261 k262), (.slice o255 k256 k257), (.slice o233 k234 k235), (.slice none 0 0), (.slice none 0 0)] 88))
abbrev g20 (K : Value → Heap → Prop) (h H1 : Heap) (xa : Option Addr) (xb xc : Nat) (xd : Bool) : Prop :=
  (ldH H1 ⟨h.size, 0, none⟩ fun v0 => ldH H1 ⟨h.size, 1, none⟩ fun v1 => ldH H1 ⟨h.size, 2, none⟩ fun v2 => ldH H1 ⟨h.size, 3, none⟩ fun v3 => ldH H1 ⟨h.size, 4, none⟩ fun v4 => ldH H1 ⟨h.size, 5, none⟩ fun v5 => ldH H1 ⟨h.size, 6, none⟩ fun v6 => cf 30 #[.agg #[v0, v1, v2, v3, v4, v5, v6]] H1 fun v7 h8 => asTup v7 fun vs9 => elemH vs9 0 fun v10 => asAgg v10 fun vs11 => sizeH vs11 15 (elemH vs11 0 fun v12 => elemH vs11 1 fun v13 => elemH vs11 2 fun v14 => elemH vs11 3 fun v15 => elemH vs11 4 fun v16 => elemH vs11 5 fun v17 => elemH vs11 6 fun v18 => elemH vs11 7 fun v19 => elemH vs11 8 fun v20 => elemH vs11 9 fun v21 => elemH vs11 10 fun v22 => elemH vs11 11 fun v23 => elemH vs11 12 fun v24 => elemH vs11 13 fun v25 => elemH vs11 14 fun v26 => asTup v7 fun vs27 => elemH vs27 1 fun v28 => asInt .i64 v28 fun n29 => stH (Array.push h8 (.cells #[.int .i64 0, .int .i64 0, .int .i64 0, .int .i64 0, .int .i64 0, .int .i64 0, .int .i64 0, .int .i64 0, .int .i64 0, .int .i64 0, .int .i64 0, .int .i64 0, .int .i64 0, .int .i64 0, .int .i64 0] 69)) ⟨h8.size, 0, none⟩ v12 fun h30 => stH h30 ⟨h8.size, 1, none⟩ v13 fun h31 => stH h31 ⟨h8.size, 2, none⟩ v14 fun h32 => stH h32 ⟨h8.size, 3, none⟩ v15 fun h33 => stH h33 ⟨h8.size, 4, none⟩ v16 fun h34 => stH h34 ⟨h8.size, 5, none⟩ v17 fun h35 => stH h35 ⟨h8.size, 6, none⟩ v18 fun h36 => stH h36 ⟨h8.size, 7, none⟩ v19 fun h37 => stH h37 ⟨h8.size, 8, none⟩ v20 fun h38 => stH h38 ⟨h8.size, 9, none⟩ v21 fun h39 => stH h39 ⟨h8.size, 10, none⟩ v22 fun h40 => stH h40 ⟨h8.size, 11, none⟩ v23 fun h41 => stH h41 ⟨h8.size, 12, none⟩ v24 fun h42 => stH h42 ⟨h8.size, 13, none⟩ v25 fun h43 => stH h43 ⟨h8.size, 14, none⟩ v26 fun h44 => ifB (n29 != 0) (K (.tuple #[.pointer none, .int .i64 n29]) h44) (ldH h44 ⟨h8.size, 0, none⟩ fun v45 => ldH h44 ⟨h8.size, 1, none⟩ fun v46 => ldH h44 ⟨h8.size, 2, none⟩ fun v47 => ldH h44 ⟨h8.size, 3, none⟩ fun v48 => ldH h44 ⟨h8.size, 4, none⟩ fun v49 => ldH h44 ⟨h8.size, 5, none⟩ fun v50 => ldH h44 ⟨h8.size, 6, none⟩ fun v51 => ldH h44 ⟨h8.size, 7, none⟩ fun v52 => ldH h44 ⟨h8.size, 8, none⟩ fun v53 => ldH h44 ⟨h8.size, 9, none⟩ fun v54 => ldH h44 ⟨h8.size, 10, none⟩ fun v55 => ldH h44 ⟨h8.size, 11, none⟩ fun v56 => ldH h44 ⟨h8.size, 12, none⟩ fun v57 => ldH h44 ⟨h8.size, 13, none⟩ fun v58 => ldH h44 ⟨h8.size, 14, none⟩ fun v59 => cf 32 #[.agg #[v45, v46, v47, v48, v49, v50, v51, v52, v53, v54, v55, v56, v57, v58, v59]] h44 fun v60 h61 => asInt .i64 v60 fun n62 => cf 31 #[.int .i64 n62] h61 fun v63 h64 => asTup v63 fun vs65 => elemH vs65 0 fun v66 => asPtrO v66 fun o67 => asTup v63 fun vs68 => elemH vs68 1 fun v69 => asInt .i64 v69 fun n70 => ifB (n70 != 0) (K (.tuple #[.pointer none, .int .i64 n70]) h64) (ldH h64 ⟨h8.size, 0, none⟩ fun v71 => ldH h64 ⟨h8.size, 1, none⟩ fun v72 => ldH h64 ⟨h8.size, 2, none⟩ fun v73 => ldH h64 ⟨h8.size, 3, none⟩ fun v74 => ldH h64 ⟨h8.size, 4, none⟩ fun v75 => ldH h64 ⟨h8.size, 5, none⟩ fun v76 => ldH h64 ⟨h8.size, 6, none⟩ fun v77 => ldH h64 ⟨h8.size, 7, none⟩ fun v78 => ldH h64 ⟨h8.size, 8, none⟩ fun v79 => ldH h64 ⟨h8.size, 9, none⟩ fun v80 => ldH h64 ⟨h8.size, 10, none⟩ fun v81 => ldH h64 ⟨h8.size, 11, none⟩ fun v82 => ldH h64 ⟨h8.size, 12, none⟩ fun v83 => ldH h64 ⟨h8.size, 13, none⟩ fun v84 => ldH h64 ⟨h8.size, 14, none⟩ fun v85 => cf 33 #[.pointer o67, .agg #[v71, v72, v73, v74, v75, v76, v77, v78, v79, v80, v81, v82, v83, v84, v85]] h64 fun v86 h87 => ldH h87 ⟨h8.size, 0, none⟩ fun v88 => ldH h87 ⟨h8.size, 1, none⟩ fun v89 => ldH h87 ⟨h8.size, 2, none⟩ fun v90 => ldH h87 ⟨h8.size, 3, none⟩ fun v91 => ldH h87 ⟨h8.size, 4, none⟩ fun v92 => ldH h87 ⟨h8.size, 5, none⟩ fun v93 => ldH h87 ⟨h8.size, 6, none⟩ fun v94 => ldH h87 ⟨h8.size, 7, none⟩ fun v95 => ldH h87 ⟨h8.size, 8, none⟩ fun v96 => ldH h87 ⟨h8.size, 9, none⟩ fun v97 => ldH h87 ⟨h8.size, 10, none⟩ fun v98 => ldH h87 ⟨h8.size, 11, none⟩ fun v99 => ldH h87 ⟨h8.size, 12, none⟩ fun v100 => ldH h87 ⟨h8.size, 13, none⟩ fun v101 => ldH h87 ⟨h8.size, 14, none⟩ fun v102 => cf 34 #[.slice xa xb xc] h87 fun v103 h104 => asPtrO v103 fun o105 => ce h104 h8.size 0 v88 (ce h104 h8.size 1 v89 (ce h104 h8.size 2 v90 (ce h104 h8.size 3 v91 (ce h104 h8.size 4 v92 (ce h104 h8.size 5 v93 (ce h104 h8.size 6 v94 (ce h104 h8.size 7 v95 (ce h104 h8.size 8 v96 (ce h104 h8.size 9 v97 (ce h104 h8.size 10 v98 (ce h104 h8.size 11 v99 (ce h104 h8.size 12 v100 (ce h104 h8.size 13 v101 (ce h104 h8.size 14 v102 (exI fun I106 => (ifB xd (ldH (q20_1 h104 v88 v89 v90 v91 v92 v93 v94 v95 v96 v97 v98 v99 v100 v101 v102 o67 o105) ⟨h.size, 2, none⟩ fun v107 => asInt .i64 v107 fun n108 => ldH (q20_1 h104 v88 v89 v90 v91 v92 v93 v94 v95 v96 v97 v98 v99 v100 v101 v102 o67 o105) ⟨h8.size, 0, none⟩ fun v109 => ldH (q20_1 h104 v88 v89 v90 v91 v92 v93 v94 v95 v96 v97 v98 v99 v100 v101 v102 o67 o105) ⟨h8.size, 1, none⟩ fun v110 => ldH (q20_1 h104 v88 v89 v90 v91 v92 v93 v94 v95 v96 v97 v98 v99 v100 v101 v102 o67 o105) ⟨h8.size, 2, none⟩ fun v111 => ldH (q20_1 h104 v88 v89 v90 v91 v92 v93 v94 v95 v96 v97 v98 v99 v100 v101 v102 o67 o105) ⟨h8.size, 3, none⟩ fun v112 => ldH (q20_1 h104 v88 v89 v90 v91 v92 v93 v94 v95 v96 v97 v98 v99 v100 v101 v102 o67 o105) ⟨h8.size, 4, none⟩ fun v113 => ldH (q20_1 h104 v88 v89 v90 v91 v92 v93 v94 v95 v96 v97 v98 v99 v100 v101 v102 o67 o105) ⟨h8.size, 5, none⟩ fun v114 => ldH (q20_1 h104 v88 v89 v90 v91 v92 v93 v94 v95 v96 v97 v98 v99 v100 v101 v102 o67 o105) ⟨h8.size, 6, none⟩ fun v115 => ldH (q20_1 h104 v88 v89 v90 v91 v92 v93 v94 v95 v96 v97 v98 v99 v100 v101 v102 o67 o105) ⟨h8.size, 7, none⟩ fun v116 => ldH (q20_1 h104 v88 v89 v90 v91 v92 v93 v94 v95 v96 v97 v98 v99 v100 v101 v102 o67 o105) ⟨h8.size, 8, none⟩ fun v117 => ldH (q20_1 h104 v88 v89 v90 v91 v92 v93 v94 v95 v96 v97 v98 v99 v100 v101 v102 o67 o105) ⟨h8.size, 9, none⟩ fun v118 => ldH (q20_1 h104 v88 v89 v90 v91 v92 v93 v94 v95 v96 v97 v98 v99 v100 v101 v102 o67 o105) ⟨h8.size, 10, none⟩ fun v119 => ldH (q20_1 h104 v88 v89 v90 v91 v92 v93 v94 v95 v96 v97 v98 v99 v100 v101 v102 o67 o105) ⟨h8.size, 11, none⟩ fun v120 => ldH (q20_1 h104 v88 v89 v90 v91 v92 v93 v94 v95 v96 v97 v98 v99 v100 v101 v102 o67 o105) ⟨h8.size, 12, none⟩ fun v121 => ldH (q20_1 h104 v88 v89 v90 v91 v92 v93 v94 v95 v96 v97 v98 v99 v100 v101 v102 o67 o105) ⟨h8.size, 13, none⟩ fun v122 => ldH (q20_1 h104 v88 v89 v90 v91 v92 v93 v94 v95 v96 v97 v98 v99 v100 v101 v102 o67 o105) ⟨h8.size, 14, none⟩ fun v123 => cf 36 #[.agg #[v109, v110, v111, v112, v113, v114, v115, v116, v117, v118, v119, v120, v121, v122, v123]] (q20_1 h104 v88 v89 v90 v91 v92 v93 v94 v95 v96 v97 v98 v99 v100 v101 v102 o67 o105) fun v124 h125 => asInt .i64 v124 fun n126 => ce h125 h.size 2 v107 (cf 35 #[.int .i64 n108, .int .i64 n126] h125 fun v127 h128 => asPtrO v127 fun o129 => nilC (.pointer (some ⟨h104.size, 0, none⟩)) (stH h128 ⟨h104.size, 16, none⟩ (.pointer o129) fun h130 => I106 [] h130))) (I106 [] (q20_1 h104 v88 v89 v90 v91 v92 v93 v94 v95 v96 v97 v98 v99 v100 v101 v102 o67 o105))) ∧ (∀ (g131 : Env) (h132 : Heap), (I106 [] h132) → (lI .i64 h132 ⟨h.size, 1, none⟩ fun n134 => exI fun I135 => exM fun m136 => (I135 [.tuple #[], .int .i64 0] h132) ∧ (∀ (v137 v138 : Value) (g139 : Env) (h140 : Heap), (I135 [v137, v138] h140) → (asInt .i64 v138 fun n141 => ifB (decide (n141 < n134)) (asInt .i64 v138 fun n142 => nilC (.pointer (some ⟨h104.size, 0, none⟩)) (ldH h140 ⟨h104.size, 18, none⟩ fun v143 => asSlice v143 fun o144 k145 k146 => ldH h140 ⟨h.size, 3, none⟩ fun v147 => asInt .i64 v147 fun n148 => ldH h140 ⟨h.size, 3, none⟩ fun v149 => asInt .i64 v149 fun n150 => ldH h140 ⟨h.size, 3, none⟩ fun v151 => asInt .i64 v151 fun n152 => (mkSlH Tryz.prog 65 n148 n148 h140 fun v153 h154 => asSlice v153 fun o155 k156 k157 => ce h154 h.size 3 v151 (ce h154 h.size 3 v149 (ce h154 h104.size 18 v143 ((mkSlH Tryz.prog 65 n150 n150 h154 fun v158 h159 => asSlice v158 fun o160 k161 k162 => ce h159 h.size 3 v151 (ce h159 h.size 3 v147 (ce h159 h104.size 18 v143 (mkSlH Tryz.prog 65 n152 n152 h159 fun v163 h164 => asSlice v163 fun o165 k166 k167 => ce h164 h.size 3 v149 (ce h164 h.size 3 v147 (ce h164 h104.size 18 v143 (ce (q20_2 h164 n142 o155 k156 k157 o160 k161 k162 o165 k166 k167) h104.size 18 v143 (((cellAt (Array.push (q20_2 h164 n142 o155 k156 k157 o160 k161 k162 o165 k166 k167) (.cells #[.pointer (some ⟨h164.size, 0, none⟩)] 82)) ⟨h104.size, 18, none⟩) = (some v143)) ∧ (appH Tryz.prog #[78, 78] 78 #[.slice o144 k145 k146, .slice (some ⟨(q20_2 h164 n142 o155 k156 k157 o160 k161 k162 o165 k166 k167).size, 0, none⟩) 1 1] (Array.push (q20_2 h164 n142 o155 k156 k157 o160 k161 k162 o165 k166 k167) (.cells #[.pointer (some ⟨h164.size, 0, none⟩)] 82)) fun v168 h169 => asSlice v168 fun o170 k171 k172 => nilC (.pointer (some ⟨h104.size, 0, none⟩)) (stH h169 ⟨h104.size, 18, none⟩ (.slice o170 k171 k172) fun h173 => asInt .i64 v138 fun n174 => (I135 [.int .i64 n142, .int .i64 (IntKind.wrap .i64 (n174 + 1))] h173) ∧ ((m136 [.int .i64 n142, .int .i64 (IntKind.wrap .i64 (n174 + 1))] h173) < (m136 [v137, v138] h140)))))))))))) ∧ (mkSlH Tryz.prog 65 n152 n152 h154 fun v175 h176 => asSlice v175 fun o177 k178 k179 => ce h176 h.size 3 v149 (ce h176 h.size 3 v147 (ce h176 h104.size 18 v143 (mkSlH Tryz.prog 65 n150 n150 h176 fun v180 h181 => asSlice v180 fun o182 k183 k184 => ce h181 h.size 3 v151 (ce h181 h.size 3 v147 (ce h181 h104.size 18 v143 (ce (q20_3 h181 n142 o155 k156 k157 o182 k183 k184 o177 k178 k179) h104.size 18 v143 (((cellAt (Array.push (q20_3 h181 n142 o155 k156 k157 o182 k183 k184 o177 k178 k179) (.cells #[.pointer (some ⟨h181.size, 0, none⟩)] 82)) ⟨h104.size, 18, none⟩) = (some v143)) ∧ (appH Tryz.prog #[78, 78] 78 #[.slice o144 k145 k146, .slice (some ⟨(q20_3 h181 n142 o155 k156 k157 o182 k183 k184 o177 k178 k179).size, 0, none⟩) 1 1] (Array.push (q20_3 h181 n142 o155 k156 k157 o182 k183 k184 o177 k178 k179) (.cells #[.pointer (some ⟨h181.size, 0, none⟩)] 82)) fun v185 h186 => asSlice v185 fun o187 k188 k189 => nilC (.pointer (some ⟨h104.size, 0, none⟩)) (stH h186 ⟨h104.size, 18, none⟩ (.slice o187 k188 k189) fun h190 => asInt .i64 v138 fun n191 => (I135 [.int .i64 n142, .int .i64 (IntKind.wrap .i64 (n191 + 1))] h190) ∧ ((m136 [.int .i64 n142, .int .i64 (IntKind.wrap .i64 (n191 + 1))] h190) < (m136 [v137, v138] h140)))))))))))))))) ∧ ((mkSlH Tryz.prog 65 n150 n150 h140 fun v192 h193 => asSlice v192 fun o194 k195 k196 => ce h193 h.size 3 v151 (ce h193 h.size 3 v147 (ce h193 h104.size 18 v143 ((mkSlH Tryz.prog 65 n148 n148 h193 fun v197 h198 => asSlice v197 fun o199 k200 k201 => ce h198 h.size 3 v151 (ce h198 h.size 3 v149 (ce h198 h104.size 18 v143 (mkSlH Tryz.prog 65 n152 n152 h198 fun v202 h203 => asSlice v202 fun o204 k205 k206 => ce h203 h.size 3 v149 (ce h203 h.size 3 v147 (ce h203 h104.size 18 v143 (ce (q20_4 h203 n142 o199 k200 k201 o194 k195 k196 o204 k205 k206) h104.size 18 v143 (((cellAt (Array.push (q20_4 h203 n142 o199 k200 k201 o194 k195 k196 o204 k205 k206) (.cells #[.pointer (some ⟨h203.size, 0, none⟩)] 82)) ⟨h104.size, 18, none⟩) = (some v143)) ∧ (appH Tryz.prog #[78, 78] 78 #[.slice o144 k145 k146, .slice (some ⟨(q20_4 h203 n142 o199 k200 k201 o194 k195 k196 o204 k205 k206).size, 0, none⟩) 1 1] (Array.push (q20_4 h203 n142 o199 k200 k201 o194 k195 k196 o204 k205 k206) (.cells #[.pointer (some ⟨h203.size, 0, none⟩)] 82)) fun v207 h208 => asSlice v207 fun o209 k210 k211 => nilC (.pointer (some ⟨h104.size, 0, none⟩)) (stH h208 ⟨h104.size, 18, none⟩ (.slice o209 k210 k211) fun h212 => asInt .i64 v138 fun n213 => (I135 [.int .i64 n142, .int .i64 (IntKind.wrap .i64 (n213 + 1))] h212) ∧ ((m136 [.int .i64 n142, .int .i64 (IntKind.wrap .i64 (n213 + 1))] h212) < (m136 [v137, v138] h140)))))))))))) ∧ (mkSlH Tryz.prog 65 n152 n152 h193 fun v214 h215 => asSlice v214 fun o216 k217 k218 => ce h215 h.size 3 v149 (ce h215 h.size 3 v147 (ce h215 h104.size 18 v143 (mkSlH Tryz.prog 65 n148 n148 h215 fun v219 h220 => asSlice v219 fun o221 k222 k223 => ce h220 h.size 3 v151 (ce h220 h.size 3 v149 (ce h220 h104.size 18 v143 (ce (q20_5 h220 n142 o221 k222 k223 o194 k195 k196 o216 k217 k218) h104.size 18 v143 (((cellAt (Array.push (q20_5 h220 n142 o221 k222 k223 o194 k195 k196 o216 k217 k218) (.cells #[.pointer (some ⟨h220.size, 0, none⟩)] 82)) ⟨h104.size, 18, none⟩) = (some v143)) ∧ (appH Tryz.prog #[78, 78] 78 #[.slice o144 k145 k146, .slice (some ⟨(q20_5 h220 n142 o221 k222 k223 o194 k195 k196 o216 k217 k218).size, 0, none⟩) 1 1] (Array.push (q20_5 h220 n142 o221 k222 k223 o194 k195 k196 o216 k217 k218) (.cells #[.pointer (some ⟨h220.size, 0, none⟩)] 82)) fun v224 h225 => asSlice v224 fun o226 k227 k228 => nilC (.pointer (some ⟨h104.size, 0, none⟩)) (stH h225 ⟨h104.size, 18, none⟩ (.slice o226 k227 k228) fun h229 => asInt .i64 v138 fun n230 => (I135 [.int .i64 n142, .int .i64 (IntKind.wrap .i64 (n230 + 1))] h229) ∧ ((m136 [.int .i64 n142, .int .i64 (IntKind.wrap .i64 (n230 + 1))] h229) < (m136 [v137, v138] h140)))))))))))))))) ∧ (mkSlH Tryz.prog 65 n152 n152 h140 fun v231 h232 => asSlice v231 fun o233 k234 k235 => ce h232 h.size 3 v149 (ce h232 h.size 3 v147 (ce h232 h104.size 18 v143 ((mkSlH Tryz.prog 65 n148 n148 h232 fun v236 h237 => asSlice v236 fun o238 k239 k240 => ce h237 h.size 3 v151 (ce h237 h.size 3 v149 (ce h237 h104.size 18 v143 (mkSlH Tryz.prog 65 n150 n150 h237 fun v241 h242 => asSlice v241 fun o243 k244 k245 => ce h242 h.size 3 v151 (ce h242 h.size 3 v147 (ce h242 h104.size 18 v143 (ce (q20_6 h242 n142 o238 k239 k240 o243 k244 k245 o233 k234 k235) h104.size 18 v143 (((cellAt (Array.push (q20_6 h242 n142 o238 k239 k240 o243 k244 k245 o233 k234 k235) (.cells #[.pointer (some ⟨h242.size, 0, none⟩)] 82)) ⟨h104.size, 18, none⟩) = (some v143)) ∧ (appH Tryz.prog #[78, 78] 78 #[.slice o144 k145 k146, .slice (some ⟨(q20_6 h242 n142 o238 k239 k240 o243 k244 k245 o233 k234 k235).size, 0, none⟩) 1 1] (Array.push (q20_6 h242 n142 o238 k239 k240 o243 k244 k245 o233 k234 k235) (.cells #[.pointer (some ⟨h242.size, 0, none⟩)] 82)) fun v246 h247 => asSlice v246 fun o248 k249 k250 => nilC (.pointer (some ⟨h104.size, 0, none⟩)) (stH h247 ⟨h104.size, 18, none⟩ (.slice o248 k249 k250) fun h251 => asInt .i64 v138 fun n252 => (I135 [.int .i64 n142, .int .i64 (IntKind.wrap .i64 (n252 + 1))] h251) ∧ ((m136 [.int .i64 n142, .int .i64 (IntKind.wrap .i64 (n252 + 1))] h251) < (m136 [v137, v138] h140)))))))))))) ∧ (mkSlH Tryz.prog 65 n150 n150 h232 fun v253 h254 => asSlice v253 fun o255 k256 k257 => ce h254 h.size 3 v151 (ce h254 h.size 3 v147 (ce h254 h104.size 18 v143 (mkSlH Tryz.prog 65 n148 n148 h254 fun v258 h259 => asSlice v258 fun o260 k261 k262 => ce h259 h.size 3 v151 (ce h259 h.size 3 v149 (ce h259 h104.size 18 v143 (ce (q20_7 h259 n142 o260 k261 k262 o255 k256 k257 o233 k234 k235) h104.size 18 v143 (((cellAt (Array.push (q20_7 h259 n142 o260 k261 k262 o255 k256 k257 o233 k234 k235) (.cells #[.pointer (some ⟨h259.size, 0, none⟩)] 82)) ⟨h104.size, 18, none⟩) = (some v143)) ∧ (appH Tryz.prog #[78, 78] 78 #[.slice o144 k145 k146, .slice (some ⟨(q20_7 h259 n142 o260 k261 k262 o255 k256 k257 o233 k234 k235).size, 0, none⟩) 1 1] (Array.push (q20_7 h259 n142 o260 k261 k262 o255 k256 k257 o233 k234 k235) (.cells #[.pointer (some ⟨h259.size, 0, none⟩)] 82)) fun v263 h264 => asSlice v263 fun o265 k266 k267 => nilC (.pointer (some ⟨h104.size, 0, none⟩)) (stH h264 ⟨h104.size, 18, none⟩ (.slice o265 k266 k267) fun h268 => asInt .i64 v138 fun n269 => (I135 [.int .i64 n142, .int .i64 (IntKind.wrap .i64 (n269 + 1))] h268) ∧ ((m136 [.int .i64 n142, .int .i64 (IntKind.wrap .i64 (n269 + 1))] h268) < (m136 [v137, v138] h140))))))))))))))))))) (K (.tuple #[.pointer (some ⟨h104.size, 0, none⟩), .int .i64 0]) h140))))))))))))))))))))))))
def F20 (K : Value → Heap → Prop) (h : Heap) (xa xb xc xd xe xf xg : Int) (xh : Option Addr) (xi xj : Nat) (xk : Bool) : Prop :=
  (g20 K h (Array.push h (.cells #[.int .i64 xa, .int .i64 xb, .int .i64 xc, .int .i64 xd, .int .i64 xe, .int .i64 xf, .int .i64 xg] 23)) xh xi xj xk)
theorem call20 {K : Value → Heap → Prop} {h : Heap} {xa xb xc xd xe xf xg : Int} {xh : Option Addr} {xi xj : Nat} {xk : Bool} (H : F20 K h xa xb xc xd xe xf xg xh xi xj xk) : CallH Tryz.prog 20 #[(.agg #[(.int .i64 xa), (.int .i64 xb), (.int .i64 xc), (.int .i64 xd), (.int .i64 xe), (.int .i64 xf), (.int .i64 xg)]), (.slice xh xi xj), (.bool xk)] h K :=
  callH_mk Tryz.func20 (by kernel_rfl) (Eq.mp (by kernel_rfl) H)
def F24 (K : Value → Heap → Prop) (h : Heap) (xa : Option Addr) : Prop :=
  (ifB (Option.isNone xa) (K (.pointer none) h) (nP xa fun a0 => lP h (Addr.add a0 15) fun o2 => K (.pointer o2) h))
theorem call24 {K : Value → Heap → Prop} {h : Heap} {xa : Option Addr} (H : F24 K h xa) : CallH Tryz.prog 24 #[(.pointer xa)] h K :=
  callH_mk Tryz.func24 (by kernel_rfl) (Eq.mp (by kernel_rfl) H)
abbrev g33 (K : Value → Heap → Prop) (h H1 : Heap) (xa : Option Addr) : Prop :=
  (ldH H1 ⟨h.size, 0, none⟩ fun v0 => ldH H1 ⟨h.size, 1, none⟩ fun v1 => ldH H1 ⟨h.size, 2, none⟩ fun v2 => ldH H1 ⟨h.size, 3, none⟩ fun v3 => ldH H1 ⟨h.size, 4, none⟩ fun v4 => ldH H1 ⟨h.size, 5, none⟩ fun v5 => ldH H1 ⟨h.size, 6, none⟩ fun v6 => ldH H1 ⟨h.size, 7, none⟩ fun v7 => ldH H1 ⟨h.size, 8, none⟩ fun v8 => ldH H1 ⟨h.size, 9, none⟩ fun v9 => ldH H1 ⟨h.size, 10, none⟩ fun v10 => ldH H1 ⟨h.size, 11, none⟩ fun v11 => ldH H1 ⟨h.size, 12, none⟩ fun v12 => ldH H1 ⟨h.size, 13, none⟩ fun v13 => ldH H1 ⟨h.size, 14, none⟩ fun v14 => cf 62 #[.agg #[v0, v1, v2, v3, v4, v5, v6, v7, v8, v9, v10, v11, v12, v13, v14]] H1 fun v15 h16 => asAgg v15 fun vs17 => sizeH vs17 7 (elemH vs17 0 fun v18 => elemH vs17 1 fun v19 => elemH vs17 2 fun v20 => elemH vs17 3 fun v21 => elemH vs17 4 fun v22 => elemH vs17 5 fun v23 => elemH vs17 6 fun v24 => stH (Array.push h16 (.cells #[.int .i64 0, .int .i64 0, .int .i64 0, .int .i64 0, .int .i64 0, .int .i64 0, .int .i64 0] 23)) ⟨h16.size, 0, none⟩ v18 fun h25 => stH h25 ⟨h16.size, 1, none⟩ v19 fun h26 => stH h26 ⟨h16.size, 2, none⟩ v20 fun h27 => stH h27 ⟨h16.size, 3, none⟩ v21 fun h28 => stH h28 ⟨h16.size, 4, none⟩ v22 fun h29 => stH h29 ⟨h16.size, 5, none⟩ v23 fun h30 => stH h30 ⟨h16.size, 6, none⟩ v24 fun h31 => ldH h31 ⟨h.size, 0, none⟩ fun v32 => ldH h31 ⟨h.size, 1, none⟩ fun v33 => ldH h31 ⟨h.size, 2, none⟩ fun v34 => ldH h31 ⟨h.size, 3, none⟩ fun v35 => ldH h31 ⟨h.size, 4, none⟩ fun v36 => ldH h31 ⟨h.size, 5, none⟩ fun v37 => ldH h31 ⟨h.size, 6, none⟩ fun v38 => ldH h31 ⟨h.size, 7, none⟩ fun v39 => ldH h31 ⟨h.size, 8, none⟩ fun v40 => ldH h31 ⟨h.size, 9, none⟩ fun v41 => ldH h31 ⟨h.size, 10, none⟩ fun v42 => ldH h31 ⟨h.size, 11, none⟩ fun v43 => ldH h31 ⟨h.size, 12, none⟩ fun v44 => ldH h31 ⟨h.size, 13, none⟩ fun v45 => ldH h31 ⟨h.size, 14, none⟩ fun v46 => cf 36 #[.agg #[v32, v33, v34, v35, v36, v37, v38, v39, v40, v41, v42, v43, v44, v45, v46]] h31 fun v47 h48 => asInt .i64 v47 fun n49 => cf 64 #[.int .i64 (IntKind.wrap .i64 (n49 + 1))] h48 fun v50 h51 => asInt .u64 v50 fun n52 => cf 63 #[.pointer xa, .int .i64 0, .int .u64 n52] h51 fun v53 h54 => asInt .i64 v53 fun n55 => exI fun I56 => exM fun m57 => (I56 [.int .i64 (IntKind.wrap .i64 (n49 + 1))] h54) ∧ (∀ (v58 : Value) (g59 : Env) (h60 : Heap), (I56 [v58] h60) → (asInt .i64 v58 fun n61 => lI .i64 h60 ⟨h16.size, 2, none⟩ fun n63 => ifB (decide (n61 < n63)) (ldH h60 ⟨h.size, 0, none⟩ fun v64 => ldH h60 ⟨h.size, 1, none⟩ fun v65 => ldH h60 ⟨h.size, 2, none⟩ fun v66 => ldH h60 ⟨h.size, 3, none⟩ fun v67 => ldH h60 ⟨h.size, 4, none⟩ fun v68 => ldH h60 ⟨h.size, 5, none⟩ fun v69 => ldH h60 ⟨h.size, 6, none⟩ fun v70 => ldH h60 ⟨h.size, 7, none⟩ fun v71 => ldH h60 ⟨h.size, 8, none⟩ fun v72 => ldH h60 ⟨h.size, 9, none⟩ fun v73 => ldH h60 ⟨h.size, 10, none⟩ fun v74 => ldH h60 ⟨h.size, 11, none⟩ fun v75 => ldH h60 ⟨h.size, 12, none⟩ fun v76 => ldH h60 ⟨h.size, 13, none⟩ fun v77 => ldH h60 ⟨h.size, 14, none⟩ fun v78 => asInt .i64 v58 fun n79 => cf 65 #[.agg #[v64, v65, v66, v67, v68, v69, v70, v71, v72, v73, v74, v75, v76, v77, v78], .int .i64 n79] h60 fun v80 h81 => asInt .i64 v80 fun n82 => asInt .i64 v58 fun n83 => cf 63 #[.pointer xa, .int .i64 n82, .int .u64 (IntKind.wrap .u64 (IntKind.wrap .i64 (n83 + 1)))] h81 fun v84 h85 => asInt .i64 v84 fun n86 => asInt .i64 v58 fun n87 => (I56 [.int .i64 (IntKind.wrap .i64 (n87 + 1))] h85) ∧ ((m57 [.int .i64 (IntKind.wrap .i64 (n87 + 1))] h85) < (m57 [v58] h60))) (cf 63 #[.pointer xa, .int .i64 2, .int .u64 1] h60 fun v88 h89 => asInt .i64 v88 fun n90 => lI .i64 h89 ⟨h16.size, 0, none⟩ fun n92 => ifB (n92 == 0) (K (.tuple #[]) h89) (ldH h89 ⟨h.size, 0, none⟩ fun v93 => ldH h89 ⟨h.size, 1, none⟩ fun v94 => ldH h89 ⟨h.size, 2, none⟩ fun v95 => ldH h89 ⟨h.size, 3, none⟩ fun v96 => ldH h89 ⟨h.size, 4, none⟩ fun v97 => ldH h89 ⟨h.size, 5, none⟩ fun v98 => ldH h89 ⟨h.size, 6, none⟩ fun v99 => ldH h89 ⟨h.size, 7, none⟩ fun v100 => ldH h89 ⟨h.size, 8, none⟩ fun v101 => ldH h89 ⟨h.size, 9, none⟩ fun v102 => ldH h89 ⟨h.size, 10, none⟩ fun v103 => ldH h89 ⟨h.size, 11, none⟩ fun v104 => ldH h89 ⟨h.size, 12, none⟩ fun v105 => ldH h89 ⟨h.size, 13, none⟩ fun v106 => ldH h89 ⟨h.size, 14, none⟩ fun v107 => ldH h89 ⟨h16.size, 3, none⟩ fun v108 => asInt .i64 v108 fun n109 => cf 66 #[.agg #[v93, v94, v95, v96, v97, v98, v99, v100, v101, v102, v103, v104, v105, v106, v107], .int .i64 1, .int .i64 3] h89 fun v110 h111 => asInt .i64 v110 fun n112 => ce h111 h16.size 3 v108 (cf 63 #[.pointer xa, .int .i64 n112, .int .u64 (IntKind.wrap .u64 n109)] h111 fun v113 h114 => asInt .i64 v113 fun n115 => ldH h114 ⟨h.size, 0, none⟩ fun v116 => ldH h114 ⟨h.size, 1, none⟩ fun v117 => ldH h114 ⟨h.size, 2, none⟩ fun v118 => ldH h114 ⟨h.size, 3, none⟩ fun v119 => ldH h114 ⟨h.size, 4, none⟩ fun v120 => ldH h114 ⟨h.size, 5, none⟩ fun v121 => ldH h114 ⟨h.size, 6, none⟩ fun v122 => ldH h114 ⟨h.size, 7, none⟩ fun v123 => ldH h114 ⟨h.size, 8, none⟩ fun v124 => ldH h114 ⟨h.size, 9, none⟩ fun v125 => ldH h114 ⟨h.size, 10, none⟩ fun v126 => ldH h114 ⟨h.size, 11, none⟩ fun v127 => ldH h114 ⟨h.size, 12, none⟩ fun v128 => ldH h114 ⟨h.size, 13, none⟩ fun v129 => ldH h114 ⟨h.size, 14, none⟩ fun v130 => cf 66 #[.agg #[v116, v117, v118, v119, v120, v121, v122, v123, v124, v125, v126, v127, v128, v129, v130], .int .i64 2, .int .i64 0] h114 fun v131 h132 => asInt .i64 v131 fun n133 => cf 63 #[.pointer xa, .int .i64 n133, .int .u64 18446744073709551615] h132 fun v134 h135 => asInt .i64 v134 fun n136 => lI .i64 h135 ⟨h16.size, 3, none⟩ fun n138 => exI fun I139 => exM fun m140 => (I139 [.tuple #[], .int .i64 0] h135) ∧ (∀ (v141 v142 : Value) (g143 : Env) (h144 : Heap), (I139 [v141, v142] h144) → (asInt .i64 v142 fun n145 => ifB (decide (n145 < n138)) (asInt .i64 v142 fun n146 => ldH h144 ⟨h.size, 0, none⟩ fun v147 => ldH h144 ⟨h.size, 1, none⟩ fun v148 => ldH h144 ⟨h.size, 2, none⟩ fun v149 => ldH h144 ⟨h.size, 3, none⟩ fun v150 => ldH h144 ⟨h.size, 4, none⟩ fun v151 => ldH h144 ⟨h.size, 5, none⟩ fun v152 => ldH h144 ⟨h.size, 6, none⟩ fun v153 => ldH h144 ⟨h.size, 7, none⟩ fun v154 => ldH h144 ⟨h.size, 8, none⟩ fun v155 => ldH h144 ⟨h.size, 9, none⟩ fun v156 => ldH h144 ⟨h.size, 10, none⟩ fun v157 => ldH h144 ⟨h.size, 11, none⟩ fun v158 => ldH h144 ⟨h.size, 12, none⟩ fun v159 => ldH h144 ⟨h.size, 13, none⟩ fun v160 => ldH h144 ⟨h.size, 14, none⟩ fun v161 => cf 66 #[.agg #[v147, v148, v149, v150, v151, v152, v153, v154, v155, v156, v157, v158, v159, v160, v161], .int .i64 1, .int .i64 (IntKind.wrap .i64 (5 + n146))] h144 fun v162 h163 => asInt .i64 v162 fun n164 => cf 64 #[.int .i64 2] h163 fun v165 h166 => asInt .u64 v165 fun n167 => cf 63 #[.pointer xa, .int .i64 n164, .int .u64 n167] h166 fun v168 h169 => asInt .i64 v168 fun n170 => asInt .i64 v142 fun n171 => (I139 [.int .i64 n146, .int .i64 (IntKind.wrap .i64 (n171 + 1))] h169) ∧ ((m140 [.int .i64 n146, .int .i64 (IntKind.wrap .i64 (n171 + 1))] h169) < (m140 [v141, v142] h144))) (K (.tuple #[]) h144))))))))))
def F33 (K : Value → Heap → Prop) (h : Heap) (xa : Option Addr) (xb xc xd xe xf xg xh xi xj xk xl xm xn xo xp : Int) : Prop :=
  (g33 K h (Array.push h (.cells #[.int .i64 xb, .int .i64 xc, .int .i64 xd, .int .i64 xe, .int .i64 xf, .int .i64 xg, .int .i64 xh, .int .i64 xi, .int .i64 xj, .int .i64 xk, .int .i64 xl, .int .i64 xm, .int .i64 xn, .int .i64 xo, .int .i64 xp] 69)) xa)
theorem call33 {K : Value → Heap → Prop} {h : Heap} {xa : Option Addr} {xb xc xd xe xf xg xh xi xj xk xl xm xn xo xp : Int} (H : F33 K h xa xb xc xd xe xf xg xh xi xj xk xl xm xn xo xp) : CallH Tryz.prog 33 #[(.pointer xa), (.agg #[(.int .i64 xb), (.int .i64 xc), (.int .i64 xd), (.int .i64 xe), (.int .i64 xf), (.int .i64 xg), (.int .i64 xh), (.int .i64 xi), (.int .i64 xj), (.int .i64 xk), (.int .i64 xl), (.int .i64 xm), (.int .i64 xn), (.int .i64 xo), (.int .i64 xp)])] h K :=
  callH_mk Tryz.func33 (by kernel_rfl) (Eq.mp (by kernel_rfl) H)
def F37 (K : Value → Heap → Prop) (h : Heap) (xa : Option Addr) (xb : Int) : Prop :=
  (exI fun I0 => (ifB (Option.isNone xa) (I0 [.bool true, .bool true] h) (ifB (decide (xb < 0)) (I0 [.bool (decide (xb < 0)), .bool true] h) (nP xa fun a1 => lS h (Addr.add a1 18) fun o3 k4 k5 => I0 [.bool (decide (xb < 0)), .bool (decide (xb ≥ (k4 : Int)))] h))) ∧ (∀ (v6 v7 : Value) (g8 : Env) (h9 : Heap), (I0 [v6, v7] h9) → (asBool v7 fun b10 => ifB b10 (K (.pointer none) h9) (nP xa fun a11 => lS h9 (Addr.add a11 18) fun o13 k14 k15 => bd xb (k14 : Int) (asPtr (.pointer o13) fun a16 => lP h9 (Addr.add a16 (xb.toNat * 1)) fun o18 => K (.pointer o18) h9)))))
theorem call37 {K : Value → Heap → Prop} {h : Heap} {xa : Option Addr} {xb : Int} (H : F37 K h xa xb) : CallH Tryz.prog 37 #[(.pointer xa), (.int .i64 xb)] h K :=
  callH_mk Tryz.func37 (by kernel_rfl) (Eq.mp (by kernel_rfl) H)
def F38 (K : Value → Heap → Prop) (h : Heap) (xa : Option Addr) (xb : Int) (xc : Option Addr) (xd xe : Nat) : Prop :=
  (ifB (Option.isNone xa) (K (.tuple #[]) h) (stH (Array.push h (.cells #[.int .i64 0, .int .i64 0, .int .u64 0, .int .u64 0, .int .u64 0, .int .u64 0, .int .u64 0, .int .u64 0, .int .u64 0, .int .u64 0, .int .u64 0, .int .u64 0] 99)) ⟨h.size, 0, none⟩ (.int .i64 xb) fun h0 => stH h0 ⟨h.size, 1, none⟩ (.int .i64 0) fun h1 => stH h1 ⟨h.size, 2, none⟩ (.int .u64 0) fun h2 => stH h2 ⟨h.size, 3, none⟩ (.int .u64 0) fun h3 => stH h3 ⟨h.size, 4, none⟩ (.int .u64 0) fun h4 => stH h4 ⟨h.size, 5, none⟩ (.int .u64 0) fun h5 => stH h5 ⟨h.size, 6, none⟩ (.int .u64 0) fun h6 => stH h6 ⟨h.size, 7, none⟩ (.int .u64 0) fun h7 => stH h7 ⟨h.size, 8, none⟩ (.int .u64 0) fun h8 => stH h8 ⟨h.size, 9, none⟩ (.int .u64 0) fun h9 => stH h9 ⟨h.size, 10, none⟩ (.int .u64 0) fun h10 => stH h10 ⟨h.size, 11, none⟩ (.int .u64 0) fun h11 => copyH Tryz.prog #[60, 60] 3 #[.slice (some (subA1 ⟨h.size, 2, none⟩ 0 10 1)) 10 10, .slice xc xd xe] h11 fun v12 h13 => asInt .i64 v12 fun n14 => nP xa fun a15 => ldH h13 (Addr.add a15 1) fun v16 => asSlice v16 fun o17 k18 k19 => ldH h13 ⟨h.size, 0, none⟩ fun v20 => ldH h13 ⟨h.size, 1, none⟩ fun v21 => ldH h13 ⟨h.size, 2, none⟩ fun v22 => ldH h13 ⟨h.size, 3, none⟩ fun v23 => ldH h13 ⟨h.size, 4, none⟩ fun v24 => ldH h13 ⟨h.size, 5, none⟩ fun v25 => ldH h13 ⟨h.size, 6, none⟩ fun v26 => ldH h13 ⟨h.size, 7, none⟩ fun v27 => ldH h13 ⟨h.size, 8, none⟩ fun v28 => ldH h13 ⟨h.size, 9, none⟩ fun v29 => ldH h13 ⟨h.size, 10, none⟩ fun v30 => ldH h13 ⟨h.size, 11, none⟩ fun v31 => ((cellAt (Array.push h13 (.cells #[v20, v21, v22, v23, v24, v25, v26, v27, v28, v29, v30, v31] 99)) (Addr.add a15 1)) = (some v16)) ∧ (appH Tryz.prog #[83, 83] 83 #[.slice o17 k18 k19, .slice (some ⟨h13.size, 0, none⟩) 1 1] (Array.push h13 (.cells #[v20, v21, v22, v23, v24, v25, v26, v27, v28, v29, v30, v31] 99)) fun v32 h33 => asSlice v32 fun o34 k35 k36 => nP xa fun a37 => stH h33 (Addr.add a37 1) (.slice o34 k35 k36) fun h38 => K (.tuple #[]) h38)))
theorem call38 {K : Value → Heap → Prop} {h : Heap} {xa : Option Addr} {xb : Int} {xc : Option Addr} {xd xe : Nat} (H : F38 K h xa xb xc xd xe) : CallH Tryz.prog 38 #[(.pointer xa), (.int .i64 xb), (.slice xc xd xe)] h K :=
  callH_mk Tryz.func38 (by kernel_rfl) (Eq.mp (by kernel_rfl) H)
def F39 (K : Value → Heap → Prop) (h : Heap) (xa : Option Addr) : Prop :=
  (ifB (!(Option.isNone xa)) (nP xa fun a0 => ldH h (Addr.add a0 20) fun v1 => asBool v1 fun b2 => ifB b2 (K (.bool true) h) (cf 67 #[.pointer xa] h fun v3 h4 => asBool v3 fun b5 => ifB b5 (nP xa fun a6 => lP h4 (Addr.add a6 16) fun o8 => cf 68 #[.pointer o8] h4 fun v9 h10 => asAgg v9 fun vs11 => sizeH vs11 2 (elemH vs11 0 fun v12 => elemH vs11 1 fun v13 => eqvH Tryz.prog 136 (.agg #[v12, v13]) (.agg #[.int .i64 0, .int .i64 0]) fun b14 => K (.bool (!b14)) h10)) (K (.bool false) h4))) (K (.bool false) h))
theorem call39 {K : Value → Heap → Prop} {h : Heap} {xa : Option Addr} (H : F39 K h xa) : CallH Tryz.prog 39 #[(.pointer xa)] h K :=
  callH_mk Tryz.func39 (by kernel_rfl) (Eq.mp (by kernel_rfl) H)
def F40 (K : Value → Heap → Prop) (h : Heap) (xa : Option Addr) (xb : Int) (xc : Value) : Prop :=
  (cf 37 #[.pointer xa, .int .i64 xb] h fun v0 h1 => asPtrO v0 fun o2 => exI fun I3 => (ifB (Option.isNone o2) (I3 [.bool true] h1) (asFnNil xc fun b4 => I3 [.bool b4] h1)) ∧ (∀ (v5 : Value) (g6 : Env) (h7 : Heap), (I3 [v5] h7) → (asBool v5 fun b8 => ifB b8 (K (.bool false) h7) (nP xa fun a9 => stH h7 (Addr.add a9 19) (.bool false) fun h10 => exI fun I11 => exM fun m12 => (I11 [] h10) ∧ (∀ (g13 : Env) (h14 : Heap), (I11 [] h14) → (exI fun I15 => (nP xa fun a16 => ldH h14 (Addr.add a16 19) fun v17 => asBool v17 fun b18 => ifB (!b18) (nP o2 fun a19 => lS h14 (Addr.add a19 1) fun o21 k22 k23 => I15 [.bool (decide ((k22 : Int) > 0))] h14) (I15 [.bool false] h14)) ∧ (∀ (v24 : Value) (g25 : Env) (h26 : Heap), (I15 [v24] h26) → (asBool v24 fun b27 => ifB b27 (callV Tryz.prog xc #[.pointer xa, .pointer o2] h26 fun v28 h29 => (I11 [] h29) ∧ ((m12 [] h29) < (m12 [] h14))) (nP o2 fun a30 => lS h26 (Addr.add a30 1) fun o32 k33 k34 => K (.bool (decide ((k33 : Int) > 0))) h26)))))))))
theorem call40 {K : Value → Heap → Prop} {h : Heap} {xa : Option Addr} {xb : Int} {xc : Value} (H : F40 K h xa xb xc) : CallH Tryz.prog 40 #[(.pointer xa), (.int .i64 xb), xc] h K :=
  callH_mk Tryz.func40 (by kernel_rfl) (Eq.mp (by kernel_rfl) H)
def F42 (K : Value → Heap → Prop) (h : Heap) (xa : Option Addr) : Prop :=
  (exI fun I0 => (ifB (Option.isNone xa) (I0 [.bool true] h) (nP xa fun a1 => lS h (Addr.add a1 1) fun o3 k4 k5 => I0 [.bool ((k4 : Int) == 0)] h)) ∧ (∀ (v6 : Value) (g7 : Env) (h8 : Heap), (I0 [v6] h8) → (asBool v6 fun b9 => ifB b9 (K (.pointer none) h8) (nP xa fun a10 => lS h8 (Addr.add a10 1) fun o12 k13 k14 => nP xa fun a15 => lS h8 (Addr.add a15 1) fun o17 k18 k19 => ((0 : Int) ≤ (IntKind.wrap .i64 ((k18 : Int) - 1))) ∧ ((((IntKind.wrap .i64 ((k18 : Int) - 1)) : Int) < (k13 : Int)) ∧ (asPtr (.pointer o12) fun a20 => K (.pointer (some (Addr.add a20 ((IntKind.wrap .i64 ((k18 : Int) - 1)).toNat * 12)))) h8))))))
theorem call42 {K : Value → Heap → Prop} {h : Heap} {xa : Option Addr} (H : F42 K h xa) : CallH Tryz.prog 42 #[(.pointer xa)] h K :=
  callH_mk Tryz.func42 (by kernel_rfl) (Eq.mp (by kernel_rfl) H)
def F44 (K : Value → Heap → Prop) (h : Heap) (xa xb : Option Addr) (xc xd : Nat) : Prop :=
  (exI fun I0 => (ifB (Option.isNone xa) (I0 [.bool true] h) (nP xa fun a1 => lS h (Addr.add a1 1) fun o3 k4 k5 => I0 [.bool ((k4 : Int) == 0)] h)) ∧ (∀ (v6 : Value) (g7 : Env) (h8 : Heap), (I0 [v6] h8) → (asBool v6 fun b9 => ifB b9 (K (.tuple #[]) h8) (nP xa fun a10 => lS h8 (Addr.add a10 1) fun o12 k13 k14 => nP xa fun a15 => lS h8 (Addr.add a15 1) fun o17 k18 k19 => ((0 : Int) ≤ (IntKind.wrap .i64 ((k18 : Int) - 1))) ∧ ((((IntKind.wrap .i64 ((k18 : Int) - 1)) : Int) ≤ (k14 : Int)) ∧ (nP xa fun a20 => stH h8 (Addr.add a20 1) (.slice (subA o12 0 k14 12) ((IntKind.wrap .i64 ((k18 : Int) - 1)).toNat - 0) (k14 - 0)) fun h21 => nP xa fun a22 => stH h21 (Addr.add a22 2) (.int .u64 0) fun h23 => stH h23 (Addr.add a22 3) (.int .u64 0) fun h24 => stH h24 (Addr.add a22 4) (.int .u64 0) fun h25 => nP xa fun a26 => copyH Tryz.prog #[60, 60] 3 #[.slice (some (subA1 (Addr.add a26 2) 0 3 1)) 3 3, .slice xb xc xd] h25 fun v27 h28 => asInt .i64 v27 fun n29 => K (.tuple #[]) h28))))))
theorem call44 {K : Value → Heap → Prop} {h : Heap} {xa xb : Option Addr} {xc xd : Nat} (H : F44 K h xa xb xc xd) : CallH Tryz.prog 44 #[(.pointer xa), (.slice xb xc xd)] h K :=
  callH_mk Tryz.func44 (by kernel_rfl) (Eq.mp (by kernel_rfl) H)
def F64 (K : Value → Heap → Prop) (h : Heap) (xa : Int) : Prop :=
  (cf 127 #[.int .i64 xa, .bool false, .int .u64 0] h fun v0 h1 => asTup v0 fun vs2 => elemH vs2 0 fun v3 => asInt .u64 v3 fun n4 => asTup v0 fun vs5 => elemH vs5 1 fun v6 => asInt .i64 v6 fun n7 => K (.int .u64 n4) h1)
theorem call64 {K : Value → Heap → Prop} {h : Heap} {xa : Int} (H : F64 K h xa) : CallH Tryz.prog 64 #[(.int .i64 xa)] h K :=
  callH_mk Tryz.func64 (by kernel_rfl) (Eq.mp (by kernel_rfl) H)
def F67 (K : Value → Heap → Prop) (h : Heap) (xa : Option Addr) : Prop :=
  (ifB (!(Option.isNone xa)) (nP xa fun a0 => lP h (Addr.add a0 16) fun o2 => K (.bool (!(Option.isNone o2))) h) (K (.bool false) h))
theorem call67 {K : Value → Heap → Prop} {h : Heap} {xa : Option Addr} (H : F67 K h xa) : CallH Tryz.prog 67 #[(.pointer xa)] h K :=
  callH_mk Tryz.func67 (by kernel_rfl) (Eq.mp (by kernel_rfl) H)
def F85 (K : Value → Heap → Prop) (h : Heap) (xa : Option Addr) (xb : Int) : Prop :=
  (cf 157 #[.pointer xa, .slice (some ⟨h.size, 0, none⟩) 1 1] (Array.push h (.cells #[.int .i64 xb] 3)) fun v0 h1 => asBool v0 fun b2 => ifB (!b2) (K (.int .u64 0) h1) (nP xa fun a3 => lP h1 (Addr.add a3 15) fun o5 => cf 158 #[.pointer o5, .int .i64 xb] h1 fun v6 h7 => asTup v6 fun vs8 => elemH vs8 0 fun v9 => asInt .u64 v9 fun n10 => asTup v6 fun vs11 => elemH vs11 1 fun v12 => asInt .i64 v12 fun n13 => cf 159 #[.pointer xa, .int .i64 n13] h7 fun v14 h15 => K (.int .u64 n10) h15))
theorem call85 {K : Value → Heap → Prop} {h : Heap} {xa : Option Addr} {xb : Int} (H : F85 K h xa xb) : CallH Tryz.prog 85 #[(.pointer xa), (.int .i64 xb)] h K :=
  callH_mk Tryz.func85 (by kernel_rfl) (Eq.mp (by kernel_rfl) H)
def F116 (K : Value → Heap → Prop) (h : Heap) (xa : Option Addr) (xb xc : Int) : Prop :=
  (cf 157 #[.pointer xa, .slice (some ⟨h.size, 0, none⟩) 1 1] (Array.push h (.cells #[.int .i64 xb] 3)) fun v0 h1 => asBool v0 fun b2 => ifB (!b2) (K (.int .u64 0) h1) (nP xa fun a3 => lP h1 (Addr.add a3 15) fun o5 => cf 194 #[.pointer o5, .int .i64 xb, .int .u64 xc] h1 fun v6 h7 => asTup v6 fun vs8 => elemH vs8 0 fun v9 => asInt .u64 v9 fun n10 => asTup v6 fun vs11 => elemH vs11 1 fun v12 => asInt .i64 v12 fun n13 => cf 159 #[.pointer xa, .int .i64 n13] h7 fun v14 h15 => K (.int .u64 n10) h15))
theorem call116 {K : Value → Heap → Prop} {h : Heap} {xa : Option Addr} {xb xc : Int} (H : F116 K h xa xb xc) : CallH Tryz.prog 116 #[(.pointer xa), (.int .i64 xb), (.int .u64 xc)] h K :=
  callH_mk Tryz.func116 (by kernel_rfl) (Eq.mp (by kernel_rfl) H)
abbrev g117 (K : Value → Heap → Prop) (h H1 : Heap) (xa : Option Addr) : Prop :=
  (ifB (Option.isNone xa) (stH H1 ⟨h.size, 0, none⟩ (.int .i64 0) fun h0 => stH h0 ⟨h.size, 1, none⟩ (.int .i64 0) fun h1 => stH h1 ⟨h.size, 2, none⟩ (.int .i64 0) fun h2 => stH h2 ⟨h.size, 3, none⟩ (.int .i64 0) fun h3 => stH h3 ⟨h.size, 4, none⟩ (.int .i64 0) fun h4 => stH h4 ⟨h.size, 5, none⟩ (.int .i64 0) fun h5 => stH h5 ⟨h.size, 6, none⟩ (.int .i64 0) fun h6 => stH h6 ⟨h.size, 7, none⟩ (.int .i64 0) fun h7 => stH h7 ⟨h.size, 8, none⟩ (.int .i64 0) fun h8 => stH h8 ⟨h.size, 9, none⟩ (.int .i64 0) fun h9 => stH h9 ⟨h.size, 10, none⟩ (.int .i64 0) fun h10 => stH h10 ⟨h.size, 11, none⟩ (.int .i64 0) fun h11 => stH h11 ⟨h.size, 12, none⟩ (.int .i64 0) fun h12 => stH h12 ⟨h.size, 13, none⟩ (.int .i64 0) fun h13 => stH h13 ⟨h.size, 14, none⟩ (.int .i64 0) fun h14 => ldH h14 ⟨h.size, 0, none⟩ fun v15 => ldH h14 ⟨h.size, 1, none⟩ fun v16 => ldH h14 ⟨h.size, 2, none⟩ fun v17 => ldH h14 ⟨h.size, 3, none⟩ fun v18 => ldH h14 ⟨h.size, 4, none⟩ fun v19 => ldH h14 ⟨h.size, 5, none⟩ fun v20 => ldH h14 ⟨h.size, 6, none⟩ fun v21 => ldH h14 ⟨h.size, 7, none⟩ fun v22 => ldH h14 ⟨h.size, 8, none⟩ fun v23 => ldH h14 ⟨h.size, 9, none⟩ fun v24 => ldH h14 ⟨h.size, 10, none⟩ fun v25 => ldH h14 ⟨h.size, 11, none⟩ fun v26 => ldH h14 ⟨h.size, 12, none⟩ fun v27 => ldH h14 ⟨h.size, 13, none⟩ fun v28 => ldH h14 ⟨h.size, 14, none⟩ fun v29 => K (.agg #[v15, v16, v17, v18, v19, v20, v21, v22, v23, v24, v25, v26, v27, v28, v29]) h14) (nP xa fun a30 => ldH H1 a30 fun v31 => ldH H1 (Addr.add a30 1) fun v32 => ldH H1 (Addr.add a30 2) fun v33 => ldH H1 (Addr.add a30 3) fun v34 => ldH H1 (Addr.add a30 4) fun v35 => ldH H1 (Addr.add a30 5) fun v36 => ldH H1 (Addr.add a30 6) fun v37 => ldH H1 (Addr.add a30 7) fun v38 => ldH H1 (Addr.add a30 8) fun v39 => ldH H1 (Addr.add a30 9) fun v40 => ldH H1 (Addr.add a30 10) fun v41 => ldH H1 (Addr.add a30 11) fun v42 => ldH H1 (Addr.add a30 12) fun v43 => ldH H1 (Addr.add a30 13) fun v44 => ldH H1 (Addr.add a30 14) fun v45 => stH H1 ⟨h.size, 0, none⟩ v31 fun h46 => stH h46 ⟨h.size, 1, none⟩ v32 fun h47 => stH h47 ⟨h.size, 2, none⟩ v33 fun h48 => stH h48 ⟨h.size, 3, none⟩ v34 fun h49 => stH h49 ⟨h.size, 4, none⟩ v35 fun h50 => stH h50 ⟨h.size, 5, none⟩ v36 fun h51 => stH h51 ⟨h.size, 6, none⟩ v37 fun h52 => stH h52 ⟨h.size, 7, none⟩ v38 fun h53 => stH h53 ⟨h.size, 8, none⟩ v39 fun h54 => stH h54 ⟨h.size, 9, none⟩ v40 fun h55 => stH h55 ⟨h.size, 10, none⟩ v41 fun h56 => stH h56 ⟨h.size, 11, none⟩ v42 fun h57 => stH h57 ⟨h.size, 12, none⟩ v43 fun h58 => stH h58 ⟨h.size, 13, none⟩ v44 fun h59 => stH h59 ⟨h.size, 14, none⟩ v45 fun h60 => ldH h60 ⟨h.size, 0, none⟩ fun v61 => ldH h60 ⟨h.size, 1, none⟩ fun v62 => ldH h60 ⟨h.size, 2, none⟩ fun v63 => ldH h60 ⟨h.size, 3, none⟩ fun v64 => ldH h60 ⟨h.size, 4, none⟩ fun v65 => ldH h60 ⟨h.size, 5, none⟩ fun v66 => ldH h60 ⟨h.size, 6, none⟩ fun v67 => ldH h60 ⟨h.size, 7, none⟩ fun v68 => ldH h60 ⟨h.size, 8, none⟩ fun v69 => ldH h60 ⟨h.size, 9, none⟩ fun v70 => ldH h60 ⟨h.size, 10, none⟩ fun v71 => ldH h60 ⟨h.size, 11, none⟩ fun v72 => ldH h60 ⟨h.size, 12, none⟩ fun v73 => ldH h60 ⟨h.size, 13, none⟩ fun v74 => ldH h60 ⟨h.size, 14, none⟩ fun v75 => K (.agg #[v61, v62, v63, v64, v65, v66, v67, v68, v69, v70, v71, v72, v73, v74, v75]) h60))
def F117 (K : Value → Heap → Prop) (h : Heap) (xa : Option Addr) : Prop :=
  (g117 K h (Array.push h (.cells #[.int .i64 0, .int .i64 0, .int .i64 0, .int .i64 0, .int .i64 0, .int .i64 0, .int .i64 0, .int .i64 0, .int .i64 0, .int .i64 0, .int .i64 0, .int .i64 0, .int .i64 0, .int .i64 0, .int .i64 0] 69)) xa)
theorem call117 {K : Value → Heap → Prop} {h : Heap} {xa : Option Addr} (H : F117 K h xa) : CallH Tryz.prog 117 #[(.pointer xa)] h K :=
  callH_mk Tryz.func117 (by kernel_rfl) (Eq.mp (by kernel_rfl) H)
def F129 (K : Value → Heap → Prop) (h : Heap) (xa : Option Addr) (xb xc : Int) : Prop :=
  (cf 157 #[.pointer xa, .slice (some ⟨h.size, 0, none⟩) 1 1] (Array.push h (.cells #[.int .i64 xb] 3)) fun v0 h1 => asBool v0 fun b2 => ifB b2 (nP xa fun a3 => lP h1 (Addr.add a3 15) fun o5 => cf 63 #[.pointer o5, .int .i64 xb, .int .u64 xc] h1 fun v6 h7 => asInt .i64 v6 fun n8 => cf 159 #[.pointer xa, .int .i64 n8] h7 fun v9 h10 => K (.tuple #[]) h10) (K (.tuple #[]) h1))
theorem call129 {K : Value → Heap → Prop} {h : Heap} {xa : Option Addr} {xb xc : Int} (H : F129 K h xa xb xc) : CallH Tryz.prog 129 #[(.pointer xa), (.int .i64 xb), (.int .u64 xc)] h K :=
  callH_mk Tryz.func129 (by kernel_rfl) (Eq.mp (by kernel_rfl) H)
def F139 (K : Value → Heap → Prop) (h : Heap) (xa : Option Addr) : Prop :=
  (ifB (Option.isNone xa) (K (.pointer none) h) (nP xa fun a0 => lP h (Addr.add a0 17) fun o2 => K (.pointer o2) h))
theorem call139 {K : Value → Heap → Prop} {h : Heap} {xa : Option Addr} (H : F139 K h xa) : CallH Tryz.prog 139 #[(.pointer xa)] h K :=
  callH_mk Tryz.func139 (by kernel_rfl) (Eq.mp (by kernel_rfl) H)
def F152 (K : Value → Heap → Prop) (h : Heap) (xa : Option Addr) (xb xc xd : Int) : Prop :=
  (cf 157 #[.pointer xa, .slice (some ⟨h.size, 0, none⟩) 1 1] (Array.push h (.cells #[.int .i64 xb] 3)) fun v0 h1 => asBool v0 fun b2 => ifB (!b2) (K (.bool false) h1) (nP xa fun a3 => lP h1 (Addr.add a3 15) fun o5 => cf 204 #[.pointer o5, .int .i64 xb, .int .u64 xc, .int .u64 xd] h1 fun v6 h7 => asTup v6 fun vs8 => elemH vs8 0 fun v9 => asBool v9 fun b10 => asTup v6 fun vs11 => elemH vs11 1 fun v12 => asInt .i64 v12 fun n13 => cf 159 #[.pointer xa, .int .i64 n13] h7 fun v14 h15 => K (.bool b10) h15))
theorem call152 {K : Value → Heap → Prop} {h : Heap} {xa : Option Addr} {xb xc xd : Int} (H : F152 K h xa xb xc xd) : CallH Tryz.prog 152 #[(.pointer xa), (.int .i64 xb), (.int .u64 xc), (.int .u64 xd)] h K :=
  callH_mk Tryz.func152 (by kernel_rfl) (Eq.mp (by kernel_rfl) H)
def F157 (K : Value → Heap → Prop) (h : Heap) (xa xb : Option Addr) (xc xd : Nat) : Prop :=
  (ifB (Option.isNone xa) (K (.bool false) h) (nP xa fun a0 => stH h (Addr.add a0 19) (.bool true) fun h1 => exI fun I2 => exM fun m3 => (I2 [.tuple #[], .tuple #[], .tuple #[], .tuple #[], .int .i64 0, .tuple #[]] h1) ∧ (∀ (v4 v5 v6 v7 v8 v9 : Value) (g10 : Env) (h11 : Heap), (I2 [v4, v5, v6, v7, v8, v9] h11) → (asInt .i64 v8 fun n12 => ifB (decide (n12 < ((xc : Nat) : Int))) (asI v8 fun n13 => bd n13 ((xc : Nat) : Int) (asPtr (.pointer xb) fun a14 => lI .i64 h11 (Addr.add a14 (n13.toNat * 1)) fun n16 => nP xa fun a17 => ldH h11 a17 fun v18 => ldH h11 (Addr.add a17 1) fun v19 => ldH h11 (Addr.add a17 2) fun v20 => ldH h11 (Addr.add a17 3) fun v21 => ldH h11 (Addr.add a17 4) fun v22 => ldH h11 (Addr.add a17 5) fun v23 => ldH h11 (Addr.add a17 6) fun v24 => ldH h11 (Addr.add a17 7) fun v25 => ldH h11 (Addr.add a17 8) fun v26 => ldH h11 (Addr.add a17 9) fun v27 => ldH h11 (Addr.add a17 10) fun v28 => ldH h11 (Addr.add a17 11) fun v29 => ldH h11 (Addr.add a17 12) fun v30 => ldH h11 (Addr.add a17 13) fun v31 => ldH h11 (Addr.add a17 14) fun v32 => cf 207 #[.agg #[v18, v19, v20, v21, v22, v23, v24, v25, v26, v27, v28, v29, v30, v31, v32], .int .i64 n16] h11 fun v33 h34 => asTup v33 fun vs35 => elemH vs35 0 fun v36 => asInt .i64 v36 fun n37 => asTup v33 fun vs38 => elemH vs38 1 fun v39 => asInt .i64 v39 fun n40 => asTup v33 fun vs41 => elemH vs41 2 fun v42 => asInt .i64 v42 fun n43 => exI fun I44 => (ifB (n37 == 3) (nP xa fun a45 => lP h34 (Addr.add a45 16) fun o47 => I44 [.bool (!(Option.isNone o47))] h34) (I44 [.bool false] h34)) ∧ (∀ (v48 : Value) (g49 : Env) (h50 : Heap), (I44 [v48] h50) → (asBool v48 fun b51 => ifB b51 (nP xa fun a52 => lP h50 (Addr.add a52 16) fun o54 => cf 208 #[.pointer o54, .int .i64 n40] h50 fun v55 h56 => asBool v55 fun b57 => asInt .i64 v8 fun n58 => (I2 [.int .i64 n16, .int .i64 n37, .int .i64 n40, .int .i64 n43, .int .i64 (IntKind.wrap .i64 (n58 + 1)), v33] h56) ∧ ((m3 [.int .i64 n16, .int .i64 n37, .int .i64 n40, .int .i64 n43, .int .i64 (IntKind.wrap .i64 (n58 + 1)), v33] h56) < (m3 [v4, v5, v6, v7, v8, v9] h11))) (asInt .i64 v8 fun n59 => (I2 [.int .i64 n16, .int .i64 n37, .int .i64 n40, .int .i64 n43, .int .i64 (IntKind.wrap .i64 (n59 + 1)), v33] h50) ∧ ((m3 [.int .i64 n16, .int .i64 n37, .int .i64 n40, .int .i64 n43, .int .i64 (IntKind.wrap .i64 (n59 + 1)), v33] h50) < (m3 [v4, v5, v6, v7, v8, v9] h11))))))) (K (.bool true) h11)))))
theorem call157 {K : Value → Heap → Prop} {h : Heap} {xa xb : Option Addr} {xc xd : Nat} (H : F157 K h xa xb xc xd) : CallH Tryz.prog 157 #[(.pointer xa), (.slice xb xc xd)] h K :=
  callH_mk Tryz.func157 (by kernel_rfl) (Eq.mp (by kernel_rfl) H)
def F159 (K : Value → Heap → Prop) (h : Heap) (xa : Option Addr) (xb : Int) : Prop :=
  (nP xa fun a0 => ldH h (Addr.add a0 20) fun v1 => asBool v1 fun b2 => ifB b2 (nP xa fun a3 => stH h (Addr.add a3 20) (.bool true) fun h4 => K (.tuple #[]) h4) (nP xa fun a5 => stH h (Addr.add a5 20) (.bool (xb != 0)) fun h6 => K (.tuple #[]) h6))
theorem call159 {K : Value → Heap → Prop} {h : Heap} {xa : Option Addr} {xb : Int} (H : F159 K h xa xb) : CallH Tryz.prog 159 #[(.pointer xa), (.int .i64 xb)] h K :=
  callH_mk Tryz.func159 (by kernel_rfl) (Eq.mp (by kernel_rfl) H)
def F176 (K : Value → Heap → Prop) (h : Heap) (xa : Option Addr) (xb : Int) : Prop :=
  (cf 67 #[.pointer xa] h fun v0 h1 => asBool v0 fun b2 => ifB b2 (nP xa fun a3 => lP h1 (Addr.add a3 16) fun o5 => cf 214 #[.pointer o5, .int .i64 xb] h1 fun v6 h7 => asBool v6 fun b8 => K (.tuple #[]) h7) (K (.tuple #[]) h1))
theorem call176 {K : Value → Heap → Prop} {h : Heap} {xa : Option Addr} {xb : Int} (H : F176 K h xa xb) : CallH Tryz.prog 176 #[(.pointer xa), (.int .i64 xb)] h K :=
  callH_mk Tryz.func176 (by kernel_rfl) (Eq.mp (by kernel_rfl) H)
def F220 (K : Value → Heap → Prop) (h : Heap) (xa : Option Addr) (xb : Int) : Prop :=
  (cf 67 #[.pointer xa] h fun v0 h1 => asBool v0 fun b2 => ifB b2 (nP xa fun a3 => lP h1 (Addr.add a3 16) fun o5 => cf 229 #[.pointer o5, .int .i64 xb] h1 fun v6 h7 => asBool v6 fun b8 => K (.tuple #[]) h7) (K (.tuple #[]) h1))
theorem call220 {K : Value → Heap → Prop} {h : Heap} {xa : Option Addr} {xb : Int} (H : F220 K h xa xb) : CallH Tryz.prog 220 #[(.pointer xa), (.int .i64 xb)] h K :=
  callH_mk Tryz.func220 (by kernel_rfl) (Eq.mp (by kernel_rfl) H)
def F221 (K : Value → Heap → Prop) (h : Heap) (xa : Option Addr) (xb : Int) : Prop :=
  (cf 67 #[.pointer xa] h fun v0 h1 => asBool v0 fun b2 => ifB b2 (nP xa fun a3 => lP h1 (Addr.add a3 16) fun o5 => cf 230 #[.pointer o5, .int .i64 xb] h1 fun v6 h7 => asBool v6 fun b8 => K (.tuple #[]) h7) (K (.tuple #[]) h1))
theorem call221 {K : Value → Heap → Prop} {h : Heap} {xa : Option Addr} {xb : Int} (H : F221 K h xa xb) : CallH Tryz.prog 221 #[(.pointer xa), (.int .i64 xb)] h K :=
  callH_mk Tryz.func221 (by kernel_rfl) (Eq.mp (by kernel_rfl) H)
end
section
open Mod
abbrev mP (M : Nat) : Value := .pointer (some ⟨M, 0, none⟩)
def ghV (g : Option Gh) (q : Nat) : Value := .pointer (if g.isSome then some ⟨q, 0, none⟩ else none)
abbrev macC (tv : Value) (q gq fq : Nat) (s : Mac) : List Value := [.int .i64 s.p.c.algo, .int .i64 s.p.c.threads, .int .i64 s.p.c.nodes, .int .i64 s.p.c.level, .int .i64 s.p.c.batch, .int .i64 s.p.c.probes, .int .i64 s.p.c.scan, .int .i64 s.p.slots, .int .i64 s.p.width, .int .i64 s.p.sent, .int .i64 s.p.hazards, .int .i64 s.p.links, .int .i64 s.p.nodes, .int .i64 s.p.tree, .int .i64 s.p.size,
  mP q, ghV s.g gq, mP fq, tv, .bool s.acted, .bool s.bad]
def macS (M : Nat) (tv : Value) (s : Mac) : Hp := ex fun q => ex fun gq => ex fun fq => pr (PlB s.p) (pt M (.cells (macC tv q gq fq s).toArray 80) * (memS q s.mm * (ghS s.g gq * fdS fq s.b s.used)))
theorem macS_iff {h : Heap} {M : Nat} {tv : Value} {s : Mac} {R : Hp} : Sat h (macS M tv s * R) ↔ ∃ q gq fq, PlB s.p ∧ Sat h (pt M (.cells (macC tv q gq fq s).toArray 80) * (memS q s.mm * (ghS s.g gq * (fdS fq s.b s.used * R)))) := by
  unfold macS
  simp only [Sat.ex, Sat.pr, star_assoc]
theorem macS_pl {h : Heap} {M : Nat} {tv : Value} {s : Mac} {R : Hp} (H : Sat h (macS M tv s * R)) : PlB s.p := by obtain ⟨_, _, _, x, _⟩ := macS_iff.1 H; exact x
theorem note_call {K : Value → Heap → Prop} {h : Heap} {M : Nat} {tv : Value} {s : Mac} {R : Hp} {e : Int} (H : Sat h (macS M tv s * R)) (k : ∀ h', Sat h' (macS M tv { s with bad := s.bad || decide (e ≠ 0) } * R) → K (.tuple #[]) h') :
    CallH Tryz.prog 159 #[mP M, .int .i64 e] h K := by
  refine call159 ?_
  unfold F159 nP
  obtain ⟨q, gq, fq, B, H0⟩ := macS_iff.1 H
  simp only [nilC, asPtr_some, add_lit]
  refine H0.ld rfl ?_
  simp only [asBool_bool]
  have fin : ∀ (bb : Bool), bb = (s.bad || decide (e ≠ 0)) → stH h ⟨M, 0 + 20, none⟩ (.bool bb) (fun h' => K (.tuple #[]) h') := by
    intro bb hb
    refine H0.st rfl trivial fun h' H' => k h' (macS_iff.2 ⟨q, gq, fq, B, ?_⟩)
    rw [← hb]; exact H'
  refine ifB_mk (fun hb => fin true (by rw [hb]; rfl)) (fun hb => fin (e != 0) (by
    rw [hb, Bool.false_or, Bool.eq_iff_iff, bne_iff_ne, decide_eq_true_iff]))
theorem mem_touch_acted (s : Mac) (a : Int) : (s.touch a).acted = true := by unfold Mac.touch; split <;> rfl
theorem foldT_acted (s : Mac) (l : List Int) (h : s.acted = true) : (l.foldl Mac.touch s).acted = true := by
  induction l generalizing s with
  | nil => exact h
  | cons a l ih => exact ih _ (mem_touch_acted s a)
theorem touch_act (s : Mac) (a : Int) : ({ s with acted := true } : Mac).touch a = s.touch a := by
  unfold Mac.touch
  cases h : s.p.within a <;> simp [h]
theorem touch_mm (s : Mac) (a : Int) : (s.touch a).mm = s.mm ∧ (s.touch a).bad = s.bad ∧ (s.touch a).b = s.b ∧ (s.touch a).used = s.used ∧ (s.touch a).th = s.th := by unfold Mac.touch; split <;> exact ⟨rfl, rfl, rfl, rfl, rfl⟩
theorem within_iN {p : Pl} (B : PlB p) {x n : Int} (hx : iN x) (hw : p.within x = some n) : iN n := by
  have b1 := B.wi
  have b3 := B.tr
  have b4 := B.nd
  have b5 := B.li
  unfold Pl.within at hw
  split at hw
  · rename_i hh
    cases hw
    have hd0 : 0 ≤ (x - p.nodes) / p.width := Int.ediv_nonneg (by omega) (by omega)
    have hd1 : (x - p.nodes) / p.width ≤ x - p.nodes := Int.ediv_le_self _ (by omega)
    exact ⟨by omega, by omega⟩
  · cases hw
theorem touch_call {K : Value → Heap → Prop} {h : Heap} {M N : Nat} {tv : Value} {s : Mac} {R : Hp} {ty : TypeId} {l : Nat} {xs : List Int} (H : Sat h (macS M tv s * (pt N (.cells (xs.map iv).toArray ty) * R))) (hl : xs.length = l) (hl2 : l ≤ 2) (hx : ∀ x ∈ xs, iN x)
    (k : ∀ h', Sat h' (macS M tv (xs.foldl Mac.touch { s with acted := true }) * R) → K (.bool true) h') :
    CallH Tryz.prog 157 #[mP M, .slice (some ⟨N, 0, none⟩) l l] h K := by
  refine call157 ?_
  unfold F157 cf bd lP lI nP
  obtain ⟨q, gq, fq, B, H0⟩ := macS_iff.1 H
  simp only [Option.isNone_some, ifB_false, nilC, asPtr_some, add_lit]
  refine H0.st rfl trivial fun h1 H01 => ?_
  have H1 : Sat h1 (macS M tv { s with acted := true } * (pt N (.cells (xs.map iv).toArray ty) * R)) := macS_iff.2 ⟨q, gq, fq, B, H01⟩
  generalize hs0 : ({ s with acted := true } : Mac) = s0 at *
  have hac : s0.acted = true := by rw [← hs0]
  refine ⟨fun vs h' => ∃ w1 w2 w3 w4 w5, ∃ i : Nat, vs = [w1, w2, w3, w4, iv i, w5] ∧ i ≤ l ∧ Sat h' (macS M tv ((xs.take i).foldl Mac.touch s0) * (pt N (.cells (xs.map iv).toArray ty) * R)), fun vs _ => (match vs with | [_, _, _, _, .int _ n, _] => l - n.toNat | _ => 0), ⟨_, _, _, _, _, 0, rfl, Nat.zero_le _, H1⟩, ?_⟩
  rintro v4 v5 v6 v7 v8 v9 g10 h11 ⟨w1, w2, w3, w4, w5, i, e, hi, H11⟩
  cases e
  simp only [asInt_int, asI_int]
  refine ifB_dec (fun hlt => ?_) (fun hge => ?_)
  rotate_left
  · rw [List.take_of_length_le (by omega)] at H11
    exact k h11 H11.drop2
  have hi' : i < xs.length := by omega
  have htk : (xs.take (i + 1)).foldl Mac.touch s0 = ((xs.take i).foldl Mac.touch s0).touch xs[i] := by rw [List.take_succ_eq_append_getElem hi', List.foldl_append]; rfl
  have hxi := hx _ (List.getElem_mem hi')
  have hact := foldT_acted s0 (xs.take i) hac
  have hcell : cellAt h11 ⟨N, i, none⟩ = some (iv xs[i]) := by rw [cellAt_of H11.at2]; simp [hi']
  generalize (xs.take i).foldl Mac.touch s0 = t at *
  generalize xs[i] = x at *
  refine ⟨by omega, hlt, ?_⟩
  simp only [asPtr_some, Int.toNat_natCast, Nat.mul_one]
  rw [show 0 + i = i by omega]
  refine ldH_mk hcell ?_
  simp only [asInt_int]
  obtain ⟨q, gq, fq, B, H12⟩ := macS_iff.1 H11
  have O := H12.at
  refine ldR O rfl (ldR O rfl (ldR O rfl (ldR O rfl (ldR O rfl (ldR O rfl (ldR O rfl (ldR O rfl (ldR O rfl (ldR O rfl (ldR O rfl (ldR O rfl (ldR O rfl (ldR O rfl (ldR O rfl ?_))))))))))))))
  have back : ∀ {v1 v2 v3 v4 v5 : Value} (h2 : Heap), Sat h2 (macS M tv (t.touch x) * (pt N (.cells (xs.map iv).toArray ty) * R)) → (∃ w1 w2 w3 w4 w5, ∃ i2 : Nat, [v1, v2, v3, v4, Value.int .i64 (IntKind.wrap .i64 ((i : Int) + 1)), v5] = [w1, w2, w3, w4, iv i2, w5] ∧ i2 ≤ l ∧ Sat h2 (macS M tv ((xs.take i2).foldl Mac.touch s0) * (pt N (.cells (xs.map iv).toArray ty) * R))) := by
    intro v1 v2 v3 v4 v5 h2 H2
    rw [nat_wrap1 (by omega)]
    exact ⟨_, _, _, _, _, i + 1, rfl, by omega, by rw [htk]; exact H2⟩
  have dec : (l - (IntKind.wrap .i64 ((i : Int) + 1)).toNat) < l - (i : Int).toNat := by
    rw [nat_wrap1 (by omega)]; omega
  refine callV_fn (plWhere_call B hxi (fun n y h34 hw o34 => ?_) (fun qk n y h34 hw hq o34 => ?_))
  · simp only [asTup_tuple]
    refine elemH_mk rfl ?_
    simp only [asInt_int]
    refine elemH_mk rfl ?_
    simp only [asInt_int]
    refine elemH_mk rfl ?_
    simp only [asInt_int]
    have H34 := H12.old o34
    have hnB := within_iN B hxi hw
    refine ⟨fun vs h' => vs = [.bool t.g.isSome] ∧ h' = h34, ?_, ?_⟩
    · rw [show ((3 : Int) == 3) = true from rfl]
      simp only [ifB_true]
      refine H34.ld rfl ?_
      unfold ghV
      simp only [asPtrO_ptr]
      refine ⟨?_, by trivial⟩
      cases t.g <;> rfl
    rintro v48 g49 h50 ⟨e, rfl⟩
    cases e
    simp only [asBool_bool]
    cases hg : t.g with
    | none =>
      simp only [Option.isSome_none, ifB_false]
      have et : t.touch x = t := by unfold Mac.touch; rw [hw]; cases t; simp_all
      exact ⟨back h50 (by rw [et]; exact macS_iff.2 ⟨q, gq, fq, B, H34⟩), dec⟩
    | some g =>
      simp only [Option.isSome_some, ifB_true]
      refine H34.ld rfl ?_
      unfold ghV
      simp only [hg, Option.isSome_some, if_true, asPtrO_ptr]
      rw [hg] at H34
      rw [rot3] at H34
      refine callV_fn (ghTouch_call H34 hnB fun bb h56 G56 => ?_)
      simp only [asBool_bool]
      have et : t.touch x = { t with g := some (g.touch n) } := by unfold Mac.touch; rw [hw]; cases t; simp_all
      refine ⟨back h56 ?_, dec⟩
      rw [et]
      refine macS_iff.2 ⟨q, gq, fq, B, ?_⟩
      rw [rot3]
      have eC : macC tv q gq fq ({ t with g := some (g.touch n) } : Mac) = macC tv q gq fq t := by
        unfold macC ghV
        simp only [hg, Option.isSome_some]
      rw [eC]
      exact G56
  · simp only [asTup_tuple]
    refine elemH_mk rfl ?_
    simp only [asInt_int]
    refine elemH_mk rfl ?_
    simp only [asInt_int]
    refine elemH_mk rfl ?_
    simp only [asInt_int]
    have H34 := H12.old o34
    refine ⟨fun vs h' => vs = [.bool false] ∧ h' = h34, ?_, ?_⟩
    · rw [show (qk == 3) = false by rw [beq_eq_false_iff_ne]; exact hq]
      exact ⟨rfl, by trivial⟩
    rintro v48 g49 h50 ⟨e, rfl⟩
    cases e
    simp only [asBool_bool, ifB_false]
    have et : t.touch x = t := by unfold Mac.touch; rw [hw]; cases t; simp_all
    exact ⟨back h50 (by rw [et]; exact macS_iff.2 ⟨q, gq, fq, B, H34⟩), dec⟩
theorem touch1_call {K : Value → Heap → Prop} {h : Heap} {M : Nat} {tv : Value} {s : Mac} {R : Hp} {a : Int} (H : Sat h (macS M tv s * R)) (ha : iN a)
    (k : ∀ h', Sat h' (macS M tv (s.touch a) * R) → K (.bool true) h') :
    CallH Tryz.prog 157 #[mP M, .slice (some ⟨h.size, 0, none⟩) 1 1] (h.push (.cells #[.int .i64 a] 3)) K := by
  have H1 := H.push (.cells ([a].map iv).toArray 3)
  rw [star_left] at H1
  refine touch_call (xs := [a]) H1 rfl (by omega) (fun x hx => by rw [List.mem_singleton.1 hx]; exact ha) fun h' H' => ?_
  rw [List.foldl_cons, List.foldl_nil, touch_act] at H'
  exact k h' H'
theorem macS_mem {h : Heap} {M : Nat} {tv : Value} {s : Mac} {R : Hp} (H : Sat h (macS M tv s * R)) : ∃ q R', cellAt h ⟨M, 15, none⟩ = some (mP q) ∧ Sat h (memS q s.mm * R') ∧ ∀ h' m', Sat h' (memS q m' * R') → Sat h' (macS M tv (s.setM m') * R) := by
  obtain ⟨q, gq, fq, B, H0⟩ := macS_iff.1 H
  refine ⟨q, _, cellR H0.at rfl, star_left _ _ _ ▸ H0, fun h' m' H' => macS_iff.2 ⟨q, gq, fq, B, ?_⟩⟩
  rw [star_left] at H'
  exact H'
theorem cLoad_call {K : Value → Heap → Prop} {h : Heap} {M : Nat} {tv : Value} {s : Mac} {R : Hp} {a : Int} (H : Sat h (macS M tv s * R)) (ha : iN a) (hs : s.mm.st < 1099511627776)
    (k : ∀ h', Sat h' (macS M tv (s.load a).2 * R) → U (s.load a).1 → K (.int .u64 (s.load a).1) h') :
    CallH Tryz.prog 85 #[mP M, .int .i64 a] h K := by
  refine call85 ?_
  unfold F85 cf lP nP
  refine callV_fn (touch1_call H ha fun h1 H1 => ?_)
  simp only [asBool_bool, Bool.not_true, ifB_false, nilC, asPtr_some, add_lit]
  obtain ⟨q, R', e0, HM, re⟩ := macS_mem H1
  refine ldH_mk e0 ?_
  simp only [asPtrO_ptr]
  unfold Mac.load at k
  rw [← (touch_mm s a).1] at hs
  have BU := (memS_B HM).get a
  generalize s.touch a = t at *
  refine callV_fn (mLoad_call HM hs (fun hok h7 H7 => ?_) (fun hok h7 H7 => ?_))
  · simp only [asTup_tuple]
    refine elemH_mk rfl ?_
    simp only [asInt_int]
    refine elemH_mk rfl ?_
    simp only [asInt_int]
    refine callV_fn (note_call (re h7 _ H7) fun h15 H15 => ?_)
    simp only [hok, if_true] at k
    exact k h15 (by simpa using H15) BU
  · simp only [asTup_tuple]
    refine elemH_mk rfl ?_
    simp only [asInt_int]
    refine elemH_mk rfl ?_
    simp only [asInt_int]
    refine callV_fn (note_call (re h7 _ H7) fun h15 H15 => ?_)
    simp only [hok, Bool.false_eq_true, if_false] at k
    exact k h15 (by simpa [Mac.fail, Mac.setM] using H15) ⟨by omega, by omega⟩
theorem cStore_call {K : Value → Heap → Prop} {h : Heap} {M : Nat} {tv : Value} {s : Mac} {R : Hp} {a v : Int} (H : Sat h (macS M tv s * R)) (ha : iN a) (hv : U v) (hs : s.mm.st < 1099511627776)
    (k : ∀ h', Sat h' (macS M tv (s.store a v) * R) → K (.tuple #[]) h') :
    CallH Tryz.prog 129 #[mP M, .int .i64 a, .int .u64 v] h K := by
  refine call129 ?_
  unfold F129 cf lP nP
  refine callV_fn (touch1_call H ha fun h1 H1 => ?_)
  simp only [asBool_bool, ifB_true, nilC, asPtr_some, add_lit]
  obtain ⟨q, R', e0, HM, re⟩ := macS_mem H1
  refine ldH_mk e0 ?_
  simp only [asPtrO_ptr]
  unfold Mac.store at k
  rw [← (touch_mm s a).1] at hs
  generalize s.touch a = t at *
  refine callV_fn (mStore_call HM hv hs (fun hok h7 H7 => ?_) (fun hok h7 H7 => ?_))
  · simp only [asInt_int]
    refine callV_fn (note_call (re h7 _ H7) fun h15 H15 => ?_)
    simp only [hok, if_true] at k
    exact k h15 (by simpa using H15)
  · simp only [asInt_int]
    refine callV_fn (note_call (re h7 _ H7) fun h15 H15 => ?_)
    simp only [hok, Bool.false_eq_true, if_false] at k
    exact k h15 (by simpa [Mac.fail, Mac.setM] using H15)
theorem cCas_call {K : Value → Heap → Prop} {h : Heap} {M : Nat} {tv : Value} {s : Mac} {R : Hp} {a o n : Int} (H : Sat h (macS M tv s * R)) (ha : iN a) (hn : U n) (hs : s.mm.st < 1099511627776)
    (k : ∀ h', Sat h' (macS M tv (s.cas a o n).2 * R) → K (.bool (s.cas a o n).1) h') :
    CallH Tryz.prog 152 #[mP M, .int .i64 a, .int .u64 o, .int .u64 n] h K := by
  refine call152 ?_
  unfold F152 cf lP nP
  refine callV_fn (touch1_call H ha fun h1 H1 => ?_)
  simp only [asBool_bool, Bool.not_true, ifB_false, nilC, asPtr_some, add_lit]
  obtain ⟨q, R', e0, HM, re⟩ := macS_mem H1
  refine ldH_mk e0 ?_
  simp only [asPtrO_ptr]
  unfold Mac.cas at k
  rw [← (touch_mm s a).1] at hs
  generalize s.touch a = t at *
  refine callV_fn (mCas_call HM hn hs (fun hok h7 H7 => ?_) (fun hok h7 H7 => ?_))
  · simp only [asTup_tuple]
    refine elemH_mk rfl ?_
    simp only [asBool_bool]
    refine elemH_mk rfl ?_
    simp only [asInt_int]
    refine callV_fn (note_call (re h7 _ H7) fun h15 H15 => ?_)
    simp only [hok, if_true] at k
    exact k h15 (by simpa using H15)
  · simp only [asTup_tuple]
    refine elemH_mk rfl ?_
    simp only [asBool_bool]
    refine elemH_mk rfl ?_
    simp only [asInt_int]
    refine callV_fn (note_call (re h7 _ H7) fun h15 H15 => ?_)
    simp only [hok, Bool.false_eq_true, if_false] at k
    exact k h15 (by simpa [Mac.fail, Mac.setM] using H15)
theorem cAdd_call {K : Value → Heap → Prop} {h : Heap} {M : Nat} {tv : Value} {s : Mac} {R : Hp} {a d : Int} (H : Sat h (macS M tv s * R)) (ha : iN a) (hs : s.mm.st < 1099511627776)
    (k : ∀ h', Sat h' (macS M tv (s.add a d).2 * R) → U (s.add a d).1 → K (.int .u64 (s.add a d).1) h') :
    CallH Tryz.prog 116 #[mP M, .int .i64 a, .int .u64 d] h K := by
  refine call116 ?_
  unfold F116 cf lP nP
  refine callV_fn (touch1_call H ha fun h1 H1 => ?_)
  simp only [asBool_bool, Bool.not_true, ifB_false, nilC, asPtr_some, add_lit]
  obtain ⟨q, R', e0, HM, re⟩ := macS_mem H1
  refine ldH_mk e0 ?_
  simp only [asPtrO_ptr]
  unfold Mac.add at k
  rw [← (touch_mm s a).1] at hs
  have BU := (memS_B HM).get a
  generalize s.touch a = t at *
  refine callV_fn (mAdd_call HM hs (fun hok h7 H7 => ?_) (fun hok h7 H7 => ?_))
  · simp only [asTup_tuple]
    refine elemH_mk rfl ?_
    simp only [asInt_int]
    refine elemH_mk rfl ?_
    simp only [asInt_int]
    refine callV_fn (note_call (re h7 _ H7) fun h15 H15 => ?_)
    simp only [hok, if_true] at k
    exact k h15 (by simpa using H15) BU
  · simp only [asTup_tuple]
    refine elemH_mk rfl ?_
    simp only [asInt_int]
    refine elemH_mk rfl ?_
    simp only [asInt_int]
    refine callV_fn (note_call (re h7 _ H7) fun h15 H15 => ?_)
    simp only [hok, Bool.false_eq_true, if_false] at k
    exact k h15 (by simpa [Mac.fail, Mac.setM] using H15) ⟨by omega, by omega⟩
end
section
open Mod
theorem watched_call {K : Value → Heap → Prop} {h : Heap} {M : Nat} {tv : Value} {s : Mac} {R : Hp} (H : Sat h (macS M tv s * R)) (k : K (.bool s.g.isSome) h) : CallH Tryz.prog 67 #[mP M] h K := by
  refine call67 ?_
  unfold F67 lP nP
  obtain ⟨q, gq, fq, B, H0⟩ := macS_iff.1 H
  simp only [Option.isNone_some, Bool.not_false, ifB_true, nilC, asPtr_some, add_lit]
  refine H0.ld rfl ?_
  unfold ghV
  simp only [asPtrO_ptr]
  cases hg : s.g with
  | none => rw [hg] at k; exact k
  | some g => rw [hg] at k; exact k
theorem macS_gh {h : Heap} {M : Nat} {tv : Value} {s : Mac} {R : Hp} {g : Gh} (H : Sat h (macS M tv s * R)) (hg : s.g = some g) : ∃ q R', cellAt h ⟨M, 16, none⟩ = some (mP q) ∧ Sat h (ghS (some g) q * R') ∧ ∀ h' g', Sat h' (ghS (some g') q * R') → Sat h' (macS M tv { s with g := some g' } * R) := by
  obtain ⟨q, gq, fq, B, H0⟩ := macS_iff.1 H
  refine ⟨gq, _, ?_, by rw [rot3, hg] at H0; exact H0, fun h' g' H' => macS_iff.2 ⟨q, gq, fq, B, ?_⟩⟩
  · have := cellR (i := 16) H0.at rfl
    unfold ghV at this
    simpa [hg] using this
  · rw [rot3]
    have eC : macC tv q gq fq ({ s with g := some g' } : Mac) = macC tv q gq fq s := by unfold macC ghV; simp only [hg, Option.isSome_some]
    rw [eC]
    exact H'
theorem took_call {K : Value → Heap → Prop} {h : Heap} {M : Nat} {tv : Value} {s : Mac} {R : Hp} {i : Int} (H : Sat h (macS M tv s * R)) (hi : iN i) (k : ∀ h', Sat h' (macS M tv (s.gh fun g => g.turn i 0 1 1) * R) → K (.tuple #[]) h') :
    CallH Tryz.prog 220 #[mP M, .int .i64 i] h K := by
  refine call220 ?_
  unfold F220 cf lP nP
  refine callV_fn (watched_call H ?_)
  simp only [asBool_bool]
  unfold Mac.gh at k
  cases hg : s.g with
  | none =>
    simp only [Option.isSome_none, ifB_false]
    have e : ({ s with g := none } : Mac) = s := by cases s; simp_all
    exact k h (by simpa [hg, e] using H)
  | some g =>
    obtain ⟨q, R', e0, HG, re⟩ := macS_gh H hg
    simp only [Option.isSome_some, ifB_true, nilC, asPtr_some, add_lit]
    refine ldH_mk e0 ?_
    simp only [asPtrO_ptr]
    refine callV_fn (ghAlloc_call HG hi fun bb h7 G7 => ?_)
    simp only [asBool_bool]
    exact k h7 (by simpa [hg] using re h7 _ G7)
theorem gone_call {K : Value → Heap → Prop} {h : Heap} {M : Nat} {tv : Value} {s : Mac} {R : Hp} {i : Int} (H : Sat h (macS M tv s * R)) (hi : iN i) (k : ∀ h', Sat h' (macS M tv (s.gh fun g => g.turn i 1 2 2) * R) → K (.tuple #[]) h') :
    CallH Tryz.prog 176 #[mP M, .int .i64 i] h K := by
  refine call176 ?_
  unfold F176 cf lP nP
  refine callV_fn (watched_call H ?_)
  simp only [asBool_bool]
  unfold Mac.gh at k
  cases hg : s.g with
  | none =>
    simp only [Option.isSome_none, ifB_false]
    have e : ({ s with g := none } : Mac) = s := by cases s; simp_all
    exact k h (by simpa [hg, e] using H)
  | some g =>
    obtain ⟨q, R', e0, HG, re⟩ := macS_gh H hg
    simp only [Option.isSome_some, ifB_true, nilC, asPtr_some, add_lit]
    refine ldH_mk e0 ?_
    simp only [asPtrO_ptr]
    refine callV_fn (ghRetire_call HG hi fun bb h7 G7 => ?_)
    simp only [asBool_bool]
    exact k h7 (by simpa [hg] using re h7 _ G7)
theorem freed_call {K : Value → Heap → Prop} {h : Heap} {M : Nat} {tv : Value} {s : Mac} {R : Hp} {i : Int} (H : Sat h (macS M tv s * R)) (hi : iN i) (k : ∀ h', Sat h' (macS M tv (s.gh fun g => g.turn i 2 0 3) * R) → K (.tuple #[]) h') :
    CallH Tryz.prog 221 #[mP M, .int .i64 i] h K := by
  refine call221 ?_
  unfold F221 cf lP nP
  refine callV_fn (watched_call H ?_)
  simp only [asBool_bool]
  unfold Mac.gh at k
  cases hg : s.g with
  | none =>
    simp only [Option.isSome_none, ifB_false]
    have e : ({ s with g := none } : Mac) = s := by cases s; simp_all
    exact k h (by simpa [hg, e] using H)
  | some g =>
    obtain ⟨q, R', e0, HG, re⟩ := macS_gh H hg
    simp only [Option.isSome_some, ifB_true, nilC, asPtr_some, add_lit]
    refine ldH_mk e0 ?_
    simp only [asPtrO_ptr]
    refine callV_fn (ghRelease_call HG hi fun bb h7 G7 => ?_)
    simp only [asBool_bool]
    exact k h7 (by simpa [hg] using re h7 _ G7)
theorem fault_call {K : Value → Heap → Prop} {h : Heap} {M : Nat} {tv : Value} {s : Mac} {R : Hp} (H : Sat h (macS M tv s * R)) (k : ∀ h', Sat h' (macS M tv s * R) → K (.bool s.fault) h') :
    CallH Tryz.prog 39 #[mP M] h K := by
  refine call39 ?_
  unfold F39 cf lP nP
  obtain ⟨q, gq, fq, B, H0⟩ := macS_iff.1 H
  simp only [Option.isNone_some, Bool.not_false, ifB_true, nilC, asPtr_some, add_lit]
  refine H0.ld rfl ?_
  simp only [asBool_bool]
  unfold Mac.fault at k
  refine ifB_mk (fun hb => by rw [hb] at k; exact k h H) (fun hb => ?_)
  rw [hb, Bool.false_or] at k
  refine callV_fn (watched_call H ?_)
  simp only [asBool_bool]
  cases hg : s.g with
  | none =>
    simp only [Option.isSome_none, ifB_false]
    rw [hg] at k
    exact k h H
  | some g =>
    obtain ⟨q, R', e0, HG, re⟩ := macS_gh H hg
    simp only [Option.isSome_some, ifB_true]
    refine ldH_mk e0 ?_
    simp only [asPtrO_ptr]
    refine callV_fn (ghFirst_call HG fun h7 G7 => ?_)
    simp only [asAgg_agg]
    refine sizeH_mk rfl (elemH_mk rfl (elemH_mk rfl ?_))
    refine eqvH_gf ?_
    rw [hg] at k
    have e : (decide (g.kind ≠ 0 ∨ g.node ≠ 0)) = !(decide (g.kind = 0 ∧ g.node = 0)) := by
      rw [← decide_not, decide_eq_decide]; omega
    simp only [e] at k
    have H8 := re h7 _ G7
    have e2 : ({ s with g := some g } : Mac) = s := by cases s; simp_all
    exact k h7 (by rw [e2] at H8; exact H8)
theorem mcPlanO_call {K : Value → Heap → Prop} {h : Heap} {M : Nat} {tv : Value} {s : Mac} {R : Hp} (H : Sat h (macS M tv s * R)) (k : ∀ h', Old h.size h h' → K (plV s.p) h') :
    CallH Tryz.prog 117 #[mP M] h K := by
  refine call117 ?_
  unfold F117 g117 nP
  obtain ⟨q, gq, fq, B, H0⟩ := macS_iff.1 H
  simp only [Option.isNone_some, ifB_false, nilC, asPtr_some, add_lit]
  have hold := (push_old h (.cells #[.int .i64 0, .int .i64 0, .int .i64 0, .int .i64 0, .int .i64 0, .int .i64 0, .int .i64 0, .int .i64 0, .int .i64 0, .int .i64 0, .int .i64 0, .int .i64 0, .int .i64 0, .int .i64 0, .int .i64 0] 69))
  have hsz : (h.push (.cells #[.int .i64 0, .int .i64 0, .int .i64 0, .int .i64 0, .int .i64 0, .int .i64 0, .int .i64 0, .int .i64 0, .int .i64 0, .int .i64 0, .int .i64 0, .int .i64 0, .int .i64 0, .int .i64 0, .int .i64 0] 69)).size = h.size + 1 := Array.size_push _
  have H1 := H0.push (.cells #[.int .i64 0, .int .i64 0, .int .i64 0, .int .i64 0, .int .i64 0, .int .i64 0, .int .i64 0, .int .i64 0, .int .i64 0, .int .i64 0, .int .i64 0, .int .i64 0, .int .i64 0, .int .i64 0, .int .i64 0] 69)
  generalize h.push (.cells #[.int .i64 0, .int .i64 0, .int .i64 0, .int .i64 0, .int .i64 0, .int .i64 0, .int .i64 0, .int .i64 0, .int .i64 0, .int .i64 0, .int .i64 0, .int .i64 0, .int .i64 0, .int .i64 0, .int .i64 0] 69) = h1 at *
  obtain ⟨N, hN⟩ : ∃ N, N = h.size := ⟨_, rfl⟩
  rw [← hN] at H1 ⊢
  have O := H1.at2
  refine ldR O rfl (ldR O rfl (ldR O rfl (ldR O rfl (ldR O rfl (ldR O rfl (ldR O rfl (ldR O rfl (ldR O rfl (ldR O rfl (ldR O rfl (ldR O rfl (ldR O rfl (ldR O rfl (ldR O rfl ?_))))))))))))))
  refine st15 (stN_full (vs := plc s.p) H1.at rfl (by simp [oneC]) fun h2 w => ?_)
  have Q := w.new
  refine ldR Q rfl (ldR Q rfl (ldR Q rfl (ldR Q rfl (ldR Q rfl (ldR Q rfl (ldR Q rfl (ldR Q rfl (ldR Q rfl (ldR Q rfl (ldR Q rfl (ldR Q rfl (ldR Q rfl (ldR Q rfl (ldR Q rfl ?_))))))))))))))
  exact k h2 ⟨by rw [w.size]; omega, fun c hc => (w.old c (by omega)).trans (hold c hc)⟩
theorem mcPlan_call {K : Value → Heap → Prop} {h : Heap} {M : Nat} {tv : Value} {s : Mac} {R : Hp} (H : Sat h (macS M tv s * R)) (k : ∀ h', Sat h' (macS M tv s * R) → K (plV s.p) h') :
    CallH Tryz.prog 117 #[mP M] h K := mcPlanO_call H fun h' o => k h' (H.old o)
theorem mcMem_call {K : Value → Heap → Prop} {h : Heap} {M : Nat} {tv : Value} {s : Mac} {R : Hp} (H : Sat h (macS M tv s * R)) (k : ∀ q R', Sat h (memS q s.mm * R') → (∀ h' m', Sat h' (memS q m' * R') → Sat h' (macS M tv (s.setM m') * R)) → K (mP q) h) :
    CallH Tryz.prog 24 #[mP M] h K := by
  refine call24 ?_
  unfold F24 lP nP
  obtain ⟨q, R', e0, HM, re⟩ := macS_mem H
  simp only [Option.isNone_some, ifB_false, nilC, asPtr_some, add_lit]
  refine ldH_mk e0 ?_
  simp only [asPtrO_ptr]
  exact k q R' HM re
def Mac.feed (s : Mac) (u : Int) : Mac := { s with used := u }
theorem mcFeed_call {K : Value → Heap → Prop} {h : Heap} {M : Nat} {tv : Value} {s : Mac} {R : Hp} (H : Sat h (macS M tv s * R)) (k : ∀ q R', Sat h (fdS q s.b s.used * R') → (∀ h' u, Sat h' (fdS q s.b u * R') → Sat h' (macS M tv (Mac.feed s u) * R)) → K (mP q) h) :
    CallH Tryz.prog 139 #[mP M] h K := by
  refine call139 ?_
  unfold F139 lP nP
  obtain ⟨q, gq, fq, B, H0⟩ := macS_iff.1 H
  simp only [Option.isNone_some, ifB_false, nilC, asPtr_some, add_lit]
  refine H0.ld rfl ?_
  simp only [asPtrO_ptr]
  refine k fq _ (by rw [rot4] at H0; exact H0) fun h' u H' => macS_iff.2 ⟨q, gq, fq, B, ?_⟩
  rw [rot4]
  exact H'
theorem copy_row {row vs : List Value} {row' : Array Value} {o : Nat} (r1 : row'.size = row.length) (hi : o + vs.length ≤ row.length) (r2 : ∀ j, row'[j]? = if o ≤ j ∧ j < o + vs.length then vs[j - o]? else row[j]?) : row' = (row.take o ++ vs ++ row.drop (o + vs.length)).toArray := by
  apply Array.ext_getElem?
  intro j
  rw [r2 j, List.getElem?_toArray]
  by_cases c1 : j < o
  · rw [if_neg (by omega), List.append_assoc, List.getElem?_append_left (by rw [List.length_take]; omega), List.getElem?_take, if_pos c1]
  · by_cases c2 : j < o + vs.length
    · rw [if_pos ⟨by omega, c2⟩, List.append_assoc, List.getElem?_append_right (by rw [List.length_take]; omega), List.length_take, Nat.min_eq_left (by omega), List.getElem?_append_left (by omega)]
    · rw [if_neg (by omega), List.append_assoc, List.getElem?_append_right (by rw [List.length_take]; omega), List.length_take, Nat.min_eq_left (by omega), List.getElem?_append_right (by omega), List.getElem?_drop]
      congr 1; omega
theorem Sat.copy {P : Program} {t elem rt : TypeId} {h : Heap} {b o : Nat} {a2 : Option Addr} {dl dc sl sc m : Nat} {row vs : List Value} {ty : TypeId} {K : Value → Heap → Prop} {R : Hp}
    (hu : und P t = .slice elem) (hth : there P elem = true) (hsz : siz P elem = 1) (H : Sat h (pt b (.cells row.toArray ty) * R)) (hs : Sees h a2 vs) (hm : min sl dl = m) (hn : vs.length = m) (hone : ∀ y ∈ vs, oneC y True) (hi : o + m ≤ row.length)
    (k : ∀ h', Sat h' (pt b (.cells (row.take o ++ vs ++ row.drop (o + m)).toArray ty) * R) → K (iv m) h') :
    copyH P #[t, t] rt #[.slice (some ⟨b, o, none⟩) dl dc, .slice a2 sl sc] h K := by
  have hu' := und_some hu (by simp)
  unfold copyH Builtin.copy_
  simp only [List.getElem?_toArray, List.getElem?_cons_zero, List.getElem?_cons_succ, hp_bind, hp_pure, hp_underlying hu', hp_sizeOf hth]
  show hp P (Builtin.lenOf _) _ h
  simp only [Builtin.lenOf, hp_pure, hp_bind, hp_sizeOf hth]
  have em : Nat.min sl dl = m := hm
  rw [em]
  refine hp_first hs (by rw [hsz, hn, Nat.mul_one]) ?_
  simp only [hp_bind]
  refine hp_storeCells _ _ h 0 _ ?_
  have hlt := (Array.getElem?_eq_some_iff.1 H.at).1
  refine stN_row _ h b o 0 row.toArray ty _ H.at (by simp; omega) (by simpa using hone) ?_
  intro row' r1 r2
  simp only [hp_pure]
  have e : row' = (row.take o ++ vs ++ row.drop (o + m)).toArray := by
    rw [← hn]
    exact copy_row (by simpa using r1) (by omega) fun j => by rw [r2 j, List.getElem?_toArray, Nat.add_zero]
  refine k _ (H.wr (o' := .cells (row.take o ++ vs ++ row.drop (o + m)).toArray ty) ?_ fun c hc => set_old hc)
  rw [← e]; exact set_new hlt
end
end Go.Proofs.YtglgifgoojncpaaGreat
