/- Part 12 of what the proofs of this seat rest on: see the last text of the claim. -/
import Derived.Test.YtlncjcbofgjcfaaQ2774903b1fe5
section
/- A search for a list, by any of the three orders: its parts. -/
set_option linter.unusedSimpArgs false
set_option linter.unusedVariables false
set_option maxRecDepth 20000
namespace Go.Proofs.Ytlncjcbofgjcfaa

theorem weakText_call {K : Value → Heap → Prop} {h : Heap} {p : Nat} {a : Option Addr} {ps : List Pr} (H : BagF h p a ps) (hr : InRs ps) (hl : ps.length ≤ 2 ^ 30) (k : ∀ h', Old h.size h h' → K (.string (txS ps)) h') : CallH Try.prog 90 #[.pointer (some ⟨p, 0, none⟩)] h K := by
  refine call90 ?_
  unfold F90
  refine callV_fn (bagList_call H (by omega) fun ra rc h1 own1 hb1 o1 => ?_)
  simp only [asSlice_slice]
  have S1 := own1.sx
  refine ⟨fun vs h' => ∃ w1 w2, ∃ i : Nat, ∃ o c, vs = [.slice o (8 * i) c, w1, iv i, w2] ∧ i ≤ ps.length ∧ Old h1.size h1 h' ∧ OwnB h' o (8 * i) c (txL (ps.take i)) ∧ (∀ b, blk o b → h1.size ≤ b),
    fun vs _ => (match vs with | [_, _, .int _ n, _] => ps.length - n.toNat | _ => 0), ⟨_, _, 0, none, 0, rfl, Nat.zero_le _, Old.refl _ _, Own.nil _ _ _, fun b hb => absurd hb (blk_none b)⟩, ?_⟩
  rintro v7 v8 v9 v10 g11 h12 ⟨w1, w2, i, o, c, e, hi, o12, own12, hb12⟩
  cases e
  simp only [asInt_int, asI_int, asSlice_slice]
  refine ifB_dec (fun hlt => ?_) (fun hge => ?_)
  · have hi' : i < ps.length := by omega
    obtain ⟨ad, rfl, hc0, hc1⟩ := spr_at (S1.old o12) hi'
    have hin := hr _ (List.getElem_mem hi')
    have htk : txL (ps.take (i + 1)) = txL (ps.take i) ++ txP ps[i] := by unfold txL; rw [List.take_succ_eq_append_getElem hi', List.flatMap_append]; simp
    generalize ps[i] = x at *
    refine ⟨by omega, hlt, ?_⟩
    simp only [asPtr_some, Int.toNat_natCast]
    refine ldH_mk hc0 (ldH_mk hc1 ?_)
    have p13 := pushed h12 #[.int .u32 0, .int .u32 0] 29
    generalize h12.push (.cells #[.int .u32 0, .int .u32 0] 29) = h13 at *
    have s13 := p13.size
    refine stKP (stN_full (vs := prc x) p13.new rfl (prc_one x) fun h19 w19 => ?_)
    have o19 : Old h12.size h12 h19 := w19.toOld p13.toOld (Nat.le_refl _)
    have s19 : h19.size = h12.size + 1 := by rw [w19.size]; exact s13
    have own19 : OwnB h19 o (8 * i) c (txL (ps.take i)) := own12.keep fun ad e => o19.2 _ (own12.lt ad e)
    refine ⟨fun vs h' => ∃ w1, ∃ j : Nat, ∃ o c, vs = [.slice o (8 * i + 2 * j) c, w1, iv j] ∧ j ≤ 4 ∧ Old h1.size h1 h' ∧ h'[h12.size]? = some (.cells (prc x).toArray 29) ∧ OwnB h' o (8 * i + 2 * j) c (txL (ps.take i) ++ txI x j) ∧ (∀ b, blk o b → h1.size ≤ b ∧ b ≠ h12.size),
      fun vs _ => (match vs with | [_, _, .int _ n] => 4 - n.toNat | _ => 0), ⟨_, 0, o, c, rfl, by omega, o12.trans (o19.mono o12.1), w19.new, by simpa [txI] using own19, fun b hb => ⟨hb12 b hb, by have := own12.lt2 hb; omega⟩⟩, ?_⟩
    rintro v22 v23 v24 g25 h26 ⟨w3, j, o', c', e, hj, o26, x26, own26, hb26⟩
    cases e
    simp only [asInt_int, asSlice_slice]
    refine ifB_dec (fun hjlt => ?_) (fun hjge => ?_)
    · have hj4 : j < 4 := by omega
      have hw : (0 : Int) ≤ IntKind.wrap .i64 (8 * (j : Int)) := by rw [wrap64_id' (by omega) (by omega)]; omega
      refine ldR x26 rfl ?_
      simp only [asInt_int]
      refine ⟨hw, ldR x26 rfl ?_⟩
      simp only [asInt_int]
      refine ⟨hw, ?_⟩
      rw [by8_wrap hin.1 hj4, by8_wrap hin.2 hj4]
      refine app_b2 own26 (by omega) fun a' c2 h37 own37 hb37 fr37 => ?_
      simp only [asSlice_slice]
      rw [nat_wrap1 (by omega)]
      have hx : h12.size < h26.size := (Array.getElem?_eq_some_iff.1 x26).1
      refine ⟨⟨_, j + 1, a', c2, rfl, by omega, ⟨by have := o26.1; have := fr37.1; omega, fun b hb => ?_⟩, (fr37.2 _ hx (fun h => (hb26 _ h).2 rfl)).trans x26, ?_, fun b hb => ?_⟩, by show 4 - ((j + 1 : Nat) : Int).toNat < 4 - (j : Int).toNat; omega⟩
      · exact (fr37.2 b (by have := o26.1; omega) (fun h => by have := (hb26 b h).1; omega)).trans (o26.2 b hb)
      · have e2 : 8 * i + 2 * j + 2 = 8 * i + 2 * (j + 1) := by omega
        rw [e2] at own37
        unfold txI
        rw [← List.append_assoc]; exact own37
      · rcases hb37 b hb with h2 | h2
        · exact hb26 b h2
        · have := o26.1; omega
    · obtain rfl : j = 4 := by omega
      rw [nat_wrap1 (by omega)]
      rw [txI_4, ← htk] at own26
      exact ⟨⟨_, _, i + 1, o', c', by rw [show 8 * i + 2 * 4 = 8 * (i + 1) by omega], by omega, o26, own26, fun b hb => (hb26 b hb).1⟩, by show ps.length - ((i + 1 : Nat) : Int).toNat < ps.length - (i : Int).toNat; omega⟩
  · obtain rfl : i = ps.length := by omega
    rw [List.take_length] at own12
    refine cvt_bytes own12.sees (txL_len ps) ?_
    simp only [asStr_str]
    exact k h12 (o1.trans (o12.mono o1.1))

/-! ### marks in one number -/
theorem ofInt_nat {n : Nat} (hn : n < 2 ^ 63) : (BitVec.ofInt 64 (n : Int)).toNat = n := by
  rw [BitVec.toNat_ofInt]; omega
theorem bit_wrap {n i : Nat} (hn : n < 2 ^ 63) (hi : i < 63) : (IntKind.wrap .u64 ((((BitVec.ofInt 64 (Int.fdiv (n : Int) (2 ^ (min i 64)))) &&& (BitVec.ofInt 64 1)).toNat : Nat) : Int) == 1) = n.testBit i := by
  rw [Nat.min_eq_left (by omega)]
  have e0 : ((2 : Int) ^ i) = ((2 ^ i : Nat) : Int) := by simp
  have e1 : Int.fdiv (n : Int) (2 ^ i) = ((n / 2 ^ i : Nat) : Int) := by
    rw [e0, Int.fdiv_eq_ediv_of_nonneg _ (Int.natCast_nonneg _)]
    rfl
  rw [e1, BitVec.toNat_and, ofInt_nat (Nat.lt_of_le_of_lt (Nat.div_le_self _ _) hn)]
  rw [show (BitVec.ofInt 64 1).toNat = 1 by decide, Nat.and_one_is_mod, wrap64u (by omega), Nat.testBit_eq_decide_div_mod_eq]
  rw [Bool.eq_iff_iff, beq_iff_eq, decide_eq_true_iff]
  omega
theorem maskN_bit (T : List Int) (n i : Nat) : (maskN T n).testBit i = (decide (i < n) && decide ((i : Int) ∈ T)) := by
  by_cases h : i < n
  · rw [maskN_test T h, decide_eq_true h, Bool.true_and]
  · rw [decide_eq_false h, Bool.false_and, Nat.testBit_lt_two_pow (Nat.lt_of_lt_of_le (maskN_lt T n) (Nat.pow_le_pow_right (by omega) (by omega)))]
theorem maskN_add {T : List Int} {n i : Nat} (hi : i < n) : maskN T n ||| 1 <<< i = maskN (T ++ [(i : Int)]) n := by
  apply Nat.eq_of_testBit_eq
  intro j
  rw [Nat.testBit_or, maskN_bit, maskN_bit, Nat.one_shiftLeft, Nat.testBit_two_pow]
  by_cases e : i = j
  · subst e; simp [hi]
  · have e2 : ¬ ((j : Int) = (i : Int)) := by omega
    simp [e, e2]
theorem maskN_sub {T : List Int} {n i : Nat} (hn : n ≤ 48) (hi : i < n) (hx : (i : Int) ∉ T) : IntKind.wrap .u64 ((((BitVec.ofInt 64 ((maskN (T ++ [(i : Int)]) n : Nat) : Int)) &&& (~~~(BitVec.ofInt 64 (IntKind.wrap .u64 (1 * (2 ^ (min i 64))))))).toNat : Nat) : Int) = (maskN T n : Nat) := by
  have hp : (2 : Nat) ^ i < 2 ^ 63 := Nat.pow_lt_pow_right (by omega) (by omega)
  have hb : ∀ S : List Int, maskN S n < 2 ^ 63 := fun S => Nat.lt_of_lt_of_le (maskN_lt S n) (Nat.pow_le_pow_right (by omega) (by omega))
  rw [Nat.min_eq_left (by omega), Int.one_mul]
  have e1 : ((2 : Int) ^ i) = ((2 ^ i : Nat) : Int) := by simp
  rw [e1, wrap64u (n := 2 ^ i) (by omega)]
  have key : (BitVec.ofInt 64 ((maskN (T ++ [(i : Int)]) n : Nat) : Int)) &&& (~~~(BitVec.ofInt 64 ((2 ^ i : Nat) : Int))) = BitVec.ofInt 64 ((maskN T n : Nat) : Int) := by
    apply BitVec.eq_of_getLsbD_eq
    intro j hj
    rw [BitVec.getLsbD_and, BitVec.getLsbD_not]
    have g : ∀ m : Nat, m < 2 ^ 63 → (BitVec.ofInt 64 (m : Int)).getLsbD j = m.testBit j := fun m hm => by
      show (BitVec.ofInt 64 (m : Int)).toNat.testBit j = _
      rw [ofInt_nat hm]
    rw [g _ (hb _), g _ hp, g _ (hb _), maskN_bit, maskN_bit, Nat.testBit_two_pow]
    by_cases e : i = j
    · subst e; simp [hi, hx]
    · have e2 : ¬ ((j : Int) = (i : Int)) := by omega
      simp [e, e2, hj]
  rw [key, ofInt_nat (hb _)]
  exact wrap64u (by have := hb T; omega)

/-! ### the search's own things -/
theorem SlO.keepL {h h' : Heap} {a : Option Addr} {l c : Nat} {L : List Op9} (H : SlO h a l c L) (k : ∀ (i : Nat) (v : Value), (L.flatMap Op9.cells)[i]? = some v → ∀ ad, a = some ad → h'[ad.block]? = h[ad.block]?) : SlO h' a l c L := by
  refine ⟨fun i v hi => ?_, H.len, H.cap⟩
  obtain ⟨ad, ea, hc⟩ := H.s i v hi
  exact ⟨ad, ea, (cellAt_congr (by rw [add_block]; exact k i v hi ad ea)).trans hc⟩
abbrev mfV (p0 p1 : Nat) : Value := .func (.func 72) #[] #[.pointer (some ⟨p0, 0, none⟩), .pointer (some ⟨p1, 0, none⟩)]
structure WkS (h : Heap) (N q : Nat) (la : Option Addr) (lc : Nat) (L : List Op9) (m p0 p1 : Nat) (ord : Int) (T : List Int) (ks : List (Int × ByteArray)) : Prop where
  obj : h[q]? = some (.cells [.slice la L.length lc, mfV p0 p1, .map (some m), .int .u64 (maskN T L.length : Nat)].toArray 124)
  c0 : h[p0]? = some (.cells #[.slice la L.length lc] 59)
  c1 : h[p1]? = some (.cells #[.int .i64 ord] 3)
  sl : SlO h la L.length lc L
  met : MetF h m ks
  lo : ∀ (i : Nat) (v : Value), (L.flatMap Op9.cells)[i]? = some v → ∀ b, blk la b → b < N
  l0 : p0 < N
  l1 : p1 < N
  nq : N ≤ q
  nm : N ≤ m
  ne : q ≠ m
def wkF (q m : Nat) (b : Nat) : Prop := b = q ∨ b = m
section
variable {h h' : Heap} {N q : Nat} {la : Option Addr} {lc : Nat} {L : List Op9} {m p0 p1 : Nat} {ord : Int} {T : List Int} {ks : List (Int × ByteArray)}
theorem WkS.old (H : WkS h N q la lc L m p0 p1 ord T ks) (o : Old h.size h h') : WkS h' N q la lc L m p0 p1 ord T ks :=
  { H with obj := (o.2 _ (Array.getElem?_eq_some_iff.1 H.obj).1).trans H.obj, c0 := (o.2 _ (Array.getElem?_eq_some_iff.1 H.c0).1).trans H.c0, c1 := (o.2 _ (Array.getElem?_eq_some_iff.1 H.c1).1).trans H.c1, sl := H.sl.old o, met := H.met.keep (o.2 _ H.met.lt) }
theorem WkS.lt (H : WkS h N q la lc L m p0 p1 ord T ks) {b : Nat} (hb : wkF q m b) : b < h.size := by
  rcases hb with rfl | rfl
  · exact (Array.getElem?_eq_some_iff.1 H.obj).1
  · exact H.met.lt
theorem WkS.ge (H : WkS h N q la lc L m p0 p1 ord T ks) {b : Nat} (hb : wkF q m b) : N ≤ b := by
  rcases hb with rfl | rfl
  · exact H.nq
  · exact H.nm
theorem WkS.bag (H : WkS h N q la lc L m p0 p1 ord T ks) {p : Nat} {a : Option Addr} {ps : List Pr} (B : BagF h p a ps) {b : Nat} (hb : wkF q m b) : ¬ bagS p a b := by
  obtain ⟨bc, be, bo, bs⟩ := B
  rintro (h1 | h1)
  · subst h1
    rcases hb with rfl | rfl
    · rw [H.obj] at be
      have := congrArg (fun o : Option Obj => match o with | some (.cells _ t _) => some t | _ => none) be
      exact absurd this (by simp)
    · obtain ⟨es, c, e2, _⟩ := H.met
      rw [e2] at be; cases be
  · obtain ⟨row, e3⟩ := own_at bo h1
    rcases hb with rfl | rfl
    · rw [H.obj] at e3
      have := congrArg (fun o : Option Obj => match o with | some (.cells _ t _) => some t | _ => none) e3
      exact absurd this (by simp)
    · obtain ⟨es, c, e2, _⟩ := H.met
      rw [e2] at e3; cases e3
theorem wkMust_call {K : Value → Heap → Prop} {i j : Nat} (H : WkS h N q la lc L m p0 p1 ord T ks) (hL : L.length ≤ 16) (hi : i < L.length) (hj : j < L.length) (k : ∀ h', Old h.size h h' → K (.bool (mustB L ord i j)) h') :
    callV Try.prog (mfV p0 p1) #[iv i, iv j] h K := by
  refine callV_cl ?_
  rw [show (#[iv i, iv j] : Array Value) ++ #[.pointer (some ⟨p0, 0, none⟩), .pointer (some ⟨p1, 0, none⟩)] = #[iv i, iv j, .pointer (some ⟨p0, 0, none⟩), .pointer (some ⟨p1, 0, none⟩)] from rfl]
  refine call72 ?_
  unfold F72
  simp only [asPtr_some]
  refine ldH_mk (cellAt_row H.c0) ?_
  simp only [asSlice_slice]
  refine ldH_mk (cellAt_row H.c1) ?_
  simp only [asInt_int]
  refine callV_fn (must_call H.sl (by omega) hi hj fun h' o => ?_)
  simp only [asBool_bool]
  exact k h' o
theorem has_call {K : Value → Heap → Prop} {i : Nat} (H : WkS h N q la lc L m p0 p1 ord T ks) (hL : L.length ≤ 16) (hi : i < L.length) (k : K (.bool (decide ((i : Int) ∈ T))) h) :
    CallH Try.prog 110 #[.pointer (some ⟨q, 0, none⟩), iv i] h K := by
  refine call110 ?_
  unfold F110
  simp only [nilC, asPtr_some]
  rw [add_lit]
  refine ldR H.obj rfl ?_
  simp only [asInt_int]
  refine ⟨by omega, ?_⟩
  rw [Int.toNat_natCast, bit_wrap (Nat.lt_of_lt_of_le (maskN_lt T L.length) (Nat.pow_le_pow_right (by omega) (by omega))) (by omega), maskN_test T hi]
  exact k
theorem weakFull_call {K : Value → Heap → Prop} (H : WkS h N q la lc L m p0 p1 ord T ks) (hL : L.length ≤ 16) (k : ∀ h', Old h.size h h' → K (.bool (fullB L T)) h') : CallH Try.prog 89 #[.pointer (some ⟨q, 0, none⟩)] h K := by
  refine call89 ?_
  unfold F89
  have p1' := pushed h #[.pointer (some ⟨q, 0, none⟩)] 120
  generalize h.push (.cells #[.pointer (some ⟨q, 0, none⟩)] 120) = h1 at *
  have o1 := p1'.toOld
  have H1 := H.old o1
  refine ldR p1'.new rfl ?_
  simp only [asPtrO_ptr, nilC, asPtr_some]
  refine ldR H1.obj rfl ?_
  simp only [asSlice_slice]
  refine callV_fn (count_list (l := L.length) (by omega) fun g h8 H8 o8 => ?_)
  have ok8 : Old h.size h h8 := o1.trans (o8.mono o1.1)
  refine callV_fn (some_on (p := leftB L T) (D := fun y => 0 ≤ y ∧ y < L.length) H8 ?_ ?_ fun h10 o10 => ?_)
  · refine ⟨⟨_, _, _, rfl⟩, fun h' => cellAt h' ⟨h.size, 0, none⟩ = some (.pointer (some ⟨q, 0, none⟩)) ∧ WkS h' N q la lc L m p0 p1 ord T ks, ⟨cell_stable _ _ o8 (cellAt_row p1'.new), H1.old o8⟩, fun a b o e => ⟨cell_stable _ _ o e.1, e.2.old o⟩, ?_⟩
    rintro h' y K' ⟨x1, x2⟩ ⟨y0, y1⟩ kk
    obtain ⟨j, rfl⟩ : ∃ j : Nat, y = j := ⟨y.toNat, by omega⟩
    refine callV_cl ?_
    rw [cl2]
    refine call109 ?_
    unfold F109
    have kk := kk h' (Old.refl _ _)
    simp only [asPtr_some]
    refine ldH_mk x1 ?_
    simp only [asPtrO_ptr, nilC, asPtr_some]
    refine ldR x2.obj rfl ?_
    simp only [asSlice_slice]
    obtain ⟨bd, rfl, b0, b1⟩ := x2.sl.int y0 y1
    refine ⟨y0, y1, ?_⟩
    simp only [asPtr_some]
    refine ldH_mk (b1 8 _ rfl) ?_
    simp only [asInt_int]
    unfold leftB at kk
    refine ifB_dec (fun hq => ?_) (fun hq => ?_)
    · rw [decide_eq_true (p := 0 ≤ _) (by omega), Bool.true_and] at kk
      refine ldH_mk x1 ?_
      simp only [asPtrO_ptr, asPtr_some]
      refine callV_fn (has_call x2 hL (by omega) ?_)
      simp only [asBool_bool]
      exact kk
    · rwa [decide_eq_false (p := 0 ≤ _) (by omega), Bool.false_and] at kk
  · intro x hx
    obtain ⟨i, hi, rfl⟩ := List.mem_map.1 hx
    have := List.mem_range.1 hi
    omega
  · simp only [asBool_bool]
    exact k h10 (ok8.trans (o10.mono ok8.1))
end
/-! ### which may come next -/
def badB (L : List Op9) (ord : Int) (T : List Int) (x j : Int) : Bool := (decide (j ∈ T) && mustB L ord x j) || (decide (j ≠ x) && (!decide (j ∈ T) && (decide (0 ≤ (opAt L j).to) && mustB L ord j x)))
def freeB (L : List Op9) (ord : Int) (T : List Int) (x : Int) : Bool := !decide (x ∈ T) && !(((List.range L.length).map fun k : Nat => (k : Int)).any (badB L ord T x))
section
variable {h h' : Heap} {N q : Nat} {la : Option Addr} {lc : Nat} {L : List Op9} {m p0 p1 : Nat} {ord : Int} {T : List Int} {ks : List (Int × ByteArray)}
theorem weakFree_call {K : Value → Heap → Prop} {x : Nat} (H : WkS h N q la lc L m p0 p1 ord T ks) (hL : L.length ≤ 16) (hx : x < L.length) (k : ∀ h', Old h.size h h' → K (.bool (freeB L ord T x)) h') : CallH Try.prog 91 #[.pointer (some ⟨q, 0, none⟩), iv x] h K := by
  refine call91 ?_
  unfold F91
  have q1 := pushed h #[.pointer (some ⟨q, 0, none⟩)] 120
  generalize h.push (.cells #[.pointer (some ⟨q, 0, none⟩)] 120) = h1 at *
  have q2 := pushed h1 #[iv x] 3
  generalize h1.push (.cells #[.int .i64 x] 3) = h2 at *
  have s1 := q1.size
  have s2 := q2.size
  have o2 : Old h.size h h2 := q1.toOld.trans (q2.toOld.mono (by omega))
  have H2 := H.old o2
  have n1 := (q2.old _ (show h.size < h1.size by omega)).trans q1.new
  refine ldR n1 rfl ?_
  simp only [asPtrO_ptr]
  refine ldR q2.new rfl ?_
  simp only [asInt_int]
  refine callV_fn (has_call H2 hL hx ?_)
  simp only [asBool_bool]
  refine ifB_dec (fun hin => ?_) (fun hin => ?_)
  · have := k h2 o2
    unfold freeB at this
    rw [decide_eq_true hin, Bool.not_true, Bool.false_and] at this
    exact this
  refine ldR n1 rfl ?_
  simp only [asPtrO_ptr, nilC, asPtr_some]
  refine ldR H2.obj rfl ?_
  simp only [asSlice_slice]
  refine callV_fn (count_list (l := L.length) (by omega) fun g h8 H8 o8 => ?_)
  have ok8 : Old h.size h h8 := o2.trans (o8.mono o2.1)
  refine callV_fn (some_on (p := badB L ord T x) (D := fun y => 0 ≤ y ∧ y < L.length) H8 ?_ ?_ fun h10 o10 => ?_)
  · refine ⟨⟨_, _, _, rfl⟩, fun h' => cellAt h' ⟨h.size, 0, none⟩ = some (.pointer (some ⟨q, 0, none⟩)) ∧ cellAt h' ⟨h1.size, 0, none⟩ = some (iv x) ∧ WkS h' N q la lc L m p0 p1 ord T ks, ⟨cell_stable _ _ o8 (cellAt_row n1), cell_stable _ _ o8 (cellAt_row q2.new), H2.old o8⟩, fun a b o e => ⟨cell_stable _ _ o e.1, cell_stable _ _ o e.2.1, e.2.2.old o⟩, ?_⟩
    rintro h' y K' ⟨x1, x2, x3⟩ ⟨y0, y1⟩ kk
    obtain ⟨j, rfl⟩ : ∃ j : Nat, y = j := ⟨y.toNat, by omega⟩
    have hj : j < L.length := by omega
    refine callV_cl ?_
    rw [cl3]
    refine call111 ?_
    unfold F111
    simp only [asPtr_some]
    refine ldH_mk x1 ?_
    simp only [asPtrO_ptr]
    refine callV_fn (has_call x3 hL hj ?_)
    simp only [asBool_bool]
    unfold badB at kk
    refine ifB_dec (fun hT => ?_) (fun hT => ?_)
    · rw [decide_eq_true hT] at kk
      simp only [Bool.true_and, Bool.not_true, Bool.false_and, Bool.and_false, Bool.or_false] at kk
      refine ldH_mk x1 ?_
      simp only [asPtrO_ptr, nilC, asPtr_some]
      rw [add_lit]
      refine ldR x3.obj rfl ?_
      refine ldH_mk x2 ?_
      simp only [asInt_int]
      refine wkMust_call x3 hL hx hj fun h15 o15 => ?_
      simp only [asBool_bool]
      have kk := kk h15 o15
      refine ifB_mk (fun hm => by rw [hm] at kk; exact kk) (fun hm => ?_)
      rw [hm] at kk
      have y1' := cell_stable _ _ o15 x1
      have y2' := cell_stable _ _ o15 x2
      have y3' := x3.old o15
      refine ldH_mk y2' ?_
      simp only [asInt_int]
      refine ifB_mk (fun hne => ?_) (fun hne => kk)
      refine ldH_mk y1' ?_
      simp only [asPtrO_ptr]
      refine callV_fn (has_call y3' hL hj ?_)
      rw [decide_eq_true hT]
      simp only [asBool_bool, Bool.not_true, ifB_false]
      exact kk
    · rw [decide_eq_false hT] at kk
      simp only [Bool.false_and, Bool.not_false, Bool.true_and, Bool.false_or] at kk
      refine ldH_mk x2 ?_
      simp only [asInt_int]
      refine ifB_mk (fun hne => ?_) (fun hne => ?_)
      · have hne' : (j : Int) ≠ x := by simpa using hne
        rw [decide_eq_true hne', Bool.true_and] at kk
        refine ldH_mk x1 ?_
        simp only [asPtrO_ptr]
        refine callV_fn (has_call x3 hL hj ?_)
        rw [decide_eq_false hT]
        simp only [asBool_bool, Bool.not_false, ifB_true]
        refine ldH_mk x1 ?_
        simp only [asPtrO_ptr, nilC, asPtr_some]
        refine ldR x3.obj rfl ?_
        simp only [asSlice_slice]
        obtain ⟨bd, rfl, b0, b1⟩ := x3.sl.int y0 y1
        refine ⟨y0, y1, ?_⟩
        simp only [asPtr_some]
        refine ldH_mk (b1 8 _ rfl) ?_
        simp only [asInt_int]
        refine ifB_dec (fun hq => ?_) (fun hq => ?_)
        · rw [decide_eq_true (p := 0 ≤ _) (by omega), Bool.true_and] at kk
          refine ldH_mk x1 ?_
          simp only [asPtrO_ptr, nilC, asPtr_some]
          rw [add_lit]
          refine ldR x3.obj rfl ?_
          refine ldH_mk x2 ?_
          simp only [asInt_int]
          refine wkMust_call x3 hL hj hx fun h15 o15 => ?_
          simp only [asBool_bool]
          exact kk h15 o15
        · have kk := kk h' (Old.refl _ _)
          rwa [decide_eq_false (p := 0 ≤ _) (by omega), Bool.false_and] at kk
      · have hne' : ¬ (j : Int) ≠ x := by simpa using hne
        have kk := kk h' (Old.refl _ _)
        rwa [decide_eq_false hne', Bool.false_and] at kk
  · intro x hx
    obtain ⟨i, hi, rfl⟩ := List.mem_map.1 hx
    have := List.mem_range.1 hi
    omega
  · simp only [asBool_bool]
    have := k h10 (ok8.trans (o10.mono ok8.1))
    unfold freeB at this
    rw [decide_eq_false hin, Bool.not_false, Bool.true_and] at this
    exact this
end
end Go.Proofs.Ytlncjcbofgjcfaa
end
section
/- The search itself: what it finds is there; what it does not find is not. -/
set_option linter.unusedSimpArgs false
set_option linter.unusedVariables false
set_option maxRecDepth 20000
namespace Go.Proofs.Ytlncjcbofgjcfaa

theorem range_len {T : List Int} {n : Nat} (hn : T.Nodup) (hr : ∀ y ∈ T, 0 ≤ y ∧ y < n) : T.length ≤ n := by
  have := hn.length_le_of_subset (l₂ := ints n) fun y hy => mem_ints.2 (hr y hy)
  simpa [ints] using this
theorem inRow_unset {l : Nat} {xs : List Int} {x : Int} (h0 : 0 ≤ x) (h1 : x < l) (hx : x ∉ xs) : (inRow l (xs ++ [x])).toArray.setIfInBounds x.toNat (.bool false) = (inRow l xs).toArray := by
  rw [List.setIfInBounds_toArray]
  congr 1
  apply List.ext_getElem (by simp)
  intro i h2 h3
  rw [List.getElem_set]
  by_cases e : x.toNat = i
  · subst e
    have e2 : ((x.toNat : Nat) : Int) = x := by omega
    simp [e2, hx]
  · have e2 : ¬ (i : Int) = x := fun h => e (by omega)
    simp [e, e2]
section
variable {h h' : Heap} {N q : Nat} {la : Option Addr} {lc : Nat} {L : List Op9} {m db : Nat} {oa : Option Addr} {T : List Int} {ks : List (Int × ByteArray)}
theorem LinS.same {M : Nat} (H : LinS h N q la lc L m db oa T ks) (x : SameD M h h') (hM : N ≤ M) : LinS h' N q la lc L m db oa T ks := by
  obtain ⟨oc, e, own⟩ := H.obj
  refine H.keep (fun b hb => ?_) (fun b hb _ => x.2 b (.inl (by omega)))
  rcases hb with rfl | rfl | rfl | hb
  · exact x.cells e
  · obtain ⟨es, c, e2, _⟩ := H.met
    exact x.2 _ (.inr fun u e3 => by rw [e2] at e3; cases e3)
  · exact x.cells H.dn
  · obtain ⟨row, eb⟩ := own_at own hb
    exact x.cells eb
end
theorem SX.keepX {α : Type} {f : α → List Value} {h h' : Heap} {a : Option Addr} {l c : Nat} {xs : List α} (H : SX f h a l c xs) (k : ∀ ad, a = some ad → ad.block < h.size → h'[ad.block]? = h[ad.block]?) : SX f h' a l c xs := by
  refine ⟨fun i v hi => ?_, H.len, H.cap⟩
  obtain ⟨ad, e, hc⟩ := H.s i v hi
  exact ⟨ad, e, (cellAt_congr (by rw [add_block]; exact k ad e (by have := cellAt_lt hc; rwa [add_block] at this))).trans hc⟩
/-- A state that leads nowhere. -/
def Bad (L : List Op9) (c : Nat) (s : St) : Prop := s.ok L.length ∧ c ≤ s.T.length ∧ ∀ w, ¬ Can L s.T s.ps w
def Met (L : List Op9) (c : Nat) (Ss : List St) : Prop := ∀ s ∈ Ss, s.ok L.length ∧ (c ≤ s.T.length → ∀ w, ¬ Can L s.T s.ps w)
/-- What is asked of a search from some state. -/
def FromOK (N q : Nat) (la : Option Addr) (lc : Nat) (L : List Op9) (m db fuel : Nat) : Prop :=
  ∀ {K : Value → Heap → Prop} {h : Heap} {T : List Int} {ps : List Pr} {p : Nat} {a oa : Option Addr} {Ss : List St}, L.length ≤ T.length + fuel → LinS h N q la lc L m db oa T (Ss.map (St.key L.length)) → BagF h p a ps → St.ok L.length ⟨T, ps⟩ → ps.length ≤ T.length → Met L T.length Ss →
    (∀ w oa' h' ks', Can L T ps w → LinS h' N q la lc L m db oa' (T ++ w) ks' → Fr (linF q m db oa) h h' → (∀ b, blk oa' b → blk oa b ∨ h.size ≤ b) → K (.bool true) h') →
    ((∀ w, ¬ Can L T ps w) → ∀ Us oa' h', (∀ s ∈ Us, Bad L T.length s) → LinS h' N q la lc L m db oa' T ((Ss ++ Us).map (St.key L.length)) → Fr (linF q m db oa) h h' → (∀ b, blk oa' b → blk oa b ∨ h.size ≤ b) → K (.bool false) h') →
    CallH Try.prog 50 #[.pointer (some ⟨q, 0, none⟩), .pointer (some ⟨p, 0, none⟩)] h K

theorem Met.up {L : List Op9} {c d : Nat} {Ss : List St} (H : Met L c Ss) (h : c ≤ d) : Met L d Ss := fun s hs => ⟨(H s hs).1, fun hd => (H s hs).2 (by omega)⟩
theorem Met.app {L : List Op9} {c d : Nat} {Ss Us : List St} (H : Met L c Ss) (H2 : ∀ s ∈ Us, Bad L d s) : Met L c (Ss ++ Us) := fun s hs => (List.mem_append.1 hs).elim (H s) fun h => ⟨(H2 s h).1, fun _ => (H2 s h).2.2⟩

theorem try_call {N q : Nat} {la : Option Addr} {lc : Nat} {L : List Op9} {m db fuel : Nat} (hL : L.length ≤ 48) (hR : ∀ o ∈ L, InR o.key ∧ InR o.val) (ih : FromOK N q la lc L m db fuel)
    {K : Value → Heap → Prop} {h : Heap} {T : List Int} {ps : List Pr} {p : Nat} {a oa : Option Addr} {Ss : List St} {x : Int} (hf : L.length ≤ T.length + (fuel + 1)) (H : LinS h N q la lc L m db oa T (Ss.map (St.key L.length))) (B : BagF h p a ps) (ok : St.ok L.length ⟨T, ps⟩) (hpl : ps.length ≤ T.length) (hM : Met L (T.length + 1) Ss) (hx : x ∈ nextL L T L.length)
    (k1 : ∀ w oa' h' ks', Can L T ps (x :: w) → LinS h' N q la lc L m db oa' (T ++ x :: w) ks' → Fr (linF q m db oa) h h' → (∀ b, blk oa' b → blk oa b ∨ h.size ≤ b) → K (.bool true) h')
    (k0 : (∀ w, ¬ Can L T ps (x :: w)) → ∀ Us oa' h', (∀ s ∈ Us, Bad L (T.length + 1) s) → LinS h' N q la lc L m db oa' T ((Ss ++ Us).map (St.key L.length)) → Fr (linF q m db oa) h h' → (∀ b, blk oa' b → blk oa b ∨ h.size ≤ b) → K (.bool false) h') :
    CallH Try.prog 69 #[.pointer (some ⟨q, 0, none⟩), iv x, .pointer (some ⟨p, 0, none⟩)] h K := by
  refine call69 ?_
  unfold F69
  obtain ⟨⟨x0, x1⟩, hxT, _⟩ := mem_nextL.1 hx
  have hTl := range_len ok.nd ok.r
  have hTl2 : T.length + 1 ≤ L.length := by
    have := range_len (T := x :: T) (n := L.length) (List.nodup_cons.2 ⟨hxT, ok.nd⟩) (fun y hy => by
      rcases List.mem_cons.1 hy with rfl | hy
      · exact ⟨x0, x1⟩
      · exact ok.r y hy)
    simpa using this
  have hin : opAt L x ∈ L := by
    unfold opAt
    rw [List.getD_eq_getElem?_getD, List.getElem?_eq_getElem (by omega)]
    exact List.getElem_mem _
  have hRx := hR _ hin
  have n0 := H.lt (.inl rfl : linF q m db oa q)
  have n1 := H.lt (.inr (.inl rfl) : linF q m db oa m)
  have n2 := H.lt (.inr (.inr (.inl rfl)) : linF q m db oa db)
  have ge0 := H.nq
  have pu1 := pushed h #[.pointer (some ⟨q, 0, none⟩)] 92
  generalize h.push (.cells #[.pointer (some ⟨q, 0, none⟩)] 92) = h1 at *
  have pu2 := pushed h1 #[.int .i64 x] 3
  generalize h1.push (.cells #[.int .i64 x] 3) = h2 at *
  have pu3 := pushed h2 #[.pointer (some ⟨p, 0, none⟩)] 76
  generalize h2.push (.cells #[.pointer (some ⟨p, 0, none⟩)] 76) = h3 at *
  have pu4 := pushed h3 #[.bool false] 4
  generalize h3.push (.cells #[.bool false] 4) = h4 at *
  have t1 := pu1.size
  have t2 := pu2.size
  have t3 := pu3.size
  have t4 := pu4.size
  have o4 : Old h.size h h4 := pu1.toOld.trans ((pu2.toOld.mono (by omega)).trans ((pu3.toOld.mono (by omega)).trans (pu4.toOld.mono (by omega))))
  have l0 : h4[h.size]? = some (.cells #[.pointer (some ⟨q, 0, none⟩)] 92) := (pu4.old _ (by omega)).trans ((pu3.old _ (by omega)).trans ((pu2.old _ (by omega)).trans pu1.new))
  have l1 : h4[h1.size]? = some (.cells #[.int .i64 x] 3) := (pu4.old _ (by omega)).trans ((pu3.old _ (by omega)).trans pu2.new)
  have l2 : h4[h2.size]? = some (.cells #[.pointer (some ⟨p, 0, none⟩)] 76) := (pu4.old _ (by omega)).trans pu3.new
  have l3 : h4[h3.size]? = some (.cells #[.bool false] 4) := pu4.new
  have H4 := H.old o4
  obtain ⟨oc4, e4, own4⟩ := H4.obj
  refine ldR l0 rfl ?_
  simp only [asPtrO_ptr, nilC, asPtr_some]
  refine ldR e4 rfl ?_
  simp only [asSlice_slice]
  refine ldR l1 rfl ?_
  simp only [asInt_int]
  refine ⟨x0, x1, ?_⟩
  obtain ⟨bd, rfl, d0, d1⟩ := H4.sl.int x0 x1
  simp only [asPtr_some]
  have d0' := d1 0 _ rfl
  refine ldH_mk d0' (ldH_mk (d1 1 _ rfl) (ldH_mk (d1 2 _ rfl) (ldH_mk (d1 3 _ rfl) (ldH_mk (d1 4 _ rfl) (ldH_mk (d1 5 _ rfl) (ldH_mk (d1 6 _ rfl) (ldH_mk (d1 7 _ rfl) (ldH_mk (d1 8 _ rfl) ?_))))))))
  refine ldR l2 rfl ?_
  simp only [asPtrO_ptr]
  refine callV_fn (linAnswers_call (x := opAt L x) (B.old o4) (by omega) fun a' c' h22 S22 hb22 o22 => ?_)
  simp only [asSlice_slice]
  generalize hA : answersP (opAt L x) ps = A at *
  refine callV_fn (call85 ?_)
  unfold F85
  have pu27 := pushed h22 #[.slice a' A.length c'] 63
  generalize h22.push (.cells #[.slice a' A.length c'] 63) = h27 at *
  have t27 := pu27.size
  have o27 : Old h4.size h4 h27 := o22.trans (pu27.toOld.mono o22.1)
  have ok27 : Old h.size h h27 := o4.trans (o27.mono o4.1)
  have t22 := o22.1
  have H27 := H.old ok27
  have B27 := B.old ok27
  have c0 := (o27.2 _ (by omega)).trans l0
  have c1 := (o27.2 _ (by omega)).trans l1
  have c2 := (o27.2 _ (by omega)).trans l2
  have c3 := (o27.2 _ (by omega)).trans l3
  have S27 : SX c3c h27 a' A.length c' A := S22.old pu27.toOld
  have fl : ∀ {b : Nat}, linF q m db oa b → b < h.size := fun hb => H.lt hb
  refine rangeH_own (n := A.length) (xs := sqG c3c A) (Ev := fun h => cellAt h ⟨h22.size, 0, none⟩ = some (.slice a' A.length c') ∧ SX c3c h a' A.length c' A)
    (fun k w h' => h27.size ≤ h'.size ∧ (∀ b, b < h27.size → ¬ linF q m db oa b → b ≠ h3.size → h'[b]? = h27[b]?) ∧ h'[h3.size]? = some (.cells #[.bool false] 4) ∧ ∃ oa' Us, LinS h' N q (some bd) lc L m db oa' T ((Ss ++ Us).map (St.key L.length)) ∧ (∀ b, blk oa' b → blk oa b ∨ w b) ∧ (∀ s ∈ Us, Bad L (T.length + 1) s) ∧ ∀ j (hj : j < A.length), j < k → ∀ qs, doP ps (opC (opAt L x)) A[j] = some qs → ∀ wi, ¬ Can L (T ++ [x]) qs wi)
    (fun e w h' => h27.size ≤ h'.size ∧ (∀ b, b < h27.size → ¬ linF q m db oa b → b ≠ h3.size → h'[b]? = h27[b]?) ∧ h'[h3.size]? = some (.cells #[.bool true] 4) ∧ ∃ wi oa' ks', Can L T ps (x :: wi) ∧ LinS h' N q (some bd) lc L m db oa' (T ++ x :: wi) ks' ∧ ∀ b, blk oa' b → blk oa b ∨ w b)
    trivial (ofA_seq (by have := S27.cap; have := minsP_len ps; rw [← hA]; unfold answersP; split <;> (try split) <;> (try split) <;> simp <;> omega)) (fun k _ => sqG_size c3c A k) ?_ ?_ ?_ ?_ ?_ ?_ ?_
  · rintro k w g1 g2 hs hlo hw ⟨z1, z2, z3, oa', Us, zl, z4, z5, z6⟩
    refine ⟨by omega, fun b hb hn hne => (hlo b hb).trans (z2 b hb hn hne), (hlo _ (by omega)).trans z3, oa', Us, zl.keep (fun b hb => ?_) (fun b hb _ => hlo b (by omega)), z4, z5, z6⟩
    rcases hb with rfl | rfl | rfl | hb
    · exact hlo _ (by omega)
    · exact hlo _ (by omega)
    · exact hlo _ (by omega)
    · rcases z4 b hb with h1 | h1
      · exact hlo b (by have := fl (.inr (.inr (.inr h1)) : linF q m db oa b); omega)
      · exact hw b h1
  · rintro k w g1 g2 hs hlo hw ⟨z1, z2, z3, wi, oa', ks', zc, zl, z4⟩
    refine ⟨by omega, fun b hb hn hne => (hlo b hb).trans (z2 b hb hn hne), (hlo _ (by omega)).trans z3, wi, oa', ks', zc, zl.keep (fun b hb => ?_) (fun b hb _ => hlo b (by omega)), z4⟩
    rcases hb with rfl | rfl | rfl | hb
    · exact hlo _ (by omega)
    · exact hlo _ (by omega)
    · exact hlo _ (by omega)
    · rcases z4 b hb with h1 | h1
      · exact hlo b (by have := fl (.inr (.inr (.inr h1)) : linF q m db oa b); omega)
      · exact hw b h1
  · rintro k w h' ⟨z1, z2, z3, _⟩
    have nf : ∀ b, h.size ≤ b → ¬ linF q m db oa b := fun b hb hn => by have := fl hn; omega
    refine ⟨(cellAt_congr (z2 _ (by show h22.size < _; omega) (nf _ (by show h.size ≤ h22.size; omega)) (by show h22.size ≠ h3.size; omega))).trans (cellAt_row pu27.new), ?_⟩
    refine S27.keepX fun ad ea hlt => ?_
    have hge := hb22 ad.block ⟨ad, ea, rfl⟩
    exact z2 _ hlt (nf _ (by omega)) (by omega)
  · exact ⟨Nat.le_refl _, fun _ _ _ _ => rfl, c3, oa, [], by simpa using H27, fun b hb => .inl hb, fun s hs => by simp at hs, fun j _ h => by omega⟩
  · rintro M k w g0 hj hMl hMs hw ⟨z1, z2, z3, oa1, Us, zl, z4, z5, z6⟩
    rw [sqG_get c3c hj]
    show asAgg (.agg (c3c A[k]).toArray) _
    simp only [asAgg_agg]
    refine sizeH_mk rfl (elemH_mk rfl (elemH_mk rfl (elemH_mk rfl ?_)))
    simp only [oneC_int]
    have hjk : A[k] ∈ A := List.getElem_mem _
    have z6' := z6
    generalize hy : A[k] = y at *
    have pu := pushed g0 (c3c y).toArray 42
    rw [show g0.push (.cells #[.int .i64 y.o, .int .u32 y.k, .int .u32 y.v] 42) = g0.push (.cells (c3c y).toArray 42) from rfl]
    generalize g0.push (.cells (c3c y).toArray 42) = g1 at *
    have u1 := pu.size
    have r1 : Old g0.size g0 g1 := pu.toOld
    have nf : ∀ b, h.size ≤ b → ¬ linF q m db oa b := fun b hb hn => by have := fl hn; omega
    -- what is below, but for the search's own blocks, is as it was
    have at0 : ∀ {b : Nat} {o : Obj}, h27[b]? = some o → b < h27.size → ¬ linF q m db oa b → b ≠ h3.size → g0[b]? = some o := fun e hb hn hne => (z2 _ hb hn hne).trans e
    have c0' := at0 c0 (by omega) (nf _ (by omega)) (by omega)
    have c1' := at0 c1 (by omega) (nf _ (by omega)) (by omega)
    have c2' := at0 c2 (by omega) (nf _ (by omega)) (by omega)
    refine ldR ((r1.2 _ (by omega)).trans c2') rfl ?_
    simp only [asPtrO_ptr]
    have Bg0 : BagF g0 p a ps := by
      obtain ⟨bc, be, bo, bs⟩ := B27
      have hpl2 : p < h.size := B.lt
      refine ⟨bc, at0 be (by omega) (fun hn => H.bag B hn (.inl rfl)) (by omega), bo.keep fun ad ea => ?_, bs⟩
      have hb := B.lta ⟨ad, ea, rfl⟩
      exact z2 _ (by omega) (fun hn => H.bag B hn (.inr ⟨ad, ea, rfl⟩)) (by omega)
    refine callV_fn (bagCopy_call (Bg0.old r1) (by omega) fun p' a2 g38 B38 hp' ha2 r38' => ?_)
    simp only [asPtrO_ptr]
    have r38 : Old g0.size g0 g38 := r1.trans (r38'.mono r1.1)
    have zl38 := zl.old r38
    obtain ⟨oc38, e38, own38⟩ := zl38.obj
    refine ldR ((r38.2 _ (by omega)).trans c0') rfl ?_
    simp only [asPtrO_ptr, asPtr_some]
    refine ldR e38 rfl ?_
    simp only [asSlice_slice]
    refine ldR ((r38.2 _ (by omega)).trans c1') rfl ?_
    simp only [asInt_int]
    refine ⟨x0, x1, ?_⟩
    obtain ⟨bd', eb', d0'', d1'⟩ := zl38.sl.int x0 x1
    cases eb'
    simp only [asPtr_some]
    refine ldH_mk (d1' 1 _ rfl) (ldH_mk (d1' 2 _ rfl) (ldH_mk (d1' 3 _ rfl) ?_))
    have y38 : g38[g0.size]? = some (.cells (c3c y).toArray 42) := (r38'.2 _ (by omega)).trans pu.new
    refine ldR y38 rfl (ldR y38 rfl (ldR y38 rfl ?_))
    refine callV_fn (bagDo_call (c3 := opC (opAt L x)) (a3 := y) B38 (by omega) fun a3 g57 B57 hb57 fr57 => ?_)
    simp only [asBool_bool]
    have v1 := r1.1
    have v38 := r38'.1
    have v57 := fr57.1
    have dis38 : ∀ b, b < g1.size → ¬ bagS p' a2 b := by
      rintro b hb (h1 | h1)
      · omega
      · have := ha2 b h1; omega
    have old57 : ∀ b, b < g0.size → g57[b]? = g0[b]? := fun b hb => (fr57.2 b (by omega) (dis38 b (by omega))).trans (r38.2 b hb)
    have o57 : Old g0.size g0 g57 := ⟨by omega, old57⟩
    have zl57 := zl.old o57
    have c0'' := (old57 _ (by omega)).trans c0'
    have c1'' := (old57 _ (by omega)).trans c1'
    have r3'' := (old57 _ (by omega)).trans z3
    -- what a round leaves, where the search goes on
    have done : ∀ (g : Heap) (oa3 : Option Addr) (Us3 : List St), g0.size ≤ g.size → (∀ b, b < g0.size → ¬ linF q m db oa1 b → g[b]? = g0[b]?) → LinS g N q (some bd) lc L m db oa3 T ((Ss ++ Us3).map (St.key L.length)) → (∀ b, blk oa3 b → blk oa1 b ∨ g0.size ≤ b) → (∀ s ∈ Us3, Bad L (T.length + 1) s) → (∀ qs, doP ps (opC (opAt L x)) y = some qs → ∀ wi, ¬ Can L (T ++ [x]) qs wi) →
        KeepMid h27.size M g0 g ∧ h27.size ≤ g.size ∧ ∃ w', OwnedW M w' g ∧ (h27.size ≤ g.size ∧ (∀ b, b < h27.size → ¬ linF q m db oa b → b ≠ h3.size → g[b]? = h27[b]?) ∧ g[h3.size]? = some (.cells #[.bool false] 4) ∧ ∃ oa' Us', LinS g N q (some bd) lc L m db oa' T ((Ss ++ Us').map (St.key L.length)) ∧ (∀ b, blk oa' b → blk oa b ∨ w' b) ∧ (∀ s ∈ Us', Bad L (T.length + 1) s) ∧ ∀ j (hj : j < A.length), j < k + 1 → ∀ qs, doP ps (opC (opAt L x)) A[j] = some qs → ∀ wi, ¬ Can L (T ++ [x]) qs wi) := by
      intro g oa3 Us3 hs hold gl hbl hbad hno
      have lf1 : ∀ b, b < M → h27.size ≤ b → ¬ linF q m db oa1 b := by
        rintro b hb hb2 (h1 | h1 | h1 | h1)
        · omega
        · omega
        · omega
        · rcases z4 b h1 with h2 | h2
          · have := fl (.inr (.inr (.inr h2)) : linF q m db oa b); omega
          · have := (hw b h2).1; omega
      have lf2 : ∀ b, b < h27.size → ¬ linF q m db oa b → ¬ linF q m db oa1 b := by
        rintro b hb hn (h1 | h1 | h1 | h1)
        · exact hn (.inl h1)
        · exact hn (.inr (.inl h1))
        · exact hn (.inr (.inr (.inl h1)))
        · rcases z4 b h1 with h2 | h2
          · exact hn (.inr (.inr (.inr h2)))
          · have := (hw b h2).1; omega
      refine ⟨⟨hs, fun b hb1 hb2 => hold b (by omega) (lf1 b hb2 hb1)⟩, by omega, fun b => blk oa3 b ∧ M ≤ b, ?_, by omega, fun b hb hn hne => (hold b (by omega) (lf2 b hb hn)).trans (z2 b hb hn hne), (hold _ (by omega) (lf2 _ (by omega) (nf _ (by omega)))).trans z3, oa3, Us3, gl, fun b hb => ?_, hbad, fun j hjA hjk qs hq wi => ?_⟩
      · rintro b ⟨hb, hMb⟩
        obtain ⟨oc, _, own⟩ := gl.obj
        obtain ⟨row, er⟩ := own_at own hb
        exact ⟨hMb, row, _, _, er⟩
      · rcases hbl b hb with h1 | h1
        · rcases z4 b h1 with h2 | h2
          · exact .inl h2
          · exact .inr ⟨hb, (hw b h2).1⟩
        · exact .inr ⟨hb, by omega⟩
      · by_cases e : j = k
        · subst e
          rw [hy] at hq
          exact hno qs hq wi
        · exact z6 j hjA (by omega) qs hq wi
    cases hdo : doP ps (opC (opAt L x)) y with
    | none =>
      simp only [Option.isSome_none, Bool.not_false, ifB_true]
      exact done g57 oa1 Us (by omega) (fun b hb _ => old57 b hb) zl57 (fun b hb => .inl hb) z5 (fun qs hq => by rw [hdo] at hq; cases hq)
    | some qs =>
      simp only [Option.isSome_some, Bool.not_true, ifB_false]
      rw [hdo] at B57
      simp only [Option.getD_some] at B57
      refine ldR c0'' rfl ?_
      simp only [asPtrO_ptr, nilC, asPtr_some]
      obtain ⟨oc57, e57, own57⟩ := zl57.obj
      rw [add_lit]
      refine ldR e57 rfl ?_
      simp only [asSlice_slice]
      refine ldR c1'' rfl ?_
      simp only [asInt_int]
      refine ⟨x0, x1, ?_⟩
      simp only [asPtr_some]
      rw [add_lit, Nat.zero_add, Nat.mul_one]
      have hdsz : x.toNat < (inRow L.length T).toArray.size := by rw [inRow_size]; omega
      refine stH_mk zl57.dn hdsz trivial ?_
      rintro g69 e69
      rw [inRow_set x0 x1] at e69
      have dlt : db < g57.size := (Array.getElem?_eq_some_iff.1 zl57.dn).1
      have s69 : g69.size = g57.size := by rw [e69]; simp
      have dn69 : g69[db]? = some (.cells (inRow L.length (T ++ [x])).toArray 4) := by rw [e69]; exact set_new dlt
      have old69 : ∀ b, b ≠ db → g69[b]? = g57[b]? := fun b hb => by rw [e69]; exact set_old hb
      have nq := zl57.ne_qd
      have nm := zl57.ne_md
      have nqm := zl57.ne_qm
      have c0a := (old69 h.size (by omega)).trans c0''
      have c1a := (old69 h1.size (by omega)).trans c1''
      have e69q := (old69 q nq).trans e57
      refine ldR c0a rfl ?_
      simp only [asPtrO_ptr]
      refine ldR c0a rfl ?_
      simp only [asPtrO_ptr, nilC, asPtr_some]
      rw [add_lit]
      refine ldR e69q rfl ?_
      simp only [asSlice_slice]
      refine ldR c1a rfl ?_
      simp only [asInt_int]
      have pushc : ∀ {b i : Nat} {v : Value} {row : List Value} {t : TypeId}, g69[b]? = some (.cells row.toArray t) → row[i]? = some v → cellAt (g69.push (.cells #[.int .i64 x] 3)) ⟨b, i, none⟩ = some v := fun e ev => cellR ((push_old _ _ _ (Array.getElem?_eq_some_iff.1 e).1).trans e) ev
      refine ⟨pushc e69q rfl, pushc c0a rfl, pushc c0a rfl, ?_⟩
      have own69 : OwnI g69 oa1 T.length oc57 T := own57.keep fun ad ea => old69 _ (zl57.ne_o ⟨ad, ea, rfl⟩).2.2
      refine app_int own69 (by omega) ?_
      intro oa2 oc2 g82 own82 s82 old82 hor
      simp only [asSlice_slice]
      have noq : ∀ b, blk oa1 b → b ≠ q ∧ b ≠ m ∧ b ≠ db := fun b hb => zl57.ne_o hb
      have lo1 : ∀ b, blk oa1 b → ¬ (b < h27.size ∧ h.size ≤ b) := by
        intro b hb
        rcases z4 b hb with h2 | h2
        · have := fl (.inr (.inr (.inr h2)) : linF q m db oa b); omega
        · have := (hw b h2).1; omega
      have o82 : ∀ b, b < g69.size → ¬ blk oa1 b → g82[b]? = g69[b]? := fun b hb hn => old82 b hb fun ad ea e => hn ⟨ad, ea, e⟩
      have c0b := (o82 h.size (by omega) (fun hb => lo1 _ hb (by omega))).trans c0a
      have e82q := (o82 q (by omega) (fun hb => (noq _ hb).1 rfl)).trans e69q
      refine ⟨cellR c0b rfl, ?_⟩
      refine stR e82q rfl trivial fun g87 w87 => ?_
      have s87 := w87.size
      have hb2 : ∀ b, blk oa2 b → blk oa1 b ∨ g69.size ≤ b := by
        rintro b ⟨ad, ea, eb2⟩
        rcases hor with h2 | ⟨bb, h2, h3⟩
        · rw [h2] at ea; exact .inl ⟨ad, ea, eb2⟩
        · rw [h2] at ea; cases ea; right; simp only at eb2; omega
      have no2 : ∀ b, blk oa2 b → b ≠ q ∧ b ≠ m ∧ b ≠ db := fun b hb => by
        rcases hb2 b hb with h2 | h2
        · exact noq b h2
        · omega
      have lowN : ∀ b, b < N → ¬ linF q m db oa1 b := fun b hb hn => by have := zl57.ge hn; omega
      have keep87 : ∀ b, b < g57.size → ¬ linF q m db oa1 b → g87[b]? = g57[b]? := fun b hb hn =>
        (w87.old b (fun e => hn (.inl e))).trans ((o82 b (by omega) (fun hb => hn (.inr (.inr (.inr hb))))).trans (old69 b (fun e => hn (.inr (.inr (.inl e))))))
      have zl87 : LinS g87 N q (some bd) lc L m db oa2 (T ++ [x]) ((Ss ++ Us).map (St.key L.length)) := by
        refine ⟨⟨oc2, ?_, ?_⟩, ?_, ?_, ?_, zl57.lo, zl57.nq, zl57.nm, zl57.nd, fun b hb => ?_⟩
        · rw [List.length_append]; exact w87.new
        · rw [List.length_append]; exact own82.keep fun ad ea => w87.old _ (no2 _ ⟨ad, ea, rfl⟩).1
        · refine ⟨fun i v hi => ?_, zl57.sl.len, zl57.sl.cap⟩
          obtain ⟨ad, ea, hc⟩ := zl57.sl.s i v hi
          have hl := zl57.lo _ _ hi ad.block ⟨ad, ea, rfl⟩
          refine ⟨ad, ea, (cellAt_congr (by rw [add_block]; exact keep87 _ (by have := cellAt_lt hc; rwa [add_block] at this) (lowN _ hl))).trans hc⟩
        · exact zl57.met.keep ((w87.old m (fun e => nqm e.symm)).trans ((o82 m (by have := zl57.met.lt; omega) (fun hb => (noq _ hb).2.1 rfl)).trans (old69 m nm)))
        · exact (w87.old db (fun e => nq e.symm)).trans ((o82 db (by omega) (fun hb => (noq _ hb).2.2 rfl)).trans dn69)
        · rcases hb2 b hb with h2 | h2
          · exact zl57.no b h2
          · have := zl57.nq; omega
      have c0c := (w87.old h.size (by show h.size ≠ q; omega)).trans c0b
      refine ldR c0c rfl ?_
      simp only [asPtrO_ptr]
      have disB : ∀ b, linF q m db oa1 b → ¬ bagS p' a3 b := fun b hb => zl57.bag B57 hb
      have B87 : BagF g87 p' a3 qs := by
        obtain ⟨bc, be, bo, bs⟩ := B57
        refine ⟨bc, (keep87 _ (Array.getElem?_eq_some_iff.1 be).1 (fun hn => disB _ hn (.inl rfl))).trans be, bo.keep fun ad ea => keep87 _ (bo.lt ad ea) (fun hn => disB _ hn (.inr ⟨ad, ea, rfl⟩)), bs⟩
      have ok2 : St.ok L.length ⟨T ++ [x], qs⟩ := by
        refine ⟨fun y hy => ?_, ?_, doP_inr ok.inr hRx hdo⟩
        · rcases List.mem_append.1 hy with hy | hy
          · exact ok.r y hy
          · rw [List.mem_singleton.1 hy]; exact ⟨x0, x1⟩
        · exact List.nodup_append.2 ⟨ok.nd, by simp, fun u hu v hv => by rw [List.mem_singleton.1 hv]; intro e; exact hxT (e ▸ hu)⟩
      have hT1 : (T ++ [x]).length = T.length + 1 := by simp
      have hql := doP_len hdo
      have hl1 : h1.size < g0.size := by omega
      refine callV_fn (ih (T := T ++ [x]) (by rw [hT1]; omega) zl87 B87 ok2 (by rw [hT1]; omega) (by rw [hT1]; exact hM.app z5) (fun wi oa3 g91 ks3 hcan gl91 fr91 hbl91 => ?_) (fun hno Us2 oa3 g91 hbad gl91 fr91 hbl91 => ?_))
      · simp only [asBool_bool, ifB_true]
        have s91 := fr91.1
        have lf2 : ∀ b, b < g57.size → ¬ linF q m db oa1 b → ¬ linF q m db oa2 b := by
          rintro b hb hn (h2 | h2 | h2 | h2)
          · exact hn (.inl h2)
          · exact hn (.inr (.inl h2))
          · exact hn (.inr (.inr (.inl h2)))
          · rcases hb2 b h2 with h5 | h5
            · exact hn (.inr (.inr (.inr h5)))
            · omega
        have lr1 : ∀ b, b < M → h.size ≤ b → ¬ linF q m db oa1 b := by
          rintro b hb hb3 (h2 | h2 | h2 | h2)
          · omega
          · omega
          · omega
          · rcases z4 b h2 with h5 | h5
            · have := fl (.inr (.inr (.inr h5)) : linF q m db oa b); omega
            · have := (hw b h5).1; omega
        have keep91 : ∀ b, b < g0.size → ¬ linF q m db oa1 b → g91[b]? = g0[b]? := fun b hb hn => (fr91.2 b (by omega) (lf2 b (by omega) hn)).trans ((keep87 b (by omega) hn).trans (old57 b hb))
        have r91 : g91[h3.size]? = some (.cells #[.bool false] 4) := (keep91 _ (by omega) (lr1 _ (by omega) (by omega))).trans z3
        refine stR r91 rfl trivial fun g93 w93 => ?_
        have s93 := w93.size
        have noR : ∀ b, linF q m db oa3 b → b ≠ h3.size := by
          rintro b (h2 | h2 | h2 | h2) e
          · omega
          · omega
          · omega
          · rcases hbl91 b h2 with h5 | h5
            · rcases hb2 b h5 with h6 | h6
              · exact lo1 b h6 (by omega)
              · omega
            · omega
        have lf3 : ∀ b, b < h27.size → ¬ linF q m db oa b → ¬ linF q m db oa1 b := by
          rintro b hb hn (h1 | h1 | h1 | h1)
          · exact hn (.inl h1)
          · exact hn (.inr (.inl h1))
          · exact hn (.inr (.inr (.inl h1)))
          · rcases z4 b h1 with h2 | h2
            · exact hn (.inr (.inr (.inr h2)))
            · have := (hw b h2).1; omega
        have gl93 : LinS g93 N q (some bd) lc L m db oa3 (T ++ x :: wi) ks3 := by
          have := gl91.keep (h' := g93) (fun b hb => w93.old b (noR b hb)) (fun b hb _ => w93.old b (by show b ≠ h3.size; omega))
          simpa using this
        refine ⟨⟨by omega, fun b hb1 hb3 => (w93.old b (by show b ≠ h3.size; omega)).trans (keep91 b (by omega) (lr1 b hb3 (by omega)))⟩, trivial, by omega, fun b => blk oa3 b ∧ M ≤ b, ?_, by omega, fun b hb hn hne => (w93.old b hne).trans ((keep91 b (by omega) (lf3 b hb hn)).trans (z2 b hb hn hne)), w93.new, wi, oa3, ks3, .step hx (by rw [hA]; exact hjk) hdo hcan, gl93, fun b hb => ?_⟩
        · rintro b ⟨hb, hMb⟩
          obtain ⟨oc, _, own⟩ := gl93.obj
          obtain ⟨row, er⟩ := own_at own hb
          exact ⟨hMb, row, _, _, er⟩
        · rcases hbl91 b hb with h5 | h5
          · rcases hb2 b h5 with h6 | h6
            · rcases z4 b h6 with h7 | h7
              · exact .inl h7
              · exact .inr ⟨hb, (hw b h7).1⟩
            · exact .inr ⟨hb, by omega⟩
          · exact .inr ⟨hb, by omega⟩
      · simp only [asBool_bool, ifB_false]
        have s91 := fr91.1
        have lf2 : ∀ b, b < g57.size → ¬ linF q m db oa1 b → ¬ linF q m db oa2 b := by
          rintro b hb hn (h2 | h2 | h2 | h2)
          · exact hn (.inl h2)
          · exact hn (.inr (.inl h2))
          · exact hn (.inr (.inr (.inl h2)))
          · rcases hb2 b h2 with h5 | h5
            · exact hn (.inr (.inr (.inr h5)))
            · omega
        have lr1 : ∀ b, b < M → h.size ≤ b → ¬ linF q m db oa1 b := by
          rintro b hb hb3 (h2 | h2 | h2 | h2)
          · omega
          · omega
          · omega
          · rcases z4 b h2 with h5 | h5
            · have := fl (.inr (.inr (.inr h5)) : linF q m db oa b); omega
            · have := (hw b h5).1; omega
        have keep91 : ∀ b, b < g0.size → ¬ linF q m db oa1 b → g91[b]? = g0[b]? := fun b hb hn => (fr91.2 b (by omega) (lf2 b (by omega) hn)).trans ((keep87 b (by omega) hn).trans (old57 b hb))
        have c0d := (keep91 h.size (by omega) (lr1 _ (by omega) (Nat.le_refl _))).trans c0'
        have c1d := (keep91 h1.size (by omega) (lr1 _ (by omega) (by omega))).trans c1'
        obtain ⟨oc3, e91, own91⟩ := gl91.obj
        refine ldR c0d rfl ?_
        simp only [asPtrO_ptr, nilC, asPtr_some]
        rw [add_lit]
        refine ldR e91 rfl ?_
        simp only [asSlice_slice]
        refine ldR c1d rfl ?_
        simp only [asInt_int]
        refine ⟨x0, x1, ?_⟩
        simp only [asPtr_some]
        rw [add_lit, Nat.zero_add, Nat.mul_one]
        refine stH_mk gl91.dn (by rw [inRow_size]; omega) trivial ?_
        rintro g104 e104
        rw [inRow_unset x0 x1 hxT] at e104
        have dlt3 : db < g91.size := (Array.getElem?_eq_some_iff.1 gl91.dn).1
        have s104 : g104.size = g91.size := by rw [e104]; simp
        have dn104 : g104[db]? = some (.cells (inRow L.length T).toArray 4) := by rw [e104]; exact set_new dlt3
        have old104 : ∀ b, b ≠ db → g104[b]? = g91[b]? := fun b hb => by rw [e104]; exact set_old hb
        have c0e := (old104 h.size (by omega)).trans c0d
        have e104q := (old104 q gl91.ne_qd).trans e91
        have hT2 : (T ++ [x]).length = T.length + 1 := by simp
        have hcap3 := own91.2.1
        refine ldR c0e rfl ?_
        simp only [asPtrO_ptr]
        refine ldR c0e rfl ?_
        simp only [asPtrO_ptr, nilC, asPtr_some]
        rw [add_lit]
        refine ldR e104q rfl ?_
        simp only [asSlice_slice]
        refine ldR c0e rfl ?_
        simp only [asPtrO_ptr, nilC, asPtr_some]
        refine ldR e104q rfl ?_
        simp only [asSlice_slice]
        have hwr : IntKind.wrap .i64 ((((T ++ [x]).length : Nat) : Int) - 1) = ((T.length : Nat) : Int) := by rw [hT2, wrap64_id' (by omega) (by omega)]; omega
        rw [hwr]
        refine ⟨by omega, by omega, ?_⟩
        rw [Int.toNat_natCast, Nat.sub_zero, Nat.sub_zero, subA_zero]
        refine stR e104q rfl trivial fun g122 w122 => ?_
        have s122 := w122.size
        have no3 : ∀ b, blk oa3 b → b ≠ q ∧ b ≠ m ∧ b ≠ db := fun b hb => gl91.ne_o hb
        have own122 : OwnI g122 oa3 T.length oc3 T := by
          have o1 := Own.take own91 (i := T.length) (by omega)
          rw [Nat.mul_one, ← List.map_take, List.take_left' rfl] at o1
          exact o1.keep fun ad ea => (w122.old _ (no3 _ ⟨ad, ea, rfl⟩).1).trans (old104 _ (no3 _ ⟨ad, ea, rfl⟩).2.2)
        have gl122 : LinS g122 N q (some bd) lc L m db oa3 T (((Ss ++ Us) ++ Us2).map (St.key L.length)) := by
          refine ⟨⟨oc3, w122.new, own122⟩, ?_, ?_, ?_, gl91.lo, gl91.nq, gl91.nm, gl91.nd, gl91.no⟩
          · refine ⟨fun i v hi => ?_, gl91.sl.len, gl91.sl.cap⟩
            obtain ⟨ad, ea, hc⟩ := gl91.sl.s i v hi
            have hl := gl91.lo _ _ hi ad.block ⟨ad, ea, rfl⟩
            refine ⟨ad, ea, (cellAt_congr (by rw [add_block]; exact (w122.old _ (by have := gl91.nq; omega)).trans (old104 _ (by have := gl91.nd; omega)))).trans hc⟩
          · exact gl91.met.keep ((w122.old m (fun e => nqm e.symm)).trans (old104 m nm))
          · exact (w122.old db (fun e => nq e.symm)).trans dn104
        rw [List.append_assoc] at gl122
        refine done g122 oa3 (Us ++ Us2) (by omega) (fun b hb hn => (w122.old b (fun e => hn (.inl e))).trans ((old104 b (fun e => hn (.inr (.inr (.inl e))))).trans (keep91 b hb hn))) gl122 (fun b hb => ?_) (fun s hs => ?_) (fun qs' hq wi => ?_)
        · rcases hbl91 b hb with h5 | h5
          · rcases hb2 b h5 with h6 | h6
            · exact .inl h6
            · right; omega
          · right; omega
        · rcases List.mem_append.1 hs with hs | hs
          · exact z5 s hs
          · have := hbad s hs
            rw [hT1] at this; exact this
        · rw [hdo] at hq; cases hq
          exact hno wi
  · rintro M w g hMl hMs hw ⟨z1, z2, z3, oa1, Us, zl, z4, z5, z6⟩
    refine stR z3 rfl trivial fun g124 w124 => ?_
    refine ldR w124.new rfl ?_
    intro g126 hsd
    have nf : ∀ b, h.size ≤ b → ¬ linF q m db oa b := fun b hb hn => by have := fl hn; omega
    have noR : ∀ b, linF q m db oa1 b → b ≠ h3.size := by
      rintro b (h2 | h2 | h2 | h2) e
      · omega
      · omega
      · omega
      · rcases z4 b h2 with h5 | h5
        · have := fl (.inr (.inr (.inr h5)) : linF q m db oa b); omega
        · have := (hw b h5).1; omega
    have zl124 : LinS g124 N q (some bd) lc L m db oa1 T ((Ss ++ Us).map (St.key L.length)) := zl.keep (fun b hb => w124.old b (noR b hb)) (fun b hb _ => w124.old b (by show b ≠ h3.size; omega))
    refine k0 (fun wi hc => ?_) Us oa1 g126 z5 (zl124.same hsd (by omega)) ⟨?_, fun b hb hn => ?_⟩ (fun b hb => (z4 b hb).imp id fun h2 => by have := (hw b h2).1; omega)
    · cases hc with
      | step hx' ha' hd' hc' =>
        rw [hA] at ha'
        obtain ⟨j, hj, ej⟩ := List.getElem_of_mem ha'
        rw [← ej] at hd'
        exact z6 j hj hj _ hd' _ hc'
    · rw [hsd.1, w124.size]; omega
    · exact (hsd.2 b (.inl hb)).trans ((w124.old b (by show b ≠ h3.size; omega)).trans ((z2 b (by omega) hn (by omega)).trans (ok27.2 b hb)))
  · refine ⟨?_, trivial⟩
    rintro M w g hMl hMs hw ⟨z1, z2, z3, wi, oa1, ks1, zc, zl, z4⟩
    refine ldR z3 rfl ?_
    intro g126 hsd
    refine k1 wi oa1 g126 ks1 zc (zl.same hsd (by omega)) ⟨by rw [hsd.1]; omega, fun b hb hn => ?_⟩ (fun b hb => (z4 b hb).imp id fun h2 => by have := (hw b h2).1; omega)
    exact (hsd.2 b (.inl hb)).trans ((z2 b (by omega) hn (by omega)).trans (ok27.2 b hb))
end Go.Proofs.Ytlncjcbofgjcfaa
end
section
/- A search for a list, by any of the three orders: the search itself. -/
set_option linter.unusedSimpArgs false
set_option linter.unusedVariables false
set_option maxRecDepth 20000
namespace Go.Proofs.Ytlncjcbofgjcfaa

theorem weakAnswers_call {K : Value → Heap → Prop} {h : Heap} {p : Nat} {a : Option Addr} {ps : List Pr} {x : Op9} (B : BagF h p a ps) (hl : ps.length ≤ 2 ^ 30)
    (k : ∀ a' c' h', SX c3c h' a' (answersP x ps).length c' (answersP x ps) → (∀ b, blk a' b → h.size ≤ b) → Old h.size h h' → K (.slice a' (answersP x ps).length c') h') :
    CallH Try.prog 112 #[.agg x.cells.toArray, .pointer (some ⟨p, 0, none⟩)] h K := by
  refine call112 ?_
  unfold F112
  have p1 := pushed h x.cells.toArray 65
  rw [show h.push (.cells #[.int .i64 x.th, .int .i64 x.op, .int .u32 x.key, .int .u32 x.val, .int .i64 x.kind, .int .u32 x.ak, .int .u32 x.av, .int .i64 x.fr, .int .i64 x.to] 65) = h.push (.cells x.cells.toArray 65) from rfl]
  generalize h.push (.cells x.cells.toArray 65) = h1 at *
  have s1 := p1.size
  have o1 := p1.toOld
  have one : ∀ (y : C3), answersP x ps = [y] → K (.slice (some ⟨h1.size, 0, none⟩) 1 1) (h1.push (.cells #[.int .i64 y.o, .int .u32 y.k, .int .u32 y.v] 42)) := by
    intro y e
    have p2 := pushed h1 (c3c y).toArray 42
    rw [show h1.push (.cells #[.int .i64 y.o, .int .u32 y.k, .int .u32 y.v] 42) = h1.push (.cells (c3c y).toArray 42) from rfl]
    have := k (some ⟨h1.size, 0, none⟩) 1 _ (by rw [e]; exact sx_one p2.new) (fun b ⟨ad, ea, eb⟩ => by cases ea; rw [← eb]; show h.size ≤ h1.size; omega) (o1.trans (p2.toOld.mono o1.1))
    rw [e] at this; exact this
  simp only [add_lit]
  refine ldR p1.new rfl ?_
  simp only [asInt_int]
  refine ifB_dec (fun hto => ?_) (fun hto => ?_)
  · refine ldR p1.new rfl (ldR p1.new rfl (ldR p1.new rfl ?_))
    exact one (opA x) (by unfold answersP; rw [if_pos (by omega)])
  refine ldR p1.new rfl ?_
  simp only [asInt_int]
  refine ifB_mk (fun h0 => ?_) (fun h0 => ?_)
  · exact one ⟨0, 0, 0⟩ (by unfold answersP; rw [if_neg (by omega), if_pos (by simpa using h0)])
  refine ldR p1.new rfl ?_
  simp only [asInt_int]
  refine ifB_mk (fun h2 => ?_) (fun h2 => ?_)
  · have e : answersP x ps = [] := by unfold answersP; rw [if_neg (by omega), if_neg (by simpa using h0), if_pos (by simpa using h2)]
    rw [e] at k
    exact k none 0 h1 ⟨Sees.nil _ _, rfl, Nat.le_refl _⟩ (fun b hb => absurd hb (blk_none b)) o1
  have e : answersP x ps = (minsP ps).map fun p => ⟨2, p.1, p.2⟩ := by unfold answersP; rw [if_neg (by omega), if_neg (by simpa using h0), if_neg (by simpa using h2)]
  have hml := minsP_len ps
  refine callV_fn (bagMins_call (B.old o1) (by omega) fun a2 c2 h10 S10 o10 => ?_)
  simp only [asSlice_slice]
  have ok10 : Old h.size h h10 := o1.trans (o10.mono o1.1)
  have hlen := S10.len
  generalize hX : minsP ps = X at *
  refine ⟨fun vs h' => ∃ i : Nat, ∃ o c', vs = [.slice o i c', iv i] ∧ i ≤ X.length ∧ Old h10.size h10 h' ∧ OwnA h' o i c' ((X.take i).map fun p => (⟨2, p.1, p.2⟩ : C3)) ∧ (∀ b, blk o b → h10.size ≤ b),
    fun vs _ => (match vs with | [_, .int _ n] => X.length - n.toNat | _ => 0), ⟨0, none, 0, rfl, Nat.zero_le _, Old.refl _ _, Own.nil _ _ _, fun b hb => absurd hb (blk_none b)⟩, ?_⟩
  rintro v16 v17 g18 h19 ⟨i, ao, c', e2, hi, o19, own19, hb19⟩
  cases e2
  simp only [asInt_int, asI_int, asSlice_slice]
  refine ifB_dec (fun hlt => ?_) (fun hge => ?_)
  · have hi' : i < X.length := by omega
    obtain ⟨ad, rfl, hc0, hc1⟩ := spr_at (S10.old o19) hi'
    have htk : (X.take (i + 1)).map (fun p => (⟨2, p.1, p.2⟩ : C3)) = (X.take i).map (fun p => (⟨2, p.1, p.2⟩ : C3)) ++ [⟨2, (X[i]).1, (X[i]).2⟩] := by rw [List.take_succ_eq_append_getElem hi', List.map_append]; rfl
    generalize X[i] = y at *
    refine ⟨by omega, hlt, ?_⟩
    simp only [asPtr_some, Int.toNat_natCast]
    refine ldH_mk hc0 (ldH_mk hc1 ?_)
    have p20 := pushed h19 #[.int .u32 0, .int .u32 0] 29
    generalize h19.push (.cells #[.int .u32 0, .int .u32 0] 29) = h20 at *
    refine stKP (stN_full (vs := prc y) p20.new rfl (prc_one y) fun h26 w26 => ?_)
    have o26 : Old h19.size h19 h26 := w26.toOld p20.toOld (Nat.le_refl _)
    refine ldR w26.new rfl ?_
    simp only [asInt_int]
    refine ldR w26.new rfl ?_
    simp only [asInt_int]
    have own26 : OwnA h26 ao i c' _ := own19.keep fun ad e => o26.2 _ (own19.lt ad e)
    refine app_a1 (x := ⟨2, y.1, y.2⟩) own26 (by omega) fun a3 c3 h35 own35 hb35 fr35 => ?_
    simp only [asSlice_slice]
    rw [nat_wrap1 (by omega)]
    have s26 := o26.1
    have s19 := o19.1
    refine ⟨⟨i + 1, a3, c3, rfl, by omega, ⟨by have := fr35.1; omega, fun b hb => ?_⟩, by rw [htk]; exact own35, fun b hb => ?_⟩, by show X.length - ((i + 1 : Nat) : Int).toNat < X.length - (i : Int).toNat; omega⟩
    · exact (fr35.2 b (by omega) (fun hh => by have := hb19 b hh; omega)).trans ((o26.2 b (by omega)).trans (o19.2 b hb))
    · rcases hb35 b hb with h3 | h3
      · exact hb19 b h3
      · omega
  · obtain rfl : i = X.length := by omega
    rw [List.take_length] at own19
    have := k ao c' h19 (by rw [e, List.length_map]; exact Own.sx c3c_len (by omega) own19) (fun b hb => Nat.le_trans ok10.1 (hb19 b hb)) (ok10.trans (o19.mono ok10.1))
    rw [e, List.length_map] at this; exact this
/-- Is there a list, by an order? -/
inductive WCan (L : List Op9) (ord : Int) : List Int → List Pr → Prop
  | full {T : List Int} {ps : List Pr} (h : fullT L T) : WCan L ord T ps
  | step {T : List Int} {ps qs : List Pr} {x : Nat} {a : C3} (hx : x < L.length) (hf : freeB L ord T x = true) (ha : a ∈ answersP (opAt L x) ps) (hd : doP ps (opC (opAt L x)) a = some qs) (h : WCan L ord (T ++ [(x : Int)]) qs) : WCan L ord T ps
theorem freeB_congr {L : List Op9} {ord : Int} {T T' : List Int} (e : ∀ y, y ∈ T ↔ y ∈ T') (x : Int) : freeB L ord T x = freeB L ord T' x := by
  have h1 : ∀ y, decide (y ∈ T) = decide (y ∈ T') := fun y => by rw [decide_eq_decide]; exact e y
  have h2 : badB L ord T x = badB L ord T' x := by funext j; unfold badB; rw [h1 j]
  unfold freeB
  rw [h1 x, h2]
theorem WCan.congr {L : List Op9} {ord : Int} {T : List Int} {ps : List Pr} (H : WCan L ord T ps) : ∀ {T' : List Int}, (∀ y, y ∈ T ↔ y ∈ T') → WCan L ord T' ps := by
  induction H with
  | full h => intro T' e; exact .full fun y a b c => (e y).1 (h y a b c)
  | step hx hf ha hd h ih =>
    intro T' e
    refine .step hx (by rw [← freeB_congr e]; exact hf) ha hd (ih fun y => ?_)
    simp only [List.mem_append, List.mem_singleton, e y]
/-- One step, and then a list. -/
def WStep (L : List Op9) (ord : Int) (T : List Int) (ps : List Pr) (x : Nat) : Prop := ∃ a qs, freeB L ord T x = true ∧ a ∈ answersP (opAt L x) ps ∧ doP ps (opC (opAt L x)) a = some qs ∧ WCan L ord (T ++ [(x : Int)]) qs
def BadW (L : List Op9) (ord : Int) (c : Nat) (s : St) : Prop := s.ok L.length ∧ c ≤ s.T.length ∧ ¬ WCan L ord s.T s.ps
def MetW (L : List Op9) (ord : Int) (c : Nat) (Ss : List St) : Prop := ∀ s ∈ Ss, s.ok L.length ∧ (c ≤ s.T.length → ¬ WCan L ord s.T s.ps)
theorem MetW.up {L : List Op9} {ord : Int} {c d : Nat} {Ss : List St} (H : MetW L ord c Ss) (h : c ≤ d) : MetW L ord d Ss := fun s hs => ⟨(H s hs).1, fun hd => (H s hs).2 (by omega)⟩
theorem MetW.app {L : List Op9} {ord : Int} {c d : Nat} {Ss Us : List St} (H : MetW L ord c Ss) (H2 : ∀ s ∈ Us, BadW L ord d s) : MetW L ord c (Ss ++ Us) := fun s hs => (List.mem_append.1 hs).elim (H s) fun h => ⟨(H2 s h).1, fun _ => (H2 s h).2.2⟩
def WFromOK (N q : Nat) (la : Option Addr) (lc : Nat) (L : List Op9) (m p0 p1 : Nat) (ord : Int) (fuel : Nat) : Prop :=
  ∀ {K : Value → Heap → Prop} {h : Heap} {T : List Int} {ps : List Pr} {p : Nat} {a : Option Addr} {Ss : List St}, L.length ≤ T.length + fuel → WkS h N q la lc L m p0 p1 ord T (Ss.map (St.key L.length)) → BagF h p a ps → St.ok L.length ⟨T, ps⟩ → ps.length ≤ T.length → MetW L ord T.length Ss →
    (WCan L ord T ps → ∀ h' ks', WkS h' N q la lc L m p0 p1 ord T ks' → Fr (wkF q m) h h' → K (.bool true) h') →
    (¬ WCan L ord T ps → ∀ Us h', (∀ s ∈ Us, BadW L ord T.length s) → WkS h' N q la lc L m p0 p1 ord T ((Ss ++ Us).map (St.key L.length)) → Fr (wkF q m) h h' → K (.bool false) h') →
    CallH Try.prog 74 #[.pointer (some ⟨q, 0, none⟩), .pointer (some ⟨p, 0, none⟩)] h K

theorem wtry_call {N q : Nat} {la : Option Addr} {lc : Nat} {L : List Op9} {m p0 p1 : Nat} {ord : Int} {fuel : Nat} (hL : L.length ≤ 16) (hR : ∀ o ∈ L, InR o.key ∧ InR o.val) (ih : WFromOK N q la lc L m p0 p1 ord fuel)
    {K : Value → Heap → Prop} {h : Heap} {T : List Int} {ps : List Pr} {p : Nat} {a : Option Addr} {Ss : List St} {x : Nat} (hf : L.length ≤ T.length + (fuel + 1)) (H : WkS h N q la lc L m p0 p1 ord T (Ss.map (St.key L.length))) (B : BagF h p a ps) (ok : St.ok L.length ⟨T, ps⟩) (hpl : ps.length ≤ T.length) (hM : MetW L ord (T.length + 1) Ss) (hx : x < L.length) (hfr : freeB L ord T x = true)
    (k1 : WCan L ord T ps → ∀ h' ks', WkS h' N q la lc L m p0 p1 ord T ks' → Fr (wkF q m) h h' → K (.bool true) h')
    (k0 : ¬ WStep L ord T ps x → ∀ Us h', (∀ s ∈ Us, BadW L ord (T.length + 1) s) → WkS h' N q la lc L m p0 p1 ord T ((Ss ++ Us).map (St.key L.length)) → Fr (wkF q m) h h' → K (.bool false) h') :
    CallH Try.prog 92 #[.pointer (some ⟨q, 0, none⟩), iv x, .pointer (some ⟨p, 0, none⟩)] h K := by
  refine call92 ?_
  unfold F92
  have hxT : (x : Int) ∉ T := by
    unfold freeB at hfr
    rw [Bool.and_eq_true] at hfr
    simpa using hfr.1
  have hTl2 : T.length + 1 ≤ L.length := by
    have := range_len (T := (x : Int) :: T) (n := L.length) (List.nodup_cons.2 ⟨hxT, ok.nd⟩) (fun y hy => by
      rcases List.mem_cons.1 hy with rfl | hy
      · omega
      · exact ok.r y hy)
    simpa using this
  have hin : opAt L x ∈ L := by rw [opAt_nat hx]; exact List.getElem_mem hx
  have hRx := hR _ hin
  try simp only [nilC, asPtr_some]
  refine ldR H.obj rfl ?_
  simp only [asSlice_slice]
  refine ⟨by omega, by omega, ?_⟩
  obtain ⟨bd, rfl, d0, d1⟩ := H.sl.int (x := (x : Int)) (by omega) (by omega)
  simp only [asPtr_some]
  have d0' := d1 0 _ rfl
  refine ldH_mk d0' (ldH_mk (d1 1 _ rfl) (ldH_mk (d1 2 _ rfl) (ldH_mk (d1 3 _ rfl) (ldH_mk (d1 4 _ rfl) (ldH_mk (d1 5 _ rfl) (ldH_mk (d1 6 _ rfl) (ldH_mk (d1 7 _ rfl) (ldH_mk (d1 8 _ rfl) ?_))))))))
  have hpl2 : ps.length ≤ 48 := by omega
  refine callV_fn (weakAnswers_call (x := opAt L x) B (by omega) fun a' c' h16 S16 hb16 o16 => ?_)
  simp only [asSlice_slice]
  generalize hA : answersP (opAt L x) ps = A at *
  have hAl : A.length ≤ 2 ^ 30 := by have := minsP_len ps; rw [← hA]; unfold answersP; split <;> (try split) <;> (try split) <;> simp <;> omega
  refine ⟨fun vs h' => ∃ w1 w2, ∃ j : Nat, ∃ Us, vs = [.bool false, w1, w2, iv j] ∧ j ≤ A.length ∧ h16.size ≤ h'.size ∧ Fr (wkF q m) h16 h' ∧ WkS h' N q (some bd) lc L m p0 p1 ord T ((Ss ++ Us).map (St.key L.length)) ∧ (∀ s ∈ Us, BadW L ord (T.length + 1) s) ∧ ∀ i (hi : i < A.length), i < j → ∀ qs, doP ps (opC (opAt L x)) A[i] = some qs → ¬ WCan L ord (T ++ [(x : Int)]) qs,
    fun vs _ => (match vs with | [_, _, _, .int _ n] => A.length - n.toNat | _ => 0),
    ⟨_, _, 0, [], rfl, Nat.zero_le _, Nat.le_refl _, Fr.refl _ _, by simpa using H.old o16, fun s hs => by simp at hs, fun i _ h => by omega⟩, ?_⟩
  rintro v22 v23 v24 v25 g26 h27 ⟨w1, w2, j, Us, e, hj, s27, fr27, H27, hbad, hall⟩
  cases e
  simp only [asInt_int, asI_int]
  have fl : ∀ {b : Nat}, wkF q m b → b < h.size := fun hb => H.lt hb
  have s16 := o16.1
  have frh27 : Fr (wkF q m) h h27 := (o16.fr _).trans fr27
  refine ifB_dec (fun hlt => ?_) (fun hge => ?_)
  rotate_left
  · refine k0 (fun ⟨a, qs, _, ha, hd, hc⟩ => ?_) Us h27 hbad H27 frh27
    rw [hA] at ha
    obtain ⟨i, hi, rfl⟩ := List.getElem_of_mem ha
    exact hall i hi (by omega) qs hd hc
  have hj' : j < A.length := by omega
  have S27 : SX c3c h27 a' A.length c' A := S16.keepX fun ad ea hltb => fr27.2 _ hltb fun hb => by have := hb16 _ ⟨ad, ea, rfl⟩; have := fl hb; omega
  obtain ⟨aa, rfl, hcA⟩ := SX.at c3c_len (by omega) S27 hj'
  refine ⟨by omega, hlt, ?_⟩
  simp only [asPtr_some, Int.toNat_natCast]
  refine ldH_mk (hcA 0 _ rfl) (ldH_mk (hcA 1 _ rfl) (ldH_mk (hcA 2 _ rfl) ?_))
  have hyA : A[j] ∈ A := List.getElem_mem hj'
  obtain ⟨y, hy⟩ : ∃ y, A[j] = y := ⟨_, rfl⟩
  rw [hy] at hyA ⊢
  have p28 := pushed h27 zeroC.cells.toArray 42
  rw [show h27.push (.cells #[.int .i64 0, .int .u32 0, .int .u32 0] 42) = h27.push (.cells zeroC.cells.toArray 42) from rfl]
  generalize h27.push (.cells zeroC.cells.toArray 42) = h28 at *
  refine st3' (stN_full (vs := c3c y) p28.new rfl (c3_one y) fun h36 w36 => ?_)
  have o36 : Old h27.size h27 h36 := w36.toOld p28.toOld (Nat.le_refl _)
  have y36 : h36[h27.size]? = some (.cells (c3c y).toArray 42) := w36.new
  have B27 : BagF h27 p a ps := B.fr frh27 (fun hb => H.bag B hb (.inl rfl)) (fun b hb hb2 => H.bag B hb2 (.inr hb))
  have B36 := B27.old o36
  refine callV_fn (bagCopy_call B36 (by omega) fun p' a2 h38 B38 hp' ha2 o38 => ?_)
  simp only [asPtrO_ptr, nilC, asPtr_some]
  have o38' : Old h27.size h27 h38 := o36.trans (o38.mono o36.1)
  have H38 := H27.old o38'
  refine ldR H38.obj rfl ?_
  simp only [asSlice_slice]
  refine ⟨by omega, by omega, ?_⟩
  obtain ⟨bd', e', f0, f1⟩ := H38.sl.int (x := (x : Int)) (by omega) (by omega)
  cases e'
  simp only [asPtr_some, Int.toNat_natCast] at f1 ⊢
  refine ldH_mk (f1 1 _ rfl) (ldH_mk (f1 2 _ rfl) (ldH_mk (f1 3 _ rfl) ?_))
  have hs36 : h27.size < h36.size := (Array.getElem?_eq_some_iff.1 y36).1
  have y38 := (o38.2 _ hs36).trans y36
  refine ldR y38 rfl (ldR y38 rfl (ldR y38 rfl ?_))
  refine callV_fn (bagDo_call (c3 := opC (opAt L x)) (a3 := y) B38 (by omega) fun a3 h53 B53 hb53 fr53 => ?_)
  simp only [asBool_bool]
  have s38 := o38.1
  have s53 := fr53.1
  have dis38 : ∀ b, b < h36.size → ¬ bagS p' a2 b := by
    rintro b hb (h1 | h1)
    · omega
    · have := ha2 b h1; omega
  have o53 : Old h27.size h27 h53 := ⟨by omega, fun b hb => (fr53.2 b (by omega) (dis38 b (by omega))).trans (o38'.2 b hb)⟩
  have H53 := H27.old o53
  have fr53' : Fr (wkF q m) h16 h53 := fr27.trans (o53.fr _)
  refine ifB_mk (fun hno => ?_) (fun hyes => ?_)
  · have hd0 : doP ps (opC (opAt L x)) y = none := by
      cases hd : doP ps (opC (opAt L x)) y with
      | none => rfl
      | some qs => rw [hd] at hno; cases hno
    rw [nat_wrap1 (by omega)]
    refine ⟨⟨_, _, j + 1, Us, rfl, by omega, by omega, fr53', H53, hbad, fun i hi hij qs hd hc => ?_⟩, by show A.length - ((j + 1 : Nat) : Int).toNat < A.length - (j : Int).toNat; omega⟩
    by_cases ei : i = j
    · subst ei
      rw [hy, hd0] at hd; cases hd
    · exact hall i hi (by omega) qs hd hc
  obtain ⟨qs, hqs⟩ : ∃ qs, doP ps (opC (opAt L x)) y = some qs := by
    cases hd : doP ps (opC (opAt L x)) y with
    | none => rw [hd] at hyes; cases hyes
    | some qs => exact ⟨qs, rfl⟩
  rw [hqs] at B53
  simp only [Option.getD_some] at B53
  try simp only [nilC, asPtr_some]
  try rw [add_lit]
  refine ldR H53.obj rfl ?_
  simp only [asInt_int]
  refine ⟨by omega, ?_⟩
  try rw [Int.toNat_natCast]
  have hb48 : maskN T L.length < 2 ^ 63 := Nat.lt_of_lt_of_le (maskN_lt T L.length) (Nat.pow_le_pow_right (by omega) (by omega))
  rw [or_wrap hb48 (by omega), maskN_add hx]
  refine stR H53.obj rfl trivial fun h60 w60 => ?_
  have lq := H53.lt (.inl rfl : wkF q m q)
  have nqN := H53.nq
  have H60 : WkS h60 N q (some bd) lc L m p0 p1 ord (T ++ [(x : Int)]) ((Ss ++ Us).map (St.key L.length)) := by
    have l0 := H53.l0
    have l1 := H53.l1
    exact { H53 with obj := w60.new, c0 := (w60.old _ (by omega)).trans H53.c0, c1 := (w60.old _ (by omega)).trans H53.c1, sl := H53.sl.keepL fun i v hi ad e => w60.old _ (by have := H53.lo i v hi _ ⟨ad, e, rfl⟩; omega), met := H53.met.keep (w60.old _ (fun e => H53.ne e.symm)) }
  have fr60 : Fr (wkF q m) h53 h60 := ⟨by rw [w60.size]; exact Nat.le_refl _, fun b hb hn => w60.old _ fun e => hn (.inl e)⟩
  have B60 : BagF h60 p' a3 qs := B53.fr fr60 (fun hb => H53.bag B53 hb (.inl rfl)) (fun b hb hb2 => H53.bag B53 hb2 (.inr hb))
  have okq : St.ok L.length ⟨T ++ [(x : Int)], qs⟩ := ⟨fun z hz => by
    rcases List.mem_append.1 hz with hz | hz
    · exact ok.r z hz
    · rw [List.mem_singleton.1 hz]; omega, List.nodup_append.2 ⟨ok.nd, by simp, fun u hu z hz e => by rw [List.mem_singleton.1 hz] at e; exact hxT (e ▸ hu)⟩, doP_inr ok.inr hRx hqs⟩
  have hql := doP_len hqs
  have hTx : (T ++ [(x : Int)]).length = T.length + 1 := by simp
  -- what comes behind the search
  have back : ∀ (bb : Bool) (h62 : Heap) (ks' : List (Int × ByteArray)) (K2 : Heap → Prop), WkS h62 N q (some bd) lc L m p0 p1 ord (T ++ [(x : Int)]) ks' → (∀ h68, WkS h68 N q (some bd) lc L m p0 p1 ord T ks' → Fr (wkF q m) h62 h68 → K2 h68) →
      ldH h62 ⟨q, 3, none⟩ (fun v65 => asInt .u64 v65 fun n66 => (0 : Int) ≤ (x : Int) ∧ stH h62 ⟨q, 3, none⟩ (.int .u64 (IntKind.wrap .u64 ((((BitVec.ofInt 64 n66) &&& (~~~(BitVec.ofInt 64 (IntKind.wrap .u64 (1 * (2 ^ (min (x : Int).toNat 64))))))).toNat : Nat) : Int))) K2) := by
    intro bb h62 ks' K2 H62 kk
    refine ldR H62.obj rfl ?_
    simp only [asInt_int]
    refine ⟨by omega, ?_⟩
    rw [Int.toNat_natCast, maskN_sub (by omega) hx hxT]
    refine stR H62.obj rfl trivial fun h68 w68 => ?_
    have l0 := H62.l0
    have l1 := H62.l1
    refine kk h68 { H62 with obj := w68.new, c0 := (w68.old _ (by omega)).trans H62.c0, c1 := (w68.old _ (by omega)).trans H62.c1, sl := H62.sl.keepL fun i v hi ad e => w68.old _ (by have := H62.lo i v hi _ ⟨ad, e, rfl⟩; omega), met := H62.met.keep (w68.old _ (fun e => H62.ne e.symm)) } ⟨by rw [w68.size]; exact Nat.le_refl _, fun b hb hn => w68.old _ fun e => hn (.inl e)⟩
  have s60 : h60.size = h53.size := w60.size
  refine callV_fn (ih (by omega) H60 B60 okq (by omega) (by rw [hTx]; exact hM.app hbad) (fun hc h62 ks' H62 fr62 => ?_) (fun hno Us2 h62 hbad2 H62 fr62 => ?_))
  · simp only [asBool_bool, nilC, asPtr_some]
    try rw [add_lit]
    refine back true h62 ks' _ H62 fun h68 H68 fr68 => ?_
    simp only [ifB_true]
    refine k1 (.step hx hfr (by rw [hA]; exact hyA) hqs hc) h68 ks' H68 ?_
    exact ((o16.fr _).trans (fr53'.trans (fr60.trans (fr62.trans fr68))))
  · simp only [asBool_bool, nilC, asPtr_some]
    try rw [add_lit]
    rw [List.append_assoc] at H62
    refine back false h62 _ _ H62 fun h68 H68 fr68 => ?_
    simp only [ifB_false]
    rw [nat_wrap1 (by omega)]
    have s62 := fr62.1
    have s68 := fr68.1
    refine ⟨⟨_, _, j + 1, Us ++ Us2, rfl, by omega, by omega, fr53'.trans (fr60.trans (fr62.trans fr68)), H68, fun s hs => ?_, fun i hi hij qs' hd hc => ?_⟩, by show A.length - ((j + 1 : Nat) : Int).toNat < A.length - (j : Int).toNat; omega⟩
    · rcases List.mem_append.1 hs with hs | hs
      · exact hbad s hs
      · have := hbad2 s hs
        rw [hTx] at this; exact this
    · by_cases ei : i = j
      · subst ei
        rw [hy, hqs] at hd
        cases hd
        exact hno hc
      · exact hall i hi (by omega) qs' hd hc
theorem und_wmet : und Try.prog 121 = .map 145 4 := by kernel_rfl
theorem asMap_map {o : Option Nat} {K : Option Nat → Prop} : asMap (.map o) K = K o := rfl
theorem wfrom_ok {N q : Nat} {la : Option Addr} {lc : Nat} {L : List Op9} {m p0 p1 : Nat} {ord : Int} (hL : L.length ≤ 16) (hR : ∀ o ∈ L, InR o.key ∧ InR o.val) : ∀ fuel, WFromOK N q la lc L m p0 p1 ord fuel := by
  intro fuel
  induction fuel with
  | zero =>
    intro K h T ps p a Ss hf H B ok hpl hM k1 k0
    refine call74 ?_
    unfold F74
    refine callV_fn (weakFull_call H hL fun h1 o1 => ?_)
    simp only [asBool_bool]
    have hTl : T.length ≤ L.length := range_len ok.nd ok.r
    have hfull : fullT L T := by
      intro y y0 y1 _
      apply Decidable.byContradiction
      intro hn
      have := range_len (T := y :: T) (n := L.length) (List.nodup_cons.2 ⟨hn, ok.nd⟩) (fun z hz => by
        rcases List.mem_cons.1 hz with rfl | hz
        · exact ⟨y0, y1⟩
        · exact ok.r z hz)
      simp at this
      omega
    rw [(fullB_iff L T).2 hfull]
    simp only [ifB_true]
    exact k1 (.full hfull) h1 _ (H.old o1) (o1.fr _)
  | succ fuel ih =>
    intro K h T ps p a Ss hf H B ok hpl hM k1 k0
    refine call74 ?_
    unfold F74
    have hTl : T.length ≤ L.length := range_len ok.nd ok.r
    refine callV_fn (weakFull_call H hL fun h1 o1 => ?_)
    simp only [asBool_bool]
    refine ifB_mk (fun hfb => ?_) (fun hfb => ?_)
    · have hfull := (fullB_iff L T).1 hfb
      exact k1 (.full hfull) h1 _ (H.old o1) (o1.fr _)
    have hnf : ¬ fullT L T := fun h => by rw [(fullB_iff L T).2 h] at hfb; cases hfb
    have H1 := H.old o1
    try simp only [nilC, asPtr_some]
    try rw [add_lit]
    refine ldR H1.obj rfl ?_
    simp only [asInt_int]
    constructor
    · refine callV_fn (weakText_call (B.old o1) ok.inr (by omega) fun h7 o7 => ?_)
      simp only [asStr_str]
      have ok7 : Old h.size h h7 := o1.trans (o7.mono o1.1)
      have H7 := H.old ok7
      refine ⟨cellR H7.obj rfl, ?_⟩
      have p9 := pushed h7 [Value.int .u64 0, .string ⟨#[]⟩].toArray 145
      rw [show h7.push (.cells #[.int .u64 0, .string ⟨#[]⟩] 145) = h7.push (.cells [Value.int .u64 0, .string ⟨#[]⟩].toArray 145) from rfl]
      generalize h7.push (.cells [Value.int .u64 0, .string ⟨#[]⟩].toArray 145) = h8 at *
      have H8 := H7.old p9.toOld
      refine ⟨cellR H8.obj rfl, ?_⟩
      refine stR p9.new rfl trivial fun h9b w9 => ?_
      refine stR w9.new rfl trivial fun h10 w10' => ?_
      have w10 := w9.trans w10'
      have ok10 : Old h.size h h10 := ok7.trans ((w10.toOld p9.toOld (Nat.le_refl _)).mono ok7.1)
      have hS := w10.new
      have H10 := H.old ok10
      try simp only [nilC, asPtr_some]
      try rw [add_lit]
      refine ldR H10.obj rfl ?_
      simp only [asMap_map]
      refine ldR hS rfl (ldR hS rfl ?_)
      have hmet := H10.met
      refine met_look (t := 145) (k := St.key L.length ⟨T, ps⟩) (.inr rfl) und_wmet hmet ?_
      simp only [asBool_bool]
      refine ifB_dec (fun hin => ?_) (fun hn => ?_)
      · obtain ⟨s, hs, es⟩ := List.mem_map.1 hin
        obtain ⟨hsok, hsbad⟩ := hM s hs
        obtain ⟨q1, q2⟩ := St.key_inj hsok ok es
        have hlen : T.length ≤ s.T.length := ok.nd.length_le_of_subset fun y hy => (q1 y).2 hy
        have hno : ¬ WCan L ord T ps := fun hc => by
          have := hc.congr (T' := s.T) fun y => (q1 y).symm
          rw [show ps = s.ps from q2.symm] at this
          exact hsbad hlen this
        exact k0 hno [] h10 (fun s hs => by simp at hs) (by simpa using H10) (ok10.fr _)
      try simp only [nilC, asPtr_some]
      try rw [add_lit]
      refine ldR H10.obj rfl ?_
      simp only [asMap_map]
      refine ldR hS rfl (ldR hS rfl ?_)
      refine met_put (t := 145) (k := St.key L.length ⟨T, ps⟩) (.inr rfl) und_wmet hmet hn fun h24 M24 s24 old24 => ?_
      have fr24 : Fr (wkF q m) h h24 := ⟨by have := ok10.1; omega, fun b hb hnb => (old24 b (fun e => hnb (.inr e))).trans (ok10.2 b hb)⟩
      have hN10 : N ≤ h10.size := by have := H10.ge (.inl rfl : wkF q m q); have := H10.lt (.inl rfl : wkF q m q); omega
      have H24 : WkS h24 N q la lc L m p0 p1 ord T ((Ss ++ [(⟨T, ps⟩ : St)]).map (St.key L.length)) := by
        have nm := H10.nm
        refine { H10 with obj := (old24 q H10.ne).trans H10.obj, c0 := (old24 p0 (by have := H10.l0; omega)).trans H10.c0, c1 := (old24 p1 (by have := H10.l1; omega)).trans H10.c1, sl := H10.sl.keepL fun i v hi ad e => old24 _ (by have := H10.lo i v hi _ ⟨ad, e, rfl⟩; omega), met := ?_ }
        rw [List.map_append]; exact M24
      try simp only [nilC, asPtr_some]
      refine ldR H24.obj rfl ?_
      simp only [asSlice_slice]
      have hM1 : MetW L ord (T.length + 1) (Ss ++ [(⟨T, ps⟩ : St)]) := by
        intro s hs
        rcases List.mem_append.1 hs with hs | hs
        · exact hM.up (Nat.le_succ _) s hs
        · rw [List.mem_singleton.1 hs]
          exact ⟨ok, fun h => absurd h (by show ¬ T.length + 1 ≤ T.length; omega)⟩
      refine ⟨fun vs h' => ∃ w1 w2, ∃ i : Nat, ∃ Us, vs = [w1, w2, iv i] ∧ i ≤ L.length ∧ Fr (wkF q m) h h' ∧ WkS h' N q la lc L m p0 p1 ord T (((Ss ++ [(⟨T, ps⟩ : St)]) ++ Us).map (St.key L.length)) ∧ (∀ s ∈ Us, BadW L ord (T.length + 1) s) ∧ ∀ j : Nat, j < i → ¬ WStep L ord T ps j,
        fun vs _ => (match vs with | [_, _, .int _ n] => L.length - n.toNat | _ => 0),
        ⟨_, _, 0, [], rfl, Nat.zero_le _, fr24, by simpa using H24, fun s hs => by simp at hs, fun j h => by omega⟩, ?_⟩
      rintro v32 v33 v34 g35 h36 ⟨w1, w2, i, Us, e, hi, fr36, H36, hbad, hall⟩
      cases e
      simp only [asInt_int]
      refine ifB_dec (fun hlt => ?_) (fun hge => ?_)
      · have hi' : i < L.length := by omega
        refine ⟨fun vs h' => ∃ bb Vs, vs = [.bool bb] ∧ Fr (wkF q m) h h' ∧ (∃ ks', WkS h' N q la lc L m p0 p1 ord T ks') ∧ (bb = true → WCan L ord T ps) ∧ (bb = false → ¬ WStep L ord T ps i ∧ WkS h' N q la lc L m p0 p1 ord T (((Ss ++ [(⟨T, ps⟩ : St)]) ++ Vs).map (St.key L.length)) ∧ ∀ s ∈ Vs, BadW L ord (T.length + 1) s), ?_, ?_⟩
        · refine callV_fn (weakFree_call H36 hL hi' fun h41 o41 => ?_)
          simp only [asBool_bool]
          have fr41 : Fr (wkF q m) h h41 := fr36.trans (o41.fr _)
          have H41 := H36.old o41
          refine ifB_mk (fun hf2 => ?_) (fun hf2 => ?_)
          · have B41 : BagF h41 p a ps := B.fr fr41 (fun hb => H.bag B hb (.inl rfl)) (fun b hb hb2 => H.bag B hb2 (.inr hb))
            refine callV_fn (wtry_call hL hR ih hf H41 B41 ok hpl (hM1.app hbad) hi' hf2 (fun hc h44 ks2 H44 fr44 => ?_) (fun hno Us2 h44 hbad2 H44 fr44 => ?_))
            · simp only [asBool_bool]
              exact ⟨true, [], rfl, fr41.trans fr44, ⟨_, H44⟩, fun _ => hc, fun h => by cases h⟩
            · simp only [asBool_bool]
              rw [List.append_assoc] at H44
              refine ⟨false, Us ++ Us2, rfl, fr41.trans fr44, ⟨_, H44⟩, fun h => (by cases h), fun _ => ⟨hno, H44, fun s hs => (List.mem_append.1 hs).elim (hbad s) (hbad2 s)⟩⟩
          · refine ⟨false, Us, rfl, fr41, ⟨_, H41⟩, fun h => (by cases h), fun _ => ⟨fun hs => ?_, H41, hbad⟩⟩
            obtain ⟨_, _, h1, _⟩ := hs
            rw [hf2] at h1; cases h1
        rintro v46 g47 h48 ⟨bb, Vs, e, fr48, ⟨ks', H48⟩, q1, q2⟩
        cases e
        simp only [asBool_bool]
        refine ifB_mk (fun hb => k1 (q1 hb) h48 ks' H48 fr48) (fun hb => ?_)
        obtain ⟨r1, r2, r3⟩ := q2 hb
        rw [nat_wrap1 (by omega)]
        refine ⟨⟨_, _, i + 1, Vs, rfl, by omega, fr48, r2, r3, fun j hji => ?_⟩, by show L.length - ((i + 1 : Nat) : Int).toNat < L.length - (i : Int).toNat; omega⟩
        by_cases e : j = i
        · subst e; exact r1
        · exact hall j (by omega)
      · have hno : ¬ WCan L ord T ps := by
          intro hc
          cases hc with
          | full hfu => exact hnf hfu
          | step hx hfr ha hd hc => exact hall _ (by omega) ⟨_, _, hfr, ha, hd, hc⟩
        rw [List.append_assoc] at H36
        refine k0 hno ([(⟨T, ps⟩ : St)] ++ Us) h36 (fun s hs => ?_) H36 fr36
        rcases List.mem_append.1 hs with hs | hs
        · rw [List.mem_singleton.1 hs]
          exact ⟨ok, Nat.le_refl _, hno⟩
        · exact ⟨(hbad s hs).1, by have := (hbad s hs).2.1; omega, (hbad s hs).2.2⟩
    · have p9 := pushed h1 [Value.int .u64 0, .string ⟨#[]⟩].toArray 145
      rw [show h1.push (.cells #[.int .u64 0, .string ⟨#[]⟩] 145) = h1.push (.cells [Value.int .u64 0, .string ⟨#[]⟩].toArray 145) from rfl]
      generalize h1.push (.cells [Value.int .u64 0, .string ⟨#[]⟩].toArray 145) = h8 at *
      have s8 := p9.size
      have o8 : Old h.size h h8 := o1.trans (p9.toOld.mono o1.1)
      have H8 := H.old o8
      refine ⟨cellR H8.obj rfl, ?_⟩
      refine callV_fn (weakText_call (B.old o8) ok.inr (by omega) fun h52 o52 => ?_)
      simp only [asStr_str]
      have H52 := H8.old o52
      refine ⟨cellR H52.obj rfl, ?_⟩
      have n52 := (o52.2 _ (show h1.size < h8.size by omega)).trans p9.new
      have ok52 : Old h1.size h1 h52 := p9.toOld.trans (o52.mono (by omega))
      refine stR n52 rfl trivial fun h9b w9 => ?_
      refine stR w9.new rfl trivial fun h10 w10' => ?_
      have w10 := w9.trans w10'
      have ok10 : Old h.size h h10 := o1.trans ((w10.toOld ok52 (Nat.le_refl _)).mono o1.1)
      have hS := w10.new
      have H10 := H.old ok10
      try simp only [nilC, asPtr_some]
      try rw [add_lit]
      refine ldR H10.obj rfl ?_
      simp only [asMap_map]
      refine ldR hS rfl (ldR hS rfl ?_)
      have hmet := H10.met
      refine met_look (t := 145) (k := St.key L.length ⟨T, ps⟩) (.inr rfl) und_wmet hmet ?_
      simp only [asBool_bool]
      refine ifB_dec (fun hin => ?_) (fun hn => ?_)
      · obtain ⟨s, hs, es⟩ := List.mem_map.1 hin
        obtain ⟨hsok, hsbad⟩ := hM s hs
        obtain ⟨q1, q2⟩ := St.key_inj hsok ok es
        have hlen : T.length ≤ s.T.length := ok.nd.length_le_of_subset fun y hy => (q1 y).2 hy
        have hno : ¬ WCan L ord T ps := fun hc => by
          have := hc.congr (T' := s.T) fun y => (q1 y).symm
          rw [show ps = s.ps from q2.symm] at this
          exact hsbad hlen this
        exact k0 hno [] h10 (fun s hs => by simp at hs) (by simpa using H10) (ok10.fr _)
      try simp only [nilC, asPtr_some]
      try rw [add_lit]
      refine ldR H10.obj rfl ?_
      simp only [asMap_map]
      refine ldR hS rfl (ldR hS rfl ?_)
      refine met_put (t := 145) (k := St.key L.length ⟨T, ps⟩) (.inr rfl) und_wmet hmet hn fun h24 M24 s24 old24 => ?_
      have fr24 : Fr (wkF q m) h h24 := ⟨by have := ok10.1; omega, fun b hb hnb => (old24 b (fun e => hnb (.inr e))).trans (ok10.2 b hb)⟩
      have hN10 : N ≤ h10.size := by have := H10.ge (.inl rfl : wkF q m q); have := H10.lt (.inl rfl : wkF q m q); omega
      have H24 : WkS h24 N q la lc L m p0 p1 ord T ((Ss ++ [(⟨T, ps⟩ : St)]).map (St.key L.length)) := by
        have nm := H10.nm
        refine { H10 with obj := (old24 q H10.ne).trans H10.obj, c0 := (old24 p0 (by have := H10.l0; omega)).trans H10.c0, c1 := (old24 p1 (by have := H10.l1; omega)).trans H10.c1, sl := H10.sl.keepL fun i v hi ad e => old24 _ (by have := H10.lo i v hi _ ⟨ad, e, rfl⟩; omega), met := ?_ }
        rw [List.map_append]; exact M24
      try simp only [nilC, asPtr_some]
      refine ldR H24.obj rfl ?_
      simp only [asSlice_slice]
      have hM1 : MetW L ord (T.length + 1) (Ss ++ [(⟨T, ps⟩ : St)]) := by
        intro s hs
        rcases List.mem_append.1 hs with hs | hs
        · exact hM.up (Nat.le_succ _) s hs
        · rw [List.mem_singleton.1 hs]
          exact ⟨ok, fun h => absurd h (by show ¬ T.length + 1 ≤ T.length; omega)⟩
      refine ⟨fun vs h' => ∃ w1 w2, ∃ i : Nat, ∃ Us, vs = [w1, w2, iv i] ∧ i ≤ L.length ∧ Fr (wkF q m) h h' ∧ WkS h' N q la lc L m p0 p1 ord T (((Ss ++ [(⟨T, ps⟩ : St)]) ++ Us).map (St.key L.length)) ∧ (∀ s ∈ Us, BadW L ord (T.length + 1) s) ∧ ∀ j : Nat, j < i → ¬ WStep L ord T ps j,
        fun vs _ => (match vs with | [_, _, .int _ n] => L.length - n.toNat | _ => 0),
        ⟨_, _, 0, [], rfl, Nat.zero_le _, fr24, by simpa using H24, fun s hs => by simp at hs, fun j h => by omega⟩, ?_⟩
      rintro v32 v33 v34 g35 h36 ⟨w1, w2, i, Us, e, hi, fr36, H36, hbad, hall⟩
      cases e
      simp only [asInt_int]
      refine ifB_dec (fun hlt => ?_) (fun hge => ?_)
      · have hi' : i < L.length := by omega
        refine ⟨fun vs h' => ∃ bb Vs, vs = [.bool bb] ∧ Fr (wkF q m) h h' ∧ (∃ ks', WkS h' N q la lc L m p0 p1 ord T ks') ∧ (bb = true → WCan L ord T ps) ∧ (bb = false → ¬ WStep L ord T ps i ∧ WkS h' N q la lc L m p0 p1 ord T (((Ss ++ [(⟨T, ps⟩ : St)]) ++ Vs).map (St.key L.length)) ∧ ∀ s ∈ Vs, BadW L ord (T.length + 1) s), ?_, ?_⟩
        · refine callV_fn (weakFree_call H36 hL hi' fun h41 o41 => ?_)
          simp only [asBool_bool]
          have fr41 : Fr (wkF q m) h h41 := fr36.trans (o41.fr _)
          have H41 := H36.old o41
          refine ifB_mk (fun hf2 => ?_) (fun hf2 => ?_)
          · have B41 : BagF h41 p a ps := B.fr fr41 (fun hb => H.bag B hb (.inl rfl)) (fun b hb hb2 => H.bag B hb2 (.inr hb))
            refine callV_fn (wtry_call hL hR ih hf H41 B41 ok hpl (hM1.app hbad) hi' hf2 (fun hc h44 ks2 H44 fr44 => ?_) (fun hno Us2 h44 hbad2 H44 fr44 => ?_))
            · simp only [asBool_bool]
              exact ⟨true, [], rfl, fr41.trans fr44, ⟨_, H44⟩, fun _ => hc, fun h => by cases h⟩
            · simp only [asBool_bool]
              rw [List.append_assoc] at H44
              refine ⟨false, Us ++ Us2, rfl, fr41.trans fr44, ⟨_, H44⟩, fun h => (by cases h), fun _ => ⟨hno, H44, fun s hs => (List.mem_append.1 hs).elim (hbad s) (hbad2 s)⟩⟩
          · refine ⟨false, Us, rfl, fr41, ⟨_, H41⟩, fun h => (by cases h), fun _ => ⟨fun hs => ?_, H41, hbad⟩⟩
            obtain ⟨_, _, h1, _⟩ := hs
            rw [hf2] at h1; cases h1
        rintro v46 g47 h48 ⟨bb, Vs, e, fr48, ⟨ks', H48⟩, q1, q2⟩
        cases e
        simp only [asBool_bool]
        refine ifB_mk (fun hb => k1 (q1 hb) h48 ks' H48 fr48) (fun hb => ?_)
        obtain ⟨r1, r2, r3⟩ := q2 hb
        rw [nat_wrap1 (by omega)]
        refine ⟨⟨_, _, i + 1, Vs, rfl, by omega, fr48, r2, r3, fun j hji => ?_⟩, by show L.length - ((i + 1 : Nat) : Int).toNat < L.length - (i : Int).toNat; omega⟩
        by_cases e : j = i
        · subst e; exact r1
        · exact hall j (by omega)
      · have hno : ¬ WCan L ord T ps := by
          intro hc
          cases hc with
          | full hfu => exact hnf hfu
          | step hx hfr ha hd hc => exact hall _ (by omega) ⟨_, _, hfr, ha, hd, hc⟩
        rw [List.append_assoc] at H36
        refine k0 hno ([(⟨T, ps⟩ : St)] ++ Us) h36 (fun s hs => ?_) H36 fr36
        rcases List.mem_append.1 hs with hs | hs
        · rw [List.mem_singleton.1 hs]
          exact ⟨ok, Nat.le_refl _, hno⟩
        · exact ⟨(hbad s hs).1, by have := (hbad s hs).2.1; omega, (hbad s hs).2.2⟩
end Go.Proofs.Ytlncjcbofgjcfaa
end
section
/- The whole search: from some pairs, of any operations, of a history. -/
set_option linter.unusedSimpArgs false
set_option linter.unusedVariables false
set_option maxRecDepth 20000
namespace Go.Proofs.Ytlncjcbofgjcfaa

theorem from_ok {N q : Nat} {la : Option Addr} {lc : Nat} {L : List Op9} {m db : Nat} (hL : L.length ≤ 48) (hR : ∀ o ∈ L, InR o.key ∧ InR o.val) : ∀ fuel, FromOK N q la lc L m db fuel := by
  intro fuel
  induction fuel with
  | zero =>
    intro K h T ps p a oa Ss hf H B ok hpl hM k1 k0
    refine call50 ?_
    unfold F50
    refine callV_fn (linFull_call H hL fun h1 o1 => ?_)
    simp only [asBool_bool]
    have hTl : T.length ≤ L.length := range_len ok.nd ok.r
    have hfull : fullT L T := by
      intro y y0 y1 _
      apply Decidable.byContradiction
      intro hn
      have := range_len (T := y :: T) (n := L.length) (List.nodup_cons.2 ⟨hn, ok.nd⟩) (fun z hz => by
        rcases List.mem_cons.1 hz with rfl | hz
        · exact ⟨y0, y1⟩
        · exact ok.r z hz)
      simp at this
      omega
    rw [(fullB_iff L T).2 hfull]
    simp only [ifB_true]
    exact k1 [] oa h1 _ (.full hfull) (by simpa using H.old o1) (o1.fr _) (fun b hb => .inl hb)
  | succ fuel ih =>
    intro K h T ps p a oa Ss hf H B ok hpl hM k1 k0
    refine call50 ?_
    unfold F50
    have hTl : T.length ≤ L.length := range_len ok.nd ok.r
    refine callV_fn (linFull_call H hL fun h1 o1 => ?_)
    simp only [asBool_bool]
    refine ifB_mk (fun hfb => ?_) (fun hfb => ?_)
    · have hfull := (fullB_iff L T).1 hfb
      exact k1 [] oa h1 _ (.full hfull) (by simpa using H.old o1) (o1.fr _) (fun b hb => .inl hb)
    have hnf : ¬ fullT L T := fun h => by rw [(fullB_iff L T).2 h] at hfb; cases hfb
    have H1 := H.old o1
    obtain ⟨oc1, e1, own1⟩ := H1.obj
    simp only [nilC, asPtr_some]
    rw [add_lit]
    refine ldR e1 rfl ?_
    simp only [asMap]
    refine callV_fn (linState_call H1 hL (B.old o1) ok.inr (by omega) fun h7 o7 => ?_)
    simp only [asAgg_agg]
    refine sizeH_mk rfl (elemH_mk rfl (elemH_mk rfl ?_))
    have ok7 : Old h.size h h7 := o1.trans (o7.mono o1.1)
    have H7 := H.old ok7
    have e7 := (o7.2 _ (Array.getElem?_eq_some_iff.1 e1).1).trans e1
    refine ⟨cellR e7 rfl, ?_⟩
    have fl : ∀ {b : Nat}, linF q m db oa b → b < h.size := fun hb => H.lt hb
    refine callV_fn (meet_call H7.met (fun hin h12 o12 => ?_) (fun hn h12 M12 fr12 => ?_))
    · simp only [asBool_bool, Bool.not_false, ifB_true]
      have ok12 : Old h.size h h12 := ok7.trans (o12.mono ok7.1)
      obtain ⟨s, hs, es⟩ := List.mem_map.1 hin
      obtain ⟨hsok, hsbad⟩ := hM s hs
      obtain ⟨q1, q2⟩ := St.key_inj hsok ok es
      have hlen : T.length ≤ s.T.length := ok.nd.length_le_of_subset fun y hy => (q1 y).2 hy
      have hno : ∀ w, ¬ Can L T ps w := fun w hc => by
        have := hc.congr (T' := s.T) fun y => (q1 y).symm
        rw [show ps = s.ps from q2.symm] at this
        exact hsbad hlen w this
      exact k0 hno [] oa h12 (fun s hs => by simp at hs) (by simpa using H.old ok12) (ok12.fr _) (fun b hb => .inl hb)
    simp only [asBool_bool, Bool.not_true, ifB_false]
    -- what was met now
    have nqm := H7.ne_qm
    have nmd := H7.ne_md
    have s12 := fr12.1
    have H12 : LinS h12 N q la lc L m db oa T ((Ss ++ [(⟨T, ps⟩ : St)]).map (St.key L.length)) := by
      obtain ⟨oc, e, own⟩ := H7.obj
      have ol : ∀ b, b < h7.size → b ≠ m → h12[b]? = h7[b]? := fun b hb hne => fr12.2 b hb hne
      refine { H7 with obj := ⟨oc, (ol q (H7.lt (.inl rfl)) nqm).trans e, own.keep fun ad ea => ol _ (own.lt ad ea) (H7.ne_o ⟨ad, ea, rfl⟩).2.1⟩, sl := ?_, met := ?_, dn := (ol db (H7.lt (.inr (.inr (.inl rfl)))) (fun e => nmd e.symm)).trans H7.dn }
      · refine ⟨fun i v hi => ?_, H7.sl.len, H7.sl.cap⟩
        obtain ⟨ad, ea, hc⟩ := H7.sl.s i v hi
        have hl := H7.lo _ _ hi ad.block ⟨ad, ea, rfl⟩
        refine ⟨ad, ea, (cellAt_congr (by rw [add_block]; exact ol _ (by have := cellAt_lt hc; rwa [add_block] at this) (by have := H7.nm; omega))).trans hc⟩
      · rw [List.map_append]; exact M12
    have fr12' : Fr (linF q m db oa) h h12 := ⟨by have := ok7.1; omega, fun b hb hnb => (fr12.2 b (by have := ok7.1; omega) (fun e => hnb (.inr (.inl e)))).trans (ok7.2 b hb)⟩
    have B12 : BagF h12 p a ps := B.fr fr12' (fun hb => H.bag B hb (.inl rfl)) (fun b hb hb2 => H.bag B hb2 (.inr hb))
    obtain ⟨oc12, e12, own12⟩ := H12.obj
    refine ldR e12 rfl ?_
    simp only [asSlice_slice]
    rw [add_lit]
    refine ldR e12 rfl ?_
    simp only [asSlice_slice]
    refine callV_fn (next_call H12.sl (by omega) H12.dn fun na nn nc h25 R25 hn25 o25 => ?_)
    simp only [asSlice_slice]
    have hnl := R25.len
    generalize hX : nextL L T L.length = X at *
    have hXl : X.length ≤ 48 := by
      rw [← hX]
      unfold nextL
      have h1 := List.length_filter_le (freeF L T L.length) ((ints L.length).filter fun y => !decide (y ∈ T))
      have h2 := List.length_filter_le (fun y => !decide (y ∈ T)) (ints L.length)
      have h3 : (ints L.length).length = L.length := by simp [ints]
      omega
    have hM1 : Met L (T.length + 1) (Ss ++ [(⟨T, ps⟩ : St)]) := by
      intro s hs
      rcases List.mem_append.1 hs with hs | hs
      · exact hM.up (Nat.le_succ _) s hs
      · rw [List.mem_singleton.1 hs]
        exact ⟨ok, fun h => absurd h (by show ¬ T.length + 1 ≤ T.length; omega)⟩
    have fr25 : Fr (linF q m db oa) h h25 := fr12'.trans (o25.fr _)
    refine ⟨fun vs h' => ∃ w1 w2, ∃ i : Nat, ∃ oa' Us, vs = [w1, w2, iv i] ∧ i ≤ nn ∧ Fr (linF q m db oa) h25 h' ∧ (∀ b, blk oa' b → blk oa b ∨ h25.size ≤ b) ∧ LinS h' N q la lc L m db oa' T (((Ss ++ [(⟨T, ps⟩ : St)]) ++ Us).map (St.key L.length)) ∧ (∀ s ∈ Us, Bad L (T.length + 1) s) ∧ ∀ j (hj : j < X.length), j < i → ∀ w, ¬ Can L T ps (X[j] :: w),
      fun vs _ => (match vs with | [_, _, .int _ n] => nn - n.toNat | _ => 0),
      ⟨_, _, 0, oa, [], rfl, Nat.zero_le _, Fr.refl _ _, fun b hb => .inl hb, by simpa using H12.old o25, fun s hs => by simp at hs, fun j _ h => by omega⟩, ?_⟩
    rintro v31 v32 v33 g34 h35 ⟨w1, w2, i, oa', Us, e, hi, fr35, hb35, H35, hbad, hall⟩
    cases e
    simp only [asInt_int, asI_int]
    have s12h := fr12'.1
    have s25 := o25.1
    have s35 := fr35.1
    have fr35' : Fr (linF q m db oa) h h35 := fr25.trans2 fr35 fun b _ hb => hb
    refine ifB_dec (fun hlt => ?_) (fun hge => ?_)
    · have hi' : i < X.length := by omega
      refine ⟨by omega, hlt, ?_⟩
      obtain ⟨ad, ea, hc⟩ := R25.at hi'
      rw [ea]
      simp only [asPtr_some, Int.toNat_natCast, Nat.mul_one]
      have hc35 : cellAt h35 (ad.add i) = some (iv X[i]) := by
        refine (cellAt_congr ?_).trans hc
        rw [add_block]
        have h1 := cellAt_lt hc
        rw [add_block] at h1
        exact fr35.2 _ h1 (fun hb => by have := hn25 ad ea; have := fl hb; omega)
      refine ldH_mk hc35 ?_
      simp only [asInt_int]
      have hxX : X[i] ∈ nextL L T L.length := by rw [hX]; exact List.getElem_mem _
      have B35 : BagF h35 p a ps := B.fr fr35' (fun hb => H.bag B hb (.inl rfl)) (fun b hb hb2 => H.bag B hb2 (.inr hb))
      have up : ∀ b, linF q m db oa' b → b < h25.size → linF q m db oa b := by
        rintro b (h2 | h2 | h2 | h2) hb
        · exact .inl h2
        · exact .inr (.inl h2)
        · exact .inr (.inr (.inl h2))
        · rcases hb35 b h2 with h3 | h3
          · exact .inr (.inr (.inr h3))
          · omega
      refine callV_fn (try_call hL hR ih hf H35 B35 ok hpl (hM1.app hbad) hxX (fun wi oa2 h42 ks2 hcan H42 fr42 hb42 => ?_) (fun hno Us2 oa2 h42 hbad2 H42 fr42 hb42 => ?_))
      · simp only [asBool_bool, ifB_true]
        exact k1 (X[i] :: wi) oa2 h42 ks2 hcan H42 (fr35'.trans2 fr42 fun b hb hb2 => up b hb2 (by omega)) (fun b hb => by
          rcases hb42 b hb with h2 | h2
          · rcases hb35 b h2 with h3 | h3
            · exact .inl h3
            · right; omega
          · right; omega)
      · simp only [asBool_bool, ifB_false]
        rw [nat_wrap1 (by omega)]
        rw [List.append_assoc] at H42
        refine ⟨⟨_, _, i + 1, oa2, Us ++ Us2, rfl, by omega, fr35.trans2 fr42 (fun b hb hb2 => up b hb2 hb), fun b hb => ?_, H42, fun s hs => ?_, fun j hj hji w => ?_⟩, by show nn - ((i + 1 : Nat) : Int).toNat < nn - (i : Int).toNat; omega⟩
        · rcases hb42 b hb with h2 | h2
          · exact hb35 b h2
          · right; omega
        · exact (List.mem_append.1 hs).elim (hbad s) (hbad2 s)
        · by_cases e : j = i
          · subst e; exact hno w
          · exact hall j hj (by omega) w
    · have hno : ∀ w, ¬ Can L T ps w := by
        intro w hc
        cases hc with
        | full hfu => exact hnf hfu
        | step hx' ha' hd' hc' =>
          have hx2 := hx'
          rw [hX] at hx2
          obtain ⟨j, hj, rfl⟩ := List.getElem_of_mem hx2
          exact hall j hj (by omega) _ (.step hx' ha' hd' hc')
      rw [List.append_assoc] at H35
      refine k0 hno ([(⟨T, ps⟩ : St)] ++ Us) oa' h35 (fun s hs => ?_) H35 fr35' (fun b hb => (hb35 b hb).imp id fun h2 => by omega)
      rcases List.mem_append.1 hs with hs | hs
      · rw [List.mem_singleton.1 hs]
        exact ⟨ok, Nat.le_refl _, hno⟩
      · exact ⟨(hbad s hs).1, by have := (hbad s hs).2.1; omega, (hbad s hs).2.2⟩

/-- Is there an order? -/
def Lin (L : List Op9) : Prop := ∃ w, Can L [] [] w
theorem check_call {K : Value → Heap → Prop} {h : Heap} {a : Option Addr} {l c : Nat} {L : List Op9} (H : SlO h a l c L) (hl : l ≤ 48) (hR : ∀ o ∈ L, InR o.key ∧ InR o.val)
    (k1 : ∀ w a' c' h', Can L [] [] w → RI h' a' w.length c' w → Old h.size h h' → K (.tuple #[.slice a' w.length c', .bool true]) h') (k0 : ¬ Lin L → ∀ h', Old h.size h h' → K (.tuple #[.slice none 0 0, .bool false]) h') :
    CallH Try.prog 30 #[.slice a l c] h K := by
  refine call30 ?_
  unfold F30
  have hlen := H.len
  subst hlen
  refine ifB_dec (fun hgt => by omega) (fun hle => ?_)
  have M0 := MetF.new h
  have old0 : Old h.size h (h.push (.map #[] 0)) := ⟨by simp, fun b hb => push_old _ _ _ hb⟩
  have s0 : (h.push (.map #[] 0)).size = h.size + 1 := by simp
  generalize h.push (.map #[] 0) = h0 at *
  refine make_bool (l := L.length) (by omega) ?_
  simp only [asSlice_slice]
  have p1 := pushed h0 (inRow L.length []).toArray 4
  generalize h0.push (.cells (inRow L.length []).toArray 4) = h1 at *
  have s1 := p1.size
  have p2 := pushed h1 #[.slice a L.length c, .map (some h.size), .slice (some ⟨h0.size, 0, none⟩) L.length L.length, .slice none 0 0] 96
  generalize h1.push (.cells #[.slice a L.length c, .map (some h.size), .slice (some ⟨h0.size, 0, none⟩) L.length L.length, .slice none 0 0] 96) = h2 at *
  have s2 := p2.size
  have p3 := pushed h2 #[.slice none 0 0] 25
  generalize h2.push (.cells #[.slice none 0 0] 25) = h3 at *
  have s3 := p3.size
  have o3 : Old h.size h h3 := old0.trans ((p1.toOld.mono (by omega)).trans ((p2.toOld.mono (by omega)).trans (p3.toOld.mono (by omega))))
  have g3 : LinS h3 h.size h1.size a c L h.size h0.size none [] ([].map (St.key L.length)) := by
    refine ⟨⟨0, (p3.old _ (by omega)).trans p2.new, Own.nil _ _ _⟩, H.old o3, ?_, ?_, fun i v hi b hb => ?_, by omega, Nat.le_refl _, by omega, fun b hb => absurd hb (blk_none b)⟩
    · exact M0.keep ((p3.old _ (by omega)).trans ((p2.old _ (by omega)).trans (p1.old _ (by omega))))
    · exact (p3.old _ (by omega)).trans ((p2.old _ (by omega)).trans p1.new)
    · obtain ⟨ad, ea, eb⟩ := hb
      obtain ⟨ad', e', hc⟩ := H.s i v hi
      rw [ea] at e'; cases e'
      have := cellAt_lt hc
      rw [add_block] at this
      omega
  have b3 : BagF h3 h2.size none [] := ⟨0, p3.new, Own.nil _ _ _, List.Pairwise.nil⟩
  refine callV_fn (from_ok (by omega) hR L.length (Ss := []) (by simp) g3 b3 ⟨fun y hy => by simp at hy, List.nodup_nil, fun p hp => by simp at hp⟩ (Nat.le_refl _) (fun s hs => by simp at hs) (fun w oa' h6 ks' hcan g6 fr6 hb6 => ?_) (fun hno Us oa' h6 hbad g6 fr6 hb6 => ?_))
  · simp only [asBool_bool, Bool.not_true, ifB_false, nilC]
    obtain ⟨oc, e6, own6⟩ := g6.obj
    refine ldR e6 rfl ?_
    simp only [asSlice_slice, List.nil_append] at own6 ⊢
    refine k1 w oa' oc h6 hcan own6.ri ⟨by have := fr6.1; have := o3.1; omega, fun b hb => (fr6.2 b (by have := o3.1; omega) (fun hn => by have := g3.ge hn; omega)).trans (o3.2 b hb)⟩
  · simp only [asBool_bool, Bool.not_false, ifB_true]
    refine k0 (fun ⟨w, hw⟩ => hno w hw) h6 ⟨by have := fr6.1; have := o3.1; omega, fun b hb => (fr6.2 b (by have := o3.1; omega) (fun hn => by have := g3.ge hn; omega)).trans (o3.2 b hb)⟩

/-- In a history all numbers are such as may be. -/
theorem history_call {K : Value → Heap → Prop} {h : Heap} {a : Option Addr} {l c : Nat} {es : List Ev8} (H : SV h a l c es) (hl : l ≤ 48) (hR : ∀ o ∈ opsE es, InR o.key ∧ InR o.val)
    (k1 : RightH es → Lin (opsE es) → ∀ h', Old h.size h h' → K (.tuple #[.bool true, iv 0]) h') (k2 : RightH es → ¬ Lin (opsE es) → ∀ h', Old h.size h h' → K (.tuple #[.bool false, iv 0]) h') (k0 : ¬ RightH es → ∀ h', Old h.size h h' → K (.tuple #[.bool false, iv 11]) h') :
    CallH Try.prog 25 #[.slice a l c] h K := by
  refine call25 ?_
  unfold F25
  have hlen := H.len
  have hol := opsE_len_le es
  refine callV_fn (opers_call H (by omega) (fun hRi a' c' h1 S1 o1 => ?_) (fun hRi h1 o1 => ?_))
  · simp only [asTup_tuple]
    refine elemH_mk rfl ?_
    simp only [asSlice_slice]
    refine elemH_mk rfl ?_
    simp only [asInt_int]
    rw [show ((0 : Int) != 0) = false from rfl]
    simp only [ifB_false]
    refine callV_fn (check_call S1 (by omega) hR (fun w a2 c2 h2 hcan R2 o2 => ?_) (fun hno h2 o2 => ?_))
    · simp only [asTup_tuple]
      refine elemH_mk rfl ?_
      simp only [asSlice_slice]
      refine elemH_mk rfl ?_
      simp only [asBool_bool]
      exact k1 hRi ⟨w, hcan⟩ h2 (o1.trans (o2.mono o1.1))
    · simp only [asTup_tuple]
      refine elemH_mk rfl ?_
      simp only [asSlice_slice]
      refine elemH_mk rfl ?_
      simp only [asBool_bool]
      exact k2 hRi hno h2 (o1.trans (o2.mono o1.1))
  · simp only [asTup_tuple]
    refine elemH_mk rfl ?_
    simp only [asSlice_slice]
    refine elemH_mk rfl ?_
    simp only [asInt_int]
    rw [show ((11 : Int) != 0) = true from rfl]
    simp only [ifB_true]
    exact k0 hRi h1 o1
end Go.Proofs.Ytlncjcbofgjcfaa
end
section
/- What histories of one thread, and prefixes, have to do with orders: plain facts. -/
set_option linter.unusedSimpArgs false
set_option linter.unusedVariables false
set_option maxRecDepth 20000
namespace Go.Proofs.Ytlncjcbofgjcfaa

theorem ints_mem {n : Nat} {y : Int} : y ∈ ints n ↔ 0 ≤ y ∧ y < n := mem_ints
theorem ints_snoc (k : Nat) : ints (k + 1) = ints k ++ [(k : Int)] := by unfold ints; rw [List.range_succ]; simp
/-! ### one behind the other -/
def legD : List Op9 → List Pr → Option (List Pr)
  | [], ps => some ps
  | o :: r, ps => (doP ps (opC o) (opA o)).bind (legD r)
def Alone (L : List Op9) : Prop := ∀ i (hi : i < L.length), (L[i]).fr = 2 * i ∧ (L[i]).to = 2 * i + 1
theorem alone_next {L : List Op9} (hA : Alone L) {i : Nat} (hi : i < L.length) {x : Int} : x ∈ nextL L (ints i) L.length ↔ x = i := by
  rw [mem_nextL]
  constructor
  · rintro ⟨⟨x0, x1⟩, x2, x3⟩
    rw [ints_mem] at x2
    apply Decidable.byContradiction
    intro hne
    have hb := x3 i (by omega) (by omega)
    unfold blocks at hb
    obtain ⟨k, rfl⟩ : ∃ k : Nat, x = k := ⟨x.toNat, by omega⟩
    have hk : k < L.length := by omega
    rw [opAt_nat hi, opAt_nat hk] at hb
    have e1 := hA i hi
    have e2 := hA k hk
    have : ahead L[i] L[k] = true := by
      unfold ahead
      rw [e1.2, e2.1, decide_eq_true (by omega), decide_eq_true (by omega)]; rfl
    rw [this, decide_eq_true (by omega), decide_eq_false (by rw [ints_mem]; omega)] at hb
    cases hb
  · rintro rfl
    refine ⟨⟨by omega, by omega⟩, by rw [ints_mem]; omega, fun j j0 j1 => ?_⟩
    unfold blocks
    by_cases hj : j ∈ ints i
    · rw [decide_eq_true hj]; simp
    · rw [ints_mem] at hj
      obtain ⟨k, rfl⟩ : ∃ k : Nat, j = k := ⟨j.toNat, by omega⟩
      have hk : k < L.length := by omega
      rw [opAt_nat hi, opAt_nat hk]
      have e1 := hA i hi
      have e2 := hA k hk
      have : ahead L[k] L[i] = false := by
        unfold ahead
        rw [e1.1, e2.2, decide_eq_false (show ¬ (2 * (k : Int) + 1 < 2 * (i : Int)) by omega), Bool.and_false]
      rw [this]; simp
theorem alone_can {L : List Op9} (hA : Alone L) : ∀ n i, i + n = L.length → ∀ ps, (∃ w, Can L (ints i) ps w) ↔ (legD (L.drop i) ps).isSome = true := by
  intro n
  induction n with
  | zero =>
    intro i hi ps
    rw [List.drop_of_length_le (by omega)]
    refine ⟨fun _ => rfl, fun _ => ⟨[], .full fun y y0 y1 _ => ints_mem.2 ⟨y0, by omega⟩⟩⟩
  | succ n ih =>
    intro i hi ps
    have hlt : i < L.length := by omega
    have hd : L.drop i = L[i] :: L.drop (i + 1) := List.drop_eq_getElem_cons hlt
    have hto : 0 ≤ (L[i]).to := by rw [(hA i hlt).2]; omega
    have hans : ∀ ps, answersP (opAt L i) ps = [opA L[i]] := fun ps => by
      unfold answersP
      rw [opAt_nat hlt, if_pos hto]
    rw [hd]
    show _ ↔ ((doP ps (opC L[i]) (opA L[i])).bind (legD (L.drop (i + 1)))).isSome = true
    constructor
    · rintro ⟨w, hc⟩
      cases hc with
      | full hf =>
        have := hf i (by omega) (by omega) (by rw [opAt_nat hlt]; exact hto)
        rw [ints_mem] at this; omega
      | step hx ha hdo hc =>
        have := (alone_next hA hlt).1 hx
        subst this
        rw [hans, List.mem_singleton] at ha
        subst ha
        rw [opAt_nat hlt] at hdo
        rw [hdo]
        rw [← ints_snoc] at hc
        exact (ih (i + 1) (by omega) _).1 ⟨_, hc⟩
    · intro h
      cases hdo : doP ps (opC L[i]) (opA L[i]) with
      | none => rw [hdo] at h; cases h
      | some qs =>
        rw [hdo] at h
        obtain ⟨w, hw⟩ := (ih (i + 1) (by omega) qs).2 h
        rw [ints_snoc] at hw
        exact ⟨_, .step ((alone_next hA hlt).2 rfl) (a := opA L[i]) (by rw [hans]; simp) (by rw [opAt_nat hlt]; exact hdo) hw⟩
theorem lin_alone {L : List Op9} (hA : Alone L) : Lin L ↔ (legD L []).isSome = true := by
  have := alone_can hA L.length 0 (by omega) []
  rw [List.drop_zero] at this
  exact this

/-! ### prefixes -/
theorem ahead_pend {a b : Op9} (h : a.to < 0) : ahead a b = false := by
  unfold ahead
  rw [decide_eq_false (show ¬ 0 ≤ a.to by omega)]; rfl
theorem ahead_late {a b : Op9} (h : b.fr ≤ a.to) : ahead a b = false := by
  unfold ahead
  rw [decide_eq_false (show ¬ a.to < b.fr by omega), Bool.and_false]
theorem opAt_app {L M : List Op9} {x : Int} (h : x.toNat < L.length) : opAt (L ++ M) x = opAt L x := by
  unfold opAt
  rw [List.getD_eq_getElem?_getD, List.getElem?_append_left h, List.getD_eq_getElem?_getD]
/-- A call that isn't answered, and came last, may be left out. -/
theorem can_drop {L : List Op9} {o : Op9} (ho : ∀ a ∈ L, a.to < o.fr) {T : List Int} {ps : List Pr} {w : List Int} (H : Can (L ++ [o]) T ps w) : (∀ y ∈ T, y ≠ (L.length : Int)) → ∃ v, Can L T ps v := by
  generalize hM : L ++ [o] = M at H
  induction H with
  | full h =>
    intro hT
    subst hM
    exact ⟨[], .full fun y y0 y1 yt => h y y0 (by rw [List.length_append]; omega) (by rw [opAt_app (by omega)]; exact yt)⟩
  | step hx ha hd h ih =>
    rename_i T ps qs x a w
    intro hT
    subst hM
    obtain ⟨⟨x0, x1⟩, x2, x3⟩ := mem_nextL.1 hx
    rw [List.length_append, List.length_singleton] at x1 x3
    by_cases e : x = (L.length : Int)
    · refine ⟨[], .full fun y y0 y1 yt => ?_⟩
      apply Decidable.byContradiction
      intro hn
      have hb := x3 y y0 (by omega)
      unfold blocks at hb
      have hin : opAt L y ∈ L := by
        unfold opAt
        rw [List.getD_eq_getElem?_getD, List.getElem?_eq_getElem (show y.toNat < L.length by omega)]
        exact List.getElem_mem _
      have e2 : opAt (L ++ [o]) x = o := by
        unfold opAt
        rw [e, Int.toNat_natCast, List.getD_eq_getElem?_getD]; simp
      rw [opAt_app (by omega), e2] at hb
      have : ahead (opAt L y) o = true := by
        unfold ahead
        rw [decide_eq_true yt, decide_eq_true (ho _ hin)]; rfl
      rw [this, decide_eq_true (by omega), decide_eq_false hn] at hb
      cases hb
    · have hx' : x.toNat < L.length := by omega
      obtain ⟨v, hv⟩ := ih fun y hy => by
        rcases List.mem_append.1 hy with hy | hy
        · exact hT y hy
        · rw [List.mem_singleton.1 hy]; exact e
      rw [opAt_app hx'] at ha hd
      refine ⟨x :: v, .step (mem_nextL.2 ⟨⟨x0, by omega⟩, x2, fun j j0 j1 => ?_⟩) ha hd hv⟩
      have hb := x3 j j0 (by omega)
      unfold blocks at hb ⊢
      rw [opAt_app hx', opAt_app (by omega)] at hb
      exact hb
theorem doP_noop {ps qs : List Pr} {c a : C3} (h : doP ps c a = some qs) (h0 : a.o ≠ 0) (h2 : ¬ (a.o = 2 ∧ c.o = 1)) : qs = ps := by
  unfold doP at h
  split at h
  · rename_i hf
    split at h
    · cases h; rfl
    · split at h
      · split at h
        · cases h; rfl
        · cases h
      · split at h
        · split at h
          · rename_i h3 h4 _ hc
            exfalso
            apply h2
            refine ⟨?_, hc⟩
            unfold fitsB rightA at hf
            simp only [Bool.and_eq_true, Bool.or_eq_true, beq_iff_eq] at hf
            omega
          · cases h; rfl
        · cases h
  · cases h
/-- An answer that came last may be left out. -/
theorem can_unans {L : List Op9} {k : Nat} (hk : k < L.length) {n : Int} {o : Op9} (hn : 0 ≤ n) (hfr : ∀ a ∈ L, a.fr < n) (e1 : (L[k]).to < 0) (e2 : o.to = n) (e3 : opC o = opC L[k]) (e4 : o.fr = (L[k]).fr)
    {T : List Int} {ps : List Pr} {w : List Int} (H : Can (L.set k o) T ps w) : ∀ {S : List Int}, (∀ y, y ≠ (k : Int) → (y ∈ S ↔ y ∈ T)) → ((k : Int) ∈ S → (k : Int) ∈ T) → ∃ v, Can L S ps v := by
  have hat : ∀ y : Int, 0 ≤ y → y ≠ k → opAt (L.set k o) y = opAt L y := by
    intro y y0 hy
    unfold opAt
    rw [List.getD_eq_getElem?_getD, List.getElem?_set_ne (by omega), List.getD_eq_getElem?_getD]
  have hatk : opAt (L.set k o) k = o := by
    unfold opAt
    rw [Int.toNat_natCast, List.getD_eq_getElem?_getD, List.getElem?_set_self hk]; rfl
  have hatL := opAt_nat hk
  generalize hM : L.set k o = M at H
  have hMl : M.length = L.length := by rw [← hM, List.length_set]
  induction H with
  | full h =>
    intro S q1 q2
    subst hM
    refine ⟨[], .full fun y y0 y1 yt => ?_⟩
    have hy : y ≠ k := fun e => by rw [e, hatL] at yt; omega
    exact (q1 y hy).2 (h y y0 (by rw [hMl]; exact y1) (by rw [hat y y0 hy]; exact yt))
  | step hx ha hd h ih =>
    rename_i T ps qs x a w
    intro S q1 q2
    subst hM
    obtain ⟨⟨x0, x1⟩, x2, x3⟩ := mem_nextL.1 hx
    have hnx : x ∈ nextL L S L.length := by
      refine mem_nextL.2 ⟨⟨x0, by omega⟩, fun hs => ?_, fun j j0 j1 => ?_⟩
      · by_cases e : x = k
        · subst e; exact x2 (q2 hs)
        · exact x2 ((q1 x e).1 hs)
      · by_cases ej : j = k
        · subst ej
          unfold blocks
          rw [hatL, ahead_pend e1]; simp
        · have hb := x3 j j0 (by omega)
          unfold blocks at hb ⊢
          rw [hat j j0 ej] at hb
          have efr : (opAt (L.set k o) x).fr = (opAt L x).fr := by
            by_cases e : x = k
            · rw [e, hatk, hatL, e4]
            · rw [hat x x0 e]
          have : ahead (opAt L j) (opAt (L.set k o) x) = ahead (opAt L j) (opAt L x) := by unfold ahead; rw [efr]
          rw [this] at hb
          rw [show decide (j ∈ S) = decide (j ∈ T) by rw [decide_eq_decide]; exact q1 j ej]
          exact hb
    by_cases e : x = k
    · subst e
      rw [hatk] at ha hd
      unfold answersP at ha
      rw [if_pos (by omega), List.mem_singleton] at ha
      subst ha
      by_cases hskip : (opA o).o ≠ 0 ∧ ¬ ((opA o).o = 2 ∧ (opC o).o = 1)
      · have := doP_noop hd hskip.1 hskip.2
        subst this
        refine ih (fun y hy => ?_) (fun hs => ?_)
        · rw [q1 y hy, List.mem_append, List.mem_singleton]; simp [hy]
        · exact List.mem_append_left _ (q2 hs)
      · have hf : fitsB (opC o) (opA o) = true := by
          apply Decidable.byContradiction
          intro hf
          unfold doP at hd
          rw [if_neg hf] at hd; cases hd
        have hf0 := hf
        unfold fitsB rightA at hf
        simp only [Bool.and_eq_true, Bool.or_eq_true, beq_iff_eq] at hf
        obtain ⟨v, hv⟩ := ih (S := S ++ [(k : Int)]) (fun y hy => by rw [List.mem_append, List.mem_append, q1 y hy]) (fun hs => by simp)
        refine ⟨k :: v, .step hnx ?_ (a := opA o) (by rw [hatL, ← e3]; exact hd) hv⟩
        rw [hatL]
        unfold answersP
        rw [if_neg (by omega)]
        have ec : (L[k]).op = (opC o).o := by rw [e3]; rfl
        by_cases ha0 : (opA o).o = 0
        · have hb := hf.2.2
          have hc0 : (opC o).o = 0 := by
            rw [ha0] at hb
            simpa using hb
          rw [if_pos (by omega), List.mem_singleton]
          have h0 := hf.2.1
          generalize opA o = A at *
          cases A
          simp only at ha0 h0 ⊢
          rw [C3.mk.injEq]
          omega
        · have h2 : (opA o).o = 2 ∧ (opC o).o = 1 := by
            apply Decidable.byContradiction
            intro h; exact hskip ⟨ha0, h⟩
          rw [if_neg (by omega), if_neg (by omega)]
          have hm : ((opA o).k, (opA o).v) ∈ minsP ps := by
            apply Decidable.byContradiction
            intro hm
            unfold doP at hd
            rw [if_pos hf0, if_neg ha0, if_neg (by omega), if_neg (by omega), if_neg hm] at hd
            cases hd
          refine List.mem_map.2 ⟨_, hm, ?_⟩
          have h2' := h2.1
          generalize opA o = A at *
          cases A
          simp only at h2' ⊢
          rw [h2']
    · rw [hat x x0 e] at ha hd
      obtain ⟨v, hv⟩ := ih (S := S ++ [x]) (fun y hy => by rw [List.mem_append, List.mem_append, q1 y hy]) (fun hs => by
        rcases List.mem_append.1 hs with hs | hs
        · exact List.mem_append_left _ (q2 hs)
        · exact List.mem_append_right _ hs)
      exact ⟨x :: v, .step hnx ha hd hv⟩
end Go.Proofs.Ytlncjcbofgjcfaa
end
section
/- The document's search: what may come next, is there an order. -/
set_option linter.unusedSimpArgs false
set_option linter.unusedVariables false
set_option maxRecDepth 20000
namespace Go.Proofs.Ytlncjcbofgjcfaa

theorem ints_succ (k : Nat) : ints (k + 1) = ints k ++ [(k : Int)] := by unfold ints; rw [List.range_succ]; simp
def condN (L : List Op9) (T : List Int) (l : Nat) (y : Int) : Bool := !decide (y ∈ T) && freeF L T l y
theorem nextL_filter (L : List Op9) (T : List Int) (l : Nat) : nextL L T l = (ints l).filter (condN L T l) := by
  unfold nextL condN
  rw [List.filter_filter]
  congr 1
  funext y
  rw [Bool.and_comm]
theorem opAt_get {L : List Op9} {i : Nat} (h : i < L.length) : opAt L (i : Int) = L[i] := by
  unfold opAt
  rw [Int.toNat_natCast, List.getD_eq_getElem?_getD, List.getElem?_eq_getElem h]; rfl
theorem tri {v w : Value} {b b' : Bool} (h : b = b') : [v, w, .bool b] = [v, w, .bool b'] := by rw [h]
theorem refNext_call {K : Value → Heap → Prop} {h : Heap} {a : Option Addr} {l c b : Nat} {L : List Op9} {T : List Int} (H : SlO h a l c L) (hl : l ≤ 1000) (hb : h[b]? = some (.cells (inRow l T).toArray 4))
    (k : ∀ a' n' c' h', RI h' a' n' c' (nextL L T l) → Old h.size h h' → K (.slice a' n' c') h') : CallH Try.prog 64 #[.slice a l c, .slice (some ⟨b, 0, none⟩) l l] h K := by
  refine call64 ?_
  unfold F64
  have hlen := H.len
  have hbl := (Array.getElem?_eq_some_iff.1 hb).1
  refine ⟨fun vs h' => ∃ w1 w2, ∃ i : Nat, ∃ o n c', vs = [.slice o n c', iv i, w1, w2] ∧ i ≤ l ∧ n ≤ i ∧ Old h.size h h' ∧ OwnI h' o n c' ((ints i).filter (condN L T l)) ∧ (∀ b, blk o b → h.size ≤ b),
    fun vs _ => (match vs with | [_, .int _ n, _, _] => l - n.toNat | _ => 0), ⟨_, _, 0, none, 0, 0, rfl, Nat.zero_le _, Nat.le_refl _, Old.refl _ _, Own.nil _ _ _, fun b hb => absurd hb (blk_none b)⟩, ?_⟩
  rintro v2 v3 v4 v5 g6 h7 ⟨w1, w2, i, o, n, c', e, hi, hn, o7, own7, hb7⟩
  cases e
  simp only [asInt_int, asSlice_slice]
  refine ifB_dec (fun hlt => ?_) (fun hge => ?_)
  rotate_left
  · obtain rfl : i = l := by omega
    have := k o n c' h7
    rw [nextL_filter] at this
    exact this own7.ri o7
  have hi' : i < L.length := by omega
  have hsucc : (ints (i + 1)).filter (condN L T l) = (ints i).filter (condN L T l) ++ (if condN L T l i then [(i : Int)] else []) := by
    rw [ints_succ, List.filter_append]
    congr 1
    cases hc : condN L T l i <;> simp [hc]
  have hb' : h7[b]? = some (.cells (inRow l T).toArray 4) := (o7.2 _ hbl).trans hb
  refine ⟨fun vs h' => ∃ o n c' w1 w2, vs = [.slice o n c', w1, w2] ∧ n ≤ i + 1 ∧ Old h.size h h' ∧ OwnI h' o n c' ((ints (i + 1)).filter (condN L T l)) ∧ (∀ b, blk o b → h.size ≤ b), ?_, ?_⟩
  rotate_left
  · rintro v106 v107 v108 g109 h110 ⟨o2, n2, c2, w3, w4, e, hn2, o110, own110, hb110⟩
    cases e
    rw [nat_wrap1 (by omega)]
    exact ⟨⟨_, _, i + 1, o2, n2, c2, rfl, by omega, hn2, o110, own110, hb110⟩, by show l - ((i + 1 : Nat) : Int).toNat < l - (i : Int).toNat; omega⟩
  refine ⟨fun vs h' => (∃ w, vs = [.bool (!decide ((i : Int) ∈ T)), w]) ∧ h' = h7, ?_, ?_⟩
  · refine ifB_dec (fun hq => by omega) (fun hq => ?_)
    refine ⟨by omega, hlt, ?_⟩
    simp only [asPtr_some]
    refine ldH_mk (mark_at hb' (by omega) hlt) ?_
    simp only [asBool_bool]
    exact ⟨⟨_, rfl⟩, by trivial⟩
  rintro v16 v17 g18 h19 ⟨⟨_, e⟩, rfl⟩
  cases e
  refine ⟨fun vs h' => ∃ j : Nat, vs = [.bool (!decide ((i : Int) ∈ T) && (ints j).all fun j => !blocks L T i j), iv j] ∧ j ≤ l ∧ Old h19.size h19 h', fun vs _ => (match vs with | [_, .int _ n] => l - n.toNat | _ => 0), ⟨0, by simp [ints], Nat.zero_le _, Old.refl _ _⟩, ?_⟩
  rintro v22 v23 g24 h25 ⟨j, e, hj, o25⟩
  cases e
  simp only [asInt_int, asBool_bool]
  have ok25 : Old h.size h h25 := o7.trans (o25.mono o7.1)
  refine ifB_dec (fun hjlt => ?_) (fun hjge => ?_)
  · have hj' : j < L.length := by omega
    have hall : (!decide ((i : Int) ∈ T) && (ints (j + 1)).all fun j => !blocks L T i j) = ((!decide ((i : Int) ∈ T) && (ints j).all fun j => !blocks L T i j) && !blocks L T i j) := by
      rw [ints_succ, List.all_append]; simp [Bool.and_assoc]
    refine ⟨fun vs h' => vs = [.bool (!decide ((i : Int) ∈ T) && (ints (j + 1)).all fun j => !blocks L T i j)] ∧ Old h19.size h19 h', ?_, ?_⟩
    rotate_left
    · rintro v92 g93 h94 ⟨e, o94⟩
      cases e
      rw [nat_wrap1 (by omega)]
      exact ⟨⟨j + 1, rfl, by omega, o94⟩, by show l - ((j + 1 : Nat) : Int).toNat < l - (j : Int).toNat; omega⟩
    refine ⟨fun vs h' => (∃ w w', vs = [w, w', .bool (blocks L T i j)]) ∧ Old h19.size h19 h', ?_, ?_⟩
    · refine ifB_mk (fun hne => ?_) (fun heq => ?_)
      · have hne' : (j : Int) ≠ i := by simpa using hne
        refine ifB_dec (fun hq => by omega) (fun hq => ?_)
        refine ⟨by omega, hjlt, ?_⟩
        simp only [asPtr_some]
        have hb25 : h25[b]? = some (.cells (inRow l T).toArray 4) := (ok25.2 _ hbl).trans hb
        refine ldH_mk (mark_at hb25 (by omega) hjlt) ?_
        simp only [asBool_bool]
        refine ifB_mk (fun hjT => ?_) (fun hjT => ?_)
        · have hjT' : ¬ (j : Int) ∈ T := by simpa using hjT
          obtain ⟨ad, rfl, d0, d1⟩ := (H.old ok25).at hj'
          obtain ⟨ad', e', f0, f1⟩ := (H.old ok25).at hi'
          cases e'
          refine ⟨by omega, hjlt, ?_⟩
          simp only [asPtr_some, Int.toNat_natCast]
          refine ldH_mk d0 (ldH_mk (d1 1 _ rfl) (ldH_mk (d1 2 _ rfl) (ldH_mk (d1 3 _ rfl) (ldH_mk (d1 4 _ rfl) (ldH_mk (d1 5 _ rfl) (ldH_mk (d1 6 _ rfl) (ldH_mk (d1 7 _ rfl) (ldH_mk (d1 8 _ rfl) ?_))))))))
          refine ⟨by omega, hlt, ?_⟩
          refine ldH_mk f0 (ldH_mk (f1 1 _ rfl) (ldH_mk (f1 2 _ rfl) (ldH_mk (f1 3 _ rfl) (ldH_mk (f1 4 _ rfl) (ldH_mk (f1 5 _ rfl) (ldH_mk (f1 6 _ rfl) (ldH_mk (f1 7 _ rfl) (ldH_mk (f1 8 _ rfl) ?_))))))))
          refine callV_fn (ahead14_call L[j] L[i] fun h84 o84 => ?_)
          simp only [asBool_bool]
          have : blocks L T i j = ahead L[j] L[i] := by
            unfold blocks
            rw [decide_eq_true hne', decide_eq_false hjT', opAt_get hj', opAt_get hi']; rfl
          exact ⟨⟨_, _, tri this.symm⟩, o25.trans (o84.mono o25.1)⟩
        · have hjT' : (j : Int) ∈ T := by simpa using hjT
          have : blocks L T i j = false := by
            unfold blocks
            rw [decide_eq_true hjT']; simp
          exact ⟨⟨_, _, tri this.symm⟩, o25⟩
      · have heq' : (j : Int) = i := by simpa using heq
        have : blocks L T i j = false := by
          unfold blocks
          rw [decide_eq_false (fun h => h heq')]; rfl
        exact ⟨⟨_, _, tri this.symm⟩, o25⟩
    · rintro v86 v87 v88 g89 h90 ⟨⟨_, _, e⟩, o90⟩
      cases e
      simp only [asBool_bool]
      refine ifB_mk (fun hq => ⟨by rw [hall, hq]; simp, o90⟩) (fun hq => ⟨by rw [hall, hq]; simp, o90⟩)
  · obtain rfl : j = l := by omega
    have hcond : condN L T j i = (!decide ((i : Int) ∈ T) && (ints j).all fun j => !blocks L T i j) := rfl
    rw [← hcond]
    have own25 : OwnI h25 o n c' ((ints i).filter (condN L T j)) := own7.keep fun ad e => o25.2 _ (own7.lt ad e)
    refine ifB_mk (fun hq => ?_) (fun hq => ?_)
    · rw [if_pos hq] at hsucc
      refine app_int own25 (by omega) ?_
      intro a2 c2 h102 own102 s102 old102 hor
      simp only [asSlice_slice]
      refine ⟨a2, n + 1, c2, _, _, rfl, by omega, ⟨by have := ok25.1; omega, fun b hb => ?_⟩, by rw [hsucc]; exact own102, fun b hb => ?_⟩
      · exact (old102 b (by have := ok25.1; omega) (fun ad e eb => by have := hb7 b ⟨ad, e, eb⟩; omega)).trans (ok25.2 b hb)
      · obtain ⟨ad, ea, eb⟩ := hb
        rcases hor with h2 | ⟨bb, h2, h3⟩
        · rw [h2] at ea; exact hb7 b ⟨ad, ea, eb⟩
        · rw [h2] at ea; cases ea
          have := ok25.1
          simp only at eb
          omega
    · rw [if_neg (by rw [hq]; simp), List.append_nil] at hsucc
      exact ⟨o, n, c', _, _, rfl, by omega, ok25, by rw [hsucc]; exact own25, hb7⟩

/-! ### what may be found, as the document has it -/
def stepR (o : Op9) (rs : List Pr) : List (List Pr) :=
  if 0 ≤ o.to then (doR rs (opC o) (opA o)).toList else if o.op = 0 then (doR rs (opC o) ⟨0, 0, 0⟩).toList else if o.op = 1 then (rs.filter fun p => p.1 == minK rs).map fun p => rs.erase p else []
inductive CanR (L : List Op9) : List Int → List Pr → Prop
  | full {T : List Int} {rs : List Pr} (h : fullT L T) : CanR L T rs
  | step {T : List Int} {rs ts : List Pr} {x : Int} (hx : x ∈ nextL L T L.length) (hd : ts ∈ stepR (opAt L x) rs) (h : CanR L (T ++ [x]) ts) : CanR L T rs
theorem mem_minsP_iff {ps : List Pr} (hS : Srt ps) {p : Pr} : p ∈ minsP ps ↔ p ∈ ps ∧ p.1 = leastP ps := by
  cases hps : ps with
  | nil => simp [minsP]
  | cons x r =>
    have := minsP_mem hS hps p
    rw [hps] at this
    exact this
theorem pair_step {o : Op9} {ps rs : List Pr} (hS : Srt ps) (hp : ps.Perm rs) (hop : rightC (opC o) = true) {a : C3} {qs : List Pr} (ha : a ∈ answersP o ps) (hd : doP ps (opC o) a = some qs) : ∃ ts, ts ∈ stepR o rs ∧ Srt qs ∧ qs.Perm ts := by
  have key : ∃ ts, doR rs (opC o) a = some ts ∧ Srt qs ∧ qs.Perm ts := by
    rcases do_perm hS hp (opC o) a with ⟨h1, h2⟩ | ⟨q2, ts, h1, h2, h3, h4⟩
    · rw [h1] at hd; cases hd
    · rw [h1] at hd; cases hd; exact ⟨ts, h2, h3, h4⟩
  unfold stepR
  unfold answersP at ha
  by_cases h0 : 0 ≤ o.to
  · rw [if_pos h0] at ha ⊢
    rw [List.mem_singleton] at ha; subst ha
    obtain ⟨ts, e, h⟩ := key
    exact ⟨ts, by rw [e]; simp, h⟩
  · rw [if_neg h0] at ha ⊢
    by_cases h1 : o.op = 0
    · rw [if_pos h1] at ha ⊢
      rw [List.mem_singleton] at ha; subst ha
      obtain ⟨ts, e, h⟩ := key
      exact ⟨ts, by rw [e]; simp, h⟩
    · rw [if_neg h1] at ha ⊢
      by_cases h2 : o.op = 2
      · rw [if_pos h2] at ha; simp at ha
      · rw [if_neg h2] at ha
        have h3 : o.op = 1 := by
          unfold rightC opC at hop
          simp only [Bool.or_eq_true, Bool.and_eq_true, beq_iff_eq] at hop
          omega
        rw [if_pos h3]
        obtain ⟨p, hpm, rfl⟩ := List.mem_map.1 ha
        obtain ⟨m1, m2⟩ := (mem_minsP_iff hS).1 hpm
        rw [minK_perm hS hp] at m2
        have e : qs = ps.erase p := by
          unfold doP at hd
          split at hd
          · rw [if_neg (show ¬ ((2 : Int) = 0) by decide), if_neg (show ¬ ((2 : Int) = 1) by decide), if_neg (show ¬ ((2 : Int) = 3) by decide), if_pos (show (opC o).o = 1 from h3)] at hd
            cases hd; rfl
          · cases hd
        subst e
        refine ⟨rs.erase p, List.mem_map.2 ⟨p, List.mem_filter.2 ⟨hp.mem_iff.1 m1, by simpa using m2⟩, rfl⟩, erase_srt hS _, hp.erase _⟩
theorem step_pair {o : Op9} {ps rs : List Pr} (hS : Srt ps) (hp : ps.Perm rs) (hop : rightC (opC o) = true) {ts : List Pr} (ht : ts ∈ stepR o rs) : ∃ a qs, a ∈ answersP o ps ∧ doP ps (opC o) a = some qs ∧ Srt qs ∧ qs.Perm ts := by
  have key : ∀ a, doR rs (opC o) a = some ts → ∃ qs, doP ps (opC o) a = some qs ∧ Srt qs ∧ qs.Perm ts := by
    intro a ha
    rcases do_perm hS hp (opC o) a with ⟨h1, h2⟩ | ⟨q2, t2, h1, h2, h3, h4⟩
    · rw [h2] at ha; cases ha
    · rw [h2] at ha; cases ha; exact ⟨q2, h1, h3, h4⟩
  unfold stepR at ht
  unfold answersP
  by_cases h0 : 0 ≤ o.to
  · rw [if_pos h0] at ht ⊢
    obtain ⟨qs, h⟩ := key (opA o) (by simpa using ht)
    exact ⟨_, qs, by simp, h⟩
  · rw [if_neg h0] at ht ⊢
    by_cases h1 : o.op = 0
    · rw [if_pos h1] at ht ⊢
      obtain ⟨qs, h⟩ := key ⟨0, 0, 0⟩ (by simpa using ht)
      exact ⟨_, qs, by simp, h⟩
    · rw [if_neg h1] at ht ⊢
      by_cases h2 : o.op = 1
      · rw [if_pos h2] at ht
        rw [if_neg (by omega)]
        obtain ⟨p, hpm, rfl⟩ := List.mem_map.1 ht
        obtain ⟨m1, m2⟩ := List.mem_filter.1 hpm
        have m3 : p ∈ minsP ps := (mem_minsP_iff hS).2 ⟨hp.mem_iff.2 m1, by rw [minK_perm hS hp]; simpa using m2⟩
        refine ⟨⟨2, p.1, p.2⟩, ps.erase p, List.mem_map.2 ⟨p, m3, rfl⟩, ?_, erase_srt hS _, hp.erase _⟩
        unfold doP
        have hf : fitsB (opC o) ⟨2, p.1, p.2⟩ = true := by
          unfold fitsB
          rw [hop]
          have : (opC o).o = 1 := h2
          rw [this]; rfl
        rw [if_pos hf, if_neg (show ¬ ((2 : Int) = 0) by decide), if_neg (show ¬ ((2 : Int) = 1) by decide), if_neg (show ¬ ((2 : Int) = 3) by decide)]
        rw [if_pos m3, if_pos (show (opC o).o = 1 from h2)]
      · rw [if_neg h2] at ht; simp at ht
/-- Are all calls such as may be? -/
def RightOps (L : List Op9) : Prop := ∀ o ∈ L, rightC (opC o) = true
theorem rightOps_at {L : List Op9} (h : RightOps L) (x : Int) : rightC (opC (opAt L x)) = true := by
  unfold opAt
  rw [List.getD_eq_getElem?_getD]
  by_cases hx : x.toNat < L.length
  · rw [List.getElem?_eq_getElem hx]; exact h _ (List.getElem_mem hx)
  · rw [List.getElem?_eq_none (by omega)]; rfl
theorem canR_of {L : List Op9} (hR : RightOps L) {T : List Int} {ps : List Pr} {w : List Int} (H : Can L T ps w) : ∀ {rs : List Pr}, Srt ps → ps.Perm rs → CanR L T rs := by
  induction H with
  | full h => intro rs _ _; exact .full h
  | step hx ha hd h ih =>
    intro rs hS hp
    obtain ⟨ts, h1, h2, h3⟩ := pair_step hS hp (rightOps_at hR _) ha hd
    exact .step hx h1 (ih h2 h3)
theorem can_of {L : List Op9} (hR : RightOps L) {T : List Int} {rs : List Pr} (H : CanR L T rs) : ∀ {ps : List Pr}, Srt ps → ps.Perm rs → ∃ w, Can L T ps w := by
  induction H with
  | full h => intro rs _ _; exact ⟨[], .full h⟩
  | step hx hd h ih =>
    intro ps hS hp
    obtain ⟨a, qs, h0, h1, h2, h3⟩ := step_pair hS hp (rightOps_at hR _) hd
    obtain ⟨w, hw⟩ := ih h2 h3
    exact ⟨_, .step hx h0 h1 hw⟩
theorem lin_canR {L : List Op9} (hR : RightOps L) : Lin L ↔ CanR L [] [] := ⟨fun ⟨_, h⟩ => canR_of hR h List.Pairwise.nil (List.Perm.refl _), fun h => can_of hR h List.Pairwise.nil (List.Perm.refl _)⟩
end Go.Proofs.Ytlncjcbofgjcfaa
end
section
/- Histories: prefixes; the chapter's example; one thread's calls. -/
set_option linter.unusedSimpArgs false
set_option linter.unusedVariables false
set_option maxRecDepth 20000
namespace Go.Proofs.Ytlncjcbofgjcfaa

/-! ### prefixes of events -/
theorem getD_take {es : List Ev8} {n k : Nat} (h : k < n) : (es.take n).getD k dfE = es.getD k dfE := by
  rw [List.getD_eq_getElem?_getD, List.getElem?_take_of_lt h, List.getD_eq_getElem?_getD]
theorem ansN_take {es : List Ev8} {n q : Nat} (hq : q < n) : ∀ i, i ≤ n → ansN (es.take n) i q = ansN es i q := by
  intro i
  induction i with
  | zero => intro _; rfl
  | succ i ih =>
    intro hi
    rw [ansN_succ, ansN_succ, ih (by omega)]
    unfold thN
    rw [getD_take (by omega), getD_take hq]
theorem inv_take {es : List Ev8} {n : Nat} : ∀ i, i ≤ n → inv (es.take n) i = inv es i := by
  intro i
  induction i with
  | zero => intro _; rfl
  | succ i ih =>
    intro hi
    rw [inv_succ, inv_succ, ih (by omega)]
    unfold bkN
    rw [getD_take (by omega)]
theorem opsAt_take {es : List Ev8} {n i : Nat} (hi : i ≤ n) : opsAt (es.take n) i = opsAt es i := by
  unfold opsAt
  rw [inv_take i hi]
  apply List.map_congr_left
  intro q hq
  have hq' := (inv_lt hq).1
  unfold opEv
  rw [ansN_take (by omega) i hi, getD_take (by omega)]
  cases ha : ansN es i q with
  | none => rfl
  | some k =>
    have := (ansN_some ha).2.1
    simp only
    rw [getD_take (by omega)]
theorem opsE_take {es : List Ev8} {n : Nat} (hn : n ≤ es.length) : opsE (es.take n) = opsAt es n := by
  unfold opsE
  rw [List.length_take, Nat.min_eq_left hn, opsAt_take (Nat.le_refl _)]
theorem opnN_take {es : List Ev8} {n : Nat} (t : Int) : ∀ i, i ≤ n → i ≤ es.length → opnN (es.take n) i t = opnN es i t := by
  intro i
  induction i with
  | zero => intro _ _; rfl
  | succ i ih =>
    intro hi hl
    rw [opnN_succ (by rw [List.length_take]; omega), opnN_succ (by omega), ih (by omega) (by omega), List.getElem_take]
theorem rightH_take {es : List Ev8} (hR : RightH es) (n : Nat) : RightH (es.take n) := by
  intro i hi
  have hi' : i < n ∧ i < es.length := by rw [List.length_take] at hi; omega
  have := hR i hi'.2
  rw [List.getElem_take]
  unfold okE mayB at this ⊢
  rw [opnN_take _ i (by omega) (by omega)]
  cases ho : opnN es i (es[i]).th with
  | none => rw [ho] at this; exact this
  | some k =>
    rw [ho] at this
    have hk := (opnN_lt ho).1
    have : (es.take n).getD k ⟨0, false, zeroC, zeroC⟩ = es.getD k ⟨0, false, zeroC, zeroC⟩ := getD_take (by omega)
    simp only [this]
    assumption
theorem opEv_fr (es : List Ev8) (i q : Nat) : (opEv es i q).fr = q ∧ (opEv es i q).to < i ∧ opC (opEv es i q) = (es.getD q dfE).c := by
  unfold opEv
  cases ha : ansN es i q with
  | none => exact ⟨rfl, by show (-1 : Int) < i; omega, rfl⟩
  | some k => exact ⟨rfl, by have := (ansN_some ha).2.1; show (k : Int) < i; omega, rfl⟩
theorem lin_pre {es : List Ev8} (hR : RightH es) {n : Nat} (hn : n < es.length) (H : Lin (opsAt es (n + 1))) : Lin (opsAt es n) := by
  obtain ⟨w, hw⟩ := H
  have hok := hR n hn
  unfold okE mayB at hok
  have hlast : ∀ a ∈ opsAt es n, a.to < (n : Int) ∧ a.fr < (n : Int) := by
    intro a ha
    unfold opsAt at ha
    obtain ⟨q, hq, rfl⟩ := List.mem_map.1 ha
    have := opEv_fr es n q
    have := (inv_lt hq).1
    omega
  cases hbk : (es[n]).bk with
  | false =>
    rw [hbk] at hok
    simp only [Bool.false_eq_true, if_false, Bool.and_eq_true, Option.isNone_iff_eq_none] at hok
    have hop := hok.1.2.2
    rw [ops_inv hn (by rw [bkN_get hn]; exact hbk) (by rw [thN_get hn]; exact hop)] at hw
    exact can_drop (fun a ha => (hlast a ha).1) hw (fun y hy => by simp at hy)
  | true =>
    rw [hbk] at hok
    simp only [if_true, Bool.and_eq_true] at hok
    cases hop : opnN es n (es[n]).th with
    | none => rw [hop] at hok; simp at hok
    | some q =>
      have hop' : opnN es n (thN es n) = some q := by rw [thN_get hn]; exact hop
      rw [ops_ans hn (by rw [bkN_get hn]; exact hbk) hop'] at hw
      obtain ⟨h1, h2, h3, h4⟩ := opnN_lt hop
      have hat := inv_at (es := es) (q := q) (by rw [bkN_get h2]; exact h4) n h1
      have hk : (inv es q).length < (opsAt es n).length := by
        unfold opsAt
        rw [List.length_map]; exact (List.getElem?_eq_some_iff.1 hat).1
      have hget : (opsAt es n)[(inv es q).length] = opEv es n q := by
        have : (opsAt es n)[(inv es q).length]? = some (opEv es n q) := by
          unfold opsAt
          rw [List.getElem?_map, hat]; rfl
        exact (List.getElem?_eq_some_iff.1 this).2
      have hans := ans_of_opn n (by omega) hop
      have hfr := opEv_fr es n q
      refine can_unans hk (n := n) (by omega) (fun a ha => (hlast a ha).2) ?_ rfl ?_ ?_ hw (S := []) (fun y _ => Iff.rfl) (fun h => h)
      · rw [hget]
        unfold opEv
        rw [hans]
        show (-1 : Int) < 0
        omega
      · rw [hget, hfr.2.2]; rfl
      · rw [hget, hfr.1]
theorem inR_ops {es : List Ev8} (hE : ∀ e ∈ es, InE e) {n : Nat} (hn : n ≤ es.length) : ∀ o ∈ opsAt es n, InR o.key ∧ InR o.val := by
  intro o ho
  unfold opsAt at ho
  obtain ⟨q, hq, rfl⟩ := List.mem_map.1 ho
  have h1 := (inv_lt hq).1
  have h2 := (opEv_fr es n q).2.2
  rw [List.getD_eq_getElem?_getD, List.getElem?_eq_getElem (show q < es.length by omega)] at h2
  have h3 := (hE _ (List.getElem_mem (show q < es.length by omega))).1
  simp only [Option.getD_some] at h2
  rw [← h2] at h3
  exact h3
theorem rightOps_of {es : List Ev8} (hR : RightH es) : RightOps (opsE es) := by
  intro o ho
  unfold opsE opsAt at ho
  obtain ⟨q, hq, rfl⟩ := List.mem_map.1 ho
  obtain ⟨h1, hb⟩ := inv_lt hq
  have h2 := (opEv_fr es es.length q).2.2
  rw [List.getD_eq_getElem?_getD, List.getElem?_eq_getElem h1] at h2
  simp only [Option.getD_some] at h2
  rw [h2]
  have := hR q h1
  rw [bkN_get h1] at hb
  unfold okE mayB at this
  rw [hb] at this
  simp only [Bool.false_eq_true, if_false, Bool.and_eq_true] at this
  exact this.1.2.1

/-! ### the chapter's example -/
def es15 : List Ev8 := [⟨0, false, ⟨0, 1, 0⟩, zeroC⟩, ⟨0, true, zeroC, ⟨0, 0, 0⟩⟩, ⟨1, false, ⟨1, 0, 0⟩, zeroC⟩, ⟨1, true, zeroC, ⟨3, 0, 0⟩⟩]
theorem rightH15 : RightH es15 := by
  intro i hi
  have : i = 0 ∨ i = 1 ∨ i = 2 ∨ i = 3 := by
    have : es15.length = 4 := rfl
    omega
  rcases this with rfl | rfl | rfl | rfl <;> rfl
theorem ops15 : opsE es15 = [⟨0, 0, 1, 0, 0, 0, 0, 0, 1⟩, ⟨1, 1, 0, 0, 3, 0, 0, 2, 3⟩] := by rfl
theorem not_lin15 : ¬ Lin (opsE es15) := by
  rw [ops15, lin_alone]
  · decide
  · intro i hi
    have : i = 0 ∨ i = 1 := by simp at hi; omega
    rcases this with rfl | rfl <;> exact ⟨rfl, rfl⟩
theorem lives15_call {K : Value → Heap → Prop} {h : Heap} (k : ∀ h', Old h.size h h' → K (.bool true) h') : CallH Try.prog 24 #[] h K := by
  refine call24 ?_
  unfold F24
  have p1 := pushed h (es15.flatMap Ev8.cells).toArray 71
  rw [show h.push (.cells #[.int .i64 0, .bool false, .int .i64 0, .int .u32 1, .int .u32 0, .int .i64 0, .int .u32 0, .int .u32 0, .int .i64 0, .bool true, .int .i64 0, .int .u32 0, .int .u32 0, .int .i64 0, .int .u32 0, .int .u32 0, .int .i64 1, .bool false, .int .i64 1, .int .u32 0, .int .u32 0, .int .i64 0, .int .u32 0, .int .u32 0, .int .i64 1, .bool true, .int .i64 0, .int .u32 0, .int .u32 0, .int .i64 3, .int .u32 0, .int .u32 0] 71) = h.push (.cells (es15.flatMap Ev8.cells).toArray 71) from rfl]
  generalize h.push (.cells (es15.flatMap Ev8.cells).toArray 71) = h1 at *
  have S1 : SV h1 (some ⟨h.size, 0, none⟩) 4 4 es15 := ⟨fun j v hj => ⟨_, rfl, by rw [add_lit, cellAt_of p1.new, List.getElem?_toArray, Nat.zero_add]; exact hj⟩, rfl, Nat.le_refl _⟩
  refine callV_fn (history_call S1 (by omega) (fun o ho => ?_) (fun _ hl _ _ => absurd hl not_lin15) (fun _ _ h2 o2 => ?_) (fun hn _ _ => absurd rightH15 hn))
  · rw [ops15] at ho
    simp only [List.mem_cons, List.not_mem_nil, or_false] at ho
    rcases ho with rfl | rfl <;> exact ⟨⟨by decide, by decide⟩, ⟨by decide, by decide⟩⟩
  · simp only [asTup_tuple]
    refine elemH_mk rfl ?_
    simp only [asBool_bool]
    refine elemH_mk rfl ?_
    simp only [asInt_int, Bool.not_false, ifB_true]
    exact k h2 (p1.toOld.trans (o2.mono p1.toOld.1))

/-! ### 15.2: prefixes -/
def badE (key : Int) : List Ev8 := [⟨0, false, ⟨1, 0, 0⟩, zeroC⟩, ⟨0, true, zeroC, ⟨2, key, 0⟩⟩]
theorem rightBad (key : Int) : RightH (badE key) := by
  intro i hi
  have : i = 0 ∨ i = 1 := by
    have : (badE key).length = 2 := rfl
    omega
  rcases this with rfl | rfl <;> rfl
theorem opsBad (key : Int) : opsE (badE key) = [⟨0, 1, 0, 0, 2, key, 0, 0, 1⟩] := by rfl
theorem not_linBad (key : Int) : ¬ Lin (opsE (badE key)) := by
  rw [opsBad, lin_alone]
  · show ¬ ((doP [] ⟨1, 0, 0⟩ ⟨2, key, 0⟩).bind (legD [])).isSome = true
    have : doP [] ⟨1, 0, 0⟩ ⟨2, key, 0⟩ = none := by
      unfold doP
      split
      · simp [minsP]
      · rfl
    rw [this]; simp
  · intro i hi
    have : i = 0 := by simp at hi; omega
    subst this
    exact ⟨rfl, rfl⟩
theorem SV.take {h : Heap} {a : Option Addr} {l c : Nat} {es : List Ev8} (H : SV h a l c es) {n : Nat} (hn : n ≤ l) : SV h a n c (es.take n) := by
  refine ⟨fun j v hj => H.s j v ?_, by rw [List.length_take, H.len]; omega, by have := H.cap; omega⟩
  have hlt := (List.getElem?_eq_some_iff.1 hj).1
  rw [← hj]
  have : es.flatMap Ev8.cells = (es.take n).flatMap Ev8.cells ++ (es.drop n).flatMap Ev8.cells := by rw [← List.flatMap_append, List.take_append_drop]
  rw [this, List.getElem?_append_left hlt]
theorem inR0 : InR 0 := ⟨by decide, by decide⟩
theorem lin_nil : Lin [] := ⟨[], .full fun y y0 y1 _ => by simp at y1; omega⟩
theorem prefixes_body {K : Value → Heap → Prop} {h : Heap} {a : Option Addr} {l c : Nat} {key : Int} {es : List Ev8} (H : SV h a l c es) (hE : ∀ e ∈ es, InE e)
    (k : ∀ h', Old h.size h h' → K (.bool true) h') : F7 K h a l c key := by
  unfold F7
  have hlen := H.len
  refine ifB_dec (fun hgt => callV_fn (lives15_call fun h' o => by simp only [asBool_bool]; exact k h' o)) (fun hle => ?_)
  refine ⟨fun vs h' => ∃ v0 w1 w2 w3, ∃ n : Nat, ∃ was : Bool, vs = [v0, .bool was, .int .i64 ((n : Int) - 1), w1, w2, w3] ∧ n ≤ l + 1 ∧ Old h.size h h' ∧ (was = true → n ≤ l ∧ Lin (opsAt es n)) ∧ (n ≤ l → RightH es) ∧ (n = 0 → was = true),
    fun vs _ => (match vs with | [_, _, .int _ n, _, _, _] => (n + 1).toNat | _ => 0),
    ⟨_, _, _, _, l + 1, false, by rw [show ((l + 1 : Nat) : Int) - 1 = (l : Int) by omega], Nat.le_refl _, Old.refl _ _, fun h => (by cases h), fun h => by omega, fun h => by omega⟩, ?_⟩
  rintro v5 v6 v7 v8 v9 v10 g11 h12 ⟨v0, w1, w2, w3, n, was, e, hn, o12, hwas, hRi, hz⟩
  cases e
  simp only [asInt_int, asBool_bool]
  refine ifB_dec (fun hge => ?_) (fun hlt => ?_)
  · obtain ⟨m, rfl⟩ : ∃ m, n = m + 1 := ⟨n - 1, by omega⟩
    rw [show ((m + 1 : Nat) : Int) - 1 = (m : Int) by omega]
    refine ⟨fun vs h' => ∃ v0 w1 w2 w3, ∃ was' : Bool, vs = [v0, .bool was', w1, w2, w3] ∧ Old h.size h h' ∧ (was' = true → Lin (opsAt es m)) ∧ RightH es ∧ (m = 0 → was' = true), ?_, ?_⟩
    rotate_left
    · rintro v36 v37 v38 v39 v40 g41 h42 ⟨_, _, _, _, was', e, o42, x1, x2, x3⟩
      cases e
      rw [wrap64_id' (by omega) (by omega)]
      exact ⟨⟨_, _, _, _, m, was', rfl, by omega, o42, fun hw => ⟨by omega, x1 hw⟩, fun _ => x2, x3⟩, by show ((m : Int) - 1 + 1).toNat < ((m : Int) + 1).toNat; omega⟩
    refine ⟨by omega, by have := H.cap; omega, ?_⟩
    rw [Int.toNat_natCast, Nat.sub_zero, Nat.sub_zero, subA_zero]
    have hml : m ≤ es.length := by omega
    have hops := opsE_take (es := es) hml
    refine callV_fn (history_call ((H.old o12).take (n := m) (by omega)) (by omega) (fun o ho => ?_) (fun hr hl h17 o17 => ?_) (fun hr hl h17 o17 => ?_) (fun hr h17 o17 => ?_))
    · rw [hops] at ho
      exact inR_ops hE hml o ho
    · rw [hops] at hl
      simp only [asTup_tuple]
      refine elemH_mk rfl ?_
      simp only [asBool_bool]
      refine elemH_mk rfl ?_
      simp only [asInt_int]
      have hr2 : RightH es := by
        by_cases e : m + 1 ≤ l
        · exact hRi e
        · rw [List.take_of_length_le (by omega)] at hr; exact hr
      have ok17 := o12.trans (o17.mono o12.1)
      refine ⟨fun vs h' => vs = [.bool false] ∧ h' = h17, ?_, ?_⟩
      · cases was <;> exact ⟨rfl, by trivial⟩
      rintro v31 g32 h33 ⟨e, rfl⟩
      cases e
      simp only [asBool_bool, ifB_false]
      cases was <;> exact ⟨_, _, _, _, true, rfl, ok17, fun _ => hl, hr2, fun _ => rfl⟩
    · rw [hops] at hl
      simp only [asTup_tuple]
      refine elemH_mk rfl ?_
      simp only [asBool_bool]
      refine elemH_mk rfl ?_
      simp only [asInt_int]
      have hr2 : RightH es := by
        by_cases e : m + 1 ≤ l
        · exact hRi e
        · rw [List.take_of_length_le (by omega)] at hr; exact hr
      have ok17 := o12.trans (o17.mono o12.1)
      have hw : was = false := by
        cases was with
        | false => rfl
        | true => exact absurd (lin_pre hr2 (by have := (hwas rfl).1; omega) (hwas rfl).2) hl
      subst hw
      refine ⟨fun vs h' => vs = [.bool false] ∧ h' = h17, ⟨rfl, by trivial⟩, ?_⟩
      rintro v31 g32 h33 ⟨e, rfl⟩
      cases e
      simp only [asBool_bool, ifB_false]
      refine ⟨_, _, _, _, false, rfl, ok17, fun h => (by cases h), hr2, fun h0 => ?_⟩
      subst h0
      exact absurd lin_nil hl
    · simp only [asTup_tuple]
      refine elemH_mk rfl ?_
      simp only [asBool_bool]
      refine elemH_mk rfl ?_
      simp only [asInt_int]
      rw [show ((11 : Int) != 0) = true from rfl]
      simp only [ifB_true]
      have hm : l < m + 1 := by
        apply Decidable.byContradiction
        intro h
        exact hr (rightH_take (hRi (by omega)) m)
      have hw : was = false := by
        cases was with
        | false => rfl
        | true => have := (hwas rfl).1; omega
      subst hw
      simp only [Bool.not_false, ifB_true]
      have ok17 := o12.trans (o17.mono o12.1)
      refine ifB_dec (fun hp => ?_) (fun hp => ?_)
      · refine callV_fn (lives15_call fun h' o => ?_)
        simp only [asBool_bool]
        exact k h' (ok17.trans (o.mono ok17.1))
      · exfalso
        have : m = 0 := by omega
        subst this
        exact hr (fun i hi => by simp at hi)
  · have hn0 : n = 0 := by omega
    have hw := hz hn0
    subst hw
    have p1 := pushed h12 ((badE key).flatMap Ev8.cells).toArray 71
    rw [show h12.push (.cells #[.int .i64 0, .bool false, .int .i64 1, .int .u32 0, .int .u32 0, .int .i64 0, .int .u32 0, .int .u32 0, .int .i64 0, .bool true, .int .i64 0, .int .u32 0, .int .u32 0, .int .i64 2, .int .u32 key, .int .u32 0] 71) = h12.push (.cells ((badE key).flatMap Ev8.cells).toArray 71) from rfl]
    generalize h12.push (.cells ((badE key).flatMap Ev8.cells).toArray 71) = h13 at *
    have S1 : SV h13 (some ⟨h12.size, 0, none⟩) 2 2 (badE key) := ⟨fun j v hj => ⟨_, rfl, by rw [add_lit, cellAt_of p1.new, List.getElem?_toArray, Nat.zero_add]; exact hj⟩, rfl, Nat.le_refl _⟩
    have o13 : Old h.size h h13 := o12.trans (p1.toOld.mono o12.1)
    refine callV_fn (history_call S1 (by omega) (fun o ho => ?_) (fun _ hl _ _ => absurd hl (not_linBad key)) (fun _ _ h2 o2 => ?_) (fun hn _ _ => absurd (rightBad key) hn))
    · rw [opsBad] at ho
      simp only [List.mem_cons, List.not_mem_nil, or_false] at ho
      subst ho
      exact ⟨inR0, inR0⟩
    · simp only [asTup_tuple]
      refine elemH_mk rfl ?_
      simp only [asBool_bool]
      refine elemH_mk rfl ?_
      simp only [asInt_int, Bool.not_false, ifB_true]
      rw [show ((0 : Int) == 0) = true from rfl]
      simp only [ifB_true]
      have o2' := o13.trans (o2.mono o13.1)
      refine callV_fn (lives15_call fun h' o => ?_)
      simp only [asBool_bool]
      exact k h' (o2'.trans (o.mono o2'.1))
end Go.Proofs.Ytlncjcbofgjcfaa
end
section
/- A linearizable history is right by all three orders. -/
set_option linter.unusedSimpArgs false
set_option linter.unusedVariables false
set_option maxRecDepth 20000
namespace Go.Proofs.Ytlncjcbofgjcfaa

/-! ### plain facts -/
theorem must_ahead {L : List Op9} (hs : ∀ i j : Nat, i < L.length → j < L.length → (opAt L i).th = (opAt L j).th → (opAt L i).fr < (opAt L j).fr → ahead (opAt L i) (opAt L j) = true) {ord : Int} {i j : Nat} (hi : i < L.length) (hj : j < L.length) (h : mustB L ord i j = true) : ahead (opAt L i) (opAt L j) = true := by
  unfold mustB at h
  split at h
  · exact h
  · split at h
    · simp only [Bool.and_eq_true, decide_eq_true_eq] at h
      exact hs i j hi hj h.1 h.2
    · split at h
      · unfold apartB at h
        split at h
        · cases h
        · rename_i hn
          unfold ahead
          rw [decide_eq_true (by omega), decide_eq_true (by omega)]; rfl
      · cases h
/-- What is placed is not behind what isn't. -/
def Plc (L : List Op9) (T : List Int) : Prop := ∀ j ∈ T, ∀ y : Int, 0 ≤ y → y < L.length → y ∉ T → ahead (opAt L y) (opAt L j) = false
theorem wcan_of {L : List Op9} {ord : Int} (hm : ∀ i j : Nat, i < L.length → j < L.length → mustB L ord i j = true → ahead (opAt L i) (opAt L j) = true) {T : List Int} {ps : List Pr} {w : List Int} (H : Can L T ps w) :
    (∀ y ∈ T, 0 ≤ y ∧ y < L.length) → Plc L T → WCan L ord T ps := by
  induction H with
  | full h => intro _ _; exact .full h
  | step hx ha hd h ih =>
    rename_i T ps qs x a w
    intro hr hP
    obtain ⟨⟨x0, x1⟩, x2, x3⟩ := mem_nextL.1 hx
    obtain ⟨i, rfl⟩ : ∃ i : Nat, x = i := ⟨x.toNat, by omega⟩
    have hi : i < L.length := by omega
    have hb : ∀ j : Nat, j < L.length → badB L ord T i j = false := by
      intro j hj
      apply Decidable.byContradiction
      intro hc
      have hc : badB L ord T i j = true := by simpa using hc
      unfold badB at hc
      rw [Bool.or_eq_true] at hc
      rcases hc with hc | hc
      · rw [Bool.and_eq_true, decide_eq_true_eq] at hc
        have := hP j hc.1 i x0 x1 x2
        rw [hm i j hi hj hc.2] at this; cases this
      · simp only [Bool.and_eq_true, decide_eq_true_eq, Bool.not_eq_true', decide_eq_false_iff_not] at hc
        obtain ⟨h1, h2, h3, h4⟩ := hc
        have := x3 j (by omega) (by omega)
        unfold blocks at this
        rw [decide_eq_true h1, decide_eq_false h2, hm j i hj hi h4] at this
        cases this
    have hf : freeB L ord T i = true := by
      unfold freeB
      rw [decide_eq_false x2, Bool.not_false, Bool.true_and, Bool.not_eq_true', List.any_eq_false]
      intro y hy
      obtain ⟨j, hj, rfl⟩ := List.mem_map.1 hy
      rw [hb j (List.mem_range.1 hj)]; simp
    refine .step hi hf ha hd (ih (fun y hy => ?_) ?_)
    · rcases List.mem_append.1 hy with hy | hy
      · exact hr y hy
      · rw [List.mem_singleton.1 hy]; exact ⟨x0, x1⟩
    · intro j hj y y0 y1 hy
      rw [List.mem_append, List.mem_singleton] at hy
      rcases List.mem_append.1 hj with hj | hj
      · exact hP j hj y y0 y1 fun h => hy (.inl h)
      · rw [List.mem_singleton.1 hj]
        have hb := x3 y y0 y1
        unfold blocks at hb
        rw [decide_eq_true (show y ≠ i from fun h => hy (.inr h)), decide_eq_false (fun h => hy (.inl h))] at hb
        simpa using hb
theorem seq_ops {es : List Ev8} (hR : RightH es) {a b : Op9} (ha : a ∈ opsE es) (hb : b ∈ opsE es) (ht : a.th = b.th) (hf : a.fr < b.fr) : ahead a b = true := by
  unfold opsE opsAt at ha hb
  obtain ⟨q1, hq1, rfl⟩ := List.mem_map.1 ha
  obtain ⟨q2, hq2, rfl⟩ := List.mem_map.1 hb
  obtain ⟨l1, b1⟩ := inv_lt hq1
  obtain ⟨l2, b2⟩ := inv_lt hq2
  have f1 := opEv_fr es es.length q1
  have f2 := opEv_fr es es.length q2
  have hq : q1 < q2 := by omega
  have th1 : ∀ q, (opEv es es.length q).th = thN es q := by
    intro q
    unfold opEv thN
    cases ansN es es.length q <;> rfl
  rw [th1, th1] at ht
  have hok := hR q2 l2
  have b2' := b2
  rw [bkN_get l2] at b2
  unfold okE mayB at hok
  rw [b2] at hok
  simp only [Bool.false_eq_true, if_false, Bool.and_eq_true, Option.isNone_iff_eq_none] at hok
  have hop := hok.1.2.2
  cases hans : ansN es q2 q1 with
  | none =>
    have := opn_of_ans b1 q2 (by omega) hq hans
    rw [ht, thN_get l2, hop] at this
    cases this
  | some k =>
    have hk := ansN_some hans
    have hm := ansN_mono hans (show q2 ≤ es.length by omega)
    have hto : (opEv es es.length q1).to = k := by
      unfold opEv; rw [hm]
    unfold ahead
    rw [hto, f2.1, decide_eq_true (by omega), decide_eq_true (by omega)]; rfl
theorem follows {es : List Ev8} (hR : RightH es) (hl : Lin (opsE es)) (ord : Int) : WCan (opsE es) ord [] [] := by
  obtain ⟨w, hw⟩ := hl
  refine wcan_of (fun i j hi hj h => must_ahead (fun i j hi hj h1 h2 => ?_) hi hj h) hw (fun y hy => by simp at hy) (fun j hj => by simp at hj)
  rw [opAt_nat hi, opAt_nat hj] at *
  exact seq_ops hR (List.getElem_mem hi) (List.getElem_mem hj) h1 h2

/-! ### by one order, by all -/
theorem wRight_call {K : Value → Heap → Prop} {h : Heap} {a : Option Addr} {l c : Nat} {L : List Op9} {ord : Int} (H : SlO h a l c L) (hl : l ≤ 16) (h0 : 0 ≤ ord) (h2 : ord ≤ 2) (hR : ∀ o ∈ L, InR o.key ∧ InR o.val)
    (k1 : WCan L ord [] [] → ∀ h', Old h.size h h' → K (.bool true) h') (k0 : ¬ WCan L ord [] [] → ∀ h', Old h.size h h' → K (.bool false) h') :
    CallH Try.prog 53 #[.slice a l c, .int .i64 ord] h K := by
  refine call53 ?_
  unfold F53
  have hlen := H.len
  subst hlen
  have p1 := pushed h #[.slice a L.length c] 59
  generalize h.push (.cells #[.slice a L.length c] 59) = h1 at *
  have p2 := pushed h1 #[.int .i64 ord] 3
  generalize h1.push (.cells #[.int .i64 ord] 3) = h2' at *
  have s1 := p1.size
  have s2 := p2.size
  have o2 : Old h.size h h2' := p1.toOld.trans (p2.toOld.mono (by omega))
  have n1 := (p2.old _ (show h.size < h1.size by omega)).trans p1.new
  refine ⟨fun vs h' => (∃ w, vs = [w, .bool false]) ∧ h' = h2', ?_, ?_⟩
  · refine ldR p2.new rfl ?_
    simp only [asInt_int]
    refine ifB_dec (fun q => by omega) (fun q => ?_)
    refine ldR p2.new rfl ?_
    simp only [asInt_int]
    refine ifB_dec (fun q => by omega) (fun q => ?_)
    refine ldR n1 rfl ?_
    simp only [asSlice_slice]
    exact ⟨⟨_, pairB (decide_eq_false (by omega))⟩, by trivial⟩
  rintro v9 v10 g11 h12 ⟨⟨_, e⟩, rfl⟩
  cases e
  simp only [asBool_bool, ifB_false]
  refine ldR n1 rfl ?_
  simp only [asSlice_slice, nilC]
  have M0 := MetF.new h12
  have old0 : Old h12.size h12 (h12.push (.map #[] 0)) := ⟨by simp, fun b hb => push_old _ _ _ hb⟩
  have s0 : (h12.push (.map #[] 0)).size = h12.size + 1 := by simp
  generalize h12.push (.map #[] 0) = h13 at *
  have p14 := pushed h13 [Value.slice a L.length c, .nilFunc, .map (some h12.size), .int .u64 0].toArray 124
  rw [show h13.push (.cells #[.slice a L.length c, .nilFunc, .map (some h12.size), .int .u64 0] 124) = h13.push (.cells [Value.slice a L.length c, .nilFunc, .map (some h12.size), .int .u64 0].toArray 124) from rfl]
  generalize h13.push (.cells [Value.slice a L.length c, .nilFunc, .map (some h12.size), .int .u64 0].toArray 124) = h14 at *
  have s14 := p14.size
  have o14 : Old h12.size h12 h14 := old0.trans (p14.toOld.mono (by omega))
  refine stR p14.new rfl trivial fun h18 w18 => ?_
  have o18 : Old h12.size h12 h18 := w18.toOld o14 (by omega)
  have s18 : h18.size = h14.size := w18.size
  have p19 := pushed h18 #[.slice none 0 0] 25
  generalize h18.push (.cells #[.slice none 0 0] 25) = h19 at *
  have ok18 : Old h.size h h18 := o2.trans (o18.mono o2.1)
  have ok19 : Old h.size h h19 := ok18.trans (p19.toOld.mono ok18.1)
  have ne12 : h12.size ≠ h13.size := by omega
  have S19 : WkS h19 h12.size h13.size a c L h12.size h.size h1.size ord [] ([].map (St.key L.length)) := by
    refine ⟨?_, ?_, ?_, H.old ok19, ?_, ?_, by omega, by omega, by omega, Nat.le_refl _, by omega⟩
    · have e0 : maskN [] L.length = 0 := by
        apply Nat.eq_of_testBit_eq
        intro j
        rw [maskN_bit]; simp
      rw [e0]
      exact (p19.old _ (by omega)).trans w18.new
    · exact (p19.old _ (by omega)).trans ((o18.2 _ (by omega)).trans n1)
    · exact (p19.old _ (by omega)).trans ((o18.2 _ (by omega)).trans p2.new)
    · exact M0.keep ((p19.old _ (by omega)).trans ((w18.old _ ne12).trans (p14.old _ (by omega))))
    · intro i v hi b ⟨ad, ea, eb⟩
      obtain ⟨ad', e', hc⟩ := H.s i v hi
      rw [ea] at e'; cases e'
      have := cellAt_lt hc
      rw [add_block] at this
      omega
  have B19 : BagF h19 h18.size none [] := ⟨0, p19.new, Own.nil _ _ _, List.Pairwise.nil⟩
  refine callV_fn (wfrom_ok hl hR L.length (Ss := []) (by simp) S19 B19 ⟨fun y hy => by simp at hy, List.nodup_nil, fun p hp => by simp at hp⟩ (Nat.le_refl _) (fun s hs => by simp at hs) (fun hc h6 ks' _ fr6 => ?_) (fun hno Us h6 _ _ fr6 => ?_))
  · simp only [asBool_bool]
    exact k1 hc h6 ⟨by have := fr6.1; have := ok19.1; omega, fun b hb => (fr6.2 b (by have := ok19.1; omega) (fun hn => by have := S19.ge hn; omega)).trans (ok19.2 b hb)⟩
  · simp only [asBool_bool]
    exact k0 hno h6 ⟨by have := fr6.1; have := ok19.1; omega, fun b hb => (fr6.2 b (by have := ok19.1; omega) (fun hn => by have := S19.ge hn; omega)).trans (ok19.2 b hb)⟩
theorem ranks_call {K : Value → Heap → Prop} {h : Heap} {a : Option Addr} {l c : Nat} {L : List Op9} {b0 b1 b2 : Bool} (H : SlO h a l c L) (hl : l ≤ 16) (hR : ∀ o ∈ L, InR o.key ∧ InR o.val)
    (e0 : b0 = true ↔ WCan L 0 [] []) (e1 : b1 = true ↔ WCan L 1 [] []) (e2 : b2 = true ↔ WCan L 2 [] []) (k : ∀ h', Old h.size h h' → K (.agg #[.bool b0, .bool b1, .bool b2]) h') :
    CallH Try.prog 33 #[.slice a l c] h K := by
  refine call33 ?_
  unfold F33
  have one : ∀ {ord : Int} {bb : Bool} {h1 : Heap} {K1 : Value → Heap → Prop}, SlO h1 a l c L → 0 ≤ ord → ord ≤ 2 → (bb = true ↔ WCan L ord [] []) → (∀ h', Old h1.size h1 h' → K1 (.bool bb) h') → CallH Try.prog 53 #[.slice a l c, .int .i64 ord] h1 K1 := by
    intro ord bb h1 K1 H1 x0 x2 hb kk
    refine wRight_call H1 hl x0 x2 hR (fun hc h' o => ?_) (fun hc h' o => ?_)
    · have := kk h' o
      rwa [hb.2 hc] at this
    · have := kk h' o
      have e : bb = false := by
        cases bb with
        | false => rfl
        | true => exact absurd (hb.1 rfl) hc
      rwa [e] at this
  have p1 := pushed h [Value.bool false, .bool false, .bool false].toArray 73
  rw [show h.push (.cells #[.bool false, .bool false, .bool false] 73) = h.push (.cells [Value.bool false, .bool false, .bool false].toArray 73) from rfl]
  generalize h.push (.cells [Value.bool false, .bool false, .bool false].toArray 73) = h0 at *
  have s0 := p1.size
  have o0 := p1.toOld
  refine callV_fn (one (H.old o0) (by omega) (by omega) e0 fun h1 o1 => ?_)
  simp only [asBool_bool]
  have ok1 := o0.trans (o1.mono o0.1)
  refine callV_fn (one (H.old ok1) (by omega) (by omega) e1 fun h4 o4 => ?_)
  simp only [asBool_bool]
  have ok4 := ok1.trans (o4.mono ok1.1)
  refine callV_fn (one (H.old ok4) (by omega) (by omega) e2 fun h7 o7 => ?_)
  simp only [asBool_bool]
  have ok7 := ok4.trans (o7.mono ok4.1)
  have l1 := o1.1
  have l4 := o4.1
  have n7 := (o7.2 _ (show h.size < h4.size by omega)).trans ((o4.2 _ (show h.size < h1.size by omega)).trans ((o1.2 _ (show h.size < h0.size by omega)).trans p1.new))
  refine stR n7 rfl trivial fun h9 w9 => ?_
  refine stR w9.new rfl trivial fun h10 w10 => ?_
  refine stR w10.new rfl trivial fun h11 w11 => ?_
  have w := w9.trans (w10.trans w11)
  refine ldR w.new rfl (ldR w.new rfl (ldR w.new rfl ?_))
  exact k h11 (w.toOld ok7 (Nat.le_refl _))

/-! ### the chapter's example -/
def L39 : List Op9 := [⟨0, 0, 1, 0, 0, 0, 0, 0, 1⟩, ⟨1, 1, 0, 0, 3, 0, 0, 2, 3⟩]
theorem l39_one {ord : Int} (x : Nat) (hx : x < L39.length) : x = 0 ∨ x = 1 := by
  have : L39.length = 2 := rfl
  omega
theorem not39 {ord : Int} (ho : ord = 0 ∨ ord = 2) : ¬ WCan L39 ord [] [] := by
  intro h
  cases h with
  | full hf => exact absurd (hf 0 (by decide) (by decide) (by decide)) (by simp)
  | step hx hf ha hd h =>
    rename_i qs x a
    rcases l39_one (ord := ord) x hx with rfl | rfl
    · have e : a = ⟨0, 0, 0⟩ := by simpa [answersP, opAt, L39, opA] using ha
      subst e
      have e : qs = [(1, 0)] := by
        have : doP [] (opC (opAt L39 (0 : Nat))) ⟨0, 0, 0⟩ = some [(1, 0)] := by rfl
        rw [this] at hd; cases hd; rfl
      subst e
      cases h with
      | full hf => exact absurd (hf 1 (by decide) (by decide) (by decide)) (by decide)
      | step hx hf ha hd h =>
        rename_i qs y b
        rcases l39_one (ord := ord) y hx with rfl | rfl
        · unfold freeB at hf
          simp at hf
        · have e : b = ⟨3, 0, 0⟩ := by simpa [answersP, opAt, L39, opA] using ha
          subst e
          have : doP [(1, 0)] (opC (opAt L39 (1 : Nat))) ⟨3, 0, 0⟩ = none := by rfl
          rw [this] at hd; cases hd
    · rcases ho with rfl | rfl
      · rw [show freeB L39 0 [] ((1 : Nat) : Int) = false by rfl] at hf; cases hf
      · rw [show freeB L39 2 [] ((1 : Nat) : Int) = false by rfl] at hf; cases hf
theorem yes39 : WCan L39 1 [] [] := by
  refine .step (x := 1) (a := ⟨3, 0, 0⟩) (qs := []) (by decide) (by rfl) (by simp [answersP, opAt, L39, opA]) (by rfl) ?_
  refine .step (x := 0) (a := ⟨0, 0, 0⟩) (qs := [(1, 0)]) (by decide) (by rfl) (by simp [answersP, opAt, L39, opA]) (by rfl) ?_
  refine .full fun y y0 y1 _ => ?_
  have : y = 0 ∨ y = 1 := by
    have : L39.length = 2 := rfl
    omega
  rcases this with rfl | rfl <;> simp
theorem eqv_b3a : eqv Try.prog 10000 73 (.agg #[.bool false, .bool true, .bool false]) (.agg #[.bool false, .bool true, .bool false]) = some true := by kernel_rfl
theorem eqv_b3b : eqv Try.prog 10000 73 (.agg #[.bool true, .bool true, .bool true]) (.agg #[.bool true, .bool true, .bool true]) = some true := by kernel_rfl
theorem guard_b3 : Try.prog.eqGuardType Try.prog.depth 73 = false := by kernel_rfl
theorem eqvH_b3 {xs : Array Value} {K : Bool → Prop} (e : eqv Try.prog 10000 73 (.agg xs) (.agg xs) = some true) (k : K true) : eqvH Try.prog 73 (.agg xs) (.agg xs) K := by
  unfold eqvH
  rw [guard_b3, if_neg (by simp)]
  show (match eqv Try.prog 10000 73 (.agg xs) (.agg xs) with | some b => K b | none => False)
  rw [e]
  exact k
theorem lives39_call {K : Value → Heap → Prop} {h : Heap} (k : ∀ h', Old h.size h h' → K (.bool true) h') : CallH Try.prog 32 #[] h K := by
  refine call32 ?_
  unfold F32
  have p1 := pushed h (L39.flatMap Op9.cells).toArray 65
  rw [show h.push (.cells #[.int .i64 0, .int .i64 0, .int .u32 1, .int .u32 0, .int .i64 0, .int .u32 0, .int .u32 0, .int .i64 0, .int .i64 1, .int .i64 1, .int .i64 1, .int .u32 0, .int .u32 0, .int .i64 3, .int .u32 0, .int .u32 0, .int .i64 2, .int .i64 3] 65) = h.push (.cells (L39.flatMap Op9.cells).toArray 65) from rfl]
  generalize h.push (.cells (L39.flatMap Op9.cells).toArray 65) = h1 at *
  have S1 : SlO h1 (some ⟨h.size, 0, none⟩) 2 2 L39 := ⟨fun j v hj => ⟨_, rfl, by rw [add_lit, cellAt_of p1.new, List.getElem?_toArray, Nat.zero_add]; exact hj⟩, rfl, Nat.le_refl _⟩
  refine callV_fn (ranks_call (b0 := false) (b1 := true) (b2 := false) S1 (by omega) (fun o ho => ?_) ⟨fun h => (by cases h), fun h => absurd h (not39 (.inl rfl))⟩ ⟨fun _ => yes39, fun _ => rfl⟩ ⟨fun h => (by cases h), fun h => absurd h (not39 (.inr rfl))⟩ fun h2 o2 => ?_)
  · unfold L39 at ho
    simp only [List.mem_cons, List.not_mem_nil, or_false] at ho
    rcases ho with rfl | rfl <;> exact ⟨⟨by decide, by decide⟩, ⟨by decide, by decide⟩⟩
  · simp only [asAgg_agg]
    refine sizeH_mk rfl (elemH_mk rfl (elemH_mk rfl (elemH_mk rfl ?_)))
    exact eqvH_b3 eqv_b3a (k h2 (p1.toOld.trans (o2.mono p1.toOld.1)))
end Go.Proofs.Ytlncjcbofgjcfaa
end
section
/- 39.2: a history that is linearizable is right by all three orders. -/
set_option linter.unusedSimpArgs false
set_option linter.unusedVariables false
set_option maxRecDepth 20000
namespace Go.Proofs.Ytlncjcbofgjcfaa

def LegalOK (L : List Op9) (n : Nat) : Prop :=
  ∀ {K : Value → Heap → Prop} {h : Heap} {a a2 ar : Option Addr} {c c2 cr : Nat} {order : List Int} {rs : List Pr}, SlO h a L.length c L → RI h a2 n c2 order → (∀ x ∈ order, 0 ≤ x ∧ x < L.length) → OwnR h ar rs.length cr rs → rs.length + n ≤ 2 ^ 30 →
    (∀ b h', Old h.size h h' → K (.bool b) h') → CallH Try.prog 52 #[.slice a L.length c, .slice a2 n c2, .slice ar rs.length cr] h K
theorem legal_step {L : List Op9} {n : Nat} (ih : LegalOK L n) : LegalOK L (n + 1) := by
  intro K h a a2 ar c c2 cr order rs H R hr own hl k
  refine call52 ?_
  unfold F52
  have hlen := R.len
  refine ifB_mk (fun e => by have : ((n + 1 : Nat) : Int) = 0 := by simpa using e
                             omega) (fun _ => ?_)
  refine ⟨by omega, by omega, ?_⟩
  obtain ⟨ad, rfl, hc⟩ := R.at (show 0 < order.length by omega)
  simp only [asPtr_some]
  have ead : ad.add 0 = ad := by cases ad; rfl
  rw [ead] at hc
  refine ldH_mk hc ?_
  simp only [asInt_int]
  obtain ⟨x0, x1⟩ := hr _ (List.getElem_mem (show 0 < order.length by omega))
  generalize order[0] = x at *
  refine ⟨x0, x1, ?_⟩
  obtain ⟨bd, rfl, d0, d1⟩ := H.int x0 x1
  simp only [asPtr_some]
  generalize ho : opAt L x = o at *
  refine ldH_mk (d1 0 _ rfl) (ldH_mk (d1 1 _ rfl) (ldH_mk (d1 2 _ rfl) (ldH_mk (d1 3 _ rfl) (ldH_mk (d1 4 _ rfl) (ldH_mk (d1 5 _ rfl) (ldH_mk (d1 6 _ rfl) (ldH_mk (d1 7 _ rfl) (ldH_mk (d1 8 _ rfl) ?_))))))))
  have p9 := pushed h zs9.toArray 65
  rw [show h.push (.cells #[.int .i64 0, .int .i64 0, .int .u32 0, .int .u32 0, .int .i64 0, .int .u32 0, .int .u32 0, .int .i64 0, .int .i64 0] 65) = h.push (.cells zs9.toArray 65) from rfl]
  generalize h.push (.cells zs9.toArray 65) = h1 at *
  refine st9 (stN_full (vs := o.cells) p9.new rfl (cells9_one o) fun h21 w21 => ?_)
  have o21 : Old h.size h h21 := w21.toOld p9.toOld (Nat.le_refl _)
  have n21 := w21.new
  have own21 : OwnR h21 ar rs.length cr rs := own.keep fun ad e => o21.2 _ (own.lt ad e)
  have hrd : ∀ x ∈ order.drop 1, 0 ≤ x ∧ x < L.length := fun x hx => hr x (List.mem_of_mem_drop hx)
  have next : ∀ {K2 : Value → Heap → Prop} {h2 : Heap} {ar2 : Option Addr} {cr2 : Nat} {ts : List Pr}, Old h.size h h2 → OwnR h2 ar2 ts.length cr2 ts → ts.length ≤ rs.length + 1 → (∀ b h', Old h.size h h' → K2 (.bool b) h') →
      CallH Try.prog 52 #[.slice (some bd) L.length c, .slice (subA (some ad) 1 c2 1) (n + 1 - 1) (c2 - 1), .slice ar2 ts.length cr2] h2 K2 := by
    intro K2 h2 ar2 cr2 ts o2 own2 hts kk
    exact @ih K2 h2 _ _ _ _ _ _ (order.drop 1) ts (H.old o2) ((R.old o2).drop (by omega)) hrd own2 (by omega) fun b h' o' => kk b h' (o2.trans (o'.mono o2.1))
  refine ldR n21 rfl ?_
  simp only [asInt_int]
  refine ifB_dec (fun hto => ?_) (fun hto => ?_)
  · refine ldR n21 rfl ?_
    rw [add_lit, add_lit, add_lit, add_lit]
    refine ldR n21 rfl (ldR n21 rfl (ldR n21 rfl (ldR n21 rfl (ldR n21 rfl ?_))))
    refine callV_fn (refDo_call (c3 := opC o) (a3 := opA o) own21 (by omega) fun ar' cr' h31 own31 hb31 o31 => ?_)
    simp only [asTup_tuple]
    refine elemH_mk rfl ?_
    simp only [asSlice_slice]
    refine elemH_mk rfl ?_
    simp only [asBool_bool]
    have ok31 := o21.trans (o31.mono o21.1)
    refine ifB_mk (fun hs => ⟨by omega, by omega, callV_fn (next ok31 own31 (doR_len' _ _ _) fun b h' o' => by simp only [asBool_bool]; exact k b h' o')⟩) (fun hs => k _ _ ok31)
  · refine ldR n21 rfl ?_
    simp only [asInt_int]
    refine ifB_mk (fun hop => ?_) (fun hop => ?_)
    · refine ldR n21 rfl ?_
      rw [add_lit, add_lit]
      refine ldR n21 rfl (ldR n21 rfl ?_)
      refine callV_fn (refDo_call (c3 := opC o) (a3 := ⟨0, 0, 0⟩) own21 (by omega) fun ar' cr' h31 own31 hb31 o31 => ?_)
      simp only [asTup_tuple]
      refine elemH_mk rfl ?_
      simp only [asSlice_slice]
      refine elemH_mk rfl ?_
      simp only [asBool_bool]
      have ok31 := o21.trans (o31.mono o21.1)
      refine ifB_mk (fun hs => ⟨by omega, by omega, callV_fn (next ok31 own31 (doR_len' _ _ _) fun b h' o' => by simp only [asBool_bool]; exact k b h' o')⟩) (fun hs => k _ _ ok31)
    · refine ldR n21 rfl ?_
      simp only [asInt_int]
      refine ifB_mk (fun hop2 => ⟨by omega, by omega, callV_fn (next o21 own21 (by omega) fun b h' o' => by simp only [asBool_bool]; exact k b h' o')⟩) (fun hop2 => ?_)
      refine callV_fn (refLeast_call (ownR_sx own21) (by omega) ?_)
      simp only [asTup_tuple]
      refine elemH_mk rfl ?_
      simp only [asInt_int]
      refine elemH_mk rfl ?_
      simp only [asBool_bool]
      refine ifB_mk (fun he => ⟨by omega, by omega, callV_fn (next o21 own21 (by omega) fun b h' o' => by simp only [asBool_bool]; exact k b h' o')⟩) (fun he => ?_)
      refine ⟨fun vs h' => ∃ w, ∃ j : Nat, vs = [w, iv j] ∧ j ≤ rs.length ∧ Old h21.size h21 h', fun vs _ => (match vs with | [_, .int _ n] => rs.length - n.toNat | _ => 0), ⟨_, 0, rfl, Nat.zero_le _, Old.refl _ _⟩, ?_⟩
      rintro v79 v80 g81 h82 ⟨w, j, e, hj, o82⟩
      cases e
      simp only [asInt_int, asI_int]
      have ok82 := o21.trans (o82.mono o21.1)
      have own82 : OwnR h82 ar rs.length cr rs := own21.keep fun ad e => o82.2 _ (own21.lt ad e)
      refine ifB_dec (fun hlt => ?_) (fun hge => k _ _ ok82)
      have hj' : j < rs.length := by omega
      refine ⟨fun vs h' => ∃ bb, vs = [.bool bb] ∧ Old h21.size h21 h', ?_, ?_⟩
      · obtain ⟨adr, rfl, hc0, hc1⟩ := spr_at (ownR_sx own82) hj'
        refine ⟨by omega, by omega, ?_⟩
        simp only [asPtr_some, Int.toNat_natCast]
        refine ldH_mk hc0 ?_
        simp only [asInt_int]
        refine ifB_mk (fun hk => ?_) (fun hk => ⟨_, rfl, o82⟩)
        refine ⟨by omega, by omega, ?_⟩
        refine ⟨by omega, by omega, ldH_mk hc0 (ldH_mk hc1 ?_)⟩
        refine callV_fn (refWithout_call (p := rs[j]) (ownR_sx own82) (by omega) fun a3 c3 h94 own94 hb94 o94 => ?_)
        simp only [asSlice_slice]
        have ok94 := ok82.trans (o94.mono ok82.1)
        have hel : (rs.erase rs[j]).length ≤ rs.length := (List.erase_sublist).length_le
        refine callV_fn (@ih _ h94 _ _ _ _ _ _ (order.drop 1) _ (H.old ok94) ((R.old ok94).drop (by omega)) hrd own94 (by omega) fun b h' o' => ?_)
        simp only [asBool_bool]
        exact ⟨b, rfl, o82.trans ((o94.trans (o'.mono o94.1)).mono o82.1)⟩
      · rintro v101 g102 h103 ⟨bb, e, o103⟩
        cases e
        simp only [asBool_bool]
        refine ifB_mk (fun hs => k _ _ (o21.trans (o103.mono o21.1))) (fun hs => ?_)
        rw [nat_wrap1 (by omega)]
        exact ⟨⟨_, j + 1, rfl, by omega, o103⟩, by show rs.length - ((j + 1 : Nat) : Int).toNat < rs.length - (j : Int).toNat; omega⟩
theorem legal_ok {L : List Op9} : ∀ n, LegalOK L n := by
  intro n
  induction n with
  | zero =>
    intro K h a a2 ar c c2 cr order rs H R hr own hl k
    refine call52 ?_
    unfold F52
    exact k _ _ (Old.refl _ _)
  | succ n ih => exact legal_step ih
theorem can_nodup {L : List Op9} {T : List Int} {ps : List Pr} {w : List Int} (H : Can L T ps w) : (∀ x ∈ w, (0 ≤ x ∧ x < L.length) ∧ x ∉ T) ∧ w.Nodup := by
  induction H with
  | full h => exact ⟨fun x hx => by simp at hx, List.nodup_nil⟩
  | step hx ha hd h ih =>
    rename_i T ps qs x a w
    have hm := mem_nextL.1 hx
    refine ⟨fun y hy => ?_, List.nodup_cons.2 ⟨fun hin => (ih.1 x hin).2 (by simp), ih.2⟩⟩
    rcases List.mem_cons.1 hy with rfl | hy
    · exact ⟨hm.1, hm.2.1⟩
    · exact ⟨(ih.1 y hy).1, fun ht => (ih.1 y hy).2 (List.mem_append_left _ ht)⟩
/-- Is it linearizable? If so it is; that the order told is held against the document's may tell no. -/
theorem linear_call {K : Value → Heap → Prop} {h : Heap} {a : Option Addr} {l c : Nat} {es : List Ev8} (H : SV h a l c es) (hl : l ≤ 48) (hR : ∀ o ∈ opsE es, InR o.key ∧ InR o.val)
    (k1 : RightH es → Lin (opsE es) → ∀ b h', Old h.size h h' → K (.bool b) h') (k0 : ∀ h', Old h.size h h' → K (.bool false) h') :
    CallH Try.prog 31 #[.slice a l c] h K := by
  refine call31 ?_
  unfold F31
  have hlen := H.len
  have hol := opsE_len_le es
  refine callV_fn (refRightH_call H (by omega) (fun hRi h1 o1 => ?_) (fun _ h1 o1 => ?_))
  rotate_left
  · simp only [asBool_bool, Bool.not_false, ifB_true]
    exact k0 h1 o1
  simp only [asBool_bool, Bool.not_true, ifB_false]
  refine callV_fn (refOpers_call (H.old o1) (by omega) fun a4 c4 h4 S4 o4 => ?_)
  simp only [asSlice_slice]
  have ok4 := o1.trans (o4.mono o1.1)
  refine callV_fn (check_call S4 (by omega) hR (fun w a9 c9 h9 hcan R9 o9 => ?_) (fun hno h9 o9 => ?_))
  · simp only [asTup_tuple]
    refine elemH_mk rfl ?_
    simp only [asSlice_slice]
    refine elemH_mk rfl ?_
    simp only [asBool_bool, ifB_true]
    have ok9 := ok4.trans (o9.mono ok4.1)
    have S9 := S4.old o9
    obtain ⟨w1, w2⟩ := can_nodup hcan
    have hwl : w.length ≤ (opsE es).length := range_len w2 fun y hy => (w1 y hy).1
    refine callV_fn (may14_call S9 (by omega) R9 (by omega) (fun _ h19 o19 => ?_) (fun _ h19 o19 => ?_))
    · simp only [asBool_bool, ifB_true]
      have ok19 := ok9.trans (o19.mono ok9.1)
      have hlg : LegalOK (opsE es) w.length := legal_ok _
      refine callV_fn (@hlg _ h19 _ _ none _ _ 0 w [] (S9.old o19) (R9.old o19) (fun x hx => (w1 x hx).1) (Own.nil _ _ _) (by simp; omega) fun b h' o' => ?_)
      simp only [asBool_bool]
      exact k1 hRi ⟨w, hcan⟩ b h' (ok19.trans (o'.mono ok19.1))
    · simp only [asBool_bool, ifB_false]
      exact k0 h19 (ok9.trans (o19.mono ok9.1))
  · simp only [asTup_tuple]
    refine elemH_mk rfl ?_
    simp only [asSlice_slice]
    refine elemH_mk rfl ?_
    simp only [asBool_bool, ifB_false]
    exact k0 h9 (ok4.trans (o9.mono ok4.1))
theorem follows_body {K : Value → Heap → Prop} {h : Heap} {a : Option Addr} {l c : Nat} {es : List Ev8} (H : SV h a l c es) (hE : ∀ e ∈ es, InE e)
    (k : ∀ h', Old h.size h h' → K (.bool true) h') : F8 K h a l c := by
  unfold F8
  have hlen := H.len
  have hol := opsE_len_le es
  have hIn : ∀ o ∈ opsE es, InR o.key ∧ InR o.val := inR_ops hE (Nat.le_refl _)
  refine ⟨fun vs h' => ∃ w b, vs = [w, .bool b] ∧ Old h.size h h' ∧ (b = false → l ≤ 16 ∧ RightH es ∧ Lin (opsE es)), ?_, ?_⟩
  · refine ifB_dec (fun q => ⟨_, _, rfl, Old.refl _ _, fun h => by cases h⟩) (fun q => ?_)
    refine callV_fn (refRightH_call H (by omega) (fun hRi h2 o2 => ?_) (fun _ h2 o2 => ?_))
    · simp only [asBool_bool, Bool.not_true, ifB_false]
      refine callV_fn (linear_call (H.old o2) (by omega) hIn (fun _ hlin b h5 o5 => ?_) (fun h5 o5 => ?_))
      · simp only [asBool_bool]
        exact ⟨_, !b, rfl, o2.trans (o5.mono o2.1), fun _ => ⟨by omega, hRi, hlin⟩⟩
      · simp only [asBool_bool]
        exact ⟨_, !false, rfl, o2.trans (o5.mono o2.1), fun h => by cases h⟩
    · simp only [asBool_bool, Bool.not_false, ifB_true]
      exact ⟨_, true, rfl, o2, fun h => by cases h⟩
  rintro v7 v8 g9 h10 ⟨_, b, e, o10, hb⟩
  cases e
  simp only [asBool_bool]
  refine ifB_mk (fun q => callV_fn (lives39_call fun h' o => by simp only [asBool_bool]; exact k h' (o10.trans (o.mono o10.1)))) (fun q => ?_)
  obtain ⟨hl, hRi, hlin⟩ := hb q
  refine callV_fn (refOpers_call (H.old o10) (by omega) fun a' c' h16 S16 o16 => ?_)
  simp only [asSlice_slice]
  have ok16 := o10.trans (o16.mono o10.1)
  refine callV_fn (ranks_call (b0 := true) (b1 := true) (b2 := true) S16 (by omega) hIn ⟨fun _ => follows hRi hlin 0, fun _ => rfl⟩ ⟨fun _ => follows hRi hlin 1, fun _ => rfl⟩ ⟨fun _ => follows hRi hlin 2, fun _ => rfl⟩ fun h21 o21 => ?_)
  simp only [asAgg_agg]
  refine sizeH_mk rfl (elemH_mk rfl (elemH_mk rfl (elemH_mk rfl ?_)))
  refine eqvH_b3 eqv_b3b ?_
  simp only [ifB_true]
  have ok21 := ok16.trans (o21.mono ok16.1)
  refine callV_fn (lives39_call fun h' o => ?_)
  simp only [asBool_bool]
  exact k h' (ok21.trans (o.mono ok21.1))
end Go.Proofs.Ytlncjcbofgjcfaa
end
