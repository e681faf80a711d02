/- Sums of rows; whether a row is small. -/
import Derived.Test.YtgladmaagpcffaaYd
set_option linter.unusedSimpArgs false
set_option linter.unusedVariables false
set_option maxRecDepth 20000
namespace Go.Proofs.Ytgladmaagpcffaa

def zeroR : Ro := ⟨0, 0, 0, 0, 0, 0, 0⟩
def addR (s r : Ro) : Ro := ⟨s.c0 + r.c0, s.c1 + r.c1, s.c2 + r.c2, s.c3 + r.c3, s.c4 + r.c4, s.c5 + r.c5, s.c6 + r.c6⟩
/-- The first columns added. -/
def mixR (j : Nat) (s r : Ro) : Ro :=
  ⟨if 0 < j then s.c0 + r.c0 else s.c0, if 1 < j then s.c1 + r.c1 else s.c1, if 2 < j then s.c2 + r.c2 else s.c2, if 3 < j then s.c3 + r.c3 else s.c3, if 4 < j then s.c4 + r.c4 else s.c4, if 5 < j then s.c5 + r.c5 else s.c5, if 6 < j then s.c6 + r.c6 else s.c6⟩
theorem mixR_zero (s r : Ro) : mixR 0 s r = s := rfl
theorem mixR_seven (s r : Ro) : mixR 7 s r = addR s r := rfl
def sumR (rs : List Ro) : Ro := rs.foldl addR zeroR
theorem sumR_succ {rs : List Ro} {i : Nat} (h : i < rs.length) : sumR (rs.take (i + 1)) = addR (sumR (rs.take i)) rs[i] := by
  unfold sumR
  rw [List.take_succ_eq_append_getElem h, List.foldl_append]; rfl
theorem Bd.add {A B : Int} {s r : Ro} (H : Bd A s) (H2 : Bd B r) : Bd (A + B) (addR s r) := by
  obtain ⟨b0, b1, b2, b3, b4, b5, b6⟩ := H
  obtain ⟨d0, d1, d2, d3, d4, d5, d6⟩ := H2
  unfold addR
  exact ⟨by show 0 ≤ s.c0 + r.c0 ∧ s.c0 + r.c0 ≤ _; omega, by show 0 ≤ s.c1 + r.c1 ∧ s.c1 + r.c1 ≤ _; omega, by show 0 ≤ s.c2 + r.c2 ∧ s.c2 + r.c2 ≤ _; omega, by show 0 ≤ s.c3 + r.c3 ∧ s.c3 + r.c3 ≤ _; omega, by show 0 ≤ s.c4 + r.c4 ∧ s.c4 + r.c4 ≤ _; omega, by show 0 ≤ s.c5 + r.c5 ∧ s.c5 + r.c5 ≤ _; omega, by show 0 ≤ s.c6 + r.c6 ∧ s.c6 + r.c6 ≤ _; omega⟩
theorem Bd.mono {A B : Int} {r : Ro} (H : Bd A r) (h : A ≤ B) : Bd B r := by
  obtain ⟨b0, b1, b2, b3, b4, b5, b6⟩ := H
  exact ⟨by omega, by omega, by omega, by omega, by omega, by omega, by omega⟩
theorem sumR_bd {rs : List Ro} (H : ∀ r ∈ rs, Bd 1000000 r) : ∀ i, i ≤ rs.length → Bd (1000000 * i) (sumR (rs.take i)) := by
  intro i
  induction i with
  | zero =>
    intro _
    have z : (0 : Int) ≤ 0 ∧ (0 : Int) ≤ 1000000 * ((0 : Nat) : Int) := by omega
    exact ⟨z, z, z, z, z, z, z⟩
  | succ i ih =>
    intro hi
    rw [sumR_succ (by omega)]
    exact ((ih (by omega)).add (H _ (List.getElem_mem (by omega)))).mono (by omega)

/-- A slice of rows, to be read. -/
structure RS (h : Heap) (a : Option Addr) (l c : Nat) (rs : List Ro) : Prop where
  s : Sees h a (rs.flatMap Ro.cells)
  len : rs.length = l
  cap : l ≤ c
theorem RS.old {h h' : Heap} {a : Option Addr} {l c : Nat} {rs : List Ro} (H : RS h a l c rs) (ho : Old h.size h h') : RS h' a l c rs := ⟨H.s.old ho, H.len, H.cap⟩
theorem flat7_len (rs : List Ro) : (rs.flatMap Ro.cells).length = rs.length * 7 := by
  induction rs with
  | nil => rfl
  | cons e rs ih =>
    have h7 : e.cells.length = 7 := rfl
    rw [List.flatMap_cons, List.length_append, ih, h7, List.length_cons]; omega
theorem flat7_get {rs : List Ro} : ∀ {i : Nat} (hi : i < rs.length) {j : Nat}, j < 7 → (rs.flatMap Ro.cells)[i * 7 + j]? = (rs[i]).cells[j]? := by
  induction rs with
  | nil => intro i hi; simp at hi
  | cons e rs ih =>
    intro i hi j hj
    have h7 : e.cells.length = 7 := rfl
    rw [List.flatMap_cons]
    cases i with
    | zero => rw [List.getElem?_append_left (by omega)]; simp
    | succ i =>
      rw [List.getElem?_append_right (by omega), h7, show (i + 1) * 7 + j - 7 = i * 7 + j by omega]
      exact ih (by simpa using hi) hj
theorem RS.at {h : Heap} {a : Option Addr} {l c : Nat} {rs : List Ro} (H : RS h a l c rs) {i : Nat} (hi : i < rs.length) : ∃ ad, a = some ad ∧ ∀ (j : Nat) (v : Value), (rs[i]).cells[j]? = some v → cellAt h ((ad.add (i * 7)).add j) = some v := by
  have h0 : (rs.flatMap Ro.cells)[i * 7 + 0]? = some (iv (rs[i]).c0) := flat7_get hi (by omega)
  obtain ⟨ad, e, _⟩ := H.s _ _ h0
  refine ⟨ad, e, fun j v hv => ?_⟩
  have hj : j < 7 := (List.getElem?_eq_some_iff.1 hv).1
  obtain ⟨ad', e', hc⟩ := H.s (i * 7 + j) v ((flat7_get hi hj).trans hv)
  rw [e] at e'; cases e'
  rw [add_add]; exact hc

abbrev zs7 : List Value := List.replicate 7 (iv 0)
theorem small_call {K : Value → Heap → Prop} {h : Heap} {r : Ro} (k1 : Bd 1000000 r → ∀ h', Old h.size h h' → K (.bool true) h') (k0 : ∀ h', Old h.size h h' → K (.bool false) h') : CallH Try.prog 61 #[.agg r.cells.toArray] h K := by
  refine call61 ?_
  unfold F61
  have p := pushed h r.cells.toArray 72
  rw [show h.push (.cells #[.int .i64 r.c0, .int .i64 r.c1, .int .i64 r.c2, .int .i64 r.c3, .int .i64 r.c4, .int .i64 r.c5, .int .i64 r.c6] 72) = h.push (.cells r.cells.toArray 72) from rfl]
  generalize h.push (.cells r.cells.toArray 72) = h1 at *
  have s1 := p.size
  have p2 := pushed h1 zs7.toArray 105
  rw [show h1.push (.cells #[.int .i64 0, .int .i64 0, .int .i64 0, .int .i64 0, .int .i64 0, .int .i64 0, .int .i64 0] 105) = h1.push (.cells zs7.toArray 105) from rfl]
  generalize h1.push (.cells zs7.toArray 105) = h2 at *
  have e2 : h2[h.size]? = some (.cells r.cells.toArray 72) := (p2.old _ (by omega)).trans p.new
  have o2 := p.toOld.trans (p2.toOld.mono (by omega))
  iterate 7
    refine ldR p.new rfl ?_
    simp only [asInt_int]
  refine st7 (stN_full (vs := r.cells) p2.new rfl (cells_one r) fun h3 w => ?_)
  have o3 := w.toOld o2 (by omega)
  have g : ∀ j, j < 7 → cellAt h3 ((⟨h1.size, 0, none⟩ : Addr).add j) = some (iv (r.ns.getD j 0)) := by
    intro j hj
    rw [add_lit, Nat.zero_add]
    refine cellR w.new ?_
    match j, hj with
    | 0, _ | 1, _ | 2, _ | 3, _ | 4, _ | 5, _ | 6, _ => rfl
  refine ⟨fun vs h' => ∃ w, ∃ j : Nat, vs = [w, iv j] ∧ h' = h3 ∧ j ≤ 7 ∧ ∀ q, q < j → 0 ≤ r.ns.getD q 0 ∧ r.ns.getD q 0 ≤ 1000000, fun vs _ => (match vs with | [_, .int _ n] => 7 - n.toNat | _ => 0), ⟨_, 0, rfl, rfl, Nat.zero_le _, fun q h => by omega⟩, ?_⟩
  rintro v23 v24 g25 h26 ⟨w0, j, e, rfl, hj, hall⟩
  cases e
  simp only [asInt_int]
  refine ifB_dec (fun hlt => ?_) (fun hge => ?_)
  · have hj7 : j < 7 := by omega
    refine ⟨fun vs h' => ∃ b : Bool, vs = [.bool b] ∧ h' = h26 ∧ (b = false → 0 ≤ r.ns.getD j 0 ∧ r.ns.getD j 0 ≤ 1000000), ?_, ?_⟩
    · refine ⟨by omega, hlt, ?_⟩
      simp only [Int.toNat_natCast, Nat.mul_one]
      refine ldH_mk (g j hj7) ?_
      simp only [asInt_int]
      refine ifB_dec (fun hneg => ⟨true, rfl, by trivial, fun e => by cases e⟩) (fun hpos => ?_)
      refine ⟨by omega, hlt, ldH_mk (g j hj7) ?_⟩
      simp only [asInt_int]
      refine ⟨_, rfl, by trivial, fun e => ?_⟩
      have := of_decide_eq_false e
      omega
    rintro v35 g36 h37 ⟨b, e, rfl, hb⟩
    cases e
    simp only [asBool_bool]
    refine ifB_mk (fun _ => k0 _ o3) (fun hb0 => ?_)
    rw [nat_wrap1 (by omega)]
    refine ⟨⟨_, j + 1, rfl, by trivial, by omega, fun q hq => ?_⟩, ?_⟩
    · by_cases e : q < j
      · exact hall q e
      · obtain rfl : q = j := by omega
        exact hb hb0
    · show 7 - ((j + 1 : Nat) : Int).toNat < 7 - (j : Int).toNat
      omega
  · obtain rfl : j = 7 := by omega
    exact k1 ⟨hall 0 (by omega), hall 1 (by omega), hall 2 (by omega), hall 3 (by omega), hall 4 (by omega), hall 5 (by omega), hall 6 (by omega)⟩ _ o3

theorem total_call {K : Value → Heap → Prop} {h : Heap} {a : Option Addr} {l c : Nat} {rs : List Ro} (H : RS h a l c rs) (hl : l ≤ 1000) (hb : ∀ r ∈ rs, Bd 1000000 r) (k : ∀ h', Old h.size h h' → K (.agg (sumR rs).cells.toArray) h') :
    CallH Try.prog 64 #[.slice a l c] h K := by
  refine call64 ?_
  unfold F64
  have hlen := H.len
  have p := pushed h zs7.toArray 72
  rw [show h.push (.cells #[.int .i64 0, .int .i64 0, .int .i64 0, .int .i64 0, .int .i64 0, .int .i64 0, .int .i64 0] 72) = h.push (.cells zs7.toArray 72) from rfl]
  generalize h.push (.cells zs7.toArray 72) = h1 at *
  have s1 := p.size
  have p2 := pushed h1 zs7.toArray 105
  rw [show h1.push (.cells #[.int .i64 0, .int .i64 0, .int .i64 0, .int .i64 0, .int .i64 0, .int .i64 0, .int .i64 0] 105) = h1.push (.cells zs7.toArray 105) from rfl]
  generalize h1.push (.cells zs7.toArray 105) = h2 at *
  have s2 := p2.size
  have e2 : h2[h.size]? = some (.cells zs7.toArray 72) := (p2.old _ (by omega)).trans p.new
  have o2 := p.toOld.trans (p2.toOld.mono (by omega))
  have n2 := p2.new
  rw [s1] at n2 ⊢
  refine ⟨fun vs h' => ∃ w0 w2, ∃ i : Nat, vs = [w0, iv i, w2] ∧ i ≤ l ∧ Old h.size h h' ∧ h.size + 2 ≤ h'.size ∧ h'[h.size]? = some (.cells zs7.toArray 72) ∧ h'[h.size + 1]? = some (.cells (sumR (rs.take i)).cells.toArray 105), fun vs _ => (match vs with | [_, .int _ n, _] => l - n.toNat | _ => 0),
    ⟨_, _, 0, rfl, Nat.zero_le _, o2, by omega, e2, n2⟩, ?_⟩
  rintro v2 v3 v4 g5 h6 ⟨w0, w2, i, e, hi, o6, hs6, z6, m6⟩
  cases e
  simp only [asInt_int, asI_int]
  refine ifB_dec (fun hlt => ?_) (fun hge => ?_)
  · have hi' : i < rs.length := by omega
    obtain ⟨ad, rfl, hc⟩ := (H.old o6).at hi'
    have hsum := sumR_bd hb i (by omega)
    have hri := hb _ (List.getElem_mem hi')
    have hsucc := sumR_succ hi'
    generalize hrow : rs[i] = r at *
    generalize hsm : sumR (rs.take i) = s at *
    refine ⟨by omega, hlt, ?_⟩
    simp only [asPtr_some, Int.toNat_natCast]
    refine ldH_mk (hc 0 _ rfl) (ldH_mk (hc 1 _ rfl) (ldH_mk (hc 2 _ rfl) (ldH_mk (hc 3 _ rfl) (ldH_mk (hc 4 _ rfl) (ldH_mk (hc 5 _ rfl) (ldH_mk (hc 6 _ rfl) ?_))))))
    have p7 := pushed h6 zs7.toArray 72
    rw [show h6.push (.cells #[.int .i64 0, .int .i64 0, .int .i64 0, .int .i64 0, .int .i64 0, .int .i64 0, .int .i64 0] 72) = h6.push (.cells zs7.toArray 72) from rfl]
    generalize h6.push (.cells zs7.toArray 72) = h7 at *
    refine st7 (stN_full (vs := r.cells) p7.new rfl (cells_one r) fun h23 w23 => ?_)
    have o23 : Old h6.size h6 h23 := w23.toOld p7.toOld (Nat.le_refl _)
    refine ldR w23.new rfl (ldR w23.new rfl (ldR w23.new rfl (ldR w23.new rfl (ldR w23.new rfl (ldR w23.new rfl (ldR w23.new rfl ?_))))))
    refine callV_fn (numbers_call (r := r) fun h32 o32 => ?_)
    simp only [asAgg_agg]
    refine sizeH_mk rfl (elemH_mk rfl (elemH_mk rfl (elemH_mk rfl (elemH_mk rfl (elemH_mk rfl (elemH_mk rfl (elemH_mk rfl ?_)))))))
    have o632 := o23.trans (o32.mono o23.1)
    have p33 := pushed h32 zs7.toArray 105
    rw [show h32.push (.cells #[.int .i64 0, .int .i64 0, .int .i64 0, .int .i64 0, .int .i64 0, .int .i64 0, .int .i64 0] 105) = h32.push (.cells zs7.toArray 105) from rfl]
    generalize h32.push (.cells zs7.toArray 105) = h33 at *
    refine st7 (stN_full (vs := r.cells) p33.new rfl (cells_one r) fun h47 w47 => ?_)
    have o47 : Old h6.size h6 h47 := w47.toOld (o632.trans (p33.toOld.mono o632.1)) o632.1
    have hs47 : h6.size < h32.size + 1 := by have := o632.1; omega
    have z47 : h47[h32.size]? = some (.cells r.cells.toArray 105) := w47.new
    refine ⟨fun vs h' => ∃ w, ∃ j : Nat, vs = [w, iv j] ∧ j ≤ 7 ∧ Wrote h47 (h.size + 1) (mixR j s r).cells.toArray 105 h', fun vs _ => (match vs with | [_, .int _ n] => 7 - n.toNat | _ => 0), ⟨_, 0, rfl, Nat.zero_le _, rfl, ?_, fun _ _ => rfl⟩, ?_⟩
    · rw [mixR_zero]; exact (o47.2 _ (by omega)).trans m6
    rintro v50 v51 g52 h53 ⟨w1, j, e, hj, w53⟩
    cases e
    simp only [asInt_int]
    have o53 : Old h.size h h53 := by
      have := o6.trans (o47.mono o6.1)
      exact w53.toOld this (by omega)
    refine ifB_dec (fun hltj => ?_) (fun hgej => ?_)
    · have hj7 : j < 7 := by omega
      have c1 : cellAt h53 ((⟨h.size + 1, 0, none⟩ : Addr).add j) = some (iv (s.ns.getD j 0)) := by
        rw [add_lit, Nat.zero_add]
        refine cellR w53.new ?_
        match j, hj7 with
        | 0, _ | 1, _ | 2, _ | 3, _ | 4, _ | 5, _ | 6, _ => rfl
      have c2 : cellAt h53 ((⟨h32.size, 0, none⟩ : Addr).add j) = some (iv (r.ns.getD j 0)) := by
        rw [add_lit, Nat.zero_add]
        refine cellR ((w53.old _ (by have := o632.1; omega)).trans z47) ?_
        match j, hj7 with
        | 0, _ | 1, _ | 2, _ | 3, _ | 4, _ | 5, _ | 6, _ => rfl
      obtain ⟨a0, a1⟩ := hsum.get (by omega) j
      obtain ⟨d0, d1⟩ := hri.get (by omega) j
      refine ⟨by omega, hltj, ?_⟩
      simp only [Int.toNat_natCast, Nat.mul_one]
      refine ldH_mk c1 ?_
      simp only [asInt_int]
      refine ⟨by omega, hltj, ldH_mk c2 ?_⟩
      simp only [asInt_int]
      refine ⟨by omega, hltj, ?_⟩
      rw [add_lit, Nat.zero_add, wrap64_id' (by omega) (by omega)]
      refine stR w53.new (by
        match j, hj7 with
        | 0, _ | 1, _ | 2, _ | 3, _ | 4, _ | 5, _ | 6, _ => rfl) trivial fun h60 w60 => ?_
      rw [nat_wrap1 (by omega)]
      refine ⟨⟨_, j + 1, rfl, by omega, ?_⟩, ?_⟩
      · have er : ((mixR j s r).cells.set j (.int .i64 (s.ns.getD j 0 + r.ns.getD j 0))).toArray = (mixR (j + 1) s r).cells.toArray := by
          match j, hj7 with
          | 0, _ | 1, _ | 2, _ | 3, _ | 4, _ | 5, _ | 6, _ => rfl
        have := w53.trans w60
        rw [er] at this
        exact this
      · show 7 - ((j + 1 : Nat) : Int).toNat < 7 - (j : Int).toNat
        omega
    · obtain rfl : j = 7 := by omega
      rw [nat_wrap1 (by omega)]
      refine ⟨⟨_, _, i + 1, rfl, by omega, o53, by rw [w53.size]; have := o47.1; omega, ?_, ?_⟩, ?_⟩
      · exact (w53.old _ (by omega)).trans ((o47.2 _ (by omega)).trans z6)
      · rw [hsucc, ← mixR_seven]; exact w53.new
      · show l - ((i + 1 : Nat) : Int).toNat < l - (i : Int).toNat
        omega
  · obtain rfl : i = rs.length := by omega
    rw [List.take_length] at m6
    refine ldR m6 rfl (ldR m6 rfl (ldR m6 rfl (ldR m6 rfl (ldR m6 rfl (ldR m6 rfl (ldR m6 rfl ?_))))))
    refine callV_fn (row40_call (r := sumR rs) fun h71 o71 => ?_)
    simp only [asAgg_agg]
    refine sizeH_mk rfl (elemH_mk rfl (elemH_mk rfl (elemH_mk rfl (elemH_mk rfl (elemH_mk rfl (elemH_mk rfl (elemH_mk rfl ?_)))))))
    refine st7 (stN_full (vs := (sumR rs).cells) ((o71.2 _ (by omega)).trans z6) rfl (cells_one _) fun h86 w86 => ?_)
    refine ldR w86.new rfl (ldR w86.new rfl (ldR w86.new rfl (ldR w86.new rfl (ldR w86.new rfl (ldR w86.new rfl (ldR w86.new rfl ?_))))))
    exact k _ (w86.toOld (o6.trans (o71.mono o6.1)) (Nat.le_refl _))
end Go.Proofs.Ytgladmaagpcffaa
