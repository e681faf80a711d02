/- How many numbers are looked at. -/
import Derived.Test.YtgladmaagpcffaaUc
set_option linter.unusedSimpArgs false
set_option linter.unusedVariables false
set_option maxRecDepth 20000
namespace Go.Proofs.Ytgladmaagpcffaa

abbrev backV (vs : List Value) (k : Nat) : Array Value := #[iv ((vs.length - 1 - k : Nat) : Int), vs.getD (vs.length - 1 - k) (.tuple #[])]
theorem backR_seq {p : Nat} {a : Option Addr} {l c : Nat} {vs : List Value} (hl : l < 2 ^ 60) (hv : vs.length = l) (hf : ∀ (i : Nat) (v : Value), vs[i]? = some v → ∃ ai li ci, v = .slice ai li ci) :
    SeqH Try.prog (.func (.func 144) #[] #[.pointer (some ⟨p, 0, none⟩)]) vs.length (backV vs) (fun h => cellAt h ⟨p, 0, none⟩ = some (.slice a l c) ∧ Sees h a vs) := by
  intro yf y1 y2 h N I X hN hev hok hy
  refine callV_cl ?_
  rw [cl2]
  refine call144 ?_
  unfold F144
  simp only [asPtr_some]
  refine ldH_mk hev.1 ?_
  simp only [asSlice_slice]
  refine ⟨fun vs h' => ∃ k : Nat, vs = [iv ((l : Int) - 1 - k)] ∧ k ≤ l ∧ h.size ≤ h'.size ∧ I h.size k h', fun vs _ => (match vs with | [.int _ n] => (n + 1).toNat | _ => 0), ⟨0, by rw [wrap64_id' (by omega) (by omega)]; simp, by omega, Nat.le_refl _, hok.self⟩, ?_⟩
  rintro v7 g h9 ⟨k, e, hk, hs, hI⟩
  cases e
  simp only [asInt_int, asI_int]
  refine ifB_dec (fun hlt => ?_) (fun hge => ?_)
  · have hlt' : k < vs.length := by omega
    have hlt2 : vs.length - 1 - k < vs.length := by omega
    have hev9 := hok.env _ _ _ hN hs hI
    refine ldH_mk hev9.1 ?_
    simp only [asSlice_slice]
    have ek : vs[vs.length - 1 - k]? = some vs[vs.length - 1 - k] := List.getElem?_eq_getElem hlt2
    obtain ⟨ad, rfl, hc⟩ := hev9.2 _ _ ek
    obtain ⟨ai, li, ci, ev⟩ := hf _ _ ek
    refine ⟨by omega, by omega, ?_⟩
    have ek2 : (l : Int) - 1 - k = ((vs.length - 1 - k : Nat) : Int) := by omega
    rw [ek2]
    simp only [asPtr_some, Int.toNat_natCast, Nat.mul_one]
    refine ldH_mk hc ?_
    rw [ev]
    simp only [asSlice_slice]
    have hyk := hy h.size k h9 hlt' hN (Nat.le_refl _) hs hI
    have e2 : backV vs k = #[.int .i64 ((vs.length - 1 - k : Nat) : Int), .slice ai li ci] := by unfold backV; rw [List.getD_eq_getElem?_getD, ek, ev]; rfl
    rw [e2] at hyk
    refine callV_mono ?_ hyk
    rintro w h'' ⟨hm, ⟨rfl, hI'⟩ | ⟨rfl, hX⟩⟩
    · simp only [asBool_bool, Bool.not_true, ifB_false]
      rw [wrap64_id' (by omega) (by omega)]
      refine ⟨⟨k + 1, by congr 2; omega, by omega, Nat.le_trans hs hm.1, hI'⟩, ?_⟩
      show (((vs.length - 1 - k : Nat) : Int) - 1 + 1).toNat < (((vs.length - 1 - k : Nat) : Int) + 1).toNat
      omega
    · simp only [asBool_bool, Bool.not_false, ifB_true]
      exact ⟨h.size, hN, Nat.le_refl _, Nat.le_trans hs hm.1, .inr hX⟩
  · have : k = vs.length := by omega
    subst this
    exact ⟨h.size, hN, Nat.le_refl _, hs, .inl hI⟩

/-! ### the steps, row by row -/
structure Sk where
  steps : Nat
  at_ : Int
  some_ : Bool
def fromN (row : List Int) (s : Sk) : Nat := if s.some_ then (pl row s.at_ + 1).toNat else 0
def stepTo (seg : List Int) (s : Sk) (j : Nat) (more : Nat) : Sk := ⟨s.steps + j + more, if j = 0 then s.at_ else seg.getD (j - 1) 0, s.some_ || decide (0 < j)⟩
def stepRow (n : Int) (s : Sk) (row : List Int) : Sk :=
  let seg := row.drop (fromN row s)
  let j := belowF seg n
  stepTo seg s j (if j < seg.length then 1 else 0)
def stepsTo (rows : List (List Int)) (n : Int) (j : Nat) : Sk := (rows.reverse.take j).foldl (stepRow n) ⟨0, 0, false⟩
theorem stepsTo_succ {rows : List (List Int)} {n : Int} {j : Nat} (hj : j < rows.length) : stepsTo rows n (j + 1) = stepRow n (stepsTo rows n j) rows[rows.length - 1 - j] := by
  unfold stepsTo
  have h : j < rows.reverse.length := by simpa using hj
  rw [List.take_succ_eq_append_getElem h, List.foldl_append]
  simp [List.getElem_reverse]
theorem stepRow_le (n : Int) (s : Sk) (row : List Int) : (stepRow n s row).steps ≤ s.steps + row.length + 1 := by
  unfold stepRow stepTo
  have := below_le (row.drop (fromN row s)) n
  have h2 : (row.drop (fromN row s)).length ≤ row.length := by simp
  simp only []
  split <;> omega
theorem stepsTo_le {rows : List (List Int)} {n : Int} (hr : ∀ r ∈ rows, r.length ≤ 1000) : ∀ j, j ≤ rows.length → (stepsTo rows n j).steps ≤ j * 1001 := by
  intro j
  induction j with
  | zero => intro _; simp [stepsTo]
  | succ j ih =>
    intro hj
    rw [stepsTo_succ (by omega)]
    have h1 := stepRow_le n (stepsTo rows n j) rows[rows.length - 1 - j]
    have h2 := hr _ (List.getElem_mem (by omega : rows.length - 1 - j < rows.length))
    have h3 := ih (by omega)
    omega
theorem fromN_le (row : List Int) (s : Sk) : fromN row s ≤ row.length := by
  unfold fromN
  split
  · have := pl_lt (xs := row) (n := s.at_); omega
  · omega

theorem steps23_call {K : Value → Heap → Prop} {h : Heap} {a : Option Addr} {l c : Nat} {vs : List Value} {rows : List (List Int)} {n : Int} (H : RV h a l c vs rows) (hl : l ≤ 1000) (hr : ∀ r ∈ rows, r.length ≤ 1000)
    (k1 : NestedP rows → ∀ h', Old h.size h h' → K (iv (((stepsTo rows n l).steps : Nat) : Int)) h') (k0 : ¬ NestedP rows → ∀ h', Old h.size h h' → K (iv 0) h') : CallH Try.prog 78 #[.slice a l c, uv n] h K := by
  refine call78 ?_
  unfold F78
  have hlen := H.len
  have hf : ∀ (i : Nat) (v : Value), vs[i]? = some v → ∃ ai li ci, v = .slice ai li ci := by
    intro i v hi
    have hlt := (List.getElem?_eq_some_iff.1 hi).1
    obtain ⟨ai, li, ci, h1, _, _⟩ := H.row i (by rw [H.len, ← H.vlen]; exact hlt)
    rw [hi] at h1; cases h1; exact ⟨_, _, _, rfl⟩
  have p0 := pushed h #[.int .u64 n] 76
  generalize h.push (.cells #[.int .u64 n] 76) = h0 at *
  have o0 := p0.toOld
  have s0 := p0.size
  refine callV_fn (nested_call (H.old o0) hl (fun hn h1 o1 => ?_) (fun hn h1 o1 => ?_))
  rotate_left
  · simp only [asBool_bool, Bool.not_false, ifB_true]
    intro h3 hsd
    exact k0 hn _ ((o0.trans (o1.mono o0.1)).same hsd)
  simp only [asBool_bool, Bool.not_true, ifB_false]
  have ok1 := o0.trans (o1.mono o0.1)
  have nc1 : cellAt h1 ⟨h.size, 0, none⟩ = some (uv n) := cell_stable _ _ o1 (cellAt_row p0.new)
  have hs1 : h.size < h1.size := by have := o1.1; omega
  have p2 := pushed h1 #[.int .i64 0] 3
  generalize h1.push (.cells #[.int .i64 0] 3) = h2 at *
  refine stR p2.new rfl trivial fun h4 w4 => ?_
  have s4 : h4.size = h1.size + 1 := by rw [w4.size, p2.size]
  have p5 := pushed h4 #[.int .u64 0] 76
  generalize h4.push (.cells #[.int .u64 0] 76) = h4a at *
  have s4a := p5.size
  have p6 := pushed h4a #[.bool false] 4
  generalize h4a.push (.cells #[.bool false] 4) = h4b at *
  have s4b := p6.size
  rw [s4a, s4]
  have a4b : h4b[h1.size + 1]? = some (.cells #[.int .u64 0] 76) := (p6.old _ (by omega)).trans (by rw [← s4]; exact p5.new)
  have b4b : h4b[h1.size + 2]? = some (.cells #[.bool false] 4) := by rw [show h1.size + 2 = h4a.size by omega]; exact p6.new
  have t4b : h4b[h1.size]? = some (.cells #[.int .i64 0] 3) := (p6.old _ (by omega)).trans ((p5.old _ (by omega)).trans w4.new)
  refine stR a4b rfl trivial fun h5 w5 => ?_
  refine stR ((w5.old _ (by omega)).trans b4b) rfl trivial fun h6 w6 => ?_
  have t6 : h6[h1.size]? = some (.cells #[.int .i64 0] 3) := (w6.old _ (by omega)).trans ((w5.old _ (by omega)).trans t4b)
  have a6 : h6[h1.size + 1]? = some (.cells #[.int .u64 0] 76) := (w6.old _ (by omega)).trans w5.new
  have b6 : h6[h1.size + 2]? = some (.cells #[.bool false] 4) := w6.new
  have s6 : h6.size = h1.size + 3 := by rw [w6.size, w5.size]; omega
  have o6 : Old h1.size h1 h6 := w6.toOld (w5.toOld (((w4.toOld p2.toOld (Nat.le_refl _)).trans (p5.toOld.mono (by omega))).trans (p6.toOld.mono (by omega))) (by omega)) (by omega)
  refine callV_fn (call120 ?_)
  unfold F120
  have p8 := pushed h6 #[.slice a l c] 81
  generalize h6.push (.cells #[.slice a l c] 81) = h8 at *
  have s8 := p8.size
  rw [s6] at s8 ⊢
  have q8 : h8[h1.size + 3]? = some (.cells #[.slice a l c] 81) := by rw [← s6]; exact p8.new
  have o8 : Old h1.size h1 h8 := o6.trans (p8.toOld.mono o6.1)
  have H1 := H.old ok1
  -- between two rows
  refine rangeH_own (n := vs.length) (xs := backV vs) (Ev := fun h => cellAt h ⟨h1.size + 3, 0, none⟩ = some (.slice a l c) ∧ Sees h a vs)
    (fun j _ h' => Old h1.size h1 h' ∧ h'[h1.size]? = some (.cells #[iv (((stepsTo rows n j).steps : Nat) : Int)] 3) ∧ h'[h1.size + 1]? = some (.cells #[uv (stepsTo rows n j).at_] 76) ∧ h'[h1.size + 2]? = some (.cells #[.bool (stepsTo rows n j).some_] 4) ∧ h'[h1.size + 3]? = some (.cells #[.slice a l c] 81))
    (fun _ _ _ => False) trivial (backR_seq (by omega) H.vlen hf) (fun _ _ => rfl) ?_ (fun _ _ _ _ _ _ _ x => x) (fun j w h' x => ⟨cellAt_row x.2.2.2.2, (H1.old x.1).s⟩)
    ⟨o8, (p8.old _ (by omega)).trans t6, (p8.old _ (by omega)).trans a6, (p8.old _ (by omega)).trans b6, q8⟩ ?_ ?_ trivial
  · rintro j w ha hb hz1 hz2 _ ⟨x1, x2, x3, x4, x5⟩
    exact ⟨⟨Nat.le_trans x1.1 hz1, fun b hb => (hz2 b (by omega)).trans (x1.2 b hb)⟩, (hz2 _ (by omega)).trans x2, (hz2 _ (by omega)).trans x3, (hz2 _ (by omega)).trans x4, (hz2 _ (by omega)).trans x5⟩
  · rintro M j w h11 hj hM hMs hw ⟨x1, x2, x3, x4, x5⟩
    rw [H.vlen] at hj
    have hi : rows.length - 1 - j < rows.length := by omega
    obtain ⟨ai, li, ci, r1, r2, r3⟩ := (H1.old x1).row _ hi
    have e2 : (backV vs j).getD 1 (.tuple #[]) = .slice ai li ci := by
      have hvl := H.vlen
      show vs.getD (vs.length - 1 - j) (.tuple #[]) = _
      rw [show vs.length - 1 - j = rows.length - 1 - j by omega, List.getD_eq_getElem?_getD, r1]; rfl
    rw [e2]
    simp only [asSlice_slice]
    have hsucc := stepsTo_succ (rows := rows) (n := n) (j := j) (by omega)
    have hle := stepsTo_le (n := n) hr j (by omega)
    have hrl := hr _ (List.getElem_mem hi)
    generalize hrow : rows[rows.length - 1 - j] = row at *
    generalize hsk : stepsTo rows n j = s at *
    have hli := r2.len
    have hfr := fromN_le row s
    -- the end of a row
    have fin : ∀ (h' : Heap) (s' : Sk), s' = stepRow n s row → (∀ b, b < h11.size → b ≠ h1.size → b ≠ h1.size + 1 → b ≠ h1.size + 2 → h'[b]? = h11[b]?) → h11.size ≤ h'.size → h'[h1.size]? = some (.cells #[iv ((s'.steps : Nat) : Int)] 3) → h'[h1.size + 1]? = some (.cells #[uv s'.at_] 76) → h'[h1.size + 2]? = some (.cells #[.bool s'.some_] 4) →
        KeepMid h8.size M h11 h' ∧ h8.size ≤ h'.size ∧ ∃ w, OwnedW M w h' ∧ Old h1.size h1 h' ∧ h'[h1.size]? = some (.cells #[iv (((stepsTo rows n (j + 1)).steps : Nat) : Int)] 3) ∧ h'[h1.size + 1]? = some (.cells #[uv (stepsTo rows n (j + 1)).at_] 76) ∧ h'[h1.size + 2]? = some (.cells #[.bool (stepsTo rows n (j + 1)).some_] 4) ∧ h'[h1.size + 3]? = some (.cells #[.slice a l c] 81) := by
      rintro h' s' rfl hsame hsz y1 y2 y3
      rw [hsucc]
      refine ⟨⟨hsz, fun b hb1 hb2 => hsame b (by omega) (by omega) (by omega) (by omega)⟩, by omega, w, owned_keep hw fun b hb => hsame b (hw.lt hb) (by have := (hw b hb).1; omega) (by have := (hw b hb).1; omega) (by have := (hw b hb).1; omega), ?_, y1, y2, y3, (hsame _ (by omega) (by omega) (by omega) (by omega)).trans x5⟩
      exact ⟨Nat.le_trans x1.1 hsz, fun b hb => (hsame b (by omega) (by omega) (by omega) (by omega)).trans (x1.2 b hb)⟩
    refine ⟨fun vs h' => vs = [iv ((fromN row s : Nat) : Int)] ∧ h' = h11, ?_, ?_⟩
    · refine ldR x4 rfl ?_
      simp only [asBool_bool]
      refine ifB_mk (fun hb => ?_) (fun hb => ?_)
      · refine ldR x3 rfl ?_
        simp only [asInt_int]
        refine callV_fn (index_call r2 r3 ?_)
        simp only [asInt_int]
        have h1 := pl_lt (xs := row) (n := s.at_)
        have h2 := pl_ge (xs := row) (n := s.at_)
        rw [wrap64_id' (by omega) (by omega)]
        refine ⟨?_, by trivial⟩
        unfold fromN
        rw [if_pos hb]
        congr 2; omega
      · refine ⟨?_, by trivial⟩
        unfold fromN
        rw [if_neg (by simp [hb])]; rfl
    rintro v23 g24 h25 ⟨e, rfl⟩
    cases e
    simp only [asInt_int, Int.toNat_natCast]
    refine ⟨by omega, by omega, ?_⟩
    have R := r2.drop (f := fromN row s) (by omega)
    generalize hseg : row.drop (fromN row s) = seg at *
    have hsegl : seg.length = li - fromN row s := R.len
    refine ⟨fun vs h' => ∃ v, ∃ q : Nat, vs = [v, iv q] ∧ q ≤ seg.length ∧ (∀ t (ht : t < seg.length), t < q → seg[t] < n) ∧ (∀ b, b < h25.size → b ≠ h1.size → b ≠ h1.size + 1 → b ≠ h1.size + 2 → h'[b]? = h25[b]?) ∧ h25.size ≤ h'.size ∧
        h'[h1.size]? = some (.cells #[iv (((stepTo seg s q 0).steps : Nat) : Int)] 3) ∧ h'[h1.size + 1]? = some (.cells #[uv (stepTo seg s q 0).at_] 76) ∧ h'[h1.size + 2]? = some (.cells #[.bool (stepTo seg s q 0).some_] 4),
      fun vs _ => (match vs with | [_, .int _ n] => seg.length - n.toNat | _ => 0), ⟨_, 0, rfl, Nat.zero_le _, fun t _ h => by omega, fun _ _ _ _ _ => rfl, Nat.le_refl _, x2, x3, ?_⟩, ?_⟩
    · rw [x4]; unfold stepTo; simp
    rintro v29 v30 g31 h32 ⟨w', q, e, hq, hlow, hsame, hsz, y1, y2, y3⟩
    cases e
    simp only [asInt_int, asI_int]
    have hq62 : q < 2 ^ 62 := by omega
    have hsq : s.steps + q < 2 ^ 62 := by omega
    have hstepeq : ∀ (hx : ∀ hi : q < seg.length, ¬ seg[q] < n), stepRow n s row = stepTo seg s q (if q < seg.length then 1 else 0) := fun hx => by
      unfold stepRow
      simp only [hseg]
      rw [below_eq hq hlow hx]
    refine ifB_dec (fun hlt => ?_) (fun hge => ?_)
    · have hq' : q < seg.length := by omega
      have R32 : RU h32 (subA ai (fromN row s) ci 1) (li - fromN row s) (ci - fromN row s) seg := by
        refine ⟨R.s.keep fun ad e => ?_, R.len, R.cap⟩
        obtain ⟨ad', e', hcc⟩ := R.at hq'
        rw [e] at e'; cases e'
        have hlt2 := cellAt_lt hcc
        rw [add_block] at hlt2
        obtain ⟨ad0, ed, hc0⟩ := (RU.at r2 (i := fromN row s + q) (by rw [← hseg] at hq'; simp at hq'; omega))
        have hold0 := hc0
        -- the row's own block lies below
        have hblk : ad.block < h1.size := by
          obtain ⟨ai', li', ci', r1', r2', r3'⟩ := H1.row _ hi
          rw [r1] at r1'; cases r1'
          rw [hrow] at r2'
          obtain ⟨ad1, ed1, hc1⟩ := r2'.at (i := fromN row s + q) (by rw [← hseg] at hq'; simp at hq'; omega)
          have hb1 := cellAt_lt hc1
          rw [add_block] at hb1
          have : ad.block = ad1.block := by
            subst ed1
            unfold subA at e
            split at e
            · cases e; rfl
            · simp only [Option.map_some, Option.some.injEq] at e
              rw [← e, add_block]
          omega
        exact hsame _ (by have := x1.1; omega) (by omega) (by omega) (by omega)
      obtain ⟨ad, ea, hc⟩ := R32.at hq'
      refine ⟨by omega, by omega, ?_⟩
      rw [ea]
      simp only [asPtr_some, Nat.mul_one]
      refine ldH_mk hc ?_
      simp only [asInt_int]
      refine ldR y1 rfl ?_
      simp only [asInt_int]
      have hst : (stepTo seg s q 0).steps = s.steps + q := rfl
      rw [hst] at y1
      refine stR y1 rfl trivial fun h40 w40 => ?_
      have nc40 : cellAt h40 ⟨h.size, 0, none⟩ = some (uv n) := by
        have : cellAt h25 ⟨h.size, 0, none⟩ = some (uv n) := cell_stable _ _ x1 nc1
        exact (cellAt_congr (w40.old _ (by show h.size ≠ _; omega))).trans ((cellAt_congr (hsame _ (by show h.size < _; have := x1.1; omega) (by show h.size ≠ _; omega) (by show h.size ≠ _; omega) (by show h.size ≠ _; omega))).trans this)
      refine ldH_mk nc40 ?_
      simp only [asInt_int]
      have hsame40 : ∀ b, b < h25.size → b ≠ h1.size → b ≠ h1.size + 1 → b ≠ h1.size + 2 → h40[b]? = h25[b]? := fun b h1 h2 h3 h4 => (w40.old b h2).trans (hsame b h1 h2 h3 h4)
      have hw40 : h40[h1.size]? = some (.cells #[iv (((stepTo seg s q 1).steps : Nat) : Int)] 3) := by
        have hn := w40.new
        rw [hst, nat_wrap1 hsq] at hn
        exact hn
      have a40 : h40[h1.size + 1]? = some (.cells #[uv (stepTo seg s q 0).at_] 76) := (w40.old _ (by omega)).trans y2
      have b40 : h40[h1.size + 2]? = some (.cells #[.bool (stepTo seg s q 0).some_] 4) := (w40.old _ (by omega)).trans y3
      refine ifB_dec (fun hbr => ?_) (fun hbr => ?_)
      · refine fin h40 (stepTo seg s q 1) ?_ hsame40 (by rw [w40.size]; exact hsz) hw40 a40 b40
        rw [hstepeq (fun _ hl => Int.not_lt.2 hbr hl), if_pos hq']
      · refine stR a40 rfl trivial fun h43 w43 => ?_
        refine stR ((w43.old _ (by omega)).trans b40) rfl trivial fun h44 w44 => ?_
        rw [nat_wrap1 hq62]
        refine ⟨⟨_, q + 1, rfl, by omega, fun t ht htq => ?_, fun b h1 h2 h3 h4 => (w44.old b h4).trans ((w43.old b h3).trans (hsame40 b h1 h2 h3 h4)), by rw [w44.size, w43.size, w40.size]; exact hsz, ?_, ?_, ?_⟩, ?_⟩
        · by_cases e : t < q
          · exact hlow t ht e
          · obtain rfl : t = q := by omega
            exact Int.not_le.1 hbr
        · have := (w44.old h1.size (by omega)).trans ((w43.old h1.size (by omega)).trans hw40)
          rw [this]; rfl
        · have := (w44.old (h1.size + 1) (by omega)).trans w43.new
          rw [this]
          unfold stepTo
          simp [hq']
        · rw [w44.new]
          unfold stepTo
          simp
        · show seg.length - ((q + 1 : Nat) : Int).toNat < seg.length - (q : Int).toNat
          omega
    · have hqe : q = seg.length := by omega
      refine fin h32 (stepTo seg s q 0) ?_ hsame hsz y1 y2 y3
      rw [hstepeq (fun h => by omega), if_neg (by omega)]
  · rintro M w h46 hM hMs hw ⟨x1, x2, x3, x4, x5⟩
    refine ldR x2 rfl ?_
    simp only [asInt_int]
    intro h49 hsd
    have := k1 hn h49 ((ok1.trans (x1.mono ok1.1)).same hsd)
    rw [H.vlen]
    exact this
end Go.Proofs.Ytgladmaagpcffaa
