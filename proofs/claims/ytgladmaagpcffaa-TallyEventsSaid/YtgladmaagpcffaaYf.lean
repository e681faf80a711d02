/- The rows as text; the body of TallyTexts. -/
import Derived.Test.YtgladmaagpcffaaYe
set_option linter.unusedSimpArgs false
set_option linter.unusedVariables false
set_option maxRecDepth 20000
namespace Go.Proofs.Ytgladmaagpcffaa

def thrT (i : Nat) : ByteArray := (⟨#[116, 104, 114, 101, 97, 100, 32]⟩ : ByteArray) ++ dg i
theorem thrT_size (i : Nat) : (thrT i).size ≤ 27 := by
  unfold thrT
  have := dg_size i
  have e : (⟨#[116, 104, 114, 101, 97, 100, 32]⟩ : ByteArray).size = 7 := rfl
  rw [ByteArray.size_append]; omega
def linesT (rs : List Ro) : Nat → ByteArray
  | 0 => ⟨#[]⟩
  | i + 1 => linesT rs i ++ lineT (thrT i) (rs.getD i zeroR)
theorem linesT_size (rs : List Ro) : ∀ i, (linesT rs i).size ≤ 300 * i := by
  intro i
  induction i with
  | zero => exact Nat.le_refl _
  | succ i ih =>
    unfold linesT
    rw [ByteArray.size_append]
    have h1 := lineT_size (thrT i) (rs.getD i zeroR)
    have h2 := thrT_size i
    omega
def allT : ByteArray := ⟨#[97, 108, 108]⟩
theorem allT_size : allT.size = 3 := rfl
theorem lineT_pos (name : ByteArray) (r : Ro) : (lineT name r).size ≠ 0 := by
  unfold lineT
  rw [ByteArray.size_append, one_size]; omega

theorem show_call {K : Value → Heap → Prop} {h : Heap} {a : Option Addr} {l c : Nat} {rs : List Ro} (H : RS h a l c rs) (hl : l ≤ 100) (hb : ∀ r ∈ rs, Bd 1000000 r) (k : ∀ h', Old h.size h h' → K (.string (linesT rs l ++ lineT allT (sumR rs))) h') :
    CallH Try.prog 65 #[.slice a l c] h K := by
  refine call65 ?_
  unfold F65
  have hlen := H.len
  have p := pushed h #[.pointer none, .slice none 0 0] 112
  generalize h.push (.cells #[.pointer none, .slice none 0 0] 112) = h1 at *
  have s1 := p.size
  refine ⟨fun vs h' => ∃ w0, ∃ i : Nat, vs = [w0, iv i] ∧ i ≤ l ∧ Old h.size h h' ∧ Bld h' h.size (linesT rs i), fun vs _ => (match vs with | [_, .int _ n] => l - n.toNat | _ => 0),
    ⟨_, 0, rfl, Nat.zero_le _, p.toOld, none, none, 0, 0, p.new, .inl rfl, Own.nil _ _ _, fun ad e => by cases e⟩, ?_⟩
  rintro v2 v3 g4 h5 ⟨w0, i, e, hi, o5, B5⟩
  cases e
  have hsz := linesT_size rs i
  simp only [asInt_int, asI_int]
  refine ifB_dec (fun hlt => ?_) (fun hge => ?_)
  · have hi' : i < rs.length := by omega
    obtain ⟨ad, rfl, hc⟩ := (H.old o5).at hi'
    have hri := (hb _ (List.getElem_mem hi')).mono (show (1000000 : Int) ≤ 1000000000 by omega)
    have hget : rs.getD i zeroR = rs[i] := by rw [List.getD_eq_getElem?_getD, List.getElem?_eq_getElem hi']; rfl
    generalize hrow : rs[i] = r at *
    refine ⟨by omega, hlt, ?_⟩
    simp only [asPtr_some, Int.toNat_natCast]
    refine ldH_mk (hc 0 _ rfl) (ldH_mk (hc 1 _ rfl) (ldH_mk (hc 2 _ rfl) (ldH_mk (hc 3 _ rfl) (ldH_mk (hc 4 _ rfl) (ldH_mk (hc 5 _ rfl) (ldH_mk (hc 6 _ rfl) ?_))))))
    have p7 := pushed h5 zs7.toArray 72
    rw [show h5.push (.cells #[.int .i64 0, .int .i64 0, .int .i64 0, .int .i64 0, .int .i64 0, .int .i64 0, .int .i64 0] 72) = h5.push (.cells zs7.toArray 72) from rfl]
    generalize h5.push (.cells zs7.toArray 72) = h7 at *
    refine st7 (stN_full (vs := r.cells) p7.new rfl (cells_one r) fun h23 w23 => ?_)
    have o23 : Old h5.size h5 h23 := w23.toOld p7.toOld (Nat.le_refl _)
    refine ldR w23.new rfl (ldR w23.new rfl (ldR w23.new rfl (ldR w23.new rfl (ldR w23.new rfl (ldR w23.new rfl (ldR w23.new rfl ?_))))))
    refine callV_fn (digits40_call (x := (i : Int)) (by omega) (by omega) fun h32 o32 => ?_)
    simp only [asStr]
    have c : ∀ (j : Nat) (v : Value), r.cells[j]? = some v → cellAt h32 ⟨h5.size, j, none⟩ = some v := fun j v e => cell_stable _ _ o32 (cellR w23.new e)
    have hd := dgI_size (i : Int)
    refine ⟨c 0 _ rfl, c 1 _ rfl, c 2 _ rfl, c 3 _ rfl, c 4 _ rfl, c 5 _ rfl, c 6 _ rfl, by omega, ?_⟩
    have eth : (⟨#[116, 104, 114, 101, 97, 100, 32]⟩ : ByteArray) ++ dgI (i : Int) = thrT i := rfl
    rw [eth]
    have ht := thrT_size i
    refine callV_fn (tallyLine_call (r := r) (by omega) hri fun h35 o35 => ?_)
    simp only [asStr]
    have o535 : Old h5.size h5 h35 := (o23.trans (o32.mono o23.1)).trans (o35.mono (Nat.le_trans o23.1 o32.1))
    have hls := lineT_size (thrT i) r
    have B35 : Bld h35 h.size (linesT rs i) := B5.keep fun b _ hb => o535.2 b hb
    refine callV_fn (writeString_call B35 (by omega) fun h38 B38 s38 o38 => ?_)
    rw [nat_wrap1 (by omega)]
    refine ⟨⟨_, i + 1, rfl, by omega, ⟨by have := o5.1; have := o535.1; omega, fun b hb => (o38 b hb).trans ((o535.2 b (by have := o5.1; omega)).trans (o5.2 b hb))⟩, ?_⟩, ?_⟩
    · unfold linesT; rw [hget]; exact B38
    · show l - ((i + 1 : Nat) : Int).toNat < l - (i : Int).toNat
      omega
  · obtain rfl : i = l := by omega
    have hbd := (sumR_bd hb rs.length (Nat.le_refl _)).mono (show 1000000 * (rs.length : Int) ≤ 1000000000 by omega)
    rw [List.take_length] at hbd
    refine callV_fn (total_call (H.old o5) (by omega) hb fun h41 o41 => ?_)
    simp only [asAgg_agg]
    refine sizeH_mk rfl (elemH_mk rfl (elemH_mk rfl (elemH_mk rfl (elemH_mk rfl (elemH_mk rfl (elemH_mk rfl (elemH_mk rfl ?_)))))))
    refine callV_fn (tallyLine_call (name := allT) (r := sumR rs) (by rw [allT_size]; omega) hbd fun h51 o51 => ?_)
    simp only [asStr]
    have o551 : Old h5.size h5 h51 := o41.trans (o51.mono o41.1)
    have B51 : Bld h51 h.size (linesT rs i) := B5.keep fun b _ hb => o551.2 b hb
    have hls := lineT_size allT (sumR rs)
    rw [allT_size] at hls
    have hpos := lineT_pos allT (sumR rs)
    refine callV_fn (writeString_call B51 (by omega) fun h54 B54 s54 o54 => ?_)
    refine callV_fn (string_call B54 (by rw [ByteArray.size_append]; omega) (by rw [ByteArray.size_append]; omega) fun h56 s56 o56 => ?_)
    simp only [asStr]
    refine k h56 ⟨by have := o5.1; have := o551.1; omega, fun b hb => (o56 b (by omega)).trans ((o54 b hb).trans ((o551.2 b (by have := o5.1; omega)).trans (o5.2 b hb)))⟩

theorem lives40_call {K : Value → Heap → Prop} {h : Heap} (k : ∀ h', Old h.size h h' → K (.bool true) h') : CallH Try.prog 60 #[] h K := by
  refine call60 ?_
  unfold F60
  refine callV_fn (show_call (rs := []) ⟨Sees.nil _ _, rfl, Nat.le_refl _⟩ (by omega) (fun r hr => by cases hr) fun h1 o1 => ?_)
  simp only [asStr]
  have e : linesT [] 0 ++ lineT allT (sumR []) = (⟨#[97, 108, 108, 32, 99, 97, 108, 108, 115, 32, 48, 32, 100, 111, 110, 101, 32, 48, 32, 102, 117, 108, 108, 32, 48, 32, 112, 97, 105, 114, 115, 32, 48, 32, 101, 109, 112, 116, 121, 32, 48, 32, 115, 116, 101, 112, 115, 32, 48, 32, 109, 105, 115, 115, 101, 100, 32, 48, 10]⟩ : ByteArray) := rfl
  rw [e, beq_self_eq_true]
  exact k _ o1

theorem eqv_row (a0 a1 a2 a3 a4 a5 a6 b0 b1 b2 b3 b4 b5 b6 : Int) : eqv Try.prog 10000 72 (.agg #[iv a0, iv a1, iv a2, iv a3, iv a4, iv a5, iv a6]) (.agg #[iv b0, iv b1, iv b2, iv b3, iv b4, iv b5, iv b6]) = some ((a0 == b0) && ((a1 == b1) && ((a2 == b2) && ((a3 == b3) && ((a4 == b4) && ((a5 == b5) && ((a6 == b6) && true))))))) := by kernel_rfl
theorem guard_row : Try.prog.eqGuardType Try.prog.depth 72 = false := by kernel_rfl
theorem eqvH_row {r : Ro} {K : Bool → Prop} (k : K true) : eqvH Try.prog 72 (.agg r.cells.toArray) (.agg r.cells.toArray) K := by
  unfold eqvH
  rw [guard_row, if_neg (by simp)]
  show (match eqv Try.prog 10000 72 (.agg r.cells.toArray) (.agg r.cells.toArray) with | some b => K b | none => False)
  rw [eqv_row]
  simpa using k

theorem texts_body {K : Value → Heap → Prop} {h : Heap} {a : Option Addr} {l c : Nat} {rs : List Ro} (H : RS h a l c rs) (k : ∀ h', Old h.size h h' → K (.bool true) h') : F14 K h a l c := by
  unfold F14
  have hlen := H.len
  have lives : ∀ h1, Old h.size h h1 → callV Try.prog (.func (.func 60) #[] #[]) #[] h1 (fun v h' => asBool v (fun b => K (.bool b) h')) := by
    intro h1 o1
    refine callV_fn (lives40_call fun h' o => ?_)
    simp only [asBool_bool]
    exact k h' (o1.trans (o.mono o1.1))
  refine ifB_dec (fun _ => lives h (Old.refl _ _)) (fun hl50 => ?_)
  have hl : l ≤ 50 := by omega
  have p := pushed h zs7.toArray 72
  rw [show h.push (.cells #[.int .i64 0, .int .i64 0, .int .i64 0, .int .i64 0, .int .i64 0, .int .i64 0, .int .i64 0] 72) = h.push (.cells zs7.toArray 72) from rfl]
  generalize h.push (.cells zs7.toArray 72) = h1 at *
  refine ⟨fun vs h' => ∃ i : Nat, vs = [.bool false, .string (linesT rs i), iv i] ∧ i ≤ l ∧ Old h.size h h' ∧ h'[h.size]? = some (.cells (sumR (rs.take i)).cells.toArray 72) ∧ ∀ q (hq : q < rs.length), q < i → Bd 1000000 rs[q], fun vs _ => (match vs with | [_, _, .int _ n] => l - n.toNat | _ => 0),
    ⟨0, rfl, Nat.zero_le _, p.toOld, p.new, fun q _ h => by omega⟩, ?_⟩
  rintro v5 v6 v7 g8 h9 ⟨i, e, hi, o9, m9, hall⟩
  cases e
  have hsz := linesT_size rs i
  simp only [asInt_int, asStr]
  refine ifB_dec (fun hlt => ?_) (fun hge => ?_)
  · have hi' : i < rs.length := by omega
    obtain ⟨ad, rfl, hc⟩ := (H.old o9).at hi'
    have hall' : ∀ r ∈ rs.take i, Bd 1000000 r := fun r hr => by
      obtain ⟨q, hq, rfl⟩ := List.getElem_of_mem hr
      simp only [List.length_take] at hq
      rw [List.getElem_take]
      exact hall q (by omega) (by omega)
    have hsum := sumR_bd hall' i (by simp; omega)
    rw [List.take_take, Nat.min_self] at hsum
    have hsucc := sumR_succ hi'
    have hget : rs.getD i zeroR = rs[i] := by rw [List.getD_eq_getElem?_getD, List.getElem?_eq_getElem hi']; rfl
    refine ⟨by omega, hlt, ?_⟩
    simp only [asPtr_some, Int.toNat_natCast]
    refine ldH_mk (hc 0 _ rfl) (ldH_mk (hc 1 _ rfl) (ldH_mk (hc 2 _ rfl) (ldH_mk (hc 3 _ rfl) (ldH_mk (hc 4 _ rfl) (ldH_mk (hc 5 _ rfl) (ldH_mk (hc 6 _ rfl) ?_))))))
    refine callV_fn (small_call (r := rs[i]) (fun hbd h21 o21 => ?_) (fun h21 o21 => ?_))
    rotate_left
    · simp only [asBool_bool, Bool.not_false, ifB_true]
      exact lives _ (o9.trans (o21.mono o9.1))
    simp only [asBool_bool, Bool.not_true, ifB_false]
    have ok21 := o9.trans (o21.mono o9.1)
    have hs9 : h.size < h9.size := (Array.getElem?_eq_some_iff.1 m9).1
    have m21 : h21[h.size]? = some (.cells (sumR (rs.take i)).cells.toArray 72) := (o21.2 _ hs9).trans m9
    -- the row's cells lie below
    have hblk : ad.block < h.size := by
      obtain ⟨ad', e', hc'⟩ := H.at hi'
      cases e'
      have := cellAt_lt (hc' 0 _ rfl)
      rwa [add_block, add_block] at this
    have keep : ∀ h', (∀ b, b ≠ h.size → h'[b]? = h21[b]?) → ∀ (j : Nat) (v : Value), (rs[i]).cells[j]? = some v → cellAt h' ((ad.add (i * 7)).add j) = some v := fun h' hx j v hv =>
      (cellAt_congr (hx _ (by rw [add_block, add_block]; omega))).trans (cell_stable _ _ o21 (hc j v hv))
    generalize hrow : rs[i] = r at *
    generalize hsm : sumR (rs.take i) = s at *
    obtain ⟨b0, b1, b2, b3, b4, b5, b6⟩ := hbd
    obtain ⟨d0, d1, d2, d3, d4, d5, d6⟩ := hsum
    refine ldR m21 rfl ?_
    simp only [asInt_int]
    refine ⟨by omega, hlt, ldH_mk (keep h21 (fun _ _ => rfl) 0 _ rfl) ?_⟩
    simp only [asInt_int]
    rw [wrap64_id' (by omega) (by omega)]
    refine stR m21 rfl trivial fun g1 w1 => ?_
    refine ldR w1.new rfl ?_
    simp only [asInt_int]
    refine ⟨by omega, hlt, ldH_mk (keep g1 w1.old 1 _ rfl) ?_⟩
    simp only [asInt_int]
    rw [wrap64_id' (by omega) (by omega)]
    refine stR w1.new rfl trivial fun g2 w2' => ?_
    have w2 := w1.trans w2'
    refine ldR w2.new rfl ?_
    simp only [asInt_int]
    refine ⟨by omega, hlt, ldH_mk (keep g2 w2.old 2 _ rfl) ?_⟩
    simp only [asInt_int]
    rw [wrap64_id' (by omega) (by omega)]
    refine stR w2.new rfl trivial fun g3 w3' => ?_
    have w3 := w2.trans w3'
    refine ldR w3.new rfl ?_
    simp only [asInt_int]
    refine ⟨by omega, hlt, ldH_mk (keep g3 w3.old 3 _ rfl) ?_⟩
    simp only [asInt_int]
    rw [wrap64_id' (by omega) (by omega)]
    refine stR w3.new rfl trivial fun g4 w4' => ?_
    have w4 := w3.trans w4'
    refine ldR w4.new rfl ?_
    simp only [asInt_int]
    refine ⟨by omega, hlt, ldH_mk (keep g4 w4.old 4 _ rfl) ?_⟩
    simp only [asInt_int]
    rw [wrap64_id' (by omega) (by omega)]
    refine stR w4.new rfl trivial fun g5 w5' => ?_
    have w5 := w4.trans w5'
    refine ldR w5.new rfl ?_
    simp only [asInt_int]
    refine ⟨by omega, hlt, ldH_mk (keep g5 w5.old 5 _ rfl) ?_⟩
    simp only [asInt_int]
    rw [wrap64_id' (by omega) (by omega)]
    refine stR w5.new rfl trivial fun g6 w6' => ?_
    have w6 := w5.trans w6'
    refine ldR w6.new rfl ?_
    simp only [asInt_int]
    refine ⟨by omega, hlt, ldH_mk (keep g6 w6.old 6 _ rfl) ?_⟩
    simp only [asInt_int]
    rw [wrap64_id' (by omega) (by omega)]
    refine stR w6.new rfl trivial fun g7 w7' => ?_
    have w7 := w6.trans w7'
    have m74 : g7[h.size]? = some (.cells (addR s r).cells.toArray 72) := w7.new
    have c74 := keep g7 w7.old
    have ok74 : Old h.size h g7 := w7.toOld ok21 (Nat.le_refl _)
    refine ⟨by omega, hlt, ?_⟩
    refine ldH_mk (c74 0 _ rfl) (ldH_mk (c74 1 _ rfl) (ldH_mk (c74 2 _ rfl) (ldH_mk (c74 3 _ rfl) (ldH_mk (c74 4 _ rfl) (ldH_mk (c74 5 _ rfl) (ldH_mk (c74 6 _ rfl) ?_))))))
    rw [wrap64u (n := i) (by omega)]
    refine callV_fn (Digits_call (by omega) ?_)
    simp only [asStr]
    have hd := dg_size i
    refine ⟨c74 0 _ rfl, c74 1 _ rfl, c74 2 _ rfl, c74 3 _ rfl, c74 4 _ rfl, c74 5 _ rfl, c74 6 _ rfl, by omega, ?_⟩
    have eth : (⟨#[116, 104, 114, 101, 97, 100, 32]⟩ : ByteArray) ++ dg i = thrT i := rfl
    rw [eth]
    have ht := thrT_size i
    have hbd' : Bd 1000000 r := ⟨b0, b1, b2, b3, b4, b5, b6⟩
    refine callV_fn (line40_call (r := r) (by omega) (hbd'.mono (by omega)) fun h90 o90 => ?_)
    simp only [asStr]
    have hls := lineT_size (thrT i) r
    have hs7 : h.size < g7.size := (Array.getElem?_eq_some_iff.1 m74).1
    refine ⟨by omega, ?_⟩
    rw [nat_wrap1 (by omega)]
    refine ⟨⟨i + 1, ?_, by omega, ok74.trans (o90.mono ok74.1), ?_, fun q hq hqi => ?_⟩, ?_⟩
    · have es : linesT rs (i + 1) = linesT rs i ++ lineT (thrT i) r := by
        show linesT rs i ++ lineT (thrT i) (rs.getD i zeroR) = _
        rw [hget]
      rw [es]
    · rw [hsucc]; exact (o90.2 _ hs7).trans m74
    · by_cases e : q < i
      · exact hall q hq e
      · obtain rfl : q = i := by omega
        rw [hrow]; exact hbd'
    · show l - ((i + 1 : Nat) : Int).toNat < l - (i : Int).toNat
      omega
  · obtain rfl : i = rs.length := by omega
    have hb : ∀ r ∈ rs, Bd 1000000 r := fun r hr => by
      obtain ⟨q, hq, rfl⟩ := List.getElem_of_mem hr
      exact hall q hq hq
    rw [List.take_length] at m9
    have hbd := (sumR_bd hb rs.length (Nat.le_refl _)).mono (show 1000000 * (rs.length : Int) ≤ 1000000000 by omega)
    rw [List.take_length] at hbd
    have hs9 : h.size < h9.size := (Array.getElem?_eq_some_iff.1 m9).1
    refine ldR m9 rfl (ldR m9 rfl (ldR m9 rfl (ldR m9 rfl (ldR m9 rfl (ldR m9 rfl (ldR m9 rfl ?_))))))
    refine callV_fn (total_call (H.old o9) (by omega) hb fun h101 o101 => ?_)
    simp only [asAgg_agg]
    refine sizeH_mk rfl (elemH_mk rfl (elemH_mk rfl (elemH_mk rfl (elemH_mk rfl (elemH_mk rfl (elemH_mk rfl (elemH_mk rfl ?_)))))))
    have m101 := (o101.2 _ hs9).trans m9
    have ok101 := o9.trans (o101.mono o9.1)
    refine ⟨cellR m101 rfl, cellR m101 rfl, cellR m101 rfl, cellR m101 rfl, cellR m101 rfl, cellR m101 rfl, cellR m101 rfl, ?_⟩
    refine eqvH_row (r := sumR rs) ?_
    simp only [ifB_true]
    refine ldR m101 rfl (ldR m101 rfl (ldR m101 rfl (ldR m101 rfl (ldR m101 rfl (ldR m101 rfl (ldR m101 rfl ?_))))))
    refine callV_fn (show_call (H.old ok101) (by omega) hb fun h120 o120 => ?_)
    simp only [asStr]
    have m120 := (o120.2 _ (Nat.lt_of_lt_of_le hs9 o101.1)).trans m101
    refine ⟨cellR m120 rfl, cellR m120 rfl, cellR m120 rfl, cellR m120 rfl, cellR m120 rfl, cellR m120 rfl, cellR m120 rfl, ?_⟩
    refine callV_fn (line40_call (name := allT) (r := sumR rs) (by rw [allT_size]; omega) hbd fun h123 o123 => ?_)
    simp only [asStr]
    have hls := lineT_size allT (sumR rs)
    rw [allT_size] at hls
    refine ⟨by omega, ?_⟩
    rw [← hlen, beq_self_eq_true]
    simp only [ifB_true]
    exact lives _ ((ok101.trans (o120.mono ok101.1)).trans (o123.mono (Nat.le_trans ok101.1 o120.1)))
end Go.Proofs.Ytgladmaagpcffaa
