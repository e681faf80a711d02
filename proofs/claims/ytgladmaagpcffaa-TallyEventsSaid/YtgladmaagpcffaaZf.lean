/- A history's operations: the program's, the document's. -/
import Derived.Test.YtgladmaagpcffaaZe
set_option linter.unusedSimpArgs false
set_option linter.unusedVariables false
set_option maxRecDepth 20000
namespace Go.Proofs.Ytgladmaagpcffaa

theorem und_opers : und Try.prog 53 = .slice 61 := by kernel_rfl
theorem there_oper : there Try.prog 61 = true := by kernel_rfl
theorem siz_oper : siz Try.prog 61 = 9 := by kernel_rfl
theorem byt_oper : byt Try.prog 61 = 56 := by kernel_rfl
theorem und_mii : und Try.prog 160 = .map 3 3 := by kernel_rfl
theorem zer_i64 : zer Try.prog 3 = some (iv 0) := by kernel_rfl
abbrev zs9 : List Value := [.int .i64 0, .int .i64 0, .int .u32 0, .int .u32 0, .int .i64 0, .int .u32 0, .int .u32 0, .int .i64 0, .int .i64 0]
theorem zer_oper : zer Try.prog 61 = some (.agg zs9.toArray) := by kernel_rfl
theorem cells9_one (e : Op9) : ∀ y ∈ e.cells, oneC y True := by
  intro y hy
  simp only [List.mem_cons, List.not_mem_nil, or_false] at hy
  rcases hy with rfl | rfl | rfl | rfl | rfl | rfl | rfl | rfl | rfl <;> exact trivial
theorem st9 {h : Heap} {b : Nat} {v0 v1 v2 v3 v4 v5 v6 v7 v8 : Value} {K : Heap → Prop} (H : stN h ⟨b, 0, none⟩ 0 [v0, v1, v2, v3, v4, v5, v6, v7, v8] K) :
    stH h ⟨b, 0, none⟩ v0 fun h => stH h ⟨b, 1, none⟩ v1 fun h => stH h ⟨b, 2, none⟩ v2 fun h => stH h ⟨b, 3, none⟩ v3 fun h => stH h ⟨b, 4, none⟩ v4 fun h => stH h ⟨b, 5, none⟩ v5 fun h => stH h ⟨b, 6, none⟩ v6 fun h => stH h ⟨b, 7, none⟩ v7 fun h => stH h ⟨b, 8, none⟩ v8 K := H
/-- Operations of one's own. -/
abbrev OwnO (h : Heap) (a : Option Addr) (n c : Nat) (ops : List Op9) : Prop := Own h 61 9 a n c (ops.flatMap Op9.cells)
theorem OwnO.sl {h : Heap} {a : Option Addr} {n c : Nat} {ops : List Op9} (H : OwnO h a n c ops) : SlO h a n c ops := ⟨H.sees, by have := H.1; rw [flat9_len] at this; omega, H.2.1⟩
theorem OwnO.some {h : Heap} {a : Option Addr} {n c : Nat} {ops : List Op9} (H : OwnO h a n c ops) (hn : 0 < n) : ∃ ad, a = some ad := by
  rcases H.2.2 with ⟨_, hc⟩ | ⟨b, row, e, _⟩
  · have := H.2.1; omega
  · exact ⟨_, e⟩
theorem flat9_push (ops : List Op9) (o : Op9) : (ops ++ [o]).flatMap Op9.cells = ops.flatMap Op9.cells ++ o.cells := by simp
theorem opsAt_len (es : List Ev8) (i : Nat) : (opsAt es i).length = (inv es i).length := by unfold opsAt; rw [List.length_map]
theorem opsAt_zero (es : List Ev8) : opsAt es 0 = [] := rfl

theorem opers_call {K : Value → Heap → Prop} {h : Heap} {a : Option Addr} {l c : Nat} {es : List Ev8} (H : SV h a l c es) (hl : l ≤ 500)
    (k1 : RightH es → ∀ a' c' h', SlO h' a' (opsE es).length c' (opsE es) → Old h.size h h' → K (.tuple #[.slice a' (opsE es).length c', iv 0]) h')
    (k0 : ¬ RightH es → ∀ h', Old h.size h h' → K (.tuple #[.slice none 0 0, iv 11]) h') : CallH Try.prog 111 #[.slice a l c] h K := by
  refine call111 ?_
  unfold F111
  have hlen := H.len
  refine callV_fn (histRight_call H hl (fun hR h1 o1 => ?_) (fun hR h1 o1 => ?_))
  rotate_left
  · simp only [asBool_bool, Bool.not_false, ifB_true]
    exact k0 hR h1 o1
  simp only [asBool_bool, Bool.not_true, ifB_false]
  have mf0 := MapF.new h1
  have hold0 : Old h1.size h1 (h1.push (.map #[] 0)) := ⟨by simp, fun b hb => push_old _ _ _ hb⟩
  have hsz0 : (h1.push (.map #[] 0)).size = h1.size + 1 := by simp
  generalize h1.push (.map #[] 0) = h2 at *
  refine ⟨fun vs h' => ∃ o c' w1 w2, ∃ i : Nat, vs = [.slice o (inv es i).length c', w1, w2, iv i] ∧ i ≤ l ∧ Old h1.size h1 h' ∧ h1.size < h'.size ∧ OwnO h' o (inv es i).length c' (opsAt es i) ∧ (∀ ad, o = some ad → h1.size < ad.block) ∧
      ∃ f, MapF h' h1.size f ∧ ∀ t q, opnN es i t = some q → f t = some (iv ((inv es q).length : Nat)),
    fun vs _ => (match vs with | [_, _, _, .int _ n] => l - n.toNat | _ => 0),
    ⟨none, 0, _, _, 0, rfl, Nat.zero_le _, hold0, by omega, Own.nil _ _ _, fun ad e => (by cases e), _, mf0, fun t q e => by cases e⟩, ?_⟩
  rintro v5 v6 v7 v8 g9 h10 ⟨o, c', w1, w2, i, e, hi, o10, hs10, own, hab, f, mf, hf⟩
  cases e
  simp only [asInt_int, asI_int, asSlice_slice]
  refine ifB_dec (fun hlt => ?_) (fun hge => ?_)
  rotate_left
  · obtain rfl : i = es.length := by omega
    have := k1 hR o c' h10
    unfold opsE at this
    rw [opsAt_len] at this
    exact this own.sl (o1.trans (o10.mono o1.1))
  have hi' : i < es.length := by omega
  obtain ⟨ad, rfl, hc⟩ := ((H.old o1).old o10).at hi'
  refine ⟨by omega, hlt, ?_⟩
  simp only [asPtr_some, Int.toNat_natCast]
  refine ldH_mk (hc 0 _ rfl) (ldH_mk (hc 1 _ rfl) (ldH_mk (hc 2 _ rfl) (ldH_mk (hc 3 _ rfl) (ldH_mk (hc 4 _ rfl) (ldH_mk (hc 5 _ rfl) (ldH_mk (hc 6 _ rfl) (ldH_mk (hc 7 _ rfl) ?_)))))))
  have p := pushed h10 zs8.toArray 129
  rw [show h10.push (.cells #[.int .i64 0, .bool false, .int .i64 0, .int .u32 0, .int .u32 0, .int .i64 0, .int .u32 0, .int .u32 0] 129) = h10.push (.cells zs8.toArray 129) from rfl]
  generalize h10.push (.cells zs8.toArray 129) = h11 at *
  have sp := p.size
  refine st8 (stN_full (vs := (es[i]).cells) p.new rfl (cells8_one _) fun h30 w => ?_)
  have o30 : Old h10.size h10 h30 := w.toOld p.toOld (Nat.le_refl _)
  have s30 : h30.size = h10.size + 1 := by rw [w.size]; exact sp
  have own30 : OwnO h30 o (inv es i).length c' (opsAt es i) := own.keep fun ad e => o30.2 _ (own.lt ad e)
  have mf30 := mf.keep (o30.2 _ mf.lt)
  have hok := hR i hi'
  have hth := thN_get hi'
  have hbk := bkN_get hi'
  have hilen := inv_len_le es i
  have hopn := opnN_succ hi'
  have hops1 := ops_inv hi'
  have hops2 := fun q => ops_ans (es := es) (q := q) hi'
  have hisucc := inv_succ es i
  generalize hev : es[i] = e at *
  have hrow : ∀ ad, o = some ad → ad.block ≠ h1.size := fun ad e => by have := hab ad e; omega
  refine ldR w.new rfl ?_
  simp only [asBool_bool]
  refine ifB_mk (fun hb => ?_) (fun hb => ?_)
  · have hb' : e.bk = false := by revert hb; cases e.bk <;> simp
    have hno : opnN es i e.th = none := by
      unfold okE mayB at hok
      rw [hb'] at hok
      simp only [Bool.false_eq_true, if_false, Bool.and_eq_true, Option.isNone_iff_eq_none] at hok
      exact hok.1.2.2
    rw [hb'] at hbk
    simp only [hb'] at hopn
    rw [hbk] at hisucc
    have hops := hops1 hbk (by rw [hth]; exact hno)
    simp only [Bool.false_eq_true, if_false] at hisucc hopn
    refine ldR w.new rfl ?_
    simp only [asInt_int]
    refine upd_mk und_mii und_int mf30 fun h38 mf38 s38 old38 => ?_
    have loc38 : h38[h10.size]? = some (.cells e.cells.toArray 129) := (old38 _ (by omega)).trans w.new
    have own38 : OwnO h38 o (inv es i).length c' (opsAt es i) := own30.keep fun ad e => old38 _ (hrow ad e)
    refine ldR loc38 rfl ?_
    simp only [asInt_int]
    simp only [add_lit]
    refine ldR loc38 rfl (ldR loc38 rfl (ldR loc38 rfl ?_))
    refine app_row1 (ys := (⟨e.th, e.c.o, e.c.k, e.c.v, 0, 0, 0, i, -1⟩ : Op9).cells) (xs := (opsAt es i).flatMap Op9.cells) und_opers there_oper zer_oper (by rw [siz_oper]; rfl) (by rw [byt_oper]; omega) (by rw [siz_oper]; rfl) (cells9_one _) (by rw [siz_oper]; exact own38) (by rw [byt_oper]; omega) ?_
    intro a' c2 h48 own48 s48 old48 hor
    rw [siz_oper] at own48
    simp only [asSlice_slice]
    rw [nat_wrap1 (by omega)]
    have hl1 : (inv es (i + 1)).length = (inv es i).length + 1 := by rw [hisucc]; simp
    have hge : ∀ ad, a' = some ad → h1.size < ad.block := by
      intro ad e
      rcases hor ad e with h | h
      · exact hab ad h
      · omega
    refine ⟨⟨a', c2, _, _, i + 1, by rw [hl1], by omega, ⟨by omega, fun b hb => ?_⟩, by omega, ?_, hge, _, mf38.keep (old48 _ mf38.lt hrow), fun t q ht => ?_⟩, ?_⟩
    · exact (old48 b (by omega) (fun ad e => by have := hab ad e; omega)).trans ((old38 b (by omega)).trans ((o30.2 b (by omega)).trans (o10.2 b hb)))
    · rw [hl1]
      unfold OwnO
      rw [hops, flat9_push]; exact own48
    · rw [hopn] at ht
      by_cases et : e.th = t
      · rw [if_pos et] at ht
        cases ht
        simp only [et, if_pos]
      · rw [if_neg et] at ht
        rw [if_neg (fun h => et h.symm)]
        exact hf t q ht
    · show l - ((i + 1 : Nat) : Int).toNat < l - (i : Int).toNat
      omega
  · have hb' : e.bk = true := by revert hb; cases e.bk <;> simp
    obtain ⟨q, hq⟩ : ∃ q, opnN es i e.th = some q := by
      unfold okE mayB at hok
      rw [hb'] at hok
      cases ho : opnN es i e.th with
      | some q => exact ⟨q, rfl⟩
      | none => rw [ho] at hok; simp at hok
    rw [hb'] at hbk
    simp only [hb'] at hopn
    rw [hbk] at hisucc
    have hops := hops2 q hbk (by rw [hth]; exact hq)
    simp only [if_true, List.append_nil] at hisucc hopn
    obtain ⟨hqi, hql, hqth, hqb⟩ := opnN_lt hq
    have hat := inv_at (es := es) (q := q) (by rw [bkN_get hql]; exact hqb) i hqi
    have hpos := (List.getElem?_eq_some_iff.1 hat).1
    generalize hr : (inv es q).length = r at *
    refine ldR w.new rfl ?_
    simp only [asInt_int]
    refine look_mk und_mii und_int zer_i64 mf30 ?_
    rw [hf e.th q hq, hr]
    simp only [Bool.false_eq_true, if_false, Option.getD_some, asInt_int]
    refine ⟨by omega, by omega, ?_⟩
    obtain ⟨ad, rfl⟩ := own30.some (by omega)
    simp only [asPtr_some, Int.toNat_natCast, add_lit]
    refine ldR w.new rfl (ldR w.new rfl (ldR w.new rfl ?_))
    simp only [nilC]
    have hlen9 := flat9_len (opsAt es i)
    rw [opsAt_len] at hlen9
    simp only [add_add]
    refine Own.store own30 (by omega) trivial fun h65 own65 s65 old65 => ?_
    refine Own.store own65 (by simp only [List.length_set]; omega) trivial fun h66 own66 s66 old66 => ?_
    refine Own.store own66 (by simp only [List.length_set]; omega) trivial fun h67 own67 s67 old67 => ?_
    refine Own.store own67 (by simp only [List.length_set]; omega) trivial fun h68 own68 s68 old68 => ?_
    rw [nat_wrap1 (by omega)]
    have hrl : r < (opsAt es i).length := by rw [opsAt_len]; exact hpos
    rw [flat9_set hrl] at own68
    have hidx : (opsAt es i)[r] = opEv es i q := by
      have : (opsAt es i)[r]? = some (opEv es i q) := by unfold opsAt; rw [List.getElem?_map, hat]; rfl
      exact (List.getElem?_eq_some_iff.1 this).2
    have hans := ans_of_opn i (by omega) hq
    have hset : (opsAt es i).set r ⟨((opsAt es i)[r]).th, ((opsAt es i)[r]).op, ((opsAt es i)[r]).key, ((opsAt es i)[r]).val, e.a.o, e.a.k, e.a.v, ((opsAt es i)[r]).fr, i⟩ = opsAt es (i + 1) := by
      rw [hops, hidx]
      unfold opEv
      rw [hans]
    rw [hset] at own68
    have hbl : ad.block ≠ h10.size := by have := own.lt _ rfl; omega
    have hne := hab ad rfl
    have all : ∀ b, b ≠ ad.block → h68[b]? = h30[b]? := fun b hb => (old68 b hb).trans ((old67 b hb).trans ((old66 b hb).trans (old65 b hb)))
    refine ⟨⟨some ad, c', _, _, i + 1, by rw [hisucc], by omega, ⟨by omega, fun b hb => ?_⟩, by omega, ?_, hab, f, mf30.keep (all _ (by omega)), fun t q' ht => ?_⟩, ?_⟩
    · exact (all b (by omega)).trans ((o30.2 b (by omega)).trans (o10.2 b hb))
    · rw [hisucc]; exact own68
    · rw [hopn] at ht
      by_cases et : e.th = t
      · rw [if_pos et] at ht; cases ht
      · rw [if_neg et] at ht; exact hf t q' ht
    · show l - ((i + 1 : Nat) : Int).toNat < l - (i : Int).toNat
      omega

theorem opEv_low (es : List Ev8) {i : Nat} (hi : i < es.length) : opEv es (i + 1) i = ⟨(es[i]).th, (es[i]).c.o, (es[i]).c.k, (es[i]).c.v, 0, 0, 0, i, -1⟩ := by
  unfold opEv
  rw [ansN_low (Nat.le_refl _)]
  simp only [List.getD_eq_getElem?_getD, List.getElem?_eq_getElem hi, Option.getD_some]
theorem opEv_found (es : List Ev8) {i k : Nat} (hik : i < k) (hk : k < es.length) (ha : ansN es k i = none) (ht : (es[k]).th = thN es i) (hi : i < es.length) :
    opEv es (k + 1) i = ⟨(es[i]).th, (es[i]).c.o, (es[i]).c.k, (es[i]).c.v, (es[k]).a.o, (es[k]).a.k, (es[k]).a.v, i, k⟩ := by
  unfold opEv
  rw [ansN_succ, ha, Option.none_or, if_pos ⟨hik, by rw [thN_get hk]; exact ht⟩]
  simp only [List.getD_eq_getElem?_getD, List.getElem?_eq_getElem hi, List.getElem?_eq_getElem hk, Option.getD_some]
theorem opEv_none (es : List Ev8) {i k : Nat} (ha : ansN es k i = none) (hi : i < es.length) : opEv es k i = ⟨(es[i]).th, (es[i]).c.o, (es[i]).c.k, (es[i]).c.v, 0, 0, 0, i, -1⟩ := by
  unfold opEv
  rw [ha]
  simp only [List.getD_eq_getElem?_getD, List.getElem?_eq_getElem hi, Option.getD_some]
theorem opEv_to (es : List Ev8) (k i : Nat) : (opEv es k i).to < 0 ↔ ansN es k i = none := by
  unfold opEv
  cases h : ansN es k i with
  | none => simp
  | some q => simp
theorem opEv_stay (es : List Ev8) {k j i : Nat} (h : ansN es k i ≠ none) (hkj : k ≤ j) : opEv es j i = opEv es k i := by
  refine opEv_congr ?_
  cases ha : ansN es k i with
  | none => exact absurd ha h
  | some q => exact ansN_mono ha hkj
/-- The operations so far of the document: each call with its answer. -/
def opsR (es : List Ev8) (i : Nat) : List Op9 := (inv es i).map (opEv es es.length)
theorem opsR_len (es : List Ev8) (i : Nat) : (opsR es i).length = (inv es i).length := by unfold opsR; rw [List.length_map]

theorem refOpers_call {K : Value → Heap → Prop} {h : Heap} {a : Option Addr} {l c : Nat} {es : List Ev8} (H : SV h a l c es) (hl : l ≤ 500)
    (k : ∀ a' c' h', SlO h' a' (opsE es).length c' (opsE es) → Old h.size h h' → K (.slice a' (opsE es).length c') h') : CallH Try.prog 71 #[.slice a l c] h K := by
  refine call71 ?_
  unfold F71
  have hlen := H.len
  refine ⟨fun vs h' => ∃ o c' w1, ∃ i : Nat, vs = [.slice o (inv es i).length c', iv i, w1] ∧ i ≤ l ∧ Old h.size h h' ∧ OwnO h' o (inv es i).length c' (opsR es i) ∧ (∀ ad, o = some ad → h.size ≤ ad.block),
    fun vs _ => (match vs with | [_, .int _ n, _] => l - n.toNat | _ => 0),
    ⟨none, 0, _, 0, rfl, Nat.zero_le _, Old.refl _ _, Own.nil _ _ _, fun ad e => (by cases e)⟩, ?_⟩
  rintro v2 v3 v4 g5 h6 ⟨o, c', w1, i, e, hi, o6, own, hab⟩
  cases e
  simp only [asInt_int, asI_int, asSlice_slice]
  refine ifB_dec (fun hlt => ?_) (fun hge => ?_)
  rotate_left
  · obtain rfl : i = es.length := by omega
    have := k o c' h6
    unfold opsE at this
    rw [opsAt_len] at this
    exact this own.sl o6
  have hi' : i < es.length := by omega
  obtain ⟨ad, rfl, hc⟩ := (H.old o6).at hi'
  have hbk := bkN_get hi'
  have hisucc := inv_succ es i
  have hilen := inv_len_le es i
  refine ⟨fun vs h' => ∃ o c' w1, vs = [.slice o (inv es (i + 1)).length c', w1] ∧ Old h.size h h' ∧ OwnO h' o (inv es (i + 1)).length c' (opsR es (i + 1)) ∧ (∀ ad, o = some ad → h.size ≤ ad.block), ?_, ?_⟩
  rotate_left
  · rintro v83 v84 g85 h86 ⟨o2, c2, w2, e, o86, own86, hab2⟩
    cases e
    rw [nat_wrap1 (by omega)]
    refine ⟨⟨o2, c2, _, i + 1, rfl, by omega, o86, own86, hab2⟩, ?_⟩
    show l - ((i + 1 : Nat) : Int).toNat < l - (i : Int).toNat
    omega
  refine ⟨by omega, hlt, ?_⟩
  simp only [asPtr_some, Int.toNat_natCast]
  refine ldH_mk (hc 1 _ rfl) ?_
  simp only [asBool_bool]
  refine ifB_mk (fun hb => ?_) (fun hb => ?_)
  · rw [hbk, hb] at hisucc
    simp only [if_true, List.append_nil] at hisucc
    refine ⟨o, c', _, by rw [hisucc], o6, ?_, hab⟩
    rw [hisucc]
    unfold opsR at own ⊢
    rw [hisucc]; exact own
  rw [hbk, hb] at hisucc
  simp only [Bool.false_eq_true, if_false] at hisucc
  refine ⟨by omega, hlt, ?_⟩
  refine ldH_mk (hc 0 _ rfl) ?_
  simp only [asInt_int]
  refine ⟨by omega, hlt, ldH_mk (hc 2 _ rfl) (ldH_mk (hc 3 _ rfl) (ldH_mk (hc 4 _ rfl) ?_))⟩
  have p := pushed h6 zs9.toArray 61
  rw [show h6.push (.cells #[.int .i64 0, .int .i64 0, .int .u32 0, .int .u32 0, .int .i64 0, .int .u32 0, .int .u32 0, .int .i64 0, .int .i64 0] 61) = h6.push (.cells zs9.toArray 61) from rfl]
  generalize h6.push (.cells zs9.toArray 61) = h7 at *
  have sp := p.size
  have pc : ∀ j v, (es[i]).cells[j]? = some v → cellAt h7 ((ad.add (i * 8)).add j) = some v := fun j v e => cell_stable _ _ p.toOld (hc j v e)
  refine ⟨pc 2 _ rfl, pc 3 _ rfl, pc 4 _ rfl, pc 0 _ rfl, ?_⟩
  refine st9 (stN_full (vs := (⟨(es[i]).th, (es[i]).c.o, (es[i]).c.k, (es[i]).c.v, 0, 0, 0, i, -1⟩ : Op9).cells) p.new rfl (cells9_one _) fun h31 w => ?_)
  rw [← opEv_low es hi'] at w
  have hz : ∀ {h' : Heap} {r : Array Value}, Wrote h7 h6.size r 61 h' → Old h6.size h6 h' ∧ h'.size = h6.size + 1 := fun x => ⟨x.toOld p.toOld (Nat.le_refl _), by rw [x.size]; exact sp⟩
  refine ⟨fun vs h' => ∃ k : Nat, vs = [iv k] ∧ i + 1 ≤ k ∧ k ≤ l ∧ Wrote h7 h6.size (opEv es k i).cells.toArray 61 h', fun vs _ => (match vs with | [.int _ n] => l - n.toNat | _ => 0), ⟨i + 1, by rw [nat_wrap1 (by omega)], Nat.le_refl _, by omega, w⟩, ?_⟩
  rintro v35 g36 h37 ⟨q, e, hiq, hql, w37⟩
  cases e
  simp only [asInt_int, asI_int]
  refine ⟨fun vs h' => vs = [.bool (decide (q < l) && (ansN es q i).isNone)] ∧ h' = h37, ?_, ?_⟩
  · refine ifB_dec (fun hq => ?_) (fun hq => ⟨by rw [decide_eq_false (show ¬ q < l by omega)]; rfl, by trivial⟩)
    refine ldR w37.new rfl ?_
    simp only [asInt_int]
    refine ⟨?_, by trivial⟩
    have hto := opEv_to es q i
    have hd : decide ((opEv es q i).to < 0) = (decide (q < l) && (ansN es q i).isNone) := by
      rw [decide_eq_true (show q < l by omega), Bool.true_and]
      cases ha : ansN es q i with
      | none => rw [decide_eq_true (hto.2 ha)]; rfl
      | some r => rw [decide_eq_false (fun h => by rw [hto.1 h] at ha; cases ha)]; rfl
    rw [hd]
  rintro v42 g43 h44 ⟨e, rfl⟩
  cases e
  obtain ⟨o44, s44⟩ := hz w37
  have hev := ((H.old o6).old o44)
  simp only [asBool_bool]
  refine ifB_mk (fun hb45 => ?_) (fun hb45 => ?_)
  · simp only [Bool.and_eq_true, decide_eq_true_eq, Option.isNone_iff_eq_none] at hb45
    obtain ⟨hq, hans⟩ := hb45
    have hq' : q < es.length := by omega
    obtain ⟨ad', e', hcq⟩ := hev.at hq'
    cases e'
    refine ⟨fun vs h' => vs = [] ∧ Wrote h7 h6.size (opEv es (q + 1) i).cells.toArray 61 h', ?_, ?_⟩
    · refine ⟨by omega, by omega, ldH_mk (hcq 0 _ rfl) ?_⟩
      simp only [asInt_int]
      rw [opEv_none es hans hi'] at w37
      refine ldR w37.new rfl ?_
      simp only [asInt_int]
      refine ifB_mk (fun he => ?_) (fun he => ?_)
      · have he' : (es[q]).th = (es[i]).th := by simpa using he
        refine stR w37.new rfl trivial fun g1 w1 => ?_
        obtain ⟨oz, _⟩ := hz (w37.trans w1)
        obtain ⟨ad', e', hcz⟩ := ((H.old o6).old oz).at hq'
        cases e'
        refine ⟨by omega, by omega, ldH_mk (hcz 5 _ rfl) (ldH_mk (hcz 6 _ rfl) (ldH_mk (hcz 7 _ rfl) ?_))⟩
        simp only [add_lit]
        refine stR w1.new rfl trivial fun g2 w2 => ?_
        refine stR w2.new rfl trivial fun g3 w3 => ?_
        refine stR w3.new rfl trivial fun g4 w4 => ?_
        refine ⟨by trivial, ?_⟩
        rw [opEv_found es (by omega) hq' hans (by rw [thN_get hi']; exact he') hi']
        exact ((((w37.trans w1).trans w2).trans w3).trans w4)
      · refine ⟨by trivial, ?_⟩
        have : opEv es (q + 1) i = opEv es q i := by
          refine opEv_congr ?_
          rw [ansN_succ, hans, Option.none_or, if_neg]
          rintro ⟨_, e2⟩
          rw [thN_get hq', thN_get hi'] at e2
          rw [e2] at he; simp at he
        rw [this, opEv_none es hans hi']
        exact w37
    · rintro g63 h64 ⟨_, w64⟩
      rw [nat_wrap1 (by omega)]
      refine ⟨⟨q + 1, rfl, by omega, by omega, w64⟩, ?_⟩
      show l - ((q + 1 : Nat) : Int).toNat < l - (q : Int).toNat
      omega
  · have hfin : opEv es q i = opEv es es.length i := by
      by_cases hq : q < l
      · rw [decide_eq_true hq, Bool.true_and] at hb45
        exact (opEv_stay es (fun h => by rw [h] at hb45; cases hb45) (by omega)).symm
      · rw [show q = es.length by omega]
    rw [hfin] at w37
    have own44 : OwnO h44 o (inv es i).length c' (opsR es i) := own.keep fun ad e => o44.2 _ (own.lt ad e)
    refine ldR w37.new rfl (ldR w37.new rfl (ldR w37.new rfl (ldR w37.new rfl (ldR w37.new rfl (ldR w37.new rfl (ldR w37.new rfl (ldR w37.new rfl (ldR w37.new rfl ?_))))))))
    refine app_row1 (ys := (opEv es es.length i).cells) (xs := (opsR es i).flatMap Op9.cells) und_opers there_oper zer_oper (by rw [siz_oper]; rfl) (by rw [byt_oper]; omega) (by rw [siz_oper]; rfl) (cells9_one _) (by rw [siz_oper]; exact own44) (by rw [byt_oper]; omega) ?_
    intro a' c2 h79 own79 s79 old79 hor
    rw [siz_oper] at own79
    simp only [asSlice_slice]
    have hl1 : (inv es (i + 1)).length = (inv es i).length + 1 := by rw [hisucc]; simp
    have hops : opsR es (i + 1) = opsR es i ++ [opEv es es.length i] := by unfold opsR; rw [hisucc]; simp
    have h6s := o6.1
    refine ⟨a', c2, _, by rw [hl1], ⟨by omega, fun b hb => ?_⟩, ?_, fun ad e => ?_⟩
    · exact (old79 b (by omega) (fun ad e => by have := hab ad e; omega)).trans ((o44.2 b (by omega)).trans (o6.2 b hb))
    · rw [hl1, hops]
      unfold OwnO
      rw [flat9_push]; exact own79
    · rcases hor ad e with h | h
      · exact hab ad h
      · omega

/-! ### how many pairs are left -/
/-- An operation's part. -/
def lfO (o : Op9) : Int := if o.to < 0 then 0 else if o.kind = 0 then 1 else if o.op = 1 ∧ o.kind = 2 then -1 else 0
def sumP (f : Op9 → Int) (ops : List Op9) : Nat → Int
  | 0 => 0
  | i + 1 => sumP f ops i + (match ops[i]? with | some o => f o | none => 0)
theorem sumP_succ (f : Op9 → Int) {ops : List Op9} {i : Nat} (h : i < ops.length) : sumP f ops (i + 1) = sumP f ops i + f ops[i] := by
  show sumP f ops i + (match ops[i]? with | some o => f o | none => 0) = _
  rw [List.getElem?_eq_getElem h]
theorem sumP_le {f : Op9 → Int} (hf : ∀ o, -1 ≤ f o ∧ f o ≤ 1) (ops : List Op9) : ∀ i : Nat, -(i : Int) ≤ sumP f ops i ∧ sumP f ops i ≤ i := by
  intro i
  induction i with
  | zero => exact ⟨Int.le_refl _, Int.le_refl _⟩
  | succ i ih =>
    have e : sumP f ops (i + 1) = sumP f ops i + (match ops[i]? with | some o => f o | none => 0) := rfl
    rw [e]
    cases ops[i]? with
    | none => simp only; omega
    | some o => have := hf o; simp only; omega
theorem sumP_congr {f g : Op9 → Int} {ops : List Op9} (h : ∀ o ∈ ops, f o = g o) : ∀ i, i ≤ ops.length → sumP f ops i = sumP g ops i := by
  intro i
  induction i with
  | zero => intro _; rfl
  | succ i ih =>
    intro hi
    rw [sumP_succ f (by omega), sumP_succ g (by omega), ih (by omega), h _ (List.getElem_mem _)]
theorem lfO_le (o : Op9) : -1 ≤ lfO o ∧ lfO o ≤ 1 := by
  unfold lfO
  split
  · omega
  · split
    · omega
    · split <;> omega
/-- An operation's part, as the document has it. -/
def ldO (o : Op9) : Int := (if 0 ≤ o.to ∧ o.op = 0 ∧ o.kind = 0 then 1 else 0) + (if 0 ≤ o.to ∧ o.op = 1 ∧ o.kind = 2 then -1 else 0)
theorem ldO_le (o : Op9) : -1 ≤ ldO o ∧ ldO o ≤ 1 := by
  unfold ldO
  split <;> split <;> omega
/-- In a history, what is answered fits. -/
theorem fit_of {es : List Ev8} (hR : RightH es) {q k : Nat} (hb : bkN es q = false) (hk : ansN es es.length q = some k) : fitsB (es.getD q dfE).c (es.getD k dfE).a = true := by
  obtain ⟨h1, h2, h3, h4⟩ := ansN_some hk
  have hop := opn_of_ans hb k (by omega) h1 h4
  have hok := hR k h2
  rw [← h3, thN_get h2] at hop
  unfold okE mayB at hok
  rw [hop] at hok
  cases hbk : (es[k]).bk with
  | false => rw [hbk] at hok; simp at hok
  | true =>
    rw [hbk] at hok
    simp only [if_true, Bool.and_eq_true] at hok
    have hq : q < es.length := by omega
    have e1 : es.getD q dfE = es[q] := by rw [List.getD_eq_getElem?_getD, List.getElem?_eq_getElem hq]; rfl
    have e2 : es.getD k dfE = es[k] := by rw [List.getD_eq_getElem?_getD, List.getElem?_eq_getElem h2]; rfl
    have e3 : es.getD q ⟨0, false, zeroC, zeroC⟩ = es[q] := by rw [List.getD_eq_getElem?_getD, List.getElem?_eq_getElem hq]; rfl
    rw [e3] at hok
    rw [e1, e2]
    exact hok.1.2
theorem lf_ld {x y : Int} (h3 : (x == 0) = (y == 0 || y == 1)) : (if y = 0 then (1 : Int) else if x = 1 ∧ y = 2 then -1 else 0) = (if x = 0 ∧ y = 0 then 1 else 0) + (if x = 1 ∧ y = 2 then -1 else 0) := by
  by_cases e0 : y = 0
  · have e1 : x = 0 := by rw [e0] at h3; simpa using h3
    simp [e0, e1]
  · simp [e0]
theorem left_same {es : List Ev8} (hR : RightH es) : ∀ o ∈ opsE es, lfO o = ldO o := by
  intro o ho
  unfold opsE opsAt at ho
  obtain ⟨q, hq, rfl⟩ := List.mem_map.1 ho
  obtain ⟨hq1, hqb⟩ := inv_lt hq
  unfold opEv
  cases ha : ansN es es.length q with
  | none => rfl
  | some k =>
    have hf := fit_of hR hqb ha
    unfold fitsB at hf
    simp only [Bool.and_eq_true, beq_iff_eq] at hf
    have h3 := hf.2.2
    unfold lfO ldO
    have hk : (0 : Int) ≤ (k : Int) := by omega
    have hk' : ¬ (k : Int) < 0 := by omega
    simp only [hk, hk', true_and, if_false]
    exact lf_ld h3

theorem opsE_len_le (es : List Ev8) : (opsE es).length ≤ es.length := by unfold opsE; rw [opsAt_len]; exact inv_len_le _ _
theorem left_call {K : Value → Heap → Prop} {h : Heap} {a : Option Addr} {l c : Nat} {es : List Ev8} (H : SV h a l c es) (hl : l ≤ 500)
    (k1 : RightH es → ∀ h', Old h.size h h' → K (iv (sumP lfO (opsE es) (opsE es).length)) h') (k0 : ¬ RightH es → ∀ h', Old h.size h h' → K (iv 0) h') : CallH Try.prog 70 #[.slice a l c] h K := by
  refine call70 ?_
  unfold F70
  have hlen := H.len
  have hol := opsE_len_le es
  refine callV_fn (opers_call H hl (fun hR a' c' h1 S1 o1 => ?_) (fun hR h1 o1 => ?_))
  rotate_left
  · simp only [asTup]
    refine elemH_mk rfl ?_
    simp only [asSlice_slice]
    refine elemH_mk rfl ?_
    simp only [asInt_int]
    exact k0 hR h1 o1
  simp only [asTup]
  refine elemH_mk rfl ?_
  simp only [asSlice_slice]
  refine elemH_mk rfl ?_
  simp only [asInt_int]
  generalize opsE es = ops at *
  refine ⟨fun vs h' => ∃ w1 w2 w3, ∃ i : Nat, vs = [iv (sumP lfO ops i), iv i, w1, w2, w3] ∧ i ≤ ops.length ∧ Old h1.size h1 h', fun vs _ => (match vs with | [_, .int _ n, _, _, _] => ops.length - n.toNat | _ => 0),
    ⟨_, _, _, 0, rfl, Nat.zero_le _, Old.refl _ _⟩, ?_⟩
  rintro v12 v13 v14 v15 v16 g17 h18 ⟨w1, w2, w3, i, e, hi, o18⟩
  cases e
  simp only [asInt_int, asI_int]
  have hb := sumP_le lfO_le ops i
  refine ifB_dec (fun hlt => ?_) (fun hge => ?_)
  rotate_left
  · obtain rfl : i = ops.length := by omega
    exact k1 hR _ (o1.trans (o18.mono o1.1))
  have hi' : i < ops.length := by omega
  have hs := sumP_succ lfO hi'
  have fin : ∀ {h' : Heap}, Old h18.size h18 h' → Old h1.size h1 h' := fun x => o18.trans (x.mono o18.1)
  have hmu : ops.length - ((i + 1 : Nat) : Int).toNat < ops.length - (i : Int).toNat := by omega
  obtain ⟨ad, rfl, _, hc⟩ := (S1.old o18).at hi'
  generalize hop : ops[i] = x at *
  refine ⟨by omega, by omega, ?_⟩
  simp only [asPtr_some, Int.toNat_natCast]
  refine ldH_mk (hc 0 _ rfl) (ldH_mk (hc 1 _ rfl) (ldH_mk (hc 2 _ rfl) (ldH_mk (hc 3 _ rfl) (ldH_mk (hc 4 _ rfl) (ldH_mk (hc 5 _ rfl) (ldH_mk (hc 6 _ rfl) (ldH_mk (hc 7 _ rfl) (ldH_mk (hc 8 _ rfl) ?_))))))))
  have p := pushed h18 zs9.toArray 61
  rw [show h18.push (.cells #[.int .i64 0, .int .i64 0, .int .u32 0, .int .u32 0, .int .i64 0, .int .u32 0, .int .u32 0, .int .i64 0, .int .i64 0] 61) = h18.push (.cells zs9.toArray 61) from rfl]
  generalize h18.push (.cells zs9.toArray 61) = h19 at *
  refine st9 (stN_full (vs := x.cells) p.new rfl (cells9_one _) fun h39 w => ?_)
  have o39 : Old h18.size h18 h39 := w.toOld p.toOld (Nat.le_refl _)
  refine ldR w.new rfl ?_
  simp only [asInt_int]
  rw [nat_wrap1 (i := i) (by omega)]
  refine ifB_dec (fun hto => ?_) (fun hto => ?_)
  · have : lfO x = 0 := by unfold lfO; rw [if_pos hto]
    rw [this, Int.add_zero] at hs
    exact ⟨⟨_, _, _, i + 1, by rw [hs], by omega, fin o39⟩, hmu⟩
  refine ldR w.new rfl ?_
  simp only [asInt_int]
  refine ifB_mk (fun hk0 => ?_) (fun hk0 => ?_)
  · have : lfO x = 1 := by unfold lfO; rw [if_neg hto, if_pos (by simpa using hk0)]
    rw [this] at hs
    rw [wrap64_id' (by omega) (by omega)]
    exact ⟨⟨_, _, _, i + 1, by rw [hs], by omega, fin o39⟩, hmu⟩
  have hk0' : x.kind ≠ 0 := by simpa using hk0
  refine ⟨fun vs h' => (∃ w, vs = [.bool (x.op == 1 && x.kind == 2), w]) ∧ h' = h39, ?_, ?_⟩
  · refine ldR w.new rfl ?_
    simp only [asInt_int]
    refine ifB_mk (fun h1 => ?_) (fun h1 => ?_)
    · refine ldR w.new rfl ?_
      simp only [asInt_int]
      exact ⟨⟨_, by rw [h1, Bool.true_and]⟩, by trivial⟩
    · exact ⟨⟨_, by rw [h1, Bool.false_and]⟩, by trivial⟩
  rintro v52 v53 g54 h55 ⟨⟨_, e⟩, rfl⟩
  cases e
  simp only [asBool_bool]
  refine ifB_mk (fun h1 => ?_) (fun h1 => ?_)
  · have : lfO x = -1 := by unfold lfO; rw [if_neg hto, if_neg hk0', if_pos (by simpa using h1)]
    rw [this] at hs
    rw [wrap64_id' (by omega) (by omega)]
    exact ⟨⟨_, _, _, i + 1, by rw [hs]; rfl, by omega, fin o39⟩, hmu⟩
  · have : lfO x = 0 := by unfold lfO; rw [if_neg hto, if_neg hk0', if_neg (by simpa using h1)]
    rw [this, Int.add_zero] at hs
    exact ⟨⟨_, _, _, i + 1, by rw [hs], by omega, fin o39⟩, hmu⟩

theorem events_body {K : Value → Heap → Prop} {h : Heap} {a : Option Addr} {l c : Nat} {es : List Ev8} (H : SV h a l c es) (k : ∀ h', Old h.size h h' → K (.bool true) h') : F16 K h a l c := by
  unfold F16
  have hlen := H.len
  have lives : ∀ h1, Old h.size h h1 → callV Try.prog (.func (.func 60) #[] #[]) #[] h1 fun v0 h1 => asBool v0 fun b2 => K (.bool b2) h1 := by
    intro h1 o1
    refine callV_fn (lives40_call fun h2 o2 => ?_)
    simp only [asBool_bool]
    exact k _ (o1.trans (o2.mono o1.1))
  refine ifB_dec (fun hl => lives _ (Old.refl _ _)) (fun hl => ?_)
  have hl' : l ≤ 100 := by omega
  refine callV_fn (refRightH_call H (by omega) (fun hR h4 o4 => ?_) (fun hR h4 o4 => ?_))
  rotate_left
  · simp only [asBool_bool, Bool.not_false, ifB_true]
    refine callV_fn (left_call (H.old o4) (by omega) (fun hR2 => absurd hR2 hR) (fun _ h7 o7 => ?_))
    simp only [asInt_int]
    rw [show ((0 : Int) == 0) = true from rfl]
    simp only [ifB_true]
    exact lives _ (o4.trans (o7.mono o4.1))
  simp only [asBool_bool, Bool.not_true, ifB_false]
  refine callV_fn (refOpers_call (H.old o4) (by omega) fun a' c' h13 S13 o13 => ?_)
  have ok13 := o4.trans (o13.mono o4.1)
  simp only [asSlice_slice]
  have hol := opsE_len_le es
  have hsame := sumP_congr (left_same hR) (opsE es).length (Nat.le_refl _)
  generalize hopsE : opsE es = ops at *
  refine ⟨fun vs h' => ∃ i : Nat, vs = [iv (sumP ldO ops i), iv i] ∧ i ≤ ops.length ∧ h' = h13, fun vs _ => (match vs with | [_, .int _ n] => ops.length - n.toNat | _ => 0), ⟨0, rfl, Nat.zero_le _, rfl⟩, ?_⟩
  rintro v19 v20 g21 h22 ⟨i, e, hi, rfl⟩
  cases e
  simp only [asInt_int, asI_int]
  have hb := sumP_le ldO_le ops i
  refine ifB_dec (fun hlt => ?_) (fun hge => ?_)
  · have hi' : i < ops.length := by omega
    have hs := sumP_succ ldO hi'
    obtain ⟨ad, rfl, _, hc⟩ := S13.at hi'
    generalize hop : ops[i] = x at *
    refine ⟨fun vs h' => vs = [iv (sumP ldO ops (i + 1))] ∧ h' = h22, ?_, ?_⟩
    rotate_left
    · rintro v67 g68 h69 ⟨e, rfl⟩
      cases e
      rw [nat_wrap1 (by omega)]
      exact ⟨⟨i + 1, rfl, by omega, rfl⟩, by show ops.length - ((i + 1 : Nat) : Int).toNat < ops.length - (i : Int).toNat; omega⟩
    refine ⟨fun vs h' => vs = [iv (sumP ldO ops i + (if 0 ≤ x.to ∧ x.op = 0 ∧ x.kind = 0 then 1 else 0))] ∧ h' = h22, ?_, ?_⟩
    · refine ⟨fun vs h' => (∃ w, vs = [w, .bool (decide (0 ≤ x.to ∧ x.op = 0 ∧ x.kind = 0))]) ∧ h' = h22, ?_, ?_⟩
      · refine ⟨by omega, hlt, ?_⟩
        simp only [asPtr_some, Int.toNat_natCast]
        refine ldH_mk (hc 8 _ rfl) ?_
        simp only [asInt_int]
        refine ifB_dec (fun h1 => ?_) (fun h1 => ⟨⟨_, pairB (decide_eq_false (fun h => h1 h.1)).symm⟩, by trivial⟩)
        refine ⟨by omega, hlt, ldH_mk (hc 1 _ rfl) ?_⟩
        simp only [asInt_int]
        refine ifB_mk (fun h2 => ?_) (fun h2 => ⟨⟨_, pairB (decide_eq_false (fun h => by rw [h.2.1] at h2; cases h2)).symm⟩, by trivial⟩)
        refine ⟨by omega, hlt, ldH_mk (hc 4 _ rfl) ?_⟩
        simp only [asInt_int]
        refine ⟨⟨_, pairB ?_⟩, by trivial⟩
        have h2' : x.op = 0 := by simpa using h2
        by_cases e : x.kind = 0
        · rw [decide_eq_true ⟨h1, h2', e⟩, e]; rfl
        · rw [decide_eq_false (fun h => e h.2.2), beq_eq_false_iff_ne.2 e]
      rintro v39 v40 g41 h42 ⟨⟨_, e⟩, rfl⟩
      cases e
      simp only [asBool_bool]
      refine ifB_dec (fun h1 => ?_) (fun h1 => ?_)
      · rw [if_pos h1, wrap64_id' (by omega) (by omega)]
        exact ⟨rfl, by trivial⟩
      · rw [if_neg h1, Int.add_zero]
        exact ⟨rfl, by trivial⟩
    rintro v45 g46 h47 ⟨e, rfl⟩
    cases e
    refine ⟨fun vs h' => (∃ w, vs = [w, .bool (decide (0 ≤ x.to ∧ x.op = 1 ∧ x.kind = 2))]) ∧ h' = h47, ?_, ?_⟩
    · refine ⟨by omega, hlt, ?_⟩
      simp only [asPtr_some, Int.toNat_natCast]
      refine ldH_mk (hc 8 _ rfl) ?_
      simp only [asInt_int]
      refine ifB_dec (fun h1 => ?_) (fun h1 => ⟨⟨_, pairB (decide_eq_false (fun h => h1 h.1)).symm⟩, by trivial⟩)
      refine ⟨by omega, hlt, ldH_mk (hc 1 _ rfl) ?_⟩
      simp only [asInt_int]
      refine ifB_mk (fun h2 => ?_) (fun h2 => ⟨⟨_, pairB (decide_eq_false (fun h => by rw [h.2.1] at h2; cases h2)).symm⟩, by trivial⟩)
      refine ⟨by omega, hlt, ldH_mk (hc 4 _ rfl) ?_⟩
      simp only [asInt_int]
      refine ⟨⟨_, pairB ?_⟩, by trivial⟩
      have h2' : x.op = 1 := by simpa using h2
      by_cases e : x.kind = 2
      · rw [decide_eq_true ⟨h1, h2', e⟩, e]; rfl
      · rw [decide_eq_false (fun h => e h.2.2), beq_eq_false_iff_ne.2 e]
    rintro v61 v62 g63 h64 ⟨⟨_, e⟩, rfl⟩
    cases e
    simp only [asBool_bool]
    have hx : ldO x = (if 0 ≤ x.to ∧ x.op = 0 ∧ x.kind = 0 then 1 else 0) + (if 0 ≤ x.to ∧ x.op = 1 ∧ x.kind = 2 then -1 else 0) := rfl
    rw [hx, ← Int.add_assoc] at hs
    rw [hs]
    have hd0 : 0 ≤ (if 0 ≤ x.to ∧ x.op = 0 ∧ x.kind = 0 then (1 : Int) else 0) ∧ (if 0 ≤ x.to ∧ x.op = 0 ∧ x.kind = 0 then (1 : Int) else 0) ≤ 1 := by split <;> omega
    generalize (if 0 ≤ x.to ∧ x.op = 0 ∧ x.kind = 0 then (1 : Int) else 0) = d0 at *
    simp only [asInt_int]
    refine ifB_dec (fun h1 => ?_) (fun h1 => ?_)
    · rw [if_pos h1, wrap64_id' (by omega) (by omega)]
      exact ⟨rfl, by trivial⟩
    · rw [if_neg h1, Int.add_zero]
      exact ⟨rfl, by trivial⟩
  · obtain rfl : i = ops.length := by omega
    refine callV_fn (left_call (H.old ok13) (by omega) (fun _ h72 o72 => ?_) (fun hR2 => absurd hR hR2))
    simp only [asInt_int]
    rw [hopsE, hsame, beq_self_eq_true]
    simp only [ifB_true]
    exact lives _ (ok13.trans (o72.mono ok13.1))
end Go.Proofs.Ytgladmaagpcffaa
