/- The statement ShrinkLists' body. -/
import Derived.Test.YtgladmaagpcffaaTb
set_option linter.unusedSimpArgs false
set_option linter.unusedVariables false
set_option maxRecDepth 20000
namespace Go.Proofs.Ytgladmaagpcffaa

theorem all_take_succ {xs : List Int} {p : Int → Bool} {i : Nat} (hi : i < xs.length) : (xs.take (i + 1)).all p = ((xs.take i).all p && p xs[i]) := by
  rw [List.take_succ_eq_append_getElem hi, List.all_append]; simp
theorem countP_take_succ {xs : List Int} {p : Int → Bool} {i : Nat} (hi : i < xs.length) : (xs.take (i + 1)).countP p = (xs.take i).countP p + (if p xs[i] then 1 else 0) := by
  rw [List.take_succ_eq_append_getElem hi, List.countP_append, List.countP_singleton]

theorem wanted_call {K : Value → Heap → Prop} {h : Heap} {a a2 : Option Addr} {l c l2 c2 : Nat} {xs need : List Int} {odd : Int} (H : RI h a l c xs) (hl : l ≤ 1000) (H2 : RI h a2 l2 c2 need) (hl2 : l2 ≤ 1000)
    (k : K (.bool (wantedF need odd xs)) h) : CallH Try.prog 26 #[.slice a l c, .slice a2 l2 c2, iv odd] h K := by
  refine call26 ?_
  unfold F26
  have hlen := H.len
  have hlen2 := H2.len
  refine ⟨fun vs h' => ∃ i : Nat, vs = [.bool false, iv i] ∧ h' = h ∧ i ≤ l2 ∧ (need.take i).all (fun x => decide (need.count x ≤ xs.count x)) = true, fun vs _ => (match vs with | [_, .int _ n] => l2 - n.toNat | _ => 0), ⟨0, rfl, rfl, Nat.zero_le _, by simp⟩, ?_⟩
  rintro v2 v3 g h5 ⟨i, e, rfl, hi, hall⟩
  cases e
  simp only [asInt_int]
  refine ifB_dec (fun hlt => ?_) (fun hge => ?_)
  · have hlt' : i < need.length := by omega
    obtain ⟨ad, rfl, hc⟩ := H2.at hlt'
    refine ⟨by omega, hlt, ?_⟩
    simp only [asPtr_some, Int.toNat_natCast, Nat.mul_one]
    refine ldH_mk hc ?_
    simp only [asInt_int]
    refine ⟨by omega, hlt, ldH_mk hc ?_⟩
    simp only [asInt_int]
    refine callV_fn (count38_call H (by omega) ?_)
    simp only [asInt_int]
    refine ⟨hc, ?_⟩
    refine callV_fn (count38_call H2 (by omega) ?_)
    simp only [asInt_int]
    refine ifB_dec (fun h1 => ?_) (fun h1 => ?_)
    · have : wantedF need odd xs = false := by
        unfold wantedF
        rw [Bool.and_eq_false_iff]
        left
        rw [List.all_eq_false]
        exact ⟨need[i], List.getElem_mem _, by simp; omega⟩
      rwa [this] at k
    · rw [nat_wrap1 (by omega)]
      refine ⟨⟨i + 1, rfl, by trivial, by omega, ?_⟩, ?_⟩
      · rw [all_take_succ hlt', hall, Bool.true_and]
        exact decide_eq_true (by omega)
      · show l2 - ((i + 1 : Nat) : Int).toNat < l2 - (i : Int).toNat
        omega
  · have hi2 : need.length ≤ i := by omega
    rw [List.take_of_length_le hi2] at hall
    refine ⟨fun vs h' => ∃ i : Nat, vs = [iv (((xs.take i).countP (fun x => Int.tmod x 2 != 0) : Nat) : Int), iv i] ∧ h' = h5 ∧ i ≤ l, fun vs _ => (match vs with | [_, .int _ n] => l - n.toNat | _ => 0), ⟨0, rfl, rfl, Nat.zero_le _⟩, ?_⟩
    rintro v24 v25 g26 h27 ⟨j, e, rfl, hj⟩
    cases e
    simp only [asInt_int]
    refine ifB_dec (fun hlt => ?_) (fun hge => ?_)
    · have hlt' : j < xs.length := by omega
      have hcl := (xs.take j).countP_le_length (p := fun x => Int.tmod x 2 != 0)
      simp only [List.length_take] at hcl
      refine ⟨fun vs h' => vs = [iv (((xs.take (j + 1)).countP (fun x => Int.tmod x 2 != 0) : Nat) : Int)] ∧ h' = h27, ?_, ?_⟩
      · obtain ⟨ad, rfl, hc⟩ := H.at hlt'
        refine ⟨by omega, hlt, ?_⟩
        simp only [asPtr_some, Int.toNat_natCast, Nat.mul_one]
        refine ldH_mk hc ?_
        simp only [asInt_int]
        refine ⟨by omega, ifB_mk (fun hq => ⟨?_, by trivial⟩) (fun hq => ⟨?_, by trivial⟩)⟩
        · rw [countP_take_succ hlt', if_pos hq, nat_wrap1 (by omega)]
        · rw [countP_take_succ hlt', if_neg (by rw [hq]; simp)]; rfl
      · rintro v35 g36 h37 ⟨e, rfl⟩
        cases e
        rw [nat_wrap1 (by omega)]
        refine ⟨⟨j + 1, rfl, rfl, by omega⟩, ?_⟩
        show l - ((j + 1 : Nat) : Int).toNat < l - (j : Int).toNat
        omega
    · rw [List.take_of_length_le (by omega)]
      have : wantedF need odd xs = decide (((xs.countP (fun x => Int.tmod x 2 != 0) : Nat) : Int) ≥ odd) := by
        unfold wantedF
        rw [hall, Bool.true_and]
      rwa [this] at k

theorem within_call {K : Value → Heap → Prop} {h : Heap} {a a2 : Option Addr} {l c l2 c2 : Nat} {xs ys : List Int} (H : RI h a l c xs) (H2 : RI h a2 l2 c2 ys) (hl2 : l2 ≤ 1000) (hs : xs.Sublist ys)
    (k : K (.bool true) h) : CallH Try.prog 28 #[.slice a l c, .slice a2 l2 c2] h K := by
  refine call28 ?_
  unfold F28
  have hlen := H.len
  have hlen2 := H2.len
  have hle : l ≤ l2 := by have := hs.length_le; omega
  refine ⟨fun vs h' => ∃ j i : Nat, vs = [iv j, iv i] ∧ h' = h ∧ j ≤ l ∧ i ≤ l2 ∧ (xs.drop j).Sublist (ys.drop i), fun vs _ => (match vs with | [_, .int _ n] => l2 - n.toNat | _ => 0), ⟨0, 0, rfl, rfl, Nat.zero_le _, Nat.zero_le _, hs⟩, ?_⟩
  rintro v2 v3 g h5 ⟨j, i, e, rfl, hj, hi, hd⟩
  cases e
  simp only [asInt_int]
  refine ⟨fun vs h' => vs = [.bool (decide (i < l2 ∧ j < l))] ∧ h' = h5, ?_, ?_⟩
  · refine ifB_dec (fun h1 => ⟨?_, by trivial⟩) (fun h1 => ⟨?_, by trivial⟩)
    · congr 2; rw [decide_eq_decide]; omega
    · congr 2; rw [eq_comm, decide_eq_false_iff_not]; omega
  rintro v9 g10 h11 ⟨e, rfl⟩
  cases e
  simp only [asBool_bool]
  refine ifB_dec (fun hlt => ?_) (fun hge => ?_)
  · have hj' : j < xs.length := by omega
    have hi' : i < ys.length := by omega
    refine ⟨fun vs h' => ∃ j' : Nat, vs = [iv j'] ∧ h' = h11 ∧ j' ≤ l ∧ (xs.drop j').Sublist (ys.drop (i + 1)), ?_, ?_⟩
    · obtain ⟨ad2, rfl, hc2⟩ := H2.at hi'
      obtain ⟨ad1, rfl, hc1⟩ := H.at hj'
      refine ⟨by omega, by omega, ?_⟩
      simp only [asPtr_some, Int.toNat_natCast, Nat.mul_one]
      refine ldH_mk hc2 ?_
      simp only [asInt_int]
      refine ⟨by omega, by omega, ldH_mk hc1 ?_⟩
      simp only [asInt_int]
      refine ifB_mk (fun hq => ?_) (fun hq => ?_)
      · rw [nat_wrap1 (by omega)]
        exact ⟨j + 1, rfl, by trivial, by omega, within_eq hj' hi' hd (by simpa using hq)⟩
      · exact ⟨j, rfl, by trivial, by omega, within_ne hj' hi' hd (by simpa using hq)⟩
    · rintro v23 g24 h25 ⟨j', e, rfl, hj2, hd2⟩
      cases e
      rw [nat_wrap1 (by omega)]
      refine ⟨⟨j', i + 1, rfl, rfl, hj2, by omega, hd2⟩, ?_⟩
      show l2 - ((i + 1 : Nat) : Int).toNat < l2 - (i : Int).toNat
      omega
  · have : j = l := by
      by_cases hq : i < l2
      · omega
      · have := within_end (by omega) hd; omega
    subst this
    rwa [beq_self_eq_true]

theorem drop38_call {K : Value → Heap → Prop} {h : Heap} {a : Option Addr} {l c : Nat} {xs : List Int} {i : Nat} (H : RI h a l c xs) (hl : l ≤ 1000) (hi : i < l)
    (k : ∀ a' l' c' h', RI h' a' l' c' (xs.eraseIdx i) → Old h.size h h' → K (.slice a' l' c') h') : CallH Try.prog 29 #[.slice a l c, iv i] h K := by
  refine call29 ?_
  unfold F29
  have hcap := H.cap
  rw [nat_wrap1 (by omega)]
  refine ⟨by omega, by omega, by omega, by omega, ?_⟩
  simp only [Int.toNat_natCast, Nat.sub_zero]
  refine app_New (h0 := h) (.inl ⟨rfl, rfl, rfl⟩) (Old.refl _ _) (H.take (Nat.le_of_lt hi)) (by omega) (by omega) fun a1 c1 h1 hw o1 => ?_
  simp only [asSlice_slice]
  refine app_New hw o1 ((H.drop (f := i + 1) hi).old o1) (by omega) (by omega) fun a2 c2 h2 hw2 o2 => ?_
  simp only [asSlice_slice]
  refine k _ _ _ _ ?_ o2
  have := hw2.ri
  rwa [List.nil_append, ← List.eraseIdx_eq_take_drop_succ] at this

theorem bad_wanted {h : Heap} {p q : Nat} {a : Option Addr} {l c : Nat} {need : List Int} {odd : Int} (hp : cellAt h ⟨p, 0, none⟩ = some (.slice a l c)) (hq : cellAt h ⟨q, 0, none⟩ = some (iv odd)) (H : RI h a l c need) (hl : l ≤ 100) :
    BadAt (.func (.func 25) #[] #[.pointer (some ⟨p, 0, none⟩), .pointer (some ⟨q, 0, none⟩)]) (wantedF need odd) h := by
  refine ⟨⟨_, _, _, rfl⟩, fun h => cellAt h ⟨p, 0, none⟩ = some (.slice a l c) ∧ cellAt h ⟨q, 0, none⟩ = some (iv odd) ∧ RI h a l c need, ⟨hp, hq, H⟩, fun h h' o e => ⟨cell_stable _ _ o e.1, cell_stable _ _ o e.2.1, e.2.2.old o⟩, ?_⟩
  rintro h a1 l1 c1 xs K ⟨e1, e2, e3⟩ hr hl1 k
  refine callV_cl ?_
  rw [cl3]
  refine call25 ?_
  unfold F25
  simp only [asPtr_some]
  refine ldH_mk e1 ?_
  simp only [asSlice_slice, asPtr_some]
  refine ldH_mk e2 ?_
  simp only [asInt_int]
  refine callV_fn (wanted_call hr (by omega) e3 (by omega) ?_)
  simp only [asBool_bool]
  exact k _ (Old.refl _ _)

theorem bad_37 (h : Heap) : BadAt (.func (.func 82) #[] #[]) has37 h := by
  refine ⟨⟨_, _, _, rfl⟩, fun _ => True, trivial, fun _ _ _ _ => trivial, ?_⟩
  rintro h a1 l1 c1 xs K _ hr hl1 k
  refine callV_fn ?_
  refine call82 ?_
  unfold F82
  refine callV_fn (count38_call hr (by omega) ?_)
  simp only [asInt_int]
  refine ifB_dec (fun h1 => ?_) (fun h1 => ?_)
  · refine callV_fn (count38_call hr (by omega) ?_)
    simp only [asInt_int]
    have := k h (Old.refl _ _)
    unfold has37 at this
    rw [decide_eq_true (by omega), Bool.true_and] at this
    rwa [show decide ((xs.count (7 : Int) : Int) > 0) = decide (0 < xs.count 7) from decide_eq_decide.2 (by omega)]
  · have := k h (Old.refl _ _)
    unfold has37 at this
    rwa [decide_eq_false (by omega), Bool.false_and] at this

theorem lives38_call {K : Value → Heap → Prop} {h : Heap} (k : ∀ h', Old h.size h h' → K (.bool true) h') : CallH Try.prog 24 #[] h K := by
  refine call24 ?_
  unfold F24
  obtain ⟨h1, e1⟩ : ∃ h1, h1 = h.push (.cells #[.int .i64 1, .int .i64 2, .int .i64 3, .int .i64 4, .int .i64 5, .int .i64 6, .int .i64 7, .int .i64 8, .int .i64 9] 3) := ⟨_, rfl⟩
  rw [← e1]
  have n1 : h1[h.size]? = some (.cells #[.int .i64 1, .int .i64 2, .int .i64 3, .int .i64 4, .int .i64 5, .int .i64 6, .int .i64 7, .int .i64 8, .int .i64 9] 3) := by rw [e1]; exact push_new _ _
  have o1 : Old h.size h h1 := by rw [e1]; exact (Old.refl _ _).push _ (Nat.le_refl _)
  have hr : RI h1 (some ⟨h.size, 0, none⟩) 9 9 [1, 2, 3, 4, 5, 6, 7, 8, 9] := by
    refine ⟨?_, rfl, Nat.le_refl _⟩
    intro i v hi
    refine ⟨_, rfl, ?_⟩
    rw [add_lit, cellAt_of n1, Nat.zero_add, ← Array.getElem?_toList]
    exact hi
  refine callV_fn (shrink_call (bad_37 h1) hr (by omega) fun a' l' c' ys h2 hr2 hok o2 => ?_)
  have := least_37 hok
  subst this
  obtain rfl : l' = 2 := hr2.len.symm
  obtain ⟨ad, rfl, c0⟩ := hr2.at (i := 0) (by simp)
  obtain ⟨ad', e, c1⟩ := hr2.at (i := 1) (by simp)
  cases e
  simp only [asSlice_slice]
  refine ifB_mk (fun _ => ?_) (fun hq => by simp at hq)
  refine ⟨by omega, by omega, ?_⟩
  simp only [asPtr_some]
  refine ldH_mk c0 ?_
  simp only [asInt_int]
  refine ifB_mk (fun _ => ?_) (fun hq => by simp at hq)
  refine ⟨by omega, by omega, ?_⟩
  refine ldH_mk c1 ?_
  simp only [asInt_int]
  exact k _ (o1.trans (o2.mono o1.1))

theorem shrinkLists_body {K : Value → Heap → Prop} {h : Heap} {a a2 : Option Addr} {l c l2 c2 : Nat} {xs need : List Int} {odd : Int} (H : RI h a l c xs) (H2 : RI h a2 l2 c2 need)
    (k : ∀ h', Old h.size h h' → K (.bool true) h') : F4 K h a l c a2 l2 c2 odd := by
  unfold F4
  obtain ⟨o1, n1, n2⟩ := push2 (h := h) (.cells #[.slice a2 l2 c2] 23) (.cells #[.int .i64 odd] 3)
  rw [Array.size_push]
  generalize (h.push (.cells #[.slice a2 l2 c2] 23)).push (.cells #[.int .i64 odd] 3) = h1 at *
  refine ⟨fun vs h' => vs = [.bool (decide (60 < l ∨ 20 < l2))] ∧ h' = h1, ?_, ?_⟩
  · refine ifB_dec (fun hq => ⟨?_, by trivial⟩) (fun hq => ?_)
    · rw [decide_eq_true (by omega)]
    · refine ldH_mk (cellAt_row n1) ?_
      simp only [asSlice_slice]
      refine ⟨?_, by trivial⟩
      congr 2; rw [decide_eq_decide]; omega
  rintro v5 g6 h7 ⟨e, rfl⟩
  cases e
  simp only [asBool_bool]
  refine ifB_dec (fun hq => ?_) (fun hq => ?_)
  · refine callV_fn (lives38_call fun h' o => ?_)
    simp only [asBool_bool]
    exact k _ (o1.trans (o.mono o1.1))
  have hb : BadAt (.func (.func 25) #[] #[.pointer (some ⟨h.size, 0, none⟩), .pointer (some ⟨h.size + 1, 0, none⟩)]) (wantedF need odd) h7 := bad_wanted (cellAt_row n1) (cellAt_row n2) (H2.old o1) (by omega)
  have Hr := H.old o1
  refine callV_fn (shrink_call hb Hr (by omega) fun a' l' c' ys h13 hr2 hok o2 => ?_)
  have hle : ys.length ≤ xs.length := by
    cases hF : wantedF need odd xs with
    | true => exact (hok.2 hF).1.length_le
    | false => rw [hok.1 hF]; exact Nat.le_refl _
  have hl1 := hr2.len
  have hl0 := H.len
  simp only [asSlice_slice]
  refine (hb.old o2).call (Hr.old o2) (by omega) fun h18 o3 => ?_
  have o3' : Old h7.size h7 h18 := o2.trans (o3.mono o2.1)
  have ok : Old h.size h h18 := o1.trans (o3'.mono o1.1)
  simp only [asBool_bool]
  refine ifB_mk (fun hF => ?_) (fun hF => ?_)
  · have hys := hok.1 (by simpa using hF)
    subst hys
    refine ifB_mk (fun _ => ?_) (fun hne => ?_)
    · refine callV_fn (within_call (hr2.old o3) (Hr.old o3') (by omega) (List.Sublist.refl _) ?_)
      simp only [asBool_bool, ifB_true]
      refine callV_fn (lives38_call fun h' o => ?_)
      simp only [asBool_bool]
      exact k _ (ok.trans (o.mono ok.1))
    · simp at hne; omega
  have hF' : wantedF need odd xs = true := by simpa using hF
  obtain ⟨hs, hb2, hmin⟩ := hok.2 hF'
  refine ⟨fun vs h' => vs = [.bool false] ∧ Old h18.size h18 h', ?_, ?_⟩
  · refine (hb.old o3').call (hr2.old o3) (by omega) fun h28 o4 => ?_
    simp only [asBool_bool, hb2, Bool.not_true, ifB_false]
    refine callV_fn (within_call ((hr2.old o3).old o4) ((Hr.old o3').old o4) (by omega) hs ?_)
    simp only [asBool_bool]
    exact ⟨rfl, o4⟩
  rintro v33 g34 h35 ⟨e, o5⟩
  cases e
  simp only [asBool_bool, ifB_false]
  refine ⟨fun vs h' => ∃ i : Nat, vs = [.bool false, iv i] ∧ Old h18.size h18 h' ∧ i ≤ l', fun vs _ => (match vs with | [_, .int _ n] => l' - n.toNat | _ => 0), ⟨0, rfl, o5, Nat.zero_le _⟩, ?_⟩
  rintro v39 v40 g41 h42 ⟨i, e, o6, hi⟩
  cases e
  simp only [asInt_int]
  have hr42 : RI h42 a' l' c' ys := (hr2.old o3).old o6
  have hb42 := (hb.old o3').old o6
  refine ifB_dec (fun hlt => ?_) (fun hge => ?_)
  · refine callV_fn (drop38_call hr42 (by omega) (by omega) fun a5 l5 c5 h46 hr5 o7 => ?_)
    simp only [asSlice_slice]
    have hle5 : l5 ≤ l' := by
      have := (List.eraseIdx_sublist ys i).length_le
      rw [hr5.len, hl1] at this; exact this
    refine (hb42.old o7).call hr5 (by omega) fun h51 o8 => ?_
    simp only [asBool_bool]
    rw [hmin i (by omega)]
    simp only [ifB_false]
    rw [nat_wrap1 (by omega)]
    refine ⟨⟨i + 1, rfl, (o6.trans (o7.mono o6.1)).trans (o8.mono (Nat.le_trans o6.1 o7.1)), by omega⟩, ?_⟩
    show l' - ((i + 1 : Nat) : Int).toNat < l' - (i : Int).toNat
    omega
  · refine callV_fn (shrink_call hb42 hr42 (by omega) fun a6 l6 c6 zs h55 hr6 hok6 o7 => ?_)
    have := least_again (wantedF_mono need odd) hok hF' hok6
    subst this
    have hl6 := hr6.len
    simp only [asSlice_slice]
    refine ifB_mk (fun _ => ?_) (fun hne => ?_)
    · refine callV_fn (within_call hr6 (hr42.old o7) (by omega) (List.Sublist.refl _) ?_)
      simp only [asBool_bool, ifB_true]
      have o67 : Old h18.size h18 h55 := o6.trans (o7.mono o6.1)
      refine callV_fn (shrink_nil ((Hr.old o3').old o67) (by omega) fun a8 c8 h63 hr8 o8 => ?_)
      simp only [asSlice_slice]
      refine ifB_mk (fun _ => ?_) (fun hne => ?_)
      · refine callV_fn (lives38_call fun h' o => ?_)
        simp only [asBool_bool]
        have o68 : Old h18.size h18 h63 := o67.trans (o8.mono o67.1)
        exact k _ ((ok.trans (o68.mono ok.1)).trans (o.mono (Nat.le_trans ok.1 o68.1)))
      · simp at hne
    · simp at hne; omega
end Go.Proofs.Ytgladmaagpcffaa
