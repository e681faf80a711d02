/- The body of LevelNests. -/
import Derived.Test.YtgladmaagpcffaaEd
set_option linter.unusedSimpArgs false
set_option linter.unusedVariables false
set_option maxRecDepth 20000
namespace Go.Proofs.Ytgladmaagpcffaa

/-- A slice of slices of numbers, as it comes. -/
structure RV0 (h : Heap) (a : Option Addr) (l c : Nat) (vs : List Value) (rows : List (List Int)) : Prop where
  s : Sees h a vs
  vlen : vs.length = l
  len : rows.length = l
  cap : l ≤ c
  row : ∀ i (hi : i < rows.length), ∃ ai li ci, vs[i]? = some (.slice ai li ci) ∧ RU h ai li ci rows[i]
theorem RV0.at {h : Heap} {a : Option Addr} {l c : Nat} {vs : List Value} {rows : List (List Int)} (H : RV0 h a l c vs rows) {i : Nat} (hi : i < rows.length) :
    ∃ ad ai li ci, a = some ad ∧ vs[i]? = some (.slice ai li ci) ∧ cellAt h (ad.add i) = some (.slice ai li ci) ∧ RU h ai li ci rows[i] := by
  obtain ⟨ai, li, ci, h1, h2⟩ := H.row i hi
  obtain ⟨ad, e, hc⟩ := H.s i _ h1
  exact ⟨ad, ai, li, ci, e, h1, hc, h2⟩

theorem nests_body {K : Value → Heap → Prop} {h : Heap} {a : Option Addr} {l c : Nat} {vs : List Value} {rows : List (List Int)} {n : Int} (H0 : RV0 h a l c vs rows) (k : ∀ h', Old h.size h h' → K (.bool true) h') :
    F17 K h a l c n := by
  unfold F17
  haveI : Decidable (NestedP rows) := Classical.propDecidable _
  have hlen := H0.len
  have lives : ∀ h1, Old h.size h h1 → callV Try.prog (.func (.func 66) #[] #[]) #[] h1 (fun v h' => asBool v (fun b => K (.bool b) h')) := by
    intro h1 o1
    refine callV_fn (lives23_call fun h' o => ?_)
    simp only [asBool_bool]
    exact k h' (o1.trans (o.mono o1.1))
  refine ifB_dec (fun _ => lives h (Old.refl _ _)) (fun hl20 => ?_)
  have hl : l ≤ 20 := by omega
  refine ⟨fun ws h' => ∃ i : Nat, ws = [.bool false, iv i] ∧ h' = h ∧ i ≤ l ∧ ∀ j (hj : j < rows.length), j < i → (rows[j]).length ≤ 60, fun ws _ => (match ws with | [_, .int _ n] => l - n.toNat | _ => 0), ⟨0, rfl, rfl, Nat.zero_le _, fun j _ h => by omega⟩, ?_⟩
  rintro v5 v6 g7 h8 ⟨i, e, rfl, hi, hall⟩
  cases e
  simp only [asInt_int]
  refine ifB_dec (fun hlt => ?_) (fun hge => ?_)
  · have hi' : i < rows.length := by omega
    obtain ⟨ad, ai, li, ci, rfl, _, hc, hr⟩ := H0.at hi'
    refine ⟨by omega, hlt, ?_⟩
    simp only [asPtr_some, Int.toNat_natCast, Nat.mul_one]
    refine ldH_mk hc ?_
    simp only [asSlice_slice]
    refine ifB_dec (fun _ => lives _ (Old.refl _ _)) (fun h60 => ?_)
    rw [nat_wrap1 (by omega)]
    refine ⟨⟨i + 1, rfl, by trivial, by omega, fun j hj h' => ?_⟩, ?_⟩
    · by_cases e : j < i
      · exact hall j hj e
      · obtain rfl : j = i := by omega
        have := hr.len; omega
    · show l - ((i + 1 : Nat) : Int).toNat < l - (i : Int).toNat
      omega
  have h60 : ∀ j (hj : j < rows.length), (rows[j]).length ≤ 60 := fun j hj => hall j hj (by omega)
  have hr60 : ∀ r ∈ rows, r.length ≤ 1000 := fun r hr => by
    obtain ⟨j, hj, rfl⟩ := List.getElem_of_mem hr
    have := h60 j hj; omega
  clear hall hge
  have H : RV h8 a l c vs rows := ⟨H0.s, H0.vlen, H0.len, H0.cap, fun j hj => by
    obtain ⟨ai, li, ci, r1, r2⟩ := H0.row j hj
    exact ⟨ai, li, ci, r1, r2, by have := h60 j hj; have := r2.len; omega⟩⟩
  refine callV_fn (Below_call H (by omega) fun ab cb h21 B o21 => ?_)
  simp only [asSlice_slice]
  refine ⟨fun ws h' => ws = [.bool false] ∧ Old h8.size h8 h' ∧ Old h21.size h21 h', ?_, ?_⟩
  · by_cases hN : NestedP rows
    · refine callV_fn (nested_call (H.old o21) (by omega) (fun _ h27 o27 => ?_) (fun hn => absurd hN hn))
      simp only [asBool_bool]
      refine callV_fn (nested23_call ((H.old o21).old o27) (by omega) (fun _ => ?_) (fun hn => absurd hN hn))
      simp only [asBool_bool, beq_self_eq_true, Bool.not_true, ifB_false]
      exact ⟨by simp, o21.trans (o27.mono o21.1), o27⟩
    · refine callV_fn (nested_call (H.old o21) (by omega) (fun hn => absurd hn hN) (fun _ h27 o27 => ?_))
      simp only [asBool_bool]
      refine callV_fn (nested23_call ((H.old o21).old o27) (by omega) (fun hn => absurd hn hN) (fun _ => ?_))
      simp only [asBool_bool, beq_self_eq_true, Bool.not_true, ifB_false]
      exact ⟨by simp, o21.trans (o27.mono o21.1), o27⟩
  rintro v32 g33 h34 ⟨e, o34, ob34⟩
  cases e
  simp only [asBool_bool, ifB_false]
  have H34 := H.old o34
  have B34 := B.old ob34
  refine ⟨fun ws h' => ∃ w, ∃ i : Nat, ws = [.bool false, iv i, w] ∧ Old h34.size h34 h' ∧ i ≤ l, fun ws _ => (match ws with | [_, .int _ n, _] => l - n.toNat | _ => 0), ⟨_, 0, rfl, Old.refl _ _, Nat.zero_le _⟩, ?_⟩
  rintro v38 v39 v40 g41 h42 ⟨w, i, e, o42, hi⟩
  cases e
  have H42 := H34.old o42
  have B42 := B34.old o42
  have ok42 := o34.trans (o42.mono o34.1)
  simp only [asInt_int]
  refine ifB_dec (fun hlt => ?_) (fun hge => ?_)
  · have hi' : i < rows.length := by omega
    obtain ⟨ad, ai, li, ci, rfl, _, hc, hr, hli⟩ := H42.at hi'
    have hrl := hr.len
    refine ⟨fun ws h' => ∃ q : Nat, ws = [iv q] ∧ h' = h42 ∧ q ≤ li ∧ ∀ t (ht : t < (rows[i]).length), t < q → (rows[i])[t] < n, fun ws _ => (match ws with | [.int _ n] => li - n.toNat | _ => 0), ⟨0, rfl, rfl, Nat.zero_le _, fun t _ h => by omega⟩, ?_⟩
    rintro v46 g47 h48 ⟨q, e, rfl, hq, hlow⟩
    cases e
    simp only [asInt_int]
    refine ⟨fun ws h' => ws = [.bool (decide (∃ hq : q < (rows[i]).length, (rows[i])[q] < n))] ∧ h' = h48, ?_, ?_⟩
    · refine ⟨by omega, hlt, ?_⟩
      simp only [asPtr_some, Int.toNat_natCast, Nat.mul_one]
      refine ldH_mk hc ?_
      simp only [asSlice_slice]
      refine ifB_dec (fun h1 => ?_) (fun h1 => ?_)
      · have hql : q < (rows[i]).length := by omega
        refine ⟨by omega, hlt, ldH_mk hc ?_⟩
        simp only [asSlice_slice]
        obtain ⟨ae, rfl, hce⟩ := hr.at hql
        refine ⟨by omega, h1, ?_⟩
        simp only [asPtr_some]
        refine ldH_mk hce ?_
        simp only [asInt_int]
        refine ⟨?_, by trivial⟩
        congr 2; rw [decide_eq_decide]
        exact ⟨fun h => ⟨hql, h⟩, fun ⟨_, h⟩ => h⟩
      · refine ⟨?_, by trivial⟩
        congr 2; symm; apply decide_eq_false
        rintro ⟨h, _⟩; omega
    rintro v67 g68 h69 ⟨e, rfl⟩
    cases e
    simp only [asBool_bool]
    refine ifB_dec (fun hb => ?_) (fun hb => ?_)
    · obtain ⟨hql, hlt2⟩ := hb
      rw [nat_wrap1 (by omega)]
      refine ⟨⟨q + 1, rfl, by trivial, by omega, fun t ht htq => ?_⟩, ?_⟩
      · by_cases e : t < q
        · exact hlow t ht e
        · obtain rfl : t = q := by omega
          exact hlt2
      · show li - ((q + 1 : Nat) : Int).toNat < li - (q : Int).toNat
        omega
    · have hbel : belowF (rows[i]) n = q := below_eq (by omega) hlow (fun hq h => hb ⟨hq, h⟩)
      obtain ⟨ab', rfl, hcb⟩ := B42.at (i := i) (by simp; omega)
      simp only [List.getElem_map] at hcb
      refine ⟨fun ws h' => ws = [.bool false] ∧ Old h69.size h69 h', ?_, ?_⟩
      · refine ⟨by omega, hlt, ?_⟩
        simp only [asPtr_some, Int.toNat_natCast, Nat.mul_one]
        refine ldH_mk hcb ?_
        simp only [asInt_int]
        rw [hbel]
        refine ifB_mk (fun h => by simp at h) (fun _ => ?_)
        refine ⟨by omega, hlt, ldH_mk hc ?_⟩
        simp only [asSlice_slice]
        refine ⟨by omega, hlt, ldH_mk hc ?_⟩
        simp only [asSlice_slice]
        by_cases hR : RisingP (rows[i])
        · refine callV_fn (rising_call hr hli (fun _ => ?_) (fun hn => absurd hR hn))
          simp only [asBool_bool]
          refine ⟨hc, callV_fn (rising23_call hr hli (fun _ => ?_) (fun hn => absurd hR hn))⟩
          simp only [asBool_bool]
          exact ⟨by simp, Old.refl _ _⟩
        · refine callV_fn (rising_call hr hli (fun hn => absurd hn hR) (fun _ => ?_))
          simp only [asBool_bool]
          refine ⟨hc, callV_fn (rising23_call hr hli (fun hn => absurd hn hR) (fun _ => ?_))⟩
          simp only [asBool_bool]
          exact ⟨by simp, Old.refl _ _⟩
      rintro v96 g97 h98 ⟨e, o98⟩
      cases e
      simp only [asBool_bool, ifB_false]
      rw [nat_wrap1 (by omega)]
      refine ⟨⟨_, i + 1, rfl, o42.trans (o98.mono o42.1), by omega⟩, ?_⟩
      show l - ((i + 1 : Nat) : Int).toNat < l - (i : Int).toNat
      omega
  · clear hge hi
    -- the steps
    refine ⟨fun ws h' => ∃ w, ∃ j : Nat, ws = [iv (((stepsTo rows n j).steps : Nat) : Int), uv (stepsTo rows n j).at_, .bool (stepsTo rows n j).some_, iv ((l : Int) - 1 - j), w] ∧ h' = h42 ∧ j ≤ l ∧ (0 < j → NestedP rows) ∧ Old h8.size h8 h', fun ws _ => (match ws with | [_, _, _, .int _ n, _] => (n + 1).toNat | _ => 0), ?_, ?_⟩
    · refine ⟨.tuple #[], 0, ?_, rfl, Nat.zero_le _, fun h => by omega, ok42⟩
      rw [wrap64_id' (by omega) (by omega)]
      simp [stepsTo]
    rintro v103 v104 v105 v106 v107 g108 h109 ⟨w, j, e, rfl, hj, hjN, ok⟩
    cases e
    have H109 := H.old ok
    simp only [asInt_int, asBool_bool]
    refine ⟨fun ws h' => ws = [.bool (decide (j < l ∧ NestedP rows))] ∧ h' = h109, ?_, ?_⟩
    · refine ifB_dec (fun h1 => ?_) (fun h1 => ?_)
      · by_cases hN : NestedP rows
        · refine callV_fn (nested23_call H109 (by omega) (fun _ => ?_) (fun hn => absurd hN hn))
          simp only [asBool_bool]
          refine ⟨?_, by trivial⟩
          congr 2; symm; exact decide_eq_true ⟨by omega, hN⟩
        · refine callV_fn (nested23_call H109 (by omega) (fun hn => absurd hn hN) (fun _ => ?_))
          simp only [asBool_bool]
          refine ⟨?_, by trivial⟩
          congr 2; symm; exact decide_eq_false fun x => hN x.2
      · refine ⟨?_, by trivial⟩
        congr 2; symm; exact decide_eq_false fun x => by omega
    rintro v115 g116 h117 ⟨e, rfl⟩
    cases e
    simp only [asBool_bool]
    have hle := stepsTo_le (n := n) hr60 j (by omega)
    refine ifB_dec (fun hb => ?_) (fun hb => ?_)
    · obtain ⟨hjl, hN⟩ := hb
      have hi : rows.length - 1 - j < rows.length := by omega
      have hsucc := stepsTo_succ (rows := rows) (n := n) (j := j) (by omega)
      have hle2 := stepsTo_le (n := n) hr60 (j + 1) (by omega)
      obtain ⟨ad, ai, li, ci, rfl, _, hc, hr, hli⟩ := H109.at hi
      have hii : (l : Int) - 1 - j = ((rows.length - 1 - j : Nat) : Int) := by omega
      rw [hii]
      have hrl := hr.len
      have hr60' := h60 _ hi
      have hltI : ((rows.length - 1 - j : Nat) : Int) < ((l : Nat) : Int) := by omega
      generalize hrow : rows[rows.length - 1 - j] = row at *
      generalize hsk : stepsTo rows n j = s at *
      have hfr := fromN_le row s
      refine ⟨fun ws h' => ∃ w, ws = [iv (((stepRow n s row).steps : Nat) : Int), uv (stepRow n s row).at_, .bool (stepRow n s row).some_, w] ∧ h' = h117, ?_, ?_⟩
      · refine ⟨fun ws h' => ws = [iv ((fromN row s : Nat) : Int)] ∧ h' = h117, ?_, ?_⟩
        · refine ifB_mk (fun hb => ?_) (fun hb => ?_)
          · refine ⟨by omega, hltI, ?_⟩
            simp only [asPtr_some, Int.toNat_natCast, Nat.mul_one]
            refine ldH_mk hc ?_
            simp only [asSlice_slice]
            refine callV_fn (place_call hr hli ?_)
            simp only [asInt_int]
            have h1 := pl_lt (xs := row) (n := s.at_)
            have h2 := pl_ge (xs := row) (n := s.at_)
            rw [wrap64_id' (by omega) (by omega)]
            refine ⟨?_, by trivial⟩
            unfold fromN
            rw [if_pos hb]
            congr 2; omega
          · refine ⟨?_, by trivial⟩
            unfold fromN
            rw [if_neg (by simp [hb])]; rfl
        rintro v132 g133 h134 ⟨e, rfl⟩
        cases e
        generalize hf : fromN row s = f at *
        have hsegl : (row.drop f).length = li - f := by simp; omega
        have hget : ∀ q (hq : q < (row.drop f).length) (h2 : f + q < row.length), (row.drop f)[q] = row[f + q] := fun q hq h2 => by simp
        generalize hseg : row.drop f = seg at *
        have hstepeq : ∀ (q : Nat) (hq : q ≤ seg.length) (hlow : ∀ t (ht : t < seg.length), t < q → seg[t] < n) (hx : ∀ hi : q < seg.length, ¬ seg[q] < n), stepRow n s row = stepTo seg s q (if q < seg.length then 1 else 0) := fun q hq hlow hx => by
          unfold stepRow
          simp only [hf, hseg]
          rw [below_eq hq hlow hx]
        refine ⟨fun ws h' => ∃ q : Nat, ws = [iv (((stepTo seg s q 0).steps : Nat) : Int), uv (stepTo seg s q 0).at_, .bool (stepTo seg s q 0).some_, iv ((f + q : Nat) : Int)] ∧ h' = h134 ∧ q ≤ seg.length ∧ (∀ t (ht : t < seg.length), t < q → seg[t] < n),
          fun ws _ => (match ws with | [_, _, _, .int _ n] => li - n.toNat | _ => 0), ⟨0, by simp [stepTo], rfl, Nat.zero_le _, fun t _ h => by omega⟩, ?_⟩
        rintro v137 v138 v139 v140 g141 h142 ⟨q, e, rfl, hq, hlow⟩
        cases e
        simp only [asInt_int]
        have hcast : (((f + q : Nat) : Int).toNat) = f + q := by omega
        refine ⟨fun ws h' => ws = [.bool (decide (∃ hq : q < seg.length, seg[q] < n))] ∧ h' = h142, ?_, ?_⟩
        · refine ⟨by omega, hltI, ?_⟩
          simp only [asPtr_some, Int.toNat_natCast, Nat.mul_one]
          refine ldH_mk hc ?_
          simp only [asSlice_slice]
          refine ifB_dec (fun h1 => ?_) (fun h1 => ?_)
          · have hql : q < seg.length := by omega
            refine ⟨by omega, hltI, ldH_mk hc ?_⟩
            simp only [asSlice_slice]
            obtain ⟨ae, rfl, hce⟩ := hr.at (i := f + q) (by omega)
            refine ⟨by omega, h1, ?_⟩
            simp only [asPtr_some]
            refine ldH_mk hce ?_
            simp only [asInt_int]
            refine ⟨?_, by trivial⟩
            congr 2; rw [decide_eq_decide, ← hget q hql (by omega)]
            exact ⟨fun h => ⟨hql, h⟩, fun ⟨_, h⟩ => h⟩
          · refine ⟨?_, by trivial⟩
            congr 2; symm; apply decide_eq_false
            rintro ⟨h, _⟩; omega
        rintro v161 g162 h163 ⟨e, rfl⟩
        cases e
        simp only [asBool_bool]
        have hst : (stepTo seg s q 0).steps = s.steps + q := rfl
        refine ifB_dec (fun hb => ?_) (fun hb => ?_)
        · obtain ⟨hql, hlt2⟩ := hb
          refine ⟨by omega, hltI, ?_⟩
          simp only [asPtr_some, Int.toNat_natCast, Nat.mul_one]
          refine ldH_mk hc ?_
          simp only [asSlice_slice]
          obtain ⟨ae, rfl, hce⟩ := hr.at (i := f + q) (by omega)
          refine ⟨by omega, by omega, ?_⟩
          simp only [asPtr_some]
          refine ldH_mk hce ?_
          simp only [asInt_int]
          rw [nat_wrap1 (by omega), nat_wrap1 (by omega)]
          refine ⟨⟨q + 1, ?_, by trivial, by omega, fun t ht htq => ?_⟩, ?_⟩
          · have e1 : (stepTo seg s (q + 1) 0).at_ = row[f + q]'(by omega) := by
              unfold stepTo
              simp only [Nat.add_sub_cancel, Nat.succ_ne_zero, if_false, Nat.add_eq_zero_iff, and_false]
              rw [List.getD_eq_getElem?_getD, List.getElem?_eq_getElem hql, Option.getD_some, hget q hql (by omega)]
            have e2 : (stepTo seg s (q + 1) 0).some_ = true := by unfold stepTo; simp
            rw [e1, e2]
            rfl
          · by_cases e : t < q
            · exact hlow t ht e
            · obtain rfl : t = q := by omega
              exact hlt2
          · show li - ((f + q + 1 : Nat) : Int).toNat < li - ((f + q : Nat) : Int).toNat
            omega
        · have hse := hstepeq q hq hlow (fun hq h => hb ⟨hq, h⟩)
          refine ⟨by omega, hltI, ?_⟩
          simp only [asPtr_some, Int.toNat_natCast, Nat.mul_one]
          refine ldH_mk hc ?_
          simp only [asSlice_slice]
          refine ifB_dec (fun h1 => ?_) (fun h1 => ?_)
          · rw [if_pos (by omega)] at hse
            rw [nat_wrap1 (by omega), hse]
            exact ⟨_, rfl, by trivial⟩
          · rw [if_neg (by omega)] at hse
            rw [hse]
            exact ⟨_, rfl, by trivial⟩
      rintro v185 v186 v187 v188 g189 h190 ⟨w', e, rfl⟩
      cases e
      rw [wrap64_id' (by omega) (by omega)]
      refine ⟨⟨v188, j + 1, ?_, by trivial, by omega, fun _ => hN, ok⟩, ?_⟩
      · rw [hsucc]
        have : ((rows.length - 1 - j : Nat) : Int) - 1 = (l : Int) - 1 - ((j + 1 : Nat) : Int) := by omega
        rw [this]
      · show (((rows.length - 1 - j : Nat) : Int) - 1 + 1).toNat < (((rows.length - 1 - j : Nat) : Int) + 1).toNat
        omega
    · refine callV_fn (steps23_call H109 (by omega) hr60 (fun hN h193 o193 => ?_) (fun hN h193 o193 => ?_))
      · simp only [asInt_int]
        have : j = l := by
          apply Decidable.byContradiction
          intro hne
          exact hb ⟨by omega, hN⟩
        subst this
        refine ifB_mk (fun _ => lives _ (ok.trans (o193.mono ok.1))) (fun h => by simp at h)
      · simp only [asInt_int]
        have : j = 0 := by
          apply Decidable.byContradiction
          intro hne
          exact hN (hjN (by omega))
        subst this
        refine ifB_mk (fun _ => lives _ (ok.trans (o193.mono ok.1))) (fun h => by simp [stepsTo] at h)
end Go.Proofs.Ytgladmaagpcffaa
