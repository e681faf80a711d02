/- Joining two parts in order: any parts; the stable sort. -/
import Derived.Test.YtgladmaagpcffaaEh
set_option linter.unusedSimpArgs false
set_option linter.unusedVariables false
set_option maxRecDepth 20000
namespace Go.Proofs.Ytgladmaagpcffaa

/-- Behind the turning round all of the lower half are below all of the upper one. -/
theorem halves {es : List Ent} {a m b mid start end_ start0 r0 : Nat} (ham : a < m) (hmb : m < b) (s1 : ∀ p q, a ≤ p → p ≤ q → q < m → vl es p ≤ vl es q) (s2 : ∀ p q, m ≤ p → p ≤ q → q < b → vl es p ≤ vl es q)
    (hs0 : start0 = a ∨ start0 + b = mid + m) (ha0 : a ≤ start0) (hr0 : r0 = m ∨ r0 = mid) (hst : start0 ≤ start) (hsr : start ≤ r0) (hrm : r0 ≤ m) (hrd : r0 ≤ mid) (he : start + end_ = mid + m) (heb : end_ ≤ b)
    (lo : start = start0 ∨ vl es (start - 1) ≤ vl es end_) (hi : start = r0 ∨ vl es (end_ - 1) < vl es start)
    {p q : Nat} (h1 : a ≤ p) (h2 : p < mid) (h3 : mid ≤ q) (h4 : q < b) : vl es (rot start m end_ p) ≤ vl es (rot start m end_ q) := by
  have hme : start + (end_ - m) = mid := by omega
  have emem : m ≤ end_ := by omega
  unfold rot
  rw [hme]
  by_cases c1 : p < start
  · rw [if_neg (by omega), if_neg (by omega)]
    rw [if_neg (c := start ≤ q ∧ q < mid) (by omega)]
    by_cases c2 : q < end_
    · rw [if_pos (by omega)]
      exact s1 _ _ h1 (by omega) (by omega)
    · rw [if_neg (by omega)]
      have l1 : vl es (start - 1) ≤ vl es end_ := by
        rcases lo with lo | lo
        · rcases hs0 with e | e <;> omega
        · exact lo
      have l2 := s1 p (start - 1) h1 (by omega) (by omega)
      have l3 := s2 end_ q (by omega) (by omega) h4
      omega
  · rw [if_pos (by omega), if_neg (c := start ≤ q ∧ q < mid) (by omega)]
    by_cases c2 : q < end_
    · rw [if_pos (by omega)]
      have l1 : vl es (end_ - 1) < vl es start := by
        rcases hi with hi | hi
        · rcases hr0 with e | e <;> omega
        · exact hi
      have l2 := s2 (p + (m - start)) (end_ - 1) (by omega) (by omega) (by omega)
      have l3 := s1 start (q - (end_ - m)) (by omega) (by omega) (by omega)
      omega
    · rw [if_neg (by omega)]
      exact s2 _ _ (by omega) (by omega) h4

theorem rot_id {a m b p : Nat} (h : m ≤ a ∨ b ≤ m) (hab : a ≤ m) (hb : m ≤ b) : rot a m b p = p := by
  unfold rot
  (repeat' split) <;> omega

set_option maxHeartbeats 1000000 in
theorem merges : ∀ sz, Merges sz := by
  intro sz
  induction sz with
  | zero => intro K h bk l c a m b es sp hsz H hl hl2 ham hmb; omega
  | succ sz ih =>
  intro K h bk l c a m b es sp hsz H hl hl2 ham hmb hb so1 so2 k
  by_cases hm1 : m - a = 1
  · exact merge_one H hl hl2 hm1 ham hmb hb so1 so2 k
  by_cases hb1 : b - m = 1
  · exact merge_last H hl hl2 hm1 hb1 ham hmb hb so1 so2 k
  refine call151 ?_
  unfold F151
  have s1 := (sorted_vl (by omega)).1 so1
  have s2 := (sorted_vl (by omega)).1 so2
  rw [wsub (a := m) (by omega) (by omega), wsub (a := b) (b := m) (by omega) (by omega), whalf (a := a) (b := b) (by omega)]
  refine ifB_mk (fun hx => by simp at hx; omega) (fun _ => ?_)
  refine ifB_mk (fun hx => by simp at hx; omega) (fun _ => ?_)
  refine ⟨by omega, ?_⟩
  obtain ⟨mid, hmid⟩ : ∃ mid, mid = (a + b) / 2 := ⟨_, rfl⟩
  rw [← hmid, wadd (a := mid) (b := m) (by omega)]
  have hmm : a < mid ∧ mid < b := by omega
  -- where the looking begins
  refine ⟨fun vs h' => ∃ start0 r0 : Nat, vs = [iv start0, iv r0] ∧ h' = h ∧ (start0 = a ∨ start0 + b = mid + m) ∧ (r0 = m ∨ r0 = mid) ∧ r0 ≤ m ∧ r0 ≤ mid ∧ a ≤ start0 ∧ start0 ≤ r0 ∧ mid + m ≤ start0 + b, ?_, ?_⟩
  · refine ifB_dec (fun hlt => ?_) (fun hge => ?_)
    · rw [wsub (by omega) (by omega)]
      exact ⟨mid + m - b, mid, rfl, rfl, .inr (by omega), .inr rfl, by omega, by omega, by omega, by omega, by omega⟩
    · exact ⟨a, m, rfl, rfl, .inl rfl, .inl rfl, by omega, by omega, by omega, by omega, by omega⟩
  rintro v89 v90 g91 h92 ⟨start0, r0, e, rfl, hs0, hr0, hrm, hrd, ha0, hsr0, hge0⟩
  cases e
  refine ⟨fun vs h' => ∃ w, ∃ i j : Nat, vs = [iv i, iv j, w] ∧ start0 ≤ i ∧ i ≤ j ∧ j ≤ r0 ∧ (i = start0 ∨ vl es (i - 1) ≤ vl es (mid + m - i)) ∧ (j = r0 ∨ vl es (mid + m - j - 1) < vl es j) ∧ Old h92.size h92 h', fun vs _ => (match vs with | [.int _ i, .int _ j, _] => j.toNat - i.toNat | _ => 0),
    ⟨_, start0, r0, rfl, Nat.le_refl _, hsr0, Nat.le_refl _, .inl rfl, .inl rfl, Old.refl _ _⟩, ?_⟩
  rintro v95 v96 v97 g98 h99 ⟨w, i, j, e, hi, hij, hj, lo, hi', o99⟩
  cases e
  have B99 := H.old o99
  simp only [asInt_int]
  refine ifB_dec (fun hlt => ?_) (fun hge => ?_)
  · have hmn : IntKind.i64.wrap (((mid + m : Nat) : Int) - 1) = ((mid + m - 1 : Nat) : Int) := nat_wrapm (by omega) (by omega)
    rw [whalf (a := i) (b := j) (by omega), hmn, wsub (by omega) (by omega)]
    obtain ⟨hh, hhh⟩ : ∃ hh, hh = (i + j) / 2 := ⟨_, rfl⟩
    rw [← hhh]
    have hpc : mid + m - 1 - hh < es.length := by omega
    have hc : hh < es.length := by omega
    obtain ⟨x0, x1⟩ := B99.at hpc
    obtain ⟨y0, y1⟩ := B99.at hc
    refine ⟨by omega, by omega, by omega, ?_⟩
    simp only [asPtr_some, Int.toNat_natCast]
    refine ldH_mk x0 (ldH_mk x1 ?_)
    refine ⟨by omega, by omega, ldH_mk y0 (ldH_mk y1 ?_)⟩
    refine cmp_call (a := es[mid + m - 1 - hh]) (b := es[hh]) fun h18 o18 => ?_
    simp only [asInt_int]
    have ok18 := o99.trans (o18.mono o99.1)
    refine ifB_mk (fun hq => ?_) (fun hq => ?_)
    · have hc' : ¬ (es[mid + m - 1 - hh]).o < (es[hh]).o := fun x => by have := cmpI_lt.2 x; simp at hq; omega
      rw [← vl_get, ← vl_get] at hc'
      rw [nat_wrap1 (by omega)]
      refine ⟨⟨_, hh + 1, j, rfl, by omega, by omega, hj, .inr ?_, hi', ok18⟩, ?_⟩
      · rw [Nat.add_sub_cancel, show mid + m - (hh + 1) = mid + m - 1 - hh by omega]; omega
      · show (j : Int).toNat - ((hh + 1 : Nat) : Int).toNat < (j : Int).toNat - (i : Int).toNat
        omega
    · have hc' : (es[mid + m - 1 - hh]).o < (es[hh]).o := cmpI_lt.1 (by simpa using hq)
      rw [← vl_get, ← vl_get] at hc'
      refine ⟨⟨_, i, hh, rfl, hi, by omega, by omega, lo, .inr ?_, ok18⟩, ?_⟩
      · rw [show mid + m - hh - 1 = mid + m - 1 - hh by omega]; exact hc'
      · show (hh : Int).toNat - (i : Int).toNat < (j : Int).toNat - (i : Int).toNat
        omega
  · obtain rfl : i = j := by omega
    clear hge
    obtain ⟨end_, hend⟩ : ∃ end_, end_ = mid + m - i := ⟨_, rfl⟩
    rw [wsub (a := mid + m) (b := i) (by omega) (by omega), ← hend]
    rw [← hend] at lo hi'
    have hmi : i + (end_ - m) = mid := by omega
    have him : i ≤ m := by omega
    have hme : m ≤ end_ := by omega
    have heb : end_ ≤ b := by omega
    have hv := fun (p q : Nat) => halves (p := p) (q := q) ham hmb s1 s2 hs0 ha0 hr0 hi hj hrm hrd (end_ := end_) (by omega) heb lo hi'
    refine ⟨fun vs h' => ∃ es1, vs = [] ∧ EB h' bk es1 sp ∧ es1.Perm es ∧ (∀ p, es1[p]? = es[rot i m end_ p]?) ∧ OldB bk h92 h', ?_, ?_⟩
    · refine ⟨fun vs h' => vs = [.bool (decide (i < m ∧ m < end_))] ∧ h' = h99, ?_, ?_⟩
      · refine ifB_dec (fun h1 => ⟨?_, by trivial⟩) (fun h1 => ⟨?_, by trivial⟩)
        · congr 2; rw [decide_eq_decide]; omega
        · congr 2; symm; exact decide_eq_false (by omega)
      rintro v117 g118 h119 ⟨e, rfl⟩
      cases e
      simp only [asBool_bool]
      refine ifB_dec (fun hr => ?_) (fun hr => ?_)
      · exact callV_fn (rotate_call B99 hl hl2 hr.1 hr.2 (by omega) fun es1 h123 B123 pm hp o123 => ⟨es1, by trivial, B123, pm, hp, o99.toB.trans o123⟩)
      · exact ⟨es, by trivial, B99, List.Perm.refl _, fun p => by rw [rot_id (by omega) him hme], o99.toB⟩
    rintro g124 h125 ⟨es1, _, B125, pm1, hp1, o125⟩
    have hl1 : es1.length = l := by rw [pm1.length_eq, hl]
    have hv1 : ∀ p q, a ≤ p → p < mid → mid ≤ q → q < b → vl es1 p ≤ vl es1 q := fun p q c1 c2 c3 c4 => by
      rw [vl_eq (hp1 p), vl_eq (hp1 q)]
      exact hv p q c1 c2 c3 c4
    have q1 : ∀ p q, a ≤ p → p ≤ q → q < i → vl es1 p ≤ vl es1 q := fun p q c1 c2 c3 => by
      rw [vl_eq (hp1 p), vl_eq (hp1 q)]
      unfold rot
      rw [if_neg (by omega), if_neg (by omega), if_neg (by omega), if_neg (by omega)]
      exact s1 p q c1 c2 (by omega)
    have q2 : ∀ p q, i ≤ p → p ≤ q → q < mid → vl es1 p ≤ vl es1 q := fun p q c1 c2 c3 => by
      rw [vl_eq (hp1 p), vl_eq (hp1 q)]
      unfold rot
      rw [if_pos (by omega), if_pos (by omega)]
      exact s2 _ _ (by omega) (by omega) (by omega)
    have q3 : ∀ p q, mid ≤ p → p ≤ q → q < end_ → vl es1 p ≤ vl es1 q := fun p q c1 c2 c3 => by
      rw [vl_eq (hp1 p), vl_eq (hp1 q)]
      unfold rot
      rw [if_neg (by omega), if_pos (by omega), if_neg (by omega), if_pos (by omega)]
      exact s1 _ _ (by omega) (by omega) (by omega)
    have q4 : ∀ p q, end_ ≤ p → p ≤ q → q < b → vl es1 p ≤ vl es1 q := fun p q c1 c2 c3 => by
      rw [vl_eq (hp1 p), vl_eq (hp1 q)]
      unfold rot
      rw [if_neg (by omega), if_neg (by omega), if_neg (by omega), if_neg (by omega)]
      exact s2 p q (by omega) c2 c3
    have out1 : ∀ p, p < a ∨ b ≤ p → es1[p]? = es[p]? := fun p hp => by
      rw [hp1]; unfold rot; rw [if_neg (by omega), if_neg (by omega)]
    -- the lower half
    refine ⟨fun vs h' => ∃ es2, vs = [] ∧ EB h' bk es2 sp ∧ SegOk es1 a mid es2 ∧ SortedSeg es2 a mid ∧ OldB bk h92 h', ?_, ?_⟩
    · refine ⟨fun vs h' => vs = [.bool (decide (a < i ∧ i < mid))] ∧ h' = h125, ?_, ?_⟩
      · refine ifB_dec (fun h1 => ⟨?_, by trivial⟩) (fun h1 => ⟨?_, by trivial⟩)
        · congr 2; rw [decide_eq_decide]; omega
        · congr 2; symm; exact decide_eq_false (by omega)
      rintro v130 g131 h132 ⟨e, rfl⟩
      cases e
      simp only [asBool_bool]
      refine ifB_dec (fun hr => ?_) (fun hr => ?_)
      · exact callV_fn (ih (by omega) B125 hl1 hl2 hr.1 hr.2 (by omega) ((sorted_vl (by omega)).2 q1) ((sorted_vl (by omega)).2 q2) fun es2 h136 B136 sg2 so2 o136 => ⟨es2, by trivial, B136, sg2, so2, o125.trans o136⟩)
      · refine ⟨es1, by trivial, B125, SegOk.refl _ _ _, (sorted_vl (by omega)).2 fun p q c1 c2 c3 => ?_, o125⟩
        by_cases e : a = i
        · exact q2 p q (by omega) c2 c3
        · exact q1 p q c1 c2 (by omega)
    rintro g137 h138 ⟨es2, _, B138, sg2, sorted2, o138⟩
    have hl3 : es2.length = l := by rw [sg2.len, hl1]
    have fin : ∀ es3 h', EB h' bk es3 sp → SegOk es2 mid b es3 → SortedSeg es3 mid b → OldB bk h92 h' → K (.tuple #[]) h' := by
      intro es3 h' B3 sg3 so3 o3
      refine k es3 h' B3 ⟨sg3.perm.trans (sg2.perm.trans pm1), fun p hp => ?_⟩ ?_ o3
      · rw [sg3.out p (by omega), sg2.out p (by omega)]; exact out1 p hp
      · have hl4 : es3.length = l := by rw [sg3.len, hl3]
        rw [sorted_vl (by omega)]
        rw [sorted_vl (by omega)] at so3
        have so2' := (sorted_vl (by omega)).1 sorted2
        intro p q c1 c2 c3
        by_cases d1 : q < mid
        · rw [vl_eq (sg3.out p (by omega)), vl_eq (sg3.out q (by omega))]
          exact so2' p q c1 c2 d1
        · by_cases d2 : mid ≤ p
          · exact so3 p q d2 c2 c3
          · rw [vl_eq (sg3.out p (by omega))]
            obtain ⟨p', e1, e2, e3⟩ := seg_mem sg2 (by omega) (by omega) (p := p) c1 (by omega)
            obtain ⟨q', f1, f2, f3⟩ := seg_mem sg3 (by omega) (by omega) (p := q) (by omega) c3
            rw [e3, f3, vl_eq (sg2.out q' (by omega))]
            exact hv1 p' q' e1 e2 f1 f2
    refine ⟨fun vs h' => vs = [.bool (decide (mid < end_ ∧ end_ < b))] ∧ h' = h138, ?_, ?_⟩
    · refine ifB_dec (fun h1 => ⟨?_, by trivial⟩) (fun h1 => ⟨?_, by trivial⟩)
      · congr 2; rw [decide_eq_decide]; omega
      · congr 2; symm; exact decide_eq_false (by omega)
    rintro v140 g141 h142 ⟨e, rfl⟩
    cases e
    simp only [asBool_bool]
    have r3 : ∀ p q, mid ≤ p → p ≤ q → q < end_ → vl es2 p ≤ vl es2 q := fun p q c1 c2 c3 => by
      rw [vl_eq (sg2.out p (by omega)), vl_eq (sg2.out q (by omega))]; exact q3 p q c1 c2 c3
    have r4 : ∀ p q, end_ ≤ p → p ≤ q → q < b → vl es2 p ≤ vl es2 q := fun p q c1 c2 c3 => by
      rw [vl_eq (sg2.out p (by omega)), vl_eq (sg2.out q (by omega))]; exact q4 p q c1 c2 c3
    refine ifB_dec (fun hr => ?_) (fun hr => ?_)
    · exact callV_fn (ih (by omega) B138 hl3 hl2 hr.1 hr.2 hb ((sorted_vl (by omega)).2 r3) ((sorted_vl (by omega)).2 r4) fun es3 h145 B145 sg3 so3 o145 => fin es3 h145 B145 sg3 so3 (o138.trans o145))
    · refine fin es2 _ B138 (SegOk.refl _ _ _) ((sorted_vl (by omega)).2 fun p q c1 c2 c3 => ?_) o138
      by_cases e : mid = end_
      · exact r4 p q (by omega) c2 c3
      · exact r3 p q c1 c2 (by omega)
end Go.Proofs.Ytgladmaagpcffaa
