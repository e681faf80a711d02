/- Part 12 of what the proofs of this seat rest on: see the last text of the claim. -/
import Derived.Test.YtlncjcbofgjcfaaQ6c1a92816ed8
section
/- The document's search: what may come next, is there an order. -/
set_option linter.unusedSimpArgs false
set_option linter.unusedVariables false
set_option maxRecDepth 20000
namespace Go.Proofs.Ytlncjcbofgjcfaa

theorem ints_succ (k : Nat) : ints (k + 1) = ints k ++ [(k : Int)] := by unfold ints; rw [List.range_succ]; simp
def condN (L : List Op9) (T : List Int) (l : Nat) (y : Int) : Bool := !decide (y ∈ T) && freeF L T l y
theorem nextL_filter (L : List Op9) (T : List Int) (l : Nat) : nextL L T l = (ints l).filter (condN L T l) := by
  unfold nextL condN
  rw [List.filter_filter]
  congr 1
  funext y
  rw [Bool.and_comm]
theorem opAt_get {L : List Op9} {i : Nat} (h : i < L.length) : opAt L (i : Int) = L[i] := by
  unfold opAt
  rw [Int.toNat_natCast, List.getD_eq_getElem?_getD, List.getElem?_eq_getElem h]; rfl
theorem tri {v w : Value} {b b' : Bool} (h : b = b') : [v, w, .bool b] = [v, w, .bool b'] := by rw [h]
theorem refNext_call {K : Value → Heap → Prop} {h : Heap} {a : Option Addr} {l c b : Nat} {L : List Op9} {T : List Int} (H : SlO h a l c L) (hl : l ≤ 1000) (hb : h[b]? = some (.cells (inRow l T).toArray 4))
    (k : ∀ a' n' c' h', RI h' a' n' c' (nextL L T l) → Old h.size h h' → K (.slice a' n' c') h') : CallH Try.prog 64 #[.slice a l c, .slice (some ⟨b, 0, none⟩) l l] h K := by
  refine call64 ?_
  unfold F64
  have hlen := H.len
  have hbl := (Array.getElem?_eq_some_iff.1 hb).1
  refine ⟨fun vs h' => ∃ w1 w2, ∃ i : Nat, ∃ o n c', vs = [.slice o n c', iv i, w1, w2] ∧ i ≤ l ∧ n ≤ i ∧ Old h.size h h' ∧ OwnI h' o n c' ((ints i).filter (condN L T l)) ∧ (∀ b, blk o b → h.size ≤ b),
    fun vs _ => (match vs with | [_, .int _ n, _, _] => l - n.toNat | _ => 0), ⟨_, _, 0, none, 0, 0, rfl, Nat.zero_le _, Nat.le_refl _, Old.refl _ _, Own.nil _ _ _, fun b hb => absurd hb (blk_none b)⟩, ?_⟩
  rintro v2 v3 v4 v5 g6 h7 ⟨w1, w2, i, o, n, c', e, hi, hn, o7, own7, hb7⟩
  cases e
  simp only [asInt_int, asSlice_slice]
  refine ifB_dec (fun hlt => ?_) (fun hge => ?_)
  rotate_left
  · obtain rfl : i = l := by omega
    have := k o n c' h7
    rw [nextL_filter] at this
    exact this own7.ri o7
  have hi' : i < L.length := by omega
  have hsucc : (ints (i + 1)).filter (condN L T l) = (ints i).filter (condN L T l) ++ (if condN L T l i then [(i : Int)] else []) := by
    rw [ints_succ, List.filter_append]
    congr 1
    cases hc : condN L T l i <;> simp [hc]
  have hb' : h7[b]? = some (.cells (inRow l T).toArray 4) := (o7.2 _ hbl).trans hb
  refine ⟨fun vs h' => ∃ o n c' w1 w2, vs = [.slice o n c', w1, w2] ∧ n ≤ i + 1 ∧ Old h.size h h' ∧ OwnI h' o n c' ((ints (i + 1)).filter (condN L T l)) ∧ (∀ b, blk o b → h.size ≤ b), ?_, ?_⟩
  rotate_left
  · rintro v106 v107 v108 g109 h110 ⟨o2, n2, c2, w3, w4, e, hn2, o110, own110, hb110⟩
    cases e
    rw [nat_wrap1 (by omega)]
    exact ⟨⟨_, _, i + 1, o2, n2, c2, rfl, by omega, hn2, o110, own110, hb110⟩, by show l - ((i + 1 : Nat) : Int).toNat < l - (i : Int).toNat; omega⟩
  refine ⟨fun vs h' => (∃ w, vs = [.bool (!decide ((i : Int) ∈ T)), w]) ∧ h' = h7, ?_, ?_⟩
  · refine ifB_dec (fun hq => by omega) (fun hq => ?_)
    refine ⟨by omega, hlt, ?_⟩
    simp only [asPtr_some]
    refine ldH_mk (mark_at hb' (by omega) hlt) ?_
    simp only [asBool_bool]
    exact ⟨⟨_, rfl⟩, by trivial⟩
  rintro v16 v17 g18 h19 ⟨⟨_, e⟩, rfl⟩
  cases e
  refine ⟨fun vs h' => ∃ j : Nat, vs = [.bool (!decide ((i : Int) ∈ T) && (ints j).all fun j => !blocks L T i j), iv j] ∧ j ≤ l ∧ Old h19.size h19 h', fun vs _ => (match vs with | [_, .int _ n] => l - n.toNat | _ => 0), ⟨0, by simp [ints], Nat.zero_le _, Old.refl _ _⟩, ?_⟩
  rintro v22 v23 g24 h25 ⟨j, e, hj, o25⟩
  cases e
  simp only [asInt_int, asBool_bool]
  have ok25 : Old h.size h h25 := o7.trans (o25.mono o7.1)
  refine ifB_dec (fun hjlt => ?_) (fun hjge => ?_)
  · have hj' : j < L.length := by omega
    have hall : (!decide ((i : Int) ∈ T) && (ints (j + 1)).all fun j => !blocks L T i j) = ((!decide ((i : Int) ∈ T) && (ints j).all fun j => !blocks L T i j) && !blocks L T i j) := by
      rw [ints_succ, List.all_append]; simp [Bool.and_assoc]
    refine ⟨fun vs h' => vs = [.bool (!decide ((i : Int) ∈ T) && (ints (j + 1)).all fun j => !blocks L T i j)] ∧ Old h19.size h19 h', ?_, ?_⟩
    rotate_left
    · rintro v92 g93 h94 ⟨e, o94⟩
      cases e
      rw [nat_wrap1 (by omega)]
      exact ⟨⟨j + 1, rfl, by omega, o94⟩, by show l - ((j + 1 : Nat) : Int).toNat < l - (j : Int).toNat; omega⟩
    refine ⟨fun vs h' => (∃ w w', vs = [w, w', .bool (blocks L T i j)]) ∧ Old h19.size h19 h', ?_, ?_⟩
    · refine ifB_mk (fun hne => ?_) (fun heq => ?_)
      · have hne' : (j : Int) ≠ i := by simpa using hne
        refine ifB_dec (fun hq => by omega) (fun hq => ?_)
        refine ⟨by omega, hjlt, ?_⟩
        simp only [asPtr_some]
        have hb25 : h25[b]? = some (.cells (inRow l T).toArray 4) := (ok25.2 _ hbl).trans hb
        refine ldH_mk (mark_at hb25 (by omega) hjlt) ?_
        simp only [asBool_bool]
        refine ifB_mk (fun hjT => ?_) (fun hjT => ?_)
        · have hjT' : ¬ (j : Int) ∈ T := by simpa using hjT
          obtain ⟨ad, rfl, d0, d1⟩ := (H.old ok25).at hj'
          obtain ⟨ad', e', f0, f1⟩ := (H.old ok25).at hi'
          cases e'
          refine ⟨by omega, hjlt, ?_⟩
          simp only [asPtr_some, Int.toNat_natCast]
          refine ldH_mk d0 (ldH_mk (d1 1 _ rfl) (ldH_mk (d1 2 _ rfl) (ldH_mk (d1 3 _ rfl) (ldH_mk (d1 4 _ rfl) (ldH_mk (d1 5 _ rfl) (ldH_mk (d1 6 _ rfl) (ldH_mk (d1 7 _ rfl) (ldH_mk (d1 8 _ rfl) ?_))))))))
          refine ⟨by omega, hlt, ?_⟩
          refine ldH_mk f0 (ldH_mk (f1 1 _ rfl) (ldH_mk (f1 2 _ rfl) (ldH_mk (f1 3 _ rfl) (ldH_mk (f1 4 _ rfl) (ldH_mk (f1 5 _ rfl) (ldH_mk (f1 6 _ rfl) (ldH_mk (f1 7 _ rfl) (ldH_mk (f1 8 _ rfl) ?_))))))))
          refine callV_fn (ahead14_call L[j] L[i] fun h84 o84 => ?_)
          simp only [asBool_bool]
          have : blocks L T i j = ahead L[j] L[i] := by
            unfold blocks
            rw [decide_eq_true hne', decide_eq_false hjT', opAt_get hj', opAt_get hi']; rfl
          exact ⟨⟨_, _, tri this.symm⟩, o25.trans (o84.mono o25.1)⟩
        · have hjT' : (j : Int) ∈ T := by simpa using hjT
          have : blocks L T i j = false := by
            unfold blocks
            rw [decide_eq_true hjT']; simp
          exact ⟨⟨_, _, tri this.symm⟩, o25⟩
      · have heq' : (j : Int) = i := by simpa using heq
        have : blocks L T i j = false := by
          unfold blocks
          rw [decide_eq_false (fun h => h heq')]; rfl
        exact ⟨⟨_, _, tri this.symm⟩, o25⟩
    · rintro v86 v87 v88 g89 h90 ⟨⟨_, _, e⟩, o90⟩
      cases e
      simp only [asBool_bool]
      refine ifB_mk (fun hq => ⟨by rw [hall, hq]; simp, o90⟩) (fun hq => ⟨by rw [hall, hq]; simp, o90⟩)
  · obtain rfl : j = l := by omega
    have hcond : condN L T j i = (!decide ((i : Int) ∈ T) && (ints j).all fun j => !blocks L T i j) := rfl
    rw [← hcond]
    have own25 : OwnI h25 o n c' ((ints i).filter (condN L T j)) := own7.keep fun ad e => o25.2 _ (own7.lt ad e)
    refine ifB_mk (fun hq => ?_) (fun hq => ?_)
    · rw [if_pos hq] at hsucc
      refine app_int own25 (by omega) ?_
      intro a2 c2 h102 own102 s102 old102 hor
      simp only [asSlice_slice]
      refine ⟨a2, n + 1, c2, _, _, rfl, by omega, ⟨by have := ok25.1; omega, fun b hb => ?_⟩, by rw [hsucc]; exact own102, fun b hb => ?_⟩
      · exact (old102 b (by have := ok25.1; omega) (fun ad e eb => by have := hb7 b ⟨ad, e, eb⟩; omega)).trans (ok25.2 b hb)
      · obtain ⟨ad, ea, eb⟩ := hb
        rcases hor with h2 | ⟨bb, h2, h3⟩
        · rw [h2] at ea; exact hb7 b ⟨ad, ea, eb⟩
        · rw [h2] at ea; cases ea
          have := ok25.1
          simp only at eb
          omega
    · rw [if_neg (by rw [hq]; simp), List.append_nil] at hsucc
      exact ⟨o, n, c', _, _, rfl, by omega, ok25, by rw [hsucc]; exact own25, hb7⟩

/-! ### what may be found, as the document has it -/
def stepR (o : Op9) (rs : List Pr) : List (List Pr) :=
  if 0 ≤ o.to then (doR rs (opC o) (opA o)).toList else if o.op = 0 then (doR rs (opC o) ⟨0, 0, 0⟩).toList else if o.op = 1 then (rs.filter fun p => p.1 == minK rs).map fun p => rs.erase p else []
inductive CanR (L : List Op9) : List Int → List Pr → Prop
  | full {T : List Int} {rs : List Pr} (h : fullT L T) : CanR L T rs
  | step {T : List Int} {rs ts : List Pr} {x : Int} (hx : x ∈ nextL L T L.length) (hd : ts ∈ stepR (opAt L x) rs) (h : CanR L (T ++ [x]) ts) : CanR L T rs
theorem mem_minsP_iff {ps : List Pr} (hS : Srt ps) {p : Pr} : p ∈ minsP ps ↔ p ∈ ps ∧ p.1 = leastP ps := by
  cases hps : ps with
  | nil => simp [minsP]
  | cons x r =>
    have := minsP_mem hS hps p
    rw [hps] at this
    exact this
theorem pair_step {o : Op9} {ps rs : List Pr} (hS : Srt ps) (hp : ps.Perm rs) (hop : rightC (opC o) = true) {a : C3} {qs : List Pr} (ha : a ∈ answersP o ps) (hd : doP ps (opC o) a = some qs) : ∃ ts, ts ∈ stepR o rs ∧ Srt qs ∧ qs.Perm ts := by
  have key : ∃ ts, doR rs (opC o) a = some ts ∧ Srt qs ∧ qs.Perm ts := by
    rcases do_perm hS hp (opC o) a with ⟨h1, h2⟩ | ⟨q2, ts, h1, h2, h3, h4⟩
    · rw [h1] at hd; cases hd
    · rw [h1] at hd; cases hd; exact ⟨ts, h2, h3, h4⟩
  unfold stepR
  unfold answersP at ha
  by_cases h0 : 0 ≤ o.to
  · rw [if_pos h0] at ha ⊢
    rw [List.mem_singleton] at ha; subst ha
    obtain ⟨ts, e, h⟩ := key
    exact ⟨ts, by rw [e]; simp, h⟩
  · rw [if_neg h0] at ha ⊢
    by_cases h1 : o.op = 0
    · rw [if_pos h1] at ha ⊢
      rw [List.mem_singleton] at ha; subst ha
      obtain ⟨ts, e, h⟩ := key
      exact ⟨ts, by rw [e]; simp, h⟩
    · rw [if_neg h1] at ha ⊢
      by_cases h2 : o.op = 2
      · rw [if_pos h2] at ha; simp at ha
      · rw [if_neg h2] at ha
        have h3 : o.op = 1 := by
          unfold rightC opC at hop
          simp only [Bool.or_eq_true, Bool.and_eq_true, beq_iff_eq] at hop
          omega
        rw [if_pos h3]
        obtain ⟨p, hpm, rfl⟩ := List.mem_map.1 ha
        obtain ⟨m1, m2⟩ := (mem_minsP_iff hS).1 hpm
        rw [minK_perm hS hp] at m2
        have e : qs = ps.erase p := by
          unfold doP at hd
          split at hd
          · rw [if_neg (show ¬ ((2 : Int) = 0) by decide), if_neg (show ¬ ((2 : Int) = 1) by decide), if_neg (show ¬ ((2 : Int) = 3) by decide), if_pos (show (opC o).o = 1 from h3)] at hd
            cases hd; rfl
          · cases hd
        subst e
        refine ⟨rs.erase p, List.mem_map.2 ⟨p, List.mem_filter.2 ⟨hp.mem_iff.1 m1, by simpa using m2⟩, rfl⟩, erase_srt hS _, hp.erase _⟩
theorem step_pair {o : Op9} {ps rs : List Pr} (hS : Srt ps) (hp : ps.Perm rs) (hop : rightC (opC o) = true) {ts : List Pr} (ht : ts ∈ stepR o rs) : ∃ a qs, a ∈ answersP o ps ∧ doP ps (opC o) a = some qs ∧ Srt qs ∧ qs.Perm ts := by
  have key : ∀ a, doR rs (opC o) a = some ts → ∃ qs, doP ps (opC o) a = some qs ∧ Srt qs ∧ qs.Perm ts := by
    intro a ha
    rcases do_perm hS hp (opC o) a with ⟨h1, h2⟩ | ⟨q2, t2, h1, h2, h3, h4⟩
    · rw [h2] at ha; cases ha
    · rw [h2] at ha; cases ha; exact ⟨q2, h1, h3, h4⟩
  unfold stepR at ht
  unfold answersP
  by_cases h0 : 0 ≤ o.to
  · rw [if_pos h0] at ht ⊢
    obtain ⟨qs, h⟩ := key (opA o) (by simpa using ht)
    exact ⟨_, qs, by simp, h⟩
  · rw [if_neg h0] at ht ⊢
    by_cases h1 : o.op = 0
    · rw [if_pos h1] at ht ⊢
      obtain ⟨qs, h⟩ := key ⟨0, 0, 0⟩ (by simpa using ht)
      exact ⟨_, qs, by simp, h⟩
    · rw [if_neg h1] at ht ⊢
      by_cases h2 : o.op = 1
      · rw [if_pos h2] at ht
        rw [if_neg (by omega)]
        obtain ⟨p, hpm, rfl⟩ := List.mem_map.1 ht
        obtain ⟨m1, m2⟩ := List.mem_filter.1 hpm
        have m3 : p ∈ minsP ps := (mem_minsP_iff hS).2 ⟨hp.mem_iff.2 m1, by rw [minK_perm hS hp]; simpa using m2⟩
        refine ⟨⟨2, p.1, p.2⟩, ps.erase p, List.mem_map.2 ⟨p, m3, rfl⟩, ?_, erase_srt hS _, hp.erase _⟩
        unfold doP
        have hf : fitsB (opC o) ⟨2, p.1, p.2⟩ = true := by
          unfold fitsB
          rw [hop]
          have : (opC o).o = 1 := h2
          rw [this]; rfl
        rw [if_pos hf, if_neg (show ¬ ((2 : Int) = 0) by decide), if_neg (show ¬ ((2 : Int) = 1) by decide), if_neg (show ¬ ((2 : Int) = 3) by decide)]
        rw [if_pos m3, if_pos (show (opC o).o = 1 from h2)]
      · rw [if_neg h2] at ht; simp at ht
/-- Are all calls such as may be? -/
def RightOps (L : List Op9) : Prop := ∀ o ∈ L, rightC (opC o) = true
theorem rightOps_at {L : List Op9} (h : RightOps L) (x : Int) : rightC (opC (opAt L x)) = true := by
  unfold opAt
  rw [List.getD_eq_getElem?_getD]
  by_cases hx : x.toNat < L.length
  · rw [List.getElem?_eq_getElem hx]; exact h _ (List.getElem_mem hx)
  · rw [List.getElem?_eq_none (by omega)]; rfl
theorem canR_of {L : List Op9} (hR : RightOps L) {T : List Int} {ps : List Pr} {w : List Int} (H : Can L T ps w) : ∀ {rs : List Pr}, Srt ps → ps.Perm rs → CanR L T rs := by
  induction H with
  | full h => intro rs _ _; exact .full h
  | step hx ha hd h ih =>
    intro rs hS hp
    obtain ⟨ts, h1, h2, h3⟩ := pair_step hS hp (rightOps_at hR _) ha hd
    exact .step hx h1 (ih h2 h3)
theorem can_of {L : List Op9} (hR : RightOps L) {T : List Int} {rs : List Pr} (H : CanR L T rs) : ∀ {ps : List Pr}, Srt ps → ps.Perm rs → ∃ w, Can L T ps w := by
  induction H with
  | full h => intro rs _ _; exact ⟨[], .full h⟩
  | step hx hd h ih =>
    intro ps hS hp
    obtain ⟨a, qs, h0, h1, h2, h3⟩ := step_pair hS hp (rightOps_at hR _) hd
    obtain ⟨w, hw⟩ := ih h2 h3
    exact ⟨_, .step hx h0 h1 hw⟩
theorem lin_canR {L : List Op9} (hR : RightOps L) : Lin L ↔ CanR L [] [] := ⟨fun ⟨_, h⟩ => canR_of hR h List.Pairwise.nil (List.Perm.refl _), fun h => can_of hR h List.Pairwise.nil (List.Perm.refl _)⟩
end Go.Proofs.Ytlncjcbofgjcfaa
end
section
/- Histories: prefixes; the chapter's example; one thread's calls. -/
set_option linter.unusedSimpArgs false
set_option linter.unusedVariables false
set_option maxRecDepth 20000
namespace Go.Proofs.Ytlncjcbofgjcfaa

/-! ### prefixes of events -/
theorem getD_take {es : List Ev8} {n k : Nat} (h : k < n) : (es.take n).getD k dfE = es.getD k dfE := by
  rw [List.getD_eq_getElem?_getD, List.getElem?_take_of_lt h, List.getD_eq_getElem?_getD]
theorem ansN_take {es : List Ev8} {n q : Nat} (hq : q < n) : ∀ i, i ≤ n → ansN (es.take n) i q = ansN es i q := by
  intro i
  induction i with
  | zero => intro _; rfl
  | succ i ih =>
    intro hi
    rw [ansN_succ, ansN_succ, ih (by omega)]
    unfold thN
    rw [getD_take (by omega), getD_take hq]
theorem inv_take {es : List Ev8} {n : Nat} : ∀ i, i ≤ n → inv (es.take n) i = inv es i := by
  intro i
  induction i with
  | zero => intro _; rfl
  | succ i ih =>
    intro hi
    rw [inv_succ, inv_succ, ih (by omega)]
    unfold bkN
    rw [getD_take (by omega)]
theorem opsAt_take {es : List Ev8} {n i : Nat} (hi : i ≤ n) : opsAt (es.take n) i = opsAt es i := by
  unfold opsAt
  rw [inv_take i hi]
  apply List.map_congr_left
  intro q hq
  have hq' := (inv_lt hq).1
  unfold opEv
  rw [ansN_take (by omega) i hi, getD_take (by omega)]
  cases ha : ansN es i q with
  | none => rfl
  | some k =>
    have := (ansN_some ha).2.1
    simp only
    rw [getD_take (by omega)]
theorem opsE_take {es : List Ev8} {n : Nat} (hn : n ≤ es.length) : opsE (es.take n) = opsAt es n := by
  unfold opsE
  rw [List.length_take, Nat.min_eq_left hn, opsAt_take (Nat.le_refl _)]
theorem opnN_take {es : List Ev8} {n : Nat} (t : Int) : ∀ i, i ≤ n → i ≤ es.length → opnN (es.take n) i t = opnN es i t := by
  intro i
  induction i with
  | zero => intro _ _; rfl
  | succ i ih =>
    intro hi hl
    rw [opnN_succ (by rw [List.length_take]; omega), opnN_succ (by omega), ih (by omega) (by omega), List.getElem_take]
theorem rightH_take {es : List Ev8} (hR : RightH es) (n : Nat) : RightH (es.take n) := by
  intro i hi
  have hi' : i < n ∧ i < es.length := by rw [List.length_take] at hi; omega
  have := hR i hi'.2
  rw [List.getElem_take]
  unfold okE mayB at this ⊢
  rw [opnN_take _ i (by omega) (by omega)]
  cases ho : opnN es i (es[i]).th with
  | none => rw [ho] at this; exact this
  | some k =>
    rw [ho] at this
    have hk := (opnN_lt ho).1
    have : (es.take n).getD k ⟨0, false, zeroC, zeroC⟩ = es.getD k ⟨0, false, zeroC, zeroC⟩ := getD_take (by omega)
    simp only [this]
    assumption
theorem opEv_fr (es : List Ev8) (i q : Nat) : (opEv es i q).fr = q ∧ (opEv es i q).to < i ∧ opC (opEv es i q) = (es.getD q dfE).c := by
  unfold opEv
  cases ha : ansN es i q with
  | none => exact ⟨rfl, by show (-1 : Int) < i; omega, rfl⟩
  | some k => exact ⟨rfl, by have := (ansN_some ha).2.1; show (k : Int) < i; omega, rfl⟩
theorem lin_pre {es : List Ev8} (hR : RightH es) {n : Nat} (hn : n < es.length) (H : Lin (opsAt es (n + 1))) : Lin (opsAt es n) := by
  obtain ⟨w, hw⟩ := H
  have hok := hR n hn
  unfold okE mayB at hok
  have hlast : ∀ a ∈ opsAt es n, a.to < (n : Int) ∧ a.fr < (n : Int) := by
    intro a ha
    unfold opsAt at ha
    obtain ⟨q, hq, rfl⟩ := List.mem_map.1 ha
    have := opEv_fr es n q
    have := (inv_lt hq).1
    omega
  cases hbk : (es[n]).bk with
  | false =>
    rw [hbk] at hok
    simp only [Bool.false_eq_true, if_false, Bool.and_eq_true, Option.isNone_iff_eq_none] at hok
    have hop := hok.1.2.2
    rw [ops_inv hn (by rw [bkN_get hn]; exact hbk) (by rw [thN_get hn]; exact hop)] at hw
    exact can_drop (fun a ha => (hlast a ha).1) hw (fun y hy => by simp at hy)
  | true =>
    rw [hbk] at hok
    simp only [if_true, Bool.and_eq_true] at hok
    cases hop : opnN es n (es[n]).th with
    | none => rw [hop] at hok; simp at hok
    | some q =>
      have hop' : opnN es n (thN es n) = some q := by rw [thN_get hn]; exact hop
      rw [ops_ans hn (by rw [bkN_get hn]; exact hbk) hop'] at hw
      obtain ⟨h1, h2, h3, h4⟩ := opnN_lt hop
      have hat := inv_at (es := es) (q := q) (by rw [bkN_get h2]; exact h4) n h1
      have hk : (inv es q).length < (opsAt es n).length := by
        unfold opsAt
        rw [List.length_map]; exact (List.getElem?_eq_some_iff.1 hat).1
      have hget : (opsAt es n)[(inv es q).length] = opEv es n q := by
        have : (opsAt es n)[(inv es q).length]? = some (opEv es n q) := by
          unfold opsAt
          rw [List.getElem?_map, hat]; rfl
        exact (List.getElem?_eq_some_iff.1 this).2
      have hans := ans_of_opn n (by omega) hop
      have hfr := opEv_fr es n q
      refine can_unans hk (n := n) (by omega) (fun a ha => (hlast a ha).2) ?_ rfl ?_ ?_ hw (S := []) (fun y _ => Iff.rfl) (fun h => h)
      · rw [hget]
        unfold opEv
        rw [hans]
        show (-1 : Int) < 0
        omega
      · rw [hget, hfr.2.2]; rfl
      · rw [hget, hfr.1]
theorem inR_ops {es : List Ev8} (hE : ∀ e ∈ es, InE e) {n : Nat} (hn : n ≤ es.length) : ∀ o ∈ opsAt es n, InR o.key ∧ InR o.val := by
  intro o ho
  unfold opsAt at ho
  obtain ⟨q, hq, rfl⟩ := List.mem_map.1 ho
  have h1 := (inv_lt hq).1
  have h2 := (opEv_fr es n q).2.2
  rw [List.getD_eq_getElem?_getD, List.getElem?_eq_getElem (show q < es.length by omega)] at h2
  have h3 := (hE _ (List.getElem_mem (show q < es.length by omega))).1
  simp only [Option.getD_some] at h2
  rw [← h2] at h3
  exact h3
theorem rightOps_of {es : List Ev8} (hR : RightH es) : RightOps (opsE es) := by
  intro o ho
  unfold opsE opsAt at ho
  obtain ⟨q, hq, rfl⟩ := List.mem_map.1 ho
  obtain ⟨h1, hb⟩ := inv_lt hq
  have h2 := (opEv_fr es es.length q).2.2
  rw [List.getD_eq_getElem?_getD, List.getElem?_eq_getElem h1] at h2
  simp only [Option.getD_some] at h2
  rw [h2]
  have := hR q h1
  rw [bkN_get h1] at hb
  unfold okE mayB at this
  rw [hb] at this
  simp only [Bool.false_eq_true, if_false, Bool.and_eq_true] at this
  exact this.1.2.1

/-! ### the chapter's example -/
def es15 : List Ev8 := [⟨0, false, ⟨0, 1, 0⟩, zeroC⟩, ⟨0, true, zeroC, ⟨0, 0, 0⟩⟩, ⟨1, false, ⟨1, 0, 0⟩, zeroC⟩, ⟨1, true, zeroC, ⟨3, 0, 0⟩⟩]
theorem rightH15 : RightH es15 := by
  intro i hi
  have : i = 0 ∨ i = 1 ∨ i = 2 ∨ i = 3 := by
    have : es15.length = 4 := rfl
    omega
  rcases this with rfl | rfl | rfl | rfl <;> rfl
theorem ops15 : opsE es15 = [⟨0, 0, 1, 0, 0, 0, 0, 0, 1⟩, ⟨1, 1, 0, 0, 3, 0, 0, 2, 3⟩] := by rfl
theorem not_lin15 : ¬ Lin (opsE es15) := by
  rw [ops15, lin_alone]
  · decide
  · intro i hi
    have : i = 0 ∨ i = 1 := by simp at hi; omega
    rcases this with rfl | rfl <;> exact ⟨rfl, rfl⟩
theorem lives15_call {K : Value → Heap → Prop} {h : Heap} (k : ∀ h', Old h.size h h' → K (.bool true) h') : CallH Try.prog 24 #[] h K := by
  refine call24 ?_
  unfold F24
  have p1 := pushed h (es15.flatMap Ev8.cells).toArray 71
  rw [show h.push (.cells #[.int .i64 0, .bool false, .int .i64 0, .int .u32 1, .int .u32 0, .int .i64 0, .int .u32 0, .int .u32 0, .int .i64 0, .bool true, .int .i64 0, .int .u32 0, .int .u32 0, .int .i64 0, .int .u32 0, .int .u32 0, .int .i64 1, .bool false, .int .i64 1, .int .u32 0, .int .u32 0, .int .i64 0, .int .u32 0, .int .u32 0, .int .i64 1, .bool true, .int .i64 0, .int .u32 0, .int .u32 0, .int .i64 3, .int .u32 0, .int .u32 0] 71) = h.push (.cells (es15.flatMap Ev8.cells).toArray 71) from rfl]
  generalize h.push (.cells (es15.flatMap Ev8.cells).toArray 71) = h1 at *
  have S1 : SV h1 (some ⟨h.size, 0, none⟩) 4 4 es15 := ⟨fun j v hj => ⟨_, rfl, by rw [add_lit, cellAt_of p1.new, List.getElem?_toArray, Nat.zero_add]; exact hj⟩, rfl, Nat.le_refl _⟩
  refine callV_fn (history_call S1 (by omega) (fun o ho => ?_) (fun _ hl _ _ => absurd hl not_lin15) (fun _ _ h2 o2 => ?_) (fun hn _ _ => absurd rightH15 hn))
  · rw [ops15] at ho
    simp only [List.mem_cons, List.not_mem_nil, or_false] at ho
    rcases ho with rfl | rfl <;> exact ⟨⟨by decide, by decide⟩, ⟨by decide, by decide⟩⟩
  · simp only [asTup_tuple]
    refine elemH_mk rfl ?_
    simp only [asBool_bool]
    refine elemH_mk rfl ?_
    simp only [asInt_int, Bool.not_false, ifB_true]
    exact k h2 (p1.toOld.trans (o2.mono p1.toOld.1))

/-! ### 15.2: prefixes -/
def badE (key : Int) : List Ev8 := [⟨0, false, ⟨1, 0, 0⟩, zeroC⟩, ⟨0, true, zeroC, ⟨2, key, 0⟩⟩]
theorem rightBad (key : Int) : RightH (badE key) := by
  intro i hi
  have : i = 0 ∨ i = 1 := by
    have : (badE key).length = 2 := rfl
    omega
  rcases this with rfl | rfl <;> rfl
theorem opsBad (key : Int) : opsE (badE key) = [⟨0, 1, 0, 0, 2, key, 0, 0, 1⟩] := by rfl
theorem not_linBad (key : Int) : ¬ Lin (opsE (badE key)) := by
  rw [opsBad, lin_alone]
  · show ¬ ((doP [] ⟨1, 0, 0⟩ ⟨2, key, 0⟩).bind (legD [])).isSome = true
    have : doP [] ⟨1, 0, 0⟩ ⟨2, key, 0⟩ = none := by
      unfold doP
      split
      · simp [minsP]
      · rfl
    rw [this]; simp
  · intro i hi
    have : i = 0 := by simp at hi; omega
    subst this
    exact ⟨rfl, rfl⟩
theorem SV.take {h : Heap} {a : Option Addr} {l c : Nat} {es : List Ev8} (H : SV h a l c es) {n : Nat} (hn : n ≤ l) : SV h a n c (es.take n) := by
  refine ⟨fun j v hj => H.s j v ?_, by rw [List.length_take, H.len]; omega, by have := H.cap; omega⟩
  have hlt := (List.getElem?_eq_some_iff.1 hj).1
  rw [← hj]
  have : es.flatMap Ev8.cells = (es.take n).flatMap Ev8.cells ++ (es.drop n).flatMap Ev8.cells := by rw [← List.flatMap_append, List.take_append_drop]
  rw [this, List.getElem?_append_left hlt]
theorem inR0 : InR 0 := ⟨by decide, by decide⟩
theorem lin_nil : Lin [] := ⟨[], .full fun y y0 y1 _ => by simp at y1; omega⟩
theorem prefixes_body {K : Value → Heap → Prop} {h : Heap} {a : Option Addr} {l c : Nat} {key : Int} {es : List Ev8} (H : SV h a l c es) (hE : ∀ e ∈ es, InE e)
    (k : ∀ h', Old h.size h h' → K (.bool true) h') : F7 K h a l c key := by
  unfold F7
  have hlen := H.len
  refine ifB_dec (fun hgt => callV_fn (lives15_call fun h' o => by simp only [asBool_bool]; exact k h' o)) (fun hle => ?_)
  refine ⟨fun vs h' => ∃ v0 w1 w2 w3, ∃ n : Nat, ∃ was : Bool, vs = [v0, .bool was, .int .i64 ((n : Int) - 1), w1, w2, w3] ∧ n ≤ l + 1 ∧ Old h.size h h' ∧ (was = true → n ≤ l ∧ Lin (opsAt es n)) ∧ (n ≤ l → RightH es) ∧ (n = 0 → was = true),
    fun vs _ => (match vs with | [_, _, .int _ n, _, _, _] => (n + 1).toNat | _ => 0),
    ⟨_, _, _, _, l + 1, false, by rw [show ((l + 1 : Nat) : Int) - 1 = (l : Int) by omega], Nat.le_refl _, Old.refl _ _, fun h => (by cases h), fun h => by omega, fun h => by omega⟩, ?_⟩
  rintro v5 v6 v7 v8 v9 v10 g11 h12 ⟨v0, w1, w2, w3, n, was, e, hn, o12, hwas, hRi, hz⟩
  cases e
  simp only [asInt_int, asBool_bool]
  refine ifB_dec (fun hge => ?_) (fun hlt => ?_)
  · obtain ⟨m, rfl⟩ : ∃ m, n = m + 1 := ⟨n - 1, by omega⟩
    rw [show ((m + 1 : Nat) : Int) - 1 = (m : Int) by omega]
    refine ⟨fun vs h' => ∃ v0 w1 w2 w3, ∃ was' : Bool, vs = [v0, .bool was', w1, w2, w3] ∧ Old h.size h h' ∧ (was' = true → Lin (opsAt es m)) ∧ RightH es ∧ (m = 0 → was' = true), ?_, ?_⟩
    rotate_left
    · rintro v36 v37 v38 v39 v40 g41 h42 ⟨_, _, _, _, was', e, o42, x1, x2, x3⟩
      cases e
      rw [wrap64_id' (by omega) (by omega)]
      exact ⟨⟨_, _, _, _, m, was', rfl, by omega, o42, fun hw => ⟨by omega, x1 hw⟩, fun _ => x2, x3⟩, by show ((m : Int) - 1 + 1).toNat < ((m : Int) + 1).toNat; omega⟩
    refine ⟨by omega, by have := H.cap; omega, ?_⟩
    rw [Int.toNat_natCast, Nat.sub_zero, Nat.sub_zero, subA_zero]
    have hml : m ≤ es.length := by omega
    have hops := opsE_take (es := es) hml
    refine callV_fn (history_call ((H.old o12).take (n := m) (by omega)) (by omega) (fun o ho => ?_) (fun hr hl h17 o17 => ?_) (fun hr hl h17 o17 => ?_) (fun hr h17 o17 => ?_))
    · rw [hops] at ho
      exact inR_ops hE hml o ho
    · rw [hops] at hl
      simp only [asTup_tuple]
      refine elemH_mk rfl ?_
      simp only [asBool_bool]
      refine elemH_mk rfl ?_
      simp only [asInt_int]
      have hr2 : RightH es := by
        by_cases e : m + 1 ≤ l
        · exact hRi e
        · rw [List.take_of_length_le (by omega)] at hr; exact hr
      have ok17 := o12.trans (o17.mono o12.1)
      refine ⟨fun vs h' => vs = [.bool false] ∧ h' = h17, ?_, ?_⟩
      · cases was <;> exact ⟨rfl, by trivial⟩
      rintro v31 g32 h33 ⟨e, rfl⟩
      cases e
      simp only [asBool_bool, ifB_false]
      cases was <;> exact ⟨_, _, _, _, true, rfl, ok17, fun _ => hl, hr2, fun _ => rfl⟩
    · rw [hops] at hl
      simp only [asTup_tuple]
      refine elemH_mk rfl ?_
      simp only [asBool_bool]
      refine elemH_mk rfl ?_
      simp only [asInt_int]
      have hr2 : RightH es := by
        by_cases e : m + 1 ≤ l
        · exact hRi e
        · rw [List.take_of_length_le (by omega)] at hr; exact hr
      have ok17 := o12.trans (o17.mono o12.1)
      have hw : was = false := by
        cases was with
        | false => rfl
        | true => exact absurd (lin_pre hr2 (by have := (hwas rfl).1; omega) (hwas rfl).2) hl
      subst hw
      refine ⟨fun vs h' => vs = [.bool false] ∧ h' = h17, ⟨rfl, by trivial⟩, ?_⟩
      rintro v31 g32 h33 ⟨e, rfl⟩
      cases e
      simp only [asBool_bool, ifB_false]
      refine ⟨_, _, _, _, false, rfl, ok17, fun h => (by cases h), hr2, fun h0 => ?_⟩
      subst h0
      exact absurd lin_nil hl
    · simp only [asTup_tuple]
      refine elemH_mk rfl ?_
      simp only [asBool_bool]
      refine elemH_mk rfl ?_
      simp only [asInt_int]
      rw [show ((11 : Int) != 0) = true from rfl]
      simp only [ifB_true]
      have hm : l < m + 1 := by
        apply Decidable.byContradiction
        intro h
        exact hr (rightH_take (hRi (by omega)) m)
      have hw : was = false := by
        cases was with
        | false => rfl
        | true => have := (hwas rfl).1; omega
      subst hw
      simp only [Bool.not_false, ifB_true]
      have ok17 := o12.trans (o17.mono o12.1)
      refine ifB_dec (fun hp => ?_) (fun hp => ?_)
      · refine callV_fn (lives15_call fun h' o => ?_)
        simp only [asBool_bool]
        exact k h' (ok17.trans (o.mono ok17.1))
      · exfalso
        have : m = 0 := by omega
        subst this
        exact hr (fun i hi => by simp at hi)
  · have hn0 : n = 0 := by omega
    have hw := hz hn0
    subst hw
    have p1 := pushed h12 ((badE key).flatMap Ev8.cells).toArray 71
    rw [show h12.push (.cells #[.int .i64 0, .bool false, .int .i64 1, .int .u32 0, .int .u32 0, .int .i64 0, .int .u32 0, .int .u32 0, .int .i64 0, .bool true, .int .i64 0, .int .u32 0, .int .u32 0, .int .i64 2, .int .u32 key, .int .u32 0] 71) = h12.push (.cells ((badE key).flatMap Ev8.cells).toArray 71) from rfl]
    generalize h12.push (.cells ((badE key).flatMap Ev8.cells).toArray 71) = h13 at *
    have S1 : SV h13 (some ⟨h12.size, 0, none⟩) 2 2 (badE key) := ⟨fun j v hj => ⟨_, rfl, by rw [add_lit, cellAt_of p1.new, List.getElem?_toArray, Nat.zero_add]; exact hj⟩, rfl, Nat.le_refl _⟩
    have o13 : Old h.size h h13 := o12.trans (p1.toOld.mono o12.1)
    refine callV_fn (history_call S1 (by omega) (fun o ho => ?_) (fun _ hl _ _ => absurd hl (not_linBad key)) (fun _ _ h2 o2 => ?_) (fun hn _ _ => absurd (rightBad key) hn))
    · rw [opsBad] at ho
      simp only [List.mem_cons, List.not_mem_nil, or_false] at ho
      subst ho
      exact ⟨inR0, inR0⟩
    · simp only [asTup_tuple]
      refine elemH_mk rfl ?_
      simp only [asBool_bool]
      refine elemH_mk rfl ?_
      simp only [asInt_int, Bool.not_false, ifB_true]
      rw [show ((0 : Int) == 0) = true from rfl]
      simp only [ifB_true]
      have o2' := o13.trans (o2.mono o13.1)
      refine callV_fn (lives15_call fun h' o => ?_)
      simp only [asBool_bool]
      exact k h' (o2'.trans (o.mono o2'.1))
end Go.Proofs.Ytlncjcbofgjcfaa
end
section
/- 15.2: calls of one thread, one behind the other. -/
set_option linter.unusedSimpArgs false
set_option linter.unusedVariables false
set_option maxRecDepth 20000
namespace Go.Proofs.Ytlncjcbofgjcfaa

theorem legD_snoc (o : Op9) : ∀ (L : List Op9) (ps : List Pr), legD (L ++ [o]) ps = (legD L ps).bind fun qs => doP qs (opC o) (opA o) := by
  intro L
  induction L with
  | nil => intro ps; show (doP ps (opC o) (opA o)).bind (legD []) = _; rw [show legD [] ps = some ps from rfl, Option.bind_some]; cases doP ps (opC o) (opA o) <;> rfl
  | cons x L ih =>
    intro ps
    show (doP ps (opC x) (opA x)).bind (legD (L ++ [o])) = ((doP ps (opC x) (opA x)).bind (legD L)).bind _
    cases doP ps (opC x) (opA x) with
    | none => rfl
    | some qs => exact ih qs
theorem app_o1 {h : Heap} {a : Option Addr} {l c : Nat} {ys : List Op9} {x : Op9} {K : Value → Heap → Prop} (ho : OwnO h a l c ys) (hl : l < 2 ^ 30)
    (H : ∀ a' c' h', OwnO h' a' (l + 1) c' (ys ++ [x]) → (∀ b, blk a' b → blk a b ∨ h.size ≤ b) → Fr (blk a) h h' → K (.slice a' (l + 1) c') h') :
    appH Try.prog #[59, 59] 59 #[.slice a l c, .slice (some ⟨h.size, 0, none⟩) 1 1] (h.push (.cells #[.int .i64 x.th, .int .i64 x.op, .int .u32 x.key, .int .u32 x.val, .int .i64 x.kind, .int .u32 x.ak, .int .u32 x.av, .int .i64 x.fr, .int .i64 x.to] 65)) K := by
  have p1 := pushed h x.cells.toArray 65
  rw [show h.push (.cells #[.int .i64 x.th, .int .i64 x.op, .int .u32 x.key, .int .u32 x.val, .int .i64 x.kind, .int .u32 x.ak, .int .u32 x.av, .int .i64 x.fr, .int .i64 x.to] 65) = h.push (.cells x.cells.toArray 65) from rfl]
  generalize h.push (.cells x.cells.toArray 65) = h1 at *
  have s1 := p1.size
  refine appH_own (ys := x.cells) (n := 1) und_opers there_oper zer_oper (by rw [siz_oper]; rfl) (by rw [siz_oper]; exact ho.keep fun ad e => p1.old _ (ho.lt ad e)) ?_ (by rw [siz_oper]; rfl) (cells9_one x) (by rw [byt_oper]; omega) (by rw [byt_oper]; omega) ?_
  · intro j v hj
    refine ⟨_, rfl, ?_⟩
    rw [add_lit, cellAt_of p1.new, List.getElem?_toArray, Nat.zero_add]; exact hj
  intro a' c' h' own s' old hor
  rw [siz_oper] at own
  refine H a' c' h' ?_ (fun b hb => ?_) ⟨by omega, fun b hb hS => (old b (by omega) fun ad e eb => hS ⟨ad, e, eb⟩).trans (p1.old b hb)⟩
  · unfold OwnO; rw [List.flatMap_append]; simpa using own
  · obtain ⟨ad, e, rfl⟩ := hb
    rcases hor with h2 | h2
    · rw [h2] at e; exact .inl ⟨ad, e, rfl⟩
    · rw [h2] at e; cases e; right; show h.size ≤ h1.size; omega

theorem alone_body {K : Value → Heap → Prop} {h : Heap} {a a2 : Option Addr} {l c l2 c2 : Nat} {cs ys : List C3} (H : SX c3c h a l c cs) (hC : ∀ x ∈ cs, InC x) (H2 : SX c3c h a2 l2 c2 ys)
    (k : ∀ h', Old h.size h h' → K (.bool true) h') : F6 K h a l c a2 l2 c2 := by
  unfold F6
  have hlen := H.len
  have hlen2 := H2.len
  refine ⟨fun vs h' => h' = h ∧ vs = [.bool (decide (l > 40) || decide (l2 < l))], ?_, ?_⟩
  · refine ifB_dec (fun hq => ⟨by trivial, ?_⟩) (fun hq => ⟨by trivial, ?_⟩)
    · rw [decide_eq_true (show l > 40 by omega)]; rfl
    · rw [decide_eq_false (show ¬ l > 40 by omega), Bool.false_or]
      congr 2
      rw [decide_eq_decide]; omega
  rintro v1 g2 h3 ⟨rfl, e⟩
  cases e
  simp only [asBool_bool]
  refine ifB_mk (fun hq => callV_fn (lives15_call fun h' o => by simp only [asBool_bool]; exact k h' o)) (fun hq => ?_)
  have hq2 : ¬ l > 40 ∧ ¬ l2 < l := by
    rw [Bool.or_eq_false_iff, decide_eq_false_iff_not, decide_eq_false_iff_not] at hq; exact hq
  refine ⟨fun vs h' => ∃ w0 w1 w2 w3, ∃ i : Nat, ∃ ao co ar cr, ∃ ops : List Op9, ∃ rs : List Pr, ∃ lg : Bool, vs = [w0, .slice ao i co, .slice ar rs.length cr, .bool lg, iv i, w1, w2, w3] ∧ i ≤ l ∧ Old h3.size h3 h' ∧ OwnO h' ao i co ops ∧ OwnR h' ar rs.length cr rs ∧ ops.length = i ∧ rs.length ≤ i ∧ Alone ops ∧ (∀ o ∈ ops, InR o.key ∧ InR o.val) ∧ (∀ b, blk ao b → h3.size ≤ b) ∧ (∀ b, blk ar b → h3.size ≤ b) ∧ (lg = true → ∃ ps, legD ops [] = some ps ∧ Srt ps ∧ ps.Perm rs) ∧ (lg = false → legD ops [] = none),
    fun vs _ => (match vs with | [_, _, _, _, .int _ n, _, _, _] => l - n.toNat | _ => 0),
    ⟨_, _, _, _, 0, none, 0, none, 0, [], [], true, rfl, Nat.zero_le _, Old.refl _ _, Own.nil _ _ _, Own.nil _ _ _, rfl, Nat.le_refl _, fun i hi => by simp at hi, fun o ho => by simp at ho, fun b hb => absurd hb (blk_none b), fun b hb => absurd hb (blk_none b), fun _ => ⟨[], rfl, List.Pairwise.nil, List.Perm.refl _⟩, fun h => by cases h⟩, ?_⟩
  rintro v10 v11 v12 v13 v14 v15 v16 v17 g18 h19 ⟨w0, w1, w2, w3, i, ao, co, ar, cr, ops, rs, lg, e, hi, o19, ownO, ownRr, hol, hrl, hA, hIn, hbo, hbr, hlg1, hlg0⟩
  cases e
  simp only [asInt_int, asI_int, asSlice_slice, asBool_bool]
  refine ifB_dec (fun hlt => ?_) (fun hge => ?_)
  · have hi1 : i < cs.length := by omega
    have hi2 : i < ys.length := by omega
    refine ⟨fun vs h' => ∃ w0 w1 w2 w3, ∃ ao co ar cr, ∃ ops : List Op9, ∃ rs : List Pr, ∃ lg : Bool, vs = [w0, .slice ao (i + 1) co, .slice ar rs.length cr, .bool lg, w1, w2, w3] ∧ Old h3.size h3 h' ∧ OwnO h' ao (i + 1) co ops ∧ OwnR h' ar rs.length cr rs ∧ ops.length = i + 1 ∧ rs.length ≤ i + 1 ∧ Alone ops ∧ (∀ o ∈ ops, InR o.key ∧ InR o.val) ∧ (∀ b, blk ao b → h3.size ≤ b) ∧ (∀ b, blk ar b → h3.size ≤ b) ∧ (lg = true → ∃ ps, legD ops [] = some ps ∧ Srt ps ∧ ps.Perm rs) ∧ (lg = false → legD ops [] = none), ?_, ?_⟩
    rotate_left
    · rintro v82 v83 v84 v85 v86 v87 v88 g89 h90 ⟨w0, w1, w2, w3, ao, co, ar, cr, ops, rs, lg, e, x1, x2, x3, x4, x5, x6, x7, x8, x9, x10, x11⟩
      cases e
      rw [nat_wrap1 (by omega)]
      exact ⟨⟨_, _, _, _, i + 1, ao, co, ar, cr, ops, rs, lg, rfl, by omega, x1, x2, x3, x4, x5, x6, x7, x8, x9, x10, x11⟩, by show l - ((i + 1 : Nat) : Int).toNat < l - (i : Int).toNat; omega⟩
    obtain ⟨ad, rfl, hc⟩ := SX.at c3c_len (by omega) (H.old o19) hi1
    obtain ⟨ad2, rfl, hd⟩ := SX.at c3c_len (by omega) (H2.old o19) hi2
    have hCx := hC _ (List.getElem_mem hi1)
    obtain ⟨x, hx⟩ : ∃ x, cs[i] = x := ⟨_, rfl⟩
    obtain ⟨y, hy⟩ : ∃ y, ys[i] = y := ⟨_, rfl⟩
    rw [hx] at hc hCx
    rw [hy] at hd
    have c0 := hc 0 _ rfl
    have c1 := hc 1 _ rfl
    have c2' := hc 2 _ rfl
    have d0 := hd 0 _ rfl
    have d1 := hd 1 _ rfl
    have d2 := hd 2 _ rfl
    refine ⟨by omega, hlt, ?_⟩
    simp only [asPtr_some, Int.toNat_natCast]
    refine ldH_mk c0 (ldH_mk c1 (ldH_mk c2' ?_))
    refine ⟨by omega, by omega, ldH_mk d0 (ldH_mk d1 (ldH_mk d2 ?_))⟩
    refine callV_fn (refFits_call (c := x) (a := y) fun h33 o33 => ?_)
    simp only [asBool_bool]
    have ok33 := o19.trans (o33.mono o19.1)
    refine ifB_mk (fun hf => callV_fn (lives15_call fun h' o => by simp only [asBool_bool]; exact k h' (ok33.trans (o.mono ok33.1)))) (fun hf => ?_)
    refine ⟨by omega, hlt, ldH_mk (cell_stable _ _ o33 c0) (ldH_mk (cell_stable _ _ o33 c1) (ldH_mk (cell_stable _ _ o33 c2') ?_))⟩
    refine ⟨by omega, by omega, ldH_mk (cell_stable _ _ o33 d0) (ldH_mk (cell_stable _ _ o33 d1) (ldH_mk (cell_stable _ _ o33 d2) ?_))⟩
    rw [wrap64_id' (n := 2 * (i : Int)) (by omega) (by omega), wrap64_id' (by omega) (by omega)]
    have ownO33 : OwnO h33 ao i co ops := ownO.keep fun ad e => o33.2 _ (ownO.lt ad e)
    have ownR33 : OwnR h33 ar rs.length cr rs := ownRr.keep fun ad e => o33.2 _ (ownRr.lt ad e)
    refine app_o1 (x := ⟨0, x.o, x.k, x.v, y.o, y.k, y.v, 2 * i, 2 * i + 1⟩) ownO33 (by omega) fun ao' co' h54 own54 hb54 fr54 => ?_
    simp only [asSlice_slice]
    have ownR54 : OwnR h54 ar rs.length cr rs := ownR33.fr fr54 fun b hb hb2 => Own.disj ownR33 ownO33 (by decide) hb hb2
    have ok54 : Old h3.size h3 h54 := ⟨by have := ok33.1; have := fr54.1; omega, fun b hb => (fr54.2 b (by have := ok33.1; omega) (fun hn => by have := hbo b hn; omega)).trans (ok33.2 b hb)⟩
    obtain ⟨ad', e1, hc4⟩ := SX.at c3c_len (by omega) (H.old ok54) hi1
    cases e1
    obtain ⟨ad', e1, hd4⟩ := SX.at c3c_len (by omega) (H2.old ok54) hi2
    cases e1
    rw [hx] at hc4
    rw [hy] at hd4
    refine ⟨by omega, hlt, ldH_mk (hc4 0 _ rfl) (ldH_mk (hc4 1 _ rfl) (ldH_mk (hc4 2 _ rfl) ?_))⟩
    refine ⟨by omega, by omega, ldH_mk (hd4 0 _ rfl) (ldH_mk (hd4 1 _ rfl) (ldH_mk (hd4 2 _ rfl) ?_))⟩
    refine callV_fn (refDo_call (c3 := x) (a3 := y) ownR54 (by omega) fun ar' cr' h72 own72 hb72 o72 => ?_)
    simp only [asTup_tuple]
    refine elemH_mk rfl ?_
    simp only [asSlice_slice]
    refine elemH_mk rfl ?_
    simp only [asBool_bool]
    have ok72 := ok54.trans (o72.mono ok54.1)
    have own54' : OwnO h72 ao' (i + 1) co' (ops ++ [⟨0, x.o, x.k, x.v, y.o, y.k, y.v, 2 * i, 2 * i + 1⟩]) := own54.keep fun ad e => o72.2 _ (own54.lt ad e)
    have hlen72 := doR_len' rs x y
    have hA' : Alone (ops ++ [⟨0, x.o, x.k, x.v, y.o, y.k, y.v, 2 * i, 2 * i + 1⟩]) := by
      intro j hj
      by_cases e : j < ops.length
      · rw [List.getElem_append_left e]; exact hA j e
      · have : j = i := by simp at hj; omega
        subst this
        rw [List.getElem_append_right (by omega)]
        simp only [hol, Nat.sub_self, List.getElem_singleton]
        first | exact ⟨rfl, rfl⟩ | exact ⟨by trivial, by trivial⟩ | trivial
    have hIn' : ∀ o ∈ ops ++ [(⟨0, x.o, x.k, x.v, y.o, y.k, y.v, 2 * i, 2 * i + 1⟩ : Op9)], InR o.key ∧ InR o.val := by
      intro o ho
      rcases List.mem_append.1 ho with ho | ho
      · exact hIn o ho
      · rw [List.mem_singleton.1 ho]; exact hCx
    have s33 := ok33.1
    have s54 := ok54.1
    have hbo' : ∀ b, blk ao' b → h3.size ≤ b := fun b hb => (hb54 b hb).elim (hbo b) fun h2 => by omega
    have hbr' : ∀ b, blk ar' b → h3.size ≤ b := fun b hb => (hb72 b hb).elim (hbr b) fun h2 => by omega
    have hsn := legD_snoc ⟨0, x.o, x.k, x.v, y.o, y.k, y.v, 2 * i, 2 * i + 1⟩ ops []
    have key1 : lg = true → (doR rs x y).isSome = true → ∃ ps, legD (ops ++ [(⟨0, x.o, x.k, x.v, y.o, y.k, y.v, 2 * i, 2 * i + 1⟩ : Op9)]) [] = some ps ∧ Srt ps ∧ ps.Perm ((doR rs x y).getD rs) := by
      intro h1 h2
      obtain ⟨ps, q1, q2, q3⟩ := hlg1 h1
      rcases do_perm q2 q3 x y with ⟨h3, h4⟩ | ⟨qs, ts, h3, h4, h5, h6⟩
      · rw [h4] at h2; cases h2
      · refine ⟨qs, ?_, h5, by rw [h4]; exact h6⟩
        rw [hsn, q1]; exact h3
    have key0 : lg = true → (doR rs x y).isSome = false → legD (ops ++ [(⟨0, x.o, x.k, x.v, y.o, y.k, y.v, 2 * i, 2 * i + 1⟩ : Op9)]) [] = none := by
      intro h1 h2
      obtain ⟨ps, q1, q2, q3⟩ := hlg1 h1
      rcases do_perm q2 q3 x y with ⟨h3, h4⟩ | ⟨qs, ts, h3, h4, h5, h6⟩
      · rw [hsn, q1]; exact h3
      · rw [h4] at h2; cases h2
    have key2 : lg = false → legD (ops ++ [(⟨0, x.o, x.k, x.v, y.o, y.k, y.v, 2 * i, 2 * i + 1⟩ : Op9)]) [] = none := fun h => by rw [hsn, hlg0 h]; rfl
    have hol' : (ops ++ [(⟨0, x.o, x.k, x.v, y.o, y.k, y.v, 2 * i, 2 * i + 1⟩ : Op9)]).length = i + 1 := by simp [hol]
    refine ifB_mk (fun hl => ?_) (fun hl => ?_)
    · exact ⟨_, _, _, _, ao', co', ar', cr', (ops ++ [(⟨0, x.o, x.k, x.v, y.o, y.k, y.v, 2 * i, 2 * i + 1⟩ : Op9)]), (doR rs x y).getD rs, (doR rs x y).isSome, rfl, ok72, own54', own72, hol', by omega, hA', hIn', hbo', hbr', key1 hl, key0 hl⟩
    · exact ⟨_, _, _, _, ao', co', ar', cr', (ops ++ [(⟨0, x.o, x.k, x.v, y.o, y.k, y.v, 2 * i, 2 * i + 1⟩ : Op9)]), (doR rs x y).getD rs, false, rfl, ok72, own54', own72, hol', by omega, hA', hIn', hbo', hbr', fun h => (by cases h), fun _ => key2 hl⟩
  · obtain rfl : i = l := by omega
    have hfin : Lin ops ↔ lg = true := by
      rw [lin_alone hA]
      cases lg with
      | false => rw [hlg0 rfl]; simp
      | true => obtain ⟨ps, q, _⟩ := hlg1 rfl; rw [q]; simp
    refine callV_fn (check_call ownO.sl (by omega) hIn (fun w a' c' h96 hcan _ o96 => ?_) (fun hno h96 o96 => ?_))
    · have := hfin.1 ⟨w, hcan⟩
      subst this
      simp only [asTup_tuple]
      refine elemH_mk rfl ?_
      simp only [asSlice_slice]
      refine elemH_mk rfl ?_
      simp only [asBool_bool, beq_self_eq_true, ifB_true]
      have ok := o19.trans (o96.mono o19.1)
      refine callV_fn (lives15_call fun h' o => ?_)
      simp only [asBool_bool]
      exact k h' (ok.trans (o.mono ok.1))
    · have : lg = false := by
        cases lg with
        | false => rfl
        | true => exact absurd (hfin.2 rfl) hno
      subst this
      simp only [asTup_tuple]
      refine elemH_mk rfl ?_
      simp only [asSlice_slice]
      refine elemH_mk rfl ?_
      simp only [asBool_bool, beq_self_eq_true, ifB_true]
      have ok := o19.trans (o96.mono o19.1)
      refine callV_fn (lives15_call fun h' o => ?_)
      simp only [asBool_bool]
      exact k h' (ok.trans (o.mono ok.1))
end Go.Proofs.Ytlncjcbofgjcfaa
end
