/- Part 11 of what the proofs of this seat rest on: see the last text of the claim. -/
import Derived.Test.YtlncjcbofgjcfaaQcba567312c18
section
/- Events: whose call is open, which may come (the document's). -/
set_option linter.unusedSimpArgs false
set_option linter.unusedVariables false
set_option maxRecDepth 20000
namespace Go.Proofs.Ytlncjcbofgjcfaa

structure Ev8 where
  th : Int
  bk : Bool
  c : C3
  a : C3
abbrev Ev8.cells (e : Ev8) : List Value := [.int .i64 e.th, .bool e.bk, .int .i64 e.c.o, .int .u32 e.c.k, .int .u32 e.c.v, .int .i64 e.a.o, .int .u32 e.a.k, .int .u32 e.a.v]
theorem flat8_len (es : List Ev8) : (es.flatMap Ev8.cells).length = es.length * 8 := by
  induction es with
  | nil => rfl
  | cons e es ih =>
    have h8 : e.cells.length = 8 := rfl
    rw [List.flatMap_cons, List.length_append, ih, h8, List.length_cons]; omega
theorem flat8_get {es : List Ev8} : ∀ {i : Nat} (hi : i < es.length) {j : Nat}, j < 8 → (es.flatMap Ev8.cells)[i * 8 + j]? = (es[i]).cells[j]? := by
  induction es with
  | nil => intro i hi; simp at hi
  | cons e es ih =>
    intro i hi j hj
    have h8 : e.cells.length = 8 := rfl
    rw [List.flatMap_cons]
    cases i with
    | zero => rw [List.getElem?_append_left (by omega)]; simp
    | succ i =>
      rw [List.getElem?_append_right (by omega), h8, show (i + 1) * 8 + j - 8 = i * 8 + j by omega]
      exact ih (by simpa using hi) hj
/-- A slice of events, to be read. -/
structure SV (h : Heap) (a : Option Addr) (l c : Nat) (es : List Ev8) : Prop where
  s : Sees h a (es.flatMap Ev8.cells)
  len : es.length = l
  cap : l ≤ c
theorem SV.old {h h' : Heap} {a : Option Addr} {l c : Nat} {es : List Ev8} (H : SV h a l c es) (ho : Old h.size h h') : SV h' a l c es := ⟨H.s.old ho, H.len, H.cap⟩
theorem SV.at {h : Heap} {a : Option Addr} {l c : Nat} {es : List Ev8} (H : SV h a l c es) {i : Nat} (hi : i < es.length) : ∃ ad, a = some ad ∧ ∀ (j : Nat) (v : Value), (es[i]).cells[j]? = some v → cellAt h ((ad.add (i * 8)).add j) = some v := by
  have h0 : (es.flatMap Ev8.cells)[i * 8 + 0]? = some (.int .i64 (es[i]).th) := flat8_get hi (by omega)
  obtain ⟨ad, e, _⟩ := H.s _ _ h0
  refine ⟨ad, e, fun j v hv => ?_⟩
  have hj : j < 8 := (List.getElem?_eq_some_iff.1 hv).1
  obtain ⟨ad', e', hc⟩ := H.s (i * 8 + j) v ((flat8_get hi hj).trans hv)
  rw [e] at e'; cases e'
  rw [add_add]; exact hc

/-- The place of a thread's call that is open ahead of a place. -/
def opnN (es : List Ev8) : Nat → Int → Option Nat
  | 0, _ => none
  | j + 1, t => match es[j]? with
    | some e => if e.th = t then (if e.bk then none else some j) else opnN es j t
    | none => opnN es j t
theorem opnN_succ {es : List Ev8} {j : Nat} (hj : j < es.length) (t : Int) : opnN es (j + 1) t = if (es[j]).th = t then (if (es[j]).bk then none else some j) else opnN es j t := by
  show (match es[j]? with | some e => _ | none => _) = _
  rw [List.getElem?_eq_getElem hj]
theorem opnN_lt {es : List Ev8} {t : Int} {k : Nat} : ∀ {i : Nat}, opnN es i t = some k → k < i ∧ ∃ hk : k < es.length, (es[k]).th = t ∧ (es[k]).bk = false := by
  intro i
  induction i with
  | zero => intro h; cases h
  | succ i ih =>
    intro h
    unfold opnN at h
    split at h
    · rename_i e he
      obtain ⟨hi, ei⟩ := List.getElem?_eq_some_iff.1 he
      split at h
      · split at h
        · cases h
        · cases h; exact ⟨by omega, hi, by rw [ei]; assumption, by rw [ei]; simpa using ‹¬ e.bk = true›⟩
      · obtain ⟨h1, h2⟩ := ih h; exact ⟨by omega, h2⟩
    · obtain ⟨h1, h2⟩ := ih h; exact ⟨by omega, h2⟩
def opI (o : Option Nat) : Int := match o with | some k => (k : Int) | none => -1

theorem open_call {K : Value → Heap → Prop} {h : Heap} {a : Option Addr} {l c at_ : Nat} {es : List Ev8} {t : Int} (H : SV h a l c es) (hl : l < 2 ^ 60) (hat : at_ ≤ l) (k : K (iv (opI (opnN es at_ t))) h) :
    CallH Try.prog 63 #[.slice a l c, iv at_, iv t] h K := by
  refine call63 ?_
  unfold F63
  have hlen := H.len
  refine ⟨fun vs h' => ∃ w, ∃ i : Nat, vs = [w, iv ((i : Int) - 1)] ∧ h' = h ∧ i ≤ at_ ∧ opnN es i t = opnN es at_ t, fun vs _ => (match vs with | [_, .int _ n] => (n + 1).toNat | _ => 0), ⟨_, at_, by rw [wrap64_id' (by omega) (by omega)], rfl, Nat.le_refl _, rfl⟩, ?_⟩
  rintro v2 v3 g4 h5 ⟨w, i, e, rfl, hi, ho⟩
  cases e
  simp only [asInt_int]
  refine ifB_dec (fun hge => ?_) (fun hlt => ?_)
  · obtain ⟨j, rfl⟩ : ∃ j, i = j + 1 := ⟨i - 1, by omega⟩
    have hj : j < es.length := by omega
    have ej : ((j + 1 : Nat) : Int) - 1 = ((j : Nat) : Int) := by omega
    rw [ej]
    obtain ⟨ad, rfl, hc⟩ := H.at hj
    rw [opnN_succ hj] at ho
    refine ⟨by omega, by omega, ?_⟩
    simp only [asPtr_some, Int.toNat_natCast]
    refine ldH_mk (hc 0 _ rfl) ?_
    simp only [asInt_int]
    refine ifB_mk (fun e1 => ?_) (fun e1 => ?_)
    · rw [if_pos (by simpa using e1)] at ho
      refine ⟨by omega, by omega, ldH_mk (hc 1 _ rfl) ?_⟩
      simp only [asBool_bool]
      rw [← ho] at k
      refine ifB_mk (fun e2 => by rw [e2] at k; exact k) (fun e2 => by rw [e2] at k; exact k)
    · rw [if_neg (by simpa using e1)] at ho
      rw [wrap64_id' (by omega) (by omega)]
      refine ⟨⟨_, j, rfl, by trivial, by omega, ho⟩, ?_⟩
      show (((j : Nat) : Int) - 1 + 1).toNat < (((j : Nat) : Int) + 1).toNat
      omega
  · have : i = 0 := by omega
    subst this
    rw [← ho] at k
    exact k

/-- May this event come? -/
def mayB (es : List Ev8) (i : Nat) (e : Ev8) : Bool :=
  (decide (0 ≤ e.th) && decide (e.th ≤ 5)) && (if e.bk then (match opnN es i e.th with | some k => fitsB (es.getD k ⟨0, false, zeroC, zeroC⟩).c e.a | none => false) else rightC e.c && (opnN es i e.th).isNone)
def okE (es : List Ev8) (i : Nat) (e : Ev8) : Bool := mayB es i e && (if e.bk then e.c.is0 else e.a.is0)
def RightH (es : List Ev8) : Prop := ∀ i (hi : i < es.length), okE es i es[i] = true

abbrev zs8 : List Value := [.int .i64 0, .bool false, .int .i64 0, .int .u32 0, .int .u32 0, .int .i64 0, .int .u32 0, .int .u32 0]
theorem st8 {h : Heap} {b : Nat} {v0 v1 v2 v3 v4 v5 v6 v7 : Value} {K : Heap → Prop} (H : stN h ⟨b, 0, none⟩ 0 [v0, v1, v2, v3, v4, v5, v6, v7] K) :
    stH h ⟨b, 0, none⟩ v0 fun h => stH h ⟨b, 1, none⟩ v1 fun h => stH h ⟨b, 2, none⟩ v2 fun h => stH h ⟨b, 3, none⟩ v3 fun h => stH h ⟨b, 4, none⟩ v4 fun h => stH h ⟨b, 5, none⟩ v5 fun h => stH h ⟨b, 6, none⟩ v6 fun h => stH h ⟨b, 7, none⟩ v7 K := H
theorem cells8_one (e : Ev8) : ∀ y ∈ e.cells, oneC y True := by
  intro y hy
  simp only [List.mem_cons, List.not_mem_nil, or_false] at hy
  rcases hy with rfl | rfl | rfl | rfl | rfl | rfl | rfl | rfl <;> exact trivial

theorem mayE_call {K : Value → Heap → Prop} {h : Heap} {a : Option Addr} {l c i : Nat} {es : List Ev8} (H : SV h a l c es) (hl : l < 2 ^ 60) (hi : i < es.length)
    (k : ∀ r h', (r = 0 ↔ mayB es i es[i] = true) → Old h.size h h' → K (iv r) h') : CallH Try.prog 46 #[.slice a l c, iv i] h K := by
  refine call46 ?_
  unfold F46
  have hlen := H.len
  obtain ⟨ad, rfl, hc⟩ := H.at hi
  refine ⟨by omega, by omega, ?_⟩
  simp only [asPtr_some, Int.toNat_natCast]
  refine ldH_mk (hc 0 _ rfl) (ldH_mk (hc 1 _ rfl) (ldH_mk (hc 2 _ rfl) (ldH_mk (hc 3 _ rfl) (ldH_mk (hc 4 _ rfl) (ldH_mk (hc 5 _ rfl) (ldH_mk (hc 6 _ rfl) (ldH_mk (hc 7 _ rfl) ?_)))))))
  have p := pushed h zs8.toArray 71
  rw [show h.push (.cells #[.int .i64 0, .bool false, .int .i64 0, .int .u32 0, .int .u32 0, .int .i64 0, .int .u32 0, .int .u32 0] 71) = h.push (.cells zs8.toArray 71) from rfl]
  generalize h.push (.cells zs8.toArray 71) = h1 at *
  refine st8 (stN_full (vs := (es[i]).cells) p.new rfl (cells8_one _) fun h2 w => ?_)
  have o2 : Old h.size h h2 := w.toOld p.toOld (Nat.le_refl _)
  generalize hev : es[i] = e at *
  refine ldR w.new rfl ?_
  simp only [asInt_int]
  refine callV_fn (open_call (H.old o2) hl (by omega) ?_)
  simp only [asInt_int]
  have ho := fun k => opnN_lt (es := es) (t := e.th) (k := k) (i := i)
  refine ⟨fun vs h' => vs = [.bool (!(decide (0 ≤ e.th) && decide (e.th ≤ 5)))] ∧ h' = h2, ?_, ?_⟩
  · refine ldR w.new rfl ?_
    simp only [asInt_int]
    refine ifB_dec (fun hn => ⟨?_, by trivial⟩) (fun hn => ?_)
    · rw [decide_eq_false (by omega : ¬ 0 ≤ e.th)]; rfl
    · refine ldR w.new rfl ?_
      simp only [asInt_int]
      refine ⟨?_, by trivial⟩
      rw [decide_eq_true (by omega : 0 ≤ e.th), Bool.true_and]
      congr 2
      by_cases h5 : e.th > 5
      · rw [decide_eq_true h5, decide_eq_false (by omega)]; rfl
      · rw [decide_eq_false h5, decide_eq_true (by omega)]; rfl
  rintro v27 g28 h29 ⟨e0, rfl⟩
  cases e0
  simp only [asBool_bool]
  refine ifB_mk (fun hb => k 2 _ ⟨fun h => by omega, fun h => ?_⟩ o2) (fun hb => ?_)
  · unfold mayB at h
    revert hb h
    cases (decide (0 ≤ e.th) && decide (e.th ≤ 5)) <;> simp
  have hrange : (decide (0 ≤ e.th) && decide (e.th ≤ 5)) = true := by revert hb; cases (decide (0 ≤ e.th) && decide (e.th ≤ 5)) <;> simp
  have hmay : mayB es i e = (if e.bk then (match opnN es i e.th with | some k => fitsB (es.getD k ⟨0, false, zeroC, zeroC⟩).c e.a | none => false) else rightC e.c && (opnN es i e.th).isNone) := by
    unfold mayB; rw [hrange, Bool.true_and]
  rw [hmay] at k
  refine ldR w.new rfl ?_
  simp only [asBool_bool]
  refine ifB_mk (fun hbk => ?_) (fun hbk => ?_)
  · rw [if_pos hbk] at k
    cases hop : opnN es i e.th with
    | none =>
      rw [hop] at k
      refine ifB_dec (fun _ => k 4 _ ⟨fun h => by omega, fun h => by cases h⟩ o2) (fun hx => absurd (show opI none < 0 by decide) hx)
    | some q =>
      rw [hop] at k
      obtain ⟨hqi, hq, _, _⟩ := ho q hop
      refine ifB_dec (fun hx => absurd hx (by show ¬ ((q : Nat) : Int) < 0; omega)) (fun _ => ?_)
      show (0 : Int) ≤ ((q : Nat) : Int) ∧ _
      refine ⟨by omega, by show ((q : Nat) : Int) < _; omega, ?_⟩
      obtain ⟨ad', e', hcq⟩ := (H.old o2).at hq
      cases e'
      have hgd : es.getD q ⟨0, false, zeroC, zeroC⟩ = es[q] := by rw [List.getD_eq_getElem?_getD, List.getElem?_eq_getElem hq]; rfl
      simp only [hgd] at k
      simp only [opI, asPtr_some, Int.toNat_natCast]
      refine ldH_mk (hcq 2 _ rfl) (ldH_mk (hcq 3 _ rfl) (ldH_mk (hcq 4 _ rfl) ?_))
      refine ldR w.new rfl ?_
      rw [add_lit, add_lit]
      refine ldR w.new rfl (ldR w.new rfl ?_)
      refine callV_fn (refFits_call (c := (es[q]).c) (a := e.a) fun h41 o41 => ?_)
      simp only [asBool_bool]
      have ok := o2.trans (o41.mono o2.1)
      refine ifB_mk (fun hf => k 1 _ ⟨fun h => by omega, fun h => by rw [h] at hf; cases hf⟩ ok) (fun hf => k 0 _ ⟨fun _ => by revert hf; cases fitsB (es[q]).c e.a <;> simp, fun _ => rfl⟩ ok)
  · rw [if_neg (by simp [hbk])] at k
    refine ldR w.new rfl ?_
    rw [add_lit, add_lit]
    refine ldR w.new rfl (ldR w.new rfl ?_)
    refine callV_fn (refRight_call (c := e.c) fun h47 o47 => ?_)
    simp only [asBool_bool]
    have ok := o2.trans (o47.mono o2.1)
    refine ifB_mk (fun hf => k 1 _ ⟨fun h => by omega, fun h => ?_⟩ ok) (fun hf => ?_)
    · revert hf h; cases rightC e.c <;> simp
    have hr : rightC e.c = true := by revert hf; cases rightC e.c <;> simp
    rw [hr, Bool.true_and] at k
    cases hop : opnN es i e.th with
    | none =>
      rw [hop] at k
      exact ifB_dec (fun hx => absurd hx (show ¬ opI none ≥ 0 by decide)) (fun _ => k 0 _ ⟨fun _ => rfl, fun _ => rfl⟩ ok)
    | some q =>
      rw [hop] at k
      exact ifB_dec (fun _ => k 5 _ ⟨fun h => by omega, fun h => by cases h⟩ ok) (fun hx => absurd (show ((q : Nat) : Int) ≥ 0 by omega) hx)

theorem refRightH_call {K : Value → Heap → Prop} {h : Heap} {a : Option Addr} {l c : Nat} {es : List Ev8} (H : SV h a l c es) (hl : l < 2 ^ 60) (k1 : RightH es → ∀ h', Old h.size h h' → K (.bool true) h') (k0 : ¬ RightH es → ∀ h', Old h.size h h' → K (.bool false) h') :
    CallH Try.prog 26 #[.slice a l c] h K := by
  refine call26 ?_
  unfold F26
  have hlen := H.len
  refine ⟨fun vs h' => ∃ w, ∃ i : Nat, vs = [w, iv i] ∧ i ≤ l ∧ Old h.size h h' ∧ ∀ q (hq : q < es.length), q < i → okE es q es[q] = true, fun vs _ => (match vs with | [_, .int _ n] => l - n.toNat | _ => 0), ⟨_, 0, rfl, Nat.zero_le _, Old.refl _ _, fun q _ h => by omega⟩, ?_⟩
  rintro v2 v3 g4 h5 ⟨w0, i, e, hi, o5, hall⟩
  cases e
  simp only [asInt_int]
  refine ifB_dec (fun hlt => ?_) (fun hge => k1 (fun q hq => hall q hq (by omega)) _ o5)
  have hi' : i < es.length := by omega
  refine ⟨fun vs h' => vs[3]? = some (.bool (!(okE es i es[i]))) ∧ Old h5.size h5 h', ?_, ?_⟩
  · refine callV_fn (mayE_call (H.old o5) hl hi' fun r h10 hr o10 => ?_)
    simp only [asInt_int]
    obtain ⟨ad, rfl, hc⟩ := ((H.old o5).old o10).at hi'
    generalize hev : es[i] = e at *
    refine ifB_mk (fun hne => ⟨?_, o10⟩) (fun hne => ?_)
    · have : mayB es i e = false := by
        cases hm : mayB es i e with
        | false => rfl
        | true => have := hr.2 hm; subst this; simp at hne
      unfold okE; rw [this]; rfl
    have hm : mayB es i e = true := hr.1 (by simpa using hne)
    have hok : okE es i e = (if e.bk then e.c.is0 else e.a.is0) := by unfold okE; rw [hm, Bool.true_and]
    rw [hok]
    refine ⟨by omega, hlt, ?_⟩
    simp only [asPtr_some, Int.toNat_natCast]
    refine ldH_mk (hc 1 _ rfl) ?_
    simp only [asBool_bool]
    refine ifB_mk (fun hbk => ?_) (fun hbk => ?_)
    · rw [if_pos hbk]
      refine ⟨by omega, hlt, ldH_mk (hc 2 _ rfl) (ldH_mk (hc 3 _ rfl) (ldH_mk (hc 4 _ rfl) ?_))⟩
      refine eqvH_c3 (.inl rfl) (c := e.c) ?_
      refine ifB_mk (fun hz => ⟨(by revert hz; cases e.c.is0 <;> intro hz <;> first | rfl | cases hz), o10⟩) (fun hz => ?_)
      refine ⟨by omega, hlt, ldH_mk (hc 1 _ rfl) ?_⟩
      simp only [asBool_bool]
      rw [hbk]
      simp only [Bool.not_true, ifB_false]
      exact ⟨(by revert hz; cases e.c.is0 <;> intro hz <;> first | rfl | cases hz), o10⟩
    · rw [if_neg (by simp [hbk])]
      refine ⟨by omega, hlt, ldH_mk (hc 1 _ rfl) ?_⟩
      simp only [asBool_bool]
      rw [hbk]
      simp only [Bool.not_false, ifB_true]
      refine ⟨by omega, hlt, ldH_mk (hc 5 _ rfl) (ldH_mk (hc 6 _ rfl) (ldH_mk (hc 7 _ rfl) ?_))⟩
      refine eqvH_c3 (.inr rfl) (c := e.a) ?_
      exact ⟨rfl, o10⟩
  rintro v42 v43 v44 v45 g46 h47 ⟨e, o47⟩
  obtain rfl : v45 = .bool (!(okE es i es[i])) := by simpa using e
  simp only [asBool_bool]
  have ok47 := o5.trans (o47.mono o5.1)
  refine ifB_mk (fun hb => k0 (fun hr => ?_) _ ok47) (fun hb => ?_)
  · rw [hr i hi'] at hb; cases hb
  · rw [nat_wrap1 (by omega)]
    refine ⟨⟨_, i + 1, rfl, by omega, ok47, fun q hq hqi => ?_⟩, ?_⟩
    · by_cases e : q < i
      · exact hall q hq e
      · obtain rfl : q = i := by omega
        revert hb; cases okE es q es[q] <;> simp
    · show l - ((i + 1 : Nat) : Int).toNat < l - (i : Int).toNat
      omega
end Go.Proofs.Ytlncjcbofgjcfaa
end
section
/- The history that is noted event by event. -/
set_option linter.unusedSimpArgs false
set_option linter.unusedVariables false
set_option maxRecDepth 20000
namespace Go.Proofs.Ytlncjcbofgjcfaa

/-- append one thing to a row of one's own. -/
theorem app_row1 {P : Program} {t elem : TypeId} {z : Value} (hu : und P t = .slice elem) (hth : there P elem = true) (hz : zer P elem = some z) (hzs : z.cells.size = siz P elem) (hb0 : 0 < byt P elem)
    {h : Heap} {a : Option Addr} {l c : Nat} {xs ys : List Value} {K : Value → Heap → Prop} (hys : ys.length = siz P elem) (hone : ∀ y ∈ ys, oneC y True) (ho : Own h elem (siz P elem) a l c xs) (hb : (2 * (l + 1) + 512) * byt P elem ≤ 2 ^ 48)
    (H : ∀ a' c' h', Own h' elem (siz P elem) a' (l + 1) c' (xs ++ ys) → h.size < h'.size → (∀ b, b < h.size → (∀ ad, a = some ad → ad.block ≠ b) → h'[b]? = h[b]?) → (∀ ad, a' = some ad → a = some ad ∨ h.size ≤ ad.block) → K (.slice a' (l + 1) c') h') :
    appH P #[t, t] t #[.slice a l c, .slice (some ⟨h.size, 0, none⟩) 1 1] (h.push (.cells ys.toArray elem)) K := by
  have ho' : Own (h.push (.cells ys.toArray elem)) elem (siz P elem) a l c xs := Own.keep ho fun ad e => push_old _ _ _ (ho.lt ad e)
  refine appH_own (P := P) (t := t) (elem := elem) (z := z) (K := K) (a := a) (a2 := some ⟨h.size, 0, none⟩) (l := l) (c := c) (n2 := 1) (xs := xs) (ys := ys) (n := 1) hu hth hz hzs ho' ?_ (by omega) hone hb0 hb ?_
  · intro i v hi
    refine ⟨_, rfl, ?_⟩
    rw [add_lit, cellAt_of (push_new _ _), List.getElem?_toArray, Nat.zero_add]
    exact hi
  · intro a' c' h' h1 h2 h3 h4
    refine H a' c' h' h1 (by simp at h2; omega) (fun b hb hne => ?_) (fun ad e => ?_)
    · rw [h3 b (by simp; omega) hne]; exact push_old _ _ _ hb
    · rcases h4 with h4 | h4
      · exact .inl (h4 ▸ e)
      · rw [h4] at e; cases e; exact .inr (by simp)

theorem und_evs : und Try.prog 54 = .slice 71 := by kernel_rfl
theorem there_ev : there Try.prog 71 = true := by kernel_rfl
theorem zer_ev : zer Try.prog 71 = some (.agg zs8.toArray) := by kernel_rfl
theorem siz_ev : siz Try.prog 71 = 8 := by kernel_rfl
theorem byt_ev : byt Try.prog 71 = 48 := by kernel_rfl
theorem und_mc : und Try.prog 127 = .map 3 40 := by kernel_rfl
theorem und_int : und Try.prog 3 = .int .i64 := by kernel_rfl
theorem zer_call : zer Try.prog 40 = some (.agg zeroC.cells.toArray) := by kernel_rfl

theorem MapF.of {h : Heap} {m : Nat} {f g : Int → Option Value} (H : MapF h m f) (e : ∀ t, f t = g t) : MapF h m g := by
  obtain ⟨es, c, kvs, h1, h2, h3⟩ := H
  exact ⟨es, c, kvs, h1, h2, fun k => (h3 k).trans (e k)⟩
theorem Own.ne_map {h : Heap} {elem : TypeId} {sz n c m : Nat} {a : Option Addr} {xs : List Value} {f : Int → Option Value} (H : Own h elem sz a n c xs) (M : MapF h m f) : ∀ ad, a = some ad → ad.block ≠ m := by
  intro ad e e2
  rcases H.2.2 with ⟨e3, _⟩ | ⟨b, row, e3, hb', _⟩
  · rw [e] at e3; cases e3
  · rw [e] at e3; cases e3
    obtain ⟨es, cc, kvs, q1, _⟩ := M
    simp only at e2
    rw [e2, q1] at hb'; cases hb'
abbrev cV (c : C3) : Value := .agg c.cells.toArray
/-- A history at p: which calls are open; how many events. -/
def HistF (h : Heap) (p : Nat) (f : Int → Option C3) (n : Nat) : Prop :=
  ∃ a c xs mo, h[p]? = some (.cells #[.slice a n c, .map mo] 129) ∧ Own h 71 8 a n c xs ∧ (∀ ad, a = some ad → p < ad.block) ∧ ((mo = none ∧ ∀ t, f t = none) ∨ ∃ m, mo = some m ∧ p < m ∧ MapF h m fun t => (f t).map cV)
theorem HistF.keep {h h' : Heap} {p n : Nat} {f : Int → Option C3} (H : HistF h p f n) (o : ∀ b, p ≤ b → b < h.size → h'[b]? = h[b]?) : HistF h' p f n := by
  obtain ⟨a, c, xs, mo, h1, h2, h3, h4⟩ := H
  refine ⟨a, c, xs, mo, (o p (Nat.le_refl _) (Array.getElem?_eq_some_iff.1 h1).1).trans h1, h2.keep fun ad e => o _ (Nat.le_of_lt (h3 ad e)) (h2.lt ad e), h3, ?_⟩
  rcases h4 with h4 | ⟨m, e, hm, hf⟩
  · exact .inl h4
  · exact .inr ⟨m, e, hm, hf.keep (o m (Nat.le_of_lt hm) hf.lt)⟩
theorem HistF.old {h h' : Heap} {p n : Nat} {f : Int → Option C3} (H : HistF h p f n) (o : Old h.size h h') : HistF h' p f n := H.keep fun b _ hb => o.2 b hb

theorem there_call {K : Value → Heap → Prop} {h : Heap} {t : Int} (k : K (.bool (decide (0 ≤ t) && decide (t ≤ 5))) h) : CallH Try.prog 113 #[iv t] h K := by
  refine call113 ?_
  unfold F113
  refine ifB_dec (fun h1 => ?_) (fun h1 => ?_)
  · rw [decide_eq_true (by omega : 0 ≤ t), Bool.true_and] at k
    have : decide (t < 6) = decide (t ≤ 5) := by rw [decide_eq_decide]; omega
    rw [this]; exact k
  · rw [decide_eq_false (by omega : ¬ 0 ≤ t)] at k
    exact k
theorem getD_map (o : Option C3) : (o.map cV).getD (cV zeroC) = cV (o.getD zeroC) := by cases o <;> rfl
theorem busy_call {K : Value → Heap → Prop} {h : Heap} {p n : Nat} {f : Int → Option C3} {t : Int} (H : HistF h p f n) (k : ∀ h', Old h.size h h' → K (.bool (f t).isSome) h') : CallH Try.prog 114 #[.pointer (some ⟨p, 0, none⟩), iv t] h K := by
  refine call114 ?_
  unfold F114
  obtain ⟨a, c, xs, mo, h1, h2, h3, h4⟩ := H
  simp only [Option.isNone_some, ifB_false, nilC, asPtr_some]
  rw [add_lit]
  refine ldR h1 rfl ?_
  simp only [asMap]
  have look : ∀ {K : Value → Heap → Prop}, K (.tuple #[cV ((f t).getD zeroC), .bool (f t).isSome]) h → lookH Try.prog 127 (.map mo) (iv t) true h K := by
    intro K kk
    rcases h4 with ⟨rfl, hf⟩ | ⟨m, rfl, hm, hf⟩
    · rw [hf] at kk
      exact look_nil und_mc und_int zer_call kk
    · refine look_mk und_mc und_int zer_call hf ?_
      simp only [if_true]
      rw [getD_map, Option.isSome_map]
      exact kk
  refine look ?_
  simp only [asTup]
  refine elemH_mk rfl ?_
  simp only [asAgg_agg]
  refine sizeH_mk rfl (elemH_mk rfl (elemH_mk rfl (elemH_mk rfl ?_)))
  refine elemH_mk rfl ?_
  simp only [asBool_bool]
  have p1 := pushed h zeroC.cells.toArray 40
  rw [show h.push (.cells #[.int .i64 0, .int .u32 0, .int .u32 0] 40) = h.push (.cells zeroC.cells.toArray 40) from rfl]
  generalize h.push (.cells zeroC.cells.toArray 40) = h5 at *
  refine st3 (stN_full (vs := ((f t).getD zeroC).cells) p1.new rfl (by intro y hy; simp only [List.mem_cons, List.not_mem_nil, or_false] at hy; rcases hy with rfl | rfl | rfl <;> exact trivial) fun h6 w => ?_)
  exact k _ (w.toOld p1.toOld (Nat.le_refl _))

/-- Nothing below p changes. -/
def Low (p : Nat) (h h' : Heap) : Prop := h.size ≤ h'.size ∧ ∀ b, b < p → h'[b]? = h[b]?
theorem Low.of {p : Nat} {h h' : Heap} (o : Old h.size h h') (hp : p ≤ h.size) : Low p h h' := ⟨o.1, fun b hb => o.2 b (by omega)⟩
theorem Low.trans {p : Nat} {h h' h'' : Heap} (o : Low p h h') (o2 : Low p h' h'') : Low p h h'' := ⟨Nat.le_trans o.1 o2.1, fun b hb => (o2.2 b hb).trans (o.2 b hb)⟩

theorem respond_call {K : Value → Heap → Prop} {h : Heap} {p n : Nat} {f : Int → Option C3} {t : Int} {a3 : C3} (H : HistF h p f n) (hn : n ≤ 1000)
    (k : ∀ r h', (r = 0 ↔ ((decide (0 ≤ t) && decide (t ≤ 5)) && (match f t with | some c => fitsB c a3 | none => false)) = true) → (r = 0 → HistF h' p (fun t' => if t' = t then none else f t') (n + 1)) → Low p h h' → K (iv r) h') :
    CallH Try.prog 94 #[.pointer (some ⟨p, 0, none⟩), iv t, .agg a3.cells.toArray] h K := by
  refine call94 ?_
  unfold F94
  simp only [Option.isNone_some, ifB_false, nilC, asPtr_some]
  have p1 := pushed h a3.cells.toArray 42
  rw [show h.push (.cells #[.int .i64 a3.o, .int .u32 a3.k, .int .u32 a3.v] 42) = h.push (.cells a3.cells.toArray 42) from rfl]
  generalize h.push (.cells a3.cells.toArray 42) = h1 at *
  have o1 := p1.toOld
  have s1 := p1.size
  have hp : p < h.size := by obtain ⟨_, _, _, _, h1', _⟩ := H; exact (Array.getElem?_eq_some_iff.1 h1').1
  have H1 := H.old o1
  refine callV_fn (there_call ?_)
  simp only [asBool_bool]
  refine ifB_mk (fun hb => k 2 _ ⟨fun h => by omega, fun h => ?_⟩ (fun h => by omega) (Low.of o1 (by omega))) (fun hb => ?_)
  · revert hb h; cases (decide (0 ≤ t) && decide (t ≤ 5)) <;> simp
  have hr : (decide (0 ≤ t) && decide (t ≤ 5)) = true := by revert hb; cases (decide (0 ≤ t) && decide (t ≤ 5)) <;> simp
  simp only [hr, Bool.true_and] at k
  refine callV_fn (busy_call H1 fun h4 o4 => ?_)
  simp only [asBool_bool]
  have ok4 := o1.trans (o4.mono o1.1)
  cases hft : f t with
  | none =>
    simp only [hft] at k
    simp only [Option.isSome_none, Bool.not_false, ifB_true]
    exact k 4 _ ⟨fun h => by omega, fun h => by cases h⟩ (fun h => by omega) (Low.of ok4 (by omega))
  | some c0 =>
    simp only [hft] at k
    simp only [Option.isSome_some, Bool.not_true, ifB_false]
    have H4 := H1.old o4
    have loc4 : h4[h.size]? = some (.cells a3.cells.toArray 42) := (o4.2 _ (by omega)).trans p1.new
    obtain ⟨a, c, xs, mo, e1, own1, ha1, hmo⟩ := H4
    rcases hmo with ⟨_, hnone⟩ | ⟨m, rfl, hm, mf⟩
    · rw [hnone] at hft; cases hft
    rw [add_lit]
    refine ldR e1 rfl ?_
    simp only [asMap]
    refine ldR loc4 rfl (ldR loc4 rfl (ldR loc4 rfl ?_))
    refine look_mk und_mc und_int zer_call mf ?_
    simp only [hft, Option.map_some, Option.getD_some, Bool.false_eq_true, if_false, asAgg_agg]
    refine sizeH_mk rfl (elemH_mk rfl (elemH_mk rfl (elemH_mk rfl ?_)))
    refine ⟨cellR loc4 rfl, cellR loc4 rfl, cellR loc4 rfl, ?_⟩
    refine callV_fn (fits_call (c := c0) (a := a3) fun h19 o19 => ?_)
    simp only [asBool_bool]
    have ok19 := ok4.trans (o19.mono ok4.1)
    refine ifB_mk (fun hf => k 1 _ ⟨fun h => by omega, fun h => by rw [h] at hf; cases hf⟩ (fun h => by omega) (Low.of ok19 (by omega))) (fun hf => ?_)
    have hfit : fitsB c0 a3 = true := by revert hf; cases fitsB c0 a3 <;> simp
    have hs4 : h.size < h4.size := (Array.getElem?_eq_some_iff.1 loc4).1
    have hp4 : p < h4.size := (Array.getElem?_eq_some_iff.1 e1).1
    have e19 : h19[p]? = some (.cells #[.slice a n c, .map (some m)] 129) := (o19.2 _ hp4).trans e1
    have loc19 : h19[h.size]? = some (.cells a3.cells.toArray 42) := (o19.2 _ hs4).trans loc4
    have own19 : Own h19 71 8 a n c xs := own1.keep fun ad e => o19.2 _ (own1.lt ad e)
    have mf19 := mf.keep (o19.2 _ mf.lt)
    have hrow : ∀ ad, a = some ad → ad.block ≠ m := by
      intro ad e e2
      rcases own19.2.2 with ⟨e3, _⟩ | ⟨b, row, e3, hb', _⟩
      · rw [e] at e3; cases e3
      · rw [e] at e3; cases e3
        obtain ⟨es, cc, kvs, q1, _⟩ := mf19
        simp only at e2
        rw [e2, q1] at hb'; cases hb'
    refine ldR e19 rfl ?_
    simp only [asMap]
    have hml : h.size ≠ m := by
      intro e
      obtain ⟨es, cc, kvs, q1, _⟩ := mf19
      rw [← e, loc19] at q1; cases q1
    refine del_mk und_mc und_int mf19 fun h25 mf25 s25 old25 => ?_
    have e25 : h25[p]? = some (.cells #[.slice a n c, .map (some m)] 129) := (old25 _ (by omega)).trans e19
    have loc25 : h25[h.size]? = some (.cells a3.cells.toArray 42) := (old25 _ hml).trans loc19
    have own25 : Own h25 71 8 a n c xs := own19.keep fun ad e => old25 _ (hrow ad e)
    refine ldR e25 rfl ?_
    simp only [asSlice_slice]
    refine ldR loc25 rfl (ldR loc25 rfl (ldR loc25 rfl ?_))
    have hp25 : p < h25.size := (Array.getElem?_eq_some_iff.1 e25).1
    refine ⟨cellR ((push_old _ _ _ hp25).trans e25) rfl, ?_⟩
    refine app_row1 (ys := (⟨t, true, zeroC, a3⟩ : Ev8).cells) (xs := xs) und_evs there_ev zer_ev (by rw [siz_ev]; rfl) (by rw [byt_ev]; omega) (by rw [siz_ev]; rfl) (cells8_one _) (by rw [siz_ev]; exact own25) (by rw [byt_ev]; omega) ?_
    intro a' c' h35 own35 s35 old35 hor
    rw [siz_ev] at own35
    simp only [asSlice_slice]
    have e35 : h35[p]? = some (.cells #[.slice a n c, .map (some m)] 129) := (old35 p hp25 (fun ad e => by have := ha1 ad e; omega)).trans e25
    refine stR e35 rfl trivial fun h40 w40 => ?_
    have hge : ∀ ad, a' = some ad → p < ad.block := by
      intro ad e
      rcases hor ad e with h | h
      · exact ha1 ad h
      · omega
    have mf35 := mf25.keep (old35 m mf25.lt hrow)
    refine k 0 h40 ⟨fun _ => hfit, fun _ => rfl⟩ (fun _ => ⟨a', c', _, some m, w40.new, own35.keep fun ad e => w40.old _ (by have := hge ad e; show ad.block ≠ p; omega), hge, .inr ⟨m, rfl, hm, ?_⟩⟩) ⟨?_, fun b hb => ?_⟩
    · have := mf35.keep (w40.old m (by show m ≠ p; omega))
      refine this.of fun t' => ?_
      by_cases e : t' = t <;> simp [e]
    · rw [w40.size]; have := ok19.1; omega
    · exact (w40.old b (by show b ≠ p; omega)).trans ((old35 b (by omega) (fun ad e => by have := ha1 ad e; omega)).trans ((old25 b (by omega)).trans (ok19.2 b (by omega))))

theorem invoke_call {K : Value → Heap → Prop} {h : Heap} {p n : Nat} {f : Int → Option C3} {t : Int} {c3 : C3} (H : HistF h p f n) (hn : n ≤ 1000)
    (k : ∀ r h', (r = 0 ↔ ((decide (0 ≤ t) && decide (t ≤ 5)) && (rightC c3 && (f t).isNone)) = true) → (r = 0 → HistF h' p (fun t' => if t' = t then some c3 else f t') (n + 1)) → Low p h h' → K (iv r) h') :
    CallH Try.prog 95 #[.pointer (some ⟨p, 0, none⟩), iv t, .agg c3.cells.toArray] h K := by
  refine call95 ?_
  unfold F95
  simp only [Option.isNone_some, ifB_false, nilC, asPtr_some]
  have p1 := pushed h c3.cells.toArray 40
  rw [show h.push (.cells #[.int .i64 c3.o, .int .u32 c3.k, .int .u32 c3.v] 40) = h.push (.cells c3.cells.toArray 40) from rfl]
  generalize h.push (.cells c3.cells.toArray 40) = h1 at *
  have o1 := p1.toOld
  have s1 := p1.size
  have hp : p < h.size := by obtain ⟨_, _, _, _, h1', _⟩ := H; exact (Array.getElem?_eq_some_iff.1 h1').1
  have H1 := H.old o1
  refine callV_fn (there_call ?_)
  simp only [asBool_bool]
  refine ifB_mk (fun hb => k 2 _ ⟨fun h => by omega, fun h => ?_⟩ (fun h => by omega) (Low.of o1 (by omega))) (fun hb => ?_)
  · revert hb h; cases (decide (0 ≤ t) && decide (t ≤ 5)) <;> simp
  have hr : (decide (0 ≤ t) && decide (t ≤ 5)) = true := by revert hb; cases (decide (0 ≤ t) && decide (t ≤ 5)) <;> simp
  simp only [hr, Bool.true_and] at k
  refine ldR p1.new rfl (ldR p1.new rfl (ldR p1.new rfl ?_))
  refine callV_fn (callRight_call (c := c3) fun h7 o7 => ?_)
  simp only [asBool_bool]
  have ok7 := o1.trans (o7.mono o1.1)
  refine ifB_mk (fun hb => k 1 _ ⟨fun h => by omega, fun h => ?_⟩ (fun h => by omega) (Low.of ok7 (by omega))) (fun hb => ?_)
  · revert hb h; cases rightC c3 <;> simp
  have hrc : rightC c3 = true := by revert hb; cases rightC c3 <;> simp
  simp only [hrc, Bool.true_and] at k
  refine callV_fn (busy_call (H1.old o7) fun h10 o10 => ?_)
  simp only [asBool_bool]
  have ok10 := ok7.trans (o10.mono ok7.1)
  cases hft : f t with
  | some c0 =>
    simp only [hft] at k
    simp only [Option.isSome_some, ifB_true]
    exact k 5 _ ⟨fun h => by omega, fun h => by cases h⟩ (fun h => by omega) (Low.of ok10 (by omega))
  | none =>
    simp only [hft] at k
    simp only [Option.isSome_none, ifB_false]
    have H10 := (H1.old o7).old o10
    have loc10 : h10[h.size]? = some (.cells c3.cells.toArray 40) := (o10.2 _ (by have := o7.1; omega)).trans ((o7.2 _ (by omega)).trans p1.new)
    have hs10 : h.size < h10.size := (Array.getElem?_eq_some_iff.1 loc10).1
    obtain ⟨a, c, xs, mo, e10, own10, ha10, hmo⟩ := H10
    have hp10 : p < h10.size := (Array.getElem?_eq_some_iff.1 e10).1
    refine ⟨fun vs h' => ∃ m, h'[p]? = some (.cells #[.slice a n c, .map (some m)] 129) ∧ Own h' 71 8 a n c xs ∧ p < m ∧ MapF h' m (fun t => (f t).map cV) ∧ h'[h.size]? = some (.cells c3.cells.toArray 40) ∧ Low p h10 h', ?_, ?_⟩
    · rw [add_lit]
      refine ldR e10 rfl ?_
      simp only [asMap]
      rcases hmo with ⟨rfl, hnone⟩ | ⟨m, rfl, hm, mf⟩
      · simp only [Option.isNone_none, ifB_true]
        have mfn := MapF.new h10
        have hold : ∀ b, b < h10.size → (h10.push (.map #[] 0))[b]? = h10[b]? := fun b hb => push_old _ _ _ hb
        have hsz : (h10.push (.map #[] 0)).size = h10.size + 1 := by simp
        generalize h10.push (.map #[] 0) = h11 at *
        refine stR ((hold p hp10).trans e10) rfl trivial fun h17 w17 => ?_
        refine ⟨h10.size, w17.new, own10.keep fun ad e => (w17.old _ (by have := ha10 ad e; show ad.block ≠ p; omega)).trans (hold _ (own10.lt ad e)), hp10, ?_, (w17.old _ (by show h.size ≠ p; omega)).trans ((hold _ hs10).trans loc10), ⟨by rw [w17.size]; omega, fun b hb => (w17.old b (by show b ≠ p; omega)).trans (hold b (by omega))⟩⟩
        refine (mfn.keep (w17.old _ (by show h10.size ≠ p; omega))).of fun t' => ?_
        rw [hnone t']; rfl
      · simp only [Option.isNone_some, ifB_false]
        exact ⟨m, e10, own10, hm, mf, loc10, Nat.le_refl _, fun _ _ => rfl⟩
    rintro g18 h19 ⟨m, e19, own19, hm, mf19, loc19, low19⟩
    rw [add_lit]
    refine ldR e19 rfl ?_
    simp only [asMap]
    refine ldR loc19 rfl (ldR loc19 rfl (ldR loc19 rfl ?_))
    have hrow := own19.ne_map mf19
    have hml : h.size ≠ m := by
      intro e
      obtain ⟨es, cc, kvs, q1, _⟩ := mf19
      rw [← e, loc19] at q1; cases q1
    refine upd_mk und_mc und_int mf19 fun h26 mf26 s26 old26 => ?_
    have e26 : h26[p]? = some (.cells #[.slice a n c, .map (some m)] 129) := (old26 _ (by omega)).trans e19
    have loc26 : h26[h.size]? = some (.cells c3.cells.toArray 40) := (old26 _ hml).trans loc19
    have own26 : Own h26 71 8 a n c xs := own19.keep fun ad e => old26 _ (hrow ad e)
    refine ldR e26 rfl ?_
    simp only [asSlice_slice]
    refine ldR loc26 rfl (ldR loc26 rfl (ldR loc26 rfl ?_))
    have hp26 : p < h26.size := (Array.getElem?_eq_some_iff.1 e26).1
    refine ⟨cellR ((push_old _ _ _ hp26).trans e26) rfl, ?_⟩
    refine app_row1 (ys := (⟨t, false, c3, zeroC⟩ : Ev8).cells) (xs := xs) und_evs there_ev zer_ev (by rw [siz_ev]; rfl) (by rw [byt_ev]; omega) (by rw [siz_ev]; rfl) (cells8_one _) (by rw [siz_ev]; exact own26) (by rw [byt_ev]; omega) ?_
    intro a' c' h36 own36 s36 old36 hor
    rw [siz_ev] at own36
    simp only [asSlice_slice]
    have e36 : h36[p]? = some (.cells #[.slice a n c, .map (some m)] 129) := (old36 p hp26 (fun ad e => by have := ha10 ad e; omega)).trans e26
    refine stR e36 rfl trivial fun h41 w41 => ?_
    have hge : ∀ ad, a' = some ad → p < ad.block := by
      intro ad e
      rcases hor ad e with h | h
      · exact ha10 ad h
      · omega
    have mf36 := mf26.keep (old36 m mf26.lt hrow)
    refine k 0 h41 ⟨fun _ => rfl, fun _ => rfl⟩ (fun _ => ⟨a', c', _, some m, w41.new, own36.keep fun ad e => w41.old _ (by have := hge ad e; show ad.block ≠ p; omega), hge, .inr ⟨m, rfl, hm, ?_⟩⟩) ⟨?_, fun b hb => ?_⟩
    · have := mf36.keep (w41.old m (by show m ≠ p; omega))
      refine this.of fun t' => ?_
      by_cases e : t' = t <;> simp [e]
    · rw [w41.size]; have := low19.1; omega
    · exact (w41.old b (by show b ≠ p; omega)).trans ((old36 b (by omega) (fun ad e => by have := ha10 ad e; omega)).trans ((old26 b (by omega)).trans ((low19.2 b hb).trans (ok10.2 b (by omega)))))

/-- The calls that are open ahead of a place. -/
def openF (es : List Ev8) (i : Nat) (t : Int) : Option C3 := (opnN es i t).map fun k => (es.getD k ⟨0, false, zeroC, zeroC⟩).c
theorem openF_succ {es : List Ev8} {i : Nat} (hi : i < es.length) (t : Int) : openF es (i + 1) t = if t = (es[i]).th then (if (es[i]).bk then none else some (es[i]).c) else openF es i t := by
  unfold openF
  rw [opnN_succ hi]
  by_cases e : (es[i]).th = t
  · rw [if_pos e, if_pos e.symm]
    split
    · rfl
    · simp [hi]
  · rw [if_neg e, if_neg (fun h => e h.symm)]
theorem okE_eq (es : List Ev8) (i : Nat) (e : Ev8) : okE es i e = ((decide (0 ≤ e.th) && decide (e.th ≤ 5)) && (if e.bk then (match openF es i e.th with | some c => fitsB c e.a | none => false) && e.c.is0 else (rightC e.c && (openF es i e.th).isNone) && e.a.is0)) := by
  unfold okE mayB openF
  cases e.bk <;> cases opnN es i e.th <;> simp [Bool.and_assoc]

theorem again_call {K : Value → Heap → Prop} {h : Heap} {p i : Nat} {es : List Ev8} (hi : i < es.length) (H : HistF h p (openF es i) i) (hn : i ≤ 1000)
    (k : ∀ h', (okE es i es[i] = true → HistF h' p (openF es (i + 1)) (i + 1)) → Low p h h' → K (.bool (okE es i es[i])) h') :
    CallH Try.prog 77 #[.pointer (some ⟨p, 0, none⟩), .agg (es[i]).cells.toArray] h K := by
  refine call77 ?_
  unfold F77
  have hp : p < h.size := by obtain ⟨_, _, _, _, h1', _⟩ := H; exact (Array.getElem?_eq_some_iff.1 h1').1
  have hopen := openF_succ hi
  have hok := okE_eq es i es[i]
  generalize hev : es[i] = e at *
  have p1 := pushed h e.cells.toArray 71
  rw [show h.push (.cells #[.int .i64 e.th, .bool e.bk, .int .i64 e.c.o, .int .u32 e.c.k, .int .u32 e.c.v, .int .i64 e.a.o, .int .u32 e.a.k, .int .u32 e.a.v] 71) = h.push (.cells e.cells.toArray 71) from rfl]
  generalize h.push (.cells e.cells.toArray 71) = h1 at *
  have o1 := p1.toOld
  have H1 := H.old o1
  have low1 : Low p h h1 := Low.of o1 (by omega)
  simp only [add_lit]
  refine ldR p1.new rfl ?_
  simp only [asBool_bool]
  refine ifB_mk (fun hbk => ?_) (fun hbk => ?_)
  · rw [hbk] at hok hopen
    simp only [if_true] at hok hopen
    refine ldR p1.new rfl (ldR p1.new rfl (ldR p1.new rfl ?_))
    refine eqvH_c3 (.inl rfl) (c := e.c) ?_
    refine ifB_mk (fun hz => ?_) (fun hz => ?_)
    · rw [hz, Bool.and_true] at hok
      refine ldR p1.new rfl ?_
      simp only [asInt_int]
      refine ldR p1.new rfl (ldR p1.new rfl (ldR p1.new rfl ?_))
      refine callV_fn (respond_call (a3 := e.a) H1 hn fun r h' hr hH low => ?_)
      simp only [asInt_int]
      rw [← hok] at hr
      have kk := k h' (fun ho => ?_) (low1.trans low)
      · have : (r == 0) = okE es i e := by
          cases hq : okE es i e with
          | true => rw [hr.2 hq]; rfl
          | false =>
            have : r ≠ 0 := fun e0 => by rw [hr.1 e0] at hq; cases hq
            simpa using this
        rw [this]; exact kk
      · have := hH (hr.2 ho)
        rw [show openF es (i + 1) = (fun t' => if t' = e.th then none else openF es i t') from funext hopen]
        exact this
    · have hf : okE es i e = false := by rw [hok, hz, Bool.and_false, Bool.and_false]
      have kk := k h1 (fun ho => by rw [ho] at hf; cases hf) low1
      rw [hf] at kk; exact kk
  · rw [hbk] at hok hopen
    simp only [Bool.false_eq_true, if_false] at hok hopen
    refine ldR p1.new rfl (ldR p1.new rfl (ldR p1.new rfl ?_))
    refine eqvH_c3 (.inr rfl) (c := e.a) ?_
    refine ifB_mk (fun hz => ?_) (fun hz => ?_)
    · rw [hz, Bool.and_true] at hok
      refine ldR p1.new rfl ?_
      simp only [asInt_int]
      refine ldR p1.new rfl (ldR p1.new rfl (ldR p1.new rfl ?_))
      refine callV_fn (invoke_call (c3 := e.c) H1 hn fun r h' hr hH low => ?_)
      simp only [asInt_int]
      rw [← hok] at hr
      have kk := k h' (fun ho => ?_) (low1.trans low)
      · have : (r == 0) = okE es i e := by
          cases hq : okE es i e with
          | true => rw [hr.2 hq]; rfl
          | false =>
            have : r ≠ 0 := fun e0 => by rw [hr.1 e0] at hq; cases hq
            simpa using this
        rw [this]; exact kk
      · have := hH (hr.2 ho)
        rw [show openF es (i + 1) = (fun t' => if t' = e.th then some e.c else openF es i t') from funext hopen]
        exact this
    · have hf : okE es i e = false := by rw [hok, hz, Bool.and_false, Bool.and_false]
      have kk := k h1 (fun ho => by rw [ho] at hf; cases hf) low1
      rw [hf] at kk; exact kk

theorem histRight_call {K : Value → Heap → Prop} {h : Heap} {a : Option Addr} {l c : Nat} {es : List Ev8} (H : SV h a l c es) (hl : l ≤ 500) (k1 : RightH es → ∀ h', Old h.size h h' → K (.bool true) h') (k0 : ¬ RightH es → ∀ h', Old h.size h h' → K (.bool false) h') :
    CallH Try.prog 62 #[.slice a l c] h K := by
  refine call62 ?_
  unfold F62
  have hlen := H.len
  have p := pushed h #[.slice none 0 0, .map none] 129
  generalize h.push (.cells #[.slice none 0 0, .map none] 129) = h1 at *
  have s1 := p.size
  refine ⟨fun vs h' => ∃ w, ∃ i : Nat, vs = [w, iv i] ∧ i ≤ l ∧ Old h.size h h' ∧ h.size < h'.size ∧ HistF h' h.size (openF es i) i ∧ ∀ q (hq : q < es.length), q < i → okE es q es[q] = true, fun vs _ => (match vs with | [_, .int _ n] => l - n.toNat | _ => 0),
    ⟨_, 0, rfl, Nat.zero_le _, p.toOld, by omega, ⟨none, 0, [], none, p.new, Own.nil _ _ _, fun ad e => (by cases e), .inl ⟨rfl, fun t => rfl⟩⟩, fun q _ h => by omega⟩, ?_⟩
  rintro v2 v3 g4 h5 ⟨w0, i, e, hi, o5, hs5, H5, hall⟩
  cases e
  simp only [asInt_int, asI_int]
  refine ifB_dec (fun hlt => ?_) (fun hge => k1 (fun q hq => hall q hq (by omega)) _ o5)
  have hi' : i < es.length := by omega
  obtain ⟨ad, rfl, hc⟩ := (H.old o5).at hi'
  refine ⟨by omega, hlt, ?_⟩
  simp only [asPtr_some, Int.toNat_natCast]
  refine ldH_mk (hc 0 _ rfl) (ldH_mk (hc 1 _ rfl) (ldH_mk (hc 2 _ rfl) (ldH_mk (hc 3 _ rfl) (ldH_mk (hc 4 _ rfl) (ldH_mk (hc 5 _ rfl) (ldH_mk (hc 6 _ rfl) (ldH_mk (hc 7 _ rfl) ?_)))))))
  have p7 := pushed h5 zs8.toArray 71
  rw [show h5.push (.cells #[.int .i64 0, .bool false, .int .i64 0, .int .u32 0, .int .u32 0, .int .i64 0, .int .u32 0, .int .u32 0] 71) = h5.push (.cells zs8.toArray 71) from rfl]
  generalize h5.push (.cells zs8.toArray 71) = h7 at *
  refine st8 (stN_full (vs := (es[i]).cells) p7.new rfl (cells8_one _) fun h24 w24 => ?_)
  have o24 : Old h5.size h5 h24 := w24.toOld p7.toOld (Nat.le_refl _)
  refine ldR w24.new rfl (ldR w24.new rfl (ldR w24.new rfl (ldR w24.new rfl (ldR w24.new rfl (ldR w24.new rfl (ldR w24.new rfl (ldR w24.new rfl ?_)))))))
  refine callV_fn (again_call hi' (H5.old o24) (by omega) fun h34 hH low34 => ?_)
  simp only [asBool_bool]
  have ok34 : Old h.size h h34 := ⟨by have := o5.1; have := o24.1; have := low34.1; omega, fun b hb => (low34.2 b hb).trans ((o24.2 b (by omega)).trans (o5.2 b hb))⟩
  refine ifB_mk (fun hb => k0 (fun hr => ?_) _ ok34) (fun hb => ?_)
  · rw [hr i hi'] at hb; cases hb
  have hok : okE es i es[i] = true := by revert hb; cases okE es i es[i] <;> simp
  rw [nat_wrap1 (by omega)]
  refine ⟨⟨_, i + 1, rfl, by omega, ok34, by have := o24.1; have := low34.1; omega, hH hok, fun q hq hqi => ?_⟩, ?_⟩
  · by_cases e : q < i
    · exact hall q hq e
    · obtain rfl : q = i := by omega
      exact hok
  · show l - ((i + 1 : Nat) : Int).toNat < l - (i : Int).toNat
    omega
end Go.Proofs.Ytlncjcbofgjcfaa
end
section
/- Operations of a history. -/
set_option linter.unusedSimpArgs false
set_option linter.unusedVariables false
set_option maxRecDepth 20000
namespace Go.Proofs.Ytlncjcbofgjcfaa

theorem nodup_inj {α : Type} {L : List α} (hn : L.Nodup) {i j : Nat} (hi : i < L.length) (hj : j < L.length) (e : L[i] = L[j]) : i = j := by
  have hp := List.pairwise_iff_getElem.1 hn
  apply Decidable.byContradiction
  intro hne
  rcases Nat.lt_or_gt_of_ne hne with h | h
  · exact hp i j hi hj h e
  · exact hp j i hj hi h e.symm
def dfE : Ev8 := ⟨0, false, zeroC, zeroC⟩
def thN (es : List Ev8) (k : Nat) : Int := (es.getD k dfE).th
def bkN (es : List Ev8) (k : Nat) : Bool := (es.getD k dfE).bk
/-- The first event of the same thread behind one. -/
def ansN (es : List Ev8) (i q : Nat) : Option Nat := (List.range i).find? fun k => decide (q < k) && thN es k == thN es q
theorem ansN_succ (es : List Ev8) (i q : Nat) : ansN es (i + 1) q = (ansN es i q).or (if q < i ∧ thN es i = thN es q then some i else none) := by
  unfold ansN
  rw [List.range_succ, List.find?_append]
  congr 1
  by_cases h : q < i ∧ thN es i = thN es q
  · rw [if_pos h, List.find?_cons_of_pos (by simp [h.1, h.2])]
  · rw [if_neg h, List.find?_cons_of_neg (by simpa using h)]; rfl
theorem ansN_low {es : List Ev8} {i q : Nat} (h : i ≤ q + 1) : ansN es i q = none := by
  unfold ansN
  rw [List.find?_eq_none]
  intro k hk
  simp at hk ⊢
  intro h2; omega
theorem ansN_some {es : List Ev8} {i q k : Nat} (h : ansN es i q = some k) : q < k ∧ k < i ∧ thN es k = thN es q ∧ ansN es k q = none := by
  induction i with
  | zero => simp [ansN] at h
  | succ i ih =>
    rw [ansN_succ] at h
    cases ha : ansN es i q with
    | some k' =>
      rw [ha] at h
      simp at h; subst h
      obtain ⟨h1, h2, h3, h4⟩ := ih ha
      exact ⟨h1, by omega, h3, h4⟩
    | none =>
      rw [ha] at h
      simp only [Option.none_or] at h
      split at h
      · rename_i hc
        cases h; exact ⟨by omega, by omega, hc.2, ha⟩
      · cases h
theorem ansN_mono {es : List Ev8} {i j q k : Nat} (h : ansN es i q = some k) (hij : i ≤ j) : ansN es j q = some k := by
  induction hij with
  | refl => exact h
  | step _ ih => rw [ansN_succ, ih]; rfl
theorem thN_get {es : List Ev8} {k : Nat} (h : k < es.length) : thN es k = (es[k]).th := by unfold thN; rw [List.getD_eq_getElem?_getD, List.getElem?_eq_getElem h]; rfl
theorem bkN_get {es : List Ev8} {k : Nat} (h : k < es.length) : bkN es k = (es[k]).bk := by unfold bkN; rw [List.getD_eq_getElem?_getD, List.getElem?_eq_getElem h]; rfl
/-- An unanswered call is the open one. -/
theorem opn_of_ans {es : List Ev8} {q : Nat} (hb : bkN es q = false) : ∀ i, i ≤ es.length → q < i → ansN es i q = none → opnN es i (thN es q) = some q := by
  intro i
  induction i with
  | zero => intro _ h; omega
  | succ i ih =>
    intro hi hq ha
    rw [opnN_succ (by omega)]
    by_cases e : q = i
    · subst e
      rw [if_pos (thN_get (by omega)).symm, ← bkN_get (by omega), hb]; rfl
    · rw [ansN_succ] at ha
      have h1 : ansN es i q = none := by cases h : ansN es i q with | none => rfl | some k => rw [h] at ha; cases ha
      rw [h1, Option.none_or] at ha
      have h2 : ¬ thN es i = thN es q := fun e2 => by rw [if_pos ⟨by omega, e2⟩] at ha; cases ha
      rw [if_neg (by rw [← thN_get (by omega)]; exact h2)]
      exact ih (by omega) (by omega) h1
theorem ans_of_opn {es : List Ev8} {t : Int} {q : Nat} : ∀ i, i ≤ es.length → opnN es i t = some q → ansN es i q = none := by
  intro i
  induction i with
  | zero => intro _ h; cases h
  | succ i ih =>
    intro hi h
    obtain ⟨_, hq, hth, _⟩ := opnN_lt h
    rw [opnN_succ (by omega)] at h
    split at h
    · split at h
      · cases h
      · cases h; exact ansN_low (Nat.le_refl _)
    · rename_i hne
      rw [ansN_succ, ih (by omega) h, Option.none_or, if_neg]
      rintro ⟨_, e⟩
      rw [thN_get (by omega), thN_get hq, hth] at e
      exact hne e

/-- A call's operation, as far as events are known. -/
def opEv (es : List Ev8) (i q : Nat) : Op9 :=
  let e := es.getD q dfE
  match ansN es i q with
  | some k => let x := es.getD k dfE; ⟨e.th, e.c.o, e.c.k, e.c.v, x.a.o, x.a.k, x.a.v, q, k⟩
  | none => ⟨e.th, e.c.o, e.c.k, e.c.v, 0, 0, 0, q, -1⟩
theorem opEv_congr {es : List Ev8} {i j q : Nat} (h : ansN es i q = ansN es j q) : opEv es i q = opEv es j q := by unfold opEv; rw [h]
/-- The places where calls begin. -/
def inv (es : List Ev8) (i : Nat) : List Nat := (List.range i).filter fun q => !bkN es q
theorem inv_succ (es : List Ev8) (i : Nat) : inv es (i + 1) = inv es i ++ (if bkN es i then [] else [i]) := by
  unfold inv
  rw [List.range_succ, List.filter_append]
  congr 1
  cases h : bkN es i <;> simp [h]
theorem inv_lt {es : List Ev8} {i q : Nat} (h : q ∈ inv es i) : q < i ∧ bkN es q = false := by
  unfold inv at h
  rw [List.mem_filter] at h
  exact ⟨List.mem_range.1 h.1, by simpa using h.2⟩
theorem inv_len_le (es : List Ev8) (i : Nat) : (inv es i).length ≤ i := by
  unfold inv
  have := List.length_filter_le (fun q => !bkN es q) (List.range i)
  simpa using this
theorem inv_nodup (es : List Ev8) (i : Nat) : (inv es i).Nodup := by
  unfold inv
  exact List.Nodup.sublist List.filter_sublist List.nodup_range
theorem inv_at {es : List Ev8} {q : Nat} (hb : bkN es q = false) : ∀ i, q < i → (inv es i)[(inv es q).length]? = some q := by
  intro i
  induction i with
  | zero => intro h; omega
  | succ i ih =>
    intro h
    rw [inv_succ]
    by_cases e : q = i
    · subst e
      rw [hb]
      simp
    · have := ih (by omega)
      have hlt := (List.getElem?_eq_some_iff.1 this).1
      rw [List.getElem?_append_left hlt]
      exact this
def opsAt (es : List Ev8) (i : Nat) : List Op9 := (inv es i).map (opEv es i)
def opsE (es : List Ev8) : List Op9 := opsAt es es.length

theorem ops_inv {es : List Ev8} {i : Nat} (hi : i < es.length) (hb : bkN es i = false) (hop : opnN es i (thN es i) = none) : opsAt es (i + 1) = opsAt es i ++ [⟨(es[i]).th, (es[i]).c.o, (es[i]).c.k, (es[i]).c.v, 0, 0, 0, i, -1⟩] := by
  unfold opsAt
  rw [inv_succ, hb]
  simp only [Bool.false_eq_true, if_false, List.map_append, List.map_cons, List.map_nil]
  congr 1
  · apply List.map_congr_left
    intro q hq
    obtain ⟨h1, h2⟩ := inv_lt hq
    refine opEv_congr ?_
    rw [ansN_succ]
    cases ha : ansN es i q with
    | some k => rfl
    | none =>
      rw [Option.none_or, if_neg]
      rintro ⟨_, e⟩
      have := opn_of_ans h2 i (by omega) h1 ha
      rw [← e, hop] at this; cases this
  · unfold opEv
    rw [ansN_low (Nat.le_refl _)]
    simp only [List.getD_eq_getElem?_getD, List.getElem?_eq_getElem hi, Option.getD_some]
theorem ops_ans {es : List Ev8} {i q : Nat} (hi : i < es.length) (hb : bkN es i = true) (hop : opnN es i (thN es i) = some q) :
    opsAt es (i + 1) = (opsAt es i).set (inv es q).length ⟨(es.getD q dfE).th, (es.getD q dfE).c.o, (es.getD q dfE).c.k, (es.getD q dfE).c.v, (es[i]).a.o, (es[i]).a.k, (es[i]).a.v, q, i⟩ := by
  obtain ⟨hqi, hq, hth, hbk⟩ := opnN_lt hop
  have hbq : bkN es q = false := by rw [bkN_get hq]; exact hbk
  have hans := ans_of_opn i (by omega) hop
  have hthq : thN es i = thN es q := by rw [thN_get hq]; exact hth.symm
  unfold opsAt
  rw [inv_succ, hb]
  simp only [if_true, List.append_nil]
  apply List.ext_getElem?
  intro j
  rw [List.getElem?_map, List.getElem?_set, List.getElem?_map]
  have hat := inv_at hbq i hqi
  by_cases e : (inv es q).length = j
  · subst e
    rw [if_pos rfl, hat, if_pos (by rw [List.length_map]; exact (List.getElem?_eq_some_iff.1 hat).1)]
    simp only [Option.map_some, Option.some.injEq]
    unfold opEv
    rw [ansN_succ, hans, Option.none_or, if_pos ⟨hqi, hthq⟩]
    simp only [List.getD_eq_getElem?_getD, List.getElem?_eq_getElem hi, Option.getD_some]
  · rw [if_neg e]
    cases hj : (inv es i)[j]? with
    | none => rfl
    | some q' =>
      simp only [Option.map_some, Option.some.injEq]
      obtain ⟨h1, h2⟩ := inv_lt (List.mem_of_getElem? hj)
      refine opEv_congr ?_
      rw [ansN_succ]
      cases ha : ansN es i q' with
      | some k => rfl
      | none =>
        rw [Option.none_or, if_neg]
        rintro ⟨_, e2⟩
        have := opn_of_ans h2 i (by omega) h1 ha
        rw [← e2, hop] at this
        cases this
        have hlt := (List.getElem?_eq_some_iff.1 hj).1
        have hlt2 := (List.getElem?_eq_some_iff.1 hat).1
        have e3 : (inv es i)[j] = (inv es i)[(inv es q).length] := by
          rw [(List.getElem?_eq_some_iff.1 hj).2, (List.getElem?_eq_some_iff.1 hat).2]
        exact e (nodup_inj (inv_nodup es i) hlt hlt2 e3).symm

/-! ### rows of operations -/
theorem flat9_len (ops : List Op9) : (ops.flatMap Op9.cells).length = ops.length * 9 := by
  induction ops with
  | nil => rfl
  | cons e ops ih =>
    have h9 : e.cells.length = 9 := rfl
    rw [List.flatMap_cons, List.length_append, ih, h9, List.length_cons]; omega
theorem flat9_get {ops : List Op9} (p : Nat) : (ops.flatMap Op9.cells)[p]? = (ops[p / 9]?).bind fun o => o.cells[p % 9]? := by
  by_cases h : p / 9 < ops.length
  · rw [List.getElem?_eq_getElem h]
    have hj : p % 9 < (ops[p / 9]).cells.length := by show p % 9 < 9; omega
    have := flat9 h (List.getElem?_eq_getElem hj)
    rw [show p / 9 * 9 + p % 9 = p by omega] at this
    rw [this]
    simp only [Option.bind_some]
    rw [List.getElem?_eq_getElem hj]
  · rw [List.getElem?_eq_none (by rw [flat9_len]; omega), List.getElem?_eq_none (by omega)]; rfl
theorem flat9_set {ops : List Op9} {i : Nat} (hi : i < ops.length) (x y z w : Int) :
    (((((ops.flatMap Op9.cells).set (i * 9 + 4) (.int .i64 x)).set (i * 9 + 5) (.int .u32 y)).set (i * 9 + 6) (.int .u32 z)).set (i * 9 + 8) (.int .i64 w)) = (ops.set i ⟨(ops[i]).th, (ops[i]).op, (ops[i]).key, (ops[i]).val, x, y, z, (ops[i]).fr, w⟩).flatMap Op9.cells := by
  have hl := flat9_len ops
  apply List.ext_getElem?
  intro p
  rw [flat9_get]
  simp only [List.getElem?_set, List.length_set, hl]
  by_cases e : i = p / 9
  · rw [if_pos e, if_pos hi]
    simp only [Option.bind_some]
    have hp : p = i * 9 + p % 9 := by omega
    have hm : p % 9 < 9 := by omega
    generalize p % 9 = r at *
    subst hp
    match r, hm with
    | 0, _ | 1, _ | 2, _ | 3, _ | 7, _ =>
      rw [if_neg (by omega), if_neg (by omega), if_neg (by omega), if_neg (by omega), flat9_get]
      rw [← e, List.getElem?_eq_getElem hi]
      simp only [Option.bind_some]
      first | (rw [show (i * 9 + 0) % 9 = 0 by omega]; rfl) | (rw [show (i * 9 + 1) % 9 = 1 by omega]; rfl) | (rw [show (i * 9 + 2) % 9 = 2 by omega]; rfl) | (rw [show (i * 9 + 3) % 9 = 3 by omega]; rfl) | (rw [show (i * 9 + 7) % 9 = 7 by omega]; rfl)
    | 4, _ => rw [if_neg (by omega), if_neg (by omega), if_neg (by omega), if_pos rfl, if_pos (by omega)]; rfl
    | 5, _ => rw [if_neg (by omega), if_neg (by omega), if_pos rfl, if_pos (by omega)]; rfl
    | 6, _ => rw [if_neg (by omega), if_pos rfl, if_pos (by omega)]; rfl
    | 8, _ => rw [if_pos rfl, if_pos (by omega)]; rfl
  · rw [if_neg e, if_neg (by omega), if_neg (by omega), if_neg (by omega), if_neg (by omega), flat9_get]
theorem Own.store {h : Heap} {elem : TypeId} {sz : Nat} {ad : Addr} {l c pos : Nat} {xs : List Value} {v : Value} {K : Heap → Prop} (H : Own h elem sz (some ad) l c xs) (hp : pos < xs.length) (ho : oneC v True)
    (k : ∀ h', Own h' elem sz (some ad) l c (xs.set pos v) → h'.size = h.size → (∀ b, b ≠ ad.block → h'[b]? = h[b]?) → K h') : stH h (ad.add pos) v K := by
  obtain ⟨h1, h2, h3⟩ := H
  rcases h3 with ⟨e, _⟩ | ⟨b, row, e, hb, hs, ht⟩
  · cases e
  cases e
  rw [add_lit, Nat.zero_add]
  have hlt := (Array.getElem?_eq_some_iff.1 hb).1
  have hlc : l * sz ≤ c * sz := Nat.mul_le_mul_right _ h2
  refine stH_mk hb (by omega) ho ?_
  rintro h' rfl
  refine k _ ⟨by simp [h1], h2, .inr ⟨b, _, rfl, set_new hlt, by simp [hs], ?_⟩⟩ (by simp) (fun b' hb' => set_old hb')
  rw [Array.toList_setIfInBounds, List.take_set, ht]
end Go.Proofs.Ytlncjcbofgjcfaa
end
section
/- A history's operations: the program's, the document's. -/
set_option linter.unusedSimpArgs false
set_option linter.unusedVariables false
set_option maxRecDepth 20000
namespace Go.Proofs.Ytlncjcbofgjcfaa

theorem und_opers : und Try.prog 59 = .slice 65 := by kernel_rfl
theorem there_oper : there Try.prog 65 = true := by kernel_rfl
theorem siz_oper : siz Try.prog 65 = 9 := by kernel_rfl
theorem byt_oper : byt Try.prog 65 = 56 := by kernel_rfl
theorem und_mii : und Try.prog 108 = .map 3 3 := by kernel_rfl
theorem zer_i64 : zer Try.prog 3 = some (iv 0) := by kernel_rfl
abbrev zs9 : List Value := [.int .i64 0, .int .i64 0, .int .u32 0, .int .u32 0, .int .i64 0, .int .u32 0, .int .u32 0, .int .i64 0, .int .i64 0]
theorem zer_oper : zer Try.prog 65 = some (.agg zs9.toArray) := by kernel_rfl
theorem cells9_one (e : Op9) : ∀ y ∈ e.cells, oneC y True := by
  intro y hy
  simp only [List.mem_cons, List.not_mem_nil, or_false] at hy
  rcases hy with rfl | rfl | rfl | rfl | rfl | rfl | rfl | rfl | rfl <;> exact trivial
theorem st9 {h : Heap} {b : Nat} {v0 v1 v2 v3 v4 v5 v6 v7 v8 : Value} {K : Heap → Prop} (H : stN h ⟨b, 0, none⟩ 0 [v0, v1, v2, v3, v4, v5, v6, v7, v8] K) :
    stH h ⟨b, 0, none⟩ v0 fun h => stH h ⟨b, 1, none⟩ v1 fun h => stH h ⟨b, 2, none⟩ v2 fun h => stH h ⟨b, 3, none⟩ v3 fun h => stH h ⟨b, 4, none⟩ v4 fun h => stH h ⟨b, 5, none⟩ v5 fun h => stH h ⟨b, 6, none⟩ v6 fun h => stH h ⟨b, 7, none⟩ v7 fun h => stH h ⟨b, 8, none⟩ v8 K := H
/-- Operations of one's own. -/
abbrev OwnO (h : Heap) (a : Option Addr) (n c : Nat) (ops : List Op9) : Prop := Own h 65 9 a n c (ops.flatMap Op9.cells)
theorem OwnO.sl {h : Heap} {a : Option Addr} {n c : Nat} {ops : List Op9} (H : OwnO h a n c ops) : SlO h a n c ops := ⟨H.sees, by have := H.1; rw [flat9_len] at this; omega, H.2.1⟩
theorem OwnO.some {h : Heap} {a : Option Addr} {n c : Nat} {ops : List Op9} (H : OwnO h a n c ops) (hn : 0 < n) : ∃ ad, a = some ad := by
  rcases H.2.2 with ⟨_, hc⟩ | ⟨b, row, e, _⟩
  · have := H.2.1; omega
  · exact ⟨_, e⟩
theorem flat9_push (ops : List Op9) (o : Op9) : (ops ++ [o]).flatMap Op9.cells = ops.flatMap Op9.cells ++ o.cells := by simp
theorem opsAt_len (es : List Ev8) (i : Nat) : (opsAt es i).length = (inv es i).length := by unfold opsAt; rw [List.length_map]
theorem opsAt_zero (es : List Ev8) : opsAt es 0 = [] := rfl

theorem opers_call {K : Value → Heap → Prop} {h : Heap} {a : Option Addr} {l c : Nat} {es : List Ev8} (H : SV h a l c es) (hl : l ≤ 500)
    (k1 : RightH es → ∀ a' c' h', SlO h' a' (opsE es).length c' (opsE es) → Old h.size h h' → K (.tuple #[.slice a' (opsE es).length c', iv 0]) h')
    (k0 : ¬ RightH es → ∀ h', Old h.size h h' → K (.tuple #[.slice none 0 0, iv 11]) h') : CallH Try.prog 45 #[.slice a l c] h K := by
  refine call45 ?_
  unfold F45
  have hlen := H.len
  refine callV_fn (histRight_call H hl (fun hR h1 o1 => ?_) (fun hR h1 o1 => ?_))
  rotate_left
  · simp only [asBool_bool, Bool.not_false, ifB_true]
    exact k0 hR h1 o1
  simp only [asBool_bool, Bool.not_true, ifB_false]
  have mf0 := MapF.new h1
  have hold0 : Old h1.size h1 (h1.push (.map #[] 0)) := ⟨by simp, fun b hb => push_old _ _ _ hb⟩
  have hsz0 : (h1.push (.map #[] 0)).size = h1.size + 1 := by simp
  generalize h1.push (.map #[] 0) = h2 at *
  refine ⟨fun vs h' => ∃ o c' w1 w2, ∃ i : Nat, vs = [.slice o (inv es i).length c', w1, w2, iv i] ∧ i ≤ l ∧ Old h1.size h1 h' ∧ h1.size < h'.size ∧ OwnO h' o (inv es i).length c' (opsAt es i) ∧ (∀ ad, o = some ad → h1.size < ad.block) ∧
      ∃ f, MapF h' h1.size f ∧ ∀ t q, opnN es i t = some q → f t = some (iv ((inv es q).length : Nat)),
    fun vs _ => (match vs with | [_, _, _, .int _ n] => l - n.toNat | _ => 0),
    ⟨none, 0, _, _, 0, rfl, Nat.zero_le _, hold0, by omega, Own.nil _ _ _, fun ad e => (by cases e), _, mf0, fun t q e => by cases e⟩, ?_⟩
  rintro v5 v6 v7 v8 g9 h10 ⟨o, c', w1, w2, i, e, hi, o10, hs10, own, hab, f, mf, hf⟩
  cases e
  simp only [asInt_int, asI_int, asSlice_slice]
  refine ifB_dec (fun hlt => ?_) (fun hge => ?_)
  rotate_left
  · obtain rfl : i = es.length := by omega
    have := k1 hR o c' h10
    unfold opsE at this
    rw [opsAt_len] at this
    exact this own.sl (o1.trans (o10.mono o1.1))
  have hi' : i < es.length := by omega
  obtain ⟨ad, rfl, hc⟩ := ((H.old o1).old o10).at hi'
  refine ⟨by omega, hlt, ?_⟩
  simp only [asPtr_some, Int.toNat_natCast]
  refine ldH_mk (hc 0 _ rfl) (ldH_mk (hc 1 _ rfl) (ldH_mk (hc 2 _ rfl) (ldH_mk (hc 3 _ rfl) (ldH_mk (hc 4 _ rfl) (ldH_mk (hc 5 _ rfl) (ldH_mk (hc 6 _ rfl) (ldH_mk (hc 7 _ rfl) ?_)))))))
  have p := pushed h10 zs8.toArray 71
  rw [show h10.push (.cells #[.int .i64 0, .bool false, .int .i64 0, .int .u32 0, .int .u32 0, .int .i64 0, .int .u32 0, .int .u32 0] 71) = h10.push (.cells zs8.toArray 71) from rfl]
  generalize h10.push (.cells zs8.toArray 71) = h11 at *
  have sp := p.size
  refine st8 (stN_full (vs := (es[i]).cells) p.new rfl (cells8_one _) fun h30 w => ?_)
  have o30 : Old h10.size h10 h30 := w.toOld p.toOld (Nat.le_refl _)
  have s30 : h30.size = h10.size + 1 := by rw [w.size]; exact sp
  have own30 : OwnO h30 o (inv es i).length c' (opsAt es i) := own.keep fun ad e => o30.2 _ (own.lt ad e)
  have mf30 := mf.keep (o30.2 _ mf.lt)
  have hok := hR i hi'
  have hth := thN_get hi'
  have hbk := bkN_get hi'
  have hilen := inv_len_le es i
  have hopn := opnN_succ hi'
  have hops1 := ops_inv hi'
  have hops2 := fun q => ops_ans (es := es) (q := q) hi'
  have hisucc := inv_succ es i
  generalize hev : es[i] = e at *
  have hrow : ∀ ad, o = some ad → ad.block ≠ h1.size := fun ad e => by have := hab ad e; omega
  refine ldR w.new rfl ?_
  simp only [asBool_bool]
  refine ifB_mk (fun hb => ?_) (fun hb => ?_)
  · have hb' : e.bk = false := by revert hb; cases e.bk <;> simp
    have hno : opnN es i e.th = none := by
      unfold okE mayB at hok
      rw [hb'] at hok
      simp only [Bool.false_eq_true, if_false, Bool.and_eq_true, Option.isNone_iff_eq_none] at hok
      exact hok.1.2.2
    rw [hb'] at hbk
    simp only [hb'] at hopn
    rw [hbk] at hisucc
    have hops := hops1 hbk (by rw [hth]; exact hno)
    simp only [Bool.false_eq_true, if_false] at hisucc hopn
    refine ldR w.new rfl ?_
    simp only [asInt_int]
    refine upd_mk und_mii und_int mf30 fun h38 mf38 s38 old38 => ?_
    have loc38 : h38[h10.size]? = some (.cells e.cells.toArray 71) := (old38 _ (by omega)).trans w.new
    have own38 : OwnO h38 o (inv es i).length c' (opsAt es i) := own30.keep fun ad e => old38 _ (hrow ad e)
    refine ldR loc38 rfl ?_
    simp only [asInt_int]
    simp only [add_lit]
    refine ldR loc38 rfl (ldR loc38 rfl (ldR loc38 rfl ?_))
    refine app_row1 (ys := (⟨e.th, e.c.o, e.c.k, e.c.v, 0, 0, 0, i, -1⟩ : Op9).cells) (xs := (opsAt es i).flatMap Op9.cells) und_opers there_oper zer_oper (by rw [siz_oper]; rfl) (by rw [byt_oper]; omega) (by rw [siz_oper]; rfl) (cells9_one _) (by rw [siz_oper]; exact own38) (by rw [byt_oper]; omega) ?_
    intro a' c2 h48 own48 s48 old48 hor
    rw [siz_oper] at own48
    simp only [asSlice_slice]
    rw [nat_wrap1 (by omega)]
    have hl1 : (inv es (i + 1)).length = (inv es i).length + 1 := by rw [hisucc]; simp
    have hge : ∀ ad, a' = some ad → h1.size < ad.block := by
      intro ad e
      rcases hor ad e with h | h
      · exact hab ad h
      · omega
    refine ⟨⟨a', c2, _, _, i + 1, by rw [hl1], by omega, ⟨by omega, fun b hb => ?_⟩, by omega, ?_, hge, _, mf38.keep (old48 _ mf38.lt hrow), fun t q ht => ?_⟩, ?_⟩
    · exact (old48 b (by omega) (fun ad e => by have := hab ad e; omega)).trans ((old38 b (by omega)).trans ((o30.2 b (by omega)).trans (o10.2 b hb)))
    · rw [hl1]
      unfold OwnO
      rw [hops, flat9_push]; exact own48
    · rw [hopn] at ht
      by_cases et : e.th = t
      · rw [if_pos et] at ht
        cases ht
        simp only [et, if_pos]
      · rw [if_neg et] at ht
        rw [if_neg (fun h => et h.symm)]
        exact hf t q ht
    · show l - ((i + 1 : Nat) : Int).toNat < l - (i : Int).toNat
      omega
  · have hb' : e.bk = true := by revert hb; cases e.bk <;> simp
    obtain ⟨q, hq⟩ : ∃ q, opnN es i e.th = some q := by
      unfold okE mayB at hok
      rw [hb'] at hok
      cases ho : opnN es i e.th with
      | some q => exact ⟨q, rfl⟩
      | none => rw [ho] at hok; simp at hok
    rw [hb'] at hbk
    simp only [hb'] at hopn
    rw [hbk] at hisucc
    have hops := hops2 q hbk (by rw [hth]; exact hq)
    simp only [if_true, List.append_nil] at hisucc hopn
    obtain ⟨hqi, hql, hqth, hqb⟩ := opnN_lt hq
    have hat := inv_at (es := es) (q := q) (by rw [bkN_get hql]; exact hqb) i hqi
    have hpos := (List.getElem?_eq_some_iff.1 hat).1
    generalize hr : (inv es q).length = r at *
    refine ldR w.new rfl ?_
    simp only [asInt_int]
    refine look_mk und_mii und_int zer_i64 mf30 ?_
    rw [hf e.th q hq, hr]
    simp only [Bool.false_eq_true, if_false, Option.getD_some, asInt_int]
    refine ⟨by omega, by omega, ?_⟩
    obtain ⟨ad, rfl⟩ := own30.some (by omega)
    simp only [asPtr_some, Int.toNat_natCast, add_lit]
    refine ldR w.new rfl (ldR w.new rfl (ldR w.new rfl ?_))
    simp only [nilC]
    have hlen9 := flat9_len (opsAt es i)
    rw [opsAt_len] at hlen9
    simp only [add_add]
    refine Own.store own30 (by omega) trivial fun h65 own65 s65 old65 => ?_
    refine Own.store own65 (by simp only [List.length_set]; omega) trivial fun h66 own66 s66 old66 => ?_
    refine Own.store own66 (by simp only [List.length_set]; omega) trivial fun h67 own67 s67 old67 => ?_
    refine Own.store own67 (by simp only [List.length_set]; omega) trivial fun h68 own68 s68 old68 => ?_
    rw [nat_wrap1 (by omega)]
    have hrl : r < (opsAt es i).length := by rw [opsAt_len]; exact hpos
    rw [flat9_set hrl] at own68
    have hidx : (opsAt es i)[r] = opEv es i q := by
      have : (opsAt es i)[r]? = some (opEv es i q) := by unfold opsAt; rw [List.getElem?_map, hat]; rfl
      exact (List.getElem?_eq_some_iff.1 this).2
    have hans := ans_of_opn i (by omega) hq
    have hset : (opsAt es i).set r ⟨((opsAt es i)[r]).th, ((opsAt es i)[r]).op, ((opsAt es i)[r]).key, ((opsAt es i)[r]).val, e.a.o, e.a.k, e.a.v, ((opsAt es i)[r]).fr, i⟩ = opsAt es (i + 1) := by
      rw [hops, hidx]
      unfold opEv
      rw [hans]
    rw [hset] at own68
    have hbl : ad.block ≠ h10.size := by have := own.lt _ rfl; omega
    have hne := hab ad rfl
    have all : ∀ b, b ≠ ad.block → h68[b]? = h30[b]? := fun b hb => (old68 b hb).trans ((old67 b hb).trans ((old66 b hb).trans (old65 b hb)))
    refine ⟨⟨some ad, c', _, _, i + 1, by rw [hisucc], by omega, ⟨by omega, fun b hb => ?_⟩, by omega, ?_, hab, f, mf30.keep (all _ (by omega)), fun t q' ht => ?_⟩, ?_⟩
    · exact (all b (by omega)).trans ((o30.2 b (by omega)).trans (o10.2 b hb))
    · rw [hisucc]; exact own68
    · rw [hopn] at ht
      by_cases et : e.th = t
      · rw [if_pos et] at ht; cases ht
      · rw [if_neg et] at ht; exact hf t q' ht
    · show l - ((i + 1 : Nat) : Int).toNat < l - (i : Int).toNat
      omega

theorem opEv_low (es : List Ev8) {i : Nat} (hi : i < es.length) : opEv es (i + 1) i = ⟨(es[i]).th, (es[i]).c.o, (es[i]).c.k, (es[i]).c.v, 0, 0, 0, i, -1⟩ := by
  unfold opEv
  rw [ansN_low (Nat.le_refl _)]
  simp only [List.getD_eq_getElem?_getD, List.getElem?_eq_getElem hi, Option.getD_some]
theorem opEv_found (es : List Ev8) {i k : Nat} (hik : i < k) (hk : k < es.length) (ha : ansN es k i = none) (ht : (es[k]).th = thN es i) (hi : i < es.length) :
    opEv es (k + 1) i = ⟨(es[i]).th, (es[i]).c.o, (es[i]).c.k, (es[i]).c.v, (es[k]).a.o, (es[k]).a.k, (es[k]).a.v, i, k⟩ := by
  unfold opEv
  rw [ansN_succ, ha, Option.none_or, if_pos ⟨hik, by rw [thN_get hk]; exact ht⟩]
  simp only [List.getD_eq_getElem?_getD, List.getElem?_eq_getElem hi, List.getElem?_eq_getElem hk, Option.getD_some]
theorem opEv_none (es : List Ev8) {i k : Nat} (ha : ansN es k i = none) (hi : i < es.length) : opEv es k i = ⟨(es[i]).th, (es[i]).c.o, (es[i]).c.k, (es[i]).c.v, 0, 0, 0, i, -1⟩ := by
  unfold opEv
  rw [ha]
  simp only [List.getD_eq_getElem?_getD, List.getElem?_eq_getElem hi, Option.getD_some]
theorem opEv_to (es : List Ev8) (k i : Nat) : (opEv es k i).to < 0 ↔ ansN es k i = none := by
  unfold opEv
  cases h : ansN es k i with
  | none => simp
  | some q => simp
theorem opEv_stay (es : List Ev8) {k j i : Nat} (h : ansN es k i ≠ none) (hkj : k ≤ j) : opEv es j i = opEv es k i := by
  refine opEv_congr ?_
  cases ha : ansN es k i with
  | none => exact absurd ha h
  | some q => exact ansN_mono ha hkj
/-- The operations so far of the document: each call with its answer. -/
def opsR (es : List Ev8) (i : Nat) : List Op9 := (inv es i).map (opEv es es.length)
theorem opsR_len (es : List Ev8) (i : Nat) : (opsR es i).length = (inv es i).length := by unfold opsR; rw [List.length_map]

theorem refOpers_call {K : Value → Heap → Prop} {h : Heap} {a : Option Addr} {l c : Nat} {es : List Ev8} (H : SV h a l c es) (hl : l ≤ 500)
    (k : ∀ a' c' h', SlO h' a' (opsE es).length c' (opsE es) → Old h.size h h' → K (.slice a' (opsE es).length c') h') : CallH Try.prog 27 #[.slice a l c] h K := by
  refine call27 ?_
  unfold F27
  have hlen := H.len
  refine ⟨fun vs h' => ∃ o c' w1, ∃ i : Nat, vs = [.slice o (inv es i).length c', iv i, w1] ∧ i ≤ l ∧ Old h.size h h' ∧ OwnO h' o (inv es i).length c' (opsR es i) ∧ (∀ ad, o = some ad → h.size ≤ ad.block),
    fun vs _ => (match vs with | [_, .int _ n, _] => l - n.toNat | _ => 0),
    ⟨none, 0, _, 0, rfl, Nat.zero_le _, Old.refl _ _, Own.nil _ _ _, fun ad e => (by cases e)⟩, ?_⟩
  rintro v2 v3 v4 g5 h6 ⟨o, c', w1, i, e, hi, o6, own, hab⟩
  cases e
  simp only [asInt_int, asI_int, asSlice_slice]
  refine ifB_dec (fun hlt => ?_) (fun hge => ?_)
  rotate_left
  · obtain rfl : i = es.length := by omega
    have := k o c' h6
    unfold opsE at this
    rw [opsAt_len] at this
    exact this own.sl o6
  have hi' : i < es.length := by omega
  obtain ⟨ad, rfl, hc⟩ := (H.old o6).at hi'
  have hbk := bkN_get hi'
  have hisucc := inv_succ es i
  have hilen := inv_len_le es i
  refine ⟨fun vs h' => ∃ o c' w1, vs = [.slice o (inv es (i + 1)).length c', w1] ∧ Old h.size h h' ∧ OwnO h' o (inv es (i + 1)).length c' (opsR es (i + 1)) ∧ (∀ ad, o = some ad → h.size ≤ ad.block), ?_, ?_⟩
  rotate_left
  · rintro v83 v84 g85 h86 ⟨o2, c2, w2, e, o86, own86, hab2⟩
    cases e
    rw [nat_wrap1 (by omega)]
    refine ⟨⟨o2, c2, _, i + 1, rfl, by omega, o86, own86, hab2⟩, ?_⟩
    show l - ((i + 1 : Nat) : Int).toNat < l - (i : Int).toNat
    omega
  refine ⟨by omega, hlt, ?_⟩
  simp only [asPtr_some, Int.toNat_natCast]
  refine ldH_mk (hc 1 _ rfl) ?_
  simp only [asBool_bool]
  refine ifB_mk (fun hb => ?_) (fun hb => ?_)
  · rw [hbk, hb] at hisucc
    simp only [if_true, List.append_nil] at hisucc
    refine ⟨o, c', _, by rw [hisucc], o6, ?_, hab⟩
    rw [hisucc]
    unfold opsR at own ⊢
    rw [hisucc]; exact own
  rw [hbk, hb] at hisucc
  simp only [Bool.false_eq_true, if_false] at hisucc
  refine ⟨by omega, hlt, ?_⟩
  refine ldH_mk (hc 0 _ rfl) ?_
  simp only [asInt_int]
  refine ⟨by omega, hlt, ldH_mk (hc 2 _ rfl) (ldH_mk (hc 3 _ rfl) (ldH_mk (hc 4 _ rfl) ?_))⟩
  have p := pushed h6 zs9.toArray 65
  rw [show h6.push (.cells #[.int .i64 0, .int .i64 0, .int .u32 0, .int .u32 0, .int .i64 0, .int .u32 0, .int .u32 0, .int .i64 0, .int .i64 0] 65) = h6.push (.cells zs9.toArray 65) from rfl]
  generalize h6.push (.cells zs9.toArray 65) = h7 at *
  have sp := p.size
  have pc : ∀ j v, (es[i]).cells[j]? = some v → cellAt h7 ((ad.add (i * 8)).add j) = some v := fun j v e => cell_stable _ _ p.toOld (hc j v e)
  refine ⟨pc 2 _ rfl, pc 3 _ rfl, pc 4 _ rfl, pc 0 _ rfl, ?_⟩
  refine st9 (stN_full (vs := (⟨(es[i]).th, (es[i]).c.o, (es[i]).c.k, (es[i]).c.v, 0, 0, 0, i, -1⟩ : Op9).cells) p.new rfl (cells9_one _) fun h31 w => ?_)
  rw [← opEv_low es hi'] at w
  have hz : ∀ {h' : Heap} {r : Array Value}, Wrote h7 h6.size r 65 h' → Old h6.size h6 h' ∧ h'.size = h6.size + 1 := fun x => ⟨x.toOld p.toOld (Nat.le_refl _), by rw [x.size]; exact sp⟩
  refine ⟨fun vs h' => ∃ k : Nat, vs = [iv k] ∧ i + 1 ≤ k ∧ k ≤ l ∧ Wrote h7 h6.size (opEv es k i).cells.toArray 65 h', fun vs _ => (match vs with | [.int _ n] => l - n.toNat | _ => 0), ⟨i + 1, by rw [nat_wrap1 (by omega)], Nat.le_refl _, by omega, w⟩, ?_⟩
  rintro v35 g36 h37 ⟨q, e, hiq, hql, w37⟩
  cases e
  simp only [asInt_int, asI_int]
  refine ⟨fun vs h' => vs = [.bool (decide (q < l) && (ansN es q i).isNone)] ∧ h' = h37, ?_, ?_⟩
  · refine ifB_dec (fun hq => ?_) (fun hq => ⟨by rw [decide_eq_false (show ¬ q < l by omega)]; rfl, by trivial⟩)
    refine ldR w37.new rfl ?_
    simp only [asInt_int]
    refine ⟨?_, by trivial⟩
    have hto := opEv_to es q i
    have hd : decide ((opEv es q i).to < 0) = (decide (q < l) && (ansN es q i).isNone) := by
      rw [decide_eq_true (show q < l by omega), Bool.true_and]
      cases ha : ansN es q i with
      | none => rw [decide_eq_true (hto.2 ha)]; rfl
      | some r => rw [decide_eq_false (fun h => by rw [hto.1 h] at ha; cases ha)]; rfl
    rw [hd]
  rintro v42 g43 h44 ⟨e, rfl⟩
  cases e
  obtain ⟨o44, s44⟩ := hz w37
  have hev := ((H.old o6).old o44)
  simp only [asBool_bool]
  refine ifB_mk (fun hb45 => ?_) (fun hb45 => ?_)
  · simp only [Bool.and_eq_true, decide_eq_true_eq, Option.isNone_iff_eq_none] at hb45
    obtain ⟨hq, hans⟩ := hb45
    have hq' : q < es.length := by omega
    obtain ⟨ad', e', hcq⟩ := hev.at hq'
    cases e'
    refine ⟨fun vs h' => vs = [] ∧ Wrote h7 h6.size (opEv es (q + 1) i).cells.toArray 65 h', ?_, ?_⟩
    · refine ⟨by omega, by omega, ldH_mk (hcq 0 _ rfl) ?_⟩
      simp only [asInt_int]
      rw [opEv_none es hans hi'] at w37
      refine ldR w37.new rfl ?_
      simp only [asInt_int]
      refine ifB_mk (fun he => ?_) (fun he => ?_)
      · have he' : (es[q]).th = (es[i]).th := by simpa using he
        refine stR w37.new rfl trivial fun g1 w1 => ?_
        obtain ⟨oz, _⟩ := hz (w37.trans w1)
        obtain ⟨ad', e', hcz⟩ := ((H.old o6).old oz).at hq'
        cases e'
        refine ⟨by omega, by omega, ldH_mk (hcz 5 _ rfl) (ldH_mk (hcz 6 _ rfl) (ldH_mk (hcz 7 _ rfl) ?_))⟩
        simp only [add_lit]
        refine stR w1.new rfl trivial fun g2 w2 => ?_
        refine stR w2.new rfl trivial fun g3 w3 => ?_
        refine stR w3.new rfl trivial fun g4 w4 => ?_
        refine ⟨by trivial, ?_⟩
        rw [opEv_found es (by omega) hq' hans (by rw [thN_get hi']; exact he') hi']
        exact ((((w37.trans w1).trans w2).trans w3).trans w4)
      · refine ⟨by trivial, ?_⟩
        have : opEv es (q + 1) i = opEv es q i := by
          refine opEv_congr ?_
          rw [ansN_succ, hans, Option.none_or, if_neg]
          rintro ⟨_, e2⟩
          rw [thN_get hq', thN_get hi'] at e2
          rw [e2] at he; simp at he
        rw [this, opEv_none es hans hi']
        exact w37
    · rintro g63 h64 ⟨_, w64⟩
      rw [nat_wrap1 (by omega)]
      refine ⟨⟨q + 1, rfl, by omega, by omega, w64⟩, ?_⟩
      show l - ((q + 1 : Nat) : Int).toNat < l - (q : Int).toNat
      omega
  · have hfin : opEv es q i = opEv es es.length i := by
      by_cases hq : q < l
      · rw [decide_eq_true hq, Bool.true_and] at hb45
        exact (opEv_stay es (fun h => by rw [h] at hb45; cases hb45) (by omega)).symm
      · rw [show q = es.length by omega]
    rw [hfin] at w37
    have own44 : OwnO h44 o (inv es i).length c' (opsR es i) := own.keep fun ad e => o44.2 _ (own.lt ad e)
    refine ldR w37.new rfl (ldR w37.new rfl (ldR w37.new rfl (ldR w37.new rfl (ldR w37.new rfl (ldR w37.new rfl (ldR w37.new rfl (ldR w37.new rfl (ldR w37.new rfl ?_))))))))
    refine app_row1 (ys := (opEv es es.length i).cells) (xs := (opsR es i).flatMap Op9.cells) und_opers there_oper zer_oper (by rw [siz_oper]; rfl) (by rw [byt_oper]; omega) (by rw [siz_oper]; rfl) (cells9_one _) (by rw [siz_oper]; exact own44) (by rw [byt_oper]; omega) ?_
    intro a' c2 h79 own79 s79 old79 hor
    rw [siz_oper] at own79
    simp only [asSlice_slice]
    have hl1 : (inv es (i + 1)).length = (inv es i).length + 1 := by rw [hisucc]; simp
    have hops : opsR es (i + 1) = opsR es i ++ [opEv es es.length i] := by unfold opsR; rw [hisucc]; simp
    have h6s := o6.1
    refine ⟨a', c2, _, by rw [hl1], ⟨by omega, fun b hb => ?_⟩, ?_, fun ad e => ?_⟩
    · exact (old79 b (by omega) (fun ad e => by have := hab ad e; omega)).trans ((o44.2 b (by omega)).trans (o6.2 b hb))
    · rw [hl1, hops]
      unfold OwnO
      rw [flat9_push]; exact own79
    · rcases hor ad e with h | h
      · exact hab ad h
      · omega

/-! ### how many pairs are left -/
/-- An operation's part. -/
def lfO (o : Op9) : Int := if o.to < 0 then 0 else if o.kind = 0 then 1 else if o.op = 1 ∧ o.kind = 2 then -1 else 0
def sumP (f : Op9 → Int) (ops : List Op9) : Nat → Int
  | 0 => 0
  | i + 1 => sumP f ops i + (match ops[i]? with | some o => f o | none => 0)
theorem sumP_succ (f : Op9 → Int) {ops : List Op9} {i : Nat} (h : i < ops.length) : sumP f ops (i + 1) = sumP f ops i + f ops[i] := by
  show sumP f ops i + (match ops[i]? with | some o => f o | none => 0) = _
  rw [List.getElem?_eq_getElem h]
theorem sumP_le {f : Op9 → Int} (hf : ∀ o, -1 ≤ f o ∧ f o ≤ 1) (ops : List Op9) : ∀ i : Nat, -(i : Int) ≤ sumP f ops i ∧ sumP f ops i ≤ i := by
  intro i
  induction i with
  | zero => exact ⟨Int.le_refl _, Int.le_refl _⟩
  | succ i ih =>
    have e : sumP f ops (i + 1) = sumP f ops i + (match ops[i]? with | some o => f o | none => 0) := rfl
    rw [e]
    cases ops[i]? with
    | none => simp only; omega
    | some o => have := hf o; simp only; omega
theorem sumP_congr {f g : Op9 → Int} {ops : List Op9} (h : ∀ o ∈ ops, f o = g o) : ∀ i, i ≤ ops.length → sumP f ops i = sumP g ops i := by
  intro i
  induction i with
  | zero => intro _; rfl
  | succ i ih =>
    intro hi
    rw [sumP_succ f (by omega), sumP_succ g (by omega), ih (by omega), h _ (List.getElem_mem _)]
theorem lfO_le (o : Op9) : -1 ≤ lfO o ∧ lfO o ≤ 1 := by
  unfold lfO
  split
  · omega
  · split
    · omega
    · split <;> omega
/-- An operation's part, as the document has it. -/
def ldO (o : Op9) : Int := (if 0 ≤ o.to ∧ o.op = 0 ∧ o.kind = 0 then 1 else 0) + (if 0 ≤ o.to ∧ o.op = 1 ∧ o.kind = 2 then -1 else 0)
theorem ldO_le (o : Op9) : -1 ≤ ldO o ∧ ldO o ≤ 1 := by
  unfold ldO
  split <;> split <;> omega
/-- In a history, what is answered fits. -/
theorem fit_of {es : List Ev8} (hR : RightH es) {q k : Nat} (hb : bkN es q = false) (hk : ansN es es.length q = some k) : fitsB (es.getD q dfE).c (es.getD k dfE).a = true := by
  obtain ⟨h1, h2, h3, h4⟩ := ansN_some hk
  have hop := opn_of_ans hb k (by omega) h1 h4
  have hok := hR k h2
  rw [← h3, thN_get h2] at hop
  unfold okE mayB at hok
  rw [hop] at hok
  cases hbk : (es[k]).bk with
  | false => rw [hbk] at hok; simp at hok
  | true =>
    rw [hbk] at hok
    simp only [if_true, Bool.and_eq_true] at hok
    have hq : q < es.length := by omega
    have e1 : es.getD q dfE = es[q] := by rw [List.getD_eq_getElem?_getD, List.getElem?_eq_getElem hq]; rfl
    have e2 : es.getD k dfE = es[k] := by rw [List.getD_eq_getElem?_getD, List.getElem?_eq_getElem h2]; rfl
    have e3 : es.getD q ⟨0, false, zeroC, zeroC⟩ = es[q] := by rw [List.getD_eq_getElem?_getD, List.getElem?_eq_getElem hq]; rfl
    rw [e3] at hok
    rw [e1, e2]
    exact hok.1.2
theorem lf_ld {x y : Int} (h3 : (x == 0) = (y == 0 || y == 1)) : (if y = 0 then (1 : Int) else if x = 1 ∧ y = 2 then -1 else 0) = (if x = 0 ∧ y = 0 then 1 else 0) + (if x = 1 ∧ y = 2 then -1 else 0) := by
  by_cases e0 : y = 0
  · have e1 : x = 0 := by rw [e0] at h3; simpa using h3
    simp [e0, e1]
  · simp [e0]
theorem left_same {es : List Ev8} (hR : RightH es) : ∀ o ∈ opsE es, lfO o = ldO o := by
  intro o ho
  unfold opsE opsAt at ho
  obtain ⟨q, hq, rfl⟩ := List.mem_map.1 ho
  obtain ⟨hq1, hqb⟩ := inv_lt hq
  unfold opEv
  cases ha : ansN es es.length q with
  | none => rfl
  | some k =>
    have hf := fit_of hR hqb ha
    unfold fitsB at hf
    simp only [Bool.and_eq_true, beq_iff_eq] at hf
    have h3 := hf.2.2
    unfold lfO ldO
    have hk : (0 : Int) ≤ (k : Int) := by omega
    have hk' : ¬ (k : Int) < 0 := by omega
    simp only [hk, hk', true_and, if_false]
    exact lf_ld h3

theorem opsE_len_le (es : List Ev8) : (opsE es).length ≤ es.length := by unfold opsE; rw [opsAt_len]; exact inv_len_le _ _
end Go.Proofs.Ytlncjcbofgjcfaa
end
section
/- Rows: arguments that are slices of calls, of answers, of events: with the ranges of their numbers. -/
namespace Go.Proofs.Ytlncjcbofgjcfaa
open Go.ChangeShapes Go.WideShapes Go.ChangeAt Go.RowKit
set_option linter.unusedVariables false
set_option linter.unusedSimpArgs false
set_option maxRecDepth 20000
theorem inR_wf {n : Int} (h : (Lit.int .u32 n).wf = true) : InR n := by
  unfold Lit.wf at h
  rw [Bool.and_eq_true, decide_eq_true_eq, decide_eq_true_eq] at h
  have e1 : IntKind.min .u32 = 0 := rfl
  have e2 : IntKind.max .u32 = 4294967295 := rfl
  rw [e1, e2] at h
  exact ⟨h.1, by omega⟩
def InC (c : C3) : Prop := InR c.k ∧ InR c.v
def InE (e : Ev8) : Prop := InC e.c ∧ InC e.a
theorem sx_sub {α : Type} {P : α → Prop} {f : α → List Value} {h : Heap} {a : Option Addr} {l c : Nat} {es : List {x : α // P x}} (H : SX (fun x : {x : α // P x} => f x.1) h a l c es) : ∃ xs : List α, (∀ x ∈ xs, P x) ∧ SX f h a l c xs := by
  refine ⟨es.map (·.1), fun x hx => ?_, ⟨?_, by rw [List.length_map]; exact H.len, H.cap⟩⟩
  · obtain ⟨y, _, rfl⟩ := List.mem_map.1 hx; exact y.2
  · have : (es.map (·.1)).flatMap f = es.flatMap fun x : {x : α // P x} => f x.1 := by rw [List.flatMap_map]
    rw [this]; exact H.s
theorem cellsOfH_ev8 : Program.cellsOf Try.prog 71 = 8 := by kernel_rfl
theorem cellsOfH_b1 : Program.cellsOf Try.prog 4 = 1 := by kernel_rfl
section
variable {H : Type} {enc : TypeId × Value → H} {W : World} {fuel : Nat} {cs : List Value} {x : DataW H × List MemPlace}
theorem call_cellsR {t : TypeId} (ht : t = 40 ∨ t = 42) (h : DataW.trod enc Try.prog W 0 (fun _ => true) true fuel t cs = some x) : ∃ e : {e : C3 // InC e}, cs = c3c e.1 := by
  have key : ∀ (n0 n1 n2 : Int), InR n1 → InR n2 → cs.length = 3 → (cs.drop 0).take 1 = [.int .i64 n0] → (cs.drop 1).take 1 = [.int .u32 n1] → (cs.drop 2).take 1 = [.int .u32 n2] → ∃ e : {e : C3 // InC e}, cs = c3c e.1 := by
    intro n0 n1 n2 i1 i2 hl q0 q1 q2
    refine ⟨⟨⟨n0, n1, n2⟩, i1, i2⟩, ?_⟩
    rcases cs with _ | ⟨c0, cs⟩; · simp at hl
    rcases cs with _ | ⟨c1, cs⟩; · simp at hl
    rcases cs with _ | ⟨c2, cs⟩; · simp at hl
    rcases cs with _ | ⟨c3, cs⟩
    · simp at q0 q1 q2
      rw [q0, q1, q2]; rfl
    · simp at hl
  rcases ht with rfl | rfl
  · have hl := trod_lenG Try.underlying40 h
    rw [cellsOfG_call] at hl
    obtain ⟨_, _, e0⟩ := trod_fieldG Try.underlying40 h 0 _ rfl
    obtain ⟨_, _, e1⟩ := trod_fieldG Try.underlying40 h 1 _ rfl
    obtain ⟨_, _, e2⟩ := trod_fieldG Try.underlying40 h 2 _ rfl
    obtain ⟨n0, u0, _, _⟩ := DataW.trod_int Try.underlying3 e0
    obtain ⟨n1, u1, _, r1⟩ := DataW.trod_int Try.underlying27 e1
    obtain ⟨n2, u2, _, r2⟩ := DataW.trod_int Try.underlying27 e2
    exact key n0 n1 n2 (inR_wf r1) (inR_wf r2) hl u0 u1 u2
  · have hl := trod_lenG Try.underlying42 h
    rw [cellsOfG_ans] at hl
    obtain ⟨_, _, e0⟩ := trod_fieldG Try.underlying42 h 0 _ rfl
    obtain ⟨_, _, e1⟩ := trod_fieldG Try.underlying42 h 1 _ rfl
    obtain ⟨_, _, e2⟩ := trod_fieldG Try.underlying42 h 2 _ rfl
    obtain ⟨n0, u0, _, _⟩ := DataW.trod_int Try.underlying3 e0
    obtain ⟨n1, u1, _, r1⟩ := DataW.trod_int Try.underlying27 e1
    obtain ⟨n2, u2, _, r2⟩ := DataW.trod_int Try.underlying27 e2
    exact key n0 n1 n2 (inR_wf r1) (inR_wf r2) hl u0 u1 u2
theorem event_cellsR (h : DataW.trod enc Try.prog W 0 (fun _ => true) true fuel 71 cs = some x) : ∃ e : {e : Ev8 // InE e}, cs = e.1.cells := by
  have hl := trod_lenG Try.underlying71 h
  rw [cellsOfH_ev8] at hl
  obtain ⟨_, _, e0⟩ := trod_fieldG Try.underlying71 h 0 _ rfl
  obtain ⟨_, _, e1⟩ := trod_fieldG Try.underlying71 h 1 _ rfl
  obtain ⟨_, _, e2⟩ := trod_fieldG Try.underlying71 h 2 _ rfl
  obtain ⟨_, _, e3⟩ := trod_fieldG Try.underlying71 h 3 _ rfl
  obtain ⟨n0, u0, _, _⟩ := DataW.trod_int Try.underlying3 e0
  obtain ⟨b1, u1, _⟩ := DataW.trod_bool Try.underlying4 e1
  obtain ⟨⟨⟨c0, c1, c2⟩, ic⟩, u2⟩ := call_cellsR (.inl rfl) e2
  obtain ⟨⟨⟨a0, a1, a2⟩, ia⟩, u3⟩ := call_cellsR (.inr rfl) e3
  have q0 : (cs.drop 0).take (Program.cellsOf Try.prog 3) = [.int .i64 n0] := u0
  have q1 : (cs.drop 1).take (Program.cellsOf Try.prog 4) = [.bool b1] := u1
  have q2 : (cs.drop 2).take (Program.cellsOf Try.prog 40) = [.int .i64 c0, .int .u32 c1, .int .u32 c2] := u2
  have q3 : (cs.drop 5).take (Program.cellsOf Try.prog 42) = [.int .i64 a0, .int .u32 a1, .int .u32 a2] := u3
  rw [cellsOfG_int] at q0
  rw [cellsOfH_b1] at q1
  rw [cellsOfG_call] at q2
  rw [cellsOfG_ans] at q3
  refine ⟨⟨⟨n0, b1, ⟨c0, c1, c2⟩, ⟨a0, a1, a2⟩⟩, ic, ia⟩, ?_⟩
  rcases cs with _ | ⟨d0, cs⟩; · simp at hl
  rcases cs with _ | ⟨d1, cs⟩; · simp at hl
  rcases cs with _ | ⟨d2, cs⟩; · simp at hl
  rcases cs with _ | ⟨d3, cs⟩; · simp at hl
  rcases cs with _ | ⟨d4, cs⟩; · simp at hl
  rcases cs with _ | ⟨d5, cs⟩; · simp at hl
  rcases cs with _ | ⟨d6, cs⟩; · simp at hl
  rcases cs with _ | ⟨d7, cs⟩; · simp at hl
  rcases cs with _ | ⟨d8, cs⟩
  · simp at q0 q1 q2 q3
    obtain ⟨r0, r1, r2⟩ := q2
    obtain ⟨r3, r4, r5⟩ := q3
    rw [q0, q1, r0, r1, r2, r3, r4, r5]
  · simp at hl
end
section
variable {H : Type} {enc : TypeId × Value → H} {W : World} {d : DataW H} {ps : List MemPlace} {a : Option Addr} {l c : Nat}
theorem arg_callsR (h : DataW.Trod enc Try.prog W 0 (fun _ => true) true 62 (.slice a l c) d ps) : ∃ es : List C3, (∀ e ∈ es, InC e) ∧ SX c3c W.heap a l c es :=
  let ⟨_, H⟩ := arg_sx (f := fun e : {e : C3 // InC e} => c3c e.1) (n := 3) (fun _ => rfl) (by omega) Try.underlying62 (by kernel_rfl) (fun _ _ _ h => call_cellsR (.inl rfl) h) h
  sx_sub H
theorem arg_answersR (h : DataW.Trod enc Try.prog W 0 (fun _ => true) true 63 (.slice a l c) d ps) : ∃ es : List C3, (∀ e ∈ es, InC e) ∧ SX c3c W.heap a l c es :=
  let ⟨_, H⟩ := arg_sx (f := fun e : {e : C3 // InC e} => c3c e.1) (n := 3) (fun _ => rfl) (by omega) Try.underlying63 (by kernel_rfl) (fun _ _ _ h => call_cellsR (.inr rfl) h) h
  sx_sub H
theorem arg_eventsR (h : DataW.Trod enc Try.prog W 0 (fun _ => true) true 54 (.slice a l c) d ps) : ∃ es : List Ev8, (∀ e ∈ es, InE e) ∧ SV W.heap a l c es := by
  obtain ⟨_, H⟩ := arg_sx (f := fun e : {e : Ev8 // InE e} => e.1.cells) (n := 8) (fun _ => rfl) (by omega) Try.underlying54 (by kernel_rfl) (fun _ _ _ h => event_cellsR h) h
  obtain ⟨xs, hx, S⟩ := sx_sub H
  exact ⟨xs, hx, ⟨S.s, S.len, S.cap⟩⟩
end
end Go.Proofs.Ytlncjcbofgjcfaa
end
section
/- What a search has met: a map whose keys are structs of a number and a text. -/
set_option linter.unusedSimpArgs false
set_option linter.unusedVariables false
set_option maxRecDepth 20000
namespace Go.Proofs.Ytlncjcbofgjcfaa

abbrev keyV (k : Int × ByteArray) : Value := .agg #[.int .u64 k.1, .string k.2]
/-- A set of keys at m. -/
def MetF (h : Heap) (m : Nat) (ks : List (Int × ByteArray)) : Prop := ∃ es c, h[m]? = some (.map es c) ∧ es.toList.map (fun e => (e.key, e.val)) = ks.map fun k => (keyV k, .bool true)
theorem MetF.keep {h h' : Heap} {m : Nat} {ks : List (Int × ByteArray)} (H : MetF h m ks) (e : h'[m]? = h[m]?) : MetF h' m ks := by
  obtain ⟨es, c, h1, h2⟩ := H
  exact ⟨es, c, e.trans h1, h2⟩
theorem MetF.lt {h : Heap} {m : Nat} {ks : List (Int × ByteArray)} (H : MetF h m ks) : m < h.size := by
  obtain ⟨es, c, h1, h2⟩ := H
  exact (Array.getElem?_eq_some_iff.1 h1).1
theorem MetF.new (h : Heap) : MetF (h.push (.map #[] 0)) h.size [] := ⟨#[], 0, push_new _ _, rfl⟩
theorem beq_bytes (a b : ByteArray) : (a == b) = decide (a = b) := by
  obtain ⟨x⟩ := a; obtain ⟨y⟩ := b
  show ByteArray.beq ⟨x⟩ ⟨y⟩ = _
  unfold ByteArray.beq
  by_cases h : x = y
  · subst h; simp
  · simp [h]
instance : LawfulBEq ByteArray := { eq_of_beq := fun {a b} h => by rw [beq_bytes] at h; simpa using h, rfl := fun {a} => by rw [beq_bytes]; simp }
theorem eqv_st (t : TypeId) (ht : t = 115 ∨ t = 145) (a : Int) (b : ByteArray) (c : Int) (d : ByteArray) : eqv Try.prog 10000 t (.agg #[.int .u64 a, .string b]) (.agg #[.int .u64 c, .string d]) = some ((a == c) && ((b == d) && true)) := by
  rcases ht with rfl | rfl <;> kernel_rfl
theorem guard_st (t : TypeId) (ht : t = 115 ∨ t = 145) : Try.prog.eqGuardType Try.prog.depth t = false := by
  rcases ht with rfl | rfl <;> kernel_rfl
theorem hp_eq_st {t : TypeId} (ht : t = 115 ∨ t = 145) (k k' : Int × ByteArray) (G : Bool → Heap → Prop) (h : Heap) : hp Try.prog (Op.equal t (keyV k) (keyV k')) G h = G (decide (k = k')) h := by
  have H : eqvH Try.prog t (keyV k) (keyV k') fun b => b = decide (k = k') := by
    unfold eqvH
    rw [guard_st t ht, if_neg (by simp)]
    show (match eqv Try.prog 10000 t (.agg #[.int .u64 k.1, .string k.2]) (.agg #[.int .u64 k'.1, .string k'.2]) with | some b => b = decide (k = k') | none => False)
    rw [eqv_st t ht, beq_bytes]
    obtain ⟨a, b⟩ := k; obtain ⟨c, d⟩ := k'
    simp only [Prod.mk.injEq, Bool.and_true]
    by_cases h1 : a = c <;> by_cases h2 : b = d <;> simp [h1, h2]
  obtain ⟨⟨b, hb, rfl⟩, _⟩ := hp_eqv H
  rw [hb]
theorem hp_asking {t : TypeId} (ht : t = 115 ∨ t = 145) (k : Int × ByteArray) (F : Option (Nat × Value) → Heap → Prop) (h : Heap) : ∀ (es : List MapEntry) (ks : List (Int × ByteArray)) (i : Nat), es.map (fun e => (e.key, e.val)) = ks.map (fun k => (keyV k, .bool true)) →
    (k ∉ ks → F none h) → (k ∈ ks → ∀ j, F (some (j, .bool true)) h) → hp Try.prog (Instr.findAsking t (keyV k) es i) F h := by
  intro es
  induction es with
  | nil =>
    intro ks i e h0 h1
    have : ks = [] := by simpa using e.symm
    subst this
    exact h0 (by simp)
  | cons x es ih =>
    intro ks i e h0 h1
    cases ks with
    | nil => simp at e
    | cons k' ks =>
      simp only [List.map_cons, List.cons.injEq, Prod.mk.injEq] at e
      obtain ⟨⟨e1, e2⟩, e3⟩ := e
      unfold Instr.findAsking
      simp only [hp_bind]
      rw [e1, hp_eq_st ht]
      by_cases hk : k = k'
      · rw [decide_eq_true hk, if_pos rfl, hp_pure, e2]
        exact h1 (by simp [hk]) i
      · rw [decide_eq_false hk, if_neg (by simp)]
        exact ih ks (i + 1) e3 (fun hn => h0 (by simp [hk, hn])) (fun hn => h1 (by simp [hn]))
theorem hp_findSt {t : TypeId} (ht : t = 115 ∨ t = 145) {fs : Array Field} (hu : Try.prog.underlying t = some (.struct fs)) (k : Int × ByteArray) (F : Option (Nat × Value) → Heap → Prop) (h : Heap) (es : List MapEntry) (ks : List (Int × ByteArray)) (e : es.map (fun e => (e.key, e.val)) = ks.map (fun k => (keyV k, .bool true)))
    (h0 : k ∉ ks → F none h) (h1 : k ∈ ks → ∀ j, F (some (j, .bool true)) h) : hp Try.prog (Instr.findKey t (keyV k) es) F h := by
  unfold Instr.findKey
  simp only [hp_bind, hp_underlying hu]
  cases es with
  | nil =>
    have : ks = [] := by simpa using e.symm
    subst this
    exact h0 (by simp)
  | cons x es =>
    have : Instr.findNow (.struct fs) (keyV k) (x :: es) 0 = none := rfl
    rw [this]
    exact hp_asking ht k F h (x :: es) ks 0 e h0 h1
theorem hp_check0 {n : Nat} {b : Bool} {v : Value} {t : TypeId} {d : TypeDesc} (hu : Try.prog.underlying t = some d) (hd : d = .string ∨ ∃ k, d = .int k) (F : Unit → Heap → Prop) (h : Heap) : hp Try.prog (Instr.checkKey b (n + 1) t v) F h = F () h := by
  simp only [Instr.checkKey, hp_bind, hp_underlying hu]
  rcases hd with rfl | ⟨k, rfl⟩ <;> cases v <;> rfl
def fieldsT (P : Program) (t : TypeId) : Array Field := match P.underlying t with | some (.struct fs) => fs | _ => #[]
theorem und_lst : Try.prog.underlying 115 = some (.struct (fieldsT Try.prog 115)) := by kernel_rfl
theorem und_wst : Try.prog.underlying 145 = some (.struct (fieldsT Try.prog 145)) := by kernel_rfl
theorem fields_lst : (fieldsT Try.prog 115).toList.map (fun f => (f.name == "_", f.type, f.offset)) = [(false, 113, 0), (false, 9, 1)] := by kernel_rfl
theorem fields_wst : (fieldsT Try.prog 145).toList.map (fun f => (f.name == "_", f.type, f.offset)) = [(false, 113, 0), (false, 9, 1)] := by kernel_rfl
theorem und_u64s : Try.prog.underlying 113 = some (.int .u64) := by kernel_rfl
theorem und_strs : Try.prog.underlying 9 = some .string := by kernel_rfl
theorem there_u64s : there Try.prog 113 = true := by kernel_rfl
theorem there_strs : there Try.prog 9 = true := by kernel_rfl
theorem agg_u64s : aggT Try.prog 113 = false := by kernel_rfl
theorem agg_strs : aggT Try.prog 9 = false := by kernel_rfl
theorem hp_checkSt {t : TypeId} (ht : t = 115 ∨ t = 145) {n : Nat} {b : Bool} (k : Int × ByteArray) (F : Unit → Heap → Prop) (h : Heap) : hp Try.prog (Instr.checkKey b (n + 2) t (keyV k)) F h = F () h := by
  have key : ∀ fs : Array Field, Try.prog.underlying t = some (.struct fs) → fs.toList.map (fun f => (f.name == "_", f.type, f.offset)) = [(false, 113, 0), (false, 9, 1)] → hp Try.prog (Instr.checkKey b (n + 2) t (keyV k)) F h = F () h := by
    intro fs hu hf
    obtain ⟨f1, f2, e, n1, t1, o1, n2, t2, o2⟩ : ∃ f1 f2 : Field, fs.toList = [f1, f2] ∧ (f1.name == "_") = false ∧ f1.type = 113 ∧ f1.offset = 0 ∧ (f2.name == "_") = false ∧ f2.type = 9 ∧ f2.offset = 1 := by
      match hl : fs.toList with
      | [] => rw [hl] at hf; simp at hf
      | [_] => rw [hl] at hf; simp at hf
      | [f1, f2] =>
        rw [hl] at hf
        simp only [List.map_cons, List.map_nil, List.cons.injEq, Prod.mk.injEq, and_true] at hf
        exact ⟨f1, f2, rfl, hf.1.1, hf.1.2.1, hf.1.2.2, hf.2.1, hf.2.2.1, hf.2.2.2⟩
      | _ :: _ :: _ :: _ => rw [hl] at hf; simp at hf
    unfold Instr.checkKey
    simp only [hp_bind, hp_underlying hu]
    rw [← Array.forIn_toList, e]
    have g1 : f1.name ≠ "_" := by simpa using n1
    have g2 : f2.name ≠ "_" := by simpa using n2
    have v1 : partV Try.prog 113 #[.int .u64 k.1, .string k.2] 0 = some (.int .u64 k.1) := by unfold partV; rw [agg_u64s]; rfl
    have v2 : partV Try.prog 9 #[.int .u64 k.1, .string k.2] 1 = some (.string k.2) := by unfold partV; rw [agg_strs]; rfl
    simp only [List.forIn_cons, List.forIn_nil, hp_bind, hp_pure, if_pos g1, if_pos g2, t1, o1, t2, o2, hp_part there_u64s v1, hp_part there_strs v2, hp_check0 und_u64s (.inr ⟨_, rfl⟩), hp_check0 und_strs (.inl rfl)]
  rcases ht with rfl | rfl
  · exact key _ und_lst fields_lst
  · exact key _ und_wst fields_wst
theorem met_look {t tm : TypeId} (ht : t = 115 ∨ t = 145) (hum : und Try.prog tm = .map t 4) {h : Heap} {m : Nat} {ks : List (Int × ByteArray)} {k : Int × ByteArray} {K : Value → Heap → Prop} (H : MetF h m ks) (kk : K (.bool (decide (k ∈ ks))) h) :
    lookH Try.prog tm (.map (some m)) (keyV k) false h K := by
  obtain ⟨es, c, h1, h2⟩ := H
  have hfs : ∃ fs, Try.prog.underlying t = some (.struct fs) := by
    rcases ht with rfl | rfl
    · exact ⟨_, und_lst⟩
    · exact ⟨_, und_wst⟩
  obtain ⟨fs, hu⟩ := hfs
  unfold lookH Instr.lookup
  simp only [hp_bind, hp_underlying (und_some hum (by simp)), hp_getMap h1, hp_pure, hp_checkSt ht]
  refine hp_findSt ht hu k _ h es.toList ks h2 (fun hn => ?_) (fun hin j => ?_)
  · simp only [hp_bind, hp_zeroValue zer_b, hp_pure, Bool.false_eq_true, if_false]
    rw [decide_eq_false hn] at kk; exact kk
  · simp only [hp_bind, hp_pure, Bool.false_eq_true, if_false]
    rw [decide_eq_true hin] at kk; exact kk
theorem met_put {t tm : TypeId} (ht : t = 115 ∨ t = 145) (hum : und Try.prog tm = .map t 4) {h : Heap} {m : Nat} {ks : List (Int × ByteArray)} {k : Int × ByteArray} {K : Heap → Prop} (H : MetF h m ks) (hn : k ∉ ks)
    (kk : ∀ h', MetF h' m (ks ++ [k]) → h'.size = h.size → (∀ c, c ≠ m → h'[c]? = h[c]?) → K h') : mupdH Try.prog tm (.map (some m)) (keyV k) (.bool true) h K := by
  have hm := H.lt
  obtain ⟨es, c, h1, h2⟩ := H
  have hfs : ∃ fs, Try.prog.underlying t = some (.struct fs) := by
    rcases ht with rfl | rfl
    · exact ⟨_, und_lst⟩
    · exact ⟨_, und_wst⟩
  obtain ⟨fs, hu⟩ := hfs
  unfold mupdH Instr.mapUpdate
  simp only [hp_bind, hp_underlying (und_some hum (by simp)), hp_getMap h1, hp_pure, hp_checkSt ht]
  refine hp_findSt ht hu k _ h es.toList ks h2 (fun _ => ?_) (fun hin => absurd hin hn)
  simp only [hp_setMap h1]
  refine kk _ ⟨_, _, set_new hm, ?_⟩ (by simp) (fun c hc => set_old hc)
  rw [Array.toList_push, List.map_append, List.map_append, h2]; rfl
theorem meet_call {K : Value → Heap → Prop} {h : Heap} {m : Nat} {ks : List (Int × ByteArray)} {k : Int × ByteArray} (H : MetF h m ks)
    (k0 : k ∈ ks → ∀ h', Old h.size h h' → K (.bool false) h') (k1 : k ∉ ks → ∀ h', MetF h' m (ks ++ [k]) → Fr (fun b => b = m) h h' → K (.bool true) h') :
    CallH Try.prog 66 #[.map (some m), keyV k] h K := by
  refine call66 ?_
  unfold F66
  have hm := H.lt
  have p1 := pushed h [Value.int .u64 k.1, .string k.2].toArray 115
  rw [show h.push (.cells #[.int .u64 k.1, .string k.2] 115) = h.push (.cells [Value.int .u64 k.1, .string k.2].toArray 115) from rfl]
  generalize h.push (.cells [Value.int .u64 k.1, .string k.2].toArray 115) = h1 at *
  have s1 := p1.size
  have H1 := H.keep (p1.old _ hm)
  refine ldR p1.new rfl (ldR p1.new rfl ?_)
  refine met_look (t := 115) (k := k) (.inl rfl) und_met H1 ?_
  simp only [asBool_bool]
  refine ifB_dec (fun hin => k0 hin _ p1.toOld) (fun hn => ?_)
  refine ldR p1.new rfl (ldR p1.new rfl ?_)
  refine met_put (t := 115) (k := k) (.inl rfl) und_met H1 hn fun h' M s' old => ?_
  exact k1 hn h' M ⟨by omega, fun b hb hne => (old b hne).trans (p1.old b hb)⟩

/-! ### pairs as text -/
theorem hp_bytes {P : Program} {h : Heap} {a : Option Addr} {l c : Nat} {bs : List Int} (hs : Sees h a (bs.map fun n => .int .u8 n)) (hl : bs.length = l) (F : Value → Heap → Prop) (k : F (.string (strL bs)) h) : hp P (Conv.bytesToString (.slice a l c)) F h := by
  unfold Conv.bytesToString
  cases a with
  | none =>
    have : bs = [] := by
      cases bs with
      | nil => rfl
      | cons n bs => obtain ⟨ad, e, _⟩ := hs 0 _ rfl; cases e
    subst this; exact k
  | some ad =>
    simp only [hp_bind]
    refine hp_loadCellsFrom ad _ 0 [] _ ?_
    have hml : l = (bs.map fun n => Value.int .u8 n).length := by simp [hl]
    rw [hml]
    refine ldN_sees _ 0 [] _ (fun j v hj => ?_) ?_
    · obtain ⟨ad', e, hc⟩ := hs j v hj
      cases e; rwa [Nat.zero_add]
    simp only [List.reverse_nil, List.nil_append, List.forIn_toArray]
    have key : ∀ (bs : List Int) (acc : ByteArray) (G : ByteArray → Heap → Prop), G ⟨acc.data ++ (bs.map fun n => UInt8.ofNat n.toNat).toArray⟩ h → hp P (forIn (bs.map fun n => Value.int .u8 n) acc fun c r => do
          match c with
          | .int .u8 n => pure (ForInStep.yield (r.push (UInt8.ofNat n.toNat)))
          | _ => do
            stuck "bytesToString: byte expected"
            pure (ForInStep.yield r)) G h := by
      intro bs
      induction bs with
      | nil => intro acc G g; simpa [hp_pure] using g
      | cons n bs ih =>
        intro acc G g
        simp only [List.map_cons, List.forIn_cons, hp_bind, hp_pure]
        refine ih _ G ?_
        simpa [ByteArray.push] using g
    rw [hp_bind]
    refine key bs .empty _ ?_
    simp only [hp_pure]
    have e : (⟨ByteArray.empty.data ++ (bs.map fun n => UInt8.ofNat n.toNat).toArray⟩ : ByteArray) = strL bs := by unfold strL; simp [ByteArray.empty, ByteArray.emptyWithCapacity]; try rfl
    rw [e]; exact k
theorem cvt_bytes {h : Heap} {a : Option Addr} {l c : Nat} {bs : List Int} {K : Value → Heap → Prop} (hs : Sees h a (bs.map fun n => .int .u8 n)) (hl : bs.length = l) (k : K (.string (strL bs)) h) : cvtH Try.prog 151 9 (.slice a l c) h K := by
  unfold cvtH convert
  simp only [hp_bind, hp_underlying (und_some und_bytes (by simp)), hp_underlying (und_some und_str (by simp)), hp_underlying (und_some und_byte (by simp))]
  show hp Try.prog (Conv.bytesToString _) K h
  exact hp_bytes hs hl K k
theorem there_u8 : there Try.prog 5 = true := by kernel_rfl
theorem zer_u8 : zer Try.prog 5 = some (.int .u8 0) := by kernel_rfl
theorem siz_u8 : siz Try.prog 5 = 1 := by kernel_rfl
theorem byt_u8 : byt Try.prog 5 = 1 := by kernel_rfl
abbrev OwnB (h : Heap) (a : Option Addr) (l c : Nat) (bs : List Int) : Prop := Own h 5 1 a l c (bs.map fun n => .int .u8 n)
theorem app_b2 {h : Heap} {a : Option Addr} {l c : Nat} {bs : List Int} {x y : Int} {K : Value → Heap → Prop} (ho : OwnB h a l c bs) (hl : l < 2 ^ 40)
    (H : ∀ a' c' h', OwnB h' a' (l + 2) c' (bs ++ [x, y]) → (∀ b, blk a' b → blk a b ∨ h.size ≤ b) → Fr (blk a) h h' → K (.slice a' (l + 2) c') h') :
    appH Try.prog #[151, 151] 151 #[.slice a l c, .slice (some ⟨h.size, 0, none⟩) 2 2] (h.push (.cells #[.int .u8 x, .int .u8 y] 5)) K := by
  have p1 := pushed h [Value.int .u8 x, .int .u8 y].toArray 5
  rw [show h.push (.cells #[.int .u8 x, .int .u8 y] 5) = h.push (.cells [Value.int .u8 x, .int .u8 y].toArray 5) from rfl]
  generalize h.push (.cells [Value.int .u8 x, .int .u8 y].toArray 5) = h1 at *
  have s1 := p1.size
  refine appH_own (ys := [Value.int .u8 x, .int .u8 y]) (n := 2) und_bytes there_u8 zer_u8 (by rw [siz_u8]; rfl) (by rw [siz_u8]; exact ho.keep fun ad e => p1.old _ (ho.lt ad e)) ?_ (by rw [siz_u8]; rfl) ?_ (by rw [byt_u8]; omega) (by rw [byt_u8]; omega) ?_
  · intro j v hj
    refine ⟨_, rfl, ?_⟩
    rw [add_lit, cellAt_of p1.new, List.getElem?_toArray, Nat.zero_add]; exact hj
  · intro z hz
    simp only [List.mem_cons, List.not_mem_nil, or_false] at hz
    rcases hz with rfl | rfl <;> exact trivial
  intro a' c' h' own s' old hor
  rw [siz_u8] at own
  refine H a' c' h' ?_ (fun b hb => ?_) ⟨by omega, fun b hb hS => (old b (by omega) fun ad e eb => hS ⟨ad, e, eb⟩).trans (p1.old b hb)⟩
  · unfold OwnB; rw [List.map_append]; exact own
  · obtain ⟨ad, e, rfl⟩ := hb
    rcases hor with h2 | h2
    · rw [h2] at e; exact .inl ⟨ad, e, rfl⟩
    · rw [h2] at e; cases e; right; show h.size ≤ h1.size; omega
theorem by8_wrap {n : Int} {i : Nat} (hn : InR n) (hi : i < 4) : IntKind.wrap .u8 (Int.fdiv n (2 ^ (min (IntKind.wrap .i64 (8 * (i : Int))).toNat 32))) = by8 n i := by
  rw [wrap64_id' (by omega) (by omega)]
  have e1 : (8 * (i : Int)).toNat = 8 * i := by omega
  rw [e1, Nat.min_eq_left (by omega)]
  have e2 : Int.fdiv n (2 ^ (8 * i)) = n / 2 ^ (8 * i) := Int.fdiv_eq_ediv_of_nonneg _ (Int.le_of_lt (Int.pow_pos (by omega)))
  rw [e2]
  unfold by8 IntKind.wrap IntKind.signed IntKind.bits
  simp only
  rw [if_neg (by simp)]
  rfl
def txI (p : Pr) : Nat → List Int
  | 0 => []
  | i + 1 => txI p i ++ [by8 p.1 i, by8 p.2 i]
theorem txI_4 (p : Pr) : txI p 4 = txP p := rfl
theorem txI_len (p : Pr) : ∀ i, (txI p i).length = 2 * i := by
  intro i
  induction i with
  | zero => rfl
  | succ i ih => unfold txI; rw [List.length_append, ih]; rfl
theorem txL_len (ps : List Pr) : (txL ps).length = 8 * ps.length := by
  induction ps with
  | nil => rfl
  | cons p ps ih => unfold txL at *; rw [List.flatMap_cons, List.length_append, ih]; show 8 + _ = _; simp only [List.length_cons]; omega
theorem linText_call {K : Value → Heap → Prop} {h : Heap} {p : Nat} {a : Option Addr} {ps : List Pr} (H : BagF h p a ps) (hr : InRs ps) (hl : ps.length ≤ 2 ^ 30) (k : ∀ h', Old h.size h h' → K (.string (txS ps)) h') : CallH Try.prog 81 #[.pointer (some ⟨p, 0, none⟩)] h K := by
  refine call81 ?_
  unfold F81
  refine callV_fn (bagList_call H (by omega) fun ra rc h1 own1 hb1 o1 => ?_)
  simp only [asSlice_slice]
  have S1 := own1.sx
  refine ⟨fun vs h' => ∃ w1 w2, ∃ i : Nat, ∃ o c, vs = [.slice o (8 * i) c, w1, iv i, w2] ∧ i ≤ ps.length ∧ Old h1.size h1 h' ∧ OwnB h' o (8 * i) c (txL (ps.take i)) ∧ (∀ b, blk o b → h1.size ≤ b),
    fun vs _ => (match vs with | [_, _, .int _ n, _] => ps.length - n.toNat | _ => 0), ⟨_, _, 0, none, 0, rfl, Nat.zero_le _, Old.refl _ _, Own.nil _ _ _, fun b hb => absurd hb (blk_none b)⟩, ?_⟩
  rintro v7 v8 v9 v10 g11 h12 ⟨w1, w2, i, o, c, e, hi, o12, own12, hb12⟩
  cases e
  simp only [asInt_int, asI_int, asSlice_slice]
  refine ifB_dec (fun hlt => ?_) (fun hge => ?_)
  · have hi' : i < ps.length := by omega
    obtain ⟨ad, rfl, hc0, hc1⟩ := spr_at (S1.old o12) hi'
    have hin := hr _ (List.getElem_mem hi')
    have htk : txL (ps.take (i + 1)) = txL (ps.take i) ++ txP ps[i] := by unfold txL; rw [List.take_succ_eq_append_getElem hi', List.flatMap_append]; simp
    generalize ps[i] = x at *
    refine ⟨by omega, hlt, ?_⟩
    simp only [asPtr_some, Int.toNat_natCast]
    refine ldH_mk hc0 (ldH_mk hc1 ?_)
    have p13 := pushed h12 #[.int .u32 0, .int .u32 0] 29
    generalize h12.push (.cells #[.int .u32 0, .int .u32 0] 29) = h13 at *
    have s13 := p13.size
    refine stKP (stN_full (vs := prc x) p13.new rfl (prc_one x) fun h19 w19 => ?_)
    have o19 : Old h12.size h12 h19 := w19.toOld p13.toOld (Nat.le_refl _)
    have s19 : h19.size = h12.size + 1 := by rw [w19.size]; exact s13
    have own19 : OwnB h19 o (8 * i) c (txL (ps.take i)) := own12.keep fun ad e => o19.2 _ (own12.lt ad e)
    refine ⟨fun vs h' => ∃ w1, ∃ j : Nat, ∃ o c, vs = [.slice o (8 * i + 2 * j) c, w1, iv j] ∧ j ≤ 4 ∧ Old h1.size h1 h' ∧ h'[h12.size]? = some (.cells (prc x).toArray 29) ∧ OwnB h' o (8 * i + 2 * j) c (txL (ps.take i) ++ txI x j) ∧ (∀ b, blk o b → h1.size ≤ b ∧ b ≠ h12.size),
      fun vs _ => (match vs with | [_, _, .int _ n] => 4 - n.toNat | _ => 0), ⟨_, 0, o, c, rfl, by omega, o12.trans (o19.mono o12.1), w19.new, by simpa [txI] using own19, fun b hb => ⟨hb12 b hb, by have := own12.lt2 hb; omega⟩⟩, ?_⟩
    rintro v22 v23 v24 g25 h26 ⟨w3, j, o', c', e, hj, o26, x26, own26, hb26⟩
    cases e
    simp only [asInt_int, asSlice_slice]
    refine ifB_dec (fun hjlt => ?_) (fun hjge => ?_)
    · have hj4 : j < 4 := by omega
      have hw : (0 : Int) ≤ IntKind.wrap .i64 (8 * (j : Int)) := by rw [wrap64_id' (by omega) (by omega)]; omega
      refine ldR x26 rfl ?_
      simp only [asInt_int]
      refine ⟨hw, ldR x26 rfl ?_⟩
      simp only [asInt_int]
      refine ⟨hw, ?_⟩
      rw [by8_wrap hin.1 hj4, by8_wrap hin.2 hj4]
      refine app_b2 own26 (by omega) fun a' c2 h37 own37 hb37 fr37 => ?_
      simp only [asSlice_slice]
      rw [nat_wrap1 (by omega)]
      have hx : h12.size < h26.size := (Array.getElem?_eq_some_iff.1 x26).1
      refine ⟨⟨_, j + 1, a', c2, rfl, by omega, ⟨by have := o26.1; have := fr37.1; omega, fun b hb => ?_⟩, (fr37.2 _ hx (fun h => (hb26 _ h).2 rfl)).trans x26, ?_, fun b hb => ?_⟩, by show 4 - ((j + 1 : Nat) : Int).toNat < 4 - (j : Int).toNat; omega⟩
      · exact (fr37.2 b (by have := o26.1; omega) (fun h => by have := (hb26 b h).1; omega)).trans (o26.2 b hb)
      · have e2 : 8 * i + 2 * j + 2 = 8 * i + 2 * (j + 1) := by omega
        rw [e2] at own37
        unfold txI
        rw [← List.append_assoc]; exact own37
      · rcases hb37 b hb with h2 | h2
        · exact hb26 b h2
        · have := o26.1; omega
    · obtain rfl : j = 4 := by omega
      rw [nat_wrap1 (by omega)]
      rw [txI_4, ← htk] at own26
      exact ⟨⟨_, _, i + 1, o', c', by rw [show 8 * i + 2 * 4 = 8 * (i + 1) by omega], by omega, o26, own26, fun b hb => (hb26 b hb).1⟩, by show ps.length - ((i + 1 : Nat) : Int).toNat < ps.length - (i : Int).toNat; omega⟩
  · obtain rfl : i = ps.length := by omega
    rw [List.take_length] at own12
    refine cvt_bytes own12.sees (txL_len ps) ?_
    simp only [asStr_str]
    exact k h12 (o1.trans (o12.mono o1.1))
end Go.Proofs.Ytlncjcbofgjcfaa
end
section
/- A search in the heap: where it stands, what is answered, what may be answered. -/
set_option linter.unusedSimpArgs false
set_option linter.unusedVariables false
set_option maxRecDepth 20000
namespace Go.Proofs.Ytlncjcbofgjcfaa

theorem SlO.keep {h h' : Heap} {a : Option Addr} {l c : Nat} {ops : List Op9} (H : SlO h a l c ops) (k : ∀ ad, a = some ad → h'[ad.block]? = h[ad.block]?) : SlO h' a l c ops := ⟨H.s.keep k, H.len, H.cap⟩
/-- A search at q. -/
structure LinS (h : Heap) (N q : Nat) (la : Option Addr) (lc : Nat) (L : List Op9) (m db : Nat) (oa : Option Addr) (T : List Int) (ks : List (Int × ByteArray)) : Prop where
  obj : ∃ oc, h[q]? = some (.cells #[.slice la L.length lc, .map (some m), .slice (some ⟨db, 0, none⟩) L.length L.length, .slice oa T.length oc] 96) ∧ OwnI h oa T.length oc T
  sl : SlO h la L.length lc L
  met : MetF h m ks
  dn : h[db]? = some (.cells (inRow L.length T).toArray 4)
  lo : ∀ (i : Nat) (v : Value), (L.flatMap Op9.cells)[i]? = some v → ∀ b, blk la b → b < N
  nq : N ≤ q
  nm : N ≤ m
  nd : N ≤ db
  no : ∀ b, blk oa b → N ≤ b
/-- What a search may change. -/
def linF (q m db : Nat) (oa : Option Addr) (b : Nat) : Prop := b = q ∨ b = m ∨ b = db ∨ blk oa b
section
variable {h h' : Heap} {N q : Nat} {la : Option Addr} {lc : Nat} {L : List Op9} {m db : Nat} {oa : Option Addr} {T : List Int} {ks : List (Int × ByteArray)}
theorem LinS.lt (H : LinS h N q la lc L m db oa T ks) {b : Nat} (hb : linF q m db oa b) : b < h.size := by
  obtain ⟨oc, e, own⟩ := H.obj
  rcases hb with rfl | rfl | rfl | hb
  · exact (Array.getElem?_eq_some_iff.1 e).1
  · exact H.met.lt
  · exact (Array.getElem?_eq_some_iff.1 H.dn).1
  · exact own.lt2 hb
theorem LinS.ge (H : LinS h N q la lc L m db oa T ks) {b : Nat} (hb : linF q m db oa b) : N ≤ b := by
  rcases hb with rfl | rfl | rfl | hb
  · exact H.nq
  · exact H.nm
  · exact H.nd
  · exact H.no b hb
theorem LinS.keep (H : LinS h N q la lc L m db oa T ks) (k : ∀ b, linF q m db oa b → h'[b]? = h[b]?) (k2 : ∀ b, b < N → b < h.size → h'[b]? = h[b]?) : LinS h' N q la lc L m db oa T ks := by
  obtain ⟨oc, e, own⟩ := H.obj
  have hq := H.lt (.inl rfl)
  refine { H with obj := ⟨oc, (k q (.inl rfl)).trans e, own.keep fun ad ea => k _ (.inr (.inr (.inr ⟨ad, ea, rfl⟩)))⟩, sl := ?_, met := H.met.keep (k m (.inr (.inl rfl))), dn := (k db (.inr (.inr (.inl rfl)))).trans H.dn }
  refine ⟨fun i v hi => ?_, H.sl.len, H.sl.cap⟩
  obtain ⟨ad, ea, hc⟩ := H.sl.s i v hi
  have hl := H.lo _ _ hi ad.block ⟨ad, ea, rfl⟩
  refine ⟨ad, ea, (cellAt_congr (by rw [add_block]; exact k2 _ hl (by have := cellAt_lt hc; rwa [add_block] at this))).trans hc⟩
theorem LinS.old (H : LinS h N q la lc L m db oa T ks) (o : Old h.size h h') : LinS h' N q la lc L m db oa T ks := H.keep (fun b hb => o.2 b (H.lt hb)) (fun b _ hb => o.2 b hb)
theorem LinS.fr {S : Nat → Prop} (H : LinS h N q la lc L m db oa T ks) (x : Fr S h h') (hS : ∀ b, linF q m db oa b → ¬ S b) (hN : ∀ b, b < N → ¬ S b) : LinS h' N q la lc L m db oa T ks := H.keep (fun b hb => x.2 b (H.lt hb) (hS b hb)) (fun b hb hb2 => x.2 b hb2 (hN b hb))
theorem LinS.ne_qm (H : LinS h N q la lc L m db oa T ks) : q ≠ m := by
  rintro rfl
  obtain ⟨oc, e, _⟩ := H.obj
  obtain ⟨es, c, e2, _⟩ := H.met
  rw [e] at e2; cases e2
theorem LinS.ne_qd (H : LinS h N q la lc L m db oa T ks) : q ≠ db := by
  rintro rfl
  obtain ⟨oc, e, _⟩ := H.obj
  have := H.dn
  rw [e] at this
  injection (Option.some.inj this) with _ h2 _
  exact absurd h2 (by decide)
theorem LinS.ne_md (H : LinS h N q la lc L m db oa T ks) : m ≠ db := by
  rintro rfl
  obtain ⟨es, c, e2, _⟩ := H.met
  have := H.dn
  rw [e2] at this; cases this
theorem own_at {h : Heap} {t : TypeId} {n l c : Nat} {a : Option Addr} {xs : List Value} (own : Own h t n a l c xs) {b : Nat} (hb : blk a b) : ∃ row, h[b]? = some (.cells row t) := by
  obtain ⟨ad, e, eb⟩ := hb
  rcases own.2.2 with ⟨e2, _⟩ | ⟨bb, row, e2, hbb, _⟩
  · rw [e] at e2; cases e2
  · rw [e] at e2; cases e2
    simp only at eb
    subst eb
    exact ⟨row, hbb⟩
theorem LinS.ne_o (H : LinS h N q la lc L m db oa T ks) {b : Nat} (hb : blk oa b) : b ≠ q ∧ b ≠ m ∧ b ≠ db := by
  obtain ⟨oc, e, own⟩ := H.obj
  obtain ⟨row, eb⟩ := own_at own hb
  refine ⟨?_, ?_, ?_⟩
  · rintro rfl; rw [e] at eb; cases eb
  · rintro rfl
    obtain ⟨es, c, e2, _⟩ := H.met
    rw [e2] at eb; cases eb
  · rintro rfl
    have := H.dn
    rw [this] at eb; cases eb
/-- A search's blocks are none of a bag's. -/
theorem LinS.bag (H : LinS h N q la lc L m db oa T ks) {p : Nat} {a : Option Addr} {ps : List Pr} (B : BagF h p a ps) {b : Nat} (hb : linF q m db oa b) : ¬ bagS p a b := by
  obtain ⟨oc, e, own⟩ := H.obj
  obtain ⟨bc, be, bo, bs⟩ := B
  have key : ∀ {row : Array Value} {t : TypeId}, h[b]? = some (.cells row t) → t ≠ 25 → t ≠ 29 → ¬ bagS p a b := by
    rintro row t eb n1 n2 (rfl | hb2)
    · rw [be] at eb; cases eb; exact n1 rfl
    · obtain ⟨row2, e2⟩ := own_at bo hb2
      rw [e2] at eb; cases eb; exact n2 rfl
  rcases hb with rfl | rfl | rfl | hb
  · exact key e (by decide) (by decide)
  · obtain ⟨es, c, e2, _⟩ := H.met
    rintro (rfl | hb2)
    · rw [be] at e2; cases e2
    · obtain ⟨row2, e3⟩ := own_at bo hb2
      rw [e2] at e3; cases e3
  · exact key H.dn (by decide) (by decide)
  · obtain ⟨row, eb⟩ := own_at own hb
    exact key eb (by decide) (by decide)
end

/-! ### where the search stands -/
theorem or_wrap {a i : Nat} (ha : a < 2 ^ 63) (hi : i < 63) : IntKind.wrap .u64 ((((BitVec.ofInt 64 (a : Int)) ||| (BitVec.ofInt 64 (IntKind.wrap .u64 (1 * (2 ^ (min i 64)))))).toNat : Nat) : Int) = ((a ||| 1 <<< i : Nat) : Int) := by
  have h2 : (2 : Nat) ^ i < 2 ^ 63 := Nat.pow_lt_pow_right (by omega) hi
  rw [Nat.min_eq_left (by omega), Int.one_mul]
  have e1 : ((2 : Int) ^ i) = ((2 ^ i : Nat) : Int) := by simp
  rw [e1, wrap64u (n := 2 ^ i) (by omega)]
  have e2 : ∀ n : Nat, n < 2 ^ 63 → (BitVec.ofInt 64 (n : Int)).toNat = n := by
    intro n hn
    rw [BitVec.toNat_ofInt]
    omega
  rw [BitVec.toNat_or, e2 a ha, e2 _ h2, Nat.one_shiftLeft]
  have h3 : a ||| 2 ^ i < 2 ^ 63 := Nat.or_lt_two_pow ha h2
  exact wrap64u (by omega)
theorem maskN_succ (T : List Int) (i : Nat) : maskN T (i + 1) = maskN T i ||| (if (i : Int) ∈ T then 1 <<< i else 0) := rfl
theorem linState_call {K : Value → Heap → Prop} {h : Heap} {N q : Nat} {la : Option Addr} {lc : Nat} {L : List Op9} {m db : Nat} {oa : Option Addr} {T : List Int} {ks : List (Int × ByteArray)} {p : Nat} {a : Option Addr} {ps : List Pr}
    (H : LinS h N q la lc L m db oa T ks) (hL : L.length ≤ 48) (B : BagF h p a ps) (hr : InRs ps) (hl : ps.length ≤ 2 ^ 30) (k : ∀ h', Old h.size h h' → K (keyV (St.key L.length ⟨T, ps⟩)) h') :
    CallH Try.prog 67 #[.pointer (some ⟨q, 0, none⟩), .pointer (some ⟨p, 0, none⟩)] h K := by
  refine call67 ?_
  unfold F67
  have p0 := pushed h [Value.int .u64 0, .string ⟨#[]⟩].toArray 115
  rw [show h.push (.cells #[.int .u64 0, .string ⟨#[]⟩] 115) = h.push (.cells [Value.int .u64 0, .string ⟨#[]⟩].toArray 115) from rfl]
  generalize h.push (.cells [Value.int .u64 0, .string ⟨#[]⟩].toArray 115) = h0 at *
  have s0 := p0.size
  have o0 := p0.toOld
  refine callV_fn (linText_call (B.old o0) hr hl fun h1 o1 => ?_)
  simp only [asStr_str]
  have ok1 : Old h.size h h1 := o0.trans (o1.mono o0.1)
  have x1 : h1[h.size]? = some (.cells [Value.int .u64 0, .string ⟨#[]⟩].toArray 115) := (o1.2 _ (by omega)).trans p0.new
  have p2 := pushed h1 [Value.int .u64 0, .string ⟨#[]⟩].toArray 115
  rw [show h1.push (.cells #[.int .u64 0, .string ⟨#[]⟩] 115) = h1.push (.cells [Value.int .u64 0, .string ⟨#[]⟩].toArray 115) from rfl]
  generalize h1.push (.cells [Value.int .u64 0, .string ⟨#[]⟩].toArray 115) = h2 at *
  have s2 := p2.size
  refine stR p2.new rfl trivial fun h3 w3 => ?_
  refine stR w3.new rfl trivial fun h4 w4' => ?_
  have w4 := w3.trans w4'
  have o4 : Old h1.size h1 h4 := w4.toOld p2.toOld (Nat.le_refl _)
  have ok4 : Old h.size h h4 := ok1.trans (o4.mono ok1.1)
  have hs1 := o1.1
  have x4 := (o4.2 _ (by omega)).trans x1
  have H4 := H.old ok4
  obtain ⟨oc, e4, own4⟩ := H4.obj
  simp only [nilC, asPtr_some]
  rw [add_lit]
  refine ldR e4 rfl ?_
  simp only [asSlice_slice]
  refine ⟨fun vs h' => ∃ v1 v2, ∃ i : Nat, vs = [v1, v2, iv i] ∧ i ≤ L.length ∧ Wrote h4 h1.size [Value.int .u64 (maskN T i : Nat), .string (txS ps)].toArray 115 h', fun vs _ => (match vs with | [_, _, .int _ n] => L.length - n.toNat | _ => 0),
    ⟨_, _, 0, rfl, Nat.zero_le _, ⟨rfl, w4.new, fun _ _ => rfl⟩⟩, ?_⟩
  rintro v12 v13 v14 g15 h16 ⟨v1, v2, i, e, hi, w16⟩
  cases e
  simp only [asInt_int, asI_int]
  have o16 : ∀ {r : Array Value} {h' : Heap}, Wrote h4 h1.size r 115 h' → Old h1.size h1 h' := fun w => w.toOld o4 (Nat.le_refl _)
  have hne : db ≠ h1.size := by have := H.lt (.inr (.inr (.inl rfl)) : linF q m db oa db); have := ok1.1; omega
  refine ifB_dec (fun hlt => ?_) (fun hge => ?_)
  · refine ⟨by omega, hlt, ?_⟩
    simp only [asPtr_some, Int.toNat_natCast]
    have d16 : h16[db]? = some (.cells (inRow L.length T).toArray 4) := (w16.old _ hne).trans H4.dn
    have := mark_at d16 (x := (i : Int)) (by omega) hlt
    rw [Int.toNat_natCast] at this
    refine ldH_mk this ?_
    simp only [asBool_bool]
    have hms := maskN_succ T i
    refine ifB_dec (fun hin => ?_) (fun hout => ?_)
    · refine ldR w16.new rfl ?_
      simp only [asInt_int]
      refine ⟨by omega, ?_⟩
      have hlt2 := maskN_lt T i
      have hlt3 : (2 : Nat) ^ i ≤ 2 ^ 48 := Nat.pow_le_pow_right (by omega) (by omega)
      have hlt4 : (2 : Nat) ^ 48 < 2 ^ 63 := Nat.pow_lt_pow_right (by omega) (by omega)
      rw [or_wrap (by omega) (by omega)]
      rw [if_pos hin] at hms
      rw [← hms]
      refine stR w16.new rfl trivial fun h25 w25 => ?_
      rw [nat_wrap1 (by omega)]
      exact ⟨⟨_, _, i + 1, rfl, by omega, w16.trans w25⟩, by show L.length - ((i + 1 : Nat) : Int).toNat < L.length - (i : Int).toNat; omega⟩
    · rw [nat_wrap1 (by omega)]
      rw [if_neg hout, Nat.or_zero] at hms
      exact ⟨⟨_, _, i + 1, rfl, by omega, by rw [hms]; exact w16⟩, by show L.length - ((i + 1 : Nat) : Int).toNat < L.length - (i : Int).toNat; omega⟩
  · obtain rfl : i = L.length := by omega
    refine ldR w16.new rfl (ldR w16.new rfl ?_)
    have x16 : h16[h.size]? = _ := (w16.old _ (by omega)).trans x4
    refine stR x16 rfl trivial fun h30 w30 => ?_
    refine stR w30.new rfl trivial fun h31 w31' => ?_
    have w31 := w30.trans w31'
    refine ldR w31.new rfl (ldR w31.new rfl ?_)
    have oo := o16 w16
    exact k h31 (w31.toOld (ok1.trans (oo.mono ok1.1)) (Nat.le_refl _))

/-! ### is all that is answered done? -/
def leftB (L : List Op9) (T : List Int) (y : Int) : Bool := decide (0 ≤ (opAt L y).to) && !decide (y ∈ T)
def fullB (L : List Op9) (T : List Int) : Bool := !(((List.range L.length).map fun k : Nat => (k : Int)).any (leftB L T))
theorem fullB_iff (L : List Op9) (T : List Int) : fullB L T = true ↔ fullT L T := by
  unfold fullB fullT
  rw [Bool.not_eq_true', List.any_eq_false]
  constructor
  · intro H y h0 h1 h2
    have := H y (List.mem_map.2 ⟨y.toNat, List.mem_range.2 (by omega), by omega⟩)
    unfold leftB at this
    rw [decide_eq_true h2, Bool.true_and] at this
    simpa using this
  · intro H x hx hb
    obtain ⟨i, hi, rfl⟩ := List.mem_map.1 hx
    have hi := List.mem_range.1 hi
    unfold leftB at hb
    simp only [Bool.and_eq_true, decide_eq_true_eq, Bool.not_eq_true', decide_eq_false_iff_not] at hb
    exact hb.2 (H _ (by omega) (by omega) hb.1)
theorem linFull_call {K : Value → Heap → Prop} {h : Heap} {N q : Nat} {la : Option Addr} {lc : Nat} {L : List Op9} {m db : Nat} {oa : Option Addr} {T : List Int} {ks : List (Int × ByteArray)}
    (H : LinS h N q la lc L m db oa T ks) (hL : L.length ≤ 48) (k : ∀ h', Old h.size h h' → K (.bool (fullB L T)) h') : CallH Try.prog 65 #[.pointer (some ⟨q, 0, none⟩)] h K := by
  refine call65 ?_
  unfold F65
  have p1 := pushed h #[.pointer (some ⟨q, 0, none⟩)] 92
  generalize h.push (.cells #[.pointer (some ⟨q, 0, none⟩)] 92) = h1 at *
  have o1 := p1.toOld
  have H1 := H.old o1
  obtain ⟨oc, e1, own1⟩ := H1.obj
  refine ldR p1.new rfl ?_
  simp only [asPtrO_ptr, nilC, asPtr_some]
  refine ldR e1 rfl ?_
  simp only [asSlice_slice]
  refine callV_fn (count_list (l := L.length) (by omega) fun g h8 H8 o8 => ?_)
  have ok8 : Old h.size h h8 := o1.trans (o8.mono o1.1)
  refine callV_fn (some_on (p := leftB L T) (D := fun y => 0 ≤ y ∧ y < L.length) H8 ?_ ?_ fun h10 o10 => ?_)
  · refine ⟨⟨_, _, _, rfl⟩, fun h' => cellAt h' ⟨h.size, 0, none⟩ = some (.pointer (some ⟨q, 0, none⟩)) ∧ LinS h' N q la lc L m db oa T ks, ⟨cell_stable _ _ o8 (cellAt_row p1.new), H1.old o8⟩, fun a b o e => ⟨cell_stable _ _ o e.1, e.2.old o⟩, ?_⟩
    rintro h' y K' ⟨x1, x2⟩ ⟨y0, y1⟩ kk
    refine callV_cl ?_
    rw [cl2]
    refine call80 ?_
    unfold F80
    have kk := kk h' (Old.refl _ _)
    obtain ⟨oc, e', own'⟩ := x2.obj
    simp only [asPtr_some]
    refine ldH_mk x1 ?_
    simp only [asPtrO_ptr, nilC, asPtr_some]
    refine ldR e' rfl ?_
    simp only [asSlice_slice]
    obtain ⟨bd, rfl, b0, b1⟩ := x2.sl.int y0 y1
    refine ⟨y0, y1, ?_⟩
    simp only [asPtr_some]
    refine ldH_mk (b1 8 _ rfl) ?_
    simp only [asInt_int]
    unfold leftB at kk
    refine ifB_dec (fun hq => ?_) (fun hq => ?_)
    · rw [decide_eq_true (p := 0 ≤ _) (by omega), Bool.true_and] at kk
      refine ldH_mk x1 ?_
      simp only [asPtrO_ptr, asPtr_some]
      rw [add_lit]
      refine ldR e' rfl ?_
      simp only [asSlice_slice]
      refine ⟨y0, y1, ?_⟩
      simp only [asPtr_some]
      refine ldH_mk (mark_at x2.dn y0 y1) ?_
      simp only [asBool_bool]
      exact kk
    · rwa [decide_eq_false (p := 0 ≤ _) (by omega), Bool.false_and] at kk
  · intro x hx
    obtain ⟨i, hi, rfl⟩ := List.mem_map.1 hx
    have := List.mem_range.1 hi
    omega
  · simp only [asBool_bool]
    exact k h10 (ok8.trans (o10.mono ok8.1))

/-! ### what an operation may be answered -/
theorem sx_one {h : Heap} {b : Nat} {x : C3} {t : TypeId} (e : h[b]? = some (.cells (c3c x).toArray t)) : SX c3c h (some ⟨b, 0, none⟩) 1 1 [x] := ⟨fun j v hj => ⟨_, rfl, by rw [add_lit, cellAt_of e, List.getElem?_toArray, Nat.zero_add]; simpa using hj⟩, rfl, Nat.le_refl _⟩
theorem linAnswers_call {K : Value → Heap → Prop} {h : Heap} {p : Nat} {a : Option Addr} {ps : List Pr} {x : Op9} (B : BagF h p a ps) (hl : ps.length ≤ 2 ^ 30)
    (k : ∀ a' c' h', SX c3c h' a' (answersP x ps).length c' (answersP x ps) → (∀ b, blk a' b → h.size ≤ b) → Old h.size h h' → K (.slice a' (answersP x ps).length c') h') :
    CallH Try.prog 86 #[.agg x.cells.toArray, .pointer (some ⟨p, 0, none⟩)] h K := by
  refine call86 ?_
  unfold F86
  have p1 := pushed h x.cells.toArray 65
  rw [show h.push (.cells #[.int .i64 x.th, .int .i64 x.op, .int .u32 x.key, .int .u32 x.val, .int .i64 x.kind, .int .u32 x.ak, .int .u32 x.av, .int .i64 x.fr, .int .i64 x.to] 65) = h.push (.cells x.cells.toArray 65) from rfl]
  generalize h.push (.cells x.cells.toArray 65) = h1 at *
  have s1 := p1.size
  have o1 := p1.toOld
  have one : ∀ (y : C3), answersP x ps = [y] → K (.slice (some ⟨h1.size, 0, none⟩) 1 1) (h1.push (.cells #[.int .i64 y.o, .int .u32 y.k, .int .u32 y.v] 42)) := by
    intro y e
    have p2 := pushed h1 (c3c y).toArray 42
    rw [show h1.push (.cells #[.int .i64 y.o, .int .u32 y.k, .int .u32 y.v] 42) = h1.push (.cells (c3c y).toArray 42) from rfl]
    have := k (some ⟨h1.size, 0, none⟩) 1 _ (by rw [e]; exact sx_one p2.new) (fun b ⟨ad, ea, eb⟩ => by cases ea; rw [← eb]; show h.size ≤ h1.size; omega) (o1.trans (p2.toOld.mono o1.1))
    rw [e] at this; exact this
  simp only [add_lit]
  refine ldR p1.new rfl ?_
  simp only [asInt_int]
  refine ifB_dec (fun hto => ?_) (fun hto => ?_)
  · refine ldR p1.new rfl (ldR p1.new rfl (ldR p1.new rfl ?_))
    exact one (opA x) (by unfold answersP; rw [if_pos (by omega)])
  refine ldR p1.new rfl ?_
  simp only [asInt_int]
  refine ifB_mk (fun h0 => ?_) (fun h0 => ?_)
  · exact one ⟨0, 0, 0⟩ (by unfold answersP; rw [if_neg (by omega), if_pos (by simpa using h0)])
  refine ldR p1.new rfl ?_
  simp only [asInt_int]
  refine ifB_mk (fun h2 => ?_) (fun h2 => ?_)
  · have e : answersP x ps = [] := by unfold answersP; rw [if_neg (by omega), if_neg (by simpa using h0), if_pos (by simpa using h2)]
    rw [e] at k
    exact k none 0 h1 ⟨Sees.nil _ _, rfl, Nat.le_refl _⟩ (fun b hb => absurd hb (blk_none b)) o1
  have e : answersP x ps = (minsP ps).map fun p => ⟨2, p.1, p.2⟩ := by unfold answersP; rw [if_neg (by omega), if_neg (by simpa using h0), if_neg (by simpa using h2)]
  have hml := minsP_len ps
  refine callV_fn (bagMins_call (B.old o1) (by omega) fun a2 c2 h10 S10 o10 => ?_)
  simp only [asSlice_slice]
  refine callV_fn (ofP_call S10 (by omega) fun g h15 G15 o15 => ?_)
  refine callV_fn (eachPA_call (p := fun p => (⟨2, p.1, p.2⟩ : C3)) G15 ⟨⟨_, _, _, rfl⟩, fun _ => True, trivial, fun _ _ _ _ => trivial, ?_⟩ fun g2 h17 G17 o17 => ?_)
  · intro h' y K' _ kk
    refine callV_fn (call104 ?_)
    unfold F104
    have q1 := pushed h' (prc y).toArray 29
    rw [show h'.push (.cells #[.int .u32 y.1, .int .u32 y.2] 29) = h'.push (.cells (prc y).toArray 29) from rfl]
    generalize h'.push (.cells (prc y).toArray 29) = j1 at *
    have t1 := q1.size
    have q2 := pushed j1 zeroC.cells.toArray 42
    rw [show j1.push (.cells #[.int .i64 0, .int .u32 0, .int .u32 0] 42) = j1.push (.cells zeroC.cells.toArray 42) from rfl]
    generalize j1.push (.cells zeroC.cells.toArray 42) = j2 at *
    have y2 : j2[h'.size]? = some (.cells (prc y).toArray 29) := (q2.old _ (by omega)).trans q1.new
    refine ldR y2 rfl ?_
    simp only [asInt_int]
    refine ldR y2 rfl ?_
    simp only [asInt_int]
    refine st3' (stN_full (vs := c3c ⟨2, y.1, y.2⟩) q2.new rfl (c3_one _) fun j8 w => ?_)
    refine ldR w.new rfl (ldR w.new rfl (ldR w.new rfl ?_))
    exact kk j8 (w.toOld (q1.toOld.trans (q2.toOld.mono (by omega))) (by omega))
  have ok10 : Old h.size h h10 := o1.trans (o10.mono o1.1)
  have ok15 : Old h.size h h15 := ok10.trans (o15.mono ok10.1)
  have ok17 : Old h.size h h17 := ok15.trans (o17.mono ok15.1)
  refine callV_fn (listA_call G17 (by rw [List.length_map]; omega) fun a3 c3 h19 own19 hb19 o19 => ?_)
  simp only [asSlice_slice]
  have := k a3 c3 h19 (by rw [e]; exact Own.sx c3c_len (by omega) own19) (fun b hb => Nat.le_trans ok17.1 (hb19 b hb)) (ok17.trans (o19.mono ok17.1))
  rw [e] at this; exact this
end Go.Proofs.Ytlncjcbofgjcfaa
end
section
/- Operations one by one: kept, the first ones, is there one (printed by a program of mine). -/
set_option linter.unusedSimpArgs false
set_option linter.unusedVariables false
set_option maxRecDepth 20000
namespace Go.Proofs.Ytlncjcbofgjcfaa

theorem stKO {h : Heap} {b : Nat} {v0 v1 v2 v3 v4 v5 v6 v7 v8 : Value} {K : Heap → Prop} (H : stN h ⟨b, 0, none⟩ 0 [v0, v1, v2, v3, v4, v5, v6, v7, v8] K) : stH h ⟨b, 0, none⟩ v0 fun h => stH h ⟨b, 1, none⟩ v1 fun h => stH h ⟨b, 2, none⟩ v2 fun h => stH h ⟨b, 3, none⟩ v3 fun h => stH h ⟨b, 4, none⟩ v4 fun h => stH h ⟨b, 5, none⟩ v5 fun h => stH h ⟨b, 6, none⟩ v6 fun h => stH h ⟨b, 7, none⟩ v7 fun h => stH h ⟨b, 8, none⟩ v8 K := H
theorem ofO_seq {p : Nat} {a : Option Addr} {l c : Nat} {xs : List Op9} (hl : l < 2 ^ 60) :
    SeqH Try.prog (.func (.func 122) #[] #[.pointer (some ⟨p, 0, none⟩)]) xs.length (sqG op9c xs) (fun h => cellAt h ⟨p, 0, none⟩ = some (.slice a l c) ∧ SX op9c h a l c xs) := by
  intro yf y1 y2 h N I X hN hev hok hy
  refine callV_cl ?_
  rw [cl2]
  refine call122 ?_
  unfold F122
  have hlen := hev.2.len
  simp only [asPtr_some]
  refine ldH_mk hev.1 ?_
  simp only [asSlice_slice]
  refine ⟨fun vs h' => ∃ k : Nat, vs = [iv k] ∧ k ≤ l ∧ h.size ≤ h'.size ∧ I h.size k h', fun vs _ => (match vs with | [.int _ n] => l - n.toNat | _ => 0), ⟨0, rfl, by omega, Nat.le_refl _, hok.self⟩, ?_⟩
  rintro v7 g h9 ⟨k, e, hk, hs, hI⟩
  cases e
  simp only [asInt_int, asI_int]
  refine ifB_dec (fun hlt => ?_) (fun hge => ?_)
  · have hlt' : k < xs.length := by omega
    obtain ⟨ad, rfl, hc⟩ := SX.at op9_len (by omega) (hok.env _ _ _ hN hs hI).2 hlt'
    refine ⟨by omega, hlt, ?_⟩
    simp only [asPtr_some, Int.toNat_natCast]
    refine ldH_mk (hc 0 _ rfl) (ldH_mk (hc 1 _ rfl) (ldH_mk (hc 2 _ rfl) (ldH_mk (hc 3 _ rfl) (ldH_mk (hc 4 _ rfl) (ldH_mk (hc 5 _ rfl) (ldH_mk (hc 6 _ rfl) (ldH_mk (hc 7 _ rfl) (ldH_mk (hc 8 _ rfl) ?_))))))))
    have p1 := pushed h9 #[.int .i64 0, .int .i64 0, .int .u32 0, .int .u32 0, .int .i64 0, .int .u32 0, .int .u32 0, .int .i64 0, .int .i64 0] 65
    generalize h9.push (.cells #[.int .i64 0, .int .i64 0, .int .u32 0, .int .u32 0, .int .i64 0, .int .u32 0, .int .u32 0, .int .i64 0, .int .i64 0] 65) = h10 at *
    refine stKO (stN_full (vs := op9c xs[k]) p1.new rfl (op9_one _) fun h16 w => ?_)
    have o16 : Old h9.size h9 h16 := w.toOld p1.toOld (Nat.le_refl _)
    refine ldR w.new rfl (ldR w.new rfl (ldR w.new rfl (ldR w.new rfl (ldR w.new rfl (ldR w.new rfl (ldR w.new rfl (ldR w.new rfl (ldR w.new rfl ?_))))))))
    have hI16 := hok.keepI _ _ h9 h16 hN hs hI (keep_of_old o16)
    have hyk := hy h.size k h16 hlt' hN (Nat.le_refl _) (Nat.le_trans hs o16.1) hI16
    rw [sqG_get op9c hlt'] at hyk
    refine callV_mono ?_ hyk
    rintro w' h'' ⟨hm, ⟨rfl, hI'⟩ | ⟨rfl, hX⟩⟩
    · simp only [asBool_bool, Bool.not_true, ifB_false]
      rw [nat_wrap1 (by omega)]
      refine ⟨⟨k + 1, rfl, by omega, Nat.le_trans hs (Nat.le_trans o16.1 hm.1), hI'⟩, ?_⟩
      show l - ((k + 1 : Nat) : Int).toNat < l - (k : Int).toNat
      omega
    · simp only [asBool_bool, Bool.not_false, ifB_true]
      exact ⟨h.size, hN, Nat.le_refl _, Nat.le_trans hs (Nat.le_trans o16.1 hm.1), .inr hX⟩
  · have : k = xs.length := by omega
    subst this
    exact ⟨h.size, hN, Nat.le_refl _, hs, .inl hI⟩
theorem ofO_call {K : Value → Heap → Prop} {h : Heap} {a : Option Addr} {l c : Nat} {xs : List Op9} (H : SX op9c h a l c xs) (hl : l < 2 ^ 60) (k : ∀ g h', SeqG op9c g xs h' → Old h.size h h' → K g h') :
    CallH Try.prog 107 #[.slice a l c] h K := by
  refine call107 ?_
  unfold F107
  have o1 : Old h.size h (h.push (.cells #[.slice a l c] 59)) := (Old.refl _ _).push _ (Nat.le_refl _)
  exact k _ _ ⟨_, _, _, _, rfl, ofO_seq hl, ⟨cellAt_row (push_new _ _), H.old o1⟩, fun h1 h2 o e => ⟨cell_stable _ _ o e.1, e.2.old o⟩⟩ o1
theorem onlyO_seq {sp kp : Nat} {g t : Value} {L : List Op9} {p : Op9 → Bool} {D : Op9 → Prop} {Ev Ek : Heap → Prop} (hD : ∀ x ∈ L, D x) (hg : fnV g) (hseq : SeqH Try.prog g L.length (sqG op9c L) Ev) (hst : ∀ h h', Old h.size h h' → Ev h → Ev h')
    (hsk : ∀ h h', Old h.size h h' → Ek h → Ek h') (hk : ∀ (h : Heap) (x : Op9) (K : Value → Heap → Prop), Ek h → D x → (∀ h', Old h.size h h' → K (.bool (p x)) h') → callV Try.prog t #[.agg (op9c x).toArray] h K) :
    SeqH Try.prog (.func (.func 125) #[] #[.pointer (some ⟨sp, 0, none⟩), .pointer (some ⟨kp, 0, none⟩)]) (L.filter p).length (sqG op9c (L.filter p))
      (fun h => cellAt h ⟨sp, 0, none⟩ = some g ∧ cellAt h ⟨kp, 0, none⟩ = some t ∧ Ev h ∧ Ek h) := by
  intro yf y1 y2 h N I X hN hev hok hy
  refine callV_cl ?_
  rw [cl3]
  refine call125 ?_
  unfold F125
  simp only [asPtr_some, oneC_func]
  have o1 : Old h.size h (h.push (.cells #[.func yf y1 y2] 162)) := (Old.refl _ _).push _ (Nat.le_refl _)
  have n1 := push_new h (.cells #[.func yf y1 y2] 162)
  have s1 : (h.push (.cells #[.func yf y1 y2] 162)).size = h.size + 1 := by simp
  generalize h.push (.cells #[.func yf y1 y2] 162) = h1 at *
  refine ldH_mk (cell_stable _ _ o1 hev.1) ?_
  refine rangeH_outer (h0 := h) (I := I) (X := X) (N := N) (n := L.length) (xs := sqG op9c L) (Ev := Ev) (fun _ h' => h'[h.size]? = some (.cells #[.func yf y1 y2] 162)) (fun j => ((L.take j).filter p).length) (L.filter p).length False
    hg hseq (fun k _ => sqG_size op9c L k) hN o1 hok (fun h' e => e.2.2.1) (hst _ _ o1 hev.2.2.1) (by simp) (by simp) (fun k ha hb hsame e => (hsame _ (Nat.le_refl _) (by omega)).trans e) n1 ?_ ?_ ?_
  · intro M j h4 hj hM hs hS hI
    rw [s1] at hM
    rw [show (sqG op9c L j).getD 0 (.tuple #[]) = .agg (op9c L[j]).toArray by rw [sqG_get op9c hj]; rfl]
    simp only [asAgg_agg]
    refine sizeH_mk rfl (elemH_mk rfl (elemH_mk rfl (elemH_mk rfl (elemH_mk rfl (elemH_mk rfl (elemH_mk rfl (elemH_mk rfl (elemH_mk rfl (elemH_mk rfl ?_)))))))))
    simp only [oneC_int, oneC_bool]
    have hev4 := hok.env M _ h4 (by omega) hs hI
    have p5 := pushed h4 (op9c L[j]).toArray 65
    rw [show h4.push (.cells #[.int .i64 (L[j]).th, .int .i64 (L[j]).op, .int .u32 (L[j]).key, .int .u32 (L[j]).val, .int .i64 (L[j]).kind, .int .u32 (L[j]).ak, .int .u32 (L[j]).av, .int .i64 (L[j]).fr, .int .i64 (L[j]).to] 65) = h4.push (.cells (op9c L[j]).toArray 65) from rfl]
    generalize h4.push (.cells (op9c L[j]).toArray 65) = h5 at *
    have o5 := p5.toOld
    have s5 := p5.size
    refine ⟨fun vs h' => ∃ b : Bool, vs = [.bool b] ∧ KeepMid h1.size M h4 h' ∧ (if b then X M () h' else h'[h.size]? = some (.cells #[.func yf y1 y2] 162) ∧ I M ((L.take (j + 1)).filter p).length h'), ?_, ?_⟩
    · refine ldH_mk (cell_stable _ _ o5 hev4.2.1) ?_
      refine ldR p5.new rfl (ldR p5.new rfl (ldR p5.new rfl (ldR p5.new rfl (ldR p5.new rfl (ldR p5.new rfl (ldR p5.new rfl (ldR p5.new rfl (ldR p5.new rfl ?_))))))))
      refine hk _ _ _ (hsk _ _ o5 hev4.2.2.2) (hD _ (List.getElem_mem _)) fun h10 o10' => ?_
      simp only [asBool_bool]
      have o10 : Old h4.size h4 h10 := o5.trans (o10'.mono o5.1)
      have r10 := (o10'.2 _ (show h4.size < h5.size by omega)).trans p5.new
      have hI10 := hok.keepI M _ h4 h10 (by omega) hs hI (keep_of_old o10)
      have hS10 : h10[h.size]? = some (.cells #[.func yf y1 y2] 162) := (o10.2 _ (by omega)).trans hS
      refine ifB_mk (fun hp => ?_) (fun hp => ?_)
      · refine ldH_mk (cellAt_row hS10) ?_
        refine ldR r10 rfl (ldR r10 rfl (ldR r10 rfl (ldR r10 rfl (ldR r10 rfl (ldR r10 rfl (ldR r10 rfl (ldR r10 rfl (ldR r10 rfl ?_))))))))
        obtain ⟨f1, f2⟩ := filterG_at hj hp
        have hyk := hy M _ h10 f1 (by omega) (by omega) (by have := o10.1; omega) hI10
        rw [show sqG op9c (L.filter p) ((L.take j).filter p).length = #[.agg (op9c L[j]).toArray] by unfold sqG; rw [f2]] at hyk
        refine callV_mono ?_ hyk
        rintro w h14 ⟨hm, hor⟩
        have hm4 : KeepMid h1.size M h4 h14 := (keepMid_of_old o10 hs).trans (hm.mono (by omega))
        rcases hor with ⟨rfl, hI'⟩ | ⟨rfl, hX⟩
        · simp only [asBool_bool, Bool.not_true]
          refine ⟨false, rfl, hm4, ?_⟩
          simp only [Bool.false_eq_true, if_false]
          refine ⟨(hm.2 _ (by omega) (by omega)).trans hS10, ?_⟩
          rw [filterG_succ hj, if_pos hp]; exact hI'
        · simp only [asBool_bool, Bool.not_false]
          exact ⟨true, rfl, hm4, by simp only [if_true]; exact hX⟩
      · refine ⟨false, rfl, keepMid_of_old o10 hs, ?_⟩
        simp only [Bool.false_eq_true, if_false]
        refine ⟨hS10, ?_⟩
        rw [filterG_succ hj, if_neg (by simp [hp])]; exact hI10
    · rintro v16 g17 h18 ⟨b, e, hm, hb⟩
      cases e
      simp only [asBool_bool]
      cases b with
      | true => simp only [ifB_true]; simp only [if_true] at hb; exact ⟨hm, trivial, .inl hb⟩
      | false => simp only [ifB_false]; simp only [Bool.false_eq_true, if_false] at hb; exact ⟨hm, by have := hm.1; omega, hb⟩
  · intro M h20 hM hs hI h21 hsd
    refine ⟨M, by omega, by omega, by rw [hsd.1]; exact hs, .inl ?_⟩
    exact hok.dI M _ h20 h21 (hsd.mono hN) hI
  · refine ⟨fun M h22 hM hs hX h23 hsd => ?_, trivial⟩
    refine ⟨M, by omega, by omega, by rw [hsd.1]; exact hs, .inr ?_⟩
    rcases hX with hX | hX
    · exact hok.dX M _ h22 h23 (hsd.mono hN) hX
    · exact hX.1.elim
theorem onlyO_call {K : Value → Heap → Prop} {h : Heap} {g t : Value} {L : List Op9} {D : Op9 → Prop} {p : Op9 → Bool} (H : SeqG op9c g L h) (Hk : KeepG op9c D t p h) (hD : ∀ x ∈ L, D x) (k : ∀ g' h', SeqG op9c g' (L.filter p) h' → Old h.size h h' → K g' h') :
    CallH Try.prog 121 #[g, t] h K := by
  obtain ⟨f0, fst, cap, Ev, rfl, hs, he, hst⟩ := H
  obtain ⟨⟨f1, a1, a2, rfl⟩, Ek, hk1, hk2, hk3⟩ := Hk
  refine call121 ?_
  unfold F121
  obtain ⟨ho, h1, h2⟩ := push2 (h := h) (.cells #[.func (.func f0) fst cap] 160) (.cells #[.func (.func f1) a1 a2] 162)
  simp only [oneC_func]
  rw [Array.size_push]
  generalize (h.push (.cells #[.func (.func f0) fst cap] 160)).push (.cells #[.func (.func f1) a1 a2] 162) = h5 at *
  refine ⟨fun vs h' => vs = [.bool false] ∧ h' = h5, ?_, ?_⟩
  · refine ldH_mk (cellAt_row h1) ?_
    simp only [asFnNil_func, ifB_false]
    refine ldH_mk (cellAt_row h2) ?_
    simp only [asFnNil_func]
    exact ⟨by trivial, by trivial⟩
  · rintro v5 g6 h7 ⟨e, rfl⟩
    cases e
    simp only [asBool_bool, ifB_false]
    exact k _ _ ⟨_, _, _, _, rfl, onlyO_seq hD (show fnV (.func (.func f0) fst cap) from trivial) hs hst hk2 hk3, ⟨cellAt_row h1, cellAt_row h2, hst _ _ ho he, hk2 _ _ ho hk1⟩,
      fun a b o e => ⟨cell_stable _ _ o e.1, cell_stable _ _ o e.2.1, hst _ _ o e.2.2.1, hk2 _ _ o e.2.2.2⟩⟩ ho
theorem firstO_seq {np gp : Nat} {g : Value} {m : Nat} {L : List Op9} {Ev : Heap → Prop} (hg : fnV g) (hseq : SeqH Try.prog g L.length (sqG op9c L) Ev) (hst : ∀ h h', Old h.size h h' → Ev h → Ev h') (hm : 1 ≤ m) (hm2 : m ≤ 9223372036854775807) :
    SeqH Try.prog (.func (.func 124) #[] #[.pointer (some ⟨np, 0, none⟩), .pointer (some ⟨gp, 0, none⟩)]) (min L.length m) (sqG op9c L)
      (fun h => cellAt h ⟨np, 0, none⟩ = some (iv m) ∧ cellAt h ⟨gp, 0, none⟩ = some g ∧ Ev h) := by
  intro yf y1 y2 h N I X hN hev hok hy
  refine callV_cl ?_
  rw [cl3]
  refine call124 ?_
  unfold F124
  simp only [asPtr_some, oneC_func]
  obtain ⟨h1, eh1⟩ : ∃ h1, h1 = h.push (.cells #[.func yf y1 y2] 162) := ⟨_, rfl⟩
  rw [← eh1]
  have s1 : h1.size = h.size + 1 := by rw [eh1]; simp
  have o1 : Old h.size h h1 := by rw [eh1]; exact (Old.refl _ _).push _ (Nat.le_refl _)
  have n1 : h1[h.size]? = some (.cells #[.func yf y1 y2] 162) := by rw [eh1]; exact push_new _ _
  have c1 : ∀ {a : Addr} {v : Value}, cellAt h a = some v → cellAt h1 a = some v := fun {a v} hc => (cellAt_congr (o1.2 _ (cellAt_lt hc))).trans hc
  refine ldH_mk (c1 hev.1) ?_
  simp only [asInt_int]
  obtain ⟨h2, eh2⟩ : ∃ h2, h2 = h1.push (.cells #[.int .i64 0] 3) := ⟨_, rfl⟩
  rw [← eh2]
  have s2 : h2.size = h.size + 2 := by rw [eh2]; simp [s1]
  have n2 : h2[h.size + 1]? = some (.cells #[.int .i64 0] 3) := by rw [eh2, ← s1]; exact push_new _ _
  rw [s1]
  refine stH_mk n2 (by simp) trivial ?_
  rintro h3 eh3
  have s3 : h3.size = h.size + 2 := by rw [eh3]; simp [s2]
  have o3 : Old h.size h h3 := by
    rw [eh3]
    refine Old.set ?_ _ _ (by omega)
    rw [eh2]; exact o1.push _ (by omega)
  have n3 : h3[h.size + 1]? = some (.cells #[iv m] 3) := by rw [eh3]; exact set_new (by omega)
  have y3 : h3[h.size]? = some (.cells #[.func yf y1 y2] 162) := by
    rw [eh3, set_old (by omega), eh2, push_old _ _ _ (by omega)]; exact n1
  have hev3 : Ev h3 := hst _ _ o3 hev.2.2
  refine ldH_mk ((cellAt_congr (o3.2 _ (cellAt_lt hev.2.1))).trans hev.2.1) ?_
  refine ⟨L.length, sqG op9c L, Ev,
    fun M j h' => h'[h.size]? = some (.cells #[.func yf y1 y2] 162) ∧ h'[h.size + 1]? = some (.cells #[iv ((m : Int) - j)] 3) ∧ j < m ∧ I M j h',
    fun M e h' => X M () h' ∨ (m ≤ L.length ∧ I M m h'), hg, hseq, fun k _ => sqG_size op9c L k, hev3, ?_, ?_, ?_, ?_⟩
  · refine { env := fun M k h' hM hs hI => (hok.env M k h' (by omega) hs hI.2.2.2).2.2, keepI := fun M k ha hb hM hs hI hk => ?_, keepX := fun M e ha hb hM hs hX hk => ?_,
             dI := fun M k ha hb hs hI => ⟨(hs.cells hI.1).trans hI.1, (hs.cells hI.2.1).trans hI.2.1, hI.2.2.1, hok.dI M k ha hb (hs.mono (by omega)) hI.2.2.2⟩,
             dX := fun M e ha hb hs hX => hX.imp (hok.dX M _ ha hb (hs.mono (by omega))) (fun x => ⟨x.1, hok.dI M _ ha hb (hs.mono (by omega)) x.2⟩), start := fun ha hs hsame => ?_ }
    · have hk' : Keep N M ha hb := ⟨hk.1, fun b hb1 hb2 => hk.2 b hb1 (by omega)⟩
      have q1 := (Array.getElem?_eq_some_iff.1 hI.2.1).1
      exact ⟨(hk.2 _ (by omega) (.inl (by omega))).trans hI.1, (hk.2 _ (by omega) (.inl (by omega))).trans hI.2.1, hI.2.2.1, hok.keepI M k ha hb (by omega) hs hI.2.2.2 hk'⟩
    · have hk' : Keep N M ha hb := ⟨hk.1, fun b hb1 hb2 => hk.2 b hb1 (by omega)⟩
      exact hX.imp (fun x => hok.keepX M _ ha hb (by omega) hs x hk') (fun x => ⟨x.1, hok.keepI M _ ha hb (by omega) hs x.2 hk'⟩)
    · refine ⟨(hsame _ (by omega)).trans y3, (hsame _ (by omega)).trans (by simpa using n3), by omega, ?_⟩
      exact hok.start ha (by have := o3.1; omega) (fun b hb => (hsame b (by omega)).trans (o3.2 b (by omega)))
  · rintro M k h8 hj hM hs ⟨q1, q2, q3, hI⟩
    rw [show (sqG op9c L k).getD 0 (.tuple #[]) = .agg (op9c L[k]).toArray by rw [sqG_get op9c hj]; rfl]
    simp only [asAgg_agg]
    refine sizeH_mk rfl (elemH_mk rfl (elemH_mk rfl (elemH_mk rfl (elemH_mk rfl (elemH_mk rfl (elemH_mk rfl (elemH_mk rfl (elemH_mk rfl (elemH_mk rfl ?_)))))))))
    simp only [oneC_int, oneC_bool]
    have p9 := pushed h8 (op9c L[k]).toArray 65
    rw [show h8.push (.cells #[.int .i64 (L[k]).th, .int .i64 (L[k]).op, .int .u32 (L[k]).key, .int .u32 (L[k]).val, .int .i64 (L[k]).kind, .int .u32 (L[k]).ak, .int .u32 (L[k]).av, .int .i64 (L[k]).fr, .int .i64 (L[k]).to] 65) = h8.push (.cells (op9c L[k]).toArray 65) from rfl]
    generalize h8.push (.cells (op9c L[k]).toArray 65) = h9 at *
    have o9 := p9.toOld
    have s9 := p9.size
    have q2l := (Array.getElem?_eq_some_iff.1 q2).1
    have q2' := (o9.2 _ q2l).trans q2
    refine ldH_mk (cellAt_row q2') ?_
    simp only [asInt_int]
    refine stH_mk q2' (by simp) trivial ?_
    rintro h12 e12
    rw [wrap64_id' (by omega) (by omega)] at e12
    have s12 : h12.size = h8.size + 1 := by rw [e12]; simp [s9]
    have p1 : h12[h.size]? = some (.cells #[.func yf y1 y2] 162) := by rw [e12, set_old (by omega), o9.2 _ (by omega)]; exact q1
    have p2 : h12[h.size + 1]? = some (.cells #[iv ((m : Int) - k - 1)] 3) := by rw [e12]; exact set_new (by omega)
    have pl : h12[h8.size]? = some (.cells (op9c L[k]).toArray 65) := by rw [e12, set_old (by omega)]; exact p9.new
    have hk12 : ∀ b, b < h8.size → b ≠ h.size + 1 → h12[b]? = h8[b]? := fun b hb hne => by rw [e12, set_old hne]; exact o9.2 b hb
    have hI12 : I M k h12 := hok.keepI M k h8 h12 (by omega) hs hI ⟨by omega, fun b hb hor => hk12 b hb (by omega)⟩
    refine ⟨fun vs h' => ∃ b : Bool, vs = [.bool b] ∧ KeepMid h3.size M h8 h' ∧ (if b then (X M () h' ∨ (m ≤ L.length ∧ I M m h')) else (h'[h.size]? = some (.cells #[.func yf y1 y2] 162) ∧ h'[h.size + 1]? = some (.cells #[iv ((m : Int) - (k + 1 : Nat))] 3) ∧ k + 1 < m ∧ I M (k + 1) h')), ?_, ?_⟩
    · refine ldH_mk (cellAt_row p1) ?_
      refine ldR pl rfl (ldR pl rfl (ldR pl rfl (ldR pl rfl (ldR pl rfl (ldR pl rfl (ldR pl rfl (ldR pl rfl (ldR pl rfl ?_))))))))
      have hyk := hy M k h12 (by omega) (by omega) (by omega) (by omega) hI12
      rw [sqG_get op9c hj] at hyk
      refine callV_mono ?_ hyk
      rintro w h16 ⟨hm16, hor⟩
      have r1 : h16[h.size]? = some (.cells #[.func yf y1 y2] 162) := (hm16.2 _ (by omega) (by omega)).trans p1
      have r2 : h16[h.size + 1]? = some (.cells #[iv ((m : Int) - k - 1)] 3) := (hm16.2 _ (by omega) (by omega)).trans p2
      have hk8 : KeepMid h3.size M h8 h16 := ⟨by have := hm16.1; omega, fun b hb1 hb2 => (hm16.2 b (by omega) hb2).trans (hk12 b (by omega) (by omega))⟩
      rcases hor with ⟨rfl, hI'⟩ | ⟨rfl, hX⟩
      · simp only [asBool_bool, Bool.not_true, ifB_false]
        refine ldH_mk (cellAt_row r2) ?_
        simp only [asInt_int]
        by_cases hz : k + 1 = m
        · refine ⟨true, ?_, hk8, ?_⟩
          · rw [beq_iff_eq.2 (show (m : Int) - k - 1 = 0 by omega)]
          · simp only [if_true]; exact .inr ⟨by omega, hz ▸ hI'⟩
        · refine ⟨false, ?_, hk8, ?_⟩
          · rw [beq_eq_false_iff_ne.2 (show (m : Int) - k - 1 ≠ 0 by omega)]
          · simp only [Bool.false_eq_true, if_false]
            exact ⟨r1, by rw [r2, show (m : Int) - k - 1 = (m : Int) - ((k + 1 : Nat) : Int) by omega], by omega, hI'⟩
      · simp only [asBool_bool, Bool.not_false, ifB_true]
        exact ⟨true, rfl, hk8, by simp only [if_true]; exact .inl hX⟩
    · rintro v20 g21 h22 ⟨b, e, hk22, hb⟩
      cases e
      simp only [asBool_bool]
      cases b with
      | true => simp only [ifB_true]; simp only [if_true] at hb; exact ⟨hk22, trivial, hb⟩
      | false => simp only [ifB_false]; simp only [Bool.false_eq_true, if_false] at hb; exact ⟨hk22, hb⟩
  · rintro M h24 hM hs ⟨q1, q2, q3, hI⟩ h25 hsd
    refine ⟨M, by omega, by omega, by rw [hsd.1]; exact hs, .inl ?_⟩
    rw [show min L.length m = L.length by omega]
    exact hok.dI M L.length h24 h25 (hsd.mono hN) hI
  · refine ⟨fun M h26 hM hs hX h27 hsd => ?_, trivial⟩
    refine ⟨M, by omega, by omega, by rw [hsd.1]; exact hs, ?_⟩
    rcases hX with hX | ⟨hmn, hI⟩
    · exact .inr (hok.dX M _ h26 h27 (hsd.mono hN) hX)
    · left
      rw [show min L.length m = m by omega]
      exact hok.dI M m h26 h27 (hsd.mono hN) hI
theorem firstO_call {K : Value → Heap → Prop} {h : Heap} {g : Value} {L : List Op9} (H : SeqG op9c g L h) (k : ∀ g' h', SeqG op9c g' (L.take 1) h' → Old h.size h h' → K g' h') :
    CallH Try.prog 120 #[g, .int .i64 1] h K := by
  obtain ⟨f0, fst, cap, Ev, rfl, hs, he, hst⟩ := H
  refine call120 ?_
  unfold F120
  obtain ⟨ho, h1, h2⟩ := push2 (h := h) (.cells #[.func (.func f0) fst cap] 160) (.cells #[.int .i64 1] 3)
  simp only [oneC_func]
  rw [Array.size_push]
  generalize (h.push (.cells #[.func (.func f0) fst cap] 160)).push (.cells #[.int .i64 1] 3) = h5 at *
  refine ⟨fun vs h' => vs = [.bool false] ∧ h' = h5, ?_, ?_⟩
  · refine ldH_mk (cellAt_row h1) ?_
    simp only [asFnNil_func, ifB_false]
    refine ldH_mk (cellAt_row h2) ?_
    simp only [asInt_int]
    exact ⟨rfl, by trivial⟩
  · rintro v5 g6 h7 ⟨e, rfl⟩
    cases e
    simp only [asBool_bool, ifB_false]
    have hq : SeqH Try.prog (.func (.func 124) #[] #[.pointer (some ⟨h.size + 1, 0, none⟩), .pointer (some ⟨h.size, 0, none⟩)]) (L.take 1).length (sqG op9c (L.take 1)) (fun h' => cellAt h' ⟨h.size + 1, 0, none⟩ = some (iv ((1 : Nat) : Int)) ∧ cellAt h' ⟨h.size, 0, none⟩ = some (.func (.func f0) fst cap) ∧ Ev h') := by
      have := firstO_seq (m := 1) (np := h.size + 1) (gp := h.size) (show fnV (.func (.func f0) fst cap) from trivial) hs hst (Nat.le_refl _) (by omega)
      rw [show (L.take 1).length = min L.length 1 by simp; omega]
      exact this.congr fun j hj => by
        unfold sqG
        rw [List.getElem?_take_of_lt (by omega)]
    exact k _ _ ⟨_, _, _, _, rfl, hq, ⟨cellAt_row h2, cellAt_row h1, hst _ _ ho he⟩, fun a b o e => ⟨cell_stable _ _ o e.1, cell_stable _ _ o e.2.1, hst _ _ o e.2.2⟩⟩ ho
theorem someO_call {K : Value → Heap → Prop} {h : Heap} {g t : Value} {L : List Op9} {D : Op9 → Prop} {p : Op9 → Bool} (H : SeqG op9c g L h) (Hk : KeepG op9c D t p h) (hD : ∀ x ∈ L, D x) (k : ∀ h', Old h.size h h' → K (.bool (L.any p)) h') :
    CallH Try.prog 106 #[g, t] h K := by
  refine call106 ?_
  unfold F106
  have o0 : Old h.size h (h.push (.cells #[.bool false] 4)) := (Old.refl _ _).push _ (Nat.le_refl _)
  have n0 := push_new h (.cells #[.bool false] 4)
  have s0 : (h.push (.cells #[.bool false] 4)).size = h.size + 1 := by simp
  generalize h.push (.cells #[.bool false] 4) = h0 at *
  refine callV_fn (onlyO_call (H.old o0) (Hk.old o0) hD fun g1 h1 H1 o1 => ?_)
  refine callV_fn (firstO_call H1 fun g2 h2 H2 o2 => ?_)
  have o02 : Old h0.size h0 h2 := o1.trans (o2.mono o1.1)
  have hs2 : h.size + 1 ≤ h2.size := by have := o02.1; omega
  obtain ⟨f0, fst, cap, Ev, rfl, hs, he, hst⟩ := H2
  generalize hL2 : (L.filter p).take 1 = L2 at *
  have hany : L.any p = decide (0 < L2.length) := by
    rw [← hL2, List.length_take]
    cases hq : L.any p with
    | true =>
      obtain ⟨x, hx, hp⟩ := List.any_eq_true.1 hq
      have : 0 < (L.filter p).length := List.length_pos_of_mem (List.mem_filter.2 ⟨hx, hp⟩)
      rw [decide_eq_true (by omega)]
    | false =>
      have : L.filter p = [] := List.filter_eq_nil_iff.2 fun x hx => by simpa using List.any_eq_false.1 hq x hx
      rw [this]; rfl
  refine rangeH_own (n := L2.length) (xs := sqG op9c L2) (Ev := Ev)
    (fun j _ h' => j = 0 ∧ Old h0.size h0 h' ∧ Old h2.size h2 h') (fun e _ h' => 0 < L2.length ∧ Old h.size h h' ∧ h'[h.size]? = some (.cells #[.bool true] 4))
    (show fnV (.func (.func f0) fst cap) from trivial) hs (fun k _ => sqG_size op9c L2 k) ?_ ?_ (fun j w' h' x => hst _ _ x.2.2 he) ⟨rfl, o02, Old.refl _ _⟩ ?_ ?_ ?_
  · rintro j w' ha hb hs1 hsm _ ⟨x1, x2, x3⟩
    exact ⟨x1, ⟨Nat.le_trans x2.1 hs1, fun b hb => (hsm b (by have := o02.1; omega)).trans (x2.2 b hb)⟩, ⟨Nat.le_trans x3.1 hs1, fun b hb => (hsm b hb).trans (x3.2 b hb)⟩⟩
  · rintro j w' ha hb hs1 hsm _ ⟨x0, x1, x2⟩
    exact ⟨x0, ⟨Nat.le_trans x1.1 hs1, fun b hb => (hsm b (by omega)).trans (x1.2 b hb)⟩, (hsm _ (by omega)).trans x2⟩
  · rintro M j w' h6 hj hM hs1 hw ⟨rfl, x1, x2⟩
    have n6 : h6[h.size]? = some (.cells #[.bool false] 4) := (x1.2 _ (by omega)).trans n0
    refine stH_mk n6 (by simp) trivial ?_
    rintro h7 rfl
    refine ⟨⟨by simp, fun b hb1 hb2 => set_old (by omega)⟩, trivial, by simp; exact x2.1, w', owned_keep hw fun b hb => set_old (by have := (hw b hb).1; omega), by omega, ?_, ?_⟩
    · exact (o0.trans (x1.mono o0.1)).set _ _ (Nat.le_refl _)
    · exact set_new (by omega)
  · rintro M w' h8 hM hs1 hw ⟨x0, x1, x2⟩
    have n8 : h8[h.size]? = some (.cells #[.bool false] 4) := (x1.2 _ (by omega)).trans n0
    refine stH_mk n8 (by simp) trivial ?_
    rintro h9 rfl
    refine ldH_mk (cellAt_row (set_new (by omega))) ?_
    intro h11 hsd
    have := k h11 (((o0.trans (x1.mono o0.1)).set _ _ (Nat.le_refl _)).same hsd)
    rwa [hany, decide_eq_false (by omega)] at this
  · refine ⟨?_, trivial⟩
    rintro M w' h12 hM hs1 hw ⟨x0, x1, x2⟩
    refine ldH_mk (cellAt_row x2) ?_
    intro h14 hsd
    have := k h14 (x1.same hsd)
    rwa [hany, decide_eq_true x0] at this
end Go.Proofs.Ytlncjcbofgjcfaa
end
section
/- What must stand ahead, by one of the three orders (printed by a program of mine). -/
set_option linter.unusedSimpArgs false
set_option linter.unusedVariables false
set_option maxRecDepth 20000
namespace Go.Proofs.Ytlncjcbofgjcfaa

def opnB (p : Int) (o : Op9) : Bool := decide (o.fr ≤ p) && (decide (o.to < 0) || decide (o.to > p))
def quietB (L : List Op9) (p : Int) : Bool := !(L.any (opnB p))
def gapB (L : List Op9) (x y o : Op9) : Bool := decide (o.to ≥ x.to) && (decide (o.to < y.fr) && quietB L o.to)
def apartB (L : List Op9) (x y : Op9) : Bool := if x.to < 0 ∨ x.to ≥ y.fr then false else quietB L x.to || L.any (gapB L x y)
def mustB (L : List Op9) (ord i j : Int) : Bool := if ord = 0 then ahead (opAt L i) (opAt L j) else if ord = 1 then decide ((opAt L i).th = (opAt L j).th) && decide ((opAt L i).fr < (opAt L j).fr) else if ord = 2 then apartB L (opAt L i) (opAt L j) else false
theorem tri' {v w : Value} {b b' : Bool} (h : b = b') : [v, w, .bool b] = [v, w, .bool b'] := by rw [h]
theorem SlO.sx {h : Heap} {a : Option Addr} {l c : Nat} {L : List Op9} (H : SlO h a l c L) : SX op9c h a l c L := ⟨H.s, H.len, H.cap⟩
theorem quiet_call {K : Value → Heap → Prop} {h : Heap} {a : Option Addr} {l c : Nat} {L : List Op9} {p : Int} (H : SlO h a l c L) (hl : l < 2 ^ 60) (k : ∀ h', Old h.size h h' → K (.bool (quietB L p)) h') :
    CallH Try.prog 105 #[.slice a l c, iv p] h K := by
  refine call105 ?_
  unfold F105
  have p1 := pushed h #[iv p] 3
  generalize h.push (.cells #[.int .i64 p] 3) = h1 at *
  refine callV_fn (ofO_call (H.old p1.toOld).sx hl fun g h2 G2 o2 => ?_)
  have n2 := (o2.2 _ (by have := p1.size; omega)).trans p1.new
  refine callV_fn (someO_call (D := fun _ => True) (p := opnB p) G2 ⟨⟨_, _, _, rfl⟩, fun h' => cellAt h' ⟨h.size, 0, none⟩ = some (iv p), cellAt_row n2, fun _ _ o e => cell_stable _ _ o e, ?_⟩ (fun _ _ => trivial) fun h3 o3 => ?_)
  · intro h4 x K4 hev _ k4
    refine callV_cl ?_
    rw [cl2]
    refine call119 ?_
    unfold F119
    have p5 := pushed h4 x.cells.toArray 65
    rw [show h4.push (.cells #[.int .i64 x.th, .int .i64 x.op, .int .u32 x.key, .int .u32 x.val, .int .i64 x.kind, .int .u32 x.ak, .int .u32 x.av, .int .i64 x.fr, .int .i64 x.to] 65) = h4.push (.cells x.cells.toArray 65) from rfl]
    generalize h4.push (.cells x.cells.toArray 65) = h5 at *
    have ok := p5.toOld
    have hev5 := cell_stable _ _ ok hev
    refine ldR p5.new rfl ?_
    simp only [asInt_int, asPtr_some]
    refine ldH_mk hev5 ?_
    simp only [asInt_int]
    have kk := k4 _ ok
    unfold opnB at kk
    refine ifB_dec (fun e => ?_) (fun e => ?_)
    · rw [decide_eq_true (show x.fr ≤ p by omega), Bool.true_and] at kk
      refine ldR p5.new rfl ?_
      simp only [asInt_int]
      refine ifB_dec (fun e2 => ?_) (fun e2 => ?_)
      · rw [decide_eq_true (show x.to < 0 by omega), Bool.true_or] at kk
        exact kk
      · rw [decide_eq_false (show ¬ x.to < 0 by omega), Bool.false_or] at kk
        refine ldR p5.new rfl ?_
        simp only [asInt_int, asPtr_some]
        refine ldH_mk hev5 ?_
        simp only [asInt_int]
        exact kk
    · rw [decide_eq_false (show ¬ x.fr ≤ p by omega), Bool.false_and] at kk
      exact kk
  · simp only [asBool_bool]
    exact k h3 (p1.toOld.trans ((o2.trans (o3.mono o2.1)).mono p1.toOld.1))
theorem apart_call {K : Value → Heap → Prop} {h : Heap} {a : Option Addr} {l c : Nat} {L : List Op9} {x y : Op9} (H : SlO h a l c L) (hl : l < 2 ^ 60) (k : ∀ h', Old h.size h h' → K (.bool (apartB L x y)) h') :
    CallH Try.prog 88 #[.slice a l c, .agg x.cells.toArray, .agg y.cells.toArray] h K := by
  refine call88 ?_
  unfold F88
  have p1 := pushed h #[.slice a l c] 59
  generalize h.push (.cells #[.slice a l c] 59) = h1 at *
  have p2 := pushed h1 x.cells.toArray 65
  rw [show h1.push (.cells #[.int .i64 x.th, .int .i64 x.op, .int .u32 x.key, .int .u32 x.val, .int .i64 x.kind, .int .u32 x.ak, .int .u32 x.av, .int .i64 x.fr, .int .i64 x.to] 65) = h1.push (.cells x.cells.toArray 65) from rfl]
  generalize h1.push (.cells x.cells.toArray 65) = h2 at *
  have p3 := pushed h2 y.cells.toArray 65
  rw [show h2.push (.cells #[.int .i64 y.th, .int .i64 y.op, .int .u32 y.key, .int .u32 y.val, .int .i64 y.kind, .int .u32 y.ak, .int .u32 y.av, .int .i64 y.fr, .int .i64 y.to] 65) = h2.push (.cells y.cells.toArray 65) from rfl]
  generalize h2.push (.cells y.cells.toArray 65) = h3 at *
  have s1 := p1.size
  have s2 := p2.size
  have s3 := p3.size
  have o3 : Old h.size h h3 := p1.toOld.trans ((p2.toOld.mono (by omega)).trans (p3.toOld.mono (by omega)))
  have x0 : h3[h.size]? = some (.cells #[.slice a l c] 59) := (p3.old _ (by omega)).trans ((p2.old _ (by omega)).trans p1.new)
  have x1 : h3[h1.size]? = some (.cells x.cells.toArray 65) := (p3.old _ (by omega)).trans p2.new
  have x2 := p3.new
  refine ⟨fun vs h' => vs = [.bool (decide (x.to < 0) || decide (x.to ≥ y.fr))] ∧ h' = h3, ?_, ?_⟩
  · refine ldR x1 rfl ?_
    simp only [asInt_int]
    refine ifB_dec (fun e => ⟨by rw [decide_eq_true (show x.to < 0 by omega)]; rfl, by trivial⟩) (fun e => ?_)
    refine ldR x1 rfl ?_
    simp only [asInt_int]
    refine ldR x2 rfl ?_
    simp only [asInt_int]
    exact ⟨by rw [decide_eq_false (show ¬ x.to < 0 by omega)]; rfl, by trivial⟩
  rintro v7 g8 h9 ⟨e, rfl⟩
  cases e
  simp only [asBool_bool]
  refine ifB_mk (fun hq => ?_) (fun hq => ?_)
  · have := k _ o3
    unfold apartB at this
    rw [if_pos (by simpa using hq)] at this
    exact this
  have hq2 : ¬ (x.to < 0 ∨ x.to ≥ y.fr) := by simpa using hq
  have eap : apartB L x y = (quietB L x.to || L.any (gapB L x y)) := by unfold apartB; rw [if_neg hq2]
  rw [eap] at k
  refine ldR x0 rfl ?_
  simp only [asSlice_slice]
  refine ldR x1 rfl ?_
  simp only [asInt_int]
  refine callV_fn (quiet_call (H.old o3) hl fun h18 o18 => ?_)
  simp only [asBool_bool]
  have ok18 := o3.trans (o18.mono o3.1)
  refine ifB_mk (fun hb => ?_) (fun hb => ?_)
  · have := k h18 ok18
    rw [hb, Bool.true_or] at this
    exact this
  rw [hb, Bool.false_or] at k
  have x0' := (o18.2 _ (by omega)).trans x0
  have x1' := (o18.2 _ (by omega)).trans x1
  have x2' := (o18.2 _ (by omega)).trans x2
  refine ldR x0' rfl ?_
  simp only [asSlice_slice]
  refine callV_fn (ofO_call (H.old ok18).sx hl fun g h25 G25 o25 => ?_)
  have s18 := o18.1
  have ok25 := ok18.trans (o25.mono ok18.1)
  refine callV_fn (someO_call (D := fun _ => True) (p := gapB L x y) G25 ⟨⟨_, _, _, rfl⟩, fun h' => h9.size ≤ h'.size ∧ Old h.size h h' ∧ h'[h.size]? = some (.cells #[.slice a l c] 59) ∧ h'[h1.size]? = some (.cells x.cells.toArray 65) ∧ h'[h2.size]? = some (.cells y.cells.toArray 65), ⟨by have := o25.1; omega, ok25, (o25.2 _ (by omega)).trans x0', (o25.2 _ (by omega)).trans x1', (o25.2 _ (by omega)).trans x2'⟩, ?_, ?_⟩ (fun _ _ => trivial) fun h27 o27 => ?_)
  · rintro ha hb o ⟨e1, e2, e3, e4, e5⟩
    exact ⟨by have := o.1; omega, e2.trans (o.mono e2.1), (o.2 _ (by omega)).trans e3, (o.2 _ (by omega)).trans e4, (o.2 _ (by omega)).trans e5⟩
  · rintro h4 w K4 ⟨e1, e2, e3, e4, e5⟩ _ k4
    refine callV_cl ?_
    rw [show (#[Value.agg (op9c w).toArray] : Array Value) ++ #[.pointer (some ⟨h1.size, 0, none⟩), .pointer (some ⟨h2.size, 0, none⟩), .pointer (some ⟨h.size, 0, none⟩)] = #[.agg w.cells.toArray, .pointer (some ⟨h1.size, 0, none⟩), .pointer (some ⟨h2.size, 0, none⟩), .pointer (some ⟨h.size, 0, none⟩)] from rfl]
    refine call108 ?_
    unfold F108
    have p5 := pushed h4 w.cells.toArray 65
    rw [show h4.push (.cells #[.int .i64 w.th, .int .i64 w.op, .int .u32 w.key, .int .u32 w.val, .int .i64 w.kind, .int .u32 w.ak, .int .u32 w.av, .int .i64 w.fr, .int .i64 w.to] 65) = h4.push (.cells w.cells.toArray 65) from rfl]
    generalize h4.push (.cells w.cells.toArray 65) = h5 at *
    have ok := p5.toOld
    have y3 := (ok.2 _ (by omega)).trans e3
    have y4 := (ok.2 _ (by omega)).trans e4
    have y5 := (ok.2 _ (by omega)).trans e5
    refine ldR p5.new rfl ?_
    simp only [asInt_int, asPtr_some]
    rw [add_lit]
    refine ldR y4 rfl ?_
    simp only [asInt_int]
    unfold gapB at k4
    refine ifB_dec (fun q => ?_) (fun q => ?_)
    · rw [decide_eq_true (show w.to ≥ x.to by omega), Bool.true_and] at k4
      refine ldR p5.new rfl ?_
      simp only [asInt_int]
      rw [add_lit]
      refine ldR y5 rfl ?_
      simp only [asInt_int]
      refine ifB_dec (fun q2 => ?_) (fun q2 => ?_)
      · rw [decide_eq_true (show w.to < y.fr by omega), Bool.true_and] at k4
        refine ldR y3 rfl ?_
        simp only [asSlice_slice]
        refine ldR p5.new rfl ?_
        simp only [asInt_int]
        refine callV_fn (quiet_call ((H.old e2).old ok) hl fun h6 o6 => ?_)
        simp only [asBool_bool]
        exact k4 h6 (ok.trans (o6.mono ok.1))
      · rw [decide_eq_false (show ¬ w.to < y.fr by omega), Bool.false_and] at k4
        exact k4 _ ok
    · rw [decide_eq_false (show ¬ w.to ≥ x.to by omega), Bool.false_and] at k4
      exact k4 _ ok
  · simp only [asBool_bool]
    exact k h27 (ok25.trans (o27.mono ok25.1))
theorem must_call {K : Value → Heap → Prop} {h : Heap} {a : Option Addr} {l c i j : Nat} {L : List Op9} {ord : Int} (H : SlO h a l c L) (hl : l < 2 ^ 60) (hi : i < L.length) (hj : j < L.length) (k : ∀ h', Old h.size h h' → K (.bool (mustB L ord i j)) h') :
    CallH Try.prog 73 #[.slice a l c, iv ord, iv i, iv j] h K := by
  refine call73 ?_
  unfold F73
  have hlen := H.len
  refine ⟨fun vs h' => (∃ w1 w2, vs = [w1, w2, .bool false]) ∧ h' = h, ?_, ?_⟩
  · refine ifB_dec (fun q => by omega) (fun q => ifB_dec (fun q => by omega) (fun q => ifB_dec (fun q => by omega) (fun q => ⟨⟨_, _, tri' (decide_eq_false (by omega))⟩, by trivial⟩)))
  rintro v1 v2 v3 g4 h5 ⟨⟨_, _, e⟩, rfl⟩
  cases e
  simp only [asBool_bool, ifB_false]
  obtain ⟨ad, rfl, d0, d1⟩ := H.at hi
  obtain ⟨ad', e', f0, f1⟩ := H.at hj
  cases e'
  refine ⟨by omega, by omega, ?_⟩
  simp only [asPtr_some, Int.toNat_natCast]
  refine ldH_mk d0 (ldH_mk (d1 1 _ rfl) (ldH_mk (d1 2 _ rfl) (ldH_mk (d1 3 _ rfl) (ldH_mk (d1 4 _ rfl) (ldH_mk (d1 5 _ rfl) (ldH_mk (d1 6 _ rfl) (ldH_mk (d1 7 _ rfl) (ldH_mk (d1 8 _ rfl) ?_))))))))
  refine ⟨by omega, by omega, ?_⟩
  refine ldH_mk f0 (ldH_mk (f1 1 _ rfl) (ldH_mk (f1 2 _ rfl) (ldH_mk (f1 3 _ rfl) (ldH_mk (f1 4 _ rfl) (ldH_mk (f1 5 _ rfl) (ldH_mk (f1 6 _ rfl) (ldH_mk (f1 7 _ rfl) (ldH_mk (f1 8 _ rfl) ?_))))))))
  have p1 := pushed h5 zs9.toArray 65
  rw [show h5.push (.cells #[.int .i64 0, .int .i64 0, .int .u32 0, .int .u32 0, .int .i64 0, .int .u32 0, .int .u32 0, .int .i64 0, .int .i64 0] 65) = h5.push (.cells zs9.toArray 65) from rfl]
  generalize h5.push (.cells zs9.toArray 65) = h1 at *
  have p2 := pushed h1 zs9.toArray 65
  rw [show h1.push (.cells #[.int .i64 0, .int .i64 0, .int .u32 0, .int .u32 0, .int .i64 0, .int .u32 0, .int .u32 0, .int .i64 0, .int .i64 0] 65) = h1.push (.cells zs9.toArray 65) from rfl]
  generalize h1.push (.cells zs9.toArray 65) = h2 at *
  have s1 := p1.size
  have s2 := p2.size
  have o1 := p1.toOld
  have o2 : Old h5.size h5 h2 := o1.trans (p2.toOld.mono o1.1)
  have n1 := (p2.old _ (show h5.size < h1.size by omega)).trans p1.new
  constructor
  · refine ⟨cell_stable _ _ o1 f0, cell_stable _ _ o1 (f1 1 _ rfl), cell_stable _ _ o1 (f1 2 _ rfl), cell_stable _ _ o1 (f1 3 _ rfl), cell_stable _ _ o1 (f1 4 _ rfl), cell_stable _ _ o1 (f1 5 _ rfl), cell_stable _ _ o1 (f1 6 _ rfl), cell_stable _ _ o1 (f1 7 _ rfl), cell_stable _ _ o1 (f1 8 _ rfl), cell_stable _ _ o1 d0, cell_stable _ _ o1 (d1 1 _ rfl), cell_stable _ _ o1 (d1 2 _ rfl), cell_stable _ _ o1 (d1 3 _ rfl), cell_stable _ _ o1 (d1 4 _ rfl), cell_stable _ _ o1 (d1 5 _ rfl), cell_stable _ _ o1 (d1 6 _ rfl), cell_stable _ _ o1 (d1 7 _ rfl), cell_stable _ _ o1 (d1 8 _ rfl), cell_stable _ _ o2 f0, cell_stable _ _ o2 (f1 1 _ rfl), cell_stable _ _ o2 (f1 2 _ rfl), cell_stable _ _ o2 (f1 3 _ rfl), cell_stable _ _ o2 (f1 4 _ rfl), cell_stable _ _ o2 (f1 5 _ rfl), cell_stable _ _ o2 (f1 6 _ rfl), cell_stable _ _ o2 (f1 7 _ rfl), cell_stable _ _ o2 (f1 8 _ rfl), cell_stable _ _ o2 d0, cell_stable _ _ o2 (d1 1 _ rfl), cell_stable _ _ o2 (d1 2 _ rfl), cell_stable _ _ o2 (d1 3 _ rfl), cell_stable _ _ o2 (d1 4 _ rfl), cell_stable _ _ o2 (d1 5 _ rfl), cell_stable _ _ o2 (d1 6 _ rfl), cell_stable _ _ o2 (d1 7 _ rfl), cell_stable _ _ o2 (d1 8 _ rfl), ?_⟩
    refine st9 (stN_full (vs := (L[i]).cells) n1 rfl (cells9_one _) fun h35 w35 => ?_)
    have o35 : Old h5.size h5 h35 := w35.toOld o2 (Nat.le_refl _)
    refine ⟨cell_stable _ _ o35 f0, cell_stable _ _ o35 (f1 1 _ rfl), cell_stable _ _ o35 (f1 2 _ rfl), cell_stable _ _ o35 (f1 3 _ rfl), cell_stable _ _ o35 (f1 4 _ rfl), cell_stable _ _ o35 (f1 5 _ rfl), cell_stable _ _ o35 (f1 6 _ rfl), cell_stable _ _ o35 (f1 7 _ rfl), cell_stable _ _ o35 (f1 8 _ rfl), ?_⟩
    have n35 := (w35.old _ (show h1.size ≠ h5.size by omega)).trans p2.new
    refine st9 (stN_full (vs := (L[j]).cells) n35 rfl (cells9_one _) fun h44 w44 => ?_)
    have okF : Old h5.size h5 h44 := w44.toOld o35 (by omega)
    have hy := w44.new
    have hx := (w44.old _ (show h5.size ≠ h1.size by omega)).trans w35.new
    refine ifB_mk (fun e0 => ?_) (fun e0 => ?_)
    · have e0' : ord = 0 := by simpa using e0
      refine ldR hx rfl (ldR hx rfl (ldR hx rfl (ldR hx rfl (ldR hx rfl (ldR hx rfl (ldR hx rfl (ldR hx rfl (ldR hx rfl (ldR hy rfl (ldR hy rfl (ldR hy rfl (ldR hy rfl (ldR hy rfl (ldR hy rfl (ldR hy rfl (ldR hy rfl (ldR hy rfl ?_)))))))))))))))))
      refine callV_fn (ahead_call L[i] L[j] fun h' o' => ?_)
      simp only [asBool_bool]
      have := k h' (okF.trans (o'.mono okF.1))
      rwa [show mustB L ord i j = ahead L[i] L[j] by unfold mustB; rw [if_pos e0', opAt_nat hi, opAt_nat hj]] at this
    have e0' : ord ≠ 0 := by simpa using e0
    refine ifB_mk (fun e1 => ?_) (fun e1 => ?_)
    · have e1' : ord = 1 := by simpa using e1
      have em : mustB L ord i j = (decide ((L[i]).th = (L[j]).th) && decide ((L[i]).fr < (L[j]).fr)) := by unfold mustB; rw [if_neg e0', if_pos e1', opAt_nat hi, opAt_nat hj]
      refine ldR hx rfl ?_
      simp only [asInt_int]
      refine ldR hy rfl ?_
      simp only [asInt_int]
      have kk := k _ okF
      rw [em] at kk
      refine ifB_mk (fun e2 => ?_) (fun e2 => ?_)
      · refine ldR hx rfl ?_
        simp only [asInt_int]
        refine ldR hy rfl ?_
        simp only [asInt_int]
        rw [decide_eq_true (show (L[i]).th = (L[j]).th by simpa using e2), Bool.true_and] at kk
        exact kk
      · rw [decide_eq_false (show ¬ (L[i]).th = (L[j]).th by simpa using e2), Bool.false_and] at kk
        exact kk
    have e1' : ord ≠ 1 := by simpa using e1
    refine ifB_mk (fun e2 => ?_) (fun e2 => ?_)
    · have e2' : ord = 2 := by simpa using e2
      refine ldR hx rfl (ldR hx rfl (ldR hx rfl (ldR hx rfl (ldR hx rfl (ldR hx rfl (ldR hx rfl (ldR hx rfl (ldR hx rfl (ldR hy rfl (ldR hy rfl (ldR hy rfl (ldR hy rfl (ldR hy rfl (ldR hy rfl (ldR hy rfl (ldR hy rfl (ldR hy rfl ?_)))))))))))))))))
      refine callV_fn (apart_call (x := L[i]) (y := L[j]) (H.old okF) hl fun h' o' => ?_)
      simp only [asBool_bool]
      have := k h' (okF.trans (o'.mono okF.1))
      rwa [show mustB L ord i j = apartB L L[i] L[j] by unfold mustB; rw [if_neg e0', if_neg e1', if_pos e2', opAt_nat hi, opAt_nat hj]] at this
    · have e2' : ord ≠ 2 := by simpa using e2
      have := k _ okF
      rwa [show mustB L ord i j = false by unfold mustB; rw [if_neg e0', if_neg e1', if_neg e2']] at this
  · refine ⟨cell_stable _ _ o1 f0, cell_stable _ _ o1 (f1 1 _ rfl), cell_stable _ _ o1 (f1 2 _ rfl), cell_stable _ _ o1 (f1 3 _ rfl), cell_stable _ _ o1 (f1 4 _ rfl), cell_stable _ _ o1 (f1 5 _ rfl), cell_stable _ _ o1 (f1 6 _ rfl), cell_stable _ _ o1 (f1 7 _ rfl), cell_stable _ _ o1 (f1 8 _ rfl), cell_stable _ _ o1 d0, cell_stable _ _ o1 (d1 1 _ rfl), cell_stable _ _ o1 (d1 2 _ rfl), cell_stable _ _ o1 (d1 3 _ rfl), cell_stable _ _ o1 (d1 4 _ rfl), cell_stable _ _ o1 (d1 5 _ rfl), cell_stable _ _ o1 (d1 6 _ rfl), cell_stable _ _ o1 (d1 7 _ rfl), cell_stable _ _ o1 (d1 8 _ rfl), cell_stable _ _ o2 f0, cell_stable _ _ o2 (f1 1 _ rfl), cell_stable _ _ o2 (f1 2 _ rfl), cell_stable _ _ o2 (f1 3 _ rfl), cell_stable _ _ o2 (f1 4 _ rfl), cell_stable _ _ o2 (f1 5 _ rfl), cell_stable _ _ o2 (f1 6 _ rfl), cell_stable _ _ o2 (f1 7 _ rfl), cell_stable _ _ o2 (f1 8 _ rfl), cell_stable _ _ o2 d0, cell_stable _ _ o2 (d1 1 _ rfl), cell_stable _ _ o2 (d1 2 _ rfl), cell_stable _ _ o2 (d1 3 _ rfl), cell_stable _ _ o2 (d1 4 _ rfl), cell_stable _ _ o2 (d1 5 _ rfl), cell_stable _ _ o2 (d1 6 _ rfl), cell_stable _ _ o2 (d1 7 _ rfl), cell_stable _ _ o2 (d1 8 _ rfl), ?_⟩
    refine st9 (stN_full (vs := (L[i]).cells) p2.new rfl (cells9_one _) fun h35 w35 => ?_)
    have o35 : Old h5.size h5 h35 := w35.toOld o2 (by omega)
    refine ⟨cell_stable _ _ o35 f0, cell_stable _ _ o35 (f1 1 _ rfl), cell_stable _ _ o35 (f1 2 _ rfl), cell_stable _ _ o35 (f1 3 _ rfl), cell_stable _ _ o35 (f1 4 _ rfl), cell_stable _ _ o35 (f1 5 _ rfl), cell_stable _ _ o35 (f1 6 _ rfl), cell_stable _ _ o35 (f1 7 _ rfl), cell_stable _ _ o35 (f1 8 _ rfl), ?_⟩
    have n35 := (w35.old _ (show h5.size ≠ h1.size by omega)).trans n1
    refine st9 (stN_full (vs := (L[j]).cells) n35 rfl (cells9_one _) fun h44 w44 => ?_)
    have okF : Old h5.size h5 h44 := w44.toOld o35 (Nat.le_refl _)
    have hy := w44.new
    have hx := (w44.old _ (show h1.size ≠ h5.size by omega)).trans w35.new
    refine ifB_mk (fun e0 => ?_) (fun e0 => ?_)
    · have e0' : ord = 0 := by simpa using e0
      refine ldR hx rfl (ldR hx rfl (ldR hx rfl (ldR hx rfl (ldR hx rfl (ldR hx rfl (ldR hx rfl (ldR hx rfl (ldR hx rfl (ldR hy rfl (ldR hy rfl (ldR hy rfl (ldR hy rfl (ldR hy rfl (ldR hy rfl (ldR hy rfl (ldR hy rfl (ldR hy rfl ?_)))))))))))))))))
      refine callV_fn (ahead_call L[i] L[j] fun h' o' => ?_)
      simp only [asBool_bool]
      have := k h' (okF.trans (o'.mono okF.1))
      rwa [show mustB L ord i j = ahead L[i] L[j] by unfold mustB; rw [if_pos e0', opAt_nat hi, opAt_nat hj]] at this
    have e0' : ord ≠ 0 := by simpa using e0
    refine ifB_mk (fun e1 => ?_) (fun e1 => ?_)
    · have e1' : ord = 1 := by simpa using e1
      have em : mustB L ord i j = (decide ((L[i]).th = (L[j]).th) && decide ((L[i]).fr < (L[j]).fr)) := by unfold mustB; rw [if_neg e0', if_pos e1', opAt_nat hi, opAt_nat hj]
      refine ldR hx rfl ?_
      simp only [asInt_int]
      refine ldR hy rfl ?_
      simp only [asInt_int]
      have kk := k _ okF
      rw [em] at kk
      refine ifB_mk (fun e2 => ?_) (fun e2 => ?_)
      · refine ldR hx rfl ?_
        simp only [asInt_int]
        refine ldR hy rfl ?_
        simp only [asInt_int]
        rw [decide_eq_true (show (L[i]).th = (L[j]).th by simpa using e2), Bool.true_and] at kk
        exact kk
      · rw [decide_eq_false (show ¬ (L[i]).th = (L[j]).th by simpa using e2), Bool.false_and] at kk
        exact kk
    have e1' : ord ≠ 1 := by simpa using e1
    refine ifB_mk (fun e2 => ?_) (fun e2 => ?_)
    · have e2' : ord = 2 := by simpa using e2
      refine ldR hx rfl (ldR hx rfl (ldR hx rfl (ldR hx rfl (ldR hx rfl (ldR hx rfl (ldR hx rfl (ldR hx rfl (ldR hx rfl (ldR hy rfl (ldR hy rfl (ldR hy rfl (ldR hy rfl (ldR hy rfl (ldR hy rfl (ldR hy rfl (ldR hy rfl (ldR hy rfl ?_)))))))))))))))))
      refine callV_fn (apart_call (x := L[i]) (y := L[j]) (H.old okF) hl fun h' o' => ?_)
      simp only [asBool_bool]
      have := k h' (okF.trans (o'.mono okF.1))
      rwa [show mustB L ord i j = apartB L L[i] L[j] by unfold mustB; rw [if_neg e0', if_neg e1', if_pos e2', opAt_nat hi, opAt_nat hj]] at this
    · have e2' : ord ≠ 2 := by simpa using e2
      have := k _ okF
      rwa [show mustB L ord i j = false by unfold mustB; rw [if_neg e0', if_neg e1', if_neg e2']] at this
end Go.Proofs.Ytlncjcbofgjcfaa
end
