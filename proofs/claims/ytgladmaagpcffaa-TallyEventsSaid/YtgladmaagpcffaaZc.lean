/- Events: whose call is open, which may come (the document's). -/
import Derived.Test.YtgladmaagpcffaaZb
set_option linter.unusedSimpArgs false
set_option linter.unusedVariables false
set_option maxRecDepth 20000
namespace Go.Proofs.Ytgladmaagpcffaa

structure Ev8 where
  th : Int
  bk : Bool
  c : C3
  a : C3
abbrev Ev8.cells (e : Ev8) : List Value := [.int .i64 e.th, .bool e.bk, .int .i64 e.c.o, .int .u32 e.c.k, .int .u32 e.c.v, .int .i64 e.a.o, .int .u32 e.a.k, .int .u32 e.a.v]
theorem flat8_len (es : List Ev8) : (es.flatMap Ev8.cells).length = es.length * 8 := by
  induction es with
  | nil => rfl
  | cons e es ih =>
    have h8 : e.cells.length = 8 := rfl
    rw [List.flatMap_cons, List.length_append, ih, h8, List.length_cons]; omega
theorem flat8_get {es : List Ev8} : ∀ {i : Nat} (hi : i < es.length) {j : Nat}, j < 8 → (es.flatMap Ev8.cells)[i * 8 + j]? = (es[i]).cells[j]? := by
  induction es with
  | nil => intro i hi; simp at hi
  | cons e es ih =>
    intro i hi j hj
    have h8 : e.cells.length = 8 := rfl
    rw [List.flatMap_cons]
    cases i with
    | zero => rw [List.getElem?_append_left (by omega)]; simp
    | succ i =>
      rw [List.getElem?_append_right (by omega), h8, show (i + 1) * 8 + j - 8 = i * 8 + j by omega]
      exact ih (by simpa using hi) hj
/-- A slice of events, to be read. -/
structure SV (h : Heap) (a : Option Addr) (l c : Nat) (es : List Ev8) : Prop where
  s : Sees h a (es.flatMap Ev8.cells)
  len : es.length = l
  cap : l ≤ c
theorem SV.old {h h' : Heap} {a : Option Addr} {l c : Nat} {es : List Ev8} (H : SV h a l c es) (ho : Old h.size h h') : SV h' a l c es := ⟨H.s.old ho, H.len, H.cap⟩
theorem SV.at {h : Heap} {a : Option Addr} {l c : Nat} {es : List Ev8} (H : SV h a l c es) {i : Nat} (hi : i < es.length) : ∃ ad, a = some ad ∧ ∀ (j : Nat) (v : Value), (es[i]).cells[j]? = some v → cellAt h ((ad.add (i * 8)).add j) = some v := by
  have h0 : (es.flatMap Ev8.cells)[i * 8 + 0]? = some (.int .i64 (es[i]).th) := flat8_get hi (by omega)
  obtain ⟨ad, e, _⟩ := H.s _ _ h0
  refine ⟨ad, e, fun j v hv => ?_⟩
  have hj : j < 8 := (List.getElem?_eq_some_iff.1 hv).1
  obtain ⟨ad', e', hc⟩ := H.s (i * 8 + j) v ((flat8_get hi hj).trans hv)
  rw [e] at e'; cases e'
  rw [add_add]; exact hc

/-- The place of a thread's call that is open ahead of a place. -/
def opnN (es : List Ev8) : Nat → Int → Option Nat
  | 0, _ => none
  | j + 1, t => match es[j]? with
    | some e => if e.th = t then (if e.bk then none else some j) else opnN es j t
    | none => opnN es j t
theorem opnN_succ {es : List Ev8} {j : Nat} (hj : j < es.length) (t : Int) : opnN es (j + 1) t = if (es[j]).th = t then (if (es[j]).bk then none else some j) else opnN es j t := by
  show (match es[j]? with | some e => _ | none => _) = _
  rw [List.getElem?_eq_getElem hj]
theorem opnN_lt {es : List Ev8} {t : Int} {k : Nat} : ∀ {i : Nat}, opnN es i t = some k → k < i ∧ ∃ hk : k < es.length, (es[k]).th = t ∧ (es[k]).bk = false := by
  intro i
  induction i with
  | zero => intro h; cases h
  | succ i ih =>
    intro h
    unfold opnN at h
    split at h
    · rename_i e he
      obtain ⟨hi, ei⟩ := List.getElem?_eq_some_iff.1 he
      split at h
      · split at h
        · cases h
        · cases h; exact ⟨by omega, hi, by rw [ei]; assumption, by rw [ei]; simpa using ‹¬ e.bk = true›⟩
      · obtain ⟨h1, h2⟩ := ih h; exact ⟨by omega, h2⟩
    · obtain ⟨h1, h2⟩ := ih h; exact ⟨by omega, h2⟩
def opI (o : Option Nat) : Int := match o with | some k => (k : Int) | none => -1

theorem open_call {K : Value → Heap → Prop} {h : Heap} {a : Option Addr} {l c at_ : Nat} {es : List Ev8} {t : Int} (H : SV h a l c es) (hl : l < 2 ^ 60) (hat : at_ ≤ l) (k : K (iv (opI (opnN es at_ t))) h) :
    CallH Try.prog 133 #[.slice a l c, iv at_, iv t] h K := by
  refine call133 ?_
  unfold F133
  have hlen := H.len
  refine ⟨fun vs h' => ∃ w, ∃ i : Nat, vs = [w, iv ((i : Int) - 1)] ∧ h' = h ∧ i ≤ at_ ∧ opnN es i t = opnN es at_ t, fun vs _ => (match vs with | [_, .int _ n] => (n + 1).toNat | _ => 0), ⟨_, at_, by rw [wrap64_id' (by omega) (by omega)], rfl, Nat.le_refl _, rfl⟩, ?_⟩
  rintro v2 v3 g4 h5 ⟨w, i, e, rfl, hi, ho⟩
  cases e
  simp only [asInt_int]
  refine ifB_dec (fun hge => ?_) (fun hlt => ?_)
  · obtain ⟨j, rfl⟩ : ∃ j, i = j + 1 := ⟨i - 1, by omega⟩
    have hj : j < es.length := by omega
    have ej : ((j + 1 : Nat) : Int) - 1 = ((j : Nat) : Int) := by omega
    rw [ej]
    obtain ⟨ad, rfl, hc⟩ := H.at hj
    rw [opnN_succ hj] at ho
    refine ⟨by omega, by omega, ?_⟩
    simp only [asPtr_some, Int.toNat_natCast]
    refine ldH_mk (hc 0 _ rfl) ?_
    simp only [asInt_int]
    refine ifB_mk (fun e1 => ?_) (fun e1 => ?_)
    · rw [if_pos (by simpa using e1)] at ho
      refine ⟨by omega, by omega, ldH_mk (hc 1 _ rfl) ?_⟩
      simp only [asBool_bool]
      rw [← ho] at k
      refine ifB_mk (fun e2 => by rw [e2] at k; exact k) (fun e2 => by rw [e2] at k; exact k)
    · rw [if_neg (by simpa using e1)] at ho
      rw [wrap64_id' (by omega) (by omega)]
      refine ⟨⟨_, j, rfl, by trivial, by omega, ho⟩, ?_⟩
      show (((j : Nat) : Int) - 1 + 1).toNat < (((j : Nat) : Int) + 1).toNat
      omega
  · have : i = 0 := by omega
    subst this
    rw [← ho] at k
    exact k

/-- May this event come? -/
def mayB (es : List Ev8) (i : Nat) (e : Ev8) : Bool :=
  (decide (0 ≤ e.th) && decide (e.th ≤ 5)) && (if e.bk then (match opnN es i e.th with | some k => fitsB (es.getD k ⟨0, false, zeroC, zeroC⟩).c e.a | none => false) else rightC e.c && (opnN es i e.th).isNone)
def okE (es : List Ev8) (i : Nat) (e : Ev8) : Bool := mayB es i e && (if e.bk then e.c.is0 else e.a.is0)
def RightH (es : List Ev8) : Prop := ∀ i (hi : i < es.length), okE es i es[i] = true

abbrev zs8 : List Value := [.int .i64 0, .bool false, .int .i64 0, .int .u32 0, .int .u32 0, .int .i64 0, .int .u32 0, .int .u32 0]
theorem st8 {h : Heap} {b : Nat} {v0 v1 v2 v3 v4 v5 v6 v7 : Value} {K : Heap → Prop} (H : stN h ⟨b, 0, none⟩ 0 [v0, v1, v2, v3, v4, v5, v6, v7] K) :
    stH h ⟨b, 0, none⟩ v0 fun h => stH h ⟨b, 1, none⟩ v1 fun h => stH h ⟨b, 2, none⟩ v2 fun h => stH h ⟨b, 3, none⟩ v3 fun h => stH h ⟨b, 4, none⟩ v4 fun h => stH h ⟨b, 5, none⟩ v5 fun h => stH h ⟨b, 6, none⟩ v6 fun h => stH h ⟨b, 7, none⟩ v7 K := H
theorem cells8_one (e : Ev8) : ∀ y ∈ e.cells, oneC y True := by
  intro y hy
  simp only [List.mem_cons, List.not_mem_nil, or_false] at hy
  rcases hy with rfl | rfl | rfl | rfl | rfl | rfl | rfl | rfl <;> exact trivial

theorem may_call {K : Value → Heap → Prop} {h : Heap} {a : Option Addr} {l c i : Nat} {es : List Ev8} (H : SV h a l c es) (hl : l < 2 ^ 60) (hi : i < es.length)
    (k : ∀ r h', (r = 0 ↔ mayB es i es[i] = true) → Old h.size h h' → K (iv r) h') : CallH Try.prog 110 #[.slice a l c, iv i] h K := by
  refine call110 ?_
  unfold F110
  have hlen := H.len
  obtain ⟨ad, rfl, hc⟩ := H.at hi
  refine ⟨by omega, by omega, ?_⟩
  simp only [asPtr_some, Int.toNat_natCast]
  refine ldH_mk (hc 0 _ rfl) (ldH_mk (hc 1 _ rfl) (ldH_mk (hc 2 _ rfl) (ldH_mk (hc 3 _ rfl) (ldH_mk (hc 4 _ rfl) (ldH_mk (hc 5 _ rfl) (ldH_mk (hc 6 _ rfl) (ldH_mk (hc 7 _ rfl) ?_)))))))
  have p := pushed h zs8.toArray 129
  rw [show h.push (.cells #[.int .i64 0, .bool false, .int .i64 0, .int .u32 0, .int .u32 0, .int .i64 0, .int .u32 0, .int .u32 0] 129) = h.push (.cells zs8.toArray 129) from rfl]
  generalize h.push (.cells zs8.toArray 129) = h1 at *
  refine st8 (stN_full (vs := (es[i]).cells) p.new rfl (cells8_one _) fun h2 w => ?_)
  have o2 : Old h.size h h2 := w.toOld p.toOld (Nat.le_refl _)
  generalize hev : es[i] = e at *
  refine ldR w.new rfl ?_
  simp only [asInt_int]
  refine callV_fn (open_call (H.old o2) hl (by omega) ?_)
  simp only [asInt_int]
  have ho := fun k => opnN_lt (es := es) (t := e.th) (k := k) (i := i)
  refine ⟨fun vs h' => vs = [.bool (!(decide (0 ≤ e.th) && decide (e.th ≤ 5)))] ∧ h' = h2, ?_, ?_⟩
  · refine ldR w.new rfl ?_
    simp only [asInt_int]
    refine ifB_dec (fun hn => ⟨?_, by trivial⟩) (fun hn => ?_)
    · rw [decide_eq_false (by omega : ¬ 0 ≤ e.th)]; rfl
    · refine ldR w.new rfl ?_
      simp only [asInt_int]
      refine ⟨?_, by trivial⟩
      rw [decide_eq_true (by omega : 0 ≤ e.th), Bool.true_and]
      congr 2
      by_cases h5 : e.th > 5
      · rw [decide_eq_true h5, decide_eq_false (by omega)]; rfl
      · rw [decide_eq_false h5, decide_eq_true (by omega)]; rfl
  rintro v27 g28 h29 ⟨e0, rfl⟩
  cases e0
  simp only [asBool_bool]
  refine ifB_mk (fun hb => k 2 _ ⟨fun h => by omega, fun h => ?_⟩ o2) (fun hb => ?_)
  · unfold mayB at h
    revert hb h
    cases (decide (0 ≤ e.th) && decide (e.th ≤ 5)) <;> simp
  have hrange : (decide (0 ≤ e.th) && decide (e.th ≤ 5)) = true := by revert hb; cases (decide (0 ≤ e.th) && decide (e.th ≤ 5)) <;> simp
  have hmay : mayB es i e = (if e.bk then (match opnN es i e.th with | some k => fitsB (es.getD k ⟨0, false, zeroC, zeroC⟩).c e.a | none => false) else rightC e.c && (opnN es i e.th).isNone) := by
    unfold mayB; rw [hrange, Bool.true_and]
  rw [hmay] at k
  refine ldR w.new rfl ?_
  simp only [asBool_bool]
  refine ifB_mk (fun hbk => ?_) (fun hbk => ?_)
  · rw [if_pos hbk] at k
    cases hop : opnN es i e.th with
    | none =>
      rw [hop] at k
      refine ifB_dec (fun _ => k 4 _ ⟨fun h => by omega, fun h => by cases h⟩ o2) (fun hx => absurd (show opI none < 0 by decide) hx)
    | some q =>
      rw [hop] at k
      obtain ⟨hqi, hq, _, _⟩ := ho q hop
      refine ifB_dec (fun hx => absurd hx (by show ¬ ((q : Nat) : Int) < 0; omega)) (fun _ => ?_)
      show (0 : Int) ≤ ((q : Nat) : Int) ∧ _
      refine ⟨by omega, by show ((q : Nat) : Int) < _; omega, ?_⟩
      obtain ⟨ad', e', hcq⟩ := (H.old o2).at hq
      cases e'
      have hgd : es.getD q ⟨0, false, zeroC, zeroC⟩ = es[q] := by rw [List.getD_eq_getElem?_getD, List.getElem?_eq_getElem hq]; rfl
      simp only [hgd] at k
      simp only [opI, asPtr_some, Int.toNat_natCast]
      refine ldH_mk (hcq 2 _ rfl) (ldH_mk (hcq 3 _ rfl) (ldH_mk (hcq 4 _ rfl) ?_))
      refine ldR w.new rfl ?_
      rw [add_lit, add_lit]
      refine ldR w.new rfl (ldR w.new rfl ?_)
      refine callV_fn (refFits_call (c := (es[q]).c) (a := e.a) fun h41 o41 => ?_)
      simp only [asBool_bool]
      have ok := o2.trans (o41.mono o2.1)
      refine ifB_mk (fun hf => k 1 _ ⟨fun h => by omega, fun h => by rw [h] at hf; cases hf⟩ ok) (fun hf => k 0 _ ⟨fun _ => by revert hf; cases fitsB (es[q]).c e.a <;> simp, fun _ => rfl⟩ ok)
  · rw [if_neg (by simp [hbk])] at k
    refine ldR w.new rfl ?_
    rw [add_lit, add_lit]
    refine ldR w.new rfl (ldR w.new rfl ?_)
    refine callV_fn (refRight_call (c := e.c) fun h47 o47 => ?_)
    simp only [asBool_bool]
    have ok := o2.trans (o47.mono o2.1)
    refine ifB_mk (fun hf => k 1 _ ⟨fun h => by omega, fun h => ?_⟩ ok) (fun hf => ?_)
    · revert hf h; cases rightC e.c <;> simp
    have hr : rightC e.c = true := by revert hf; cases rightC e.c <;> simp
    rw [hr, Bool.true_and] at k
    cases hop : opnN es i e.th with
    | none =>
      rw [hop] at k
      exact ifB_dec (fun hx => absurd hx (show ¬ opI none ≥ 0 by decide)) (fun _ => k 0 _ ⟨fun _ => rfl, fun _ => rfl⟩ ok)
    | some q =>
      rw [hop] at k
      exact ifB_dec (fun _ => k 5 _ ⟨fun h => by omega, fun h => by cases h⟩ ok) (fun hx => absurd (show ((q : Nat) : Int) ≥ 0 by omega) hx)

theorem refRightH_call {K : Value → Heap → Prop} {h : Heap} {a : Option Addr} {l c : Nat} {es : List Ev8} (H : SV h a l c es) (hl : l < 2 ^ 60) (k1 : RightH es → ∀ h', Old h.size h h' → K (.bool true) h') (k0 : ¬ RightH es → ∀ h', Old h.size h h' → K (.bool false) h') :
    CallH Try.prog 69 #[.slice a l c] h K := by
  refine call69 ?_
  unfold F69
  have hlen := H.len
  refine ⟨fun vs h' => ∃ w, ∃ i : Nat, vs = [w, iv i] ∧ i ≤ l ∧ Old h.size h h' ∧ ∀ q (hq : q < es.length), q < i → okE es q es[q] = true, fun vs _ => (match vs with | [_, .int _ n] => l - n.toNat | _ => 0), ⟨_, 0, rfl, Nat.zero_le _, Old.refl _ _, fun q _ h => by omega⟩, ?_⟩
  rintro v2 v3 g4 h5 ⟨w0, i, e, hi, o5, hall⟩
  cases e
  simp only [asInt_int]
  refine ifB_dec (fun hlt => ?_) (fun hge => k1 (fun q hq => hall q hq (by omega)) _ o5)
  have hi' : i < es.length := by omega
  refine ⟨fun vs h' => vs[3]? = some (.bool (!(okE es i es[i]))) ∧ Old h5.size h5 h', ?_, ?_⟩
  · refine callV_fn (may_call (H.old o5) hl hi' fun r h10 hr o10 => ?_)
    simp only [asInt_int]
    obtain ⟨ad, rfl, hc⟩ := ((H.old o5).old o10).at hi'
    generalize hev : es[i] = e at *
    refine ifB_mk (fun hne => ⟨?_, o10⟩) (fun hne => ?_)
    · have : mayB es i e = false := by
        cases hm : mayB es i e with
        | false => rfl
        | true => have := hr.2 hm; subst this; simp at hne
      unfold okE; rw [this]; rfl
    have hm : mayB es i e = true := hr.1 (by simpa using hne)
    have hok : okE es i e = (if e.bk then e.c.is0 else e.a.is0) := by unfold okE; rw [hm, Bool.true_and]
    rw [hok]
    refine ⟨by omega, hlt, ?_⟩
    simp only [asPtr_some, Int.toNat_natCast]
    refine ldH_mk (hc 1 _ rfl) ?_
    simp only [asBool_bool]
    refine ifB_mk (fun hbk => ?_) (fun hbk => ?_)
    · rw [if_pos hbk]
      refine ⟨by omega, hlt, ldH_mk (hc 2 _ rfl) (ldH_mk (hc 3 _ rfl) (ldH_mk (hc 4 _ rfl) ?_))⟩
      refine eqvH_c3 (.inl rfl) (c := e.c) ?_
      refine ifB_mk (fun hz => ⟨(by revert hz; cases e.c.is0 <;> intro hz <;> first | rfl | cases hz), o10⟩) (fun hz => ?_)
      refine ⟨by omega, hlt, ldH_mk (hc 1 _ rfl) ?_⟩
      simp only [asBool_bool]
      rw [hbk]
      simp only [Bool.not_true, ifB_false]
      exact ⟨(by revert hz; cases e.c.is0 <;> intro hz <;> first | rfl | cases hz), o10⟩
    · rw [if_neg (by simp [hbk])]
      refine ⟨by omega, hlt, ldH_mk (hc 1 _ rfl) ?_⟩
      simp only [asBool_bool]
      rw [hbk]
      simp only [Bool.not_false, ifB_true]
      refine ⟨by omega, hlt, ldH_mk (hc 5 _ rfl) (ldH_mk (hc 6 _ rfl) (ldH_mk (hc 7 _ rfl) ?_))⟩
      refine eqvH_c3 (.inr rfl) (c := e.a) ?_
      exact ⟨rfl, o10⟩
  rintro v42 v43 v44 v45 g46 h47 ⟨e, o47⟩
  obtain rfl : v45 = .bool (!(okE es i es[i])) := by simpa using e
  simp only [asBool_bool]
  have ok47 := o5.trans (o47.mono o5.1)
  refine ifB_mk (fun hb => k0 (fun hr => ?_) _ ok47) (fun hb => ?_)
  · rw [hr i hi'] at hb; cases hb
  · rw [nat_wrap1 (by omega)]
    refine ⟨⟨_, i + 1, rfl, by omega, ok47, fun q hq hqi => ?_⟩, ?_⟩
    · by_cases e : q < i
      · exact hall q hq e
      · obtain rfl : q = i := by omega
        revert hb; cases okE es q es[q] <;> simp
    · show l - ((i + 1 : Nat) : Int).toNat < l - (i : Int).toNat
      omega
end Go.Proofs.Ytgladmaagpcffaa
