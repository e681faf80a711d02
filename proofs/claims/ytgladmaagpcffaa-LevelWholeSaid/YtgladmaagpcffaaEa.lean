/- Entries, sorted in place: by insertion. -/
import Derived.Test.YtgladmaagpcffaaUd
set_option linter.unusedSimpArgs false
set_option linter.unusedVariables false
set_option maxRecDepth 20000
namespace Go.Proofs.Ytgladmaagpcffaa

/-- All but block b stays. -/
def OldB (b : Nat) (h h' : Heap) : Prop := h.size ≤ h'.size ∧ ∀ c, c < h.size → c ≠ b → h'[c]? = h[c]?
structure Ent where
  o : Int
  t : Int
abbrev Ent.cells (e : Ent) : List Value := [.int .u64 e.o, .int .i64 e.t]
abbrev flatE (es : List Ent) : List Value := es.flatMap Ent.cells
theorem flatE_len (es : List Ent) : (flatE es).length = es.length * 2 := by
  induction es with
  | nil => rfl
  | cons e es ih =>
    have h2 : e.cells.length = 2 := rfl
    show (List.flatMap Ent.cells (e :: es)).length = _
    rw [List.flatMap_cons, List.length_append, h2, List.length_cons]
    show 2 + (flatE es).length = _
    rw [ih]; omega
theorem flatE_get {es : List Ent} : ∀ {i : Nat} (hi : i < es.length) {j : Nat}, j < 2 → (flatE es)[i * 2 + j]? = (es[i]).cells[j]? := by
  induction es with
  | nil => intro i hi; simp at hi
  | cons e es ih =>
    intro i hi j hj
    have h2 : e.cells.length = 2 := rfl
    show (List.flatMap Ent.cells (e :: es))[i * 2 + j]? = _
    rw [List.flatMap_cons]
    cases i with
    | zero =>
      rw [List.getElem?_append_left (by omega)]
      simp
    | succ i =>
      rw [List.getElem?_append_right (by rw [h2]; omega), h2, show (i + 1) * 2 + j - 2 = i * 2 + j by omega]
      exact ih (i := i) (by simpa using hi) hj
/-- A block whose first cells are entries. -/
def EB (h : Heap) (b : Nat) (es : List Ent) (sp : List Value) : Prop := h[b]? = some (.cells (flatE es ++ sp).toArray 97)
theorem EB.at {h : Heap} {b : Nat} {es : List Ent} {sp : List Value} (H : EB h b es sp) {i : Nat} (hi : i < es.length) :
    cellAt h ((⟨b, 0, none⟩ : Addr).add (i * 2)) = some (.int .u64 (es[i]).o) ∧ cellAt h (((⟨b, 0, none⟩ : Addr).add (i * 2)).add 1) = some (.int .i64 (es[i]).t) := by
  have hl := flatE_len es
  have h0 := flatE_get hi (j := 0) (by omega)
  have h1 := flatE_get hi (j := 1) (by omega)
  rw [add_lit, add_lit, cellAt_of H, cellAt_of H, List.getElem?_toArray, List.getElem?_toArray, List.getElem?_append_left (by omega), List.getElem?_append_left (by omega), Nat.zero_add]
  exact ⟨h0, h1⟩
theorem EB.old {h h' : Heap} {b : Nat} {es : List Ent} {sp : List Value} (H : EB h b es sp) (o : Old h.size h h') : EB h' b es sp := (o.2 _ (Array.getElem?_eq_some_iff.1 H).1).trans H
theorem flatE_set {es : List Ent} {i : Nat} (hi : i < es.length) (e : Ent) (sp : List Value) : (((flatE es ++ sp).set (i * 2) (.int .u64 e.o)).set (i * 2 + 1) (.int .i64 e.t)) = flatE (es.set i e) ++ sp := by
  have hl := flatE_len es
  have hl2 := flatE_len (es.set i e)
  rw [List.length_set] at hl2
  rw [List.set_append_left _ _ (by omega), List.set_append_left _ _ (by rw [List.length_set]; omega)]
  congr 1
  apply List.ext_getElem?
  intro q
  by_cases hq : q < es.length * 2
  · have hqi : q / 2 < es.length := by omega
    have e1 := flatE_get (es := es) hqi (j := q % 2) (by omega)
    have e2 := flatE_get (es := es.set i e) (i := q / 2) (by simpa using hqi) (j := q % 2) (by omega)
    rw [show q / 2 * 2 + q % 2 = q by omega] at e1 e2
    rw [e2, List.getElem?_set, List.getElem?_set, List.getElem_set]
    simp only [List.length_set, hl]
    by_cases h1 : i = q / 2
    · rw [if_pos h1]
      by_cases h2 : i * 2 + 1 = q
      · rw [if_pos h2, if_pos (by omega), show q % 2 = 1 by omega]; rfl
      · rw [if_neg h2, if_pos (by omega), if_pos (by omega), show q % 2 = 0 by omega]; rfl
    · rw [if_neg h1, if_neg (by omega), if_neg (by omega)]
      exact e1
  · rw [List.getElem?_eq_none (by simp [hl]; omega), List.getElem?_eq_none (by omega)]
theorem EB.set {h : Heap} {b : Nat} {es : List Ent} {sp : List Value} {i : Nat} {e : Ent} {K : Heap → Prop} (H : EB h b es sp) (hi : i < es.length)
    (k : ∀ h', EB h' b (es.set i e) sp → h'.size = h.size → (∀ c, c ≠ b → h'[c]? = h[c]?) → K h') :
    stH h ((⟨b, 0, none⟩ : Addr).add (i * 2)) (.int .u64 e.o) fun h' => stH h' (((⟨b, 0, none⟩ : Addr).add (i * 2)).add 1) (.int .i64 e.t) K := by
  have hl := flatE_len es
  have hlt := (Array.getElem?_eq_some_iff.1 H).1
  rw [add_lit]
  refine stH_mk H (by simp [hl]; omega) trivial ?_
  rintro h1 rfl
  rw [add_lit]
  refine stH_mk (set_new hlt) (by simp [hl]; omega) trivial ?_
  rintro h2 rfl
  refine k _ ?_ (by simp) (fun c hc => (set_old hc).trans (set_old hc))
  unfold EB
  rw [set_new (by simpa using hlt)]
  have e2 := flatE_set hi e sp
  simp only [Nat.zero_add, List.setIfInBounds_toArray, e2]

/-! ### the order -/
def cmpI (a b : Int) : Int := if a < b then -1 else if a > b then 1 else 0
theorem compare_call {K : Value → Heap → Prop} {h : Heap} {a b : Int} (k : K (iv (cmpI a b)) h) : CallH Try.prog 106 #[.int .u64 a, .int .u64 b] h K := by
  refine call106 ?_
  unfold F106
  refine callV_fn (call129 ?_)
  unfold F129
  simp only [bne_self_eq_false, asBool_bool]
  refine callV_fn (call129 ?_)
  unfold F129
  simp only [bne_self_eq_false, asBool_bool, ifB_false]
  unfold cmpI at k
  refine ifB_dec (fun h1 => by rwa [if_pos h1] at k) (fun h1 => ?_)
  rw [if_neg h1] at k
  exact ifB_dec (fun h2 => by rwa [if_pos h2] at k) (fun h2 => by rwa [if_neg h2] at k)
def cmpV : Value := .func (.func 105) #[] #[]
theorem cmp_call {K : Value → Heap → Prop} {h : Heap} {a b : Ent} (k : ∀ h', Old h.size h h' → K (iv (cmpI a.o b.o)) h') : callV Try.prog cmpV #[.agg a.cells.toArray, .agg b.cells.toArray] h K := by
  refine callV_fn (call105 ?_)
  unfold F105
  have p1 := pushed h a.cells.toArray 97
  rw [show h.push (.cells #[.int .u64 a.o, .int .i64 a.t] 97) = h.push (.cells a.cells.toArray 97) from rfl]
  generalize h.push (.cells a.cells.toArray 97) = h1 at *
  have p2 := pushed h1 b.cells.toArray 97
  rw [show h1.push (.cells #[.int .u64 b.o, .int .i64 b.t] 97) = h1.push (.cells b.cells.toArray 97) from rfl]
  generalize h1.push (.cells b.cells.toArray 97) = h2 at *
  have s1 := p1.size
  refine ldR ((p2.old h.size (by omega)).trans p1.new) rfl ?_
  simp only [asInt_int]
  refine ldR p2.new rfl ?_
  simp only [asInt_int]
  refine callV_fn (compare_call ?_)
  simp only [asInt_int]
  exact k _ (p1.toOld.trans (p2.toOld.mono (by omega)))

/-! ### insertion -/
def SortedSeg (es : List Ent) (a b : Nat) : Prop := ∀ p q (hp : p < es.length) (hq : q < es.length), a ≤ p → p ≤ q → q < b → (es[p]).o ≤ (es[q]).o
structure SegOk (es : List Ent) (a b : Nat) (es' : List Ent) : Prop where
  perm : es'.Perm es
  out : ∀ p, p < a ∨ b ≤ p → es'[p]? = es[p]?
theorem SegOk.refl (es : List Ent) (a b : Nat) : SegOk es a b es := ⟨List.Perm.refl _, fun _ _ => rfl⟩
theorem SegOk.len {es es' : List Ent} {a b : Nat} (H : SegOk es a b es') : es'.length = es.length := H.perm.length_eq
theorem SegOk.mono {es es' : List Ent} {a b b' : Nat} (H : SegOk es a b es') (hb : b ≤ b') : SegOk es a b' es' := ⟨H.perm, fun p hp => H.out p (by omega)⟩
theorem SegOk.trans {es es' es'' : List Ent} {a b : Nat} (H : SegOk es a b es') (H2 : SegOk es' a b es'') : SegOk es a b es'' := ⟨H2.perm.trans H.perm, fun p hp => (H2.out p hp).trans (H.out p hp)⟩

/-- In the middle of a round: all but the one at j are in order. -/
structure Mid (cs : List Ent) (a i j : Nat) : Prop where
  rest : ∀ p q (hp : p < cs.length) (hq : q < cs.length), a ≤ p → p ≤ q → q ≤ i → p ≠ j → q ≠ j → (cs[p]).o ≤ (cs[q]).o
  right : ∀ q (hj : j < cs.length) (hq : q < cs.length), j < q → q ≤ i → (cs[j]).o ≤ (cs[q]).o
theorem Mid.swap {cs : List Ent} {a i j : Nat} (H : Mid cs a i j) (hj : j < cs.length) (haj : a < j) (hji : j ≤ i) (hlt : (cs[j]).o < (cs[j - 1]).o) : Mid ((cs.set j cs[j - 1]).set (j - 1) cs[j]) a i (j - 1) := by
  have get : ∀ p (hp : p < ((cs.set j cs[j - 1]).set (j - 1) cs[j]).length), (((cs.set j cs[j - 1]).set (j - 1) cs[j])[p]).o = if j - 1 = p then (cs[j]).o else if j = p then (cs[j - 1]).o else (cs[p]'(by simpa using hp)).o := by
    intro p hp
    simp only [List.getElem_set]
    split
    · rfl
    · split <;> rfl
  constructor
  · intro p q hp hq h1 h2 h3 h4 h5
    rw [get p hp, get q hq, if_neg (show ¬ j - 1 = p by omega), if_neg (show ¬ j - 1 = q by omega)]
    simp only [List.length_set] at hp hq
    by_cases e1 : j = p
    · by_cases e2 : j = q
      · rw [if_pos e1, if_pos e2]; exact Int.le_refl _
      · rw [if_pos e1, if_neg e2]
        exact H.rest (j - 1) q (by omega) hq (by omega) (by omega) h3 (by omega) (by omega)
    · by_cases e2 : j = q
      · rw [if_neg e1, if_pos e2]
        exact H.rest p (j - 1) hp (by omega) h1 (by omega) (by omega) (by omega) (by omega)
      · rw [if_neg e1, if_neg e2]
        exact H.rest p q hp hq h1 h2 h3 (by omega) (by omega)
  · intro q hj' hq h1 h2
    rw [get _ hj', get q hq, if_pos rfl, if_neg (show ¬ j - 1 = q by omega)]
    simp only [List.length_set] at hq
    by_cases e : j = q
    · rw [if_pos e]; omega
    · rw [if_neg e]
      exact H.right q hj hq (by omega) h2
theorem Mid.done {cs : List Ent} {a i j : Nat} (H : Mid cs a i j) (hj : j < cs.length) (haj : a ≤ j) (hji : j ≤ i) (hge : ∀ h : a < j, (cs[j - 1]).o ≤ (cs[j]).o) : SortedSeg cs a (i + 1) := by
  intro p q hp hq h1 h2 h3
  by_cases e1 : p = j
  · subst e1
    by_cases e2 : q = p
    · subst e2; exact Int.le_refl _
    · exact H.right q hp hq (by omega) (by omega)
  · by_cases e2 : q = j
    · subst e2
      have h4 := hge (by omega)
      by_cases e3 : p = q - 1
      · subst e3; exact h4
      · exact Int.le_trans (H.rest p (q - 1) hp (by omega) h1 (by omega) (by omega) (by omega) (by omega)) h4
    · exact H.rest p q hp hq h1 h2 (by omega) e1 e2

theorem insertion_call {K : Value → Heap → Prop} {h : Heap} {b l c a1 b1 : Nat} {es : List Ent} {sp : List Value} (H : EB h b es sp) (hl : es.length = l) (hl2 : l ≤ 1000) (hab : a1 ≤ b1) (hb : b1 ≤ l)
    (k : ∀ es' h', EB h' b es' sp → SegOk es a1 b1 es' → SortedSeg es' a1 b1 → OldB b h h' → K (.tuple #[]) h') :
    CallH Try.prog 150 #[.slice (some ⟨b, 0, none⟩) l c, iv a1, iv b1, cmpV] h K := by
  refine call150 ?_
  unfold F150
  have hbl := (Array.getElem?_eq_some_iff.1 H).1
  rw [nat_wrap1 (by omega)]
  refine ⟨fun vs h' => ∃ v, ∃ i : Nat, ∃ cs, vs = [iv i, v] ∧ a1 < i ∧ (i ≤ b1 ∨ i = a1 + 1) ∧ EB h' b cs sp ∧ SegOk es a1 b1 cs ∧ SortedSeg cs a1 i ∧ OldB b h h', fun vs _ => (match vs with | [.int _ n, _] => b1 - n.toNat | _ => 0),
    ⟨_, a1 + 1, es, rfl, by omega, .inr rfl, H, SegOk.refl _ _ _, fun p q hp hq h1 h2 h3 => (by obtain rfl : p = q := by omega
                                                                                                exact Int.le_refl _), Nat.le_refl _, fun _ _ _ => rfl⟩, ?_⟩
  rintro v2 v3 g h5 ⟨w, i, cs, e, hai, hib, B5, sg5, so5, o5⟩
  cases e
  simp only [asInt_int]
  refine ifB_dec (fun hlt => ?_) (fun hge => ?_)
  · have hib' : i < b1 := by omega
    refine ⟨fun vs h' => ∃ j : Nat, ∃ ds, vs = [iv j] ∧ a1 ≤ j ∧ j ≤ i ∧ EB h' b ds sp ∧ SegOk es a1 b1 ds ∧ Mid ds a1 i j ∧ OldB b h h', fun vs _ => (match vs with | [.int _ n] => n.toNat | _ => 0), ⟨i, cs, rfl, by omega, Nat.le_refl _, B5, sg5, ⟨fun p q hp hq h1 h2 h3 h4 h5 => so5 p q hp hq h1 h2 (by omega), fun q _ _ h1 h2 => by omega⟩, o5⟩, ?_⟩
    rintro v10 g11 h12 ⟨j, ds, e, haj, hji, B12, sg12, mid, o12⟩
    cases e
    have hdl : ds.length = l := by rw [sg12.len, hl]
    refine ⟨fun vs h' => ∃ bb, vs = [.bool bb] ∧ Old h12.size h12 h' ∧ (bb = true → ∃ (h0 : a1 < j) (hj : j < ds.length), (ds[j]).o < (ds[j - 1]).o) ∧ (bb = false → ∀ (h0 : a1 < j) (hj : j < ds.length), (ds[j - 1]).o ≤ (ds[j]).o), ?_, ?_⟩
    · simp only [asInt_int]
      refine ifB_dec (fun h1 => ?_) (fun h1 => ⟨false, rfl, Old.refl _ _, fun e => (by cases e), fun _ h0 => by omega⟩)
      have hj : j < ds.length := by omega
      have hj1 : j - 1 < ds.length := by omega
      obtain ⟨x0, x1⟩ := B12.at hj
      obtain ⟨y0, y1⟩ := B12.at hj1
      refine ⟨by omega, by omega, ?_⟩
      simp only [asPtr_some, Int.toNat_natCast]
      refine ldH_mk x0 (ldH_mk x1 ?_)
      rw [nat_wrapm (by omega) (by omega)]
      refine ⟨by omega, by omega, ?_⟩
      simp only [Int.toNat_natCast]
      refine ldH_mk y0 (ldH_mk y1 ?_)
      refine cmp_call (a := ds[j]) (b := ds[j - 1]) fun h24 o24 => ?_
      simp only [asInt_int]
      refine ⟨_, rfl, o24, fun e => ⟨by omega, hj, ?_⟩, fun e _ _ => ?_⟩
      · have := of_decide_eq_true e
        unfold cmpI at this
        split at this
        · assumption
        · split at this <;> omega
      · have := of_decide_eq_false e
        unfold cmpI at this
        split at this
        · omega
        · omega
    rintro v26 g27 h28 ⟨bb, e, o28, hb1, hb0⟩
    cases e
    have B28 : EB h28 b ds sp := (o28.2 _ (Array.getElem?_eq_some_iff.1 B12).1).trans B12
    have o28A : OldB b h h28 := ⟨Nat.le_trans o12.1 o28.1, fun c hc hne => (o28.2 c (Nat.lt_of_lt_of_le hc o12.1)).trans (o12.2 c hc hne)⟩
    simp only [asBool_bool]
    refine ifB_mk (fun hq => ?_) (fun hq => ?_)
    · obtain ⟨h0, hj, hlt2⟩ := hb1 hq
      have hj1 : j - 1 < ds.length := by omega
      obtain ⟨x0, x1⟩ := B28.at hj
      obtain ⟨y0, y1⟩ := B28.at hj1
      simp only [asInt_int]
      rw [nat_wrapm (by omega) (by omega)]
      refine ⟨by omega, by omega, ?_⟩
      simp only [asPtr_some, Int.toNat_natCast]
      refine ldH_mk y0 (ldH_mk y1 ?_)
      refine ⟨by omega, by omega, ldH_mk x0 (ldH_mk x1 ?_)⟩
      refine ⟨by omega, by omega, ?_⟩
      refine B28.set (e := ds[j - 1]) hj fun h42 B42 s42 old42 => ?_
      refine ⟨by omega, by omega, ?_⟩
      refine B42.set (e := ds[j]) (by simpa using hj1) fun h45 B45 s45 old45 => ?_
      refine ⟨⟨j - 1, _, rfl, by omega, by omega, B45, ?_, mid.swap hj h0 hji hlt2, ?_⟩, ?_⟩
      · refine sg12.trans ⟨List.set_set_perm hj hj1, fun p hp => ?_⟩
        rw [List.getElem?_set, List.getElem?_set, if_neg (by omega), if_neg (by omega)]
      · exact ⟨by rw [s45, s42]; exact o28A.1, fun c hc hne => (old45 c hne).trans ((old42 c hne).trans (o28A.2 c hc hne))⟩
      · show ((j - 1 : Nat) : Int).toNat < (j : Int).toNat
        omega
    · rw [nat_wrap1 (by omega)]
      refine ⟨⟨_, i + 1, ds, rfl, by omega, .inl (by omega), B28, sg12, ?_, o28A⟩, ?_⟩
      · exact mid.done (by omega) haj hji fun h0 => hb0 hq h0 (by omega)
      · show b1 - ((i + 1 : Nat) : Int).toNat < b1 - (i : Int).toNat
        omega
  · refine k cs _ B5 sg5 (fun p q hp hq h1 h2 h3 => so5 p q hp hq h1 h2 (by omega)) o5
end Go.Proofs.Ytgladmaagpcffaa
