/- Operations of a history. -/
import Derived.Test.YtgladmaagpcffaaZd
import Derived.Test.YtgladmaagpcffaaOa
set_option linter.unusedSimpArgs false
set_option linter.unusedVariables false
set_option maxRecDepth 20000
namespace Go.Proofs.Ytgladmaagpcffaa

theorem nodup_inj {α : Type} {L : List α} (hn : L.Nodup) {i j : Nat} (hi : i < L.length) (hj : j < L.length) (e : L[i] = L[j]) : i = j := by
  have hp := List.pairwise_iff_getElem.1 hn
  apply Decidable.byContradiction
  intro hne
  rcases Nat.lt_or_gt_of_ne hne with h | h
  · exact hp i j hi hj h e
  · exact hp j i hj hi h e.symm
def dfE : Ev8 := ⟨0, false, zeroC, zeroC⟩
def thN (es : List Ev8) (k : Nat) : Int := (es.getD k dfE).th
def bkN (es : List Ev8) (k : Nat) : Bool := (es.getD k dfE).bk
/-- The first event of the same thread behind one. -/
def ansN (es : List Ev8) (i q : Nat) : Option Nat := (List.range i).find? fun k => decide (q < k) && thN es k == thN es q
theorem ansN_succ (es : List Ev8) (i q : Nat) : ansN es (i + 1) q = (ansN es i q).or (if q < i ∧ thN es i = thN es q then some i else none) := by
  unfold ansN
  rw [List.range_succ, List.find?_append]
  congr 1
  by_cases h : q < i ∧ thN es i = thN es q
  · rw [if_pos h, List.find?_cons_of_pos (by simp [h.1, h.2])]
  · rw [if_neg h, List.find?_cons_of_neg (by simpa using h)]; rfl
theorem ansN_low {es : List Ev8} {i q : Nat} (h : i ≤ q + 1) : ansN es i q = none := by
  unfold ansN
  rw [List.find?_eq_none]
  intro k hk
  simp at hk ⊢
  intro h2; omega
theorem ansN_some {es : List Ev8} {i q k : Nat} (h : ansN es i q = some k) : q < k ∧ k < i ∧ thN es k = thN es q ∧ ansN es k q = none := by
  induction i with
  | zero => simp [ansN] at h
  | succ i ih =>
    rw [ansN_succ] at h
    cases ha : ansN es i q with
    | some k' =>
      rw [ha] at h
      simp at h; subst h
      obtain ⟨h1, h2, h3, h4⟩ := ih ha
      exact ⟨h1, by omega, h3, h4⟩
    | none =>
      rw [ha] at h
      simp only [Option.none_or] at h
      split at h
      · rename_i hc
        cases h; exact ⟨by omega, by omega, hc.2, ha⟩
      · cases h
theorem ansN_mono {es : List Ev8} {i j q k : Nat} (h : ansN es i q = some k) (hij : i ≤ j) : ansN es j q = some k := by
  induction hij with
  | refl => exact h
  | step _ ih => rw [ansN_succ, ih]; rfl
theorem thN_get {es : List Ev8} {k : Nat} (h : k < es.length) : thN es k = (es[k]).th := by unfold thN; rw [List.getD_eq_getElem?_getD, List.getElem?_eq_getElem h]; rfl
theorem bkN_get {es : List Ev8} {k : Nat} (h : k < es.length) : bkN es k = (es[k]).bk := by unfold bkN; rw [List.getD_eq_getElem?_getD, List.getElem?_eq_getElem h]; rfl
/-- An unanswered call is the open one. -/
theorem opn_of_ans {es : List Ev8} {q : Nat} (hb : bkN es q = false) : ∀ i, i ≤ es.length → q < i → ansN es i q = none → opnN es i (thN es q) = some q := by
  intro i
  induction i with
  | zero => intro _ h; omega
  | succ i ih =>
    intro hi hq ha
    rw [opnN_succ (by omega)]
    by_cases e : q = i
    · subst e
      rw [if_pos (thN_get (by omega)).symm, ← bkN_get (by omega), hb]; rfl
    · rw [ansN_succ] at ha
      have h1 : ansN es i q = none := by cases h : ansN es i q with | none => rfl | some k => rw [h] at ha; cases ha
      rw [h1, Option.none_or] at ha
      have h2 : ¬ thN es i = thN es q := fun e2 => by rw [if_pos ⟨by omega, e2⟩] at ha; cases ha
      rw [if_neg (by rw [← thN_get (by omega)]; exact h2)]
      exact ih (by omega) (by omega) h1
theorem ans_of_opn {es : List Ev8} {t : Int} {q : Nat} : ∀ i, i ≤ es.length → opnN es i t = some q → ansN es i q = none := by
  intro i
  induction i with
  | zero => intro _ h; cases h
  | succ i ih =>
    intro hi h
    obtain ⟨_, hq, hth, _⟩ := opnN_lt h
    rw [opnN_succ (by omega)] at h
    split at h
    · split at h
      · cases h
      · cases h; exact ansN_low (Nat.le_refl _)
    · rename_i hne
      rw [ansN_succ, ih (by omega) h, Option.none_or, if_neg]
      rintro ⟨_, e⟩
      rw [thN_get (by omega), thN_get hq, hth] at e
      exact hne e

/-- A call's operation, as far as events are known. -/
def opEv (es : List Ev8) (i q : Nat) : Op9 :=
  let e := es.getD q dfE
  match ansN es i q with
  | some k => let x := es.getD k dfE; ⟨e.th, e.c.o, e.c.k, e.c.v, x.a.o, x.a.k, x.a.v, q, k⟩
  | none => ⟨e.th, e.c.o, e.c.k, e.c.v, 0, 0, 0, q, -1⟩
theorem opEv_congr {es : List Ev8} {i j q : Nat} (h : ansN es i q = ansN es j q) : opEv es i q = opEv es j q := by unfold opEv; rw [h]
/-- The places where calls begin. -/
def inv (es : List Ev8) (i : Nat) : List Nat := (List.range i).filter fun q => !bkN es q
theorem inv_succ (es : List Ev8) (i : Nat) : inv es (i + 1) = inv es i ++ (if bkN es i then [] else [i]) := by
  unfold inv
  rw [List.range_succ, List.filter_append]
  congr 1
  cases h : bkN es i <;> simp [h]
theorem inv_lt {es : List Ev8} {i q : Nat} (h : q ∈ inv es i) : q < i ∧ bkN es q = false := by
  unfold inv at h
  rw [List.mem_filter] at h
  exact ⟨List.mem_range.1 h.1, by simpa using h.2⟩
theorem inv_len_le (es : List Ev8) (i : Nat) : (inv es i).length ≤ i := by
  unfold inv
  have := List.length_filter_le (fun q => !bkN es q) (List.range i)
  simpa using this
theorem inv_nodup (es : List Ev8) (i : Nat) : (inv es i).Nodup := by
  unfold inv
  exact List.Nodup.sublist List.filter_sublist List.nodup_range
theorem inv_at {es : List Ev8} {q : Nat} (hb : bkN es q = false) : ∀ i, q < i → (inv es i)[(inv es q).length]? = some q := by
  intro i
  induction i with
  | zero => intro h; omega
  | succ i ih =>
    intro h
    rw [inv_succ]
    by_cases e : q = i
    · subst e
      rw [hb]
      simp
    · have := ih (by omega)
      have hlt := (List.getElem?_eq_some_iff.1 this).1
      rw [List.getElem?_append_left hlt]
      exact this
def opsAt (es : List Ev8) (i : Nat) : List Op9 := (inv es i).map (opEv es i)
def opsE (es : List Ev8) : List Op9 := opsAt es es.length

theorem ops_inv {es : List Ev8} {i : Nat} (hi : i < es.length) (hb : bkN es i = false) (hop : opnN es i (thN es i) = none) : opsAt es (i + 1) = opsAt es i ++ [⟨(es[i]).th, (es[i]).c.o, (es[i]).c.k, (es[i]).c.v, 0, 0, 0, i, -1⟩] := by
  unfold opsAt
  rw [inv_succ, hb]
  simp only [Bool.false_eq_true, if_false, List.map_append, List.map_cons, List.map_nil]
  congr 1
  · apply List.map_congr_left
    intro q hq
    obtain ⟨h1, h2⟩ := inv_lt hq
    refine opEv_congr ?_
    rw [ansN_succ]
    cases ha : ansN es i q with
    | some k => rfl
    | none =>
      rw [Option.none_or, if_neg]
      rintro ⟨_, e⟩
      have := opn_of_ans h2 i (by omega) h1 ha
      rw [← e, hop] at this; cases this
  · unfold opEv
    rw [ansN_low (Nat.le_refl _)]
    simp only [List.getD_eq_getElem?_getD, List.getElem?_eq_getElem hi, Option.getD_some]
theorem ops_ans {es : List Ev8} {i q : Nat} (hi : i < es.length) (hb : bkN es i = true) (hop : opnN es i (thN es i) = some q) :
    opsAt es (i + 1) = (opsAt es i).set (inv es q).length ⟨(es.getD q dfE).th, (es.getD q dfE).c.o, (es.getD q dfE).c.k, (es.getD q dfE).c.v, (es[i]).a.o, (es[i]).a.k, (es[i]).a.v, q, i⟩ := by
  obtain ⟨hqi, hq, hth, hbk⟩ := opnN_lt hop
  have hbq : bkN es q = false := by rw [bkN_get hq]; exact hbk
  have hans := ans_of_opn i (by omega) hop
  have hthq : thN es i = thN es q := by rw [thN_get hq]; exact hth.symm
  unfold opsAt
  rw [inv_succ, hb]
  simp only [if_true, List.append_nil]
  apply List.ext_getElem?
  intro j
  rw [List.getElem?_map, List.getElem?_set, List.getElem?_map]
  have hat := inv_at hbq i hqi
  by_cases e : (inv es q).length = j
  · subst e
    rw [if_pos rfl, hat, if_pos (by rw [List.length_map]; exact (List.getElem?_eq_some_iff.1 hat).1)]
    simp only [Option.map_some, Option.some.injEq]
    unfold opEv
    rw [ansN_succ, hans, Option.none_or, if_pos ⟨hqi, hthq⟩]
    simp only [List.getD_eq_getElem?_getD, List.getElem?_eq_getElem hi, Option.getD_some]
  · rw [if_neg e]
    cases hj : (inv es i)[j]? with
    | none => rfl
    | some q' =>
      simp only [Option.map_some, Option.some.injEq]
      obtain ⟨h1, h2⟩ := inv_lt (List.mem_of_getElem? hj)
      refine opEv_congr ?_
      rw [ansN_succ]
      cases ha : ansN es i q' with
      | some k => rfl
      | none =>
        rw [Option.none_or, if_neg]
        rintro ⟨_, e2⟩
        have := opn_of_ans h2 i (by omega) h1 ha
        rw [← e2, hop] at this
        cases this
        have hlt := (List.getElem?_eq_some_iff.1 hj).1
        have hlt2 := (List.getElem?_eq_some_iff.1 hat).1
        have e3 : (inv es i)[j] = (inv es i)[(inv es q).length] := by
          rw [(List.getElem?_eq_some_iff.1 hj).2, (List.getElem?_eq_some_iff.1 hat).2]
        exact e (nodup_inj (inv_nodup es i) hlt hlt2 e3).symm

/-! ### rows of operations -/
theorem flat9_len (ops : List Op9) : (ops.flatMap Op9.cells).length = ops.length * 9 := by
  induction ops with
  | nil => rfl
  | cons e ops ih =>
    have h9 : e.cells.length = 9 := rfl
    rw [List.flatMap_cons, List.length_append, ih, h9, List.length_cons]; omega
theorem flat9_get {ops : List Op9} (p : Nat) : (ops.flatMap Op9.cells)[p]? = (ops[p / 9]?).bind fun o => o.cells[p % 9]? := by
  by_cases h : p / 9 < ops.length
  · rw [List.getElem?_eq_getElem h]
    have hj : p % 9 < (ops[p / 9]).cells.length := by show p % 9 < 9; omega
    have := flat9 h (List.getElem?_eq_getElem hj)
    rw [show p / 9 * 9 + p % 9 = p by omega] at this
    rw [this]
    simp only [Option.bind_some]
    rw [List.getElem?_eq_getElem hj]
  · rw [List.getElem?_eq_none (by rw [flat9_len]; omega), List.getElem?_eq_none (by omega)]; rfl
theorem flat9_set {ops : List Op9} {i : Nat} (hi : i < ops.length) (x y z w : Int) :
    (((((ops.flatMap Op9.cells).set (i * 9 + 4) (.int .i64 x)).set (i * 9 + 5) (.int .u32 y)).set (i * 9 + 6) (.int .u32 z)).set (i * 9 + 8) (.int .i64 w)) = (ops.set i ⟨(ops[i]).th, (ops[i]).op, (ops[i]).key, (ops[i]).val, x, y, z, (ops[i]).fr, w⟩).flatMap Op9.cells := by
  have hl := flat9_len ops
  apply List.ext_getElem?
  intro p
  rw [flat9_get]
  simp only [List.getElem?_set, List.length_set, hl]
  by_cases e : i = p / 9
  · rw [if_pos e, if_pos hi]
    simp only [Option.bind_some]
    have hp : p = i * 9 + p % 9 := by omega
    have hm : p % 9 < 9 := by omega
    generalize p % 9 = r at *
    subst hp
    match r, hm with
    | 0, _ | 1, _ | 2, _ | 3, _ | 7, _ =>
      rw [if_neg (by omega), if_neg (by omega), if_neg (by omega), if_neg (by omega), flat9_get]
      rw [← e, List.getElem?_eq_getElem hi]
      simp only [Option.bind_some]
      first | (rw [show (i * 9 + 0) % 9 = 0 by omega]; rfl) | (rw [show (i * 9 + 1) % 9 = 1 by omega]; rfl) | (rw [show (i * 9 + 2) % 9 = 2 by omega]; rfl) | (rw [show (i * 9 + 3) % 9 = 3 by omega]; rfl) | (rw [show (i * 9 + 7) % 9 = 7 by omega]; rfl)
    | 4, _ => rw [if_neg (by omega), if_neg (by omega), if_neg (by omega), if_pos rfl, if_pos (by omega)]; rfl
    | 5, _ => rw [if_neg (by omega), if_neg (by omega), if_pos rfl, if_pos (by omega)]; rfl
    | 6, _ => rw [if_neg (by omega), if_pos rfl, if_pos (by omega)]; rfl
    | 8, _ => rw [if_pos rfl, if_pos (by omega)]; rfl
  · rw [if_neg e, if_neg (by omega), if_neg (by omega), if_neg (by omega), if_neg (by omega), flat9_get]
theorem Own.store {h : Heap} {elem : TypeId} {sz : Nat} {ad : Addr} {l c pos : Nat} {xs : List Value} {v : Value} {K : Heap → Prop} (H : Own h elem sz (some ad) l c xs) (hp : pos < xs.length) (ho : oneC v True)
    (k : ∀ h', Own h' elem sz (some ad) l c (xs.set pos v) → h'.size = h.size → (∀ b, b ≠ ad.block → h'[b]? = h[b]?) → K h') : stH h (ad.add pos) v K := by
  obtain ⟨h1, h2, h3⟩ := H
  rcases h3 with ⟨e, _⟩ | ⟨b, row, e, hb, hs, ht⟩
  · cases e
  cases e
  rw [add_lit, Nat.zero_add]
  have hlt := (Array.getElem?_eq_some_iff.1 hb).1
  have hlc : l * sz ≤ c * sz := Nat.mul_le_mul_right _ h2
  refine stH_mk hb (by omega) ho ?_
  rintro h' rfl
  refine k _ ⟨by simp [h1], h2, .inr ⟨b, _, rfl, set_new hlt, by simp [hs], ?_⟩⟩ (by simp) (fun b' hb' => set_old hb')
  rw [Array.toList_setIfInBounds, List.take_set, ht]
end Go.Proofs.Ytgladmaagpcffaa
