/- Joining two parts in order (symMerge). -/
import Derived.Test.YtgladmaagpcffaaEg
set_option linter.unusedSimpArgs false
set_option linter.unusedVariables false
set_option maxRecDepth 20000
namespace Go.Proofs.Ytgladmaagpcffaa

def vl (es : List Ent) (p : Nat) : Int := (es.getD p ⟨0, 0⟩).o
theorem vl_eq {cs es : List Ent} {p q : Nat} (h : cs[p]? = es[q]?) : vl cs p = vl es q := by
  unfold vl; rw [List.getD_eq_getElem?_getD, List.getD_eq_getElem?_getD, h]
theorem vl_get {es : List Ent} {p : Nat} (hp : p < es.length) : vl es p = (es[p]).o := by
  unfold vl; rw [List.getD_eq_getElem?_getD, List.getElem?_eq_getElem hp]; rfl
theorem sorted_vl {es : List Ent} {a b : Nat} (hb : b ≤ es.length) : SortedSeg es a b ↔ ∀ p q, a ≤ p → p ≤ q → q < b → vl es p ≤ vl es q := by
  constructor
  · intro H p q h1 h2 h3
    rw [vl_get (by omega), vl_get (by omega)]
    exact H p q _ _ h1 h2 h3
  · intro H p q hp hq h1 h2 h3
    rw [← vl_get, ← vl_get]
    exact H p q h1 h2 h3
theorem seg_mem {es es' : List Ent} {a b : Nat} (H : SegOk es a b es') (hab : a ≤ b) (hb : b ≤ es.length) {p : Nat} (h1 : a ≤ p) (h2 : p < b) : ∃ q, a ≤ q ∧ q < b ∧ vl es' p = vl es q := by
  have hl := H.len
  have split3 : ∀ L : List Ent, L = L.take a ++ ((L.drop a).take (b - a) ++ L.drop b) := by
    intro L
    have e1 : L.drop b = (L.drop a).drop (b - a) := by rw [List.drop_drop]; congr 1; omega
    rw [e1, List.take_append_drop, List.take_append_drop]
  have et : es'.take a = es.take a := by
    apply List.ext_getElem?
    intro i
    rw [List.getElem?_take, List.getElem?_take]
    split
    · exact H.out i (.inl (by assumption))
    · rfl
  have ed : es'.drop b = es.drop b := by
    apply List.ext_getElem?
    intro i
    rw [List.getElem?_drop, List.getElem?_drop]
    exact H.out _ (.inr (by omega))
  have pm := H.perm
  rw [split3 es, split3 es', et, ed] at pm
  have pm2 := (List.perm_append_right_iff _).1 ((List.perm_append_left_iff _).1 pm)
  have hp : p < es'.length := by omega
  have hm : es'[p] ∈ (es'.drop a).take (b - a) := by
    rw [List.mem_iff_getElem?]
    refine ⟨p - a, ?_⟩
    rw [List.getElem?_take, if_pos (by omega), List.getElem?_drop, show a + (p - a) = p by omega, List.getElem?_eq_getElem hp]
  have hm2 := pm2.mem_iff.1 hm
  obtain ⟨i, hi⟩ := List.mem_iff_getElem?.1 hm2
  rw [List.getElem?_take] at hi
  split at hi
  · rw [List.getElem?_drop] at hi
    refine ⟨a + i, by omega, by omega, vl_eq ?_⟩
    rw [hi, List.getElem?_eq_getElem hp]
  · cases hi
theorem cmpI_lt {a b : Int} : cmpI a b < 0 ↔ a < b := by
  unfold cmpI
  split
  · constructor <;> intro _ <;> first | assumption | decide
  · split
    · constructor <;> intro h <;> omega
    · constructor <;> intro h <;> omega

/-- Where one that goes up comes from. -/
def mvu (a k p : Nat) : Nat := if a ≤ p ∧ p < k then p + 1 else if p = k then a else p
/-- Where one that goes down comes from. -/
def mvd (k m p : Nat) : Nat := if p = k then m else if k < p ∧ p ≤ m then p - 1 else p

/-- What a joining promises. -/
def Merges (sz : Nat) : Prop := ∀ {K : Value → Heap → Prop} {h : Heap} {bk l c a m b : Nat} {es : List Ent} {sp : List Value}, b - a ≤ sz → EB h bk es sp → es.length = l → l ≤ 1000 → a < m → m < b → b ≤ l → SortedSeg es a m → SortedSeg es m b →
    (∀ es' h', EB h' bk es' sp → SegOk es a b es' → SortedSeg es' a b → OldB bk h h' → K (.tuple #[]) h') →
    CallH Try.prog 151 #[.slice (some ⟨bk, 0, none⟩) l c, iv a, iv m, iv b, cmpV] h K

theorem merge_one {K : Value → Heap → Prop} {h : Heap} {bk l c a m b : Nat} {es : List Ent} {sp : List Value} (H : EB h bk es sp) (hl : es.length = l) (hl2 : l ≤ 1000) (hm1 : m - a = 1) (ham : a < m) (hmb : m < b) (hb : b ≤ l) (s1 : SortedSeg es a m) (s2 : SortedSeg es m b)
    (k : ∀ es' h', EB h' bk es' sp → SegOk es a b es' → SortedSeg es' a b → OldB bk h h' → K (.tuple #[]) h') :
    CallH Try.prog 151 #[.slice (some ⟨bk, 0, none⟩) l c, iv a, iv m, iv b, cmpV] h K := by
  refine call151 ?_
  unfold F151
  rw [sorted_vl (by omega)] at s1 s2
  rw [wsub (a := m) (by omega) (by omega)]
  refine ifB_mk (fun _ => ?_) (fun hx => by simp at hx; omega)
  refine ⟨fun vs h' => ∃ w, ∃ i j : Nat, vs = [iv i, iv j, w] ∧ m ≤ i ∧ i ≤ j ∧ j ≤ b ∧ (∀ p, m ≤ p → p < i → vl es p < vl es a) ∧ (∀ p, j ≤ p → p < b → vl es a ≤ vl es p) ∧ Old h.size h h', fun vs _ => (match vs with | [.int _ i, .int _ j, _] => j.toNat - i.toNat | _ => 0),
    ⟨_, m, b, rfl, Nat.le_refl _, by omega, Nat.le_refl _, fun p _ _ => by omega, fun p _ _ => by omega, Old.refl _ _⟩, ?_⟩
  rintro v2 v3 v4 g5 h6 ⟨w, i, j, e, hi, hij, hj, lo, hi', o6⟩
  cases e
  have B6 := H.old o6
  simp only [asInt_int]
  refine ifB_dec (fun hlt => ?_) (fun hge => ?_)
  · rw [whalf (by omega)]
    obtain ⟨x0, x1⟩ := B6.at (i := (i + j) / 2) (by omega)
    obtain ⟨y0, y1⟩ := B6.at (i := a) (by omega)
    refine ⟨by omega, by omega, by omega, ?_⟩
    simp only [asPtr_some, Int.toNat_natCast]
    refine ldH_mk x0 (ldH_mk x1 ?_)
    refine ⟨by omega, by omega, ldH_mk y0 (ldH_mk y1 ?_)⟩
    refine cmp_call (a := es[(i + j) / 2]) (b := es[a]) fun h18 o18 => ?_
    simp only [asInt_int]
    have ok18 := o6.trans (o18.mono o6.1)
    refine ifB_dec (fun hc => ?_) (fun hc => ?_)
    · have hc' := cmpI_lt.1 hc
      rw [← vl_get, ← vl_get] at hc'
      rw [nat_wrap1 (by omega)]
      refine ⟨⟨_, (i + j) / 2 + 1, j, rfl, by omega, by omega, hj, fun p h1 h2 => ?_, hi', ok18⟩, ?_⟩
      · have := s2 p ((i + j) / 2) h1 (by omega) (by omega); omega
      · show (j : Int).toNat - (((i + j) / 2 + 1 : Nat) : Int).toNat < (j : Int).toNat - (i : Int).toNat
        omega
    · have hc' : ¬ (es[(i + j) / 2]).o < (es[a]).o := fun x => hc (cmpI_lt.2 x)
      rw [← vl_get, ← vl_get] at hc'
      refine ⟨⟨_, i, (i + j) / 2, rfl, hi, by omega, by omega, lo, fun p h1 h2 => ?_, ok18⟩, ?_⟩
      · have := s2 ((i + j) / 2) p (by omega) h1 (by omega); omega
      · show (((i + j) / 2 : Nat) : Int).toNat - (i : Int).toNat < (j : Int).toNat - (i : Int).toNat
        omega
  · obtain rfl : i = j := by omega
    refine ⟨fun vs h' => ∃ q : Nat, ∃ cs, vs = [iv q] ∧ a ≤ q ∧ q ≤ i - 1 ∧ EB h' bk cs sp ∧ cs.Perm es ∧ (∀ p, cs[p]? = es[mvu a q p]?) ∧ OldB bk h h', fun vs _ => (match vs with | [.int _ q] => i - q.toNat | _ => 0),
      ⟨a, es, rfl, Nat.le_refl _, by omega, B6, List.Perm.refl _, fun p => ?_, o6.toB⟩, ?_⟩
    · unfold mvu
      rw [if_neg (by omega)]
      split
      · subst p; rfl
      · rfl
    rintro v22 g23 h24 ⟨q, cs, e, hq1, hq2, B24, pm, hp, o24⟩
    cases e
    simp only [asInt_int]
    have hcl : cs.length = l := by rw [pm.length_eq, hl]
    rw [nat_wrapm (by omega) (by omega)]
    refine ifB_dec (fun hlt2 => ?_) (fun hge2 => ?_)
    · rw [nat_wrap1 (by omega)]
      have hi1 : q < cs.length := by omega
      have hj1 : q + 1 < cs.length := by omega
      obtain ⟨x0, x1⟩ := B24.at hi1
      obtain ⟨y0, y1⟩ := B24.at hj1
      refine ⟨by omega, by omega, ?_⟩
      simp only [asPtr_some, Int.toNat_natCast]
      refine ldH_mk y0 (ldH_mk y1 ?_)
      refine ⟨by omega, by omega, ldH_mk x0 (ldH_mk x1 ?_)⟩
      refine ⟨by omega, by omega, ?_⟩
      refine B24.set (e := cs[q + 1]) hi1 fun h42 B42 s42 old42 => ?_
      refine ⟨by omega, by omega, ?_⟩
      refine B42.set (e := cs[q]) (by simpa using hj1) fun h45 B45 s45 old45 => ?_
      refine ⟨⟨q + 1, _, rfl, by omega, by omega, B45, (List.set_set_perm hi1 hj1).trans pm, fun p => ?_, ?_⟩, ?_⟩
      · rw [swap_get hi1 hj1, hp, hp, hp]
        unfold mvu
        by_cases h1 : p = q + 1
        · subst h1; rw [if_pos rfl, if_neg (by omega), if_pos rfl, if_neg (by omega), if_pos rfl]
        · rw [if_neg h1]
          by_cases h2 : p = q
          · subst h2; rw [if_pos rfl, if_neg (by omega), if_neg (by omega), if_pos (by omega)]
          · rw [if_neg h2]
            congr 1
            by_cases h3 : a ≤ p ∧ p < q
            · rw [if_pos h3, if_pos (by omega)]
            · rw [if_neg h3, if_neg h2, if_neg (by omega), if_neg h1]
      · exact o24.trans ⟨by rw [s45, s42]; exact Nat.le_refl _, fun c hc hne => (old45 c hne).trans (old42 c hne)⟩
      · show i - ((q + 1 : Nat) : Int).toNat < i - (q : Int).toNat
        omega
    · obtain rfl : q = i - 1 := by omega
      refine k cs _ B24 ⟨pm, fun p hp2 => ?_⟩ ?_ o24
      · rw [hp]; congr 1; unfold mvu; rw [if_neg (by omega), if_neg (by omega)]
      · rw [sorted_vl (by omega)]
        intro p q' h1 h2 h3
        rw [vl_eq (hp p), vl_eq (hp q')]
        unfold mvu
        by_cases c1 : a ≤ p ∧ p < i - 1
        · rw [if_pos c1]
          by_cases c2 : a ≤ q' ∧ q' < i - 1
          · rw [if_pos c2]; exact s2 _ _ (by omega) (by omega) (by omega)
          · rw [if_neg c2]
            have l1 := lo (p + 1) (by omega) (by omega)
            by_cases c3 : q' = i - 1
            · rw [if_pos c3]; omega
            · rw [if_neg c3]
              have l2 := hi' q' (by omega) h3
              omega
        · rw [if_neg c1, if_neg (c := a ≤ q' ∧ q' < i - 1) (by omega)]
          by_cases c2 : p = i - 1
          · rw [if_pos c2]
            by_cases c3 : q' = i - 1
            · rw [if_pos c3]; exact Int.le_refl _
            · rw [if_neg c3]; exact hi' q' (by omega) h3
          · rw [if_neg c2, if_neg (by omega)]
            exact s2 _ _ (by omega) h2 h3

theorem merge_last {K : Value → Heap → Prop} {h : Heap} {bk l c a m b : Nat} {es : List Ent} {sp : List Value} (H : EB h bk es sp) (hl : es.length = l) (hl2 : l ≤ 1000) (hm1 : m - a ≠ 1) (hb1 : b - m = 1) (ham : a < m) (hmb : m < b) (hb : b ≤ l) (s1 : SortedSeg es a m) (s2 : SortedSeg es m b)
    (k : ∀ es' h', EB h' bk es' sp → SegOk es a b es' → SortedSeg es' a b → OldB bk h h' → K (.tuple #[]) h') :
    CallH Try.prog 151 #[.slice (some ⟨bk, 0, none⟩) l c, iv a, iv m, iv b, cmpV] h K := by
  refine call151 ?_
  unfold F151
  rw [sorted_vl (by omega)] at s1 s2
  rw [wsub (a := m) (by omega) (by omega), wsub (a := b) (b := m) (by omega) (by omega)]
  refine ifB_mk (fun hx => by simp at hx; omega) (fun _ => ?_)
  refine ifB_mk (fun _ => ?_) (fun hx => by simp at hx; omega)
  refine ⟨fun vs h' => ∃ w, ∃ i j : Nat, vs = [iv i, iv j, w] ∧ a ≤ i ∧ i ≤ j ∧ j ≤ m ∧ (∀ p, a ≤ p → p < i → vl es p ≤ vl es m) ∧ (∀ p, j ≤ p → p < m → vl es m < vl es p) ∧ Old h.size h h', fun vs _ => (match vs with | [.int _ i, .int _ j, _] => j.toNat - i.toNat | _ => 0),
    ⟨_, a, m, rfl, Nat.le_refl _, by omega, Nat.le_refl _, fun p _ _ => by omega, fun p _ _ => by omega, Old.refl _ _⟩, ?_⟩
  rintro v2 v3 v4 g5 h6 ⟨w, i, j, e, hi, hij, hj, lo, hi', o6⟩
  cases e
  have B6 := H.old o6
  simp only [asInt_int]
  refine ifB_dec (fun hlt => ?_) (fun hge => ?_)
  · rw [whalf (by omega)]
    obtain ⟨x0, x1⟩ := B6.at (i := (i + j) / 2) (by omega)
    obtain ⟨y0, y1⟩ := B6.at (i := m) (by omega)
    refine ⟨by omega, by omega, by omega, ?_⟩
    simp only [asPtr_some, Int.toNat_natCast]
    refine ldH_mk y0 (ldH_mk y1 ?_)
    refine ⟨by omega, by omega, ldH_mk x0 (ldH_mk x1 ?_)⟩
    refine cmp_call (b := es[(i + j) / 2]) (a := es[m]) fun h18 o18 => ?_
    simp only [asInt_int]
    have ok18 := o6.trans (o18.mono o6.1)
    refine ifB_mk (fun hc => ?_) (fun hc => ?_)
    · have hc' : ¬ (es[m]).o < (es[(i + j) / 2]).o := fun x => by have := cmpI_lt.2 x; simp at hc; omega
      rw [← vl_get, ← vl_get] at hc'
      rw [nat_wrap1 (by omega)]
      refine ⟨⟨_, (i + j) / 2 + 1, j, rfl, by omega, by omega, hj, fun p h1 h2 => ?_, hi', ok18⟩, ?_⟩
      · have := s1 p ((i + j) / 2) h1 (by omega) (by omega); omega
      · show (j : Int).toNat - (((i + j) / 2 + 1 : Nat) : Int).toNat < (j : Int).toNat - (i : Int).toNat
        omega
    · have hc' : (es[m]).o < (es[(i + j) / 2]).o := cmpI_lt.1 (by simpa using hc)
      rw [← vl_get, ← vl_get] at hc'
      refine ⟨⟨_, i, (i + j) / 2, rfl, hi, by omega, by omega, lo, fun p h1 h2 => ?_, ok18⟩, ?_⟩
      · have := s1 ((i + j) / 2) p (by omega) h1 (by omega); omega
      · show (((i + j) / 2 : Nat) : Int).toNat - (i : Int).toNat < (j : Int).toNat - (i : Int).toNat
        omega
  · obtain rfl : i = j := by omega
    refine ⟨fun vs h' => ∃ q : Nat, ∃ cs, vs = [iv q] ∧ i ≤ q ∧ q ≤ m ∧ EB h' bk cs sp ∧ cs.Perm es ∧ (∀ p, cs[p]? = es[mvd q m p]?) ∧ OldB bk h h', fun vs _ => (match vs with | [.int _ q] => q.toNat | _ => 0),
      ⟨m, es, rfl, by omega, Nat.le_refl _, B6, List.Perm.refl _, fun p => ?_, o6.toB⟩, ?_⟩
    · unfold mvd
      split
      · subst p; rfl
      · rw [if_neg (by omega)]
    rintro v22 g23 h24 ⟨q, cs, e, hq1, hq2, B24, pm, hp, o24⟩
    cases e
    simp only [asInt_int]
    have hcl : cs.length = l := by rw [pm.length_eq, hl]
    refine ifB_dec (fun hlt2 => ?_) (fun hge2 => ?_)
    · rw [nat_wrapm (by omega) (by omega)]
      have hi1 : q < cs.length := by omega
      have hj1 : q - 1 < cs.length := by omega
      obtain ⟨x0, x1⟩ := B24.at hi1
      obtain ⟨y0, y1⟩ := B24.at hj1
      refine ⟨by omega, by omega, ?_⟩
      simp only [asPtr_some, Int.toNat_natCast]
      refine ldH_mk y0 (ldH_mk y1 ?_)
      refine ⟨by omega, by omega, ldH_mk x0 (ldH_mk x1 ?_)⟩
      refine ⟨by omega, by omega, ?_⟩
      refine B24.set (e := cs[q - 1]) hi1 fun h42 B42 s42 old42 => ?_
      refine ⟨by omega, by omega, ?_⟩
      refine B42.set (e := cs[q]) (by simpa using hj1) fun h45 B45 s45 old45 => ?_
      refine ⟨⟨q - 1, _, rfl, by omega, by omega, B45, (List.set_set_perm hi1 hj1).trans pm, fun p => ?_, ?_⟩, ?_⟩
      · rw [swap_get hi1 hj1, hp, hp, hp]
        unfold mvd
        by_cases h1 : p = q - 1
        · rw [if_pos h1, if_pos rfl, if_pos h1]
        · rw [if_neg h1, if_neg h1]
          by_cases h2 : p = q
          · subst h2; rw [if_pos rfl, if_neg (by omega), if_neg (by omega), if_pos (by omega)]
          · rw [if_neg h2, if_neg h2]
            congr 1
            by_cases h3 : q < p ∧ p ≤ m
            · rw [if_pos h3, if_pos (by omega)]
            · rw [if_neg h3, if_neg (by omega)]
      · exact o24.trans ⟨by rw [s45, s42]; exact Nat.le_refl _, fun c hc hne => (old45 c hne).trans (old42 c hne)⟩
      · show ((q - 1 : Nat) : Int).toNat < (q : Int).toNat
        omega
    · obtain rfl : q = i := by omega
      refine k cs _ B24 ⟨pm, fun p hp2 => ?_⟩ ?_ o24
      · rw [hp]; congr 1; unfold mvd; rw [if_neg (by omega), if_neg (by omega)]
      · rw [sorted_vl (by omega)]
        intro p q' h1 h2 h3
        rw [vl_eq (hp p), vl_eq (hp q')]
        unfold mvd
        by_cases c1 : p = q
        · rw [if_pos c1]
          by_cases c2 : q' = q
          · rw [if_pos c2]; exact Int.le_refl _
          · rw [if_neg c2, if_pos (by omega)]
            have := hi' (q' - 1) (by omega) (by omega)
            omega
        · rw [if_neg c1]
          by_cases c2 : q < p ∧ p ≤ m
          · rw [if_pos c2, if_neg (c := q' = q) (by omega), if_pos (c := q < q' ∧ q' ≤ m) (by omega)]
            exact s1 _ _ (by omega) (by omega) (by omega)
          · rw [if_neg c2]
            have hpq : p < q := by omega
            by_cases c3 : q' = q
            · rw [if_pos c3]; exact lo p h1 hpq
            · rw [if_neg c3]
              by_cases c4 : q < q' ∧ q' ≤ m
              · rw [if_pos c4]
                exact s1 _ _ (by omega) (by omega) (by omega)
              · rw [if_neg c4]
                exact s1 _ _ (by omega) (by omega) (by omega)
end Go.Proofs.Ytgladmaagpcffaa
