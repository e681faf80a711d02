/- Least lists: the plain law, no program in sight. -/
import Init
set_option linter.unusedSimpArgs false
set_option linter.unusedVariables false
namespace Go.Proofs.Ytgladmaagpcffaa

/-- A list without n things from a place on. -/
def cutL (l : List Int) (f n : Nat) : List Int := l.take f ++ l.drop (f + n)
theorem cutL_sub (l : List Int) (f n : Nat) : (cutL l f n).Sublist l := by
  unfold cutL
  rw [← List.drop_drop]
  exact (List.take_append_drop f l ▸ List.Sublist.append (List.Sublist.refl (l.take f)) (List.drop_sublist n (l.drop f)) : _)
theorem cutL_len {l : List Int} {f n : Nat} (hf : f < l.length) (hn : 1 ≤ n) : (cutL l f n).length < l.length := by
  unfold cutL; simp; omega
theorem cutL_one (l : List Int) (i : Nat) : cutL l i 1 = l.eraseIdx i := by
  unfold cutL; rw [List.eraseIdx_eq_take_drop_succ]

/-- What a pass over a list answers. -/
def PassOk (bad : List Int → Bool) (l : List Int) (size : Nat) (l' : List Int) (gone : Bool) : Prop :=
  l'.Sublist l ∧ (bad l = true → bad l' = true) ∧ (gone = true → l'.length < l.length) ∧ (gone = false → l' = l ∧ (size = 1 → ∀ i, i < l.length → bad (l.eraseIdx i) = false))
/-- Its state. -/
def PassI (bad : List Int → Bool) (l : List Int) (size : Nat) (l' : List Int) (gone : Bool) (f : Nat) : Prop :=
  l'.Sublist l ∧ (bad l = true → bad l' = true) ∧ (gone = true → l'.length < l.length) ∧ (gone = false → l' = l ∧ (size = 1 → ∀ i, i < f → bad (l.eraseIdx i) = false))
theorem passI_start (bad : List Int → Bool) (l : List Int) (size : Nat) : PassI bad l size l false 0 := ⟨List.Sublist.refl _, fun h => h, (fun e => by cases e), fun _ => ⟨rfl, fun _ i hi => by omega⟩⟩
theorem passI_yes {bad : List Int → Bool} {l l' : List Int} {size : Nat} {gone : Bool} {f : Nat} (H : PassI bad l size l' gone f) (hs : 1 ≤ size) (hf : f < l'.length) (hb : bad (cutL l' f size) = true) :
    PassI bad l size (cutL l' f size) true f :=
  ⟨(cutL_sub _ _ _).trans H.1, fun _ => hb, fun _ => Nat.lt_of_lt_of_le (cutL_len hf hs) H.1.length_le, (fun e => by cases e)⟩
theorem passI_no {bad : List Int → Bool} {l l' : List Int} {size : Nat} {gone : Bool} {f : Nat} (H : PassI bad l size l' gone f) (hs : 1 ≤ size) (hf : f < l'.length) (hb : bad (cutL l' f size) = false) :
    PassI bad l size l' gone (f + size) := by
  refine ⟨H.1, H.2.1, H.2.2.1, fun e => ⟨(H.2.2.2 e).1, fun e1 i hi => ?_⟩⟩
  obtain ⟨rfl, h2⟩ := H.2.2.2 e
  subst e1
  by_cases hi2 : i < f
  · exact h2 rfl i hi2
  · rw [show i = f by omega, ← cutL_one]; exact hb
theorem passI_end {bad : List Int → Bool} {l l' : List Int} {size : Nat} {gone : Bool} {f : Nat} (H : PassI bad l size l' gone f) (hf : l'.length ≤ f) : PassOk bad l size l' gone := by
  refine ⟨H.1, H.2.1, H.2.2.1, fun e => ?_⟩
  obtain ⟨rfl, h2⟩ := H.2.2.2 e
  exact ⟨rfl, fun e1 i hi => h2 e1 i (by omega)⟩

/-- What a least list is. -/
def LeastOk (bad : List Int → Bool) (l out : List Int) : Prop :=
  (bad l = false → out = l) ∧ (bad l = true → out.Sublist l ∧ bad out = true ∧ ∀ i, i < out.length → bad (out.eraseIdx i) = false)

theorem sublist_erase : ∀ {a l : List Int}, a.Sublist l → a.length < l.length → ∃ i, i < l.length ∧ a.Sublist (l.eraseIdx i) := by
  intro a l H
  induction H with
  | slnil => intro h; simp at h
  | cons x _ _ => intro _; exact ⟨0, by simp, by simpa⟩
  | cons_cons x _ ih =>
    intro h
    obtain ⟨i, hi, hs⟩ := ih (by simpa using h)
    exact ⟨i + 1, by simp; omega, by simpa using hs.cons_cons x⟩
/-- Of a thing that stays bad in a longer list, a least list is least. -/
theorem least_again {bad : List Int → Bool} (mono : ∀ a b : List Int, a.Sublist b → bad a = true → bad b = true) {l out again : List Int} (H : LeastOk bad l out) (hb : bad l = true) (H2 : LeastOk bad out again) : again = out := by
  obtain ⟨_, h2, h3⟩ := H.2 hb
  obtain ⟨s1, s2, _⟩ := H2.2 h2
  refine s1.eq_of_length_le (Nat.le_of_not_lt fun hlt => ?_)
  obtain ⟨i, hi, hs⟩ := sublist_erase s1 hlt
  have := mono _ _ hs s2
  rw [h3 i hi] at this; cases this

/-- Are a list's things some of another one's? A step. -/
theorem within_eq {a b : List Int} {k i : Nat} (hk : k < a.length) (hi : i < b.length) (H : (a.drop k).Sublist (b.drop i)) (e : b[i] = a[k]) : (a.drop (k + 1)).Sublist (b.drop (i + 1)) := by
  rw [List.drop_eq_getElem_cons hk, List.drop_eq_getElem_cons hi, e] at H
  exact List.cons_sublist_cons.1 H
theorem within_ne {a b : List Int} {k i : Nat} (hk : k < a.length) (hi : i < b.length) (H : (a.drop k).Sublist (b.drop i)) (e : b[i] ≠ a[k]) : (a.drop k).Sublist (b.drop (i + 1)) := by
  rw [List.drop_eq_getElem_cons hk, List.drop_eq_getElem_cons hi] at H
  rw [List.drop_eq_getElem_cons hk]
  generalize b[i] = y at *
  generalize a[k] = x at *
  cases H with
  | cons _ h => exact h
  | cons_cons => exact absurd rfl e
theorem within_end {a b : List Int} {k i : Nat} (hi : b.length ≤ i) (H : (a.drop k).Sublist (b.drop i)) : a.length ≤ k := by
  rw [List.drop_eq_nil_of_le hi] at H
  have := H.length_le
  simp at this; omega

/-- Bad by its numbers. -/
def wantedF (need : List Int) (odd : Int) (l : List Int) : Bool := need.all (fun x => decide (need.count x ≤ l.count x)) && decide (odd ≤ ((l.countP fun x => Int.tmod x 2 != 0 : Nat) : Int))
theorem wantedF_mono (need : List Int) (odd : Int) (a b : List Int) (h : a.Sublist b) (H : wantedF need odd a = true) : wantedF need odd b = true := by
  unfold wantedF at *
  simp only [Bool.and_eq_true, List.all_eq_true, decide_eq_true_eq] at *
  refine ⟨fun x hx => Nat.le_trans (H.1 x hx) (h.count_le x), ?_⟩
  have := h.countP_le (p := fun x => Int.tmod x 2 != 0)
  omega

/-- The chapter's example. -/
def has37 (l : List Int) : Bool := decide (0 < l.count 3) && decide (0 < l.count 7)
theorem least_37 {out : List Int} (H : LeastOk has37 [1, 2, 3, 4, 5, 6, 7, 8, 9] out) : out = [3, 7] := by
  obtain ⟨h1, h2, h3⟩ := H.2 (by decide)
  have all : ∀ x ∈ out, (x == 3 || x == 7) = true := by
    intro x hx
    obtain ⟨i, hi, rfl⟩ := List.getElem_of_mem hx
    cases hq : (out[i] == 3 || out[i] == 7) with
    | true => rfl
    | false =>
      have hn := h3 i hi
      simp only [Bool.or_eq_false_iff, beq_eq_false_iff_ne] at hq
      have e : ∀ y, y ≠ out[i] → (out.eraseIdx i).count y = out.count y := by
        intro y hy
        have e1 : out = out.take i ++ out[i] :: out.drop (i + 1) := by rw [← List.drop_eq_getElem_cons hi, List.take_append_drop]
        rw [List.eraseIdx_eq_take_drop_succ]
        conv => rhs; rw [e1]
        rw [List.count_append, List.count_append, List.count_cons_of_ne (Ne.symm hy)]
      unfold has37 at hn h2
      rw [e 3 (Ne.symm hq.1), e 7 (Ne.symm hq.2), h2] at hn
      cases hn
  have hf : out.filter (fun x => x == 3 || x == 7) = out := List.filter_eq_self.2 all
  have hs := h1.filter (fun x => x == 3 || x == 7)
  rw [hf] at hs
  have hs2 : out.Sublist [3, 7] := hs
  refine hs2.eq_of_length_le ?_
  unfold has37 at h2
  simp only [Bool.and_eq_true, decide_eq_true_eq, List.count_pos_iff] at h2
  rcases out with _ | ⟨a, _ | ⟨b, l⟩⟩
  · simp at h2
  · obtain ⟨p, q⟩ := h2
    simp at p q; omega
  · simp

/-- Bad by its length and its sum. -/
def sumF (l : List Int) : Int := l.foldl (fun s x => Int.tmod (s + Int.tmod x 1000) 1000) 0
def roughF (d e : Int) (l : List Int) : Bool := (Int.tmod (sumF l) d == 0) || (Int.tmod (l.length : Int) e == 1)
end Go.Proofs.Ytgladmaagpcffaa
