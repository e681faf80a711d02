/- Part 5 of what the proofs of this seat rest on: see the last text of the claim. -/
import Derived.Test.YtlncjcbofgjcfaaQdfe32102f6b2
import Init
section
/- Least lists: the plain law, no program in sight. -/
set_option linter.unusedSimpArgs false
set_option linter.unusedVariables false
namespace Go.Proofs.Ytlncjcbofgjcfaa

/-- A list without n things from a place on. -/
def cutL (l : List Int) (f n : Nat) : List Int := l.take f ++ l.drop (f + n)
theorem cutL_sub (l : List Int) (f n : Nat) : (cutL l f n).Sublist l := by
  unfold cutL
  rw [← List.drop_drop]
  exact (List.take_append_drop f l ▸ List.Sublist.append (List.Sublist.refl (l.take f)) (List.drop_sublist n (l.drop f)) : _)
theorem cutL_len {l : List Int} {f n : Nat} (hf : f < l.length) (hn : 1 ≤ n) : (cutL l f n).length < l.length := by
  unfold cutL; simp; omega
theorem cutL_one (l : List Int) (i : Nat) : cutL l i 1 = l.eraseIdx i := by
  unfold cutL; rw [List.eraseIdx_eq_take_drop_succ]

/-- What a pass over a list answers. -/
def PassOk (bad : List Int → Bool) (l : List Int) (size : Nat) (l' : List Int) (gone : Bool) : Prop :=
  l'.Sublist l ∧ (bad l = true → bad l' = true) ∧ (gone = true → l'.length < l.length) ∧ (gone = false → l' = l ∧ (size = 1 → ∀ i, i < l.length → bad (l.eraseIdx i) = false))
/-- Its state. -/
def PassI (bad : List Int → Bool) (l : List Int) (size : Nat) (l' : List Int) (gone : Bool) (f : Nat) : Prop :=
  l'.Sublist l ∧ (bad l = true → bad l' = true) ∧ (gone = true → l'.length < l.length) ∧ (gone = false → l' = l ∧ (size = 1 → ∀ i, i < f → bad (l.eraseIdx i) = false))
theorem passI_start (bad : List Int → Bool) (l : List Int) (size : Nat) : PassI bad l size l false 0 := ⟨List.Sublist.refl _, fun h => h, (fun e => by cases e), fun _ => ⟨rfl, fun _ i hi => by omega⟩⟩
theorem passI_yes {bad : List Int → Bool} {l l' : List Int} {size : Nat} {gone : Bool} {f : Nat} (H : PassI bad l size l' gone f) (hs : 1 ≤ size) (hf : f < l'.length) (hb : bad (cutL l' f size) = true) :
    PassI bad l size (cutL l' f size) true f :=
  ⟨(cutL_sub _ _ _).trans H.1, fun _ => hb, fun _ => Nat.lt_of_lt_of_le (cutL_len hf hs) H.1.length_le, (fun e => by cases e)⟩
theorem passI_no {bad : List Int → Bool} {l l' : List Int} {size : Nat} {gone : Bool} {f : Nat} (H : PassI bad l size l' gone f) (hs : 1 ≤ size) (hf : f < l'.length) (hb : bad (cutL l' f size) = false) :
    PassI bad l size l' gone (f + size) := by
  refine ⟨H.1, H.2.1, H.2.2.1, fun e => ⟨(H.2.2.2 e).1, fun e1 i hi => ?_⟩⟩
  obtain ⟨rfl, h2⟩ := H.2.2.2 e
  subst e1
  by_cases hi2 : i < f
  · exact h2 rfl i hi2
  · rw [show i = f by omega, ← cutL_one]; exact hb
theorem passI_end {bad : List Int → Bool} {l l' : List Int} {size : Nat} {gone : Bool} {f : Nat} (H : PassI bad l size l' gone f) (hf : l'.length ≤ f) : PassOk bad l size l' gone := by
  refine ⟨H.1, H.2.1, H.2.2.1, fun e => ?_⟩
  obtain ⟨rfl, h2⟩ := H.2.2.2 e
  exact ⟨rfl, fun e1 i hi => h2 e1 i (by omega)⟩

/-- What a least list is. -/
def LeastOk (bad : List Int → Bool) (l out : List Int) : Prop :=
  (bad l = false → out = l) ∧ (bad l = true → out.Sublist l ∧ bad out = true ∧ ∀ i, i < out.length → bad (out.eraseIdx i) = false)

theorem sublist_erase : ∀ {a l : List Int}, a.Sublist l → a.length < l.length → ∃ i, i < l.length ∧ a.Sublist (l.eraseIdx i) := by
  intro a l H
  induction H with
  | slnil => intro h; simp at h
  | cons x _ _ => intro _; exact ⟨0, by simp, by simpa⟩
  | cons_cons x _ ih =>
    intro h
    obtain ⟨i, hi, hs⟩ := ih (by simpa using h)
    exact ⟨i + 1, by simp; omega, by simpa using hs.cons_cons x⟩
/-- Of a thing that stays bad in a longer list, a least list is least. -/
theorem least_again {bad : List Int → Bool} (mono : ∀ a b : List Int, a.Sublist b → bad a = true → bad b = true) {l out again : List Int} (H : LeastOk bad l out) (hb : bad l = true) (H2 : LeastOk bad out again) : again = out := by
  obtain ⟨_, h2, h3⟩ := H.2 hb
  obtain ⟨s1, s2, _⟩ := H2.2 h2
  refine s1.eq_of_length_le (Nat.le_of_not_lt fun hlt => ?_)
  obtain ⟨i, hi, hs⟩ := sublist_erase s1 hlt
  have := mono _ _ hs s2
  rw [h3 i hi] at this; cases this

/-- Are a list's things some of another one's? A step. -/
theorem within_eq {a b : List Int} {k i : Nat} (hk : k < a.length) (hi : i < b.length) (H : (a.drop k).Sublist (b.drop i)) (e : b[i] = a[k]) : (a.drop (k + 1)).Sublist (b.drop (i + 1)) := by
  rw [List.drop_eq_getElem_cons hk, List.drop_eq_getElem_cons hi, e] at H
  exact List.cons_sublist_cons.1 H
theorem within_ne {a b : List Int} {k i : Nat} (hk : k < a.length) (hi : i < b.length) (H : (a.drop k).Sublist (b.drop i)) (e : b[i] ≠ a[k]) : (a.drop k).Sublist (b.drop (i + 1)) := by
  rw [List.drop_eq_getElem_cons hk, List.drop_eq_getElem_cons hi] at H
  rw [List.drop_eq_getElem_cons hk]
  generalize b[i] = y at *
  generalize a[k] = x at *
  cases H with
  | cons _ h => exact h
  | cons_cons => exact absurd rfl e
theorem within_end {a b : List Int} {k i : Nat} (hi : b.length ≤ i) (H : (a.drop k).Sublist (b.drop i)) : a.length ≤ k := by
  rw [List.drop_eq_nil_of_le hi] at H
  have := H.length_le
  simp at this; omega

/-- Bad by its numbers. -/
def wantedF (need : List Int) (odd : Int) (l : List Int) : Bool := need.all (fun x => decide (need.count x ≤ l.count x)) && decide (odd ≤ ((l.countP fun x => Int.tmod x 2 != 0 : Nat) : Int))
theorem wantedF_mono (need : List Int) (odd : Int) (a b : List Int) (h : a.Sublist b) (H : wantedF need odd a = true) : wantedF need odd b = true := by
  unfold wantedF at *
  simp only [Bool.and_eq_true, List.all_eq_true, decide_eq_true_eq] at *
  refine ⟨fun x hx => Nat.le_trans (H.1 x hx) (h.count_le x), ?_⟩
  have := h.countP_le (p := fun x => Int.tmod x 2 != 0)
  omega

/-- The chapter's example. -/
def has37 (l : List Int) : Bool := decide (0 < l.count 3) && decide (0 < l.count 7)
theorem least_37 {out : List Int} (H : LeastOk has37 [1, 2, 3, 4, 5, 6, 7, 8, 9] out) : out = [3, 7] := by
  obtain ⟨h1, h2, h3⟩ := H.2 (by decide)
  have all : ∀ x ∈ out, (x == 3 || x == 7) = true := by
    intro x hx
    obtain ⟨i, hi, rfl⟩ := List.getElem_of_mem hx
    cases hq : (out[i] == 3 || out[i] == 7) with
    | true => rfl
    | false =>
      have hn := h3 i hi
      simp only [Bool.or_eq_false_iff, beq_eq_false_iff_ne] at hq
      have e : ∀ y, y ≠ out[i] → (out.eraseIdx i).count y = out.count y := by
        intro y hy
        have e1 : out = out.take i ++ out[i] :: out.drop (i + 1) := by rw [← List.drop_eq_getElem_cons hi, List.take_append_drop]
        rw [List.eraseIdx_eq_take_drop_succ]
        conv => rhs; rw [e1]
        rw [List.count_append, List.count_append, List.count_cons_of_ne (Ne.symm hy)]
      unfold has37 at hn h2
      rw [e 3 (Ne.symm hq.1), e 7 (Ne.symm hq.2), h2] at hn
      cases hn
  have hf : out.filter (fun x => x == 3 || x == 7) = out := List.filter_eq_self.2 all
  have hs := h1.filter (fun x => x == 3 || x == 7)
  rw [hf] at hs
  have hs2 : out.Sublist [3, 7] := hs
  refine hs2.eq_of_length_le ?_
  unfold has37 at h2
  simp only [Bool.and_eq_true, decide_eq_true_eq, List.count_pos_iff] at h2
  rcases out with _ | ⟨a, _ | ⟨b, l⟩⟩
  · simp at h2
  · obtain ⟨p, q⟩ := h2
    simp at p q; omega
  · simp

/-- Bad by its length and its sum. -/
def sumF (l : List Int) : Int := l.foldl (fun s x => Int.tmod (s + Int.tmod x 1000) 1000) 0
def roughF (d e : Int) (l : List Int) : Bool := (Int.tmod (sumF l) d == 0) || (Int.tmod (l.length : Int) e == 1)
end Go.Proofs.Ytlncjcbofgjcfaa
end
section
/- Rows of numbers that are read; the contracts of counting, of lists without a part, and of copies. -/
set_option linter.unusedSimpArgs false
set_option linter.unusedVariables false
set_option maxRecDepth 20000
namespace Go.Proofs.Ytlncjcbofgjcfaa

theorem Sees.old {h h' : Heap} {a : Option Addr} {vs : List Value} (H : Sees h a vs) (ho : Old h.size h h') : Sees h' a vs := by
  intro i v hi
  obtain ⟨ad, e, hc⟩ := H i v hi
  exact ⟨ad, e, (cellAt_congr (ho.2 _ (cellAt_lt hc))).trans hc⟩
theorem Sees.sub {h : Heap} {a : Option Addr} {vs : List Value} (H : Sees h a vs) {f m : Nat} (hm : vs.length ≤ m) (hf : f ≤ m) : Sees h (subA a f m 1) (vs.drop f) := by
  intro i v hi
  unfold subA
  rw [List.getElem?_drop] at hi
  have hlt : f + i < vs.length := (List.getElem?_eq_some_iff.1 hi).1
  obtain ⟨ad, rfl, hc⟩ := H _ _ hi
  rw [if_neg (by omega)]
  exact ⟨_, rfl, by rw [add_add, Nat.mul_one]; exact hc⟩
theorem Sees.take {h : Heap} {a : Option Addr} {vs : List Value} (H : Sees h a vs) (n : Nat) : Sees h a (vs.take n) := by
  intro i v hi
  rw [List.getElem?_take] at hi
  split at hi
  · exact H i v hi
  · cases hi

/-- A slice of numbers, to be read. -/
structure RI (h : Heap) (a : Option Addr) (l c : Nat) (xs : List Int) : Prop where
  s : Sees h a (xs.map iv)
  len : xs.length = l
  cap : l ≤ c
theorem RI.old {h h' : Heap} {a : Option Addr} {l c : Nat} {xs : List Int} (H : RI h a l c xs) (ho : Old h.size h h') : RI h' a l c xs := ⟨H.s.old ho, H.len, H.cap⟩
theorem RI.at {h : Heap} {a : Option Addr} {l c : Nat} {xs : List Int} (H : RI h a l c xs) {i : Nat} (hi : i < xs.length) : ∃ ad, a = some ad ∧ cellAt h (ad.add i) = some (iv xs[i]) := H.s i (iv xs[i]) (by simp [hi])
theorem RI.drop {h : Heap} {a : Option Addr} {l c : Nat} {xs : List Int} (H : RI h a l c xs) {f : Nat} (hf : f ≤ l) : RI h (subA a f c 1) (l - f) (c - f) (xs.drop f) := by
  refine ⟨?_, by simp [H.len], by have := H.cap; omega⟩
  rw [List.map_drop]
  exact H.s.sub (by simp [H.len, H.cap]) (by have := H.cap; omega)
theorem RI.take {h : Heap} {a : Option Addr} {l c : Nat} {xs : List Int} (H : RI h a l c xs) {f : Nat} (hf : f ≤ l) : RI h (subA a 0 c 1) f (c - 0) (xs.take f) := by
  refine ⟨?_, by simp [H.len]; omega, by have := H.cap; omega⟩
  rw [List.map_take]
  exact (H.s.sub (f := 0) (by simp [H.len, H.cap]) (Nat.zero_le _)).take f
theorem OwnI.ri {h : Heap} {a : Option Addr} {l c : Nat} {xs : List Int} (H : OwnI h a l c xs) : RI h a l c xs := ⟨H.sees, by have := H.1; simpa using this, H.2.1⟩
theorem RI.none_len {h : Heap} {l c : Nat} {xs : List Int} (H : RI h none l c xs) : l = 0 := by
  rcases Nat.eq_zero_or_pos l with e | e
  · exact e
  · obtain ⟨ad, e2, _⟩ := H.at (i := 0) (by have := H.len; omega)
    cases e2
theorem RI.none (h : Heap) : RI h none 0 0 [] := ⟨Sees.nil _ _, rfl, Nat.le_refl _⟩

theorem nat_wrap1 {i : Nat} (h : i < 2 ^ 62) : IntKind.i64.wrap ((i : Int) + 1) = ((i + 1 : Nat) : Int) := by
  rw [wrap64_id' (by omega) (by omega)]; omega
theorem count_take_succ {xs : List Int} {i : Nat} (hi : i < xs.length) (x : Int) : (xs.take (i + 1)).count x = (xs.take i).count x + (if xs[i] = x then 1 else 0) := by
  rw [List.take_succ_eq_append_getElem hi, List.count_append, List.count_singleton]
  simp [beq_iff_eq]

theorem byt_int' : byt Try.prog 3 = 8 := byt_int
/-- append of numbers to numbers of one's own. -/
theorem app_row {h : Heap} {a a2 : Option Addr} {l c l2 c2 : Nat} {xs ys : List Int} {K : Value → Heap → Prop} (ho : OwnI h a l c xs) (hs : RI h a2 l2 c2 ys) (hl : l ≤ 2 ^ 40) (hl2 : l2 ≤ 2 ^ 40)
    (H : ∀ a' c' h', OwnI h' a' (l + l2) c' (xs ++ ys) → h.size ≤ h'.size → (∀ b, b < h.size → (∀ ad, a = some ad → ad.block ≠ b) → h'[b]? = h[b]?) → (a' = a ∨ a' = some ⟨h.size, 0, none⟩) → K (.slice a' (l + l2) c') h') :
    appH Try.prog #[66, 66] 66 #[.slice a l c, .slice a2 l2 c2] h K := by
  refine appH_own (P := Try.prog) (t := 66) (elem := 3) (z := .int .i64 0) (K := K) (xs := xs.map iv) (ys := ys.map iv) (n := l2) und_list there_int zer_int (by rw [siz_int]; rfl) (by rw [siz_int]; exact ho) hs.s (by rw [siz_int]; simp [hs.len]) ?_ (by rw [byt_int]; omega) (by rw [byt_int]; omega) ?_
  · intro y hy
    obtain ⟨n, _, rfl⟩ := List.mem_map.1 hy
    trivial
  · intro a' c' h' h1 h2 h3 h4
    rw [siz_int, ← List.map_append] at h1
    exact H a' c' h' h1 h2 h3 h4
/-- append to a slice that has no room. -/
theorem app_new {h : Heap} {a a2 : Option Addr} {l2 c2 : Nat} {ys : List Int} {K : Value → Heap → Prop} (hs : RI h a2 l2 c2 ys) (hl2 : l2 ≤ 2 ^ 40)
    (H0 : l2 = 0 → K (.slice a 0 0) h) (H : ∀ cap h', OwnI h' (some ⟨h.size, 0, none⟩) l2 cap ys → h'.size = h.size + 1 → Old h.size h h' → K (.slice (some ⟨h.size, 0, none⟩) l2 cap) h') :
    appH Try.prog #[66, 66] 66 #[.slice a 0 0, .slice a2 l2 c2] h K := by
  refine appH_nil (P := Try.prog) (t := 66) (elem := 3) (z := .int .i64 0) (K := K) (ys := ys.map iv) (n := l2) und_list there_int zer_int (by rw [siz_int]; rfl) hs.s (by rw [siz_int]; simp [hs.len]) ?_ (by rw [byt_int]; omega) (by rw [byt_int]; omega) H0 ?_
  · intro y hy
    obtain ⟨n, _, rfl⟩ := List.mem_map.1 hy
    trivial
  · intro cap h' h1 h2 h3
    rw [siz_int] at h1
    exact H cap h' h1 h2 h3

/-- A slice of one's own, or one that has no room. -/
def New (h0 h : Heap) (a : Option Addr) (l c : Nat) (xs : List Int) : Prop := (l = 0 ∧ c = 0 ∧ xs = []) ∨ (OwnI h a l c xs ∧ ∀ ad, a = some ad → h0.size ≤ ad.block)
theorem New.ri {h0 h : Heap} {a : Option Addr} {l c : Nat} {xs : List Int} (H : New h0 h a l c xs) : RI h a l c xs := by
  rcases H with ⟨rfl, rfl, rfl⟩ | H
  · exact ⟨Sees.nil _ _, rfl, Nat.le_refl _⟩
  · exact H.1.ri

/-- append to a slice of one's own, or to one that has no room. -/
theorem app_New {h0 h : Heap} {a a2 : Option Addr} {l c l2 c2 : Nat} {xs ys : List Int} {K : Value → Heap → Prop} (hw : New h0 h a l c xs) (ho : Old h0.size h0 h) (hs : RI h a2 l2 c2 ys) (hl : l ≤ 2 ^ 40) (hl2 : l2 ≤ 2 ^ 40)
    (H : ∀ a' c' h', New h0 h' a' (l + l2) c' (xs ++ ys) → Old h0.size h0 h' → K (.slice a' (l + l2) c') h') :
    appH Try.prog #[66, 66] 66 #[.slice a l c, .slice a2 l2 c2] h K := by
  rcases hw with ⟨rfl, rfl, rfl⟩ | ⟨hw, hge⟩
  · refine app_new hs hl2 ?_ ?_
    · rintro rfl
      have : ys = [] := by simpa using hs.len
      subst this
      exact H _ _ _ (.inl ⟨rfl, rfl, rfl⟩) ho
    · intro cap h' h1 h2 h3
      have := H (some ⟨h.size, 0, none⟩) cap h' (.inr ⟨by simpa using h1, fun ad e => by cases e; exact ho.1⟩) (ho.trans (h3.mono ho.1))
      simpa using this
  · refine app_row hw hs hl hl2 ?_
    intro a' c' h' h1 h2 h3 h4
    refine H a' c' h' (.inr ⟨h1, ?_⟩) ⟨Nat.le_trans ho.1 h2, fun b hb => (h3 b (Nat.lt_of_lt_of_le hb ho.1) fun ad e => by have := hge ad e; omega).trans (ho.2 b hb)⟩
    intro ad e
    rcases h4 with rfl | rfl
    · exact hge ad e
    · cases e; exact ho.1
end Go.Proofs.Ytlncjcbofgjcfaa
end
