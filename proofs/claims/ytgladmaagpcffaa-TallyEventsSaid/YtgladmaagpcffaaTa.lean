/- Rows of numbers that are read; the contracts of counting, of lists without a part, and of copies. -/
import Derived.Test.YtgladmaagpcffaaSg
import Derived.Test.YtgladmaagpcffaaFb
import Derived.Test.YtgladmaagpcffaaPa
set_option linter.unusedSimpArgs false
set_option linter.unusedVariables false
set_option maxRecDepth 20000
namespace Go.Proofs.Ytgladmaagpcffaa

theorem Sees.old {h h' : Heap} {a : Option Addr} {vs : List Value} (H : Sees h a vs) (ho : Old h.size h h') : Sees h' a vs := by
  intro i v hi
  obtain ⟨ad, e, hc⟩ := H i v hi
  exact ⟨ad, e, (cellAt_congr (ho.2 _ (cellAt_lt hc))).trans hc⟩
theorem Sees.sub {h : Heap} {a : Option Addr} {vs : List Value} (H : Sees h a vs) {f m : Nat} (hm : vs.length ≤ m) (hf : f ≤ m) : Sees h (subA a f m 1) (vs.drop f) := by
  intro i v hi
  unfold subA
  rw [List.getElem?_drop] at hi
  have hlt : f + i < vs.length := (List.getElem?_eq_some_iff.1 hi).1
  obtain ⟨ad, rfl, hc⟩ := H _ _ hi
  rw [if_neg (by omega)]
  exact ⟨_, rfl, by rw [add_add, Nat.mul_one]; exact hc⟩
theorem Sees.take {h : Heap} {a : Option Addr} {vs : List Value} (H : Sees h a vs) (n : Nat) : Sees h a (vs.take n) := by
  intro i v hi
  rw [List.getElem?_take] at hi
  split at hi
  · exact H i v hi
  · cases hi

/-- A slice of numbers, to be read. -/
structure RI (h : Heap) (a : Option Addr) (l c : Nat) (xs : List Int) : Prop where
  s : Sees h a (xs.map iv)
  len : xs.length = l
  cap : l ≤ c
theorem RI.old {h h' : Heap} {a : Option Addr} {l c : Nat} {xs : List Int} (H : RI h a l c xs) (ho : Old h.size h h') : RI h' a l c xs := ⟨H.s.old ho, H.len, H.cap⟩
theorem RI.at {h : Heap} {a : Option Addr} {l c : Nat} {xs : List Int} (H : RI h a l c xs) {i : Nat} (hi : i < xs.length) : ∃ ad, a = some ad ∧ cellAt h (ad.add i) = some (iv xs[i]) := H.s i (iv xs[i]) (by simp [hi])
theorem RI.drop {h : Heap} {a : Option Addr} {l c : Nat} {xs : List Int} (H : RI h a l c xs) {f : Nat} (hf : f ≤ l) : RI h (subA a f c 1) (l - f) (c - f) (xs.drop f) := by
  refine ⟨?_, by simp [H.len], by have := H.cap; omega⟩
  rw [List.map_drop]
  exact H.s.sub (by simp [H.len, H.cap]) (by have := H.cap; omega)
theorem RI.take {h : Heap} {a : Option Addr} {l c : Nat} {xs : List Int} (H : RI h a l c xs) {f : Nat} (hf : f ≤ l) : RI h (subA a 0 c 1) f (c - 0) (xs.take f) := by
  refine ⟨?_, by simp [H.len]; omega, by have := H.cap; omega⟩
  rw [List.map_take]
  exact (H.s.sub (f := 0) (by simp [H.len, H.cap]) (Nat.zero_le _)).take f
theorem OwnI.ri {h : Heap} {a : Option Addr} {l c : Nat} {xs : List Int} (H : OwnI h a l c xs) : RI h a l c xs := ⟨H.sees, by have := H.1; simpa using this, H.2.1⟩
theorem RI.none_len {h : Heap} {l c : Nat} {xs : List Int} (H : RI h none l c xs) : l = 0 := by
  rcases Nat.eq_zero_or_pos l with e | e
  · exact e
  · obtain ⟨ad, e2, _⟩ := H.at (i := 0) (by have := H.len; omega)
    cases e2
theorem RI.none (h : Heap) : RI h none 0 0 [] := ⟨Sees.nil _ _, rfl, Nat.le_refl _⟩

theorem nat_wrap1 {i : Nat} (h : i < 2 ^ 62) : IntKind.i64.wrap ((i : Int) + 1) = ((i + 1 : Nat) : Int) := by
  rw [wrap64_id' (by omega) (by omega)]; omega
theorem count_take_succ {xs : List Int} {i : Nat} (hi : i < xs.length) (x : Int) : (xs.take (i + 1)).count x = (xs.take i).count x + (if xs[i] = x then 1 else 0) := by
  rw [List.take_succ_eq_append_getElem hi, List.count_append, List.count_singleton]
  simp [beq_iff_eq]

theorem count38_call {K : Value → Heap → Prop} {h : Heap} {a : Option Addr} {l c : Nat} {xs : List Int} {x : Int} (H : RI h a l c xs) (hl : l < 2 ^ 60) (k : K (iv ((xs.count x : Nat) : Int)) h) :
    CallH Try.prog 41 #[.slice a l c, iv x] h K := by
  refine call41 ?_
  unfold F41
  have hlen := H.len
  refine ⟨fun vs h' => ∃ i : Nat, vs = [iv (((xs.take i).count x : Nat) : Int), iv i] ∧ h' = h ∧ i ≤ l, fun vs _ => (match vs with | [_, .int _ n] => l - n.toNat | _ => 0), ⟨0, rfl, rfl, Nat.zero_le _⟩, ?_⟩
  rintro v2 v3 g h5 ⟨i, e, rfl, hi⟩
  cases e
  simp only [asInt_int]
  refine ifB_dec (fun hlt => ?_) (fun hge => ?_)
  · have hlt' : i < xs.length := by omega
    have hcl := (xs.take i).count_le_length (a := x)
    simp only [List.length_take] at hcl
    refine ⟨fun vs h' => vs = [iv (((xs.take (i + 1)).count x : Nat) : Int)] ∧ h' = h5, ?_, ?_⟩
    · obtain ⟨ad, rfl, hc⟩ := H.at hlt'
      refine ⟨by omega, hlt, ?_⟩
      simp only [asPtr_some, Int.toNat_natCast, Nat.mul_one]
      refine ldH_mk hc ?_
      simp only [asInt_int]
      refine ifB_mk (fun hq => ⟨?_, by trivial⟩) (fun hq => ⟨?_, by trivial⟩)
      · rw [count_take_succ hlt', if_pos (by simpa using hq), nat_wrap1 (by omega)]
      · rw [count_take_succ hlt', if_neg (by simpa using hq)]; rfl
    · rintro v13 g14 h15 ⟨e, rfl⟩
      cases e
      rw [nat_wrap1 (by omega)]
      refine ⟨⟨i + 1, rfl, rfl, by omega⟩, ?_⟩
      show l - ((i + 1 : Nat) : Int).toNat < l - (i : Int).toNat
      omega
  · have hi' : xs.length ≤ i := by omega
    rw [List.take_of_length_le hi']
    exact k

theorem byt_int' : byt Try.prog 3 = 8 := byt_int
/-- append of numbers to numbers of one's own. -/
theorem app_row {h : Heap} {a a2 : Option Addr} {l c l2 c2 : Nat} {xs ys : List Int} {K : Value → Heap → Prop} (ho : OwnI h a l c xs) (hs : RI h a2 l2 c2 ys) (hl : l ≤ 2 ^ 40) (hl2 : l2 ≤ 2 ^ 40)
    (H : ∀ a' c' h', OwnI h' a' (l + l2) c' (xs ++ ys) → h.size ≤ h'.size → (∀ b, b < h.size → (∀ ad, a = some ad → ad.block ≠ b) → h'[b]? = h[b]?) → (a' = a ∨ a' = some ⟨h.size, 0, none⟩) → K (.slice a' (l + l2) c') h') :
    appH Try.prog #[23, 23] 23 #[.slice a l c, .slice a2 l2 c2] h K := by
  refine appH_own (P := Try.prog) (t := 23) (elem := 3) (z := .int .i64 0) (K := K) (xs := xs.map iv) (ys := ys.map iv) (n := l2) und_list there_int zer_int (by rw [siz_int]; rfl) (by rw [siz_int]; exact ho) hs.s (by rw [siz_int]; simp [hs.len]) ?_ (by rw [byt_int]; omega) (by rw [byt_int]; omega) ?_
  · intro y hy
    obtain ⟨n, _, rfl⟩ := List.mem_map.1 hy
    trivial
  · intro a' c' h' h1 h2 h3 h4
    rw [siz_int, ← List.map_append] at h1
    exact H a' c' h' h1 h2 h3 h4
/-- append to a slice that has no room. -/
theorem app_new {h : Heap} {a a2 : Option Addr} {l2 c2 : Nat} {ys : List Int} {K : Value → Heap → Prop} (hs : RI h a2 l2 c2 ys) (hl2 : l2 ≤ 2 ^ 40)
    (H0 : l2 = 0 → K (.slice a 0 0) h) (H : ∀ cap h', OwnI h' (some ⟨h.size, 0, none⟩) l2 cap ys → h'.size = h.size + 1 → Old h.size h h' → K (.slice (some ⟨h.size, 0, none⟩) l2 cap) h') :
    appH Try.prog #[23, 23] 23 #[.slice a 0 0, .slice a2 l2 c2] h K := by
  refine appH_nil (P := Try.prog) (t := 23) (elem := 3) (z := .int .i64 0) (K := K) (ys := ys.map iv) (n := l2) und_list there_int zer_int (by rw [siz_int]; rfl) hs.s (by rw [siz_int]; simp [hs.len]) ?_ (by rw [byt_int]; omega) (by rw [byt_int]; omega) H0 ?_
  · intro y hy
    obtain ⟨n, _, rfl⟩ := List.mem_map.1 hy
    trivial
  · intro cap h' h1 h2 h3
    rw [siz_int] at h1
    exact H cap h' h1 h2 h3

/-- A slice of one's own, or one that has no room. -/
def New (h0 h : Heap) (a : Option Addr) (l c : Nat) (xs : List Int) : Prop := (l = 0 ∧ c = 0 ∧ xs = []) ∨ (OwnI h a l c xs ∧ ∀ ad, a = some ad → h0.size ≤ ad.block)
theorem New.ri {h0 h : Heap} {a : Option Addr} {l c : Nat} {xs : List Int} (H : New h0 h a l c xs) : RI h a l c xs := by
  rcases H with ⟨rfl, rfl, rfl⟩ | H
  · exact ⟨Sees.nil _ _, rfl, Nat.le_refl _⟩
  · exact H.1.ri

theorem clone_int {K : Value → Heap → Prop} {h : Heap} {a : Option Addr} {l c : Nat} {xs : List Int} (H : RI h a l c xs) (hl : l ≤ 2 ^ 40)
    (k : ∀ a' c' h', New h h' a' l c' xs → Old h.size h h' → K (.slice a' l c') h') : CallH Try.prog 83 #[.slice a l c] h K := by
  refine call83 ?_
  unfold F83
  refine ifB_mk (fun hq => ?_) (fun hq => ?_)
  · have e1 : a = none := by simpa using hq
    subst e1
    obtain rfl := H.none_len
    have : xs = [] := by simpa using H.len
    subst this
    exact k _ _ _ (.inl ⟨rfl, rfl, rfl⟩) (Old.refl _ _)
  · have o1 : Old h.size h (h.push (.cells #[] 3)) := (Old.refl _ _).push _ (Nat.le_refl _)
    refine app_new (H.old o1) hl ?_ ?_
    · rintro rfl
      have : xs = [] := by simpa using H.len
      subst this
      simp only [asSlice_slice]
      exact k _ _ _ (.inl ⟨rfl, rfl, rfl⟩) o1
    · intro cap h' h1 h2 h3
      simp only [asSlice_slice]
      exact k _ _ _ (.inr ⟨h1, fun ad e => by cases e; simp⟩) (o1.trans (h3.mono (by simp)))

/-- append to a slice of one's own, or to one that has no room. -/
theorem app_New {h0 h : Heap} {a a2 : Option Addr} {l c l2 c2 : Nat} {xs ys : List Int} {K : Value → Heap → Prop} (hw : New h0 h a l c xs) (ho : Old h0.size h0 h) (hs : RI h a2 l2 c2 ys) (hl : l ≤ 2 ^ 40) (hl2 : l2 ≤ 2 ^ 40)
    (H : ∀ a' c' h', New h0 h' a' (l + l2) c' (xs ++ ys) → Old h0.size h0 h' → K (.slice a' (l + l2) c') h') :
    appH Try.prog #[23, 23] 23 #[.slice a l c, .slice a2 l2 c2] h K := by
  rcases hw with ⟨rfl, rfl, rfl⟩ | ⟨hw, hge⟩
  · refine app_new hs hl2 ?_ ?_
    · rintro rfl
      have : ys = [] := by simpa using hs.len
      subst this
      exact H _ _ _ (.inl ⟨rfl, rfl, rfl⟩) ho
    · intro cap h' h1 h2 h3
      have := H (some ⟨h.size, 0, none⟩) cap h' (.inr ⟨by simpa using h1, fun ad e => by cases e; exact ho.1⟩) (ho.trans (h3.mono ho.1))
      simpa using this
  · refine app_row hw hs hl hl2 ?_
    intro a' c' h' h1 h2 h3 h4
    refine H a' c' h' (.inr ⟨h1, ?_⟩) ⟨Nat.le_trans ho.1 h2, fun b hb => (h3 b (Nat.lt_of_lt_of_le hb ho.1) fun ad e => by have := hge ad e; omega).trans (ho.2 b hb)⟩
    intro ad e
    rcases h4 with rfl | rfl
    · exact hge ad e
    · cases e; exact ho.1
end Go.Proofs.Ytgladmaagpcffaa
