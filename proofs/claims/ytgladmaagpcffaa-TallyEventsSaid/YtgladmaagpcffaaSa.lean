/- The contracts of the sequences' functions, and of the comparison of two lists of numbers. -/
import Derived.Test.YtgladmaagpcffaaFa
set_option linter.unusedSimpArgs false
set_option linter.unusedVariables false
namespace Go.Proofs.Ytgladmaagpcffaa

abbrev iv (n : Int) : Value := .int .i64 n
theorem asInt_int (k : IntKind) (n : Int) (F : Int → Prop) : asInt k (.int k n) F = F n := by unfold asInt; simp
theorem asI_int (k : IntKind) (n : Int) (F : Int → Prop) : asI (.int k n) F = F n := rfl
theorem asBool_bool (b : Bool) (F : Bool → Prop) : asBool (.bool b) F = F b := rfl
theorem asSlice_slice (a : Option Addr) (l c : Nat) (F : Option Addr → Nat → Nat → Prop) : asSlice (.slice a l c) F = F a l c := rfl
theorem asPtr_some (a : Addr) (F : Addr → Prop) : asPtr (.pointer (some a)) F = F a := rfl
theorem asPtrO_ptr (a : Option Addr) (F : Option Addr → Prop) : asPtrO (.pointer a) F = F a := rfl
theorem asFnNil_func (f : Fn) (x y : Array Value) (F : Bool → Prop) : asFnNil (.func f x y) F = F false := rfl
theorem asFnNil_nil (F : Bool → Prop) : asFnNil .nilFunc F = F true := rfl
theorem asStr_str (s : ByteArray) (F : ByteArray → Prop) : asStr (.string s) F = F s := rfl
theorem ifB_true (X Y : Prop) : ifB true X Y = X := rfl
theorem ifB_false (X Y : Prop) : ifB false X Y = Y := rfl
theorem oneC_int (k : IntKind) (n : Int) (X : Prop) : oneC (.int k n) X = X := rfl
theorem oneC_bool (b : Bool) (X : Prop) : oneC (.bool b) X = X := rfl
theorem oneC_slice (a : Option Addr) (l c : Nat) (X : Prop) : oneC (.slice a l c) X = X := rfl
theorem oneC_func (f : Fn) (x y : Array Value) (X : Prop) : oneC (.func f x y) X = X := rfl
theorem getD0 (v d : Value) : (#[v] : Array Value).getD 0 d = v := rfl
theorem ifB_dec {p : Prop} [Decidable p] {X Y : Prop} (h1 : p → X) (h2 : ¬ p → Y) : ifB (decide p) X Y := by
  by_cases h : p
  · simp only [h, decide_true, ifB_true]; exact h1 h
  · simp only [h, decide_false, ifB_false]; exact h2 h
theorem ifB_mk {b : Bool} {X Y : Prop} (h1 : b = true → X) (h2 : b = false → Y) : ifB b X Y := by cases b <;> first | exact h1 rfl | exact h2 rfl

theorem und_list : und Try.prog 23 = .slice 3 := by kernel_rfl
theorem there_int : there Try.prog 3 = true := by kernel_rfl
theorem zer_int : zer Try.prog 3 = some (.int .i64 0) := by kernel_rfl
theorem siz_int : siz Try.prog 3 = 1 := by kernel_rfl
theorem byt_int : byt Try.prog 3 = 8 := by kernel_rfl

abbrev OwnI (h : Heap) (a : Option Addr) (l c : Nat) (xs : List Int) : Prop := Own h 3 1 a l c (xs.map iv)
set_option maxRecDepth 20000 in
theorem app_int {h : Heap} {a : Option Addr} {l c : Nat} {xs : List Int} {x : Int} {K : Value → Heap → Prop} (ho : OwnI h a l c xs) (hl : l ≤ 2 ^ 40)
    (H : ∀ a' c' h', OwnI h' a' (l + 1) c' (xs ++ [x]) → h.size ≤ h'.size → (∀ b, b < h.size → (∀ ad, a = some ad → ad.block ≠ b) → h'[b]? = h[b]?) → (a' = a ∨ ∃ b, a' = some ⟨b, 0, none⟩ ∧ h.size < b) → K (.slice a' (l + 1) c') h') :
    appH Try.prog #[23, 23] 23 #[.slice a l c, .slice (some ⟨h.size, 0, none⟩) 1 1] (h.push (.cells #[iv x] 3)) K := by
  have ho' : Own (h.push (.cells #[iv x] 3)) 3 (siz Try.prog 3) a l c (xs.map iv) := by
    have := Own.keep (h' := h.push (.cells #[iv x] 3)) ho fun ad e => push_old _ _ _ (ho.lt ad e)
    rwa [siz_int]
  refine appH_own (P := Try.prog) (t := 23) (elem := 3) (z := .int .i64 0) (h := h.push (.cells #[iv x] 3)) (K := K) (a := a) (a2 := some ⟨h.size, 0, none⟩) (l := l) (c := c) (n2 := 1) (xs := xs.map iv) (ys := [iv x]) (n := 1) und_list there_int zer_int (by rw [siz_int]; rfl) ho' ?_ (by rw [siz_int]; rfl) (by simp [oneC]) (by rw [byt_int]; omega) (by rw [byt_int]; omega) ?_
  · intro i v hi
    refine ⟨_, rfl, ?_⟩
    rw [add_lit, cellAt_of (push_new _ _)]
    cases i with
    | zero => simpa using hi
    | succ i => simp at hi
  · intro a' c' h' h1 h2 h3 h4
    rw [siz_int] at h1
    refine H a' c' h' (by simpa [OwnI] using h1) (by simp at h2; omega) (fun b hb hne => ?_) ?_
    · rw [h3 b (by simp; omega) hne]; exact push_old _ _ _ hb
    · rcases h4 with h4 | h4
      · exact .inl h4
      · exact .inr ⟨_, h4, by simp⟩

/-- Two lists of numbers compared. -/
theorem same_spec {K : Value → Heap → Prop} {h : Heap} {a1 a2 : Option Addr} {l1 c1 l2 c2 : Nat} {xs ys : List Int} (h1 : Sees h a1 (xs.map iv)) (e1 : xs.length = l1) (h2 : Sees h a2 (ys.map iv)) (e2 : ys.length = l2)
    (hl : l1 < 2 ^ 60) (k : K (.bool (decide (xs = ys))) h) : F20 K h a1 l1 c1 a2 l2 c2 := by
  unfold F20
  refine ifB_mk (fun hne => ?_) (fun heq => ?_)
  · have : xs ≠ ys := by rintro rfl; simp at hne; omega
    rwa [decide_eq_false this] at k
  have hll : l1 = l2 := by simp at heq; omega
  refine ⟨fun vs h' => ∃ i : Nat, vs = [.bool false, iv i] ∧ h' = h ∧ i ≤ l1 ∧ xs.take i = ys.take i, fun vs _ => (match vs with | [_, .int _ n] => l1 - n.toNat | _ => 0), ⟨0, rfl, rfl, Nat.zero_le _, by simp⟩, ?_⟩
  rintro v2 v3 g h5 ⟨i, e, rfl, hi, ht⟩
  cases e
  simp only [asInt_int, asI_int]
  refine ifB_dec (fun hlt => ?_) (fun hge => ?_)
  · have hlt' : i < xs.length := by omega
    have hlt2 : i < ys.length := by omega
    obtain ⟨ad1, ea, hc1⟩ := h1 i (iv xs[i]) (by simp [hlt'])
    obtain ⟨ad2, eb, hc2⟩ := h2 i (iv ys[i]) (by simp [hlt2])
    subst ea eb
    refine ⟨by omega, hlt, ?_⟩
    simp only [asPtr_some, Int.toNat_natCast, Nat.mul_one]
    refine ldH_mk hc1 ?_
    simp only [asInt_int]
    refine ⟨by omega, by omega, ldH_mk hc2 ?_⟩
    simp only [asInt_int]
    refine ifB_mk (fun hne => ?_) (fun hq => ?_)
    · have : xs ≠ ys := by rintro rfl; simp at hne
      rwa [decide_eq_false this] at k
    · have hq' : xs[i] = ys[i] := by simpa using hq
      rw [wrap64_id (by omega) (by omega)]
      refine ⟨⟨i + 1, by simp, by simp, by omega, ?_⟩, ?_⟩
      · rw [List.take_succ_eq_append_getElem hlt', List.take_succ_eq_append_getElem hlt2, ht, hq']
      · show l1 - ((i : Int) + 1).toNat < l1 - (i : Int).toNat
        omega
  · have hi' : i = l1 := by omega
    subst hi'
    have : xs = ys := by rw [List.take_of_length_le (by omega), List.take_of_length_le (by omega)] at ht; exact ht
    rwa [decide_eq_true this] at k
end Go.Proofs.Ytgladmaagpcffaa
