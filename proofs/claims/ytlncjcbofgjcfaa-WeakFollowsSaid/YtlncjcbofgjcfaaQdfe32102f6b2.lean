/- Part 4 of what the proofs of this seat rest on: see the last text of the claim. -/
import Derived.Test.YtlncjcbofgjcfaaQa27707abcb06
import Derived.Test.YtlncjcbofgjcfaaProg
section
/- The formulas of functions, printed by a program of mine. -/
set_option linter.unusedVariables false
namespace Go.Proofs.Ytlncjcbofgjcfaa
/-- jostle/seqs.Count$1 -/
def F97 (K : Value → Heap → Prop) (h : Heap) (x0 : Value) (c0 : Value) (c1 : Value) : Prop :=
  (asPtr c0 (fun a0 => (ldH h a0 (fun v1 => (asInt .i64 v1 (fun n2 => (exI (fun I3 => (exM (fun m4 => ((I3 [(.int .i64 n2)] h) ∧ (∀ v5 : Value, (∀ g6 : Env, (∀ h7 : Heap, ((I3 [v5] h7) → (asInt .i64 v5 (fun n8 => (asPtr c1 (fun a9 => (ldH h7 a9 (fun v10 => (asInt .i64 v10 (fun n11 => (ifB (decide (n8 < n11)) (asInt .i64 v5 (fun n12 => (callV Try.prog x0 #[(.int .i64 n12)] h7 (fun v13 h14 => (asBool v13 (fun b15 => (ifB (!b15) (K (.tuple #[]) h14) (asInt .i64 v5 (fun n16 => ((I3 [(.int .i64 (IntKind.wrap .i64 (n16 + 1)))] h14) ∧ ((m4 [(.int .i64 (IntKind.wrap .i64 (n16 + 1)))] h14) < (m4 [v5] h7)))))))))))) (K (.tuple #[]) h7)))))))))))))))))))))))))
theorem vc97 (K : Value → Heap → Prop) (h : Heap) (x0 : Value) (c0 : Value) (c1 : Value) : vc Try.prog (bodyOf Try.f97) (retQ Try.prog Try.f97.results.toList (hasRange (bodyOf Try.f97)) h.size K) (envL [x0, c0, c1]) h = F97 K h x0 c0 c1 := by kernel_rfl
theorem ok97 : fnOk Try.prog Try.f97 3 = true := by kernel_rfl
theorem call97 {K : Value → Heap → Prop} {h : Heap} {x0 : Value} {c0 : Value} {c1 : Value} (H : F97 K h x0 c0 c1) : CallH Try.prog 97 #[x0, c0, c1] h K :=
  callH_mk Try.func97 ok97 (Eq.mp (vc97 K h x0 c0 c1).symm H)

/-- jostle/seqs.none[int] -/
def F98 (K : Value → Heap → Prop) (h : Heap) (x0 : Value) : Prop :=
  (K (.tuple #[]) h)
theorem vc98 (K : Value → Heap → Prop) (h : Heap) (x0 : Value) : vc Try.prog (bodyOf Try.f98) (retQ Try.prog Try.f98.results.toList (hasRange (bodyOf Try.f98)) h.size K) (envL [x0]) h = F98 K h x0 := by kernel_rfl
theorem ok98 : fnOk Try.prog Try.f98 1 = true := by kernel_rfl
theorem call98 {K : Value → Heap → Prop} {h : Heap} {x0 : Value} (H : F98 K h x0) : CallH Try.prog 98 #[x0] h K :=
  callH_mk Try.func98 ok98 (Eq.mp (vc98 K h x0).symm H)

/-- jostle/seqs.First[int]$1 -/
def F115 (K : Value → Heap → Prop) (h : Heap) (x0 : Value) (c0 : Value) (c1 : Value) : Prop :=
  (oneC x0 (asPtr c0 (fun a0 => (ldH (Array.push h (.cells #[x0] 135)) a0 (fun v1 => (asInt .i64 v1 (fun n2 => (stH (Array.push (Array.push h (.cells #[x0] 135)) (.cells #[(.int .i64 0)] 3)) ⟨(Array.push h (.cells #[x0] 135)).size, 0, none⟩ (.int .i64 n2) (fun h3 => (asPtr c1 (fun a4 => (ldH h3 a4 (fun v5 => (rangeH Try.prog v5 1 h3 (fun I6 vs7 h8 => (asInt .i64 (vs7.getD 0 (.tuple #[])) (fun n9 => (ldH h8 ⟨(Array.push h (.cells #[x0] 135)).size, 0, none⟩ (fun v10 => (asInt .i64 v10 (fun n11 => (stH h8 ⟨(Array.push h (.cells #[x0] 135)).size, 0, none⟩ (.int .i64 (IntKind.wrap .i64 (n11 - 1))) (fun h12 => (exI (fun I13 => ((ldH h12 ⟨h.size, 0, none⟩ (fun v14 => (callV Try.prog v14 #[(.int .i64 n9)] h12 (fun v15 h16 => (asBool v15 (fun b17 => (ifB (!b17) (I13 [(.bool true)] h16) (ldH h16 ⟨(Array.push h (.cells #[x0] 135)).size, 0, none⟩ (fun v18 => (asInt .i64 v18 (fun n19 => (I13 [(.bool (n19 == 0))] h16)))))))))))) ∧ (∀ v20 : Value, (∀ g21 : Env, (∀ h22 : Heap, ((I13 [v20] h22) → (asBool v20 (fun b23 => (ifB b23 (I6 .ret h22) (I6 .normal h22)))))))))))))))))))) (fun h24 => (∀ h25 : Heap, ((SameD h.size h24 h25) → (K (.tuple #[]) h25)))) [(.ret, (fun h26 => (∀ h27 : Heap, ((SameD h.size h26 h27) → (K (.tuple #[]) h27)))))]))))))))))))))
theorem vc115 (K : Value → Heap → Prop) (h : Heap) (x0 : Value) (c0 : Value) (c1 : Value) : vc Try.prog (bodyOf Try.f115) (retQ Try.prog Try.f115.results.toList (hasRange (bodyOf Try.f115)) h.size K) (envL [x0, c0, c1]) h = F115 K h x0 c0 c1 := by kernel_rfl
theorem ok115 : fnOk Try.prog Try.f115 3 = true := by kernel_rfl
theorem call115 {K : Value → Heap → Prop} {h : Heap} {x0 : Value} {c0 : Value} {c1 : Value} (H : F115 K h x0 c0 c1) : CallH Try.prog 115 #[x0, c0, c1] h K :=
  callH_mk Try.func115 ok115 (Eq.mp (vc115 K h x0 c0 c1).symm H)




/-- jostle/seqs.Count -/
def F79 (K : Value → Heap → Prop) (h : Heap) (x0 : Int) (x1 : Int) : Prop :=
  (K (.func (.func 97) #[] #[(.pointer (some ⟨h.size, 0, none⟩)), (.pointer (some ⟨(Array.push h (.cells #[(.int .i64 x0)] 3)).size, 0, none⟩))]) (Array.push (Array.push h (.cells #[(.int .i64 x0)] 3)) (.cells #[(.int .i64 x1)] 3)))
theorem vc79 (K : Value → Heap → Prop) (h : Heap) (x0 : Int) (x1 : Int) : vc Try.prog (bodyOf Try.f79) (retQ Try.prog Try.f79.results.toList (hasRange (bodyOf Try.f79)) h.size K) (envL [(.int .i64 x0), (.int .i64 x1)]) h = F79 K h x0 x1 := by kernel_rfl
theorem ok79 : fnOk Try.prog Try.f79 2 = true := by kernel_rfl
theorem call79 {K : Value → Heap → Prop} {h : Heap} {x0 : Int} {x1 : Int} (H : F79 K h x0 x1) : CallH Try.prog 79 #[(.int .i64 x0), (.int .i64 x1)] h K :=
  callH_mk Try.func79 ok79 (Eq.mp (vc79 K h x0 x1).symm H)

/-- jostle/seqs.First[int] -/
def F96 (K : Value → Heap → Prop) (h : Heap) (x0 : Value) (x1 : Int) : Prop :=
  (oneC x0 (exI (fun I0 => ((ldH (Array.push (Array.push h (.cells #[x0] 133)) (.cells #[(.int .i64 x1)] 3)) ⟨h.size, 0, none⟩ (fun v1 => (asFnNil v1 (fun b2 => (ifB b2 (I0 [(.bool true)] (Array.push (Array.push h (.cells #[x0] 133)) (.cells #[(.int .i64 x1)] 3))) (ldH (Array.push (Array.push h (.cells #[x0] 133)) (.cells #[(.int .i64 x1)] 3)) ⟨(Array.push h (.cells #[x0] 133)).size, 0, none⟩ (fun v3 => (asInt .i64 v3 (fun n4 => (I0 [(.bool (decide (n4 < 1)))] (Array.push (Array.push h (.cells #[x0] 133)) (.cells #[(.int .i64 x1)] 3)))))))))))) ∧ (∀ v5 : Value, (∀ g6 : Env, (∀ h7 : Heap, ((I0 [v5] h7) → (asBool v5 (fun b8 => (ifB b8 (K (.func (.func 98) #[] #[]) h7) (K (.func (.func 115) #[] #[(.pointer (some ⟨(Array.push h (.cells #[x0] 133)).size, 0, none⟩)), (.pointer (some ⟨h.size, 0, none⟩))]) h7))))))))))))
theorem vc96 (K : Value → Heap → Prop) (h : Heap) (x0 : Value) (x1 : Int) : vc Try.prog (bodyOf Try.f96) (retQ Try.prog Try.f96.results.toList (hasRange (bodyOf Try.f96)) h.size K) (envL [x0, (.int .i64 x1)]) h = F96 K h x0 x1 := by kernel_rfl
theorem ok96 : fnOk Try.prog Try.f96 2 = true := by kernel_rfl
theorem call96 {K : Value → Heap → Prop} {h : Heap} {x0 : Value} {x1 : Int} (H : F96 K h x0 x1) : CallH Try.prog 96 #[x0, (.int .i64 x1)] h K :=
  callH_mk Try.func96 ok96 (Eq.mp (vc96 K h x0 x1).symm H)


end Go.Proofs.Ytlncjcbofgjcfaa
end
section
/- The contracts of the sequences' functions, and of the comparison of two lists of numbers. -/
set_option linter.unusedSimpArgs false
set_option linter.unusedVariables false
namespace Go.Proofs.Ytlncjcbofgjcfaa

abbrev iv (n : Int) : Value := .int .i64 n
theorem asInt_int (k : IntKind) (n : Int) (F : Int → Prop) : asInt k (.int k n) F = F n := by unfold asInt; simp
theorem asI_int (k : IntKind) (n : Int) (F : Int → Prop) : asI (.int k n) F = F n := rfl
theorem asBool_bool (b : Bool) (F : Bool → Prop) : asBool (.bool b) F = F b := rfl
theorem asSlice_slice (a : Option Addr) (l c : Nat) (F : Option Addr → Nat → Nat → Prop) : asSlice (.slice a l c) F = F a l c := rfl
theorem asPtr_some (a : Addr) (F : Addr → Prop) : asPtr (.pointer (some a)) F = F a := rfl
theorem asPtrO_ptr (a : Option Addr) (F : Option Addr → Prop) : asPtrO (.pointer a) F = F a := rfl
theorem asFnNil_func (f : Fn) (x y : Array Value) (F : Bool → Prop) : asFnNil (.func f x y) F = F false := rfl
theorem asFnNil_nil (F : Bool → Prop) : asFnNil .nilFunc F = F true := rfl
theorem asStr_str (s : ByteArray) (F : ByteArray → Prop) : asStr (.string s) F = F s := rfl
theorem ifB_true (X Y : Prop) : ifB true X Y = X := rfl
theorem ifB_false (X Y : Prop) : ifB false X Y = Y := rfl
theorem oneC_int (k : IntKind) (n : Int) (X : Prop) : oneC (.int k n) X = X := rfl
theorem oneC_bool (b : Bool) (X : Prop) : oneC (.bool b) X = X := rfl
theorem oneC_slice (a : Option Addr) (l c : Nat) (X : Prop) : oneC (.slice a l c) X = X := rfl
theorem oneC_func (f : Fn) (x y : Array Value) (X : Prop) : oneC (.func f x y) X = X := rfl
theorem getD0 (v d : Value) : (#[v] : Array Value).getD 0 d = v := rfl
theorem ifB_dec {p : Prop} [Decidable p] {X Y : Prop} (h1 : p → X) (h2 : ¬ p → Y) : ifB (decide p) X Y := by
  by_cases h : p
  · simp only [h, decide_true, ifB_true]; exact h1 h
  · simp only [h, decide_false, ifB_false]; exact h2 h
theorem ifB_mk {b : Bool} {X Y : Prop} (h1 : b = true → X) (h2 : b = false → Y) : ifB b X Y := by cases b <;> first | exact h1 rfl | exact h2 rfl

theorem und_list : und Try.prog 66 = .slice 3 := by kernel_rfl
theorem there_int : there Try.prog 3 = true := by kernel_rfl
theorem zer_int : zer Try.prog 3 = some (.int .i64 0) := by kernel_rfl
theorem siz_int : siz Try.prog 3 = 1 := by kernel_rfl
theorem byt_int : byt Try.prog 3 = 8 := by kernel_rfl

abbrev OwnI (h : Heap) (a : Option Addr) (l c : Nat) (xs : List Int) : Prop := Own h 3 1 a l c (xs.map iv)
set_option maxRecDepth 20000 in
theorem app_int {h : Heap} {a : Option Addr} {l c : Nat} {xs : List Int} {x : Int} {K : Value → Heap → Prop} (ho : OwnI h a l c xs) (hl : l ≤ 2 ^ 40)
    (H : ∀ a' c' h', OwnI h' a' (l + 1) c' (xs ++ [x]) → h.size ≤ h'.size → (∀ b, b < h.size → (∀ ad, a = some ad → ad.block ≠ b) → h'[b]? = h[b]?) → (a' = a ∨ ∃ b, a' = some ⟨b, 0, none⟩ ∧ h.size < b) → K (.slice a' (l + 1) c') h') :
    appH Try.prog #[66, 66] 66 #[.slice a l c, .slice (some ⟨h.size, 0, none⟩) 1 1] (h.push (.cells #[iv x] 3)) K := by
  have ho' : Own (h.push (.cells #[iv x] 3)) 3 (siz Try.prog 3) a l c (xs.map iv) := by
    have := Own.keep (h' := h.push (.cells #[iv x] 3)) ho fun ad e => push_old _ _ _ (ho.lt ad e)
    rwa [siz_int]
  refine appH_own (P := Try.prog) (t := 66) (elem := 3) (z := .int .i64 0) (h := h.push (.cells #[iv x] 3)) (K := K) (a := a) (a2 := some ⟨h.size, 0, none⟩) (l := l) (c := c) (n2 := 1) (xs := xs.map iv) (ys := [iv x]) (n := 1) und_list there_int zer_int (by rw [siz_int]; rfl) ho' ?_ (by rw [siz_int]; rfl) (by simp [oneC]) (by rw [byt_int]; omega) (by rw [byt_int]; omega) ?_
  · intro i v hi
    refine ⟨_, rfl, ?_⟩
    rw [add_lit, cellAt_of (push_new _ _)]
    cases i with
    | zero => simpa using hi
    | succ i => simp at hi
  · intro a' c' h' h1 h2 h3 h4
    rw [siz_int] at h1
    refine H a' c' h' (by simpa [OwnI] using h1) (by simp at h2; omega) (fun b hb hne => ?_) ?_
    · rw [h3 b (by simp; omega) hne]; exact push_old _ _ _ hb
    · rcases h4 with h4 | h4
      · exact .inl h4
      · exact .inr ⟨_, h4, by simp⟩

end Go.Proofs.Ytlncjcbofgjcfaa
end
section
/- The contracts of the sequences' functions: counting, a list of a sequence, its first ones. -/
set_option linter.unusedSimpArgs false
set_option linter.unusedVariables false
namespace Go.Proofs.Ytlncjcbofgjcfaa

theorem wrap64_id' {n : Int} (h0 : -9223372036854775808 ≤ n) (h1 : n ≤ 9223372036854775807) : IntKind.i64.wrap n = n := by
  unfold IntKind.wrap IntKind.signed IntKind.bits
  by_cases h2 : 0 ≤ n
  · have e : n % 2 ^ 64 = n := Int.emod_eq_of_lt h2 (by omega)
    simp only [e]
    rw [if_neg (by simp; omega)]
  · have e : n % 2 ^ 64 = n + 2 ^ 64 := by omega
    simp only [e]
    rw [if_pos (by simp; omega)]; omega
theorem cl3 (y a b : Value) : (#[y] : Array Value) ++ #[a, b] = #[y, a, b] := rfl
theorem cl2 (y a : Value) : (#[y] : Array Value) ++ #[a] = #[y, a] := rfl
theorem RangeOk.self {ε : Type} {N : Nat} {h : Heap} {Ev : Heap → Prop} {I : Nat → Nat → Heap → Prop} {X : Nat → ε → Heap → Prop} (H : RangeOk N h Ev I X) : I h.size 0 h := H.start h (Nat.le_refl _) fun _ _ => rfl

/-- The numbers from .. on, up to .. -/
theorem count_seq {p q : Nat} {u v : Int} (hu : -2 ^ 62 ≤ u) (hv : v ≤ 2 ^ 62) :
    SeqH Try.prog (.func (.func 97) #[] #[.pointer (some ⟨p, 0, none⟩), .pointer (some ⟨q, 0, none⟩)]) (v - u).toNat (fun k => #[iv (u + k)])
      (fun h => cellAt h ⟨p, 0, none⟩ = some (iv u) ∧ cellAt h ⟨q, 0, none⟩ = some (iv v)) := by
  intro yf y1 y2 h N I X hN hev hok hy
  refine callV_cl ?_
  rw [cl3]
  refine call97 ?_
  unfold F97
  simp only [asPtr_some]
  refine ldH_mk hev.1 ?_
  simp only [asInt_int]
  refine ⟨fun vs h' => ∃ k : Nat, vs = [iv (u + k)] ∧ k ≤ (v - u).toNat ∧ h.size ≤ h'.size ∧ I h.size k h', fun vs _ => (match vs with | [.int _ n] => (v - n).toNat | _ => 0), ⟨0, by simp, by omega, Nat.le_refl _, hok.self⟩, ?_⟩
  rintro v5 g h7 ⟨k, e, hk, hs, hI⟩
  cases e
  simp only [asInt_int]
  refine ldH_mk (hok.env _ _ _ hN hs hI).2 ?_
  simp only [asInt_int]
  refine ifB_dec (fun hlt => ?_) (fun hge => ?_)
  · refine callV_mono ?_ (hy h.size k h7 (by omega) hN (Nat.le_refl _) hs hI)
    rintro w h'' ⟨hm, ⟨rfl, hI'⟩ | ⟨rfl, hX⟩⟩
    · simp only [asBool_bool, Bool.not_true, ifB_false]
      rw [wrap64_id' (by omega) (by omega)]
      refine ⟨⟨k + 1, by simp; omega, by omega, Nat.le_trans hs hm.1, hI'⟩, ?_⟩
      show (v - (u + k + 1)).toNat < (v - (u + k)).toNat
      omega
    · simp only [asBool_bool, Bool.not_false, ifB_true]
      exact ⟨h.size, hN, Nat.le_refl _, Nat.le_trans hs hm.1, .inr hX⟩
  · have : k = (v - u).toNat := by omega
    subst this
    exact ⟨h.size, hN, Nat.le_refl _, hs, .inl hI⟩

end Go.Proofs.Ytlncjcbofgjcfaa
end
section
/- The contract of the first ones of a sequence. -/
set_option linter.unusedSimpArgs false
set_option linter.unusedVariables false
namespace Go.Proofs.Ytlncjcbofgjcfaa

theorem cellAt_row {h : Heap} {b : Nat} {v : Value} {t : TypeId} (hb : h[b]? = some (.cells #[v] t)) : cellAt h ⟨b, 0, none⟩ = some v := by rw [cellAt_of hb]; rfl

set_option maxRecDepth 20000 in
/-- The first m of a sequence. -/
theorem first_seq {np gp : Nat} {g : Value} {m n : Nat} {xs : Nat → Int} {Ev : Heap → Prop} (hg : fnV g) (hseq : SeqH Try.prog g n (fun k => #[iv (xs k)]) Ev) (hst : ∀ h h', Old h.size h h' → Ev h → Ev h') (hm : 1 ≤ m) (hm2 : m ≤ 9223372036854775807) :
    SeqH Try.prog (.func (.func 115) #[] #[.pointer (some ⟨np, 0, none⟩), .pointer (some ⟨gp, 0, none⟩)]) (min n m) (fun k => #[iv (xs k)])
      (fun h => cellAt h ⟨np, 0, none⟩ = some (iv m) ∧ cellAt h ⟨gp, 0, none⟩ = some g ∧ Ev h) := by
  intro yf y1 y2 h N I X hN hev hok hy
  refine callV_cl ?_
  rw [cl3]
  refine call115 ?_
  unfold F115
  simp only [asPtr_some, oneC_func]
  obtain ⟨h1, eh1⟩ : ∃ h1, h1 = h.push (.cells #[.func yf y1 y2] 135) := ⟨_, rfl⟩
  rw [← eh1]
  have s1 : h1.size = h.size + 1 := by rw [eh1]; simp
  have o1 : Old h.size h h1 := by rw [eh1]; exact (Old.refl _ _).push _ (Nat.le_refl _)
  have n1 : h1[h.size]? = some (.cells #[.func yf y1 y2] 135) := by rw [eh1]; exact push_new _ _
  have c1 : ∀ {a : Addr} {v : Value}, cellAt h a = some v → cellAt h1 a = some v := fun {a v} hc => (cellAt_congr (o1.2 _ (cellAt_lt hc))).trans hc
  refine ldH_mk (c1 hev.1) ?_
  simp only [asInt_int]
  obtain ⟨h2, eh2⟩ : ∃ h2, h2 = h1.push (.cells #[.int .i64 0] 3) := ⟨_, rfl⟩
  rw [← eh2]
  have s2 : h2.size = h.size + 2 := by rw [eh2]; simp [s1]
  have n2 : h2[h.size + 1]? = some (.cells #[.int .i64 0] 3) := by rw [eh2, ← s1]; exact push_new _ _
  rw [s1]
  refine stH_mk n2 (by simp) trivial ?_
  rintro h3 eh3
  have s3 : h3.size = h.size + 2 := by rw [eh3]; simp [s2]
  have o3 : Old h.size h h3 := by
    rw [eh3]
    refine Old.set ?_ _ _ (by omega)
    rw [eh2]; exact o1.push _ (by omega)
  have n3 : h3[h.size + 1]? = some (.cells #[iv m] 3) := by rw [eh3]; exact set_new (by omega)
  have y3 : h3[h.size]? = some (.cells #[.func yf y1 y2] 135) := by
    rw [eh3, set_old (by omega), eh2, push_old _ _ _ (by omega)]; exact n1
  have hev3 : Ev h3 := hst _ _ o3 hev.2.2
  refine ldH_mk ((cellAt_congr (o3.2 _ (cellAt_lt hev.2.1))).trans hev.2.1) ?_
  refine ⟨n, fun k => #[iv (xs k)], Ev,
    fun M j h' => h'[h.size]? = some (.cells #[.func yf y1 y2] 135) ∧ h'[h.size + 1]? = some (.cells #[iv ((m : Int) - j)] 3) ∧ j < m ∧ I M j h',
    fun M e h' => X M () h' ∨ (m ≤ n ∧ I M m h'), hg, hseq, fun _ _ => rfl, hev3, ?_, ?_, ?_, ?_⟩
  · refine { env := fun M k h' hM hs hI => (hok.env M k h' (by omega) hs hI.2.2.2).2.2, keepI := fun M k ha hb hM hs hI hk => ?_, keepX := fun M e ha hb hM hs hX hk => ?_,
             dI := fun M k ha hb hs hI => ⟨(hs.cells hI.1).trans hI.1, (hs.cells hI.2.1).trans hI.2.1, hI.2.2.1, hok.dI M k ha hb (hs.mono (by omega)) hI.2.2.2⟩,
             dX := fun M e ha hb hs hX => hX.imp (hok.dX M _ ha hb (hs.mono (by omega))) (fun x => ⟨x.1, hok.dI M _ ha hb (hs.mono (by omega)) x.2⟩), start := fun ha hs hsame => ?_ }
    · have hk' : Keep N M ha hb := ⟨hk.1, fun b hb1 hb2 => hk.2 b hb1 (by omega)⟩
      have q1 := (Array.getElem?_eq_some_iff.1 hI.2.1).1
      exact ⟨(hk.2 _ (by omega) (.inl (by omega))).trans hI.1, (hk.2 _ (by omega) (.inl (by omega))).trans hI.2.1, hI.2.2.1, hok.keepI M k ha hb (by omega) hs hI.2.2.2 hk'⟩
    · have hk' : Keep N M ha hb := ⟨hk.1, fun b hb1 hb2 => hk.2 b hb1 (by omega)⟩
      exact hX.imp (fun x => hok.keepX M _ ha hb (by omega) hs x hk') (fun x => ⟨x.1, hok.keepI M _ ha hb (by omega) hs x.2 hk'⟩)
    · refine ⟨(hsame _ (by omega)).trans y3, (hsame _ (by omega)).trans (by simpa using n3), by omega, ?_⟩
      exact hok.start ha (by have := o3.1; omega) (fun b hb => (hsame b (by omega)).trans (o3.2 b (by omega)))
  · rintro M k h8 hk hM hs ⟨q1, q2, q3, hI⟩
    simp only [getD0, asInt_int]
    refine ldH_mk (cellAt_row q2) ?_
    simp only [asInt_int]
    refine stH_mk q2 (by simp) trivial ?_
    rintro h12 e12
    have q2l := (Array.getElem?_eq_some_iff.1 q2).1
    rw [wrap64_id' (by omega) (by omega)] at e12
    have s12 : h12.size = h8.size := by rw [e12]; simp
    have p1 : h12[h.size]? = some (.cells #[.func yf y1 y2] 135) := by rw [e12, set_old (by omega)]; exact q1
    have p2 : h12[h.size + 1]? = some (.cells #[iv ((m : Int) - k - 1)] 3) := by rw [e12]; exact set_new q2l
    have hI12 : I M k h12 := hok.keepI M k h8 h12 (by omega) hs hI ⟨by omega, fun b hb hor => by rw [e12]; exact set_old (by omega)⟩
    refine ⟨fun vs h' => ∃ b : Bool, vs = [.bool b] ∧ KeepMid h3.size M h8 h' ∧ (if b then (X M () h' ∨ (m ≤ n ∧ I M m h')) else (h'[h.size]? = some (.cells #[.func yf y1 y2] 135) ∧ h'[h.size + 1]? = some (.cells #[iv ((m : Int) - (k + 1 : Nat))] 3) ∧ k + 1 < m ∧ I M (k + 1) h')), ?_, ?_⟩
    · refine ldH_mk (cellAt_row p1) ?_
      refine callV_mono ?_ (hy M k h12 (by omega) (by omega) (by omega) (by omega) hI12)
      rintro w h16 ⟨hm16, hor⟩
      have r1 : h16[h.size]? = some (.cells #[.func yf y1 y2] 135) := (hm16.2 _ (by omega) (by omega)).trans p1
      have r2 : h16[h.size + 1]? = some (.cells #[iv ((m : Int) - k - 1)] 3) := (hm16.2 _ (by omega) (by omega)).trans p2
      have hk8 : KeepMid h3.size M h8 h16 := ⟨by have := hm16.1; omega, fun b hb1 hb2 => (hm16.2 b (by omega) hb2).trans (by rw [e12]; exact set_old (by omega))⟩
      rcases hor with ⟨rfl, hI'⟩ | ⟨rfl, hX⟩
      · simp only [asBool_bool, Bool.not_true, ifB_false]
        refine ldH_mk (cellAt_row r2) ?_
        simp only [asInt_int]
        by_cases hz : k + 1 = m
        · refine ⟨true, ?_, hk8, ?_⟩
          · rw [beq_iff_eq.2 (show (m : Int) - k - 1 = 0 by omega)]
          · simp only [if_true]; exact .inr ⟨by omega, hz ▸ hI'⟩
        · refine ⟨false, ?_, hk8, ?_⟩
          · rw [beq_eq_false_iff_ne.2 (show (m : Int) - k - 1 ≠ 0 by omega)]
          · simp only [Bool.false_eq_true, if_false]
            exact ⟨r1, by rw [r2, show (m : Int) - k - 1 = (m : Int) - ((k + 1 : Nat) : Int) by omega], by omega, hI'⟩
      · simp only [asBool_bool, Bool.not_false, ifB_true]
        exact ⟨true, rfl, hk8, by simp only [if_true]; exact .inl hX⟩
    · rintro v20 g21 h22 ⟨b, e, hk22, hb⟩
      cases e
      simp only [asBool_bool]
      cases b with
      | true => simp only [ifB_true]; simp only [if_true] at hb; exact ⟨hk22, trivial, hb⟩
      | false => simp only [ifB_false]; simp only [Bool.false_eq_true, if_false] at hb; exact ⟨hk22, hb⟩
  · rintro M h24 hM hs ⟨q1, q2, q3, hI⟩ h25 hsd
    refine ⟨M, by omega, by omega, by rw [hsd.1]; exact hs, .inl ?_⟩
    rw [show min n m = n by omega]
    exact hok.dI M n h24 h25 (hsd.mono hN) hI
  · refine ⟨fun M h26 hM hs hX h27 hsd => ?_, trivial⟩
    refine ⟨M, by omega, by omega, by rw [hsd.1]; exact hs, ?_⟩
    rcases hX with hX | ⟨hmn, hI⟩
    · exact .inr (hok.dX M _ h26 h27 (hsd.mono hN) hX)
    · left
      rw [show min n m = m by omega]
      exact hok.dI M m h26 h27 (hsd.mono hN) hI
end Go.Proofs.Ytlncjcbofgjcfaa
end
section
/- The sequences' functions, called; the statement SeqsCounts' body. -/
set_option linter.unusedSimpArgs false
set_option linter.unusedVariables false
namespace Go.Proofs.Ytlncjcbofgjcfaa

/-- From h on, g is a sequence of n numbers. -/
def SeqAt (g : Value) (n : Nat) (xs : Nat → Int) (h : Heap) : Prop :=
  ∃ f fst cap Ev, g = .func (.func f) fst cap ∧ SeqH Try.prog g n (fun k => #[iv (xs k)]) Ev ∧ Ev h ∧ ∀ h h', Old h.size h h' → Ev h → Ev h'
theorem SeqAt.old {g : Value} {n : Nat} {xs : Nat → Int} {h h' : Heap} (H : SeqAt g n xs h) (ho : Old h.size h h') : SeqAt g n xs h' := by
  obtain ⟨f, fst, cap, Ev, e, hs, he, hst⟩ := H
  exact ⟨f, fst, cap, Ev, e, hs, hst _ _ ho he, hst⟩
theorem cell_stable {a : Addr} {v : Value} : ∀ h h', Old h.size h h' → cellAt h a = some v → cellAt h' a = some v := fun h h' ho hc => (cellAt_congr (ho.2 _ (cellAt_lt hc))).trans hc
theorem push2 {h : Heap} (o o' : Obj) : Old h.size h ((h.push o).push o') ∧ ((h.push o).push o')[h.size]? = some o ∧ ((h.push o).push o')[h.size + 1]? = some o' := by
  refine ⟨((Old.refl _ _).push _ (Nat.le_refl _)).push _ (by simp), ?_, ?_⟩
  · rw [push_old _ _ _ (by simp)]; exact push_new _ _
  · have := push_new (h.push o) o'
    rwa [Array.size_push] at this

theorem count_call {K : Value → Heap → Prop} {h : Heap} {u v : Int} (hu : -2 ^ 62 ≤ u) (hv : v ≤ 2 ^ 62) (k : ∀ g h', SeqAt g (v - u).toNat (fun k => u + k) h' → Old h.size h h' → K g h') :
    CallH Try.prog 79 #[iv u, iv v] h K := by
  refine call79 ?_
  unfold F79
  obtain ⟨ho, h1, h2⟩ := push2 (h := h) (.cells #[iv u] 3) (.cells #[iv v] 3)
  rw [Array.size_push]
  refine k _ _ ⟨_, _, _, _, rfl, count_seq hu hv, ⟨cellAt_row h1, cellAt_row h2⟩, fun a b o e => ⟨cell_stable _ _ o e.1, cell_stable _ _ o e.2⟩⟩ ho

theorem none_seq (xs : Nat → Int) : SeqH Try.prog (.func (.func 98) #[] #[]) 0 (fun k => #[iv (xs k)]) (fun _ => True) := by
  intro yf y1 y2 h N I X hN hev hok hy
  refine callV_fn (call98 ?_)
  exact ⟨h.size, hN, Nat.le_refl _, Nat.le_refl _, .inl hok.self⟩

theorem first_call {K : Value → Heap → Prop} {h : Heap} {g : Value} {n : Nat} {xs : Nat → Int} {x : Int} (H : SeqAt g n xs h) (hx : x ≤ 9223372036854775807) (k : ∀ g' h', SeqAt g' (min n x.toNat) xs h' → Old h.size h h' → K g' h') :
    CallH Try.prog 96 #[g, iv x] h K := by
  obtain ⟨f, fst, cap, Ev, rfl, hs, he, hst⟩ := H
  refine call96 ?_
  unfold F96
  obtain ⟨ho, h1, h2⟩ := push2 (h := h) (.cells #[.func (.func f) fst cap] 133) (.cells #[iv x] 3)
  simp only [oneC_func]
  rw [Array.size_push]
  refine ⟨fun vs h' => vs = [.bool (decide (x < 1))] ∧ h' = (h.push (.cells #[.func (.func f) fst cap] 133)).push (.cells #[iv x] 3), ?_, ?_⟩
  · refine ldH_mk (cellAt_row h1) ?_
    simp only [asFnNil_func, ifB_false]
    refine ldH_mk (cellAt_row h2) ?_
    simp only [asInt_int]
    refine ⟨?_, ?_⟩ <;> first | rfl | trivial
  · rintro v5 g6 h7 ⟨e, rfl⟩
    cases e
    simp only [asBool_bool]
    refine ifB_dec (fun hlt => ?_) (fun hge => ?_)
    · refine k _ _ ⟨_, _, _, _, rfl, ?_, trivial, fun _ _ _ _ => trivial⟩ ho
      rw [show min n x.toNat = 0 by omega]
      exact none_seq xs
    · refine k _ _ ⟨_, _, _, _, rfl, first_seq (m := x.toNat) (show fnV (.func (.func f) fst cap) from trivial) hs hst (by omega) (by omega), ⟨?_, cellAt_row h1, hst _ _ ho he⟩, fun a b o e => ⟨cell_stable _ _ o e.1, cell_stable _ _ o e.2.1, hst _ _ o e.2.2⟩⟩ ho
      rw [cellAt_row h2]; congr 2; omega

end Go.Proofs.Ytlncjcbofgjcfaa
end
section
/- Ranges over functions: states that lie in blocks of one's own. -/
set_option linter.unusedSimpArgs false
set_option linter.unusedVariables false
namespace Go.Proofs.Ytlncjcbofgjcfaa

/-- Blocks of one's own, from M on. -/
def OwnedW (M : Nat) (w : Nat → Prop) (h : Heap) : Prop := ∀ b, w b → M ≤ b ∧ ∃ row t f, h[b]? = some (.cells row t f)
theorem OwnedW.none (M : Nat) (h : Heap) : OwnedW M (fun _ => False) h := fun _ x => x.elim
theorem OwnedW.lt {M : Nat} {w : Nat → Prop} {h : Heap} (H : OwnedW M w h) {b : Nat} (hb : w b) : b < h.size := by
  obtain ⟨_, row, t, f, e⟩ := H b hb
  exact (Array.getElem?_eq_some_iff.1 e).1
/-- A state that depends on blocks below N, and on those of w. -/
def Dep {α : Type} (N : Nat) (S : α → (Nat → Prop) → Heap → Prop) : Prop :=
  ∀ k w h1 h2, h1.size ≤ h2.size → (∀ b, b < N → h2[b]? = h1[b]?) → (∀ b, w b → h2[b]? = h1[b]?) → S k w h1 → S k w h2

theorem owned_keep {M : Nat} {w : Nat → Prop} {ha hb : Heap} (H : OwnedW M w ha) (e : ∀ b, w b → hb[b]? = ha[b]?) : OwnedW M w hb := fun b hw => by
  obtain ⟨h1, row, t, f, h2⟩ := H b hw
  exact ⟨h1, row, t, f, (e b hw).trans h2⟩

theorem rangeOk_own {ε : Type} {N : Nat} {h : Heap} {Ev : Heap → Prop} (S : Nat → (Nat → Prop) → Heap → Prop) (SX : ε → (Nat → Prop) → Heap → Prop)
    (hN : N ≤ h.size) (cS : Dep N S) (cX : Dep N SX) (eS : ∀ k w h', S k w h' → Ev h') (s0 : S 0 (fun _ => False) h) :
    RangeOk N h Ev (fun M k h' => N ≤ h'.size ∧ ∃ w, OwnedW M w h' ∧ S k w h') (fun M e h' => N ≤ h'.size ∧ ∃ w, OwnedW M w h' ∧ SX e w h') := by
  have key : ∀ {α : Type} (T : α → (Nat → Prop) → Heap → Prop) (cT : Dep N T) (M : Nat) (k : α) (ha hb : Heap), (N ≤ ha.size ∧ ∃ w, OwnedW M w ha ∧ T k w ha) → Keep N M ha hb → (N ≤ hb.size ∧ ∃ w, OwnedW M w hb ∧ T k w hb) := by
    rintro α T cT M k ha hb ⟨hs, w, ho, ht⟩ hk
    have e : ∀ b, w b → hb[b]? = ha[b]? := fun b hw => hk.2 b (ho.lt hw) (.inr (ho b hw).1)
    exact ⟨Nat.le_trans hs hk.1, w, owned_keep ho e, cT k w ha hb hk.1 (fun b hb => hk.2 b (by omega) (.inl hb)) e ht⟩
  have key2 : ∀ {α : Type} (T : α → (Nat → Prop) → Heap → Prop) (cT : Dep N T) (M : Nat) (k : α) (ha hb : Heap), SameD N ha hb → (N ≤ ha.size ∧ ∃ w, OwnedW M w ha ∧ T k w ha) → (N ≤ hb.size ∧ ∃ w, OwnedW M w hb ∧ T k w hb) := by
    rintro α T cT M k ha hb hd ⟨hs, w, ho, ht⟩
    have e : ∀ b, w b → hb[b]? = ha[b]? := fun b hw => by
      obtain ⟨_, row, t, f, h2⟩ := ho b hw
      exact hd.cells h2
    exact ⟨by rw [hd.1]; exact hs, w, owned_keep ho e, cT k w ha hb (by rw [hd.1]; exact Nat.le_refl _) (fun b hb => hd.2 b (.inl hb)) e ht⟩
  exact { env := fun M k h' _ _ hI => by obtain ⟨_, w, _, ht⟩ := hI; exact eS _ _ _ ht, keepI := fun M k ha hb _ _ hI hk => key S cS M k ha hb hI hk, keepX := fun M e ha hb _ _ hX hk => key SX cX M e ha hb hX hk,
          dI := fun M k ha hb hd hI => key2 S cS M k ha hb hd hI, dX := fun M e ha hb hd hX => key2 SX cX M e ha hb hd hX,
          start := fun h1 hs hsame => ⟨Nat.le_trans hN hs, fun _ => False, OwnedW.none _ _, cS 0 _ h h1 hs hsame (fun _ x => x.elim) s0⟩ }

/-- A loop over a sequence, its state in blocks of one's own. -/
theorem rangeH_own {P : Program} {g : Value} {np : Nat} {h : Heap} {B : (Exit → Heap → Prop) → Array Value → Heap → Prop} {D : Heap → Prop} {Es : List (Exit × (Heap → Prop))}
    {n : Nat} {xs : Nat → Array Value} {Ev : Heap → Prop} (S : Nat → (Nat → Prop) → Heap → Prop) (SX : Exit → (Nat → Prop) → Heap → Prop)
    (hg : fnV g) (hseq : SeqH P g n xs Ev) (hnp : ∀ k, k < n → (xs k).size = np) (cS : Dep h.size S) (cX : Dep h.size SX) (eS : ∀ k w h', S k w h' → Ev h') (s0 : S 0 (fun _ => False) h)
    (hb : ∀ M k w h', k < n → h.size + 2 ≤ M → M ≤ h'.size → OwnedW M w h' → S k w h' →
      B (fun e h'' => KeepMid h.size M h' h'' ∧ (match e with | .normal => h.size ≤ h''.size ∧ ∃ w, OwnedW M w h'' ∧ S (k + 1) w h'' | e => inE e Es ∧ h.size ≤ h''.size ∧ ∃ w, OwnedW M w h'' ∧ SX e w h'')) (xs k) h')
    (hd : ∀ M w h', h.size + 2 ≤ M → M ≤ h'.size → OwnedW M w h' → S n w h' → D h')
    (he : allE (fun e F => ∀ M w h', h.size + 2 ≤ M → M ≤ h'.size → OwnedW M w h' → SX e w h' → F h') Es) : rangeH P g np h B D Es := by
  refine ⟨n, xs, Ev, fun M k h' => h.size ≤ h'.size ∧ ∃ w, OwnedW M w h' ∧ S k w h', fun M e h' => h.size ≤ h'.size ∧ ∃ w, OwnedW M w h' ∧ SX e w h', hg, hseq, hnp, eS _ _ _ s0, rangeOk_own S SX (Nat.le_refl _) cS cX eS s0, ?_, ?_, ?_⟩
  · rintro M k h' hk hM hs ⟨_, w, ho, ht⟩
    exact hb M k w h' hk hM hs ho ht
  · rintro M h' hM hs ⟨_, w, ho, ht⟩
    exact hd M w h' hM hs ho ht
  · clear hb
    generalize Es = L at he
    induction L with
    | nil => trivial
    | cons p ps ih => exact ⟨fun M h' hM hs hx => by obtain ⟨_, w, ho, ht⟩ := hx; exact he.1 M w h' hM hs ho ht, ih he.2⟩

/-- The same, for a sequence made of a sequence: the state between two rounds is that of the outer one, and what lies in the blocks that were laid ahead of the loop. -/
theorem rangeH_outer {P : Program} {g : Value} {np : Nat} {h0 h : Heap} {B : (Exit → Heap → Prop) → Array Value → Heap → Prop} {D : Heap → Prop} {Es : List (Exit × (Heap → Prop))}
    {n : Nat} {xs : Nat → Array Value} {Ev Ev' : Heap → Prop} {N : Nat} {I : Nat → Nat → Heap → Prop} {X : Nat → Unit → Heap → Prop} (S : Nat → Heap → Prop) (c : Nat → Nat) (n' : Nat) (q : Prop)
    (hg : fnV g) (hseq : SeqH P g n xs Ev) (hnp : ∀ k, k < n → (xs k).size = np) (hN : N ≤ h0.size) (ho : Old h0.size h0 h) (hok : RangeOk N h0 Ev' I X) (hev : ∀ h', Ev' h' → Ev h') (hev0 : Ev h) (c0 : c 0 = 0) (cn : c n = n')
    (cS : ∀ k h1 h2, (∀ b, h0.size ≤ b → b < h.size → h2[b]? = h1[b]?) → S k h1 → S k h2) (s0 : S 0 h)
    (hb : ∀ M k h', k < n → h.size + 2 ≤ M → M ≤ h'.size → S k h' → I M (c k) h' →
      B (fun e h'' => KeepMid h.size M h' h'' ∧ (match e with | .normal => h.size ≤ h''.size ∧ S (k + 1) h'' ∧ I M (c (k + 1)) h'' | e => inE e Es ∧ (X M () h'' ∨ (q ∧ I M n' h'')))) (xs k) h')
    (hd : ∀ M h', h.size + 2 ≤ M → M ≤ h'.size → I M n' h' → D h')
    (he : allE (fun e F => ∀ M h', h.size + 2 ≤ M → M ≤ h'.size → (X M () h' ∨ (q ∧ I M n' h')) → F h') Es) : rangeH P g np h B D Es := by
  have hs0 := ho.1
  refine ⟨n, xs, Ev, fun M k h' => h.size ≤ h'.size ∧ S k h' ∧ I M (c k) h', fun M e h' => X M () h' ∨ (q ∧ I M n' h'), hg, hseq, hnp, hev0, ?_, ?_, ?_, ?_⟩
  · have hk' : ∀ {M : Nat} {ha hb : Heap}, Keep h.size M ha hb → Keep N M ha hb := fun hk => ⟨hk.1, fun b h1 h2 => hk.2 b h1 (by omega)⟩
    refine { env := fun M k h' hM hs hI => hev _ (hok.env M _ h' (by omega) hs hI.2.2), keepI := fun M k ha hb hM hs hI hk => ⟨Nat.le_trans hI.1 hk.1, cS k ha hb (fun b h1 h2 => hk.2 b (by have := hI.1; omega) (.inl h2)) hI.2.1, hok.keepI M _ ha hb (by omega) hs hI.2.2 (hk' hk)⟩,
             keepX := fun M e ha hb hM hs hX hk => hX.imp (fun x => hok.keepX M _ ha hb (by omega) hs x (hk' hk)) (fun x => ⟨x.1, hok.keepI M _ ha hb (by omega) hs x.2 (hk' hk)⟩),
             dI := fun M k ha hb hd hI => ⟨by rw [hd.1]; exact hI.1, cS k ha hb (fun b h1 h2 => hd.2 b (.inl h2)) hI.2.1, hok.dI M _ ha hb (hd.mono (by omega)) hI.2.2⟩,
             dX := fun M e ha hb hd hX => hX.imp (hok.dX M _ ha hb (hd.mono (by omega))) (fun x => ⟨x.1, hok.dI M _ ha hb (hd.mono (by omega)) x.2⟩), start := fun ha hs hsame => ?_ }
    refine ⟨hs, cS 0 h ha (fun b h1 h2 => hsame b h2) s0, ?_⟩
    rw [c0]
    exact hok.start ha (by omega) (fun b hb => (hsame b (by omega)).trans (ho.2 b (by omega)))
  · rintro M k h' hk hM hs ⟨hsz, h1, h2⟩
    exact hb M k h' hk hM hs h1 h2
  · rintro M h' hM hs ⟨_, h1, h2⟩
    rw [cn] at h2
    exact hd M h' hM hs h2
  · exact he
end Go.Proofs.Ytlncjcbofgjcfaa
end
section
/- append to nothing; rows that are read alone. -/
set_option linter.unusedSimpArgs false
set_option linter.unusedVariables false
namespace Go.Proofs.Ytlncjcbofgjcfaa

/-- append to a slice that has no room. -/
theorem appH_nil {P : Program} {t elem : TypeId} {z : Value} {h : Heap} {a a2 : Option Addr} {n n2 : Nat} {ys : List Value} {K : Value → Heap → Prop}
    (hu : und P t = .slice elem) (hth : there P elem = true) (hz : zer P elem = some z) (hzs : z.cells.size = siz P elem)
    (hs : Sees h a2 ys) (hn : ys.length = n * siz P elem) (hone : ∀ y ∈ ys, oneC y True) (hb0 : 0 < byt P elem) (hb : (2 * n + 512) * byt P elem ≤ 2 ^ 48)
    (H0 : n = 0 → K (.slice a 0 0) h)
    (H : ∀ cap h', Own h' elem (siz P elem) (some ⟨h.size, 0, none⟩) n cap ys → h'.size = h.size + 1 → Old h.size h h' → K (.slice (some ⟨h.size, 0, none⟩) n cap) h') :
    appH P #[t, t] t #[.slice a 0 0, .slice a2 n n2] h K := by
  have hu' := und_some hu (by simp)
  obtain ⟨info, hinfo⟩ := there_some hth
  have hbyt : info.bytes = byt P elem := by unfold byt; rw [hinfo]
  have first : ∀ (F : Array Value → Heap → Prop), F ys.toArray h → hp P (Builtin.firstCells (siz P elem) n (.slice a2 n n2)) F h := by
    intro F k
    cases a2 with
    | none =>
      have : ys = [] := by
        cases ys with
        | nil => rfl
        | cons y ys => obtain ⟨ad, e, _⟩ := hs 0 y rfl; cases e
      subst this; exact k
    | some ad =>
      show hp P (loadCells ad (n * siz P elem)) F h
      refine hp_loadCellsFrom ad _ 0 [] F ?_
      rw [← hn]
      refine ldN_sees ys 0 [] _ (fun j v hj => ?_) (by simpa using k)
      obtain ⟨ad', e, hc⟩ := hs j v hj
      cases e; rwa [Nat.zero_add]
  unfold appH Builtin.append_
  simp only [List.getElem?_toArray, List.getElem?_cons_zero, List.getElem?_cons_succ, hp_bind, hp_pure, hp_underlying hu', hp_sizeOf hth, Bool.false_eq_true, if_false]
  show hp P (Builtin.lenOf _) _ h
  simp only [Builtin.lenOf, hp_pure]
  rw [hp_ite]
  split
  · rename_i hcap
    have e2 : n = 0 := by omega
    subst e2
    have : ys = [] := by simpa using hn
    subst this
    simp only [hp_bind]
    show hp P (if (!false) = true then _ else _) _ h
    refine first _ ?_
    cases a with
    | none =>
      simp only [hp_bind, hp_pure]
      exact H0 rfl
    | some ad =>
      simp only [hp_bind]
      refine hp_storeCells _ _ h 0 _ ?_
      exact H0 rfl
  · rename_i hcap
    simp only [hp_bind, hp_pure]
    have hbound : ¬ Builtin.nextslicecap (0 + n) 0 * info.bytes > 2 ^ 48 := by
      rw [hbyt]
      have := Nat.le_trans (Nat.mul_le_mul_right (byt P elem) (nextcap_le (0 + n) 0 (by omega))) (by simpa using hb)
      omega
    simp only [hp_bind, hp_pure, hp_typeInfo hinfo, hp_ite]
    rw [if_neg (by rw [hbyt]; intro x; rcases x.2 with y | y <;> first | exact y | omega), if_neg hbound]
    show ∀ tp, _
    intro tp
    rw [if_neg (by simp [Question.forced])]
    obtain ⟨cap, hcp⟩ : ∃ cap, cap = (Question.appendCap (0 + n) 0 elem).cut tp := ⟨_, rfl⟩
    have hcap2 : 0 + n ≤ cap := by rw [hcp]; simp [Question.cut]
    rw [← hcp]
    rw [show (Sem.pure cap : Sem Nat) = pure cap from rfl]
    simp only [hp_bind, hp_pure, hp_typeInfo hinfo, hp_askRoom]
    have old : ∀ (F : Array Value → Heap → Prop), F #[] h → hp P (Builtin.firstCells (siz P elem) 0 (.slice a 0 0)) F h := by
      intro F k
      cases a with
      | none => exact k
      | some ad =>
        show hp P (loadCells ad (0 * siz P elem)) F h
        rw [Nat.zero_mul]
        exact k
    refine old _ ?_
    rw [hp_bind, if_pos (show (!false) = true from rfl)]
    refine first _ ?_
    simp only [hp_bind]
    simp only [hp_zeroValue hz]
    show K (.slice (some ⟨h.size, 0, none⟩) (0 + n) cap) (h.push _)
    have hzc : (Builtin.zeroCells z.cells (cap - (0 + n))).size = (cap - (0 + n)) * siz P elem := by rw [zeroCells_size, hzs]
    rw [Nat.zero_add] at hcap2 hzc ⊢
    refine H cap _ ⟨by simp [hn], hcap2, .inr ⟨h.size, _, rfl, push_new _ _, ?_, ?_⟩⟩ (by simp) ((Old.refl _ _).push _ (Nat.le_refl _))
    · simp only [Array.size_append, hzc, List.size_toArray, hn, ← Nat.add_mul, List.length_nil, Nat.zero_add]
      congr 1; omega
    · simp only [Array.toList_append, List.toList_toArray, List.nil_append, Array.toList_empty]
      rw [List.take_left' (by simp [hn])]
end Go.Proofs.Ytlncjcbofgjcfaa
end
section
/- The formulas of functions, printed by a program of mine. -/
set_option linter.unusedVariables false
namespace Go.Proofs.Ytlncjcbofgjcfaa














end Go.Proofs.Ytlncjcbofgjcfaa
end
