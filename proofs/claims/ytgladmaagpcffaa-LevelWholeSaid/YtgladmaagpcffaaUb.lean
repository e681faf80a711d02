/- Rows of numbers: rising, a number's place, how many are below one. -/
import Derived.Test.YtgladmaagpcffaaUa
set_option linter.unusedSimpArgs false
set_option linter.unusedVariables false
set_option maxRecDepth 20000
namespace Go.Proofs.Ytgladmaagpcffaa

def RisingP (xs : List Int) : Prop := ∀ i (h : i + 1 < xs.length), xs[i] < xs[i + 1]
theorem nat_wrapm {i : Nat} (h0 : 0 < i) (h : i < 2 ^ 62) : IntKind.i64.wrap ((i : Int) - 1) = ((i - 1 : Nat) : Int) := by
  rw [wrap64_id' (by omega) (by omega)]; omega

theorem rising23_call {K : Value → Heap → Prop} {h : Heap} {a : Option Addr} {l c : Nat} {xs : List Int} (H : RU h a l c xs) (hl : l < 2 ^ 60) (k1 : RisingP xs → K (.bool true) h) (k0 : ¬ RisingP xs → K (.bool false) h) :
    CallH Try.prog 76 #[.slice a l c] h K := by
  refine call76 ?_
  unfold F76
  have hlen := H.len
  refine ⟨fun vs h' => ∃ i : Nat, vs = [.bool false, iv i] ∧ h' = h ∧ 1 ≤ i ∧ ∀ j (hj : j + 1 < xs.length), j + 1 < i → xs[j] < xs[j + 1], fun vs _ => (match vs with | [_, .int _ n] => l - n.toNat | _ => 0), ⟨1, rfl, rfl, Nat.le_refl _, fun j _ h => by omega⟩, ?_⟩
  rintro v2 v3 g h5 ⟨i, e, rfl, hi, hall⟩
  cases e
  simp only [asInt_int]
  refine ifB_dec (fun hlt => ?_) (fun hge => ?_)
  · obtain ⟨j, rfl⟩ : ∃ j, i = j + 1 := ⟨i - 1, by omega⟩
    have hj : j + 1 < xs.length := by omega
    obtain ⟨ad, rfl, c1⟩ := H.at hj
    obtain ⟨ad', e, c0⟩ := H.at (i := j) (by omega)
    cases e
    refine ⟨by omega, hlt, ?_⟩
    simp only [asPtr_some, Int.toNat_natCast, Nat.mul_one]
    refine ldH_mk c1 ?_
    simp only [asInt_int]
    rw [nat_wrapm (by omega) (by omega)]
    refine ⟨by omega, by omega, ?_⟩
    simp only [Int.toNat_natCast, Nat.add_sub_cancel]
    refine ldH_mk c0 ?_
    simp only [asInt_int]
    refine ifB_dec (fun hq => ?_) (fun hq => ?_)
    · exact k0 fun r => by have := r j hj; omega
    · rw [nat_wrap1 (by omega)]
      refine ⟨⟨j + 1 + 1, rfl, by trivial, by omega, fun j' hj' h' => ?_⟩, ?_⟩
      · by_cases e : j' + 1 < j + 1
        · exact hall j' hj' e
        · obtain rfl : j' = j := by omega
          omega
      · show l - ((j + 1 + 1 : Nat) : Int).toNat < l - ((j + 1 : Nat) : Int).toNat
        omega
  · exact k1 fun j hj => hall j hj (by omega)

theorem rising_call {K : Value → Heap → Prop} {h : Heap} {a : Option Addr} {l c : Nat} {xs : List Int} (H : RU h a l c xs) (hl : l < 2 ^ 60) (k1 : RisingP xs → K (.bool true) h) (k0 : ¬ RisingP xs → K (.bool false) h) :
    CallH Try.prog 75 #[.slice a l c] h K := by
  refine call75 ?_
  unfold F75
  have hlen := H.len
  refine ⟨fun vs h' => ∃ v1 v2, ∃ i : Nat, vs = [.bool false, v1, v2, iv i] ∧ h' = h ∧ ∀ j (hj : j + 1 < xs.length), j + 1 < i → xs[j] < xs[j + 1], fun vs _ => (match vs with | [_, _, _, .int _ n] => l - n.toNat | _ => 0), ⟨_, _, 0, rfl, rfl, fun j _ h => by omega⟩, ?_⟩
  rintro v2 v3 v4 v5 g h7 ⟨w1, w2, i, e, rfl, hall⟩
  cases e
  simp only [asInt_int, asI_int]
  refine ifB_dec (fun hlt => ?_) (fun hge => ?_)
  · have hi : i < xs.length := by omega
    obtain ⟨ad, rfl, c1⟩ := H.at hi
    refine ⟨by omega, hlt, ?_⟩
    simp only [asPtr_some, Int.toNat_natCast, Nat.mul_one]
    refine ldH_mk c1 ?_
    simp only [asInt_int]
    refine ⟨fun vs h' => ∃ b, vs = [.bool b] ∧ h' = h7 ∧ (b = true → ¬ RisingP xs) ∧ (b = false → ∀ j (hj : j + 1 < xs.length), j + 1 = i → xs[j] < xs[j + 1]), ?_, ?_⟩
    · refine ifB_dec (fun h0 => ?_) (fun h0 => ⟨false, rfl, by trivial, fun e => (by cases e), fun _ j _ h => by omega⟩)
      obtain ⟨j, rfl⟩ : ∃ j, i = j + 1 := ⟨i - 1, by omega⟩
      obtain ⟨ad', e, c0⟩ := H.at (i := j) (by omega)
      cases e
      rw [nat_wrapm (by omega) (by omega)]
      refine ⟨by omega, by omega, ?_⟩
      simp only [Int.toNat_natCast, Nat.add_sub_cancel]
      refine ldH_mk c0 ?_
      simp only [asInt_int]
      refine ⟨_, rfl, by trivial, fun e r => ?_, fun e j' hj' h' => ?_⟩
      · have := of_decide_eq_true e; have := r j hi; omega
      · obtain rfl : j' = j := by omega
        have := of_decide_eq_false e; omega
    · rintro v18 g19 h20 ⟨b, e, rfl, hb1, hb0⟩
      cases e
      simp only [asBool_bool]
      refine ifB_mk (fun hb => k0 (hb1 hb)) (fun hb => ?_)
      rw [nat_wrap1 (by omega)]
      refine ⟨⟨_, _, i + 1, rfl, by trivial, fun j hj h' => ?_⟩, ?_⟩
      · by_cases e : j + 1 < i
        · exact hall j hj e
        · exact hb0 hb j hj (by omega)
      · show l - ((i + 1 : Nat) : Int).toNat < l - (i : Int).toNat
        omega
  · exact k1 fun j hj => hall j hj (by omega)

/-- The first place of a number; -1: there is none. -/
def pl (xs : List Int) (n : Int) : Int := match xs.findIdx? (fun x => x == n) with | some i => (i : Int) | none => -1
theorem pl_some {xs : List Int} {n : Int} {i : Nat} (hi : i < xs.length) (e : xs[i] = n) (hn : ∀ j (hj : j < xs.length), j < i → xs[j] ≠ n) : pl xs n = i := by
  unfold pl
  rw [List.findIdx?_eq_some_iff_getElem.2 ⟨hi, by simpa using e, fun j hj => by simpa using hn j (by omega) hj⟩]
theorem pl_none {xs : List Int} {n : Int} (h : n ∉ xs) : pl xs n = -1 := by
  unfold pl
  rw [List.findIdx?_eq_none_iff.2 fun x hx => by
    have : x ≠ n := fun e => h (e ▸ hx)
    simpa using this]
theorem pl_pos {xs : List Int} {n : Int} : 0 ≤ pl xs n ↔ n ∈ xs := by
  constructor
  · intro h
    apply Decidable.byContradiction
    intro hn
    rw [pl_none hn] at h; omega
  · intro h
    unfold pl
    split
    · omega
    · rename_i e
      have := List.findIdx?_eq_none_iff.1 e n h
      simp at this
theorem pl_lt {xs : List Int} {n : Int} : pl xs n < xs.length := by
  unfold pl
  split
  · rename_i i e
    obtain ⟨h, _⟩ := List.findIdx?_eq_some_iff_getElem.1 e
    omega
  · omega
theorem pl_ge {xs : List Int} {n : Int} : -1 ≤ pl xs n := by unfold pl; split <;> omega

theorem place_call {K : Value → Heap → Prop} {h : Heap} {a : Option Addr} {l c : Nat} {xs : List Int} {n : Int} (H : RU h a l c xs) (hl : l < 2 ^ 60) (k : K (iv (pl xs n)) h) : CallH Try.prog 77 #[.slice a l c, uv n] h K := by
  refine call77 ?_
  unfold F77
  have hlen := H.len
  refine ⟨fun vs h' => ∃ i : Nat, vs = [iv 0, iv i] ∧ h' = h ∧ ∀ j (hj : j < xs.length), j < i → xs[j] ≠ n, fun vs _ => (match vs with | [_, .int _ n] => l - n.toNat | _ => 0), ⟨0, rfl, rfl, fun j _ h => by omega⟩, ?_⟩
  rintro v2 v3 g h5 ⟨i, e, rfl, hall⟩
  cases e
  simp only [asInt_int]
  refine ifB_dec (fun hlt => ?_) (fun hge => ?_)
  · have hi : i < xs.length := by omega
    obtain ⟨ad, rfl, c1⟩ := H.at hi
    refine ⟨by omega, hlt, ?_⟩
    simp only [asPtr_some, Int.toNat_natCast, Nat.mul_one]
    refine ldH_mk c1 ?_
    simp only [asInt_int]
    refine ifB_mk (fun hq => ?_) (fun hq => ?_)
    · rw [pl_some hi (by simpa using hq) hall] at k
      exact k
    · rw [nat_wrap1 (by omega)]
      refine ⟨⟨i + 1, rfl, by trivial, fun j hj h' => ?_⟩, ?_⟩
      · by_cases e : j < i
        · exact hall j hj e
        · obtain rfl : j = i := by omega
          simpa using hq
      · show l - ((i + 1 : Nat) : Int).toNat < l - (i : Int).toNat
        omega
  · have : n ∉ xs := fun hm => by
      obtain ⟨j, hj, e⟩ := List.getElem_of_mem hm
      exact hall j hj (by omega) e
    rw [pl_none this] at k
    exact k
theorem index_call {K : Value → Heap → Prop} {h : Heap} {a : Option Addr} {l c : Nat} {xs : List Int} {n : Int} (H : RU h a l c xs) (hl : l < 2 ^ 60) (k : K (iv (pl xs n)) h) : CallH Try.prog 121 #[.slice a l c, uv n] h K := by
  refine call121 ?_
  unfold F121
  have hlen := H.len
  refine ⟨fun vs h' => ∃ v, ∃ i : Nat, vs = [iv 0, v, iv i] ∧ h' = h ∧ ∀ j (hj : j < xs.length), j < i → xs[j] ≠ n, fun vs _ => (match vs with | [_, _, .int _ n] => l - n.toNat | _ => 0), ⟨_, 0, rfl, rfl, fun j _ h => by omega⟩, ?_⟩
  rintro v2 v3 v4 g h5 ⟨w, i, e, rfl, hall⟩
  cases e
  simp only [asInt_int]
  refine ifB_dec (fun hlt => ?_) (fun hge => ?_)
  · have hi : i < xs.length := by omega
    obtain ⟨ad, rfl, c1⟩ := H.at hi
    refine ⟨by omega, hlt, ?_⟩
    simp only [asPtr_some, Int.toNat_natCast, Nat.mul_one]
    refine ldH_mk c1 ?_
    simp only [asInt_int]
    refine ifB_mk (fun hq => ?_) (fun hq => ?_)
    · rw [pl_some hi (by have : n = xs[i] := by simpa using hq
                         exact this.symm) hall] at k
      exact k
    · rw [nat_wrap1 (by omega)]
      refine ⟨⟨_, i + 1, rfl, by trivial, fun j hj h' => ?_⟩, ?_⟩
      · by_cases e : j < i
        · exact hall j hj e
        · obtain rfl : j = i := by omega
          have : n ≠ xs[j] := by simpa using hq
          exact fun e => this e.symm
      · show l - ((i + 1 : Nat) : Int).toNat < l - (i : Int).toNat
        omega
  · have : n ∉ xs := fun hm => by
      obtain ⟨j, hj, e⟩ := List.getElem_of_mem hm
      exact hall j hj (by omega) e
    rw [pl_none this] at k
    exact k
theorem contains_call {K : Value → Heap → Prop} {h : Heap} {a : Option Addr} {l c : Nat} {xs : List Int} {n : Int} (H : RU h a l c xs) (hl : l < 2 ^ 60) (k : K (.bool (decide (n ∈ xs))) h) : CallH Try.prog 119 #[.slice a l c, uv n] h K := by
  refine call119 ?_
  unfold F119
  refine callV_fn (index_call H hl ?_)
  simp only [asInt_int]
  rwa [show decide (pl xs n ≥ 0) = decide (n ∈ xs) from decide_eq_decide.2 pl_pos]

theorem KeepU.call {f : Value} {D : Int → Prop} {p : Int → Bool} {h : Heap} (H : KeepU f D p h) {x : Int} (hD : D x) {K : Value → Heap → Prop} (k : ∀ h', Old h.size h h' → K (.bool (p x)) h') : callV Try.prog f #[.int .u64 x] h K := by
  obtain ⟨_, Ev, h1, _, h3⟩ := H
  exact h3 _ _ _ h1 hD k
theorem indexFunc_call {K : Value → Heap → Prop} {h : Heap} {a : Option Addr} {l c : Nat} {xs : List Int} {f : Value} {p : Int → Bool} (H : RU h a l c xs) (hl : l < 2 ^ 60) (Hf : KeepU f (fun _ => True) p h)
    (k1 : ∀ (i : Nat) (hi : i < xs.length) h', p xs[i] = true → (∀ j (hj : j < xs.length), j < i → p xs[j] = false) → Old h.size h h' → K (iv i) h') (k0 : ∀ h', (∀ j (hj : j < xs.length), p xs[j] = false) → Old h.size h h' → K (iv (-1)) h') :
    CallH Try.prog 139 #[.slice a l c, f] h K := by
  refine call139 ?_
  unfold F139
  have hlen := H.len
  refine ⟨fun vs h' => ∃ v, ∃ i : Nat, vs = [iv 0, v, iv i] ∧ Old h.size h h' ∧ ∀ j (hj : j < xs.length), j < i → p xs[j] = false, fun vs _ => (match vs with | [_, _, .int _ n] => l - n.toNat | _ => 0), ⟨_, 0, rfl, Old.refl _ _, fun j _ h => by omega⟩, ?_⟩
  rintro v2 v3 v4 g h6 ⟨w, i, e, o6, hall⟩
  cases e
  simp only [asInt_int]
  refine ifB_dec (fun hlt => ?_) (fun hge => ?_)
  · have hi : i < xs.length := by omega
    obtain ⟨ad, rfl, c1⟩ := (H.old o6).at hi
    refine ⟨by omega, hlt, ?_⟩
    simp only [asPtr_some, Int.toNat_natCast, Nat.mul_one]
    refine ldH_mk c1 ?_
    simp only [asInt_int]
    refine (Hf.old o6).call trivial fun h13 o13 => ?_
    have p13 := o6.trans (o13.mono o6.1)
    simp only [asBool_bool]
    refine ifB_mk (fun hq => k1 i hi _ hq hall p13) (fun hq => ?_)
    rw [nat_wrap1 (by omega)]
    refine ⟨⟨_, i + 1, rfl, p13, fun j hj h' => ?_⟩, ?_⟩
    · by_cases e : j < i
      · exact hall j hj e
      · obtain rfl : j = i := by omega
        exact hq
    · show l - ((i + 1 : Nat) : Int).toNat < l - (i : Int).toNat
      omega
  · exact k0 _ (fun j hj => hall j hj (by omega)) o6

def belowF (xs : List Int) (n : Int) : Nat := (xs.takeWhile fun x => decide (x < n)).length
theorem below_eq {n : Int} : ∀ {xs : List Int} {i : Nat}, i ≤ xs.length → (∀ j (hj : j < xs.length), j < i → xs[j] < n) → (∀ hi : i < xs.length, ¬ xs[i] < n) → belowF xs n = i := by
  intro xs
  induction xs with
  | nil => intro i hi _ _; simp at hi; subst hi; rfl
  | cons x xs ih =>
    intro i hi h1 h2
    unfold belowF
    cases i with
    | zero =>
      have := h2 (by simp)
      simp only [List.getElem_cons_zero] at this
      rw [List.takeWhile_cons_of_neg (by simpa using this)]; rfl
    | succ i =>
      have h0 := h1 0 (by simp) (by omega)
      simp only [List.getElem_cons_zero] at h0
      rw [List.takeWhile_cons_of_pos (by simpa using h0), List.length_cons]
      congr 1
      refine ih (by simpa using hi) (fun j hj hji => ?_) (fun hi' => ?_)
      · have := h1 (j + 1) (by simpa using hj) (by omega)
        simpa using this
      · have := h2 (by simpa using hi')
        simpa using this
theorem below_le (xs : List Int) (n : Int) : belowF xs n ≤ xs.length := by
  unfold belowF
  exact (List.takeWhile_prefix _).length_le

theorem below_call {K : Value → Heap → Prop} {h : Heap} {a : Option Addr} {l c : Nat} {xs : List Int} {n : Int} (H : RU h a l c xs) (hl : l < 2 ^ 60) (k : ∀ h', Old h.size h h' → K (iv ((belowF xs n : Nat) : Int)) h') : CallH Try.prog 115 #[.slice a l c, uv n] h K := by
  refine call115 ?_
  unfold F115
  have hlen := H.len
  have p1 := pushed h #[.int .u64 n] 76
  generalize h.push (.cells #[.int .u64 n] 76) = h1 at *
  have o1 := p1.toOld
  have Hf : KeepU (.func (.func 140) #[] #[.pointer (some ⟨h.size, 0, none⟩)]) (fun _ => True) (fun x => decide (x ≥ n)) h1 := by
    refine ⟨⟨_, _, _, rfl⟩, fun h' => cellAt h' ⟨h.size, 0, none⟩ = some (uv n), cellAt_row p1.new, fun h h' o e => cell_stable _ _ o e, ?_⟩
    intro h x K e _ k
    refine callV_cl ?_
    rw [cl2]
    refine call140 ?_
    unfold F140
    simp only [asPtr_some]
    refine ldH_mk e ?_
    simp only [asInt_int]
    exact k _ (Old.refl _ _)
  refine callV_fn (indexFunc_call (H.old o1) hl Hf (fun i hi h' hp hn o => ?_) (fun h' hn o => ?_))
  · have := k h' (o1.trans (o.mono o1.1))
    rw [below_eq (i := i) (by omega) (fun j hj hji => by have := of_decide_eq_false (hn j hj hji); omega) (fun _ => by have := of_decide_eq_true hp; omega)] at this
    simp only [asInt_int]
    refine ifB_dec (fun hq => by omega) (fun hq => this)
  · have := k h' (o1.trans (o.mono o1.1))
    rw [below_eq (i := xs.length) (Nat.le_refl _) (fun j hj _ => by have := of_decide_eq_false (hn j hj); omega) (fun h => by omega), hlen] at this
    simp only [asInt_int]
    refine ifB_dec (fun hq => this) (fun hq => by omega)
end Go.Proofs.Ytgladmaagpcffaa
