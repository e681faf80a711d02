/- The contracts of what makes lists least. -/
import Derived.Test.YtgladmaagpcffaaTa
set_option linter.unusedSimpArgs false
set_option linter.unusedVariables false
set_option maxRecDepth 20000
namespace Go.Proofs.Ytgladmaagpcffaa

theorem asTup_tuple (cs : Array Value) (F : Array Value → Prop) : asTup (.tuple cs) F = F cs := rfl
theorem elem20 (a b : Value) (F : Value → Prop) : elemH #[a, b] 0 F = F a := rfl
theorem elem21 (a b : Value) (F : Value → Prop) : elemH #[a, b] 1 F = F b := rfl
theorem kind_int : intKindOf Try.prog 3 = some .i64 := by kernel_rfl
theorem minmax_int (f : Int → Int → Int) (a b : Int) (F : Int → Prop) : minmax f Try.prog 3 [.int .i64 a, .int .i64 b] F = F (f a b) := by
  unfold minmax
  simp only [kind_int, asInt_int]
  unfold minmax.go
  simp only [asInt_int]
  rfl

theorem without_call {K : Value → Heap → Prop} {h : Heap} {a : Option Addr} {l c : Nat} {xs : List Int} {f n : Nat} (H : RI h a l c xs) (hl : l ≤ 2 ^ 30) (hf : f ≤ l) (hn : n ≤ 2 ^ 30)
    (k : ∀ a' l' c' h', RI h' a' l' c' (cutL xs f n) → Old h.size h h' → K (.slice a' l' c') h') : CallH Try.prog 122 #[.slice a l c, iv f, iv n] h K := by
  refine call122 ?_
  unfold F122
  have hcap := H.cap
  have hlen := H.len
  have e1 : min2I (l : Int) (IntKind.wrap .i64 ((f : Int) + (n : Int))) = ((min l (f + n) : Nat) : Int) := by
    rw [wrap64_id' (by omega) (by omega)]
    unfold min2I
    split <;> omega
  have e2 : cutL xs f n = xs.take f ++ xs.drop (min l (f + n)) := by
    unfold cutL
    congr 1
    by_cases hq : f + n ≤ l
    · rw [Nat.min_eq_right hq]
    · rw [Nat.min_eq_left (by omega), List.drop_eq_nil_of_le (by omega), List.drop_eq_nil_of_le (by omega)]
  have key : callV Try.prog (.func (.func 83) #[] #[]) #[(.slice (subA a 0 c 1) ((f : Int).toNat - 0) (c - 0))] h fun v0 h1 => (asSlice v0 (fun o2 k3 k4 =>
      (appH Try.prog #[23, 23] 23 #[(.slice o2 k3 k4), (.slice (subA a ((min l (f + n) : Nat) : Int).toNat c 1) (l - ((min l (f + n) : Nat) : Int).toNat) (c - ((min l (f + n) : Nat) : Int).toNat))] h1 (fun v8 h9 => (asSlice v8 (fun o10 k11 k12 => (K (.slice o10 k11 k12) h9))))))) := by
    simp only [Int.toNat_natCast, Nat.sub_zero]
    refine callV_fn (clone_int (H.take hf) (by omega) fun a1 c1 h1 hw o1 => ?_)
    simp only [asSlice_slice]
    refine app_New hw o1 ((H.drop (f := min l (f + n)) (by omega)).old o1) (by omega) (by omega) fun a2 c2 h2 hw2 o2 => ?_
    simp only [asSlice_slice]
    rw [← e2] at hw2
    exact k _ _ _ _ hw2.ri o2
  refine ⟨by omega, by omega, ?_, ?_⟩
  · refine callV_mono ?_ key
    intro v h1 hk
    cases v <;> try exact hk.elim
    simp only [asSlice_slice] at hk ⊢
    rw [minmax_int, e1]
    exact ⟨by omega, by omega, hk⟩
  · rw [minmax_int, e1]
    exact ⟨by omega, by omega, key⟩

/-- A pure test of lists. -/
def BadAt (bad : Value) (F : List Int → Bool) (h : Heap) : Prop :=
  (∃ f x y, bad = .func f x y) ∧ ∃ Ev : Heap → Prop, Ev h ∧ (∀ h h', Old h.size h h' → Ev h → Ev h') ∧
    ∀ (h : Heap) (a : Option Addr) (l c : Nat) (xs : List Int) (K : Value → Heap → Prop), Ev h → RI h a l c xs → l ≤ 100 → (∀ h', Old h.size h h' → K (.bool (F xs)) h') → callV Try.prog bad #[.slice a l c] h K
theorem BadAt.old {bad : Value} {F : List Int → Bool} {h h' : Heap} (H : BadAt bad F h) (ho : Old h.size h h') : BadAt bad F h' := by
  obtain ⟨e, Ev, h1, h2, h3⟩ := H
  exact ⟨e, Ev, h2 _ _ ho h1, h2, h3⟩
theorem BadAt.call {bad : Value} {F : List Int → Bool} {h : Heap} (H : BadAt bad F h) {a : Option Addr} {l c : Nat} {xs : List Int} {K : Value → Heap → Prop} (hr : RI h a l c xs) (hl : l ≤ 100) (k : ∀ h', Old h.size h h' → K (.bool (F xs)) h') :
    callV Try.prog bad #[.slice a l c] h K := by
  obtain ⟨_, Ev, h1, _, h3⟩ := H
  exact h3 _ _ _ _ _ _ h1 hr hl k

theorem pass_call {K : Value → Heap → Prop} {h : Heap} {bad : Value} {F : List Int → Bool} {a : Option Addr} {l c : Nat} {xs : List Int} {size : Nat} (hb : BadAt bad F h) (H : RI h a l c xs) (hl : l ≤ 100) (h1 : 1 ≤ size) (h2 : size ≤ 100)
    (k : ∀ a' l' c' ys gone h', RI h' a' l' c' ys → PassOk F xs size ys gone → Old h.size h h' → K (.tuple #[.slice a' l' c', .bool gone]) h') :
    CallH Try.prog 84 #[.slice a l c, iv size, bad] h K := by
  refine call84 ?_
  unfold F84
  refine ⟨fun vs h' => ∃ a1 l1 c1 gone, ∃ (f : Nat), ∃ ys v, vs = [.slice a1 l1 c1, .bool gone, iv f, v] ∧ RI h' a1 l1 c1 ys ∧ PassI F xs size ys gone f ∧ f ≤ 200 ∧ Old h.size h h',
    fun vs _ => (match vs with | [.slice _ l1 _, _, .int _ n, _] => l1 - n.toNat | _ => 0), ⟨a, l, c, false, 0, xs, _, rfl, H, passI_start _ _ _, by omega, Old.refl _ _⟩, ?_⟩
  rintro v2 v3 v4 v5 g h7 ⟨a1, l1, c1, gone, f, ys, v, e, hr, hI, hf, ho⟩
  cases e
  have hlen := hr.len
  have hle : l1 ≤ l := by have := hI.1.length_le; rw [hlen, H.len] at this; exact this
  simp only [asInt_int, asSlice_slice]
  refine ifB_dec (fun hlt => ?_) (fun hge => ?_)
  · have hlt' : f < l1 := by omega
    refine callV_fn (without_call hr (by omega) (by omega) (by omega) fun a' l' c' h17 hr' o' => ?_)
    simp only [asSlice_slice]
    have hl' : l' < l1 := by
      have := cutL_len (l := ys) (f := f) (n := size) (by omega) h1
      rw [hr'.len, hlen] at this; exact this
    refine (hb.old (ho.trans (o'.mono ho.1))).call hr' (by omega) fun h22 o2 => ?_
    have o22 : Old h.size h h22 := (ho.trans (o'.mono ho.1)).trans (o2.mono (Nat.le_trans ho.1 o'.1))
    simp only [asBool_bool]
    refine ifB_mk (fun hq => ?_) (fun hq => ?_)
    · refine ⟨⟨a', l', c', true, f, _, _, rfl, hr'.old o2, passI_yes hI h1 (by omega) hq, by omega, o22⟩, ?_⟩
      show l' - (f : Int).toNat < l1 - (f : Int).toNat
      omega
    · have e3 : IntKind.wrap .i64 ((f : Int) + (size : Int)) = ((f + size : Nat) : Int) := by rw [wrap64_id' (by omega) (by omega)]; omega
      rw [e3]
      refine ⟨⟨a1, l1, c1, gone, f + size, ys, _, rfl, (hr.old o').old o2, passI_no hI h1 (by omega) hq, by omega, o22⟩, ?_⟩
      show l1 - ((f + size : Nat) : Int).toNat < l1 - (f : Int).toNat
      omega
  · simp only [asBool_bool]
    exact k _ _ _ _ _ _ hr (passI_end hI (by omega)) ho

theorem shrink_call {K : Value → Heap → Prop} {h : Heap} {bad : Value} {F : List Int → Bool} {a : Option Addr} {l c : Nat} {xs : List Int} (hb : BadAt bad F h) (H : RI h a l c xs) (hl : l ≤ 100)
    (k : ∀ a' l' c' ys h', RI h' a' l' c' ys → LeastOk F xs ys → Old h.size h h' → K (.slice a' l' c') h') :
    CallH Try.prog 27 #[.slice a l c, bad] h K := by
  refine call27 ?_
  unfold F27
  refine callV_fn (clone_int H (by omega) fun a1 c1 h1 hw o1 => ?_)
  simp only [asSlice_slice]
  refine ⟨fun vs h' => vs = [.bool (!(F xs))] ∧ Old h1.size h1 h', ?_, ?_⟩
  · have hb' := hb
    obtain ⟨⟨f, x, y, rfl⟩, _⟩ := hb'
    simp only [asFnNil_func, ifB_false]
    refine callV_fn (clone_int (H.old o1) (by omega) fun a2 c2 h8 hw2 o2 => ?_)
    simp only [asSlice_slice]
    refine ((hb.old o1).old o2).call hw2.ri (by omega) fun h13 o3 => ?_
    simp only [asBool_bool]
    exact ⟨by trivial, o2.trans (o3.mono o2.1)⟩
  rintro v15 g16 h17 ⟨e, o17⟩
  cases e
  have o17' : Old h.size h h17 := o1.trans (o17.mono o1.1)
  simp only [asBool_bool]
  refine ifB_mk (fun hq => ?_) (fun hq => ?_)
  · exact k _ _ _ _ _ (hw.ri.old o17) ⟨fun _ => rfl, fun e => by rw [e] at hq; cases hq⟩ o17'
  have hF : F xs = true := by simpa using hq
  refine ⟨fun vs h' => ∃ a1 l1 c1, ∃ (s : Nat), ∃ ys v, vs = [.slice a1 l1 c1, iv s, v] ∧ RI h' a1 l1 c1 ys ∧ ys.Sublist xs ∧ F ys = true ∧ s ≤ 100 ∧ Old h.size h h', fun vs _ => (match vs with | [_, .int _ n, _] => n.toNat | _ => 0),
    ⟨_, _, _, _, _, _, rfl, hw.ri.old o17, List.Sublist.refl _, hF, hl, o17'⟩, ?_⟩
  rintro v21 v22 v23 g24 h25 ⟨a3, l3, c3, s, ys, v, e, hr, hsub, hFy, hs, ho⟩
  cases e
  have hle : l3 ≤ l := by have := hsub.length_le; rw [hr.len, H.len] at this; exact this
  simp only [asInt_int]
  refine ifB_dec (fun hlt => ?_) (fun hge => ?_)
  · simp only [asSlice_slice]
    refine callV_fn (pass_call (hb.old ho) hr (by omega) (by omega) hs fun a' l' c' zs gone h32 hr' hp o' => ?_)
    simp only [asTup_tuple, elem20, elem21, asSlice_slice, asBool_bool]
    have e4 : IntKind.wrap .i64 (Int.tdiv (s : Int) 2) = ((s / 2 : Nat) : Int) := by
      rw [Int.tdiv_eq_ediv_of_nonneg (by omega), wrap64_id' (by omega) (by omega)]; omega
    rw [e4]
    refine ⟨by omega, ⟨_, _, _, s / 2, _, _, rfl, hr', hp.1.trans hsub, hp.2.1 hFy, by omega, ho.trans (o'.mono ho.1)⟩, ?_⟩
    show ((s / 2 : Nat) : Int).toNat < (s : Int).toNat
    omega
  · refine ⟨fun vs h' => ∃ a1 l1 c1, ∃ (gone : Bool), ∃ ys v, vs = [.slice a1 l1 c1, .bool gone, v] ∧ RI h' a1 l1 c1 ys ∧ ys.Sublist xs ∧ F ys = true ∧ (gone = false → ∀ i, i < ys.length → F (ys.eraseIdx i) = false) ∧ Old h.size h h',
      fun vs _ => (match vs with | [.slice _ l _, .bool b, _] => 2 * l + (if b then 1 else 0) | _ => 0), ⟨_, _, _, _, _, _, rfl, hr, hsub, hFy, (fun e => by cases e), ho⟩, ?_⟩
    rintro v44 v45 v46 g47 h48 ⟨a5, l5, c5, gone, zs, v, e, hr5, hsub5, hFz, hg, ho5⟩
    cases e
    have hle5 : l5 ≤ l := by have := hsub5.length_le; rw [hr5.len, H.len] at this; exact this
    simp only [asBool_bool]
    cases gone with
    | true =>
      simp only [ifB_true, asSlice_slice]
      refine callV_fn (pass_call (size := 1) (hb.old ho5) hr5 (by omega) (by omega) (by omega) fun a' l' c' us gone' h54 hr' hp o' => ?_)
      simp only [asTup_tuple, elem20, elem21, asSlice_slice, asBool_bool]
      refine ⟨⟨_, _, _, gone', us, _, rfl, hr', hp.1.trans hsub5, hp.2.1 hFz, fun e => ?_, ho5.trans (o'.mono ho5.1)⟩, ?_⟩
      · obtain ⟨rfl, h6⟩ := hp.2.2.2 e
        exact h6 rfl
      · show 2 * l' + (if gone' = true then 1 else 0) < 2 * l5 + 1
        have hl1 := hr'.len
        have hl2 := hr5.len
        cases gone' with
        | true => have := hp.2.2.1 rfl; simp only [if_true]; omega
        | false =>
          obtain ⟨rfl, _⟩ := hp.2.2.2 rfl
          simp only [Bool.false_eq_true, if_false]; omega
    | false =>
      simp only [ifB_false, asSlice_slice]
      exact k _ _ _ _ _ hr5 ⟨(fun e => by rw [hF] at e; cases e), fun _ => ⟨hsub5, hFz, hg rfl⟩⟩ ho5
theorem shrink_nil {K : Value → Heap → Prop} {h : Heap} {a : Option Addr} {l c : Nat} {xs : List Int} (H : RI h a l c xs) (hl : l ≤ 100)
    (k : ∀ a' c' h', RI h' a' l c' xs → Old h.size h h' → K (.slice a' l c') h') :
    CallH Try.prog 27 #[.slice a l c, .nilFunc] h K := by
  refine call27 ?_
  unfold F27
  refine callV_fn (clone_int H (by omega) fun a1 c1 h1 hw o1 => ?_)
  simp only [asSlice_slice, asFnNil_nil, ifB_true]
  refine ⟨fun vs h' => vs = [.bool true] ∧ h' = h1, ⟨rfl, by trivial⟩, ?_⟩
  rintro v15 g16 h17 ⟨e, rfl⟩
  cases e
  simp only [asBool_bool, ifB_true]
  exact k _ _ _ hw.ri o1
end Go.Proofs.Ytgladmaagpcffaa
