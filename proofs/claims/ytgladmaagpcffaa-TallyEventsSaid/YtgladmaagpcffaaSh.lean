/- Sequences of numbers as lists; a list's things, onward and backward. -/
import Derived.Test.YtgladmaagpcffaaTa
import Derived.Test.YtgladmaagpcffaaFc
set_option linter.unusedSimpArgs false
set_option linter.unusedVariables false
set_option maxRecDepth 20000
namespace Go.Proofs.Ytgladmaagpcffaa

theorem SeqH.congr {P : Program} {g : Value} {n : Nat} {xs ys : Nat → Array Value} {Ev : Heap → Prop} (H : SeqH P g n xs Ev) (e : ∀ k, k < n → xs k = ys k) : SeqH P g n ys Ev := by
  intro yf y1 y2 h N I X hN hev hok hy
  exact H yf y1 y2 h N I X hN hev hok fun M k h' hk h1 h2 h3 h4 => by rw [e k hk]; exact hy M k h' hk h1 h2 h3 h4

abbrev seqOf (L : List Int) (k : Nat) : Array Value := #[iv (L.getD k 0)]
/-- From h on, g is the sequence of a list's numbers. -/
def SeqL (g : Value) (L : List Int) (h : Heap) : Prop :=
  ∃ f fst cap Ev, g = .func (.func f) fst cap ∧ SeqH Try.prog g L.length (seqOf L) Ev ∧ Ev h ∧ ∀ h h', Old h.size h h' → Ev h → Ev h'
theorem SeqL.old {g : Value} {L : List Int} {h h' : Heap} (H : SeqL g L h) (ho : Old h.size h h') : SeqL g L h' := by
  obtain ⟨f, fst, cap, Ev, e, hs, he, hst⟩ := H
  exact ⟨f, fst, cap, Ev, e, hs, hst _ _ ho he, hst⟩
theorem SeqAt.toL {g : Value} {n : Nat} {xs : Nat → Int} {L : List Int} {h : Heap} (H : SeqAt g n xs h) (hn : L.length = n) (e : ∀ k, k < n → xs k = L.getD k 0) : SeqL g L h := by
  obtain ⟨f, fst, cap, Ev, e1, hs, he, hst⟩ := H
  subst hn
  exact ⟨f, fst, cap, Ev, e1, hs.congr fun k hk => by rw [e k hk], he, hst⟩
theorem SeqL.at {g : Value} {L : List Int} {h : Heap} (H : SeqL g L h) : SeqAt g L.length (fun k => L.getD k 0) h := H
theorem range_getD (L : List Int) : (List.range L.length).map (fun k => L.getD k 0) = L := by
  apply List.ext_getElem (by simp)
  intro i h1 h2
  simp at h1
  simp [h1]
theorem range_take (L : List Int) (m : Nat) : (List.range (min L.length m)).map (fun k => L.getD k 0) = L.take m := by
  apply List.ext_getElem (by simp; omega)
  intro i h1 h2
  simp at h1
  simp [show i < L.length by omega]

theorem listL_call {K : Value → Heap → Prop} {h : Heap} {g : Value} {L : List Int} (H : SeqL g L h) (hn : L.length ≤ 2 ^ 39)
    (k : ∀ a c h', OwnI h' a L.length c L → (∀ ad, a = some ad → h.size ≤ ad.block) → Old h.size h h' → K (.slice a L.length c) h') : CallH Try.prog 21 #[g] h K :=
  list_call H.at hn fun a c h' h1 h2 h3 => k a c h' (by rw [range_getD] at h1; exact h1) h2 h3
theorem firstL_call {K : Value → Heap → Prop} {h : Heap} {g : Value} {L : List Int} {x : Int} (H : SeqL g L h) (hx : x ≤ 9223372036854775807) (k : ∀ g' h', SeqL g' (L.take x.toNat) h' → Old h.size h h' → K g' h') :
    CallH Try.prog 23 #[g, iv x] h K :=
  first_call H.at hx fun g' h' h1 h2 => k g' h' (h1.toL (by simp; omega) fun j hj => by simp [show j < x.toNat by omega]) h2

theorem of_seq {p : Nat} {a : Option Addr} {l c : Nat} {xs : List Int} (hl : l < 2 ^ 60) :
    SeqH Try.prog (.func (.func 88) #[] #[.pointer (some ⟨p, 0, none⟩)]) xs.length (seqOf xs)
      (fun h => cellAt h ⟨p, 0, none⟩ = some (.slice a l c) ∧ RI h a l c xs) := by
  intro yf y1 y2 h N I X hN hev hok hy
  refine callV_cl ?_
  rw [cl2]
  refine call88 ?_
  unfold F88
  have hlen := hev.2.len
  simp only [asPtr_some]
  refine ldH_mk hev.1 ?_
  simp only [asSlice_slice]
  refine ⟨fun vs h' => ∃ v, ∃ k : Nat, vs = [v, iv k] ∧ k ≤ l ∧ h.size ≤ h'.size ∧ I h.size k h', fun vs _ => (match vs with | [_, .int _ n] => l - n.toNat | _ => 0), ⟨_, 0, rfl, by omega, Nat.le_refl _, hok.self⟩, ?_⟩
  rintro v7 v8 g h10 ⟨v, k, e, hk, hs, hI⟩
  cases e
  simp only [asInt_int, asI_int]
  refine ifB_dec (fun hlt => ?_) (fun hge => ?_)
  · have hlt' : k < xs.length := by omega
    obtain ⟨ad, rfl, hc⟩ := (hok.env _ _ _ hN hs hI).2.at hlt'
    refine ⟨by omega, hlt, ?_⟩
    simp only [asPtr_some, Int.toNat_natCast, Nat.mul_one]
    refine ldH_mk hc ?_
    simp only [asInt_int]
    have hyk := hy h.size k h10 hlt' hN (Nat.le_refl _) hs hI
    have e2 : seqOf xs k = #[.int .i64 xs[k]] := by unfold seqOf; simp [hlt']
    rw [e2] at hyk
    refine callV_mono ?_ hyk
    rintro w h'' ⟨hm, ⟨rfl, hI'⟩ | ⟨rfl, hX⟩⟩
    · simp only [asBool_bool, Bool.not_true, ifB_false]
      rw [nat_wrap1 (by omega)]
      refine ⟨⟨_, k + 1, rfl, by omega, Nat.le_trans hs hm.1, hI'⟩, ?_⟩
      show l - ((k + 1 : Nat) : Int).toNat < l - (k : Int).toNat
      omega
    · simp only [asBool_bool, Bool.not_false, ifB_true]
      exact ⟨h.size, hN, Nat.le_refl _, Nat.le_trans hs hm.1, .inr hX⟩
  · have : k = xs.length := by omega
    subst this
    exact ⟨h.size, hN, Nat.le_refl _, hs, .inl hI⟩
theorem of_call {K : Value → Heap → Prop} {h : Heap} {a : Option Addr} {l c : Nat} {xs : List Int} (H : RI h a l c xs) (hl : l < 2 ^ 60) (k : ∀ g h', SeqL g xs h' → Old h.size h h' → K g h') :
    CallH Try.prog 36 #[.slice a l c] h K := by
  refine call36 ?_
  unfold F36
  have o1 : Old h.size h (h.push (.cells #[.slice a l c] 23)) := (Old.refl _ _).push _ (Nat.le_refl _)
  exact k _ _ ⟨_, _, _, _, rfl, of_seq hl, ⟨cellAt_row (push_new _ _), H.old o1⟩, fun h h' o e => ⟨cell_stable _ _ o e.1, e.2.old o⟩⟩ o1

/-- Backward: places and things. -/
abbrev backOf (xs : List Int) (k : Nat) : Array Value := #[iv ((xs.length - 1 - k : Nat) : Int), iv (xs.getD (xs.length - 1 - k) 0)]
theorem back_seq {p : Nat} {a : Option Addr} {l c : Nat} {xs : List Int} (hl : l < 2 ^ 60) :
    SeqH Try.prog (.func (.func 89) #[] #[.pointer (some ⟨p, 0, none⟩)]) xs.length (backOf xs)
      (fun h => cellAt h ⟨p, 0, none⟩ = some (.slice a l c) ∧ RI h a l c xs) := by
  intro yf y1 y2 h N I X hN hev hok hy
  refine callV_cl ?_
  rw [cl2]
  refine call89 ?_
  unfold F89
  have hlen := hev.2.len
  simp only [asPtr_some]
  refine ldH_mk hev.1 ?_
  simp only [asSlice_slice]
  refine ⟨fun vs h' => ∃ k : Nat, vs = [iv ((l : Int) - 1 - k)] ∧ k ≤ l ∧ h.size ≤ h'.size ∧ I h.size k h', fun vs _ => (match vs with | [.int _ n] => (n + 1).toNat | _ => 0), ⟨0, by rw [wrap64_id' (by omega) (by omega)]; simp, by omega, Nat.le_refl _, hok.self⟩, ?_⟩
  rintro v7 g h9 ⟨k, e, hk, hs, hI⟩
  cases e
  simp only [asInt_int, asI_int]
  refine ifB_dec (fun hlt => ?_) (fun hge => ?_)
  · have hlt' : k < xs.length := by omega
    have hlt2 : xs.length - 1 - k < xs.length := by omega
    have hev9 := hok.env _ _ _ hN hs hI
    refine ldH_mk hev9.1 ?_
    simp only [asSlice_slice]
    obtain ⟨ad, rfl, hc⟩ := hev9.2.at hlt2
    refine ⟨by omega, by omega, ?_⟩
    have ek : (l : Int) - 1 - k = ((xs.length - 1 - k : Nat) : Int) := by omega
    rw [ek]
    simp only [asPtr_some, Int.toNat_natCast, Nat.mul_one]
    refine ldH_mk hc ?_
    simp only [asInt_int]
    have hyk := hy h.size k h9 hlt' hN (Nat.le_refl _) hs hI
    have e2 : backOf xs k = #[.int .i64 ((xs.length - 1 - k : Nat) : Int), .int .i64 xs[xs.length - 1 - k]] := by unfold backOf; simp [hlt2]
    rw [e2] at hyk
    refine callV_mono ?_ hyk
    rintro w h'' ⟨hm, ⟨rfl, hI'⟩ | ⟨rfl, hX⟩⟩
    · simp only [asBool_bool, Bool.not_true, ifB_false]
      rw [wrap64_id' (by omega) (by omega)]
      refine ⟨⟨k + 1, by congr 2; omega, by omega, Nat.le_trans hs hm.1, hI'⟩, ?_⟩
      show (((xs.length - 1 - k : Nat) : Int) - 1 + 1).toNat < (((xs.length - 1 - k : Nat) : Int) + 1).toNat
      omega
    · simp only [asBool_bool, Bool.not_false, ifB_true]
      exact ⟨h.size, hN, Nat.le_refl _, Nat.le_trans hs hm.1, .inr hX⟩
  · have : k = xs.length := by omega
    subst this
    exact ⟨h.size, hN, Nat.le_refl _, hs, .inl hI⟩
end Go.Proofs.Ytgladmaagpcffaa
