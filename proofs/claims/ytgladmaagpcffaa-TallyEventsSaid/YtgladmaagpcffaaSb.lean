/- The contracts of the sequences' functions: counting, a list of a sequence, its first ones. -/
import Derived.Test.YtgladmaagpcffaaSa
set_option linter.unusedSimpArgs false
set_option linter.unusedVariables false
namespace Go.Proofs.Ytgladmaagpcffaa

theorem wrap64_id' {n : Int} (h0 : -9223372036854775808 ≤ n) (h1 : n ≤ 9223372036854775807) : IntKind.i64.wrap n = n := by
  unfold IntKind.wrap IntKind.signed IntKind.bits
  by_cases h2 : 0 ≤ n
  · have e : n % 2 ^ 64 = n := Int.emod_eq_of_lt h2 (by omega)
    simp only [e]
    rw [if_neg (by simp; omega)]
  · have e : n % 2 ^ 64 = n + 2 ^ 64 := by omega
    simp only [e]
    rw [if_pos (by simp; omega)]; omega
theorem cl3 (y a b : Value) : (#[y] : Array Value) ++ #[a, b] = #[y, a, b] := rfl
theorem cl2 (y a : Value) : (#[y] : Array Value) ++ #[a] = #[y, a] := rfl
theorem RangeOk.self {ε : Type} {N : Nat} {h : Heap} {Ev : Heap → Prop} {I : Nat → Nat → Heap → Prop} {X : Nat → ε → Heap → Prop} (H : RangeOk N h Ev I X) : I h.size 0 h := H.start h (Nat.le_refl _) fun _ _ => rfl

/-- The numbers from .. on, up to .. -/
theorem count_seq {p q : Nat} {u v : Int} (hu : -2 ^ 62 ≤ u) (hv : v ≤ 2 ^ 62) :
    SeqH Try.prog (.func (.func 79) #[] #[.pointer (some ⟨p, 0, none⟩), .pointer (some ⟨q, 0, none⟩)]) (v - u).toNat (fun k => #[iv (u + k)])
      (fun h => cellAt h ⟨p, 0, none⟩ = some (iv u) ∧ cellAt h ⟨q, 0, none⟩ = some (iv v)) := by
  intro yf y1 y2 h N I X hN hev hok hy
  refine callV_cl ?_
  rw [cl3]
  refine call79 ?_
  unfold F79
  simp only [asPtr_some]
  refine ldH_mk hev.1 ?_
  simp only [asInt_int]
  refine ⟨fun vs h' => ∃ k : Nat, vs = [iv (u + k)] ∧ k ≤ (v - u).toNat ∧ h.size ≤ h'.size ∧ I h.size k h', fun vs _ => (match vs with | [.int _ n] => (v - n).toNat | _ => 0), ⟨0, by simp, by omega, Nat.le_refl _, hok.self⟩, ?_⟩
  rintro v5 g h7 ⟨k, e, hk, hs, hI⟩
  cases e
  simp only [asInt_int]
  refine ldH_mk (hok.env _ _ _ hN hs hI).2 ?_
  simp only [asInt_int]
  refine ifB_dec (fun hlt => ?_) (fun hge => ?_)
  · refine callV_mono ?_ (hy h.size k h7 (by omega) hN (Nat.le_refl _) hs hI)
    rintro w h'' ⟨hm, ⟨rfl, hI'⟩ | ⟨rfl, hX⟩⟩
    · simp only [asBool_bool, Bool.not_true, ifB_false]
      rw [wrap64_id' (by omega) (by omega)]
      refine ⟨⟨k + 1, by simp; omega, by omega, Nat.le_trans hs hm.1, hI'⟩, ?_⟩
      show (v - (u + k + 1)).toNat < (v - (u + k)).toNat
      omega
    · simp only [asBool_bool, Bool.not_false, ifB_true]
      exact ⟨h.size, hN, Nat.le_refl _, Nat.le_trans hs hm.1, .inr hX⟩
  · have : k = (v - u).toNat := by omega
    subst this
    exact ⟨h.size, hN, Nat.le_refl _, hs, .inl hI⟩

set_option maxRecDepth 20000 in
/-- A sequence's list. -/
theorem list_spec {K : Value → Heap → Prop} {h : Heap} {f : FuncId} {fst cap : Array Value} {n : Nat} {xs : Nat → Int} {Ev : Heap → Prop}
    (hseq : SeqH Try.prog (.func (.func f) fst cap) n (fun k => #[iv (xs k)]) Ev) (hev : ∀ h', Old h.size h h' → Ev h') (hn : n ≤ 2 ^ 39)
    (k : ∀ a c h', OwnI h' a n c ((List.range n).map xs) → (∀ ad, a = some ad → h.size ≤ ad.block) → Old h.size h h' → K (.slice a n c) h') :
    F21 K h (.func (.func f) fst cap) := by
  unfold F21
  simp only [asFnNil_func, ifB_false]
  have h1new : (h.push (.cells #[.slice none 0 0] 23))[h.size]? = some (.cells #[.slice none 0 0] 23) := push_new _ _
  have h1old : Old h.size h (h.push (.cells #[.slice none 0 0] 23)) := (Old.refl _ _).push _ (Nat.le_refl _)
  have h1s : (h.push (.cells #[.slice none 0 0] 23)).size = h.size + 1 := by simp
  -- between two rounds: the variable, and its row
  obtain ⟨J, hJ⟩ : ∃ J : Nat → Heap → Prop, J = fun k h' => Old h.size h h' ∧ ∃ a c, h'[h.size]? = some (.cells #[.slice a k c] 23) ∧ OwnI h' a k c ((List.range k).map xs) ∧ ∀ ad, a = some ad → h.size < ad.block := ⟨_, rfl⟩
  refine ⟨n, fun k => #[iv (xs k)], Ev, fun M k h' => J k h' ∧ ∃ a c, h'[h.size]? = some (.cells #[.slice a k c] 23) ∧ ∀ ad, a = some ad → M ≤ ad.block, fun _ _ _ => False, trivial, hseq, fun _ _ => rfl, hev _ h1old, ?_, ?_, ?_, trivial⟩
  · refine { env := fun M k h' hM hs hI => ?_, keepI := fun M k ha hb hM hs hI hk => ?_, keepX := fun _ _ _ _ _ _ x _ => x, dI := fun M k ha hb hs hI => ?_, dX := fun _ _ _ _ _ x => x, start := fun ha hs hsame => ?_ }
    · rw [hJ] at hI; exact hev _ hI.1.1
    · rw [hJ] at hI ⊢
      obtain ⟨⟨ho, a, c, hc, hown, hlt⟩, a', c', hc', hge⟩ := hI
      have e : a' = a ∧ c' = c := by rw [hc] at hc'; simp at hc'; exact ⟨hc'.1.symm, hc'.2.symm⟩
      obtain ⟨rfl, rfl⟩ := e
      rw [h1s] at hM hk
      have hv := hk.2 h.size (by have := ho.1; omega) (.inl (by omega))
      refine ⟨⟨⟨Nat.le_trans ho.1 hk.1, fun b hb => (hk.2 b (by have := ho.1; omega) (.inl (by omega))).trans (ho.2 b hb)⟩, a', c', hv.trans hc, ?_, hlt⟩, a', c', hv.trans hc, hge⟩
      exact hown.keep fun ad e => hk.2 _ (hown.lt ad e) (.inr (hge ad e))
    · rw [hJ] at hI ⊢
      rw [h1s] at hs
      obtain ⟨⟨ho, a, c, hc, hown, hlt⟩, a', c', hc', hge⟩ := hI
      have hv := hs.cells hc
      refine ⟨⟨ho.same (hs.mono (by omega)), a, c, hv.trans hc, hown.same hs, hlt⟩, a', c', hv.trans hc', hge⟩
    · rw [hJ]
      rw [h1s] at hs hsame
      have hv : ha[h.size]? = some (.cells #[.slice none 0 0] 23) := (hsame _ (by omega)).trans h1new
      refine ⟨⟨⟨by omega, fun b hb => (hsame b (by omega)).trans (push_old _ _ _ hb)⟩, none, 0, hv, Own.nil _ _ _, fun ad e => by cases e⟩, none, 0, hv, fun ad e => by cases e⟩
  · rintro M k h4 hk hM hs ⟨hj, a', c', hc', hge⟩
    rw [h1s] at hM
    rw [hJ] at hj
    obtain ⟨ho, a, c, hc, hown, hlt⟩ := hj
    have e : a' = a ∧ c' = c := by rw [hc] at hc'; simp at hc'; exact ⟨hc'.1.symm, hc'.2.symm⟩
    obtain ⟨rfl, rfl⟩ := e
    simp only [getD0, asInt_int]
    refine ldH_mk (v := .slice a' k c') (by rw [cellAt_of hc]; rfl) ?_
    simp only [asSlice_slice]
    refine app_int hown (by omega) ?_
    intro a2 c2 h2 hown2 hs2 hold2 hor
    have hvlt : h.size < h4.size := (Array.getElem?_eq_some_iff.1 hc).1
    have hv2 : h2[h.size]? = some (.cells #[.slice a' k c'] 23) := (hold2 _ hvlt (fun ad e => by have := hlt ad e; omega)).trans hc
    have hge2 : ∀ ad, a2 = some ad → M ≤ ad.block := by
      intro ad e
      rcases hor with rfl | ⟨b, rfl, hb⟩
      · exact hge ad e
      · cases e; show M ≤ b; omega
    simp only [asSlice_slice]
    refine stH_mk hv2 (by simp) trivial ?_
    rintro h3 rfl
    have hv3 : (h2.setIfInBounds h.size (.cells ((#[.slice a' k c'] : Array Value).setIfInBounds 0 (.slice a2 (k + 1) c2)) 23))[h.size]? = some (.cells #[.slice a2 (k + 1) c2] 23) := set_new (by omega)
    have hold4 : ∀ b, b < h.size → (h2.setIfInBounds h.size (.cells ((#[.slice a' k c'] : Array Value).setIfInBounds 0 (.slice a2 (k + 1) c2)) 23))[b]? = h4[b]? := fun b hb =>
      (set_old (by omega)).trans (hold2 b (by omega) (fun ad e => by have := hlt ad e; omega))
    refine ⟨⟨by simp; exact hs2, fun b hb1 hb2 => ?_⟩, ?_, a2, c2, hv3, hge2⟩
    · rw [h1s] at hb1
      refine (set_old (by omega)).trans (hold2 b (by omega) (fun ad e => ?_))
      have := hge ad e; omega
    · rw [hJ]
      refine ⟨⟨by simp; exact Nat.le_trans ho.1 hs2, fun b hb => (hold4 b hb).trans (ho.2 b hb)⟩, a2, c2, hv3, ?_, fun ad e => by have := hge2 ad e; omega⟩
      have : (List.range (k + 1)).map xs = (List.range k).map xs ++ [xs k] := by rw [List.range_succ]; simp
      rw [this]
      exact hown2.keep fun ad e => set_old (by have := hge2 ad e; omega)
  · rintro M h16 hM hs ⟨hj, _⟩
    rw [hJ] at hj
    obtain ⟨ho, a, c, hc, hown, hlt⟩ := hj
    refine ldH_mk (v := .slice a n c) (by rw [cellAt_of hc]; rfl) ?_
    simp only [asSlice_slice]
    intro h21 hsd
    exact k a c h21 (hown.same hsd) (fun ad e => by have := hlt ad e; omega) (ho.same hsd)
end Go.Proofs.Ytgladmaagpcffaa
