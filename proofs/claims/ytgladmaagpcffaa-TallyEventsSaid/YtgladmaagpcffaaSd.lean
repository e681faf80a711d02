/- The sequences' functions, called; the statement SeqsCounts' body. -/
import Derived.Test.YtgladmaagpcffaaSc
set_option linter.unusedSimpArgs false
set_option linter.unusedVariables false
namespace Go.Proofs.Ytgladmaagpcffaa

/-- From h on, g is a sequence of n numbers. -/
def SeqAt (g : Value) (n : Nat) (xs : Nat → Int) (h : Heap) : Prop :=
  ∃ f fst cap Ev, g = .func (.func f) fst cap ∧ SeqH Try.prog g n (fun k => #[iv (xs k)]) Ev ∧ Ev h ∧ ∀ h h', Old h.size h h' → Ev h → Ev h'
theorem SeqAt.old {g : Value} {n : Nat} {xs : Nat → Int} {h h' : Heap} (H : SeqAt g n xs h) (ho : Old h.size h h') : SeqAt g n xs h' := by
  obtain ⟨f, fst, cap, Ev, e, hs, he, hst⟩ := H
  exact ⟨f, fst, cap, Ev, e, hs, hst _ _ ho he, hst⟩
theorem cell_stable {a : Addr} {v : Value} : ∀ h h', Old h.size h h' → cellAt h a = some v → cellAt h' a = some v := fun h h' ho hc => (cellAt_congr (ho.2 _ (cellAt_lt hc))).trans hc
theorem push2 {h : Heap} (o o' : Obj) : Old h.size h ((h.push o).push o') ∧ ((h.push o).push o')[h.size]? = some o ∧ ((h.push o).push o')[h.size + 1]? = some o' := by
  refine ⟨((Old.refl _ _).push _ (Nat.le_refl _)).push _ (by simp), ?_, ?_⟩
  · rw [push_old _ _ _ (by simp)]; exact push_new _ _
  · have := push_new (h.push o) o'
    rwa [Array.size_push] at this

theorem count_call {K : Value → Heap → Prop} {h : Heap} {u v : Int} (hu : -2 ^ 62 ≤ u) (hv : v ≤ 2 ^ 62) (k : ∀ g h', SeqAt g (v - u).toNat (fun k => u + k) h' → Old h.size h h' → K g h') :
    CallH Try.prog 22 #[iv u, iv v] h K := by
  refine call22 ?_
  unfold F22
  obtain ⟨ho, h1, h2⟩ := push2 (h := h) (.cells #[iv u] 3) (.cells #[iv v] 3)
  rw [Array.size_push]
  refine k _ _ ⟨_, _, _, _, rfl, count_seq hu hv, ⟨cellAt_row h1, cellAt_row h2⟩, fun a b o e => ⟨cell_stable _ _ o e.1, cell_stable _ _ o e.2⟩⟩ ho

theorem none_seq (xs : Nat → Int) : SeqH Try.prog (.func (.func 80) #[] #[]) 0 (fun k => #[iv (xs k)]) (fun _ => True) := by
  intro yf y1 y2 h N I X hN hev hok hy
  refine callV_fn (call80 ?_)
  exact ⟨h.size, hN, Nat.le_refl _, Nat.le_refl _, .inl hok.self⟩

theorem first_call {K : Value → Heap → Prop} {h : Heap} {g : Value} {n : Nat} {xs : Nat → Int} {x : Int} (H : SeqAt g n xs h) (hx : x ≤ 9223372036854775807) (k : ∀ g' h', SeqAt g' (min n x.toNat) xs h' → Old h.size h h' → K g' h') :
    CallH Try.prog 23 #[g, iv x] h K := by
  obtain ⟨f, fst, cap, Ev, rfl, hs, he, hst⟩ := H
  refine call23 ?_
  unfold F23
  obtain ⟨ho, h1, h2⟩ := push2 (h := h) (.cells #[.func (.func f) fst cap] 27) (.cells #[iv x] 3)
  simp only [oneC_func]
  rw [Array.size_push]
  refine ⟨fun vs h' => vs = [.bool (decide (x < 1))] ∧ h' = (h.push (.cells #[.func (.func f) fst cap] 27)).push (.cells #[iv x] 3), ?_, ?_⟩
  · refine ldH_mk (cellAt_row h1) ?_
    simp only [asFnNil_func, ifB_false]
    refine ldH_mk (cellAt_row h2) ?_
    simp only [asInt_int]
    refine ⟨?_, ?_⟩ <;> first | rfl | trivial
  · rintro v5 g6 h7 ⟨e, rfl⟩
    cases e
    simp only [asBool_bool]
    refine ifB_dec (fun hlt => ?_) (fun hge => ?_)
    · refine k _ _ ⟨_, _, _, _, rfl, ?_, trivial, fun _ _ _ _ => trivial⟩ ho
      rw [show min n x.toNat = 0 by omega]
      exact none_seq xs
    · refine k _ _ ⟨_, _, _, _, rfl, first_seq (m := x.toNat) (show fnV (.func (.func f) fst cap) from trivial) hs hst (by omega) (by omega), ⟨?_, cellAt_row h1, hst _ _ ho he⟩, fun a b o e => ⟨cell_stable _ _ o e.1, cell_stable _ _ o e.2.1, hst _ _ o e.2.2⟩⟩ ho
      rw [cellAt_row h2]; congr 2; omega

theorem list_call {K : Value → Heap → Prop} {h : Heap} {g : Value} {n : Nat} {xs : Nat → Int} (H : SeqAt g n xs h) (hn : n ≤ 2 ^ 39)
    (k : ∀ a c h', OwnI h' a n c ((List.range n).map xs) → (∀ ad, a = some ad → h.size ≤ ad.block) → Old h.size h h' → K (.slice a n c) h') : CallH Try.prog 21 #[g] h K := by
  obtain ⟨f, fst, cap, Ev, rfl, hs, he, hst⟩ := H
  exact call21 (list_spec hs (fun h' o => hst _ _ o he) hn k)

theorem same_call {K : Value → Heap → Prop} {h : Heap} {a1 a2 : Option Addr} {l1 c1 l2 c2 : Nat} {xs ys : List Int} (h1 : Sees h a1 (xs.map iv)) (e1 : xs.length = l1) (h2 : Sees h a2 (ys.map iv)) (e2 : ys.length = l2)
    (hl : l1 < 2 ^ 60) (k : K (.bool (decide (xs = ys))) h) : CallH Try.prog 20 #[.slice a1 l1 c1, .slice a2 l2 c2] h K := call20 (same_spec h1 e1 h2 e2 hl k)

theorem lives_call {K : Value → Heap → Prop} {h : Heap} (k : ∀ h', Old h.size h h' → K (.bool true) h') : CallH Try.prog 19 #[] h K := by
  refine call19 ?_
  unfold F19
  refine callV_fn (count_call (by omega) (by omega) fun g h1 hg o1 => ?_)
  refine callV_fn (first_call hg (by omega) fun g' h2 hg' o2 => ?_)
  refine callV_fn (list_call hg' (by simp) fun a c h3 hown _ o3 => ?_)
  simp only [asSlice_slice]
  have o13 : Old h.size h h3 := (o1.trans (o2.mono o1.1)).trans (o3.mono (Nat.le_trans o1.1 o2.1))
  obtain ⟨h4, e4⟩ : ∃ h4, h4 = h3.push (.cells #[.int .i64 2, .int .i64 3, .int .i64 4] 3) := ⟨_, rfl⟩
  rw [← e4]
  have n4 : h4[h3.size]? = some (.cells #[.int .i64 2, .int .i64 3, .int .i64 4] 3) := by rw [e4]; exact push_new _ _
  have hs1 : Sees h4 a ((List.range (min (9 - 2 : Int).toNat (3 : Int).toNat)).map (fun k : Nat => (2 : Int) + k) |>.map iv) := hown.sees.keep fun ad e => by rw [e4]; exact push_old _ _ _ (hown.lt ad e)
  have hs2 : Sees h4 (some ⟨h3.size, 0, none⟩) (([2, 3, 4] : List Int).map iv) := by
    intro i v hi
    refine ⟨_, rfl, ?_⟩
    rw [add_lit, cellAt_of n4, Nat.zero_add, ← Array.getElem?_toList]
    exact hi
  refine callV_fn (same_call hs1 (by simp) hs2 rfl (by simp) ?_)
  rw [decide_eq_true (by decide)]
  simp only [asBool_bool]
  exact k _ (by rw [e4]; exact o13.push _ o13.1)
end Go.Proofs.Ytgladmaagpcffaa
