/- Sequences: joined, looked through; of nothing there is nothing. -/
import Derived.Test.YtgladmaagpcffaaSi
set_option linter.unusedSimpArgs false
set_option linter.unusedVariables false
set_option maxRecDepth 20000
namespace Go.Proofs.Ytgladmaagpcffaa

/-- A pure join of two numbers, on numbers that are in a set. -/
def JoinAt (f : Value) (D : Int → Prop) (w : Int → Int → Int) (h : Heap) : Prop :=
  (∃ g x y, f = .func (.func g) x y) ∧ ∃ Ev : Heap → Prop, Ev h ∧ (∀ h h', Old h.size h h' → Ev h → Ev h') ∧
    ∀ (h : Heap) (u x : Int) (K : Value → Heap → Prop), Ev h → D u → (∀ h', Old h.size h h' → K (iv (w u x)) h') → callV Try.prog f #[.int .i64 u, .int .i64 x] h K

theorem fold_call {K : Value → Heap → Prop} {h : Heap} {g f : Value} {L : List Int} {u : Int} {w : Int → Int → Int} {D : Int → Prop} (H : SeqL g L h) (Hf : JoinAt f D w h) (hD : ∀ k, k ≤ L.length → D ((L.take k).foldl w u))
    (k : ∀ h', Old h.size h h' → K (iv (L.foldl w u)) h') : CallH Try.prog 54 #[g, iv u, f] h K := by
  obtain ⟨f0, fst, cap, Ev, rfl, hs, he, hst⟩ := H
  obtain ⟨⟨f1, a1, a2, rfl⟩, Ek, hk1, hk2, hk3⟩ := Hf
  refine call54 ?_
  unfold F54
  obtain ⟨ho, h1, h2⟩ := push2 (h := h) (.cells #[.int .i64 u] 3) (.cells #[.func (.func f1) a1 a2] 42)
  have sz : ((h.push (.cells #[.int .i64 u] 3)).push (.cells #[.func (.func f1) a1 a2] 42)).size = h.size + 2 := by simp
  simp only [oneC_func]
  rw [Array.size_push]
  generalize (h.push (.cells #[.int .i64 u] 3)).push (.cells #[.func (.func f1) a1 a2] 42) = h5 at *
  refine ⟨fun vs h' => vs = [.bool false] ∧ h' = h5, ?_, ?_⟩
  · simp only [asFnNil_func, ifB_false]
    refine ldH_mk (cellAt_row h2) ?_
    simp only [asFnNil_func]
    exact ⟨by trivial, by trivial⟩
  rintro v4 g5 h6 ⟨e, rfl⟩
  cases e
  simp only [asBool_bool, ifB_false]
  refine rangeH_own (n := L.length) (xs := seqOf L) (Ev := Ev)
    (fun j _ h' => Old h.size h h' ∧ h'[h.size]? = some (.cells #[iv ((L.take j).foldl w u)] 3) ∧ h'[h.size + 1]? = some (.cells #[.func (.func f1) a1 a2] 42)) (fun _ _ _ => False)
    (show fnV (.func (.func f0) fst cap) from trivial) hs (fun _ _ => rfl) ?_ (fun _ _ _ _ _ _ _ x => x) (fun j w' h' x => hst _ _ x.1 he) ⟨ho, by simpa using h1, h2⟩ ?_ ?_ trivial
  · rintro j w' ha hb hs1 hs2 _ ⟨x1, x2, x3⟩
    exact ⟨⟨Nat.le_trans x1.1 hs1, fun b hb => (hs2 b (by omega)).trans (x1.2 b hb)⟩, (hs2 _ (by omega)).trans x2, (hs2 _ (by omega)).trans x3⟩
  · rintro M j w' h13 hj hM hs1 hw ⟨x1, x2, x3⟩
    have e2 : (seqOf L j).getD 0 (.tuple #[]) = .int .i64 L[j] := by unfold seqOf; simp [hj]
    rw [e2]
    simp only [asInt_int]
    refine ldH_mk (cellAt_row x3) ?_
    refine ldH_mk (cellAt_row x2) ?_
    simp only [asInt_int]
    refine hk3 _ _ _ _ (hk2 _ _ x1 hk1) (hD j (by omega)) fun h19 o19 => ?_
    simp only [asInt_int]
    have x2' : h19[h.size]? = some (.cells #[iv ((L.take j).foldl w u)] 3) := (o19.2 _ (by omega)).trans x2
    refine stH_mk x2' (by simp) trivial ?_
    rintro h21 rfl
    have hlt : h.size < h19.size := by have := o19.1; omega
    refine ⟨⟨by simp; exact o19.1, fun b hb1 hb2 => (set_old (by omega)).trans (o19.2 b (by omega))⟩, by simp; have := o19.1; omega, w', ?_, ?_⟩
    · refine owned_keep (owned_keep hw fun b hb => o19.2 b (hw.lt hb)) fun b hb => set_old (by have := (hw b hb).1; omega)
    · refine ⟨(x1.trans (o19.mono x1.1)).set _ _ (Nat.le_refl _), ?_, ?_⟩
      · rw [List.take_succ_eq_append_getElem hj, List.foldl_append]
        exact set_new hlt
      · exact (set_old (by omega)).trans ((o19.2 _ (by omega)).trans x3)
  · rintro M w' h22 hM hs1 hw ⟨x1, x2, x3⟩
    refine ldH_mk (cellAt_row x2) ?_
    rw [List.take_of_length_le (Nat.le_refl _)]
    simp only [asInt_int]
    intro h25 hsd
    exact k _ (x1.same hsd)

/-- Is there one? -/
theorem some_on {K : Value → Heap → Prop} {h : Heap} {g f : Value} {L : List Int} {D : Int → Prop} {p : Int → Bool} (H : SeqL g L h) (Hk : KeepOn f D p h) (hD : ∀ x ∈ L, D x) (k : ∀ h', Old h.size h h' → K (.bool (L.any p)) h') :
    CallH Try.prog 52 #[g, f] h K := by
  refine call52 ?_
  unfold F52
  have o0 : Old h.size h (h.push (.cells #[.bool false] 4)) := (Old.refl _ _).push _ (Nat.le_refl _)
  have n0 := push_new h (.cells #[.bool false] 4)
  have s0 : (h.push (.cells #[.bool false] 4)).size = h.size + 1 := by simp
  generalize h.push (.cells #[.bool false] 4) = h0 at *
  refine callV_fn (only_on (H.old o0) (Hk.old o0) hD fun g1 h1 H1 o1 => ?_)
  refine callV_fn (firstL_call H1 (by omega) fun g2 h2 H2 o2 => ?_)
  have o02 : Old h0.size h0 h2 := o1.trans (o2.mono o1.1)
  have hs2 : h.size + 1 ≤ h2.size := by have := o02.1; omega
  obtain ⟨f0, fst, cap, Ev, rfl, hs, he, hst⟩ := H2
  generalize hL2 : (L.filter p).take (Int.toNat 1) = L2 at *
  have hany : L.any p = decide (0 < L2.length) := by
    rw [← hL2, List.length_take]
    cases hq : L.any p with
    | true =>
      obtain ⟨x, hx, hp⟩ := List.any_eq_true.1 hq
      have : 0 < (L.filter p).length := List.length_pos_of_mem (List.mem_filter.2 ⟨hx, hp⟩)
      rw [decide_eq_true (by simp; omega)]
    | false =>
      have : L.filter p = [] := List.filter_eq_nil_iff.2 fun x hx => by simpa using List.any_eq_false.1 hq x hx
      rw [this]; rfl
  refine rangeH_own (n := L2.length) (xs := seqOf L2) (Ev := Ev)
    (fun j _ h' => j = 0 ∧ Old h0.size h0 h' ∧ Old h2.size h2 h') (fun e _ h' => 0 < L2.length ∧ Old h.size h h' ∧ h'[h.size]? = some (.cells #[.bool true] 4))
    (show fnV (.func (.func f0) fst cap) from trivial) hs (fun _ _ => rfl) ?_ ?_ (fun j w' h' x => hst _ _ x.2.2 he) ⟨rfl, o02, Old.refl _ _⟩ ?_ ?_ ?_
  · rintro j w' ha hb hs1 hsm _ ⟨x1, x2, x3⟩
    exact ⟨x1, ⟨Nat.le_trans x2.1 hs1, fun b hb => (hsm b (by have := o02.1; omega)).trans (x2.2 b hb)⟩, ⟨Nat.le_trans x3.1 hs1, fun b hb => (hsm b hb).trans (x3.2 b hb)⟩⟩
  · rintro j w' ha hb hs1 hsm _ ⟨x0, x1, x2⟩
    exact ⟨x0, ⟨Nat.le_trans x1.1 hs1, fun b hb => (hsm b (by omega)).trans (x1.2 b hb)⟩, (hsm _ (by omega)).trans x2⟩
  · rintro M j w' h6 hj hM hs1 hw ⟨rfl, x1, x2⟩
    have n6 : h6[h.size]? = some (.cells #[.bool false] 4) := (x1.2 _ (by omega)).trans n0
    refine stH_mk n6 (by simp) trivial ?_
    rintro h7 rfl
    refine ⟨⟨by simp, fun b hb1 hb2 => set_old (by omega)⟩, trivial, by simp; exact x2.1, w', owned_keep hw fun b hb => set_old (by have := (hw b hb).1; omega), by omega, ?_, ?_⟩
    · exact (o0.trans (x1.mono o0.1)).set _ _ (Nat.le_refl _)
    · exact set_new (by omega)
  · rintro M w' h8 hM hs1 hw ⟨x0, x1, x2⟩
    have n8 : h8[h.size]? = some (.cells #[.bool false] 4) := (x1.2 _ (by omega)).trans n0
    refine stH_mk n8 (by simp) trivial ?_
    rintro h9 rfl
    refine ldH_mk (cellAt_row (set_new (by omega))) ?_
    intro h11 hsd
    have := k h11 (((o0.trans (x1.mono o0.1)).set _ _ (Nat.le_refl _)).same hsd)
    rwa [hany, decide_eq_false (by omega)] at this
  · refine ⟨?_, trivial⟩
    rintro M w' h12 hM hs1 hw ⟨x0, x1, x2⟩
    refine ldH_mk (cellAt_row x2) ?_
    intro h14 hsd
    have := k h14 (x1.same hsd)
    rwa [hany, decide_eq_true x0] at this

theorem some_call {K : Value → Heap → Prop} {h : Heap} {g f : Value} {L : List Int} {p : Int → Bool} (H : SeqL g L h) (Hk : KeepAt f p h) (k : ∀ h', Old h.size h h' → K (.bool (L.any p)) h') :
    CallH Try.prog 52 #[g, f] h K := some_on H (Hk.on fun _ => True) (fun _ _ => trivial) k

/-! ### of nothing -/
theorem SeqL.none (h : Heap) : SeqL (.func (.func 80) #[] #[]) [] h :=
  ⟨_, _, _, _, rfl, none_seq fun _ => 0, trivial, fun _ _ _ _ => trivial⟩
theorem only_nil {K : Value → Heap → Prop} {h : Heap} {f : Value} (hf : oneC f True) (k : ∀ g' h', SeqL g' [] h' → Old h.size h h' → K g' h') : CallH Try.prog 49 #[.nilFunc, f] h K := by
  refine call49 ?_
  unfold F49
  obtain ⟨ho, h1, h2⟩ := push2 (h := h) (.cells #[.nilFunc] 27) (.cells #[f] 50)
  refine (show oneC f _ from oneC_mono (fun _ => ?_) hf)
  generalize (h.push (.cells #[.nilFunc] 27)).push (.cells #[f] 50) = h5 at *
  refine ⟨fun vs h' => vs = [.bool true] ∧ h' = h5, ?_, ?_⟩
  · refine ldH_mk (cellAt_row h1) ?_
    simp only [asFnNil_nil, ifB_true]
    exact ⟨by trivial, by trivial⟩
  · rintro v5 g6 h7 ⟨e, rfl⟩
    cases e
    simp only [asBool_bool, ifB_true]
    exact k _ _ (SeqL.none _) ho
theorem each_nil {K : Value → Heap → Prop} {h : Heap} {g : Value} {L : List Int} (H : SeqL g L h) (k : ∀ g' h', SeqL g' [] h' → Old h.size h h' → K g' h') : CallH Try.prog 51 #[g, .nilFunc] h K := by
  obtain ⟨f0, fst, cap, Ev, rfl, hs, he, hst⟩ := H
  refine call51 ?_
  unfold F51
  obtain ⟨ho, h1, h2⟩ := push2 (h := h) (.cells #[.func (.func f0) fst cap] 27) (.cells #[.nilFunc] 69)
  simp only [oneC_func]
  refine (show oneC .nilFunc _ from ?_)
  rw [Array.size_push]
  generalize (h.push (.cells #[.func (.func f0) fst cap] 27)).push (.cells #[.nilFunc] 69) = h5 at *
  refine ⟨fun vs h' => vs = [.bool true] ∧ h' = h5, ?_, ?_⟩
  · refine ldH_mk (cellAt_row h1) ?_
    simp only [asFnNil_func, ifB_false]
    refine ldH_mk (cellAt_row h2) ?_
    simp only [asFnNil_nil]
    exact ⟨by trivial, by trivial⟩
  · rintro v5 g6 h7 ⟨e, rfl⟩
    cases e
    simp only [asBool_bool, ifB_true]
    exact k _ _ (SeqL.none _) ho
theorem first_nil {K : Value → Heap → Prop} {h : Heap} {x : Int} (k : ∀ g' h', SeqL g' [] h' → Old h.size h h' → K g' h') : CallH Try.prog 23 #[.nilFunc, iv x] h K := by
  refine call23 ?_
  unfold F23
  obtain ⟨ho, h1, h2⟩ := push2 (h := h) (.cells #[.nilFunc] 27) (.cells #[.int .i64 x] 3)
  refine (show oneC .nilFunc _ from ?_)
  generalize (h.push (.cells #[.nilFunc] 27)).push (.cells #[.int .i64 x] 3) = h5 at *
  refine ⟨fun vs h' => vs = [.bool true] ∧ h' = h5, ?_, ?_⟩
  · refine ldH_mk (cellAt_row h1) ?_
    simp only [asFnNil_nil, ifB_true]
    exact ⟨by trivial, by trivial⟩
  · rintro v5 g6 h7 ⟨e, rfl⟩
    cases e
    simp only [asBool_bool, ifB_true]
    exact k _ _ (SeqL.none _) ho
theorem list_nil {K : Value → Heap → Prop} {h : Heap} (k : ∀ h', Old h.size h h' → K (.slice none 0 0) h') : CallH Try.prog 21 #[.nilFunc] h K := by
  refine call21 ?_
  unfold F21
  simp only [asFnNil_nil, ifB_true]
  intro h1 hsd
  exact k _ (((Old.refl _ _).push _ (Nat.le_refl _)).same hsd)
theorem fold_nil {K : Value → Heap → Prop} {h : Heap} {u : Int} {f : Value} (hf : oneC f True) (k : ∀ h', Old h.size h h' → K (iv u) h') : CallH Try.prog 54 #[.nilFunc, iv u, f] h K := by
  refine call54 ?_
  unfold F54
  obtain ⟨ho, h1, h2⟩ := push2 (h := h) (.cells #[.int .i64 u] 3) (.cells #[f] 42)
  refine oneC_mono (fun _ => ?_) hf
  generalize (h.push (.cells #[.int .i64 u] 3)).push (.cells #[f] 42) = h5 at *
  refine ⟨fun vs h' => vs = [.bool true] ∧ h' = h5, ?_, ?_⟩
  · simp only [asFnNil_nil, ifB_true]
    exact ⟨by trivial, by trivial⟩
  · rintro v5 g6 h7 ⟨e, rfl⟩
    cases e
    simp only [asBool_bool, ifB_true]
    refine ldH_mk (cellAt_row h1) ?_
    simp only [asInt_int]
    intro h10 hsd
    exact k _ (ho.same hsd)
theorem some_nil {K : Value → Heap → Prop} {h : Heap} {f : Value} (hf : oneC f True) (k : ∀ h', Old h.size h h' → K (.bool false) h') : CallH Try.prog 52 #[.nilFunc, f] h K := by
  refine call52 ?_
  unfold F52
  have o0 : Old h.size h (h.push (.cells #[.bool false] 4)) := (Old.refl _ _).push _ (Nat.le_refl _)
  have n0 := push_new h (.cells #[.bool false] 4)
  have s0 : (h.push (.cells #[.bool false] 4)).size = h.size + 1 := by simp
  generalize h.push (.cells #[.bool false] 4) = h0 at *
  refine callV_fn (only_nil hf fun g1 h1 H1 o1 => ?_)
  refine callV_fn (firstL_call H1 (by omega) fun g2 h2 H2 o2 => ?_)
  have o02 : Old h0.size h0 h2 := o1.trans (o2.mono o1.1)
  have hs2 : h.size + 1 ≤ h2.size := by have := o02.1; omega
  obtain ⟨f0, fst, cap, Ev, rfl, hs, he, hst⟩ := H2
  refine rangeH_own (n := 0) (xs := seqOf []) (Ev := Ev)
    (fun j _ h' => Old h0.size h0 h' ∧ Old h2.size h2 h') (fun _ _ _ => False)
    (show fnV (.func (.func f0) fst cap) from trivial) hs (fun _ _ => rfl) ?_ (fun _ _ _ _ _ _ _ x => x) (fun j w' h' x => hst _ _ x.2 he) ⟨o02, Old.refl _ _⟩ ?_ ?_ ⟨fun _ _ _ _ _ _ x => x.elim, trivial⟩
  · rintro j w' ha hb hs1 hsm _ ⟨x2, x3⟩
    exact ⟨⟨Nat.le_trans x2.1 hs1, fun b hb => (hsm b (by have := o02.1; omega)).trans (x2.2 b hb)⟩, ⟨Nat.le_trans x3.1 hs1, fun b hb => (hsm b hb).trans (x3.2 b hb)⟩⟩
  · intro M j w' h6 hj; omega
  · rintro M w' h8 hM hs1 hw ⟨x1, x2⟩
    have n8 : h8[h.size]? = some (.cells #[.bool false] 4) := (x1.2 _ (by omega)).trans n0
    refine stH_mk n8 (by simp) trivial ?_
    rintro h9 rfl
    refine ldH_mk (cellAt_row (set_new (by omega))) ?_
    intro h11 hsd
    exact k h11 (((o0.trans (x1.mono o0.1)).set _ _ (Nat.le_refl _)).same hsd)

theorem seqsNils_body {K : Value → Heap → Prop} {h : Heap} {u : Int} (k : ∀ h', Old h.size h h' → K (.bool true) h') : F11 K h u := by
  unfold F11
  refine callV_fn (only_nil trivial fun g1 h1 H1 o1 => ?_)
  refine callV_fn (listL_call H1 (by simp) fun a2 c2 h2 _ _ o2 => ?_)
  have p2 : Old h.size h h2 := o1.trans (o2.mono o1.1)
  simp only [asSlice_slice]
  refine callV_fn (count_call (by omega) (by omega) fun g3 h3 H3 o3 => ?_)
  have p3 : Old h.size h h3 := p2.trans (o3.mono p2.1)
  refine callV_fn (each_nil (H3.toL (L := [0, 1, 2]) rfl (fun k hk => ?_)) fun g4 h4 H4 o4 => ?_)
  · have : k = 0 ∨ k = 1 ∨ k = 2 := by simp at hk; omega
    rcases this with rfl | rfl | rfl <;> rfl
  have p4 : Old h.size h h4 := p3.trans (o4.mono p3.1)
  refine callV_fn (listL_call H4 (by simp) fun a5 c5 h5 _ _ o5 => ?_)
  have p5 : Old h.size h h5 := p4.trans (o5.mono p4.1)
  simp only [asSlice_slice]
  refine callV_fn (first_nil fun g6 h6 H6 o6 => ?_)
  have p6 : Old h.size h h6 := p5.trans (o6.mono p5.1)
  refine callV_fn (listL_call H6 (by simp) fun a7 c7 h7 _ _ o7 => ?_)
  have p7 : Old h.size h h7 := p6.trans (o7.mono p6.1)
  simp only [asSlice_slice]
  refine ifB_mk (fun _ => ?_) (fun hq => absurd hq (by decide))
  refine callV_fn (list_nil fun h8 o8 => ?_)
  have p8 : Old h.size h h8 := p7.trans (o8.mono p7.1)
  simp only [asSlice_slice]
  refine ifB_mk (fun _ => ?_) (fun hq => absurd hq (by decide))
  refine callV_fn (some_nil trivial fun h9 o9 => ?_)
  have p9 : Old h.size h h9 := p8.trans (o9.mono p8.1)
  simp only [asBool_bool, Bool.not_false, ifB_true]
  refine callV_fn (fold_nil trivial fun h10 o10 => ?_)
  have p10 : Old h.size h h10 := p9.trans (o10.mono p9.1)
  simp only [asInt_int, beq_self_eq_true, ifB_true]
  refine callV_fn (lives_call fun h' o => ?_)
  simp only [asBool_bool]
  exact k _ (p10.trans (o.mono p10.1))
end Go.Proofs.Ytgladmaagpcffaa
