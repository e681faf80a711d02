/- Part 8 of what the proofs of this seat rest on: see the last text of the claim. -/
import Derived.Test.YtlncjcbofgjcfaaQ920898943381
import Derived.Test.YtlncjcbofgjcfaaProg
section
/- Sequences: those that are kept, and what is made of each. -/
set_option linter.unusedSimpArgs false
set_option linter.unusedVariables false
set_option maxRecDepth 20000
namespace Go.Proofs.Ytlncjcbofgjcfaa

/-- A pure test of numbers. -/
def KeepAt (f : Value) (p : Int → Bool) (h : Heap) : Prop :=
  (∃ g x y, f = .func (.func g) x y) ∧ ∃ Ev : Heap → Prop, Ev h ∧ (∀ h h', Old h.size h h' → Ev h → Ev h') ∧
    ∀ (h : Heap) (x : Int) (K : Value → Heap → Prop), Ev h → (∀ h', Old h.size h h' → K (.bool (p x)) h') → callV Try.prog f #[.int .i64 x] h K
theorem KeepAt.old {f : Value} {p : Int → Bool} {h h' : Heap} (H : KeepAt f p h) (ho : Old h.size h h') : KeepAt f p h' := by
  obtain ⟨e, Ev, h1, h2, h3⟩ := H
  exact ⟨e, Ev, h2 _ _ ho h1, h2, h3⟩
/-- The same, on numbers that are in a set. -/
def KeepOn (f : Value) (D : Int → Prop) (p : Int → Bool) (h : Heap) : Prop :=
  (∃ g x y, f = .func (.func g) x y) ∧ ∃ Ev : Heap → Prop, Ev h ∧ (∀ h h', Old h.size h h' → Ev h → Ev h') ∧
    ∀ (h : Heap) (x : Int) (K : Value → Heap → Prop), Ev h → D x → (∀ h', Old h.size h h' → K (.bool (p x)) h') → callV Try.prog f #[.int .i64 x] h K
theorem KeepOn.old {f : Value} {D : Int → Prop} {p : Int → Bool} {h h' : Heap} (H : KeepOn f D p h) (ho : Old h.size h h') : KeepOn f D p h' := by
  obtain ⟨e, Ev, h1, h2, h3⟩ := H
  exact ⟨e, Ev, h2 _ _ ho h1, h2, h3⟩
theorem KeepAt.on {f : Value} {p : Int → Bool} {h : Heap} (H : KeepAt f p h) (D : Int → Prop) : KeepOn f D p h := by
  obtain ⟨e, Ev, h1, h2, h3⟩ := H
  exact ⟨e, Ev, h1, h2, fun h x K he _ k => h3 h x K he k⟩
/-- A pure map of numbers. -/
def MapAt (f : Value) (p : Int → Int) (h : Heap) : Prop :=
  (∃ g x y, f = .func (.func g) x y) ∧ ∃ Ev : Heap → Prop, Ev h ∧ (∀ h h', Old h.size h h' → Ev h → Ev h') ∧
    ∀ (h : Heap) (x : Int) (K : Value → Heap → Prop), Ev h → (∀ h', Old h.size h h' → K (iv (p x)) h') → callV Try.prog f #[.int .i64 x] h K
theorem MapAt.old {f : Value} {p : Int → Int} {h h' : Heap} (H : MapAt f p h) (ho : Old h.size h h') : MapAt f p h' := by
  obtain ⟨e, Ev, h1, h2, h3⟩ := H
  exact ⟨e, Ev, h2 _ _ ho h1, h2, h3⟩

theorem filter_at {L : List Int} {p : Int → Bool} {j : Nat} (hj : j < L.length) (hp : p L[j] = true) :
    ((L.take j).filter p).length < (L.filter p).length ∧ (L.filter p).getD ((L.take j).filter p).length 0 = L[j] := by
  have e : L.filter p = (L.take j).filter p ++ L[j] :: (L.drop (j + 1)).filter p := by
    conv => lhs; rw [← List.take_append_drop j L, List.filter_append, List.drop_eq_getElem_cons hj, List.filter_cons_of_pos hp]
  rw [e]
  constructor
  · simp
  · simp
theorem filter_succ {L : List Int} {p : Int → Bool} {j : Nat} (hj : j < L.length) : ((L.take (j + 1)).filter p).length = ((L.take j).filter p).length + (if p L[j] then 1 else 0) := by
  rw [List.take_succ_eq_append_getElem hj, List.filter_append, List.length_append]
  cases h : p L[j] <;> simp [h]

theorem keep_of_old {N M : Nat} {h h' : Heap} (o : Old h.size h h') : Keep N M h h' := ⟨o.1, fun b hb _ => o.2 b hb⟩
theorem keepMid_of_old {N M : Nat} {h h' : Heap} (o : Old h.size h h') (hM : M ≤ h.size) : KeepMid N M h h' := ⟨o.1, fun b _ hb => o.2 b (by omega)⟩
theorem KeepMid.trans {N M : Nat} {a b c : Heap} (x : KeepMid N M a b) (y : KeepMid N M b c) : KeepMid N M a c := ⟨Nat.le_trans x.1 y.1, fun i h1 h2 => (y.2 i h1 h2).trans (x.2 i h1 h2)⟩
theorem KeepMid.mono {N N' M : Nat} {a b : Heap} (x : KeepMid N M a b) (h : N ≤ N') : KeepMid N' M a b := ⟨x.1, fun i h1 h2 => x.2 i (by omega) h2⟩

/-- Those that are kept. -/
theorem only_seq {sp kp : Nat} {g f : Value} {L : List Int} {p : Int → Bool} {D : Int → Prop} {Ev Ek : Heap → Prop} (hD : ∀ x ∈ L, D x) (hg : fnV g) (hseq : SeqH Try.prog g L.length (seqOf L) Ev) (hst : ∀ h h', Old h.size h h' → Ev h → Ev h')
    (hsk : ∀ h h', Old h.size h h' → Ek h → Ek h') (hk : ∀ (h : Heap) (x : Int) (K : Value → Heap → Prop), Ek h → D x → (∀ h', Old h.size h h' → K (.bool (p x)) h') → callV Try.prog f #[.int .i64 x] h K) :
    SeqH Try.prog (.func (.func 99) #[] #[.pointer (some ⟨sp, 0, none⟩), .pointer (some ⟨kp, 0, none⟩)]) (L.filter p).length (seqOf (L.filter p))
      (fun h => cellAt h ⟨sp, 0, none⟩ = some g ∧ cellAt h ⟨kp, 0, none⟩ = some f ∧ Ev h ∧ Ek h) := by
  intro yf y1 y2 h N I X hN hev hok hy
  refine callV_cl ?_
  rw [cl3]
  refine call99 ?_
  unfold F99
  simp only [asPtr_some, oneC_func]
  have o1 : Old h.size h (h.push (.cells #[.func yf y1 y2] 135)) := (Old.refl _ _).push _ (Nat.le_refl _)
  have n1 := push_new h (.cells #[.func yf y1 y2] 135)
  have s1 : (h.push (.cells #[.func yf y1 y2] 135)).size = h.size + 1 := by simp
  generalize h.push (.cells #[.func yf y1 y2] 135) = h1 at *
  refine ldH_mk (cell_stable _ _ o1 hev.1) ?_
  refine rangeH_outer (h0 := h) (I := I) (X := X) (N := N) (n := L.length) (xs := seqOf L) (Ev := Ev) (fun _ h' => h'[h.size]? = some (.cells #[.func yf y1 y2] 135)) (fun j => ((L.take j).filter p).length) (L.filter p).length False
    hg hseq (fun _ _ => rfl) hN o1 hok (fun h' e => e.2.2.1) (hst _ _ o1 hev.2.2.1) (by simp) (by simp) (fun k ha hb hsame e => (hsame _ (Nat.le_refl _) (by omega)).trans e) n1 ?_ ?_ ?_
  · intro M j h4 hj hM hs hS hI
    rw [s1] at hM
    have e2 : (seqOf L j).getD 0 (.tuple #[]) = .int .i64 L[j] := by unfold seqOf; simp [hj]
    rw [e2]
    simp only [asInt_int]
    have hev4 := hok.env M _ h4 (by omega) hs hI
    refine ⟨fun vs h' => ∃ b : Bool, vs = [.bool b] ∧ KeepMid h1.size M h4 h' ∧ (if b then X M () h' else h'[h.size]? = some (.cells #[.func yf y1 y2] 135) ∧ I M ((L.take (j + 1)).filter p).length h'), ?_, ?_⟩
    · refine ldH_mk hev4.2.1 ?_
      refine hk _ _ _ hev4.2.2.2 (hD _ (List.getElem_mem _)) fun h10 o10 => ?_
      simp only [asBool_bool]
      have hI10 := hok.keepI M _ h4 h10 (by omega) hs hI (keep_of_old o10)
      have hS10 : h10[h.size]? = some (.cells #[.func yf y1 y2] 135) := (o10.2 _ (by omega)).trans hS
      refine ifB_mk (fun hp => ?_) (fun hp => ?_)
      · refine ldH_mk (cellAt_row hS10) ?_
        obtain ⟨f1, f2⟩ := filter_at hj hp
        have hyk := hy M _ h10 f1 (by omega) (by omega) (by have := o10.1; omega) hI10
        rw [show seqOf (L.filter p) ((L.take j).filter p).length = #[.int .i64 L[j]] by unfold seqOf; rw [f2]] at hyk
        refine callV_mono ?_ hyk
        rintro w h14 ⟨hm, hor⟩
        have hm4 : KeepMid h1.size M h4 h14 := (keepMid_of_old o10 hs).trans (hm.mono (by omega))
        rcases hor with ⟨rfl, hI'⟩ | ⟨rfl, hX⟩
        · simp only [asBool_bool, Bool.not_true]
          refine ⟨false, rfl, hm4, ?_⟩
          simp only [Bool.false_eq_true, if_false]
          refine ⟨(hm.2 _ (by omega) (by omega)).trans hS10, ?_⟩
          rw [filter_succ hj, if_pos hp]; exact hI'
        · simp only [asBool_bool, Bool.not_false]
          exact ⟨true, rfl, hm4, by simp only [if_true]; exact hX⟩
      · refine ⟨false, rfl, keepMid_of_old o10 hs, ?_⟩
        simp only [Bool.false_eq_true, if_false]
        refine ⟨hS10, ?_⟩
        rw [filter_succ hj, if_neg (by simp [hp])]; exact hI10
    · rintro v16 g17 h18 ⟨b, e, hm, hb⟩
      cases e
      simp only [asBool_bool]
      cases b with
      | true => simp only [ifB_true]; simp only [if_true] at hb; exact ⟨hm, trivial, .inl hb⟩
      | false => simp only [ifB_false]; simp only [Bool.false_eq_true, if_false] at hb; exact ⟨hm, by have := hm.1; omega, hb⟩
  · intro M h20 hM hs hI h21 hsd
    refine ⟨M, by omega, by omega, by rw [hsd.1]; exact hs, .inl ?_⟩
    exact hok.dI M _ h20 h21 (hsd.mono hN) hI
  · refine ⟨fun M h22 hM hs hX h23 hsd => ?_, trivial⟩
    refine ⟨M, by omega, by omega, by rw [hsd.1]; exact hs, .inr ?_⟩
    rcases hX with hX | hX
    · exact hok.dX M _ h22 h23 (hsd.mono hN) hX
    · exact hX.1.elim

theorem only_on {K : Value → Heap → Prop} {h : Heap} {g f : Value} {L : List Int} {D : Int → Prop} {p : Int → Bool} (H : SeqL g L h) (Hk : KeepOn f D p h) (hD : ∀ x ∈ L, D x) (k : ∀ g' h', SeqL g' (L.filter p) h' → Old h.size h h' → K g' h') :
    CallH Try.prog 83 #[g, f] h K := by
  obtain ⟨f0, fst, cap, Ev, rfl, hs, he, hst⟩ := H
  obtain ⟨⟨f1, a1, a2, rfl⟩, Ek, hk1, hk2, hk3⟩ := Hk
  refine call83 ?_
  unfold F83
  obtain ⟨ho, h1, h2⟩ := push2 (h := h) (.cells #[.func (.func f0) fst cap] 133) (.cells #[.func (.func f1) a1 a2] 135)
  simp only [oneC_func]
  rw [Array.size_push]
  generalize (h.push (.cells #[.func (.func f0) fst cap] 133)).push (.cells #[.func (.func f1) a1 a2] 135) = h5 at *
  refine ⟨fun vs h' => vs = [.bool false] ∧ h' = h5, ?_, ?_⟩
  · refine ldH_mk (cellAt_row h1) ?_
    simp only [asFnNil_func, ifB_false]
    refine ldH_mk (cellAt_row h2) ?_
    simp only [asFnNil_func]
    exact ⟨by trivial, by trivial⟩
  · rintro v5 g6 h7 ⟨e, rfl⟩
    cases e
    simp only [asBool_bool, ifB_false]
    exact k _ _ ⟨_, _, _, _, rfl, only_seq hD (show fnV (.func (.func f0) fst cap) from trivial) hs hst hk2 hk3, ⟨cellAt_row h1, cellAt_row h2, hst _ _ ho he, hk2 _ _ ho hk1⟩,
      fun a b o e => ⟨cell_stable _ _ o e.1, cell_stable _ _ o e.2.1, hst _ _ o e.2.2.1, hk2 _ _ o e.2.2.2⟩⟩ ho
theorem only_call {K : Value → Heap → Prop} {h : Heap} {g f : Value} {L : List Int} {p : Int → Bool} (H : SeqL g L h) (Hk : KeepAt f p h) (k : ∀ g' h', SeqL g' (L.filter p) h' → Old h.size h h' → K g' h') :
    CallH Try.prog 83 #[g, f] h K := only_on H (Hk.on fun _ => True) (fun _ _ => trivial) k
end Go.Proofs.Ytlncjcbofgjcfaa
end
section
/- Sequences: joined, looked through; of nothing there is nothing. -/
set_option linter.unusedSimpArgs false
set_option linter.unusedVariables false
set_option maxRecDepth 20000
namespace Go.Proofs.Ytlncjcbofgjcfaa

/-- A pure join of two numbers, on numbers that are in a set. -/
def JoinAt (f : Value) (D : Int → Prop) (w : Int → Int → Int) (h : Heap) : Prop :=
  (∃ g x y, f = .func (.func g) x y) ∧ ∃ Ev : Heap → Prop, Ev h ∧ (∀ h h', Old h.size h h' → Ev h → Ev h') ∧
    ∀ (h : Heap) (u x : Int) (K : Value → Heap → Prop), Ev h → D u → (∀ h', Old h.size h h' → K (iv (w u x)) h') → callV Try.prog f #[.int .i64 u, .int .i64 x] h K

/-- Is there one? -/
theorem some_on {K : Value → Heap → Prop} {h : Heap} {g f : Value} {L : List Int} {D : Int → Prop} {p : Int → Bool} (H : SeqL g L h) (Hk : KeepOn f D p h) (hD : ∀ x ∈ L, D x) (k : ∀ h', Old h.size h h' → K (.bool (L.any p)) h') :
    CallH Try.prog 78 #[g, f] h K := by
  refine call78 ?_
  unfold F78
  have o0 : Old h.size h (h.push (.cells #[.bool false] 4)) := (Old.refl _ _).push _ (Nat.le_refl _)
  have n0 := push_new h (.cells #[.bool false] 4)
  have s0 : (h.push (.cells #[.bool false] 4)).size = h.size + 1 := by simp
  generalize h.push (.cells #[.bool false] 4) = h0 at *
  refine callV_fn (only_on (H.old o0) (Hk.old o0) hD fun g1 h1 H1 o1 => ?_)
  refine callV_fn (firstL_call H1 (by omega) fun g2 h2 H2 o2 => ?_)
  have o02 : Old h0.size h0 h2 := o1.trans (o2.mono o1.1)
  have hs2 : h.size + 1 ≤ h2.size := by have := o02.1; omega
  obtain ⟨f0, fst, cap, Ev, rfl, hs, he, hst⟩ := H2
  generalize hL2 : (L.filter p).take (Int.toNat 1) = L2 at *
  have hany : L.any p = decide (0 < L2.length) := by
    rw [← hL2, List.length_take]
    cases hq : L.any p with
    | true =>
      obtain ⟨x, hx, hp⟩ := List.any_eq_true.1 hq
      have : 0 < (L.filter p).length := List.length_pos_of_mem (List.mem_filter.2 ⟨hx, hp⟩)
      rw [decide_eq_true (by simp; omega)]
    | false =>
      have : L.filter p = [] := List.filter_eq_nil_iff.2 fun x hx => by simpa using List.any_eq_false.1 hq x hx
      rw [this]; rfl
  refine rangeH_own (n := L2.length) (xs := seqOf L2) (Ev := Ev)
    (fun j _ h' => j = 0 ∧ Old h0.size h0 h' ∧ Old h2.size h2 h') (fun e _ h' => 0 < L2.length ∧ Old h.size h h' ∧ h'[h.size]? = some (.cells #[.bool true] 4))
    (show fnV (.func (.func f0) fst cap) from trivial) hs (fun _ _ => rfl) ?_ ?_ (fun j w' h' x => hst _ _ x.2.2 he) ⟨rfl, o02, Old.refl _ _⟩ ?_ ?_ ?_
  · rintro j w' ha hb hs1 hsm _ ⟨x1, x2, x3⟩
    exact ⟨x1, ⟨Nat.le_trans x2.1 hs1, fun b hb => (hsm b (by have := o02.1; omega)).trans (x2.2 b hb)⟩, ⟨Nat.le_trans x3.1 hs1, fun b hb => (hsm b hb).trans (x3.2 b hb)⟩⟩
  · rintro j w' ha hb hs1 hsm _ ⟨x0, x1, x2⟩
    exact ⟨x0, ⟨Nat.le_trans x1.1 hs1, fun b hb => (hsm b (by omega)).trans (x1.2 b hb)⟩, (hsm _ (by omega)).trans x2⟩
  · rintro M j w' h6 hj hM hs1 hw ⟨rfl, x1, x2⟩
    have n6 : h6[h.size]? = some (.cells #[.bool false] 4) := (x1.2 _ (by omega)).trans n0
    refine stH_mk n6 (by simp) trivial ?_
    rintro h7 rfl
    refine ⟨⟨by simp, fun b hb1 hb2 => set_old (by omega)⟩, trivial, by simp; exact x2.1, w', owned_keep hw fun b hb => set_old (by have := (hw b hb).1; omega), by omega, ?_, ?_⟩
    · exact (o0.trans (x1.mono o0.1)).set _ _ (Nat.le_refl _)
    · exact set_new (by omega)
  · rintro M w' h8 hM hs1 hw ⟨x0, x1, x2⟩
    have n8 : h8[h.size]? = some (.cells #[.bool false] 4) := (x1.2 _ (by omega)).trans n0
    refine stH_mk n8 (by simp) trivial ?_
    rintro h9 rfl
    refine ldH_mk (cellAt_row (set_new (by omega))) ?_
    intro h11 hsd
    have := k h11 (((o0.trans (x1.mono o0.1)).set _ _ (Nat.le_refl _)).same hsd)
    rwa [hany, decide_eq_false (by omega)] at this
  · refine ⟨?_, trivial⟩
    rintro M w' h12 hM hs1 hw ⟨x0, x1, x2⟩
    refine ldH_mk (cellAt_row x2) ?_
    intro h14 hsd
    have := k h14 (x1.same hsd)
    rwa [hany, decide_eq_true x0] at this

theorem some_call {K : Value → Heap → Prop} {h : Heap} {g f : Value} {L : List Int} {p : Int → Bool} (H : SeqL g L h) (Hk : KeepAt f p h) (k : ∀ h', Old h.size h h' → K (.bool (L.any p)) h') :
    CallH Try.prog 78 #[g, f] h K := some_on H (Hk.on fun _ => True) (fun _ _ => trivial) k

/-! ### of nothing -/
theorem SeqL.none (h : Heap) : SeqL (.func (.func 98) #[] #[]) [] h :=
  ⟨_, _, _, _, rfl, none_seq fun _ => 0, trivial, fun _ _ _ _ => trivial⟩
theorem only_nil {K : Value → Heap → Prop} {h : Heap} {f : Value} (hf : oneC f True) (k : ∀ g' h', SeqL g' [] h' → Old h.size h h' → K g' h') : CallH Try.prog 83 #[.nilFunc, f] h K := by
  refine call83 ?_
  unfold F83
  obtain ⟨ho, h1, h2⟩ := push2 (h := h) (.cells #[.nilFunc] 133) (.cells #[f] 135)
  refine (show oneC f _ from oneC_mono (fun _ => ?_) hf)
  generalize (h.push (.cells #[.nilFunc] 133)).push (.cells #[f] 135) = h5 at *
  refine ⟨fun vs h' => vs = [.bool true] ∧ h' = h5, ?_, ?_⟩
  · refine ldH_mk (cellAt_row h1) ?_
    simp only [asFnNil_nil, ifB_true]
    exact ⟨by trivial, by trivial⟩
  · rintro v5 g6 h7 ⟨e, rfl⟩
    cases e
    simp only [asBool_bool, ifB_true]
    exact k _ _ (SeqL.none _) ho
theorem first_nil {K : Value → Heap → Prop} {h : Heap} {x : Int} (k : ∀ g' h', SeqL g' [] h' → Old h.size h h' → K g' h') : CallH Try.prog 96 #[.nilFunc, iv x] h K := by
  refine call96 ?_
  unfold F96
  obtain ⟨ho, h1, h2⟩ := push2 (h := h) (.cells #[.nilFunc] 133) (.cells #[.int .i64 x] 3)
  refine (show oneC .nilFunc _ from ?_)
  generalize (h.push (.cells #[.nilFunc] 133)).push (.cells #[.int .i64 x] 3) = h5 at *
  refine ⟨fun vs h' => vs = [.bool true] ∧ h' = h5, ?_, ?_⟩
  · refine ldH_mk (cellAt_row h1) ?_
    simp only [asFnNil_nil, ifB_true]
    exact ⟨by trivial, by trivial⟩
  · rintro v5 g6 h7 ⟨e, rfl⟩
    cases e
    simp only [asBool_bool, ifB_true]
    exact k _ _ (SeqL.none _) ho
theorem some_nil {K : Value → Heap → Prop} {h : Heap} {f : Value} (hf : oneC f True) (k : ∀ h', Old h.size h h' → K (.bool false) h') : CallH Try.prog 78 #[.nilFunc, f] h K := by
  refine call78 ?_
  unfold F78
  have o0 : Old h.size h (h.push (.cells #[.bool false] 4)) := (Old.refl _ _).push _ (Nat.le_refl _)
  have n0 := push_new h (.cells #[.bool false] 4)
  have s0 : (h.push (.cells #[.bool false] 4)).size = h.size + 1 := by simp
  generalize h.push (.cells #[.bool false] 4) = h0 at *
  refine callV_fn (only_nil hf fun g1 h1 H1 o1 => ?_)
  refine callV_fn (firstL_call H1 (by omega) fun g2 h2 H2 o2 => ?_)
  have o02 : Old h0.size h0 h2 := o1.trans (o2.mono o1.1)
  have hs2 : h.size + 1 ≤ h2.size := by have := o02.1; omega
  obtain ⟨f0, fst, cap, Ev, rfl, hs, he, hst⟩ := H2
  refine rangeH_own (n := 0) (xs := seqOf []) (Ev := Ev)
    (fun j _ h' => Old h0.size h0 h' ∧ Old h2.size h2 h') (fun _ _ _ => False)
    (show fnV (.func (.func f0) fst cap) from trivial) hs (fun _ _ => rfl) ?_ (fun _ _ _ _ _ _ _ x => x) (fun j w' h' x => hst _ _ x.2 he) ⟨o02, Old.refl _ _⟩ ?_ ?_ ⟨fun _ _ _ _ _ _ x => x.elim, trivial⟩
  · rintro j w' ha hb hs1 hsm _ ⟨x2, x3⟩
    exact ⟨⟨Nat.le_trans x2.1 hs1, fun b hb => (hsm b (by have := o02.1; omega)).trans (x2.2 b hb)⟩, ⟨Nat.le_trans x3.1 hs1, fun b hb => (hsm b hb).trans (x3.2 b hb)⟩⟩
  · intro M j w' h6 hj; omega
  · rintro M w' h8 hM hs1 hw ⟨x1, x2⟩
    have n8 : h8[h.size]? = some (.cells #[.bool false] 4) := (x1.2 _ (by omega)).trans n0
    refine stH_mk n8 (by simp) trivial ?_
    rintro h9 rfl
    refine ldH_mk (cellAt_row (set_new (by omega))) ?_
    intro h11 hsd
    exact k h11 (((o0.trans (x1.mono o0.1)).set _ _ (Nat.le_refl _)).same hsd)

end Go.Proofs.Ytlncjcbofgjcfaa
end
section
/- The formulas of functions, printed by a program of mine. -/
set_option linter.unusedVariables false
set_option maxRecDepth 100000
namespace Go.Proofs.Ytlncjcbofgjcfaa



/-- jostle/real.Ahead -/
def F84 (K : Value → Heap → Prop) (h : Heap) (x0_0 : Int) (x0_1_0 : Int) (x0_1_1 : Int) (x0_1_2 : Int) (x0_2_0 : Int) (x0_2_1 : Int) (x0_2_2 : Int) (x0_3 : Int) (x0_4 : Int) (x1_0 : Int) (x1_1_0 : Int) (x1_1_1 : Int) (x1_1_2 : Int) (x1_2_0 : Int) (x1_2_1 : Int) (x1_2_2 : Int) (x1_3 : Int) (x1_4 : Int) : Prop :=
  (ldH (Array.push (Array.push h (.cells #[(.int .i64 x0_0), (.int .i64 x0_1_0), (.int .u32 x0_1_1), (.int .u32 x0_1_2), (.int .i64 x0_2_0), (.int .u32 x0_2_1), (.int .u32 x0_2_2), (.int .i64 x0_3), (.int .i64 x0_4)] 65)) (.cells #[(.int .i64 x1_0), (.int .i64 x1_1_0), (.int .u32 x1_1_1), (.int .u32 x1_1_2), (.int .i64 x1_2_0), (.int .u32 x1_2_1), (.int .u32 x1_2_2), (.int .i64 x1_3), (.int .i64 x1_4)] 65)) ⟨h.size, 8, none⟩ (fun v0 => (asInt .i64 v0 (fun n1 => (ifB (decide (n1 ≥ 0)) (ldH (Array.push (Array.push h (.cells #[(.int .i64 x0_0), (.int .i64 x0_1_0), (.int .u32 x0_1_1), (.int .u32 x0_1_2), (.int .i64 x0_2_0), (.int .u32 x0_2_1), (.int .u32 x0_2_2), (.int .i64 x0_3), (.int .i64 x0_4)] 65)) (.cells #[(.int .i64 x1_0), (.int .i64 x1_1_0), (.int .u32 x1_1_1), (.int .u32 x1_1_2), (.int .i64 x1_2_0), (.int .u32 x1_2_1), (.int .u32 x1_2_2), (.int .i64 x1_3), (.int .i64 x1_4)] 65)) ⟨h.size, 8, none⟩ (fun v2 => (asInt .i64 v2 (fun n3 => (ldH (Array.push (Array.push h (.cells #[(.int .i64 x0_0), (.int .i64 x0_1_0), (.int .u32 x0_1_1), (.int .u32 x0_1_2), (.int .i64 x0_2_0), (.int .u32 x0_2_1), (.int .u32 x0_2_2), (.int .i64 x0_3), (.int .i64 x0_4)] 65)) (.cells #[(.int .i64 x1_0), (.int .i64 x1_1_0), (.int .u32 x1_1_1), (.int .u32 x1_1_2), (.int .i64 x1_2_0), (.int .u32 x1_2_1), (.int .u32 x1_2_2), (.int .i64 x1_3), (.int .i64 x1_4)] 65)) ⟨(Array.push h (.cells #[(.int .i64 x0_0), (.int .i64 x0_1_0), (.int .u32 x0_1_1), (.int .u32 x0_1_2), (.int .i64 x0_2_0), (.int .u32 x0_2_1), (.int .u32 x0_2_2), (.int .i64 x0_3), (.int .i64 x0_4)] 65)).size, 7, none⟩ (fun v4 => (asInt .i64 v4 (fun n5 => (K (.bool (decide (n3 < n5))) (Array.push (Array.push h (.cells #[(.int .i64 x0_0), (.int .i64 x0_1_0), (.int .u32 x0_1_1), (.int .u32 x0_1_2), (.int .i64 x0_2_0), (.int .u32 x0_2_1), (.int .u32 x0_2_2), (.int .i64 x0_3), (.int .i64 x0_4)] 65)) (.cells #[(.int .i64 x1_0), (.int .i64 x1_1_0), (.int .u32 x1_1_1), (.int .u32 x1_1_2), (.int .i64 x1_2_0), (.int .u32 x1_2_1), (.int .u32 x1_2_2), (.int .i64 x1_3), (.int .i64 x1_4)] 65))))))))))) (K (.bool false) (Array.push (Array.push h (.cells #[(.int .i64 x0_0), (.int .i64 x0_1_0), (.int .u32 x0_1_1), (.int .u32 x0_1_2), (.int .i64 x0_2_0), (.int .u32 x0_2_1), (.int .u32 x0_2_2), (.int .i64 x0_3), (.int .i64 x0_4)] 65)) (.cells #[(.int .i64 x1_0), (.int .i64 x1_1_0), (.int .u32 x1_1_1), (.int .u32 x1_1_2), (.int .i64 x1_2_0), (.int .u32 x1_2_1), (.int .u32 x1_2_2), (.int .i64 x1_3), (.int .i64 x1_4)] 65))))))))
theorem vc84 (K : Value → Heap → Prop) (h : Heap) (x0_0 : Int) (x0_1_0 : Int) (x0_1_1 : Int) (x0_1_2 : Int) (x0_2_0 : Int) (x0_2_1 : Int) (x0_2_2 : Int) (x0_3 : Int) (x0_4 : Int) (x1_0 : Int) (x1_1_0 : Int) (x1_1_1 : Int) (x1_1_2 : Int) (x1_2_0 : Int) (x1_2_1 : Int) (x1_2_2 : Int) (x1_3 : Int) (x1_4 : Int) : vc Try.prog (bodyOf Try.f84) (retQ Try.prog Try.f84.results.toList (hasRange (bodyOf Try.f84)) h.size K) (envL [(.agg #[(.int .i64 x0_0), (.int .i64 x0_1_0), (.int .u32 x0_1_1), (.int .u32 x0_1_2), (.int .i64 x0_2_0), (.int .u32 x0_2_1), (.int .u32 x0_2_2), (.int .i64 x0_3), (.int .i64 x0_4)]), (.agg #[(.int .i64 x1_0), (.int .i64 x1_1_0), (.int .u32 x1_1_1), (.int .u32 x1_1_2), (.int .i64 x1_2_0), (.int .u32 x1_2_1), (.int .u32 x1_2_2), (.int .i64 x1_3), (.int .i64 x1_4)])]) h = F84 K h x0_0 x0_1_0 x0_1_1 x0_1_2 x0_2_0 x0_2_1 x0_2_2 x0_3 x0_4 x1_0 x1_1_0 x1_1_1 x1_1_2 x1_2_0 x1_2_1 x1_2_2 x1_3 x1_4 := by kernel_rfl
theorem ok84 : fnOk Try.prog Try.f84 2 = true := by kernel_rfl
theorem call84 {K : Value → Heap → Prop} {h : Heap} {x0_0 : Int} {x0_1_0 : Int} {x0_1_1 : Int} {x0_1_2 : Int} {x0_2_0 : Int} {x0_2_1 : Int} {x0_2_2 : Int} {x0_3 : Int} {x0_4 : Int} {x1_0 : Int} {x1_1_0 : Int} {x1_1_1 : Int} {x1_1_2 : Int} {x1_2_0 : Int} {x1_2_1 : Int} {x1_2_2 : Int} {x1_3 : Int} {x1_4 : Int} (H : F84 K h x0_0 x0_1_0 x0_1_1 x0_1_2 x0_2_0 x0_2_1 x0_2_2 x0_3 x0_4 x1_0 x1_1_0 x1_1_1 x1_1_2 x1_2_0 x1_2_1 x1_2_2 x1_3 x1_4) : CallH Try.prog 84 #[(.agg #[(.int .i64 x0_0), (.int .i64 x0_1_0), (.int .u32 x0_1_1), (.int .u32 x0_1_2), (.int .i64 x0_2_0), (.int .u32 x0_2_1), (.int .u32 x0_2_2), (.int .i64 x0_3), (.int .i64 x0_4)]), (.agg #[(.int .i64 x1_0), (.int .i64 x1_1_0), (.int .u32 x1_1_1), (.int .u32 x1_1_2), (.int .i64 x1_2_0), (.int .u32 x1_2_1), (.int .u32 x1_2_2), (.int .i64 x1_3), (.int .i64 x1_4)])] h K :=
  callH_mk Try.func84 ok84 (Eq.mp (vc84 K h x0_0 x0_1_0 x0_1_1 x0_1_2 x0_2_0 x0_2_1 x0_2_2 x0_3 x0_4 x1_0 x1_1_0 x1_1_1 x1_1_2 x1_2_0 x1_2_1 x1_2_2 x1_3 x1_4).symm H)

/-- jostle/jostleref14.Ahead -/
def F71 (K : Value → Heap → Prop) (h : Heap) (x0_0 : Int) (x0_1_0 : Int) (x0_1_1 : Int) (x0_1_2 : Int) (x0_2_0 : Int) (x0_2_1 : Int) (x0_2_2 : Int) (x0_3 : Int) (x0_4 : Int) (x1_0 : Int) (x1_1_0 : Int) (x1_1_1 : Int) (x1_1_2 : Int) (x1_2_0 : Int) (x1_2_1 : Int) (x1_2_2 : Int) (x1_3 : Int) (x1_4 : Int) : Prop :=
  (ldH (Array.push (Array.push h (.cells #[(.int .i64 x0_0), (.int .i64 x0_1_0), (.int .u32 x0_1_1), (.int .u32 x0_1_2), (.int .i64 x0_2_0), (.int .u32 x0_2_1), (.int .u32 x0_2_2), (.int .i64 x0_3), (.int .i64 x0_4)] 65)) (.cells #[(.int .i64 x1_0), (.int .i64 x1_1_0), (.int .u32 x1_1_1), (.int .u32 x1_1_2), (.int .i64 x1_2_0), (.int .u32 x1_2_1), (.int .u32 x1_2_2), (.int .i64 x1_3), (.int .i64 x1_4)] 65)) ⟨h.size, 8, none⟩ (fun v0 => (asInt .i64 v0 (fun n1 => (ifB (decide (n1 < 0)) (K (.bool false) (Array.push (Array.push h (.cells #[(.int .i64 x0_0), (.int .i64 x0_1_0), (.int .u32 x0_1_1), (.int .u32 x0_1_2), (.int .i64 x0_2_0), (.int .u32 x0_2_1), (.int .u32 x0_2_2), (.int .i64 x0_3), (.int .i64 x0_4)] 65)) (.cells #[(.int .i64 x1_0), (.int .i64 x1_1_0), (.int .u32 x1_1_1), (.int .u32 x1_1_2), (.int .i64 x1_2_0), (.int .u32 x1_2_1), (.int .u32 x1_2_2), (.int .i64 x1_3), (.int .i64 x1_4)] 65))) (ldH (Array.push (Array.push h (.cells #[(.int .i64 x0_0), (.int .i64 x0_1_0), (.int .u32 x0_1_1), (.int .u32 x0_1_2), (.int .i64 x0_2_0), (.int .u32 x0_2_1), (.int .u32 x0_2_2), (.int .i64 x0_3), (.int .i64 x0_4)] 65)) (.cells #[(.int .i64 x1_0), (.int .i64 x1_1_0), (.int .u32 x1_1_1), (.int .u32 x1_1_2), (.int .i64 x1_2_0), (.int .u32 x1_2_1), (.int .u32 x1_2_2), (.int .i64 x1_3), (.int .i64 x1_4)] 65)) ⟨h.size, 8, none⟩ (fun v2 => (asInt .i64 v2 (fun n3 => (ldH (Array.push (Array.push h (.cells #[(.int .i64 x0_0), (.int .i64 x0_1_0), (.int .u32 x0_1_1), (.int .u32 x0_1_2), (.int .i64 x0_2_0), (.int .u32 x0_2_1), (.int .u32 x0_2_2), (.int .i64 x0_3), (.int .i64 x0_4)] 65)) (.cells #[(.int .i64 x1_0), (.int .i64 x1_1_0), (.int .u32 x1_1_1), (.int .u32 x1_1_2), (.int .i64 x1_2_0), (.int .u32 x1_2_1), (.int .u32 x1_2_2), (.int .i64 x1_3), (.int .i64 x1_4)] 65)) ⟨(Array.push h (.cells #[(.int .i64 x0_0), (.int .i64 x0_1_0), (.int .u32 x0_1_1), (.int .u32 x0_1_2), (.int .i64 x0_2_0), (.int .u32 x0_2_1), (.int .u32 x0_2_2), (.int .i64 x0_3), (.int .i64 x0_4)] 65)).size, 7, none⟩ (fun v4 => (asInt .i64 v4 (fun n5 => (K (.bool (decide (n3 < n5))) (Array.push (Array.push h (.cells #[(.int .i64 x0_0), (.int .i64 x0_1_0), (.int .u32 x0_1_1), (.int .u32 x0_1_2), (.int .i64 x0_2_0), (.int .u32 x0_2_1), (.int .u32 x0_2_2), (.int .i64 x0_3), (.int .i64 x0_4)] 65)) (.cells #[(.int .i64 x1_0), (.int .i64 x1_1_0), (.int .u32 x1_1_1), (.int .u32 x1_1_2), (.int .i64 x1_2_0), (.int .u32 x1_2_1), (.int .u32 x1_2_2), (.int .i64 x1_3), (.int .i64 x1_4)] 65))))))))))))))))
theorem vc71 (K : Value → Heap → Prop) (h : Heap) (x0_0 : Int) (x0_1_0 : Int) (x0_1_1 : Int) (x0_1_2 : Int) (x0_2_0 : Int) (x0_2_1 : Int) (x0_2_2 : Int) (x0_3 : Int) (x0_4 : Int) (x1_0 : Int) (x1_1_0 : Int) (x1_1_1 : Int) (x1_1_2 : Int) (x1_2_0 : Int) (x1_2_1 : Int) (x1_2_2 : Int) (x1_3 : Int) (x1_4 : Int) : vc Try.prog (bodyOf Try.f71) (retQ Try.prog Try.f71.results.toList (hasRange (bodyOf Try.f71)) h.size K) (envL [(.agg #[(.int .i64 x0_0), (.int .i64 x0_1_0), (.int .u32 x0_1_1), (.int .u32 x0_1_2), (.int .i64 x0_2_0), (.int .u32 x0_2_1), (.int .u32 x0_2_2), (.int .i64 x0_3), (.int .i64 x0_4)]), (.agg #[(.int .i64 x1_0), (.int .i64 x1_1_0), (.int .u32 x1_1_1), (.int .u32 x1_1_2), (.int .i64 x1_2_0), (.int .u32 x1_2_1), (.int .u32 x1_2_2), (.int .i64 x1_3), (.int .i64 x1_4)])]) h = F71 K h x0_0 x0_1_0 x0_1_1 x0_1_2 x0_2_0 x0_2_1 x0_2_2 x0_3 x0_4 x1_0 x1_1_0 x1_1_1 x1_1_2 x1_2_0 x1_2_1 x1_2_2 x1_3 x1_4 := by kernel_rfl
theorem ok71 : fnOk Try.prog Try.f71 2 = true := by kernel_rfl
theorem call71 {K : Value → Heap → Prop} {h : Heap} {x0_0 : Int} {x0_1_0 : Int} {x0_1_1 : Int} {x0_1_2 : Int} {x0_2_0 : Int} {x0_2_1 : Int} {x0_2_2 : Int} {x0_3 : Int} {x0_4 : Int} {x1_0 : Int} {x1_1_0 : Int} {x1_1_1 : Int} {x1_1_2 : Int} {x1_2_0 : Int} {x1_2_1 : Int} {x1_2_2 : Int} {x1_3 : Int} {x1_4 : Int} (H : F71 K h x0_0 x0_1_0 x0_1_1 x0_1_2 x0_2_0 x0_2_1 x0_2_2 x0_3 x0_4 x1_0 x1_1_0 x1_1_1 x1_1_2 x1_2_0 x1_2_1 x1_2_2 x1_3 x1_4) : CallH Try.prog 71 #[(.agg #[(.int .i64 x0_0), (.int .i64 x0_1_0), (.int .u32 x0_1_1), (.int .u32 x0_1_2), (.int .i64 x0_2_0), (.int .u32 x0_2_1), (.int .u32 x0_2_2), (.int .i64 x0_3), (.int .i64 x0_4)]), (.agg #[(.int .i64 x1_0), (.int .i64 x1_1_0), (.int .u32 x1_1_1), (.int .u32 x1_1_2), (.int .i64 x1_2_0), (.int .u32 x1_2_1), (.int .u32 x1_2_2), (.int .i64 x1_3), (.int .i64 x1_4)])] h K :=
  callH_mk Try.func71 ok71 (Eq.mp (vc71 K h x0_0 x0_1_0 x0_1_1 x0_1_2 x0_2_0 x0_2_1 x0_2_2 x0_3 x0_4 x1_0 x1_1_0 x1_1_1 x1_1_2 x1_2_0 x1_2_1 x1_2_2 x1_3 x1_4).symm H)


/-- jostle/jostleref14.May -/
def F51 (K : Value → Heap → Prop) (h : Heap) (x0a : Option Addr) (x0l x0c : Nat) (x1a : Option Addr) (x1l x1c : Nat) : Prop :=
  (exI (fun I0 => (exM (fun m1 => ((I0 [(.bool false), (.int .i64 0)] h) ∧ (∀ v2 : Value, (∀ v3 : Value, (∀ g4 : Env, (∀ h5 : Heap, ((I0 [v2, v3] h5) → (asInt .i64 v3 (fun n6 => (ifB (decide (n6 < ((x1l : Nat) : Int))) (exI (fun I7 => ((asInt .i64 v3 (fun n8 => (((0 : Int) ≤ n8) ∧ (((n8 : Int) < ((x1l : Nat) : Int)) ∧ (asPtr (.pointer x1a) (fun a9 => (ldH h5 (Addr.add a9 (n8.toNat * 1)) (fun v10 => (asInt .i64 v10 (fun n11 => (ifB (decide (n11 < 0)) (I7 [(.bool true), (.bool true)] h5) (asInt .i64 v3 (fun n12 => (((0 : Int) ≤ n12) ∧ (((n12 : Int) < ((x1l : Nat) : Int)) ∧ (asPtr (.pointer x1a) (fun a13 => (ldH h5 (Addr.add a13 (n12.toNat * 1)) (fun v14 => (asInt .i64 v14 (fun n15 => (ifB (decide (n15 ≥ ((x0l : Nat) : Int))) (I7 [(.bool (decide (n15 ≥ ((x0l : Nat) : Int)))), (.bool true)] h5) (asInt .i64 v3 (fun n16 => (((0 : Int) ≤ n16) ∧ (((n16 : Int) < ((x1l : Nat) : Int)) ∧ (asPtr (.pointer x1a) (fun a17 => (ldH h5 (Addr.add a17 (n16.toNat * 1)) (fun v18 => (asInt .i64 v18 (fun n19 => (callV Try.prog (.func (.func 70) #[] #[]) #[(.slice x1a x1l x1c), (.int .i64 n19)] h5 (fun v20 h21 => (asInt .i64 v20 (fun n22 => (I7 [(.bool (decide (n15 ≥ ((x0l : Nat) : Int)))), (.bool (decide (n22 > 1)))] h21))))))))))))))))))))))))))))))))))))) ∧ (∀ v23 : Value, (∀ v24 : Value, (∀ g25 : Env, (∀ h26 : Heap, ((I7 [v23, v24] h26) → (asBool v24 (fun b27 => (ifB b27 (K (.bool false) h26) (asInt .i64 v3 (fun n28 => ((I0 [v2, (.int .i64 (IntKind.wrap .i64 (n28 + 1)))] h26) ∧ ((m1 [v2, (.int .i64 (IntKind.wrap .i64 (n28 + 1)))] h26) < (m1 [v2, v3] h5)))))))))))))))) (exI (fun I29 => (exM (fun m30 => ((I29 [v2, (.int .i64 0), (.tuple #[])] h5) ∧ (∀ v31 : Value, (∀ v32 : Value, (∀ v33 : Value, (∀ g34 : Env, (∀ h35 : Heap, ((I29 [v31, v32, v33] h35) → (asInt .i64 v32 (fun n36 => (ifB (decide (n36 < ((x1l : Nat) : Int))) (asInt .i64 v32 (fun n37 => (exI (fun I38 => (exM (fun m39 => ((I38 [v31, (.int .i64 (IntKind.wrap .i64 (n37 + 1)))] h35) ∧ (∀ v40 : Value, (∀ v41 : Value, (∀ g42 : Env, (∀ h43 : Heap, ((I38 [v40, v41] h43) → (asInt .i64 v41 (fun n44 => (ifB (decide (n44 < ((x1l : Nat) : Int))) (asInt .i64 v41 (fun n45 => (((0 : Int) ≤ n45) ∧ (((n45 : Int) < ((x1l : Nat) : Int)) ∧ (asPtr (.pointer x1a) (fun a46 => (ldH h43 (Addr.add a46 (n45.toNat * 1)) (fun v47 => (asInt .i64 v47 (fun n48 => (((0 : Int) ≤ n48) ∧ (((n48 : Int) < ((x0l : Nat) : Int)) ∧ (asPtr (.pointer x0a) (fun a49 => (ldH h43 (Addr.add a49 (n48.toNat * 9)) (fun v50 => (ldH h43 (Addr.add (Addr.add a49 (n48.toNat * 9)) 1) (fun v51 => (ldH h43 (Addr.add (Addr.add a49 (n48.toNat * 9)) 2) (fun v52 => (ldH h43 (Addr.add (Addr.add a49 (n48.toNat * 9)) 3) (fun v53 => (ldH h43 (Addr.add (Addr.add a49 (n48.toNat * 9)) 4) (fun v54 => (ldH h43 (Addr.add (Addr.add a49 (n48.toNat * 9)) 5) (fun v55 => (ldH h43 (Addr.add (Addr.add a49 (n48.toNat * 9)) 6) (fun v56 => (ldH h43 (Addr.add (Addr.add a49 (n48.toNat * 9)) 7) (fun v57 => (ldH h43 (Addr.add (Addr.add a49 (n48.toNat * 9)) 8) (fun v58 => (asInt .i64 v32 (fun n59 => (((0 : Int) ≤ n59) ∧ (((n59 : Int) < ((x1l : Nat) : Int)) ∧ (asPtr (.pointer x1a) (fun a60 => (ldH h43 (Addr.add a60 (n59.toNat * 1)) (fun v61 => (asInt .i64 v61 (fun n62 => (((0 : Int) ≤ n62) ∧ (((n62 : Int) < ((x0l : Nat) : Int)) ∧ (asPtr (.pointer x0a) (fun a63 => (ldH h43 (Addr.add a63 (n62.toNat * 9)) (fun v64 => (ldH h43 (Addr.add (Addr.add a63 (n62.toNat * 9)) 1) (fun v65 => (ldH h43 (Addr.add (Addr.add a63 (n62.toNat * 9)) 2) (fun v66 => (ldH h43 (Addr.add (Addr.add a63 (n62.toNat * 9)) 3) (fun v67 => (ldH h43 (Addr.add (Addr.add a63 (n62.toNat * 9)) 4) (fun v68 => (ldH h43 (Addr.add (Addr.add a63 (n62.toNat * 9)) 5) (fun v69 => (ldH h43 (Addr.add (Addr.add a63 (n62.toNat * 9)) 6) (fun v70 => (ldH h43 (Addr.add (Addr.add a63 (n62.toNat * 9)) 7) (fun v71 => (ldH h43 (Addr.add (Addr.add a63 (n62.toNat * 9)) 8) (fun v72 => (callV Try.prog (.func (.func 71) #[] #[]) #[(.agg #[v50, v51, v52, v53, v54, v55, v56, v57, v58]), (.agg #[v64, v65, v66, v67, v68, v69, v70, v71, v72])] h43 (fun v73 h74 => (asBool v73 (fun b75 => (ifB b75 (K (.bool false) h74) (asInt .i64 v41 (fun n76 => ((I38 [v40, (.int .i64 (IntKind.wrap .i64 (n76 + 1)))] h74) ∧ ((m39 [v40, (.int .i64 (IntKind.wrap .i64 (n76 + 1)))] h74) < (m39 [v40, v41] h43)))))))))))))))))))))))))))))))))))))))))))))))))))))))))))))))))))))))))) (asInt .i64 v32 (fun n77 => ((I29 [v40, (.int .i64 (IntKind.wrap .i64 (n77 + 1))), v41] h43) ∧ ((m30 [v40, (.int .i64 (IntKind.wrap .i64 (n77 + 1))), v41] h43) < (m30 [v31, v32, v33] h35)))))))))))))))))))) (exI (fun I78 => (exM (fun m79 => ((I78 [v31, (.int .i64 0)] h35) ∧ (∀ v80 : Value, (∀ v81 : Value, (∀ g82 : Env, (∀ h83 : Heap, ((I78 [v80, v81] h83) → (asInt .i64 v81 (fun n84 => (ifB (decide (n84 < ((x0l : Nat) : Int))) (exI (fun I85 => ((asInt .i64 v81 (fun n86 => (((0 : Int) ≤ n86) ∧ (((n86 : Int) < ((x0l : Nat) : Int)) ∧ (asPtr (.pointer x0a) (fun a87 => (ldH h83 (Addr.add (Addr.add a87 (n86.toNat * 9)) 8) (fun v88 => (asInt .i64 v88 (fun n89 => (ifB (decide (n89 ≥ 0)) (asInt .i64 v81 (fun n90 => (callV Try.prog (.func (.func 70) #[] #[]) #[(.slice x1a x1l x1c), (.int .i64 n90)] h83 (fun v91 h92 => (asInt .i64 v91 (fun n93 => (I85 [(.bool (n93 == 0))] h92))))))) (I85 [(.bool false)] h83)))))))))))) ∧ (∀ v94 : Value, (∀ g95 : Env, (∀ h96 : Heap, ((I85 [v94] h96) → (asBool v94 (fun b97 => (ifB b97 (K (.bool false) h96) (asInt .i64 v81 (fun n98 => ((I78 [v80, (.int .i64 (IntKind.wrap .i64 (n98 + 1)))] h96) ∧ ((m79 [v80, (.int .i64 (IntKind.wrap .i64 (n98 + 1)))] h96) < (m79 [v80, v81] h83))))))))))))))) (K (.bool true) h83)))))))))))))))))))))))))))))))))))))))))
theorem vc51 (K : Value → Heap → Prop) (h : Heap) (x0a : Option Addr) (x0l x0c : Nat) (x1a : Option Addr) (x1l x1c : Nat) : vc Try.prog (bodyOf Try.f51) (retQ Try.prog Try.f51.results.toList (hasRange (bodyOf Try.f51)) h.size K) (envL [(.slice x0a x0l x0c), (.slice x1a x1l x1c)]) h = F51 K h x0a x0l x0c x1a x1l x1c := by kernel_rfl
theorem ok51 : fnOk Try.prog Try.f51 2 = true := by kernel_rfl
theorem call51 {K : Value → Heap → Prop} {h : Heap} {x0a : Option Addr} {x0l x0c : Nat} {x1a : Option Addr} {x1l x1c : Nat} (H : F51 K h x0a x0l x0c x1a x1l x1c) : CallH Try.prog 51 #[(.slice x0a x0l x0c), (.slice x1a x1l x1c)] h K :=
  callH_mk Try.func51 ok51 (Eq.mp (vc51 K h x0a x0l x0c x1a x1l x1c).symm H)



/-- jostle/jostleref14.times -/
def F70 (K : Value → Heap → Prop) (h : Heap) (x0a : Option Addr) (x0l x0c : Nat) (x1 : Int) : Prop :=
  (exI (fun I0 => (exM (fun m1 => ((I0 [(.int .i64 0), (.int .i64 0)] h) ∧ (∀ v2 : Value, (∀ v3 : Value, (∀ g4 : Env, (∀ h5 : Heap, ((I0 [v2, v3] h5) → (asInt .i64 v3 (fun n6 => (ifB (decide (n6 < ((x0l : Nat) : Int))) (exI (fun I7 => ((asInt .i64 v3 (fun n8 => (((0 : Int) ≤ n8) ∧ (((n8 : Int) < ((x0l : Nat) : Int)) ∧ (asPtr (.pointer x0a) (fun a9 => (ldH h5 (Addr.add a9 (n8.toNat * 1)) (fun v10 => (asInt .i64 v10 (fun n11 => (ifB (n11 == x1) (asInt .i64 v2 (fun n12 => (I7 [(.int .i64 (IntKind.wrap .i64 (n12 + 1)))] h5))) (I7 [v2] h5)))))))))))) ∧ (∀ v13 : Value, (∀ g14 : Env, (∀ h15 : Heap, ((I7 [v13] h15) → (asInt .i64 v3 (fun n16 => ((I0 [v13, (.int .i64 (IntKind.wrap .i64 (n16 + 1)))] h15) ∧ ((m1 [v13, (.int .i64 (IntKind.wrap .i64 (n16 + 1)))] h15) < (m1 [v2, v3] h5)))))))))))) (asInt .i64 v2 (fun n17 => (K (.int .i64 n17) h5))))))))))))))))
theorem vc70 (K : Value → Heap → Prop) (h : Heap) (x0a : Option Addr) (x0l x0c : Nat) (x1 : Int) : vc Try.prog (bodyOf Try.f70) (retQ Try.prog Try.f70.results.toList (hasRange (bodyOf Try.f70)) h.size K) (envL [(.slice x0a x0l x0c), (.int .i64 x1)]) h = F70 K h x0a x0l x0c x1 := by kernel_rfl
theorem ok70 : fnOk Try.prog Try.f70 2 = true := by kernel_rfl
theorem call70 {K : Value → Heap → Prop} {h : Heap} {x0a : Option Addr} {x0l x0c : Nat} {x1 : Int} (H : F70 K h x0a x0l x0c x1) : CallH Try.prog 70 #[(.slice x0a x0l x0c), (.int .i64 x1)] h K :=
  callH_mk Try.func70 ok70 (Eq.mp (vc70 K h x0a x0l x0c x1).symm H)

/-- jostle/real.Next -/
def F68 (K : Value → Heap → Prop) (h : Heap) (x0a : Option Addr) (x0l x0c : Nat) (x1a : Option Addr) (x1l x1c : Nat) : Prop :=
  (stH (Array.push (Array.push (Array.push h (.cells #[(.slice x0a x0l x0c)] 59)) (.cells #[(.slice x1a x1l x1c)] 89)) (.cells #[.nilFunc] 135)) ⟨(Array.push (Array.push h (.cells #[(.slice x0a x0l x0c)] 59)) (.cells #[(.slice x1a x1l x1c)] 89)).size, 0, none⟩ (.func (.func 82) #[] #[(.pointer (some ⟨(Array.push h (.cells #[(.slice x0a x0l x0c)] 59)).size, 0, none⟩))]) (fun h0 => (ldH (Array.push h0 (.cells #[(.slice none 0 0)] 66)) ⟨h.size, 0, none⟩ (fun v1 => (asSlice v1 (fun o2 k3 k4 => (ldH (Array.push h0 (.cells #[(.slice none 0 0)] 66)) ⟨(Array.push (Array.push h (.cells #[(.slice x0a x0l x0c)] 59)) (.cells #[(.slice x1a x1l x1c)] 89)).size, 0, none⟩ (fun v5 => (callV Try.prog (.func (.func 79) #[] #[]) #[(.int .i64 0), (.int .i64 ((k3 : Nat) : Int))] (Array.push h0 (.cells #[(.slice none 0 0)] 66)) (fun v6 h7 => (((cellAt h7 ⟨(Array.push (Array.push h (.cells #[(.slice x0a x0l x0c)] 59)) (.cells #[(.slice x1a x1l x1c)] 89)).size, 0, none⟩) = (some v5)) ∧ (callV Try.prog (.func (.func 83) #[] #[]) #[v6, v5] h7 (fun v8 h9 => (rangeH Try.prog v8 1 h9 (fun I10 vs11 h12 => (asInt .i64 (vs11.getD 0 (.tuple #[])) (fun n13 => (ldH h12 ⟨h.size, 0, none⟩ (fun v14 => (asSlice v14 (fun o15 k16 k17 => (exI (fun I18 => (exM (fun m19 => ((I18 [(.tuple #[]), (.int .i64 0)] h12) ∧ (∀ v20 : Value, (∀ v21 : Value, (∀ g22 : Env, (∀ h23 : Heap, ((I18 [v20, v21] h23) → (asInt .i64 v21 (fun n24 => (ifB (decide (n24 < ((k16 : Nat) : Int))) (asInt .i64 v21 (fun n25 => (exI (fun I26 => ((ifB (n25 != n13) (ldH h23 ⟨(Array.push (Array.push h (.cells #[(.slice x0a x0l x0c)] 59)) (.cells #[(.slice x1a x1l x1c)] 89)).size, 0, none⟩ (fun v27 => (callV Try.prog v27 #[(.int .i64 n25)] h23 (fun v28 h29 => (asBool v28 (fun b30 => (ifB b30 (ldH h29 ⟨h.size, 0, none⟩ (fun v31 => (asSlice v31 (fun o32 k33 k34 => (((0 : Int) ≤ n25) ∧ (((n25 : Int) < ((k33 : Nat) : Int)) ∧ (asPtr (.pointer o32) (fun a35 => (ldH h29 (Addr.add a35 (n25.toNat * 9)) (fun v36 => (ldH h29 (Addr.add (Addr.add a35 (n25.toNat * 9)) 1) (fun v37 => (ldH h29 (Addr.add (Addr.add a35 (n25.toNat * 9)) 2) (fun v38 => (ldH h29 (Addr.add (Addr.add a35 (n25.toNat * 9)) 3) (fun v39 => (ldH h29 (Addr.add (Addr.add a35 (n25.toNat * 9)) 4) (fun v40 => (ldH h29 (Addr.add (Addr.add a35 (n25.toNat * 9)) 5) (fun v41 => (ldH h29 (Addr.add (Addr.add a35 (n25.toNat * 9)) 6) (fun v42 => (ldH h29 (Addr.add (Addr.add a35 (n25.toNat * 9)) 7) (fun v43 => (ldH h29 (Addr.add (Addr.add a35 (n25.toNat * 9)) 8) (fun v44 => (ldH h29 ⟨h.size, 0, none⟩ (fun v45 => (asSlice v45 (fun o46 k47 k48 => (((0 : Int) ≤ n13) ∧ (((n13 : Int) < ((k47 : Nat) : Int)) ∧ (asPtr (.pointer o46) (fun a49 => (ldH h29 (Addr.add a49 (n13.toNat * 9)) (fun v50 => (ldH h29 (Addr.add (Addr.add a49 (n13.toNat * 9)) 1) (fun v51 => (ldH h29 (Addr.add (Addr.add a49 (n13.toNat * 9)) 2) (fun v52 => (ldH h29 (Addr.add (Addr.add a49 (n13.toNat * 9)) 3) (fun v53 => (ldH h29 (Addr.add (Addr.add a49 (n13.toNat * 9)) 4) (fun v54 => (ldH h29 (Addr.add (Addr.add a49 (n13.toNat * 9)) 5) (fun v55 => (ldH h29 (Addr.add (Addr.add a49 (n13.toNat * 9)) 6) (fun v56 => (ldH h29 (Addr.add (Addr.add a49 (n13.toNat * 9)) 7) (fun v57 => (ldH h29 (Addr.add (Addr.add a49 (n13.toNat * 9)) 8) (fun v58 => (callV Try.prog (.func (.func 84) #[] #[]) #[(.agg #[v36, v37, v38, v39, v40, v41, v42, v43, v44]), (.agg #[v50, v51, v52, v53, v54, v55, v56, v57, v58])] h29 (fun v59 h60 => (asBool v59 (fun b61 => (I26 [(.bool b30), (.bool b61)] h60))))))))))))))))))))))))))))))))))))))))))))))))))))))))) (I26 [(.bool b30), (.bool false)] h29)))))))) (I26 [(.bool false), (.bool false)] h23)) ∧ (∀ v62 : Value, (∀ v63 : Value, (∀ g64 : Env, (∀ h65 : Heap, ((I26 [v62, v63] h65) → (asBool v63 (fun b66 => (ifB b66 (I10 .normal h65) (asInt .i64 v21 (fun n67 => ((I18 [(.int .i64 n25), (.int .i64 (IntKind.wrap .i64 (n67 + 1)))] h65) ∧ ((m19 [(.int .i64 n25), (.int .i64 (IntKind.wrap .i64 (n67 + 1)))] h65) < (m19 [v20, v21] h23)))))))))))))))))) (ldH h23 ⟨h0.size, 0, none⟩ (fun v68 => (asSlice v68 (fun o69 k70 k71 => (appH Try.prog #[66, 66] 66 #[(.slice o69 k70 k71), (.slice (some ⟨h23.size, 0, none⟩) 1 1)] (Array.push h23 (.cells #[(.int .i64 n13)] 3)) (fun v72 h73 => (asSlice v72 (fun o74 k75 k76 => (stH h73 ⟨h0.size, 0, none⟩ (.slice o74 k75 k76) (fun h77 => (I10 .normal h77))))))))))))))))))))))))))))))) (fun h78 => (ldH h78 ⟨h0.size, 0, none⟩ (fun v79 => (asSlice v79 (fun o80 k81 k82 => (∀ h83 : Heap, ((SameD h.size h78 h83) → (K (.slice o80 k81 k82) h83)))))))) []))))))))))))))
theorem vc68 (K : Value → Heap → Prop) (h : Heap) (x0a : Option Addr) (x0l x0c : Nat) (x1a : Option Addr) (x1l x1c : Nat) : vc Try.prog (bodyOf Try.f68) (retQ Try.prog Try.f68.results.toList (hasRange (bodyOf Try.f68)) h.size K) (envL [(.slice x0a x0l x0c), (.slice x1a x1l x1c)]) h = F68 K h x0a x0l x0c x1a x1l x1c := by kernel_rfl
theorem ok68 : fnOk Try.prog Try.f68 2 = true := by kernel_rfl
theorem call68 {K : Value → Heap → Prop} {h : Heap} {x0a : Option Addr} {x0l x0c : Nat} {x1a : Option Addr} {x1l x1c : Nat} (H : F68 K h x0a x0l x0c x1a x1l x1c) : CallH Try.prog 68 #[(.slice x0a x0l x0c), (.slice x1a x1l x1c)] h K :=
  callH_mk Try.func68 ok68 (Eq.mp (vc68 K h x0a x0l x0c x1a x1l x1c).symm H)

/-- jostle/real.Next$1 -/
def F82 (K : Value → Heap → Prop) (h : Heap) (x0 : Int) (c0 : Value) : Prop :=
  (asPtr c0 (fun a0 => (ldH h a0 (fun v1 => (asSlice v1 (fun o2 k3 k4 => (ifB (decide (x0 ≥ ((k3 : Nat) : Int))) (K (.bool true) h) (asPtr c0 (fun a5 => (ldH h a5 (fun v6 => (asSlice v6 (fun o7 k8 k9 => (((0 : Int) ≤ x0) ∧ (((x0 : Int) < ((k8 : Nat) : Int)) ∧ (asPtr (.pointer o7) (fun a10 => (ldH h (Addr.add a10 (x0.toNat * 1)) (fun v11 => (asBool v11 (fun b12 => (K (.bool (!b12)) h))))))))))))))))))))))
theorem vc82 (K : Value → Heap → Prop) (h : Heap) (x0 : Int) (c0 : Value) : vc Try.prog (bodyOf Try.f82) (retQ Try.prog Try.f82.results.toList (hasRange (bodyOf Try.f82)) h.size K) (envL [(.int .i64 x0), c0]) h = F82 K h x0 c0 := by kernel_rfl
theorem ok82 : fnOk Try.prog Try.f82 2 = true := by kernel_rfl
theorem call82 {K : Value → Heap → Prop} {h : Heap} {x0 : Int} {c0 : Value} (H : F82 K h x0 c0) : CallH Try.prog 82 #[(.int .i64 x0), c0] h K :=
  callH_mk Try.func82 ok82 (Eq.mp (vc82 K h x0 c0).symm H)

end Go.Proofs.Ytlncjcbofgjcfaa
end
section
/- Operations, and which is ahead of which. -/
set_option linter.unusedSimpArgs false
set_option linter.unusedVariables false
set_option maxRecDepth 20000
namespace Go.Proofs.Ytlncjcbofgjcfaa

theorem pairB {v : Value} {b b' : Bool} (h : b = b') : [v, Value.bool b] = [v, .bool b'] := by rw [h]
structure Op9 where
  th : Int
  op : Int
  key : Int
  val : Int
  kind : Int
  ak : Int
  av : Int
  fr : Int
  to : Int
abbrev Op9.cells (o : Op9) : List Value := [.int .i64 o.th, .int .i64 o.op, .int .u32 o.key, .int .u32 o.val, .int .i64 o.kind, .int .u32 o.ak, .int .u32 o.av, .int .i64 o.fr, .int .i64 o.to]
theorem flat9 {ops : List Op9} : ∀ {i : Nat} (hi : i < ops.length) {j : Nat} {v : Value}, (ops[i]).cells[j]? = some v → (ops.flatMap Op9.cells)[i * 9 + j]? = some v := by
  induction ops with
  | nil => intro i hi; simp at hi
  | cons o ops ih =>
    intro i hi j v hv
    have hj : ∀ o : Op9, o.cells.length = 9 := fun _ => rfl
    rw [List.flatMap_cons]
    cases i with
    | zero =>
      have hlt : j < o.cells.length := (List.getElem?_eq_some_iff.1 hv).1
      rw [List.getElem?_append_left (by omega)]
      simpa using hv
    | succ i =>
      rw [List.getElem?_append_right (by rw [hj]; omega), hj]
      have := ih (i := i) (by simpa using hi) (j := j) (v := v) (by simpa using hv)
      rw [show (i + 1) * 9 + j - 9 = i * 9 + j by omega]
      exact this
/-- A slice of operations, to be read. -/
structure SlO (h : Heap) (a : Option Addr) (l c : Nat) (ops : List Op9) : Prop where
  s : Sees h a (ops.flatMap Op9.cells)
  len : ops.length = l
  cap : l ≤ c
theorem SlO.old {h h' : Heap} {a : Option Addr} {l c : Nat} {ops : List Op9} (H : SlO h a l c ops) (ho : Old h.size h h') : SlO h' a l c ops := ⟨H.s.old ho, H.len, H.cap⟩
theorem SlO.at {h : Heap} {a : Option Addr} {l c : Nat} {ops : List Op9} (H : SlO h a l c ops) {i : Nat} (hi : i < ops.length) :
    ∃ ad, a = some ad ∧ cellAt h (ad.add (i * 9)) = some (.int .i64 (ops[i]).th) ∧ ∀ j v, (ops[i]).cells[j]? = some v → cellAt h ((ad.add (i * 9)).add j) = some v := by
  obtain ⟨ad, e, hc⟩ := H.s (i * 9 + 0) _ (flat9 hi (j := 0) rfl)
  refine ⟨ad, e, hc, fun j v hv => ?_⟩
  obtain ⟨ad', e', hc'⟩ := H.s (i * 9 + j) v (flat9 hi hv)
  rw [e] at e'; cases e'
  rw [add_add]; exact hc'

def ahead (a b : Op9) : Bool := decide (0 ≤ a.to) && decide (a.to < b.fr)
theorem ahead_call {K : Value → Heap → Prop} {h : Heap} (a b : Op9) (k : ∀ h', Old h.size h h' → K (.bool (ahead a b)) h') : CallH Try.prog 84 #[.agg a.cells.toArray, .agg b.cells.toArray] h K := by
  refine call84 ?_
  unfold F84
  have p1 := pushed h a.cells.toArray 65
  rw [show h.push (.cells #[.int .i64 a.th, .int .i64 a.op, .int .u32 a.key, .int .u32 a.val, .int .i64 a.kind, .int .u32 a.ak, .int .u32 a.av, .int .i64 a.fr, .int .i64 a.to] 65) = h.push (.cells a.cells.toArray 65) from rfl]
  generalize h.push (.cells a.cells.toArray 65) = h1 at *
  have p2 := pushed h1 b.cells.toArray 65
  rw [show h1.push (.cells #[.int .i64 b.th, .int .i64 b.op, .int .u32 b.key, .int .u32 b.val, .int .i64 b.kind, .int .u32 b.ak, .int .u32 b.av, .int .i64 b.fr, .int .i64 b.to] 65) = h1.push (.cells b.cells.toArray 65) from rfl]
  generalize h1.push (.cells b.cells.toArray 65) = h2 at *
  have s1 := p1.size
  have c2 := (p2.old h.size (by omega)).trans p1.new
  have o2 := k h2 (p1.toOld.trans (p2.toOld.mono (by omega)))
  unfold ahead at o2
  refine ldR c2 rfl ?_
  simp only [asInt_int]
  refine ifB_dec (fun hq => ?_) (fun hq => ?_)
  · rw [decide_eq_true (p := 0 ≤ a.to) (by omega), Bool.true_and] at o2
    refine ldR c2 rfl ?_
    simp only [asInt_int]
    refine ldR p2.new rfl ?_
    simp only [asInt_int]
    exact o2
  · rwa [decide_eq_false (p := 0 ≤ a.to) (by omega), Bool.false_and] at o2
theorem ahead14_call {K : Value → Heap → Prop} {h : Heap} (a b : Op9) (k : ∀ h', Old h.size h h' → K (.bool (ahead a b)) h') : CallH Try.prog 71 #[.agg a.cells.toArray, .agg b.cells.toArray] h K := by
  refine call71 ?_
  unfold F71
  have p1 := pushed h a.cells.toArray 65
  rw [show h.push (.cells #[.int .i64 a.th, .int .i64 a.op, .int .u32 a.key, .int .u32 a.val, .int .i64 a.kind, .int .u32 a.ak, .int .u32 a.av, .int .i64 a.fr, .int .i64 a.to] 65) = h.push (.cells a.cells.toArray 65) from rfl]
  generalize h.push (.cells a.cells.toArray 65) = h1 at *
  have p2 := pushed h1 b.cells.toArray 65
  rw [show h1.push (.cells #[.int .i64 b.th, .int .i64 b.op, .int .u32 b.key, .int .u32 b.val, .int .i64 b.kind, .int .u32 b.ak, .int .u32 b.av, .int .i64 b.fr, .int .i64 b.to] 65) = h1.push (.cells b.cells.toArray 65) from rfl]
  generalize h1.push (.cells b.cells.toArray 65) = h2 at *
  have s1 := p1.size
  have c2 := (p2.old h.size (by omega)).trans p1.new
  have o2 := k h2 (p1.toOld.trans (p2.toOld.mono (by omega)))
  unfold ahead at o2
  refine ldR c2 rfl ?_
  simp only [asInt_int]
  refine ifB_dec (fun hq => ?_) (fun hq => ?_)
  · rwa [decide_eq_false (p := 0 ≤ a.to) (by omega), Bool.false_and] at o2
  · rw [decide_eq_true (p := 0 ≤ a.to) (by omega), Bool.true_and] at o2
    refine ldR c2 rfl ?_
    simp only [asInt_int]
    refine ldR p2.new rfl ?_
    simp only [asInt_int]
    exact o2

theorem times14_call {K : Value → Heap → Prop} {h : Heap} {a : Option Addr} {l c : Nat} {xs : List Int} {x : Int} (H : RI h a l c xs) (hl : l < 2 ^ 60) (k : K (iv ((xs.count x : Nat) : Int)) h) :
    CallH Try.prog 70 #[.slice a l c, iv x] h K := by
  refine call70 ?_
  unfold F70
  have hlen := H.len
  refine ⟨fun vs h' => ∃ i : Nat, vs = [iv (((xs.take i).count x : Nat) : Int), iv i] ∧ h' = h ∧ i ≤ l, fun vs _ => (match vs with | [_, .int _ n] => l - n.toNat | _ => 0), ⟨0, rfl, rfl, Nat.zero_le _⟩, ?_⟩
  rintro v2 v3 g h5 ⟨i, e, rfl, hi⟩
  cases e
  simp only [asInt_int]
  refine ifB_dec (fun hlt => ?_) (fun hge => ?_)
  · have hlt' : i < xs.length := by omega
    have hcl := (xs.take i).count_le_length (a := x)
    simp only [List.length_take] at hcl
    refine ⟨fun vs h' => vs = [iv (((xs.take (i + 1)).count x : Nat) : Int)] ∧ h' = h5, ?_, ?_⟩
    · obtain ⟨ad, rfl, hc⟩ := H.at hlt'
      refine ⟨by omega, hlt, ?_⟩
      simp only [asPtr_some, Int.toNat_natCast, Nat.mul_one]
      refine ldH_mk hc ?_
      simp only [asInt_int]
      refine ifB_mk (fun hq => ⟨?_, by trivial⟩) (fun hq => ⟨?_, by trivial⟩)
      · rw [count_take_succ hlt', if_pos (by simpa using hq), nat_wrap1 (by omega)]
      · rw [count_take_succ hlt', if_neg (by simpa using hq)]; rfl
    · rintro v13 g14 h15 ⟨e, rfl⟩
      cases e
      rw [nat_wrap1 (by omega)]
      refine ⟨⟨i + 1, rfl, rfl, by omega⟩, ?_⟩
      show l - ((i + 1 : Nat) : Int).toNat < l - (i : Int).toNat
      omega
  · have hi' : xs.length ≤ i := by omega
    rw [List.take_of_length_le hi']
    exact k

/-! ### may an order be? -/
def opAt (ops : List Op9) (x : Int) : Op9 := ops.getD x.toNat ⟨0, 0, 0, 0, 0, 0, 0, 0, 0⟩
theorem opAt_nat {ops : List Op9} {i : Nat} (hi : i < ops.length) : opAt ops (i : Int) = ops[i] := by simp [opAt, hi]
structure MayOk (ops : List Op9) (order : List Int) : Prop where
  rng : ∀ i (h : i < order.length), 0 ≤ order[i] ∧ order[i] < ops.length
  once : ∀ i (h : i < order.length), order.count order[i] ≤ 1
  ord : ∀ i j (hi : i < order.length) (hj : j < order.length), i < j → ahead (opAt ops order[j]) (opAt ops order[i]) = false
  all : ∀ k (h : k < ops.length), 0 ≤ (ops[k]).to → order.count (k : Int) ≠ 0

theorem SlO.int {h : Heap} {a : Option Addr} {l c : Nat} {ops : List Op9} (H : SlO h a l c ops) {x : Int} (h0 : 0 ≤ x) (h1 : x < ops.length) :
    ∃ ad, a = some ad ∧ cellAt h (ad.add (x.toNat * 9)) = some (.int .i64 (opAt ops x).th) ∧ ∀ j v, (opAt ops x).cells[j]? = some v → cellAt h ((ad.add (x.toNat * 9)).add j) = some v := by
  have hi : x.toNat < ops.length := by omega
  obtain ⟨ad, e, h1, h2⟩ := H.at hi
  have : opAt ops x = ops[x.toNat] := by simp [opAt, hi]
  rw [this]
  exact ⟨ad, e, h1, h2⟩

theorem may14_call {K : Value → Heap → Prop} {h : Heap} {a a2 : Option Addr} {l c l2 c2 : Nat} {ops : List Op9} {order : List Int} (H : SlO h a l c ops) (hl : l ≤ 1000) (H2 : RI h a2 l2 c2 order) (hl2 : l2 ≤ 1000)
    (k1 : MayOk ops order → ∀ h', Old h.size h h' → K (.bool true) h') (k0 : ¬ MayOk ops order → ∀ h', Old h.size h h' → K (.bool false) h') : CallH Try.prog 51 #[.slice a l c, .slice a2 l2 c2] h K := by
  refine call51 ?_
  unfold F51
  have hlen := H.len
  have hlen2 := H2.len
  refine ⟨fun vs h' => ∃ i : Nat, vs = [.bool false, iv i] ∧ h' = h ∧ i ≤ l2 ∧ (∀ j (hj : j < order.length), j < i → (0 ≤ order[j] ∧ order[j] < ops.length) ∧ order.count order[j] ≤ 1), fun vs _ => (match vs with | [_, .int _ n] => l2 - n.toNat | _ => 0),
    ⟨0, rfl, rfl, Nat.zero_le _, fun j _ hj => by omega⟩, ?_⟩
  rintro v2 v3 g h5 ⟨i, e, rfl, hi, hall⟩
  cases e
  simp only [asInt_int]
  refine ifB_dec (fun hlt => ?_) (fun hge => ?_)
  · have hlt' : i < order.length := by omega
    obtain ⟨ad, rfl, hc⟩ := H2.at hlt'
    refine ⟨fun vs h' => ∃ v, vs = [v, .bool (decide (¬ ((0 ≤ order[i] ∧ order[i] < ops.length) ∧ order.count order[i] ≤ 1)))] ∧ h' = h5, ?_, ?_⟩
    · refine ⟨by omega, hlt, ?_⟩
      simp only [asPtr_some, Int.toNat_natCast, Nat.mul_one]
      refine ldH_mk hc ?_
      simp only [asInt_int]
      refine ifB_dec (fun hq => ⟨_, pairB (decide_eq_true (by omega)).symm, by trivial⟩) (fun hq => ?_)
      refine ⟨by omega, hlt, ldH_mk hc ?_⟩
      simp only [asInt_int]
      refine ifB_dec (fun hq2 => ⟨_, pairB (decide_eq_true (by omega)).symm, by trivial⟩) (fun hq2 => ?_)
      refine ⟨by omega, hlt, ldH_mk hc ?_⟩
      simp only [asInt_int]
      refine callV_fn (times14_call H2 (by omega) ?_)
      simp only [asInt_int]
      exact ⟨_, pairB (decide_eq_decide.2 (by omega)), by trivial⟩
    · rintro v23 v24 g25 h26 ⟨v, e, rfl⟩
      cases e
      simp only [asBool_bool]
      refine ifB_dec (fun hq => ?_) (fun hq => ?_)
      · exact k0 (fun m => hq ⟨m.rng i hlt', m.once i hlt'⟩) _ (Old.refl _ _)
      · rw [nat_wrap1 (by omega)]
        refine ⟨⟨i + 1, rfl, by trivial, by omega, fun j hj hji => ?_⟩, ?_⟩
        · by_cases e : j < i
          · exact hall j hj e
          · obtain rfl : j = i := by omega
            exact Decidable.of_not_not hq
        · show l2 - ((i + 1 : Nat) : Int).toNat < l2 - (i : Int).toNat
          omega
  · have hrng : ∀ j (hj : j < order.length), 0 ≤ order[j] ∧ order[j] < ops.length := fun j hj => (hall j hj (by omega)).1
    have honce : ∀ j (hj : j < order.length), order.count order[j] ≤ 1 := fun j hj => (hall j hj (by omega)).2
    refine ⟨fun vs h' => ∃ v, ∃ i : Nat, vs = [.bool false, iv i, v] ∧ Old h5.size h5 h' ∧ i ≤ l2 ∧ (∀ i' j (hi' : i' < order.length) (hj : j < order.length), i' < i → i' < j → ahead (opAt ops order[j]) (opAt ops order[i']) = false),
      fun vs _ => (match vs with | [_, .int _ n, _] => l2 - n.toNat | _ => 0), ⟨_, 0, rfl, Old.refl _ _, Nat.zero_le _, fun i' j _ _ h => by omega⟩, ?_⟩
    rintro v31 v32 v33 g34 h35 ⟨v, i', e, o35, hi', hord⟩
    cases e
    simp only [asInt_int]
    refine ifB_dec (fun hlt => ?_) (fun hge2 => ?_)
    · have hlt' : i' < order.length := by omega
      rw [nat_wrap1 (by omega)]
      refine ⟨fun vs h' => ∃ j : Nat, vs = [.bool false, iv j] ∧ Old h5.size h5 h' ∧ i' < j ∧ j ≤ l2 ∧ (∀ j' (hj : j' < order.length), j' < j → i' < j' → ahead (opAt ops order[j']) (opAt ops order[i']) = false),
        fun vs _ => (match vs with | [_, .int _ n] => l2 - n.toNat | _ => 0), ⟨i' + 1, rfl, o35, by omega, by omega, fun j' _ h1 h2 => by omega⟩, ?_⟩
      rintro v40 v41 g42 h43 ⟨j, e, o43, hij, hj, hin⟩
      cases e
      simp only [asInt_int]
      refine ifB_dec (fun hlt2 => ?_) (fun hge3 => ?_)
      · have hj' : j < order.length := by omega
        have r43 := H.old o43
        have q43 := H2.old o43
        obtain ⟨ad, rfl, hc⟩ := q43.at hj'
        obtain ⟨ad', e', hc'⟩ := q43.at hlt'
        cases e'
        obtain ⟨g1, g2⟩ := hrng j hj'
        obtain ⟨g3, g4⟩ := hrng i' hlt'
        obtain ⟨bd, rfl, b0, b1⟩ := r43.int g1 g2
        obtain ⟨bd', e', d0, d1⟩ := r43.int g3 g4
        cases e'
        refine ⟨by omega, hlt2, ?_⟩
        simp only [asPtr_some, Int.toNat_natCast, Nat.mul_one]
        refine ldH_mk hc ?_
        simp only [asInt_int]
        refine ⟨by omega, by omega, ldH_mk b0 ?_⟩
        iterate 8 (refine ldH_mk (b1 _ _ rfl) ?_)
        refine ⟨by omega, by omega, ldH_mk hc' ?_⟩
        simp only [asInt_int]
        refine ⟨by omega, by omega, ldH_mk d0 ?_⟩
        iterate 8 (refine ldH_mk (d1 _ _ rfl) ?_)
        refine callV_fn (ahead14_call (opAt ops order[j]) (opAt ops order[i']) fun h74 o74 => ?_)
        have p74 := o43.trans (o74.mono o43.1)
        simp only [asBool_bool]
        refine ifB_mk (fun hq => ?_) (fun hq => ?_)
        · exact k0 (fun m => by rw [m.ord i' j hlt' hj' hij] at hq; cases hq) _ p74
        · rw [nat_wrap1 (by omega)]
          refine ⟨⟨j + 1, rfl, p74, by omega, by omega, fun j' hj'' h1 h2 => ?_⟩, ?_⟩
          · by_cases e : j' < j
            · exact hin j' hj'' e h2
            · obtain rfl : j' = j := by omega
              exact hq
          · show l2 - ((j + 1 : Nat) : Int).toNat < l2 - (j : Int).toNat
            omega
      · refine ⟨⟨_, i' + 1, rfl, o43, by omega, fun i2 j' hi2 hj' h1 h2 => ?_⟩, ?_⟩
        · by_cases e : i2 < i'
          · exact hord i2 j' hi2 hj' e h2
          · obtain rfl : i2 = i' := by omega
            exact hin j' hj' (by omega) h2
        · show l2 - ((i' + 1 : Nat) : Int).toNat < l2 - (i' : Int).toNat
          omega
    · have hord' : ∀ i j (hi : i < order.length) (hj : j < order.length), i < j → ahead (opAt ops order[j]) (opAt ops order[i]) = false := fun i j hi hj hij => hord i j hi hj (by omega) hij
      refine ⟨fun vs h' => ∃ i : Nat, vs = [.bool false, iv i] ∧ Old h5.size h5 h' ∧ i ≤ l ∧ (∀ k (hk : k < ops.length), k < i → 0 ≤ (ops[k]).to → order.count (k : Int) ≠ 0), fun vs _ => (match vs with | [_, .int _ n] => l - n.toNat | _ => 0),
        ⟨0, rfl, o35, Nat.zero_le _, fun k _ h => by omega⟩, ?_⟩
      rintro v80 v81 g82 h83 ⟨m, e, o83, hm, hal⟩
      cases e
      simp only [asInt_int]
      refine ifB_dec (fun hlt => ?_) (fun hge3 => ?_)
      · have hm' : m < ops.length := by omega
        obtain ⟨bd, rfl, b0, b1⟩ := (H.old o83).at hm'
        refine ⟨fun vs h' => vs = [.bool (decide (¬ (0 ≤ (ops[m]).to → order.count (m : Int) ≠ 0)))] ∧ h' = h83, ?_, ?_⟩
        · refine ⟨by omega, hlt, ?_⟩
          simp only [asPtr_some, Int.toNat_natCast]
          refine ldH_mk (b1 8 _ rfl) ?_
          simp only [asInt_int]
          refine ifB_dec (fun hq => ?_) (fun hq => ⟨?_, by trivial⟩)
          · refine callV_fn (times14_call (H2.old o83) (by omega) ?_)
            simp only [asInt_int]
            refine ⟨?_, by trivial⟩
            congr 2
            by_cases hz : order.count (m : Int) = 0
            · rw [hz, decide_eq_true (p := ¬ _) (fun f => f (by omega) rfl)]; rfl
            · rw [decide_eq_false (p := ¬ _) (fun f => f fun _ => hz)]
              simp only [beq_eq_false_iff_ne, ne_eq]; omega
          · rw [decide_eq_false (p := ¬ _) (fun f => f fun h => absurd h (by omega))]
        · rintro v94 g95 h96 ⟨e, rfl⟩
          cases e
          simp only [asBool_bool]
          refine ifB_dec (fun hq => ?_) (fun hq => ?_)
          · exact k0 (fun q => hq (q.all m hm')) _ o83
          · rw [nat_wrap1 (by omega)]
            refine ⟨⟨m + 1, rfl, o83, by omega, fun k hk h1 => ?_⟩, ?_⟩
            · by_cases e : k < m
              · exact hal k hk e
              · obtain rfl : k = m := by omega
                exact Decidable.of_not_not hq
            · show l - ((m + 1 : Nat) : Int).toNat < l - (m : Int).toNat
              omega
      · exact k1 ⟨hrng, honce, hord', fun k hk => hal k hk (by omega)⟩ _ o83
end Go.Proofs.Ytlncjcbofgjcfaa
end
section
/- Bags: what calls are answered; the bodies of BagMins, BagPlays. -/
set_option linter.unusedSimpArgs false
set_option linter.unusedVariables false
set_option maxRecDepth 20000
namespace Go.Proofs.Ytlncjcbofgjcfaa

def c3c (c : C3) : List Value := c.cells
theorem c3c_len : ∀ x : C3, (c3c x).length = 3 := fun _ => rfl
theorem c3_one (e : C3) : ∀ y ∈ c3c e, oneC y True := by
  intro y hy
  have : y ∈ [Value.int .i64 e.o, .int .u32 e.k, .int .u32 e.v] := hy
  simp only [List.mem_cons, List.not_mem_nil, or_false] at this
  rcases this with rfl | rfl | rfl <;> exact trivial
theorem blk_none (b : Nat) : ¬ blk none b := fun hb => by obtain ⟨_, e, _⟩ := hb; cases e
theorem st3' {h : Heap} {b : Nat} {v0 v1 v2 : Value} {K : Heap → Prop} (H : stN h ⟨b, 0, none⟩ 0 [v0, v1, v2] K) :
    stH h ⟨b, 0, none⟩ v0 fun h => stH h ⟨b, 1, none⟩ v1 fun h => stH h ⟨b, 2, none⟩ v2 K := H

def ansP (ps : List Pr) (c : C3) : C3 := if rightC c then (if c.o = 0 then ⟨0, 0, 0⟩ else match minsP ps with | [] => ⟨3, 0, 0⟩ | p :: _ => ⟨2, p.1, p.2⟩) else ⟨1, 0, 0⟩
theorem bagAnswer_call {K : Value → Heap → Prop} {h : Heap} {p : Nat} {a : Option Addr} {ps : List Pr} {c : C3} (H : BagF h p a ps) (hl : ps.length ≤ 2 ^ 40) (k : ∀ h', Old h.size h h' → K (.agg (ansP ps c).cells.toArray) h') :
    CallH Try.prog 54 #[.pointer (some ⟨p, 0, none⟩), .agg c.cells.toArray] h K := by
  refine call54 ?_
  unfold F54
  have p1 := pushed h c.cells.toArray 40
  rw [show h.push (.cells #[.int .i64 c.o, .int .u32 c.k, .int .u32 c.v] 40) = h.push (.cells c.cells.toArray 40) from rfl]
  generalize h.push (.cells c.cells.toArray 40) = h1 at *
  have s1 := p1.size
  have p2 := pushed h1 zeroC.cells.toArray 42
  rw [show h1.push (.cells #[.int .i64 0, .int .u32 0, .int .u32 0] 42) = h1.push (.cells zeroC.cells.toArray 42) from rfl]
  generalize h1.push (.cells zeroC.cells.toArray 42) = h2 at *
  have s2 := p2.size
  have e2 : h2[h.size]? = some (.cells c.cells.toArray 40) := (p2.old _ (by omega)).trans p1.new
  have o2 : Old h.size h h2 := p1.toOld.trans (p2.toOld.mono (by omega))
  refine ldR e2 rfl (ldR e2 rfl (ldR e2 rfl ?_))
  refine callV_fn (callRight_call (c := c) fun h4 o4 => ?_)
  simp only [asBool_bool]
  have ok4 : Old h.size h h4 := o2.trans (o4.mono o2.1)
  have a4 := (o4.2 _ (by omega)).trans p2.new
  have c4 := (o4.2 _ (by omega)).trans e2
  have fin : ∀ (x : C3) (h5 : Heap), Old h.size h h5 → h5[h1.size]? = some (.cells zeroC.cells.toArray 42) → ansP ps c = x →
      stH h5 ⟨h1.size, 0, none⟩ (.int .i64 x.o) fun h6 => stH h6 ⟨h1.size, 1, none⟩ (.int .u32 x.k) fun h7 => stH h7 ⟨h1.size, 2, none⟩ (.int .u32 x.v) fun h8 =>
        ldH h8 ⟨h1.size, 0, none⟩ fun v9 => ldH h8 ⟨h1.size, 1, none⟩ fun v10 => ldH h8 ⟨h1.size, 2, none⟩ fun v11 => K (.agg #[v9, v10, v11]) h8 := by
    intro x h5 o5 e5 ex
    refine st3' (stN_full (vs := c3c x) e5 rfl (c3_one x) fun h8 w => ?_)
    refine ldR w.new rfl (ldR w.new rfl (ldR w.new rfl ?_))
    have := k h8 (w.toOld o5 (by omega))
    rw [ex] at this; exact this
  refine ifB_mk (fun hr => ?_) (fun hr => ?_)
  · refine fin ⟨1, 0, 0⟩ h4 ok4 a4 ?_
    unfold ansP
    rw [if_neg (by revert hr; cases rightC c <;> simp)]
  have hr' : rightC c = true := by revert hr; cases rightC c <;> simp
  refine ldR c4 rfl ?_
  simp only [asInt_int]
  refine ifB_mk (fun h0 => ?_) (fun h0 => ?_)
  · refine fin ⟨0, 0, 0⟩ h4 ok4 a4 ?_
    unfold ansP
    rw [if_pos hr', if_pos (by simpa using h0)]
  refine callV_fn (bagMins_call (H.old ok4) hl fun a' c' h21 S21 o21 => ?_)
  simp only [asSlice_slice]
  have ok21 : Old h.size h h21 := ok4.trans (o21.mono ok4.1)
  have a21 := (o21.2 _ (Array.getElem?_eq_some_iff.1 a4).1).trans a4
  have hans : ansP ps c = match minsP ps with | [] => ⟨3, 0, 0⟩ | p :: _ => ⟨2, p.1, p.2⟩ := by
    unfold ansP
    rw [if_pos hr', if_neg (by simpa using h0)]
  cases hm : minsP ps with
  | nil =>
    rw [hm] at hans
    rw [show (((([] : List Pr).length : Nat) : Int) == 0) = true from rfl]
    exact fin ⟨3, 0, 0⟩ h21 ok21 a21 hans
  | cons x r =>
    rw [hm] at hans S21
    rw [show ((((x :: r).length : Nat) : Int) == 0) = false from beq_eq_false_iff_ne.2 (by simp only [List.length_cons]; omega)]
    simp only [ifB_false]
    obtain ⟨ad, rfl, hc0, hc1⟩ := spr_at S21 (i := 0) (by simp)
    rw [Nat.zero_mul, add_zero] at hc0 hc1
    refine ⟨by omega, by simp only [List.length_cons]; omega, ?_⟩
    simp only [asPtr_some]
    refine ldH_mk hc0 ?_
    simp only [asInt_int]
    refine ⟨by omega, by simp only [List.length_cons]; omega, ldH_mk hc1 ?_⟩
    simp only [asInt_int]
    exact fin ⟨2, x.1, x.2⟩ h21 ok21 a21 hans

/-! ### calls, one behind the other -/
def dfC : C3 := ⟨0, 0, 0⟩
/-- The bag behind i calls; the answers to them. -/
def stP (cs : List C3) : Nat → List Pr
  | 0 => []
  | i + 1 => let ps := stP cs i; let c := cs.getD i dfC; (doP ps c (ansP ps c)).getD ps
def asP (cs : List C3) (i : Nat) : List C3 := (List.range i).map fun j => ansP (stP cs j) (cs.getD j dfC)
theorem asP_len (cs : List C3) (i : Nat) : (asP cs i).length = i := by simp [asP]
theorem asP_succ (cs : List C3) (i : Nat) : asP cs (i + 1) = asP cs i ++ [ansP (stP cs i) (cs.getD i dfC)] := by unfold asP; rw [List.range_succ]; simp
theorem stP_len (cs : List C3) : ∀ i, (stP cs i).length ≤ i := by
  intro i
  induction i with
  | zero => exact Nat.le_refl _
  | succ i ih => exact Nat.le_trans (doP_len' _ _ _) (by omega)
theorem und_ans : und Try.prog 63 = .slice 42 := by kernel_rfl
theorem there_ans : there Try.prog 42 = true := by kernel_rfl
theorem siz_ans : siz Try.prog 42 = 3 := by kernel_rfl
theorem byt_ans : byt Try.prog 42 = 16 := by kernel_rfl
theorem zer_ans : zer Try.prog 42 = some (.agg zeroC.cells.toArray) := by kernel_rfl
abbrev OwnA (h : Heap) (a : Option Addr) (l c : Nat) (ys : List C3) : Prop := Own h 42 3 a l c (ys.flatMap c3c)
theorem app_a1 {h : Heap} {a : Option Addr} {l c : Nat} {ys : List C3} {x : C3} {K : Value → Heap → Prop} (ho : OwnA h a l c ys) (hl : l < 2 ^ 40)
    (H : ∀ a' c' h', OwnA h' a' (l + 1) c' (ys ++ [x]) → (∀ b, blk a' b → blk a b ∨ h.size ≤ b) → Fr (blk a) h h' → K (.slice a' (l + 1) c') h') :
    appH Try.prog #[63, 63] 63 #[.slice a l c, .slice (some ⟨h.size, 0, none⟩) 1 1] (h.push (.cells #[.int .i64 x.o, .int .u32 x.k, .int .u32 x.v] 42)) K := by
  have p1 := pushed h (c3c x).toArray 42
  rw [show h.push (.cells #[.int .i64 x.o, .int .u32 x.k, .int .u32 x.v] 42) = h.push (.cells (c3c x).toArray 42) from rfl]
  generalize h.push (.cells (c3c x).toArray 42) = h1 at *
  have s1 := p1.size
  refine appH_own (ys := c3c x) (n := 1) und_ans there_ans zer_ans (by rw [siz_ans]; rfl) (by rw [siz_ans]; exact ho.keep fun ad e => p1.old _ (ho.lt ad e)) ?_ (by rw [siz_ans]; rfl) (c3_one x) (by rw [byt_ans]; omega) (by rw [byt_ans]; omega) ?_
  · intro j v hj
    refine ⟨_, rfl, ?_⟩
    rw [add_lit, cellAt_of p1.new, List.getElem?_toArray, Nat.zero_add]; exact hj
  intro a' c' h' own s' old hor
  rw [siz_ans] at own
  refine H a' c' h' ?_ (fun b hb => ?_) ⟨by omega, fun b hb hS => (old b (by omega) fun ad e eb => hS ⟨ad, e, eb⟩).trans (p1.old b hb)⟩
  · unfold OwnA; rw [List.flatMap_append]; simpa using own
  · obtain ⟨ad, e, rfl⟩ := hb
    rcases hor with h2 | h2
    · rw [h2] at e; exact .inl ⟨ad, e, rfl⟩
    · rw [h2] at e; cases e; right; show h.size ≤ h1.size; omega
theorem bagRun_call {K : Value → Heap → Prop} {h : Heap} {a : Option Addr} {l c : Nat} {cs : List C3} (H : SX c3c h a l c cs) (hl : l ≤ 2 ^ 30) (k : ∀ a' c' h', OwnA h' a' l c' (asP cs l) → Old h.size h h' → K (.slice a' l c') h') :
    CallH Try.prog 34 #[.slice a l c] h K := by
  refine call34 ?_
  unfold F34
  have hlen := H.len
  have p1 := pushed h #[.slice none 0 0] 25
  generalize h.push (.cells #[.slice none 0 0] 25) = h1 at *
  have s1 := p1.size
  refine ⟨fun vs h' => ∃ i : Nat, ∃ o c' ba, vs = [.slice o i c', iv i] ∧ i ≤ l ∧ Old h.size h h' ∧ BagF h' h.size ba (stP cs i) ∧ OwnA h' o i c' (asP cs i) ∧ (∀ b, blk o b → h.size ≤ b) ∧ (∀ b, blk ba b → h.size ≤ b),
    fun vs _ => (match vs with | [_, .int _ n] => l - n.toNat | _ => 0),
    ⟨0, none, 0, none, rfl, Nat.zero_le _, p1.toOld, ⟨0, p1.new, Own.nil _ _ _, List.Pairwise.nil⟩, Own.nil _ _ _, fun b hb => absurd hb (blk_none b), fun b hb => absurd hb (blk_none b)⟩, ?_⟩
  rintro v2 v3 g4 h5 ⟨i, o, c', ba, e, hi, o5, B5, own5, ho5, hb5⟩
  cases e
  simp only [asInt_int, asI_int, asSlice_slice]
  refine ifB_dec (fun hlt => ?_) (fun hge => ?_)
  · have hi' : i < cs.length := by omega
    obtain ⟨ad, rfl, hc⟩ := SX.at c3c_len (by omega) (H.old o5) hi'
    have hget : cs.getD i dfC = cs[i] := by rw [List.getD_eq_getElem?_getD, List.getElem?_eq_getElem hi']; rfl
    have hst : stP cs (i + 1) = (doP (stP cs i) cs[i] (ansP (stP cs i) cs[i])).getD (stP cs i) := by
      show (doP (stP cs i) (cs.getD i dfC) (ansP (stP cs i) (cs.getD i dfC))).getD (stP cs i) = _
      rw [hget]
    have has : asP cs (i + 1) = asP cs i ++ [ansP (stP cs i) cs[i]] := by rw [asP_succ, hget]
    have hsl := stP_len cs i
    generalize cs[i] = x at *
    refine ⟨by omega, hlt, ?_⟩
    simp only [asPtr_some, Int.toNat_natCast]
    refine ldH_mk (hc 0 _ rfl) (ldH_mk (hc 1 _ rfl) (ldH_mk (hc 2 _ rfl) ?_))
    have p6 := pushed h5 zeroC.cells.toArray 40
    rw [show h5.push (.cells #[.int .i64 0, .int .u32 0, .int .u32 0] 40) = h5.push (.cells zeroC.cells.toArray 40) from rfl]
    generalize h5.push (.cells zeroC.cells.toArray 40) = h6 at *
    have s6 := p6.size
    refine st3' (stN_full (vs := c3c x) p6.new rfl (c3_one x) fun h14 w14 => ?_)
    have o14 : Old h5.size h5 h14 := w14.toOld p6.toOld (Nat.le_refl _)
    have x14 : h14[h5.size]? = some (.cells (c3c x).toArray 40) := w14.new
    refine ldR x14 rfl (ldR x14 rfl (ldR x14 rfl ?_))
    have B14 := B5.old o14
    refine callV_fn (bagAnswer_call (c := x) B14 (by omega) fun h19 o19 => ?_)
    generalize hy : ansP (stP cs i) x = y at *
    simp only [asAgg_agg]
    refine sizeH_mk rfl (elemH_mk rfl (elemH_mk rfl (elemH_mk rfl ?_)))
    have p20 := pushed h19 zeroC.cells.toArray 42
    rw [show h19.push (.cells #[.int .i64 0, .int .u32 0, .int .u32 0] 42) = h19.push (.cells zeroC.cells.toArray 42) from rfl]
    generalize h19.push (.cells zeroC.cells.toArray 42) = h20 at *
    have s20 := p20.size
    refine st3' (stN_full (vs := c3c y) p20.new rfl (c3_one y) fun h26 w26 => ?_)
    have o26 : Old h19.size h19 h26 := w26.toOld p20.toOld (Nat.le_refl _)
    have hs14 : h5.size < h14.size := (Array.getElem?_eq_some_iff.1 x14).1
    have hs19 := o19.1
    have x26 := (o26.2 _ (by omega)).trans ((o19.2 _ hs14).trans x14)
    have y26 : h26[h19.size]? = some (.cells (c3c y).toArray 42) := w26.new
    refine ldR x26 rfl (ldR x26 rfl (ldR x26 rfl (ldR y26 rfl (ldR y26 rfl (ldR y26 rfl ?_)))))
    have ok26 : Old h5.size h5 h26 := o14.trans ((o19.trans (o26.mono o19.1)).mono o14.1)
    have B26 := B5.old ok26
    refine callV_fn (bagDo_call (c3 := x) (a3 := y) B26 (by omega) fun a' h34 B34 hb34 fr34 => ?_)
    simp only [asBool_bool]
    have hs5 : h.size < h5.size := B5.lt
    have hs26 : h19.size < h26.size := (Array.getElem?_eq_some_iff.1 y26).1
    have y34 : h34[h19.size]? = some (.cells (c3c y).toArray 42) := (fr34.2 _ hs26 (fun h => by
      rcases h with h | h
      · have := ok26.1; have := o14.1; omega
      · have := B5.lta h; have := o14.1; omega)).trans y26
    refine ldR y34 rfl (ldR y34 rfl (ldR y34 rfl ?_))
    have own26 : OwnA h26 o i c' (asP cs i) := own5.keep fun ad e => ok26.2 _ (own5.lt ad e)
    have odis : ∀ b, blk o b → ¬ bagS h.size ba b := by
      rintro b hb (rfl | hb2)
      · obtain ⟨bc, be, bo, bs⟩ := B26
        obtain ⟨ad, e, eb⟩ := hb
        rcases own26.2.2 with ⟨e2, _⟩ | ⟨bb, row, e2, hbb, _⟩
        · rw [e] at e2; cases e2
        · rw [e] at e2; cases e2
          simp only at eb
          subst eb
          rw [hbb] at be; cases be
      · obtain ⟨bc, be, bo, bs⟩ := B26
        exact Own.disj own26 bo (by decide) hb hb2
    have own34 : OwnA h34 o i c' (asP cs i) := own26.fr fr34 odis
    refine app_a1 (x := y) own34 (by omega) fun o' c2 h43 own43 hb43 fr43 => ?_
    simp only [asSlice_slice]
    have hb34' : ∀ b, blk a' b → h.size ≤ b := fun b hb => (hb34 b hb).elim (hb5 b) fun h2 => by have := ok26.1; have := o5.1; omega
    rw [nat_wrap1 (by omega)]
    have s34 := fr34.1
    refine ⟨⟨i + 1, o', c2, a', rfl, by omega, ⟨by have := ok26.1; have := o5.1; have := fr43.1; omega, fun b hb => ?_⟩, ?_, ?_, fun b hb => ?_, hb34'⟩, by show l - ((i + 1 : Nat) : Int).toNat < l - (i : Int).toNat; omega⟩
    · have e1 := fr43.2 b (by have := ok26.1; have := o5.1; omega) (fun h => by have := ho5 b h; omega)
      have e2 := fr34.2 b (by have := ok26.1; have := o5.1; omega) (fun h => by
        rcases h with h | h
        · omega
        · have := hb5 b h; omega)
      exact e1.trans (e2.trans ((ok26.2 b (by omega)).trans (o5.2 b hb)))
    · rw [hst]
      refine B34.fr fr43 (fun hb => ?_) fun b hb hb2 => ?_
      · exact odis _ hb (.inl rfl)
      · obtain ⟨bc, be, bo, bs⟩ := B34
        exact Own.disj own34 bo (by decide) hb2 hb
    · rw [has]; exact own43
    · rcases hb43 b hb with h2 | h2
      · exact ho5 b h2
      · have := ok26.1; have := o5.1; omega
  · obtain rfl : i = l := by omega
    exact k o c' h5 own5 o5
theorem OwnA_sx {h : Heap} {a : Option Addr} {l c : Nat} {ys : List C3} (H : OwnA h a l c ys) : SX c3c h a l c ys := Own.sx c3c_len (by omega) H
def cs13 : List C3 := [⟨0, 5, 1⟩, ⟨0, 3, 2⟩, ⟨1, 0, 0⟩]
theorem as13 : asP cs13 3 = [⟨0, 0, 0⟩, ⟨0, 0, 0⟩, ⟨2, 3, 2⟩] := by kernel_rfl
theorem eqv_a232 : eqv Try.prog 10000 42 (.agg #[.int .i64 2, .int .u32 3, .int .u32 2]) (.agg #[.int .i64 2, .int .u32 3, .int .u32 2]) = some true := by kernel_rfl
theorem lives13_call {K : Value → Heap → Prop} {h : Heap} (k : ∀ h', Old h.size h h' → K (.bool true) h') : CallH Try.prog 9 #[] h K := by
  refine call9 ?_
  unfold F9
  have p1 := pushed h (cs13.flatMap c3c).toArray 40
  rw [show h.push (.cells #[.int .i64 0, .int .u32 5, .int .u32 1, .int .i64 0, .int .u32 3, .int .u32 2, .int .i64 1, .int .u32 0, .int .u32 0] 40) = h.push (.cells (cs13.flatMap c3c).toArray 40) from rfl]
  generalize h.push (.cells (cs13.flatMap c3c).toArray 40) = h1 at *
  have S1 : SX c3c h1 (some ⟨h.size, 0, none⟩) 3 3 cs13 := ⟨fun j v hj => ⟨_, rfl, by rw [add_lit, cellAt_of p1.new, List.getElem?_toArray, Nat.zero_add]; exact hj⟩, rfl, Nat.le_refl _⟩
  refine callV_fn (bagRun_call S1 (by omega) fun a' c' h2 own2 o2 => ?_)
  simp only [asSlice_slice]
  rw [show (((3 : Nat) : Int) == 3) = true from rfl]
  simp only [ifB_true]
  rw [as13] at own2
  obtain ⟨ad, rfl, hc⟩ := SX.at c3c_len (by omega) (OwnA_sx own2) (i := 2) (by decide)
  refine ⟨by omega, by omega, ?_⟩
  simp only [asPtr_some]
  have c0 := hc 0 _ rfl
  have c1 := hc 1 _ rfl
  have c2 := hc 2 _ rfl
  simp only [add_add] at c0 c1 c2
  refine ldH_mk c0 (ldH_mk c1 (ldH_mk c2 ?_))
  unfold eqvH
  rw [guard_c3 42 (.inr rfl), if_neg (by simp)]
  show (match eqv Try.prog 10000 42 (.agg #[.int .i64 2, .int .u32 3, .int .u32 2]) (.agg #[.int .i64 2, .int .u32 3, .int .u32 2]) with | some b => K (.bool b) h2 | none => False)
  rw [eqv_a232]
  exact k h2 (p1.toOld.trans (o2.mono p1.toOld.1))

theorem plain_call {K : Value → Heap → Prop} {h : Heap} {a : Option Addr} {l c : Nat} {ps : List Pr} (H : SPr h a l c ps) (hl : l < 2 ^ 40) (k : ∀ a' c' h', OwnR h' a' l c' ps → Old h.size h h' → K (.slice a' l c') h') :
    CallH Try.prog 12 #[.slice a l c] h K := by
  refine call12 ?_
  unfold F12
  have hlen := H.len
  refine ⟨fun vs h' => ∃ i : Nat, ∃ o c', vs = [.slice o i c', iv i] ∧ i ≤ l ∧ Old h.size h h' ∧ OwnR h' o i c' (ps.take i) ∧ (∀ b, blk o b → h.size ≤ b),
    fun vs _ => (match vs with | [_, .int _ n] => l - n.toNat | _ => 0), ⟨0, none, 0, rfl, Nat.zero_le _, Old.refl _ _, Own.nil _ _ _, fun b hb => absurd hb (blk_none b)⟩, ?_⟩
  rintro v2 v3 g4 h5 ⟨i, o, c', e, hi, o5, own5, hb5⟩
  cases e
  simp only [asInt_int, asSlice_slice]
  refine ifB_dec (fun hlt => ?_) (fun hge => ?_)
  · have hi' : i < ps.length := by omega
    obtain ⟨ad, rfl, hc0, hc1⟩ := spr_at (H.old o5) hi'
    refine ⟨by omega, hlt, ?_⟩
    simp only [asPtr_some, Int.toNat_natCast]
    refine ldH_mk hc0 ?_
    simp only [asInt_int]
    refine ⟨by omega, hlt, ldH_mk hc1 ?_⟩
    simp only [asInt_int]
    refine app_r1 (p := ps[i]) own5 (by omega) fun a' c2 h19 own19 hb19 fr19 => ?_
    simp only [asSlice_slice]
    rw [nat_wrap1 (by omega)]
    refine ⟨⟨i + 1, a', c2, rfl, by omega, ⟨by have := o5.1; have := fr19.1; omega, fun b hb => ?_⟩, ?_, fun b hb => ?_⟩, by show l - ((i + 1 : Nat) : Int).toNat < l - (i : Int).toNat; omega⟩
    · exact (fr19.2 b (by have := o5.1; omega) (fun h => by have := hb5 b h; omega)).trans (o5.2 b hb)
    · rw [List.take_succ_eq_append_getElem hi']; exact own19
    · rcases hb19 b hb with h2 | h2
      · exact hb5 b h2
      · have := o5.1; omega
  · obtain rfl : i = l := by omega
    rw [List.take_of_length_le (by omega)] at own5
    exact k o c' h5 own5 o5
theorem ordered_call {K : Value → Heap → Prop} {h : Heap} {a : Option Addr} {l c : Nat} {ps : List Pr} (H : SPr h a l c ps) (hS : Srt ps) (hl : l < 2 ^ 40) (k : K (.bool true) h) :
    CallH Try.prog 22 #[.slice a l c] h K := by
  refine call22 ?_
  unfold F22
  have hlen := H.len
  refine ⟨fun vs h' => ∃ w, ∃ i : Nat, vs = [w, iv i] ∧ 1 ≤ i ∧ h' = h, fun vs _ => (match vs with | [_, .int _ n] => l - n.toNat | _ => 0), ⟨_, 1, rfl, Nat.le_refl _, rfl⟩, ?_⟩
  rintro v2 v3 g4 h5 ⟨w, i, e, hi, rfl⟩
  cases e
  simp only [asInt_int]
  refine ifB_dec (fun hlt => ?_) (fun hge => k)
  have hi' : i < ps.length := by omega
  have hw : IntKind.wrap .i64 ((i : Int) - 1) = ((i - 1 : Nat) : Int) := by rw [wrap64_id' (by omega) (by omega)]; omega
  have hle := hS.at (show i - 1 < ps.length by omega) hi' (by omega)
  rw [hw]
  obtain ⟨ad, rfl, hc0, hc1⟩ := spr_at H hi'
  obtain ⟨ad', e', hd0, hd1⟩ := spr_at H (show i - 1 < ps.length by omega)
  cases e'
  unfold ple at hle
  refine ⟨fun vs h' => ∃ w, vs = [w, .bool false] ∧ h' = h5, ?_, ?_⟩
  · refine ⟨by omega, hlt, ?_⟩
    simp only [asPtr_some, Int.toNat_natCast]
    refine ldH_mk hc0 ?_
    simp only [asInt_int]
    refine ⟨by omega, by omega, ldH_mk hd0 ?_⟩
    simp only [asInt_int]
    refine ifB_dec (fun hq => by omega) (fun hq => ?_)
    refine ⟨by omega, hlt, ldH_mk hc0 ?_⟩
    simp only [asInt_int]
    refine ⟨by omega, by omega, ldH_mk hd0 ?_⟩
    simp only [asInt_int]
    refine ifB_mk (fun he => ?_) (fun he => ⟨_, rfl, by trivial⟩)
    refine ⟨by omega, hlt, ldH_mk hc1 ?_⟩
    simp only [asInt_int]
    refine ⟨by omega, by omega, ldH_mk hd1 ?_⟩
    simp only [asInt_int]
    have : (ps[i]).1 = (ps[i - 1]).1 := by simpa using he
    exact ⟨_, pairB (decide_eq_false (by omega)), by trivial⟩
  rintro v32 v33 g34 h35 ⟨w', e, rfl⟩
  cases e
  simp only [asBool_bool, ifB_false]
  rw [nat_wrap1 (by omega)]
  exact ⟨⟨_, i + 1, rfl, by omega, by trivial⟩, by show l - ((i + 1 : Nat) : Int).toNat < l - (i : Int).toNat; omega⟩
theorem same13_call {K : Value → Heap → Prop} {h : Heap} {a a2 : Option Addr} {l c l2 c2 : Nat} {rs ts : List Pr} (H : SX prc h a l c rs) (H2 : SX prc h a2 l2 c2 ts) (hp : rs.Perm ts) (hl : l < 2 ^ 40) (k : ∀ h', Old h.size h h' → K (.bool true) h') :
    CallH Try.prog 23 #[.slice a l c, .slice a2 l2 c2] h K := by
  refine call23 ?_
  unfold F23
  have hlen := H.len
  have hlen2 := H2.len
  have hpl := hp.length_eq
  obtain rfl : l = l2 := by omega
  simp only [bne_self_eq_false, ifB_false]
  refine ⟨fun vs h' => ∃ w, ∃ i : Nat, vs = [w, iv i] ∧ Old h.size h h', fun vs _ => (match vs with | [_, .int _ n] => l - n.toNat | _ => 0), ⟨_, 0, rfl, Old.refl _ _⟩, ?_⟩
  rintro v2 v3 g4 h5 ⟨w, i, e, o5⟩
  cases e
  simp only [asInt_int]
  refine ifB_dec (fun hlt => ?_) (fun hge => k _ o5)
  have hi' : i < rs.length := by omega
  obtain ⟨ad, rfl, hc0, hc1⟩ := spr_at (H.old o5) hi'
  refine ⟨by omega, hlt, ?_⟩
  simp only [asPtr_some, Int.toNat_natCast]
  refine ldH_mk hc0 (ldH_mk hc1 ⟨by omega, hlt, ldH_mk hc0 (ldH_mk hc1 ?_)⟩)
  refine callV_fn (refCount_call (p := rs[i]) (H.old o5) (by omega) fun h16 o16 => ?_)
  simp only [asInt_int]
  refine ⟨cell_stable _ _ o16 hc0, cell_stable _ _ o16 hc1, ?_⟩
  have ok16 : Old h.size h h16 := o5.trans (o16.mono o5.1)
  refine callV_fn (refCount_call (p := rs[i]) (H2.old ok16) (by omega) fun h19 o19 => ?_)
  simp only [asInt_int]
  rw [hp.count_eq, bne_self_eq_false]
  simp only [ifB_false]
  rw [nat_wrap1 (by omega)]
  exact ⟨⟨_, i + 1, rfl, ok16.trans (o19.mono ok16.1)⟩, by show l - ((i + 1 : Nat) : Int).toNat < l - (i : Int).toNat; omega⟩
end Go.Proofs.Ytlncjcbofgjcfaa
end
section
/- The bodies of BagMins, BagPlays. -/
set_option linter.unusedSimpArgs false
set_option linter.unusedVariables false
set_option maxRecDepth 20000
namespace Go.Proofs.Ytlncjcbofgjcfaa

theorem plt_nodup {ms : List Pr} (H : ms.Pairwise plt) : ms.Nodup := H.imp fun {a b} h e => by subst e; unfold plt at h; omega
theorem mins_body {K : Value → Heap → Prop} {h : Heap} {a : Option Addr} {l c : Nat} {xs : List Pr} (H : SPr h a l c xs) (k : ∀ h', Old h.size h h' → K (.bool true) h') : F3 K h a l c := by
  unfold F3
  have hlen := H.len
  have lives : ∀ h1, Old h.size h h1 → callV Try.prog (.func (.func 9) #[] #[]) #[] h1 fun v0 h1 => asBool v0 fun b2 => K (.bool b2) h1 := by
    intro h1 o1
    refine callV_fn (lives13_call fun h2 o2 => ?_)
    simp only [asBool_bool]
    exact k _ (o1.trans (o2.mono o1.1))
  refine ifB_dec (fun hl => lives _ (Old.refl _ _)) (fun hl => ?_)
  have hl' : l ≤ 150 := by omega
  have p1 := pushed h #[.slice none 0 0] 25
  generalize h.push (.cells #[.slice none 0 0] 25) = h1 at *
  have s1 := p1.size
  refine ⟨fun vs h' => ∃ i : Nat, ∃ ba ps, vs = [iv i] ∧ i ≤ l ∧ Old h.size h h' ∧ BagF h' h.size ba ps ∧ (∀ b, blk ba b → h.size ≤ b) ∧ ps.Perm (xs.take i),
    fun vs _ => (match vs with | [.int _ n] => l - n.toNat | _ => 0), ⟨0, none, [], rfl, Nat.zero_le _, p1.toOld, ⟨0, p1.new, Own.nil _ _ _, List.Pairwise.nil⟩, fun b hb => absurd hb (blk_none b), by simp⟩, ?_⟩
  rintro v5 g6 h7 ⟨i, ba, ps, e, hi, o7, B7, hb7, hp⟩
  cases e
  have hpl := hp.length_eq
  rw [List.length_take] at hpl
  simp only [asInt_int]
  refine ifB_dec (fun hlt => ?_) (fun hge => ?_)
  · have hi' : i < xs.length := by omega
    obtain ⟨ad, rfl, hc0, hc1⟩ := spr_at (H.old o7) hi'
    refine ⟨by omega, hlt, ?_⟩
    simp only [asPtr_some, Int.toNat_natCast]
    refine ldH_mk hc0 (ldH_mk hc1 ?_)
    refine callV_fn (bagAdd_call (q := xs[i]) B7 (by omega) fun a' h14 B14 hb14 fr14 => ?_)
    rw [nat_wrap1 (by omega)]
    refine ⟨⟨i + 1, a', _, rfl, by omega, ⟨by have := o7.1; have := fr14.1; omega, fun b hb => ?_⟩, B14, fun b hb => ?_, ?_⟩, by show l - ((i + 1 : Nat) : Int).toNat < l - (i : Int).toNat; omega⟩
    · exact (fr14.2 b (by have := o7.1; omega) (fun h => by
        rcases h with h | h
        · omega
        · have := hb7 b h; omega)).trans (o7.2 b hb)
    · rcases hb14 b hb with h2 | h2
      · exact hb7 b h2
      · have := o7.1; omega
    · rw [List.take_succ_eq_append_getElem hi']
      exact ((insP_perm _ _).trans (List.Perm.cons _ hp)).trans (List.perm_append_singleton _ _).symm
  obtain rfl : i = l := by omega
  rw [List.take_of_length_le (by omega)] at hp
  have hS := B7.srt
  refine callV_fn (plain_call (H.old o7) (by omega) fun a' c' h17 own17 o17 => ?_)
  simp only [asSlice_slice]
  have ok17 : Old h.size h h17 := o7.trans (o17.mono o7.1)
  refine callV_fn (refLeast_call (ownR_sx own17) (by omega) ?_)
  simp only [asTup_tuple]
  refine elemH_mk rfl ?_
  simp only [asInt_int]
  refine elemH_mk rfl ?_
  simp only [asBool_bool]
  rw [← minK_perm hS hp]
  refine callV_fn (bagMins_call (B7.old o17) (by omega) fun m c2 h30 S30 o30 => ?_)
  simp only [asSlice_slice]
  have ok30 : Old h.size h h30 := ok17.trans (o30.mono ok17.1)
  have hml := minsP_len ps
  have hkey : ∀ x ∈ minsP ps, x.1 = leastP ps := by
    cases hps : ps with
    | nil => intro x hx; simp [minsP] at hx
    | cons p r =>
      intro x hx
      rw [← hps] at hx
      exact ((minsP_mem hS hps x).1 hx).2
  have hplt := minsP_plt hS
  have hsome : (!xs.isEmpty) = decide (((minsP ps).length : Int) > 0) := by
    have e1 := minsP_nil hS
    by_cases e : ps = []
    · have : xs = [] := by rw [e] at hp; exact hp.nil_eq.symm
      rw [this, e1.2 e]; rfl
    · have e2 : xs ≠ [] := fun h => e (by rw [h] at hp; exact hp.eq_nil)
      have e3 : minsP ps ≠ [] := fun h => e (e1.1 h)
      have e4 : 0 < (minsP ps).length := List.length_pos_iff.2 e3
      rw [decide_eq_true (by omega)]
      cases xs with
      | nil => exact absurd rfl e2
      | cons _ _ => rfl
  generalize hms : minsP ps = ms at *
  refine ⟨fun vs h' => ∃ w, ∃ j : Nat, vs = [w, iv j] ∧ j ≤ ms.length ∧ h' = h30, fun vs _ => (match vs with | [_, .int _ n] => ms.length - n.toNat | _ => 0), ⟨_, 0, rfl, Nat.zero_le _, rfl⟩, ?_⟩
  rintro v36 v37 g38 h39 ⟨w, j, e, hj, rfl⟩
  cases e
  simp only [asInt_int]
  refine ifB_dec (fun hlt => ?_) (fun hge2 => ?_)
  · have hj' : j < ms.length := by omega
    have hk1 := hkey _ (List.getElem_mem hj')
    obtain ⟨ad, rfl, hc0, hc1⟩ := spr_at S30 hj'
    refine ⟨fun vs h' => ∃ w, vs = [w, .bool false] ∧ h' = h39, ?_, ?_⟩
    · refine ⟨by omega, hlt, ?_⟩
      simp only [asPtr_some, Int.toNat_natCast]
      refine ldH_mk hc0 ?_
      simp only [asInt_int]
      rw [hk1, bne_self_eq_false]
      simp only [ifB_false]
      refine ifB_dec (fun hj0 => ?_) (fun hj0 => ⟨_, rfl, by trivial⟩)
      have hw : IntKind.wrap .i64 ((j : Int) - 1) = ((j - 1 : Nat) : Int) := by rw [wrap64_id' (by omega) (by omega)]; omega
      obtain ⟨ad', e', hd0, hd1⟩ := spr_at S30 (show j - 1 < ms.length by omega)
      cases e'
      have hk2 := hkey _ (List.getElem_mem (show j - 1 < ms.length by omega))
      have hlt2 := List.pairwise_iff_getElem.1 hplt (j - 1) j (by omega) hj' (by omega)
      unfold plt at hlt2
      refine ⟨by omega, hlt, ldH_mk hc1 ?_⟩
      simp only [asInt_int]
      rw [hw]
      refine ⟨by omega, by omega, ldH_mk hd1 ?_⟩
      simp only [asInt_int]
      exact ⟨_, pairB (decide_eq_false (by omega)), by trivial⟩
    · rintro v55 v56 g57 h58 ⟨w', e, rfl⟩
      cases e
      simp only [asBool_bool, ifB_false]
      rw [nat_wrap1 (by omega)]
      exact ⟨⟨_, j + 1, rfl, by omega, by trivial⟩, by show ms.length - ((j + 1 : Nat) : Int).toNat < ms.length - (j : Int).toNat; omega⟩
  · refine ⟨fun vs h' => ∃ w, ∃ q : Nat, vs = [w, iv q] ∧ q ≤ i ∧ Old h39.size h39 h', fun vs _ => (match vs with | [_, .int _ n] => i - n.toNat | _ => 0), ⟨_, 0, rfl, Nat.zero_le _, Old.refl _ _⟩, ?_⟩
    rintro v63 v64 g65 h66 ⟨w2, q, e, hq, o66⟩
    cases e
    simp only [asInt_int]
    have ok66 : Old h.size h h66 := ok30.trans (o66.mono ok30.1)
    refine ifB_dec (fun hqlt => ?_) (fun hqge => ?_)
    · have hq' : q < xs.length := by omega
      refine ⟨fun vs h' => vs = [.bool false] ∧ Old h39.size h39 h', ?_, ?_⟩
      · obtain ⟨ad, rfl, hc0, hc1⟩ := spr_at (H.old ok66) hq'
        refine ⟨by omega, hqlt, ?_⟩
        simp only [asPtr_some, Int.toNat_natCast]
        refine ldH_mk hc0 ?_
        simp only [asInt_int]
        refine ifB_mk (fun he => ?_) (fun he => ⟨by first | rfl | trivial, o66⟩)
        have he' : (xs[q]).1 = leastP ps := by simpa using he
        refine ⟨by omega, hqlt, ldH_mk hc1 ?_⟩
        simp only [asInt_int]
        refine callV_fn (plain_call (S30.old o66) (by omega) fun a78 c78 h78 own78 o78 => ?_)
        simp only [asSlice_slice]
        refine ⟨cell_stable _ _ o78 hc1, ?_⟩
        refine callV_fn (refCount_call (p := (leastP ps, (xs[q]).2)) (ownR_sx own78) (by omega) fun h83 o83 => ?_)
        simp only [asInt_int]
        refine ⟨?_, o66.trans ((o78.trans (o83.mono o78.1)).mono o66.1)⟩
        have hin : (leastP ps, (xs[q]).2) ∈ ms := by
          have e : (leastP ps, (xs[q]).2) = xs[q] := by rw [← he']
          rw [e]
          have hin2 : xs[q] ∈ ps := hp.mem_iff.2 (List.getElem_mem _)
          cases hps : ps with
          | nil => rw [hps] at hin2; simp at hin2
          | cons p r =>
            rw [← hms]
            refine (minsP_mem hS hps _).2 ⟨hin2, ?_⟩
            rw [he', hps]; rfl
        have hc : ms.count (leastP ps, (xs[q]).2) = 1 := by
          have h1 := List.count_pos_iff.2 hin
          have h2 := List.nodup_iff_count.1 (plt_nodup hplt) (leastP ps, (xs[q]).2)
          omega
        rw [hc]; rfl
      · rintro v85 g86 h87 ⟨e, o87⟩
        cases e
        simp only [asBool_bool, ifB_false]
        rw [nat_wrap1 (by omega)]
        exact ⟨⟨_, q + 1, rfl, by omega, o87⟩, by show i - ((q + 1 : Nat) : Int).toNat < i - (q : Int).toNat; omega⟩
    · rw [hsome, beq_self_eq_true]
      simp only [ifB_true]
      exact lives _ ok66

/-! ### BagPlays -/
structure Op7 where
  pl : Int
  c : C3
  a : C3
abbrev Op7.cells (o : Op7) : List Value := [.int .i64 o.pl, .int .i64 o.c.o, .int .u32 o.c.k, .int .u32 o.c.v, .int .i64 o.a.o, .int .u32 o.a.k, .int .u32 o.a.v]
theorem op7_len : ∀ x : Op7, (Op7.cells x).length = 7 := fun _ => rfl
theorem op7_one (e : Op7) : ∀ y ∈ e.cells, oneC y True := by
  intro y hy
  simp only [List.mem_cons, List.not_mem_nil, or_false] at hy
  rcases hy with rfl | rfl | rfl | rfl | rfl | rfl | rfl <;> exact trivial
theorem st7' {h : Heap} {b : Nat} {v0 v1 v2 v3 v4 v5 v6 : Value} {K : Heap → Prop} (H : stN h ⟨b, 0, none⟩ 0 [v0, v1, v2, v3, v4, v5, v6] K) :
    stH h ⟨b, 0, none⟩ v0 fun h => stH h ⟨b, 1, none⟩ v1 fun h => stH h ⟨b, 2, none⟩ v2 fun h => stH h ⟨b, 3, none⟩ v3 fun h => stH h ⟨b, 4, none⟩ v4 fun h => stH h ⟨b, 5, none⟩ v5 fun h => stH h ⟨b, 6, none⟩ v6 K := H
abbrev zs7o : List Value := [.int .i64 0, .int .i64 0, .int .u32 0, .int .u32 0, .int .i64 0, .int .u32 0, .int .u32 0]
/-- The bag, and the document's pairs, behind some operations. -/
structure Both (h0 : Heap) (i : Nat) (h' : Heap) (o : Option Addr) (n c : Nat) (ps rs : List Pr) : Prop where
  old : Old h0.size h0 h'
  bag : ∃ ba, BagF h' h0.size ba ps ∧ ∀ b, blk ba b → h0.size ≤ b
  own : OwnR h' o n c rs
  hi : ∀ b, blk o b → h0.size ≤ b
  len : rs.length = n
  le : n ≤ i
  perm : ps.Perm rs
theorem bag_disj {h : Heap} {p : Nat} {ba o : Option Addr} {ps rs : List Pr} {n c : Nat} (B : BagF h p ba ps) (own : OwnR h o n c rs) : ∀ b, blk o b → ¬ bagS p ba b := by
  rintro b hb (rfl | hb2)
  · obtain ⟨bc, be, bo, bs⟩ := B
    obtain ⟨ad, e, eb⟩ := hb
    rcases own.2.2 with ⟨e2, _⟩ | ⟨bb, row, e2, hbb, _⟩
    · rw [e] at e2; cases e2
    · rw [e] at e2; cases e2
      simp only at eb
      subst eb
      rw [hbb] at be; cases be
  · obtain ⟨bc, be, bo, bs⟩ := B
    exact Own.disj own bo (by decide) hb hb2
theorem Both.old2 {h0 h h' : Heap} {i n c : Nat} {o : Option Addr} {ps rs : List Pr} (B : Both h0 i h o n c ps rs) (x : Old h.size h h') : Both h0 i h' o n c ps rs := by
  obtain ⟨ba, b1, b2⟩ := B.bag
  exact ⟨B.old.trans (x.mono B.old.1), ⟨ba, b1.old x, b2⟩, B.own.keep fun ad e => x.2 _ (B.own.lt ad e), B.hi, B.len, B.le, B.perm⟩
theorem plays_body {K : Value → Heap → Prop} {h : Heap} {a : Option Addr} {l c : Nat} {xs : List Op7} (H : SX Op7.cells h a l c xs) (k : ∀ h', Old h.size h h' → K (.bool true) h') : F4 K h a l c := by
  unfold F4
  have hlen := H.len
  have lives : ∀ h1, Old h.size h h1 → callV Try.prog (.func (.func 9) #[] #[]) #[] h1 fun v0 h1 => asBool v0 fun b2 => K (.bool b2) h1 := by
    intro h1 o1
    refine callV_fn (lives13_call fun h2 o2 => ?_)
    simp only [asBool_bool]
    exact k _ (o1.trans (o2.mono o1.1))
  refine ifB_dec (fun hl => lives _ (Old.refl _ _)) (fun hl => ?_)
  have hl' : l ≤ 150 := by omega
  have p1 := pushed h #[.slice none 0 0] 25
  generalize h.push (.cells #[.slice none 0 0] 25) = h1 at *
  have s1 := p1.size
  refine ⟨fun vs h' => ∃ i : Nat, ∃ o n c' ps rs, vs[1]? = some (.slice o n c') ∧ vs[2]? = some (iv i) ∧ i ≤ l ∧ h.size < h'.size ∧ Both h i h' o n c' ps rs,
    fun vs _ => (match vs with | _ :: _ :: .int _ n :: _ => l - n.toNat | _ => 0), ⟨0, none, 0, 0, [], [], rfl, rfl, Nat.zero_le _, by omega, ⟨p1.toOld, ⟨none, ⟨0, p1.new, Own.nil _ _ _, List.Pairwise.nil⟩, fun b hb => absurd hb (blk_none b)⟩, Own.nil _ _ _, fun b hb => absurd hb (blk_none b), rfl, Nat.le_refl _, List.Perm.refl _⟩⟩, ?_⟩
  rintro v5 v6 v7 v8 v9 v10 v11 v12 v13 v14 v15 v16 v17 v18 g19 h20 ⟨i, o, n, c', ps, rs, e1, e2, hi, hs20, B20⟩
  obtain rfl : v6 = .slice o n c' := by simpa using e1
  obtain rfl : v7 = iv i := by simpa using e2
  simp only [asInt_int, asSlice_slice]
  refine ifB_dec (fun hlt => ?_) (fun hge => ?_)
  rotate_left
  · obtain ⟨ba, bag20, hba⟩ := B20.bag
    have hpl := B20.perm.length_eq
    have hle := B20.le
    have hn := B20.len
    refine callV_fn (bagList_call bag20 (by omega) fun a1 c1 h158 own158 hb158 o158 => ?_)
    simp only [asSlice_slice]
    refine callV_fn (ordered_call own158.sx bag20.srt (by omega) ?_)
    simp only [asBool_bool, ifB_true]
    refine callV_fn (plain_call own158.sx (by omega) fun a2 c2 h166 own166 o166 => ?_)
    simp only [asSlice_slice]
    have B166 := (B20.old2 o158).old2 o166
    refine callV_fn (same13_call (ownR_sx own166) (ownR_sx B166.own) B20.perm (by omega) fun h174 o174 => ?_)
    simp only [asBool_bool, ifB_true]
    exact lives _ (B166.old2 o174).old
  have hi' : i < xs.length := by omega
  obtain ⟨ad, rfl, hc⟩ := SX.at op7_len (by omega) (H.old B20.old) hi'
  generalize xs[i] = x at *
  refine ⟨by omega, hlt, ?_⟩
  simp only [asPtr_some, Int.toNat_natCast]
  refine ldH_mk (hc 0 _ rfl) (ldH_mk (hc 1 _ rfl) (ldH_mk (hc 2 _ rfl) (ldH_mk (hc 3 _ rfl) (ldH_mk (hc 4 _ rfl) (ldH_mk (hc 5 _ rfl) (ldH_mk (hc 6 _ rfl) ?_))))))
  have p21 := pushed h20 zs7o.toArray 44
  rw [show h20.push (.cells #[.int .i64 0, .int .i64 0, .int .u32 0, .int .u32 0, .int .i64 0, .int .u32 0, .int .u32 0] 44) = h20.push (.cells zs7o.toArray 44) from rfl]
  generalize h20.push (.cells zs7o.toArray 44) = h21 at *
  have s21 := p21.size
  refine st7' (stN_full (vs := x.cells) p21.new rfl (op7_one x) fun h37 w37 => ?_)
  have o37 : Old h20.size h20 h37 := w37.toOld p21.toOld (Nat.le_refl _)
  have hs37 : h37.size = h20.size + 1 := by rw [w37.size]; exact s21
  simp only [add_lit]
  refine ldR w37.new rfl ?_
  simp only [asInt_int]
  refine ldR w37.new rfl ?_
  simp only [asInt_int]
  have p38 := pushed h37 #[.int .u32 0, .int .u32 0] 36
  generalize h37.push (.cells #[.int .u32 0, .int .u32 0] 36) = h38 at *
  have s38 := p38.size
  refine stR p38.new rfl trivial fun h42 w42 => ?_
  refine stR w42.new rfl trivial fun h43 w43' => ?_
  have w43 := w42.trans w43'
  have o43 : Old h37.size h37 h43 := w43.toOld p38.toOld (Nat.le_refl _)
  have hs43 : h43.size = h37.size + 1 := by rw [w43.size]; exact s38
  have pr43 : h43[h37.size]? = some (.cells (prc (x.c.k, x.c.v)).toArray 36) := w43.new
  have x43 : h43[h20.size]? = some (.cells x.cells.toArray 44) := (o43.2 _ (by omega)).trans w37.new
  have B43 := (B20.old2 o37).old2 o43
  obtain ⟨ba, bag43, hba⟩ := B43.bag
  have hn := B43.len
  have hle := B43.le
  have hpl := B43.perm.length_eq
  have hS := bag43.srt
  have hsz : h.size < h43.size := by omega
  refine ⟨fun vs h' => ∃ o' n' c'' ps' rs', vs[1]? = some (.slice o' n' c'') ∧ h.size < h'.size ∧ Both h (i + 1) h' o' n' c'' ps' rs', ?_, ?_⟩
  · refine ldR x43 rfl ?_
    simp only [asInt_int]
    refine ifB_mk (fun hp1 => ?_) (fun hp1 => ?_)
    · refine ldR pr43 rfl ?_
      simp only [asInt_int]
      refine ldR pr43 rfl ?_
      simp only [asInt_int]
      refine callV_fn (bagAdd_call (q := (x.c.k, x.c.v)) bag43 (by omega) fun a' h52 B52 hb52 fr52 => ?_)
      have dis := bag_disj bag43 B43.own
      have own52 : OwnR h52 o n c' rs := B43.own.fr fr52 dis
      have pr52 : h52[h37.size]? = some (.cells (prc (x.c.k, x.c.v)).toArray 36) := (fr52.2 _ (by omega) (fun h => by
        rcases h with h | h
        · have := B20.old.1; omega
        · have hb := (B20.old2 o37).bag
          obtain ⟨c3, e3, own3, _⟩ := bag43
          obtain ⟨ad3, ea3, eb3⟩ := h
          rcases own3.2.2 with ⟨e4, _⟩ | ⟨bb, row, e4, hbb, _⟩
          · rw [e4] at ea3; cases ea3
          · rw [e4] at ea3; cases ea3
            simp only at eb3
            subst eb3
            rw [hbb] at pr43; cases pr43)).trans pr43
      refine ldR pr52 rfl (ldR pr52 rfl ?_)
      refine app_r1 (p := (x.c.k, x.c.v)) own52 (by omega) fun o' c2 h59 own59 hb59 fr59 => ?_
      simp only [asSlice_slice]
      have f52 := fr52.1
      have f59 := fr59.1
      have o43' := B43.old.1
      have hb52' : ∀ b, blk a' b → h.size ≤ b := fun b hb => (hb52 b hb).elim (hba b) fun h2 => by omega
      refine ⟨o', n + 1, c2, insP (x.c.k, x.c.v) ps, rs ++ [(x.c.k, x.c.v)], rfl, by omega, ⟨⟨by omega, fun b hb => ?_⟩, ⟨a', ?_, hb52'⟩, own59, fun b hb => ?_, by simp [hn], by omega, ((insP_perm _ _).trans (List.Perm.cons _ B43.perm)).trans (List.perm_append_singleton _ _).symm⟩⟩
      · have e1 := fr59.2 b (by omega) (fun h => by have := B43.hi b h; omega)
        have e2 := fr52.2 b (by omega) (fun h => by
          rcases h with h | h
          · omega
          · have := hba b h; omega)
        exact e1.trans (e2.trans (B43.old.2 b hb))
      · exact B52.fr fr59 (fun hb => bag_disj B52 own52 _ hb (.inl rfl)) fun b hb hb2 => bag_disj B52 own52 b hb2 (.inr hb)
      · rcases hb59 b hb with h2 | h2
        · exact B43.hi b h2
        · omega
    · refine ifB_mk (fun hp2 => ?_) (fun hp2 => ?_)
      · refine ldR pr43 rfl ?_
        simp only [asInt_int]
        refine ldR pr43 rfl ?_
        simp only [asInt_int]
        refine ldR pr43 rfl (ldR pr43 rfl ?_)
        refine callV_fn (bagTake_call (q := (x.c.k, x.c.v)) bag43 (by omega) fun h73 B73 fr73 => ?_)
        simp only [asBool_bool]
        have dis := bag_disj bag43 B43.own
        have own73 : OwnR h73 o n c' rs := B43.own.fr fr73 dis
        have pr73 : h73[h37.size]? = some (.cells (prc (x.c.k, x.c.v)).toArray 36) := (fr73.2 _ (by omega) (fun h => by
          rcases h with h | h
          · have := B20.old.1; omega
          · obtain ⟨c3, e3, own3, _⟩ := bag43
            obtain ⟨ad3, ea3, eb3⟩ := h
            rcases own3.2.2 with ⟨e4, _⟩ | ⟨bb, row, e4, hbb, _⟩
            · rw [e4] at ea3; cases ea3
            · rw [e4] at ea3; cases ea3
              simp only at eb3
              subst eb3
              rw [hbb] at pr43; cases pr43)).trans pr43
        refine ⟨cellR pr73 rfl, cellR pr73 rfl, ?_⟩
        refine callV_fn (refCount_call (p := (x.c.k, x.c.v)) (ownR_sx own73) (by omega) fun h76 o76 => ?_)
        simp only [asInt_int]
        have hcnt : (decide ((x.c.k, x.c.v) ∈ ps) == decide (((rs.count (x.c.k, x.c.v) : Nat) : Int) > 0)) = true := by
          rw [beq_iff_eq, decide_eq_decide, B43.perm.mem_iff, ← List.count_pos_iff]
          omega
        rw [hcnt]
        simp only [Bool.not_true, ifB_false]
        have pr76 := (o76.2 _ ((Array.getElem?_eq_some_iff.1 pr73).1)).trans pr73
        refine ldR pr76 rfl (ldR pr76 rfl ?_)
        have own76 : OwnR h76 o n c' rs := own73.keep fun ad e => o76.2 _ (own73.lt ad e)
        refine callV_fn (refWithout_call (p := (x.c.k, x.c.v)) (ownR_sx own76) (by omega) fun o' c2 h84 own84 hb84 o84 => ?_)
        simp only [asSlice_slice]
        have f73 := fr73.1
        have f76 := o76.1
        have f84 := o84.1
        have o43' := B43.old.1
        have hel : (rs.erase (x.c.k, x.c.v)).length ≤ rs.length := List.erase_sublist.length_le
        refine ⟨o', _, c2, ps.erase (x.c.k, x.c.v), rs.erase (x.c.k, x.c.v), rfl, by omega, ⟨⟨by omega, fun b hb => ?_⟩, ⟨ba, (B73.old o76).old o84, hba⟩, own84, fun b hb => by have := hb84 b hb; omega, rfl, by omega, B43.perm.erase _⟩⟩
        have e2 := fr73.2 b (by omega) (fun h => by
          rcases h with h | h
          · omega
          · have := hba b h; omega)
        exact (o84.2 b (by omega)).trans ((o76.2 b (by omega)).trans (e2.trans (B43.old.2 b hb)))
      · refine ldR x43 rfl (ldR x43 rfl (ldR x43 rfl (ldR x43 rfl (ldR x43 rfl (ldR x43 rfl ?_)))))
        refine callV_fn (refDo_call (c3 := x.c) (a3 := x.a) B43.own (by omega) fun o' c2 h98 own98 hb98 o98 => ?_)
        simp only [asTup_tuple]
        refine elemH_mk rfl ?_
        simp only [asSlice_slice]
        refine elemH_mk rfl ?_
        simp only [asBool_bool]
        have x98 := (o98.2 _ ((Array.getElem?_eq_some_iff.1 x43).1)).trans x43
        refine ldR x98 rfl (ldR x98 rfl (ldR x98 rfl (ldR x98 rfl (ldR x98 rfl (ldR x98 rfl ?_)))))
        have bag98 := bag43.old o98
        refine callV_fn (bagDo_call (c3 := x.c) (a3 := x.a) bag98 (by omega) fun a' h114 B114 hb114 fr114 => ?_)
        simp only [asBool_bool]
        have hboth := do_perm hS B43.perm x.c x.a
        have hsome : (doP ps x.c x.a).isSome = (doR rs x.c x.a).isSome := by
          rcases hboth with ⟨e1, e2⟩ | ⟨qs, ts, e1, e2, _⟩ <;> rw [e1, e2] <;> rfl
        have hperm : ((doP ps x.c x.a).getD ps).Perm ((doR rs x.c x.a).getD rs) := by
          rcases hboth with ⟨e1, e2⟩ | ⟨qs, ts, e1, e2, _, e3⟩
          · rw [e1, e2]; exact B43.perm
          · rw [e1, e2]; exact e3
        rw [hsome, beq_self_eq_true]
        simp only [Bool.not_true, ifB_false]
        have hdl := doR_len' rs x.c x.a
        have f98 := o98.1
        have f114 := fr114.1
        have o43' := B43.old.1
        have own114 := own98.fr fr114 (bag_disj bag98 own98)
        refine ⟨o', _, c2, _, _, rfl, by omega, ⟨⟨by omega, fun b hb => ?_⟩, ⟨a', B114, fun b hb => ?_⟩, own114, fun b hb => ?_, rfl, by omega, hperm⟩⟩
        · have e2 := fr114.2 b (by omega) (fun h => by
            rcases h with h | h
            · omega
            · have := hba b h; omega)
          exact e2.trans ((o98.2 b (by omega)).trans (B43.old.2 b hb))
        · rcases hb114 b hb with h2 | h2
          · exact hba b h2
          · omega
        · rcases hb98 b hb with h2 | h2
          · exact B43.hi b h2
          · omega
  rintro v116 v117 v118 v119 v120 v121 v122 g123 h124 ⟨o', n', c2, ps', rs', e1, hs124, B124⟩
  obtain rfl : v117 = .slice o' n' c2 := by simpa using e1
  obtain ⟨ba', bag124, hba'⟩ := B124.bag
  have hS' := bag124.srt
  have hn' := B124.len
  have hle' := B124.le
  have hpl' := B124.perm.length_eq
  refine callV_fn (bagLeast_call bag124 ?_)
  simp only [asTup_tuple]
  refine elemH_mk rfl ?_
  simp only [asInt_int]
  refine elemH_mk rfl ?_
  simp only [asBool_bool, asSlice_slice]
  refine callV_fn (refLeast_call (ownR_sx B124.own) (by omega) ?_)
  simp only [asTup_tuple]
  refine elemH_mk rfl ?_
  simp only [asInt_int]
  refine elemH_mk rfl ?_
  simp only [asBool_bool]
  have hemp : ps'.isEmpty = rs'.isEmpty := by
    cases ps' <;> cases rs' <;> first | rfl | (simp at hpl')
  rw [minK_perm hS' B124.perm, bne_self_eq_false, hemp, beq_self_eq_true]
  simp only [ifB_false, Bool.not_true]
  refine ⟨fun vs h' => vs[1]? = some (.bool false) ∧ h' = h124, ?_, ?_⟩
  · refine callV_fn (bagLen_call bag124 ?_)
    simp only [asInt_int]
    refine ⟨?_, by trivial⟩
    rw [hpl', hn', bne_self_eq_false]; rfl
  rintro v151 v152 g153 h154 ⟨e, rfl⟩
  obtain rfl : v152 = .bool false := by simpa using e
  simp only [asBool_bool, ifB_false]
  rw [nat_wrap1 (by omega)]
  exact ⟨⟨i + 1, o', n', c2, ps', rs', rfl, rfl, by omega, hs124, B124⟩, by show l - ((i + 1 : Nat) : Int).toNat < l - (i : Int).toNat; omega⟩
end Go.Proofs.Ytlncjcbofgjcfaa
end
section
/- Rows: arguments that are slices of structs, in general; of pairs, of operations on a bag. -/
namespace Go.Proofs.Ytlncjcbofgjcfaa
open Go.ChangeShapes Go.WideShapes Go.ChangeAt Go.RowKit
set_option linter.unusedVariables false
set_option linter.unusedSimpArgs false
set_option maxRecDepth 20000
theorem trod_fieldG {H : Type} {enc : TypeId × Value → H} {P : Program} {W : World} {base : Nat} {spare : Nat → Bool} {held : Bool} {fuel : Nat} {t : TypeId} {cs : List Value} {x : DataW H × List MemPlace} {fs : Array Field} (ht : P.underlying t = some (.struct fs))
    (h : DataW.trod enc P W base spare held fuel t cs = some x) (i : Nat) (f : Field) (hf : fs[i]? = some f) : ∃ n y, DataW.trod enc P W base spare held n f.type ((cs.drop f.offset).take (P.cellsOf f.type)) = some y := by
  obtain ⟨xs, n, _, _, _, hlen, hfl⟩ := DataW.trod_struct ht h
  have hi : i < xs.length := by rw [hlen]; exact (Array.getElem?_eq_some_iff.1 hf).1
  exact ⟨n, xs[i], by rw [hfl i f hf, List.getElem?_eq_getElem hi]⟩
theorem trod_lenG {H : Type} {enc : TypeId × Value → H} {P : Program} {W : World} {base : Nat} {spare : Nat → Bool} {held : Bool} {fuel : Nat} {t : TypeId} {cs : List Value} {x : DataW H × List MemPlace} {fs : Array Field} (ht : P.underlying t = some (.struct fs))
    (h : DataW.trod enc P W base spare held fuel t cs = some x) : cs.length = P.cellsOf t := by
  obtain ⟨xs, n, _, _, hl, _, _⟩ := DataW.trod_struct ht h
  exact hl
theorem arg_sx {H : Type} {enc : TypeId × Value → H} {W : World} {α : Type} {f : α → List Value} {n : Nat} (hf : ∀ x, (f x).length = n) (hn : 0 < n) {ts t : TypeId} (hu : Program.underlying Try.prog ts = some (.slice t)) (hco : Program.cellsOf Try.prog t = n)
    (hcell : ∀ fuel cs x, DataW.trod enc Try.prog W 0 (fun _ => true) true fuel t cs = some x → ∃ e, cs = f e) {d : DataW H} {ps : List MemPlace} {a : Option Addr} {l c : Nat}
    (h : DataW.Trod enc Try.prog W 0 (fun _ => true) true ts (.slice a l c) d ps) : ∃ es : List α, SX f W.heap a l c es := by
  obtain ⟨fuel, hf0⟩ := h
  rcases DataW.trod_slice hu hf0 with ⟨hcs, _⟩ | ⟨x, l1, c1, elems, rest, m, _, hcs, _, _, hl, hm, hlen, hel, _, _⟩
  · simp [Value.cells] at hcs
    obtain ⟨rfl, rfl, rfl⟩ := hcs
    exact ⟨[], ⟨Sees.nil _ _, rfl, Nat.le_refl _⟩⟩
  · simp [Value.cells] at hcs
    obtain ⟨rfl, rfl, rfl⟩ := hcs
    have each : ∀ i, i < l → ∃ e : α, ∀ j v, (f e)[j]? = some v → cellAt W.heap (x.add (i * n + j)) = some v := by
      intro i hi
      have := hel i hi
      rw [List.getElem?_eq_getElem (by omega), Option.bind_eq_some_iff] at this
      obtain ⟨cs, h1, h2⟩ := this
      obtain ⟨e, rfl⟩ := hcell _ _ _ h2
      obtain ⟨_, h3, h4⟩ := World.cells?_some h1
      refine ⟨e, fun j v hv => ?_⟩
      have hj : j < n := by have := (List.getElem?_eq_some_iff.1 hv).1; rwa [hf] at this
      rw [hco] at h1 h4
      have h5 := h4 j (by omega)
      rw [hv, add_add] at h5
      exact h5
    have pick : ∀ m, m ≤ l → ∃ es : List α, es.length = m ∧ ∀ i (hi : i < es.length), ∀ j v, (f es[i])[j]? = some v → cellAt W.heap (x.add (i * n + j)) = some v := by
      intro m
      induction m with
      | zero => intro _; exact ⟨[], rfl, fun i hi => by simp at hi⟩
      | succ m ih =>
        intro hm
        obtain ⟨es, h1, h2⟩ := ih (by omega)
        obtain ⟨e, he⟩ := each m (by omega)
        refine ⟨es ++ [e], by simp [h1], fun i hi j v hv => ?_⟩
        by_cases e : i < es.length
        · rw [List.getElem_append_left e] at hv
          exact h2 i e j v hv
        · have : i = m := by simp at hi; omega
          subst this
          rw [List.getElem_append_right (by omega)] at hv
          simp only [h1, Nat.sub_self, List.getElem_singleton] at hv
          exact he j v hv
    obtain ⟨es, h1, h2⟩ := pick l (Nat.le_refl _)
    refine ⟨es, ⟨?_, h1, hl⟩⟩
    intro q v hq
    have hqlt : q < es.length * n := by rw [← flat_len hf]; exact (List.getElem?_eq_some_iff.1 hq).1
    have hi : q / n < es.length := (Nat.div_lt_iff_lt_mul hn).2 hqlt
    have e := flat_get hf hi (j := q % n) (Nat.mod_lt _ hn)
    have e3 : q / n * n + q % n = q := by rw [Nat.mul_comm]; exact Nat.div_add_mod q n
    rw [e3, hq] at e
    have := h2 (q / n) hi (q % n) v e.symm
    rw [e3] at this
    exact ⟨x, rfl, this⟩
theorem cellsOfG_u32 : Program.cellsOf Try.prog 27 = 1 := by kernel_rfl
theorem cellsOfG_int : Program.cellsOf Try.prog 3 = 1 := by kernel_rfl
theorem cellsOfG_call : Program.cellsOf Try.prog 40 = 3 := by kernel_rfl
theorem cellsOfG_ans : Program.cellsOf Try.prog 42 = 3 := by kernel_rfl
section
variable {H : Type} {enc : TypeId × Value → H} {W : World} {fuel : Nat} {cs : List Value} {x : DataW H × List MemPlace}
theorem pair_cells (h : DataW.trod enc Try.prog W 0 (fun _ => true) true fuel 29 cs = some x) : ∃ e : Pr, cs = prc e := by
  have hl := trod_lenG Try.underlying29 h
  rw [show Program.cellsOf Try.prog 29 = 2 by kernel_rfl] at hl
  obtain ⟨_, _, e0⟩ := trod_fieldG Try.underlying29 h 0 _ rfl
  obtain ⟨_, _, e1⟩ := trod_fieldG Try.underlying29 h 1 _ rfl
  obtain ⟨n0, u0, _, _⟩ := DataW.trod_int Try.underlying27 e0
  obtain ⟨n1, u1, _, _⟩ := DataW.trod_int Try.underlying27 e1
  have q0 : (cs.drop 0).take (Program.cellsOf Try.prog 27) = [.int .u32 n0] := u0
  have q1 : (cs.drop 1).take (Program.cellsOf Try.prog 27) = [.int .u32 n1] := u1
  rw [cellsOfG_u32] at q0 q1
  refine ⟨(n0, n1), ?_⟩
  rcases cs with _ | ⟨c0, cs⟩; · simp at hl
  rcases cs with _ | ⟨c1, cs⟩; · simp at hl
  rcases cs with _ | ⟨c2, cs⟩
  · simp at q0 q1
    rw [q0, q1]
  · simp at hl
theorem call_cells {t : TypeId} (ht : t = 40 ∨ t = 42) (h : DataW.trod enc Try.prog W 0 (fun _ => true) true fuel t cs = some x) : ∃ e : C3, cs = c3c e := by
  have key : ∀ (n0 n1 n2 : Int), cs.length = 3 → (cs.drop 0).take 1 = [.int .i64 n0] → (cs.drop 1).take 1 = [.int .u32 n1] → (cs.drop 2).take 1 = [.int .u32 n2] → ∃ e : C3, cs = c3c e := by
    intro n0 n1 n2 hl q0 q1 q2
    refine ⟨⟨n0, n1, n2⟩, ?_⟩
    rcases cs with _ | ⟨c0, cs⟩; · simp at hl
    rcases cs with _ | ⟨c1, cs⟩; · simp at hl
    rcases cs with _ | ⟨c2, cs⟩; · simp at hl
    rcases cs with _ | ⟨c3, cs⟩
    · simp at q0 q1 q2
      rw [q0, q1, q2]; rfl
    · simp at hl
  rcases ht with rfl | rfl
  · have hl := trod_lenG Try.underlying40 h
    rw [cellsOfG_call] at hl
    obtain ⟨_, _, e0⟩ := trod_fieldG Try.underlying40 h 0 _ rfl
    obtain ⟨_, _, e1⟩ := trod_fieldG Try.underlying40 h 1 _ rfl
    obtain ⟨_, _, e2⟩ := trod_fieldG Try.underlying40 h 2 _ rfl
    obtain ⟨n0, u0, _, _⟩ := DataW.trod_int Try.underlying3 e0
    obtain ⟨n1, u1, _, _⟩ := DataW.trod_int Try.underlying27 e1
    obtain ⟨n2, u2, _, _⟩ := DataW.trod_int Try.underlying27 e2
    exact key n0 n1 n2 hl u0 u1 u2
  · have hl := trod_lenG Try.underlying42 h
    rw [cellsOfG_ans] at hl
    obtain ⟨_, _, e0⟩ := trod_fieldG Try.underlying42 h 0 _ rfl
    obtain ⟨_, _, e1⟩ := trod_fieldG Try.underlying42 h 1 _ rfl
    obtain ⟨_, _, e2⟩ := trod_fieldG Try.underlying42 h 2 _ rfl
    obtain ⟨n0, u0, _, _⟩ := DataW.trod_int Try.underlying3 e0
    obtain ⟨n1, u1, _, _⟩ := DataW.trod_int Try.underlying27 e1
    obtain ⟨n2, u2, _, _⟩ := DataW.trod_int Try.underlying27 e2
    exact key n0 n1 n2 hl u0 u1 u2
theorem op7_cells (h : DataW.trod enc Try.prog W 0 (fun _ => true) true fuel 44 cs = some x) : ∃ e : Op7, cs = e.cells := by
  have hl := trod_lenG Try.underlying44 h
  rw [show Program.cellsOf Try.prog 44 = 7 by kernel_rfl] at hl
  obtain ⟨_, _, e0⟩ := trod_fieldG Try.underlying44 h 0 _ rfl
  obtain ⟨_, _, e1⟩ := trod_fieldG Try.underlying44 h 1 _ rfl
  obtain ⟨_, _, e2⟩ := trod_fieldG Try.underlying44 h 2 _ rfl
  obtain ⟨n0, u0, _, _⟩ := DataW.trod_int Try.underlying3 e0
  obtain ⟨⟨c0, c1, c2⟩, u1⟩ := call_cells (.inl rfl) e1
  obtain ⟨⟨a0, a1, a2⟩, u2⟩ := call_cells (.inr rfl) e2
  have q0 : (cs.drop 0).take (Program.cellsOf Try.prog 3) = [.int .i64 n0] := u0
  have q1 : (cs.drop 1).take (Program.cellsOf Try.prog 40) = [.int .i64 c0, .int .u32 c1, .int .u32 c2] := u1
  have q2 : (cs.drop 4).take (Program.cellsOf Try.prog 42) = [.int .i64 a0, .int .u32 a1, .int .u32 a2] := u2
  rw [cellsOfG_int] at q0
  rw [cellsOfG_call] at q1
  rw [cellsOfG_ans] at q2
  refine ⟨⟨n0, ⟨c0, c1, c2⟩, ⟨a0, a1, a2⟩⟩, ?_⟩
  rcases cs with _ | ⟨d0, cs⟩; · simp at hl
  rcases cs with _ | ⟨d1, cs⟩; · simp at hl
  rcases cs with _ | ⟨d2, cs⟩; · simp at hl
  rcases cs with _ | ⟨d3, cs⟩; · simp at hl
  rcases cs with _ | ⟨d4, cs⟩; · simp at hl
  rcases cs with _ | ⟨d5, cs⟩; · simp at hl
  rcases cs with _ | ⟨d6, cs⟩; · simp at hl
  rcases cs with _ | ⟨d7, cs⟩
  · simp at q0 q1 q2
    obtain ⟨r0, r1, r2⟩ := q1
    obtain ⟨r3, r4, r5⟩ := q2
    rw [q0, r0, r1, r2, r3, r4, r5]
  · simp at hl
end
section
variable {H : Type} {enc : TypeId × Value → H} {W : World} {d : DataW H} {ps : List MemPlace} {a : Option Addr} {l c : Nat}
theorem arg_pairs (h : DataW.Trod enc Try.prog W 0 (fun _ => true) true 22 (.slice a l c) d ps) : ∃ es : List Pr, SPr W.heap a l c es :=
  arg_sx prc_len (by omega) Try.underlying22 (by kernel_rfl) (fun _ _ _ h => pair_cells h) h
theorem arg_ops7 (h : DataW.Trod enc Try.prog W 0 (fun _ => true) true 38 (.slice a l c) d ps) : ∃ es : List Op7, SX Op7.cells W.heap a l c es :=
  arg_sx op7_len (by omega) Try.underlying38 (by kernel_rfl) (fun _ _ _ h => op7_cells h) h
theorem arg_calls (h : DataW.Trod enc Try.prog W 0 (fun _ => true) true 62 (.slice a l c) d ps) : ∃ es : List C3, SX c3c W.heap a l c es :=
  arg_sx c3c_len (by omega) Try.underlying62 (by kernel_rfl) (fun _ _ _ h => call_cells (.inl rfl) h) h
theorem arg_answers (h : DataW.Trod enc Try.prog W 0 (fun _ => true) true 63 (.slice a l c) d ps) : ∃ es : List C3, SX c3c W.heap a l c es :=
  arg_sx c3c_len (by omega) Try.underlying63 (by kernel_rfl) (fun _ _ _ h => call_cells (.inr rfl) h) h
end
end Go.Proofs.Ytlncjcbofgjcfaa
end
