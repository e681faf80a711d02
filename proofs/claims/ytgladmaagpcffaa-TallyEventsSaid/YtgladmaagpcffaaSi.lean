/- Sequences: those that are kept, and what is made of each. -/
import Derived.Test.YtgladmaagpcffaaSh
set_option linter.unusedSimpArgs false
set_option linter.unusedVariables false
set_option maxRecDepth 20000
namespace Go.Proofs.Ytgladmaagpcffaa

/-- A pure test of numbers. -/
def KeepAt (f : Value) (p : Int → Bool) (h : Heap) : Prop :=
  (∃ g x y, f = .func (.func g) x y) ∧ ∃ Ev : Heap → Prop, Ev h ∧ (∀ h h', Old h.size h h' → Ev h → Ev h') ∧
    ∀ (h : Heap) (x : Int) (K : Value → Heap → Prop), Ev h → (∀ h', Old h.size h h' → K (.bool (p x)) h') → callV Try.prog f #[.int .i64 x] h K
theorem KeepAt.old {f : Value} {p : Int → Bool} {h h' : Heap} (H : KeepAt f p h) (ho : Old h.size h h') : KeepAt f p h' := by
  obtain ⟨e, Ev, h1, h2, h3⟩ := H
  exact ⟨e, Ev, h2 _ _ ho h1, h2, h3⟩
/-- The same, on numbers that are in a set. -/
def KeepOn (f : Value) (D : Int → Prop) (p : Int → Bool) (h : Heap) : Prop :=
  (∃ g x y, f = .func (.func g) x y) ∧ ∃ Ev : Heap → Prop, Ev h ∧ (∀ h h', Old h.size h h' → Ev h → Ev h') ∧
    ∀ (h : Heap) (x : Int) (K : Value → Heap → Prop), Ev h → D x → (∀ h', Old h.size h h' → K (.bool (p x)) h') → callV Try.prog f #[.int .i64 x] h K
theorem KeepOn.old {f : Value} {D : Int → Prop} {p : Int → Bool} {h h' : Heap} (H : KeepOn f D p h) (ho : Old h.size h h') : KeepOn f D p h' := by
  obtain ⟨e, Ev, h1, h2, h3⟩ := H
  exact ⟨e, Ev, h2 _ _ ho h1, h2, h3⟩
theorem KeepAt.on {f : Value} {p : Int → Bool} {h : Heap} (H : KeepAt f p h) (D : Int → Prop) : KeepOn f D p h := by
  obtain ⟨e, Ev, h1, h2, h3⟩ := H
  exact ⟨e, Ev, h1, h2, fun h x K he _ k => h3 h x K he k⟩
/-- A pure map of numbers. -/
def MapAt (f : Value) (p : Int → Int) (h : Heap) : Prop :=
  (∃ g x y, f = .func (.func g) x y) ∧ ∃ Ev : Heap → Prop, Ev h ∧ (∀ h h', Old h.size h h' → Ev h → Ev h') ∧
    ∀ (h : Heap) (x : Int) (K : Value → Heap → Prop), Ev h → (∀ h', Old h.size h h' → K (iv (p x)) h') → callV Try.prog f #[.int .i64 x] h K
theorem MapAt.old {f : Value} {p : Int → Int} {h h' : Heap} (H : MapAt f p h) (ho : Old h.size h h') : MapAt f p h' := by
  obtain ⟨e, Ev, h1, h2, h3⟩ := H
  exact ⟨e, Ev, h2 _ _ ho h1, h2, h3⟩

theorem filter_at {L : List Int} {p : Int → Bool} {j : Nat} (hj : j < L.length) (hp : p L[j] = true) :
    ((L.take j).filter p).length < (L.filter p).length ∧ (L.filter p).getD ((L.take j).filter p).length 0 = L[j] := by
  have e : L.filter p = (L.take j).filter p ++ L[j] :: (L.drop (j + 1)).filter p := by
    conv => lhs; rw [← List.take_append_drop j L, List.filter_append, List.drop_eq_getElem_cons hj, List.filter_cons_of_pos hp]
  rw [e]
  constructor
  · simp
  · simp
theorem filter_succ {L : List Int} {p : Int → Bool} {j : Nat} (hj : j < L.length) : ((L.take (j + 1)).filter p).length = ((L.take j).filter p).length + (if p L[j] then 1 else 0) := by
  rw [List.take_succ_eq_append_getElem hj, List.filter_append, List.length_append]
  cases h : p L[j] <;> simp [h]

theorem keep_of_old {N M : Nat} {h h' : Heap} (o : Old h.size h h') : Keep N M h h' := ⟨o.1, fun b hb _ => o.2 b hb⟩
theorem keepMid_of_old {N M : Nat} {h h' : Heap} (o : Old h.size h h') (hM : M ≤ h.size) : KeepMid N M h h' := ⟨o.1, fun b _ hb => o.2 b (by omega)⟩
theorem KeepMid.trans {N M : Nat} {a b c : Heap} (x : KeepMid N M a b) (y : KeepMid N M b c) : KeepMid N M a c := ⟨Nat.le_trans x.1 y.1, fun i h1 h2 => (y.2 i h1 h2).trans (x.2 i h1 h2)⟩
theorem KeepMid.mono {N N' M : Nat} {a b : Heap} (x : KeepMid N M a b) (h : N ≤ N') : KeepMid N' M a b := ⟨x.1, fun i h1 h2 => x.2 i (by omega) h2⟩

/-- Those that are kept. -/
theorem only_seq {sp kp : Nat} {g f : Value} {L : List Int} {p : Int → Bool} {D : Int → Prop} {Ev Ek : Heap → Prop} (hD : ∀ x ∈ L, D x) (hg : fnV g) (hseq : SeqH Try.prog g L.length (seqOf L) Ev) (hst : ∀ h h', Old h.size h h' → Ev h → Ev h')
    (hsk : ∀ h h', Old h.size h h' → Ek h → Ek h') (hk : ∀ (h : Heap) (x : Int) (K : Value → Heap → Prop), Ek h → D x → (∀ h', Old h.size h h' → K (.bool (p x)) h') → callV Try.prog f #[.int .i64 x] h K) :
    SeqH Try.prog (.func (.func 93) #[] #[.pointer (some ⟨sp, 0, none⟩), .pointer (some ⟨kp, 0, none⟩)]) (L.filter p).length (seqOf (L.filter p))
      (fun h => cellAt h ⟨sp, 0, none⟩ = some g ∧ cellAt h ⟨kp, 0, none⟩ = some f ∧ Ev h ∧ Ek h) := by
  intro yf y1 y2 h N I X hN hev hok hy
  refine callV_cl ?_
  rw [cl3]
  refine call93 ?_
  unfold F93
  simp only [asPtr_some, oneC_func]
  have o1 : Old h.size h (h.push (.cells #[.func yf y1 y2] 50)) := (Old.refl _ _).push _ (Nat.le_refl _)
  have n1 := push_new h (.cells #[.func yf y1 y2] 50)
  have s1 : (h.push (.cells #[.func yf y1 y2] 50)).size = h.size + 1 := by simp
  generalize h.push (.cells #[.func yf y1 y2] 50) = h1 at *
  refine ldH_mk (cell_stable _ _ o1 hev.1) ?_
  refine rangeH_outer (h0 := h) (I := I) (X := X) (N := N) (n := L.length) (xs := seqOf L) (Ev := Ev) (fun _ h' => h'[h.size]? = some (.cells #[.func yf y1 y2] 50)) (fun j => ((L.take j).filter p).length) (L.filter p).length False
    hg hseq (fun _ _ => rfl) hN o1 hok (fun h' e => e.2.2.1) (hst _ _ o1 hev.2.2.1) (by simp) (by simp) (fun k ha hb hsame e => (hsame _ (Nat.le_refl _) (by omega)).trans e) n1 ?_ ?_ ?_
  · intro M j h4 hj hM hs hS hI
    rw [s1] at hM
    have e2 : (seqOf L j).getD 0 (.tuple #[]) = .int .i64 L[j] := by unfold seqOf; simp [hj]
    rw [e2]
    simp only [asInt_int]
    have hev4 := hok.env M _ h4 (by omega) hs hI
    refine ⟨fun vs h' => ∃ b : Bool, vs = [.bool b] ∧ KeepMid h1.size M h4 h' ∧ (if b then X M () h' else h'[h.size]? = some (.cells #[.func yf y1 y2] 50) ∧ I M ((L.take (j + 1)).filter p).length h'), ?_, ?_⟩
    · refine ldH_mk hev4.2.1 ?_
      refine hk _ _ _ hev4.2.2.2 (hD _ (List.getElem_mem _)) fun h10 o10 => ?_
      simp only [asBool_bool]
      have hI10 := hok.keepI M _ h4 h10 (by omega) hs hI (keep_of_old o10)
      have hS10 : h10[h.size]? = some (.cells #[.func yf y1 y2] 50) := (o10.2 _ (by omega)).trans hS
      refine ifB_mk (fun hp => ?_) (fun hp => ?_)
      · refine ldH_mk (cellAt_row hS10) ?_
        obtain ⟨f1, f2⟩ := filter_at hj hp
        have hyk := hy M _ h10 f1 (by omega) (by omega) (by have := o10.1; omega) hI10
        rw [show seqOf (L.filter p) ((L.take j).filter p).length = #[.int .i64 L[j]] by unfold seqOf; rw [f2]] at hyk
        refine callV_mono ?_ hyk
        rintro w h14 ⟨hm, hor⟩
        have hm4 : KeepMid h1.size M h4 h14 := (keepMid_of_old o10 hs).trans (hm.mono (by omega))
        rcases hor with ⟨rfl, hI'⟩ | ⟨rfl, hX⟩
        · simp only [asBool_bool, Bool.not_true]
          refine ⟨false, rfl, hm4, ?_⟩
          simp only [Bool.false_eq_true, if_false]
          refine ⟨(hm.2 _ (by omega) (by omega)).trans hS10, ?_⟩
          rw [filter_succ hj, if_pos hp]; exact hI'
        · simp only [asBool_bool, Bool.not_false]
          exact ⟨true, rfl, hm4, by simp only [if_true]; exact hX⟩
      · refine ⟨false, rfl, keepMid_of_old o10 hs, ?_⟩
        simp only [Bool.false_eq_true, if_false]
        refine ⟨hS10, ?_⟩
        rw [filter_succ hj, if_neg (by simp [hp])]; exact hI10
    · rintro v16 g17 h18 ⟨b, e, hm, hb⟩
      cases e
      simp only [asBool_bool]
      cases b with
      | true => simp only [ifB_true]; simp only [if_true] at hb; exact ⟨hm, trivial, .inl hb⟩
      | false => simp only [ifB_false]; simp only [Bool.false_eq_true, if_false] at hb; exact ⟨hm, by have := hm.1; omega, hb⟩
  · intro M h20 hM hs hI h21 hsd
    refine ⟨M, by omega, by omega, by rw [hsd.1]; exact hs, .inl ?_⟩
    exact hok.dI M _ h20 h21 (hsd.mono hN) hI
  · refine ⟨fun M h22 hM hs hX h23 hsd => ?_, trivial⟩
    refine ⟨M, by omega, by omega, by rw [hsd.1]; exact hs, .inr ?_⟩
    rcases hX with hX | hX
    · exact hok.dX M _ h22 h23 (hsd.mono hN) hX
    · exact hX.1.elim

/-- What is made of each. -/
theorem each_seq {sp kp : Nat} {g f : Value} {L : List Int} {p : Int → Int} {Ev Ek : Heap → Prop} (hg : fnV g) (hseq : SeqH Try.prog g L.length (seqOf L) Ev) (hst : ∀ h h', Old h.size h h' → Ev h → Ev h')
    (hsk : ∀ h h', Old h.size h h' → Ek h → Ek h') (hk : ∀ (h : Heap) (x : Int) (K : Value → Heap → Prop), Ek h → (∀ h', Old h.size h h' → K (iv (p x)) h') → callV Try.prog f #[.int .i64 x] h K) :
    SeqH Try.prog (.func (.func 94) #[] #[.pointer (some ⟨sp, 0, none⟩), .pointer (some ⟨kp, 0, none⟩)]) (L.map p).length (seqOf (L.map p))
      (fun h => cellAt h ⟨sp, 0, none⟩ = some g ∧ cellAt h ⟨kp, 0, none⟩ = some f ∧ Ev h ∧ Ek h) := by
  intro yf y1 y2 h N I X hN hev hok hy
  refine callV_cl ?_
  rw [cl3]
  refine call94 ?_
  unfold F94
  simp only [asPtr_some, oneC_func]
  have o1 : Old h.size h (h.push (.cells #[.func yf y1 y2] 50)) := (Old.refl _ _).push _ (Nat.le_refl _)
  have n1 := push_new h (.cells #[.func yf y1 y2] 50)
  have s1 : (h.push (.cells #[.func yf y1 y2] 50)).size = h.size + 1 := by simp
  generalize h.push (.cells #[.func yf y1 y2] 50) = h1 at *
  refine ldH_mk (cell_stable _ _ o1 hev.1) ?_
  refine rangeH_outer (h0 := h) (I := I) (X := X) (N := N) (n := L.length) (xs := seqOf L) (Ev := Ev) (fun _ h' => h'[h.size]? = some (.cells #[.func yf y1 y2] 50)) (fun j => j) (L.map p).length False
    hg hseq (fun _ _ => rfl) hN o1 hok (fun h' e => e.2.2.1) (hst _ _ o1 hev.2.2.1) rfl (by simp) (fun k ha hb hsame e => (hsame _ (Nat.le_refl _) (by omega)).trans e) n1 ?_ ?_ ?_
  · intro M j h4 hj hM hs hS hI
    rw [s1] at hM
    have e2 : (seqOf L j).getD 0 (.tuple #[]) = .int .i64 L[j] := by unfold seqOf; simp [hj]
    rw [e2]
    simp only [asInt_int]
    have hev4 := hok.env M _ h4 (by omega) hs hI
    refine ldH_mk (cellAt_row hS) ?_
    refine ldH_mk hev4.2.1 ?_
    refine hk _ _ _ hev4.2.2.2 fun h10 o10 => ?_
    simp only [asInt_int]
    have hI10 := hok.keepI M _ h4 h10 (by omega) hs hI (keep_of_old o10)
    have hS10 : h10[h.size]? = some (.cells #[.func yf y1 y2] 50) := (o10.2 _ (by omega)).trans hS
    refine ⟨cellAt_row hS10, ?_⟩
    have hyk := hy M j h10 (by simpa using hj) (by omega) (by omega) (by have := o10.1; omega) hI10
    rw [show seqOf (L.map p) j = #[.int .i64 (p L[j])] by unfold seqOf; simp [hj]] at hyk
    refine callV_mono ?_ hyk
    rintro w h14 ⟨hm, hor⟩
    have hm4 : KeepMid h1.size M h4 h14 := (keepMid_of_old o10 hs).trans (hm.mono (by omega))
    rcases hor with ⟨rfl, hI'⟩ | ⟨rfl, hX⟩
    · simp only [asBool_bool, Bool.not_true, ifB_false]
      exact ⟨hm4, by have := hm4.1; omega, (hm.2 _ (by omega) (by omega)).trans hS10, hI'⟩
    · simp only [asBool_bool, Bool.not_false, ifB_true]
      exact ⟨hm4, trivial, .inl hX⟩
  · intro M h20 hM hs hI h21 hsd
    refine ⟨M, by omega, by omega, by rw [hsd.1]; exact hs, .inl ?_⟩
    exact hok.dI M _ h20 h21 (hsd.mono hN) hI
  · refine ⟨fun M h22 hM hs hX h23 hsd => ?_, trivial⟩
    refine ⟨M, by omega, by omega, by rw [hsd.1]; exact hs, .inr ?_⟩
    rcases hX with hX | hX
    · exact hok.dX M _ h22 h23 (hsd.mono hN) hX
    · exact hX.1.elim

theorem only_on {K : Value → Heap → Prop} {h : Heap} {g f : Value} {L : List Int} {D : Int → Prop} {p : Int → Bool} (H : SeqL g L h) (Hk : KeepOn f D p h) (hD : ∀ x ∈ L, D x) (k : ∀ g' h', SeqL g' (L.filter p) h' → Old h.size h h' → K g' h') :
    CallH Try.prog 49 #[g, f] h K := by
  obtain ⟨f0, fst, cap, Ev, rfl, hs, he, hst⟩ := H
  obtain ⟨⟨f1, a1, a2, rfl⟩, Ek, hk1, hk2, hk3⟩ := Hk
  refine call49 ?_
  unfold F49
  obtain ⟨ho, h1, h2⟩ := push2 (h := h) (.cells #[.func (.func f0) fst cap] 27) (.cells #[.func (.func f1) a1 a2] 50)
  simp only [oneC_func]
  rw [Array.size_push]
  generalize (h.push (.cells #[.func (.func f0) fst cap] 27)).push (.cells #[.func (.func f1) a1 a2] 50) = h5 at *
  refine ⟨fun vs h' => vs = [.bool false] ∧ h' = h5, ?_, ?_⟩
  · refine ldH_mk (cellAt_row h1) ?_
    simp only [asFnNil_func, ifB_false]
    refine ldH_mk (cellAt_row h2) ?_
    simp only [asFnNil_func]
    exact ⟨by trivial, by trivial⟩
  · rintro v5 g6 h7 ⟨e, rfl⟩
    cases e
    simp only [asBool_bool, ifB_false]
    exact k _ _ ⟨_, _, _, _, rfl, only_seq hD (show fnV (.func (.func f0) fst cap) from trivial) hs hst hk2 hk3, ⟨cellAt_row h1, cellAt_row h2, hst _ _ ho he, hk2 _ _ ho hk1⟩,
      fun a b o e => ⟨cell_stable _ _ o e.1, cell_stable _ _ o e.2.1, hst _ _ o e.2.2.1, hk2 _ _ o e.2.2.2⟩⟩ ho
theorem only_call {K : Value → Heap → Prop} {h : Heap} {g f : Value} {L : List Int} {p : Int → Bool} (H : SeqL g L h) (Hk : KeepAt f p h) (k : ∀ g' h', SeqL g' (L.filter p) h' → Old h.size h h' → K g' h') :
    CallH Try.prog 49 #[g, f] h K := only_on H (Hk.on fun _ => True) (fun _ _ => trivial) k
theorem each_call {K : Value → Heap → Prop} {h : Heap} {g f : Value} {L : List Int} {p : Int → Int} (H : SeqL g L h) (Hk : MapAt f p h) (k : ∀ g' h', SeqL g' (L.map p) h' → Old h.size h h' → K g' h') :
    CallH Try.prog 51 #[g, f] h K := by
  obtain ⟨f0, fst, cap, Ev, rfl, hs, he, hst⟩ := H
  obtain ⟨⟨f1, a1, a2, rfl⟩, Ek, hk1, hk2, hk3⟩ := Hk
  refine call51 ?_
  unfold F51
  obtain ⟨ho, h1, h2⟩ := push2 (h := h) (.cells #[.func (.func f0) fst cap] 27) (.cells #[.func (.func f1) a1 a2] 69)
  simp only [oneC_func]
  rw [Array.size_push]
  generalize (h.push (.cells #[.func (.func f0) fst cap] 27)).push (.cells #[.func (.func f1) a1 a2] 69) = h5 at *
  refine ⟨fun vs h' => vs = [.bool false] ∧ h' = h5, ?_, ?_⟩
  · refine ldH_mk (cellAt_row h1) ?_
    simp only [asFnNil_func, ifB_false]
    refine ldH_mk (cellAt_row h2) ?_
    simp only [asFnNil_func]
    exact ⟨by trivial, by trivial⟩
  · rintro v5 g6 h7 ⟨e, rfl⟩
    cases e
    simp only [asBool_bool, ifB_false]
    exact k _ _ ⟨_, _, _, _, rfl, each_seq (show fnV (.func (.func f0) fst cap) from trivial) hs hst hk2 hk3, ⟨cellAt_row h1, cellAt_row h2, hst _ _ ho he, hk2 _ _ ho hk1⟩,
      fun a b o e => ⟨cell_stable _ _ o e.1, cell_stable _ _ o e.2.1, hst _ _ o e.2.2.1, hk2 _ _ o e.2.2.2⟩⟩ ho
end Go.Proofs.Ytgladmaagpcffaa
