/- The statement SeqsAgain's body. -/
import Derived.Test.YtgladmaagpcffaaSj
import Derived.Test.YtgladmaagpcffaaTb
set_option linter.unusedSimpArgs false
set_option linter.unusedVariables false
set_option maxRecDepth 20000
namespace Go.Proofs.Ytgladmaagpcffaa

theorem cl23 (i x a b c : Value) : (#[i, x] : Array Value) ++ #[a, b, c] = #[i, x, a, b, c] := rfl

/-- The function that holds a list's things against the list, from its end on: one step. -/
theorem again_step {K : Value → Heap → Prop} {h : Heap} {pa pf p : Nat} {a : Option Addr} {l c : Nat} {xs : List Int} {k : Nat} (hk : k < l) (hl : l ≤ 2000) (ha : h[pa]? = some (.cells #[iv ((l : Int) - k)] 3)) (hf : h[pf]? = some (.cells #[.bool true] 4))
    (hp : cellAt h ⟨p, 0, none⟩ = some (.slice a l c)) (hr : RI h a l c xs) (h1 : pa ≠ pf) (h2 : p ≠ pa) (hxa : ∀ ad, a = some ad → ad.block ≠ pa)
    (k0 : ∀ h', h' = (h.setIfInBounds pa (.cells #[iv ((l : Int) - (k + 1 : Nat))] 3)).setIfInBounds pf (.cells #[.bool true] 4) → K (.bool true) h') :
    callV Try.prog (.func (.func 38) #[] #[.pointer (some ⟨pa, 0, none⟩), .pointer (some ⟨pf, 0, none⟩), .pointer (some ⟨p, 0, none⟩)]) (backOf xs k) h K := by
  refine callV_cl ?_
  rw [cl23]
  refine call38 ?_
  unfold F38
  have hlen := hr.len
  have la := (Array.getElem?_eq_some_iff.1 ha).1
  have lf := (Array.getElem?_eq_some_iff.1 hf).1
  have lp := cellAt_lt hp
  simp only [asPtr_some]
  refine ldH_mk (cellAt_row ha) ?_
  simp only [asInt_int]
  refine stH_mk ha (by simp) trivial ?_
  rintro h4 e4
  rw [wrap64_id' (by omega) (by omega), show (l : Int) - k - 1 = (l : Int) - (k + 1 : Nat) by omega] at e4
  have a4 : h4[pa]? = some (.cells #[iv ((l : Int) - (k + 1 : Nat))] 3) := by rw [e4]; exact set_new la
  have f4 : h4[pf]? = some (.cells #[.bool true] 4) := by rw [e4, set_old h1.symm]; exact hf
  have p4 : cellAt h4 ⟨p, 0, none⟩ = some (.slice a l c) := by rw [e4]; exact (cellAt_congr (set_old h2)).trans hp
  have r4 : RI h4 a l c xs := ⟨hr.s.keep fun ad e => by rw [e4]; exact set_old (hxa ad e), hr.len, hr.cap⟩
  refine ldH_mk (cellAt_row f4) ?_
  simp only [asBool_bool, ifB_true]
  refine ldH_mk (cellAt_row a4) ?_
  simp only [asInt_int]
  refine ifB_mk (fun _ => ?_) (fun hq => ?_)
  · refine ldH_mk (cellAt_row a4) ?_
    simp only [asInt_int]
    refine ifB_dec (fun _ => ?_) (fun hq => by omega)
    refine ldH_mk p4 ?_
    simp only [asSlice_slice]
    refine ldH_mk (cellAt_row a4) ?_
    simp only [asInt_int]
    rw [minmax_int]
    have hj : l - 1 - k < xs.length := by omega
    have em : max2I 0 ((l : Int) - (k + 1 : Nat)) = ((l - 1 - k : Nat) : Int) := by unfold max2I; split <;> omega
    rw [em]
    obtain ⟨ad, rfl, hc⟩ := r4.at hj
    refine ⟨by omega, by omega, ?_⟩
    simp only [asPtr_some, Int.toNat_natCast, Nat.mul_one]
    refine ldH_mk hc ?_
    simp only [asInt_int]
    have ex : (xs.getD (xs.length - 1 - k) 0 == xs[l - 1 - k]) = true := by
      subst hlen
      simp [hj]
    refine stH_mk f4 (by simp) trivial ?_
    rintro h29 e29
    rw [ex] at e29
    have e29' : h29 = h4.setIfInBounds pf (.cells #[.bool true] 4) := e29
    have f29 : h29[pf]? = some (.cells #[.bool true] 4) := by rw [e29']; exact set_new (by rw [e4]; simpa using lf)
    refine ldH_mk (cellAt_row f29) ?_
    simp only [asBool_bool]
    refine k0 _ ?_
    rw [e29', e4]
    rfl
  · exfalso
    have : ((xs.length - 1 - k : Nat) : Int) = (l : Int) - (k + 1 : Nat) := by omega
    rw [this] at hq
    simp at hq

theorem seqsAgain_body {K : Value → Heap → Prop} {h : Heap} {a : Option Addr} {l c : Nat} {xs : List Int} {n : Int} (H : RI h a l c xs) (hn : n < 2 ^ 63)
    (k : ∀ h', Old h.size h h' → K (.bool true) h') : F7 K h a l c n := by
  unfold F7
  have o1 : Old h.size h (h.push (.cells #[.slice a l c] 23)) := (Old.refl _ _).push _ (Nat.le_refl _)
  have n1 := push_new h (.cells #[.slice a l c] 23)
  have s1 : (h.push (.cells #[.slice a l c] 23)).size = h.size + 1 := by simp
  generalize h.push (.cells #[.slice a l c] 23) = h1 at *
  have c1 := cellAt_row n1
  have hlen := H.len
  have hcap := H.cap
  refine ldH_mk c1 ?_
  simp only [asSlice_slice]
  refine ifB_dec (fun hq => ?_) (fun hq => ?_)
  · refine callV_fn (lives_call fun h' o => ?_)
    simp only [asBool_bool]
    exact k _ (o1.trans (o.mono o1.1))
  refine ldH_mk c1 ?_
  simp only [asSlice_slice]
  have H1 := H.old o1
  refine callV_fn (of_call H1 (by omega) fun g h12 S12 o12 => ?_)
  refine ldH_mk (cell_stable _ _ o12 c1) ?_
  simp only [asSlice_slice]
  rw [minmax_int, minmax_int]
  have em : max2I 0 (min2I n (l : Int)) = ((min l n.toNat : Nat) : Int) := by
    unfold max2I min2I
    split <;> split <;> omega
  rw [em]
  refine callV_fn (firstL_call S12 (by omega) fun g2 h24 S24 o24 => ?_)
  have p24 := o12.trans (o24.mono o12.1)
  refine callV_fn (listL_call S24 (by simp; omega) fun a26 c26 h26 R26 _ o26 => ?_)
  have p26 := p24.trans (o26.mono p24.1)
  simp only [asSlice_slice]
  have etake : xs.take n.toNat = xs.take (min l n.toNat) := by
    rw [← hlen]
    by_cases hq : n.toNat ≤ xs.length
    · rw [Nat.min_eq_right hq]
    · rw [Nat.min_eq_left (by omega), List.take_of_length_le (by omega), List.take_of_length_le (by omega)]
  refine ⟨fun vs h' => ∃ v, vs = [v, .bool false] ∧ Old h26.size h26 h', ?_, ?_⟩
  · refine ldH_mk (cell_stable _ _ p26 c1) ?_
    simp only [asSlice_slice]
    refine ⟨by omega, by omega, ?_⟩
    simp only [Int.toNat_natCast, Nat.sub_zero]
    refine callV_fn (same_call R26.sees rfl ((H1.old p26).take (f := min l n.toNat) (by omega)).s (by simp; omega) (by simp; omega) ?_)
    rw [decide_eq_true etake]
    simp only [asBool_bool, Bool.not_true, ifB_false]
    refine ldH_mk (cell_stable _ _ p26 c1) ?_
    simp only [asSlice_slice]
    refine callV_fn (listL_call ((S12.old o24).old o26) (by omega) fun a43 c43 h43 R43 _ o43 => ?_)
    have p43 := p26.trans (o43.mono p26.1)
    simp only [asSlice_slice]
    refine ⟨cell_stable _ _ p43 c1, ?_⟩
    refine callV_fn (same_call R43.sees rfl (H1.old p43).s hlen (by omega) ?_)
    simp only [decide_true, asBool_bool, Bool.not_true, ifB_false]
    refine callV_fn (firstL_call (((S12.old o24).old o26).old o43) (by omega) fun g5 h51 S51 o51 => ?_)
    have p51 := o43.trans (o51.mono o43.1)
    refine callV_fn (listL_call S51 (by simp; omega) fun a53 c53 h53 R53 _ o53 => ?_)
    have p53 := p51.trans (o53.mono p51.1)
    simp only [asSlice_slice]
    have s26 : Sees h53 a26 ((xs.take n.toNat).map iv) := R26.sees.keep fun ad e => p53.2 _ (R26.lt ad e)
    refine callV_fn (same_call R53.sees rfl s26 rfl (by simp; omega) ?_)
    simp only [decide_true, asBool_bool, Bool.not_true]
    exact ⟨_, rfl, p53⟩
  rintro v60 v61 g62 h63 ⟨v, e, o63⟩
  cases e
  simp only [asBool_bool, ifB_false]
  have p63 := p26.trans (o63.mono p26.1)
  have c63 := cell_stable _ _ p63 c1
  have H63 := H1.old p63
  have hs63 : h.size + 1 ≤ h63.size := by have := p63.1; omega
  refine ldH_mk c63 ?_
  simp only [asSlice_slice]
  obtain ⟨q1, q2, q3⟩ := push2 (h := h63) (.cells #[.int .i64 0] 3) (.cells #[.bool false] 4)
  rw [Array.size_push]
  have qs : ((h63.push (.cells #[.int .i64 0] 3)).push (.cells #[.bool false] 4)).size = h63.size + 2 := by simp
  generalize (h63.push (.cells #[.int .i64 0] 3)).push (.cells #[.bool false] 4) = hq at *
  refine stH_mk q2 (by simp) trivial ?_
  rintro h69 e69
  have f69 : h69[h63.size + 1]? = some (.cells #[.bool false] 4) := by rw [e69, set_old (by omega)]; exact q3
  refine stH_mk f69 (by simp) trivial ?_
  rintro h70 e70
  have s70 : h70.size = h63.size + 2 := by rw [e70, e69]; simp [qs]
  have f70 : h70[h63.size + 1]? = some (.cells #[.bool true] 4) := by rw [e70]; exact set_new (by rw [e69]; simp; omega)
  have a70 : h70[h63.size]? = some (.cells #[iv ((l : Int) - (0 : Nat))] 3) := by
    rw [e70, set_old (by omega), e69]
    have : (l : Int) - (0 : Nat) = l := by omega
    rw [this]
    exact set_new (by omega)
  have o70 : Old h63.size h63 h70 := by rw [e70, e69]; exact (q1.set _ _ (Nat.le_refl _)).set _ _ (by omega)
  have c70 := cell_stable _ _ o70 c63
  refine ldH_mk c70 ?_
  simp only [asSlice_slice]
  refine callV_fn (call37 ?_)
  unfold F37
  rw [s70]
  have o76 : Old h70.size h70 (h70.push (.cells #[.slice a l c] 23)) := (Old.refl _ _).push _ (Nat.le_refl _)
  have n76 := push_new h70 (.cells #[.slice a l c] 23)
  have s76 : (h70.push (.cells #[.slice a l c] 23)).size = h63.size + 3 := by simp [s70]
  generalize h70.push (.cells #[.slice a l c] 23) = h76 at *
  rw [s70] at n76 o76
  have c76 : cellAt h76 ⟨h63.size + 2, 0, none⟩ = some (.slice a l c) := cellAt_row n76
  -- between two steps
  have hxa : ∀ h', Old h63.size h63 h' → ∀ b, h63.size ≤ b → ∀ ad, a = some ad → xs ≠ [] → ad.block ≠ b := by
    rintro h' _ b hb ad rfl hne he
    obtain ⟨ad', e, hlt⟩ := H63.s.lt (by simpa using hne)
    cases e; omega
  let S : Nat → (Nat → Prop) → Heap → Prop := fun k _ h' => Old h63.size h63 h' ∧ h'[h63.size]? = some (.cells #[iv ((l : Int) - k)] 3) ∧ h'[h63.size + 1]? = some (.cells #[.bool true] 4) ∧ cellAt h' ⟨h63.size + 2, 0, none⟩ = some (.slice a l c)
  have hS : Dep h76.size S := by
    rintro j w ha hb hz1 hz2 _ ⟨x1, x2, x3, x4⟩
    exact ⟨⟨Nat.le_trans x1.1 hz1, fun b hb => (hz2 b (by omega)).trans (x1.2 b hb)⟩, (hz2 _ (by omega)).trans x2, (hz2 _ (by omega)).trans x3, (cellAt_congr (hz2 _ (by show h63.size + 2 < _; omega))).trans x4⟩
  have hok := rangeOk_own (ε := Unit) (N := h76.size) (h := h76) (Ev := fun h => cellAt h ⟨h63.size + 2, 0, none⟩ = some (.slice a l c) ∧ RI h a l c xs) S (fun _ _ _ => False) (Nat.le_refl _) hS (fun _ _ _ _ _ _ _ x => x)
    (fun j w h' x => ⟨x.2.2.2, H63.old x.1⟩) ⟨o70.trans (o76.mono (by omega)), (o76.2 _ (by omega)).trans a70, (o76.2 _ (by omega)).trans f70, c76⟩
  refine callV_mono ?_ (back_seq (p := h63.size + 2) (a := a) (l := l) (c := c) (xs := xs) (by omega) (.func 38) #[] #[.pointer (some ⟨h63.size, 0, none⟩), .pointer (some ⟨h63.size + 1, 0, none⟩), .pointer (some ⟨h.size, 0, none⟩)] h76 h76.size _ _ (Nat.le_refl _) ⟨c76, (H63.old o70).old (o76.mono (by omega))⟩ hok ?_)
  · rintro v77 h78 ⟨M, hM, _, hMs, ⟨hsz, w, hw, x1, x2, x3, x4⟩ | ⟨_, w, _, x⟩⟩
    · refine ldH_mk (cellAt_row x3) ?_
      simp only [asBool_bool, ifB_true]
      refine ldH_mk (cellAt_row x2) ?_
      simp only [asInt_int]
      refine ifB_mk (fun _ => ?_) (fun hq => ?_)
      · refine callV_fn (lives_call fun h' o => ?_)
        simp only [asBool_bool]
        exact k _ (((o1.trans (p63.mono o1.1)).trans (x1.mono (by omega))).trans (o.mono (by have := x1.1; omega)))
      · rw [hlen] at hq; simp at hq
    · exact x.elim
  · rintro M j h' hj hM _ hMs ⟨hsz, w, hw, x1, x2, x3, x4⟩
    have hne : xs ≠ [] := by rintro rfl; simp at hj
    refine again_step (h := h') (pa := h63.size) (pf := h63.size + 1) (p := h.size) (a := a) (l := l) (c := c) (by omega) (by omega) x2 x3 (cell_stable _ _ x1 c63) (H63.old x1) (by omega) (by omega) (fun ad e => hxa h' x1 _ (Nat.le_refl _) ad e hne) ?_
    rintro h'' rfl
    have hlt1 : h63.size < h'.size := by omega
    refine ⟨⟨by simp, fun b hb1 hb2 => (set_old (by omega)).trans (set_old (by omega))⟩, .inl ⟨rfl, by simpa using hsz, w, ?_, ?_, ?_, ?_, ?_⟩⟩
    · exact owned_keep hw fun b hb => (set_old (by have := (hw b hb).1; omega)).trans (set_old (by have := (hw b hb).1; omega))
    · exact (x1.set _ _ (Nat.le_refl _)).set _ _ (by omega)
    · exact (set_old (by omega)).trans (set_new hlt1)
    · exact set_new (by simp; omega)
    · exact (cellAt_congr (set_old (by show h63.size + 2 ≠ _; omega))).trans ((cellAt_congr (set_old (by show h63.size + 2 ≠ _; omega))).trans x4)
end Go.Proofs.Ytgladmaagpcffaa
