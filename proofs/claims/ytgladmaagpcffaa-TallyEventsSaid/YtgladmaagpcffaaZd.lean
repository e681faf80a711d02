/- The history that is noted event by event. -/
import Derived.Test.YtgladmaagpcffaaZc
set_option linter.unusedSimpArgs false
set_option linter.unusedVariables false
set_option maxRecDepth 20000
namespace Go.Proofs.Ytgladmaagpcffaa

/-- append one thing to a row of one's own. -/
theorem app_row1 {P : Program} {t elem : TypeId} {z : Value} (hu : und P t = .slice elem) (hth : there P elem = true) (hz : zer P elem = some z) (hzs : z.cells.size = siz P elem) (hb0 : 0 < byt P elem)
    {h : Heap} {a : Option Addr} {l c : Nat} {xs ys : List Value} {K : Value → Heap → Prop} (hys : ys.length = siz P elem) (hone : ∀ y ∈ ys, oneC y True) (ho : Own h elem (siz P elem) a l c xs) (hb : (2 * (l + 1) + 512) * byt P elem ≤ 2 ^ 48)
    (H : ∀ a' c' h', Own h' elem (siz P elem) a' (l + 1) c' (xs ++ ys) → h.size < h'.size → (∀ b, b < h.size → (∀ ad, a = some ad → ad.block ≠ b) → h'[b]? = h[b]?) → (∀ ad, a' = some ad → a = some ad ∨ h.size ≤ ad.block) → K (.slice a' (l + 1) c') h') :
    appH P #[t, t] t #[.slice a l c, .slice (some ⟨h.size, 0, none⟩) 1 1] (h.push (.cells ys.toArray elem)) K := by
  have ho' : Own (h.push (.cells ys.toArray elem)) elem (siz P elem) a l c xs := Own.keep ho fun ad e => push_old _ _ _ (ho.lt ad e)
  refine appH_own (P := P) (t := t) (elem := elem) (z := z) (K := K) (a := a) (a2 := some ⟨h.size, 0, none⟩) (l := l) (c := c) (n2 := 1) (xs := xs) (ys := ys) (n := 1) hu hth hz hzs ho' ?_ (by omega) hone hb0 hb ?_
  · intro i v hi
    refine ⟨_, rfl, ?_⟩
    rw [add_lit, cellAt_of (push_new _ _), List.getElem?_toArray, Nat.zero_add]
    exact hi
  · intro a' c' h' h1 h2 h3 h4
    refine H a' c' h' h1 (by simp at h2; omega) (fun b hb hne => ?_) (fun ad e => ?_)
    · rw [h3 b (by simp; omega) hne]; exact push_old _ _ _ hb
    · rcases h4 with h4 | h4
      · exact .inl (h4 ▸ e)
      · rw [h4] at e; cases e; exact .inr (by simp)

theorem und_evs : und Try.prog 86 = .slice 129 := by kernel_rfl
theorem there_ev : there Try.prog 129 = true := by kernel_rfl
theorem zer_ev : zer Try.prog 129 = some (.agg zs8.toArray) := by kernel_rfl
theorem siz_ev : siz Try.prog 129 = 8 := by kernel_rfl
theorem byt_ev : byt Try.prog 129 = 48 := by kernel_rfl
theorem und_mc : und Try.prog 175 = .map 3 57 := by kernel_rfl
theorem und_int : und Try.prog 3 = .int .i64 := by kernel_rfl
theorem zer_call : zer Try.prog 57 = some (.agg zeroC.cells.toArray) := by kernel_rfl

theorem MapF.of {h : Heap} {m : Nat} {f g : Int → Option Value} (H : MapF h m f) (e : ∀ t, f t = g t) : MapF h m g := by
  obtain ⟨es, c, kvs, h1, h2, h3⟩ := H
  exact ⟨es, c, kvs, h1, h2, fun k => (h3 k).trans (e k)⟩
theorem Own.ne_map {h : Heap} {elem : TypeId} {sz n c m : Nat} {a : Option Addr} {xs : List Value} {f : Int → Option Value} (H : Own h elem sz a n c xs) (M : MapF h m f) : ∀ ad, a = some ad → ad.block ≠ m := by
  intro ad e e2
  rcases H.2.2 with ⟨e3, _⟩ | ⟨b, row, e3, hb', _⟩
  · rw [e] at e3; cases e3
  · rw [e] at e3; cases e3
    obtain ⟨es, cc, kvs, q1, _⟩ := M
    simp only at e2
    rw [e2, q1] at hb'; cases hb'
abbrev cV (c : C3) : Value := .agg c.cells.toArray
/-- A history at p: which calls are open; how many events. -/
def HistF (h : Heap) (p : Nat) (f : Int → Option C3) (n : Nat) : Prop :=
  ∃ a c xs mo, h[p]? = some (.cells #[.slice a n c, .map mo] 177) ∧ Own h 129 8 a n c xs ∧ (∀ ad, a = some ad → p < ad.block) ∧ ((mo = none ∧ ∀ t, f t = none) ∨ ∃ m, mo = some m ∧ p < m ∧ MapF h m fun t => (f t).map cV)
theorem HistF.keep {h h' : Heap} {p n : Nat} {f : Int → Option C3} (H : HistF h p f n) (o : ∀ b, p ≤ b → b < h.size → h'[b]? = h[b]?) : HistF h' p f n := by
  obtain ⟨a, c, xs, mo, h1, h2, h3, h4⟩ := H
  refine ⟨a, c, xs, mo, (o p (Nat.le_refl _) (Array.getElem?_eq_some_iff.1 h1).1).trans h1, h2.keep fun ad e => o _ (Nat.le_of_lt (h3 ad e)) (h2.lt ad e), h3, ?_⟩
  rcases h4 with h4 | ⟨m, e, hm, hf⟩
  · exact .inl h4
  · exact .inr ⟨m, e, hm, hf.keep (o m (Nat.le_of_lt hm) hf.lt)⟩
theorem HistF.old {h h' : Heap} {p n : Nat} {f : Int → Option C3} (H : HistF h p f n) (o : Old h.size h h') : HistF h' p f n := H.keep fun b _ hb => o.2 b hb

theorem there_call {K : Value → Heap → Prop} {h : Heap} {t : Int} (k : K (.bool (decide (0 ≤ t) && decide (t ≤ 5))) h) : CallH Try.prog 162 #[iv t] h K := by
  refine call162 ?_
  unfold F162
  refine ifB_dec (fun h1 => ?_) (fun h1 => ?_)
  · rw [decide_eq_true (by omega : 0 ≤ t), Bool.true_and] at k
    have : decide (t < 6) = decide (t ≤ 5) := by rw [decide_eq_decide]; omega
    rw [this]; exact k
  · rw [decide_eq_false (by omega : ¬ 0 ≤ t)] at k
    exact k
theorem getD_map (o : Option C3) : (o.map cV).getD (cV zeroC) = cV (o.getD zeroC) := by cases o <;> rfl
theorem busy_call {K : Value → Heap → Prop} {h : Heap} {p n : Nat} {f : Int → Option C3} {t : Int} (H : HistF h p f n) (k : ∀ h', Old h.size h h' → K (.bool (f t).isSome) h') : CallH Try.prog 163 #[.pointer (some ⟨p, 0, none⟩), iv t] h K := by
  refine call163 ?_
  unfold F163
  obtain ⟨a, c, xs, mo, h1, h2, h3, h4⟩ := H
  simp only [Option.isNone_some, ifB_false, nilC, asPtr_some]
  rw [add_lit]
  refine ldR h1 rfl ?_
  simp only [asMap]
  have look : ∀ {K : Value → Heap → Prop}, K (.tuple #[cV ((f t).getD zeroC), .bool (f t).isSome]) h → lookH Try.prog 175 (.map mo) (iv t) true h K := by
    intro K kk
    rcases h4 with ⟨rfl, hf⟩ | ⟨m, rfl, hm, hf⟩
    · rw [hf] at kk
      exact look_nil und_mc und_int zer_call kk
    · refine look_mk und_mc und_int zer_call hf ?_
      simp only [if_true]
      rw [getD_map, Option.isSome_map]
      exact kk
  refine look ?_
  simp only [asTup]
  refine elemH_mk rfl ?_
  simp only [asAgg_agg]
  refine sizeH_mk rfl (elemH_mk rfl (elemH_mk rfl (elemH_mk rfl ?_)))
  refine elemH_mk rfl ?_
  simp only [asBool_bool]
  have p1 := pushed h zeroC.cells.toArray 57
  rw [show h.push (.cells #[.int .i64 0, .int .u32 0, .int .u32 0] 57) = h.push (.cells zeroC.cells.toArray 57) from rfl]
  generalize h.push (.cells zeroC.cells.toArray 57) = h5 at *
  refine st3 (stN_full (vs := ((f t).getD zeroC).cells) p1.new rfl (by intro y hy; simp only [List.mem_cons, List.not_mem_nil, or_false] at hy; rcases hy with rfl | rfl | rfl <;> exact trivial) fun h6 w => ?_)
  exact k _ (w.toOld p1.toOld (Nat.le_refl _))

/-- Nothing below p changes. -/
def Low (p : Nat) (h h' : Heap) : Prop := h.size ≤ h'.size ∧ ∀ b, b < p → h'[b]? = h[b]?
theorem Low.of {p : Nat} {h h' : Heap} (o : Old h.size h h') (hp : p ≤ h.size) : Low p h h' := ⟨o.1, fun b hb => o.2 b (by omega)⟩
theorem Low.trans {p : Nat} {h h' h'' : Heap} (o : Low p h h') (o2 : Low p h' h'') : Low p h h'' := ⟨Nat.le_trans o.1 o2.1, fun b hb => (o2.2 b hb).trans (o.2 b hb)⟩

theorem respond_call {K : Value → Heap → Prop} {h : Heap} {p n : Nat} {f : Int → Option C3} {t : Int} {a3 : C3} (H : HistF h p f n) (hn : n ≤ 1000)
    (k : ∀ r h', (r = 0 ↔ ((decide (0 ≤ t) && decide (t ≤ 5)) && (match f t with | some c => fitsB c a3 | none => false)) = true) → (r = 0 → HistF h' p (fun t' => if t' = t then none else f t') (n + 1)) → Low p h h' → K (iv r) h') :
    CallH Try.prog 159 #[.pointer (some ⟨p, 0, none⟩), iv t, .agg a3.cells.toArray] h K := by
  refine call159 ?_
  unfold F159
  simp only [Option.isNone_some, ifB_false, nilC, asPtr_some]
  have p1 := pushed h a3.cells.toArray 59
  rw [show h.push (.cells #[.int .i64 a3.o, .int .u32 a3.k, .int .u32 a3.v] 59) = h.push (.cells a3.cells.toArray 59) from rfl]
  generalize h.push (.cells a3.cells.toArray 59) = h1 at *
  have o1 := p1.toOld
  have s1 := p1.size
  have hp : p < h.size := by obtain ⟨_, _, _, _, h1', _⟩ := H; exact (Array.getElem?_eq_some_iff.1 h1').1
  have H1 := H.old o1
  refine callV_fn (there_call ?_)
  simp only [asBool_bool]
  refine ifB_mk (fun hb => k 2 _ ⟨fun h => by omega, fun h => ?_⟩ (fun h => by omega) (Low.of o1 (by omega))) (fun hb => ?_)
  · revert hb h; cases (decide (0 ≤ t) && decide (t ≤ 5)) <;> simp
  have hr : (decide (0 ≤ t) && decide (t ≤ 5)) = true := by revert hb; cases (decide (0 ≤ t) && decide (t ≤ 5)) <;> simp
  simp only [hr, Bool.true_and] at k
  refine callV_fn (busy_call H1 fun h4 o4 => ?_)
  simp only [asBool_bool]
  have ok4 := o1.trans (o4.mono o1.1)
  cases hft : f t with
  | none =>
    simp only [hft] at k
    simp only [Option.isSome_none, Bool.not_false, ifB_true]
    exact k 4 _ ⟨fun h => by omega, fun h => by cases h⟩ (fun h => by omega) (Low.of ok4 (by omega))
  | some c0 =>
    simp only [hft] at k
    simp only [Option.isSome_some, Bool.not_true, ifB_false]
    have H4 := H1.old o4
    have loc4 : h4[h.size]? = some (.cells a3.cells.toArray 59) := (o4.2 _ (by omega)).trans p1.new
    obtain ⟨a, c, xs, mo, e1, own1, ha1, hmo⟩ := H4
    rcases hmo with ⟨_, hnone⟩ | ⟨m, rfl, hm, mf⟩
    · rw [hnone] at hft; cases hft
    rw [add_lit]
    refine ldR e1 rfl ?_
    simp only [asMap]
    refine ldR loc4 rfl (ldR loc4 rfl (ldR loc4 rfl ?_))
    refine look_mk und_mc und_int zer_call mf ?_
    simp only [hft, Option.map_some, Option.getD_some, Bool.false_eq_true, if_false, asAgg_agg]
    refine sizeH_mk rfl (elemH_mk rfl (elemH_mk rfl (elemH_mk rfl ?_)))
    refine ⟨cellR loc4 rfl, cellR loc4 rfl, cellR loc4 rfl, ?_⟩
    refine callV_fn (fits_call (c := c0) (a := a3) fun h19 o19 => ?_)
    simp only [asBool_bool]
    have ok19 := ok4.trans (o19.mono ok4.1)
    refine ifB_mk (fun hf => k 1 _ ⟨fun h => by omega, fun h => by rw [h] at hf; cases hf⟩ (fun h => by omega) (Low.of ok19 (by omega))) (fun hf => ?_)
    have hfit : fitsB c0 a3 = true := by revert hf; cases fitsB c0 a3 <;> simp
    have hs4 : h.size < h4.size := (Array.getElem?_eq_some_iff.1 loc4).1
    have hp4 : p < h4.size := (Array.getElem?_eq_some_iff.1 e1).1
    have e19 : h19[p]? = some (.cells #[.slice a n c, .map (some m)] 177) := (o19.2 _ hp4).trans e1
    have loc19 : h19[h.size]? = some (.cells a3.cells.toArray 59) := (o19.2 _ hs4).trans loc4
    have own19 : Own h19 129 8 a n c xs := own1.keep fun ad e => o19.2 _ (own1.lt ad e)
    have mf19 := mf.keep (o19.2 _ mf.lt)
    have hrow : ∀ ad, a = some ad → ad.block ≠ m := by
      intro ad e e2
      rcases own19.2.2 with ⟨e3, _⟩ | ⟨b, row, e3, hb', _⟩
      · rw [e] at e3; cases e3
      · rw [e] at e3; cases e3
        obtain ⟨es, cc, kvs, q1, _⟩ := mf19
        simp only at e2
        rw [e2, q1] at hb'; cases hb'
    refine ldR e19 rfl ?_
    simp only [asMap]
    have hml : h.size ≠ m := by
      intro e
      obtain ⟨es, cc, kvs, q1, _⟩ := mf19
      rw [← e, loc19] at q1; cases q1
    refine del_mk und_mc und_int mf19 fun h25 mf25 s25 old25 => ?_
    have e25 : h25[p]? = some (.cells #[.slice a n c, .map (some m)] 177) := (old25 _ (by omega)).trans e19
    have loc25 : h25[h.size]? = some (.cells a3.cells.toArray 59) := (old25 _ hml).trans loc19
    have own25 : Own h25 129 8 a n c xs := own19.keep fun ad e => old25 _ (hrow ad e)
    refine ldR e25 rfl ?_
    simp only [asSlice_slice]
    refine ldR loc25 rfl (ldR loc25 rfl (ldR loc25 rfl ?_))
    have hp25 : p < h25.size := (Array.getElem?_eq_some_iff.1 e25).1
    refine ⟨cellR ((push_old _ _ _ hp25).trans e25) rfl, ?_⟩
    refine app_row1 (ys := (⟨t, true, zeroC, a3⟩ : Ev8).cells) (xs := xs) und_evs there_ev zer_ev (by rw [siz_ev]; rfl) (by rw [byt_ev]; omega) (by rw [siz_ev]; rfl) (cells8_one _) (by rw [siz_ev]; exact own25) (by rw [byt_ev]; omega) ?_
    intro a' c' h35 own35 s35 old35 hor
    rw [siz_ev] at own35
    simp only [asSlice_slice]
    have e35 : h35[p]? = some (.cells #[.slice a n c, .map (some m)] 177) := (old35 p hp25 (fun ad e => by have := ha1 ad e; omega)).trans e25
    refine stR e35 rfl trivial fun h40 w40 => ?_
    have hge : ∀ ad, a' = some ad → p < ad.block := by
      intro ad e
      rcases hor ad e with h | h
      · exact ha1 ad h
      · omega
    have mf35 := mf25.keep (old35 m mf25.lt hrow)
    refine k 0 h40 ⟨fun _ => hfit, fun _ => rfl⟩ (fun _ => ⟨a', c', _, some m, w40.new, own35.keep fun ad e => w40.old _ (by have := hge ad e; show ad.block ≠ p; omega), hge, .inr ⟨m, rfl, hm, ?_⟩⟩) ⟨?_, fun b hb => ?_⟩
    · have := mf35.keep (w40.old m (by show m ≠ p; omega))
      refine this.of fun t' => ?_
      by_cases e : t' = t <;> simp [e]
    · rw [w40.size]; have := ok19.1; omega
    · exact (w40.old b (by show b ≠ p; omega)).trans ((old35 b (by omega) (fun ad e => by have := ha1 ad e; omega)).trans ((old25 b (by omega)).trans (ok19.2 b (by omega))))

theorem invoke_call {K : Value → Heap → Prop} {h : Heap} {p n : Nat} {f : Int → Option C3} {t : Int} {c3 : C3} (H : HistF h p f n) (hn : n ≤ 1000)
    (k : ∀ r h', (r = 0 ↔ ((decide (0 ≤ t) && decide (t ≤ 5)) && (rightC c3 && (f t).isNone)) = true) → (r = 0 → HistF h' p (fun t' => if t' = t then some c3 else f t') (n + 1)) → Low p h h' → K (iv r) h') :
    CallH Try.prog 160 #[.pointer (some ⟨p, 0, none⟩), iv t, .agg c3.cells.toArray] h K := by
  refine call160 ?_
  unfold F160
  simp only [Option.isNone_some, ifB_false, nilC, asPtr_some]
  have p1 := pushed h c3.cells.toArray 57
  rw [show h.push (.cells #[.int .i64 c3.o, .int .u32 c3.k, .int .u32 c3.v] 57) = h.push (.cells c3.cells.toArray 57) from rfl]
  generalize h.push (.cells c3.cells.toArray 57) = h1 at *
  have o1 := p1.toOld
  have s1 := p1.size
  have hp : p < h.size := by obtain ⟨_, _, _, _, h1', _⟩ := H; exact (Array.getElem?_eq_some_iff.1 h1').1
  have H1 := H.old o1
  refine callV_fn (there_call ?_)
  simp only [asBool_bool]
  refine ifB_mk (fun hb => k 2 _ ⟨fun h => by omega, fun h => ?_⟩ (fun h => by omega) (Low.of o1 (by omega))) (fun hb => ?_)
  · revert hb h; cases (decide (0 ≤ t) && decide (t ≤ 5)) <;> simp
  have hr : (decide (0 ≤ t) && decide (t ≤ 5)) = true := by revert hb; cases (decide (0 ≤ t) && decide (t ≤ 5)) <;> simp
  simp only [hr, Bool.true_and] at k
  refine ldR p1.new rfl (ldR p1.new rfl (ldR p1.new rfl ?_))
  refine callV_fn (callRight_call (c := c3) fun h7 o7 => ?_)
  simp only [asBool_bool]
  have ok7 := o1.trans (o7.mono o1.1)
  refine ifB_mk (fun hb => k 1 _ ⟨fun h => by omega, fun h => ?_⟩ (fun h => by omega) (Low.of ok7 (by omega))) (fun hb => ?_)
  · revert hb h; cases rightC c3 <;> simp
  have hrc : rightC c3 = true := by revert hb; cases rightC c3 <;> simp
  simp only [hrc, Bool.true_and] at k
  refine callV_fn (busy_call (H1.old o7) fun h10 o10 => ?_)
  simp only [asBool_bool]
  have ok10 := ok7.trans (o10.mono ok7.1)
  cases hft : f t with
  | some c0 =>
    simp only [hft] at k
    simp only [Option.isSome_some, ifB_true]
    exact k 5 _ ⟨fun h => by omega, fun h => by cases h⟩ (fun h => by omega) (Low.of ok10 (by omega))
  | none =>
    simp only [hft] at k
    simp only [Option.isSome_none, ifB_false]
    have H10 := (H1.old o7).old o10
    have loc10 : h10[h.size]? = some (.cells c3.cells.toArray 57) := (o10.2 _ (by have := o7.1; omega)).trans ((o7.2 _ (by omega)).trans p1.new)
    have hs10 : h.size < h10.size := (Array.getElem?_eq_some_iff.1 loc10).1
    obtain ⟨a, c, xs, mo, e10, own10, ha10, hmo⟩ := H10
    have hp10 : p < h10.size := (Array.getElem?_eq_some_iff.1 e10).1
    refine ⟨fun vs h' => ∃ m, h'[p]? = some (.cells #[.slice a n c, .map (some m)] 177) ∧ Own h' 129 8 a n c xs ∧ p < m ∧ MapF h' m (fun t => (f t).map cV) ∧ h'[h.size]? = some (.cells c3.cells.toArray 57) ∧ Low p h10 h', ?_, ?_⟩
    · rw [add_lit]
      refine ldR e10 rfl ?_
      simp only [asMap]
      rcases hmo with ⟨rfl, hnone⟩ | ⟨m, rfl, hm, mf⟩
      · simp only [Option.isNone_none, ifB_true]
        have mfn := MapF.new h10
        have hold : ∀ b, b < h10.size → (h10.push (.map #[] 0))[b]? = h10[b]? := fun b hb => push_old _ _ _ hb
        have hsz : (h10.push (.map #[] 0)).size = h10.size + 1 := by simp
        generalize h10.push (.map #[] 0) = h11 at *
        refine stR ((hold p hp10).trans e10) rfl trivial fun h17 w17 => ?_
        refine ⟨h10.size, w17.new, own10.keep fun ad e => (w17.old _ (by have := ha10 ad e; show ad.block ≠ p; omega)).trans (hold _ (own10.lt ad e)), hp10, ?_, (w17.old _ (by show h.size ≠ p; omega)).trans ((hold _ hs10).trans loc10), ⟨by rw [w17.size]; omega, fun b hb => (w17.old b (by show b ≠ p; omega)).trans (hold b (by omega))⟩⟩
        refine (mfn.keep (w17.old _ (by show h10.size ≠ p; omega))).of fun t' => ?_
        rw [hnone t']; rfl
      · simp only [Option.isNone_some, ifB_false]
        exact ⟨m, e10, own10, hm, mf, loc10, Nat.le_refl _, fun _ _ => rfl⟩
    rintro g18 h19 ⟨m, e19, own19, hm, mf19, loc19, low19⟩
    rw [add_lit]
    refine ldR e19 rfl ?_
    simp only [asMap]
    refine ldR loc19 rfl (ldR loc19 rfl (ldR loc19 rfl ?_))
    have hrow := own19.ne_map mf19
    have hml : h.size ≠ m := by
      intro e
      obtain ⟨es, cc, kvs, q1, _⟩ := mf19
      rw [← e, loc19] at q1; cases q1
    refine upd_mk und_mc und_int mf19 fun h26 mf26 s26 old26 => ?_
    have e26 : h26[p]? = some (.cells #[.slice a n c, .map (some m)] 177) := (old26 _ (by omega)).trans e19
    have loc26 : h26[h.size]? = some (.cells c3.cells.toArray 57) := (old26 _ hml).trans loc19
    have own26 : Own h26 129 8 a n c xs := own19.keep fun ad e => old26 _ (hrow ad e)
    refine ldR e26 rfl ?_
    simp only [asSlice_slice]
    refine ldR loc26 rfl (ldR loc26 rfl (ldR loc26 rfl ?_))
    have hp26 : p < h26.size := (Array.getElem?_eq_some_iff.1 e26).1
    refine ⟨cellR ((push_old _ _ _ hp26).trans e26) rfl, ?_⟩
    refine app_row1 (ys := (⟨t, false, c3, zeroC⟩ : Ev8).cells) (xs := xs) und_evs there_ev zer_ev (by rw [siz_ev]; rfl) (by rw [byt_ev]; omega) (by rw [siz_ev]; rfl) (cells8_one _) (by rw [siz_ev]; exact own26) (by rw [byt_ev]; omega) ?_
    intro a' c' h36 own36 s36 old36 hor
    rw [siz_ev] at own36
    simp only [asSlice_slice]
    have e36 : h36[p]? = some (.cells #[.slice a n c, .map (some m)] 177) := (old36 p hp26 (fun ad e => by have := ha10 ad e; omega)).trans e26
    refine stR e36 rfl trivial fun h41 w41 => ?_
    have hge : ∀ ad, a' = some ad → p < ad.block := by
      intro ad e
      rcases hor ad e with h | h
      · exact ha10 ad h
      · omega
    have mf36 := mf26.keep (old36 m mf26.lt hrow)
    refine k 0 h41 ⟨fun _ => rfl, fun _ => rfl⟩ (fun _ => ⟨a', c', _, some m, w41.new, own36.keep fun ad e => w41.old _ (by have := hge ad e; show ad.block ≠ p; omega), hge, .inr ⟨m, rfl, hm, ?_⟩⟩) ⟨?_, fun b hb => ?_⟩
    · have := mf36.keep (w41.old m (by show m ≠ p; omega))
      refine this.of fun t' => ?_
      by_cases e : t' = t <;> simp [e]
    · rw [w41.size]; have := low19.1; omega
    · exact (w41.old b (by show b ≠ p; omega)).trans ((old36 b (by omega) (fun ad e => by have := ha10 ad e; omega)).trans ((old26 b (by omega)).trans ((low19.2 b hb).trans (ok10.2 b (by omega)))))

/-- The calls that are open ahead of a place. -/
def openF (es : List Ev8) (i : Nat) (t : Int) : Option C3 := (opnN es i t).map fun k => (es.getD k ⟨0, false, zeroC, zeroC⟩).c
theorem openF_succ {es : List Ev8} {i : Nat} (hi : i < es.length) (t : Int) : openF es (i + 1) t = if t = (es[i]).th then (if (es[i]).bk then none else some (es[i]).c) else openF es i t := by
  unfold openF
  rw [opnN_succ hi]
  by_cases e : (es[i]).th = t
  · rw [if_pos e, if_pos e.symm]
    split
    · rfl
    · simp [hi]
  · rw [if_neg e, if_neg (fun h => e h.symm)]
theorem okE_eq (es : List Ev8) (i : Nat) (e : Ev8) : okE es i e = ((decide (0 ≤ e.th) && decide (e.th ≤ 5)) && (if e.bk then (match openF es i e.th with | some c => fitsB c e.a | none => false) && e.c.is0 else (rightC e.c && (openF es i e.th).isNone) && e.a.is0)) := by
  unfold okE mayB openF
  cases e.bk <;> cases opnN es i e.th <;> simp [Bool.and_assoc]

theorem again_call {K : Value → Heap → Prop} {h : Heap} {p i : Nat} {es : List Ev8} (hi : i < es.length) (H : HistF h p (openF es i) i) (hn : i ≤ 1000)
    (k : ∀ h', (okE es i es[i] = true → HistF h' p (openF es (i + 1)) (i + 1)) → Low p h h' → K (.bool (okE es i es[i])) h') :
    CallH Try.prog 153 #[.pointer (some ⟨p, 0, none⟩), .agg (es[i]).cells.toArray] h K := by
  refine call153 ?_
  unfold F153
  have hp : p < h.size := by obtain ⟨_, _, _, _, h1', _⟩ := H; exact (Array.getElem?_eq_some_iff.1 h1').1
  have hopen := openF_succ hi
  have hok := okE_eq es i es[i]
  generalize hev : es[i] = e at *
  have p1 := pushed h e.cells.toArray 129
  rw [show h.push (.cells #[.int .i64 e.th, .bool e.bk, .int .i64 e.c.o, .int .u32 e.c.k, .int .u32 e.c.v, .int .i64 e.a.o, .int .u32 e.a.k, .int .u32 e.a.v] 129) = h.push (.cells e.cells.toArray 129) from rfl]
  generalize h.push (.cells e.cells.toArray 129) = h1 at *
  have o1 := p1.toOld
  have H1 := H.old o1
  have low1 : Low p h h1 := Low.of o1 (by omega)
  simp only [add_lit]
  refine ldR p1.new rfl ?_
  simp only [asBool_bool]
  refine ifB_mk (fun hbk => ?_) (fun hbk => ?_)
  · rw [hbk] at hok hopen
    simp only [if_true] at hok hopen
    refine ldR p1.new rfl (ldR p1.new rfl (ldR p1.new rfl ?_))
    refine eqvH_c3 (.inl rfl) (c := e.c) ?_
    refine ifB_mk (fun hz => ?_) (fun hz => ?_)
    · rw [hz, Bool.and_true] at hok
      refine ldR p1.new rfl ?_
      simp only [asInt_int]
      refine ldR p1.new rfl (ldR p1.new rfl (ldR p1.new rfl ?_))
      refine callV_fn (respond_call (a3 := e.a) H1 hn fun r h' hr hH low => ?_)
      simp only [asInt_int]
      rw [← hok] at hr
      have kk := k h' (fun ho => ?_) (low1.trans low)
      · have : (r == 0) = okE es i e := by
          cases hq : okE es i e with
          | true => rw [hr.2 hq]; rfl
          | false =>
            have : r ≠ 0 := fun e0 => by rw [hr.1 e0] at hq; cases hq
            simpa using this
        rw [this]; exact kk
      · have := hH (hr.2 ho)
        rw [show openF es (i + 1) = (fun t' => if t' = e.th then none else openF es i t') from funext hopen]
        exact this
    · have hf : okE es i e = false := by rw [hok, hz, Bool.and_false, Bool.and_false]
      have kk := k h1 (fun ho => by rw [ho] at hf; cases hf) low1
      rw [hf] at kk; exact kk
  · rw [hbk] at hok hopen
    simp only [Bool.false_eq_true, if_false] at hok hopen
    refine ldR p1.new rfl (ldR p1.new rfl (ldR p1.new rfl ?_))
    refine eqvH_c3 (.inr rfl) (c := e.a) ?_
    refine ifB_mk (fun hz => ?_) (fun hz => ?_)
    · rw [hz, Bool.and_true] at hok
      refine ldR p1.new rfl ?_
      simp only [asInt_int]
      refine ldR p1.new rfl (ldR p1.new rfl (ldR p1.new rfl ?_))
      refine callV_fn (invoke_call (c3 := e.c) H1 hn fun r h' hr hH low => ?_)
      simp only [asInt_int]
      rw [← hok] at hr
      have kk := k h' (fun ho => ?_) (low1.trans low)
      · have : (r == 0) = okE es i e := by
          cases hq : okE es i e with
          | true => rw [hr.2 hq]; rfl
          | false =>
            have : r ≠ 0 := fun e0 => by rw [hr.1 e0] at hq; cases hq
            simpa using this
        rw [this]; exact kk
      · have := hH (hr.2 ho)
        rw [show openF es (i + 1) = (fun t' => if t' = e.th then some e.c else openF es i t') from funext hopen]
        exact this
    · have hf : okE es i e = false := by rw [hok, hz, Bool.and_false, Bool.and_false]
      have kk := k h1 (fun ho => by rw [ho] at hf; cases hf) low1
      rw [hf] at kk; exact kk

theorem histRight_call {K : Value → Heap → Prop} {h : Heap} {a : Option Addr} {l c : Nat} {es : List Ev8} (H : SV h a l c es) (hl : l ≤ 500) (k1 : RightH es → ∀ h', Old h.size h h' → K (.bool true) h') (k0 : ¬ RightH es → ∀ h', Old h.size h h' → K (.bool false) h') :
    CallH Try.prog 136 #[.slice a l c] h K := by
  refine call136 ?_
  unfold F136
  have hlen := H.len
  have p := pushed h #[.slice none 0 0, .map none] 177
  generalize h.push (.cells #[.slice none 0 0, .map none] 177) = h1 at *
  have s1 := p.size
  refine ⟨fun vs h' => ∃ w, ∃ i : Nat, vs = [w, iv i] ∧ i ≤ l ∧ Old h.size h h' ∧ h.size < h'.size ∧ HistF h' h.size (openF es i) i ∧ ∀ q (hq : q < es.length), q < i → okE es q es[q] = true, fun vs _ => (match vs with | [_, .int _ n] => l - n.toNat | _ => 0),
    ⟨_, 0, rfl, Nat.zero_le _, p.toOld, by omega, ⟨none, 0, [], none, p.new, Own.nil _ _ _, fun ad e => (by cases e), .inl ⟨rfl, fun t => rfl⟩⟩, fun q _ h => by omega⟩, ?_⟩
  rintro v2 v3 g4 h5 ⟨w0, i, e, hi, o5, hs5, H5, hall⟩
  cases e
  simp only [asInt_int, asI_int]
  refine ifB_dec (fun hlt => ?_) (fun hge => k1 (fun q hq => hall q hq (by omega)) _ o5)
  have hi' : i < es.length := by omega
  obtain ⟨ad, rfl, hc⟩ := (H.old o5).at hi'
  refine ⟨by omega, hlt, ?_⟩
  simp only [asPtr_some, Int.toNat_natCast]
  refine ldH_mk (hc 0 _ rfl) (ldH_mk (hc 1 _ rfl) (ldH_mk (hc 2 _ rfl) (ldH_mk (hc 3 _ rfl) (ldH_mk (hc 4 _ rfl) (ldH_mk (hc 5 _ rfl) (ldH_mk (hc 6 _ rfl) (ldH_mk (hc 7 _ rfl) ?_)))))))
  have p7 := pushed h5 zs8.toArray 129
  rw [show h5.push (.cells #[.int .i64 0, .bool false, .int .i64 0, .int .u32 0, .int .u32 0, .int .i64 0, .int .u32 0, .int .u32 0] 129) = h5.push (.cells zs8.toArray 129) from rfl]
  generalize h5.push (.cells zs8.toArray 129) = h7 at *
  refine st8 (stN_full (vs := (es[i]).cells) p7.new rfl (cells8_one _) fun h24 w24 => ?_)
  have o24 : Old h5.size h5 h24 := w24.toOld p7.toOld (Nat.le_refl _)
  refine ldR w24.new rfl (ldR w24.new rfl (ldR w24.new rfl (ldR w24.new rfl (ldR w24.new rfl (ldR w24.new rfl (ldR w24.new rfl (ldR w24.new rfl ?_)))))))
  refine callV_fn (again_call hi' (H5.old o24) (by omega) fun h34 hH low34 => ?_)
  simp only [asBool_bool]
  have ok34 : Old h.size h h34 := ⟨by have := o5.1; have := o24.1; have := low34.1; omega, fun b hb => (low34.2 b hb).trans ((o24.2 b (by omega)).trans (o5.2 b hb))⟩
  refine ifB_mk (fun hb => k0 (fun hr => ?_) _ ok34) (fun hb => ?_)
  · rw [hr i hi'] at hb; cases hb
  have hok : okE es i es[i] = true := by revert hb; cases okE es i es[i] <;> simp
  rw [nat_wrap1 (by omega)]
  refine ⟨⟨_, i + 1, rfl, by omega, ok34, by have := o24.1; have := low34.1; omega, hH hok, fun q hq hqi => ?_⟩, ?_⟩
  · by_cases e : q < i
    · exact hall q hq e
    · obtain rfl : q = i := by omega
      exact hok
  · show l - ((i + 1 : Nat) : Int).toNat < l - (i : Int).toNat
    omega
end Go.Proofs.Ytgladmaagpcffaa
