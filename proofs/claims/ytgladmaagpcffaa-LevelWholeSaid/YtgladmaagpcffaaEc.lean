/- Rows of entries. -/
import Derived.Test.YtgladmaagpcffaaEb
set_option linter.unusedSimpArgs false
set_option linter.unusedVariables false
set_option maxRecDepth 20000
namespace Go.Proofs.Ytgladmaagpcffaa

/-- append one cell to a row of one's own. -/
theorem app_one {P : Program} {t elem : TypeId} {z : Value} (hu : und P t = .slice elem) (hth : there P elem = true) (hz : zer P elem = some z) (hzs : z.cells.size = 1) (hs1 : siz P elem = 1) (hb0 : 0 < byt P elem) (hb32 : byt P elem ≤ 32)
    {h : Heap} {a : Option Addr} {l c : Nat} {xs : List Value} {x : Value} {K : Value → Heap → Prop} (hx : oneC x True) (ho : Own h elem 1 a l c xs) (hl : l ≤ 2 ^ 38)
    (H : ∀ a' c' h', Own h' elem 1 a' (l + 1) c' (xs ++ [x]) → h.size ≤ h'.size → (∀ b, b < h.size → (∀ ad, a = some ad → ad.block ≠ b) → h'[b]? = h[b]?) → (a' = a ∨ ∃ b, a' = some ⟨b, 0, none⟩ ∧ h.size < b) → K (.slice a' (l + 1) c') h') :
    appH P #[t, t] t #[.slice a l c, .slice (some ⟨h.size, 0, none⟩) 1 1] (h.push (.cells #[x] elem)) K := by
  have ho' : Own (h.push (.cells #[x] elem)) elem (siz P elem) a l c xs := by
    rw [hs1]
    exact Own.keep ho fun ad e => push_old _ _ _ (ho.lt ad e)
  refine appH_own (P := P) (t := t) (elem := elem) (z := z) (h := h.push (.cells #[x] elem)) (K := K) (a := a) (a2 := some ⟨h.size, 0, none⟩) (l := l) (c := c) (n2 := 1) (xs := xs) (ys := [x]) (n := 1) hu hth hz (by rw [hs1]; exact hzs) ho' ?_ (by rw [hs1]; rfl) (by simpa using hx) hb0 ?_ ?_
  · intro i v hi
    refine ⟨_, rfl, ?_⟩
    rw [add_lit, cellAt_of (push_new _ _)]
    cases i with
    | zero => simpa using hi
    | succ i => simp at hi
  · have : (2 * (l + 1) + 512) * byt P elem ≤ (2 * (l + 1) + 512) * 32 := Nat.mul_le_mul_left _ hb32
    omega
  · intro a' c' h' h1 h2 h3 h4
    rw [hs1] at h1
    refine H a' c' h' h1 (by simp at h2; omega) (fun b hb hne => ?_) ?_
    · rw [h3 b (by simp; omega) hne]; exact push_old _ _ _ hb
    · rcases h4 with h4 | h4
      · exact .inl h4
      · exact .inr ⟨_, h4, by simp⟩
theorem und_u : und Try.prog 83 = .slice 76 := by kernel_rfl
theorem there_u : there Try.prog 76 = true := by kernel_rfl
theorem zer_u : zer Try.prog 76 = some (.int .u64 0) := by kernel_rfl
theorem siz_u : siz Try.prog 76 = 1 := by kernel_rfl
theorem byt_u : byt Try.prog 76 = 8 := by kernel_rfl
theorem und_uu : und Try.prog 81 = .slice 83 := by kernel_rfl
theorem there_uu : there Try.prog 83 = true := by kernel_rfl
theorem zer_uu : zer Try.prog 83 = some (.slice none 0 0) := by kernel_rfl
theorem siz_uu : siz Try.prog 83 = 1 := by kernel_rfl
theorem byt_uu : byt Try.prog 83 = 24 := by kernel_rfl
theorem Sees.same {N : Nat} {h h' : Heap} {a : Option Addr} {vs : List Value} (H : Sees h a vs) (hs : SameD N h h') : Sees h' a vs := by
  intro i v hi
  obtain ⟨ad, e, hc⟩ := H i v hi
  refine ⟨ad, e, ?_⟩
  have hb : ∃ row t f, h[(ad.add i).block]? = some (.cells row t f) := by
    unfold cellAt at hc
    split at hc
    · exact ⟨_, _, _, by assumption⟩
    · cases hc
  obtain ⟨row, t, f, hb⟩ := hb
  exact (cellAt_congr (hs.cells hb)).trans hc

/-- Lists of this length are sorted. -/
def Sorts (l : Nat) : Prop := ∀ (K : Value → Heap → Prop) (h : Heap) (b c : Nat) (es : List Ent) (sp : List Value), EB h b es sp → es.length = l →
  (∀ es' h', EB h' b es' sp → es'.Perm es → SortedSeg es' 0 l → OldB b h h' → K (.tuple #[]) h') → CallH Try.prog 104 #[.slice (some ⟨b, 0, none⟩) l c, cmpV] h K
theorem sorts_small {l : Nat} (hl : l < 20) : Sorts l := fun K h b c es sp H hlen k => stable_small H hlen hl k

def rowF (ss : List Ent) (i : Nat) : List Int := (ss.filter fun e => decide (e.t > (i : Int))).map Ent.o
theorem tall_at {h : Heap} {av : Nat → Prop} {q i : Nat} (hq : cellAt h ⟨q, 0, none⟩ = some (iv i)) (hna : ¬ av q) : KeepEA av (.func (.func 109) #[] #[.pointer (some ⟨q, 0, none⟩)]) (fun e => decide (e.t > (i : Int))) h := by
  refine ⟨⟨_, _, _, rfl⟩, fun h' => cellAt h' ⟨q, 0, none⟩ = some (iv i), hq, fun h h' o e => o.cell hna e, ?_⟩
  intro h e K x k
  refine callV_cl ?_
  rw [cl2]
  refine call109 ?_
  unfold F109
  have p1 := pushed h e.cells.toArray 97
  rw [show h.push (.cells #[.int .u64 e.o, .int .i64 e.t] 97) = h.push (.cells e.cells.toArray 97) from rfl]
  generalize h.push (.cells e.cells.toArray 97) = h1 at *
  refine ldR p1.new rfl ?_
  simp only [asInt_int, asPtr_some]
  refine ldH_mk (cell_stable _ _ p1.toOld x) ?_
  simp only [asInt_int]
  exact k _ p1.toOld

theorem rows_call {K : Value → Heap → Prop} {h : Heap} {a : Option Addr} {l c : Nat} {es : List Ent} {most : Int} (H : SE h a l c es) (hl : l ≤ 1000) (hsort : Sorts l)
    (k : ∀ ss a' c' vs h', ss.Perm es → SortedSeg ss 0 l → RV h' a' (min most.toNat 64) c' vs ((List.range (min most.toNat 64)).map (rowF ss)) → Old h.size h h' → K (.slice a' (min most.toNat 64) c') h') :
    CallH Try.prog 67 #[.slice a l c, .int .i64 most] h K := by
  refine call67 ?_
  unfold F67
  -- behind the sort
  have rest : ∀ (h6 : Heap) (ao : Option Addr) (co : Nat) (ss : List Ent), SE h6 ao l co ss → ss.Perm es → SortedSeg ss 0 l → Old h.size h h6 →
      (minmax (fun n7 n8 => (min2I n7 n8)) Try.prog 3 [(.int .i64 most), (.int .i64 64)] (fun n9 => (minmax (fun n10 n11 => (max2I n10 n11)) Try.prog 3 [(.int .i64 0), (.int .i64 n9)] (fun n12 => (exI (fun I13 => (exM (fun m14 => ((I13 [(.slice none 0 0), (.int .i64 0)] h6) ∧ (∀ v15 : Value, (∀ v16 : Value, (∀ g17 : Env, (∀ h18 : Heap, ((I13 [v15, v16] h18) → (asInt .i64 v16 (fun n19 => (ifB (decide (n19 < n12)) (asInt .i64 v16 (fun n20 => (stH (Array.push h18 (.cells #[(.int .i64 0)] 3)) ⟨h18.size, 0, none⟩ (.int .i64 n20) (fun h21 => (callV Try.prog (.func (.func 108) #[] #[]) #[(.slice ao l co)] (Array.push h21 (.cells #[(.slice none 0 0)] 83)) (fun v22 h23 => (callV Try.prog (.func (.func 107) #[] #[]) #[v22, (.func (.func 109) #[] #[(.pointer (some ⟨h18.size, 0, none⟩))])] h23 (fun v24 h25 => (rangeH Try.prog v24 1 h25 (fun I26 vs27 h28 => (asAgg (vs27.getD 0 (.tuple #[])) (fun vs29 => (sizeH vs29 2 (elemH vs29 0 (fun v30 => (elemH vs29 1 (fun v31 => (oneC v30 (oneC v31 (ldH (Array.push h28 (.cells #[v30, v31] 97)) ⟨h21.size, 0, none⟩ (fun v32 => (asSlice v32 (fun o33 k34 k35 => (ldH (Array.push h28 (.cells #[v30, v31] 97)) ⟨h28.size, 0, none⟩ (fun v36 => (asInt .u64 v36 (fun n37 => (appH Try.prog #[83, 83] 83 #[(.slice o33 k34 k35), (.slice (some ⟨(Array.push h28 (.cells #[v30, v31] 97)).size, 0, none⟩) 1 1)] (Array.push (Array.push h28 (.cells #[v30, v31] 97)) (.cells #[(.int .u64 n37)] 76)) (fun v38 h39 => (asSlice v38 (fun o40 k41 k42 => (stH h39 ⟨h21.size, 0, none⟩ (.slice o40 k41 k42) (fun h43 => (I26 .normal h43))))))))))))))))))))))))) (fun h44 => (asSlice v15 (fun o45 k46 k47 => (ldH h44 ⟨h21.size, 0, none⟩ (fun v48 => (asSlice v48 (fun o49 k50 k51 => (appH Try.prog #[81, 81] 81 #[(.slice o45 k46 k47), (.slice (some ⟨h44.size, 0, none⟩) 1 1)] (Array.push h44 (.cells #[(.slice o49 k50 k51)] 83)) (fun v52 h53 => (asSlice v52 (fun o54 k55 k56 => (asInt .i64 v16 (fun n57 => ((I13 [(.slice o54 k55 k56), (.int .i64 (IntKind.wrap .i64 (n57 + 1)))] h53) ∧ ((m14 [(.slice o54 k55 k56), (.int .i64 (IntKind.wrap .i64 (n57 + 1)))] h53) < (m14 [v15, v16] h18)))))))))))))))) []))))))))) (asSlice v15 (fun o58 k59 k60 => (∀ h61 : Heap, ((SameD h.size h18 h61) → (K (.slice o58 k59 k60) h61)))))))))))))))))))))) := by
    intro h6 ao co ss HS hperm hsorted o6
    rw [minmax_int, minmax_int]
    have em : max2I 0 (min2I most 64) = ((min most.toNat 64 : Nat) : Int) := by unfold max2I min2I; split <;> split <;> omega
    rw [em]
    generalize hm : min most.toNat 64 = m at *
    have hm64 : m ≤ 64 := by omega
    have hss : ss.length = l := HS.len
    refine ⟨fun vs h' => ∃ i : Nat, ∃ a1 c1 ws, vs = [.slice a1 i c1, iv i] ∧ i ≤ m ∧ Old h6.size h6 h' ∧ Own h' 83 1 a1 i c1 ws ∧ (∀ ad, a1 = some ad → h6.size ≤ ad.block) ∧
        ∀ q, q < i → ∃ aq lq cq, ws[q]? = some (.slice aq lq cq) ∧ RU h' aq lq cq (rowF ss q) ∧ lq < 2 ^ 60 ∧ (rowF ss q ≠ [] → ∀ adq ad, aq = some adq → a1 = some ad → adq.block ≠ ad.block),
      fun vs _ => (match vs with | [_, .int _ n] => m - n.toNat | _ => 0), ⟨0, none, 0, [], rfl, Nat.zero_le _, Old.refl _ _, Own.nil _ _ _, fun ad e => (by cases e), fun q h => by omega⟩, ?_⟩
    rintro v15 v16 g17 h18 ⟨i, a1, c1, ws, e, hi, o18, own1, hge1, hrows⟩
    cases e
    simp only [asInt_int]
    have ok18 := o6.trans (o18.mono o6.1)
    refine ifB_dec (fun hlt => ?_) (fun hge => ?_)
    · have p1 := pushed h18 #[.int .i64 0] 3
      generalize h18.push (.cells #[.int .i64 0] 3) = h19 at *
      refine stR p1.new rfl trivial fun h21 w21 => ?_
      have s21 : h21.size = h18.size + 1 := by rw [w21.size, p1.size]
      have o21 : Old h18.size h18 h21 := w21.toOld p1.toOld (Nat.le_refl _)
      have p2 := pushed h21 #[.slice none 0 0] 83
      generalize h21.push (.cells #[.slice none 0 0] 83) = h22 at *
      have s22 := p2.size
      have o22 : Old h18.size h18 h22 := o21.trans (p2.toOld.mono o21.1)
      rw [s21] at s22 ⊢
      have i22 : cellAt h22 ⟨h18.size, 0, none⟩ = some (iv i) := (cellAt_congr (p2.old h18.size (by omega))).trans (cellAt_row w21.new)
      have rv22 : h22[h18.size + 1]? = some (.cells #[.slice none 0 0] 83) := by rw [← s21]; exact p2.new
      have HS22 : SE h22 ao l co ss := (HS.old o18).old o22
      have hna : ss ≠ [] → ∀ ad, ao = some ad → ¬ (ad.block = h18.size + 1) := by
        intro hne ad e e2
        obtain ⟨ad', e', c0, _⟩ := HS.at (i := 0) (List.length_pos_iff.2 hne)
        rw [e] at e'; cases e'
        have h1 := cellAt_lt c0
        rw [add_block] at h1
        have := o18.1
        omega
      refine callV_fn (ofE_call (av := fun x => x = h18.size + 1) HS22 (by omega) hna (fun b e => by omega) fun g23 h23 S23 o23 => ?_)
      have i23 := cell_stable _ _ o23 i22
      refine callV_fn (onlyE_call S23 (tall_at i23 (by omega)) (fun b e => by have := o23.1; omega) fun g25 h25 S25 o25 => ?_)
      have o225 : Old h22.size h22 h25 := o23.trans (o25.mono o23.1)
      have o1825 : Old h18.size h18 h25 := o22.trans (o225.mono o22.1)
      have hs25 : h18.size + 2 ≤ h25.size := by have := o225.1; omega
      obtain ⟨f0, fst, cap, Ev, rfl, hs, he, hst⟩ := S25
      generalize hkept : ss.filter (fun e => decide (e.t > (i : Int))) = kept at *
      have hkl : kept.length ≤ l := by rw [← hkept, ← hss]; exact List.length_filter_le _ _
      refine rangeH_own (n := kept.length) (xs := seqE kept) (Ev := Ev)
        (fun j w h' => OldX (fun x => x = h18.size + 1) h25 h' ∧ ∃ a n c, h'[h18.size + 1]? = some (.cells #[.slice a n c] 83) ∧ Own h' 76 1 a n c (((kept.take j).map Ent.o).map uv) ∧ ∀ ad, a = some ad → w ad.block) (fun _ _ _ => False)
        (show fnV (.func (.func f0) fst cap) from trivial) hs (fun _ _ => rfl) ?_ (fun _ _ _ _ _ _ _ x => x) (fun j w' h' x => hst _ _ x.1 he) ⟨⟨Nat.le_refl _, fun _ _ _ => rfl⟩, none, 0, 0, (o225.2 _ (by omega)).trans rv22, Own.nil _ _ _, fun ad e => by cases e⟩ ?_ ?_ trivial
      · rintro j w ha hb' hz1 hz2 hz3 ⟨x1, a2, n2, c2, x2, x3, x4⟩
        exact ⟨⟨Nat.le_trans x1.1 hz1, fun b hb hne => (hz2 b hb).trans (x1.2 b hb hne)⟩, a2, n2, c2, (hz2 _ (by omega)).trans x2, x3.keep fun ad e => hz3 _ (x4 ad e), x4⟩
      · rintro M j w h28 hj hM hMs hw ⟨x1, a2, n2, c2, x2, x3, x4⟩
        have e2 : (seqE kept j).getD 0 (.tuple #[]) = .agg #[.int .u64 (kept[j]).o, .int .i64 (kept[j]).t] := by
          unfold seqE; rw [List.getD_eq_getElem?_getD, List.getElem?_eq_getElem hj]; rfl
        rw [e2]
        simp only [asAgg_agg]
        refine sizeH_mk rfl ?_
        refine elemH_mk rfl (elemH_mk rfl ?_)
        refine (show oneC (.int .u64 (kept[j]).o) (oneC (.int .i64 (kept[j]).t) _) from ?_)
        have p3 := pushed h28 #[.int .u64 (kept[j]).o, .int .i64 (kept[j]).t] 97
        generalize h28.push (.cells #[.int .u64 (kept[j]).o, .int .i64 (kept[j]).t] 97) = h29 at *
        have o29 := p3.toOld
        have s29 := p3.size
        have hrvlt : h18.size + 1 < h28.size := by have := x1.1; omega
        refine ldR ((o29.2 _ hrvlt).trans x2) rfl ?_
        simp only [asSlice_slice]
        refine ldR p3.new rfl ?_
        simp only [asInt_int]
        have hn2 : n2 = j := by
          have h1 := x3.1
          simp only [List.length_map, List.length_take, Nat.mul_one] at h1
          omega
        have x3' : Own h29 76 1 a2 n2 c2 (((kept.take j).map Ent.o).map uv) := x3.keep fun ad e => o29.2 _ (x3.lt ad e)
        have hne1 : ∀ ad, a2 = some ad → M ≤ ad.block := fun ad e => (hw _ (x4 ad e)).1
        refine app_one und_u there_u zer_u rfl siz_u (by rw [byt_u]; omega) (by rw [byt_u]; omega) trivial x3' (by omega) ?_
        intro a3 c3 h39 own3 hs3 hold3 hor
        simp only [asSlice_slice]
        have v39 : h39[h18.size + 1]? = some (.cells #[.slice a2 n2 c2] 83) := (hold3 _ (by omega) (fun ad e => by have := hne1 ad e; omega)).trans ((o29.2 _ hrvlt).trans x2)
        refine stH_mk v39 (by simp) trivial ?_
        rintro h43 e43
        have hge3 : ∀ ad, a3 = some ad → M ≤ ad.block := by
          intro ad e
          rcases hor with rfl | ⟨bb, rfl, hbb⟩
          · exact hne1 ad e
          · cases e; show M ≤ bb; omega
        have same43 : ∀ b, b < h28.size → b ≠ h18.size + 1 → (∀ ad, a2 = some ad → ad.block ≠ b) → h43[b]? = h28[b]? := by
          intro b hb hne hna'
          rw [e43, set_old hne]
          exact (hold3 b (by omega) hna').trans (o29.2 b hb)
        have sz43 : h28.size ≤ h43.size := by rw [e43]; simp; omega
        have own43 : Own h43 76 1 a3 (n2 + 1) c3 (((kept.take j).map Ent.o).map uv ++ [.int .u64 (kept[j]).o]) := own3.keep fun ad e => by rw [e43]; exact set_old (by have := hge3 ad e; omega)
        refine ⟨⟨sz43, fun b hb1 hb2 => same43 b (by omega) (by omega) (fun ad e => by have := hne1 ad e; omega)⟩, by have := x1.1; omega, fun b => ∃ ad, a3 = some ad ∧ ad.block = b, ?_,
          ⟨Nat.le_trans x1.1 sz43, fun b hb hne => (same43 b (Nat.lt_of_lt_of_le hb x1.1) hne (fun ad e => by have := hne1 ad e; omega)).trans (x1.2 b hb hne)⟩, a3, n2 + 1, c3, ?_, ?_, fun ad e => ⟨ad, e, rfl⟩⟩
        · rintro b ⟨ad, e, rfl⟩
          refine ⟨hge3 ad e, ?_⟩
          rcases own43.2.2 with ⟨e3, _⟩ | ⟨b3, row3, e3, hb3, _⟩
          · rw [e] at e3; cases e3
          · rw [e] at e3; cases e3; exact ⟨_, _, _, hb3⟩
        · rw [e43]; exact set_new (by omega)
        · rw [List.take_succ_eq_append_getElem hj, List.map_append, List.map_append]
          exact own43
      · rintro M w h44 hM hMs hw ⟨x1, a2, n2, c2, x2, x3, x4⟩
        rw [List.take_of_length_le (Nat.le_refl _)] at x3
        have o1844 : Old h18.size h18 h44 := ⟨Nat.le_trans o1825.1 x1.1, fun b hb => (x1.2 b (by omega) (by omega)).trans (o1825.2 b hb)⟩
        have own44 : Own h44 83 1 a1 i c1 ws := own1.keep fun ad e => o1844.2 _ (own1.lt ad e)
        have hra : rowF ss i = kept.map Ent.o := by unfold rowF; rw [hkept]
        have R44 : RU h44 a2 n2 c2 (rowF ss i) := by
          rw [hra]
          refine ⟨x3.sees, ?_, x3.2.1⟩
          have h1 := x3.1
          simpa using h1
        have hn2 : n2 ≤ l := by have h1 := x3.1; simp at h1; omega
        have hge44 : ∀ ad, a2 = some ad → h18.size ≤ ad.block := fun ad e => by have := (hw _ (x4 ad e)).1; omega
        simp only [asSlice_slice]
        refine ldR x2 rfl ?_
        simp only [asSlice_slice]
        refine app_one und_uu there_uu zer_uu rfl siz_uu (by rw [byt_uu]; omega) (by rw [byt_uu]; omega) trivial own44 (by omega) ?_
        intro a5 c5 h53 own5 hs5 hold5 hor
        simp only [asSlice_slice]
        rw [nat_wrap1 (by omega)]
        have keepR : ∀ (aq : Option Addr) (lq cq : Nat) (xs : List Int), RU h44 aq lq cq xs → (xs ≠ [] → ∀ adq ad, aq = some adq → a1 = some ad → adq.block ≠ ad.block) → RU h53 aq lq cq xs := by
          intro aq lq cq xs hR hd
          refine ⟨?_, hR.len, hR.cap⟩
          by_cases hx : xs = []
          · subst hx; exact Sees.nil _ _
          replace hd := hd hx
          intro t v ht
          obtain ⟨adq, e, hc⟩ := hR.s t v ht
          have hlt2 := cellAt_lt hc
          refine ⟨adq, e, (cellAt_congr (hold5 _ hlt2 (fun ad e' => ?_))).trans hc⟩
          rw [add_block]
          exact (hd adq ad e e').symm
        have new5 : ∀ (aq : Option Addr) (lq cq : Nat) (xs : List Int), RU h44 aq lq cq xs → (∀ adq ad, aq = some adq → a1 = some ad → adq.block ≠ ad.block) → (∀ adq, aq = some adq → adq.block < h44.size) → ∀ adq ad, aq = some adq → a5 = some ad → adq.block ≠ ad.block := by
          intro aq lq cq xs hR hd hb adq ad e e'
          rcases hor with rfl | ⟨bb, rfl, hbb⟩
          · exact hd adq ad e e'
          · cases e'; have := hb adq e; show adq.block ≠ bb; omega
        have hd2 : ∀ adq ad, a2 = some adq → a1 = some ad → adq.block ≠ ad.block := fun adq ad e e' => by
          have h1 := hge44 adq e
          have h2 := own1.lt ad e'
          omega
        refine ⟨⟨i + 1, a5, c5, _, rfl, by omega, ?_, own5, ?_, fun q hq => ?_⟩, ?_⟩
        · refine ⟨by have := o18.1; have := o1844.1; omega, fun b hb => ?_⟩
          exact (hold5 b (by have := o18.1; have := o1844.1; omega) (fun ad e => by have := hge1 ad e; omega)).trans ((o1844.2 b (by have := o18.1; omega)).trans (o18.2 b hb))
        · intro ad e
          rcases hor with rfl | ⟨bb, rfl, hbb⟩
          · exact hge1 ad e
          · cases e; show h6.size ≤ bb; have := o18.1; have := o1844.1; omega
        · have hwl : ws.length = i := by have := own1.1; omega
          by_cases hqi : q < i
          · obtain ⟨aq, lq, cq, r1, r2, r3, r4⟩ := hrows q hqi
            have r2' := r2.old o1844
            rw [List.getElem?_append_left (by omega)]
            by_cases hx : rowF ss q = []
            · exact ⟨aq, lq, cq, r1, keepR _ _ _ _ r2' r4, r3, fun hn => absurd hx hn⟩
            · have hlt3 : ∀ adq, aq = some adq → adq.block < h44.size := fun adq e => by
                obtain ⟨ad', e', hb⟩ := r2'.s.lt (by simpa using hx)
                rw [e] at e'; cases e'; exact hb
              exact ⟨aq, lq, cq, r1, keepR _ _ _ _ r2' r4, r3, fun hn => new5 _ _ _ _ r2' (r4 hn) hlt3⟩
          · obtain rfl : q = i := by omega
            rw [List.getElem?_append_right (by omega), hwl, Nat.sub_self]
            refine ⟨a2, n2, c2, rfl, keepR _ _ _ _ R44 (fun _ => hd2), by omega, fun _ => ?_⟩
            exact new5 _ _ _ _ R44 hd2 fun adq e => x3.lt adq e
        · show m - ((i + 1 : Nat) : Int).toNat < m - (i : Int).toNat
          omega
    · have him : i = m := by omega
      subst him
      simp only [asSlice_slice]
      intro h61 hsd
      have o61 := ok18.same hsd
      have own61 := own1.same hsd
      refine k ss a1 c1 ws h61 hperm hsorted ⟨own61.sees, by have := own1.1; omega, by simp, own1.2.1, fun q hq => ?_⟩ o61
      simp at hq
      obtain ⟨aq, lq, cq, r1, r2, r3, r4⟩ := hrows q hq
      refine ⟨aq, lq, cq, r1, ⟨?_, ?_, r2.cap⟩, r3⟩
      · have := r2.s.same hsd
        simpa using this
      · simpa using r2.len
  refine callV_fn (cloneE_call H hl (fun e0 a' h1 o1 => ?_) (fun b c' sp h1 B hge hc o1 => ?_))
  · subst e0
    have hes : es = [] := by simpa using H.len
    subst hes
    simp only [asSlice_slice]
    refine callV_fn (stable0_call ?_)
    exact rest h1 a' 0 [] ⟨Sees.nil _ _, rfl, Nat.le_refl _⟩ (List.Perm.refl _) (fun p q hp => by simp at hp) o1
  · simp only [asSlice_slice]
    refine callV_fn (hsort _ _ _ _ _ _ B H.len fun ss h6 B6 hperm hsorted o6 => ?_)
    refine rest h6 _ c' ss (B6.se (by rw [hperm.length_eq, H.len]) hc) hperm hsorted ⟨Nat.le_trans o1.1 o6.1, fun x hx => (o6.2 x (Nat.lt_of_lt_of_le hx o1.1) (by omega)).trans (o1.2 x hx)⟩
end Go.Proofs.Ytgladmaagpcffaa
