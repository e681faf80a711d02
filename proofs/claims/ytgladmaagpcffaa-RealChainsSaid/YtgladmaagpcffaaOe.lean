/- The statement RealChains' body. -/
import Derived.Test.YtgladmaagpcffaaOd
set_option linter.unusedSimpArgs false
set_option linter.unusedVariables false
set_option maxRecDepth 20000
namespace Go.Proofs.Ytgladmaagpcffaa

/-- Taken one by one, each when it might come next. -/
structure Chain (ops : List Op9) (l : Nat) (taken : List Int) : Prop where
  rng : ∀ j (h : j < taken.length), 0 ≤ taken[j] ∧ taken[j] < l
  new : ∀ j (h : j < taken.length), taken[j] ∉ taken.take j
  ok : ∀ j (h : j < taken.length) (y : Int), 0 ≤ y → y < l → y ∉ taken.take j → y ≠ taken[j] → ahead (opAt ops y) (opAt ops taken[j]) = false
theorem Chain.nil (ops : List Op9) (l : Nat) : Chain ops l [] := ⟨fun j h => by simp at h, fun j h => by simp at h, fun j h => by simp at h⟩
theorem Chain.snoc {ops : List Op9} {l : Nat} {taken : List Int} (H : Chain ops l taken) {x : Int} (hx : x ∈ nextL ops taken l) : Chain ops l (taken ++ [x]) := by
  obtain ⟨h1, h2, h3⟩ := mem_nextL.1 hx
  have cut : ∀ j, j ≤ taken.length → (taken ++ [x]).take j = taken.take j := fun j hj => List.take_append_of_le_length hj
  refine ⟨fun j h => ?_, fun j h => ?_, fun j h y y0 y1 yt yn => ?_⟩
  · by_cases e : j < taken.length
    · rw [List.getElem_append_left e]; exact H.rng j e
    · have : j = taken.length := by simp at h; omega
      subst this
      simpa using h1
  · by_cases e : j < taken.length
    · rw [List.getElem_append_left e, cut j (by omega)]; exact H.new j e
    · have : j = taken.length := by simp at h; omega
      subst this
      rw [cut _ (Nat.le_refl _)]
      simpa using h2
  · by_cases e : j < taken.length
    · rw [List.getElem_append_left e] at yn ⊢
      rw [cut j (by omega)] at yt
      exact H.ok j e y y0 y1 yt yn
    · have : j = taken.length := by simp at h; omega
      subst this
      rw [cut _ (Nat.le_refl _), List.take_length] at yt
      simp only [List.getElem_concat_length] at yn ⊢
      have := h3 y y0 y1
      unfold blocks at this
      rw [decide_eq_true yn, decide_eq_false yt, Bool.true_and, Bool.not_false, Bool.true_and] at this
      exact this
theorem Chain.nodup {ops : List Op9} {l : Nat} {taken : List Int} (H : Chain ops l taken) : taken.Nodup := nodup_take H.new
theorem ints_nodup (l : Nat) : (ints l).Nodup := by
  unfold ints
  rw [List.nodup_iff_pairwise_ne, List.pairwise_map]
  exact List.nodup_range.imp fun h e => h (by omega)
theorem Chain.full {ops : List Op9} {l : Nat} {taken : List Int} (H : Chain ops l taken) (hl : taken.length = l) {x : Int} (h0 : 0 ≤ x) (h1 : x < l) : x ∈ taken := by
  apply Decidable.byContradiction
  intro hx
  have hn : (x :: taken).Nodup := List.nodup_cons.2 ⟨hx, H.nodup⟩
  have hs : (x :: taken) ⊆ ints l := by
    intro y hy
    rcases List.mem_cons.1 hy with rfl | hy
    · exact mem_ints.2 ⟨h0, h1⟩
    · obtain ⟨j, hj, rfl⟩ := List.getElem_of_mem hy
      exact mem_ints.2 (H.rng j hj)
  have := hn.length_le_of_subset hs
  simp [ints] at this
  omega
theorem exists_least (f : Int → Int) : ∀ L : List Int, L ≠ [] → ∃ x ∈ L, ∀ y ∈ L, f x ≤ f y := by
  intro L
  induction L with
  | nil => intro h; exact absurd rfl h
  | cons a L ih =>
    intro _
    by_cases hL : L = []
    · subst hL; exact ⟨a, by simp, fun y hy => by simp at hy; subst hy; exact Int.le_refl _⟩
    · obtain ⟨x, hx, hm⟩ := ih hL
      by_cases h : f a ≤ f x
      · exact ⟨a, by simp, fun y hy => by
          rcases List.mem_cons.1 hy with rfl | hy
          · exact Int.le_refl _
          · exact Int.le_trans h (hm y hy)⟩
      · exact ⟨x, by simp [hx], fun y hy => by
          rcases List.mem_cons.1 hy with rfl | hy
          · omega
          · exact hm y hy⟩
theorem Chain.more {ops : List Op9} {l : Nat} {taken : List Int} (H : Chain ops l taken) (hg : ∀ y : Int, 0 ≤ y → y < l → 0 ≤ (opAt ops y).to → (opAt ops y).fr ≤ (opAt ops y).to) (hl : taken.length < l) : nextL ops taken l ≠ [] := by
  have hU : (ints l).filter (fun y => !decide (y ∈ taken)) ≠ [] := by
    intro e
    have : ints l ⊆ taken := fun y hy => by
      have := List.filter_eq_nil_iff.1 e y hy
      simpa using this
    have := (ints_nodup l).length_le_of_subset this
    simp [ints] at this
    omega
  obtain ⟨x, hx, hm⟩ := exists_least (fun y => (opAt ops y).fr) _ hU
  simp only [List.mem_filter, mem_ints, Bool.not_eq_true', decide_eq_false_iff_not] at hx hm
  intro e
  have : x ∈ nextL ops taken l := by
    refine mem_nextL.2 ⟨hx.1, hx.2, fun j j0 j1 => ?_⟩
    unfold blocks
    by_cases h1 : j = x
    · rw [decide_eq_false (by simpa using h1), Bool.false_and]
    by_cases h2 : j ∈ taken
    · rw [decide_eq_true h2]; simp
    · rw [decide_eq_true h1, decide_eq_false h2, Bool.true_and, Bool.not_false, Bool.true_and]
      unfold ahead
      by_cases h3 : 0 ≤ (opAt ops j).to
      · have h4 := hg j j0 j1 h3
        have h5 := hm j ⟨⟨j0, j1⟩, h2⟩
        rw [decide_eq_false (p := (opAt ops j).to < _) (by omega), Bool.and_false]
      · rw [decide_eq_false h3, Bool.false_and]
  rw [e] at this
  simp at this
theorem Chain.may {ops : List Op9} {l : Nat} {taken : List Int} (H : Chain ops l taken) (hops : ops.length = l) (hl : taken.length = l) : MayOk ops taken := by
  refine ⟨fun j hj => by rw [hops]; exact H.rng j hj, fun j hj => List.nodup_iff_count.1 H.nodup _, fun i j hi hj hij => ?_, fun k hk h0 hz => ?_⟩
  · refine H.ok i hi taken[j] (H.rng j hj).1 (H.rng j hj).2 (fun hm => ?_) (fun e => ?_)
    · obtain ⟨m, hm1, hm2⟩ := List.mem_take_iff_getElem.1 hm
      exact H.new j hj (List.mem_take_iff_getElem.2 ⟨m, by omega, hm2⟩)
    · exact H.new j hj (List.mem_take_iff_getElem.2 ⟨i, by omega, e.symm⟩)
  · exact List.count_eq_zero.1 hz (H.full hl (by omega) (by omega))
theorem Chain.done {ops : List Op9} {l : Nat} {taken : List Int} (H : Chain ops l taken) (hl : taken.length = l) : nextL ops taken l = [] := by
  rw [List.eq_nil_iff_forall_not_mem]
  intro x hx
  obtain ⟨h1, h2, _⟩ := mem_nextL.1 hx
  exact h2 (H.full hl h1.1 h1.2)

theorem tmod_lt' {x d : Int} (h : 0 < d) : -d < Int.tmod x d ∧ Int.tmod x d < d := ⟨Int.lt_tmod_of_pos x h, Int.tmod_lt_of_pos x h⟩
theorem pick_lt {p : Int} {n : Nat} (h0 : 0 < n) (hn : n ≤ 1000) : ∃ k : Nat, k < n ∧ Int.tmod (IntKind.wrap .i64 (Int.tmod p n + n)) n = k := by
  have h1 := tmod_lt' (x := p) (d := (n : Int)) (by omega)
  rw [wrap64_id' (by omega) (by omega), Int.tmod_eq_emod_of_nonneg (by omega)]
  have h2 := Int.emod_nonneg (Int.tmod p n + n) (b := (n : Int)) (by omega)
  have h3 := Int.emod_lt_of_pos (Int.tmod p n + n) (b := (n : Int)) (by omega)
  exact ⟨((Int.tmod p n + n) % n).toNat, by omega, by omega⟩

theorem realChains_body {K : Value → Heap → Prop} {h : Heap} {a a2 : Option Addr} {l c l2 c2 : Nat} {ops : List Op9} {picks : List Int} (H : SlO h a l c ops) (H2 : RI h a2 l2 c2 picks)
    (k : ∀ h', Old h.size h h' → K (.bool true) h') : F12 K h a l c a2 l2 c2 := by
  unfold F12
  have hlen := H.len
  have hlen2 := H2.len
  refine ⟨fun vs h' => vs = [.bool (decide (40 < l ∨ 200 < l2))] ∧ h' = h, ?_, ?_⟩
  · refine ifB_dec (fun hq => ⟨?_, rfl⟩) (fun hq => ⟨?_, rfl⟩)
    · rw [decide_eq_true (p := 40 < l ∨ 200 < l2) (by omega)]
    · congr 2; rw [decide_eq_decide]; omega
  rintro v1 g2 h3 ⟨e, rfl⟩
  cases e
  simp only [asBool_bool]
  refine ifB_dec (fun hq => ?_) (fun hq => ?_)
  · refine callV_fn (lives14_call fun h' o => ?_)
    simp only [asBool_bool]
    exact k _ o
  refine ⟨fun vs h' => ∃ i : Nat, vs = [.bool false, iv i] ∧ h' = h3 ∧ i ≤ l ∧ ∀ j (hj : j < ops.length), j < i → 0 ≤ (ops[j]).to → (ops[j]).fr ≤ (ops[j]).to, fun vs _ => (match vs with | [_, .int _ n] => l - n.toNat | _ => 0), ⟨0, rfl, rfl, Nat.zero_le _, fun j _ h => by omega⟩, ?_⟩
  rintro v10 v11 g12 h13 ⟨i, e, rfl, hi, hall⟩
  cases e
  simp only [asInt_int]
  refine ifB_dec (fun hlt => ?_) (fun hge => ?_)
  · have hi' : i < ops.length := by omega
    obtain ⟨ad, rfl, qi⟩ := H.op hi'
    refine ⟨fun vs h' => vs = [.bool (decide (0 ≤ (ops[i]).to ∧ (ops[i]).to < (ops[i]).fr))] ∧ h' = h13, ?_, ?_⟩
    · refine ⟨by omega, hlt, ?_⟩
      simp only [asPtr_some, Int.toNat_natCast]
      refine ldH_mk (qi.2 8 _ rfl) ?_
      simp only [asInt_int]
      refine ifB_dec (fun h1 => ?_) (fun h1 => ⟨?_, by trivial⟩)
      · refine ⟨by omega, hlt, ldH_mk (qi.2 8 _ rfl) ?_⟩
        simp only [asInt_int]
        refine ⟨by omega, hlt, ldH_mk (qi.2 7 _ rfl) ?_⟩
        simp only [asInt_int]
        refine ⟨?_, by trivial⟩
        congr 2; rw [decide_eq_decide]; omega
      · rw [decide_eq_false (p := 0 ≤ _ ∧ _) (fun f => by omega)]
    · rintro v28 g29 h30 ⟨e, rfl⟩
      cases e
      simp only [asBool_bool]
      refine ifB_dec (fun h1 => ?_) (fun h1 => ?_)
      · refine callV_fn (lives14_call fun h' o => ?_)
        simp only [asBool_bool]
        exact k _ o
      · rw [nat_wrap1 (by omega)]
        refine ⟨⟨i + 1, rfl, by trivial, by omega, fun j hj hji h0 => ?_⟩, ?_⟩
        · by_cases e : j < i
          · exact hall j hj e h0
          · obtain rfl : j = i := by omega
            omega
        · show l - ((i + 1 : Nat) : Int).toNat < l - (i : Int).toNat
          omega
  have hguard : ∀ y : Int, 0 ≤ y → y < l → 0 ≤ (opAt ops y).to → (opAt ops y).fr ≤ (opAt ops y).to := by
    intro y y0 y1
    have e : opAt ops y = ops[y.toNat] := by simp [opAt, show y.toNat < ops.length by omega]
    rw [e]
    exact hall y.toNat (by omega) (by omega)
  refine make_bool (by omega) ?_
  have p1 := pushed h13 (inRow l []).toArray 4
  generalize h13.push (.cells (inRow l []).toArray 4) = h37 at *
  simp only [asSlice_slice]
  refine ⟨fun vs h' => ∃ b a c v1 v2 taken, vs = [b, .slice a taken.length c, iv (taken.length : Nat), v1, v2] ∧ Old h13.size h13 h' ∧ h'[h13.size]? = some (.cells (inRow l taken).toArray 4) ∧ OwnI h' a taken.length c taken ∧ (∀ ad, a = some ad → h13.size < ad.block) ∧ taken.length ≤ l ∧ Chain ops l taken,
    fun vs _ => (match vs with | [_, _, .int _ n, _, _] => l - n.toNat | _ => 0), ⟨_, none, 0, _, _, [], rfl, p1.toOld, p1.new, Own.nil _ _ _, fun ad e => (by cases e), by simp, Chain.nil _ _⟩, ?_⟩
  rintro v43 v44 v45 v46 v47 g48 h49 ⟨b, ao, co, w1, w2, taken, e, o49, m49, own49, hgo, htl, hch⟩
  cases e
  simp only [asInt_int]
  have hb49 : h13.size < h49.size := (Array.getElem?_eq_some_iff.1 m49).1
  refine ifB_dec (fun hlt => ?_) (fun hge2 => ?_)
  · refine callV_fn (next_call (H.old o49) (by omega) m49 fun an n' cn h52 R52 hgn o52 => ?_)
    simp only [asSlice_slice]
    have hne := hch.more hguard (by omega)
    have hn0 : 0 < n' := by rw [← R52.len]; exact List.length_pos_iff.2 hne
    have hnl : n' ≤ l := by
      rw [← R52.len]
      unfold nextL
      refine Nat.le_trans (List.length_filter_le _ _) (Nat.le_trans (List.length_filter_le _ _) ?_)
      simp [ints]
    have m52 := (o52.2 _ hb49).trans m49
    have ok52 := o49.trans (o52.mono o49.1)
    refine ifB_mk (fun hz => by simp at hz; omega) (fun _ => ?_)
    refine ⟨fun vs h' => ∃ kk : Nat, vs = [iv kk] ∧ kk < n' ∧ h' = h52, ?_, ?_⟩
    · refine ifB_dec (fun h1 => ?_) (fun h1 => ⟨0, rfl, hn0, by trivial⟩)
      obtain ⟨ad, e, hc⟩ := ((H2.old o49).old o52).at (i := taken.length) (by omega)
      refine ⟨by omega, by omega, ?_⟩
      rw [e]
      simp only [asPtr_some, Int.toNat_natCast, Nat.mul_one]
      refine ldH_mk hc ?_
      simp only [asInt_int]
      obtain ⟨kk, hkk, ek⟩ := pick_lt (p := picks[taken.length]) hn0 (by omega)
      exact ⟨by omega, by omega, kk, by rw [ek], hkk, by trivial⟩
    rintro v62 g63 h64 ⟨kk, e, hkk, rfl⟩
    cases e
    simp only [asInt_int]
    have hkk' : kk < (nextL ops taken l).length := by rw [R52.len]; exact hkk
    obtain ⟨adn, rfl, hcn⟩ := R52.at hkk'
    have hmem : (nextL ops taken l)[kk] ∈ nextL ops taken l := List.getElem_mem _
    generalize hx : (nextL ops taken l)[kk] = x at *
    obtain ⟨⟨x0, x1⟩, x2, _⟩ := mem_nextL.1 hmem
    refine ⟨fun vs h' => ∃ v, vs = [v, .bool false] ∧ h' = h64, ?_, ?_⟩
    · refine ⟨by omega, by omega, ?_⟩
      simp only [asPtr_some, Int.toNat_natCast, Nat.mul_one]
      refine ldH_mk hcn ?_
      simp only [asInt_int]
      refine ifB_dec (fun h1 => by omega) (fun h1 => ?_)
      refine ⟨by omega, by omega, ldH_mk hcn ?_⟩
      simp only [asInt_int]
      refine ifB_dec (fun h1 => by omega) (fun h1 => ?_)
      refine ⟨by omega, by omega, ldH_mk hcn ?_⟩
      simp only [asInt_int]
      refine ⟨x0, x1, ldH_mk (mark_at' m52 x0 x1) ?_⟩
      simp only [asBool_bool]
      exact ⟨_, pairB (decide_eq_false x2), by trivial⟩
    rintro v81 v82 g83 h84 ⟨w, e, rfl⟩
    cases e
    simp only [asBool_bool, ifB_false]
    refine ⟨by omega, by omega, ?_⟩
    simp only [asPtr_some, Int.toNat_natCast, Nat.mul_one]
    refine ldH_mk hcn ?_
    simp only [asInt_int]
    refine ⟨x0, x1, ?_⟩
    rw [add_lit]
    refine stH_mk m52 (by rw [inRow_size]; omega) trivial ?_
    rintro h91 e91
    rw [Nat.zero_add, inRow_set x0 x1] at e91
    have hb84 : h13.size < h84.size := by have := o52.1; omega
    have m91 : h91[h13.size]? = some (.cells (inRow l (taken ++ [x])).toArray 4) := by rw [e91]; exact set_new hb84
    have old91 : ∀ b', b' ≠ h13.size → h91[b']? = h84[b']? := fun b' hb' => by rw [e91]; exact set_old hb'
    have s91 : h91.size = h84.size := by rw [e91]; simp
    have own91 : OwnI h91 ao taken.length co taken := own49.keep fun ad e => (old91 _ (by have := hgo ad e; omega)).trans (o52.2 _ (own49.lt ad e))
    refine ⟨by omega, by omega, ?_⟩
    have hcn' : cellAt h91 (adn.add kk) = some (iv x) := (cellAt_congr (old91 _ (by rw [add_block]; have := hgn adn rfl; omega))).trans hcn
    refine ldH_mk hcn' ?_
    simp only [asInt_int]
    refine app_int own91 (by omega) ?_
    intro a3 c3 h100 own3 hs3 hold3 hor
    simp only [asSlice_slice]
    rw [nat_wrap1 (by omega)]
    have hl1 : (taken ++ [x]).length = taken.length + 1 := by simp
    refine ⟨⟨_, a3, c3, _, _, taken ++ [x], by rw [hl1], ?_, ?_, by rw [hl1]; exact own3, ?_, by rw [hl1]; omega, hch.snoc hmem⟩, ?_⟩
    · refine ⟨by have := ok52.1; omega, fun b' hb' => ?_⟩
      exact (hold3 b' (by omega) (fun ad e => by have := hgo ad e; omega)).trans ((old91 b' (by omega)).trans (ok52.2 b' hb'))
    · exact (hold3 _ (by omega) (fun ad e => by have := hgo ad e; omega)).trans m91
    · intro ad e
      rcases hor with rfl | ⟨bb, rfl, hbb⟩
      · exact hgo ad e
      · cases e; show h13.size < bb; omega
    · show l - ((taken.length + 1 : Nat) : Int).toNat < l - (taken.length : Int).toNat
      omega
  · have hfull : taken.length = l := by omega
    simp only [asSlice_slice]
    have may := hch.may hlen hfull
    refine callV_fn (may_call (H.old o49) (by omega) own49.ri (by omega) (fun _ h109 o109 => ?_) (fun hn => absurd may hn))
    have p109 := o49.trans (o109.mono o49.1)
    simp only [asBool_bool, ifB_true, asSlice_slice]
    refine callV_fn (may14_call (H.old p109) (by omega) (own49.ri.old o109) (by omega) (fun _ h115 o115 => ?_) (fun hn => absurd may hn))
    have p115 := p109.trans (o115.mono p109.1)
    have q115 := o109.trans (o115.mono o109.1)
    simp only [asBool_bool, ifB_true]
    refine callV_fn (next_call (H.old p115) (by omega) ((q115.2 _ hb49).trans m49) fun an n' cn h118 R118 hgn o118 => ?_)
    simp only [asSlice_slice]
    have hz : n' = 0 := by rw [← R118.len, hch.done hfull]; rfl
    subst hz
    refine ifB_mk (fun _ => ?_) (fun hq => by simp at hq)
    refine callV_fn (lives14_call fun h' o => ?_)
    simp only [asBool_bool]
    have p118 := p115.trans (o118.mono p115.1)
    exact k _ (p118.trans (o.mono p118.1))
end Go.Proofs.Ytgladmaagpcffaa
