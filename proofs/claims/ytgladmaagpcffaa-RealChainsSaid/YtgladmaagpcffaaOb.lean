/- Whether an order may be: the program's own way. -/
import Derived.Test.YtgladmaagpcffaaOa
set_option linter.unusedSimpArgs false
set_option linter.unusedVariables false
set_option maxRecDepth 20000
namespace Go.Proofs.Ytgladmaagpcffaa

theorem nodup_take {order : List Int} (H : ∀ i (h : i < order.length), order[i] ∉ order.take i) : order.Nodup := by
  rw [List.nodup_iff_pairwise_ne, List.pairwise_iff_getElem]
  intro i j hi hj hij e
  exact H j hj (List.mem_take_iff_getElem.2 ⟨i, by omega, e⟩)
theorem take_of_nodup {order : List Int} (H : ∀ i (h : i < order.length), order.count order[i] ≤ 1) (i : Nat) (h : i < order.length) : order[i] ∉ order.take i := by
  intro hm
  have h1 : 0 < (order.take i).count order[i] := List.count_pos_iff.2 hm
  have h2 := H i h
  have e : order = order.take i ++ order[i] :: order.drop (i + 1) := by rw [← List.drop_eq_getElem_cons h, List.take_append_drop]
  have h3 : order.count order[i] = (order.take i ++ order[i] :: order.drop (i + 1)).count order[i] := congrArg (fun l => List.count order[i] l) e
  rw [List.count_append, List.count_cons_self] at h3
  omega

abbrev inRow (l : Nat) (xs : List Int) : List Value := (List.range l).map fun j : Nat => .bool (decide ((j : Int) ∈ xs))
theorem inRow_get {l : Nat} {xs : List Int} {x : Int} (h0 : 0 ≤ x) (h1 : x < l) : (inRow l xs)[x.toNat]? = some (.bool (decide (x ∈ xs))) := by
  have : x.toNat < l := by omega
  simp only [inRow, List.getElem?_map, List.getElem?_range this, Option.map_some]
  rw [show ((x.toNat : Nat) : Int) = x by omega]
theorem inRow_set {l : Nat} {xs : List Int} {x : Int} (h0 : 0 ≤ x) (h1 : x < l) : (inRow l xs).toArray.setIfInBounds x.toNat (.bool true) = (inRow l (xs ++ [x])).toArray := by
  rw [List.setIfInBounds_toArray]
  congr 1
  apply List.ext_getElem (by simp)
  intro i h2 h3
  simp only [List.length_set, List.length_map, List.length_range] at h2
  rw [List.getElem_set]
  simp only [List.getElem_map, List.getElem_range, List.mem_append, List.mem_singleton]
  split
  · rename_i e
    rw [decide_eq_true (by right; omega)]
  · rename_i e
    congr 1
    rw [decide_eq_decide]
    constructor
    · exact .inl
    · rintro (h | h)
      · exact h
      · omega
theorem inRow_nil (l : Nat) : ((List.replicate l [Value.bool false]).flatten) = inRow l [] := by
  rw [List.flatten_replicate_singleton]
  apply List.ext_getElem (by simp)
  intro i h1 h2
  simp
theorem inRow_size (l : Nat) (xs : List Int) : (inRow l xs).toArray.size = l := by simp

theorem byt_bool : byt Try.prog 4 = 1 := by kernel_rfl
theorem zcells_bool : zcells Try.prog 4 = [.bool false] := by kernel_rfl
theorem make_bool {K : Value → Heap → Prop} {h : Heap} {l : Nat} (hl : l ≤ 1000) (k : K (.slice (some ⟨h.size, 0, none⟩) l l) (h.push (.cells (inRow l []).toArray 4))) : mkSlH Try.prog 4 (l : Int) (l : Int) h K := by
  unfold mkSlH
  refine ⟨by omega, by omega, by omega, by rw [byt_bool]; omega, ?_⟩
  simp only [Int.toNat_natCast, zcells_bool, inRow_nil]
  exact k

/-- A slice of marks of one's own. -/
theorem mark_at {h : Heap} {b : Nat} {l : Nat} {xs : List Int} (hb : h[b]? = some (.cells (inRow l xs).toArray 4)) {x : Int} (h0 : 0 ≤ x) (h1 : x < l) : cellAt h ((⟨b, 0, none⟩ : Addr).add (x.toNat * 1)) = some (.bool (decide (x ∈ xs))) := by
  rw [add_lit, cellAt_of hb, List.getElem?_toArray, Nat.mul_one, Nat.zero_add]
  exact inRow_get h0 h1

theorem mark_at' {h : Heap} {b : Nat} {l : Nat} {xs : List Int} (hb : h[b]? = some (.cells (inRow l xs).toArray 4)) {x : Int} (h0 : 0 ≤ x) (h1 : x < l) : cellAt h ((⟨b, 0, none⟩ : Addr).add x.toNat) = some (.bool (decide (x ∈ xs))) := by
  have := mark_at hb h0 h1
  rwa [Nat.mul_one] at this
theorem ahead_on {h : Heap} {p q : Nat} {a : Option Addr} {l c : Nat} {ops : List Op9} {x : Int} (hp : cellAt h ⟨p, 0, none⟩ = some (.slice a l c)) (H : SlO h a l c ops) (hq : cellAt h ⟨q, 0, none⟩ = some (iv x)) (h0 : 0 ≤ x) (h1 : x < ops.length) :
    KeepOn (.func (.func 90) #[] #[.pointer (some ⟨p, 0, none⟩), .pointer (some ⟨q, 0, none⟩)]) (fun y => 0 ≤ y ∧ y < ops.length) (fun y => ahead (opAt ops x) (opAt ops y)) h := by
  refine ⟨⟨_, _, _, rfl⟩, fun h => cellAt h ⟨p, 0, none⟩ = some (.slice a l c) ∧ SlO h a l c ops ∧ cellAt h ⟨q, 0, none⟩ = some (iv x), ⟨hp, H, hq⟩, fun h h' o e => ⟨cell_stable _ _ o e.1, e.2.1.old o, cell_stable _ _ o e.2.2⟩, ?_⟩
  rintro h y K ⟨e1, e2, e3⟩ ⟨y0, y1⟩ k
  refine callV_cl ?_
  rw [cl3]
  refine call90 ?_
  unfold F90
  have hlen := e2.len
  simp only [asPtr_some]
  refine ldH_mk e1 ?_
  simp only [asSlice_slice, asPtr_some]
  refine ldH_mk e3 ?_
  simp only [asInt_int]
  obtain ⟨bd, rfl, b0, b1⟩ := e2.int h0 h1
  obtain ⟨bd', e', d0, d1⟩ := e2.int y0 y1
  cases e'
  refine ⟨h0, by omega, ldH_mk b0 ?_⟩
  iterate 8 (refine ldH_mk (b1 _ _ rfl) ?_)
  refine ldH_mk e1 ?_
  simp only [asSlice_slice, asPtr_some]
  refine ⟨y0, by omega, ldH_mk d0 ?_⟩
  iterate 8 (refine ldH_mk (d1 _ _ rfl) ?_)
  refine callV_fn (ahead_call (opAt ops x) (opAt ops y) fun h' o => ?_)
  simp only [asBool_bool]
  exact k _ o
theorem open_on {h : Heap} {p q b : Nat} {a : Option Addr} {l c : Nat} {ops : List Op9} {order : List Int} (hp : cellAt h ⟨p, 0, none⟩ = some (.slice a l c)) (H : SlO h a l c ops) (hq : cellAt h ⟨q, 0, none⟩ = some (.slice (some ⟨b, 0, none⟩) l l)) (hb : h[b]? = some (.cells (inRow l order).toArray 4)) :
    KeepOn (.func (.func 91) #[] #[.pointer (some ⟨p, 0, none⟩), .pointer (some ⟨q, 0, none⟩)]) (fun y => 0 ≤ y ∧ y < ops.length) (fun y => decide (0 ≤ (opAt ops y).to) && !decide (y ∈ order)) h := by
  refine ⟨⟨_, _, _, rfl⟩, fun h => cellAt h ⟨p, 0, none⟩ = some (.slice a l c) ∧ SlO h a l c ops ∧ cellAt h ⟨q, 0, none⟩ = some (.slice (some ⟨b, 0, none⟩) l l) ∧ h[b]? = some (.cells (inRow l order).toArray 4), ⟨hp, H, hq, hb⟩,
    fun h h' o e => ⟨cell_stable _ _ o e.1, e.2.1.old o, cell_stable _ _ o e.2.2.1, (o.2 _ (Array.getElem?_eq_some_iff.1 e.2.2.2).1).trans e.2.2.2⟩, ?_⟩
  rintro h y K ⟨e1, e2, e3, e4⟩ ⟨y0, y1⟩ k
  refine callV_cl ?_
  rw [cl3]
  refine call91 ?_
  unfold F91
  have hlen := e2.len
  have k : K (.bool (decide (0 ≤ (opAt ops y).to) && !decide (y ∈ order))) h := k h (Old.refl _ _)
  simp only [asPtr_some]
  refine ldH_mk e1 ?_
  simp only [asSlice_slice, asPtr_some]
  obtain ⟨bd, rfl, b0, b1⟩ := e2.int y0 y1
  refine ⟨y0, by omega, ldH_mk (b1 8 _ rfl) ?_⟩
  simp only [asInt_int, asPtr_some]
  refine ifB_dec (fun hq => ?_) (fun hq => ?_)
  · rw [decide_eq_true (p := 0 ≤ _) (by omega), Bool.true_and] at k
    refine ldH_mk e3 ?_
    simp only [asSlice_slice, asPtr_some]
    refine ⟨y0, by omega, ldH_mk (mark_at e4 y0 (by omega)) ?_⟩
    simp only [asBool_bool]
    exact k
  · rwa [decide_eq_false (p := 0 ≤ _) (by omega), Bool.false_and] at k

theorem count_list {K : Value → Heap → Prop} {h : Heap} {l : Nat} (hl : l ≤ 2 ^ 60) (k : ∀ g h', SeqL g ((List.range l).map fun k : Nat => (k : Int)) h' → Old h.size h h' → K g h') : CallH Try.prog 22 #[iv 0, iv l] h K :=
  count_call (by omega) (by omega) fun g h' hs o => k g h' (hs.toL (by simp) fun j hj => by
    have : j < l := by omega
    simp [List.getD_eq_getElem?_getD, this]) o

theorem may_call {K : Value → Heap → Prop} {h : Heap} {a a2 : Option Addr} {l c l2 c2 : Nat} {ops : List Op9} {order : List Int} (H : SlO h a l c ops) (hl : l ≤ 1000) (H2 : RI h a2 l2 c2 order) (hl2 : l2 ≤ 1000)
    (k1 : MayOk ops order → ∀ h', Old h.size h h' → K (.bool true) h') (k0 : ¬ MayOk ops order → ∀ h', Old h.size h h' → K (.bool false) h') : CallH Try.prog 47 #[.slice a l c, .slice a2 l2 c2] h K := by
  refine call47 ?_
  unfold F47
  have hlen := H.len
  have hlen2 := H2.len
  have hcap2 := H2.cap
  have p1 := pushed h #[.slice a l c] 53
  generalize h.push (.cells #[.slice a l c] 53) = h1 at *
  have s1 := p1.size
  have o1 := p1.toOld
  refine ldR p1.new rfl ?_
  simp only [asSlice_slice]
  refine make_bool hl ?_
  have p2 := pushed h1 (inRow l []).toArray 4
  generalize h1.push (.cells (inRow l []).toArray 4) = h5 at *
  have s2 := p2.size
  rw [s1]
  simp only [asSlice_slice]
  have p3 := pushed h5 #[.slice none 0 0] 67
  generalize h5.push (.cells #[.slice none 0 0] 67) = h6 at *
  have s3 := p3.size
  refine stR p3.new rfl trivial fun h9 w9 => ?_
  have es5 : h5.size = h.size + 2 := by omega
  rw [es5] at w9 ⊢
  have n1 : h9[h.size]? = some (.cells #[.slice a l c] 53) := (w9.old _ (by omega)).trans ((p3.old _ (by omega)).trans ((p2.old _ (by omega)).trans p1.new))
  have n2 : h9[h.size + 1]? = some (.cells (inRow l []).toArray 4) := (w9.old _ (by omega)).trans ((p3.old _ (by omega)).trans (by rw [← s1]; exact p2.new))
  have n3 : h9[h.size + 2]? = some (.cells #[.slice (some ⟨h.size + 1, 0, none⟩) l l] 67) := w9.new
  have o9 : Old h.size h h9 := w9.toOld ((o1.trans (p2.toOld.mono (by omega))).trans (p3.toOld.mono (by omega))) (by omega)
  have s9 : h9.size = h.size + 3 := by rw [w9.size]; omega
  refine ⟨fun vs h' => ∃ v, ∃ i : Nat, vs = [.bool false, v, iv i] ∧ Old h.size h h' ∧ h.size + 3 ≤ h'.size ∧ i ≤ l2 ∧ h'[h.size]? = some (.cells #[.slice a l c] 53) ∧ h'[h.size + 1]? = some (.cells (inRow l (order.take i)).toArray 4) ∧
      h'[h.size + 2]? = some (.cells #[.slice (some ⟨h.size + 1, 0, none⟩) l l] 67) ∧
      (∀ j (hj : j < order.length), j < i → (0 ≤ order[j] ∧ order[j] < ops.length) ∧ order[j] ∉ order.take j ∧ ∀ j' (hj' : j' < order.length), j' < j → ahead (opAt ops order[j]) (opAt ops order[j']) = false),
    fun vs _ => (match vs with | [_, _, .int _ n] => l2 - n.toNat | _ => 0), ⟨_, 0, rfl, o9, by omega, Nat.zero_le _, n1, by simpa using n2, n3, fun j _ h => by omega⟩, ?_⟩
  rintro v12 v13 v14 g15 h16 ⟨v, i, e, o16, hs16, hi, m1, m2, m3, hall⟩
  cases e
  simp only [asInt_int, asI_int]
  refine ifB_dec (fun hlt => ?_) (fun hge => ?_)
  · have hi' : i < order.length := by omega
    obtain ⟨ad, e, hc⟩ := (H2.old o16).at hi'
    refine ⟨by omega, by omega, ?_⟩
    rw [e]
    simp only [asPtr_some, Int.toNat_natCast, Nat.mul_one]
    refine ldH_mk hc ?_
    simp only [asInt_int]
    have p4 := pushed h16 #[.int .i64 0] 3
    generalize h16.push (.cells #[.int .i64 0] 3) = h17 at *
    refine stR p4.new rfl trivial fun h23 w23 => ?_
    have o23' : Old h16.size h16 h23 := w23.toOld p4.toOld (Nat.le_refl _)
    have o23 : Old h.size h h23 := o16.trans (o23'.mono o16.1)
    have q1 := (o23'.2 h.size (by omega)).trans m1
    have q2 := (o23'.2 (h.size + 1) (by omega)).trans m2
    have q3 := (o23'.2 (h.size + 2) (by omega)).trans m3
    have q4 : h23[h16.size]? = some (.cells #[.int .i64 order[i]] 3) := w23.new
    refine ⟨fun vs h' => ∃ v, vs = [v, .bool (decide (¬ ((0 ≤ order[i] ∧ order[i] < ops.length) ∧ order[i] ∉ order.take i)))] ∧ h' = h23, ?_, ?_⟩
    · refine ldR q4 rfl ?_
      simp only [asInt_int]
      refine ifB_dec (fun hq => ⟨_, pairB (decide_eq_true (p := ¬ ((0 ≤ order[i] ∧ order[i] < ops.length) ∧ order[i] ∉ order.take i)) (fun f => by omega)).symm, by trivial⟩) (fun hq => ?_)
      refine ldR q4 rfl ?_
      simp only [asInt_int]
      refine ldR q1 rfl ?_
      simp only [asSlice_slice]
      refine ifB_dec (fun hq2 => ⟨_, pairB (decide_eq_true (p := ¬ ((0 ≤ order[i] ∧ order[i] < ops.length) ∧ order[i] ∉ order.take i)) (fun f => by omega)).symm, by trivial⟩) (fun hq2 => ?_)
      refine ldR q3 rfl ?_
      simp only [asSlice_slice]
      refine ldR q4 rfl ?_
      simp only [asInt_int, asPtr_some]
      refine ⟨by omega, by omega, ldH_mk (mark_at' q2 (by omega) (by omega)) ?_⟩
      simp only [asBool_bool]
      refine ⟨_, pairB (decide_eq_decide.2 ⟨fun hm f => f.2 hm, fun f => Decidable.byContradiction fun hm => f ⟨⟨by omega, by omega⟩, hm⟩⟩), by trivial⟩
    · rintro v42 v43 g44 h45 ⟨v', e, rfl⟩
      cases e
      simp only [asBool_bool]
      refine ifB_dec (fun hq => ?_) (fun hq => ?_)
      · exact k0 (fun m => hq ⟨m.rng i hi', take_of_nodup m.once i hi'⟩) _ o23
      obtain ⟨⟨g1, g2⟩, g3⟩ := Decidable.of_not_not hq
      refine ldR q3 rfl ?_
      simp only [asSlice_slice]
      refine ldR q4 rfl ?_
      simp only [asInt_int, asPtr_some]
      refine ⟨g1, by omega, ?_⟩
      rw [add_lit]
      refine stH_mk q2 (by rw [inRow_size]; omega) trivial ?_
      rintro h54 e54
      rw [Nat.zero_add, inRow_set g1 (by omega)] at e54
      have t45 : h45.size ≥ h16.size + 1 := by rw [w23.size, p4.size]; omega
      have r1 : h54[h.size]? = some (.cells #[.slice a l c] 53) := by rw [e54, set_old (by omega)]; exact q1
      have r2 : h54[h.size + 1]? = some (.cells (inRow l (order.take (i + 1))).toArray 4) := by rw [e54, List.take_succ_eq_append_getElem hi']; exact set_new (by omega)
      have r3 : h54[h.size + 2]? = some (.cells #[.slice (some ⟨h.size + 1, 0, none⟩) l l] 67) := by rw [e54, set_old (by omega)]; exact q3
      have r4 : h54[h16.size]? = some (.cells #[.int .i64 order[i]] 3) := by rw [e54, set_old (by omega)]; exact q4
      have o54 : Old h.size h h54 := by rw [e54]; exact o23.set _ _ (by omega)
      have s54 : h54.size = h45.size := by rw [e54]; simp
      refine ⟨by omega, by omega, ?_⟩
      simp only [Int.toNat_natCast, Nat.sub_zero]
      rw [← e]
      refine callV_fn (of_call ((H2.old o54).take (f := i) (by omega)) (by omega) fun g56 h56 S56 o56 => ?_)
      have hmem : ∀ x ∈ order.take i, 0 ≤ x ∧ x < ops.length := by
        intro x hx
        obtain ⟨j, hj, e⟩ := List.mem_take_iff_getElem.1 hx
        have := (hall j (by omega) (by omega)).1
        rw [e] at this; exact this
      refine callV_fn (some_on S56 (ahead_on (cell_stable _ _ o56 (cellAt_row r1)) ((H.old o54).old o56) (cell_stable _ _ o56 (cellAt_row r4)) g1 g2) hmem fun h58 o58 => ?_)
      have o58' : Old h54.size h54 h58 := o56.trans (o58.mono o56.1)
      have ok58 : Old h.size h h58 := o54.trans (o58'.mono o54.1)
      simp only [asBool_bool]
      refine ifB_mk (fun hany => ?_) (fun hany => ?_)
      · obtain ⟨x, hx, ha⟩ := List.any_eq_true.1 hany
        obtain ⟨j, hj, e⟩ := List.mem_take_iff_getElem.1 hx
        refine k0 (fun m => ?_) _ ok58
        have := m.ord j i (by omega) hi' (by omega)
        rw [e] at this
        rw [this] at ha; cases ha
      · rw [nat_wrap1 (by omega)]
        refine ⟨⟨_, i + 1, rfl, ok58, by have := o58'.1; omega, by omega, (o58'.2 _ (by omega)).trans r1, (o58'.2 _ (by omega)).trans r2, (o58'.2 _ (by omega)).trans r3, fun j hj hji => ?_⟩, ?_⟩
        · by_cases e : j < i
          · exact hall j hj e
          · obtain rfl : j = i := by omega
            refine ⟨⟨g1, g2⟩, g3, fun j' hj' hjj => ?_⟩
            have := List.any_eq_false.1 hany order[j'] (List.mem_take_iff_getElem.2 ⟨j', by omega, rfl⟩)
            simpa using this
        · show l2 - ((i + 1 : Nat) : Int).toNat < l2 - (i : Int).toNat
          omega
  · have hil : i = l2 := by omega
    subst hil
    rw [List.take_of_length_le (by omega)] at m2
    have hnd : order.Nodup := nodup_take fun j hj => (hall j hj (by omega)).2.1
    refine ldR m1 rfl ?_
    simp only [asSlice_slice]
    refine callV_fn (count_list (by omega) fun g66 h66 S66 o66 => ?_)
    refine callV_fn (some_on S66 (open_on (cell_stable _ _ o66 (cellAt_row m1)) ((H.old o16).old o66) (cell_stable _ _ o66 (cellAt_row m3)) ((o66.2 _ (by omega)).trans m2)) (fun x hx => ?_) fun h68 o68 => ?_)
    · obtain ⟨j, hj, rfl⟩ := List.mem_map.1 hx
      simp at hj
      omega
    have ok68 : Old h.size h h68 := (o16.trans (o66.mono o16.1)).trans (o68.mono (Nat.le_trans o16.1 o66.1))
    simp only [asBool_bool]
    cases hany : ((List.range l).map fun k : Nat => (k : Int)).any (fun y => decide (0 ≤ (opAt ops y).to) && !decide (y ∈ order)) with
    | true =>
      simp only [Bool.not_true]
      obtain ⟨x, hx, hp⟩ := List.any_eq_true.1 hany
      obtain ⟨j, hj, rfl⟩ := List.mem_map.1 hx
      simp only [List.mem_range] at hj
      simp only [Bool.and_eq_true, decide_eq_true_eq, Bool.not_eq_true', decide_eq_false_iff_not] at hp
      refine k0 (fun m => ?_) _ ok68
      rw [opAt_nat (by omega)] at hp
      exact m.all j (by omega) hp.1 (List.count_eq_zero.2 hp.2)
    | false =>
      simp only [Bool.not_false]
      refine k1 ⟨fun j hj => (hall j hj (by omega)).1, fun j hj => List.nodup_iff_count.1 hnd _, fun i' j hi' hj hij => (hall j hj (by omega)).2.2 i' hi' hij, fun m hm h0 => ?_⟩ _ ok68
      have := List.any_eq_false.1 hany (m : Int) (List.mem_map.2 ⟨m, by simp; omega, rfl⟩)
      rw [opAt_nat hm, decide_eq_true h0, Bool.true_and] at this
      intro hz
      rw [List.count_eq_zero] at hz
      simp [hz] at this
end Go.Proofs.Ytgladmaagpcffaa
