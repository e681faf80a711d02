/- The contracts of a configuration's plan, and of the bounds. -/
import Derived.Test.YtgladmaagpcffaaMa
import Derived.Test.YtgladmaagpcffaaFd
set_option linter.unusedSimpArgs false
set_option linter.unusedVariables false
set_option maxRecDepth 20000
namespace Go.Proofs.Ytgladmaagpcffaa

abbrev okSpan (X Y Z : Nat → Int) (i : Nat) : Prop := Y i ≤ X i ∧ X i ≤ Z i
theorem within_plan {K : Value → Heap → Prop} {h : Heap} {a : Addr} {l c : Nat} {X Y Z : Nat → Int} (hl : l ≤ 1000)
    (H : ∀ i, i < l → cellAt h (a.add (i * 3)) = some (iv (X i)) ∧ cellAt h ((a.add (i * 3)).add 1) = some (iv (Y i)) ∧ cellAt h ((a.add (i * 3)).add 2) = some (iv (Z i)))
    (k1 : (∀ i, i < l → okSpan X Y Z i) → ∀ h', Old h.size h h' → K (.bool true) h') (k0 : (∃ i, i < l ∧ ¬ okSpan X Y Z i) → ∀ h', Old h.size h h' → K (.bool false) h') :
    CallH Try.prog 145 #[.slice (some a) l c] h K := by
  refine call145 ?_
  unfold F145
  refine ⟨fun vs h' => ∃ i : Nat, vs = [.bool false, iv i] ∧ Old h.size h h' ∧ i ≤ l ∧ ∀ j, j < i → okSpan X Y Z j, fun vs _ => (match vs with | [_, .int _ n] => l - n.toNat | _ => 0), ⟨0, rfl, Old.refl _ _, Nat.zero_le _, fun j hj => by omega⟩, ?_⟩
  rintro v2 v3 g h5 ⟨i, e, ho, hi, hall⟩
  cases e
  simp only [asInt_int, asI_int]
  refine ifB_dec (fun hlt => ?_) (fun hge => ?_)
  · obtain ⟨e1, e2, e3⟩ := H i (by omega)
    refine ⟨by omega, hlt, ?_⟩
    simp only [asPtr_some, Int.toNat_natCast]
    refine ldH_mk (cell_stable _ _ ho e1) (ldH_mk (cell_stable _ _ ho e2) (ldH_mk (cell_stable _ _ ho e3) ?_))
    have p := pushed h5 #[.int .i64 0, .int .i64 0, .int .i64 0] 168
    generalize h5.push (.cells #[.int .i64 0, .int .i64 0, .int .i64 0] 168) = hp at *
    refine st3 (stN_full p.new rfl (by simp [oneC]) fun h14 w => ?_)
    have o14 : Old h.size h h14 := w.toOld (ho.trans (p.toOld.mono ho.1)) ho.1
    refine ⟨fun vs h' => vs = [.bool (decide (¬ okSpan X Y Z i))] ∧ h' = h14, ?_, ?_⟩
    · refine ldR w.new rfl ?_
      simp only [asInt_int]
      refine ldR w.new rfl ?_
      simp only [asInt_int]
      refine ifB_dec (fun h1 => ⟨?_, by trivial⟩) (fun h1 => ?_)
      · rw [decide_eq_true (by unfold okSpan; omega)]
      · refine ldR w.new rfl ?_
        simp only [asInt_int]
        refine ldR w.new rfl ?_
        simp only [asInt_int]
        refine ⟨?_, by trivial⟩
        congr 2; rw [decide_eq_decide]; unfold okSpan; omega
    · rintro v24 g25 h26 ⟨e, rfl⟩
      cases e
      simp only [asBool_bool]
      refine ifB_dec (fun h1 => k0 ⟨i, by omega, h1⟩ _ o14) (fun h1 => ?_)
      rw [nat_wrap1 (by omega)]
      refine ⟨⟨i + 1, rfl, o14, by omega, fun j hj => ?_⟩, ?_⟩
      · by_cases hji : j < i
        · exact hall j hji
        · rw [show j = i by omega]; exact Decidable.of_not_not h1
      · show l - ((i + 1 : Nat) : Int).toNat < l - (i : Int).toNat
        omega
  · exact k1 (fun j hj => hall j (by omega)) _ ho

structure Cf where
  a : Int
  t : Int
  n : Int
  l : Int
  b : Int
  p : Int
  s : Int
def Cf.sent (c : Cf) : Int := if c.a = 0 then 0 else 2
def Cf.slots (c : Cf) : Int := if c.a = 0 then 2 else 2 * c.l + 2
def Cf.width (c : Cf) : Int := if c.a = 0 then 3 else 5 + c.l
def Cf.links (c : Cf) : Int := 8 + c.t * c.slots
def Cf.nodes (c : Cf) : Int := c.links + c.n
def Cf.tree (c : Cf) : Int := c.nodes + c.n * c.width
def Cf.size (c : Cf) : Int := c.tree + (if c.a = 0 then 2 ^ c.l.toNat else 0)
structure Cf.Right (c : Cf) : Prop where
  a : 0 ≤ c.a ∧ c.a ≤ 2
  t : 1 ≤ c.t ∧ c.t ≤ 6
  n : 1 ≤ c.n ∧ c.n ≤ 64
  l : 1 ≤ c.l ∧ c.l ≤ 6
  b : 1 ≤ c.b ∧ c.b ≤ 16
  p : 1 ≤ c.p ∧ c.p ≤ 16
  s : 1 ≤ c.s ∧ c.s ≤ 64
  z : c.sent < c.n
abbrev Cf.vals (c : Cf) : Array Value := #[.int .i64 c.a, .int .i64 c.t, .int .i64 c.n, .int .i64 c.l, .int .i64 c.b, .int .i64 c.p, .int .i64 c.s]
abbrev Cf.plan (c : Cf) : Array Value := #[.int .i64 c.a, .int .i64 c.t, .int .i64 c.n, .int .i64 c.l, .int .i64 c.b, .int .i64 c.p, .int .i64 c.s, .int .i64 c.slots, .int .i64 c.width, .int .i64 c.sent, .int .i64 8, .int .i64 c.links, .int .i64 c.nodes, .int .i64 c.tree, .int .i64 c.size]
abbrev zeros15 : Array Value := #[.int .i64 0, .int .i64 0, .int .i64 0, .int .i64 0, .int .i64 0, .int .i64 0, .int .i64 0, .int .i64 0, .int .i64 0, .int .i64 0, .int .i64 0, .int .i64 0, .int .i64 0, .int .i64 0, .int .i64 0]

theorem new_plan {K : Value → Heap → Prop} {h : Heap} (c : Cf) (k1 : c.Right → ∀ h', Old h.size h h' → K (.tuple #[.agg c.plan, .int .i64 0]) h') (k0 : ¬ c.Right → ∀ h', Old h.size h h' → K (.tuple #[.agg zeros15, .int .i64 6]) h') :
    CallH Try.prog 123 #[.agg c.vals] h K := by
  refine call123 ?_
  unfold F123
  have p1 := pushed h c.vals 37
  rw [show h.push (.cells #[.int .i64 c.a, .int .i64 c.t, .int .i64 c.n, .int .i64 c.l, .int .i64 c.b, .int .i64 c.p, .int .i64 c.s] 37) = h.push (.cells c.vals 37) from rfl]
  generalize h.push (.cells c.vals 37) = h1 at *
  have p2 := pushed h1 zeros15 148
  rw [show h1.push (.cells #[.int .i64 0, .int .i64 0, .int .i64 0, .int .i64 0, .int .i64 0, .int .i64 0, .int .i64 0, .int .i64 0, .int .i64 0, .int .i64 0, .int .i64 0, .int .i64 0, .int .i64 0, .int .i64 0, .int .i64 0] 148) = h1.push (.cells zeros15 148) from rfl]
  generalize h1.push (.cells zeros15 148) = h2 at *
  have s1 := p1.size
  have s2 := p2.size
  have c2 : h2[h.size]? = some (.cells c.vals 37) := (p2.old _ (by omega)).trans p1.new
  have o2 : Old h.size h h2 := p1.toOld.trans (p2.toOld.mono (by omega))
  rw [s1]
  have n2 : h2[h.size + 1]? = some (.cells zeros15 148) := by rw [← s1]; exact p2.new
  iterate 7 (refine ldR c2 rfl ?_; simp only [asInt_int])
  have p3 := pushed h2 #[.int .i64 c.a, .int .i64 0, .int .i64 2, .int .i64 c.t, .int .i64 1, .int .i64 6, .int .i64 c.n, .int .i64 1, .int .i64 64, .int .i64 c.l, .int .i64 1, .int .i64 6, .int .i64 c.b, .int .i64 1, .int .i64 16, .int .i64 c.p, .int .i64 1, .int .i64 16, .int .i64 c.s, .int .i64 1, .int .i64 64] 168
  generalize h2.push (.cells #[.int .i64 c.a, .int .i64 0, .int .i64 2, .int .i64 c.t, .int .i64 1, .int .i64 6, .int .i64 c.n, .int .i64 1, .int .i64 64, .int .i64 c.l, .int .i64 1, .int .i64 6, .int .i64 c.b, .int .i64 1, .int .i64 16, .int .i64 c.p, .int .i64 1, .int .i64 16, .int .i64 c.s, .int .i64 1, .int .i64 64] 168) = h3 at *
  have o3 : Old h2.size h2 h3 := p3.toOld
  have c3 := (o3.2 _ (by omega)).trans c2
  have n3 := (o3.2 _ (by omega)).trans n2
  -- nothing there
  have nothing : ∀ (h' : Heap) (row : Array Value), Old h.size h h' → h'[h.size + 1]? = some (.cells row 148) → row.size = 15 → ¬ c.Right → ∀ (F : Heap → Prop), (∀ h'', Old h.size h h'' → h''[h.size + 1]? = some (.cells zeros15 148) → F h'') →
      stN h' ⟨h.size + 1, 0, none⟩ 0 zeros15.toList F := by
    intro h' row o hb hr hn F hF
    refine stN_full hb (by rw [hr]; rfl) (by simp [oneC]) fun h'' w => ?_
    exact hF _ (w.toOld o (by omega)) (by simpa using w.new)
  refine callV_fn (within_plan (X := fun i => [c.a, c.t, c.n, c.l, c.b, c.p, c.s].getD i 0) (Y := fun i => [0, 1, 1, 1, 1, 1, 1].getD i 0) (Z := fun i => [2, 6, 64, 6, 16, 16, 64].getD i 0) (by omega) ?_ (fun hall h15 o15 => ?_) (fun hex h15 o15 => ?_))
  · intro i hi
    simp only [add_lit]
    have : i = 0 ∨ i = 1 ∨ i = 2 ∨ i = 3 ∨ i = 4 ∨ i = 5 ∨ i = 6 := by omega
    rcases this with rfl | rfl | rfl | rfl | rfl | rfl | rfl <;> exact ⟨cellR p3.new rfl, cellR p3.new rfl, cellR p3.new rfl⟩
  · -- within
    have q0 : 0 ≤ c.a ∧ c.a ≤ 2 := hall 0 (by omega)
    have q1 : 1 ≤ c.t ∧ c.t ≤ 6 := hall 1 (by omega)
    have q2 : 1 ≤ c.n ∧ c.n ≤ 64 := hall 2 (by omega)
    have q3 : 1 ≤ c.l ∧ c.l ≤ 6 := hall 3 (by omega)
    have q4 : 1 ≤ c.b ∧ c.b ≤ 16 := hall 4 (by omega)
    have q5 : 1 ≤ c.p ∧ c.p ≤ 16 := hall 5 (by omega)
    have q6 : 1 ≤ c.s ∧ c.s ≤ 64 := hall 6 (by omega)
    have s3 := p3.size
    have c15 := (o15.2 _ (by omega)).trans c3
    have n15 := (o15.2 _ (by omega)).trans n3
    have ok15 : Old h.size h h15 := (o2.trans (o3.mono (by omega))).trans (o15.mono (by omega))
    have hs15 : h.size + 3 ≤ h15.size := by have := o15.1; omega
    simp only [asBool_bool, Bool.not_true, ifB_false]
    iterate 7 (refine ldR c15 rfl ?_)
    refine ldR c15 rfl ?_
    simp only [asInt_int]
    refine ldR c15 rfl ?_
    simp only [asInt_int]
    have p4 := pushed h15 zeros15 148
    rw [show h15.push (.cells #[.int .i64 0, .int .i64 0, .int .i64 0, .int .i64 0, .int .i64 0, .int .i64 0, .int .i64 0, .int .i64 0, .int .i64 0, .int .i64 0, .int .i64 0, .int .i64 0, .int .i64 0, .int .i64 0, .int .i64 0] 148) = h15.push (.cells zeros15 148) from rfl]
    generalize h15.push (.cells zeros15 148) = h16 at *
    refine st15 (stN_full p4.new rfl (by simp [oneC]) fun h72 w72 => ?_)
    have c72 := (w72.old h.size (by omega)).trans ((p4.old _ (by omega)).trans c15)
    have n72 := (w72.old (h.size + 1) (by omega)).trans ((p4.old _ (by omega)).trans n15)
    have o72 : Old h.size h h72 := w72.toOld (ok15.trans (p4.toOld.mono ok15.1)) ok15.1
    have e1 : IntKind.wrap .i64 (2 * c.l) = 2 * c.l := wrap64_id' (by omega) (by omega)
    have e2 : IntKind.wrap .i64 (2 * c.l + 2) = 2 * c.l + 2 := wrap64_id' (by omega) (by omega)
    have e3 : IntKind.wrap .i64 (5 + c.l) = 5 + c.l := wrap64_id' (by omega) (by omega)
    have w72' := w72.new
    simp only [e1, e2, e3] at w72'
    refine ⟨fun vs h' => vs = [iv (if c.a = 0 then 2 ^ c.l.toNat else 0)] ∧ Old h.size h h' ∧ h'.size = h72.size ∧ h'[h.size]? = some (.cells c.vals 37) ∧ h'[h.size + 1]? = some (.cells zeros15 148) ∧
      h'[h15.size]? = some (.cells #[.int .i64 c.a, .int .i64 c.t, .int .i64 c.n, .int .i64 c.l, .int .i64 c.b, .int .i64 c.p, .int .i64 c.s, .int .i64 c.slots, .int .i64 c.width, .int .i64 c.sent, .int .i64 0, .int .i64 0, .int .i64 0, .int .i64 0, .int .i64 0] 148), ?_, ?_⟩
    · refine ldR c72 rfl ?_
      simp only [asInt_int]
      refine ifB_mk (fun ha => ?_) (fun ha => ?_)
      · have ha : c.a = 0 := by simpa using ha
        refine ldR c72 rfl ?_
        simp only [asInt_int]
        refine ⟨by omega, stR w72' rfl trivial fun h78 w78 => ?_⟩
        refine ⟨cellR ((w78.old _ (by omega)).trans c72) rfl, stR w78.new rfl trivial fun h79 w79 => ?_⟩
        refine ⟨cellR ((w79.old _ (by omega)).trans ((w78.old _ (by omega)).trans c72)) rfl, stR w79.new rfl trivial fun h80 w80 => ?_⟩
        have w := (w78.trans w79).trans w80
        refine ⟨cellR ((w.old _ (by omega)).trans c72) rfl, ?_, w.toOld o72 ok15.1, w.size, (w.old _ (by omega)).trans c72, (w.old _ (by omega)).trans n72, ?_⟩
        · rw [if_pos ha]
          congr 2
          have : c.l.toNat ≤ 6 := by omega
          rw [Int.one_mul, show min c.l.toNat 64 = c.l.toNat by omega]
          have : ∀ k : Nat, k ≤ 6 → IntKind.wrap .i64 ((2 : Int) ^ k) = 2 ^ k := by decide
          exact this _ (by omega)
        · rw [w.new]
          simp only [Cf.slots, Cf.width, Cf.sent, if_pos ha]
          rfl
      · have ha : c.a ≠ 0 := by simpa using ha
        refine ⟨?_, o72, by trivial, c72, n72, ?_⟩
        · rw [if_neg ha]
        · rw [w72']
          simp only [Cf.slots, Cf.width, Cf.sent, if_neg ha]
    rintro v81 g82 h83 ⟨e, o83, s83, c83, n83, m83⟩
    cases e
    refine ldR c83 rfl ?_
    simp only [asInt_int]
    refine ldR m83 rfl ?_
    simp only [asInt_int]
    refine ifB_dec (fun hz => ?_) (fun hz => ?_)
    · have hn : ¬ c.Right := fun r => by have := r.z; omega
      refine st15 (nothing h83 zeros15 o83 n83 rfl hn _ fun h102 o102 n102 => ?_)
      iterate 15 (refine ldR n102 rfl ?_)
      exact k0 hn _ o102
    · have hr : c.Right := ⟨q0, q1, q2, q3, q4, q5, q6, by omega⟩
      have hslots : 2 ≤ c.slots ∧ c.slots ≤ 14 := by unfold Cf.slots; split <;> omega
      have hwidth : 3 ≤ c.width ∧ c.width ≤ 11 := by unfold Cf.width; split <;> omega
      have m1 : c.t * c.slots ≤ 6 * 14 := Int.mul_le_mul q1.2 hslots.2 (by omega) (by omega)
      have m2 : 0 ≤ c.t * c.slots := Int.mul_nonneg (by omega) (by omega)
      have m3 : c.n * c.width ≤ 64 * 11 := Int.mul_le_mul q2.2 hwidth.2 (by omega) (by omega)
      have m4 : 0 ≤ c.n * c.width := Int.mul_nonneg (by omega) (by omega)
      have m5 : ∀ k : Nat, k ≤ 6 → 0 ≤ (2 : Int) ^ k ∧ (2 : Int) ^ k ≤ 64 := by decide
      have m6 := m5 c.l.toNat (by omega)
      refine stR m83 rfl trivial fun h118 w118 => ?_
      have c118 := (w118.old h.size (by omega)).trans c83
      refine ldR w118.new rfl ?_
      simp only [asInt_int]
      refine ldR c118 rfl ?_
      simp only [asInt_int]
      refine ldR w118.new rfl ?_
      simp only [asInt_int]
      rw [wrap64_id' (n := c.t * c.slots) (by omega) (by omega), wrap64_id' (n := 8 + c.t * c.slots) (by omega) (by omega)]
      refine stR w118.new rfl trivial fun h125 w125 => ?_
      have c125 := (w125.old h.size (by omega)).trans c118
      refine ldR w125.new rfl ?_
      simp only [asInt_int]
      refine ldR c125 rfl ?_
      simp only [asInt_int]
      rw [wrap64_id' (n := 8 + c.t * c.slots + c.n) (by omega) (by omega)]
      refine stR w125.new rfl trivial fun h130 w130 => ?_
      have c130 := (w130.old h.size (by omega)).trans c125
      refine ldR w130.new rfl ?_
      simp only [asInt_int]
      refine ldR c130 rfl ?_
      simp only [asInt_int]
      refine ldR w130.new rfl ?_
      simp only [asInt_int]
      rw [wrap64_id' (n := c.n * c.width) (by omega) (by omega), wrap64_id' (n := 8 + c.t * c.slots + c.n + c.n * c.width) (by omega) (by omega)]
      refine stR w130.new rfl trivial fun h137 w137 => ?_
      refine ldR w137.new rfl ?_
      simp only [asInt_int]
      have m7 : 0 ≤ (if c.a = 0 then (2 : Int) ^ c.l.toNat else 0) ∧ (if c.a = 0 then (2 : Int) ^ c.l.toNat else 0) ≤ 64 := by split <;> omega
      rw [wrap64_id' (n := 8 + c.t * c.slots + c.n + c.n * c.width + (if c.a = 0 then (2 : Int) ^ c.l.toNat else 0)) (by omega) (by omega)]
      refine stR w137.new rfl trivial fun h141 w141 => ?_
      have w := (((w118.trans w125).trans w130).trans w137).trans w141
      have r141 : h141[h15.size]? = some (.cells c.plan 148) := by
        rw [w.new]; rfl
      have n141 := (w.old (h.size + 1) (by omega)).trans n83
      iterate 15 (refine ldR r141 rfl ?_)
      refine st15 (stN_full n141 rfl (by simp [oneC]) fun h171 w171 => ?_)
      iterate 15 (refine ldR w171.new rfl ?_)
      exact k1 hr _ (w171.toOld (w.toOld o83 (by omega)) (by omega))
  · -- not within
    have hn : ¬ c.Right := by
      intro r
      obtain ⟨i, hi, hx⟩ := hex
      have : i = 0 ∨ i = 1 ∨ i = 2 ∨ i = 3 ∨ i = 4 ∨ i = 5 ∨ i = 6 := by omega
      rcases this with rfl | rfl | rfl | rfl | rfl | rfl | rfl
      · exact hx r.a
      · exact hx r.t
      · exact hx r.n
      · exact hx r.l
      · exact hx r.b
      · exact hx r.p
      · exact hx r.s
    have s3 := p3.size
    have n15 := (o15.2 _ (by omega)).trans n3
    have ok15 : Old h.size h h15 := (o2.trans (o3.mono (by omega))).trans (o15.mono (by omega))
    simp only [asBool_bool, Bool.not_false, ifB_true]
    refine st15 (nothing h15 zeros15 ok15 n15 rfl hn _ fun h31 o31 n31 => ?_)
    iterate 15 (refine ldR n31 rfl ?_)
    exact k0 hn _ o31
end Go.Proofs.Ytgladmaagpcffaa
