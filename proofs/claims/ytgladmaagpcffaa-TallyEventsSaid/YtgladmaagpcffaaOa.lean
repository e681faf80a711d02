/- Operations, and which is ahead of which. -/
import Derived.Test.YtgladmaagpcffaaMa
import Derived.Test.YtgladmaagpcffaaSj
import Derived.Test.YtgladmaagpcffaaFg
set_option linter.unusedSimpArgs false
set_option linter.unusedVariables false
set_option maxRecDepth 20000
namespace Go.Proofs.Ytgladmaagpcffaa

theorem pairB {v : Value} {b b' : Bool} (h : b = b') : [v, Value.bool b] = [v, .bool b'] := by rw [h]
structure Op9 where
  th : Int
  op : Int
  key : Int
  val : Int
  kind : Int
  ak : Int
  av : Int
  fr : Int
  to : Int
abbrev Op9.cells (o : Op9) : List Value := [.int .i64 o.th, .int .i64 o.op, .int .u32 o.key, .int .u32 o.val, .int .i64 o.kind, .int .u32 o.ak, .int .u32 o.av, .int .i64 o.fr, .int .i64 o.to]
theorem flat9 {ops : List Op9} : ∀ {i : Nat} (hi : i < ops.length) {j : Nat} {v : Value}, (ops[i]).cells[j]? = some v → (ops.flatMap Op9.cells)[i * 9 + j]? = some v := by
  induction ops with
  | nil => intro i hi; simp at hi
  | cons o ops ih =>
    intro i hi j v hv
    have hj : ∀ o : Op9, o.cells.length = 9 := fun _ => rfl
    rw [List.flatMap_cons]
    cases i with
    | zero =>
      have hlt : j < o.cells.length := (List.getElem?_eq_some_iff.1 hv).1
      rw [List.getElem?_append_left (by omega)]
      simpa using hv
    | succ i =>
      rw [List.getElem?_append_right (by rw [hj]; omega), hj]
      have := ih (i := i) (by simpa using hi) (j := j) (v := v) (by simpa using hv)
      rw [show (i + 1) * 9 + j - 9 = i * 9 + j by omega]
      exact this
/-- A slice of operations, to be read. -/
structure SlO (h : Heap) (a : Option Addr) (l c : Nat) (ops : List Op9) : Prop where
  s : Sees h a (ops.flatMap Op9.cells)
  len : ops.length = l
  cap : l ≤ c
theorem SlO.old {h h' : Heap} {a : Option Addr} {l c : Nat} {ops : List Op9} (H : SlO h a l c ops) (ho : Old h.size h h') : SlO h' a l c ops := ⟨H.s.old ho, H.len, H.cap⟩
theorem SlO.at {h : Heap} {a : Option Addr} {l c : Nat} {ops : List Op9} (H : SlO h a l c ops) {i : Nat} (hi : i < ops.length) :
    ∃ ad, a = some ad ∧ cellAt h (ad.add (i * 9)) = some (.int .i64 (ops[i]).th) ∧ ∀ j v, (ops[i]).cells[j]? = some v → cellAt h ((ad.add (i * 9)).add j) = some v := by
  obtain ⟨ad, e, hc⟩ := H.s (i * 9 + 0) _ (flat9 hi (j := 0) rfl)
  refine ⟨ad, e, hc, fun j v hv => ?_⟩
  obtain ⟨ad', e', hc'⟩ := H.s (i * 9 + j) v (flat9 hi hv)
  rw [e] at e'; cases e'
  rw [add_add]; exact hc'

def ahead (a b : Op9) : Bool := decide (0 ≤ a.to) && decide (a.to < b.fr)
theorem ahead_call {K : Value → Heap → Prop} {h : Heap} (a b : Op9) (k : ∀ h', Old h.size h h' → K (.bool (ahead a b)) h') : CallH Try.prog 45 #[.agg a.cells.toArray, .agg b.cells.toArray] h K := by
  refine call45 ?_
  unfold F45
  have p1 := pushed h a.cells.toArray 61
  rw [show h.push (.cells #[.int .i64 a.th, .int .i64 a.op, .int .u32 a.key, .int .u32 a.val, .int .i64 a.kind, .int .u32 a.ak, .int .u32 a.av, .int .i64 a.fr, .int .i64 a.to] 61) = h.push (.cells a.cells.toArray 61) from rfl]
  generalize h.push (.cells a.cells.toArray 61) = h1 at *
  have p2 := pushed h1 b.cells.toArray 61
  rw [show h1.push (.cells #[.int .i64 b.th, .int .i64 b.op, .int .u32 b.key, .int .u32 b.val, .int .i64 b.kind, .int .u32 b.ak, .int .u32 b.av, .int .i64 b.fr, .int .i64 b.to] 61) = h1.push (.cells b.cells.toArray 61) from rfl]
  generalize h1.push (.cells b.cells.toArray 61) = h2 at *
  have s1 := p1.size
  have c2 := (p2.old h.size (by omega)).trans p1.new
  have o2 := k h2 (p1.toOld.trans (p2.toOld.mono (by omega)))
  unfold ahead at o2
  refine ldR c2 rfl ?_
  simp only [asInt_int]
  refine ifB_dec (fun hq => ?_) (fun hq => ?_)
  · rw [decide_eq_true (p := 0 ≤ a.to) (by omega), Bool.true_and] at o2
    refine ldR c2 rfl ?_
    simp only [asInt_int]
    refine ldR p2.new rfl ?_
    simp only [asInt_int]
    exact o2
  · rwa [decide_eq_false (p := 0 ≤ a.to) (by omega), Bool.false_and] at o2
theorem ahead14_call {K : Value → Heap → Prop} {h : Heap} (a b : Op9) (k : ∀ h', Old h.size h h' → K (.bool (ahead a b)) h') : CallH Try.prog 46 #[.agg a.cells.toArray, .agg b.cells.toArray] h K := by
  refine call46 ?_
  unfold F46
  have p1 := pushed h a.cells.toArray 61
  rw [show h.push (.cells #[.int .i64 a.th, .int .i64 a.op, .int .u32 a.key, .int .u32 a.val, .int .i64 a.kind, .int .u32 a.ak, .int .u32 a.av, .int .i64 a.fr, .int .i64 a.to] 61) = h.push (.cells a.cells.toArray 61) from rfl]
  generalize h.push (.cells a.cells.toArray 61) = h1 at *
  have p2 := pushed h1 b.cells.toArray 61
  rw [show h1.push (.cells #[.int .i64 b.th, .int .i64 b.op, .int .u32 b.key, .int .u32 b.val, .int .i64 b.kind, .int .u32 b.ak, .int .u32 b.av, .int .i64 b.fr, .int .i64 b.to] 61) = h1.push (.cells b.cells.toArray 61) from rfl]
  generalize h1.push (.cells b.cells.toArray 61) = h2 at *
  have s1 := p1.size
  have c2 := (p2.old h.size (by omega)).trans p1.new
  have o2 := k h2 (p1.toOld.trans (p2.toOld.mono (by omega)))
  unfold ahead at o2
  refine ldR c2 rfl ?_
  simp only [asInt_int]
  refine ifB_dec (fun hq => ?_) (fun hq => ?_)
  · rwa [decide_eq_false (p := 0 ≤ a.to) (by omega), Bool.false_and] at o2
  · rw [decide_eq_true (p := 0 ≤ a.to) (by omega), Bool.true_and] at o2
    refine ldR c2 rfl ?_
    simp only [asInt_int]
    refine ldR p2.new rfl ?_
    simp only [asInt_int]
    exact o2

theorem times14_call {K : Value → Heap → Prop} {h : Heap} {a : Option Addr} {l c : Nat} {xs : List Int} {x : Int} (H : RI h a l c xs) (hl : l < 2 ^ 60) (k : K (iv ((xs.count x : Nat) : Int)) h) :
    CallH Try.prog 92 #[.slice a l c, iv x] h K := by
  refine call92 ?_
  unfold F92
  have hlen := H.len
  refine ⟨fun vs h' => ∃ i : Nat, vs = [iv (((xs.take i).count x : Nat) : Int), iv i] ∧ h' = h ∧ i ≤ l, fun vs _ => (match vs with | [_, .int _ n] => l - n.toNat | _ => 0), ⟨0, rfl, rfl, Nat.zero_le _⟩, ?_⟩
  rintro v2 v3 g h5 ⟨i, e, rfl, hi⟩
  cases e
  simp only [asInt_int]
  refine ifB_dec (fun hlt => ?_) (fun hge => ?_)
  · have hlt' : i < xs.length := by omega
    have hcl := (xs.take i).count_le_length (a := x)
    simp only [List.length_take] at hcl
    refine ⟨fun vs h' => vs = [iv (((xs.take (i + 1)).count x : Nat) : Int)] ∧ h' = h5, ?_, ?_⟩
    · obtain ⟨ad, rfl, hc⟩ := H.at hlt'
      refine ⟨by omega, hlt, ?_⟩
      simp only [asPtr_some, Int.toNat_natCast, Nat.mul_one]
      refine ldH_mk hc ?_
      simp only [asInt_int]
      refine ifB_mk (fun hq => ⟨?_, by trivial⟩) (fun hq => ⟨?_, by trivial⟩)
      · rw [count_take_succ hlt', if_pos (by simpa using hq), nat_wrap1 (by omega)]
      · rw [count_take_succ hlt', if_neg (by simpa using hq)]; rfl
    · rintro v13 g14 h15 ⟨e, rfl⟩
      cases e
      rw [nat_wrap1 (by omega)]
      refine ⟨⟨i + 1, rfl, rfl, by omega⟩, ?_⟩
      show l - ((i + 1 : Nat) : Int).toNat < l - (i : Int).toNat
      omega
  · have hi' : xs.length ≤ i := by omega
    rw [List.take_of_length_le hi']
    exact k

/-! ### may an order be? -/
def opAt (ops : List Op9) (x : Int) : Op9 := ops.getD x.toNat ⟨0, 0, 0, 0, 0, 0, 0, 0, 0⟩
theorem opAt_nat {ops : List Op9} {i : Nat} (hi : i < ops.length) : opAt ops (i : Int) = ops[i] := by simp [opAt, hi]
structure MayOk (ops : List Op9) (order : List Int) : Prop where
  rng : ∀ i (h : i < order.length), 0 ≤ order[i] ∧ order[i] < ops.length
  once : ∀ i (h : i < order.length), order.count order[i] ≤ 1
  ord : ∀ i j (hi : i < order.length) (hj : j < order.length), i < j → ahead (opAt ops order[j]) (opAt ops order[i]) = false
  all : ∀ k (h : k < ops.length), 0 ≤ (ops[k]).to → order.count (k : Int) ≠ 0

theorem SlO.int {h : Heap} {a : Option Addr} {l c : Nat} {ops : List Op9} (H : SlO h a l c ops) {x : Int} (h0 : 0 ≤ x) (h1 : x < ops.length) :
    ∃ ad, a = some ad ∧ cellAt h (ad.add (x.toNat * 9)) = some (.int .i64 (opAt ops x).th) ∧ ∀ j v, (opAt ops x).cells[j]? = some v → cellAt h ((ad.add (x.toNat * 9)).add j) = some v := by
  have hi : x.toNat < ops.length := by omega
  obtain ⟨ad, e, h1, h2⟩ := H.at hi
  have : opAt ops x = ops[x.toNat] := by simp [opAt, hi]
  rw [this]
  exact ⟨ad, e, h1, h2⟩

theorem may14_call {K : Value → Heap → Prop} {h : Heap} {a a2 : Option Addr} {l c l2 c2 : Nat} {ops : List Op9} {order : List Int} (H : SlO h a l c ops) (hl : l ≤ 1000) (H2 : RI h a2 l2 c2 order) (hl2 : l2 ≤ 1000)
    (k1 : MayOk ops order → ∀ h', Old h.size h h' → K (.bool true) h') (k0 : ¬ MayOk ops order → ∀ h', Old h.size h h' → K (.bool false) h') : CallH Try.prog 48 #[.slice a l c, .slice a2 l2 c2] h K := by
  refine call48 ?_
  unfold F48
  have hlen := H.len
  have hlen2 := H2.len
  refine ⟨fun vs h' => ∃ i : Nat, vs = [.bool false, iv i] ∧ h' = h ∧ i ≤ l2 ∧ (∀ j (hj : j < order.length), j < i → (0 ≤ order[j] ∧ order[j] < ops.length) ∧ order.count order[j] ≤ 1), fun vs _ => (match vs with | [_, .int _ n] => l2 - n.toNat | _ => 0),
    ⟨0, rfl, rfl, Nat.zero_le _, fun j _ hj => by omega⟩, ?_⟩
  rintro v2 v3 g h5 ⟨i, e, rfl, hi, hall⟩
  cases e
  simp only [asInt_int]
  refine ifB_dec (fun hlt => ?_) (fun hge => ?_)
  · have hlt' : i < order.length := by omega
    obtain ⟨ad, rfl, hc⟩ := H2.at hlt'
    refine ⟨fun vs h' => ∃ v, vs = [v, .bool (decide (¬ ((0 ≤ order[i] ∧ order[i] < ops.length) ∧ order.count order[i] ≤ 1)))] ∧ h' = h5, ?_, ?_⟩
    · refine ⟨by omega, hlt, ?_⟩
      simp only [asPtr_some, Int.toNat_natCast, Nat.mul_one]
      refine ldH_mk hc ?_
      simp only [asInt_int]
      refine ifB_dec (fun hq => ⟨_, pairB (decide_eq_true (by omega)).symm, by trivial⟩) (fun hq => ?_)
      refine ⟨by omega, hlt, ldH_mk hc ?_⟩
      simp only [asInt_int]
      refine ifB_dec (fun hq2 => ⟨_, pairB (decide_eq_true (by omega)).symm, by trivial⟩) (fun hq2 => ?_)
      refine ⟨by omega, hlt, ldH_mk hc ?_⟩
      simp only [asInt_int]
      refine callV_fn (times14_call H2 (by omega) ?_)
      simp only [asInt_int]
      exact ⟨_, pairB (decide_eq_decide.2 (by omega)), by trivial⟩
    · rintro v23 v24 g25 h26 ⟨v, e, rfl⟩
      cases e
      simp only [asBool_bool]
      refine ifB_dec (fun hq => ?_) (fun hq => ?_)
      · exact k0 (fun m => hq ⟨m.rng i hlt', m.once i hlt'⟩) _ (Old.refl _ _)
      · rw [nat_wrap1 (by omega)]
        refine ⟨⟨i + 1, rfl, by trivial, by omega, fun j hj hji => ?_⟩, ?_⟩
        · by_cases e : j < i
          · exact hall j hj e
          · obtain rfl : j = i := by omega
            exact Decidable.of_not_not hq
        · show l2 - ((i + 1 : Nat) : Int).toNat < l2 - (i : Int).toNat
          omega
  · have hrng : ∀ j (hj : j < order.length), 0 ≤ order[j] ∧ order[j] < ops.length := fun j hj => (hall j hj (by omega)).1
    have honce : ∀ j (hj : j < order.length), order.count order[j] ≤ 1 := fun j hj => (hall j hj (by omega)).2
    refine ⟨fun vs h' => ∃ v, ∃ i : Nat, vs = [.bool false, iv i, v] ∧ Old h5.size h5 h' ∧ i ≤ l2 ∧ (∀ i' j (hi' : i' < order.length) (hj : j < order.length), i' < i → i' < j → ahead (opAt ops order[j]) (opAt ops order[i']) = false),
      fun vs _ => (match vs with | [_, .int _ n, _] => l2 - n.toNat | _ => 0), ⟨_, 0, rfl, Old.refl _ _, Nat.zero_le _, fun i' j _ _ h => by omega⟩, ?_⟩
    rintro v31 v32 v33 g34 h35 ⟨v, i', e, o35, hi', hord⟩
    cases e
    simp only [asInt_int]
    refine ifB_dec (fun hlt => ?_) (fun hge2 => ?_)
    · have hlt' : i' < order.length := by omega
      rw [nat_wrap1 (by omega)]
      refine ⟨fun vs h' => ∃ j : Nat, vs = [.bool false, iv j] ∧ Old h5.size h5 h' ∧ i' < j ∧ j ≤ l2 ∧ (∀ j' (hj : j' < order.length), j' < j → i' < j' → ahead (opAt ops order[j']) (opAt ops order[i']) = false),
        fun vs _ => (match vs with | [_, .int _ n] => l2 - n.toNat | _ => 0), ⟨i' + 1, rfl, o35, by omega, by omega, fun j' _ h1 h2 => by omega⟩, ?_⟩
      rintro v40 v41 g42 h43 ⟨j, e, o43, hij, hj, hin⟩
      cases e
      simp only [asInt_int]
      refine ifB_dec (fun hlt2 => ?_) (fun hge3 => ?_)
      · have hj' : j < order.length := by omega
        have r43 := H.old o43
        have q43 := H2.old o43
        obtain ⟨ad, rfl, hc⟩ := q43.at hj'
        obtain ⟨ad', e', hc'⟩ := q43.at hlt'
        cases e'
        obtain ⟨g1, g2⟩ := hrng j hj'
        obtain ⟨g3, g4⟩ := hrng i' hlt'
        obtain ⟨bd, rfl, b0, b1⟩ := r43.int g1 g2
        obtain ⟨bd', e', d0, d1⟩ := r43.int g3 g4
        cases e'
        refine ⟨by omega, hlt2, ?_⟩
        simp only [asPtr_some, Int.toNat_natCast, Nat.mul_one]
        refine ldH_mk hc ?_
        simp only [asInt_int]
        refine ⟨by omega, by omega, ldH_mk b0 ?_⟩
        iterate 8 (refine ldH_mk (b1 _ _ rfl) ?_)
        refine ⟨by omega, by omega, ldH_mk hc' ?_⟩
        simp only [asInt_int]
        refine ⟨by omega, by omega, ldH_mk d0 ?_⟩
        iterate 8 (refine ldH_mk (d1 _ _ rfl) ?_)
        refine callV_fn (ahead14_call (opAt ops order[j]) (opAt ops order[i']) fun h74 o74 => ?_)
        have p74 := o43.trans (o74.mono o43.1)
        simp only [asBool_bool]
        refine ifB_mk (fun hq => ?_) (fun hq => ?_)
        · exact k0 (fun m => by rw [m.ord i' j hlt' hj' hij] at hq; cases hq) _ p74
        · rw [nat_wrap1 (by omega)]
          refine ⟨⟨j + 1, rfl, p74, by omega, by omega, fun j' hj'' h1 h2 => ?_⟩, ?_⟩
          · by_cases e : j' < j
            · exact hin j' hj'' e h2
            · obtain rfl : j' = j := by omega
              exact hq
          · show l2 - ((j + 1 : Nat) : Int).toNat < l2 - (j : Int).toNat
            omega
      · refine ⟨⟨_, i' + 1, rfl, o43, by omega, fun i2 j' hi2 hj' h1 h2 => ?_⟩, ?_⟩
        · by_cases e : i2 < i'
          · exact hord i2 j' hi2 hj' e h2
          · obtain rfl : i2 = i' := by omega
            exact hin j' hj' (by omega) h2
        · show l2 - ((i' + 1 : Nat) : Int).toNat < l2 - (i' : Int).toNat
          omega
    · have hord' : ∀ i j (hi : i < order.length) (hj : j < order.length), i < j → ahead (opAt ops order[j]) (opAt ops order[i]) = false := fun i j hi hj hij => hord i j hi hj (by omega) hij
      refine ⟨fun vs h' => ∃ i : Nat, vs = [.bool false, iv i] ∧ Old h5.size h5 h' ∧ i ≤ l ∧ (∀ k (hk : k < ops.length), k < i → 0 ≤ (ops[k]).to → order.count (k : Int) ≠ 0), fun vs _ => (match vs with | [_, .int _ n] => l - n.toNat | _ => 0),
        ⟨0, rfl, o35, Nat.zero_le _, fun k _ h => by omega⟩, ?_⟩
      rintro v80 v81 g82 h83 ⟨m, e, o83, hm, hal⟩
      cases e
      simp only [asInt_int]
      refine ifB_dec (fun hlt => ?_) (fun hge3 => ?_)
      · have hm' : m < ops.length := by omega
        obtain ⟨bd, rfl, b0, b1⟩ := (H.old o83).at hm'
        refine ⟨fun vs h' => vs = [.bool (decide (¬ (0 ≤ (ops[m]).to → order.count (m : Int) ≠ 0)))] ∧ h' = h83, ?_, ?_⟩
        · refine ⟨by omega, hlt, ?_⟩
          simp only [asPtr_some, Int.toNat_natCast]
          refine ldH_mk (b1 8 _ rfl) ?_
          simp only [asInt_int]
          refine ifB_dec (fun hq => ?_) (fun hq => ⟨?_, by trivial⟩)
          · refine callV_fn (times14_call (H2.old o83) (by omega) ?_)
            simp only [asInt_int]
            refine ⟨?_, by trivial⟩
            congr 2
            by_cases hz : order.count (m : Int) = 0
            · rw [hz, decide_eq_true (p := ¬ _) (fun f => f (by omega) rfl)]; rfl
            · rw [decide_eq_false (p := ¬ _) (fun f => f fun _ => hz)]
              simp only [beq_eq_false_iff_ne, ne_eq]; omega
          · rw [decide_eq_false (p := ¬ _) (fun f => f fun h => absurd h (by omega))]
        · rintro v94 g95 h96 ⟨e, rfl⟩
          cases e
          simp only [asBool_bool]
          refine ifB_dec (fun hq => ?_) (fun hq => ?_)
          · exact k0 (fun q => hq (q.all m hm')) _ o83
          · rw [nat_wrap1 (by omega)]
            refine ⟨⟨m + 1, rfl, o83, by omega, fun k hk h1 => ?_⟩, ?_⟩
            · by_cases e : k < m
              · exact hal k hk e
              · obtain rfl : k = m := by omega
                exact Decidable.of_not_not hq
            · show l - ((m + 1 : Nat) : Int).toNat < l - (m : Int).toNat
              omega
      · exact k1 ⟨hrng, honce, hord', fun k hk => hal k hk (by omega)⟩ _ o83
end Go.Proofs.Ytgladmaagpcffaa
