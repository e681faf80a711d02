/- The statement BoundTells' body. -/
import Derived.Test.YtgladmaagpcffaaBb
set_option linter.unusedSimpArgs false
set_option linter.unusedVariables false
set_option maxRecDepth 20000
namespace Go.Proofs.Ytgladmaagpcffaa

theorem wrap_out (a : Int) : ∃ k : Int, IntKind.wrap .i64 a = a + k * 2 ^ 64 := by
  unfold IntKind.wrap IntKind.signed IntKind.bits
  have h := Int.emod_add_mul_ediv a (2 ^ 64)
  simp only []
  split
  · exact ⟨-(a / 2 ^ 64) - 1, by omega⟩
  · exact ⟨-(a / 2 ^ 64), by omega⟩
theorem wrap_add (a k : Int) : IntKind.wrap .i64 (a + k * 2 ^ 64) = IntKind.wrap .i64 a := by
  unfold IntKind.wrap IntKind.signed IntKind.bits
  rw [Int.add_mul_emod_self_right]
theorem wrap_l (a b : Int) : IntKind.wrap .i64 (IntKind.wrap .i64 a * b) = IntKind.wrap .i64 (a * b) := by
  obtain ⟨k, e⟩ := wrap_out a
  rw [e, Int.add_mul, show k * 2 ^ 64 * b = (k * b) * 2 ^ 64 by rw [Int.mul_assoc, Int.mul_assoc, Int.mul_comm (2 ^ 64) b], wrap_add]
theorem wrap_r (a b : Int) : IntKind.wrap .i64 (a * IntKind.wrap .i64 b) = IntKind.wrap .i64 (a * b) := by
  rw [Int.mul_comm, wrap_l, Int.mul_comm]

/-- A number, multiplied by itself. -/
def powW (x : Int) : Nat → Int
  | 0 => 1
  | k + 1 => IntKind.wrap .i64 (powW x k * x)
theorem power_call {K : Value → Heap → Prop} {h : Heap} {x : Int} {n : Nat} (hn : n < 2 ^ 60) (k : K (.int .i64 (powW x n)) h) : CallH Try.prog 35 #[.int .i64 x, .int .i64 n] h K := by
  refine call35 ?_
  unfold F35
  refine ⟨fun vs h' => ∃ i : Nat, vs = [iv (powW x i), iv i] ∧ h' = h ∧ i ≤ n, fun vs _ => (match vs with | [_, .int _ m] => n - m.toNat | _ => 0), ⟨0, rfl, rfl, Nat.zero_le _⟩, ?_⟩
  rintro v2 v3 g h5 ⟨i, e, rfl, hi⟩
  cases e
  simp only [asInt_int]
  refine ifB_dec (fun hlt => ?_) (fun hge => ?_)
  · rw [nat_wrap1 (by omega)]
    refine ⟨⟨i + 1, rfl, by trivial, by omega⟩, ?_⟩
    show n - ((i + 1 : Nat) : Int).toNat < n - (i : Int).toNat
    omega
  · have : i = n := by omega
    subst this
    exact k

theorem right_call {K : Value → Heap → Prop} {h : Heap} (c : Cf) (k1 : c.Right → ∀ h', Old h.size h h' → K (.bool true) h') (k0 : ¬ c.Right → ∀ h', Old h.size h h' → K (.bool false) h') :
    CallH Try.prog 33 #[.agg c.vals] h K := by
  refine call33 ?_
  unfold F33
  have p1 := pushed h c.vals 37
  rw [show h.push (.cells #[.int .i64 c.a, .int .i64 c.t, .int .i64 c.n, .int .i64 c.l, .int .i64 c.b, .int .i64 c.p, .int .i64 c.s] 37) = h.push (.cells c.vals 37) from rfl]
  generalize h.push (.cells c.vals 37) = h1 at *
  have o1 := p1.toOld
  have c1 := p1.new
  refine ⟨fun vs h' => ∃ v1 v2 v3 v4 v5 v6 b, vs = [v1, v2, v3, v4, v5, v6, .bool b] ∧ h' = h1 ∧ (b = true → ¬ c.Right) ∧ (b = false → 0 ≤ c.a ∧ c.a ≤ 2 ∧ 1 ≤ c.t ∧ c.t ≤ 6 ∧ 1 ≤ c.n ∧ c.n ≤ 64 ∧ 1 ≤ c.l ∧ c.l ≤ 6), ?_, ?_⟩
  · refine ldR c1 rfl ?_
    simp only [asInt_int]
    refine ifB_dec (fun q => ⟨_, _, _, _, _, _, _, rfl, by trivial, fun _ r => by have := r.a; omega, fun e => by cases e⟩) fun q1 => ?_
    refine ldR c1 rfl ?_
    simp only [asInt_int]
    refine ifB_dec (fun q => ⟨_, _, _, _, _, _, _, rfl, by trivial, fun _ r => by have := r.a; omega, fun e => by cases e⟩) fun q2 => ?_
    refine ldR c1 rfl ?_
    simp only [asInt_int]
    refine ifB_dec (fun q => ⟨_, _, _, _, _, _, _, rfl, by trivial, fun _ r => by have := r.t; omega, fun e => by cases e⟩) fun q3 => ?_
    refine ldR c1 rfl ?_
    simp only [asInt_int]
    refine ifB_dec (fun q => ⟨_, _, _, _, _, _, _, rfl, by trivial, fun _ r => by have := r.t; omega, fun e => by cases e⟩) fun q4 => ?_
    refine ldR c1 rfl ?_
    simp only [asInt_int]
    refine ifB_dec (fun q => ⟨_, _, _, _, _, _, _, rfl, by trivial, fun _ r => by have := r.n; omega, fun e => by cases e⟩) fun q5 => ?_
    refine ldR c1 rfl ?_
    simp only [asInt_int]
    refine ifB_dec (fun q => ⟨_, _, _, _, _, _, _, rfl, by trivial, fun _ r => by have := r.n; omega, fun e => by cases e⟩) fun q6 => ?_
    refine ldR c1 rfl ?_
    simp only [asInt_int]
    refine ifB_dec (fun q => ⟨_, _, _, _, _, _, _, rfl, by trivial, fun _ r => by have := r.l; omega, fun e => by cases e⟩) fun q7 => ?_
    refine ldR c1 rfl ?_
    simp only [asInt_int]
    refine ⟨_, _, _, _, _, _, _, rfl, by trivial, fun e r => ?_, fun e => ?_⟩
    · have := of_decide_eq_true e; have := r.l; omega
    · have := of_decide_eq_false e; omega
  rintro v17 v18 v19 v20 v21 v22 v23 g24 h25 ⟨_, _, _, _, _, _, b, e, rfl, hb1, hb0⟩
  cases e
  simp only [asBool_bool]
  refine ifB_mk (fun hb => k0 (hb1 hb) _ o1) (fun hb => ?_)
  obtain ⟨a1, a2, t1, t2, n1, n2, l1, l2⟩ := hb0 hb
  refine ⟨fun vs h' => ∃ v1 v2 v3 v4 b, vs = [v1, v2, v3, v4, .bool b] ∧ h' = h25 ∧ (b = true → ¬ c.Right) ∧ (b = false → 1 ≤ c.b ∧ c.b ≤ 16 ∧ 1 ≤ c.p ∧ c.p ≤ 16 ∧ 1 ≤ c.s ∧ c.s ≤ 64), ?_, ?_⟩
  · refine ldR c1 rfl ?_
    simp only [asInt_int]
    refine ifB_dec (fun q => ⟨_, _, _, _, _, rfl, by trivial, fun _ r => by have := r.b; omega, fun e => by cases e⟩) fun q1 => ?_
    refine ldR c1 rfl ?_
    simp only [asInt_int]
    refine ifB_dec (fun q => ⟨_, _, _, _, _, rfl, by trivial, fun _ r => by have := r.b; omega, fun e => by cases e⟩) fun q2 => ?_
    refine ldR c1 rfl ?_
    simp only [asInt_int]
    refine ifB_dec (fun q => ⟨_, _, _, _, _, rfl, by trivial, fun _ r => by have := r.p; omega, fun e => by cases e⟩) fun q3 => ?_
    refine ldR c1 rfl ?_
    simp only [asInt_int]
    refine ifB_dec (fun q => ⟨_, _, _, _, _, rfl, by trivial, fun _ r => by have := r.p; omega, fun e => by cases e⟩) fun q4 => ?_
    refine ldR c1 rfl ?_
    simp only [asInt_int]
    refine ifB_dec (fun q => ⟨_, _, _, _, _, rfl, by trivial, fun _ r => by have := r.s; omega, fun e => by cases e⟩) fun q5 => ?_
    refine ldR c1 rfl ?_
    simp only [asInt_int]
    refine ⟨_, _, _, _, _, rfl, by trivial, fun e r => ?_, fun e => ?_⟩
    · have := of_decide_eq_true e; have := r.s; omega
    · have := of_decide_eq_false e; omega
  rintro v40 v41 v42 v43 v44 g45 h46 ⟨_, _, _, _, b', e, rfl, hb1', hb0'⟩
  cases e
  simp only [asBool_bool]
  refine ifB_mk (fun hb' => k0 (hb1' hb') _ o1) (fun hb' => ?_)
  obtain ⟨b1, b2, p1', p2, s1, s2⟩ := hb0' hb'
  refine ldR c1 rfl ?_
  simp only [asInt_int]
  iterate 7 (refine ldR c1 rfl ?_)
  refine callV_fn ?_
  refine (show CallH Try.prog 87 #[.agg c.vals] h46 _ from call87 ?_)
  unfold F87
  have p2' := pushed h46 c.vals 37
  rw [show h46.push (.cells #[.int .i64 c.a, .int .i64 c.t, .int .i64 c.n, .int .i64 c.l, .int .i64 c.b, .int .i64 c.p, .int .i64 c.s] 37) = h46.push (.cells c.vals 37) from rfl]
  generalize h46.push (.cells c.vals 37) = h2 at *
  have o2 := o1.trans (p2'.toOld.mono o1.1)
  have c2 := (p2'.old h.size (by have := p1.size; omega)).trans c1
  have fin : ∀ z : Int, z = c.sent → (z < c.n ↔ c.Right) := fun z e => ⟨fun hz => ⟨⟨a1, a2⟩, ⟨t1, t2⟩, ⟨n1, n2⟩, ⟨l1, l2⟩, ⟨b1, b2⟩, ⟨p1', p2⟩, ⟨s1, s2⟩, by omega⟩, fun r => by have := r.z; omega⟩
  have fin2 : ∀ z : Int, z = c.sent → K (.bool (decide (c.n > z))) h2 := fun z e => by
    by_cases hz : z < c.n
    · rw [decide_eq_true hz]; exact k1 ((fin z e).1 hz) _ o2
    · rw [decide_eq_false hz]; exact k0 (fun r => hz ((fin z e).2 r)) _ o2
  refine ldR p2'.new rfl ?_
  simp only [asInt_int]
  refine ifB_mk (fun hz => ?_) (fun hz => ?_)
  · exact ⟨cellR c2 rfl, fin2 _ (by unfold Cf.sent; rw [if_pos (by simpa using hz)])⟩
  · exact ⟨cellR c2 rfl, fin2 _ (by unfold Cf.sent; rw [if_neg (by simpa using hz)])⟩

theorem boundTells_body {K : Value → Heap → Prop} {h : Heap} (c : Cf) (k : ∀ h', Old h.size h h' → K (.bool true) h') : F6 K h c.a c.t c.n c.l c.b c.p c.s := by
  unfold F6
  have p1 := pushed h c.vals 37
  rw [show h.push (.cells #[.int .i64 c.a, .int .i64 c.t, .int .i64 c.n, .int .i64 c.l, .int .i64 c.b, .int .i64 c.p, .int .i64 c.s] 37) = h.push (.cells c.vals 37) from rfl]
  generalize h.push (.cells c.vals 37) = h1 at *
  have o1 := p1.toOld
  have s1 := p1.size
  iterate 7 (refine ldR p1.new rfl ?_)
  refine callV_fn (steps_call c (fun hr h8 o8 => ?_) (fun hr h8 o8 => ?_))
  · simp only [asTup_tuple, elem20, elem21, asInt_int]
    have c8 := (o8.2 _ (by omega)).trans p1.new
    have p8 := o1.trans (o8.mono o1.1)
    iterate 7 (refine ldR c8 rfl ?_)
    refine callV_fn (alone_call c (fun _ h23 o23 => ?_) (fun hn => absurd hr hn))
    simp only [asTup_tuple, elem20, elem21, asInt_int]
    have c23 := (o23.2 _ (by have := o8.1; omega)).trans c8
    have p23 := p8.trans (o23.mono p8.1)
    iterate 7 (refine ldR c23 rfl ?_)
    refine callV_fn (right_call c (fun _ h38 o38 => ?_) (fun hn => absurd hr hn))
    have c38 := (o38.2 _ (by have := o8.1; have := o23.1; omega)).trans c23
    have p38 := p23.trans (o38.mono p23.1)
    simp only [asBool_bool, Bool.not_true, ifB_false]
    iterate 4 (refine ldR c38 rfl ?_; simp only [asInt_int])
    refine callV_fn (power_call (n := 3) (by omega) ?_)
    simp only [asInt_int]
    refine ⟨cellR c38 rfl, cellR c38 rfl, cellR c38 rfl, ?_⟩
    refine callV_fn (power_call (n := 2) (by omega) ?_)
    simp only [asInt_int]
    refine ⟨cellR c38 rfl, cellR c38 rfl, ?_⟩
    refine callV_fn (power_call (n := 2) (by omega) ?_)
    simp only [asInt_int]
    refine ⟨cellR c38 rfl, ?_⟩
    refine ifB_mk (fun _ => ?_) (fun hq => ?_)
    · refine ifB_mk (fun _ => ?_) (fun hq => by simp at hq)
      refine ifB_mk (fun _ => ?_) (fun hq => by simp at hq)
      refine ifB_mk (fun _ => ?_) (fun hq => by simp at hq)
      refine callV_fn (lives32_call fun h' o => ?_)
      simp only [asBool_bool]
      exact k _ (p38.trans (o.mono p38.1))
    · exfalso
      simp only [beq_eq_false_iff_ne, ne_eq] at hq
      apply hq
      unfold prodW
      simp only [List.foldl_cons, List.foldl_nil, powW, wrap_l, wrap_r, Int.one_mul]
      congr 1
      ac_rfl
  · simp only [asTup_tuple, elem20, elem21, asInt_int]
    have c8 := (o8.2 _ (by omega)).trans p1.new
    have p8 := o1.trans (o8.mono o1.1)
    iterate 7 (refine ldR c8 rfl ?_)
    refine callV_fn (alone_call c (fun hn => absurd hn hr) (fun _ h23 o23 => ?_))
    simp only [asTup_tuple, elem20, elem21, asInt_int]
    have c23 := (o23.2 _ (by have := o8.1; omega)).trans c8
    have p23 := p8.trans (o23.mono p8.1)
    iterate 7 (refine ldR c23 rfl ?_)
    refine callV_fn (right_call c (fun hn => absurd hn hr) (fun _ h38 o38 => ?_))
    have p38 := p23.trans (o38.mono p23.1)
    simp only [asBool_bool, Bool.not_false, ifB_true]
    refine ifB_mk (fun _ => ?_) (fun hq => by simp at hq)
    refine ifB_mk (fun _ => ?_) (fun hq => by simp at hq)
    refine ifB_mk (fun _ => ?_) (fun hq => by simp at hq)
    refine ifB_mk (fun _ => ?_) (fun hq => by simp at hq)
    refine callV_fn (lives32_call fun h' o => ?_)
    simp only [asBool_bool]
    exact k _ (p38.trans (o.mono p38.1))
end Go.Proofs.Ytgladmaagpcffaa
