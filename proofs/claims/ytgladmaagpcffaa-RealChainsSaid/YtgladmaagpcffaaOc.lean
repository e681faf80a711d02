/- The statement RealOrders' body. -/
import Derived.Test.YtgladmaagpcffaaOb
set_option linter.unusedSimpArgs false
set_option linter.unusedVariables false
set_option maxRecDepth 20000
namespace Go.Proofs.Ytgladmaagpcffaa

/-- An operation's cells from an address on. -/
def OpAt9 (h : Heap) (ad : Addr) (o : Op9) : Prop := cellAt h ad = some (.int .i64 o.th) ∧ ∀ j v, o.cells[j]? = some v → cellAt h (ad.add j) = some v
theorem SlO.op {h : Heap} {a : Option Addr} {l c : Nat} {ops : List Op9} (H : SlO h a l c ops) {i : Nat} (hi : i < ops.length) : ∃ ad, a = some ad ∧ OpAt9 h (ad.add (i * 9)) ops[i] := H.at hi
theorem ld9 {h : Heap} {ad : Addr} {o : Op9} {K : Value → Value → Value → Value → Value → Value → Value → Value → Value → Prop} (H : OpAt9 h ad o)
    (k : K (.int .i64 o.th) (.int .i64 o.op) (.int .u32 o.key) (.int .u32 o.val) (.int .i64 o.kind) (.int .u32 o.ak) (.int .u32 o.av) (.int .i64 o.fr) (.int .i64 o.to)) :
    ldH h ad fun v0 => ldH h (ad.add 1) fun v1 => ldH h (ad.add 2) fun v2 => ldH h (ad.add 3) fun v3 => ldH h (ad.add 4) fun v4 => ldH h (ad.add 5) fun v5 => ldH h (ad.add 6) fun v6 => ldH h (ad.add 7) fun v7 => ldH h (ad.add 8) fun v8 => K v0 v1 v2 v3 v4 v5 v6 v7 v8 :=
  ldH_mk H.1 (ldH_mk (H.2 1 _ rfl) (ldH_mk (H.2 2 _ rfl) (ldH_mk (H.2 3 _ rfl) (ldH_mk (H.2 4 _ rfl) (ldH_mk (H.2 5 _ rfl) (ldH_mk (H.2 6 _ rfl) (ldH_mk (H.2 7 _ rfl) (ldH_mk (H.2 8 _ rfl) k))))))))
theorem eq9 {h : Heap} {ad : Addr} {o : Op9} {X : Prop} (H : OpAt9 h ad o) (x : X) :
    cellAt h ad = some (.int .i64 o.th) ∧ cellAt h (ad.add 1) = some (.int .i64 o.op) ∧ cellAt h (ad.add 2) = some (.int .u32 o.key) ∧ cellAt h (ad.add 3) = some (.int .u32 o.val) ∧ cellAt h (ad.add 4) = some (.int .i64 o.kind) ∧
    cellAt h (ad.add 5) = some (.int .u32 o.ak) ∧ cellAt h (ad.add 6) = some (.int .u32 o.av) ∧ cellAt h (ad.add 7) = some (.int .i64 o.fr) ∧ cellAt h (ad.add 8) = some (.int .i64 o.to) ∧ X :=
  ⟨H.1, H.2 1 _ rfl, H.2 2 _ rfl, H.2 3 _ rfl, H.2 4 _ rfl, H.2 5 _ rfl, H.2 6 _ rfl, H.2 7 _ rfl, H.2 8 _ rfl, x⟩

theorem lives14_call {K : Value → Heap → Prop} {h : Heap} (k : ∀ h', Old h.size h h' → K (.bool true) h') : CallH Try.prog 44 #[] h K := by
  refine call44 ?_
  unfold F44
  obtain ⟨ops, hops⟩ : ∃ ops : List Op9, ops = [⟨0, 0, 0, 0, 0, 0, 0, 0, 1⟩, ⟨0, 0, 0, 0, 0, 0, 0, 2, -1⟩] := ⟨_, rfl⟩
  have p1 := pushed h #[.int .i64 0, .int .i64 0, .int .u32 0, .int .u32 0, .int .i64 0, .int .u32 0, .int .u32 0, .int .i64 0, .int .i64 1, .int .i64 0, .int .i64 0, .int .u32 0, .int .u32 0, .int .i64 0, .int .u32 0, .int .u32 0, .int .i64 2, .int .i64 (-1)] 61
  generalize h.push (.cells #[.int .i64 0, .int .i64 0, .int .u32 0, .int .u32 0, .int .i64 0, .int .u32 0, .int .u32 0, .int .i64 0, .int .i64 1, .int .i64 0, .int .i64 0, .int .u32 0, .int .u32 0, .int .i64 0, .int .u32 0, .int .u32 0, .int .i64 2, .int .i64 (-1)] 61) = h1 at *
  have p2 := pushed h1 #[.int .i64 0] 3
  generalize h1.push (.cells #[.int .i64 0] 3) = h2 at *
  have s1 := p1.size
  have o2 : Old h.size h h2 := p1.toOld.trans (p2.toOld.mono (by omega))
  have n2 := (p2.old h.size (by omega)).trans p1.new
  have H2 : SlO h2 (some ⟨h.size, 0, none⟩) 2 2 ops := by
    refine ⟨?_, by rw [hops]; rfl, Nat.le_refl _⟩
    intro i v hi
    refine ⟨_, rfl, ?_⟩
    rw [add_lit, cellAt_of n2, Nat.zero_add, ← Array.getElem?_toList]
    rw [hops] at hi
    exact hi
  have R2 : RI h2 (some ⟨h1.size, 0, none⟩) 1 1 [0] := by
    refine ⟨?_, rfl, Nat.le_refl _⟩
    intro i v hi
    refine ⟨_, rfl, ?_⟩
    rw [add_lit, cellAt_of p2.new, Nat.zero_add, ← Array.getElem?_toList]
    exact hi
  refine callV_fn (may_call H2 (by omega) R2 (by omega) (fun _ h3 o3 => ?_) (fun hn => absurd ?_ hn))
  · simp only [asBool_bool, ifB_true]
    have p3 := pushed h3 #[.int .i64 1, .int .i64 0] 3
    generalize h3.push (.cells #[.int .i64 1, .int .i64 0] 3) = h4 at *
    have ok3 := o2.trans (o3.mono o2.1)
    have R4 : RI h4 (some ⟨h3.size, 0, none⟩) 2 2 [1, 0] := by
      refine ⟨?_, rfl, Nat.le_refl _⟩
      intro i v hi
      refine ⟨_, rfl, ?_⟩
      rw [add_lit, cellAt_of p3.new, Nat.zero_add, ← Array.getElem?_toList]
      exact hi
    refine callV_fn (may_call ((H2.old o3).old p3.toOld) (by omega) R4 (by omega) (fun m => ?_) (fun _ h5 o5 => ?_))
    · have := m.ord 0 1 (by simp) (by simp) (by omega)
      rw [hops] at this
      exact absurd this (by decide)
    · simp only [asBool_bool, Bool.not_false]
      have ok4 := ok3.trans (p3.toOld.mono ok3.1)
      exact k _ (ok4.trans (o5.mono ok4.1))
  · subst hops
    refine ⟨?_, ?_, ?_, ?_⟩
    · intro i hi
      obtain rfl : i = 0 := by simp at hi; omega
      exact ⟨by simp, by simp⟩
    · intro i hi
      obtain rfl : i = 0 := by simp at hi; omega
      simp
    · intro i j hi hj hij
      simp at hi hj; omega
    · intro m hm h0
      have : m = 0 ∨ m = 1 := by simp at hm; omega
      rcases this with rfl | rfl
      · decide
      · exact absurd h0 (by simp)

theorem realOrders_body {K : Value → Heap → Prop} {h : Heap} {a a2 : Option Addr} {l c l2 c2 : Nat} {ops : List Op9} {order : List Int} (H : SlO h a l c ops) (H2 : RI h a2 l2 c2 order)
    (k : ∀ h', Old h.size h h' → K (.bool true) h') : F10 K h a l c a2 l2 c2 := by
  unfold F10
  have hlen := H.len
  refine ⟨fun vs h' => vs = [.bool (decide (60 < l ∨ 60 < l2))] ∧ h' = h, ?_, ?_⟩
  · refine ifB_dec (fun hq => ⟨?_, rfl⟩) (fun hq => ⟨?_, rfl⟩)
    · rw [decide_eq_true (p := 60 < l ∨ 60 < l2) (by omega)]
    · congr 2; rw [decide_eq_decide]; omega
  rintro v1 g2 h3 ⟨e, rfl⟩
  cases e
  simp only [asBool_bool]
  refine ifB_dec (fun hq => ?_) (fun hq => ?_)
  · refine callV_fn (lives14_call fun h' o => ?_)
    simp only [asBool_bool]
    exact k _ o
  refine ⟨fun vs h' => ∃ i : Nat, vs = [.bool false, iv i] ∧ Old h3.size h3 h' ∧ i ≤ l, fun vs _ => (match vs with | [_, .int _ n] => l - n.toNat | _ => 0), ⟨0, rfl, Old.refl _ _, Nat.zero_le _⟩, ?_⟩
  rintro v10 v11 g12 h13 ⟨i, e, o13, hi⟩
  cases e
  simp only [asInt_int]
  refine ifB_dec (fun hlt => ?_) (fun hge => ?_)
  · have hi' : i < ops.length := by omega
    have h0' : 0 < ops.length := by omega
    have H13 := H.old o13
    obtain ⟨ad, rfl, qi⟩ := H13.op hi'
    have zero : ∀ h', Old h13.size h13 h' → OpAt9 h' ad ops[0] := fun h' o => by
      obtain ⟨ad', e, q⟩ := (H13.old o).op h0'
      cases e; exact q
    have item : ∀ h', Old h13.size h13 h' → OpAt9 h' (ad.add (i * 9)) ops[i] := fun h' o => by
      obtain ⟨ad', e, q⟩ := (H13.old o).op hi'
      cases e; exact q
    have r := Old.refl h13.size h13
    refine ⟨fun vs h' => vs = [.bool false] ∧ Old h3.size h3 h', ?_, ?_⟩
    · refine ⟨by omega, hlt, ?_⟩
      simp only [asPtr_some, Int.toNat_natCast]
      refine ld9 (item _ r) ?_
      refine ⟨by omega, by omega, ld9 (zero _ r) ?_⟩
      refine ⟨by omega, hlt, ld9 (item _ r) ?_⟩
      refine ⟨by omega, by omega, ld9 (zero _ r) ?_⟩
      refine callV_fn (ahead_call ops[i] ops[0] fun h59 o59 => ?_)
      simp only [asBool_bool]
      refine eq9 (zero _ o59) (eq9 (item _ o59) ?_)
      refine callV_fn (ahead14_call ops[i] ops[0] fun h62 o62 => ?_)
      have p62 := o59.trans (o62.mono o59.1)
      simp only [asBool_bool, beq_self_eq_true, Bool.not_true, ifB_false]
      refine ⟨by omega, by omega, ld9 (zero _ p62) ?_⟩
      refine ⟨by omega, hlt, ld9 (item _ p62) ?_⟩
      refine ⟨by omega, by omega, ld9 (zero _ p62) ?_⟩
      refine ⟨by omega, hlt, ld9 (item _ p62) ?_⟩
      refine callV_fn (ahead_call ops[0] ops[i] fun h107 o107 => ?_)
      have p107 := p62.trans (o107.mono p62.1)
      simp only [asBool_bool]
      refine eq9 (item _ p107) (eq9 (zero _ p107) ?_)
      refine callV_fn (ahead14_call ops[0] ops[i] fun h110 o110 => ?_)
      have p110 := p107.trans (o110.mono p107.1)
      simp only [asBool_bool, beq_self_eq_true, Bool.not_true]
      exact ⟨by trivial, o13.trans (p110.mono o13.1)⟩
    · rintro v112 g113 h114 ⟨e, o114⟩
      cases e
      simp only [asBool_bool, ifB_false]
      rw [nat_wrap1 (by omega)]
      refine ⟨⟨i + 1, rfl, o114, by omega⟩, ?_⟩
      show l - ((i + 1 : Nat) : Int).toNat < l - (i : Int).toNat
      omega
  · have fin : ∀ (b : Bool) (h' : Heap), Old h3.size h3 h' → ifB (b == b) (callV Try.prog (.func (.func 44) #[] #[]) #[] h' (fun v123 h124 => (asBool v123 (fun b125 => (K (.bool b125) h124))))) (K (.bool false) h') := by
      intro b h' o'
      simp only [beq_self_eq_true, ifB_true]
      refine callV_fn (lives14_call fun h'' o => ?_)
      simp only [asBool_bool]
      exact k _ (o'.trans (o.mono o'.1))
    refine callV_fn (may_call (H.old o13) (by omega) (H2.old o13) (by omega) (fun m h118 o118 => ?_) (fun m h118 o118 => ?_))
    · have p118 := o13.trans (o118.mono o13.1)
      simp only [asBool_bool]
      refine callV_fn (may14_call (H.old p118) (by omega) (H2.old p118) (by omega) (fun _ h121 o121 => ?_) (fun hn => absurd m hn))
      simp only [asBool_bool]
      exact fin true _ (p118.trans (o121.mono p118.1))
    · have p118 := o13.trans (o118.mono o13.1)
      simp only [asBool_bool]
      refine callV_fn (may14_call (H.old p118) (by omega) (H2.old p118) (by omega) (fun hn => absurd hn m) (fun _ h121 o121 => ?_))
      simp only [asBool_bool]
      exact fin false _ (p118.trans (o121.mono p118.1))
end Go.Proofs.Ytgladmaagpcffaa
