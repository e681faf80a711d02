/- The bounds. -/
import Derived.Test.YtgladmaagpcffaaBa
set_option linter.unusedSimpArgs false
set_option linter.unusedVariables false
set_option maxRecDepth 20000
namespace Go.Proofs.Ytgladmaagpcffaa

theorem conf_check {K : Value → Heap → Prop} {h : Heap} (c : Cf) (k1 : c.Right → ∀ h', Old h.size h h' → K (.int .i64 0) h') (k0 : ¬ c.Right → ∀ h', Old h.size h h' → K (.int .i64 6) h') :
    CallH Try.prog 85 #[.agg c.vals] h K := by
  refine call85 ?_
  unfold F85
  have p1 := pushed h c.vals 37
  rw [show h.push (.cells #[.int .i64 c.a, .int .i64 c.t, .int .i64 c.n, .int .i64 c.l, .int .i64 c.b, .int .i64 c.p, .int .i64 c.s] 37) = h.push (.cells c.vals 37) from rfl]
  generalize h.push (.cells c.vals 37) = h1 at *
  have o1 := p1.toOld
  iterate 7 (refine ldR p1.new rfl ?_)
  have key : ∀ (cs : Array Value) (e : Int), (∃ v0 v1 v2 v3 v4 v5 v6 v7 v8 v9 v10 v11 v12 v13 v14, cs = #[v0, v1, v2, v3, v4, v5, v6, v7, v8, v9, v10, v11, v12, v13, v14] ∧ ∀ y ∈ [v0, v1, v2, v3, v4, v5, v6, v7, v8, v9, v10, v11, v12, v13, v14], oneC y True) → ∀ h8, Old h.size h h8 →
      (∀ h', Old h.size h h' → K (.int .i64 e) h') →
      (asTup (.tuple #[.agg cs, .int .i64 e]) (fun vs9 => (elemH vs9 0 (fun v10 => (asAgg v10 (fun vs11 => (sizeH vs11 15 (elemH vs11 0 (fun v12 => (elemH vs11 1 (fun v13 => (elemH vs11 2 (fun v14 => (elemH vs11 3 (fun v15 => (elemH vs11 4 (fun v16 => (elemH vs11 5 (fun v17 => (elemH vs11 6 (fun v18 => (elemH vs11 7 (fun v19 => (elemH vs11 8 (fun v20 => (elemH vs11 9 (fun v21 => (elemH vs11 10 (fun v22 => (elemH vs11 11 (fun v23 => (elemH vs11 12 (fun v24 => (elemH vs11 13 (fun v25 => (elemH vs11 14 (fun v26 => (asTup (.tuple #[.agg cs, .int .i64 e]) (fun vs27 => (elemH vs27 1 (fun v28 => (asInt .i64 v28 (fun n29 => (stH (Array.push h8 (.cells zeros15 148)) ⟨h8.size, 0, none⟩ v12 (fun h30 => (stH h30 ⟨h8.size, 1, none⟩ v13 (fun h31 => (stH h31 ⟨h8.size, 2, none⟩ v14 (fun h32 => (stH h32 ⟨h8.size, 3, none⟩ v15 (fun h33 => (stH h33 ⟨h8.size, 4, none⟩ v16 (fun h34 => (stH h34 ⟨h8.size, 5, none⟩ v17 (fun h35 => (stH h35 ⟨h8.size, 6, none⟩ v18 (fun h36 => (stH h36 ⟨h8.size, 7, none⟩ v19 (fun h37 => (stH h37 ⟨h8.size, 8, none⟩ v20 (fun h38 => (stH h38 ⟨h8.size, 9, none⟩ v21 (fun h39 => (stH h39 ⟨h8.size, 10, none⟩ v22 (fun h40 => (stH h40 ⟨h8.size, 11, none⟩ v23 (fun h41 => (stH h41 ⟨h8.size, 12, none⟩ v24 (fun h42 => (stH h42 ⟨h8.size, 13, none⟩ v25 (fun h43 => (stH h43 ⟨h8.size, 14, none⟩ v26 (fun h44 => (K (.int .i64 n29) h44)))))))))))))))))))))))))))))))))))))))))))))))))))))))))))))))))))))))))) := by
    rintro cs e ⟨v0, v1, v2, v3, v4, v5, v6, v7, v8, v9, v10, v11, v12, v13, v14, rfl, hone⟩ h8 o8 k
    simp only [asTup_tuple, elem20, elem21, asAgg_agg]
    refine sizeH_mk rfl ?_
    iterate 15 (refine elemH_mk rfl ?_)
    simp only [asInt_int]
    have p := pushed h8 zeros15 148
    generalize h8.push (.cells zeros15 148) = h9 at *
    refine st15 (stN_full p.new rfl hone fun h44 w => ?_)
    exact k _ (w.toOld (o8.trans (p.toOld.mono o8.1)) o8.1)
  refine callV_fn (new_plan c (fun hr h8 o8 => ?_) (fun hr h8 o8 => ?_))
  · exact key _ _ ⟨_, _, _, _, _, _, _, _, _, _, _, _, _, _, _, rfl, by simp [oneC]⟩ h8 (o1.trans (o8.mono o1.1)) (k1 hr)
  · exact key _ _ ⟨_, _, _, _, _, _, _, _, _, _, _, _, _, _, _, rfl, by simp [oneC]⟩ h8 (o1.trans (o8.mono o1.1)) (k0 hr)

def prodW (xs : List Int) : Int := xs.foldl (fun p x => IntKind.wrap .i64 (p * x)) 1
theorem times_call {K : Value → Heap → Prop} {h : Heap} {a : Option Addr} {l c : Nat} {xs : List Int} (H : RI h a l c xs) (hl : l < 2 ^ 60) (k : K (.int .i64 (prodW xs)) h) :
    CallH Try.prog 86 #[.slice a l c] h K := by
  refine call86 ?_
  unfold F86
  have hlen := H.len
  refine ⟨fun vs h' => ∃ v, ∃ i : Nat, vs = [iv (prodW (xs.take i)), v, iv i] ∧ h' = h ∧ i ≤ l, fun vs _ => (match vs with | [_, _, .int _ n] => l - n.toNat | _ => 0), ⟨_, 0, rfl, rfl, Nat.zero_le _⟩, ?_⟩
  rintro v2 v3 v4 g h5 ⟨v, i, e, rfl, hi⟩
  cases e
  simp only [asInt_int, asI_int]
  refine ifB_dec (fun hlt => ?_) (fun hge => ?_)
  · have hlt' : i < xs.length := by omega
    obtain ⟨ad, rfl, hc⟩ := H.at hlt'
    refine ⟨by omega, hlt, ?_⟩
    simp only [asPtr_some, Int.toNat_natCast, Nat.mul_one]
    refine ldH_mk hc ?_
    simp only [asInt_int]
    rw [nat_wrap1 (by omega)]
    refine ⟨⟨.int .i64 xs[i], i + 1, ?_, by trivial, by omega⟩, ?_⟩
    · rw [List.take_succ_eq_append_getElem hlt']
      unfold prodW
      rw [List.foldl_append]; rfl
    · show l - ((i + 1 : Nat) : Int).toNat < l - (i : Int).toNat
      omega
  · rw [List.take_of_length_le (by omega)]
    exact k

abbrev Cf.nine (c : Cf) : List Int := [10000, IntKind.wrap .i64 (c.t + 1), IntKind.wrap .i64 (c.t + 1), IntKind.wrap .i64 (c.t + 1), IntKind.wrap .i64 (c.n + 8), IntKind.wrap .i64 (c.n + 8), IntKind.wrap .i64 (c.l + 2), IntKind.wrap .i64 (c.l + 2), IntKind.wrap .i64 (c.p + 1)]
theorem steps_call {K : Value → Heap → Prop} {h : Heap} (c : Cf) (k1 : c.Right → ∀ h', Old h.size h h' → K (.tuple #[.int .i64 (prodW c.nine), .int .i64 0]) h') (k0 : ¬ c.Right → ∀ h', Old h.size h h' → K (.tuple #[.int .i64 0, .int .i64 6]) h') :
    CallH Try.prog 31 #[.agg c.vals] h K := by
  refine call31 ?_
  unfold F31
  have p1 := pushed h c.vals 37
  rw [show h.push (.cells #[.int .i64 c.a, .int .i64 c.t, .int .i64 c.n, .int .i64 c.l, .int .i64 c.b, .int .i64 c.p, .int .i64 c.s] 37) = h.push (.cells c.vals 37) from rfl]
  generalize h.push (.cells c.vals 37) = h1 at *
  have o1 := p1.toOld
  have s1 := p1.size
  iterate 7 (refine ldR p1.new rfl ?_)
  refine callV_fn (conf_check c (fun hr h8 o8 => ?_) (fun hr h8 o8 => ?_))
  · have c8 := (o8.2 _ (by omega)).trans p1.new
    simp only [asInt_int]
    refine ifB_mk (fun hq => by simp at hq) (fun _ => ?_)
    iterate 4 (refine ldR c8 rfl ?_; simp only [asInt_int])
    have p2 := pushed h8 #[.int .i64 10000, .int .i64 (IntKind.wrap .i64 (c.t + 1)), .int .i64 (IntKind.wrap .i64 (c.t + 1)), .int .i64 (IntKind.wrap .i64 (c.t + 1)), .int .i64 (IntKind.wrap .i64 (c.n + 8)), .int .i64 (IntKind.wrap .i64 (c.n + 8)), .int .i64 (IntKind.wrap .i64 (c.l + 2)), .int .i64 (IntKind.wrap .i64 (c.l + 2)), .int .i64 (IntKind.wrap .i64 (c.p + 1))] 3
    generalize h8.push _ = h9 at *
    have hr9 : RI h9 (some ⟨h8.size, 0, none⟩) 9 9 c.nine := by
      refine ⟨?_, rfl, Nat.le_refl _⟩
      intro i v hi
      refine ⟨_, rfl, ?_⟩
      rw [add_lit, cellAt_of p2.new, Nat.zero_add, ← Array.getElem?_toList]
      exact hi
    refine callV_fn (times_call hr9 (by omega) ?_)
    simp only [asInt_int]
    exact k1 hr _ ((o1.trans (o8.mono o1.1)).trans (p2.toOld.mono (Nat.le_trans o1.1 o8.1)))
  · simp only [asInt_int]
    refine ifB_mk (fun _ => ?_) (fun hq => by simp at hq)
    exact k0 hr _ (o1.trans (o8.mono o1.1))
theorem alone_call {K : Value → Heap → Prop} {h : Heap} (c : Cf) (k1 : c.Right → ∀ h', Old h.size h h' → K (.tuple #[.int .i64 100000, .int .i64 0]) h') (k0 : ¬ c.Right → ∀ h', Old h.size h h' → K (.tuple #[.int .i64 0, .int .i64 6]) h') :
    CallH Try.prog 32 #[.agg c.vals] h K := by
  refine call32 ?_
  unfold F32
  have p1 := pushed h c.vals 37
  rw [show h.push (.cells #[.int .i64 c.a, .int .i64 c.t, .int .i64 c.n, .int .i64 c.l, .int .i64 c.b, .int .i64 c.p, .int .i64 c.s] 37) = h.push (.cells c.vals 37) from rfl]
  generalize h.push (.cells c.vals 37) = h1 at *
  have o1 := p1.toOld
  iterate 7 (refine ldR p1.new rfl ?_)
  refine callV_fn (conf_check c (fun hr h8 o8 => ?_) (fun hr h8 o8 => ?_))
  · simp only [asInt_int]
    refine ifB_mk (fun hq => by simp at hq) (fun _ => ?_)
    exact k1 hr _ (o1.trans (o8.mono o1.1))
  · simp only [asInt_int]
    refine ifB_mk (fun _ => ?_) (fun hq => by simp at hq)
    exact k0 hr _ (o1.trans (o8.mono o1.1))

theorem lives32_call {K : Value → Heap → Prop} {h : Heap} (k : ∀ h', Old h.size h h' → K (.bool true) h') : CallH Try.prog 34 #[] h K := by
  refine call34 ?_
  unfold F34
  have hr : (Cf.mk 0 1 2 1 1 1 1).Right := ⟨by decide, by decide, by decide, by decide, by decide, by decide, by decide, by decide⟩
  refine callV_fn (steps_call ⟨0, 1, 2, 1, 1, 1, 1⟩ (fun _ h1 o1 => ?_) (fun hn => absurd hr hn))
  simp only [asTup_tuple, elem20, elem21, asInt_int]
  refine ifB_mk (fun _ => ?_) (fun hq => ?_)
  · exact k _ o1
  · exact absurd hq (by decide)

/-! ### windows -/
def fineF (l : List Int) (n : Int) : Bool := l.all fun x => decide (x ≤ n)
theorem windows_call {K : Value → Heap → Prop} {h : Heap} {a : Option Addr} {l c : Nat} {xs : List Int} {n : Int} (H : RI h a l c xs) (hl : l < 2 ^ 60) (k : K (.bool (fineF xs n)) h) :
    CallH Try.prog 39 #[.slice a l c, .int .i64 n] h K := by
  refine call39 ?_
  unfold F39
  have hlen := H.len
  refine ⟨fun vs h' => ∃ v, ∃ i : Nat, vs = [.bool false, v, iv i] ∧ h' = h ∧ i ≤ l ∧ fineF (xs.take i) n = true, fun vs _ => (match vs with | [_, _, .int _ n] => l - n.toNat | _ => 0), ⟨_, 0, rfl, rfl, Nat.zero_le _, rfl⟩, ?_⟩
  rintro v2 v3 v4 g h5 ⟨v, i, e, rfl, hi, hf⟩
  cases e
  simp only [asInt_int, asI_int]
  refine ifB_dec (fun hlt => ?_) (fun hge => ?_)
  · have hlt' : i < xs.length := by omega
    obtain ⟨ad, rfl, hc⟩ := H.at hlt'
    refine ⟨by omega, hlt, ?_⟩
    simp only [asPtr_some, Int.toNat_natCast, Nat.mul_one]
    refine ldH_mk hc ?_
    simp only [asInt_int]
    refine ifB_dec (fun hq => ?_) (fun hq => ?_)
    · have : fineF xs n = false := by
        unfold fineF
        rw [List.all_eq_false]
        exact ⟨xs[i], List.getElem_mem _, by simp; omega⟩
      rwa [this] at k
    · rw [nat_wrap1 (by omega)]
      refine ⟨⟨.int .i64 xs[i], i + 1, rfl, by trivial, by omega, ?_⟩, ?_⟩
      · unfold fineF at hf ⊢
        rw [List.take_succ_eq_append_getElem hlt', List.all_append, hf]
        simp; omega
      · show l - ((i + 1 : Nat) : Int).toNat < l - (i : Int).toNat
        omega
  · rw [List.take_of_length_le (by omega)] at hf
    rwa [hf] at k

theorem boundWindows_body {K : Value → Heap → Prop} {h : Heap} {a : Option Addr} {l c : Nat} {xs : List Int} {n : Int} (H : RI h a l c xs) (hl : l < 2 ^ 60)
    (k : ∀ h', Old h.size h h' → K (.bool true) h') : F8 K h a l c n := by
  unfold F8
  have hlen := H.len
  refine ⟨fun vs h' => ∃ i : Nat, vs = [.bool (fineF (xs.take i) n), iv i] ∧ h' = h ∧ i ≤ l, fun vs _ => (match vs with | [_, .int _ n] => l - n.toNat | _ => 0), ⟨0, rfl, rfl, Nat.zero_le _⟩, ?_⟩
  rintro v2 v3 g h5 ⟨i, e, rfl, hi⟩
  cases e
  simp only [asInt_int]
  refine ifB_dec (fun hlt => ?_) (fun hge => ?_)
  · have hlt' : i < xs.length := by omega
    have hs : fineF (xs.take (i + 1)) n = (fineF (xs.take i) n && decide (xs[i] ≤ n)) := by
      unfold fineF
      rw [List.take_succ_eq_append_getElem hlt', List.all_append]; simp
    refine ⟨fun vs h' => vs = [.bool (fineF (xs.take (i + 1)) n)] ∧ h' = h5, ?_, ?_⟩
    · simp only [asBool_bool]
      refine ifB_mk (fun hq => ?_) (fun hq => ⟨by rw [hs, hq, Bool.false_and], by trivial⟩)
      obtain ⟨ad, rfl, hc⟩ := H.at hlt'
      refine ⟨by omega, hlt, ?_⟩
      simp only [asPtr_some, Int.toNat_natCast, Nat.mul_one]
      refine ldH_mk hc ?_
      simp only [asInt_int]
      exact ⟨by rw [hs, hq, Bool.true_and], by trivial⟩
    · rintro v13 g14 h15 ⟨e, rfl⟩
      cases e
      rw [nat_wrap1 (by omega)]
      refine ⟨⟨i + 1, rfl, by trivial, by omega⟩, ?_⟩
      show l - ((i + 1 : Nat) : Int).toNat < l - (i : Int).toNat
      omega
  · rw [List.take_of_length_le (by omega)]
    refine callV_fn (windows_call H hl ?_)
    simp only [asBool_bool, beq_self_eq_true, ifB_true]
    refine callV_fn (lives32_call fun h' o => ?_)
    simp only [asBool_bool]
    exact k _ o
end Go.Proofs.Ytgladmaagpcffaa
