/- The body of LevelWhole. -/
import Derived.Test.YtgladmaagpcffaaEk
set_option linter.unusedSimpArgs false
set_option linter.unusedVariables false
set_option maxRecDepth 20000
namespace Go.Proofs.Ytgladmaagpcffaa

theorem below_count {n : Int} : ∀ {xs : List Int}, xs.Pairwise (fun a b => a ≤ b) → belowF xs n = xs.countP fun x => decide (x < n) := by
  intro xs
  induction xs with
  | nil => intro _; rfl
  | cons x xs ih =>
    intro h
    obtain ⟨h1, h2⟩ := List.pairwise_cons.1 h
    unfold belowF
    by_cases hx : x < n
    · rw [List.takeWhile_cons_of_pos (by simpa using hx), List.countP_cons_of_pos (by simpa using hx), List.length_cons]
      congr 1
      exact ih h2
    · rw [List.takeWhile_cons_of_neg (by simpa using hx), List.length_nil]
      symm
      rw [List.countP_eq_zero]
      intro y hy
      rcases List.mem_cons.1 hy with rfl | hy
      · simpa using hx
      · have := h1 y hy
        simp; omega
theorem pl_cons_eq {x : Int} {xs : List Int} : pl (x :: xs) x = 0 := pl_some (i := 0) (by simp) rfl (fun j _ h => by omega)
theorem pl_cons_ne {y x : Int} {xs : List Int} (h : y ≠ x) (hx : x ∈ xs) : pl (y :: xs) x = pl xs x + 1 := by
  unfold pl
  rw [List.findIdx?_cons]
  have : (y == x) = false := by simpa using h
  simp only [this]
  have hp := pl_pos.2 hx
  unfold pl at hp
  split at hp
  · rename_i i e
    simp [e]
  · omega
theorem pl_sub {x : Int} {L1 L2 : List Int} (h : L1.Sublist L2) : L2.Nodup → x ∈ L1 → pl L1 x ≤ pl L2 x := by
  induction h with
  | slnil => intro _ hx; cases hx
  | cons y h ih =>
    intro hn hx
    have hn' := List.nodup_cons.1 hn
    have hx2 := h.subset hx
    rw [pl_cons_ne (fun e => hn'.1 (by rw [e]; exact hx2)) hx2]
    have := ih hn'.2 hx
    omega
  | cons_cons y h ih =>
    intro hn hx
    have hn' := List.nodup_cons.1 hn
    by_cases e : y = x
    · subst e
      rw [pl_cons_eq, pl_cons_eq]; exact Int.le_refl _
    · have hx1 : x ∈ _ := (List.mem_cons.1 hx).resolve_left (fun h => e h.symm)
      rw [pl_cons_ne e hx1, pl_cons_ne e (h.subset hx1)]
      have := ih hn'.2 hx1
      omega
theorem pl_nodup {L : List Int} (hn : L.Nodup) {i : Nat} (hi : i < L.length) : pl L L[i] = i := by
  refine pl_some hi rfl fun j hj hji e => ?_
  have := List.pairwise_iff_getElem.1 hn j i hj hi hji
  exact this e

theorem stepRow_from {n : Int} {s : Sk} {row : List Int} (hn : row.Nodup) (hs : s.some_ = true → s.at_ ∈ row) : (stepRow n s row).steps + fromN row s ≤ s.steps + fromN row (stepRow n s row) + 1 ∧ ((stepRow n s row).some_ = true → (stepRow n s row).at_ ∈ row) := by
  have hf := fromN_le row s
  have hb := below_le (row.drop (fromN row s)) n
  unfold stepRow stepTo
  simp only []
  generalize hj : belowF (row.drop (fromN row s)) n = j at *
  have hlen : (row.drop (fromN row s)).length = row.length - fromN row s := by simp
  by_cases h0 : j = 0
  · subst h0
    simp only [if_true, Nat.lt_irrefl, decide_false, Bool.or_false]
    refine ⟨?_, hs⟩
    have : fromN row { steps := s.steps + 0 + if 0 < (row.drop (fromN row s)).length then 1 else 0, at_ := s.at_, some_ := s.some_ } = fromN row s := rfl
    rw [this]
    split <;> omega
  · have hj1 : fromN row s + (j - 1) < row.length := by omega
    have e : (row.drop (fromN row s)).getD (j - 1) 0 = row[fromN row s + (j - 1)] := by
      rw [List.getD_eq_getElem?_getD, List.getElem?_drop, List.getElem?_eq_getElem hj1]; rfl
    rw [if_neg h0, e, decide_eq_true (by omega : 0 < j), Bool.or_true]
    refine ⟨?_, fun _ => List.getElem_mem hj1⟩
    have : fromN row { steps := s.steps + j + if j < (row.drop (fromN row s)).length then 1 else 0, at_ := row[fromN row s + (j - 1)], some_ := true } = fromN row s + j := by
      show (if true = true then (pl row row[fromN row s + (j - 1)] + 1).toNat else 0) = _
      rw [if_pos rfl, pl_nodup hn]
      omega
    rw [this]
    split <;> omega

theorem steps_bound {rows : List (List Int)} {n : Int} (hs : ∀ i (h : i + 1 < rows.length), (rows[i + 1]).Sublist rows[i]) (hn : ∀ i (h : i < rows.length), (rows[i]).Nodup) :
    ∀ j, ∀ h : j + 1 ≤ rows.length, (stepsTo rows n (j + 1)).steps ≤ (j + 1) + fromN (rows[rows.length - 1 - j]) (stepsTo rows n (j + 1)) ∧ ((stepsTo rows n (j + 1)).some_ = true → (stepsTo rows n (j + 1)).at_ ∈ rows[rows.length - 1 - j]) := by
  intro j
  induction j with
  | zero =>
    intro h
    rw [stepsTo_succ (by omega)]
    have h1 := stepRow_from (n := n) (s := stepsTo rows n 0) (row := rows[rows.length - 1 - 0]) (hn _ (by omega)) (fun e => by simp [stepsTo] at e)
    have h2 : (stepsTo rows n 0).steps = 0 := rfl
    exact ⟨by omega, h1.2⟩
  | succ j ih =>
    intro h
    obtain ⟨h1, h2⟩ := ih (by omega)
    rw [stepsTo_succ (by omega)]
    generalize hsk : stepsTo rows n (j + 1) = s at *
    have hsub : (rows[rows.length - 1 - j]).Sublist rows[rows.length - 1 - (j + 1)] := by
      have := hs (rows.length - 1 - (j + 1)) (by omega)
      have e : rows.length - 1 - (j + 1) + 1 = rows.length - 1 - j := by omega
      simp only [e] at this
      exact this
    have h3 := stepRow_from (n := n) (s := s) (row := rows[rows.length - 1 - (j + 1)]) (hn _ (by omega)) (fun e => hsub.subset (h2 e))
    refine ⟨?_, h3.2⟩
    have h4 : fromN rows[rows.length - 1 - j] s ≤ fromN rows[rows.length - 1 - (j + 1)] s := by
      unfold fromN
      split
      · rename_i e
        have := pl_sub hsub (hn _ (by omega)) (h2 e)
        omega
      · exact Nat.le_refl _
    omega

theorem rowF_sub (ss : List Ent) (i : Nat) : (rowF ss (i + 1)).Sublist (rowF ss i) := by
  unfold rowF
  have e : (ss.filter fun e => decide (e.t > ((i + 1 : Nat) : Int))) = ((ss.filter fun e => decide (e.t > (i : Int))).filter fun e => decide (e.t > ((i + 1 : Nat) : Int))) := by
    rw [List.filter_filter]
    congr 1
    funext e
    by_cases h : e.t > ((i + 1 : Nat) : Int)
    · simp [h]; omega
    · rw [decide_eq_false h, Bool.false_and]
  rw [e]
  exact List.filter_sublist.map _
theorem rowF_lt {ss : List Ent} {l : Nat} (hl : ss.length = l) (h : SortedSeg ss 0 l) (hd : ss.Pairwise fun a b => a.o ≠ b.o) (i : Nat) : (rowF ss i).Pairwise fun a b => a < b := by
  unfold rowF
  rw [List.pairwise_map]
  refine List.Pairwise.filter _ ?_
  exact ((sorted_pair hl h).and hd).imp fun ⟨h1, h2⟩ => by omega
theorem rows_nested {ss : List Ent} {l : Nat} (hl : ss.length = l) (h : SortedSeg ss 0 l) (hd : ss.Pairwise fun a b => a.o ≠ b.o) (m : Nat) : NestedP ((List.range m).map (rowF ss)) := by
  intro i hi
  simp only [List.getElem_map, List.getElem_range]
  refine ⟨fun j hj => List.pairwise_iff_getElem.1 (rowF_lt hl h hd i) j (j + 1) (by omega) hj (by omega), fun h0 x hx => ?_⟩
  have := rowF_sub ss (i - 1)
  rw [show i - 1 + 1 = i by omega] at this
  exact this.subset hx
theorem whole_steps {ss : List Ent} {l : Nat} (hl : ss.length = l) (h : SortedSeg ss 0 l) (hd : ss.Pairwise fun a b => a.o ≠ b.o) {m : Nat} (n : Int) : (stepsTo ((List.range m).map (rowF ss)) n m).steps ≤ m + l := by
  cases m with
  | zero => show 0 ≤ _; omega
  | succ m =>
    have hb := steps_bound (n := n) (rows := (List.range (m + 1)).map (rowF ss)) (fun i hi => by simpa using rowF_sub ss i) (fun i hi => by
      simp only [List.getElem_map, List.getElem_range]
      exact (rowF_lt hl h hd i).imp fun {a b} hab => by omega) m (by simp)
    have h1 := fromN_le (((List.range (m + 1)).map (rowF ss))[((List.range (m + 1)).map (rowF ss)).length - 1 - m]'(by simp)) (stepsTo ((List.range (m + 1)).map (rowF ss)) n (m + 1))
    have h2 : ∀ i, (rowF ss i).length ≤ l := fun i => by
      unfold rowF
      rw [List.length_map]
      have := List.length_filter_le (fun e : Ent => decide (e.t > (i : Int))) ss
      omega
    have h3 := h2 (((List.range (m + 1)).map (rowF ss)).length - 1 - m)
    simp only [List.getElem_map, List.getElem_range] at hb h1 h3
    omega

theorem whole_body {K : Value → Heap → Prop} {h : Heap} {a : Option Addr} {l c : Nat} {es : List Ent} {most n : Int} (H : SE h a l c es) (k : ∀ h', Old h.size h h' → K (.bool true) h') :
    F18 K h a l c most n := by
  unfold F18
  have hlen := H.len
  have lives : ∀ h1, Old h.size h h1 → callV Try.prog (.func (.func 66) #[] #[]) #[] h1 (fun v h' => asBool v (fun b => K (.bool b) h')) := by
    intro h1 o1
    refine callV_fn (lives23_call fun h' o => ?_)
    simp only [asBool_bool]
    exact k h' (o1.trans (o.mono o1.1))
  refine ifB_dec (fun _ => lives h (Old.refl _ _)) (fun hl60 => ?_)
  have hl : l ≤ 60 := by omega
  refine ⟨fun ws h' => ∃ w, ∃ i : Nat, ws = [.bool false, iv i, w] ∧ h' = h ∧ i ≤ l ∧ ∀ p q (hp : p < es.length) (hq : q < es.length), p < q → q < i → (es[p]).o ≠ (es[q]).o, fun ws _ => (match ws with | [_, .int _ n, _] => l - n.toNat | _ => 0), ⟨_, 0, rfl, rfl, Nat.zero_le _, fun p q _ _ _ h => by omega⟩, ?_⟩
  rintro v5 v6 v7 g8 h9 ⟨w, i, e, rfl, hi, hall⟩
  cases e
  simp only [asInt_int]
  refine ifB_dec (fun hlt => ?_) (fun hge => ?_)
  · have hi' : i < es.length := by omega
    obtain ⟨ad, rfl, x0, _⟩ := H.at hi'
    refine ⟨fun ws h' => ∃ q : Nat, ws = [.bool false, iv q] ∧ h' = h9 ∧ q ≤ i ∧ ∀ p (hp : p < es.length), p < q → (es[p]).o ≠ (es[i]).o, fun ws _ => (match ws with | [_, .int _ n] => i - n.toNat | _ => 0), ⟨0, rfl, rfl, Nat.zero_le _, fun p _ h => by omega⟩, ?_⟩
    rintro v13 v14 g15 h16 ⟨q, e, rfl, hq, hne⟩
    cases e
    simp only [asInt_int]
    refine ifB_dec (fun hltq => ?_) (fun hgeq => ?_)
    · have hq' : q < es.length := by omega
      obtain ⟨ad', e', y0, _⟩ := H.at hq'
      cases e'
      refine ⟨by omega, hlt, ?_⟩
      simp only [asPtr_some, Int.toNat_natCast]
      refine ldH_mk x0 ?_
      simp only [asInt_int]
      refine ⟨by omega, by omega, ldH_mk y0 ?_⟩
      simp only [asInt_int]
      refine ifB_mk (fun _ => lives _ (Old.refl _ _)) (fun h1 => ?_)
      rw [nat_wrap1 (by omega)]
      refine ⟨⟨q + 1, rfl, by trivial, by omega, fun p hp hpq => ?_⟩, ?_⟩
      · by_cases e : p < q
        · exact hne p hp e
        · obtain rfl : p = q := by omega
          intro e2; rw [e2] at h1; simp at h1
      · show i - ((q + 1 : Nat) : Int).toNat < i - (q : Int).toNat
        omega
    · rw [nat_wrap1 (by omega)]
      refine ⟨⟨_, i + 1, rfl, by trivial, by omega, fun p q' hp hq' hpq hqi => ?_⟩, ?_⟩
      · by_cases e : q' < i
        · exact hall p q' hp hq' hpq e
        · obtain rfl : q' = i := by omega
          exact hne p hp (by omega)
      · show l - ((i + 1 : Nat) : Int).toNat < l - (i : Int).toNat
        omega
  have hdis : es.Pairwise fun a b => a.o ≠ b.o := List.pairwise_iff_getElem.2 fun p q hp hq hpq => hall p q hp hq hpq (by omega)
  clear hall hge
  refine callV_fn (rows_call H (by omega) (sorts hl) fun ss a' c' vs h33 hperm hsorted R o33 => ?_)
  simp only [asSlice_slice]
  have hssl : ss.length = l := by rw [hperm.length_eq, hlen]
  have hd : ss.Pairwise fun a b => a.o ≠ b.o := (hperm.pairwise_iff (R := fun a b : Ent => a.o ≠ b.o) fun {a b} hab => fun e => hab e.symm).2 hdis
  have hm64 : min most.toNat 64 ≤ 64 := by omega
  have hnest := rows_nested hssl hsorted hd (min most.toNat 64)
  have hsteps := whole_steps hssl hsorted hd (m := min most.toNat 64) n
  generalize hm : min most.toNat 64 = m at *
  refine callV_fn (Below_call R (by omega) fun ab cb h38 B o38 => ?_)
  simp only [asSlice_slice]
  have ok38 := o33.trans (o38.mono o33.1)
  refine ⟨fun ws h' => ws = [.bool false] ∧ Old h38.size h38 h', ?_, ?_⟩
  · refine callV_fn (nested_call (R.old o38) (by omega) (fun _ h44 o44 => ?_) (fun hn => absurd hnest hn))
    simp only [asBool_bool, Bool.not_true, ifB_false]
    exact ⟨by simp, o44⟩
  rintro v46 g47 h48 ⟨e, o48⟩
  cases e
  simp only [asBool_bool, ifB_false]
  have B48 := B.old o48
  have ok48 := ok38.trans (o48.mono ok38.1)
  refine ⟨fun ws h' => ∃ w, ∃ i : Nat, ws = [w, iv i] ∧ h' = h48 ∧ 1 ≤ i, fun ws _ => (match ws with | [_, .int _ n] => m - n.toNat | _ => 0), ⟨_, 1, rfl, rfl, Nat.le_refl _⟩, ?_⟩
  rintro v52 v53 g54 h55 ⟨w, i, e, rfl, hi1⟩
  cases e
  simp only [asInt_int]
  refine ifB_dec (fun hlt => ?_) (fun hge => ?_)
  · obtain ⟨ad, rfl, c1⟩ := B48.at (i := i) (by simp; omega)
    obtain ⟨ad', e', c2⟩ := B48.at (i := i - 1) (by simp; omega)
    cases e'
    simp only [List.getElem_map, List.getElem_range] at c1 c2
    refine ⟨by omega, hlt, ?_⟩
    simp only [asPtr_some, Int.toNat_natCast, Nat.mul_one]
    refine ldH_mk c1 ?_
    simp only [asInt_int]
    rw [nat_wrapm (by omega) (by omega)]
    refine ⟨by omega, by omega, ?_⟩
    simp only [Int.toNat_natCast]
    refine ldH_mk c2 ?_
    simp only [asInt_int]
    have hle : belowF (rowF ss i) n ≤ belowF (rowF ss (i - 1)) n := by
      rw [below_count (rowF_pair hssl hsorted i), below_count (rowF_pair hssl hsorted (i - 1))]
      have := rowF_sub ss (i - 1)
      rw [show i - 1 + 1 = i by omega] at this
      exact this.countP_le
    refine ifB_dec (fun hgt => by omega) (fun _ => ?_)
    rw [nat_wrap1 (by omega)]
    refine ⟨⟨_, i + 1, rfl, by trivial, by omega⟩, ?_⟩
    show m - ((i + 1 : Nat) : Int).toNat < m - (i : Int).toNat
    omega
  · have hr : ∀ r ∈ (List.range m).map (rowF ss), r.length ≤ 1000 := by
      intro r hr
      obtain ⟨q, _, rfl⟩ := List.mem_map.1 hr
      unfold rowF
      rw [List.length_map]
      have := List.length_filter_le (fun e : Ent => decide (e.t > (q : Int))) ss
      omega
    refine callV_fn (steps23_call ((R.old o38).old o48) (by omega) hr (fun _ h67 o67 => ?_) (fun hn => absurd hnest hn))
    simp only [asInt_int]
    have e1 : IntKind.i64.wrap (IntKind.i64.wrap (2 * ((l : Nat) : Int)) + 64) = 2 * (l : Int) + 64 := by
      rw [wrap64_id' (n := 2 * (l : Int)) (by omega) (by omega), wrap64_id' (by omega) (by omega)]
    rw [e1]
    refine ifB_dec (fun _ => lives _ (ok48.trans (o67.mono ok48.1))) (fun hx => by omega)
end Go.Proofs.Ytgladmaagpcffaa
