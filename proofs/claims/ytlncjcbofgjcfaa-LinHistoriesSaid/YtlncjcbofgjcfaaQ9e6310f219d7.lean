/- Part 12 of what the proofs of this seat rest on: see the last text of the claim. -/
import Derived.Test.YtlncjcbofgjcfaaQae64a4962aeb
section
/- What histories of one thread, and prefixes, have to do with orders: plain facts. -/
set_option linter.unusedSimpArgs false
set_option linter.unusedVariables false
set_option maxRecDepth 20000
namespace Go.Proofs.Ytlncjcbofgjcfaa

theorem ints_mem {n : Nat} {y : Int} : y ∈ ints n ↔ 0 ≤ y ∧ y < n := mem_ints
theorem ints_snoc (k : Nat) : ints (k + 1) = ints k ++ [(k : Int)] := by unfold ints; rw [List.range_succ]; simp
/-! ### one behind the other -/
def legD : List Op9 → List Pr → Option (List Pr)
  | [], ps => some ps
  | o :: r, ps => (doP ps (opC o) (opA o)).bind (legD r)
def Alone (L : List Op9) : Prop := ∀ i (hi : i < L.length), (L[i]).fr = 2 * i ∧ (L[i]).to = 2 * i + 1
theorem alone_next {L : List Op9} (hA : Alone L) {i : Nat} (hi : i < L.length) {x : Int} : x ∈ nextL L (ints i) L.length ↔ x = i := by
  rw [mem_nextL]
  constructor
  · rintro ⟨⟨x0, x1⟩, x2, x3⟩
    rw [ints_mem] at x2
    apply Decidable.byContradiction
    intro hne
    have hb := x3 i (by omega) (by omega)
    unfold blocks at hb
    obtain ⟨k, rfl⟩ : ∃ k : Nat, x = k := ⟨x.toNat, by omega⟩
    have hk : k < L.length := by omega
    rw [opAt_nat hi, opAt_nat hk] at hb
    have e1 := hA i hi
    have e2 := hA k hk
    have : ahead L[i] L[k] = true := by
      unfold ahead
      rw [e1.2, e2.1, decide_eq_true (by omega), decide_eq_true (by omega)]; rfl
    rw [this, decide_eq_true (by omega), decide_eq_false (by rw [ints_mem]; omega)] at hb
    cases hb
  · rintro rfl
    refine ⟨⟨by omega, by omega⟩, by rw [ints_mem]; omega, fun j j0 j1 => ?_⟩
    unfold blocks
    by_cases hj : j ∈ ints i
    · rw [decide_eq_true hj]; simp
    · rw [ints_mem] at hj
      obtain ⟨k, rfl⟩ : ∃ k : Nat, j = k := ⟨j.toNat, by omega⟩
      have hk : k < L.length := by omega
      rw [opAt_nat hi, opAt_nat hk]
      have e1 := hA i hi
      have e2 := hA k hk
      have : ahead L[k] L[i] = false := by
        unfold ahead
        rw [e1.1, e2.2, decide_eq_false (show ¬ (2 * (k : Int) + 1 < 2 * (i : Int)) by omega), Bool.and_false]
      rw [this]; simp
theorem alone_can {L : List Op9} (hA : Alone L) : ∀ n i, i + n = L.length → ∀ ps, (∃ w, Can L (ints i) ps w) ↔ (legD (L.drop i) ps).isSome = true := by
  intro n
  induction n with
  | zero =>
    intro i hi ps
    rw [List.drop_of_length_le (by omega)]
    refine ⟨fun _ => rfl, fun _ => ⟨[], .full fun y y0 y1 _ => ints_mem.2 ⟨y0, by omega⟩⟩⟩
  | succ n ih =>
    intro i hi ps
    have hlt : i < L.length := by omega
    have hd : L.drop i = L[i] :: L.drop (i + 1) := List.drop_eq_getElem_cons hlt
    have hto : 0 ≤ (L[i]).to := by rw [(hA i hlt).2]; omega
    have hans : ∀ ps, answersP (opAt L i) ps = [opA L[i]] := fun ps => by
      unfold answersP
      rw [opAt_nat hlt, if_pos hto]
    rw [hd]
    show _ ↔ ((doP ps (opC L[i]) (opA L[i])).bind (legD (L.drop (i + 1)))).isSome = true
    constructor
    · rintro ⟨w, hc⟩
      cases hc with
      | full hf =>
        have := hf i (by omega) (by omega) (by rw [opAt_nat hlt]; exact hto)
        rw [ints_mem] at this; omega
      | step hx ha hdo hc =>
        have := (alone_next hA hlt).1 hx
        subst this
        rw [hans, List.mem_singleton] at ha
        subst ha
        rw [opAt_nat hlt] at hdo
        rw [hdo]
        rw [← ints_snoc] at hc
        exact (ih (i + 1) (by omega) _).1 ⟨_, hc⟩
    · intro h
      cases hdo : doP ps (opC L[i]) (opA L[i]) with
      | none => rw [hdo] at h; cases h
      | some qs =>
        rw [hdo] at h
        obtain ⟨w, hw⟩ := (ih (i + 1) (by omega) qs).2 h
        rw [ints_snoc] at hw
        exact ⟨_, .step ((alone_next hA hlt).2 rfl) (a := opA L[i]) (by rw [hans]; simp) (by rw [opAt_nat hlt]; exact hdo) hw⟩
theorem lin_alone {L : List Op9} (hA : Alone L) : Lin L ↔ (legD L []).isSome = true := by
  have := alone_can hA L.length 0 (by omega) []
  rw [List.drop_zero] at this
  exact this

/-! ### prefixes -/
theorem ahead_pend {a b : Op9} (h : a.to < 0) : ahead a b = false := by
  unfold ahead
  rw [decide_eq_false (show ¬ 0 ≤ a.to by omega)]; rfl
theorem ahead_late {a b : Op9} (h : b.fr ≤ a.to) : ahead a b = false := by
  unfold ahead
  rw [decide_eq_false (show ¬ a.to < b.fr by omega), Bool.and_false]
theorem opAt_app {L M : List Op9} {x : Int} (h : x.toNat < L.length) : opAt (L ++ M) x = opAt L x := by
  unfold opAt
  rw [List.getD_eq_getElem?_getD, List.getElem?_append_left h, List.getD_eq_getElem?_getD]
/-- A call that isn't answered, and came last, may be left out. -/
theorem can_drop {L : List Op9} {o : Op9} (ho : ∀ a ∈ L, a.to < o.fr) {T : List Int} {ps : List Pr} {w : List Int} (H : Can (L ++ [o]) T ps w) : (∀ y ∈ T, y ≠ (L.length : Int)) → ∃ v, Can L T ps v := by
  generalize hM : L ++ [o] = M at H
  induction H with
  | full h =>
    intro hT
    subst hM
    exact ⟨[], .full fun y y0 y1 yt => h y y0 (by rw [List.length_append]; omega) (by rw [opAt_app (by omega)]; exact yt)⟩
  | step hx ha hd h ih =>
    rename_i T ps qs x a w
    intro hT
    subst hM
    obtain ⟨⟨x0, x1⟩, x2, x3⟩ := mem_nextL.1 hx
    rw [List.length_append, List.length_singleton] at x1 x3
    by_cases e : x = (L.length : Int)
    · refine ⟨[], .full fun y y0 y1 yt => ?_⟩
      apply Decidable.byContradiction
      intro hn
      have hb := x3 y y0 (by omega)
      unfold blocks at hb
      have hin : opAt L y ∈ L := by
        unfold opAt
        rw [List.getD_eq_getElem?_getD, List.getElem?_eq_getElem (show y.toNat < L.length by omega)]
        exact List.getElem_mem _
      have e2 : opAt (L ++ [o]) x = o := by
        unfold opAt
        rw [e, Int.toNat_natCast, List.getD_eq_getElem?_getD]; simp
      rw [opAt_app (by omega), e2] at hb
      have : ahead (opAt L y) o = true := by
        unfold ahead
        rw [decide_eq_true yt, decide_eq_true (ho _ hin)]; rfl
      rw [this, decide_eq_true (by omega), decide_eq_false hn] at hb
      cases hb
    · have hx' : x.toNat < L.length := by omega
      obtain ⟨v, hv⟩ := ih fun y hy => by
        rcases List.mem_append.1 hy with hy | hy
        · exact hT y hy
        · rw [List.mem_singleton.1 hy]; exact e
      rw [opAt_app hx'] at ha hd
      refine ⟨x :: v, .step (mem_nextL.2 ⟨⟨x0, by omega⟩, x2, fun j j0 j1 => ?_⟩) ha hd hv⟩
      have hb := x3 j j0 (by omega)
      unfold blocks at hb ⊢
      rw [opAt_app hx', opAt_app (by omega)] at hb
      exact hb
theorem doP_noop {ps qs : List Pr} {c a : C3} (h : doP ps c a = some qs) (h0 : a.o ≠ 0) (h2 : ¬ (a.o = 2 ∧ c.o = 1)) : qs = ps := by
  unfold doP at h
  split at h
  · rename_i hf
    split at h
    · cases h; rfl
    · split at h
      · split at h
        · cases h; rfl
        · cases h
      · split at h
        · split at h
          · rename_i h3 h4 _ hc
            exfalso
            apply h2
            refine ⟨?_, hc⟩
            unfold fitsB rightA at hf
            simp only [Bool.and_eq_true, Bool.or_eq_true, beq_iff_eq] at hf
            omega
          · cases h; rfl
        · cases h
  · cases h
/-- An answer that came last may be left out. -/
theorem can_unans {L : List Op9} {k : Nat} (hk : k < L.length) {n : Int} {o : Op9} (hn : 0 ≤ n) (hfr : ∀ a ∈ L, a.fr < n) (e1 : (L[k]).to < 0) (e2 : o.to = n) (e3 : opC o = opC L[k]) (e4 : o.fr = (L[k]).fr)
    {T : List Int} {ps : List Pr} {w : List Int} (H : Can (L.set k o) T ps w) : ∀ {S : List Int}, (∀ y, y ≠ (k : Int) → (y ∈ S ↔ y ∈ T)) → ((k : Int) ∈ S → (k : Int) ∈ T) → ∃ v, Can L S ps v := by
  have hat : ∀ y : Int, 0 ≤ y → y ≠ k → opAt (L.set k o) y = opAt L y := by
    intro y y0 hy
    unfold opAt
    rw [List.getD_eq_getElem?_getD, List.getElem?_set_ne (by omega), List.getD_eq_getElem?_getD]
  have hatk : opAt (L.set k o) k = o := by
    unfold opAt
    rw [Int.toNat_natCast, List.getD_eq_getElem?_getD, List.getElem?_set_self hk]; rfl
  have hatL := opAt_nat hk
  generalize hM : L.set k o = M at H
  have hMl : M.length = L.length := by rw [← hM, List.length_set]
  induction H with
  | full h =>
    intro S q1 q2
    subst hM
    refine ⟨[], .full fun y y0 y1 yt => ?_⟩
    have hy : y ≠ k := fun e => by rw [e, hatL] at yt; omega
    exact (q1 y hy).2 (h y y0 (by rw [hMl]; exact y1) (by rw [hat y y0 hy]; exact yt))
  | step hx ha hd h ih =>
    rename_i T ps qs x a w
    intro S q1 q2
    subst hM
    obtain ⟨⟨x0, x1⟩, x2, x3⟩ := mem_nextL.1 hx
    have hnx : x ∈ nextL L S L.length := by
      refine mem_nextL.2 ⟨⟨x0, by omega⟩, fun hs => ?_, fun j j0 j1 => ?_⟩
      · by_cases e : x = k
        · subst e; exact x2 (q2 hs)
        · exact x2 ((q1 x e).1 hs)
      · by_cases ej : j = k
        · subst ej
          unfold blocks
          rw [hatL, ahead_pend e1]; simp
        · have hb := x3 j j0 (by omega)
          unfold blocks at hb ⊢
          rw [hat j j0 ej] at hb
          have efr : (opAt (L.set k o) x).fr = (opAt L x).fr := by
            by_cases e : x = k
            · rw [e, hatk, hatL, e4]
            · rw [hat x x0 e]
          have : ahead (opAt L j) (opAt (L.set k o) x) = ahead (opAt L j) (opAt L x) := by unfold ahead; rw [efr]
          rw [this] at hb
          rw [show decide (j ∈ S) = decide (j ∈ T) by rw [decide_eq_decide]; exact q1 j ej]
          exact hb
    by_cases e : x = k
    · subst e
      rw [hatk] at ha hd
      unfold answersP at ha
      rw [if_pos (by omega), List.mem_singleton] at ha
      subst ha
      by_cases hskip : (opA o).o ≠ 0 ∧ ¬ ((opA o).o = 2 ∧ (opC o).o = 1)
      · have := doP_noop hd hskip.1 hskip.2
        subst this
        refine ih (fun y hy => ?_) (fun hs => ?_)
        · rw [q1 y hy, List.mem_append, List.mem_singleton]; simp [hy]
        · exact List.mem_append_left _ (q2 hs)
      · have hf : fitsB (opC o) (opA o) = true := by
          apply Decidable.byContradiction
          intro hf
          unfold doP at hd
          rw [if_neg hf] at hd; cases hd
        have hf0 := hf
        unfold fitsB rightA at hf
        simp only [Bool.and_eq_true, Bool.or_eq_true, beq_iff_eq] at hf
        obtain ⟨v, hv⟩ := ih (S := S ++ [(k : Int)]) (fun y hy => by rw [List.mem_append, List.mem_append, q1 y hy]) (fun hs => by simp)
        refine ⟨k :: v, .step hnx ?_ (a := opA o) (by rw [hatL, ← e3]; exact hd) hv⟩
        rw [hatL]
        unfold answersP
        rw [if_neg (by omega)]
        have ec : (L[k]).op = (opC o).o := by rw [e3]; rfl
        by_cases ha0 : (opA o).o = 0
        · have hb := hf.2.2
          have hc0 : (opC o).o = 0 := by
            rw [ha0] at hb
            simpa using hb
          rw [if_pos (by omega), List.mem_singleton]
          have h0 := hf.2.1
          generalize opA o = A at *
          cases A
          simp only at ha0 h0 ⊢
          rw [C3.mk.injEq]
          omega
        · have h2 : (opA o).o = 2 ∧ (opC o).o = 1 := by
            apply Decidable.byContradiction
            intro h; exact hskip ⟨ha0, h⟩
          rw [if_neg (by omega), if_neg (by omega)]
          have hm : ((opA o).k, (opA o).v) ∈ minsP ps := by
            apply Decidable.byContradiction
            intro hm
            unfold doP at hd
            rw [if_pos hf0, if_neg ha0, if_neg (by omega), if_neg (by omega), if_neg hm] at hd
            cases hd
          refine List.mem_map.2 ⟨_, hm, ?_⟩
          have h2' := h2.1
          generalize opA o = A at *
          cases A
          simp only at h2' ⊢
          rw [h2']
    · rw [hat x x0 e] at ha hd
      obtain ⟨v, hv⟩ := ih (S := S ++ [x]) (fun y hy => by rw [List.mem_append, List.mem_append, q1 y hy]) (fun hs => by
        rcases List.mem_append.1 hs with hs | hs
        · exact List.mem_append_left _ (q2 hs)
        · exact List.mem_append_right _ hs)
      exact ⟨x :: v, .step hnx ha hd hv⟩
end Go.Proofs.Ytlncjcbofgjcfaa
end
section
/- The document's search: what may come next, is there an order. -/
set_option linter.unusedSimpArgs false
set_option linter.unusedVariables false
set_option maxRecDepth 20000
namespace Go.Proofs.Ytlncjcbofgjcfaa

theorem ints_succ (k : Nat) : ints (k + 1) = ints k ++ [(k : Int)] := by unfold ints; rw [List.range_succ]; simp
def condN (L : List Op9) (T : List Int) (l : Nat) (y : Int) : Bool := !decide (y ∈ T) && freeF L T l y
theorem nextL_filter (L : List Op9) (T : List Int) (l : Nat) : nextL L T l = (ints l).filter (condN L T l) := by
  unfold nextL condN
  rw [List.filter_filter]
  congr 1
  funext y
  rw [Bool.and_comm]
theorem opAt_get {L : List Op9} {i : Nat} (h : i < L.length) : opAt L (i : Int) = L[i] := by
  unfold opAt
  rw [Int.toNat_natCast, List.getD_eq_getElem?_getD, List.getElem?_eq_getElem h]; rfl
theorem tri {v w : Value} {b b' : Bool} (h : b = b') : [v, w, .bool b] = [v, w, .bool b'] := by rw [h]
theorem refNext_call {K : Value → Heap → Prop} {h : Heap} {a : Option Addr} {l c b : Nat} {L : List Op9} {T : List Int} (H : SlO h a l c L) (hl : l ≤ 1000) (hb : h[b]? = some (.cells (inRow l T).toArray 4))
    (k : ∀ a' n' c' h', RI h' a' n' c' (nextL L T l) → Old h.size h h' → K (.slice a' n' c') h') : CallH Try.prog 64 #[.slice a l c, .slice (some ⟨b, 0, none⟩) l l] h K := by
  refine call64 ?_
  unfold F64
  have hlen := H.len
  have hbl := (Array.getElem?_eq_some_iff.1 hb).1
  refine ⟨fun vs h' => ∃ w1 w2, ∃ i : Nat, ∃ o n c', vs = [.slice o n c', iv i, w1, w2] ∧ i ≤ l ∧ n ≤ i ∧ Old h.size h h' ∧ OwnI h' o n c' ((ints i).filter (condN L T l)) ∧ (∀ b, blk o b → h.size ≤ b),
    fun vs _ => (match vs with | [_, .int _ n, _, _] => l - n.toNat | _ => 0), ⟨_, _, 0, none, 0, 0, rfl, Nat.zero_le _, Nat.le_refl _, Old.refl _ _, Own.nil _ _ _, fun b hb => absurd hb (blk_none b)⟩, ?_⟩
  rintro v2 v3 v4 v5 g6 h7 ⟨w1, w2, i, o, n, c', e, hi, hn, o7, own7, hb7⟩
  cases e
  simp only [asInt_int, asSlice_slice]
  refine ifB_dec (fun hlt => ?_) (fun hge => ?_)
  rotate_left
  · obtain rfl : i = l := by omega
    have := k o n c' h7
    rw [nextL_filter] at this
    exact this own7.ri o7
  have hi' : i < L.length := by omega
  have hsucc : (ints (i + 1)).filter (condN L T l) = (ints i).filter (condN L T l) ++ (if condN L T l i then [(i : Int)] else []) := by
    rw [ints_succ, List.filter_append]
    congr 1
    cases hc : condN L T l i <;> simp [hc]
  have hb' : h7[b]? = some (.cells (inRow l T).toArray 4) := (o7.2 _ hbl).trans hb
  refine ⟨fun vs h' => ∃ o n c' w1 w2, vs = [.slice o n c', w1, w2] ∧ n ≤ i + 1 ∧ Old h.size h h' ∧ OwnI h' o n c' ((ints (i + 1)).filter (condN L T l)) ∧ (∀ b, blk o b → h.size ≤ b), ?_, ?_⟩
  rotate_left
  · rintro v106 v107 v108 g109 h110 ⟨o2, n2, c2, w3, w4, e, hn2, o110, own110, hb110⟩
    cases e
    rw [nat_wrap1 (by omega)]
    exact ⟨⟨_, _, i + 1, o2, n2, c2, rfl, by omega, hn2, o110, own110, hb110⟩, by show l - ((i + 1 : Nat) : Int).toNat < l - (i : Int).toNat; omega⟩
  refine ⟨fun vs h' => (∃ w, vs = [.bool (!decide ((i : Int) ∈ T)), w]) ∧ h' = h7, ?_, ?_⟩
  · refine ifB_dec (fun hq => by omega) (fun hq => ?_)
    refine ⟨by omega, hlt, ?_⟩
    simp only [asPtr_some]
    refine ldH_mk (mark_at hb' (by omega) hlt) ?_
    simp only [asBool_bool]
    exact ⟨⟨_, rfl⟩, by trivial⟩
  rintro v16 v17 g18 h19 ⟨⟨_, e⟩, rfl⟩
  cases e
  refine ⟨fun vs h' => ∃ j : Nat, vs = [.bool (!decide ((i : Int) ∈ T) && (ints j).all fun j => !blocks L T i j), iv j] ∧ j ≤ l ∧ Old h19.size h19 h', fun vs _ => (match vs with | [_, .int _ n] => l - n.toNat | _ => 0), ⟨0, by simp [ints], Nat.zero_le _, Old.refl _ _⟩, ?_⟩
  rintro v22 v23 g24 h25 ⟨j, e, hj, o25⟩
  cases e
  simp only [asInt_int, asBool_bool]
  have ok25 : Old h.size h h25 := o7.trans (o25.mono o7.1)
  refine ifB_dec (fun hjlt => ?_) (fun hjge => ?_)
  · have hj' : j < L.length := by omega
    have hall : (!decide ((i : Int) ∈ T) && (ints (j + 1)).all fun j => !blocks L T i j) = ((!decide ((i : Int) ∈ T) && (ints j).all fun j => !blocks L T i j) && !blocks L T i j) := by
      rw [ints_succ, List.all_append]; simp [Bool.and_assoc]
    refine ⟨fun vs h' => vs = [.bool (!decide ((i : Int) ∈ T) && (ints (j + 1)).all fun j => !blocks L T i j)] ∧ Old h19.size h19 h', ?_, ?_⟩
    rotate_left
    · rintro v92 g93 h94 ⟨e, o94⟩
      cases e
      rw [nat_wrap1 (by omega)]
      exact ⟨⟨j + 1, rfl, by omega, o94⟩, by show l - ((j + 1 : Nat) : Int).toNat < l - (j : Int).toNat; omega⟩
    refine ⟨fun vs h' => (∃ w w', vs = [w, w', .bool (blocks L T i j)]) ∧ Old h19.size h19 h', ?_, ?_⟩
    · refine ifB_mk (fun hne => ?_) (fun heq => ?_)
      · have hne' : (j : Int) ≠ i := by simpa using hne
        refine ifB_dec (fun hq => by omega) (fun hq => ?_)
        refine ⟨by omega, hjlt, ?_⟩
        simp only [asPtr_some]
        have hb25 : h25[b]? = some (.cells (inRow l T).toArray 4) := (ok25.2 _ hbl).trans hb
        refine ldH_mk (mark_at hb25 (by omega) hjlt) ?_
        simp only [asBool_bool]
        refine ifB_mk (fun hjT => ?_) (fun hjT => ?_)
        · have hjT' : ¬ (j : Int) ∈ T := by simpa using hjT
          obtain ⟨ad, rfl, d0, d1⟩ := (H.old ok25).at hj'
          obtain ⟨ad', e', f0, f1⟩ := (H.old ok25).at hi'
          cases e'
          refine ⟨by omega, hjlt, ?_⟩
          simp only [asPtr_some, Int.toNat_natCast]
          refine ldH_mk d0 (ldH_mk (d1 1 _ rfl) (ldH_mk (d1 2 _ rfl) (ldH_mk (d1 3 _ rfl) (ldH_mk (d1 4 _ rfl) (ldH_mk (d1 5 _ rfl) (ldH_mk (d1 6 _ rfl) (ldH_mk (d1 7 _ rfl) (ldH_mk (d1 8 _ rfl) ?_))))))))
          refine ⟨by omega, hlt, ?_⟩
          refine ldH_mk f0 (ldH_mk (f1 1 _ rfl) (ldH_mk (f1 2 _ rfl) (ldH_mk (f1 3 _ rfl) (ldH_mk (f1 4 _ rfl) (ldH_mk (f1 5 _ rfl) (ldH_mk (f1 6 _ rfl) (ldH_mk (f1 7 _ rfl) (ldH_mk (f1 8 _ rfl) ?_))))))))
          refine callV_fn (ahead14_call L[j] L[i] fun h84 o84 => ?_)
          simp only [asBool_bool]
          have : blocks L T i j = ahead L[j] L[i] := by
            unfold blocks
            rw [decide_eq_true hne', decide_eq_false hjT', opAt_get hj', opAt_get hi']; rfl
          exact ⟨⟨_, _, tri this.symm⟩, o25.trans (o84.mono o25.1)⟩
        · have hjT' : (j : Int) ∈ T := by simpa using hjT
          have : blocks L T i j = false := by
            unfold blocks
            rw [decide_eq_true hjT']; simp
          exact ⟨⟨_, _, tri this.symm⟩, o25⟩
      · have heq' : (j : Int) = i := by simpa using heq
        have : blocks L T i j = false := by
          unfold blocks
          rw [decide_eq_false (fun h => h heq')]; rfl
        exact ⟨⟨_, _, tri this.symm⟩, o25⟩
    · rintro v86 v87 v88 g89 h90 ⟨⟨_, _, e⟩, o90⟩
      cases e
      simp only [asBool_bool]
      refine ifB_mk (fun hq => ⟨by rw [hall, hq]; simp, o90⟩) (fun hq => ⟨by rw [hall, hq]; simp, o90⟩)
  · obtain rfl : j = l := by omega
    have hcond : condN L T j i = (!decide ((i : Int) ∈ T) && (ints j).all fun j => !blocks L T i j) := rfl
    rw [← hcond]
    have own25 : OwnI h25 o n c' ((ints i).filter (condN L T j)) := own7.keep fun ad e => o25.2 _ (own7.lt ad e)
    refine ifB_mk (fun hq => ?_) (fun hq => ?_)
    · rw [if_pos hq] at hsucc
      refine app_int own25 (by omega) ?_
      intro a2 c2 h102 own102 s102 old102 hor
      simp only [asSlice_slice]
      refine ⟨a2, n + 1, c2, _, _, rfl, by omega, ⟨by have := ok25.1; omega, fun b hb => ?_⟩, by rw [hsucc]; exact own102, fun b hb => ?_⟩
      · exact (old102 b (by have := ok25.1; omega) (fun ad e eb => by have := hb7 b ⟨ad, e, eb⟩; omega)).trans (ok25.2 b hb)
      · obtain ⟨ad, ea, eb⟩ := hb
        rcases hor with h2 | ⟨bb, h2, h3⟩
        · rw [h2] at ea; exact hb7 b ⟨ad, ea, eb⟩
        · rw [h2] at ea; cases ea
          have := ok25.1
          simp only at eb
          omega
    · rw [if_neg (by rw [hq]; simp), List.append_nil] at hsucc
      exact ⟨o, n, c', _, _, rfl, by omega, ok25, by rw [hsucc]; exact own25, hb7⟩

/-! ### what may be found, as the document has it -/
def stepR (o : Op9) (rs : List Pr) : List (List Pr) :=
  if 0 ≤ o.to then (doR rs (opC o) (opA o)).toList else if o.op = 0 then (doR rs (opC o) ⟨0, 0, 0⟩).toList else if o.op = 1 then (rs.filter fun p => p.1 == minK rs).map fun p => rs.erase p else []
inductive CanR (L : List Op9) : List Int → List Pr → Prop
  | full {T : List Int} {rs : List Pr} (h : fullT L T) : CanR L T rs
  | step {T : List Int} {rs ts : List Pr} {x : Int} (hx : x ∈ nextL L T L.length) (hd : ts ∈ stepR (opAt L x) rs) (h : CanR L (T ++ [x]) ts) : CanR L T rs
theorem mem_minsP_iff {ps : List Pr} (hS : Srt ps) {p : Pr} : p ∈ minsP ps ↔ p ∈ ps ∧ p.1 = leastP ps := by
  cases hps : ps with
  | nil => simp [minsP]
  | cons x r =>
    have := minsP_mem hS hps p
    rw [hps] at this
    exact this
theorem pair_step {o : Op9} {ps rs : List Pr} (hS : Srt ps) (hp : ps.Perm rs) (hop : rightC (opC o) = true) {a : C3} {qs : List Pr} (ha : a ∈ answersP o ps) (hd : doP ps (opC o) a = some qs) : ∃ ts, ts ∈ stepR o rs ∧ Srt qs ∧ qs.Perm ts := by
  have key : ∃ ts, doR rs (opC o) a = some ts ∧ Srt qs ∧ qs.Perm ts := by
    rcases do_perm hS hp (opC o) a with ⟨h1, h2⟩ | ⟨q2, ts, h1, h2, h3, h4⟩
    · rw [h1] at hd; cases hd
    · rw [h1] at hd; cases hd; exact ⟨ts, h2, h3, h4⟩
  unfold stepR
  unfold answersP at ha
  by_cases h0 : 0 ≤ o.to
  · rw [if_pos h0] at ha ⊢
    rw [List.mem_singleton] at ha; subst ha
    obtain ⟨ts, e, h⟩ := key
    exact ⟨ts, by rw [e]; simp, h⟩
  · rw [if_neg h0] at ha ⊢
    by_cases h1 : o.op = 0
    · rw [if_pos h1] at ha ⊢
      rw [List.mem_singleton] at ha; subst ha
      obtain ⟨ts, e, h⟩ := key
      exact ⟨ts, by rw [e]; simp, h⟩
    · rw [if_neg h1] at ha ⊢
      by_cases h2 : o.op = 2
      · rw [if_pos h2] at ha; simp at ha
      · rw [if_neg h2] at ha
        have h3 : o.op = 1 := by
          unfold rightC opC at hop
          simp only [Bool.or_eq_true, Bool.and_eq_true, beq_iff_eq] at hop
          omega
        rw [if_pos h3]
        obtain ⟨p, hpm, rfl⟩ := List.mem_map.1 ha
        obtain ⟨m1, m2⟩ := (mem_minsP_iff hS).1 hpm
        rw [minK_perm hS hp] at m2
        have e : qs = ps.erase p := by
          unfold doP at hd
          split at hd
          · rw [if_neg (show ¬ ((2 : Int) = 0) by decide), if_neg (show ¬ ((2 : Int) = 1) by decide), if_neg (show ¬ ((2 : Int) = 3) by decide), if_pos (show (opC o).o = 1 from h3)] at hd
            cases hd; rfl
          · cases hd
        subst e
        refine ⟨rs.erase p, List.mem_map.2 ⟨p, List.mem_filter.2 ⟨hp.mem_iff.1 m1, by simpa using m2⟩, rfl⟩, erase_srt hS _, hp.erase _⟩
theorem step_pair {o : Op9} {ps rs : List Pr} (hS : Srt ps) (hp : ps.Perm rs) (hop : rightC (opC o) = true) {ts : List Pr} (ht : ts ∈ stepR o rs) : ∃ a qs, a ∈ answersP o ps ∧ doP ps (opC o) a = some qs ∧ Srt qs ∧ qs.Perm ts := by
  have key : ∀ a, doR rs (opC o) a = some ts → ∃ qs, doP ps (opC o) a = some qs ∧ Srt qs ∧ qs.Perm ts := by
    intro a ha
    rcases do_perm hS hp (opC o) a with ⟨h1, h2⟩ | ⟨q2, t2, h1, h2, h3, h4⟩
    · rw [h2] at ha; cases ha
    · rw [h2] at ha; cases ha; exact ⟨q2, h1, h3, h4⟩
  unfold stepR at ht
  unfold answersP
  by_cases h0 : 0 ≤ o.to
  · rw [if_pos h0] at ht ⊢
    obtain ⟨qs, h⟩ := key (opA o) (by simpa using ht)
    exact ⟨_, qs, by simp, h⟩
  · rw [if_neg h0] at ht ⊢
    by_cases h1 : o.op = 0
    · rw [if_pos h1] at ht ⊢
      obtain ⟨qs, h⟩ := key ⟨0, 0, 0⟩ (by simpa using ht)
      exact ⟨_, qs, by simp, h⟩
    · rw [if_neg h1] at ht ⊢
      by_cases h2 : o.op = 1
      · rw [if_pos h2] at ht
        rw [if_neg (by omega)]
        obtain ⟨p, hpm, rfl⟩ := List.mem_map.1 ht
        obtain ⟨m1, m2⟩ := List.mem_filter.1 hpm
        have m3 : p ∈ minsP ps := (mem_minsP_iff hS).2 ⟨hp.mem_iff.2 m1, by rw [minK_perm hS hp]; simpa using m2⟩
        refine ⟨⟨2, p.1, p.2⟩, ps.erase p, List.mem_map.2 ⟨p, m3, rfl⟩, ?_, erase_srt hS _, hp.erase _⟩
        unfold doP
        have hf : fitsB (opC o) ⟨2, p.1, p.2⟩ = true := by
          unfold fitsB
          rw [hop]
          have : (opC o).o = 1 := h2
          rw [this]; rfl
        rw [if_pos hf, if_neg (show ¬ ((2 : Int) = 0) by decide), if_neg (show ¬ ((2 : Int) = 1) by decide), if_neg (show ¬ ((2 : Int) = 3) by decide)]
        rw [if_pos m3, if_pos (show (opC o).o = 1 from h2)]
      · rw [if_neg h2] at ht; simp at ht
/-- Are all calls such as may be? -/
def RightOps (L : List Op9) : Prop := ∀ o ∈ L, rightC (opC o) = true
theorem rightOps_at {L : List Op9} (h : RightOps L) (x : Int) : rightC (opC (opAt L x)) = true := by
  unfold opAt
  rw [List.getD_eq_getElem?_getD]
  by_cases hx : x.toNat < L.length
  · rw [List.getElem?_eq_getElem hx]; exact h _ (List.getElem_mem hx)
  · rw [List.getElem?_eq_none (by omega)]; rfl
theorem canR_of {L : List Op9} (hR : RightOps L) {T : List Int} {ps : List Pr} {w : List Int} (H : Can L T ps w) : ∀ {rs : List Pr}, Srt ps → ps.Perm rs → CanR L T rs := by
  induction H with
  | full h => intro rs _ _; exact .full h
  | step hx ha hd h ih =>
    intro rs hS hp
    obtain ⟨ts, h1, h2, h3⟩ := pair_step hS hp (rightOps_at hR _) ha hd
    exact .step hx h1 (ih h2 h3)
theorem can_of {L : List Op9} (hR : RightOps L) {T : List Int} {rs : List Pr} (H : CanR L T rs) : ∀ {ps : List Pr}, Srt ps → ps.Perm rs → ∃ w, Can L T ps w := by
  induction H with
  | full h => intro rs _ _; exact ⟨[], .full h⟩
  | step hx hd h ih =>
    intro ps hS hp
    obtain ⟨a, qs, h0, h1, h2, h3⟩ := step_pair hS hp (rightOps_at hR _) hd
    obtain ⟨w, hw⟩ := ih h2 h3
    exact ⟨_, .step hx h0 h1 hw⟩
theorem lin_canR {L : List Op9} (hR : RightOps L) : Lin L ↔ CanR L [] [] := ⟨fun ⟨_, h⟩ => canR_of hR h List.Pairwise.nil (List.Perm.refl _), fun h => can_of hR h List.Pairwise.nil (List.Perm.refl _)⟩
end Go.Proofs.Ytlncjcbofgjcfaa
end
section
/- Histories: prefixes; the chapter's example; one thread's calls. -/
set_option linter.unusedSimpArgs false
set_option linter.unusedVariables false
set_option maxRecDepth 20000
namespace Go.Proofs.Ytlncjcbofgjcfaa

/-! ### prefixes of events -/
theorem getD_take {es : List Ev8} {n k : Nat} (h : k < n) : (es.take n).getD k dfE = es.getD k dfE := by
  rw [List.getD_eq_getElem?_getD, List.getElem?_take_of_lt h, List.getD_eq_getElem?_getD]
theorem ansN_take {es : List Ev8} {n q : Nat} (hq : q < n) : ∀ i, i ≤ n → ansN (es.take n) i q = ansN es i q := by
  intro i
  induction i with
  | zero => intro _; rfl
  | succ i ih =>
    intro hi
    rw [ansN_succ, ansN_succ, ih (by omega)]
    unfold thN
    rw [getD_take (by omega), getD_take hq]
theorem inv_take {es : List Ev8} {n : Nat} : ∀ i, i ≤ n → inv (es.take n) i = inv es i := by
  intro i
  induction i with
  | zero => intro _; rfl
  | succ i ih =>
    intro hi
    rw [inv_succ, inv_succ, ih (by omega)]
    unfold bkN
    rw [getD_take (by omega)]
theorem opsAt_take {es : List Ev8} {n i : Nat} (hi : i ≤ n) : opsAt (es.take n) i = opsAt es i := by
  unfold opsAt
  rw [inv_take i hi]
  apply List.map_congr_left
  intro q hq
  have hq' := (inv_lt hq).1
  unfold opEv
  rw [ansN_take (by omega) i hi, getD_take (by omega)]
  cases ha : ansN es i q with
  | none => rfl
  | some k =>
    have := (ansN_some ha).2.1
    simp only
    rw [getD_take (by omega)]
theorem opsE_take {es : List Ev8} {n : Nat} (hn : n ≤ es.length) : opsE (es.take n) = opsAt es n := by
  unfold opsE
  rw [List.length_take, Nat.min_eq_left hn, opsAt_take (Nat.le_refl _)]
theorem opnN_take {es : List Ev8} {n : Nat} (t : Int) : ∀ i, i ≤ n → i ≤ es.length → opnN (es.take n) i t = opnN es i t := by
  intro i
  induction i with
  | zero => intro _ _; rfl
  | succ i ih =>
    intro hi hl
    rw [opnN_succ (by rw [List.length_take]; omega), opnN_succ (by omega), ih (by omega) (by omega), List.getElem_take]
theorem rightH_take {es : List Ev8} (hR : RightH es) (n : Nat) : RightH (es.take n) := by
  intro i hi
  have hi' : i < n ∧ i < es.length := by rw [List.length_take] at hi; omega
  have := hR i hi'.2
  rw [List.getElem_take]
  unfold okE mayB at this ⊢
  rw [opnN_take _ i (by omega) (by omega)]
  cases ho : opnN es i (es[i]).th with
  | none => rw [ho] at this; exact this
  | some k =>
    rw [ho] at this
    have hk := (opnN_lt ho).1
    have : (es.take n).getD k ⟨0, false, zeroC, zeroC⟩ = es.getD k ⟨0, false, zeroC, zeroC⟩ := getD_take (by omega)
    simp only [this]
    assumption
theorem opEv_fr (es : List Ev8) (i q : Nat) : (opEv es i q).fr = q ∧ (opEv es i q).to < i ∧ opC (opEv es i q) = (es.getD q dfE).c := by
  unfold opEv
  cases ha : ansN es i q with
  | none => exact ⟨rfl, by show (-1 : Int) < i; omega, rfl⟩
  | some k => exact ⟨rfl, by have := (ansN_some ha).2.1; show (k : Int) < i; omega, rfl⟩
theorem lin_pre {es : List Ev8} (hR : RightH es) {n : Nat} (hn : n < es.length) (H : Lin (opsAt es (n + 1))) : Lin (opsAt es n) := by
  obtain ⟨w, hw⟩ := H
  have hok := hR n hn
  unfold okE mayB at hok
  have hlast : ∀ a ∈ opsAt es n, a.to < (n : Int) ∧ a.fr < (n : Int) := by
    intro a ha
    unfold opsAt at ha
    obtain ⟨q, hq, rfl⟩ := List.mem_map.1 ha
    have := opEv_fr es n q
    have := (inv_lt hq).1
    omega
  cases hbk : (es[n]).bk with
  | false =>
    rw [hbk] at hok
    simp only [Bool.false_eq_true, if_false, Bool.and_eq_true, Option.isNone_iff_eq_none] at hok
    have hop := hok.1.2.2
    rw [ops_inv hn (by rw [bkN_get hn]; exact hbk) (by rw [thN_get hn]; exact hop)] at hw
    exact can_drop (fun a ha => (hlast a ha).1) hw (fun y hy => by simp at hy)
  | true =>
    rw [hbk] at hok
    simp only [if_true, Bool.and_eq_true] at hok
    cases hop : opnN es n (es[n]).th with
    | none => rw [hop] at hok; simp at hok
    | some q =>
      have hop' : opnN es n (thN es n) = some q := by rw [thN_get hn]; exact hop
      rw [ops_ans hn (by rw [bkN_get hn]; exact hbk) hop'] at hw
      obtain ⟨h1, h2, h3, h4⟩ := opnN_lt hop
      have hat := inv_at (es := es) (q := q) (by rw [bkN_get h2]; exact h4) n h1
      have hk : (inv es q).length < (opsAt es n).length := by
        unfold opsAt
        rw [List.length_map]; exact (List.getElem?_eq_some_iff.1 hat).1
      have hget : (opsAt es n)[(inv es q).length] = opEv es n q := by
        have : (opsAt es n)[(inv es q).length]? = some (opEv es n q) := by
          unfold opsAt
          rw [List.getElem?_map, hat]; rfl
        exact (List.getElem?_eq_some_iff.1 this).2
      have hans := ans_of_opn n (by omega) hop
      have hfr := opEv_fr es n q
      refine can_unans hk (n := n) (by omega) (fun a ha => (hlast a ha).2) ?_ rfl ?_ ?_ hw (S := []) (fun y _ => Iff.rfl) (fun h => h)
      · rw [hget]
        unfold opEv
        rw [hans]
        show (-1 : Int) < 0
        omega
      · rw [hget, hfr.2.2]; rfl
      · rw [hget, hfr.1]
theorem inR_ops {es : List Ev8} (hE : ∀ e ∈ es, InE e) {n : Nat} (hn : n ≤ es.length) : ∀ o ∈ opsAt es n, InR o.key ∧ InR o.val := by
  intro o ho
  unfold opsAt at ho
  obtain ⟨q, hq, rfl⟩ := List.mem_map.1 ho
  have h1 := (inv_lt hq).1
  have h2 := (opEv_fr es n q).2.2
  rw [List.getD_eq_getElem?_getD, List.getElem?_eq_getElem (show q < es.length by omega)] at h2
  have h3 := (hE _ (List.getElem_mem (show q < es.length by omega))).1
  simp only [Option.getD_some] at h2
  rw [← h2] at h3
  exact h3
theorem rightOps_of {es : List Ev8} (hR : RightH es) : RightOps (opsE es) := by
  intro o ho
  unfold opsE opsAt at ho
  obtain ⟨q, hq, rfl⟩ := List.mem_map.1 ho
  obtain ⟨h1, hb⟩ := inv_lt hq
  have h2 := (opEv_fr es es.length q).2.2
  rw [List.getD_eq_getElem?_getD, List.getElem?_eq_getElem h1] at h2
  simp only [Option.getD_some] at h2
  rw [h2]
  have := hR q h1
  rw [bkN_get h1] at hb
  unfold okE mayB at this
  rw [hb] at this
  simp only [Bool.false_eq_true, if_false, Bool.and_eq_true] at this
  exact this.1.2.1

/-! ### the chapter's example -/
def es15 : List Ev8 := [⟨0, false, ⟨0, 1, 0⟩, zeroC⟩, ⟨0, true, zeroC, ⟨0, 0, 0⟩⟩, ⟨1, false, ⟨1, 0, 0⟩, zeroC⟩, ⟨1, true, zeroC, ⟨3, 0, 0⟩⟩]
theorem rightH15 : RightH es15 := by
  intro i hi
  have : i = 0 ∨ i = 1 ∨ i = 2 ∨ i = 3 := by
    have : es15.length = 4 := rfl
    omega
  rcases this with rfl | rfl | rfl | rfl <;> rfl
theorem ops15 : opsE es15 = [⟨0, 0, 1, 0, 0, 0, 0, 0, 1⟩, ⟨1, 1, 0, 0, 3, 0, 0, 2, 3⟩] := by rfl
theorem not_lin15 : ¬ Lin (opsE es15) := by
  rw [ops15, lin_alone]
  · decide
  · intro i hi
    have : i = 0 ∨ i = 1 := by simp at hi; omega
    rcases this with rfl | rfl <;> exact ⟨rfl, rfl⟩
theorem lives15_call {K : Value → Heap → Prop} {h : Heap} (k : ∀ h', Old h.size h h' → K (.bool true) h') : CallH Try.prog 24 #[] h K := by
  refine call24 ?_
  unfold F24
  have p1 := pushed h (es15.flatMap Ev8.cells).toArray 71
  rw [show h.push (.cells #[.int .i64 0, .bool false, .int .i64 0, .int .u32 1, .int .u32 0, .int .i64 0, .int .u32 0, .int .u32 0, .int .i64 0, .bool true, .int .i64 0, .int .u32 0, .int .u32 0, .int .i64 0, .int .u32 0, .int .u32 0, .int .i64 1, .bool false, .int .i64 1, .int .u32 0, .int .u32 0, .int .i64 0, .int .u32 0, .int .u32 0, .int .i64 1, .bool true, .int .i64 0, .int .u32 0, .int .u32 0, .int .i64 3, .int .u32 0, .int .u32 0] 71) = h.push (.cells (es15.flatMap Ev8.cells).toArray 71) from rfl]
  generalize h.push (.cells (es15.flatMap Ev8.cells).toArray 71) = h1 at *
  have S1 : SV h1 (some ⟨h.size, 0, none⟩) 4 4 es15 := ⟨fun j v hj => ⟨_, rfl, by rw [add_lit, cellAt_of p1.new, List.getElem?_toArray, Nat.zero_add]; exact hj⟩, rfl, Nat.le_refl _⟩
  refine callV_fn (history_call S1 (by omega) (fun o ho => ?_) (fun _ hl _ _ => absurd hl not_lin15) (fun _ _ h2 o2 => ?_) (fun hn _ _ => absurd rightH15 hn))
  · rw [ops15] at ho
    simp only [List.mem_cons, List.not_mem_nil, or_false] at ho
    rcases ho with rfl | rfl <;> exact ⟨⟨by decide, by decide⟩, ⟨by decide, by decide⟩⟩
  · simp only [asTup_tuple]
    refine elemH_mk rfl ?_
    simp only [asBool_bool]
    refine elemH_mk rfl ?_
    simp only [asInt_int, Bool.not_false, ifB_true]
    exact k h2 (p1.toOld.trans (o2.mono p1.toOld.1))

/-! ### 15.2: prefixes -/
def badE (key : Int) : List Ev8 := [⟨0, false, ⟨1, 0, 0⟩, zeroC⟩, ⟨0, true, zeroC, ⟨2, key, 0⟩⟩]
theorem rightBad (key : Int) : RightH (badE key) := by
  intro i hi
  have : i = 0 ∨ i = 1 := by
    have : (badE key).length = 2 := rfl
    omega
  rcases this with rfl | rfl <;> rfl
theorem opsBad (key : Int) : opsE (badE key) = [⟨0, 1, 0, 0, 2, key, 0, 0, 1⟩] := by rfl
theorem not_linBad (key : Int) : ¬ Lin (opsE (badE key)) := by
  rw [opsBad, lin_alone]
  · show ¬ ((doP [] ⟨1, 0, 0⟩ ⟨2, key, 0⟩).bind (legD [])).isSome = true
    have : doP [] ⟨1, 0, 0⟩ ⟨2, key, 0⟩ = none := by
      unfold doP
      split
      · simp [minsP]
      · rfl
    rw [this]; simp
  · intro i hi
    have : i = 0 := by simp at hi; omega
    subst this
    exact ⟨rfl, rfl⟩
theorem SV.take {h : Heap} {a : Option Addr} {l c : Nat} {es : List Ev8} (H : SV h a l c es) {n : Nat} (hn : n ≤ l) : SV h a n c (es.take n) := by
  refine ⟨fun j v hj => H.s j v ?_, by rw [List.length_take, H.len]; omega, by have := H.cap; omega⟩
  have hlt := (List.getElem?_eq_some_iff.1 hj).1
  rw [← hj]
  have : es.flatMap Ev8.cells = (es.take n).flatMap Ev8.cells ++ (es.drop n).flatMap Ev8.cells := by rw [← List.flatMap_append, List.take_append_drop]
  rw [this, List.getElem?_append_left hlt]
theorem inR0 : InR 0 := ⟨by decide, by decide⟩
theorem lin_nil : Lin [] := ⟨[], .full fun y y0 y1 _ => by simp at y1; omega⟩
theorem prefixes_body {K : Value → Heap → Prop} {h : Heap} {a : Option Addr} {l c : Nat} {key : Int} {es : List Ev8} (H : SV h a l c es) (hE : ∀ e ∈ es, InE e)
    (k : ∀ h', Old h.size h h' → K (.bool true) h') : F7 K h a l c key := by
  unfold F7
  have hlen := H.len
  refine ifB_dec (fun hgt => callV_fn (lives15_call fun h' o => by simp only [asBool_bool]; exact k h' o)) (fun hle => ?_)
  refine ⟨fun vs h' => ∃ v0 w1 w2 w3, ∃ n : Nat, ∃ was : Bool, vs = [v0, .bool was, .int .i64 ((n : Int) - 1), w1, w2, w3] ∧ n ≤ l + 1 ∧ Old h.size h h' ∧ (was = true → n ≤ l ∧ Lin (opsAt es n)) ∧ (n ≤ l → RightH es) ∧ (n = 0 → was = true),
    fun vs _ => (match vs with | [_, _, .int _ n, _, _, _] => (n + 1).toNat | _ => 0),
    ⟨_, _, _, _, l + 1, false, by rw [show ((l + 1 : Nat) : Int) - 1 = (l : Int) by omega], Nat.le_refl _, Old.refl _ _, fun h => (by cases h), fun h => by omega, fun h => by omega⟩, ?_⟩
  rintro v5 v6 v7 v8 v9 v10 g11 h12 ⟨v0, w1, w2, w3, n, was, e, hn, o12, hwas, hRi, hz⟩
  cases e
  simp only [asInt_int, asBool_bool]
  refine ifB_dec (fun hge => ?_) (fun hlt => ?_)
  · obtain ⟨m, rfl⟩ : ∃ m, n = m + 1 := ⟨n - 1, by omega⟩
    rw [show ((m + 1 : Nat) : Int) - 1 = (m : Int) by omega]
    refine ⟨fun vs h' => ∃ v0 w1 w2 w3, ∃ was' : Bool, vs = [v0, .bool was', w1, w2, w3] ∧ Old h.size h h' ∧ (was' = true → Lin (opsAt es m)) ∧ RightH es ∧ (m = 0 → was' = true), ?_, ?_⟩
    rotate_left
    · rintro v36 v37 v38 v39 v40 g41 h42 ⟨_, _, _, _, was', e, o42, x1, x2, x3⟩
      cases e
      rw [wrap64_id' (by omega) (by omega)]
      exact ⟨⟨_, _, _, _, m, was', rfl, by omega, o42, fun hw => ⟨by omega, x1 hw⟩, fun _ => x2, x3⟩, by show ((m : Int) - 1 + 1).toNat < ((m : Int) + 1).toNat; omega⟩
    refine ⟨by omega, by have := H.cap; omega, ?_⟩
    rw [Int.toNat_natCast, Nat.sub_zero, Nat.sub_zero, subA_zero]
    have hml : m ≤ es.length := by omega
    have hops := opsE_take (es := es) hml
    refine callV_fn (history_call ((H.old o12).take (n := m) (by omega)) (by omega) (fun o ho => ?_) (fun hr hl h17 o17 => ?_) (fun hr hl h17 o17 => ?_) (fun hr h17 o17 => ?_))
    · rw [hops] at ho
      exact inR_ops hE hml o ho
    · rw [hops] at hl
      simp only [asTup_tuple]
      refine elemH_mk rfl ?_
      simp only [asBool_bool]
      refine elemH_mk rfl ?_
      simp only [asInt_int]
      have hr2 : RightH es := by
        by_cases e : m + 1 ≤ l
        · exact hRi e
        · rw [List.take_of_length_le (by omega)] at hr; exact hr
      have ok17 := o12.trans (o17.mono o12.1)
      refine ⟨fun vs h' => vs = [.bool false] ∧ h' = h17, ?_, ?_⟩
      · cases was <;> exact ⟨rfl, by trivial⟩
      rintro v31 g32 h33 ⟨e, rfl⟩
      cases e
      simp only [asBool_bool, ifB_false]
      cases was <;> exact ⟨_, _, _, _, true, rfl, ok17, fun _ => hl, hr2, fun _ => rfl⟩
    · rw [hops] at hl
      simp only [asTup_tuple]
      refine elemH_mk rfl ?_
      simp only [asBool_bool]
      refine elemH_mk rfl ?_
      simp only [asInt_int]
      have hr2 : RightH es := by
        by_cases e : m + 1 ≤ l
        · exact hRi e
        · rw [List.take_of_length_le (by omega)] at hr; exact hr
      have ok17 := o12.trans (o17.mono o12.1)
      have hw : was = false := by
        cases was with
        | false => rfl
        | true => exact absurd (lin_pre hr2 (by have := (hwas rfl).1; omega) (hwas rfl).2) hl
      subst hw
      refine ⟨fun vs h' => vs = [.bool false] ∧ h' = h17, ⟨rfl, by trivial⟩, ?_⟩
      rintro v31 g32 h33 ⟨e, rfl⟩
      cases e
      simp only [asBool_bool, ifB_false]
      refine ⟨_, _, _, _, false, rfl, ok17, fun h => (by cases h), hr2, fun h0 => ?_⟩
      subst h0
      exact absurd lin_nil hl
    · simp only [asTup_tuple]
      refine elemH_mk rfl ?_
      simp only [asBool_bool]
      refine elemH_mk rfl ?_
      simp only [asInt_int]
      rw [show ((11 : Int) != 0) = true from rfl]
      simp only [ifB_true]
      have hm : l < m + 1 := by
        apply Decidable.byContradiction
        intro h
        exact hr (rightH_take (hRi (by omega)) m)
      have hw : was = false := by
        cases was with
        | false => rfl
        | true => have := (hwas rfl).1; omega
      subst hw
      simp only [Bool.not_false, ifB_true]
      have ok17 := o12.trans (o17.mono o12.1)
      refine ifB_dec (fun hp => ?_) (fun hp => ?_)
      · refine callV_fn (lives15_call fun h' o => ?_)
        simp only [asBool_bool]
        exact k h' (ok17.trans (o.mono ok17.1))
      · exfalso
        have : m = 0 := by omega
        subst this
        exact hr (fun i hi => by simp at hi)
  · have hn0 : n = 0 := by omega
    have hw := hz hn0
    subst hw
    have p1 := pushed h12 ((badE key).flatMap Ev8.cells).toArray 71
    rw [show h12.push (.cells #[.int .i64 0, .bool false, .int .i64 1, .int .u32 0, .int .u32 0, .int .i64 0, .int .u32 0, .int .u32 0, .int .i64 0, .bool true, .int .i64 0, .int .u32 0, .int .u32 0, .int .i64 2, .int .u32 key, .int .u32 0] 71) = h12.push (.cells ((badE key).flatMap Ev8.cells).toArray 71) from rfl]
    generalize h12.push (.cells ((badE key).flatMap Ev8.cells).toArray 71) = h13 at *
    have S1 : SV h13 (some ⟨h12.size, 0, none⟩) 2 2 (badE key) := ⟨fun j v hj => ⟨_, rfl, by rw [add_lit, cellAt_of p1.new, List.getElem?_toArray, Nat.zero_add]; exact hj⟩, rfl, Nat.le_refl _⟩
    have o13 : Old h.size h h13 := o12.trans (p1.toOld.mono o12.1)
    refine callV_fn (history_call S1 (by omega) (fun o ho => ?_) (fun _ hl _ _ => absurd hl (not_linBad key)) (fun _ _ h2 o2 => ?_) (fun hn _ _ => absurd (rightBad key) hn))
    · rw [opsBad] at ho
      simp only [List.mem_cons, List.not_mem_nil, or_false] at ho
      subst ho
      exact ⟨inR0, inR0⟩
    · simp only [asTup_tuple]
      refine elemH_mk rfl ?_
      simp only [asBool_bool]
      refine elemH_mk rfl ?_
      simp only [asInt_int, Bool.not_false, ifB_true]
      rw [show ((0 : Int) == 0) = true from rfl]
      simp only [ifB_true]
      have o2' := o13.trans (o2.mono o13.1)
      refine callV_fn (lives15_call fun h' o => ?_)
      simp only [asBool_bool]
      exact k h' (o2'.trans (o.mono o2'.1))
end Go.Proofs.Ytlncjcbofgjcfaa
end
section
/- The document's search walks all that may be. -/
set_option linter.unusedSimpArgs false
set_option linter.unusedVariables false
set_option maxRecDepth 20000
namespace Go.Proofs.Ytlncjcbofgjcfaa

theorem inRow_congr {l : Nat} {A B : List Int} (h : ∀ y : Nat, y < l → ((y : Int) ∈ A ↔ (y : Int) ∈ B)) : inRow l A = inRow l B := by
  apply List.ext_getElem (by simp)
  intro i h1 h2
  have hi : i < l := by simpa using h1
  simp only [inRow, List.getElem_map, List.getElem_range]
  rw [show decide ((i : Int) ∈ A) = decide ((i : Int) ∈ B) by rw [decide_eq_decide]; exact h i hi]
theorem inRow_put {l k : Nat} {A B : List Int} {b : Bool} (hk : k < l) (h1 : b = decide ((k : Int) ∈ B)) (h2 : ∀ y : Nat, y ≠ k → ((y : Int) ∈ B ↔ (y : Int) ∈ A)) : (inRow l A).toArray.setIfInBounds k (.bool b) = (inRow l B).toArray := by
  rw [List.setIfInBounds_toArray]
  congr 1
  apply List.ext_getElem (by simp)
  intro i h3 h4
  rw [List.getElem_set]
  have hi : i < l := by simpa using h4
  simp only [inRow, List.getElem_map, List.getElem_range]
  by_cases e : k = i
  · subst e
    rw [if_pos rfl, h1]
  · rw [if_neg e]
    rw [show decide ((i : Int) ∈ B) = decide ((i : Int) ∈ A) by rw [decide_eq_decide]; exact h2 i (fun h => e h.symm)]
def leftW (L : List Op9) (T : List Int) (i : Nat) : Bool := (ints i).any fun y => decide (0 ≤ (opAt L y).to) && !decide (y ∈ T)
theorem leftW_succ (L : List Op9) (T : List Int) (i : Nat) : leftW L T (i + 1) = (leftW L T i || (decide (0 ≤ (opAt L i).to) && !decide ((i : Int) ∈ T))) := by
  unfold leftW; rw [ints_snoc, List.any_append]; simp
theorem leftW_iff (L : List Op9) (T : List Int) : leftW L T L.length = false ↔ fullT L T := by
  unfold leftW fullT
  rw [List.any_eq_false]
  constructor
  · intro h y y0 y1 y2
    have := h y (ints_mem.2 ⟨y0, y1⟩)
    simpa [y2] using this
  · intro h y hy
    obtain ⟨y0, y1⟩ := ints_mem.1 hy
    by_cases y2 : 0 ≤ (opAt L y).to
    · simp [h y y0 y1 y2]
    · simp [y2]
def SomeOK (L : List Op9) (fuel : Nat) : Prop :=
  ∀ {K : Value → Heap → Prop} {h : Heap} {a : Option Addr} {c b cr : Nat} {ar : Option Addr} {T : List Int} {rs : List Pr}, L.length ≤ T.length + fuel → SlO h a L.length c L → h[b]? = some (.cells (inRow L.length T).toArray 4) → OwnR h ar rs.length cr rs → T.Nodup → (∀ y ∈ T, 0 ≤ y ∧ y < L.length) → rs.length ≤ T.length →
    (CanR L T rs → ∀ h', Old h.size h h' → K (.bool true) h') → (¬ CanR L T rs → ∀ h', Old h.size h h' → K (.bool false) h') →
    CallH Try.prog 47 #[.slice a L.length c, .slice (some ⟨b, 0, none⟩) L.length L.length, .slice ar rs.length cr] h K
theorem some_step {L : List Op9} (hL : L.length ≤ 48) {fuel : Nat} (ih : ∀ f, f + 1 = fuel → SomeOK L f) : SomeOK L fuel := by
  intro K h a c b cr ar T rs hf H hb own nd hr hrl k1 k0
  refine call47 ?_
  unfold F47
  have hbl := (Array.getElem?_eq_some_iff.1 hb).1
  refine ⟨fun vs h' => ∃ i : Nat, vs = [.bool (leftW L T i), iv i] ∧ i ≤ L.length ∧ h' = h, fun vs _ => (match vs with | [_, .int _ n] => L.length - n.toNat | _ => 0), ⟨0, rfl, Nat.zero_le _, rfl⟩, ?_⟩
  rintro v2 v3 g4 h5 ⟨i, e, hi, rfl⟩
  cases e
  simp only [asInt_int, asBool_bool]
  refine ifB_dec (fun hlt => ?_) (fun hge => ?_)
  · have hi' : i < L.length := by omega
    refine ⟨fun vs h' => vs = [.bool (leftW L T (i + 1))] ∧ h' = h5, ?_, ?_⟩
    rotate_left
    · rintro v17 g18 h19 ⟨e, rfl⟩
      cases e
      rw [nat_wrap1 (by omega)]
      exact ⟨⟨i + 1, rfl, by omega, by trivial⟩, by show L.length - ((i + 1 : Nat) : Int).toNat < L.length - (i : Int).toNat; omega⟩
    rw [leftW_succ, opAt_nat hi']
    refine ifB_mk (fun hl => ⟨by rw [hl, Bool.true_or], by trivial⟩) (fun hl => ?_)
    obtain ⟨ad, rfl, d0, d1⟩ := H.at hi'
    refine ⟨by omega, hlt, ?_⟩
    simp only [asPtr_some, Int.toNat_natCast]
    refine ldH_mk (d1 8 _ rfl) ?_
    simp only [asInt_int]
    refine ifB_dec (fun hto => ?_) (fun hto => ?_)
    · refine ⟨by omega, hlt, ?_⟩
      refine ldH_mk (mark_at hb (by omega) hlt) ?_
      simp only [asBool_bool]
      exact ⟨by rw [hl, decide_eq_true (show 0 ≤ (L[i]).to by omega)]; simp, by trivial⟩
    · exact ⟨by rw [hl, decide_eq_false (show ¬ 0 ≤ (L[i]).to by omega)]; simp, by trivial⟩
  obtain rfl : i = L.length := by omega
  refine ifB_mk (fun hl => ?_) (fun hl => ?_)
  · exact k1 (.full ((leftW_iff L T).1 (by simpa using hl))) h5 (Old.refl _ _)
  have hnf : ¬ fullT L T := fun h => by
    rw [(leftW_iff L T).2 h] at hl; cases hl
  refine callV_fn (refNext_call H (by omega) hb fun na nn nc h23 R23 o23 => ?_)
  simp only [asSlice_slice]
  have hnl := R23.len
  have hmem : ∀ x ∈ nextL L T L.length, (0 ≤ x ∧ x < L.length) ∧ x ∉ T := fun x hx => ⟨(mem_nextL.1 hx).1, (mem_nextL.1 hx).2.1⟩
  have hmemX : ∀ x, x ∈ nextL L T L.length ↔ x ∈ nextL L T L.length := fun x => Iff.rfl
  generalize hX : nextL L T L.length = X at *
  have hXl : X.length ≤ 48 := by
    rw [← hX]
    unfold nextL
    have h1 := List.length_filter_le (freeF L T L.length) ((ints L.length).filter fun y => !decide (y ∈ T))
    have h2 := List.length_filter_le (fun y => !decide (y ∈ T)) (ints L.length)
    have h3 : (ints L.length).length = L.length := by simp [ints]
    omega
  refine ⟨fun vs h' => ∃ w0 w2 w3 w4 w5 w6 w7 w8 w9 w10 w11 w12 w13, ∃ i : Nat, vs = [w0, iv i, w2, w3, w4, w5, w6, w7, w8, w9, w10, w11, w12, w13] ∧ i ≤ nn ∧ Old h23.size h23 h' ∧ ∀ j (hj : j < X.length), j < i → ∀ ts ∈ stepR (opAt L X[j]) rs, ¬ CanR L (T ++ [X[j]]) ts,
    fun vs _ => (match vs with | [_, .int _ n, _, _, _, _, _, _, _, _, _, _, _, _] => nn - n.toNat | _ => 0),
    ⟨_, _, _, _, _, _, _, _, _, _, _, _, _, 0, rfl, Nat.zero_le _, Old.refl _ _, fun j _ h => by omega⟩, ?_⟩
  rintro v29 v30 v31 v32 v33 v34 v35 v36 v37 v38 v39 v40 v41 v42 g43 h44 ⟨w0, w2, w3, w4, w5, w6, w7, w8, w9, w10, w11, w12, w13, i, e, hin, o44, hno⟩
  cases e
  simp only [asInt_int, asI_int]
  have ok44 : Old h5.size h5 h44 := o23.trans (o44.mono o23.1)
  refine ifB_dec (fun hlt => ?_) (fun hge => ?_)
  rotate_left
  · refine k0 (fun hc => ?_) h44 ok44
    cases hc with
    | full hfu => exact hnf hfu
    | step hx hd hc =>
      rw [hX] at hx
      obtain ⟨j, hj, rfl⟩ := List.getElem_of_mem hx
      exact hno j hj (by omega) _ hd hc
  have hi' : i < X.length := by omega
  refine ⟨fun vs h' => ∃ w0 w1 w2 w3 w4 w5 w6 w7 w8 w9 w10 w11 w12, vs = [w0, w1, w2, w3, w4, w5, w6, w7, w8, w9, w10, w11, w12] ∧ Old h23.size h23 h' ∧ ∀ ts ∈ stepR (opAt L X[i]) rs, ¬ CanR L (T ++ [X[i]]) ts, ?_, ?_⟩
  rotate_left
  · rintro v193 v194 v195 v196 v197 v198 v199 v200 v201 v202 v203 v204 v205 g206 h207 ⟨w0, w1, w2, w3, w4, w5, w6, w7, w8, w9, w10, w11, w12, e, o207, hx⟩
    cases e
    rw [nat_wrap1 (by omega)]
    refine ⟨⟨_, _, _, _, _, _, _, _, _, _, _, _, _, i + 1, rfl, by omega, o207, fun j hj hji => ?_⟩, by show nn - ((i + 1 : Nat) : Int).toNat < nn - (i : Int).toNat; omega⟩
    by_cases e : j = i
    · subst e; exact hx
    · exact hno j hj (by omega)
  refine ⟨by omega, hlt, ?_⟩
  obtain ⟨adx, rfl, hcx⟩ := (R23.old o44).at hi'
  simp only [asPtr_some, Int.toNat_natCast, Nat.mul_one]
  refine ldH_mk hcx ?_
  simp only [asInt_int]
  obtain ⟨⟨x0, x1⟩, hxT⟩ := hmem X[i] (List.getElem_mem hi')
  have hxn : X[i] ∈ nextL L T L.length := by rw [hX]; exact List.getElem_mem hi'
  obtain ⟨x, hxe⟩ : ∃ x, X[i] = x := ⟨_, rfl⟩
  rw [hxe] at x0 x1 hxT hxn hcx ⊢
  have hTl2 : T.length + 1 ≤ L.length := by
    have := range_len (T := x :: T) (n := L.length) (List.nodup_cons.2 ⟨hxT, nd⟩) (fun y hy => by
      rcases List.mem_cons.1 hy with rfl | hy
      · exact ⟨x0, x1⟩
      · exact hr y hy)
    simpa using this
  obtain ⟨f, hfe⟩ : ∃ f, f + 1 = fuel := ⟨fuel - 1, by omega⟩
  have ih : SomeOK L f := ih f hfe
  refine ⟨x0, x1, ?_⟩
  obtain ⟨bd, rfl, d0, d1⟩ := (H.old ok44).int x0 x1
  simp only [asPtr_some]
  generalize ho : opAt L x = o at *
  refine ldH_mk (d1 0 _ rfl) (ldH_mk (d1 1 _ rfl) (ldH_mk (d1 2 _ rfl) (ldH_mk (d1 3 _ rfl) (ldH_mk (d1 4 _ rfl) (ldH_mk (d1 5 _ rfl) (ldH_mk (d1 6 _ rfl) (ldH_mk (d1 7 _ rfl) (ldH_mk (d1 8 _ rfl) ?_))))))))
  have p9 := pushed h44 zs9.toArray 65
  rw [show h44.push (.cells #[.int .i64 0, .int .i64 0, .int .u32 0, .int .u32 0, .int .i64 0, .int .u32 0, .int .u32 0, .int .i64 0, .int .i64 0] 65) = h44.push (.cells zs9.toArray 65) from rfl]
  generalize h44.push (.cells zs9.toArray 65) = h45 at *
  refine st9 (stN_full (vs := o.cells) p9.new rfl (cells9_one o) fun h69 w69 => ?_)
  have o69 : Old h44.size h44 h69 := w69.toOld p9.toOld (Nat.le_refl _)
  have ob69 : h69[h44.size]? = some (.cells o.cells.toArray 65) := w69.new
  refine make_bool (l := L.length) (by omega) ?_
  simp only [asSlice_slice]
  have p71 := pushed h69 (inRow L.length []).toArray 4
  generalize h69.push (.cells (inRow L.length []).toArray 4) = h71 at *
  have s71 := p71.size
  have s69 : h44.size < h69.size := (Array.getElem?_eq_some_iff.1 ob69).1
  have ok69 : Old h5.size h5 h69 := ok44.trans (o69.mono ok44.1)
  have s44 := ok44.1
  -- the marks, with one more
  refine ⟨fun vs h' => ∃ k : Nat, vs = [iv k] ∧ k ≤ L.length ∧ h'.size = h71.size ∧ (∀ b, b < h69.size → h'[b]? = h69[b]?) ∧ h'[h69.size]? = some (.cells (inRow L.length ((T ++ [x]).filter fun y => decide (y < k))).toArray 4),
    fun vs _ => (match vs with | [.int _ n] => L.length - n.toNat | _ => 0), ⟨0, rfl, Nat.zero_le _, rfl, fun b hb => p71.old b hb, ?_⟩, ?_⟩
  · rw [p71.new]
    congr 2
    congr 1
    refine inRow_congr fun y _ => ?_
    simp
    all_goals (intro _; omega)
  rintro v77 g78 h79 ⟨q, e, hq, s79, old79, row79⟩
  cases e
  simp only [asInt_int, asI_int]
  have s5 := ok69.1
  have ok79 : Old h5.size h5 h79 := ⟨by omega, fun b hb => (old79 b (by omega)).trans (ok69.2 b hb)⟩
  refine ifB_dec (fun hqlt => ?_) (fun hqge => ?_)
  · refine ⟨fun vs h' => vs = [] ∧ h'.size = h71.size ∧ (∀ b, b < h69.size → h'[b]? = h69[b]?) ∧ h'[h69.size]? = some (.cells (inRow L.length ((T ++ [x]).filter fun y => decide (y < (q + 1 : Nat)))).toArray 4), ?_, ?_⟩
    rotate_left
    · rintro g96 h97 ⟨_, z1, z2, z3⟩
      rw [nat_wrap1 (by omega)]
      exact ⟨⟨q + 1, rfl, by omega, z1, z2, z3⟩, by show L.length - ((q + 1 : Nat) : Int).toNat < L.length - (q : Int).toNat; omega⟩
    have hmk := mark_at (x := (q : Int)) ((ok79.2 _ hbl).trans hb) (by omega) hqlt
    have fin : ∀ bb : Bool, bb = decide ((q : Int) ∈ T ++ [x]) → ∀ (K2 : Heap → Prop), (∀ h', h'.size = h71.size → (∀ b, b < h69.size → h'[b]? = h69[b]?) → h'[h69.size]? = some (.cells (inRow L.length ((T ++ [x]).filter fun y => decide (y < (q + 1 : Nat)))).toArray 4) → K2 h') → stH h79 (Addr.add ⟨h69.size, 0, none⟩ q) (.bool bb) K2 := by
      intro bb hbb K2 k2
      rw [add_lit, Nat.zero_add]
      refine stH_mk row79 (by rw [inRow_size]; omega) trivial ?_
      intro h' eh'
      subst eh'
      refine k2 _ (by simp [s79]) (fun b hb => (set_old (show b ≠ h69.size from Nat.ne_of_lt hb)).trans (old79 b hb)) ?_
      rw [set_new (by omega)]
      rw [inRow_put (by omega) ?_ ?_]
      · rw [hbb, decide_eq_decide, List.mem_filter]
        simp
        intro _; omega
      · intro y hy
        rw [List.mem_filter, List.mem_filter, decide_eq_true_eq, decide_eq_true_eq]
        constructor
        · rintro ⟨h1, h2⟩; exact ⟨h1, by omega⟩
        · rintro ⟨h1, h2⟩; exact ⟨h1, by omega⟩
    refine ⟨by omega, hqlt, ?_⟩
    simp only [asPtr_some, Int.toNat_natCast, Nat.mul_one] at hmk ⊢
    refine ldH_mk hmk ?_
    simp only [asBool_bool]
    refine ifB_mk (fun hm => ?_) (fun hm => ?_)
    · refine ⟨by omega, hqlt, ?_⟩
      refine fin true ?_ _ fun h' z1 z2 z3 => ⟨by first | rfl | trivial, z1, z2, z3⟩
      have : (q : Int) ∈ T := by simpa using hm
      rw [decide_eq_true (List.mem_append_left _ this)]
    · have hm' : (q : Int) ∉ T := by simpa using hm
      refine ⟨by omega, hlt, ?_⟩
      have hcx79 : cellAt h79 (adx.add i) = some (iv x) := by
        have hlt2 := cellAt_lt hcx
        refine (cellAt_congr ?_).trans hcx
        exact (old79 _ (by omega)).trans (o69.2 _ hlt2)
      refine ldH_mk hcx79 ?_
      simp only [asInt_int]
      refine ⟨by omega, hqlt, ?_⟩
      refine fin ((q : Int) == x) ?_ _ fun h' z1 z2 z3 => ⟨by first | rfl | trivial, z1, z2, z3⟩
      by_cases e : (q : Int) = x
      · rw [decide_eq_true (by rw [e]; simp), e]; simp
      · rw [decide_eq_false (by simp [hm', e])]; simpa using e
  obtain rfl : q = L.length := by omega
  have rowD : h79[h69.size]? = some (.cells (inRow L.length (T ++ [x])).toArray 4) := by
    rw [row79]
    congr 2
    congr 1
    refine inRow_congr fun y hy => ?_
    rw [List.mem_filter, decide_eq_true_eq]
    exact ⟨fun h => h.1, fun h => ⟨h, by omega⟩⟩
  have ob79 : h79[h44.size]? = some (.cells o.cells.toArray 65) := (old79 _ (by omega)).trans ob69
  have H79 := H.old ok79
  have own79 : OwnR h79 ar rs.length cr rs := own.keep fun ad e => ok79.2 _ (own.lt ad e)
  have nd' : (T ++ [x]).Nodup := List.nodup_append.2 ⟨nd, by simp, fun y hy z hz e => by rw [List.mem_singleton.1 hz] at e; exact hxT (e ▸ hy)⟩
  have hr' : ∀ y ∈ T ++ [x], 0 ≤ y ∧ y < L.length := fun y hy => by
    rcases List.mem_append.1 hy with hy | hy
    · exact hr y hy
    · rw [List.mem_singleton.1 hy]; exact ⟨x0, x1⟩
  have o79 : Old h23.size h23 h79 := o44.trans (⟨by omega, fun b hb => (old79 b (by have := o44.1; omega)).trans (o69.2 b (by have := o44.1; omega))⟩)
  have hTx : (T ++ [x]).length = T.length + 1 := by simp
  refine ldR ob79 rfl ?_
  simp only [asInt_int]
  have stR' : stepR o rs = stepR o rs := rfl
  refine ifB_dec (fun hto => ?_) (fun hto => ?_)
  · -- it is answered
    refine ldR ob79 rfl ?_
    rw [add_lit, add_lit, add_lit, add_lit]
    refine ldR ob79 rfl (ldR ob79 rfl (ldR ob79 rfl (ldR ob79 rfl (ldR ob79 rfl ?_))))
    refine callV_fn (refDo_call (c3 := opC o) (a3 := opA o) own79 (by omega) fun ar' cr' h108 own108 hb108 o108 => ?_)
    simp only [asTup_tuple]
    refine elemH_mk rfl ?_
    simp only [asSlice_slice]
    refine elemH_mk rfl ?_
    simp only [asBool_bool]
    have ok108 := ok79.trans (o108.mono ok79.1)
    have o108' := o79.trans (o108.mono o79.1)
    have hst : stepR o rs = (doR rs (opC o) (opA o)).toList := by unfold stepR; rw [if_pos (by omega)]
    refine ⟨fun vs h' => ∃ bb, vs = [.bool bb] ∧ Old h23.size h23 h' ∧ (bb = true → CanR L T rs) ∧ (bb = false → ∀ ts ∈ stepR o rs, ¬ CanR L (T ++ [x]) ts), ?_, ?_⟩
    · refine ifB_mk (fun hs => ?_) (fun hs => ?_)
      · obtain ⟨ts, ets⟩ := Option.isSome_iff_exists.1 hs
        rw [ets] at own108 ⊢
        simp only [Option.getD_some] at own108 ⊢
        have hml : ts ∈ stepR o rs := by rw [hst, ets]; simp
        have htl := doR_len' rs (opC o) (opA o)
        rw [ets] at htl
        refine callV_fn (ih (by omega) (H.old ok108) ((o108.2 _ (by omega)).trans rowD) own108 nd' hr' (by simp at htl; omega) (fun hc h119 o119 => ?_) (fun hc h119 o119 => ?_))
        · simp only [asBool_bool]
          refine ⟨true, rfl, o108'.trans (o119.mono o108'.1), fun _ => .step hxn (by rw [ho]; exact hml) hc, fun h => (by cases h)⟩
        · simp only [asBool_bool]
          refine ⟨false, rfl, o108'.trans (o119.mono o108'.1), fun h => (by cases h), fun _ ts' ht' => ?_⟩
          rw [hst, ets] at ht'
          simp at ht'
          rw [ht']; exact hc
      · refine ⟨false, rfl, o108', fun h => (by cases h), fun _ ts' ht' => ?_⟩
        rw [hst] at ht'
        cases hd : doR rs (opC o) (opA o) with
        | none => rw [hd] at ht'; simp at ht'
        | some ts => rw [hd] at hs; cases hs
    · rintro v121 g122 h123 ⟨bb, e, o123, q1, q2⟩
      cases e
      simp only [asBool_bool]
      refine ifB_mk (fun hs => k1 (q1 hs) h123 (o23.trans (o123.mono o23.1))) (fun hs => ⟨_, _, _, _, _, _, _, _, _, _, _, _, _, rfl, o123, q2 hs⟩)
  · refine ldR ob79 rfl ?_
    simp only [asInt_int]
    refine ifB_mk (fun hop => ?_) (fun hop => ?_)
    · have hop' : o.op = 0 := by simpa using hop
      refine ldR ob79 rfl ?_
      rw [add_lit, add_lit]
      refine ldR ob79 rfl (ldR ob79 rfl ?_)
      refine callV_fn (refDo_call (c3 := opC o) (a3 := ⟨0, 0, 0⟩) own79 (by omega) fun ar' cr' h108 own108 hb108 o108 => ?_)
      simp only [asTup_tuple]
      refine elemH_mk rfl ?_
      simp only [asSlice_slice]
      refine elemH_mk rfl ?_
      simp only [asBool_bool]
      have ok108 := ok79.trans (o108.mono ok79.1)
      have o108' := o79.trans (o108.mono o79.1)
      have hst : stepR o rs = (doR rs (opC o) ⟨0, 0, 0⟩).toList := by unfold stepR; rw [if_neg (by omega), if_pos hop']
      refine ⟨fun vs h' => ∃ bb, vs = [.bool bb] ∧ Old h23.size h23 h' ∧ (bb = true → CanR L T rs) ∧ (bb = false → ∀ ts ∈ stepR o rs, ¬ CanR L (T ++ [x]) ts), ?_, ?_⟩
      · refine ifB_mk (fun hs => ?_) (fun hs => ?_)
        · obtain ⟨ts, ets⟩ := Option.isSome_iff_exists.1 hs
          rw [ets] at own108 ⊢
          simp only [Option.getD_some] at own108 ⊢
          have hml : ts ∈ stepR o rs := by rw [hst, ets]; simp
          have htl := doR_len' rs (opC o) ⟨0, 0, 0⟩
          rw [ets] at htl
          refine callV_fn (ih (by omega) (H.old ok108) ((o108.2 _ (by omega)).trans rowD) own108 nd' hr' (by simp at htl; omega) (fun hc h119 o119 => ?_) (fun hc h119 o119 => ?_))
          · simp only [asBool_bool]
            refine ⟨true, rfl, o108'.trans (o119.mono o108'.1), fun _ => .step hxn (by rw [ho]; exact hml) hc, fun h => (by cases h)⟩
          · simp only [asBool_bool]
            refine ⟨false, rfl, o108'.trans (o119.mono o108'.1), fun h => (by cases h), fun _ ts' ht' => ?_⟩
            rw [hst, ets] at ht'
            simp at ht'
            rw [ht']; exact hc
        · refine ⟨false, rfl, o108', fun h => (by cases h), fun _ ts' ht' => ?_⟩
          rw [hst] at ht'
          cases hd : doR rs (opC o) ⟨0, 0, 0⟩ with
          | none => rw [hd] at ht'; simp at ht'
          | some ts => rw [hd] at hs; cases hs
      · rintro v121 g122 h123 ⟨bb, e, o123, q1, q2⟩
        cases e
        simp only [asBool_bool]
        refine ifB_mk (fun hs => k1 (q1 hs) h123 (o23.trans (o123.mono o23.1))) (fun hs => ⟨_, _, _, _, _, _, _, _, _, _, _, _, _, rfl, o123, q2 hs⟩)
    · have hop' : o.op ≠ 0 := by simpa using hop
      have hst : stepR o rs = if o.op = 1 then (rs.filter fun p => p.1 == minK rs).map fun p => rs.erase p else [] := by unfold stepR; rw [if_neg (by omega), if_neg hop']
      refine callV_fn (refLeast_call (ownR_sx own79) (by omega) ?_)
      simp only [asTup_tuple]
      refine elemH_mk rfl ?_
      simp only [asInt_int]
      refine elemH_mk rfl ?_
      simp only [asBool_bool]
      refine ⟨fun vs h' => ∃ w, ∃ j : Nat, vs = [w, iv j] ∧ j ≤ rs.length ∧ Old h79.size h79 h' ∧ (0 < j → o.op = 1) ∧ ∀ m (hm : m < rs.length), m < j → (rs[m]).1 = minK rs → ¬ CanR L (T ++ [x]) (rs.erase rs[m]),
        fun vs _ => (match vs with | [_, .int _ n] => rs.length - n.toNat | _ => 0), ⟨_, 0, rfl, Nat.zero_le _, Old.refl _ _, fun h => by omega, fun m _ h => by omega⟩, ?_⟩
      rintro v158 v159 g160 h161 ⟨w, j, e, hj, o161, hj1, hall⟩
      cases e
      simp only [asInt_int, asI_int]
      have ok161 := ok79.trans (o161.mono ok79.1)
      have o161' := o79.trans (o161.mono o79.1)
      have ob161 := (o161.2 _ (show h44.size < h79.size by omega)).trans ob79
      refine ⟨fun vs h' => (∃ w, vs = [w, .bool (decide (o.op = 1) && (!rs.isEmpty && decide (j < rs.length)))]) ∧ h' = h161, ?_, ?_⟩
      · refine ldR ob161 rfl ?_
        simp only [asInt_int]
        refine ifB_mk (fun h1 => ?_) (fun h1 => ?_)
        · have h1' : o.op = 1 := by simpa using h1
          refine ifB_mk (fun h2 => ?_) (fun h2 => ?_)
          · refine ⟨⟨_, pairB ?_⟩, by trivial⟩
            rw [h2, decide_eq_true h1', Bool.true_and, Bool.true_and, decide_eq_decide]
            omega
          · refine ⟨⟨_, pairB ?_⟩, by trivial⟩
            rw [h2]; simp
        · have h1' : ¬ o.op = 1 := by simpa using h1
          refine ⟨⟨_, pairB ?_⟩, by trivial⟩
          rw [decide_eq_false h1']; simp
      rintro v166 v167 g168 h169 ⟨⟨_, e⟩, rfl⟩
      cases e
      simp only [asBool_bool]
      refine ifB_mk (fun hc => ?_) (fun hc => ?_)
      · simp only [Bool.and_eq_true, decide_eq_true_eq] at hc
        obtain ⟨hop1, _, hjl⟩ := hc
        refine ⟨fun vs h' => ∃ bb, vs = [.bool bb] ∧ Old h79.size h79 h' ∧ (bb = true → CanR L T rs) ∧ (bb = false → (rs[j]).1 = minK rs → ¬ CanR L (T ++ [x]) (rs.erase rs[j])), ?_, ?_⟩
        rotate_left
        · rintro v188 g189 h190 ⟨bb, e, o190, q1, q2⟩
          cases e
          simp only [asBool_bool]
          refine ifB_mk (fun hs => k1 (q1 hs) h190 (ok79.trans (o190.mono ok79.1))) (fun hs => ?_)
          rw [nat_wrap1 (by omega)]
          refine ⟨⟨_, j + 1, rfl, by omega, o190, fun _ => hop1, fun m hm hmj => ?_⟩, by show rs.length - ((j + 1 : Nat) : Int).toNat < rs.length - (j : Int).toNat; omega⟩
          by_cases e : m = j
          · subst e; exact q2 hs
          · exact hall m hm (by omega)
        have own169 : OwnR h169 ar rs.length cr rs := own79.keep fun ad e => o161.2 _ (own79.lt ad e)
        obtain ⟨adr, rfl, hc0, hc1⟩ := spr_at (ownR_sx own169) hjl
        refine ⟨by omega, by omega, ?_⟩
        simp only [asPtr_some, Int.toNat_natCast]
        refine ldH_mk hc0 ?_
        simp only [asInt_int]
        refine ifB_mk (fun hk => ?_) (fun hk => ?_)
        · have hk' : (rs[j]).1 = minK rs := by simpa using hk
          refine ⟨by omega, by omega, ldH_mk hc0 (ldH_mk hc1 ?_)⟩
          refine callV_fn (refWithout_call (p := rs[j]) (ownR_sx own169) (by omega) fun a3 c3 h181 own181 hb181 o181 => ?_)
          simp only [asSlice_slice]
          have ok181 := ok161.trans (o181.mono ok161.1)
          have o181' := o161.trans (o181.mono o161.1)
          have hel : (rs.erase rs[j]).length ≤ rs.length := (List.erase_sublist).length_le
          refine callV_fn (ih (by omega) (H.old ok181) ((o181'.2 _ (by omega)).trans rowD) own181 nd' hr' (by omega) (fun hc h119 o119 => ?_) (fun hc h119 o119 => ?_))
          · simp only [asBool_bool]
            refine ⟨true, rfl, o181'.trans (o119.mono o181'.1), fun _ => .step hxn (ts := rs.erase rs[j]) ?_ hc, fun h => (by cases h)⟩
            rw [ho, hst, if_pos hop1]
            exact List.mem_map.2 ⟨rs[j], List.mem_filter.2 ⟨List.getElem_mem hjl, by simpa using hk'⟩, rfl⟩
          · simp only [asBool_bool]
            exact ⟨false, rfl, o181'.trans (o119.mono o181'.1), fun h => (by cases h), fun _ _ => hc⟩
        · have hk' : (rs[j]).1 ≠ minK rs := by simpa using hk
          exact ⟨false, rfl, o161, fun h => (by cases h), fun _ h => absurd h hk'⟩
      · refine ⟨_, _, _, _, _, _, _, _, _, _, _, _, _, rfl, o161', fun ts ht => ?_⟩
        rw [hst] at ht
        by_cases hop1 : o.op = 1
        · rw [if_pos hop1] at ht
          obtain ⟨p, hp, rfl⟩ := List.mem_map.1 ht
          obtain ⟨hp1, hp2⟩ := List.mem_filter.1 hp
          obtain ⟨m, hm, rfl⟩ := List.getElem_of_mem hp1
          have hjl : ¬ j < rs.length := by
            intro hjl
            rw [decide_eq_true hop1, decide_eq_true hjl] at hc
            cases rs with
            | nil => simp at hm
            | cons _ _ => simp at hc
          exact hall m hm (by omega) (by simpa using hp2)
        · rw [if_neg hop1] at ht; simp at ht
theorem some_ok {L : List Op9} (hL : L.length ≤ 48) : ∀ fuel, SomeOK L fuel := by
  intro fuel
  induction fuel with
  | zero => exact some_step hL fun f hf => by omega
  | succ n ih =>
    refine some_step hL fun f hf => ?_
    have : f = n := by omega
    subst this
    exact @ih
theorem refCheck_call {K : Value → Heap → Prop} {h : Heap} {a : Option Addr} {l c : Nat} {L : List Op9} (H : SlO h a l c L) (hl : l ≤ 48) (k1 : CanR L [] [] → ∀ h', Old h.size h h' → K (.bool true) h') (k0 : ¬ CanR L [] [] → ∀ h', Old h.size h h' → K (.bool false) h') :
    CallH Try.prog 28 #[.slice a l c] h K := by
  refine call28 ?_
  unfold F28
  have hlen := H.len
  subst hlen
  refine ifB_dec (fun _ => ?_) (fun hgt => by omega)
  refine make_bool (l := L.length) (by omega) ?_
  simp only [asSlice_slice]
  have p1 := pushed h (inRow L.length []).toArray 4
  generalize h.push (.cells (inRow L.length []).toArray 4) = h1 at *
  have hs : SomeOK L L.length := some_ok hl L.length
  refine callV_fn (@hs _ h1 a c h.size 0 none [] [] (by simp) (H.old p1.toOld) p1.new (Own.nil _ _ _) List.nodup_nil (fun y hy => by simp at hy) (Nat.le_refl _) (fun hc h' o => ?_) (fun hc h' o => ?_))
  · simp only [asBool_bool]; exact k1 hc h' (p1.toOld.trans (o.mono p1.toOld.1))
  · simp only [asBool_bool]; exact k0 hc h' (p1.toOld.trans (o.mono p1.toOld.1))
end Go.Proofs.Ytlncjcbofgjcfaa
end
section
/- 15.1: whether events are a linearizable history is the document's. -/
set_option linter.unusedSimpArgs false
set_option linter.unusedVariables false
set_option maxRecDepth 20000
namespace Go.Proofs.Ytlncjcbofgjcfaa

theorem linHist_body {K : Value → Heap → Prop} {h : Heap} {a : Option Addr} {l c : Nat} {es : List Ev8} (H : SV h a l c es) (hE : ∀ e ∈ es, InE e)
    (k : ∀ h', Old h.size h h' → K (.bool true) h') : F5 K h a l c := by
  unfold F5
  have hlen := H.len
  have livesK : ∀ {h1 : Heap}, Old h.size h h1 → CallH Try.prog 24 #[] h1 (fun v h' => asBool v fun b => K (.bool b) h') := fun o1 => lives15_call fun h' o => by simp only [asBool_bool]; exact k h' (o1.trans (o.mono o1.1))
  have hIn : ∀ o ∈ opsE es, InR o.key ∧ InR o.val := inR_ops hE (Nat.le_refl _)
  refine ifB_dec (fun hgt => callV_fn (livesK (Old.refl _ _))) (fun hle => ?_)
  have hol := opsE_len_le es
  -- behind the program's answer, where it is a history
  have restK : ∀ (bb : Bool) (h4 : Heap), RightH es → (bb = true ↔ Lin (opsE es)) → Old h.size h h4 →
      callV Try.prog (.func (.func 26) #[] #[]) #[.slice a l c] h4 (fun v11 h12 => asBool v11 fun b13 => ifB (!b13) (ifB (!bb) (ifB ((0 : Int) == 11) (callV Try.prog (.func (.func 24) #[] #[]) #[] h12 (fun v14 h15 => asBool v14 fun b16 => K (.bool b16) h15)) (K (.bool false) h12)) (K (.bool false) h12))
        (callV Try.prog (.func (.func 27) #[] #[]) #[.slice a l c] h12 (fun v17 h18 => asSlice v17 fun o19 k20 k21 => ifB (decide (((k20 : Nat) : Int) > 7)) (callV Try.prog (.func (.func 24) #[] #[]) #[] h18 (fun v22 h23 => asBool v22 fun b24 => ifB b24 (K (.bool true) h23) (ifB ((0 : Int) == 0) (callV Try.prog (.func (.func 28) #[] #[]) #[.slice o19 k20 k21] h23 (fun v25 h26 => asBool v25 fun b27 => ifB (bb == b27) (callV Try.prog (.func (.func 24) #[] #[]) #[] h26 (fun v28 h29 => asBool v28 fun b30 => K (.bool b30) h29)) (K (.bool false) h26))) (K (.bool false) h23))))
          (ifB ((0 : Int) == 0) (callV Try.prog (.func (.func 28) #[] #[]) #[.slice o19 k20 k21] h18 (fun v31 h32 => asBool v31 fun b33 => ifB (bb == b33) (callV Try.prog (.func (.func 24) #[] #[]) #[] h32 (fun v34 h35 => asBool v34 fun b36 => K (.bool b36) h35)) (K (.bool false) h32))) (K (.bool false) h18))))) := by
    intro bb h4 hRi hbb o4
    refine callV_fn (refRightH_call (H.old o4) (by omega) (fun _ h12 o12 => ?_) (fun hn _ _ => absurd hRi hn))
    simp only [asBool_bool, Bool.not_true, ifB_false]
    have ok12 := o4.trans (o12.mono o4.1)
    refine callV_fn (refOpers_call (H.old ok12) (by omega) fun a' c' h18 S18 o18 => ?_)
    have ok18 := ok12.trans (o18.mono ok12.1)
    simp only [asSlice_slice]
    refine ifB_dec (fun hgt => ?_) (fun hle7 => ?_)
    · refine callV_fn (lives15_call fun h' o => ?_)
      simp only [asBool_bool, ifB_true]
      exact k h' (ok18.trans (o.mono ok18.1))
    · rw [show ((0 : Int) == 0) = true from rfl]
      simp only [ifB_true]
      have hiff := lin_canR (rightOps_of hRi)
      refine callV_fn (refCheck_call S18 (by omega) (fun hc h32 o32 => ?_) (fun hc h32 o32 => ?_))
      · have : bb = true := hbb.2 (hiff.2 hc)
        subst this
        simp only [asBool_bool, beq_self_eq_true, ifB_true]
        exact callV_fn (livesK (ok18.trans (o32.mono ok18.1)))
      · have : bb = false := by
          cases bb with
          | false => rfl
          | true => exact absurd (hiff.1 (hbb.1 rfl)) hc
        subst this
        simp only [asBool_bool, beq_self_eq_true, ifB_true]
        exact callV_fn (livesK (ok18.trans (o32.mono ok18.1)))
  refine callV_fn (history_call H (by omega) hIn (fun hr hl h4 o4 => ?_) (fun hr hl h4 o4 => ?_) (fun hr h4 o4 => ?_))
  · simp only [asTup_tuple]
    refine elemH_mk rfl ?_
    simp only [asBool_bool]
    refine elemH_mk rfl ?_
    simp only [asInt_int]
    exact restK true h4 hr ⟨fun _ => hl, fun _ => rfl⟩ o4
  · simp only [asTup_tuple]
    refine elemH_mk rfl ?_
    simp only [asBool_bool]
    refine elemH_mk rfl ?_
    simp only [asInt_int]
    exact restK false h4 hr ⟨fun h => (by cases h), fun h => absurd h hl⟩ o4
  · simp only [asTup_tuple]
    refine elemH_mk rfl ?_
    simp only [asBool_bool]
    refine elemH_mk rfl ?_
    simp only [asInt_int]
    refine callV_fn (refRightH_call (H.old o4) (by omega) (fun hn _ _ => absurd hn hr) (fun _ h12 o12 => ?_))
    simp only [asBool_bool, Bool.not_false, ifB_true]
    rw [show ((11 : Int) == 11) = true from rfl]
    simp only [ifB_true]
    exact callV_fn (livesK (o4.trans (o12.mono o4.1)))
end Go.Proofs.Ytlncjcbofgjcfaa
end
