/- What may come next. -/
import Derived.Test.YtgladmaagpcffaaOc
set_option linter.unusedSimpArgs false
set_option linter.unusedVariables false
set_option maxRecDepth 20000
namespace Go.Proofs.Ytgladmaagpcffaa

/-! ### sequences that don't look at some blocks -/
def OldA (av : Nat → Prop) (h h' : Heap) : Prop := h.size ≤ h'.size ∧ ∀ b, b < h.size → ¬ av b → h'[b]? = h[b]?
theorem OldA.of {av : Nat → Prop} {h h' : Heap} (o : Old h.size h h') : OldA av h h' := ⟨o.1, fun b hb _ => o.2 b hb⟩
theorem OldA.cell {av : Nat → Prop} {h h' : Heap} {a : Addr} {v : Value} (o : OldA av h h') (ha : ¬ av a.block) (hc : cellAt h a = some v) : cellAt h' a = some v := (cellAt_congr (o.2 _ (cellAt_lt hc) ha)).trans hc
def SeqLA (av : Nat → Prop) (g : Value) (L : List Int) (h : Heap) : Prop :=
  ∃ f fst cap Ev, g = .func (.func f) fst cap ∧ SeqH Try.prog g L.length (seqOf L) Ev ∧ Ev h ∧ ∀ h h', OldA av h h' → Ev h → Ev h'
theorem SeqLA.old {av : Nat → Prop} {g : Value} {L : List Int} {h h' : Heap} (H : SeqLA av g L h) (o : Old h.size h h') : SeqLA av g L h' := by
  obtain ⟨f, fst, cap, Ev, e, hs, he, hst⟩ := H
  exact ⟨f, fst, cap, Ev, e, hs, hst _ _ (OldA.of o) he, hst⟩
def KeepOnA (av : Nat → Prop) (f : Value) (D : Int → Prop) (p : Int → Bool) (h : Heap) : Prop :=
  (∃ g x y, f = .func (.func g) x y) ∧ ∃ Ev : Heap → Prop, Ev h ∧ (∀ h h', OldA av h h' → Ev h → Ev h') ∧
    ∀ (h : Heap) (x : Int) (K : Value → Heap → Prop), Ev h → D x → (∀ h', Old h.size h h' → K (.bool (p x)) h') → callV Try.prog f #[.int .i64 x] h K
theorem KeepOnA.old {av : Nat → Prop} {f : Value} {D : Int → Prop} {p : Int → Bool} {h h' : Heap} (H : KeepOnA av f D p h) (o : OldA av h h') : KeepOnA av f D p h' := by
  obtain ⟨e, Ev, h1, h2, h3⟩ := H
  exact ⟨e, Ev, h2 _ _ o h1, h2, h3⟩
theorem KeepOnA.call {av : Nat → Prop} {f : Value} {D : Int → Prop} {p : Int → Bool} {h : Heap} (H : KeepOnA av f D p h) {x : Int} (hD : D x) {K : Value → Heap → Prop} (k : ∀ h', Old h.size h h' → K (.bool (p x)) h') : callV Try.prog f #[.int .i64 x] h K := by
  obtain ⟨_, Ev, h1, _, h3⟩ := H
  exact h3 _ _ _ h1 hD k
abbrev ints (l : Nat) : List Int := (List.range l).map fun k : Nat => (k : Int)
theorem mem_ints {l : Nat} {x : Int} : x ∈ ints l ↔ 0 ≤ x ∧ x < l := by
  simp only [ints, List.mem_map, List.mem_range]
  constructor
  · rintro ⟨k, hk, rfl⟩; omega
  · rintro ⟨h0, h1⟩; exact ⟨x.toNat, by omega, by omega⟩

theorem countA_call {K : Value → Heap → Prop} {h : Heap} {av : Nat → Prop} {l : Nat} (hl : l ≤ 2 ^ 60) (hav : ∀ b, av b → b < h.size) (k : ∀ g h', SeqLA av g (ints l) h' → Old h.size h h' → K g h') :
    CallH Try.prog 22 #[iv 0, iv l] h K := by
  refine call22 ?_
  unfold F22
  obtain ⟨ho, h1, h2⟩ := push2 (h := h) (.cells #[iv 0] 3) (.cells #[iv (l : Int)] 3)
  rw [Array.size_push]
  refine k _ _ ⟨_, _, _, fun h' => cellAt h' ⟨h.size, 0, none⟩ = some (iv 0) ∧ cellAt h' ⟨h.size + 1, 0, none⟩ = some (iv (l : Int)), rfl, ?_, ⟨cellAt_row h1, cellAt_row h2⟩, fun a b o e => ⟨o.cell (fun x => ?_) e.1, o.cell (fun x => ?_) e.2⟩⟩ ho
  · have := (count_seq (p := h.size) (q := h.size + 1) (u := 0) (v := l) (by omega) (by omega)).congr (ys := seqOf (ints l)) fun j hj => by
      have : j < l := by omega
      simp [seqOf, ints, List.getD_eq_getElem?_getD, this]
    rwa [show ((l : Int) - 0).toNat = (ints l).length by simp [ints]] at this
  · have := hav _ x; simp at this
  · have := hav _ x; simp at this; omega
theorem onlyA_call {K : Value → Heap → Prop} {h : Heap} {av : Nat → Prop} {g f : Value} {L : List Int} {D : Int → Prop} {p : Int → Bool} (H : SeqLA av g L h) (Hk : KeepOnA av f D p h) (hD : ∀ x ∈ L, D x) (hav : ∀ b, av b → b < h.size)
    (k : ∀ g' h', SeqLA av g' (L.filter p) h' → Old h.size h h' → K g' h') : CallH Try.prog 49 #[g, f] h K := by
  obtain ⟨f0, fst, cap, Ev, rfl, hs, he, hst⟩ := H
  obtain ⟨⟨f1, a1, a2, rfl⟩, Ek, hk1, hk2, hk3⟩ := Hk
  refine call49 ?_
  unfold F49
  obtain ⟨ho, h1, h2⟩ := push2 (h := h) (.cells #[.func (.func f0) fst cap] 27) (.cells #[.func (.func f1) a1 a2] 50)
  simp only [oneC_func]
  rw [Array.size_push]
  generalize (h.push (.cells #[.func (.func f0) fst cap] 27)).push (.cells #[.func (.func f1) a1 a2] 50) = h5 at *
  refine ⟨fun vs h' => vs = [.bool false] ∧ h' = h5, ?_, ?_⟩
  · refine ldH_mk (cellAt_row h1) ?_
    simp only [asFnNil_func, ifB_false]
    refine ldH_mk (cellAt_row h2) ?_
    simp only [asFnNil_func]
    exact ⟨by trivial, by trivial⟩
  · rintro v5 g6 h7 ⟨e, rfl⟩
    cases e
    simp only [asBool_bool, ifB_false]
    refine k _ _ ⟨_, _, _, _, rfl, only_seq hD (show fnV (.func (.func f0) fst cap) from trivial) hs (fun a b o e => hst _ _ (OldA.of o) e) (fun a b o e => hk2 _ _ (OldA.of o) e) hk3, ⟨cellAt_row h1, cellAt_row h2, hst _ _ (OldA.of ho) he, hk2 _ _ (OldA.of ho) hk1⟩,
      fun a b o e => ⟨o.cell (fun x => ?_) e.1, o.cell (fun x => ?_) e.2.1, hst _ _ o e.2.2.1, hk2 _ _ o e.2.2.2⟩⟩ ho
    · have := hav _ x; simp at this
    · have := hav _ x; simp at this; omega

theorem left_on {h : Heap} {av : Nat → Prop} {q b l : Nat} {taken : List Int} (hq : cellAt h ⟨q, 0, none⟩ = some (.slice (some ⟨b, 0, none⟩) l l)) (hb : h[b]? = some (.cells (inRow l taken).toArray 4)) (h1 : ¬ av q) (h2 : ¬ av b) :
    KeepOnA av (.func (.func 95) #[] #[.pointer (some ⟨q, 0, none⟩)]) (fun y => 0 ≤ y ∧ y < l) (fun y => !decide (y ∈ taken)) h := by
  refine ⟨⟨_, _, _, rfl⟩, fun h => cellAt h ⟨q, 0, none⟩ = some (.slice (some ⟨b, 0, none⟩) l l) ∧ h[b]? = some (.cells (inRow l taken).toArray 4), ⟨hq, hb⟩, fun h h' o e => ⟨o.cell h1 e.1, (o.2 _ (Array.getElem?_eq_some_iff.1 e.2).1 h2).trans e.2⟩, ?_⟩
  rintro h y K ⟨e1, e2⟩ ⟨y0, y1⟩ k
  refine callV_cl ?_
  rw [cl2]
  refine call95 ?_
  unfold F95
  simp only [asPtr_some]
  refine ldH_mk e1 ?_
  simp only [asSlice_slice, asPtr_some]
  refine ifB_dec (fun hq => by omega) (fun hq => ?_)
  refine ldH_mk e1 ?_
  simp only [asSlice_slice, asPtr_some]
  refine ⟨y0, y1, ldH_mk (mark_at e2 y0 y1) ?_⟩
  simp only [asBool_bool]
  exact k _ (Old.refl _ _)

def blocks (ops : List Op9) (taken : List Int) (x j : Int) : Bool := decide (j ≠ x) && (!decide (j ∈ taken) && ahead (opAt ops j) (opAt ops x))
def freeF (ops : List Op9) (taken : List Int) (l : Nat) (x : Int) : Bool := (ints l).all fun j => !blocks ops taken x j
def nextL (ops : List Op9) (taken : List Int) (l : Nat) : List Int := ((ints l).filter fun y => !decide (y ∈ taken)).filter (freeF ops taken l)
theorem mem_nextL {ops : List Op9} {taken : List Int} {l : Nat} {x : Int} : x ∈ nextL ops taken l ↔ (0 ≤ x ∧ x < l) ∧ x ∉ taken ∧ ∀ j : Int, 0 ≤ j → j < l → blocks ops taken x j = false := by
  unfold nextL freeF
  simp only [List.mem_filter, mem_ints, List.all_eq_true, Bool.not_eq_true', decide_eq_false_iff_not]
  constructor
  · rintro ⟨⟨h1, h2⟩, h3⟩; exact ⟨h1, h2, fun j a b => h3 j ⟨a, b⟩⟩
  · rintro ⟨h1, h2, h3⟩; exact ⟨⟨h1, h2⟩, fun j hj => h3 j hj.1 hj.2⟩

theorem next_call {K : Value → Heap → Prop} {h : Heap} {a : Option Addr} {l c b : Nat} {ops : List Op9} {taken : List Int} (H : SlO h a l c ops) (hl : l ≤ 1000) (hb : h[b]? = some (.cells (inRow l taken).toArray 4))
    (k : ∀ a' n' c' h', RI h' a' n' c' (nextL ops taken l) → (∀ ad, a' = some ad → h.size ≤ ad.block) → Old h.size h h' → K (.slice a' n' c') h') : CallH Try.prog 56 #[.slice a l c, .slice (some ⟨b, 0, none⟩) l l] h K := by
  refine call56 ?_
  unfold F56
  have hlen := H.len
  have hbl := (Array.getElem?_eq_some_iff.1 hb).1
  obtain ⟨o2, q1, q2⟩ := push2 (h := h) (.cells #[.slice a l c] 53) (.cells #[.slice (some ⟨b, 0, none⟩) l l] 67)
  have es1 : (h.push (.cells #[.slice a l c] 53)).size = h.size + 1 := by simp
  have es2 : ((h.push (.cells #[.slice a l c] 53)).push (.cells #[.slice (some ⟨b, 0, none⟩) l l] 67)).size = h.size + 2 := by simp
  rw [es2, es1]
  generalize (h.push (.cells #[.slice a l c] 53)).push (.cells #[.slice (some ⟨b, 0, none⟩) l l] 67) = h2 at *
  have p3 := pushed h2 #[.nilFunc] 50
  generalize h2.push (.cells #[.nilFunc] 50) = h3 at *
  have s3 := p3.size
  have n3 := p3.new
  rw [es2] at n3
  refine stR n3 rfl trivial fun h0 w0 => ?_
  have sz0 : h0.size = h.size + 3 := by rw [w0.size, s3, es2]
  have p4 := pushed h0 #[.slice none 0 0] 23
  generalize h0.push (.cells #[.slice none 0 0] 23) = h5 at *
  have s4 := p4.size
  have r1 : h5[h.size]? = some (.cells #[.slice a l c] 53) := (p4.old _ (by omega)).trans ((w0.old _ (by omega)).trans ((p3.old _ (by omega)).trans q1))
  have r2 : h5[h.size + 1]? = some (.cells #[.slice (some ⟨b, 0, none⟩) l l] 67) := (p4.old _ (by omega)).trans ((w0.old _ (by omega)).trans ((p3.old _ (by omega)).trans q2))
  have r3 : h5[h.size + 2]? = some (.cells #[.func (.func 95) #[] #[.pointer (some ⟨h.size + 1, 0, none⟩)]] 50) := (p4.old _ (by omega)).trans w0.new
  have r4 : h5[h.size + 3]? = some (.cells #[.slice none 0 0] 23) := by rw [← sz0]; exact p4.new
  have o5 : Old h.size h h5 := (w0.toOld (o2.trans (p3.toOld.mono (by omega))) (by omega)).trans (p4.toOld.mono (by omega))
  rw [sz0]
  refine ldR r1 rfl ?_
  simp only [asSlice_slice]
  refine ldR r3 rfl ?_
  have hbne : b ≠ h.size + 3 := by omega
  have hleft : ∀ h', OldA (fun x => x = h.size + 3) h5 h' → KeepOnA (fun x => x = h.size + 3) (.func (.func 95) #[] #[.pointer (some ⟨h.size + 1, 0, none⟩)]) (fun y => 0 ≤ y ∧ y < l) (fun y => !decide (y ∈ taken)) h' := fun h' o =>
    (left_on (cellAt_row r2) ((o5.2 _ hbl).trans hb) (by omega) hbne).old o
  refine callV_fn (countA_call (av := fun x => x = h.size + 3) (by omega) (fun x e => by omega) fun g6 h7 S7 o7 => ?_)
  refine ⟨cell_stable _ _ o7 (cellAt_row r3), ?_⟩
  refine callV_fn (onlyA_call S7 (hleft _ (OldA.of o7)) (fun x hx => mem_ints.1 hx) (fun x e => by have := o7.1; omega) fun g8 h9 S9 o9 => ?_)
  have o59 : Old h5.size h5 h9 := o7.trans (o9.mono o7.1)
  have hs9 : h.size + 4 ≤ h9.size := by have := o59.1; omega
  obtain ⟨f0, fst, cap, Ev, rfl, hs, he, hst⟩ := S9
  generalize hcand : (ints l).filter (fun y => !decide (y ∈ taken)) = cand at *
  have hcandlen : cand.length ≤ l := by rw [← hcand]; exact Nat.le_trans (List.length_filter_le _ _) (by simp [ints])
  have hcandmem : ∀ x ∈ cand, 0 ≤ x ∧ x < l := by
    intro x hx
    rw [← hcand] at hx
    exact mem_ints.1 (List.mem_filter.1 hx).1
  -- between two rounds
  refine rangeH_own (n := cand.length) (xs := seqOf cand) (Ev := Ev)
    (fun j w h' => OldA (fun x => x = h.size + 3) h9 h' ∧ ∃ a n c, h'[h.size + 3]? = some (.cells #[.slice a n c] 23) ∧ OwnI h' a n c ((cand.take j).filter (freeF ops taken l)) ∧ ∀ ad, a = some ad → w ad.block) (fun _ _ _ => False)
    (show fnV (.func (.func f0) fst cap) from trivial) hs (fun _ _ => rfl) ?_ (fun _ _ _ _ _ _ _ x => x) (fun j w' h' x => hst _ _ x.1 he) ⟨⟨Nat.le_refl _, fun _ _ _ => rfl⟩, none, 0, 0, (o59.2 _ (by omega)).trans r4, Own.nil _ _ _, fun ad e => by cases e⟩ ?_ ?_ trivial
  · rintro j w ha hb' hz1 hz2 hz3 ⟨x1, a1, n1, c1, x2, x3, x4⟩
    exact ⟨⟨Nat.le_trans x1.1 hz1, fun b hb hne => (hz2 b hb).trans (x1.2 b hb hne)⟩, a1, n1, c1, (hz2 _ (by omega)).trans x2, x3.keep fun ad e => hz3 _ (x4 ad e), x4⟩
  · rintro M j w h12 hj hM hMs hw ⟨x1, a1, n1, c1, x2, x3, x4⟩
    have e2 : (seqOf cand j).getD 0 (.tuple #[]) = .int .i64 cand[j] := by unfold seqOf; simp [hj]
    rw [e2]
    simp only [asInt_int]
    obtain ⟨c0, c1'⟩ := hcandmem _ (List.getElem_mem hj)
    have x1' : OldA (fun x => x = h.size + 3) h5 h12 := ⟨Nat.le_trans o59.1 x1.1, fun b hb hne => (x1.2 b (Nat.lt_of_lt_of_le hb o59.1) hne).trans (o59.2 b hb)⟩
    have o12 : Old h.size h h12 := ⟨Nat.le_trans o5.1 x1'.1, fun b hb => (x1'.2 b (by have := o5.1; omega) (by omega)).trans (o5.2 b hb)⟩
    have t1 : h12[h.size]? = some (.cells #[.slice a l c] 53) := (x1'.2 _ (by omega) (by omega)).trans r1
    have t3 : h12[h.size + 2]? = some (.cells #[.func (.func 95) #[] #[.pointer (some ⟨h.size + 1, 0, none⟩)]] 50) := (x1'.2 _ (by omega) (by omega)).trans r3
    have hn1 : n1 ≤ l := by
      have h1 := x3.1
      have h2 := List.length_filter_le (freeF ops taken l) (cand.take j)
      simp only [List.length_map, List.length_take, Nat.mul_one] at h1 h2
      omega
    have fsucc : ∀ (bb : Bool), freeF ops taken l cand[j] = bb → (cand.take (j + 1)).filter (freeF ops taken l) = (cand.take j).filter (freeF ops taken l) ++ (if bb then [cand[j]] else []) := by
      intro bb hbb
      rw [List.take_succ_eq_append_getElem hj, List.filter_append]
      cases bb <;> simp [hbb]
    refine ldR t1 rfl ?_
    simp only [asSlice_slice]
    refine ⟨fun vs h' => ∃ v, ∃ i : Nat, vs = [v, iv i] ∧ Old h12.size h12 h' ∧ i ≤ l ∧ ∀ i' : Nat, i' < i → blocks ops taken cand[j] i' = false, fun vs _ => (match vs with | [_, .int _ n] => l - n.toNat | _ => 0), ⟨_, 0, rfl, Old.refl _ _, Nat.zero_le _, fun i' h => by omega⟩, ?_⟩
    rintro v20 v21 g22 h23 ⟨v, i, e, o23, hi, hnb⟩
    cases e
    simp only [asInt_int]
    have u1 := (o23.2 h.size (by omega)).trans t1
    have u3 := (o23.2 (h.size + 2) (by omega)).trans t3
    have u4 := (o23.2 (h.size + 3) (by omega)).trans x2
    refine ifB_dec (fun hlt => ?_) (fun hge => ?_)
    · refine ⟨fun vs h' => ∃ v, vs = [v, .bool (blocks ops taken cand[j] i)] ∧ Old h12.size h12 h', ?_, ?_⟩
      · refine ifB_mk (fun hne => ?_) (fun heq => ?_)
        · have hne' : (i : Int) ≠ cand[j] := by simpa using hne
          refine ldR u3 rfl ?_
          have o23A : OldA (fun x => x = h.size + 3) h5 h23 := ⟨Nat.le_trans x1'.1 o23.1, fun b hb hne => (o23.2 b (Nat.lt_of_lt_of_le hb x1'.1)).trans (x1'.2 b hb hne)⟩
          refine (hleft _ o23A).call (x := (i : Int)) ⟨by omega, hlt⟩ fun h29 o29 => ?_
          have p29 := o23.trans (o29.mono o23.1)
          simp only [asBool_bool]
          unfold blocks
          rw [decide_eq_true hne', Bool.true_and]
          refine ifB_mk (fun hd => ?_) (fun hd => ?_)
          · rw [hd, Bool.true_and]
            have H29 := (H.old o12).old p29
            have w1 := (o29.2 h.size (by have := o23.1; omega)).trans u1
            obtain ⟨ad, rfl, oi⟩ := H29.op (i := i) (by omega)
            obtain ⟨ad', e', ox⟩ := H29.op (i := cand[j].toNat) (by omega)
            cases e'
            refine ldR w1 rfl ?_
            simp only [asSlice_slice, asPtr_some]
            refine ⟨by omega, by omega, ?_⟩
            simp only [Int.toNat_natCast]
            refine ld9 oi ?_
            refine ldR w1 rfl ?_
            simp only [asSlice_slice, asPtr_some]
            refine ⟨by omega, by omega, ld9 ox ?_⟩
            refine callV_fn (ahead_call ops[i] ops[cand[j].toNat] fun h60 o60 => ?_)
            simp only [asBool_bool]
            refine ⟨_, pairB ?_, p29.trans (o60.mono p29.1)⟩
            rw [opAt_nat (by omega), show opAt ops cand[j] = ops[cand[j].toNat] by simp [opAt, show cand[j].toNat < ops.length by omega]]
          · rw [hd, Bool.false_and]
            exact ⟨_, rfl, p29⟩
        · have heq' : (i : Int) = cand[j] := by simpa using heq
          refine ⟨_, pairB ?_, o23⟩
          unfold blocks
          rw [decide_eq_false (by simpa using heq'), Bool.false_and]
      · rintro v62 v63 g64 h65 ⟨v', e, o65⟩
        cases e
        simp only [asBool_bool]
        refine ifB_mk (fun hbl => ?_) (fun hbl => ?_)
        · -- one is ahead of it
          have hf : freeF ops taken l cand[j] = false := by
            unfold freeF
            rw [List.all_eq_false]
            exact ⟨(i : Int), mem_ints.2 ⟨by omega, hlt⟩, by rw [hbl]; simp⟩
          refine ⟨keepMid_of_old o65 hMs, by have := o65.1; have := x1.1; omega, w, owned_keep hw fun b hb => o65.2 b (hw.lt hb), ⟨Nat.le_trans x1.1 o65.1, fun b hb hne => (o65.2 b (Nat.lt_of_lt_of_le hb x1.1)).trans (x1.2 b hb hne)⟩, a1, n1, c1, (o65.2 _ (by omega)).trans x2, ?_, x4⟩
          rw [fsucc false hf]
          simp only [Bool.false_eq_true, if_false, List.append_nil]
          exact x3.keep fun ad e => o65.2 _ (x3.lt ad e)
        · rw [nat_wrap1 (by omega)]
          refine ⟨⟨_, i + 1, rfl, o65, by omega, fun i' hi' => ?_⟩, ?_⟩
          · by_cases e : i' < i
            · exact hnb i' e
            · obtain rfl : i' = i := by omega
              exact hbl
          · show l - ((i + 1 : Nat) : Int).toNat < l - (i : Int).toNat
            omega
    · have hf : freeF ops taken l cand[j] = true := by
        unfold freeF
        rw [List.all_eq_true]
        intro y hy
        obtain ⟨y0, y1⟩ := mem_ints.1 hy
        have := hnb y.toNat (by omega)
        rw [show ((y.toNat : Nat) : Int) = y by omega] at this
        rw [this]; rfl
      have x3' : OwnI h23 a1 n1 c1 ((cand.take j).filter (freeF ops taken l)) := x3.keep fun ad e => o23.2 _ (x3.lt ad e)
      refine ldR u4 rfl ?_
      simp only [asSlice_slice]
      refine app_int x3' (by omega) ?_
      intro a2 c2 h73 hown2 hs2 hold2 hor
      simp only [asSlice_slice]
      have hne1 : ∀ ad, a1 = some ad → M ≤ ad.block := fun ad e => (hw _ (x4 ad e)).1
      have v4 : h73[h.size + 3]? = some (.cells #[.slice a1 n1 c1] 23) := (hold2 _ (by have := o23.1; omega) (fun ad e => by have := hne1 ad e; omega)).trans u4
      refine stH_mk v4 (by simp) trivial ?_
      rintro h77 e77
      have hge2 : ∀ ad, a2 = some ad → M ≤ ad.block := by
        intro ad e
        rcases hor with rfl | ⟨bb, rfl, hbb⟩
        · exact hne1 ad e
        · cases e; show M ≤ bb; have := o23.1; omega
      have same77 : ∀ b, b < h12.size → b ≠ h.size + 3 → (∀ ad, a1 = some ad → ad.block ≠ b) → h77[b]? = h12[b]? := by
        intro b hb hne hna
        rw [e77, set_old hne]
        exact (hold2 b (Nat.lt_of_lt_of_le hb o23.1) hna).trans (o23.2 b hb)
      have sz77 : h12.size ≤ h77.size := by rw [e77]; simp; exact Nat.le_trans o23.1 hs2
      have own77 : OwnI h77 a2 (n1 + 1) c2 ((cand.take j).filter (freeF ops taken l) ++ [cand[j]]) := hown2.keep fun ad e => by rw [e77]; exact set_old (by have := hge2 ad e; omega)
      refine ⟨⟨sz77, fun b hb1 hb2 => same77 b (by omega) (by omega) (fun ad e => by have := hne1 ad e; omega)⟩, by have := x1.1; omega, fun b => ∃ ad, a2 = some ad ∧ ad.block = b, ?_, ⟨Nat.le_trans x1.1 sz77, fun b hb hne => (same77 b (Nat.lt_of_lt_of_le hb x1.1) hne (fun ad e => by have := hne1 ad e; omega)).trans (x1.2 b hb hne)⟩, a2, n1 + 1, c2, ?_, ?_, fun ad e => ⟨ad, e, rfl⟩⟩
      · rintro b ⟨ad, e, rfl⟩
        refine ⟨hge2 ad e, ?_⟩
        rcases own77.2.2 with ⟨e3, _⟩ | ⟨b3, row3, e3, hb3, _⟩
        · rw [e] at e3; cases e3
        · rw [e] at e3; cases e3; exact ⟨_, _, _, hb3⟩
      · rw [e77]; exact set_new (by have := o23.1; omega)
      · rw [fsucc true hf]; exact own77
  · rintro M w h78 hM hMs hw ⟨x1, a1, n1, c1, x2, x3, x4⟩
    refine ldR x2 rfl ?_
    simp only [asSlice_slice]
    intro h83 hsd
    rw [List.take_of_length_le (Nat.le_refl _)] at x3
    have x3' := OwnI.ri (Own.same x3 hsd)
    refine k _ _ _ _ ?_ (fun ad e => by have := (hw _ (x4 ad e)).1; omega) ?_
    · rw [← hcand] at x3'; exact x3'
    · have o78 : Old h.size h h78 := ⟨by have := x1.1; omega, fun b hb => (x1.2 b (by omega) (by omega)).trans ((o59.2 b (by have := o5.1; omega)).trans (o5.2 b hb))⟩
      exact o78.same hsd
end Go.Proofs.Ytgladmaagpcffaa
