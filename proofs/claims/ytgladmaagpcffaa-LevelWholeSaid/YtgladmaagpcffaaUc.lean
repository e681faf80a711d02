/- Rows of rows: below, nested. -/
import Derived.Test.YtgladmaagpcffaaUb
set_option linter.unusedSimpArgs false
set_option linter.unusedVariables false
set_option maxRecDepth 20000
namespace Go.Proofs.Ytgladmaagpcffaa

/-- A slice of slices of numbers, its values. -/
structure RV (h : Heap) (a : Option Addr) (l c : Nat) (vs : List Value) (rows : List (List Int)) : Prop where
  s : Sees h a vs
  vlen : vs.length = l
  len : rows.length = l
  cap : l ≤ c
  row : ∀ i (hi : i < rows.length), ∃ ai li ci, vs[i]? = some (.slice ai li ci) ∧ RU h ai li ci rows[i] ∧ li < 2 ^ 60
theorem RV.old {h h' : Heap} {a : Option Addr} {l c : Nat} {vs : List Value} {rows : List (List Int)} (H : RV h a l c vs rows) (ho : Old h.size h h') : RV h' a l c vs rows :=
  ⟨H.s.old ho, H.vlen, H.len, H.cap, fun i hi => by obtain ⟨ai, li, ci, h1, h2, h3⟩ := H.row i hi; exact ⟨ai, li, ci, h1, h2.old ho, h3⟩⟩
theorem RV.at {h : Heap} {a : Option Addr} {l c : Nat} {vs : List Value} {rows : List (List Int)} (H : RV h a l c vs rows) {i : Nat} (hi : i < rows.length) :
    ∃ ad ai li ci, a = some ad ∧ vs[i]? = some (.slice ai li ci) ∧ cellAt h (ad.add i) = some (.slice ai li ci) ∧ RU h ai li ci rows[i] ∧ li < 2 ^ 60 := by
  obtain ⟨ai, li, ci, h1, h2, h3⟩ := H.row i hi
  obtain ⟨ad, e, hc⟩ := H.s i _ h1
  exact ⟨ad, ai, li, ci, e, h1, hc, h2, h3⟩

abbrev seqV (vs : List Value) (k : Nat) : Array Value := #[vs.getD k (.tuple #[])]
theorem ofR_seq {p : Nat} {a : Option Addr} {l c : Nat} {vs : List Value} (hl : l < 2 ^ 60) (hv : vs.length = l) (hf : ∀ (i : Nat) (v : Value), vs[i]? = some v → ∃ ai li ci, v = .slice ai li ci) :
    SeqH Try.prog (.func (.func 138) #[] #[.pointer (some ⟨p, 0, none⟩)]) vs.length (seqV vs) (fun h => cellAt h ⟨p, 0, none⟩ = some (.slice a l c) ∧ Sees h a vs) := by
  intro yf y1 y2 h N I X hN hev hok hy
  refine callV_cl ?_
  rw [cl2]
  refine call138 ?_
  unfold F138
  simp only [asPtr_some]
  refine ldH_mk hev.1 ?_
  simp only [asSlice_slice]
  refine ⟨fun vs h' => ∃ v, ∃ k : Nat, vs = [v, iv k] ∧ k ≤ l ∧ h.size ≤ h'.size ∧ I h.size k h', fun vs _ => (match vs with | [_, .int _ n] => l - n.toNat | _ => 0), ⟨_, 0, rfl, by omega, Nat.le_refl _, hok.self⟩, ?_⟩
  rintro v7 v8 g h10 ⟨v, k, e, hk, hs, hI⟩
  cases e
  simp only [asInt_int, asI_int]
  refine ifB_dec (fun hlt => ?_) (fun hge => ?_)
  · have hlt' : k < vs.length := by omega
    have ek : vs[k]? = some vs[k] := List.getElem?_eq_getElem hlt'
    obtain ⟨ad, rfl, hc⟩ := (hok.env _ _ _ hN hs hI).2 k _ ek
    obtain ⟨ai, li, ci, ev⟩ := hf k _ ek
    refine ⟨by omega, hlt, ?_⟩
    simp only [asPtr_some, Int.toNat_natCast, Nat.mul_one]
    refine ldH_mk hc ?_
    rw [ev]
    simp only [asSlice_slice]
    have hyk := hy h.size k h10 hlt' hN (Nat.le_refl _) hs hI
    have e2 : seqV vs k = #[.slice ai li ci] := by unfold seqV; rw [List.getD_eq_getElem?_getD, ek, ev]; rfl
    rw [e2] at hyk
    refine callV_mono ?_ hyk
    rintro w h'' ⟨hm, ⟨rfl, hI'⟩ | ⟨rfl, hX⟩⟩
    · simp only [asBool_bool, Bool.not_true, ifB_false]
      rw [nat_wrap1 (by omega)]
      refine ⟨⟨_, k + 1, rfl, by omega, Nat.le_trans hs hm.1, hI'⟩, ?_⟩
      show l - ((k + 1 : Nat) : Int).toNat < l - (k : Int).toNat
      omega
    · simp only [asBool_bool, Bool.not_false, ifB_true]
      exact ⟨h.size, hN, Nat.le_refl _, Nat.le_trans hs hm.1, .inr hX⟩
  · have : k = vs.length := by omega
    subst this
    exact ⟨h.size, hN, Nat.le_refl _, hs, .inl hI⟩

/-- What is made of each row. -/
theorem eachR_seq {sp kp : Nat} {g f : Value} {vs : List Value} {q : Nat → Int} {Ev Ek : Heap → Prop} (hg : fnV g) (hf : ∀ (i : Nat) (v : Value), vs[i]? = some v → ∃ ai li ci, v = .slice ai li ci) (hseq : SeqH Try.prog g vs.length (seqV vs) Ev) (hst : ∀ h h', Old h.size h h' → Ev h → Ev h')
    (hsk : ∀ h h', Old h.size h h' → Ek h → Ek h') (hk : ∀ (h : Heap) (k : Nat) (v : Value) (K : Value → Heap → Prop), Ek h → vs[k]? = some v → (∀ h', Old h.size h h' → K (iv (q k)) h') → callV Try.prog f #[v] h K) :
    SeqH Try.prog (.func (.func 137) #[] #[.pointer (some ⟨sp, 0, none⟩), .pointer (some ⟨kp, 0, none⟩)]) vs.length (fun k => #[iv (q k)])
      (fun h => cellAt h ⟨sp, 0, none⟩ = some g ∧ cellAt h ⟨kp, 0, none⟩ = some f ∧ Ev h ∧ Ek h) := by
  intro yf y1 y2 h N I X hN hev hok hy
  refine callV_cl ?_
  rw [cl3]
  refine call137 ?_
  unfold F137
  simp only [asPtr_some, oneC_func]
  have o1 : Old h.size h (h.push (.cells #[.func yf y1 y2] 50)) := (Old.refl _ _).push _ (Nat.le_refl _)
  have n1 := push_new h (.cells #[.func yf y1 y2] 50)
  have s1 : (h.push (.cells #[.func yf y1 y2] 50)).size = h.size + 1 := by simp
  generalize h.push (.cells #[.func yf y1 y2] 50) = h1 at *
  refine ldH_mk (cell_stable _ _ o1 hev.1) ?_
  refine rangeH_outer (h0 := h) (I := I) (X := X) (N := N) (n := vs.length) (xs := seqV vs) (Ev := Ev) (fun _ h' => h'[h.size]? = some (.cells #[.func yf y1 y2] 50)) (fun j => j) vs.length False
    hg hseq (fun _ _ => rfl) hN o1 hok (fun h' e => e.2.2.1) (hst _ _ o1 hev.2.2.1) rfl rfl (fun k ha hb hsame e => (hsame _ (Nat.le_refl _) (by omega)).trans e) n1 ?_ ?_ ?_
  · intro M j h4 hj hM hs hS hI
    rw [s1] at hM
    have ek : vs[j]? = some vs[j] := List.getElem?_eq_getElem hj
    obtain ⟨ai, li, ci, ev⟩ := hf j _ ek
    have e2 : (seqV vs j).getD 0 (.tuple #[]) = .slice ai li ci := by unfold seqV; rw [List.getD_eq_getElem?_getD, ek, ev]; rfl
    rw [e2]
    simp only [asSlice_slice]
    have hev4 := hok.env M _ h4 (by omega) hs hI
    refine ldH_mk (cellAt_row hS) ?_
    refine ldH_mk hev4.2.1 ?_
    refine hk _ j _ _ hev4.2.2.2 (by rw [ek, ev]) fun h10 o10 => ?_
    simp only [asInt_int]
    have hI10 := hok.keepI M _ h4 h10 (by omega) hs hI (keep_of_old o10)
    have hS10 : h10[h.size]? = some (.cells #[.func yf y1 y2] 50) := (o10.2 _ (by omega)).trans hS
    refine ⟨cellAt_row hS10, ?_⟩
    have hyk := hy M j h10 hj (by omega) (by omega) (by have := o10.1; omega) hI10
    refine callV_mono ?_ hyk
    rintro w h14 ⟨hm, hor⟩
    have hm4 : KeepMid h1.size M h4 h14 := (keepMid_of_old o10 hs).trans (hm.mono (by omega))
    rcases hor with ⟨rfl, hI'⟩ | ⟨rfl, hX⟩
    · simp only [asBool_bool, Bool.not_true, ifB_false]
      exact ⟨hm4, by have := hm4.1; omega, (hm.2 _ (by omega) (by omega)).trans hS10, hI'⟩
    · simp only [asBool_bool, Bool.not_false, ifB_true]
      exact ⟨hm4, trivial, .inl hX⟩
  · intro M h20 hM hs hI h21 hsd
    refine ⟨M, by omega, by omega, by rw [hsd.1]; exact hs, .inl ?_⟩
    exact hok.dI M _ h20 h21 (hsd.mono hN) hI
  · refine ⟨fun M h22 hM hs hX h23 hsd => ?_, trivial⟩
    refine ⟨M, by omega, by omega, by rw [hsd.1]; exact hs, .inr ?_⟩
    rcases hX with hX | hX
    · exact hok.dX M _ h22 h23 (hsd.mono hN) hX
    · exact hX.1.elim

theorem Below_call {K : Value → Heap → Prop} {h : Heap} {a : Option Addr} {l c : Nat} {vs : List Value} {rows : List (List Int)} {n : Int} (H : RV h a l c vs rows) (hl : l ≤ 1000)
    (k : ∀ a' c' h', RI h' a' l c' (rows.map fun r => ((belowF r n : Nat) : Int)) → Old h.size h h' → K (.slice a' l c') h') : CallH Try.prog 72 #[.slice a l c, uv n] h K := by
  refine call72 ?_
  unfold F72
  have hf : ∀ (i : Nat) (v : Value), vs[i]? = some v → ∃ ai li ci, v = .slice ai li ci := by
    intro i v hi
    have hlt := (List.getElem?_eq_some_iff.1 hi).1
    obtain ⟨ai, li, ci, h1, _, _⟩ := H.row i (by rw [H.len, ← H.vlen]; exact hlt)
    rw [hi] at h1; cases h1; exact ⟨_, _, _, rfl⟩
  have p1 := pushed h #[.int .u64 n] 76
  generalize h.push (.cells #[.int .u64 n] 76) = h1 at *
  have o1 := p1.toOld
  have s1 := p1.size
  refine callV_fn (call113 ?_)
  unfold F113
  have p2 := pushed h1 #[.slice a l c] 81
  generalize h1.push (.cells #[.slice a l c] 81) = h2 at *
  have o2 : Old h.size h h2 := o1.trans (p2.toOld.mono (by omega))
  refine callV_fn (call112 ?_)
  unfold F112
  simp only [oneC_func]
  obtain ⟨o3', e1, e2⟩ := push2 (h := h2) (.cells #[.func (.func 138) #[] #[.pointer (some ⟨h1.size, 0, none⟩)]] 134) (.cells #[.func (.func 114) #[] #[.pointer (some ⟨h.size, 0, none⟩)]] 136)
  rw [Array.size_push]
  generalize (h2.push (.cells #[.func (.func 138) #[] #[.pointer (some ⟨h1.size, 0, none⟩)]] 134)).push (.cells #[.func (.func 114) #[] #[.pointer (some ⟨h.size, 0, none⟩)]] 136) = h3 at *
  have o3 : Old h.size h h3 := o2.trans (o3'.mono o2.1)
  refine ⟨fun vs h' => vs = [.bool false] ∧ h' = h3, ?_, ?_⟩
  · refine ldH_mk (cellAt_row e1) ?_
    simp only [asFnNil_func, ifB_false]
    refine ldH_mk (cellAt_row e2) ?_
    simp only [asFnNil_func]
    exact ⟨by trivial, by trivial⟩
  rintro v5 g6 h7 ⟨e, rfl⟩
  cases e
  simp only [asBool_bool, ifB_false]
  have nc : cellAt h7 ⟨h.size, 0, none⟩ = some (uv n) := cell_stable _ _ o3' ((cellAt_congr (p2.old _ (by show h.size < _; omega))).trans (cellAt_row p1.new))
  have lc : cellAt h7 ⟨h1.size, 0, none⟩ = some (.slice a l c) := cell_stable _ _ o3' (cellAt_row p2.new)
  have hseq := eachR_seq (sp := h2.size) (kp := h2.size + 1) (g := .func (.func 138) #[] #[.pointer (some ⟨h1.size, 0, none⟩)]) (f := .func (.func 114) #[] #[.pointer (some ⟨h.size, 0, none⟩)])
    (vs := vs) (q := fun i => ((belowF (rows.getD i []) n : Nat) : Int)) (Ek := fun h' => cellAt h' ⟨h.size, 0, none⟩ = some (uv n) ∧ RV h' a l c vs rows) trivial hf (ofR_seq (p := h1.size) (a := a) (l := l) (c := c) (by omega) H.vlen hf)
    (fun h h' o e => ⟨cell_stable _ _ o e.1, e.2.old o⟩) (fun h h' o e => ⟨cell_stable _ _ o e.1, e.2.old o⟩) (by
      rintro h9 i v K ⟨x1, x2⟩ hv kk
      have hi : i < rows.length := by have := (List.getElem?_eq_some_iff.1 hv).1; rw [x2.vlen] at this; rw [x2.len]; exact this
      obtain ⟨ai, li, ci, r1, r2, r3⟩ := x2.row i hi
      rw [hv] at r1; cases r1
      refine callV_cl ?_
      rw [cl2]
      refine call114 ?_
      unfold F114
      simp only [asPtr_some]
      refine ldH_mk x1 ?_
      simp only [asInt_int]
      refine callV_fn (below_call r2 r3 fun h' o => ?_)
      simp only [asInt_int]
      have := kk h' o
      rw [List.getD_eq_getElem?_getD, List.getElem?_eq_getElem hi] at this
      exact this)
  have S : SeqAt (.func (.func 137) #[] #[.pointer (some ⟨h2.size, 0, none⟩), .pointer (some ⟨h2.size + 1, 0, none⟩)]) vs.length (fun i => ((belowF (rows.getD i []) n : Nat) : Int)) h7 :=
    ⟨_, _, _, _, rfl, hseq, ⟨cellAt_row e1, cellAt_row e2, ⟨lc, (H.old o3).s⟩, nc, H.old o3⟩, fun h h' o e => ⟨cell_stable _ _ o e.1, cell_stable _ _ o e.2.1, ⟨cell_stable _ _ o e.2.2.1.1, e.2.2.1.2.old o⟩, cell_stable _ _ o e.2.2.2.1, e.2.2.2.2.old o⟩⟩
  refine callV_fn (list_call S (by rw [H.vlen]; omega) fun a8 c8 h8 own _ o8 => ?_)
  simp only [asSlice_slice]
  rw [H.vlen] at own ⊢
  refine k _ _ _ ?_ (o3.trans (o8.mono o3.1))
  have e : (List.range l).map (fun i => ((belowF (rows.getD i []) n : Nat) : Int)) = rows.map fun r => ((belowF r n : Nat) : Int) := by
    apply List.ext_getElem (by simp [H.len])
    intro i h1 h2
    simp at h1
    simp [H.len, h1]
  rw [e] at own
  exact own.ri

/-! ### nested -/
def NestedP (rows : List (List Int)) : Prop := ∀ i (hi : i < rows.length), RisingP rows[i] ∧ ∀ h0 : 0 < i, ∀ x ∈ rows[i], x ∈ rows[i - 1]

theorem nested23_call {K : Value → Heap → Prop} {h : Heap} {a : Option Addr} {l c : Nat} {vs : List Value} {rows : List (List Int)} (H : RV h a l c vs rows) (hl : l ≤ 1000) (k1 : NestedP rows → K (.bool true) h) (k0 : ¬ NestedP rows → K (.bool false) h) :
    CallH Try.prog 74 #[.slice a l c] h K := by
  refine call74 ?_
  unfold F74
  have hlen := H.len
  refine ⟨fun vs h' => ∃ v, ∃ i : Nat, vs = [.bool false, iv i, v] ∧ h' = h ∧ i ≤ l ∧ ∀ j (hj : j < rows.length), j < i → RisingP rows[j] ∧ ∀ h0 : 0 < j, ∀ x ∈ rows[j], x ∈ rows[j - 1], fun vs _ => (match vs with | [_, .int _ n, _] => l - n.toNat | _ => 0), ⟨_, 0, rfl, rfl, Nat.zero_le _, fun j _ h => by omega⟩, ?_⟩
  rintro v2 v3 v4 g h6 ⟨w, i, e, rfl, hi, hall⟩
  cases e
  simp only [asInt_int]
  refine ifB_dec (fun hlt => ?_) (fun hge => ?_)
  · have hi' : i < rows.length := by omega
    obtain ⟨ad, ai, li, ci, rfl, _, hc, hr, hli⟩ := H.at hi'
    refine ⟨by omega, hlt, ?_⟩
    simp only [asPtr_some, Int.toNat_natCast, Nat.mul_one]
    refine ldH_mk hc ?_
    simp only [asSlice_slice]
    refine callV_fn (rising23_call hr hli (fun hris => ?_) (fun hris => ?_))
    · simp only [asBool_bool, Bool.not_true, ifB_false]
      have hrl := hr.len
      refine ⟨fun vs h' => ∃ q : Nat, vs = [.bool false, iv q] ∧ h' = h6 ∧ (0 < q → 0 < i) ∧ q ≤ li ∧ ∀ (h0 : 0 < i), ∀ j (hj : j < (rows[i]).length), j < q → (rows[i])[j] ∈ rows[i - 1], fun vs _ => (match vs with | [_, .int _ n] => li - n.toNat | _ => 0), ⟨0, rfl, by trivial, fun h => by omega, Nat.zero_le _, fun _ j _ h => by omega⟩, ?_⟩
      rintro v19 v20 g21 h22 ⟨q, e, rfl, hq0, hql, hin⟩
      cases e
      refine ⟨fun vs h' => vs = [.bool (decide (0 < i ∧ q < li))] ∧ h' = h22, ?_, ?_⟩
      · refine ifB_dec (fun h1 => ?_) (fun h1 => ⟨?_, by trivial⟩)
        · refine ⟨by omega, hlt, ldH_mk hc ?_⟩
          simp only [asSlice_slice]
          refine ⟨?_, by trivial⟩
          congr 2; rw [decide_eq_decide]; omega
        · rw [decide_eq_false (p := 0 < i ∧ q < li) (by omega)]
      · rintro v32 g33 h34 ⟨e, rfl⟩
        cases e
        simp only [asBool_bool]
        refine ifB_dec (fun h1 => ?_) (fun h1 => ?_)
        · obtain ⟨ad', am, lm, cm, e', _, hcm, hrm, hlm⟩ := H.at (i := i - 1) (by omega)
          cases e'
          rw [nat_wrapm (by omega) (by omega)]
          refine ⟨by omega, by omega, ?_⟩
          simp only [Int.toNat_natCast]
          refine ldH_mk hcm ?_
          simp only [asSlice_slice]
          refine ⟨by omega, hlt, ldH_mk hc ?_⟩
          simp only [asSlice_slice]
          obtain ⟨ae, ee, hce⟩ := hr.at (i := q) (by omega)
          subst ee
          refine ⟨by omega, by omega, ?_⟩
          simp only [asPtr_some]
          refine ldH_mk hce ?_
          simp only [asInt_int]
          refine callV_fn (place_call hrm hlm ?_)
          simp only [asInt_int]
          refine ifB_dec (fun hp => ?_) (fun hp => ?_)
          · refine k0 fun m => ?_
            have := (m i hi').2 (by omega) _ (List.getElem_mem (by omega : q < (rows[i]).length))
            have := pl_pos.2 this
            omega
          · rw [nat_wrap1 (by omega)]
            refine ⟨⟨q + 1, rfl, by trivial, fun _ => h1.1, by omega, fun h0 j hj hjq => ?_⟩, ?_⟩
            · by_cases e : j < q
              · exact hin h0 j hj e
              · obtain rfl : j = q := by omega
                exact pl_pos.1 (by omega)
            · show li - ((q + 1 : Nat) : Int).toNat < li - (q : Int).toNat
              omega
        · rw [nat_wrap1 (by omega)]
          refine ⟨⟨_, i + 1, rfl, by trivial, by omega, fun j hj hji => ?_⟩, ?_⟩
          · by_cases e : j < i
            · exact hall j hj e
            · obtain rfl : j = i := by omega
              refine ⟨hris, fun h0 x hx => ?_⟩
              obtain ⟨t, ht, rfl⟩ := List.getElem_of_mem hx
              exact hin h0 t ht (by omega)
          · show l - ((i + 1 : Nat) : Int).toNat < l - (i : Int).toNat
            omega
    · simp only [asBool_bool, Bool.not_false, ifB_true]
      exact k0 fun m => hris (m i hi').1
  · exact k1 fun j hj => hall j hj (by omega)

theorem nested_call {K : Value → Heap → Prop} {h : Heap} {a : Option Addr} {l c : Nat} {vs : List Value} {rows : List (List Int)} (H : RV h a l c vs rows) (hl : l ≤ 1000) (k1 : NestedP rows → ∀ h', Old h.size h h' → K (.bool true) h') (k0 : ¬ NestedP rows → ∀ h', Old h.size h h' → K (.bool false) h') :
    CallH Try.prog 73 #[.slice a l c] h K := by
  refine call73 ?_
  unfold F73
  have hlen := H.len
  have p1 := pushed h #[.slice a l c] 81
  generalize h.push (.cells #[.slice a l c] 81) = h1 at *
  have o1 := p1.toOld
  have H1 := H.old o1
  refine ldR p1.new rfl ?_
  simp only [asSlice_slice]
  refine ⟨fun vs h' => ∃ v, ∃ i : Nat, vs = [.bool false, v, iv i] ∧ Old h1.size h1 h' ∧ i ≤ l ∧ ∀ j (hj : j < rows.length), j < i → RisingP rows[j] ∧ ∀ h0 : 0 < j, ∀ x ∈ rows[j], x ∈ rows[j - 1], fun vs _ => (match vs with | [_, _, .int _ n] => l - n.toNat | _ => 0), ⟨_, 0, rfl, Old.refl _ _, Nat.zero_le _, fun j _ h => by omega⟩, ?_⟩
  rintro v6 v7 v8 g9 h10 ⟨w, i, e, o10, hi, hall⟩
  cases e
  simp only [asInt_int, asI_int]
  have ok10 := o1.trans (o10.mono o1.1)
  have c10 := cell_stable _ _ o10 (cellAt_row p1.new)
  refine ifB_dec (fun hlt => ?_) (fun hge => ?_)
  · have hi' : i < rows.length := by omega
    obtain ⟨ad, ai, li, ci, rfl, _, hc, hr, hli⟩ := (H1.old o10).at hi'
    refine ⟨by omega, hlt, ?_⟩
    simp only [asPtr_some, Int.toNat_natCast, Nat.mul_one]
    refine ldH_mk hc ?_
    simp only [asSlice_slice]
    have p2 := pushed h10 #[.int .i64 0] 3
    generalize h10.push (.cells #[.int .i64 0] 3) = h11 at *
    refine stR p2.new rfl trivial fun h19 w19 => ?_
    have o19' : Old h10.size h10 h19 := w19.toOld p2.toOld (Nat.le_refl _)
    have o19 := o10.trans (o19'.mono o10.1)
    have ok19 := o1.trans (o19.mono o1.1)
    refine callV_fn (rising_call (hr.old o19') hli (fun hris => ?_) (fun hris => ?_))
    · simp only [asBool_bool, Bool.not_true, ifB_false]
      have ic : cellAt h19 ⟨h10.size, 0, none⟩ = some (iv i) := cellAt_row w19.new
      refine ⟨fun vs h' => ∃ b, vs = [.bool b] ∧ Old h19.size h19 h' ∧ (b = true → ¬ NestedP rows) ∧ (b = false → ∀ h0 : 0 < i, ∀ x ∈ rows[i], x ∈ rows[i - 1]), ?_, ?_⟩
      · refine ldH_mk ic ?_
        simp only [asInt_int]
        refine ifB_dec (fun h0 => ?_) (fun h0 => ⟨false, rfl, Old.refl _ _, fun e => (by cases e), fun _ h => by omega⟩)
        refine callV_fn (of_callU (hr.old o19') hli fun g27 h27 S27 o27 => ?_)
        have H19 := (H1.old o19)
        have Hk : KeepU (.func (.func 118) #[] #[.pointer (some ⟨h.size, 0, none⟩), .pointer (some ⟨h10.size, 0, none⟩)]) (fun _ => True) (fun x => !decide (x ∈ rows.getD (i - 1) [])) h27 := by
          refine ⟨⟨_, _, _, rfl⟩, fun h' => cellAt h' ⟨h.size, 0, none⟩ = some (.slice (some ad) l c) ∧ cellAt h' ⟨h10.size, 0, none⟩ = some (iv i) ∧ RV h' (some ad) l c vs rows, ⟨cell_stable _ _ o27 (cell_stable _ _ o19' c10), cell_stable _ _ o27 ic, H19.old o27⟩,
            fun h h' o e => ⟨cell_stable _ _ o e.1, cell_stable _ _ o e.2.1, e.2.2.old o⟩, ?_⟩
          rintro hx x K ⟨x1, x2, x3⟩ _ k
          refine callV_cl ?_
          rw [cl3]
          refine call118 ?_
          unfold F118
          simp only [asPtr_some]
          refine ldH_mk x1 ?_
          simp only [asSlice_slice, asPtr_some]
          refine ldH_mk x2 ?_
          simp only [asInt_int]
          obtain ⟨ad', am, lm, cm, e', _, hcm, hrm, hlm⟩ := x3.at (i := i - 1) (by omega)
          cases e'
          rw [nat_wrapm (by omega) (by omega)]
          refine ⟨by omega, by omega, ?_⟩
          simp only [Int.toNat_natCast, Nat.mul_one]
          refine ldH_mk hcm ?_
          simp only [asSlice_slice]
          refine callV_fn (contains_call hrm hlm ?_)
          simp only [asBool_bool]
          have := k hx (Old.refl _ _)
          rw [List.getD_eq_getElem?_getD, List.getElem?_eq_getElem (by omega)] at this
          exact this
        refine callV_fn (some_onU S27 Hk (fun _ _ => trivial) fun h29 o29 => ?_)
        simp only [asBool_bool]
        refine ⟨_, rfl, o27.trans (o29.mono o27.1), fun hany m => ?_, fun hany h0' x hx => ?_⟩
        · obtain ⟨x, hx, hp⟩ := List.any_eq_true.1 hany
          have := (m i hi').2 (by omega) x hx
          rw [List.getD_eq_getElem?_getD, List.getElem?_eq_getElem (by omega)] at hp
          simp [this] at hp
        · have := List.any_eq_false.1 hany x hx
          rw [List.getD_eq_getElem?_getD, List.getElem?_eq_getElem (by omega)] at this
          simpa using this
      · rintro v31 g32 h33 ⟨b, e, o33, hb1, hb0⟩
        cases e
        have ok33 := ok19.trans (o33.mono ok19.1)
        simp only [asBool_bool]
        refine ifB_mk (fun hb => k0 (hb1 hb) _ ok33) (fun hb => ?_)
        rw [nat_wrap1 (by omega)]
        refine ⟨⟨_, i + 1, rfl, o19.trans (o33.mono o19.1), by omega, fun j hj hji => ?_⟩, ?_⟩
        · by_cases e : j < i
          · exact hall j hj e
          · obtain rfl : j = i := by omega
            exact ⟨hris, hb0 hb⟩
        · show l - ((i + 1 : Nat) : Int).toNat < l - (i : Int).toNat
          omega
    · simp only [asBool_bool, Bool.not_false, ifB_true]
      exact k0 (fun m => hris (m i hi').1) _ ok19
  · exact k1 (fun j hj => hall j hj (by omega)) _ ok10
end Go.Proofs.Ytgladmaagpcffaa
