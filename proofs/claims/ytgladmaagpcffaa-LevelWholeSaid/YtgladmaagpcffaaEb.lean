/- Entries: copies, sequences, rows of them. -/
import Derived.Test.YtgladmaagpcffaaEa
set_option linter.unusedSimpArgs false
set_option linter.unusedVariables false
set_option maxRecDepth 20000
namespace Go.Proofs.Ytgladmaagpcffaa

/-- A slice of entries, to be read. -/
structure SE (h : Heap) (a : Option Addr) (l c : Nat) (es : List Ent) : Prop where
  s : Sees h a (flatE es)
  len : es.length = l
  cap : l ≤ c
theorem SE.old {h h' : Heap} {a : Option Addr} {l c : Nat} {es : List Ent} (H : SE h a l c es) (ho : Old h.size h h') : SE h' a l c es := ⟨H.s.old ho, H.len, H.cap⟩
theorem SE.at {h : Heap} {a : Option Addr} {l c : Nat} {es : List Ent} (H : SE h a l c es) {i : Nat} (hi : i < es.length) : ∃ ad, a = some ad ∧ cellAt h (ad.add (i * 2)) = some (.int .u64 (es[i]).o) ∧ cellAt h ((ad.add (i * 2)).add 1) = some (.int .i64 (es[i]).t) := by
  obtain ⟨ad, e, h0⟩ := H.s _ _ (show (flatE es)[i * 2 + 0]? = some (.int .u64 (es[i]).o) by rw [flatE_get hi (by omega)]; rfl)
  obtain ⟨ad', e', h1⟩ := H.s _ _ (show (flatE es)[i * 2 + 1]? = some (.int .i64 (es[i]).t) by rw [flatE_get hi (by omega)]; rfl)
  rw [e] at e'; cases e'
  exact ⟨ad, e, h0, by rw [add_add]; exact h1⟩
theorem EB.se {h : Heap} {b : Nat} {es : List Ent} {sp : List Value} {l c : Nat} (H : EB h b es sp) (hl : es.length = l) (hc : l ≤ c) : SE h (some ⟨b, 0, none⟩) l c es := by
  refine ⟨fun i v hi => ⟨_, rfl, ?_⟩, hl, hc⟩
  rw [add_lit, cellAt_of H, List.getElem?_toArray, Nat.zero_add]
  have hlt := (List.getElem?_eq_some_iff.1 hi).1
  rw [List.getElem?_append_left hlt]; exact hi

theorem und_ents : und Try.prog 80 = .slice 97 := by kernel_rfl
theorem there_ent : there Try.prog 97 = true := by kernel_rfl
theorem zer_ent : zer Try.prog 97 = some (.agg #[.int .u64 0, .int .i64 0]) := by kernel_rfl
theorem siz_ent : siz Try.prog 97 = 2 := by kernel_rfl
theorem byt_ent : byt Try.prog 97 = 16 := by kernel_rfl

/-- A copy: nothing, or a block of its own. -/
theorem cloneE_call {K : Value → Heap → Prop} {h : Heap} {a : Option Addr} {l c : Nat} {es : List Ent} (H : SE h a l c es) (hl : l ≤ 1000)
    (k0 : l = 0 → ∀ a' h', Old h.size h h' → K (.slice a' 0 0) h') (k1 : ∀ b c' sp h', EB h' b es sp → h.size ≤ b → l ≤ c' → Old h.size h h' → K (.slice (some ⟨b, 0, none⟩) l c') h') :
    CallH Try.prog 103 #[.slice a l c] h K := by
  refine call103 ?_
  unfold F103
  refine ifB_mk (fun hq => ?_) (fun hq => ?_)
  · have e1 : a = none := by simpa using hq
    subst e1
    refine k0 ?_ _ _ (Old.refl _ _)
    rcases Nat.eq_zero_or_pos l with e | e
    · exact e
    · obtain ⟨ad, e2, _⟩ := H.at (i := 0) (by have := H.len; omega)
      cases e2
  · have o1 : Old h.size h (h.push (.cells #[] 97)) := (Old.refl _ _).push _ (Nat.le_refl _)
    have H1 := H.old o1
    refine appH_nil (P := Try.prog) (t := 80) (elem := 97) (z := .agg #[.int .u64 0, .int .i64 0]) (ys := flatE es) (n := l) und_ents there_ent zer_ent (by rw [siz_ent]; rfl) H1.s (by rw [siz_ent, flatE_len, H.len]) ?_ (by rw [byt_ent]; omega) (by rw [byt_ent]; omega) ?_ ?_
    · intro y hy
      obtain ⟨e, _, hy⟩ := List.mem_flatMap.1 hy
      simp only [Ent.cells, List.mem_cons, List.not_mem_nil, or_false] at hy
      rcases hy with rfl | rfl <;> trivial
    · intro h0
      simp only [asSlice_slice]
      exact k0 h0 _ _ o1
    · intro cap h' own hs o
      simp only [asSlice_slice]
      rw [siz_ent] at own
      obtain ⟨_, hcap, h3⟩ := own
      rcases h3 with ⟨e, _⟩ | ⟨b, row, e, hb, hrs, hrt⟩
      · cases e
      · cases e
        refine k1 _ _ (row.toList.drop (l * 2)) _ ?_ (by simp) hcap (o1.trans (o.mono (by simp)))
        unfold EB
        rw [← hrt, List.take_append_drop]
        exact hb

theorem insertion0_call {K : Value → Heap → Prop} {h : Heap} {a : Option Addr} {c : Nat} (k : K (.tuple #[]) h) : CallH Try.prog 150 #[.slice a 0 c, iv 0, iv 0, cmpV] h K := by
  refine call150 ?_
  unfold F150
  refine ⟨fun vs h' => ∃ w, vs = [iv 1, w] ∧ h' = h, fun _ _ => 0, ⟨_, rfl, rfl⟩, ?_⟩
  rintro v2 v3 g h5 ⟨w, e, rfl⟩
  cases e
  simp only [asInt_int]
  exact ifB_dec (fun hlt => by omega) (fun _ => k)
theorem stable0_call {K : Value → Heap → Prop} {h : Heap} {a : Option Addr} {c : Nat} (k : K (.tuple #[]) h) : CallH Try.prog 104 #[.slice a 0 c, cmpV] h K := by
  refine call104 ?_
  unfold F104
  refine callV_fn (call128 ?_)
  unfold F128
  refine ⟨fun vs h' => vs = [iv 0, iv 20] ∧ h' = h, fun _ _ => 0, ⟨rfl, rfl⟩, ?_⟩
  rintro v2 v3 g h5 ⟨e, rfl⟩
  cases e
  simp only [asInt_int]
  refine ifB_dec (fun hlt => by omega) (fun _ => ?_)
  refine callV_fn (insertion0_call ?_)
  refine ⟨fun vs h' => ∃ x y z, vs = [iv 20, x, y, z] ∧ h' = h5, fun _ _ => 0, ⟨_, _, _, rfl, by trivial⟩, ?_⟩
  rintro v18 v19 v20 v21 g22 h23 ⟨x, y, z, e, rfl⟩
  cases e
  simp only [asInt_int]
  exact ifB_dec (fun hlt => by omega) (fun _ => k)
theorem stable_small {K : Value → Heap → Prop} {h : Heap} {b l c : Nat} {es : List Ent} {sp : List Value} (H : EB h b es sp) (hl : es.length = l) (hl2 : l < 20)
    (k : ∀ es' h', EB h' b es' sp → es'.Perm es → SortedSeg es' 0 l → OldB b h h' → K (.tuple #[]) h') : CallH Try.prog 104 #[.slice (some ⟨b, 0, none⟩) l c, cmpV] h K := by
  refine call104 ?_
  unfold F104
  refine callV_fn (call128 ?_)
  unfold F128
  refine ⟨fun vs h' => vs = [iv 0, iv 20] ∧ h' = h, fun _ _ => 0, ⟨rfl, rfl⟩, ?_⟩
  rintro v2 v3 g h5 ⟨e, rfl⟩
  cases e
  simp only [asInt_int]
  refine ifB_dec (fun hlt => by omega) (fun _ => ?_)
  refine callV_fn (insertion_call (a1 := 0) (b1 := l) H hl (by omega) (by omega) (Nat.le_refl _) fun es' h15 B15 sg so o15 => ?_)
  refine ⟨fun vs h' => ∃ x y z, vs = [iv 20, x, y, z] ∧ h' = h15, fun _ _ => 0, ⟨_, _, _, rfl, by trivial⟩, ?_⟩
  rintro v18 v19 v20 v21 g22 h23 ⟨x, y, z, e, rfl⟩
  cases e
  simp only [asInt_int]
  exact ifB_dec (fun hlt => by omega) (fun _ => k _ _ B15 sg.perm so o15)

/-! ### sequences of entries -/
def OldX (av : Nat → Prop) (h h' : Heap) : Prop := h.size ≤ h'.size ∧ ∀ b, b < h.size → ¬ av b → h'[b]? = h[b]?
theorem OldX.of {av : Nat → Prop} {h h' : Heap} (o : Old h.size h h') : OldX av h h' := ⟨o.1, fun b hb _ => o.2 b hb⟩
theorem OldX.cell {av : Nat → Prop} {h h' : Heap} {a : Addr} {v : Value} (o : OldX av h h') (ha : ¬ av a.block) (hc : cellAt h a = some v) : cellAt h' a = some v := (cellAt_congr (o.2 _ (cellAt_lt hc) ha)).trans hc
theorem SE.oldX {av : Nat → Prop} {h h' : Heap} {a : Option Addr} {l c : Nat} {es : List Ent} (H : SE h a l c es) (ho : OldX av h h') (hna : es ≠ [] → ∀ ad, a = some ad → ¬ av ad.block) : SE h' a l c es := by
  refine ⟨fun i v hi => ?_, H.len, H.cap⟩
  obtain ⟨ad, e, hc⟩ := H.s i v hi
  exact ⟨ad, e, ho.cell (by rw [add_block]; exact hna (by rintro rfl; simp at hi) ad e) hc⟩
abbrev seqE (es : List Ent) (k : Nat) : Array Value := #[.agg (es.getD k ⟨0, 0⟩).cells.toArray]
def SeqEA (av : Nat → Prop) (g : Value) (es : List Ent) (h : Heap) : Prop :=
  ∃ f fst cap Ev, g = .func (.func f) fst cap ∧ SeqH Try.prog g es.length (seqE es) Ev ∧ Ev h ∧ ∀ h h', OldX av h h' → Ev h → Ev h'
def KeepEA (av : Nat → Prop) (f : Value) (p : Ent → Bool) (h : Heap) : Prop :=
  (∃ g x y, f = .func (.func g) x y) ∧ ∃ Ev : Heap → Prop, Ev h ∧ (∀ h h', OldX av h h' → Ev h → Ev h') ∧
    ∀ (h : Heap) (e : Ent) (K : Value → Heap → Prop), Ev h → (∀ h', Old h.size h h' → K (.bool (p e)) h') → callV Try.prog f #[.agg e.cells.toArray] h K
theorem st2 {h : Heap} {b : Nat} {v0 v1 : Value} {K : Heap → Prop} (H : stN h ⟨b, 0, none⟩ 0 [v0, v1] K) : stH h ⟨b, 0, none⟩ v0 fun h => stH h ⟨b, 1, none⟩ v1 K := H

theorem ofE_seq {p : Nat} {a : Option Addr} {l c : Nat} {es : List Ent} (hl : l < 2 ^ 60) :
    SeqH Try.prog (.func (.func 132) #[] #[.pointer (some ⟨p, 0, none⟩)]) es.length (seqE es) (fun h => cellAt h ⟨p, 0, none⟩ = some (.slice a l c) ∧ SE h a l c es) := by
  intro yf y1 y2 h N I X hN hev hok hy
  refine callV_cl ?_
  rw [cl2]
  refine call132 ?_
  unfold F132
  have hlen := hev.2.len
  simp only [asPtr_some]
  refine ldH_mk hev.1 ?_
  simp only [asSlice_slice]
  refine ⟨fun vs h' => ∃ k : Nat, vs = [iv k] ∧ k ≤ l ∧ h.size ≤ h'.size ∧ I h.size k h', fun vs _ => (match vs with | [.int _ n] => l - n.toNat | _ => 0), ⟨0, rfl, by omega, Nat.le_refl _, hok.self⟩, ?_⟩
  rintro v7 g h9 ⟨k, e, hk, hs, hI⟩
  cases e
  simp only [asInt_int, asI_int]
  refine ifB_dec (fun hlt => ?_) (fun hge => ?_)
  · have hlt' : k < es.length := by omega
    obtain ⟨ad, rfl, c0, c1⟩ := (hok.env _ _ _ hN hs hI).2.at hlt'
    refine ⟨by omega, hlt, ?_⟩
    simp only [asPtr_some, Int.toNat_natCast]
    refine ldH_mk c0 (ldH_mk c1 ?_)
    have p1 := pushed h9 #[.int .u64 0, .int .i64 0] 97
    generalize h9.push (.cells #[.int .u64 0, .int .i64 0] 97) = h10 at *
    refine st2 (stN_full p1.new rfl (by simp [oneC]) fun h16 w16 => ?_)
    have o16 : Old h9.size h9 h16 := w16.toOld p1.toOld (Nat.le_refl _)
    refine ldR w16.new rfl ?_
    refine ldR w16.new rfl ?_
    have hI16 := hok.keepI _ _ h9 h16 hN hs hI (keep_of_old o16)
    have hyk := hy h.size k h16 hlt' hN (Nat.le_refl _) (Nat.le_trans hs o16.1) hI16
    have e2 : seqE es k = #[.agg #[.int .u64 (es[k]).o, .int .i64 (es[k]).t]] := by unfold seqE; rw [List.getD_eq_getElem?_getD, List.getElem?_eq_getElem hlt']; rfl
    rw [e2] at hyk
    refine callV_mono ?_ hyk
    rintro w h'' ⟨hm, ⟨rfl, hI'⟩ | ⟨rfl, hX⟩⟩
    · simp only [asBool_bool, Bool.not_true, ifB_false]
      rw [nat_wrap1 (by omega)]
      refine ⟨⟨k + 1, rfl, by omega, Nat.le_trans hs (Nat.le_trans o16.1 hm.1), hI'⟩, ?_⟩
      show l - ((k + 1 : Nat) : Int).toNat < l - (k : Int).toNat
      omega
    · simp only [asBool_bool, Bool.not_false, ifB_true]
      exact ⟨h.size, hN, Nat.le_refl _, Nat.le_trans hs (Nat.le_trans o16.1 hm.1), .inr hX⟩
  · have : k = es.length := by omega
    subst this
    exact ⟨h.size, hN, Nat.le_refl _, hs, .inl hI⟩
theorem ofE_call {K : Value → Heap → Prop} {h : Heap} {av : Nat → Prop} {a : Option Addr} {l c : Nat} {es : List Ent} (H : SE h a l c es) (hl : l < 2 ^ 60) (hna : es ≠ [] → ∀ ad, a = some ad → ¬ av ad.block) (hav : ∀ b, av b → b < h.size) (k : ∀ g h', SeqEA av g es h' → Old h.size h h' → K g h') :
    CallH Try.prog 108 #[.slice a l c] h K := by
  refine call108 ?_
  unfold F108
  have o1 : Old h.size h (h.push (.cells #[.slice a l c] 80)) := (Old.refl _ _).push _ (Nat.le_refl _)
  exact k _ _ ⟨_, _, _, _, rfl, ofE_seq hl, ⟨cellAt_row (push_new _ _), H.old o1⟩, fun h1 h2 o e => ⟨o.cell (fun x => by have := hav _ x; simp at this) e.1, e.2.oldX o hna⟩⟩ o1

theorem filterE_at {L : List Ent} {p : Ent → Bool} {j : Nat} (hj : j < L.length) (hp : p L[j] = true) :
    ((L.take j).filter p).length < (L.filter p).length ∧ (L.filter p).getD ((L.take j).filter p).length ⟨0, 0⟩ = L[j] := by
  have e : L.filter p = (L.take j).filter p ++ L[j] :: (L.drop (j + 1)).filter p := by
    conv => lhs; rw [← List.take_append_drop j L, List.filter_append, List.drop_eq_getElem_cons hj, List.filter_cons_of_pos hp]
  rw [e]
  constructor
  · simp
  · simp
theorem filterE_succ {L : List Ent} {p : Ent → Bool} {j : Nat} (hj : j < L.length) : ((L.take (j + 1)).filter p).length = ((L.take j).filter p).length + (if p L[j] then 1 else 0) := by
  rw [List.take_succ_eq_append_getElem hj, List.filter_append, List.length_append]
  cases h : p L[j] <;> simp [h]

theorem onlyE_seq {sp kp : Nat} {g f : Value} {L : List Ent} {p : Ent → Bool} {Ev Ek : Heap → Prop} (hg : fnV g) (hseq : SeqH Try.prog g L.length (seqE L) Ev) (hst : ∀ h h', Old h.size h h' → Ev h → Ev h')
    (hsk : ∀ h h', Old h.size h h' → Ek h → Ek h') (hk : ∀ (h : Heap) (e : Ent) (K : Value → Heap → Prop), Ek h → (∀ h', Old h.size h h' → K (.bool (p e)) h') → callV Try.prog f #[.agg e.cells.toArray] h K) :
    SeqH Try.prog (.func (.func 131) #[] #[.pointer (some ⟨sp, 0, none⟩), .pointer (some ⟨kp, 0, none⟩)]) (L.filter p).length (seqE (L.filter p))
      (fun h => cellAt h ⟨sp, 0, none⟩ = some g ∧ cellAt h ⟨kp, 0, none⟩ = some f ∧ Ev h ∧ Ek h) := by
  intro yf y1 y2 h N I X hN hev hok hy
  refine callV_cl ?_
  rw [cl3]
  refine call131 ?_
  unfold F131
  simp only [asPtr_some, oneC_func]
  have o1 : Old h.size h (h.push (.cells #[.func yf y1 y2] 126)) := (Old.refl _ _).push _ (Nat.le_refl _)
  have n1 := push_new h (.cells #[.func yf y1 y2] 126)
  have s1 : (h.push (.cells #[.func yf y1 y2] 126)).size = h.size + 1 := by simp
  generalize h.push (.cells #[.func yf y1 y2] 126) = h1 at *
  refine ldH_mk (cell_stable _ _ o1 hev.1) ?_
  refine rangeH_outer (h0 := h) (I := I) (X := X) (N := N) (n := L.length) (xs := seqE L) (Ev := Ev) (fun _ h' => h'[h.size]? = some (.cells #[.func yf y1 y2] 126)) (fun j => ((L.take j).filter p).length) (L.filter p).length False
    hg hseq (fun _ _ => rfl) hN o1 hok (fun h' e => e.2.2.1) (hst _ _ o1 hev.2.2.1) (by simp) (by simp) (fun k ha hb hsame e => (hsame _ (Nat.le_refl _) (by omega)).trans e) n1 ?_ ?_ ?_
  · intro M j h4 hj hM hs hS hI
    rw [s1] at hM
    have e2 : (seqE L j).getD 0 (.tuple #[]) = .agg #[.int .u64 (L[j]).o, .int .i64 (L[j]).t] := by
      unfold seqE; rw [List.getD_eq_getElem?_getD, List.getElem?_eq_getElem hj]; rfl
    rw [e2]
    simp only [asAgg_agg]
    refine sizeH_mk rfl ?_
    refine elemH_mk rfl (elemH_mk rfl ?_)
    refine (show oneC (.int .u64 (L[j]).o) (oneC (.int .i64 (L[j]).t) _) from ?_)
    have p5 := pushed h4 #[.int .u64 (L[j]).o, .int .i64 (L[j]).t] 97
    generalize h4.push (.cells #[.int .u64 (L[j]).o, .int .i64 (L[j]).t] 97) = h5 at *
    have o5 := p5.toOld
    have s5 := p5.size
    have hI5 := hok.keepI M _ h4 h5 (by omega) hs hI (keep_of_old o5)
    have hev5 := hok.env M _ h5 (by omega) (by omega) hI5
    refine ⟨fun vs h' => ∃ b : Bool, vs = [.bool b] ∧ KeepMid h1.size M h4 h' ∧ (if b then X M () h' else h'[h.size]? = some (.cells #[.func yf y1 y2] 126) ∧ I M ((L.take (j + 1)).filter p).length h'), ?_, ?_⟩
    · refine ldH_mk hev5.2.1 ?_
      refine ldR p5.new rfl (ldR p5.new rfl ?_)
      refine hk h5 L[j] _ hev5.2.2.2 fun h10 o10 => ?_
      simp only [asBool_bool]
      have hI10 := hok.keepI M _ h5 h10 (by omega) (by omega) hI5 (keep_of_old o10)
      have o410 : Old h4.size h4 h10 := o5.trans (o10.mono (by omega))
      have hS10 : h10[h.size]? = some (.cells #[.func yf y1 y2] 126) := (o410.2 _ (by omega)).trans hS
      have hx10 := (o10.2 h4.size (by omega)).trans p5.new
      refine ifB_mk (fun hp => ?_) (fun hp => ?_)
      · refine ldH_mk (cellAt_row hS10) ?_
        refine ldR hx10 rfl (ldR hx10 rfl ?_)
        obtain ⟨f1, f2⟩ := filterE_at hj hp
        have hyk := hy M _ h10 f1 (by omega) (by omega) (by have := o410.1; omega) hI10
        rw [show seqE (L.filter p) ((L.take j).filter p).length = #[.agg #[.int .u64 (L[j]).o, .int .i64 (L[j]).t]] by unfold seqE; rw [f2]] at hyk
        refine callV_mono ?_ hyk
        rintro w h14 ⟨hm, hor⟩
        have hm4 : KeepMid h1.size M h4 h14 := (keepMid_of_old o410 hs).trans (hm.mono (by omega))
        rcases hor with ⟨rfl, hI'⟩ | ⟨rfl, hX⟩
        · simp only [asBool_bool, Bool.not_true]
          refine ⟨false, rfl, hm4, ?_⟩
          simp only [Bool.false_eq_true, if_false]
          refine ⟨(hm.2 _ (by omega) (by omega)).trans hS10, ?_⟩
          rw [filterE_succ hj, if_pos hp]; exact hI'
        · simp only [asBool_bool, Bool.not_false]
          exact ⟨true, rfl, hm4, by simp only [if_true]; exact hX⟩
      · refine ⟨false, rfl, keepMid_of_old o410 hs, ?_⟩
        simp only [Bool.false_eq_true, if_false]
        refine ⟨hS10, ?_⟩
        rw [filterE_succ hj, if_neg (by simp [hp])]; exact hI10
    · rintro v16 g17 h18 ⟨b, e, hm, hb⟩
      cases e
      simp only [asBool_bool]
      cases b with
      | true => simp only [ifB_true]; simp only [if_true] at hb; exact ⟨hm, trivial, .inl hb⟩
      | false => simp only [ifB_false]; simp only [Bool.false_eq_true, if_false] at hb; exact ⟨hm, by have := hm.1; omega, hb⟩
  · intro M h20 hM hs hI h21 hsd
    refine ⟨M, by omega, by omega, by rw [hsd.1]; exact hs, .inl ?_⟩
    exact hok.dI M _ h20 h21 (hsd.mono hN) hI
  · refine ⟨fun M h22 hM hs hX h23 hsd => ?_, trivial⟩
    refine ⟨M, by omega, by omega, by rw [hsd.1]; exact hs, .inr ?_⟩
    rcases hX with hX | hX
    · exact hok.dX M _ h22 h23 (hsd.mono hN) hX
    · exact hX.1.elim
theorem onlyE_call {K : Value → Heap → Prop} {h : Heap} {av : Nat → Prop} {g f : Value} {L : List Ent} {p : Ent → Bool} (H : SeqEA av g L h) (Hk : KeepEA av f p h) (hav : ∀ b, av b → b < h.size)
    (k : ∀ g' h', SeqEA av g' (L.filter p) h' → Old h.size h h' → K g' h') : CallH Try.prog 107 #[g, f] h K := by
  obtain ⟨f0, fst, cap, Ev, rfl, hs, he, hst⟩ := H
  obtain ⟨⟨f1, a1, a2, rfl⟩, Ek, hk1, hk2, hk3⟩ := Hk
  refine call107 ?_
  unfold F107
  obtain ⟨ho, h1, h2⟩ := push2 (h := h) (.cells #[.func (.func f0) fst cap] 123) (.cells #[.func (.func f1) a1 a2] 126)
  simp only [oneC_func]
  rw [Array.size_push]
  generalize (h.push (.cells #[.func (.func f0) fst cap] 123)).push (.cells #[.func (.func f1) a1 a2] 126) = h5 at *
  refine ⟨fun vs h' => vs = [.bool false] ∧ h' = h5, ?_, ?_⟩
  · refine ldH_mk (cellAt_row h1) ?_
    simp only [asFnNil_func, ifB_false]
    refine ldH_mk (cellAt_row h2) ?_
    simp only [asFnNil_func]
    exact ⟨by trivial, by trivial⟩
  · rintro v5 g6 h7 ⟨e, rfl⟩
    cases e
    simp only [asBool_bool, ifB_false]
    refine k _ _ ⟨_, _, _, _, rfl, onlyE_seq (show fnV (.func (.func f0) fst cap) from trivial) hs (fun a b o e => hst _ _ (OldX.of o) e) (fun a b o e => hk2 _ _ (OldX.of o) e) hk3, ⟨cellAt_row h1, cellAt_row h2, hst _ _ (OldX.of ho) he, hk2 _ _ (OldX.of ho) hk1⟩,
      fun a b o e => ⟨o.cell (fun x => ?_) e.1, o.cell (fun x => ?_) e.2.1, hst _ _ o e.2.2.1, hk2 _ _ o e.2.2.2⟩⟩ ho
    · have := hav _ x; simp at this
    · have := hav _ x; simp at this; omega
end Go.Proofs.Ytgladmaagpcffaa
