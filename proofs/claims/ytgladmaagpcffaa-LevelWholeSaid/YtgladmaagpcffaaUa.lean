/- Rows of uint64s that are read; their sequences. Printed by gen_u.py. -/
import Derived.Test.YtgladmaagpcffaaSj
import Derived.Test.YtgladmaagpcffaaMa
import Derived.Test.YtgladmaagpcffaaFh
set_option linter.unusedSimpArgs false
set_option linter.unusedVariables false
set_option maxRecDepth 20000
namespace Go.Proofs.Ytgladmaagpcffaa

abbrev uv (n : Int) : Value := .int .u64 n
/-- A slice of uint64s, to be read. -/
structure RU (h : Heap) (a : Option Addr) (l c : Nat) (xs : List Int) : Prop where
  s : Sees h a (xs.map uv)
  len : xs.length = l
  cap : l ≤ c
theorem RU.old {h h' : Heap} {a : Option Addr} {l c : Nat} {xs : List Int} (H : RU h a l c xs) (ho : Old h.size h h') : RU h' a l c xs := ⟨H.s.old ho, H.len, H.cap⟩
theorem RU.at {h : Heap} {a : Option Addr} {l c : Nat} {xs : List Int} (H : RU h a l c xs) {i : Nat} (hi : i < xs.length) : ∃ ad, a = some ad ∧ cellAt h (ad.add i) = some (uv xs[i]) := H.s i (uv xs[i]) (by simp [hi])
theorem RU.drop {h : Heap} {a : Option Addr} {l c : Nat} {xs : List Int} (H : RU h a l c xs) {f : Nat} (hf : f ≤ l) : RU h (subA a f c 1) (l - f) (c - f) (xs.drop f) := by
  refine ⟨?_, by simp [H.len], by have := H.cap; omega⟩
  rw [List.map_drop]
  exact H.s.sub (by simp [H.len, H.cap]) (by have := H.cap; omega)
theorem RU.none (h : Heap) : RU h none 0 0 [] := ⟨Sees.nil _ _, rfl, Nat.le_refl _⟩
abbrev seqU (L : List Int) (k : Nat) : Array Value := #[uv (L.getD k 0)]
set_option maxRecDepth 20000 in
/-- The first m of a sequence. -/
theorem first_seqU {np gp : Nat} {g : Value} {m n : Nat} {xs : Nat → Int} {Ev : Heap → Prop} (hg : fnV g) (hseq : SeqH Try.prog g n (fun k => #[uv (xs k)]) Ev) (hst : ∀ h h', Old h.size h h' → Ev h → Ev h') (hm : 1 ≤ m) (hm2 : m ≤ 9223372036854775807) :
    SeqH Try.prog (.func (.func 155) #[] #[.pointer (some ⟨np, 0, none⟩), .pointer (some ⟨gp, 0, none⟩)]) (min n m) (fun k => #[uv (xs k)])
      (fun h => cellAt h ⟨np, 0, none⟩ = some (iv m) ∧ cellAt h ⟨gp, 0, none⟩ = some g ∧ Ev h) := by
  intro yf y1 y2 h N I X hN hev hok hy
  refine callV_cl ?_
  rw [cl3]
  refine call155 ?_
  unfold F155
  simp only [asPtr_some, oneC_func]
  obtain ⟨h1, eh1⟩ : ∃ h1, h1 = h.push (.cells #[.func yf y1 y2] 142) := ⟨_, rfl⟩
  rw [← eh1]
  have s1 : h1.size = h.size + 1 := by rw [eh1]; simp
  have o1 : Old h.size h h1 := by rw [eh1]; exact (Old.refl _ _).push _ (Nat.le_refl _)
  have n1 : h1[h.size]? = some (.cells #[.func yf y1 y2] 142) := by rw [eh1]; exact push_new _ _
  have c1 : ∀ {a : Addr} {v : Value}, cellAt h a = some v → cellAt h1 a = some v := fun {a v} hc => (cellAt_congr (o1.2 _ (cellAt_lt hc))).trans hc
  refine ldH_mk (c1 hev.1) ?_
  simp only [asInt_int]
  obtain ⟨h2, eh2⟩ : ∃ h2, h2 = h1.push (.cells #[.int .i64 0] 3) := ⟨_, rfl⟩
  rw [← eh2]
  have s2 : h2.size = h.size + 2 := by rw [eh2]; simp [s1]
  have n2 : h2[h.size + 1]? = some (.cells #[.int .i64 0] 3) := by rw [eh2, ← s1]; exact push_new _ _
  rw [s1]
  refine stH_mk n2 (by simp) trivial ?_
  rintro h3 eh3
  have s3 : h3.size = h.size + 2 := by rw [eh3]; simp [s2]
  have o3 : Old h.size h h3 := by
    rw [eh3]
    refine Old.set ?_ _ _ (by omega)
    rw [eh2]; exact o1.push _ (by omega)
  have n3 : h3[h.size + 1]? = some (.cells #[iv m] 3) := by rw [eh3]; exact set_new (by omega)
  have y3 : h3[h.size]? = some (.cells #[.func yf y1 y2] 142) := by
    rw [eh3, set_old (by omega), eh2, push_old _ _ _ (by omega)]; exact n1
  have hev3 : Ev h3 := hst _ _ o3 hev.2.2
  refine ldH_mk ((cellAt_congr (o3.2 _ (cellAt_lt hev.2.1))).trans hev.2.1) ?_
  refine ⟨n, fun k => #[uv (xs k)], Ev,
    fun M j h' => h'[h.size]? = some (.cells #[.func yf y1 y2] 142) ∧ h'[h.size + 1]? = some (.cells #[iv ((m : Int) - j)] 3) ∧ j < m ∧ I M j h',
    fun M e h' => X M () h' ∨ (m ≤ n ∧ I M m h'), hg, hseq, fun _ _ => rfl, hev3, ?_, ?_, ?_, ?_⟩
  · refine { env := fun M k h' hM hs hI => (hok.env M k h' (by omega) hs hI.2.2.2).2.2, keepI := fun M k ha hb hM hs hI hk => ?_, keepX := fun M e ha hb hM hs hX hk => ?_,
             dI := fun M k ha hb hs hI => ⟨(hs.cells hI.1).trans hI.1, (hs.cells hI.2.1).trans hI.2.1, hI.2.2.1, hok.dI M k ha hb (hs.mono (by omega)) hI.2.2.2⟩,
             dX := fun M e ha hb hs hX => hX.imp (hok.dX M _ ha hb (hs.mono (by omega))) (fun x => ⟨x.1, hok.dI M _ ha hb (hs.mono (by omega)) x.2⟩), start := fun ha hs hsame => ?_ }
    · have hk' : Keep N M ha hb := ⟨hk.1, fun b hb1 hb2 => hk.2 b hb1 (by omega)⟩
      have q1 := (Array.getElem?_eq_some_iff.1 hI.2.1).1
      exact ⟨(hk.2 _ (by omega) (.inl (by omega))).trans hI.1, (hk.2 _ (by omega) (.inl (by omega))).trans hI.2.1, hI.2.2.1, hok.keepI M k ha hb (by omega) hs hI.2.2.2 hk'⟩
    · have hk' : Keep N M ha hb := ⟨hk.1, fun b hb1 hb2 => hk.2 b hb1 (by omega)⟩
      exact hX.imp (fun x => hok.keepX M _ ha hb (by omega) hs x hk') (fun x => ⟨x.1, hok.keepI M _ ha hb (by omega) hs x.2 hk'⟩)
    · refine ⟨(hsame _ (by omega)).trans y3, (hsame _ (by omega)).trans (by simpa using n3), by omega, ?_⟩
      exact hok.start ha (by have := o3.1; omega) (fun b hb => (hsame b (by omega)).trans (o3.2 b (by omega)))
  · rintro M k h8 hk hM hs ⟨q1, q2, q3, hI⟩
    simp only [getD0, asInt_int]
    refine ldH_mk (cellAt_row q2) ?_
    simp only [asInt_int]
    refine stH_mk q2 (by simp) trivial ?_
    rintro h12 e12
    have q2l := (Array.getElem?_eq_some_iff.1 q2).1
    rw [wrap64_id' (by omega) (by omega)] at e12
    have s12 : h12.size = h8.size := by rw [e12]; simp
    have p1 : h12[h.size]? = some (.cells #[.func yf y1 y2] 142) := by rw [e12, set_old (by omega)]; exact q1
    have p2 : h12[h.size + 1]? = some (.cells #[iv ((m : Int) - k - 1)] 3) := by rw [e12]; exact set_new q2l
    have hI12 : I M k h12 := hok.keepI M k h8 h12 (by omega) hs hI ⟨by omega, fun b hb hor => by rw [e12]; exact set_old (by omega)⟩
    refine ⟨fun vs h' => ∃ b : Bool, vs = [.bool b] ∧ KeepMid h3.size M h8 h' ∧ (if b then (X M () h' ∨ (m ≤ n ∧ I M m h')) else (h'[h.size]? = some (.cells #[.func yf y1 y2] 142) ∧ h'[h.size + 1]? = some (.cells #[iv ((m : Int) - (k + 1 : Nat))] 3) ∧ k + 1 < m ∧ I M (k + 1) h')), ?_, ?_⟩
    · refine ldH_mk (cellAt_row p1) ?_
      refine callV_mono ?_ (hy M k h12 (by omega) (by omega) (by omega) (by omega) hI12)
      rintro w h16 ⟨hm16, hor⟩
      have r1 : h16[h.size]? = some (.cells #[.func yf y1 y2] 142) := (hm16.2 _ (by omega) (by omega)).trans p1
      have r2 : h16[h.size + 1]? = some (.cells #[iv ((m : Int) - k - 1)] 3) := (hm16.2 _ (by omega) (by omega)).trans p2
      have hk8 : KeepMid h3.size M h8 h16 := ⟨by have := hm16.1; omega, fun b hb1 hb2 => (hm16.2 b (by omega) hb2).trans (by rw [e12]; exact set_old (by omega))⟩
      rcases hor with ⟨rfl, hI'⟩ | ⟨rfl, hX⟩
      · simp only [asBool_bool, Bool.not_true, ifB_false]
        refine ldH_mk (cellAt_row r2) ?_
        simp only [asInt_int]
        by_cases hz : k + 1 = m
        · refine ⟨true, ?_, hk8, ?_⟩
          · rw [beq_iff_eq.2 (show (m : Int) - k - 1 = 0 by omega)]
          · simp only [if_true]; exact .inr ⟨by omega, hz ▸ hI'⟩
        · refine ⟨false, ?_, hk8, ?_⟩
          · rw [beq_eq_false_iff_ne.2 (show (m : Int) - k - 1 ≠ 0 by omega)]
          · simp only [Bool.false_eq_true, if_false]
            exact ⟨r1, by rw [r2, show (m : Int) - k - 1 = (m : Int) - ((k + 1 : Nat) : Int) by omega], by omega, hI'⟩
      · simp only [asBool_bool, Bool.not_false, ifB_true]
        exact ⟨true, rfl, hk8, by simp only [if_true]; exact .inl hX⟩
    · rintro v20 g21 h22 ⟨b, e, hk22, hb⟩
      cases e
      simp only [asBool_bool]
      cases b with
      | true => simp only [ifB_true]; simp only [if_true] at hb; exact ⟨hk22, trivial, hb⟩
      | false => simp only [ifB_false]; simp only [Bool.false_eq_true, if_false] at hb; exact ⟨hk22, hb⟩
  · rintro M h24 hM hs ⟨q1, q2, q3, hI⟩ h25 hsd
    refine ⟨M, by omega, by omega, by rw [hsd.1]; exact hs, .inl ?_⟩
    rw [show min n m = n by omega]
    exact hok.dI M n h24 h25 (hsd.mono hN) hI
  · refine ⟨fun M h26 hM hs hX h27 hsd => ?_, trivial⟩
    refine ⟨M, by omega, by omega, by rw [hsd.1]; exact hs, ?_⟩
    rcases hX with hX | ⟨hmn, hI⟩
    · exact .inr (hok.dX M _ h26 h27 (hsd.mono hN) hX)
    · left
      rw [show min n m = m by omega]
      exact hok.dI M m h26 h27 (hsd.mono hN) hI

/-- From h on, g is the sequence of a list's numbers. -/
def SeqU (g : Value) (L : List Int) (h : Heap) : Prop :=
  ∃ f fst cap Ev, g = .func (.func f) fst cap ∧ SeqH Try.prog g L.length (seqU L) Ev ∧ Ev h ∧ ∀ h h', Old h.size h h' → Ev h → Ev h'
theorem SeqU.old {g : Value} {L : List Int} {h h' : Heap} (H : SeqU g L h) (ho : Old h.size h h') : SeqU g L h' := by
  obtain ⟨f, fst, cap, Ev, e, hs, he, hst⟩ := H
  exact ⟨f, fst, cap, Ev, e, hs, hst _ _ ho he, hst⟩
theorem of_seqU {p : Nat} {a : Option Addr} {l c : Nat} {xs : List Int} (hl : l < 2 ^ 60) :
    SeqH Try.prog (.func (.func 143) #[] #[.pointer (some ⟨p, 0, none⟩)]) xs.length (seqU xs)
      (fun h => cellAt h ⟨p, 0, none⟩ = some (.slice a l c) ∧ RU h a l c xs) := by
  intro yf y1 y2 h N I X hN hev hok hy
  refine callV_cl ?_
  rw [cl2]
  refine call143 ?_
  unfold F143
  have hlen := hev.2.len
  simp only [asPtr_some]
  refine ldH_mk hev.1 ?_
  simp only [asSlice_slice]
  refine ⟨fun vs h' => ∃ v, ∃ k : Nat, vs = [v, iv k] ∧ k ≤ l ∧ h.size ≤ h'.size ∧ I h.size k h', fun vs _ => (match vs with | [_, .int _ n] => l - n.toNat | _ => 0), ⟨_, 0, rfl, by omega, Nat.le_refl _, hok.self⟩, ?_⟩
  rintro v7 v8 g h10 ⟨v, k, e, hk, hs, hI⟩
  cases e
  simp only [asInt_int, asI_int]
  refine ifB_dec (fun hlt => ?_) (fun hge => ?_)
  · have hlt' : k < xs.length := by omega
    obtain ⟨ad, rfl, hc⟩ := (hok.env _ _ _ hN hs hI).2.at hlt'
    refine ⟨by omega, hlt, ?_⟩
    simp only [asPtr_some, Int.toNat_natCast, Nat.mul_one]
    refine ldH_mk hc ?_
    simp only [asInt_int]
    have hyk := hy h.size k h10 hlt' hN (Nat.le_refl _) hs hI
    have e2 : seqU xs k = #[.int .u64 xs[k]] := by unfold seqU; simp [hlt']
    rw [e2] at hyk
    refine callV_mono ?_ hyk
    rintro w h'' ⟨hm, ⟨rfl, hI'⟩ | ⟨rfl, hX⟩⟩
    · simp only [asBool_bool, Bool.not_true, ifB_false]
      rw [nat_wrap1 (by omega)]
      refine ⟨⟨_, k + 1, rfl, by omega, Nat.le_trans hs hm.1, hI'⟩, ?_⟩
      show l - ((k + 1 : Nat) : Int).toNat < l - (k : Int).toNat
      omega
    · simp only [asBool_bool, Bool.not_false, ifB_true]
      exact ⟨h.size, hN, Nat.le_refl _, Nat.le_trans hs hm.1, .inr hX⟩
  · have : k = xs.length := by omega
    subst this
    exact ⟨h.size, hN, Nat.le_refl _, hs, .inl hI⟩
theorem of_callU {K : Value → Heap → Prop} {h : Heap} {a : Option Addr} {l c : Nat} {xs : List Int} (H : RU h a l c xs) (hl : l < 2 ^ 60) (k : ∀ g h', SeqU g xs h' → Old h.size h h' → K g h') :
    CallH Try.prog 117 #[.slice a l c] h K := by
  refine call117 ?_
  unfold F117
  have o1 : Old h.size h (h.push (.cells #[.slice a l c] 83)) := (Old.refl _ _).push _ (Nat.le_refl _)
  exact k _ _ ⟨_, _, _, _, rfl, of_seqU hl, ⟨cellAt_row (push_new _ _), H.old o1⟩, fun h h' o e => ⟨cell_stable _ _ o e.1, e.2.old o⟩⟩ o1

/-- The same, on numbers that are in a set. -/
def KeepU (f : Value) (D : Int → Prop) (p : Int → Bool) (h : Heap) : Prop :=
  (∃ g x y, f = .func (.func g) x y) ∧ ∃ Ev : Heap → Prop, Ev h ∧ (∀ h h', Old h.size h h' → Ev h → Ev h') ∧
    ∀ (h : Heap) (x : Int) (K : Value → Heap → Prop), Ev h → D x → (∀ h', Old h.size h h' → K (.bool (p x)) h') → callV Try.prog f #[.int .u64 x] h K
theorem KeepU.old {f : Value} {D : Int → Prop} {p : Int → Bool} {h h' : Heap} (H : KeepU f D p h) (ho : Old h.size h h') : KeepU f D p h' := by
  obtain ⟨e, Ev, h1, h2, h3⟩ := H
  exact ⟨e, Ev, h2 _ _ ho h1, h2, h3⟩
/-- Those that are kept. -/
theorem only_seqU {sp kp : Nat} {g f : Value} {L : List Int} {p : Int → Bool} {D : Int → Prop} {Ev Ek : Heap → Prop} (hD : ∀ x ∈ L, D x) (hg : fnV g) (hseq : SeqH Try.prog g L.length (seqU L) Ev) (hst : ∀ h h', Old h.size h h' → Ev h → Ev h')
    (hsk : ∀ h h', Old h.size h h' → Ek h → Ek h') (hk : ∀ (h : Heap) (x : Int) (K : Value → Heap → Prop), Ek h → D x → (∀ h', Old h.size h h' → K (.bool (p x)) h') → callV Try.prog f #[.int .u64 x] h K) :
    SeqH Try.prog (.func (.func 156) #[] #[.pointer (some ⟨sp, 0, none⟩), .pointer (some ⟨kp, 0, none⟩)]) (L.filter p).length (seqU (L.filter p))
      (fun h => cellAt h ⟨sp, 0, none⟩ = some g ∧ cellAt h ⟨kp, 0, none⟩ = some f ∧ Ev h ∧ Ek h) := by
  intro yf y1 y2 h N I X hN hev hok hy
  refine callV_cl ?_
  rw [cl3]
  refine call156 ?_
  unfold F156
  simp only [asPtr_some, oneC_func]
  have o1 : Old h.size h (h.push (.cells #[.func yf y1 y2] 142)) := (Old.refl _ _).push _ (Nat.le_refl _)
  have n1 := push_new h (.cells #[.func yf y1 y2] 142)
  have s1 : (h.push (.cells #[.func yf y1 y2] 142)).size = h.size + 1 := by simp
  generalize h.push (.cells #[.func yf y1 y2] 142) = h1 at *
  refine ldH_mk (cell_stable _ _ o1 hev.1) ?_
  refine rangeH_outer (h0 := h) (I := I) (X := X) (N := N) (n := L.length) (xs := seqU L) (Ev := Ev) (fun _ h' => h'[h.size]? = some (.cells #[.func yf y1 y2] 142)) (fun j => ((L.take j).filter p).length) (L.filter p).length False
    hg hseq (fun _ _ => rfl) hN o1 hok (fun h' e => e.2.2.1) (hst _ _ o1 hev.2.2.1) (by simp) (by simp) (fun k ha hb hsame e => (hsame _ (Nat.le_refl _) (by omega)).trans e) n1 ?_ ?_ ?_
  · intro M j h4 hj hM hs hS hI
    rw [s1] at hM
    have e2 : (seqU L j).getD 0 (.tuple #[]) = .int .u64 L[j] := by unfold seqU; simp [hj]
    rw [e2]
    simp only [asInt_int]
    have hev4 := hok.env M _ h4 (by omega) hs hI
    refine ⟨fun vs h' => ∃ b : Bool, vs = [.bool b] ∧ KeepMid h1.size M h4 h' ∧ (if b then X M () h' else h'[h.size]? = some (.cells #[.func yf y1 y2] 142) ∧ I M ((L.take (j + 1)).filter p).length h'), ?_, ?_⟩
    · refine ldH_mk hev4.2.1 ?_
      refine hk _ _ _ hev4.2.2.2 (hD _ (List.getElem_mem _)) fun h10 o10 => ?_
      simp only [asBool_bool]
      have hI10 := hok.keepI M _ h4 h10 (by omega) hs hI (keep_of_old o10)
      have hS10 : h10[h.size]? = some (.cells #[.func yf y1 y2] 142) := (o10.2 _ (by omega)).trans hS
      refine ifB_mk (fun hp => ?_) (fun hp => ?_)
      · refine ldH_mk (cellAt_row hS10) ?_
        obtain ⟨f1, f2⟩ := filter_at hj hp
        have hyk := hy M _ h10 f1 (by omega) (by omega) (by have := o10.1; omega) hI10
        rw [show seqU (L.filter p) ((L.take j).filter p).length = #[.int .u64 L[j]] by unfold seqU; rw [f2]] at hyk
        refine callV_mono ?_ hyk
        rintro w h14 ⟨hm, hor⟩
        have hm4 : KeepMid h1.size M h4 h14 := (keepMid_of_old o10 hs).trans (hm.mono (by omega))
        rcases hor with ⟨rfl, hI'⟩ | ⟨rfl, hX⟩
        · simp only [asBool_bool, Bool.not_true]
          refine ⟨false, rfl, hm4, ?_⟩
          simp only [Bool.false_eq_true, if_false]
          refine ⟨(hm.2 _ (by omega) (by omega)).trans hS10, ?_⟩
          rw [filter_succ hj, if_pos hp]; exact hI'
        · simp only [asBool_bool, Bool.not_false]
          exact ⟨true, rfl, hm4, by simp only [if_true]; exact hX⟩
      · refine ⟨false, rfl, keepMid_of_old o10 hs, ?_⟩
        simp only [Bool.false_eq_true, if_false]
        refine ⟨hS10, ?_⟩
        rw [filter_succ hj, if_neg (by simp [hp])]; exact hI10
    · rintro v16 g17 h18 ⟨b, e, hm, hb⟩
      cases e
      simp only [asBool_bool]
      cases b with
      | true => simp only [ifB_true]; simp only [if_true] at hb; exact ⟨hm, trivial, .inl hb⟩
      | false => simp only [ifB_false]; simp only [Bool.false_eq_true, if_false] at hb; exact ⟨hm, by have := hm.1; omega, hb⟩
  · intro M h20 hM hs hI h21 hsd
    refine ⟨M, by omega, by omega, by rw [hsd.1]; exact hs, .inl ?_⟩
    exact hok.dI M _ h20 h21 (hsd.mono hN) hI
  · refine ⟨fun M h22 hM hs hX h23 hsd => ?_, trivial⟩
    refine ⟨M, by omega, by omega, by rw [hsd.1]; exact hs, .inr ?_⟩
    rcases hX with hX | hX
    · exact hok.dX M _ h22 h23 (hsd.mono hN) hX
    · exact hX.1.elim

theorem only_onU {K : Value → Heap → Prop} {h : Heap} {g f : Value} {L : List Int} {D : Int → Prop} {p : Int → Bool} (H : SeqU g L h) (Hk : KeepU f D p h) (hD : ∀ x ∈ L, D x) (k : ∀ g' h', SeqU g' (L.filter p) h' → Old h.size h h' → K g' h') :
    CallH Try.prog 142 #[g, f] h K := by
  obtain ⟨f0, fst, cap, Ev, rfl, hs, he, hst⟩ := H
  obtain ⟨⟨f1, a1, a2, rfl⟩, Ek, hk1, hk2, hk3⟩ := Hk
  refine call142 ?_
  unfold F142
  obtain ⟨ho, h1, h2⟩ := push2 (h := h) (.cells #[.func (.func f0) fst cap] 139) (.cells #[.func (.func f1) a1 a2] 142)
  simp only [oneC_func]
  rw [Array.size_push]
  generalize (h.push (.cells #[.func (.func f0) fst cap] 139)).push (.cells #[.func (.func f1) a1 a2] 142) = h5 at *
  refine ⟨fun vs h' => vs = [.bool false] ∧ h' = h5, ?_, ?_⟩
  · refine ldH_mk (cellAt_row h1) ?_
    simp only [asFnNil_func, ifB_false]
    refine ldH_mk (cellAt_row h2) ?_
    simp only [asFnNil_func]
    exact ⟨by trivial, by trivial⟩
  · rintro v5 g6 h7 ⟨e, rfl⟩
    cases e
    simp only [asBool_bool, ifB_false]
    exact k _ _ ⟨_, _, _, _, rfl, only_seqU hD (show fnV (.func (.func f0) fst cap) from trivial) hs hst hk2 hk3, ⟨cellAt_row h1, cellAt_row h2, hst _ _ ho he, hk2 _ _ ho hk1⟩,
      fun a b o e => ⟨cell_stable _ _ o e.1, cell_stable _ _ o e.2.1, hst _ _ o e.2.2.1, hk2 _ _ o e.2.2.2⟩⟩ ho
theorem none_seqU (xs : Nat → Int) : SeqH Try.prog (.func (.func 154) #[] #[]) 0 (fun k => #[uv (xs k)]) (fun _ => True) := by
  intro yf y1 y2 h N I X hN hev hok hy
  refine callV_fn (call154 ?_)
  exact ⟨h.size, hN, Nat.le_refl _, Nat.le_refl _, .inl hok.self⟩
theorem firstU_seq {np gp : Nat} {g : Value} {m : Nat} {L : List Int} {Ev : Heap → Prop} (hg : fnV g) (hseq : SeqH Try.prog g L.length (seqU L) Ev) (hst : ∀ h h', Old h.size h h' → Ev h → Ev h') (hm : 1 ≤ m) (hm2 : m ≤ 9223372036854775807) :
    SeqH Try.prog (.func (.func 155) #[] #[.pointer (some ⟨np, 0, none⟩), .pointer (some ⟨gp, 0, none⟩)]) (L.take m).length (seqU (L.take m))
      (fun h => cellAt h ⟨np, 0, none⟩ = some (iv m) ∧ cellAt h ⟨gp, 0, none⟩ = some g ∧ Ev h) := by
  have := (first_seqU (np := np) (gp := gp) (xs := fun k => L.getD k 0) hg hseq hst hm hm2).congr (ys := seqU (L.take m)) fun k hk => by
    have h1 : k < m := by omega
    have h2 : k < L.length := by omega
    simp [seqU, h1]
  rwa [show min L.length m = (L.take m).length by simp [Nat.min_comm]] at this
theorem firstU_call {K : Value → Heap → Prop} {h : Heap} {g : Value} {L : List Int} {x : Int} (H : SeqU g L h) (hx : x ≤ 9223372036854775807) (k : ∀ g' h', SeqU g' (L.take x.toNat) h' → Old h.size h h' → K g' h') :
    CallH Try.prog 141 #[g, iv x] h K := by
  obtain ⟨f, fst, cap, Ev, rfl, hs, he, hst⟩ := H
  refine call141 ?_
  unfold F141
  obtain ⟨ho, h1, h2⟩ := push2 (h := h) (.cells #[.func (.func f) fst cap] 139) (.cells #[iv x] 3)
  simp only [oneC_func]
  rw [Array.size_push]
  refine ⟨fun vs h' => vs = [.bool (decide (x < 1))] ∧ h' = (h.push (.cells #[.func (.func f) fst cap] 139)).push (.cells #[iv x] 3), ?_, ?_⟩
  · refine ldH_mk (cellAt_row h1) ?_
    simp only [asFnNil_func, ifB_false]
    refine ldH_mk (cellAt_row h2) ?_
    simp only [asInt_int]
    refine ⟨?_, ?_⟩ <;> first | rfl | trivial
  · rintro v5 g6 h7 ⟨e, rfl⟩
    cases e
    simp only [asBool_bool]
    refine ifB_dec (fun hlt => ?_) (fun hge => ?_)
    · refine k _ _ ⟨_, _, _, _, rfl, ?_, trivial, fun _ _ _ _ => trivial⟩ ho
      rw [show L.take x.toNat = [] by rw [show x.toNat = 0 by omega]; rfl]
      exact none_seqU fun _ => 0
    · refine k _ _ ⟨_, _, _, _, rfl, firstU_seq (m := x.toNat) (show fnV (.func (.func f) fst cap) from trivial) hs hst (by omega) (by omega), ⟨?_, cellAt_row h1, hst _ _ ho he⟩, fun a b o e => ⟨cell_stable _ _ o e.1, cell_stable _ _ o e.2.1, hst _ _ o e.2.2⟩⟩ ho
      rw [cellAt_row h2]; congr 2; omega

theorem some_onU {K : Value → Heap → Prop} {h : Heap} {g f : Value} {L : List Int} {D : Int → Prop} {p : Int → Bool} (H : SeqU g L h) (Hk : KeepU f D p h) (hD : ∀ x ∈ L, D x) (k : ∀ h', Old h.size h h' → K (.bool (L.any p)) h') :
    CallH Try.prog 116 #[g, f] h K := by
  refine call116 ?_
  unfold F116
  have o0 : Old h.size h (h.push (.cells #[.bool false] 4)) := (Old.refl _ _).push _ (Nat.le_refl _)
  have n0 := push_new h (.cells #[.bool false] 4)
  have s0 : (h.push (.cells #[.bool false] 4)).size = h.size + 1 := by simp
  generalize h.push (.cells #[.bool false] 4) = h0 at *
  refine callV_fn (only_onU (H.old o0) (Hk.old o0) hD fun g1 h1 H1 o1 => ?_)
  refine callV_fn (firstU_call H1 (by omega) fun g2 h2 H2 o2 => ?_)
  have o02 : Old h0.size h0 h2 := o1.trans (o2.mono o1.1)
  have hs2 : h.size + 1 ≤ h2.size := by have := o02.1; omega
  obtain ⟨f0, fst, cap, Ev, rfl, hs, he, hst⟩ := H2
  generalize hL2 : (L.filter p).take (Int.toNat 1) = L2 at *
  have hany : L.any p = decide (0 < L2.length) := by
    rw [← hL2, List.length_take]
    cases hq : L.any p with
    | true =>
      obtain ⟨x, hx, hp⟩ := List.any_eq_true.1 hq
      have : 0 < (L.filter p).length := List.length_pos_of_mem (List.mem_filter.2 ⟨hx, hp⟩)
      rw [decide_eq_true (by simp; omega)]
    | false =>
      have : L.filter p = [] := List.filter_eq_nil_iff.2 fun x hx => by simpa using List.any_eq_false.1 hq x hx
      rw [this]; rfl
  refine rangeH_own (n := L2.length) (xs := seqU L2) (Ev := Ev)
    (fun j _ h' => j = 0 ∧ Old h0.size h0 h' ∧ Old h2.size h2 h') (fun e _ h' => 0 < L2.length ∧ Old h.size h h' ∧ h'[h.size]? = some (.cells #[.bool true] 4))
    (show fnV (.func (.func f0) fst cap) from trivial) hs (fun _ _ => rfl) ?_ ?_ (fun j w' h' x => hst _ _ x.2.2 he) ⟨rfl, o02, Old.refl _ _⟩ ?_ ?_ ?_
  · rintro j w' ha hb hs1 hsm _ ⟨x1, x2, x3⟩
    exact ⟨x1, ⟨Nat.le_trans x2.1 hs1, fun b hb => (hsm b (by have := o02.1; omega)).trans (x2.2 b hb)⟩, ⟨Nat.le_trans x3.1 hs1, fun b hb => (hsm b hb).trans (x3.2 b hb)⟩⟩
  · rintro j w' ha hb hs1 hsm _ ⟨x0, x1, x2⟩
    exact ⟨x0, ⟨Nat.le_trans x1.1 hs1, fun b hb => (hsm b (by omega)).trans (x1.2 b hb)⟩, (hsm _ (by omega)).trans x2⟩
  · rintro M j w' h6 hj hM hs1 hw ⟨rfl, x1, x2⟩
    have n6 : h6[h.size]? = some (.cells #[.bool false] 4) := (x1.2 _ (by omega)).trans n0
    refine stH_mk n6 (by simp) trivial ?_
    rintro h7 rfl
    refine ⟨⟨by simp, fun b hb1 hb2 => set_old (by omega)⟩, trivial, by simp; exact x2.1, w', owned_keep hw fun b hb => set_old (by have := (hw b hb).1; omega), by omega, ?_, ?_⟩
    · exact (o0.trans (x1.mono o0.1)).set _ _ (Nat.le_refl _)
    · exact set_new (by omega)
  · rintro M w' h8 hM hs1 hw ⟨x0, x1, x2⟩
    have n8 : h8[h.size]? = some (.cells #[.bool false] 4) := (x1.2 _ (by omega)).trans n0
    refine stH_mk n8 (by simp) trivial ?_
    rintro h9 rfl
    refine ldH_mk (cellAt_row (set_new (by omega))) ?_
    intro h11 hsd
    have := k h11 (((o0.trans (x1.mono o0.1)).set _ _ (Nat.le_refl _)).same hsd)
    rwa [hany, decide_eq_false (by omega)] at this
  · refine ⟨?_, trivial⟩
    rintro M w' h12 hM hs1 hw ⟨x0, x1, x2⟩
    refine ldH_mk (cellAt_row x2) ?_
    intro h14 hsd
    have := k h14 (x1.same hsd)
    rwa [hany, decide_eq_true x0] at this

end Go.Proofs.Ytgladmaagpcffaa
