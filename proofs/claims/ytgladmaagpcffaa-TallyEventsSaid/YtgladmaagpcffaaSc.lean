/- The contract of the first ones of a sequence. -/
import Derived.Test.YtgladmaagpcffaaSb
set_option linter.unusedSimpArgs false
set_option linter.unusedVariables false
namespace Go.Proofs.Ytgladmaagpcffaa

theorem cellAt_row {h : Heap} {b : Nat} {v : Value} {t : TypeId} (hb : h[b]? = some (.cells #[v] t)) : cellAt h ⟨b, 0, none⟩ = some v := by rw [cellAt_of hb]; rfl

set_option maxRecDepth 20000 in
/-- The first m of a sequence. -/
theorem first_seq {np gp : Nat} {g : Value} {m n : Nat} {xs : Nat → Int} {Ev : Heap → Prop} (hg : fnV g) (hseq : SeqH Try.prog g n (fun k => #[iv (xs k)]) Ev) (hst : ∀ h h', Old h.size h h' → Ev h → Ev h') (hm : 1 ≤ m) (hm2 : m ≤ 9223372036854775807) :
    SeqH Try.prog (.func (.func 81) #[] #[.pointer (some ⟨np, 0, none⟩), .pointer (some ⟨gp, 0, none⟩)]) (min n m) (fun k => #[iv (xs k)])
      (fun h => cellAt h ⟨np, 0, none⟩ = some (iv m) ∧ cellAt h ⟨gp, 0, none⟩ = some g ∧ Ev h) := by
  intro yf y1 y2 h N I X hN hev hok hy
  refine callV_cl ?_
  rw [cl3]
  refine call81 ?_
  unfold F81
  simp only [asPtr_some, oneC_func]
  obtain ⟨h1, eh1⟩ : ∃ h1, h1 = h.push (.cells #[.func yf y1 y2] 50) := ⟨_, rfl⟩
  rw [← eh1]
  have s1 : h1.size = h.size + 1 := by rw [eh1]; simp
  have o1 : Old h.size h h1 := by rw [eh1]; exact (Old.refl _ _).push _ (Nat.le_refl _)
  have n1 : h1[h.size]? = some (.cells #[.func yf y1 y2] 50) := by rw [eh1]; exact push_new _ _
  have c1 : ∀ {a : Addr} {v : Value}, cellAt h a = some v → cellAt h1 a = some v := fun {a v} hc => (cellAt_congr (o1.2 _ (cellAt_lt hc))).trans hc
  refine ldH_mk (c1 hev.1) ?_
  simp only [asInt_int]
  obtain ⟨h2, eh2⟩ : ∃ h2, h2 = h1.push (.cells #[.int .i64 0] 3) := ⟨_, rfl⟩
  rw [← eh2]
  have s2 : h2.size = h.size + 2 := by rw [eh2]; simp [s1]
  have n2 : h2[h.size + 1]? = some (.cells #[.int .i64 0] 3) := by rw [eh2, ← s1]; exact push_new _ _
  rw [s1]
  refine stH_mk n2 (by simp) trivial ?_
  rintro h3 eh3
  have s3 : h3.size = h.size + 2 := by rw [eh3]; simp [s2]
  have o3 : Old h.size h h3 := by
    rw [eh3]
    refine Old.set ?_ _ _ (by omega)
    rw [eh2]; exact o1.push _ (by omega)
  have n3 : h3[h.size + 1]? = some (.cells #[iv m] 3) := by rw [eh3]; exact set_new (by omega)
  have y3 : h3[h.size]? = some (.cells #[.func yf y1 y2] 50) := by
    rw [eh3, set_old (by omega), eh2, push_old _ _ _ (by omega)]; exact n1
  have hev3 : Ev h3 := hst _ _ o3 hev.2.2
  refine ldH_mk ((cellAt_congr (o3.2 _ (cellAt_lt hev.2.1))).trans hev.2.1) ?_
  refine ⟨n, fun k => #[iv (xs k)], Ev,
    fun M j h' => h'[h.size]? = some (.cells #[.func yf y1 y2] 50) ∧ h'[h.size + 1]? = some (.cells #[iv ((m : Int) - j)] 3) ∧ j < m ∧ I M j h',
    fun M e h' => X M () h' ∨ (m ≤ n ∧ I M m h'), hg, hseq, fun _ _ => rfl, hev3, ?_, ?_, ?_, ?_⟩
  · refine { env := fun M k h' hM hs hI => (hok.env M k h' (by omega) hs hI.2.2.2).2.2, keepI := fun M k ha hb hM hs hI hk => ?_, keepX := fun M e ha hb hM hs hX hk => ?_,
             dI := fun M k ha hb hs hI => ⟨(hs.cells hI.1).trans hI.1, (hs.cells hI.2.1).trans hI.2.1, hI.2.2.1, hok.dI M k ha hb (hs.mono (by omega)) hI.2.2.2⟩,
             dX := fun M e ha hb hs hX => hX.imp (hok.dX M _ ha hb (hs.mono (by omega))) (fun x => ⟨x.1, hok.dI M _ ha hb (hs.mono (by omega)) x.2⟩), start := fun ha hs hsame => ?_ }
    · have hk' : Keep N M ha hb := ⟨hk.1, fun b hb1 hb2 => hk.2 b hb1 (by omega)⟩
      have q1 := (Array.getElem?_eq_some_iff.1 hI.2.1).1
      exact ⟨(hk.2 _ (by omega) (.inl (by omega))).trans hI.1, (hk.2 _ (by omega) (.inl (by omega))).trans hI.2.1, hI.2.2.1, hok.keepI M k ha hb (by omega) hs hI.2.2.2 hk'⟩
    · have hk' : Keep N M ha hb := ⟨hk.1, fun b hb1 hb2 => hk.2 b hb1 (by omega)⟩
      exact hX.imp (fun x => hok.keepX M _ ha hb (by omega) hs x hk') (fun x => ⟨x.1, hok.keepI M _ ha hb (by omega) hs x.2 hk'⟩)
    · refine ⟨(hsame _ (by omega)).trans y3, (hsame _ (by omega)).trans (by simpa using n3), by omega, ?_⟩
      exact hok.start ha (by have := o3.1; omega) (fun b hb => (hsame b (by omega)).trans (o3.2 b (by omega)))
  · rintro M k h8 hk hM hs ⟨q1, q2, q3, hI⟩
    simp only [getD0, asInt_int]
    refine ldH_mk (cellAt_row q2) ?_
    simp only [asInt_int]
    refine stH_mk q2 (by simp) trivial ?_
    rintro h12 e12
    have q2l := (Array.getElem?_eq_some_iff.1 q2).1
    rw [wrap64_id' (by omega) (by omega)] at e12
    have s12 : h12.size = h8.size := by rw [e12]; simp
    have p1 : h12[h.size]? = some (.cells #[.func yf y1 y2] 50) := by rw [e12, set_old (by omega)]; exact q1
    have p2 : h12[h.size + 1]? = some (.cells #[iv ((m : Int) - k - 1)] 3) := by rw [e12]; exact set_new q2l
    have hI12 : I M k h12 := hok.keepI M k h8 h12 (by omega) hs hI ⟨by omega, fun b hb hor => by rw [e12]; exact set_old (by omega)⟩
    refine ⟨fun vs h' => ∃ b : Bool, vs = [.bool b] ∧ KeepMid h3.size M h8 h' ∧ (if b then (X M () h' ∨ (m ≤ n ∧ I M m h')) else (h'[h.size]? = some (.cells #[.func yf y1 y2] 50) ∧ h'[h.size + 1]? = some (.cells #[iv ((m : Int) - (k + 1 : Nat))] 3) ∧ k + 1 < m ∧ I M (k + 1) h')), ?_, ?_⟩
    · refine ldH_mk (cellAt_row p1) ?_
      refine callV_mono ?_ (hy M k h12 (by omega) (by omega) (by omega) (by omega) hI12)
      rintro w h16 ⟨hm16, hor⟩
      have r1 : h16[h.size]? = some (.cells #[.func yf y1 y2] 50) := (hm16.2 _ (by omega) (by omega)).trans p1
      have r2 : h16[h.size + 1]? = some (.cells #[iv ((m : Int) - k - 1)] 3) := (hm16.2 _ (by omega) (by omega)).trans p2
      have hk8 : KeepMid h3.size M h8 h16 := ⟨by have := hm16.1; omega, fun b hb1 hb2 => (hm16.2 b (by omega) hb2).trans (by rw [e12]; exact set_old (by omega))⟩
      rcases hor with ⟨rfl, hI'⟩ | ⟨rfl, hX⟩
      · simp only [asBool_bool, Bool.not_true, ifB_false]
        refine ldH_mk (cellAt_row r2) ?_
        simp only [asInt_int]
        by_cases hz : k + 1 = m
        · refine ⟨true, ?_, hk8, ?_⟩
          · rw [beq_iff_eq.2 (show (m : Int) - k - 1 = 0 by omega)]
          · simp only [if_true]; exact .inr ⟨by omega, hz ▸ hI'⟩
        · refine ⟨false, ?_, hk8, ?_⟩
          · rw [beq_eq_false_iff_ne.2 (show (m : Int) - k - 1 ≠ 0 by omega)]
          · simp only [Bool.false_eq_true, if_false]
            exact ⟨r1, by rw [r2, show (m : Int) - k - 1 = (m : Int) - ((k + 1 : Nat) : Int) by omega], by omega, hI'⟩
      · simp only [asBool_bool, Bool.not_false, ifB_true]
        exact ⟨true, rfl, hk8, by simp only [if_true]; exact .inl hX⟩
    · rintro v20 g21 h22 ⟨b, e, hk22, hb⟩
      cases e
      simp only [asBool_bool]
      cases b with
      | true => simp only [ifB_true]; simp only [if_true] at hb; exact ⟨hk22, trivial, hb⟩
      | false => simp only [ifB_false]; simp only [Bool.false_eq_true, if_false] at hb; exact ⟨hk22, hb⟩
  · rintro M h24 hM hs ⟨q1, q2, q3, hI⟩ h25 hsd
    refine ⟨M, by omega, by omega, by rw [hsd.1]; exact hs, .inl ?_⟩
    rw [show min n m = n by omega]
    exact hok.dI M n h24 h25 (hsd.mono hN) hI
  · refine ⟨fun M h26 hM hs hX h27 hsd => ?_, trivial⟩
    refine ⟨M, by omega, by omega, by rw [hsd.1]; exact hs, ?_⟩
    rcases hX with hX | ⟨hmn, hI⟩
    · exact .inr (hok.dX M _ h26 h27 (hsd.mono hN) hX)
    · left
      rw [show min n m = m by omega]
      exact hok.dI M m h26 h27 (hsd.mono hN) hI
end Go.Proofs.Ytgladmaagpcffaa
