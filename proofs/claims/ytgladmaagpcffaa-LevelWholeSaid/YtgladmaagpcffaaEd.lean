/- The answer that lives asks for (level). -/
import Derived.Test.YtgladmaagpcffaaEc
set_option linter.unusedSimpArgs false
set_option linter.unusedVariables false
set_option maxRecDepth 20000
namespace Go.Proofs.Ytgladmaagpcffaa

theorem two_sorted {ss : List Ent} (hp : ss.Perm [⟨5, 2⟩, ⟨3, 1⟩]) (hs : SortedSeg ss 0 2) : ss = [⟨3, 1⟩, ⟨5, 2⟩] := by
  have hl := hp.length_eq
  match ss, hl, hp, hs with
  | [x, y], _, hp, hs =>
    have hxy := hs 0 1 (by simp) (by simp) (Nat.le_refl _) (by omega) (by omega)
    simp only [List.getElem_cons_zero, List.getElem_cons_succ] at hxy
    have hx := hp.mem_iff (a := x)
    have hy := hp.mem_iff (a := y)
    have h5 := hp.mem_iff (a := (⟨5, 2⟩ : Ent))
    have h3 := hp.mem_iff (a := (⟨3, 1⟩ : Ent))
    simp only [List.mem_cons, List.not_mem_nil, or_false, true_or, or_true, true_iff, iff_true] at hx hy h5 h3
    rcases hx with rfl | rfl <;> rcases hy with rfl | rfl <;> simp_all

theorem lives23_call {K : Value → Heap → Prop} {h : Heap} (k : ∀ h', Old h.size h h' → K (.bool true) h') : CallH Try.prog 66 #[] h K := by
  refine call66 ?_
  unfold F66
  have p1 := pushed h #[.int .u64 5, .int .i64 2, .int .u64 3, .int .i64 1] 97
  generalize h.push (.cells #[.int .u64 5, .int .i64 2, .int .u64 3, .int .i64 1] 97) = h1 at *
  have o1 := p1.toOld
  have B : EB h1 h.size [⟨5, 2⟩, ⟨3, 1⟩] [] := p1.new
  refine callV_fn (rows_call (B.se (l := 2) (c := 2) rfl (by omega)) (by omega) (sorts_small (by omega)) fun ss a' c' vs h' hperm hsorted R o => ?_)
  have e := two_sorted hperm hsorted
  subst e
  have k' := k h' (o1.trans (o.mono o1.1))
  have R' : RV h' a' 2 c' vs [[3, 5], [5]] := R
  have hm : min (2 : Int).toNat 64 = 2 := rfl
  rw [hm]
  simp only [asSlice_slice]
  refine ifB_mk (fun _ => ?_) (fun h => absurd h (by decide))
  obtain ⟨ad, a0, l0, c0, rfl, _, hc0, r0, _⟩ := R'.at (i := 0) (by simp)
  obtain ⟨ad1, a1, l1, c1, e1, _, hc1, r1, _⟩ := R'.at (i := 1) (by simp)
  cases e1
  have hl0 := r0.len
  have hl1 := r1.len
  simp only [List.getElem_cons_zero, List.getElem_cons_succ, List.length_cons, List.length_nil] at hl0 hl1
  subst hl0 hl1
  obtain ⟨ae, rfl, he⟩ := r0.at (i := 0) (by simp)
  obtain ⟨af, rfl, hf⟩ := r1.at (i := 0) (by simp)
  have ad0 : ad.add 0 = ad := by cases ad; rfl
  have ae0 : ae.add 0 = ae := by cases ae; rfl
  have af0 : af.add 0 = af := by cases af; rfl
  rw [ad0] at hc0
  rw [ae0] at he
  rw [af0] at hf
  refine ⟨by omega, by decide, ?_⟩
  simp only [asPtr_some]
  refine ldH_mk hc0 ?_
  simp only [asSlice_slice]
  refine ifB_mk (fun _ => ?_) (fun h => absurd h (by decide))
  refine ⟨by omega, by decide, ldH_mk hc0 ?_⟩
  simp only [asSlice_slice]
  refine ⟨by omega, by decide, ?_⟩
  simp only [asPtr_some]
  refine ldH_mk he ?_
  simp only [asInt_int]
  refine ifB_mk (fun _ => ?_) (fun h => absurd h (by decide))
  refine ⟨by omega, by decide, ldH_mk hc1 ?_⟩
  simp only [asSlice_slice]
  refine ifB_mk (fun _ => ?_) (fun h => absurd h (by decide))
  refine ⟨by omega, by decide, ldH_mk hc1 ?_⟩
  simp only [asSlice_slice]
  refine ⟨by omega, by decide, ?_⟩
  simp only [asPtr_some]
  refine ldH_mk hf ?_
  simp only [asInt_int]
  exact k'
end Go.Proofs.Ytgladmaagpcffaa
