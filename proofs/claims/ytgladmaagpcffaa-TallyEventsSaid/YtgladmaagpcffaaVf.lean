/- Each operation of the calculus is the model's (4). -/
import Derived.Test.YtgladmaagpcffaaVe
set_option linter.unusedSimpArgs false
set_option linter.unusedVariables false
namespace Go.Proofs.Ytgladmaagpcffaa
section
variable {P : Program} {ρ : Operand → Value} {h : Heap} {K : Value → Heap → Prop}

/-! ### slices -/
theorem hp_bound {v : Value} {i : Int} {k : IntKind} {y : Nat} {code : BoundsCode} (hv : v = .int k i) (h0 : 0 ≤ i) (h1 : i ≤ y) (F : Nat → Heap → Prop) :
    hp P (Instr.sliceBound v y code) F h = F i.toNat h := by
  subst hv
  simp only [Instr.sliceBound, asIntOf, hp_bind, hp_pure]
  rw [if_pos ⟨h0, h1⟩]; rfl
theorem boundH_out {v : Option Value} {d m : Nat} {F : Nat → Prop} (H : boundH none v d m F) :
    (v = none ∧ F d) ∨ ∃ k i, v = some (.int k i) ∧ 0 ≤ i ∧ i ≤ m ∧ F i.toNat := by
  unfold boundH at H
  split at H
  · exact .inl ⟨rfl, H⟩
  · split at H
    · obtain ⟨k, i, rfl, H⟩ := asI_out H
      exact .inr ⟨_, _, rfl, H⟩
    · cases ‹none = some _›
theorem hp_sliceBounds {isSlice : Bool} {len cap : Nat} {lo hi mx : Option Value} {F : Nat × Nat × Nat → Heap → Prop} (hm : mx = none ∨ hi ≠ none)
    (H : boundH none mx cap cap fun m => boundH none hi len m fun h' => boundH none lo 0 h' fun l => F (l, h', m) h) :
    hp P (Instr.sliceBounds isSlice len cap lo hi mx) F h := by
  rcases boundH_out H with ⟨rfl, H1⟩ | ⟨k, i, rfl, h0, h1, H1⟩
  · rcases boundH_out H1 with ⟨rfl, H2⟩ | ⟨k, i, rfl, h0, h1, H2⟩
    · rcases boundH_out H2 with ⟨rfl, H3⟩ | ⟨k, i, rfl, h0, h1, H3⟩
      · exact H3
      · simp only [Instr.sliceBounds, hp_bind, hp_pure, hp_bound rfl h0 h1]; exact H3
    · rcases boundH_out H2 with ⟨rfl, H3⟩ | ⟨k', i', rfl, h0', h1', H3⟩
      · simp only [Instr.sliceBounds, hp_bind, hp_pure, hp_bound rfl h0 h1]; exact H3
      · simp only [Instr.sliceBounds, hp_bind, hp_pure, hp_bound rfl h0 h1, hp_bound rfl h0' h1']; exact H3
  · rcases boundH_out H1 with ⟨rfl, H2⟩ | ⟨k2, i2, rfl, h02, h12, H2⟩
    · rcases hm with hm | hm
      · cases hm
      · exact absurd rfl hm
    · rcases boundH_out H2 with ⟨rfl, H3⟩ | ⟨k', i', rfl, h0', h1', H3⟩
      · simp only [Instr.sliceBounds, hp_bind, hp_pure, hp_bound rfl h0 h1, hp_bound rfl h02 h12]; exact H3
      · simp only [Instr.sliceBounds, hp_bind, hp_pure, hp_bound rfl h0 h1, hp_bound rfl h02 h12, hp_bound rfl h0' h1']; exact H3

theorem hp_sliceAt {t : TypeId} {x : Value} {lo hi mx : Option Value} (hm : mx = none ∨ hi ≠ none) (H : vslice P t x lo hi mx fun v => K v h) :
    hp P (Instr.sliceAt t x lo hi mx) K h := by
  unfold vslice at H
  split at H
  · rename_i hu
    split at H
    · exact H.elim
    · rename_i hmx
      obtain ⟨s, rfl, H⟩ := asStr_out H
      simp only [Instr.sliceAt, hp_bind, hp_underlying (und_some hu (by simp)), Instr.slice]
      rw [if_neg hmx]
      simp only [hp_bind, hp_pure]
      refine hp_sliceBounds (.inl rfl) ?_
      exact H
  · rename_i e hu
    split at H
    · rename_i hth
      obtain ⟨a, len, cap, rfl, H⟩ := asSlice_out H
      simp only [Instr.sliceAt, hp_bind, hp_underlying (und_some hu (by simp)), Instr.slice]
      refine hp_sliceBounds hm ?_
      simp only [hp_bind, hp_sizeOf hth, hp_pure]
      exact H
    · exact H.elim
  · rename_i n e hu
    split at H
    · rename_i hth
      obtain ⟨a, rfl, H⟩ := asPtr_out H
      simp only [Instr.sliceAt, hp_bind, hp_underlying (und_some hu (by simp)), Instr.sureAddr, hp_pure]
      refine hp_sliceBounds hm ?_
      simp only [hp_bind, hp_sizeOf hth, hp_pure]
      exact H
    · exact H.elim
  · exact H.elim

/-! ### make -/
theorem hp_askRoom (n : Nat) (F : Unit → Heap → Prop) : hp P (askRoom n) F h = F () h := by unfold askRoom; split <;> rfl
theorem wrap64_id {n : Int} (h0 : 0 ≤ n) (h1 : n ≤ 9223372036854775807) : IntKind.i64.wrap n = n := by
  have e1 : ((2 : Int) ^ IntKind.i64.bits) = 18446744073709551616 := by decide
  have e2 : ((2 : Int) ^ (IntKind.i64.bits - 1)) = 9223372036854775808 := by decide
  unfold IntKind.wrap
  rw [e1, e2]
  have : n % 18446744073709551616 = n := by omega
  simp only [this]
  rw [if_neg (by simp; omega)]
theorem hp_makeSlice {t elem : TypeId} {k1 k2 : IntKind} {l c : Int} (hu : P.underlying t = some (.slice elem)) (hth : there P elem = true) (hz : (zer P elem).isSome = true)
    (hs : (zcells P elem).length = siz P elem) (hp0 : 0 < siz P elem) (H : mkSlH P elem l c h K) : hp P (Instr.makeSlice t (.int k1 l) (.int k2 c)) K h := by
  obtain ⟨h1, h2, h3, h4, H⟩ := H
  obtain ⟨i, hi⟩ := there_some hth
  obtain ⟨z, hz⟩ := zer_some hz
  have hb : byt P elem = i.bytes := by unfold byt; rw [hi]
  rw [hb] at h4
  have w1 : IntKind.i64.wrap l = l := wrap64_id h1 (by omega)
  have w2 : IntKind.i64.wrap c = c := wrap64_id (by omega) h3
  simp only [Instr.makeSlice, hp_bind, hp_underlying hu, asInt, Go.asInt, asIntOf, hp_pure, hp_typeInfo hi, w1, w2]
  rw [if_neg (by
    simp only [Bool.or_eq_true, decide_eq_true_eq, not_or]
    refine ⟨⟨⟨by omega, ?_⟩, by omega⟩, by omega⟩
    have : ((2 : Int) ^ 48) = 281474976710656 := by decide
    rw [this] at h4
    rw [this]
    omega)]
  simp only [hp_bind, hp_askRoom, hp_sizeOf hth]
  by_cases hc0 : c.toNat = 0
  · simp only [hc0, Nat.zero_mul, if_true, hp_pure, newRow, newObj, hp_bind, hp] at H ⊢
    have e : (Array.range 0).map (fun x => (#[] : Array Value)[x % (#[] : Array Value).size]!) = #[] := by simp [Array.range]
    rw [e]; simpa using H
  · rw [if_neg (by intro e; rcases Nat.mul_eq_zero.1 e with e | e <;> omega)]
    simp only [hp_bind, hp_zeroValue hz, hp_pure, ← zcells_eq hz, newRow, newObj, hp]
    have := rep_eq (zcells P elem) c.toNat (by omega)
    rw [hs] at this
    rw [this]; exact H
end
end Go.Proofs.Ytgladmaagpcffaa
