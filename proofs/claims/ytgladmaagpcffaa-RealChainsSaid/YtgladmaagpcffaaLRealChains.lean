/- Whichever operation that may come next is taken, again and again, till all are in it, the order may be; and there is always one that may: RealChains is true at every input. -/
import Derived.Test.YtgladmaagpcffaaRows
import Derived.Test.YtgladmaagpcffaaRc
import Derived.Test.YtgladmaagpcffaaOe
namespace Go.Proofs.Ytgladmaagpcffaa.realChains
open Go.ChangeShapes Go.WideShapes Go.ChangeAt Go.RowKit
open Go.ChangeMaps (open_string shut_string)
set_option linter.unusedVariables false
set_option maxRecDepth 100000 in
theorem lifted (os : Os) (started : os.Started) (H : Type) (enc : TypeId × Value → H) :
    ReturnsInHanded {} Try.checked os 12 .any (Rows.realChainsSpec.pre6 enc Try.prog Try.f12 Rows.realChainsRow.domain false) (Rows.realChainsSpec.post enc Try.prog Try.f12 false true false false) := by
  refine returnsInHanded_of_change_sized (C := Try.checked) own_knob started (by kernel_rfl) Try.func12
    (ChangeSpec.witness6 (enc := enc) (C := Try.checked) false ⟨#[], #[.slice none 0 0, .slice none 0 0], []⟩ 12 (by kernel_rfl) (by kernel_rfl) (by kernel_rfl) (by kernel_rfl)) ?_
  intro W base args ds gs before hval0 hW hcnd hsz0 _
  have hval : ∀ (j : Nat) t v, Try.f12.params[j]? = some t → args[j]? = some v → Value.okWide Try.prog W .any base t v := hval0
  have hW' := hW
  obtain ⟨p, q, hA0, hV, rfl, hfz, hnd⟩ := hW
  have hA : DataW.TrodAll enc Try.prog W 0 (fun _ => true) true Try.f12.params.toList args.toList ds p := hA0
  have hsz : (DataW.weightsEach Try.prog (Try.f12.params.toList ++ Rows.realChainsSpec.plain.varTypes Try.prog) (ds ++ gs)).all (· ≤ reachBytes) = true := hsz0
  rw [Try.params12] at hA hval hsz
  obtain ⟨v0, vs0, d0, ds0, p0, q0, hargs, rfl, rfl, h0, r0⟩ := trodAll_cons hA
  obtain ⟨v1, vs1, d1, ds1, p1, q1, rfl, rfl, rfl, h1, r1⟩ := trodAll_cons r0
  obtain ⟨rfl, rfl, rfl⟩ := trodAll_nil r1
  obtain rfl : args = #[v0, v1] := by cases args; simp_all
  obtain ⟨rfl, rfl⟩ := trodVars_none hV
  obtain ⟨a0, l0, c0, rfl⟩ := okWide_slice Try.underlying53 (hval 0 53 v0 rfl rfl)
  obtain ⟨x0, s0⟩ := arg_opers h0
  obtain ⟨a1, l1, c1, rfl⟩ := okWide_slice Try.underlying23 (hval 1 23 v1 rfl rfl)
  obtain ⟨x1, s1, g1⟩ := arg_ints h1
  have z1 := arg_len hsz (j := 1) rfl rfl h1
  clear hA0 hval0 hsz0 hsz
  refine (calls_of_callH (call12 (K := fun v h' => v = .bool true ∧ Old W.heap.size W.heap h') (realChains_body s0 s1 fun h' o => ⟨rfl, o⟩))).mono fun e W' ⟨v, he, ⟨hv, ho⟩, hos, hout⟩ => ?_
  subst he hv
  exact ⟨_, rfl, _, _, _, [], _, [], hW', trodAll_mk1 (shut_bool Try.underlying4 _), (trodAll_cons_mk (trod_old laid_out (by kernel_rfl) (of_decide_eq_true (by kernel_rfl)) h0 ho) (trodAll_cons_mk (trod_old laid_out (by kernel_rfl) (of_decide_eq_true (by kernel_rfl)) h1 ho) trodAll_mk0)), rfl, frame_old ho hos hout _, fun h => by cases h⟩
theorem over : Rows.realChainsRow.holds Try.pinned (OpenSpec.ofChange Rows.realChainsSpec) :=
  OpenClaim.holds_of_wide 12 Try.f12 rfl rfl rfl rfl rfl rfl rfl ⟨rfl, rfl, rfl, rfl, rfl⟩ rfl rfl rfl rfl rfl (by kernel_rfl) Try.func12 (by kernel_rfl)
    (of_decide_eq_true (by kernel_rfl)) (by unfold Func.isWrapper; first | (rw [if_pos (by decide +kernel)]; kernel_rfl) | (rw [if_neg (by decide +kernel)]; exact ⟨rfl, rfl⟩))
    (fun os started H enc _ => lifted os started H enc)
theorem proved : Rows.RealChainsSaid := over
#print axioms proved
end Go.Proofs.Ytgladmaagpcffaa.realChains
namespace Go.Proofs.Ytgladmaagpcffaa
/-- The row, under a short name, for the claim. -/
theorem realChains_holds : Rows.RealChainsSaid := realChains.proved
end Go.Proofs.Ytgladmaagpcffaa
