/- A number that is bad becomes one from 0 to it that is bad, of which the one below isn't; others stay: ShrinkNumbers is true at every input. -/
import Derived.Test.YtgladmaagpcffaaRows
import Derived.Test.YtgladmaagpcffaaR
import Derived.Test.YtgladmaagpcffaaNa
namespace Go.Proofs.Ytgladmaagpcffaa.shrinkNumbers
open Go.ChangeShapes Go.WideShapes Go.ChangeAt Go.RowKit
open Go.ChangeMaps (open_string shut_string)
set_option linter.unusedVariables false
set_option maxRecDepth 100000 in
theorem lifted (os : Os) (started : os.Started) (H : Type) (enc : TypeId × Value → H) :
    ReturnsInHanded {} Try.checked os 9 .any (Rows.shrinkNumbersSpec.pre6 enc Try.prog Try.f9 Rows.shrinkNumbersRow.domain false) (Rows.shrinkNumbersSpec.post enc Try.prog Try.f9 false true false false) := by
  refine returnsInHanded_of_change_sized (C := Try.checked) own_knob started (by kernel_rfl) Try.func9
    (ChangeSpec.witness6 (enc := enc) (C := Try.checked) false ⟨#[], #[.int .i64 0, .slice none 0 0], []⟩ 9 (by kernel_rfl) (by kernel_rfl) (by kernel_rfl) (by kernel_rfl)) ?_
  intro W base args ds gs before hval0 hW hcnd hsz0 _
  have hval : ∀ (j : Nat) t v, Try.f9.params[j]? = some t → args[j]? = some v → Value.okWide Try.prog W .any base t v := hval0
  have hW' := hW
  obtain ⟨p, q, hA0, hV, rfl, hfz, hnd⟩ := hW
  have hA : DataW.TrodAll enc Try.prog W 0 (fun _ => true) true Try.f9.params.toList args.toList ds p := hA0
  have hsz : (DataW.weightsEach Try.prog (Try.f9.params.toList ++ Rows.shrinkNumbersSpec.plain.varTypes Try.prog) (ds ++ gs)).all (· ≤ reachBytes) = true := hsz0
  rw [Try.params9] at hA hval hsz
  obtain ⟨v0, vs0, d0, ds0, p0, q0, hargs, rfl, rfl, h0, r0⟩ := trodAll_cons hA
  obtain ⟨v1, vs1, d1, ds1, p1, q1, rfl, rfl, rfl, h1, r1⟩ := trodAll_cons r0
  obtain ⟨rfl, rfl, rfl⟩ := trodAll_nil r1
  obtain rfl : args = #[v0, v1] := by cases args; simp_all
  obtain ⟨rfl, rfl⟩ := trodVars_none hV
  obtain ⟨a0, rfl, rfl, rfl, w0⟩ := open_int Try.underlying3 (hval 0 3 v0 rfl rfl) h0
  obtain ⟨a1, l1, c1, rfl⟩ := okWide_slice Try.underlying23 (hval 1 23 v1 rfl rfl)
  obtain ⟨x1, s1, g1⟩ := arg_ints h1
  have z1 := arg_len hsz (j := 1) rfl rfl h1
  clear hA0 hval0 hsz0 hsz
  refine (calls_of_callH (call9 (K := fun v h' => v = .bool true ∧ Old W.heap.size W.heap h') (shrinkNumbers_body (lit64 w0).2 s1 fun h' o => ⟨rfl, o⟩))).mono fun e W' ⟨v, he, ⟨hv, ho⟩, hos, hout⟩ => ?_
  subst he hv
  exact ⟨_, rfl, _, _, _, [], _, [], hW', trodAll_mk1 (shut_bool Try.underlying4 _), (trodAll_cons_mk (shut_int Try.underlying3 w0) (trodAll_cons_mk (trod_old laid_out (by kernel_rfl) (of_decide_eq_true (by kernel_rfl)) h1 ho) trodAll_mk0)), rfl, frame_old ho hos hout _, fun h => by cases h⟩
theorem over : Rows.shrinkNumbersRow.holds Try.pinned (OpenSpec.ofChange Rows.shrinkNumbersSpec) :=
  OpenClaim.holds_of_wide 9 Try.f9 rfl rfl rfl rfl rfl rfl rfl ⟨rfl, rfl, rfl, rfl, rfl⟩ rfl rfl rfl rfl rfl (by kernel_rfl) Try.func9 (by kernel_rfl)
    (of_decide_eq_true (by kernel_rfl)) (by unfold Func.isWrapper; first | (rw [if_pos (by decide +kernel)]; kernel_rfl) | (rw [if_neg (by decide +kernel)]; exact ⟨rfl, rfl⟩))
    (fun os started H enc _ => lifted os started H enc)
theorem proved : Rows.ShrinkNumbersSaid := over
#print axioms proved
end Go.Proofs.Ytgladmaagpcffaa.shrinkNumbers
namespace Go.Proofs.Ytgladmaagpcffaa
/-- The row, under a short name, for the claim. -/
theorem shrinkNumbers_holds : Rows.ShrinkNumbersSaid := shrinkNumbers.proved
end Go.Proofs.Ytgladmaagpcffaa
