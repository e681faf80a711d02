/- The bounds of any configuration are the document's: BoundTells is true at every input. -/
import Derived.Test.YtgladmaagpcffaaRows
import Derived.Test.YtgladmaagpcffaaRb
import Derived.Test.YtgladmaagpcffaaBc
namespace Go.Proofs.Ytgladmaagpcffaa.boundTells
open Go.ChangeShapes Go.WideShapes Go.ChangeAt Go.RowKit
open Go.ChangeMaps (open_string shut_string)
set_option linter.unusedVariables false
set_option maxRecDepth 100000 in
theorem lifted (os : Os) (started : os.Started) (H : Type) (enc : TypeId × Value → H) :
    ReturnsInHanded {} Try.checked os 6 .any (Rows.boundTellsSpec.pre6 enc Try.prog Try.f6 Rows.boundTellsRow.domain false) (Rows.boundTellsSpec.post enc Try.prog Try.f6 false true false false) := by
  refine returnsInHanded_of_change_sized (C := Try.checked) own_knob started (by kernel_rfl) Try.func6
    (ChangeSpec.witness6 (enc := enc) (C := Try.checked) false ⟨#[], #[.agg #[.int .i64 0, .int .i64 0, .int .i64 0, .int .i64 0, .int .i64 0, .int .i64 0, .int .i64 0]], []⟩ 6 (by kernel_rfl) (by kernel_rfl) (by kernel_rfl) (by kernel_rfl)) ?_
  intro W base args ds gs before hval0 hW hcnd hsz0 _
  have hval : ∀ (j : Nat) t v, Try.f6.params[j]? = some t → args[j]? = some v → Value.okWide Try.prog W .any base t v := hval0
  have hW' := hW
  obtain ⟨p, q, hA0, hV, rfl, hfz, hnd⟩ := hW
  have hA : DataW.TrodAll enc Try.prog W 0 (fun _ => true) true Try.f6.params.toList args.toList ds p := hA0
  have hsz : (DataW.weightsEach Try.prog (Try.f6.params.toList ++ Rows.boundTellsSpec.plain.varTypes Try.prog) (ds ++ gs)).all (· ≤ reachBytes) = true := hsz0
  rw [Try.params6] at hA hval hsz
  obtain ⟨v0, vs0, d0, ds0, p0, q0, hargs, rfl, rfl, h0, r0⟩ := trodAll_cons hA
  obtain ⟨rfl, rfl, rfl⟩ := trodAll_nil r0
  obtain rfl : args = #[v0] := by cases args; simp_all
  obtain ⟨rfl, rfl⟩ := trodVars_none hV
  obtain ⟨a0, rfl⟩ := arg_conf (hval 0 37 v0 rfl rfl) h0
  clear hA0 hval0 hsz0 hsz
  refine (calls_of_callH (call6 (K := fun v h' => v = .bool true ∧ Old W.heap.size W.heap h') (boundTells_body a0 fun h' o => ⟨rfl, o⟩))).mono fun e W' ⟨v, he, ⟨hv, ho⟩, hos, hout⟩ => ?_
  subst he hv
  exact ⟨_, rfl, _, _, _, [], _, [], hW', trodAll_mk1 (shut_bool Try.underlying4 _), (trodAll_cons_mk (trod_old laid_out (by kernel_rfl) (of_decide_eq_true (by kernel_rfl)) h0 ho) trodAll_mk0), rfl, frame_old ho hos hout _, fun h => by cases h⟩
theorem over : Rows.boundTellsRow.holds Try.pinned (OpenSpec.ofChange Rows.boundTellsSpec) :=
  OpenClaim.holds_of_wide 6 Try.f6 rfl rfl rfl rfl rfl rfl rfl ⟨rfl, rfl, rfl, rfl, rfl⟩ rfl rfl rfl rfl rfl (by kernel_rfl) Try.func6 (by kernel_rfl)
    (of_decide_eq_true (by kernel_rfl)) (by unfold Func.isWrapper; first | (rw [if_pos (by decide +kernel)]; kernel_rfl) | (rw [if_neg (by decide +kernel)]; exact ⟨rfl, rfl⟩))
    (fun os started H enc _ => lifted os started H enc)
theorem proved : Rows.BoundTellsSaid := over
#print axioms proved
end Go.Proofs.Ytgladmaagpcffaa.boundTells
namespace Go.Proofs.Ytgladmaagpcffaa
/-- The row, under a short name, for the claim. -/
theorem boundTells_holds : Rows.BoundTellsSaid := boundTells.proved
end Go.Proofs.Ytgladmaagpcffaa
