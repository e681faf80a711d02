/- 23.1: the rows of any entries are the document's: each row rises (or stays), and has just those that are taller. -/
import Derived.Test.YtgladmaagpcffaaRows
import Derived.Test.YtgladmaagpcffaaRd
import Derived.Test.YtgladmaagpcffaaEk
namespace Go.Proofs.Ytgladmaagpcffaa.levelRows
open Go.ChangeShapes Go.WideShapes Go.ChangeAt Go.RowKit
open Go.ChangeMaps (open_string shut_string)
set_option linter.unusedVariables false
set_option maxRecDepth 100000 in
theorem lifted (os : Os) (started : os.Started) (H : Type) (enc : TypeId × Value → H) :
    ReturnsInHanded {} Try.checked os 15 .any (Rows.levelRowsSpec.pre6 enc Try.prog Try.f15 Rows.levelRowsRow.domain false) (Rows.levelRowsSpec.post enc Try.prog Try.f15 false true false false) := by
  refine returnsInHanded_of_change_sized (C := Try.checked) own_knob started (by kernel_rfl) Try.func15
    (ChangeSpec.witness6 (enc := enc) (C := Try.checked) false ⟨#[], #[.slice none 0 0, .int .i64 0], []⟩ 15 (by kernel_rfl) (by kernel_rfl) (by kernel_rfl) (by kernel_rfl)) ?_
  intro W base args ds gs before hval0 hW hcnd hsz0 _
  have hval : ∀ (j : Nat) t v, Try.f15.params[j]? = some t → args[j]? = some v → Value.okWide Try.prog W .any base t v := hval0
  have hW' := hW
  obtain ⟨p, q, hA0, hV, rfl, hfz, hnd⟩ := hW
  have hA : DataW.TrodAll enc Try.prog W 0 (fun _ => true) true Try.f15.params.toList args.toList ds p := hA0
  have hsz : (DataW.weightsEach Try.prog (Try.f15.params.toList ++ Rows.levelRowsSpec.plain.varTypes Try.prog) (ds ++ gs)).all (· ≤ reachBytes) = true := hsz0
  rw [Try.params15] at hA hval hsz
  obtain ⟨v0, vs0, d0, ds0, p0, q0, hargs, rfl, rfl, h0, r0⟩ := trodAll_cons hA
  obtain ⟨v1, vs1, d1, ds1, p1, q1, rfl, rfl, rfl, h1, r1⟩ := trodAll_cons r0
  obtain ⟨rfl, rfl, rfl⟩ := trodAll_nil r1
  obtain rfl : args = #[v0, v1] := by cases args; simp_all
  obtain ⟨rfl, rfl⟩ := trodVars_none hV
  obtain ⟨a0, l0, c0, rfl⟩ := okWide_slice Try.underlying80 (hval 0 80 v0 rfl rfl)
  obtain ⟨x0, s0⟩ := arg_ents h0
  obtain ⟨a1, rfl, rfl, rfl, w1⟩ := open_int Try.underlying3 (hval 1 3 v1 rfl rfl) h1
  clear hA0 hval0 hsz0 hsz
  refine (calls_of_callH (call15 (K := fun v h' => v = .bool true ∧ Old W.heap.size W.heap h') (levelRows_body s0 fun h' o => ⟨rfl, o⟩))).mono fun e W' ⟨v, he, ⟨hv, ho⟩, hos, hout⟩ => ?_
  subst he hv
  exact ⟨_, rfl, _, _, _, [], _, [], hW', trodAll_mk1 (shut_bool Try.underlying4 _), (trodAll_cons_mk (trod_old laid_out (by kernel_rfl) (of_decide_eq_true (by kernel_rfl)) h0 ho) (trodAll_cons_mk (shut_int Try.underlying3 w1) trodAll_mk0)), rfl, frame_old ho hos hout _, fun h => by cases h⟩
theorem over : Rows.levelRowsRow.holds Try.pinned (OpenSpec.ofChange Rows.levelRowsSpec) :=
  OpenClaim.holds_of_wide 15 Try.f15 rfl rfl rfl rfl rfl rfl rfl ⟨rfl, rfl, rfl, rfl, rfl⟩ rfl rfl rfl rfl rfl (by kernel_rfl) Try.func15 (by kernel_rfl)
    (of_decide_eq_true (by kernel_rfl)) (by unfold Func.isWrapper; first | (rw [if_pos (by decide +kernel)]; kernel_rfl) | (rw [if_neg (by decide +kernel)]; exact ⟨rfl, rfl⟩))
    (fun os started H enc _ => lifted os started H enc)
theorem proved : Rows.LevelRowsSaid := over
#print axioms proved
end Go.Proofs.Ytgladmaagpcffaa.levelRows
namespace Go.Proofs.Ytgladmaagpcffaa
/-- The row, under a short name, for the claim. -/
theorem levelRows_holds : Rows.LevelRowsSaid := levelRows.proved
end Go.Proofs.Ytgladmaagpcffaa
