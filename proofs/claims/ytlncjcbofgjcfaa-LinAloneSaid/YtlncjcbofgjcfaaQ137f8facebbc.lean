/- 15.2: calls of one thread, one behind the other, are linearizable just if their answers are legal in this order. -/
import Derived.Test.YtlncjcbofgjcfaaQ569d675227b9
import Derived.Test.YtlncjcbofgjcfaaRows
section
/- 15.2: calls of one thread, one behind the other, are linearizable just if their answers are legal in this order. -/
namespace Go.Proofs.Ytlncjcbofgjcfaa.linAlone
open Go.ChangeShapes Go.WideShapes Go.ChangeAt Go.RowKit
open Go.ChangeMaps (open_string shut_string)
set_option linter.unusedVariables false
set_option maxRecDepth 100000 in
theorem lifted (os : Os) (started : os.Started) (H : Type) (enc : TypeId × Value → H) :
    ReturnsInHanded {} Try.checked os 6 .any (Rows.linAloneSpec.pre6 enc Try.prog Try.f6 Rows.linAloneRow.domain false) (Rows.linAloneSpec.post enc Try.prog Try.f6 false true false false) := by
  refine returnsInHanded_of_change_sized (C := Try.checked) own_knob started (by kernel_rfl) Try.func6
    (ChangeSpec.witness6 (enc := enc) (C := Try.checked) false ⟨#[], #[.slice none 0 0, .slice none 0 0], []⟩ 6 (by kernel_rfl) (by kernel_rfl) (by kernel_rfl) (by kernel_rfl)) ?_
  intro W base args ds gs before hval0 hW hcnd hsz0 _
  have hval : ∀ (j : Nat) t v, Try.f6.params[j]? = some t → args[j]? = some v → Value.okWide Try.prog W .any base t v := hval0
  have hW' := hW
  obtain ⟨p, q, hA0, hV, rfl, hfz, hnd⟩ := hW
  have hA : DataW.TrodAll enc Try.prog W 0 (fun _ => true) true Try.f6.params.toList args.toList ds p := hA0
  have hsz : (DataW.weightsEach Try.prog (Try.f6.params.toList ++ Rows.linAloneSpec.plain.varTypes Try.prog) (ds ++ gs)).all (· ≤ reachBytes) = true := hsz0
  rw [Try.params6] at hA hval hsz
  obtain ⟨v0, vs0, d0, ds0, p0, q0, hargs, rfl, rfl, h0, r0⟩ := trodAll_cons hA
  obtain ⟨v1, vs1, d1, ds1, p1, q1, rfl, rfl, rfl, h1, r1⟩ := trodAll_cons r0
  obtain ⟨rfl, rfl, rfl⟩ := trodAll_nil r1
  obtain rfl : args = #[v0, v1] := by cases args; simp_all
  obtain ⟨rfl, rfl⟩ := trodVars_none hV
  obtain ⟨a0, l0, c0, rfl⟩ := okWide_slice Try.underlying62 (hval 0 62 v0 rfl rfl)
  obtain ⟨x0, g0, s0⟩ := arg_callsR h0
  obtain ⟨a1, l1, c1, rfl⟩ := okWide_slice Try.underlying63 (hval 1 63 v1 rfl rfl)
  obtain ⟨x1, g1, s1⟩ := arg_answersR h1
  clear hA0 hval0 hsz0 hsz
  refine (calls_of_callH (call6 (K := fun v h' => v = .bool true ∧ Old W.heap.size W.heap h') (alone_body s0 g0 s1 fun h' o => ⟨rfl, o⟩))).mono fun e W' ⟨v, he, ⟨hv, ho⟩, hos, hout⟩ => ?_
  subst he hv
  exact ⟨_, rfl, _, _, _, [], _, [], hW', trodAll_mk1 (shut_bool Try.underlying4 _), (trodAll_cons_mk (trod_old laid_out (by kernel_rfl) (of_decide_eq_true (by kernel_rfl)) h0 ho) (trodAll_cons_mk (trod_old laid_out (by kernel_rfl) (of_decide_eq_true (by kernel_rfl)) h1 ho) trodAll_mk0)), rfl, frame_old ho hos hout _, fun h => by cases h⟩
theorem over : Rows.linAloneRow.holds Try.pinned (OpenSpec.ofChange Rows.linAloneSpec) :=
  OpenClaim.holds_of_wide 6 Try.f6 rfl rfl rfl rfl rfl rfl rfl ⟨rfl, rfl, rfl, rfl, rfl⟩ rfl rfl rfl rfl rfl (by kernel_rfl) Try.func6 (by kernel_rfl)
    (of_decide_eq_true (by kernel_rfl)) (by unfold Func.isWrapper; first | (rw [if_pos (by decide +kernel)]; kernel_rfl) | (rw [if_neg (by decide +kernel)]; exact ⟨rfl, rfl⟩))
    (fun os started H enc _ => lifted os started H enc)
theorem proved : Rows.LinAloneSaid := over
#print axioms proved
end Go.Proofs.Ytlncjcbofgjcfaa.linAlone
namespace Go.Proofs.Ytlncjcbofgjcfaa
/-- The row, under a short name, for the claim. -/
theorem linAlone_holds : Rows.LinAloneSaid := linAlone.proved
end Go.Proofs.Ytlncjcbofgjcfaa
end
