/- 31.1: of a queue that isn't there, or a thread of which is busy, nothing is told. -/
import Derived.Test.YtooaemmlgkdfoaaGreatQed922d859b7f
import Derived.Test.YtooaemmlgkdfoaaGreatRows
import Derived.JoinedOf
set_option linter.unusedSimpArgs false
set_option linter.unusedVariables false
set_option linter.ambiguousOpen false
set_option maxRecDepth 20000
section
namespace Go.Proofs.YtooaemmlgkdfoaaGreat.drainRefuses
open Go.ChangeShapes Go.WideShapes Go.ChangeAt Go.RowKit
open Go.ChangeMaps (open_string shut_string)
set_option maxRecDepth 100000 in
theorem lifted (os : Os) (started : os.Started) (H : Type) (enc : TypeId × Value → H) :
  ReturnsInHanded {} Tryz.checked os 5 .any (Rows.drainRefusesSpec.pre6 enc Tryz.prog Tryz.f5 Rows.drainRefusesRow.domain false) (Rows.drainRefusesSpec.post enc Tryz.prog Tryz.f5 false true false false) := by
 refine returnsInHanded_of_change_sized (C := Tryz.checked) Yx1 started (by kernel_rfl) Tryz.func5
  (ChangeSpec.witness6 (enc := enc) (C := Tryz.checked) false ⟨#[], #[.agg #[.int .i64 0, .int .i64 0, .int .i64 0, .int .i64 0, .int .i64 0, .int .i64 0, .int .i64 0]], []⟩ 5 (by kernel_rfl) (by kernel_rfl) (by kernel_rfl) (by kernel_rfl)) ?_
 intro W base args ds gs before hval0 hW hcnd hsz0 _
 have hval : ∀ (j : Nat) t v, Tryz.f5.params[j]? = some t → args[j]? = some v → Value.okWide Tryz.prog W .any base t v := hval0
 have hW' := hW
 obtain ⟨p, q, hA0, hV, rfl, hfz, hnd⟩ := hW
 have hA : DataW.TrodAll enc Tryz.prog W 0 (fun _ => true) true Tryz.f5.params.toList args.toList ds p := hA0
 have hsz : (DataW.weightsEach Tryz.prog (Tryz.f5.params.toList ++ Rows.drainRefusesSpec.plain.varTypes Tryz.prog) (ds ++ gs)).all (· ≤ reachBytes) = true := hsz0
 rw [Tryz.params5] at hA hval hsz
 obtain ⟨v0, vs0, d0, ds0, p0, q0, hargs, rfl, rfl, h0, r0⟩ := trodAll_cons hA
 obtain ⟨rfl, rfl, rfl⟩ := trodAll_nil r0
 obtain rfl : args = #[v0] := by cases args; simp_all
 obtain ⟨rfl, rfl⟩ := trodVars_none hV
 obtain ⟨c0, rfl⟩ := Yr9 (hval 0 23 v0 rfl rfl) h0
 clear hA0 hval0 hsz0 hsz
 refine (WK1 (WB6 (c := c0) (K := fun v h' => v = .bool true ∧ Old W.heap.size W.heap h') (Sat.full W.heap) fun h' HP => ⟨rfl, Yr8 HP⟩)).mono fun e W' ⟨v, he, ⟨hv, ho⟩, hos, hout⟩ => ?_
 subst he hv
 exact ⟨_, rfl, _, _, _, [], _, [], hW', trodAll_mk1 (shut_bool Tryz.underlying4 _), (trodAll_cons_mk (Yx4 Yx2 (by kernel_rfl) (of_decide_eq_true (by kernel_rfl)) h0 ho) trodAll_mk0), rfl, Ym8 ho hos hout _, fun h => by cases h⟩
theorem j1 : (Rows.drainRefusesRow.inPlace == Tryz.pinned.checked.prog.inPlace 5) = true := by kernel_rfl
theorem j2 : (Rows.drainRefusesRow.unfollowed == Tryz.pinned.checked.prog.unfollowed 5) = true := by kernel_rfl
theorem j3 : (Rows.drainRefusesRow.recurses == Tryz.pinned.checked.prog.recurses 5) = true := by kernel_rfl
theorem j4 : (Rows.drainRefusesRow.named == Tryz.pinned.checked.prog.varsNamed 5) = true := by kernel_rfl
set_option maxRecDepth 100000 in
theorem closed : joinedFacts Tryz.pinned.checked.prog 5 Tryz.f5 Rows.drainRefusesSpec Rows.drainRefusesRow = true := by
 unfold joinedFacts
 rw [j1, j2, j3, j4]
 kernel_rfl
theorem over : Rows.drainRefusesRow.holds Tryz.pinned (OpenSpec.ofChange Rows.drainRefusesSpec) :=
 OpenClaim.holds_of_wide 5 Tryz.f5 rfl rfl rfl rfl rfl rfl rfl ⟨rfl, rfl, rfl, rfl, rfl⟩ rfl rfl rfl rfl rfl (by kernel_rfl) Tryz.func5 closed
  (of_decide_eq_true (by kernel_rfl)) (by unfold Func.isWrapper; first | (rw [if_pos (by decide +kernel)]; kernel_rfl) | (rw [if_neg (by decide +kernel)]; exact ⟨rfl, rfl⟩))
  (fun os started H enc _ => lifted os started H enc)
theorem proved : Rows.DrainRefusesSaid := over
#print axioms proved
end Go.Proofs.YtooaemmlgkdfoaaGreat.drainRefuses
namespace Go.Proofs.YtooaemmlgkdfoaaGreat
theorem drainRefuses_holds : Rows.DrainRefusesSaid := drainRefuses.proved
end Go.Proofs.YtooaemmlgkdfoaaGreat
end
