/- 34.3: the theorem of stage 34: of each algorithm, whatever threads call, whosever step comes next: a hazard slot is written by its own thread alone, and only by Store. -/
import Derived.Test.YtahpbclnkofhfaaGreatQ617b7740adbe
import Derived.Test.YtahpbclnkofhfaaGreatRows
import Derived.JoinedOf
set_option linter.unusedSimpArgs false
set_option linter.unusedVariables false
set_option linter.ambiguousOpen false
set_option maxRecDepth 20000
section
namespace Go.Proofs.YtahpbclnkofhfaaGreat.traceOwn
open Go.ChangeShapes Go.WideShapes Go.ChangeAt Go.RowKit
open Go.ChangeMaps (open_string shut_string)
set_option maxRecDepth 100000 in
theorem lifted (os : Os) (started : os.Started) (H : Type) (enc : TypeId × Value → H) :
  ReturnsInHanded {} Tryz.checked os 4 .any (Rows.traceOwnSpec.pre6 enc Tryz.prog Tryz.f4 Rows.traceOwnRow.domain false) (Rows.traceOwnSpec.post enc Tryz.prog Tryz.f4 false true false false) := by
 refine returnsInHanded_of_change_sized (C := Tryz.checked) Zg1 started (by kernel_rfl) Tryz.func4
  (ChangeSpec.witness6 (enc := enc) (C := Tryz.checked) false ⟨#[], #[.agg #[.int .i64 0, .int .i64 0, .int .i64 0, .int .i64 0, .int .i64 0, .int .i64 0, .int .i64 0, .slice none 0 0, .slice none 0 0, .slice none 0 0], .agg #[.int .i64 0, .int .i64 0, .int .i64 0, .int .i64 0, .int .i64 0, .int .i64 0, .int .i64 0]], []⟩ 4 (by kernel_rfl) (by kernel_rfl) (by kernel_rfl) (by kernel_rfl)) ?_
 intro W base args ds gs before hval0 hW hcnd hsz0 _
 have hval : ∀ (j : Nat) t v, Tryz.f4.params[j]? = some t → args[j]? = some v → Value.okWide Tryz.prog W .any base t v := hval0
 have hW' := hW
 obtain ⟨p, q, hA0, hV, rfl, hfz, hnd⟩ := hW
 have hA : DataW.TrodAll enc Tryz.prog W 0 (fun _ => true) true Tryz.f4.params.toList args.toList ds p := hA0
 have hsz : (DataW.weightsEach Tryz.prog (Tryz.f4.params.toList ++ Rows.traceOwnSpec.plain.varTypes Tryz.prog) (ds ++ gs)).all (· ≤ reachBytes) = true := hsz0
 rw [Tryz.params4] at hA hval hsz
 obtain ⟨v0, vs0, d0, ds0, p0, q0, hargs, rfl, rfl, h0, r0⟩ := trodAll_cons hA
 obtain ⟨v1, vs1, d1, ds1, p1, q1, rfl, rfl, rfl, h1, r1⟩ := trodAll_cons r0
 obtain ⟨rfl, rfl, rfl⟩ := trodAll_nil r1
 obtain rfl : args = #[v0, v1] := by cases args; simp_all
 obtain ⟨rfl, rfl⟩ := trodVars_none hV
 obtain ⟨e0, ca, cl, cc, pa, pl, pc, da, dl, dc, calls, Wc3, draws, rfl, sI, sR⟩ := YK5 (hval 0 28 v0 rfl rfl) h0
 obtain ⟨c1, rfl⟩ := Y35 (hval 1 23 v1 rfl rfl) h1
 clear hA0 hval0 hsz0 hsz
 refine (WZ2 (W91 (c0 := e0) (c := c1) (K := fun v h' => v = .bool true ∧ Old W.heap.size W.heap h') (Sat.full W.heap) (fun h' P HP => sI.old (Y34 HP)) sR fun h' HP => ⟨rfl, Y33 HP⟩)).mono fun e W' ⟨v, he, ⟨hv, ho⟩, hos, hout⟩ => ?_
 subst he hv
 exact ⟨_, rfl, _, _, _, [], _, [], hW', trodAll_mk1 (shut_bool Tryz.underlying4 _), (trodAll_cons_mk (Yz2 Yz1 (by kernel_rfl) (of_decide_eq_true (by kernel_rfl)) h0 ho) (trodAll_cons_mk (Yz2 Yz1 (by kernel_rfl) (of_decide_eq_true (by kernel_rfl)) h1 ho) trodAll_mk0)), rfl, YV6 ho hos hout _, fun h => by cases h⟩
theorem j1 : (Rows.traceOwnRow.inPlace == Tryz.pinned.checked.prog.inPlace 4) = true := by kernel_rfl
theorem j2 : (Rows.traceOwnRow.unfollowed == Tryz.pinned.checked.prog.unfollowed 4) = true := by kernel_rfl
theorem j3 : (Rows.traceOwnRow.recurses == Tryz.pinned.checked.prog.recurses 4) = true := by kernel_rfl
theorem j4 : (Rows.traceOwnRow.named == Tryz.pinned.checked.prog.varsNamed 4) = true := by kernel_rfl
set_option maxRecDepth 100000 in
theorem closed : joinedFacts Tryz.pinned.checked.prog 4 Tryz.f4 Rows.traceOwnSpec Rows.traceOwnRow = true := by
 unfold joinedFacts
 rw [j1, j2, j3, j4]
 kernel_rfl
theorem over : Rows.traceOwnRow.holds Tryz.pinned (OpenSpec.ofChange Rows.traceOwnSpec) :=
 OpenClaim.holds_of_wide 4 Tryz.f4 rfl rfl rfl rfl rfl rfl rfl ⟨rfl, rfl, rfl, rfl, rfl⟩ rfl rfl rfl rfl rfl (by kernel_rfl) Tryz.func4 closed
  (of_decide_eq_true (by kernel_rfl)) (by unfold Func.isWrapper; first | (rw [if_pos (by decide +kernel)]; kernel_rfl) | (rw [if_neg (by decide +kernel)]; exact ⟨rfl, rfl⟩))
  (fun os started H enc _ => lifted os started H enc)
theorem proved : Rows.TraceOwnSaid := over
#print axioms proved
end Go.Proofs.YtahpbclnkofhfaaGreat.traceOwn
namespace Go.Proofs.YtahpbclnkofhfaaGreat
theorem traceOwn_holds : Rows.TraceOwnSaid := traceOwn.proved
end Go.Proofs.YtahpbclnkofhfaaGreat
end
