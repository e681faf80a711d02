/- Rows: an argument that is a configuration. -/
import Derived.Test.YtgladmaagpcffaaR
import Derived.Test.YtgladmaagpcffaaBa
namespace Go.Proofs.Ytgladmaagpcffaa
open Go.ChangeShapes Go.WideShapes Go.ChangeAt Go.RowKit
set_option linter.unusedVariables false
set_option maxRecDepth 20000
theorem arg_conf {H : Type} {enc : TypeId × Value → H} {W : World} {v : Value} {d : DataW H} {ps : List MemPlace} {r : Reach} {b0 : Nat}
    (hval : Value.okWide Try.prog W r b0 37 v) (h : DataW.Trod enc Try.prog W 0 (fun _ => true) true 37 v d ps) : ∃ c : Cf, v = .agg c.vals := by
  obtain ⟨cs, rfl, hsz⟩ := okWide_struct Try.underlying37 hval
  have h7 : Program.cellsOf Try.prog 37 = 7 := by kernel_rfl
  rw [h7] at hsz
  obtain ⟨fuel, hf⟩ := h
  obtain ⟨xs, n, _, _, _, hlen, hfl⟩ := DataW.trod_struct Try.underlying37 hf
  have hlen7 : xs.length = 7 := hlen
  have hc : Program.cellsOf Try.prog 3 = 1 := by kernel_rfl
  obtain ⟨l⟩ := cs
  have get : ∀ i, i < 7 → ∀ f : Field, f.type = 3 → f.offset = i → (∀ F : Field, F = f → DataW.trod enc Try.prog W 0 (fun _ => true) true n F.type ((l.drop F.offset).take (Program.cellsOf Try.prog F.type)) = xs[i]?) → ∃ m, l[i]? = some (.int .i64 m) := by
    intro i hi f ht ho hx
    have hx := hx f rfl
    rw [ht, ho, hc, List.getElem?_eq_getElem (by omega)] at hx
    obtain ⟨m, e, _, _⟩ := DataW.trod_int Try.underlying3 hx
    refine ⟨m, ?_⟩
    have : ((l.drop i).take 1)[0]? = some (.int .i64 m) := by rw [e]; rfl
    simpa using this
  obtain ⟨m0, e0⟩ := get 0 (by omega) _ rfl rfl (fun F e => by subst e; exact hfl 0 _ rfl)
  obtain ⟨m1, e1⟩ := get 1 (by omega) _ rfl rfl (fun F e => by subst e; exact hfl 1 _ rfl)
  obtain ⟨m2, e2⟩ := get 2 (by omega) _ rfl rfl (fun F e => by subst e; exact hfl 2 _ rfl)
  obtain ⟨m3, e3⟩ := get 3 (by omega) _ rfl rfl (fun F e => by subst e; exact hfl 3 _ rfl)
  obtain ⟨m4, e4⟩ := get 4 (by omega) _ rfl rfl (fun F e => by subst e; exact hfl 4 _ rfl)
  obtain ⟨m5, e5⟩ := get 5 (by omega) _ rfl rfl (fun F e => by subst e; exact hfl 5 _ rfl)
  obtain ⟨m6, e6⟩ := get 6 (by omega) _ rfl rfl (fun F e => by subst e; exact hfl 6 _ rfl)
  refine ⟨⟨m0, m1, m2, m3, m4, m5, m6⟩, ?_⟩
  have hl7 : l.length = 7 := hsz
  have : l = [.int .i64 m0, .int .i64 m1, .int .i64 m2, .int .i64 m3, .int .i64 m4, .int .i64 m5, .int .i64 m6] := by
    apply List.ext_getElem?
    intro i
    by_cases hi : i < 7
    · have : i = 0 ∨ i = 1 ∨ i = 2 ∨ i = 3 ∨ i = 4 ∨ i = 5 ∨ i = 6 := by omega
      rcases this with rfl | rfl | rfl | rfl | rfl | rfl | rfl
      · rw [e0]; rfl
      · rw [e1]; rfl
      · rw [e2]; rfl
      · rw [e3]; rfl
      · rw [e4]; rfl
      · rw [e5]; rfl
      · rw [e6]; rfl
    · rw [List.getElem?_eq_none (by omega), List.getElem?_eq_none (by simp; omega)]
  rw [this]
end Go.Proofs.Ytgladmaagpcffaa
