/- Rows: arguments that are rows of rows of numbers, and entries. -/
import Derived.Test.YtgladmaagpcffaaR
import Derived.Test.YtgladmaagpcffaaEe
namespace Go.Proofs.Ytgladmaagpcffaa
open Go.ChangeShapes Go.WideShapes Go.ChangeAt Go.RowKit
set_option linter.unusedVariables false
set_option linter.unusedSimpArgs false
set_option maxRecDepth 20000
theorem trod_u64s {H : Type} {enc : TypeId × Value → H} {W : World} {fuel : Nat} {cs : List Value} {y : DataW H × List MemPlace}
    (hf : DataW.trod enc Try.prog W 0 (fun _ => true) true fuel 83 cs = some y) : ∃ a l c, cs = [.slice a l c] ∧ ∃ xs : List Int, RU W.heap a l c xs := by
  rcases open_ints Try.underlying83 Try.underlying76 (by kernel_rfl) hf with ⟨hcs, _⟩ | ⟨x, l1, c1, zs, hcs, _, hl, hm, hz, _, hcell, hwz⟩
  · exact ⟨_, _, _, hcs, [], RU.none _⟩
  · refine ⟨_, _, _, hcs, zs.take l1, ?_, ?_, hl⟩
    · intro i v hi
      have hz' : zs.length = c1 := by simpa using hz
      simp only [List.getElem?_map, List.getElem?_take] at hi
      split at hi
      · rename_i hil
        have hlt : i < zs.length := by omega
        rw [List.getElem?_eq_getElem hlt] at hi
        simp only [Option.map_some, Option.some.injEq] at hi
        subst hi
        have := hcell i hlt
        rw [List.getD_eq_getElem?_getD, List.getElem?_eq_getElem hlt] at this
        exact ⟨x, rfl, this⟩
      · simp at hi
    · have hz' : zs.length = c1 := by simpa using hz
      simp; omega
theorem cellsOf_u64s : Program.cellsOf Try.prog 83 = 1 := by kernel_rfl
theorem arg_rows {H : Type} {enc : TypeId × Value → H} {W : World} {d : DataW H} {ps : List MemPlace} {a : Option Addr} {l c : Nat}
    (h : DataW.Trod enc Try.prog W 0 (fun _ => true) true 81 (.slice a l c) d ps) : ∃ vs rows, RV0 W.heap a l c vs rows := by
  obtain ⟨fuel, hf⟩ := h
  rcases DataW.trod_slice Try.underlying81 hf with ⟨hcs, _⟩ | ⟨x, l1, c1, elems, rest, n, _, hcs, _, _, hl, hm, hlen, hel, _, _⟩
  · simp [Value.cells] at hcs
    obtain ⟨rfl, rfl, rfl⟩ := hcs
    exact ⟨[], [], Sees.nil _ _, rfl, rfl, Nat.le_refl _, fun i hi => by simp at hi⟩
  · simp [Value.cells] at hcs
    obtain ⟨rfl, rfl, rfl⟩ := hcs
    have each : ∀ i, i < l → ∃ ai li ci xs, cellAt W.heap (x.add i) = some (.slice ai li ci) ∧ RU W.heap ai li ci xs := by
      intro i hi
      have := hel i hi
      rw [List.getElem?_eq_getElem (by omega), Option.bind_eq_some_iff] at this
      obtain ⟨cs, h1, h2⟩ := this
      obtain ⟨ai, li, ci, rfl, xs, hx⟩ := trod_u64s h2
      rw [cellsOf_u64s, Nat.mul_one] at h1
      obtain ⟨_, _, h4⟩ := World.cells?_some h1
      have h5 := h4 0 (by omega)
      exact ⟨ai, li, ci, xs, h5, hx⟩
    have pick : ∀ m, m ≤ l → ∃ (vs : List Value) (rows : List (List Int)), vs.length = m ∧ rows.length = m ∧ ∀ i (hi : i < rows.length), ∃ ai li ci, vs[i]? = some (.slice ai li ci) ∧ cellAt W.heap (x.add i) = some (.slice ai li ci) ∧ RU W.heap ai li ci rows[i] := by
      intro m
      induction m with
      | zero => intro _; exact ⟨[], [], rfl, rfl, fun i hi => by simp at hi⟩
      | succ m ih =>
        intro hm
        obtain ⟨vs, rows, h1, h2, h3⟩ := ih (by omega)
        obtain ⟨ai, li, ci, xs, e1, e2⟩ := each m (by omega)
        refine ⟨vs ++ [.slice ai li ci], rows ++ [xs], by simp [h1], by simp [h2], fun i hi => ?_⟩
        by_cases e : i < rows.length
        · obtain ⟨ai', li', ci', q1, q2, q3⟩ := h3 i e
          refine ⟨ai', li', ci', ?_, q2, ?_⟩
          · rw [List.getElem?_append_left (by omega)]; exact q1
          · rw [List.getElem_append_left e]; exact q3
        · have : i = m := by simp at hi; omega
          subst this
          refine ⟨ai, li, ci, ?_, e1, ?_⟩
          · rw [List.getElem?_append_right (by omega)]; simp [h1]
          · rw [List.getElem_append_right (by omega)]; simpa [h2] using e2
    obtain ⟨vs, rows, h1, h2, h3⟩ := pick l (Nat.le_refl _)
    refine ⟨vs, rows, ?_, h1, h2, hl, fun i hi => ?_⟩
    · intro i v hv
      have hi : i < rows.length := by have := (List.getElem?_eq_some_iff.1 hv).1; omega
      obtain ⟨ai, li, ci, q1, q2, _⟩ := h3 i hi
      rw [hv] at q1; cases q1
      exact ⟨x, rfl, q2⟩
    · obtain ⟨ai, li, ci, q1, _, q3⟩ := h3 i hi
      exact ⟨ai, li, ci, q1, q3⟩

theorem trod_field' {H : Type} {enc : TypeId × Value → H} {P : Program} {W : World} {base : Nat} {spare : Nat → Bool} {held : Bool} {fuel : Nat} {t : TypeId} {cs : List Value} {x : DataW H × List MemPlace} {fs : Array Field} (ht : P.underlying t = some (.struct fs))
    (h : DataW.trod enc P W base spare held fuel t cs = some x) (i : Nat) (f : Field) (hf : fs[i]? = some f) : ∃ n y, DataW.trod enc P W base spare held n f.type ((cs.drop f.offset).take (P.cellsOf f.type)) = some y := by
  obtain ⟨xs, n, _, _, _, hlen, hfl⟩ := DataW.trod_struct ht h
  have hi : i < xs.length := by rw [hlen]; exact (Array.getElem?_eq_some_iff.1 hf).1
  exact ⟨n, xs[i], by rw [hfl i f hf, List.getElem?_eq_getElem hi]⟩
theorem trod_len' {H : Type} {enc : TypeId × Value → H} {P : Program} {W : World} {base : Nat} {spare : Nat → Bool} {held : Bool} {fuel : Nat} {t : TypeId} {cs : List Value} {x : DataW H × List MemPlace} {fs : Array Field} (ht : P.underlying t = some (.struct fs))
    (h : DataW.trod enc P W base spare held fuel t cs = some x) : cs.length = P.cellsOf t := by
  obtain ⟨xs, n, _, _, hl, _, _⟩ := DataW.trod_struct ht h
  exact hl
theorem cellsOf_int' : Program.cellsOf Try.prog 3 = 1 := by kernel_rfl
theorem cellsOf_u64' : Program.cellsOf Try.prog 76 = 1 := by kernel_rfl
theorem cellsOf_ent : Program.cellsOf Try.prog 97 = 2 := by kernel_rfl
theorem ent_cells {H : Type} {enc : TypeId × Value → H} {W : World} {base : Nat} {spare : Nat → Bool} {held : Bool} {fuel : Nat} {cs : List Value} {x : DataW H × List MemPlace}
    (h : DataW.trod enc Try.prog W base spare held fuel 97 cs = some x) : ∃ e : Ent, cs = e.cells := by
  have hl := trod_len' Try.underlying97 h
  rw [cellsOf_ent] at hl
  obtain ⟨_, _, e0⟩ := trod_field' Try.underlying97 h 0 _ rfl
  obtain ⟨_, _, e1⟩ := trod_field' Try.underlying97 h 1 _ rfl
  obtain ⟨n0, u0, _, _⟩ := DataW.trod_int Try.underlying76 e0
  obtain ⟨n1, u1, _, _⟩ := DataW.trod_int Try.underlying3 e1
  have q0 : (cs.drop 0).take (Program.cellsOf Try.prog 76) = [.int .u64 n0] := u0
  have q1 : (cs.drop 1).take (Program.cellsOf Try.prog 3) = [.int .i64 n1] := u1
  rw [cellsOf_u64'] at q0
  rw [cellsOf_int'] at q1
  refine ⟨⟨n0, n1⟩, ?_⟩
  rcases cs with _ | ⟨c0, cs⟩; · simp at hl
  rcases cs with _ | ⟨c1, cs⟩; · simp at hl
  rcases cs with _ | ⟨c2, cs⟩
  · simp at q0 q1
    rw [q0, q1]
  · simp at hl
theorem arg_ents {H : Type} {enc : TypeId × Value → H} {W : World} {d : DataW H} {ps : List MemPlace} {a : Option Addr} {l c : Nat}
    (h : DataW.Trod enc Try.prog W 0 (fun _ => true) true 80 (.slice a l c) d ps) : ∃ es : List Ent, SE W.heap a l c es := by
  obtain ⟨fuel, hf⟩ := h
  rcases DataW.trod_slice Try.underlying80 hf with ⟨hcs, _⟩ | ⟨x, l1, c1, elems, rest, n, _, hcs, _, _, hl, hm, hlen, hel, _, _⟩
  · simp [Value.cells] at hcs
    obtain ⟨rfl, rfl, rfl⟩ := hcs
    exact ⟨[], ⟨Sees.nil _ _, rfl, Nat.le_refl _⟩⟩
  · simp [Value.cells] at hcs
    obtain ⟨rfl, rfl, rfl⟩ := hcs
    have each : ∀ i, i < l → ∃ e : Ent, ∀ j v, e.cells[j]? = some v → cellAt W.heap (x.add (i * 2 + j)) = some v := by
      intro i hi
      have := hel i hi
      rw [List.getElem?_eq_getElem (by omega), Option.bind_eq_some_iff] at this
      obtain ⟨cs, h1, h2⟩ := this
      obtain ⟨e, rfl⟩ := ent_cells h2
      obtain ⟨_, h3, h4⟩ := World.cells?_some h1
      refine ⟨e, fun j v hv => ?_⟩
      have hj : j < 2 := (List.getElem?_eq_some_iff.1 hv).1
      rw [cellsOf_ent] at h1 h4
      have h5 := h4 j (by omega)
      rw [hv, add_add] at h5
      exact h5
    have pick : ∀ m, m ≤ l → ∃ es : List Ent, es.length = m ∧ ∀ i (hi : i < es.length), ∀ j v, (es[i]).cells[j]? = some v → cellAt W.heap (x.add (i * 2 + j)) = some v := by
      intro m
      induction m with
      | zero => intro _; exact ⟨[], rfl, fun i hi => by simp at hi⟩
      | succ m ih =>
        intro hm
        obtain ⟨es, h1, h2⟩ := ih (by omega)
        obtain ⟨e, he⟩ := each m (by omega)
        refine ⟨es ++ [e], by simp [h1], fun i hi j v hv => ?_⟩
        by_cases e : i < es.length
        · rw [List.getElem_append_left e] at hv
          exact h2 i e j v hv
        · have : i = m := by simp at hi; omega
          subst this
          rw [List.getElem_append_right (by omega)] at hv
          simp only [h1, Nat.sub_self, List.getElem_singleton] at hv
          exact he j v hv
    obtain ⟨es, h1, h2⟩ := pick l (Nat.le_refl _)
    refine ⟨es, ⟨?_, h1, hl⟩⟩
    intro q v hq
    have hqlt : q < es.length * 2 := by rw [← flatE_len]; exact (List.getElem?_eq_some_iff.1 hq).1
    have hi : q / 2 < es.length := by omega
    have e := flatE_get hi (j := q % 2) (by omega)
    rw [show q / 2 * 2 + q % 2 = q by omega, hq] at e
    have := h2 (q / 2) hi (q % 2) v e.symm
    rw [show q / 2 * 2 + q % 2 = q by omega] at this
    exact ⟨x, rfl, this⟩
end Go.Proofs.Ytgladmaagpcffaa
