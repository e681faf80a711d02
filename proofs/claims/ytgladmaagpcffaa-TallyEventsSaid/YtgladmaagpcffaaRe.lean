/- Rows: an argument that is a slice of rows of layer 40. -/
import Derived.Test.YtgladmaagpcffaaR
import Derived.Test.YtgladmaagpcffaaYf
namespace Go.Proofs.Ytgladmaagpcffaa
open Go.ChangeShapes Go.WideShapes Go.ChangeAt Go.RowKit
set_option linter.unusedVariables false
set_option linter.unusedSimpArgs false
set_option maxRecDepth 20000
theorem trod_field7 {H : Type} {enc : TypeId × Value → H} {P : Program} {W : World} {base : Nat} {spare : Nat → Bool} {held : Bool} {fuel : Nat} {t : TypeId} {cs : List Value} {x : DataW H × List MemPlace} {fs : Array Field} (ht : P.underlying t = some (.struct fs))
    (h : DataW.trod enc P W base spare held fuel t cs = some x) (i : Nat) (f : Field) (hf : fs[i]? = some f) : ∃ n y, DataW.trod enc P W base spare held n f.type ((cs.drop f.offset).take (P.cellsOf f.type)) = some y := by
  obtain ⟨xs, n, _, _, _, hlen, hfl⟩ := DataW.trod_struct ht h
  have hi : i < xs.length := by rw [hlen]; exact (Array.getElem?_eq_some_iff.1 hf).1
  exact ⟨n, xs[i], by rw [hfl i f hf, List.getElem?_eq_getElem hi]⟩
theorem trod_len7 {H : Type} {enc : TypeId × Value → H} {P : Program} {W : World} {base : Nat} {spare : Nat → Bool} {held : Bool} {fuel : Nat} {t : TypeId} {cs : List Value} {x : DataW H × List MemPlace} {fs : Array Field} (ht : P.underlying t = some (.struct fs))
    (h : DataW.trod enc P W base spare held fuel t cs = some x) : cs.length = P.cellsOf t := by
  obtain ⟨xs, n, _, _, hl, _, _⟩ := DataW.trod_struct ht h
  exact hl
theorem cellsOf_int7 : Program.cellsOf Try.prog 3 = 1 := by kernel_rfl
theorem cellsOf_row7 : Program.cellsOf Try.prog 72 = 7 := by kernel_rfl
theorem row_cells {H : Type} {enc : TypeId × Value → H} {W : World} {base : Nat} {spare : Nat → Bool} {held : Bool} {fuel : Nat} {cs : List Value} {x : DataW H × List MemPlace}
    (h : DataW.trod enc Try.prog W base spare held fuel 72 cs = some x) : ∃ e : Ro, cs = e.cells := by
  have hl := trod_len7 Try.underlying72 h
  rw [cellsOf_row7] at hl
  obtain ⟨_, _, e0⟩ := trod_field7 Try.underlying72 h 0 _ rfl
  obtain ⟨_, _, e1⟩ := trod_field7 Try.underlying72 h 1 _ rfl
  obtain ⟨_, _, e2⟩ := trod_field7 Try.underlying72 h 2 _ rfl
  obtain ⟨_, _, e3⟩ := trod_field7 Try.underlying72 h 3 _ rfl
  obtain ⟨_, _, e4⟩ := trod_field7 Try.underlying72 h 4 _ rfl
  obtain ⟨_, _, e5⟩ := trod_field7 Try.underlying72 h 5 _ rfl
  obtain ⟨_, _, e6⟩ := trod_field7 Try.underlying72 h 6 _ rfl
  obtain ⟨n0, u0, _, _⟩ := DataW.trod_int Try.underlying3 e0
  obtain ⟨n1, u1, _, _⟩ := DataW.trod_int Try.underlying3 e1
  obtain ⟨n2, u2, _, _⟩ := DataW.trod_int Try.underlying3 e2
  obtain ⟨n3, u3, _, _⟩ := DataW.trod_int Try.underlying3 e3
  obtain ⟨n4, u4, _, _⟩ := DataW.trod_int Try.underlying3 e4
  obtain ⟨n5, u5, _, _⟩ := DataW.trod_int Try.underlying3 e5
  obtain ⟨n6, u6, _, _⟩ := DataW.trod_int Try.underlying3 e6
  have q0 : (cs.drop 0).take (Program.cellsOf Try.prog 3) = [.int .i64 n0] := u0
  have q1 : (cs.drop 1).take (Program.cellsOf Try.prog 3) = [.int .i64 n1] := u1
  have q2 : (cs.drop 2).take (Program.cellsOf Try.prog 3) = [.int .i64 n2] := u2
  have q3 : (cs.drop 3).take (Program.cellsOf Try.prog 3) = [.int .i64 n3] := u3
  have q4 : (cs.drop 4).take (Program.cellsOf Try.prog 3) = [.int .i64 n4] := u4
  have q5 : (cs.drop 5).take (Program.cellsOf Try.prog 3) = [.int .i64 n5] := u5
  have q6 : (cs.drop 6).take (Program.cellsOf Try.prog 3) = [.int .i64 n6] := u6
  rw [cellsOf_int7] at q0 q1 q2 q3 q4 q5 q6
  refine ⟨⟨n0, n1, n2, n3, n4, n5, n6⟩, ?_⟩
  rcases cs with _ | ⟨c0, cs⟩; · simp at hl
  rcases cs with _ | ⟨c1, cs⟩; · simp at hl
  rcases cs with _ | ⟨c2, cs⟩; · simp at hl
  rcases cs with _ | ⟨c3, cs⟩; · simp at hl
  rcases cs with _ | ⟨c4, cs⟩; · simp at hl
  rcases cs with _ | ⟨c5, cs⟩; · simp at hl
  rcases cs with _ | ⟨c6, cs⟩; · simp at hl
  rcases cs with _ | ⟨c7, cs⟩
  · simp at q0 q1 q2 q3 q4 q5 q6
    rw [q0, q1, q2, q3, q4, q5, q6]
  · simp at hl
theorem arg_rows7 {H : Type} {enc : TypeId × Value → H} {W : World} {d : DataW H} {ps : List MemPlace} {a : Option Addr} {l c : Nat}
    (h : DataW.Trod enc Try.prog W 0 (fun _ => true) true 70 (.slice a l c) d ps) : ∃ es : List Ro, RS W.heap a l c es := by
  obtain ⟨fuel, hf⟩ := h
  rcases DataW.trod_slice Try.underlying70 hf with ⟨hcs, _⟩ | ⟨x, l1, c1, elems, rest, n, _, hcs, _, _, hl, hm, hlen, hel, _, _⟩
  · simp [Value.cells] at hcs
    obtain ⟨rfl, rfl, rfl⟩ := hcs
    exact ⟨[], ⟨Sees.nil _ _, rfl, Nat.le_refl _⟩⟩
  · simp [Value.cells] at hcs
    obtain ⟨rfl, rfl, rfl⟩ := hcs
    have each : ∀ i, i < l → ∃ e : Ro, ∀ j v, e.cells[j]? = some v → cellAt W.heap (x.add (i * 7 + j)) = some v := by
      intro i hi
      have := hel i hi
      rw [List.getElem?_eq_getElem (by omega), Option.bind_eq_some_iff] at this
      obtain ⟨cs, h1, h2⟩ := this
      obtain ⟨e, rfl⟩ := row_cells h2
      obtain ⟨_, h3, h4⟩ := World.cells?_some h1
      refine ⟨e, fun j v hv => ?_⟩
      have hj : j < 7 := (List.getElem?_eq_some_iff.1 hv).1
      rw [cellsOf_row7] at h1 h4
      have h5 := h4 j (by omega)
      rw [hv, add_add] at h5
      exact h5
    have pick : ∀ m, m ≤ l → ∃ es : List Ro, es.length = m ∧ ∀ i (hi : i < es.length), ∀ j v, (es[i]).cells[j]? = some v → cellAt W.heap (x.add (i * 7 + j)) = some v := by
      intro m
      induction m with
      | zero => intro _; exact ⟨[], rfl, fun i hi => by simp at hi⟩
      | succ m ih =>
        intro hm
        obtain ⟨es, h1, h2⟩ := ih (by omega)
        obtain ⟨e, he⟩ := each m (by omega)
        refine ⟨es ++ [e], by simp [h1], fun i hi j v hv => ?_⟩
        by_cases e : i < es.length
        · rw [List.getElem_append_left e] at hv
          exact h2 i e j v hv
        · have : i = m := by simp at hi; omega
          subst this
          rw [List.getElem_append_right (by omega)] at hv
          simp only [h1, Nat.sub_self, List.getElem_singleton] at hv
          exact he j v hv
    obtain ⟨es, h1, h2⟩ := pick l (Nat.le_refl _)
    refine ⟨es, ⟨?_, h1, hl⟩⟩
    intro q v hq
    have hqlt : q < es.length * 7 := by rw [← flat7_len]; exact (List.getElem?_eq_some_iff.1 hq).1
    have hi : q / 7 < es.length := by omega
    have e := flat7_get hi (j := q % 7) (by omega)
    rw [show q / 7 * 7 + q % 7 = q by omega, hq] at e
    have := h2 (q / 7) hi (q % 7) v e.symm
    rw [show q / 7 * 7 + q % 7 = q by omega] at this
    exact ⟨x, rfl, this⟩
end Go.Proofs.Ytgladmaagpcffaa
