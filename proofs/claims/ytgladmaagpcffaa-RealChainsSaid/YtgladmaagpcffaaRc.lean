/- Rows: an argument that is a slice of operations. -/
import Derived.Test.YtgladmaagpcffaaR
import Derived.Test.YtgladmaagpcffaaOa
namespace Go.Proofs.Ytgladmaagpcffaa
open Go.ChangeShapes Go.WideShapes Go.ChangeAt Go.RowKit
set_option linter.unusedVariables false
set_option linter.unusedSimpArgs false
set_option maxRecDepth 20000
/-- A struct's field. -/
theorem trod_field {H : Type} {enc : TypeId × Value → H} {P : Program} {W : World} {base : Nat} {spare : Nat → Bool} {held : Bool} {fuel : Nat} {t : TypeId} {cs : List Value} {x : DataW H × List MemPlace} {fs : Array Field} (ht : P.underlying t = some (.struct fs))
    (h : DataW.trod enc P W base spare held fuel t cs = some x) (i : Nat) (f : Field) (hf : fs[i]? = some f) : ∃ n y, DataW.trod enc P W base spare held n f.type ((cs.drop f.offset).take (P.cellsOf f.type)) = some y := by
  obtain ⟨xs, n, _, _, _, hlen, hfl⟩ := DataW.trod_struct ht h
  have hi : i < xs.length := by rw [hlen]; exact (Array.getElem?_eq_some_iff.1 hf).1
  exact ⟨n, xs[i], by rw [hfl i f hf, List.getElem?_eq_getElem hi]⟩
theorem trod_len {H : Type} {enc : TypeId × Value → H} {P : Program} {W : World} {base : Nat} {spare : Nat → Bool} {held : Bool} {fuel : Nat} {t : TypeId} {cs : List Value} {x : DataW H × List MemPlace} {fs : Array Field} (ht : P.underlying t = some (.struct fs))
    (h : DataW.trod enc P W base spare held fuel t cs = some x) : cs.length = P.cellsOf t := by
  obtain ⟨xs, n, _, _, hl, _, _⟩ := DataW.trod_struct ht h
  exact hl
theorem cellsOf_int : Program.cellsOf Try.prog 3 = 1 := by kernel_rfl
theorem cellsOf_u32 : Program.cellsOf Try.prog 55 = 1 := by kernel_rfl
theorem cellsOf_call : Program.cellsOf Try.prog 57 = 3 := by kernel_rfl
theorem cellsOf_answer : Program.cellsOf Try.prog 59 = 3 := by kernel_rfl
theorem cellsOf_oper : Program.cellsOf Try.prog 61 = 9 := by kernel_rfl
theorem oper_cells {H : Type} {enc : TypeId × Value → H} {W : World} {base : Nat} {spare : Nat → Bool} {held : Bool} {fuel : Nat} {cs : List Value} {x : DataW H × List MemPlace}
    (h : DataW.trod enc Try.prog W base spare held fuel 61 cs = some x) : ∃ o : Op9, cs = o.cells := by
  have hl := trod_len Try.underlying61 h
  rw [cellsOf_oper] at hl
  obtain ⟨_, _, e0⟩ := trod_field Try.underlying61 h 0 _ rfl
  obtain ⟨_, _, e1⟩ := trod_field Try.underlying61 h 1 _ rfl
  obtain ⟨_, _, e2⟩ := trod_field Try.underlying61 h 2 _ rfl
  obtain ⟨_, _, e3⟩ := trod_field Try.underlying61 h 3 _ rfl
  obtain ⟨_, _, e4⟩ := trod_field Try.underlying61 h 4 _ rfl
  obtain ⟨_, _, f0⟩ := trod_field Try.underlying57 e1 0 _ rfl
  obtain ⟨_, _, f1⟩ := trod_field Try.underlying57 e1 1 _ rfl
  obtain ⟨_, _, f2⟩ := trod_field Try.underlying57 e1 2 _ rfl
  obtain ⟨_, _, g0⟩ := trod_field Try.underlying59 e2 0 _ rfl
  obtain ⟨_, _, g1⟩ := trod_field Try.underlying59 e2 1 _ rfl
  obtain ⟨_, _, g2⟩ := trod_field Try.underlying59 e2 2 _ rfl
  obtain ⟨n0, u0, _, _⟩ := DataW.trod_int Try.underlying3 e0
  obtain ⟨n1, u1, _, _⟩ := DataW.trod_int Try.underlying3 f0
  obtain ⟨n2, u2, _, _⟩ := DataW.trod_int Try.underlying55 f1
  obtain ⟨n3, u3, _, _⟩ := DataW.trod_int Try.underlying55 f2
  obtain ⟨n4, u4, _, _⟩ := DataW.trod_int Try.underlying3 g0
  obtain ⟨n5, u5, _, _⟩ := DataW.trod_int Try.underlying55 g1
  obtain ⟨n6, u6, _, _⟩ := DataW.trod_int Try.underlying55 g2
  obtain ⟨n7, u7, _, _⟩ := DataW.trod_int Try.underlying3 e3
  obtain ⟨n8, u8, _, _⟩ := DataW.trod_int Try.underlying3 e4
  have q0 : (cs.drop 0).take (Program.cellsOf Try.prog 3) = [.int .i64 n0] := u0
  have q1 : (((cs.drop 1).take (Program.cellsOf Try.prog 57)).drop 0).take (Program.cellsOf Try.prog 3) = [.int .i64 n1] := u1
  have q2 : (((cs.drop 1).take (Program.cellsOf Try.prog 57)).drop 1).take (Program.cellsOf Try.prog 55) = [.int .u32 n2] := u2
  have q3 : (((cs.drop 1).take (Program.cellsOf Try.prog 57)).drop 2).take (Program.cellsOf Try.prog 55) = [.int .u32 n3] := u3
  have q4 : (((cs.drop 4).take (Program.cellsOf Try.prog 59)).drop 0).take (Program.cellsOf Try.prog 3) = [.int .i64 n4] := u4
  have q5 : (((cs.drop 4).take (Program.cellsOf Try.prog 59)).drop 1).take (Program.cellsOf Try.prog 55) = [.int .u32 n5] := u5
  have q6 : (((cs.drop 4).take (Program.cellsOf Try.prog 59)).drop 2).take (Program.cellsOf Try.prog 55) = [.int .u32 n6] := u6
  have q7 : (cs.drop 7).take (Program.cellsOf Try.prog 3) = [.int .i64 n7] := u7
  have q8 : (cs.drop 8).take (Program.cellsOf Try.prog 3) = [.int .i64 n8] := u8
  rw [cellsOf_int] at q0 q7 q8
  rw [cellsOf_call, cellsOf_int] at q1
  rw [cellsOf_call, cellsOf_u32] at q2 q3
  rw [cellsOf_answer, cellsOf_int] at q4
  rw [cellsOf_answer, cellsOf_u32] at q5 q6
  refine ⟨⟨n0, n1, n2, n3, n4, n5, n6, n7, n8⟩, ?_⟩
  rcases cs with _ | ⟨c0, cs⟩; · simp at hl
  rcases cs with _ | ⟨c1, cs⟩; · simp at hl
  rcases cs with _ | ⟨c2, cs⟩; · simp at hl
  rcases cs with _ | ⟨c3, cs⟩; · simp at hl
  rcases cs with _ | ⟨c4, cs⟩; · simp at hl
  rcases cs with _ | ⟨c5, cs⟩; · simp at hl
  rcases cs with _ | ⟨c6, cs⟩; · simp at hl
  rcases cs with _ | ⟨c7, cs⟩; · simp at hl
  rcases cs with _ | ⟨c8, cs⟩; · simp at hl
  rcases cs with _ | ⟨c9, cs⟩
  · simp at q0 q1 q2 q3 q4 q5 q6 q7 q8
    rw [q0, q1, q2, q3, q4, q5, q6, q7, q8]
  · simp at hl

theorem arg_opers {H : Type} {enc : TypeId × Value → H} {W : World} {d : DataW H} {ps : List MemPlace} {a : Option Addr} {l c : Nat}
    (h : DataW.Trod enc Try.prog W 0 (fun _ => true) true 53 (.slice a l c) d ps) : ∃ ops : List Op9, SlO W.heap a l c ops := by
  obtain ⟨fuel, hf⟩ := h
  rcases DataW.trod_slice Try.underlying53 hf with ⟨hcs, _⟩ | ⟨x, l1, c1, elems, rest, n, _, hcs, _, _, hl, hm, hlen, hel, _, _⟩
  · simp [Value.cells] at hcs
    obtain ⟨rfl, rfl, rfl⟩ := hcs
    exact ⟨[], ⟨Sees.nil _ _, rfl, Nat.le_refl _⟩⟩
  · simp [Value.cells] at hcs
    obtain ⟨rfl, rfl, rfl⟩ := hcs
    have each : ∀ i, i < l → ∃ o : Op9, ∀ j v, o.cells[j]? = some v → cellAt W.heap (x.add (i * 9 + j)) = some v := by
      intro i hi
      have := hel i hi
      rw [List.getElem?_eq_getElem (by omega), Option.bind_eq_some_iff] at this
      obtain ⟨cs, h1, h2⟩ := this
      obtain ⟨o, rfl⟩ := oper_cells h2
      obtain ⟨_, h3, h4⟩ := World.cells?_some h1
      refine ⟨o, fun j v hv => ?_⟩
      have hj : j < 9 := (List.getElem?_eq_some_iff.1 hv).1
      rw [cellsOf_oper] at h1 h4
      have h5 := h4 j (by omega)
      rw [hv, add_add] at h5
      exact h5
    have pick : ∃ ops : List Op9, ops.length = l ∧ ∀ i (hi : i < ops.length), ∀ j v, (ops[i]).cells[j]? = some v → cellAt W.heap (x.add (i * 9 + j)) = some v := by
      have : ∀ m, m ≤ l → ∃ ops : List Op9, ops.length = m ∧ ∀ i (hi : i < ops.length), ∀ j v, (ops[i]).cells[j]? = some v → cellAt W.heap (x.add (i * 9 + j)) = some v := by
        intro m
        induction m with
        | zero => intro _; exact ⟨[], rfl, fun i hi => by simp at hi⟩
        | succ m ih =>
          intro hm
          obtain ⟨ops, h1, h2⟩ := ih (by omega)
          obtain ⟨o, ho⟩ := each m (by omega)
          refine ⟨ops ++ [o], by simp [h1], fun i hi j v hv => ?_⟩
          by_cases e : i < ops.length
          · rw [List.getElem_append_left e] at hv
            exact h2 i e j v hv
          · have : i = m := by simp at hi; omega
            subst this
            rw [List.getElem_append_right (by omega)] at hv
            simp only [h1, Nat.sub_self, List.getElem_singleton] at hv
            exact ho j v hv
      exact this l (Nat.le_refl _)
    obtain ⟨ops, h1, h2⟩ := pick
    refine ⟨ops, ⟨?_, h1, hl⟩⟩
    intro q v hq
    have hlen9 : ∀ L : List Op9, (L.flatMap Op9.cells).length = L.length * 9 := by
      intro L
      induction L with
      | nil => rfl
      | cons o L ih =>
        have h9 : o.cells.length = 9 := rfl
        rw [List.flatMap_cons, List.length_append, ih, h9, List.length_cons]; omega
    have hqlt : q < ops.length * 9 := by rw [← hlen9]; exact (List.getElem?_eq_some_iff.1 hq).1
    have hi : q / 9 < ops.length := by omega
    have hj : q % 9 < (ops[q / 9]).cells.length := by show q % 9 < 9; omega
    have e := flat9 hi (List.getElem?_eq_getElem hj)
    rw [show q / 9 * 9 + q % 9 = q by omega, hq] at e
    have := h2 (q / 9) hi (q % 9) v (by rw [e]; exact List.getElem?_eq_getElem hj)
    rw [show q / 9 * 9 + q % 9 = q by omega] at this
    exact ⟨x, rfl, this⟩
end Go.Proofs.Ytgladmaagpcffaa
