/- Rows: an argument that is a slice of events. -/
import Derived.Test.YtgladmaagpcffaaRe
import Derived.Test.YtgladmaagpcffaaZf
namespace Go.Proofs.Ytgladmaagpcffaa
open Go.ChangeShapes Go.WideShapes Go.ChangeAt Go.RowKit
set_option linter.unusedVariables false
set_option linter.unusedSimpArgs false
set_option maxRecDepth 20000
theorem cellsOf_ev8 : Program.cellsOf Try.prog 129 = 8 := by kernel_rfl
theorem cellsOf_b1 : Program.cellsOf Try.prog 4 = 1 := by kernel_rfl
theorem cellsOf_u32 : Program.cellsOf Try.prog 55 = 1 := by kernel_rfl
theorem cellsOf_call3 : Program.cellsOf Try.prog 57 = 3 := by kernel_rfl
theorem cellsOf_ans3 : Program.cellsOf Try.prog 59 = 3 := by kernel_rfl
theorem c3_cells {H : Type} {enc : TypeId × Value → H} {W : World} {base : Nat} {spare : Nat → Bool} {held : Bool} {fuel : Nat} {cs : List Value} {x : DataW H × List MemPlace} {t : TypeId} (ht : t = 57 ∨ t = 59)
    (h : DataW.trod enc Try.prog W base spare held fuel t cs = some x) : ∃ e : C3, cs = e.cells := by
  have key : ∀ (n0 n1 n2 : Int), cs.length = 3 → (cs.drop 0).take 1 = [.int .i64 n0] → (cs.drop 1).take 1 = [.int .u32 n1] → (cs.drop 2).take 1 = [.int .u32 n2] → ∃ e : C3, cs = e.cells := by
    intro n0 n1 n2 hl q0 q1 q2
    refine ⟨⟨n0, n1, n2⟩, ?_⟩
    rcases cs with _ | ⟨c0, cs⟩; · simp at hl
    rcases cs with _ | ⟨c1, cs⟩; · simp at hl
    rcases cs with _ | ⟨c2, cs⟩; · simp at hl
    rcases cs with _ | ⟨c3, cs⟩
    · simp at q0 q1 q2
      rw [q0, q1, q2]
    · simp at hl
  rcases ht with rfl | rfl
  · have hl := trod_len7 Try.underlying57 h
    rw [cellsOf_call3] at hl
    obtain ⟨_, _, e0⟩ := trod_field7 Try.underlying57 h 0 _ rfl
    obtain ⟨_, _, e1⟩ := trod_field7 Try.underlying57 h 1 _ rfl
    obtain ⟨_, _, e2⟩ := trod_field7 Try.underlying57 h 2 _ rfl
    obtain ⟨n0, u0, _, _⟩ := DataW.trod_int Try.underlying3 e0
    obtain ⟨n1, u1, _, _⟩ := DataW.trod_int Try.underlying55 e1
    obtain ⟨n2, u2, _, _⟩ := DataW.trod_int Try.underlying55 e2
    exact key n0 n1 n2 hl u0 u1 u2
  · have hl := trod_len7 Try.underlying59 h
    rw [cellsOf_ans3] at hl
    obtain ⟨_, _, e0⟩ := trod_field7 Try.underlying59 h 0 _ rfl
    obtain ⟨_, _, e1⟩ := trod_field7 Try.underlying59 h 1 _ rfl
    obtain ⟨_, _, e2⟩ := trod_field7 Try.underlying59 h 2 _ rfl
    obtain ⟨n0, u0, _, _⟩ := DataW.trod_int Try.underlying3 e0
    obtain ⟨n1, u1, _, _⟩ := DataW.trod_int Try.underlying55 e1
    obtain ⟨n2, u2, _, _⟩ := DataW.trod_int Try.underlying55 e2
    exact key n0 n1 n2 hl u0 u1 u2
theorem event_cells {H : Type} {enc : TypeId × Value → H} {W : World} {base : Nat} {spare : Nat → Bool} {held : Bool} {fuel : Nat} {cs : List Value} {x : DataW H × List MemPlace}
    (h : DataW.trod enc Try.prog W base spare held fuel 129 cs = some x) : ∃ e : Ev8, cs = e.cells := by
  have hl := trod_len7 Try.underlying129 h
  rw [cellsOf_ev8] at hl
  obtain ⟨_, _, e0⟩ := trod_field7 Try.underlying129 h 0 _ rfl
  obtain ⟨_, _, e1⟩ := trod_field7 Try.underlying129 h 1 _ rfl
  obtain ⟨_, _, e2⟩ := trod_field7 Try.underlying129 h 2 _ rfl
  obtain ⟨_, _, e3⟩ := trod_field7 Try.underlying129 h 3 _ rfl
  obtain ⟨n0, u0, _, _⟩ := DataW.trod_int Try.underlying3 e0
  obtain ⟨b1, u1, _⟩ := DataW.trod_bool Try.underlying4 e1
  obtain ⟨⟨c0, c1, c2⟩, u2⟩ := c3_cells (.inl rfl) e2
  obtain ⟨⟨a0, a1, a2⟩, u3⟩ := c3_cells (.inr rfl) e3
  have q0 : (cs.drop 0).take (Program.cellsOf Try.prog 3) = [.int .i64 n0] := u0
  have q1 : (cs.drop 1).take (Program.cellsOf Try.prog 4) = [.bool b1] := u1
  have q2 : (cs.drop 2).take (Program.cellsOf Try.prog 57) = [.int .i64 c0, .int .u32 c1, .int .u32 c2] := u2
  have q3 : (cs.drop 5).take (Program.cellsOf Try.prog 59) = [.int .i64 a0, .int .u32 a1, .int .u32 a2] := u3
  rw [cellsOf_int7] at q0
  rw [cellsOf_b1] at q1
  rw [cellsOf_call3] at q2
  rw [cellsOf_ans3] at q3
  refine ⟨⟨n0, b1, ⟨c0, c1, c2⟩, ⟨a0, a1, a2⟩⟩, ?_⟩
  rcases cs with _ | ⟨d0, cs⟩; · simp at hl
  rcases cs with _ | ⟨d1, cs⟩; · simp at hl
  rcases cs with _ | ⟨d2, cs⟩; · simp at hl
  rcases cs with _ | ⟨d3, cs⟩; · simp at hl
  rcases cs with _ | ⟨d4, cs⟩; · simp at hl
  rcases cs with _ | ⟨d5, cs⟩; · simp at hl
  rcases cs with _ | ⟨d6, cs⟩; · simp at hl
  rcases cs with _ | ⟨d7, cs⟩; · simp at hl
  rcases cs with _ | ⟨d8, cs⟩
  · simp at q0 q1 q2 q3
    obtain ⟨r0, r1, r2⟩ := q2
    obtain ⟨r3, r4, r5⟩ := q3
    rw [q0, q1, r0, r1, r2, r3, r4, r5]
  · simp at hl
theorem arg_events {H : Type} {enc : TypeId × Value → H} {W : World} {d : DataW H} {ps : List MemPlace} {a : Option Addr} {l c : Nat}
    (h : DataW.Trod enc Try.prog W 0 (fun _ => true) true 86 (.slice a l c) d ps) : ∃ es : List Ev8, SV W.heap a l c es := by
  obtain ⟨fuel, hf⟩ := h
  rcases DataW.trod_slice Try.underlying86 hf with ⟨hcs, _⟩ | ⟨x, l1, c1, elems, rest, n, _, hcs, _, _, hl, hm, hlen, hel, _, _⟩
  · simp [Value.cells] at hcs
    obtain ⟨rfl, rfl, rfl⟩ := hcs
    exact ⟨[], ⟨Sees.nil _ _, rfl, Nat.le_refl _⟩⟩
  · simp [Value.cells] at hcs
    obtain ⟨rfl, rfl, rfl⟩ := hcs
    have each : ∀ i, i < l → ∃ e : Ev8, ∀ j v, e.cells[j]? = some v → cellAt W.heap (x.add (i * 8 + j)) = some v := by
      intro i hi
      have := hel i hi
      rw [List.getElem?_eq_getElem (by omega), Option.bind_eq_some_iff] at this
      obtain ⟨cs, h1, h2⟩ := this
      obtain ⟨e, rfl⟩ := event_cells h2
      obtain ⟨_, h3, h4⟩ := World.cells?_some h1
      refine ⟨e, fun j v hv => ?_⟩
      have hj : j < 8 := (List.getElem?_eq_some_iff.1 hv).1
      rw [cellsOf_ev8] at h1 h4
      have h5 := h4 j (by omega)
      rw [hv, add_add] at h5
      exact h5
    have pick : ∀ m, m ≤ l → ∃ es : List Ev8, es.length = m ∧ ∀ i (hi : i < es.length), ∀ j v, (es[i]).cells[j]? = some v → cellAt W.heap (x.add (i * 8 + j)) = some v := by
      intro m
      induction m with
      | zero => intro _; exact ⟨[], rfl, fun i hi => by simp at hi⟩
      | succ m ih =>
        intro hm
        obtain ⟨es, h1, h2⟩ := ih (by omega)
        obtain ⟨e, he⟩ := each m (by omega)
        refine ⟨es ++ [e], by simp [h1], fun i hi j v hv => ?_⟩
        by_cases e : i < es.length
        · rw [List.getElem_append_left e] at hv
          exact h2 i e j v hv
        · have : i = m := by simp at hi; omega
          subst this
          rw [List.getElem_append_right (by omega)] at hv
          simp only [h1, Nat.sub_self, List.getElem_singleton] at hv
          exact he j v hv
    obtain ⟨es, h1, h2⟩ := pick l (Nat.le_refl _)
    refine ⟨es, ⟨?_, h1, hl⟩⟩
    intro q v hq
    have hqlt : q < es.length * 8 := by rw [← flat8_len]; exact (List.getElem?_eq_some_iff.1 hq).1
    have hi : q / 8 < es.length := by omega
    have e := flat8_get hi (j := q % 8) (by omega)
    rw [show q / 8 * 8 + q % 8 = q by omega, hq] at e
    have := h2 (q / 8) hi (q % 8) v e.symm
    rw [show q / 8 * 8 + q % 8 = q by omega] at this
    exact ⟨x, rfl, this⟩
end Go.Proofs.Ytgladmaagpcffaa
