/- Each operation of the calculus is the model's (2). -/
import Derived.Test.YtgladmaagpcffaaVc
set_option linter.unusedSimpArgs false
set_option linter.unusedVariables false
namespace Go.Proofs.Ytgladmaagpcffaa
section
variable {P : Program} {ρ : Operand → Value} {h : Heap} {K : Value → Heap → Prop}

/-! ### parts laid into rows -/
theorem putCells_eq (vs : List Value) : ∀ (cs : List Value) (off : Nat),
    (vs.zipIdx).foldl (fun (a : Array Value) (x : Value × Nat) => a.setIfInBounds (off + x.2) x.1) cs.toArray = (putCells cs off vs).toArray := by
  have key : ∀ (vs : List Value) (k : Nat) (cs : List Value) (off : Nat),
      (vs.zipIdx k).foldl (fun (a : Array Value) (x : Value × Nat) => a.setIfInBounds (off + x.2) x.1) cs.toArray = (putCells cs (off + k) vs).toArray := by
    intro vs
    induction vs with
    | nil => intro k cs off; rfl
    | cons v vs ih =>
      intro k cs off
      simp only [List.zipIdx_cons, List.foldl_cons, putCells, List.setIfInBounds_toArray]
      rw [ih (k + 1)]; rfl
  intro cs off; exact key vs 0 cs off
theorem fillH_fill {place : Nat → Option (Nat × TypeId)} (parts : List (Nat × Value)) : ∀ (cells : List Value) (F : List Value → Prop),
    fillH P place cells parts F → ∃ cs : List Value, Instr.fill (fun i => (place i).map fun x => (x.1, siz P x.2)) cells.toArray parts = some cs.toArray ∧ F cs := by
  induction parts with
  | nil => intro cells F H; exact ⟨cells, rfl, H⟩
  | cons p rest ih =>
    obtain ⟨i, v⟩ := p
    intro cells F H
    unfold fillH at H
    split at H
    · exact H.elim
    · rename_i off t hp1
      have H := cellsT_out H
      split at H
      · rename_i hs
        obtain ⟨cs, h1, h2⟩ := ih _ _ H
        refine ⟨cs, ?_, h2⟩
        unfold Instr.fill
        simp only [hp1, Option.map_some]
        have hs1 : v.cells.size = siz P t := by simpa using hs.1
        rw [if_neg (by simp [hs1]; omega)]
        rw [← h1]
        congr 1
        have := putCells_eq v.cells.toList cells off
        rw [← this]
        rw [← Array.foldl_toList]
        simp [Array.toList_zipIdx]
      · exact H.elim
theorem fill_congr {f g : Nat → Option (Nat × Nat)} (parts : List (Nat × Value)) : ∀ (cells : Array Value), (∀ i, f i = g i) → Instr.fill f cells parts = Instr.fill g cells parts := by
  intro cells hfg; rw [funext hfg]

theorem zcells_eq {t : TypeId} {z : Value} (hz : zer P t = some z) : (zcells P t).toArray = z.cells := by
  unfold zcells; rw [hz]; cases z <;> simp [Value.cells]
theorem rep_eq (z : List Value) (n : Nat) (hz : 0 < z.length) :
    (Array.range (n * z.length)).map (fun i => z.toArray[i % z.toArray.size]!) = ((List.replicate n z).flatten).toArray := by
  apply Array.toList_inj.1
  simp only [Array.toList_map, Array.toList_range, List.size_toArray]
  induction n with
  | zero => simp
  | succ n ih =>
    rw [Nat.succ_mul, List.range_add, List.map_append, ih, List.replicate_succ', List.flatten_append]
    congr 1
    simp only [List.map_map, List.flatten_cons, List.flatten_nil, List.append_nil]
    apply List.ext_getElem (by simp)
    intro i h1 h2
    simp at h1
    simp [Nat.mul_add_mod_of_lt, Nat.mod_eq_of_lt h1, h1, Nat.mul_comm n]
theorem zer_some {t : TypeId} (hz : (zer P t).isSome = true) : ∃ z, zer P t = some z := Option.isSome_iff_exists.1 hz

/-! ### numbers -/
theorem hp_intOp {k : IntKind} {op : BinOp} {a b : Int} (H : intOp k op a b fun v => K v h) (hs : op ≠ .shl ∧ op ≠ .shr) :
    hp P (binOp op 0 (.int k a) (.int k b)) K h := by
  cases op <;> simp only [intOp, binOp, Op.intArith, Op.intDiv, Op.intBits, Op.intCmp, ne_eq, not_true, if_false] at H ⊢ <;> first
    | exact H
    | (rw [if_neg H.1]; exact H.2)
    | exact H.elim
    | (exact absurd rfl hs.1)
    | (exact absurd rfl hs.2)
theorem binOp_int {k : IntKind} {op : BinOp} {a b : Int} (t : TypeId) (hs : op ≠ .shl ∧ op ≠ .shr) : binOp op t (.int k a) (.int k b) = binOp op 0 (.int k a) (.int k b) := by
  cases op <;> first | rfl | exact absurd rfl hs.1 | exact absurd rfl hs.2
end
end Go.Proofs.Ytgladmaagpcffaa
