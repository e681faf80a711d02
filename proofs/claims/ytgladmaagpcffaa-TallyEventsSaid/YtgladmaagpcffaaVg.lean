/- Each operation of the calculus is the model's (5): the whole. -/
import Derived.Test.YtgladmaagpcffaaVf
set_option linter.unusedSimpArgs false
set_option linter.unusedVariables false
namespace Go.Proofs.Ytgladmaagpcffaa
section
variable {P : Program} {ρ : Operand → Value} {h : Heap} {K : Value → Heap → Prop}

/-- What is asked behind an operation's run, in the world that it leaves. -/
def nxtW (P : Program) (K : Value → Heap → Prop) (h0 : World) : Next → World → Prop
  | .value v, w => K v w.heap ∧ Kw h0 w
  | .skip, w => K undefV w.heap ∧ Kw h0 w
  | .enter f args, w => CallsIn Fence.wide 0 P f args w (onH h0 K)
  | .round l f tmps assign body, w => RoundIn Fence.wide 0 P l f tmps assign body w (onH h0 K)
  | _, _ => False

def OpS (P : Program) (ρ : Operand → Value) (o : Oper) (h : Heap) (K : Value → Heap → Prop) : Prop :=
  ∀ w : World, w.heap = h → ∃ nx w', (execOp ρ o).run P w = .ok nx w' ∧ nxtW P K w nx w'

theorem onH_mono {h0 h1 : World} (hk : Kw h0 h1) : ∀ e w, onH h1 K e w → onH h0 K e w := by
  intro e w x
  cases e <;> first | exact x | exact ⟨x.1, hk.trans x.2⟩

theorem OpS_of_hp {o : Oper} (H : hp P (execOp ρ o) (nxt P K) h) : OpS P ρ o h K := by
  intro w hw
  obtain ⟨nx, w', h1, h2, h3⟩ := hp_run _ H w hw
  refine ⟨nx, w', h1, ?_⟩
  cases nx <;> first
    | exact ⟨h2, h3⟩
    | exact (h2 w' rfl).mono (onH_mono h3)
    | exact h2.elim

theorem hp_builtin {o : Oper} {b : Builtin} {args : Array Operand} {argTypes : Array TypeId} (ho : o.op = .call { callee := .builtin b, args, argTypes }) (s : Sem Value)
    (hb : ∀ consts, builtin b argTypes o.type consts (args.map ρ) = (do let x ← s; pure (Next.value x))) (H : hp P s K h) : hp P (execOp ρ o) (nxt P K) h := by
  unfold execOp; rw [ho]
  simp only [resolve, hp_bind, hp_pure, invoke, hb]
  exact H

theorem mapV_eq (f : Operand → Value) (a : Array Operand) : mapV f a = a.map f := by unfold mapV; apply Array.toList_inj.1; simp

theorem minmax_go {f : Int → Int → Int} {m : Value → Value → Sem Value} (hm : ∀ k a b, m (.int k a) (.int k b) = pure (.int k (f a b))) {k : IntKind} (ys : List Value) : ∀ (a : Int),
    minmax.go f k a ys (fun n => K (.int k n) h) → hp P (ys.foldlM m (.int k a)) K h := by
  induction ys with
  | nil => intro a H; exact H
  | cons y ys ih =>
    intro a H
    obtain ⟨b, rfl, H2⟩ := asInt_out H
    simp only [List.foldlM_cons, hp_bind, hm, hp_pure]
    exact ih _ H2
theorem minmax_hp {f : Int → Int → Int} {m : Value → Value → Sem Value} (hm : ∀ k a b, m (.int k a) (.int k b) = pure (.int k (f a b))) {t : TypeId} {k : IntKind} (hk : intKindOf P t = some k)
    (why : String) (xs : List Value) (H : minmax f P t xs fun n => K (.int k n) h) : hp P (match xs with | [] => stuck why | x :: rest => rest.foldlM m x) K h := by
  cases xs with
  | nil => exact H.elim
  | cons x xs => cases xs with
    | nil =>
      simp only [minmax, hk] at H
      obtain ⟨b, rfl, H2⟩ := asInt_out H
      exact H2
    | cons y ys =>
      simp only [minmax, hk] at H
      obtain ⟨b, rfl, H2⟩ := asInt_out H
      exact minmax_go hm _ _ H2

theorem vbuiltin_sound {o : Oper} {b : Builtin} {args : Array Operand} {argTypes : Array TypeId} (ho : o.op = .call { callee := .builtin b, args, argTypes })
    (H : vbuiltin P b argTypes o.type (args.toList.map ρ) ρ o h K) : hp P (execOp ρ o) (nxt P K) h := by
  have ea : args.map ρ = (args.toList.map ρ).toArray := by rw [← mapV_eq]; rfl
  unfold vbuiltin at H
  split at H
  · rename_i x hx
    refine hp_builtin ho (Builtin.len_ argTypes o.type (args.map ρ)) (fun _ => rfl) ?_
    rw [ea, hx]
    split at H
    · rename_i t0 h0
      simp only [Builtin.len_, h0]
      simp only [List.getElem?_toArray, List.getElem?_cons_zero]
      split at H
      · rename_i e hu
        obtain ⟨a, n, c, rfl, H2⟩ := asSlice_out H
        simp only [hp_bind, hp_underlying (und_some hu (by simp)), hp_pure]; exact H2
      · rename_i hu
        obtain ⟨a, rfl, H2⟩ := asStr_out H
        simp only [hp_bind, hp_underlying (und_some hu (by simp)), hp_pure]; exact H2
      · rename_i e1 e2 hu
        obtain ⟨r, rfl, H2⟩ := asMap_out H
        simp only [hp_bind, hp_underlying (und_some hu (by simp)), hp_pure]
        unfold mapAt at H2
        cases r with
        | none => exact H2
        | some r =>
          simp only at H2
          split at H2
          · rename_i es c hr
            simp only [hp_bind, getObj, hp, hr]; exact H2
          · exact H2.elim
      · rename_i n e hu
        simp only [hp_bind, hp_underlying (und_some hu (by simp)), hp_pure]; exact H
      · exact H.elim
    · exact H.elim
  · rename_i x hx
    refine hp_builtin ho (Builtin.cap_ argTypes o.type (args.map ρ)) (fun _ => rfl) ?_
    rw [ea, hx]
    split at H
    · rename_i t0 h0
      simp only [Builtin.cap_, h0]
      simp only [List.getElem?_toArray, List.getElem?_cons_zero]
      split at H
      · rename_i e hu
        obtain ⟨a, n, c, rfl, H2⟩ := asSlice_out H
        simp only [hp_bind, hp_underlying (und_some hu (by simp)), hp_pure]; exact H2
      · exact H.elim
    · exact H.elim
  · rename_i xs
    refine hp_builtin ho (Builtin.append_ argTypes o.type (args.map ρ)) (fun _ => rfl) ?_
    rw [ea]; exact H
  · refine hp_builtin ho (Builtin.copy_ argTypes o.type (args.map ρ)) (fun _ => rfl) ?_
    rw [ea]; exact H
  · refine hp_builtin ho (Builtin.delete_ argTypes o.type (args.map ρ)) (fun _ => rfl) ?_
    rw [ea]; exact H
  · refine hp_builtin ho (Builtin.unsafeSliceData_ argTypes o.type (args.map ρ)) (fun _ => rfl) ?_
    rw [ea]; exact H
  · refine hp_builtin ho (Builtin.unsafeString_ argTypes o.type (args.map ρ)) (fun _ => rfl) ?_
    rw [ea]; exact H
  · split at H
    · rename_i k hk
      refine hp_builtin ho (Builtin.max_ argTypes o.type (args.map ρ)) (fun _ => rfl) ?_
      rw [ea]
      exact minmax_hp (f := max2I) (m := Builtin.max2) (fun _ _ _ => rfl) hk _ _ H
    · exact H
  · split at H
    · rename_i k hk
      refine hp_builtin ho (Builtin.min_ argTypes o.type (args.map ρ)) (fun _ => rfl) ?_
      rw [ea]
      exact minmax_hp (f := min2I) (m := Builtin.min2) (fun _ _ _ => rfl) hk _ _ H
    · exact H
  · exact H
end
end Go.Proofs.Ytgladmaagpcffaa
