/- append to nothing; rows that are read alone. -/
import Derived.Test.YtgladmaagpcffaaSf
set_option linter.unusedSimpArgs false
set_option linter.unusedVariables false
namespace Go.Proofs.Ytgladmaagpcffaa

/-- append to a slice that has no room. -/
theorem appH_nil {P : Program} {t elem : TypeId} {z : Value} {h : Heap} {a a2 : Option Addr} {n n2 : Nat} {ys : List Value} {K : Value → Heap → Prop}
    (hu : und P t = .slice elem) (hth : there P elem = true) (hz : zer P elem = some z) (hzs : z.cells.size = siz P elem)
    (hs : Sees h a2 ys) (hn : ys.length = n * siz P elem) (hone : ∀ y ∈ ys, oneC y True) (hb0 : 0 < byt P elem) (hb : (2 * n + 512) * byt P elem ≤ 2 ^ 48)
    (H0 : n = 0 → K (.slice a 0 0) h)
    (H : ∀ cap h', Own h' elem (siz P elem) (some ⟨h.size, 0, none⟩) n cap ys → h'.size = h.size + 1 → Old h.size h h' → K (.slice (some ⟨h.size, 0, none⟩) n cap) h') :
    appH P #[t, t] t #[.slice a 0 0, .slice a2 n n2] h K := by
  have hu' := und_some hu (by simp)
  obtain ⟨info, hinfo⟩ := there_some hth
  have hbyt : info.bytes = byt P elem := by unfold byt; rw [hinfo]
  have first : ∀ (F : Array Value → Heap → Prop), F ys.toArray h → hp P (Builtin.firstCells (siz P elem) n (.slice a2 n n2)) F h := by
    intro F k
    cases a2 with
    | none =>
      have : ys = [] := by
        cases ys with
        | nil => rfl
        | cons y ys => obtain ⟨ad, e, _⟩ := hs 0 y rfl; cases e
      subst this; exact k
    | some ad =>
      show hp P (loadCells ad (n * siz P elem)) F h
      refine hp_loadCellsFrom ad _ 0 [] F ?_
      rw [← hn]
      refine ldN_sees ys 0 [] _ (fun j v hj => ?_) (by simpa using k)
      obtain ⟨ad', e, hc⟩ := hs j v hj
      cases e; rwa [Nat.zero_add]
  unfold appH Builtin.append_
  simp only [List.getElem?_toArray, List.getElem?_cons_zero, List.getElem?_cons_succ, hp_bind, hp_pure, hp_underlying hu', hp_sizeOf hth, Bool.false_eq_true, if_false]
  show hp P (Builtin.lenOf _) _ h
  simp only [Builtin.lenOf, hp_pure]
  rw [hp_ite]
  split
  · rename_i hcap
    have e2 : n = 0 := by omega
    subst e2
    have : ys = [] := by simpa using hn
    subst this
    simp only [hp_bind]
    show hp P (if (!false) = true then _ else _) _ h
    refine first _ ?_
    cases a with
    | none =>
      simp only [hp_bind, hp_pure]
      exact H0 rfl
    | some ad =>
      simp only [hp_bind]
      refine hp_storeCells _ _ h 0 _ ?_
      exact H0 rfl
  · rename_i hcap
    simp only [hp_bind, hp_pure]
    have hbound : ¬ Builtin.nextslicecap (0 + n) 0 * info.bytes > 2 ^ 48 := by
      rw [hbyt]
      have := Nat.le_trans (Nat.mul_le_mul_right (byt P elem) (nextcap_le (0 + n) 0 (by omega))) (by simpa using hb)
      omega
    simp only [hp_bind, hp_pure, hp_typeInfo hinfo, hp_ite]
    rw [if_neg (by rw [hbyt]; intro x; rcases x.2 with y | y <;> first | exact y | omega), if_neg hbound]
    show ∀ tp, _
    intro tp
    rw [if_neg (by simp [Question.forced])]
    obtain ⟨cap, hcp⟩ : ∃ cap, cap = (Question.appendCap (0 + n) 0 elem).cut tp := ⟨_, rfl⟩
    have hcap2 : 0 + n ≤ cap := by rw [hcp]; simp [Question.cut]
    rw [← hcp]
    rw [show (Sem.pure cap : Sem Nat) = pure cap from rfl]
    simp only [hp_bind, hp_pure, hp_typeInfo hinfo, hp_askRoom]
    have old : ∀ (F : Array Value → Heap → Prop), F #[] h → hp P (Builtin.firstCells (siz P elem) 0 (.slice a 0 0)) F h := by
      intro F k
      cases a with
      | none => exact k
      | some ad =>
        show hp P (loadCells ad (0 * siz P elem)) F h
        rw [Nat.zero_mul]
        exact k
    refine old _ ?_
    rw [hp_bind, if_pos (show (!false) = true from rfl)]
    refine first _ ?_
    simp only [hp_bind]
    simp only [hp_zeroValue hz]
    show K (.slice (some ⟨h.size, 0, none⟩) (0 + n) cap) (h.push _)
    have hzc : (Builtin.zeroCells z.cells (cap - (0 + n))).size = (cap - (0 + n)) * siz P elem := by rw [zeroCells_size, hzs]
    rw [Nat.zero_add] at hcap2 hzc ⊢
    refine H cap _ ⟨by simp [hn], hcap2, .inr ⟨h.size, _, rfl, push_new _ _, ?_, ?_⟩⟩ (by simp) ((Old.refl _ _).push _ (Nat.le_refl _))
    · simp only [Array.size_append, hzc, List.size_toArray, hn, ← Nat.add_mul, List.length_nil, Nat.zero_add]
      congr 1; omega
    · simp only [Array.toList_append, List.toList_toArray, List.nil_append, Array.toList_empty]
      rw [List.take_left' (by simp [hn])]
end Go.Proofs.Ytgladmaagpcffaa
