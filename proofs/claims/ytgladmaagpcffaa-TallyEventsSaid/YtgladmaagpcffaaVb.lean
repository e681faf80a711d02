/- The heap-level calculus is sound for the model's operations. -/
import Derived.Test.YtgladmaagpcffaaVa
namespace Go.Proofs.Ytgladmaagpcffaa

/-! ### Kd -/
theorem Kd.refl (h : Heap) : Kd h h := ⟨Nat.le_refl _, fun _ x => x⟩
theorem Kd.trans {h h' h'' : Heap} (a : Kd h h') (b : Kd h' h'') : Kd h h'' := ⟨Nat.le_trans a.1 b.1, fun D x => b.2 D (a.2 D x)⟩
theorem getElem?_setC (h : Heap) (a : Addr) (v : Value) (b : Nat) : (setC h a v)[b]? =
    if a.block = b then (h[b]?).map (setO a v) else h[b]? := by
  unfold setC; rw [Array.getElem?_modify]
theorem size_setC (h : Heap) (a : Addr) (v : Value) : (setC h a v).size = h.size := by unfold setC; simp
theorem Kd.setC (h : Heap) (a : Addr) (v : Value) : Kd h (setC h a v) := ⟨by rw [size_setC]; exact Nat.le_refl _, fun D x => by
  rw [getElem?_setC]; split <;> simp [x, setO]⟩
theorem Kd.freezeAt (h : Heap) (a : Addr) (n : Nat) : Kd h (freezeAt h a n) := by
  unfold Proofs.Ytgladmaagpcffaa.freezeAt; split
  · exact Kd.refl _
  · refine ⟨by simp, fun D x => ?_⟩
    rw [Array.getElem?_modify]; split <;> simp [x]
theorem Kd.push (h : Heap) (o : Obj) : Kd h (h.push o) := ⟨by simp, fun D x => by
  have : D < h.size := (Array.getElem?_eq_some_iff.1 x).1
  rw [Array.getElem?_push_lt this]; exact x ▸ (Array.getElem?_eq_getElem this).symm⟩
theorem Kd.set {h : Heap} {r : Nat} {o : Obj} (hr : h[r]? ≠ some (.deferred (some []))) : Kd h (h.setIfInBounds r o) := ⟨by simp, fun D x => by
  rw [Array.getElem?_setIfInBounds]; split
  · rename_i e; subst e; exact absurd x hr
  · exact x⟩

/-! ### hp -/
section
variable {P : Program} {α β : Type}
theorem hp_bind' (s : Sem α) (f : α → Sem β) (K : β → Heap → Prop) (h : Heap) : hp P (s.bind f) K h = hp P s (fun a => hp P (f a) K) h := by
  induction s generalizing h with
  | pure a => rfl
  | load m a k ih => simp only [Sem.bind, hp, ih]
  | store m a v k ih => simp only [Sem.bind, hp, ih]
  | new o k ih => simp only [Sem.bind, hp, ih]
  | shape r k ih => simp only [Sem.bind, hp, ih]
  | freeze a n k ih => simp only [Sem.bind, hp, ih]
  | frozen a k ih => simp only [Sem.bind, hp, ih]
  | getObj r k ih => simp only [Sem.bind, hp, ih]
  | setObj r o k ih => simp only [Sem.bind, hp, ih]
  | choose q k ih => simp only [Sem.bind, hp, ih]
  | sys c k ih => simp only [Sem.bind, hp]
  | program k ih => simp only [Sem.bind, hp, ih]
  | mark m k ih => simp only [Sem.bind, hp, ih]
  | halt h => simp only [Sem.bind, hp]
theorem hp_bind (s : Sem α) (f : α → Sem β) (K : β → Heap → Prop) (h : Heap) : hp P (s >>= f) K h = hp P s (fun a => hp P (f a) K) h := hp_bind' s f K h
theorem hp_pure (a : α) (K : α → Heap → Prop) (h : Heap) : hp P (pure a) K h = K a h := rfl
theorem oneC_mono {v : Value} {X Y : Prop} (hxy : X → Y) (hx : oneC v X) : oneC v Y := by
  unfold oneC at *; split <;> simp_all
theorem oneC_out {v : Value} {X : Prop} (hx : oneC v X) : X := by unfold oneC at hx; split at hx <;> simp_all
theorem hp_mono {s : Sem α} {K K' : α → Heap → Prop} (hk : ∀ a h, K a h → K' a h) : ∀ {h : Heap}, hp P s K h → hp P s K' h := by
  induction s with
  | pure a => intro h x; exact hk _ _ x
  | load m a k ih => intro h x; simp only [hp] at x ⊢; split at x <;> simp_all
  | store m a v k ih => intro h x; simp only [hp] at x ⊢; exact oneC_mono (fun ⟨a, b, c⟩ => ⟨a, b, ih c⟩) x
  | new o k ih => intro h x; exact ih _ x
  | shape r k ih => intro h x; exact ih _ x
  | freeze a n k ih => intro h x; exact ih x
  | frozen a k ih => intro h x; exact ih _ x
  | getObj r k ih => intro h x; simp only [hp] at x ⊢; split at x <;> simp_all
  | setObj r o k ih => intro h x; simp only [hp] at x ⊢; split at x <;> simp_all
  | choose q k ih => intro h x t; exact ih _ (x t)
  | sys c k ih => intro h x; exact x.elim
  | program k ih => intro h x; exact ih _ x
  | mark m k ih => intro h x; exact ih x
  | halt h => intro h x; exact x.elim
theorem Kw.refl (w : World) : Kw w w := ⟨Kd.refl _, rfl, rfl⟩
theorem Kw.trans {a b c : World} (x : Kw a b) (y : Kw b c) : Kw a c := ⟨x.1.trans y.1, y.2.1.trans x.2.1, y.2.2.trans x.2.2⟩
theorem hp_run (s : Sem α) : ∀ {K : α → Heap → Prop} {h : Heap}, hp P s K h → ∀ w : World, w.heap = h →
    ∃ a w', s.run P w = .ok a w' ∧ K a w'.heap ∧ Kw w w' := by
  induction s with
  | pure a => intro K h x w hw; subst hw; exact ⟨a, w, rfl, x, Kw.refl _⟩
  | load m a k ih =>
    intro K h x w hw; subst hw; simp only [hp] at x
    split at x
    · rename_i v hv
      obtain ⟨b, w', h1, h2⟩ := ih v x w rfl
      refine ⟨b, w', ?_, h2⟩
      have hv' : w.cell? a = some v := hv
      simp only [Sem.run, hv', h1]
    · exact x.elim
  | store m a v k ih =>
    intro K h x w hw; subst hw; simp only [hp] at x
    obtain ⟨⟨u, hu⟩, hf, hk⟩ := oneC_out x
    obtain ⟨b, w', h1, h2, h3⟩ := ih hk (w.setCell a v) rfl
    refine ⟨b, w', ?_, h2, Kw.trans (b := w.setCell a v) ⟨Kd.setC _ _ _, rfl, rfl⟩ h3⟩
    have hu' : w.cell? a = some u := hu
    have hf' : w.frozen? a = false := hf
    have e : (w.setCell a v).heap = Proofs.Ytgladmaagpcffaa.setC w.heap a v := rfl
    cases v <;> first | exact x.elim | simp only [Sem.run, hu', hf', h1]; rfl
  | new o k ih =>
    intro K h x w hw; subst hw
    obtain ⟨b, w', h1, h2, h3⟩ := ih _ x { w with heap := w.heap.push o } rfl
    exact ⟨b, w', h1, h2, Kw.trans (b := { w with heap := w.heap.push o }) ⟨Kd.push _ _, rfl, rfl⟩ h3⟩
  | shape r k ih => intro K h x w hw; subst hw; exact ih _ x w rfl
  | freeze a n k ih =>
    intro K h x w hw; subst hw
    have e : (w.freeze a n).heap = freezeAt w.heap a n := by unfold World.freeze freezeAt; split <;> rfl
    obtain ⟨b, w', h1, h2, h3⟩ := ih x (w.freeze a n) e
    exact ⟨b, w', h1, h2, Kw.trans (b := w.freeze a n) ⟨by rw [e]; exact Kd.freezeAt _ _ _, by unfold World.freeze; split <;> rfl, by unfold World.freeze; split <;> rfl⟩ h3⟩
  | frozen a k ih => intro K h x w hw; subst hw; exact ih _ x w rfl
  | getObj r k ih =>
    intro K h x w hw; subst hw; simp only [hp] at x
    split at x
    · exact x.elim
    · rename_i o hne hv
      obtain ⟨b, w', h1, h2⟩ := ih o x w rfl
      refine ⟨b, w', ?_, h2⟩
      simp only [Sem.run, hv]
      cases o <;> first | exact (hne _ _ _ rfl).elim | exact h1
    · exact x.elim
  | setObj r o k ih =>
    intro K h x w hw; subst hw; simp only [hp] at x
    split at x
    all_goals first | exact x.elim | (
      rename_i hv
      obtain ⟨b, w', h1, h2, h3⟩ := ih x { w with heap := w.heap.setIfInBounds r o } rfl
      refine ⟨b, w', ?_, h2, Kw.trans (b := { w with heap := w.heap.setIfInBounds r o }) ⟨Kd.set (by rw [hv]; simp), rfl, rfl⟩ h3⟩
      simp only [Sem.run, hv]; exact h1)
  | choose q k ih =>
    intro K h x w hw; subst hw
    by_cases hq : q.forced = true
    · have x0 := x 0
      simp only [hq, if_true] at x0
      obtain ⟨b, w', h1, h2⟩ := ih _ x0 w rfl
      exact ⟨b, w', by simp only [Sem.run, hq, if_true]; exact h1, h2⟩
    · have x0 := x (w.tape w.drawn q)
      simp only [hq] at x0
      obtain ⟨b, w', h1, h2⟩ := ih _ x0 { w with drawn := w.drawn + 1 } rfl
      exact ⟨b, w', by simp only [Sem.run, hq]; exact h1, h2⟩
  | sys c k ih => intro K h x w hw; exact x.elim
  | program k ih => intro K h x w hw; exact ih _ x w hw
  | mark m k ih => intro K h x w hw; exact ih x w hw
  | halt h => intro K h x w hw; exact x.elim

/-! ### the model's small words -/
theorem hp_typeInfo {t : TypeId} {i : TypeInfo} (hi : P.info? t = some i) (K : TypeInfo → Heap → Prop) (h : Heap) : hp P (typeInfo t) K h = K i h := by
  simp only [typeInfo, hp_bind]; simp [program, hp, hi, hp_pure]
theorem there_some {t : TypeId} (h : there P t = true) : ∃ i, P.info? t = some i := by
  unfold there at h; rw [Bool.and_eq_true] at h; exact Option.isSome_iff_exists.1 h.1
theorem there_und {t : TypeId} (h : there P t = true) : P.underlying t = some (und P t) := by
  unfold there at h; rw [Bool.and_eq_true] at h; obtain ⟨d, hd⟩ := Option.isSome_iff_exists.1 h.2; unfold und; rw [hd]; rfl
theorem hp_sizeOf {t : TypeId} (ht : there P t = true) (K : Nat → Heap → Prop) (h : Heap) : hp P (sizeOf t) K h = K (siz P t) h := by
  obtain ⟨i, hi⟩ := there_some ht
  simp only [sizeOf, hp_bind, hp_typeInfo hi, siz, hi]; rfl
theorem und_some {t : TypeId} {d : TypeDesc} (hd : und P t = d) (hn : d ≠ .invalid) : P.underlying t = some d := by
  unfold und at hd; cases hu : P.underlying t with
  | none => rw [hu] at hd; exact absurd hd.symm hn
  | some e => rw [hu] at hd; simp at hd; rw [hd]
theorem hp_underlying {t : TypeId} {d : TypeDesc} (hd : P.underlying t = some d) (K : TypeDesc → Heap → Prop) (h : Heap) : hp P (underlying t) K h = K d h := by
  simp only [underlying, hp_bind]; simp [program, hp, hd, hp_pure]
theorem hp_isAgg {t : TypeId} {d : TypeDesc} (hd : P.underlying t = some d) (K : Bool → Heap → Prop) (h : Heap) : hp P (isAgg t) K h = K (aggT P t) h := by
  have hu : und P t = d := by unfold und; rw [hd]; rfl
  simp only [isAgg, hp_bind, hp_underlying hd, aggT, hu]
  cases d <;> rfl
theorem hp_zeroValue {t : TypeId} {z : Value} (hz : zer P t = some z) (K : Value → Heap → Prop) (h : Heap) : hp P (zeroValue t) K h = K z h := by
  unfold zer at hz
  cases hi : P.info? t with
  | none => rw [hi] at hz; cases hz
  | some i =>
    rw [hi] at hz; simp at hz
    simp only [zeroValue, hp_bind, hp_typeInfo hi, hz]; rfl
end
end Go.Proofs.Ytgladmaagpcffaa
