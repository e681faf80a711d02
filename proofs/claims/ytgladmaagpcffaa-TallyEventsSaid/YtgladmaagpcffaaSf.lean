/- Ranges over functions: states that lie in blocks of one's own. -/
import Derived.Test.YtgladmaagpcffaaSd
set_option linter.unusedSimpArgs false
set_option linter.unusedVariables false
namespace Go.Proofs.Ytgladmaagpcffaa

/-- Blocks of one's own, from M on. -/
def OwnedW (M : Nat) (w : Nat → Prop) (h : Heap) : Prop := ∀ b, w b → M ≤ b ∧ ∃ row t f, h[b]? = some (.cells row t f)
theorem OwnedW.none (M : Nat) (h : Heap) : OwnedW M (fun _ => False) h := fun _ x => x.elim
theorem OwnedW.lt {M : Nat} {w : Nat → Prop} {h : Heap} (H : OwnedW M w h) {b : Nat} (hb : w b) : b < h.size := by
  obtain ⟨_, row, t, f, e⟩ := H b hb
  exact (Array.getElem?_eq_some_iff.1 e).1
/-- A state that depends on blocks below N, and on those of w. -/
def Dep {α : Type} (N : Nat) (S : α → (Nat → Prop) → Heap → Prop) : Prop :=
  ∀ k w h1 h2, h1.size ≤ h2.size → (∀ b, b < N → h2[b]? = h1[b]?) → (∀ b, w b → h2[b]? = h1[b]?) → S k w h1 → S k w h2

theorem owned_keep {M : Nat} {w : Nat → Prop} {ha hb : Heap} (H : OwnedW M w ha) (e : ∀ b, w b → hb[b]? = ha[b]?) : OwnedW M w hb := fun b hw => by
  obtain ⟨h1, row, t, f, h2⟩ := H b hw
  exact ⟨h1, row, t, f, (e b hw).trans h2⟩

theorem rangeOk_own {ε : Type} {N : Nat} {h : Heap} {Ev : Heap → Prop} (S : Nat → (Nat → Prop) → Heap → Prop) (SX : ε → (Nat → Prop) → Heap → Prop)
    (hN : N ≤ h.size) (cS : Dep N S) (cX : Dep N SX) (eS : ∀ k w h', S k w h' → Ev h') (s0 : S 0 (fun _ => False) h) :
    RangeOk N h Ev (fun M k h' => N ≤ h'.size ∧ ∃ w, OwnedW M w h' ∧ S k w h') (fun M e h' => N ≤ h'.size ∧ ∃ w, OwnedW M w h' ∧ SX e w h') := by
  have key : ∀ {α : Type} (T : α → (Nat → Prop) → Heap → Prop) (cT : Dep N T) (M : Nat) (k : α) (ha hb : Heap), (N ≤ ha.size ∧ ∃ w, OwnedW M w ha ∧ T k w ha) → Keep N M ha hb → (N ≤ hb.size ∧ ∃ w, OwnedW M w hb ∧ T k w hb) := by
    rintro α T cT M k ha hb ⟨hs, w, ho, ht⟩ hk
    have e : ∀ b, w b → hb[b]? = ha[b]? := fun b hw => hk.2 b (ho.lt hw) (.inr (ho b hw).1)
    exact ⟨Nat.le_trans hs hk.1, w, owned_keep ho e, cT k w ha hb hk.1 (fun b hb => hk.2 b (by omega) (.inl hb)) e ht⟩
  have key2 : ∀ {α : Type} (T : α → (Nat → Prop) → Heap → Prop) (cT : Dep N T) (M : Nat) (k : α) (ha hb : Heap), SameD N ha hb → (N ≤ ha.size ∧ ∃ w, OwnedW M w ha ∧ T k w ha) → (N ≤ hb.size ∧ ∃ w, OwnedW M w hb ∧ T k w hb) := by
    rintro α T cT M k ha hb hd ⟨hs, w, ho, ht⟩
    have e : ∀ b, w b → hb[b]? = ha[b]? := fun b hw => by
      obtain ⟨_, row, t, f, h2⟩ := ho b hw
      exact hd.cells h2
    exact ⟨by rw [hd.1]; exact hs, w, owned_keep ho e, cT k w ha hb (by rw [hd.1]; exact Nat.le_refl _) (fun b hb => hd.2 b (.inl hb)) e ht⟩
  exact { env := fun M k h' _ _ hI => by obtain ⟨_, w, _, ht⟩ := hI; exact eS _ _ _ ht, keepI := fun M k ha hb _ _ hI hk => key S cS M k ha hb hI hk, keepX := fun M e ha hb _ _ hX hk => key SX cX M e ha hb hX hk,
          dI := fun M k ha hb hd hI => key2 S cS M k ha hb hd hI, dX := fun M e ha hb hd hX => key2 SX cX M e ha hb hd hX,
          start := fun h1 hs hsame => ⟨Nat.le_trans hN hs, fun _ => False, OwnedW.none _ _, cS 0 _ h h1 hs hsame (fun _ x => x.elim) s0⟩ }

/-- A loop over a sequence, its state in blocks of one's own. -/
theorem rangeH_own {P : Program} {g : Value} {np : Nat} {h : Heap} {B : (Exit → Heap → Prop) → Array Value → Heap → Prop} {D : Heap → Prop} {Es : List (Exit × (Heap → Prop))}
    {n : Nat} {xs : Nat → Array Value} {Ev : Heap → Prop} (S : Nat → (Nat → Prop) → Heap → Prop) (SX : Exit → (Nat → Prop) → Heap → Prop)
    (hg : fnV g) (hseq : SeqH P g n xs Ev) (hnp : ∀ k, k < n → (xs k).size = np) (cS : Dep h.size S) (cX : Dep h.size SX) (eS : ∀ k w h', S k w h' → Ev h') (s0 : S 0 (fun _ => False) h)
    (hb : ∀ M k w h', k < n → h.size + 2 ≤ M → M ≤ h'.size → OwnedW M w h' → S k w h' →
      B (fun e h'' => KeepMid h.size M h' h'' ∧ (match e with | .normal => h.size ≤ h''.size ∧ ∃ w, OwnedW M w h'' ∧ S (k + 1) w h'' | e => inE e Es ∧ h.size ≤ h''.size ∧ ∃ w, OwnedW M w h'' ∧ SX e w h'')) (xs k) h')
    (hd : ∀ M w h', h.size + 2 ≤ M → M ≤ h'.size → OwnedW M w h' → S n w h' → D h')
    (he : allE (fun e F => ∀ M w h', h.size + 2 ≤ M → M ≤ h'.size → OwnedW M w h' → SX e w h' → F h') Es) : rangeH P g np h B D Es := by
  refine ⟨n, xs, Ev, fun M k h' => h.size ≤ h'.size ∧ ∃ w, OwnedW M w h' ∧ S k w h', fun M e h' => h.size ≤ h'.size ∧ ∃ w, OwnedW M w h' ∧ SX e w h', hg, hseq, hnp, eS _ _ _ s0, rangeOk_own S SX (Nat.le_refl _) cS cX eS s0, ?_, ?_, ?_⟩
  · rintro M k h' hk hM hs ⟨_, w, ho, ht⟩
    exact hb M k w h' hk hM hs ho ht
  · rintro M h' hM hs ⟨_, w, ho, ht⟩
    exact hd M w h' hM hs ho ht
  · clear hb
    generalize Es = L at he
    induction L with
    | nil => trivial
    | cons p ps ih => exact ⟨fun M h' hM hs hx => by obtain ⟨_, w, ho, ht⟩ := hx; exact he.1 M w h' hM hs ho ht, ih he.2⟩

/-- The same, for a sequence made of a sequence: the state between two rounds is that of the outer one, and what lies in the blocks that were laid ahead of the loop. -/
theorem rangeH_outer {P : Program} {g : Value} {np : Nat} {h0 h : Heap} {B : (Exit → Heap → Prop) → Array Value → Heap → Prop} {D : Heap → Prop} {Es : List (Exit × (Heap → Prop))}
    {n : Nat} {xs : Nat → Array Value} {Ev Ev' : Heap → Prop} {N : Nat} {I : Nat → Nat → Heap → Prop} {X : Nat → Unit → Heap → Prop} (S : Nat → Heap → Prop) (c : Nat → Nat) (n' : Nat) (q : Prop)
    (hg : fnV g) (hseq : SeqH P g n xs Ev) (hnp : ∀ k, k < n → (xs k).size = np) (hN : N ≤ h0.size) (ho : Old h0.size h0 h) (hok : RangeOk N h0 Ev' I X) (hev : ∀ h', Ev' h' → Ev h') (hev0 : Ev h) (c0 : c 0 = 0) (cn : c n = n')
    (cS : ∀ k h1 h2, (∀ b, h0.size ≤ b → b < h.size → h2[b]? = h1[b]?) → S k h1 → S k h2) (s0 : S 0 h)
    (hb : ∀ M k h', k < n → h.size + 2 ≤ M → M ≤ h'.size → S k h' → I M (c k) h' →
      B (fun e h'' => KeepMid h.size M h' h'' ∧ (match e with | .normal => h.size ≤ h''.size ∧ S (k + 1) h'' ∧ I M (c (k + 1)) h'' | e => inE e Es ∧ (X M () h'' ∨ (q ∧ I M n' h'')))) (xs k) h')
    (hd : ∀ M h', h.size + 2 ≤ M → M ≤ h'.size → I M n' h' → D h')
    (he : allE (fun e F => ∀ M h', h.size + 2 ≤ M → M ≤ h'.size → (X M () h' ∨ (q ∧ I M n' h')) → F h') Es) : rangeH P g np h B D Es := by
  have hs0 := ho.1
  refine ⟨n, xs, Ev, fun M k h' => h.size ≤ h'.size ∧ S k h' ∧ I M (c k) h', fun M e h' => X M () h' ∨ (q ∧ I M n' h'), hg, hseq, hnp, hev0, ?_, ?_, ?_, ?_⟩
  · have hk' : ∀ {M : Nat} {ha hb : Heap}, Keep h.size M ha hb → Keep N M ha hb := fun hk => ⟨hk.1, fun b h1 h2 => hk.2 b h1 (by omega)⟩
    refine { env := fun M k h' hM hs hI => hev _ (hok.env M _ h' (by omega) hs hI.2.2), keepI := fun M k ha hb hM hs hI hk => ⟨Nat.le_trans hI.1 hk.1, cS k ha hb (fun b h1 h2 => hk.2 b (by have := hI.1; omega) (.inl h2)) hI.2.1, hok.keepI M _ ha hb (by omega) hs hI.2.2 (hk' hk)⟩,
             keepX := fun M e ha hb hM hs hX hk => hX.imp (fun x => hok.keepX M _ ha hb (by omega) hs x (hk' hk)) (fun x => ⟨x.1, hok.keepI M _ ha hb (by omega) hs x.2 (hk' hk)⟩),
             dI := fun M k ha hb hd hI => ⟨by rw [hd.1]; exact hI.1, cS k ha hb (fun b h1 h2 => hd.2 b (.inl h2)) hI.2.1, hok.dI M _ ha hb (hd.mono (by omega)) hI.2.2⟩,
             dX := fun M e ha hb hd hX => hX.imp (hok.dX M _ ha hb (hd.mono (by omega))) (fun x => ⟨x.1, hok.dI M _ ha hb (hd.mono (by omega)) x.2⟩), start := fun ha hs hsame => ?_ }
    refine ⟨hs, cS 0 h ha (fun b h1 h2 => hsame b h2) s0, ?_⟩
    rw [c0]
    exact hok.start ha (by omega) (fun b hb => (hsame b (by omega)).trans (ho.2 b (by omega)))
  · rintro M k h' hk hM hs ⟨hsz, h1, h2⟩
    exact hb M k h' hk hM hs h1 h2
  · rintro M h' hM hs ⟨_, h1, h2⟩
    rw [cn] at h2
    exact hd M h' hM hs h2
  · exact he
end Go.Proofs.Ytgladmaagpcffaa
