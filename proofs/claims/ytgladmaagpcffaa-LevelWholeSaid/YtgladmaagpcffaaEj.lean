/- The stable sort of up to sixty entries. -/
import Derived.Test.YtgladmaagpcffaaEi
set_option linter.unusedSimpArgs false
set_option linter.unusedVariables false
set_option maxRecDepth 20000
namespace Go.Proofs.Ytgladmaagpcffaa

/-- Parts of this length are each in order. -/
def Blocks (es : List Ent) (bs n : Nat) : Prop := ∀ p q, p ≤ q → q < n → p / bs = q / bs → vl es p ≤ vl es q

set_option maxHeartbeats 1000000 in
theorem sorts {l : Nat} (hl60 : l ≤ 60) : Sorts l := by
  intro K h b c es sp H hl k
  refine call104 ?_
  unfold F104
  refine callV_fn (call128 ?_)
  unfold F128
  refine ⟨fun vs h' => ∃ a : Nat, ∃ cs, vs = [iv a, iv ((a + 20 : Nat) : Int)] ∧ a ≤ l ∧ a % 20 = 0 ∧ EB h' b cs sp ∧ cs.Perm es ∧ Blocks cs 20 a ∧ OldB b h h', fun vs _ => (match vs with | [.int _ n, _] => l - n.toNat | _ => 0),
    ⟨0, es, rfl, Nat.zero_le _, rfl, H, List.Perm.refl _, fun p q _ h => by omega, OldB.refl _ _⟩, ?_⟩
  rintro v2 v3 g4 h5 ⟨a, cs, e, ha, ha20, B5, pm, bl, o5⟩
  cases e
  simp only [asInt_int]
  have hcl : cs.length = l := by rw [pm.length_eq, hl]
  -- one part more
  have more : ∀ (b1 : Nat) (es' : List Ent), b1 ≤ l → a ≤ b1 → b1 ≤ a + 20 → SegOk cs a b1 es' → SortedSeg es' a b1 → Blocks es' 20 b1 := by
    intro b1 es' hb1 hab hb20 sg so p q hpq hq hd
    have hl' : es'.length = l := by rw [sg.len, hcl]
    rw [sorted_vl (by omega)] at so
    by_cases c1 : q < a
    · rw [vl_eq (sg.out p (by omega)), vl_eq (sg.out q (by omega))]
      exact bl p q hpq c1 hd
    · exact so p q (by omega) hpq hq
  refine ifB_dec (fun hlt => ?_) (fun hge => ?_)
  · refine callV_fn (insertion_call (a1 := a) (b1 := a + 20) B5 hcl (by omega) (by omega) (by omega) fun es' h10 B10 sg so o10 => ?_)
    rw [show IntKind.i64.wrap (((a + 20 : Nat) : Int) + 20) = ((a + 20 + 20 : Nat) : Int) from wadd (a := a + 20) (b := 20) (by omega)]
    refine ⟨⟨a + 20, es', rfl, by omega, by omega, B10, sg.perm.trans pm, more _ _ (by omega) (by omega) (Nat.le_refl _) sg so, o5.trans o10⟩, ?_⟩
    show l - ((a + 20 : Nat) : Int).toNat < l - (a : Int).toNat
    omega
  · refine callV_fn (insertion_call (a1 := a) (b1 := l) B5 hcl (by omega) ha (Nat.le_refl _) fun es' h15 B15 sg so o15 => ?_)
    have bl15 := more l es' (Nat.le_refl _) ha (by omega) sg so
    have pm15 := sg.perm.trans pm
    have o515 := o5.trans o15
    refine ⟨fun vs h' => ∃ bs : Nat, ∃ w1 w2 w3 cs, vs = [iv bs, w1, w2, w3] ∧ (bs = 20 ∨ bs = 40 ∨ bs = 80) ∧ EB h' b cs sp ∧ cs.Perm es ∧ Blocks cs bs l ∧ OldB b h h', fun vs _ => (match vs with | [.int _ n, _, _, _] => 80 - n.toNat | _ => 0),
      ⟨20, _, _, _, es', rfl, .inl rfl, B15, pm15, bl15, o515⟩, ?_⟩
    clear more bl15 pm15 o515 bl
    rintro v18 v19 v20 v21 g22 h23 ⟨bs, w1, w2, w3, ds, e, hbs, B23, pm23, bl23, o23⟩
    cases e
    simp only [asInt_int]
    refine ifB_dec (fun hlt => ?_) (fun hge => ?_)
    · have hbs2 : bs = 20 ∨ bs = 40 := by omega
      have h2 : IntKind.i64.wrap (2 * (bs : Int)) = ((2 * bs : Nat) : Int) := by rw [wrap64_id' (by omega) (by omega)]; omega
      rw [h2]
      refine ⟨fun vs h' => ∃ a : Nat, ∃ cs, vs = [iv a, iv ((a + 2 * bs : Nat) : Int)] ∧ a ≤ l ∧ (bs = 20 → a % 40 = 0) ∧ (bs = 40 → a = 0) ∧ EB h' b cs sp ∧ cs.Perm es ∧ Blocks cs (2 * bs) a ∧ (∀ p q, a ≤ p → p ≤ q → q < l → p / bs = q / bs → vl cs p ≤ vl cs q) ∧ OldB b h h', fun vs _ => (match vs with | [.int _ n, _] => l - n.toNat | _ => 0),
        ⟨0, ds, by rw [Nat.zero_add]; rfl, Nat.zero_le _, fun _ => rfl, fun _ => rfl, B23, pm23, fun p q _ h => by omega, fun p q _ c2 c3 c4 => bl23 p q c2 c3 c4, o23⟩, ?_⟩
      rintro v28 v29 g30 h31 ⟨a, cs, e, ha, ha20, ha40, B31, pm31, bl31, up31, o31⟩
      cases e
      simp only [asInt_int]
      have hcl : cs.length = l := by rw [pm31.length_eq, hl]
      have lower : ∀ m, a ≤ m → m ≤ l → m ≤ a + bs → SortedSeg cs a m := fun m c1 c2 c3 => (sorted_vl (by omega)).2 fun p q d1 d2 d3 => up31 p q d1 d2 (by omega) (by
        rcases hbs2 with rfl | rfl
        · have := ha20 rfl; omega
        · have := ha40 rfl; omega)
      have upper : ∀ m, a + bs ≤ m → m ≤ l → m ≤ a + 2 * bs → SortedSeg cs (a + bs) m := fun m c1 c2 c3 => (sorted_vl (by omega)).2 fun p q d1 d2 d3 => up31 p q (by omega) d2 (by omega) (by
        rcases hbs2 with rfl | rfl
        · have := ha20 rfl; omega
        · have := ha40 rfl; omega)
      have more : ∀ (b1 : Nat) (es' : List Ent), b1 ≤ l → a ≤ b1 → b1 ≤ a + 2 * bs → SegOk cs a b1 es' → SortedSeg es' a b1 → Blocks es' (2 * bs) b1 := by
        intro b1 es' hb1 hab hb20 sg so p q hpq hq hd
        have hl' : es'.length = l := by rw [sg.len, hcl]
        rw [sorted_vl (by omega)] at so
        by_cases c1 : q < a
        · rw [vl_eq (sg.out p (by omega)), vl_eq (sg.out q (by omega))]
          exact bl31 p q hpq c1 hd
        · refine so p q ?_ hpq hq
          rcases hbs2 with rfl | rfl
          · have := ha20 rfl; omega
          · have := ha40 rfl; omega
      refine ifB_dec (fun hlt2 => ?_) (fun hge2 => ?_)
      · rw [wadd (a := a) (b := bs) (by omega), wadd (a := a + 2 * bs) (b := 2 * bs) (by omega)]
        refine callV_fn (merges (2 * bs) (a := a) (m := a + bs) (b := a + 2 * bs) (by omega) B31 hcl (by omega) (by omega) (by omega) (by omega) (lower _ (by omega) (by omega) (Nat.le_refl _)) (upper _ (by omega) (by omega) (Nat.le_refl _)) fun es' h38 B38 sg so o38 => ?_)
        refine ⟨⟨a + 2 * bs, es', rfl, by omega, fun e => by have := ha20 e; omega, fun e => by omega, B38, sg.perm.trans pm31, more _ _ (by omega) (by omega) (Nat.le_refl _) sg so, fun p q c1 c2 c3 c4 => ?_, o31.trans o38⟩, ?_⟩
        · rw [vl_eq (sg.out p (by omega)), vl_eq (sg.out q (by omega))]
          exact up31 p q (by omega) c2 c3 c4
        · show l - ((a + 2 * bs : Nat) : Int).toNat < l - (a : Int).toNat
          omega
      · rw [wadd (a := a) (b := bs) (by omega)]
        refine ⟨fun vs h' => ∃ w es', vs = [w] ∧ EB h' b es' sp ∧ es'.Perm es ∧ Blocks es' (2 * bs) l ∧ OldB b h h', ?_, ?_⟩
        · refine ifB_dec (fun hm => ?_) (fun hm => ?_)
          · refine callV_fn (merges (2 * bs) (a := a) (m := a + bs) (b := l) (by omega) B31 hcl (by omega) (by omega) (by omega) (Nat.le_refl _) (lower _ (by omega) (by omega) (Nat.le_refl _)) (upper _ (by omega) (Nat.le_refl _) (by omega)) fun es' h47 B47 sg so o47 => ?_)
            exact ⟨_, es', rfl, B47, sg.perm.trans pm31, more _ _ (Nat.le_refl _) (by omega) (by omega) sg so, o31.trans o47⟩
          · exact ⟨_, cs, rfl, B31, pm31, more l cs (Nat.le_refl _) ha (by omega) (SegOk.refl _ _ _) (lower l ha (Nat.le_refl _) (by omega)), o31⟩
        rintro v48 g49 h50 ⟨w, es', e, B50, pm50, bl50, o50⟩
        cases e
        have h3 : IntKind.i64.wrap ((bs : Int) * 2) = ((2 * bs : Nat) : Int) := by rw [wrap64_id' (by omega) (by omega)]; omega
        rw [h3]
        refine ⟨⟨2 * bs, _, _, _, es', rfl, by omega, B50, pm50, bl50, o50⟩, ?_⟩
        show 80 - ((2 * bs : Nat) : Int).toNat < 80 - (bs : Int).toNat
        omega
    · have hdl : ds.length = l := by rw [pm23.length_eq, hl]
      refine k ds _ B23 pm23 ((sorted_vl (by omega)).2 fun p q _ c2 c3 => bl23 p q c2 c3 ?_) o23
      rw [Nat.div_eq_of_lt (by omega), Nat.div_eq_of_lt (by omega)]
end Go.Proofs.Ytgladmaagpcffaa
