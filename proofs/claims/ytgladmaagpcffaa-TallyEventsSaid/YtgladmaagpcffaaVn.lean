/- A region that draws its order: reads first. (4) The region; then code, whole. -/
import Derived.Test.YtgladmaagpcffaaVm
set_option linter.unusedSimpArgs false
set_option linter.unusedVariables false
namespace Go.Proofs.Ytgladmaagpcffaa
section
variable {P : Program} {ops : Array Oper}

theorem ldNL_out {h : Heap} {a : Addr} (n : Nat) : ∀ {i : Nat} {acc : List Value} {L : List (Addr × Value)} {F : List Value → List (Addr × Value) → Prop}, ldNL h a i n acc L F →
    ∃ cs L', F cs (L.reverse ++ L') ∧ HoldsIn L' h ∧ ∀ h2, HoldsIn L' h2 → ∀ G : List Value → Prop, G cs → ldN h2 a i n acc G := by
  induction n with
  | zero =>
    intro i acc L F H
    refine ⟨acc.reverse, [], ?_, fun x hx => (by cases hx), fun h2 _ G g => g⟩
    have H2 : F acc.reverse L.reverse := H
    simpa using H2
  | succ n ih =>
    intro i acc L F H
    obtain ⟨v, hv, H⟩ := ldH_out H
    obtain ⟨cs, L', h1, h2, h3⟩ := ih H
    refine ⟨cs, (a.add i, v) :: L', by simpa using h1, ?_, ?_⟩
    · intro x hx
      rcases List.mem_cons.1 hx with rfl | hx
      · exact hv
      · exact h2 x hx
    · intro h4 hL G g
      have e : cellAt h4 (a.add i) = some v := hL (a.add i, v) (by simp)
      show ldH h4 (a.add i) _
      unfold ldH; rw [e]
      exact h3 h4 (fun x hx => hL x (by simp [hx])) G g
theorem vopR_out {ρ : Operand → Value} {o : Oper} {h : Heap} {F : Value → List (Addr × Value) → Prop} (hr : isRead P o = true) (H : vopR P ρ o h F) :
    ∃ v L, RdAs P ρ o L v ∧ HoldsIn L h ∧ F v L := by
  unfold vopR at H
  split at H
  · rename_i t x hx
    obtain ⟨a, ha, H⟩ := asPtr_out H
    split at H
    · rename_i hth
      split at H
      · rename_i hagg
        obtain ⟨cs, L', h1, h2, h3⟩ := ldNL_out _ H
        refine ⟨_, L', ?_, h2, by simpa using h1⟩
        intro h4 hL K hk
        unfold vop; rw [hx]; simp only [ha, asPtr, if_pos hth, if_pos hagg]
        exact h3 h4 hL _ hk
      · rename_i hagg
        obtain ⟨v, hv, H⟩ := ldH_out H
        refine ⟨v, [(a, v)], ?_, fun x hx => by simp at hx; subst hx; exact hv, H⟩
        intro h4 hL K hk
        have e : cellAt h4 a = some v := hL (a, v) (by simp)
        unfold vop; rw [hx]; simp only [ha, asPtr, if_pos hth, if_neg hagg, ldH, e]
        exact hk
    · exact H.elim
  · rename_i hn
    obtain ⟨v, h1, h2⟩ := vop_read (G := fun v => F v []) hr (fun t x e => hn t x e) H
    exact ⟨v, [], h2, fun x hx => (by cases hx), h1⟩

def oblOf (ops : Array Oper) (held : Held) (e : Nat) (h : Heap) : Prop := ∀ x ∈ held, (∀ m, waitsB ops m e x.1 = false) → HoldsIn x.2 h
theorem holdsL_out {h : Heap} {X : Prop} (L : List (Addr × Value)) (H : holdsL h L X) : HoldsIn L h ∧ X := by
  induction L with
  | nil => exact ⟨fun x hx => (by cases hx), H⟩
  | cons p L ih =>
    obtain ⟨h1, h2⟩ := ih H.2
    refine ⟨fun x hx => ?_, h2⟩
    rcases List.mem_cons.1 hx with rfl | hx
    · exact H.1
    · exact h1 x hx
theorem waits_tail {k j : Nat} {o : Oper} (ho : ops[k]? = some o) (hj : j ∈ predsOf o) : ∀ (m e : Nat), waitsB ops m e k = true → waitsB ops (m + 1) e j = true := by
  have edge : waitsB ops 1 k j = true := by
    unfold predsOf at hj
    obtain ⟨ed, hed, he⟩ := List.mem_filterMap.1 hj
    unfold waitsB
    rw [ho]
    refine Array.any_eq_true'.2 ⟨ed, by simpa using hed, ?_⟩
    cases hb : Region.binds .any ed with
    | false => rw [hb] at he; cases he
    | true => rw [hb] at he; cases he; simp
  have up : ∀ (m e i : Nat), waitsB ops m e i = true → waitsB ops (m + 1) e i = true := by
    intro m
    induction m with
    | zero => intro e i h; simp [waitsB] at h
    | succ m ih =>
      intro e i h
      unfold waitsB at h ⊢
      split at h
      · cases h
      · obtain ⟨ed, hed, hb⟩ := Array.any_eq_true'.1 h
        refine Array.any_eq_true'.2 ⟨ed, hed, ?_⟩
        simp only [Bool.and_eq_true, Bool.or_eq_true] at hb ⊢
        exact ⟨hb.1, hb.2.imp id (ih _ _)⟩
  intro m
  induction m with
  | zero => intro e h; simp [waitsB] at h
  | succ m ih =>
    intro e h
    unfold waitsB at h ⊢
    split at h
    · cases h
    · obtain ⟨ed, hed, hb⟩ := Array.any_eq_true'.1 h
      refine Array.any_eq_true'.2 ⟨ed, hed, ?_⟩
      simp only [Bool.and_eq_true, Bool.or_eq_true, beq_iff_eq] at hb ⊢
      refine ⟨hb.1, .inr ?_⟩
      rcases hb.2 with h2 | h2
      · rw [h2]
        have : ∀ n, waitsB ops (n + 1) k j = true := fun n => by
          induction n with
          | zero => exact edge
          | succ n ih => exact up _ _ _ ih
        exact this m
      · exact ih _ h2
theorem waits_edge {e k j : Nat} {o : Oper} (ho : ops[k]? = some o) (hj : j ∈ predsOf o) (h : k = e ∨ ∃ m, waitsB ops m e k = true) : ∃ m, waitsB ops m e j = true := by
  rcases h with rfl | ⟨m, h⟩
  · unfold predsOf at hj
    obtain ⟨ed, hed, he⟩ := List.mem_filterMap.1 hj
    refine ⟨1, ?_⟩
    unfold waitsB
    rw [ho]
    refine Array.any_eq_true'.2 ⟨ed, by simpa using hed, ?_⟩
    cases hb : Region.binds .any ed with
    | false => rw [hb] at he; cases he
    | true => rw [hb] at he; cases he; simp
  · exact ⟨m + 1, waits_tail ho hj m e h⟩
theorem reachB_sound {e i : Nat} : ∀ (n : Nat) (st : List Nat) (vis : Nat), (∀ k ∈ st, k = e ∨ ∃ m, waitsB ops m e k = true) → reachB ops i n st vis = true → ∃ m, waitsB ops m e i = true := by
  intro n
  induction n with
  | zero => intro st vis _ h; simp [reachB] at h
  | succ n ih =>
    intro st vis hst h
    cases st with
    | nil => simp [reachB] at h
    | cons k st =>
      unfold reachB at h
      have hst' : ∀ k ∈ st, k = e ∨ ∃ m, waitsB ops m e k = true := fun x hx => hst x (by simp [hx])
      split at h
      · exact ih _ _ hst' h
      · split at h
        · exact ih _ _ hst' h
        · rename_i o ho
          have hk := hst k (by simp)
          split at h
          · rename_i ha
            obtain ⟨j, hj, hji⟩ := List.any_eq_true.1 ha
            obtain rfl := Nat.eq_of_beq_eq_true hji
            exact waits_edge ho hj hk
          · refine ih _ _ (fun x hx => ?_) h
            rcases List.mem_append.1 hx with hx | hx
            · exact .inr (waits_edge ho hx hk)
            · exact hst' x hx
theorem heldOK_out {e : Nat} {h : Heap} {X : Prop} (held : Held) (H : heldOK ops e h held X) : oblOf ops held e h ∧ X := by
  induction held with
  | nil => exact ⟨fun x hx => (by cases hx), H⟩
  | cons p held ih =>
    obtain ⟨i, L⟩ := p
    unfold heldOK at H
    split at H
    · rename_i hw
      obtain ⟨h1, h2⟩ := ih H
      refine ⟨fun x hx hx2 => ?_, h2⟩
      rcases List.mem_cons.1 hx with rfl | hx
      · obtain ⟨m, hm⟩ := reachB_sound _ _ _ (fun k hk => .inl (by simpa using hk)) hw
        rw [hx2 m] at hm; cases hm
      · exact h1 x hx hx2
    · obtain ⟨h0, H⟩ := holdsL_out _ H
      obtain ⟨h1, h2⟩ := ih H
      refine ⟨fun x hx hx2 => ?_, h2⟩
      rcases List.mem_cons.1 hx with rfl | hx
      · exact h0
      · exact h1 x hx hx2
theorem AllL_out {F : Nat → Prop} : ∀ (l : List Nat), AllL l F → ∀ i ∈ l, F i
  | [], _, i, hi => by cases hi
  | [j], H, i, hi => by simp at hi; subst hi; exact H
  | j :: k :: l, H, i, hi => by
    rcases List.mem_cons.1 hi with rfl | hi
    · exact H.1
    · exact AllL_out (k :: l) H.2 i hi

theorem vdraw_anyO (hp0 : ∀ (j : Nat) (o : Oper), ops[j]? = some o → plainOp o = true) {K : Env → Heap → Prop} (n : Nat) : ∀ (listed : Array Bool) (held : Held) (ρ : Env) (h : Heap), Closed ops listed →
    vdraw P ops n listed held ρ h K → anyO P ops K n (oblOf ops held) listed ρ h := by
  induction n with
  | zero =>
    intro listed held ρ h hcl H
    unfold vdraw at H
    split at H
    · exact ⟨‹_›, H⟩
    · exact H.elim
  | succ n ih =>
    intro listed held ρ h hcl H
    unfold vdraw at H
    split at H
    · rename_i i hi
      split at H
      · exact H.elim
      · rename_i o ho
        unfold pickRead at hi
        have hmem := List.mem_of_find?_eq_some hi
        have hpr := List.find?_some hi
        rw [ho] at hpr
        simp only [Bool.and_eq_true] at hpr
        have H := vguard_out H
        have hfr := Region.free_spec ho hpr.2
        split at H
        · rename_i hw
          obtain ⟨v, L, h1, h2, h3⟩ := vopR_out hpr.1 H
          refine anyO_first (L := L) ho hp0 n (oblOf ops held) listed ρ h hfr hcl hmem (.inl ⟨hw, h1⟩) h2 ?_
          refine anyO_mono _ ?_ (ih _ _ _ _ (hcl.set hmem) (tyO_out h3))
          intro e h' hob
          refine ⟨fun hwt => ?_, fun x hx hx2 => ?_⟩
          · cases L with
            | nil => exact fun x hx => (by cases hx)
            | cons p L => exact hob (i, p :: L) (by simp) hwt
          · cases L with
            | nil => exact hob x hx hx2
            | cons p L => exact hob x (by simp [hx]) hx2
        · rename_i hw
          refine anyO_first (L := []) ho hp0 n (oblOf ops held) listed ρ h hfr hcl hmem (.inr ⟨by simpa using hw, rfl⟩) (fun x hx => by cases hx) ?_
          refine anyO_mono _ ?_ (ih _ _ _ _ (hcl.set hmem) H)
          intro e h' hob
          exact ⟨fun _ x hx => (by cases hx), hob⟩
    · split at H
      · rename_i hr
        exact ⟨fun _ => H, fun i hi => by rw [hr] at hi; cases hi⟩
      · rename_i hne
        refine ⟨fun hr => absurd hr (by simpa using hne), fun e he => ?_⟩
        have H := AllL_out _ H e he
        split at H
        · exact H.elim
        · rename_i o ho
          have H := vguard_out H
          unfold pstep; rw [ho]; simp only
          split at H
          · rename_i hw
            rw [if_pos hw]
            refine vop_mono (fun v h' x => ?_) H
            obtain ⟨h1, h2⟩ := heldOK_out _ (tyO_out x)
            exact ⟨.inr h1, ih _ _ _ _ (hcl.set he) h2⟩
          · rename_i hw
            rw [if_neg hw]
            obtain ⟨h1, h2⟩ := heldOK_out _ H
            exact ⟨.inl trivial, ih _ _ _ _ (hcl.set he) h2⟩

theorem anyO_wpAnyIn {n : Nat} {r : Option Nat} {Q : Exit → Act → World → Prop} (ho : opsOk n ops = true) {ws : List Nat} (hws : ∀ (i : Nat) (o : Oper), ops[i]? = some o → ∀ d, o.dst = some d → d ∈ ws) {K : Env → Heap → Prop} (m : Nat) : ∀ (obl : Nat → Heap → Prop) (listed : Array Bool) (ρ : Env) (h : Heap) (a : Act) (w : World),
    anyO P ops K m obl listed ρ h → Rl n a.tmps ρ → w.heap = h → (∀ ρ' a' w', K ρ' w'.heap → Rl n a'.tmps ρ' → SmT ws a.tmps a'.tmps → a'.defers = a.defers → Kw w w' → Q .normal a' w') →
    wpAnyIn (FW r) 0 P .any ops Q m listed a w := by
  induction m with
  | zero => intro obl listed ρ h a w H hR hw hQ; subst hw; exact ⟨H.1, hQ _ _ _ H.2 hR (SmT.refl _ _) rfl (Kw.refl _)⟩
  | succ m ih =>
    intro obl listed ρ h a w H hR hw hQ
    refine ⟨fun hr => by subst hw; exact hQ _ _ _ (H.1 hr) hR (SmT.refl _ _) rfl (Kw.refl _), fun i hi => ?_⟩
    refine pstep_wpOpIn (n := n) (H.2 i hi) hR hw (fun o' ho' => opsOk_at ho i o' ho') (hws i) ?_
    intro ρ' a' w' x hR' hs hd hkd
    exact ih _ _ ρ' _ a' w' x.2 hR' rfl fun ρ'' a'' w'' hK hR'' hs' hd' hkd' => hQ ρ'' a'' w'' hK hR'' (hs.trans hs') (hd'.trans hd) (hkd.trans hkd')

theorem plain_of_ok {n : Nat} (ho : opsOk n ops = true) (j : Nat) (o : Oper) (hj : ops[j]? = some o) : plainOp o = true := by
  have := opsOk_at ho j o hj
  unfold opOk at this; simp at this; exact this.1
theorem vdraw_wpIn {n : Nat} {r : Option Nat} {id : Nat} {Q : Exit → Act → World → Prop} {ρ : Env} {h : Heap} {a : Act} {w : World} (hm : P.follows .mixedOrders = true) (ho : opsOk n ops = true) {ws : List Nat} (hws : ∀ (i : Nat) (o : Oper), ops[i]? = some o → ∀ d, o.dst = some d → d ∈ ws) {K : Env → Heap → Prop}
    (H : vdraw P ops ops.size (Array.replicate ops.size false) [] ρ h K) (hR : Rl n a.tmps ρ) (hw : w.heap = h)
    (hQ : ∀ ρ' a' w', K ρ' w'.heap → Rl n a'.tmps ρ' → SmT ws a.tmps a'.tmps → a'.defers = a.defers → Kw w w' → Q .normal a' w') : (Code.region id ops true).wpIn (FW r) 0 P Q a w := by
  refine wpIn_region_any hm ?_
  have hcl : Closed ops (Array.replicate ops.size false) := by
    intro k o hk ho e he hb
    rw [getD_replicate_false'] at hk; cases hk
  exact anyO_wpAnyIn ho hws _ _ _ ρ h a _ (vdraw_anyO (plain_of_ok ho) _ _ _ _ _ hcl H) hR hw hQ
where
  getD_replicate_false' (m j : Nat) : (Array.replicate m false).getD j false = false := by
    simp [Array.getD_eq_getD_getElem?, Array.getElem?_replicate]; split <;> rfl
end
end Go.Proofs.Ytgladmaagpcffaa
