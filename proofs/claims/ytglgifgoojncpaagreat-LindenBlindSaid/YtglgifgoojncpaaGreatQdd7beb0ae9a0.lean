/- Part 2 of what the proofs of this seat rest on: see the last text of the claim. -/
import Derived.Test.YtglgifgoojncpaaGreatQ0b179c30de5d
set_option linter.unusedSimpArgs false
set_option linter.unusedVariables false
set_option linter.ambiguousOpen false
set_option maxRecDepth 20000
namespace Go.Proofs.YtglgifgoojncpaaGreat
section
section
variable {P : Program} {ops : Array Oper}
theorem ldNL_out {h : Heap} {a : Addr} (n : Nat) : ∀ {i : Nat} {acc : List Value} {L : List (Addr × Value)} {F : List Value → List (Addr × Value) → Prop}, ldNL h a i n acc L F →
    ∃ cs L', F cs (L.reverse ++ L') ∧ HoldsIn L' h ∧ ∀ h2, HoldsIn L' h2 → ∀ G : List Value → Prop, G cs → ldN h2 a i n acc G := by
  induction n with
  | zero =>
    intro i acc L F H
    refine ⟨acc.reverse, [], ?_, fun x hx => (by cases hx), fun h2 _ G g => g⟩
    have H2 : F acc.reverse L.reverse := H
    simpa using H2
  | succ n ih =>
    intro i acc L F H
    obtain ⟨v, hv, H⟩ := ldH_out H
    obtain ⟨cs, L', h1, h2, h3⟩ := ih H
    refine ⟨cs, (a.add i, v) :: L', by simpa using h1, ?_, ?_⟩
    · intro x hx
      rcases List.mem_cons.1 hx with rfl | hx
      · exact hv
      · exact h2 x hx
    · intro h4 hL G g
      have e : cellAt h4 (a.add i) = some v := hL (a.add i, v) (by simp)
      show ldH h4 (a.add i) _
      unfold ldH; rw [e]
      exact h3 h4 (fun x hx => hL x (by simp [hx])) G g
theorem vopR_out {ρ : Operand → Value} {o : Oper} {h : Heap} {F : Value → List (Addr × Value) → Prop} (hr : isRead P o = true) (H : vopR P ρ o h F) :
    ∃ v L, RdAs P ρ o L v ∧ HoldsIn L h ∧ F v L := by
  unfold vopR at H
  split at H
  · rename_i t x hx
    obtain ⟨a, ha, H⟩ := asPtr_out H
    split at H
    · rename_i hth
      split at H
      · rename_i hagg
        obtain ⟨cs, L', h1, h2, h3⟩ := ldNL_out _ H
        refine ⟨_, L', ?_, h2, by simpa using h1⟩
        intro h4 hL K hk
        unfold vop; rw [hx]; simp only [ha, asPtr, if_pos hth, if_pos hagg]
        exact h3 h4 hL _ hk
      · rename_i hagg
        obtain ⟨v, hv, H⟩ := ldH_out H
        refine ⟨v, [(a, v)], ?_, fun x hx => by simp at hx; subst hx; exact hv, H⟩
        intro h4 hL K hk
        have e : cellAt h4 a = some v := hL (a, v) (by simp)
        unfold vop; rw [hx]; simp only [ha, asPtr, if_pos hth, if_neg hagg, ldH, e]
        exact hk
    · exact H.elim
  · rename_i hn
    obtain ⟨v, h1, h2⟩ := vop_read (G := fun v => F v []) hr (fun t x e => hn t x e) H
    exact ⟨v, [], h2, fun x hx => (by cases hx), h1⟩
def oblOf (ops : Array Oper) (held : Held) (e : Nat) (h : Heap) : Prop := ∀ x ∈ held, (∀ m, waitsB ops m e x.1 = false) → HoldsIn x.2 h
theorem holdsL_out {h : Heap} {X : Prop} (L : List (Addr × Value)) (H : holdsL h L X) : HoldsIn L h ∧ X := by
  induction L with
  | nil => exact ⟨fun x hx => (by cases hx), H⟩
  | cons p L ih =>
    obtain ⟨h1, h2⟩ := ih H.2
    refine ⟨fun x hx => ?_, h2⟩
    rcases List.mem_cons.1 hx with rfl | hx
    · exact H.1
    · exact h1 x hx
theorem waits_tail {k j : Nat} {o : Oper} (ho : ops[k]? = some o) (hj : j ∈ predsOf o) : ∀ (m e : Nat), waitsB ops m e k = true → waitsB ops (m + 1) e j = true := by
  have edge : waitsB ops 1 k j = true := by
    unfold predsOf at hj
    obtain ⟨ed, hed, he⟩ := List.mem_filterMap.1 hj
    unfold waitsB
    rw [ho]
    refine Array.any_eq_true'.2 ⟨ed, by simpa using hed, ?_⟩
    cases hb : Region.binds .any ed with
    | false => rw [hb] at he; cases he
    | true => rw [hb] at he; cases he; simp
  have up : ∀ (m e i : Nat), waitsB ops m e i = true → waitsB ops (m + 1) e i = true := by
    intro m
    induction m with
    | zero => intro e i h; simp [waitsB] at h
    | succ m ih =>
      intro e i h
      unfold waitsB at h ⊢
      split at h
      · cases h
      · obtain ⟨ed, hed, hb⟩ := Array.any_eq_true'.1 h
        refine Array.any_eq_true'.2 ⟨ed, hed, ?_⟩
        simp only [Bool.and_eq_true, Bool.or_eq_true] at hb ⊢
        exact ⟨hb.1, hb.2.imp id (ih _ _)⟩
  intro m
  induction m with
  | zero => intro e h; simp [waitsB] at h
  | succ m ih =>
    intro e h
    unfold waitsB at h ⊢
    split at h
    · cases h
    · obtain ⟨ed, hed, hb⟩ := Array.any_eq_true'.1 h
      refine Array.any_eq_true'.2 ⟨ed, hed, ?_⟩
      simp only [Bool.and_eq_true, Bool.or_eq_true, beq_iff_eq] at hb ⊢
      refine ⟨hb.1, .inr ?_⟩
      rcases hb.2 with h2 | h2
      · rw [h2]
        have : ∀ n, waitsB ops (n + 1) k j = true := fun n => by
          induction n with
          | zero => exact edge
          | succ n ih => exact up _ _ _ ih
        exact this m
      · exact ih _ h2
theorem waits_edge {e k j : Nat} {o : Oper} (ho : ops[k]? = some o) (hj : j ∈ predsOf o) (h : k = e ∨ ∃ m, waitsB ops m e k = true) : ∃ m, waitsB ops m e j = true := by
  rcases h with rfl | ⟨m, h⟩
  · unfold predsOf at hj
    obtain ⟨ed, hed, he⟩ := List.mem_filterMap.1 hj
    refine ⟨1, ?_⟩
    unfold waitsB
    rw [ho]
    refine Array.any_eq_true'.2 ⟨ed, by simpa using hed, ?_⟩
    cases hb : Region.binds .any ed with
    | false => rw [hb] at he; cases he
    | true => rw [hb] at he; cases he; simp
  · exact ⟨m + 1, waits_tail ho hj m e h⟩
theorem reachB_sound {e i : Nat} : ∀ (n : Nat) (st : List Nat) (vis : Nat), (∀ k ∈ st, k = e ∨ ∃ m, waitsB ops m e k = true) → reachB ops i n st vis = true → ∃ m, waitsB ops m e i = true := by
  intro n
  induction n with
  | zero => intro st vis _ h; simp [reachB] at h
  | succ n ih =>
    intro st vis hst h
    cases st with
    | nil => simp [reachB] at h
    | cons k st =>
      unfold reachB at h
      have hst' : ∀ k ∈ st, k = e ∨ ∃ m, waitsB ops m e k = true := fun x hx => hst x (by simp [hx])
      split at h
      · exact ih _ _ hst' h
      · split at h
        · exact ih _ _ hst' h
        · rename_i o ho
          have hk := hst k (by simp)
          split at h
          · rename_i ha
            obtain ⟨j, hj, hji⟩ := List.any_eq_true.1 ha
            obtain rfl := Nat.eq_of_beq_eq_true hji
            exact waits_edge ho hj hk
          · refine ih _ _ (fun x hx => ?_) h
            rcases List.mem_append.1 hx with hx | hx
            · exact .inr (waits_edge ho hx hk)
            · exact hst' x hx
theorem heldOK_out {e : Nat} {h : Heap} {X : Prop} (held : Held) (H : heldOK ops e h held X) : oblOf ops held e h ∧ X := by
  induction held with
  | nil => exact ⟨fun x hx => (by cases hx), H⟩
  | cons p held ih =>
    obtain ⟨i, L⟩ := p
    unfold heldOK at H
    split at H
    · rename_i hw
      obtain ⟨h1, h2⟩ := ih H
      refine ⟨fun x hx hx2 => ?_, h2⟩
      rcases List.mem_cons.1 hx with rfl | hx
      · obtain ⟨m, hm⟩ := reachB_sound _ _ _ (fun k hk => .inl (by simpa using hk)) hw
        rw [hx2 m] at hm; cases hm
      · exact h1 x hx hx2
    · obtain ⟨h0, H⟩ := holdsL_out _ H
      obtain ⟨h1, h2⟩ := ih H
      refine ⟨fun x hx hx2 => ?_, h2⟩
      rcases List.mem_cons.1 hx with rfl | hx
      · exact h0
      · exact h1 x hx hx2
theorem AllL_out {F : Nat → Prop} : ∀ (l : List Nat), AllL l F → ∀ i ∈ l, F i
  | [], _, i, hi => by cases hi
  | [j], H, i, hi => by simp at hi; subst hi; exact H
  | j :: k :: l, H, i, hi => by
    rcases List.mem_cons.1 hi with rfl | hi
    · exact H.1
    · exact AllL_out (k :: l) H.2 i hi
theorem vdraw_anyO (hp0 : ∀ (j : Nat) (o : Oper), ops[j]? = some o → plainOp o = true) {K : Env → Heap → Prop} (n : Nat) : ∀ (listed : Array Bool) (held : Held) (ρ : Env) (h : Heap), Closed ops listed →
    vdraw P ops n listed held ρ h K → anyO P ops K n (oblOf ops held) listed ρ h := by
  induction n with
  | zero =>
    intro listed held ρ h hcl H
    unfold vdraw at H
    split at H
    · exact ⟨‹_›, H⟩
    · exact H.elim
  | succ n ih =>
    intro listed held ρ h hcl H
    unfold vdraw at H
    split at H
    · rename_i i hi
      split at H
      · exact H.elim
      · rename_i o ho
        unfold pickRead at hi
        have hmem := List.mem_of_find?_eq_some hi
        have hpr := List.find?_some hi
        rw [ho] at hpr
        simp only [Bool.and_eq_true] at hpr
        have H := vguard_out H
        have hfr := Region.free_spec ho hpr.2
        split at H
        · rename_i hw
          obtain ⟨v, L, h1, h2, h3⟩ := vopR_out hpr.1 H
          refine anyO_first (L := L) ho hp0 n (oblOf ops held) listed ρ h hfr hcl hmem (.inl ⟨hw, h1⟩) h2 ?_
          refine anyO_mono _ ?_ (ih _ _ _ _ (hcl.set hmem) (tyO_out h3))
          intro e h' hob
          refine ⟨fun hwt => ?_, fun x hx hx2 => ?_⟩
          · cases L with
            | nil => exact fun x hx => (by cases hx)
            | cons p L => exact hob (i, p :: L) (by simp) hwt
          · cases L with
            | nil => exact hob x hx hx2
            | cons p L => exact hob x (by simp [hx]) hx2
        · rename_i hw
          refine anyO_first (L := []) ho hp0 n (oblOf ops held) listed ρ h hfr hcl hmem (.inr ⟨by simpa using hw, rfl⟩) (fun x hx => by cases hx) ?_
          refine anyO_mono _ ?_ (ih _ _ _ _ (hcl.set hmem) H)
          intro e h' hob
          exact ⟨fun _ x hx => (by cases hx), hob⟩
    · split at H
      · rename_i hr
        exact ⟨fun _ => H, fun i hi => by rw [hr] at hi; cases hi⟩
      · rename_i hne
        refine ⟨fun hr => absurd hr (by simpa using hne), fun e he => ?_⟩
        have H := AllL_out _ H e he
        split at H
        · exact H.elim
        · rename_i o ho
          have H := vguard_out H
          unfold pstep; rw [ho]; simp only
          split at H
          · rename_i hw
            rw [if_pos hw]
            refine vop_mono (fun v h' x => ?_) H
            obtain ⟨h1, h2⟩ := heldOK_out _ (tyO_out x)
            exact ⟨.inr h1, ih _ _ _ _ (hcl.set he) h2⟩
          · rename_i hw
            rw [if_neg hw]
            obtain ⟨h1, h2⟩ := heldOK_out _ H
            exact ⟨.inl trivial, ih _ _ _ _ (hcl.set he) h2⟩
theorem anyO_wpAnyIn {n : Nat} {r : Option Nat} {Q : Exit → Act → World → Prop} (ho : opsOk n ops = true) {ws : List Nat} (hws : ∀ (i : Nat) (o : Oper), ops[i]? = some o → ∀ d, o.dst = some d → d ∈ ws) {K : Env → Heap → Prop} (m : Nat) : ∀ (obl : Nat → Heap → Prop) (listed : Array Bool) (ρ : Env) (h : Heap) (a : Act) (w : World),
    anyO P ops K m obl listed ρ h → Rl n a.tmps ρ → w.heap = h → (∀ ρ' a' w', K ρ' w'.heap → Rl n a'.tmps ρ' → SmT ws a.tmps a'.tmps → a'.defers = a.defers → Kw w w' → Q .normal a' w') →
    wpAnyIn (FW r) 0 P .any ops Q m listed a w := by
  induction m with
  | zero => intro obl listed ρ h a w H hR hw hQ; subst hw; exact ⟨H.1, hQ _ _ _ H.2 hR (SmT.refl _ _) rfl (Kw.refl _)⟩
  | succ m ih =>
    intro obl listed ρ h a w H hR hw hQ
    refine ⟨fun hr => by subst hw; exact hQ _ _ _ (H.1 hr) hR (SmT.refl _ _) rfl (Kw.refl _), fun i hi => ?_⟩
    refine pstep_wpOpIn (n := n) (H.2 i hi) hR hw (fun o' ho' => opsOk_at ho i o' ho') (hws i) ?_
    intro ρ' a' w' x hR' hs hd hkd
    exact ih _ _ ρ' _ a' w' x.2 hR' rfl fun ρ'' a'' w'' hK hR'' hs' hd' hkd' => hQ ρ'' a'' w'' hK hR'' (hs.trans hs') (hd'.trans hd) (hkd.trans hkd')
theorem plain_of_ok {n : Nat} (ho : opsOk n ops = true) (j : Nat) (o : Oper) (hj : ops[j]? = some o) : plainOp o = true := by
  have := opsOk_at ho j o hj
  unfold opOk at this; simp at this; exact this.1
theorem vdraw_wpIn {n : Nat} {r : Option Nat} {id : Nat} {Q : Exit → Act → World → Prop} {ρ : Env} {h : Heap} {a : Act} {w : World} (hm : P.follows .mixedOrders = true) (ho : opsOk n ops = true) {ws : List Nat} (hws : ∀ (i : Nat) (o : Oper), ops[i]? = some o → ∀ d, o.dst = some d → d ∈ ws) {K : Env → Heap → Prop}
    (H : vdraw P ops ops.size (Array.replicate ops.size false) [] ρ h K) (hR : Rl n a.tmps ρ) (hw : w.heap = h)
    (hQ : ∀ ρ' a' w', K ρ' w'.heap → Rl n a'.tmps ρ' → SmT ws a.tmps a'.tmps → a'.defers = a.defers → Kw w w' → Q .normal a' w') : (Code.region id ops true).wpIn (FW r) 0 P Q a w := by
  refine wpIn_region_any hm ?_
  have hcl : Closed ops (Array.replicate ops.size false) := by
    intro k o hk ho e he hb
    rw [getD_replicate_false'] at hk; cases hk
  exact anyO_wpAnyIn ho hws _ _ _ ρ h a _ (vdraw_anyO (plain_of_ok ho) _ _ _ _ _ hcl H) hR hw hQ
where
  getD_replicate_false' (m j : Nat) : (Array.replicate m false).getD j false = false := by
    simp [Array.getD_eq_getD_getElem?, Array.getElem?_replicate]; split <;> rfl
end
end
section
section
variable {P : Program} {n : Nat} {r : Option Nat}
theorem stepR_scope {b : Frame} {a : Act} {k : List Item} {cs : List Frame} {w : World} {c : Code} : step P (lone (b.atR a (.code (.scope c) :: k)) cs w) = .next (lone (b.atR a (.code c :: .inScope c :: k)) cs w) :=
  step_lone_go (by simp [stepG, stepG.exec, Frame.atR])
theorem stepR_inScope {b : Frame} {a : Act} {k : List Item} {cs : List Frame} {w : World} {c : Code} : step P (lone (b.atR a (.inScope c :: k)) cs w) = .next (lone (b.atR a k) cs w) :=
  step_lone_go (by simp [stepG, stepG.exec, Frame.atR])
theorem wpIn_scope' {F : Fence} {m : Nat} {c : Code} {Q : Exit → Act → World → Prop} {a : Act} {w : World} (hg : ∀ l a w, ¬ Q (.goto l) a w) (h : c.wpIn F m P Q a w) : (Code.scope c).wpIn F m P Q a w := by
  intro b k cs hro hb hr
  have h0 : (lone (b.atR a (.code (.scope c) :: k)) cs w).fenced P F := fenced_calm hb hr rfl
  obtain ⟨e, a₁, w₁, hq, harr⟩ := h b (.inScope c :: k) cs hro hb hr
  have hx : ∀ id, exitTo id (.inScope c :: k) = exitTo id k := fun id => by simp [exitTo]
  cases e with
  | normal => exact ⟨.normal, a₁, w₁, hq, .head h0 stepR_scope (StepsIn.trans harr (.one (fenced_calm (fr := b.atR a₁ (.inScope c :: k)) hb hr rfl) stepR_inScope))⟩
  | exit id =>
    exact ⟨.exit id, a₁, w₁, hq, fun k' hk => .head h0 stepR_scope (harr.1 k' (by rw [hx]; exact hk)),
      fun hr' hk => let ⟨k₁, h1, h2⟩ := harr.2 hr' (by rw [hx]; exact hk); ⟨k₁, h1, .head h0 stepR_scope h2⟩⟩
  | goto l => exact (hg _ _ _ hq).elim
  | ret => exact ⟨.ret, a₁, w₁, hq, .of_steps (.one h0 stepR_scope) harr⟩
  | panic ch => exact ⟨.panic ch, a₁, w₁, hq, .of_steps (.one h0 stepR_scope) harr⟩
  | outgrown => exact ⟨.outgrown, a₁, w₁, hq, .of_steps (.one h0 stepR_scope) harr⟩
def codeOk (n : Nat) : Bool → Code → Bool
  | _, .region _ ops _ => opsOk n ops
  | b, .seq x y | b, .cond _ x y => codeOk n b x && codeOk n b y
  | b, .block _ x | b, .loop x | b, .scope x => codeOk n b x
  | b, .rangeFunc _ ps as x => b && ps.toList.all (fun p => decide (p < n)) && (match opsOfC as with | some ops => ops.all (opOk n) | none => false) && codeOk n false x
  | _, _ => true
def mkD (D : Nat) : Deferred := { target := .collected D, args := #[] }
def DInv (B : Nat → Prop) (ds : List Deferred) (h : Heap) : Prop := ∃ ms : List Nat, ds = ms.map mkD ∧ ms.Nodup ∧ ∀ D ∈ ms, B D ∧ h[D]? = some (.deferred (some []))
theorem DInv.kd {B : Nat → Prop} {ds : List Deferred} {h h' : Heap} (H : DInv B ds h) (hk : Kd h h') : DInv B ds h' := by
  obtain ⟨ms, h1, h2, h3⟩ := H; exact ⟨ms, h1, h2, fun D hD => ⟨(h3 D hD).1, hk.2 D (h3 D hD).2⟩⟩
def wQ (n : Nat) (B : Nat → Prop) (h0 : World) (Q : Exit → Env → Heap → Prop) : Exit → Act → World → Prop := fun e a w =>
  match e with
  | .panic _ | .outgrown | .goto _ => False
  | e => ∃ ρ, Rl n a.tmps ρ ∧ DInv B a.defers w.heap ∧ Kw h0 w ∧ Q e ρ w.heap
theorem wQ_mk {B : Nat → Prop} {h0 : World} {Q : Exit → Env → Heap → Prop} {e : Exit} {a : Act} {w : World} {ρ : Env} (he : e = .normal ∨ e = .ret ∨ ∃ id, e = .exit id) (hR : Rl n a.tmps ρ) (hd : DInv B a.defers w.heap) (hk : Kw h0 w) (hq : Q e ρ w.heap) : wQ n B h0 Q e a w := by
  rcases he with rfl | rfl | ⟨id, rfl⟩ <;> exact ⟨ρ, hR, hd, hk, hq⟩
theorem AllV_out {F : List Value → Prop} : ∀ (k : Nat) (F : List Value → Prop), AllV k F → ∀ vs : List Value, vs.length = k → F vs
  | 0, F, H, vs, hv => by cases vs <;> simp at hv; exact H
  | k + 1, F, H, vs, hv => by
    cases vs with
    | nil => simp at hv
    | cons v vs => exact AllV_out (F := F) k (fun vs => F (v :: vs)) (H v) vs (by simpa using hv)
theorem lookE_map (ρ : Env) (vars : List Nat) (j : Nat) (d : Value) : lookE vars (vars.map ρ) j d = if j ∈ vars then ρ j else d := by
  induction vars with
  | nil => rfl
  | cons x xs ih =>
    simp only [List.map_cons, lookE]
    cases hb : Nat.beq j x with
    | true =>
      have e := Nat.eq_of_beq_eq_true hb
      subst e; simp
    | false =>
      have e : j ≠ x := fun e => by subst e; simp at hb
      simp [ih, e]
theorem memN_iff (j : Nat) (l : List Nat) : memN j l = decide (j ∈ l) := by
  induction l with
  | nil => rfl
  | cons x xs ih =>
    simp only [memN]
    cases hb : Nat.beq j x with
    | true => have e := Nat.eq_of_beq_eq_true hb; subst e; simp
    | false => have e : j ≠ x := fun e => by subst e; simp at hb
               simp [ih, e]
theorem mergeE_self {ρ ρ' : Env} {ws vars : List Nat} (hw : ∀ j, j ∉ ws → ρ' j = ρ j) (hv : ∀ j ∈ vars, j ∈ ws) : mergeE ρ ws vars (vars.map ρ') ρ' = ρ' := by
  funext j
  unfold mergeE
  rw [lookE_map, memN_iff]
  by_cases h1 : j ∈ vars
  · simp [h1]
  · by_cases h2 : j ∈ ws
    · simp [h1, h2]
    · simp [h1, h2, hw j h2]
theorem insN_mem {n j : Nat} (l : List Nat) : j ∈ insN n l ↔ j = n ∨ j ∈ l := by
  induction l with
  | nil => simp [insN]
  | cons m l ih =>
    unfold insN
    split
    · simp
    · split
      · rename_i e; subst e; simp
      · simp only [List.mem_cons, ih]
        constructor
        · rintro (h | h | h) <;> simp [h]
        · rintro (h | h | h) <;> simp [h]
theorem unionN_mem {j : Nat} (a b : List Nat) : j ∈ unionN a b ↔ j ∈ a ∨ j ∈ b := by
  unfold unionN
  induction a with
  | nil => simp
  | cons m a ih => simp [insN_mem, ih, or_assoc]
theorem dstsOf_mem {ops : Array Oper} (i : Nat) (o : Oper) (hi : ops[i]? = some o) (d : Nat) (hd : o.dst = some d) : d ∈ unionN (dstsOf ops) [] := by
  rw [unionN_mem]; left
  unfold dstsOf
  exact List.mem_filterMap.2 ⟨o, Array.mem_toList_iff.2 (Array.mem_of_getElem? hi), hd⟩
theorem asgOf_sub {ops : Array Oper} (d : Nat) (hd : d ∈ unionN (asgOf ops) []) : d ∈ unionN (dstsOf ops) [] := by
  rw [unionN_mem] at *
  refine hd.imp (fun h => ?_) id
  unfold asgOf at h; unfold dstsOf
  obtain ⟨o, ho, h2⟩ := List.mem_filterMap.1 h
  refine List.mem_filterMap.2 ⟨o, ho, ?_⟩
  split at h2 <;> first | exact h2 | cases h2
theorem picksOf_sub {ops : Array Oper} (d : Nat) (hd : d ∈ unionN (picksOf ops) []) : d ∈ unionN (dstsOf ops) [] := by
  rw [unionN_mem] at *
  refine hd.imp (fun h => ?_) id
  unfold picksOf at h; unfold dstsOf
  obtain ⟨o, ho, h2⟩ := List.mem_filterMap.1 h
  refine List.mem_filterMap.2 ⟨o, ho, ?_⟩
  split at h2 <;> first | exact h2 | cases h2
theorem asgs_sub (c : Code) : ∀ d ∈ asgs c, d ∈ dsts c := by
  induction c with
  | region id ops draw => exact asgOf_sub
  | seq a b iha ihb => intro d hd; simp only [asgs, dsts, unionN_mem] at *; exact hd.imp (iha d) (ihb d)
  | cond c a b iha ihb => intro d hd; simp only [asgs, dsts, unionN_mem] at *; exact .inr (hd.imp (iha d) (ihb d))
  | block id b ih => exact ih
  | loop b ih => exact ih
  | scope b ih => exact ih
  | _ => intro d hd; simp [asgs] at hd
theorem joinV_sub (c : Code) : ∀ d ∈ unionN (asgs c) (picks c), d ∈ dsts c := by
  intro d hd
  rw [unionN_mem] at hd
  rcases hd with hd | hd
  · exact asgs_sub c d hd
  · cases c <;> simp [picks] at hd
    exact picksOf_sub d hd
theorem SmT_env {ws : List Nat} {t t' : Array Value} {ρ ρ' : Env} (hs : SmT ws t t') (hR : Rl n t ρ) (hR' : Rl n t' ρ') : ∀ j, j ∉ ws → ρ' j = ρ j := fun j hj => by
  rw [← hR'.get, ← hR.get]; exact hs j hj
theorem setCond_eq {ρ : Env} {c : Operand} {b : Bool} (hc : evo ρ c = .bool b) : setCond ρ c b = ρ := by
  cases c with
  | tmp d => exact upd_self hc
  | _ => rfl
def wS (n : Nat) (B : Nat → Prop) (h0 : World) (ws : List Nat) (t : Array Value) (Q : Exit → Env → Heap → Prop) : Exit → Act → World → Prop := fun e a w => SmT ws t a.tmps ∧ wQ n B h0 Q e a w
theorem setC_push (h : Heap) (cs : Array Value) (t : TypeId) (k : Nat) (v : Value) : setC (h.push (.cells cs t)) ⟨h.size, k, none⟩ v = h.push (.cells (cs.setIfInBounds k v) t) := by
  apply Array.ext_getElem?
  intro i
  rw [getElem?_setC]
  by_cases e : h.size = i
  · subst e; simp [setO]
  · simp only [if_neg e, Array.getElem?_push]
    have : i ≠ h.size := fun x => e x.symm
    simp [this]
theorem cellAt_push (h : Heap) (cs : Array Value) (t : TypeId) (k : Nat) : cellAt (h.push (.cells cs t)) ⟨h.size, k, none⟩ = cs[k]? := by
  unfold cellAt; simp
theorem frozenAt_push (h : Heap) (cs : Array Value) (t : TypeId) (k : Nat) : frozenAt (h.push (.cells cs t)) ⟨h.size, k, none⟩ = false := by
  unfold frozenAt; simp
theorem stN_push (h : Heap) (t : TypeId) (vs : List Value) : ∀ (cs : List Value) (k : Nat) (F : Heap → Prop), (∀ v ∈ vs, v.cells = #[v] ∧ ∀ X : Prop, X → oneC v X) → k + vs.length ≤ cs.length →
    F (h.push (.cells (putCells cs k vs).toArray t)) → stN (h.push (.cells cs.toArray t)) ⟨h.size, 0, none⟩ k vs F := by
  induction vs with
  | nil => intro cs k F _ _ H; exact H
  | cons v vs ih =>
    intro cs k F hv hk H
    have ha : (⟨h.size, 0, none⟩ : Addr).add k = ⟨h.size, k, none⟩ := by
      unfold Addr.add; split
      · rename_i e; rw [e]
      · simp
    unfold stN
    rw [ha]
    refine (hv v (by simp)).2 _ ⟨⟨cs[k]'(by simp at hk; omega), ?_⟩, frozenAt_push _ _ _ _, ?_⟩
    · rw [cellAt_push]; simp
    · rw [setC_push]
      have := ih (cs.set k v) (k + 1) F (fun v hv' => hv v (by simp [hv'])) (by simp at hk ⊢; omega) H
      simpa using this
theorem allC_out {X : Prop} (cs : List Value) (H : allC cs X) : X ∧ ∀ v ∈ cs, v.cells = #[v] ∧ ∀ Y : Prop, Y → oneC v Y := by
  induction cs with
  | nil => exact ⟨H, fun v hv => by cases hv⟩
  | cons c cs ih =>
    have h1 := ih (oneC_out H)
    refine ⟨h1.1, fun v hv => ?_⟩
    rcases List.mem_cons.1 hv with rfl | hv
    · exact ⟨(oneC_cells H).1, fun Y y => oneC_mono (fun _ => y) H⟩
    · exact h1.2 v hv
theorem putCells_all (vs : List Value) : ∀ (cs : List Value) (k : Nat), k + vs.length = cs.length → putCells cs k vs = cs.take k ++ vs := by
  induction vs with
  | nil => intro cs k hk; simp at hk; simp [putCells, hk]
  | cons v vs ih =>
    intro cs k hk
    simp at hk
    simp only [putCells]
    rw [ih (cs.set k v) (k + 1) (by simp; omega)]
    rw [List.take_succ_eq_append_getElem (by simp; omega)]
    simp [List.take_set_of_le]
theorem vlist_mono {ops : Array Oper} {K K' : Env → Heap → Prop} (hk : ∀ ρ h, K ρ h → K' ρ h) (l : List Oper) : ∀ {ρ : Env} {h : Heap}, vlist P ops l ρ h K → vlist P ops l ρ h K' := by
  induction l with
  | nil => intro ρ h H; exact hk _ _ H
  | cons o l ih =>
    intro ρ h H
    have key : ∀ (g : Option (Nat × Bool)) (yes no yes' no' : Env → Prop), (∀ ρ, yes ρ → yes' ρ) → (∀ ρ, no ρ → no' ρ) → ∀ ρ, vguard ops ρ g yes no → vguard ops ρ g yes' no' := by
      intro g yes no yes' no' hy hn ρ x
      unfold vguard at *
      cases g with
      | none => exact hy _ x
      | some g =>
        obtain ⟨j, want⟩ := g
        simp only at *
        cases hd : (ops[j]?).bind (·.dst) with
        | none => rw [hd] at x; exact hn _ x
        | some d =>
          rw [hd] at x
          simp only at *
          unfold guardV at *
          split at x
          · refine ifB_mono ?_ ?_ x <;> cases want <;> first | exact hy _ | exact hn _
          · exact hn _ x
    exact key _ _ _ _ _ (fun ρ => vop_mono fun v h' => tyO_mono fun v => ih) (fun ρ => ih) ρ H
theorem vasg_vlist {ops : Array Oper} (k : Nat) : ∀ (l : List Oper), l.length ≤ k → ∀ {ρ : Env} {h : Heap} {F : Env → List Obj → Prop}, vasg P l ρ h.size F → vlist P ops l ρ h fun ρ' h' => ∃ os, F ρ' os ∧ h' = pushL h os := by
  induction k with
  | zero =>
    intro l hl ρ h F H
    have : l = [] := List.length_eq_zero_iff.1 (by omega)
    subst this
    exact ⟨[], H, rfl⟩
  | succ k ih =>
    intro l hl ρ h F H
    cases l with
    | nil => exact ⟨[], H, rfl⟩
    | cons o rest =>
      obtain ⟨dst, op, type, pos, after, guard⟩ := o
      cases guard with
      | some g => cases op <;> exact (show False by unfold vasg at H; first | exact H | (split at H <;> simp_all)).elim
      | none =>
        cases op with
        | assign x => exact typedV_mono (fun v => ih rest (by simp at hl; omega)) H
        | alloc t =>
          cases dst with
          | none => exact (show False by unfold vasg at H; first | exact H | (split at H <;> simp_all)).elim
          | some d =>
            cases rest with
            | nil => exact (show False by unfold vasg at H; first | exact H | (split at H <;> simp_all)).elim
            | cons o' rest =>
              obtain ⟨dst', op', type', pos', after', guard'⟩ := o'
              cases dst' with
              | some d' => exact (show False by unfold vasg at H; first | exact H | (split at H <;> simp_all)).elim
              | none =>
                cases guard' with
                | some g => exact (show False by unfold vasg at H; first | exact H | (split at H <;> simp_all)).elim
                | none =>
                  cases op' with
                  | store t' ad y =>
                    cases ad with
                    | tmp d' =>
                      simp only [vasg] at H
                      split at H
                      · rename_i hc
                        obtain ⟨rfl, rfl, hth, hz, hzl⟩ := hc
                        obtain ⟨z, hz⟩ := zer_some hz
                        obtain ⟨H, fcs⟩ := cellsT_read H
                        split at H
                        · rename_i hlen
                          obtain ⟨H, hone⟩ := allC_out _ H
                          simp only [vlist, vguard]
                          unfold vop
                          simp only [hz, putE, tyO]
                          have e : evo (upd ρ d (.pointer (some ⟨h.size, 0, none⟩))) (.tmp d) = .pointer (some ⟨h.size, 0, none⟩) := upd_same _ _ _
                          rw [e]
                          simp only [asPtr]
                          refine fcs _ ?_
                          rw [if_pos ⟨hth, hlen⟩]
                          have hzc : z.cells = (zcells P t).toArray := (zcells_eq hz).symm
                          rw [hzc]
                          refine stN_push _ _ _ _ _ _ hone (by rw [hlen, hzl]; omega) ?_
                          rw [putCells_all _ _ _ (by rw [hlen, hzl]; omega)]
                          simp only [List.take_zero, List.nil_append]
                          have := ih rest (by simp at hl; omega) (h := h.push (.cells (evo (upd ρ d (.pointer (some ⟨h.size, 0, none⟩))) y).cells.toList.toArray t)) (by rw [Array.size_push]; exact H)
                          refine vlist_mono (fun ρ' h' x => ?_) _ this
                          obtain ⟨os, h1, h2⟩ := x
                          exact ⟨_, h1, h2⟩
                        · exact H.elim
                      · exact H.elim
                    | _ => exact (show False by unfold vasg at H; first | exact H | (split at H <;> simp_all)).elim
                  | _ => exact (show False by unfold vasg at H; first | exact H | (split at H <;> simp_all)).elim
        | _ => exact (show False by unfold vasg at H; first | exact H | (split at H <;> simp_all)).elim
theorem pushL_heap (h : Heap) (os : List Obj) : pushL h os = h ++ os.toArray := by
  induction os generalizing h with
  | nil => simp [pushL]
  | cons o os ih => simp [pushL, ih]
theorem pushL_set (h : Heap) (os : List Obj) (l : Nat) (o : Obj) (hl : l < h.size) : (pushL h os).setIfInBounds l o = pushL (h.setIfInBounds l o) os := by
  induction os generalizing h with
  | nil => rfl
  | cons x os ih =>
    simp only [pushL]
    rw [ih _ (by simp; omega)]
    congr 1
    apply Array.ext_getElem?
    intro i
    simp only [Array.getElem?_setIfInBounds, Array.getElem?_push, Array.size_push, Array.size_setIfInBounds]
    by_cases e : l = i
    · subst e
      have h1 : l ≠ h.size := by omega
      have h2 : l < h.size + 1 := by omega
      simp [hl, h1, h2]
    · simp [e]
theorem keep_of_set {N M l : Nat} {h : Heap} {o : Obj} (h1 : N ≤ l) (h2 : l < M) : Keep N M h (h.setIfInBounds l o) := by
  refine ⟨by simp, fun b hb hor => ?_⟩
  have : l ≠ b := by omega
  exact Array.getElem?_setIfInBounds_ne this
theorem setPs_rl (vs : Array Value) (ps : List Nat) : ∀ (i : Nat) (t : Array Value) (ρ : Env) , Rl n t ρ → (∀ p ∈ ps, p < n) → i + ps.length = vs.size →
    Rl n ((ps.zip (vs.toList.drop i)).foldl (fun t (x : Tmp × Value) => t.setIfInBounds x.1 x.2) t) (setPs ρ vs ps i) := by
  induction ps with
  | nil => intro i t ρ hR _ _; exact hR
  | cons p ps ih =>
    intro i t ρ hR hp1 hi
    simp at hi
    have hlt : i < vs.toList.length := by simp; omega
    rw [List.drop_eq_getElem_cons hlt]
    simp only [List.zip_cons_cons, List.foldl_cons, setPs]
    have e : vs.getD i undefV = vs.toList[i] := by simp [Array.getD_eq_getD_getElem?, show i < vs.size by omega]
    refine ih (i + 1) _ _ ?_ (fun q hq => hp1 q (by simp [hq])) (by omega)
    rw [e]
    exact (Rl.put (a := ⟨t, []⟩) hR (d := some p) (vs.toList[i]) (fun j hj => by cases hj; exact hp1 p (by simp)))
theorem assign_wpIn {r : Option Nat} {as : Code} {ops : List Oper} (hops : opsOfC as = some ops) (hoks : ops.all (opOk n) = true) {ρ : Env} {h : Heap} {K : Env → Heap → Prop} (H : ∀ opsA, vlist P opsA ops ρ h K)
    {a : Act} {w : World} (hR : Rl n a.tmps ρ) (hw : w.heap = h) {next : Act → World → Prop}
    (hnext : ∀ ρ' a' w', K ρ' w'.heap → Rl n a'.tmps ρ' → a'.defers = a.defers → Kw w w' → next a' w') : as.wpIn (FW r) 0 P (Exit.then next (fun _ _ _ => False)) a w := by
  cases as with
  | skip =>
    cases hops
    subst hw
    exact wpIn_skip (hnext ρ a w (H #[]) hR rfl (Kw.refl _))
  | region id opsA draw =>
    cases draw with
    | true => cases hops
    | false =>
      cases hops
      refine wpIn_region ?_
      have hok : opsOk n opsA = true := hoks
      have := vlist_wpOpsIn (r := r) (Q := Exit.then next (fun _ _ _ => False)) hok (ws := unionN (dstsOf opsA) []) (fun i o hi => dstsOf_mem i o hi) opsA.toList 0 (by simp) ρ h a w (H opsA) hR hw
        (fun ρ' a' w' hk hR' _ hd' hkd' => hnext ρ' a' w' hk hR' hd' hkd')
      rw [Array.length_toList, ← List.range_eq_range'] at this
      exact this
  | _ => cases hops
theorem pushL_old (h : Heap) (os : List Obj) (b : Nat) (hb : b < h.size) : (pushL h os)[b]? = h[b]? := by
  rw [pushL_heap, Array.getElem?_append_left hb]
theorem pushL_kd (os : List Obj) : ∀ (h : Heap), Kd h (pushL h os) := by
  induction os with
  | nil => exact fun h => Kd.refl _
  | cons o os ih => exact fun h => (Kd.push _ _).trans (ih _)
theorem range_wpIn {g : Operand} {ps : Array Tmp} {as x : Code} {ops : List Oper} (hops : opsOfC as = some ops) (hps : ∀ p ∈ ps.toList, p < n) (hoks : ops.all (opOk n) = true)
    {Q : Exit → Env → Heap → Prop} {ρ : Env} {h0 : World} {a : Act} {w : World} {B : Nat → Prop}
    (hbody : ∀ (l : Nat) (K : Exit → Heap → Prop) (ρ1 : Env) (h1 : Heap) (a1 : Act) (w1 : World), vc P x (fun e _ h' => K e h') ρ1 h1 → Rl n a1.tmps ρ1 → a1.defers = [] → w1.heap = h1 →
      x.wpIn (FW (some l)) 0 P (fun e _ w' => (match e with | .panic _ | .outgrown | .goto _ => False | _ => True) ∧ K e w'.heap ∧ Kw w1 w') a1 w1)
    (H : rangeH0 P (evo ρ g) ps.size w.heap
      (fun K vs h' => vasg P ops (setPs ρ vs ps.toList 0) h'.size fun ρ1 os => vc P x (fun e _ h'' => K e h'') ρ1 (pushL h' os))
      (fun h' => Q .normal ρ h') (fun e h' => Q e ρ h'))
    (hR : Rl n a.tmps ρ) (hB : ∀ D, w.heap.size ≤ D → B D) (hd : DInv B a.defers w.heap) (hk : Kw h0 w) (ws : List Nat) :
    (Code.rangeFunc g ps as x).wpIn (FW none) 0 P (wS n B h0 ws a.tmps Q) a w := by
  obtain ⟨m, xs, Ev, I, X, hfv, hseq, hsz, hev, hok, hround, hdone, hstop⟩ := H
  refine wpIn_rangeFunc ?_
  intro fn hfn
  obtain ⟨rec, hrec⟩ : ∃ rec : LoopState → Option Code → Loop, rec = fun st pe => { state := st, pending := pe, fn, tmps := a.tmps, params := ps, assign := as, body := x, defers := w.heap.size } := ⟨_, rfl⟩
  obtain ⟨W1, hW1⟩ : ∃ W1, (w.alloc (.deferred (some []))).alloc (.loop (rec .ready none)) = W1 := ⟨_, rfl⟩
  have hs1 : W1.heap.size = w.heap.size + 2 := by rw [← hW1]; simp
  have hL1 : W1.heap[w.heap.size + 1]? = some (.loop (rec .ready none)) := by
    rw [← hW1]; have := World.alloc_heap_new (w.alloc (.deferred (some []))) (.loop (rec .ready none)); rwa [World.size_alloc] at this
  have hK1 : W1.heap[w.heap.size]? = some (.deferred (some [])) := by
    rw [← hW1]
    show ((w.heap.push (.deferred (some []))).push _)[w.heap.size]? = _
    simp [Array.getElem?_push]
  have hold : ∀ b, b < w.heap.size → W1.heap[b]? = w.heap[b]? := by
    intro b hb
    rw [← hW1]
    show ((w.heap.push (.deferred (some []))).push _)[b]? = _
    have e1 : b ≠ w.heap.size + 1 := by omega
    have e2 : b ≠ w.heap.size := by omega
    simp [Array.getElem?_push, e1, e2]
  have hkd1 : Kd w.heap W1.heap := by
    rw [← hW1]; exact (Kd.push _ _).trans (Kd.push _ _)
  -- the call
  have hg : a.eval g = evo ρ g := by rw [hR.eval]
  have hkeep : ∀ {M : Nat} {h1 h2 : Heap}, Keep (w.heap.size + 2) M h1 h2 → Keep w.heap.size M h1 h2 := fun hk => ⟨hk.1, fun b hb hor => hk.2 b hb (by omega)⟩
  have hcall := hseq (.yield (w.heap.size + 1)) #[] #[] W1.heap (w.heap.size + 2)
    (fun M k h' => I M k h' ∧ h'[w.heap.size + 1]? = some (.loop (rec .ready none)) ∧ h'[w.heap.size]? = some (.deferred (some [])))
    (fun M _ h' => ∃ c e, X M e h' ∧ ((c = .ret ∧ e = .ret) ∨ ∃ id, c = .exit id ∧ e = .exit id) ∧ h'[w.heap.size + 1]? = some (.loop (rec .done (some c))) ∧ h'[w.heap.size]? = some (.deferred (some [])))
    (by omega) (hok.env _ 0 _ (by omega) (Nat.le_refl _) (hok.start W1.heap (by omega) hold))
    { env := fun M k h' h1 h2 hi => hok.env M k h' (by omega) h2 hi.1
      keepI := fun M k h1 h2 hN hM hi hk => ⟨hok.keepI M k h1 h2 (by omega) hM hi.1 (hkeep hk), (hk.2 _ (by omega) (.inl (by omega))).trans hi.2.1, (hk.2 _ (by omega) (.inl (by omega))).trans hi.2.2⟩
      keepX := fun M _ h1 h2 hN hM ⟨c, e, hx, hc, hl, hdd⟩ hk => ⟨c, e, hok.keepX M e h1 h2 (by omega) hM hx (hkeep hk), hc, (hk.2 _ (by omega) (.inl (by omega))).trans hl, (hk.2 _ (by omega) (.inl (by omega))).trans hdd⟩
      dI := fun M k h1 h2 hs ⟨a1, a2, a3⟩ => ⟨hok.dI M k h1 h2 (hs.mono (by omega)) a1, (hs.2 _ (.inl (by omega))).trans a2, (hs.2 _ (.inl (by omega))).trans a3⟩
      dX := fun M _ h1 h2 hs ⟨c, e, a1, a2, a3, a4⟩ => ⟨c, e, hok.dX M e h1 h2 (hs.mono (by omega)) a1, a2, (hs.2 _ (.inl (by omega))).trans a3, (hs.2 _ (.inl (by omega))).trans a4⟩
      start := fun h1 hsz1 hsame => ⟨hok.start h1 (by omega) (fun b hb => (hsame b (by omega)).trans (hold b hb)), (hsame _ (by omega)).trans hL1, (hsame _ (by omega)).trans hK1⟩ }
    (by
      -- ONE ROUND
      intro M k h' hkm hNM hsM hM ⟨hi, hl, hdd⟩ W hW
      subst hW
      have hlt : w.heap.size + 1 < W.heap.size := (Array.getElem?_eq_some_iff.1 hl).1
      have hy := run_yield (P := P) (args := #[] ++ xs k) hl (by rw [hrec]; simpa using hsz k hkm)
      rw [hrec] at hy
      refine ⟨fn, _, as, x, hy, ?_⟩
      refine roundIn_of_wpIn hfn ?_
      have hRp : Rl n ((ps.zip (#[] ++ xs k)).foldl (fun tmps (x : Tmp × Value) => tmps.setIfInBounds x.1 x.2) a.tmps) (setPs ρ (xs k) ps.toList 0) := by
        have := setPs_rl (n := n) (xs k) ps.toList 0 a.tmps ρ hR hps (by simp [hsz k hkm])
        rw [← Array.foldl_toList]
        simpa using this
      obtain ⟨h2, hh2⟩ : ∃ h2 : Heap, h2 = W.heap.setIfInBounds (w.heap.size + 1) (.loop { rec .ready none with state := .busy }) := ⟨_, rfl⟩
      have hs2 : h2.size = W.heap.size := by rw [hh2]; simp
      have hl2 : h2[w.heap.size + 1]? = some (.loop { rec .ready none with state := .busy }) := by rw [hh2]; simp [hlt]
      have ho2 : ∀ b, b ≠ w.heap.size + 1 → h2[b]? = W.heap[b]? := fun b hb => by rw [hh2]; exact Array.getElem?_setIfInBounds_ne (Ne.symm hb)
      have hk2 : Kd W.heap h2 := by rw [hh2]; exact Kd.set (by rw [hl]; simp)
      have hi2 : I M k h2 := hok.keepI M k W.heap h2 (by omega) hM hi (by rw [hh2]; exact keep_of_set (by omega) (by omega))
      have hform := hround M k h2 hkm hNM (by omega) hi2
      dsimp only at hform
      rw [hs2] at hform
      refine assign_wpIn (r := some (w.heap.size + 1)) hops hoks (fun opsA => vasg_vlist ops.length ops (Nat.le_refl _) hform) (a := { tmps := _, defers := [] }) (w := W) hRp rfl ?_
      rintro ρ1 a1 w1 ⟨os, hvc, hw1⟩ hR1 hd1 hk1
      have hl1 : w1.heap[w.heap.size + 1]? = some (.loop (rec .ready none)) := by rw [hw1, pushL_old _ _ _ hlt]; exact hl
      refine ⟨_, run_beginRound hl1 (by rw [hrec]), ?_⟩
      have hwh : (w1.putObj (w.heap.size + 1) (.loop { rec .ready none with state := .busy })).heap = pushL h2 os := by
        show w1.heap.setIfInBounds _ _ = _
        rw [hw1, pushL_set _ _ _ _ hlt, hh2]
      refine wpIn_mono (hbody (w.heap.size + 1) _ ρ1 (pushL h2 os) a1 _ hvc hR1 hd1 hwh) ?_
      rintro e a3 w3 ⟨he, ⟨hmid, hpost⟩, hk3⟩
      have hsz3 : W.heap.size ≤ w3.heap.size := by have := hmid.1; omega
      have hl3 : w3.heap[w.heap.size + 1]? = some (.loop { rec .ready none with state := .busy }) := (hmid.2 _ (by omega) (by omega)).trans hl2
      have hd3 : w3.heap[w.heap.size]? = some (.deferred (some [])) := (hmid.2 _ (by omega) (by omega)).trans ((ho2 _ (by omega)).trans hdd)
      have fin : ∀ (jump : Option Code), (Instr.endRound (w.heap.size + 1) jump).run P w3 = .ok (.bool jump.isNone) (w3.putObj (w.heap.size + 1) (.loop (rec (if jump.isNone then .ready else .done) jump))) ∧
          KeepMid (w.heap.size + 2) M W.heap (w3.putObj (w.heap.size + 1) (.loop (rec (if jump.isNone then .ready else .done) jump))).heap ∧
          Kw W (w3.putObj (w.heap.size + 1) (.loop (rec (if jump.isNone then .ready else .done) jump))) ∧
          (w3.putObj (w.heap.size + 1) (.loop (rec (if jump.isNone then .ready else .done) jump))).heap[w.heap.size + 1]? = some (.loop (rec (if jump.isNone then .ready else .done) jump)) ∧
          (w3.putObj (w.heap.size + 1) (.loop (rec (if jump.isNone then .ready else .done) jump))).heap[w.heap.size]? = some (.deferred (some [])) ∧
          Keep w.heap.size M w3.heap (w3.putObj (w.heap.size + 1) (.loop (rec (if jump.isNone then .ready else .done) jump))).heap := by
        intro jump
        refine ⟨?_, ⟨by simp [World.putObj]; omega, fun b h1 h2' => ?_⟩, ?_, World.putObj_heap_same (by omega), (World.putObj_heap_other (by omega)).trans hd3, keep_of_set (by omega) (by omega)⟩
        · have := run_endRound (P := P) jump hl3
          rw [hrec] at this ⊢
          exact this
        · have e1 : b ≠ w.heap.size + 1 := by omega
          exact ((World.putObj_heap_other e1).trans (hmid.2 b (by omega) h2')).trans (ho2 b e1)
        · exact ⟨((hk2.trans (pushL_kd _ _)).trans (hwh ▸ hk3.1)).trans (Kd.set (by rw [hl3]; simp)), hk3.2.1.trans hk1.2.1, hk3.2.2.trans hk1.2.2⟩
      have hM3 : M ≤ w3.heap.size := by omega
      cases e with
      | normal =>
        obtain ⟨h1, h2', h3, h4, h5, h6⟩ := fin none
        exact ⟨_, _, h1, ⟨h2', .inl ⟨rfl, hok.keepI M (k + 1) _ _ (by omega) hM3 hpost h6, h4, h5⟩⟩, h3⟩
      | ret =>
        obtain ⟨h1, h2', h3, h4, h5, h6⟩ := fin (some .ret)
        exact ⟨_, _, h1, ⟨h2', .inr ⟨rfl, .ret, .ret, hok.keepX M .ret _ _ (by omega) hM3 hpost h6, .inl ⟨rfl, rfl⟩, h4, h5⟩⟩, h3⟩
      | exit id =>
        obtain ⟨h1, h2', h3, h4, h5, h6⟩ := fin (some (.exit id))
        exact ⟨_, _, h1, ⟨h2', .inr ⟨rfl, .exit id, .exit id, hok.keepX M (.exit id) _ _ (by omega) hM3 hpost h6, .inr ⟨id, rfl, rfl⟩, h4, h5⟩⟩, h3⟩
      | _ => exact he.elim)
  -- behind the iterator
  have post : ∀ (e : Ending) (w3 : World), onH W1 (fun _ h' => ∃ M, w.heap.size + 2 ≤ M ∧ W1.heap.size ≤ M ∧ M ≤ h'.size ∧
      ((I M m h' ∧ h'[w.heap.size + 1]? = some (.loop (rec .ready none)) ∧ h'[w.heap.size]? = some (.deferred (some []))) ∨
       (∃ c e, X M e h' ∧ ((c = .ret ∧ e = .ret) ∨ ∃ id, c = .exit id ∧ e = .exit id) ∧ h'[w.heap.size + 1]? = some (.loop (rec .done (some c))) ∧ h'[w.heap.size]? = some (.deferred (some []))))) e w3 →
      rangePost (FW none) 0 P (w.heap.size + 1) (wS n B h0 ws a.tmps Q) { a with defers := [{ target := .collected w.heap.size, args := #[] }] ++ a.defers } e w3 := by
    intro e w3 hp
    cases e with
    | panicked => exact hp.elim
    | outgrown => exact hp.elim
    | returned v =>
      obtain ⟨⟨M, hM1, hM2, hM3, hor⟩, hkd3⟩ := hp
      have finD : ∀ (o : Obj) (l3 : Loop), w3.heap[w.heap.size + 1]? = some (.loop l3) → w3.heap[w.heap.size]? = some (.deferred (some [])) →
          Kw h0 (w3.putObj (w.heap.size + 1) o) ∧ DInv B ([{ target := .collected w.heap.size, args := #[] }] ++ a.defers) (w3.putObj (w.heap.size + 1) o).heap := by
        intro o l3 hl hdd
        have hk4 : Kd w3.heap (w3.putObj (w.heap.size + 1) o).heap := Kd.set (by rw [hl]; simp)
        have hk5 : Kd w.heap (w3.putObj (w.heap.size + 1) o).heap := (hkd1.trans hkd3.1).trans hk4
        refine ⟨hk.trans ⟨hk5, hkd3.2.1.trans (by rw [← hW1]; rfl), hkd3.2.2.trans (by rw [← hW1]; rfl)⟩, ?_⟩
        obtain ⟨ms, h1, h2, h3⟩ := hd
        refine ⟨w.heap.size :: ms, by rw [h1]; rfl, List.nodup_cons.2 ⟨fun hin => ?_, h2⟩, fun D hD => ?_⟩
        · have := (h3 _ hin).2
          have := (Array.getElem?_eq_some_iff.1 this).1
          omega
        · rcases List.mem_cons.1 hD with rfl | hD
          · exact ⟨hB _ (Nat.le_refl _), (World.putObj_heap_other (by omega)).trans hdd⟩
          · exact ⟨(h3 D hD).1, hk5.2 D (h3 D hD).2⟩
      rcases hor with ⟨hi, hl, hdd⟩ | ⟨c, e, hx, hc, hl, hdd⟩
      · refine ⟨none, _, (by have := run_endLoop (P := P) hl (by rw [hrec]; simp); rw [hrec] at this; exact this), ?_⟩
        obtain ⟨hk4, hd4⟩ := finD (.loop { rec .ready none with state := .exhausted }) _ hl hdd
        have hi4 := hok.keepI M m _ (w3.putObj (w.heap.size + 1) (.loop { rec .ready none with state := .exhausted })).heap (by omega) hM3 hi (keep_of_set (by omega) (by omega))
        rw [hrec] at hk4 hd4 hi4
        exact ⟨SmT.refl _ _, ρ, hR, hd4, hk4, hdone M _ hM1 (by simp [World.putObj]; omega) hi4⟩
      · refine ⟨some c, _, (by have := run_endLoop (P := P) hl (by rw [hrec]; simp); rw [hrec] at this; exact this), ?_⟩
        obtain ⟨hk4, hd4⟩ := finD (.loop { rec .done (some c) with state := .exhausted }) _ hl hdd
        have hi4 := hok.keepX M e _ (w3.putObj (w.heap.size + 1) (.loop { rec .done (some c) with state := .exhausted })).heap (by omega) hM3 hx (keep_of_set (by omega) (by omega))
        rw [hrec] at hk4 hd4 hi4
        have hq := hstop M e _ hM1 (by simp [World.putObj]; omega) hi4
        rcases hc with ⟨rfl, rfl⟩ | ⟨id, rfl, rfl⟩
        · exact wpIn_ret ⟨SmT.refl _ _, ρ, hR, hd4, hk4, hq⟩
        · exact wpIn_exit ⟨SmT.refl _ _, ρ, hR, hd4, hk4, hq⟩
  unfold fnV at hfv
  split at hfv
  · rename_i gf first captured hge
    rw [hge] at hcall hg
    obtain ⟨hent, hcc⟩ := hcall
    refine ⟨w.heap.size + 1, [{ target := .collected w.heap.size, args := #[] }], W1, { target := .fn (.func gf) captured, args := first ++ #[.func (.yield (w.heap.size + 1)) #[] #[]] }, W1, gf,
      first ++ #[.func (.yield (w.heap.size + 1)) #[] #[]] ++ captured, W1, ?_, ?_, fun _ _ => trivial, ?_, by simp [FW], ?_⟩
    · rw [← hW1, hrec]; exact run_enterLoop_outer _ _ _ _ _
    · simp only [resolve, hg]
      simp [Deferred.ofValue, Sem.run_pure, Act.eval]
    · exact hent _ W1
    · exact (hcc W1 rfl).mono post
  · exact hfv.elim
theorem vc_wpIn (hm : P.follows .mixedOrders = true) {B : Nat → Prop} (c : Code) : ∀ (r : Option Nat) (b : Bool), (b = true → r = none) → codeOk n b c = true → ∀ (Q : Exit → Env → Heap → Prop) (ρ : Env) (h0 : World) (h : Heap) (a : Act) (w : World),
    vc P c Q ρ h → Rl n a.tmps ρ → w.heap = h → (b = true → ∀ D, h.size ≤ D → B D) → DInv B a.defers h → Kw h0 w → c.wpIn (FW r) 0 P (wS n B h0 (dsts c) a.tmps Q) a w := by
  induction c with
  | skip =>
    intro r b hb hok Q ρ h0 h a w H hR hw hB hd hk
    subst hw; exact wpIn_skip ⟨SmT.refl _ _, wQ_mk (.inl rfl) hR hd hk H⟩
  | region id ops draw =>
    intro r b hb hok Q ρ h0 h a w H hR hw hB hd hk
    have fin : ∀ ρ' a' w', Q .normal ρ' w'.heap → Rl n a'.tmps ρ' → SmT (dsts (.region id ops draw)) a.tmps a'.tmps → a'.defers = a.defers → Kw w w' → wS n B h0 (dsts (.region id ops draw)) a.tmps Q .normal a' w' := by
      intro ρ' a' w' hq hR' hs hd' hk'
      exact ⟨hs, wQ_mk (.inl rfl) hR' (by rw [hd']; exact (hw ▸ hd).kd hk'.1) (hk.trans hk') hq⟩
    cases draw with
    | false =>
      refine wpIn_region ?_
      have := vlist_wpOpsIn (r := r) (Q := wS n B h0 (dsts (.region id ops false)) a.tmps Q) hok (ws := dsts (.region id ops false)) (fun i o hi => dstsOf_mem i o hi) ops.toList 0 (by simp) ρ h a w H hR hw fin
      rw [Array.length_toList, ← List.range_eq_range'] at this
      exact this
    | true => exact vdraw_wpIn hm hok (ws := dsts (.region id ops true)) (fun i o hi => dstsOf_mem i o hi) H hR hw fin
  | seq x y ihx ihy =>
    intro r b hb hok Q ρ h0 h a w H hR hw hB hd hk
    simp only [codeOk, Bool.and_eq_true] at hok
    have hx1 : ∀ j ∈ dsts x, j ∈ dsts (.seq x y) := fun j hj => by simp only [dsts, unionN_mem]; exact .inl hj
    have hy1 : ∀ j ∈ dsts y, j ∈ dsts (.seq x y) := fun j hj => by simp only [dsts, unionN_mem]; exact .inr hj
    -- behind x
    have tail : ∀ (ρ1 : Env) (a1 : Act) (w1 : World), vc P y Q ρ1 w1.heap → Rl n a1.tmps ρ1 → SmT (dsts x) a.tmps a1.tmps → DInv B a1.defers w1.heap → Kw h0 w1 → (b = true → ∀ D, w1.heap.size ≤ D → B D) →
        y.wpIn (FW r) 0 P (wS n B h0 (dsts (.seq x y)) a.tmps Q) a1 w1 := by
      intro ρ1 a1 w1 hv hR1 hs1 hd1 hk1 hB1
      refine wpIn_mono (ihy r b hb hok.2 Q ρ1 h0 _ a1 w1 hv hR1 rfl hB1 hd1 hk1) ?_
      intro e a2 w2 h2
      exact ⟨(hs1.mono hx1).trans (h2.1.mono hy1), h2.2⟩
    unfold vc at H
    split at H
    · refine wpIn_seq (wpIn_mono (ihx r b hb hok.1 _ ρ w h a w H hR hw hB hd (Kw.refl _)) ?_)
      rintro e a1 w1 ⟨hs1, h1⟩
      cases e with
      | normal =>
        obtain ⟨ρ1, hR1, hd1, hk1, hq⟩ := h1
        exact tail ρ1 a1 w1 hq hR1 hs1 hd1 (hk.trans hk1) (fun e D hD => hB e D (hw ▸ Nat.le_trans hk1.1.1 hD))
      | ret => obtain ⟨ρ1, hR1, hd1, hk1, hq⟩ := h1; exact ⟨hs1.mono hx1, ρ1, hR1, hd1, hk.trans hk1, hq⟩
      | exit id => obtain ⟨ρ1, hR1, hd1, hk1, hq⟩ := h1; exact ⟨hs1.mono hx1, ρ1, hR1, hd1, hk.trans hk1, hq⟩
      | _ => exact h1.elim
    · obtain ⟨J, hA, hJ⟩ := H
      refine wpIn_seq (wpIn_mono (ihx r b hb hok.1 _ ρ w h a w hA hR hw hB hd (Kw.refl _)) ?_)
      rintro e a1 w1 ⟨hs1, h1⟩
      cases e with
      | normal =>
        obtain ⟨ρ1, hR1, hd1, hk1, hq⟩ := h1
        have h2 := AllV_out (F := fun _ => True) _ _ hJ ((unionN (asgs x) (picks x)).map ρ1) (by simp) ρ1 w1.heap hq
        dsimp only at h2
        rw [mergeE_self (SmT_env hs1 hR hR1) (joinV_sub x)] at h2
        exact tail ρ1 a1 w1 h2 hR1 hs1 hd1 (hk.trans hk1) (fun e D hD => hB e D (hw ▸ Nat.le_trans hk1.1.1 hD))
      | ret => obtain ⟨ρ1, hR1, hd1, hk1, hq⟩ := h1; exact ⟨hs1.mono hx1, ρ1, hR1, hd1, hk.trans hk1, hq⟩
      | exit id => obtain ⟨ρ1, hR1, hd1, hk1, hq⟩ := h1; exact ⟨hs1.mono hx1, ρ1, hR1, hd1, hk.trans hk1, hq⟩
      | _ => exact h1.elim
  | cond c x y ihx ihy =>
    intro r b hb hok Q ρ h0 h a w H hR hw hB hd hk
    simp only [codeOk, Bool.and_eq_true] at hok
    unfold vc at H
    obtain ⟨t, ht, H⟩ := asBool_out H
    have he : a.eval c = .bool t := by rw [hR.eval]; exact ht
    refine wpIn_cond he ?_
    have H := ifB_out H
    cases t with
    | true =>
      simp only [if_true] at H ⊢
      rw [setCond_eq ht] at H
      refine wpIn_mono (ihx r b hb hok.1 Q ρ h0 h a w H hR hw hB hd hk) ?_
      intro e a1 w1 h1
      exact ⟨h1.1.mono (fun j hj => by simp only [dsts, unionN_mem]; exact .inr (.inl hj)), h1.2⟩
    | false =>
      simp only [Bool.false_eq_true, if_false] at H ⊢
      rw [setCond_eq ht] at H
      refine wpIn_mono (ihy r b hb hok.2 Q ρ h0 h a w H hR hw hB hd hk) ?_
      intro e a1 w1 h1
      exact ⟨h1.1.mono (fun j hj => by simp only [dsts, unionN_mem]; exact .inr (.inr hj)), h1.2⟩
  | block id x ih =>
    intro r b hb hok Q ρ h0 h a w H hR hw hB hd hk
    refine wpIn_block (wpIn_mono (ih r b hb hok _ ρ h0 h a w H hR hw hB hd hk) ?_)
    rintro e a1 w1 ⟨hs1, h1⟩
    cases e with
    | normal => exact ⟨hs1, h1⟩
    | ret => exact ⟨hs1, h1⟩
    | exit id' =>
      obtain ⟨ρ1, hR1, hd1, hk1, hq⟩ := h1
      simp only [Exit.inBlock]
      simp only [blockQ] at hq
      split
      · rename_i e; rw [if_pos e] at hq; exact ⟨hs1, ρ1, hR1, hd1, hk1, hq⟩
      · rename_i e; rw [if_neg e] at hq; exact ⟨hs1, ρ1, hR1, hd1, hk1, hq⟩
    | _ => exact h1.elim
  | loop x ih =>
    intro r b hb hok Q ρ h0 h a w H hR hw hB hd hk
    obtain ⟨I, μ, hI, hJ⟩ := H
    have hJ := AllV_out (F := fun _ => True) _ _ hJ
    refine wpIn_loop
      (fun a' w' => ∃ ρ', Rl n a'.tmps ρ' ∧ SmT (dsts x) a.tmps a'.tmps ∧ DInv B a'.defers w'.heap ∧ Kw h0 w' ∧ (b = true → ∀ D, w'.heap.size ≤ D → B D) ∧ I ((asgs x).map ρ') w'.heap)
      (fun a' w' => μ ((asgs x).map fun j => a'.tmps.getD j undef) w'.heap) ⟨ρ, hR, SmT.refl _ _, by subst hw; exact hd, hk, by subst hw; exact hB, by subst hw; exact hI⟩ ?_
    rintro a1 w1 ⟨ρ1, hR1, hs1, hd1, hk1, hB1, hI1⟩
    have h2 := hJ ((asgs x).map ρ1) (by simp) ρ1 w1.heap hI1
    dsimp only at h2
    rw [mergeE_self (SmT_env hs1 hR hR1) (asgs_sub x)] at h2
    refine wpIn_mono (ih r b hb hok _ ρ1 w1 _ a1 w1 h2 hR1 rfl hB1 hd1 (Kw.refl _)) ?_
    rintro e a2 w2 ⟨hs2, h3⟩
    have hmu1 : ((asgs x).map fun j => a1.tmps.getD j undef) = (asgs x).map ρ1 := List.map_congr_left fun j _ => hR1.get j
    cases e with
    | normal =>
      obtain ⟨ρ2, hR2, hd2, hk2, hq⟩ := h3
      have hmu : ((asgs x).map fun j => a2.tmps.getD j undef) = (asgs x).map ρ2 := List.map_congr_left fun j _ => hR2.get j
      refine ⟨⟨ρ2, hR2, hs1.trans hs2, hd2, hk1.trans hk2, fun e D hD => hB1 e D (Nat.le_trans hk2.1.1 hD), hq.1⟩, ?_⟩
      rw [hmu, hmu1]; exact hq.2
    | ret => obtain ⟨ρ2, hR2, hd2, hk2, hq⟩ := h3; exact ⟨hs1.trans hs2, ρ2, hR2, hd2, hk1.trans hk2, hq⟩
    | exit id => obtain ⟨ρ2, hR2, hd2, hk2, hq⟩ := h3; exact ⟨hs1.trans hs2, ρ2, hR2, hd2, hk1.trans hk2, hq⟩
    | _ => exact h3.elim
  | rangeFunc g ps as x iha ihx =>
    intro r b hb hok Q ρ h0 h a w H hR hw hB hd hk
    simp only [codeOk, Bool.and_eq_true] at hok
    obtain ⟨⟨⟨hb1, hps⟩, has⟩, hbody⟩ := hok
    have hr := hb hb1
    subst hr hw
    cases hops : opsOfC as with
    | none => rw [hops] at has; cases has
    | some ops =>
      rw [hops] at has
      unfold vc at H
      simp only [hops] at H
      refine range_wpIn hops (fun p hp => by have := List.all_eq_true.1 hps p hp; simpa using this) has ?_ (rangeH_old H) hR (hB hb1) hd hk _
      intro l K ρ1 h1 a1 w1 hv hR1 hd1 hw1
      subst hw1
      refine wpIn_mono (ihx (some l) false (fun e => by cases e) hbody _ ρ1 w1 _ a1 w1 hv hR1 rfl (fun e => by cases e) ⟨[], by simpa using hd1, List.nodup_nil, fun D hD => by cases hD⟩ (Kw.refl _)) ?_
      rintro e a2 w2 ⟨_, h2⟩
      cases e <;> first | exact h2.elim | exact (let ⟨ρ2, _, _, hk2, hq⟩ := h2; ⟨trivial, hq, hk2⟩)
  | exit id =>
    intro r b hb hok Q ρ h0 h a w H hR hw hB hd hk
    subst hw; exact wpIn_exit ⟨SmT.refl _ _, wQ_mk (.inr (.inr ⟨id, rfl⟩)) hR hd hk H⟩
  | scope x ih =>
    intro r b hb hok Q ρ h0 h a w H hR hw hB hd hk
    exact wpIn_scope' (fun l a w q => q.2) (ih r b hb hok Q ρ h0 h a w H hR hw hB hd hk)
  | label l =>
    intro r b hb hok Q ρ h0 h a w H hR hw hB hd hk
    subst hw; exact wpIn_label ⟨SmT.refl _ _, wQ_mk (.inl rfl) hR hd hk H⟩
  | goto l => intro r b hb hok Q ρ h0 h a w H; exact H.elim
  | ret =>
    intro r b hb hok Q ρ h0 h a w H hR hw hB hd hk
    subst hw; exact wpIn_ret ⟨SmT.refl _ _, wQ_mk (.inr (.inl rfl)) hR hd hk H⟩
  | refuse why => intro r b hb hok Q ρ h0 h a w H; exact H.elim
end
end
end Go.Proofs.YtglgifgoojncpaaGreat
