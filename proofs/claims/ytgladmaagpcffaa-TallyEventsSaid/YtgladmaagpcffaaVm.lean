/- A region that draws its order: reads first. (3) Every order does what the one does. -/
import Derived.Test.YtgladmaagpcffaaVl
set_option linter.unusedSimpArgs false
set_option linter.unusedVariables false
namespace Go.Proofs.Ytgladmaagpcffaa
section
variable {P : Program} {ops : Array Oper}

theorem asPtr_mono {v : Value} {F F' : Addr → Prop} (f : ∀ a, F a → F' a) (H : asPtr v F) : asPtr v F' := by obtain ⟨a, rfl, H2⟩ := asPtr_out H; exact f a H2
theorem asPtrO_mono {v : Value} {F F' : Option Addr → Prop} (f : ∀ a, F a → F' a) (H : asPtrO v F) : asPtrO v F' := by obtain ⟨a, rfl, H2⟩ := asPtrO_out H; exact f a H2
theorem asInt_mono {k : IntKind} {v : Value} {F F' : Int → Prop} (f : ∀ a, F a → F' a) (H : asInt k v F) : asInt k v F' := by obtain ⟨a, rfl, H2⟩ := asInt_out H; unfold asInt; simp only [if_true]; exact f a H2
theorem asI_mono {v : Value} {F F' : Int → Prop} (f : ∀ a, F a → F' a) (H : asI v F) : asI v F' := by obtain ⟨k, a, rfl, H2⟩ := asI_out H; exact f a H2
theorem asBool_mono {v : Value} {F F' : Bool → Prop} (f : ∀ a, F a → F' a) (H : asBool v F) : asBool v F' := by obtain ⟨a, rfl, H2⟩ := asBool_out H; exact f a H2
theorem asStr_mono {v : Value} {F F' : ByteArray → Prop} (f : ∀ a, F a → F' a) (H : asStr v F) : asStr v F' := by obtain ⟨a, rfl, H2⟩ := asStr_out H; exact f a H2
theorem asSlice_mono {v : Value} {F F' : Option Addr → Nat → Nat → Prop} (f : ∀ a b c, F a b c → F' a b c) (H : asSlice v F) : asSlice v F' := by obtain ⟨a, b, c, rfl, H2⟩ := asSlice_out H; exact f a b c H2
theorem asAgg_mono {v : Value} {F F' : Array Value → Prop} (f : ∀ a, F a → F' a) (H : asAgg v F) : asAgg v F' := by obtain ⟨a, rfl, H2⟩ := asAgg_out H; exact f a H2
theorem asTup_mono {v : Value} {F F' : Array Value → Prop} (f : ∀ a, F a → F' a) (H : asTup v F) : asTup v F' := by obtain ⟨a, rfl, H2⟩ := asTup_out H; exact f a H2
theorem asMap_mono {v : Value} {F F' : Option Nat → Prop} (f : ∀ a, F a → F' a) (H : asMap v F) : asMap v F' := by obtain ⟨a, rfl, H2⟩ := asMap_out H; exact f a H2
theorem asFnNil_mono {v : Value} {F F' : Bool → Prop} (f : ∀ a, F a → F' a) (H : asFnNil v F) : asFnNil v F' := by unfold asFnNil at *; split at H <;> first | exact f _ H | exact H.elim
theorem ifB_mono {b : Bool} {X Y X' Y' : Prop} (f : X → X') (g : Y → Y') (H : ifB b X Y) : ifB b X' Y' := by cases b <;> first | exact f H | exact g H
theorem ite_mono {c : Prop} [Decidable c] {X X' : Prop} (f : c → X → X') (H : if c then X else False) : if c then X' else False := by split <;> simp_all
theorem ite_mono' {c : Prop} [Decidable c] {X X' : Prop} (f : ¬c → X → X') (H : if c then False else X) : if c then False else X' := by split <;> simp_all
theorem cellsT_mono {t : TypeId} {v : Value} {F F' : List Value → Prop} (f : ∀ a, F a → F' a) (H : cellsT P t v F) : cellsT P t v F' := (cellsT_read H).2 _ (f _ (cellsT_read H).1)
theorem fillH_mono {place : Nat → Option (Nat × TypeId)} {parts : List (Nat × Value)} {cells : List Value} {F F' : List Value → Prop} (f : ∀ a, F a → F' a) (H : fillH P place cells parts F) : fillH P place cells parts F' := by
  obtain ⟨cs, h1, h2⟩ := fillH_read _ _ _ H; exact h2 _ (f _ h1)
theorem ldH_mono {h : Heap} {a : Addr} {F F' : Value → Prop} (f : ∀ v, F v → F' v) (H : ldH h a F) : ldH h a F' := by unfold ldH at *; split <;> simp_all
theorem ldN_mono {h : Heap} {a : Addr} (n : Nat) : ∀ {i : Nat} {acc : List Value} {F F' : List Value → Prop}, (∀ v, F v → F' v) → ldN h a i n acc F → ldN h a i n acc F' := by
  induction n with
  | zero => intro i acc F F' f H; exact f _ H
  | succ n ih => intro i acc F F' f H; exact ldH_mono (fun v => ih f) H
theorem stN_mono {a : Addr} (vs : List Value) : ∀ {h : Heap} {i : Nat} {F F' : Heap → Prop}, (∀ v, F v → F' v) → stN h a i vs F → stN h a i vs F' := by
  induction vs with
  | nil => intro h i F F' f H; exact f _ H
  | cons v vs ih => intro h i F F' f H; exact oneC_mono (fun ⟨a, b, c⟩ => ⟨a, b, ih f c⟩) H
theorem elemsH_mono {cs : Array Value} {F F' : List Value → Prop} (f : ∀ v, F v → F' v) : ∀ (n i : Nat) (acc : List Value), elemsH cs n i acc F → elemsH cs n i acc F' := by
  intro n
  induction n with
  | zero => intro i acc H; exact f _ H
  | succ n ih =>
    intro i acc H
    have H' : elemH cs i (fun v => elemsH cs n (i + 1) (v :: acc) F) := H
    show elemH cs i (fun v => elemsH cs n (i + 1) (v :: acc) F')
    unfold elemH at *
    split at H'
    · exact ih _ _ H'
    · exact H'.elim
theorem aggF_mono {n : Nat} {v : Value} {F F' : Value → Prop} (f : ∀ v, F v → F' v) (H : aggF n v F) : aggF n v F' := by
  unfold aggF at *
  split at H
  · refine asAgg_mono (fun cs H => ?_) H
    unfold sizeH at *
    split at H
    · exact elemsH_mono (fun _ => f _) _ _ _ H
    · exact H.elim
  · exact f _ H
theorem typedV_mono {P : Program} {t : TypeId} {v : Value} {F F' : Value → Prop} (f : ∀ v, F v → F' v) (H : typedV P t v F) : typedV P t v F' := by
  unfold typedV at *
  split
  · exact asBool_mono (fun _ => f _) (by simp_all)
  · exact asInt_mono (fun _ => f _) (by simp_all)
  · exact asStr_mono (fun _ => f _) (by simp_all)
  · exact asSlice_mono (fun _ _ _ => f _) (by simp_all)
  · exact asPtrO_mono (fun _ => f _) (by simp_all)
  · exact asMap_mono (fun _ => f _) (by simp_all)
  · exact aggF_mono f (by simp_all)
  · exact aggF_mono f (by simp_all)
  · split at H <;> first | exact f _ H | simp_all
theorem tyO_mono {P : Program} {o : Oper} {v : Value} {F F' : Value → Prop} (f : ∀ v, F v → F' v) (H : tyO P o v F) : tyO P o v F' := by
  unfold tyO at *
  split at H
  · exact f _ H
  · exact f _ H
  · exact typedV_mono f H
theorem callV_mono {v : Value} {args : Array Value} {h : Heap} {K K' : Value → Heap → Prop} (hk : ∀ v h', K v h' → K' v h') (H : callV P v args h K) : callV P v args h K' := by
  have ho : ∀ (w0 : World) e w, onH w0 K e w → onH w0 K' e w := by intro w0 e w x; cases e <;> first | exact x | exact ⟨hk _ _ x.1, x.2⟩
  unfold callV at *
  split at H
  · exact ⟨H.1, fun w hw => (H.2 w hw).mono (ho w)⟩
  · intro w hw
    obtain ⟨fn, t, a, b, h1, h2⟩ := H w hw
    exact ⟨fn, t, a, b, h1, h2.mono (ho w)⟩
  · exact H.elim
theorem extV_mono {v : Value} {args : Array Value} {h : Heap} {K K' : Value → Heap → Prop} (hk : ∀ v h', K v h' → K' v h') (H : extV P v args h K) : extV P v args h K' := by
  unfold extV at *
  split at H
  · exact hp_mono (fun nx h' x => by cases nx <;> first | exact hk _ _ x | exact x.elim) H
  · exact H.elim
theorem minmax_go_mono {f : Int → Int → Int} {k : IntKind} (ys : List Value) : ∀ {a : Int} {F F' : Int → Prop}, (∀ n, F n → F' n) → minmax.go f k a ys F → minmax.go f k a ys F' := by
  induction ys with
  | nil => intro a F F' g H; exact g _ H
  | cons y ys ih => intro a F F' g H; exact asInt_mono (fun b x => ih g x) H
theorem minmax_mono {f : Int → Int → Int} {t : TypeId} (xs : List Value) {F F' : Int → Prop} (g : ∀ n, F n → F' n) (H : minmax f P t xs F) : minmax f P t xs F' := by
  cases xs with
  | nil => exact H
  | cons x xs => cases xs with
    | nil =>
      simp only [minmax] at *
      split <;> rename_i hk <;> rw [hk] at H
      · exact asInt_mono g H
      · exact H
    | cons y ys =>
      simp only [minmax] at *
      split <;> rename_i hk <;> rw [hk] at H
      · exact asInt_mono (fun a x => minmax_go_mono _ g x) H
      · exact H
theorem opH_mono {ρ : Operand → Value} {o : Oper} {h : Heap} {K K' : Value → Heap → Prop} (hk : ∀ v h', K v h' → K' v h') (H : opH P ρ o h K) : opH P ρ o h K' := by
  refine hp_mono ?_ H
  intro nx h' x
  cases nx <;> first
    | exact hk _ _ x
    | exact x
    | (intro w hw
       refine (x w hw).mono ?_
       intro e w y; cases e <;> first | exact y | exact ⟨hk _ _ y.1, y.2⟩)
theorem intOp_mono {k : IntKind} {op : BinOp} {a b : Int} {G G' : Value → Prop} (g : ∀ v, G v → G' v) (H : intOp k op a b G) : intOp k op a b G' := by
  obtain ⟨v, h1, h2⟩ := intOp_read H; exact h2 _ (g _ h1)
theorem shOp_mono {k : IntKind} {op : BinOp} {a b : Int} {G G' : Value → Prop} (g : ∀ v, G v → G' v) (H : shOp k op a b G) : shOp k op a b G' := by
  obtain ⟨v, h1, h2⟩ := shOp_read H; exact h2 _ (g _ h1)
theorem eqvH_mono {t : TypeId} {x y : Value} {F F' : Bool → Prop} (g : ∀ v, F v → F' v) (H : eqvH P t x y F) : eqvH P t x y F' := by
  obtain ⟨v, h1, h2⟩ := eqvH_read H; exact h2 _ (g _ h1)
theorem vbin_mono {op : BinOp} {xt yt : TypeId} {x y : Operand} {ρ : Operand → Value} {o : Oper} {h : Heap} {K K' : Value → Heap → Prop} (hk : ∀ v h', K v h' → K' v h')
    (H : vbin P op xt yt x y ρ o h K) : vbin P op xt yt x y ρ o h K' := by
  unfold vbin at *
  split at H
  · split at H
    · split at H
      · exact asInt_mono (fun _ => asInt_mono fun _ => shOp_mono fun v => hk v _) H
      · exact H
    · split at H
      · exact asInt_mono (fun _ => asInt_mono fun _ => shOp_mono fun v => hk v _) H
      · exact H
    · exact asInt_mono (fun _ => asInt_mono fun _ => intOp_mono fun v => hk v _) H
  · split at H
    · exact asBool_mono (fun _ => asBool_mono fun _ => hk _ _) H
    · exact asBool_mono (fun _ => asBool_mono fun _ => hk _ _) H
    · exact H
  · split at H
    · exact asStr_mono (fun _ => asStr_mono fun _ => hk _ _) H
    · exact asStr_mono (fun _ => asStr_mono fun _ => hk _ _) H
    · exact asStr_mono (fun _ => asStr_mono fun _ x => ⟨x.1, hk _ _ x.2⟩) H
    · exact opH_mono hk H
  · split at H
    · exact asPtrO_mono (fun _ => hk _ _) H
    · exact asPtrO_mono (fun _ => hk _ _) H
    · exact asPtrO_mono (fun _ => asPtrO_mono fun _ => hp_mono hk) H
    · exact asPtrO_mono (fun _ => asPtrO_mono fun _ => hp_mono hk) H
    · exact opH_mono hk H
  · split at H
    · exact asSlice_mono (fun _ _ _ => hk _ _) H
    · exact asSlice_mono (fun _ _ _ => hk _ _) H
    · exact opH_mono hk H
  · split at H
    · exact asMap_mono (fun _ => hk _ _) H
    · exact asMap_mono (fun _ => hk _ _) H
    · exact opH_mono hk H
  · split at H
    · exact asFnNil_mono (fun _ => hk _ _) H
    · exact asFnNil_mono (fun _ => hk _ _) H
    · exact opH_mono hk H
  · split at H
    · exact eqvH_mono (fun _ => hk _ _) H
    · exact eqvH_mono (fun _ => hk _ _) H
    · exact H
  · split at H
    · exact eqvH_mono (fun _ => hk _ _) H
    · exact eqvH_mono (fun _ => hk _ _) H
    · exact H
  · exact opH_mono hk H
theorem vbuiltin_mono {b : Builtin} {argTypes : Array TypeId} {t : TypeId} {args : List Value} {ρ : Operand → Value} {o : Oper} {h : Heap} {K K' : Value → Heap → Prop} (hk : ∀ v h', K v h' → K' v h')
    (H : vbuiltin P b argTypes t args ρ o h K) : vbuiltin P b argTypes t args ρ o h K' := by
  unfold vbuiltin at *
  split at H
  · split at H
    · split at H
      · exact asSlice_mono (fun _ _ _ => hk _ _) H
      · exact asStr_mono (fun _ => hk _ _) H
      · refine asMap_mono (fun r x => ?_) H
        unfold mapAt at *
        cases r with
        | none => exact hk _ _ x
        | some r => simp only at *; split at x <;> first | exact hk _ _ x | exact x
      · exact hk _ _ H
      · exact H
    · exact H
  · split at H
    · split at H
      · exact asSlice_mono (fun _ _ _ => hk _ _) H
      · exact H
    · exact H
  · exact hp_mono hk H
  · exact hp_mono hk H
  · exact hp_mono hk H
  · exact hp_mono hk H
  · exact hp_mono hk H
  · split at H
    · exact minmax_mono _ (fun _ => hk _ _) H
    · exact opH_mono hk H
  · split at H
    · exact minmax_mono _ (fun _ => hk _ _) H
    · exact opH_mono hk H
  · exact opH_mono hk H
theorem boundH_mono {v : Option Value} {d m : Nat} {F F' : Nat → Prop} (f : ∀ n, F n → F' n) (H : boundH none v d m F) : boundH none v d m F' := by
  obtain ⟨n, h1, h2⟩ := bound_read H; exact h2 _ (f _ h1)
theorem vslice_mono {t : TypeId} {x : Value} {lo hi mx : Option Value} {G G' : Value → Prop} (g : ∀ v, G v → G' v) (H : vslice P t x lo hi mx G) : vslice P t x lo hi mx G' := by
  obtain ⟨n, h1, h2⟩ := vslice_read H; exact h2 _ (g _ h1)
theorem vop_mono {ρ : Operand → Value} {o : Oper} {h : Heap} {K K' : Value → Heap → Prop} (hk : ∀ v h', K v h' → K' v h') (H : vop P ρ o h K) : vop P ρ o h K' := by
  unfold vop at *
  split at H
  case h_1 | h_2 | h_15 | h_16 => exact hk _ _ H
  case h_3 => exact asBool_mono (fun _ => ifB_mono (hk _ _) (hk _ _)) H
  case h_4 => split at H <;> first | exact hk _ _ H | exact H
  case h_5 => exact cellsT_mono (fun _ => hk _ _) H
  case h_6 =>
    refine ite_mono (fun _ x => ?_) H
    split at x
    · exact ite_mono' (fun _ => fillH_mono fun _ => hk _ _) x
    · exact ite_mono' (fun _ => fillH_mono fun _ => hk _ _) x
    · exact x
  case h_7 =>
    split at H
    · exact ite_mono (fun _ => fillH_mono fun _ => hk _ _) H
    · exact H
  case h_8 =>
    refine asPtr_mono (fun a => ite_mono fun _ x => ?_) H
    split at x <;> rename_i ha
    · rw [if_pos ha]; exact ldN_mono _ (fun _ => hk _ _) x
    · rw [if_neg ha]; exact ldH_mono (fun _ => hk _ _) x
  case h_9 => exact asPtr_mono (fun a => cellsT_mono fun cs => ite_mono fun _ => stN_mono _ fun _ => hk _ _) H
  case h_10 => unfold nilC at *; split at H <;> first | exact H | exact hk _ _ H
  case h_11 => exact vbin_mono hk H
  case h_12 =>
    split at H
    · exact asBool_mono (fun _ => hk _ _) H
    · exact asInt_mono (fun _ => hk _ _) H
    · exact opH_mono hk H
  case h_13 =>
    split at H
    · exact asInt_mono (fun _ => hk _ _) H
    · exact asStr_mono (fun _ => hk _ _) H
    · exact hp_mono hk H
  case h_14 => split at H <;> first | exact H | exact hk _ _ H
  case h_17 =>
    split at H
    · exact asI_mono (fun _ => asI_mono fun _ => ite_mono fun _ x => ⟨x.1, x.2.1, x.2.2.1, x.2.2.2.1, hk _ _ x.2.2.2.2⟩) H
    · exact H
  case h_18 => exact ite_mono' (fun _ => vslice_mono fun _ => hk _ _) H
  case h_19 =>
    split at H
    · split at H
      · exact ite_mono (fun _ => asPtr_mono fun _ => hk _ _) H
      · exact H
    · exact H
  case h_20 =>
    split at H
    · split at H
      · refine asAgg_mono (fun cs x => ?_) H
        unfold partH at *
        split at x
        · exact ite_mono (fun _ => hk _ _) x
        · exact x
      · exact H
    · exact H
  case h_21 =>
    split at H
    · exact asSlice_mono (fun a l c => asI_mono fun n x => ⟨x.1, x.2.1, asPtr_mono (fun _ => ite_mono fun _ => hk _ _) x.2.2⟩) H
    · exact asPtr_mono (fun a => asI_mono fun n x => ⟨x.1, x.2.1, ite_mono (fun _ => hk _ _) x.2.2⟩) H
    · exact H
  case h_22 =>
    split at H
    · exact asStr_mono (fun a => asI_mono fun n x => ⟨x.1, x.2.1, hk _ _ x.2.2⟩) H
    · refine asAgg_mono (fun a => asI_mono fun n x => ⟨x.1, x.2.1, ?_⟩) H
      have y := x.2.2
      unfold partH at *
      split at y
      · exact ite_mono (fun _ => hk _ _) y
      · exact y
    · exact H
  case h_23 => exact hp_mono hk H
  case h_24 => exact hp_mono (fun _ h' => hk _ _) H
  case h_25 => exact asTup_mono (fun vs x => by unfold elemH at *; split at x <;> first | exact hk _ _ x | exact x) H
  case h_26 => exact vbuiltin_mono hk H
  case h_27 =>
    split at H
    · exact extV_mono hk H
    · exact callV_mono hk H
  case h_28 => exact opH_mono hk H

/-- Whatever order is picked from here on; behind operation i 'obl i' holds. -/
def anyO (P : Program) (ops : Array Oper) (K : Env → Heap → Prop) : Nat → (Nat → Heap → Prop) → Array Bool → Env → Heap → Prop
  | 0, _, listed, ρ, h => Region.ready .any ops listed = [] ∧ K ρ h
  | n + 1, obl, listed, ρ, h => (Region.ready .any ops listed = [] → K ρ h) ∧
    ∀ i ∈ Region.ready .any ops listed, pstep P ops i ρ h fun ρ' h' => (h' = h ∨ obl i h') ∧ anyO P ops K n obl (listed.setIfInBounds i true) ρ' h'

theorem pstep_mono {i : Nat} {ρ : Env} {h : Heap} {K K' : Env → Heap → Prop} (hk : ∀ ρ h, K ρ h → K' ρ h) (H : pstep P ops i ρ h K) : pstep P ops i ρ h K' := by
  unfold pstep at *
  split
  · simp_all
  · rename_i o ho
    rw [ho] at H
    simp only at H
    split
    · rename_i hw; rw [if_pos hw] at H; exact vop_mono (fun v h' => hk _ _) H
    · rename_i hw; rw [if_neg hw] at H; exact hk _ _ H
theorem anyO_mono {K : Env → Heap → Prop} (n : Nat) : ∀ {obl obl' : Nat → Heap → Prop} {listed : Array Bool} {ρ : Env} {h : Heap}, (∀ i h, obl i h → obl' i h) → anyO P ops K n obl listed ρ h → anyO P ops K n obl' listed ρ h := by
  induction n with
  | zero => intro _ _ _ _ _ _ H; exact H
  | succ n ih => intro obl obl' listed ρ h hh H; exact ⟨H.1, fun i hi => pstep_mono (fun ρ h x => ⟨x.1.imp id (hh _ _), ih hh x.2⟩) (H.2 i hi)⟩

/-- Who is listed, waits for nobody. -/
def Closed (ops : Array Oper) (listed : Array Bool) : Prop :=
  ∀ k o, listed.getD k false = true → ops[k]? = some o → ∀ e ∈ o.after, Region.binds .any e = true → listed.getD e.on false = true
theorem Closed.set {listed : Array Bool} {i : Nat} (hc : Closed ops listed) (hi : i ∈ Region.ready .any ops listed) : Closed ops (listed.setIfInBounds i true) := by
  intro k o hk ho e he hb
  by_cases hki : k = i
  · subst hki
    obtain ⟨_, o', ho', hall⟩ := mem_ready.1 hi
    rw [ho] at ho'; cases ho'
    exact getD_set_true (hall e he hb)
  · rw [getD_set_ne false (Ne.symm hki)] at hk
    exact getD_set_true (hc k o hk ho e he hb)
theorem waits_listed {listed : Array Bool} (hc : Closed ops listed) (n : Nat) : ∀ (k i : Nat), listed.getD k false = true → waitsB ops n k i = true → listed.getD i false = true := by
  induction n with
  | zero => intro k i _ h; simp [waitsB] at h
  | succ n ih =>
    intro k i hk h
    unfold waitsB at h
    split at h
    · cases h
    · rename_i o ho
      obtain ⟨e, he, hb⟩ := Array.any_eq_true'.1 h
      simp only [Bool.and_eq_true, Bool.or_eq_true, beq_iff_eq] at hb
      have h1 := hc k o hk ho e he hb.1
      rcases hb.2 with h2 | h2
      · rw [← h2]; exact h1
      · exact ih _ _ h1 h2
theorem waits_ready {listed : Array Bool} (hc : Closed ops listed) {n k i : Nat} (hk : k ∈ Region.ready .any ops listed) (hi : listed.getD i false = false) : waitsB ops n k i = false := by
  cases hw : waitsB ops n k i with
  | false => rfl
  | true =>
    exfalso
    cases n with
    | zero => simp [waitsB] at hw
    | succ n =>
      unfold waitsB at hw
      split at hw
      · cases hw
      · rename_i o ho
        obtain ⟨_, o', ho', hall⟩ := mem_ready.1 hk
        rw [ho] at ho'; cases ho'
        obtain ⟨e, he, hb⟩ := Array.any_eq_true'.1 hw
        simp only [Bool.and_eq_true, Bool.or_eq_true, beq_iff_eq] at hb
        have h1 := hall e he hb.1
        rcases hb.2 with h2 | h2
        · rw [h2, hi] at h1; cases h1
        · rw [waits_listed hc n _ _ h1 h2] at hi; cases hi

def HoldsIn (L : List (Addr × Value)) (h : Heap) : Prop := ∀ x ∈ L, cellAt h x.1 = some x.2

/-- In state ρ, operation o yields v wherever L holds, or is passed over. -/
def YieldsL (P : Program) (ops : Array Oper) (L : List (Addr × Value)) (o : Oper) (v : Value) (ρ : Env) : Prop :=
  (wantE ops ρ o.guard = true ∧ RdAs P (evo ρ) o L v) ∨ (wantE ops ρ o.guard = false ∧ v = undefV)
theorem YieldsL.pstep {L : List (Addr × Value)} {o : Oper} {v : Value} {ρ : Env} {i : Nat} {h : Heap} {K : Env → Heap → Prop} (hy : YieldsL P ops L o v ρ) (hi : ops[i]? = some o) (hL : HoldsIn L h)
    (H : K (putE ρ o.dst v) h) : pstep P ops i ρ h K := by
  unfold Proofs.Ytgladmaagpcffaa.pstep; rw [hi]; simp only
  rcases hy with ⟨hw, hr⟩ | ⟨hw, rfl⟩
  · rw [if_pos hw]; exact hr h hL _ H
  · rw [if_neg (by simp [hw])]; exact H
theorem RdAs.put {L : List (Addr × Value)} {o : Oper} {v : Value} {ρ : Env} {d : Option Nat} {u : Value} (hp0 : plainOp o = true) (hd : ∀ j, d = some j → j ∉ o.looksAt ops)
    (hr : RdAs P (evo ρ) o L v) : RdAs P (evo (putE ρ d u)) o L v := fun h hL K hk => by rw [vop_put (ops := ops) hp0 hd]; exact hr h hL K hk
theorem YieldsL.put {L : List (Addr × Value)} {o : Oper} {v : Value} {ρ : Env} {d : Option Nat} {u : Value} (hp0 : plainOp o = true) (hd : ∀ j, d = some j → j ∉ o.looksAt ops)
    (hy : YieldsL P ops L o v ρ) : YieldsL P ops L o v (putE ρ d u) := by
  unfold YieldsL
  rw [wantE_put hd]
  exact hy.imp (fun ⟨a, b⟩ => ⟨a, b.put hp0 hd⟩) id

theorem pstep_put {L : List (Addr × Value)} {oi oj : Oper} {v : Value} {ρ : Env} {j : Nat} {h : Heap} {K : Env → Heap → Prop} (hj : ops[j]? = some oj) (hap : oi.apart ops oj = true)
    (hpi : plainOp oi = true) (hpj : plainOp oj = true) (hy : YieldsL P ops L oi v ρ) (H : pstep P ops j (putE ρ oi.dst v) h K) :
    pstep P ops j ρ h fun ρ' h' => YieldsL P ops L oi v ρ' ∧ K (putE ρ' oi.dst v) h' := by
  obtain ⟨h1, h2, h3⟩ := Oper.apart_spec hap
  unfold pstep at *
  rw [hj] at *
  simp only at H ⊢
  rw [wantE_put h1] at H
  split
  · rename_i hw
    rw [if_pos hw, vop_put (ops := ops) hpj h1] at H
    refine vop_mono (fun u h' x => ⟨hy.put hpi h3, ?_⟩) H
    rw [putE_comm ρ v u h2] at x; exact x
  · rename_i hw
    rw [if_neg hw] at H
    refine ⟨hy.put hpi h3, ?_⟩
    rw [putE_comm ρ v undefV h2] at H; exact H

/-- **A read may be taken first.** -/
theorem anyO_first {K : Env → Heap → Prop} {L : List (Addr × Value)} {i : Nat} {oi : Oper} {v : Value} (hi : ops[i]? = some oi) (hp0 : ∀ (j : Nat) (o : Oper), ops[j]? = some o → plainOp o = true) (fuel : Nat) :
    ∀ (obl : Nat → Heap → Prop) (listed : Array Bool) (ρ : Env) (h : Heap),
      (∀ j oj, ops[j]? = some oj → j ≠ i → listed.getD j true = false → (∀ e ∈ oj.after, Region.binds .any e = true → e.on ≠ i) → oi.apart ops oj = true) →
      Closed ops listed → i ∈ Region.ready .any ops listed → YieldsL P ops L oi v ρ → HoldsIn L h →
      anyO P ops K fuel (fun e h' => ((∀ m, waitsB ops m e i = false) → HoldsIn L h') ∧ obl e h') (listed.setIfInBounds i true) (putE ρ oi.dst v) h → anyO P ops K (fuel + 1) obl listed ρ h := by
  induction fuel with
  | zero =>
    intro obl listed ρ h _ hcl hr hy hL H
    refine ⟨fun e => (by rw [e] at hr; cases hr), fun j hj => ?_⟩
    by_cases hji : j = i
    · subst hji; exact hy.pstep hi hL ⟨.inl rfl, H⟩
    · have := ready_mono hj hji
      rw [H.1] at this
      cases this
  | succ fuel ih =>
    intro obl listed ρ h hfree hcl hr hy hL H
    refine ⟨fun e => (by rw [e] at hr; cases hr), fun j hj => ?_⟩
    by_cases hji : j = i
    · subst hji; exact hy.pstep hi hL ⟨.inl rfl, anyO_mono _ (fun _ _ x => x.2) H⟩
    · have h1 := H.2 j (ready_mono hj hji)
      obtain ⟨hjun, oj, hoj, hall⟩ := mem_ready.1 hj
      have hiun : listed.getD i false = false := by
        have h0 := (mem_ready.1 hr).1
        rcases Nat.lt_or_ge i listed.size with h' | h'
        · simp [h'] at h0 ⊢; exact h0
        · simp [Array.getElem?_eq_none h']
      have hnot : ∀ e ∈ oj.after, Region.binds .any e = true → e.on ≠ i := fun e he hb heq => by
        have h1 := hall e he hb
        rw [heq, hiun] at h1; cases h1
      have h2 := pstep_put hoj (hfree j oj hoj hji hjun hnot) (hp0 i oi hi) (hp0 j oj hoj) hy h1
      have hfree' : ∀ k ok, ops[k]? = some ok → k ≠ i → (listed.setIfInBounds j true).getD k true = false →
          (∀ e ∈ ok.after, Region.binds .any e = true → e.on ≠ i) → oi.apart ops ok = true := fun k ok hk hki hun hno => by
        refine hfree k ok hk hki ?_ hno
        by_cases hjk : j = k
        · subst hjk; exact hjun
        · rw [getD_set_ne true hjk] at hun; exact hun
      refine pstep_mono (fun ρ' h' x => ?_) h2
      obtain ⟨hy', hx, hany⟩ := x
      have hL' : HoldsIn L h' := by
        rcases hx with rfl | hx
        · exact hL
        · exact hx.1 (fun m => waits_ready hcl hj hiun)
      refine ⟨hx.imp id (fun x => x.2), ih obl (listed.setIfInBounds j true) ρ' h' hfree' (hcl.set hj) (ready_mono hr (Ne.symm hji)) hy' hL' ?_⟩
      rw [Array.setIfInBounds_comm _ _ hji]
      exact hany
end
end Go.Proofs.Ytgladmaagpcffaa
