/- Each operation of the calculus is the model's. -/
import Derived.Test.YtgladmaagpcffaaVb
set_option linter.unusedSimpArgs false
set_option linter.unusedVariables false
namespace Go.Proofs.Ytgladmaagpcffaa
section
variable {P : Program} {ρ : Operand → Value} {h : Heap} {K : Value → Heap → Prop}

theorem asPtr_out {v : Value} {F : Addr → Prop} (H : asPtr v F) : ∃ a, v = .pointer (some a) ∧ F a := by unfold asPtr at H; split at H <;> first | exact ⟨_, rfl, H⟩ | exact H.elim
theorem asPtrO_out {v : Value} {F : Option Addr → Prop} (H : asPtrO v F) : ∃ a, v = .pointer a ∧ F a := by unfold asPtrO at H; split at H <;> first | exact ⟨_, rfl, H⟩ | exact H.elim
theorem asInt_out {k : IntKind} {v : Value} {F : Int → Prop} (H : asInt k v F) : ∃ n, v = .int k n ∧ F n := by
  unfold asInt at H; split at H
  · split at H
    · rename_i e; subst e; exact ⟨_, rfl, H⟩
    · exact H.elim
  · exact H.elim
theorem asI_out {v : Value} {F : Int → Prop} (H : asI v F) : ∃ k n, v = .int k n ∧ F n := by unfold asI at H; split at H <;> first | exact ⟨_, _, rfl, H⟩ | exact H.elim
theorem asBool_out {v : Value} {F : Bool → Prop} (H : asBool v F) : ∃ b, v = .bool b ∧ F b := by unfold asBool at H; split at H <;> first | exact ⟨_, rfl, H⟩ | exact H.elim
theorem asStr_out {v : Value} {F : ByteArray → Prop} (H : asStr v F) : ∃ s, v = .string s ∧ F s := by unfold asStr at H; split at H <;> first | exact ⟨_, rfl, H⟩ | exact H.elim
theorem asSlice_out {v : Value} {F : Option Addr → Nat → Nat → Prop} (H : asSlice v F) : ∃ a l c, v = .slice a l c ∧ F a l c := by unfold asSlice at H; split at H <;> first | exact ⟨_, _, _, rfl, H⟩ | exact H.elim
theorem asAgg_out {v : Value} {F : Array Value → Prop} (H : asAgg v F) : ∃ a, v = .agg a ∧ F a := by unfold asAgg at H; split at H <;> first | exact ⟨_, rfl, H⟩ | exact H.elim
theorem asTup_out {v : Value} {F : Array Value → Prop} (H : asTup v F) : ∃ a, v = .tuple a ∧ F a := by unfold asTup at H; split at H <;> first | exact ⟨_, rfl, H⟩ | exact H.elim
theorem asMap_out {v : Value} {F : Option Nat → Prop} (H : asMap v F) : ∃ a, v = .map a ∧ F a := by unfold asMap at H; split at H <;> first | exact ⟨_, rfl, H⟩ | exact H.elim
theorem asFnNil_out {v : Value} {F : Bool → Prop} (H : asFnNil v F) : (v = .nilFunc ∧ F true) ∨ (∃ f a b, v = .func f a b ∧ F false) := by
  unfold asFnNil at H; split at H
  · exact .inl ⟨rfl, H⟩
  · exact .inr ⟨_, _, _, rfl, H⟩
  · exact H.elim
theorem oneC_cells {v : Value} {X : Prop} (H : oneC v X) : v.cells = #[v] ∧ X := by unfold oneC at H; split at H <;> simp_all [Value.cells]
theorem elemsH_out {cs : Array Value} {F : List Value → Prop} : ∀ (n i : Nat) (acc : List Value), elemsH cs n i acc F → F (acc.reverse ++ (cs.toList.drop i).take n) := by
  intro n
  induction n with
  | zero => intro i acc H; simpa using (show F acc.reverse from H)
  | succ n ih =>
    intro i acc H
    unfold elemsH elemH at H
    split at H
    · rename_i v hv
      have := ih _ _ H
      rw [← Array.getElem?_toList] at hv
      obtain ⟨hlt, hv⟩ := List.getElem?_eq_some_iff.1 hv
      rw [List.drop_eq_getElem_cons hlt, hv]
      simpa using this
    · exact H.elim
theorem elemsH_in {cs : Array Value} {F : List Value → Prop} : ∀ (n i : Nat) (acc : List Value), i + n ≤ cs.size → F (acc.reverse ++ (cs.toList.drop i).take n) → elemsH cs n i acc F := by
  intro n
  induction n with
  | zero => intro i acc _ H; show F acc.reverse; simpa using H
  | succ n ih =>
    intro i acc hi H
    have hlt : i < cs.toList.length := by simp; omega
    show elemH cs i fun v => elemsH cs n (i + 1) (v :: acc) F
    unfold elemH
    rw [← Array.getElem?_toList, List.getElem?_eq_getElem hlt]
    refine ih _ _ (by omega) ?_
    rw [List.drop_eq_getElem_cons hlt] at H
    simpa using H
theorem aggC_out {n : Nat} {v : Value} {F : List Value → Prop} (H : aggC n v F) : F v.cells.toList ∧ ∀ F' : List Value → Prop, F' v.cells.toList → aggC n v F' := by
  cases hb : Nat.ble n 64 with
  | true =>
    have e : ∀ F : List Value → Prop, aggC n v F = asAgg v fun cs => sizeH cs n (elemsH cs n 0 [] F) := fun F => by unfold aggC; rw [hb]
    rw [e] at H
    obtain ⟨cs, rfl, H1⟩ := asAgg_out H
    unfold sizeH at H1
    split at H1
    · rename_i hn
      have hn' := Nat.eq_of_beq_eq_true hn
      have h1 := elemsH_out _ _ _ H1
      have e2 : (cs.toList.drop 0).take n = cs.toList := by rw [List.drop_zero, List.take_of_length_le (by simp [hn'])]
      rw [e2] at h1
      refine ⟨h1, fun F' x => ?_⟩
      rw [e]
      show sizeH cs n _
      unfold sizeH
      rw [hn]
      refine elemsH_in n 0 [] (by omega) ?_
      rw [e2]
      exact x
    · exact H1.elim
  | false =>
    have e : ∀ F : List Value → Prop, aggC n v F = asAgg v fun cs => F cs.toList := fun F => by unfold aggC; rw [hb]
    rw [e] at H
    obtain ⟨cs, rfl, H1⟩ := asAgg_out H
    exact ⟨H1, fun F' x => by rw [e]; exact x⟩
theorem cellsT_out {t : TypeId} {v : Value} {F : List Value → Prop} (H : cellsT P t v F) : F v.cells.toList := by
  unfold cellsT at H; split at H
  · exact (aggC_out H).1
  · obtain ⟨e, H⟩ := oneC_cells H; rw [e]; exact H
theorem ifB_out {b : Bool} {X Y : Prop} (H : ifB b X Y) : if b then X else Y := by cases b <;> exact H
theorem ldH_out {a : Addr} {F : Value → Prop} (H : ldH h a F) : ∃ v, cellAt h a = some v ∧ F v := by unfold ldH at H; split at H <;> first | exact ⟨_, ‹_›, H⟩ | exact H.elim

theorem hp_v (s : Sem Value) : hp P (do let x ← s; pure (Next.value x)) (nxt P K) h = hp P s K h := by rw [hp_bind]; rfl
theorem hp_u (s : Sem Unit) : hp P (do s; pure Next.skip) (nxt P K) h = hp P s (fun _ => K undefV) h := by rw [hp_bind]; rfl

/-! ### loads, stores -/
theorem hp_loadCellsFrom (a : Addr) (n : Nat) : ∀ (i : Nat) (acc : List Value) (F : Array Value → Heap → Prop), ldN h a i n acc (fun cs => F cs.toArray h) →
    hp P (loadCellsFrom a i n acc.reverse.toArray) F h := by
  induction n with
  | zero => intro i acc F H; exact H
  | succ n ih =>
    intro i acc F H
    obtain ⟨v, hv, H⟩ := ldH_out H
    have := ih (i + 1) (v :: acc) F H
    simp only [loadCellsFrom, hp_bind, load, hp, hv]
    simpa using this
theorem hp_storeCells (a : Addr) (vs : List Value) : ∀ (h : Heap) (i : Nat) (F : Heap → Prop), stN h a i vs F → hp P (storeCells a vs i) (fun _ => F) h := by
  induction vs with
  | nil => intro h i F H; exact H
  | cons v vs ih =>
    intro h i F H
    simp only [storeCells, hp_bind, store, hp]
    exact oneC_mono (fun ⟨h1, h2, h3⟩ => ⟨h1, h2, ih _ _ _ h3⟩) H
theorem hp_loadVar {t : TypeId} {a : Addr} (ht : there P t = true)
    (H : if aggT P t then ldN h a 0 (siz P t) [] (fun cs => K (.agg cs.toArray) h) else ldH h a fun v => K v h) : hp P (loadVar t a) K h := by
  simp only [loadVar, hp_bind, hp_isAgg (there_und ht)]
  split at H
  · simp only [*, if_true, hp_bind, hp_sizeOf ht]
    exact hp_loadCellsFrom a _ 0 [] (fun cs h' => K (.agg cs) h') H
  · rename_i hn
    simp only [hn]
    obtain ⟨v, hv, H⟩ := ldH_out H
    simp only [load, hp, hv]; simpa [load, hp, hv] using H
theorem hp_storeVar {t : TypeId} {a : Addr} {v : Value} {F : Heap → Prop} (ht : there P t = true) (hs : v.cells.toList.length = siz P t)
    (H : stN h a 0 v.cells.toList F) : hp P (storeVar t a v) (fun _ => F) h := by
  simp only [storeVar, hp_bind, hp_sizeOf ht]
  rw [if_neg (by simpa using hs)]
  exact hp_storeCells a _ h 0 F H
theorem hp_part {t : TypeId} {cs : Array Value} {off : Nat} {v : Value} (ht : there P t = true) (hv : partV P t cs off = some v) (F : Value → Heap → Prop) : hp P (part t cs off) F h = F v h := by
  unfold partV at hv
  simp only [part, hp_bind, hp_isAgg (there_und ht)]
  split at hv
  · cases hv; simp only [*, if_true, hp_bind, hp_sizeOf ht]; rfl
  · rename_i hn; simp only [hn]; simp [hv]; rfl

/-! ### equality -/
theorem hp_ite {α : Type} {c : Prop} [Decidable c] (a b : Sem α) (F : α → Heap → Prop) (h : Heap) : hp P (if c then a else b) F h = if c then hp P a F h else hp P b F h := by split <;> rfl
theorem hp_stuck {α : Type} (why : String) (F : α → Heap → Prop) (h : Heap) : hp P (stuck why : Sem α) F h = False := rfl
theorem hp_program (F : Program → Heap → Prop) (h : Heap) : hp P program F h = F P h := rfl
theorem andO_some {x y : Option Bool} {b : Bool} (H : andO x y = some b) : ∃ p q, x = some p ∧ y = some q ∧ b = (p && q) := by
  unfold andO at H; split at H
  · simp at H; exact ⟨_, _, rfl, rfl, H.symm⟩
  · cases H
theorem hp_partE {t : TypeId} {cs : Array Value} {off : Nat} {v : Value} (hv : partE P t cs off = some v) (F : Value → Heap → Prop) (h : Heap) : hp P (part t cs off) F h = F v h := by
  unfold partE at hv; split at hv
  · exact hp_part ‹_› hv F
  · cases hv
theorem hp_loopEq {ι : Type} (l : List ι) (ok : ι → Option Bool) (g : ι → Option Bool × Unit → Sem (ForInStep (Option Bool × Unit))) (G : Option Bool × Unit → Heap → Prop) (h : Heap) :
    ∀ b, l.foldr (fun i acc => andO (ok i) acc) (some true) = some b →
    (∀ i s c, ok i = some c → ∀ (F : ForInStep (Option Bool × Unit) → Heap → Prop), hp P (g i s) F h = F (if c then .yield (none, ()) else .done (some false, ())) h) →
    hp P (forIn l ((none, ()) : Option Bool × Unit) g) G h = if b then G (none, ()) h else G (some false, ()) h := by
  induction l with
  | nil => intro b H _; simp at H; subst H; simp [hp_pure]
  | cons i l ih =>
    intro b H hf
    simp only [List.foldr_cons] at H
    obtain ⟨p, q, hp1, hq, rfl⟩ := andO_some H
    simp only [List.forIn_cons, hp_bind, hf i _ p hp1]
    cases p
    · simp [hp_pure]
    · simp only [Bool.true_and, if_true]
      exact ih q hq hf
theorem eqv_hp (d : Nat) : ∀ (t : TypeId) (x y : Value) (b : Bool), eqv P d t x y = some b → ∀ (F : Bool → Heap → Prop) (h : Heap), hp P (Op.equalIn d t x y) F h = F b h := by
  induction d with
  | zero => intro t x y b H; simp [eqv] at H
  | succ d ih =>
    intro t x y b H F h
    unfold eqv at H
    split at H
    · rename_i hu; simp only [Op.equalIn, hp_bind, hp_underlying (und_some hu (by simp))]; simp at H; subst H; rfl
    · rename_i hu; simp only [Op.equalIn, hp_bind, hp_underlying (und_some hu (by simp))]
      split at H <;> simp at H
      subst H; simp only [*, if_true]; rfl
    · rename_i hu; simp only [Op.equalIn, hp_bind, hp_underlying (und_some hu (by simp))]; simp at H; subst H; rfl
    · rename_i fields xs ys hu
      simp only [Op.equalIn, hp_bind, hp_underlying (und_some hu (by simp)), hp_program]
      split at H
      · cases H
      · rename_i hst
        rw [if_neg hst]
        simp only [hp_bind, ← Array.forIn_toList]
        refine (hp_loopEq (P := P) fields.toList (fun f => if f.name = "_" then none else match partE P f.type xs f.offset, partE P f.type ys f.offset with | some x, some y => eqv P d f.type x y | _, _ => none) _ _ h b ?_ ?_).trans ?_
        · refine Eq.trans ?_ H
          congr 1
          funext f acc
          by_cases hn : f.name = "_"
          · simp [hn, andO]
          · cases h2 : partE P f.type xs f.offset <;> cases h3 : partE P f.type ys f.offset <;> simp [hn, andO]
        · intro f s c hc F'
          split at hc
          · cases hc
          · rename_i hn
            split at hc
            · rename_i a e h1 h2
              simp only [ne_eq, hn, not_false_eq_true, if_true, hp_bind, hp_partE h1, hp_partE h2, ih _ _ _ _ hc, hp_ite]
              cases c <;> rfl
            · cases hc
        · cases b <;> rfl
    · rename_i len elem xs ys hu
      split at H
      · rename_i hth
        simp only [Op.equalIn, hp_bind, hp_underlying (und_some hu (by simp)), hp_program, hp_sizeOf hth]
        rw [Std.Legacy.Range.forIn_eq_forIn_range']
        refine (hp_loopEq (P := P) _ (fun i => match partE P elem xs (i * siz P elem), partE P elem ys (i * siz P elem) with | some x, some y => eqv P d elem x y | _, _ => none) _ _ h b ?_ ?_).trans ?_
        · refine Eq.trans ?_ H
          have e : (Std.Legacy.Range.size [:len]) = len := by simp [Std.Legacy.Range.size]
          rw [e]
          congr 1
          funext i acc
          cases h2 : partE P elem xs (i * siz P elem) <;> cases h3 : partE P elem ys (i * siz P elem) <;> simp [andO]
        · intro i s c hc F'
          split at hc
          · rename_i a e h1 h2
            simp only [hp_bind, hp_partE h1, hp_partE h2, ih _ _ _ _ hc, hp_ite]
            cases c <;> rfl
          · cases hc
        · cases b <;> rfl
      · cases H
    · cases H
theorem hp_eqv {t : TypeId} {x y : Value} {F : Bool → Prop} (H : eqvH P t x y F) : (∃ b, hp P (Op.equal t x y) = (fun G h => G b h) ∧ F b) ∧ P.eqGuardType P.depth t = false ∧ ∃ xs, x = .agg xs := by
  unfold eqvH at H
  split at H
  · exact H.elim
  · rename_i hg
    obtain ⟨xs, rfl, H⟩ := asAgg_out H
    split at H
    · rename_i b hb
      exact ⟨⟨b, funext fun G => funext fun h => eqv_hp 10000 t _ y b hb G h, H⟩, by simpa using hg, _, rfl⟩
    · exact H.elim
end
end Go.Proofs.Ytgladmaagpcffaa
