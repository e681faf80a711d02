/- Code, walked over heaps, is sound: operations, lists of operations. -/
import Derived.Test.YtgladmaagpcffaaVh
import Derived.Test.YtgladmaagpcffaaVi
set_option linter.unusedSimpArgs false
set_option linter.unusedVariables false
namespace Go.Proofs.Ytgladmaagpcffaa

/-- The fence that lets all in, in a round or in none. -/
def FW (r : Option Nat) : Fence := { fn := fun _ => True, depth := none, alive := false, round := r }
theorem FW_none : FW none = Fence.wide := rfl
theorem callsIn_FW {r : Option Nat} {P : Program} {f : FuncId} {args : Array Value} {w : World} {R : Ending → World → Prop} (h : CallsIn Fence.wide 0 P f args w R) : CallsIn (FW r) 0 P f args w R := h
theorem callsIn_wide' {r : Option Nat} {P : Program} {f : FuncId} {args : Array Value} {w : World} {R : Ending → World → Prop} (h : CallsIn (FW r) 0 P f args w R) : CallsIn Fence.wide 0 P f args w R := h
theorem roundIn_FW {r : Option Nat} {P : Program} {l : Nat} {f : FuncId} {t : Array Value} {x y : Code} {w : World} {R : Ending → World → Prop} (h : RoundIn Fence.wide 0 P l f t x y w R) : RoundIn (FW r) 0 P l f t x y w R := h

structure Rl (n : Nat) (t : Array Value) (ρ : Env) : Prop where
  size : t.size = n
  get : ∀ j, t.getD j undef = ρ j

theorem upd_same (ρ : Env) (d : Nat) (v : Value) : upd ρ d v d = v := by simp [upd]
theorem upd_ne (ρ : Env) {d j : Nat} (v : Value) (h : j ≠ d) : upd ρ d v j = ρ j := by
  have : Nat.beq j d = false := Bool.eq_false_iff.2 fun e => h (Nat.eq_of_beq_eq_true e)
  simp [upd, this]
theorem upd_self {ρ : Env} {d : Nat} {v : Value} (h : ρ d = v) : upd ρ d v = ρ := by
  funext j; by_cases e : j = d
  · subst e; rw [upd_same, h]
  · rw [upd_ne _ _ e]
section
variable {n : Nat} {t : Array Value} {ρ : Env} {a : Act}
theorem Rl.eval (h : Rl n a.tmps ρ) : a.eval = evo ρ := by
  funext x; cases x with
  | tmp j => exact h.get j
  | _ => rfl
theorem Rl.put (h : Rl n a.tmps ρ) {d : Option Nat} (v : Value) (hd : ∀ j, d = some j → j < n) : Rl n (a.put d v).tmps (putE ρ d v) := by
  cases d with
  | none => exact h
  | some d =>
    refine ⟨by simp [Act.put, h.size], fun j => ?_⟩
    have hlt : d < a.tmps.size := by rw [h.size]; exact hd d rfl
    simp only [Act.put, putE]
    by_cases e : j = d
    · subst e; rw [upd_same]; simp [Array.getD_eq_getD_getElem?, hlt]
    · rw [upd_ne _ _ e, ← h.get j]
      simp [Array.getD_eq_getD_getElem?, Array.getElem?_setIfInBounds_ne (Ne.symm e)]
theorem put_defers (d : Option Nat) (v : Value) : (a.put d v).defers = a.defers := by cases d <;> rfl

/-! ### guards -/
def yieldE (ops : Array Oper) (ρ : Env) (j : Nat) : Option Bool :=
  match (ops[j]?).bind (·.dst) with
  | none => none
  | some d => match ρ d with | .bool b => some b | _ => none
def wantE (ops : Array Oper) (ρ : Env) (g : Option (Nat × Bool)) : Bool :=
  match g with
  | none => true
  | some (j, want) => yieldE ops ρ j == some want
theorem yielded_eq {ops : Array Oper} (h : Rl n a.tmps ρ) (j : Nat) : yielded ops a.tmps j = yieldE ops ρ j := by
  unfold yielded yieldE
  cases hd : (ops[j]?).bind (·.dst) with
  | none => rfl
  | some d =>
    simp only [Option.bind_some]
    have := h.get d
    cases hv : a.tmps[d]? with
    | none => simp [Array.getD_eq_getD_getElem?, hv] at this; simp [← this, undef]
    | some v => simp [Array.getD_eq_getD_getElem?, hv] at this; subst this; cases ρ d <;> rfl
theorem wanted_eq {ops : Array Oper} {o : Oper} (h : Rl n a.tmps ρ) : Region.wanted o (yielded ops a.tmps) = wantE ops ρ o.guard := by
  unfold Region.wanted wantE
  cases o.guard with
  | none => rfl
  | some g => obtain ⟨j, want⟩ := g; simp only [yielded_eq h]
theorem vguard_out {ops : Array Oper} {g : Option (Nat × Bool)} {yes no : Env → Prop} (H : vguard ops ρ g yes no) : if wantE ops ρ g then yes ρ else no ρ := by
  unfold vguard at H
  cases g with
  | none => exact H
  | some g =>
    obtain ⟨j, want⟩ := g
    simp only at H
    cases hd : (ops[j]?).bind (·.dst) with
    | none =>
      rw [hd] at H
      have hy : yieldE ops ρ j = none := by unfold yieldE; rw [hd]
      simp only [wantE, hy]; exact H
    | some d =>
      rw [hd] at H; simp only at H
      unfold guardV at H
      cases hv : ρ d with
      | bool b =>
        have hy : yieldE ops ρ j = some b := by unfold yieldE; rw [hd]; simp only [hv]
        rw [hv] at H; simp only at H
        simp only [wantE, hy]
        cases b <;> cases want <;> simp [ifB] at H ⊢ <;> rw [upd_self hv] at H <;> exact H
      | _ =>
        have hy : yieldE ops ρ j = none := by unfold yieldE; rw [hd]; simp only [hv]
        rw [hv] at H; simp only [wantE, hy]; exact H
end

/-! ### one operation -/
section
variable {P : Program} {n : Nat} {ρ : Env} {a : Act} {w : World} {h : Heap} {K : Value → Heap → Prop} {Q : Exit → Act → World → Prop} {r : Option Nat}
def plainOp (o : Oper) : Bool := match o.op with | .defer _ => false | .select .. => false | _ => true
def opOk (n : Nat) (o : Oper) : Bool := plainOp o && (match o.dst with | some d => decide (d < n) | none => true)
theorem opOk_dst {o : Oper} (ho : opOk n o = true) : ∀ d, o.dst = some d → d < n := by
  intro d hd; unfold opOk at ho; rw [hd] at ho; simp at ho; exact ho.2
theorem opOk_defer {o : Oper} (ho : opOk n o = true) : ∀ c, o.op ≠ .defer c := by
  intro c hc; unfold opOk plainOp at ho; rw [hc] at ho; simp at ho
theorem op_wpIn {o : Oper} (H : OpS P (evo ρ) o h K) (hR : Rl n a.tmps ρ) (hw : w.heap = h) (ho : opOk n o = true) {next : Act → World → Prop}
    (hnext : ∀ v w', K v w'.heap → Kw w w' → next (a.put o.dst v) w') : o.wpIn (FW r) 0 P a w next Q := by
  refine ⟨fun _ _ => trivial, ?_⟩
  rw [Oper.semAt_eq _ _ _ (opOk_defer ho), hR.eval]
  obtain ⟨nx, w', hrun, hn⟩ := H w hw
  rw [hrun]
  have hcall : ∀ {e : Ending} {w'' : World}, onH w K e w'' → (match e, w'' with
      | .returned v, w'' => next (a.put o.dst v) w''
      | .panicked chain, w'' => Q (.panic chain) a w''
      | .outgrown, _ => LetsOut Q) := by
    intro e w'' x
    cases e <;> first | exact hnext _ _ x.1 x.2 | exact x.elim
  cases nx <;> simp only [Oper.uponIn]
  case value v => exact hnext _ _ hn.1 hn.2
  case skip => exact hnext _ _ hn.1 hn.2
  case enter f args => exact ⟨by simp [FW], (callsIn_FW hn).mono fun e w'' x => hcall x⟩
  case round l f tmps assign body => exact ⟨by simp [FW], (roundIn_FW hn).mono fun e w'' x => hcall x⟩
  all_goals exact hn.elim

/-- t' is t but for the slots ws. -/
def SmT (ws : List Nat) (t t' : Array Value) : Prop := ∀ j, j ∉ ws → t'.getD j undef = t.getD j undef
theorem SmT.refl (ws : List Nat) (t : Array Value) : SmT ws t t := fun _ _ => rfl
theorem SmT.trans {ws : List Nat} {a b c : Array Value} (h1 : SmT ws a b) (h2 : SmT ws b c) : SmT ws a c := fun j hj => (h2 j hj).trans (h1 j hj)
theorem SmT.mono {ws ws' : List Nat} {a b : Array Value} (h : SmT ws a b) (hs : ∀ j ∈ ws, j ∈ ws') : SmT ws' a b := fun j hj => h j (fun x => hj (hs j x))
theorem SmT.put {ws : List Nat} (a : Act) (d : Option Nat) (v : Value) (hd : ∀ j, d = some j → j ∈ ws) : SmT ws a.tmps (a.put d v).tmps := by
  intro j hj
  cases d with
  | none => rfl
  | some d =>
    have : d ≠ j := fun e => hj (by subst e; exact hd _ rfl)
    simp [Act.put, Array.getD_eq_getD_getElem?, Array.getElem?_setIfInBounds_ne this]

/-- One step, plainly. -/
def pstep (P : Program) (ops : Array Oper) (i : Nat) (ρ : Env) (h : Heap) (K : Env → Heap → Prop) : Prop :=
  match ops[i]? with
  | none => K ρ h
  | some o => if wantE ops ρ o.guard then vop P (evo ρ) o h (fun v h' => K (putE ρ o.dst v) h') else K (putE ρ o.dst undefV) h
theorem pstep_wpOpIn {ops : Array Oper} {i : Nat} {K : Env → Heap → Prop} (H : pstep P ops i ρ h K) (hR : Rl n a.tmps ρ) (hw : w.heap = h) (ho : ∀ o, ops[i]? = some o → opOk n o = true)
    {ws : List Nat} (hws : ∀ o, ops[i]? = some o → ∀ d, o.dst = some d → d ∈ ws)
    {next : Act → World → Prop} (hnext : ∀ ρ' a' w', K ρ' w'.heap → Rl n a'.tmps ρ' → SmT ws a.tmps a'.tmps → a'.defers = a.defers → Kw w w' → next a' w') : wpOpIn (FW r) 0 P ops Q i next a w := by
  unfold pstep at H
  unfold wpOpIn
  cases hi : ops[i]? with
  | none => rw [hi] at H; subst hw; exact hnext ρ a w H hR (SmT.refl _ _) rfl (Kw.refl _)
  | some o =>
    rw [hi] at H
    simp only at H ⊢
    rw [wanted_eq hR]
    split
    · rename_i hwt
      rw [if_pos hwt] at H
      exact op_wpIn (vop_sound o (fun _ => rfl) H) hR hw (ho o hi) fun v w' hk hkd => hnext _ _ w' hk (hR.put v (opOk_dst (ho o hi))) (SmT.put _ _ _ (hws o hi)) (put_defers _ _) hkd
    · rename_i hwt
      rw [if_neg hwt] at H
      subst hw
      exact ⟨fun _ _ => trivial, hnext _ _ w H (hR.put _ (opOk_dst (ho o hi))) (SmT.put _ _ _ (hws o hi)) (put_defers _ _) (Kw.refl _)⟩

theorem aggF_out {n : Nat} {v : Value} {F : Value → Prop} (H : aggF n v F) : F v := by
  unfold aggF at H
  split at H
  · obtain ⟨cs, e, H⟩ := asAgg_out H
    rw [e]
    unfold sizeH at H
    split at H
    · rename_i hn
      have := elemsH_out _ _ _ H
      have hn := Nat.eq_of_beq_eq_true hn
      simp only [List.reverse_nil, List.nil_append, List.drop_zero] at this
      rw [List.take_of_length_le (by simp [hn])] at this
      exact this
    · exact H.elim
  · exact H
theorem typedV_out {P : Program} {t : TypeId} {v : Value} {F : Value → Prop} (H : typedV P t v F) : F v := by
  unfold typedV at H
  split at H
  · obtain ⟨_, e, H⟩ := asBool_out H; rw [e]; exact H
  · obtain ⟨_, e, H⟩ := asInt_out H; rw [e]; exact H
  · obtain ⟨_, e, H⟩ := asStr_out H; rw [e]; exact H
  · obtain ⟨_, _, _, e, H⟩ := asSlice_out H; rw [e]; exact H
  · obtain ⟨_, e, H⟩ := asPtrO_out H; rw [e]; exact H
  · obtain ⟨_, e, H⟩ := asMap_out H; rw [e]; exact H
  · exact aggF_out H
  · exact aggF_out H
  · exact H
theorem tyO_out {P : Program} {o : Oper} {v : Value} {F : Value → Prop} (H : tyO P o v F) : F v := by
  unfold tyO at H
  split at H
  · exact H
  · exact H
  · exact typedV_out H
/-- One step, its value's form known. -/
def pstepT (P : Program) (ops : Array Oper) (i : Nat) (ρ : Env) (h : Heap) (K : Env → Heap → Prop) : Prop :=
  match ops[i]? with
  | none => K ρ h
  | some o => if wantE ops ρ o.guard then vop P (evo ρ) o h (fun v h' => tyO P o v fun v => K (putE ρ o.dst v) h') else K (putE ρ o.dst undefV) h
theorem pstepT_wpOpIn {ops : Array Oper} {i : Nat} {K : Env → Heap → Prop} (H : pstepT P ops i ρ h K) (hR : Rl n a.tmps ρ) (hw : w.heap = h) (ho : ∀ o, ops[i]? = some o → opOk n o = true)
    {ws : List Nat} (hws : ∀ o, ops[i]? = some o → ∀ d, o.dst = some d → d ∈ ws)
    {next : Act → World → Prop} (hnext : ∀ ρ' a' w', K ρ' w'.heap → Rl n a'.tmps ρ' → SmT ws a.tmps a'.tmps → a'.defers = a.defers → Kw w w' → next a' w') : wpOpIn (FW r) 0 P ops Q i next a w := by
  unfold pstepT at H
  unfold wpOpIn
  cases hi : ops[i]? with
  | none => rw [hi] at H; subst hw; exact hnext ρ a w H hR (SmT.refl _ _) rfl (Kw.refl _)
  | some o =>
    rw [hi] at H
    simp only at H ⊢
    rw [wanted_eq hR]
    split
    · rename_i hwt
      rw [if_pos hwt] at H
      exact op_wpIn (vop_sound o (fun _ => rfl) H) hR hw (ho o hi) fun v w' hk hkd => hnext _ _ w' (tyO_out hk) (hR.put v (opOk_dst (ho o hi))) (SmT.put _ _ _ (hws o hi)) (put_defers _ _) hkd
    · rename_i hwt
      rw [if_neg hwt] at H
      subst hw
      exact ⟨fun _ _ => trivial, hnext _ _ w H (hR.put _ (opOk_dst (ho o hi))) (SmT.put _ _ _ (hws o hi)) (put_defers _ _) (Kw.refl _)⟩

def opsOk (n : Nat) (ops : Array Oper) : Bool := ops.toList.all (opOk n)
theorem opsOk_at {ops : Array Oper} (ho : opsOk n ops = true) (i : Nat) (o : Oper) (hi : ops[i]? = some o) : opOk n o = true := by
  unfold opsOk at ho; rw [List.all_eq_true] at ho
  exact ho o (Array.mem_toList_iff.2 (Array.mem_of_getElem? hi))

theorem vlist_wpOpsIn {ops : Array Oper} (ho : opsOk n ops = true) {ws : List Nat} (hws : ∀ (i : Nat) (o : Oper), ops[i]? = some o → ∀ d, o.dst = some d → d ∈ ws) {K : Env → Heap → Prop} (l : List Oper) : ∀ (k : Nat), (∀ j, l[j]? = ops[k + j]?) → ∀ (ρ : Env) (h : Heap) (a : Act) (w : World),
    vlist P ops l ρ h K → Rl n a.tmps ρ → w.heap = h →
    (∀ ρ' a' w', K ρ' w'.heap → Rl n a'.tmps ρ' → SmT ws a.tmps a'.tmps → a'.defers = a.defers → Kw w w' → Q .normal a' w') → wpOpsIn (FW r) 0 P ops Q (List.range' k l.length) a w := by
  induction l with
  | nil => intro k _ ρ h a w H hR hw hQ; subst hw; exact hQ ρ a w H hR (SmT.refl _ _) rfl (Kw.refl _)
  | cons o l ih =>
    intro k hk ρ h a w H hR hw hQ
    have h0 : ops[k]? = some o := by simpa using (hk 0).symm
    have ih' := ih (k + 1) (fun j => by have := hk (j + 1); simpa [Nat.add_assoc, Nat.add_comm 1 j] using this)
    simp only [List.length_cons, List.range'_succ, wpOpsIn_cons]
    have H := vguard_out H
    refine pstepT_wpOpIn (n := n) (K := fun ρ' h' => vlist P ops l ρ' h' K) ?_ hR hw (fun o' ho' => opsOk_at ho k o' ho') (hws k) ?_
    · unfold pstepT; rw [h0]; exact H
    · intro ρ' a' w' hl hR' hs hd hkd
      refine ih' ρ' _ a' w' hl hR' rfl ?_
      intro ρ'' a'' w'' hK hR'' hs' hd' hkd'
      exact hQ ρ'' a'' w'' hK hR'' (hs.trans hs') (hd'.trans hd) (hkd.trans hkd')
end
end Go.Proofs.Ytgladmaagpcffaa
