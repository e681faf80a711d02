/- A function's contract from its body. -/
import Derived.Test.YtgladmaagpcffaaVo
import Derived.RangeFuncLeaves
set_option linter.unusedSimpArgs false
set_option linter.unusedVariables false
namespace Go.Proofs.Ytgladmaagpcffaa


def resL (P : Program) : List ResultVar → Env → Heap → List Value → (List Value → Prop) → Prop
  | [], _, _, acc, F => F acc.reverse
  | .tmp t :: rs, ρ, h, acc, F => resL P rs ρ h (ρ t :: acc) F
  | .cell a t :: rs, ρ, h, acc, F => asPtr (ρ a) fun ad => if there P t then
      (if aggT P t then ldN h ad 0 (siz P t) [] (fun cs => resL P rs ρ h (.agg cs.toArray :: acc) F) else ldH h ad fun v => resL P rs ρ h (v :: acc) F) else False
def resV : List Value → Value
  | [v] => v
  | vs => .tuple vs.toArray
def retQ (P : Program) (rs : List ResultVar) (rng : Bool) (N : Nat) (K : Value → Heap → Prop) : Exit → Env → Heap → Prop
  | .normal, ρ, h | .ret, ρ, h => resL P rs ρ h [] fun vs => match rng with | true => ∀ h', SameD N h h' → K (resV vs) h' | false => K (resV vs) h
  | _, _, _ => False
def hasRange : Code → Bool
  | .seq a b | .cond _ a b => hasRange a || hasRange b
  | .block _ b | .loop b | .scope b => hasRange b
  | .rangeFunc .. => true
  | _ => false
def nthV : List Value → Nat → Value
  | [], _ => undefV
  | v :: _, 0 => v
  | _ :: vs, n + 1 => nthV vs n
def envL (args : List Value) : Env := fun j => nthV args j

def bodyOf (fn : Func) : Code := fn.body.getD .skip
/-- What is checked of a function: closed, for the kernel. -/
def fnOk (P : Program) (fn : Func) (k : Nat) : Bool :=
  fn.body.isSome && !(fn.name == "runtime.NumGoroutine") && codeOk fn.ntmps true (bodyOf fn) && Nat.ble k fn.ntmps && P.follows .mixedOrders
section
variable {P : Program} {n : Nat}
theorem SameD.refl (N : Nat) (h : Heap) : SameD N h h := ⟨rfl, fun _ _ => rfl⟩
theorem cellAt_same {N : Nat} {h h' : Heap} (hs : SameD N h h') {a : Addr} {v : Value} (hc : cellAt h a = some v) : cellAt h' a = some v := by
  unfold cellAt at *
  cases hb : h[a.block]? with
  | none => rw [hb] at hc; cases hc
  | some o =>
    have : h'[a.block]? = h[a.block]? := hs.2 a.block (.inr fun x e => by rw [hb] at e; cases e; rw [hb] at hc; cases hc)
    rw [this]; exact hc
theorem ldH_same {N : Nat} {h h' : Heap} (hs : SameD N h h') {a : Addr} {F : Value → Prop} (H : ldH h a F) : ldH h' a F := by
  obtain ⟨v, hv, H⟩ := ldH_out H
  unfold ldH; rw [cellAt_same hs hv]; exact H
theorem ldN_same {N : Nat} {h h' : Heap} (hs : SameD N h h') {a : Addr} (k : Nat) : ∀ {i : Nat} {acc : List Value} {F : List Value → Prop}, ldN h a i k acc F → ldN h' a i k acc F := by
  induction k with
  | zero => intro i acc F H; exact H
  | succ k ih => intro i acc F H; exact ldH_same hs (ldH_mono (fun v => ih) H)
theorem resL_same {N : Nat} {h h' : Heap} (hs : SameD N h h') {ρ : Env} (rs : List ResultVar) : ∀ {acc : List Value} {F F' : List Value → Prop}, (∀ vs, F vs → F' vs) → resL P rs ρ h acc F → resL P rs ρ h' acc F' := by
  induction rs with
  | nil => intro acc F F' f H; exact f _ H
  | cons x rs ih =>
    intro acc F F' f H
    cases x with
    | tmp t => exact ih f H
    | cell a t =>
      refine asPtr_mono (fun ad => ite_mono fun ht x => ?_) H
      split at x <;> rename_i hg
      · rw [if_pos hg]; exact ldN_same hs _ (ldN_mono _ (fun cs => ih f) x)
      · rw [if_neg hg]; exact ldH_same hs (ldH_mono (fun v => ih f) x)
theorem hp_results {fn : Func} {t : Array Value} {ρ : Env} {h : Heap} {K : Value → Heap → Prop} (hR : Rl n t ρ) (H : resL P fn.results.toList ρ h [] fun vs => K (resV vs) h) : hp P (results fn t) K h := by
  unfold results
  rw [Array.mapM_eq_mapM_toList]
  simp only [map_eq_pure_bind, hp_bind, hp_pure]
  have key : ∀ (rs : List ResultVar) (acc : List Value), resL P rs ρ h acc (fun vs => K (resV vs) h) →
      hp P (rs.mapM fun | .tmp x => pure (t.getD x undef) | .cell a ty => do loadVar ty (← asAddr (t.getD a undef))) (fun vs h' => h' = h ∧ K (resV (acc.reverse ++ vs)) h) h := by
    intro rs
    induction rs with
    | nil =>
      intro acc H
      have H2 : K (resV acc.reverse) h := H
      exact ⟨rfl, by simpa using H2⟩
    | cons x rs ih =>
      intro acc H
      rw [List.mapM_cons]
      cases x with
      | tmp x =>
        simp only [hp_bind, hp_pure]
        have := ih (ρ x :: acc) H
        rw [hR.get x]
        refine hp_mono ?_ this
        rintro vs h' ⟨rfl, hk⟩
        exact ⟨rfl, by simpa using hk⟩
      | cell a ty =>
        obtain ⟨ad, ha, H⟩ := asPtr_out H
        split at H
        · rename_i hth
          simp only [hp_bind]
          rw [hR.get a, ha]
          rw [show asAddr (.pointer (some ad)) = pure ad from rfl, hp_pure]
          refine hp_loadVar hth ?_
          split at H <;> rename_i hg
          · rw [if_pos hg]
            refine ldN_mono _ (fun cs x => ?_) H
            rw [hp_bind]
            refine hp_mono ?_ (ih _ x)
            rintro vs h' ⟨rfl, hk⟩
            exact ⟨rfl, by simpa using hk⟩
          · rw [if_neg hg]
            refine ldH_mono (fun v x => ?_) H
            rw [hp_bind]
            refine hp_mono ?_ (ih _ x)
            rintro vs h' ⟨rfl, hk⟩
            exact ⟨rfl, by simpa using hk⟩
        · exact H.elim
  refine hp_mono ?_ (key _ [] H)
  rintro vs h' ⟨rfl, hk⟩
  simp only [List.reverse_nil, List.nil_append] at hk
  have e : (if hh : vs.toArray.size = 1 then vs.toArray[0] else Value.tuple vs.toArray) = resV vs := by
    match vs with
    | [] => rfl
    | [v] => rfl
    | _ :: _ :: _ => rfl
  show K (if hh : vs.toArray.size = 1 then vs.toArray[0] else Value.tuple vs.toArray) _
  rw [e]; exact hk

/-- It reads alone. -/
def RO {α : Type} (P : Program) : Sem α → Prop
  | .pure _ => True
  | .load _ _ k => ∀ v, RO P (k v)
  | .program k => RO P (k P)
  | .mark _ k => RO P k
  | .halt _ => True
  | _ => False
theorem RO_bind {α β : Type} (s : Sem α) (f : α → Sem β) (hs : RO P s) (hf : ∀ a, RO P (f a)) : RO P (s >>= f) := by
  show RO P (s.bind f)
  induction s with
  | pure a => exact hf a
  | load m a k ih => exact fun v => ih v (hs v)
  | program k ih => exact ih P hs
  | mark m k ih => exact ih hs
  | halt x => trivial
  | _ => exact hs.elim
theorem RO_run {α : Type} (s : Sem α) (hs : RO P s) : ∀ {K : α → Heap → Prop} (w : World), hp P s K w.heap → ∃ a, s.run P w = .ok a w ∧ K a w.heap := by
  induction s with
  | pure a => intro K w H; exact ⟨a, rfl, H⟩
  | load m a k ih =>
    intro K w H
    simp only [hp] at H
    split at H
    · rename_i v hv
      obtain ⟨b, h1, h2⟩ := ih v (hs v) w H
      have hv' : w.cell? a = some v := hv
      exact ⟨b, by simp only [Sem.run, hv', h1], h2⟩
    · exact H.elim
  | program k ih => intro K w H; exact ih P hs w H
  | mark m k ih => intro K w H; exact ih hs w H
  | halt x => intro K w H; exact H.elim
  | _ => exact hs.elim
theorem RO_typeInfo (t : TypeId) : RO P (typeInfo t) := by
  unfold typeInfo
  refine RO_bind _ _ trivial fun p => ?_
  split <;> trivial
theorem RO_sizeOf (t : TypeId) : RO P (sizeOf t) := RO_bind _ _ (RO_typeInfo t) fun _ => trivial
theorem RO_underlying (t : TypeId) : RO P (underlying t) := by
  unfold underlying
  refine RO_bind _ _ trivial fun p => ?_
  split <;> trivial
theorem RO_isAgg (t : TypeId) : RO P (isAgg t) := by
  unfold isAgg
  refine RO_bind _ _ (RO_underlying t) fun d => ?_
  split <;> trivial
theorem RO_loadCellsFrom (a : Addr) (k : Nat) : ∀ i acc, RO P (loadCellsFrom a i k acc) := by
  induction k with
  | zero => intro i acc; trivial
  | succ k ih => intro i acc; exact RO_bind _ _ (fun _ => trivial) fun v => ih _ _
theorem RO_loadVar (t : TypeId) (a : Addr) : RO P (loadVar t a) := by
  unfold loadVar
  refine RO_bind _ _ (RO_isAgg t) fun b => ?_
  split
  · exact RO_bind _ _ (RO_sizeOf t) fun k => RO_bind _ _ (RO_loadCellsFrom a k 0 #[]) fun _ => trivial
  · exact fun _ => trivial
theorem RO_mapM {α β : Type} (f : α → Sem β) (hf : ∀ a, RO P (f a)) (l : List α) : RO P (l.mapM f) := by
  induction l with
  | nil => trivial
  | cons x l ih => rw [List.mapM_cons]; exact RO_bind _ _ (hf x) fun _ => RO_bind _ _ ih fun _ => trivial
theorem RO_results (fn : Func) (t : Array Value) : RO P (results fn t) := by
  unfold results
  rw [Array.mapM_eq_mapM_toList]
  simp only [map_eq_pure_bind]
  refine RO_bind _ _ (RO_bind _ _ (RO_mapM _ (fun x => ?_) _) fun _ => trivial) fun _ => trivial
  cases x with
  | tmp x => trivial
  | cell a ty =>
    refine RO_bind _ _ ?_ fun ad => RO_loadVar ty ad
    generalize t.getD a undef = v
    cases v with
    | pointer p => cases p <;> trivial
    | _ => trivial

theorem enters_mk {f : FuncId} {fn : Func} {c : Code} (hf : P.funcs[f]? = some fn) (hname : (fn.name == "runtime.NumGoroutine") = false) (hb : fn.body = some c) : Enters P f := by
  intro args w
  simp only [callFunc, Sem.run_bind, program, Sem.run]
  simp [hf, hname, hb, Sem.run_pure, Result.andThen]

theorem envL_rl {args : Array Value} {k : Nat} (hs : args.size ≤ k) : Rl k (args ++ Array.replicate (k - args.size) undef) (envL args.toList) := by
  refine ⟨by simp; omega, fun j => ?_⟩
  have key : ∀ (l : List Value) (j : Nat), nthV l j = l.getD j undef := by
    intro l
    induction l with
    | nil => intro j; simp [nthV, undef, undefV]
    | cons v vs ih => intro j; cases j with
      | zero => rfl
      | succ j => simp [nthV, ih]
  unfold envL
  rw [key]
  by_cases h : j < args.size
  · simp [Array.getD_eq_getD_getElem?, Array.getElem?_append_left h]
  · have h' : args.size ≤ j := by omega
    simp [Array.getD_eq_getD_getElem?, Array.getElem?_append_right h', Array.getElem?_replicate, List.getD_eq_getElem?_getD, Array.getElem?_eq_none h']
    split <;> rfl

theorem leaves_of {fn : Func} {t : Array Value} {ρ : Env} {h0 : World} {K : Value → Heap → Prop} {rng : Bool} (hR : Rl n t ρ) (ms : List Nat) : ∀ (w : World), ms.Nodup → (∀ D ∈ ms, h0.heap.size ≤ D ∧ w.heap[D]? = some (.deferred (some []))) → Kw h0 w →
    (rng = false → ms = []) → (∃ h, SameD h0.heap.size h w.heap ∧ (rng = false → h = w.heap) ∧ resL P fn.results.toList ρ h [] fun vs => match rng with | true => ∀ h', SameD h0.heap.size h h' → K (resV vs) h' | false => K (resV vs) h) →
    LeavesInM (FW none) 0 P fn t (onH h0 K) (ms.map mkD) .returning w := by
  induction ms with
  | nil =>
    intro w _ _ hk _ ⟨h, hs, he, H⟩
    have H2 : resL P fn.results.toList ρ w.heap [] fun vs => K (resV vs) w.heap := by
      refine resL_same hs _ (fun vs x => ?_) H
      cases rng with
      | true => exact x _ hs
      | false => have := he rfl; subst this; exact x
    obtain ⟨v, h1, h2⟩ := RO_run _ (RO_results fn t) w (hp_results hR H2)
    exact ⟨v, h1, h2, hk⟩
  | cons D ms ih =>
    intro w hnd hms hk hrng ⟨h, hs, he, H⟩
    have hD := hms D (by simp)
    refine ⟨by simp, .inl ⟨D, w.putObj D (.deferred none), rfl, run_takeDeferred hD.2, ?_⟩⟩
    have hDlt : D < w.heap.size := (Array.getElem?_eq_some_iff.1 hD.2).1
    refine ih _ (List.nodup_cons.1 hnd).2 ?_ ?_ ?_ ⟨h, ?_, ?_, H⟩
    · intro D' hD'
      have := hms D' (by simp [hD'])
      have hne : D' ≠ D := fun e => by subst e; exact (List.nodup_cons.1 hnd).1 hD'
      exact ⟨this.1, (World.putObj_heap_other hne).trans this.2⟩
    · refine ⟨⟨by rw [World.putObj_size]; exact hk.1.1, fun E hE => ?_⟩, hk.2⟩
      have hElt : E < h0.heap.size := (Array.getElem?_eq_some_iff.1 hE).1
      have hne : E ≠ D := by omega
      exact (World.putObj_heap_other hne).trans (hk.1.2 E hE)
    · intro hr; have := hrng hr; cases this
    · refine ⟨by rw [World.putObj_size]; exact hs.1, fun b hb => ?_⟩
      by_cases hbD : b = D
      · subst hbD
        exfalso
        have h1 := hs.2 b hb
        rw [hD.2] at h1
        rcases hb with hb | hb
        · omega
        · exact hb _ h1.symm
      · exact (World.putObj_heap_other hbD).trans (hs.2 b hb)
    · intro hr; have := hrng hr; cases this

theorem codeOk_noRange {k : Nat} (c : Code) : ∀ b, hasRange c = false → codeOk k b c = true → codeOk k false c = true := by
  induction c with
  | seq x y ihx ihy => intro b hr ho; simp only [hasRange, Bool.or_eq_false_iff] at hr; simp only [codeOk, Bool.and_eq_true] at ho ⊢; exact ⟨ihx b hr.1 ho.1, ihy b hr.2 ho.2⟩
  | cond c x y ihx ihy => intro b hr ho; simp only [hasRange, Bool.or_eq_false_iff] at hr; simp only [codeOk, Bool.and_eq_true] at ho ⊢; exact ⟨ihx b hr.1 ho.1, ihy b hr.2 ho.2⟩
  | block id x ih => intro b hr ho; exact ih b hr ho
  | loop x ih => intro b hr ho; exact ih b hr ho
  | scope x ih => intro b hr ho; exact ih b hr ho
  | rangeFunc g ps as x => intro b hr ho; simp [hasRange] at hr
  | region id ops d => intro b hr ho; exact ho
  | _ => intro b hr ho; rfl

/-- **A function's contract from its body.** -/
theorem callH_mk {f : FuncId} {fn : Func} {args : Array Value} {h : Heap} {K : Value → Heap → Prop} (hf : P.funcs[f]? = some fn) (hok0 : fnOk P fn args.size = true)
    (H : vc P (bodyOf fn) (retQ P fn.results.toList (hasRange (bodyOf fn)) h.size K) (envL args.toList) h) : CallH P f args h K := by
  unfold fnOk at hok0
  simp only [Bool.and_eq_true, Bool.not_eq_true'] at hok0
  obtain ⟨⟨⟨⟨hbs, hname⟩, hok⟩, hs⟩, hm⟩ := hok0
  have hs : args.size ≤ fn.ntmps := Nat.le_of_ble_eq_true hs
  obtain ⟨c, hb⟩ := Option.isSome_iff_exists.1 hbs
  have hc : bodyOf fn = c := by unfold bodyOf; rw [hb]; rfl
  rw [hc] at H hok
  refine ⟨enters_mk hf hname hb, fun w hw => ?_⟩
  subst hw
  show CallsIn (FW none) 0 P f args w (onH w K)
  refine callsIn_of_wp_marks hf hb trivial ?_ rfl
  cases hr : hasRange c with
  | true =>
    rw [hr] at H
    refine wpIn_mono (vc_wpIn (B := fun D => w.heap.size ≤ D) hm c none true (fun _ => rfl) hok _ _ w w.heap _ w H (envL_rl hs) rfl (fun _ D hD => hD) ⟨[], rfl, List.nodup_nil, fun D hD => by cases hD⟩ (Kw.refl _)) ?_
    rintro e a1 w1 ⟨_, h1⟩
    have fin : ∀ ρ1, Rl fn.ntmps a1.tmps ρ1 → DInv (fun D => w.heap.size ≤ D) a1.defers w1.heap → Kw w w1 → resL P fn.results.toList ρ1 w1.heap [] (fun vs => ∀ h', SameD w.heap.size w1.heap h' → K (resV vs) h') → LeavesInM (FW none) 0 P fn a1.tmps (onH w K) a1.defers .returning w1 := by
      intro ρ1 hR1 ⟨ms, hd1, hd2, hd3⟩ hk1 hq
      rw [hd1]
      exact leaves_of (rng := true) hR1 ms w1 hd2 hd3 hk1 (fun e => by cases e) ⟨w1.heap, SameD.refl _ _, fun _ => rfl, hq⟩
    cases e with
    | normal => obtain ⟨ρ1, hR1, hd1, hk1, hq⟩ := h1; exact fin ρ1 hR1 hd1 hk1 hq
    | ret => obtain ⟨ρ1, hR1, hd1, hk1, hq⟩ := h1; exact fin ρ1 hR1 hd1 hk1 hq
    | exit id => obtain ⟨ρ1, hR1, hd1, hk1, hq⟩ := h1; exact hq.elim
    | _ => exact h1.elim
  | false =>
    rw [hr] at H
    refine wpIn_mono (vc_wpIn (B := fun _ => False) hm c none false (fun _ => rfl) (codeOk_noRange c true hr hok) _ _ w w.heap _ w H (envL_rl hs) rfl (fun e => by cases e) ⟨[], rfl, List.nodup_nil, fun D hD => by cases hD⟩ (Kw.refl _)) ?_
    rintro e a1 w1 ⟨_, h1⟩
    have fin : ∀ ρ1, Rl fn.ntmps a1.tmps ρ1 → DInv (fun _ => False) a1.defers w1.heap → Kw w w1 → resL P fn.results.toList ρ1 w1.heap [] (fun vs => K (resV vs) w1.heap) → LeavesInM (FW none) 0 P fn a1.tmps (onH w K) a1.defers .returning w1 := by
      intro ρ1 hR1 ⟨ms, hd1, hd2, hd3⟩ hk1 hq
      have hms : ms = [] := by cases ms with | nil => rfl | cons D ms => exact (hd3 D (by simp)).1.elim
      subst hms
      rw [hd1]
      exact leaves_of (rng := false) hR1 [] w1 hd2 (fun D hD => by cases hD) hk1 (fun _ => rfl) ⟨w1.heap, SameD.refl _ _, fun _ => rfl, hq⟩
    cases e with
    | normal => obtain ⟨ρ1, hR1, hd1, hk1, hq⟩ := h1; exact fin ρ1 hR1 hd1 hk1 hq
    | ret => obtain ⟨ρ1, hR1, hd1, hk1, hq⟩ := h1; exact fin ρ1 hR1 hd1 hk1 hq
    | exit id => obtain ⟨ρ1, hR1, hd1, hk1, hq⟩ := h1; exact hq.elim
    | _ => exact h1.elim
end
#print axioms callH_mk
end Go.Proofs.Ytgladmaagpcffaa
