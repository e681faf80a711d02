/- Maps whose keys are ints. -/
import Derived.Test.YtgladmaagpcffaaMa
set_option linter.unusedSimpArgs false
set_option linter.unusedVariables false
set_option maxRecDepth 20000
namespace Go.Proofs.Ytgladmaagpcffaa

/-- Entries of a map with int keys. -/
structure Ens (es : List MapEntry) (kvs : List (Int × Value)) : Prop where
  eq : es.map (fun e => (e.key, e.val)) = kvs.map fun x => (Value.int .i64 x.1, x.2)
  nd : (kvs.map Prod.fst).Nodup
def mget (kvs : List (Int × Value)) (k : Int) : Option Value := (kvs.find? fun x => x.1 == k).map Prod.snd
theorem Ens.cons {e : MapEntry} {es : List MapEntry} {kvs : List (Int × Value)} (H : Ens (e :: es) kvs) : ∃ k v kvs', kvs = (k, v) :: kvs' ∧ e.key = .int .i64 k ∧ e.val = v ∧ Ens es kvs' ∧ k ∉ kvs'.map Prod.fst := by
  cases kvs with
  | nil => have := H.eq; simp at this
  | cons x kvs' =>
    obtain ⟨k, v⟩ := x
    have h1 := H.eq
    simp only [List.map_cons, List.cons.injEq, Prod.mk.injEq] at h1
    have h2 := H.nd
    simp only [List.map_cons, List.nodup_cons] at h2
    exact ⟨k, v, kvs', rfl, h1.1.1, h1.1.2, ⟨h1.2, h2.2⟩, h2.1⟩
theorem findNow_some {kind : IntKind} {k : Int} : ∀ {es : List MapEntry} {kvs : List (Int × Value)} (i : Nat), Ens es kvs →
    ∃ r, Instr.findNow (.int kind) (.int .i64 k) es i = some r ∧ ((r = none ∧ mget kvs k = none ∧ k ∉ kvs.map Prod.fst) ∨ ∃ j v, r = some (i + j, v) ∧ mget kvs k = some v ∧ kvs[j]? = some (k, v)) := by
  intro es
  induction es with
  | nil =>
    intro kvs i H
    have : kvs = [] := by have := H.eq; simpa using this.symm
    subst this
    exact ⟨none, rfl, .inl ⟨rfl, rfl, by simp⟩⟩
  | cons e es ih =>
    intro kvs i H
    obtain ⟨k', v, kvs', rfl, hk, hv, H', hn⟩ := H.cons
    unfold Instr.findNow
    rw [hk]
    by_cases e1 : k = k'
    · subst e1
      refine ⟨some (i, e.val), ?_, .inr ⟨0, v, by rw [hv]; rfl, by simp [mget], rfl⟩⟩
      simp [Instr.sameNow]
    · obtain ⟨r, h1, h2⟩ := ih (i + 1) H'
      refine ⟨r, ?_, ?_⟩
      · have : Instr.sameNow (.int kind) (.int .i64 k) (.int .i64 k') = some false := by simp [Instr.sameNow, e1]
        rw [this]; exact h1
      · have hm : mget ((k', v) :: kvs') k = mget kvs' k := by
          unfold mget
          rw [List.find?_cons_of_neg (by simpa using fun h => e1 h.symm)]
        rcases h2 with ⟨rfl, h3, h4⟩ | ⟨j, v', h3, h4, h5⟩
        · refine .inl ⟨rfl, by rw [hm, h3], ?_⟩
          simp only [List.map_cons, List.mem_cons, not_or]
          exact ⟨e1, h4⟩
        · exact .inr ⟨j + 1, v', by rw [h3]; congr 2; omega, by rw [hm, h4], by simpa using h5⟩

theorem mget_mem {kvs : List (Int × Value)} {k : Int} {v : Value} (nd : (kvs.map Prod.fst).Nodup) (h : (k, v) ∈ kvs) : mget kvs k = some v := by
  unfold mget
  induction kvs with
  | nil => cases h
  | cons x kvs ih =>
    simp only [List.map_cons, List.nodup_cons] at nd
    rcases List.mem_cons.1 h with rfl | h
    · simp
    · have : x.1 ≠ k := fun e => nd.1 (by rw [e]; exact List.mem_map.2 ⟨_, h, rfl⟩)
      rw [List.find?_cons_of_neg (by simpa using this)]
      exact ih nd.2 h
theorem mget_none {kvs : List (Int × Value)} {k : Int} (h : k ∉ kvs.map Prod.fst) : mget kvs k = none := by
  unfold mget
  rw [Option.map_eq_none_iff, List.find?_eq_none]
  intro x hx e
  exact h (List.mem_map.2 ⟨x, hx, by simpa using e⟩)

/-- A map in the heap, as a function. -/
def MapF (h : Heap) (m : Nat) (f : Int → Option Value) : Prop := ∃ es c kvs, h[m]? = some (.map es c) ∧ Ens es.toList kvs ∧ ∀ k, mget kvs k = f k
theorem MapF.keep {h h' : Heap} {m : Nat} {f : Int → Option Value} (H : MapF h m f) (e : h'[m]? = h[m]?) : MapF h' m f := by
  obtain ⟨es, c, kvs, h1, h2, h3⟩ := H
  exact ⟨es, c, kvs, e.trans h1, h2, h3⟩
theorem MapF.lt {h : Heap} {m : Nat} {f : Int → Option Value} (H : MapF h m f) : m < h.size := by
  obtain ⟨es, c, kvs, h1, _⟩ := H
  exact (Array.getElem?_eq_some_iff.1 h1).1
theorem MapF.new (h : Heap) : MapF (h.push (.map #[] 0)) h.size (fun _ => none) := ⟨#[], 0, [], push_new _ _, ⟨rfl, List.nodup_nil⟩, fun _ => rfl⟩

section
variable {P : Program} {t kt et : TypeId}
theorem hp_getMap {h : Heap} {m : Nat} {es : Array MapEntry} {c : Nat} (e : h[m]? = some (.map es c)) (F : Obj → Heap → Prop) : hp P (getObj m) F h = F (.map es c) h := by
  simp only [getObj, hp, e]
theorem hp_setMap {h : Heap} {m : Nat} {es es' : Array MapEntry} {c c' : Nat} (e : h[m]? = some (.map es c)) (F : Unit → Heap → Prop) : hp P (setObj m (.map es' c')) F h = F () (h.setIfInBounds m (.map es' c')) := by
  simp only [setObj, hp, e]
theorem hp_checkInt {n : Nat} {b : Bool} {v : Value} {k : IntKind} (hu : P.underlying t = some (.int k)) (F : Unit → Heap → Prop) (h : Heap) : hp P (Instr.checkKey b (n + 1) t v) F h = F () h := by
  simp only [Instr.checkKey, hp_bind, hp_underlying hu]
  cases v <;> rfl
theorem hp_findKey {k : Int} {es : List MapEntry} {kvs : List (Int × Value)} (hu : P.underlying kt = some (.int .i64)) (H : Ens es kvs) {F : Option (Nat × Value) → Heap → Prop} {h : Heap}
    (H0 : mget kvs k = none → k ∉ kvs.map Prod.fst → F none h) (H1 : ∀ j v, mget kvs k = some v → kvs[j]? = some (k, v) → F (some (j, v)) h) : hp P (Instr.findKey kt (.int .i64 k) es) F h := by
  obtain ⟨r, h1, h2⟩ := findNow_some (kind := .i64) (k := k) 0 H
  unfold Instr.findKey
  simp only [hp_bind, hp_underlying hu, h1]
  rcases h2 with ⟨rfl, h3, h4⟩ | ⟨j, v, rfl, h3, h4⟩
  · exact H0 h3 h4
  · rw [Nat.zero_add]; exact H1 j v h3 h4

theorem look_mk {h : Heap} {m : Nat} {f : Int → Option Value} {k : Int} {ok : Bool} {z : Value} {K : Value → Heap → Prop} (hu : und P t = .map kt et) (hk : und P kt = .int .i64) (hz : zer P et = some z) (H : MapF h m f)
    (kk : K (if ok then .tuple #[(f k).getD z, .bool (f k).isSome] else (f k).getD z) h) : lookH P t (.map (some m)) (.int .i64 k) ok h K := by
  obtain ⟨es, c, kvs, h1, h2, h3⟩ := H
  unfold lookH Instr.lookup
  have hku := und_some hk (by simp)
  simp only [hp_bind, hp_underlying (und_some hu (by simp)), hp_getMap h1, hp_pure, hp_checkInt hku]
  refine hp_findKey hku h2 (fun e _ => ?_) (fun j v e _ => ?_)
  · rw [h3] at e
    simp only [hp_bind, hp_zeroValue hz, hp_pure]
    rw [e] at kk
    exact kk
  · rw [h3] at e
    rw [e] at kk
    exact kk
theorem look_nil {h : Heap} {k : Int} {ok : Bool} {z : Value} {K : Value → Heap → Prop} (hu : und P t = .map kt et) (hk : und P kt = .int .i64) (hz : zer P et = some z)
    (kk : K (if ok then .tuple #[z, .bool false] else z) h) : lookH P t (.map none) (.int .i64 k) ok h K := by
  unfold lookH Instr.lookup
  have hku := und_some hk (by simp)
  simp only [hp_bind, hp_underlying (und_some hu (by simp)), hp_pure, hp_checkInt hku]
  refine hp_findKey (kvs := []) hku ⟨rfl, List.nodup_nil⟩ (fun e _ => ?_) (fun j v e _ => by cases e)
  simp only [hp_bind, hp_zeroValue hz, hp_pure]
  exact kk

theorem Ens.push {es : List MapEntry} {kvs : List (Int × Value)} {k : Int} {v : Value} {c : Nat} (H : Ens es kvs) (hk : k ∉ kvs.map Prod.fst) : Ens (es ++ [{ key := .int .i64 k, val := v, born := c }]) (kvs ++ [(k, v)]) := by
  refine ⟨by rw [List.map_append, List.map_append, H.eq]; rfl, ?_⟩
  rw [List.map_append, List.nodup_append]
  exact ⟨H.nd, by simp, fun a ha b hb => by simp at hb; subst hb; exact fun e => hk (e ▸ ha)⟩
theorem Ens.modify {es : List MapEntry} {kvs : List (Int × Value)} {k : Int} {v v0 : Value} {j : Nat} (H : Ens es kvs) (hj : kvs[j]? = some (k, v0)) : Ens (es.modify j fun e => { e with key := .int .i64 k, val := v }) (kvs.set j (k, v)) := by
  have hlen : es.length = kvs.length := by have := congrArg List.length H.eq; simpa using this
  have hjl := (List.getElem?_eq_some_iff.1 hj).1
  refine ⟨?_, ?_⟩
  · apply List.ext_getElem?
    intro i
    have h0 := congrArg (fun L => L[i]?) H.eq
    simp only [List.getElem?_map] at h0
    rw [List.getElem?_map, List.getElem?_map, List.getElem?_modify, List.getElem?_set]
    by_cases e : j = i
    · subst e
      rw [if_pos rfl, if_pos hjl]
      rw [List.getElem?_eq_getElem (by omega)]
      simp
    · rw [if_neg e]
      simp only [if_neg e]
      simpa using h0
  · have : (kvs.set j (k, v)).map Prod.fst = kvs.map Prod.fst := by
      apply List.ext_getElem?
      intro i
      rw [List.getElem?_map, List.getElem?_map, List.getElem?_set]
      by_cases e : j = i
      · subst e
        rw [if_pos rfl, if_pos hjl, hj]; rfl
      · rw [if_neg e]
    rw [this]; exact H.nd
theorem mget_push {kvs : List (Int × Value)} {k : Int} {v : Value} (hk : k ∉ kvs.map Prod.fst) (k' : Int) : mget (kvs ++ [(k, v)]) k' = if k' = k then some v else mget kvs k' := by
  unfold mget
  rw [List.find?_append]
  by_cases e : k' = k
  · subst e
    have := mget_none hk
    unfold mget at this
    rw [Option.map_eq_none_iff] at this
    rw [this, if_pos rfl]; simp
  · rw [if_neg e]
    have : ([(k, v)] : List (Int × Value)).find? (fun x => x.1 == k') = none := by simpa using fun h => e h.symm
    rw [this]; simp
theorem mget_set {kvs : List (Int × Value)} {k : Int} {v v0 : Value} {j : Nat} (nd : (kvs.map Prod.fst).Nodup) (hj : kvs[j]? = some (k, v0)) (k' : Int) : mget (kvs.set j (k, v)) k' = if k' = k then some v else mget kvs k' := by
  have hjl := (List.getElem?_eq_some_iff.1 hj).1
  have nd2 : ((kvs.set j (k, v)).map Prod.fst).Nodup := by
    have : (kvs.set j (k, v)).map Prod.fst = kvs.map Prod.fst := by
      apply List.ext_getElem?
      intro i
      rw [List.getElem?_map, List.getElem?_map, List.getElem?_set]
      by_cases e : j = i
      · subst e
        rw [if_pos rfl, if_pos hjl, hj]; rfl
      · rw [if_neg e]
    rw [this]; exact nd
  by_cases e : k' = k
  · subst e
    rw [if_pos rfl]
    exact mget_mem nd2 (List.mem_of_getElem? (i := j) (by rw [List.getElem?_set, if_pos rfl, if_pos hjl]))
  · rw [if_neg e]
    cases hm : mget kvs k' with
    | none =>
      apply mget_none
      intro hin
      obtain ⟨x, hx, ex⟩ := List.mem_map.1 hin
      rcases List.mem_or_eq_of_mem_set hx with hx | rfl
      · have := mget_mem nd (k := k') (v := x.2) (by rw [← ex]; exact hx)
        rw [hm] at this; cases this
      · exact e ex.symm
    | some w =>
      have hin : (k', w) ∈ kvs := by
        unfold mget at hm
        obtain ⟨x, hx, ex⟩ := Option.map_eq_some_iff.1 hm
        have h1 := List.mem_of_find?_eq_some hx
        have h2 := List.find?_some hx
        have : x = (k', w) := by
          have h3 : x.1 = k' := by simpa using h2
          rw [← h3, ← ex]
        rw [← this]; exact h1
      apply mget_mem nd2
      obtain ⟨i, hi, ei⟩ := List.getElem_of_mem hin
      refine List.mem_of_getElem? (i := i) ?_
      rw [List.getElem?_set]
      by_cases e2 : j = i
      · subst e2
        rw [List.getElem?_eq_getElem hi, ei] at hj
        cases hj; exact absurd rfl e
      · rw [if_neg e2, List.getElem?_eq_getElem hi, ei]
theorem upd_mk {h : Heap} {m : Nat} {f : Int → Option Value} {k : Int} {v : Value} {K : Heap → Prop} (hu : und P t = .map kt et) (hk : und P kt = .int .i64) (H : MapF h m f)
    (kk : ∀ h', MapF h' m (fun k' => if k' = k then some v else f k') → h'.size = h.size → (∀ c, c ≠ m → h'[c]? = h[c]?) → K h') : mupdH P t (.map (some m)) (.int .i64 k) v h K := by
  have hm := H.lt
  obtain ⟨es, c, kvs, h1, h2, h3⟩ := H
  unfold mupdH Instr.mapUpdate
  have hku := und_some hk (by simp)
  simp only [hp_bind, hp_underlying (und_some hu (by simp)), hp_getMap h1, hp_checkInt hku]
  refine hp_findKey hku h2 (fun e hn => ?_) (fun j v0 e hj => ?_)
  · simp only [hp_setMap h1]
    refine kk _ ⟨_, _, kvs ++ [(k, v)], set_new hm, ?_, fun k' => ?_⟩ (by simp) (fun c hc => set_old hc)
    · rw [Array.toList_push]; exact h2.push hn
    · rw [mget_push hn, h3]
  · have hlen : es.toList.length = kvs.length := by have := congrArg List.length h2.eq; simpa using this
    have hjl := (List.getElem?_eq_some_iff.1 hj).1
    have hkey : ((es[j]?).map (·.key)).getD (.int .i64 k) = .int .i64 k := by
      have h0 := congrArg (fun L => L[j]?) h2.eq
      simp only [List.getElem?_map, hj, Array.getElem?_toList] at h0
      cases hes : es[j]? with
      | none => rw [hes] at h0; simp at h0
      | some x =>
        rw [hes] at h0
        simp only [Option.map_some, Option.some.injEq, Prod.mk.injEq] at h0
        simp [h0.1]
    rw [hp_bind, hkey]
    have hst : ∀ (F : Value → Heap → Prop), F (.int .i64 k) h → hp P (Instr.keyThatStays (.int .i64 k) (.int .i64 k)) F h := by
      intro F x
      unfold Instr.keyThatStays
      have : Instr.sameBits 10000 (.int .i64 k) (.int .i64 k) = true := by simp [Instr.sameBits]
      rw [if_pos this]; exact x
    refine hst _ ?_
    simp only [hp_setMap h1]
    refine kk _ ⟨_, _, kvs.set j (k, v), set_new hm, ?_, fun k' => ?_⟩ (by simp) (fun c hc => set_old hc)
    · rw [Array.toList_modify]; exact h2.modify hj
    · rw [mget_set h2.nd hj, h3]
theorem map_erase {α β : Type} (f : α → β) : ∀ (l : List α) (j : Nat), (l.eraseIdx j).map f = (l.map f).eraseIdx j := by
  intro l
  induction l with
  | nil => intro j; rfl
  | cons x l ih =>
    intro j
    cases j with
    | zero => rfl
    | succ j => simp only [List.eraseIdx_cons_succ, List.map_cons, ih]
theorem Ens.erase {es : List MapEntry} {kvs : List (Int × Value)} (H : Ens es kvs) (j : Nat) : Ens (es.eraseIdx j) (kvs.eraseIdx j) := by
  refine ⟨?_, ?_⟩
  · rw [map_erase, map_erase, H.eq]
  · rw [map_erase]; exact H.nd.sublist (List.eraseIdx_sublist _ _)
theorem mget_erase {kvs : List (Int × Value)} {k : Int} {v0 : Value} {j : Nat} (nd : (kvs.map Prod.fst).Nodup) (hj : kvs[j]? = some (k, v0)) (k' : Int) : mget (kvs.eraseIdx j) k' = if k' = k then none else mget kvs k' := by
  induction kvs generalizing j with
  | nil => simp at hj
  | cons x kvs ih =>
    simp only [List.map_cons, List.nodup_cons] at nd
    cases j with
    | zero =>
      simp only [List.getElem?_cons_zero, Option.some.injEq] at hj
      subst hj
      rw [List.eraseIdx_cons_zero]
      by_cases e : k' = k
      · subst e; rw [if_pos rfl]; exact mget_none nd.1
      · rw [if_neg e]
        unfold mget
        rw [List.find?_cons_of_neg (by simpa using fun h => e h.symm)]
    | succ j =>
      simp only [List.getElem?_cons_succ] at hj
      rw [List.eraseIdx_cons_succ]
      have hin : k ∈ kvs.map Prod.fst := List.mem_map.2 ⟨_, List.mem_of_getElem? hj, rfl⟩
      have hxk : x.1 ≠ k := fun e => nd.1 (e ▸ hin)
      have := ih nd.2 hj
      unfold mget at this ⊢
      by_cases e : x.1 = k'
      · rw [List.find?_cons_of_pos (by simpa using e), List.find?_cons_of_pos (by simpa using e), if_neg (by rw [← e]; exact hxk)]
      · rw [List.find?_cons_of_neg (by simpa using e), List.find?_cons_of_neg (by simpa using e)]
        exact this
theorem del_mk {h : Heap} {m : Nat} {f : Int → Option Value} {k : Int} {rt : TypeId} {K : Value → Heap → Prop} (hu : und P t = .map kt et) (hk : und P kt = .int .i64) (H : MapF h m f)
    (kk : ∀ h', MapF h' m (fun k' => if k' = k then none else f k') → h'.size = h.size → (∀ c, c ≠ m → h'[c]? = h[c]?) → K (.tuple #[]) h') : mdelH P #[t, kt] rt #[.map (some m), .int .i64 k] h K := by
  have hm := H.lt
  obtain ⟨es, c, kvs, h1, h2, h3⟩ := H
  have hku := und_some hk (by simp)
  unfold mdelH Builtin.delete_
  simp only [List.getElem?_toArray, List.getElem?_cons_zero, List.getElem?_cons_succ, hp_bind, hp_underlying (und_some hu (by simp)), hp_getMap h1, hp_checkInt hku]
  refine hp_findKey hku h2 (fun e hn => ?_) (fun j v0 e hj => ?_)
  · simp only [hp_bind, hp_setMap h1, hp_pure]
    refine kk _ ⟨_, _, kvs, set_new hm, h2, fun k' => ?_⟩ (by simp) (fun c hc => set_old hc)
    rw [h3]
    show f k' = if k' = k then none else f k'
    split
    · subst k'; rw [← h3, e]
    · rfl
  · simp only [hp_bind, hp_setMap h1, hp_pure]
    refine kk _ ⟨_, _, kvs.eraseIdx j, set_new hm, ?_, fun k' => ?_⟩ (by simp) (fun c hc => set_old hc)
    · have : (es.eraseIdxIfInBounds j).toList = es.toList.eraseIdx j := by
        unfold Array.eraseIdxIfInBounds
        split
        · rw [Array.toList_eraseIdx]
        · rw [List.eraseIdx_of_length_le (by simpa using Nat.not_lt.1 ‹_›)]
      rw [this]; exact h2.erase j
    · rw [mget_erase h2.nd hj, h3]
end
end Go.Proofs.Ytgladmaagpcffaa
