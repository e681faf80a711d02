/- Rows of one's own, written and read place by place. -/
import Derived.Test.YtgladmaagpcffaaTb
set_option linter.unusedSimpArgs false
set_option linter.unusedVariables false
set_option maxRecDepth 20000
namespace Go.Proofs.Ytgladmaagpcffaa

theorem asAgg_agg (cs : Array Value) (F : Array Value → Prop) : asAgg (.agg cs) F = F cs := rfl
theorem sizeH_mk {cs : Array Value} {n : Nat} {X : Prop} (h : cs.size = n) (x : X) : sizeH cs n X := by
  unfold sizeH
  rw [show Nat.beq cs.size n = true by rw [h]; exact Nat.beq_refl n]
  exact x
theorem elemH_mk {cs : List Value} {i : Nat} {v : Value} {F : Value → Prop} (h : cs[i]? = some v) (x : F v) : elemH cs.toArray i F := by unfold elemH; rw [List.getElem?_toArray, h]; exact x
theorem cellR {h : Heap} {b i : Nat} {v : Value} {row : List Value} {t : TypeId} (hb : h[b]? = some (.cells row.toArray t)) (e : row[i]? = some v) : cellAt h ⟨b, i, none⟩ = some v := by
  rw [cellAt_of hb, List.getElem?_toArray]; exact e
theorem ldR {h : Heap} {b i : Nat} {v : Value} {row : List Value} {t : TypeId} {K : Value → Prop} (hb : h[b]? = some (.cells row.toArray t)) (e : row[i]? = some v) (k : K v) : ldH h ⟨b, i, none⟩ K :=
  ldH_mk (cellR hb e) k
/-- Behind a write to block b. -/
structure Wrote (h : Heap) (b : Nat) (row : Array Value) (t : TypeId) (h' : Heap) : Prop where
  size : h'.size = h.size
  new : h'[b]? = some (.cells row t)
  old : ∀ c, c ≠ b → h'[c]? = h[c]?
theorem Wrote.trans {h h' h'' : Heap} {b : Nat} {row row' : Array Value} {t t' : TypeId} (x : Wrote h b row t h') (y : Wrote h' b row' t' h'') : Wrote h b row' t' h'' :=
  ⟨y.size.trans x.size, y.new, fun c hc => (y.old c hc).trans (x.old c hc)⟩
theorem Wrote.toOld {N : Nat} {g h h' : Heap} {b : Nat} {row : Array Value} {t : TypeId} (x : Wrote h b row t h') (o : Old N g h) (hb : N ≤ b) : Old N g h' :=
  ⟨by rw [x.size]; exact o.1, fun c hc => (x.old c (by omega)).trans (o.2 c hc)⟩
theorem stR {h : Heap} {b i : Nat} {v : Value} {row : List Value} {t : TypeId} {K : Heap → Prop} (hb : h[b]? = some (.cells row.toArray t)) (hi : Nat.ble (i + 1) row.length = true) (ho : oneC v True)
    (k : ∀ h', Wrote h b (row.set i v).toArray t h' → K h') : stH h ⟨b, i, none⟩ v K := by
  have hlt := (Array.getElem?_eq_some_iff.1 hb).1
  refine stH_mk hb (by rw [List.size_toArray]; exact Nat.le_of_ble_eq_true hi) ho ?_
  rintro h' rfl
  exact k _ ⟨by simp, by rw [set_new hlt, List.setIfInBounds_toArray], fun c hc => set_old hc⟩
theorem stN_full {vs : List Value} {h : Heap} {b : Nat} {row : Array Value} {t : TypeId} {K : Heap → Prop} (hb : h[b]? = some (.cells row t)) (hl : vs.length = row.size) (ho : ∀ y ∈ vs, oneC y True)
    (k : ∀ h', Wrote h b vs.toArray t h' → K h') : stN h ⟨b, 0, none⟩ 0 vs K := by
  have hlt := (Array.getElem?_eq_some_iff.1 hb).1
  refine stN_row vs h b 0 0 row t K hb (by omega) ho ?_
  intro row' h1 h2
  have e : row' = vs.toArray := by
    apply Array.ext_getElem?
    intro j
    rw [h2 j]
    by_cases hj : j < vs.length
    · rw [if_pos (by omega)]; simp
    · rw [if_neg (by omega), Array.getElem?_eq_none (by omega), Array.getElem?_eq_none (by simp; omega)]
  subst e
  exact k _ ⟨by simp, set_new hlt, fun c hc => set_old hc⟩
theorem st3 {h : Heap} {b : Nat} {v0 v1 v2 : Value} {K : Heap → Prop} (H : stN h ⟨b, 0, none⟩ 0 [v0, v1, v2] K) : stH h ⟨b, 0, none⟩ v0 fun h => stH h ⟨b, 1, none⟩ v1 fun h => stH h ⟨b, 2, none⟩ v2 K := H
theorem st7 {h : Heap} {b : Nat} {v0 v1 v2 v3 v4 v5 v6 : Value} {K : Heap → Prop} (H : stN h ⟨b, 0, none⟩ 0 [v0, v1, v2, v3, v4, v5, v6] K) :
    stH h ⟨b, 0, none⟩ v0 fun h => stH h ⟨b, 1, none⟩ v1 fun h => stH h ⟨b, 2, none⟩ v2 fun h => stH h ⟨b, 3, none⟩ v3 fun h => stH h ⟨b, 4, none⟩ v4 fun h => stH h ⟨b, 5, none⟩ v5 fun h => stH h ⟨b, 6, none⟩ v6 K := H
theorem st15 {h : Heap} {b : Nat} {v0 v1 v2 v3 v4 v5 v6 v7 v8 v9 v10 v11 v12 v13 v14 : Value} {K : Heap → Prop} (H : stN h ⟨b, 0, none⟩ 0 [v0, v1, v2, v3, v4, v5, v6, v7, v8, v9, v10, v11, v12, v13, v14] K) :
    stH h ⟨b, 0, none⟩ v0 fun h => stH h ⟨b, 1, none⟩ v1 fun h => stH h ⟨b, 2, none⟩ v2 fun h => stH h ⟨b, 3, none⟩ v3 fun h => stH h ⟨b, 4, none⟩ v4 fun h => stH h ⟨b, 5, none⟩ v5 fun h => stH h ⟨b, 6, none⟩ v6 fun h =>
    stH h ⟨b, 7, none⟩ v7 fun h => stH h ⟨b, 8, none⟩ v8 fun h => stH h ⟨b, 9, none⟩ v9 fun h => stH h ⟨b, 10, none⟩ v10 fun h => stH h ⟨b, 11, none⟩ v11 fun h => stH h ⟨b, 12, none⟩ v12 fun h => stH h ⟨b, 13, none⟩ v13 fun h => stH h ⟨b, 14, none⟩ v14 K := H
/-- A new block. -/
structure Pushed (h : Heap) (row : Array Value) (t : TypeId) (h' : Heap) : Prop where
  size : h'.size = h.size + 1
  new : h'[h.size]? = some (.cells row t)
  old : ∀ c, c < h.size → h'[c]? = h[c]?
theorem pushed (h : Heap) (row : Array Value) (t : TypeId) : Pushed h row t (h.push (.cells row t)) := ⟨by simp, push_new _ _, fun c hc => push_old _ _ _ hc⟩
theorem Pushed.toOld {h h' : Heap} {row : Array Value} {t : TypeId} (x : Pushed h row t h') : Old h.size h h' := ⟨by rw [x.size]; omega, x.old⟩
end Go.Proofs.Ytgladmaagpcffaa
