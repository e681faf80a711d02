/- Part 6 of what the proofs of this seat rest on: see the last text of the claim. -/
import Derived.Test.YtglgifgoojncpaaGreatQ6fb7499ebf6a
import Derived.WalkKit
import Derived.ProofKit
import Derived.OpenShut
import Derived.ShutString
import Derived.ChangeOld
import Derived.Below
import Derived.Carry
import Derived.SizedLaws
import Derived.Test.YtglgifgoojncpaaGreatProg
set_option linter.unusedSimpArgs false
set_option linter.unusedVariables false
set_option linter.ambiguousOpen false
set_option maxRecDepth 20000
namespace Go.Proofs.YtglgifgoojncpaaGreat
section
open Go.ChangeShapes Go.WideShapes Go.ChangeAt Go.RowKit
theorem own_knob : ownKnob Tryz.prog.godebug = none := by kernel_rfl
theorem laid_out : laidOutB Tryz.prog = true := by kernel_rfl
theorem same_old {W W' : World} (h : Old W.heap.size W.heap W'.heap) {p : MemPlace} (hp : p.block < W.heap.size) : W.sameAt W' p := by
  cases p with
  | cell b o => exact World.cell?_of_block (w := W) (h.2 b hp)
  | map b => exact h.2 b hp
theorem trod_old {H : Type} {enc : TypeId × Value → H} {P : Program} {t : TypeId} (hl : laidOutB P = true) (hr : P.readableRec t = true) (hrow : t < P.types.size) {W W' : World} {v : Value} {d : DataW H} {ps : List MemPlace}
    (h : DataW.Trod enc P W 0 (fun _ => true) true t v d ps) (hb : Old W.heap.size W.heap W'.heap) :
    DataW.Trod enc P W' 0 (fun b => decide (b < W.heap.size)) true t v d ps := by
  have hlt : ∀ x ∈ ps, x.block < W.heap.size := by obtain ⟨m, hm⟩ := h; exact DataW.trod_lt m _ _ _ hm
  exact WideElems.Trod_stays hl hr hrow h (fun x hx => same_old hb (hlt x hx)) (fun x hx => by simpa using hlt x hx)
theorem frame_old {W W' : World} (ho : Old W.heap.size W.heap W'.heap) (hos : W'.os = W.os) (hout : W'.output = W.output) (may : MemPlace → Prop) : W.keptBut W' may := by
  refine ⟨hos, hout, fun i hi => ?_⟩
  rw [ho.2 i hi]
  split <;> simp_all
end
section
theorem asTup_tuple (cs : Array Value) (F : Array Value → Prop) : asTup (.tuple cs) F = F cs := rfl
theorem kind_int : intKindOf Tryz.prog 3 = some .i64 := by kernel_rfl
theorem minmax_int (f : Int → Int → Int) (a b : Int) (F : Int → Prop) : minmax f Tryz.prog 3 [.int .i64 a, .int .i64 b] F = F (f a b) := by
  unfold minmax
  simp only [kind_int, asInt_int]
  unfold minmax.go
  simp only [asInt_int]
  rfl
end
section
theorem asAgg_agg (cs : Array Value) (F : Array Value → Prop) : asAgg (.agg cs) F = F cs := rfl
theorem sizeH_mk {cs : Array Value} {n : Nat} {X : Prop} (h : cs.size = n) (x : X) : sizeH cs n X := by
  unfold sizeH
  rw [show Nat.beq cs.size n = true by rw [h]; exact Nat.beq_refl n]
  exact x
theorem elemH_mk {cs : List Value} {i : Nat} {v : Value} {F : Value → Prop} (h : cs[i]? = some v) (x : F v) : elemH cs.toArray i F := by unfold elemH; rw [List.getElem?_toArray, h]; exact x
theorem cellR {h : Heap} {b i : Nat} {v : Value} {row : List Value} {t : TypeId} (hb : h[b]? = some (.cells row.toArray t)) (e : row[i]? = some v) : cellAt h ⟨b, i, none⟩ = some v := by
  rw [cellAt_of hb, List.getElem?_toArray]; exact e
theorem ldR {h : Heap} {b i : Nat} {v : Value} {row : List Value} {t : TypeId} {K : Value → Prop} (hb : h[b]? = some (.cells row.toArray t)) (e : row[i]? = some v) (k : K v) : ldH h ⟨b, i, none⟩ K :=
  ldH_mk (cellR hb e) k
structure Wrote (h : Heap) (b : Nat) (row : Array Value) (t : TypeId) (h' : Heap) : Prop where
  size : h'.size = h.size
  new : h'[b]? = some (.cells row t)
  old : ∀ c, c ≠ b → h'[c]? = h[c]?
theorem Wrote.trans {h h' h'' : Heap} {b : Nat} {row row' : Array Value} {t t' : TypeId} (x : Wrote h b row t h') (y : Wrote h' b row' t' h'') : Wrote h b row' t' h'' :=
  ⟨y.size.trans x.size, y.new, fun c hc => (y.old c hc).trans (x.old c hc)⟩
theorem Wrote.toOld {N : Nat} {g h h' : Heap} {b : Nat} {row : Array Value} {t : TypeId} (x : Wrote h b row t h') (o : Old N g h) (hb : N ≤ b) : Old N g h' :=
  ⟨by rw [x.size]; exact o.1, fun c hc => (x.old c (by omega)).trans (o.2 c hc)⟩
theorem stR {h : Heap} {b i : Nat} {v : Value} {row : List Value} {t : TypeId} {K : Heap → Prop} (hb : h[b]? = some (.cells row.toArray t)) (hi : Nat.ble (i + 1) row.length = true) (ho : oneC v True)
    (k : ∀ h', Wrote h b (row.set i v).toArray t h' → K h') : stH h ⟨b, i, none⟩ v K := by
  have hlt := (Array.getElem?_eq_some_iff.1 hb).1
  refine stH_mk hb (by rw [List.size_toArray]; exact Nat.le_of_ble_eq_true hi) ho ?_
  rintro h' rfl
  exact k _ ⟨by simp, by rw [set_new hlt, List.setIfInBounds_toArray], fun c hc => set_old hc⟩
theorem stN_full {vs : List Value} {h : Heap} {b : Nat} {row : Array Value} {t : TypeId} {K : Heap → Prop} (hb : h[b]? = some (.cells row t)) (hl : vs.length = row.size) (ho : ∀ y ∈ vs, oneC y True)
    (k : ∀ h', Wrote h b vs.toArray t h' → K h') : stN h ⟨b, 0, none⟩ 0 vs K := by
  have hlt := (Array.getElem?_eq_some_iff.1 hb).1
  refine stN_row vs h b 0 0 row t K hb (by omega) ho ?_
  intro row' h1 h2
  have e : row' = vs.toArray := by
    apply Array.ext_getElem?
    intro j
    rw [h2 j]
    by_cases hj : j < vs.length
    · rw [if_pos (by omega)]; simp
    · rw [if_neg (by omega), Array.getElem?_eq_none (by omega), Array.getElem?_eq_none (by simp; omega)]
  subst e
  exact k _ ⟨by simp, set_new hlt, fun c hc => set_old hc⟩
theorem st3 {h : Heap} {b : Nat} {v0 v1 v2 : Value} {K : Heap → Prop} (H : stN h ⟨b, 0, none⟩ 0 [v0, v1, v2] K) : stH h ⟨b, 0, none⟩ v0 fun h => stH h ⟨b, 1, none⟩ v1 fun h => stH h ⟨b, 2, none⟩ v2 K := H
theorem st7 {h : Heap} {b : Nat} {v0 v1 v2 v3 v4 v5 v6 : Value} {K : Heap → Prop} (H : stN h ⟨b, 0, none⟩ 0 [v0, v1, v2, v3, v4, v5, v6] K) :
    stH h ⟨b, 0, none⟩ v0 fun h => stH h ⟨b, 1, none⟩ v1 fun h => stH h ⟨b, 2, none⟩ v2 fun h => stH h ⟨b, 3, none⟩ v3 fun h => stH h ⟨b, 4, none⟩ v4 fun h => stH h ⟨b, 5, none⟩ v5 fun h => stH h ⟨b, 6, none⟩ v6 K := H
theorem st15 {h : Heap} {b : Nat} {v0 v1 v2 v3 v4 v5 v6 v7 v8 v9 v10 v11 v12 v13 v14 : Value} {K : Heap → Prop} (H : stN h ⟨b, 0, none⟩ 0 [v0, v1, v2, v3, v4, v5, v6, v7, v8, v9, v10, v11, v12, v13, v14] K) :
    stH h ⟨b, 0, none⟩ v0 fun h => stH h ⟨b, 1, none⟩ v1 fun h => stH h ⟨b, 2, none⟩ v2 fun h => stH h ⟨b, 3, none⟩ v3 fun h => stH h ⟨b, 4, none⟩ v4 fun h => stH h ⟨b, 5, none⟩ v5 fun h => stH h ⟨b, 6, none⟩ v6 fun h =>
    stH h ⟨b, 7, none⟩ v7 fun h => stH h ⟨b, 8, none⟩ v8 fun h => stH h ⟨b, 9, none⟩ v9 fun h => stH h ⟨b, 10, none⟩ v10 fun h => stH h ⟨b, 11, none⟩ v11 fun h => stH h ⟨b, 12, none⟩ v12 fun h => stH h ⟨b, 13, none⟩ v13 fun h => stH h ⟨b, 14, none⟩ v14 K := H
structure Pushed (h : Heap) (row : Array Value) (t : TypeId) (h' : Heap) : Prop where
  size : h'.size = h.size + 1
  new : h'[h.size]? = some (.cells row t)
  old : ∀ c, c < h.size → h'[c]? = h[c]?
theorem pushed (h : Heap) (row : Array Value) (t : TypeId) : Pushed h row t (h.push (.cells row t)) := ⟨by simp, push_new _ _, fun c hc => push_old _ _ _ hc⟩
theorem Pushed.toOld {h h' : Heap} {row : Array Value} {t : TypeId} (x : Pushed h row t h') : Old h.size h h' := ⟨by rw [x.size]; omega, x.old⟩
end
section
def Fr (S : Nat → Prop) (h h' : Heap) : Prop := h.size ≤ h'.size ∧ ∀ b, b < h.size → ¬ S b → h'[b]? = h[b]?
def blk (a : Option Addr) (b : Nat) : Prop := ∃ ad, a = some ad ∧ ad.block = b
theorem Fr.refl (S : Nat → Prop) (h : Heap) : Fr S h h := ⟨Nat.le_refl _, fun _ _ _ => rfl⟩
theorem Fr.mono {S T : Nat → Prop} {h h' : Heap} (x : Fr S h h') (H : ∀ b, b < h.size → S b → T b) : Fr T h h' := ⟨x.1, fun b hb hT => x.2 b hb fun hS => hT (H b hb hS)⟩
theorem Old.fr {h h' : Heap} (S : Nat → Prop) (o : Old h.size h h') : Fr S h h' := ⟨o.1, fun b hb _ => o.2 b hb⟩
section
variable {α : Type} {f : α → List Value} {n : Nat}
theorem flat_len (hf : ∀ x, (f x).length = n) (l : List α) : (l.flatMap f).length = l.length * n := by
  induction l with
  | nil => simp
  | cons x l ih => rw [List.flatMap_cons, List.length_append, ih, hf, List.length_cons, Nat.add_mul]; omega
theorem flat_get (hf : ∀ x, (f x).length = n) {l : List α} : ∀ {i : Nat} (hi : i < l.length) {j : Nat}, j < n → (l.flatMap f)[i * n + j]? = (f l[i])[j]? := by
  induction l with
  | nil => intro i hi; simp at hi
  | cons x l ih =>
    intro i hi j hj
    rw [List.flatMap_cons]
    cases i with
    | zero => rw [List.getElem?_append_left (by rw [hf]; omega)]; simp
    | succ i =>
      have e : (i + 1) * n + j = n + (i * n + j) := by rw [Nat.add_mul]; omega
      rw [List.getElem?_append_right (by rw [hf, e]; omega), hf, e, Nat.add_sub_cancel_left]
      exact ih (by simpa using hi) hj
theorem flat_take (hf : ∀ x, (f x).length = n) (l : List α) : ∀ i, (l.flatMap f).take (i * n) = (l.take i).flatMap f := by
  induction l with
  | nil => intro i; simp
  | cons x l ih =>
    intro i
    cases i with
    | zero => simp
    | succ i =>
      rw [List.flatMap_cons, List.take_succ_cons, List.flatMap_cons, List.take_append, hf, List.take_of_length_le (by rw [hf, Nat.add_mul]; omega), show (i + 1) * n - n = i * n by rw [Nat.add_mul]; omega, ih]
structure SX (f : α → List Value) (h : Heap) (a : Option Addr) (l c : Nat) (xs : List α) : Prop where
  s : Sees h a (xs.flatMap f)
  len : xs.length = l
  cap : l ≤ c
theorem SX.old {h h' : Heap} {a : Option Addr} {l c : Nat} {xs : List α} (H : SX f h a l c xs) (ho : Old h.size h h') : SX f h' a l c xs := ⟨H.s.old ho, H.len, H.cap⟩
theorem SX.at (hf : ∀ x, (f x).length = n) (hn : 0 < n) {h : Heap} {a : Option Addr} {l c : Nat} {xs : List α} (H : SX f h a l c xs) {i : Nat} (hi : i < xs.length) :
    ∃ ad, a = some ad ∧ ∀ (j : Nat) (v : Value), (f xs[i])[j]? = some v → cellAt h ((ad.add (i * n)).add j) = some v := by
  have h0 : (xs.flatMap f)[i * n + 0]? = (f xs[i])[0]? := flat_get hf hi hn
  have h1 : (f xs[i])[0]? = some ((f xs[i])[0]'(by rw [hf]; exact hn)) := List.getElem?_eq_getElem _
  rw [h1] at h0
  obtain ⟨ad, e, _⟩ := H.s _ _ h0
  refine ⟨ad, e, fun j v hv => ?_⟩
  have hj : j < n := by have := (List.getElem?_eq_some_iff.1 hv).1; rwa [hf] at this
  obtain ⟨ad', e', hc⟩ := H.s (i * n + j) v ((flat_get hf hi hj).trans hv)
  rw [e] at e'; cases e'
  rw [add_add]; exact hc
theorem subA_zero (a : Option Addr) (c n : Nat) : subA a 0 c n = a := by
  unfold subA
  split
  · rfl
  · rw [Nat.zero_mul]; cases a <;> rfl
end
theorem Own.take {h : Heap} {t : TypeId} {n : Nat} {a : Option Addr} {l c : Nat} {xs : List Value} (H : Own h t n a l c xs) {i : Nat} (hi : i ≤ l) : Own h t n a i c (xs.take (i * n)) := by
  obtain ⟨h1, h2, h3⟩ := H
  have him : i * n ≤ l * n := Nat.mul_le_mul_right _ hi
  refine ⟨by simp; omega, by omega, h3.imp id ?_⟩
  rintro ⟨b, row, e, hb, hs, ht⟩
  exact ⟨b, row, e, hb, hs, by rw [← ht, List.take_take, Nat.min_eq_left him]⟩
theorem Own.lt2 {h : Heap} {t : TypeId} {n : Nat} {a : Option Addr} {l c : Nat} {xs : List Value} (H : Own h t n a l c xs) {b : Nat} (hb : blk a b) : b < h.size := by
  obtain ⟨ad, e, rfl⟩ := hb
  exact H.lt ad e
theorem hp_first {P : Program} {h : Heap} {a : Option Addr} {vs : List Value} {m sz l c : Nat} {F : Array Value → Heap → Prop} (hs : Sees h a vs) (hn : vs.length = m * sz) (k : F vs.toArray h) : hp P (Builtin.firstCells sz m (.slice a l c)) F h := by
  cases a with
  | none =>
    have : vs = [] := by
      cases vs with
      | nil => rfl
      | cons y ys => obtain ⟨ad, e, _⟩ := hs 0 y rfl; cases e
    subst this; exact k
  | some ad =>
    show hp P (loadCells ad (m * sz)) F h
    refine hp_loadCellsFrom ad _ 0 [] F ?_
    rw [← hn]
    refine ldN_sees vs 0 [] _ (fun j v hj => ?_) (by simpa using k)
    obtain ⟨ad', e, hc⟩ := hs j v hj
    cases e; rwa [Nat.zero_add]
end
section
abbrev Pr := Int × Int
def plt (p q : Pr) : Prop := p.1 < q.1 ∨ (p.1 = q.1 ∧ p.2 < q.2)
instance (p q : Pr) : Decidable (plt p q) := by unfold plt; infer_instance
def insP (p : Pr) : List Pr → List Pr
  | [] => [p]
  | q :: r => if plt q p then q :: insP p r else p :: q :: r
def cmpct (ps : List Pr) : Nat → List Pr
  | 0 => []
  | i + 1 => match ps[i]? with
    | none => cmpct ps i
    | some x => if 0 < i ∧ ps[i - 1]? = some x then cmpct ps i else cmpct ps i ++ [x]
def keyN (ps : List Pr) (k : Int) : Nat := (ps.findIdx? fun p => p.1 != k).getD ps.length
def minsP (ps : List Pr) : List Pr := match ps with
  | [] => []
  | p :: _ => cmpct (ps.take (keyN ps p.1)) (keyN ps p.1)
end
section
set_option maxRecDepth 100000

end
section

end
section

end
section
section
variable {P : Program} {t kt et : TypeId}
end
end
section
set_option maxRecDepth 100000

end
section
theorem wrap64u {n : Nat} (h : n < 18446744073709551616) : IntKind.u64.wrap (n : Int) = (n : Int) := by
  unfold IntKind.wrap IntKind.signed IntKind.bits
  have e : (n : Int) % 2 ^ 64 = n := Int.emod_eq_of_lt (by omega) (by omega)
  simp only [e]
  rw [if_neg (by simp)]
end
section

end
section

end
section
structure Ro where
  c0 : Int
  c1 : Int
  c2 : Int
  c3 : Int
  c4 : Int
  c5 : Int
  c6 : Int
abbrev Ro.cells (r : Ro) : List Value := [iv r.c0, iv r.c1, iv r.c2, iv r.c3, iv r.c4, iv r.c5, iv r.c6]
end
section

end
section

end
section
set_option maxRecDepth 100000
abbrev cf (f : FuncId) : Array Value → Heap → (Value → Heap → Prop) → Prop := callV Tryz.prog (.func (.func f) #[] #[])
abbrev nP (o : Option Addr) (F : Addr → Prop) : Prop := nilC (.pointer o) (asPtr (.pointer o) F)
abbrev lI (k : IntKind) (h : Heap) (a : Addr) (F : Int → Prop) : Prop := ldH h a (fun v => asInt k v F)
abbrev lP (h : Heap) (a : Addr) (F : Option Addr → Prop) : Prop := ldH h a (fun v => asPtrO v F)
abbrev lS (h : Heap) (a : Addr) (F : Option Addr → Nat → Nat → Prop) : Prop := ldH h a (fun v => asSlice v F)
abbrev bd (n m : Int) (X : Prop) : Prop := ((0 : Int) ≤ n) ∧ ((n < m) ∧ X)
abbrev ce (h : Heap) (b i : Nat) (v : Value) (X : Prop) : Prop := (cellAt h ⟨b, i, none⟩ = some v) ∧ X
abbrev g48 (K : Value → Heap → Prop) (h H1 H2 : Heap) : Prop :=
  (ldH H2 ⟨h.size, 0, none⟩ fun v0 => ldH H2 ⟨h.size, 1, none⟩ fun v1 => ldH H2 ⟨h.size, 2, none⟩ fun v2 => cf 80 #[.agg #[v0, v1, v2]] H2 fun v3 h4 => asBool v3 fun b5 => ifB b5 (ldH h4 ⟨H1.size, 0, none⟩ fun v6 => ldH h4 ⟨H1.size, 1, none⟩ fun v7 => ldH h4 ⟨H1.size, 2, none⟩ fun v8 => cf 81 #[.agg #[v6, v7, v8]] h4 fun v9 h10 => asBool v9 fun b11 => ifB b11 (lI .i64 h10 ⟨h.size, 0, none⟩ fun n13 => lI .i64 h10 ⟨H1.size, 0, none⟩ fun n15 => K (.bool ((n13 == 0) == (decide (n15 < 2)))) h10) (K (.bool false) h10)) (K (.bool false) h4))
def F48 (K : Value → Heap → Prop) (h : Heap) (xa xb xc xd xe xf : Int) : Prop :=
  (g48 K h (Array.push h (.cells #[.int .i64 xa, .int .u32 xb, .int .u32 xc] 53)) (Array.push (Array.push h (.cells #[.int .i64 xa, .int .u32 xb, .int .u32 xc] 53)) (.cells #[.int .i64 xd, .int .u32 xe, .int .u32 xf] 49)))
theorem call48 {K : Value → Heap → Prop} {h : Heap} {xa xb xc xd xe xf : Int} (H : F48 K h xa xb xc xd xe xf) : CallH Tryz.prog 48 #[(.agg #[(.int .i64 xa), (.int .u32 xb), (.int .u32 xc)]), (.agg #[(.int .i64 xd), (.int .u32 xe), (.int .u32 xf)])] h K :=
  callH_mk Tryz.func48 (by kernel_rfl) (Eq.mp (by kernel_rfl) H)
abbrev g80 (K : Value → Heap → Prop) (h H1 : Heap) : Prop :=
  (lI .i64 H1 ⟨h.size, 0, none⟩ fun n1 => ifB (n1 == 0) (K (.bool true) H1) (lI .i64 H1 ⟨h.size, 0, none⟩ fun n3 => ifB (n3 == 1) (lI .u32 H1 ⟨h.size, 1, none⟩ fun n5 => ifB (n5 == 0) (lI .u32 H1 ⟨h.size, 2, none⟩ fun n7 => K (.bool (n7 == 0)) H1) (K (.bool false) H1)) (lI .i64 H1 ⟨h.size, 0, none⟩ fun n9 => ifB (n9 == 2) (lI .u32 H1 ⟨h.size, 1, none⟩ fun n11 => ifB (n11 == 0) (lI .u32 H1 ⟨h.size, 2, none⟩ fun n13 => K (.bool (n13 == 0)) H1) (K (.bool false) H1)) (K (.bool false) H1))))
def F80 (K : Value → Heap → Prop) (h : Heap) (xa xb xc : Int) : Prop :=
  (g80 K h (Array.push h (.cells #[.int .i64 xa, .int .u32 xb, .int .u32 xc] 53)))
theorem call80 {K : Value → Heap → Prop} {h : Heap} {xa xb xc : Int} (H : F80 K h xa xb xc) : CallH Tryz.prog 80 #[(.agg #[(.int .i64 xa), (.int .u32 xb), (.int .u32 xc)])] h K :=
  callH_mk Tryz.func80 (by kernel_rfl) (Eq.mp (by kernel_rfl) H)
abbrev g81 (K : Value → Heap → Prop) (h H1 : Heap) : Prop :=
  (lI .i64 H1 ⟨h.size, 0, none⟩ fun n1 => ifB (n1 == 2) (K (.bool true) H1) (lI .i64 H1 ⟨h.size, 0, none⟩ fun n3 => ifB (n3 == 0) (lI .u32 H1 ⟨h.size, 1, none⟩ fun n5 => ifB (n5 == 0) (lI .u32 H1 ⟨h.size, 2, none⟩ fun n7 => K (.bool (n7 == 0)) H1) (K (.bool false) H1)) (lI .i64 H1 ⟨h.size, 0, none⟩ fun n9 => ifB (n9 == 1) (lI .u32 H1 ⟨h.size, 1, none⟩ fun n11 => ifB (n11 == 0) (lI .u32 H1 ⟨h.size, 2, none⟩ fun n13 => K (.bool (n13 == 0)) H1) (K (.bool false) H1)) (lI .i64 H1 ⟨h.size, 0, none⟩ fun n15 => ifB (n15 == 3) (lI .u32 H1 ⟨h.size, 1, none⟩ fun n17 => ifB (n17 == 0) (lI .u32 H1 ⟨h.size, 2, none⟩ fun n19 => K (.bool (n19 == 0)) H1) (K (.bool false) H1)) (K (.bool false) H1)))))
def F81 (K : Value → Heap → Prop) (h : Heap) (xa xb xc : Int) : Prop :=
  (g81 K h (Array.push h (.cells #[.int .i64 xa, .int .u32 xb, .int .u32 xc] 49)))
theorem call81 {K : Value → Heap → Prop} {h : Heap} {xa xb xc : Int} (H : F81 K h xa xb xc) : CallH Tryz.prog 81 #[(.agg #[(.int .i64 xa), (.int .u32 xb), (.int .u32 xc)])] h K :=
  callH_mk Tryz.func81 (by kernel_rfl) (Eq.mp (by kernel_rfl) H)
end
section
structure C3 where
  o : Int
  k : Int
  v : Int
abbrev C3.cells (c : C3) : List Value := [.int .i64 c.o, .int .u32 c.k, .int .u32 c.v]
def rightC (c : C3) : Bool := c.o == 0 || ((c.o == 1 || c.o == 2) && (c.k == 0 && c.v == 0))
def rightA (a : C3) : Bool := a.o == 2 || ((a.o == 0 || (a.o == 1 || a.o == 3)) && (a.k == 0 && a.v == 0))
def fitsB (c a : C3) : Bool := rightC c && (rightA a && ((c.o == 0) == (a.o == 0 || a.o == 1)))
theorem refRight_call {K : Value → Heap → Prop} {h : Heap} {c : C3} (k : ∀ h', Old h.size h h' → K (.bool (rightC c)) h') : CallH Tryz.prog 80 #[.agg c.cells.toArray] h K := by
  refine call80 ?_
  unfold F80 g80 lI
  have p := pushed h c.cells.toArray 53
  rw [show h.push (.cells #[.int .i64 c.o, .int .u32 c.k, .int .u32 c.v] 53) = h.push (.cells c.cells.toArray 53) from rfl]
  generalize h.push (.cells c.cells.toArray 53) = h1 at *
  have kk := k _ p.toOld
  unfold rightC at kk
  refine ldR p.new rfl ?_
  simp only [asInt_int]
  refine ifB_mk (fun e => by rw [e] at kk; exact kk) (fun e => ?_)
  rw [e, Bool.false_or] at kk
  refine ldR p.new rfl ?_
  simp only [asInt_int]
  refine ifB_mk (fun e1 => ?_) (fun e1 => ?_)
  · rw [e1, Bool.true_or, Bool.true_and] at kk
    refine ldR p.new rfl ?_
    simp only [asInt_int]
    refine ifB_mk (fun e2 => ?_) (fun e2 => by rw [e2] at kk; exact kk)
    rw [e2, Bool.true_and] at kk
    refine ldR p.new rfl ?_
    simp only [asInt_int]
    exact kk
  · rw [e1, Bool.false_or] at kk
    refine ldR p.new rfl ?_
    simp only [asInt_int]
    refine ifB_mk (fun e1 => ?_) (fun e1 => by rw [e1] at kk; exact kk)
    rw [e1, Bool.true_and] at kk
    refine ldR p.new rfl ?_
    simp only [asInt_int]
    refine ifB_mk (fun e2 => ?_) (fun e2 => by rw [e2] at kk; exact kk)
    rw [e2, Bool.true_and] at kk
    refine ldR p.new rfl ?_
    simp only [asInt_int]
    exact kk
theorem refMay_call {K : Value → Heap → Prop} {h : Heap} {c : C3} (k : ∀ h', Old h.size h h' → K (.bool (rightA c)) h') : CallH Tryz.prog 81 #[.agg c.cells.toArray] h K := by
  refine call81 ?_
  unfold F81 g81 lI
  have p := pushed h c.cells.toArray 49
  rw [show h.push (.cells #[.int .i64 c.o, .int .u32 c.k, .int .u32 c.v] 49) = h.push (.cells c.cells.toArray 49) from rfl]
  generalize h.push (.cells c.cells.toArray 49) = h1 at *
  have kk := k _ p.toOld
  unfold rightA at kk
  refine ldR p.new rfl ?_
  simp only [asInt_int]
  refine ifB_mk (fun e => by rw [e] at kk; exact kk) (fun e => ?_)
  rw [e, Bool.false_or] at kk
  refine ldR p.new rfl ?_
  simp only [asInt_int]
  refine ifB_mk (fun e1 => ?_) (fun e1 => ?_)
  · rw [e1, Bool.true_or, Bool.true_and] at kk
    refine ldR p.new rfl ?_
    simp only [asInt_int]
    refine ifB_mk (fun e2 => ?_) (fun e2 => by rw [e2] at kk; exact kk)
    rw [e2, Bool.true_and] at kk
    refine ldR p.new rfl ?_
    simp only [asInt_int]
    exact kk
  · rw [e1, Bool.false_or] at kk
    refine ldR p.new rfl ?_
    simp only [asInt_int]
    refine ifB_mk (fun e1 => ?_) (fun e1 => ?_)
    · rw [e1, Bool.true_or, Bool.true_and] at kk
      refine ldR p.new rfl ?_
      simp only [asInt_int]
      refine ifB_mk (fun e2 => ?_) (fun e2 => by rw [e2] at kk; exact kk)
      rw [e2, Bool.true_and] at kk
      refine ldR p.new rfl ?_
      simp only [asInt_int]
      exact kk
    · rw [e1, Bool.false_or] at kk
      refine ldR p.new rfl ?_
      simp only [asInt_int]
      refine ifB_mk (fun e1 => ?_) (fun e1 => by rw [e1] at kk; exact kk)
      rw [e1, Bool.true_and] at kk
      refine ldR p.new rfl ?_
      simp only [asInt_int]
      refine ifB_mk (fun e2 => ?_) (fun e2 => by rw [e2] at kk; exact kk)
      rw [e2, Bool.true_and] at kk
      refine ldR p.new rfl ?_
      simp only [asInt_int]
      exact kk
theorem refFits_call {K : Value → Heap → Prop} {h : Heap} {c a : C3} (k : ∀ h', Old h.size h h' → K (.bool (fitsB c a)) h') : CallH Tryz.prog 48 #[.agg c.cells.toArray, .agg a.cells.toArray] h K := by
  refine call48 ?_
  unfold F48 g48 cf lI
  have p := pushed h c.cells.toArray 53
  rw [show h.push (.cells #[.int .i64 c.o, .int .u32 c.k, .int .u32 c.v] 53) = h.push (.cells c.cells.toArray 53) from rfl]
  generalize h.push (.cells c.cells.toArray 53) = h1 at *
  have s1 := p.size
  have p2 := pushed h1 a.cells.toArray 49
  rw [show h1.push (.cells #[.int .i64 a.o, .int .u32 a.k, .int .u32 a.v] 49) = h1.push (.cells a.cells.toArray 49) from rfl]
  generalize h1.push (.cells a.cells.toArray 49) = h2 at *
  have e2 : h2[h.size]? = some (.cells c.cells.toArray 53) := (p2.old _ (by omega)).trans p.new
  have o2 := p.toOld.trans (p2.toOld.mono (by omega))
  have s2 := p2.size
  refine ldR e2 rfl (ldR e2 rfl (ldR e2 rfl ?_))
  refine callV_fn (refRight_call (c := c) fun h5 o5 => ?_)
  simp only [asBool_bool]
  have ok5 := o2.trans (o5.mono o2.1)
  refine ifB_mk (fun e => ?_) (fun e => by have kk := k _ ok5; unfold fitsB at kk; rw [e] at kk; exact kk)
  have e5 := (o5.2 _ (by omega)).trans p2.new
  refine ldR e5 rfl (ldR e5 rfl (ldR e5 rfl ?_))
  refine callV_fn (refMay_call (c := a) fun h10 o10 => ?_)
  simp only [asBool_bool]
  have ok10 := ok5.trans (o10.mono ok5.1)
  have kk := k _ ok10
  unfold fitsB at kk
  rw [e, Bool.true_and] at kk
  refine ifB_mk (fun e1 => ?_) (fun e1 => by rw [e1] at kk; exact kk)
  have hA := e1
  rw [e1, Bool.true_and] at kk
  have c15 := (o10.2 _ (by have := o5.1; omega)).trans ((o5.2 _ (by omega)).trans e2)
  have a15 := (o10.2 _ (by have := o5.1; omega)).trans e5
  refine ldR c15 rfl ?_
  simp only [asInt_int]
  refine ldR a15 rfl ?_
  simp only [asInt_int]
  have : decide (a.o < 2) = (a.o == 0 || a.o == 1) := by
    unfold rightA at hA
    simp only [Bool.or_eq_true, Bool.and_eq_true, beq_iff_eq] at hA
    rcases hA with h2 | ⟨h0 | h1 | h3, _⟩
    · rw [h2]; rfl
    · rw [h0]; rfl
    · rw [h1]; rfl
    · rw [h3]; rfl
  rw [this]
  exact kk
end
section

end
section
def doP (ps : List Pr) (c a : C3) : Option (List Pr) :=
  if fitsB c a then
    if a.o = 0 then some (insP (c.k, c.v) ps)
    else if a.o = 1 then some ps
    else if a.o = 3 then (if ps = [] then some ps else none)
    else if (a.k, a.v) ∈ minsP ps then (if c.o = 1 then some (ps.erase (a.k, a.v)) else some ps) else none
  else none
end
section
set_option maxRecDepth 100000

end
section

end
section
def F218 (K : Value → Heap → Prop) (h : Heap) (xa : Option Addr) (xb xc : Nat) : Prop :=
  (K (.func (.func 228) #[] #[.pointer (some ⟨h.size, 0, none⟩)]) (Array.push h (.cells #[.slice xa xb xc] 25)))
theorem call218 {K : Value → Heap → Prop} {h : Heap} {xa : Option Addr} {xb xc : Nat} (H : F218 K h xa xb xc) : CallH Tryz.prog 218 #[(.slice xa xb xc)] h K :=
  callH_mk Tryz.func218 (by kernel_rfl) (Eq.mp (by kernel_rfl) H)
def F228 (K : Value → Heap → Prop) (h : Heap) (xa c0 : Value) : Prop :=
  (asPtr c0 fun a0 => lS h a0 fun o2 k3 k4 => exI fun I5 => exM fun m6 => (I5 [.tuple #[], .int .i64 0] h) ∧ (∀ (v7 v8 : Value) (g9 : Env) (h10 : Heap), (I5 [v7, v8] h10) → (asInt .i64 v8 fun n11 => ifB (decide (n11 < (k3 : Int))) (asI v8 fun n12 => bd n12 (k3 : Int) (asPtr (.pointer o2) fun a13 => lI .i64 h10 (Addr.add a13 (n12.toNat * 1)) fun n15 => callV Tryz.prog xa #[.int .i64 n15] h10 fun v16 h17 => asBool v16 fun b18 => ifB (!b18) (K (.tuple #[]) h17) (asInt .i64 v8 fun n19 => (I5 [.int .i64 n15, .int .i64 (IntKind.wrap .i64 (n19 + 1))] h17) ∧ ((m6 [.int .i64 n15, .int .i64 (IntKind.wrap .i64 (n19 + 1))] h17) < (m6 [v7, v8] h10))))) (K (.tuple #[]) h10))))
theorem call228 {K : Value → Heap → Prop} {h : Heap} {xa c0 : Value} (H : F228 K h xa c0) : CallH Tryz.prog 228 #[xa, c0] h K :=
  callH_mk Tryz.func228 (by kernel_rfl) (Eq.mp (by kernel_rfl) H)
abbrev g217 (K : Value → Heap → Prop) (h H1 H2 : Heap) (xa xb : Value) : Prop :=
  (oneC xa (oneC xb (exI fun I0 => (ldH H2 ⟨h.size, 0, none⟩ fun v1 => asFnNil v1 fun b2 => ifB b2 (I0 [.bool true] H2) (ldH H2 ⟨H1.size, 0, none⟩ fun v3 => asFnNil v3 fun b4 => I0 [.bool b4] H2)) ∧ (∀ (v5 : Value) (g6 : Env) (h7 : Heap), (I0 [v5] h7) → (asBool v5 fun b8 => ifB b8 (K (.func (.func 226) #[] #[]) h7) (K (.func (.func 227) #[] #[.pointer (some ⟨h.size, 0, none⟩), .pointer (some ⟨H1.size, 0, none⟩)]) h7))))))
def F217 (K : Value → Heap → Prop) (h : Heap) (xa xb : Value) : Prop :=
  (g217 K h (Array.push h (.cells #[xa] 184)) (Array.push (Array.push h (.cells #[xa] 184)) (.cells #[xb] 203)) xa xb)
theorem call217 {K : Value → Heap → Prop} {h : Heap} {xa xb : Value} (H : F217 K h xa xb) : CallH Tryz.prog 217 #[xa, xb] h K :=
  callH_mk Tryz.func217 (by kernel_rfl) (Eq.mp (by kernel_rfl) H)
abbrev g227 (K : Value → Heap → Prop) (h H1 : Heap) (xa c0 c1 : Value) : Prop :=
  (oneC xa (asPtr c0 fun a0 => ldH H1 a0 fun v1 => rangeH Tryz.prog v1 1 H1 (fun I2 vs3 h4 => asInt .i64 (vs3.getD 0 (.tuple #[])) fun n5 => exI fun I6 => (asPtr c1 fun a7 => ldH h4 a7 fun v8 => callV Tryz.prog v8 #[.int .i64 n5] h4 fun v9 h10 => asBool v9 fun b11 => ifB b11 (ldH h10 ⟨h.size, 0, none⟩ fun v12 => callV Tryz.prog v12 #[.int .i64 n5] h10 fun v13 h14 => asBool v13 fun b15 => I6 [.bool (!b15)] h14) (I6 [.bool false] h10)) ∧ (∀ (v16 : Value) (g17 : Env) (h18 : Heap), (I6 [v16] h18) → (asBool v16 fun b19 => ifB b19 (I2 .ret h18) (I2 .normal h18)))) (fun h20 => (∀ h21 : Heap, (SameD h.size h20 h21) → (K (.tuple #[]) h21))) [(.ret, fun h22 => (∀ h23 : Heap, (SameD h.size h22 h23) → (K (.tuple #[]) h23)))]))
def F227 (K : Value → Heap → Prop) (h : Heap) (xa c0 c1 : Value) : Prop :=
  (g227 K h (Array.push h (.cells #[xa] 203)) xa c0 c1)
theorem call227 {K : Value → Heap → Prop} {h : Heap} {xa c0 c1 : Value} (H : F227 K h xa c0 c1) : CallH Tryz.prog 227 #[xa, c0, c1] h K :=
  callH_mk Tryz.func227 (by kernel_rfl) (Eq.mp (by kernel_rfl) H)
end
section
abbrev seqOf (L : List Int) (k : Nat) : Array Value := #[iv (L.getD k 0)]
theorem of_seq {p : Nat} {a : Option Addr} {l c : Nat} {xs : List Int} (hl : l < 2 ^ 60) :
    SeqH Tryz.prog (.func (.func 228) #[] #[.pointer (some ⟨p, 0, none⟩)]) xs.length (seqOf xs)
      (fun h => cellAt h ⟨p, 0, none⟩ = some (.slice a l c) ∧ RI h a l c xs) := by
  intro yf y1 y2 h N I X hN hev hok hy
  refine callV_cl ?_
  rw [cl2]
  refine call228 ?_
  unfold F228 bd lS lI
  have hlen := hev.2.len
  simp only [asPtr_some]
  refine ldH_mk hev.1 ?_
  simp only [asSlice_slice]
  refine ⟨fun vs h' => ∃ v, ∃ k : Nat, vs = [v, iv k] ∧ k ≤ l ∧ h.size ≤ h'.size ∧ I h.size k h', fun vs _ => (match vs with | [_, .int _ n] => l - n.toNat | _ => 0), ⟨_, 0, rfl, by omega, Nat.le_refl _, hok.self⟩, ?_⟩
  rintro v7 v8 g h10 ⟨v, k, e, hk, hs, hI⟩
  cases e
  simp only [asInt_int, asI_int]
  refine ifB_dec (fun hlt => ?_) (fun hge => ?_)
  · have hlt' : k < xs.length := by omega
    obtain ⟨ad, rfl, hc⟩ := (hok.env _ _ _ hN hs hI).2.at hlt'
    refine ⟨by omega, hlt, ?_⟩
    simp only [asPtr_some, Int.toNat_natCast, Nat.mul_one]
    refine ldH_mk hc ?_
    simp only [asInt_int]
    have hyk := hy h.size k h10 hlt' hN (Nat.le_refl _) hs hI
    have e2 : seqOf xs k = #[.int .i64 xs[k]] := by unfold seqOf; simp [hlt']
    rw [e2] at hyk
    refine callV_mono ?_ hyk
    rintro w h'' ⟨hm, ⟨rfl, hI'⟩ | ⟨rfl, hX⟩⟩
    · simp only [asBool_bool, Bool.not_true, ifB_false]
      rw [nat_wrap1 (by omega)]
      refine ⟨⟨_, k + 1, rfl, by omega, Nat.le_trans hs hm.1, hI'⟩, ?_⟩
      show l - ((k + 1 : Nat) : Int).toNat < l - (k : Int).toNat
      omega
    · simp only [asBool_bool, Bool.not_false, ifB_true]
      exact ⟨h.size, hN, Nat.le_refl _, Nat.le_trans hs hm.1, .inr hX⟩
  · have : k = xs.length := by omega
    subst this
    exact ⟨h.size, hN, Nat.le_refl _, hs, .inl hI⟩
end
section
theorem filter_at {L : List Int} {p : Int → Bool} {j : Nat} (hj : j < L.length) (hp : p L[j] = true) :
    ((L.take j).filter p).length < (L.filter p).length ∧ (L.filter p).getD ((L.take j).filter p).length 0 = L[j] := by
  have e : L.filter p = (L.take j).filter p ++ L[j] :: (L.drop (j + 1)).filter p := by
    conv => lhs; rw [← List.take_append_drop j L, List.filter_append, List.drop_eq_getElem_cons hj, List.filter_cons_of_pos hp]
  rw [e]
  constructor
  · simp
  · simp
theorem filter_succ {L : List Int} {p : Int → Bool} {j : Nat} (hj : j < L.length) : ((L.take (j + 1)).filter p).length = ((L.take j).filter p).length + (if p L[j] then 1 else 0) := by
  rw [List.take_succ_eq_append_getElem hj, List.filter_append, List.length_append]
  cases h : p L[j] <;> simp [h]
theorem keep_of_old {N M : Nat} {h h' : Heap} (o : Old h.size h h') : Keep N M h h' := ⟨o.1, fun b hb _ => o.2 b hb⟩
theorem keepMid_of_old {N M : Nat} {h h' : Heap} (o : Old h.size h h') (hM : M ≤ h.size) : KeepMid N M h h' := ⟨o.1, fun b _ hb => o.2 b (by omega)⟩
theorem KeepMid.trans {N M : Nat} {a b c : Heap} (x : KeepMid N M a b) (y : KeepMid N M b c) : KeepMid N M a c := ⟨Nat.le_trans x.1 y.1, fun i h1 h2 => (y.2 i h1 h2).trans (x.2 i h1 h2)⟩
theorem KeepMid.mono {N N' M : Nat} {a b : Heap} (x : KeepMid N M a b) (h : N ≤ N') : KeepMid N' M a b := ⟨x.1, fun i h1 h2 => x.2 i (by omega) h2⟩
theorem only_seq {sp kp : Nat} {g f : Value} {L : List Int} {p : Int → Bool} {D : Int → Prop} {Ev Ek : Heap → Prop} (hD : ∀ x ∈ L, D x) (hg : fnV g) (hseq : SeqH Tryz.prog g L.length (seqOf L) Ev) (hst : ∀ h h', Old h.size h h' → Ev h → Ev h')
    (hsk : ∀ h h', Old h.size h h' → Ek h → Ek h') (hk : ∀ (h : Heap) (x : Int) (K : Value → Heap → Prop), Ek h → D x → (∀ h', Old h.size h h' → K (.bool (p x)) h') → callV Tryz.prog f #[.int .i64 x] h K) :
    SeqH Tryz.prog (.func (.func 227) #[] #[.pointer (some ⟨sp, 0, none⟩), .pointer (some ⟨kp, 0, none⟩)]) (L.filter p).length (seqOf (L.filter p))
      (fun h => cellAt h ⟨sp, 0, none⟩ = some g ∧ cellAt h ⟨kp, 0, none⟩ = some f ∧ Ev h ∧ Ek h) := by
  intro yf y1 y2 h N I X hN hev hok hy
  refine callV_cl ?_
  rw [cl3]
  refine call227 ?_
  unfold F227 g227
  simp only [asPtr_some, oneC_func]
  have o1 : Old h.size h (h.push (.cells #[.func yf y1 y2] 203)) := (Old.refl _ _).push _ (Nat.le_refl _)
  have n1 := push_new h (.cells #[.func yf y1 y2] 203)
  have s1 : (h.push (.cells #[.func yf y1 y2] 203)).size = h.size + 1 := by simp
  generalize h.push (.cells #[.func yf y1 y2] 203) = h1 at *
  refine ldH_mk (cell_stable _ _ o1 hev.1) ?_
  refine rangeH_outer (h0 := h) (I := I) (X := X) (N := N) (n := L.length) (xs := seqOf L) (Ev := Ev) (fun _ h' => h'[h.size]? = some (.cells #[.func yf y1 y2] 203)) (fun j => ((L.take j).filter p).length) (L.filter p).length False
    hg hseq (fun _ _ => rfl) hN o1 hok (fun h' e => e.2.2.1) (hst _ _ o1 hev.2.2.1) (by simp) (by simp) (fun k ha hb hsame e => (hsame _ (Nat.le_refl _) (by omega)).trans e) n1 ?_ ?_ ?_
  · intro M j h4 hj hM hs hS hI
    rw [s1] at hM
    have e2 : (seqOf L j).getD 0 (.tuple #[]) = .int .i64 L[j] := by unfold seqOf; simp [hj]
    rw [e2]
    simp only [asInt_int]
    have hev4 := hok.env M _ h4 (by omega) hs hI
    refine ⟨fun vs h' => ∃ b : Bool, vs = [.bool b] ∧ KeepMid h1.size M h4 h' ∧ (if b then X M () h' else h'[h.size]? = some (.cells #[.func yf y1 y2] 203) ∧ I M ((L.take (j + 1)).filter p).length h'), ?_, ?_⟩
    · refine ldH_mk hev4.2.1 ?_
      refine hk _ _ _ hev4.2.2.2 (hD _ (List.getElem_mem _)) fun h10 o10 => ?_
      simp only [asBool_bool]
      have hI10 := hok.keepI M _ h4 h10 (by omega) hs hI (keep_of_old o10)
      have hS10 : h10[h.size]? = some (.cells #[.func yf y1 y2] 203) := (o10.2 _ (by omega)).trans hS
      refine ifB_mk (fun hp => ?_) (fun hp => ?_)
      · refine ldH_mk (cellAt_row hS10) ?_
        obtain ⟨f1, f2⟩ := filter_at hj hp
        have hyk := hy M _ h10 f1 (by omega) (by omega) (by have := o10.1; omega) hI10
        rw [show seqOf (L.filter p) ((L.take j).filter p).length = #[.int .i64 L[j]] by unfold seqOf; rw [f2]] at hyk
        refine callV_mono ?_ hyk
        rintro w h14 ⟨hm, hor⟩
        have hm4 : KeepMid h1.size M h4 h14 := (keepMid_of_old o10 hs).trans (hm.mono (by omega))
        rcases hor with ⟨rfl, hI'⟩ | ⟨rfl, hX⟩
        · simp only [asBool_bool, Bool.not_true]
          refine ⟨false, rfl, hm4, ?_⟩
          simp only [Bool.false_eq_true, if_false]
          refine ⟨(hm.2 _ (by omega) (by omega)).trans hS10, ?_⟩
          rw [filter_succ hj, if_pos hp]; exact hI'
        · simp only [asBool_bool, Bool.not_false]
          exact ⟨true, rfl, hm4, by simp only [if_true]; exact hX⟩
      · refine ⟨false, rfl, keepMid_of_old o10 hs, ?_⟩
        simp only [Bool.false_eq_true, if_false]
        refine ⟨hS10, ?_⟩
        rw [filter_succ hj, if_neg (by simp [hp])]; exact hI10
    · rintro v16 g17 h18 ⟨b, e, hm, hb⟩
      cases e
      simp only [asBool_bool]
      cases b with
      | true => simp only [ifB_true]; simp only [if_true] at hb; exact ⟨hm, trivial, .inl hb⟩
      | false => simp only [ifB_false]; simp only [Bool.false_eq_true, if_false] at hb; exact ⟨hm, by have := hm.1; omega, hb⟩
  · intro M h20 hM hs hI h21 hsd
    refine ⟨M, by omega, by omega, by rw [hsd.1]; exact hs, .inl ?_⟩
    exact hok.dI M _ h20 h21 (hsd.mono hN) hI
  · refine ⟨fun M h22 hM hs hX h23 hsd => ?_, trivial⟩
    refine ⟨M, by omega, by omega, by rw [hsd.1]; exact hs, .inr ?_⟩
    rcases hX with hX | hX
    · exact hok.dX M _ h22 h23 (hsd.mono hN) hX
    · exact hX.1.elim
end
section

end
section
set_option maxRecDepth 100000

end
section
structure Op9 where
  th : Int
  op : Int
  key : Int
  val : Int
  kind : Int
  ak : Int
  av : Int
  fr : Int
  to : Int
abbrev Op9.cells (o : Op9) : List Value := [.int .i64 o.th, .int .i64 o.op, .int .u32 o.key, .int .u32 o.val, .int .i64 o.kind, .int .u32 o.ak, .int .u32 o.av, .int .i64 o.fr, .int .i64 o.to]
end
section
def ansP (ps : List Pr) (c : C3) : C3 := if rightC c then (if c.o = 0 then ⟨0, 0, 0⟩ else match minsP ps with | [] => ⟨3, 0, 0⟩ | p :: _ => ⟨2, p.1, p.2⟩) else ⟨1, 0, 0⟩
def dfC : C3 := ⟨0, 0, 0⟩
def stP (cs : List C3) : Nat → List Pr
  | 0 => []
  | i + 1 => let ps := stP cs i; let c := cs.getD i dfC; (doP ps c (ansP ps c)).getD ps
end
section
structure Op7 where
  pl : Int
  c : C3
  a : C3
abbrev Op7.cells (o : Op7) : List Value := [.int .i64 o.pl, .int .i64 o.c.o, .int .u32 o.c.k, .int .u32 o.c.v, .int .i64 o.a.o, .int .u32 o.a.k, .int .u32 o.a.v]
end
section
open Go.ChangeShapes Go.WideShapes Go.ChangeAt Go.RowKit
theorem trod_fieldG {H : Type} {enc : TypeId × Value → H} {P : Program} {W : World} {base : Nat} {spare : Nat → Bool} {held : Bool} {fuel : Nat} {t : TypeId} {cs : List Value} {x : DataW H × List MemPlace} {fs : Array Field} (ht : P.underlying t = some (.struct fs))
    (h : DataW.trod enc P W base spare held fuel t cs = some x) (i : Nat) (f : Field) (hf : fs[i]? = some f) : ∃ n y, DataW.trod enc P W base spare held n f.type ((cs.drop f.offset).take (P.cellsOf f.type)) = some y := by
  obtain ⟨xs, n, _, _, _, hlen, hfl⟩ := DataW.trod_struct ht h
  have hi : i < xs.length := by rw [hlen]; exact (Array.getElem?_eq_some_iff.1 hf).1
  exact ⟨n, xs[i], by rw [hfl i f hf, List.getElem?_eq_getElem hi]⟩
theorem trod_lenG {H : Type} {enc : TypeId × Value → H} {P : Program} {W : World} {base : Nat} {spare : Nat → Bool} {held : Bool} {fuel : Nat} {t : TypeId} {cs : List Value} {x : DataW H × List MemPlace} {fs : Array Field} (ht : P.underlying t = some (.struct fs))
    (h : DataW.trod enc P W base spare held fuel t cs = some x) : cs.length = P.cellsOf t := by
  obtain ⟨xs, n, _, _, hl, _, _⟩ := DataW.trod_struct ht h
  exact hl
theorem arg_sx {H : Type} {enc : TypeId × Value → H} {W : World} {α : Type} {f : α → List Value} {n : Nat} (hf : ∀ x, (f x).length = n) (hn : 0 < n) {ts t : TypeId} (hu : Program.underlying Tryz.prog ts = some (.slice t)) (hco : Program.cellsOf Tryz.prog t = n)
    (hcell : ∀ fuel cs x, DataW.trod enc Tryz.prog W 0 (fun _ => true) true fuel t cs = some x → ∃ e, cs = f e) {d : DataW H} {ps : List MemPlace} {a : Option Addr} {l c : Nat}
    (h : DataW.Trod enc Tryz.prog W 0 (fun _ => true) true ts (.slice a l c) d ps) : ∃ es : List α, SX f W.heap a l c es := by
  obtain ⟨fuel, hf0⟩ := h
  rcases DataW.trod_slice hu hf0 with ⟨hcs, _⟩ | ⟨x, l1, c1, elems, rest, m, _, hcs, _, _, hl, hm, hlen, hel, _, _⟩
  · simp [Value.cells] at hcs
    obtain ⟨rfl, rfl, rfl⟩ := hcs
    exact ⟨[], ⟨Sees.nil _ _, rfl, Nat.le_refl _⟩⟩
  · simp [Value.cells] at hcs
    obtain ⟨rfl, rfl, rfl⟩ := hcs
    have each : ∀ i, i < l → ∃ e : α, ∀ j v, (f e)[j]? = some v → cellAt W.heap (x.add (i * n + j)) = some v := by
      intro i hi
      have := hel i hi
      rw [List.getElem?_eq_getElem (by omega), Option.bind_eq_some_iff] at this
      obtain ⟨cs, h1, h2⟩ := this
      obtain ⟨e, rfl⟩ := hcell _ _ _ h2
      obtain ⟨_, h3, h4⟩ := World.cells?_some h1
      refine ⟨e, fun j v hv => ?_⟩
      have hj : j < n := by have := (List.getElem?_eq_some_iff.1 hv).1; rwa [hf] at this
      rw [hco] at h1 h4
      have h5 := h4 j (by omega)
      rw [hv, add_add] at h5
      exact h5
    have pick : ∀ m, m ≤ l → ∃ es : List α, es.length = m ∧ ∀ i (hi : i < es.length), ∀ j v, (f es[i])[j]? = some v → cellAt W.heap (x.add (i * n + j)) = some v := by
      intro m
      induction m with
      | zero => intro _; exact ⟨[], rfl, fun i hi => by simp at hi⟩
      | succ m ih =>
        intro hm
        obtain ⟨es, h1, h2⟩ := ih (by omega)
        obtain ⟨e, he⟩ := each m (by omega)
        refine ⟨es ++ [e], by simp [h1], fun i hi j v hv => ?_⟩
        by_cases e : i < es.length
        · rw [List.getElem_append_left e] at hv
          exact h2 i e j v hv
        · have : i = m := by simp at hi; omega
          subst this
          rw [List.getElem_append_right (by omega)] at hv
          simp only [h1, Nat.sub_self, List.getElem_singleton] at hv
          exact he j v hv
    obtain ⟨es, h1, h2⟩ := pick l (Nat.le_refl _)
    refine ⟨es, ⟨?_, h1, hl⟩⟩
    intro q v hq
    have hqlt : q < es.length * n := by rw [← flat_len hf]; exact (List.getElem?_eq_some_iff.1 hq).1
    have hi : q / n < es.length := (Nat.div_lt_iff_lt_mul hn).2 hqlt
    have e := flat_get hf hi (j := q % n) (Nat.mod_lt _ hn)
    have e3 : q / n * n + q % n = q := by rw [Nat.mul_comm]; exact Nat.div_add_mod q n
    rw [e3, hq] at e
    have := h2 (q / n) hi (q % n) v e.symm
    rw [e3] at this
    exact ⟨x, rfl, this⟩
theorem cellsOfG_u32 : Program.cellsOf Tryz.prog 47 = 1 := by kernel_rfl
theorem cellsOfG_int : Program.cellsOf Tryz.prog 3 = 1 := by kernel_rfl
theorem cellsOfG_call : Program.cellsOf Tryz.prog 53 = 3 := by kernel_rfl
section
variable {H : Type} {enc : TypeId × Value → H} {W : World} {fuel : Nat} {cs : List Value} {x : DataW H × List MemPlace}
end
section
variable {H : Type} {enc : TypeId × Value → H} {W : World} {d : DataW H} {ps : List MemPlace} {a : Option Addr} {l c : Nat}
end
end
section
set_option maxRecDepth 100000
abbrev g30 (K : Value → Heap → Prop) (h H1 H2 : Heap) : Prop :=
  (lI .i64 H2 ⟨h.size, 0, none⟩ fun n1 => lI .i64 H2 ⟨h.size, 1, none⟩ fun n3 => lI .i64 H2 ⟨h.size, 2, none⟩ fun n5 => lI .i64 H2 ⟨h.size, 3, none⟩ fun n7 => lI .i64 H2 ⟨h.size, 4, none⟩ fun n9 => lI .i64 H2 ⟨h.size, 5, none⟩ fun n11 => lI .i64 H2 ⟨h.size, 6, none⟩ fun n13 => cf 61 #[.slice (some ⟨H2.size, 0, none⟩) 7 7] (Array.push H2 (.cells #[.int .i64 n1, .int .i64 0, .int .i64 2, .int .i64 n3, .int .i64 1, .int .i64 6, .int .i64 n5, .int .i64 1, .int .i64 64, .int .i64 n7, .int .i64 1, .int .i64 6, .int .i64 n9, .int .i64 1, .int .i64 16, .int .i64 n11, .int .i64 1, .int .i64 16, .int .i64 n13, .int .i64 1, .int .i64 64] 127)) fun v14 h15 => asBool v14 fun b16 => ifB (!b16) (stH h15 ⟨H1.size, 0, none⟩ (.int .i64 0) fun h17 => stH h17 ⟨H1.size, 1, none⟩ (.int .i64 0) fun h18 => stH h18 ⟨H1.size, 2, none⟩ (.int .i64 0) fun h19 => stH h19 ⟨H1.size, 3, none⟩ (.int .i64 0) fun h20 => stH h20 ⟨H1.size, 4, none⟩ (.int .i64 0) fun h21 => stH h21 ⟨H1.size, 5, none⟩ (.int .i64 0) fun h22 => stH h22 ⟨H1.size, 6, none⟩ (.int .i64 0) fun h23 => stH h23 ⟨H1.size, 7, none⟩ (.int .i64 0) fun h24 => stH h24 ⟨H1.size, 8, none⟩ (.int .i64 0) fun h25 => stH h25 ⟨H1.size, 9, none⟩ (.int .i64 0) fun h26 => stH h26 ⟨H1.size, 10, none⟩ (.int .i64 0) fun h27 => stH h27 ⟨H1.size, 11, none⟩ (.int .i64 0) fun h28 => stH h28 ⟨H1.size, 12, none⟩ (.int .i64 0) fun h29 => stH h29 ⟨H1.size, 13, none⟩ (.int .i64 0) fun h30 => stH h30 ⟨H1.size, 14, none⟩ (.int .i64 0) fun h31 => ldH h31 ⟨H1.size, 0, none⟩ fun v32 => ldH h31 ⟨H1.size, 1, none⟩ fun v33 => ldH h31 ⟨H1.size, 2, none⟩ fun v34 => ldH h31 ⟨H1.size, 3, none⟩ fun v35 => ldH h31 ⟨H1.size, 4, none⟩ fun v36 => ldH h31 ⟨H1.size, 5, none⟩ fun v37 => ldH h31 ⟨H1.size, 6, none⟩ fun v38 => ldH h31 ⟨H1.size, 7, none⟩ fun v39 => ldH h31 ⟨H1.size, 8, none⟩ fun v40 => ldH h31 ⟨H1.size, 9, none⟩ fun v41 => ldH h31 ⟨H1.size, 10, none⟩ fun v42 => ldH h31 ⟨H1.size, 11, none⟩ fun v43 => ldH h31 ⟨H1.size, 12, none⟩ fun v44 => ldH h31 ⟨H1.size, 13, none⟩ fun v45 => ldH h31 ⟨H1.size, 14, none⟩ fun v46 => K (.tuple #[.agg #[v32, v33, v34, v35, v36, v37, v38, v39, v40, v41, v42, v43, v44, v45, v46], .int .i64 6]) h31) (ldH h15 ⟨h.size, 0, none⟩ fun v47 => ldH h15 ⟨h.size, 1, none⟩ fun v48 => ldH h15 ⟨h.size, 2, none⟩ fun v49 => ldH h15 ⟨h.size, 3, none⟩ fun v50 => ldH h15 ⟨h.size, 4, none⟩ fun v51 => ldH h15 ⟨h.size, 5, none⟩ fun v52 => ldH h15 ⟨h.size, 6, none⟩ fun v53 => lI .i64 h15 ⟨h.size, 3, none⟩ fun n55 => lI .i64 h15 ⟨h.size, 3, none⟩ fun n57 => stH (Array.push h15 (.cells #[.int .i64 0, .int .i64 0, .int .i64 0, .int .i64 0, .int .i64 0, .int .i64 0, .int .i64 0, .int .i64 0, .int .i64 0, .int .i64 0, .int .i64 0, .int .i64 0, .int .i64 0, .int .i64 0, .int .i64 0] 69)) ⟨h15.size, 0, none⟩ v47 fun h58 => stH h58 ⟨h15.size, 1, none⟩ v48 fun h59 => stH h59 ⟨h15.size, 2, none⟩ v49 fun h60 => stH h60 ⟨h15.size, 3, none⟩ v50 fun h61 => stH h61 ⟨h15.size, 4, none⟩ v51 fun h62 => stH h62 ⟨h15.size, 5, none⟩ v52 fun h63 => stH h63 ⟨h15.size, 6, none⟩ v53 fun h64 => stH h64 ⟨h15.size, 7, none⟩ (.int .i64 (IntKind.wrap .i64 ((IntKind.wrap .i64 (2 * n55)) + 2))) fun h65 => stH h65 ⟨h15.size, 8, none⟩ (.int .i64 (IntKind.wrap .i64 (5 + n57))) fun h66 => stH h66 ⟨h15.size, 9, none⟩ (.int .i64 2) fun h67 => stH h67 ⟨h15.size, 10, none⟩ (.int .i64 0) fun h68 => stH h68 ⟨h15.size, 11, none⟩ (.int .i64 0) fun h69 => stH h69 ⟨h15.size, 12, none⟩ (.int .i64 0) fun h70 => stH h70 ⟨h15.size, 13, none⟩ (.int .i64 0) fun h71 => stH h71 ⟨h15.size, 14, none⟩ (.int .i64 0) fun h72 => exI fun I73 => (lI .i64 h72 ⟨h.size, 0, none⟩ fun n75 => ifB (n75 == 0) (ldH h72 ⟨h.size, 3, none⟩ fun v76 => asInt .i64 v76 fun n77 => ((0 : Int) ≤ n77) ∧ (stH h72 ⟨h15.size, 7, none⟩ (.int .i64 2) fun h78 => ce h78 h.size 3 v76 (stH h78 ⟨h15.size, 8, none⟩ (.int .i64 3) fun h79 => ce h79 h.size 3 v76 (stH h79 ⟨h15.size, 9, none⟩ (.int .i64 0) fun h80 => ce h80 h.size 3 v76 (I73 [.int .i64 (IntKind.wrap .i64 (1 * (2 ^ (min n77.toNat 64))))] h80))))) (I73 [.int .i64 0] h72)) ∧ (∀ (v81 : Value) (g82 : Env) (h83 : Heap), (I73 [v81] h83) → (lI .i64 h83 ⟨h.size, 2, none⟩ fun n85 => lI .i64 h83 ⟨h15.size, 9, none⟩ fun n87 => ifB (decide (n85 ≤ n87)) (stH h83 ⟨H1.size, 0, none⟩ (.int .i64 0) fun h88 => stH h88 ⟨H1.size, 1, none⟩ (.int .i64 0) fun h89 => stH h89 ⟨H1.size, 2, none⟩ (.int .i64 0) fun h90 => stH h90 ⟨H1.size, 3, none⟩ (.int .i64 0) fun h91 => stH h91 ⟨H1.size, 4, none⟩ (.int .i64 0) fun h92 => stH h92 ⟨H1.size, 5, none⟩ (.int .i64 0) fun h93 => stH h93 ⟨H1.size, 6, none⟩ (.int .i64 0) fun h94 => stH h94 ⟨H1.size, 7, none⟩ (.int .i64 0) fun h95 => stH h95 ⟨H1.size, 8, none⟩ (.int .i64 0) fun h96 => stH h96 ⟨H1.size, 9, none⟩ (.int .i64 0) fun h97 => stH h97 ⟨H1.size, 10, none⟩ (.int .i64 0) fun h98 => stH h98 ⟨H1.size, 11, none⟩ (.int .i64 0) fun h99 => stH h99 ⟨H1.size, 12, none⟩ (.int .i64 0) fun h100 => stH h100 ⟨H1.size, 13, none⟩ (.int .i64 0) fun h101 => stH h101 ⟨H1.size, 14, none⟩ (.int .i64 0) fun h102 => ldH h102 ⟨H1.size, 0, none⟩ fun v103 => ldH h102 ⟨H1.size, 1, none⟩ fun v104 => ldH h102 ⟨H1.size, 2, none⟩ fun v105 => ldH h102 ⟨H1.size, 3, none⟩ fun v106 => ldH h102 ⟨H1.size, 4, none⟩ fun v107 => ldH h102 ⟨H1.size, 5, none⟩ fun v108 => ldH h102 ⟨H1.size, 6, none⟩ fun v109 => ldH h102 ⟨H1.size, 7, none⟩ fun v110 => ldH h102 ⟨H1.size, 8, none⟩ fun v111 => ldH h102 ⟨H1.size, 9, none⟩ fun v112 => ldH h102 ⟨H1.size, 10, none⟩ fun v113 => ldH h102 ⟨H1.size, 11, none⟩ fun v114 => ldH h102 ⟨H1.size, 12, none⟩ fun v115 => ldH h102 ⟨H1.size, 13, none⟩ fun v116 => ldH h102 ⟨H1.size, 14, none⟩ fun v117 => K (.tuple #[.agg #[v103, v104, v105, v106, v107, v108, v109, v110, v111, v112, v113, v114, v115, v116, v117], .int .i64 6]) h102) (stH h83 ⟨h15.size, 10, none⟩ (.int .i64 8) fun h118 => lI .i64 h118 ⟨h15.size, 10, none⟩ fun n120 => lI .i64 h118 ⟨h.size, 1, none⟩ fun n122 => lI .i64 h118 ⟨h15.size, 7, none⟩ fun n124 => stH h118 ⟨h15.size, 11, none⟩ (.int .i64 (IntKind.wrap .i64 (n120 + (IntKind.wrap .i64 (n122 * n124))))) fun h125 => lI .i64 h125 ⟨h15.size, 11, none⟩ fun n127 => lI .i64 h125 ⟨h.size, 2, none⟩ fun n129 => stH h125 ⟨h15.size, 12, none⟩ (.int .i64 (IntKind.wrap .i64 (n127 + n129))) fun h130 => lI .i64 h130 ⟨h15.size, 12, none⟩ fun n132 => lI .i64 h130 ⟨h.size, 2, none⟩ fun n134 => lI .i64 h130 ⟨h15.size, 8, none⟩ fun n136 => stH h130 ⟨h15.size, 13, none⟩ (.int .i64 (IntKind.wrap .i64 (n132 + (IntKind.wrap .i64 (n134 * n136))))) fun h137 => lI .i64 h137 ⟨h15.size, 13, none⟩ fun n139 => asInt .i64 v81 fun n140 => stH h137 ⟨h15.size, 14, none⟩ (.int .i64 (IntKind.wrap .i64 (n139 + n140))) fun h141 => ldH h141 ⟨h15.size, 0, none⟩ fun v142 => ldH h141 ⟨h15.size, 1, none⟩ fun v143 => ldH h141 ⟨h15.size, 2, none⟩ fun v144 => ldH h141 ⟨h15.size, 3, none⟩ fun v145 => ldH h141 ⟨h15.size, 4, none⟩ fun v146 => ldH h141 ⟨h15.size, 5, none⟩ fun v147 => ldH h141 ⟨h15.size, 6, none⟩ fun v148 => ldH h141 ⟨h15.size, 7, none⟩ fun v149 => ldH h141 ⟨h15.size, 8, none⟩ fun v150 => ldH h141 ⟨h15.size, 9, none⟩ fun v151 => ldH h141 ⟨h15.size, 10, none⟩ fun v152 => ldH h141 ⟨h15.size, 11, none⟩ fun v153 => ldH h141 ⟨h15.size, 12, none⟩ fun v154 => ldH h141 ⟨h15.size, 13, none⟩ fun v155 => ldH h141 ⟨h15.size, 14, none⟩ fun v156 => stH h141 ⟨H1.size, 0, none⟩ v142 fun h157 => stH h157 ⟨H1.size, 1, none⟩ v143 fun h158 => stH h158 ⟨H1.size, 2, none⟩ v144 fun h159 => stH h159 ⟨H1.size, 3, none⟩ v145 fun h160 => stH h160 ⟨H1.size, 4, none⟩ v146 fun h161 => stH h161 ⟨H1.size, 5, none⟩ v147 fun h162 => stH h162 ⟨H1.size, 6, none⟩ v148 fun h163 => stH h163 ⟨H1.size, 7, none⟩ v149 fun h164 => stH h164 ⟨H1.size, 8, none⟩ v150 fun h165 => stH h165 ⟨H1.size, 9, none⟩ v151 fun h166 => stH h166 ⟨H1.size, 10, none⟩ v152 fun h167 => stH h167 ⟨H1.size, 11, none⟩ v153 fun h168 => stH h168 ⟨H1.size, 12, none⟩ v154 fun h169 => stH h169 ⟨H1.size, 13, none⟩ v155 fun h170 => stH h170 ⟨H1.size, 14, none⟩ v156 fun h171 => ldH h171 ⟨H1.size, 0, none⟩ fun v172 => ldH h171 ⟨H1.size, 1, none⟩ fun v173 => ldH h171 ⟨H1.size, 2, none⟩ fun v174 => ldH h171 ⟨H1.size, 3, none⟩ fun v175 => ldH h171 ⟨H1.size, 4, none⟩ fun v176 => ldH h171 ⟨H1.size, 5, none⟩ fun v177 => ldH h171 ⟨H1.size, 6, none⟩ fun v178 => ldH h171 ⟨H1.size, 7, none⟩ fun v179 => ldH h171 ⟨H1.size, 8, none⟩ fun v180 => ldH h171 ⟨H1.size, 9, none⟩ fun v181 => ldH h171 ⟨H1.size, 10, none⟩ fun v182 => ldH h171 ⟨H1.size, 11, none⟩ fun v183 => ldH h171 ⟨H1.size, 12, none⟩ fun v184 => ldH h171 ⟨H1.size, 13, none⟩ fun v185 => ldH h171 ⟨H1.size, 14, none⟩ fun v186 => K (.tuple #[.agg #[v172, v173, v174, v175, v176, v177, v178, v179, v180, v181, v182, v183, v184, v185, v186], .int .i64 0]) h171)))))
def F30 (K : Value → Heap → Prop) (h : Heap) (xa xb xc xd xe xf xg : Int) : Prop :=
  (g30 K h (Array.push h (.cells #[.int .i64 xa, .int .i64 xb, .int .i64 xc, .int .i64 xd, .int .i64 xe, .int .i64 xf, .int .i64 xg] 23)) (Array.push (Array.push h (.cells #[.int .i64 xa, .int .i64 xb, .int .i64 xc, .int .i64 xd, .int .i64 xe, .int .i64 xf, .int .i64 xg] 23)) (.cells #[.int .i64 0, .int .i64 0, .int .i64 0, .int .i64 0, .int .i64 0, .int .i64 0, .int .i64 0, .int .i64 0, .int .i64 0, .int .i64 0, .int .i64 0, .int .i64 0, .int .i64 0, .int .i64 0, .int .i64 0] 69)))
theorem call30 {K : Value → Heap → Prop} {h : Heap} {xa xb xc xd xe xf xg : Int} (H : F30 K h xa xb xc xd xe xf xg) : CallH Tryz.prog 30 #[(.agg #[(.int .i64 xa), (.int .i64 xb), (.int .i64 xc), (.int .i64 xd), (.int .i64 xe), (.int .i64 xf), (.int .i64 xg)])] h K :=
  callH_mk Tryz.func30 (by kernel_rfl) (Eq.mp (by kernel_rfl) H)
def F61 (K : Value → Heap → Prop) (h : Heap) (xa : Option Addr) (xb xc : Nat) : Prop :=
  (exI fun I0 => exM fun m1 => (I0 [.bool false, .int .i64 0] h) ∧ (∀ (v2 v3 : Value) (g4 : Env) (h5 : Heap), (I0 [v2, v3] h5) → (asInt .i64 v3 fun n6 => ifB (decide (n6 < ((xb : Nat) : Int))) (asI v3 fun n7 => bd n7 ((xb : Nat) : Int) (asPtr (.pointer xa) fun a8 => ldH h5 (Addr.add a8 (n7.toNat * 3)) fun v9 => ldH h5 (Addr.add (Addr.add a8 (n7.toNat * 3)) 1) fun v10 => ldH h5 (Addr.add (Addr.add a8 (n7.toNat * 3)) 2) fun v11 => stH (Array.push h5 (.cells #[.int .i64 0, .int .i64 0, .int .i64 0] 127)) ⟨h5.size, 0, none⟩ v9 fun h12 => stH h12 ⟨h5.size, 1, none⟩ v10 fun h13 => stH h13 ⟨h5.size, 2, none⟩ v11 fun h14 => exI fun I15 => (lI .i64 h14 ⟨h5.size, 0, none⟩ fun n17 => lI .i64 h14 ⟨h5.size, 1, none⟩ fun n19 => ifB (decide (n17 < n19)) (I15 [.bool true] h14) (lI .i64 h14 ⟨h5.size, 0, none⟩ fun n21 => lI .i64 h14 ⟨h5.size, 2, none⟩ fun n23 => I15 [.bool (decide (n21 > n23))] h14)) ∧ (∀ (v24 : Value) (g25 : Env) (h26 : Heap), (I15 [v24] h26) → (asBool v24 fun b27 => ifB b27 (K (.bool false) h26) (asInt .i64 v3 fun n28 => (I0 [v2, .int .i64 (IntKind.wrap .i64 (n28 + 1))] h26) ∧ ((m1 [v2, .int .i64 (IntKind.wrap .i64 (n28 + 1))] h26) < (m1 [v2, v3] h5))))))) (K (.bool true) h5))))
theorem call61 {K : Value → Heap → Prop} {h : Heap} {xa : Option Addr} {xb xc : Nat} (H : F61 K h xa xb xc) : CallH Tryz.prog 61 #[(.slice xa xb xc)] h K :=
  callH_mk Tryz.func61 (by kernel_rfl) (Eq.mp (by kernel_rfl) H)
abbrev g19 (K : Value → Heap → Prop) (h H1 : Heap) : Prop :=
  (exI fun I0 => (lI .i64 H1 ⟨h.size, 0, none⟩ fun n2 => ifB (decide (n2 < 0)) (I0 [.bool true, .bool true, .bool true, .bool true, .bool true, .bool true, .bool true] H1) (lI .i64 H1 ⟨h.size, 0, none⟩ fun n4 => ifB (decide (n4 > 2)) (I0 [.bool (decide (n4 > 2)), .bool true, .bool true, .bool true, .bool true, .bool true, .bool true] H1) (lI .i64 H1 ⟨h.size, 1, none⟩ fun n6 => ifB (decide (n6 < 1)) (I0 [.bool (decide (n4 > 2)), .bool (decide (n6 < 1)), .bool true, .bool true, .bool true, .bool true, .bool true] H1) (lI .i64 H1 ⟨h.size, 1, none⟩ fun n8 => ifB (decide (n8 > 6)) (I0 [.bool (decide (n4 > 2)), .bool (decide (n6 < 1)), .bool (decide (n8 > 6)), .bool true, .bool true, .bool true, .bool true] H1) (lI .i64 H1 ⟨h.size, 2, none⟩ fun n10 => ifB (decide (n10 < 1)) (I0 [.bool (decide (n4 > 2)), .bool (decide (n6 < 1)), .bool (decide (n8 > 6)), .bool (decide (n10 < 1)), .bool true, .bool true, .bool true] H1) (lI .i64 H1 ⟨h.size, 2, none⟩ fun n12 => ifB (decide (n12 > 64)) (I0 [.bool (decide (n4 > 2)), .bool (decide (n6 < 1)), .bool (decide (n8 > 6)), .bool (decide (n10 < 1)), .bool (decide (n12 > 64)), .bool true, .bool true] H1) (lI .i64 H1 ⟨h.size, 3, none⟩ fun n14 => ifB (decide (n14 < 1)) (I0 [.bool (decide (n4 > 2)), .bool (decide (n6 < 1)), .bool (decide (n8 > 6)), .bool (decide (n10 < 1)), .bool (decide (n12 > 64)), .bool (decide (n14 < 1)), .bool true] H1) (lI .i64 H1 ⟨h.size, 3, none⟩ fun n16 => I0 [.bool (decide (n4 > 2)), .bool (decide (n6 < 1)), .bool (decide (n8 > 6)), .bool (decide (n10 < 1)), .bool (decide (n12 > 64)), .bool (decide (n14 < 1)), .bool (decide (n16 > 6))] H1)))))))) ∧ (∀ (v17 v18 v19 v20 v21 v22 v23 : Value) (g24 : Env) (h25 : Heap), (I0 [v17, v18, v19, v20, v21, v22, v23] h25) → (asBool v23 fun b26 => ifB b26 (K (.bool false) h25) (exI fun I27 => (lI .i64 h25 ⟨h.size, 4, none⟩ fun n29 => ifB (decide (n29 < 1)) (I27 [.bool true, .bool true, .bool true, .bool true, .bool true] h25) (lI .i64 h25 ⟨h.size, 4, none⟩ fun n31 => ifB (decide (n31 > 16)) (I27 [.bool (decide (n31 > 16)), .bool true, .bool true, .bool true, .bool true] h25) (lI .i64 h25 ⟨h.size, 5, none⟩ fun n33 => ifB (decide (n33 < 1)) (I27 [.bool (decide (n31 > 16)), .bool (decide (n33 < 1)), .bool true, .bool true, .bool true] h25) (lI .i64 h25 ⟨h.size, 5, none⟩ fun n35 => ifB (decide (n35 > 16)) (I27 [.bool (decide (n31 > 16)), .bool (decide (n33 < 1)), .bool (decide (n35 > 16)), .bool true, .bool true] h25) (lI .i64 h25 ⟨h.size, 6, none⟩ fun n37 => ifB (decide (n37 < 1)) (I27 [.bool (decide (n31 > 16)), .bool (decide (n33 < 1)), .bool (decide (n35 > 16)), .bool (decide (n37 < 1)), .bool true] h25) (lI .i64 h25 ⟨h.size, 6, none⟩ fun n39 => I27 [.bool (decide (n31 > 16)), .bool (decide (n33 < 1)), .bool (decide (n35 > 16)), .bool (decide (n37 < 1)), .bool (decide (n39 > 64))] h25)))))) ∧ (∀ (v40 v41 v42 v43 v44 : Value) (g45 : Env) (h46 : Heap), (I27 [v40, v41, v42, v43, v44] h46) → (asBool v44 fun b47 => ifB b47 (K (.bool false) h46) (ldH h46 ⟨h.size, 2, none⟩ fun v48 => asInt .i64 v48 fun n49 => ldH h46 ⟨h.size, 0, none⟩ fun v50 => ldH h46 ⟨h.size, 1, none⟩ fun v51 => ldH h46 ⟨h.size, 2, none⟩ fun v52 => ldH h46 ⟨h.size, 3, none⟩ fun v53 => ldH h46 ⟨h.size, 4, none⟩ fun v54 => ldH h46 ⟨h.size, 5, none⟩ fun v55 => ldH h46 ⟨h.size, 6, none⟩ fun v56 => cf 29 #[.agg #[v50, v51, v52, v53, v54, v55, v56]] h46 fun v57 h58 => asInt .i64 v57 fun n59 => ce h58 h.size 2 v48 (K (.bool (decide (n49 > n59))) h58))))))))
def F19 (K : Value → Heap → Prop) (h : Heap) (xa xb xc xd xe xf xg : Int) : Prop :=
  (g19 K h (Array.push h (.cells #[.int .i64 xa, .int .i64 xb, .int .i64 xc, .int .i64 xd, .int .i64 xe, .int .i64 xf, .int .i64 xg] 23)))
theorem call19 {K : Value → Heap → Prop} {h : Heap} {xa xb xc xd xe xf xg : Int} (H : F19 K h xa xb xc xd xe xf xg) : CallH Tryz.prog 19 #[(.agg #[(.int .i64 xa), (.int .i64 xb), (.int .i64 xc), (.int .i64 xd), (.int .i64 xe), (.int .i64 xf), (.int .i64 xg)])] h K :=
  callH_mk Tryz.func19 (by kernel_rfl) (Eq.mp (by kernel_rfl) H)
abbrev g29 (K : Value → Heap → Prop) (h H1 : Heap) : Prop :=
  (lI .i64 H1 ⟨h.size, 0, none⟩ fun n1 => ifB (n1 == 0) (K (.int .i64 0) H1) (K (.int .i64 2) H1))
def F29 (K : Value → Heap → Prop) (h : Heap) (xa xb xc xd xe xf xg : Int) : Prop :=
  (g29 K h (Array.push h (.cells #[.int .i64 xa, .int .i64 xb, .int .i64 xc, .int .i64 xd, .int .i64 xe, .int .i64 xf, .int .i64 xg] 23)))
theorem call29 {K : Value → Heap → Prop} {h : Heap} {xa xb xc xd xe xf xg : Int} (H : F29 K h xa xb xc xd xe xf xg) : CallH Tryz.prog 29 #[(.agg #[(.int .i64 xa), (.int .i64 xb), (.int .i64 xc), (.int .i64 xd), (.int .i64 xe), (.int .i64 xf), (.int .i64 xg)])] h K :=
  callH_mk Tryz.func29 (by kernel_rfl) (Eq.mp (by kernel_rfl) H)
end
section
abbrev okSpan (X Y Z : Nat → Int) (i : Nat) : Prop := Y i ≤ X i ∧ X i ≤ Z i
theorem within_plan {K : Value → Heap → Prop} {h : Heap} {a : Addr} {l c : Nat} {X Y Z : Nat → Int} (hl : l ≤ 1000)
    (H : ∀ i, i < l → cellAt h (a.add (i * 3)) = some (iv (X i)) ∧ cellAt h ((a.add (i * 3)).add 1) = some (iv (Y i)) ∧ cellAt h ((a.add (i * 3)).add 2) = some (iv (Z i)))
    (k1 : (∀ i, i < l → okSpan X Y Z i) → ∀ h', Old h.size h h' → K (.bool true) h') (k0 : (∃ i, i < l ∧ ¬ okSpan X Y Z i) → ∀ h', Old h.size h h' → K (.bool false) h') :
    CallH Tryz.prog 61 #[.slice (some a) l c] h K := by
  refine call61 ?_
  unfold F61 bd lI
  refine ⟨fun vs h' => ∃ i : Nat, vs = [.bool false, iv i] ∧ Old h.size h h' ∧ i ≤ l ∧ ∀ j, j < i → okSpan X Y Z j, fun vs _ => (match vs with | [_, .int _ n] => l - n.toNat | _ => 0), ⟨0, rfl, Old.refl _ _, Nat.zero_le _, fun j hj => by omega⟩, ?_⟩
  rintro v2 v3 g h5 ⟨i, e, ho, hi, hall⟩
  cases e
  simp only [asInt_int, asI_int]
  refine ifB_dec (fun hlt => ?_) (fun hge => ?_)
  · obtain ⟨e1, e2, e3⟩ := H i (by omega)
    refine ⟨by omega, hlt, ?_⟩
    simp only [asPtr_some, Int.toNat_natCast]
    refine ldH_mk (cell_stable _ _ ho e1) (ldH_mk (cell_stable _ _ ho e2) (ldH_mk (cell_stable _ _ ho e3) ?_))
    have p := pushed h5 #[.int .i64 0, .int .i64 0, .int .i64 0] 127
    generalize h5.push (.cells #[.int .i64 0, .int .i64 0, .int .i64 0] 127) = hp at *
    refine st3 (stN_full p.new rfl (by simp [oneC]) fun h14 w => ?_)
    have o14 : Old h.size h h14 := w.toOld (ho.trans (p.toOld.mono ho.1)) ho.1
    refine ⟨fun vs h' => vs = [.bool (decide (¬ okSpan X Y Z i))] ∧ h' = h14, ?_, ?_⟩
    · refine ldR w.new rfl ?_
      simp only [asInt_int]
      refine ldR w.new rfl ?_
      simp only [asInt_int]
      refine ifB_dec (fun h1 => ⟨?_, by trivial⟩) (fun h1 => ?_)
      · rw [decide_eq_true (by unfold okSpan; omega)]
      · refine ldR w.new rfl ?_
        simp only [asInt_int]
        refine ldR w.new rfl ?_
        simp only [asInt_int]
        refine ⟨?_, by trivial⟩
        congr 2; rw [decide_eq_decide]; unfold okSpan; omega
    · rintro v24 g25 h26 ⟨e, rfl⟩
      cases e
      simp only [asBool_bool]
      refine ifB_dec (fun h1 => k0 ⟨i, by omega, h1⟩ _ o14) (fun h1 => ?_)
      rw [nat_wrap1 (by omega)]
      refine ⟨⟨i + 1, rfl, o14, by omega, fun j hj => ?_⟩, ?_⟩
      · by_cases hji : j < i
        · exact hall j hji
        · rw [show j = i by omega]; exact Decidable.of_not_not h1
      · show l - ((i + 1 : Nat) : Int).toNat < l - (i : Int).toNat
        omega
  · exact k1 (fun j hj => hall j (by omega)) _ ho
structure Cf where
  a : Int
  t : Int
  n : Int
  l : Int
  b : Int
  p : Int
  s : Int
def Cf.sent (c : Cf) : Int := if c.a = 0 then 0 else 2
def Cf.slots (c : Cf) : Int := if c.a = 0 then 2 else 2 * c.l + 2
def Cf.width (c : Cf) : Int := if c.a = 0 then 3 else 5 + c.l
def Cf.links (c : Cf) : Int := 8 + c.t * c.slots
def Cf.nodes (c : Cf) : Int := c.links + c.n
def Cf.tree (c : Cf) : Int := c.nodes + c.n * c.width
def Cf.size (c : Cf) : Int := c.tree + (if c.a = 0 then 2 ^ c.l.toNat else 0)
structure Cf.Right (c : Cf) : Prop where
  a : 0 ≤ c.a ∧ c.a ≤ 2
  t : 1 ≤ c.t ∧ c.t ≤ 6
  n : 1 ≤ c.n ∧ c.n ≤ 64
  l : 1 ≤ c.l ∧ c.l ≤ 6
  b : 1 ≤ c.b ∧ c.b ≤ 16
  p : 1 ≤ c.p ∧ c.p ≤ 16
  s : 1 ≤ c.s ∧ c.s ≤ 64
  z : c.sent < c.n
abbrev Cf.vals (c : Cf) : Array Value := #[.int .i64 c.a, .int .i64 c.t, .int .i64 c.n, .int .i64 c.l, .int .i64 c.b, .int .i64 c.p, .int .i64 c.s]
abbrev Cf.plan (c : Cf) : Array Value := #[.int .i64 c.a, .int .i64 c.t, .int .i64 c.n, .int .i64 c.l, .int .i64 c.b, .int .i64 c.p, .int .i64 c.s, .int .i64 c.slots, .int .i64 c.width, .int .i64 c.sent, .int .i64 8, .int .i64 c.links, .int .i64 c.nodes, .int .i64 c.tree, .int .i64 c.size]
abbrev zeros15 : Array Value := #[.int .i64 0, .int .i64 0, .int .i64 0, .int .i64 0, .int .i64 0, .int .i64 0, .int .i64 0, .int .i64 0, .int .i64 0, .int .i64 0, .int .i64 0, .int .i64 0, .int .i64 0, .int .i64 0, .int .i64 0]
theorem new_plan {K : Value → Heap → Prop} {h : Heap} (c : Cf) (k1 : c.Right → ∀ h', Old h.size h h' → K (.tuple #[.agg c.plan, .int .i64 0]) h') (k0 : ¬ c.Right → ∀ h', Old h.size h h' → K (.tuple #[.agg zeros15, .int .i64 6]) h') :
    CallH Tryz.prog 30 #[.agg c.vals] h K := by
  refine call30 ?_
  unfold F30 g30 cf ce lI
  have p1 := pushed h c.vals 23
  rw [show h.push (.cells #[.int .i64 c.a, .int .i64 c.t, .int .i64 c.n, .int .i64 c.l, .int .i64 c.b, .int .i64 c.p, .int .i64 c.s] 23) = h.push (.cells c.vals 23) from rfl]
  generalize h.push (.cells c.vals 23) = h1 at *
  have p2 := pushed h1 zeros15 69
  rw [show h1.push (.cells #[.int .i64 0, .int .i64 0, .int .i64 0, .int .i64 0, .int .i64 0, .int .i64 0, .int .i64 0, .int .i64 0, .int .i64 0, .int .i64 0, .int .i64 0, .int .i64 0, .int .i64 0, .int .i64 0, .int .i64 0] 69) = h1.push (.cells zeros15 69) from rfl]
  generalize h1.push (.cells zeros15 69) = h2 at *
  have s1 := p1.size
  have s2 := p2.size
  have c2 : h2[h.size]? = some (.cells c.vals 23) := (p2.old _ (by omega)).trans p1.new
  have o2 : Old h.size h h2 := p1.toOld.trans (p2.toOld.mono (by omega))
  rw [s1]
  have n2 : h2[h.size + 1]? = some (.cells zeros15 69) := by rw [← s1]; exact p2.new
  iterate 7 (refine ldR c2 rfl ?_; simp only [asInt_int])
  have p3 := pushed h2 #[.int .i64 c.a, .int .i64 0, .int .i64 2, .int .i64 c.t, .int .i64 1, .int .i64 6, .int .i64 c.n, .int .i64 1, .int .i64 64, .int .i64 c.l, .int .i64 1, .int .i64 6, .int .i64 c.b, .int .i64 1, .int .i64 16, .int .i64 c.p, .int .i64 1, .int .i64 16, .int .i64 c.s, .int .i64 1, .int .i64 64] 127
  generalize h2.push (.cells #[.int .i64 c.a, .int .i64 0, .int .i64 2, .int .i64 c.t, .int .i64 1, .int .i64 6, .int .i64 c.n, .int .i64 1, .int .i64 64, .int .i64 c.l, .int .i64 1, .int .i64 6, .int .i64 c.b, .int .i64 1, .int .i64 16, .int .i64 c.p, .int .i64 1, .int .i64 16, .int .i64 c.s, .int .i64 1, .int .i64 64] 127) = h3 at *
  have o3 : Old h2.size h2 h3 := p3.toOld
  have c3 := (o3.2 _ (by omega)).trans c2
  have n3 := (o3.2 _ (by omega)).trans n2
  -- nothing there
  have nothing : ∀ (h' : Heap) (row : Array Value), Old h.size h h' → h'[h.size + 1]? = some (.cells row 69) → row.size = 15 → ¬ c.Right → ∀ (F : Heap → Prop), (∀ h'', Old h.size h h'' → h''[h.size + 1]? = some (.cells zeros15 69) → F h'') →
      stN h' ⟨h.size + 1, 0, none⟩ 0 zeros15.toList F := by
    intro h' row o hb hr hn F hF
    refine stN_full hb (by rw [hr]; rfl) (by simp [oneC]) fun h'' w => ?_
    exact hF _ (w.toOld o (by omega)) (by simpa using w.new)
  refine callV_fn (within_plan (X := fun i => [c.a, c.t, c.n, c.l, c.b, c.p, c.s].getD i 0) (Y := fun i => [0, 1, 1, 1, 1, 1, 1].getD i 0) (Z := fun i => [2, 6, 64, 6, 16, 16, 64].getD i 0) (by omega) ?_ (fun hall h15 o15 => ?_) (fun hex h15 o15 => ?_))
  · intro i hi
    simp only [add_lit]
    have : i = 0 ∨ i = 1 ∨ i = 2 ∨ i = 3 ∨ i = 4 ∨ i = 5 ∨ i = 6 := by omega
    rcases this with rfl | rfl | rfl | rfl | rfl | rfl | rfl <;> exact ⟨cellR p3.new rfl, cellR p3.new rfl, cellR p3.new rfl⟩
  · -- within
    have q0 : 0 ≤ c.a ∧ c.a ≤ 2 := hall 0 (by omega)
    have q1 : 1 ≤ c.t ∧ c.t ≤ 6 := hall 1 (by omega)
    have q2 : 1 ≤ c.n ∧ c.n ≤ 64 := hall 2 (by omega)
    have q3 : 1 ≤ c.l ∧ c.l ≤ 6 := hall 3 (by omega)
    have q4 : 1 ≤ c.b ∧ c.b ≤ 16 := hall 4 (by omega)
    have q5 : 1 ≤ c.p ∧ c.p ≤ 16 := hall 5 (by omega)
    have q6 : 1 ≤ c.s ∧ c.s ≤ 64 := hall 6 (by omega)
    have s3 := p3.size
    have c15 := (o15.2 _ (by omega)).trans c3
    have n15 := (o15.2 _ (by omega)).trans n3
    have ok15 : Old h.size h h15 := (o2.trans (o3.mono (by omega))).trans (o15.mono (by omega))
    have hs15 : h.size + 3 ≤ h15.size := by have := o15.1; omega
    simp only [asBool_bool, Bool.not_true, ifB_false]
    iterate 7 (refine ldR c15 rfl ?_)
    refine ldR c15 rfl ?_
    simp only [asInt_int]
    refine ldR c15 rfl ?_
    simp only [asInt_int]
    have p4 := pushed h15 zeros15 69
    rw [show h15.push (.cells #[.int .i64 0, .int .i64 0, .int .i64 0, .int .i64 0, .int .i64 0, .int .i64 0, .int .i64 0, .int .i64 0, .int .i64 0, .int .i64 0, .int .i64 0, .int .i64 0, .int .i64 0, .int .i64 0, .int .i64 0] 69) = h15.push (.cells zeros15 69) from rfl]
    generalize h15.push (.cells zeros15 69) = h16 at *
    refine st15 (stN_full p4.new rfl (by simp [oneC]) fun h72 w72 => ?_)
    have c72 := (w72.old h.size (by omega)).trans ((p4.old _ (by omega)).trans c15)
    have n72 := (w72.old (h.size + 1) (by omega)).trans ((p4.old _ (by omega)).trans n15)
    have o72 : Old h.size h h72 := w72.toOld (ok15.trans (p4.toOld.mono ok15.1)) ok15.1
    have e1 : IntKind.wrap .i64 (2 * c.l) = 2 * c.l := wrap64_id' (by omega) (by omega)
    have e2 : IntKind.wrap .i64 (2 * c.l + 2) = 2 * c.l + 2 := wrap64_id' (by omega) (by omega)
    have e3 : IntKind.wrap .i64 (5 + c.l) = 5 + c.l := wrap64_id' (by omega) (by omega)
    have w72' := w72.new
    simp only [e1, e2, e3] at w72'
    refine ⟨fun vs h' => vs = [iv (if c.a = 0 then 2 ^ c.l.toNat else 0)] ∧ Old h.size h h' ∧ h'.size = h72.size ∧ h'[h.size]? = some (.cells c.vals 23) ∧ h'[h.size + 1]? = some (.cells zeros15 69) ∧
      h'[h15.size]? = some (.cells #[.int .i64 c.a, .int .i64 c.t, .int .i64 c.n, .int .i64 c.l, .int .i64 c.b, .int .i64 c.p, .int .i64 c.s, .int .i64 c.slots, .int .i64 c.width, .int .i64 c.sent, .int .i64 0, .int .i64 0, .int .i64 0, .int .i64 0, .int .i64 0] 69), ?_, ?_⟩
    · refine ldR c72 rfl ?_
      simp only [asInt_int]
      refine ifB_mk (fun ha => ?_) (fun ha => ?_)
      · have ha : c.a = 0 := by simpa using ha
        refine ldR c72 rfl ?_
        simp only [asInt_int]
        refine ⟨by omega, stR w72' rfl trivial fun h78 w78 => ?_⟩
        refine ⟨cellR ((w78.old _ (by omega)).trans c72) rfl, stR w78.new rfl trivial fun h79 w79 => ?_⟩
        refine ⟨cellR ((w79.old _ (by omega)).trans ((w78.old _ (by omega)).trans c72)) rfl, stR w79.new rfl trivial fun h80 w80 => ?_⟩
        have w := (w78.trans w79).trans w80
        refine ⟨cellR ((w.old _ (by omega)).trans c72) rfl, ?_, w.toOld o72 ok15.1, w.size, (w.old _ (by omega)).trans c72, (w.old _ (by omega)).trans n72, ?_⟩
        · rw [if_pos ha]
          congr 2
          have : c.l.toNat ≤ 6 := by omega
          rw [Int.one_mul, show min c.l.toNat 64 = c.l.toNat by omega]
          have : ∀ k : Nat, k ≤ 6 → IntKind.wrap .i64 ((2 : Int) ^ k) = 2 ^ k := by decide
          exact this _ (by omega)
        · rw [w.new]
          simp only [Cf.slots, Cf.width, Cf.sent, if_pos ha]
          rfl
      · have ha : c.a ≠ 0 := by simpa using ha
        refine ⟨?_, o72, by trivial, c72, n72, ?_⟩
        · rw [if_neg ha]
        · rw [w72']
          simp only [Cf.slots, Cf.width, Cf.sent, if_neg ha]
    rintro v81 g82 h83 ⟨e, o83, s83, c83, n83, m83⟩
    cases e
    refine ldR c83 rfl ?_
    simp only [asInt_int]
    refine ldR m83 rfl ?_
    simp only [asInt_int]
    refine ifB_dec (fun hz => ?_) (fun hz => ?_)
    · have hn : ¬ c.Right := fun r => by have := r.z; omega
      refine st15 (nothing h83 zeros15 o83 n83 rfl hn _ fun h102 o102 n102 => ?_)
      iterate 15 (refine ldR n102 rfl ?_)
      exact k0 hn _ o102
    · have hr : c.Right := ⟨q0, q1, q2, q3, q4, q5, q6, by omega⟩
      have hslots : 2 ≤ c.slots ∧ c.slots ≤ 14 := by unfold Cf.slots; split <;> omega
      have hwidth : 3 ≤ c.width ∧ c.width ≤ 11 := by unfold Cf.width; split <;> omega
      have m1 : c.t * c.slots ≤ 6 * 14 := Int.mul_le_mul q1.2 hslots.2 (by omega) (by omega)
      have m2 : 0 ≤ c.t * c.slots := Int.mul_nonneg (by omega) (by omega)
      have m3 : c.n * c.width ≤ 64 * 11 := Int.mul_le_mul q2.2 hwidth.2 (by omega) (by omega)
      have m4 : 0 ≤ c.n * c.width := Int.mul_nonneg (by omega) (by omega)
      have m5 : ∀ k : Nat, k ≤ 6 → 0 ≤ (2 : Int) ^ k ∧ (2 : Int) ^ k ≤ 64 := by decide
      have m6 := m5 c.l.toNat (by omega)
      refine stR m83 rfl trivial fun h118 w118 => ?_
      have c118 := (w118.old h.size (by omega)).trans c83
      refine ldR w118.new rfl ?_
      simp only [asInt_int]
      refine ldR c118 rfl ?_
      simp only [asInt_int]
      refine ldR w118.new rfl ?_
      simp only [asInt_int]
      rw [wrap64_id' (n := c.t * c.slots) (by omega) (by omega), wrap64_id' (n := 8 + c.t * c.slots) (by omega) (by omega)]
      refine stR w118.new rfl trivial fun h125 w125 => ?_
      have c125 := (w125.old h.size (by omega)).trans c118
      refine ldR w125.new rfl ?_
      simp only [asInt_int]
      refine ldR c125 rfl ?_
      simp only [asInt_int]
      rw [wrap64_id' (n := 8 + c.t * c.slots + c.n) (by omega) (by omega)]
      refine stR w125.new rfl trivial fun h130 w130 => ?_
      have c130 := (w130.old h.size (by omega)).trans c125
      refine ldR w130.new rfl ?_
      simp only [asInt_int]
      refine ldR c130 rfl ?_
      simp only [asInt_int]
      refine ldR w130.new rfl ?_
      simp only [asInt_int]
      rw [wrap64_id' (n := c.n * c.width) (by omega) (by omega), wrap64_id' (n := 8 + c.t * c.slots + c.n + c.n * c.width) (by omega) (by omega)]
      refine stR w130.new rfl trivial fun h137 w137 => ?_
      refine ldR w137.new rfl ?_
      simp only [asInt_int]
      have m7 : 0 ≤ (if c.a = 0 then (2 : Int) ^ c.l.toNat else 0) ∧ (if c.a = 0 then (2 : Int) ^ c.l.toNat else 0) ≤ 64 := by split <;> omega
      rw [wrap64_id' (n := 8 + c.t * c.slots + c.n + c.n * c.width + (if c.a = 0 then (2 : Int) ^ c.l.toNat else 0)) (by omega) (by omega)]
      refine stR w137.new rfl trivial fun h141 w141 => ?_
      have w := (((w118.trans w125).trans w130).trans w137).trans w141
      have r141 : h141[h15.size]? = some (.cells c.plan 69) := by
        rw [w.new]; rfl
      have n141 := (w.old (h.size + 1) (by omega)).trans n83
      iterate 15 (refine ldR r141 rfl ?_)
      refine st15 (stN_full n141 rfl (by simp [oneC]) fun h171 w171 => ?_)
      iterate 15 (refine ldR w171.new rfl ?_)
      exact k1 hr _ (w171.toOld (w.toOld o83 (by omega)) (by omega))
  · -- not within
    have hn : ¬ c.Right := by
      intro r
      obtain ⟨i, hi, hx⟩ := hex
      have : i = 0 ∨ i = 1 ∨ i = 2 ∨ i = 3 ∨ i = 4 ∨ i = 5 ∨ i = 6 := by omega
      rcases this with rfl | rfl | rfl | rfl | rfl | rfl | rfl
      · exact hx r.a
      · exact hx r.t
      · exact hx r.n
      · exact hx r.l
      · exact hx r.b
      · exact hx r.p
      · exact hx r.s
    have s3 := p3.size
    have n15 := (o15.2 _ (by omega)).trans n3
    have ok15 : Old h.size h h15 := (o2.trans (o3.mono (by omega))).trans (o15.mono (by omega))
    simp only [asBool_bool, Bool.not_false, ifB_true]
    refine st15 (nothing h15 zeros15 ok15 n15 rfl hn _ fun h31 o31 n31 => ?_)
    iterate 15 (refine ldR n31 rfl ?_)
    exact k0 hn _ o31
end
section
open Go.ChangeShapes Go.WideShapes Go.ChangeAt Go.RowKit
end
section
abbrev Frag := Nat → Option Obj
def Hp := Frag → Prop
def Nd (_ : Obj) : Prop := ∀ _ : Unit, False → False
def Sub (σ : Frag) (h : Heap) : Prop := ∀ b o, σ b = some o → h[b]? = some o ∧ Nd o
theorem Sub.mk {σ : Frag} {h : Heap} (s : ∀ b o, σ b = some o → h[b]? = some o) (d : ∀ b o, σ b = some o → Nd o) : Sub σ h := fun b o e => ⟨s b o e, d b o e⟩
theorem Sub.at {σ : Frag} {h : Heap} (s : Sub σ h) (b : Nat) (o : Obj) (e : σ b = some o) : h[b]? = some o := (s b o e).1
theorem Sub.nd {σ : Frag} {h : Heap} (s : Sub σ h) (b : Nat) (o : Obj) (e : σ b = some o) : Nd o := (s b o e).2
def Sat (h : Heap) (P : Hp) : Prop := ∃ σ, Sub σ h ∧ P σ
def uni (σ τ : Frag) : Frag := fun b => (σ b).or (τ b)
def dis (σ τ : Frag) : Prop := ∀ b, σ b = none ∨ τ b = none
instance : Mul Hp := ⟨fun P Q ρ => ∃ σ τ, dis σ τ ∧ ρ = uni σ τ ∧ P σ ∧ Q τ⟩
def emp : Hp := fun σ => σ = fun _ => none
def ex {α : Type} (P : α → Hp) : Hp := fun σ => ∃ a, P a σ
def pr (p : Prop) (P : Hp) : Hp := fun σ => p ∧ P σ
def pt (b : Nat) (o : Obj) : Hp := fun σ => ∀ c, σ c = if c = b then some o else none
def lift (D : Nat → Prop) (F : Heap → Prop) : Hp := fun σ => (∀ b, D b ↔ σ b ≠ none) ∧ ∀ h, Sub σ h → F h
theorem dis_symm {σ τ : Frag} (d : dis σ τ) : dis τ σ := fun b => (d b).symm
theorem uni_comm {σ τ : Frag} (d : dis σ τ) : uni σ τ = uni τ σ := by
  funext b
  unfold uni
  rcases d b with e | e <;> rw [e] <;> simp
theorem uni_assoc (σ τ ρ : Frag) : uni (uni σ τ) ρ = uni σ (uni τ ρ) := by
  funext b; unfold uni; cases σ b <;> simp
theorem uni_none {σ τ : Frag} {b : Nat} : uni σ τ b = none ↔ σ b = none ∧ τ b = none := by unfold uni; cases σ b <;> simp
theorem star_comm (P Q : Hp) : P * Q = Q * P := by
  have key : ∀ (P Q : Hp) ρ, (P * Q) ρ → (Q * P) ρ := fun P Q ρ ⟨σ, τ, d, e, p, q⟩ => ⟨τ, σ, dis_symm d, e.trans (uni_comm d), q, p⟩
  funext ρ
  exact propext ⟨key P Q ρ, key Q P ρ⟩
theorem star_assoc (P Q R : Hp) : P * Q * R = P * (Q * R) := by
  funext ρ
  refine propext ⟨?_, ?_⟩
  · rintro ⟨_, ξ, d, rfl, ⟨σ, τ, d2, rfl, p, q⟩, r⟩
    refine ⟨σ, uni τ ξ, fun b => ?_, uni_assoc _ _ _, p, τ, ξ, fun b => ?_, rfl, q, r⟩
    · rcases d b with e | e
      · exact .inl (uni_none.1 e).1
      · rcases d2 b with e2 | e2
        · exact .inl e2
        · exact .inr (uni_none.2 ⟨e2, e⟩)
    · rcases d b with e | e
      · exact .inl (uni_none.1 e).2
      · exact .inr e
  · rintro ⟨σ, _, d, rfl, p, τ, ξ, d2, rfl, q, r⟩
    refine ⟨uni σ τ, ξ, fun b => ?_, (uni_assoc _ _ _).symm, ⟨σ, τ, fun b => ?_, rfl, p, q⟩, r⟩
    · rcases d b with e | e
      · rcases d2 b with e2 | e2
        · exact .inl (uni_none.2 ⟨e, e2⟩)
        · exact .inr e2
      · exact .inr (uni_none.1 e).2
    · exact (d b).imp id fun e => (uni_none.1 e).1
instance : Std.Associative (α := Hp) (· * ·) := ⟨star_assoc⟩
instance : Std.Commutative (α := Hp) (· * ·) := ⟨star_comm⟩
theorem Sat.ac {h : Heap} {P Q : Hp} (H : Sat h P) (e : P = Q) : Sat h Q := e ▸ H
theorem star_left (P Q R : Hp) : P * (Q * R) = Q * (P * R) := by rw [← star_assoc, star_comm P Q, star_assoc]
theorem rot3 (A B C R : Hp) : A * (B * (C * R)) = C * (A * (B * R)) := by rw [star_left B C, star_left A C]
theorem rot4 (A B C D R : Hp) : A * (B * (C * (D * R))) = D * (A * (B * (C * R))) := by rw [star_left C D, star_left B D, star_left A D]
theorem emp_star (P : Hp) : emp * P = P := by
  funext ρ
  refine propext ⟨?_, fun p => ⟨fun _ => none, ρ, fun b => .inl rfl, by funext b; simp [uni], rfl, p⟩⟩
  rintro ⟨_, τ, d, rfl, rfl, p⟩
  have : uni (fun _ => none) τ = τ := by funext b; simp [uni]
  rw [this]; exact p
theorem ex_star {α : Type} (P : α → Hp) (R : Hp) : ex P * R = ex fun a => P a * R := by
  funext ρ
  refine propext ⟨?_, ?_⟩
  · rintro ⟨σ, τ, d, e, ⟨a, p⟩, r⟩; exact ⟨a, σ, τ, d, e, p, r⟩
  · rintro ⟨a, σ, τ, d, e, p, r⟩; exact ⟨σ, τ, d, e, ⟨a, p⟩, r⟩
theorem pr_star (p : Prop) (P R : Hp) : pr p P * R = pr p (P * R) := by
  funext ρ
  refine propext ⟨?_, ?_⟩
  · rintro ⟨σ, τ, d, e, ⟨a, p⟩, r⟩; exact ⟨a, σ, τ, d, e, p, r⟩
  · rintro ⟨a, σ, τ, d, e, p, r⟩; exact ⟨σ, τ, d, e, ⟨a, p⟩, r⟩
theorem Sat.ex {h : Heap} {α : Type} {P : α → Hp} {R : Hp} : Sat h (Proofs.YtglgifgoojncpaaGreat.ex P * R) ↔ ∃ a, Sat h (P a * R) := by
  rw [ex_star]
  exact ⟨fun ⟨σ, s, a, p⟩ => ⟨a, σ, s, p⟩, fun ⟨a, σ, s, p⟩ => ⟨σ, s, a, p⟩⟩
theorem Sat.pr {h : Heap} {p : Prop} {P R : Hp} : Sat h (Proofs.YtglgifgoojncpaaGreat.pr p P * R) ↔ p ∧ Sat h (P * R) := by
  rw [pr_star]
  exact ⟨fun ⟨σ, s, a, p⟩ => ⟨a, σ, s, p⟩, fun ⟨a, σ, s, p⟩ => ⟨σ, s, a, p⟩⟩
theorem Sub.left {σ τ : Frag} {h : Heap} (s : Sub (uni σ τ) h) : Sub σ h := fun b o e => s b o (by unfold uni; rw [e]; rfl)
theorem Sub.right {σ τ : Frag} {h : Heap} (d : dis σ τ) (s : Sub (uni σ τ) h) : Sub τ h := fun b o e => s b o (by
  unfold uni
  rcases d b with x | x
  · rw [x]; simpa using e
  · rw [x] at e; cases e)
theorem Sub.uni {σ τ : Frag} {h : Heap} (s : Sub σ h) (t : Sub τ h) : Sub (Proofs.YtglgifgoojncpaaGreat.uni σ τ) h := fun b o e => by
  unfold Proofs.YtglgifgoojncpaaGreat.uni at e
  cases e2 : σ b with
  | none => rw [e2] at e; exact t b o (by simpa using e)
  | some o2 => rw [e2] at e; exact s b o (by rw [e2]; simpa using e)
theorem Sub.lt {σ : Frag} {h : Heap} (s : Sub σ h) {b : Nat} (e : σ b ≠ none) : b < h.size := by
  cases e2 : σ b with
  | none => exact absurd e2 e
  | some o => exact (Array.getElem?_eq_some_iff.1 (s.at b o e2)).1
theorem Sat.drop {h : Heap} {P R : Hp} (H : Sat h (P * R)) : Sat h R := by
  obtain ⟨_, s, σ, τ, d, rfl, p, r⟩ := H
  exact ⟨τ, s.right d, r⟩
theorem Sat.mono {h : Heap} {P Q R : Hp} (H : Sat h (P * R)) (f : ∀ σ, P σ → Q σ) : Sat h (Q * R) := by
  obtain ⟨_, s, σ, τ, d, rfl, p, r⟩ := H
  exact ⟨_, s, σ, τ, d, rfl, f σ p, r⟩
theorem Sat.mono2 {h : Heap} {P Q R : Hp} (H : Sat h (P * R)) (f : ∀ σ, R σ → Q σ) : Sat h (P * Q) := by
  obtain ⟨_, s, σ, τ, d, rfl, p, r⟩ := H
  exact ⟨_, s, σ, τ, d, rfl, p, f τ r⟩
theorem Sat.drop2 {h : Heap} {P Q R : Hp} (H : Sat h (P * (Q * R))) : Sat h (P * R) := by
  rw [star_left] at H; exact H.drop
theorem Sat.lt {h : Heap} {b : Nat} {o : Obj} {R : Hp} (H : Sat h (pt b o * R)) : b < h.size := by
  obtain ⟨_, s, σ, τ, d, rfl, p, r⟩ := H
  exact s.left.lt (by rw [p b]; simp)
theorem Sat.at {h : Heap} {b : Nat} {o : Obj} {R : Hp} (H : Sat h (pt b o * R)) : h[b]? = some o := by
  obtain ⟨_, s, σ, τ, d, rfl, p, r⟩ := H
  exact s.left.at b o (by rw [p b]; simp)
theorem Sat.at2 {h : Heap} {b : Nat} {o : Obj} {P R : Hp} (H : Sat h (P * (pt b o * R))) : h[b]? = some o := Sat.at H.drop
theorem Sat.at3 {h : Heap} {b : Nat} {o : Obj} {P Q R : Hp} (H : Sat h (P * (Q * (pt b o * R)))) : h[b]? = some o := Sat.at H.drop.drop
theorem Sat.ld {h : Heap} {b i : Nat} {row : List Value} {t : TypeId} {R : Hp} {v : Value} {K : Value → Prop} (H : Sat h (pt b (.cells row.toArray t) * R)) (e : row[i]? = some v) (k : K v) : ldH h ⟨b, i, none⟩ K := ldR H.at e k
theorem Sat.old {h h' : Heap} {P : Hp} (H : Sat h P) (o : Old h.size h h') : Sat h' P := by
  obtain ⟨σ, s, p⟩ := H
  exact ⟨σ, Sub.mk (fun b x e => (o.2 b (s.lt (by rw [e]; simp))).trans (s.at b x e)) s.nd, p⟩
theorem Sat.push {h : Heap} {R : Hp} (H : Sat h R) (o : Obj) (ho : Nd o := by intro x e; cases e) : Sat (h.push o) (pt h.size o * R) := by
  obtain ⟨τ, s, r⟩ := H
  refine ⟨uni (fun c => if c = h.size then some o else none) τ, ?_, _, τ, fun b => ?_, rfl, fun c => rfl, r⟩
  · refine Sub.uni (fun b x e => ?_) (Sub.mk (fun b x e => (push_old _ _ _ (s.lt (by rw [e]; simp))).trans (s.at b x e)) s.nd)
    split at e
    · rename_i hb; subst hb; cases e; exact ⟨push_new _ _, ho⟩
    · cases e
  · by_cases hb : b = h.size
    · subst hb
      right
      apply Decidable.byContradiction
      intro hn
      exact absurd (s.lt hn) (Nat.lt_irrefl _)
    · left; rw [if_neg hb]
theorem Sat.wr {h h' : Heap} {b : Nat} {o o' : Obj} {R : Hp} (H : Sat h (pt b o * R)) (new : h'[b]? = some o') (old : ∀ c, c ≠ b → h'[c]? = h[c]?) (ho : Nd o' := by intro x e; cases e) : Sat h' (pt b o' * R) := by
  obtain ⟨_, s, σ, τ, d, rfl, p, r⟩ := H
  refine ⟨uni (fun c => if c = b then some o' else none) τ, ?_, _, τ, fun c => ?_, rfl, fun c => rfl, r⟩
  · refine Sub.uni (fun c x e => ?_) (Sub.mk (fun c x e => (old c fun hc => ?_).trans ((s.right d).at c x e)) (s.right d).nd)
    · split at e
      · rename_i hb; subst hb; cases e; exact ⟨new, ho⟩
      · cases e
    · subst hc
      rcases d c with h1 | h1
      · rw [p c] at h1; simp at h1
      · rw [h1] at e; cases e
  · by_cases hc : c = b
    · subst hc
      rcases d c with h1 | h1
      · rw [p c] at h1; simp at h1
      · exact .inr h1
    · left; rw [if_neg hc]
theorem Sat.st {h : Heap} {b i : Nat} {row : List Value} {t : TypeId} {R : Hp} {v : Value} {K : Heap → Prop} (H : Sat h (pt b (.cells row.toArray t) * R)) (hi : Nat.ble (i + 1) row.length = true) (ho : oneC v True)
    (k : ∀ h', Sat h' (pt b (.cells (row.set i v).toArray t) * R) → K h') : stH h ⟨b, i, none⟩ v K :=
  stR H.at hi ho fun h' w => k h' (H.wr w.new w.old)
theorem Sat.opn {h : Heap} {D : Nat → Prop} {F : Heap → Prop} {R : Hp} (H : Sat h (lift D F * R)) : F h ∧ (∀ b, D b → b < h.size) ∧
    ∀ (h' : Heap) (D' : Nat → Prop) (F' : Heap → Prop), Fr D h h' → (∀ b, D' b → (D b ∨ h.size ≤ b) ∧ b < h'.size) → (∀ b o, D' b → h'[b]? = some o → Nd o) → (∀ h'', (∀ b, D' b → h''[b]? = h'[b]?) → F' h'') → Sat h' (lift D' F' * R) := by
  obtain ⟨_, s, σ, τ, d, rfl, ⟨p1, p2⟩, r⟩ := H
  refine ⟨p2 h s.left, fun b hb => s.left.lt ((p1 b).1 hb), fun h' D' F' hf hD hN hF => ?_⟩
  classical
  have hsub : Sub (fun b => if D' b then h'[b]? else none) h' := fun b o e => by
    have e : (if D' b then h'[b]? else none) = some o := e
    split at e
    · rename_i hb; exact ⟨e, hN b o hb e⟩
    · cases e
  refine ⟨uni (fun b => if D' b then h'[b]? else none) τ, Sub.uni hsub (Sub.mk (fun b o e => ?_) (s.right d).nd), _, τ, fun b => ?_, rfl, ⟨fun b => ?_, fun h'' s'' => hF h'' fun b hb => ?_⟩, r⟩
  · have hs := (s.right d).at b o e
    refine (hf.2 b (s.right d |>.lt (by rw [e]; simp)) fun hb => ?_).trans hs
    rcases d b with h1 | h1
    · exact (p1 b).1 hb h1
    · rw [h1] at e; cases e
  · by_cases hb : D' b
    · right
      rcases (hD b hb).1 with h1 | h1
      · exact (d b).resolve_left ((p1 b).1 h1)
      · apply Decidable.byContradiction
        intro hn
        have := (s.right d).lt hn
        omega
    · left; rw [if_neg hb]
  · constructor
    · intro hb
      show (if D' b then h'[b]? else none) ≠ none
      rw [if_pos hb]
      have := (hD b hb).2
      simp [this]
    · intro hn
      by_cases hb : D' b
      · exact hb
      · have hn : (if D' b then h'[b]? else none) ≠ none := hn
        rw [if_neg hb] at hn; exact absurd rfl hn
  · have hlt := (hD b hb).2
    have e : h'[b]? = some h'[b] := by simp [hlt]
    rw [e]
    exact s''.at b _ (by show (if D' b then h'[b]? else none) = _; rw [if_pos hb, e])
theorem Sat.see {h : Heap} {D : Nat → Prop} {F : Heap → Prop} {R : Hp} (H : Sat h (lift D F * R)) : F h := H.opn.1
theorem lift_mono {D : Nat → Prop} {F G : Heap → Prop} (f : ∀ h, F h → G h) : ∀ σ, lift D F σ → lift D G σ := fun σ ⟨a, b⟩ => ⟨a, fun h s => f h (b h s)⟩
theorem Sat.mk_new {h h' : Heap} {D : Nat → Prop} {F : Heap → Prop} {R : Hp} (H : Sat h R) (o : Old h.size h h') (hD : ∀ b, D b → h.size ≤ b ∧ b < h'.size) (hN : ∀ b o, D b → h'[b]? = some o → Nd o) (hF : ∀ h'', (∀ b, D b → h''[b]? = h'[b]?) → F h'') : Sat h' (lift D F * R) := by
  have H0 : Sat h (lift (fun _ => False) (fun _ => True) * R) := by
    rw [← emp_star R] at H
    exact H.mono fun σ e => ⟨fun b => ⟨False.elim, fun hn => hn (by rw [e])⟩, fun _ _ => trivial⟩
  exact H0.opn.2.2 h' D F (o.fr _) (fun b hb => ⟨.inr (hD b hb).1, (hD b hb).2⟩) hN hF
def ownS (elem : TypeId) (sz : Nat) (a : Option Addr) (l c : Nat) (xs : List Value) : Hp := lift (blk a) fun h => Own h elem sz a l c xs
theorem Own.congr {h h' : Heap} {elem : TypeId} {sz : Nat} {a : Option Addr} {l c : Nat} {xs : List Value} (H : Own h elem sz a l c xs) (e : ∀ b, blk a b → h'[b]? = h[b]?) : Own h' elem sz a l c xs := H.keep fun ad ea => e _ ⟨ad, ea, rfl⟩
theorem Own.nd {h : Heap} {elem : TypeId} {sz : Nat} {a : Option Addr} {l c : Nat} {xs : List Value} (H : Own h elem sz a l c xs) : ∀ b o, blk a b → h[b]? = some o → Nd o := by
  rintro b o ⟨ad, e, rfl⟩ hb x hx
  rcases H.2.2 with ⟨e2, _⟩ | ⟨b', row, e2, hb', _⟩
  · rw [e] at e2; cases e2
  · rw [e] at e2; cases e2
    rw [hb'] at hb
    cases hb
    cases hx
theorem Sat.own {h : Heap} {elem : TypeId} {sz : Nat} {a : Option Addr} {l c : Nat} {xs : List Value} {R : Hp} (H : Sat h (ownS elem sz a l c xs * R)) : Own h elem sz a l c xs := H.see
theorem Sat.own_new {h : Heap} {R : Hp} (H : Sat h R) (elem : TypeId) (sz : Nat) : Sat h (ownS elem sz none 0 0 [] * R) :=
  H.mk_new (Old.refl _ _) (fun b hb => by obtain ⟨_, e, _⟩ := hb; cases e) (fun b o hb => by obtain ⟨_, e, _⟩ := hb; cases e) fun h'' _ => Own.nil _ _ _
theorem Sat.app {P : Program} {t elem : TypeId} {z : Value} {h : Heap} {a a2 : Option Addr} {l c n n2 : Nat} {xs ys : List Value} {K : Value → Heap → Prop} {R : Hp}
    (hu : und P t = .slice elem) (hth : there P elem = true) (hz : zer P elem = some z) (hzs : z.cells.size = siz P elem)
    (H : Sat h (ownS elem (siz P elem) a l c xs * R)) (hs : Sees h a2 ys) (hn : ys.length = n * siz P elem) (hone : ∀ y ∈ ys, oneC y True) (hb0 : 0 < byt P elem) (hb : (2 * (l + n) + 512) * byt P elem ≤ 2 ^ 48)
    (k : ∀ a' c' h', Sat h' (ownS elem (siz P elem) a' (l + n) c' (xs ++ ys) * R) → K (.slice a' (l + n) c') h') :
    appH P #[t, t] t #[.slice a l c, .slice a2 n n2] h K := by
  obtain ⟨ho, hlt, re⟩ := H.opn
  refine appH_own hu hth hz hzs ho hs hn hone hb0 hb fun a' c' h' o' hsz old ha => ?_
  refine k a' c' h' (re h' (blk a') _ ⟨hsz, fun b hb hn => old b hb fun ad ea e => hn ⟨ad, ea, e⟩⟩ (fun b hb => ?_) o'.nd fun h'' e => o'.congr e)
  refine ⟨?_, o'.lt2 hb⟩
  rcases ha with ha | ha
  · rw [ha] at hb; exact .inl hb
  · obtain ⟨ad, e, eb⟩ := hb
    rw [ha] at e; cases e
    exact .inr (by rw [← eb]; exact Nat.le_refl _)
theorem Sat.app2 {P : Program} {t elem : TypeId} {z : Value} {h : Heap} {a a2 : Option Addr} {l c n n2 : Nat} {xs ys : List Value} {K : Value → Heap → Prop} {R : Hp}
    (hu : und P t = .slice elem) (hth : there P elem = true) (hz : zer P elem = some z) (hzs : z.cells.size = siz P elem)
    (H : Sat h (ownS elem (siz P elem) a l c xs * R)) (hs : Sees h a2 ys) (hn : ys.length = n * siz P elem) (hone : ∀ y ∈ ys, oneC y True) (hb0 : 0 < byt P elem) (hb : (2 * (l + n) + 512) * byt P elem ≤ 2 ^ 48)
    (k1 : ∀ c' h', Sat h' (ownS elem (siz P elem) a (l + n) c' (xs ++ ys) * R) → K (.slice a (l + n) c') h')
    (k2 : ∀ b c' h', ¬ blk a b → Sat h' (ownS elem (siz P elem) (some ⟨b, 0, none⟩) (l + n) c' (xs ++ ys) * (ownS elem (siz P elem) a l c xs * R)) → K (.slice (some ⟨b, 0, none⟩) (l + n) c') h') :
    appH P #[t, t] t #[.slice a l c, .slice a2 n n2] h K := by
  obtain ⟨ho, hlt, re⟩ := H.opn
  refine appH_own2 hu hth hz hzs ho hs hn hone hb0 hb fun a' c' h' o' hsz old ha => ?_
  rcases ha with ha | ⟨ha, hold⟩
  · subst ha
    exact k1 c' h' (re h' (blk a') _ ⟨hsz, fun b hb hn => old b hb fun ad ea e => hn ⟨ad, ea, e⟩⟩ (fun b hb => ⟨.inl hb, o'.lt2 hb⟩) o'.nd fun h'' e => o'.congr e)
  · subst ha
    refine k2 h.size c' h' (fun hb => absurd (hlt _ hb) (Nat.lt_irrefl _)) (H.mk_new hold (fun b hb => ?_) o'.nd fun h'' e => o'.congr e)
    refine ⟨?_, o'.lt2 hb⟩
    obtain ⟨ad, e, eb⟩ := hb
    cases e
    rw [← eb]; exact Nat.le_refl _
theorem Sat.collect {h h' : Heap} {N : Nat} {o o' : Obj} {R : Hp} {elem : TypeId} {sz : Nat} {a : Option Addr} {l c : Nat} {xs : List Value} (H : Sat h (pt N o * R)) (hs : h.size ≤ h'.size) (old : ∀ b, b < h.size → b ≠ N → h'[b]? = h[b]?) (new : h'[N]? = some o') (ow : Own h' elem sz a l c xs) (hb : ∀ b, blk a b → h.size ≤ b)
    (ho : Nd o' := by intro x e; cases e) : Sat h' (ownS elem sz a l c xs * (pt N o' * R)) := by
  have hlt := H.lt
  have H1 : Sat (h.setIfInBounds N o') (pt N o' * R) := H.wr (set_new hlt) (fun c hc => set_old hc) ho
  have o1 : Old (h.setIfInBounds N o').size (h.setIfInBounds N o') h' := ⟨by simpa using hs, fun b hb => by
    by_cases e : b = N
    · subst e; rw [new, set_new hlt]
    · rw [set_old e]; exact old b (by simpa using hb) e⟩
  exact H1.mk_new o1 (fun b hb' => ⟨by simpa using hb b hb', ow.lt2 hb'⟩) ow.nd fun h'' e => ow.congr e
theorem appH_gen {P : Program} {t elem : TypeId} {z : Value} {h : Heap} {a a2 : Option Addr} {l c n n2 : Nat} {xs ys : List Value} {K : Value → Heap → Prop}
    (hu : und P t = .slice elem) (hth : there P elem = true) (hz : zer P elem = some z) (hzs : z.cells.size = siz P elem)
    (ho : Sees h a xs) (hl : xs.length = l * siz P elem) (hlc : l ≤ c) (hs : Sees h a2 ys) (hn : ys.length = n * siz P elem) (hone : ∀ y ∈ ys, oneC y True) (hb0 : 0 < byt P elem) (hb : (2 * (l + n) + 512) * byt P elem ≤ 2 ^ 48)
    (k1 : l + n ≤ c → ∀ ad, a = some ad → stN h (ad.add (l * siz P elem)) 0 ys fun h' => K (.slice a (l + n) c) h')
    (k0 : l + n ≤ c → a = none → K (.slice none (l + n) c) h)
    (k2 : ∀ c' h', Own h' elem (siz P elem) (some ⟨h.size, 0, none⟩) (l + n) c' (xs ++ ys) → Old h.size h h' → K (.slice (some ⟨h.size, 0, none⟩) (l + n) c') h') :
    appH P #[t, t] t #[.slice a l c, .slice a2 n n2] h K := by
  have hu' := und_some hu (by simp)
  obtain ⟨info, hinfo⟩ := there_some hth
  have hbyt : info.bytes = byt P elem := by unfold byt; rw [hinfo]
  have first : ∀ (F : Array Value → Heap → Prop), F ys.toArray h → hp P (Builtin.firstCells (siz P elem) n (.slice a2 n n2)) F h := by
    intro F k
    cases a2 with
    | none =>
      have : ys = [] := by
        cases ys with
        | nil => rfl
        | cons y ys => obtain ⟨ad, e, _⟩ := hs 0 y rfl; cases e
      subst this; exact k
    | some ad =>
      show hp P (loadCells ad (n * siz P elem)) F h
      refine hp_loadCellsFrom ad _ 0 [] F ?_
      rw [← hn]
      refine ldN_sees ys 0 [] _ (fun j v hj => ?_) (by simpa using k)
      obtain ⟨ad', e, hc⟩ := hs j v hj
      cases e; rwa [Nat.zero_add]
  unfold appH Builtin.append_
  simp only [List.getElem?_toArray, List.getElem?_cons_zero, List.getElem?_cons_succ, hp_bind, hp_pure, hp_underlying hu', hp_sizeOf hth, Bool.false_eq_true, if_false]
  show hp P (Builtin.lenOf _) _ h
  simp only [Builtin.lenOf, hp_pure]
  rw [hp_ite]
  split
  · rename_i hcap
    simp only [hp_bind]
    show hp P (if (!false) = true then _ else _) _ h
    refine first _ ?_
    cases a with
    | none =>
      have key := k0 hcap rfl
      try simp only [hp_bind, hp_pure]
      exact key
    | some ad =>
      simp only [hp_bind]
      refine hp_storeCells _ _ h 0 _ ?_
      try simp only [hp_pure]
      exact k1 hcap ad rfl
  · rename_i hcap
    simp only [hp_bind, hp_pure]
    have hbound : ¬ Builtin.nextslicecap (l + n) c * info.bytes > 2 ^ 48 := by
      rw [hbyt]
      have := Nat.le_trans (Nat.mul_le_mul_right (byt P elem) (nextcap_le (l + n) c (by omega))) hb
      omega
    simp only [hp_bind, hp_pure, hp_typeInfo hinfo, hp_ite]
    rw [if_neg (by rw [hbyt]; intro x; rcases x.2 with y | y <;> first | exact y | omega), if_neg hbound]
    show ∀ tp, _
    intro tp
    rw [if_neg (by simp [Question.forced])]
    obtain ⟨cap, hcp⟩ : ∃ cap, cap = (Question.appendCap (l + n) c elem).cut tp := ⟨_, rfl⟩
    have hcap2 : l + n ≤ cap := by rw [hcp]; simp [Question.cut]
    rw [← hcp]
    rw [show (Sem.pure cap : Sem Nat) = pure cap from rfl]
    simp only [hp_bind, hp_pure, hp_typeInfo hinfo, hp_askRoom]
    have old : ∀ (F : Array Value → Heap → Prop), F xs.toArray h → hp P (Builtin.firstCells (siz P elem) l (.slice a l c)) F h := by
      intro F k
      cases a with
      | none =>
        have : xs = [] := by
          cases xs with
          | nil => rfl
          | cons y ys => obtain ⟨ad, e, _⟩ := ho 0 y rfl; cases e
        subst this; exact k
      | some ad =>
        show hp P (loadCells ad (l * siz P elem)) F h
        refine hp_loadCellsFrom ad _ 0 [] F ?_
        rw [← hl]
        refine ldN_sees xs 0 [] _ (fun j v hj => ?_) (by simpa using k)
        obtain ⟨ad', e, hc⟩ := ho j v hj
        cases e; rwa [Nat.zero_add]
    refine old _ ?_
    rw [hp_bind, if_pos (show (!false) = true from rfl)]
    refine first _ ?_
    simp only [hp_bind]
    simp only [hp_zeroValue hz]
    show K (.slice (some ⟨h.size, 0, none⟩) (l + n) cap) (h.push _)
    have hzc : (Builtin.zeroCells z.cells (cap - (l + n))).size = (cap - (l + n)) * siz P elem := by rw [zeroCells_size, hzs]
    refine k2 cap _ ⟨by simp [hl, hn, Nat.add_mul], hcap2, .inr ⟨h.size, _, rfl, push_new _ _, ?_, ?_⟩⟩ ⟨by simp, fun b hb' => push_old _ _ _ hb'⟩
    · simp only [Array.size_append, hzc, List.size_toArray, hl, hn, ← Nat.add_mul]
      congr 1; omega
    · simp only [Array.toList_append, List.toList_toArray]
      rw [List.take_left' (by simp [hl, hn, Nat.add_mul])]
def OwnF (h : Heap) (a : Option Addr) (l c : Nat) (xs : List Int) : Prop :=
  xs.length = l ∧ l ≤ c ∧ ((a = none ∧ c = 0) ∨ ∃ b o row, a = some ⟨b, o, none⟩ ∧ h[b]? = some (.cells row 3) ∧ o + c ≤ row.size ∧ (row.toList.drop o).take l = xs.map iv)
theorem OwnF.of {h : Heap} {a : Option Addr} {l c : Nat} {xs : List Int} (H : OwnI h a l c xs) : OwnF h a l c xs := by
  obtain ⟨h1, h2, h3⟩ := H
  refine ⟨by simpa using h1, h2, h3.imp id ?_⟩
  rintro ⟨b, row, e, hb, hs, ht⟩
  exact ⟨b, 0, row, e, hb, by omega, by simpa using ht⟩
theorem OwnF.congr {h h' : Heap} {a : Option Addr} {l c : Nat} {xs : List Int} (H : OwnF h a l c xs) (e : ∀ b, blk a b → h'[b]? = h[b]?) : OwnF h' a l c xs := by
  obtain ⟨h1, h2, h3⟩ := H
  refine ⟨h1, h2, h3.imp id ?_⟩
  rintro ⟨b, o, row, ea, hb, r⟩
  exact ⟨b, o, row, ea, (e b ⟨_, ea, rfl⟩).trans hb, r⟩
theorem OwnF.lt2 {h : Heap} {a : Option Addr} {l c : Nat} {xs : List Int} (H : OwnF h a l c xs) {b : Nat} (hb : blk a b) : b < h.size := by
  obtain ⟨ad, e, rfl⟩ := hb
  rcases H.2.2 with ⟨e2, _⟩ | ⟨b', o, row, e2, hb', _⟩
  · rw [e] at e2; cases e2
  · rw [e] at e2; cases e2; exact (Array.getElem?_eq_some_iff.1 hb').1
theorem OwnF.nd {h : Heap} {a : Option Addr} {l c : Nat} {xs : List Int} (H : OwnF h a l c xs) : ∀ b o, blk a b → h[b]? = some o → Nd o := by
  rintro b o ⟨ad, e, rfl⟩ hb x hx
  rcases H.2.2 with ⟨e2, _⟩ | ⟨b', o', row, e2, hb', _⟩
  · rw [e] at e2; cases e2
  · rw [e] at e2; cases e2
    rw [hb'] at hb
    cases hb
    cases hx
theorem OwnF.ri {h : Heap} {a : Option Addr} {l c : Nat} {xs : List Int} (H : OwnF h a l c xs) : RI h a l c xs := by
  obtain ⟨h1, h2, h3⟩ := H
  refine ⟨fun i v hi => ?_, h1, h2⟩
  have hlt : i < xs.length := by have := (List.getElem?_eq_some_iff.1 hi).1; simpa using this
  rcases h3 with ⟨_, hc⟩ | ⟨b, o, row, e, hb, hs, ht⟩
  · omega
  · refine ⟨_, e, ?_⟩
    rw [add_lit, cellAt_of hb, ← Array.getElem?_toList]
    rw [← ht, List.getElem?_take] at hi
    split at hi
    · rw [List.getElem?_drop] at hi; exact hi
    · cases hi
theorem OwnF.tail {h : Heap} {a : Option Addr} {l c : Nat} {x : Int} {xs : List Int} (H : OwnF h a l c (x :: xs)) : OwnF h (subA a 1 c 1) (l - 1) (c - 1) xs ∧ ∀ b, blk (subA a 1 c 1) b → blk a b := by
  obtain ⟨h1, h2, h3⟩ := H
  simp only [List.length_cons] at h1
  rcases h3 with ⟨_, hc⟩ | ⟨b, o, row, e, hb, hs, ht⟩
  · omega
  · subst e
    unfold subA
    split
    · rename_i hc
      have e0 : l - 1 = 0 := by have := h2; omega
      have ex : xs = [] := List.length_eq_zero_iff.1 (by omega)
      refine ⟨⟨by omega, by omega, .inr ⟨b, o, row, rfl, hb, by omega, ?_⟩⟩, fun b hb => hb⟩
      rw [e0, ex]; rfl
    · refine ⟨⟨by omega, by omega, .inr ⟨b, o + 1, row, by rw [Option.map_some, add_lit], hb, by omega, ?_⟩⟩, ?_⟩
      · have : l = (l - 1) + 1 := by omega
        rw [this] at ht
        have e2 : (row.toList.drop o).drop 1 = row.toList.drop (o + 1) := by rw [List.drop_drop]
        have e3 := congrArg (List.drop 1) ht
        rw [List.drop_take, e2] at e3
        simpa using e3
      · rintro b' ⟨ad, e, rfl⟩
        rw [Option.map_some, add_lit] at e
        cases e
        exact ⟨_, rfl, rfl⟩
def ownF (a : Option Addr) (l c : Nat) (xs : List Int) : Hp := lift (blk a) fun h => OwnF h a l c xs
theorem Sat.ownf {h : Heap} {a : Option Addr} {l c : Nat} {xs : List Int} {R : Hp} (H : Sat h (ownF a l c xs * R)) : OwnF h a l c xs := H.see
theorem Sat.toF {h : Heap} {a : Option Addr} {l c : Nat} {xs : List Int} {R : Hp} (H : Sat h (ownS 3 1 a l c (xs.map iv) * R)) : Sat h (ownF a l c xs * R) := H.mono (lift_mono fun _ h => OwnF.of h)
def NdC (o : Obj) : Prop := ∀ x, o ≠ .deferred x
theorem NdC.cells {row : Array Value} {t : TypeId} : NdC (.cells row t) := fun x e => by cases e
def NdA (P : Hp) : Prop := ∀ σ h, Sub σ h → P σ → ∀ b o, σ b = some o → NdC o
theorem NdA.star {P Q : Hp} (hP : NdA P) (hQ : NdA Q) : NdA (P * Q) := by
  rintro σ h s ⟨σ1, σ2, d, rfl, p, q⟩ b o e
  have e' : (σ1 b).or (σ2 b) = some o := e
  cases h1 : σ1 b with
  | some x => rw [h1] at e'; cases e'; exact hP _ _ s.left p b _ h1
  | none => rw [h1] at e'; exact hQ _ _ (s.right d) q b _ e'
theorem NdA.ex {α : Type} {P : α → Hp} (h : ∀ a, NdA (P a)) : NdA (ex P) := by
  rintro σ hh s ⟨a, p⟩
  exact h a σ hh s p
theorem NdA.pr {p : Prop} {P : Hp} (h : NdA P) : NdA (pr p P) := fun σ hh s q => h σ hh s q.2
theorem NdA.pt {b : Nat} {row : Array Value} {t : TypeId} : NdA (pt b (.cells row t)) := by
  intro σ h s p c o e
  have p := p c
  rw [e] at p
  split at p
  · cases p; exact NdC.cells
  · cases p
theorem NdA.lift {D : Nat → Prop} {F : Heap → Prop} (hF : ∀ h, F h → ∀ b o, D b → h[b]? = some o → NdC o) : NdA (lift D F) := by
  rintro σ h s ⟨p, q⟩ b o e
  exact hF h (q h s) b o ((p b).2 (by rw [e]; simp)) (s.at b o e)
theorem NdA.own {elem : TypeId} {sz : Nat} {a : Option Addr} {l c : Nat} {xs : List Value} : NdA (ownS elem sz a l c xs) := by
  refine NdA.lift ?_
  rintro h H b o ⟨ad, e, rfl⟩ hb
  rcases H.2.2 with ⟨e2, _⟩ | ⟨b', row, e2, hb', _⟩
  · rw [e] at e2; cases e2
  · rw [e] at e2; cases e2
    rw [hb'] at hb
    cases hb
    exact NdC.cells
theorem NdA.ownf {a : Option Addr} {l c : Nat} {xs : List Int} : NdA (ownF a l c xs) := by
  refine NdA.lift ?_
  rintro h H b o ⟨ad, e, rfl⟩ hb
  rcases H.2.2 with ⟨e2, _⟩ | ⟨b', o', row, e2, hb', _⟩
  · rw [e] at e2; cases e2
  · rw [e] at e2; cases e2
    rw [hb'] at hb
    cases hb
    exact NdC.cells
def Bnd (N : Nat) (P : Hp) : Prop := ∀ σ, P σ → ∀ b, σ b ≠ none → b < N
theorem Sat.freeze {h : Heap} {P R : Hp} (H : Sat h (P * R)) : ∃ R' : Hp, (∀ σ, R' σ → R σ) ∧ Bnd h.size R' ∧ Sat h (P * R') := by
  obtain ⟨_, s, σ, τ, d, rfl, p, q⟩ := H
  refine ⟨fun ρ => ρ = τ, fun ρ e => by rw [e]; exact q, fun ρ e b hb => ?_, ⟨_, s, σ, τ, d, rfl, p, rfl⟩⟩
  rw [e] at hb
  exact (s.right d).lt hb
theorem Sat.sameD {N : Nat} {h h' : Heap} {P R : Hp} (H : Sat h (P * R)) (hP : NdA P) (hR : Bnd N R) (o : SameD N h h') : Sat h' (P * R) := by
  obtain ⟨_, s, σ, τ, d, rfl, p, q⟩ := H
  refine ⟨_, Sub.mk (fun b x e => (o.2 b ?_).trans (s.at b x e)) s.nd, σ, τ, d, rfl, p, q⟩
  cases h1 : σ b with
  | some y =>
    refine .inr fun z e2 => ?_
    have h2 := s.left.at b y h1
    rw [e2] at h2
    cases h2
    exact hP _ _ s.left p b _ h1 z rfl
  | none =>
    refine .inl (hR _ q b fun h2 => ?_)
    have e' : (σ b).or (τ b) = some x := e
    rw [h1, h2] at e'
    cases e'
def fullS (h0 : Heap) : Hp := fun σ => ∀ b, σ b = h0[b]?
theorem Sat.full (h : Heap) : Sat h (fullS h) := ⟨fun b => h[b]?, fun b o e => ⟨e, fun _ => False.elim⟩, fun _ => rfl⟩
theorem Sat.fullOld {h h0 : Heap} {R : Hp} (H : Sat h (fullS h0 * R)) : Old h0.size h0 h := by
  obtain ⟨_, s, σ, τ, d, rfl, p, q⟩ := H
  have hb : ∀ b, b < h0.size → h[b]? = h0[b]? := by
    intro b hlt
    have e : σ b = some h0[b] := by rw [p b]; exact Array.getElem?_eq_getElem hlt
    rw [s.left.at b _ e, Array.getElem?_eq_getElem hlt]
  refine ⟨?_, hb⟩
  cases hn : h0.size with
  | zero => omega
  | succ n =>
    have h1 := hb n (by omega)
    rw [Array.getElem?_eq_getElem (by omega : n < h0.size)] at h1
    have := (Array.getElem?_eq_some_iff.1 h1).1
    omega
end
section
set_option maxRecDepth 100000
def F34 (K : Value → Heap → Prop) (h : Heap) (xa : Option Addr) (xb xc : Nat) : Prop :=
  (appH Tryz.prog #[26, 26] 26 #[.slice (some ⟨h.size, 0, none⟩) 0 0, .slice xa xb xc] (Array.push h (.cells #[] 5)) fun v0 h1 => asSlice v0 fun o2 k3 k4 => K (.pointer (some ⟨h1.size, 0, none⟩)) (Array.push h1 (.cells #[.slice o2 k3 k4, .int .i64 0] 134)))
theorem call34 {K : Value → Heap → Prop} {h : Heap} {xa : Option Addr} {xb xc : Nat} (H : F34 K h xa xb xc) : CallH Tryz.prog 34 #[(.slice xa xb xc)] h K :=
  callH_mk Tryz.func34 (by kernel_rfl) (Eq.mp (by kernel_rfl) H)
def F49 (K : Value → Heap → Prop) (h : Heap) (xa : Option Addr) (xb xc : Nat) : Prop :=
  (ifB (Option.isNone xa) (K (.slice none 0 0) h) (appH Tryz.prog #[60, 60] 60 #[.slice (some ⟨h.size, 0, none⟩) 0 0, .slice xa xb xc] (Array.push h (.cells #[] 65)) fun v0 h1 => asSlice v0 fun o2 k3 k4 => K (.slice o2 k3 k4) h1))
theorem call49 {K : Value → Heap → Prop} {h : Heap} {xa : Option Addr} {xb xc : Nat} (H : F49 K h xa xb xc) : CallH Tryz.prog 49 #[(.slice xa xb xc)] h K :=
  callH_mk Tryz.func49 (by kernel_rfl) (Eq.mp (by kernel_rfl) H)
def F84 (K : Value → Heap → Prop) (h : Heap) (xa : Int) : Prop :=
  (((0 : Int) ≤ 1) ∧ (((65536 : Int) ≠ 0) ∧ (K (.int .i64 (IntKind.wrap .i64 (Int.tmod (Int.fdiv xa 2) 65536))) h)))
theorem call84 {K : Value → Heap → Prop} {h : Heap} {xa : Int} (H : F84 K h xa) : CallH Tryz.prog 84 #[(.int .u64 xa)] h K :=
  callH_mk Tryz.func84 (by kernel_rfl) (Eq.mp (by kernel_rfl) H)
def F127 (K : Value → Heap → Prop) (h : Heap) (xa : Int) (xb : Bool) (xc : Int) : Prop :=
  (exI fun I0 => (ifB (decide (xa < 0)) (I0 [.bool true, .bool true] h) (cf 197 #[.int .u64 65536, .slice (some ⟨h.size, 0, none⟩) 1 1] (Array.push h (.cells #[.int .u64 (IntKind.wrap .u64 xa)] 65)) fun v1 h2 => asBool v1 fun b3 => ifB (!b3) (I0 [.bool (!b3), .bool true] h2) (cf 197 #[.int .u64 140737488355328, .slice (some ⟨h2.size, 0, none⟩) 1 1] (Array.push h2 (.cells #[.int .u64 xc] 65)) fun v4 h5 => asBool v4 fun b6 => I0 [.bool (!b3), .bool (!b6)] h5))) ∧ (∀ (v7 v8 : Value) (g9 : Env) (h10 : Heap), (I0 [v7, v8] h10) → (asBool v8 fun b11 => ifB b11 (K (.tuple #[.int .u64 0, .int .i64 2]) h10) (cf 198 #[.int .u64 (IntKind.wrap .u64 xa), .bool xb, .int .u64 xc] h10 fun v12 h13 => asInt .u64 v12 fun n14 => K (.tuple #[.int .u64 n14, .int .i64 0]) h13))))
theorem call127 {K : Value → Heap → Prop} {h : Heap} {xa : Int} {xb : Bool} {xc : Int} (H : F127 K h xa xb xc) : CallH Tryz.prog 127 #[(.int .i64 xa), (.bool xb), (.int .u64 xc)] h K :=
  callH_mk Tryz.func127 (by kernel_rfl) (Eq.mp (by kernel_rfl) H)
def F136 (K : Value → Heap → Prop) (h : Heap) (xa : Option Addr) : Prop :=
  (ifB (Option.isNone xa) (K (.int .i64 0) h) (nP xa fun a0 => lS h a0 fun o2 k3 k4 => K (.int .i64 (k3 : Int)) h))
theorem call136 {K : Value → Heap → Prop} {h : Heap} {xa : Option Addr} (H : F136 K h xa) : CallH Tryz.prog 136 #[(.pointer xa)] h K :=
  callH_mk Tryz.func136 (by kernel_rfl) (Eq.mp (by kernel_rfl) H)
def F138 (K : Value → Heap → Prop) (h : Heap) (xa xb : Int) : Prop :=
  (((0 : Int) ≤ 32) ∧ (K (.int .u64 (IntKind.wrap .u64 ((((BitVec.ofInt 64 (IntKind.wrap .u64 ((IntKind.wrap .u64 xa) * 4294967296))) ||| (BitVec.ofInt 64 (IntKind.wrap .u64 xb))).toNat : Nat) : Int))) h))
theorem call138 {K : Value → Heap → Prop} {h : Heap} {xa xb : Int} (H : F138 K h xa xb) : CallH Tryz.prog 138 #[(.int .u32 xa), (.int .u32 xb)] h K :=
  callH_mk Tryz.func138 (by kernel_rfl) (Eq.mp (by kernel_rfl) H)
def F140 (K : Value → Heap → Prop) (h : Heap) (xa : Option Addr) (xb : Int) : Prop :=
  (ifB (decide (xb < 1)) (K (.int .i64 1) h) (cf 201 #[.pointer xa] h fun v0 h1 => asInt .i64 v0 fun n2 => exI fun I3 => exM fun m4 => (I3 [.int .i64 0, .tuple #[], .int .i64 0] h1) ∧ (∀ (v5 v6 v7 : Value) (g8 : Env) (h9 : Heap), (I3 [v5, v6, v7] h9) → (asInt .i64 v7 fun n10 => ifB (decide (n10 < xb)) (asInt .i64 v7 fun n11 => ((0 : Int) ≤ n11) ∧ (ifB ((IntKind.wrap .i64 ((((BitVec.ofInt 64 (Int.fdiv n2 (2 ^ (min n11.toNat 64)))) &&& (BitVec.ofInt 64 1)).toNat : Nat) : Int)) == 0) (K (.int .i64 (IntKind.wrap .i64 (n11 + 1))) h9) (asInt .i64 v7 fun n12 => (I3 [v5, .int .i64 n11, .int .i64 (IntKind.wrap .i64 (n12 + 1))] h9) ∧ ((m4 [v5, .int .i64 n11, .int .i64 (IntKind.wrap .i64 (n12 + 1))] h9) < (m4 [v5, v6, v7] h9))))) (K (.int .i64 xb) h9)))))
theorem call140 {K : Value → Heap → Prop} {h : Heap} {xa : Option Addr} {xb : Int} (H : F140 K h xa xb) : CallH Tryz.prog 140 #[(.pointer xa), (.int .i64 xb)] h K :=
  callH_mk Tryz.func140 (by kernel_rfl) (Eq.mp (by kernel_rfl) H)
def F144 (K : Value → Heap → Prop) (h : Heap) (xa xb : Int) (xc : Bool) : Prop :=
  (((65536 : Int) ≠ 0) ∧ (cf 202 #[.int .u64 xa] h fun v0 h1 => asInt .u64 v0 fun n2 => ((140737488355328 : Int) ≠ 0) ∧ (cf 198 #[.int .u64 (Int.tmod (IntKind.wrap .u64 xb) 65536), .bool xc, .int .u64 (Int.tmod (IntKind.wrap .u64 (n2 + 1)) 140737488355328)] h1 fun v3 h4 => asInt .u64 v3 fun n5 => K (.int .u64 n5) h4)))
theorem call144 {K : Value → Heap → Prop} {h : Heap} {xa xb : Int} {xc : Bool} (H : F144 K h xa xb xc) : CallH Tryz.prog 144 #[(.int .u64 xa), (.int .i64 xb), (.bool xc)] h K :=
  callH_mk Tryz.func144 (by kernel_rfl) (Eq.mp (by kernel_rfl) H)
def F171 (K : Value → Heap → Prop) (h : Heap) (xa : Int) : Prop :=
  (K (.bool ((IntKind.wrap .u64 ((((BitVec.ofInt 64 xa) &&& (BitVec.ofInt 64 1)).toNat : Nat) : Int)) == 1)) h)
theorem call171 {K : Value → Heap → Prop} {h : Heap} {xa : Int} (H : F171 K h xa) : CallH Tryz.prog 171 #[(.int .u64 xa)] h K :=
  callH_mk Tryz.func171 (by kernel_rfl) (Eq.mp (by kernel_rfl) H)
def F177 (K : Value → Heap → Prop) (h : Heap) (xa : Option Addr) (xb : Int) : Prop :=
  (ifB (!(Option.isNone xa)) (nP xa fun a0 => lS h a0 fun o2 k3 k4 => appH Tryz.prog #[25, 25] 25 #[.slice o2 k3 k4, .slice (some ⟨h.size, 0, none⟩) 1 1] (Array.push h (.cells #[.int .i64 xb] 3)) fun v5 h6 => asSlice v5 fun o7 k8 k9 => nP xa fun a10 => stH h6 a10 (.slice o7 k8 k9) fun h11 => K (.tuple #[]) h11) (K (.tuple #[]) h))
theorem call177 {K : Value → Heap → Prop} {h : Heap} {xa : Option Addr} {xb : Int} (H : F177 K h xa xb) : CallH Tryz.prog 177 #[(.pointer xa), (.int .i64 xb)] h K :=
  callH_mk Tryz.func177 (by kernel_rfl) (Eq.mp (by kernel_rfl) H)
def F179 (K : Value → Heap → Prop) (h : Heap) (xa : Option Addr) (xb xc : Nat) (xd : Int) : Prop :=
  (cf 215 #[.slice xa xb xc, .int .i64 xd] h fun v0 h1 => asInt .i64 v0 fun n2 => K (.bool (decide (n2 ≥ 0))) h1)
theorem call179 {K : Value → Heap → Prop} {h : Heap} {xa : Option Addr} {xb xc : Nat} {xd : Int} (H : F179 K h xa xb xc xd) : CallH Tryz.prog 179 #[(.slice xa xb xc), (.int .i64 xd)] h K :=
  callH_mk Tryz.func179 (by kernel_rfl) (Eq.mp (by kernel_rfl) H)
def F180 (K : Value → Heap → Prop) (h : Heap) (xa : Option Addr) : Prop :=
  (ifB (Option.isNone xa) (K (.slice none 0 0) h) (nP xa fun a0 => lS h a0 fun o2 k3 k4 => cf 216 #[.slice o2 k3 k4] h fun v5 h6 => asSlice v5 fun o7 k8 k9 => K (.slice o7 k8 k9) h6))
theorem call180 {K : Value → Heap → Prop} {h : Heap} {xa : Option Addr} (H : F180 K h xa) : CallH Tryz.prog 180 #[(.pointer xa)] h K :=
  callH_mk Tryz.func180 (by kernel_rfl) (Eq.mp (by kernel_rfl) H)
def F181 (K : Value → Heap → Prop) (h : Heap) (xa : Option Addr) (xb : Value) : Prop :=
  (exI fun I0 => (ifB (Option.isNone xa) (I0 [.bool true] h) (asFnNil xb fun b1 => I0 [.bool b1] h)) ∧ (∀ (v2 : Value) (g3 : Env) (h4 : Heap), (I0 [v2] h4) → (asBool v2 fun b5 => ifB b5 (∀ h6 : Heap, (SameD h.size h4 h6) → (K (.int .i64 0) h6)) (nP xa fun a7 => lS (Array.push h4 (.cells #[.slice none 0 0] 25)) a7 fun o9 k10 k11 => cf 218 #[.slice o9 k10 k11] (Array.push h4 (.cells #[.slice none 0 0] 25)) fun v12 h13 => cf 217 #[v12, xb] h13 fun v14 h15 => rangeH Tryz.prog v14 1 h15 (fun I16 vs17 h18 => asInt .i64 (vs17.getD 0 (.tuple #[])) fun n19 => lS h18 ⟨h4.size, 0, none⟩ fun o21 k22 k23 => appH Tryz.prog #[25, 25] 25 #[.slice o21 k22 k23, .slice (some ⟨h18.size, 0, none⟩) 1 1] (Array.push h18 (.cells #[.int .i64 n19] 3)) fun v24 h25 => asSlice v24 fun o26 k27 k28 => stH h25 ⟨h4.size, 0, none⟩ (.slice o26 k27 k28) fun h29 => I16 .normal h29) (fun h30 => nP xa fun a31 => lS h30 a31 fun o33 k34 k35 => lS h30 ⟨h4.size, 0, none⟩ fun o37 k38 k39 => lS h30 ⟨h4.size, 0, none⟩ fun o41 k42 k43 => nP xa fun a44 => stH h30 a44 (.slice o41 k42 k43) fun h45 => (∀ h46 : Heap, (SameD h.size h45 h46) → (K (.int .i64 (IntKind.wrap .i64 ((k34 : Int) - (k38 : Int)))) h46))) []))))
theorem call181 {K : Value → Heap → Prop} {h : Heap} {xa : Option Addr} {xb : Value} (H : F181 K h xa xb) : CallH Tryz.prog 181 #[(.pointer xa), xb] h K :=
  callH_mk Tryz.func181 (by kernel_rfl) (Eq.mp (by kernel_rfl) H)
def F196 (K : Value → Heap → Prop) (h : Heap) (xa : Int) : Prop :=
  (((0 : Int) ≤ 32) ∧ (K (.int .u32 (IntKind.wrap .u32 (Int.fdiv xa 4294967296))) h))
theorem call196 {K : Value → Heap → Prop} {h : Heap} {xa : Int} (H : F196 K h xa) : CallH Tryz.prog 196 #[(.int .u64 xa)] h K :=
  callH_mk Tryz.func196 (by kernel_rfl) (Eq.mp (by kernel_rfl) H)
def F197 (K : Value → Heap → Prop) (h : Heap) (xa : Int) (xb : Option Addr) (xc xd : Nat) : Prop :=
  (exI fun I0 => exM fun m1 => (I0 [.bool false, .tuple #[], .int .i64 0] h) ∧ (∀ (v2 v3 v4 : Value) (g5 : Env) (h6 : Heap), (I0 [v2, v3, v4] h6) → (asInt .i64 v4 fun n7 => ifB (decide (n7 < ((xc : Nat) : Int))) (asI v4 fun n8 => bd n8 ((xc : Nat) : Int) (asPtr (.pointer xb) fun a9 => lI .u64 h6 (Addr.add a9 (n8.toNat * 1)) fun n11 => ifB (decide (n11 ≥ xa)) (K (.bool false) h6) (asInt .i64 v4 fun n12 => (I0 [v2, .int .u64 n11, .int .i64 (IntKind.wrap .i64 (n12 + 1))] h6) ∧ ((m1 [v2, .int .u64 n11, .int .i64 (IntKind.wrap .i64 (n12 + 1))] h6) < (m1 [v2, v3, v4] h6))))) (K (.bool true) h6))))
theorem call197 {K : Value → Heap → Prop} {h : Heap} {xa : Int} {xb : Option Addr} {xc xd : Nat} (H : F197 K h xa xb xc xd) : CallH Tryz.prog 197 #[(.int .u64 xa), (.slice xb xc xd)] h K :=
  callH_mk Tryz.func197 (by kernel_rfl) (Eq.mp (by kernel_rfl) H)
def F198 (K : Value → Heap → Prop) (h : Heap) (xa : Int) (xb : Bool) (xc : Int) : Prop :=
  (((0 : Int) ≤ 17) ∧ (((0 : Int) ≤ 1) ∧ (ifB xb (K (.int .u64 (IntKind.wrap .u64 ((((BitVec.ofInt 64 (IntKind.wrap .u64 ((((BitVec.ofInt 64 (IntKind.wrap .u64 (xc * 131072))) ||| (BitVec.ofInt 64 (IntKind.wrap .u64 (xa * 2)))).toNat : Nat) : Int))) ||| (BitVec.ofInt 64 1)).toNat : Nat) : Int))) h) (K (.int .u64 (IntKind.wrap .u64 ((((BitVec.ofInt 64 (IntKind.wrap .u64 (xc * 131072))) ||| (BitVec.ofInt 64 (IntKind.wrap .u64 (xa * 2)))).toNat : Nat) : Int))) h))))
theorem call198 {K : Value → Heap → Prop} {h : Heap} {xa : Int} {xb : Bool} {xc : Int} (H : F198 K h xa xb xc) : CallH Tryz.prog 198 #[(.int .u64 xa), (.bool xb), (.int .u64 xc)] h K :=
  callH_mk Tryz.func198 (by kernel_rfl) (Eq.mp (by kernel_rfl) H)
def F201 (K : Value → Heap → Prop) (h : Heap) (xa : Option Addr) : Prop :=
  (ifB (Option.isNone xa) (K (.int .i64 0) h) (nP xa fun a0 => lI .i64 h (Addr.add a0 1) fun n2 => nP xa fun a3 => stH h (Addr.add a3 1) (.int .i64 (IntKind.wrap .i64 (n2 + 1))) fun h4 => nP xa fun a5 => lI .i64 h4 (Addr.add a5 1) fun n7 => nP xa fun a8 => lS h4 a8 fun o10 k11 k12 => ifB (decide (n7 > (k11 : Int))) (K (.int .i64 0) h4) (nP xa fun a13 => lS h4 a13 fun o15 k16 k17 => nP xa fun a18 => lI .i64 h4 (Addr.add a18 1) fun n20 => ((0 : Int) ≤ (IntKind.wrap .i64 (n20 - 1))) ∧ ((((IntKind.wrap .i64 (n20 - 1)) : Int) < (k16 : Int)) ∧ (asPtr (.pointer o15) fun a21 => ldH h4 (Addr.add a21 ((IntKind.wrap .i64 (n20 - 1)).toNat * 1)) fun v22 => asInt .u8 v22 fun n23 => K (.int .i64 (IntKind.wrap .i64 n23)) h4)))))
theorem call201 {K : Value → Heap → Prop} {h : Heap} {xa : Option Addr} (H : F201 K h xa) : CallH Tryz.prog 201 #[(.pointer xa)] h K :=
  callH_mk Tryz.func201 (by kernel_rfl) (Eq.mp (by kernel_rfl) H)
def F202 (K : Value → Heap → Prop) (h : Heap) (xa : Int) : Prop :=
  (((0 : Int) ≤ 17) ∧ (K (.int .u64 (Int.fdiv xa 131072)) h))
theorem call202 {K : Value → Heap → Prop} {h : Heap} {xa : Int} (H : F202 K h xa) : CallH Tryz.prog 202 #[(.int .u64 xa)] h K :=
  callH_mk Tryz.func202 (by kernel_rfl) (Eq.mp (by kernel_rfl) H)
def F215 (K : Value → Heap → Prop) (h : Heap) (xa : Option Addr) (xb xc : Nat) (xd : Int) : Prop :=
  (exI fun I0 => exM fun m1 => (I0 [.int .i64 0, .tuple #[], .int .i64 0] h) ∧ (∀ (v2 v3 v4 : Value) (g5 : Env) (h6 : Heap), (I0 [v2, v3, v4] h6) → (asInt .i64 v4 fun n7 => ifB (decide (n7 < ((xb : Nat) : Int))) (asInt .i64 v4 fun n8 => bd n8 ((xb : Nat) : Int) (asPtr (.pointer xa) fun a9 => lI .i64 h6 (Addr.add a9 (n8.toNat * 1)) fun n11 => ifB (xd == n11) (K (.int .i64 n8) h6) (asInt .i64 v4 fun n12 => (I0 [v2, .int .i64 n8, .int .i64 (IntKind.wrap .i64 (n12 + 1))] h6) ∧ ((m1 [v2, .int .i64 n8, .int .i64 (IntKind.wrap .i64 (n12 + 1))] h6) < (m1 [v2, v3, v4] h6))))) (K (.int .i64 (-1)) h6))))
theorem call215 {K : Value → Heap → Prop} {h : Heap} {xa : Option Addr} {xb xc : Nat} {xd : Int} (H : F215 K h xa xb xc xd) : CallH Tryz.prog 215 #[(.slice xa xb xc), (.int .i64 xd)] h K :=
  callH_mk Tryz.func215 (by kernel_rfl) (Eq.mp (by kernel_rfl) H)
end
end Go.Proofs.YtglgifgoojncpaaGreat
section
namespace Go.Proofs.YtglgifgoojncpaaGreat.Mod
def wptr (w : Int) : Int := w / 2 % 65536
def wmark (w : Int) : Bool := w % 2 == 1
def wver (w : Int) : Int := w / 131072
def b2i (b : Bool) : Int := if b then 1 else 0
def wpack (ptr : Int) (mark : Bool) (ver : Int) : Int := ver * 131072 + ptr * 2 + b2i mark
def wnext (w ptr : Int) (mark : Bool) : Int := wpack (ptr % 65536) mark ((wver w + 1) % 140737488355328)
def u64 (n : Int) : Int := n % 18446744073709551616
def s64 (n : Int) : Int := if n % 18446744073709551616 < 9223372036854775808 then n % 18446744073709551616 else n % 18446744073709551616 - 18446744073709551616
def u32 (n : Int) : Int := n % 4294967296
structure Cf where
  algo : Int
  threads : Int
  nodes : Int
  level : Int
  batch : Int
  probes : Int
  scan : Int
structure Pl where
  c : Cf
  slots : Int
  width : Int
  sent : Int
  hazards : Int
  links : Int
  nodes : Int
  tree : Int
  size : Int
def planOf (c : Cf) : Pl :=
  let m := c.algo == 0
  let slots := if m then 2 else 2 * c.level + 2
  let width := if m then 3 else 5 + c.level
  let links := 8 + c.threads * slots
  let nodes := links + c.nodes
  let tree := nodes + c.nodes * width
  ⟨c, slots, width, if m then 0 else 2, 8, links, nodes, tree, tree + (if m then 2 ^ c.level.toNat else 0)⟩
def okC (c : Cf) : Bool := decide (0 ≤ c.algo ∧ c.algo ≤ 2 ∧ 1 ≤ c.threads ∧ c.threads ≤ 6 ∧ 1 ≤ c.nodes ∧ c.nodes ≤ 64 ∧ 1 ≤ c.level ∧ c.level ≤ 6 ∧ 1 ≤ c.batch ∧ c.batch ≤ 16 ∧ 1 ≤ c.probes ∧ c.probes ≤ 16 ∧ 1 ≤ c.scan ∧ c.scan ≤ 64 ∧ (if c.algo = 0 then 0 else 2) < c.nodes)
def Pl.haz (p : Pl) (t s : Int) : Int := if 0 ≤ t ∧ t < p.c.threads ∧ 0 ≤ s ∧ s < p.slots then p.hazards + t * p.slots + s else -1
def Pl.link (p : Pl) (n : Int) : Int := if 1 ≤ n ∧ n ≤ p.c.nodes then p.links + n - 1 else -1
def Pl.node (p : Pl) (n f : Int) : Int := if 1 ≤ n ∧ n ≤ p.c.nodes ∧ 0 ≤ f ∧ f < p.width then p.nodes + (n - 1) * p.width + f else -1
def Pl.at (p : Pl) (pos : Int) : Int := if 0 ≤ pos ∧ pos < p.size - p.tree then p.tree + pos else -1
def Pl.within (p : Pl) (a : Int) : Option Int := if p.nodes ≤ a ∧ a < p.tree then some ((a - p.nodes) / p.width + 1) else none
structure Frm where
  fn : Int
  pc : Int
  r : List Int
structure Thr where
  fr : List Frm
  ret : List Int
  pred : List Int
  succ : List Int
  word : List Int
  retired : List Int
  found : List Int
structure Gh where
  tags : List Int
  kind : Int
  node : Int
structure Acc where
  kind : Int
  a : Int
  b : Int
  done : Bool
structure Mm where
  w : List Int
  st : Int
  wt : Bool
  lg : List Acc
structure Mac where
  p : Pl
  mm : Mm
  g : Option Gh
  b : List Int
  used : Int
  th : List Thr
  acted : Bool
  bad : Bool
def Gh.fault (g : Gh) (k i : Int) : Gh := if g.kind = 0 ∧ g.node = 0 then { g with kind := k, node := i } else g
def Gh.turn (g : Gh) (i from_ to_ k : Int) : Gh :=
  if i < 1 ∨ g.tags.length < i then g.fault 5 i else if g.tags.getD (i - 1).toNat 0 ≠ from_ then g.fault k i else { g with tags := g.tags.set (i - 1).toNat to_ }
def Gh.touch (g : Gh) (i : Int) : Gh := if i < 1 ∨ g.tags.length < i then g.fault 5 i else if g.tags.getD (i - 1).toNat 0 = 0 then g.fault 4 i else g
def ghNew (nodes live : Int) : Gh := ⟨(List.range nodes.toNat).map fun (i : Nat) => if (i : Int) < live then 1 else 0, 0, 0⟩
def Mac.gh (m : Mac) (f : Gh → Gh) : Mac := { m with g := m.g.map f }
def Mm.ok (m : Mm) (a : Int) : Bool := decide (0 ≤ a ∧ a < m.w.length)
def Mm.get (m : Mm) (a : Int) : Int := m.w.getD a.toNat 0
def Mm.put (m : Mm) (a v : Int) : Mm := { m with w := m.w.set a.toNat v }
def Mm.tick (m : Mm) (k a b : Int) (d : Bool) : Mm := { m with st := m.st + 1, lg := if m.wt then m.lg ++ [⟨k, a, b, d⟩] else m.lg }
def Mm.store (m : Mm) (a v : Int) : Mm := if m.ok a then (m.tick 1 a (-1) true).put a v else m
def Mm.cas (m : Mm) (a o n : Int) : Mm := if m.get a = o then (m.put a n).tick 2 a (-1) true else m.tick 2 a (-1) false
def Mm.dcas (m : Mm) (a o n b p q : Int) : Mm := if m.get a = o ∧ m.get b = p then ((m.put a n).put b q).tick 4 a b true else m.tick 4 a b false
def Mm.dcss (m : Mm) (a o n b p : Int) : Mm := if m.get a = o ∧ m.get b = p then (m.put a n).tick 5 a b true else m.tick 5 a b false
def Mac.setM (m : Mac) (x : Mm) : Mac := { m with mm := x }
def Mac.fail (m : Mac) : Mac := { m with bad := true }
def Mac.touch (m : Mac) (a : Int) : Mac := match m.p.within a with
  | some n => { m with acted := true, g := m.g.map fun g => g.touch n }
  | none => { m with acted := true }
def Mac.load (m : Mac) (a : Int) : Int × Mac := let m := m.touch a; if m.mm.ok a then (m.mm.get a, m.setM (m.mm.tick 0 a (-1) false)) else (0, m.fail)
def Mac.store (m : Mac) (a v : Int) : Mac := let m := m.touch a; if m.mm.ok a then m.setM ((m.mm.tick 1 a (-1) true).put a v) else m.fail
def Mac.cas (m : Mac) (a o n : Int) : Bool × Mac := let m := m.touch a; if m.mm.ok a then (decide (m.mm.get a = o), m.setM (m.mm.cas a o n)) else (false, m.fail)
def Mac.add (m : Mac) (a d : Int) : Int × Mac := let m := m.touch a; if m.mm.ok a then (m.mm.get a, m.setM ((m.mm.tick 3 a (-1) true).put a (u64 (m.mm.get a + d)))) else (0, m.fail)
def Mac.dcas (m : Mac) (a o n b p q : Int) : Bool × Mac :=
  let m := (m.touch a).touch b
  if m.mm.ok a = true ∧ m.mm.ok b = true ∧ a ≠ b then (decide (m.mm.get a = o ∧ m.mm.get b = p), m.setM (m.mm.dcas a o n b p q)) else (false, m.fail)
def Mac.dcss (m : Mac) (a o n b p : Int) : Bool × Mac :=
  let m := (m.touch a).touch b
  if m.mm.ok a = true ∧ m.mm.ok b = true then (decide (m.mm.get a = o ∧ m.mm.get b = p), m.setM (m.mm.dcss a o n b p)) else (false, m.fail)
def Mac.fault (m : Mac) : Bool := m.bad || match m.g with | some g => decide (g.kind ≠ 0 ∨ g.node ≠ 0) | none => false
def Mac.take (m : Mac) : Int × Mac := (if m.used + 1 > m.b.length then 0 else m.b.getD m.used.toNat 0, { m with used := m.used + 1 })
def Mac.next (m : Mac) (n : Int) : Int × Mac := if n < 1 then (0, m) else let (c, m) := m.take; (c % n, m)
def lev (c : Int) : Nat → Nat → Int
  | 0, i => i
  | k + 1, i => if c / 2 ^ i % 2 = 0 then i + 1 else lev c k (i + 1)
def Mac.lvl (m : Mac) (most : Int) : Int × Mac := if most < 1 then (1, m) else let (c, m) := m.take; (lev c most.toNat 0, m)
def lay (p : Pl) : Mm :=
  let c := p.c
  let m0 : Mm := ⟨List.replicate p.size.toNat 0, 0, false, []⟩
  let first := p.sent + 1
  let m1 := m0.store 0 (wpack first false 0)
  let m2 := (List.range (c.nodes - first).toNat).foldl (fun (m : Mm) (i : Nat) => m.store (p.link (first + i)) (first + i + 1)) m1
  let m3 := m2.store 2 1
  if c.algo = 0 then m3 else
    let m4 := m3.store (p.node 1 3) c.level
    let m5 := m4.store (p.node 2 0) 18446744073709551615
    (List.range c.level.toNat).foldl (fun (m : Mm) (i : Nat) => m.store (p.node 1 (5 + i)) (wpack 2 false 0)) m5
def thr0 (c : Cf) : Thr := ⟨[], [0, 0, 0], List.replicate c.level.toNat 0, List.replicate c.level.toNat 0, List.replicate c.level.toNat 0, [], []⟩
def macNew (c : Cf) (b : List Int) (gh : Bool) : Mac :=
  let p := planOf c
  ⟨p, lay p, if gh then some (ghNew c.nodes p.sent) else none, b, 0, List.replicate c.threads.toNat (thr0 c), false, false⟩
structure Run where
  m : Mac
  t : Thr
  id : Int
def pad (n : Nat) (l : List Int) : List Int := (l ++ List.replicate n 0).take n
def Thr.push (t : Thr) (fn : Int) (r : List Int) : Thr := { t with fr := t.fr ++ [⟨fn, 0, pad 10 r⟩] }
def Thr.pop (t : Thr) (r : List Int) : Thr := if t.fr = [] then t else { t with fr := t.fr.dropLast, ret := pad 3 r }
def dfF : Frm := ⟨0, 0, []⟩
def Thr.top (t : Thr) : Frm := t.fr.getLast?.getD dfF
def Thr.setTop (t : Thr) (f : Frm) : Thr := { t with fr := t.fr.dropLast ++ [f] }
def Frm.g (f : Frm) (i : Nat) : Int := f.r.getD i 0
def Frm.s (f : Frm) (i : Nat) (v : Int) : Frm := { f with r := f.r.set i v }
def Frm.at (f : Frm) (pc : Int) : Frm := { f with pc := pc }
def Run.f (x : Run) : Frm := x.t.top
def Run.setF (x : Run) (f : Frm) : Run := { x with t := x.t.setTop f }
def Run.pc (x : Run) (pc : Int) : Run := x.setF (x.f.at pc)
def Run.s (x : Run) (i : Nat) (v : Int) : Run := x.setF (x.f.s i v)
def Run.push (x : Run) (fn : Int) (r : List Int) : Run := { x with t := x.t.push fn r }
def Run.pop (x : Run) (r : List Int) : Run := { x with t := x.t.pop r }
def Run.call (x : Run) (pc fn : Int) (r : List Int) : Run := (x.pc pc).push fn r
def Run.fo (x : Run) (l : List Int) : Run := { x with t := { x.t with found := l } }
def Run.re (x : Run) (l : List Int) : Run := { x with t := { x.t with retired := l } }
def Run.setPl (x : Run) (p s w : List Int) : Run := { x with t := { x.t with pred := p, succ := s, word := w } }
def Run.load (x : Run) (a : Int) : Int × Run := let (v, m) := x.m.load a; (v, { x with m := m })
def Run.store (x : Run) (a v : Int) : Run := { x with m := x.m.store a v }
def Run.cas (x : Run) (a o n : Int) : Bool × Run := let (v, m) := x.m.cas a o n; (v, { x with m := m })
def Run.add (x : Run) (a d : Int) : Int × Run := let (v, m) := x.m.add a d; (v, { x with m := m })
def Run.gh (x : Run) (f : Gh → Gh) : Run := { x with m := x.m.gh f }
def alloc (x : Run) : Run :=
  let f := x.f
  let node := wptr (f.g 0)
  if f.pc = 0 then
    let (v, x) := x.load 0
    let x := (x.s 0 v).pc 1
    if wptr v = 0 then x.pop [0] else x
  else if f.pc = 1 then
    let (v, x) := x.load (x.m.p.link node)
    (x.s 1 v).pc 2
  else
    let x := x.pc 0
    let (ok, x) := x.cas 0 (f.g 0) (wnext (f.g 0) (s64 (f.g 1)) false)
    if ok then (x.gh fun g => g.turn node 0 1 1).pop [node] else x
def release (x : Run) : Run :=
  let f := x.f
  let node := s64 (f.g 0)
  if f.pc = 0 then
    let (v, x) := x.load 0
    (x.s 1 v).pc 1
  else if f.pc = 1 then
    (x.store (x.m.p.link node) (wptr (f.g 1))).pc 2
  else
    let x := x.pc 0
    let (ok, x) := x.cas 0 (f.g 1) (wnext (f.g 1) node false)
    if ok then (x.gh fun g => g.turn node 2 0 3).pop [u64 node] else x
def arenaDo (x : Run) : Run := if x.t.fr = [] then x else if x.f.fn = 1 then alloc x else if x.f.fn = 2 then release x else x.pop []
def protect (x : Run) : Run :=
  let f := x.f
  let a := s64 (f.g 1)
  if f.pc = 0 then
    let (v, x) := x.load a
    let x := (x.s 2 v).pc 1
    if wptr v = 0 then x.pop [v] else x
  else if f.pc = 1 then
    (x.store (x.m.p.haz x.id (s64 (f.g 0))) (wptr (f.g 2))).pc 2
  else
    let (v, x) := x.load a
    if v = f.g 2 ∨ wptr v = 0 then x.pop [v] else (x.s 2 v).pc 1
def wipe (x : Run) : Run :=
  let f := x.f
  if f.pc ≥ x.m.p.slots then x.pop [] else (x.store (x.m.p.haz x.id f.pc) 0).pc (f.pc + 1)
def retire (x : Run) : Run :=
  let node := s64 (x.f.g 0)
  let x := x.gh fun g => g.turn node 1 2 2
  let x := (x.re (x.t.retired ++ [node])).pop []
  if (x.t.retired.length : Int) ≥ x.m.p.c.scan then x.push 6 [] else x
def scanA (x : Run) (all : Int) : Run :=
  if x.f.pc = all then ((x.re (x.t.retired.filter fun n => x.t.found.contains n)).fo (x.t.retired.filter fun n => !x.t.found.contains n)).pc (x.f.pc + 1) else x
def scanB (x : Run) : Run := match x.t.found with
  | [] => x.pop []
  | n :: rest => (x.fo rest).push 2 [u64 n]
def scan (x : Run) : Run :=
  let p := x.m.p
  let all := p.slots * p.c.threads
  let x := if x.f.pc = 0 then x.fo [] else x
  if x.f.pc < all then
    let (v, y) := x.load (p.haz (x.f.pc / p.slots) (x.f.pc % p.slots))
    (y.fo (y.t.found ++ [s64 v])).pc (x.f.pc + 1)
  else scanB (scanA x all)
def hazardDo (x : Run) : Run :=
  if x.t.fr = [] then x else if x.f.fn = 3 then protect x else if x.f.fn = 4 then wipe x else if x.f.fn = 5 then retire x else if x.f.fn = 6 then scan x else arenaDo x
def bits (d : Run → Run) : Nat → Run → Option Run
  | 0, x => if x.m.acted || x.t.fr.isEmpty then some x else none
  | n + 1, x => if x.m.acted || x.t.fr.isEmpty then some x else bits d n (d x)
def Mac.step (m : Mac) (i : Int) (d : Run → Run) (n : Nat) : Option (Bool × Mac) :=
  if i < 0 ∨ m.th.length ≤ i then some (false, m) else
    match bits d n ⟨{ m with acted := false }, m.th.getD i.toNat (thr0 m.p.c), i⟩ with
    | none => none
    | some x => some (!x.t.fr.isEmpty, { x.m with th := x.m.th.set i.toNat x.t })
end Go.Proofs.YtglgifgoojncpaaGreat.Mod
end
section
namespace Go.Proofs.YtglgifgoojncpaaGreat.Mod
structure Sp where
  lo : Int
  hi : Int
def Sp.done (s : Sp) : Bool := decide (s.lo ≥ s.hi)
def clip (n : Int) : Int := max 0 (min n 1073741824)
def Sp.mid (s : Sp) : Int := (clip s.lo + clip s.hi) / 2
def Sp.cut (s : Sp) (is : Bool) : Sp := if s.done then s else if is then ⟨s.lo, s.mid⟩ else ⟨s.mid + 1, s.hi⟩
def Run.at (x : Run) (place : Int) : Int := x.m.p.at (s64 place)
def Run.nodeW (x : Run) (w field : Int) : Int := x.m.p.node (wptr w) field
def Run.swing (x : Run) (place w ptr : Int) (dirty : Bool) : Bool × Run := x.cas (x.at place) w (wnext w ptr dirty)
def Run.fin (x : Run) (k key val : Int) : Run := (((x.s 7 k).s 8 key).s 9 val).call 90 4 []
def Run.ret (x : Run) (i : Nat) : Int := x.t.ret.getD i 0
def alone (d : Run → Run) (i : Nat) : Nat → Mac → Option Mac
  | 0, _ => none
  | n + 1, m => if m.fault then none else match m.step i d 40 with
    | none => none
    | some (true, m) => alone d i n m
    | some (false, m) => some m
def pushM (m : Mac) (i : Nat) (fn : Int) (r : List Int) : Mac := { m with th := m.th.set i ((m.th.getD i (thr0 m.p.c)).push fn r) }
def aloneC (d : Run → Run) (ins : Int) (m : Mac) (op key val : Int) : Option (List Int × Mac) :=
  (alone d 0 2000 (pushM m 0 (ins + op) [key, val])).map fun m => ((m.th.getD 0 (thr0 m.p.c)).ret, m)
end Go.Proofs.YtglgifgoojncpaaGreat.Mod
end
section
namespace Go.Proofs.YtglgifgoojncpaaGreat.Mod
def ordMake (key ticket : Int) : Int := u32 key * 4294967296 + u32 ticket
def ordKey (n : Int) : Int := n / 4294967296
def Run.nlink (x : Run) (node row : Int) : Int := x.m.p.node (s64 node) (5 + s64 row)
def Run.na (x : Run) (node field : Int) : Int := x.m.p.node (s64 node) field
def Run.swingA (x : Run) (a w to_ : Int) : Bool × Run := x.cas a w (wnext w (s64 to_) false)
def Run.drop1 (x : Run) (node : Int) : Bool × Run := let (v, x) := x.add (x.na node 2) 18446744073709551615; (v == 1, x)
end Go.Proofs.YtglgifgoojncpaaGreat.Mod
end
section
namespace Go.Proofs.YtglgifgoojncpaaGreat.Mod
def lSettle (x : Run) : Run :=
  let f := x.f
  let i := (s64 (f.g 2)).toNat
  let x := x.setPl (x.t.pred.set i (f.g 3)) (x.t.succ.set i (wptr (f.g 4))) (x.t.word.set i (f.g 4))
  if i = 0 then x.pop [f.g 5] else (x.s 2 (u64 (f.g 2 - 1))).pc 1
def lPass (x : Run) : Run := (x.s 3 (wptr (x.f.g 4))).pc 1
def lJudge (x : Run) : Run :=
  let f := x.f
  let (e, x) := x.load 1
  if e ≠ f.g 1 then x.pc 0
  else if s64 (f.g 2) = 0 ∧ wmark (f.g 4) = true then lPass (x.s 5 (wptr (f.g 4)))
  else if s64 (f.g 2) > 0 then x.pc 5 else x.pc 6
def lStep (x : Run) : Run :=
  let f := x.f
  let next := wptr (f.g 4)
  if f.pc = 0 then
    let (e, x) := x.load 1
    ((((x.s 1 e).s 3 1).s 5 0).s 2 (u64 (x.m.p.c.level - 1))).pc 1
  else if f.pc = 1 then (x.store (x.m.p.haz x.id (2 * s64 (f.g 2))) (f.g 3)).pc 2
  else if f.pc = 2 then
    let (w, x) := x.load (x.nlink (f.g 3) (f.g 2))
    let x := (x.s 4 w).pc 3
    if wptr w = 2 then lSettle x else x
  else if f.pc = 3 then (x.store (x.m.p.haz x.id (2 * s64 (f.g 2) + 1)) next).pc 4
  else if f.pc = 4 then lJudge x
  else if f.pc = 5 then
    let (w, x) := (x.pc 6).load (x.m.p.node next 5)
    if wmark w then lPass x else x
  else
    let (v, x) := x.load (x.m.p.node next 0)
    if v < f.g 0 then lPass x else lSettle x
def locateDo (x : Run) : Run := if x.t.fr = [] then x else if x.f.fn = 30 then lStep x else hazardDo x
def Run.swingM (x : Run) (a w to_ : Int) (mk : Bool) : Bool × Run := x.cas a w (wnext w (s64 to_) mk)
def Run.guard (x : Run) (slot node : Int) : Run := x.store (x.m.p.haz x.id (x.m.p.slots - 1 - slot % 2)) node
def tdStep (x : Run) : Run :=
  let f := x.f
  if f.pc = 0 then
    let (w, x) := x.load (x.nlink 1 0)
    let x := (((x.s 0 w).s 1 (wptr w)).s 2 (wptr w)).pc 1
    if wmark w then x else x.fin 0 0 0
  else if f.pc = 1 then
    let (w, x) := x.load (x.nlink (f.g 1) 0)
    let x := (x.s 2 (wptr w)).pc 2
    if wmark w then (x.s 1 (wptr w)).pc 1 else x
  else if f.pc = 2 then x.call 3 36 [f.g 1]
  else if f.pc = 3 then let (_, x) := x.swingM (x.nlink 1 0) (f.g 0) (f.g 2) false; x.pc 4
  else if f.pc = 4 then x.call 5 35 [wptr (f.g 0), f.g 2]
  else x.fin 0 0 0
def ctStep (x : Run) : Run :=
  let f := x.f
  if f.pc = 0 then let (_, x) := x.add 1 1; x.pc 1
  else if f.pc = 1 then
    if f.g 0 = f.g 1 then x.pop []
    else let (w, x) := x.load (x.nlink (f.g 0) 0); (x.s 2 (wptr w)).pc 2
  else (x.s 0 (f.g 2)).call 1 5 [f.g 0]
def mvDown (x : Run) : Run := (x.s 2 (u64 (x.f.g 2 - 1))).pc 1
def mvWalk (x : Run) : Run :=
  let f := x.f
  if f.pc = 4 then
    if f.g 4 = f.g 0 then x.pc 5
    else
      let (w, x) := x.load (x.nlink (f.g 4) 0)
      if wmark w then x.pc 5 else if f.g 4 = wptr (f.g 3) then mvDown x else x.pc 6
  else if f.pc = 5 then
    let (w, x) := x.load (x.nlink (f.g 4) (f.g 2))
    let x := (x.s 4 (wptr w)).pc 2
    if wptr w = 2 then x.pc 6 else x
  else
    let (ok, x) := x.swingM (x.nlink 1 (f.g 2)) (f.g 3) (f.g 4) false
    if ok then mvDown x else x.pc 1
def mvStep (x : Run) : Run :=
  let f := x.f
  if f.pc = 0 then
    let (e, x) := x.load 1
    ((x.s 1 e).s 2 (u64 (x.m.p.c.level - 1))).pc 1
  else if f.pc = 1 then
    if f.g 2 = 0 then x.pop []
    else
      let (w, x) := x.load (x.nlink 1 (f.g 2))
      let x := ((x.s 3 w).s 4 (wptr w)).pc 2
      if wptr w = 2 then mvDown x else x
  else if f.pc = 2 then ((x.guard (f.g 5) (f.g 4)).s 5 (u64 (f.g 5 + 1))).pc 3
  else if f.pc = 3 then
    let (e, x) := (x.pc 4).load 1
    if e ≠ f.g 1 then x.pc 0 else x
  else mvWalk x
def liTake (x : Run) : Run :=
  let f := x.f
  let v := x.ret 0
  let n := x.t.retired.length
  if f.pc = 0 then x.call 1 1 []
  else if f.pc = 1 then
    let x := x.s 2 v
    if v ≠ 0 then x.pc 2
    else if f.g 5 = 0 ∧ n > 0 then (x.s 5 1).call 0 6 []
    else x.fin 1 0 0
  else if f.pc = 2 then
    let (v, x) := x.add 3 1
    let x := x.s 4 (ordMake (u32 (f.g 0)) (u32 v))
    let (l, m) := x.m.lvl x.m.p.c.level
    (({ x with m := m } : Run).s 3 (u64 l)).pc 3
  else x
def liLay (x : Run) : Run :=
  let f := x.f
  let n := f.g 2
  let x := if f.pc = 3 then x.store (x.na n 0) (f.g 4) else if f.pc = 4 then x.store (x.na n 1) (f.g 1)
    else if f.pc = 5 then x.store (x.na n 2) 1 else if f.pc = 6 then x.store (x.na n 3) (f.g 3) else x
  x.pc (f.pc + 1)
def liEnter (x : Run) : Run :=
  let f := x.f
  let n := f.g 2
  if f.pc = 7 then x.call 8 30 [f.g 4]
  else if f.pc = 8 then let (w, x) := (x.s 7 (x.ret 0)).load (x.nlink n 0); (x.s 6 w).pc 9
  else if f.pc = 9 then (x.store (x.nlink n 0) (wnext (f.g 6) (s64 (x.t.succ.getD 0 0)) false)).pc 10
  else if f.pc = 10 then
    let x := (x.s 5 1).pc 7
    let (ok, x) := x.swingM (x.nlink (x.t.pred.getD 0 0) 0) (x.t.word.getD 0 0) n false
    if ok then x.pc 11 else x
  else x
def liClimb (x : Run) : Run :=
  let f := x.f
  let n := f.g 2
  let row := f.g 5
  if f.pc = 11 then
    if row ≥ f.g 3 then x.pc 17
    else let (w, x) := (x.pc 12).load (x.nlink n 0); if wmark w then x.pc 17 else x
  else if f.pc = 12 then
    let x := x.pc 13
    let s := x.t.succ.getD row.toNat 0
    if s = 2 then x else if s = f.g 7 then x.pc 17
    else let (w, x) := x.load (x.nlink s 0); if wmark w then x.pc 17 else x
  else if f.pc = 13 then let (w, x) := x.load (x.nlink n row); (x.s 6 w).pc 14
  else if f.pc = 14 then (x.store (x.nlink n row) (wnext (f.g 6) (s64 (x.t.succ.getD row.toNat 0)) false)).pc 15
  else x
def liJoin (x : Run) : Run :=
  let f := x.f
  let row := f.g 5
  if f.pc = 15 then
    let (ok, x) := x.swingM (x.nlink (x.t.pred.getD row.toNat 0) row) (x.t.word.getD row.toNat 0) (f.g 2) false
    if ok then (x.s 5 (u64 (row + 1))).pc 11 else x.call 16 30 [f.g 4]
  else if f.pc = 16 then
    let x := (x.s 7 (x.ret 0)).pc 11
    if x.t.succ.getD 0 0 ≠ f.g 2 then x.pc 17 else x
  else if f.pc = 17 then (x.store (x.na (f.g 2) 2) 0).pc 18
  else x.fin 0 0 0
def liStep (x : Run) : Run := if x.f.pc ≤ 2 then liTake x else if x.f.pc ≤ 6 then liLay x else if x.f.pc ≤ 10 then liEnter x else if x.f.pc ≤ 14 then liClimb x else liJoin x
def lrLook (x : Run) : Run :=
  let f := x.f
  let next := wptr (f.g 5)
  if f.pc = 0 then
    let (e, x) := x.load 1
    ((((x.s 0 e).s 2 1).s 3 0).s 4 0).pc 1
  else if f.pc = 1 then let (w, x) := x.load (x.nlink 1 0); ((x.s 1 w).s 5 w).pc 2
  else if f.pc = 2 then
    let x := x.pc 3
    if next = 2 then x.fin 3 0 0 else x
  else if f.pc = 3 then ((x.guard (f.g 3) next).s 3 (u64 (f.g 3 + 1))).pc 4
  else if f.pc = 4 then
    let (e, x) := (x.pc 5).load 1
    if e ≠ f.g 0 then x.pc 0 else x
  else x
def lrOn (x : Run) : Run :=
  let f := x.f
  let next := wptr (f.g 5)
  if f.pc = 5 then
    let x := x.pc 6
    if f.g 2 ≠ 1 ∧ f.g 4 = 0 then
      let (v, x) := x.load (x.na (f.g 2) 2)
      if v = 1 then x.s 4 (f.g 2) else x
    else x
  else if f.pc = 6 then
    if wmark (f.g 5) then (x.s 2 next).pc 7 else if f.fn = 33 then x.pc 9 else x.pc 8
  else if f.pc = 7 then let (w, x) := x.load (x.nlink (f.g 2) 0); (x.s 5 w).pc 2
  else if f.pc = 8 then
    let x := x.pc 9
    let (ok, x) := x.swingM (x.nlink (f.g 2) 0) (f.g 5) next true
    if ok then x else (x.s 3 (u64 (f.g 3 - 1))).pc 7
  else x
def lrTell (x : Run) : Run :=
  let f := x.f
  let next := wptr (f.g 5)
  if f.pc = 9 then let (v, x) := x.load (x.na next 1); (x.s 6 v).pc 10
  else if f.pc = 10 then
    let (v, x) := x.load (x.na next 0)
    let x := (x.s 8 (ordKey v)).pc 11
    let x := if f.fn = 33 ∨ f.g 3 < u64 x.m.p.c.batch then x.pc 14 else x
    if f.g 4 = 0 then x.s 4 next else x
  else x
def lrCut (x : Run) : Run :=
  let f := x.f
  if f.pc = 11 then
    let x := x.pc 14
    let (ok, x) := x.swingM (x.nlink 1 0) (f.g 1) (f.g 4) true
    if ok then x.pc 12 else x
  else if f.pc = 12 then x.call 13 36 [0]
  else if f.pc = 13 then x.call 14 35 [wptr (f.g 1), f.g 4]
  else x.fin 2 (f.g 8) (f.g 6)
def lrStep (x : Run) : Run := if x.f.pc ≤ 4 then lrLook x else if x.f.pc ≤ 8 then lrOn x else if x.f.pc ≤ 10 then lrTell x else lrCut x
def lindenDo (x : Run) : Run :=
  if x.t.fr = [] then x else
  let f := x.f
  if f.fn < 31 ∨ 36 < f.fn then locateDo x
  else if f.pc = 90 then x.pop [f.g 7, f.g 8, f.g 9]
  else if f.fn = 31 then liStep x
  else if f.fn = 34 then tdStep x
  else if f.fn = 35 then ctStep x
  else if f.fn = 36 then mvStep x
  else lrStep x
def lives28 : Option (List Int × List Int × List Int) := do
  let m := macNew ⟨2, 1, 6, 3, 1, 1, 1⟩ [] true
  let (a, m) ← aloneC lindenDo 31 m 0 5 1
  let (b, m) ← aloneC lindenDo 31 m 0 3 2
  let (c, m) ← aloneC lindenDo 31 m 1 0 0
  pure (a, b, c)
theorem lives28_eq : lives28 = some ([0, 0, 0], [0, 0, 0], [2, 3, 2]) := by decide +kernel
end Go.Proofs.YtglgifgoojncpaaGreat.Mod
end
namespace Go.Proofs.YtglgifgoojncpaaGreat
section
open Mod
def U (n : Int) : Prop := 0 ≤ n ∧ n < 18446744073709551616
theorem U.wrap {n : Int} (h : U n) : IntKind.wrap .u64 n = n := by
  obtain ⟨m, rfl⟩ : ∃ m : Nat, n = m := ⟨n.toNat, by have := h.1; omega⟩
  exact wrap64u (by have := h.2; omega)
theorem U.bv {n : Int} (h : U n) : (BitVec.ofInt 64 n).toNat = n.toNat := by
  rw [BitVec.toNat_ofInt]
  have := h.1; have := h.2
  omega
theorem U.and1 {n : Int} (h : U n) : IntKind.wrap .u64 ((((BitVec.ofInt 64 n) &&& (BitVec.ofInt 64 1)).toNat : Nat) : Int) = n % 2 := by
  rw [BitVec.toNat_and, h.bv, show (BitVec.ofInt 64 1).toNat = 1 by decide, Nat.and_one_is_mod, wrap64u (by omega)]
  have := h.1
  omega
theorem or_sum {a b : Int} (k : Nat) (ha : U a) (hb : 0 ≤ b) (hk : b < ((2 ^ k : Nat) : Int)) (hd : a % ((2 ^ k : Nat) : Int) = 0) (hs : U (a + b)) : IntKind.wrap .u64 ((((BitVec.ofInt 64 a) ||| (BitVec.ofInt 64 b)).toNat : Nat) : Int) = a + b := by
  have hbU : U b := ⟨hb, by have := hs.2; have := ha.1; omega⟩
  rw [BitVec.toNat_or, ha.bv, hbU.bv]
  obtain ⟨m, rfl⟩ : ∃ m : Nat, a = m := ⟨a.toNat, by have := ha.1; omega⟩
  obtain ⟨n, rfl⟩ : ∃ n : Nat, b = n := ⟨b.toNat, by omega⟩
  rw [Int.toNat_natCast, Int.toNat_natCast]
  have hd' : m % 2 ^ k = 0 := by
    have : ((m % 2 ^ k : Nat) : Int) = 0 := by rw [Int.natCast_emod]; exact hd
    omega
  obtain ⟨c, hc⟩ : ∃ c, m = 2 ^ k * c := ⟨m / 2 ^ k, by have := Nat.div_add_mod m (2 ^ k); omega⟩
  have hn : n < 2 ^ k := by omega
  rw [hc, ← Nat.two_pow_add_eq_or_of_lt hn, ← hc]
  have := hs.2
  rw [wrap64u (by omega)]
  omega
theorem fdiv_pos {n m : Int} (h : 0 ≤ m) : Int.fdiv n m = n / m := Int.fdiv_eq_ediv_of_nonneg _ h
theorem tmod_pos {n m : Int} (h : 0 ≤ n) : Int.tmod n m = n % m := Int.tmod_eq_emod_of_nonneg h
theorem wPtr_call {K : Value → Heap → Prop} {h : Heap} {w : Int} (hw : U w) (k : K (.int .i64 (wptr w)) h) : CallH Tryz.prog 84 #[.int .u64 w] h K := by
  refine call84 ?_
  unfold F84
  refine ⟨by omega, by omega, ?_⟩
  have := hw.1
  rw [fdiv_pos (by omega), tmod_pos (by omega), wrap64_id' (by omega) (by omega)]
  exact k
theorem wMark_call {K : Value → Heap → Prop} {h : Heap} {w : Int} (hw : U w) (k : K (.bool (wmark w)) h) : CallH Tryz.prog 171 #[.int .u64 w] h K := by
  refine call171 ?_
  unfold F171
  rw [hw.and1]
  exact k
theorem wVer_call {K : Value → Heap → Prop} {h : Heap} {w : Int} (hw : U w) (k : K (.int .u64 (wver w)) h) : CallH Tryz.prog 202 #[.int .u64 w] h K := by
  refine call202 ?_
  unfold F202
  rw [fdiv_pos (by omega)]
  exact ⟨by omega, k⟩
theorem b2i_le (b : Bool) : 0 ≤ b2i b ∧ b2i b ≤ 1 := by cases b <;> decide
theorem wpack_U {ptr ver : Int} {mk : Bool} (hp : 0 ≤ ptr ∧ ptr < 65536) (hv : 0 ≤ ver ∧ ver < 140737488355328) : U (wpack ptr mk ver) := by
  have := b2i_le mk
  unfold U wpack
  omega
theorem wPack_call {K : Value → Heap → Prop} {h : Heap} {ptr ver : Int} {mk : Bool} (hp : 0 ≤ ptr ∧ ptr < 65536) (hv : 0 ≤ ver ∧ ver < 140737488355328) (k : K (.int .u64 (wpack ptr mk ver)) h) : CallH Tryz.prog 198 #[.int .u64 ptr, .bool mk, .int .u64 ver] h K := by
  refine call198 ?_
  unfold F198
  refine ⟨by omega, by omega, ?_⟩
  have e1 : IntKind.wrap .u64 (ver * 131072) = ver * 131072 := U.wrap ⟨by omega, by omega⟩
  have e2 : IntKind.wrap .u64 (ptr * 2) = ptr * 2 := U.wrap ⟨by omega, by omega⟩
  rw [e1, e2]
  have e3 := or_sum (a := ver * 131072) (b := ptr * 2) 17 ⟨by omega, by omega⟩ (by omega) (by simp only [Nat.reducePow]; omega) (by simp only [Nat.reducePow]; omega) ⟨by omega, by omega⟩
  rw [e3]
  cases mk with
  | false =>
    simp only [ifB_false]
    unfold wpack b2i at k
    simpa using k
  | true =>
    simp only [ifB_true]
    have e4 := or_sum (a := ver * 131072 + ptr * 2) (b := 1) 1 ⟨by omega, by omega⟩ (by omega) (by decide) (by simp only [Nat.reducePow]; omega) ⟨by omega, by omega⟩
    rw [e4]
    unfold wpack b2i at k
    simpa using k
theorem wNext_U {w ptr : Int} {mk : Bool} : U (wnext w ptr mk) := wpack_U ⟨by omega, by omega⟩ ⟨by omega, by omega⟩
theorem wrapu_mod (n : Int) : IntKind.wrap .u64 n = n % 18446744073709551616 := by
  unfold IntKind.wrap IntKind.signed IntKind.bits
  have e : (2 : Int) ^ 64 = 18446744073709551616 := rfl
  simp only [Bool.false_and, Bool.false_eq_true, if_false, e]
theorem wrap32_mod (n : Int) : IntKind.wrap .u32 n = n % 4294967296 := by
  unfold IntKind.wrap IntKind.signed IntKind.bits
  have e : (2 : Int) ^ 32 = 4294967296 := rfl
  simp only [Bool.false_and, Bool.false_eq_true, if_false, e]
theorem wraps_eq (n : Int) : IntKind.wrap .i64 n = s64 n := by
  unfold IntKind.wrap IntKind.signed IntKind.bits s64
  have e : (2 : Int) ^ 64 = 18446744073709551616 := rfl
  have e2 : (2 : Int) ^ (64 - 1) = 9223372036854775808 := rfl
  simp only [Bool.true_and, decide_eq_true_eq, e, e2]
  split <;> split <;> omega
theorem wNext_call {K : Value → Heap → Prop} {h : Heap} {w ptr : Int} {mk : Bool} (hw : U w) (k : K (.int .u64 (wnext w ptr mk)) h) : CallH Tryz.prog 144 #[.int .u64 w, .int .i64 ptr, .bool mk] h K := by
  refine call144 ?_
  unfold F144 cf
  refine ⟨by omega, ?_⟩
  refine callV_fn (wVer_call hw ?_)
  simp only [asInt_int]
  refine ⟨by omega, ?_⟩
  have hv : 0 ≤ wver w ∧ wver w < 140737488355328 := by have := hw.1; have := hw.2; unfold wver; omega
  rw [show IntKind.wrap .u64 (wver w + 1) = wver w + 1 from U.wrap ⟨by omega, by omega⟩, wrapu_mod, tmod_pos (by omega), tmod_pos (by omega)]
  rw [show ptr % 18446744073709551616 % 65536 = ptr % 65536 by omega]
  refine callV_fn (wPack_call ⟨by omega, by omega⟩ ⟨by omega, by omega⟩ ?_)
  simp only [asInt_int]
  exact k
def V (n : Int) : Prop := 0 ≤ n ∧ n < 4294967296
theorem u32_V (n : Int) : V (u32 n) := ⟨by unfold u32; omega, by unfold u32; omega⟩
theorem V.u32 {n : Int} (h : V n) : u32 n = n := by unfold Mod.u32; have := h.1; have := h.2; omega
theorem oMake_call {K : Value → Heap → Prop} {h : Heap} {a b : Int} (ha : V a) (hb : V b) (k : K (.int .u64 (ordMake a b)) h) : CallH Tryz.prog 138 #[.int .u32 a, .int .u32 b] h K := by
  refine call138 ?_
  unfold F138
  refine ⟨by omega, ?_⟩
  have := ha.1; have := ha.2; have := hb.1; have := hb.2
  rw [show IntKind.wrap .u64 a = a from U.wrap ⟨by omega, by omega⟩, show IntKind.wrap .u64 b = b from U.wrap ⟨by omega, by omega⟩, show IntKind.wrap .u64 (a * 4294967296) = a * 4294967296 from U.wrap ⟨by omega, by omega⟩,
    or_sum (a := a * 4294967296) (b := b) 32 ⟨by omega, by omega⟩ (by omega) (by simp only [Nat.reducePow]; omega) (by simp only [Nat.reducePow]; omega) ⟨by omega, by omega⟩]
  unfold ordMake at k
  rw [ha.u32, hb.u32] at k
  exact k
theorem oKey_call {K : Value → Heap → Prop} {h : Heap} {n : Int} (hn : U n) (k : K (.int .u32 (ordKey n)) h) : CallH Tryz.prog 196 #[.int .u64 n] h K := by
  refine call196 ?_
  unfold F196
  have := hn.1; have := hn.2
  rw [fdiv_pos (by omega), wrap32_mod, show n / 4294967296 % 4294967296 = n / 4294967296 by omega]
  exact ⟨by omega, k⟩
end
section
set_option maxRecDepth 100000
abbrev g32 (K : Value → Heap → Prop) (h H1 : Heap) : Prop :=
  (lI .i64 H1 ⟨h.size, 14, none⟩ fun n1 => K (.int .i64 n1) H1)
def F32 (K : Value → Heap → Prop) (h : Heap) (xa xb xc xd xe xf xg xh xi xj xk xl xm xn xo : Int) : Prop :=
  (g32 K h (Array.push h (.cells #[.int .i64 xa, .int .i64 xb, .int .i64 xc, .int .i64 xd, .int .i64 xe, .int .i64 xf, .int .i64 xg, .int .i64 xh, .int .i64 xi, .int .i64 xj, .int .i64 xk, .int .i64 xl, .int .i64 xm, .int .i64 xn, .int .i64 xo] 69)))
theorem call32 {K : Value → Heap → Prop} {h : Heap} {xa xb xc xd xe xf xg xh xi xj xk xl xm xn xo : Int} (H : F32 K h xa xb xc xd xe xf xg xh xi xj xk xl xm xn xo) : CallH Tryz.prog 32 #[(.agg #[(.int .i64 xa), (.int .i64 xb), (.int .i64 xc), (.int .i64 xd), (.int .i64 xe), (.int .i64 xf), (.int .i64 xg), (.int .i64 xh), (.int .i64 xi), (.int .i64 xj), (.int .i64 xk), (.int .i64 xl), (.int .i64 xm), (.int .i64 xn), (.int .i64 xo)])] h K :=
  callH_mk Tryz.func32 (by kernel_rfl) (Eq.mp (by kernel_rfl) H)
abbrev g36 (K : Value → Heap → Prop) (h H1 : Heap) : Prop :=
  (lI .i64 H1 ⟨h.size, 9, none⟩ fun n1 => K (.int .i64 n1) H1)
def F36 (K : Value → Heap → Prop) (h : Heap) (xa xb xc xd xe xf xg xh xi xj xk xl xm xn xo : Int) : Prop :=
  (g36 K h (Array.push h (.cells #[.int .i64 xa, .int .i64 xb, .int .i64 xc, .int .i64 xd, .int .i64 xe, .int .i64 xf, .int .i64 xg, .int .i64 xh, .int .i64 xi, .int .i64 xj, .int .i64 xk, .int .i64 xl, .int .i64 xm, .int .i64 xn, .int .i64 xo] 69)))
theorem call36 {K : Value → Heap → Prop} {h : Heap} {xa xb xc xd xe xf xg xh xi xj xk xl xm xn xo : Int} (H : F36 K h xa xb xc xd xe xf xg xh xi xj xk xl xm xn xo) : CallH Tryz.prog 36 #[(.agg #[(.int .i64 xa), (.int .i64 xb), (.int .i64 xc), (.int .i64 xd), (.int .i64 xe), (.int .i64 xf), (.int .i64 xg), (.int .i64 xh), (.int .i64 xi), (.int .i64 xj), (.int .i64 xk), (.int .i64 xl), (.int .i64 xm), (.int .i64 xn), (.int .i64 xo)])] h K :=
  callH_mk Tryz.func36 (by kernel_rfl) (Eq.mp (by kernel_rfl) H)
abbrev g62 (K : Value → Heap → Prop) (h H1 H2 : Heap) : Prop :=
  (ldH H2 ⟨h.size, 0, none⟩ fun v0 => ldH H2 (Addr.add ⟨h.size, 0, none⟩ 1) fun v1 => ldH H2 (Addr.add ⟨h.size, 0, none⟩ 2) fun v2 => ldH H2 (Addr.add ⟨h.size, 0, none⟩ 3) fun v3 => ldH H2 (Addr.add ⟨h.size, 0, none⟩ 4) fun v4 => ldH H2 (Addr.add ⟨h.size, 0, none⟩ 5) fun v5 => ldH H2 (Addr.add ⟨h.size, 0, none⟩ 6) fun v6 => stH H2 ⟨H1.size, 0, none⟩ v0 fun h7 => stH h7 ⟨H1.size, 1, none⟩ v1 fun h8 => stH h8 ⟨H1.size, 2, none⟩ v2 fun h9 => stH h9 ⟨H1.size, 3, none⟩ v3 fun h10 => stH h10 ⟨H1.size, 4, none⟩ v4 fun h11 => stH h11 ⟨H1.size, 5, none⟩ v5 fun h12 => stH h12 ⟨H1.size, 6, none⟩ v6 fun h13 => ldH h13 ⟨H1.size, 0, none⟩ fun v14 => ldH h13 ⟨H1.size, 1, none⟩ fun v15 => ldH h13 ⟨H1.size, 2, none⟩ fun v16 => ldH h13 ⟨H1.size, 3, none⟩ fun v17 => ldH h13 ⟨H1.size, 4, none⟩ fun v18 => ldH h13 ⟨H1.size, 5, none⟩ fun v19 => ldH h13 ⟨H1.size, 6, none⟩ fun v20 => K (.agg #[v14, v15, v16, v17, v18, v19, v20]) h13)
def F62 (K : Value → Heap → Prop) (h : Heap) (xa xb xc xd xe xf xg xh xi xj xk xl xm xn xo : Int) : Prop :=
  (g62 K h (Array.push h (.cells #[.int .i64 xa, .int .i64 xb, .int .i64 xc, .int .i64 xd, .int .i64 xe, .int .i64 xf, .int .i64 xg, .int .i64 xh, .int .i64 xi, .int .i64 xj, .int .i64 xk, .int .i64 xl, .int .i64 xm, .int .i64 xn, .int .i64 xo] 69)) (Array.push (Array.push h (.cells #[.int .i64 xa, .int .i64 xb, .int .i64 xc, .int .i64 xd, .int .i64 xe, .int .i64 xf, .int .i64 xg, .int .i64 xh, .int .i64 xi, .int .i64 xj, .int .i64 xk, .int .i64 xl, .int .i64 xm, .int .i64 xn, .int .i64 xo] 69)) (.cells #[.int .i64 0, .int .i64 0, .int .i64 0, .int .i64 0, .int .i64 0, .int .i64 0, .int .i64 0] 23)))
theorem call62 {K : Value → Heap → Prop} {h : Heap} {xa xb xc xd xe xf xg xh xi xj xk xl xm xn xo : Int} (H : F62 K h xa xb xc xd xe xf xg xh xi xj xk xl xm xn xo) : CallH Tryz.prog 62 #[(.agg #[(.int .i64 xa), (.int .i64 xb), (.int .i64 xc), (.int .i64 xd), (.int .i64 xe), (.int .i64 xf), (.int .i64 xg), (.int .i64 xh), (.int .i64 xi), (.int .i64 xj), (.int .i64 xk), (.int .i64 xl), (.int .i64 xm), (.int .i64 xn), (.int .i64 xo)])] h K :=
  callH_mk Tryz.func62 (by kernel_rfl) (Eq.mp (by kernel_rfl) H)
abbrev g65 (K : Value → Heap → Prop) (h H1 : Heap) (xa : Int) : Prop :=
  (lI .i64 H1 (Addr.add ⟨h.size, 0, none⟩ 2) fun n1 => cf 61 #[.slice (some ⟨H1.size, 0, none⟩) 1 1] (Array.push H1 (.cells #[.int .i64 xa, .int .i64 1, .int .i64 n1] 127)) fun v2 h3 => asBool v2 fun b4 => ifB (!b4) (K (.int .i64 (-1)) h3) (lI .i64 h3 ⟨h.size, 11, none⟩ fun n6 => K (.int .i64 (IntKind.wrap .i64 ((IntKind.wrap .i64 (n6 + xa)) - 1))) h3))
def F65 (K : Value → Heap → Prop) (h : Heap) (xa xb xc xd xe xf xg xh xi xj xk xl xm xn xo xp : Int) : Prop :=
  (g65 K h (Array.push h (.cells #[.int .i64 xa, .int .i64 xb, .int .i64 xc, .int .i64 xd, .int .i64 xe, .int .i64 xf, .int .i64 xg, .int .i64 xh, .int .i64 xi, .int .i64 xj, .int .i64 xk, .int .i64 xl, .int .i64 xm, .int .i64 xn, .int .i64 xo] 69)) xp)
theorem call65 {K : Value → Heap → Prop} {h : Heap} {xa xb xc xd xe xf xg xh xi xj xk xl xm xn xo xp : Int} (H : F65 K h xa xb xc xd xe xf xg xh xi xj xk xl xm xn xo xp) : CallH Tryz.prog 65 #[(.agg #[(.int .i64 xa), (.int .i64 xb), (.int .i64 xc), (.int .i64 xd), (.int .i64 xe), (.int .i64 xf), (.int .i64 xg), (.int .i64 xh), (.int .i64 xi), (.int .i64 xj), (.int .i64 xk), (.int .i64 xl), (.int .i64 xm), (.int .i64 xn), (.int .i64 xo)]), (.int .i64 xp)] h K :=
  callH_mk Tryz.func65 (by kernel_rfl) (Eq.mp (by kernel_rfl) H)
abbrev g66 (K : Value → Heap → Prop) (h H1 : Heap) (xa xb : Int) : Prop :=
  (lI .i64 H1 (Addr.add ⟨h.size, 0, none⟩ 2) fun n1 => lI .i64 H1 ⟨h.size, 8, none⟩ fun n3 => cf 61 #[.slice (some ⟨H1.size, 0, none⟩) 2 2] (Array.push H1 (.cells #[.int .i64 xa, .int .i64 1, .int .i64 n1, .int .i64 xb, .int .i64 0, .int .i64 (IntKind.wrap .i64 (n3 - 1))] 127)) fun v4 h5 => asBool v4 fun b6 => ifB (!b6) (K (.int .i64 (-1)) h5) (lI .i64 h5 ⟨h.size, 12, none⟩ fun n8 => lI .i64 h5 ⟨h.size, 8, none⟩ fun n10 => K (.int .i64 (IntKind.wrap .i64 ((IntKind.wrap .i64 (n8 + (IntKind.wrap .i64 ((IntKind.wrap .i64 (xa - 1)) * n10)))) + xb))) h5))
def F66 (K : Value → Heap → Prop) (h : Heap) (xa xb xc xd xe xf xg xh xi xj xk xl xm xn xo xp xq : Int) : Prop :=
  (g66 K h (Array.push h (.cells #[.int .i64 xa, .int .i64 xb, .int .i64 xc, .int .i64 xd, .int .i64 xe, .int .i64 xf, .int .i64 xg, .int .i64 xh, .int .i64 xi, .int .i64 xj, .int .i64 xk, .int .i64 xl, .int .i64 xm, .int .i64 xn, .int .i64 xo] 69)) xp xq)
theorem call66 {K : Value → Heap → Prop} {h : Heap} {xa xb xc xd xe xf xg xh xi xj xk xl xm xn xo xp xq : Int} (H : F66 K h xa xb xc xd xe xf xg xh xi xj xk xl xm xn xo xp xq) : CallH Tryz.prog 66 #[(.agg #[(.int .i64 xa), (.int .i64 xb), (.int .i64 xc), (.int .i64 xd), (.int .i64 xe), (.int .i64 xf), (.int .i64 xg), (.int .i64 xh), (.int .i64 xi), (.int .i64 xj), (.int .i64 xk), (.int .i64 xl), (.int .i64 xm), (.int .i64 xn), (.int .i64 xo)]), (.int .i64 xp), (.int .i64 xq)] h K :=
  callH_mk Tryz.func66 (by kernel_rfl) (Eq.mp (by kernel_rfl) H)
abbrev g130 (K : Value → Heap → Prop) (h H1 : Heap) (xa xb : Int) : Prop :=
  (exI fun I0 => (ldH H1 ⟨h.size, 0, none⟩ fun v1 => ldH H1 ⟨h.size, 1, none⟩ fun v2 => ldH H1 ⟨h.size, 2, none⟩ fun v3 => ldH H1 ⟨h.size, 3, none⟩ fun v4 => ldH H1 ⟨h.size, 4, none⟩ fun v5 => ldH H1 ⟨h.size, 5, none⟩ fun v6 => ldH H1 ⟨h.size, 6, none⟩ fun v7 => ldH H1 ⟨h.size, 7, none⟩ fun v8 => ldH H1 ⟨h.size, 8, none⟩ fun v9 => ldH H1 ⟨h.size, 9, none⟩ fun v10 => ldH H1 ⟨h.size, 10, none⟩ fun v11 => ldH H1 ⟨h.size, 11, none⟩ fun v12 => ldH H1 ⟨h.size, 12, none⟩ fun v13 => ldH H1 ⟨h.size, 13, none⟩ fun v14 => ldH H1 ⟨h.size, 14, none⟩ fun v15 => eqvH Tryz.prog 69 (.agg #[v1, v2, v3, v4, v5, v6, v7, v8, v9, v10, v11, v12, v13, v14, v15]) (.agg #[.int .i64 0, .int .i64 0, .int .i64 0, .int .i64 0, .int .i64 0, .int .i64 0, .int .i64 0, .int .i64 0, .int .i64 0, .int .i64 0, .int .i64 0, .int .i64 0, .int .i64 0, .int .i64 0, .int .i64 0]) fun b16 => ifB b16 (I0 [.bool true] H1) (lI .i64 H1 (Addr.add ⟨h.size, 0, none⟩ 1) fun n18 => lI .i64 H1 ⟨h.size, 7, none⟩ fun n20 => cf 61 #[.slice (some ⟨H1.size, 0, none⟩) 2 2] (Array.push H1 (.cells #[.int .i64 xa, .int .i64 0, .int .i64 (IntKind.wrap .i64 (n18 - 1)), .int .i64 xb, .int .i64 0, .int .i64 (IntKind.wrap .i64 (n20 - 1))] 127)) fun v21 h22 => asBool v21 fun b23 => I0 [.bool (!b23)] h22)) ∧ (∀ (v24 : Value) (g25 : Env) (h26 : Heap), (I0 [v24] h26) → (asBool v24 fun b27 => ifB b27 (K (.int .i64 (-1)) h26) (lI .i64 h26 ⟨h.size, 10, none⟩ fun n29 => lI .i64 h26 ⟨h.size, 7, none⟩ fun n31 => K (.int .i64 (IntKind.wrap .i64 ((IntKind.wrap .i64 (n29 + (IntKind.wrap .i64 (xa * n31)))) + xb))) h26))))
def F130 (K : Value → Heap → Prop) (h : Heap) (xa xb xc xd xe xf xg xh xi xj xk xl xm xn xo xp xq : Int) : Prop :=
  (g130 K h (Array.push h (.cells #[.int .i64 xa, .int .i64 xb, .int .i64 xc, .int .i64 xd, .int .i64 xe, .int .i64 xf, .int .i64 xg, .int .i64 xh, .int .i64 xi, .int .i64 xj, .int .i64 xk, .int .i64 xl, .int .i64 xm, .int .i64 xn, .int .i64 xo] 69)) xp xq)
theorem call130 {K : Value → Heap → Prop} {h : Heap} {xa xb xc xd xe xf xg xh xi xj xk xl xm xn xo xp xq : Int} (H : F130 K h xa xb xc xd xe xf xg xh xi xj xk xl xm xn xo xp xq) : CallH Tryz.prog 130 #[(.agg #[(.int .i64 xa), (.int .i64 xb), (.int .i64 xc), (.int .i64 xd), (.int .i64 xe), (.int .i64 xf), (.int .i64 xg), (.int .i64 xh), (.int .i64 xi), (.int .i64 xj), (.int .i64 xk), (.int .i64 xl), (.int .i64 xm), (.int .i64 xn), (.int .i64 xo)]), (.int .i64 xp), (.int .i64 xq)] h K :=
  callH_mk Tryz.func130 (by kernel_rfl) (Eq.mp (by kernel_rfl) H)
abbrev g149 (K : Value → Heap → Prop) (h H1 : Heap) : Prop :=
  (lI .i64 H1 ⟨h.size, 7, none⟩ fun n1 => K (.int .i64 n1) H1)
def F149 (K : Value → Heap → Prop) (h : Heap) (xa xb xc xd xe xf xg xh xi xj xk xl xm xn xo : Int) : Prop :=
  (g149 K h (Array.push h (.cells #[.int .i64 xa, .int .i64 xb, .int .i64 xc, .int .i64 xd, .int .i64 xe, .int .i64 xf, .int .i64 xg, .int .i64 xh, .int .i64 xi, .int .i64 xj, .int .i64 xk, .int .i64 xl, .int .i64 xm, .int .i64 xn, .int .i64 xo] 69)))
theorem call149 {K : Value → Heap → Prop} {h : Heap} {xa xb xc xd xe xf xg xh xi xj xk xl xm xn xo : Int} (H : F149 K h xa xb xc xd xe xf xg xh xi xj xk xl xm xn xo) : CallH Tryz.prog 149 #[(.agg #[(.int .i64 xa), (.int .i64 xb), (.int .i64 xc), (.int .i64 xd), (.int .i64 xe), (.int .i64 xf), (.int .i64 xg), (.int .i64 xh), (.int .i64 xi), (.int .i64 xj), (.int .i64 xk), (.int .i64 xl), (.int .i64 xm), (.int .i64 xn), (.int .i64 xo)])] h K :=
  callH_mk Tryz.func149 (by kernel_rfl) (Eq.mp (by kernel_rfl) H)
abbrev g207 (K : Value → Heap → Prop) (h H1 : Heap) (xa : Int) : Prop :=
  (exI fun I0 => (ifB (decide (xa < 0)) (I0 [.bool true, .bool true] H1) (lI .i64 H1 ⟨h.size, 14, none⟩ fun n2 => I0 [.bool (decide (xa ≥ n2)), .bool (decide (xa ≥ n2))] H1)) ∧ (∀ (v3 v4 : Value) (g5 : Env) (h6 : Heap), (I0 [v3, v4] h6) → (asBool v3 fun b7 => ifB b7 (K (.tuple #[.int .i64 5, .int .i64 0, .int .i64 0]) h6) (lI .i64 h6 ⟨h.size, 10, none⟩ fun n9 => ifB (decide (xa < n9)) (K (.tuple #[.int .i64 0, .int .i64 xa, .int .i64 0]) h6) (lI .i64 h6 ⟨h.size, 11, none⟩ fun n11 => ifB (decide (xa < n11)) (lI .i64 h6 ⟨h.size, 10, none⟩ fun n13 => lI .i64 h6 ⟨h.size, 7, none⟩ fun n15 => ((n15 : Int) ≠ 0) ∧ (lI .i64 h6 ⟨h.size, 10, none⟩ fun n17 => lI .i64 h6 ⟨h.size, 7, none⟩ fun n19 => ((n19 : Int) ≠ 0) ∧ (K (.tuple #[.int .i64 1, .int .i64 (IntKind.wrap .i64 (Int.tdiv (IntKind.wrap .i64 (xa - n13)) n15)), .int .i64 (Int.tmod (IntKind.wrap .i64 (xa - n17)) n19)]) h6))) (lI .i64 h6 ⟨h.size, 12, none⟩ fun n21 => ifB (decide (xa < n21)) (lI .i64 h6 ⟨h.size, 11, none⟩ fun n23 => K (.tuple #[.int .i64 2, .int .i64 (IntKind.wrap .i64 ((IntKind.wrap .i64 (xa - n23)) + 1)), .int .i64 0]) h6) (lI .i64 h6 ⟨h.size, 13, none⟩ fun n25 => ifB (decide (xa < n25)) (lI .i64 h6 ⟨h.size, 12, none⟩ fun n27 => lI .i64 h6 ⟨h.size, 8, none⟩ fun n29 => ((n29 : Int) ≠ 0) ∧ (lI .i64 h6 ⟨h.size, 12, none⟩ fun n31 => lI .i64 h6 ⟨h.size, 8, none⟩ fun n33 => ((n33 : Int) ≠ 0) ∧ (K (.tuple #[.int .i64 3, .int .i64 (IntKind.wrap .i64 ((IntKind.wrap .i64 (Int.tdiv (IntKind.wrap .i64 (xa - n27)) n29)) + 1)), .int .i64 (Int.tmod (IntKind.wrap .i64 (xa - n31)) n33)]) h6))) (lI .i64 h6 ⟨h.size, 13, none⟩ fun n35 => K (.tuple #[.int .i64 4, .int .i64 (IntKind.wrap .i64 (xa - n35)), .int .i64 0]) h6))))))))
def F207 (K : Value → Heap → Prop) (h : Heap) (xa xb xc xd xe xf xg xh xi xj xk xl xm xn xo xp : Int) : Prop :=
  (g207 K h (Array.push h (.cells #[.int .i64 xa, .int .i64 xb, .int .i64 xc, .int .i64 xd, .int .i64 xe, .int .i64 xf, .int .i64 xg, .int .i64 xh, .int .i64 xi, .int .i64 xj, .int .i64 xk, .int .i64 xl, .int .i64 xm, .int .i64 xn, .int .i64 xo] 69)) xp)
theorem call207 {K : Value → Heap → Prop} {h : Heap} {xa xb xc xd xe xf xg xh xi xj xk xl xm xn xo xp : Int} (H : F207 K h xa xb xc xd xe xf xg xh xi xj xk xl xm xn xo xp) : CallH Tryz.prog 207 #[(.agg #[(.int .i64 xa), (.int .i64 xb), (.int .i64 xc), (.int .i64 xd), (.int .i64 xe), (.int .i64 xf), (.int .i64 xg), (.int .i64 xh), (.int .i64 xi), (.int .i64 xj), (.int .i64 xk), (.int .i64 xl), (.int .i64 xm), (.int .i64 xn), (.int .i64 xo)]), (.int .i64 xp)] h K :=
  callH_mk Tryz.func207 (by kernel_rfl) (Eq.mp (by kernel_rfl) H)
end
end Go.Proofs.YtglgifgoojncpaaGreat
