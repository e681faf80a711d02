/- Part 6 of what the proofs of this seat rest on: see the last text of the claim. -/
import Derived.Test.YtlncjcbofgjcfaaQac86d2bc9d83
import Derived.WalkKit
import Derived.ProofKit
import Derived.OpenShut
import Derived.ShutString
import Derived.ChangeOld
import Derived.Below
import Derived.Carry
import Derived.SizedLaws
import Derived.Test.YtlncjcbofgjcfaaProg
section
/- Rows: what the arguments are, and that they stay. -/
namespace Go.Proofs.Ytlncjcbofgjcfaa
open Go.ChangeShapes Go.WideShapes Go.ChangeAt Go.RowKit
set_option linter.unusedVariables false
theorem own_knob : ownKnob Try.prog.godebug = none := by kernel_rfl
theorem laid_out : laidOutB Try.prog = true := by kernel_rfl
theorem lit64 {x : Int} (h : (Lit.int .i64 x).wf = true) : -2 ^ 63 ≤ x ∧ x < 2 ^ 63 := by
  unfold Lit.wf at h
  simp only [Bool.and_eq_true, decide_eq_true_eq] at h
  have e1 : IntKind.i64.min = -2 ^ 63 := by decide
  have e2 : IntKind.i64.max = 2 ^ 63 - 1 := by decide
  rw [e1, e2] at h
  omega
theorem same_old {W W' : World} (h : Old W.heap.size W.heap W'.heap) {p : MemPlace} (hp : p.block < W.heap.size) : W.sameAt W' p := by
  cases p with
  | cell b o => exact World.cell?_of_block (w := W) (h.2 b hp)
  | map b => exact h.2 b hp
theorem trod_old {H : Type} {enc : TypeId × Value → H} {P : Program} {t : TypeId} (hl : laidOutB P = true) (hr : P.readableRec t = true) (hrow : t < P.types.size) {W W' : World} {v : Value} {d : DataW H} {ps : List MemPlace}
    (h : DataW.Trod enc P W 0 (fun _ => true) true t v d ps) (hb : Old W.heap.size W.heap W'.heap) :
    DataW.Trod enc P W' 0 (fun b => decide (b < W.heap.size)) true t v d ps := by
  have hlt : ∀ x ∈ ps, x.block < W.heap.size := by obtain ⟨m, hm⟩ := h; exact DataW.trod_lt m _ _ _ hm
  exact WideElems.Trod_stays hl hr hrow h (fun x hx => same_old hb (hlt x hx)) (fun x hx => by simpa using hlt x hx)
theorem frame_old {W W' : World} (ho : Old W.heap.size W.heap W'.heap) (hos : W'.os = W.os) (hout : W'.output = W.output) (may : MemPlace → Prop) : W.keptBut W' may := by
  refine ⟨hos, hout, fun i hi => ?_⟩
  rw [ho.2 i hi]
  split <;> simp_all
/-- A slice of numbers among the arguments. -/
theorem arg_ints {H : Type} {enc : TypeId × Value → H} {W : World} {d : DataW H} {ps : List MemPlace} {a : Option Addr} {l c : Nat}
    (h : DataW.Trod enc Try.prog W 0 (fun _ => true) true 66 (.slice a l c) d ps) : ∃ xs : List Int, RI W.heap a l c xs ∧ ∀ x ∈ xs, -2 ^ 63 ≤ x ∧ x < 2 ^ 63 := by
  obtain ⟨fuel, hf⟩ := h
  rcases open_ints Try.underlying66 Try.underlying3 (by kernel_rfl) hf with ⟨hcs, _⟩ | ⟨x, l1, c1, zs, hcs, _, hl, hm, hz, _, hcell, hwz⟩
  · simp [Value.cells] at hcs
    obtain ⟨rfl, rfl, rfl⟩ := hcs
    exact ⟨[], RI.none _, fun x hx => by simp at hx⟩
  · simp [Value.cells] at hcs
    obtain ⟨rfl, rfl, rfl⟩ := hcs
    have hz' : zs.length = c := by simpa using hz
    refine ⟨zs.take l, ⟨?_, by simp; omega, hl⟩, fun n hn => lit64 (hwz n (List.mem_of_mem_take hn))⟩
    intro i v hi
    simp only [List.getElem?_map, List.getElem?_take] at hi
    split at hi
    · rename_i hil
      have hlt : i < zs.length := by omega
      rw [List.getElem?_eq_getElem hlt] at hi
      simp only [Option.map_some, Option.some.injEq] at hi
      subst hi
      have := hcell i hlt
      rw [List.getD_eq_getElem?_getD, List.getElem?_eq_getElem hlt] at this
      exact ⟨x, rfl, this⟩
    · simp at hi
/-- Its length is bounded by what the row may weigh. -/
theorem arg_len {H : Type} {enc : TypeId × Value → H} {W : World} {d : DataW H} {ps : List MemPlace} {a : Option Addr} {l c : Nat} {ts : List TypeId} {ds : List (DataW H)} {j : Nat}
    (hsz : (DataW.weightsEach Try.prog ts ds).all (· ≤ reachBytes) = true) (ht : ts[j]? = some 66) (hd : ds[j]? = some d)
    (h : DataW.Trod enc Try.prog W 0 (fun _ => true) true 66 (.slice a l c) d ps) : l < 2 ^ 60 := by
  obtain ⟨fuel, hf⟩ := h
  rcases open_ints Try.underlying66 Try.underlying3 (by kernel_rfl) hf with ⟨hcs, _⟩ | ⟨x, l1, c1, zs, hcs, _, hl, _, hz, hx, _, _⟩
  · simp [Value.cells] at hcs
    omega
  · simp [Value.cells] at hcs
    obtain ⟨rfl, rfl, rfl⟩ := hcs
    obtain ⟨rfl, _⟩ := Prod.mk.inj hx
    have z := sized_slice hsz ht hd Try.underlying66
    have hb : Program.bytesOf Try.prog 3 = 8 := by kernel_rfl
    rw [hb] at z
    have hr : reachBytes ≤ 2 ^ 50 := by decide
    simp [lits] at z hz
    omega
end Go.Proofs.Ytlncjcbofgjcfaa
end
section
/- The contracts of what makes lists least. -/
set_option linter.unusedSimpArgs false
set_option linter.unusedVariables false
set_option maxRecDepth 20000
namespace Go.Proofs.Ytlncjcbofgjcfaa

theorem asTup_tuple (cs : Array Value) (F : Array Value → Prop) : asTup (.tuple cs) F = F cs := rfl
theorem elem20 (a b : Value) (F : Value → Prop) : elemH #[a, b] 0 F = F a := rfl
theorem elem21 (a b : Value) (F : Value → Prop) : elemH #[a, b] 1 F = F b := rfl
theorem kind_int : intKindOf Try.prog 3 = some .i64 := by kernel_rfl
theorem minmax_int (f : Int → Int → Int) (a b : Int) (F : Int → Prop) : minmax f Try.prog 3 [.int .i64 a, .int .i64 b] F = F (f a b) := by
  unfold minmax
  simp only [kind_int, asInt_int]
  unfold minmax.go
  simp only [asInt_int]
  rfl

/-- A pure test of lists. -/
def BadAt (bad : Value) (F : List Int → Bool) (h : Heap) : Prop :=
  (∃ f x y, bad = .func f x y) ∧ ∃ Ev : Heap → Prop, Ev h ∧ (∀ h h', Old h.size h h' → Ev h → Ev h') ∧
    ∀ (h : Heap) (a : Option Addr) (l c : Nat) (xs : List Int) (K : Value → Heap → Prop), Ev h → RI h a l c xs → l ≤ 100 → (∀ h', Old h.size h h' → K (.bool (F xs)) h') → callV Try.prog bad #[.slice a l c] h K
theorem BadAt.old {bad : Value} {F : List Int → Bool} {h h' : Heap} (H : BadAt bad F h) (ho : Old h.size h h') : BadAt bad F h' := by
  obtain ⟨e, Ev, h1, h2, h3⟩ := H
  exact ⟨e, Ev, h2 _ _ ho h1, h2, h3⟩
theorem BadAt.call {bad : Value} {F : List Int → Bool} {h : Heap} (H : BadAt bad F h) {a : Option Addr} {l c : Nat} {xs : List Int} {K : Value → Heap → Prop} (hr : RI h a l c xs) (hl : l ≤ 100) (k : ∀ h', Old h.size h h' → K (.bool (F xs)) h') :
    callV Try.prog bad #[.slice a l c] h K := by
  obtain ⟨_, Ev, h1, _, h3⟩ := H
  exact h3 _ _ _ _ _ _ h1 hr hl k

end Go.Proofs.Ytlncjcbofgjcfaa
end
section
/- Rows of one's own, written and read place by place. -/
set_option linter.unusedSimpArgs false
set_option linter.unusedVariables false
set_option maxRecDepth 20000
namespace Go.Proofs.Ytlncjcbofgjcfaa

theorem asAgg_agg (cs : Array Value) (F : Array Value → Prop) : asAgg (.agg cs) F = F cs := rfl
theorem sizeH_mk {cs : Array Value} {n : Nat} {X : Prop} (h : cs.size = n) (x : X) : sizeH cs n X := by
  unfold sizeH
  rw [show Nat.beq cs.size n = true by rw [h]; exact Nat.beq_refl n]
  exact x
theorem elemH_mk {cs : List Value} {i : Nat} {v : Value} {F : Value → Prop} (h : cs[i]? = some v) (x : F v) : elemH cs.toArray i F := by unfold elemH; rw [List.getElem?_toArray, h]; exact x
theorem cellR {h : Heap} {b i : Nat} {v : Value} {row : List Value} {t : TypeId} (hb : h[b]? = some (.cells row.toArray t)) (e : row[i]? = some v) : cellAt h ⟨b, i, none⟩ = some v := by
  rw [cellAt_of hb, List.getElem?_toArray]; exact e
theorem ldR {h : Heap} {b i : Nat} {v : Value} {row : List Value} {t : TypeId} {K : Value → Prop} (hb : h[b]? = some (.cells row.toArray t)) (e : row[i]? = some v) (k : K v) : ldH h ⟨b, i, none⟩ K :=
  ldH_mk (cellR hb e) k
/-- Behind a write to block b. -/
structure Wrote (h : Heap) (b : Nat) (row : Array Value) (t : TypeId) (h' : Heap) : Prop where
  size : h'.size = h.size
  new : h'[b]? = some (.cells row t)
  old : ∀ c, c ≠ b → h'[c]? = h[c]?
theorem Wrote.trans {h h' h'' : Heap} {b : Nat} {row row' : Array Value} {t t' : TypeId} (x : Wrote h b row t h') (y : Wrote h' b row' t' h'') : Wrote h b row' t' h'' :=
  ⟨y.size.trans x.size, y.new, fun c hc => (y.old c hc).trans (x.old c hc)⟩
theorem Wrote.toOld {N : Nat} {g h h' : Heap} {b : Nat} {row : Array Value} {t : TypeId} (x : Wrote h b row t h') (o : Old N g h) (hb : N ≤ b) : Old N g h' :=
  ⟨by rw [x.size]; exact o.1, fun c hc => (x.old c (by omega)).trans (o.2 c hc)⟩
theorem stR {h : Heap} {b i : Nat} {v : Value} {row : List Value} {t : TypeId} {K : Heap → Prop} (hb : h[b]? = some (.cells row.toArray t)) (hi : Nat.ble (i + 1) row.length = true) (ho : oneC v True)
    (k : ∀ h', Wrote h b (row.set i v).toArray t h' → K h') : stH h ⟨b, i, none⟩ v K := by
  have hlt := (Array.getElem?_eq_some_iff.1 hb).1
  refine stH_mk hb (by rw [List.size_toArray]; exact Nat.le_of_ble_eq_true hi) ho ?_
  rintro h' rfl
  exact k _ ⟨by simp, by rw [set_new hlt, List.setIfInBounds_toArray], fun c hc => set_old hc⟩
theorem stN_full {vs : List Value} {h : Heap} {b : Nat} {row : Array Value} {t : TypeId} {K : Heap → Prop} (hb : h[b]? = some (.cells row t)) (hl : vs.length = row.size) (ho : ∀ y ∈ vs, oneC y True)
    (k : ∀ h', Wrote h b vs.toArray t h' → K h') : stN h ⟨b, 0, none⟩ 0 vs K := by
  have hlt := (Array.getElem?_eq_some_iff.1 hb).1
  refine stN_row vs h b 0 0 row t K hb (by omega) ho ?_
  intro row' h1 h2
  have e : row' = vs.toArray := by
    apply Array.ext_getElem?
    intro j
    rw [h2 j]
    by_cases hj : j < vs.length
    · rw [if_pos (by omega)]; simp
    · rw [if_neg (by omega), Array.getElem?_eq_none (by omega), Array.getElem?_eq_none (by simp; omega)]
  subst e
  exact k _ ⟨by simp, set_new hlt, fun c hc => set_old hc⟩
theorem st3 {h : Heap} {b : Nat} {v0 v1 v2 : Value} {K : Heap → Prop} (H : stN h ⟨b, 0, none⟩ 0 [v0, v1, v2] K) : stH h ⟨b, 0, none⟩ v0 fun h => stH h ⟨b, 1, none⟩ v1 fun h => stH h ⟨b, 2, none⟩ v2 K := H
theorem st7 {h : Heap} {b : Nat} {v0 v1 v2 v3 v4 v5 v6 : Value} {K : Heap → Prop} (H : stN h ⟨b, 0, none⟩ 0 [v0, v1, v2, v3, v4, v5, v6] K) :
    stH h ⟨b, 0, none⟩ v0 fun h => stH h ⟨b, 1, none⟩ v1 fun h => stH h ⟨b, 2, none⟩ v2 fun h => stH h ⟨b, 3, none⟩ v3 fun h => stH h ⟨b, 4, none⟩ v4 fun h => stH h ⟨b, 5, none⟩ v5 fun h => stH h ⟨b, 6, none⟩ v6 K := H
theorem st15 {h : Heap} {b : Nat} {v0 v1 v2 v3 v4 v5 v6 v7 v8 v9 v10 v11 v12 v13 v14 : Value} {K : Heap → Prop} (H : stN h ⟨b, 0, none⟩ 0 [v0, v1, v2, v3, v4, v5, v6, v7, v8, v9, v10, v11, v12, v13, v14] K) :
    stH h ⟨b, 0, none⟩ v0 fun h => stH h ⟨b, 1, none⟩ v1 fun h => stH h ⟨b, 2, none⟩ v2 fun h => stH h ⟨b, 3, none⟩ v3 fun h => stH h ⟨b, 4, none⟩ v4 fun h => stH h ⟨b, 5, none⟩ v5 fun h => stH h ⟨b, 6, none⟩ v6 fun h =>
    stH h ⟨b, 7, none⟩ v7 fun h => stH h ⟨b, 8, none⟩ v8 fun h => stH h ⟨b, 9, none⟩ v9 fun h => stH h ⟨b, 10, none⟩ v10 fun h => stH h ⟨b, 11, none⟩ v11 fun h => stH h ⟨b, 12, none⟩ v12 fun h => stH h ⟨b, 13, none⟩ v13 fun h => stH h ⟨b, 14, none⟩ v14 K := H
/-- A new block. -/
structure Pushed (h : Heap) (row : Array Value) (t : TypeId) (h' : Heap) : Prop where
  size : h'.size = h.size + 1
  new : h'[h.size]? = some (.cells row t)
  old : ∀ c, c < h.size → h'[c]? = h[c]?
theorem pushed (h : Heap) (row : Array Value) (t : TypeId) : Pushed h row t (h.push (.cells row t)) := ⟨by simp, push_new _ _, fun c hc => push_old _ _ _ hc⟩
theorem Pushed.toOld {h h' : Heap} {row : Array Value} {t : TypeId} (x : Pushed h row t h') : Old h.size h h' := ⟨by rw [x.size]; omega, x.old⟩
end Go.Proofs.Ytlncjcbofgjcfaa
end
section
/- Rows of things of n cells: read, parts of them, copied into, cleared. -/
set_option linter.unusedSimpArgs false
set_option linter.unusedVariables false
set_option maxRecDepth 20000
namespace Go.Proofs.Ytlncjcbofgjcfaa

/-! ### frames -/
/-- Nothing changes but what S names. -/
def Fr (S : Nat → Prop) (h h' : Heap) : Prop := h.size ≤ h'.size ∧ ∀ b, b < h.size → ¬ S b → h'[b]? = h[b]?
def blk (a : Option Addr) (b : Nat) : Prop := ∃ ad, a = some ad ∧ ad.block = b
theorem Fr.refl (S : Nat → Prop) (h : Heap) : Fr S h h := ⟨Nat.le_refl _, fun _ _ _ => rfl⟩
theorem Fr.trans {S : Nat → Prop} {h h' h'' : Heap} (x : Fr S h h') (y : Fr S h' h'') : Fr S h h'' := ⟨Nat.le_trans x.1 y.1, fun b hb hS => (y.2 b (Nat.lt_of_lt_of_le hb x.1) hS).trans (x.2 b hb hS)⟩
theorem Fr.mono {S T : Nat → Prop} {h h' : Heap} (x : Fr S h h') (H : ∀ b, b < h.size → S b → T b) : Fr T h h' := ⟨x.1, fun b hb hT => x.2 b hb fun hS => hT (H b hb hS)⟩
/-- The later part may change what is new. -/
theorem Fr.trans2 {S T : Nat → Prop} {h h' h'' : Heap} (x : Fr S h h') (y : Fr T h' h'') (H : ∀ b, b < h.size → T b → S b) : Fr S h h'' := ⟨Nat.le_trans x.1 y.1, fun b hb hS => (y.2 b (Nat.lt_of_lt_of_le hb x.1) fun hT => hS (H b hb hT)).trans (x.2 b hb hS)⟩
theorem Old.fr {h h' : Heap} (S : Nat → Prop) (o : Old h.size h h') : Fr S h h' := ⟨o.1, fun b hb _ => o.2 b hb⟩
theorem Fr.old {h h' : Heap} {S : Nat → Prop} (o : Fr S h h') (H : ∀ b, b < h.size → ¬ S b) : Old h.size h h' := ⟨o.1, fun b hb => o.2 b hb (H b hb)⟩
theorem Fr.low {h h' : Heap} {S : Nat → Prop} {N : Nat} (o : Fr S h h') (hN : N ≤ h.size) (H : ∀ b, b < N → ¬ S b) : Old N h h' := ⟨o.1, fun b hb => o.2 b (by omega) (H b hb)⟩

/-! ### things of n cells -/
section
variable {α : Type} {f : α → List Value} {n : Nat}
theorem flat_len (hf : ∀ x, (f x).length = n) (l : List α) : (l.flatMap f).length = l.length * n := by
  induction l with
  | nil => simp
  | cons x l ih => rw [List.flatMap_cons, List.length_append, ih, hf, List.length_cons, Nat.add_mul]; omega
theorem flat_get (hf : ∀ x, (f x).length = n) {l : List α} : ∀ {i : Nat} (hi : i < l.length) {j : Nat}, j < n → (l.flatMap f)[i * n + j]? = (f l[i])[j]? := by
  induction l with
  | nil => intro i hi; simp at hi
  | cons x l ih =>
    intro i hi j hj
    rw [List.flatMap_cons]
    cases i with
    | zero => rw [List.getElem?_append_left (by rw [hf]; omega)]; simp
    | succ i =>
      have e : (i + 1) * n + j = n + (i * n + j) := by rw [Nat.add_mul]; omega
      rw [List.getElem?_append_right (by rw [hf, e]; omega), hf, e, Nat.add_sub_cancel_left]
      exact ih (by simpa using hi) hj
theorem flat_take (hf : ∀ x, (f x).length = n) (l : List α) : ∀ i, (l.flatMap f).take (i * n) = (l.take i).flatMap f := by
  induction l with
  | nil => intro i; simp
  | cons x l ih =>
    intro i
    cases i with
    | zero => simp
    | succ i =>
      rw [List.flatMap_cons, List.take_succ_cons, List.flatMap_cons, List.take_append, hf, List.take_of_length_le (by rw [hf, Nat.add_mul]; omega), show (i + 1) * n - n = i * n by rw [Nat.add_mul]; omega, ih]
theorem flat_drop (hf : ∀ x, (f x).length = n) (l : List α) : ∀ i, (l.flatMap f).drop (i * n) = (l.drop i).flatMap f := by
  induction l with
  | nil => intro i; simp
  | cons x l ih =>
    intro i
    cases i with
    | zero => simp
    | succ i =>
      rw [List.flatMap_cons, List.drop_succ_cons, List.drop_append, hf, List.drop_eq_nil_of_le (by rw [hf, Nat.add_mul]; omega), List.nil_append, show (i + 1) * n - n = i * n by rw [Nat.add_mul]; omega, ih]

/-- A slice of things, to be read. -/
structure SX (f : α → List Value) (h : Heap) (a : Option Addr) (l c : Nat) (xs : List α) : Prop where
  s : Sees h a (xs.flatMap f)
  len : xs.length = l
  cap : l ≤ c
theorem SX.old {h h' : Heap} {a : Option Addr} {l c : Nat} {xs : List α} (H : SX f h a l c xs) (ho : Old h.size h h') : SX f h' a l c xs := ⟨H.s.old ho, H.len, H.cap⟩
theorem SX.keep {h h' : Heap} {a : Option Addr} {l c : Nat} {xs : List α} (H : SX f h a l c xs) (k : ∀ ad, a = some ad → h'[ad.block]? = h[ad.block]?) : SX f h' a l c xs := ⟨H.s.keep k, H.len, H.cap⟩
theorem SX.at (hf : ∀ x, (f x).length = n) (hn : 0 < n) {h : Heap} {a : Option Addr} {l c : Nat} {xs : List α} (H : SX f h a l c xs) {i : Nat} (hi : i < xs.length) :
    ∃ ad, a = some ad ∧ ∀ (j : Nat) (v : Value), (f xs[i])[j]? = some v → cellAt h ((ad.add (i * n)).add j) = some v := by
  have h0 : (xs.flatMap f)[i * n + 0]? = (f xs[i])[0]? := flat_get hf hi hn
  have h1 : (f xs[i])[0]? = some ((f xs[i])[0]'(by rw [hf]; exact hn)) := List.getElem?_eq_getElem _
  rw [h1] at h0
  obtain ⟨ad, e, _⟩ := H.s _ _ h0
  refine ⟨ad, e, fun j v hv => ?_⟩
  have hj : j < n := by have := (List.getElem?_eq_some_iff.1 hv).1; rwa [hf] at this
  obtain ⟨ad', e', hc⟩ := H.s (i * n + j) v ((flat_get hf hi hj).trans hv)
  rw [e] at e'; cases e'
  rw [add_add]; exact hc
theorem Sees.subn {h : Heap} {a : Option Addr} {vs : List Value} (H : Sees h a vs) {i m : Nat} (hm : vs.length ≤ m * n) (hi : i ≤ m) : Sees h (subA a i m n) (vs.drop (i * n)) := by
  intro j v hj
  unfold subA
  rw [List.getElem?_drop] at hj
  have hlt : i * n + j < vs.length := (List.getElem?_eq_some_iff.1 hj).1
  obtain ⟨ad, rfl, hc⟩ := H _ _ hj
  have hne : m ≠ i := fun e => by subst e; omega
  rw [if_neg hne]
  exact ⟨_, rfl, by rw [add_add]; exact hc⟩
theorem SX.drop (hf : ∀ x, (f x).length = n) {h : Heap} {a : Option Addr} {l c : Nat} {xs : List α} (H : SX f h a l c xs) {i : Nat} (hi : i ≤ l) : SX f h (subA a i c n) (l - i) (c - i) (xs.drop i) := by
  refine ⟨?_, by simp [H.len], by have := H.cap; omega⟩
  rw [← flat_drop hf]
  refine H.s.subn ?_ (by have := H.cap; omega)
  rw [flat_len hf, H.len]; exact Nat.mul_le_mul_right _ H.cap
theorem subA_zero (a : Option Addr) (c n : Nat) : subA a 0 c n = a := by
  unfold subA
  split
  · rfl
  · rw [Nat.zero_mul]; cases a <;> rfl
theorem SX.take (hf : ∀ x, (f x).length = n) {h : Heap} {a : Option Addr} {l c : Nat} {xs : List α} (H : SX f h a l c xs) {i : Nat} (hi : i ≤ l) : SX f h a i c (xs.take i) := by
  refine ⟨?_, by simp [H.len]; omega, by have := H.cap; omega⟩
  rw [← flat_take hf]
  exact H.s.take _
theorem SX.none {h : Heap} {l c : Nat} {xs : List α} (hf : ∀ x, (f x).length = n) (hn : 0 < n) (H : SX f h none l c xs) : l = 0 ∧ xs = [] := by
  cases xs with
  | nil => exact ⟨H.len.symm, rfl⟩
  | cons x xs => obtain ⟨_, e, _⟩ := H.at hf hn (i := 0) (by simp); cases e
theorem Own.sx (hf : ∀ x, (f x).length = n) (hn : 0 < n) {h : Heap} {t : TypeId} {a : Option Addr} {l c : Nat} {xs : List α} (H : Own h t n a l c (xs.flatMap f)) : SX f h a l c xs := by
  refine ⟨H.sees, ?_, H.2.1⟩
  have := H.1
  rw [flat_len hf] at this
  exact Nat.eq_of_mul_eq_mul_right hn this
end

/-! ### rows of one's own -/
theorem Own.take {h : Heap} {t : TypeId} {n : Nat} {a : Option Addr} {l c : Nat} {xs : List Value} (H : Own h t n a l c xs) {i : Nat} (hi : i ≤ l) : Own h t n a i c (xs.take (i * n)) := by
  obtain ⟨h1, h2, h3⟩ := H
  have him : i * n ≤ l * n := Nat.mul_le_mul_right _ hi
  refine ⟨by simp; omega, by omega, h3.imp id ?_⟩
  rintro ⟨b, row, e, hb, hs, ht⟩
  exact ⟨b, row, e, hb, hs, by rw [← ht, List.take_take, Nat.min_eq_left him]⟩
theorem Own.grow {h : Heap} {t : TypeId} {n : Nat} {a : Option Addr} {l c : Nat} {xs : List Value} (H : Own h t n a l c xs) {m : Nat} (hm : l ≤ m) (hc : m ≤ c) : ∃ ys, ys.length = (m - l) * n ∧ Own h t n a m c (xs ++ ys) := by
  obtain ⟨h1, h2, h3⟩ := H
  rcases h3 with ⟨rfl, hc0⟩ | ⟨b, row, e, hb, hs, ht⟩
  · have e1 : m = 0 := by omega
    have e2 : l = 0 := by omega
    subst e1; subst e2
    exact ⟨[], by simp, by simpa using h1, hc, .inl ⟨rfl, hc0⟩⟩
  · have h4 : l * n ≤ m * n := Nat.mul_le_mul_right _ hm
    have h5 : m * n ≤ c * n := Nat.mul_le_mul_right _ hc
    have e6 : l * n + (m * n - l * n) = m * n := by omega
    have hrl : row.toList.length = c * n := by rw [Array.length_toList, hs]
    refine ⟨(row.toList.drop (l * n)).take (m * n - l * n), ?_, ?_, hc, .inr ⟨b, row, e, hb, hs, ?_⟩⟩
    · rw [List.length_take, List.length_drop, hrl, Nat.sub_mul]; omega
    · rw [List.length_append, List.length_take, List.length_drop, hrl]; omega
    · rw [← ht, ← List.take_add, e6]
theorem Own.lt2 {h : Heap} {t : TypeId} {n : Nat} {a : Option Addr} {l c : Nat} {xs : List Value} (H : Own h t n a l c xs) {b : Nat} (hb : blk a b) : b < h.size := by
  obtain ⟨ad, e, rfl⟩ := hb
  exact H.lt ad e
theorem Own.fr {S : Nat → Prop} {h h' : Heap} {t : TypeId} {n : Nat} {a : Option Addr} {l c : Nat} {xs : List Value} (H : Own h t n a l c xs) (x : Fr S h h') (hS : ∀ b, blk a b → ¬ S b) : Own h' t n a l c xs :=
  H.keep fun ad e => x.2 _ (H.lt ad e) (hS _ ⟨ad, e, rfl⟩)
/-- Cells written into a row of one's own. -/
theorem Own.write {h : Heap} {t : TypeId} {n : Nat} {a : Option Addr} {ad : Addr} {l c : Nat} {xs vs : List Value} {off : Nat} {K : Heap → Prop} (ho : Own h t n a l c xs) (ea : a = some ad) (hv : off + vs.length ≤ c * n) (hone : ∀ y ∈ vs, oneC y True)
    (k : ∀ h', (∀ i, i * n ≤ off → i ≤ l → Own h' t n a i c (xs.take (i * n))) → (off + vs.length ≤ l * n → Own h' t n a l c (xs.take off ++ vs ++ xs.drop (off + vs.length))) → Fr (blk a) h h' → h'.size = h.size → K h') : stN h (ad.add off) 0 vs K := by
  obtain ⟨h1, h2, h3⟩ := ho
  rcases h3 with ⟨rfl, hc0⟩ | ⟨b, row, e, hb, hs, ht⟩
  · cases ea
  rw [ea] at e; cases e
  rw [add_lit, Nat.zero_add]
  have hlt := (Array.getElem?_eq_some_iff.1 hb).1
  refine stN_row vs h b off 0 row t K hb (by omega) hone ?_
  intro row' r1 r2
  have hl : l * n ≤ c * n := Nat.mul_le_mul_right _ h2
  refine k _ (fun i hi hil => ⟨?_, by omega, .inr ⟨b, row', ea, set_new hlt, by rw [r1, hs], ?_⟩⟩) (fun hin => ⟨?_, h2, .inr ⟨b, row', ea, set_new hlt, by rw [r1, hs], ?_⟩⟩) ⟨by simp, fun b' hb' hne => set_old (fun e => hne ⟨_, ea, e.symm⟩)⟩ (by simp)
  · have := Nat.mul_le_mul_right n hil
    rw [List.length_take]; omega
  · have := Nat.mul_le_mul_right n hil
    rw [← ht, List.take_take, Nat.min_eq_left this]
    apply List.ext_getElem?
    intro j
    rw [List.getElem?_take, List.getElem?_take]
    split
    · rw [Array.getElem?_toList, r2 j, if_neg (by omega), Array.getElem?_toList]
    · rfl
  · rw [List.length_append, List.length_append, List.length_take, List.length_drop]; omega
  · apply List.ext_getElem?
    intro j
    have hx : ∀ j, j < l * n → xs[j]? = row[j]? := fun j hj => by rw [← ht, List.getElem?_take, if_pos hj, Array.getElem?_toList]
    rw [List.getElem?_take, Array.getElem?_toList, r2 j]
    by_cases c1 : j < off
    · rw [if_pos (by omega), if_neg (by omega), List.append_assoc, List.getElem?_append_left (by rw [List.length_take]; omega), List.getElem?_take, if_pos c1, hx j (by omega)]
    · by_cases c2 : j < off + vs.length
      · rw [if_pos (by omega), if_pos (by omega), List.append_assoc, List.getElem?_append_right (by rw [List.length_take]; omega), List.length_take, Nat.min_eq_left (by omega), List.getElem?_append_left (by omega)]
        congr 1 <;> omega
      · rw [List.append_assoc, List.getElem?_append_right (by rw [List.length_take]; omega), List.length_take, Nat.min_eq_left (by omega), List.getElem?_append_right (by omega), List.getElem?_drop]
        by_cases c3 : j < l * n
        · rw [if_pos c3, if_neg (by omega), ← hx j c3]
          congr 1 <;> omega
        · rw [if_neg c3]
          symm; apply List.getElem?_eq_none; omega

theorem hp_first {P : Program} {h : Heap} {a : Option Addr} {vs : List Value} {m sz l c : Nat} {F : Array Value → Heap → Prop} (hs : Sees h a vs) (hn : vs.length = m * sz) (k : F vs.toArray h) : hp P (Builtin.firstCells sz m (.slice a l c)) F h := by
  cases a with
  | none =>
    have : vs = [] := by
      cases vs with
      | nil => rfl
      | cons y ys => obtain ⟨ad, e, _⟩ := hs 0 y rfl; cases e
    subst this; exact k
  | some ad =>
    show hp P (loadCells ad (m * sz)) F h
    refine hp_loadCellsFrom ad _ 0 [] F ?_
    rw [← hn]
    refine ldN_sees vs 0 [] _ (fun j v hj => ?_) (by simpa using k)
    obtain ⟨ad', e, hc⟩ := hs j v hj
    cases e; rwa [Nat.zero_add]

/-- copy into a part of a row of one's own. -/
theorem copy_own {P : Program} {t elem rt : TypeId} {h : Heap} {a a2 a3 : Option Addr} {l c i dl dc sl sc m : Nat} {xs vs : List Value} {K : Value → Heap → Prop}
    (hu : und P t = .slice elem) (hth : there P elem = true) (ho : Own h elem (siz P elem) a l c xs) (hs : Sees h a2 vs) (hm : m = min sl dl) (hn : vs.length = m * siz P elem) (hone : ∀ y ∈ vs, oneC y True) (hi : i + m ≤ l)
    (h3 : m = 0 ∨ ∃ ad, a = some ad ∧ a3 = some (ad.add (i * siz P elem)))
    (k : ∀ h', Own h' elem (siz P elem) a l c (xs.take (i * siz P elem) ++ vs ++ xs.drop ((i + m) * siz P elem)) → Fr (blk a) h h' → h'.size = h.size → K (iv m) h') :
    copyH P #[t, t] rt #[.slice a3 dl dc, .slice a2 sl sc] h K := by
  have hu' := und_some hu (by simp)
  unfold copyH Builtin.copy_
  simp only [List.getElem?_toArray, List.getElem?_cons_zero, List.getElem?_cons_succ, hp_bind, hp_pure, hp_underlying hu', hp_sizeOf hth]
  show hp P (Builtin.lenOf _) _ h
  simp only [Builtin.lenOf, hp_pure, hp_bind, hp_sizeOf hth]
  have em : Nat.min sl dl = m := hm.symm
  rw [em]
  refine hp_first hs hn ?_
  rcases Nat.eq_zero_or_pos m with e0 | hp0
  · have : vs = [] := by rw [e0] at hn; simpa using hn
    subst this
    subst e0
    have fin := k h (by simpa using ho) (Fr.refl _ _) rfl
    cases a3 with
    | none => exact fin
    | some ad => exact fin
  · obtain ⟨ad, ea, e3⟩ := h3.resolve_left (by omega)
    subst e3
    simp only [hp_bind]
    refine hp_storeCells _ _ h 0 _ ?_
    have hbd : i * siz P elem + vs.length ≤ l * siz P elem := by rw [hn, ← Nat.add_mul]; exact Nat.mul_le_mul_right _ hi
    have hcl : l * siz P elem ≤ c * siz P elem := Nat.mul_le_mul_right _ ho.2.1
    refine Own.write ho ea (by omega) (by simpa using hone) fun h' w1 w2 w3 w4 => ?_
    have := w2 hbd
    simp only [hp_pure]
    refine k h' ?_ w3 w4
    rw [Nat.add_mul, ← hn]; exact this

theorem zc_one {z : Array Value} (hz : ∀ y ∈ z.toList, oneC y True) (m : Nat) : ∀ y ∈ (Builtin.zeroCells z m).toList, oneC y True := by
  intro y hy
  unfold Builtin.zeroCells at hy
  simp only [Array.toList_map, List.mem_map] at hy
  obtain ⟨i, hi, rfl⟩ := hy
  simp at hi
  have hzp : 0 < z.size := by
    rcases Nat.eq_zero_or_pos z.size with e | e
    · rw [e] at hi; omega
    · exact e
  have hlt : i % z.size < z.size := Nat.mod_lt _ hzp
  rw [getElem!_pos z _ hlt]
  exact hz _ (by simp)
/-- clear of what lies behind the first ones. -/
theorem clear_own {P : Program} {t elem rt : TypeId} {z : Value} {h : Heap} {a a3 : Option Addr} {l c i m dc : Nat} {xs : List Value} {K : Value → Heap → Prop}
    (hu : und P t = .slice elem) (hz : zer P elem = some z) (hzs : z.cells.size = siz P elem) (hz1 : ∀ y ∈ z.cells.toList, oneC y True) (ho : Own h elem (siz P elem) a l c xs) (hi : i ≤ l) (him : i + m ≤ c)
    (h3 : m = 0 ∨ ∃ ad, a = some ad ∧ a3 = some (ad.add (i * siz P elem)))
    (k : ∀ h', Own h' elem (siz P elem) a i c (xs.take (i * siz P elem)) → Fr (blk a) h h' → h'.size = h.size → K (.tuple #[]) h') :
    clrH P #[t] rt #[.slice a3 m dc] h K := by
  have hu' := und_some hu (by simp)
  unfold clrH Builtin.clear_
  simp only [List.getElem?_toArray, List.getElem?_cons_zero, hp_bind, hp_pure, hp_underlying hu']
  have fin := k h (ho.take hi) (Fr.refl _ _) rfl
  cases a3 with
  | none => simp only [hp_pure]; exact fin
  | some ad3 =>
    cases m with
    | zero => simp only [hp_pure]; exact fin
    | succ m =>
      obtain ⟨ad, ea, e3⟩ := h3.resolve_left (by omega)
      cases e3
      simp only [hp_bind, hp_zeroValue hz]
      refine hp_storeCells _ _ h 0 _ ?_
      have hzc : (Builtin.zeroCells z.cells (m + 1)).toList.length = (m + 1) * siz P elem := by rw [Array.length_toList, zeroCells_size, hzs]
      refine Own.write ho ea ?_ (zc_one hz1 _) fun h' w1 w2 w3 w4 => ?_
      · rw [hzc, ← Nat.add_mul]; exact Nat.mul_le_mul_right _ him
      · simp only [hp_pure]
        exact k h' (w1 i (Nat.le_refl _) hi) w3 w4
/-- append of zeros to a row that has no room for them. -/
theorem app_zeros {P : Program} {t elem it : TypeId} {z : Value} {h : Heap} {a : Option Addr} {l c : Nat} {m : Nat} {xs : List Value} {K : Value → Heap → Prop}
    (hu : und P t = .slice elem) (hi : und P it = .int .i64) (hth : there P elem = true) (hz : zer P elem = some z) (hzs : z.cells.size = siz P elem) (ho : Own h elem (siz P elem) a l c xs) (hm : 0 < m) (hs0 : 0 < siz P elem) (hc : c < l + m) (hb0 : 0 < byt P elem) (hb : (2 * (l + m) + 512) * byt P elem ≤ 2 ^ 48)
    (k : ∀ cap h' ys, ys.length = m * siz P elem → Own h' elem (siz P elem) (some ⟨h.size, 0, none⟩) (l + m) cap (xs ++ ys) → h'.size = h.size + 1 → Old h.size h h' → K (.slice (some ⟨h.size, 0, none⟩) (l + m) cap) h') :
    appH P #[t, it] t #[.slice a l c, iv m] h K := by
  have hu' := und_some hu (by simp)
  have hi' := und_some hi (by simp)
  obtain ⟨info, hinfo⟩ := there_some hth
  have hbyt : info.bytes = byt P elem := by unfold byt; rw [hinfo]
  obtain ⟨hl, hlc, hor⟩ := id ho
  unfold appH Builtin.append_
  simp only [List.getElem?_toArray, List.getElem?_cons_zero, List.getElem?_cons_succ, hp_bind, hp_pure, hp_underlying hu', hp_underlying hi', hp_sizeOf hth, if_true]
  rw [show Go.asInt (iv (m : Int)) = (pure (m : Int) : Sem Int) from rfl]
  have hm60 : (m : Int) ≤ 2 ^ 60 := by
    have h0 : 2 * (l + m) + 512 ≤ (2 * (l + m) + 512) * byt P elem := Nat.le_mul_of_pos_right _ hb0
    have : 2 * (l + m) + 512 ≤ 2 ^ 48 := Nat.le_trans h0 hb
    omega
  simp only [hp_pure]
  rw [wrap64_id' (by omega) (by omega)]
  rw [if_neg (by omega)]
  simp only [hp_pure, hp_typeInfo hinfo, hp_bind]
  have hmb : ¬ (m : Int) * (info.bytes : Int) > 2 ^ 48 := by
    rw [hbyt]
    have : m * byt P elem ≤ (2 * (l + m) + 512) * byt P elem := Nat.mul_le_mul_right _ (by omega)
    have h2 : m * byt P elem ≤ 2 ^ 48 := Nat.le_trans this hb
    have h3 : ((m * byt P elem : Nat) : Int) ≤ 2 ^ 48 := by exact_mod_cast h2
    rw [Int.natCast_mul] at h3
    omega
  rw [if_neg hmb]
  simp only [hp_pure, Int.toNat_natCast]
  simp only [hp_bind, hp_pure]
  rw [hp_ite, if_neg (by omega)]
  have hneed : ¬ ((l + m : Nat) : Int) > IntKind.i64.max := by
    have h0 : 2 * (l + m) + 512 ≤ (2 * (l + m) + 512) * byt P elem := Nat.le_mul_of_pos_right _ hb0
    have h1 : 2 * (l + m) + 512 ≤ 2 ^ 48 := Nat.le_trans h0 hb
    have h2 : IntKind.i64.max = 9223372036854775807 := rfl
    rw [h2]; omega
  have hbound : ¬ Builtin.nextslicecap (l + m) c * info.bytes > 2 ^ 48 := by
    rw [hbyt]
    have := Nat.le_trans (Nat.mul_le_mul_right (byt P elem) (nextcap_le (l + m) c (by omega))) hb
    omega
  simp only [hp_bind, hp_pure, hp_typeInfo hinfo, hp_ite]
  rw [if_neg (fun x => hneed x.1), if_neg hbound]
  show ∀ tp, _
  intro tp
  rw [if_neg (by simp [Question.forced])]
  obtain ⟨cap, hcp⟩ : ∃ cap, cap = (Question.appendCap (l + m) c elem).cut tp := ⟨_, rfl⟩
  have hcap2 : l + m ≤ cap := by rw [hcp]; simp [Question.cut]
  rw [← hcp]
  rw [show (Sem.pure cap : Sem Nat) = pure cap from rfl]
  simp only [hp_bind, hp_pure, hp_typeInfo hinfo, hp_askRoom]
  refine hp_first ho.sees hl ?_
  rw [hp_bind, if_neg (by simp), hp_ite, if_neg (by have := Nat.mul_pos hm hs0; omega)]
  simp only [hp_bind, hp_zeroValue hz, hp_pure]
  show K (.slice (some ⟨h.size, 0, none⟩) (l + m) cap) (h.push _)
  have hzc : (Builtin.zeroCells z.cells (cap - (l + m))).size = (cap - (l + m)) * siz P elem := by rw [zeroCells_size, hzs]
  have hzm : (Builtin.zeroCells z.cells m).size = m * siz P elem := by rw [zeroCells_size, hzs]
  have hzl : (Builtin.zeroCells z.cells m).toList.length = m * siz P elem := by rw [Array.length_toList, hzm]
  refine k cap _ (Builtin.zeroCells z.cells m).toList hzl ⟨?_, hcap2, .inr ⟨h.size, _, rfl, push_new _ _, ?_, ?_⟩⟩ (by simp) ⟨by simp, fun b hb' => push_old _ _ _ hb'⟩
  · rw [List.length_append, hzl, hl, Nat.add_mul]
  · simp only [Array.size_append, hzc, hzm, List.size_toArray, hl, ← Nat.add_mul]
    congr 1; omega
  · simp only [Array.toList_append, List.toList_toArray]
    rw [List.take_left' (by rw [List.length_append, hzl, hl, Nat.add_mul])]
end Go.Proofs.Ytlncjcbofgjcfaa
end
section
/- Pairs in order: where one belongs, put in, taken out, the least ones. -/
set_option linter.unusedSimpArgs false
set_option linter.unusedVariables false
set_option maxRecDepth 20000
namespace Go.Proofs.Ytlncjcbofgjcfaa

abbrev Pr := Int × Int
abbrev prc (p : Pr) : List Value := [.int .u32 p.1, .int .u32 p.2]
theorem prc_len : ∀ x : Pr, (prc x).length = 2 := fun _ => rfl
theorem prc_one (p : Pr) : ∀ y ∈ prc p, oneC y True := by
  intro y hy
  simp only [List.mem_cons, List.not_mem_nil, or_false] at hy
  rcases hy with rfl | rfl <;> exact trivial
theorem prcs_one (ps : List Pr) : ∀ y ∈ ps.flatMap prc, oneC y True := by
  intro y hy
  obtain ⟨p, _, h⟩ := List.mem_flatMap.1 hy
  exact prc_one p y h
def cmp3 (a b : Int) : Int := if a < b then -1 else if a > b then 1 else 0
/-- Which pair comes first. -/
def ordP (p q : Pr) : Int := if cmp3 p.1 q.1 ≠ 0 then cmp3 p.1 q.1 else cmp3 p.2 q.2
def plt (p q : Pr) : Prop := p.1 < q.1 ∨ (p.1 = q.1 ∧ p.2 < q.2)
def ple (p q : Pr) : Prop := p.1 < q.1 ∨ (p.1 = q.1 ∧ p.2 ≤ q.2)
theorem ordP_lt (p q : Pr) : ordP p q < 0 ↔ plt p q := by
  unfold ordP cmp3 plt
  split <;> split <;> (try split) <;> (try split) <;> omega
theorem ordP_eq (p q : Pr) : ordP p q = 0 ↔ p = q := by
  obtain ⟨a, b⟩ := p; obtain ⟨c, d⟩ := q
  simp only [Prod.mk.injEq]
  unfold ordP cmp3
  simp only
  split <;> split <;> (try split) <;> (try split) <;> omega
theorem not_plt {p q : Pr} : ¬ plt p q ↔ ple q p := by unfold plt ple; omega
instance (p q : Pr) : Decidable (plt p q) := by unfold plt; infer_instance
theorem ple_refl (p : Pr) : ple p p := by unfold ple; omega
theorem ple_trans {p q r : Pr} (x : ple p q) (y : ple q r) : ple p r := by unfold ple at *; omega
theorem plt_of_ple {p q r : Pr} (x : ple p q) (y : plt q r) : plt p r := by unfold ple plt at *; omega
theorem ple_antisymm {p q : Pr} (x : ple p q) (y : ple q p) : p = q := by
  obtain ⟨a, b⟩ := p; obtain ⟨c, d⟩ := q
  unfold ple at *
  simp only [Prod.mk.injEq]
  simp only at x y
  omega
/-- In order. -/
def Srt (ps : List Pr) : Prop := ps.Pairwise ple
theorem Srt.at {ps : List Pr} (H : Srt ps) {i j : Nat} (hi : i < ps.length) (hj : j < ps.length) (hij : i ≤ j) : ple ps[i] ps[j] := by
  rcases Nat.lt_or_eq_of_le hij with h | h
  · exact List.pairwise_iff_getElem.1 H i j hi hj h
  · subst h; exact ple_refl _
def insP (p : Pr) : List Pr → List Pr
  | [] => [p]
  | q :: r => if plt q p then q :: insP p r else p :: q :: r
theorem insP_at {p : Pr} : ∀ {ps : List Pr} {i : Nat}, i ≤ ps.length → (∀ q (hq : q < ps.length), q < i → plt ps[q] p) → (∀ hi : i < ps.length, ¬ plt ps[i] p) → ps.take i ++ p :: ps.drop i = insP p ps := by
  intro ps
  induction ps with
  | nil => intro i hi _ _; simp at hi; subst hi; rfl
  | cons x ps ih =>
    intro i hi h1 h2
    cases i with
    | zero =>
      have : ¬ plt x p := h2 (by simp)
      simp [insP, this]
    | succ i =>
      have hx : plt x p := h1 0 (by simp) (by omega)
      simp only [List.take_succ_cons, List.drop_succ_cons, List.cons_append, insP, hx, if_true]
      rw [ih (by simpa using hi) (fun q hq hqi => h1 (q + 1) (by simpa using hq) (by omega)) (fun hi2 => h2 (by simpa using hi2))]
theorem insP_perm (p : Pr) : ∀ ps, (insP p ps).Perm (p :: ps) := by
  intro ps
  induction ps with
  | nil => exact List.Perm.refl _
  | cons x ps ih =>
    unfold insP
    split
    · exact (List.Perm.cons x ih).trans (List.Perm.swap p x ps)
    · exact List.Perm.refl _
theorem insP_len (p : Pr) (ps : List Pr) : (insP p ps).length = ps.length + 1 := by rw [(insP_perm p ps).length_eq]; rfl
theorem insP_srt {p : Pr} : ∀ {ps : List Pr}, Srt ps → Srt (insP p ps) := by
  intro ps
  induction ps with
  | nil => intro _; exact List.pairwise_singleton _ _
  | cons x ps ih =>
    intro H
    obtain ⟨h1, h2⟩ := List.pairwise_cons.1 H
    unfold insP
    split
    · rename_i hx
      refine List.pairwise_cons.2 ⟨fun y hy => ?_, ih h2⟩
      rcases List.mem_cons.1 ((insP_perm p ps).mem_iff.1 hy) with rfl | hy
      · unfold plt ple at *; omega
      · exact h1 y hy
    · rename_i hx
      have hpx : ple p x := not_plt.1 hx
      refine List.pairwise_cons.2 ⟨fun y hy => ?_, H⟩
      rcases List.mem_cons.1 hy with rfl | hy
      · exact hpx
      · exact ple_trans hpx (h1 y hy)
theorem srt_unique : ∀ {ps qs : List Pr}, Srt ps → Srt qs → ps.Perm qs → ps = qs := by
  intro ps
  induction ps with
  | nil => intro qs _ _ h; exact h.nil_eq
  | cons x ps ih =>
    intro qs H1 H2 hp
    cases qs with
    | nil => exact absurd hp.length_eq (by simp)
    | cons y qs =>
      obtain ⟨a1, a2⟩ := List.pairwise_cons.1 H1
      obtain ⟨b1, b2⟩ := List.pairwise_cons.1 H2
      have hxy : x = y := by
        have hx : x ∈ y :: qs := hp.mem_iff.1 (by simp)
        have hy : y ∈ x :: ps := hp.mem_iff.2 (by simp)
        rcases List.mem_cons.1 hx with rfl | hx
        · rfl
        · rcases List.mem_cons.1 hy with rfl | hy
          · rfl
          · exact ple_antisymm (a1 y hy) (b1 x hx)
      subst hxy
      rw [ih a2 b2 ((List.perm_cons x).1 hp)]
theorem erase_at {p : Pr} : ∀ {ps : List Pr} {i : Nat} (hi : i < ps.length), ps[i] = p → (∀ q (hq : q < ps.length), q < i → plt ps[q] p) → ps.take i ++ ps.drop (i + 1) = ps.erase p := by
  intro ps
  induction ps with
  | nil => intro i hi; simp at hi
  | cons x ps ih =>
    intro i hi e h1
    cases i with
    | zero =>
      simp only [List.getElem_cons_zero] at e
      subst e
      simp
    | succ i =>
      have hx : plt x p := h1 0 (by simp) (by omega)
      have hne : x ≠ p := fun e => by subst e; unfold plt at hx; omega
      rw [List.erase_cons_tail (by simpa using hne)]
      simp only [List.take_succ_cons, List.drop_succ_cons, List.cons_append]
      rw [ih (by simpa using hi) (by simpa using e) (fun q hq hqi => h1 (q + 1) (by simpa using hq) (by omega))]
theorem erase_srt {ps : List Pr} (H : Srt ps) (p : Pr) : Srt (ps.erase p) := H.sublist List.erase_sublist
theorem mem_at {ps : List Pr} {p : Pr} {i : Nat} (hi : i ≤ ps.length) (h1 : ∀ q (hq : q < ps.length), q < i → plt ps[q] p) (h2 : ∀ q (hq : q < ps.length), i ≤ q → ¬ plt ps[q] p) (hS : Srt ps) : (∃ hi : i < ps.length, ps[i] = p) ↔ p ∈ ps := by
  constructor
  · rintro ⟨hi, rfl⟩; exact List.getElem_mem _
  · intro hm
    obtain ⟨q, hq, rfl⟩ := List.getElem_of_mem hm
    have hqi : i ≤ q := by
      apply Decidable.byContradiction
      intro hh
      have := h1 q hq (by omega)
      unfold plt at this; omega
    have hi' : i < ps.length := by omega
    refine ⟨hi', ple_antisymm (hS.at hi' hq hqi) (not_plt.1 (h2 i hi' (Nat.le_refl _)))⟩

/-! ### without what is twice -/
/-- The first i things, of those that stand one behind the other and are alike the first one alone. -/
def cmpct (ps : List Pr) : Nat → List Pr
  | 0 => []
  | i + 1 => match ps[i]? with
    | none => cmpct ps i
    | some x => if 0 < i ∧ ps[i - 1]? = some x then cmpct ps i else cmpct ps i ++ [x]
theorem cmpct_succ {ps : List Pr} {i : Nat} (hi : i < ps.length) : cmpct ps (i + 1) = if 0 < i ∧ ps[i - 1]? = some ps[i] then cmpct ps i else cmpct ps i ++ [ps[i]] := by
  show (match ps[i]? with | none => _ | some x => _) = _
  rw [List.getElem?_eq_getElem hi]
theorem cmpct_len (ps : List Pr) : ∀ i, (cmpct ps i).length ≤ i := by
  intro i
  induction i with
  | zero => exact Nat.le_refl _
  | succ i ih =>
    unfold cmpct
    split
    · omega
    · split
      · omega
      · simp; omega
theorem cmpct_mem {ps : List Pr} {x : Pr} : ∀ i, i ≤ ps.length → (x ∈ cmpct ps i ↔ ∃ q, ∃ hq : q < ps.length, q < i ∧ ps[q] = x) := by
  intro i
  induction i with
  | zero => intro _; simp [cmpct]
  | succ i ih =>
    intro hi
    rw [cmpct_succ (by omega)]
    constructor
    · intro hx
      split at hx
      · obtain ⟨q, hq, h1, h2⟩ := (ih (by omega)).1 hx; exact ⟨q, hq, by omega, h2⟩
      · rcases List.mem_append.1 hx with hx | hx
        · obtain ⟨q, hq, h1, h2⟩ := (ih (by omega)).1 hx; exact ⟨q, hq, by omega, h2⟩
        · exact ⟨i, by omega, by omega, (List.mem_singleton.1 hx).symm⟩
    · rintro ⟨q, hq, h1, h2⟩
      split
      · rename_i hc
        by_cases e : q = i
        · subst e
          refine (ih (by omega)).2 ⟨q - 1, by omega, by omega, ?_⟩
          have := (List.getElem?_eq_some_iff.1 hc.2).2
          rw [this]; exact h2
        · exact (ih (by omega)).2 ⟨q, hq, by omega, h2⟩
      · by_cases e : q = i
        · subst e; rw [h2]; simp
        · exact List.mem_append_left _ ((ih (by omega)).2 ⟨q, hq, by omega, h2⟩)
theorem cmpct_srt {ps : List Pr} (H : Srt ps) : ∀ i, i ≤ ps.length → (cmpct ps i).Pairwise plt := by
  intro i
  induction i with
  | zero => intro _; exact List.Pairwise.nil
  | succ i ih =>
    intro hi
    rw [cmpct_succ (by omega)]
    split
    · exact ih (by omega)
    · rename_i hc
      refine List.pairwise_append.2 ⟨ih (by omega), List.pairwise_singleton _ _, fun x hx y hy => ?_⟩
      obtain ⟨q, hq, h1, rfl⟩ := (cmpct_mem i (by omega)).1 hx
      rw [List.mem_singleton.1 hy]
      have l1 := H.at hq (show i < ps.length by omega) (by omega)
      have l2 := H.at hq (show i - 1 < ps.length by omega) (by omega)
      have l3 := H.at (show i - 1 < ps.length by omega) (show i < ps.length by omega) (by omega)
      have hne : ps[i - 1] ≠ ps[i] := fun e => hc ⟨by omega, by rw [List.getElem?_eq_getElem (by omega), e]⟩
      apply Decidable.byContradiction
      intro hn
      have := not_plt.1 hn
      exact hne (ple_antisymm l3 (ple_trans this l2))
/-- The pairs with the least key, each once. -/
def keyN (ps : List Pr) (k : Int) : Nat := (ps.findIdx? fun p => p.1 != k).getD ps.length
def minsP (ps : List Pr) : List Pr := match ps with
  | [] => []
  | p :: _ => cmpct (ps.take (keyN ps p.1)) (keyN ps p.1)
theorem keyN_le (ps : List Pr) (k : Int) : keyN ps k ≤ ps.length := by
  unfold keyN
  cases h : ps.findIdx? fun p => p.1 != k with
  | none => exact Nat.le_refl _
  | some i =>
    obtain ⟨hi, _⟩ := List.findIdx?_eq_some_iff_getElem.1 h
    exact Nat.le_of_lt hi
theorem keyN_spec {ps : List Pr} (H : Srt ps) {p : Pr} {r : List Pr} (e : ps = p :: r) (q : Nat) (hq : q < ps.length) : q < keyN ps p.1 ↔ (ps[q]).1 = p.1 := by
  have h0 : ∀ q (hq : q < ps.length), p.1 ≤ (ps[q]).1 := by
    intro q hq
    have hl : 0 < ps.length := by omega
    have := H.at hl hq (Nat.zero_le _)
    have e0 : ps[0] = p := by subst e; rfl
    rw [e0] at this
    unfold ple at this; omega
  unfold keyN
  cases h : ps.findIdx? fun p' => p'.1 != p.1 with
  | none =>
    have := List.findIdx?_eq_none_iff.1 h
    simp only [Option.getD_none]
    have h2 := this _ (List.getElem_mem hq)
    simp at h2
    exact ⟨fun _ => h2, fun _ => hq⟩
  | some i =>
    obtain ⟨hi, h1, h2⟩ := List.findIdx?_eq_some_iff_getElem.1 h
    simp only [Option.getD_some]
    constructor
    · intro hqi
      have := h2 q hqi
      simpa using this
    · intro ek
      apply Decidable.byContradiction
      intro hn
      have h3 := H.at hi hq (by omega)
      have h4 := h0 i hi
      have h5 : (ps[i]).1 ≠ p.1 := by simpa using h1
      unfold ple at h3; omega
theorem minsP_mem {ps : List Pr} (H : Srt ps) {p : Pr} {r : List Pr} (e : ps = p :: r) (x : Pr) : x ∈ minsP ps ↔ x ∈ ps ∧ x.1 = p.1 := by
  have e2 : minsP ps = cmpct (ps.take (keyN ps p.1)) (keyN ps p.1) := by subst e; rfl
  have hk := keyN_le ps p.1
  have hs := keyN_spec H e
  rw [e2, cmpct_mem _ (by rw [List.length_take]; omega)]
  constructor
  · rintro ⟨q, hq, h1, rfl⟩
    have hq' : q < ps.length := by rw [List.length_take] at hq; omega
    rw [List.getElem_take]
    exact ⟨List.getElem_mem _, (hs q hq').1 h1⟩
  · rintro ⟨hm, hx⟩
    obtain ⟨q, hq, rfl⟩ := List.getElem_of_mem hm
    have := (hs q hq).2 hx
    exact ⟨q, by rw [List.length_take]; omega, this, by rw [List.getElem_take]⟩
theorem minsP_plt {ps : List Pr} (H : Srt ps) : (minsP ps).Pairwise plt := by
  cases ps with
  | nil => exact List.Pairwise.nil
  | cons p r =>
    refine cmpct_srt ?_ _ ?_
    · exact List.Pairwise.sublist (List.take_sublist _ _) H
    · rw [List.length_take]
      have := keyN_le (p :: r) p.1
      omega
theorem minsP_nil {ps : List Pr} (H : Srt ps) : minsP ps = [] ↔ ps = [] := by
  constructor
  · intro h
    cases hps : ps with
    | nil => rfl
    | cons p r =>
      have : p ∈ minsP ps := (minsP_mem H hps p).2 ⟨by rw [hps]; simp, rfl⟩
      rw [h] at this; simp at this
  · intro h; subst h; rfl
theorem minsP_len (ps : List Pr) : (minsP ps).length ≤ ps.length := by
  cases ps with
  | nil => exact Nat.le_refl _
  | cons p r => exact Nat.le_trans (cmpct_len _ _) (keyN_le _ _)
end Go.Proofs.Ytlncjcbofgjcfaa
end
section
/- The formulas of functions, printed by a program of mine. -/
set_option linter.unusedVariables false
set_option maxRecDepth 100000
namespace Go.Proofs.Ytlncjcbofgjcfaa
/-- cmp.isNaN[uint32] -/
def F75 (K : Value → Heap → Prop) (h : Heap) (x0 : Int) : Prop :=
  (K (.bool (x0 != x0)) h)
theorem vc75 (K : Value → Heap → Prop) (h : Heap) (x0 : Int) : vc Try.prog (bodyOf Try.f75) (retQ Try.prog Try.f75.results.toList (hasRange (bodyOf Try.f75)) h.size K) (envL [(.int .u32 x0)]) h = F75 K h x0 := by kernel_rfl
theorem ok75 : fnOk Try.prog Try.f75 1 = true := by kernel_rfl
theorem call75 {K : Value → Heap → Prop} {h : Heap} {x0 : Int} (H : F75 K h x0) : CallH Try.prog 75 #[(.int .u32 x0)] h K :=
  callH_mk Try.func75 ok75 (Eq.mp (vc75 K h x0).symm H)
/-- cmp.Compare[uint32] -/
def F56 (K : Value → Heap → Prop) (h : Heap) (x0 : Int) (x1 : Int) : Prop :=
  (callV Try.prog (.func (.func 75) #[] #[]) #[(.int .u32 x0)] h (fun v0 h1 => (asBool v0 (fun b2 => (callV Try.prog (.func (.func 75) #[] #[]) #[(.int .u32 x1)] h1 (fun v3 h4 => (asBool v3 (fun b5 => (ifB b2 (ifB b5 (K (.int .i64 0) h4) (K (.int .i64 (-1)) h4)) (ifB b5 (K (.int .i64 1) h4) (ifB (decide (x0 < x1)) (K (.int .i64 (-1)) h4) (ifB (decide (x0 > x1)) (K (.int .i64 1) h4) (K (.int .i64 0) h4)))))))))))))
theorem vc56 (K : Value → Heap → Prop) (h : Heap) (x0 : Int) (x1 : Int) : vc Try.prog (bodyOf Try.f56) (retQ Try.prog Try.f56.results.toList (hasRange (bodyOf Try.f56)) h.size K) (envL [(.int .u32 x0), (.int .u32 x1)]) h = F56 K h x0 x1 := by kernel_rfl
theorem ok56 : fnOk Try.prog Try.f56 2 = true := by kernel_rfl
theorem call56 {K : Value → Heap → Prop} {h : Heap} {x0 : Int} {x1 : Int} (H : F56 K h x0 x1) : CallH Try.prog 56 #[(.int .u32 x0), (.int .u32 x1)] h K :=
  callH_mk Try.func56 ok56 (Eq.mp (vc56 K h x0 x1).symm H)
/-- cmp.Or[int] -/
def F55 (K : Value → Heap → Prop) (h : Heap) (x0a : Option Addr) (x0l x0c : Nat) : Prop :=
  (exI (fun I0 => (exM (fun m1 => ((I0 [(.int .i64 0), (.tuple #[]), (.int .i64 0)] h) ∧ (∀ v2 : Value, (∀ v3 : Value, (∀ v4 : Value, (∀ g5 : Env, (∀ h6 : Heap, ((I0 [v2, v3, v4] h6) → (asInt .i64 v4 (fun n7 => (ifB (decide (n7 < ((x0l : Nat) : Int))) (asI v4 (fun n8 => (((0 : Int) ≤ n8) ∧ (((n8 : Int) < ((x0l : Nat) : Int)) ∧ (asPtr (.pointer x0a) (fun a9 => (ldH h6 (Addr.add a9 (n8.toNat * 1)) (fun v10 => (asInt .i64 v10 (fun n11 => (ifB (n11 != 0) (K (.int .i64 n11) h6) (asInt .i64 v4 (fun n12 => ((I0 [v2, (.int .i64 n11), (.int .i64 (IntKind.wrap .i64 (n12 + 1)))] h6) ∧ ((m1 [v2, (.int .i64 n11), (.int .i64 (IntKind.wrap .i64 (n12 + 1)))] h6) < (m1 [v2, v3, v4] h6)))))))))))))))) (K (.int .i64 0) h6)))))))))))))))
theorem vc55 (K : Value → Heap → Prop) (h : Heap) (x0a : Option Addr) (x0l x0c : Nat) : vc Try.prog (bodyOf Try.f55) (retQ Try.prog Try.f55.results.toList (hasRange (bodyOf Try.f55)) h.size K) (envL [(.slice x0a x0l x0c)]) h = F55 K h x0a x0l x0c := by kernel_rfl
theorem ok55 : fnOk Try.prog Try.f55 1 = true := by kernel_rfl
theorem call55 {K : Value → Heap → Prop} {h : Heap} {x0a : Option Addr} {x0l x0c : Nat} (H : F55 K h x0a x0l x0c) : CallH Try.prog 55 #[(.slice x0a x0l x0c)] h K :=
  callH_mk Try.func55 ok55 (Eq.mp (vc55 K h x0a x0l x0c).symm H)
/-- jostle/bag.order -/
def F36 (K : Value → Heap → Prop) (h : Heap) (x0_0 : Int) (x0_1 : Int) (x1_0 : Int) (x1_1 : Int) : Prop :=
  (ldH (Array.push (Array.push h (.cells #[(.int .u32 x0_0), (.int .u32 x0_1)] 29)) (.cells #[(.int .u32 x1_0), (.int .u32 x1_1)] 29)) ⟨h.size, 0, none⟩ (fun v0 => (asInt .u32 v0 (fun n1 => (ldH (Array.push (Array.push h (.cells #[(.int .u32 x0_0), (.int .u32 x0_1)] 29)) (.cells #[(.int .u32 x1_0), (.int .u32 x1_1)] 29)) ⟨(Array.push h (.cells #[(.int .u32 x0_0), (.int .u32 x0_1)] 29)).size, 0, none⟩ (fun v2 => (asInt .u32 v2 (fun n3 => (ldH (Array.push (Array.push h (.cells #[(.int .u32 x0_0), (.int .u32 x0_1)] 29)) (.cells #[(.int .u32 x1_0), (.int .u32 x1_1)] 29)) ⟨h.size, 1, none⟩ (fun v4 => (asInt .u32 v4 (fun n5 => (ldH (Array.push (Array.push h (.cells #[(.int .u32 x0_0), (.int .u32 x0_1)] 29)) (.cells #[(.int .u32 x1_0), (.int .u32 x1_1)] 29)) ⟨(Array.push h (.cells #[(.int .u32 x0_0), (.int .u32 x0_1)] 29)).size, 1, none⟩ (fun v6 => (asInt .u32 v6 (fun n7 => (callV Try.prog (.func (.func 56) #[] #[]) #[(.int .u32 n1), (.int .u32 n3)] (Array.push (Array.push h (.cells #[(.int .u32 x0_0), (.int .u32 x0_1)] 29)) (.cells #[(.int .u32 x1_0), (.int .u32 x1_1)] 29)) (fun v8 h9 => (asInt .i64 v8 (fun n10 => (((cellAt h9 ⟨(Array.push h (.cells #[(.int .u32 x0_0), (.int .u32 x0_1)] 29)).size, 1, none⟩) = (some v6)) ∧ (((cellAt h9 ⟨h.size, 1, none⟩) = (some v4)) ∧ (callV Try.prog (.func (.func 56) #[] #[]) #[(.int .u32 n5), (.int .u32 n7)] h9 (fun v11 h12 => (asInt .i64 v11 (fun n13 => (callV Try.prog (.func (.func 55) #[] #[]) #[(.slice (some ⟨h12.size, 0, none⟩) 2 2)] (Array.push h12 (.cells #[(.int .i64 n10), (.int .i64 n13)] 3)) (fun v14 h15 => (asInt .i64 v14 (fun n16 => (K (.int .i64 n16) h15)))))))))))))))))))))))))))))))
theorem vc36 (K : Value → Heap → Prop) (h : Heap) (x0_0 : Int) (x0_1 : Int) (x1_0 : Int) (x1_1 : Int) : vc Try.prog (bodyOf Try.f36) (retQ Try.prog Try.f36.results.toList (hasRange (bodyOf Try.f36)) h.size K) (envL [(.agg #[(.int .u32 x0_0), (.int .u32 x0_1)]), (.agg #[(.int .u32 x1_0), (.int .u32 x1_1)])]) h = F36 K h x0_0 x0_1 x1_0 x1_1 := by kernel_rfl
theorem ok36 : fnOk Try.prog Try.f36 2 = true := by kernel_rfl
theorem call36 {K : Value → Heap → Prop} {h : Heap} {x0_0 : Int} {x0_1 : Int} {x1_0 : Int} {x1_1 : Int} (H : F36 K h x0_0 x0_1 x1_0 x1_1) : CallH Try.prog 36 #[(.agg #[(.int .u32 x0_0), (.int .u32 x0_1)]), (.agg #[(.int .u32 x1_0), (.int .u32 x1_1)])] h K :=
  callH_mk Try.func36 ok36 (Eq.mp (vc36 K h x0_0 x0_1 x1_0 x1_1).symm H)
/-- slices.BinarySearchFunc[[]jostle/bag.Pair,jostle/bag.Pair,jostle/bag.Pair] -/
def F35 (K : Value → Heap → Prop) (h : Heap) (x0a : Option Addr) (x0l x0c : Nat) (x1_0 : Int) (x1_1 : Int) (x2 : Value) : Prop :=
  (exI (fun I0 => (exM (fun m1 => ((I0 [(.int .i64 0), (.int .i64 ((x0l : Nat) : Int)), (.tuple #[])] (Array.push h (.cells #[(.int .u32 x1_0), (.int .u32 x1_1)] 29))) ∧ (∀ v2 : Value, (∀ v3 : Value, (∀ v4 : Value, (∀ g5 : Env, (∀ h6 : Heap, ((I0 [v2, v3, v4] h6) → (asInt .i64 v2 (fun n7 => (asInt .i64 v3 (fun n8 => (ifB (decide (n7 < n8)) (asInt .i64 v2 (fun n9 => (asInt .i64 v3 (fun n10 => (((0 : Int) ≤ 1) ∧ (((0 : Int) ≤ (IntKind.wrap .i64 (Int.fdiv (IntKind.wrap .u64 (IntKind.wrap .i64 (n9 + n10))) 2))) ∧ ((((IntKind.wrap .i64 (Int.fdiv (IntKind.wrap .u64 (IntKind.wrap .i64 (n9 + n10))) 2)) : Int) < ((x0l : Nat) : Int)) ∧ (asPtr (.pointer x0a) (fun a11 => (ldH h6 (Addr.add a11 ((IntKind.wrap .i64 (Int.fdiv (IntKind.wrap .u64 (IntKind.wrap .i64 (n9 + n10))) 2)).toNat * 2)) (fun v12 => (ldH h6 (Addr.add (Addr.add a11 ((IntKind.wrap .i64 (Int.fdiv (IntKind.wrap .u64 (IntKind.wrap .i64 (n9 + n10))) 2)).toNat * 2)) 1) (fun v13 => (ldH h6 ⟨h.size, 0, none⟩ (fun v14 => (ldH h6 ⟨h.size, 1, none⟩ (fun v15 => (callV Try.prog x2 #[(.agg #[v12, v13]), (.agg #[v14, v15])] h6 (fun v16 h17 => (asInt .i64 v16 (fun n18 => (ifB (decide (n18 < 0)) ((I0 [(.int .i64 (IntKind.wrap .i64 ((IntKind.wrap .i64 (Int.fdiv (IntKind.wrap .u64 (IntKind.wrap .i64 (n9 + n10))) 2)) + 1))), v3, (.int .i64 (IntKind.wrap .i64 (Int.fdiv (IntKind.wrap .u64 (IntKind.wrap .i64 (n9 + n10))) 2)))] h17) ∧ ((m1 [(.int .i64 (IntKind.wrap .i64 ((IntKind.wrap .i64 (Int.fdiv (IntKind.wrap .u64 (IntKind.wrap .i64 (n9 + n10))) 2)) + 1))), v3, (.int .i64 (IntKind.wrap .i64 (Int.fdiv (IntKind.wrap .u64 (IntKind.wrap .i64 (n9 + n10))) 2)))] h17) < (m1 [v2, v3, v4] h6))) ((I0 [v2, (.int .i64 (IntKind.wrap .i64 (Int.fdiv (IntKind.wrap .u64 (IntKind.wrap .i64 (n9 + n10))) 2))), (.int .i64 (IntKind.wrap .i64 (Int.fdiv (IntKind.wrap .u64 (IntKind.wrap .i64 (n9 + n10))) 2)))] h17) ∧ ((m1 [v2, (.int .i64 (IntKind.wrap .i64 (Int.fdiv (IntKind.wrap .u64 (IntKind.wrap .i64 (n9 + n10))) 2))), (.int .i64 (IntKind.wrap .i64 (Int.fdiv (IntKind.wrap .u64 (IntKind.wrap .i64 (n9 + n10))) 2)))] h17) < (m1 [v2, v3, v4] h6))))))))))))))))))))))))) (asInt .i64 v2 (fun n19 => (asInt .i64 v2 (fun n20 => (ifB (decide (n20 < ((x0l : Nat) : Int))) (asInt .i64 v2 (fun n21 => (((0 : Int) ≤ n21) ∧ (((n21 : Int) < ((x0l : Nat) : Int)) ∧ (asPtr (.pointer x0a) (fun a22 => (ldH h6 (Addr.add a22 (n21.toNat * 2)) (fun v23 => (ldH h6 (Addr.add (Addr.add a22 (n21.toNat * 2)) 1) (fun v24 => (ldH h6 ⟨h.size, 0, none⟩ (fun v25 => (ldH h6 ⟨h.size, 1, none⟩ (fun v26 => (callV Try.prog x2 #[(.agg #[v23, v24]), (.agg #[v25, v26])] h6 (fun v27 h28 => (asInt .i64 v27 (fun n29 => (K (.tuple #[(.int .i64 n19), (.bool (n29 == 0))]) h28))))))))))))))))))) (K (.tuple #[(.int .i64 n19), (.bool false)]) h6))))))))))))))))))))))
theorem vc35 (K : Value → Heap → Prop) (h : Heap) (x0a : Option Addr) (x0l x0c : Nat) (x1_0 : Int) (x1_1 : Int) (x2 : Value) : vc Try.prog (bodyOf Try.f35) (retQ Try.prog Try.f35.results.toList (hasRange (bodyOf Try.f35)) h.size K) (envL [(.slice x0a x0l x0c), (.agg #[(.int .u32 x1_0), (.int .u32 x1_1)]), x2]) h = F35 K h x0a x0l x0c x1_0 x1_1 x2 := by kernel_rfl
theorem ok35 : fnOk Try.prog Try.f35 3 = true := by kernel_rfl
theorem call35 {K : Value → Heap → Prop} {h : Heap} {x0a : Option Addr} {x0l x0c : Nat} {x1_0 : Int} {x1_1 : Int} {x2 : Value} (H : F35 K h x0a x0l x0c x1_0 x1_1 x2) : CallH Try.prog 35 #[(.slice x0a x0l x0c), (.agg #[(.int .u32 x1_0), (.int .u32 x1_1)]), x2] h K :=
  callH_mk Try.func35 ok35 (Eq.mp (vc35 K h x0a x0l x0c x1_0 x1_1 x2).symm H)
/-- slices.Insert[[]jostle/bag.Pair,jostle/bag.Pair] -/
def F37 (K : Value → Heap → Prop) (h : Heap) (x0a : Option Addr) (x0l x0c : Nat) (x1 : Int) (x2a : Option Addr) (x2l x2c : Nat) : Prop :=
  (((0 : Int) ≤ x1) ∧ (((x1 : Int) ≤ ((x0l : Nat) : Int)) ∧ (ifB (((x2l : Nat) : Int) == 0) (K (.slice x0a x0l x0c) h) (ifB (x1 == ((x0l : Nat) : Int)) (appH Try.prog #[22, 22] 22 #[(.slice x0a x0l x0c), (.slice x2a x2l x2c)] h (fun v0 h1 => (asSlice v0 (fun o2 k3 k4 => (K (.slice o2 k3 k4) h1))))) (ifB (decide ((IntKind.wrap .i64 (((x0l : Nat) : Int) + ((x2l : Nat) : Int))) > ((x0c : Nat) : Int))) (((0 : Int) ≤ x1) ∧ (((x1 : Int) ≤ ((x0c : Nat) : Int)) ∧ (appH Try.prog #[22, 3] 22 #[(.slice (subA x0a 0 x0c 2) (x1.toNat - 0) (x0c - 0)), (.int .i64 (IntKind.wrap .i64 ((IntKind.wrap .i64 (((x0l : Nat) : Int) + ((x2l : Nat) : Int))) - x1)))] h (fun v5 h6 => (asSlice v5 (fun o7 k8 k9 => (((0 : Int) ≤ x1) ∧ (((x1 : Int) ≤ ((k8 : Nat) : Int)) ∧ (copyH Try.prog #[22, 22] 3 #[(.slice (subA o7 x1.toNat k9 2) (k8 - x1.toNat) (k9 - x1.toNat)), (.slice x2a x2l x2c)] h6 (fun v10 h11 => (asInt .i64 v10 (fun n12 => (((0 : Int) ≤ (IntKind.wrap .i64 (x1 + ((x2l : Nat) : Int)))) ∧ ((((IntKind.wrap .i64 (x1 + ((x2l : Nat) : Int))) : Int) ≤ ((k8 : Nat) : Int)) ∧ (((0 : Int) ≤ x1) ∧ (((x1 : Int) ≤ ((x0l : Nat) : Int)) ∧ (copyH Try.prog #[22, 22] 3 #[(.slice (subA o7 (IntKind.wrap .i64 (x1 + ((x2l : Nat) : Int))).toNat k9 2) (k8 - (IntKind.wrap .i64 (x1 + ((x2l : Nat) : Int))).toNat) (k9 - (IntKind.wrap .i64 (x1 + ((x2l : Nat) : Int))).toNat)), (.slice (subA x0a x1.toNat x0c 2) (x0l - x1.toNat) (x0c - x1.toNat))] h11 (fun v13 h14 => (asInt .i64 v13 (fun n15 => (K (.slice o7 k8 k9) h14))))))))))))))))))))) (((0 : Int) ≤ (IntKind.wrap .i64 (((x0l : Nat) : Int) + ((x2l : Nat) : Int)))) ∧ ((((IntKind.wrap .i64 (((x0l : Nat) : Int) + ((x2l : Nat) : Int))) : Int) ≤ ((x0c : Nat) : Int)) ∧ (((0 : Int) ≤ (IntKind.wrap .i64 (x1 + ((x2l : Nat) : Int)))) ∧ ((((IntKind.wrap .i64 (x1 + ((x2l : Nat) : Int))) : Int) ≤ ((((IntKind.wrap .i64 (((x0l : Nat) : Int) + ((x2l : Nat) : Int))).toNat - 0) : Nat) : Int)) ∧ (extV Try.prog (.func (.func 57) #[] #[]) #[(.slice x2a x2l x2c), (.slice (subA (subA x0a 0 x0c 2) (IntKind.wrap .i64 (x1 + ((x2l : Nat) : Int))).toNat (x0c - 0) 2) (((IntKind.wrap .i64 (((x0l : Nat) : Int) + ((x2l : Nat) : Int))).toNat - 0) - (IntKind.wrap .i64 (x1 + ((x2l : Nat) : Int))).toNat) ((x0c - 0) - (IntKind.wrap .i64 (x1 + ((x2l : Nat) : Int))).toNat))] h (fun v16 h17 => (asBool v16 (fun b18 => (ifB (!b18) (((0 : Int) ≤ (IntKind.wrap .i64 (x1 + ((x2l : Nat) : Int)))) ∧ ((((IntKind.wrap .i64 (x1 + ((x2l : Nat) : Int))) : Int) ≤ ((((IntKind.wrap .i64 (((x0l : Nat) : Int) + ((x2l : Nat) : Int))).toNat - 0) : Nat) : Int)) ∧ (((0 : Int) ≤ x1) ∧ (((x1 : Int) ≤ ((((IntKind.wrap .i64 (((x0l : Nat) : Int) + ((x2l : Nat) : Int))).toNat - 0) : Nat) : Int)) ∧ (copyH Try.prog #[22, 22] 3 #[(.slice (subA (subA x0a 0 x0c 2) (IntKind.wrap .i64 (x1 + ((x2l : Nat) : Int))).toNat (x0c - 0) 2) (((IntKind.wrap .i64 (((x0l : Nat) : Int) + ((x2l : Nat) : Int))).toNat - 0) - (IntKind.wrap .i64 (x1 + ((x2l : Nat) : Int))).toNat) ((x0c - 0) - (IntKind.wrap .i64 (x1 + ((x2l : Nat) : Int))).toNat)), (.slice (subA (subA x0a 0 x0c 2) x1.toNat (x0c - 0) 2) (((IntKind.wrap .i64 (((x0l : Nat) : Int) + ((x2l : Nat) : Int))).toNat - 0) - x1.toNat) ((x0c - 0) - x1.toNat))] h17 (fun v19 h20 => (asInt .i64 v19 (fun n21 => (((0 : Int) ≤ x1) ∧ (((x1 : Int) ≤ ((((IntKind.wrap .i64 (((x0l : Nat) : Int) + ((x2l : Nat) : Int))).toNat - 0) : Nat) : Int)) ∧ (copyH Try.prog #[22, 22] 3 #[(.slice (subA (subA x0a 0 x0c 2) x1.toNat (x0c - 0) 2) (((IntKind.wrap .i64 (((x0l : Nat) : Int) + ((x2l : Nat) : Int))).toNat - 0) - x1.toNat) ((x0c - 0) - x1.toNat)), (.slice x2a x2l x2c)] h20 (fun v22 h23 => (asInt .i64 v22 (fun n24 => (K (.slice (subA x0a 0 x0c 2) ((IntKind.wrap .i64 (((x0l : Nat) : Int) + ((x2l : Nat) : Int))).toNat - 0) (x0c - 0)) h23))))))))))))))) (((0 : Int) ≤ ((x0l : Nat) : Int)) ∧ (((((x0l : Nat) : Int) : Int) ≤ ((((IntKind.wrap .i64 (((x0l : Nat) : Int) + ((x2l : Nat) : Int))).toNat - 0) : Nat) : Int)) ∧ (copyH Try.prog #[22, 22] 3 #[(.slice (subA (subA x0a 0 x0c 2) ((x0l : Nat) : Int).toNat (x0c - 0) 2) (((IntKind.wrap .i64 (((x0l : Nat) : Int) + ((x2l : Nat) : Int))).toNat - 0) - ((x0l : Nat) : Int).toNat) ((x0c - 0) - ((x0l : Nat) : Int).toNat)), (.slice x2a x2l x2c)] h17 (fun v25 h26 => (asInt .i64 v25 (fun n27 => (((0 : Int) ≤ x1) ∧ (((x1 : Int) ≤ ((((IntKind.wrap .i64 (((x0l : Nat) : Int) + ((x2l : Nat) : Int))).toNat - 0) : Nat) : Int)) ∧ (callV Try.prog (.func (.func 58) #[] #[]) #[(.slice (subA (subA x0a 0 x0c 2) x1.toNat (x0c - 0) 2) (((IntKind.wrap .i64 (((x0l : Nat) : Int) + ((x2l : Nat) : Int))).toNat - 0) - x1.toNat) ((x0c - 0) - x1.toNat)), (.int .i64 ((x2l : Nat) : Int))] h26 (fun v28 h29 => (K (.slice (subA x0a 0 x0c 2) ((IntKind.wrap .i64 (((x0l : Nat) : Int) + ((x2l : Nat) : Int))).toNat - 0) (x0c - 0)) h29)))))))))))))))))))))))))
theorem vc37 (K : Value → Heap → Prop) (h : Heap) (x0a : Option Addr) (x0l x0c : Nat) (x1 : Int) (x2a : Option Addr) (x2l x2c : Nat) : vc Try.prog (bodyOf Try.f37) (retQ Try.prog Try.f37.results.toList (hasRange (bodyOf Try.f37)) h.size K) (envL [(.slice x0a x0l x0c), (.int .i64 x1), (.slice x2a x2l x2c)]) h = F37 K h x0a x0l x0c x1 x2a x2l x2c := by kernel_rfl
theorem ok37 : fnOk Try.prog Try.f37 3 = true := by kernel_rfl
theorem call37 {K : Value → Heap → Prop} {h : Heap} {x0a : Option Addr} {x0l x0c : Nat} {x1 : Int} {x2a : Option Addr} {x2l x2c : Nat} (H : F37 K h x0a x0l x0c x1 x2a x2l x2c) : CallH Try.prog 37 #[(.slice x0a x0l x0c), (.int .i64 x1), (.slice x2a x2l x2c)] h K :=
  callH_mk Try.func37 ok37 (Eq.mp (vc37 K h x0a x0l x0c x1 x2a x2l x2c).symm H)
/-- slices.IndexFunc[[]jostle/bag.Pair,jostle/bag.Pair] -/
def F38 (K : Value → Heap → Prop) (h : Heap) (x0a : Option Addr) (x0l x0c : Nat) (x1 : Value) : Prop :=
  (exI (fun I0 => (exM (fun m1 => ((I0 [(.int .i64 0), (.tuple #[]), (.int .i64 0)] h) ∧ (∀ v2 : Value, (∀ v3 : Value, (∀ v4 : Value, (∀ g5 : Env, (∀ h6 : Heap, ((I0 [v2, v3, v4] h6) → (asInt .i64 v4 (fun n7 => (ifB (decide (n7 < ((x0l : Nat) : Int))) (asInt .i64 v4 (fun n8 => (((0 : Int) ≤ n8) ∧ (((n8 : Int) < ((x0l : Nat) : Int)) ∧ (asPtr (.pointer x0a) (fun a9 => (ldH h6 (Addr.add a9 (n8.toNat * 2)) (fun v10 => (ldH h6 (Addr.add (Addr.add a9 (n8.toNat * 2)) 1) (fun v11 => (callV Try.prog x1 #[(.agg #[v10, v11])] h6 (fun v12 h13 => (asBool v12 (fun b14 => (ifB b14 (K (.int .i64 n8) h13) (asInt .i64 v4 (fun n15 => ((I0 [v2, (.int .i64 n8), (.int .i64 (IntKind.wrap .i64 (n15 + 1)))] h13) ∧ ((m1 [v2, (.int .i64 n8), (.int .i64 (IntKind.wrap .i64 (n15 + 1)))] h13) < (m1 [v2, v3, v4] h6)))))))))))))))))))) (K (.int .i64 (-1)) h6)))))))))))))))
theorem vc38 (K : Value → Heap → Prop) (h : Heap) (x0a : Option Addr) (x0l x0c : Nat) (x1 : Value) : vc Try.prog (bodyOf Try.f38) (retQ Try.prog Try.f38.results.toList (hasRange (bodyOf Try.f38)) h.size K) (envL [(.slice x0a x0l x0c), x1]) h = F38 K h x0a x0l x0c x1 := by kernel_rfl
theorem ok38 : fnOk Try.prog Try.f38 2 = true := by kernel_rfl
theorem call38 {K : Value → Heap → Prop} {h : Heap} {x0a : Option Addr} {x0l x0c : Nat} {x1 : Value} (H : F38 K h x0a x0l x0c x1) : CallH Try.prog 38 #[(.slice x0a x0l x0c), x1] h K :=
  callH_mk Try.func38 ok38 (Eq.mp (vc38 K h x0a x0l x0c x1).symm H)
/-- (*jostle/bag.Bag).Mins$1 -/
def F39 (K : Value → Heap → Prop) (h : Heap) (x0_0 : Int) (x0_1 : Int) (c0 : Value) : Prop :=
  (ldH (Array.push h (.cells #[(.int .u32 x0_0), (.int .u32 x0_1)] 29)) ⟨h.size, 0, none⟩ (fun v0 => (asInt .u32 v0 (fun n1 => (asPtr c0 (fun a2 => (ldH (Array.push h (.cells #[(.int .u32 x0_0), (.int .u32 x0_1)] 29)) a2 (fun v3 => (asInt .u32 v3 (fun n4 => (K (.bool (n1 != n4)) (Array.push h (.cells #[(.int .u32 x0_0), (.int .u32 x0_1)] 29)))))))))))))
theorem vc39 (K : Value → Heap → Prop) (h : Heap) (x0_0 : Int) (x0_1 : Int) (c0 : Value) : vc Try.prog (bodyOf Try.f39) (retQ Try.prog Try.f39.results.toList (hasRange (bodyOf Try.f39)) h.size K) (envL [(.agg #[(.int .u32 x0_0), (.int .u32 x0_1)]), c0]) h = F39 K h x0_0 x0_1 c0 := by kernel_rfl
theorem ok39 : fnOk Try.prog Try.f39 2 = true := by kernel_rfl
theorem call39 {K : Value → Heap → Prop} {h : Heap} {x0_0 : Int} {x0_1 : Int} {c0 : Value} (H : F39 K h x0_0 x0_1 c0) : CallH Try.prog 39 #[(.agg #[(.int .u32 x0_0), (.int .u32 x0_1)]), c0] h K :=
  callH_mk Try.func39 ok39 (Eq.mp (vc39 K h x0_0 x0_1 c0).symm H)
/-- slices.Compact[[]jostle/bag.Pair,jostle/bag.Pair] -/
def F40 (K : Value → Heap → Prop) (h : Heap) (x0a : Option Addr) (x0l x0c : Nat) : Prop :=
  (ifB (decide (((x0l : Nat) : Int) < 2)) (K (.slice x0a x0l x0c) h) (exI (fun I0 => (exM (fun m1 => ((I0 [(.slice none 0 0), (.int .i64 1), (.tuple #[]), (.tuple #[])] h) ∧ (∀ v2 : Value, (∀ v3 : Value, (∀ v4 : Value, (∀ v5 : Value, (∀ g6 : Env, (∀ h7 : Heap, ((I0 [v2, v3, v4, v5] h7) → (asInt .i64 v3 (fun n8 => (ifB (decide (n8 < ((x0l : Nat) : Int))) (asInt .i64 v3 (fun n9 => (((0 : Int) ≤ n9) ∧ (((n9 : Int) < ((x0l : Nat) : Int)) ∧ (asPtr (.pointer x0a) (fun a10 => (ldH h7 (Addr.add a10 (n9.toNat * 2)) (fun v11 => (ldH h7 (Addr.add (Addr.add a10 (n9.toNat * 2)) 1) (fun v12 => (asInt .i64 v3 (fun n13 => (((0 : Int) ≤ (IntKind.wrap .i64 (n13 - 1))) ∧ ((((IntKind.wrap .i64 (n13 - 1)) : Int) < ((x0l : Nat) : Int)) ∧ (asPtr (.pointer x0a) (fun a14 => (ldH h7 (Addr.add a14 ((IntKind.wrap .i64 (n13 - 1)).toNat * 2)) (fun v15 => (ldH h7 (Addr.add (Addr.add a14 ((IntKind.wrap .i64 (n13 - 1)).toNat * 2)) 1) (fun v16 => (eqvH Try.prog 29 (.agg #[v11, v12]) (.agg #[v15, v16]) (fun b17 => (ifB b17 (asInt .i64 v3 (fun n18 => (((0 : Int) ≤ n18) ∧ (((n18 : Int) ≤ ((x0l : Nat) : Int)) ∧ (exI (fun I19 => (exM (fun m20 => ((I19 [v3, (.int .i64 1)] h7) ∧ (∀ v21 : Value, (∀ v22 : Value, (∀ g23 : Env, (∀ h24 : Heap, ((I19 [v21, v22] h24) → (asInt .i64 v22 (fun n25 => (ifB (decide (n25 < (((x0l - n18.toNat) : Nat) : Int))) (exI (fun I26 => ((asInt .i64 v22 (fun n27 => (((0 : Int) ≤ n27) ∧ (((n27 : Int) < (((x0l - n18.toNat) : Nat) : Int)) ∧ (asPtr (.pointer (subA x0a n18.toNat x0c 2)) (fun a28 => (ldH h24 (Addr.add a28 (n27.toNat * 2)) (fun v29 => (ldH h24 (Addr.add (Addr.add a28 (n27.toNat * 2)) 1) (fun v30 => (asInt .i64 v22 (fun n31 => (((0 : Int) ≤ (IntKind.wrap .i64 (n31 - 1))) ∧ ((((IntKind.wrap .i64 (n31 - 1)) : Int) < (((x0l - n18.toNat) : Nat) : Int)) ∧ (asPtr (.pointer (subA x0a n18.toNat x0c 2)) (fun a32 => (ldH h24 (Addr.add a32 ((IntKind.wrap .i64 (n31 - 1)).toNat * 2)) (fun v33 => (ldH h24 (Addr.add (Addr.add a32 ((IntKind.wrap .i64 (n31 - 1)).toNat * 2)) 1) (fun v34 => (eqvH Try.prog 29 (.agg #[v29, v30]) (.agg #[v33, v34]) (fun b35 => (ifB (!b35) (asInt .i64 v21 (fun n36 => (asInt .i64 v22 (fun n37 => (((0 : Int) ≤ n37) ∧ (((n37 : Int) < (((x0l - n18.toNat) : Nat) : Int)) ∧ (asPtr (.pointer (subA x0a n18.toNat x0c 2)) (fun a38 => (ldH h24 (Addr.add a38 (n37.toNat * 2)) (fun v39 => (ldH h24 (Addr.add (Addr.add a38 (n37.toNat * 2)) 1) (fun v40 => (((0 : Int) ≤ n36) ∧ (((n36 : Int) < ((x0l : Nat) : Int)) ∧ (asPtr (.pointer x0a) (fun a41 => (stH h24 (Addr.add a41 (n36.toNat * 2)) v39 (fun h42 => (stH h42 (Addr.add (Addr.add a41 (n36.toNat * 2)) 1) v40 (fun h43 => (asInt .i64 v21 (fun n44 => (I26 [(.int .i64 (IntKind.wrap .i64 (n44 + 1)))] h43))))))))))))))))))))))) (I26 [v21] h24)))))))))))))))))))))))) ∧ (∀ v45 : Value, (∀ g46 : Env, (∀ h47 : Heap, ((I26 [v45] h47) → (asInt .i64 v22 (fun n48 => ((I19 [v45, (.int .i64 (IntKind.wrap .i64 (n48 + 1)))] h47) ∧ ((m20 [v45, (.int .i64 (IntKind.wrap .i64 (n48 + 1)))] h47) < (m20 [v21, v22] h24)))))))))))) (asInt .i64 v21 (fun n49 => (((0 : Int) ≤ n49) ∧ (((n49 : Int) ≤ ((x0l : Nat) : Int)) ∧ (clrH Try.prog #[22] 0 #[(.slice (subA x0a n49.toNat x0c 2) (x0l - n49.toNat) (x0c - n49.toNat))] h24 (fun v50 h51 => (asInt .i64 v21 (fun n52 => (((0 : Int) ≤ n52) ∧ (((n52 : Int) ≤ ((x0c : Nat) : Int)) ∧ (K (.slice (subA x0a 0 x0c 2) (n52.toNat - 0) (x0c - 0)) h51)))))))))))))))))))))))))))) (asInt .i64 v3 (fun n53 => ((I0 [v2, (.int .i64 (IntKind.wrap .i64 (n53 + 1))), v4, v5] h7) ∧ ((m1 [v2, (.int .i64 (IntKind.wrap .i64 (n53 + 1))), v4, v5] h7) < (m1 [v2, v3, v4, v5] h7)))))))))))))))))))))))))))) (K (.slice x0a x0l x0c) h7)))))))))))))))))
theorem vc40 (K : Value → Heap → Prop) (h : Heap) (x0a : Option Addr) (x0l x0c : Nat) : vc Try.prog (bodyOf Try.f40) (retQ Try.prog Try.f40.results.toList (hasRange (bodyOf Try.f40)) h.size K) (envL [(.slice x0a x0l x0c)]) h = F40 K h x0a x0l x0c := by kernel_rfl
theorem ok40 : fnOk Try.prog Try.f40 1 = true := by kernel_rfl
theorem call40 {K : Value → Heap → Prop} {h : Heap} {x0a : Option Addr} {x0l x0c : Nat} (H : F40 K h x0a x0l x0c) : CallH Try.prog 40 #[(.slice x0a x0l x0c)] h K :=
  callH_mk Try.func40 ok40 (Eq.mp (vc40 K h x0a x0l x0c).symm H)
/-- slices.Clone[[]jostle/bag.Pair,jostle/bag.Pair] -/
def F41 (K : Value → Heap → Prop) (h : Heap) (x0a : Option Addr) (x0l x0c : Nat) : Prop :=
  (ifB (Option.isNone x0a) (K (.slice none 0 0) h) (appH Try.prog #[22, 22] 22 #[(.slice (some ⟨h.size, 0, none⟩) 0 0), (.slice x0a x0l x0c)] (Array.push h (.cells #[] 29)) (fun v0 h1 => (asSlice v0 (fun o2 k3 k4 => (K (.slice o2 k3 k4) h1))))))
theorem vc41 (K : Value → Heap → Prop) (h : Heap) (x0a : Option Addr) (x0l x0c : Nat) : vc Try.prog (bodyOf Try.f41) (retQ Try.prog Try.f41.results.toList (hasRange (bodyOf Try.f41)) h.size K) (envL [(.slice x0a x0l x0c)]) h = F41 K h x0a x0l x0c := by kernel_rfl
theorem ok41 : fnOk Try.prog Try.f41 1 = true := by kernel_rfl
theorem call41 {K : Value → Heap → Prop} {h : Heap} {x0a : Option Addr} {x0l x0c : Nat} (H : F41 K h x0a x0l x0c) : CallH Try.prog 41 #[(.slice x0a x0l x0c)] h K :=
  callH_mk Try.func41 ok41 (Eq.mp (vc41 K h x0a x0l x0c).symm H)
/-- slices.Delete[[]jostle/bag.Pair,jostle/bag.Pair] -/
def F42 (K : Value → Heap → Prop) (h : Heap) (x0a : Option Addr) (x0l x0c : Nat) (x1 : Int) (x2 : Int) : Prop :=
  (((0 : Int) ≤ ((x0l : Nat) : Int)) ∧ (((((x0l : Nat) : Int) : Int) ≤ ((x0c : Nat) : Int)) ∧ (((0 : Int) ≤ x2) ∧ (((x2 : Int) ≤ ((((x0l : Nat) : Int).toNat : Nat) : Int)) ∧ (((0 : Int) ≤ x1) ∧ (((x1 : Int) ≤ ((x2.toNat : Nat) : Int)) ∧ (ifB (x1 == x2) (K (.slice x0a x0l x0c) h) (((0 : Int) ≤ x1) ∧ (((x1 : Int) ≤ ((x0c : Nat) : Int)) ∧ (((0 : Int) ≤ x2) ∧ (((x2 : Int) ≤ ((x0l : Nat) : Int)) ∧ (appH Try.prog #[22, 22] 22 #[(.slice (subA x0a 0 x0c 2) (x1.toNat - 0) (x0c - 0)), (.slice (subA x0a x2.toNat x0c 2) (x0l - x2.toNat) (x0c - x2.toNat))] h (fun v0 h1 => (asSlice v0 (fun o2 k3 k4 => (((0 : Int) ≤ ((x0l : Nat) : Int)) ∧ (((((x0l : Nat) : Int) : Int) ≤ ((k4 : Nat) : Int)) ∧ (((0 : Int) ≤ ((k3 : Nat) : Int)) ∧ (((((k3 : Nat) : Int) : Int) ≤ ((((x0l : Nat) : Int).toNat : Nat) : Int)) ∧ (clrH Try.prog #[22] 0 #[(.slice (subA o2 ((k3 : Nat) : Int).toNat k4 2) (((x0l : Nat) : Int).toNat - ((k3 : Nat) : Int).toNat) (k4 - ((k3 : Nat) : Int).toNat))] h1 (fun v5 h6 => (K (.slice o2 k3 k4) h6))))))))))))))))))))))
theorem vc42 (K : Value → Heap → Prop) (h : Heap) (x0a : Option Addr) (x0l x0c : Nat) (x1 : Int) (x2 : Int) : vc Try.prog (bodyOf Try.f42) (retQ Try.prog Try.f42.results.toList (hasRange (bodyOf Try.f42)) h.size K) (envL [(.slice x0a x0l x0c), (.int .i64 x1), (.int .i64 x2)]) h = F42 K h x0a x0l x0c x1 x2 := by kernel_rfl
theorem ok42 : fnOk Try.prog Try.f42 3 = true := by kernel_rfl
theorem call42 {K : Value → Heap → Prop} {h : Heap} {x0a : Option Addr} {x0l x0c : Nat} {x1 : Int} {x2 : Int} (H : F42 K h x0a x0l x0c x1 x2) : CallH Try.prog 42 #[(.slice x0a x0l x0c), (.int .i64 x1), (.int .i64 x2)] h K :=
  callH_mk Try.func42 ok42 (Eq.mp (vc42 K h x0a x0l x0c x1 x2).symm H)
/-- slices.Contains[[]jostle/bag.Pair,jostle/bag.Pair] -/
def F44 (K : Value → Heap → Prop) (h : Heap) (x0a : Option Addr) (x0l x0c : Nat) (x1_0 : Int) (x1_1 : Int) : Prop :=
  (ldH (Array.push h (.cells #[(.int .u32 x1_0), (.int .u32 x1_1)] 29)) ⟨h.size, 0, none⟩ (fun v0 => (ldH (Array.push h (.cells #[(.int .u32 x1_0), (.int .u32 x1_1)] 29)) ⟨h.size, 1, none⟩ (fun v1 => (callV Try.prog (.func (.func 61) #[] #[]) #[(.slice x0a x0l x0c), (.agg #[v0, v1])] (Array.push h (.cells #[(.int .u32 x1_0), (.int .u32 x1_1)] 29)) (fun v2 h3 => (asInt .i64 v2 (fun n4 => (K (.bool (decide (n4 ≥ 0))) h3)))))))))
theorem vc44 (K : Value → Heap → Prop) (h : Heap) (x0a : Option Addr) (x0l x0c : Nat) (x1_0 : Int) (x1_1 : Int) : vc Try.prog (bodyOf Try.f44) (retQ Try.prog Try.f44.results.toList (hasRange (bodyOf Try.f44)) h.size K) (envL [(.slice x0a x0l x0c), (.agg #[(.int .u32 x1_0), (.int .u32 x1_1)])]) h = F44 K h x0a x0l x0c x1_0 x1_1 := by kernel_rfl
theorem ok44 : fnOk Try.prog Try.f44 2 = true := by kernel_rfl
theorem call44 {K : Value → Heap → Prop} {h : Heap} {x0a : Option Addr} {x0l x0c : Nat} {x1_0 : Int} {x1_1 : Int} (H : F44 K h x0a x0l x0c x1_0 x1_1) : CallH Try.prog 44 #[(.slice x0a x0l x0c), (.agg #[(.int .u32 x1_0), (.int .u32 x1_1)])] h K :=
  callH_mk Try.func44 ok44 (Eq.mp (vc44 K h x0a x0l x0c x1_0 x1_1).symm H)
/-- slices.Index[[]jostle/bag.Pair,jostle/bag.Pair] -/
def F61 (K : Value → Heap → Prop) (h : Heap) (x0a : Option Addr) (x0l x0c : Nat) (x1_0 : Int) (x1_1 : Int) : Prop :=
  (exI (fun I0 => (exM (fun m1 => ((I0 [(.int .i64 0), (.tuple #[]), (.int .i64 0)] (Array.push h (.cells #[(.int .u32 x1_0), (.int .u32 x1_1)] 29))) ∧ (∀ v2 : Value, (∀ v3 : Value, (∀ v4 : Value, (∀ g5 : Env, (∀ h6 : Heap, ((I0 [v2, v3, v4] h6) → (asInt .i64 v4 (fun n7 => (ifB (decide (n7 < ((x0l : Nat) : Int))) (asInt .i64 v4 (fun n8 => (ldH h6 ⟨h.size, 0, none⟩ (fun v9 => (ldH h6 ⟨h.size, 1, none⟩ (fun v10 => (((0 : Int) ≤ n8) ∧ (((n8 : Int) < ((x0l : Nat) : Int)) ∧ (asPtr (.pointer x0a) (fun a11 => (ldH h6 (Addr.add a11 (n8.toNat * 2)) (fun v12 => (ldH h6 (Addr.add (Addr.add a11 (n8.toNat * 2)) 1) (fun v13 => (eqvH Try.prog 29 (.agg #[v9, v10]) (.agg #[v12, v13]) (fun b14 => (ifB b14 (K (.int .i64 n8) h6) (asInt .i64 v4 (fun n15 => ((I0 [v2, (.int .i64 n8), (.int .i64 (IntKind.wrap .i64 (n15 + 1)))] h6) ∧ ((m1 [v2, (.int .i64 n8), (.int .i64 (IntKind.wrap .i64 (n15 + 1)))] h6) < (m1 [v2, v3, v4] h6)))))))))))))))))))))) (K (.int .i64 (-1)) h6)))))))))))))))
theorem vc61 (K : Value → Heap → Prop) (h : Heap) (x0a : Option Addr) (x0l x0c : Nat) (x1_0 : Int) (x1_1 : Int) : vc Try.prog (bodyOf Try.f61) (retQ Try.prog Try.f61.results.toList (hasRange (bodyOf Try.f61)) h.size K) (envL [(.slice x0a x0l x0c), (.agg #[(.int .u32 x1_0), (.int .u32 x1_1)])]) h = F61 K h x0a x0l x0c x1_0 x1_1 := by kernel_rfl
theorem ok61 : fnOk Try.prog Try.f61 2 = true := by kernel_rfl
theorem call61 {K : Value → Heap → Prop} {h : Heap} {x0a : Option Addr} {x0l x0c : Nat} {x1_0 : Int} {x1_1 : Int} (H : F61 K h x0a x0l x0c x1_0 x1_1) : CallH Try.prog 61 #[(.slice x0a x0l x0c), (.agg #[(.int .u32 x1_0), (.int .u32 x1_1)])] h K :=
  callH_mk Try.func61 ok61 (Eq.mp (vc61 K h x0a x0l x0c x1_0 x1_1).symm H)
/-- slices.rotateRight[jostle/bag.Pair] -/
def F58 (K : Value → Heap → Prop) (h : Heap) (x0a : Option Addr) (x0l x0c : Nat) (x1 : Int) : Prop :=
  (callV Try.prog (.func (.func 76) #[] #[]) #[(.slice x0a x0l x0c), (.int .i64 (IntKind.wrap .i64 (((x0l : Nat) : Int) - x1)))] h (fun v0 h1 => (K (.tuple #[]) h1)))
theorem vc58 (K : Value → Heap → Prop) (h : Heap) (x0a : Option Addr) (x0l x0c : Nat) (x1 : Int) : vc Try.prog (bodyOf Try.f58) (retQ Try.prog Try.f58.results.toList (hasRange (bodyOf Try.f58)) h.size K) (envL [(.slice x0a x0l x0c), (.int .i64 x1)]) h = F58 K h x0a x0l x0c x1 := by kernel_rfl
theorem ok58 : fnOk Try.prog Try.f58 2 = true := by kernel_rfl
theorem call58 {K : Value → Heap → Prop} {h : Heap} {x0a : Option Addr} {x0l x0c : Nat} {x1 : Int} (H : F58 K h x0a x0l x0c x1) : CallH Try.prog 58 #[(.slice x0a x0l x0c), (.int .i64 x1)] h K :=
  callH_mk Try.func58 ok58 (Eq.mp (vc58 K h x0a x0l x0c x1).symm H)
/-- slices.rotateLeft[jostle/bag.Pair] -/
def F76 (K : Value → Heap → Prop) (h : Heap) (x0a : Option Addr) (x0l x0c : Nat) (x1 : Int) : Prop :=
  (((0 : Int) ≤ x1) ∧ (((x1 : Int) ≤ ((x0c : Nat) : Int)) ∧ (callV Try.prog (.func (.func 93) #[] #[]) #[(.slice (subA x0a 0 x0c 2) (x1.toNat - 0) (x0c - 0))] h (fun v0 h1 => (((0 : Int) ≤ x1) ∧ (((x1 : Int) ≤ ((x0l : Nat) : Int)) ∧ (callV Try.prog (.func (.func 93) #[] #[]) #[(.slice (subA x0a x1.toNat x0c 2) (x0l - x1.toNat) (x0c - x1.toNat))] h1 (fun v2 h3 => (callV Try.prog (.func (.func 93) #[] #[]) #[(.slice x0a x0l x0c)] h3 (fun v4 h5 => (K (.tuple #[]) h5)))))))))))
theorem vc76 (K : Value → Heap → Prop) (h : Heap) (x0a : Option Addr) (x0l x0c : Nat) (x1 : Int) : vc Try.prog (bodyOf Try.f76) (retQ Try.prog Try.f76.results.toList (hasRange (bodyOf Try.f76)) h.size K) (envL [(.slice x0a x0l x0c), (.int .i64 x1)]) h = F76 K h x0a x0l x0c x1 := by kernel_rfl
theorem ok76 : fnOk Try.prog Try.f76 2 = true := by kernel_rfl
theorem call76 {K : Value → Heap → Prop} {h : Heap} {x0a : Option Addr} {x0l x0c : Nat} {x1 : Int} (H : F76 K h x0a x0l x0c x1) : CallH Try.prog 76 #[(.slice x0a x0l x0c), (.int .i64 x1)] h K :=
  callH_mk Try.func76 ok76 (Eq.mp (vc76 K h x0a x0l x0c x1).symm H)
/-- slices.Reverse[[]jostle/bag.Pair,jostle/bag.Pair] -/
def F93 (K : Value → Heap → Prop) (h : Heap) (x0a : Option Addr) (x0l x0c : Nat) : Prop :=
  (exI (fun I0 => (exM (fun m1 => ((I0 [(.int .i64 0), (.int .i64 (IntKind.wrap .i64 (((x0l : Nat) : Int) - 1)))] h) ∧ (∀ v2 : Value, (∀ v3 : Value, (∀ g4 : Env, (∀ h5 : Heap, ((I0 [v2, v3] h5) → (asInt .i64 v2 (fun n6 => (asInt .i64 v3 (fun n7 => (ifB (decide (n6 < n7)) (asInt .i64 v2 (fun n8 => (asInt .i64 v3 (fun n9 => (asInt .i64 v3 (fun n10 => (((0 : Int) ≤ n10) ∧ (((n10 : Int) < ((x0l : Nat) : Int)) ∧ (asPtr (.pointer x0a) (fun a11 => (ldH h5 (Addr.add a11 (n10.toNat * 2)) (fun v12 => (ldH h5 (Addr.add (Addr.add a11 (n10.toNat * 2)) 1) (fun v13 => (asInt .i64 v2 (fun n14 => (((0 : Int) ≤ n14) ∧ (((n14 : Int) < ((x0l : Nat) : Int)) ∧ (asPtr (.pointer x0a) (fun a15 => (ldH h5 (Addr.add a15 (n14.toNat * 2)) (fun v16 => (ldH h5 (Addr.add (Addr.add a15 (n14.toNat * 2)) 1) (fun v17 => (((0 : Int) ≤ n8) ∧ (((n8 : Int) < ((x0l : Nat) : Int)) ∧ (asPtr (.pointer x0a) (fun a18 => (stH h5 (Addr.add a18 (n8.toNat * 2)) v12 (fun h19 => (stH h19 (Addr.add (Addr.add a18 (n8.toNat * 2)) 1) v13 (fun h20 => (((0 : Int) ≤ n9) ∧ (((n9 : Int) < ((x0l : Nat) : Int)) ∧ (asPtr (.pointer x0a) (fun a21 => (stH h20 (Addr.add a21 (n9.toNat * 2)) v16 (fun h22 => (stH h22 (Addr.add (Addr.add a21 (n9.toNat * 2)) 1) v17 (fun h23 => (asInt .i64 v2 (fun n24 => (asInt .i64 v3 (fun n25 => ((I0 [(.int .i64 (IntKind.wrap .i64 (n24 + 1))), (.int .i64 (IntKind.wrap .i64 (n25 - 1)))] h23) ∧ ((m1 [(.int .i64 (IntKind.wrap .i64 (n24 + 1))), (.int .i64 (IntKind.wrap .i64 (n25 - 1)))] h23) < (m1 [v2, v3] h5))))))))))))))))))))))))))))))))))))))))))))))) (K (.tuple #[]) h5))))))))))))))))
theorem vc93 (K : Value → Heap → Prop) (h : Heap) (x0a : Option Addr) (x0l x0c : Nat) : vc Try.prog (bodyOf Try.f93) (retQ Try.prog Try.f93.results.toList (hasRange (bodyOf Try.f93)) h.size K) (envL [(.slice x0a x0l x0c)]) h = F93 K h x0a x0l x0c := by kernel_rfl
theorem ok93 : fnOk Try.prog Try.f93 1 = true := by kernel_rfl
theorem call93 {K : Value → Heap → Prop} {h : Heap} {x0a : Option Addr} {x0l x0c : Nat} (H : F93 K h x0a x0l x0c) : CallH Try.prog 93 #[(.slice x0a x0l x0c)] h K :=
  callH_mk Try.func93 ok93 (Eq.mp (vc93 K h x0a x0l x0c).symm H)
/-- (*jostle/bag.Bag).Add -/
def F10 (K : Value → Heap → Prop) (h : Heap) (x0 : Option Addr) (x1_0 : Int) (x1_1 : Int) : Prop :=
  (ifB (!(Option.isNone x0)) (nilC (.pointer x0) (asPtr (.pointer x0) (fun a0 => (ldH (Array.push h (.cells #[(.int .u32 x1_0), (.int .u32 x1_1)] 29)) a0 (fun v1 => (asSlice v1 (fun o2 k3 k4 => (ldH (Array.push h (.cells #[(.int .u32 x1_0), (.int .u32 x1_1)] 29)) ⟨h.size, 0, none⟩ (fun v5 => (ldH (Array.push h (.cells #[(.int .u32 x1_0), (.int .u32 x1_1)] 29)) ⟨h.size, 1, none⟩ (fun v6 => (callV Try.prog (.func (.func 35) #[] #[]) #[(.slice o2 k3 k4), (.agg #[v5, v6]), (.func (.func 36) #[] #[])] (Array.push h (.cells #[(.int .u32 x1_0), (.int .u32 x1_1)] 29)) (fun v7 h8 => (asTup v7 (fun vs9 => (elemH vs9 0 (fun v10 => (asInt .i64 v10 (fun n11 => (asTup v7 (fun vs12 => (elemH vs12 1 (fun v13 => (asBool v13 (fun b14 => (nilC (.pointer x0) (asPtr (.pointer x0) (fun a15 => (ldH h8 a15 (fun v16 => (asSlice v16 (fun o17 k18 k19 => (ldH h8 ⟨h.size, 0, none⟩ (fun v20 => (ldH h8 ⟨h.size, 1, none⟩ (fun v21 => (((cellAt (Array.push h8 (.cells #[v20, v21] 29)) a15) = (some v16)) ∧ (callV Try.prog (.func (.func 37) #[] #[]) #[(.slice o17 k18 k19), (.int .i64 n11), (.slice (some ⟨h8.size, 0, none⟩) 1 1)] (Array.push h8 (.cells #[v20, v21] 29)) (fun v22 h23 => (asSlice v22 (fun o24 k25 k26 => (nilC (.pointer x0) (asPtr (.pointer x0) (fun a27 => (stH h23 a27 (.slice o24 k25 k26) (fun h28 => (K (.tuple #[]) h28))))))))))))))))))))))))))))))))))))))))))))))) (K (.tuple #[]) (Array.push h (.cells #[(.int .u32 x1_0), (.int .u32 x1_1)] 29))))
theorem vc10 (K : Value → Heap → Prop) (h : Heap) (x0 : Option Addr) (x1_0 : Int) (x1_1 : Int) : vc Try.prog (bodyOf Try.f10) (retQ Try.prog Try.f10.results.toList (hasRange (bodyOf Try.f10)) h.size K) (envL [(.pointer x0), (.agg #[(.int .u32 x1_0), (.int .u32 x1_1)])]) h = F10 K h x0 x1_0 x1_1 := by kernel_rfl
theorem ok10 : fnOk Try.prog Try.f10 2 = true := by kernel_rfl
theorem call10 {K : Value → Heap → Prop} {h : Heap} {x0 : Option Addr} {x1_0 : Int} {x1_1 : Int} (H : F10 K h x0 x1_0 x1_1) : CallH Try.prog 10 #[(.pointer x0), (.agg #[(.int .u32 x1_0), (.int .u32 x1_1)])] h K :=
  callH_mk Try.func10 ok10 (Eq.mp (vc10 K h x0 x1_0 x1_1).symm H)
/-- (*jostle/bag.Bag).Mins -/
def F13 (K : Value → Heap → Prop) (h : Heap) (x0 : Option Addr) : Prop :=
  (callV Try.prog (.func (.func 19) #[] #[]) #[(.pointer x0)] h (fun v0 h1 => (asTup v0 (fun vs2 => (elemH vs2 0 (fun v3 => (asInt .u32 v3 (fun n4 => (asTup v0 (fun vs5 => (elemH vs5 1 (fun v6 => (asBool v6 (fun b7 => (stH (Array.push h1 (.cells #[(.int .u32 0)] 27)) ⟨h1.size, 0, none⟩ (.int .u32 n4) (fun h8 => (ifB (!b7) (K (.slice none 0 0) h8) (nilC (.pointer x0) (asPtr (.pointer x0) (fun a9 => (ldH h8 a9 (fun v10 => (asSlice v10 (fun o11 k12 k13 => (callV Try.prog (.func (.func 38) #[] #[]) #[(.slice o11 k12 k13), (.func (.func 39) #[] #[(.pointer (some ⟨h1.size, 0, none⟩))])] h8 (fun v14 h15 => (asInt .i64 v14 (fun n16 => (exI (fun I17 => ((ifB (decide (n16 < 0)) (nilC (.pointer x0) (asPtr (.pointer x0) (fun a18 => (ldH h15 a18 (fun v19 => (asSlice v19 (fun o20 k21 k22 => (I17 [(.int .i64 ((k21 : Nat) : Int))] h15)))))))) (I17 [(.int .i64 n16)] h15)) ∧ (∀ v23 : Value, (∀ g24 : Env, (∀ h25 : Heap, ((I17 [v23] h25) → (nilC (.pointer x0) (asPtr (.pointer x0) (fun a26 => (ldH h25 a26 (fun v27 => (asSlice v27 (fun o28 k29 k30 => (asInt .i64 v23 (fun n31 => (((0 : Int) ≤ n31) ∧ (((n31 : Int) ≤ ((k30 : Nat) : Int)) ∧ (callV Try.prog (.func (.func 41) #[] #[]) #[(.slice (subA o28 0 k30 2) (n31.toNat - 0) (k30 - 0))] h25 (fun v32 h33 => (asSlice v32 (fun o34 k35 k36 => (callV Try.prog (.func (.func 40) #[] #[]) #[(.slice o34 k35 k36)] h33 (fun v37 h38 => (asSlice v37 (fun o39 k40 k41 => (K (.slice o39 k40 k41) h38)))))))))))))))))))))))))))))))))))))))))))))))))))))))
theorem vc13 (K : Value → Heap → Prop) (h : Heap) (x0 : Option Addr) : vc Try.prog (bodyOf Try.f13) (retQ Try.prog Try.f13.results.toList (hasRange (bodyOf Try.f13)) h.size K) (envL [(.pointer x0)]) h = F13 K h x0 := by kernel_rfl
theorem ok13 : fnOk Try.prog Try.f13 1 = true := by kernel_rfl
theorem call13 {K : Value → Heap → Prop} {h : Heap} {x0 : Option Addr} (H : F13 K h x0) : CallH Try.prog 13 #[(.pointer x0)] h K :=
  callH_mk Try.func13 ok13 (Eq.mp (vc13 K h x0).symm H)
/-- (*jostle/bag.Bag).Take -/
def F15 (K : Value → Heap → Prop) (h : Heap) (x0 : Option Addr) (x1_0 : Int) (x1_1 : Int) : Prop :=
  (ifB (Option.isNone x0) (K (.bool false) (Array.push h (.cells #[(.int .u32 x1_0), (.int .u32 x1_1)] 29))) (nilC (.pointer x0) (asPtr (.pointer x0) (fun a0 => (ldH (Array.push h (.cells #[(.int .u32 x1_0), (.int .u32 x1_1)] 29)) a0 (fun v1 => (asSlice v1 (fun o2 k3 k4 => (ldH (Array.push h (.cells #[(.int .u32 x1_0), (.int .u32 x1_1)] 29)) ⟨h.size, 0, none⟩ (fun v5 => (ldH (Array.push h (.cells #[(.int .u32 x1_0), (.int .u32 x1_1)] 29)) ⟨h.size, 1, none⟩ (fun v6 => (callV Try.prog (.func (.func 35) #[] #[]) #[(.slice o2 k3 k4), (.agg #[v5, v6]), (.func (.func 36) #[] #[])] (Array.push h (.cells #[(.int .u32 x1_0), (.int .u32 x1_1)] 29)) (fun v7 h8 => (asTup v7 (fun vs9 => (elemH vs9 0 (fun v10 => (asInt .i64 v10 (fun n11 => (asTup v7 (fun vs12 => (elemH vs12 1 (fun v13 => (asBool v13 (fun b14 => (ifB b14 (nilC (.pointer x0) (asPtr (.pointer x0) (fun a15 => (ldH h8 a15 (fun v16 => (asSlice v16 (fun o17 k18 k19 => (callV Try.prog (.func (.func 42) #[] #[]) #[(.slice o17 k18 k19), (.int .i64 n11), (.int .i64 (IntKind.wrap .i64 (n11 + 1)))] h8 (fun v20 h21 => (asSlice v20 (fun o22 k23 k24 => (nilC (.pointer x0) (asPtr (.pointer x0) (fun a25 => (stH h21 a25 (.slice o22 k23 k24) (fun h26 => (K (.bool b14) h26))))))))))))))))) (K (.bool b14) h8))))))))))))))))))))))))))))
theorem vc15 (K : Value → Heap → Prop) (h : Heap) (x0 : Option Addr) (x1_0 : Int) (x1_1 : Int) : vc Try.prog (bodyOf Try.f15) (retQ Try.prog Try.f15.results.toList (hasRange (bodyOf Try.f15)) h.size K) (envL [(.pointer x0), (.agg #[(.int .u32 x1_0), (.int .u32 x1_1)])]) h = F15 K h x0 x1_0 x1_1 := by kernel_rfl
theorem ok15 : fnOk Try.prog Try.f15 2 = true := by kernel_rfl
theorem call15 {K : Value → Heap → Prop} {h : Heap} {x0 : Option Addr} {x1_0 : Int} {x1_1 : Int} (H : F15 K h x0 x1_0 x1_1) : CallH Try.prog 15 #[(.pointer x0), (.agg #[(.int .u32 x1_0), (.int .u32 x1_1)])] h K :=
  callH_mk Try.func15 ok15 (Eq.mp (vc15 K h x0 x1_0 x1_1).symm H)
/-- (*jostle/bag.Bag).Do -/
def F18 (K : Value → Heap → Prop) (h : Heap) (x0 : Option Addr) (x1_0 : Int) (x1_1 : Int) (x1_2 : Int) (x2_0 : Int) (x2_1 : Int) (x2_2 : Int) : Prop :=
  (exI (fun I0 => ((ifB (Option.isNone x0) (I0 [(.bool true)] (Array.push (Array.push h (.cells #[(.int .i64 x1_0), (.int .u32 x1_1), (.int .u32 x1_2)] 40)) (.cells #[(.int .i64 x2_0), (.int .u32 x2_1), (.int .u32 x2_2)] 42))) (ldH (Array.push (Array.push h (.cells #[(.int .i64 x1_0), (.int .u32 x1_1), (.int .u32 x1_2)] 40)) (.cells #[(.int .i64 x2_0), (.int .u32 x2_1), (.int .u32 x2_2)] 42)) ⟨h.size, 0, none⟩ (fun v1 => (ldH (Array.push (Array.push h (.cells #[(.int .i64 x1_0), (.int .u32 x1_1), (.int .u32 x1_2)] 40)) (.cells #[(.int .i64 x2_0), (.int .u32 x2_1), (.int .u32 x2_2)] 42)) ⟨h.size, 1, none⟩ (fun v2 => (ldH (Array.push (Array.push h (.cells #[(.int .i64 x1_0), (.int .u32 x1_1), (.int .u32 x1_2)] 40)) (.cells #[(.int .i64 x2_0), (.int .u32 x2_1), (.int .u32 x2_2)] 42)) ⟨h.size, 2, none⟩ (fun v3 => (ldH (Array.push (Array.push h (.cells #[(.int .i64 x1_0), (.int .u32 x1_1), (.int .u32 x1_2)] 40)) (.cells #[(.int .i64 x2_0), (.int .u32 x2_1), (.int .u32 x2_2)] 42)) ⟨(Array.push h (.cells #[(.int .i64 x1_0), (.int .u32 x1_1), (.int .u32 x1_2)] 40)).size, 0, none⟩ (fun v4 => (ldH (Array.push (Array.push h (.cells #[(.int .i64 x1_0), (.int .u32 x1_1), (.int .u32 x1_2)] 40)) (.cells #[(.int .i64 x2_0), (.int .u32 x2_1), (.int .u32 x2_2)] 42)) ⟨(Array.push h (.cells #[(.int .i64 x1_0), (.int .u32 x1_1), (.int .u32 x1_2)] 40)).size, 1, none⟩ (fun v5 => (ldH (Array.push (Array.push h (.cells #[(.int .i64 x1_0), (.int .u32 x1_1), (.int .u32 x1_2)] 40)) (.cells #[(.int .i64 x2_0), (.int .u32 x2_1), (.int .u32 x2_2)] 42)) ⟨(Array.push h (.cells #[(.int .i64 x1_0), (.int .u32 x1_1), (.int .u32 x1_2)] 40)).size, 2, none⟩ (fun v6 => (callV Try.prog (.func (.func 43) #[] #[]) #[(.agg #[v1, v2, v3]), (.agg #[v4, v5, v6])] (Array.push (Array.push h (.cells #[(.int .i64 x1_0), (.int .u32 x1_1), (.int .u32 x1_2)] 40)) (.cells #[(.int .i64 x2_0), (.int .u32 x2_1), (.int .u32 x2_2)] 42)) (fun v7 h8 => (asBool v7 (fun b9 => (I0 [(.bool (!b9))] h8)))))))))))))))))) ∧ (∀ v10 : Value, (∀ g11 : Env, (∀ h12 : Heap, ((I0 [v10] h12) → (asBool v10 (fun b13 => (ifB b13 (K (.bool false) h12) (ldH h12 ⟨(Array.push h (.cells #[(.int .i64 x1_0), (.int .u32 x1_1), (.int .u32 x1_2)] 40)).size, 1, none⟩ (fun v14 => (asInt .u32 v14 (fun n15 => (ldH h12 ⟨(Array.push h (.cells #[(.int .i64 x1_0), (.int .u32 x1_1), (.int .u32 x1_2)] 40)).size, 2, none⟩ (fun v16 => (asInt .u32 v16 (fun n17 => (stH (Array.push h12 (.cells #[(.int .u32 0), (.int .u32 0)] 29)) ⟨h12.size, 0, none⟩ (.int .u32 n15) (fun h18 => (stH h18 ⟨h12.size, 1, none⟩ (.int .u32 n17) (fun h19 => (ldH h19 ⟨(Array.push h (.cells #[(.int .i64 x1_0), (.int .u32 x1_1), (.int .u32 x1_2)] 40)).size, 0, none⟩ (fun v20 => (asInt .i64 v20 (fun n21 => (ifB (n21 == 0) (ldH h19 ⟨h.size, 1, none⟩ (fun v22 => (asInt .u32 v22 (fun n23 => (ldH h19 ⟨h.size, 2, none⟩ (fun v24 => (asInt .u32 v24 (fun n25 => (callV Try.prog (.func (.func 10) #[] #[]) #[(.pointer x0), (.agg #[(.int .u32 n23), (.int .u32 n25)])] h19 (fun v26 h27 => (K (.bool true) h27))))))))))) (ldH h19 ⟨(Array.push h (.cells #[(.int .i64 x1_0), (.int .u32 x1_1), (.int .u32 x1_2)] 40)).size, 0, none⟩ (fun v28 => (asInt .i64 v28 (fun n29 => (ifB (n29 == 1) (K (.bool true) h19) (ldH h19 ⟨(Array.push h (.cells #[(.int .i64 x1_0), (.int .u32 x1_1), (.int .u32 x1_2)] 40)).size, 0, none⟩ (fun v30 => (asInt .i64 v30 (fun n31 => (ifB (n31 == 3) (callV Try.prog (.func (.func 20) #[] #[]) #[(.pointer x0)] h19 (fun v32 h33 => (asInt .i64 v32 (fun n34 => (K (.bool (n34 == 0)) h33))))) (ldH h19 ⟨h12.size, 0, none⟩ (fun v35 => (ldH h19 ⟨h12.size, 1, none⟩ (fun v36 => (callV Try.prog (.func (.func 13) #[] #[]) #[(.pointer x0)] h19 (fun v37 h38 => (asSlice v37 (fun o39 k40 k41 => (((cellAt h38 ⟨h12.size, 0, none⟩) = (some v35)) ∧ (((cellAt h38 ⟨h12.size, 1, none⟩) = (some v36)) ∧ (callV Try.prog (.func (.func 44) #[] #[]) #[(.slice o39 k40 k41), (.agg #[v35, v36])] h38 (fun v42 h43 => (asBool v42 (fun b44 => (ifB (!b44) (K (.bool false) h43) (ldH h43 ⟨h.size, 0, none⟩ (fun v45 => (asInt .i64 v45 (fun n46 => (ifB (n46 == 1) (ldH h43 ⟨h12.size, 0, none⟩ (fun v47 => (ldH h43 ⟨h12.size, 1, none⟩ (fun v48 => (callV Try.prog (.func (.func 15) #[] #[]) #[(.pointer x0), (.agg #[v47, v48])] h43 (fun v49 h50 => (asBool v49 (fun b51 => (K (.bool true) h50))))))))) (K (.bool true) h43))))))))))))))))))))))))))))))))))))))))))))))))))))))))))
theorem vc18 (K : Value → Heap → Prop) (h : Heap) (x0 : Option Addr) (x1_0 : Int) (x1_1 : Int) (x1_2 : Int) (x2_0 : Int) (x2_1 : Int) (x2_2 : Int) : vc Try.prog (bodyOf Try.f18) (retQ Try.prog Try.f18.results.toList (hasRange (bodyOf Try.f18)) h.size K) (envL [(.pointer x0), (.agg #[(.int .i64 x1_0), (.int .u32 x1_1), (.int .u32 x1_2)]), (.agg #[(.int .i64 x2_0), (.int .u32 x2_1), (.int .u32 x2_2)])]) h = F18 K h x0 x1_0 x1_1 x1_2 x2_0 x2_1 x2_2 := by kernel_rfl
theorem ok18 : fnOk Try.prog Try.f18 3 = true := by kernel_rfl
theorem call18 {K : Value → Heap → Prop} {h : Heap} {x0 : Option Addr} {x1_0 : Int} {x1_1 : Int} {x1_2 : Int} {x2_0 : Int} {x2_1 : Int} {x2_2 : Int} (H : F18 K h x0 x1_0 x1_1 x1_2 x2_0 x2_1 x2_2) : CallH Try.prog 18 #[(.pointer x0), (.agg #[(.int .i64 x1_0), (.int .u32 x1_1), (.int .u32 x1_2)]), (.agg #[(.int .i64 x2_0), (.int .u32 x2_1), (.int .u32 x2_2)])] h K :=
  callH_mk Try.func18 ok18 (Eq.mp (vc18 K h x0 x1_0 x1_1 x1_2 x2_0 x2_1 x2_2).symm H)
/-- (*jostle/bag.Bag).Least -/
def F19 (K : Value → Heap → Prop) (h : Heap) (x0 : Option Addr) : Prop :=
  (callV Try.prog (.func (.func 20) #[] #[]) #[(.pointer x0)] h (fun v0 h1 => (asInt .i64 v0 (fun n2 => (ifB (n2 == 0) (K (.tuple #[(.int .u32 0), (.bool false)]) h1) (nilC (.pointer x0) (asPtr (.pointer x0) (fun a3 => (ldH h1 a3 (fun v4 => (asSlice v4 (fun o5 k6 k7 => (((0 : Int) ≤ 0) ∧ (((0 : Int) < ((k6 : Nat) : Int)) ∧ (asPtr (.pointer o5) (fun a8 => (ldH h1 a8 (fun v9 => (asInt .u32 v9 (fun n10 => (K (.tuple #[(.int .u32 n10), (.bool true)]) h1)))))))))))))))))))))
theorem vc19 (K : Value → Heap → Prop) (h : Heap) (x0 : Option Addr) : vc Try.prog (bodyOf Try.f19) (retQ Try.prog Try.f19.results.toList (hasRange (bodyOf Try.f19)) h.size K) (envL [(.pointer x0)]) h = F19 K h x0 := by kernel_rfl
theorem ok19 : fnOk Try.prog Try.f19 1 = true := by kernel_rfl
theorem call19 {K : Value → Heap → Prop} {h : Heap} {x0 : Option Addr} (H : F19 K h x0) : CallH Try.prog 19 #[(.pointer x0)] h K :=
  callH_mk Try.func19 ok19 (Eq.mp (vc19 K h x0).symm H)
/-- (*jostle/bag.Bag).Len -/
def F20 (K : Value → Heap → Prop) (h : Heap) (x0 : Option Addr) : Prop :=
  (ifB (Option.isNone x0) (K (.int .i64 0) h) (nilC (.pointer x0) (asPtr (.pointer x0) (fun a0 => (ldH h a0 (fun v1 => (asSlice v1 (fun o2 k3 k4 => (K (.int .i64 ((k3 : Nat) : Int)) h)))))))))
theorem vc20 (K : Value → Heap → Prop) (h : Heap) (x0 : Option Addr) : vc Try.prog (bodyOf Try.f20) (retQ Try.prog Try.f20.results.toList (hasRange (bodyOf Try.f20)) h.size K) (envL [(.pointer x0)]) h = F20 K h x0 := by kernel_rfl
theorem ok20 : fnOk Try.prog Try.f20 1 = true := by kernel_rfl
theorem call20 {K : Value → Heap → Prop} {h : Heap} {x0 : Option Addr} (H : F20 K h x0) : CallH Try.prog 20 #[(.pointer x0)] h K :=
  callH_mk Try.func20 ok20 (Eq.mp (vc20 K h x0).symm H)
/-- (*jostle/bag.Bag).List -/
def F21 (K : Value → Heap → Prop) (h : Heap) (x0 : Option Addr) : Prop :=
  (ifB (Option.isNone x0) (K (.slice none 0 0) h) (nilC (.pointer x0) (asPtr (.pointer x0) (fun a0 => (ldH h a0 (fun v1 => (asSlice v1 (fun o2 k3 k4 => (callV Try.prog (.func (.func 41) #[] #[]) #[(.slice o2 k3 k4)] h (fun v5 h6 => (asSlice v5 (fun o7 k8 k9 => (K (.slice o7 k8 k9) h6)))))))))))))
theorem vc21 (K : Value → Heap → Prop) (h : Heap) (x0 : Option Addr) : vc Try.prog (bodyOf Try.f21) (retQ Try.prog Try.f21.results.toList (hasRange (bodyOf Try.f21)) h.size K) (envL [(.pointer x0)]) h = F21 K h x0 := by kernel_rfl
theorem ok21 : fnOk Try.prog Try.f21 1 = true := by kernel_rfl
theorem call21 {K : Value → Heap → Prop} {h : Heap} {x0 : Option Addr} (H : F21 K h x0) : CallH Try.prog 21 #[(.pointer x0)] h K :=
  callH_mk Try.func21 ok21 (Eq.mp (vc21 K h x0).symm H)
/-- (*jostle/bag.Bag).Copy -/
def F87 (K : Value → Heap → Prop) (h : Heap) (x0 : Option Addr) : Prop :=
  (ifB (Option.isNone x0) (K (.pointer none) h) (nilC (.pointer x0) (asPtr (.pointer x0) (fun a0 => (ldH h a0 (fun v1 => (asSlice v1 (fun o2 k3 k4 => (callV Try.prog (.func (.func 41) #[] #[]) #[(.slice o2 k3 k4)] h (fun v5 h6 => (asSlice v5 (fun o7 k8 k9 => (K (.pointer (some ⟨h6.size, 0, none⟩)) (Array.push h6 (.cells #[(.slice o7 k8 k9)] 25)))))))))))))))
theorem vc87 (K : Value → Heap → Prop) (h : Heap) (x0 : Option Addr) : vc Try.prog (bodyOf Try.f87) (retQ Try.prog Try.f87.results.toList (hasRange (bodyOf Try.f87)) h.size K) (envL [(.pointer x0)]) h = F87 K h x0 := by kernel_rfl
theorem ok87 : fnOk Try.prog Try.f87 1 = true := by kernel_rfl
theorem call87 {K : Value → Heap → Prop} {h : Heap} {x0 : Option Addr} (H : F87 K h x0) : CallH Try.prog 87 #[(.pointer x0)] h K :=
  callH_mk Try.func87 ok87 (Eq.mp (vc87 K h x0).symm H)
/-- (*jostle/bag.Bag).answer -/
def F54 (K : Value → Heap → Prop) (h : Heap) (x0 : Option Addr) (x1_0 : Int) (x1_1 : Int) (x1_2 : Int) : Prop :=
  (ldH (Array.push (Array.push h (.cells #[(.int .i64 x1_0), (.int .u32 x1_1), (.int .u32 x1_2)] 40)) (.cells #[(.int .i64 0), (.int .u32 0), (.int .u32 0)] 42)) ⟨h.size, 0, none⟩ (fun v0 => (ldH (Array.push (Array.push h (.cells #[(.int .i64 x1_0), (.int .u32 x1_1), (.int .u32 x1_2)] 40)) (.cells #[(.int .i64 0), (.int .u32 0), (.int .u32 0)] 42)) ⟨h.size, 1, none⟩ (fun v1 => (ldH (Array.push (Array.push h (.cells #[(.int .i64 x1_0), (.int .u32 x1_1), (.int .u32 x1_2)] 40)) (.cells #[(.int .i64 0), (.int .u32 0), (.int .u32 0)] 42)) ⟨h.size, 2, none⟩ (fun v2 => (callV Try.prog (.func (.func 59) #[] #[]) #[(.agg #[v0, v1, v2])] (Array.push (Array.push h (.cells #[(.int .i64 x1_0), (.int .u32 x1_1), (.int .u32 x1_2)] 40)) (.cells #[(.int .i64 0), (.int .u32 0), (.int .u32 0)] 42)) (fun v3 h4 => (asBool v3 (fun b5 => (ifB (!b5) (stH h4 ⟨(Array.push h (.cells #[(.int .i64 x1_0), (.int .u32 x1_1), (.int .u32 x1_2)] 40)).size, 0, none⟩ (.int .i64 1) (fun h6 => (stH h6 ⟨(Array.push h (.cells #[(.int .i64 x1_0), (.int .u32 x1_1), (.int .u32 x1_2)] 40)).size, 1, none⟩ (.int .u32 0) (fun h7 => (stH h7 ⟨(Array.push h (.cells #[(.int .i64 x1_0), (.int .u32 x1_1), (.int .u32 x1_2)] 40)).size, 2, none⟩ (.int .u32 0) (fun h8 => (ldH h8 ⟨(Array.push h (.cells #[(.int .i64 x1_0), (.int .u32 x1_1), (.int .u32 x1_2)] 40)).size, 0, none⟩ (fun v9 => (ldH h8 ⟨(Array.push h (.cells #[(.int .i64 x1_0), (.int .u32 x1_1), (.int .u32 x1_2)] 40)).size, 1, none⟩ (fun v10 => (ldH h8 ⟨(Array.push h (.cells #[(.int .i64 x1_0), (.int .u32 x1_1), (.int .u32 x1_2)] 40)).size, 2, none⟩ (fun v11 => (K (.agg #[v9, v10, v11]) h8))))))))))))) (ldH h4 ⟨h.size, 0, none⟩ (fun v12 => (asInt .i64 v12 (fun n13 => (ifB (n13 == 0) (stH h4 ⟨(Array.push h (.cells #[(.int .i64 x1_0), (.int .u32 x1_1), (.int .u32 x1_2)] 40)).size, 0, none⟩ (.int .i64 0) (fun h14 => (stH h14 ⟨(Array.push h (.cells #[(.int .i64 x1_0), (.int .u32 x1_1), (.int .u32 x1_2)] 40)).size, 1, none⟩ (.int .u32 0) (fun h15 => (stH h15 ⟨(Array.push h (.cells #[(.int .i64 x1_0), (.int .u32 x1_1), (.int .u32 x1_2)] 40)).size, 2, none⟩ (.int .u32 0) (fun h16 => (ldH h16 ⟨(Array.push h (.cells #[(.int .i64 x1_0), (.int .u32 x1_1), (.int .u32 x1_2)] 40)).size, 0, none⟩ (fun v17 => (ldH h16 ⟨(Array.push h (.cells #[(.int .i64 x1_0), (.int .u32 x1_1), (.int .u32 x1_2)] 40)).size, 1, none⟩ (fun v18 => (ldH h16 ⟨(Array.push h (.cells #[(.int .i64 x1_0), (.int .u32 x1_1), (.int .u32 x1_2)] 40)).size, 2, none⟩ (fun v19 => (K (.agg #[v17, v18, v19]) h16))))))))))))) (callV Try.prog (.func (.func 13) #[] #[]) #[(.pointer x0)] h4 (fun v20 h21 => (asSlice v20 (fun o22 k23 k24 => (ifB (((k23 : Nat) : Int) == 0) (stH h21 ⟨(Array.push h (.cells #[(.int .i64 x1_0), (.int .u32 x1_1), (.int .u32 x1_2)] 40)).size, 0, none⟩ (.int .i64 3) (fun h25 => (stH h25 ⟨(Array.push h (.cells #[(.int .i64 x1_0), (.int .u32 x1_1), (.int .u32 x1_2)] 40)).size, 1, none⟩ (.int .u32 0) (fun h26 => (stH h26 ⟨(Array.push h (.cells #[(.int .i64 x1_0), (.int .u32 x1_1), (.int .u32 x1_2)] 40)).size, 2, none⟩ (.int .u32 0) (fun h27 => (ldH h27 ⟨(Array.push h (.cells #[(.int .i64 x1_0), (.int .u32 x1_1), (.int .u32 x1_2)] 40)).size, 0, none⟩ (fun v28 => (ldH h27 ⟨(Array.push h (.cells #[(.int .i64 x1_0), (.int .u32 x1_1), (.int .u32 x1_2)] 40)).size, 1, none⟩ (fun v29 => (ldH h27 ⟨(Array.push h (.cells #[(.int .i64 x1_0), (.int .u32 x1_1), (.int .u32 x1_2)] 40)).size, 2, none⟩ (fun v30 => (K (.agg #[v28, v29, v30]) h27))))))))))))) (((0 : Int) ≤ 0) ∧ (((0 : Int) < ((k23 : Nat) : Int)) ∧ (asPtr (.pointer o22) (fun a31 => (ldH h21 a31 (fun v32 => (asInt .u32 v32 (fun n33 => (((0 : Int) ≤ 0) ∧ (((0 : Int) < ((k23 : Nat) : Int)) ∧ (asPtr (.pointer o22) (fun a34 => (ldH h21 (Addr.add a34 1) (fun v35 => (asInt .u32 v35 (fun n36 => (stH h21 ⟨(Array.push h (.cells #[(.int .i64 x1_0), (.int .u32 x1_1), (.int .u32 x1_2)] 40)).size, 0, none⟩ (.int .i64 2) (fun h37 => (stH h37 ⟨(Array.push h (.cells #[(.int .i64 x1_0), (.int .u32 x1_1), (.int .u32 x1_2)] 40)).size, 1, none⟩ (.int .u32 n33) (fun h38 => (stH h38 ⟨(Array.push h (.cells #[(.int .i64 x1_0), (.int .u32 x1_1), (.int .u32 x1_2)] 40)).size, 2, none⟩ (.int .u32 n36) (fun h39 => (ldH h39 ⟨(Array.push h (.cells #[(.int .i64 x1_0), (.int .u32 x1_1), (.int .u32 x1_2)] 40)).size, 0, none⟩ (fun v40 => (ldH h39 ⟨(Array.push h (.cells #[(.int .i64 x1_0), (.int .u32 x1_1), (.int .u32 x1_2)] 40)).size, 1, none⟩ (fun v41 => (ldH h39 ⟨(Array.push h (.cells #[(.int .i64 x1_0), (.int .u32 x1_1), (.int .u32 x1_2)] 40)).size, 2, none⟩ (fun v42 => (K (.agg #[v40, v41, v42]) h39))))))))))))))))))))))))))))))))))))))))))))))))))
theorem vc54 (K : Value → Heap → Prop) (h : Heap) (x0 : Option Addr) (x1_0 : Int) (x1_1 : Int) (x1_2 : Int) : vc Try.prog (bodyOf Try.f54) (retQ Try.prog Try.f54.results.toList (hasRange (bodyOf Try.f54)) h.size K) (envL [(.pointer x0), (.agg #[(.int .i64 x1_0), (.int .u32 x1_1), (.int .u32 x1_2)])]) h = F54 K h x0 x1_0 x1_1 x1_2 := by kernel_rfl
theorem ok54 : fnOk Try.prog Try.f54 2 = true := by kernel_rfl
theorem call54 {K : Value → Heap → Prop} {h : Heap} {x0 : Option Addr} {x1_0 : Int} {x1_1 : Int} {x1_2 : Int} (H : F54 K h x0 x1_0 x1_1 x1_2) : CallH Try.prog 54 #[(.pointer x0), (.agg #[(.int .i64 x1_0), (.int .u32 x1_1), (.int .u32 x1_2)])] h K :=
  callH_mk Try.func54 ok54 (Eq.mp (vc54 K h x0 x1_0 x1_1 x1_2).symm H)
/-- jostle/bag.Run -/
def F34 (K : Value → Heap → Prop) (h : Heap) (x0a : Option Addr) (x0l x0c : Nat) : Prop :=
  (exI (fun I0 => (exM (fun m1 => ((I0 [(.slice none 0 0), (.int .i64 0)] (Array.push h (.cells #[(.slice none 0 0)] 25))) ∧ (∀ v2 : Value, (∀ v3 : Value, (∀ g4 : Env, (∀ h5 : Heap, ((I0 [v2, v3] h5) → (asInt .i64 v3 (fun n6 => (ifB (decide (n6 < ((x0l : Nat) : Int))) (asI v3 (fun n7 => (((0 : Int) ≤ n7) ∧ (((n7 : Int) < ((x0l : Nat) : Int)) ∧ (asPtr (.pointer x0a) (fun a8 => (ldH h5 (Addr.add a8 (n7.toNat * 3)) (fun v9 => (ldH h5 (Addr.add (Addr.add a8 (n7.toNat * 3)) 1) (fun v10 => (ldH h5 (Addr.add (Addr.add a8 (n7.toNat * 3)) 2) (fun v11 => (stH (Array.push h5 (.cells #[(.int .i64 0), (.int .u32 0), (.int .u32 0)] 40)) ⟨h5.size, 0, none⟩ v9 (fun h12 => (stH h12 ⟨h5.size, 1, none⟩ v10 (fun h13 => (stH h13 ⟨h5.size, 2, none⟩ v11 (fun h14 => (ldH h14 ⟨h5.size, 0, none⟩ (fun v15 => (ldH h14 ⟨h5.size, 1, none⟩ (fun v16 => (ldH h14 ⟨h5.size, 2, none⟩ (fun v17 => (callV Try.prog (.func (.func 54) #[] #[]) #[(.pointer (some ⟨h.size, 0, none⟩)), (.agg #[v15, v16, v17])] h14 (fun v18 h19 => (asAgg v18 (fun vs20 => (sizeH vs20 3 (elemH vs20 0 (fun v21 => (elemH vs20 1 (fun v22 => (elemH vs20 2 (fun v23 => (stH (Array.push h19 (.cells #[(.int .i64 0), (.int .u32 0), (.int .u32 0)] 42)) ⟨h19.size, 0, none⟩ v21 (fun h24 => (stH h24 ⟨h19.size, 1, none⟩ v22 (fun h25 => (stH h25 ⟨h19.size, 2, none⟩ v23 (fun h26 => (ldH h26 ⟨h5.size, 0, none⟩ (fun v27 => (ldH h26 ⟨h5.size, 1, none⟩ (fun v28 => (ldH h26 ⟨h5.size, 2, none⟩ (fun v29 => (ldH h26 ⟨h19.size, 0, none⟩ (fun v30 => (ldH h26 ⟨h19.size, 1, none⟩ (fun v31 => (ldH h26 ⟨h19.size, 2, none⟩ (fun v32 => (callV Try.prog (.func (.func 18) #[] #[]) #[(.pointer (some ⟨h.size, 0, none⟩)), (.agg #[v27, v28, v29]), (.agg #[v30, v31, v32])] h26 (fun v33 h34 => (asBool v33 (fun b35 => (asSlice v2 (fun o36 k37 k38 => (ldH h34 ⟨h19.size, 0, none⟩ (fun v39 => (ldH h34 ⟨h19.size, 1, none⟩ (fun v40 => (ldH h34 ⟨h19.size, 2, none⟩ (fun v41 => (appH Try.prog #[63, 63] 63 #[(.slice o36 k37 k38), (.slice (some ⟨h34.size, 0, none⟩) 1 1)] (Array.push h34 (.cells #[v39, v40, v41] 42)) (fun v42 h43 => (asSlice v42 (fun o44 k45 k46 => (asInt .i64 v3 (fun n47 => ((I0 [(.slice o44 k45 k46), (.int .i64 (IntKind.wrap .i64 (n47 + 1)))] h43) ∧ ((m1 [(.slice o44 k45 k46), (.int .i64 (IntKind.wrap .i64 (n47 + 1)))] h43) < (m1 [v2, v3] h5)))))))))))))))))))))))))))))))))))))))))))))))))))))))))))))))))))))))))) (asSlice v2 (fun o48 k49 k50 => (K (.slice o48 k49 k50) h5))))))))))))))))
theorem vc34 (K : Value → Heap → Prop) (h : Heap) (x0a : Option Addr) (x0l x0c : Nat) : vc Try.prog (bodyOf Try.f34) (retQ Try.prog Try.f34.results.toList (hasRange (bodyOf Try.f34)) h.size K) (envL [(.slice x0a x0l x0c)]) h = F34 K h x0a x0l x0c := by kernel_rfl
theorem ok34 : fnOk Try.prog Try.f34 1 = true := by kernel_rfl
theorem call34 {K : Value → Heap → Prop} {h : Heap} {x0a : Option Addr} {x0l x0c : Nat} (H : F34 K h x0a x0l x0c) : CallH Try.prog 34 #[(.slice x0a x0l x0c)] h K :=
  callH_mk Try.func34 ok34 (Eq.mp (vc34 K h x0a x0l x0c).symm H)
end Go.Proofs.Ytlncjcbofgjcfaa
end
section
/- Pairs in a row: the order, where one belongs, inserted, deleted, cloned, compacted. -/
set_option linter.unusedSimpArgs false
set_option linter.unusedVariables false
set_option maxRecDepth 20000
namespace Go.Proofs.Ytlncjcbofgjcfaa

theorem und_prs : und Try.prog 22 = .slice 29 := by kernel_rfl
theorem und_int2 : und Try.prog 3 = .int .i64 := by kernel_rfl
theorem there_pr : there Try.prog 29 = true := by kernel_rfl
theorem zer_pr : zer Try.prog 29 = some (.agg #[.int .u32 0, .int .u32 0]) := by kernel_rfl
theorem siz_pr : siz Try.prog 29 = 2 := by kernel_rfl
theorem byt_pr : byt Try.prog 29 = 8 := by kernel_rfl
theorem zcs_pr : (Value.agg #[.int .u32 0, .int .u32 0]).cells.size = siz Try.prog 29 := by rw [siz_pr]; rfl
theorem zc1_pr : ∀ y ∈ (Value.agg #[.int .u32 0, .int .u32 0]).cells.toList, oneC y True := by
  intro y hy
  have : y ∈ [Value.int .u32 0, .int .u32 0] := hy
  simp only [List.mem_cons, List.not_mem_nil, or_false] at this
  rcases this with rfl | rfl <;> exact trivial
abbrev OwnP (h : Heap) (a : Option Addr) (l c : Nat) (ps : List Pr) : Prop := Own h 29 2 a l c (ps.flatMap prc)
theorem OwnP.sx {h : Heap} {a : Option Addr} {l c : Nat} {ps : List Pr} (H : OwnP h a l c ps) : SX prc h a l c ps := Own.sx prc_len (by omega) H
abbrev SPr (h : Heap) (a : Option Addr) (l c : Nat) (ps : List Pr) : Prop := SX prc h a l c ps
theorem spr_at {h : Heap} {a : Option Addr} {l c : Nat} {ps : List Pr} (H : SPr h a l c ps) {i : Nat} (hi : i < ps.length) : ∃ ad, a = some ad ∧ cellAt h (ad.add (i * 2)) = some (.int .u32 (ps[i]).1) ∧ cellAt h ((ad.add (i * 2)).add 1) = some (.int .u32 (ps[i]).2) := by
  obtain ⟨ad, e, hc⟩ := SX.at prc_len (by omega) H hi
  exact ⟨ad, e, hc 0 _ rfl, hc 1 _ rfl⟩

theorem cmp32_call {K : Value → Heap → Prop} {h : Heap} {a b : Int} (k : K (iv (cmp3 a b)) h) : CallH Try.prog 56 #[.int .u32 a, .int .u32 b] h K := by
  refine call56 ?_
  unfold F56
  refine callV_fn (call75 ?_)
  unfold F75
  simp only [bne_self_eq_false, asBool_bool]
  refine callV_fn (call75 ?_)
  unfold F75
  simp only [bne_self_eq_false, asBool_bool, ifB_false]
  unfold cmp3 at k
  refine ifB_dec (fun h1 => by rwa [if_pos h1] at k) (fun h1 => ?_)
  rw [if_neg h1] at k
  exact ifB_dec (fun h2 => by rwa [if_pos h2] at k) (fun h2 => by rwa [if_neg h2] at k)
theorem or2_call {K : Value → Heap → Prop} {h : Heap} {b : Nat} {x y : Int} (e : h[b]? = some (.cells #[iv x, iv y] 3)) (k : K (iv (if x ≠ 0 then x else y)) h) : CallH Try.prog 55 #[.slice (some ⟨b, 0, none⟩) 2 2] h K := by
  refine call55 ?_
  unfold F55
  refine ⟨fun vs h' => ∃ w0 w1, ∃ i : Nat, vs = [w0, w1, iv i] ∧ h' = h ∧ i ≤ 2 ∧ (1 ≤ i → x = 0) ∧ (2 ≤ i → y = 0), fun vs _ => (match vs with | [_, _, .int _ n] => 2 - n.toNat | _ => 0), ⟨_, _, 0, rfl, rfl, by omega, by omega, by omega⟩, ?_⟩
  rintro v2 v3 v4 g5 h6 ⟨w0, w1, i, e0, rfl, hi, h1, h2⟩
  cases e0
  simp only [asInt_int, asI_int]
  refine ifB_dec (fun hlt => ?_) (fun hge => ?_)
  · refine ⟨by omega, hlt, ?_⟩
    simp only [asPtr_some, Int.toNat_natCast, add_lit]
    have hi2 : i = 0 ∨ i = 1 := by omega
    rcases hi2 with rfl | rfl
    · refine ldR e rfl ?_
      simp only [asInt_int]
      refine ifB_mk (fun hx => ?_) (fun hx => ?_)
      · rw [if_pos (by simpa using hx)] at k; exact k
      · have hx0 : x = 0 := by simpa using hx
        rw [nat_wrap1 (by omega)]
        exact ⟨⟨_, _, 1, rfl, by trivial, by omega, fun _ => hx0, by omega⟩, by show 2 - ((0 + 1 : Nat) : Int).toNat < 2 - ((0 : Nat) : Int).toNat; omega⟩
    · have hx0 : x = 0 := h1 (by omega)
      rw [if_neg (by simpa using hx0)] at k
      refine ldR e rfl ?_
      simp only [asInt_int]
      refine ifB_mk (fun hx => k) (fun hx => ?_)
      have hy0 : y = 0 := by simpa using hx
      rw [nat_wrap1 (by omega)]
      exact ⟨⟨_, _, 2, rfl, by trivial, by omega, fun _ => hx0, fun _ => hy0⟩, by show 2 - ((1 + 1 : Nat) : Int).toNat < 2 - ((1 : Nat) : Int).toNat; omega⟩
  · have hx0 : x = 0 := h1 (by omega)
    rw [if_neg (by simpa using hx0), h2 (by omega)] at k
    exact k
theorem order_call {K : Value → Heap → Prop} {h : Heap} {p q : Pr} (k : ∀ h', Old h.size h h' → K (iv (ordP p q)) h') : CallH Try.prog 36 #[.agg #[.int .u32 p.1, .int .u32 p.2], .agg #[.int .u32 q.1, .int .u32 q.2]] h K := by
  refine call36 ?_
  unfold F36
  have p1 := pushed h (prc p).toArray 29
  rw [show h.push (.cells #[.int .u32 p.1, .int .u32 p.2] 29) = h.push (.cells (prc p).toArray 29) from rfl]
  generalize h.push (.cells (prc p).toArray 29) = h1 at *
  have s1 := p1.size
  have p2 := pushed h1 (prc q).toArray 29
  rw [show h1.push (.cells #[.int .u32 q.1, .int .u32 q.2] 29) = h1.push (.cells (prc q).toArray 29) from rfl]
  generalize h1.push (.cells (prc q).toArray 29) = h2 at *
  have e2 : h2[h.size]? = some (.cells (prc p).toArray 29) := (p2.old _ (by omega)).trans p1.new
  have o2 : Old h.size h h2 := p1.toOld.trans (p2.toOld.mono (by omega))
  refine ldR e2 rfl ?_
  simp only [asInt_int]
  refine ldR p2.new rfl ?_
  simp only [asInt_int]
  refine ldR e2 rfl ?_
  simp only [asInt_int]
  refine ldR p2.new rfl ?_
  simp only [asInt_int]
  refine callV_fn (cmp32_call ?_)
  simp only [asInt_int]
  refine ⟨cellR p2.new rfl, cellR e2 rfl, callV_fn (cmp32_call ?_)⟩
  simp only [asInt_int]
  have p3 := pushed h2 #[iv (cmp3 p.1 q.1), iv (cmp3 p.2 q.2)] 3
  generalize h2.push (.cells #[iv (cmp3 p.1 q.1), iv (cmp3 p.2 q.2)] 3) = h3 at *
  refine callV_fn (or2_call p3.new ?_)
  simp only [asInt_int]
  exact k h3 (o2.trans (p3.toOld.mono o2.1))

theorem half_nat {i j : Nat} (h : i + j < 2 ^ 60) : IntKind.wrap .i64 (Int.fdiv (IntKind.wrap .u64 (IntKind.wrap .i64 ((i : Int) + (j : Int)))) 2) = (((i + j) / 2 : Nat) : Int) := by
  rw [wrap64_id' (n := (i : Int) + (j : Int)) (by omega) (by omega)]
  have e : IntKind.wrap .u64 ((i : Int) + (j : Int)) = ((i + j : Nat) : Int) := by
    rw [← Int.natCast_add]
    unfold IntKind.wrap
    simp only [IntKind.bits, IntKind.signed]
    have : ((i + j : Nat) : Int) % 2 ^ 64 = ((i + j : Nat) : Int) := by omega
    first | exact this | simp [this]
  rw [e]
  have e2 : Int.fdiv ((i + j : Nat) : Int) 2 = (((i + j) / 2 : Nat) : Int) := by
    rw [Int.fdiv_eq_ediv_of_nonneg _ (by omega)]; omega
  rw [e2, wrap64_id' (by omega) (by omega)]

def ordV : Value := .func (.func 36) #[] #[]
theorem bsearch_call {K : Value → Heap → Prop} {h : Heap} {a : Option Addr} {l c : Nat} {ps : List Pr} {p : Pr} (H : SPr h a l c ps) (hS : Srt ps) (hl : l < 2 ^ 50)
    (k : ∀ (i : Nat) h', i ≤ ps.length → (∀ q (hq : q < ps.length), q < i → plt ps[q] p) → (∀ q (hq : q < ps.length), i ≤ q → ¬ plt ps[q] p) → Old h.size h h' → K (.tuple #[iv i, .bool (decide (∃ hi : i < ps.length, ps[i] = p))]) h') :
    CallH Try.prog 35 #[.slice a l c, .agg #[.int .u32 p.1, .int .u32 p.2], ordV] h K := by
  refine call35 ?_
  unfold F35
  have hlen := H.len
  have p1 := pushed h (prc p).toArray 29
  rw [show h.push (.cells #[.int .u32 p.1, .int .u32 p.2] 29) = h.push (.cells (prc p).toArray 29) from rfl]
  generalize h.push (.cells (prc p).toArray 29) = h1 at *
  have s1 := p1.size
  refine ⟨fun vs h' => ∃ w0, ∃ i j : Nat, vs = [iv i, iv j, w0] ∧ i ≤ j ∧ j ≤ l ∧ Old h1.size h1 h' ∧ (∀ q (hq : q < ps.length), q < i → plt ps[q] p) ∧ (∀ q (hq : q < ps.length), j ≤ q → ¬ plt ps[q] p),
    fun vs _ => (match vs with | [.int _ m, .int _ n, _] => n.toNat - m.toNat | _ => 0), ⟨_, 0, l, rfl, Nat.zero_le _, Nat.le_refl _, Old.refl _ _, fun q _ h => by omega, fun q hq h => by omega⟩, ?_⟩
  rintro v2 v3 v4 g5 h6 ⟨w0, i, j, e, hij, hjl, o6, h1', h2'⟩
  cases e
  have ok6 : Old h.size h h6 := p1.toOld.trans (o6.mono p1.toOld.1)
  have loc6 : h6[h.size]? = some (.cells (prc p).toArray 29) := (o6.2 _ (by omega)).trans p1.new
  simp only [asInt_int]
  refine ifB_dec (fun hlt => ?_) (fun hge => ?_)
  · rw [half_nat (by omega)]
    have hm : (i + j) / 2 < ps.length := by omega
    have hm1 : i ≤ (i + j) / 2 := by omega
    have hm2 : (i + j) / 2 < j := by omega
    generalize hmid : (i + j) / 2 = m at *
    obtain ⟨ad, rfl, hc0, hc1⟩ := spr_at (H.old ok6) hm
    refine ⟨by omega, by omega, by omega, ?_⟩
    simp only [asPtr_some, Int.toNat_natCast]
    refine ldH_mk hc0 (ldH_mk hc1 (ldR loc6 rfl (ldR loc6 rfl ?_)))
    refine callV_fn (order_call fun h17 o17 => ?_)
    simp only [asInt_int]
    have o17' : Old h1.size h1 h17 := o6.trans (o17.mono o6.1)
    refine ifB_dec (fun hc => ?_) (fun hc => ?_)
    · have hp := (ordP_lt _ _).1 hc
      rw [nat_wrap1 (by omega)]
      refine ⟨⟨_, m + 1, j, rfl, by omega, hjl, o17', fun q hq hqm => ?_, h2'⟩, by show (j : Int).toNat - ((m + 1 : Nat) : Int).toNat < (j : Int).toNat - (i : Int).toNat; omega⟩
      exact plt_of_ple (hS.at hq hm (by omega)) hp
    · have hp : ¬ plt ps[m] p := fun x => hc ((ordP_lt _ _).2 x)
      refine ⟨⟨_, i, m, rfl, by omega, by omega, o17', h1', fun q hq hqm x => hp ?_⟩, by show (m : Int).toNat - (i : Int).toNat < (j : Int).toNat - (i : Int).toNat; omega⟩
      exact plt_of_ple (hS.at hm hq hqm) x
  · obtain rfl : i = j := by omega
    have hil : i ≤ ps.length := by omega
    refine ifB_dec (fun hlt => ?_) (fun hge2 => ?_)
    · have hi : i < ps.length := by omega
      obtain ⟨ad, rfl, hc0, hc1⟩ := spr_at (H.old ok6) hi
      refine ⟨by omega, by omega, ?_⟩
      simp only [asPtr_some, Int.toNat_natCast]
      refine ldH_mk hc0 (ldH_mk hc1 (ldR loc6 rfl (ldR loc6 rfl ?_)))
      refine callV_fn (order_call fun h28 o28 => ?_)
      simp only [asInt_int]
      have := k i h28 hil h1' h2' (ok6.trans (o28.mono ok6.1))
      have e : (ordP ps[i] p == 0) = decide (∃ hi : i < ps.length, ps[i] = p) := by
        have := ordP_eq ps[i] p
        by_cases e : ps[i] = p
        · rw [decide_eq_true ⟨hi, e⟩, this.2 e]; rfl
        · rw [decide_eq_false (fun ⟨_, h⟩ => e h)]
          simpa using fun h => e (this.1 h)
      rw [e]; exact this
    · have := k i h6 hil h1' h2' ok6
      rw [decide_eq_false (fun ⟨h, _⟩ => by omega)] at this
      exact this

theorem clone_call {K : Value → Heap → Prop} {h : Heap} {a : Option Addr} {l c : Nat} {ps : List Pr} (H : SPr h a l c ps) (hl : l ≤ 2 ^ 40) (k : ∀ a' c' h', OwnP h' a' l c' ps → (∀ b, blk a' b → h.size ≤ b) → Old h.size h h' → K (.slice a' l c') h') :
    CallH Try.prog 41 #[.slice a l c] h K := by
  refine call41 ?_
  unfold F41
  have hlen := H.len
  cases a with
  | none =>
    obtain ⟨rfl, rfl⟩ := SX.none prc_len (by omega) H
    simp only [Option.isNone_none, ifB_true]
    exact k none 0 h (Own.nil _ _ _) (fun b hb => by obtain ⟨_, e, _⟩ := hb; cases e) (Old.refl _ _)
  | some ad =>
    simp only [Option.isNone_some, ifB_false]
    have p1 := pushed h #[] 29
    generalize h.push (.cells #[] 29) = h1 at *
    have o0 : Own h1 29 (siz Try.prog 29) (some ⟨h.size, 0, none⟩) 0 0 [] := ⟨by simp, Nat.le_refl _, .inr ⟨_, _, rfl, p1.new, by simp, by simp⟩⟩
    have hs : Sees h1 (some ad) (ps.flatMap prc) := (H.old p1.toOld).s
    refine appH_own (ys := ps.flatMap prc) (n := l) und_prs there_pr zer_pr zcs_pr o0 hs (by rw [flat_len prc_len, hlen, siz_pr]) (prcs_one ps) (by rw [byt_pr]; omega) (by rw [byt_pr]; omega) ?_
    intro a' c' h' own s' old hor
    rw [siz_pr, Nat.zero_add, List.nil_append] at own
    simp only [asSlice_slice, Nat.zero_add]
    have hb' : ∀ b, blk a' b → h.size ≤ b := by
      rintro b ⟨ad', e, rfl⟩
      rcases hor with h2 | h2
      · rw [h2] at e; cases e; exact Nat.le_refl _
      · rw [h2] at e; cases e; have := p1.size; show h.size ≤ h1.size; omega
    refine k a' c' h' own hb' ⟨by have := p1.size; omega, fun b hb => ?_⟩
    exact (old b (by have := p1.size; omega) (fun ad' e => by cases e; show h.size ≠ b; omega)).trans (p1.old b hb)

/-- append in place. -/
theorem app_in {P : Program} {t elem : TypeId} {h : Heap} {a a2 : Option Addr} {l c i n n2 : Nat} {xs ys : List Value} {K : Value → Heap → Prop}
    (hu : und P t = .slice elem) (hus : ∀ k, und P t ≠ .int k) (hth : there P elem = true) (ho : Own h elem (siz P elem) a l c xs) (hs : Sees h a2 ys) (hn : ys.length = n * siz P elem) (hone : ∀ y ∈ ys, oneC y True) (hi : i + n ≤ l)
    (k : ∀ h', Own h' elem (siz P elem) a l c (xs.take (i * siz P elem) ++ ys ++ xs.drop ((i + n) * siz P elem)) → Fr (blk a) h h' → h'.size = h.size → K (.slice a (i + n) c) h') :
    appH P #[t, t] t #[.slice a i c, .slice a2 n n2] h K := by
  have hu' := und_some hu (by simp)
  unfold appH Builtin.append_
  simp only [List.getElem?_toArray, List.getElem?_cons_zero, List.getElem?_cons_succ, hp_bind, hp_pure, hp_underlying hu', hp_sizeOf hth, Bool.false_eq_true, if_false]
  show hp P (Builtin.lenOf _) _ h
  simp only [Builtin.lenOf, hp_pure]
  have hcap := ho.2.1
  rw [hp_ite, if_pos (by omega)]
  simp only [hp_bind]
  show hp P (if (!false) = true then _ else _) _ h
  refine hp_first hs hn ?_
  cases ea : a with
  | none =>
    have e1 : c = 0 := by
      rcases ho.2.2 with ⟨_, e⟩ | ⟨b, row, e, _⟩
      · exact e
      · rw [ea] at e; cases e
    have e2 : n = 0 := by omega
    have e3 : i = 0 := by omega
    have e4 : l = 0 := by omega
    subst e2; subst e3; subst e1; subst e4
    have : ys = [] := by simpa using hn
    subst this
    have := k h (by simpa using ho) (Fr.refl _ _) rfl
    rw [ea] at this
    exact this
  | some ad =>
    simp only [hp_bind]
    refine hp_storeCells _ _ h 0 _ ?_
    have hbd : i * siz P elem + ys.length ≤ l * siz P elem := by rw [hn, ← Nat.add_mul]; exact Nat.mul_le_mul_right _ hi
    have hcl : l * siz P elem ≤ c * siz P elem := Nat.mul_le_mul_right _ hcap
    refine Own.write ho ea (by omega) (by simpa using hone) fun h' w1 w2 w3 w4 => ?_
    have := w2 hbd
    simp only [hp_pure]
    have k2 := k h' (by rw [Nat.add_mul, ← hn]; exact this) w3 w4
    rw [ea] at k2
    exact k2
theorem delete_call {K : Value → Heap → Prop} {h : Heap} {a : Option Addr} {l c i : Nat} {ps : List Pr} (H : OwnP h a l c ps) (hi : i < ps.length) (hl : l < 2 ^ 50)
    (k : ∀ h', OwnP h' a (l - 1) c (ps.take i ++ ps.drop (i + 1)) → Fr (blk a) h h' → K (.slice a (l - 1) c) h') :
    CallH Try.prog 42 #[.slice a l c, iv i, iv ((i : Int) + 1)] h K := by
  refine call42 ?_
  unfold F42
  have hsx := H.sx
  have hlen := hsx.len
  have hcap := hsx.cap
  have hl2 := flat_len prc_len ps
  have e1 : ((i : Int) + 1).toNat = i + 1 := by omega
  obtain ⟨ad, ea⟩ : ∃ ad, a = some ad := by obtain ⟨ad, e, _⟩ := spr_at hsx hi; exact ⟨ad, e⟩
  refine ⟨by omega, by omega, by omega, by rw [Int.toNat_natCast]; omega, by omega, by omega, ?_⟩
  rw [show ((i : Int) == (i : Int) + 1) = false by simp; omega]
  simp only [ifB_false]
  refine ⟨by omega, by omega, by omega, by omega, ?_⟩
  rw [subA_zero, e1, Int.toNat_natCast, Nat.sub_zero, Nat.sub_zero]
  have hsd := (SX.drop prc_len hsx (i := i + 1) (by omega)).s
  refine app_in (xs := ps.flatMap prc) (ys := (ps.drop (i + 1)).flatMap prc) (l := l) (n := l - (i + 1)) und_prs (fun k e => by rw [und_prs] at e; cases e) there_pr (by rw [siz_pr]; exact H) hsd ?_ (prcs_one _) (by omega) ?_
  · rw [flat_len prc_len, siz_pr, List.length_drop, hlen]
  intro h1 own1 fr1 s1
  rw [siz_pr] at own1
  simp only [asSlice_slice]
  have e2 : i + (l - (i + 1)) = l - 1 := by omega
  rw [e2] at own1 ⊢
  have own2 := Own.take own1 (i := l - 1) (by omega)
  refine ⟨by omega, by omega, by omega, by rw [Int.toNat_natCast]; omega, ?_⟩
  simp only [Int.toNat_natCast]
  refine clear_own (elem := 29) (a := a) (l := l) (c := c) (i := l - 1) (m := l - (l - 1)) und_prs zer_pr zcs_pr zc1_pr (by rw [siz_pr]; exact own1) (by omega) (by omega) (.inr ⟨ad, ea, ?_⟩) ?_
  · rw [siz_pr]
    unfold subA
    rw [if_neg (by omega), ea]; rfl
  intro h2 own3 fr2 s2
  rw [siz_pr] at own3
  refine k h2 ?_ (fr1.trans fr2)
  have e3 : List.take ((l - 1) * 2) (List.take (i * 2) (ps.flatMap prc) ++ (ps.drop (i + 1)).flatMap prc ++ List.drop ((l - 1) * 2) (ps.flatMap prc)) = (ps.take i ++ ps.drop (i + 1)).flatMap prc := by
    rw [flat_take prc_len, ← List.flatMap_append]
    apply List.take_left'
    rw [flat_len prc_len, List.length_append, List.length_take, List.length_drop]
    congr 1; omega
  rw [e3] at own3
  exact own3
end Go.Proofs.Ytlncjcbofgjcfaa
end
section
/- Pairs in a row: inserted. -/
set_option linter.unusedSimpArgs false
set_option linter.unusedVariables false
set_option maxRecDepth 20000
namespace Go.Proofs.Ytlncjcbofgjcfaa

theorem ext_any {P : Program} {f : FuncId} {fn : Func} {h : Heap} {args : Array Value} {e : Array Value → Sem Value} {K : Value → Heap → Prop} (h1 : P.funcs[f]? = some fn) (h2 : (fn.name == "runtime.NumGoroutine") = false) (h3 : fn.body.isNone = true) (h4 : (Extern.findNext fn).isNone = true)
    (h5 : Extern.find fn = some e) (k : hp P (e args) K h) : ExtH P f args h K := by
  unfold ExtH callFunc
  have h4' : Extern.findNext fn = none := Option.isNone_iff_eq_none.1 h4
  clear h4
  rw [hp_bind, hp_program, h1]
  show hp P (if (fn.name == "runtime.NumGoroutine") = true then _ else _) _ h
  rw [h2]
  show hp P (if fn.body.isNone = true then _ else _) _ h
  rw [h3, if_pos rfl, hp_bind]
  show hp P (match Extern.findNext fn with | some e => e args | _ => _) _ h
  generalize Extern.findNext fn = o1 at *
  subst h4'
  show hp P (match Extern.find fn with | some e => (do let x ← e args; pure (Next.value x)) | none => _) _ h
  generalize Extern.find fn = o2 at *
  subst h5
  simp only [hp_bind, hp_pure]
  exact k
theorem hp_shape2 {P : Program} (r : Nat) (F : Option (TypeId × Nat) → Heap → Prop) (h : Heap) : hp P (shape r) F h = F (shapeAt h r) h := rfl
theorem hp_frozen2 {P : Program} (a : Addr) (F : Bool → Heap → Prop) (h : Heap) : hp P (frozen a) F h = F (frozenAt h a) h := rfl
theorem hp_view2 {P : Program} {h : Heap} {b : Nat} {row : Array Value} {t : TypeId} (e : h[b]? = some (.cells row t)) (F : Option (Addr × TypeId) → Heap → Prop) : hp P (viewAt b) F h = F none h := by
  unfold viewAt
  have : shapeAt h b = some (t, row.size) := by unfold shapeAt; rw [e]
  simp only [hp_bind, hp_shape2, this]; rfl
theorem hp_stringish {P : Program} {h : Heap} {b o : Nat} {row : Array Value} {t : TypeId} (e : h[b]? = some (.cells row t)) (F : Bool → Heap → Prop) : hp P (stringish ⟨b, o, none⟩) F h = F false h := by
  unfold stringish
  have h1 : shapeAt h b = some (t, row.size) := by unfold shapeAt; rw [e]
  simp only [hp_bind, hp_frozen2, frozenAt_of e, hp_shape2, h1]
  simp only [Bool.false_eq_true, if_false, hp_bind, hp_pure, hp_shape2, h1, hp_frozen2, frozenAt_of e]
theorem overlaps_hp {P : Program} {params results : Array TypeId} {t elem : TypeId} {h : Heap} {b1 b2 o1 o2 la ca lb cb : Nat} {r1 r2 : Array Value} {t1 t2 : TypeId} {K : Value → Heap → Prop} (hp0 : params[0]? = some t) (hu : und P t = .slice elem) (hth : there P elem = true) (e1 : h[b1]? = some (.cells r1 t1)) (e2 : h[b2]? = some (.cells r2 t2)) (hne : b1 ≠ b2)
    (k : K (.bool false) h) : hp P (Extern.SlicesOverlaps.overlaps params results #[.slice (some ⟨b1, o1, none⟩) la ca, .slice (some ⟨b2, o2, none⟩) lb cb]) K h := by
  have hu' := und_some hu (by simp)
  have s1 : shapeAt h b1 = some (t1, r1.size) := by unfold shapeAt; rw [e1]
  have s2 : shapeAt h b2 = some (t2, r2.size) := by unfold shapeAt; rw [e2]
  have hb : (b1 != b2) = true := by simpa using hne
  have hb2 : (b1 == b2) = false := by simpa using hne
  conv => arg 2; whnf
  simp only [hp_bind, hp_pure, hp0, hp_underlying hu', hp_sizeOf hth, hp_ite]
  split
  · exact k
  · simp only [hp_frozen2, frozenAt_of e1, frozenAt_of e2, hb, hb2, Bool.and_false, Bool.false_eq_true, if_false, if_true, hp_bind, hp_pure, noView, hp_view2 e1, hp_view2 e2, Option.isSome_none, mayBeOne, hp_shape2, s1, s2, hp_stringish e1, hp_stringish e2, Bool.false_and, Bool.or_false]
    exact k
theorem overlaps_ext {h : Heap} {b1 b2 o1 o2 la ca lb cb : Nat} {r1 r2 : Array Value} {t1 t2 : TypeId} {K : Value → Heap → Prop} (e1 : h[b1]? = some (.cells r1 t1)) (e2 : h[b2]? = some (.cells r2 t2)) (hne : b1 ≠ b2) (k : K (.bool false) h) :
    extV Try.prog (.func (.func 57) #[] #[]) #[.slice (some ⟨b1, o1, none⟩) la ca, .slice (some ⟨b2, o2, none⟩) lb cb] h K := by
  unfold extV
  refine ext_any (e := Extern.SlicesOverlaps.overlaps Try.f57.params Try.f57.resultTypes) Try.func57 (by kernel_rfl) (by kernel_rfl) (by kernel_rfl) (by kernel_rfl) ?_
  exact overlaps_hp (t := 22) (by kernel_rfl) und_prs there_pr e1 e2 hne k

theorem Own.at0 {h : Heap} {t : TypeId} {n : Nat} {a : Option Addr} {l c : Nat} {xs : List Value} (H : Own h t n a l c xs) (hc : 0 < c) : ∃ b row, a = some ⟨b, 0, none⟩ ∧ h[b]? = some (.cells row t) := by
  rcases H.2.2 with ⟨_, h0⟩ | ⟨b, row, e, hb, _⟩
  · omega
  · exact ⟨b, row, e, hb⟩
theorem insert_call {K : Value → Heap → Prop} {h : Heap} {a : Option Addr} {l c i b2 : Nat} {ps : List Pr} {p : Pr} (H : OwnP h a l c ps) (e2 : h[b2]? = some (.cells (prc p).toArray 29)) (hb2 : ¬ blk a b2) (hi : i ≤ l) (hl : l ≤ 2 ^ 40)
    (k : ∀ a' c' h', OwnP h' a' (l + 1) c' (ps.take i ++ p :: ps.drop i) → (∀ b, blk a' b → blk a b ∨ h.size ≤ b) → Fr (blk a) h h' → K (.slice a' (l + 1) c') h') :
    CallH Try.prog 37 #[.slice a l c, iv i, .slice (some ⟨b2, 0, none⟩) 1 1] h K := by
  refine call37 ?_
  unfold F37
  have hsx := H.sx
  have hlen := hsx.len
  have hcap := hsx.cap
  have hw1 : IntKind.wrap .i64 ((l : Int) + ((1 : Nat) : Int)) = ((l + 1 : Nat) : Int) := by rw [wrap64_id' (by omega) (by omega)]; omega
  have hw2 : IntKind.wrap .i64 ((i : Int) + ((1 : Nat) : Int)) = ((i + 1 : Nat) : Int) := by rw [wrap64_id' (by omega) (by omega)]; omega
  have hw3 : IntKind.wrap .i64 (((l + 1 : Nat) : Int) - (i : Int)) = ((l + 1 - i : Nat) : Int) := by rw [wrap64_id' (by omega) (by omega)]; omega
  have sv : ∀ {h' : Heap}, h'[b2]? = some (.cells (prc p).toArray 29) → Sees h' (some ⟨b2, 0, none⟩) (prc p) := by
    intro h' e j v hj
    refine ⟨_, rfl, ?_⟩
    rw [add_lit, cellAt_of e, List.getElem?_toArray, Nat.zero_add]; exact hj
  have hl2 := flat_len prc_len ps
  rw [hw1, hw2]
  simp only [Int.toNat_natCast, Nat.sub_zero, subA_zero]
  refine ⟨by omega, by omega, ?_⟩
  rw [show (((1 : Nat) : Int) == 0) = false from rfl]
  simp only [ifB_false]
  refine ifB_mk (fun hil => ?_) (fun hil => ?_)
  · have hil' : i = l := by have : (i : Int) = l := by simpa using hil
                            omega
    subst hil'
    refine appH_own (ys := prc p) (n := 1) und_prs there_pr zer_pr zcs_pr (by rw [siz_pr]; exact H) (sv e2) (by rw [siz_pr]; rfl) (prc_one p) (by rw [byt_pr]; omega) (by rw [byt_pr]; omega) ?_
    intro a' c' h' own s' old hor
    rw [siz_pr] at own
    simp only [asSlice_slice]
    refine k a' c' h' ?_ (fun b hb => ?_) ⟨s', fun b hb hS => old b hb fun ad e eb => hS ⟨ad, e, eb⟩⟩
    · have e : ps.take i ++ p :: ps.drop i = ps ++ [p] := by rw [List.take_of_length_le (by omega), List.drop_eq_nil_of_le (by omega)]
      rw [e]
      unfold OwnP
      rw [List.flatMap_append]
      simpa using own
    · obtain ⟨ad, e, rfl⟩ := hb
      rcases hor with h1 | h1
      · rw [h1] at e; exact .inl ⟨ad, e, rfl⟩
      · rw [h1] at e; cases e; exact .inr (Nat.le_refl _)
  have hil' : i < l := by
    have : (i : Int) ≠ l := by simpa using hil
    omega
  have hip : i < ps.length := by omega
  refine ifB_dec (fun hgt => ?_) (fun hle => ?_)
  · have hc : c < l + 1 := by omega
    refine ⟨by omega, by omega, ?_⟩
    rw [hw3]
    refine app_zeros (l := i) (m := l + 1 - i) und_prs und_int2 there_pr zer_pr zcs_pr (by rw [siz_pr]; exact Own.take H (i := i) (by omega)) (by omega) (by rw [siz_pr]; omega) (by omega) (by rw [byt_pr]; omega) (by rw [byt_pr]; omega) ?_
    intro cap h6 ys hys own6 s6 o6
    rw [siz_pr] at own6 hys
    have el : i + (l + 1 - i) = l + 1 := by omega
    rw [el] at own6
    simp only [asSlice_slice, el]
    have e6 : h6[b2]? = some (.cells (prc p).toArray 29) := (o6.2 _ ((Array.getElem?_eq_some_iff.1 e2).1)).trans e2
    have hcap6 := own6.2.1
    refine ⟨by omega, by omega, ?_⟩
    refine copy_own (i := i) (m := 1) (vs := prc p) und_prs there_pr (by rw [siz_pr]; exact own6) (sv e6) (by omega) (by rw [siz_pr]; rfl) (prc_one p) (by omega) (.inr ⟨_, rfl, ?_⟩) ?_
    · unfold subA; rw [if_neg (by omega), siz_pr]; rfl
    intro h11 own11 fr11 s11
    rw [siz_pr] at own11
    simp only [asInt_int]
    refine ⟨by omega, by omega, by omega, by omega, ?_⟩
    have hb6 : ∀ b, b < h.size → ¬ blk (some ⟨h.size, 0, none⟩) b := by
      rintro b hb ⟨ad, e, rfl⟩; cases e; simp at hb
    have old11 : Old h.size h h11 := ⟨by have := o6.1; omega, fun b hb => (fr11.2 b (by omega) (hb6 b hb)).trans (o6.2 b hb)⟩
    have sd := (SX.drop prc_len (hsx.old old11) (i := i) (by omega)).s
    refine copy_own (i := i + 1) (m := l - i) (vs := (ps.drop i).flatMap prc) und_prs there_pr (by rw [siz_pr]; exact own11) sd (by omega) (by rw [flat_len prc_len, siz_pr, List.length_drop, hlen]) (prcs_one _) (by omega) (.inr ⟨_, rfl, ?_⟩) ?_
    · unfold subA; rw [if_neg (by omega), siz_pr]; rfl
    intro h14 own14 fr14 s14
    rw [siz_pr] at own14
    simp only [asInt_int]
    refine k _ _ h14 ?_ (fun b hb => .inr ?_) ⟨by omega, fun b hb _ => (fr14.2 b (by have := old11.1; omega) (hb6 b hb)).trans (old11.2 b hb)⟩
    · have ex : (ps.take i ++ p :: ps.drop i).flatMap prc = (ps.take i).flatMap prc ++ prc p ++ (ps.drop i).flatMap prc := by simp
      unfold OwnP
      rw [ex]
      have e1 : List.take (i * 2) (List.take (i * 2) (ps.flatMap prc) ++ ys) = (ps.take i).flatMap prc := by
        rw [List.take_append_of_le_length (by rw [List.length_take]; omega), List.take_take, Nat.min_self, flat_take prc_len]
      rw [e1] at own14
      have hti : ((ps.take i).flatMap prc).length = i * 2 := by rw [flat_len prc_len, List.length_take]; congr 1; omega
      have e3 : ∀ Z, List.take ((i + 1) * 2) ((ps.take i).flatMap prc ++ prc p ++ Z) = (ps.take i).flatMap prc ++ prc p := by
        intro Z
        apply List.take_left'
        rw [List.length_append, hti]; show i * 2 + 2 = _; omega
      rw [e3] at own14
      have e4 : ∀ Z : List Value, (i + 1 + (l - i)) * 2 = Z.length → List.drop ((i + 1 + (l - i)) * 2) Z = [] := fun Z h => List.drop_eq_nil_of_le (by omega)
      rw [e4, List.append_nil] at own14
      · exact own14
      · rw [List.length_append, List.length_append, hti, List.length_drop, List.length_append, List.length_take]
        show _ = i * 2 + 2 + _
        omega
    · obtain ⟨ad, e, rfl⟩ := hb; cases e; exact Nat.le_refl _
  · have hc : l + 1 ≤ c := by omega
    obtain ⟨ys, hys, own1⟩ := Own.grow H (m := l + 1) (by omega) hc
    obtain ⟨b, row, ea, hb⟩ := Own.at0 H (by omega)
    have hbb : b ≠ b2 := fun e => hb2 ⟨_, ea, e⟩
    have hsub : ∀ j, j ≠ c → subA a j c 2 = some ⟨b, j * 2, none⟩ := by
      intro j hj; unfold subA; rw [if_neg (fun e => hj e.symm), ea]; simp only [Option.map_some, add_lit, Nat.zero_add]
    refine ⟨by omega, by omega, by omega, by omega, ?_⟩
    by_cases hic : i + 1 = c
    · omega
    rw [hsub (i + 1) hic, hsub i (by omega)]
    refine overlaps_ext e2 hb (fun e => hbb e.symm) ?_
    simp only [asBool_bool, Bool.not_false, ifB_true]
    refine ⟨by omega, by omega, by omega, by omega, ?_⟩
    have sd := (SX.drop prc_len hsx (i := i) (by omega)).s
    rw [hsub i (by omega)] at sd
    refine copy_own (a := a) (l := l + 1) (c := c) (i := i + 1) (m := l - i) (vs := (ps.drop i).flatMap prc) und_prs there_pr (by rw [siz_pr]; exact own1) sd (by omega) (by rw [flat_len prc_len, siz_pr, List.length_drop, hlen]) (prcs_one _) (by omega) (.inr ⟨_, ea, ?_⟩) ?_
    · rw [siz_pr, add_lit, Nat.zero_add]
    intro h20 own20 fr20 s20
    rw [siz_pr] at own20
    simp only [asInt_int]
    have e20 : h20[b2]? = some (.cells (prc p).toArray 29) := (fr20.2 _ (Array.getElem?_eq_some_iff.1 e2).1 hb2).trans e2
    refine ⟨by omega, by omega, ?_⟩
    refine copy_own (a := a) (l := l + 1) (c := c) (i := i) (m := 1) (vs := prc p) und_prs there_pr (by rw [siz_pr]; exact own20) (sv e20) (by omega) (by rw [siz_pr]; rfl) (prc_one p) (by omega) (.inr ⟨_, ea, ?_⟩) ?_
    · rw [siz_pr, add_lit, Nat.zero_add]
    intro h23 own23 fr23 s23
    rw [siz_pr] at own23
    simp only [asInt_int]
    refine k a c h23 ?_ (fun b hb => .inl hb) (fr20.trans fr23)
    have ex : (ps.take i ++ p :: ps.drop i).flatMap prc = (ps.take i).flatMap prc ++ prc p ++ (ps.drop i).flatMap prc := by simp
    unfold OwnP
    rw [ex]
    have hd : ((ps.drop i).flatMap prc).length = (l - i) * 2 := by rw [flat_len prc_len, List.length_drop, hlen]
    have e0 : List.take ((i + 1) * 2) (ps.flatMap prc ++ ys) = List.take ((i + 1) * 2) (ps.flatMap prc) := List.take_append_of_le_length (by rw [hl2, hlen]; omega)
    have e5 : List.drop ((i + 1 + (l - i)) * 2) (ps.flatMap prc ++ ys) = [] := List.drop_eq_nil_of_le (by rw [List.length_append, hl2, hlen, hys]; omega)
    rw [e0, e5, List.append_nil] at own23
    have hT : (List.take ((i + 1) * 2) (ps.flatMap prc)).length = (i + 1) * 2 := by rw [List.length_take, hl2, hlen]; omega
    have e1 : List.take (i * 2) (List.take ((i + 1) * 2) (ps.flatMap prc) ++ (ps.drop i).flatMap prc) = (ps.take i).flatMap prc := by
      rw [List.take_append_of_le_length (by rw [hT]; omega), List.take_take, Nat.min_eq_left (by omega), flat_take prc_len]
    have e6 : List.drop ((i + 1) * 2) (List.take ((i + 1) * 2) (ps.flatMap prc) ++ (ps.drop i).flatMap prc) = (ps.drop i).flatMap prc := List.drop_left' hT
    rw [e1, e6] at own23
    exact own23
end Go.Proofs.Ytlncjcbofgjcfaa
end
section
/- Maps whose keys are ints. -/
set_option linter.unusedSimpArgs false
set_option linter.unusedVariables false
set_option maxRecDepth 20000
namespace Go.Proofs.Ytlncjcbofgjcfaa

/-- Entries of a map with int keys. -/
structure Ens (es : List MapEntry) (kvs : List (Int × Value)) : Prop where
  eq : es.map (fun e => (e.key, e.val)) = kvs.map fun x => (Value.int .i64 x.1, x.2)
  nd : (kvs.map Prod.fst).Nodup
def mget (kvs : List (Int × Value)) (k : Int) : Option Value := (kvs.find? fun x => x.1 == k).map Prod.snd
theorem Ens.cons {e : MapEntry} {es : List MapEntry} {kvs : List (Int × Value)} (H : Ens (e :: es) kvs) : ∃ k v kvs', kvs = (k, v) :: kvs' ∧ e.key = .int .i64 k ∧ e.val = v ∧ Ens es kvs' ∧ k ∉ kvs'.map Prod.fst := by
  cases kvs with
  | nil => have := H.eq; simp at this
  | cons x kvs' =>
    obtain ⟨k, v⟩ := x
    have h1 := H.eq
    simp only [List.map_cons, List.cons.injEq, Prod.mk.injEq] at h1
    have h2 := H.nd
    simp only [List.map_cons, List.nodup_cons] at h2
    exact ⟨k, v, kvs', rfl, h1.1.1, h1.1.2, ⟨h1.2, h2.2⟩, h2.1⟩
theorem findNow_some {kind : IntKind} {k : Int} : ∀ {es : List MapEntry} {kvs : List (Int × Value)} (i : Nat), Ens es kvs →
    ∃ r, Instr.findNow (.int kind) (.int .i64 k) es i = some r ∧ ((r = none ∧ mget kvs k = none ∧ k ∉ kvs.map Prod.fst) ∨ ∃ j v, r = some (i + j, v) ∧ mget kvs k = some v ∧ kvs[j]? = some (k, v)) := by
  intro es
  induction es with
  | nil =>
    intro kvs i H
    have : kvs = [] := by have := H.eq; simpa using this.symm
    subst this
    exact ⟨none, rfl, .inl ⟨rfl, rfl, by simp⟩⟩
  | cons e es ih =>
    intro kvs i H
    obtain ⟨k', v, kvs', rfl, hk, hv, H', hn⟩ := H.cons
    unfold Instr.findNow
    rw [hk]
    by_cases e1 : k = k'
    · subst e1
      refine ⟨some (i, e.val), ?_, .inr ⟨0, v, by rw [hv]; rfl, by simp [mget], rfl⟩⟩
      simp [Instr.sameNow]
    · obtain ⟨r, h1, h2⟩ := ih (i + 1) H'
      refine ⟨r, ?_, ?_⟩
      · have : Instr.sameNow (.int kind) (.int .i64 k) (.int .i64 k') = some false := by simp [Instr.sameNow, e1]
        rw [this]; exact h1
      · have hm : mget ((k', v) :: kvs') k = mget kvs' k := by
          unfold mget
          rw [List.find?_cons_of_neg (by simpa using fun h => e1 h.symm)]
        rcases h2 with ⟨rfl, h3, h4⟩ | ⟨j, v', h3, h4, h5⟩
        · refine .inl ⟨rfl, by rw [hm, h3], ?_⟩
          simp only [List.map_cons, List.mem_cons, not_or]
          exact ⟨e1, h4⟩
        · exact .inr ⟨j + 1, v', by rw [h3]; congr 2; omega, by rw [hm, h4], by simpa using h5⟩

theorem mget_mem {kvs : List (Int × Value)} {k : Int} {v : Value} (nd : (kvs.map Prod.fst).Nodup) (h : (k, v) ∈ kvs) : mget kvs k = some v := by
  unfold mget
  induction kvs with
  | nil => cases h
  | cons x kvs ih =>
    simp only [List.map_cons, List.nodup_cons] at nd
    rcases List.mem_cons.1 h with rfl | h
    · simp
    · have : x.1 ≠ k := fun e => nd.1 (by rw [e]; exact List.mem_map.2 ⟨_, h, rfl⟩)
      rw [List.find?_cons_of_neg (by simpa using this)]
      exact ih nd.2 h
theorem mget_none {kvs : List (Int × Value)} {k : Int} (h : k ∉ kvs.map Prod.fst) : mget kvs k = none := by
  unfold mget
  rw [Option.map_eq_none_iff, List.find?_eq_none]
  intro x hx e
  exact h (List.mem_map.2 ⟨x, hx, by simpa using e⟩)

/-- A map in the heap, as a function. -/
def MapF (h : Heap) (m : Nat) (f : Int → Option Value) : Prop := ∃ es c kvs, h[m]? = some (.map es c) ∧ Ens es.toList kvs ∧ ∀ k, mget kvs k = f k
theorem MapF.keep {h h' : Heap} {m : Nat} {f : Int → Option Value} (H : MapF h m f) (e : h'[m]? = h[m]?) : MapF h' m f := by
  obtain ⟨es, c, kvs, h1, h2, h3⟩ := H
  exact ⟨es, c, kvs, e.trans h1, h2, h3⟩
theorem MapF.lt {h : Heap} {m : Nat} {f : Int → Option Value} (H : MapF h m f) : m < h.size := by
  obtain ⟨es, c, kvs, h1, _⟩ := H
  exact (Array.getElem?_eq_some_iff.1 h1).1
theorem MapF.new (h : Heap) : MapF (h.push (.map #[] 0)) h.size (fun _ => none) := ⟨#[], 0, [], push_new _ _, ⟨rfl, List.nodup_nil⟩, fun _ => rfl⟩

section
variable {P : Program} {t kt et : TypeId}
theorem hp_getMap {h : Heap} {m : Nat} {es : Array MapEntry} {c : Nat} (e : h[m]? = some (.map es c)) (F : Obj → Heap → Prop) : hp P (getObj m) F h = F (.map es c) h := by
  simp only [getObj, hp, e]
theorem hp_setMap {h : Heap} {m : Nat} {es es' : Array MapEntry} {c c' : Nat} (e : h[m]? = some (.map es c)) (F : Unit → Heap → Prop) : hp P (setObj m (.map es' c')) F h = F () (h.setIfInBounds m (.map es' c')) := by
  simp only [setObj, hp, e]
theorem hp_checkInt {n : Nat} {b : Bool} {v : Value} {k : IntKind} (hu : P.underlying t = some (.int k)) (F : Unit → Heap → Prop) (h : Heap) : hp P (Instr.checkKey b (n + 1) t v) F h = F () h := by
  simp only [Instr.checkKey, hp_bind, hp_underlying hu]
  cases v <;> rfl
theorem hp_findKey {k : Int} {es : List MapEntry} {kvs : List (Int × Value)} (hu : P.underlying kt = some (.int .i64)) (H : Ens es kvs) {F : Option (Nat × Value) → Heap → Prop} {h : Heap}
    (H0 : mget kvs k = none → k ∉ kvs.map Prod.fst → F none h) (H1 : ∀ j v, mget kvs k = some v → kvs[j]? = some (k, v) → F (some (j, v)) h) : hp P (Instr.findKey kt (.int .i64 k) es) F h := by
  obtain ⟨r, h1, h2⟩ := findNow_some (kind := .i64) (k := k) 0 H
  unfold Instr.findKey
  simp only [hp_bind, hp_underlying hu, h1]
  rcases h2 with ⟨rfl, h3, h4⟩ | ⟨j, v, rfl, h3, h4⟩
  · exact H0 h3 h4
  · rw [Nat.zero_add]; exact H1 j v h3 h4

theorem look_mk {h : Heap} {m : Nat} {f : Int → Option Value} {k : Int} {ok : Bool} {z : Value} {K : Value → Heap → Prop} (hu : und P t = .map kt et) (hk : und P kt = .int .i64) (hz : zer P et = some z) (H : MapF h m f)
    (kk : K (if ok then .tuple #[(f k).getD z, .bool (f k).isSome] else (f k).getD z) h) : lookH P t (.map (some m)) (.int .i64 k) ok h K := by
  obtain ⟨es, c, kvs, h1, h2, h3⟩ := H
  unfold lookH Instr.lookup
  have hku := und_some hk (by simp)
  simp only [hp_bind, hp_underlying (und_some hu (by simp)), hp_getMap h1, hp_pure, hp_checkInt hku]
  refine hp_findKey hku h2 (fun e _ => ?_) (fun j v e _ => ?_)
  · rw [h3] at e
    simp only [hp_bind, hp_zeroValue hz, hp_pure]
    rw [e] at kk
    exact kk
  · rw [h3] at e
    rw [e] at kk
    exact kk
theorem look_nil {h : Heap} {k : Int} {ok : Bool} {z : Value} {K : Value → Heap → Prop} (hu : und P t = .map kt et) (hk : und P kt = .int .i64) (hz : zer P et = some z)
    (kk : K (if ok then .tuple #[z, .bool false] else z) h) : lookH P t (.map none) (.int .i64 k) ok h K := by
  unfold lookH Instr.lookup
  have hku := und_some hk (by simp)
  simp only [hp_bind, hp_underlying (und_some hu (by simp)), hp_pure, hp_checkInt hku]
  refine hp_findKey (kvs := []) hku ⟨rfl, List.nodup_nil⟩ (fun e _ => ?_) (fun j v e _ => by cases e)
  simp only [hp_bind, hp_zeroValue hz, hp_pure]
  exact kk

theorem Ens.push {es : List MapEntry} {kvs : List (Int × Value)} {k : Int} {v : Value} {c : Nat} (H : Ens es kvs) (hk : k ∉ kvs.map Prod.fst) : Ens (es ++ [{ key := .int .i64 k, val := v, born := c }]) (kvs ++ [(k, v)]) := by
  refine ⟨by rw [List.map_append, List.map_append, H.eq]; rfl, ?_⟩
  rw [List.map_append, List.nodup_append]
  exact ⟨H.nd, by simp, fun a ha b hb => by simp at hb; subst hb; exact fun e => hk (e ▸ ha)⟩
theorem Ens.modify {es : List MapEntry} {kvs : List (Int × Value)} {k : Int} {v v0 : Value} {j : Nat} (H : Ens es kvs) (hj : kvs[j]? = some (k, v0)) : Ens (es.modify j fun e => { e with key := .int .i64 k, val := v }) (kvs.set j (k, v)) := by
  have hlen : es.length = kvs.length := by have := congrArg List.length H.eq; simpa using this
  have hjl := (List.getElem?_eq_some_iff.1 hj).1
  refine ⟨?_, ?_⟩
  · apply List.ext_getElem?
    intro i
    have h0 := congrArg (fun L => L[i]?) H.eq
    simp only [List.getElem?_map] at h0
    rw [List.getElem?_map, List.getElem?_map, List.getElem?_modify, List.getElem?_set]
    by_cases e : j = i
    · subst e
      rw [if_pos rfl, if_pos hjl]
      rw [List.getElem?_eq_getElem (by omega)]
      simp
    · rw [if_neg e]
      simp only [if_neg e]
      simpa using h0
  · have : (kvs.set j (k, v)).map Prod.fst = kvs.map Prod.fst := by
      apply List.ext_getElem?
      intro i
      rw [List.getElem?_map, List.getElem?_map, List.getElem?_set]
      by_cases e : j = i
      · subst e
        rw [if_pos rfl, if_pos hjl, hj]; rfl
      · rw [if_neg e]
    rw [this]; exact H.nd
theorem mget_push {kvs : List (Int × Value)} {k : Int} {v : Value} (hk : k ∉ kvs.map Prod.fst) (k' : Int) : mget (kvs ++ [(k, v)]) k' = if k' = k then some v else mget kvs k' := by
  unfold mget
  rw [List.find?_append]
  by_cases e : k' = k
  · subst e
    have := mget_none hk
    unfold mget at this
    rw [Option.map_eq_none_iff] at this
    rw [this, if_pos rfl]; simp
  · rw [if_neg e]
    have : ([(k, v)] : List (Int × Value)).find? (fun x => x.1 == k') = none := by simpa using fun h => e h.symm
    rw [this]; simp
theorem mget_set {kvs : List (Int × Value)} {k : Int} {v v0 : Value} {j : Nat} (nd : (kvs.map Prod.fst).Nodup) (hj : kvs[j]? = some (k, v0)) (k' : Int) : mget (kvs.set j (k, v)) k' = if k' = k then some v else mget kvs k' := by
  have hjl := (List.getElem?_eq_some_iff.1 hj).1
  have nd2 : ((kvs.set j (k, v)).map Prod.fst).Nodup := by
    have : (kvs.set j (k, v)).map Prod.fst = kvs.map Prod.fst := by
      apply List.ext_getElem?
      intro i
      rw [List.getElem?_map, List.getElem?_map, List.getElem?_set]
      by_cases e : j = i
      · subst e
        rw [if_pos rfl, if_pos hjl, hj]; rfl
      · rw [if_neg e]
    rw [this]; exact nd
  by_cases e : k' = k
  · subst e
    rw [if_pos rfl]
    exact mget_mem nd2 (List.mem_of_getElem? (i := j) (by rw [List.getElem?_set, if_pos rfl, if_pos hjl]))
  · rw [if_neg e]
    cases hm : mget kvs k' with
    | none =>
      apply mget_none
      intro hin
      obtain ⟨x, hx, ex⟩ := List.mem_map.1 hin
      rcases List.mem_or_eq_of_mem_set hx with hx | rfl
      · have := mget_mem nd (k := k') (v := x.2) (by rw [← ex]; exact hx)
        rw [hm] at this; cases this
      · exact e ex.symm
    | some w =>
      have hin : (k', w) ∈ kvs := by
        unfold mget at hm
        obtain ⟨x, hx, ex⟩ := Option.map_eq_some_iff.1 hm
        have h1 := List.mem_of_find?_eq_some hx
        have h2 := List.find?_some hx
        have : x = (k', w) := by
          have h3 : x.1 = k' := by simpa using h2
          rw [← h3, ← ex]
        rw [← this]; exact h1
      apply mget_mem nd2
      obtain ⟨i, hi, ei⟩ := List.getElem_of_mem hin
      refine List.mem_of_getElem? (i := i) ?_
      rw [List.getElem?_set]
      by_cases e2 : j = i
      · subst e2
        rw [List.getElem?_eq_getElem hi, ei] at hj
        cases hj; exact absurd rfl e
      · rw [if_neg e2, List.getElem?_eq_getElem hi, ei]
theorem upd_mk {h : Heap} {m : Nat} {f : Int → Option Value} {k : Int} {v : Value} {K : Heap → Prop} (hu : und P t = .map kt et) (hk : und P kt = .int .i64) (H : MapF h m f)
    (kk : ∀ h', MapF h' m (fun k' => if k' = k then some v else f k') → h'.size = h.size → (∀ c, c ≠ m → h'[c]? = h[c]?) → K h') : mupdH P t (.map (some m)) (.int .i64 k) v h K := by
  have hm := H.lt
  obtain ⟨es, c, kvs, h1, h2, h3⟩ := H
  unfold mupdH Instr.mapUpdate
  have hku := und_some hk (by simp)
  simp only [hp_bind, hp_underlying (und_some hu (by simp)), hp_getMap h1, hp_checkInt hku]
  refine hp_findKey hku h2 (fun e hn => ?_) (fun j v0 e hj => ?_)
  · simp only [hp_setMap h1]
    refine kk _ ⟨_, _, kvs ++ [(k, v)], set_new hm, ?_, fun k' => ?_⟩ (by simp) (fun c hc => set_old hc)
    · rw [Array.toList_push]; exact h2.push hn
    · rw [mget_push hn, h3]
  · have hlen : es.toList.length = kvs.length := by have := congrArg List.length h2.eq; simpa using this
    have hjl := (List.getElem?_eq_some_iff.1 hj).1
    have hkey : ((es[j]?).map (·.key)).getD (.int .i64 k) = .int .i64 k := by
      have h0 := congrArg (fun L => L[j]?) h2.eq
      simp only [List.getElem?_map, hj, Array.getElem?_toList] at h0
      cases hes : es[j]? with
      | none => rw [hes] at h0; simp at h0
      | some x =>
        rw [hes] at h0
        simp only [Option.map_some, Option.some.injEq, Prod.mk.injEq] at h0
        simp [h0.1]
    rw [hp_bind, hkey]
    have hst : ∀ (F : Value → Heap → Prop), F (.int .i64 k) h → hp P (Instr.keyThatStays (.int .i64 k) (.int .i64 k)) F h := by
      intro F x
      unfold Instr.keyThatStays
      have : Instr.sameBits 10000 (.int .i64 k) (.int .i64 k) = true := by simp [Instr.sameBits]
      rw [if_pos this]; exact x
    refine hst _ ?_
    simp only [hp_setMap h1]
    refine kk _ ⟨_, _, kvs.set j (k, v), set_new hm, ?_, fun k' => ?_⟩ (by simp) (fun c hc => set_old hc)
    · rw [Array.toList_modify]; exact h2.modify hj
    · rw [mget_set h2.nd hj, h3]
theorem map_erase {α β : Type} (f : α → β) : ∀ (l : List α) (j : Nat), (l.eraseIdx j).map f = (l.map f).eraseIdx j := by
  intro l
  induction l with
  | nil => intro j; rfl
  | cons x l ih =>
    intro j
    cases j with
    | zero => rfl
    | succ j => simp only [List.eraseIdx_cons_succ, List.map_cons, ih]
theorem Ens.erase {es : List MapEntry} {kvs : List (Int × Value)} (H : Ens es kvs) (j : Nat) : Ens (es.eraseIdx j) (kvs.eraseIdx j) := by
  refine ⟨?_, ?_⟩
  · rw [map_erase, map_erase, H.eq]
  · rw [map_erase]; exact H.nd.sublist (List.eraseIdx_sublist _ _)
theorem mget_erase {kvs : List (Int × Value)} {k : Int} {v0 : Value} {j : Nat} (nd : (kvs.map Prod.fst).Nodup) (hj : kvs[j]? = some (k, v0)) (k' : Int) : mget (kvs.eraseIdx j) k' = if k' = k then none else mget kvs k' := by
  induction kvs generalizing j with
  | nil => simp at hj
  | cons x kvs ih =>
    simp only [List.map_cons, List.nodup_cons] at nd
    cases j with
    | zero =>
      simp only [List.getElem?_cons_zero, Option.some.injEq] at hj
      subst hj
      rw [List.eraseIdx_cons_zero]
      by_cases e : k' = k
      · subst e; rw [if_pos rfl]; exact mget_none nd.1
      · rw [if_neg e]
        unfold mget
        rw [List.find?_cons_of_neg (by simpa using fun h => e h.symm)]
    | succ j =>
      simp only [List.getElem?_cons_succ] at hj
      rw [List.eraseIdx_cons_succ]
      have hin : k ∈ kvs.map Prod.fst := List.mem_map.2 ⟨_, List.mem_of_getElem? hj, rfl⟩
      have hxk : x.1 ≠ k := fun e => nd.1 (e ▸ hin)
      have := ih nd.2 hj
      unfold mget at this ⊢
      by_cases e : x.1 = k'
      · rw [List.find?_cons_of_pos (by simpa using e), List.find?_cons_of_pos (by simpa using e), if_neg (by rw [← e]; exact hxk)]
      · rw [List.find?_cons_of_neg (by simpa using e), List.find?_cons_of_neg (by simpa using e)]
        exact this
theorem del_mk {h : Heap} {m : Nat} {f : Int → Option Value} {k : Int} {rt : TypeId} {K : Value → Heap → Prop} (hu : und P t = .map kt et) (hk : und P kt = .int .i64) (H : MapF h m f)
    (kk : ∀ h', MapF h' m (fun k' => if k' = k then none else f k') → h'.size = h.size → (∀ c, c ≠ m → h'[c]? = h[c]?) → K (.tuple #[]) h') : mdelH P #[t, kt] rt #[.map (some m), .int .i64 k] h K := by
  have hm := H.lt
  obtain ⟨es, c, kvs, h1, h2, h3⟩ := H
  have hku := und_some hk (by simp)
  unfold mdelH Builtin.delete_
  simp only [List.getElem?_toArray, List.getElem?_cons_zero, List.getElem?_cons_succ, hp_bind, hp_underlying (und_some hu (by simp)), hp_getMap h1, hp_checkInt hku]
  refine hp_findKey hku h2 (fun e hn => ?_) (fun j v0 e hj => ?_)
  · simp only [hp_bind, hp_setMap h1, hp_pure]
    refine kk _ ⟨_, _, kvs, set_new hm, h2, fun k' => ?_⟩ (by simp) (fun c hc => set_old hc)
    rw [h3]
    show f k' = if k' = k then none else f k'
    split
    · subst k'; rw [← h3, e]
    · rfl
  · simp only [hp_bind, hp_setMap h1, hp_pure]
    refine kk _ ⟨_, _, kvs.eraseIdx j, set_new hm, ?_, fun k' => ?_⟩ (by simp) (fun c hc => set_old hc)
    · have : (es.eraseIdxIfInBounds j).toList = es.toList.eraseIdx j := by
        unfold Array.eraseIdxIfInBounds
        split
        · rw [Array.toList_eraseIdx]
        · rw [List.eraseIdx_of_length_le (by simpa using Nat.not_lt.1 ‹_›)]
      rw [this]; exact h2.erase j
    · rw [mget_erase h2.nd hj, h3]
end
end Go.Proofs.Ytlncjcbofgjcfaa
end
section
/- The formulas of functions, printed by a program of mine. -/
set_option linter.unusedVariables false
set_option maxRecDepth 100000
namespace Go.Proofs.Ytlncjcbofgjcfaa



















/-- jostle/call.right -/
def F60 (K : Value → Heap → Prop) (h : Heap) (x0_0 : Int) (x0_1 : Int) (x0_2 : Int) : Prop :=
  (ldH (Array.push h (.cells #[(.int .i64 x0_0), (.int .u32 x0_1), (.int .u32 x0_2)] 42)) ⟨h.size, 0, none⟩ (fun v0 => (asInt .i64 v0 (fun n1 => (ifB (n1 == 2) (K (.bool true) (Array.push h (.cells #[(.int .i64 x0_0), (.int .u32 x0_1), (.int .u32 x0_2)] 42))) (exI (fun I2 => ((ifB (n1 == 0) (I2 [(.bool true)] (Array.push h (.cells #[(.int .i64 x0_0), (.int .u32 x0_1), (.int .u32 x0_2)] 42))) (ifB (n1 == 1) (I2 [(.bool true)] (Array.push h (.cells #[(.int .i64 x0_0), (.int .u32 x0_1), (.int .u32 x0_2)] 42))) (I2 [(.bool (n1 == 3))] (Array.push h (.cells #[(.int .i64 x0_0), (.int .u32 x0_1), (.int .u32 x0_2)] 42))))) ∧ (∀ v3 : Value, (∀ g4 : Env, (∀ h5 : Heap, ((I2 [v3] h5) → (asBool v3 (fun b6 => (ifB b6 (ldH h5 ⟨h.size, 1, none⟩ (fun v7 => (asInt .u32 v7 (fun n8 => (ifB (n8 == 0) (ldH h5 ⟨h.size, 2, none⟩ (fun v9 => (asInt .u32 v9 (fun n10 => (K (.bool (n10 == 0)) h5))))) (K (.bool false) h5)))))) (K (.bool false) h5))))))))))))))))
theorem vc60 (K : Value → Heap → Prop) (h : Heap) (x0_0 : Int) (x0_1 : Int) (x0_2 : Int) : vc Try.prog (bodyOf Try.f60) (retQ Try.prog Try.f60.results.toList (hasRange (bodyOf Try.f60)) h.size K) (envL [(.agg #[(.int .i64 x0_0), (.int .u32 x0_1), (.int .u32 x0_2)])]) h = F60 K h x0_0 x0_1 x0_2 := by kernel_rfl
theorem ok60 : fnOk Try.prog Try.f60 1 = true := by kernel_rfl
theorem call60 {K : Value → Heap → Prop} {h : Heap} {x0_0 : Int} {x0_1 : Int} {x0_2 : Int} (H : F60 K h x0_0 x0_1 x0_2) : CallH Try.prog 60 #[(.agg #[(.int .i64 x0_0), (.int .u32 x0_1), (.int .u32 x0_2)])] h K :=
  callH_mk Try.func60 ok60 (Eq.mp (vc60 K h x0_0 x0_1 x0_2).symm H)



end Go.Proofs.Ytlncjcbofgjcfaa
end
section
/- Numbers' digits as texts. -/
set_option linter.unusedSimpArgs false
set_option linter.unusedVariables false
set_option maxRecDepth 20000
namespace Go.Proofs.Ytlncjcbofgjcfaa

def dch (n : Nat) : UInt8 := UInt8.ofNat (48 + n % 10)
def dgA : Nat → Nat → ByteArray → ByteArray
  | 0, _, acc => acc
  | f + 1, n, acc => if n < 10 then ⟨#[dch n]⟩ ++ acc else dgA f (n / 10) (⟨#[dch n]⟩ ++ acc)
/-- A number's digits. -/
def dg (n : Nat) : ByteArray := dgA 20 n ⟨#[]⟩
theorem one_size (u : UInt8) : (⟨#[u]⟩ : ByteArray).size = 1 := rfl
theorem dgA_size : ∀ f n acc, (dgA f n acc).size ≤ acc.size + f := by
  intro f
  induction f with
  | zero => intro n acc; exact Nat.le_refl _
  | succ f ih =>
    intro n acc
    unfold dgA
    split
    · rw [ByteArray.size_append, one_size]; omega
    · have := ih (n / 10) (⟨#[dch n]⟩ ++ acc)
      rw [ByteArray.size_append, one_size] at this
      omega
theorem dg_size (n : Nat) : (dg n).size ≤ 20 := by
  have := dgA_size 20 n ⟨#[]⟩
  have e : (⟨#[]⟩ : ByteArray).size = 0 := rfl
  unfold dg; omega
theorem wrap8 {n : Nat} (h : n < 256) : IntKind.u8.wrap (n : Int) = (n : Int) := by
  unfold IntKind.wrap IntKind.signed IntKind.bits
  have e : (n : Int) % 2 ^ 8 = n := Int.emod_eq_of_lt (by omega) (by omega)
  simp only [e]
  rw [if_neg (by simp)]
theorem wrap32 {n : Nat} (h : n < 4294967296) : IntKind.u32.wrap (n : Int) = (n : Int) := by
  unfold IntKind.wrap IntKind.signed IntKind.bits
  have e : (n : Int) % 2 ^ 32 = n := Int.emod_eq_of_lt (by omega) (by omega)
  simp only [e]
  rw [if_neg (by simp)]
theorem wrap64u {n : Nat} (h : n < 18446744073709551616) : IntKind.u64.wrap (n : Int) = (n : Int) := by
  unfold IntKind.wrap IntKind.signed IntKind.bits
  have e : (n : Int) % 2 ^ 64 = n := Int.emod_eq_of_lt (by omega) (by omega)
  simp only [e]
  rw [if_neg (by simp)]
theorem tmod10 (n : Nat) : Int.tmod (n : Int) 10 = ((n % 10 : Nat) : Int) := rfl
theorem tdiv10 (n : Nat) : Int.tdiv (n : Int) 10 = ((n / 10 : Nat) : Int) := rfl
theorem und_bytes : und Try.prog 151 = .slice 5 := by kernel_rfl
theorem und_byte : und Try.prog 5 = .int .u8 := by kernel_rfl
theorem und_str : und Try.prog 9 = .string := by kernel_rfl
/-- One byte as a text. -/
theorem cvt_byte {h : Heap} {b : Nat} {v : Int} {t : TypeId} {K : Value → Heap → Prop} (e : h[b]? = some (.cells #[.int .u8 v] t)) (k : K (.string ⟨#[UInt8.ofNat v.toNat]⟩) h) : cvtH Try.prog 151 9 (.slice (some ⟨b, 0, none⟩) 1 1) h K := by
  unfold cvtH convert
  simp only [hp_bind, hp_underlying (und_some und_bytes (by simp)), hp_underlying (und_some und_str (by simp)), hp_underlying (und_some und_byte (by simp))]
  show hp Try.prog (Conv.bytesToString _) K h
  unfold Conv.bytesToString
  simp only [hp_bind]
  show hp Try.prog (loadCellsFrom ⟨b, 0, none⟩ 0 1 #[]) _ h
  refine hp_loadCellsFrom _ _ 0 [] _ ?_
  refine ldH_mk (v := .int .u8 v) ?_ ?_
  · rw [add_lit]; exact cellAt_row e
  show hp Try.prog _ _ h
  simp only [List.reverse_cons, List.reverse_nil, List.nil_append, List.forIn_toArray]
  exact k

/-- A loop's state: what the text will be. -/
def dgR (f m : Nat) (s : ByteArray) : ByteArray := if m < 10 then s else dgA f (m / 10) s
theorem dgR_start (n : Nat) : dgR 19 n ⟨#[dch n]⟩ = dg n := by
  unfold dgR dg
  show _ = (if n < 10 then ⟨#[dch n]⟩ ++ ⟨#[]⟩ else dgA 19 (n / 10) (⟨#[dch n]⟩ ++ ⟨#[]⟩))
  have e : (⟨#[dch n]⟩ : ByteArray) ++ ⟨#[]⟩ = ⟨#[dch n]⟩ := ByteArray.append_empty
  rw [e]
theorem dgR_step {f m : Nat} {s : ByteArray} (h : ¬ m < 10) : dgR (f + 1) m s = dgR f (m / 10) (⟨#[dch (m / 10)]⟩ ++ s) := by
  show (if m < 10 then s else dgA (f + 1) (m / 10) s) = _
  rw [if_neg h]
  rfl

theorem dig_ex (k : Nat) (hk : k < 10) : (⟨#[48, 49, 50, 51, 52, 53, 54, 55, 56, 57]⟩ : ByteArray).extract k (k + 1) = ⟨#[UInt8.ofNat (48 + k)]⟩ := by
  match k, hk with
  | 0, _ | 1, _ | 2, _ | 3, _ | 4, _ | 5, _ | 6, _ | 7, _ | 8, _ | 9, _ => rfl
end Go.Proofs.Ytlncjcbofgjcfaa
end
section
/- strings.Builder; an answer's text; the digits of layer 40. -/
set_option linter.unusedSimpArgs false
set_option linter.unusedVariables false
set_option maxRecDepth 20000
namespace Go.Proofs.Ytlncjcbofgjcfaa

theorem hp_shape {P : Program} (r : Nat) (F : Option (TypeId × Nat) → Heap → Prop) (h : Heap) : hp P (shape r) F h = F (shapeAt h r) h := rfl
theorem hp_viewAt {P : Program} {h : Heap} {b : Nat} {row : Array Value} {t : TypeId} (e : h[b]? = some (.cells row t)) (F : Option (Addr × TypeId) → Heap → Prop) : hp P (viewAt b) F h = F none h := by
  unfold viewAt
  have : shapeAt h b = some (t, row.size) := by unfold shapeAt; rw [e]
  simp only [hp_bind, hp_shape, this]; rfl
theorem hp_cellsIn {P : Program} {h : Heap} {b : Nat} {row : Array Value} {t : TypeId} (e : h[b]? = some (.cells row t)) (F : Option Nat → Heap → Prop) : hp P (cellsIn b) F h = F (some row.size) h := by
  unfold cellsIn
  have : shapeAt h b = some (t, row.size) := by unfold shapeAt; rw [e]
  simp only [hp_bind, hp_shape, this]; rfl
theorem und_up : und Try.prog 180 = .unsafePointer := by kernel_rfl
theorem ext_same {P : Program} {f : FuncId} {fn : Func} {h : Heap} {v : Value} {K : Value → Heap → Prop} (h1 : P.funcs[f]? = some fn) (h2 : (fn.name == "runtime.NumGoroutine") = false) (h3 : fn.body.isNone = true) (h4 : (Extern.findNext fn).isNone = true)
    (h5 : Extern.find fn = some Extern.AbiNoEscape.same) (k : K v h) : ExtH P f #[v] h K := by
  unfold ExtH callFunc
  have h4' : Extern.findNext fn = none := Option.isNone_iff_eq_none.1 h4
  clear h4
  rw [hp_bind, hp_program, h1]
  show hp P (if (fn.name == "runtime.NumGoroutine") = true then _ else _) _ h
  rw [h2]
  show hp P (if fn.body.isNone = true then _ else _) _ h
  rw [h3, if_pos rfl, hp_bind]
  show hp P (match Extern.findNext fn with | some e => e #[v] | _ => _) _ h
  generalize Extern.findNext fn = o1 at *
  subst h4'
  show hp P (match Extern.find fn with | some e => (do let x ← e #[v]; pure (Next.value x)) | none => _) _ h
  generalize Extern.find fn = o2 at *
  subst h5
  exact k
theorem eqIn_ptr2 {P : Program} (d : Nat) {t el : TypeId} {a b : Addr} (hu : P.underlying t = some (.pointer el)) (hth : there P el = true) (hsz : siz P el ≠ 0) (F : Bool → Heap → Prop) (h : Heap) (H : hp P (sameAddr a b) F h) : hp P (Op.equalIn (d + 1) t (.pointer (some a)) (.pointer (some b))) F h := by
  simp only [Op.equalIn, hp_bind, hp_underlying hu, hp_sizeOf hth]
  rw [if_pos hsz]
  exact H
end Go.Proofs.Ytlncjcbofgjcfaa
end
section
/- Texts appended; the builder's calls; digits of layer 40. -/
set_option linter.unusedSimpArgs false
set_option linter.unusedVariables false
set_option maxRecDepth 20000
namespace Go.Proofs.Ytlncjcbofgjcfaa

/-- A text's bytes as cells. -/
def bcs (s : ByteArray) : List Value := s.data.toList.map fun b => .int .u8 b.toNat
theorem bcs_len (s : ByteArray) : (bcs s).length = s.size := by unfold bcs; rw [List.length_map, Array.length_toList]; rfl
theorem bcs_append (s x : ByteArray) : bcs (s ++ x) = bcs s ++ bcs x := by
  unfold bcs
  rw [ByteArray.data_append, Array.toList_append, List.map_append]
/-- append a text to a row of bytes of one's own. -/
theorem appS_own {P : Program} {t t2 elem : TypeId} {z : Value} {h : Heap} {a : Option Addr} {l c n : Nat} {s : ByteArray} {xs ys : List Value} {K : Value → Heap → Prop} (hu2 : und P t2 = .string) (hns : s.size = n) (hys : ys = bcs s)
    (hu : und P t = .slice elem) (hth : there P elem = true) (hz : zer P elem = some z) (hzs : z.cells.size = siz P elem)
    (ho : Own h elem (siz P elem) a l c xs) (hn : ys.length = n * siz P elem) (hone : ∀ y ∈ ys, oneC y True) (hb0 : 0 < byt P elem) (hb : (2 * (l + n) + 512) * byt P elem ≤ 2 ^ 48)
    (H : ∀ a' c' h', Own h' elem (siz P elem) a' (l + n) c' (xs ++ ys) → h.size ≤ h'.size → (∀ b, b < h.size → (∀ ad, a = some ad → ad.block ≠ b) → h'[b]? = h[b]?) → (a' = a ∨ a' = some ⟨h.size, 0, none⟩) → K (.slice a' (l + n) c') h') :
    appH P #[t, t2] t #[.slice a l c, .string s] h K := by
  have hu' := und_some hu (by simp)
  obtain ⟨info, hinfo⟩ := there_some hth
  have hbyt : info.bytes = byt P elem := by unfold byt; rw [hinfo]
  have hu2' := und_some hu2 (by simp)
  have first : ∀ (F : Array Value → Heap → Prop), F ys.toArray h → hp P (Builtin.firstCells (siz P elem) n (.string s)) F h := by
    intro F k
    subst hys hns
    show F ((s.extract 0 s.size).data.map fun b => Value.int .u8 b.toNat) h
    rw [ByteArray.extract_zero_size]
    have e : (bcs s).toArray = s.data.map fun b => Value.int .u8 b.toNat := by
      unfold bcs
      rw [← Array.toList_map]
    rw [← e]; exact k
  unfold appH Builtin.append_
  simp only [List.getElem?_toArray, List.getElem?_cons_zero, List.getElem?_cons_succ, hp_bind, hp_pure, hp_underlying hu', hp_underlying hu2', hp_sizeOf hth, Bool.false_eq_true, if_false]
  show hp P (Builtin.lenOf _) _ h
  simp only [Builtin.lenOf, hp_pure, hns]
  rw [hp_ite]
  obtain ⟨hl, hlc, hor⟩ := ho
  split
  · rename_i hcap
    simp only [hp_bind]
    show hp P (if (!false) = true then _ else _) _ h
    refine first _ ?_
    rcases hor with ⟨rfl, rfl⟩ | ⟨b, row, rfl, hb2, hrs, hrt⟩
    · have e1 : l + n = 0 := by omega
      have e2 : n = 0 := by omega
      subst e2
      have : ys = [] := by simpa using hn
      subst this
      simp only [hp_bind, hp_pure]
      refine H none 0 h ⟨by simp [hl], by omega, .inl ⟨rfl, rfl⟩⟩ (Nat.le_refl _) (fun _ _ _ => rfl) (.inl rfl)
    · simp only [hp_bind]
      have hlt := (Array.getElem?_eq_some_iff.1 hb2).1
      have hmul : (l + n) * siz P elem ≤ c * siz P elem := Nat.mul_le_mul_right _ hcap
      rw [Nat.add_mul] at hmul
      refine hp_storeCells _ _ h 0 _ ?_
      rw [add_lit]
      refine stN_row ys h b _ 0 row elem _ hb2 (by omega) hone ?_
      intro row' h1 h2
      simp only [hp_pure]
      refine H (some ⟨b, 0, none⟩) c _ ⟨by simp [hl, hn, Nat.add_mul], hcap, .inr ⟨b, row', rfl, set_new hlt, by rw [h1, hrs], ?_⟩⟩ (by simp) (fun b' hb' hne => set_old (Ne.symm (hne _ rfl))) (.inl rfl)
      apply List.ext_getElem?
      intro j
      rw [List.getElem?_take, Array.getElem?_toList, h2 j]
      rw [Nat.add_mul]
      by_cases c1 : j < l * siz P elem
      · rw [if_pos (by omega), if_neg (by omega), List.getElem?_append_left (by omega), ← hrt, List.getElem?_take, if_pos c1, Array.getElem?_toList]
      · rw [List.getElem?_append_right (by omega)]
        by_cases c2 : j < l * siz P elem + n * siz P elem
        · rw [if_pos c2, if_pos (by omega)]
          congr 1; omega
        · rw [if_neg c2]
          symm; apply List.getElem?_eq_none; omega
  · rename_i hcap
    simp only [hp_bind, hp_pure]
    have hbound : ¬ Builtin.nextslicecap (l + n) c * info.bytes > 2 ^ 48 := by
      rw [hbyt]
      have := Nat.le_trans (Nat.mul_le_mul_right (byt P elem) (nextcap_le (l + n) c (by omega))) hb
      omega
    simp only [hp_bind, hp_pure, hp_typeInfo hinfo, hp_ite]
    rw [if_neg (by rw [hbyt]; intro x; rcases x.2 with y | y <;> first | exact y | omega), if_neg hbound]
    show ∀ tp, _
    intro tp
    rw [if_neg (by simp [Question.forced])]
    obtain ⟨cap, hcp⟩ : ∃ cap, cap = (Question.appendCap (l + n) c elem).cut tp := ⟨_, rfl⟩
    have hcap2 : l + n ≤ cap := by rw [hcp]; simp [Question.cut]
    rw [← hcp]
    rw [show (Sem.pure cap : Sem Nat) = pure cap from rfl]
    simp only [hp_bind, hp_pure, hp_typeInfo hinfo, hp_askRoom]
    have old : ∀ (F : Array Value → Heap → Prop), F xs.toArray h → hp P (Builtin.firstCells (siz P elem) l (.slice a l c)) F h := by
      intro F k
      rcases hor with ⟨rfl, rfl⟩ | ⟨b, row, rfl, hb2, hrs, hrt⟩
      · have : l = 0 := by omega
        subst this
        have : xs = [] := by simpa using hl
        subst this; exact k
      · show hp P (loadCells ⟨b, 0, none⟩ (l * siz P elem)) F h
        refine hp_loadCellsFrom _ _ 0 [] F ?_
        rw [← hl]
        refine ldN_sees xs 0 [] _ (fun j v hj => ?_) (by simpa using k)
        rw [add_lit, cellAt_of hb2, Nat.zero_add, Nat.zero_add, ← Array.getElem?_toList]
        rw [← hrt, List.getElem?_take] at hj
        split at hj
        · exact hj
        · cases hj
    refine old _ ?_
    rw [hp_bind, if_pos (show (!false) = true from rfl)]
    refine first _ ?_
    simp only [hp_bind]
    simp only [hp_zeroValue hz]
    show K (.slice (some ⟨h.size, 0, none⟩) (l + n) cap) (h.push _)
    have hzc : (Builtin.zeroCells z.cells (cap - (l + n))).size = (cap - (l + n)) * siz P elem := by rw [zeroCells_size, hzs]
    refine H _ cap _ ⟨by simp [hl, hn, Nat.add_mul], hcap2, .inr ⟨h.size, _, rfl, push_new _ _, ?_, ?_⟩⟩ (by simp) (fun b hb' _ => push_old _ _ _ hb') (.inr rfl)
    · simp only [Array.size_append, hzc, List.size_toArray, hl, hn, ← Nat.add_mul]
      congr 1; omega
    · simp only [Array.toList_append, List.toList_toArray]
      rw [List.take_left' (by simp [hl, hn, Nat.add_mul])]

theorem there_byte : there Try.prog 5 = true := by kernel_rfl
theorem zer_byte : zer Try.prog 5 = some (.int .u8 0) := by kernel_rfl
theorem siz_byte : siz Try.prog 5 = 1 := by kernel_rfl
theorem byt_byte : byt Try.prog 5 = 1 := by kernel_rfl

theorem hp_loadBytes {P : Program} {h : Heap} : ∀ (l : List UInt8) (a : Addr) (acc : ByteArray) (F : ByteArray → Heap → Prop), (∀ (j : Nat) (x : UInt8), l[j]? = some x → cellAt h (a.add j) = some (.int .u8 x.toNat)) → F ⟨acc.data ++ l.toArray⟩ h → hp P (loadBytes a acc l.length) F h := by
  intro l
  induction l with
  | nil =>
    intro a acc F _ k
    have e : (⟨acc.data ++ ([] : List UInt8).toArray⟩ : ByteArray) = acc := by apply ByteArray.ext; simp
    rw [e] at k; exact k
  | cons x l ih =>
    intro a acc F hc k
    unfold List.length loadBytes
    rw [hp_bind]
    have h0 := hc 0 x rfl
    rw [add_zero] at h0
    simp only [load, hp, h0]
    show hp P (loadBytes (a.add 1) (acc.push (((x.toNat : Int).toNat).toUInt8)) l.length) F h
    have hx : ((x.toNat : Int).toNat).toUInt8 = x := by simp
    rw [hx]
    refine ih _ _ _ (fun j y hj => ?_) ?_
    · have := hc (j + 1) y (by simpa using hj)
      rw [add_add, Nat.add_comm 1 j]; exact this
    · have e : (⟨(acc.push x).data ++ l.toArray⟩ : ByteArray) = ⟨acc.data ++ (x :: l).toArray⟩ := by
        apply ByteArray.ext
        simp [ByteArray.push]
      rw [e]; exact k
theorem lies_bytes {P : Program} {e : TypeId} (hc : P.cellsOf e = 1) (count n : Nat) (hn : n ≤ count) : liesAt P P.depth e count 0 e n = true := by
  have hd : P.depth = (2 * (P.types.size + Made.depth) + 1) + 1 := rfl
  rw [hd]
  simp only [liesAt, Bool.or_eq_true]
  left
  rw [hd]
  simp [rowAt, hc, hn, sameLayout]
theorem cells_byte : Try.prog.cellsOf 5 = 1 := by kernel_rfl
theorem und_pbyte : und Try.prog 175 = .pointer 5 := by kernel_rfl

end Go.Proofs.Ytlncjcbofgjcfaa
end
section
/- Rows of layer 40: their numbers, their lines. -/
set_option linter.unusedSimpArgs false
set_option linter.unusedVariables false
set_option maxRecDepth 20000
namespace Go.Proofs.Ytlncjcbofgjcfaa

/-- A row's seven numbers. -/
structure Ro where
  c0 : Int
  c1 : Int
  c2 : Int
  c3 : Int
  c4 : Int
  c5 : Int
  c6 : Int
abbrev Ro.ns (r : Ro) : List Int := [r.c0, r.c1, r.c2, r.c3, r.c4, r.c5, r.c6]
abbrev Ro.cells (r : Ro) : List Value := [iv r.c0, iv r.c1, iv r.c2, iv r.c3, iv r.c4, iv r.c5, iv r.c6]
/-- All are from 0 to a bound. -/
structure Bd (B : Int) (r : Ro) : Prop where
  b0 : 0 ≤ r.c0 ∧ r.c0 ≤ B
  b1 : 0 ≤ r.c1 ∧ r.c1 ≤ B
  b2 : 0 ≤ r.c2 ∧ r.c2 ≤ B
  b3 : 0 ≤ r.c3 ∧ r.c3 ≤ B
  b4 : 0 ≤ r.c4 ∧ r.c4 ≤ B
  b5 : 0 ≤ r.c5 ∧ r.c5 ≤ B
  b6 : 0 ≤ r.c6 ∧ r.c6 ≤ B
def dgI (x : Int) : ByteArray := dg x.toNat
theorem dgI_size (x : Int) : (dgI x).size ≤ 20 := dg_size _
theorem right2_call {K : Value → Heap → Prop} {h : Heap} {a b : Int} (k : ∀ h', Old h.size h h' → K (.bool true) h') : CallH Try.prog 60 #[.agg #[.int .i64 2, .int .u32 a, .int .u32 b]] h K := by
  refine call60 ?_
  unfold F60
  have p := pushed h #[.int .i64 2, .int .u32 a, .int .u32 b] 42
  generalize h.push (.cells #[.int .i64 2, .int .u32 a, .int .u32 b] 42) = h1 at *
  refine ldR p.new rfl ?_
  simp only [asInt_int]
  exact ifB_mk (fun _ => k _ p.toOld) (fun e => by simp at e)
/-- A row's line. -/
def lineT (name : ByteArray) (r : Ro) : ByteArray :=
  name ++ (⟨#[32, 99, 97, 108, 108, 115, 32]⟩ : ByteArray) ++ dgI r.c0 ++ (⟨#[32, 100, 111, 110, 101, 32]⟩ : ByteArray) ++ dgI r.c1 ++ (⟨#[32, 102, 117, 108, 108, 32]⟩ : ByteArray) ++ dgI r.c2 ++ (⟨#[32, 112, 97, 105, 114, 115, 32]⟩ : ByteArray) ++ dgI r.c3 ++ (⟨#[32, 101, 109, 112, 116, 121, 32]⟩ : ByteArray) ++ dgI r.c4 ++ (⟨#[32, 115, 116, 101, 112, 115, 32]⟩ : ByteArray) ++ dgI r.c5 ++ (⟨#[32, 109, 105, 115, 115, 101, 100, 32]⟩ : ByteArray) ++ dgI r.c6 ++ (⟨#[10]⟩ : ByteArray)
theorem lineT_size (name : ByteArray) (r : Ro) : (lineT name r).size ≤ name.size + 200 := by
  unfold lineT
  have s0 := dgI_size r.c0
  have s1 := dgI_size r.c1
  have s2 := dgI_size r.c2
  have s3 := dgI_size r.c3
  have s4 := dgI_size r.c4
  have s5 := dgI_size r.c5
  have s6 := dgI_size r.c6
  simp only [ByteArray.size_append]
  have t0 : (⟨#[32, 99, 97, 108, 108, 115, 32]⟩ : ByteArray).size = 7 := rfl
  have t1 : (⟨#[32, 100, 111, 110, 101, 32]⟩ : ByteArray).size = 6 := rfl
  have t2 : (⟨#[32, 102, 117, 108, 108, 32]⟩ : ByteArray).size = 6 := rfl
  have t3 : (⟨#[32, 112, 97, 105, 114, 115, 32]⟩ : ByteArray).size = 7 := rfl
  have t4 : (⟨#[32, 101, 109, 112, 116, 121, 32]⟩ : ByteArray).size = 7 := rfl
  have t5 : (⟨#[32, 115, 116, 101, 112, 115, 32]⟩ : ByteArray).size = 7 := rfl
  have t6 : (⟨#[32, 109, 105, 115, 115, 101, 100, 32]⟩ : ByteArray).size = 8 := rfl
  have t7 : (⟨#[10]⟩ : ByteArray).size = 1 := rfl
  omega
/-- Columns' names. -/
def nmT : List ByteArray := [(⟨#[99, 97, 108, 108, 115]⟩ : ByteArray), (⟨#[100, 111, 110, 101]⟩ : ByteArray), (⟨#[102, 117, 108, 108]⟩ : ByteArray), (⟨#[112, 97, 105, 114, 115]⟩ : ByteArray), (⟨#[101, 109, 112, 116, 121]⟩ : ByteArray), (⟨#[115, 116, 101, 112, 115]⟩ : ByteArray), (⟨#[109, 105, 115, 115, 101, 100]⟩ : ByteArray)]
def nmV : List Value := nmT.map Value.string
theorem cells_one (r : Ro) : ∀ y ∈ r.cells, oneC y True := by
  intro y hy
  simp only [List.mem_cons, List.not_mem_nil, or_false] at hy
  rcases hy with rfl | rfl | rfl | rfl | rfl | rfl | rfl <;> exact trivial
/-- A line's first columns, as layer 40 makes them. -/
def lineP (name : ByteArray) (r : Ro) : Nat → ByteArray
  | 0 => name
  | i + 1 => lineP name r i ++ ((⟨#[32]⟩ : ByteArray) ++ nmT.getD i ⟨#[]⟩ ++ (⟨#[32]⟩ : ByteArray) ++ dgI (r.ns.getD i 0))
theorem lineP_eq (name : ByteArray) (r : Ro) : lineP name r 7 ++ (⟨#[10]⟩ : ByteArray) = lineT name r := by
  have e0 : (⟨#[32]⟩ : ByteArray) ++ nmT.getD 0 ⟨#[]⟩ ++ (⟨#[32]⟩ : ByteArray) ++ dgI (r.ns.getD 0 0) = (⟨#[32, 99, 97, 108, 108, 115, 32]⟩ : ByteArray) ++ dgI r.c0 := rfl
  have e1 : (⟨#[32]⟩ : ByteArray) ++ nmT.getD 1 ⟨#[]⟩ ++ (⟨#[32]⟩ : ByteArray) ++ dgI (r.ns.getD 1 0) = (⟨#[32, 100, 111, 110, 101, 32]⟩ : ByteArray) ++ dgI r.c1 := rfl
  have e2 : (⟨#[32]⟩ : ByteArray) ++ nmT.getD 2 ⟨#[]⟩ ++ (⟨#[32]⟩ : ByteArray) ++ dgI (r.ns.getD 2 0) = (⟨#[32, 102, 117, 108, 108, 32]⟩ : ByteArray) ++ dgI r.c2 := rfl
  have e3 : (⟨#[32]⟩ : ByteArray) ++ nmT.getD 3 ⟨#[]⟩ ++ (⟨#[32]⟩ : ByteArray) ++ dgI (r.ns.getD 3 0) = (⟨#[32, 112, 97, 105, 114, 115, 32]⟩ : ByteArray) ++ dgI r.c3 := rfl
  have e4 : (⟨#[32]⟩ : ByteArray) ++ nmT.getD 4 ⟨#[]⟩ ++ (⟨#[32]⟩ : ByteArray) ++ dgI (r.ns.getD 4 0) = (⟨#[32, 101, 109, 112, 116, 121, 32]⟩ : ByteArray) ++ dgI r.c4 := rfl
  have e5 : (⟨#[32]⟩ : ByteArray) ++ nmT.getD 5 ⟨#[]⟩ ++ (⟨#[32]⟩ : ByteArray) ++ dgI (r.ns.getD 5 0) = (⟨#[32, 115, 116, 101, 112, 115, 32]⟩ : ByteArray) ++ dgI r.c5 := rfl
  have e6 : (⟨#[32]⟩ : ByteArray) ++ nmT.getD 6 ⟨#[]⟩ ++ (⟨#[32]⟩ : ByteArray) ++ dgI (r.ns.getD 6 0) = (⟨#[32, 109, 105, 115, 115, 101, 100, 32]⟩ : ByteArray) ++ dgI r.c6 := rfl
  simp only [lineP, e0, e1, e2, e3, e4, e5, e6]
  unfold lineT
  simp only [ByteArray.append_assoc]
theorem nmT_size (i : Nat) : (nmT.getD i ⟨#[]⟩).size ≤ 6 := by
  match i with
  | 0 | 1 | 2 | 3 | 4 | 5 | 6 => decide
  | i + 7 => exact Nat.zero_le _
theorem lineP_size (name : ByteArray) (r : Ro) : ∀ i, (lineP name r i).size ≤ name.size + 28 * i := by
  intro i
  induction i with
  | zero => exact Nat.le_refl _
  | succ i ih =>
    unfold lineP
    simp only [ByteArray.size_append, one_size]
    have := nmT_size i
    have := dgI_size (r.ns.getD i 0)
    omega
theorem Bd.get {B : Int} {r : Ro} (H : Bd B r) (hB : 0 ≤ B) (i : Nat) : 0 ≤ r.ns.getD i 0 ∧ r.ns.getD i 0 ≤ B := by
  obtain ⟨b0, b1, b2, b3, b4, b5, b6⟩ := H
  match i with
  | 0 => exact b0
  | 1 => exact b1
  | 2 => exact b2
  | 3 => exact b3
  | 4 => exact b4
  | 5 => exact b5
  | 6 => exact b6
  | i + 7 => exact ⟨Int.le_refl _, hB⟩
theorem partH_row {cs : List Value} {t : TypeId} {i : Nat} {v : Value} {K : Value → Prop} (hs : siz Try.prog t = 1) (ha : aggT Try.prog t = false) (e : cs[i]? = some v) (k : K v) : partH Try.prog t cs.toArray (i * 1) K := by
  have : partV Try.prog t cs.toArray (i * 1) = some v := by
    unfold partV
    rw [if_neg (by simp [ha]), Nat.mul_one, List.getElem?_toArray, e]
  unfold partH
  rw [this]
  exact k
theorem siz_int7 : siz Try.prog 3 = 1 := by kernel_rfl
theorem siz_str7 : siz Try.prog 9 = 1 := by kernel_rfl
theorem agg_int7 : aggT Try.prog 3 = false := by kernel_rfl
theorem agg_str7 : aggT Try.prog 9 = false := by kernel_rfl

end Go.Proofs.Ytlncjcbofgjcfaa
end
section
/- Sums of rows; whether a row is small. -/
set_option linter.unusedSimpArgs false
set_option linter.unusedVariables false
set_option maxRecDepth 20000
namespace Go.Proofs.Ytlncjcbofgjcfaa

def zeroR : Ro := ⟨0, 0, 0, 0, 0, 0, 0⟩
def addR (s r : Ro) : Ro := ⟨s.c0 + r.c0, s.c1 + r.c1, s.c2 + r.c2, s.c3 + r.c3, s.c4 + r.c4, s.c5 + r.c5, s.c6 + r.c6⟩
/-- The first columns added. -/
def mixR (j : Nat) (s r : Ro) : Ro :=
  ⟨if 0 < j then s.c0 + r.c0 else s.c0, if 1 < j then s.c1 + r.c1 else s.c1, if 2 < j then s.c2 + r.c2 else s.c2, if 3 < j then s.c3 + r.c3 else s.c3, if 4 < j then s.c4 + r.c4 else s.c4, if 5 < j then s.c5 + r.c5 else s.c5, if 6 < j then s.c6 + r.c6 else s.c6⟩
theorem mixR_zero (s r : Ro) : mixR 0 s r = s := rfl
theorem mixR_seven (s r : Ro) : mixR 7 s r = addR s r := rfl
def sumR (rs : List Ro) : Ro := rs.foldl addR zeroR
theorem sumR_succ {rs : List Ro} {i : Nat} (h : i < rs.length) : sumR (rs.take (i + 1)) = addR (sumR (rs.take i)) rs[i] := by
  unfold sumR
  rw [List.take_succ_eq_append_getElem h, List.foldl_append]; rfl
theorem Bd.add {A B : Int} {s r : Ro} (H : Bd A s) (H2 : Bd B r) : Bd (A + B) (addR s r) := by
  obtain ⟨b0, b1, b2, b3, b4, b5, b6⟩ := H
  obtain ⟨d0, d1, d2, d3, d4, d5, d6⟩ := H2
  unfold addR
  exact ⟨by show 0 ≤ s.c0 + r.c0 ∧ s.c0 + r.c0 ≤ _; omega, by show 0 ≤ s.c1 + r.c1 ∧ s.c1 + r.c1 ≤ _; omega, by show 0 ≤ s.c2 + r.c2 ∧ s.c2 + r.c2 ≤ _; omega, by show 0 ≤ s.c3 + r.c3 ∧ s.c3 + r.c3 ≤ _; omega, by show 0 ≤ s.c4 + r.c4 ∧ s.c4 + r.c4 ≤ _; omega, by show 0 ≤ s.c5 + r.c5 ∧ s.c5 + r.c5 ≤ _; omega, by show 0 ≤ s.c6 + r.c6 ∧ s.c6 + r.c6 ≤ _; omega⟩
theorem Bd.mono {A B : Int} {r : Ro} (H : Bd A r) (h : A ≤ B) : Bd B r := by
  obtain ⟨b0, b1, b2, b3, b4, b5, b6⟩ := H
  exact ⟨by omega, by omega, by omega, by omega, by omega, by omega, by omega⟩
theorem sumR_bd {rs : List Ro} (H : ∀ r ∈ rs, Bd 1000000 r) : ∀ i, i ≤ rs.length → Bd (1000000 * i) (sumR (rs.take i)) := by
  intro i
  induction i with
  | zero =>
    intro _
    have z : (0 : Int) ≤ 0 ∧ (0 : Int) ≤ 1000000 * ((0 : Nat) : Int) := by omega
    exact ⟨z, z, z, z, z, z, z⟩
  | succ i ih =>
    intro hi
    rw [sumR_succ (by omega)]
    exact ((ih (by omega)).add (H _ (List.getElem_mem (by omega)))).mono (by omega)

/-- A slice of rows, to be read. -/
structure RS (h : Heap) (a : Option Addr) (l c : Nat) (rs : List Ro) : Prop where
  s : Sees h a (rs.flatMap Ro.cells)
  len : rs.length = l
  cap : l ≤ c
theorem RS.old {h h' : Heap} {a : Option Addr} {l c : Nat} {rs : List Ro} (H : RS h a l c rs) (ho : Old h.size h h') : RS h' a l c rs := ⟨H.s.old ho, H.len, H.cap⟩
theorem flat7_len (rs : List Ro) : (rs.flatMap Ro.cells).length = rs.length * 7 := by
  induction rs with
  | nil => rfl
  | cons e rs ih =>
    have h7 : e.cells.length = 7 := rfl
    rw [List.flatMap_cons, List.length_append, ih, h7, List.length_cons]; omega
theorem flat7_get {rs : List Ro} : ∀ {i : Nat} (hi : i < rs.length) {j : Nat}, j < 7 → (rs.flatMap Ro.cells)[i * 7 + j]? = (rs[i]).cells[j]? := by
  induction rs with
  | nil => intro i hi; simp at hi
  | cons e rs ih =>
    intro i hi j hj
    have h7 : e.cells.length = 7 := rfl
    rw [List.flatMap_cons]
    cases i with
    | zero => rw [List.getElem?_append_left (by omega)]; simp
    | succ i =>
      rw [List.getElem?_append_right (by omega), h7, show (i + 1) * 7 + j - 7 = i * 7 + j by omega]
      exact ih (by simpa using hi) hj
theorem RS.at {h : Heap} {a : Option Addr} {l c : Nat} {rs : List Ro} (H : RS h a l c rs) {i : Nat} (hi : i < rs.length) : ∃ ad, a = some ad ∧ ∀ (j : Nat) (v : Value), (rs[i]).cells[j]? = some v → cellAt h ((ad.add (i * 7)).add j) = some v := by
  have h0 : (rs.flatMap Ro.cells)[i * 7 + 0]? = some (iv (rs[i]).c0) := flat7_get hi (by omega)
  obtain ⟨ad, e, _⟩ := H.s _ _ h0
  refine ⟨ad, e, fun j v hv => ?_⟩
  have hj : j < 7 := (List.getElem?_eq_some_iff.1 hv).1
  obtain ⟨ad', e', hc⟩ := H.s (i * 7 + j) v ((flat7_get hi hj).trans hv)
  rw [e] at e'; cases e'
  rw [add_add]; exact hc

abbrev zs7 : List Value := List.replicate 7 (iv 0)
end Go.Proofs.Ytlncjcbofgjcfaa
end
section
/- The rows as text; the body of TallyTexts. -/
set_option linter.unusedSimpArgs false
set_option linter.unusedVariables false
set_option maxRecDepth 20000
namespace Go.Proofs.Ytlncjcbofgjcfaa

def thrT (i : Nat) : ByteArray := (⟨#[116, 104, 114, 101, 97, 100, 32]⟩ : ByteArray) ++ dg i
theorem thrT_size (i : Nat) : (thrT i).size ≤ 27 := by
  unfold thrT
  have := dg_size i
  have e : (⟨#[116, 104, 114, 101, 97, 100, 32]⟩ : ByteArray).size = 7 := rfl
  rw [ByteArray.size_append]; omega
def linesT (rs : List Ro) : Nat → ByteArray
  | 0 => ⟨#[]⟩
  | i + 1 => linesT rs i ++ lineT (thrT i) (rs.getD i zeroR)
theorem linesT_size (rs : List Ro) : ∀ i, (linesT rs i).size ≤ 300 * i := by
  intro i
  induction i with
  | zero => exact Nat.le_refl _
  | succ i ih =>
    unfold linesT
    rw [ByteArray.size_append]
    have h1 := lineT_size (thrT i) (rs.getD i zeroR)
    have h2 := thrT_size i
    omega
def allT : ByteArray := ⟨#[97, 108, 108]⟩
theorem allT_size : allT.size = 3 := rfl
theorem lineT_pos (name : ByteArray) (r : Ro) : (lineT name r).size ≠ 0 := by
  unfold lineT
  rw [ByteArray.size_append, one_size]; omega

end Go.Proofs.Ytlncjcbofgjcfaa
end
