/- Part 8 of what the proofs of this seat rest on: see the last text of the claim. -/
import Derived.Test.YtglgifgoojncpaaGreatQ66713ecab94b
import Derived.Test.YtglgifgoojncpaaGreatProg
set_option linter.unusedSimpArgs false
set_option linter.unusedVariables false
set_option linter.ambiguousOpen false
set_option maxRecDepth 20000
namespace Go.Proofs.YtglgifgoojncpaaGreat
section
open Mod
def frc (f : Frm) : List Value := [.int .i64 f.fn, .int .i64 f.pc, .int .u64 (f.g 0), .int .u64 (f.g 1), .int .u64 (f.g 2), .int .u64 (f.g 3), .int .u64 (f.g 4), .int .u64 (f.g 5), .int .u64 (f.g 6), .int .u64 (f.g 7), .int .u64 (f.g 8), .int .u64 (f.g 9)]
theorem frc_len : ∀ f : Frm, (frc f).length = 12 := fun _ => rfl
structure TB where
  fr : Option Addr
  frn : Nat
  pred : Nat
  succ : Nat
  word : Nat
  re : Option Addr
  ren : Nat
  fo : Option Addr
  fon : Nat
abbrev thrC (B : TB) (x : Thr) (id : Int) : List Value := [.int .i64 id, .slice B.fr x.fr.length B.frn, .int .u64 (x.ret.getD 0 0), .int .u64 (x.ret.getD 1 0), .int .u64 (x.ret.getD 2 0), .slice (some ⟨B.pred, 0, none⟩) x.pred.length x.pred.length, .slice (some ⟨B.succ, 0, none⟩) x.succ.length x.succ.length, .slice (some ⟨B.word, 0, none⟩) x.word.length x.word.length, .slice B.re x.retired.length B.ren, .slice B.fo x.found.length B.fon]
structure FrB (f : Frm) : Prop where
  len : f.r.length = 10
  us : ∀ v ∈ f.r, U v
structure ThB (t : Thr) : Prop where
  fr : ∀ f ∈ t.fr, FrB f
  ret : t.ret.length = 3 ∧ ∀ v ∈ t.ret, U v
  pr : ∀ v ∈ t.pred, U v
  su : ∀ v ∈ t.succ, U v
  wo : ∀ v ∈ t.word, U v
  re : ∀ v ∈ t.retired, iN v
  fo : ∀ v ∈ t.found, iN v
  len : t.fr.length ≤ 1073741824 ∧ t.retired.length ≤ 1073741824 ∧ t.found.length ≤ 1073741824
def TopAt (B : TB) (t : Thr) (fo : Option (Nat × Nat)) : Prop := ∀ b o, fo = some (b, o) → B.fr = some ⟨b, 0, none⟩ ∧ t.fr ≠ [] ∧ o = (t.fr.length - 1) * 12
def thrS (T : Nat) (fo : Option (Nat × Nat)) (t : Thr) (id : Int) : Hp := ex fun B : TB => pr (ThB t ∧ TopAt B t fo) (pt T (.cells (thrC B t id).toArray 88) * (ownS 99 12 B.fr t.fr.length B.frn (t.fr.flatMap frc) * (pt B.pred (.cells (uvs t.pred).toArray 65) * (pt B.succ (.cells (uvs t.succ).toArray 65) * (pt B.word (.cells (uvs t.word).toArray 65) * (ownS 3 1 B.re t.retired.length B.ren (t.retired.map iv) * ownF B.fo t.found.length B.fon t.found))))))
theorem thrS_iff {h : Heap} {T : Nat} {fo : Option (Nat × Nat)} {t : Thr} {id : Int} {R : Hp} : Sat h (thrS T fo t id * R) ↔ ∃ B, (ThB t ∧ TopAt B t fo) ∧ Sat h (pt T (.cells (thrC B t id).toArray 88) * (ownS 99 12 B.fr t.fr.length B.frn (t.fr.flatMap frc) * (pt B.pred (.cells (uvs t.pred).toArray 65) * (pt B.succ (.cells (uvs t.succ).toArray 65) * (pt B.word (.cells (uvs t.word).toArray 65) * (ownS 3 1 B.re t.retired.length B.ren (t.retired.map iv) * (ownF B.fo t.found.length B.fon t.found * R))))))) := by
  unfold thrS
  simp only [Sat.ex, Sat.pr, star_assoc]
theorem thrS_Nd {T : Nat} {fo : Option (Nat × Nat)} {t : Thr} {id : Int} : NdA (thrS T fo t id) :=
  NdA.ex fun _ => NdA.pr (NdA.pt.star (NdA.own.star (NdA.pt.star (NdA.pt.star (NdA.pt.star (NdA.own.star NdA.ownf))))))
theorem thrS_B {h : Heap} {T : Nat} {fo : Option (Nat × Nat)} {t : Thr} {id : Int} {R : Hp} (H : Sat h (thrS T fo t id * R)) : ThB t := by obtain ⟨_, x, _⟩ := thrS_iff.1 H; exact x.1
theorem TopAt.none (B : TB) (t : Thr) : TopAt B t Option.none := fun _ _ e => by cases e
theorem thrS_none {h : Heap} {T : Nat} {fo : Option (Nat × Nat)} {t : Thr} {id : Int} {R : Hp} (H : Sat h (thrS T fo t id * R)) : Sat h (thrS T none t id * R) := by
  obtain ⟨B, x, H0⟩ := thrS_iff.1 H
  exact thrS_iff.2 ⟨B, ⟨x.1, TopAt.none _ _⟩, H0⟩
theorem thrS_ne {h : Heap} {T b o : Nat} {t : Thr} {id : Int} {R : Hp} (H : Sat h (thrS T (some (b, o)) t id * R)) : t.fr ≠ [] := by
  obtain ⟨B, x, H0⟩ := thrS_iff.1 H
  exact (x.2 b o rfl).2.1
theorem top_mem {t : Thr} (hne : t.fr ≠ []) : t.top ∈ t.fr := by
  unfold Thr.top
  rw [List.getLast?_eq_some_getLast hne]
  exact List.getLast_mem hne
theorem fr_split {t : Thr} (hne : t.fr ≠ []) : t.fr = t.fr.dropLast ++ [t.top] := by
  unfold Thr.top
  rw [List.getLast?_eq_some_getLast hne]
  exact (List.dropLast_concat_getLast hne).symm
theorem thrS_cell {h : Heap} {T b o : Nat} {t : Thr} {id : Int} {R : Hp} (H : Sat h (thrS T (some (b, o)) t id * R)) {j : Nat} {v : Value} (e : (frc t.top)[j]? = some v) : cellAt h ⟨b, o + j, none⟩ = some v := by
  obtain ⟨B, x, H0⟩ := thrS_iff.1 H
  obtain ⟨e1, hne, e2⟩ := x.2 b o rfl
  have hj : j < 12 := (List.getElem?_eq_some_iff.1 e).1
  have hlen : 0 < t.fr.length := List.length_pos_iff.2 hne
  have ho := Sat.own (Sat.drop H0)
  have e3 : (t.fr.flatMap frc)[o + j]? = some v := by
    have hlt : t.fr.length - 1 < t.fr.length := by omega
    rw [e2, flat_get frc_len hlt hj]
    have : t.fr[t.fr.length - 1] = t.top := by
      unfold Thr.top
      rw [List.getLast?_eq_some_getLast hne, List.getLast_eq_getElem]
      rfl
    rw [this]; exact e
  obtain ⟨ad, ea, hc⟩ := ho.sees _ _ e3
  rw [e1] at ea
  cases ea
  rw [add_lit, Nat.zero_add] at hc
  exact hc
theorem frc_one (f : Frm) : ∀ y ∈ frc f, oneC y True := by
  intro y hy
  simp only [frc, List.mem_cons, List.not_mem_nil, or_false] at hy
  rcases hy with rfl | rfl | rfl | rfl | rfl | rfl | rfl | rfl | rfl | rfl | rfl | rfl <;> trivial
theorem thrS_st {h : Heap} {T b o : Nat} {t : Thr} {id : Int} {R : Hp} {K : Heap → Prop} {j : Nat} {v : Value} {f' : Frm} (H : Sat h (thrS T (some (b, o)) t id * R)) (hj : j < 12) (ho : oneC v True) (hf : frc f' = (frc t.top).set j v) (hB : FrB f')
    (k : ∀ h', Sat h' (thrS T (some (b, o)) (t.setTop f') id * R) → K h') : stH h ⟨b, o + j, none⟩ v K := by
  obtain ⟨B, x, H0⟩ := thrS_iff.1 H
  obtain ⟨e1, hne, e2⟩ := x.2 b o rfl
  have hlen : 0 < t.fr.length := List.length_pos_iff.2 hne
  rw [star_left] at H0
  obtain ⟨ow, hlt, re⟩ := H0.opn
  obtain ⟨w1, w2, w3⟩ := ow
  rcases w3 with ⟨w3, w4⟩ | ⟨b', row, w3, w4, w5, w6⟩
  · rw [e1] at w3; cases w3
  rw [e1] at w3
  cases w3
  have hrl : t.fr.length * 12 ≤ row.size := by rw [w5]; exact Nat.mul_le_mul_right _ w2
  refine stH_mk w4 (by omega) ho ?_
  rintro h' rfl
  have hbl := (Array.getElem?_eq_some_iff.1 w4).1
  have hfl : (t.fr.dropLast ++ [f']).length = t.fr.length := by simp; omega
  have e3 : (t.fr.dropLast ++ [f']).flatMap frc = (t.fr.flatMap frc).set (o + j) v := by
    conv => rhs; rw [fr_split hne]
    rw [List.flatMap_append, List.flatMap_append, List.flatMap_singleton, List.flatMap_singleton, hf]
    have hl : (t.fr.dropLast.flatMap frc).length = o := by rw [flat_len frc_len, List.length_dropLast, e2]
    rw [List.set_append_right _ _ (by omega), hl, Nat.add_sub_cancel_left]
  have e4 : ((t.fr.flatMap frc).set (o + j) v).length = t.fr.length * 12 := by rw [List.length_set, flat_len frc_len]
  have H2 := re (h.setIfInBounds b (.cells (row.setIfInBounds (o + j) v) 99)) (blk B.fr) (fun h => Own h 99 12 B.fr t.fr.length B.frn ((t.fr.flatMap frc).set (o + j) v))
    ⟨by simp, fun c hc hn => set_old fun e => hn ⟨_, e1, e.symm⟩⟩ (fun c hc => ⟨.inl hc, by simpa using hlt c hc⟩) (fun c ob hc e x hx => by
      obtain ⟨ad, ea, rfl⟩ := hc
      rw [e1] at ea; cases ea
      rw [set_new hbl] at e; cases e; cases hx) fun h'' hh => by
      refine ⟨e4, w2, .inr ⟨b, row.setIfInBounds (o + j) v, e1, (hh b ⟨_, e1, rfl⟩).trans (set_new hbl), by simpa using w5, ?_⟩⟩
      rw [Array.toList_setIfInBounds, ← w6, ← List.take_set]
  refine k _ (thrS_iff.2 ⟨B, ⟨?_, ?_⟩, ?_⟩)
  · obtain ⟨b1, b2, b3, b4, b5, b6, b7, b8⟩ := x.1
    refine ⟨fun f hf => ?_, b2, b3, b4, b5, b6, b7, by unfold Thr.setTop; rw [hfl]; exact b8⟩
    unfold Thr.setTop at hf
    rcases List.mem_append.1 hf with h1 | h1
    · exact b1 f ((List.dropLast_sublist _).subset h1)
    · rw [List.mem_singleton.1 h1]; exact hB
  · intro b2 o2 e
    cases e
    refine ⟨e1, by unfold Thr.setTop; simp, ?_⟩
    unfold Thr.setTop
    rw [hfl]; exact e2
  · rw [star_left]
    unfold Thr.setTop
    unfold thrC
    simp only [hfl, e3]
    exact H2
theorem frc_pc (f : Frm) (pc : Int) : frc (f.at pc) = (frc f).set 1 (.int .i64 pc) := rfl
theorem frc_s {f : Frm} (hl : f.r.length = 10) {i : Nat} (hi : i < 10) (v : Int) : frc (f.s i v) = (frc f).set (2 + i) (.int .u64 v) := by
  obtain ⟨fn, pc, r⟩ := f
  simp only at hl
  match r, hl with
  | [r0, r1, r2, r3, r4, r5, r6, r7, r8, r9], _ =>
    match i, hi with
    | 0, _ => rfl
    | 1, _ => rfl
    | 2, _ => rfl
    | 3, _ => rfl
    | 4, _ => rfl
    | 5, _ => rfl
    | 6, _ => rfl
    | 7, _ => rfl
    | 8, _ => rfl
    | 9, _ => rfl
theorem FrB.at {f : Frm} (B : FrB f) (pc : Int) : FrB (f.at pc) := ⟨B.len, B.us⟩
theorem FrB.s {f : Frm} (B : FrB f) (i : Nat) {v : Int} (hv : U v) : FrB (f.s i v) := ⟨by unfold Frm.s; rw [List.length_set]; exact B.len, mem_set_all B.us hv⟩
theorem FrB.g {f : Frm} (B : FrB f) (i : Nat) : U (f.g i) := getD_U B.us i
theorem thrS_own {h : Heap} {T : Nat} {fo : Option (Nat × Nat)} {t : Thr} {id : Int} {R : Hp} (H : Sat h (thrS T fo t id * R)) : ∃ B, h[T]? = some (.cells (thrC B t id).toArray 88) := by
  obtain ⟨B, x, H0⟩ := thrS_iff.1 H
  exact ⟨B, H0.at⟩
theorem U0 : U 0 := ⟨by omega, by omega⟩
theorem top_call {K : Value → Heap → Prop} {h : Heap} {T : Nat} {fo : Option (Nat × Nat)} {t : Thr} {id : Int} {R : Hp} (H : Sat h (thrS T fo t id * R)) (k0 : t.fr = [] → K (.pointer none) h)
    (k : ∀ b o, t.fr ≠ [] → (∀ b' o', fo = some (b', o') → b = b' ∧ o = o') → Sat h (thrS T (some (b, o)) t id * R) → K (.pointer (some ⟨b, o, none⟩)) h) :
    CallH Tryz.prog 42 #[mP T] h K := by
  refine call42 ?_
  unfold F42 lS nP
  obtain ⟨B, x, H0⟩ := thrS_iff.1 H
  have hl := x.1.len
  refine ⟨fun vs h' => vs = [.bool (decide (t.fr.length = 0))] ∧ h' = h, ?_, ?_⟩
  · simp only [Option.isNone_some, ifB_false, nilC, asPtr_some, add_lit]
    refine H0.ld rfl ?_
    simp only [asSlice_slice]
    refine ⟨?_, by trivial⟩
    congr 2
    rw [Bool.eq_iff_iff, beq_iff_eq, decide_eq_true_iff]; omega
  rintro v6 g7 h8 ⟨e, rfl⟩
  cases e
  simp only [asBool_bool]
  refine ifB_dec (fun hz => k0 (List.length_eq_zero_iff.1 hz)) (fun hz => ?_)
  simp only [nilC, asPtr_some, add_lit]
  refine H0.ld rfl ?_
  simp only [asSlice_slice]
  refine H0.ld rfl ?_
  simp only [asSlice_slice]
  rw [wrap64_id' (n := (t.fr.length : Int) - 1) (by omega) (by omega)]
  refine ⟨by omega, by omega, ?_⟩
  have hne : t.fr ≠ [] := fun e => hz (by rw [e]; rfl)
  have hpos : 0 < t.fr.length := by omega
  have ow := Sat.own (Sat.drop H0)
  rcases ow.2.2 with ⟨_, hc⟩ | ⟨b, row, e, _⟩
  · have := ow.2.1; omega
  · rw [e]
    simp only [asPtr_some]
    rw [show ((t.fr.length : Int) - 1).toNat = t.fr.length - 1 by omega, add_lit, Nat.zero_add]
    refine k _ _ hne (fun b' o' e' => ?_) (thrS_iff.2 ⟨B, ⟨x.1, fun b2 o2 e2 => ?_⟩, H0⟩)
    · obtain ⟨y1, y2, y3⟩ := x.2 b' o' e'
      rw [e] at y1
      cases y1
      exact ⟨rfl, y3.symm⟩
    · cases e2
      exact ⟨e, hne, rfl⟩
structure Args (R : Hp) (a : Option Addr) (l c : Nat) (rs : List Int) : Prop where
  len : rs.length = l
  cap : l ≤ c
  us : ∀ v ∈ rs, U v
  see : ∀ h P, Sat h (P * R) → Sees h a (uvs rs)
theorem Args.none {R : Hp} : Args R Option.none 0 0 [] := ⟨rfl, Nat.le_refl _, fun v hv => (by cases hv), fun h P _ => Sees.nil _ _⟩
theorem Args.mk' {R : Hp} {N l : Nat} {rs : List Int} {ty : TypeId} (hl : rs.length = l) (hu : ∀ v ∈ rs, U v) : Args (pt N (.cells (uvs rs).toArray ty) * R) (some ⟨N, 0, Option.none⟩) l l rs :=
  ⟨hl, Nat.le_refl _, hu, fun h P H i v hi => ⟨_, rfl, by rw [add_lit, Nat.zero_add, cellAt_of H.at2, List.getElem?_toArray]; exact hi⟩⟩
theorem Args.skip {R Q : Hp} {a : Option Addr} {l c : Nat} {rs : List Int} (A : Args R a l c rs) : Args (Q * R) a l c rs := ⟨A.len, A.cap, A.us, fun h P H => A.see h (P * Q) (by rw [star_assoc]; exact H)⟩
theorem und_u64s : und Tryz.prog 60 = .slice 65 := by kernel_rfl
theorem there_u64 : there Tryz.prog 65 = true := by kernel_rfl
theorem siz_u64 : siz Tryz.prog 65 = 1 := by kernel_rfl
theorem und_frs : und Tryz.prog 83 = .slice 99 := by kernel_rfl
theorem there_fr : there Tryz.prog 99 = true := by kernel_rfl
theorem zer_fr : zer Tryz.prog 99 = some (.agg #[.int .i64 0, .int .i64 0, .int .u64 0, .int .u64 0, .int .u64 0, .int .u64 0, .int .u64 0, .int .u64 0, .int .u64 0, .int .u64 0, .int .u64 0, .int .u64 0]) := by kernel_rfl
theorem siz_fr : siz Tryz.prog 99 = 12 := by kernel_rfl
theorem byt_fr : byt Tryz.prog 99 = 96 := by kernel_rfl
theorem uvs_one (l : List Int) : ∀ y ∈ uvs l, oneC y True := by
  intro y hy
  unfold uvs at hy
  obtain ⟨n, _, rfl⟩ := List.mem_map.1 hy
  trivial
theorem uvs_len (l : List Int) : (uvs l).length = l.length := by unfold uvs; rw [List.length_map]
theorem pad_len (n : Nat) (l : List Int) : (pad n l).length = n := by unfold pad; simp
theorem pad_eq {n : Nat} {l : List Int} (h : l.length ≤ n) : pad n l = l ++ List.replicate (n - l.length) 0 := by
  unfold pad
  rw [List.take_append, List.take_of_length_le h, List.take_replicate, Nat.min_eq_left (by omega)]
theorem pad_U {n : Nat} {l : List Int} (h : ∀ v ∈ l, U v) : ∀ v ∈ pad n l, U v := by
  intro v hv
  unfold pad at hv
  rcases List.mem_append.1 (List.mem_of_mem_take hv) with h1 | h1
  · exact h v h1
  · rw [(List.mem_replicate.1 h1).2]; exact U0
theorem frc_eq {fn pc : Int} {r : List Int} (hl : r.length = 10) : frc ⟨fn, pc, r⟩ = .int .i64 fn :: .int .i64 pc :: uvs r := by
  match r, hl with
  | [r0, r1, r2, r3, r4, r5, r6, r7, r8, r9], _ => rfl
def Stale (h : Heap) (fo : Option (Nat × Nat)) (f : Frm) : Prop := ∀ b o j v, fo = some (b, o) → (frc f)[j]? = some v → cellAt h ⟨b, o + j, none⟩ = some v
theorem st12 {h : Heap} {b : Nat} {v0 v1 v2 v3 v4 v5 v6 v7 v8 v9 v10 v11 : Value} {K : Heap → Prop} (H : stN h ⟨b, 0, none⟩ 0 [v0, v1, v2, v3, v4, v5, v6, v7, v8, v9, v10, v11] K) :
    stH h ⟨b, 0, none⟩ v0 fun h => stH h ⟨b, 1, none⟩ v1 fun h => stH h ⟨b, 2, none⟩ v2 fun h => stH h ⟨b, 3, none⟩ v3 fun h => stH h ⟨b, 4, none⟩ v4 fun h => stH h ⟨b, 5, none⟩ v5 fun h => stH h ⟨b, 6, none⟩ v6 fun h =>
    stH h ⟨b, 7, none⟩ v7 fun h => stH h ⟨b, 8, none⟩ v8 fun h => stH h ⟨b, 9, none⟩ v9 fun h => stH h ⟨b, 10, none⟩ v10 fun h => stH h ⟨b, 11, none⟩ v11 K := H
theorem push_call {K : Value → Heap → Prop} {h : Heap} {T : Nat} {fo : Option (Nat × Nat)} {t : Thr} {id : Int} {R : Hp} {fn : Int} {a : Option Addr} {l c : Nat} {rs : List Int} (H : Sat h (thrS T fo t id * R)) (A : Args R a l c rs) (hl : l ≤ 10) (hd : t.fr.length < 1073741824)
    (k : ∀ h' b o, (∀ b' o', fo = some (b', o') → ¬ (b = b' ∧ o = o')) → Stale h' fo t.top → Sat h' (thrS T (some (b, o)) (t.push fn rs) id * R) → K (.tuple #[]) h') :
    CallH Tryz.prog 38 #[mP T, .int .i64 fn, .slice a l c] h K := by
  refine call38 ?_
  unfold F38 nP
  have hlen := A.len
  obtain ⟨B, x, H0⟩ := thrS_iff.1 H
  simp only [Option.isNone_some, ifB_false, nilC, asPtr_some, add_lit]
  have H1 := H0.push (.cells #[.int .i64 0, .int .i64 0, .int .u64 0, .int .u64 0, .int .u64 0, .int .u64 0, .int .u64 0, .int .u64 0, .int .u64 0, .int .u64 0, .int .u64 0, .int .u64 0] 99)
  have HA := (H.push (.cells #[.int .i64 0, .int .i64 0, .int .u64 0, .int .u64 0, .int .u64 0, .int .u64 0, .int .u64 0, .int .u64 0, .int .u64 0, .int .u64 0, .int .u64 0, .int .u64 0] 99))
  generalize h.push (.cells #[.int .i64 0, .int .i64 0, .int .u64 0, .int .u64 0, .int .u64 0, .int .u64 0, .int .u64 0, .int .u64 0, .int .u64 0, .int .u64 0, .int .u64 0, .int .u64 0] 99) = h1 at *
  generalize h.size = N at *
  refine st12 (stN_full (vs := frc ⟨fn, 0, List.replicate 10 0⟩) H1.at rfl (frc_one _) fun h2 w => ?_)
  have H2 := H1.wr w.new w.old
  have HB := HA.wr w.new w.old
  have hsee := A.see h2 (pt N _ * thrS T fo t id) (by rw [star_assoc]; exact HB)
  have eS : some (subA1 ⟨N, 2, none⟩ 0 10 1) = some (⟨N, 2, none⟩ : Addr) := rfl
  rw [eS]
  refine H2.copy und_u64s there_u64 siz_u64 hsee (m := l) (by omega) (by rw [uvs_len, hlen]) (uvs_one _) (by rw [frc_len]; omega) fun h3 H3 => ?_
  have erow : (frc ⟨fn, 0, List.replicate 10 0⟩).take 2 ++ uvs rs ++ (frc ⟨fn, 0, List.replicate 10 0⟩).drop (2 + l) = frc ⟨fn, 0, pad 10 rs⟩ := by
    rw [frc_eq (by simp), frc_eq (pad_len _ _), pad_eq (by omega)]
    simp only [List.take_succ_cons, List.take_zero, List.cons_append, List.nil_append]
    rw [show 2 + l = l + 1 + 1 by omega, List.drop_succ_cons, List.drop_succ_cons]
    congr 2
    unfold uvs
    rw [List.map_append, List.map_replicate, List.map_replicate, List.drop_replicate, hlen]
  rw [erow] at H3
  simp only [asInt_int]
  have O := (star_left _ _ _ ▸ H3 : Sat h3 (pt T _ * _))
  refine O.ld rfl ?_
  simp only [asSlice_slice]
  have Q := H3.at
  have hr : ∀ i v, (frc ⟨fn, 0, pad 10 rs⟩)[i]? = some v → ∀ K : Value → Prop, K v → ldH h3 ⟨N, i, none⟩ K := fun i v e K k => ldR Q e k
  refine hr 0 _ rfl _ (hr 1 _ rfl _ (hr 2 _ rfl _ (hr 3 _ rfl _ (hr 4 _ rfl _ (hr 5 _ rfl _ (hr 6 _ rfl _ (hr 7 _ rfl _ (hr 8 _ rfl _ (hr 9 _ rfl _ (hr 10 _ rfl _ (hr 11 _ rfl _ ?_)))))))))))
  have H4 := H3.push (.cells (frc ⟨fn, 0, pad 10 rs⟩).toArray 99)
  have e4 : h3.push (.cells (frc ⟨fn, 0, pad 10 rs⟩).toArray 99) = h3.push (.cells #[.int .i64 fn, .int .i64 0, .int .u64 ((pad 10 rs).getD 0 0), .int .u64 ((pad 10 rs).getD 1 0), .int .u64 ((pad 10 rs).getD 2 0), .int .u64 ((pad 10 rs).getD 3 0), .int .u64 ((pad 10 rs).getD 4 0), .int .u64 ((pad 10 rs).getD 5 0), .int .u64 ((pad 10 rs).getD 6 0), .int .u64 ((pad 10 rs).getD 7 0), .int .u64 ((pad 10 rs).getD 8 0), .int .u64 ((pad 10 rs).getD 9 0)] 99) := rfl
  generalize h3.push (.cells (frc ⟨fn, 0, pad 10 rs⟩).toArray 99) = h4 at *
  show cellAt (h3.push (.cells #[.int .i64 fn, .int .i64 0, .int .u64 ((pad 10 rs).getD 0 0), .int .u64 ((pad 10 rs).getD 1 0), .int .u64 ((pad 10 rs).getD 2 0), .int .u64 ((pad 10 rs).getD 3 0), .int .u64 ((pad 10 rs).getD 4 0), .int .u64 ((pad 10 rs).getD 5 0), .int .u64 ((pad 10 rs).getD 6 0), .int .u64 ((pad 10 rs).getD 7 0), .int .u64 ((pad 10 rs).getD 8 0), .int .u64 ((pad 10 rs).getD 9 0)] 99)) _ = _ ∧ appH Tryz.prog _ _ _ (h3.push (.cells #[.int .i64 fn, .int .i64 0, .int .u64 ((pad 10 rs).getD 0 0), .int .u64 ((pad 10 rs).getD 1 0), .int .u64 ((pad 10 rs).getD 2 0), .int .u64 ((pad 10 rs).getD 3 0), .int .u64 ((pad 10 rs).getD 4 0), .int .u64 ((pad 10 rs).getD 5 0), .int .u64 ((pad 10 rs).getD 6 0), .int .u64 ((pad 10 rs).getD 7 0), .int .u64 ((pad 10 rs).getD 8 0), .int .u64 ((pad 10 rs).getD 9 0)] 99)) _
  rw [← e4]
  generalize h3.size = N4 at *
  have hs4 : Sees h4 (some ⟨N4, 0, none⟩) (frc ⟨fn, 0, pad 10 rs⟩) := fun i v hi => ⟨_, rfl, by rw [add_lit, Nat.zero_add, cellAt_of H4.at, List.getElem?_toArray]; exact hi⟩
  rw [rot3] at H4
  refine ⟨cellR H4.at rfl, ?_⟩
  rw [rot4] at H4
  have hB : ThB (t.push fn rs) := by
    obtain ⟨b1, b2, b3, b4, b5, b6, b7, b8⟩ := x.1
    refine ⟨fun f hf => ?_, b2, b3, b4, b5, b6, b7, by unfold Thr.push; simp; omega⟩
    unfold Thr.push at hf
    rcases List.mem_append.1 hf with h1 | h1
    · exact b1 f h1
    · rw [List.mem_singleton.1 h1]; exact ⟨pad_len _ _, pad_U A.us⟩
  have hfl : (t.push fn rs).fr.length = t.fr.length + 1 := by unfold Thr.push; simp
  have hff : (t.push fn rs).fr.flatMap frc = t.fr.flatMap frc ++ frc ⟨fn, 0, pad 10 rs⟩ := by unfold Thr.push; simp
  have fin : ∀ (h5 : Heap) (b : Nat) (c' : Nat) (X : Hp), (∀ b' o', fo = some (b', o') → ¬ (b = b' ∧ t.fr.length * 12 = o')) → (∀ h P, Sat h (ownS 99 12 (some ⟨b, 0, none⟩) (t.fr.length + 1) c' (t.fr.flatMap frc ++ frc ⟨fn, 0, pad 10 rs⟩) * (X * P)) → Stale h fo t.top) → Sat h5 (pt T (.cells (thrC B t id).toArray 88) * (ownS 99 12 (some ⟨b, 0, none⟩) (t.fr.length + 1) c' (t.fr.flatMap frc ++ frc ⟨fn, 0, pad 10 rs⟩) * (X * (pt B.pred (.cells (uvs t.pred).toArray 65) * (pt B.succ (.cells (uvs t.succ).toArray 65) * (pt B.word (.cells (uvs t.word).toArray 65) * (ownS 3 1 B.re t.retired.length B.ren (t.retired.map iv) * (ownF B.fo t.found.length B.fon t.found * R)))))))) →
      stH h5 ⟨T, 0 + 1, none⟩ (.slice (some ⟨b, 0, none⟩) (t.fr.length + 1) c') (fun h38 => K (.tuple #[]) h38) := by
    intro h5 b c' X hne hst H5
    refine H5.st rfl trivial fun h6 H6 => ?_
    refine k h6 b (t.fr.length * 12) (fun b' o' e => hne b' o' e) (hst h6 _ H6.drop) (thrS_iff.2 ⟨{ B with fr := some ⟨b, 0, none⟩, frn := c' }, ⟨hB, fun b2 o2 e2 => ?_⟩, ?_⟩)
    · cases e2
      exact ⟨rfl, by unfold Thr.push; simp, by rw [hfl]; simp⟩
    · rw [hfl, hff]
      have eC : thrC { B with fr := some ⟨b, 0, none⟩, frn := c' } (t.push fn rs) id = (thrC B t id).set (0 + 1) (.slice (some ⟨b, 0, none⟩) (t.fr.length + 1) c') := by
        unfold thrC
        rw [hfl]
        rfl
      rw [eC]
      rw [star_left _ X] at H6
      exact Sat.drop2 (Sat.ac H6 (by ac_rfl))
  have stale : ∀ h5 a l5 c5 ys, Own h5 99 12 a l5 c5 (t.fr.flatMap frc ++ ys) → (∀ b' o', fo = some (b', o') → a = some ⟨b', 0, none⟩ ∧ t.fr ≠ [] ∧ o' = (t.fr.length - 1) * 12) → Stale h5 fo t.top := by
    intro h5 a l5 c5 ys ow hfo b' o' j v e ev
    obtain ⟨e1, hne, e2⟩ := hfo b' o' e
    have hj : j < 12 := (List.getElem?_eq_some_iff.1 ev).1
    have hlen : 0 < t.fr.length := List.length_pos_iff.2 hne
    have hlt : t.fr.length - 1 < t.fr.length := by omega
    have e3 : (t.fr.flatMap frc)[o' + j]? = some v := by
      rw [e2, flat_get frc_len hlt hj]
      have : t.fr[t.fr.length - 1] = t.top := by
        unfold Thr.top
        rw [List.getLast?_eq_some_getLast hne, List.getLast_eq_getElem]
        rfl
      rw [this]; exact ev
    obtain ⟨ad, ea, hc⟩ := ow.sees (o' + j) v (by rw [List.getElem?_append_left (List.getElem?_eq_some_iff.1 e3).1]; exact e3)
    rw [e1] at ea
    cases ea
    rw [add_lit, Nat.zero_add] at hc
    exact hc
  have Blen := x.1.len
  rw [← siz_fr] at H4
  refine H4.app2 und_frs there_fr zer_fr (by rw [siz_fr]; rfl) hs4 (n := 1) (by rw [siz_fr]; rfl) (frc_one _) (by rw [byt_fr]; omega) (by rw [byt_fr]; omega) (fun c' h5 H5 => ?_) (fun b c' h5 hnb H5 => ?_)
  · rw [siz_fr] at H5
    simp only [asSlice_slice]
    have ow := H5.own
    obtain ⟨b, eb⟩ : ∃ b, B.fr = some ⟨b, 0, none⟩ := by
      rcases ow.2.2 with ⟨_, hc⟩ | ⟨b, row, e, _⟩
      · have := ow.2.1; omega
      · exact ⟨b, e⟩
    rw [eb] at H5 ⊢
    refine fin h5 b c' (pt N4 (.cells (frc ⟨fn, 0, pad 10 rs⟩).toArray 99) * pt N (.cells (frc ⟨fn, 0, pad 10 rs⟩).toArray 99)) (fun b' o' e ⟨y1, y2⟩ => ?_) (fun h P HH => stale h _ _ _ _ HH.own fun b' o' e => ?_) (Sat.ac H5 ?_)
    · obtain ⟨z1, z2, z3⟩ := x.2 b' o' e
      have hlen : 0 < t.fr.length := List.length_pos_iff.2 z2
      omega
    · obtain ⟨z1, z2, z3⟩ := x.2 b' o' e
      exact ⟨eb.symm.trans z1, z2, z3⟩
    · ac_rfl
  · rw [siz_fr] at H5
    simp only [asSlice_slice]
    refine fin h5 b c' (ownS 99 12 B.fr t.fr.length B.frn (t.fr.flatMap frc) * (pt N4 (.cells (frc ⟨fn, 0, pad 10 rs⟩).toArray 99) * pt N (.cells (frc ⟨fn, 0, pad 10 rs⟩).toArray 99))) (fun b' o' e ⟨y1, y2⟩ => ?_) (fun h P HH => stale h _ _ _ [] (by rw [star_assoc] at HH; rw [List.append_nil]; exact HH.drop.own) fun b' o' e => x.2 b' o' e) (Sat.ac H5 ?_)
    · obtain ⟨z1, z2, z3⟩ := x.2 b' o' e
      exact hnb ⟨_, z1, by simp [y1]⟩
    · ac_rfl
theorem Thr.pop_fr (t : Thr) (r : List Int) (hne : t.fr ≠ []) : t.pop r = { t with fr := t.fr.dropLast, ret := pad 3 r } := by unfold Thr.pop; rw [if_neg hne]
theorem pop_call {K : Value → Heap → Prop} {h : Heap} {T : Nat} {fo : Option (Nat × Nat)} {t : Thr} {id : Int} {R : Hp} {a : Option Addr} {l c : Nat} {rs : List Int} (H : Sat h (thrS T fo t id * R)) (A : Args R a l c rs) (hl : l ≤ 3)
    (k : ∀ h', Sat h' (thrS T none (t.pop rs) id * R) → K (.tuple #[]) h') :
    CallH Tryz.prog 44 #[mP T, .slice a l c] h K := by
  refine call44 ?_
  unfold F44 lS nP
  have hlen := A.len
  obtain ⟨B, x, H0⟩ := thrS_iff.1 H
  have Blen := x.1.len
  refine ⟨fun vs h' => vs = [.bool (decide (t.fr.length = 0))] ∧ h' = h, ?_, ?_⟩
  · simp only [Option.isNone_some, ifB_false, nilC, asPtr_some, add_lit]
    refine H0.ld rfl ?_
    simp only [asSlice_slice]
    refine ⟨?_, by trivial⟩
    congr 2
    rw [Bool.eq_iff_iff, beq_iff_eq, decide_eq_true_iff]; omega
  rintro v6 g7 h8 ⟨e, rfl⟩
  cases e
  simp only [asBool_bool]
  refine ifB_dec (fun hz => ?_) (fun hz => ?_)
  · have e : t.pop rs = t := by unfold Thr.pop; rw [if_pos (List.length_eq_zero_iff.1 hz)]
    rw [e] at k
    exact k h8 (thrS_none H)
  have hne : t.fr ≠ [] := fun e => hz (by rw [e]; rfl)
  rw [Thr.pop_fr _ _ hne] at k
  simp only [nilC, asPtr_some, add_lit]
  refine H0.ld rfl ?_
  simp only [asSlice_slice]
  refine H0.ld rfl ?_
  simp only [asSlice_slice]
  rw [wrap64_id' (n := (t.fr.length : Int) - 1) (by omega) (by omega)]
  have ow := H0.drop.own
  have hfl := ow.2.1
  refine ⟨by omega, by omega, ?_⟩
  have e1 : subA B.fr 0 B.frn 12 = B.fr := subA_zero _ _ _
  have e2 : ((t.fr.length : Int) - 1).toNat - 0 = t.fr.length - 1 := by omega
  rw [e1, e2, Nat.sub_zero]
  refine H0.st rfl trivial fun h1 H1 => H1.st rfl trivial fun h2 H2 => H2.st rfl trivial fun h3 H3 => H3.st rfl trivial fun h4 H4 => ?_
  have hsee : Sees h4 a (uvs rs) := A.see h4 (pt T _ * (ownS 99 12 B.fr t.fr.length B.frn (t.fr.flatMap frc) * (pt B.pred (.cells (uvs t.pred).toArray 65) * (pt B.succ (.cells (uvs t.succ).toArray 65) * (pt B.word (.cells (uvs t.word).toArray 65) * (ownS 3 1 B.re t.retired.length B.ren (t.retired.map iv) * ownF B.fo t.found.length B.fon t.found)))))) (by simp only [star_assoc]; exact H4)
  have eS : some (subA1 ⟨T, 2, none⟩ 0 3 1) = some (⟨T, 2, none⟩ : Addr) := rfl
  show copyH Tryz.prog _ _ #[.slice (some (subA1 ⟨T, 2, none⟩ 0 3 1)) 3 3, _] _ _
  rw [eS]
  refine H4.copy und_u64s there_u64 siz_u64 hsee (m := l) (by omega) (by rw [uvs_len, hlen]) (uvs_one _) (by simp; omega) fun h5 H5 => ?_
  simp only [asInt_int]
  have hB : ThB { t with fr := t.fr.dropLast, ret := pad 3 rs } := by
    obtain ⟨b1, b2, b3, b4, b5, b6, b7, b8⟩ := x.1
    exact ⟨fun f hf => b1 f ((List.dropLast_sublist _).subset hf), ⟨pad_len _ _, pad_U A.us⟩, b3, b4, b5, b6, b7, by simp; omega⟩
  refine k h5 (thrS_iff.2 ⟨B, ⟨hB, TopAt.none _ _⟩, ?_⟩)
  rw [star_left] at H5 ⊢
  obtain ⟨ow5, hlt5, re5⟩ := H5.opn
  have hdl : t.fr.dropLast.length = t.fr.length - 1 := List.length_dropLast
  have efl : t.fr.dropLast.flatMap frc = (t.fr.flatMap frc).take ((t.fr.length - 1) * 12) := by
    rw [flat_take frc_len, List.dropLast_eq_take]
  have H6 := re5 h5 (blk B.fr) (fun h => Own h 99 12 B.fr (t.fr.length - 1) B.frn ((t.fr.flatMap frc).take ((t.fr.length - 1) * 12))) (Fr.refl _ _) (fun b hb => ⟨.inl hb, hlt5 b hb⟩) ow5.nd fun h'' e => (ow5.congr e).take (by omega)
  simp only [hdl, efl]
  have eC : (((((thrC B t id).set (0 + 1) (.slice B.fr (t.fr.length - 1) B.frn)).set (0 + 2) (.int .u64 0)).set (0 + 3) (.int .u64 0)).set (0 + 4) (.int .u64 0)).take 2 ++ uvs rs ++ (((((thrC B t id).set (0 + 1) (.slice B.fr (t.fr.length - 1) B.frn)).set (0 + 2) (.int .u64 0)).set (0 + 3) (.int .u64 0)).set (0 + 4) (.int .u64 0)).drop (2 + l) = thrC B { t with fr := t.fr.dropLast, ret := pad 3 rs } id := by
    unfold thrC
    simp only [hdl]
    match rs, hlen with
    | [], e => subst e; rfl
    | [r0], e => subst e; rfl
    | [r0, r1], e => subst e; rfl
    | [r0, r1, r2], e => subst e; rfl
    | _ :: _ :: _ :: _ :: _, e => simp at e; omega
  rw [eC] at H6
  exact H6
end
section
open Mod
abbrev fP (b o : Nat) : Value := .pointer (some ⟨b, o, none⟩)
def RunS (M T : Nat) (tv : Value) (fo : Option (Nat × Nat)) (x : Run) (R : Hp) : Hp := macS M tv x.m * (thrS T fo x.t x.id * R)
theorem cell_push {h : Heap} {a : Addr} {v : Value} {o : Obj} (e : cellAt h a = some v) : cellAt (h.push o) a = some v := (cellAt_congr (push_old _ _ _ (cellAt_lt e))).trans e
section
variable {K : Value → Heap → Prop} {h : Heap} {M T b o N : Nat} {tv : Value} {fo : Option (Nat × Nat)} {x : Run} {R : Hp}
theorem RunS.thr (H : Sat h (RunS M T tv fo x R)) : Sat h (thrS T fo x.t x.id * (macS M tv x.m * R)) := star_left _ _ _ ▸ (show Sat h (macS M tv x.m * (thrS T fo x.t x.id * R)) from H)
theorem RunS.ofThr {t : Thr} {m : Mac} {id : Int} (H : Sat h (thrS T fo t id * (macS M tv m * R))) : Sat h (RunS M T tv fo ⟨m, t, id⟩ R) := by
  rw [star_left] at H; exact H
theorem RunS.none (H : Sat h (RunS M T tv fo x R)) : Sat h (RunS M T tv none x R) := RunS.ofThr (thrS_none (RunS.thr H))
theorem RunS.B (H : Sat h (RunS M T tv fo x R)) : ThB x.t := thrS_B (RunS.thr H)
theorem RunS.pl (H : Sat h (RunS M T tv fo x R)) : PlB x.m.p := macS_pl H
theorem RunS.fB (H : Sat h (RunS M T tv (some (b, o)) x R)) : FrB x.f := (RunS.B H).fr _ (top_mem (thrS_ne (RunS.thr H)))
theorem RunS.old {h' : Heap} (H : Sat h (RunS M T tv fo x R)) (ol : Old h.size h h') : Sat h' (RunS M T tv fo x R) := Sat.old H ol
theorem RunS.new (H : Sat h (RunS M T tv fo x R)) (ob : Obj) (ho : Nd ob := by intro x e; cases e) : Sat (h.push ob) (RunS M T tv fo x (pt h.size ob * R)) :=
  Sat.ac (Sat.push H ob ho) (by unfold RunS; ac_rfl)
theorem RunS.loc {ob : Obj} (H : Sat h (RunS M T tv fo x (pt N ob * R))) : h[N]? = some ob := Sat.at3 H
theorem RunS.loc2 {ob : Obj} {Q : Hp} (H : Sat h (RunS M T tv fo x (Q * (pt N ob * R)))) : h[N]? = some ob := Sat.at (Sat.drop (Sat.drop (Sat.drop H)))
theorem RunS.drp {Q : Hp} (H : Sat h (RunS M T tv fo x (Q * R))) : Sat h (RunS M T tv fo x R) := Sat.drop2 (Sat.ac H (by unfold RunS; ac_rfl) : Sat h (macS M tv x.m * (Q * (thrS T fo x.t x.id * R))))
theorem RunS.rd (H : Sat h (RunS M T tv (some (b, o)) x R)) {j : Nat} {v : Value} (e : (frc x.f)[j]? = some v) : cellAt h ⟨b, o + j, Option.none⟩ = some v := thrS_cell (RunS.thr H) e
theorem RunS.fn (H : Sat h (RunS M T tv (some (b, o)) x R)) {F : Value → Prop} : ldH h ⟨b, o, Option.none⟩ F = F (.int .i64 x.f.fn) := by have e := RunS.rd (j := 0) H rfl; rw [Nat.add_zero] at e; unfold ldH; rw [e]
theorem RunS.pc (H : Sat h (RunS M T tv (some (b, o)) x R)) {F : Value → Prop} : ldH h ⟨b, o + 1, Option.none⟩ F = F (.int .i64 x.f.pc) := by unfold ldH; rw [RunS.rd (j := 1) H rfl]
theorem RunS.rgc (H : Sat h (RunS M T tv (some (b, o)) x R)) {i : Nat} (hi : Nat.ble (i + 1) 10 = true) : cellAt h ⟨b, o + (i + 2), Option.none⟩ = some (.int .u64 (x.f.g i)) := by
  have hi : i < 10 := by rw [Nat.ble_eq] at hi; omega
  refine RunS.rd H ?_
  match i, hi with
  | 0, _ => rfl
  | 1, _ => rfl
  | 2, _ => rfl
  | 3, _ => rfl
  | 4, _ => rfl
  | 5, _ => rfl
  | 6, _ => rfl
  | 7, _ => rfl
  | 8, _ => rfl
  | 9, _ => rfl
theorem RunS.rg (H : Sat h (RunS M T tv (some (b, o)) x R)) {i : Nat} {F : Value → Prop} (hi : Nat.ble (i + 1) 10 = true) : ldH h ⟨b, o + (i + 2), Option.none⟩ F = F (.int .u64 (x.f.g i)) := by unfold ldH; rw [RunS.rgc H hi]
theorem RunS.r (H : Sat h (RunS M T tv (some (b, o)) x R)) : (∀ F : Value → Prop, ldH h ⟨b, o, Option.none⟩ F = F (.int .i64 x.f.fn)) ∧ (∀ F : Value → Prop, ldH h ⟨b, o + 1, Option.none⟩ F = F (.int .i64 x.f.pc)) ∧ (∀ F : Value → Prop, ldH h ⟨b, o + 2, Option.none⟩ F = F (.int .u64 (x.f.g 0))) ∧ (∀ F : Value → Prop, ldH h ⟨b, o + 3, Option.none⟩ F = F (.int .u64 (x.f.g 1))) ∧ (∀ F : Value → Prop, ldH h ⟨b, o + 4, Option.none⟩ F = F (.int .u64 (x.f.g 2))) ∧ (∀ F : Value → Prop, ldH h ⟨b, o + 5, Option.none⟩ F = F (.int .u64 (x.f.g 3))) ∧ (∀ F : Value → Prop, ldH h ⟨b, o + 6, Option.none⟩ F = F (.int .u64 (x.f.g 4))) ∧ (∀ F : Value → Prop, ldH h ⟨b, o + 7, Option.none⟩ F = F (.int .u64 (x.f.g 5))) ∧ (∀ F : Value → Prop, ldH h ⟨b, o + 8, Option.none⟩ F = F (.int .u64 (x.f.g 6))) ∧ (∀ F : Value → Prop, ldH h ⟨b, o + 9, Option.none⟩ F = F (.int .u64 (x.f.g 7))) ∧ (∀ F : Value → Prop, ldH h ⟨b, o + 10, Option.none⟩ F = F (.int .u64 (x.f.g 8))) ∧ (∀ F : Value → Prop, ldH h ⟨b, o + 11, Option.none⟩ F = F (.int .u64 (x.f.g 9))) :=
  ⟨fun F => RunS.fn H, fun F => RunS.pc H, fun F => RunS.rg (i := 0) H rfl, fun F => RunS.rg (i := 1) H rfl, fun F => RunS.rg (i := 2) H rfl, fun F => RunS.rg (i := 3) H rfl, fun F => RunS.rg (i := 4) H rfl, fun F => RunS.rg (i := 5) H rfl, fun F => RunS.rg (i := 6) H rfl, fun F => RunS.rg (i := 7) H rfl, fun F => RunS.rg (i := 8) H rfl, fun F => RunS.rg (i := 9) H rfl⟩
theorem RunS.c (H : Sat h (RunS M T tv (some (b, o)) x R)) : cellAt h ⟨b, o + 1, Option.none⟩ = some (.int .i64 x.f.pc) ∧ cellAt h ⟨b, o + 2, Option.none⟩ = some (.int .u64 (x.f.g 0)) ∧ cellAt h ⟨b, o + 3, Option.none⟩ = some (.int .u64 (x.f.g 1)) ∧ cellAt h ⟨b, o + 4, Option.none⟩ = some (.int .u64 (x.f.g 2)) ∧ cellAt h ⟨b, o + 5, Option.none⟩ = some (.int .u64 (x.f.g 3)) ∧ cellAt h ⟨b, o + 6, Option.none⟩ = some (.int .u64 (x.f.g 4)) ∧ cellAt h ⟨b, o + 7, Option.none⟩ = some (.int .u64 (x.f.g 5)) ∧ cellAt h ⟨b, o + 8, Option.none⟩ = some (.int .u64 (x.f.g 6)) ∧ cellAt h ⟨b, o + 9, Option.none⟩ = some (.int .u64 (x.f.g 7)) ∧ cellAt h ⟨b, o + 10, Option.none⟩ = some (.int .u64 (x.f.g 8)) ∧ cellAt h ⟨b, o + 11, Option.none⟩ = some (.int .u64 (x.f.g 9)) :=
  ⟨RunS.rd (j := 1) H rfl, RunS.rgc (i := 0) H rfl, RunS.rgc (i := 1) H rfl, RunS.rgc (i := 2) H rfl, RunS.rgc (i := 3) H rfl, RunS.rgc (i := 4) H rfl, RunS.rgc (i := 5) H rfl, RunS.rgc (i := 6) H rfl, RunS.rgc (i := 7) H rfl, RunS.rgc (i := 8) H rfl, RunS.rgc (i := 9) H rfl⟩
theorem RunS.cp (H : Sat h (RunS M T tv (some (b, o)) x R)) : (∀ ob, cellAt (h.push ob) ⟨b, o + 1, Option.none⟩ = some (.int .i64 x.f.pc)) ∧ (∀ ob, cellAt (h.push ob) ⟨b, o + 2, Option.none⟩ = some (.int .u64 (x.f.g 0))) ∧ (∀ ob, cellAt (h.push ob) ⟨b, o + 3, Option.none⟩ = some (.int .u64 (x.f.g 1))) ∧ (∀ ob, cellAt (h.push ob) ⟨b, o + 4, Option.none⟩ = some (.int .u64 (x.f.g 2))) ∧ (∀ ob, cellAt (h.push ob) ⟨b, o + 5, Option.none⟩ = some (.int .u64 (x.f.g 3))) ∧ (∀ ob, cellAt (h.push ob) ⟨b, o + 6, Option.none⟩ = some (.int .u64 (x.f.g 4))) ∧ (∀ ob, cellAt (h.push ob) ⟨b, o + 7, Option.none⟩ = some (.int .u64 (x.f.g 5))) ∧ (∀ ob, cellAt (h.push ob) ⟨b, o + 8, Option.none⟩ = some (.int .u64 (x.f.g 6))) ∧ (∀ ob, cellAt (h.push ob) ⟨b, o + 9, Option.none⟩ = some (.int .u64 (x.f.g 7))) ∧ (∀ ob, cellAt (h.push ob) ⟨b, o + 10, Option.none⟩ = some (.int .u64 (x.f.g 8))) ∧ (∀ ob, cellAt (h.push ob) ⟨b, o + 11, Option.none⟩ = some (.int .u64 (x.f.g 9))) :=
  ⟨fun _ => cell_push (RunS.rd (j := 1) H rfl), fun _ => cell_push (RunS.rgc (i := 0) H rfl), fun _ => cell_push (RunS.rgc (i := 1) H rfl), fun _ => cell_push (RunS.rgc (i := 2) H rfl), fun _ => cell_push (RunS.rgc (i := 3) H rfl), fun _ => cell_push (RunS.rgc (i := 4) H rfl), fun _ => cell_push (RunS.rgc (i := 5) H rfl), fun _ => cell_push (RunS.rgc (i := 6) H rfl), fun _ => cell_push (RunS.rgc (i := 7) H rfl), fun _ => cell_push (RunS.rgc (i := 8) H rfl), fun _ => cell_push (RunS.rgc (i := 9) H rfl)⟩
theorem RunS.stR (H : Sat h (RunS M T tv (some (b, o)) x R)) {i : Nat} {v : Int} {F : Heap → Prop} (hi : Nat.ble (i + 1) 10 = true) (hv : U v) (k : ∀ h', Sat h' (RunS M T tv (some (b, o)) (x.s i v) R) → F h') : stH h ⟨b, o + (i + 2), Option.none⟩ (.int .u64 v) F := by
  have hi : i < 10 := by rw [Nat.ble_eq] at hi; omega
  have B := RunS.fB H
  exact thrS_st (RunS.thr H) (by omega) trivial (by rw [Nat.add_comm]; exact frc_s B.len hi v) (B.s i hv) fun h' H' => k h' (RunS.ofThr H')
theorem RunS.stP (H : Sat h (RunS M T tv (some (b, o)) x R)) {pc : Int} {F : Heap → Prop} (k : ∀ h', Sat h' (RunS M T tv (some (b, o)) (x.pc pc) R) → F h') : stH h ⟨b, o + 1, Option.none⟩ (.int .i64 pc) F :=
  thrS_st (RunS.thr H) (by omega) trivial (frc_pc _ _) ((RunS.fB H).at pc) fun h' H' => k h' (RunS.ofThr H')
theorem RunS.l {ty : TypeId} {v0 v1 v2 : Value} (H : Sat h (RunS M T tv fo x (pt N (.cells #[v0, v1, v2] ty) * R))) : (∀ F : Value → Prop, ldH h ⟨N, 0, Option.none⟩ F = F v0) ∧ (∀ F : Value → Prop, ldH h ⟨N, 1, Option.none⟩ F = F v1) ∧ (∀ F : Value → Prop, ldH h ⟨N, 2, Option.none⟩ F = F v2) ∧ cellAt h ⟨N, 0, Option.none⟩ = some v0 ∧ cellAt h ⟨N, 1, Option.none⟩ = some v1 ∧ cellAt h ⟨N, 2, Option.none⟩ = some v2 ∧ (∀ ob, cellAt (h.push ob) ⟨N, 0, Option.none⟩ = some v0) ∧ (∀ ob, cellAt (h.push ob) ⟨N, 1, Option.none⟩ = some v1) ∧ (∀ ob, cellAt (h.push ob) ⟨N, 2, Option.none⟩ = some v2) := by
  have e := RunS.loc H
  have c0 : cellAt h ⟨N, 0, Option.none⟩ = some v0 := cellAt_of e 0
  have c1 : cellAt h ⟨N, 1, Option.none⟩ = some v1 := cellAt_of e 1
  have c2 : cellAt h ⟨N, 2, Option.none⟩ = some v2 := cellAt_of e 2
  refine ⟨fun F => ?_, fun F => ?_, fun F => ?_, c0, c1, c2, fun _ => cell_push c0, fun _ => cell_push c1, fun _ => cell_push c2⟩
  · unfold ldH; rw [c0]
  · unfold ldH; rw [c1]
  · unfold ldH; rw [c2]
theorem RunS.l2 {Q : Hp} {ty : TypeId} {v0 v1 v2 : Value} (H : Sat h (RunS M T tv fo x (Q * (pt N (.cells #[v0, v1, v2] ty) * R)))) : (∀ F : Value → Prop, ldH h ⟨N, 0, Option.none⟩ F = F v0) ∧ (∀ F : Value → Prop, ldH h ⟨N, 1, Option.none⟩ F = F v1) ∧ (∀ F : Value → Prop, ldH h ⟨N, 2, Option.none⟩ F = F v2) ∧ cellAt h ⟨N, 0, Option.none⟩ = some v0 ∧ cellAt h ⟨N, 1, Option.none⟩ = some v1 ∧ cellAt h ⟨N, 2, Option.none⟩ = some v2 ∧ (∀ ob, cellAt (h.push ob) ⟨N, 0, Option.none⟩ = some v0) ∧ (∀ ob, cellAt (h.push ob) ⟨N, 1, Option.none⟩ = some v1) ∧ (∀ ob, cellAt (h.push ob) ⟨N, 2, Option.none⟩ = some v2) := by
  have e := RunS.loc2 H
  have c0 : cellAt h ⟨N, 0, Option.none⟩ = some v0 := cellAt_of e 0
  have c1 : cellAt h ⟨N, 1, Option.none⟩ = some v1 := cellAt_of e 1
  have c2 : cellAt h ⟨N, 2, Option.none⟩ = some v2 := cellAt_of e 2
  refine ⟨fun F => ?_, fun F => ?_, fun F => ?_, c0, c1, c2, fun _ => cell_push c0, fun _ => cell_push c1, fun _ => cell_push c2⟩
  · unfold ldH; rw [c0]
  · unfold ldH; rw [c1]
  · unfold ldH; rw [c2]
theorem rLoad (H : Sat h (RunS M T tv fo x R)) {a : Int} (ha : iN a) (hs : x.m.mm.st < 1099511627776) (k : ∀ h', Sat h' (RunS M T tv fo (x.load a).2 R) → U (x.load a).1 → K (.int .u64 (x.load a).1) h') :
    CallH Tryz.prog 85 #[mP M, .int .i64 a] h K := cLoad_call H ha hs k
theorem rStore (H : Sat h (RunS M T tv fo x R)) {a v : Int} (ha : iN a) (hv : U v) (hs : x.m.mm.st < 1099511627776) (k : ∀ h', Sat h' (RunS M T tv fo (x.store a v) R) → K (.tuple #[]) h') :
    CallH Tryz.prog 129 #[mP M, .int .i64 a, .int .u64 v] h K := cStore_call H ha hv hs k
theorem rCas (H : Sat h (RunS M T tv fo x R)) {a p n : Int} (ha : iN a) (hn : U n) (hs : x.m.mm.st < 1099511627776) (k : ∀ h', Sat h' (RunS M T tv fo (x.cas a p n).2 R) → K (.bool (x.cas a p n).1) h') :
    CallH Tryz.prog 152 #[mP M, .int .i64 a, .int .u64 p, .int .u64 n] h K := cCas_call H ha hn hs k
theorem rAdd (H : Sat h (RunS M T tv fo x R)) {a d : Int} (ha : iN a) (hs : x.m.mm.st < 1099511627776) (k : ∀ h', Sat h' (RunS M T tv fo (x.add a d).2 R) → U (x.add a d).1 → K (.int .u64 (x.add a d).1) h') :
    CallH Tryz.prog 116 #[mP M, .int .i64 a, .int .u64 d] h K := cAdd_call H ha hs k
theorem rPlan (H : Sat h (RunS M T tv fo x R)) (k : ∀ h', Sat h' (RunS M T tv fo x R) → K (plV x.m.p) h') :
    CallH Tryz.prog 117 #[mP M] h K := mcPlan_call H k
theorem rPlanO (H : Sat h (RunS M T tv fo x R)) (k : ∀ h', Old h.size h h' → K (plV x.m.p) h') :
    CallH Tryz.prog 117 #[mP M] h K := mcPlanO_call H k
theorem rTook (H : Sat h (RunS M T tv fo x R)) {i : Int} (hi : iN i) (k : ∀ h', Sat h' (RunS M T tv fo (x.gh fun g => g.turn i 0 1 1) R) → K (.tuple #[]) h') :
    CallH Tryz.prog 220 #[mP M, .int .i64 i] h K := took_call H hi k
theorem rGone (H : Sat h (RunS M T tv fo x R)) {i : Int} (hi : iN i) (k : ∀ h', Sat h' (RunS M T tv fo (x.gh fun g => g.turn i 1 2 2) R) → K (.tuple #[]) h') :
    CallH Tryz.prog 176 #[mP M, .int .i64 i] h K := gone_call H hi k
theorem rFreed (H : Sat h (RunS M T tv fo x R)) {i : Int} (hi : iN i) (k : ∀ h', Sat h' (RunS M T tv fo (x.gh fun g => g.turn i 2 0 3) R) → K (.tuple #[]) h') :
    CallH Tryz.prog 221 #[mP M, .int .i64 i] h K := freed_call H hi k
theorem rTop (H : Sat h (RunS M T tv fo x R)) (k0 : x.t.fr = [] → K (.pointer Option.none) h)
    (k : ∀ b o, x.t.fr ≠ [] → (∀ b' o', fo = some (b', o') → b = b' ∧ o = o') → Sat h (RunS M T tv (some (b, o)) x R) → K (fP b o) h) :
    CallH Tryz.prog 42 #[mP T] h K := top_call (RunS.thr H) k0 fun b o h1 h2 H' => k b o h1 h2 (RunS.ofThr H')
theorem rPush (H : Sat h (RunS M T tv fo x R)) {fn : Int} {a : Option Addr} {l c : Nat} {rs : List Int} (A : Args R a l c rs) (hl : l ≤ 10) (hd : x.t.fr.length < 1073741824)
    (k : ∀ h' b o, (∀ b' o', fo = some (b', o') → ¬ (b = b' ∧ o = o')) → Stale h' fo x.f → Sat h' (RunS M T tv (some (b, o)) (x.push fn rs) R) → K (.tuple #[]) h') :
    CallH Tryz.prog 38 #[mP T, .int .i64 fn, .slice a l c] h K := push_call (RunS.thr H) A.skip hl hd fun h' b o h1 h2 H' => k h' b o h1 h2 (RunS.ofThr H')
theorem rPop (H : Sat h (RunS M T tv fo x R)) {a : Option Addr} {l c : Nat} {rs : List Int} (A : Args R a l c rs) (hl : l ≤ 3) (k : ∀ h', Sat h' (RunS M T tv Option.none (x.pop rs) R) → K (.tuple #[]) h') :
    CallH Tryz.prog 44 #[mP T, .slice a l c] h K := pop_call (RunS.thr H) A.skip hl fun h' H' => k h' (RunS.ofThr H')
theorem rPushN (H : Sat h (RunS M T tv fo x R)) {fn : Int} {l : Nat} (rs : List Int) {ty : TypeId} (hr : rs.length = l) (hu : ∀ v ∈ rs, U v) (hl : l ≤ 10) (hd : x.t.fr.length < 1073741824)
    (k : ∀ h' b o, (∀ b' o', fo = some (b', o') → ¬ (b = b' ∧ o = o')) → Stale h' fo x.f → Sat h' (RunS M T tv (some (b, o)) (x.push fn rs) R) → K (.tuple #[]) h') :
    CallH Tryz.prog 38 #[mP T, .int .i64 fn, .slice (some ⟨h.size, 0, Option.none⟩) l l] (h.push (.cells (uvs rs).toArray ty)) K :=
  rPush (RunS.new H (.cells (uvs rs).toArray ty)) (Args.mk' hr hu) hl hd fun h' b o h1 h2 H' => k h' b o h1 h2 (RunS.drp H')
theorem rPopN (H : Sat h (RunS M T tv fo x R)) {l : Nat} (rs : List Int) {ty : TypeId} (hr : rs.length = l) (hu : ∀ v ∈ rs, U v) (hl : l ≤ 3) (k : ∀ h', Sat h' (RunS M T tv Option.none (x.pop rs) R) → K (.tuple #[]) h') :
    CallH Tryz.prog 44 #[mP T, .slice (some ⟨h.size, 0, Option.none⟩) l l] (h.push (.cells (uvs rs).toArray ty)) K :=
  rPop (RunS.new H (.cells (uvs rs).toArray ty)) (Args.mk' hr hu) hl fun h' H' => k h' (RunS.drp H')
end
theorem frl_s (x : Run) (i : Nat) (v : Int) : (x.s i v).t.fr.length ≤ x.t.fr.length + 1 := by
  show (x.t.fr.dropLast ++ [_]).length ≤ _
  simp
theorem frl_pc (x : Run) (pc : Int) : (x.pc pc).t.fr.length ≤ x.t.fr.length + 1 := by
  show (x.t.fr.dropLast ++ [_]).length ≤ _
  simp
theorem f_setF (x : Run) (f : Frm) : (x.setF f).f = f := by unfold Run.setF Run.f Thr.setTop Thr.top; simp
theorem f_s (x : Run) (i : Nat) (v : Int) : (x.s i v).f = x.f.s i v := f_setF _ _
theorem f_pc (x : Run) (pc : Int) : (x.pc pc).f = x.f.at pc := f_setF _ _
theorem g_at (f : Frm) (pc : Int) (i : Nat) : (f.at pc).g i = f.g i := rfl
theorem pc_at (f : Frm) (pc : Int) : (f.at pc).pc = pc := rfl
theorem fn_at (f : Frm) (pc : Int) : (f.at pc).fn = f.fn := rfl
theorem pc_s (f : Frm) (i : Nat) (v : Int) : (f.s i v).pc = f.pc := rfl
theorem fn_s (f : Frm) (i : Nat) (v : Int) : (f.s i v).fn = f.fn := rfl
theorem len_s (f : Frm) (i : Nat) (v : Int) : (f.s i v).r.length = f.r.length := by unfold Frm.s; rw [List.length_set]
theorem len_at (f : Frm) (pc : Int) : (f.at pc).r.length = f.r.length := rfl
theorem g_s_ne (f : Frm) {i j : Nat} (h : i ≠ j) (v : Int) : (f.s i v).g j = f.g j := by
  unfold Frm.s Frm.g
  simp only [List.getD_eq_getElem?_getD]
  rw [List.getElem?_set_ne h]
theorem g_s {f : Frm} {i : Nat} (hl : f.r.length = 10) (hi : i < 10) (v : Int) : (f.s i v).g i = v := by
  unfold Frm.s Frm.g
  simp only [List.getD_eq_getElem?_getD]
  rw [List.getElem?_set_self (by omega)]
  rfl
theorem f_load (x : Run) (a : Int) : (x.load a).2.f = x.f := rfl
theorem f_store (x : Run) (a v : Int) : (x.store a v).f = x.f := rfl
theorem f_cas (x : Run) (a p n : Int) : (x.cas a p n).2.f = x.f := rfl
theorem f_add (x : Run) (a d : Int) : (x.add a d).2.f = x.f := rfl
theorem f_gh (x : Run) (g : Gh → Gh) : (x.gh g).f = x.f := rfl
theorem t_load (x : Run) (a : Int) : (x.load a).2.t = x.t := rfl
theorem t_store (x : Run) (a v : Int) : (x.store a v).t = x.t := rfl
theorem t_cas (x : Run) (a p n : Int) : (x.cas a p n).2.t = x.t := rfl
theorem t_add (x : Run) (a d : Int) : (x.add a d).2.t = x.t := rfl
theorem ret_s (x : Run) (i : Nat) (v : Int) (j : Nat) : (x.s i v).ret j = x.ret j := rfl
theorem ret_pc (x : Run) (pc : Int) (j : Nat) : (x.pc pc).ret j = x.ret j := rfl
theorem ret_load (x : Run) (a : Int) (j : Nat) : (x.load a).2.ret j = x.ret j := rfl
theorem ret_store (x : Run) (a v : Int) (j : Nat) : (x.store a v).ret j = x.ret j := rfl
theorem ret_cas (x : Run) (a p n : Int) (j : Nat) : (x.cas a p n).2.ret j = x.ret j := rfl
theorem s64_iN (n : Int) : iN (s64 n) := by unfold s64; split <;> constructor <;> omega
theorem wptr_rng (w : Int) : 0 ≤ wptr w ∧ wptr w < 65536 := ⟨by unfold wptr; omega, by unfold wptr; omega⟩
theorem wptr_iN (w : Int) : iN (wptr w) := by have := wptr_rng w; constructor <;> omega
theorem wptr_U (w : Int) : U (wptr w) := by have := wptr_rng w; constructor <;> omega
theorem u64_wptr (w : Int) : u64 (wptr w) = wptr w := by have := wptr_rng w; unfold u64; omega
theorem u64_s64 (n : Int) : u64 (s64 n) = u64 n := by unfold s64 u64; split <;> omega
theorem U.lit {n : Int} (h : decide (0 ≤ n ∧ n < 18446744073709551616) = true) : U n := (of_decide_eq_true h : 0 ≤ n ∧ n < 18446744073709551616)
theorem wrapu_eq (n : Int) : IntKind.wrap .u64 n = Mod.u64 n := wrapu_mod n
theorem pl15 {p : Pl} {F : Value → Value → Value → Value → Value → Value → Value → Value → Value → Value → Value → Value → Value → Value → Value → Prop} (k : F (.int .i64 p.c.algo) (.int .i64 p.c.threads) (.int .i64 p.c.nodes) (.int .i64 p.c.level) (.int .i64 p.c.batch) (.int .i64 p.c.probes) (.int .i64 p.c.scan) (.int .i64 p.slots) (.int .i64 p.width) (.int .i64 p.sent) (.int .i64 p.hazards) (.int .i64 p.links) (.int .i64 p.nodes) (.int .i64 p.tree) (.int .i64 p.size)) :
    asAgg (plV p) fun vs => sizeH vs 15 (elemH vs 0 fun v0 => elemH vs 1 fun v1 => elemH vs 2 fun v2 => elemH vs 3 fun v3 => elemH vs 4 fun v4 => elemH vs 5 fun v5 => elemH vs 6 fun v6 => elemH vs 7 fun v7 => elemH vs 8 fun v8 => elemH vs 9 fun v9 => elemH vs 10 fun v10 => elemH vs 11 fun v11 => elemH vs 12 fun v12 => elemH vs 13 fun v13 => elemH vs 14 fun v14 => F v0 v1 v2 v3 v4 v5 v6 v7 v8 v9 v10 v11 v12 v13 v14) := k
theorem link_iN {p : Pl} (B : PlB p) (n : Int) : iN (p.link n) := by
  have := B.li
  unfold Pl.link
  split
  · have := B.no; constructor <;> omega
  · constructor <;> omega
theorem one_U {v : Int} (h : U v) : ∀ u ∈ [v], U u := fun u hu => by rw [List.mem_singleton.1 hu]; exact h
theorem bsx : type_of% (And.intro @asPtr_some (And.intro @asPtrO_ptr (And.intro @asInt_int (And.intro @asI_int (And.intro @asBool_bool (And.intro @asSlice_slice (And.intro @asTup_tuple (And.intro @asAgg_agg (And.intro @add_lit (And.intro @Nat.zero_add (And.intro @Nat.mul_one (And.intro @Nat.add_assoc (And.intro @Int.toNat_natCast (And.intro @true_and (And.intro @and_true (And.intro (@Option.isNone_some Addr) (And.intro (@Option.isNone_none Addr) (And.intro @Bool.not_false (And.intro @Bool.not_true (And.intro @ifB_true (And.intro @ifB_false (And.intro @wraps_eq (And.intro @wrapu_eq (And.intro @u64_wptr @u64_s64)))))))))))))))))))))))) := And.intro @asPtr_some (And.intro @asPtrO_ptr (And.intro @asInt_int (And.intro @asI_int (And.intro @asBool_bool (And.intro @asSlice_slice (And.intro @asTup_tuple (And.intro @asAgg_agg (And.intro @add_lit (And.intro @Nat.zero_add (And.intro @Nat.mul_one (And.intro @Nat.add_assoc (And.intro @Int.toNat_natCast (And.intro @true_and (And.intro @and_true (And.intro (@Option.isNone_some Addr) (And.intro (@Option.isNone_none Addr) (And.intro @Bool.not_false (And.intro @Bool.not_true (And.intro @ifB_true (And.intro @ifB_false (And.intro @wraps_eq (And.intro @wrapu_eq (And.intro @u64_wptr @u64_s64)))))))))))))))))))))))
theorem rsx : type_of% (And.intro @ret_s (And.intro @ret_pc (And.intro @ret_load (And.intro @ret_store (And.intro @ret_cas (And.intro @f_pc (And.intro @f_s (And.intro @f_load (And.intro @f_store (And.intro @f_cas (And.intro @f_add (And.intro @f_gh (And.intro @t_load (And.intro @t_store (And.intro @t_cas (And.intro @t_add (And.intro @g_at (And.intro @pc_at (And.intro @fn_at (And.intro @pc_s (And.intro @fn_s (And.intro @len_s @len_at)))))))))))))))))))))) := And.intro @ret_s (And.intro @ret_pc (And.intro @ret_load (And.intro @ret_store (And.intro @ret_cas (And.intro @f_pc (And.intro @f_s (And.intro @f_load (And.intro @f_store (And.intro @f_cas (And.intro @f_add (And.intro @f_gh (And.intro @t_load (And.intro @t_store (And.intro @t_cas (And.intro @t_add (And.intro @g_at (And.intro @pc_at (And.intro @fn_at (And.intro @pc_s (And.intro @fn_s (And.intro @len_s @len_at)))))))))))))))))))))
end
section
set_option maxRecDepth 100000
def F54 (K : Value → Heap → Prop) (h : Heap) (xa xb : Option Addr) : Prop :=
  (cf 42 #[.pointer xb] h fun v0 h1 => asPtrO v0 fun o2 => exI fun I3 => (ifB (Option.isNone o2) (I3 [.bool true, .bool true] h1) (I3 [.bool (Option.isNone xa), .bool (Option.isNone xa)] h1)) ∧ (∀ (v4 v5 : Value) (g6 : Env) (h7 : Heap), (I3 [v4, v5] h7) → (asBool v4 fun b8 => ifB b8 (K (.tuple #[]) h7) (nP o2 fun a9 => lI .i64 h7 a9 fun n11 => ifB (n11 == 3) (cf 99 #[.pointer xa, .pointer xb, .pointer o2] h7 fun v12 h13 => K (.tuple #[]) h13) (nP o2 fun a14 => lI .i64 h7 a14 fun n16 => ifB (n16 == 4) (cf 100 #[.pointer xa, .pointer xb, .pointer o2] h7 fun v17 h18 => K (.tuple #[]) h18) (nP o2 fun a19 => lI .i64 h7 a19 fun n21 => ifB (n21 == 5) (cf 101 #[.pointer xa, .pointer xb, .pointer o2] h7 fun v22 h23 => K (.tuple #[]) h23) (nP o2 fun a24 => lI .i64 h7 a24 fun n26 => ifB (n26 == 6) (cf 102 #[.pointer xa, .pointer xb, .pointer o2] h7 fun v27 h28 => K (.tuple #[]) h28) (cf 103 #[.pointer xa, .pointer xb] h7 fun v29 h30 => K (.tuple #[]) h30))))))))
theorem call54 {K : Value → Heap → Prop} {h : Heap} {xa xb : Option Addr} (H : F54 K h xa xb) : CallH Tryz.prog 54 #[(.pointer xa), (.pointer xb)] h K :=
  callH_mk Tryz.func54 (by kernel_rfl) (Eq.mp (by kernel_rfl) H)
def F79 (K : Value → Heap → Prop) (h : Heap) (xa : Option Addr) : Prop :=
  (ifB (Option.isNone xa) (∀ h0 : Heap, (SameD h.size h h0) → (K (.slice none 0 0) h0)) (cf 24 #[.pointer xa] (Array.push h (.cells #[.slice none 0 0] 25)) fun v1 h2 => asPtrO v1 fun o3 => cf 25 #[.pointer o3] h2 fun v4 h5 => asSlice v4 fun o6 k7 k8 => cf 117 #[.pointer xa] h5 fun v9 h10 => asAgg v9 fun vs11 => sizeH vs11 15 (elemH vs11 0 fun v12 => elemH vs11 1 fun v13 => elemH vs11 2 fun v14 => elemH vs11 3 fun v15 => elemH vs11 4 fun v16 => elemH vs11 5 fun v17 => elemH vs11 6 fun v18 => elemH vs11 7 fun v19 => elemH vs11 8 fun v20 => elemH vs11 9 fun v21 => elemH vs11 10 fun v22 => elemH vs11 11 fun v23 => elemH vs11 12 fun v24 => elemH vs11 13 fun v25 => elemH vs11 14 fun v26 => cf 155 #[.slice o6 k7 k8, .agg #[v12, v13, v14, v15, v16, v17, v18, v19, v20, v21, v22, v23, v24, v25, v26]] h10 fun v27 h28 => rangeH Tryz.prog v27 1 h28 (fun I29 vs30 h31 => asInt .i64 (vs30.getD 0 (.tuple #[])) fun n32 => lS h31 ⟨h.size, 0, none⟩ fun o34 k35 k36 => appH Tryz.prog #[25, 25] 25 #[.slice o34 k35 k36, .slice (some ⟨h31.size, 0, none⟩) 1 1] (Array.push h31 (.cells #[.int .i64 n32] 3)) fun v37 h38 => asSlice v37 fun o39 k40 k41 => stH h38 ⟨h.size, 0, none⟩ (.slice o39 k40 k41) fun h42 => I29 .normal h42) (fun h43 => lS h43 ⟨h.size, 0, none⟩ fun o45 k46 k47 => (∀ h48 : Heap, (SameD h.size h43 h48) → (K (.slice o45 k46 k47) h48))) [])))
theorem call79 {K : Value → Heap → Prop} {h : Heap} {xa : Option Addr} (H : F79 K h xa) : CallH Tryz.prog 79 #[(.pointer xa)] h K :=
  callH_mk Tryz.func79 (by kernel_rfl) (Eq.mp (by kernel_rfl) H)
def F99 (K : Value → Heap → Prop) (h : Heap) (xa xb xc : Option Addr) : Prop :=
  (nP xc fun a0 => bd 1 10 (lI .u64 h (Addr.add a0 3) fun n2 => nP xc fun a3 => lI .i64 h (Addr.add a3 1) fun n5 => ifB (n5 == 0) (nP xc fun a6 => cf 85 #[.pointer xa, .int .i64 (IntKind.wrap .i64 n2)] h fun v7 h8 => asInt .u64 v7 fun n9 => bd 2 10 (stH h8 (Addr.add a6 4) (.int .u64 n9) fun h10 => nP xc fun a11 => stH h10 (Addr.add a11 1) (.int .i64 1) fun h12 => nP xc fun a13 => bd 2 10 (lI .u64 h12 (Addr.add a13 4) fun n15 => cf 175 #[.int .u64 n15] h12 fun v16 h17 => asInt .u64 v16 fun n18 => ifB (n18 == 0) (nP xc fun a19 => bd 2 10 (lI .u64 h17 (Addr.add a19 4) fun n21 => cf 44 #[.pointer xb, .slice (some ⟨h17.size, 0, none⟩) 1 1] (Array.push h17 (.cells #[.int .u64 n21] 65)) fun v22 h23 => K (.tuple #[]) h23)) (K (.tuple #[]) h17)))) (ifB (n5 == 1) (nP xb fun a24 => ldH h a24 fun v25 => asInt .i64 v25 fun n26 => nP xc fun a27 => bd 0 10 (ldH h (Addr.add a27 2) fun v28 => asInt .u64 v28 fun n29 => nP xc fun a30 => bd 2 10 (ldH h (Addr.add a30 4) fun v31 => asInt .u64 v31 fun n32 => cf 117 #[.pointer xa] h fun v33 h34 => asAgg v33 fun vs35 => sizeH vs35 15 (elemH vs35 0 fun v36 => elemH vs35 1 fun v37 => elemH vs35 2 fun v38 => elemH vs35 3 fun v39 => elemH vs35 4 fun v40 => elemH vs35 5 fun v41 => elemH vs35 6 fun v42 => elemH vs35 7 fun v43 => elemH vs35 8 fun v44 => elemH vs35 9 fun v45 => elemH vs35 10 fun v46 => elemH vs35 11 fun v47 => elemH vs35 12 fun v48 => elemH vs35 13 fun v49 => elemH vs35 14 fun v50 => ((cellAt h34 (Addr.add a30 4)) = (some v31)) ∧ (((cellAt h34 (Addr.add a27 2)) = (some v28)) ∧ (((cellAt h34 a24) = (some v25)) ∧ (cf 130 #[.agg #[v36, v37, v38, v39, v40, v41, v42, v43, v44, v45, v46, v47, v48, v49, v50], .int .i64 n26, .int .i64 (IntKind.wrap .i64 n29)] h34 fun v51 h52 => asInt .i64 v51 fun n53 => ((cellAt h52 (Addr.add a30 4)) = (some v31)) ∧ (cf 175 #[.int .u64 n32] h52 fun v54 h55 => asInt .u64 v54 fun n56 => cf 129 #[.pointer xa, .int .i64 n53, .int .u64 n56] h55 fun v57 h58 => nP xc fun a59 => stH h58 (Addr.add a59 1) (.int .i64 2) fun h60 => K (.tuple #[]) h60)))))))) (cf 85 #[.pointer xa, .int .i64 (IntKind.wrap .i64 n2)] h fun v61 h62 => asInt .u64 v61 fun n63 => exI fun I64 => (nP xc fun a65 => bd 2 10 (lI .u64 h62 (Addr.add a65 4) fun n67 => ifB (n63 == n67) (I64 [.bool true] h62) (cf 175 #[.int .u64 n63] h62 fun v68 h69 => asInt .u64 v68 fun n70 => I64 [.bool (n70 == 0)] h69))) ∧ (∀ (v71 : Value) (g72 : Env) (h73 : Heap), (I64 [v71] h73) → (asBool v71 fun b74 => ifB b74 (cf 44 #[.pointer xb, .slice (some ⟨h73.size, 0, none⟩) 1 1] (Array.push h73 (.cells #[.int .u64 n63] 65)) fun v75 h76 => K (.tuple #[]) h76) (nP xc fun a77 => bd 2 10 (stH h73 (Addr.add a77 4) (.int .u64 n63) fun h78 => nP xc fun a79 => stH h78 (Addr.add a79 1) (.int .i64 1) fun h80 => K (.tuple #[]) h80))))))))
theorem call99 {K : Value → Heap → Prop} {h : Heap} {xa xb xc : Option Addr} (H : F99 K h xa xb xc) : CallH Tryz.prog 99 #[(.pointer xa), (.pointer xb), (.pointer xc)] h K :=
  callH_mk Tryz.func99 (by kernel_rfl) (Eq.mp (by kernel_rfl) H)
def F100 (K : Value → Heap → Prop) (h : Heap) (xa xb xc : Option Addr) : Prop :=
  (nP xc fun a0 => ldH h (Addr.add a0 1) fun v1 => asInt .i64 v1 fun n2 => cf 117 #[.pointer xa] h fun v3 h4 => asAgg v3 fun vs5 => sizeH vs5 15 (elemH vs5 0 fun v6 => elemH vs5 1 fun v7 => elemH vs5 2 fun v8 => elemH vs5 3 fun v9 => elemH vs5 4 fun v10 => elemH vs5 5 fun v11 => elemH vs5 6 fun v12 => elemH vs5 7 fun v13 => elemH vs5 8 fun v14 => elemH vs5 9 fun v15 => elemH vs5 10 fun v16 => elemH vs5 11 fun v17 => elemH vs5 12 fun v18 => elemH vs5 13 fun v19 => elemH vs5 14 fun v20 => ((cellAt h4 (Addr.add a0 1)) = (some v1)) ∧ (cf 149 #[.agg #[v6, v7, v8, v9, v10, v11, v12, v13, v14, v15, v16, v17, v18, v19, v20]] h4 fun v21 h22 => asInt .i64 v21 fun n23 => ((cellAt h22 (Addr.add a0 1)) = (some v1)) ∧ (ifB (decide (n2 ≥ n23)) (cf 44 #[.pointer xb, .slice none 0 0] h22 fun v24 h25 => K (.tuple #[]) h25) (nP xb fun a26 => ldH h22 a26 fun v27 => asInt .i64 v27 fun n28 => nP xc fun a29 => ldH h22 (Addr.add a29 1) fun v30 => asInt .i64 v30 fun n31 => cf 117 #[.pointer xa] h22 fun v32 h33 => asAgg v32 fun vs34 => sizeH vs34 15 (elemH vs34 0 fun v35 => elemH vs34 1 fun v36 => elemH vs34 2 fun v37 => elemH vs34 3 fun v38 => elemH vs34 4 fun v39 => elemH vs34 5 fun v40 => elemH vs34 6 fun v41 => elemH vs34 7 fun v42 => elemH vs34 8 fun v43 => elemH vs34 9 fun v44 => elemH vs34 10 fun v45 => elemH vs34 11 fun v46 => elemH vs34 12 fun v47 => elemH vs34 13 fun v48 => elemH vs34 14 fun v49 => ((cellAt h33 (Addr.add a29 1)) = (some v30)) ∧ (((cellAt h33 a26) = (some v27)) ∧ (cf 130 #[.agg #[v35, v36, v37, v38, v39, v40, v41, v42, v43, v44, v45, v46, v47, v48, v49], .int .i64 n28, .int .i64 n31] h33 fun v50 h51 => asInt .i64 v50 fun n52 => cf 129 #[.pointer xa, .int .i64 n52, .int .u64 0] h51 fun v53 h54 => nP xc fun a55 => lI .i64 h54 (Addr.add a55 1) fun n57 => nP xc fun a58 => stH h54 (Addr.add a58 1) (.int .i64 (IntKind.wrap .i64 (n57 + 1))) fun h59 => K (.tuple #[]) h59))))))))
theorem call100 {K : Value → Heap → Prop} {h : Heap} {xa xb xc : Option Addr} (H : F100 K h xa xb xc) : CallH Tryz.prog 100 #[(.pointer xa), (.pointer xb), (.pointer xc)] h K :=
  callH_mk Tryz.func100 (by kernel_rfl) (Eq.mp (by kernel_rfl) H)
def F101 (K : Value → Heap → Prop) (h : Heap) (xa xb xc : Option Addr) : Prop :=
  (nP xc fun a0 => bd 0 10 (lI .u64 h (Addr.add a0 2) fun n2 => cf 176 #[.pointer xa, .int .i64 (IntKind.wrap .i64 n2)] h fun v3 h4 => nP xb fun a5 => cf 177 #[.pointer (some (Addr.add a5 8)), .int .i64 (IntKind.wrap .i64 n2)] h4 fun v6 h7 => cf 44 #[.pointer xb, .slice none 0 0] h7 fun v8 h9 => nP xb fun a10 => cf 136 #[.pointer (some (Addr.add a10 8))] h9 fun v11 h12 => asInt .i64 v11 fun n13 => cf 117 #[.pointer xa] h12 fun v14 h15 => asAgg v14 fun vs16 => sizeH vs16 15 (elemH vs16 0 fun v17 => elemH vs16 1 fun v18 => elemH vs16 2 fun v19 => elemH vs16 3 fun v20 => elemH vs16 4 fun v21 => elemH vs16 5 fun v22 => elemH vs16 6 fun v23 => elemH vs16 7 fun v24 => elemH vs16 8 fun v25 => elemH vs16 9 fun v26 => elemH vs16 10 fun v27 => elemH vs16 11 fun v28 => elemH vs16 12 fun v29 => elemH vs16 13 fun v30 => elemH vs16 14 fun v31 => cf 62 #[.agg #[v17, v18, v19, v20, v21, v22, v23, v24, v25, v26, v27, v28, v29, v30, v31]] h15 fun v32 h33 => asAgg v32 fun vs34 => sizeH vs34 7 (elemH vs34 0 fun v35 => elemH vs34 1 fun v36 => elemH vs34 2 fun v37 => elemH vs34 3 fun v38 => elemH vs34 4 fun v39 => elemH vs34 5 fun v40 => elemH vs34 6 fun v41 => asInt .i64 v41 fun n42 => ifB (decide (n13 ≥ n42)) (cf 38 #[.pointer xb, .int .i64 6, .slice none 0 0] h33 fun v43 h44 => K (.tuple #[]) h44) (K (.tuple #[]) h33)))))
theorem call101 {K : Value → Heap → Prop} {h : Heap} {xa xb xc : Option Addr} (H : F101 K h xa xb xc) : CallH Tryz.prog 101 #[(.pointer xa), (.pointer xb), (.pointer xc)] h K :=
  callH_mk Tryz.func101 (by kernel_rfl) (Eq.mp (by kernel_rfl) H)
def F102 (K : Value → Heap → Prop) (h : Heap) (xa xb xc : Option Addr) : Prop :=
  (cf 117 #[.pointer xa] (Array.push h (.cells #[.pointer xb] 82)) fun v0 h1 => asAgg v0 fun vs2 => sizeH vs2 15 (elemH vs2 0 fun v3 => elemH vs2 1 fun v4 => elemH vs2 2 fun v5 => elemH vs2 3 fun v6 => elemH vs2 4 fun v7 => elemH vs2 5 fun v8 => elemH vs2 6 fun v9 => elemH vs2 7 fun v10 => elemH vs2 8 fun v11 => elemH vs2 9 fun v12 => elemH vs2 10 fun v13 => elemH vs2 11 fun v14 => elemH vs2 12 fun v15 => elemH vs2 13 fun v16 => elemH vs2 14 fun v17 => stH (Array.push h1 (.cells #[.int .i64 0, .int .i64 0, .int .i64 0, .int .i64 0, .int .i64 0, .int .i64 0, .int .i64 0, .int .i64 0, .int .i64 0, .int .i64 0, .int .i64 0, .int .i64 0, .int .i64 0, .int .i64 0, .int .i64 0] 69)) ⟨h1.size, 0, none⟩ v3 fun h18 => stH h18 ⟨h1.size, 1, none⟩ v4 fun h19 => stH h19 ⟨h1.size, 2, none⟩ v5 fun h20 => stH h20 ⟨h1.size, 3, none⟩ v6 fun h21 => stH h21 ⟨h1.size, 4, none⟩ v7 fun h22 => stH h22 ⟨h1.size, 5, none⟩ v8 fun h23 => stH h23 ⟨h1.size, 6, none⟩ v9 fun h24 => stH h24 ⟨h1.size, 7, none⟩ v10 fun h25 => stH h25 ⟨h1.size, 8, none⟩ v11 fun h26 => stH h26 ⟨h1.size, 9, none⟩ v12 fun h27 => stH h27 ⟨h1.size, 10, none⟩ v13 fun h28 => stH h28 ⟨h1.size, 11, none⟩ v14 fun h29 => stH h29 ⟨h1.size, 12, none⟩ v15 fun h30 => stH h30 ⟨h1.size, 13, none⟩ v16 fun h31 => stH h31 ⟨h1.size, 14, none⟩ v17 fun h32 => ldH h32 ⟨h1.size, 0, none⟩ fun v33 => ldH h32 ⟨h1.size, 1, none⟩ fun v34 => ldH h32 ⟨h1.size, 2, none⟩ fun v35 => ldH h32 ⟨h1.size, 3, none⟩ fun v36 => ldH h32 ⟨h1.size, 4, none⟩ fun v37 => ldH h32 ⟨h1.size, 5, none⟩ fun v38 => ldH h32 ⟨h1.size, 6, none⟩ fun v39 => ldH h32 ⟨h1.size, 7, none⟩ fun v40 => ldH h32 ⟨h1.size, 8, none⟩ fun v41 => ldH h32 ⟨h1.size, 9, none⟩ fun v42 => ldH h32 ⟨h1.size, 10, none⟩ fun v43 => ldH h32 ⟨h1.size, 11, none⟩ fun v44 => ldH h32 ⟨h1.size, 12, none⟩ fun v45 => ldH h32 ⟨h1.size, 13, none⟩ fun v46 => ldH h32 ⟨h1.size, 14, none⟩ fun v47 => ldH h32 ⟨h1.size, 0, none⟩ fun v48 => ldH h32 ⟨h1.size, 1, none⟩ fun v49 => ldH h32 ⟨h1.size, 2, none⟩ fun v50 => ldH h32 ⟨h1.size, 3, none⟩ fun v51 => ldH h32 ⟨h1.size, 4, none⟩ fun v52 => ldH h32 ⟨h1.size, 5, none⟩ fun v53 => ldH h32 ⟨h1.size, 6, none⟩ fun v54 => ldH h32 ⟨h1.size, 7, none⟩ fun v55 => ldH h32 ⟨h1.size, 8, none⟩ fun v56 => ldH h32 ⟨h1.size, 9, none⟩ fun v57 => ldH h32 ⟨h1.size, 10, none⟩ fun v58 => ldH h32 ⟨h1.size, 11, none⟩ fun v59 => ldH h32 ⟨h1.size, 12, none⟩ fun v60 => ldH h32 ⟨h1.size, 13, none⟩ fun v61 => ldH h32 ⟨h1.size, 14, none⟩ fun v62 => cf 149 #[.agg #[v33, v34, v35, v36, v37, v38, v39, v40, v41, v42, v43, v44, v45, v46, v47]] h32 fun v63 h64 => asInt .i64 v63 fun n65 => ce h64 h1.size 0 v48 (ce h64 h1.size 1 v49 (ce h64 h1.size 2 v50 (ce h64 h1.size 3 v51 (ce h64 h1.size 4 v52 (ce h64 h1.size 5 v53 (ce h64 h1.size 6 v54 (ce h64 h1.size 7 v55 (ce h64 h1.size 8 v56 (ce h64 h1.size 9 v57 (ce h64 h1.size 10 v58 (ce h64 h1.size 11 v59 (ce h64 h1.size 12 v60 (ce h64 h1.size 13 v61 (ce h64 h1.size 14 v62 (cf 62 #[.agg #[v48, v49, v50, v51, v52, v53, v54, v55, v56, v57, v58, v59, v60, v61, v62]] h64 fun v66 h67 => asAgg v66 fun vs68 => sizeH vs68 7 (elemH vs68 0 fun v69 => elemH vs68 1 fun v70 => elemH vs68 2 fun v71 => elemH vs68 3 fun v72 => elemH vs68 4 fun v73 => elemH vs68 5 fun v74 => elemH vs68 6 fun v75 => asInt .i64 v70 fun n76 => exI fun I77 => (nP xc fun a78 => lI .i64 h67 (Addr.add a78 1) fun n80 => ifB (n80 == 0) (lP h67 ⟨h.size, 0, none⟩ fun o82 => nP o82 fun a83 => stH h67 (Addr.add a83 9) (.slice none 0 0) fun h84 => I77 [] h84) (I77 [] h67)) ∧ (∀ (g85 : Env) (h86 : Heap), (I77 [] h86) → (nP xc fun a87 => lI .i64 h86 (Addr.add a87 1) fun n89 => ifB (decide (n89 < (IntKind.wrap .i64 (n65 * n76)))) (ldH h86 ⟨h.size, 0, none⟩ fun v90 => asPtrO v90 fun o91 => ldH h86 ⟨h.size, 0, none⟩ fun v92 => asPtrO v92 fun o93 => nP o93 fun a94 => ldH h86 (Addr.add a94 9) fun v95 => asSlice v95 fun o96 k97 k98 => ldH h86 ⟨h1.size, 0, none⟩ fun v99 => ldH h86 ⟨h1.size, 1, none⟩ fun v100 => ldH h86 ⟨h1.size, 2, none⟩ fun v101 => ldH h86 ⟨h1.size, 3, none⟩ fun v102 => ldH h86 ⟨h1.size, 4, none⟩ fun v103 => ldH h86 ⟨h1.size, 5, none⟩ fun v104 => ldH h86 ⟨h1.size, 6, none⟩ fun v105 => ldH h86 ⟨h1.size, 7, none⟩ fun v106 => ldH h86 ⟨h1.size, 8, none⟩ fun v107 => ldH h86 ⟨h1.size, 9, none⟩ fun v108 => ldH h86 ⟨h1.size, 10, none⟩ fun v109 => ldH h86 ⟨h1.size, 11, none⟩ fun v110 => ldH h86 ⟨h1.size, 12, none⟩ fun v111 => ldH h86 ⟨h1.size, 13, none⟩ fun v112 => ldH h86 ⟨h1.size, 14, none⟩ fun v113 => nP xc fun a114 => ldH h86 (Addr.add a114 1) fun v115 => asInt .i64 v115 fun n116 => ldH h86 ⟨h1.size, 0, none⟩ fun v117 => ldH h86 ⟨h1.size, 1, none⟩ fun v118 => ldH h86 ⟨h1.size, 2, none⟩ fun v119 => ldH h86 ⟨h1.size, 3, none⟩ fun v120 => ldH h86 ⟨h1.size, 4, none⟩ fun v121 => ldH h86 ⟨h1.size, 5, none⟩ fun v122 => ldH h86 ⟨h1.size, 6, none⟩ fun v123 => ldH h86 ⟨h1.size, 7, none⟩ fun v124 => ldH h86 ⟨h1.size, 8, none⟩ fun v125 => ldH h86 ⟨h1.size, 9, none⟩ fun v126 => ldH h86 ⟨h1.size, 10, none⟩ fun v127 => ldH h86 ⟨h1.size, 11, none⟩ fun v128 => ldH h86 ⟨h1.size, 12, none⟩ fun v129 => ldH h86 ⟨h1.size, 13, none⟩ fun v130 => ldH h86 ⟨h1.size, 14, none⟩ fun v131 => nP xc fun a132 => ldH h86 (Addr.add a132 1) fun v133 => asInt .i64 v133 fun n134 => ldH h86 ⟨h1.size, 0, none⟩ fun v135 => ldH h86 ⟨h1.size, 1, none⟩ fun v136 => ldH h86 ⟨h1.size, 2, none⟩ fun v137 => ldH h86 ⟨h1.size, 3, none⟩ fun v138 => ldH h86 ⟨h1.size, 4, none⟩ fun v139 => ldH h86 ⟨h1.size, 5, none⟩ fun v140 => ldH h86 ⟨h1.size, 6, none⟩ fun v141 => ldH h86 ⟨h1.size, 7, none⟩ fun v142 => ldH h86 ⟨h1.size, 8, none⟩ fun v143 => ldH h86 ⟨h1.size, 9, none⟩ fun v144 => ldH h86 ⟨h1.size, 10, none⟩ fun v145 => ldH h86 ⟨h1.size, 11, none⟩ fun v146 => ldH h86 ⟨h1.size, 12, none⟩ fun v147 => ldH h86 ⟨h1.size, 13, none⟩ fun v148 => ldH h86 ⟨h1.size, 14, none⟩ fun v149 => cf 149 #[.agg #[v117, v118, v119, v120, v121, v122, v123, v124, v125, v126, v127, v128, v129, v130, v131]] h86 fun v150 h151 => asInt .i64 v150 fun n152 => ce h151 h1.size 0 v135 (ce h151 h1.size 1 v136 (ce h151 h1.size 2 v137 (ce h151 h1.size 3 v138 (ce h151 h1.size 4 v139 (ce h151 h1.size 5 v140 (ce h151 h1.size 6 v141 (ce h151 h1.size 7 v142 (ce h151 h1.size 8 v143 (ce h151 h1.size 9 v144 (ce h151 h1.size 10 v145 (ce h151 h1.size 11 v146 (ce h151 h1.size 12 v147 (ce h151 h1.size 13 v148 (ce h151 h1.size 14 v149 (((cellAt h151 (Addr.add a132 1)) = (some v133)) ∧ (((cellAt h151 (Addr.add a114 1)) = (some v115)) ∧ (ce h151 h1.size 0 v99 (ce h151 h1.size 1 v100 (ce h151 h1.size 2 v101 (ce h151 h1.size 3 v102 (ce h151 h1.size 4 v103 (ce h151 h1.size 5 v104 (ce h151 h1.size 6 v105 (ce h151 h1.size 7 v106 (ce h151 h1.size 8 v107 (ce h151 h1.size 9 v108 (ce h151 h1.size 10 v109 (ce h151 h1.size 11 v110 (ce h151 h1.size 12 v111 (ce h151 h1.size 13 v112 (ce h151 h1.size 14 v113 (((cellAt h151 (Addr.add a94 9)) = (some v95)) ∧ (ce h151 h.size 0 v92 (ce h151 h.size 0 v90 (((n152 : Int) ≠ 0) ∧ (cf 149 #[.agg #[v135, v136, v137, v138, v139, v140, v141, v142, v143, v144, v145, v146, v147, v148, v149]] h151 fun v153 h154 => asInt .i64 v153 fun n155 => ((cellAt h154 (Addr.add a132 1)) = (some v133)) ∧ (((cellAt h154 (Addr.add a114 1)) = (some v115)) ∧ (ce h154 h1.size 0 v99 (ce h154 h1.size 1 v100 (ce h154 h1.size 2 v101 (ce h154 h1.size 3 v102 (ce h154 h1.size 4 v103 (ce h154 h1.size 5 v104 (ce h154 h1.size 6 v105 (ce h154 h1.size 7 v106 (ce h154 h1.size 8 v107 (ce h154 h1.size 9 v108 (ce h154 h1.size 10 v109 (ce h154 h1.size 11 v110 (ce h154 h1.size 12 v111 (ce h154 h1.size 13 v112 (ce h154 h1.size 14 v113 (((cellAt h154 (Addr.add a94 9)) = (some v95)) ∧ (ce h154 h.size 0 v92 (ce h154 h.size 0 v90 (((n155 : Int) ≠ 0) ∧ (cf 130 #[.agg #[v99, v100, v101, v102, v103, v104, v105, v106, v107, v108, v109, v110, v111, v112, v113], .int .i64 (IntKind.wrap .i64 (Int.tdiv n116 n152)), .int .i64 (Int.tmod n134 n155)] h154 fun v156 h157 => asInt .i64 v156 fun n158 => ((cellAt h157 (Addr.add a94 9)) = (some v95)) ∧ (ce h157 h.size 0 v92 (ce h157 h.size 0 v90 (cf 85 #[.pointer xa, .int .i64 n158] h157 fun v159 h160 => asInt .u64 v159 fun n161 => ((cellAt h160 (Addr.add a94 9)) = (some v95)) ∧ (ce h160 h.size 0 v92 (ce h160 h.size 0 v90 (((cellAt (Array.push h160 (.cells #[.int .i64 (IntKind.wrap .i64 n161)] 3)) (Addr.add a94 9)) = (some v95)) ∧ (((cellAt (Array.push h160 (.cells #[.int .i64 (IntKind.wrap .i64 n161)] 3)) ⟨h.size, 0, none⟩) = (some v92)) ∧ (((cellAt (Array.push h160 (.cells #[.int .i64 (IntKind.wrap .i64 n161)] 3)) ⟨h.size, 0, none⟩) = (some v90)) ∧ (appH Tryz.prog #[25, 25] 25 #[.slice o96 k97 k98, .slice (some ⟨h160.size, 0, none⟩) 1 1] (Array.push h160 (.cells #[.int .i64 (IntKind.wrap .i64 n161)] 3)) fun v162 h163 => asSlice v162 fun o164 k165 k166 => ce h163 h.size 0 v90 (nP o91 fun a167 => stH h163 (Addr.add a167 9) (.slice o164 k165 k166) fun h168 => nP xc fun a169 => lI .i64 h168 (Addr.add a169 1) fun n171 => nP xc fun a172 => stH h168 (Addr.add a172 1) (.int .i64 (IntKind.wrap .i64 (n171 + 1))) fun h173 => K (.tuple #[]) h173)))))))))))))))))))))))))))))))))))))))))))))))))))))))))))))))))))) (exI fun I174 => (nP xc fun a175 => lI .i64 h86 (Addr.add a175 1) fun n177 => ifB (n177 == (IntKind.wrap .i64 (n65 * n76))) (lP h86 ⟨h.size, 0, none⟩ fun o179 => nP o179 fun a180 => cf 180 #[.pointer (some (Addr.add a180 8))] h86 fun v181 h182 => asSlice v181 fun o183 k184 k185 => exI fun I186 => exM fun m187 => (I186 [.slice none 0 0, .tuple #[], .int .i64 0] h182) ∧ (∀ (v188 v189 v190 : Value) (g191 : Env) (h192 : Heap), (I186 [v188, v189, v190] h192) → (asInt .i64 v190 fun n193 => ifB (decide (n193 < (k184 : Int))) (asI v190 fun n194 => bd n194 (k184 : Int) (asPtr (.pointer o183) fun a195 => lI .i64 h192 (Addr.add a195 (n194.toNat * 1)) fun n197 => callV Tryz.prog (.func (.func 178) #[] #[.pointer (some ⟨h.size, 0, none⟩)]) #[.int .i64 n197] h192 fun v198 h199 => asBool v198 fun b200 => ifB (!b200) (asSlice v188 fun o201 k202 k203 => appH Tryz.prog #[25, 25] 25 #[.slice o201 k202 k203, .slice (some ⟨h199.size, 0, none⟩) 1 1] (Array.push h199 (.cells #[.int .i64 n197] 3)) fun v204 h205 => asSlice v204 fun o206 k207 k208 => asInt .i64 v190 fun n209 => (I186 [.slice o206 k207 k208, .int .i64 n197, .int .i64 (IntKind.wrap .i64 (n209 + 1))] h205) ∧ ((m187 [.slice o206 k207 k208, .int .i64 n197, .int .i64 (IntKind.wrap .i64 (n209 + 1))] h205) < (m187 [v188, v189, v190] h192))) (asInt .i64 v190 fun n210 => (I186 [v188, .int .i64 n197, .int .i64 (IntKind.wrap .i64 (n210 + 1))] h199) ∧ ((m187 [v188, .int .i64 n197, .int .i64 (IntKind.wrap .i64 (n210 + 1))] h199) < (m187 [v188, v189, v190] h192))))) (lP h192 ⟨h.size, 0, none⟩ fun o212 => nP o212 fun a213 => cf 181 #[.pointer (some (Addr.add a213 8)), .func (.func 178) #[] #[.pointer (some ⟨h.size, 0, none⟩)]] h192 fun v214 h215 => asInt .i64 v214 fun n216 => lP h215 ⟨h.size, 0, none⟩ fun o218 => asSlice v188 fun o219 k220 k221 => nP o218 fun a222 => stH h215 (Addr.add a222 9) (.slice o219 k220 k221) fun h223 => nP xc fun a224 => lI .i64 h223 (Addr.add a224 1) fun n226 => nP xc fun a227 => stH h223 (Addr.add a227 1) (.int .i64 (IntKind.wrap .i64 (n226 + 1))) fun h228 => I174 [v188, v189, v190] h228)))) (I174 [.tuple #[], .tuple #[], .tuple #[]] h86)) ∧ (∀ (v229 v230 v231 : Value) (g232 : Env) (h233 : Heap), (I174 [v229, v230, v231] h233) → (lP h233 ⟨h.size, 0, none⟩ fun o235 => nP o235 fun a236 => lS h233 (Addr.add a236 9) fun o238 k239 k240 => ifB ((k239 : Int) == 0) (lP h233 ⟨h.size, 0, none⟩ fun o242 => cf 44 #[.pointer o242, .slice none 0 0] h233 fun v243 h244 => K (.tuple #[]) h244) (lP h233 ⟨h.size, 0, none⟩ fun o246 => nP o246 fun a247 => lS h233 (Addr.add a247 9) fun o249 k250 k251 => bd 0 (k250 : Int) (asPtr (.pointer o249) fun a252 => lI .i64 h233 a252 fun n254 => lP h233 ⟨h.size, 0, none⟩ fun o256 => lP h233 ⟨h.size, 0, none⟩ fun o258 => nP o258 fun a259 => lS h233 (Addr.add a259 9) fun o261 k262 k263 => ((0 : Int) ≤ 1) ∧ (((1 : Int) ≤ (k262 : Int)) ∧ (nP o256 fun a264 => stH h233 (Addr.add a264 9) (.slice (subA o261 1 k263 1) (k262 - 1) (k263 - 1)) fun h265 => lP h265 ⟨h.size, 0, none⟩ fun o267 => cf 38 #[.pointer o267, .int .i64 2, .slice (some ⟨h265.size, 0, none⟩) 1 1] (Array.push h265 (.cells #[.int .u64 (IntKind.wrap .u64 n254)] 65)) fun v268 h269 => K (.tuple #[]) h269)))))))))))))))))))))))))))
theorem call102 {K : Value → Heap → Prop} {h : Heap} {xa xb xc : Option Addr} (H : F102 K h xa xb xc) : CallH Tryz.prog 102 #[(.pointer xa), (.pointer xb), (.pointer xc)] h K :=
  callH_mk Tryz.func102 (by kernel_rfl) (Eq.mp (by kernel_rfl) H)
def F103 (K : Value → Heap → Prop) (h : Heap) (xa xb : Option Addr) : Prop :=
  (cf 42 #[.pointer xb] h fun v0 h1 => asPtrO v0 fun o2 => exI fun I3 => (ifB (Option.isNone o2) (I3 [.bool true, .bool true] h1) (I3 [.bool (Option.isNone xa), .bool (Option.isNone xa)] h1)) ∧ (∀ (v4 v5 : Value) (g6 : Env) (h7 : Heap), (I3 [v4, v5] h7) → (asBool v4 fun b8 => ifB b8 (K (.tuple #[]) h7) (nP o2 fun a9 => lI .i64 h7 a9 fun n11 => ifB (n11 == 1) (cf 182 #[.pointer xa, .pointer xb, .pointer o2] h7 fun v12 h13 => K (.tuple #[]) h13) (nP o2 fun a14 => lI .i64 h7 a14 fun n16 => ifB (n16 == 2) (cf 183 #[.pointer xa, .pointer xb, .pointer o2] h7 fun v17 h18 => K (.tuple #[]) h18) (cf 44 #[.pointer xb, .slice none 0 0] h7 fun v19 h20 => K (.tuple #[]) h20))))))
theorem call103 {K : Value → Heap → Prop} {h : Heap} {xa xb : Option Addr} (H : F103 K h xa xb) : CallH Tryz.prog 103 #[(.pointer xa), (.pointer xb)] h K :=
  callH_mk Tryz.func103 (by kernel_rfl) (Eq.mp (by kernel_rfl) H)
abbrev g155 (K : Value → Heap → Prop) (h H1 : Heap) (xa xb xc xd xe xf xg xh xi xj xk xl xm xn xo : Int) : Prop :=
  (K (.func (.func 205) #[] #[.pointer (some ⟨h.size, 0, none⟩), .pointer (some ⟨H1.size, 0, none⟩)]) (Array.push H1 (.cells #[.int .i64 xa, .int .i64 xb, .int .i64 xc, .int .i64 xd, .int .i64 xe, .int .i64 xf, .int .i64 xg, .int .i64 xh, .int .i64 xi, .int .i64 xj, .int .i64 xk, .int .i64 xl, .int .i64 xm, .int .i64 xn, .int .i64 xo] 69)))
def F155 (K : Value → Heap → Prop) (h : Heap) (xa : Option Addr) (xb xc : Nat) (xd xe xf xg xh xi xj xk xl xm xn xo xp xq xr : Int) : Prop :=
  (g155 K h (Array.push h (.cells #[.slice xa xb xc] 60)) xd xe xf xg xh xi xj xk xl xm xn xo xp xq xr)
theorem call155 {K : Value → Heap → Prop} {h : Heap} {xa : Option Addr} {xb xc : Nat} {xd xe xf xg xh xi xj xk xl xm xn xo xp xq xr : Int} (H : F155 K h xa xb xc xd xe xf xg xh xi xj xk xl xm xn xo xp xq xr) : CallH Tryz.prog 155 #[(.slice xa xb xc), (.agg #[(.int .i64 xd), (.int .i64 xe), (.int .i64 xf), (.int .i64 xg), (.int .i64 xh), (.int .i64 xi), (.int .i64 xj), (.int .i64 xk), (.int .i64 xl), (.int .i64 xm), (.int .i64 xn), (.int .i64 xo), (.int .i64 xp), (.int .i64 xq), (.int .i64 xr)])] h K :=
  callH_mk Tryz.func155 (by kernel_rfl) (Eq.mp (by kernel_rfl) H)
def F175 (K : Value → Heap → Prop) (h : Heap) (xa : Int) : Prop :=
  (cf 84 #[.int .u64 xa] h fun v0 h1 => asInt .i64 v0 fun n2 => K (.int .u64 (IntKind.wrap .u64 n2)) h1)
theorem call175 {K : Value → Heap → Prop} {h : Heap} {xa : Int} (H : F175 K h xa) : CallH Tryz.prog 175 #[(.int .u64 xa)] h K :=
  callH_mk Tryz.func175 (by kernel_rfl) (Eq.mp (by kernel_rfl) H)
def F178 (K : Value → Heap → Prop) (h : Heap) (xa : Int) (c0 : Value) : Prop :=
  (asPtr c0 fun a0 => lP h a0 fun o2 => nP o2 fun a3 => lS h (Addr.add a3 9) fun o5 k6 k7 => cf 179 #[.slice o5 k6 k7, .int .i64 xa] h fun v8 h9 => asBool v8 fun b10 => K (.bool b10) h9)
theorem call178 {K : Value → Heap → Prop} {h : Heap} {xa : Int} {c0 : Value} (H : F178 K h xa c0) : CallH Tryz.prog 178 #[(.int .i64 xa), c0] h K :=
  callH_mk Tryz.func178 (by kernel_rfl) (Eq.mp (by kernel_rfl) H)
def F182 (K : Value → Heap → Prop) (h : Heap) (xa xb xc : Option Addr) : Prop :=
  (nP xc fun a0 => bd 0 10 (lI .u64 h (Addr.add a0 2) fun n2 => cf 206 #[.int .u64 n2] h fun v3 h4 => asInt .i64 v3 fun n5 => nP xc fun a6 => lI .i64 h4 (Addr.add a6 1) fun n8 => ifB (n8 == 0) (nP xc fun a9 => cf 85 #[.pointer xa, .int .i64 0] h4 fun v10 h11 => asInt .u64 v10 fun n12 => bd 0 10 (stH h11 (Addr.add a9 2) (.int .u64 n12) fun h13 => nP xc fun a14 => stH h13 (Addr.add a14 1) (.int .i64 1) fun h15 => nP xc fun a16 => bd 0 10 (lI .u64 h15 (Addr.add a16 2) fun n18 => cf 206 #[.int .u64 n18] h15 fun v19 h20 => asInt .i64 v19 fun n21 => ifB (n21 == 0) (cf 44 #[.pointer xb, .slice (some ⟨h20.size, 0, none⟩) 1 1] (Array.push h20 (.cells #[.int .u64 0] 65)) fun v22 h23 => K (.tuple #[]) h23) (K (.tuple #[]) h20)))) (ifB (n8 == 1) (nP xc fun a24 => cf 117 #[.pointer xa] h4 fun v25 h26 => asAgg v25 fun vs27 => sizeH vs27 15 (elemH vs27 0 fun v28 => elemH vs27 1 fun v29 => elemH vs27 2 fun v30 => elemH vs27 3 fun v31 => elemH vs27 4 fun v32 => elemH vs27 5 fun v33 => elemH vs27 6 fun v34 => elemH vs27 7 fun v35 => elemH vs27 8 fun v36 => elemH vs27 9 fun v37 => elemH vs27 10 fun v38 => elemH vs27 11 fun v39 => elemH vs27 12 fun v40 => elemH vs27 13 fun v41 => elemH vs27 14 fun v42 => cf 65 #[.agg #[v28, v29, v30, v31, v32, v33, v34, v35, v36, v37, v38, v39, v40, v41, v42], .int .i64 n5] h26 fun v43 h44 => asInt .i64 v43 fun n45 => cf 85 #[.pointer xa, .int .i64 n45] h44 fun v46 h47 => asInt .u64 v46 fun n48 => bd 1 10 (stH h47 (Addr.add a24 3) (.int .u64 n48) fun h49 => nP xc fun a50 => stH h49 (Addr.add a50 1) (.int .i64 2) fun h51 => K (.tuple #[]) h51))) (nP xc fun a52 => stH h4 (Addr.add a52 1) (.int .i64 0) fun h53 => nP xc fun a54 => bd 0 10 (lI .u64 h53 (Addr.add a54 2) fun n56 => nP xc fun a57 => bd 1 10 (lI .u64 h53 (Addr.add a57 3) fun n59 => cf 219 #[.pointer xa, .int .u64 n56, .int .i64 (IntKind.wrap .i64 n59)] h53 fun v60 h61 => asBool v60 fun b62 => ifB b62 (cf 220 #[.pointer xa, .int .i64 n5] h61 fun v63 h64 => cf 44 #[.pointer xb, .slice (some ⟨h64.size, 0, none⟩) 1 1] (Array.push h64 (.cells #[.int .u64 (IntKind.wrap .u64 n5)] 65)) fun v65 h66 => K (.tuple #[]) h66) (K (.tuple #[]) h61)))))))
theorem call182 {K : Value → Heap → Prop} {h : Heap} {xa xb xc : Option Addr} (H : F182 K h xa xb xc) : CallH Tryz.prog 182 #[(.pointer xa), (.pointer xb), (.pointer xc)] h K :=
  callH_mk Tryz.func182 (by kernel_rfl) (Eq.mp (by kernel_rfl) H)
def F183 (K : Value → Heap → Prop) (h : Heap) (xa xb xc : Option Addr) : Prop :=
  (nP xc fun a0 => bd 0 10 (lI .u64 h (Addr.add a0 2) fun n2 => nP xc fun a3 => lI .i64 h (Addr.add a3 1) fun n5 => ifB (n5 == 0) (nP xc fun a6 => cf 85 #[.pointer xa, .int .i64 0] h fun v7 h8 => asInt .u64 v7 fun n9 => bd 1 10 (stH h8 (Addr.add a6 3) (.int .u64 n9) fun h10 => nP xc fun a11 => stH h10 (Addr.add a11 1) (.int .i64 1) fun h12 => K (.tuple #[]) h12)) (ifB (n5 == 1) (nP xc fun a13 => bd 1 10 (ldH h (Addr.add a13 3) fun v14 => asInt .u64 v14 fun n15 => cf 117 #[.pointer xa] h fun v16 h17 => asAgg v16 fun vs18 => sizeH vs18 15 (elemH vs18 0 fun v19 => elemH vs18 1 fun v20 => elemH vs18 2 fun v21 => elemH vs18 3 fun v22 => elemH vs18 4 fun v23 => elemH vs18 5 fun v24 => elemH vs18 6 fun v25 => elemH vs18 7 fun v26 => elemH vs18 8 fun v27 => elemH vs18 9 fun v28 => elemH vs18 10 fun v29 => elemH vs18 11 fun v30 => elemH vs18 12 fun v31 => elemH vs18 13 fun v32 => elemH vs18 14 fun v33 => ((cellAt h17 (Addr.add a13 3)) = (some v14)) ∧ (cf 65 #[.agg #[v19, v20, v21, v22, v23, v24, v25, v26, v27, v28, v29, v30, v31, v32, v33], .int .i64 (IntKind.wrap .i64 n2)] h17 fun v34 h35 => asInt .i64 v34 fun n36 => ((cellAt h35 (Addr.add a13 3)) = (some v14)) ∧ (cf 206 #[.int .u64 n15] h35 fun v37 h38 => asInt .i64 v37 fun n39 => cf 129 #[.pointer xa, .int .i64 n36, .int .u64 (IntKind.wrap .u64 n39)] h38 fun v40 h41 => nP xc fun a42 => stH h41 (Addr.add a42 1) (.int .i64 2) fun h43 => K (.tuple #[]) h43))))) (nP xc fun a44 => stH h (Addr.add a44 1) (.int .i64 0) fun h45 => nP xc fun a46 => bd 1 10 (lI .u64 h45 (Addr.add a46 3) fun n48 => cf 219 #[.pointer xa, .int .u64 n48, .int .i64 (IntKind.wrap .i64 n2)] h45 fun v49 h50 => asBool v49 fun b51 => ifB b51 (cf 221 #[.pointer xa, .int .i64 (IntKind.wrap .i64 n2)] h50 fun v52 h53 => cf 44 #[.pointer xb, .slice (some ⟨h53.size, 0, none⟩) 1 1] (Array.push h53 (.cells #[.int .u64 (IntKind.wrap .u64 (IntKind.wrap .i64 n2))] 65)) fun v54 h55 => K (.tuple #[]) h55) (K (.tuple #[]) h50))))))
theorem call183 {K : Value → Heap → Prop} {h : Heap} {xa xb xc : Option Addr} (H : F183 K h xa xb xc) : CallH Tryz.prog 183 #[(.pointer xa), (.pointer xb), (.pointer xc)] h K :=
  callH_mk Tryz.func183 (by kernel_rfl) (Eq.mp (by kernel_rfl) H)
def F205 (K : Value → Heap → Prop) (h : Heap) (xa c0 c1 : Value) : Prop :=
  (asPtr c0 fun a0 => lS h a0 fun o2 k3 k4 => bd 0 (k3 : Int) (asPtr (.pointer o2) fun a5 => lI .u64 h a5 fun n7 => cf 206 #[.int .u64 n7] h fun v8 h9 => asInt .i64 v8 fun n10 => asPtr c1 fun a11 => ldH h9 a11 fun v12 => ldH h9 (Addr.add a11 1) fun v13 => ldH h9 (Addr.add a11 2) fun v14 => ldH h9 (Addr.add a11 3) fun v15 => ldH h9 (Addr.add a11 4) fun v16 => ldH h9 (Addr.add a11 5) fun v17 => ldH h9 (Addr.add a11 6) fun v18 => ldH h9 (Addr.add a11 7) fun v19 => ldH h9 (Addr.add a11 8) fun v20 => ldH h9 (Addr.add a11 9) fun v21 => ldH h9 (Addr.add a11 10) fun v22 => ldH h9 (Addr.add a11 11) fun v23 => ldH h9 (Addr.add a11 12) fun v24 => ldH h9 (Addr.add a11 13) fun v25 => ldH h9 (Addr.add a11 14) fun v26 => cf 62 #[.agg #[v12, v13, v14, v15, v16, v17, v18, v19, v20, v21, v22, v23, v24, v25, v26]] h9 fun v27 h28 => asAgg v27 fun vs29 => sizeH vs29 7 (elemH vs29 0 fun v30 => elemH vs29 1 fun v31 => elemH vs29 2 fun v32 => elemH vs29 3 fun v33 => elemH vs29 4 fun v34 => elemH vs29 5 fun v35 => elemH vs29 6 fun v36 => asInt .i64 v32 fun n37 => exI fun I38 => exM fun m39 => (I38 [.int .i64 n10, .tuple #[], .int .i64 0] h28) ∧ (∀ (v40 v41 v42 : Value) (g43 : Env) (h44 : Heap), (I38 [v40, v41, v42] h44) → (asInt .i64 v42 fun n45 => ifB (decide (n45 < n37)) (asPtr c1 fun a46 => ldH h44 a46 fun v47 => ldH h44 (Addr.add a46 1) fun v48 => ldH h44 (Addr.add a46 2) fun v49 => ldH h44 (Addr.add a46 3) fun v50 => ldH h44 (Addr.add a46 4) fun v51 => ldH h44 (Addr.add a46 5) fun v52 => ldH h44 (Addr.add a46 6) fun v53 => ldH h44 (Addr.add a46 7) fun v54 => ldH h44 (Addr.add a46 8) fun v55 => ldH h44 (Addr.add a46 9) fun v56 => ldH h44 (Addr.add a46 10) fun v57 => ldH h44 (Addr.add a46 11) fun v58 => ldH h44 (Addr.add a46 12) fun v59 => ldH h44 (Addr.add a46 13) fun v60 => ldH h44 (Addr.add a46 14) fun v61 => asInt .i64 v40 fun n62 => cf 65 #[.agg #[v47, v48, v49, v50, v51, v52, v53, v54, v55, v56, v57, v58, v59, v60, v61], .int .i64 n62] h44 fun v63 h64 => asInt .i64 v63 fun n65 => exI fun I66 => (ifB (decide (n65 < 0)) (I66 [.bool true] h64) (asInt .i64 v40 fun n67 => callV Tryz.prog xa #[.int .i64 n67] h64 fun v68 h69 => asBool v68 fun b70 => I66 [.bool (!b70)] h69)) ∧ (∀ (v71 : Value) (g72 : Env) (h73 : Heap), (I66 [v71] h73) → (asBool v71 fun b74 => ifB b74 (K (.tuple #[]) h73) (asPtr c0 fun a75 => lS h73 a75 fun o77 k78 k79 => bd n65 (k78 : Int) (asPtr (.pointer o77) fun a80 => lI .u64 h73 (Addr.add a80 (n65.toNat * 1)) fun n82 => asInt .i64 v42 fun n83 => (I38 [.int .i64 (IntKind.wrap .i64 n82), .int .i64 n65, .int .i64 (IntKind.wrap .i64 (n83 + 1))] h73) ∧ ((m39 [.int .i64 (IntKind.wrap .i64 n82), .int .i64 n65, .int .i64 (IntKind.wrap .i64 (n83 + 1))] h73) < (m39 [v40, v41, v42] h44))))))) (K (.tuple #[]) h44))))))
theorem call205 {K : Value → Heap → Prop} {h : Heap} {xa c0 c1 : Value} (H : F205 K h xa c0 c1) : CallH Tryz.prog 205 #[xa, c0, c1] h K :=
  callH_mk Tryz.func205 (by kernel_rfl) (Eq.mp (by kernel_rfl) H)
def F206 (K : Value → Heap → Prop) (h : Heap) (xa : Int) : Prop :=
  (cf 84 #[.int .u64 xa] h fun v0 h1 => asInt .i64 v0 fun n2 => K (.int .i64 n2) h1)
theorem call206 {K : Value → Heap → Prop} {h : Heap} {xa : Int} (H : F206 K h xa) : CallH Tryz.prog 206 #[(.int .u64 xa)] h K :=
  callH_mk Tryz.func206 (by kernel_rfl) (Eq.mp (by kernel_rfl) H)
def F219 (K : Value → Heap → Prop) (h : Heap) (xa : Option Addr) (xb xc : Int) : Prop :=
  (cf 144 #[.int .u64 xb, .int .i64 xc, .bool false] h fun v0 h1 => asInt .u64 v0 fun n2 => cf 152 #[.pointer xa, .int .i64 0, .int .u64 xb, .int .u64 n2] h1 fun v3 h4 => asBool v3 fun b5 => K (.bool b5) h4)
theorem call219 {K : Value → Heap → Prop} {h : Heap} {xa : Option Addr} {xb xc : Int} (H : F219 K h xa xb xc) : CallH Tryz.prog 219 #[(.pointer xa), (.int .u64 xb), (.int .i64 xc)] h K :=
  callH_mk Tryz.func219 (by kernel_rfl) (Eq.mp (by kernel_rfl) H)
end
section
open Mod
section
variable {K : Value → Heap → Prop} {h : Heap} {M T b o N : Nat} {tv : Value} {fo : Option (Nat × Nat)} {x : Run} {R : Hp}
theorem aPtr_call {w : Int} (hw : U w) (k : K (.int .i64 (wptr w)) h) : CallH Tryz.prog 206 #[.int .u64 w] h K := by
  refine call206 ?_
  unfold F206 cf
  refine callV_fn (wPtr_call hw ?_)
  simp only [asInt_int]
  exact k
theorem aSwing_call (H : Sat h (RunS M T tv fo x R)) {w to_ : Int} (hw : U w) (hs : x.m.mm.st < 1099511627776) (k : ∀ h', Sat h' (RunS M T tv fo (x.cas 0 w (wnext w to_ false)).2 R) → K (.bool (x.cas 0 w (wnext w to_ false)).1) h') :
    CallH Tryz.prog 219 #[mP M, .int .u64 w, .int .i64 to_] h K := by
  refine call219 ?_
  unfold F219 cf
  refine callV_fn (wNext_call hw ?_)
  simp only [asInt_int]
  refine callV_fn (rCas H (by decide) wNext_U hs fun h' H' => ?_)
  simp only [asBool_bool]
  exact k h' H'
theorem alloc_call (H : Sat h (RunS M T tv (some (b, o)) x R)) (hs : x.m.mm.st < 1099511627776) (k : ∀ h', Sat h' (RunS M T tv none (alloc x) R) → K (.tuple #[]) h') :
    CallH Tryz.prog 182 #[mP M, mP T, fP b o] h K := by
  refine call182 ?_
  unfold F182 cf bd lI nP
  have B := RunS.fB H
  have P := RunS.pl H
  unfold alloc at k
  try simp +decide only [nilC, bsx, Nat.reduceAdd, Int.reduceLE, Int.reduceLT, Int.reduceToNat, rsx, g_s, g_s_ne, RunS.r H]
  refine callV_fn (aPtr_call (B.g 0) ?_)
  try simp +decide only [nilC, bsx, Nat.reduceAdd, Int.reduceLE, Int.reduceLT, Int.reduceToNat, rsx, g_s, g_s_ne, RunS.r H]
  refine ifB_dec (fun c => ?_) (fun c => ?_)
  · rw [if_pos c] at k
    refine callV_fn (rLoad H (by decide) hs fun h1 H1 u1 => ?_)
    try simp only [nilC, bsx, Nat.reduceAdd, Int.reduceLE, Int.reduceLT, Int.reduceToNat]
    refine RunS.stR (i := 0) H1 rfl u1 fun h2 H2 => RunS.stP H2 fun h3 H3 => ?_
    try simp +decide only [nilC, bsx, Nat.reduceAdd, Int.reduceLE, Int.reduceLT, Int.reduceToNat, rsx, g_s, g_s_ne, RunS.r H3, B.len]
    refine callV_fn (aPtr_call u1 ?_)
    try simp only [nilC, bsx, Nat.reduceAdd, Int.reduceLE, Int.reduceLT, Int.reduceToNat]
    refine ifB_dec (fun c2 => ?_) (fun c2 => ?_)
    · simp only [if_pos c2] at k
      exact callV_fn (rPopN H3 [0] rfl (one_U U0) (by omega) fun h4 H4 => k h4 H4)
    · simp only [if_neg c2] at k
      exact k h3 (RunS.none H3)
  rw [if_neg c] at k
  refine ifB_dec (fun c => ?_) (fun c => ?_)
  · rw [if_pos c] at k
    refine callV_fn (rPlan H fun h1 H1 => pl15 ?_)
    refine callV_fn (plLink_call P (wptr_iN _) fun h2 o2 => ?_)
    try simp only [nilC, bsx, Nat.reduceAdd, Int.reduceLE, Int.reduceLT, Int.reduceToNat]
    refine callV_fn (rLoad (RunS.old H1 o2) (link_iN P _) hs fun h3 H3 u3 => ?_)
    try simp only [nilC, bsx, Nat.reduceAdd, Int.reduceLE, Int.reduceLT, Int.reduceToNat]
    exact RunS.stR (i := 1) H3 rfl u3 fun h4 H4 => RunS.stP H4 fun h5 H5 => k h5 (RunS.none H5)
  · rw [if_neg c] at k
    refine RunS.stP H fun h1 H1 => ?_
    try simp +decide only [nilC, bsx, Nat.reduceAdd, Int.reduceLE, Int.reduceLT, Int.reduceToNat, rsx, g_s, g_s_ne, RunS.r H1]
    refine callV_fn (aSwing_call H1 (B.g 0) hs fun h2 H2 => ?_)
    try simp only [nilC, bsx, Nat.reduceAdd, Int.reduceLE, Int.reduceLT, Int.reduceToNat]
    refine ifB_mk (fun c => ?_) (fun c => ?_)
    · simp only [if_pos c] at k
      refine callV_fn (rTook H2 (wptr_iN _) fun h3 H3 => ?_)
      exact callV_fn (rPopN H3 [wptr (x.f.g 0)] rfl (one_U (wptr_U _)) (by omega) fun h4 H4 => k h4 H4)
    · simp only [c] at k
      exact k h2 (RunS.none H2)
theorem release_call (H : Sat h (RunS M T tv (some (b, o)) x R)) (hs : x.m.mm.st < 1099511627776) (k : ∀ h', Sat h' (RunS M T tv none (release x) R) → K (.tuple #[]) h') :
    CallH Tryz.prog 183 #[mP M, mP T, fP b o] h K := by
  refine call183 ?_
  unfold F183 cf bd lI nP
  have B := RunS.fB H
  have P := RunS.pl H
  unfold release at k
  try simp +decide only [nilC, bsx, Nat.reduceAdd, Int.reduceLE, Int.reduceLT, Int.reduceToNat, rsx, g_s, g_s_ne, RunS.r H]
  refine ifB_dec (fun c => ?_) (fun c => ?_)
  · rw [if_pos c] at k
    refine callV_fn (rLoad H (by decide) hs fun h1 H1 u1 => ?_)
    try simp only [nilC, bsx, Nat.reduceAdd, Int.reduceLE, Int.reduceLT, Int.reduceToNat]
    exact RunS.stR (i := 1) H1 rfl u1 fun h2 H2 => RunS.stP H2 fun h3 H3 => k h3 (RunS.none H3)
  rw [if_neg c] at k
  refine ifB_dec (fun c => ?_) (fun c => ?_)
  · rw [if_pos c] at k
    refine callV_fn (rPlan H fun h1 H1 => pl15 ⟨(RunS.c H1).2.2.1, ?_⟩)
    refine callV_fn (plLink_call P (s64_iN _) fun h2 o2 => ?_)
    have H2 := RunS.old H1 o2
    try simp only [nilC, bsx, Nat.reduceAdd, Int.reduceLE, Int.reduceLT, Int.reduceToNat, RunS.c H2]
    refine callV_fn (aPtr_call (B.g 1) ?_)
    try simp only [nilC, bsx, Nat.reduceAdd, Int.reduceLE, Int.reduceLT, Int.reduceToNat]
    refine callV_fn (rStore H2 (link_iN P _) (wptr_U _) hs fun h3 H3 => ?_)
    exact RunS.stP H3 fun h4 H4 => k h4 (RunS.none H4)
  · rw [if_neg c] at k
    refine RunS.stP H fun h1 H1 => ?_
    try simp +decide only [nilC, bsx, Nat.reduceAdd, Int.reduceLE, Int.reduceLT, Int.reduceToNat, rsx, g_s, g_s_ne, RunS.r H1]
    refine callV_fn (aSwing_call H1 (B.g 1) hs fun h2 H2 => ?_)
    try simp only [nilC, bsx, Nat.reduceAdd, Int.reduceLE, Int.reduceLT, Int.reduceToNat]
    refine ifB_mk (fun c => ?_) (fun c => ?_)
    · simp only [if_pos c] at k
      refine callV_fn (rFreed H2 (s64_iN _) fun h3 H3 => ?_)
      exact callV_fn (rPopN H3 [u64 (x.f.g 0)] rfl (one_U (u64_U _)) (by omega) fun h4 H4 => k h4 (by rw [u64_s64]; exact H4))
    · simp only [c] at k
      exact k h2 (RunS.none H2)
end
end
section

end
section
def OpAt9 (h : Heap) (ad : Addr) (o : Op9) : Prop := cellAt h ad = some (.int .i64 o.th) ∧ ∀ j v, o.cells[j]? = some v → cellAt h (ad.add j) = some v
theorem ld9 {h : Heap} {ad : Addr} {o : Op9} {K : Value → Value → Value → Value → Value → Value → Value → Value → Value → Prop} (H : OpAt9 h ad o)
    (k : K (.int .i64 o.th) (.int .i64 o.op) (.int .u32 o.key) (.int .u32 o.val) (.int .i64 o.kind) (.int .u32 o.ak) (.int .u32 o.av) (.int .i64 o.fr) (.int .i64 o.to)) :
    ldH h ad fun v0 => ldH h (ad.add 1) fun v1 => ldH h (ad.add 2) fun v2 => ldH h (ad.add 3) fun v3 => ldH h (ad.add 4) fun v4 => ldH h (ad.add 5) fun v5 => ldH h (ad.add 6) fun v6 => ldH h (ad.add 7) fun v7 => ldH h (ad.add 8) fun v8 => K v0 v1 v2 v3 v4 v5 v6 v7 v8 :=
  ldH_mk H.1 (ldH_mk (H.2 1 _ rfl) (ldH_mk (H.2 2 _ rfl) (ldH_mk (H.2 3 _ rfl) (ldH_mk (H.2 4 _ rfl) (ldH_mk (H.2 5 _ rfl) (ldH_mk (H.2 6 _ rfl) (ldH_mk (H.2 7 _ rfl) (ldH_mk (H.2 8 _ rfl) k))))))))
end
section
def OldA (av : Nat → Prop) (h h' : Heap) : Prop := h.size ≤ h'.size ∧ ∀ b, b < h.size → ¬ av b → h'[b]? = h[b]?
theorem OldA.of {av : Nat → Prop} {h h' : Heap} (o : Old h.size h h') : OldA av h h' := ⟨o.1, fun b hb _ => o.2 b hb⟩
theorem OldA.cell {av : Nat → Prop} {h h' : Heap} {a : Addr} {v : Value} (o : OldA av h h') (ha : ¬ av a.block) (hc : cellAt h a = some v) : cellAt h' a = some v := (cellAt_congr (o.2 _ (cellAt_lt hc) ha)).trans hc
def SeqLA (av : Nat → Prop) (g : Value) (L : List Int) (h : Heap) : Prop :=
  ∃ f fst cap Ev, g = .func (.func f) fst cap ∧ SeqH Tryz.prog g L.length (seqOf L) Ev ∧ Ev h ∧ ∀ h h', OldA av h h' → Ev h → Ev h'
def KeepOnA (av : Nat → Prop) (f : Value) (D : Int → Prop) (p : Int → Bool) (h : Heap) : Prop :=
  (∃ g x y, f = .func (.func g) x y) ∧ ∃ Ev : Heap → Prop, Ev h ∧ (∀ h h', OldA av h h' → Ev h → Ev h') ∧
    ∀ (h : Heap) (x : Int) (K : Value → Heap → Prop), Ev h → D x → (∀ h', Old h.size h h' → K (.bool (p x)) h') → callV Tryz.prog f #[.int .i64 x] h K
theorem KeepOnA.old {av : Nat → Prop} {f : Value} {D : Int → Prop} {p : Int → Bool} {h h' : Heap} (H : KeepOnA av f D p h) (o : OldA av h h') : KeepOnA av f D p h' := by
  obtain ⟨e, Ev, h1, h2, h3⟩ := H
  exact ⟨e, Ev, h2 _ _ o h1, h2, h3⟩
theorem KeepOnA.call {av : Nat → Prop} {f : Value} {D : Int → Prop} {p : Int → Bool} {h : Heap} (H : KeepOnA av f D p h) {x : Int} (hD : D x) {K : Value → Heap → Prop} (k : ∀ h', Old h.size h h' → K (.bool (p x)) h') : callV Tryz.prog f #[.int .i64 x] h K := by
  obtain ⟨_, Ev, h1, _, h3⟩ := H
  exact h3 _ _ _ h1 hD k
theorem onlyA_call {K : Value → Heap → Prop} {h : Heap} {av : Nat → Prop} {g f : Value} {L : List Int} {D : Int → Prop} {p : Int → Bool} (H : SeqLA av g L h) (Hk : KeepOnA av f D p h) (hD : ∀ x ∈ L, D x) (hav : ∀ b, av b → b < h.size)
    (k : ∀ g' h', SeqLA av g' (L.filter p) h' → Old h.size h h' → K g' h') : CallH Tryz.prog 217 #[g, f] h K := by
  obtain ⟨f0, fst, cap, Ev, rfl, hs, he, hst⟩ := H
  obtain ⟨⟨f1, a1, a2, rfl⟩, Ek, hk1, hk2, hk3⟩ := Hk
  refine call217 ?_
  unfold F217 g217
  obtain ⟨ho, h1, h2⟩ := push2 (h := h) (.cells #[.func (.func f0) fst cap] 184) (.cells #[.func (.func f1) a1 a2] 203)
  simp only [oneC_func]
  rw [Array.size_push]
  generalize (h.push (.cells #[.func (.func f0) fst cap] 184)).push (.cells #[.func (.func f1) a1 a2] 203) = h5 at *
  refine ⟨fun vs h' => vs = [.bool false] ∧ h' = h5, ?_, ?_⟩
  · refine ldH_mk (cellAt_row h1) ?_
    simp only [asFnNil_func, ifB_false]
    refine ldH_mk (cellAt_row h2) ?_
    simp only [asFnNil_func]
    exact ⟨by trivial, by trivial⟩
  · rintro v5 g6 h7 ⟨e, rfl⟩
    cases e
    simp only [asBool_bool, ifB_false]
    refine k _ _ ⟨_, _, _, _, rfl, only_seq hD (show fnV (.func (.func f0) fst cap) from trivial) hs (fun a b o e => hst _ _ (OldA.of o) e) (fun a b o e => hk2 _ _ (OldA.of o) e) hk3, ⟨cellAt_row h1, cellAt_row h2, hst _ _ (OldA.of ho) he, hk2 _ _ (OldA.of ho) hk1⟩,
      fun a b o e => ⟨o.cell (fun x => ?_) e.1, o.cell (fun x => ?_) e.2.1, hst _ _ o e.2.2.1, hk2 _ _ o e.2.2.2⟩⟩ ho
    · have := hav _ x; simp at this
    · have := hav _ x; simp at this; omega
end
section
open Mod
theorem indexI_call {K : Value → Heap → Prop} {h : Heap} {a : Option Addr} {l c : Nat} {xs : List Int} {x : Int} (H : RI h a l c xs) (hl : l < 2 ^ 60) (k : ∀ n : Int, (decide (n ≥ 0) = xs.contains x) → K (.int .i64 n) h) :
    CallH Tryz.prog 215 #[.slice a l c, .int .i64 x] h K := by
  refine call215 ?_
  unfold F215 bd lI
  have hlen := H.len
  refine ⟨fun vs h' => ∃ w1 w2, ∃ i : Nat, vs = [w1, w2, iv i] ∧ i ≤ l ∧ h' = h ∧ (xs.take i).contains x = false, fun vs _ => (match vs with | [_, _, .int _ n] => l - n.toNat | _ => 0), ⟨_, _, 0, rfl, Nat.zero_le _, rfl, rfl⟩, ?_⟩
  rintro v2 v3 v4 g5 h6 ⟨w1, w2, i, e, hi, rfl, hno⟩
  cases e
  simp only [asInt_int]
  refine ifB_dec (fun hlt => ?_) (fun hge => ?_)
  · have hi' : i < xs.length := by omega
    obtain ⟨ad, rfl, hc⟩ := H.at hi'
    have htk : (xs.take (i + 1)).contains x = ((xs.take i).contains x || (xs[i] == x)) := by
      rw [List.take_succ_eq_append_getElem hi', Bool.eq_iff_iff, Bool.or_eq_true, List.contains_iff_mem, List.contains_iff_mem, List.mem_append, List.mem_singleton, beq_iff_eq]
      exact or_congr Iff.rfl eq_comm
    refine ⟨by omega, hlt, ?_⟩
    simp only [asPtr_some, Int.toNat_natCast, Nat.mul_one]
    refine ldH_mk hc ?_
    simp only [asInt_int]
    refine ifB_mk (fun hq => ?_) (fun hq => ?_)
    · have hq' : x = xs[i] := by simpa using hq
      refine k i ?_
      have : xs.contains x = true := by rw [hq']; simp
      rw [this]; simp
    · rw [nat_wrap1 (by omega)]
      have hq' : ¬ x = xs[i] := by simpa using hq
      exact ⟨⟨_, _, i + 1, rfl, by omega, by trivial, by rw [htk, hno]; simp [Ne.symm hq']⟩, by show l - ((i + 1 : Nat) : Int).toNat < l - (i : Int).toNat; omega⟩
  · rw [List.take_of_length_le (by omega)] at hno
    exact k (-1) (by rw [hno]; decide)
theorem containsI_call {K : Value → Heap → Prop} {h : Heap} {a : Option Addr} {l c : Nat} {xs : List Int} {x : Int} (H : RI h a l c xs) (hl : l < 2 ^ 60) (k : K (.bool (xs.contains x)) h) :
    CallH Tryz.prog 179 #[.slice a l c, .int .i64 x] h K := by
  refine call179 ?_
  unfold F179 cf
  refine callV_fn (indexI_call H hl fun n hn => ?_)
  simp only [asInt_int]
  rw [hn]; exact k
theorem RI.congrA {av : Nat → Prop} {h h' : Heap} {a : Option Addr} {l c : Nat} {xs : List Int} (H : RI h a l c xs) (o : OldA av h h') (ha : xs ≠ [] → ∀ ad, a = some ad → ¬ av ad.block) : RI h' a l c xs := by
  refine ⟨fun i v hi => ?_, H.len, H.cap⟩
  obtain ⟨ad, e, hc⟩ := H.s i v hi
  refine ⟨ad, e, (cellAt_congr ?_).trans hc⟩
  have hlt := cellAt_lt hc
  rw [add_block] at hlt ⊢
  exact o.2 _ hlt (ha (fun e => by rw [e] at hi; simp at hi) ad e)
theorem ofIA_call {K : Value → Heap → Prop} {h : Heap} {av : Nat → Prop} {a : Option Addr} {l c : Nat} {xs : List Int} (H : RI h a l c xs) (hl : l < 2 ^ 60) (hna : xs ≠ [] → ∀ ad, a = some ad → ¬ av ad.block) (hav : ∀ b, av b → b < h.size) (k : ∀ g h', SeqLA av g xs h' → Old h.size h h' → K g h') :
    CallH Tryz.prog 218 #[.slice a l c] h K := by
  refine call218 ?_
  unfold F218
  have o1 : Old h.size h (h.push (.cells #[.slice a l c] 25)) := (Old.refl _ _).push _ (Nat.le_refl _)
  exact k _ _ ⟨_, _, _, _, rfl, of_seq hl, ⟨cellAt_row (push_new _ _), H.old o1⟩, fun h h' o e => ⟨o.cell (fun x => by have := hav _ x; simp at this) e.1, e.2.congrA o hna⟩⟩ o1
theorem range_collect {h : Heap} {N : Nat} {g : Value} {L : List Int} {D : Heap → Prop} (H : SeqLA (fun b => b = N) g L h) (hN : h[N]? = some (.cells #[.slice none 0 0] 25)) (hn : L.length ≤ 2 ^ 39)
    (k : ∀ h' a c, h.size ≤ h'.size → (∀ b, b < h.size → b ≠ N → h'[b]? = h[b]?) → h'[N]? = some (.cells #[.slice a L.length c] 25) → OwnI h' a L.length c L → (∀ b, blk a b → h.size ≤ b) → D h') :
    rangeH Tryz.prog g 1 h (fun I vs hh => asInt .i64 (vs.getD 0 (.tuple #[])) fun n => ldH hh ⟨N, 0, none⟩ fun v => asSlice v fun o l c => appH Tryz.prog #[25, 25] 25 #[.slice o l c, .slice (some ⟨hh.size, 0, none⟩) 1 1] (hh.push (.cells #[.int .i64 n] 3)) fun v h2 => asSlice v fun o l c => stH h2 ⟨N, 0, none⟩ (.slice o l c) fun h3 => I .normal h3) D [] := by
  obtain ⟨f0, fst, cap, Ev, rfl, hs, he, hst⟩ := H
  have hlt := (Array.getElem?_eq_some_iff.1 hN).1
  refine rangeH_own (n := L.length) (xs := seqOf L) (Ev := Ev)
    (fun j w h' => h.size ≤ h'.size ∧ (∀ b, b < h.size → b ≠ N → h'[b]? = h[b]?) ∧ ∃ a c, h'[N]? = some (.cells #[.slice a j c] 25) ∧ OwnI h' a j c (L.take j) ∧ ∀ b, blk a b → w b) (fun _ _ _ => False)
    (show fnV (.func (.func f0) fst cap) from trivial) hs (fun _ _ => rfl) ?_ (fun _ _ _ _ _ _ _ x => x) (fun j w' h' x => hst _ _ ⟨x.1, x.2.1⟩ he) ⟨Nat.le_refl _, fun _ _ _ => rfl, none, 0, hN, Own.nil _ _ _, fun b hb => by obtain ⟨_, e, _⟩ := hb; cases e⟩ ?_ ?_ trivial
  · rintro j w' ha hb hs1 hs2 hw ⟨x1, x2, a, c, x3, x4, x5⟩
    exact ⟨Nat.le_trans x1 hs1, fun b hb hne => (hs2 b hb).trans (x2 b hb hne), a, c, (hs2 _ hlt).trans x3, x4.congr fun b hb => hw b (x5 b hb), x5⟩
  · rintro M j w' h13 hj hM hs1 hw ⟨x1, x2, a, c, x3, x4, x5⟩
    have e2 : (seqOf L j).getD 0 (.tuple #[]) = .int .i64 L[j] := by unfold seqOf; simp [hj]
    rw [e2]
    simp only [asInt_int]
    refine ldH_mk (cellAt_row x3) ?_
    simp only [asSlice_slice]
    refine app_int x4 (by omega) fun a2 c2 h2 own2 hs2 old2 hor => ?_
    simp only [asSlice_slice]
    have hNa : ∀ ad, a = some ad → ad.block ≠ N := fun ad e he => by
      have := (hw _ (x5 _ ⟨ad, e, rfl⟩)).1
      omega
    have x3' : h2[N]? = some (.cells #[.slice a j c] 25) := (old2 _ (by omega) hNa).trans x3
    refine stH_mk x3' (by simp) trivial ?_
    rintro h21 rfl
    have hbig : ∀ b, blk a2 b → M ≤ b := by
      rintro b ⟨ad, e, rfl⟩
      rcases hor with rfl | ⟨b', rfl, hb⟩
      · exact (hw _ (x5 _ ⟨ad, e, rfl⟩)).1
      · cases e; show M ≤ b'; omega
    have own3 : OwnI (h2.setIfInBounds N (.cells ((#[.slice a j c] : Array Value).setIfInBounds 0 (.slice a2 (j + 1) c2)) 25)) a2 (j + 1) c2 (L.take j ++ [L[j]]) :=
      own2.congr fun b hb => set_old (by have := hbig b hb; omega)
    refine ⟨⟨by simp; exact hs2, fun b hb1 hb2 => ?_⟩, by simp; omega, blk a2, fun b hb => ⟨hbig b hb, ?_⟩, by simp; omega, fun b hb hne => ?_, a2, c2, ?_, ?_, fun b hb => hb⟩
    · refine (set_old (by omega)).trans (old2 b (by omega) fun ad e he => ?_)
      have := (hw _ (x5 _ ⟨ad, e, rfl⟩)).1
      omega
    · rcases own3.2.2 with ⟨e, _⟩ | ⟨b', row, e, hb', _⟩
      · obtain ⟨_, e', _⟩ := hb; rw [e] at e'; cases e'
      · obtain ⟨ad, e', rfl⟩ := hb
        rw [e] at e'
        cases e'
        exact ⟨row, _, _, hb'⟩
    · refine (set_old hne).trans ((old2 b (by omega) fun ad e he => ?_).trans (x2 b hb hne))
      have := (hw _ (x5 _ ⟨ad, e, rfl⟩)).1
      omega
    · exact set_new (by omega)
    · rw [List.take_succ_eq_append_getElem hj]; exact own3
  · rintro M w' h22 hM hs1 hw ⟨x1, x2, a, c, x3, x4, x5⟩
    rw [List.take_length] at x4
    exact k h22 a c x1 x2 x3 x4 fun b hb => by have := (hw b (x5 b hb)).1; omega
end
section
open Mod
def Thr.setRe (t : Thr) (l : List Int) : Thr := { t with retired := l }
def Thr.setFo (t : Thr) (l : List Int) : Thr := { t with found := l }
theorem thrS_re {h : Heap} {T : Nat} {fo : Option (Nat × Nat)} {t : Thr} {id : Int} {R : Hp} (H : Sat h (thrS T fo t id * R)) : ∃ a c, cellAt h ⟨T, 8, none⟩ = some (.slice a t.retired.length c) ∧ OwnI h a t.retired.length c t.retired := by
  obtain ⟨B, x, H0⟩ := thrS_iff.1 H
  exact ⟨_, _, cellR H0.at rfl, Sat.own (Sat.drop (Sat.drop (Sat.drop (Sat.drop (Sat.drop H0)))))⟩
theorem thrS_fo {h : Heap} {T : Nat} {fo : Option (Nat × Nat)} {t : Thr} {id : Int} {R : Hp} (H : Sat h (thrS T fo t id * R)) : ∃ a c, cellAt h ⟨T, 9, none⟩ = some (.slice a t.found.length c) ∧ OwnF h a t.found.length c t.found := by
  obtain ⟨B, x, H0⟩ := thrS_iff.1 H
  exact ⟨_, _, cellR H0.at rfl, Sat.ownf (Sat.drop (Sat.drop (Sat.drop (Sat.drop (Sat.drop (Sat.drop H0))))))⟩
theorem thrS_setRe {h : Heap} {T : Nat} {fo : Option (Nat × Nat)} {t : Thr} {id : Int} {R : Hp} {a : Option Addr} {l c : Nat} {xs : List Int} {K : Heap → Prop} (H : Sat h (ownS 3 1 a l c (xs.map iv) * (thrS T fo t id * R))) (hx : ∀ v ∈ xs, iN v) (hl : l ≤ 1073741824)
    (k : ∀ h', Sat h' (thrS T fo (Thr.setRe t xs) id * R) → K h') : stH h ⟨T, 8, none⟩ (.slice a l c) K := by
  have hlen : xs.length = l := by have := H.own.1; simpa using this
  rw [star_left] at H
  obtain ⟨B, x, H0⟩ := thrS_iff.1 H
  refine H0.st rfl trivial fun h' H1 => k h' (thrS_iff.2 ⟨{ B with re := a, ren := c }, ⟨?_, ?_⟩, ?_⟩)
  · obtain ⟨b1, b2, b3, b4, b5, b6, b7, b8⟩ := x.1
    exact ⟨b1, b2, b3, b4, b5, hx, b7, by unfold Thr.setRe; simp only; omega⟩
  · exact x.2
  · unfold Thr.setRe thrC
    simp only [hlen]
    refine Sat.drop (P := ownS 3 1 B.re t.retired.length B.ren (t.retired.map iv)) (Sat.ac H1 ?_)
    simp only [List.set_cons_succ, List.set_cons_zero]
    ac_rfl
theorem thrS_setFo {h : Heap} {T : Nat} {fo : Option (Nat × Nat)} {t : Thr} {id : Int} {R : Hp} {a : Option Addr} {l c : Nat} {xs : List Int} {K : Heap → Prop} (H : Sat h (ownF a l c xs * (thrS T fo t id * R))) (hx : ∀ v ∈ xs, iN v) (hl : l ≤ 1073741824)
    (k : ∀ h', Sat h' (thrS T fo (Thr.setFo t xs) id * R) → K h') : stH h ⟨T, 9, none⟩ (.slice a l c) K := by
  have hlen : xs.length = l := H.ownf.1
  rw [star_left] at H
  obtain ⟨B, x, H0⟩ := thrS_iff.1 H
  refine H0.st rfl trivial fun h' H1 => k h' (thrS_iff.2 ⟨{ B with fo := a, fon := c }, ⟨?_, ?_⟩, ?_⟩)
  · obtain ⟨b1, b2, b3, b4, b5, b6, b7, b8⟩ := x.1
    exact ⟨b1, b2, b3, b4, b5, b6, hx, by unfold Thr.setFo; simp only; omega⟩
  · exact x.2
  · unfold Thr.setFo thrC
    simp only [hlen]
    refine Sat.drop (P := ownF B.fo t.found.length B.fon t.found) (Sat.ac H1 ?_)
    simp only [List.set_cons_succ, List.set_cons_zero]
    ac_rfl
theorem thrS_takeFo {h : Heap} {T : Nat} {fo : Option (Nat × Nat)} {t : Thr} {id : Int} {R : Hp} (H : Sat h (thrS T fo t id * R)) : ∃ a c, ∃ Q : Hp, (∀ h' P, Sat h' (Q * P) → cellAt h' ⟨T, 9, none⟩ = some (.slice a t.found.length c)) ∧ Sat h (ownF a t.found.length c t.found * (Q * R)) ∧
    ∀ R' h' a' l' c' xs, l' ≤ 1073741824 → (∀ v ∈ xs, iN v) → Sat h' (ownF a' l' c' xs * (Q * R')) → ∀ K : Heap → Prop, (∀ h'', Sat h'' (thrS T fo (Thr.setFo t xs) id * R') → K h'') → stH h' ⟨T, 9, none⟩ (.slice a' l' c') K := by
  obtain ⟨B, x, H0⟩ := thrS_iff.1 H
  refine ⟨B.fo, B.fon, pt T (.cells (thrC B t id).toArray 88) * (ownS 99 12 B.fr t.fr.length B.frn (t.fr.flatMap frc) * (pt B.pred (.cells (uvs t.pred).toArray 65) * (pt B.succ (.cells (uvs t.succ).toArray 65) * (pt B.word (.cells (uvs t.word).toArray 65) * ownS 3 1 B.re t.retired.length B.ren (t.retired.map iv))))), fun h' P HQ => cellR (Sat.at (star_assoc _ _ _ ▸ HQ)) rfl, Sat.ac H0 (by ac_rfl), ?_⟩
  intro R' h' a' l' c' xs hl hx H1 K k
  have hlen : xs.length = l' := H1.ownf.1
  have H2 : Sat h' (pt T (.cells (thrC B t id).toArray 88) * (ownS 99 12 B.fr t.fr.length B.frn (t.fr.flatMap frc) * (pt B.pred (.cells (uvs t.pred).toArray 65) * (pt B.succ (.cells (uvs t.succ).toArray 65) * (pt B.word (.cells (uvs t.word).toArray 65) * (ownS 3 1 B.re t.retired.length B.ren (t.retired.map iv) * (ownF a' l' c' xs * R'))))))) := Sat.ac H1 (by ac_rfl)
  refine H2.st rfl trivial fun h'' H3 => k h'' (thrS_iff.2 ⟨{ B with fo := a', fon := c' }, ⟨?_, ?_⟩, ?_⟩)
  · obtain ⟨b1, b2, b3, b4, b5, b6, b7, b8⟩ := x.1
    exact ⟨b1, b2, b3, b4, b5, b6, hx, by unfold Thr.setFo; simp only; omega⟩
  · exact x.2
  · unfold Thr.setFo thrC
    simp only [hlen]
    exact H3
theorem thrS_takeRe {h : Heap} {T : Nat} {fo : Option (Nat × Nat)} {t : Thr} {id : Int} {R : Hp} (H : Sat h (thrS T fo t id * R)) : ∃ a c, ∃ Q : Hp, (∀ h' P, Sat h' (Q * P) → cellAt h' ⟨T, 8, none⟩ = some (.slice a t.retired.length c)) ∧ Sat h (ownS 3 1 a t.retired.length c (t.retired.map iv) * (Q * R)) ∧
    ∀ R' h' a' l' c' xs, l' ≤ 1073741824 → (∀ v ∈ xs, iN v) → Sat h' (ownS 3 1 a' l' c' (xs.map iv) * (Q * R')) → ∀ K : Heap → Prop, (∀ h'', Sat h'' (thrS T fo (Thr.setRe t xs) id * R') → K h'') → stH h' ⟨T, 8, none⟩ (.slice a' l' c') K := by
  obtain ⟨B, x, H0⟩ := thrS_iff.1 H
  refine ⟨B.re, B.ren, pt T (.cells (thrC B t id).toArray 88) * (ownS 99 12 B.fr t.fr.length B.frn (t.fr.flatMap frc) * (pt B.pred (.cells (uvs t.pred).toArray 65) * (pt B.succ (.cells (uvs t.succ).toArray 65) * (pt B.word (.cells (uvs t.word).toArray 65) * ownF B.fo t.found.length B.fon t.found)))), fun h' P HQ => cellR (Sat.at (star_assoc _ _ _ ▸ HQ)) rfl, Sat.ac H0 (by ac_rfl), ?_⟩
  intro R' h' a' l' c' xs hl hx H1 K k
  have hlen : xs.length = l' := by have := H1.own.1; simpa using this
  have H2 : Sat h' (pt T (.cells (thrC B t id).toArray 88) * (ownS 99 12 B.fr t.fr.length B.frn (t.fr.flatMap frc) * (pt B.pred (.cells (uvs t.pred).toArray 65) * (pt B.succ (.cells (uvs t.succ).toArray 65) * (pt B.word (.cells (uvs t.word).toArray 65) * (ownS 3 1 a' l' c' (xs.map iv) * (ownF B.fo t.found.length B.fon t.found * R'))))))) := Sat.ac H1 (by ac_rfl)
  refine H2.st rfl trivial fun h'' H3 => k h'' (thrS_iff.2 ⟨{ B with re := a', ren := c' }, ⟨?_, ?_⟩, ?_⟩)
  · obtain ⟨b1, b2, b3, b4, b5, b6, b7, b8⟩ := x.1
    exact ⟨b1, b2, b3, b4, b5, hx, b7, by unfold Thr.setRe; simp only; omega⟩
  · exact x.2
  · unfold Thr.setRe thrC
    simp only [hlen]
    exact H3
theorem Sat.app1 {h : Heap} {a : Option Addr} {l c : Nat} {xs : List Int} {y : Int} {K : Value → Heap → Prop} {R : Hp} (H : Sat h (ownS 3 1 a l c (xs.map iv) * R)) (hl : l ≤ 1099511627776) (k : ∀ a' c' h', Sat h' (ownS 3 1 a' (l + 1) c' ((xs ++ [y]).map iv) * R) → K (.slice a' (l + 1) c') h') :
    appH Tryz.prog #[25, 25] 25 #[.slice a l c, .slice (some ⟨h.size, 0, none⟩) 1 1] (h.push (.cells #[.int .i64 y] 3)) K := by
  have H1 := H.push (.cells #[.int .i64 y] 3)
  generalize h.push (.cells #[.int .i64 y] 3) = h1 at *
  generalize h.size = N at *
  have hs : Sees h1 (some ⟨N, 0, none⟩) [iv y] := fun i v hi => ⟨_, rfl, by rw [add_lit, Nat.zero_add, cellAt_of H1.at]; simpa using hi⟩
  rw [star_left, ← siz_int] at H1
  refine H1.app und_list there_int zer_int (by rw [siz_int]; rfl) hs (n := 1) (by rw [siz_int]; rfl) (by simp [oneC]) (by rw [byt_int]; omega) (by rw [byt_int]; omega) fun a' c' h' H2 => k a' c' h' ?_
  rw [siz_int] at H2
  rw [List.map_append]
  exact H2.drop2
theorem Sat.appF {h : Heap} {a : Option Addr} {l c : Nat} {xs : List Int} {y : Int} {K : Value → Heap → Prop} {R : Hp} (H : Sat h (ownF a l c xs * R)) (hl : l ≤ 1099511627776) (k : ∀ a' c' h', Sat h' (ownF a' (l + 1) c' (xs ++ [y]) * R) → K (.slice a' (l + 1) c') h') :
    appH Tryz.prog #[25, 25] 25 #[.slice a l c, .slice (some ⟨h.size, 0, none⟩) 1 1] (h.push (.cells #[.int .i64 y] 3)) K := by
  have H1 := H.push (.cells #[.int .i64 y] 3)
  generalize h.push (.cells #[.int .i64 y] 3) = h1 at *
  generalize h.size = N at *
  have hs : Sees h1 (some ⟨N, 0, none⟩) [iv y] := fun i v hi => ⟨_, rfl, by rw [add_lit, Nat.zero_add, cellAt_of H1.at]; simpa using hi⟩
  have H2 := H1.drop
  obtain ⟨ow, hlt, re⟩ := H2.opn
  have hxl := ow.1
  refine appH_gen und_list there_int zer_int (by rw [siz_int]; rfl) ow.ri.s (by rw [siz_int, List.length_map]; omega) ow.2.1 hs (n := 1) (by rw [siz_int]; rfl) (by simp [oneC]) (by rw [byt_int]; omega) (by rw [byt_int]; omega) (fun hc ad ea => ?_) (fun hc ea => ?_) (fun c' h' o' old => ?_)
  · rw [siz_int, Nat.mul_one]
    obtain ⟨h1', h2', h3'⟩ := ow
    rcases h3' with ⟨e, _⟩ | ⟨b, o, row, e, hb, hsz, ht⟩
    · rw [ea] at e; cases e
    · rw [ea] at e
      cases e
      rw [add_lit]
      have hbl := (Array.getElem?_eq_some_iff.1 hb).1
      refine stN_row [iv y] h1 b (o + l) 0 row _ _ hb (by simp; omega) (by simp [oneC]) fun row' r1 r2 => ?_
      have hlen : (row.toList.drop o).length ≥ l := by rw [List.length_drop, Array.length_toList]; omega
      refine k a c _ (re _ (blk a) (fun h => OwnF h a (l + 1) c (xs ++ [y])) ⟨by simp, fun c2 hc2 hn => set_old fun e => hn ⟨_, ea, e.symm⟩⟩ (fun b2 hb2 => ⟨.inl hb2, by simpa using hlt b2 hb2⟩) (fun b2 ob hb2 e2 x hx => ?_) fun h'' e2 => ?_)
      · obtain ⟨ad2, ea2, rfl⟩ := hb2
        rw [ea] at ea2; cases ea2
        rw [set_new hbl] at e2; cases e2; cases hx
      · refine ⟨by simp; omega, hc, .inr ⟨b, o, row', ea, (e2 b ⟨_, ea, rfl⟩).trans (set_new hbl), by omega, ?_⟩⟩
        apply List.ext_getElem?
        intro j
        rw [List.getElem?_take, List.getElem?_drop, Array.getElem?_toList, r2]
        have hx : ∀ j, j < l → (xs.map iv)[j]? = row[o + j]? := fun j hj => by rw [← ht, List.getElem?_take, if_pos hj, List.getElem?_drop, Array.getElem?_toList]
        simp only [List.length_singleton, List.map_append, List.map_cons, List.map_nil]
        by_cases c1 : j < l
        · rw [if_pos (by omega), if_neg (by omega), List.getElem?_append_left (by simp; omega), hx j c1]
        · by_cases c2 : j = l
          · subst c2
            rw [if_pos (by omega), if_pos (by omega), List.getElem?_append_right (by simp; omega), List.length_map, h1']
            congr 1; omega
          · rw [if_neg (by omega)]
            symm; apply List.getElem?_eq_none; simp; omega
  · obtain ⟨h1', h2', h3'⟩ := ow
    rcases h3' with ⟨_, e⟩ | ⟨b, o, row, e, _⟩
    · omega
    · rw [ea] at e; cases e
  · have o2 : OwnF h' (some ⟨h1.size, 0, none⟩) (l + 1) c' (xs ++ [y]) := OwnF.of (by rw [siz_int] at o'; unfold OwnI; simpa using o')
    have H3 : Sat h' (ownF (some ⟨h1.size, 0, none⟩) (l + 1) c' (xs ++ [y]) * (ownF a l c xs * R)) := H2.mk_new old (fun b hb => ⟨by obtain ⟨ad, e, rfl⟩ := hb; cases e; exact Nat.le_refl _, o2.lt2 hb⟩) o2.nd fun h'' e => o2.congr e
    exact k _ c' h' H3.drop2
theorem pilePush_call {K : Value → Heap → Prop} {h : Heap} {T : Nat} {fo : Option (Nat × Nat)} {t : Thr} {id : Int} {R : Hp} {y : Int} (H : Sat h (thrS T fo t id * R)) (hy : iN y) (hl : t.retired.length < 1073741824) (k : ∀ h', Sat h' (thrS T fo (Thr.setRe t (t.retired ++ [y])) id * R) → K (.tuple #[]) h') :
    CallH Tryz.prog 177 #[.pointer (some ⟨T, 8, none⟩), .int .i64 y] h K := by
  refine call177 ?_
  unfold F177 lS nP
  obtain ⟨a, c, Q, e, H1, re⟩ := thrS_takeRe H
  have e0 := e h _ H1.drop
  have hB := (thrS_B H).re
  try simp only [nilC, bsx, Nat.reduceAdd, Int.reduceLE, Int.reduceLT, Int.reduceToNat]
  refine ldH_mk e0 ?_
  try simp only [nilC, bsx, Nat.reduceAdd, Int.reduceLE, Int.reduceLT, Int.reduceToNat]
  refine H1.app1 (by omega) fun a' c' h' H2 => ?_
  try simp only [nilC, bsx, Nat.reduceAdd, Int.reduceLE, Int.reduceLT, Int.reduceToNat]
  refine re _ h' a' _ c' _ (by omega) (fun v hv => ?_) H2 _ k
  rcases List.mem_append.1 hv with h1 | h1
  · exact hB v h1
  · rw [List.mem_singleton.1 h1]; exact hy
theorem pileLen_call {K : Value → Heap → Prop} {h : Heap} {T : Nat} {fo : Option (Nat × Nat)} {t : Thr} {id : Int} {R : Hp} (H : Sat h (thrS T fo t id * R)) (k : K (.int .i64 (t.retired.length : Int)) h) :
    CallH Tryz.prog 136 #[.pointer (some ⟨T, 8, none⟩)] h K := by
  refine call136 ?_
  unfold F136 lS nP
  obtain ⟨a, c, e0, ow⟩ := thrS_re H
  try simp only [nilC, bsx, Nat.reduceAdd, Int.reduceLE, Int.reduceLT, Int.reduceToNat]
  refine ldH_mk e0 ?_
  try simp only [nilC, bsx, Nat.reduceAdd, Int.reduceLE, Int.reduceLT, Int.reduceToNat]
  exact k
theorem New.part {h h' : Heap} {a : Option Addr} {l c : Nat} {xs : List Int} {R : Hp} (H : New h h' a l c xs) (S : Sat h R) (o : Old h.size h h') : ∃ Q : Hp, Sat h' (Q * R) ∧ ∀ h P, Sat h (Q * P) → RI h a l c xs := by
  rcases H with ⟨h1, h2, h3⟩ | ⟨h1, h2⟩
  · subst h1; subst h2; subst h3
    exact ⟨emp, by rw [emp_star]; exact S.old o, fun h P _ => ⟨Sees.nil _ _, rfl, Nat.le_refl _⟩⟩
  · refine ⟨ownS 3 1 a l c (xs.map iv), S.mk_new o (fun b hb => ?_) h1.nd fun h'' e => h1.congr e, fun h P S => OwnI.ri S.own⟩
    refine ⟨?_, h1.lt2 hb⟩
    obtain ⟨ad, e, rfl⟩ := hb
    exact h2 ad e
theorem pileList_call {K : Value → Heap → Prop} {h : Heap} {T : Nat} {fo : Option (Nat × Nat)} {t : Thr} {id : Int} {R : Hp} (H : Sat h (thrS T fo t id * R)) (k : ∀ a' c' h' Q, Sat h' (Q * (thrS T fo t id * R)) → (∀ h P, Sat h (Q * P) → RI h a' t.retired.length c' t.retired) → K (.slice a' t.retired.length c') h') :
    CallH Tryz.prog 180 #[.pointer (some ⟨T, 8, none⟩)] h K := by
  refine call180 ?_
  unfold F180 cf lS nP
  obtain ⟨a, c, e0, ow⟩ := thrS_re H
  have hB := (thrS_B H).len
  try simp only [nilC, bsx, Nat.reduceAdd, Int.reduceLE, Int.reduceLT, Int.reduceToNat]
  refine ldH_mk e0 ?_
  try simp only [nilC, bsx, Nat.reduceAdd, Int.reduceLE, Int.reduceLT, Int.reduceToNat]
  refine callV_fn (clone_int (OwnI.ri ow) (by omega) fun a' c' h' hn o => ?_)
  try simp only [nilC, bsx, Nat.reduceAdd, Int.reduceLE, Int.reduceLT, Int.reduceToNat]
  obtain ⟨Q, h1, h2⟩ := hn.part H o
  exact k a' c' h' Q h1 h2
theorem hPtr_call {K : Value → Heap → Prop} {h : Heap} {w : Int} (hw : U w) (k : K (.int .u64 (wptr w)) h) : CallH Tryz.prog 175 #[.int .u64 w] h K := by
  refine call175 ?_
  unfold F175 cf
  refine callV_fn (wPtr_call hw ?_)
  try simp only [nilC, bsx, Nat.reduceAdd, Int.reduceLE, Int.reduceLT, Int.reduceToNat]
  exact k
def cfV (c : Mod.Cf) : Value := .agg #[.int .i64 c.algo, .int .i64 c.threads, .int .i64 c.nodes, .int .i64 c.level, .int .i64 c.batch, .int .i64 c.probes, .int .i64 c.scan]
theorem cf7 {c : Mod.Cf} {F : Value → Value → Value → Value → Value → Value → Value → Prop} (k : F (.int .i64 c.algo) (.int .i64 c.threads) (.int .i64 c.nodes) (.int .i64 c.level) (.int .i64 c.batch) (.int .i64 c.probes) (.int .i64 c.scan)) :
    asAgg (cfV c) fun vs => sizeH vs 7 (elemH vs 0 fun v0 => elemH vs 1 fun v1 => elemH vs 2 fun v2 => elemH vs 3 fun v3 => elemH vs 4 fun v4 => elemH vs 5 fun v5 => elemH vs 6 fun v6 => F v0 v1 v2 v3 v4 v5 v6) := k
theorem plConf_call {K : Value → Heap → Prop} {h : Heap} {p : Pl} (k : ∀ h', Old h.size h h' → K (cfV p.c) h') : CallH Tryz.prog 62 #[plV p] h K := by
  refine call62 ?_
  unfold F62 g62
  rw [plLoc]
  have p1 := pushed h (plc p).toArray 69
  generalize h.push (.cells (plc p).toArray 69) = h1 at *
  have p2 := pushed h1 #[.int .i64 0, .int .i64 0, .int .i64 0, .int .i64 0, .int .i64 0, .int .i64 0, .int .i64 0] 23
  generalize h1.push (.cells #[.int .i64 0, .int .i64 0, .int .i64 0, .int .i64 0, .int .i64 0, .int .i64 0, .int .i64 0] 23) = h2 at *
  have hs1 := p1.size
  have O : h2[h.size]? = some (.cells (plc p).toArray 69) := (p2.old _ (by omega)).trans p1.new
  refine ldR O rfl (ldR O rfl (ldR O rfl (ldR O rfl (ldR O rfl (ldR O rfl (ldR O rfl ?_))))))
  refine st7 (stN_full (vs := cfc p.c) p2.new rfl (by simp [cfc, oneC]) fun h3 w => ?_)
  have Q := w.new
  refine ldR Q rfl (ldR Q rfl (ldR Q rfl (ldR Q rfl (ldR Q rfl (ldR Q rfl (ldR Q rfl ?_))))))
  exact k h3 ((p1.toOld.trans (p2.toOld.mono (by omega))).trans ⟨by rw [w.size]; exact Nat.le_refl _, fun c hc => w.old c (by omega)⟩)
theorem haz_iN {p : Pl} (B : PlB p) (t s : Int) : iN (p.haz t s) := by
  have h1 := B.th
  have h2 := B.sl
  have h3 := B.hz
  unfold Pl.haz
  split
  · rename_i c
    have : t * p.slots ≤ 6 * 14 := Int.mul_le_mul (by omega) (by omega) (by omega) (by omega)
    have h0 : 0 ≤ t * p.slots := Int.mul_nonneg (by omega) (by omega)
    constructor <;> omega
  · constructor <;> omega
section
variable {K : Value → Heap → Prop} {h : Heap} {M T b o N : Nat} {tv : Value} {fo : Option (Nat × Nat)} {x : Run} {R : Hp}
theorem RunS.tc (H : Sat h (RunS M T tv fo x R)) : cellAt h ⟨T, 0, Option.none⟩ = some (.int .i64 x.id) ∧ (∀ F : Value → Prop, ldH h ⟨T, 0, Option.none⟩ F = F (.int .i64 x.id)) ∧ (∀ F : Value → Prop, ldH h ⟨T, 2, Option.none⟩ F = F (.int .u64 (x.ret 0))) ∧ (∀ F : Value → Prop, ldH h ⟨T, 3, Option.none⟩ F = F (.int .u64 (x.ret 1))) ∧ (∀ F : Value → Prop, ldH h ⟨T, 4, Option.none⟩ F = F (.int .u64 (x.ret 2))) ∧
    cellAt h ⟨T, 2, Option.none⟩ = some (.int .u64 (x.ret 0)) ∧ cellAt h ⟨T, 3, Option.none⟩ = some (.int .u64 (x.ret 1)) ∧ (∀ ob, cellAt (h.push ob) ⟨T, 2, Option.none⟩ = some (.int .u64 (x.ret 0))) ∧ (∀ ob, cellAt (h.push ob) ⟨T, 3, Option.none⟩ = some (.int .u64 (x.ret 1))) ∧ (∀ ob, cellAt (h.push ob) ⟨T, 0, Option.none⟩ = some (.int .i64 x.id)) := by
  obtain ⟨B, e⟩ := thrS_own (RunS.thr H)
  have c0 := cellR (i := 0) e rfl
  have c2 : cellAt h ⟨T, 2, Option.none⟩ = some (.int .u64 (x.ret 0)) := cellR (i := 2) e rfl
  have c3 : cellAt h ⟨T, 3, Option.none⟩ = some (.int .u64 (x.ret 1)) := cellR (i := 3) e rfl
  have c4 : cellAt h ⟨T, 4, Option.none⟩ = some (.int .u64 (x.ret 2)) := cellR (i := 4) e rfl
  refine ⟨c0, fun F => ?_, fun F => ?_, fun F => ?_, fun F => ?_, c2, c3, fun _ => cell_push c2, fun _ => cell_push c3, fun _ => cell_push c0⟩
  · unfold ldH; rw [c0]
  · unfold ldH; rw [c2]
  · unfold ldH; rw [c3]
  · unfold ldH; rw [c4]
theorem RunS.al {N : Nat} {ty : TypeId} {v0 v1 v2 : Value} (H : Sat h (RunS M T tv (some (b, o)) x (pt N (.cells #[v0, v1, v2] ty) * R))) : type_of% (And.intro (RunS.l H) (And.intro (RunS.r H) (And.intro (RunS.c H) (And.intro (RunS.cp H) (RunS.tc H))))) := And.intro (RunS.l H) (And.intro (RunS.r H) (And.intro (RunS.c H) (And.intro (RunS.cp H) (RunS.tc H))))
theorem protect_call (H : Sat h (RunS M T tv (some (b, o)) x R)) (hi : iN x.id) (hs : x.m.mm.st < 1099511627776) (k : ∀ h', Sat h' (RunS M T tv none (protect x) R) → K (.tuple #[]) h') :
    CallH Tryz.prog 99 #[mP M, mP T, fP b o] h K := by
  refine call99 ?_
  unfold F99 cf bd lI nP
  have B := RunS.fB H
  have P := RunS.pl H
  unfold protect at k
  try simp +decide only [nilC, bsx, Nat.reduceAdd, Int.reduceLE, Int.reduceLT, Int.reduceToNat, rsx, g_s, g_s_ne, RunS.r H, RunS.tc H]
  refine ifB_dec (fun c => ?_) (fun c => ?_)
  · rw [if_pos c] at k
    refine callV_fn (rLoad H (s64_iN _) hs fun h1 H1 u1 => ?_)
    try simp only [nilC, bsx, Nat.reduceAdd, Int.reduceLE, Int.reduceLT, Int.reduceToNat]
    refine RunS.stR (i := 2) H1 rfl u1 fun h2 H2 => RunS.stP H2 fun h3 H3 => ?_
    try simp +decide only [nilC, bsx, Nat.reduceAdd, Int.reduceLE, Int.reduceLT, Int.reduceToNat, rsx, g_s, g_s_ne, RunS.r H3, B.len]
    refine callV_fn (hPtr_call u1 ?_)
    try simp +decide only [nilC, bsx, Nat.reduceAdd, Int.reduceLE, Int.reduceLT, Int.reduceToNat, rsx, g_s, g_s_ne, RunS.r H3, B.len]
    refine ifB_dec (fun c2 => ?_) (fun c2 => ?_)
    · simp only [if_pos c2] at k
      exact callV_fn (rPopN H3 [(x.load (s64 (x.f.g 1))).1] rfl (one_U u1) (by omega) fun h4 H4 => k h4 H4)
    · simp only [if_neg c2] at k
      exact k h3 (RunS.none H3)
  rw [if_neg c] at k
  refine ifB_dec (fun c => ?_) (fun c => ?_)
  · rw [if_pos c] at k
    refine callV_fn (rPlan H fun h1 H1 => pl15 ?_)
    refine ⟨(RunS.c H1).2.2.2.1, (RunS.c H1).2.1, (RunS.tc H1).1, ?_⟩
    refine callV_fn (plHaz_call P hi (s64_iN _) fun h2 o2 => ?_)
    have H2 := RunS.old H1 o2
    try simp +decide only [nilC, bsx, Nat.reduceAdd, Int.reduceLE, Int.reduceLT, Int.reduceToNat, rsx, g_s, g_s_ne, RunS.c H2]
    refine callV_fn (hPtr_call (B.g 2) ?_)
    try simp only [nilC, bsx, Nat.reduceAdd, Int.reduceLE, Int.reduceLT, Int.reduceToNat]
    refine callV_fn (rStore H2 (haz_iN P _ _) (wptr_U _) hs fun h3 H3 => ?_)
    exact RunS.stP H3 fun h4 H4 => k h4 (RunS.none H4)
  · rw [if_neg c] at k
    refine callV_fn (rLoad H (s64_iN _) hs fun h1 H1 u1 => ?_)
    try simp only [nilC, bsx, Nat.reduceAdd, Int.reduceLE, Int.reduceLT, Int.reduceToNat]
    refine ⟨fun vs h' => vs = [.bool (decide ((x.load (s64 (x.f.g 1))).1 = x.f.g 2 ∨ wptr (x.load (s64 (x.f.g 1))).1 = 0))] ∧ h' = h1, ?_, ?_⟩
    · try simp +decide only [nilC, bsx, Nat.reduceAdd, Int.reduceLE, Int.reduceLT, Int.reduceToNat, rsx, g_s, g_s_ne, RunS.r H1]
      refine ifB_dec (fun q => by rw [decide_eq_true (.inl q)]) (fun q => ?_)
      refine callV_fn (hPtr_call u1 ?_)
      try simp only [nilC, bsx, Nat.reduceAdd, Int.reduceLE, Int.reduceLT, Int.reduceToNat]
      congr 2
      rw [Bool.eq_iff_iff, beq_iff_eq, decide_eq_true_iff]
      exact ⟨.inr, fun h => h.resolve_left q⟩
    rintro v71 g72 h73 ⟨e, rfl⟩
    cases e
    try simp only [nilC, bsx, Nat.reduceAdd, Int.reduceLE, Int.reduceLT, Int.reduceToNat]
    refine ifB_dec (fun c2 => ?_) (fun c2 => ?_)
    · simp only [if_pos c2] at k
      exact callV_fn (rPopN H1 [(x.load (s64 (x.f.g 1))).1] rfl (one_U u1) (by omega) fun h4 H4 => k h4 H4)
    · simp only [if_neg c2] at k
      exact RunS.stR (i := 2) H1 rfl u1 fun h2 H2 => RunS.stP H2 fun h3 H3 => k h3 (RunS.none H3)
theorem wipe_call (H : Sat h (RunS M T tv (some (b, o)) x R)) (hi : iN x.id) (hpc : 0 ≤ x.f.pc ∧ x.f.pc ≤ 100) (hs : x.m.mm.st < 1099511627776) (k : ∀ h', Sat h' (RunS M T tv none (wipe x) R) → K (.tuple #[]) h') :
    CallH Tryz.prog 100 #[mP M, mP T, fP b o] h K := by
  refine call100 ?_
  unfold F100 cf lI nP
  have B := RunS.fB H
  have P := RunS.pl H
  unfold wipe at k
  try simp +decide only [nilC, bsx, Nat.reduceAdd, Int.reduceLE, Int.reduceLT, Int.reduceToNat, rsx, g_s, g_s_ne, RunS.r H, RunS.tc H]
  refine callV_fn (rPlan H fun h1 H1 => pl15 ?_)
  try refine ⟨(RunS.c H1).1, ?_⟩
  refine callV_fn (plSlots_call fun h2 o2 => ?_)
  have H2 := RunS.old H1 o2
  try simp +decide only [nilC, bsx, Nat.reduceAdd, Int.reduceLE, Int.reduceLT, Int.reduceToNat, rsx, g_s, g_s_ne, RunS.r H2, RunS.c H2, RunS.tc H2]
  refine ifB_dec (fun c => ?_) (fun c => ?_)
  · rw [if_pos c] at k
    exact callV_fn (rPop H2 Args.none (by omega) k)
  · rw [if_neg c] at k
    refine callV_fn (rPlan H2 fun h3 H3 => pl15 ?_)
    refine ⟨(RunS.c H3).1, (RunS.tc H3).1, ?_⟩
    refine callV_fn (plHaz_call P hi ⟨by omega, by omega⟩ fun h4 o4 => ?_)
    have H4 := RunS.old H3 o4
    try simp only [nilC, bsx, Nat.reduceAdd, Int.reduceLE, Int.reduceLT, Int.reduceToNat]
    refine callV_fn (rStore H4 (haz_iN P _ _) U0 hs fun h5 H5 => ?_)
    try simp +decide only [nilC, bsx, Nat.reduceAdd, Int.reduceLE, Int.reduceLT, Int.reduceToNat, rsx, g_s, g_s_ne, RunS.r H5]
    rw [← wraps_eq, wrap64_id' (by omega) (by omega)]
    exact RunS.stP H5 fun h6 H6 => k h6 (RunS.none H6)
theorem RunS.ofRe {l : List Int} {h' : Heap} (H : Sat h' (thrS T fo (Thr.setRe x.t l) x.id * (macS M tv x.m * R))) : Sat h' (RunS M T tv fo (x.re l) R) := RunS.ofThr H
theorem retire_call (H : Sat h (RunS M T tv (some (b, o)) x R)) (hl : x.t.retired.length < 1073741824) (hd : x.t.fr.length < 1073741824) (k : ∀ h', Sat h' (RunS M T tv none (retire x) R) → K (.tuple #[]) h') :
    CallH Tryz.prog 101 #[mP M, mP T, fP b o] h K := by
  refine call101 ?_
  unfold F101 cf bd lI nP
  have B := RunS.fB H
  have P := RunS.pl H
  unfold retire at k
  try simp +decide only [nilC, bsx, Nat.reduceAdd, Int.reduceLE, Int.reduceLT, Int.reduceToNat, rsx, g_s, g_s_ne, RunS.r H]
  refine callV_fn (rGone H (s64_iN _) fun h1 H1 => ?_)
  refine callV_fn (pilePush_call (RunS.thr H1) (s64_iN _) hl fun h2 H2' => ?_)
  have H2 := RunS.ofRe H2'
  refine callV_fn (rPop H2 Args.none (by omega) fun h3 H3 => ?_)
  refine callV_fn (pileLen_call (RunS.thr H3) ?_)
  try simp only [nilC, bsx, Nat.reduceAdd, Int.reduceLE, Int.reduceLT, Int.reduceToNat]
  refine callV_fn (rPlan H3 fun h4 H4 => pl15 ?_)
  refine callV_fn (plConf_call fun h5 o5 => cf7 ?_)
  have H5 := RunS.old H4 o5
  try simp only [nilC, bsx, Nat.reduceAdd, Int.reduceLE, Int.reduceLT, Int.reduceToNat]
  refine ifB_dec (fun c => ?_) (fun c => ?_)
  · simp only [if_pos c] at k
    refine callV_fn (rPush H5 Args.none (by omega) ?_ fun h6 b6 o6 _ _ H6 => k h6 (RunS.none H6))
    show (Thr.pop _ _).fr.length < _
    unfold Thr.pop
    split
    · exact hd
    · simp only [List.length_dropLast]
      show x.t.fr.length - 1 < _
      omega
  · simp only [if_neg c] at k
    exact k h5 (RunS.none H5)
end
end
section
open Mod
theorem rd15 {h : Heap} {N : Nat} {p : Pl} {ty : TypeId} {F : Value → Value → Value → Value → Value → Value → Value → Value → Value → Value → Value → Value → Value → Value → Value → Prop} (O : h[N]? = some (.cells (plc p).toArray ty))
    (k : F (.int .i64 p.c.algo) (.int .i64 p.c.threads) (.int .i64 p.c.nodes) (.int .i64 p.c.level) (.int .i64 p.c.batch) (.int .i64 p.c.probes) (.int .i64 p.c.scan) (.int .i64 p.slots) (.int .i64 p.width) (.int .i64 p.sent) (.int .i64 p.hazards) (.int .i64 p.links) (.int .i64 p.nodes) (.int .i64 p.tree) (.int .i64 p.size)) :
    ldH h ⟨N, 0, none⟩ fun v0 => ldH h ⟨N, 1, none⟩ fun v1 => ldH h ⟨N, 2, none⟩ fun v2 => ldH h ⟨N, 3, none⟩ fun v3 => ldH h ⟨N, 4, none⟩ fun v4 => ldH h ⟨N, 5, none⟩ fun v5 => ldH h ⟨N, 6, none⟩ fun v6 => ldH h ⟨N, 7, none⟩ fun v7 => ldH h ⟨N, 8, none⟩ fun v8 => ldH h ⟨N, 9, none⟩ fun v9 => ldH h ⟨N, 10, none⟩ fun v10 => ldH h ⟨N, 11, none⟩ fun v11 => ldH h ⟨N, 12, none⟩ fun v12 => ldH h ⟨N, 13, none⟩ fun v13 => ldH h ⟨N, 14, none⟩ fun v14 => F v0 v1 v2 v3 v4 v5 v6 v7 v8 v9 v10 v11 v12 v13 v14 :=
  ldR O rfl (ldR O rfl (ldR O rfl (ldR O rfl (ldR O rfl (ldR O rfl (ldR O rfl (ldR O rfl (ldR O rfl (ldR O rfl (ldR O rfl (ldR O rfl (ldR O rfl (ldR O rfl (ldR O rfl k))))))))))))))
theorem held15 {h : Heap} {N : Nat} {p : Pl} {ty : TypeId} {X : Prop} (O : h[N]? = some (.cells (plc p).toArray ty)) (k : X) :
    cellAt h ⟨N, 0, none⟩ = some (.int .i64 p.c.algo) ∧ cellAt h ⟨N, 1, none⟩ = some (.int .i64 p.c.threads) ∧ cellAt h ⟨N, 2, none⟩ = some (.int .i64 p.c.nodes) ∧ cellAt h ⟨N, 3, none⟩ = some (.int .i64 p.c.level) ∧ cellAt h ⟨N, 4, none⟩ = some (.int .i64 p.c.batch) ∧ cellAt h ⟨N, 5, none⟩ = some (.int .i64 p.c.probes) ∧ cellAt h ⟨N, 6, none⟩ = some (.int .i64 p.c.scan) ∧ cellAt h ⟨N, 7, none⟩ = some (.int .i64 p.slots) ∧ cellAt h ⟨N, 8, none⟩ = some (.int .i64 p.width) ∧ cellAt h ⟨N, 9, none⟩ = some (.int .i64 p.sent) ∧ cellAt h ⟨N, 10, none⟩ = some (.int .i64 p.hazards) ∧ cellAt h ⟨N, 11, none⟩ = some (.int .i64 p.links) ∧ cellAt h ⟨N, 12, none⟩ = some (.int .i64 p.nodes) ∧ cellAt h ⟨N, 13, none⟩ = some (.int .i64 p.tree) ∧ cellAt h ⟨N, 14, none⟩ = some (.int .i64 p.size) ∧ X :=
  ⟨cellR O rfl, cellR O rfl, cellR O rfl, cellR O rfl, cellR O rfl, cellR O rfl, cellR O rfl, cellR O rfl, cellR O rfl, cellR O rfl, cellR O rfl, cellR O rfl, cellR O rfl, cellR O rfl, cellR O rfl, k⟩
theorem c15 {h : Heap} {N : Nat} {p : Pl} {ty : TypeId} (O : h[N]? = some (.cells (plc p).toArray ty)) : cellAt h ⟨N, 0, none⟩ = some (.int .i64 p.c.algo) ∧ cellAt h ⟨N, 1, none⟩ = some (.int .i64 p.c.threads) ∧ cellAt h ⟨N, 2, none⟩ = some (.int .i64 p.c.nodes) ∧ cellAt h ⟨N, 3, none⟩ = some (.int .i64 p.c.level) ∧ cellAt h ⟨N, 4, none⟩ = some (.int .i64 p.c.batch) ∧ cellAt h ⟨N, 5, none⟩ = some (.int .i64 p.c.probes) ∧ cellAt h ⟨N, 6, none⟩ = some (.int .i64 p.c.scan) ∧ cellAt h ⟨N, 7, none⟩ = some (.int .i64 p.slots) ∧ cellAt h ⟨N, 8, none⟩ = some (.int .i64 p.width) ∧ cellAt h ⟨N, 9, none⟩ = some (.int .i64 p.sent) ∧ cellAt h ⟨N, 10, none⟩ = some (.int .i64 p.hazards) ∧ cellAt h ⟨N, 11, none⟩ = some (.int .i64 p.links) ∧ cellAt h ⟨N, 12, none⟩ = some (.int .i64 p.nodes) ∧ cellAt h ⟨N, 13, none⟩ = some (.int .i64 p.tree) ∧ cellAt h ⟨N, 14, none⟩ = some (.int .i64 p.size) :=
  ⟨cellR O rfl, cellR O rfl, cellR O rfl, cellR O rfl, cellR O rfl, cellR O rfl, cellR O rfl, cellR O rfl, cellR O rfl, cellR O rfl, cellR O rfl, cellR O rfl, cellR O rfl, cellR O rfl, cellR O rfl⟩
section
variable {K : Value → Heap → Prop} {h : Heap} {M T b o N : Nat} {tv : Value} {fo : Option (Nat × Nat)} {x : Run} {R : Hp}
theorem ty_ne {h : Heap} {b c : Nat} {r1 r2 : Array Value} {t1 t2 : TypeId} (e1 : h[b]? = some (.cells r1 t1)) (e2 : h[c]? = some (.cells r2 t2)) (hne : t1 ≠ t2) : b ≠ c := by
  rintro rfl
  rw [e1] at e2
  have := congrArg (fun o : Option Obj => match o with | some (.cells _ t _) => some t | _ => none) e2
  exact hne (by simpa using this)
theorem stays_on {h : Heap} {P T : Nat} {av : Nat → Prop} {a : Option Addr} {l c : Nat} {xs : List Int} (e1 : cellAt h ⟨P, 0, none⟩ = some (mP T)) (e2 : cellAt h ⟨T, 9, none⟩ = some (.slice a l c)) (R : RI h a l c xs) (hl : l < 2 ^ 60) (n1 : ¬ av P) (n2 : ¬ av T) (n3 : xs ≠ [] → ∀ ad, a = some ad → ¬ av ad.block) :
    KeepOnA av (.func (.func 178) #[] #[.pointer (some ⟨P, 0, none⟩)]) (fun _ => True) (fun y => xs.contains y) h := by
  refine ⟨⟨_, _, _, rfl⟩, fun h => cellAt h ⟨P, 0, none⟩ = some (mP T) ∧ cellAt h ⟨T, 9, none⟩ = some (.slice a l c) ∧ RI h a l c xs, ⟨e1, e2, R⟩, fun h h' o e => ⟨o.cell n1 e.1, o.cell n2 e.2.1, e.2.2.congrA o n3⟩, ?_⟩
  rintro h y K ⟨e1, e2, R⟩ _ k
  refine callV_cl ?_
  rw [cl2]
  refine call178 ?_
  unfold F178 cf lS lP nP
  try simp only [nilC, bsx, Nat.reduceAdd, Int.reduceLE, Int.reduceLT, Int.reduceToNat]
  refine ldH_mk e1 ?_
  try simp only [nilC, bsx, Nat.reduceAdd, Int.reduceLE, Int.reduceLT, Int.reduceToNat]
  refine ldH_mk e2 ?_
  try simp only [nilC, bsx, Nat.reduceAdd, Int.reduceLE, Int.reduceLT, Int.reduceToNat]
  refine callV_fn (containsI_call R hl ?_)
  try simp only [nilC, bsx, Nat.reduceAdd, Int.reduceLE, Int.reduceLT, Int.reduceToNat]
  exact k h (Old.refl _ _)
theorem Sat.pt_ne {h : Heap} {N M : Nat} {o o' : Obj} {R : Hp} (H : Sat h (pt N o * (pt M o' * R))) : M ≠ N := by
  obtain ⟨_, s, σ, τ, d, rfl, p, _, _, d2, rfl, q, r⟩ := H
  rintro rfl
  have h1 := q M
  have h2 := p M
  rw [if_pos rfl] at h1 h2
  rcases d M with e | e
  · rw [e] at h2; cases h2
  · have := (uni_none.1 e).1
    rw [this] at h1; cases h1
theorem pileKeep_call {P : Nat} {h : Heap} {T : Nat} {fo : Option (Nat × Nat)} {t : Thr} {id : Int} {ty : TypeId} {R : Hp} (H : Sat h (thrS T fo t id * (pt P (.cells #[mP T] ty) * R)))
    (k : ∀ n h', Sat h' (thrS T fo (Thr.setRe t (t.retired.filter fun y => t.found.contains y)) id * (pt P (.cells #[mP T] ty) * R)) → K (.int .i64 n) h') :
    CallH Tryz.prog 181 #[.pointer (some ⟨T, 8, none⟩), .func (.func 178) #[] #[.pointer (some ⟨P, 0, none⟩)]] h K := by
  refine call181 ?_
  unfold F181 cf lS nP
  have TB := thrS_B H
  rw [← star_assoc] at H
  obtain ⟨R', hR', bR', H⟩ := H.freeze
  rw [star_assoc] at H
  refine ⟨fun vs h' => vs = [.bool false] ∧ h' = h, ?_, ?_⟩
  · simp only [Option.isNone_some, ifB_false, asFnNil]
    exact ⟨by trivial, by trivial⟩
  rintro v2 g3 h4 ⟨e, rfl⟩
  cases e
  try simp only [nilC, bsx, Nat.reduceAdd, Int.reduceLE, Int.reduceLT, Int.reduceToNat]
  have k : ∀ n h', Sat h' (thrS T fo (Thr.setRe t (t.retired.filter fun y => t.found.contains y)) id * (pt P (.cells #[mP T] ty) * R')) → K (.int .i64 n) h' := fun n h' H' => by
    rw [← star_assoc] at H'
    have H2 := H'.mono2 hR'
    rw [star_assoc] at H2
    exact k n h' H2
  clear hR'
  have H1 := H.push (.cells #[.slice none 0 0] 25)
  generalize h4.push (.cells #[.slice none 0 0] 25) = h5 at *
  generalize h4.size = N at *
  obtain ⟨B, x, H2⟩ := thrS_iff.1 H1.drop
  have e8 := cellR (i := 8) H2.at rfl
  have e9 := cellR (i := 9) H2.at rfl
  have oR := Sat.own (Sat.drop (Sat.drop (Sat.drop (Sat.drop (Sat.drop H2)))))
  have oF := Sat.ownf (Sat.drop (Sat.drop (Sat.drop (Sat.drop (Sat.drop (Sat.drop H2))))))
  have eP : h5[P]? = some (.cells #[mP T] ty) := H1.drop.drop.at
  have H3 : Sat h5 (pt N (.cells #[.slice none 0 0] 25) * (thrS T fo t id * (pt P (.cells #[mP T] ty) * R'))) := H1
  have hN : h5[N]? = some (.cells #[.slice none 0 0] 25) := H3.at
  have hTN : T ≠ N := ty_ne H2.at hN (by decide)
  have hPN : P ≠ N := Sat.pt_ne (Sat.ac H3 (by ac_rfl) : Sat h5 (pt N (.cells #[.slice none 0 0] 25) * (pt P (.cells #[mP T] ty) * (thrS T fo t id * R'))))
  have nR : ∀ ad, B.re = some ad → ¬ ad.block = N := fun ad ea e => by
    have eN := oR.sees
    rcases oR.2.2 with ⟨y, _⟩ | ⟨b, row, y, hb, _⟩
    · rw [ea] at y; cases y
    · rw [ea] at y; cases y
      exact ty_ne hb hN (by decide) e
  have nF : ∀ ad, B.fo = some ad → ¬ ad.block = N := fun ad ea e => by
    rcases oF.2.2 with ⟨y, _⟩ | ⟨b, o, row, y, hb, _⟩
    · rw [ea] at y; cases y
    · rw [ea] at y; cases y
      exact ty_ne hb hN (by decide) e
  have hlen := TB.len
  refine ldH_mk e8 ?_
  try simp only [nilC, bsx, Nat.reduceAdd, Int.reduceLE, Int.reduceLT, Int.reduceToNat]
  have hNs : N < h5.size := (Array.getElem?_eq_some_iff.1 hN).1
  refine callV_fn (ofIA_call (av := fun b => b = N) (OwnI.ri oR) (by omega) (fun _ => nR) (fun b hb => by rw [hb]; exact hNs) fun g h6 S6 o6 => ?_)
  have hk : KeepOnA (fun b => b = N) (.func (.func 178) #[] #[.pointer (some ⟨P, 0, none⟩)]) (fun _ => True) (fun y => t.found.contains y) h5 :=
    stays_on (by rw [cellAt_of eP]; rfl) e9 oF.ri (by omega) hPN hTN (fun _ => nF)
  refine callV_fn (onlyA_call S6 (hk.old (OldA.of o6)) (fun _ _ => trivial) (fun b hb => by rw [hb]; have := o6.1; omega) fun g' h7 S7 o7 => ?_)
  have o57 : Old h5.size h5 h7 := o6.trans (o7.mono o6.1)
  have H7 := H3.old o57
  refine range_collect S7 H7.at (Nat.le_trans (List.length_filter_le _ _) (by omega)) fun h8 a c s8 old8 n8 own8 new8 => ?_
  have H8 := H7.collect s8 old8 n8 own8 new8
  have H9 : Sat h8 (ownS 3 1 a _ c _ * (thrS T fo t id * (pt P (.cells #[mP T] ty) * R'))) := H8.drop2
  try simp only [nilC, bsx, Nat.reduceAdd, Int.reduceLE, Int.reduceLT, Int.reduceToNat]
  obtain ⟨a1, c1, e1, _⟩ := thrS_re H9.drop
  refine ldH_mk e1 ?_
  try simp only [nilC, bsx, Nat.reduceAdd, Int.reduceLE, Int.reduceLT, Int.reduceToNat]
  refine ldH_mk (cellAt_row n8) ?_
  try simp only [nilC, bsx, Nat.reduceAdd, Int.reduceLE, Int.reduceLT, Int.reduceToNat]
  refine ldH_mk (cellAt_row n8) ?_
  try simp only [nilC, bsx, Nat.reduceAdd, Int.reduceLE, Int.reduceLT, Int.reduceToNat]
  refine thrS_setRe H9 (fun v hv => TB.re v ((List.mem_filter.1 hv).1)) (Nat.le_trans (List.length_filter_le _ _) (by omega)) fun h9 H10 => ?_
  intro h10 hsd
  rw [← star_assoc] at H10
  have H11 := H10.sameD (thrS_Nd.star NdA.pt) bR' hsd
  rw [star_assoc] at H11
  exact k _ h10 H11
theorem filter_loop {h : Heap} {N : Nat} {t : Thr} {id : Int} {a : Option Addr} {c : Nat} {Q S : Hp} {REST : Value → Value → Value → Heap → Prop} (hQ : ∀ h P, Sat h (Q * P) → RI h a t.retired.length c t.retired) (hS : ∀ h P, Sat h (P * S) → cellAt h ⟨N, 0, Option.none⟩ = some (mP T)) (hl : t.retired.length ≤ 1073741824) (hl2 : t.found.length ≤ 1073741824)
    (H : Sat h (Q * (thrS T fo t id * S)))
    (k : ∀ oa oc h', Sat h' (ownS 3 1 oa (t.retired.filter (fun n => !t.found.contains n)).length oc ((t.retired.filter (fun n => !t.found.contains n)).map iv) * (Q * (thrS T fo t id * S))) → ∀ v189 v190, REST (.slice oa (t.retired.filter (fun n => !t.found.contains n)).length oc) v189 v190 h') :
    exI fun I => exM fun m => I [.slice Option.none 0 0, .tuple #[], .int .i64 0] h ∧ ∀ v188 : Value, ∀ v189 : Value, ∀ v190 : Value, ∀ g191 : Env, ∀ h192 : Heap, I [v188, v189, v190] h192 → asInt .i64 v190 fun n193 => ifB (decide (n193 < ((t.retired.length : Nat) : Int)))
      (asI v190 fun n194 => ((0 : Int) ≤ n194) ∧ ((n194 : Int) < ((t.retired.length : Nat) : Int)) ∧ asPtr (.pointer a) fun a195 => ldH h192 (a195.add n194.toNat) fun v196 => asInt .i64 v196 fun n197 => callV Tryz.prog (.func (.func 178) #[] #[.pointer (some ⟨N, 0, Option.none⟩)]) #[.int .i64 n197] h192 fun v198 h199 => asBool v198 fun b200 =>
        ifB (!b200) (asSlice v188 fun o201 k202 k203 => appH Tryz.prog #[25, 25] 25 #[.slice o201 k202 k203, .slice (some ⟨h199.size, 0, Option.none⟩) 1 1] (h199.push (.cells #[.int .i64 n197] 3)) fun v204 h205 => asSlice v204 fun o206 k207 k208 => asInt .i64 v190 fun n209 =>
            I [.slice o206 k207 k208, .int .i64 n197, .int .i64 (s64 (n209 + 1))] h205 ∧ m [.slice o206 k207 k208, .int .i64 n197, .int .i64 (s64 (n209 + 1))] h205 < m [v188, v189, v190] h192)
          (asInt .i64 v190 fun n210 => I [v188, .int .i64 n197, .int .i64 (s64 (n210 + 1))] h199 ∧ m [v188, .int .i64 n197, .int .i64 (s64 (n210 + 1))] h199 < m [v188, v189, v190] h192))
      (REST v188 v189 v190 h192) := by
  refine ⟨fun vs h' => ∃ oa oc w, ∃ i : Nat, ∃ out : List Int, vs = [.slice oa out.length oc, w, iv i] ∧ i ≤ t.retired.length ∧ out = (t.retired.take i).filter (fun n => !t.found.contains n) ∧ Sat h' (ownS 3 1 oa out.length oc (out.map iv) * (Q * (thrS T fo t id * S))),
    fun vs _ => (match vs with | [_, _, .int _ n] => t.retired.length - n.toNat | _ => 0), ⟨Option.none, 0, _, 0, [], rfl, Nat.zero_le _, rfl, H.own_new _ _⟩, ?_⟩
  rintro v188 v189 v190 g191 h9 ⟨oa, oc, w, i, out, e, hi, hout, H9⟩
  cases e
  try simp only [nilC, bsx, Nat.reduceAdd, Int.reduceLE, Int.reduceLT, Int.reduceToNat]
  have eN9 := hS h9 _ (Sat.ac H9 (by simp only [← star_assoc]) : Sat h9 (ownS 3 1 oa out.length oc (out.map iv) * Q * thrS T fo t id * S))
  refine ifB_dec (fun hlt => ?_) (fun hge => ?_)
  · have hlt' : i < t.retired.length := by omega
    have RI9 := hQ h9 _ H9.drop
    obtain ⟨ad, rfl, hc⟩ := RI9.at hlt'
    have htk : (t.retired.take (i + 1)).filter (fun n => !t.found.contains n) = out ++ (if t.found.contains t.retired[i] then [] else [t.retired[i]]) := by
      rw [List.take_succ_eq_append_getElem hlt', List.filter_append, ← hout]
      congr 1
      cases hcn : t.found.contains t.retired[i] <;> simp only [List.filter_cons, List.filter_nil, hcn, Bool.not_false, Bool.not_true, if_true, Bool.false_eq_true, if_false]
    have hol : out.length ≤ i := by rw [hout]; exact Nat.le_trans (List.length_filter_le _ _) (by rw [List.length_take]; omega)
    generalize t.retired[i] = y at *
    refine ⟨by omega, by omega, ?_⟩
    refine ldH_mk hc ?_
    try simp only [nilC, bsx, Nat.reduceAdd, Int.reduceLE, Int.reduceLT, Int.reduceToNat]
    obtain ⟨a9, c9, e99, of9⟩ := thrS_fo H9.drop.drop
    refine KeepOnA.call (av := fun _ => False) (stays_on eN9 e99 of9.ri (by omega) (fun h => h) (fun h => h) (fun _ _ _ h => h)) trivial fun h10 o10 => ?_
    have H10 := H9.old o10
    try simp only [nilC, bsx, Nat.reduceAdd, Int.reduceLE, Int.reduceLT, Int.reduceToNat]
    have hw : IntKind.i64.wrap ((i : Int) + 1) = ((i + 1 : Nat) : Int) := nat_wrap1 (by omega)
    rw [wraps_eq] at hw
    cases hcn : t.found.contains y with
    | false =>
      simp only [hcn, Bool.false_eq_true, if_false] at htk
      try simp only [nilC, bsx, Nat.reduceAdd, Int.reduceLE, Int.reduceLT, Int.reduceToNat]
      refine H10.app1 (by omega) fun a' c' h11 H11 => ?_
      try simp only [nilC, bsx, Nat.reduceAdd, Int.reduceLE, Int.reduceLT, Int.reduceToNat, hw]
      exact ⟨⟨a', c', .int .i64 y, i + 1, out ++ [y], by rw [List.length_append]; rfl, by omega, htk.symm, by rw [List.length_append]; exact H11⟩, by show t.retired.length - ((i + 1 : Nat) : Int).toNat < t.retired.length - (i : Int).toNat; omega⟩
    | true =>
      simp only [hcn, if_true, List.append_nil] at htk
      try simp only [nilC, bsx, Nat.reduceAdd, Int.reduceLE, Int.reduceLT, Int.reduceToNat, hw]
      exact ⟨⟨oa, oc, .int .i64 y, i + 1, out, rfl, by omega, htk.symm, H10⟩, by show t.retired.length - ((i + 1 : Nat) : Int).toNat < t.retired.length - (i : Int).toNat; omega⟩
  · have hi2 : i = t.retired.length := by omega
    rw [hi2, List.take_length] at hout
    subst hout
    exact k oa oc h9 H9 _ _
theorem RunS.wr {ob ob' : Obj} {h' : Heap} (H : Sat h (RunS M T tv fo x (pt N ob * R))) (new : h'[N]? = some ob') (old : ∀ c, c ≠ N → h'[c]? = h[c]?) (ho : Nd ob' := by intro x e; cases e) : Sat h' (RunS M T tv fo x (pt N ob' * R)) :=
  Sat.ac (Sat.wr (Sat.ac H (by unfold RunS; ac_rfl) : Sat h (pt N ob * (macS M tv x.m * (thrS T fo x.t x.id * R)))) new old ho) (by unfold RunS; ac_rfl)
theorem RunS.setFo {a : Option Addr} {l c : Nat} {xs : List Int} {F : Heap → Prop} (H : Sat h (ownF a l c xs * RunS M T tv fo x R)) (hx : ∀ v ∈ xs, iN v) (hl : l ≤ 1073741824) (k : ∀ h', Sat h' (RunS M T tv fo (x.fo xs) R) → F h') : stH h ⟨T, 9, Option.none⟩ (.slice a l c) F :=
  thrS_setFo (Sat.ac H (by unfold RunS; ac_rfl) : Sat h (ownF a l c xs * (thrS T fo x.t x.id * (macS M tv x.m * R)))) hx hl fun h' H' => k h' (RunS.ofThr H')
theorem scan_call (H : Sat h (RunS M T tv (some (b, o)) x R)) (hpc : 0 ≤ x.f.pc ∧ x.f.pc ≤ 100) (hs : x.m.mm.st < 1099511627776) (hf : x.t.found.length < 1073741824) (hd : x.t.fr.length < 1073741824) (k : ∀ h', Sat h' (RunS M T tv none (scan x) R) → K (.tuple #[]) h') :
    CallH Tryz.prog 102 #[mP M, mP T, fP b o] h K := by
  refine call102 ?_
  unfold F102 cf ce bd lS lP lI nP
  have P := RunS.pl H
  unfold scan at k
  dsimp only at k
  have H1 := RunS.new H (.cells #[mP T] 82)
  generalize h.push (.cells #[mP T] 82) = h1 at *
  generalize h.size = N at *
  refine callV_fn (rPlan H1 fun h2 H2 => pl15 ?_)
  have H3 := RunS.new H2 (.cells #[.int .i64 0, .int .i64 0, .int .i64 0, .int .i64 0, .int .i64 0, .int .i64 0, .int .i64 0, .int .i64 0, .int .i64 0, .int .i64 0, .int .i64 0, .int .i64 0, .int .i64 0, .int .i64 0, .int .i64 0] 69)
  generalize h2.push (.cells #[.int .i64 0, .int .i64 0, .int .i64 0, .int .i64 0, .int .i64 0, .int .i64 0, .int .i64 0, .int .i64 0, .int .i64 0, .int .i64 0, .int .i64 0, .int .i64 0, .int .i64 0, .int .i64 0, .int .i64 0] 69) = h3 at *
  generalize h2.size = N2 at *
  refine st15 (stN_full (vs := plc x.m.p) (RunS.loc H3) rfl (by simp [oneC]) fun h4 w => ?_)
  have H4 := RunS.wr H3 w.new w.old
  refine rd15 (RunS.loc H4) (rd15 (RunS.loc H4) ?_)
  refine callV_fn (plSlots_call fun h5 o5 => ?_)
  have H5 := RunS.old H4 o5
  try simp only [nilC, bsx, Nat.reduceAdd, Int.reduceLE, Int.reduceLT, Int.reduceToNat]
  refine held15 (RunS.loc H5) ?_
  refine callV_fn (plConf_call fun h6 o6 => cf7 ?_)
  have H6 := RunS.old H5 o6
  try simp only [nilC, bsx, Nat.reduceAdd, Int.reduceLE, Int.reduceLT, Int.reduceToNat]
  have hsl := P.sl
  have hth := P.th
  have hall : 0 ≤ x.m.p.slots * x.m.p.c.threads ∧ x.m.p.slots * x.m.p.c.threads ≤ 84 := ⟨Int.mul_nonneg (by omega) (by omega), Int.le_trans (Int.mul_le_mul hsl.2 hth.2 (by omega) (by omega)) (by omega)⟩
  have e84 : s64 (x.m.p.slots * x.m.p.c.threads) = x.m.p.slots * x.m.p.c.threads := by unfold s64; omega
  rw [e84]
  refine ⟨fun vs h' => vs = [] ∧ Sat h' (RunS M T tv (some (b, o)) (if x.f.pc = 0 then x.fo [] else x) (pt N2 (.cells (plc x.m.p).toArray 69) * (pt N (.cells #[mP T] 82) * R))), ?_, ?_⟩
  · try simp +decide only [nilC, bsx, Nat.reduceAdd, Int.reduceLE, Int.reduceLT, Int.reduceToNat, rsx, g_s, g_s_ne, RunS.r H6]
    refine ifB_dec (fun c => ?_) (fun c => ?_)
    · rw [if_pos c]
      refine ldH_mk (v := mP T) (cellAt_of (RunS.loc2 H6) 0) ?_
      try simp only [nilC, bsx, Nat.reduceAdd, Int.reduceLE, Int.reduceLT, Int.reduceToNat]
      refine RunS.setFo (Sat.toF (xs := []) (Sat.own_new H6 3 1)) (fun v hv => by cases hv) (by omega) fun h7 H7 => H7
    · rw [if_neg c]
      exact H6
  rintro g85 h86 ⟨_, H7⟩
  generalize hx1 : (if x.f.pc = 0 then x.fo [] else x) = x1 at *
  have ep : x1.m = x.m := by rw [← hx1]; split <;> rfl
  have ef : x1.f = x.f := by rw [← hx1]; split <;> rfl
  have efr : x1.t.fr = x.t.fr := by rw [← hx1]; split <;> rfl
  have efo : x1.t.found.length ≤ x.t.found.length := by rw [← hx1]; split; exact Nat.zero_le _; exact Nat.le_refl _
  rw [ef] at k
  try simp +decide only [nilC, bsx, Nat.reduceAdd, Int.reduceLE, Int.reduceLT, Int.reduceToNat, rsx, g_s, g_s_ne, RunS.r H7, ef]
  have eN := cellAt_of (RunS.loc2 H7) 0
  have eN' : cellAt h86 ⟨N, 0, none⟩ = some (mP T) := eN
  have ldN : ∀ F : Value → Prop, ldH h86 ⟨N, 0, none⟩ F = F (mP T) := fun F => by unfold ldH; rw [eN']
  refine ifB_dec (fun c => ?_) (fun c => ?_)
  · rw [if_pos c] at k
    try simp only [nilC, bsx, Nat.reduceAdd, Int.reduceLE, Int.reduceLT, Int.reduceToNat, ldN]
    obtain ⟨a, cc, Q, e9, HQ, re⟩ := thrS_takeFo (RunS.thr H7)
    refine ldH_mk (e9 h86 _ HQ.drop) ?_
    try simp only [nilC, bsx, Nat.reduceAdd, Int.reduceLE, Int.reduceLT, Int.reduceToNat]
    refine rd15 (RunS.loc H7) ?_
    try simp +decide only [nilC, bsx, Nat.reduceAdd, Int.reduceLE, Int.reduceLT, Int.reduceToNat, rsx, g_s, g_s_ne, RunS.r H7, ef]
    refine rd15 (RunS.loc H7) ?_
    try simp +decide only [nilC, bsx, Nat.reduceAdd, Int.reduceLE, Int.reduceLT, Int.reduceToNat, rsx, g_s, g_s_ne, RunS.r H7, ef]
    refine rd15 (RunS.loc H7) ?_
    refine callV_fn (plSlots_call fun h8 o8 => ?_)
    have H8 := RunS.old H7 o8
    try simp only [nilC, bsx, Nat.reduceAdd, Int.reduceLE, Int.reduceLT, Int.reduceToNat]
    have eN8 : cellAt h8 ⟨N, 0, none⟩ = some (mP T) := cellAt_of (RunS.loc2 H8) 0
    have e98 := e9 h8 _ (HQ.old o8).drop
    try simp +decide only [nilC, bsx, Nat.reduceAdd, Int.reduceLE, Int.reduceLT, Int.reduceToNat, rsx, g_s, g_s_ne, c15 (RunS.loc H8), RunS.c H8, ef, eN8, e98]
    refine ⟨by omega, ?_⟩
    refine callV_fn (plSlots_call fun h9 o9 => ?_)
    have H9 := RunS.old H8 o9
    have eN9 : cellAt h9 ⟨N, 0, none⟩ = some (mP T) := cellAt_of (RunS.loc2 H9) 0
    have e99 := e9 h9 _ ((HQ.old o8).old o9).drop
    try simp +decide only [nilC, bsx, Nat.reduceAdd, Int.reduceLE, Int.reduceLT, Int.reduceToNat, rsx, g_s, g_s_ne, c15 (RunS.loc H9), RunS.c H9, ef, eN9, e99]
    refine ⟨by omega, ?_⟩
    have hd0 : 0 ≤ x.f.pc / x.m.p.slots := Int.ediv_nonneg (by omega) (by omega)
    have hd1 : x.f.pc / x.m.p.slots ≤ x.f.pc := Int.ediv_le_self _ (by omega)
    have hm0 : 0 ≤ x.f.pc % x.m.p.slots := Int.emod_nonneg _ (by omega)
    have hm1 : x.f.pc % x.m.p.slots < x.m.p.slots := Int.emod_lt_of_pos _ (by omega)
    have e1 : s64 (Int.tdiv x.f.pc x.m.p.slots) = x.f.pc / x.m.p.slots := by
      rw [Int.tdiv_eq_ediv_of_nonneg (by omega)]; unfold s64; omega
    have e2 : Int.tmod x.f.pc x.m.p.slots = x.f.pc % x.m.p.slots := Int.tmod_eq_emod_of_nonneg (by omega)
    rw [e1, e2]
    refine callV_fn (plHaz_call P ⟨by omega, by omega⟩ ⟨by omega, by omega⟩ fun h10 o10 => ?_)
    have o86 : Old h86.size h86 h10 := (o8.trans (o9.mono o8.1)).trans (o10.mono (Nat.le_trans o8.1 o9.1))
    have HQ10 := HQ.old o86
    have H10 := RunS.old H7 o86
    try simp only [nilC, bsx, Nat.reduceAdd, Int.reduceLE, Int.reduceLT, Int.reduceToNat]
    have eN10 : cellAt h10 ⟨N, 0, none⟩ = some (mP T) := cellAt_of (RunS.loc2 H10) 0
    refine ⟨e9 h10 _ HQ10.drop, eN10, eN10, ?_⟩
    rw [rot3] at HQ10
    have hs1 : x1.m.mm.st < 1099511627776 := by rw [ep]; exact hs
    refine callV_fn (cLoad_call HQ10 (haz_iN P _ _) hs1 fun h12 H12 u12 => ?_)
    have eN12 : cellAt h12 ⟨N, 0, none⟩ = some (mP T) := cellAt_of H12.drop.drop.drop.drop.at 0
    try simp only [nilC, bsx, Nat.reduceAdd, Int.reduceLE, Int.reduceLT, Int.reduceToNat, eN12, e9 h12 _ H12.drop.drop]
    have hB := RunS.B H7
    rw [← rot3] at H12
    refine ⟨cell_push (e9 h12 _ H12.drop), cell_push eN12, cell_push eN12, ?_⟩
    refine Sat.appF H12 (by omega) fun a' c' h13 H13 => ?_
    have eN13 : cellAt h13 ⟨N, 0, none⟩ = some (mP T) := cellAt_of H13.drop.drop.drop.drop.at 0
    try simp only [nilC, bsx, Nat.reduceAdd, Int.reduceLE, Int.reduceLT, Int.reduceToNat, eN13]
    refine re _ h13 a' _ c' _ (by omega) (fun v hv => ?_) H13 _ fun h14 H14 => ?_
    · rcases List.mem_append.1 hv with h1 | h1
      · exact hB.fo v h1
      · rw [List.mem_singleton.1 h1]; exact s64_iN _
    have H15 := RunS.ofThr H14
    have ef2 : (⟨(x1.m.load (x.m.p.haz (x.f.pc / x.m.p.slots) (x.f.pc % x.m.p.slots))).2, Thr.setFo x1.t (x1.t.found ++ [s64 (x1.m.load (x.m.p.haz (x.f.pc / x.m.p.slots) (x.f.pc % x.m.p.slots))).1]), x1.id⟩ : Run).f = x.f := ef
    try simp +decide only [nilC, bsx, Nat.reduceAdd, Int.reduceLE, Int.reduceLT, Int.reduceToNat, rsx, g_s, g_s_ne, RunS.r H15, ef2]
    have e3 : s64 (x.f.pc + 1) = x.f.pc + 1 := by unfold s64; omega
    rw [e3]
    exact RunS.stP H15 fun h16 H16 => k h16 (RunS.drp (RunS.drp (RunS.none H16)))
  · rw [if_neg c] at k
    clear H1 H2 H3 H4 H5 H6 w o5 o6 hx1
    have B7 := RunS.B H7
    have ere : x1.t.retired.length ≤ 1073741824 := B7.len.2.1
    refine ⟨fun vs h' => ∃ v0 v1 v2, vs = [v0, v1, v2] ∧ Sat h' (RunS M T tv (some (b, o)) (scanA x1 (x.m.p.slots * x.m.p.c.threads)) (pt N2 (.cells (plc x.m.p).toArray 69) * (pt N (.cells #[mP T] 82) * R))), ?_, ?_⟩
    · unfold scanA
      try simp +decide only [nilC, bsx, Nat.reduceAdd, Int.reduceLE, Int.reduceLT, Int.reduceToNat, rsx, g_s, g_s_ne, RunS.r H7, ef]
      refine ifB_dec (fun c2 => ?_) (fun c2 => ?_)
      · rw [if_pos c2]
        try simp only [nilC, bsx, Nat.reduceAdd, Int.reduceLE, Int.reduceLT, Int.reduceToNat, ldN]
        refine callV_fn (pileList_call (RunS.thr H7) fun a c' h8 Q H8 hQ => ?_)
        try simp only [nilC, bsx, Nat.reduceAdd, Int.reduceLE, Int.reduceLT, Int.reduceToNat]
        refine filter_loop hQ (fun h P HP => cellAt_of (Sat.ac HP (by ac_rfl) : Sat h (pt N (.cells #[mP T] 82) * (P * (macS M tv x1.m * (pt N2 (.cells (plc x.m.p).toArray 69) * R))))).at 0) ere (by have := B7.len; omega) H8 fun oa oc h9 H9 v189 v190 => ?_
        have eN9 : cellAt h9 ⟨N, 0, none⟩ = some (mP T) := cellAt_of H9.drop.drop.drop.drop.drop.at 0
        have hout : ∃ out, out = x1.t.retired.filter (fun n => !x1.t.found.contains n) := ⟨_, rfl⟩
        obtain ⟨out, hout⟩ := hout
        rw [← hout] at H9 ⊢
        · have ldN9 : ∀ F : Value → Prop, ldH h9 ⟨N, 0, none⟩ F = F (mP T) := fun F => by unfold ldH; rw [eN9]
          try simp only [nilC, bsx, Nat.reduceAdd, Int.reduceLE, Int.reduceLT, Int.reduceToNat, ldN9]
          have H10 : Sat h9 (thrS T (some (b, o)) x1.t x1.id * (pt N (.cells #[mP T] 82) * (ownS 3 1 oa out.length oc (out.map iv) * (macS M tv x1.m * (pt N2 (.cells (plc x.m.p).toArray 69) * R))))) :=
            Sat.drop (P := Q) (Sat.ac H9 (by ac_rfl))
          refine callV_fn (pileKeep_call H10 fun nk h11 H11 => ?_)
          have eN11 : cellAt h11 ⟨N, 0, none⟩ = some (mP T) := cellAt_of H11.drop.at 0
          have ldN11 : ∀ F : Value → Prop, ldH h11 ⟨N, 0, none⟩ F = F (mP T) := fun F => by unfold ldH; rw [eN11]
          try simp only [nilC, bsx, Nat.reduceAdd, Int.reduceLE, Int.reduceLT, Int.reduceToNat, ldN11]
          have H12 : Sat h11 (ownF oa out.length oc out * RunS M T tv (some (b, o)) (x1.re (x1.t.retired.filter fun n => x1.t.found.contains n)) (pt N2 (.cells (plc x.m.p).toArray 69) * (pt N (.cells #[mP T] 82) * R))) :=
            Sat.toF (Sat.ac H11 (by unfold RunS; ac_rfl))
          refine RunS.setFo H12 (fun v hv => B7.re v (by rw [hout] at hv; exact (List.mem_filter.1 hv).1)) (by rw [hout]; exact Nat.le_trans (List.length_filter_le _ _) ere) fun h13 H13 => ?_
          have ef2 : ((x1.re (x1.t.retired.filter fun n => x1.t.found.contains n)).fo out).f = x.f := ef
          try simp +decide only [nilC, bsx, Nat.reduceAdd, Int.reduceLE, Int.reduceLT, Int.reduceToNat, rsx, g_s, g_s_ne, RunS.r H13, ef2]
          have e3 : s64 (x.f.pc + 1) = x.f.pc + 1 := by unfold s64; omega
          rw [e3]
          exact RunS.stP H13 fun h14 H14 => ⟨_, _, _, rfl, H14⟩
      · rw [if_neg c2]
        exact ⟨_, _, _, rfl, H7⟩
    rintro v229 v230 v231 g232 h233 ⟨w0, w1, w2, e, H8⟩
    cases e
    have ed : (scanA x1 (x.m.p.slots * x.m.p.c.threads)).t.fr.length < 1073741824 := by
      unfold scanA
      split
      · show (x1.t.fr.dropLast ++ [_]).length < _
        rw [efr]; simp; omega
      · rw [efr]; exact hd
    generalize scanA x1 (x.m.p.slots * x.m.p.c.threads) = x2 at *
    have eN8 : cellAt h233 ⟨N, 0, none⟩ = some (mP T) := cellAt_of (RunS.loc2 H8) 0
    have ldN8 : ∀ F : Value → Prop, ldH h233 ⟨N, 0, none⟩ F = F (mP T) := fun F => by unfold ldH; rw [eN8]
    have B8 := RunS.B H8
    obtain ⟨a, cc, Q, e9, HQ, re⟩ := thrS_takeFo (RunS.thr H8)
    have ld9 : ∀ F : Value → Prop, ldH h233 ⟨T, 9, none⟩ F = F (.slice a x2.t.found.length cc) := fun F => by unfold ldH; rw [e9 h233 _ HQ.drop]
    try simp only [nilC, bsx, Nat.reduceAdd, Int.reduceLE, Int.reduceLT, Int.reduceToNat, ldN8, ld9]
    unfold scanB at k
    cases hfo : x2.t.found with
    | nil =>
      rw [hfo] at k
      try simp only [nilC, bsx, Nat.reduceAdd, Int.reduceLE, Int.reduceLT, Int.reduceToNat, List.length_nil]
      exact callV_fn (rPop H8 Args.none (by omega) fun h9 H9 => k h9 (RunS.drp (RunS.drp H9)))
    | cons n rest =>
      rw [hfo] at k HQ
      have hl : ((((n :: rest).length : Nat) : Int) == 0) = false := by rw [beq_eq_false_iff_ne, List.length_cons]; omega
      rw [hl]
      try simp only [nilC, bsx, Nat.reduceAdd, Int.reduceLE, Int.reduceLT, Int.reduceToNat, ldN8, ld9]
      refine ⟨by rw [List.length_cons]; omega, ?_⟩
      have ow := HQ.ownf
      obtain ⟨ad, rfl, hc⟩ := ow.ri.at (i := 0) (by simp)
      rw [add_zero] at hc
      obtain ⟨tl, hsub⟩ := ow.tail
      try simp only [nilC, bsx, Nat.reduceAdd, Int.reduceLE, Int.reduceLT, Int.reduceToNat]
      refine ldH_mk hc ?_
      try simp only [nilC, bsx, Nat.reduceAdd, Int.reduceLE, Int.reduceLT, Int.reduceToNat]
      refine ⟨by rw [List.length_cons]; omega, ?_⟩
      obtain ⟨_, hlt2, re2⟩ := HQ.opn
      have HT := re2 h233 (blk (subA (some ad) 1 cc 1)) (fun h => OwnF h (subA (some ad) 1 cc 1) ((n :: rest).length - 1) (cc - 1) rest) (Fr.refl _ _) (fun b2 hb2 => ⟨.inl (hsub b2 hb2), hlt2 b2 (hsub b2 hb2)⟩) tl.nd fun h'' e => tl.congr e
      have hfl := B8.len.2.2
      rw [hfo] at hfl
      refine re _ h233 _ _ _ rest (by omega) (fun v hv => B8.fo v (by rw [hfo]; exact List.mem_cons_of_mem _ hv)) HT _ fun h9 H9 => ?_
      have H10 : Sat h9 (RunS M T tv (some (b, o)) (x2.fo rest) _) := RunS.ofThr H9
      have eN10 : cellAt h9 ⟨N, 0, none⟩ = some (mP T) := cellAt_of (RunS.loc2 H10) 0
      have ldN10 : ∀ F : Value → Prop, ldH h9 ⟨N, 0, none⟩ F = F (mP T) := fun F => by unfold ldH; rw [eN10]
      try simp only [nilC, bsx, Nat.reduceAdd, Int.reduceLE, Int.reduceLT, Int.reduceToNat, ldN10]
      exact callV_fn (rPushN H10 [u64 n] rfl (one_U (u64_U _)) (by omega) ed fun h11 b2 o2 _ _ H11 => k h11 (RunS.drp (RunS.drp (RunS.none H11))))
end
end
section
open Mod
structure Ok (x : Run) : Prop where
  st : x.m.mm.st < 1099511627776
  us : x.m.used < 1099511627776
  re : x.t.retired.length < 1073741824
  fo : x.t.found.length < 1073741824
  fr : x.t.fr.length < 1000000000
  id : iN x.id
  pc : 0 ≤ x.f.pc ∧ x.f.pc ≤ 100
section
variable {K : Value → Heap → Prop} {h : Heap} {M T b o N : Nat} {tv : Value} {fo : Option (Nat × Nat)} {x : Run} {R : Hp}
theorem arenaDo_call (H : Sat h (RunS M T tv fo x R)) (O : Ok x) (k : ∀ h', Sat h' (RunS M T tv none (arenaDo x) R) → K (.tuple #[]) h') :
    CallH Tryz.prog 103 #[mP M, mP T] h K := by
  refine call103 ?_
  unfold F103 cf lI nP
  unfold arenaDo at k
  refine callV_fn (rTop H (fun e => ?_) fun b o hne _ H1 => ?_)
  · rw [if_pos e] at k
    try simp only [nilC, bsx, Nat.reduceAdd, Int.reduceLE, Int.reduceLT, Int.reduceToNat]
    refine ⟨fun vs h' => (∃ w, vs = [.bool true, w]) ∧ h' = h, ⟨⟨_, rfl⟩, rfl⟩, ?_⟩
    rintro v4 v5 g6 h7 ⟨⟨w, e⟩, rfl⟩
    cases e
    try simp only [nilC, bsx, Nat.reduceAdd, Int.reduceLE, Int.reduceLT, Int.reduceToNat]
    exact k _ (RunS.none H)
  · rw [if_neg hne] at k
    try simp only [nilC, bsx, Nat.reduceAdd, Int.reduceLE, Int.reduceLT, Int.reduceToNat]
    refine ⟨fun vs h' => (∃ w, vs = [.bool false, w]) ∧ h' = h, ⟨⟨_, rfl⟩, rfl⟩, ?_⟩
    rintro v4 v5 g6 h7 ⟨⟨w, e⟩, rfl⟩
    cases e
    try simp +decide only [nilC, bsx, Nat.reduceAdd, Int.reduceLE, Int.reduceLT, Int.reduceToNat, rsx, g_s, g_s_ne, RunS.r H1]
    refine ifB_dec (fun c => ?_) (fun c => ?_)
    · rw [if_pos c] at k
      exact callV_fn (alloc_call H1 O.st k)
    rw [if_neg c] at k
    refine ifB_dec (fun c => ?_) (fun c => ?_)
    · rw [if_pos c] at k
      exact callV_fn (release_call H1 O.st k)
    rw [if_neg c] at k
    exact callV_fn (rPop H1 Args.none (by omega) k)
theorem hazardDo_call (H : Sat h (RunS M T tv fo x R)) (O : Ok x) (k : ∀ h', Sat h' (RunS M T tv none (hazardDo x) R) → K (.tuple #[]) h') :
    CallH Tryz.prog 54 #[mP M, mP T] h K := by
  refine call54 ?_
  unfold F54 cf lI nP
  unfold hazardDo at k
  refine callV_fn (rTop H (fun e => ?_) fun b o hne _ H1 => ?_)
  · rw [if_pos e] at k
    try simp only [nilC, bsx, Nat.reduceAdd, Int.reduceLE, Int.reduceLT, Int.reduceToNat]
    refine ⟨fun vs h' => (∃ w, vs = [.bool true, w]) ∧ h' = h, ⟨⟨_, rfl⟩, rfl⟩, ?_⟩
    rintro v4 v5 g6 h7 ⟨⟨w, e⟩, rfl⟩
    cases e
    try simp only [nilC, bsx, Nat.reduceAdd, Int.reduceLE, Int.reduceLT, Int.reduceToNat]
    exact k _ (RunS.none H)
  · rw [if_neg hne] at k
    try simp only [nilC, bsx, Nat.reduceAdd, Int.reduceLE, Int.reduceLT, Int.reduceToNat]
    refine ⟨fun vs h' => (∃ w, vs = [.bool false, w]) ∧ h' = h, ⟨⟨_, rfl⟩, rfl⟩, ?_⟩
    rintro v4 v5 g6 h7 ⟨⟨w, e⟩, rfl⟩
    cases e
    try simp +decide only [nilC, bsx, Nat.reduceAdd, Int.reduceLE, Int.reduceLT, Int.reduceToNat, rsx, g_s, g_s_ne, RunS.r H1]
    refine ifB_dec (fun c => ?_) (fun c => ?_)
    · rw [if_pos c] at k
      exact callV_fn (protect_call H1 O.id O.st k)
    rw [if_neg c] at k
    refine ifB_dec (fun c => ?_) (fun c => ?_)
    · rw [if_pos c] at k
      exact callV_fn (wipe_call H1 O.id O.pc O.st k)
    rw [if_neg c] at k
    refine ifB_dec (fun c => ?_) (fun c => ?_)
    · rw [if_pos c] at k
      exact callV_fn (retire_call H1 O.re (by have := O.fr; omega) k)
    rw [if_neg c] at k
    refine ifB_dec (fun c => ?_) (fun c => ?_)
    · rw [if_pos c] at k
      exact callV_fn (scan_call H1 O.pc O.st O.fo (by have := O.fr; omega) k)
    rw [if_neg c] at k
    exact callV_fn (arenaDo_call H1 O k)
end
end
section
open Mod
def Mod.Mac.setTh (m : Mac) (l : List Thr) : Mac := { m with th := l }
def Mod.Mac.quiet (m : Mac) : Mac := { m with acted := false }
def thrs : Int → List Nat → List Thr → Hp
  | _, [], _ => emp
  | _, _ :: _, [] => emp
  | i, T :: Ts, t :: ts => thrS T none t i * thrs (i + 1) Ts ts
theorem thrs_take {h : Heap} : ∀ {Ts : List Nat} {ts : List Thr} {i : Int} {k : Nat} {R : Hp} (T : Nat) (t : Thr), Ts[k]? = some T → ts[k]? = some t → Sat h (thrs i Ts ts * R) →
    ∃ Q : Hp, Sat h (thrS T none t (i + k) * (Q * R)) ∧ ∀ R' h' t', Sat h' (thrS T none t' (i + k) * (Q * R')) → Sat h' (thrs i Ts (ts.set k t') * R')
  | [], _, _, k, _, _, _, e, _, _ => by simp at e
  | _ :: _, [], _, k, _, _, _, _, e, _ => by simp at e
  | T0 :: Ts, t0 :: ts, i, 0, R, T, t, e1, e2, H => by
    simp only [List.getElem?_cons_zero, Option.some.injEq] at e1 e2
    subst e1 e2
    refine ⟨thrs (i + 1) Ts ts, ?_, fun R' h' t' H' => ?_⟩
    · rw [show i + ((0 : Nat) : Int) = i by omega, ← star_assoc]
      exact H
    · rw [show i + ((0 : Nat) : Int) = i by omega, ← star_assoc] at H'
      exact H'
  | T0 :: Ts, t0 :: ts, i, k + 1, R, T, t, e1, e2, H => by
    simp only [List.getElem?_cons_succ] at e1 e2
    have H : Sat h ((thrS T0 none t0 i * thrs (i + 1) Ts ts) * R) := H
    rw [star_assoc, star_left] at H
    obtain ⟨Q, H1, re⟩ := thrs_take T t e1 e2 H
    have ei : i + 1 + (k : Int) = i + ((k + 1 : Nat) : Int) := by omega
    rw [ei] at H1 re
    refine ⟨Q * thrS T0 none t0 i, by rw [star_assoc]; exact H1, fun R' h' t' H' => ?_⟩
    rw [star_assoc] at H'
    have H2 := re _ _ _ H'
    show Sat h' ((thrS T0 none t0 i * thrs (i + 1) Ts (ts.set k t')) * R')
    rw [star_assoc, star_left]
    exact H2
def machS (M : Nat) (Ts : List Nat) (m : Mac) : Hp := ex fun a => ex fun c => pr (Ts.length = m.th.length ∧ m.th.length ≤ 6) (macS M (.slice a m.th.length c) m * (ownS 82 1 a m.th.length c (Ts.map mP) * thrs 0 Ts m.th))
theorem machS_iff {h : Heap} {M : Nat} {Ts : List Nat} {m : Mac} {R : Hp} : Sat h (machS M Ts m * R) ↔ ∃ a c, (Ts.length = m.th.length ∧ m.th.length ≤ 6) ∧ Sat h (macS M (.slice a m.th.length c) m * (ownS 82 1 a m.th.length c (Ts.map mP) * (thrs 0 Ts m.th * R))) := by
  unfold machS
  simp only [Sat.ex, Sat.pr, star_assoc]
theorem machS_take {h : Heap} {M : Nat} {Ts : List Nat} {m : Mac} {R : Hp} {k : Nat} {T : Nat} {t : Thr} (H : Sat h (machS M Ts m * R)) (e1 : Ts[k]? = some T) (e2 : m.th[k]? = some t) :
    ∃ tv, ∃ Q : Hp, Sat h (RunS M T tv none ⟨m, t, k⟩ (Q * R)) ∧ ∀ h' (x : Run) R', x.id = (k : Int) → Sat h' (RunS M T tv none x (Q * R')) → Sat h' (machS M Ts (x.m.setTh (m.th.set k x.t)) * R') := by
  obtain ⟨a, c, ⟨hl, h6⟩, H1⟩ := machS_iff.1 H
  have H2 : Sat h (thrs 0 Ts m.th * (macS M (.slice a m.th.length c) m * (ownS 82 1 a m.th.length c (Ts.map mP) * R))) := Sat.ac H1 (by ac_rfl)
  obtain ⟨Q, H3, re⟩ := thrs_take T t e1 e2 H2
  rw [Int.zero_add] at H3 re
  refine ⟨.slice a m.th.length c, Q * ownS 82 1 a m.th.length c (Ts.map mP), ?_, fun h' x R' ei H' => ?_⟩
  · unfold RunS
    exact Sat.ac H3 (by ac_rfl)
  · unfold RunS at H'
    rw [ei] at H'
    have H4 : Sat h' (thrS T none x.t k * (Q * (macS M (.slice a m.th.length c) x.m * (ownS 82 1 a m.th.length c (Ts.map mP) * R')))) := Sat.ac H' (by ac_rfl)
    have H5 := re _ _ _ H4
    refine machS_iff.2 ⟨a, c, ⟨by simp [Mod.Mac.setTh, hl], by simp [Mod.Mac.setTh, h6]⟩, ?_⟩
    show Sat h' (macS M (.slice a (m.th.set k x.t).length c) x.m * (ownS 82 1 a (m.th.set k x.t).length c (Ts.map mP) * (thrs 0 Ts (m.th.set k x.t) * R')))
    rw [List.length_set]
    exact Sat.ac H5 (by ac_rfl)
section
variable {K : Value → Heap → Prop} {h : Heap} {M T b o N : Nat} {tv : Value} {fo : Option (Nat × Nat)} {x : Run} {R : Hp} {m : Mac} {Ts : List Nat}
theorem thread_call (H : Sat h (machS M Ts m * R)) {i : Int} (k0 : (i < 0 ∨ m.th.length ≤ i) → K (.pointer none) h) (k : ∀ T, 0 ≤ i → Ts[i.toNat]? = some T → K (mP T) h) :
    CallH Tryz.prog 37 #[mP M, .int .i64 i] h K := by
  refine call37 ?_
  unfold F37 bd lS lP nP
  obtain ⟨a, c, ⟨hl, h6⟩, H1⟩ := machS_iff.1 H
  obtain ⟨q, gq, fq, P, H2⟩ := macS_iff.1 H1
  have O := H2.at
  have S := (H1.drop).own.sees
  try simp only [nilC, bsx, Nat.reduceAdd, Int.reduceLE, Int.reduceLT, Int.reduceToNat]
  refine ⟨fun vs h' => (∃ w, vs = [w, .bool (decide (i < 0 ∨ m.th.length ≤ i))]) ∧ h' = h, ?_, ?_⟩
  · refine ifB_dec (fun c1 => ?_) (fun c1 => ?_)
    · rw [decide_eq_true (p := i < 0 ∨ m.th.length ≤ i) (.inl c1)]
      exact ⟨⟨_, rfl⟩, rfl⟩
    · refine H2.ld rfl ?_
      try simp only [nilC, bsx, Nat.reduceAdd, Int.reduceLE, Int.reduceLT, Int.reduceToNat]
      rw [show decide (i ≥ (m.th.length : Int)) = decide (i < 0 ∨ m.th.length ≤ i) by rw [decide_eq_decide]; omega]
      first | exact ⟨⟨.bool (decide (i < 0)), rfl⟩, by trivial⟩ | exact ⟨.bool (decide (i < 0)), rfl⟩
  rintro v6 v7 g8 h9 ⟨⟨w, e⟩, rfl⟩
  cases e
  try simp only [nilC, bsx, Nat.reduceAdd, Int.reduceLE, Int.reduceLT, Int.reduceToNat]
  refine ifB_dec (fun c1 => k0 c1) (fun c1 => ?_)
  refine H2.ld rfl ?_
  try simp only [nilC, bsx, Nat.reduceAdd, Int.reduceLE, Int.reduceLT, Int.reduceToNat]
  have hlt : i.toNat < Ts.length := by omega
  obtain ⟨T, hT⟩ : ∃ T, Ts[i.toNat]? = some T := ⟨_, List.getElem?_eq_getElem hlt⟩
  obtain ⟨ad, ea, hc⟩ := S i.toNat (mP T) (by rw [List.getElem?_map, hT]; rfl)
  subst ea
  refine ⟨by omega, by omega, ?_⟩
  try simp only [nilC, bsx, Nat.reduceAdd, Int.reduceLE, Int.reduceLT, Int.reduceToNat]
  unfold ldH
  rw [hc]
  try simp only [nilC, bsx, Nat.reduceAdd, Int.reduceLE, Int.reduceLT, Int.reduceToNat]
  exact k T (by omega) hT
theorem least (P : Nat → Prop) (h : ∃ n, P n) : ∃ n, P n ∧ ∀ m, P m → n ≤ m := by
  obtain ⟨n, hn⟩ := h
  induction n using Nat.strongRecOn with
  | _ n ih =>
    by_cases c : ∃ m, m < n ∧ P m
    · obtain ⟨m, hm, hp⟩ := c
      exact ih m hm hp
    · exact ⟨n, hn, fun m hm => Nat.le_of_not_lt fun hh => c ⟨m, hh, hm⟩⟩
open Classical in
noncomputable def leastN (P : Nat → Prop) : Nat := if h : ∃ n, P n then (least P h).choose else 0
theorem leastN_spec {P : Nat → Prop} (h : ∃ n, P n) : P (leastN P) ∧ ∀ m, P m → leastN P ≤ m := by
  unfold leastN
  rw [dif_pos h]
  exact (least P h).choose_spec
def done (x : Run) : Bool := x.m.acted || x.t.fr.isEmpty
def Safe (d : Run → Run) (W : Run → Prop) : Nat → Run → Prop
  | 0, _ => True
  | n + 1, x => done x = true ∨ (W x ∧ Safe d W n (d x))
def DoC (f : Nat) (d : Run → Run) (W : Run → Prop) : Prop := ∀ (h : Heap) (M T : Nat) (tv : Value) (x : Run) (R : Hp) (K : Value → Heap → Prop), Sat h (RunS M T tv none x R) → W x → (∀ h', Sat h' (RunS M T tv none (d x) R) → K (.tuple #[]) h') → CallH Tryz.prog f #[mP M, mP T] h K
def StepP (d : Run → Run) (W : Run → Prop) (M T : Nat) (tv : Value) (R : Hp) (z : Run) (h : Heap) (n : Nat) : Prop := ∃ y, Sat h (RunS M T tv none y R) ∧ Mod.bits d n y = some z ∧ Safe d W n y
theorem stepLoop_call {f : Nat} {d : Run → Run} {W : Run → Prop} (D : DoC f d W) (H : Sat h (machS M Ts m * R)) {i : Int} {n : Nat} {z : Run} {t : Thr} (h0 : 0 ≤ i) (ht : m.th[i.toNat]? = some t)
    (hz : Mod.bits d n ⟨m.quiet, t, i⟩ = some z) (hs : Safe d W n ⟨m.quiet, t, i⟩) (hid : z.id = i)
    (k : ∀ h', Sat h' (machS M Ts (z.m.setTh (m.th.set i.toNat z.t)) * R) → K (.bool (!z.t.fr.isEmpty)) h') :
    CallH Tryz.prog 40 #[mP M, .int .i64 i, .func (.func f) #[] #[]] h K := by
  refine call40 ?_
  unfold F40 cf lS nP
  have hlt : i.toNat < m.th.length := (List.getElem?_eq_some_iff.1 ht).1
  refine callV_fn (thread_call H (fun c => by omega) fun T _ hT => ?_)
  try simp only [nilC, bsx, Nat.reduceAdd, Int.reduceLE, Int.reduceLT, Int.reduceToNat]
  unfold asFnNil
  dsimp only
  refine ⟨fun vs h' => vs = [.bool false] ∧ h' = h, ⟨rfl, rfl⟩, ?_⟩
  rintro v5 g6 h7 ⟨e, rfl⟩
  cases e
  try simp only [nilC, bsx, Nat.reduceAdd, Int.reduceLE, Int.reduceLT, Int.reduceToNat]
  obtain ⟨tv, Q, H1, re⟩ := machS_take H hT ht
  have ei : ((i.toNat : Nat) : Int) = i := by omega
  rw [ei] at H1 re
  obtain ⟨q, gq, fq, P, H2⟩ := macS_iff.1 H1
  refine H2.st (i := 19) rfl trivial fun h8 H3 => ?_
  have H4 : Sat h8 (RunS M T tv none ⟨m.quiet, t, i⟩ (Q * R)) := macS_iff.2 ⟨q, gq, fq, P, H3⟩
  have acc : ∀ {h : Heap} {y : Run}, Sat h (RunS M T tv none y (Q * R)) → (∀ F : Value → Prop, ldH h ⟨M, 19, none⟩ F = F (.bool y.m.acted)) ∧ ∃ a c, ∀ F : Value → Prop, ldH h ⟨T, 1, none⟩ F = F (.slice a y.t.fr.length c) := by
    intro h y Y
    obtain ⟨q, gq, fq, P, Y1⟩ := macS_iff.1 Y
    obtain ⟨B, O⟩ := thrS_own (RunS.thr Y)
    refine ⟨fun F => ?_, B.fr, B.frn, fun F => ?_⟩
    · unfold ldH; rw [cellAt_of Y1.at]; rfl
    · unfold ldH; rw [cellAt_of O]; rfl
  refine ⟨fun _ h => ∃ n, StepP d W M T tv (Q * R) z h n, fun _ h => leastN (StepP d W M T tv (Q * R) z h), ⟨n, _, H4, hz, hs⟩, ?_⟩
  intro g13 h14 HI
  obtain ⟨⟨y, Y, hb, hS⟩, hmin⟩ := leastN_spec HI
  obtain ⟨n0, hn⟩ : ∃ n0, leastN (StepP d W M T tv (Q * R) z h14) = n0 := ⟨_, rfl⟩
  rw [hn] at hb hS
  obtain ⟨ac, af, an, al⟩ := acc Y
  refine ⟨fun vs h' => vs = [.bool (!Proofs.YtglgifgoojncpaaGreat.done y)] ∧ h' = h14, ?_, ?_⟩
  · rw [ac]
    try simp only [nilC, bsx, Nat.reduceAdd, Int.reduceLE, Int.reduceLT, Int.reduceToNat]
    refine ifB_mk (fun c => ?_) (fun c => ?_)
    · have c' : y.m.acted = false := by simpa using c
      rw [al]
      have e2 : decide ((y.t.fr.length : Int) > 0) = !Proofs.YtglgifgoojncpaaGreat.done y := by
        unfold Proofs.YtglgifgoojncpaaGreat.done
        rw [c']
        cases y.t.fr <;> simp
      try simp only [asSlice_slice, e2, and_self, and_true]
    · have c' : y.m.acted = true := by simpa using c
      have e2 : false = !Proofs.YtglgifgoojncpaaGreat.done y := by
        unfold Proofs.YtglgifgoojncpaaGreat.done
        rw [c']
        rfl
      rw [← e2]
      try trivial
  rintro v24 g25 h26 ⟨e, rfl⟩
  cases e
  try simp only [nilC, bsx, Nat.reduceAdd, Int.reduceLE, Int.reduceLT, Int.reduceToNat]
  refine ifB_mk (fun c => ?_) (fun c => ?_)
  · have c' : Proofs.YtglgifgoojncpaaGreat.done y = false := by simpa using c
    cases n0 with
    | zero =>
      unfold Mod.bits at hb
      unfold Proofs.YtglgifgoojncpaaGreat.done at c'
      rw [c'] at hb
      cases hb
    | succ n' =>
      rcases hS with hS | ⟨hW, hS⟩
      · rw [hS] at c'; cases c'
      · have hb' : Mod.bits d n' (d y) = some z := by
          unfold Mod.bits at hb
          unfold Proofs.YtglgifgoojncpaaGreat.done at c'
          rw [c'] at hb
          exact hb
        refine callV_fn (D _ _ _ _ _ _ _ Y hW fun h29 H29 => ⟨⟨n', _, H29, hb', hS⟩, ?_⟩)
        have hP : StepP d W M T tv (Q * R) z h29 n' := ⟨_, H29, hb', hS⟩
        have hl := (leastN_spec ⟨n', hP⟩).2 n' hP
        show leastN _ < leastN _
        rw [hn]
        omega
  · have c' : Proofs.YtglgifgoojncpaaGreat.done y = true := by simpa using c
    have ez : y = z := by
      unfold Proofs.YtglgifgoojncpaaGreat.done at c'
      cases n0 <;> unfold Mod.bits at hb <;> rw [c'] at hb <;> exact Option.some.inj hb
    subst ez
    rw [al]
    try simp only [nilC, bsx, Nat.reduceAdd, Int.reduceLE, Int.reduceLT, Int.reduceToNat]
    have e2 : decide ((y.t.fr.length : Int) > 0) = !y.t.fr.isEmpty := by
      cases y.t.fr <;> simp
    rw [e2]
    exact k h26 (re _ y R hid Y)
end
end
end Go.Proofs.YtglgifgoojncpaaGreat
