/- Part 11 of what the proofs of this seat rest on: see the last text of the claim. -/
import Derived.Test.YtglgifgoojncpaaGreatQ03c88c6b9516
set_option linter.unusedSimpArgs false
set_option linter.unusedVariables false
set_option linter.ambiguousOpen false
set_option maxRecDepth 20000
namespace Go.Proofs.YtglgifgoojncpaaGreat
section
open Mod
theorem st10 {h : Heap} {b : Nat} {v0 v1 v2 v3 v4 v5 v6 v7 v8 v9 : Value} {K : Heap → Prop} (H : stN h ⟨b, 0, none⟩ 0 [v0, v1, v2, v3, v4, v5, v6, v7, v8, v9] K) :
    stH h ⟨b, 0, none⟩ v0 fun h => stH h ⟨b, 1, none⟩ v1 fun h => stH h ⟨b, 2, none⟩ v2 fun h => stH h ⟨b, 3, none⟩ v3 fun h => stH h ⟨b, 4, none⟩ v4 fun h => stH h ⟨b, 5, none⟩ v5 fun h => stH h ⟨b, 6, none⟩ v6 fun h => stH h ⟨b, 7, none⟩ v7 fun h => stH h ⟨b, 8, none⟩ v8 fun h => stH h ⟨b, 9, none⟩ v9 K := H
def u8v (n : Int) : Value := .int .u8 n
structure ScrI (h : Heap) (ca : Option Addr) (cl : Nat) (pa : Option Addr) (pl : Nat) (da : Option Addr) (dl : Nat) (calls : List (List Cl)) (picks draws : List Int) : Prop where
  f : ScrF h ca cl pa pl calls picks
  ds : dl = draws.length
  dr : Sees h da (draws.map u8v)
structure ScrR (calls : List (List Cl)) (picks draws : List Int) : Prop where
  cl : ∀ l ∈ calls, ∀ c ∈ l, V c.key ∧ V c.val
  dr : ∀ n ∈ draws, 0 ≤ n ∧ n < 256
def opL (n : Int) : Int := Int.tmod (s64 (Int.tmod n 3 + 3)) 3
def clL (c : Cl) : Cl := if opL c.op = 0 then ⟨0, c.key, c.val⟩ else ⟨opL c.op, 0, 0⟩
def rowL (n : Nat) (l : List Cl) : List Cl := (l.take n).map clL
def callsL (th n : Nat) (calls : List (List Cl)) : List (List Cl) := (List.range th).map fun i => rowL n (calls.getD i [])
def pickL (th : Int) (k : Int) : Int := Int.tmod (s64 (Int.tmod k th + th)) th
def picksL (th : Int) (n : Nat) (picks : List Int) : List Int := (picks.take n).map (pickL th)
theorem opL_rng (n : Int) : 0 ≤ opL n ∧ opL n ≤ 2 := by
  have h1 : Int.tmod n 3 < 3 := Int.tmod_lt_of_pos n (by decide)
  have h2 : -3 < Int.tmod n 3 := by
    have := Int.lt_tmod_of_pos n (b := 3) (by decide)
    omega
  have h3 : s64 (Int.tmod n 3 + 3) = Int.tmod n 3 + 3 := by unfold s64; omega
  unfold opL
  rw [h3]
  generalize Int.tmod n 3 = m at *
  rw [Int.tmod_eq_emod_of_nonneg (by omega)]
  omega
theorem pickL_rng {th : Int} (ht : 1 ≤ th ∧ th ≤ 6) (n : Int) : 0 ≤ pickL th n ∧ pickL th n < th := by
  have h1 : Int.tmod n th < th := Int.tmod_lt_of_pos n (by omega)
  have h2 : -th < Int.tmod n th := by
    have := Int.lt_tmod_of_pos n (b := th) (by omega)
    omega
  have h3 : s64 (Int.tmod n th + th) = Int.tmod n th + th := by unfold s64; omega
  unfold pickL
  rw [h3]
  generalize Int.tmod n th = m at *
  rw [Int.tmod_eq_emod_of_nonneg (by omega)]
  exact ⟨Int.emod_nonneg _ (by omega), Int.emod_lt_of_pos _ (by omega)⟩
theorem clL_ok {c : Cl} (h : V c.key ∧ V c.val) : (0 ≤ (clL c).op ∧ (clL c).op ≤ 2) ∧ V (clL c).key ∧ V (clL c).val := by
  have := opL_rng c.op
  unfold clL
  split
  · exact ⟨⟨by show (0 : Int) ≤ 0; omega, by show (0 : Int) ≤ 2; omega⟩, h⟩
  · exact ⟨this, ⟨by show (0 : Int) ≤ 0; omega, by show (0 : Int) < _; omega⟩, ⟨by show (0 : Int) ≤ 0; omega, by show (0 : Int) < _; omega⟩⟩
theorem callsL_len (th n : Nat) (calls : List (List Cl)) : (callsL th n calls).length = th := by unfold callsL; simp
theorem callsL_ok {th n : Nat} {calls : List (List Cl)} {picks draws : List Int} (R : ScrR calls picks draws) (hn : n ≤ 1000) : ∀ l ∈ callsL th n calls, l.length ≤ 1000 ∧ ∀ c ∈ l, (0 ≤ c.op ∧ c.op ≤ 2) ∧ V c.key ∧ V c.val := by
  intro l hl
  unfold callsL at hl
  obtain ⟨i, _, rfl⟩ := List.mem_map.1 hl
  unfold rowL
  refine ⟨by rw [List.length_map, List.length_take]; omega, fun c hc => ?_⟩
  obtain ⟨c0, hc0, rfl⟩ := List.mem_map.1 hc
  have hm := List.mem_of_mem_take hc0
  have : calls.getD i [] ∈ calls ∨ calls.getD i [] = [] := by
    rw [List.getD_eq_getElem?_getD]
    cases e : calls[i]? with
    | none => right; rfl
    | some l => left; exact List.mem_of_getElem? e
  rcases this with h | h
  · exact clL_ok (R.cl _ h _ hm)
  · rw [h] at hm; cases hm
theorem scrL_ok {th : Int} {n m : Nat} {calls : List (List Cl)} {picks draws : List Int} (ht : 1 ≤ th ∧ th ≤ 6) (R : ScrR calls picks draws) (hn : n ≤ 1000) (hm : m ≤ 60000) : ScrOk (callsL th.toNat n calls) (picksL th m picks) := by
  refine ⟨by rw [callsL_len]; omega, callsL_ok R hn, ?_, ?_⟩
  · unfold picksL; rw [List.length_map, List.length_take]; omega
  · intro k hk
    unfold picksL at hk
    obtain ⟨k0, _, rfl⟩ := List.mem_map.1 hk
    have := pickL_rng ht k0
    rw [callsL_len]
    omega
def rowV (p : (Option Addr × Nat) × List Cl) : List Value := [.slice p.1.1 p.2.length p.1.2]
def rowsS : List (Option Addr × Nat) → List (List Cl) → Hp
  | p :: ps, l :: ls => ownS 53 3 p.1 l.length p.2 (l.flatMap clc) * rowsS ps ls
  | _, _ => emp
theorem rowsS_snoc (p : Option Addr × Nat) (l : List Cl) : ∀ (ps : List (Option Addr × Nat)) (ls : List (List Cl)), ps.length = ls.length → rowsS (ps ++ [p]) (ls ++ [l]) = rowsS ps ls * ownS 53 3 p.1 l.length p.2 (l.flatMap clc)
  | [], [], _ => by
    show _ * emp = emp * _
    rw [star_comm]
  | [], _ :: _, h => by simp at h
  | _ :: _, [], h => by simp at h
  | a :: ps, b :: ls, h => by
    show _ * rowsS (ps ++ [p]) (ls ++ [l]) = (_ * rowsS ps ls) * _
    rw [rowsS_snoc p l ps ls (by simpa using h), star_assoc]
theorem rowsS_sees {h : Heap} : ∀ {ps : List (Option Addr × Nat)} {ls : List (List Cl)} {R : Hp}, ps.length = ls.length → Sat h (rowsS ps ls * R) → ∀ i, i < ls.length → ∃ p, ps[i]? = some p ∧ Sees h p.1 ((ls.getD i []).flatMap clc)
  | [], [], _, _, _, i, hi => by simp at hi
  | [], _ :: _, _, hl, _, _, _ => by simp at hl
  | _ :: _, [], _, hl, _, _, _ => by simp at hl
  | p :: ps, l :: ls, R, hl, H, i, hi => by
    have H : Sat h ((ownS 53 3 p.1 l.length p.2 (l.flatMap clc) * rowsS ps ls) * R) := H
    rw [star_assoc] at H
    cases i with
    | zero => exact ⟨p, rfl, H.own.sees⟩
    | succ i =>
      have := rowsS_sees (by simpa using hl) H.drop i (by simpa using hi)
      simpa using this
def scrS (ca : Option Addr) (cc : Nat) (pa : Option Addr) (pc : Nat) (da : Option Addr) (dc : Nat) (ps : List (Option Addr × Nat)) (calls : List (List Cl)) (picks draws : List Int) : Hp :=
  pr (ps.length = calls.length) (ownS 66 1 ca calls.length cc ((ps.zip calls).flatMap rowV) * (rowsS ps calls * (ownS 3 1 pa picks.length pc (picks.map iv) * ownS 5 1 da draws.length dc (draws.map u8v))))
theorem scrS_iff {h : Heap} {ca pa da : Option Addr} {cc pc dc : Nat} {ps : List (Option Addr × Nat)} {calls : List (List Cl)} {picks draws : List Int} {R : Hp} : Sat h (scrS ca cc pa pc da dc ps calls picks draws * R) ↔ ps.length = calls.length ∧
    Sat h (ownS 66 1 ca calls.length cc ((ps.zip calls).flatMap rowV) * (rowsS ps calls * (ownS 3 1 pa picks.length pc (picks.map iv) * (ownS 5 1 da draws.length dc (draws.map u8v) * R)))) := by
  unfold scrS
  simp only [Sat.pr, star_assoc]
theorem scrS_I {h : Heap} {ca pa da : Option Addr} {cc pc dc : Nat} {ps : List (Option Addr × Nat)} {calls : List (List Cl)} {picks draws : List Int} {R : Hp} (H : Sat h (scrS ca cc pa pc da dc ps calls picks draws * R)) : ScrI h ca calls.length pa picks.length da draws.length calls picks draws := by
  obtain ⟨hl, H⟩ := scrS_iff.1 H
  refine ⟨⟨rfl, fun i hi => ?_, rfl, H.drop.drop.own.sees⟩, rfl, H.drop.drop.drop.own.sees⟩
  obtain ⟨p, hp, hs⟩ := rowsS_sees hl H.drop i hi
  refine ⟨p.1, p.2, ?_, hs⟩
  refine H.own.sees i _ ?_
  have hz : i < (ps.zip calls).length := by rw [List.length_zip]; omega
  have := flat_get (f := rowV) (n := 1) (fun _ => rfl) hz (j := 0) (by decide)
  rw [Nat.mul_one, Nat.add_zero] at this
  rw [this]
  have hi2 : i < ps.length := by omega
  have e1 : ps[i] = p := by
    rw [List.getElem?_eq_getElem hi2] at hp
    exact Option.some.inj hp
  have e2 : calls.getD i [] = calls[i] := by rw [List.getD_eq_getElem?_getD, List.getElem?_eq_getElem hi]; rfl
  rw [e2]
  simp [rowV, e1]
theorem und_cll : und Tryz.prog 24 = .slice 66 := by kernel_rfl
theorem there_cll : there Tryz.prog 66 = true := by kernel_rfl
theorem zer_cll : zer Tryz.prog 66 = some (.slice none 0 0) := by kernel_rfl
theorem siz_cll : siz Tryz.prog 66 = 1 := by kernel_rfl
theorem byt_cll : byt Tryz.prog 66 = 24 := by kernel_rfl
theorem und_cl : und Tryz.prog 66 = .slice 53 := by kernel_rfl
theorem there_cl : there Tryz.prog 53 = true := by kernel_rfl
theorem zer_cl : zer Tryz.prog 53 = some (.agg #[.int .i64 0, .int .u32 0, .int .u32 0]) := by kernel_rfl
theorem siz_cl : siz Tryz.prog 53 = 3 := by kernel_rfl
theorem byt_cl : byt Tryz.prog 53 = 16 := by kernel_rfl
theorem und_il : und Tryz.prog 25 = .slice 3 := by kernel_rfl
theorem there_il : there Tryz.prog 3 = true := by kernel_rfl
theorem zer_il : zer Tryz.prog 3 = some (.int .i64 0) := by kernel_rfl
theorem siz_il : siz Tryz.prog 3 = 1 := by kernel_rfl
theorem byt_il : byt Tryz.prog 3 = 8 := by kernel_rfl
theorem sees_new {h : Heap} {row : List Value} {t : TypeId} : Sees (h.push (.cells row.toArray t)) (some ⟨h.size, 0, none⟩) row := by
  intro i v hi
  refine ⟨_, rfl, ?_⟩
  rw [add_lit, Nat.zero_add]
  exact cellR (t := t) (row := row) (by simp) hi
section
variable {K : Value → Heap → Prop} {h : Heap} {R : Hp}
theorem app_cl {a : Option Addr} {l c : Nat} {xs : List Cl} {x : Cl} {X : Hp} {F : Value → Heap → Prop} (H : Sat h (ownS 53 3 a l c (xs.flatMap clc) * X)) (hl : l ≤ 60000)
    (k : ∀ a' c' h', Sat h' (ownS 53 3 a' (l + 1) c' ((xs ++ [x]).flatMap clc) * X) → F (.slice a' (l + 1) c') h') :
    appH Tryz.prog #[66, 66] 66 #[.slice a l c, .slice (some ⟨h.size, 0, none⟩) 1 1] (h.push (.cells #[.int .i64 x.op, .int .u32 x.key, .int .u32 x.val] 53)) F := by
  have H1 := H.push (.cells (clc x).toArray 53)
  have hs : Sees (h.push (.cells (clc x).toArray 53)) (some ⟨h.size, 0, none⟩) (clc x) := sees_new
  have e : (.cells #[.int .i64 x.op, .int .u32 x.key, .int .u32 x.val] 53 : Obj) = .cells (clc x).toArray 53 := rfl
  rw [e]
  have H2 : Sat (h.push (.cells (clc x).toArray 53)) (ownS 53 (siz Tryz.prog 53) a l c (xs.flatMap clc) * X) := by
    rw [siz_cl]; exact H1.drop
  refine H2.app und_cl there_cl zer_cl (by rw [siz_cl]; rfl) hs (n := 1) (by rw [siz_cl]; rfl) (by simp [clc, oneC]) (by rw [byt_cl]; omega) (by rw [byt_cl]; omega) fun a' c' h' H3 => k a' c' h' ?_
  rw [siz_cl] at H3
  rw [List.flatMap_append, List.flatMap_singleton]
  exact H3
theorem app_il {a : Option Addr} {l c : Nat} {xs : List Int} {x : Int} {X : Hp} {F : Value → Heap → Prop} (H : Sat h (ownS 3 1 a l c (xs.map iv) * X)) (hl : l ≤ 60000)
    (k : ∀ a' c' h', Sat h' (ownS 3 1 a' (l + 1) c' ((xs ++ [x]).map iv) * X) → F (.slice a' (l + 1) c') h') :
    appH Tryz.prog #[25, 25] 25 #[.slice a l c, .slice (some ⟨h.size, 0, none⟩) 1 1] (h.push (.cells #[.int .i64 x] 3)) F := by
  have H1 := H.push (.cells [iv x].toArray 3)
  have hs : Sees (h.push (.cells [iv x].toArray 3)) (some ⟨h.size, 0, none⟩) [iv x] := sees_new
  have e : (.cells #[.int .i64 x] 3 : Obj) = .cells [iv x].toArray 3 := rfl
  rw [e]
  have H2 : Sat (h.push (.cells [iv x].toArray 3)) (ownS 3 (siz Tryz.prog 3) a l c (xs.map iv) * X) := by
    rw [siz_il]; exact H1.drop
  refine H2.app und_il there_il zer_il (by rw [siz_il]; rfl) hs (n := 1) (by rw [siz_il]; rfl) (by simp [oneC]) (by rw [byt_il]; omega) (by rw [byt_il]; omega) fun a' c' h' H3 => k a' c' h' ?_
  rw [siz_il] at H3
  rw [List.map_append]
  exact H3
theorem app_u8 {a : Option Addr} {l c : Nat} {xs : List Int} {x : Int} {X : Hp} {F : Value → Heap → Prop} (H : Sat h (ownS 5 1 a l c (xs.map u8v) * X)) (hl : l ≤ 60000)
    (k : ∀ a' c' h', Sat h' (ownS 5 1 a' (l + 1) c' ((xs ++ [x]).map u8v) * X) → F (.slice a' (l + 1) c') h') :
    appH Tryz.prog #[26, 26] 26 #[.slice a l c, .slice (some ⟨h.size, 0, none⟩) 1 1] (h.push (.cells #[.int .u8 x] 5)) F := by
  have H1 := H.push (.cells [u8v x].toArray 5)
  have hs : Sees (h.push (.cells [u8v x].toArray 5)) (some ⟨h.size, 0, none⟩) [u8v x] := sees_new
  have e : (.cells #[.int .u8 x] 5 : Obj) = .cells [u8v x].toArray 5 := rfl
  rw [e]
  have H2 : Sat (h.push (.cells [u8v x].toArray 5)) (ownS 5 (siz Tryz.prog 5) a l c (xs.map u8v) * X) := by
    rw [siz_u8]; exact H1.drop
  refine H2.app und_u8 there_u8 zer_u8 (by rw [siz_u8]; rfl) hs (n := 1) (by rw [siz_u8]; rfl) (by simp [u8v, oneC]) (by rw [byt_u8]; omega) (by rw [byt_u8]; omega) fun a' c' h' H3 => k a' c' h' ?_
  rw [siz_u8] at H3
  rw [List.map_append]
  exact H3
theorem app_cll {a : Option Addr} {l c : Nat} {ps : List (Option Addr × Nat)} {xs : List (List Cl)} {p : Option Addr × Nat} {x : List Cl} {n : Nat} {X : Hp} {F : Value → Heap → Prop} (H : Sat h (ownS 66 1 a l c ((ps.zip xs).flatMap rowV) * X)) (hz : ps.length = xs.length) (hn : n = x.length) (hl : l ≤ 60000)
    (k : ∀ a' c' h', Sat h' (ownS 66 1 a' (l + 1) c' (((ps ++ [p]).zip (xs ++ [x])).flatMap rowV) * X) → F (.slice a' (l + 1) c') h') :
    appH Tryz.prog #[24, 24] 24 #[.slice a l c, .slice (some ⟨h.size, 0, none⟩) 1 1] (h.push (.cells #[.slice p.1 n p.2] 66)) F := by
  subst hn
  have H1 := H.push (.cells (rowV (p, x)).toArray 66)
  have hs : Sees (h.push (.cells (rowV (p, x)).toArray 66)) (some ⟨h.size, 0, none⟩) (rowV (p, x)) := sees_new
  have e : (.cells #[.slice p.1 x.length p.2] 66 : Obj) = .cells (rowV (p, x)).toArray 66 := rfl
  rw [e]
  have H2 : Sat (h.push (.cells (rowV (p, x)).toArray 66)) (ownS 66 (siz Tryz.prog 66) a l c ((ps.zip xs).flatMap rowV) * X) := by
    rw [siz_cll]; exact H1.drop
  refine H2.app und_cll there_cll zer_cll (by rw [siz_cll]; rfl) hs (n := 1) (by rw [siz_cll]; rfl) (by simp [rowV, oneC]) (by rw [byt_cll]; omega) (by rw [byt_cll]; omega) fun a' c' h' H3 => k a' c' h' ?_
  rw [siz_cll] at H3
  rw [List.zip_append hz, List.flatMap_append]
  exact H3
end
end
section
open Go.ChangeShapes Go.WideShapes Go.ChangeAt Go.RowKit
theorem V_wf {n : Int} (h : (Lit.int .u32 n).wf = true) : V n := by
  unfold Lit.wf at h
  rw [Bool.and_eq_true, decide_eq_true_eq, decide_eq_true_eq] at h
  have e1 : IntKind.min .u32 = 0 := rfl
  have e2 : IntKind.max .u32 = 4294967295 := rfl
  rw [e1, e2] at h
  exact ⟨h.1, by omega⟩
theorem u8_wf {n : Int} (h : (Lit.int .u8 n).wf = true) : 0 ≤ n ∧ n < 256 := by
  unfold Lit.wf at h
  rw [Bool.and_eq_true, decide_eq_true_eq, decide_eq_true_eq] at h
  have e1 : IntKind.min .u8 = 0 := rfl
  have e2 : IntKind.max .u8 = 255 := rfl
  rw [e1, e2] at h
  exact ⟨h.1, by omega⟩
theorem sx_subR {α : Type} {P : α → Prop} {f : α → List Value} {h : Heap} {a : Option Addr} {l c : Nat} {es : List {x : α // P x}} (H : SX (fun x : {x : α // P x} => f x.1) h a l c es) : ∃ xs : List α, (∀ x ∈ xs, P x) ∧ SX f h a l c xs := by
  refine ⟨es.map (·.1), fun x hx => ?_, ⟨?_, by rw [List.length_map]; exact H.len, H.cap⟩⟩
  · obtain ⟨y, _, rfl⟩ := List.mem_map.1 hx; exact y.2
  · have : (es.map (·.1)).flatMap f = es.flatMap fun x : {x : α // P x} => f x.1 := by rw [List.flatMap_map]
    rw [this]; exact H.s
theorem Sees.oldR {h h' : Heap} {a : Option Addr} {vs : List Value} (H : Sees h a vs) (o : Old h.size h h') : Sees h' a vs := fun i v hi => by
  obtain ⟨ad, ea, hc⟩ := H i v hi
  exact ⟨ad, ea, (cellAt_congr (o.2 _ (cellAt_lt hc))).trans hc⟩
theorem ScrI.old {h h' : Heap} {ca : Option Addr} {cl : Nat} {pa : Option Addr} {pl : Nat} {da : Option Addr} {dl : Nat} {calls : List (List Cl)} {picks draws : List Int} (S : ScrI h ca cl pa pl da dl calls picks draws) (o : Old h.size h h') : ScrI h' ca cl pa pl da dl calls picks draws := by
  refine ⟨⟨S.f.cs, fun i hi => ?_, S.f.ps, S.f.pk.oldR o⟩, S.ds, S.dr.oldR o⟩
  obtain ⟨a, c, ⟨ad, e, hc⟩, hs⟩ := S.f.row i hi
  exact ⟨a, c, ⟨ad, e, (cellAt_congr (o.2 _ (cellAt_lt hc))).trans hc⟩, hs.oldR o⟩
theorem full_old1 {h h0 : Heap} (H : Sat h (fullS h0)) : Old h0.size h0 h := by
  rw [← emp_star (fullS h0), star_comm] at H
  exact H.fullOld
theorem full_old2 {h h0 : Heap} {P : Hp} (H : Sat h (P * fullS h0)) : Old h0.size h0 h := by
  rw [star_comm] at H
  exact H.fullOld
section
variable {H : Type} {enc : TypeId × Value → H} {W : World} {fuel : Nat} {cs : List Value} {x : DataW H × List MemPlace}
theorem cl_cells (h : DataW.trod enc Tryz.prog W 0 (fun _ => true) true fuel 53 cs = some x) : ∃ e : {e : Cl // V e.key ∧ V e.val}, cs = clc e.1 := by
  have hl := trod_lenG Tryz.underlying53 h
  rw [cellsOfG_call] at hl
  obtain ⟨_, _, e0⟩ := trod_fieldG Tryz.underlying53 h 0 _ rfl
  obtain ⟨_, _, e1⟩ := trod_fieldG Tryz.underlying53 h 1 _ rfl
  obtain ⟨_, _, e2⟩ := trod_fieldG Tryz.underlying53 h 2 _ rfl
  obtain ⟨n0, u0, _, _⟩ := DataW.trod_int Tryz.underlying3 e0
  obtain ⟨n1, u1, _, r1⟩ := DataW.trod_int Tryz.underlying47 e1
  obtain ⟨n2, u2, _, r2⟩ := DataW.trod_int Tryz.underlying47 e2
  have q0 : (cs.drop 0).take (Program.cellsOf Tryz.prog 3) = [.int .i64 n0] := u0
  have q1 : (cs.drop 1).take (Program.cellsOf Tryz.prog 47) = [.int .u32 n1] := u1
  have q2 : (cs.drop 2).take (Program.cellsOf Tryz.prog 47) = [.int .u32 n2] := u2
  rw [cellsOfG_int] at q0
  rw [cellsOfG_u32] at q1 q2
  refine ⟨⟨⟨n0, n1, n2⟩, V_wf r1, V_wf r2⟩, ?_⟩
  rcases cs with _ | ⟨c0, cs⟩; · simp at hl
  rcases cs with _ | ⟨c1, cs⟩; · simp at hl
  rcases cs with _ | ⟨c2, cs⟩; · simp at hl
  rcases cs with _ | ⟨c3, cs⟩
  · simp at q0 q1 q2
    rw [q0, q1, q2]; rfl
  · simp at hl
theorem u8_cells (h : DataW.trod enc Tryz.prog W 0 (fun _ => true) true fuel 5 cs = some x) : ∃ e : {e : Int // 0 ≤ e ∧ e < 256}, cs = [u8v e.1] := by
  obtain ⟨n, u, _, r⟩ := DataW.trod_int Tryz.underlying5 h
  exact ⟨⟨n, u8_wf r⟩, u⟩
theorem i64_cells (h : DataW.trod enc Tryz.prog W 0 (fun _ => true) true fuel 3 cs = some x) : ∃ e : Int, cs = [iv e] := by
  obtain ⟨n, u, _, r⟩ := DataW.trod_int Tryz.underlying3 h
  exact ⟨n, u⟩
theorem slice_form {ts t : TypeId} (hu : Program.underlying Tryz.prog ts = some (.slice t)) (h : DataW.trod enc Tryz.prog W 0 (fun _ => true) true fuel ts cs = some x) : ∃ a l c, cs = [.slice a l c] := by
  rcases DataW.trod_slice hu h with ⟨hcs, _⟩ | ⟨y, l1, c1, elems, rest, n, _, hcs, _⟩
  · exact ⟨_, _, _, hcs⟩
  · exact ⟨_, _, _, hcs⟩
theorem cellsOf_cls : Program.cellsOf Tryz.prog 66 = 1 := by kernel_rfl
theorem cellsOf_clls : Program.cellsOf Tryz.prog 24 = 1 := by kernel_rfl
theorem cellsOf_ints : Program.cellsOf Tryz.prog 25 = 1 := by kernel_rfl
theorem cellsOf_u8s : Program.cellsOf Tryz.prog 26 = 1 := by kernel_rfl
theorem cellsOf_cnf : Program.cellsOf Tryz.prog 23 = 7 := by kernel_rfl
theorem cellsOf_scr : Program.cellsOf Tryz.prog 28 = 10 := by kernel_rfl
structure RowR (h : Heap) (a : Option Addr) (l : Nat) (row : List Cl) : Prop where
  len : l = row.length
  s : Sees h a (row.flatMap clc)
  v : ∀ c ∈ row, V c.key ∧ V c.val
theorem row_of {a : Option Addr} {l c : Nat} {d : DataW H} {ps : List MemPlace} (h : DataW.Trod enc Tryz.prog W 0 (fun _ => true) true 66 (.slice a l c) d ps) : ∃ row, RowR W.heap a l row := by
  obtain ⟨es, S⟩ := arg_sx (f := fun e : {e : Cl // V e.key ∧ V e.val} => clc e.1) (n := 3) (fun _ => rfl) (by omega) Tryz.underlying66 (by kernel_rfl) (fun _ _ _ h => cl_cells h) h
  obtain ⟨xs, hx, S⟩ := sx_subR S
  exact ⟨xs, S.len.symm, S.s, hx⟩
theorem rows_of {a : Option Addr} {l c : Nat} {d : DataW H} {ps : List MemPlace} (h : DataW.Trod enc Tryz.prog W 0 (fun _ => true) true 24 (.slice a l c) d ps) :
    ∃ calls : List (List Cl), calls.length = l ∧ ∀ i (hi : i < calls.length), ∃ ai ci, (∃ ad, a = some ad ∧ cellAt W.heap (ad.add i) = some (.slice ai calls[i].length ci)) ∧ RowR W.heap ai calls[i].length calls[i] := by
  obtain ⟨fuel, hf⟩ := h
  rcases DataW.trod_slice Tryz.underlying24 hf with ⟨hcs, _⟩ | ⟨x, l1, c1, elems, rest, n, _, hcs, _, _, hl, hm, hlen, hel, _, _⟩
  · simp [Value.cells] at hcs
    obtain ⟨rfl, rfl, rfl⟩ := hcs
    exact ⟨[], rfl, fun i hi => by simp at hi⟩
  · simp [Value.cells] at hcs
    obtain ⟨rfl, rfl, rfl⟩ := hcs
    have each : ∀ i, i < l → ∃ ai li ci row, cellAt W.heap (x.add i) = some (.slice ai li ci) ∧ RowR W.heap ai li row := by
      intro i hi
      have := hel i hi
      rw [List.getElem?_eq_getElem (by omega), Option.bind_eq_some_iff] at this
      obtain ⟨cs, h1, h2⟩ := this
      obtain ⟨ai, li, ci, rfl⟩ := slice_form Tryz.underlying66 h2
      obtain ⟨row, hr⟩ := row_of ⟨_, h2⟩
      rw [cellsOf_cls, Nat.mul_one] at h1
      obtain ⟨_, _, h4⟩ := World.cells?_some h1
      have h5 := h4 0 (by omega)
      exact ⟨ai, li, ci, row, h5, hr⟩
    have pick : ∀ m, m ≤ l → ∃ calls : List (List Cl), calls.length = m ∧ ∀ i (hi : i < calls.length), ∃ ai ci, cellAt W.heap (x.add i) = some (.slice ai calls[i].length ci) ∧ RowR W.heap ai calls[i].length calls[i] := by
      intro m
      induction m with
      | zero => intro _; exact ⟨[], rfl, fun i hi => by simp at hi⟩
      | succ m ih =>
        intro hm
        obtain ⟨calls, h1, h3⟩ := ih (by omega)
        obtain ⟨ai, li, ci, row, e1, e2⟩ := each m (by omega)
        refine ⟨calls ++ [row], by simp [h1], fun i hi => ?_⟩
        by_cases e : i < calls.length
        · obtain ⟨ai', ci', q2, q3⟩ := h3 i e
          refine ⟨ai', ci', ?_, ?_⟩
          · rw [List.getElem_append_left e]; exact q2
          · rw [List.getElem_append_left e]; exact q3
        · have : i = m := by simp at hi; omega
          subst this
          have e3 : (calls ++ [row])[i] = row := by
            rw [List.getElem_append_right (by omega)]
            simp [h1]
          have e4 := e2.len
          subst e4
          refine ⟨ai, ci, ?_, ?_⟩
          · rw [e3]; exact e1
          · rw [e3]; exact e2
    obtain ⟨calls, h1, h3⟩ := pick l (Nat.le_refl _)
    refine ⟨calls, h1, fun i hi => ?_⟩
    obtain ⟨ai, ci, q2, q3⟩ := h3 i hi
    exact ⟨ai, ci, ⟨x, rfl, q2⟩, q3⟩
theorem flat1 {f : Int → Value} (l : List Int) : (l.flatMap fun n => [f n]) = l.map f := by
  induction l with
  | nil => rfl
  | cons a l ih => simp [ih]
theorem conf_cells (h : DataW.trod enc Tryz.prog W 0 (fun _ => true) true fuel 23 cs = some x) : ∃ c : Mod.Cf, cs = [.int .i64 c.algo, .int .i64 c.threads, .int .i64 c.nodes, .int .i64 c.level, .int .i64 c.batch, .int .i64 c.probes, .int .i64 c.scan] := by
  have hl := trod_lenG Tryz.underlying23 h
  rw [cellsOf_cnf] at hl
  obtain ⟨_, _, e0⟩ := trod_fieldG Tryz.underlying23 h 0 _ rfl
  obtain ⟨n0, u0⟩ := i64_cells e0
  have q0 : (cs.drop 0).take (Program.cellsOf Tryz.prog 3) = [.int .i64 n0] := u0
  rw [cellsOfG_int] at q0
  obtain ⟨_, _, e1⟩ := trod_fieldG Tryz.underlying23 h 1 _ rfl
  obtain ⟨n1, u1⟩ := i64_cells e1
  have q1 : (cs.drop 1).take (Program.cellsOf Tryz.prog 3) = [.int .i64 n1] := u1
  rw [cellsOfG_int] at q1
  obtain ⟨_, _, e2⟩ := trod_fieldG Tryz.underlying23 h 2 _ rfl
  obtain ⟨n2, u2⟩ := i64_cells e2
  have q2 : (cs.drop 2).take (Program.cellsOf Tryz.prog 3) = [.int .i64 n2] := u2
  rw [cellsOfG_int] at q2
  obtain ⟨_, _, e3⟩ := trod_fieldG Tryz.underlying23 h 3 _ rfl
  obtain ⟨n3, u3⟩ := i64_cells e3
  have q3 : (cs.drop 3).take (Program.cellsOf Tryz.prog 3) = [.int .i64 n3] := u3
  rw [cellsOfG_int] at q3
  obtain ⟨_, _, e4⟩ := trod_fieldG Tryz.underlying23 h 4 _ rfl
  obtain ⟨n4, u4⟩ := i64_cells e4
  have q4 : (cs.drop 4).take (Program.cellsOf Tryz.prog 3) = [.int .i64 n4] := u4
  rw [cellsOfG_int] at q4
  obtain ⟨_, _, e5⟩ := trod_fieldG Tryz.underlying23 h 5 _ rfl
  obtain ⟨n5, u5⟩ := i64_cells e5
  have q5 : (cs.drop 5).take (Program.cellsOf Tryz.prog 3) = [.int .i64 n5] := u5
  rw [cellsOfG_int] at q5
  obtain ⟨_, _, e6⟩ := trod_fieldG Tryz.underlying23 h 6 _ rfl
  obtain ⟨n6, u6⟩ := i64_cells e6
  have q6 : (cs.drop 6).take (Program.cellsOf Tryz.prog 3) = [.int .i64 n6] := u6
  rw [cellsOfG_int] at q6
  refine ⟨⟨n0, n1, n2, n3, n4, n5, n6⟩, ?_⟩
  rcases cs with _ | ⟨c0, cs⟩; · simp at hl
  rcases cs with _ | ⟨c1, cs⟩; · simp at hl
  rcases cs with _ | ⟨c2, cs⟩; · simp at hl
  rcases cs with _ | ⟨c3, cs⟩; · simp at hl
  rcases cs with _ | ⟨c4, cs⟩; · simp at hl
  rcases cs with _ | ⟨c5, cs⟩; · simp at hl
  rcases cs with _ | ⟨c6, cs⟩; · simp at hl
  rcases cs with _ | ⟨c7, cs⟩
  · simp at q0 q1 q2 q3 q4 q5 q6
    rw [q0, q1, q2, q3, q4, q5, q6]
  · simp at hl
end
section
variable {H : Type} {enc : TypeId × Value → H} {W : World} {v : Value} {d : DataW H} {ps : List MemPlace} {r : Reach} {b0 : Nat}
theorem arg_script (hval : Value.okWide Tryz.prog W r b0 28 v) (h : DataW.Trod enc Tryz.prog W 0 (fun _ => true) true 28 v d ps) :
    ∃ (c : Mod.Cf) (ca : Option Addr) (cl cc : Nat) (pa : Option Addr) (pl pc : Nat) (da : Option Addr) (dl dc : Nat) (calls : List (List Cl)) (picks draws : List Int),
      v = .agg #[.int .i64 c.algo, .int .i64 c.threads, .int .i64 c.nodes, .int .i64 c.level, .int .i64 c.batch, .int .i64 c.probes, .int .i64 c.scan, .slice ca cl cc, .slice pa pl pc, .slice da dl dc] ∧ ScrI W.heap ca cl pa pl da dl calls picks draws ∧ ScrR calls picks draws := by
  obtain ⟨vs, rfl, hsz⟩ := okWide_struct Tryz.underlying28 hval
  rw [cellsOf_scr] at hsz
  obtain ⟨fuel, hf⟩ := h
  obtain ⟨l⟩ := vs
  have hl : l.length = 10 := by simpa using hsz
  have hf : DataW.trod enc Tryz.prog W 0 (fun _ => true) true fuel 28 l = some (d, ps) := hf
  obtain ⟨m0, x0, e0⟩ := trod_fieldG Tryz.underlying28 hf 0 _ rfl
  obtain ⟨m1, x1, e1⟩ := trod_fieldG Tryz.underlying28 hf 1 _ rfl
  obtain ⟨m2, x2, e2⟩ := trod_fieldG Tryz.underlying28 hf 2 _ rfl
  obtain ⟨m3, x3, e3⟩ := trod_fieldG Tryz.underlying28 hf 3 _ rfl
  obtain ⟨c, q0⟩ := conf_cells e0
  obtain ⟨ca, cl, cc, q1⟩ := slice_form Tryz.underlying24 e1
  obtain ⟨pa, pl, pc, q2⟩ := slice_form Tryz.underlying25 e2
  obtain ⟨da, dl, dc, q3⟩ := slice_form Tryz.underlying26 e3
  rw [q1] at e1
  rw [q2] at e2
  rw [q3] at e3
  obtain ⟨calls, hcl, hrow⟩ := rows_of (d := x1.1) (ps := x1.2) ⟨m1, e1⟩
  obtain ⟨picks, SP⟩ := arg_sx (f := fun e : Int => [iv e]) (n := 1) (fun _ => rfl) (by omega) Tryz.underlying25 (by kernel_rfl) (fun _ _ _ h => i64_cells h) (d := x2.1) (ps := x2.2) ⟨m2, e2⟩
  obtain ⟨des, SD⟩ := arg_sx (f := fun e : {e : Int // 0 ≤ e ∧ e < 256} => [u8v e.1]) (n := 1) (fun _ => rfl) (by omega) Tryz.underlying26 (by kernel_rfl) (fun _ _ _ h => u8_cells h) (d := x3.1) (ps := x3.2) ⟨m3, e3⟩
  obtain ⟨draws, hdr, SD⟩ := sx_subR (f := fun e : Int => [u8v e]) SD
  refine ⟨c, ca, cl, cc, pa, pl, pc, da, dl, dc, calls, picks, draws, ?_, ⟨⟨hcl.symm, fun i hi => ?_, SP.len.symm, ?_⟩, SD.len.symm, ?_⟩, ⟨fun l hl c hc => ?_, hdr⟩⟩
  · have p0 : (l.drop 0).take (Program.cellsOf Tryz.prog 23) = _ := q0
    have p1 : (l.drop 7).take (Program.cellsOf Tryz.prog 24) = _ := q1
    have p2 : (l.drop 8).take (Program.cellsOf Tryz.prog 25) = _ := q2
    have p3 : (l.drop 9).take (Program.cellsOf Tryz.prog 26) = _ := q3
    rw [cellsOf_cnf] at p0
    rw [cellsOf_clls] at p1
    rw [cellsOf_ints] at p2
    rw [cellsOf_u8s] at p3
    clear q0 q1 q2 q3 e0 e1 e2 e3 hf hval hsz
    rcases l with _ | ⟨y0, l⟩; · simp at hl
    rcases l with _ | ⟨y1, l⟩; · simp at hl
    rcases l with _ | ⟨y2, l⟩; · simp at hl
    rcases l with _ | ⟨y3, l⟩; · simp at hl
    rcases l with _ | ⟨y4, l⟩; · simp at hl
    rcases l with _ | ⟨y5, l⟩; · simp at hl
    rcases l with _ | ⟨y6, l⟩; · simp at hl
    rcases l with _ | ⟨y7, l⟩; · simp at hl
    rcases l with _ | ⟨y8, l⟩; · simp at hl
    rcases l with _ | ⟨y9, l⟩; · simp at hl
    rcases l with _ | ⟨y10, l⟩
    · simp at p0 p1 p2 p3
      obtain ⟨r0, r1, r2, r3, r4, r5, r6⟩ := p0
      rw [r0, r1, r2, r3, r4, r5, r6, p1, p2, p3]
    · simp at hl
  · obtain ⟨ai, ci, q2, q3⟩ := hrow i hi
    have e : calls.getD i [] = calls[i] := by rw [List.getD_eq_getElem?_getD, List.getElem?_eq_getElem hi]; rfl
    rw [e]
    exact ⟨ai, ci, q2, q3.s⟩
  · have := SP.s
    rw [flat1] at this
    exact this
  · have := SD.s
    rw [flat1] at this
    exact this
  · obtain ⟨i, hi, rfl⟩ := List.getElem_of_mem hl
    obtain ⟨ai, ci, q2, q3⟩ := hrow i hi
    exact q3.v c hc
theorem arg_confM (hval : Value.okWide Tryz.prog W r b0 23 v) (h : DataW.Trod enc Tryz.prog W 0 (fun _ => true) true 23 v d ps) : ∃ c : Mod.Cf, v = .agg #[.int .i64 c.algo, .int .i64 c.threads, .int .i64 c.nodes, .int .i64 c.level, .int .i64 c.batch, .int .i64 c.probes, .int .i64 c.scan] := by
  obtain ⟨vs, rfl, hsz⟩ := okWide_struct Tryz.underlying23 hval
  obtain ⟨fuel, hf⟩ := h
  obtain ⟨l⟩ := vs
  have hf : DataW.trod enc Tryz.prog W 0 (fun _ => true) true fuel 23 l = some (d, ps) := hf
  obtain ⟨c, q⟩ := conf_cells hf
  exact ⟨c, by rw [q]⟩
end
end
section
set_option maxHeartbeats 1000000
open Mod
theorem callsL_succ (j n : Nat) (calls : List (List Cl)) : callsL (j + 1) n calls = callsL j n calls ++ [rowL n (calls.getD j [])] := by
  unfold callsL
  rw [List.range_succ, List.map_append]
  rfl
theorem rowL_len (n : Nat) (l : List Cl) : (rowL n l).length = min n l.length := by unfold rowL; rw [List.length_map, List.length_take]
theorem rowL_take {n k : Nat} {l : List Cl} (h : k < (rowL n l).length) : (rowL n l).take (k + 1) = (rowL n l).take k ++ [clL (l.getD k cl0)] := by
  have h2 := h
  rw [rowL_len] at h2
  have e : (rowL n l)[k]? = some (clL (l.getD k cl0)) := by
    unfold rowL
    rw [List.getElem?_map, List.getElem?_take_of_lt (by omega), List.getElem?_eq_getElem (by omega), List.getD_eq_getElem?_getD, List.getElem?_eq_getElem (by omega)]
    rfl
  rw [List.take_add_one, e]
  rfl
theorem map_take_succ {f : Int → Int} {n i : Nat} {l : List Int} (h : i < ((l.take n).map f).length) : ((l.take n).map f).take (i + 1) = ((l.take n).map f).take i ++ [f (l.getD i 0)] := by
  have h2 := h
  rw [List.length_map, List.length_take] at h2
  have e : ((l.take n).map f)[i]? = some (f (l.getD i 0)) := by
    rw [List.getElem?_map, List.getElem?_take_of_lt (by omega), List.getElem?_eq_getElem (by omega), List.getD_eq_getElem?_getD, List.getElem?_eq_getElem (by omega)]
    rfl
  rw [List.take_add_one, e]
  rfl
theorem s64_n1 (i : Nat) (h : i ≤ 60000) : s64 ((i : Int) + 1) = ((i + 1 : Nat) : Int) := by unfold s64; omega
section
variable {K : Value → Heap → Prop} {h : Heap} {R : Hp}
theorem little_call {c0 c : Mod.Cf} {ca pa da : Option Addr} {cl cc0 pl pc0 dl dc0 : Nat} {calls : List (List Cl)} {picks draws : List Int} {n m : Nat} (H : Sat h R)
    (hS : ∀ h' P, Sat h' (P * R) → ScrI h' ca cl pa pl da dl calls picks draws) (hth : 1 ≤ c.threads ∧ c.threads ≤ 6) (hn : n ≤ 1000) (hm : m ≤ 60000)
    (k : ∀ h' ca' cc pa' pc da' dc ps, Sat h' (scrS ca' cc pa' pc da' dc ps (callsL c.threads.toNat n calls) (picksL c.threads m picks) (draws.take 4096) * R) → K (.agg #[.int .i64 c.algo, .int .i64 c.threads, .int .i64 c.nodes, .int .i64 c.level, .int .i64 c.batch, .int .i64 c.probes, .int .i64 c.scan, .slice ca' (callsL c.threads.toNat n calls).length cc, .slice pa' (picksL c.threads m picks).length pc, .slice da' (draws.take 4096).length dc]) h') :
    CallH Tryz.prog 14 #[.agg #[.int .i64 c0.algo, .int .i64 c0.threads, .int .i64 c0.nodes, .int .i64 c0.level, .int .i64 c0.batch, .int .i64 c0.probes, .int .i64 c0.scan, .slice ca cl cc0, .slice pa pl pc0, .slice da dl dc0], cfV c, .int .i64 n, .int .i64 m] h K := by
  refine call14 ?_
  unfold F14 g14 bd lS lI
  have H1 := H.push (.cells (scrC c0 ca cl cc0 pa pl pc0 da dl dc0).toArray 28)
  rw [show (.cells #[.int .i64 c0.algo, .int .i64 c0.threads, .int .i64 c0.nodes, .int .i64 c0.level, .int .i64 c0.batch, .int .i64 c0.probes, .int .i64 c0.scan, .slice ca cl cc0, .slice pa pl pc0, .slice da dl dc0] 28 : Obj) = .cells (scrC c0 ca cl cc0 pa pl pc0 da dl dc0).toArray 28 from rfl]
  generalize h.push (.cells (scrC c0 ca cl cc0 pa pl pc0 da dl dc0).toArray 28) = h1 at *
  generalize h.size = SB at *
  have H2 := H1.push (.cells #[.int .i64 c.algo, .int .i64 c.threads, .int .i64 c.nodes, .int .i64 c.level, .int .i64 c.batch, .int .i64 c.probes, .int .i64 c.scan] 23)
  generalize h1.push (.cells #[.int .i64 c.algo, .int .i64 c.threads, .int .i64 c.nodes, .int .i64 c.level, .int .i64 c.batch, .int .i64 c.probes, .int .i64 c.scan] 23) = h2 at *
  generalize h1.size = CB at *
  have H3 := H2.push (.cells #[.int .i64 0, .int .i64 0, .int .i64 0, .int .i64 0, .int .i64 0, .int .i64 0, .int .i64 0, .slice none 0 0, .slice none 0 0, .slice none 0 0] 28)
  generalize h2.push (.cells #[.int .i64 0, .int .i64 0, .int .i64 0, .int .i64 0, .int .i64 0, .int .i64 0, .int .i64 0, .slice none 0 0, .slice none 0 0, .slice none 0 0] 28) = h3 at *
  generalize h2.size = RB at *
  refine ldR H3.at2 rfl (ldR H3.at2 rfl (ldR H3.at2 rfl (ldR H3.at2 rfl (ldR H3.at2 rfl (ldR H3.at2 rfl (ldR H3.at2 rfl ?_))))))
  have H4 := H3.push (.cells #[.int .i64 0, .int .i64 0, .int .i64 0, .int .i64 0, .int .i64 0, .int .i64 0, .int .i64 0, .slice none 0 0, .slice none 0 0, .slice none 0 0] 28)
  generalize h3.push (.cells #[.int .i64 0, .int .i64 0, .int .i64 0, .int .i64 0, .int .i64 0, .int .i64 0, .int .i64 0, .slice none 0 0, .slice none 0 0, .slice none 0 0] 28) = h4 at *
  generalize h3.size = TB at *
  refine st10 (stN_full (vs := scrC c none 0 0 none 0 0 none 0 0) H4.at rfl (by simp [scrC, oneC]) fun h5 w => ?_)
  have H5 := H4.wr w.new w.old
  clear H1 H2 H3 H4 w
  generalize hFR : pt RB (.cells #[.int .i64 0, .int .i64 0, .int .i64 0, .int .i64 0, .int .i64 0, .int .i64 0, .int .i64 0, .slice none 0 0, .slice none 0 0, .slice none 0 0] 28) * (pt CB (.cells #[.int .i64 c.algo, .int .i64 c.threads, .int .i64 c.nodes, .int .i64 c.level, .int .i64 c.batch, .int .i64 c.probes, .int .i64 c.scan] 23) * (pt SB (.cells (scrC c0 ca cl cc0 pa pl pc0 da dl dc0).toArray 28) * R)) = FR at H5
  -- what is read throughout
  have scr : ∀ {h' : Heap} {X : Hp}, Sat h' (X * FR) → h'[CB]? = some (.cells [.int .i64 c.algo, .int .i64 c.threads, .int .i64 c.nodes, .int .i64 c.level, .int .i64 c.batch, .int .i64 c.probes, .int .i64 c.scan].toArray 23) ∧ h'[SB]? = some (.cells (scrC c0 ca cl cc0 pa pl pc0 da dl dc0).toArray 28) ∧ ScrI h' ca cl pa pl da dl calls picks draws := by
    intro h' X H'
    subst hFR
    refine ⟨H'.drop.drop.at, H'.drop.drop.drop.at, hS h' emp ?_⟩
    rw [emp_star]
    exact H'.drop.drop.drop.drop
  have scr3 : ∀ {h' : Heap} {A B C : Hp}, Sat h' (A * (B * (C * FR))) → h'[CB]? = some (.cells [.int .i64 c.algo, .int .i64 c.threads, .int .i64 c.nodes, .int .i64 c.level, .int .i64 c.batch, .int .i64 c.probes, .int .i64 c.scan].toArray 23) ∧ h'[SB]? = some (.cells (scrC c0 ca cl cc0 pa pl pc0 da dl dc0).toArray 28) ∧ ScrI h' ca cl pa pl da dl calls picks draws := fun {h' A B C} H' => scr (X := A * (B * C)) (by rw [star_assoc, star_assoc]; exact H')
  obtain ⟨oc, os, si⟩ := scr H5
  refine ⟨fun vs h' => vs = [.bool false] ∧ h' = h5, ?_, ?_⟩
  · refine ldR oc rfl ?_
    try simp only [nilC, bsx, Nat.reduceAdd, Int.reduceLE, Int.reduceLT, Int.reduceToNat]
    refine ifB_dec (fun c1 => by omega) (fun c1 => ?_)
    refine ldR oc rfl ?_
    try simp only [nilC, bsx, Nat.reduceAdd, Int.reduceLE, Int.reduceLT, Int.reduceToNat]
    rw [decide_eq_false (by omega : ¬ c.threads > 6)]
    first | done | exact ⟨by trivial, by trivial⟩ | trivial
  rintro v22 g23 h24 ⟨e, rfl⟩
  cases e
  try simp only [nilC, bsx, Nat.reduceAdd, Int.reduceLE, Int.reduceLT, Int.reduceToNat]
  clear oc os si
  -- the calls
  refine ⟨fun vs h' => ∃ (j : Nat) (w1 w2 : Value) (ca' : Option Addr) (cc : Nat) (ps : List (Option Addr × Nat)), vs = [.int .i64 j, w1, w2] ∧ j ≤ c.threads.toNat ∧ ps.length = j ∧ Sat h' (pt TB (.cells (scrC c ca' j cc none 0 0 none 0 0).toArray 28) * (ownS 66 1 ca' j cc ((ps.zip (callsL j n calls)).flatMap rowV) * (rowsS ps (callsL j n calls) * FR))), fun vs _ => match vs with | [.int _ i, _, _] => (c.threads - i).toNat | _ => 0, ⟨0, _, _, none, 0, [], rfl, Nat.zero_le _, rfl, ?_⟩, ?_⟩
  · have H6 := H5.own_new 66 1
    have e0 : rowsS [] (callsL 0 n calls) = emp := by unfold rowsS; rfl
    rw [e0, emp_star]
    rw [star_left] at H6
    exact H6
  rintro v58 v59 v60 g61 h62 ⟨j, w1, w2, ca', cc, ps, e, hj, hps, H6⟩
  cases e
  obtain ⟨oc, os, si⟩ := scr3 H6
  try simp only [nilC, bsx, Nat.reduceAdd, Int.reduceLE, Int.reduceLT, Int.reduceToNat]
  refine ldR oc rfl ?_
  try simp only [nilC, bsx, Nat.reduceAdd, Int.reduceLE, Int.reduceLT, Int.reduceToNat]
  refine ifB_dec (fun c1 => ?_) (fun c1 => ?_)
  · generalize hrow : calls.getD j [] = row at *
    have hcl := si.f.cs
    refine ⟨fun vs h' => ∃ (q : Nat) (la : Option Addr) (lc : Nat), vs = [.slice la q lc, .int .i64 q] ∧ q ≤ (rowL n row).length ∧ Sat h' (ownS 53 3 la q lc (((rowL n row).take q).flatMap clc) * (pt TB (.cells (scrC c ca' j cc none 0 0 none 0 0).toArray 28) * (ownS 66 1 ca' j cc ((ps.zip (callsL j n calls)).flatMap rowV) * (rowsS ps (callsL j n calls) * FR)))), fun vs _ => match vs with | [_, .int _ i] => (2000 - i).toNat | _ => 0, ⟨0, none, 0, rfl, Nat.zero_le _, H6.own_new 53 3⟩, ?_⟩
    rintro v68 v69 g70 h71 ⟨q, la, lc, e, hq, H7⟩
    cases e
    clear oc os si
    obtain ⟨oc, os, si⟩ := scr3 H7.drop
    have hlen := rowL_len n row
    have hrl : ¬ j < calls.length → row = [] := fun hh => by
      rw [← hrow, List.getD_eq_getElem?_getD, List.getElem?_eq_none (by omega)]
      rfl
    refine ⟨fun vs h' => (∃ w, vs = [w, .bool (decide (q < (rowL n row).length))]) ∧ h' = h71, ?_, ?_⟩
    · try simp only [nilC, bsx, Nat.reduceAdd, Int.reduceLE, Int.reduceLT, Int.reduceToNat]
      refine ldR os rfl ?_
      try simp only [nilC, bsx, Nat.reduceAdd, Int.reduceLE, Int.reduceLT, Int.reduceToNat]
      refine ifB_dec (fun c2 => ?_) (fun c2 => ?_)
      · obtain ⟨ra, rc, ⟨ad2, ea2, hcr⟩, hrw⟩ := si.f.row j (by omega)
        rw [hrow] at hcr hrw
        refine ldR os rfl ?_
        try simp only [nilC, bsx, Nat.reduceAdd, Int.reduceLE, Int.reduceLT, Int.reduceToNat]
        subst ea2
        refine ⟨by omega, by omega, ?_⟩
        try simp only [nilC, bsx, Nat.reduceAdd, Int.reduceLE, Int.reduceLT, Int.reduceToNat]
        refine ldH_mk hcr ?_
        try simp only [nilC, bsx, Nat.reduceAdd, Int.reduceLE, Int.reduceLT, Int.reduceToNat]
        refine ifB_dec (fun c3 => ?_) (fun c3 => ?_)
        · rw [show decide ((q : Int) < (n : Int)) = decide (q < (rowL n row).length) by rw [decide_eq_decide]; omega]
          first | exact ⟨⟨_, rfl⟩, by trivial⟩ | exact ⟨_, rfl⟩
        · rw [decide_eq_false (by omega : ¬ q < (rowL n row).length)]
          first | exact ⟨⟨_, rfl⟩, by trivial⟩ | exact ⟨_, rfl⟩
      · have := hrl (by omega)
        rw [decide_eq_false (by rw [hlen, this]; simp : ¬ q < (rowL n row).length)]
        first | exact ⟨⟨_, rfl⟩, by trivial⟩ | exact ⟨_, rfl⟩
    rintro v90 v91 g92 h93 ⟨⟨w, e⟩, rfl⟩
    cases e
    try simp only [nilC, bsx, Nat.reduceAdd, Int.reduceLE, Int.reduceLT, Int.reduceToNat]
    refine ifB_dec (fun c2 => ?_) (fun c2 => ?_)
    · have hjl : j < calls.length := Decidable.byContradiction fun hh => by
        have := hrl hh
        rw [hlen, this] at c2
        simp at c2
      have hql : q < row.length := by omega
      obtain ⟨ra, rc, ⟨ad2, ea2, hcr⟩, hrw⟩ := si.f.row j hjl
      rw [hrow] at hcr hrw
      have hcq : row.getD q cl0 = row[q] := by rw [List.getD_eq_getElem?_getD, List.getElem?_eq_getElem hql]; rfl
      have htk := rowL_take c2
      generalize hcc : row.getD q cl0 = cq at *
      have g0 := flat_get clc_len hql (j := 0) (by omega)
      have g1 := flat_get clc_len hql (j := 1) (by omega)
      have g2 := flat_get clc_len hql (j := 2) (by omega)
      rw [← hcq] at g0 g1 g2
      obtain ⟨ad3, ea3, hc0⟩ := hrw (q * 3 + 0) (.int .i64 cq.op) g0
      subst ea3
      obtain ⟨_, ea4, hc1⟩ := hrw (q * 3 + 1) (.int .u32 cq.key) g1
      cases ea4
      obtain ⟨_, ea4, hc2⟩ := hrw (q * 3 + 2) (.int .u32 cq.val) g2
      cases ea4
      have aa : ∀ i, (ad3.add (q * 3)).add i = ad3.add (q * 3 + i) := fun i => add_add _ _ _
      rw [Nat.add_zero] at hc0
      refine ldR os rfl ?_
      try simp only [nilC, bsx, Nat.reduceAdd, Int.reduceLE, Int.reduceLT, Int.reduceToNat]
      subst ea2
      refine ⟨by omega, by omega, ?_⟩
      try simp only [nilC, bsx, Nat.reduceAdd, Int.reduceLE, Int.reduceLT, Int.reduceToNat]
      refine ldH_mk hcr ?_
      try simp only [nilC, bsx, Nat.reduceAdd, Int.reduceLE, Int.reduceLT, Int.reduceToNat]
      refine ⟨by omega, by omega, ?_⟩
      try simp only [nilC, bsx, Nat.reduceAdd, Int.reduceLE, Int.reduceLT, Int.reduceToNat, aa]
      refine ldH_mk hc0 (ldH_mk hc1 (ldH_mk hc2 ?_))
      have H8 := H7.push (.cells #[.int .i64 0, .int .u32 0, .int .u32 0] 53)
      generalize h93.push (.cells #[.int .i64 0, .int .u32 0, .int .u32 0] 53) = h94 at *
      generalize h93.size = AB at *
      refine st3 (stN_full (vs := clc cq) H8.at rfl (by simp [clc, oneC]) fun h112 w => ?_)
      have H9 := H8.wr w.new w.old
      clear H8 w
      refine ldR H9.at rfl ?_
      try simp only [nilC, bsx, Nat.reduceAdd, Int.reduceLE, Int.reduceLT, Int.reduceToNat]
      refine ⟨by decide, by decide, ?_⟩
      have H10 := H9.push (.cells #[.int .i64 0, .int .u32 0, .int .u32 0] 53)
      generalize h112.push (.cells #[.int .i64 0, .int .u32 0, .int .u32 0] 53) = h113 at *
      generalize h112.size = DB at *
      refine st3 (stN_full (vs := [.int .i64 (opL cq.op), .int .u32 0, .int .u32 0]) H10.at rfl (by simp [oneC]) fun h117 w => ?_)
      have H11 := H10.wr w.new w.old
      clear H10 w H9
      refine ⟨fun vs h' => Sat h' (pt DB (.cells (clc (clL cq)).toArray 53) * (pt AB (.cells (clc cq).toArray 53) * (ownS 53 3 la q lc (((rowL n row).take q).flatMap clc) * (pt TB (.cells (scrC c ca' j cc none 0 0 none 0 0).toArray 28) * (ownS 66 1 ca' j cc ((ps.zip (callsL j n calls)).flatMap rowV) * (rowsS ps (callsL j n calls) * FR)))))), ?_, ?_⟩
      · refine ldR H11.at rfl ?_
        try simp only [nilC, bsx, Nat.reduceAdd, Int.reduceLE, Int.reduceLT, Int.reduceToNat]
        refine ifB_mk (fun c3 => ?_) (fun c3 => ?_)
        · have c3 : opL cq.op = 0 := by simpa using c3
          refine ldR H11.at2 rfl ?_
          simp only [asInt_int]
          refine H11.st (i := 1) rfl trivial fun h1 H12 => ?_
          refine ldR H12.at2 rfl ?_
          simp only [asInt_int]
          refine H12.st (i := 2) rfl trivial fun h2 H13 => ?_
          have e : clL cq = ⟨0, cq.key, cq.val⟩ := by unfold clL; rw [if_pos c3]
          rw [e]
          rw [c3] at H13
          exact H13
        · have c3 : ¬ opL cq.op = 0 := by simpa using c3
          have e : clL cq = ⟨opL cq.op, 0, 0⟩ := by unfold clL; rw [if_neg c3]
          rw [e]
          exact H11
      rintro g127 h128 H12
      try simp only [nilC, bsx, Nat.reduceAdd, Int.reduceLE, Int.reduceLT, Int.reduceToNat]
      refine ldR H12.at rfl (ldR H12.at rfl (ldR H12.at rfl ?_))
      have H13 : Sat h128 (ownS 53 3 la q lc (((rowL n row).take q).flatMap clc) * (pt TB (.cells (scrC c ca' j cc none 0 0 none 0 0).toArray 28) * (ownS 66 1 ca' j cc ((ps.zip (callsL j n calls)).flatMap rowV) * (rowsS ps (callsL j n calls) * FR)))) := H12.drop.drop
      refine app_cl (x := clL cq) H13 (by omega) fun a' c' h136 H14 => ?_
      try simp only [nilC, bsx, Nat.reduceAdd, Int.reduceLE, Int.reduceLT, Int.reduceToNat]
      rw [s64_n1 q (by omega)]
      refine ⟨⟨q + 1, a', c', rfl, by omega, by rw [htk]; exact H14⟩, ?_⟩
      show ((2000 : Int) - ((q + 1 : Nat) : Int)).toNat < ((2000 : Int) - (q : Int)).toNat
      omega
    · have eq : q = (rowL n row).length := by omega
      have et : (rowL n row).take q = rowL n row := List.take_of_length_le (by omega)
      rw [et] at H7
      refine ldR H7.at2 rfl ?_
      try simp only [nilC, bsx, Nat.reduceAdd, Int.reduceLE, Int.reduceLT, Int.reduceToNat]
      have H8 : Sat h93 (ownS 66 1 ca' j cc ((ps.zip (callsL j n calls)).flatMap rowV) * (pt TB (.cells (scrC c ca' j cc none 0 0 none 0 0).toArray 28) * (rowsS ps (callsL j n calls) * (ownS 53 3 la q lc ((rowL n row).flatMap clc) * FR)))) := Sat.ac H7 (by ac_rfl)
      refine app_cll (p := (la, lc)) (x := rowL n row) H8 (by rw [hps, callsL_len]) eq (by omega) fun a' c' h149 H9 => ?_
      try simp only [nilC, bsx, Nat.reduceAdd, Int.reduceLE, Int.reduceLT, Int.reduceToNat]
      rw [star_left] at H9
      refine H9.st (i := 7) rfl trivial fun h153 H10 => ?_
      try simp only [nilC, bsx, Nat.reduceAdd, Int.reduceLE, Int.reduceLT, Int.reduceToNat]
      rw [s64_n1 j (by omega)]
      refine ⟨⟨j + 1, _, _, a', c', ps ++ [(la, lc)], rfl, by omega, by rw [List.length_append, hps]; rfl, ?_⟩, ?_⟩
      · rw [callsL_succ, hrow, rowsS_snoc (la, lc) _ _ _ (by rw [hps, callsL_len]), star_assoc]
        subst eq
        exact H10
      · show (c.threads - ((j + 1 : Nat) : Int)).toNat < (c.threads - (j : Int)).toNat
        omega
  -- the picks
  have ej : j = c.threads.toNat := by omega
  have hPL : (picksL c.threads m picks).length = min m picks.length := by unfold picksL; rw [List.length_map, List.length_take]
  generalize hCL : callsL j n calls = CL at *
  refine ⟨fun vs h' => ∃ (i : Nat) (pa' : Option Addr) (pc : Nat), vs = [.int .i64 i] ∧ i ≤ (picksL c.threads m picks).length ∧ Sat h' (ownS 3 1 pa' i pc (((picksL c.threads m picks).take i).map iv) * (pt TB (.cells (scrC c ca' j cc pa' i pc none 0 0).toArray 28) * (ownS 66 1 ca' j cc ((ps.zip CL).flatMap rowV) * (rowsS ps CL * FR)))), fun vs _ => match vs with | [.int _ i] => (70000 - i).toNat | _ => 0, ⟨0, none, 0, rfl, Nat.zero_le _, H6.own_new 3 1⟩, ?_⟩
  rintro v157 g158 h159 ⟨i, pa', pc, e, hi, H7⟩
  cases e
  clear oc os si H6
  obtain ⟨oc, os, si⟩ := scr3 H7.drop
  have hps2 := si.f.ps
  refine ⟨fun vs h' => vs = [.bool (decide (i < (picksL c.threads m picks).length))] ∧ h' = h159, ?_, ?_⟩
  · try simp only [nilC, bsx, Nat.reduceAdd, Int.reduceLE, Int.reduceLT, Int.reduceToNat]
    refine ldR os rfl ?_
    try simp only [nilC, bsx, Nat.reduceAdd, Int.reduceLE, Int.reduceLT, Int.reduceToNat]
    refine ifB_dec (fun c2 => ?_) (fun c2 => ?_)
    · rw [show decide ((i : Int) < (m : Int)) = decide (i < (picksL c.threads m picks).length) by rw [decide_eq_decide]; omega]
      first | done | exact ⟨by trivial, by trivial⟩ | trivial
    · rw [decide_eq_false (by omega : ¬ i < (picksL c.threads m picks).length)]
      first | done | exact ⟨by trivial, by trivial⟩ | trivial
  rintro v167 g168 h169 ⟨e, rfl⟩
  cases e
  try simp only [nilC, bsx, Nat.reduceAdd, Int.reduceLE, Int.reduceLT, Int.reduceToNat]
  refine ifB_dec (fun c2 => ?_) (fun c2 => ?_)
  · have hil : i < picks.length := by omega
    have htk := map_take_succ (f := pickL c.threads) c2
    have hpi : picks.getD i 0 = picks[i] := by rw [List.getD_eq_getElem?_getD, List.getElem?_eq_getElem hil]; rfl
    obtain ⟨ad, ea, hc⟩ := si.f.pk i (.int .i64 (picks.getD i 0)) (by rw [hpi, List.getElem?_map, List.getElem?_eq_getElem hil]; rfl)
    subst ea
    generalize picks.getD i 0 = pk at *
    refine ldR H7.at2 rfl ?_
    try simp only [nilC, bsx, Nat.reduceAdd, Int.reduceLE, Int.reduceLT, Int.reduceToNat]
    refine ldR os rfl ?_
    try simp only [nilC, bsx, Nat.reduceAdd, Int.reduceLE, Int.reduceLT, Int.reduceToNat]
    refine ⟨by omega, by omega, ?_⟩
    try simp only [nilC, bsx, Nat.reduceAdd, Int.reduceLE, Int.reduceLT, Int.reduceToNat]
    refine ldH_mk hc ?_
    try simp only [nilC, bsx, Nat.reduceAdd, Int.reduceLE, Int.reduceLT, Int.reduceToNat]
    refine ldR oc rfl ?_
    try simp only [nilC, bsx, Nat.reduceAdd, Int.reduceLE, Int.reduceLT, Int.reduceToNat]
    refine ⟨by omega, ?_⟩
    refine ldR oc rfl ?_
    try simp only [nilC, bsx, Nat.reduceAdd, Int.reduceLE, Int.reduceLT, Int.reduceToNat]
    refine ldR oc rfl ?_
    try simp only [nilC, bsx, Nat.reduceAdd, Int.reduceLE, Int.reduceLT, Int.reduceToNat]
    refine ⟨by omega, cell_push (cellR H7.at2 rfl), ?_⟩
    refine app_il (x := pickL c.threads pk) H7 (by omega) fun a' c' h190 H8 => ?_
    try simp only [nilC, bsx, Nat.reduceAdd, Int.reduceLE, Int.reduceLT, Int.reduceToNat]
    rw [star_left] at H8
    refine H8.st (i := 8) rfl trivial fun h194 H9 => ?_
    try simp only [nilC, bsx, Nat.reduceAdd, Int.reduceLE, Int.reduceLT, Int.reduceToNat]
    rw [s64_n1 i (by omega)]
    rw [star_left] at H9
    refine ⟨⟨i + 1, a', c', rfl, by omega, ?_⟩, ?_⟩
    · have htk : (picksL c.threads m picks).take (i + 1) = (picksL c.threads m picks).take i ++ [pickL c.threads pk] := htk
      rw [htk]
      exact H9
    · show ((70000 : Int) - ((i + 1 : Nat) : Int)).toNat < ((70000 : Int) - (i : Int)).toNat
      omega
  -- the draws
  have ei : i = (picksL c.threads m picks).length := by omega
  have et : (picksL c.threads m picks).take i = picksL c.threads m picks := List.take_of_length_le (by omega)
  rw [et] at H7
  generalize hPP : picksL c.threads m picks = PP at *
  have hDL : (draws.take 4096).length = min 4096 draws.length := List.length_take ..
  refine ⟨fun vs h' => ∃ (d : Nat) (da' : Option Addr) (dc : Nat), vs = [.int .i64 d] ∧ d ≤ (draws.take 4096).length ∧ Sat h' (ownS 5 1 da' d dc (((draws.take 4096).take d).map u8v) * (pt TB (.cells (scrC c ca' j cc pa' i pc da' d dc).toArray 28) * (ownS 3 1 pa' i pc (PP.map iv) * (ownS 66 1 ca' j cc ((ps.zip CL).flatMap rowV) * (rowsS ps CL * FR))))), fun vs _ => match vs with | [.int _ i] => (70000 - i).toNat | _ => 0, ⟨0, none, 0, rfl, Nat.zero_le _, ?_⟩, ?_⟩
  · rw [star_left] at H7
    exact H7.own_new 5 1
  rintro v198 g199 h200 ⟨d, da', dc, e, hd, H8⟩
  cases e
  clear oc os si H7
  obtain ⟨oc, os, si⟩ := scr3 H8.drop.drop
  have hds := si.ds
  refine ⟨fun vs h' => vs = [.bool (decide (d < (draws.take 4096).length))] ∧ h' = h200, ?_, ?_⟩
  · try simp only [nilC, bsx, Nat.reduceAdd, Int.reduceLE, Int.reduceLT, Int.reduceToNat]
    refine ldR os rfl ?_
    try simp only [nilC, bsx, Nat.reduceAdd, Int.reduceLE, Int.reduceLT, Int.reduceToNat]
    refine ifB_dec (fun c3 => ?_) (fun c3 => ?_)
    · rw [show decide ((d : Int) < 4096) = decide (d < (draws.take 4096).length) by rw [decide_eq_decide]; omega]
      first | done | exact ⟨by trivial, by trivial⟩ | trivial
    · rw [decide_eq_false (by omega : ¬ d < (draws.take 4096).length)]
      first | done | exact ⟨by trivial, by trivial⟩ | trivial
  rintro v208 g209 h210 ⟨e, rfl⟩
  cases e
  try simp only [nilC, bsx, Nat.reduceAdd, Int.reduceLE, Int.reduceLT, Int.reduceToNat]
  refine ifB_dec (fun c3 => ?_) (fun c3 => ?_)
  · have hdl : d < draws.length := by omega
    have htk : (draws.take 4096).take (d + 1) = (draws.take 4096).take d ++ [draws[d]] := by
      rw [List.take_succ_eq_append_getElem c3, List.getElem_take]
    obtain ⟨ad, ea, hc⟩ := si.dr d (.int .u8 draws[d]) (by rw [List.getElem?_map, List.getElem?_eq_getElem hdl]; rfl)
    subst ea
    generalize draws[d] = dk at *
    refine ldR H8.at2 rfl ?_
    try simp only [nilC, bsx, Nat.reduceAdd, Int.reduceLE, Int.reduceLT, Int.reduceToNat]
    refine ldR os rfl ?_
    try simp only [nilC, bsx, Nat.reduceAdd, Int.reduceLE, Int.reduceLT, Int.reduceToNat]
    refine ⟨by omega, by omega, ?_⟩
    try simp only [nilC, bsx, Nat.reduceAdd, Int.reduceLE, Int.reduceLT, Int.reduceToNat]
    refine ldH_mk hc ?_
    try simp only [nilC, bsx, Nat.reduceAdd, Int.reduceLE, Int.reduceLT, Int.reduceToNat]
    refine ⟨cell_push (cellR H8.at2 rfl), ?_⟩
    refine app_u8 (x := dk) H8 (by omega) fun a' c' h225 H9 => ?_
    try simp only [nilC, bsx, Nat.reduceAdd, Int.reduceLE, Int.reduceLT, Int.reduceToNat]
    rw [star_left] at H9
    refine H9.st (i := 9) rfl trivial fun h229 H10 => ?_
    try simp only [nilC, bsx, Nat.reduceAdd, Int.reduceLE, Int.reduceLT, Int.reduceToNat]
    rw [s64_n1 d (by omega)]
    rw [star_left] at H10
    refine ⟨⟨d + 1, a', c', rfl, by omega, by rw [htk]; exact H10⟩, ?_⟩
    show ((70000 : Int) - ((d + 1 : Nat) : Int)).toNat < ((70000 : Int) - (d : Int)).toNat
    omega
  -- the end
  have ed : d = (draws.take 4096).length := by omega
  have et2 : (draws.take 4096).take d = draws.take 4096 := List.take_of_length_le (by omega)
  rw [et2] at H8
  rw [← hFR] at H8
  have H9 : Sat h210 (pt RB (.cells #[.int .i64 0, .int .i64 0, .int .i64 0, .int .i64 0, .int .i64 0, .int .i64 0, .int .i64 0, .slice none 0 0, .slice none 0 0, .slice none 0 0] 28) * (pt TB (.cells (scrC c ca' j cc pa' i pc da' d dc).toArray 28) * (pt CB (.cells #[.int .i64 c.algo, .int .i64 c.threads, .int .i64 c.nodes, .int .i64 c.level, .int .i64 c.batch, .int .i64 c.probes, .int .i64 c.scan] 23) * (pt SB (.cells (scrC c0 ca cl cc0 pa pl pc0 da dl dc0).toArray 28) * (ownS 66 1 ca' j cc ((ps.zip CL).flatMap rowV) * (rowsS ps CL * (ownS 3 1 pa' i pc (PP.map iv) * (ownS 5 1 da' d dc ((draws.take 4096).map u8v) * R)))))))) := Sat.ac H8 (by ac_rfl)
  have OT := H9.at2
  refine ldR OT rfl (ldR OT rfl (ldR OT rfl (ldR OT rfl (ldR OT rfl (ldR OT rfl (ldR OT rfl (ldR OT rfl (ldR OT rfl (ldR OT rfl ?_)))))))))
  refine st10 (stN_full (vs := scrC c ca' j cc pa' i pc da' d dc) H9.at rfl (by simp [scrC, oneC]) fun h250 w => ?_)
  have H10 := H9.wr w.new w.old
  have OR := H10.at
  refine ldR OR rfl (ldR OR rfl (ldR OR rfl (ldR OR rfl (ldR OR rfl (ldR OR rfl (ldR OR rfl (ldR OR rfl (ldR OR rfl (ldR OR rfl ?_)))))))))
  have eCL : CL = callsL c.threads.toNat n calls := by rw [← hCL, ej]
  have eL : CL.length = j := by rw [← hCL, callsL_len]
  rw [eCL] at eL
  have hk := k h250 ca' cc pa' pc da' dc ps (scrS_iff.2 ⟨by rw [hps, eL], by rw [eL, ← eCL, ← ei, ← ed]; exact H10.drop.drop.drop.drop⟩)
  rw [eL, ← ei, ← ed] at hk
  exact hk
end
end
end Go.Proofs.YtglgifgoojncpaaGreat
section
namespace Go.Proofs.YtglgifgoojncpaaGreat.Mod
def Mac.un (m : Mac) : Mac := { m with g := none }
def Run.un (x : Run) : Run := { x with m := x.m.un }
theorem un_touch (m : Mac) (a : Int) : m.un.touch a = (m.touch a).un := by
  unfold Mac.touch
  show (match m.p.within a with | some n => _ | none => _) = _
  cases m.p.within a <;> rfl
theorem un_mload (m : Mac) (a : Int) : m.un.load a = ((m.load a).1, (m.load a).2.un) := by
  unfold Mac.load
  dsimp only
  rw [un_touch]
  show (if (m.touch a).mm.ok a = true then _ else _) = _
  split <;> rfl
theorem un_mstore (m : Mac) (a v : Int) : m.un.store a v = (m.store a v).un := by
  unfold Mac.store
  dsimp only
  rw [un_touch]
  show (if (m.touch a).mm.ok a = true then _ else _) = _
  split <;> rfl
theorem un_mcas (m : Mac) (a o n : Int) : m.un.cas a o n = ((m.cas a o n).1, (m.cas a o n).2.un) := by
  unfold Mac.cas
  dsimp only
  rw [un_touch]
  show (if (m.touch a).mm.ok a = true then _ else _) = _
  split <;> rfl
theorem un_madd (m : Mac) (a d : Int) : m.un.add a d = ((m.add a d).1, (m.add a d).2.un) := by
  unfold Mac.add
  dsimp only
  rw [un_touch]
  show (if (m.touch a).mm.ok a = true then _ else _) = _
  split <;> rfl
theorem un_mdcas (m : Mac) (a o n b p q : Int) : m.un.dcas a o n b p q = ((m.dcas a o n b p q).1, (m.dcas a o n b p q).2.un) := by
  unfold Mac.dcas
  dsimp only
  rw [un_touch, un_touch]
  show (if ((m.touch a).touch b).mm.ok a = true ∧ ((m.touch a).touch b).mm.ok b = true ∧ a ≠ b then _ else _) = _
  split <;> rfl
theorem un_mdcss (m : Mac) (a o n b p : Int) : m.un.dcss a o n b p = ((m.dcss a o n b p).1, (m.dcss a o n b p).2.un) := by
  unfold Mac.dcss
  dsimp only
  rw [un_touch, un_touch]
  show (if ((m.touch a).touch b).mm.ok a = true ∧ ((m.touch a).touch b).mm.ok b = true then _ else _) = _
  split <;> rfl
theorem un_mnext (m : Mac) (n : Int) : m.un.next n = ((m.next n).1, (m.next n).2.un) := by
  unfold Mac.next
  split <;> rfl
theorem un_mlvl (m : Mac) (n : Int) : m.un.lvl n = ((m.lvl n).1, (m.lvl n).2.un) := by
  unfold Mac.lvl
  split <;> rfl
section
variable (x : Run)
theorem un_f : x.un.f = x.f := rfl
theorem un_t : x.un.t = x.t := rfl
theorem un_id : x.un.id = x.id := rfl
theorem un_m : x.un.m = x.m.un := rfl
theorem un_p (m : Mac) : m.un.p = m.p := rfl
theorem un_acted (m : Mac) : m.un.acted = m.acted := rfl
theorem un_ret (i : Nat) : x.un.ret i = x.ret i := rfl
theorem un_s (i : Nat) (v : Int) : x.un.s i v = (x.s i v).un := rfl
theorem un_pc (i : Int) : x.un.pc i = (x.pc i).un := rfl
theorem un_push (i : Int) (r : List Int) : x.un.push i r = (x.push i r).un := rfl
theorem un_pop (r : List Int) : x.un.pop r = (x.pop r).un := rfl
theorem un_call (i j : Int) (r : List Int) : x.un.call i j r = (x.call i j r).un := rfl
theorem un_fin (i j k : Int) : x.un.fin i j k = (x.fin i j k).un := rfl
theorem un_fo (l : List Int) : x.un.fo l = (x.fo l).un := rfl
theorem un_re (l : List Int) : x.un.re l = (x.re l).un := rfl
theorem un_setPl (p s w : List Int) : x.un.setPl p s w = (x.setPl p s w).un := rfl
theorem un_gh (f : Gh → Gh) : x.un.gh f = (x.gh f).un := rfl
theorem un_at (i : Int) : x.un.at i = x.at i := rfl
theorem un_nodeW (i j : Int) : x.un.nodeW i j = x.nodeW i j := rfl
theorem un_nlink (i j : Int) : x.un.nlink i j = x.nlink i j := rfl
theorem un_na (i j : Int) : x.un.na i j = x.na i j := rfl
theorem un_load (a : Int) : x.un.load a = ((x.load a).1, (x.load a).2.un) := by
  unfold Run.load; rw [un_m, un_mload]; rfl
theorem un_store (a v : Int) : x.un.store a v = (x.store a v).un := by
  unfold Run.store; rw [un_m, un_mstore]; rfl
theorem un_cas (a o n : Int) : x.un.cas a o n = ((x.cas a o n).1, (x.cas a o n).2.un) := by
  unfold Run.cas; rw [un_m, un_mcas]; rfl
theorem un_add (a d : Int) : x.un.add a d = ((x.add a d).1, (x.add a d).2.un) := by
  unfold Run.add; rw [un_m, un_madd]; rfl
theorem un_swing (a w p : Int) (b : Bool) : x.un.swing a w p b = ((x.swing a w p b).1, (x.swing a w p b).2.un) := by
  unfold Run.swing; rw [un_cas]; rfl
theorem un_swingA (a w p : Int) : x.un.swingA a w p = ((x.swingA a w p).1, (x.swingA a w p).2.un) := by
  unfold Run.swingA; rw [un_cas]
theorem un_swingM (a w p : Int) (b : Bool) : x.un.swingM a w p b = ((x.swingM a w p b).1, (x.swingM a w p b).2.un) := by
  unfold Run.swingM; rw [un_cas]
theorem un_drop1 (n : Int) : x.un.drop1 n = ((x.drop1 n).1, (x.drop1 n).2.un) := by
  unfold Run.drop1; rw [un_add]; rfl
theorem un_guard (i j : Int) : x.un.guard i j = (x.guard i j).un := by
  unfold Run.guard; rw [un_store]; rfl
theorem un_withm (m : Mac) : ({ x.un with m := m.un } : Run) = ({ x with m := m } : Run).un := rfl
theorem un_mk (m : Mac) (t : Thr) (i : Int) : (⟨m.un, t, i⟩ : Run) = (⟨m, t, i⟩ : Run).un := rfl
theorem ite_un {c : Prop} [Decidable c] (a b : Run) : (if c then a.un else b.un) = (if c then a else b).un := by split <;> rfl
end
theorem ite_cong {c : Prop} {i1 i2 : Decidable c} {a b a' b' : Run} (h1 : a = a'.un) (h2 : b = b'.un) : @ite _ c i1 a b = (@ite _ c i2 a' b').un := by
  by_cases h : c
  · rw [if_pos h, if_pos h]; exact h1
  · rw [if_neg h, if_neg h]; exact h2
theorem usx : type_of% (And.intro @un_f (And.intro @un_t (And.intro @un_id (And.intro @un_m (And.intro @un_p (And.intro @un_acted (And.intro @un_ret (And.intro @un_s (And.intro @un_pc (And.intro @un_push (And.intro @un_pop (And.intro @un_call (And.intro @un_fin (And.intro @un_fo (And.intro @un_re (And.intro @un_setPl (And.intro @un_gh (And.intro @un_at (And.intro @un_nodeW (And.intro @un_nlink (And.intro @un_na (And.intro @un_load (And.intro @un_store (And.intro @un_cas (And.intro @un_add (And.intro @un_swing (And.intro @un_swingA (And.intro @un_swingM (And.intro @un_drop1 (And.intro @un_guard (And.intro @un_mnext (And.intro @un_mlvl (And.intro @un_mdcss (And.intro @un_mdcas (And.intro @un_withm (And.intro @un_mk @ite_un)))))))))))))))))))))))))))))))))))) := And.intro @un_f (And.intro @un_t (And.intro @un_id (And.intro @un_m (And.intro @un_p (And.intro @un_acted (And.intro @un_ret (And.intro @un_s (And.intro @un_pc (And.intro @un_push (And.intro @un_pop (And.intro @un_call (And.intro @un_fin (And.intro @un_fo (And.intro @un_re (And.intro @un_setPl (And.intro @un_gh (And.intro @un_at (And.intro @un_nodeW (And.intro @un_nlink (And.intro @un_na (And.intro @un_load (And.intro @un_store (And.intro @un_cas (And.intro @un_add (And.intro @un_swing (And.intro @un_swingA (And.intro @un_swingM (And.intro @un_drop1 (And.intro @un_guard (And.intro @un_mnext (And.intro @un_mlvl (And.intro @un_mdcss (And.intro @un_mdcas (And.intro @un_withm (And.intro @un_mk @ite_un)))))))))))))))))))))))))))))))))))
theorem alloc_un (x : Run) : alloc x.un = (alloc x).un := by unfold alloc; dsimp only; simp only [usx]
theorem release_un (x : Run) : release x.un = (release x).un := by unfold release; dsimp only; simp only [usx]
theorem arenaDo_un (x : Run) : arenaDo x.un = (arenaDo x).un := by unfold arenaDo; simp only [alloc_un, release_un]; simp only [usx]; (repeat' (first | rfl | apply ite_cong))
theorem protect_un (x : Run) : protect x.un = (protect x).un := by unfold protect; dsimp only; simp only [usx]
theorem wipe_un (x : Run) : wipe x.un = (wipe x).un := by unfold wipe; dsimp only; simp only [usx]
theorem retire_un (x : Run) : retire x.un = (retire x).un := by unfold retire; dsimp only; simp only [usx]; (repeat' (first | rfl | apply ite_cong))
theorem scanA_un (x : Run) (all : Int) : scanA x.un all = (scanA x all).un := by unfold scanA; simp only [usx]; (repeat' (first | rfl | apply ite_cong))
theorem scanB_un (x : Run) : scanB x.un = (scanB x).un := by
  unfold scanB
  rw [un_t]
  cases x.t.found <;> rfl
theorem scan_un (x : Run) : scan x.un = (scan x).un := by
  have e0 : (if x.un.f.pc = 0 then x.un.fo [] else x.un) = (if x.f.pc = 0 then x.fo [] else x).un := by (repeat' (first | rfl | apply ite_cong))
  unfold scan
  dsimp only
  rw [e0]
  generalize (if x.f.pc = 0 then x.fo [] else x) = y
  simp only [usx]
  simp only [scanA_un, scanB_un]
  (repeat' (first | rfl | apply ite_cong))
theorem hazardDo_un (x : Run) : hazardDo x.un = (hazardDo x).un := by unfold hazardDo; simp only [protect_un, wipe_un, retire_un, scan_un, arenaDo_un]; simp only [usx]; (repeat' (first | rfl | apply ite_cong))
theorem mRead_un (x : Run) : mRead x.un = (mRead x).un := by unfold mRead; dsimp only; simp only [usx]; (repeat' (first | rfl | apply ite_cong))
theorem iTake_un (x : Run) : iTake x.un = (iTake x).un := by unfold iTake; dsimp only; simp only [usx]; (repeat' (first | rfl | apply ite_cong))
theorem iDrawing_un (x : Run) : iDrawing x.un = (iDrawing x).un := by unfold iDrawing iKeep; dsimp only; simp only [usx]; (repeat' (first | rfl | apply ite_cong))
theorem iFind_un (x : Run) : iFind x.un = (iFind x).un := by unfold iFind iKeep iSpan iHere; dsimp only; simp only [usx]; (repeat' (first | rfl | apply ite_cong))
theorem iPut_un (x : Run) : iPut x.un = (iPut x).un := by unfold iPut iDone iSpan iHere; dsimp only; simp only [usx]; (repeat' (first | rfl | apply ite_cong))
theorem iStep_un (x : Run) : iStep x.un = (iStep x).un := by unfold iStep; simp only [iTake_un, iDrawing_un, iFind_un, iPut_un]; simp only [usx]; (repeat' (first | rfl | apply ite_cong))
theorem rLook_un (x : Run) : rLook x.un = (rLook x).un := by unfold rLook; dsimp only; simp only [usx]; (repeat' (first | rfl | apply ite_cong))
theorem rStep_un (x : Run) : rStep x.un = (rStep x).un := by unfold rStep; dsimp only; simp only [usx]; simp only [rLook_un]; (repeat' (first | rfl | apply ite_cong))
theorem cChild_un (x : Run) (a : Nat) (i j : Int) : cChild x.un a i j = (cChild x a i j).un := by unfold cChild; dsimp only; simp only [usx]; (repeat' (first | rfl | apply ite_cong))
theorem cSwap_un (x : Run) (a : Nat) (j : Int) : cSwap x.un a j = (cSwap x a j).un := by unfold cSwap; dsimp only; simp only [usx]; (repeat' (first | rfl | apply ite_cong))
theorem cWash_un (x : Run) : cWash x.un = (cWash x).un := by unfold cWash; dsimp only; simp only [usx]; (repeat' (first | rfl | apply ite_cong))
theorem cHere_un (x : Run) : cHere x.un = (cHere x).un := by unfold cHere; dsimp only; simp only [usx]; simp only [cWash_un]; (repeat' (first | rfl | apply ite_cong))
theorem cStep_un (x : Run) : cStep x.un = (cStep x).un := by unfold cStep; dsimp only; simp only [usx]; simp only [cChild_un, cSwap_un, cHere_un, cWash_un]; simp only [usx]; (repeat' (first | rfl | apply ite_cong))
theorem moundDo_un (x : Run) : moundDo x.un = (moundDo x).un := by unfold moundDo; simp only [mRead_un, iStep_un, rStep_un, cStep_un, hazardDo_un]; simp only [usx]; (repeat' (first | rfl | apply ite_cong))
theorem bits_un {d : Run → Run} (hd : ∀ x, d x.un = (d x).un) : ∀ (n : Nat) (x : Run), bits d n x.un = (bits d n x).map Run.un
  | 0, x => by
    unfold bits
    show (if (x.m.acted || x.t.fr.isEmpty) = true then _ else _) = _
    split <;> rfl
  | n + 1, x => by
    unfold bits
    show (if (x.m.acted || x.t.fr.isEmpty) = true then _ else _) = _
    split
    · rfl
    · rw [hd]; exact bits_un hd n (d x)
end Go.Proofs.YtglgifgoojncpaaGreat.Mod
end
namespace Go.Proofs.YtglgifgoojncpaaGreat
section
open Mod
theorem stepF_un {d : Run → Run} (hd : ∀ x : Run, d x.un = (d x).un) (x : Run) : stepF d x.un = (stepF d x).un := by
  by_cases h : ∃ z, ∃ n, Mod.bits d n x = some z
  · obtain ⟨z, n, hz⟩ := h
    have h2 : Mod.bits d n x.un = some z.un := by rw [bits_un hd, hz]; rfl
    rw [stepF_eq hz, stepF_eq h2]
  · have h2 : ¬ ∃ z, ∃ n, Mod.bits d n x.un = some z := by
      rintro ⟨z, n, hz⟩
      rw [bits_un hd] at hz
      cases hb : Mod.bits d n x with
      | none => rw [hb] at hz; cases hz
      | some y => exact h ⟨y, n, hb⟩
    unfold stepF
    rw [dif_neg h, dif_neg h2]
def DS.un (s : DS) : DS := { s with m := s.m.un }
theorem enter_un (ins : Int) (calls : List (List Cl)) (s : DS) (k : Nat) : s.un.enter ins calls k = (s.enter ins calls k).map DS.un := by
  unfold DS.enter
  show (if (thrAt s.m k).fr = [] then _ else _) = _
  split
  · show (if (calls.getD k []).length ≤ (s.nx.getD k 0).toNat then _ else _) = _
    split <;> rfl
  · rfl
theorem go_un {d : Run → Run} (hd : ∀ x : Run, d x.un = (d x).un) (s : DS) (k : Nat) : s.un.go d k = (s.go d k).un := by
  have e : stepF d ⟨s.un.m.quiet, thrAt s.un.m k, k⟩ = (stepF d ⟨s.m.quiet, thrAt s.m k, k⟩).un := stepF_un hd ⟨s.m.quiet, thrAt s.m k, k⟩
  unfold DS.go
  rw [e]
  generalize stepF d ⟨s.m.quiet, thrAt s.m k, k⟩ = z
  show (if z.t.fr = [] then _ else _) = _
  split <;> rfl
theorem pick_un {d : Run → Run} (hd : ∀ x : Run, d x.un = (d x).un) (ins : Int) (calls : List (List Cl)) (s : DS) (k : Int) : s.un.pick d ins calls k = (s.pick d ins calls k).un := by
  unfold DS.pick
  rw [enter_un]
  cases s.enter ins calls k.toNat with
  | none => rfl
  | some s1 => exact go_un hd s1 k.toNat
theorem fold_un {d : Run → Run} (hd : ∀ x : Run, d x.un = (d x).un) (ins : Int) (calls : List (List Cl)) : ∀ (picks : List Int) (s : DS), picks.foldl (fun s k => s.pick d ins calls k) s.un = (picks.foldl (fun s k => s.pick d ins calls k) s).un
  | [], s => rfl
  | k :: l, s => by
    simp only [List.foldl_cons]
    rw [pick_un hd]
    exact fold_un hd ins calls l _
theorem drive_un {d : Run → Run} (hd : ∀ x : Run, d x.un = (d x).un) (ins : Int) (calls : List (List Cl)) (c : Mod.Cf) (b : List Int) (picks : List Int) :
    (driveM d ins calls (macNew c b true) picks).ev = (driveM d ins calls (macNew c b false) picks).ev ∧ (driveM d ins calls (macNew c b true) picks).m.mm = (driveM d ins calls (macNew c b false) picks).m.mm := by
  have h : ∀ g, driveM d ins calls (macNew c b g).un picks = (driveM d ins calls (macNew c b g) picks).un := fun g => fold_un hd ins calls picks ⟨macNew c b g, List.replicate calls.length 0, List.replicate calls.length cl0, []⟩
  have e : (macNew c b true).un = (macNew c b false).un := rfl
  have h1 := h true
  have h2 := h false
  rw [e, h2] at h1
  constructor
  · have := congrArg DS.ev h1
    exact this.symm
  · have := congrArg (fun s : DS => s.m.mm) h1
    exact this.symm
end
section
set_option maxHeartbeats 1000000
open Mod
theorem eqv_ev (a0 : Int) (a1 : Bool) (a2 a3 a4 a5 a6 a7 b0 : Int) (b1 : Bool) (b2 b3 b4 b5 b6 b7 : Int) : eqv Tryz.prog 10000 59 (.agg #[.int .i64 a0, .bool a1, .int .i64 a2, .int .u32 a3, .int .u32 a4, .int .i64 a5, .int .u32 a6, .int .u32 a7]) (.agg #[.int .i64 b0, .bool b1, .int .i64 b2, .int .u32 b3, .int .u32 b4, .int .i64 b5, .int .u32 b6, .int .u32 b7]) = some ((a0 == b0) && ((a1 == b1) && (((a2 == b2) && ((a3 == b3) && ((a4 == b4) && true))) && (((a5 == b5) && ((a6 == b6) && ((a7 == b7) && true))) && true)))) := by kernel_rfl
theorem guard_ev : Tryz.prog.eqGuardType Tryz.prog.depth 59 = false := by kernel_rfl
theorem eqvH_ev {e : EvM} {F : Bool → Prop} (k : F true) : eqvH Tryz.prog 59 (.agg #[.int .i64 e.k, .bool e.back, .int .i64 e.c.op, .int .u32 e.c.key, .int .u32 e.c.val, .int .i64 e.a.op, .int .u32 e.a.key, .int .u32 e.a.val]) (.agg #[.int .i64 e.k, .bool e.back, .int .i64 e.c.op, .int .u32 e.c.key, .int .u32 e.c.val, .int .i64 e.a.op, .int .u32 e.a.key, .int .u32 e.a.val]) F := by
  unfold eqvH
  rw [guard_ev, if_neg (by simp)]
  show (match eqv Tryz.prog 10000 59 (.agg #[.int .i64 e.k, .bool e.back, .int .i64 e.c.op, .int .u32 e.c.key, .int .u32 e.c.val, .int .i64 e.a.op, .int .u32 e.a.key, .int .u32 e.a.val]) (.agg #[.int .i64 e.k, .bool e.back, .int .i64 e.c.op, .int .u32 e.c.key, .int .u32 e.c.val, .int .i64 e.a.op, .int .u32 e.a.key, .int .u32 e.a.val]) with | some b => F b | none => False)
  rw [eqv_ev]
  simpa using k
theorem steps_call {K : Value → Heap → Prop} {h : Heap} {R : Hp} {q : Nat} {m : Mm} (H : Sat h (memS q m * R)) (k : K (.int .i64 m.st) h) : CallH Tryz.prog 26 #[mP q] h K := by
  refine call26 ?_
  unfold F26 lI nP
  obtain ⟨b, la, lc, MB, H1⟩ := memS_iff.1 H
  try simp only [nilC, bsx, Nat.reduceAdd, Int.reduceLE, Int.reduceLT, Int.reduceToNat]
  refine H1.ld rfl ?_
  try simp only [nilC, bsx, Nat.reduceAdd, Int.reduceLE, Int.reduceLT, Int.reduceToNat]
  exact k
theorem mMem {K : Value → Heap → Prop} {h : Heap} {R : Hp} {M : Nat} {Ts : List Nat} {m : Mac} (H : Sat h (machS M Ts m * R)) (k : ∀ q R', Sat h (memS q m.mm * R') → K (mP q) h) : CallH Tryz.prog 24 #[mP M] h K := by
  obtain ⟨a, c, hl, H1⟩ := machS_iff.1 H
  exact mcMem_call H1 fun q R' HM _ => k q R' HM
theorem tail_call {K : Value → Heap → Prop} {h : Heap} {R : Hp} {A B M1 M2 : Nat} {T1 T2 : List Nat} {m1 m2 : Mac} {ea eb : Option Addr} {n ec ed : Nat} {es : List EvM} {o1 r1 o2 r2 : Bool} {z1 z2 : Int} (hn : es.length = n) (hm : m1.mm = m2.mm) (hn2 : n ≤ 1000000)
    (H : Sat h (pt A (.cells (playC ea n ec o1 r1 z1).toArray 56) * (pt B (.cells (playC eb n ed o2 r2 z2).toArray 56) * (ownS 59 8 ea n ec (es.flatMap evc) * (ownS 59 8 eb n ed (es.flatMap evc) * (machS M1 T1 m1 * (machS M2 T2 m2 * R)))))))
    (k : ∀ h', Sat h' R → K (.bool true) h') : blindTail K (some ⟨M1, 0, none⟩) (some ⟨M2, 0, none⟩) A B h := by
  unfold blindTail cf bd lS lI
  have sA := H.drop.drop.own.sees
  have sB := H.drop.drop.drop.own.sees
  refine ldR H.at rfl ?_
  try simp only [nilC, bsx, Nat.reduceAdd, Int.reduceLE, Int.reduceLT, Int.reduceToNat]
  refine ldR H.at2 rfl ?_
  try simp only [nilC, bsx, Nat.reduceAdd, Int.reduceLE, Int.reduceLT, Int.reduceToNat]
  refine ifB_mk (fun c => by simp at c) (fun _ => ?_)
  refine ⟨fun vs h' => ∃ (i : Nat) (w : Value), vs = [w, .int .i64 i] ∧ i ≤ n ∧ h' = h, fun vs _ => match vs with | [_, .int _ i] => ((n : Int) - i).toNat | _ => 0, ⟨0, _, rfl, Nat.zero_le _, rfl⟩, ?_⟩
  rintro v1 v2 g1 h1 ⟨i, w, e, hi, rfl⟩
  cases e
  try simp only [nilC, bsx, Nat.reduceAdd, Int.reduceLE, Int.reduceLT, Int.reduceToNat]
  refine ldR H.at rfl ?_
  try simp only [nilC, bsx, Nat.reduceAdd, Int.reduceLE, Int.reduceLT, Int.reduceToNat]
  refine ifB_dec (fun c => ?_) (fun c => ?_)
  · have hil : i < es.length := by omega
    have gg : ∀ j, j < 8 → ((es.flatMap evc))[i * 8 + j]? = (evc es[i])[j]? := fun j hj => flat_get evc_len hil hj
    have cA : ∀ j v, j < 8 → (evc es[i])[j]? = some v → ∃ ad, ea = some ad ∧ cellAt h1 (ad.add (i * 8 + j)) = some v := fun j v hj e => sA _ _ ((gg j hj).trans e)
    have cB : ∀ j v, j < 8 → (evc es[i])[j]? = some v → ∃ ad, eb = some ad ∧ cellAt h1 (ad.add (i * 8 + j)) = some v := fun j v hj e => sB _ _ ((gg j hj).trans e)
    obtain ⟨aa, ea0, _⟩ := cA 0 _ (by omega) rfl
    obtain ⟨ab, eb0, _⟩ := cB 0 _ (by omega) rfl
    subst ea0 eb0
    have cA2 : ∀ j v, j < 8 → (evc es[i])[j]? = some v → cellAt h1 (aa.add (i * 8 + j)) = some v := fun j v hj e => by
      obtain ⟨ad, e1, e2⟩ := cA j v hj e
      cases e1; exact e2
    have cB2 : ∀ j v, j < 8 → (evc es[i])[j]? = some v → cellAt h1 (ab.add (i * 8 + j)) = some v := fun j v hj e => by
      obtain ⟨ad, e1, e2⟩ := cB j v hj e
      cases e1; exact e2
    have ga : ∀ j, (aa.add (i * 8)).add j = aa.add (i * 8 + j) := fun j => add_add _ _ _
    have gb : ∀ j, (ab.add (i * 8)).add j = ab.add (i * 8 + j) := fun j => add_add _ _ _
    refine ldR H.at rfl ?_
    try simp only [nilC, bsx, Nat.reduceAdd, Int.reduceLE, Int.reduceLT, Int.reduceToNat]
    refine ⟨by omega, by omega, ?_⟩
    try simp only [nilC, bsx, Nat.reduceAdd, Int.reduceLE, Int.reduceLT, Int.reduceToNat, ga]
    refine ldH_mk (cA2 0 _ (by omega) rfl) (ldH_mk (cA2 1 _ (by omega) rfl) (ldH_mk (cA2 2 _ (by omega) rfl) (ldH_mk (cA2 3 _ (by omega) rfl) (ldH_mk (cA2 4 _ (by omega) rfl) (ldH_mk (cA2 5 _ (by omega) rfl) (ldH_mk (cA2 6 _ (by omega) rfl) (ldH_mk (cA2 7 _ (by omega) rfl) ?_)))))))
    refine ldR H.at2 rfl ?_
    try simp only [nilC, bsx, Nat.reduceAdd, Int.reduceLE, Int.reduceLT, Int.reduceToNat]
    refine ⟨by omega, by omega, ?_⟩
    try simp only [nilC, bsx, Nat.reduceAdd, Int.reduceLE, Int.reduceLT, Int.reduceToNat, gb]
    refine ldH_mk (cB2 0 _ (by omega) rfl) (ldH_mk (cB2 1 _ (by omega) rfl) (ldH_mk (cB2 2 _ (by omega) rfl) (ldH_mk (cB2 3 _ (by omega) rfl) (ldH_mk (cB2 4 _ (by omega) rfl) (ldH_mk (cB2 5 _ (by omega) rfl) (ldH_mk (cB2 6 _ (by omega) rfl) (ldH_mk (cB2 7 _ (by omega) rfl) ?_)))))))
    refine eqvH_ev ?_
    try simp only [nilC, bsx, Nat.reduceAdd, Int.reduceLE, Int.reduceLT, Int.reduceToNat]
    rw [show s64 ((i : Int) + 1) = ((i + 1 : Nat) : Int) from by unfold s64; omega]
    refine ⟨by first | exact ⟨i + 1, _, rfl, by omega, rfl⟩ | exact ⟨i + 1, _, rfl, by omega⟩, ?_⟩
    show ((n : Int) - ((i + 1 : Nat) : Int)).toNat < ((n : Int) - (i : Int)).toNat
    omega
  -- words and steps
  have HM := H.drop.drop.drop.drop
  have HM2 := HM.drop
  refine callV_fn (mMem HM fun q1 R1 HQ1 => ?_)
  have MB := memS_B HQ1
  try simp only [nilC, bsx, Nat.reduceAdd, Int.reduceLE, Int.reduceLT, Int.reduceToNat]
  refine callV_fn (words_call HQ1 fun h2 a2 c2 o2 fb2 own2 => ?_)
  have HM3 := own2 _ HM
  have HM4 := HM3.drop.drop
  try simp only [nilC, bsx, Nat.reduceAdd, Int.reduceLE, Int.reduceLT, Int.reduceToNat]
  refine callV_fn (mMem HM4 fun q2 R2 HQ2 => ?_)
  try simp only [nilC, bsx, Nat.reduceAdd, Int.reduceLE, Int.reduceLT, Int.reduceToNat]
  refine callV_fn (words_call HQ2 fun h3 a3 c3 o3 fb3 own3 => ?_)
  have HM5 := own3 _ HM3
  try simp only [nilC, bsx, Nat.reduceAdd, Int.reduceLE, Int.reduceLT, Int.reduceToNat]
  have hlw : m2.mm.w.length = m1.mm.w.length := by rw [hm]
  refine ⟨fun vs h' => vs = [.bool false] ∧ h' = h3, ?_, ?_⟩
  · refine ifB_mk (fun c => ?_) (fun _ => ?_)
    · rw [hlw] at c
      simp at c
    refine callV_fn (mMem HM5.drop.drop fun q3 R3 HQ3 => ?_)
    try simp only [nilC, bsx, Nat.reduceAdd, Int.reduceLE, Int.reduceLT, Int.reduceToNat]
    refine callV_fn (steps_call HQ3 ?_)
    try simp only [nilC, bsx, Nat.reduceAdd, Int.reduceLE, Int.reduceLT, Int.reduceToNat]
    refine callV_fn (mMem HM5.drop.drop.drop fun q4 R4 HQ4 => ?_)
    try simp only [nilC, bsx, Nat.reduceAdd, Int.reduceLE, Int.reduceLT, Int.reduceToNat]
    refine callV_fn (steps_call HQ4 ?_)
    try simp only [nilC, bsx, Nat.reduceAdd, Int.reduceLE, Int.reduceLT, Int.reduceToNat]
    rw [hm]
    simp
  rintro v3 g3 h4 ⟨e, rfl⟩
  cases e
  try simp only [nilC, bsx, Nat.reduceAdd, Int.reduceLE, Int.reduceLT, Int.reduceToNat]
  have s3 := HM5.own.sees
  have s2 := HM5.drop.own.sees
  have hw4 := MB.len
  refine ⟨fun vs h' => ∃ (i : Nat) (w : Value), vs = [w, .int .i64 i] ∧ i ≤ m1.mm.w.length ∧ h' = h4, fun vs _ => match vs with | [_, .int _ i] => ((m1.mm.w.length : Int) - i).toNat | _ => 0, ⟨0, _, rfl, Nat.zero_le _, rfl⟩, ?_⟩
  rintro v4 v5 g5 h5 ⟨i, w, e, hi, rfl⟩
  cases e
  try simp only [nilC, bsx, Nat.reduceAdd, Int.reduceLE, Int.reduceLT, Int.reduceToNat]
  refine ifB_dec (fun c => ?_) (fun c => ?_)
  · have hil : i < m1.mm.w.length := by omega
    have hil2 : i < m2.mm.w.length := by omega
    have hwe : m2.mm.w[i] = m1.mm.w[i] := by
      have : m2.mm.w = m1.mm.w := by rw [hm]
      simp only [this]
    obtain ⟨ad2, ea2, hc2⟩ := s2 i (.int .u64 m1.mm.w[i]) (by unfold uvs; rw [List.getElem?_map, List.getElem?_eq_getElem hil]; rfl)
    obtain ⟨ad3, ea3, hc3⟩ := s3 i (.int .u64 m2.mm.w[i]) (by unfold uvs; rw [List.getElem?_map, List.getElem?_eq_getElem hil2]; rfl)
    subst ea2 ea3
    refine ⟨by omega, by omega, ?_⟩
    try simp only [nilC, bsx, Nat.reduceAdd, Int.reduceLE, Int.reduceLT, Int.reduceToNat]
    refine ldH_mk hc2 ?_
    try simp only [nilC, bsx, Nat.reduceAdd, Int.reduceLE, Int.reduceLT, Int.reduceToNat]
    refine ⟨by omega, by omega, ?_⟩
    try simp only [nilC, bsx, Nat.reduceAdd, Int.reduceLE, Int.reduceLT, Int.reduceToNat]
    refine ldH_mk hc3 ?_
    try simp only [nilC, bsx, Nat.reduceAdd, Int.reduceLE, Int.reduceLT, Int.reduceToNat]
    rw [hwe]
    refine ifB_mk (fun c => by simp at c) (fun _ => ?_)
    rw [show s64 ((i : Int) + 1) = ((i + 1 : Nat) : Int) from by unfold s64; omega]
    refine ⟨by first | exact ⟨i + 1, _, rfl, by omega, rfl⟩ | exact ⟨i + 1, _, rfl, by omega⟩, ?_⟩
    show ((m1.mm.w.length : Int) - ((i + 1 : Nat) : Int)).toNat < ((m1.mm.w.length : Int) - (i : Int)).toNat
    omega
  · exact k _ HM5.drop.drop.drop.drop
end
section
set_option maxHeartbeats 1000000
open Mod
theorem pick_ev (d : Run → Run) (ins : Int) (calls : List (List Cl)) (s : DS) (k : Int) : (s.pick d ins calls k).ev.length ≤ s.ev.length + 2 := by
  have h1 : ∀ s1, s.enter ins calls k.toNat = some s1 → s1.ev.length ≤ s.ev.length + 1 := by
    intro s1 h
    unfold DS.enter at h
    split at h
    · split at h
      · cases h
      · cases h
        simp
    · cases h
      omega
  unfold DS.pick
  cases e : s.enter ins calls k.toNat with
  | none => show s.ev.length ≤ _; omega
  | some s1 =>
    have := h1 s1 e
    show (s1.go d k.toNat).ev.length ≤ _
    unfold DS.go
    split
    · show (s1.ev ++ [_]).length ≤ _
      rw [List.length_append]
      simp only [List.length_singleton]
      omega
    · show s1.ev.length ≤ _
      omega
theorem picks_ev (d : Run → Run) (ins : Int) (calls : List (List Cl)) : ∀ (picks : List Int) (s : DS), (picks.foldl (fun s k => s.pick d ins calls k) s).ev.length ≤ s.ev.length + 2 * picks.length
  | [], s => by simp
  | k :: l, s => by
    have h1 := pick_ev d ins calls s k
    have h2 := picks_ev d ins calls l (s.pick d ins calls k)
    simp only [List.foldl_cons, List.length_cons]
    omega
theorem st4 {h : Heap} {b : Nat} {v0 v1 v2 v3 : Value} {K : Heap → Prop} (H : stN h ⟨b, 0, none⟩ 0 [v0, v1, v2, v3] K) : stH h ⟨b, 0, none⟩ v0 fun h => stH h ⟨b, 1, none⟩ v1 fun h => stH h ⟨b, 2, none⟩ v2 fun h => stH h ⟨b, 3, none⟩ v3 K := H
def play0 : Obj := .cells #[.slice none 0 0, .bool false, .bool false, .int .i64 0] 56
theorem leaf_call {K : Value → Heap → Prop} {h : Heap} {R : Hp} {A B M1 M2 : Nat} {T1 T2 : List Nat} {m1 m2 : Mac} {ea eb : Option Addr} {n ec ed : Nat} {es : List EvM} {o1 r1 o2 r2 : Bool} {z1 z2 : Int} (hn : es.length = n) (hm : m1.mm = m2.mm) (hn2 : n ≤ 1000000)
    (H : Sat h (pt A play0 * (pt B play0 * (ownS 59 8 ea n ec (es.flatMap evc) * (ownS 59 8 eb n ed (es.flatMap evc) * (machS M1 T1 m1 * (machS M2 T2 m2 * R)))))))
    (k : ∀ h', Sat h' R → K (.bool true) h') :
    stH h ⟨A, 0, none⟩ (.slice ea n ec) fun h => stH h ⟨A, 1, none⟩ (.bool o1) fun h => stH h ⟨A, 2, none⟩ (.bool r1) fun h => stH h ⟨A, 3, none⟩ (.int .i64 z1) fun h => stH h ⟨B, 0, none⟩ (.slice eb n ed) fun h => stH h ⟨B, 1, none⟩ (.bool o2) fun h => stH h ⟨B, 2, none⟩ (.bool r2) fun h => stH h ⟨B, 3, none⟩ (.int .i64 z2) fun h => blindTail K (some ⟨M1, 0, none⟩) (some ⟨M2, 0, none⟩) A B h := by
  refine st4 (stN_full (vs := playC ea n ec o1 r1 z1) H.at rfl (by simp [playC, oneC]) fun hA w => ?_)
  have HA := H.wr w.new w.old
  rw [star_left] at HA
  refine st4 (stN_full (vs := playC eb n ed o2 r2 z2) HA.at rfl (by simp [playC, oneC]) fun hB w2 => ?_)
  have HB := HA.wr w2.new w2.old
  rw [star_left] at HB
  exact tail_call hn hm hn2 HB k
section
variable {K : Value → Heap → Prop} {h : Heap} {R : Hp} {d : Run → Run} {W : Run → Prop} {ins : Int} {Inv : Nat → Mac → Prop}
theorem blind_call {f : Nat} (D : DoC f d W) (G : GoodI d W ins Inv) (hd : ∀ x : Run, d x.un = (d x).un) (hins : 0 ≤ ins ∧ ins ≤ 100) {c : Mod.Cf} (hc : okC c = true) {ca pa da : Option Addr} {cc pc dc : Nat} {calls : List (List Cl)} {picks draws : List Int}
    (hI : ∀ g, Inv 0 (macNew c draws g)) (S : ScrOk calls picks) (hcl : calls.length = c.threads.toNat) (hdl : draws.length ≤ 65536) (hdr : ∀ n ∈ draws, 0 ≤ n ∧ n < 256) (H : Sat h R)
    (hS : ∀ h' P, Sat h' (P * R) → ScrI h' ca calls.length pa picks.length da draws.length calls picks draws) (k : ∀ h', Sat h' R → K (.bool true) h') :
    CallH Tryz.prog 10 #[.agg #[.func (.func f) #[] #[], .int .i64 ins], .agg #[.int .i64 c.algo, .int .i64 c.threads, .int .i64 c.nodes, .int .i64 c.level, .int .i64 c.batch, .int .i64 c.probes, .int .i64 c.scan, .slice ca calls.length cc, .slice pa picks.length pc, .slice da draws.length dc]] h K := by
  refine call10 ?_
  unfold F10 g10 q10_13 q10_12 q10_11 q10_10 q10_9 q10_8 q10_7 q10_6 q10_5 q10_4 q10_3 q10_2 q10_1 cf ce lS
  have H1 := H.push (.cells #[.func (.func f) #[] #[], .int .i64 ins] 37)
  generalize h.push (.cells #[.func (.func f) #[] #[], .int .i64 ins] 37) = h1 at *
  generalize h.size = QB at *
  have H2 := H1.push (.cells (scrC c ca calls.length cc pa picks.length pc da draws.length dc).toArray 28)
  rw [show (.cells #[.int .i64 c.algo, .int .i64 c.threads, .int .i64 c.nodes, .int .i64 c.level, .int .i64 c.batch, .int .i64 c.probes, .int .i64 c.scan, .slice ca calls.length cc, .slice pa picks.length pc, .slice da draws.length dc] 28 : Obj) = .cells (scrC c ca calls.length cc pa picks.length pc da draws.length dc).toArray 28 from rfl]
  generalize h1.push (.cells (scrC c ca calls.length cc pa picks.length pc da draws.length dc).toArray 28) = h2 at *
  generalize h1.size = SB at *
  have P0 : (.cells #[.slice none 0 0, .bool false, .bool false, .int .i64 0] 56 : Obj) = play0 := rfl
  rw [P0]
  simp only [add_lit, Nat.zero_add]
  generalize hFR : pt SB (.cells (scrC c ca calls.length cc pa picks.length pc da draws.length dc).toArray 28) * (pt QB (.cells #[.func (.func f) #[] #[], .int .i64 ins] 37) * R) = FR at H2
  have sc : ∀ {h' : Heap}, Sat h' FR → h'[SB]? = some (.cells (scrC c ca calls.length cc pa picks.length pc da draws.length dc).toArray 28) ∧ h'[QB]? = some (.cells [.func (.func f) #[] #[], .int .i64 ins].toArray 37) ∧ ScrI h' ca calls.length pa picks.length da draws.length calls picks draws ∧ Sat h' R := by
    intro h' H'
    subst hFR
    refine ⟨H'.at, H'.drop.at, hS h' emp ?_, H'.drop.drop⟩
    rw [emp_star]
    exact H'.drop.drop
  obtain ⟨oS, oQ, _, _⟩ := sc H2
  refine ldR oS rfl (ldR oS rfl (ldR oS rfl (ldR oS rfl (ldR oS rfl (ldR oS rfl (ldR oS rfl (ldR oS rfl ?_)))))))
  simp only [asSlice_slice]
  refine callV_fn (coreNew_call (c := c) (bs := draws) H2 (fun h' P H' => (sc H'.drop).2.2.1.dr) hdl hdr (fun hh => by rw [hc] at hh; cases hh) fun _ h12 M1 T1 H12 => ?_)
  simp only [asTup_tuple]
  refine elem20' ?_
  simp only [asPtrO_ptr, asTup_tuple]
  refine elem21' ?_
  simp only [asInt_int, Option.isNone_some, ifB_false]
  obtain ⟨oS, oQ, _, _⟩ := sc H12.drop
  refine ldR oS rfl (ldR oS rfl (ldR oS rfl (ldR oS rfl (ldR oS rfl (ldR oS rfl (ldR oS rfl (ldR oS rfl ?_)))))))
  simp only [asSlice_slice]
  refine callV_fn (coreNew_call (c := c) (bs := draws) H12 (fun h' P H' => (sc H'.drop.drop).2.2.1.dr) hdl hdr (fun hh => by rw [hc] at hh; cases hh) fun _ h31 M2 T2 H31 => ?_)
  simp only [asTup_tuple]
  refine elem20' ?_
  simp only [asPtrO_ptr, asTup_tuple]
  refine elem21' ?_
  simp only [asInt_int]
  obtain ⟨oS, oQ, _, _⟩ := sc H31.drop.drop
  refine ldR oQ rfl (ldR oQ rfl ?_)
  refine ldR oS rfl (ldR oS rfl (ldR oS rfl (ldR oS rfl (ldR oS rfl (ldR oS rfl (ldR oS rfl (ldR oS rfl (ldR oS rfl (ldR oS rfl ?_)))))))))
  refine ldR oQ rfl (ldR oQ rfl ?_)
  refine ldR oS rfl (ldR oS rfl (ldR oS rfl (ldR oS rfl (ldR oS rfl (ldR oS rfl (ldR oS rfl (ldR oS rfl (ldR oS rfl (ldR oS rfl ?_)))))))))
  clear H1 H2 H12
  -- both runs
  obtain ⟨_, _, ⟨l1, _⟩, _⟩ := machS_iff.1 H31.drop
  obtain ⟨_, _, ⟨l2, _⟩, _⟩ := machS_iff.1 H31
  have ht : ∀ g, (macNew c draws g).th.length = calls.length := by
    intro g
    show (List.replicate c.threads.toNat (thr0 c)).length = _
    rw [List.length_replicate, hcl]
  obtain ⟨ee, em⟩ := drive_un hd ins calls c draws picks
  have hev : (driveM d ins calls (macNew c draws true) picks).ev.length ≤ 1000000 := by
    have h1 := picks_ev d ins calls picks ⟨macNew c draws true, List.replicate calls.length 0, List.replicate calls.length cl0, []⟩
    have h2 := S.pk.1
    have h1 : (driveM d ins calls (macNew c draws true) picks).ev.length ≤ 0 + 2 * picks.length := h1
    omega
  have dA : ∀ {hh : Heap} {X : Hp} {F : Value → Heap → Prop}, Sat hh (machS M1 T1 (macNew c draws true) * (X * FR)) → (∀ h' ea ec o r bz, Sat h' (ownS 59 8 ea (driveM d ins calls (macNew c draws true) picks).ev.length ec ((driveM d ins calls (macNew c draws true) picks).ev.flatMap evc) * (machS M1 T1 (driveM d ins calls (macNew c draws true) picks).m * (X * FR))) → F (.agg #[.slice ea (driveM d ins calls (macNew c draws true) picks).ev.length ec, .bool o, .bool r, .int .i64 bz]) h') →
      CallH Tryz.prog 23 #[.agg #[.func (.func f) #[] #[], .int .i64 ins], mP M1, .agg #[.int .i64 c.algo, .int .i64 c.threads, .int .i64 c.nodes, .int .i64 c.level, .int .i64 c.batch, .int .i64 c.probes, .int .i64 c.scan, .slice ca calls.length cc, .slice pa picks.length pc, .slice da draws.length dc]] hh F :=
    fun HX kk => drive_call D G S hins HX (by rw [l1, ht]) (ht _) (hI true) (fun h' P H' => (sc H'.drop.drop).2.2.1.f) kk
  have dB : ∀ {hh : Heap} {X : Hp} {F : Value → Heap → Prop}, Sat hh (machS M2 T2 (macNew c draws false) * (X * FR)) → (∀ h' ea ec o r bz, Sat h' (ownS 59 8 ea (driveM d ins calls (macNew c draws true) picks).ev.length ec ((driveM d ins calls (macNew c draws true) picks).ev.flatMap evc) * (machS M2 T2 (driveM d ins calls (macNew c draws false) picks).m * (X * FR))) → F (.agg #[.slice ea (driveM d ins calls (macNew c draws true) picks).ev.length ec, .bool o, .bool r, .int .i64 bz]) h') →
      CallH Tryz.prog 23 #[.agg #[.func (.func f) #[] #[], .int .i64 ins], mP M2, .agg #[.int .i64 c.algo, .int .i64 c.threads, .int .i64 c.nodes, .int .i64 c.level, .int .i64 c.batch, .int .i64 c.probes, .int .i64 c.scan, .slice ca calls.length cc, .slice pa picks.length pc, .slice da draws.length dc]] hh F := by
    intro hh X F HX kk
    rw [ee] at kk
    exact drive_call D G S hins HX (by rw [l2, ht]) (ht _) (hI false) (fun h' P H' => (sc H'.drop.drop).2.2.1.f) kk
  clear H
  generalize driveM d ins calls (macNew c draws true) picks = sA at *
  generalize driveM d ins calls (macNew c draws false) picks = sB at *
  generalize hes : sA.ev = es at *
  generalize hne : es.length = n at *
  generalize macNew c draws true = mA at *
  generalize macNew c draws false = mB at *
  have fin : ∀ {h' : Heap}, Sat h' FR → K (.bool true) h' := fun H' => k _ (sc H').2.2.2
  have HA31 : Sat h31 (machS M1 T1 mA * (machS M2 T2 mB * FR)) := Sat.ac H31 (by ac_rfl)
  clear H31
  have e4 : ∀ {v0 v1 v2 v3 : Value} {F : Value → Value → Value → Value → Prop}, F v0 v1 v2 v3 → asAgg (.agg #[v0, v1, v2, v3]) fun vs => sizeH vs 4 (elemH vs 0 fun a => elemH vs 1 fun b => elemH vs 2 fun c => elemH vs 3 fun d => F a b c d) := fun k => k
  refine ⟨?_, ?_, ?_⟩
  -- the first run at once
  · refine callV_fn (dA HA31 fun h63 ea ec o1 r1 z1 H63 => ?_)
    refine e4 ?_
    have HB63 : Sat h63 (machS M2 T2 mB * ((ownS 59 8 ea n ec (es.flatMap evc) * machS M1 T1 sA.m) * FR)) := Sat.ac H63 (by ac_rfl)
    obtain ⟨oS, oQ, _, _⟩ := sc HB63.drop.drop
    (repeat (first | refine ⟨cellR oS rfl, ?_⟩ | refine ⟨cellR oQ rfl, ?_⟩))
    refine ⟨?_, ?_, ?_⟩
    · refine callV_fn (dB HB63 fun h70 eb ed o2 r2 z2 H70 => ?_)
      refine e4 ?_
      have H71 := H70.push play0
      generalize h70.push play0 = h71 at *
      generalize h70.size = A at *
      have H72 := H71.push play0
      have oS1 := (sc H71.drop.drop.drop.drop).1
      have oQ1 := (sc H71.drop.drop.drop.drop).2.1
      have oS2 := (sc H72.drop.drop.drop.drop.drop).1
      have oQ2 := (sc H72.drop.drop.drop.drop.drop).2.1
      generalize h71.push play0 = h72 at *
      generalize h71.size = B at *
      refine ⟨?_, ?_⟩
      · (repeat (first | refine ⟨cellR oS1 rfl, ?_⟩ | refine ⟨cellR oQ1 rfl, ?_⟩ | refine ⟨cellR oS2 rfl, ?_⟩ | refine ⟨cellR oQ2 rfl, ?_⟩))
        exact leaf_call hne em hev (Sat.ac H72 (by ac_rfl)) fun h' H' => fin H'
      · (repeat (first | refine ⟨cellR oS1 rfl, ?_⟩ | refine ⟨cellR oQ1 rfl, ?_⟩ | refine ⟨cellR oS2 rfl, ?_⟩ | refine ⟨cellR oQ2 rfl, ?_⟩))
        exact leaf_call hne em hev (Sat.ac H72 (by ac_rfl)) fun h' H' => fin H'
    · have H64 := HB63.push play0
      have oS1 := (sc H64.drop.drop.drop).1
      have oQ1 := (sc H64.drop.drop.drop).2.1
      generalize h63.push play0 = h64 at *
      generalize h63.size = A at *
      (repeat (first | refine ⟨cellR oS1 rfl, ?_⟩ | refine ⟨cellR oQ1 rfl, ?_⟩))
      refine ⟨?_, ?_⟩
      · have HB64 : Sat h64 (machS M2 T2 mB * ((pt A play0 * (ownS 59 8 ea n ec (es.flatMap evc) * machS M1 T1 sA.m)) * FR)) := Sat.ac H64 (by ac_rfl)
        refine callV_fn (dB HB64 fun h65 eb ed o2 r2 z2 H65 => ?_)
        refine e4 ?_
        have H66 := H65.push play0
        have oS1 := (sc H66.drop.drop.drop.drop).1
        have oQ1 := (sc H66.drop.drop.drop.drop).2.1
        generalize h65.push play0 = h66 at *
        generalize h65.size = B at *
        (repeat (first | refine ⟨cellR oS1 rfl, ?_⟩ | refine ⟨cellR oQ1 rfl, ?_⟩))
        exact leaf_call hne em hev (Sat.ac H66 (by ac_rfl)) fun h' H' => fin H'
      · have H65 := H64.push play0
        have oS1 := (sc H65.drop.drop.drop.drop).1
        have oQ1 := (sc H65.drop.drop.drop.drop).2.1
        generalize h64.push play0 = h65 at *
        generalize h64.size = B at *
        (repeat (first | refine ⟨cellR oS1 rfl, ?_⟩ | refine ⟨cellR oQ1 rfl, ?_⟩))
        have HB65 : Sat h65 (machS M2 T2 mB * ((pt B play0 * (pt A play0 * (ownS 59 8 ea n ec (es.flatMap evc) * machS M1 T1 sA.m))) * FR)) := Sat.ac H65 (by ac_rfl)
        refine callV_fn (dB HB65 fun h66 eb ed o2 r2 z2 H66 => ?_)
        refine e4 ?_
        exact leaf_call hne em hev (Sat.ac H66 (by ac_rfl)) fun h' H' => fin H'
    · have H64 := HB63.push play0
      have oS1 := (sc H64.drop.drop.drop).1
      have oQ1 := (sc H64.drop.drop.drop).2.1
      generalize h63.push play0 = h64 at *
      generalize h63.size = A at *
      (repeat (first | refine ⟨cellR oS1 rfl, ?_⟩ | refine ⟨cellR oQ1 rfl, ?_⟩))
      refine ⟨?_, ?_⟩
      · have HB64 : Sat h64 (machS M2 T2 mB * ((pt A play0 * (ownS 59 8 ea n ec (es.flatMap evc) * machS M1 T1 sA.m)) * FR)) := Sat.ac H64 (by ac_rfl)
        refine callV_fn (dB HB64 fun h65 eb ed o2 r2 z2 H65 => ?_)
        refine e4 ?_
        have H66 := H65.push play0
        have oS1 := (sc H66.drop.drop.drop.drop).1
        have oQ1 := (sc H66.drop.drop.drop.drop).2.1
        generalize h65.push play0 = h66 at *
        generalize h65.size = B at *
        (repeat (first | refine ⟨cellR oS1 rfl, ?_⟩ | refine ⟨cellR oQ1 rfl, ?_⟩))
        exact leaf_call hne em hev (Sat.ac H66 (by ac_rfl)) fun h' H' => fin H'
      · have H65 := H64.push play0
        have oS1 := (sc H65.drop.drop.drop.drop).1
        have oQ1 := (sc H65.drop.drop.drop.drop).2.1
        generalize h64.push play0 = h65 at *
        generalize h64.size = B at *
        (repeat (first | refine ⟨cellR oS1 rfl, ?_⟩ | refine ⟨cellR oQ1 rfl, ?_⟩))
        have HB65 : Sat h65 (machS M2 T2 mB * ((pt B play0 * (pt A play0 * (ownS 59 8 ea n ec (es.flatMap evc) * machS M1 T1 sA.m))) * FR)) := Sat.ac H65 (by ac_rfl)
        refine callV_fn (dB HB65 fun h66 eb ed o2 r2 z2 H66 => ?_)
        refine e4 ?_
        exact leaf_call hne em hev (Sat.ac H66 (by ac_rfl)) fun h' H' => fin H'
  · have H32 := HA31.push play0
    have oS1 := (sc H32.drop.drop.drop).1
    have oQ1 := (sc H32.drop.drop.drop).2.1
    generalize h31.push play0 = h32 at *
    generalize h31.size = A at *
    (repeat (first | refine ⟨cellR oS1 rfl, ?_⟩ | refine ⟨cellR oQ1 rfl, ?_⟩))
    refine ⟨?_, ?_⟩
    · have HA32 : Sat h32 (machS M1 T1 mA * ((pt A play0 * machS M2 T2 mB) * FR)) := Sat.ac H32 (by ac_rfl)
      refine callV_fn (dA HA32 fun h33 ea ec o1 r1 z1 H33 => ?_)
      refine e4 ?_
      have HB33 : Sat h33 (machS M2 T2 mB * ((pt A play0 * (ownS 59 8 ea n ec (es.flatMap evc) * machS M1 T1 sA.m)) * FR)) := Sat.ac H33 (by ac_rfl)
      have oS1 := (sc HB33.drop.drop).1
      have oQ1 := (sc HB33.drop.drop).2.1
      (repeat (first | refine ⟨cellR oS1 rfl, ?_⟩ | refine ⟨cellR oQ1 rfl, ?_⟩))
      refine ⟨?_, ?_⟩
      · refine callV_fn (dB HB33 fun h34 eb ed o2 r2 z2 H34 => ?_)
        refine e4 ?_
        have H35 := H34.push play0
        have oS1 := (sc H35.drop.drop.drop.drop).1
        have oQ1 := (sc H35.drop.drop.drop.drop).2.1
        generalize h34.push play0 = h35 at *
        generalize h34.size = B at *
        (repeat (first | refine ⟨cellR oS1 rfl, ?_⟩ | refine ⟨cellR oQ1 rfl, ?_⟩))
        exact leaf_call hne em hev (Sat.ac H35 (by ac_rfl)) fun h' H' => fin H'
      · have H34 := HB33.push play0
        have oS1 := (sc H34.drop.drop.drop).1
        have oQ1 := (sc H34.drop.drop.drop).2.1
        generalize h33.push play0 = h34 at *
        generalize h33.size = B at *
        (repeat (first | refine ⟨cellR oS1 rfl, ?_⟩ | refine ⟨cellR oQ1 rfl, ?_⟩))
        have HB34 : Sat h34 (machS M2 T2 mB * ((pt B play0 * (pt A play0 * (ownS 59 8 ea n ec (es.flatMap evc) * machS M1 T1 sA.m))) * FR)) := Sat.ac H34 (by ac_rfl)
        refine callV_fn (dB HB34 fun h35 eb ed o2 r2 z2 H35 => ?_)
        refine e4 ?_
        exact leaf_call hne em hev (Sat.ac H35 (by ac_rfl)) fun h' H' => fin H'
    · have H33 := H32.push play0
      have oS1 := (sc H33.drop.drop.drop.drop).1
      have oQ1 := (sc H33.drop.drop.drop.drop).2.1
      generalize h32.push play0 = h33 at *
      generalize h32.size = B at *
      (repeat (first | refine ⟨cellR oS1 rfl, ?_⟩ | refine ⟨cellR oQ1 rfl, ?_⟩))
      have HA33 : Sat h33 (machS M1 T1 mA * ((pt B play0 * (pt A play0 * machS M2 T2 mB)) * FR)) := Sat.ac H33 (by ac_rfl)
      refine callV_fn (dA HA33 fun h34 ea ec o1 r1 z1 H34 => ?_)
      refine e4 ?_
      have HB34 : Sat h34 (machS M2 T2 mB * ((pt B play0 * (pt A play0 * (ownS 59 8 ea n ec (es.flatMap evc) * machS M1 T1 sA.m))) * FR)) := Sat.ac H34 (by ac_rfl)
      have oS1 := (sc HB34.drop.drop).1
      have oQ1 := (sc HB34.drop.drop).2.1
      (repeat (first | refine ⟨cellR oS1 rfl, ?_⟩ | refine ⟨cellR oQ1 rfl, ?_⟩))
      refine callV_fn (dB HB34 fun h35 eb ed o2 r2 z2 H35 => ?_)
      refine e4 ?_
      exact leaf_call hne em hev (Sat.ac H35 (by ac_rfl)) fun h' H' => fin H'
  · have H32 := HA31.push play0
    have oS1 := (sc H32.drop.drop.drop).1
    have oQ1 := (sc H32.drop.drop.drop).2.1
    generalize h31.push play0 = h32 at *
    generalize h31.size = A at *
    (repeat (first | refine ⟨cellR oS1 rfl, ?_⟩ | refine ⟨cellR oQ1 rfl, ?_⟩))
    refine ⟨?_, ?_⟩
    · have HA32 : Sat h32 (machS M1 T1 mA * ((pt A play0 * machS M2 T2 mB) * FR)) := Sat.ac H32 (by ac_rfl)
      refine callV_fn (dA HA32 fun h33 ea ec o1 r1 z1 H33 => ?_)
      refine e4 ?_
      have HB33 : Sat h33 (machS M2 T2 mB * ((pt A play0 * (ownS 59 8 ea n ec (es.flatMap evc) * machS M1 T1 sA.m)) * FR)) := Sat.ac H33 (by ac_rfl)
      have oS1 := (sc HB33.drop.drop).1
      have oQ1 := (sc HB33.drop.drop).2.1
      (repeat (first | refine ⟨cellR oS1 rfl, ?_⟩ | refine ⟨cellR oQ1 rfl, ?_⟩))
      refine ⟨?_, ?_⟩
      · refine callV_fn (dB HB33 fun h34 eb ed o2 r2 z2 H34 => ?_)
        refine e4 ?_
        have H35 := H34.push play0
        have oS1 := (sc H35.drop.drop.drop.drop).1
        have oQ1 := (sc H35.drop.drop.drop.drop).2.1
        generalize h34.push play0 = h35 at *
        generalize h34.size = B at *
        (repeat (first | refine ⟨cellR oS1 rfl, ?_⟩ | refine ⟨cellR oQ1 rfl, ?_⟩))
        exact leaf_call hne em hev (Sat.ac H35 (by ac_rfl)) fun h' H' => fin H'
      · have H34 := HB33.push play0
        have oS1 := (sc H34.drop.drop.drop).1
        have oQ1 := (sc H34.drop.drop.drop).2.1
        generalize h33.push play0 = h34 at *
        generalize h33.size = B at *
        (repeat (first | refine ⟨cellR oS1 rfl, ?_⟩ | refine ⟨cellR oQ1 rfl, ?_⟩))
        have HB34 : Sat h34 (machS M2 T2 mB * ((pt B play0 * (pt A play0 * (ownS 59 8 ea n ec (es.flatMap evc) * machS M1 T1 sA.m))) * FR)) := Sat.ac H34 (by ac_rfl)
        refine callV_fn (dB HB34 fun h35 eb ed o2 r2 z2 H35 => ?_)
        refine e4 ?_
        exact leaf_call hne em hev (Sat.ac H35 (by ac_rfl)) fun h' H' => fin H'
    · have H33 := H32.push play0
      have oS1 := (sc H33.drop.drop.drop.drop).1
      have oQ1 := (sc H33.drop.drop.drop.drop).2.1
      generalize h32.push play0 = h33 at *
      generalize h32.size = B at *
      (repeat (first | refine ⟨cellR oS1 rfl, ?_⟩ | refine ⟨cellR oQ1 rfl, ?_⟩))
      have HA33 : Sat h33 (machS M1 T1 mA * ((pt B play0 * (pt A play0 * machS M2 T2 mB)) * FR)) := Sat.ac H33 (by ac_rfl)
      refine callV_fn (dA HA33 fun h34 ea ec o1 r1 z1 H34 => ?_)
      refine e4 ?_
      have HB34 : Sat h34 (machS M2 T2 mB * ((pt B play0 * (pt A play0 * (ownS 59 8 ea n ec (es.flatMap evc) * machS M1 T1 sA.m))) * FR)) := Sat.ac H34 (by ac_rfl)
      have oS1 := (sc HB34.drop.drop).1
      have oQ1 := (sc HB34.drop.drop).2.1
      (repeat (first | refine ⟨cellR oS1 rfl, ?_⟩ | refine ⟨cellR oQ1 rfl, ?_⟩))
      refine callV_fn (dB HB34 fun h35 eb ed o2 r2 z2 H35 => ?_)
      refine e4 ?_
      exact leaf_call hne em hev (Sat.ac H35 (by ac_rfl)) fun h' H' => fin H'
end
end
end Go.Proofs.YtglgifgoojncpaaGreat
section
namespace Go.Proofs.YtglgifgoojncpaaGreat.Mod
inductive Lo : Run → Run → Prop
  | refl (x : Run) : Lo x x
  | load {x y : Run} {a : Int} (h : Lo x y) : Lo x (y.load a).2
  | store {x y : Run} {a v : Int} (h : Lo x y) : Lo x (y.store a v)
  | cas {x y : Run} {a o v : Int} (h : Lo x y) : Lo x (y.cas a o v).2
  | add {x y : Run} {a v : Int} (h : Lo x y) : Lo x (y.add a v).2
  | swing {x y : Run} {a w p : Int} {b : Bool} (h : Lo x y) : Lo x (y.swing a w p b).2
  | swingA {x y : Run} {a w p : Int} (h : Lo x y) : Lo x (y.swingA a w p).2
  | swingM {x y : Run} {a w p : Int} {b : Bool} (h : Lo x y) : Lo x (y.swingM a w p b).2
  | drop1 {x y : Run} {a : Int} (h : Lo x y) : Lo x (y.drop1 a).2
  | guard {x y : Run} {a b : Int} (h : Lo x y) : Lo x (y.guard a b)
  | gh {x y : Run} {f : Gh → Gh} (h : Lo x y) : Lo x (y.gh f)
  | s {x y : Run} {i : Nat} {v : Int} (h : Lo x y) : Lo x (y.s i v)
  | pc {x y : Run} {i : Int} (h : Lo x y) : Lo x (y.pc i)
  | fo {x y : Run} {l : List Int} (h : Lo x y) : Lo x (y.fo l)
  | re {x y : Run} {l : List Int} (h : Lo x y) : Lo x (y.re l)
  | setPl {x y : Run} {p s w : List Int} (h : Lo x y) : Lo x (y.setPl p s w)
  | next {x y : Run} {k : Int} (h : Lo x y) : Lo x { y with m := (y.m.next k).2 }
  | lvl {x y : Run} {k : Int} (h : Lo x y) : Lo x { y with m := (y.m.lvl k).2 }
  | dcas {x y : Run} {a o v b p q : Int} (h : Lo x y) : Lo x { y with m := (y.m.dcas a o v b p q).2 }
  | dcss {x y : Run} {a o v b p : Int} (h : Lo x y) : Lo x { y with m := (y.m.dcss a o v b p).2 }
inductive Tch : Run → Prop
  | load {y : Run} {a : Int} : Tch (y.load a).2
  | store {y : Run} {a v : Int} : Tch (y.store a v)
  | cas {y : Run} {a o v : Int} : Tch (y.cas a o v).2
  | add {y : Run} {a v : Int} : Tch (y.add a v).2
  | swing {y : Run} {a w p : Int} {b : Bool} : Tch (y.swing a w p b).2
  | swingA {y : Run} {a w p : Int} : Tch (y.swingA a w p).2
  | swingM {y : Run} {a w p : Int} {b : Bool} : Tch (y.swingM a w p b).2
  | drop1 {y : Run} {a : Int} : Tch (y.drop1 a).2
  | guard {y : Run} {a b : Int} : Tch (y.guard a b)
  | dcas {y : Run} {a o v b p q : Int} : Tch { y with m := (y.m.dcas a o v b p q).2 }
  | dcss {y : Run} {a o v b p : Int} : Tch { y with m := (y.m.dcss a o v b p).2 }
  | s {y : Run} {i : Nat} {v : Int} (h : Tch y) : Tch (y.s i v)
  | pc {y : Run} {i : Int} (h : Tch y) : Tch (y.pc i)
  | gh {y : Run} {f : Gh → Gh} (h : Tch y) : Tch (y.gh f)
  | fo {y : Run} {l : List Int} (h : Tch y) : Tch (y.fo l)
  | re {y : Run} {l : List Int} (h : Tch y) : Tch (y.re l)
  | setPl {y : Run} {p s w : List Int} (h : Tch y) : Tch (y.setPl p s w)
  | next {y : Run} {k : Int} (h : Tch y) : Tch { y with m := (y.m.next k).2 }
  | lvl {y : Run} {k : Int} (h : Tch y) : Tch { y with m := (y.m.lvl k).2 }
  | push {y : Run} {i : Int} {r : List Int} (h : Tch y) : Tch (y.push i r)
  | pop {y : Run} {r : List Int} (h : Tch y) : Tch (y.pop r)
  | call {y : Run} {i j : Int} {r : List Int} (h : Tch y) : Tch (y.call i j r)
  | fin {y : Run} {i j k : Int} (h : Tch y) : Tch (y.fin i j k)
inductive St : Nat → Run → Run → Prop
  | refl {n : Nat} (x : Run) : St n x x
  | load {n : Nat} {x y : Run} {a : Int} (h : St n x y) : St (n + 1) x (y.load a).2
  | store {n : Nat} {x y : Run} {a v : Int} (h : St n x y) : St (n + 1) x (y.store a v)
  | cas {n : Nat} {x y : Run} {a o v : Int} (h : St n x y) : St (n + 1) x (y.cas a o v).2
  | add {n : Nat} {x y : Run} {a v : Int} (h : St n x y) : St (n + 1) x (y.add a v).2
  | dcas {n : Nat} {x y : Run} {a o v b p q : Int} (h : St n x y) : St (n + 1) x { y with m := (y.m.dcas a o v b p q).2 }
  | dcss {n : Nat} {x y : Run} {a o v b p : Int} (h : St n x y) : St (n + 1) x { y with m := (y.m.dcss a o v b p).2 }
  | next {n : Nat} {x y : Run} {k : Int} (h : St n x y) : St (n + 1) x { y with m := (y.m.next k).2 }
  | lvl {n : Nat} {x y : Run} {k : Int} (h : St n x y) : St (n + 1) x { y with m := (y.m.lvl k).2 }
  | gh {n : Nat} {x y : Run} {f : Gh → Gh} (h : St n x y) : St n x (y.gh f)
  | s {n : Nat} {x y : Run} {i : Nat} {v : Int} (h : St n x y) : St (n + 1) x (y.s i v)
  | pc {n : Nat} {x y : Run} {i : Int} (h : St n x y) : St (n + 1) x (y.pc i)
  | push {n : Nat} {x y : Run} {i : Int} {r : List Int} (h : St n x y) : St (n + 1) x (y.push i r)
  | pop {n : Nat} {x y : Run} {r : List Int} (h : St n x y) : St n x (y.pop r)
  | fo {n : Nat} {x y : Run} {l : List Int} (hl : l.length ≤ y.t.found.length + 1) (h : St n x y) : St (n + 1) x (y.fo l)
  | re {n : Nat} {x y : Run} {l : List Int} (hl : l.length ≤ y.t.retired.length + 1) (h : St n x y) : St (n + 1) x (y.re l)
  | part {n : Nat} {x y : Run} {p : Int → Bool} (h : St n x y) : St (n + 1) x ((y.re (y.t.retired.filter p)).fo (y.t.retired.filter fun n => !p n))
  | setPl {n : Nat} {x y : Run} {p s w : List Int} (h1 : p.length = y.t.pred.length) (h2 : s.length = y.t.succ.length) (h3 : w.length = y.t.word.length) (h : St n x y) : St n x (y.setPl p s w)
  | up {n k : Nat} {x y : Run} (h : St n x y) : St (n + k) x y
section
variable {x y : Run} {n : Nat}
theorem St.swing {a w p : Int} {b : Bool} (h : St n x y) : St (n + 1) x (y.swing a w p b).2 := St.cas h
theorem St.swingA {a w p : Int} (h : St n x y) : St (n + 1) x (y.swingA a w p).2 := St.cas h
theorem St.swingM {a w p : Int} {b : Bool} (h : St n x y) : St (n + 1) x (y.swingM a w p b).2 := St.cas h
theorem St.drop1 {a : Int} (h : St n x y) : St (n + 1) x (y.drop1 a).2 := St.add h
theorem St.guard {a b : Int} (h : St n x y) : St (n + 1) x (y.guard a b) := St.store h
theorem St.call {i j : Int} {r : List Int} (h : St n x y) : St (n + 2) x (y.call i j r) := St.push (St.pc h)
theorem St.fin {i j k : Int} (h : St n x y) : St (n + 5) x (y.fin i j k) := St.call (St.s (St.s (St.s h)))
end
structure Fix (x y : Run) : Prop where
  p : y.m.p = x.m.p
  id : y.id = x.id
  th : y.m.th = x.m.th
  b : y.m.b = x.m.b
  w : y.m.mm.w.length = x.m.mm.w.length
  pr : y.t.pred.length = x.t.pred.length
  su : y.t.succ.length = x.t.succ.length
  wo : y.t.word.length = x.t.word.length
structure FixM (m n : Mac) : Prop where
  p : n.p = m.p
  th : n.th = m.th
  b : n.b = m.b
  w : n.mm.w.length = m.mm.w.length
  st : n.mm.st ≤ m.mm.st + 1
  us : n.used ≤ m.used + 1
theorem FixM.touch (m : Mac) (a : Int) : FixM m (m.touch a) ∧ (m.touch a).mm = m.mm ∧ (m.touch a).used = m.used := by
  unfold Mac.touch
  split <;> exact ⟨⟨rfl, rfl, rfl, rfl, by show m.mm.st ≤ _; omega, by show m.used ≤ _; omega⟩, rfl, rfl⟩
theorem FixM.of {m n k : Mac} (h : FixM m n) (hn : n.mm = m.mm ∧ n.used = m.used) (e : k.p = n.p ∧ k.th = n.th ∧ k.b = n.b ∧ k.used = n.used) (ew : k.mm.w.length = n.mm.w.length) (es : k.mm.st ≤ n.mm.st + 1) : FixM m k :=
  ⟨e.1.trans h.p, e.2.1.trans h.th, e.2.2.1.trans h.b, ew.trans h.w, by rw [← hn.1]; exact es, by rw [e.2.2.2, hn.2]; omega⟩
theorem FixM.load (m : Mac) (a : Int) : FixM m (m.load a).2 := by
  have t := FixM.touch m a
  unfold Mac.load; dsimp only
  split
  · exact t.1.of t.2 ⟨rfl, rfl, rfl, rfl⟩ rfl (Int.le_refl _)
  · exact t.1.of t.2 ⟨rfl, rfl, rfl, rfl⟩ rfl (by show (m.touch a).mm.st ≤ _; omega)
theorem FixM.store (m : Mac) (a v : Int) : FixM m (m.store a v) := by
  have t := FixM.touch m a
  unfold Mac.store; dsimp only
  split
  · exact t.1.of t.2 ⟨rfl, rfl, rfl, rfl⟩ (by show (List.set _ _ _).length = _; rw [List.length_set]; rfl) (Int.le_refl _)
  · exact t.1.of t.2 ⟨rfl, rfl, rfl, rfl⟩ rfl (by show (m.touch a).mm.st ≤ _; omega)
theorem FixM.add (m : Mac) (a v : Int) : FixM m (m.add a v).2 := by
  have t := FixM.touch m a
  unfold Mac.add; dsimp only
  split
  · exact t.1.of t.2 ⟨rfl, rfl, rfl, rfl⟩ (by show (List.set _ _ _).length = _; rw [List.length_set]; rfl) (Int.le_refl _)
  · exact t.1.of t.2 ⟨rfl, rfl, rfl, rfl⟩ rfl (by show (m.touch a).mm.st ≤ _; omega)
theorem mm_cas (m : Mm) (a o n : Int) : (m.cas a o n).st = m.st + 1 ∧ (m.cas a o n).w.length = m.w.length := by unfold Mm.cas; split <;> exact ⟨rfl, by simp [Mm.tick, Mm.put]⟩
theorem mm_dcas (m : Mm) (a o n b p q : Int) : (m.dcas a o n b p q).st = m.st + 1 ∧ (m.dcas a o n b p q).w.length = m.w.length := by unfold Mm.dcas; split <;> exact ⟨rfl, by simp [Mm.tick, Mm.put]⟩
theorem mm_dcss (m : Mm) (a o n b p : Int) : (m.dcss a o n b p).st = m.st + 1 ∧ (m.dcss a o n b p).w.length = m.w.length := by unfold Mm.dcss; split <;> exact ⟨rfl, by simp [Mm.tick, Mm.put]⟩
theorem FixM.cas (m : Mac) (a o n : Int) : FixM m (m.cas a o n).2 := by
  have t := FixM.touch m a
  have h := mm_cas (m.touch a).mm a o n
  unfold Mac.cas; dsimp only
  split
  · exact t.1.of t.2 ⟨rfl, rfl, rfl, rfl⟩ h.2 (by show ((m.touch a).mm.cas a o n).st ≤ _; omega)
  · exact t.1.of t.2 ⟨rfl, rfl, rfl, rfl⟩ rfl (by show (m.touch a).mm.st ≤ _; omega)
theorem FixM.touch2 (m : Mac) (a b : Int) : FixM m ((m.touch a).touch b) ∧ ((m.touch a).touch b).mm = m.mm ∧ ((m.touch a).touch b).used = m.used := by
  have t := FixM.touch m a
  have t2 := FixM.touch (m.touch a) b
  have e1 := t2.2.1.trans t.2.1
  have e2 := t2.2.2.trans t.2.2
  exact ⟨⟨t2.1.p.trans t.1.p, t2.1.th.trans t.1.th, t2.1.b.trans t.1.b, t2.1.w.trans t.1.w, by rw [e1]; omega, by rw [e2]; omega⟩, e1, e2⟩
theorem FixM.dcas (m : Mac) (a o n b p q : Int) : FixM m (m.dcas a o n b p q).2 := by
  have t := FixM.touch2 m a b
  have h := mm_dcas ((m.touch a).touch b).mm a o n b p q
  unfold Mac.dcas; dsimp only
  split
  · exact t.1.of t.2 ⟨rfl, rfl, rfl, rfl⟩ h.2 (by show (((m.touch a).touch b).mm.dcas a o n b p q).st ≤ _; omega)
  · exact t.1.of t.2 ⟨rfl, rfl, rfl, rfl⟩ rfl (by show ((m.touch a).touch b).mm.st ≤ _; omega)
theorem FixM.dcss (m : Mac) (a o n b p : Int) : FixM m (m.dcss a o n b p).2 := by
  have t := FixM.touch2 m a b
  have h := mm_dcss ((m.touch a).touch b).mm a o n b p
  unfold Mac.dcss; dsimp only
  split
  · exact t.1.of t.2 ⟨rfl, rfl, rfl, rfl⟩ h.2 (by show (((m.touch a).touch b).mm.dcss a o n b p).st ≤ _; omega)
  · exact t.1.of t.2 ⟨rfl, rfl, rfl, rfl⟩ rfl (by show ((m.touch a).touch b).mm.st ≤ _; omega)
theorem FixM.refl (m : Mac) : FixM m m := ⟨rfl, rfl, rfl, rfl, by omega, by omega⟩
theorem FixM.next (m : Mac) (n : Int) : FixM m (m.next n).2 := by
  unfold Mac.next
  split
  · exact FixM.refl m
  · exact ⟨rfl, rfl, rfl, rfl, by show m.mm.st ≤ _; omega, Int.le_refl _⟩
theorem FixM.lvl (m : Mac) (n : Int) : FixM m (m.lvl n).2 := by
  unfold Mac.lvl
  split
  · exact FixM.refl m
  · exact ⟨rfl, rfl, rfl, rfl, by show m.mm.st ≤ _; omega, Int.le_refl _⟩
theorem Fix.m {x y : Run} {m : Mac} (h : Fix x y) (e : FixM y.m m) : Fix x { y with m := m } := ⟨e.p.trans h.p, h.id, e.th.trans h.th, e.b.trans h.b, e.w.trans h.w, h.pr, h.su, h.wo⟩
theorem Fix.t {x y : Run} {t : Thr} (h : Fix x y) (h1 : t.pred.length = y.t.pred.length) (h2 : t.succ.length = y.t.succ.length) (h3 : t.word.length = y.t.word.length) : Fix x { y with t := t } := ⟨h.p, h.id, h.th, h.b, h.w, h1.trans h.pr, h2.trans h.su, h3.trans h.wo⟩
theorem Thr.pop_pl (t : Thr) (r : List Int) : (t.pop r).pred = t.pred ∧ (t.pop r).succ = t.succ ∧ (t.pop r).word = t.word := by unfold Thr.pop; split <;> exact ⟨rfl, rfl, rfl⟩
theorem St.fix {n : Nat} {x y : Run} (h : St n x y) : Fix x y := by
  induction h with
  | refl x => exact ⟨rfl, rfl, rfl, rfl, rfl, rfl, rfl, rfl⟩
  | load _ ih => exact ih.m (FixM.load _ _)
  | store _ ih => exact ih.m (FixM.store _ _ _)
  | cas _ ih => exact ih.m (FixM.cas _ _ _ _)
  | add _ ih => exact ih.m (FixM.add _ _ _)
  | dcas _ ih => exact ih.m (FixM.dcas _ _ _ _ _ _ _)
  | dcss _ ih => exact ih.m (FixM.dcss _ _ _ _ _ _)
  | next _ ih => exact ih.m (FixM.next _ _)
  | lvl _ ih => exact ih.m (FixM.lvl _ _)
  | gh _ ih => exact ih.m ⟨rfl, rfl, rfl, rfl, by show Mm.st _ ≤ _; exact Int.le_add_one (Int.le_refl _), by show Mac.used _ ≤ _; exact Int.le_add_one (Int.le_refl _)⟩
  | s _ ih => exact ih.t rfl rfl rfl
  | pc _ ih => exact ih.t rfl rfl rfl
  | push _ ih => exact ih.t rfl rfl rfl
  | pop _ ih => exact ih.t (by rw [(Thr.pop_pl _ _).1]) (by rw [(Thr.pop_pl _ _).2.1]) (by rw [(Thr.pop_pl _ _).2.2])
  | fo _ _ ih => exact ih.t rfl rfl rfl
  | re _ _ ih => exact ih.t rfl rfl rfl
  | part _ ih => exact ih.t rfl rfl rfl
  | setPl h1 h2 h3 _ ih => exact ih.t h1 h2 h3
  | up _ ih => exact ih
def Run.P (x : Run) : Nat := x.m.mm.st.toNat + x.m.used.toNat + x.t.retired.length + x.t.found.length + x.t.fr.length
theorem filt2 (p : Int → Bool) : ∀ l : List Int, (l.filter p).length + (l.filter fun n => !p n).length = l.length
  | [] => rfl
  | a :: l => by
    have ih := filt2 p l
    cases h : p a <;> simp [List.filter_cons, h] <;> omega
theorem P_m {x : Run} {m : Mac} (h : FixM x.m m) : ({ x with m := m } : Run).P ≤ x.P + 2 := by
  have h1 := h.st
  have h2 := h.us
  unfold Run.P
  dsimp only
  omega
theorem P_setF (x : Run) (f : Frm) : (x.setF f).P ≤ x.P + 2 := by
  unfold Run.P
  show x.m.mm.st.toNat + x.m.used.toNat + x.t.retired.length + x.t.found.length + (x.t.fr.dropLast ++ [f]).length ≤ _
  simp
  omega
theorem St.P {n : Nat} {x y : Run} (h : St n x y) : y.P ≤ x.P + 2 * n := by
  induction h with
  | refl x => omega
  | @load _ _ y a _ ih => have := P_m (x := y) (FixM.load y.m a); exact Nat.le_trans this (by omega)
  | @store _ _ y a v _ ih => have := P_m (x := y) (FixM.store y.m a v); exact Nat.le_trans this (by omega)
  | @cas _ _ y a o v _ ih => have := P_m (x := y) (FixM.cas y.m a o v); exact Nat.le_trans this (by omega)
  | @add _ _ y a v _ ih => have := P_m (x := y) (FixM.add y.m a v); exact Nat.le_trans this (by omega)
  | @dcas _ _ y a o v b p q _ ih => have := P_m (x := y) (FixM.dcas y.m a o v b p q); exact Nat.le_trans this (by omega)
  | @dcss _ _ y a o v b p _ ih => have := P_m (x := y) (FixM.dcss y.m a o v b p); exact Nat.le_trans this (by omega)
  | @next _ _ y k _ ih => have := P_m (x := y) (FixM.next y.m k); exact Nat.le_trans this (by omega)
  | @lvl _ _ y k _ ih => have := P_m (x := y) (FixM.lvl y.m k); exact Nat.le_trans this (by omega)
  | @gh _ _ y f _ ih => have : (y.gh f).P = y.P := rfl; omega
  | @s _ _ y i v _ ih => have := P_setF y (y.f.s i v); exact Nat.le_trans this (by omega)
  | @pc _ _ y i _ ih => have := P_setF y (y.f.at i); exact Nat.le_trans this (by omega)
  | @push _ _ y i r _ ih =>
    have : (y.push i r).P = y.P + 1 := by
      unfold Run.P
      show y.m.mm.st.toNat + y.m.used.toNat + y.t.retired.length + y.t.found.length + (y.t.fr ++ [_]).length = _
      simp
      omega
    omega
  | @pop _ _ y r _ ih =>
    have : (y.pop r).P ≤ y.P := by
      unfold Run.P Run.pop Thr.pop
      split
      · exact Nat.le_refl _
      · dsimp only
        simp
    omega
  | @fo _ _ y l hl _ ih =>
    have : (y.fo l).P ≤ y.P + 1 := by
      unfold Run.P
      show y.m.mm.st.toNat + y.m.used.toNat + y.t.retired.length + l.length + y.t.fr.length ≤ _
      omega
    omega
  | @re _ _ y l hl _ ih =>
    have : (y.re l).P ≤ y.P + 1 := by
      unfold Run.P
      show y.m.mm.st.toNat + y.m.used.toNat + l.length + y.t.found.length + y.t.fr.length ≤ _
      omega
    omega
  | @part _ _ y p _ ih =>
    have h := filt2 p y.t.retired
    have : ((y.re (y.t.retired.filter p)).fo (y.t.retired.filter fun n => !p n)).P ≤ y.P := by
      unfold Run.P
      show y.m.mm.st.toNat + y.m.used.toNat + (y.t.retired.filter p).length + (y.t.retired.filter fun n => !p n).length + y.t.fr.length ≤ _
      omega
    omega
  | @setPl _ _ y p s w _ _ _ _ ih => have : (y.setPl p s w).P = y.P := rfl; omega
  | up _ ih => omega
theorem alloc_St (x : Run) : St 12 x (alloc x) := by
  unfold alloc; dsimp only
  repeat' split
  all_goals (with_reducible repeat' (first | apply St.refl | assumption | apply St.load | apply St.store | apply St.cas | apply St.add | apply St.swing | apply St.swingA | apply St.swingM | apply St.drop1 | apply St.guard | apply St.next | apply St.lvl | apply St.dcas | apply St.dcss | apply St.gh | apply St.call | apply St.fin | apply St.s | apply St.pc | apply St.push | apply St.pop))
theorem release_St (x : Run) : St 12 x (release x) := by
  unfold release; dsimp only
  repeat' split
  all_goals (with_reducible repeat' (first | apply St.refl | assumption | apply St.load | apply St.store | apply St.cas | apply St.add | apply St.swing | apply St.swingA | apply St.swingM | apply St.drop1 | apply St.guard | apply St.next | apply St.lvl | apply St.dcas | apply St.dcss | apply St.gh | apply St.call | apply St.fin | apply St.s | apply St.pc | apply St.push | apply St.pop))
theorem arenaDo_St (x : Run) : St 12 x (arenaDo x) := by
  unfold arenaDo
  repeat' split
  · (with_reducible repeat' (first | apply St.refl | assumption | apply St.load | apply St.store | apply St.cas | apply St.add | apply St.swing | apply St.swingA | apply St.swingM | apply St.drop1 | apply St.guard | apply St.next | apply St.lvl | apply St.dcas | apply St.dcss | apply St.gh | apply St.call | apply St.fin | apply St.s | apply St.pc | apply St.push | apply St.pop))
  · exact alloc_St x
  · exact release_St x
  · (with_reducible repeat' (first | apply St.refl | assumption | apply St.load | apply St.store | apply St.cas | apply St.add | apply St.swing | apply St.swingA | apply St.swingM | apply St.drop1 | apply St.guard | apply St.next | apply St.lvl | apply St.dcas | apply St.dcss | apply St.gh | apply St.call | apply St.fin | apply St.s | apply St.pc | apply St.push | apply St.pop))
theorem protect_St (x : Run) : St 12 x (protect x) := by
  unfold protect; dsimp only
  repeat' split
  all_goals (with_reducible repeat' (first | apply St.refl | assumption | apply St.load | apply St.store | apply St.cas | apply St.add | apply St.swing | apply St.swingA | apply St.swingM | apply St.drop1 | apply St.guard | apply St.next | apply St.lvl | apply St.dcas | apply St.dcss | apply St.gh | apply St.call | apply St.fin | apply St.s | apply St.pc | apply St.push | apply St.pop))
theorem wipe_St (x : Run) : St 12 x (wipe x) := by
  unfold wipe; dsimp only
  repeat' split
  all_goals (with_reducible repeat' (first | apply St.refl | assumption | apply St.load | apply St.store | apply St.cas | apply St.add | apply St.swing | apply St.swingA | apply St.swingM | apply St.drop1 | apply St.guard | apply St.next | apply St.lvl | apply St.dcas | apply St.dcss | apply St.gh | apply St.call | apply St.fin | apply St.s | apply St.pc | apply St.push | apply St.pop))
theorem retire_St (x : Run) : St 12 x (retire x) := by
  unfold retire; dsimp only
  have h2 : St 2 x ((x.gh fun g => g.turn (s64 (x.f.g 0)) 1 2 2).re ((x.gh fun g => g.turn (s64 (x.f.g 0)) 1 2 2).t.retired ++ [s64 (x.f.g 0)])) := St.re (by simp) (St.gh (St.refl _))
  split
  · exact St.up (k := 9) (St.push (St.pop h2))
  · exact St.up (k := 10) (St.pop h2)
theorem scanA_St {x y : Run} {N : Nat} (all : Int) (h : St N x y) : St (N + 2) x (scanA y all) := by
  unfold scanA
  split
  · exact St.pc (St.part h)
  · exact St.up (k := 2) h
theorem scanB_St {x y : Run} {N : Nat} (h : St N x y) : St (N + 2) x (scanB y) := by
  unfold scanB
  split
  · exact St.up (k := 2) (St.pop h)
  · rename_i n rest e
    exact St.push (St.fo (by rw [e]; simp; omega) h)
theorem scan_St (x : Run) : St 12 x (scan x) := by
  have h0 : St 1 x (if x.f.pc = 0 then x.fo [] else x) := by
    split
    · exact St.fo (by simp) (St.refl _)
    · exact St.refl _
  unfold scan
  dsimp only
  generalize (if x.f.pc = 0 then x.fo [] else x) = y at *
  split
  · exact St.up (k := 8) (St.pc (St.fo (by simp) (St.load h0)))
  · exact St.up (k := 7) (scanB_St (scanA_St _ h0))
theorem hazardDo_St (x : Run) : St 12 x (hazardDo x) := by
  unfold hazardDo
  repeat' split
  · (with_reducible repeat' (first | apply St.refl | assumption | apply St.load | apply St.store | apply St.cas | apply St.add | apply St.swing | apply St.swingA | apply St.swingM | apply St.drop1 | apply St.guard | apply St.next | apply St.lvl | apply St.dcas | apply St.dcss | apply St.gh | apply St.call | apply St.fin | apply St.s | apply St.pc | apply St.push | apply St.pop))
  · exact protect_St x
  · exact wipe_St x
  · exact retire_St x
  · exact scan_St x
  · exact arenaDo_St x
theorem mRead_St (x : Run) : St 12 x (mRead x) := by
  unfold mRead; dsimp only
  repeat' split
  all_goals (with_reducible repeat' (first | apply St.refl | assumption | apply St.load | apply St.store | apply St.cas | apply St.add | apply St.swing | apply St.swingA | apply St.swingM | apply St.drop1 | apply St.guard | apply St.next | apply St.lvl | apply St.dcas | apply St.dcss | apply St.gh | apply St.call | apply St.fin | apply St.s | apply St.pc | apply St.push | apply St.pop))
theorem iTake_St (x : Run) : St 12 x (iTake x) := by
  unfold iTake; dsimp only
  repeat' split
  all_goals (with_reducible repeat' (first | apply St.refl | assumption | apply St.load | apply St.store | apply St.cas | apply St.add | apply St.swing | apply St.swingA | apply St.swingM | apply St.drop1 | apply St.guard | apply St.next | apply St.lvl | apply St.dcas | apply St.dcss | apply St.gh | apply St.call | apply St.fin | apply St.s | apply St.pc | apply St.push | apply St.pop))
theorem iDrawing_St (x : Run) : St 12 x (iDrawing x) := by
  unfold iDrawing iKeep; dsimp only
  repeat' split
  all_goals (with_reducible repeat' (first | apply St.refl | assumption | apply St.load | apply St.store | apply St.cas | apply St.add | apply St.swing | apply St.swingA | apply St.swingM | apply St.drop1 | apply St.guard | apply St.next | apply St.lvl | apply St.dcas | apply St.dcss | apply St.gh | apply St.call | apply St.fin | apply St.s | apply St.pc | apply St.push | apply St.pop))
theorem iFind_St (x : Run) : St 12 x (iFind x) := by
  unfold iFind iKeep; dsimp only
  repeat' split
  all_goals (with_reducible repeat' (first | apply St.refl | assumption | apply St.load | apply St.store | apply St.cas | apply St.add | apply St.swing | apply St.swingA | apply St.swingM | apply St.drop1 | apply St.guard | apply St.next | apply St.lvl | apply St.dcas | apply St.dcss | apply St.gh | apply St.call | apply St.fin | apply St.s | apply St.pc | apply St.push | apply St.pop))
theorem iPut_St (x : Run) : St 12 x (iPut x) := by
  unfold iPut iDone; dsimp only
  repeat' split
  all_goals (with_reducible repeat' (first | apply St.refl | assumption | apply St.load | apply St.store | apply St.cas | apply St.add | apply St.swing | apply St.swingA | apply St.swingM | apply St.drop1 | apply St.guard | apply St.next | apply St.lvl | apply St.dcas | apply St.dcss | apply St.gh | apply St.call | apply St.fin | apply St.s | apply St.pc | apply St.push | apply St.pop))
theorem iStep_St (x : Run) : St 12 x (iStep x) := by
  unfold iStep
  try dsimp only
  repeat' split
  all_goals first | with_reducible exact iTake_St x | with_reducible exact iDrawing_St x | with_reducible exact iFind_St x | with_reducible exact iPut_St x | (with_reducible repeat' (first | apply St.refl | assumption | apply St.load | apply St.store | apply St.cas | apply St.add | apply St.swing | apply St.swingA | apply St.swingM | apply St.drop1 | apply St.guard | apply St.next | apply St.lvl | apply St.dcas | apply St.dcss | apply St.gh | apply St.call | apply St.fin | apply St.s | apply St.pc | apply St.push | apply St.pop))
theorem rLook_St (x : Run) : St 12 x (rLook x) := by
  unfold rLook; dsimp only
  repeat' split
  all_goals (with_reducible repeat' (first | apply St.refl | assumption | apply St.load | apply St.store | apply St.cas | apply St.add | apply St.swing | apply St.swingA | apply St.swingM | apply St.drop1 | apply St.guard | apply St.next | apply St.lvl | apply St.dcas | apply St.dcss | apply St.gh | apply St.call | apply St.fin | apply St.s | apply St.pc | apply St.push | apply St.pop))
theorem rStep_St (x : Run) : St 12 x (rStep x) := by
  unfold rStep; dsimp only
  repeat' split
  all_goals first | with_reducible exact rLook_St x | (with_reducible repeat' (first | apply St.refl | assumption | apply St.load | apply St.store | apply St.cas | apply St.add | apply St.swing | apply St.swingA | apply St.swingM | apply St.drop1 | apply St.guard | apply St.next | apply St.lvl | apply St.dcas | apply St.dcss | apply St.gh | apply St.call | apply St.fin | apply St.s | apply St.pc | apply St.push | apply St.pop))
theorem cWash_St (x : Run) : St 12 x (cWash x) := by
  unfold cWash; dsimp only
  repeat' split
  all_goals (with_reducible repeat' (first | apply St.refl | assumption | apply St.load | apply St.store | apply St.cas | apply St.add | apply St.swing | apply St.swingA | apply St.swingM | apply St.drop1 | apply St.guard | apply St.next | apply St.lvl | apply St.dcas | apply St.dcss | apply St.gh | apply St.call | apply St.fin | apply St.s | apply St.pc | apply St.push | apply St.pop))
theorem cHere_St (x : Run) : St 12 x (cHere x) := by
  unfold cHere; dsimp only
  repeat' split
  all_goals first | with_reducible exact cWash_St x | (with_reducible repeat' (first | apply St.refl | assumption | apply St.load | apply St.store | apply St.cas | apply St.add | apply St.swing | apply St.swingA | apply St.swingM | apply St.drop1 | apply St.guard | apply St.next | apply St.lvl | apply St.dcas | apply St.dcss | apply St.gh | apply St.call | apply St.fin | apply St.s | apply St.pc | apply St.push | apply St.pop))
theorem cChild_St (x : Run) (a : Nat) (i j : Int) : St 5 x (cChild x a i j) := by
  unfold cChild; dsimp only
  repeat' split
  all_goals (with_reducible repeat' (first | apply St.refl | assumption | apply St.load | apply St.store | apply St.cas | apply St.add | apply St.swing | apply St.swingA | apply St.swingM | apply St.drop1 | apply St.guard | apply St.next | apply St.lvl | apply St.dcas | apply St.dcss | apply St.gh | apply St.call | apply St.fin | apply St.s | apply St.pc | apply St.push | apply St.pop))
theorem cSwap_St (x : Run) (a : Nat) (j : Int) : St 12 x (cSwap x a j) := by
  unfold cSwap; dsimp only
  repeat' split
  all_goals (with_reducible repeat' (first | apply St.refl | assumption | apply St.load | apply St.store | apply St.cas | apply St.add | apply St.swing | apply St.swingA | apply St.swingM | apply St.drop1 | apply St.guard | apply St.next | apply St.lvl | apply St.dcas | apply St.dcss | apply St.gh | apply St.call | apply St.fin | apply St.s | apply St.pc | apply St.push | apply St.pop))
theorem cStep_St (x : Run) : St 12 x (cStep x) := by
  unfold cStep; dsimp only
  repeat' split
  all_goals first | with_reducible exact St.up (k := 7) (cChild_St _ _ _ _) | with_reducible exact St.up (k := 5) (St.call (cChild_St _ _ _ _)) | with_reducible exact cSwap_St _ _ _ | with_reducible exact cWash_St x | with_reducible exact cHere_St x | (with_reducible repeat' (first | apply St.refl | assumption | apply St.load | apply St.store | apply St.cas | apply St.add | apply St.swing | apply St.swingA | apply St.swingM | apply St.drop1 | apply St.guard | apply St.next | apply St.lvl | apply St.dcas | apply St.dcss | apply St.gh | apply St.call | apply St.fin | apply St.s | apply St.pc | apply St.push | apply St.pop))
theorem moundDo_St (x : Run) : St 12 x (moundDo x) := by
  unfold moundDo
  try dsimp only
  repeat' split
  all_goals first | with_reducible exact mRead_St x | with_reducible exact iStep_St x | with_reducible exact rStep_St x | with_reducible exact cStep_St x | with_reducible exact hazardDo_St x | (with_reducible repeat' (first | apply St.refl | assumption | apply St.load | apply St.store | apply St.cas | apply St.add | apply St.swing | apply St.swingA | apply St.swingM | apply St.drop1 | apply St.guard | apply St.next | apply St.lvl | apply St.dcas | apply St.dcss | apply St.gh | apply St.call | apply St.fin | apply St.s | apply St.pc | apply St.push | apply St.pop))
end Go.Proofs.YtglgifgoojncpaaGreat.Mod
end
namespace Go.Proofs.YtglgifgoojncpaaGreat
section
open Mod
structure Rest (Q : Frm → Prop) (x : Run) : Prop where
  a : ∀ f ∈ x.t.fr.dropLast, Q f
structure AllF (Q : Frm → Prop) (x : Run) : Prop where
  a : ∀ f ∈ x.t.fr, Q f
section
variable {Q : Frm → Prop} {x : Run}
theorem AllF.rest (h : AllF Q x) : Rest Q x := ⟨fun f hf => h.a f (List.dropLast_subset _ hf)⟩
theorem AllF.top (h : AllF Q x) (hne : x.t.fr ≠ []) : Q x.f := by
  have e : x.f = x.t.fr.getLast hne := by
    show x.t.fr.getLast?.getD dfF = _
    rw [List.getLast?_eq_some_getLast hne]
    rfl
  rw [e]
  exact h.a _ (List.getLast_mem hne)
theorem Rest.setF {f : Frm} (h : Rest Q x) : Rest Q (x.setF f) := by
  constructor
  intro g hg
  have hg : g ∈ (x.t.fr.dropLast ++ [f]).dropLast := hg
  rw [List.dropLast_append_of_ne_nil (by simp)] at hg
  simp at hg
  exact h.a g hg
theorem Rest.s {i : Nat} {v : Int} (h : Rest Q x) : Rest Q (x.s i v) := h.setF
theorem Rest.pc {i : Int} (h : Rest Q x) : Rest Q (x.pc i) := h.setF
theorem Rest.m {m : Mac} (h : Rest Q x) : Rest Q { x with m := m } := ⟨h.a⟩
theorem Lo.rest {y : Run} (h : Lo x y) (r : Rest Q x) : Rest Q y := by
  induction h with
  | refl => exact r
  | s _ ih => exact ih.s
  | pc _ ih => exact ih.pc
  | _ => rename_i ih; exact ⟨ih.a⟩
theorem Rest.all {f : Frm} (h : Rest Q x) (hf : Q f) : AllF Q (x.setF f) := by
  constructor
  intro g hg
  have hg : g ∈ x.t.fr.dropLast ++ [f] := hg
  rcases List.mem_append.1 hg with h1 | h1
  · exact h.a g h1
  · rw [List.mem_singleton.1 h1]; exact hf
theorem Rest.allPc {i : Int} (h : Rest Q x) (hf : Q (x.f.at i)) : AllF Q (x.pc i) := h.all hf
theorem Rest.allS {i : Nat} {v : Int} (h : Rest Q x) (hf : Q (x.f.s i v)) : AllF Q (x.s i v) := h.all hf
theorem Rest.pop {r : List Int} (h : Rest Q x) : AllF Q (x.pop r) := by
  constructor
  intro g hg
  have hg : g ∈ (x.t.pop r).fr := hg
  unfold Thr.pop at hg
  split at hg
  · rename_i e; rw [e] at hg; cases hg
  · exact h.a g hg
theorem AllF.push {i : Int} {r : List Int} (h : AllF Q x) (hf : Q ⟨i, 0, pad 10 r⟩) : AllF Q (x.push i r) := by
  constructor
  intro g hg
  have hg : g ∈ x.t.fr ++ [⟨i, 0, pad 10 r⟩] := hg
  rcases List.mem_append.1 hg with h1 | h1
  · exact h.a g h1
  · rw [List.mem_singleton.1 h1]; exact hf
theorem Rest.call {i j : Int} {r : List Int} (h : Rest Q x) (hf : Q (x.f.at i)) (hg : Q ⟨j, 0, pad 10 r⟩) : AllF Q (x.call i j r) := AllF.push (h.allPc hf) hg
theorem Rest.fin {i j k : Int} (h : Rest Q x) (hf : Q ((((x.f.s 7 i).s 8 j).s 9 k).at 90)) (hg : Q ⟨4, 0, pad 10 []⟩) : AllF Q (x.fin i j k) := by
  unfold Run.fin
  refine Rest.call (by (focus (refine Lo.rest ?_ (by assumption); (with_reducible repeat' constructor)))) ?_ hg
  rw [f_s, f_s, f_s]
  exact hf
theorem AllF.load {a : Int} (h : AllF Q x) : AllF Q (x.load a).2 := ⟨h.a⟩
theorem AllF.store {a v : Int} (h : AllF Q x) : AllF Q (x.store a v) := ⟨h.a⟩
theorem AllF.cas {a o n : Int} (h : AllF Q x) : AllF Q (x.cas a o n).2 := ⟨h.a⟩
theorem AllF.add {a v : Int} (h : AllF Q x) : AllF Q (x.add a v).2 := ⟨h.a⟩
theorem AllF.swing {a v w : Int} {b : Bool} (h : AllF Q x) : AllF Q (x.swing a v w b).2 := ⟨h.a⟩
theorem AllF.swingA {a v w : Int} (h : AllF Q x) : AllF Q (x.swingA a v w).2 := ⟨h.a⟩
theorem AllF.swingM {a v w : Int} {b : Bool} (h : AllF Q x) : AllF Q (x.swingM a v w b).2 := ⟨h.a⟩
theorem AllF.drop1 {a : Int} (h : AllF Q x) : AllF Q (x.drop1 a).2 := ⟨h.a⟩
theorem AllF.guard {a v : Int} (h : AllF Q x) : AllF Q (x.guard a v) := ⟨h.a⟩
theorem AllF.gh {f : Gh → Gh} (h : AllF Q x) : AllF Q (x.gh f) := ⟨h.a⟩
theorem AllF.fo {l : List Int} (h : AllF Q x) : AllF Q (x.fo l) := ⟨h.a⟩
theorem AllF.re {l : List Int} (h : AllF Q x) : AllF Q (x.re l) := ⟨h.a⟩
theorem AllF.setPl {p s w : List Int} (h : AllF Q x) : AllF Q (x.setPl p s w) := ⟨h.a⟩
theorem AllF.m {m : Mac} (h : AllF Q x) : AllF Q { x with m := m } := ⟨h.a⟩
end
theorem at_len (f : Frm) (i : Int) : (f.at i).r.length = f.r.length := rfl
theorem s_len (f : Frm) (i : Nat) (v : Int) : (f.s i v).r.length = f.r.length := by unfold Frm.s; simp
def HzOk (sl th : Int) (f : Frm) : Prop := f.r.length = 10 ∧ ((f.fn = 1 ∨ f.fn = 2 ∨ f.fn = 3) ∧ 0 ≤ f.pc ∧ f.pc ≤ 2 ∨ f.fn = 4 ∧ 0 ≤ f.pc ∧ f.pc ≤ sl ∨ f.fn = 5 ∧ f.pc = 0 ∨ f.fn = 6 ∧ 0 ≤ f.pc ∧ f.pc ≤ sl * th + 1)
section
variable {Q : Frm → Prop} {x : Run} {sl th : Int}
theorem alloc_All (hQ : ∀ f, HzOk sl th f → Q f) (h : AllF Q x) (o : HzOk sl th x.f) (e : x.f.fn = 1) : AllF Q (alloc x) := by
  have r := h.rest
  obtain ⟨len, o2⟩ := o
  unfold alloc; dsimp only
  repeat' split
  all_goals ((repeat (with_reducible first | apply AllF.load | apply AllF.store | apply AllF.cas | apply AllF.add | apply AllF.swing | apply AllF.swingA | apply AllF.swingM | apply AllF.drop1 | apply AllF.guard | apply AllF.gh | apply AllF.fo | apply AllF.re | apply AllF.setPl)); first | with_reducible assumption | ((with_reducible first | apply Rest.pop | apply Rest.call | apply Rest.allPc | apply Rest.allS | apply Rest.fin); (focus (refine Lo.rest ?_ (by assumption); (with_reducible repeat' constructor)))))
  all_goals (refine hQ _ ?_; ((try simp only [f_pc, f_s, f_load, f_store, f_cas, f_add, f_gh]); unfold HzOk; (try simp only [fn_at, fn_s, pc_at, pc_s, at_len, s_len]); omega))
theorem release_All (hQ : ∀ f, HzOk sl th f → Q f) (h : AllF Q x) (o : HzOk sl th x.f) (e : x.f.fn = 2) : AllF Q (release x) := by
  have r := h.rest
  obtain ⟨len, o2⟩ := o
  unfold release; dsimp only
  repeat' split
  all_goals ((repeat (with_reducible first | apply AllF.load | apply AllF.store | apply AllF.cas | apply AllF.add | apply AllF.swing | apply AllF.swingA | apply AllF.swingM | apply AllF.drop1 | apply AllF.guard | apply AllF.gh | apply AllF.fo | apply AllF.re | apply AllF.setPl)); first | with_reducible assumption | ((with_reducible first | apply Rest.pop | apply Rest.call | apply Rest.allPc | apply Rest.allS | apply Rest.fin); (focus (refine Lo.rest ?_ (by assumption); (with_reducible repeat' constructor)))))
  all_goals (refine hQ _ ?_; ((try simp only [f_pc, f_s, f_load, f_store, f_cas, f_add, f_gh]); unfold HzOk; (try simp only [fn_at, fn_s, pc_at, pc_s, at_len, s_len]); omega))
theorem protect_All (hQ : ∀ f, HzOk sl th f → Q f) (h : AllF Q x) (o : HzOk sl th x.f) (e : x.f.fn = 3) : AllF Q (protect x) := by
  have r := h.rest
  obtain ⟨len, o2⟩ := o
  unfold protect; dsimp only
  repeat' split
  all_goals ((repeat (with_reducible first | apply AllF.load | apply AllF.store | apply AllF.cas | apply AllF.add | apply AllF.swing | apply AllF.swingA | apply AllF.swingM | apply AllF.drop1 | apply AllF.guard | apply AllF.gh | apply AllF.fo | apply AllF.re | apply AllF.setPl)); first | with_reducible assumption | ((with_reducible first | apply Rest.pop | apply Rest.call | apply Rest.allPc | apply Rest.allS | apply Rest.fin); (focus (refine Lo.rest ?_ (by assumption); (with_reducible repeat' constructor)))))
  all_goals (refine hQ _ ?_; ((try simp only [f_pc, f_s, f_load, f_store, f_cas, f_add, f_gh]); unfold HzOk; (try simp only [fn_at, fn_s, pc_at, pc_s, at_len, s_len]); omega))
theorem wipe_All (hQ : ∀ f, HzOk sl th f → Q f) (h : AllF Q x) (hs : sl = x.m.p.slots) (o : HzOk sl th x.f) (e : x.f.fn = 4) : AllF Q (wipe x) := by
  have r := h.rest
  obtain ⟨len, o2⟩ := o
  unfold wipe; dsimp only
  repeat' split
  all_goals ((repeat (with_reducible first | apply AllF.load | apply AllF.store | apply AllF.cas | apply AllF.add | apply AllF.swing | apply AllF.swingA | apply AllF.swingM | apply AllF.drop1 | apply AllF.guard | apply AllF.gh | apply AllF.fo | apply AllF.re | apply AllF.setPl)); first | with_reducible assumption | ((with_reducible first | apply Rest.pop | apply Rest.call | apply Rest.allPc | apply Rest.allS | apply Rest.fin); (focus (refine Lo.rest ?_ (by assumption); (with_reducible repeat' constructor)))))
  all_goals (refine hQ _ ?_; ((try simp only [f_pc, f_s, f_load, f_store, f_cas, f_add, f_gh]); unfold HzOk; (try simp only [fn_at, fn_s, pc_at, pc_s, at_len, s_len]); omega))
theorem hz_new {fn : Int} {l : List Int} (h : 1 ≤ fn ∧ fn ≤ 6) (hs : 0 ≤ sl) (ht : 0 ≤ sl * th) : HzOk sl th ⟨fn, 0, pad 10 l⟩ := by
  refine ⟨pad_len _ _, ?_⟩
  dsimp only
  omega
theorem retire_All (hQ : ∀ f, HzOk sl th f → Q f) (h : AllF Q x) (hs : 0 ≤ sl) (ht : 0 ≤ sl * th) : AllF Q (retire x) := by
  have r := h.rest
  unfold retire; dsimp only
  split
  · refine AllF.push ?_ (hQ _ (hz_new (by omega) hs ht))
    ((repeat (with_reducible first | apply AllF.load | apply AllF.store | apply AllF.cas | apply AllF.add | apply AllF.swing | apply AllF.swingA | apply AllF.swingM | apply AllF.drop1 | apply AllF.guard | apply AllF.gh | apply AllF.fo | apply AllF.re | apply AllF.setPl)); first | with_reducible assumption | ((with_reducible first | apply Rest.pop | apply Rest.call | apply Rest.allPc | apply Rest.allS | apply Rest.fin); (focus (refine Lo.rest ?_ (by assumption); (with_reducible repeat' constructor)))))
  · ((repeat (with_reducible first | apply AllF.load | apply AllF.store | apply AllF.cas | apply AllF.add | apply AllF.swing | apply AllF.swingA | apply AllF.swingM | apply AllF.drop1 | apply AllF.guard | apply AllF.gh | apply AllF.fo | apply AllF.re | apply AllF.setPl)); first | with_reducible assumption | ((with_reducible first | apply Rest.pop | apply Rest.call | apply Rest.allPc | apply Rest.allS | apply Rest.fin); (focus (refine Lo.rest ?_ (by assumption); (with_reducible repeat' constructor)))))
theorem scanA_All (hQ : ∀ f, HzOk sl th f → Q f) (h : AllF Q x) {all : Int} (ha : all = sl * th) (h0 : 0 ≤ all) (o : HzOk sl th x.f) (e : x.f.fn = 6) : AllF Q (scanA x all) := by
  have r := h.rest
  obtain ⟨len, o2⟩ := o
  unfold scanA
  split
  · refine Rest.allPc (by (focus (refine Lo.rest ?_ (by assumption); (with_reducible repeat' constructor)))) (hQ _ ?_)
    show HzOk sl th (x.f.at (x.f.pc + 1))
    ((try simp only [f_pc, f_s, f_load, f_store, f_cas, f_add, f_gh]); unfold HzOk; (try simp only [fn_at, fn_s, pc_at, pc_s, at_len, s_len]); omega)
  · exact h
theorem scanB_All (hQ : ∀ f, HzOk sl th f → Q f) (h : AllF Q x) (hs : 0 ≤ sl) (ht : 0 ≤ sl * th) : AllF Q (scanB x) := by
  have r := h.rest
  unfold scanB
  split
  · ((repeat (with_reducible first | apply AllF.load | apply AllF.store | apply AllF.cas | apply AllF.add | apply AllF.swing | apply AllF.swingA | apply AllF.swingM | apply AllF.drop1 | apply AllF.guard | apply AllF.gh | apply AllF.fo | apply AllF.re | apply AllF.setPl)); first | with_reducible assumption | ((with_reducible first | apply Rest.pop | apply Rest.call | apply Rest.allPc | apply Rest.allS | apply Rest.fin); (focus (refine Lo.rest ?_ (by assumption); (with_reducible repeat' constructor)))))
  · refine AllF.push ?_ (hQ _ (hz_new (by omega) hs ht))
    exact h.fo
theorem scan_All (hQ : ∀ f, HzOk sl th f → Q f) (h : AllF Q x) (hs : sl = x.m.p.slots) (ht : th = x.m.p.c.threads) (s0 : 0 ≤ sl) (t0 : 0 ≤ sl * th) (o : HzOk sl th x.f) (e : x.f.fn = 6) : AllF Q (scan x) := by
  have hy : AllF Q (if x.f.pc = 0 then x.fo [] else x) ∧ (if x.f.pc = 0 then x.fo [] else x).f = x.f := by
    split
    · exact ⟨h.fo, rfl⟩
    · exact ⟨h, rfl⟩
  unfold scan
  dsimp only
  generalize (if x.f.pc = 0 then x.fo [] else x) = y at *
  obtain ⟨h2, ef⟩ := hy
  have r := h2.rest
  rw [← hs, ← ht]
  split
  · rename_i c
    obtain ⟨len, o2⟩ := o
    refine Rest.allPc (by (focus (refine Lo.rest ?_ (by assumption); (with_reducible repeat' constructor)))) (hQ _ ?_)
    show HzOk sl th (y.f.at (y.f.pc + 1))
    rw [ef] at c ⊢
    ((try simp only [f_pc, f_s, f_load, f_store, f_cas, f_add, f_gh]); unfold HzOk; (try simp only [fn_at, fn_s, pc_at, pc_s, at_len, s_len]); omega)
  · rename_i c
    exact scanB_All hQ (scanA_All hQ h2 rfl t0 (by rw [ef]; exact o) (by rw [ef]; exact e)) s0 t0
theorem arenaDo_All (hQ : ∀ f, HzOk sl th f → Q f) (h : AllF Q x) (o : HzOk sl th x.f) : AllF Q (arenaDo x) := by
  have r := h.rest
  unfold arenaDo
  split
  · exact h
  split
  · exact alloc_All hQ h o (by assumption)
  split
  · exact release_All hQ h o (by assumption)
  · ((repeat (with_reducible first | apply AllF.load | apply AllF.store | apply AllF.cas | apply AllF.add | apply AllF.swing | apply AllF.swingA | apply AllF.swingM | apply AllF.drop1 | apply AllF.guard | apply AllF.gh | apply AllF.fo | apply AllF.re | apply AllF.setPl)); first | with_reducible assumption | ((with_reducible first | apply Rest.pop | apply Rest.call | apply Rest.allPc | apply Rest.allS | apply Rest.fin); (focus (refine Lo.rest ?_ (by assumption); (with_reducible repeat' constructor)))))
theorem hazardDo_All (hQ : ∀ f, HzOk sl th f → Q f) (h : AllF Q x) (hs : sl = x.m.p.slots) (ht : th = x.m.p.c.threads) (s0 : 0 ≤ sl) (t0 : 0 ≤ sl * th) (o : HzOk sl th x.f) : AllF Q (hazardDo x) := by
  unfold hazardDo
  split
  · exact h
  split
  · exact protect_All hQ h o (by assumption)
  split
  · exact wipe_All hQ h hs o (by assumption)
  split
  · exact retire_All hQ h s0 t0
  split
  · exact scan_All hQ h hs ht s0 t0 o (by assumption)
  · exact arenaDo_All hQ h o
end
end
section
open Mod
def fA (sl th fn pc : Int) : Bool :=
  if fn = 4 then decide (pc < sl) else if fn = 5 then false else if fn = 6 then decide (pc < sl * th)
  else if fn = 10 then decide (pc = 0) else if fn = 14 then decide (pc ≠ 1) else if fn = 35 then decide (pc = 0) else if fn = 36 then decide (pc ≠ 1)
  else decide (pc ≠ 90)
def fW (fn pc : Int) : Nat :=
  if fn = 5 then 3 else if fn = 6 then 2
  else if fn = 20 then (if pc = 0 then 2 else 1)
  else if fn = 21 then (if pc = 17 then 6 else if pc = 8 ∨ pc = 1 ∨ pc = 12 then 3 else 2)
  else if fn = 22 ∨ fn = 23 then (if pc = 12 then 6 else if pc = 1 ∨ pc = 7 then 3 else 2)
  else if fn = 10 then (if pc = 0 then 2 else 1)
  else if fn = 11 then (if pc = 6 then 6 else if pc = 7 ∨ pc = 9 then 5 else if pc = 8 then 4 else if pc = 1 ∨ pc = 5 ∨ pc = 10 ∨ pc = 11 ∨ pc = 13 ∨ pc = 14 then 3 else 2)
  else if fn = 12 ∨ fn = 13 then (if pc = 6 then 6 else if pc = 1 then 4 else if pc = 0 then 3 else 2)
  else if fn = 14 then (if pc = 5 ∨ pc = 6 then 4 else if pc = 0 ∨ pc = 1 ∨ pc = 4 then 3 else 2)
  else if fn = 31 then (if pc = 16 then 4 else if pc = 1 ∨ pc = 7 ∨ pc = 11 ∨ pc = 12 then 3 else 2)
  else if fn = 32 ∨ fn = 33 then (if pc = 5 then 4 else if pc = 2 ∨ pc = 6 ∨ pc = 12 ∨ pc = 13 then 3 else 2)
  else if fn = 34 then (if pc = 2 ∨ pc = 4 then 3 else 2)
  else if fn = 35 then (if pc = 2 then 6 else 2)
  else if fn = 36 then (if pc = 4 then 3 else 2)
  else 1
def fR (fn : Int) : Nat := if fn ≤ 4 then 0 else if fn ≤ 6 then 1 else if fn = 10 then 2 else if fn = 14 ∨ fn = 35 then 3 else 4
theorem fR_le (fn : Int) : fR fn ≤ 4 := by unfold fR; repeat' split
                                           all_goals omega
theorem ite_rng {c : Prop} [Decidable c] {a b : Nat} (ha : 1 ≤ a ∧ a ≤ 6) (hb : 1 ≤ b ∧ b ≤ 6) : 1 ≤ (if c then a else b) ∧ (if c then a else b) ≤ 6 := by
  split
  · exact ha
  · exact hb
theorem fW_rng (fn pc : Int) : 1 ≤ fW fn pc ∧ fW fn pc ≤ 6 := by
  unfold fW
  repeat' (first | with_reducible apply ite_rng | exact ⟨by decide, by decide⟩)
section
variable (sl th : Int)
def muL : List Frm → Nat
  | [] => 0
  | f :: l => fW f.fn f.pc + if fA sl th f.fn f.pc = true then 0 else muL l
def onR (fn : Int) : List Frm → Prop
  | [] => True
  | f :: _ => fA sl th f.fn f.pc = true ∨ fR fn < fR f.fn
def adjL : List Frm → Prop
  | [] => True
  | f :: l => onR sl th f.fn l ∧ adjL l
theorem muL_le : ∀ {l : List Frm} {fn : Int}, onR sl th fn l → adjL sl th l → muL sl th l ≤ 6 * (5 - fR fn)
  | [], _, _, _ => Nat.zero_le _
  | f :: l, fn, h1, h2 => by
    unfold muL
    have hw := (fW_rng f.fn f.pc).2
    have hr := fR_le fn
    have hr2 := fR_le f.fn
    split
    · omega
    · rename_i c
      rcases h1 with h1 | h1
      · exact absurd h1 c
      · have ih := muL_le h2.1 h2.2
        omega
def rst (x : Run) : List Frm := x.t.fr.dropLast.reverse
def mu (x : Run) : Nat := muL sl th x.t.fr.reverse
structure Adj (x : Run) : Prop where
  a : adjL sl th x.t.fr.reverse
structure AdjR (fn : Int) (l : List Frm) (x : Run) : Prop where
  f : x.f.fn = fn
  e : rst x = l
  o : onR sl th fn l
  a : adjL sl th l
end
section
variable {sl th : Int} {x y : Run} {fn : Int} {l : List Frm}
theorem fr_rev (h : x.t.fr ≠ []) : x.t.fr.reverse = x.f :: rst x := by
  conv => lhs; rw [fr_split h]
  simp [rst, Run.f]
theorem Adj.r (h : Adj sl th x) (hne : x.t.fr ≠ []) : AdjR sl th x.f.fn (rst x) x := by
  have h := h.a
  rw [fr_rev hne] at h
  exact ⟨rfl, rfl, h.1, h.2⟩
theorem rst_setF (x : Run) (f : Frm) : rst (x.setF f) = rst x := by
  show (x.t.fr.dropLast ++ [f]).dropLast.reverse = _
  rw [List.dropLast_append_of_ne_nil (by simp)]
  simp [rst]
theorem AdjR.setF {f : Frm} (h : AdjR sl th fn l x) (hf : f.fn = fn) : AdjR sl th fn l (x.setF f) := ⟨by rw [f_setF]; exact hf, by rw [rst_setF]; exact h.e, h.o, h.a⟩
theorem AdjR.s {i : Nat} {v : Int} (h : AdjR sl th fn l x) : AdjR sl th fn l (x.s i v) := h.setF h.f
theorem AdjR.pc {i : Int} (h : AdjR sl th fn l x) : AdjR sl th fn l (x.pc i) := h.setF h.f
theorem AdjR.gh {f : Gh → Gh} (h : AdjR sl th fn l x) : AdjR sl th fn l (x.gh f) := ⟨h.f, h.e, h.o, h.a⟩
theorem AdjR.fo {k : List Int} (h : AdjR sl th fn l x) : AdjR sl th fn l (x.fo k) := ⟨h.f, h.e, h.o, h.a⟩
theorem AdjR.re {k : List Int} (h : AdjR sl th fn l x) : AdjR sl th fn l (x.re k) := ⟨h.f, h.e, h.o, h.a⟩
theorem AdjR.all (h : AdjR sl th fn l x) (hne : x.t.fr ≠ []) : Adj sl th x := by
  constructor
  rw [fr_rev hne]
  exact ⟨by rw [h.f, h.e]; exact h.o, by rw [h.e]; exact h.a⟩
theorem ne_setF (x : Run) (f : Frm) : (x.setF f).t.fr ≠ [] := by
  show x.t.fr.dropLast ++ [f] ≠ []
  simp
theorem Lo.adjR (h : Lo x y) (r : AdjR sl th fn l x) : AdjR sl th fn l y := by
  induction h with
  | refl => exact r
  | s _ ih => exact ih.s
  | pc _ ih => exact ih.pc
  | _ => rename_i ih; exact ⟨ih.f, ih.e, ih.o, ih.a⟩
theorem Lo.ne (h : Lo x y) (r : x.t.fr ≠ []) : y.t.fr ≠ [] := by
  induction h with
  | refl => exact r
  | s _ ih => exact ne_setF _ _
  | pc _ ih => exact ne_setF _ _
  | _ => rename_i ih; exact ih
theorem AdjR.allPc {i : Int} (h : AdjR sl th fn l x) : Adj sl th (x.pc i) := h.pc.all (ne_setF _ _)
theorem AdjR.allS {i : Nat} {v : Int} (h : AdjR sl th fn l x) : Adj sl th (x.s i v) := h.s.all (ne_setF _ _)
theorem AdjR.pop {r : List Int} (h : AdjR sl th fn l x) : Adj sl th (x.pop r) := by
  constructor
  show adjL sl th (x.t.pop r).fr.reverse
  unfold Thr.pop
  split
  · rename_i e; rw [e]; trivial
  · show adjL sl th (rst x)
    rw [h.e]; exact h.a
theorem Adj.push {i : Int} {r : List Int} (h : Adj sl th x) (ho : onR sl th i x.t.fr.reverse) : Adj sl th (x.push i r) := by
  constructor
  show adjL sl th (x.t.fr ++ [(⟨i, 0, pad 10 r⟩ : Frm)]).reverse
  rw [List.reverse_append]
  show adjL sl th (⟨i, 0, pad 10 r⟩ :: x.t.fr.reverse)
  exact ⟨ho, h.a⟩
theorem AdjR.call {i j : Int} {r : List Int} (h : AdjR sl th fn l x) (hd : fA sl th fn i = true ∨ fR j < fR fn) : Adj sl th (x.call i j r) := by
  refine Adj.push h.allPc ?_
  rw [show (x.pc i).t.fr.reverse = (x.pc i).f :: rst (x.pc i) from fr_rev (ne_setF _ _)]
  show fA sl th (x.pc i).f.fn (x.pc i).f.pc = true ∨ _ < fR (x.pc i).f.fn
  rw [f_pc, fn_at, pc_at, h.f]
  exact hd
theorem AdjR.fin {i j k : Int} (h : AdjR sl th fn l x) (hd : fR 4 < fR fn) : Adj sl th (x.fin i j k) := by
  unfold Run.fin
  exact (h.s.s.s).call (.inr hd)
structure Act (x : Run) : Prop where
  a : x.m.acted = true
theorem acted_touch (m : Mac) (a : Int) : (m.touch a).acted = true := by unfold Mac.touch; split <;> rfl
theorem Act.load {a : Int} : Act (x.load a).2 := by
  constructor
  show (x.m.load a).2.acted = true
  unfold Mac.load; dsimp only
  split <;> exact acted_touch _ _
theorem Act.store {a v : Int} : Act (x.store a v) := by
  constructor
  show (x.m.store a v).acted = true
  unfold Mac.store; dsimp only
  split <;> exact acted_touch _ _
theorem Act.cas {a o v : Int} : Act (x.cas a o v).2 := by
  constructor
  show (x.m.cas a o v).2.acted = true
  unfold Mac.cas; dsimp only
  split <;> exact acted_touch _ _
theorem Act.add {a v : Int} : Act (x.add a v).2 := by
  constructor
  show (x.m.add a v).2.acted = true
  unfold Mac.add; dsimp only
  split <;> exact acted_touch _ _
theorem Act.swing {a v w : Int} {b : Bool} : Act (x.swing a v w b).2 := Act.cas
theorem Act.swingA {a v w : Int} : Act (x.swingA a v w).2 := Act.cas
theorem Act.swingM {a v w : Int} {b : Bool} : Act (x.swingM a v w b).2 := Act.cas
theorem Act.drop1 {a : Int} : Act (x.drop1 a).2 := Act.add
theorem Act.guard {a b : Int} : Act (x.guard a b) := Act.store
theorem Act.dcas {a o n b p q : Int} : Act { x with m := (x.m.dcas a o n b p q).2 } := by
  constructor
  show (x.m.dcas a o n b p q).2.acted = true
  unfold Mac.dcas; dsimp only
  split <;> exact acted_touch _ _
theorem Act.dcss {a o n b p : Int} : Act { x with m := (x.m.dcss a o n b p).2 } := by
  constructor
  show (x.m.dcss a o n b p).2.acted = true
  unfold Mac.dcss; dsimp only
  split <;> exact acted_touch _ _
theorem Act.next {n : Int} (h : Act x) : Act { x with m := (x.m.next n).2 } := by
  constructor
  show (x.m.next n).2.acted = true
  unfold Mac.next
  split <;> exact h.a
theorem Act.lvl {n : Int} (h : Act x) : Act { x with m := (x.m.lvl n).2 } := by
  constructor
  show (x.m.lvl n).2.acted = true
  unfold Mac.lvl
  split <;> exact h.a
theorem Tch.act (h : Tch x) : Act x := by
  induction h with
  | load => exact Act.load
  | store => exact Act.store
  | cas => exact Act.cas
  | add => exact Act.add
  | swing => exact Act.swing
  | swingA => exact Act.swingA
  | swingM => exact Act.swingM
  | drop1 => exact Act.drop1
  | guard => exact Act.guard
  | dcas => exact Act.dcas
  | dcss => exact Act.dcss
  | next _ ih => exact ih.next
  | lvl _ ih => exact ih.lvl
  | _ => rename_i ih; exact ⟨ih.a⟩
theorem mu_top (h : x.t.fr ≠ []) : mu sl th x = fW x.f.fn x.f.pc + if fA sl th x.f.fn x.f.pc = true then 0 else muL sl th (rst x) := by
  unfold mu
  rw [fr_rev h]
  rfl
theorem mu_push (x : Run) (i : Int) (r : List Int) : mu sl th (x.push i r) = fW i 0 + if fA sl th i 0 = true then 0 else mu sl th x := by
  unfold mu
  show muL sl th (x.t.fr ++ [(⟨i, 0, pad 10 r⟩ : Frm)]).reverse = _
  rw [List.reverse_append]
  rfl
theorem mu_pop (r : List Int) (h : x.t.fr ≠ []) : mu sl th (x.pop r) = muL sl th (rst x) := by
  unfold mu
  show muL sl th (x.t.pop r).fr.reverse = _
  unfold Thr.pop
  rw [if_neg h]
  rfl
section
variable {x0 : Run} {pc0 : Int}
theorem AdjR.mu (h0 : AdjR sl th fn l x0) (hne : x0.t.fr ≠ []) (hp : x0.f.pc = pc0) : mu sl th x0 = fW fn pc0 + if fA sl th fn pc0 = true then 0 else muL sl th l := by
  rw [mu_top hne, h0.f, h0.e, hp]
theorem AdjR.muPc (h : AdjR sl th fn l y) (i : Int) : Proofs.YtglgifgoojncpaaGreat.mu sl th (y.pc i) = fW fn i + if fA sl th fn i = true then 0 else muL sl th l :=
  h.pc.mu (ne_setF _ _) (by rw [f_pc]; rfl)
theorem AdjR.ltPc {i : Int} (h0 : AdjR sl th fn l x0) (hne : x0.t.fr ≠ []) (hp : x0.f.pc = pc0) (h : AdjR sl th fn l y)
    (hlt : (fW fn i + if fA sl th fn i = true then 0 else muL sl th l) < fW fn pc0 + if fA sl th fn pc0 = true then 0 else muL sl th l) : Proofs.YtglgifgoojncpaaGreat.mu sl th (y.pc i) < Proofs.YtglgifgoojncpaaGreat.mu sl th x0 := by
  rw [h0.mu hne hp, h.muPc]
  exact hlt
theorem AdjR.ltCall {i j : Int} {r : List Int} (h0 : AdjR sl th fn l x0) (hne : x0.t.fr ≠ []) (hp : x0.f.pc = pc0) (h : AdjR sl th fn l y)
    (hlt : (fW j 0 + if fA sl th j 0 = true then 0 else fW fn i + if fA sl th fn i = true then 0 else muL sl th l) < fW fn pc0 + if fA sl th fn pc0 = true then 0 else muL sl th l) : Proofs.YtglgifgoojncpaaGreat.mu sl th (y.call i j r) < Proofs.YtglgifgoojncpaaGreat.mu sl th x0 := by
  show Proofs.YtglgifgoojncpaaGreat.mu sl th ((y.pc i).push j r) < _
  rw [h0.mu hne hp, mu_push, h.muPc]
  exact hlt
theorem AdjR.ltFin {i j k : Int} (h0 : AdjR sl th fn l x0) (hne : x0.t.fr ≠ []) (hp : x0.f.pc = pc0) (h : AdjR sl th fn l y)
    (hlt : (fW 4 0 + if fA sl th 4 0 = true then 0 else fW fn 90 + if fA sl th fn 90 = true then 0 else muL sl th l) < fW fn pc0 + if fA sl th fn pc0 = true then 0 else muL sl th l) : Proofs.YtglgifgoojncpaaGreat.mu sl th (y.fin i j k) < Proofs.YtglgifgoojncpaaGreat.mu sl th x0 :=
  h0.ltCall hne hp (h.s.s.s) hlt
theorem AdjR.ltPop {r : List Int} (h0 : AdjR sl th fn l x0) (hne : x0.t.fr ≠ []) (hp : x0.f.pc = pc0) (h : AdjR sl th fn l y) (hny : y.t.fr ≠ [])
    (hlt : muL sl th l < fW fn pc0 + if fA sl th fn pc0 = true then 0 else muL sl th l) : Proofs.YtglgifgoojncpaaGreat.mu sl th (y.pop r) < Proofs.YtglgifgoojncpaaGreat.mu sl th x0 := by
  rw [h0.mu hne hp, mu_pop r hny, h.e]
  exact hlt
end
def Nx (sl th : Int) (x y : Run) : Prop := Adj sl th y ∧ (Act y ∨ mu sl th y < mu sl th x)
end
end
section
open Mod
structure RunOk (Q : Mod.Cf → Frm → Prop) (c : Mod.Cf) (x : Run) (B : Nat) : Prop where
  p : x.m.p = planOf c
  q : AllF (Q c) x
  a : Adj (planOf c).slots c.threads x
  pr : (x.t.pred.length : Int) = c.level
  su : (x.t.succ.length : Int) = c.level
  wo : (x.t.word.length : Int) = c.level
  P : x.P ≤ B
structure DoOk (d : Run → Run) (Q : Mod.Cf → Frm → Prop) (W : Run → Prop) (ins : Int) : Prop where
  st : ∀ x, St 12 x (d x)
  all : ∀ c x, okC c = true → x.m.p = planOf c → x.t.fr ≠ [] → AllF (Q c) x → AllF (Q c) (d x)
  nx : ∀ c x, okC c = true → x.m.p = planOf c → x.t.fr ≠ [] → AllF (Q c) x → Adj (planOf c).slots c.threads x → Nx (planOf c).slots c.threads x (d x)
  w : ∀ c x B, okC c = true → RunOk Q c x B → B < 200000000 → x.t.fr ≠ [] → 0 ≤ x.id ∧ x.id ≤ 6 → W x
  new : ∀ c op l, okC c = true → 0 ≤ op ∧ op ≤ 2 → Q c ⟨ins + op, 0, pad 10 l⟩
section
variable {d : Run → Run} {Q : Mod.Cf → Frm → Prop} {W : Run → Prop} {ins : Int} {c : Mod.Cf}
theorem RunOk.mono {x : Run} {B C : Nat} (h : RunOk Q c x B) (hb : B ≤ C) : RunOk Q c x C := ⟨h.p, h.q, h.a, h.pr, h.su, h.wo, Nat.le_trans h.P hb⟩
theorem RunOk.bit (D : DoOk d Q W ins) (hc : okC c = true) {x : Run} {B : Nat} (h : RunOk Q c x B) (hne : x.t.fr ≠ []) : RunOk Q c (d x) (B + 24) ∧ Nx (planOf c).slots c.threads x (d x) := by
  have s := D.st x
  have f := s.fix
  have n := D.nx c x hc h.p hne h.q h.a
  have hP := s.P
  have := h.P
  exact ⟨⟨f.p.trans h.p, D.all c x hc h.p hne h.q, n.1, by rw [f.pr]; exact h.pr, by rw [f.su]; exact h.su, by rw [f.wo]; exact h.wo, by omega⟩, n⟩
theorem mu_le {sl th : Int} {x : Run} (h : Adj sl th x) : mu sl th x ≤ 36 := by
  by_cases hne : x.t.fr = []
  · unfold mu
    rw [hne]
    exact Nat.zero_le _
  · rw [mu_top hne]
    have r := h.r hne
    have h1 := muL_le sl th r.o r.a
    have h2 := (fW_rng x.f.fn x.f.pc).2
    split <;> omega
theorem bits_run (D : DoOk d Q W ins) (hc : okC c = true) : ∀ (n : Nat) (x : Run) (B : Nat), mu (planOf c).slots c.threads x ≤ n → RunOk Q c x B → B + 24 * (n + 1) < 200000000 → 0 ≤ x.id ∧ x.id ≤ 6 →
    ∃ k z, Mod.bits d k x = some z ∧ Safe d W k x ∧ Fix x z ∧ RunOk Q c z (B + 24 * (n + 1))
  | n, x, B, hm, h, hB, hid => by
    by_cases c0 : done x = true
    · refine ⟨0, x, ?_, trivial, ⟨rfl, rfl, rfl, rfl, rfl, rfl, rfl, rfl⟩, h.mono (by omega)⟩
      unfold Mod.bits
      unfold done at c0
      rw [if_pos c0]
    · have hne : x.t.fr ≠ [] := by
        intro e
        unfold done at c0
        rw [e] at c0
        simp at c0
      have hb : ∀ k, Mod.bits d (k + 1) x = Mod.bits d k (d x) := by
        intro k
        unfold done at c0
        conv => lhs; unfold Mod.bits
        rw [if_neg c0]
      obtain ⟨h1, n1⟩ := h.bit D hc hne
      have hw := D.w c x B hc h (by omega) hne hid
      have f := (D.st x).fix
      rcases n1.2 with a | lt
      · refine ⟨1, d x, ?_, .inr ⟨hw, trivial⟩, f, h1.mono (by omega)⟩
        rw [hb]
        unfold Mod.bits
        rw [a.a]
        rfl
      · cases n with
        | zero => omega
        | succ n =>
          obtain ⟨k, z, e1, e2, e3, e4⟩ := bits_run D hc n (d x) (B + 24) (by omega) h1 (by omega) (by rw [f.id]; exact hid)
          refine ⟨k + 1, z, by rw [hb]; exact e1, .inr ⟨hw, e2⟩, ⟨e3.p.trans f.p, e3.id.trans f.id, e3.th.trans f.th, e3.b.trans f.b, e3.w.trans f.w, e3.pr.trans f.pr, e3.su.trans f.su, e3.wo.trans f.wo⟩, e4.mono (by omega)⟩
structure ThrOk (Q : Mod.Cf → Frm → Prop) (c : Mod.Cf) (t : Thr) : Prop where
  q : ∀ f ∈ t.fr, Q c f
  a : adjL (planOf c).slots c.threads t.fr.reverse
  pr : (t.pred.length : Int) = c.level
  su : (t.succ.length : Int) = c.level
  wo : (t.word.length : Int) = c.level
def Mod.Thr.L (t : Thr) : Nat := t.retired.length + t.found.length + max t.fr.length 1
def sumL (l : List Thr) : Nat := (l.map Mod.Thr.L).sum
theorem sumL_set : ∀ {l : List Thr} {k : Nat} {t t' : Thr}, l[k]? = some t → sumL (l.set k t') + t.L = sumL l + t'.L
  | [], _, _, _, h => by simp at h
  | a :: l, 0, t, t', h => by
    simp only [List.getElem?_cons_zero, Option.some.injEq] at h
    subst h
    simp only [List.set_cons_zero, sumL, List.map_cons, List.sum_cons]
    omega
  | a :: l, k + 1, t, t', h => by
    simp only [List.getElem?_cons_succ] at h
    have ih := sumL_set (t' := t') h
    simp only [List.set_cons_succ, sumL, List.map_cons, List.sum_cons] at *
    omega
def Mod.Mac.T (m : Mac) : Nat := m.mm.st.toNat + m.used.toNat + sumL m.th
structure MacOk (Q : Mod.Cf → Frm → Prop) (c : Mod.Cf) (i : Nat) (m : Mac) : Prop where
  ok : okC c = true
  p : m.p = planOf c
  w : (m.mm.w.length : Int) = (planOf c).size
  n : m.th.length ≤ 6
  t : ∀ t ∈ m.th, ThrOk Q c t
  T : m.T ≤ 1000 * i + 2000
theorem MacOk.good (D : DoOk d Q W ins) : GoodI d W ins (MacOk Q c) where
  mono i m h := ⟨h.ok, h.p, h.w, h.n, h.t, Nat.le_trans h.T (by omega)⟩
  wd i m h := by
    have B := planOf_B h.ok
    have e : (m.mm.w.length : Int) = m.p.size := by rw [h.p]; exact h.w
    refine ⟨⟨by rw [h.p]; rfl, e⟩, ?_⟩
    have h1 := B.li
    have h2 := B.nd
    have h3 := B.tr
    have h4 := B.si
    rw [h.p] at e
    omega
  push i m k t cl h ht he ho hk hv := by
    have hm := List.mem_of_getElem? ht
    have o := h.t t hm
    refine ⟨h.ok, h.p, h.w, ?_, ?_, ?_⟩
    · show (m.th.set k _).length ≤ 6
      rw [List.length_set]; exact h.n
    · intro u hu
      rcases List.mem_or_eq_of_mem_set hu with hu | rfl
      · exact h.t u hu
      · refine ⟨?_, ?_, o.pr, o.su, o.wo⟩
        · intro f hf
          have hf : f ∈ t.fr ++ [⟨ins + cl.op, 0, pad 10 [cl.key, cl.val]⟩] := hf
          rw [he] at hf
          rw [List.mem_singleton.1 hf]
          exact D.new c cl.op _ h.ok ho
        · show adjL _ _ (t.fr ++ [(⟨ins + cl.op, 0, pad 10 [cl.key, cl.val]⟩ : Frm)]).reverse
          rw [he]
          exact ⟨trivial, trivial⟩
    · have e := sumL_set (t' := t.push (ins + cl.op) [cl.key, cl.val]) ht
      have e2 : (t.push (ins + cl.op) [cl.key, cl.val]).L = t.L := by
        show t.retired.length + t.found.length + max (t.fr ++ [_]).length 1 = t.retired.length + t.found.length + max t.fr.length 1
        rw [he]
        rfl
      have h2 : m.mm.st.toNat + m.used.toNat + sumL m.th ≤ 1000 * i + 2000 := h.T
      show m.mm.st.toNat + m.used.toNat + sumL (m.th.set k (t.push (ins + cl.op) [cl.key, cl.val])) ≤ _
      omega
  step i m k t h hi ht hne := by
    have hm := List.mem_of_getElem? ht
    have o := h.t t hm
    have hk := (List.getElem?_eq_some_iff.1 ht).1
    have hn := h.n
    have hL : 1 ≤ t.fr.length := List.length_pos_iff.2 hne
    have hT : m.mm.st.toNat + m.used.toNat + sumL m.th ≤ 1000 * i + 2000 := h.T
    have e0 := fun t' => sumL_set (t' := t') ht
    have e1 := e0 t
    have eT : t.L = t.retired.length + t.found.length + t.fr.length := by
      unfold Mod.Thr.L
      rw [Nat.max_eq_left hL]
    have hs : sumL (m.th.set k ⟨[], [], [], [], [], [], []⟩) + t.L = sumL m.th + 1 := e0 _
    have hR : RunOk Q c ⟨m.quiet, t, k⟩ (m.mm.st.toNat + m.used.toNat + t.L) := by
      refine ⟨h.p, ⟨o.q⟩, ⟨o.a⟩, o.pr, o.su, o.wo, ?_⟩
      show m.mm.st.toNat + m.used.toNat + t.retired.length + t.found.length + t.fr.length ≤ _
      omega
    obtain ⟨n, z, hb, hsf, f, hz⟩ := bits_run D h.ok 36 _ _ (mu_le hR.a) hR (by omega) ⟨by show (0 : Int) ≤ (k : Int); omega, by show (k : Int) ≤ 6; omega⟩
    refine ⟨n, z, hb, hsf, f.id, f.th, h.ok, ?_, ?_, ?_, ?_, ?_⟩
    · exact f.p.trans h.p
    · show (z.m.mm.w.length : Int) = _
      rw [f.w]
      exact h.w
    · show (m.th.set k z.t).length ≤ 6
      rw [List.length_set]; exact hn
    · intro u hu
      rcases List.mem_or_eq_of_mem_set hu with hu | rfl
      · exact h.t u hu
      · exact ⟨hz.q.a, hz.a.a, hz.pr, hz.su, hz.wo⟩
    · have e2 := e0 z.t
      have hP : z.m.mm.st.toNat + z.m.used.toNat + z.t.retired.length + z.t.found.length + z.t.fr.length ≤ _ := hz.P
      have hz2 : z.t.L ≤ z.t.retired.length + z.t.found.length + z.t.fr.length + 1 := by
        unfold Mod.Thr.L
        have : max z.t.fr.length 1 ≤ z.t.fr.length + 1 := Nat.max_le.2 ⟨by omega, by omega⟩
        omega
      show z.m.mm.st.toNat + z.m.used.toNat + sumL (m.th.set k z.t) ≤ _
      omega
theorem store_len (m : Mm) (a v : Int) : (m.store a v).w.length = m.w.length ∧ (m.store a v).st.toNat ≤ m.st.toNat + 1 := by
  unfold Mm.store
  split
  · exact ⟨by simp [Mm.tick, Mm.put], by show (m.st + 1).toNat ≤ _; omega⟩
  · exact ⟨rfl, by omega⟩
theorem stores_len (f : Nat → Int × Int) : ∀ (l : List Nat) (m : Mm), (l.foldl (fun (m : Mm) (i : Nat) => m.store (f i).1 (f i).2) m).w.length = m.w.length ∧ (l.foldl (fun (m : Mm) (i : Nat) => m.store (f i).1 (f i).2) m).st.toNat ≤ m.st.toNat + l.length
  | [], m => ⟨rfl, by simp⟩
  | i :: l, m => by
    have h1 := store_len m (f i).1 (f i).2
    have h2 := stores_len f l (m.store (f i).1 (f i).2)
    simp only [List.foldl_cons, List.length_cons]
    exact ⟨h2.1.trans h1.1, by omega⟩
theorem lay_len {c : Mod.Cf} (h : okC c = true) : ((lay (planOf c)).w.length : Int) = (planOf c).size ∧ (lay (planOf c)).st.toNat ≤ 200 := by
  have B := planOf_B h
  have b1 := B.no
  have b2 := B.lv
  have b3 := B.se
  have b4 := B.si
  have b5 := B.tr
  have b6 := B.nd
  have b7 := B.li
  unfold lay
  dsimp only
  generalize hm0 : (⟨List.replicate (planOf c).size.toNat 0, 0, false, []⟩ : Mm) = m0
  have h0 : (m0.w.length : Int) = (planOf c).size ∧ m0.st.toNat = 0 := by
    subst hm0
    exact ⟨by simp; omega, rfl⟩
  have h1 := store_len m0 0 (wpack ((planOf c).sent + 1) false 0)
  generalize m0.store 0 (wpack ((planOf c).sent + 1) false 0) = m1 at *
  have h2 := stores_len (fun i => ((planOf c).link ((planOf c).sent + 1 + i), (planOf c).sent + 1 + i + 1)) (List.range ((planOf c).c.nodes - ((planOf c).sent + 1)).toNat) m1
  rw [List.length_range] at h2
  generalize hm2 : (List.range ((planOf c).c.nodes - ((planOf c).sent + 1)).toNat).foldl (fun (m : Mm) (i : Nat) => m.store ((planOf c).link ((planOf c).sent + 1 + i)) ((planOf c).sent + 1 + i + 1)) m1 = m2
  have h2 : m2.w.length = m1.w.length ∧ m2.st.toNat ≤ m1.st.toNat + ((planOf c).c.nodes - ((planOf c).sent + 1)).toNat := by subst hm2; exact h2
  have h3 := store_len m2 2 1
  generalize m2.store 2 1 = m3 at *
  split
  · exact ⟨by omega, by omega⟩
  · have h4 := store_len m3 ((planOf c).node 1 3) (planOf c).c.level
    generalize m3.store ((planOf c).node 1 3) (planOf c).c.level = m4 at *
    have h5 := store_len m4 ((planOf c).node 2 0) 18446744073709551615
    generalize m4.store ((planOf c).node 2 0) 18446744073709551615 = m5 at *
    have h6 := stores_len (fun i => ((planOf c).node 1 (5 + i), wpack 2 false 0)) (List.range (planOf c).c.level.toNat) m5
    rw [List.length_range] at h6
    dsimp only at h6
    exact ⟨by omega, by omega⟩
theorem sumL_new (c : Mod.Cf) : ∀ n : Nat, sumL (List.replicate n (thr0 c)) = n
  | 0 => rfl
  | n + 1 => by
    have ih := sumL_new c n
    simp only [List.replicate_succ, sumL, List.map_cons, List.sum_cons] at *
    have : (thr0 c).L = 1 := rfl
    omega
theorem MacOk.new (hc : okC c = true) (b : List Int) (g : Bool) : MacOk Q c 0 (macNew c b g) := by
  have hl := lay_len hc
  have B := planOf_B hc
  have b1 : 1 ≤ c.threads ∧ c.threads ≤ 6 := B.th
  have b2 : 1 ≤ c.level ∧ c.level ≤ 6 := B.lv
  refine ⟨hc, rfl, hl.1, ?_, ?_, ?_⟩
  · show (List.replicate c.threads.toNat (thr0 c)).length ≤ 6
    rw [List.length_replicate]; omega
  · intro t ht
    have ht : t ∈ List.replicate c.threads.toNat (thr0 c) := ht
    rw [(List.mem_replicate.1 ht).2]
    refine ⟨fun f hf => (by cases hf), trivial, ?_, ?_, ?_⟩ <;> (show ((List.replicate c.level.toNat (0 : Int)).length : Int) = c.level; rw [List.length_replicate]; omega)
  · show (lay (planOf c)).st.toNat + (0 : Int).toNat + sumL (List.replicate c.threads.toNat (thr0 c)) ≤ _
    rw [sumL_new]
    have : (0 : Int).toNat = 0 := rfl
    omega
end
end
section
open Mod
section
variable {x : Run} {sl th : Int}
theorem alloc_Nx (hs : 0 < sl) (hne : x.t.fr ≠ []) (h : Adj sl th x) (e : x.f.fn = 1) : Nx sl th x (alloc x) := by
  have r := h.r hne
  rw [e] at r
  unfold alloc; dsimp only
  repeat' split
  all_goals (refine ⟨by ((with_reducible first | apply AdjR.pop | apply AdjR.allPc | apply AdjR.allS | apply AdjR.fin | apply AdjR.call | apply AdjR.all); (focus (refine Lo.adjR ?_ (by assumption); (with_reducible repeat' constructor))); try (first | decide | (refine .inr ?_; decide) | (refine .inl ?_; simp [fA]; done) | (refine Lo.ne ?_ hne; (with_reducible repeat' constructor)))), ?_⟩; first | (refine .inl ?_; (focus (refine Tch.act ?_; (with_reducible repeat' constructor))); done) | (refine .inr ?_; ((with_reducible first | apply AdjR.ltCall r hne | apply AdjR.ltFin r hne | apply AdjR.ltPc r hne | apply AdjR.ltPop r hne); assumption; (focus (refine Lo.adjR ?_ (by assumption); (with_reducible repeat' constructor))); try (first | assumption | exact ne_setF _ _)); simp +decide [fW, fA, hs]; first | done | omega))
theorem release_Nx (hs : 0 < sl) (hne : x.t.fr ≠ []) (h : Adj sl th x) (e : x.f.fn = 2) : Nx sl th x (release x) := by
  have r := h.r hne
  rw [e] at r
  unfold release; dsimp only
  repeat' split
  all_goals (refine ⟨by ((with_reducible first | apply AdjR.pop | apply AdjR.allPc | apply AdjR.allS | apply AdjR.fin | apply AdjR.call | apply AdjR.all); (focus (refine Lo.adjR ?_ (by assumption); (with_reducible repeat' constructor))); try (first | decide | (refine .inr ?_; decide) | (refine .inl ?_; simp [fA]; done) | (refine Lo.ne ?_ hne; (with_reducible repeat' constructor)))), ?_⟩; first | (refine .inl ?_; (focus (refine Tch.act ?_; (with_reducible repeat' constructor))); done) | (refine .inr ?_; ((with_reducible first | apply AdjR.ltCall r hne | apply AdjR.ltFin r hne | apply AdjR.ltPc r hne | apply AdjR.ltPop r hne); assumption; (focus (refine Lo.adjR ?_ (by assumption); (with_reducible repeat' constructor))); try (first | assumption | exact ne_setF _ _)); simp +decide [fW, fA, hs]; first | done | omega))
theorem protect_Nx (hs : 0 < sl) (hne : x.t.fr ≠ []) (h : Adj sl th x) (e : x.f.fn = 3) : Nx sl th x (protect x) := by
  have r := h.r hne
  rw [e] at r
  unfold protect; dsimp only
  repeat' split
  all_goals (refine ⟨by ((with_reducible first | apply AdjR.pop | apply AdjR.allPc | apply AdjR.allS | apply AdjR.fin | apply AdjR.call | apply AdjR.all); (focus (refine Lo.adjR ?_ (by assumption); (with_reducible repeat' constructor))); try (first | decide | (refine .inr ?_; decide) | (refine .inl ?_; simp [fA]; done) | (refine Lo.ne ?_ hne; (with_reducible repeat' constructor)))), ?_⟩; first | (refine .inl ?_; (focus (refine Tch.act ?_; (with_reducible repeat' constructor))); done) | (refine .inr ?_; ((with_reducible first | apply AdjR.ltCall r hne | apply AdjR.ltFin r hne | apply AdjR.ltPc r hne | apply AdjR.ltPop r hne); assumption; (focus (refine Lo.adjR ?_ (by assumption); (with_reducible repeat' constructor))); try (first | assumption | exact ne_setF _ _)); simp +decide [fW, fA, hs]; first | done | omega))
theorem wipe_Nx (hsl : sl = x.m.p.slots) (hs : 0 < sl) (hne : x.t.fr ≠ []) (h : Adj sl th x) (e : x.f.fn = 4) : Nx sl th x (wipe x) := by
  have r := h.r hne
  rw [e] at r
  unfold wipe; dsimp only
  split
  · rename_i c
    refine ⟨by ((with_reducible first | apply AdjR.pop | apply AdjR.allPc | apply AdjR.allS | apply AdjR.fin | apply AdjR.call | apply AdjR.all); (focus (refine Lo.adjR ?_ (by assumption); (with_reducible repeat' constructor))); try (first | decide | (refine .inr ?_; decide) | (refine .inl ?_; simp [fA]; done) | (refine Lo.ne ?_ hne; (with_reducible repeat' constructor)))), .inr (AdjR.ltPop r hne rfl r hne ?_)⟩
    have c2 : fA sl th 4 x.f.pc = false := by simp [fA]; omega
    rw [c2]
    simp [fW]
  · (refine ⟨by ((with_reducible first | apply AdjR.pop | apply AdjR.allPc | apply AdjR.allS | apply AdjR.fin | apply AdjR.call | apply AdjR.all); (focus (refine Lo.adjR ?_ (by assumption); (with_reducible repeat' constructor))); try (first | decide | (refine .inr ?_; decide) | (refine .inl ?_; simp [fA]; done) | (refine Lo.ne ?_ hne; (with_reducible repeat' constructor)))), ?_⟩; first | (refine .inl ?_; (focus (refine Tch.act ?_; (with_reducible repeat' constructor))); done) | (refine .inr ?_; ((with_reducible first | apply AdjR.ltCall r hne | apply AdjR.ltFin r hne | apply AdjR.ltPc r hne | apply AdjR.ltPop r hne); assumption; (focus (refine Lo.adjR ?_ (by assumption); (with_reducible repeat' constructor))); try (first | assumption | exact ne_setF _ _)); simp +decide [fW, fA, hs]; first | done | omega))
theorem pop_rev (y : Run) (r : List Int) (h : y.t.fr ≠ []) : (y.pop r).t.fr.reverse = rst y := by
  show (y.t.pop r).fr.reverse = _
  unfold Thr.pop
  rw [if_neg h]
  rfl
theorem retire_Nx (ha : 0 < sl * th) (hne : x.t.fr ≠ []) (h : Adj sl th x) (e : x.f.fn = 5) : Nx sl th x (retire x) := by
  have r := h.r hne
  rw [e] at r
  unfold retire; dsimp only
  generalize hz : ((x.gh fun g => g.turn (s64 (x.f.g 0)) 1 2 2).re ((x.gh fun g => g.turn (s64 (x.f.g 0)) 1 2 2).t.retired ++ [s64 (x.f.g 0)])) = z
  have hzn : z.t.fr ≠ [] := by subst hz; exact hne
  have rz : AdjR sl th 5 (rst x) z := by subst hz; exact r.gh.re
  have hm : mu sl th x = 3 + muL sl th (rst x) := by
    rw [r.mu hne rfl]
    simp [fW, fA]
  have hp : (z.pop []).t.fr.reverse = rst x := by rw [pop_rev _ _ hzn]; exact rz.e
  split
  · refine ⟨Adj.push rz.pop ?_, .inr ?_⟩
    · rw [hp]
      cases hl : rst x with
      | nil => trivial
      | cons f l =>
        have o := r.o
        rw [hl] at o
        exact o
    · rw [mu_push, hm]
      simp [fW, fA, ha]
      omega
  · refine ⟨rz.pop, .inr ?_⟩
    rw [mu_pop _ hzn, rz.e, hm]
    omega
theorem AdjR.push {fn i : Int} {l : List Frm} {r : List Int} {y : Run} (h : AdjR sl th fn l y) (hne : y.t.fr ≠ []) (hd : fR i < fR fn) : Adj sl th (y.push i r) := by
  refine Adj.push (h.all hne) ?_
  rw [fr_rev hne]
  exact .inr (by rw [h.f]; exact hd)
theorem scan_Nx (hsl : sl = x.m.p.slots) (hth : th = x.m.p.c.threads) (hne : x.t.fr ≠ []) (h : Adj sl th x) (e : x.f.fn = 6) : Nx sl th x (scan x) := by
  have r := h.r hne
  rw [e] at r
  have h0 : ∀ y : Run, y = (if x.f.pc = 0 then x.fo [] else x) → AdjR sl th 6 (rst x) y ∧ y.t.fr ≠ [] ∧ y.f.pc = x.f.pc := by
    rintro y rfl
    split
    · exact ⟨r.fo, hne, rfl⟩
    · exact ⟨r, hne, rfl⟩
  unfold scan
  dsimp only
  generalize hy : (if x.f.pc = 0 then x.fo [] else x) = y
  obtain ⟨ry, hny, hpc⟩ := h0 y hy.symm
  rw [← hsl, ← hth]
  split
  · exact ⟨by ((with_reducible first | apply AdjR.pop | apply AdjR.allPc | apply AdjR.allS | apply AdjR.fin | apply AdjR.call | apply AdjR.all); (focus (refine Lo.adjR ?_ (by assumption); (with_reducible repeat' constructor))); try (first | decide | (refine .inr ?_; decide) | (refine .inl ?_; simp [fA]; done) | (refine Lo.ne ?_ hne; (with_reducible repeat' constructor)))), .inl (by (focus (refine Tch.act ?_; (with_reducible repeat' constructor))))⟩
  · rename_i c
    have hm : mu sl th x = 2 + muL sl th (rst x) := by
      rw [r.mu hne rfl]
      have c2 : fA sl th 6 x.f.pc = false := by simp [fA]; omega
      rw [c2]
      simp [fW]
    have hA : AdjR sl th 6 (rst x) (scanA y (sl * th)) ∧ (scanA y (sl * th)).t.fr ≠ [] := by
      unfold scanA
      split
      · exact ⟨by (focus (refine Lo.adjR ?_ (by assumption); (with_reducible repeat' constructor))), ne_setF _ _⟩
      · exact ⟨ry, hny⟩
    generalize scanA y (sl * th) = z at *
    obtain ⟨rz, hzn⟩ := hA
    unfold scanB
    split
    · refine ⟨rz.pop, .inr ?_⟩
      rw [mu_pop _ hzn, rz.e, hm]
      omega
    · rename_i n rest e2
      refine ⟨AdjR.push (l := rst x) (fn := 6) (by (focus (refine Lo.adjR ?_ (by assumption); (with_reducible repeat' constructor)))) hzn (by decide), .inr ?_⟩
      rw [mu_push, hm]
      simp [fW, fA]
      omega
theorem arenaDo_Nx (hs : 0 < sl) (hne : x.t.fr ≠ []) (h : Adj sl th x) (e : x.f.fn = 1 ∨ x.f.fn = 2) : Nx sl th x (arenaDo x) := by
  unfold arenaDo
  rw [if_neg hne]
  rcases e with e | e
  · rw [if_pos e]; exact alloc_Nx hs hne h e
  · rw [if_neg (by omega), if_pos e]; exact release_Nx hs hne h e
theorem hazardDo_Nx (hsl : sl = x.m.p.slots) (hth : th = x.m.p.c.threads) (hs : 0 < sl) (ha : 0 < sl * th) (hne : x.t.fr ≠ []) (h : Adj sl th x) (e : 1 ≤ x.f.fn ∧ x.f.fn ≤ 6) : Nx sl th x (hazardDo x) := by
  unfold hazardDo
  rw [if_neg hne]
  by_cases e3 : x.f.fn = 3
  · rw [if_pos e3]; exact protect_Nx hs hne h e3
  rw [if_neg e3]
  by_cases e4 : x.f.fn = 4
  · rw [if_pos e4]; exact wipe_Nx hsl hs hne h e4
  rw [if_neg e4]
  by_cases e5 : x.f.fn = 5
  · rw [if_pos e5]; exact retire_Nx ha hne h e5
  rw [if_neg e5]
  by_cases e6 : x.f.fn = 6
  · rw [if_pos e6]; exact scan_Nx hsl hth hne h e6
  rw [if_neg e6]
  exact arenaDo_Nx hs hne h (by omega)
end
end
section
open Mod
section
variable {x : Run} {L sl th : Int}
theorem f_drop1 (x : Run) (a : Int) : (x.drop1 a).2.f = x.f := rfl
theorem f_swingA (x : Run) (a b c : Int) : (x.swingA a b c).2.f = x.f := rfl
end
end
section
set_option maxHeartbeats 1000000
open Mod
section
variable {x : Run} {L sl th : Int}
end
end
section
open Mod
section
variable {x : Run} {L sl th : Int}
end
end
section
open Mod
theorem ac_pos {c : Mod.Cf} (h : okC c = true) : 0 < (planOf c).slots ∧ 0 < (planOf c).slots * c.threads ∧ (planOf c).slots * c.threads ≤ 84 ∧ (planOf c).slots ≤ 14 ∧ 1 ≤ c.level ∧ c.level ≤ 6 := by
  have B := planOf_B h
  have h1 : 2 ≤ (planOf c).slots ∧ (planOf c).slots ≤ 14 := B.sl
  have h2 : 1 ≤ c.threads ∧ c.threads ≤ 6 := B.th
  have h3 : 1 ≤ c.level ∧ c.level ≤ 6 := B.lv
  refine ⟨by omega, Int.mul_pos (by omega) (by omega), ?_, h1.2, h3.1, h3.2⟩
  exact Int.le_trans (Int.mul_le_mul h1.2 h2.2 (by omega) (by omega)) (by decide)
theorem RunOk.ok {Q : Mod.Cf → Frm → Prop} {c : Mod.Cf} {x : Run} {B : Nat} (h : RunOk Q c x B) (hB : B < 200000000) (hid : 0 ≤ x.id ∧ x.id ≤ 6) (hp : 0 ≤ x.f.pc ∧ x.f.pc ≤ 100) : Ok x := by
  have hP : x.m.mm.st.toNat + x.m.used.toNat + x.t.retired.length + x.t.found.length + x.t.fr.length ≤ B := h.P
  exact ⟨by omega, by omega, by omega, by omega, by omega, ⟨by omega, by omega⟩, hp⟩
theorem hz_pc {sl th : Int} {f : Frm} (h : HzOk sl th f) (h1 : 0 ≤ sl ∧ sl ≤ 14) (h2 : sl * th ≤ 84) : 0 ≤ f.pc ∧ f.pc ≤ 100 := by
  unfold HzOk at h
  omega
end
end Go.Proofs.YtglgifgoojncpaaGreat
