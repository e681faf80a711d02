/- The statement SeqsCounts' body. -/
import Derived.Test.YtgladmaagpcffaaSd
set_option linter.unusedSimpArgs false
set_option linter.unusedVariables false
namespace Go.Proofs.Ytgladmaagpcffaa

/-- Two rows of the call's own, apart. -/
structure Two (h0 h' : Heap) (a : Option Addr) (l c : Nat) (xs : List Int) (a' : Option Addr) (l' c' : Nat) (ys : List Int) : Prop where
  x : OwnI h' a l c xs
  y : OwnI h' a' l' c' ys
  old : Old h0.size h0 h'
  xge : ∀ ad, a = some ad → h0.size ≤ ad.block
  yge : ∀ ad, a' = some ad → h0.size ≤ ad.block
  ne : ∀ ad ad', a = some ad → a' = some ad' → ad.block ≠ ad'.block
theorem Two.symm {h0 h' : Heap} {a a' : Option Addr} {l c l' c' : Nat} {xs ys : List Int} (H : Two h0 h' a l c xs a' l' c' ys) : Two h0 h' a' l' c' ys a l c xs :=
  ⟨H.y, H.x, H.old, H.yge, H.xge, fun p q e e' => (H.ne q p e' e).symm⟩
set_option maxRecDepth 20000 in
theorem Two.app {h0 h : Heap} {a a' : Option Addr} {l c l' c' : Nat} {xs ys : List Int} {x : Int} {K : Value → Heap → Prop} (T : Two h0 h a l c xs a' l' c' ys) (hl : l ≤ 2 ^ 40)
    (H : ∀ a2 c2 h2, Two h0 h2 a2 (l + 1) c2 (xs ++ [x]) a' l' c' ys → K (.slice a2 (l + 1) c2) h2) :
    appH Try.prog #[23, 23] 23 #[.slice a l c, .slice (some ⟨h.size, 0, none⟩) 1 1] (h.push (.cells #[.int .i64 x] 3)) K := by
  refine app_int T.x hl fun a2 c2 h2 hown hs hold hor => H a2 c2 h2 ⟨hown, T.y.keep fun ad e => hold _ (T.y.lt ad e) fun p hp => T.ne p ad hp e, ?_, ?_, T.yge, ?_⟩
  · exact ⟨Nat.le_trans T.old.1 hs, fun b hb => (hold b (Nat.lt_of_lt_of_le hb T.old.1) fun ad e => by have := T.xge ad e; omega).trans (T.old.2 b hb)⟩
  · intro ad e
    rcases hor with rfl | ⟨b, rfl, hb⟩
    · exact T.xge ad e
    · cases e; show h0.size ≤ b; have := T.old.1; omega
  · intro ad ad' e e'
    rcases hor with rfl | ⟨b, rfl, hb⟩
    · exact T.ne ad ad' e e'
    · cases e; have := T.y.lt ad' e'; show b ≠ ad'.block; omega

abbrev upto (u : Int) (n : Nat) : List Int := (List.range n).map fun k : Nat => u + k
theorem upto_succ (u : Int) (n : Nat) : upto u (n + 1) = upto u n ++ [u + n] := by simp [upto, List.range_succ]

set_option maxRecDepth 20000 in
theorem seqsCounts_body {K : Value → Heap → Prop} {h : Heap} {x0 x1 x2 : Int} (w0 : -2 ^ 63 ≤ x0 ∧ x0 < 2 ^ 63) (w1 : -2 ^ 63 ≤ x1 ∧ x1 < 2 ^ 63) (w2 : -2 ^ 63 ≤ x2 ∧ x2 < 2 ^ 63)
    (k : ∀ h', Old h.size h h' → K (.bool true) h') : F3 K h x0 x1 x2 := by
  unfold F3
  refine ⟨fun vs h' => ∃ v1 v2 v3 b, vs = [v1, v2, v3, .bool b] ∧ h' = h ∧ (b = false → -1000000 ≤ x0 ∧ x0 ≤ 1000000 ∧ x1 ≤ 1000000 ∧ (x1 > x0 → x1 - x0 ≤ 3000)), ?_, ?_⟩
  · refine ifB_dec (fun _ => ⟨_, _, _, _, rfl, rfl, fun e => by cases e⟩) fun c1 => ?_
    refine ifB_dec (fun _ => ⟨_, _, _, _, rfl, rfl, fun e => by cases e⟩) fun c2 => ?_
    refine ifB_dec (fun _ => ⟨_, _, _, _, rfl, rfl, fun e => by cases e⟩) fun c3 => ?_
    refine ifB_dec (fun c4 => ⟨_, _, _, _, rfl, rfl, fun e => ?_⟩) fun c4 => ⟨_, _, _, _, rfl, rfl, fun _ => by omega⟩
    rw [wrap64_id' (by omega) (by omega)] at e
    have := of_decide_eq_false e
    omega
  rintro v1 v2 v3 v4 g5 h6 ⟨_, _, _, b, e, rfl, hb⟩
  cases e
  simp only [asBool_bool]
  refine ifB_mk (fun _ => ?_) (fun hb0 => ?_)
  · refine callV_fn (lives_call fun h' o => ?_)
    simp only [asBool_bool]; exact k h' o
  obtain ⟨b1, b2, b3, b4⟩ := hb hb0
  clear hb hb0
  obtain ⟨n, hn⟩ : ∃ n, n = (x1 - x0).toNat := ⟨_, rfl⟩
  have hn3 : n ≤ 3000 := by omega
  refine ⟨fun vs h' => ∃ (a : Option Addr) (c : Nat) (a' : Option Addr) (c' i : Nat), vs = [.slice a i c, .slice a' (min i x2.toNat) c', iv (x0 + i)] ∧ i ≤ n ∧ Two h6 h' a i c (upto x0 i) a' (min i x2.toNat) c' (upto x0 (min i x2.toNat)),
    fun vs _ => (match vs with | [_, _, .int _ z] => (x1 - z).toNat | _ => 0), ⟨none, 0, none, 0, 0, by simp, by omega, ?_⟩, ?_⟩
  · simp only [Nat.zero_min]
    exact ⟨Own.nil _ _ _, Own.nil _ _ _, Old.refl _ _, fun _ e => (by cases e), fun _ e => (by cases e), fun _ _ e => (by cases e)⟩
  rintro v13 v14 v15 g16 h17 ⟨a, c, a', c', i, e, hi, T⟩
  cases e
  simp only [asInt_int]
  refine ifB_dec (fun hlt => ?_) (fun hge => ?_)
  · refine ⟨fun vs h' => ∃ (a : Option Addr) (c : Nat) (a' : Option Addr) (c' : Nat), vs = [.slice a (i + 1) c, .slice a' (min (i + 1) x2.toNat) c'] ∧ Two h6 h' a (i + 1) c (upto x0 (i + 1)) a' (min (i + 1) x2.toNat) c' (upto x0 (min (i + 1) x2.toNat)), ?_, ?_⟩
    · simp only [asSlice_slice]
      refine T.app (by omega) fun a2 c2 h25 T2 => ?_
      rw [← upto_succ] at T2
      simp only [asSlice_slice]
      refine ifB_dec (fun h1 => ?_) (fun h1 => ?_)
      · have e1 : min i x2.toNat = i := by omega
        have e2 : min (i + 1) x2.toNat = i + 1 := by omega
        rw [e1] at T2 ⊢
        rw [e2]
        refine T2.symm.app (by omega) fun a3 c3 h37 T3 => ?_
        simp only [asSlice_slice]
        rw [← upto_succ] at T3
        exact ⟨_, _, _, _, rfl, T3.symm⟩
      · have e2 : min (i + 1) x2.toNat = min i x2.toNat := by omega
        rw [e2]
        exact ⟨_, _, _, _, rfl, T2⟩
    · rintro v41 v42 g43 h44 ⟨a2, c2, a3, c3, e, T2⟩
      cases e
      rw [wrap64_id' (by omega) (by omega)]
      refine ⟨⟨a2, c2, a3, c3, i + 1, by simp; omega, by omega, T2⟩, ?_⟩
      show (x1 - (x0 + i + 1)).toNat < (x1 - (x0 + i)).toNat
      omega
  · have hin : i = n := by omega
    subst hin
    refine callV_fn (count_call (by omega) (by omega) fun g h1 hg o1 => ?_)
    refine callV_fn (list_call hg (by omega) fun al cl h2 hown _ o2 => ?_)
    simp only [asSlice_slice]
    have keep : ∀ {p : Option Addr} {l c : Nat} {xs : List Int}, OwnI h17 p l c xs → ∀ h', Old h17.size h17 h' → Sees h' p (xs.map iv) := fun hp h' o => (Own.sees hp).keep fun ad e => o.2 _ (hp.lt ad e)
    have o12 : Old h17.size h17 h2 := o1.trans (o2.mono o1.1)
    refine callV_fn (same_call hown.sees (by simp) (keep T.x _ o12) (by simp) (by omega) ?_)
    rw [← hn]
    simp only [upto, decide_true, asBool_bool, ifB_true]
    refine callV_fn (count_call (by omega) (by omega) fun g3 h3 hg3 o3 => ?_)
    refine callV_fn (first_call hg3 (by omega) fun g4 h4 hg4 o4 => ?_)
    refine callV_fn (list_call hg4 (by omega) fun al5 cl5 h5 hown5 _ o5 => ?_)
    simp only [asSlice_slice]
    have o15 : Old h17.size h17 h5 := ((o12.trans (o3.mono o12.1)).trans (o4.mono (Nat.le_trans o12.1 o3.1))).trans (o5.mono (Nat.le_trans (Nat.le_trans o12.1 o3.1) o4.1))
    refine callV_fn (same_call hown5.sees (by simp) (keep T.y _ o15) (by simp) (by omega) ?_)
    rw [← hn]
    simp only [upto, decide_true, asBool_bool, ifB_true]
    refine callV_fn (lives_call fun h' o => ?_)
    simp only [asBool_bool]
    exact k h' ((T.old.trans (o15.mono T.old.1)).trans (o.mono (Nat.le_trans T.old.1 o15.1)))
end Go.Proofs.Ytgladmaagpcffaa
