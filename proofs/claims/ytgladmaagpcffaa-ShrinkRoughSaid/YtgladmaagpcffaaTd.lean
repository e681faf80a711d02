/- The statement ShrinkRough's body. -/
import Derived.Test.YtgladmaagpcffaaTc
set_option linter.unusedSimpArgs false
set_option linter.unusedVariables false
set_option maxRecDepth 20000
namespace Go.Proofs.Ytgladmaagpcffaa

theorem tmod_lt {x d : Int} (h : 0 < d) : -d < Int.tmod x d ∧ Int.tmod x d < d := ⟨Int.lt_tmod_of_pos x h, Int.tmod_lt_of_pos x h⟩
def sumI (l : List Int) (i : Nat) : Int := sumF (l.take i)
theorem sumI_succ {l : List Int} {i : Nat} (hi : i < l.length) : sumI l (i + 1) = Int.tmod (sumI l i + Int.tmod l[i] 1000) 1000 := by
  unfold sumI sumF
  rw [List.take_succ_eq_append_getElem hi, List.foldl_append]; rfl
theorem sumI_lt (l : List Int) : ∀ i, i ≤ l.length → -1000 < sumI l i ∧ sumI l i < 1000 := by
  intro i hi
  cases i with
  | zero => unfold sumI sumF; simp
  | succ i => rw [sumI_succ (by omega)]; exact tmod_lt (by omega)

theorem bad_rough {h : Heap} {p q : Nat} {d e : Int} (hp : cellAt h ⟨p, 0, none⟩ = some (iv d)) (hq : cellAt h ⟨q, 0, none⟩ = some (iv e)) (hd : d ≠ 0) (he : e ≠ 0) :
    BadAt (.func (.func 30) #[] #[.pointer (some ⟨p, 0, none⟩), .pointer (some ⟨q, 0, none⟩)]) (roughF d e) h := by
  refine ⟨⟨_, _, _, rfl⟩, fun h => cellAt h ⟨p, 0, none⟩ = some (iv d) ∧ cellAt h ⟨q, 0, none⟩ = some (iv e), ⟨hp, hq⟩, fun h h' o e => ⟨cell_stable _ _ o e.1, cell_stable _ _ o e.2⟩, ?_⟩
  rintro h a l c xs K ⟨e1, e2⟩ hr hl1 k
  refine callV_cl ?_
  rw [cl3]
  refine call30 ?_
  unfold F30
  have hlen := hr.len
  refine ⟨fun vs h' => ∃ i : Nat, vs = [iv (sumI xs i), iv i] ∧ h' = h ∧ i ≤ l, fun vs _ => (match vs with | [_, .int _ n] => l - n.toNat | _ => 0), ⟨0, rfl, rfl, Nat.zero_le _⟩, ?_⟩
  rintro v2 v3 g h5 ⟨i, e, rfl, hi⟩
  cases e
  simp only [asInt_int]
  have hb := sumI_lt xs i (by omega)
  refine ifB_dec (fun hlt => ?_) (fun hge => ?_)
  · have hlt' : i < xs.length := by omega
    obtain ⟨ad, rfl, hc⟩ := hr.at hlt'
    refine ⟨by omega, hlt, ?_⟩
    simp only [asPtr_some, Int.toNat_natCast, Nat.mul_one]
    refine ldH_mk hc ?_
    simp only [asInt_int]
    have hb2 := tmod_lt (x := xs[i]) (d := 1000) (by omega)
    rw [wrap64_id' (n := sumI xs i + Int.tmod xs[i] 1000) (by omega) (by omega), ← sumI_succ hlt', nat_wrap1 (by omega)]
    refine ⟨by omega, by omega, ⟨i + 1, rfl, by trivial, by omega⟩, ?_⟩
    show l - ((i + 1 : Nat) : Int).toNat < l - (i : Int).toNat
    omega
  · have hs : sumI xs i = sumF xs := by unfold sumI; rw [List.take_of_length_le (by omega)]
    simp only [asPtr_some]
    refine ldH_mk e1 ?_
    simp only [asInt_int]
    have hk := k h5 (Old.refl _ _)
    unfold roughF at hk
    rw [hlen] at hk
    rw [hs]
    refine ⟨hd, ifB_mk (fun h1 => ?_) (fun h1 => ?_)⟩
    · rwa [h1, Bool.true_or] at hk
    · rw [h1, Bool.false_or] at hk
      refine ldH_mk e2 ?_
      simp only [asInt_int]
      exact ⟨he, hk⟩

theorem shrinkRough_body {K : Value → Heap → Prop} {h : Heap} {a : Option Addr} {l c : Nat} {xs : List Int} {d e : Int} (H : RI h a l c xs)
    (k : ∀ h', Old h.size h h' → K (.bool true) h') : F5 K h a l c d e := by
  unfold F5
  obtain ⟨o1, n1, n2⟩ := push2 (h := h) (.cells #[.int .i64 d] 3) (.cells #[.int .i64 e] 3)
  rw [Array.size_push]
  generalize (h.push (.cells #[.int .i64 d] 3)).push (.cells #[.int .i64 e] 3) = h1 at *
  refine ⟨fun vs h' => ∃ v1 v2 v3 b, vs = [v1, v2, v3, .bool b] ∧ h' = h1 ∧ (b = false → l ≤ 40 ∧ 1 ≤ d ∧ d ≤ 50 ∧ 1 ≤ e ∧ e ≤ 50), ?_, ?_⟩
  · refine ifB_dec (fun _ => ⟨_, _, _, _, rfl, by trivial, fun e => by cases e⟩) fun c1 => ?_
    refine ldH_mk (cellAt_row n1) ?_
    simp only [asInt_int]
    refine ifB_dec (fun _ => ⟨_, _, _, _, rfl, by trivial, fun e => by cases e⟩) fun c2 => ?_
    refine ldH_mk (cellAt_row n1) ?_
    simp only [asInt_int]
    refine ifB_dec (fun _ => ⟨_, _, _, _, rfl, by trivial, fun e => by cases e⟩) fun c3 => ?_
    refine ldH_mk (cellAt_row n2) ?_
    simp only [asInt_int]
    refine ifB_dec (fun _ => ⟨_, _, _, _, rfl, by trivial, fun e => by cases e⟩) fun c4 => ?_
    refine ldH_mk (cellAt_row n2) ?_
    simp only [asInt_int]
    refine ⟨_, _, _, _, rfl, by trivial, fun e => ?_⟩
    have := of_decide_eq_false e
    omega
  rintro v9 v10 v11 v12 g13 h14 ⟨_, _, _, b, eb, rfl, hb0⟩
  cases eb
  simp only [asBool_bool]
  refine ifB_mk (fun _ => ?_) (fun hq => ?_)
  · refine callV_fn (lives38_call fun h' o => ?_)
    simp only [asBool_bool]
    exact k _ (o1.trans (o.mono o1.1))
  obtain ⟨hl, hd1, hd2, he1, he2⟩ := hb0 hq
  have hb : BadAt (.func (.func 30) #[] #[.pointer (some ⟨h.size, 0, none⟩), .pointer (some ⟨h.size + 1, 0, none⟩)]) (roughF d e) h14 := bad_rough (cellAt_row n1) (cellAt_row n2) (by omega) (by omega)
  have Hr := H.old o1
  refine callV_fn (shrink_call hb Hr (by omega) fun a' l' c' ys h20 hr2 hok o2 => ?_)
  have hs : ys.Sublist xs := by
    cases hF : roughF d e xs with
    | true => exact (hok.2 hF).1
    | false => rw [hok.1 hF]; exact List.Sublist.refl _
  have hFe : roughF d e ys = roughF d e xs := by
    cases hF : roughF d e xs with
    | true => exact (hok.2 hF).2.1
    | false => rw [hok.1 hF]; exact hF
  have hle := hs.length_le
  have hl1 := hr2.len
  have hl0 := H.len
  simp only [asSlice_slice]
  refine ⟨fun vs h' => vs = [.bool false] ∧ Old h20.size h20 h', ?_, ?_⟩
  · refine callV_fn (within_call hr2 (Hr.old o2) (by omega) hs ?_)
    simp only [asBool_bool, Bool.not_true, ifB_false]
    refine (hb.old o2).call (Hr.old o2) (by omega) fun h29 o3 => ?_
    simp only [asBool_bool]
    refine ((hb.old o2).old o3).call (hr2.old o3) (by omega) fun h32 o4 => ?_
    simp only [asBool_bool]
    refine ⟨?_, o3.trans (o4.mono o3.1)⟩
    rw [hFe]; simp
  rintro v34 g35 h36 ⟨e1, o5⟩
  cases e1
  simp only [asBool_bool, ifB_false]
  refine ⟨fun vs h' => ∃ i : Nat, vs = [.bool false, iv i] ∧ Old h20.size h20 h' ∧ i ≤ l', fun vs _ => (match vs with | [_, .int _ n] => l' - n.toNat | _ => 0), ⟨0, rfl, o5, Nat.zero_le _⟩, ?_⟩
  rintro v40 v41 g42 h43 ⟨i, e1, o6, hi⟩
  cases e1
  have og : ∀ h', Old h20.size h20 h' → Old h.size h h' := fun h' o => o1.trans ((o2.trans (o.mono o2.1)).mono o1.1)
  refine ⟨fun vs h' => vs = [.bool (roughF d e xs && decide (i < l'))] ∧ Old h20.size h20 h', ?_, ?_⟩
  · refine ((hb.old o2).old o6).call ((Hr.old o2).old o6) (by omega) fun h46 o7 => ?_
    simp only [asBool_bool, asInt_int]
    refine ifB_mk (fun hq => ⟨?_, o6.trans (o7.mono o6.1)⟩) (fun hq => ⟨?_, o6.trans (o7.mono o6.1)⟩)
    · rw [hq, Bool.true_and, show decide ((i : Int) < (l' : Int)) = decide (i < l') from decide_eq_decide.2 (by omega)]
    · rw [hq, Bool.false_and]
  rintro v49 g50 h51 ⟨e1, o8⟩
  cases e1
  simp only [asBool_bool, asInt_int]
  have hr51 : RI h51 a' l' c' ys := hr2.old o8
  have hb51 := (hb.old o2).old o8
  refine ifB_mk (fun hq => ?_) (fun hq => ?_)
  · simp only [Bool.and_eq_true, decide_eq_true_eq] at hq
    obtain ⟨_, _, hmin⟩ := hok.2 hq.1
    refine callV_fn (drop38_call hr51 (by omega) hq.2 fun a5 l5 c5 h55 hr5 o9 => ?_)
    simp only [asSlice_slice]
    have hle5 : l5 ≤ l' := by
      have := (List.eraseIdx_sublist ys i).length_le
      rw [hr5.len, hl1] at this; exact this
    refine (hb51.old o9).call hr5 (by omega) fun h60 o10 => ?_
    simp only [asBool_bool]
    rw [hmin i (by omega)]
    simp only [ifB_false]
    rw [nat_wrap1 (by omega)]
    refine ⟨⟨i + 1, rfl, (o8.trans (o9.mono o8.1)).trans (o10.mono (Nat.le_trans o8.1 o9.1)), by omega⟩, ?_⟩
    show l' - ((i + 1 : Nat) : Int).toNat < l' - (i : Int).toNat
    omega
  · refine hb51.call ((Hr.old o2).old o8) (by omega) fun h64 o9 => ?_
    simp only [asBool_bool]
    have o89 : Old h20.size h20 h64 := o8.trans (o9.mono o8.1)
    have ok := og _ o89
    refine ifB_mk (fun hq2 => ?_) (fun hq2 => ?_)
    · refine callV_fn (lives38_call fun h' o => ?_)
      simp only [asBool_bool]
      exact k _ (ok.trans (o.mono ok.1))
    · have := hok.1 hq2
      subst this
      refine ifB_mk (fun _ => ?_) (fun hne => ?_)
      · refine callV_fn (lives38_call fun h' o => ?_)
        simp only [asBool_bool]
        exact k _ (ok.trans (o.mono ok.1))
      · simp at hne; omega
end Go.Proofs.Ytgladmaagpcffaa
