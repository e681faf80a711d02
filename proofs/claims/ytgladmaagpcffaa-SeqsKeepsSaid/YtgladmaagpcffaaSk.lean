/- The statement SeqsKeeps' body. -/
import Derived.Test.YtgladmaagpcffaaSj
import Derived.Test.YtgladmaagpcffaaSe
set_option linter.unusedSimpArgs false
set_option linter.unusedVariables false
set_option maxRecDepth 20000
namespace Go.Proofs.Ytgladmaagpcffaa

def keepP (d x : Int) : Bool := Int.tmod (Int.tmod x 1000) d == 0
def madeF (x : Int) : Int := IntKind.wrap .i64 (Int.tmod x 1000 * 2)
def sumW (u x : Int) : Int := IntKind.wrap .i64 (Int.tmod (IntKind.wrap .i64 (u * 3)) 1000 + Int.tmod x 1000)

theorem keep_d {h : Heap} {p : Nat} {d : Int} (hp : cellAt h ⟨p, 0, none⟩ = some (iv d)) (hd : d ≠ 0) : KeepAt (.func (.func 57) #[] #[.pointer (some ⟨p, 0, none⟩)]) (keepP d) h := by
  refine ⟨⟨_, _, _, rfl⟩, fun h => cellAt h ⟨p, 0, none⟩ = some (iv d), hp, fun h h' o e => cell_stable _ _ o e, ?_⟩
  intro h x K he k
  refine callV_cl ?_
  rw [cl2]
  refine call57 ?_
  unfold F57
  simp only [asPtr_some]
  refine ⟨by omega, ldH_mk he ?_⟩
  simp only [asInt_int]
  exact ⟨hd, k _ (Old.refl _ _)⟩
theorem made_at (h : Heap) : MapAt (.func (.func 58) #[] #[]) madeF h := by
  refine ⟨⟨_, _, _, rfl⟩, fun _ => True, trivial, fun _ _ _ _ => trivial, ?_⟩
  intro h x K he k
  refine callV_fn (call58 ?_)
  exact ⟨by omega, k _ (Old.refl _ _)⟩
theorem sum_at (h : Heap) : JoinAt (.func (.func 59) #[] #[]) (fun _ => True) sumW h := by
  refine ⟨⟨_, _, _, rfl⟩, fun _ => True, trivial, fun _ _ _ _ => trivial, ?_⟩
  intro h u x K he _ k
  refine callV_fn (call59 ?_)
  exact ⟨by omega, by omega, k _ (Old.refl _ _)⟩

theorem filter_take_succ {L : List Int} {p : Int → Bool} {j : Nat} (hj : j < L.length) : (L.take (j + 1)).filter p = (L.take j).filter p ++ (if p L[j] then [L[j]] else []) := by
  rw [List.take_succ_eq_append_getElem hj, List.filter_append]
  cases h : p L[j] <;> simp [h]

theorem seqsKeeps_body {K : Value → Heap → Prop} {h : Heap} {a : Option Addr} {l c : Nat} {xs : List Int} {d more : Int} (H : RI h a l c xs)
    (k : ∀ h', Old h.size h h' → K (.bool true) h') : F13 K h a l c d more := by
  unfold F13
  have o1 : Old h.size h (h.push (.cells #[.int .i64 d] 3)) := (Old.refl _ _).push _ (Nat.le_refl _)
  have n1 := push_new h (.cells #[.int .i64 d] 3)
  have s1 : (h.push (.cells #[.int .i64 d] 3)).size = h.size + 1 := by simp
  generalize h.push (.cells #[.int .i64 d] 3) = h1 at *
  refine ⟨fun vs h' => ∃ v1 v2 v3 b, vs = [v1, v2, v3, .bool b] ∧ h' = h1 ∧ (b = false → l ≤ 2000 ∧ 1 ≤ d ∧ d ≤ 1000), ?_, ?_⟩
  · refine ifB_dec (fun _ => ⟨_, _, _, _, rfl, rfl, fun e => by cases e⟩) fun c1 => ?_
    refine ldH_mk (cellAt_row n1) ?_
    simp only [asInt_int]
    refine ifB_dec (fun _ => ⟨_, _, _, _, rfl, by trivial, fun e => by cases e⟩) fun c2 => ?_
    refine ldH_mk (cellAt_row n1) ?_
    simp only [asInt_int]
    refine ifB_dec (fun _ => ⟨_, _, _, _, rfl, by trivial, fun e => by cases e⟩) fun c3 => ?_
    refine ifB_dec (fun _ => ⟨_, _, _, _, rfl, by trivial, fun e => by cases e⟩) fun c4 => ?_
    exact ⟨_, _, _, _, rfl, by trivial, fun _ => by omega⟩
  rintro v5 v6 v7 v8 g9 h10 ⟨_, _, _, b, eb, rfl, hb0⟩
  cases eb
  simp only [asBool_bool]
  refine ifB_mk (fun _ => ?_) (fun hq => ?_)
  · refine callV_fn (lives_call fun h' o => ?_)
    simp only [asBool_bool]
    exact k _ (o1.trans (o.mono o1.1))
  obtain ⟨hl, hd1, hd2⟩ := hb0 hq
  clear hb0 hq
  have hlen := H.len
  refine ⟨fun vs h' => ∃ a1 l1 c1 a2 c2 v, ∃ i : Nat, vs = [.slice a1 l1 c1, .slice a2 l1 c2, iv (((xs.take i).filter (keepP d)).foldl sumW more), iv i, v] ∧ i ≤ l ∧ l1 = ((xs.take i).filter (keepP d)).length ∧
      Two h10 h' a1 l1 c1 ((xs.take i).filter (keepP d)) a2 l1 c2 (((xs.take i).filter (keepP d)).map madeF),
    fun vs _ => (match vs with | [_, _, _, .int _ n, _] => l - n.toNat | _ => 0), ⟨none, 0, 0, none, 0, _, 0, rfl, by omega, rfl, ?_⟩, ?_⟩
  · exact ⟨Own.nil _ _ _, Own.nil _ _ _, Old.refl _ _, fun _ e => (by cases e), fun _ e => (by cases e), fun _ _ e => (by cases e)⟩
  rintro v17 v18 v19 v20 v21 g22 h23 ⟨a1, l1, c1, a2, c2, v, i, e, hi, hl1, T⟩
  cases e
  simp only [asInt_int]
  have hl1' : l1 ≤ 2000 := by
    have := ((xs.take i).length_filter_le (keepP d))
    simp only [List.length_take] at this
    omega
  have n23 : h23[h.size]? = some (.cells #[.int .i64 d] 3) := (T.old.2 _ (by omega)).trans n1
  have o23 : Old h.size h h23 := o1.trans (T.old.mono o1.1)
  have H23 := H.old o23
  refine ifB_dec (fun hlt => ?_) (fun hge => ?_)
  · have hlt' : i < xs.length := by omega
    refine ⟨fun vs h' => ∃ a1 l1 c1 a2 c2 v, vs = [.slice a1 l1 c1, .slice a2 l1 c2, iv (((xs.take (i + 1)).filter (keepP d)).foldl sumW more), v] ∧ l1 = ((xs.take (i + 1)).filter (keepP d)).length ∧
      Two h10 h' a1 l1 c1 ((xs.take (i + 1)).filter (keepP d)) a2 l1 c2 (((xs.take (i + 1)).filter (keepP d)).map madeF), ?_, ?_⟩
    · obtain ⟨ad, rfl, hc⟩ := H23.at hlt'
      refine ⟨by omega, hlt, ?_⟩
      simp only [asPtr_some, Int.toNat_natCast, Nat.mul_one]
      refine ldH_mk hc ?_
      simp only [asInt_int]
      refine ⟨by omega, ldH_mk (cellAt_row n23) ?_⟩
      simp only [asInt_int]
      refine ⟨by omega, ?_⟩
      refine ifB_mk (fun hp => ?_) (fun hp => ?_)
      · have hp' : keepP d xs[i] = true := hp
        simp only [asSlice_slice]
        refine ⟨by omega, hlt, ldH_mk hc ?_⟩
        simp only [asInt_int]
        refine T.app (by omega) fun a3 c3 h40 T2 => ?_
        simp only [asSlice_slice]
        refine T2.symm.app (by omega) fun a4 c4 h48 T3 => ?_
        simp only [asSlice_slice]
        refine ⟨by omega, a3, l1 + 1, c3, a4, c4, .int .i64 (Int.tmod xs[i] 1000), ?_, ?_, ?_⟩
        · rw [filter_take_succ hlt', if_pos hp', List.foldl_append]; rfl
        · rw [filter_take_succ hlt', if_pos hp', List.length_append, hl1]; rfl
        · rw [filter_take_succ hlt', if_pos hp', List.map_append]; exact T3.symm
      · have hp' : keepP d xs[i] = false := hp
        refine ⟨a1, l1, c1, a2, c2, .int .i64 (Int.tmod xs[i] 1000), ?_, ?_, ?_⟩
        · rw [filter_take_succ hlt', if_neg (by simp [hp']), List.append_nil]
        · rw [filter_take_succ hlt', if_neg (by simp [hp']), List.append_nil]; exact hl1
        · rw [filter_take_succ hlt', if_neg (by simp [hp']), List.append_nil]; exact T
    · rintro v53 v54 v55 v56 g57 h58 ⟨a3, l3, c3, a4, c4, v', e, hl3, T3⟩
      cases e
      rw [nat_wrap1 (by omega)]
      refine ⟨⟨a3, l3, c3, a4, c4, _, i + 1, rfl, by omega, hl3, T3⟩, ?_⟩
      show l - ((i + 1 : Nat) : Int).toNat < l - (i : Int).toNat
      omega
  · have hil : i = l := by omega
    subst hil
    rw [List.take_of_length_le (by omega)] at T hl1
    rw [List.take_of_length_le (by omega)]
    have sees : ∀ {p : Option Addr} {l c : Nat} {zs : List Int}, OwnI h23 p l c zs → ∀ h', Old h23.size h23 h' → Sees h' p (zs.map iv) := fun hp h' o => (Own.sees hp).keep fun ad e => o.2 _ (hp.lt ad e)
    have cell : ∀ h', Old h23.size h23 h' → cellAt h' ⟨h.size, 0, none⟩ = some (iv d) := fun h' o => cell_stable _ _ o (cellAt_row n23)
    refine callV_fn (of_call H23 (by omega) fun g61 h61 S61 o61 => ?_)
    refine callV_fn (only_call S61 (keep_d (cell _ o61) (by omega)) fun g63 h63 S63 o63 => ?_)
    have p63 := o61.trans (o63.mono o61.1)
    refine callV_fn (each_call S63 (made_at _) fun g65 h65 S65 o65 => ?_)
    have p65 := p63.trans (o65.mono p63.1)
    refine callV_fn (listL_call S65 (by simp; omega) fun a67 c67 h67 R67 _ o67 => ?_)
    have p67 := p65.trans (o67.mono p65.1)
    simp only [asSlice_slice]
    refine callV_fn (fold_call ((S63.old o65).old o67) (sum_at _) (fun _ _ => trivial) fun h72 o72 => ?_)
    have p72 := p67.trans (o72.mono p67.1)
    simp only [asInt_int]
    refine callV_fn (listL_call (((S63.old o65).old o67).old o72) (by omega) fun a75 c75 h75 R75 _ o75 => ?_)
    have p75 := p72.trans (o75.mono p72.1)
    simp only [asSlice_slice]
    refine callV_fn (same_call R75.sees rfl (sees T.x _ p75) hl1.symm (by omega) ?_)
    simp only [decide_true, asBool_bool, ifB_true, asSlice_slice]
    have s67 : Sees h75 a67 ((List.map madeF (List.filter (keepP d) xs)).map iv) := (R67.sees.keep fun ad e => o72.2 _ (R67.lt ad e)).keep fun ad e => o75.2 _ (Nat.lt_of_lt_of_le (R67.lt ad e) o72.1)
    refine callV_fn (same_call s67 rfl (sees T.y _ p75) (by simp [hl1]) (by simp; omega) ?_)
    simp only [decide_true, asBool_bool, ifB_true, asInt_int, beq_self_eq_true]
    refine callV_fn (of_call (H23.old p75) (by omega) fun g93 h93 S93 o93 => ?_)
    have p93 := p75.trans (o93.mono p75.1)
    refine callV_fn (some_call S93 (keep_d (cell _ p93) (by omega)) fun h95 o95 => ?_)
    have p95 := p93.trans (o95.mono p93.1)
    simp only [asBool_bool]
    have hany : xs.any (keepP d) = decide (((l1 : Nat) : Int) > 0) := by
      rw [hl1]
      cases hq : xs.any (keepP d) with
      | true =>
        obtain ⟨x, hx, hp⟩ := List.any_eq_true.1 hq
        have : 0 < (xs.filter (keepP d)).length := List.length_pos_of_mem (List.mem_filter.2 ⟨hx, hp⟩)
        rw [decide_eq_true (by omega)]
      | false =>
        have : xs.filter (keepP d) = [] := List.filter_eq_nil_iff.2 fun x hx => by simpa using List.any_eq_false.1 hq x hx
        rw [this]; rfl
    rw [hany]
    simp only [beq_self_eq_true, ifB_true]
    refine callV_fn (lives_call fun h' o => ?_)
    simp only [asBool_bool]
    exact k _ ((o23.trans (p95.mono o23.1)).trans (o.mono (Nat.le_trans o23.1 p95.1)))
end Go.Proofs.Ytgladmaagpcffaa
