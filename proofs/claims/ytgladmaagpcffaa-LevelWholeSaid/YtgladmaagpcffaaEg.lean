/- Swapping and turning round of parts of a row of entries. -/
import Derived.Test.YtgladmaagpcffaaEd
import Derived.Test.YtgladmaagpcffaaFi
set_option linter.unusedSimpArgs false
set_option linter.unusedVariables false
set_option maxRecDepth 20000
namespace Go.Proofs.Ytgladmaagpcffaa

theorem wadd {a b : Nat} (h : a + b < 2 ^ 62) : IntKind.i64.wrap ((a : Int) + b) = ((a + b : Nat) : Int) := by
  rw [wrap64_id' (by omega) (by omega)]; omega
theorem wsub {a b : Nat} (h : a < 2 ^ 62) (hb : b ≤ a) : IntKind.i64.wrap ((a : Int) - b) = ((a - b : Nat) : Int) := by
  rw [wrap64_id' (by omega) (by omega)]; omega
theorem wrapu_id {n : Int} (h0 : 0 ≤ n) (h1 : n < 18446744073709551616) : IntKind.u64.wrap n = n := by
  unfold IntKind.wrap IntKind.signed IntKind.bits
  have e : n % 2 ^ 64 = n := Int.emod_eq_of_lt h0 (by omega)
  simp only [e]
  rw [if_neg (by simp)]
theorem whalf {a b : Nat} (h : a + b < 2 ^ 62) : IntKind.i64.wrap (Int.fdiv (IntKind.u64.wrap (IntKind.i64.wrap ((a : Int) + b))) 2) = (((a + b) / 2 : Nat) : Int) := by
  rw [wadd h, wrapu_id (by omega) (by omega)]
  rw [Int.fdiv_eq_ediv_of_nonneg _ (by omega), wrap64_id' (by omega) (by omega)]
  omega

/-- Where a part and another one of the same length change places. -/
def swp (x y n p : Nat) : Nat := if x ≤ p ∧ p < x + n then p - x + y else if y ≤ p ∧ p < y + n then p - y + x else p

theorem swap_get {cs : List Ent} {i j : Nat} (hi : i < cs.length) (hj : j < cs.length) (p : Nat) : ((cs.set i cs[j]).set j cs[i])[p]? = if p = j then cs[i]? else if p = i then cs[j]? else cs[p]? := by
  rw [List.getElem?_set, List.getElem?_set]
  by_cases h1 : j = p
  · subst h1
    rw [if_pos rfl, if_pos (by simpa using hj), if_pos rfl, List.getElem?_eq_getElem hi]
  · rw [if_neg h1, if_neg (c := p = j) (fun h => h1 h.symm)]
    by_cases h2 : i = p
    · subst h2
      rw [if_pos rfl, if_pos hi, if_pos rfl, List.getElem?_eq_getElem hj]
    · rw [if_neg h2, if_neg (c := p = i) (fun h => h2 h.symm)]

theorem OldB.refl (b : Nat) (h : Heap) : OldB b h h := ⟨Nat.le_refl _, fun _ _ _ => rfl⟩
theorem OldB.trans {b : Nat} {h h' h'' : Heap} (o : OldB b h h') (o2 : OldB b h' h'') : OldB b h h'' := ⟨Nat.le_trans o.1 o2.1, fun c hc hne => (o2.2 c (Nat.lt_of_lt_of_le hc o.1) hne).trans (o.2 c hc hne)⟩
theorem Old.toB {b : Nat} {h h' : Heap} (o : Old h.size h h') : OldB b h h' := ⟨o.1, fun c hc _ => o.2 c hc⟩

theorem swapRange_call {K : Value → Heap → Prop} {h : Heap} {b l c x y n : Nat} {f : Value} {es : List Ent} {sp : List Value} (H : EB h b es sp) (hl : es.length = l) (hl2 : l ≤ 1000) (hxy : x + n ≤ y) (hy : y + n ≤ l)
    (k : ∀ es' h', EB h' b es' sp → es'.Perm es → (∀ p, es'[p]? = es[swp x y n p]?) → OldB b h h' → K (.tuple #[]) h') :
    CallH Try.prog 161 #[.slice (some ⟨b, 0, none⟩) l c, iv x, iv y, iv n, f] h K := by
  refine call161 ?_
  unfold F161
  refine ⟨fun vs h' => ∃ t : Nat, ∃ cs, vs = [iv t] ∧ t ≤ n ∧ EB h' b cs sp ∧ cs.Perm es ∧ (∀ p, cs[p]? = es[swp x y t p]?) ∧ OldB b h h', fun vs _ => (match vs with | [.int _ m] => n - m.toNat | _ => 0),
    ⟨0, es, rfl, Nat.zero_le _, H, List.Perm.refl _, fun p => by unfold swp; rw [if_neg (by omega), if_neg (by omega)], OldB.refl _ _⟩, ?_⟩
  rintro v2 g3 h4 ⟨t, cs, e, ht, B4, pm, hp, o4⟩
  cases e
  simp only [asInt_int]
  refine ifB_dec (fun hlt => ?_) (fun hge => ?_)
  · have hcl : cs.length = l := by rw [pm.length_eq, hl]
    have hi : x + t < cs.length := by omega
    have hj : y + t < cs.length := by omega
    have hbl := (Array.getElem?_eq_some_iff.1 B4).1
    rw [wadd (by omega), wadd (by omega), nat_wrap1 (by omega)]
    obtain ⟨x0, x1⟩ := B4.at hi
    obtain ⟨y0, y1⟩ := B4.at hj
    refine ⟨by omega, by omega, ?_⟩
    simp only [asPtr_some, Int.toNat_natCast]
    refine ldH_mk y0 (ldH_mk y1 ?_)
    refine ⟨by omega, by omega, ldH_mk x0 (ldH_mk x1 ?_)⟩
    refine ⟨by omega, by omega, ?_⟩
    refine B4.set (e := cs[y + t]) hi fun h42 B42 s42 old42 => ?_
    refine ⟨by omega, by omega, ?_⟩
    refine B42.set (e := cs[x + t]) (by simpa using hj) fun h45 B45 s45 old45 => ?_
    refine ⟨⟨t + 1, _, rfl, by omega, B45, (List.set_set_perm hi hj).trans pm, fun p => ?_, ?_⟩, ?_⟩
    · rw [swap_get hi hj, hp, hp, hp]
      by_cases h1 : p = y + t
      · rw [if_pos h1]; congr 1; unfold swp; subst h1; rw [if_neg (by omega), if_neg (by omega), if_neg (by omega), if_pos (by omega)]; omega
      · rw [if_neg h1]
        by_cases h2 : p = x + t
        · rw [if_pos h2]; congr 1; unfold swp; subst h2; rw [if_neg (by omega), if_neg (by omega), if_pos (by omega)]; omega
        · rw [if_neg h2]; congr 1; unfold swp
          by_cases h3 : x ≤ p ∧ p < x + t
          · rw [if_pos h3, if_pos (by omega)]
          · rw [if_neg h3, if_neg (c := x ≤ p ∧ p < x + (t + 1)) (by omega)]
            by_cases h4 : y ≤ p ∧ p < y + t
            · rw [if_pos h4, if_pos (by omega)]
            · rw [if_neg h4, if_neg (by omega)]
    · exact o4.trans ⟨by rw [s45, s42]; exact Nat.le_refl _, fun c hc hne => (old45 c hne).trans (old42 c hne)⟩
    · show n - ((t + 1 : Nat) : Int).toNat < n - (t : Int).toNat
      omega
  · obtain rfl : t = n := by omega
    exact k cs _ B4 pm hp o4

/-- Where two parts, one behind the other, change places. -/
def rot (a m b p : Nat) : Nat := if a ≤ p ∧ p < a + (b - m) then p + (m - a) else if a + (b - m) ≤ p ∧ p < b then p - (b - m) else p

theorem rot_gt {i j m p : Nat} (hi : i ≤ m) (h0 : 0 < j) (h : j < i) : rot (m - i) m (m + j) p = swp (m - i) m j (rot (m - (i - j)) m (m + j) p) := by
  unfold rot swp
  (repeat' split) <;> omega
theorem rot_lt {i j m p : Nat} (hi : i ≤ m) (h0 : 0 < i) (h : i < j) : rot (m - i) m (m + j) p = swp (m - i) (m + j - i) i (rot (m - i) m (m + (j - i)) p) := by
  unfold rot swp
  (repeat' split) <;> omega
theorem rot_eq {i m p : Nat} (hi : i ≤ m) : rot (m - i) m (m + i) p = swp (m - i) m i p := by
  unfold rot swp
  (repeat' split) <;> omega

theorem rotate_call {K : Value → Heap → Prop} {h : Heap} {bk l c a m b : Nat} {f : Value} {es : List Ent} {sp : List Value} (H : EB h bk es sp) (hl : es.length = l) (hl2 : l ≤ 1000) (ham : a < m) (hmb : m < b) (hb : b ≤ l)
    (k : ∀ es' h', EB h' bk es' sp → es'.Perm es → (∀ p, es'[p]? = es[rot a m b p]?) → OldB bk h h' → K (.tuple #[]) h') :
    CallH Try.prog 158 #[.slice (some ⟨bk, 0, none⟩) l c, iv a, iv m, iv b, f] h K := by
  refine call158 ?_
  unfold F158
  rw [wsub (by omega) (by omega), wsub (by omega) (by omega)]
  refine ⟨fun vs h' => ∃ i j : Nat, ∃ cs, vs = [iv i, iv j] ∧ 0 < i ∧ 0 < j ∧ i ≤ m - a ∧ j ≤ b - m ∧ EB h' bk cs sp ∧ cs.Perm es ∧ (∀ p, es[rot a m b p]? = cs[rot (m - i) m (m + j) p]?) ∧ OldB bk h h', fun vs _ => (match vs with | [.int _ i, .int _ j] => i.toNat + j.toNat | _ => 0),
    ⟨m - a, b - m, es, rfl, by omega, by omega, Nat.le_refl _, Nat.le_refl _, H, List.Perm.refl _, fun p => by rw [show m - (m - a) = a by omega, show m + (b - m) = b by omega], OldB.refl _ _⟩, ?_⟩
  rintro v2 v3 g4 h5 ⟨i, j, cs, e, hi, hj, hi2, hj2, B5, pm, hp, o5⟩
  cases e
  have hcl : cs.length = l := by rw [pm.length_eq, hl]
  simp only [asInt_int]
  refine ifB_mk (fun hne => ?_) (fun heq => ?_)
  · have hne : i ≠ j := by intro e; subst e; simp at hne
    refine ifB_dec (fun hlt => ?_) (fun hge => ?_)
    · rw [wsub (a := m) (by omega) (by omega), wsub (by omega) (by omega)]
      refine callV_fn (swapRange_call B5 hcl hl2 (by omega) (by omega) fun es' h13 B13 pm13 hp13 o13 => ?_)
      refine ⟨⟨i - j, j, es', rfl, by omega, hj, by omega, hj2, B13, pm13.trans pm, fun p => ?_, o5.trans o13⟩, ?_⟩
      · rw [hp, hp13]
        rw [rot_gt (by omega) hj (by omega)]
      · show ((i - j : Nat) : Int).toNat + (j : Int).toNat < (i : Int).toNat + (j : Int).toNat
        omega
    · rw [wsub (a := m) (by omega) (by omega), wadd (by omega), wsub (a := m + j) (by omega) (by omega), wsub (a := j) (by omega) (by omega)]
      refine callV_fn (swapRange_call B5 hcl hl2 (by omega) (by omega) fun es' h13 B13 pm13 hp13 o13 => ?_)
      refine ⟨⟨i, j - i, es', rfl, hi, by omega, hi2, by omega, B13, pm13.trans pm, fun p => ?_, o5.trans o13⟩, ?_⟩
      · rw [hp, hp13]
        rw [rot_lt (by omega) hi (by omega)]
      · show (i : Int).toNat + ((j - i : Nat) : Int).toNat < (i : Int).toNat + (j : Int).toNat
        omega
  · have : i = j := by simp at heq; omega
    subst this
    rw [wsub (a := m) (by omega) (by omega)]
    refine callV_fn (swapRange_call B5 hcl hl2 (by omega) (by omega) fun es' h13 B13 pm13 hp13 o13 => ?_)
    refine k es' _ B13 (pm13.trans pm) (fun p => ?_) (o5.trans o13)
    rw [hp, hp13]
    rw [rot_eq (by omega)]
end Go.Proofs.Ytgladmaagpcffaa
