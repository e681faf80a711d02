/- The body of LevelRows. -/
import Derived.Test.YtgladmaagpcffaaEj
set_option linter.unusedSimpArgs false
set_option linter.unusedVariables false
set_option maxRecDepth 20000
namespace Go.Proofs.Ytgladmaagpcffaa

def cntP (row n : Int) (all : Bool) (e : Ent) : Bool := decide (e.t > row) && (all || e.o == n)
theorem countP_take_succ {α : Type} {p : α → Bool} {L : List α} {i : Nat} (h : i < L.length) : (L.take (i + 1)).countP p = (L.take i).countP p + (if p L[i] then 1 else 0) := by
  rw [List.take_succ_eq_append_getElem h, List.countP_append, List.countP_singleton]
theorem countP_take_le {α : Type} (p : α → Bool) (L : List α) (i : Nat) : (L.take i).countP p ≤ i := by
  have h1 := List.countP_le_length (p := p) (l := L.take i)
  have h2 := List.length_take_le i L
  omega

theorem entCount_call {K : Value → Heap → Prop} {h : Heap} {a : Option Addr} {l c : Nat} {es : List Ent} {row n : Int} {all : Bool} (H : SE h a l c es) (hl : l ≤ 1000) (k : K (iv ((es.countP (cntP row n all) : Nat) : Int)) h) :
    CallH Try.prog 68 #[.slice a l c, iv row, uv n, .bool all] h K := by
  refine call68 ?_
  unfold F68
  have hlen := H.len
  refine ⟨fun vs h' => ∃ i : Nat, vs = [iv (((es.take i).countP (cntP row n all) : Nat) : Int), iv i] ∧ h' = h ∧ i ≤ l, fun vs _ => (match vs with | [_, .int _ m] => l - m.toNat | _ => 0), ⟨0, by simp, rfl, Nat.zero_le _⟩, ?_⟩
  rintro v2 v3 g4 h5 ⟨i, e, rfl, hi⟩
  cases e
  simp only [asInt_int]
  refine ifB_dec (fun hlt => ?_) (fun hge => ?_)
  · have hi' : i < es.length := by omega
    have hle := countP_take_le (cntP row n all) es i
    obtain ⟨ad, rfl, x0, x1⟩ := H.at hi'
    refine ⟨fun vs h' => vs = [iv (((es.take (i + 1)).countP (cntP row n all) : Nat) : Int)] ∧ h' = h5, ?_, ?_⟩
    · refine ⟨fun vs h' => ∃ w, vs = [w, .bool (cntP row n all es[i])] ∧ h' = h5, ?_, ?_⟩
      · refine ⟨by omega, hlt, ?_⟩
        simp only [asPtr_some, Int.toNat_natCast]
        refine ldH_mk x1 ?_
        simp only [asInt_int]
        unfold cntP
        refine ifB_dec (fun h1 => ?_) (fun h1 => ?_)
        · rw [decide_eq_true h1]
          refine ifB_mk (fun h2 => ?_) (fun h2 => ?_)
          · subst h2; exact ⟨_, rfl, by trivial⟩
          · subst h2
            refine ⟨by omega, hlt, ?_⟩
            refine ldH_mk x0 ?_
            simp only [asInt_int]
            exact ⟨_, rfl, by trivial⟩
        · rw [decide_eq_false h1]
          exact ⟨_, rfl, by trivial⟩
      rintro v17 v18 g19 h20 ⟨w, e, rfl⟩
      cases e
      simp only [asBool_bool]
      rw [countP_take_succ hi']
      refine ifB_mk (fun h1 => ?_) (fun h1 => ?_)
      · rw [nat_wrap1 (by omega), if_pos h1]; exact ⟨rfl, by trivial⟩
      · rw [if_neg (by simp [h1])]; exact ⟨rfl, by trivial⟩
    rintro v23 g24 h25 ⟨e, rfl⟩
    cases e
    rw [nat_wrap1 (by omega)]
    refine ⟨⟨i + 1, rfl, by trivial, by omega⟩, ?_⟩
    show l - ((i + 1 : Nat) : Int).toNat < l - (i : Int).toNat
    omega
  · have : i = es.length := by omega
    subst this
    rw [List.take_length]
    exact k

theorem rowF_len {es ss : List Ent} (hp : ss.Perm es) (i : Nat) (n : Int) : (rowF ss i).length = es.countP (cntP i n true) := by
  unfold rowF
  rw [List.length_map, ← List.countP_eq_length_filter, hp.countP_eq]
  congr 1
  funext e
  simp [cntP]
theorem rowF_count {es ss : List Ent} (hp : ss.Perm es) (i : Nat) (x : Int) : (rowF ss i).countP (fun y => y == x) = es.countP (cntP i x false) := by
  unfold rowF
  rw [List.countP_map, List.countP_filter, hp.countP_eq]
  congr 1
  funext e
  simp only [cntP, Bool.false_or, Function.comp]
  rw [Bool.and_comm]
theorem sorted_pair {ss : List Ent} {l : Nat} (hl : ss.length = l) (h : SortedSeg ss 0 l) : ss.Pairwise fun a b => a.o ≤ b.o :=
  List.pairwise_iff_getElem.2 fun i j hi hj hij => h i j hi hj (Nat.zero_le _) (by omega) (by omega)
theorem rowF_pair {ss : List Ent} {l : Nat} (hl : ss.length = l) (h : SortedSeg ss 0 l) (i : Nat) : (rowF ss i).Pairwise fun a b => a ≤ b := by
  unfold rowF
  rw [List.pairwise_map]
  exact (sorted_pair hl h).filter _

theorem levelRows_body {K : Value → Heap → Prop} {h : Heap} {a : Option Addr} {l c : Nat} {es : List Ent} {most : Int} (H : SE h a l c es) (k : ∀ h', Old h.size h h' → K (.bool true) h') :
    F15 K h a l c most := by
  unfold F15
  have hlen := H.len
  have lives : ∀ h1, Old h.size h h1 → callV Try.prog (.func (.func 66) #[] #[]) #[] h1 (fun v h' => asBool v (fun b => K (.bool b) h')) := by
    intro h1 o1
    refine callV_fn (lives23_call fun h' o => ?_)
    simp only [asBool_bool]
    exact k h' (o1.trans (o.mono o1.1))
  refine ifB_dec (fun _ => lives h (Old.refl _ _)) (fun hl60 => ?_)
  have hl : l ≤ 60 := by omega
  refine callV_fn (rows_call H (by omega) (sorts hl) fun ss a' c' vs h4 hperm hsorted R o4 => ?_)
  simp only [asSlice_slice]
  rw [minmax_int, minmax_int]
  have em : max2I 0 (min2I most 64) = ((min most.toNat 64 : Nat) : Int) := by unfold max2I min2I; split <;> split <;> omega
  rw [em]
  generalize hm : min most.toNat 64 = m at *
  have hssl : ss.length = l := by rw [hperm.length_eq, hlen]
  have hrl : ∀ i, (rowF ss i).length ≤ 60 := fun i => by
    unfold rowF
    rw [List.length_map]
    have := List.length_filter_le (fun e : Ent => decide (e.t > (i : Int))) ss
    omega
  have H4 := H.old o4
  refine ifB_mk (fun h => by simp at h) (fun _ => ?_)
  refine ⟨fun ws h' => ∃ w0 w2 w3 w4, ∃ i : Nat, ws = [w0, iv i, w2, w3, w4] ∧ h' = h4 ∧ i ≤ m, fun ws _ => (match ws with | [_, .int _ n, _, _, _] => m - n.toNat | _ => 0), ⟨_, _, _, _, 0, rfl, rfl, Nat.zero_le _⟩, ?_⟩
  rintro v16 v17 v18 v19 v20 g21 h22 ⟨w0, w2, w3, w4, i, e, rfl, hi⟩
  cases e
  simp only [asInt_int]
  refine ifB_dec (fun hlt => ?_) (fun hge => lives _ o4)
  have hi' : i < ((List.range m).map (rowF ss)).length := by simp; omega
  obtain ⟨ad, ai, li, ci, rfl, _, hc, hr, hli⟩ := R.at hi'
  simp only [List.getElem_map, List.getElem_range] at hr
  have hrlen := hr.len
  have hrow60 := hrl i
  have hcnt := rowF_len hperm i 0
  have hpw := rowF_pair hssl hsorted i
  have hocc := rowF_count hperm i
  generalize hrow : rowF ss i = row at *
  refine ⟨by omega, hlt, ?_⟩
  simp only [asPtr_some, Int.toNat_natCast, Nat.mul_one]
  refine ldH_mk hc ?_
  simp only [asSlice_slice]
  refine callV_fn (entCount_call H4 (by omega) ?_)
  simp only [asInt_int]
  refine ⟨hc, ?_⟩
  rw [← hcnt, hrlen]
  refine ifB_mk (fun h => by simp at h) (fun _ => ?_)
  refine ⟨fun ws h' => ∃ w0 w2 w3, ∃ q : Nat, ws = [w0, iv q, w2, w3] ∧ h' = h22 ∧ q ≤ li, fun ws _ => (match ws with | [_, .int _ n, _, _] => li - n.toNat | _ => 0), ⟨_, _, _, 0, rfl, rfl, Nat.zero_le _⟩, ?_⟩
  rintro v36 v37 v38 v39 g40 h41 ⟨x0, x2, x3, q, e, rfl, hq⟩
  cases e
  simp only [asInt_int]
  refine ⟨by omega, hlt, ldH_mk hc ?_⟩
  simp only [asSlice_slice]
  refine ifB_dec (fun hltq => ?_) (fun hgeq => ?_)
  · have hq' : q < row.length := by omega
    obtain ⟨ae, rfl, hce⟩ := hr.at hq'
    refine ⟨fun ws h' => ∃ j : Nat, ws = [iv (((row.take j).countP (fun y => y == row[q]) : Nat) : Int), iv j] ∧ h' = h41 ∧ j ≤ li, fun ws _ => (match ws with | [_, .int _ n] => li - n.toNat | _ => 0), ⟨0, by simp, rfl, Nat.zero_le _⟩, ?_⟩
    rintro v51 v52 g53 h54 ⟨j, e, rfl, hj⟩
    cases e
    simp only [asInt_int]
    refine ⟨by omega, hlt, ldH_mk hc ?_⟩
    simp only [asSlice_slice]
    refine ifB_dec (fun hltj => ?_) (fun hgej => ?_)
    · have hj' : j < row.length := by omega
      have hle := countP_take_le (fun y => y == row[q]) row j
      obtain ⟨ae2, e2, hce2⟩ := hr.at hj'
      cases e2
      refine ⟨fun ws h' => ws = [iv (((row.take (j + 1)).countP (fun y => y == row[q]) : Nat) : Int)] ∧ h' = h54, ?_, ?_⟩
      · refine ⟨by omega, hlt, ldH_mk hc ?_⟩
        simp only [asSlice_slice]
        refine ⟨by omega, hltj, ?_⟩
        simp only [asPtr_some, Int.toNat_natCast, Nat.mul_one]
        refine ldH_mk hce2 ?_
        simp only [asInt_int]
        refine ⟨by omega, hlt, ldH_mk hc ?_⟩
        simp only [asSlice_slice]
        refine ⟨by omega, hltq, ?_⟩
        simp only [asPtr_some]
        refine ldH_mk hce ?_
        simp only [asInt_int]
        rw [countP_take_succ hj']
        refine ifB_mk (fun h1 => ?_) (fun h1 => ?_)
        · rw [nat_wrap1 (by omega), if_pos h1]; exact ⟨rfl, by trivial⟩
        · rw [if_neg (by simp only [h1]; simp)]; exact ⟨rfl, by trivial⟩
      rintro v84 g85 h86 ⟨e, rfl⟩
      cases e
      rw [nat_wrap1 (by omega)]
      refine ⟨⟨j + 1, rfl, by trivial, by omega⟩, ?_⟩
      show li - ((j + 1 : Nat) : Int).toNat < li - (j : Int).toNat
      omega
    · obtain rfl : j = row.length := by omega
      refine ⟨fun ws h' => ∃ w, ws = [w, .bool false] ∧ h' = h54, ?_, ?_⟩
      · refine ⟨by omega, hlt, ldH_mk hc ?_⟩
        simp only [asSlice_slice]
        refine ⟨by omega, hltq, ?_⟩
        simp only [asPtr_some, Int.toNat_natCast, Nat.mul_one]
        refine ldH_mk hce ?_
        simp only [asInt_int]
        refine callV_fn (entCount_call H4 (by omega) ?_)
        simp only [asInt_int]
        rw [List.take_length, hocc]
        refine ifB_mk (fun h => by simp at h) (fun _ => ?_)
        refine ifB_dec (fun h0 => ?_) (fun h0 => ⟨_, rfl, by trivial⟩)
        refine ⟨by omega, hlt, ldH_mk hc ?_⟩
        simp only [asSlice_slice]
        refine ⟨by omega, hltq, ?_⟩
        refine ldH_mk hce ?_
        simp only [asInt_int]
        refine ⟨by omega, hlt, ldH_mk hc ?_⟩
        simp only [asSlice_slice]
        rw [nat_wrapm (by omega) (by omega)]
        have hq1 : q - 1 < row.length := by omega
        obtain ⟨ae2, e2, hce2⟩ := hr.at hq1
        cases e2
        refine ⟨by omega, by omega, ?_⟩
        simp only [Int.toNat_natCast]
        refine ldH_mk hce2 ?_
        simp only [asInt_int]
        have := List.pairwise_iff_getElem.1 hpw (q - 1) q hq1 hq' (by omega)
        rw [decide_eq_false (by omega)]
        exact ⟨_, rfl, by trivial⟩
      rintro v125 v126 g127 h128 ⟨w, e, rfl⟩
      cases e
      simp only [asBool_bool, ifB_false]
      rw [nat_wrap1 (by omega)]
      refine ⟨⟨_, _, _, q + 1, rfl, by trivial, by omega⟩, ?_⟩
      show li - ((q + 1 : Nat) : Int).toNat < li - (q : Int).toNat
      omega
  · rw [nat_wrap1 (by omega)]
    refine ⟨⟨_, _, _, _, i + 1, rfl, by trivial, by omega⟩, ?_⟩
    show m - ((i + 1 : Nat) : Int).toNat < m - (i : Int).toNat
    omega
end Go.Proofs.Ytgladmaagpcffaa
