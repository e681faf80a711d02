/- The statement ShrinkNumbers' body. -/
import Derived.Test.YtgladmaagpcffaaTc
import Derived.Test.YtgladmaagpcffaaSi
import Derived.Test.YtgladmaagpcffaaFe
set_option linter.unusedSimpArgs false
set_option linter.unusedVariables false
set_option maxRecDepth 20000
namespace Go.Proofs.Ytgladmaagpcffaa

/-- A least number. -/
structure NumOk (p : Int → Bool) (n m : Int) : Prop where
  low : n < 1 → m = n
  no : 1 ≤ n → p n = false → m = n
  yes : 1 ≤ n → p n = true → 0 ≤ m ∧ m ≤ n ∧ p m = true ∧ (m = 0 ∨ p (m - 1) = false)

theorem KeepAt.call {f : Value} {p : Int → Bool} {h : Heap} (H : KeepAt f p h) {x : Int} {K : Value → Heap → Prop} (k : ∀ h', Old h.size h h' → K (.bool (p x)) h') : callV Try.prog f #[.int .i64 x] h K := by
  obtain ⟨_, Ev, h1, _, h3⟩ := H
  exact h3 _ _ _ h1 k

theorem number_call {K : Value → Heap → Prop} {h : Heap} {f : Value} {p : Int → Bool} {n : Int} (Hf : KeepAt f p h) (hn : n < 2 ^ 63)
    (k : ∀ m h', NumOk p n m → Old h.size h h' → K (.int .i64 m) h') : CallH Try.prog 42 #[.int .i64 n, f] h K := by
  refine call42 ?_
  unfold F42
  refine ⟨fun vs h' => ∃ v b, vs = [v, .bool b] ∧ Old h.size h h' ∧ b = (decide (n < 1) || !p n), ?_, ?_⟩
  · refine ifB_dec (fun hq => ⟨_, _, rfl, Old.refl _ _, by rw [decide_eq_true hq]; rfl⟩) (fun hq => ?_)
    have Hf' := Hf
    obtain ⟨⟨g, x, y, rfl⟩, _⟩ := Hf'
    simp only [asFnNil_func, ifB_false]
    refine Hf.call fun h3 o3 => ?_
    simp only [asBool_bool]
    exact ⟨_, _, rfl, o3, by rw [decide_eq_false hq]; rfl⟩
  rintro v5 v6 g7 h8 ⟨v, b, e, o8, hb⟩
  cases e
  simp only [asBool_bool]
  refine ifB_mk (fun hq => ?_) (fun hq => ?_)
  · rw [hq] at hb
    refine k n h8 ⟨fun _ => rfl, fun _ _ => rfl, fun h1 h2 => ?_⟩ o8
    rw [decide_eq_false (by omega), h2] at hb; cases hb
  rw [hq] at hb
  obtain ⟨h1, h2⟩ : ¬ n < 1 ∧ p n = true := by
    have := (Bool.or_eq_false_iff.1 hb.symm)
    exact ⟨of_decide_eq_false this.1, by simpa using this.2⟩
  refine (Hf.old o8).call fun h11 o11 => ?_
  have p11 := o8.trans (o11.mono o8.1)
  simp only [asBool_bool]
  refine ifB_mk (fun hq0 => ?_) (fun hq0 => ?_)
  · exact k 0 h11 ⟨fun h => by omega, (fun _ h => by rw [h2] at h; cases h), fun _ _ => ⟨by omega, by omega, hq0, .inl rfl⟩⟩ p11
  refine ⟨fun vs h' => ∃ a b v, vs = [.int .i64 a, .int .i64 b, v] ∧ Old h.size h h' ∧ 0 ≤ a ∧ a < b ∧ b ≤ n ∧ p a = false ∧ p b = true, fun vs _ => (match vs with | [.int _ a, .int _ b, _] => (b - a).toNat | _ => 0),
    ⟨0, n, _, rfl, p11, by omega, by omega, by omega, hq0, h2⟩, ?_⟩
  rintro v15 v16 v17 g18 h19 ⟨a, b', v', e, o19, ha, hab, hbn, hpa, hpb⟩
  cases e
  simp only [asInt_int]
  rw [wrap64_id' (n := b' - a) (by omega) (by omega)]
  refine ifB_dec (fun hlt => ?_) (fun hge => ?_)
  · have hd : Int.tdiv (b' - a) 2 = (b' - a) / 2 := Int.tdiv_eq_ediv_of_nonneg (by omega)
    rw [hd, wrap64_id' (n := (b' - a) / 2) (by omega) (by omega), wrap64_id' (n := a + (b' - a) / 2) (by omega) (by omega)]
    refine ⟨by omega, ?_⟩
    refine (Hf.old o19).call fun h26 o26 => ?_
    have p26 := o19.trans (o26.mono o19.1)
    simp only [asBool_bool]
    refine ifB_mk (fun hm => ?_) (fun hm => ?_)
    · refine ⟨⟨a, _, _, rfl, p26, ha, by omega, by omega, hpa, hm⟩, ?_⟩
      show (a + (b' - a) / 2 - a).toNat < (b' - a).toNat
      omega
    · refine ⟨⟨_, b', _, rfl, p26, by omega, by omega, hbn, hm, hpb⟩, ?_⟩
      show (b' - (a + (b' - a) / 2)).toNat < (b' - a).toNat
      omega
  · exact k b' h19 ⟨fun h => by omega, (fun _ h => by rw [h2] at h; cases h), fun _ _ => ⟨by omega, hbn, hpb, .inr (by rw [show b' - 1 = a by omega]; exact hpa)⟩⟩ o19
theorem number_nil {K : Value → Heap → Prop} {h : Heap} {n : Int} (k : K (.int .i64 n) h) : CallH Try.prog 42 #[.int .i64 n, .nilFunc] h K := by
  refine call42 ?_
  unfold F42
  refine ⟨fun vs h' => ∃ v, vs = [v, .bool true] ∧ h' = h, ?_, ?_⟩
  · refine ifB_dec (fun hq => ⟨_, rfl, rfl⟩) (fun hq => ?_)
    simp only [asFnNil_nil, ifB_true]
    exact ⟨_, rfl, by trivial⟩
  rintro v5 v6 g7 h8 ⟨v, e, rfl⟩
  cases e
  simp only [asBool_bool, ifB_true]
  exact k
theorem never_at (h : Heap) : KeepAt (.func (.func 43) #[] #[]) (fun _ => false) h := by
  refine ⟨⟨_, _, _, rfl⟩, fun _ => True, trivial, fun _ _ _ _ => trivial, ?_⟩
  intro h x K he k
  refine callV_fn (call43 ?_)
  exact k _ (Old.refl _ _)
def oddP (odd : List Int) (n k : Int) : Bool := decide (0 < odd.count k) || (k == n && decide (0 ≤ n))
theorem odd_at {h : Heap} {p q : Nat} {a : Option Addr} {l c : Nat} {odd : List Int} {n : Int} (hp : cellAt h ⟨p, 0, none⟩ = some (.slice a l c)) (hq : cellAt h ⟨q, 0, none⟩ = some (iv n)) (H : RI h a l c odd) (hl : l ≤ 100) :
    KeepAt (.func (.func 40) #[] #[.pointer (some ⟨p, 0, none⟩), .pointer (some ⟨q, 0, none⟩)]) (oddP odd n) h := by
  refine ⟨⟨_, _, _, rfl⟩, fun h => cellAt h ⟨p, 0, none⟩ = some (.slice a l c) ∧ cellAt h ⟨q, 0, none⟩ = some (iv n) ∧ RI h a l c odd, ⟨hp, hq, H⟩, fun h h' o e => ⟨cell_stable _ _ o e.1, cell_stable _ _ o e.2.1, e.2.2.old o⟩, ?_⟩
  rintro h x K ⟨e1, e2, e3⟩ k
  refine callV_cl ?_
  rw [cl3]
  refine call40 ?_
  unfold F40
  have k := k h (Old.refl _ _)
  unfold oddP at k
  simp only [asPtr_some]
  refine ldH_mk e1 ?_
  simp only [asSlice_slice]
  refine callV_fn (count38_call e3 (by omega) ?_)
  simp only [asInt_int, asPtr_some]
  refine ifB_dec (fun hq => ?_) (fun hq => ?_)
  · rwa [decide_eq_true (by omega), Bool.true_or] at k
  · rw [decide_eq_false (by omega), Bool.false_or] at k
    refine ldH_mk e2 ?_
    simp only [asInt_int]
    refine ifB_mk (fun hx => ?_) (fun hx => ?_)
    · rw [hx, Bool.true_and] at k
      refine ldH_mk e2 ?_
      simp only [asInt_int]
      exact k
    · rwa [hx, Bool.false_and] at k

theorem shrinkNumbers_body {K : Value → Heap → Prop} {h : Heap} {n : Int} {a : Option Addr} {l c : Nat} {odd : List Int} (hn : n < 2 ^ 63) (H : RI h a l c odd)
    (k : ∀ h', Old h.size h h' → K (.bool true) h') : F9 K h n a l c := by
  unfold F9
  obtain ⟨o1, n1, n2⟩ := push2 (h := h) (.cells #[.int .i64 n] 3) (.cells #[.slice a l c] 23)
  rw [Array.size_push]
  generalize (h.push (.cells #[.int .i64 n] 3)).push (.cells #[.slice a l c] 23) = h1 at *
  refine ldH_mk (cellAt_row n2) ?_
  simp only [asSlice_slice]
  refine ifB_dec (fun hq => ?_) (fun hq => ?_)
  · refine callV_fn (lives38_call fun h' o => ?_)
    simp only [asBool_bool]
    exact k _ (o1.trans (o.mono o1.1))
  refine ldH_mk (cellAt_row n1) ?_
  simp only [asInt_int]
  have hb : KeepAt (.func (.func 40) #[] #[.pointer (some ⟨h.size + 1, 0, none⟩), .pointer (some ⟨h.size, 0, none⟩)]) (oddP odd n) h1 := odd_at (cellAt_row n2) (cellAt_row n1) (H.old o1) (by omega)
  refine callV_fn (number_call hb hn fun m h10 hm o10 => ?_)
  have c10 : ∀ h', Old h1.size h1 h' → cellAt h' ⟨h.size, 0, none⟩ = some (iv n) := fun h' o => cell_stable _ _ o (cellAt_row n1)
  have fin : ∀ h', Old h1.size h1 h' → CallH Try.prog 24 #[] h' (fun v h' => asBool v fun b => K (.bool b) h') := fun h' o' => lives38_call fun h'' o => by
    simp only [asBool_bool]
    have p := o1.trans (o'.mono o1.1)
    exact k _ (p.trans (o.mono p.1))
  simp only [asInt_int]
  refine ldH_mk (c10 _ o10) ?_
  simp only [asInt_int]
  refine ifB_dec (fun h1n => ?_) (fun h1n => ?_)
  · refine ldH_mk (c10 _ o10) ?_
    simp only [asInt_int]
    rw [hm.low h1n]
    simp only [beq_self_eq_true, ifB_true]
    exact callV_fn (fin _ o10)
  have hpn : oddP odd n n = true := by
    unfold oddP
    rw [beq_self_eq_true, decide_eq_true (p := 0 ≤ n) (by omega)]; simp
  obtain ⟨m0, m1, m2, m3⟩ := hm.yes (by omega) hpn
  -- the end
  have fin2 : ∀ h', Old h1.size h1 h' → (ldH h' ⟨h.size, 0, none⟩ (fun v24 => (asInt .i64 v24 (fun n25 => (ldH h' ⟨h.size, 0, none⟩ (fun v26 => (asInt .i64 v26 (fun n27 => (callV Try.prog (.func (.func 42) #[] #[]) #[(.int .i64 n25), .nilFunc] h' (fun v28 h29 => (asInt .i64 v28 (fun n30 => (((cellAt h29 ⟨h.size, 0, none⟩) = (some v26)) ∧ (ifB (n30 == n27) (ldH h29 ⟨h.size, 0, none⟩ (fun v31 => (asInt .i64 v31 (fun n32 => (ldH h29 ⟨h.size, 0, none⟩ (fun v33 => (asInt .i64 v33 (fun n34 => (callV Try.prog (.func (.func 42) #[] #[]) #[(.int .i64 n32), (.func (.func 43) #[] #[])] h29 (fun v35 h36 => (asInt .i64 v35 (fun n37 => (((cellAt h36 ⟨h.size, 0, none⟩) = (some v33)) ∧ (ifB (n37 == n34) (callV Try.prog (.func (.func 24) #[] #[]) #[] h36 (fun v38 h39 => (asBool v38 (fun b40 => (K (.bool b40) h39))))) (K (.bool false) h36))))))))))))))) (K (.bool false) h29))))))))))))))) := by
    intro h' o'
    refine ldH_mk (c10 _ o') ?_
    simp only [asInt_int]
    refine ldH_mk (c10 _ o') ?_
    simp only [asInt_int]
    refine callV_fn (number_nil ?_)
    simp only [asInt_int, beq_self_eq_true, ifB_true]
    refine ⟨c10 _ o', ldH_mk (c10 _ o') ?_⟩
    simp only [asInt_int]
    refine ldH_mk (c10 _ o') ?_
    simp only [asInt_int]
    refine callV_fn (number_call (never_at _) hn fun m' h36 hm' o36 => ?_)
    have p36 := o'.trans (o36.mono o'.1)
    have : m' = n := hm'.no (by omega) rfl
    subst this
    simp only [asInt_int, beq_self_eq_true, ifB_true]
    exact ⟨c10 _ p36, callV_fn (fin _ p36)⟩
  refine ifB_dec (fun _ => ?_) (fun hq => by omega)
  refine ldH_mk (c10 _ o10) ?_
  simp only [asInt_int]
  refine ifB_dec (fun _ => ?_) (fun hq => by omega)
  refine (hb.old o10).call fun h22 o22 => ?_
  have p22 := o10.trans (o22.mono o10.1)
  rw [m2]
  simp only [asBool_bool, ifB_true]
  refine ifB_mk (fun hz => ?_) (fun hz => ?_)
  · exact fin2 _ p22
  · have hz : m ≠ 0 := by simpa using hz
    rw [wrap64_id' (n := m - 1) (by omega) (by omega)]
    refine (hb.old p22).call fun h42 o42 => ?_
    have p42 := p22.trans (o42.mono p22.1)
    rw [m3.resolve_left hz]
    simp only [asBool_bool, Bool.not_false, ifB_true]
    exact fin2 _ p42
end Go.Proofs.Ytgladmaagpcffaa
