/- Each operation of the calculus is the model's (3). -/
import Derived.Test.YtgladmaagpcffaaVd
set_option linter.unusedSimpArgs false
set_option linter.unusedVariables false
namespace Go.Proofs.Ytgladmaagpcffaa
section
variable {P : Program} {ρ : Operand → Value} {h : Heap} {K : Value → Heap → Prop}

theorem hp_eqGuard {op : BinOp} {t : TypeId} {x y : Operand} {a b : Value} (F : Unit → Heap → Prop)
    (hs : (op ≠ .eql ∧ op ≠ .neq) ∨ ((∀ xs, a ≠ .agg xs) ∧ a ≠ .nilIface) ∨ (P.eqGuardType P.depth t = false ∧ ∃ xs, a = .agg xs)) : hp P (eqGuard op t x y a b) F h = F () h := by
  unfold eqGuard
  rcases hs with ⟨h1, h2⟩ | ⟨h1, h2⟩ | ⟨h1, xs, rfl⟩
  · cases op <;> first | rfl | exact absurd rfl h1 | exact absurd rfl h2
  · cases op <;> first | rfl | (cases a <;> first | exact absurd rfl h2 | exact absurd rfl (h1 _) | rfl)
  · cases op <;> first | rfl | (cases b <;> first | rfl | (simp [hp_bind, hp_program, h1, hp_pure]))

theorem hp_binOp_eql {t : TypeId} {a b : Value} (ha : ∀ k n, a ≠ .int k n) (ha2 : ∀ s, a ≠ .string s) (ha3 : ∀ k n, a ≠ .float k n) (ha4 : ∀ k n m, a ≠ .complex k n m) (F : Value → Heap → Prop) :
    hp P (binOp .eql t a b) F h = hp P (Op.equal t a b) (fun r h => F (.bool r) h) h := by
  cases a <;> first | exact absurd rfl (ha _ _) | exact absurd rfl (ha2 _) | exact absurd rfl (ha3 _ _) | exact absurd rfl (ha4 _ _ _) | (cases b <;> simp only [binOp, hp_bind] <;> rfl)
theorem hp_binOp_neq {t : TypeId} {a b : Value} (ha : ∀ k n, a ≠ .int k n) (ha2 : ∀ s, a ≠ .string s) (ha3 : ∀ k n, a ≠ .float k n) (ha4 : ∀ k n m, a ≠ .complex k n m) (F : Value → Heap → Prop) :
    hp P (binOp .neq t a b) F h = hp P (Op.equal t a b) (fun r h => F (.bool (!r)) h) h := by
  cases a <;> first | exact absurd rfl (ha _ _) | exact absurd rfl (ha2 _) | exact absurd rfl (ha3 _ _) | exact absurd rfl (ha4 _ _ _) | (cases b <;> simp only [binOp, hp_bind] <;> rfl)

theorem nilP_out {y : Operand} (hy : nilP y = true) (hc : ∀ v, ρ (.const v) = v) : ρ y = .pointer none := by
  unfold nilP at hy; split at hy <;> first | exact hc _ | cases hy
theorem nilS_out {y : Operand} (hy : nilS y = true) (hc : ∀ v, ρ (.const v) = v) : ∃ l c, ρ y = .slice none l c := by
  unfold nilS at hy; split at hy <;> first | exact ⟨_, _, hc _⟩ | cases hy
theorem nilM_out {y : Operand} (hy : nilM y = true) (hc : ∀ v, ρ (.const v) = v) : ρ y = .map none := by
  unfold nilM at hy; split at hy <;> first | exact hc _ | cases hy
theorem nilF_out {y : Operand} (hy : nilF y = true) (hc : ∀ v, ρ (.const v) = v) : ρ y = .nilFunc := by
  unfold nilF at hy; split at hy <;> first | exact hc _ | cases hy
theorem equal_succ (t : TypeId) (x y : Value) : Op.equal t x y = Op.equalIn (9999 + 1) t x y := rfl
theorem eqIn_bool (d : Nat) {t : TypeId} {a b : Bool} (hu : P.underlying t = some .bool) (F : Bool → Heap → Prop) (h : Heap) : hp P (Op.equalIn (d + 1) t (.bool a) (.bool b)) F h = F (a == b) h := by
  simp only [Op.equalIn, hp_bind, hp_underlying hu]; rfl
theorem eqIn_ptr (d : Nat) {t e : TypeId} {a : Option Addr} (hu : P.underlying t = some (.pointer e)) (F : Bool → Heap → Prop) (h : Heap) : hp P (Op.equalIn (d + 1) t (.pointer a) (.pointer none)) F h = F a.isNone h := by
  cases a <;> simp only [Op.equalIn, hp_bind, hp_underlying hu] <;> rfl
theorem eqIn_slice (d : Nat) {t e : TypeId} {a : Option Addr} {l c l' c' : Nat} (hu : P.underlying t = some (.slice e)) (F : Bool → Heap → Prop) (h : Heap) : hp P (Op.equalIn (d + 1) t (.slice a l c) (.slice none l' c')) F h = F a.isNone h := by
  cases a <;> simp only [Op.equalIn, hp_bind, hp_underlying hu] <;> rfl
theorem eqIn_map (d : Nat) {t e e' : TypeId} {a : Option Nat} (hu : P.underlying t = some (.map e e')) (F : Bool → Heap → Prop) (h : Heap) : hp P (Op.equalIn (d + 1) t (.map a) (.map none)) F h = F a.isNone h := by
  cases a <;> simp only [Op.equalIn, hp_bind, hp_underlying hu] <;> rfl
theorem eqIn_fn1 (d : Nat) {t : TypeId} {a b : Array TypeId} {c : Bool} (hu : P.underlying t = some (.func a b c)) (F : Bool → Heap → Prop) (h : Heap) : hp P (Op.equalIn (d + 1) t .nilFunc .nilFunc) F h = F true h := by
  simp only [Op.equalIn, hp_bind, hp_underlying hu]; rfl
theorem eqIn_fn2 (d : Nat) {t : TypeId} {a b : Array TypeId} {c : Bool} {f : Fn} {x y : Array Value} (hu : P.underlying t = some (.func a b c)) (F : Bool → Heap → Prop) (h : Heap) : hp P (Op.equalIn (d + 1) t (.func f x y) .nilFunc) F h = F false h := by
  simp only [Op.equalIn, hp_bind, hp_underlying hu]; rfl

theorem vbin_sound {op : BinOp} {xt yt : TypeId} {x y : Operand} {o : Oper} (ho : o.op = .binOp op xt x y yt) (hc : ∀ v, ρ (.const v) = v)
    (H : vbin P op xt yt x y ρ o h K) : hp P (execOp ρ o) (nxt P K) h := by
  have e : execOp ρ o = (do let r ← (do eqGuard op xt x y (ρ x) (ρ y); binOp op xt (ρ x) (ρ y)); pure (Next.value r)) := by unfold execOp; rw [ho]
  have toh : hp P (do eqGuard op xt x y (ρ x) (ρ y); binOp op xt (ρ x) (ρ y)) K h → hp P (execOp ρ o) (nxt P K) h := fun q => by rw [e, hp_v]; exact q
  have fall : opH P ρ o h K → hp P (execOp ρ o) (nxt P K) h := id
  unfold vbin at H
  split at H
  · rename_i k hk
    split at H
    · split at H
      · obtain ⟨a, ha, H⟩ := asInt_out H
        obtain ⟨b, hb, H⟩ := asInt_out H
        apply toh
        rw [ha, hb]
        simp only [hp_bind]
        rw [hp_eqGuard _ (.inl ⟨by simp, by simp⟩)]
        simp only [shOp, binOp, Op.shift] at H ⊢
        rw [if_neg (by have := H.1; omega)]
        exact H.2
      · exact H.elim
    · split at H
      · obtain ⟨a, ha, H⟩ := asInt_out H
        obtain ⟨b, hb, H⟩ := asInt_out H
        apply toh
        rw [ha, hb]
        simp only [hp_bind]
        rw [hp_eqGuard _ (.inl ⟨by simp, by simp⟩)]
        simp only [shOp, binOp, Op.shift] at H ⊢
        rw [if_neg (by have := H.1; omega)]
        exact H.2
      · exact H.elim
    · rename_i n1 n2
      obtain ⟨a, ha, H⟩ := asInt_out H
      obtain ⟨b, hb, H⟩ := asInt_out H
      have hs : op ≠ .shl ∧ op ≠ .shr := ⟨n1, n2⟩
      apply toh
      rw [ha, hb]
      simp only [hp_bind]
      rw [hp_eqGuard _ (.inr (.inl ⟨by simp, by simp⟩)), binOp_int xt hs]
      exact hp_intOp H hs
  · rename_i hu
    split at H
    · obtain ⟨a, ha, H⟩ := asBool_out H
      obtain ⟨b, hb, H⟩ := asBool_out H
      apply toh
      rw [ha, hb]
      simp only [hp_bind]
      rw [hp_eqGuard _ (.inr (.inl ⟨by simp, by simp⟩)), hp_binOp_eql (by simp) (by simp) (by simp) (by simp)]
      rw [equal_succ, eqIn_bool _ (und_some hu (by simp))]
      exact H
    · obtain ⟨a, ha, H⟩ := asBool_out H
      obtain ⟨b, hb, H⟩ := asBool_out H
      apply toh
      rw [ha, hb]
      simp only [hp_bind]
      rw [hp_eqGuard _ (.inr (.inl ⟨by simp, by simp⟩)), hp_binOp_neq (by simp) (by simp) (by simp) (by simp)]
      rw [equal_succ, eqIn_bool _ (und_some hu (by simp))]
      exact H
    · exact H.elim
  · rename_i hu
    split at H
    · obtain ⟨a, ha, H⟩ := asStr_out H
      obtain ⟨b, hb, H⟩ := asStr_out H
      apply toh
      rw [ha, hb]
      simp only [hp_bind]
      rw [hp_eqGuard _ (.inr (.inl ⟨by simp, by simp⟩))]
      exact H
    · obtain ⟨a, ha, H⟩ := asStr_out H
      obtain ⟨b, hb, H⟩ := asStr_out H
      apply toh
      rw [ha, hb]
      simp only [hp_bind]
      rw [hp_eqGuard _ (.inr (.inl ⟨by simp, by simp⟩))]
      exact H
    · obtain ⟨a, ha, H⟩ := asStr_out H
      obtain ⟨b, hb, H⟩ := asStr_out H
      apply toh
      rw [ha, hb]
      simp only [hp_bind]
      rw [hp_eqGuard _ (.inl ⟨by simp, by simp⟩)]
      simp only [binOp, Op.stringOp]
      rw [if_neg (by have := H.1; have e : IntKind.i64.max = 9223372036854775807 := by decide
                     omega)]
      exact H.2
    · exact fall H
  · rename_i el hu
    split at H
    · rename_i hn
      have hy := nilP_out hn hc
      obtain ⟨a, ha, H⟩ := asPtrO_out H
      apply toh
      rw [ha, hy]
      simp only [hp_bind]
      rw [hp_eqGuard _ (.inr (.inl ⟨by simp, by simp⟩)), hp_binOp_eql (by simp) (by simp) (by simp) (by simp), equal_succ, eqIn_ptr _ (und_some hu (by simp))]
      exact H
    · rename_i hn
      have hy := nilP_out hn hc
      obtain ⟨a, ha, H⟩ := asPtrO_out H
      apply toh
      rw [ha, hy]
      simp only [hp_bind]
      rw [hp_eqGuard _ (.inr (.inl ⟨by simp, by simp⟩)), hp_binOp_neq (by simp) (by simp) (by simp) (by simp), equal_succ, eqIn_ptr _ (und_some hu (by simp))]
      exact H
    · obtain ⟨a, ha, H⟩ := asPtrO_out H
      obtain ⟨b, hb, H⟩ := asPtrO_out H
      apply toh
      rw [ha, hb]
      simp only [hp_bind]
      rw [hp_eqGuard _ (.inr (.inl ⟨by simp, by simp⟩))]
      exact H
    · obtain ⟨a, ha, H⟩ := asPtrO_out H
      obtain ⟨b, hb, H⟩ := asPtrO_out H
      apply toh
      rw [ha, hb]
      simp only [hp_bind]
      rw [hp_eqGuard _ (.inr (.inl ⟨by simp, by simp⟩))]
      exact H
    · exact fall H
  · rename_i el hu
    split at H
    · rename_i hn
      obtain ⟨l0, c0, hy⟩ := nilS_out hn hc
      obtain ⟨a, l, c, ha, H⟩ := asSlice_out H
      apply toh
      rw [ha, hy]
      simp only [hp_bind]
      rw [hp_eqGuard _ (.inr (.inl ⟨by simp, by simp⟩)), hp_binOp_eql (by simp) (by simp) (by simp) (by simp), equal_succ, eqIn_slice _ (und_some hu (by simp))]
      exact H
    · rename_i hn
      obtain ⟨l0, c0, hy⟩ := nilS_out hn hc
      obtain ⟨a, l, c, ha, H⟩ := asSlice_out H
      apply toh
      rw [ha, hy]
      simp only [hp_bind]
      rw [hp_eqGuard _ (.inr (.inl ⟨by simp, by simp⟩)), hp_binOp_neq (by simp) (by simp) (by simp) (by simp), equal_succ, eqIn_slice _ (und_some hu (by simp))]
      exact H
    · exact fall H
  · rename_i e1 e2 hu
    split at H
    · rename_i hn
      have hy := nilM_out hn hc
      obtain ⟨a, ha, H⟩ := asMap_out H
      apply toh
      rw [ha, hy]
      simp only [hp_bind]
      rw [hp_eqGuard _ (.inr (.inl ⟨by simp, by simp⟩)), hp_binOp_eql (by simp) (by simp) (by simp) (by simp), equal_succ, eqIn_map _ (und_some hu (by simp))]
      exact H
    · rename_i hn
      have hy := nilM_out hn hc
      obtain ⟨a, ha, H⟩ := asMap_out H
      apply toh
      rw [ha, hy]
      simp only [hp_bind]
      rw [hp_eqGuard _ (.inr (.inl ⟨by simp, by simp⟩)), hp_binOp_neq (by simp) (by simp) (by simp) (by simp), equal_succ, eqIn_map _ (und_some hu (by simp))]
      exact H
    · exact fall H
  · rename_i e1 e2 e3 hu
    split at H
    · rename_i hn
      have hy := nilF_out hn hc
      rcases asFnNil_out H with ⟨ha, H⟩ | ⟨f, a, b, ha, H⟩
      · apply toh
        rw [ha, hy]
        simp only [hp_bind]
        rw [hp_eqGuard _ (.inr (.inl ⟨by simp, by simp⟩)), hp_binOp_eql (by simp) (by simp) (by simp) (by simp), equal_succ, eqIn_fn1 _ (und_some hu (by simp))]
        exact H
      · apply toh
        rw [ha, hy]
        simp only [hp_bind]
        rw [hp_eqGuard _ (.inr (.inl ⟨by simp, by simp⟩)), hp_binOp_eql (by simp) (by simp) (by simp) (by simp), equal_succ, eqIn_fn2 _ (und_some hu (by simp))]
        exact H
    · rename_i hn
      have hy := nilF_out hn hc
      rcases asFnNil_out H with ⟨ha, H⟩ | ⟨f, a, b, ha, H⟩
      · apply toh
        rw [ha, hy]
        simp only [hp_bind]
        rw [hp_eqGuard _ (.inr (.inl ⟨by simp, by simp⟩)), hp_binOp_neq (by simp) (by simp) (by simp) (by simp), equal_succ, eqIn_fn1 _ (und_some hu (by simp))]
        exact H
      · apply toh
        rw [ha, hy]
        simp only [hp_bind]
        rw [hp_eqGuard _ (.inr (.inl ⟨by simp, by simp⟩)), hp_binOp_neq (by simp) (by simp) (by simp) (by simp), equal_succ, eqIn_fn2 _ (und_some hu (by simp))]
        exact H
    · exact fall H
  · rename_i hu
    split at H
    · obtain ⟨⟨b, hb, H⟩, hg, xs, hx⟩ := hp_eqv H
      apply toh
      rw [hx] at hb ⊢
      simp only [hp_bind]
      rw [hp_eqGuard _ (.inr (.inr ⟨hg, _, rfl⟩)), hp_binOp_eql (by simp) (by simp) (by simp) (by simp), hb]
      exact H
    · obtain ⟨⟨b, hb, H⟩, hg, xs, hx⟩ := hp_eqv H
      apply toh
      rw [hx] at hb ⊢
      simp only [hp_bind]
      rw [hp_eqGuard _ (.inr (.inr ⟨hg, _, rfl⟩)), hp_binOp_neq (by simp) (by simp) (by simp) (by simp), hb]
      exact H
    · exact H.elim
  · rename_i hu
    split at H
    · obtain ⟨⟨b, hb, H⟩, hg, xs, hx⟩ := hp_eqv H
      apply toh
      rw [hx] at hb ⊢
      simp only [hp_bind]
      rw [hp_eqGuard _ (.inr (.inr ⟨hg, _, rfl⟩)), hp_binOp_eql (by simp) (by simp) (by simp) (by simp), hb]
      exact H
    · obtain ⟨⟨b, hb, H⟩, hg, xs, hx⟩ := hp_eqv H
      apply toh
      rw [hx] at hb ⊢
      simp only [hp_bind]
      rw [hp_eqGuard _ (.inr (.inr ⟨hg, _, rfl⟩)), hp_binOp_neq (by simp) (by simp) (by simp) (by simp), hb]
      exact H
    · exact H.elim
  · exact fall H
end
end Go.Proofs.Ytgladmaagpcffaa
