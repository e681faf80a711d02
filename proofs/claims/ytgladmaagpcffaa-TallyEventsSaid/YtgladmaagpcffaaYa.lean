/- Numbers' digits as texts. -/
import Derived.Test.YtgladmaagpcffaaSb
import Derived.Test.YtgladmaagpcffaaMa
import Derived.Test.YtgladmaagpcffaaFj
set_option linter.unusedSimpArgs false
set_option linter.unusedVariables false
set_option maxRecDepth 20000
namespace Go.Proofs.Ytgladmaagpcffaa

def dch (n : Nat) : UInt8 := UInt8.ofNat (48 + n % 10)
def dgA : Nat → Nat → ByteArray → ByteArray
  | 0, _, acc => acc
  | f + 1, n, acc => if n < 10 then ⟨#[dch n]⟩ ++ acc else dgA f (n / 10) (⟨#[dch n]⟩ ++ acc)
/-- A number's digits. -/
def dg (n : Nat) : ByteArray := dgA 20 n ⟨#[]⟩
theorem one_size (u : UInt8) : (⟨#[u]⟩ : ByteArray).size = 1 := rfl
theorem dgA_size : ∀ f n acc, (dgA f n acc).size ≤ acc.size + f := by
  intro f
  induction f with
  | zero => intro n acc; exact Nat.le_refl _
  | succ f ih =>
    intro n acc
    unfold dgA
    split
    · rw [ByteArray.size_append, one_size]; omega
    · have := ih (n / 10) (⟨#[dch n]⟩ ++ acc)
      rw [ByteArray.size_append, one_size] at this
      omega
theorem dg_size (n : Nat) : (dg n).size ≤ 20 := by
  have := dgA_size 20 n ⟨#[]⟩
  have e : (⟨#[]⟩ : ByteArray).size = 0 := rfl
  unfold dg; omega
theorem wrap8 {n : Nat} (h : n < 256) : IntKind.u8.wrap (n : Int) = (n : Int) := by
  unfold IntKind.wrap IntKind.signed IntKind.bits
  have e : (n : Int) % 2 ^ 8 = n := Int.emod_eq_of_lt (by omega) (by omega)
  simp only [e]
  rw [if_neg (by simp)]
theorem wrap32 {n : Nat} (h : n < 4294967296) : IntKind.u32.wrap (n : Int) = (n : Int) := by
  unfold IntKind.wrap IntKind.signed IntKind.bits
  have e : (n : Int) % 2 ^ 32 = n := Int.emod_eq_of_lt (by omega) (by omega)
  simp only [e]
  rw [if_neg (by simp)]
theorem wrap64u {n : Nat} (h : n < 18446744073709551616) : IntKind.u64.wrap (n : Int) = (n : Int) := by
  unfold IntKind.wrap IntKind.signed IntKind.bits
  have e : (n : Int) % 2 ^ 64 = n := Int.emod_eq_of_lt (by omega) (by omega)
  simp only [e]
  rw [if_neg (by simp)]
theorem tmod10 (n : Nat) : Int.tmod (n : Int) 10 = ((n % 10 : Nat) : Int) := rfl
theorem tdiv10 (n : Nat) : Int.tdiv (n : Int) 10 = ((n / 10 : Nat) : Int) := rfl
theorem und_bytes : und Try.prog 110 = .slice 5 := by kernel_rfl
theorem und_byte : und Try.prog 5 = .int .u8 := by kernel_rfl
theorem und_str : und Try.prog 9 = .string := by kernel_rfl
/-- One byte as a text. -/
theorem cvt_byte {h : Heap} {b : Nat} {v : Int} {t : TypeId} {K : Value → Heap → Prop} (e : h[b]? = some (.cells #[.int .u8 v] t)) (k : K (.string ⟨#[UInt8.ofNat v.toNat]⟩) h) : cvtH Try.prog 110 9 (.slice (some ⟨b, 0, none⟩) 1 1) h K := by
  unfold cvtH convert
  simp only [hp_bind, hp_underlying (und_some und_bytes (by simp)), hp_underlying (und_some und_str (by simp)), hp_underlying (und_some und_byte (by simp))]
  show hp Try.prog (Conv.bytesToString _) K h
  unfold Conv.bytesToString
  simp only [hp_bind]
  show hp Try.prog (loadCellsFrom ⟨b, 0, none⟩ 0 1 #[]) _ h
  refine hp_loadCellsFrom _ _ 0 [] _ ?_
  refine ldH_mk (v := .int .u8 v) ?_ ?_
  · rw [add_lit]; exact cellAt_row e
  show hp Try.prog _ _ h
  simp only [List.reverse_cons, List.reverse_nil, List.nil_append, List.forIn_toArray]
  exact k

/-- A loop's state: what the text will be. -/
def dgR (f m : Nat) (s : ByteArray) : ByteArray := if m < 10 then s else dgA f (m / 10) s
theorem dgR_start (n : Nat) : dgR 19 n ⟨#[dch n]⟩ = dg n := by
  unfold dgR dg
  show _ = (if n < 10 then ⟨#[dch n]⟩ ++ ⟨#[]⟩ else dgA 19 (n / 10) (⟨#[dch n]⟩ ++ ⟨#[]⟩))
  have e : (⟨#[dch n]⟩ : ByteArray) ++ ⟨#[]⟩ = ⟨#[dch n]⟩ := ByteArray.append_empty
  rw [e]
theorem dgR_step {f m : Nat} {s : ByteArray} (h : ¬ m < 10) : dgR (f + 1) m s = dgR f (m / 10) (⟨#[dch (m / 10)]⟩ ++ s) := by
  show (if m < 10 then s else dgA (f + 1) (m / 10) s) = _
  rw [if_neg h]
  rfl

theorem digits_call {K : Value → Heap → Prop} {h : Heap} {n : Nat} (hn : n < 4294967296) (k : ∀ h', Old h.size h h' → K (.string (dg n)) h') : CallH Try.prog 149 #[.int .u32 n] h K := by
  refine call149 ?_
  unfold F149
  refine ⟨fun vs h' => ∃ v, ∃ m f : Nat, ∃ s : ByteArray, vs = [.int .u32 m, v, .string s] ∧ m < 4294967296 ∧ m < 10 ^ (f + 1) ∧ dgA (f + 1) m s = dg n ∧ s.size + (f + 1) ≤ 20 ∧ Old h.size h h', fun vs _ => (match vs with | [.int _ m, _, _] => m.toNat | _ => 0),
    ⟨_, n, 19, ⟨#[]⟩, rfl, hn, by omega, rfl, Nat.le_refl _, Old.refl _ _⟩, ?_⟩
  rintro v2 v3 v4 g5 h6 ⟨w, m, f, s, e, hm, hf, hr, hs, o6⟩
  cases e
  simp only [asInt_int, asStr, tmod10, tdiv10]
  refine ⟨by omega, ?_⟩
  have e1 : IntKind.u32.wrap (48 + ((m % 10 : Nat) : Int)) = ((48 + m % 10 : Nat) : Int) := by
    rw [show (48 : Int) + ((m % 10 : Nat) : Int) = ((48 + m % 10 : Nat) : Int) by omega]; exact wrap32 (by omega)
  rw [e1, wrap8 (by omega), wrap32 (n := m / 10) (by omega)]
  have p := pushed h6 #[.int .u8 ((48 + m % 10 : Nat) : Int)] 5
  generalize h6.push (.cells #[.int .u8 ((48 + m % 10 : Nat) : Int)] 5) = h7 at *
  refine cvt_byte p.new ?_
  have ec : UInt8.ofNat ((48 + m % 10 : Nat) : Int).toNat = dch m := rfl
  rw [ec]
  refine ⟨by rw [one_size]; omega, by omega, ?_⟩
  have ok := o6.trans (p.toOld.mono o6.1)
  unfold dgA at hr
  refine ifB_mk (fun h0 => ?_) (fun h0 => ?_)
  · have hlt : m < 10 := by simp at h0; omega
    rw [if_pos hlt] at hr
    rw [hr]
    exact k _ ok
  · have hge : ¬ m < 10 := by intro hlt; simp at h0; omega
    rw [if_neg hge] at hr
    obtain ⟨f, rfl⟩ : ∃ f', f = f' + 1 := ⟨f - 1, by
      cases f with
      | zero => simp at hf; omega
      | succ f => rfl⟩
    refine ⟨⟨_, m / 10, f, _, rfl, by omega, by rw [Nat.pow_succ] at hf; omega, hr, by rw [ByteArray.size_append, one_size]; omega, ok⟩, ?_⟩
    show ((m / 10 : Nat) : Int).toNat < (m : Int).toNat
    omega

theorem dig_ex (k : Nat) (hk : k < 10) : (⟨#[48, 49, 50, 51, 52, 53, 54, 55, 56, 57]⟩ : ByteArray).extract k (k + 1) = ⟨#[UInt8.ofNat (48 + k)]⟩ := by
  match k, hk with
  | 0, _ | 1, _ | 2, _ | 3, _ | 4, _ | 5, _ | 6, _ | 7, _ | 8, _ | 9, _ => rfl
theorem Digits_call {K : Value → Heap → Prop} {h : Heap} {n : Nat} (hn : n < 18446744073709551616) (k : K (.string (dg n)) h) : CallH Try.prog 63 #[.int .u64 n] h K := by
  refine call63 ?_
  unfold F63
  have ew : ∀ m : Nat, IntKind.u64.wrap (((m % 10 : Nat) : Int) + 1) = ((m % 10 + 1 : Nat) : Int) := fun m => by
    rw [show ((m % 10 : Nat) : Int) + 1 = ((m % 10 + 1 : Nat) : Int) by omega]; exact wrap64u (by omega)
  simp only [tmod10, ew, Int.toNat_natCast]
  rw [dig_ex _ (by omega)]
  refine ⟨by omega, by omega, by omega, by omega, by omega, by omega, ?_⟩
  refine ⟨fun vs h' => ∃ m f : Nat, ∃ s : ByteArray, vs = [.int .u64 m, .string s] ∧ h' = h ∧ m < 18446744073709551616 ∧ m < 10 ^ (f + 1) ∧ dgR f m s = dg n ∧ s.size + f ≤ 20, fun vs _ => (match vs with | [.int _ m, _] => m.toNat | _ => 0),
    ⟨n, 19, _, rfl, rfl, hn, by omega, dgR_start n, by rw [one_size]; omega⟩, ?_⟩
  rintro v2 v3 g4 h5 ⟨m, f, s, e, rfl, hm, hf, hr, hs⟩
  cases e
  simp only [asInt_int, asStr, tmod10, tdiv10]
  refine ifB_dec (fun hge => ?_) (fun hlt => ?_)
  · have hge' : ¬ m < 10 := by omega
    rw [wrap64u (n := m / 10) (by omega)]
    simp only [tmod10, ew, Int.toNat_natCast]
    rw [dig_ex _ (by omega)]
    obtain ⟨f, rfl⟩ : ∃ f', f = f' + 1 := ⟨f - 1, by
      cases f with
      | zero => simp at hf; omega
      | succ f => rfl⟩
    rw [dgR_step hge'] at hr
    refine ⟨by omega, by omega, by omega, by omega, by omega, by omega, by omega, by rw [one_size]; omega, ⟨m / 10, f, _, rfl, by trivial, by omega, by rw [Nat.pow_succ] at hf; omega, hr, by rw [ByteArray.size_append, one_size]; omega⟩, ?_⟩
    show ((m / 10 : Nat) : Int).toNat < (m : Int).toNat
    omega
  · unfold dgR at hr
    rw [if_pos (by omega)] at hr
    rw [hr]; exact k
end Go.Proofs.Ytgladmaagpcffaa
