/- Rows of layer 40: their numbers, their lines. -/
import Derived.Test.YtgladmaagpcffaaYc
set_option linter.unusedSimpArgs false
set_option linter.unusedVariables false
set_option maxRecDepth 20000
namespace Go.Proofs.Ytgladmaagpcffaa

/-- A row's seven numbers. -/
structure Ro where
  c0 : Int
  c1 : Int
  c2 : Int
  c3 : Int
  c4 : Int
  c5 : Int
  c6 : Int
abbrev Ro.ns (r : Ro) : List Int := [r.c0, r.c1, r.c2, r.c3, r.c4, r.c5, r.c6]
abbrev Ro.cells (r : Ro) : List Value := [iv r.c0, iv r.c1, iv r.c2, iv r.c3, iv r.c4, iv r.c5, iv r.c6]
/-- All are from 0 to a bound. -/
structure Bd (B : Int) (r : Ro) : Prop where
  b0 : 0 ≤ r.c0 ∧ r.c0 ≤ B
  b1 : 0 ≤ r.c1 ∧ r.c1 ≤ B
  b2 : 0 ≤ r.c2 ∧ r.c2 ≤ B
  b3 : 0 ≤ r.c3 ∧ r.c3 ≤ B
  b4 : 0 ≤ r.c4 ∧ r.c4 ≤ B
  b5 : 0 ≤ r.c5 ∧ r.c5 ≤ B
  b6 : 0 ≤ r.c6 ∧ r.c6 ≤ B
def dgI (x : Int) : ByteArray := dg x.toNat
theorem dgI_size (x : Int) : (dgI x).size ≤ 20 := dg_size _
theorem right2_call {K : Value → Heap → Prop} {h : Heap} {a b : Int} (k : ∀ h', Old h.size h h' → K (.bool true) h') : CallH Try.prog 148 #[.agg #[.int .i64 2, .int .u32 a, .int .u32 b]] h K := by
  refine call148 ?_
  unfold F148
  have p := pushed h #[.int .i64 2, .int .u32 a, .int .u32 b] 59
  generalize h.push (.cells #[.int .i64 2, .int .u32 a, .int .u32 b] 59) = h1 at *
  refine ldR p.new rfl ?_
  simp only [asInt_int]
  exact ifB_mk (fun _ => k _ p.toOld) (fun e => by simp at e)
theorem tellPair_call {K : Value → Heap → Prop} {h : Heap} {a b : Nat} (ha : a < 4294967296) (hb : b < 4294967296) (k : ∀ h', Old h.size h h' → K (.string (dg a ++ (⟨#[32]⟩ : ByteArray) ++ dg b)) h') :
    CallH Try.prog 127 #[.agg #[.int .i64 2, .int .u32 a, .int .u32 b]] h K := by
  refine call127 ?_
  unfold F127
  have p := pushed h #[.int .i64 2, .int .u32 a, .int .u32 b] 59
  generalize h.push (.cells #[.int .i64 2, .int .u32 a, .int .u32 b] 59) = h1 at *
  refine ldR p.new rfl (ldR p.new rfl (ldR p.new rfl ?_))
  refine callV_fn (right2_call fun h4 o4 => ?_)
  simp only [asBool_bool, Bool.not_true, ifB_false]
  have c : ∀ (i : Nat) (v : Value), ([.int .i64 2, .int .u32 a, .int .u32 b] : List Value)[i]? = some v → cellAt h4 ⟨h.size, i, none⟩ = some v := fun i v e => cell_stable _ _ o4 (cellR p.new e)
  have ok4 := p.toOld.trans (o4.mono p.toOld.1)
  refine ldH_mk (c 0 _ rfl) ?_
  simp only [asInt_int]
  refine ifB_mk (fun e => by simp at e) (fun _ => ifB_mk (fun e => by simp at e) (fun _ => ifB_mk (fun e => by simp at e) (fun _ => ?_)))
  refine ldH_mk (c 1 _ rfl) ?_
  simp only [asInt_int]
  refine ldH_mk (c 2 _ rfl) ?_
  simp only [asInt_int]
  have sa := dg_size a
  have sb := dg_size b
  refine callV_fn (digits_call ha fun h13 o13 => ?_)
  simp only [asStr]
  refine ⟨cell_stable _ _ o13 (c 2 _ rfl), by omega, ?_⟩
  refine callV_fn (digits_call hb fun h16 o16 => ?_)
  simp only [asStr]
  refine ⟨by rw [ByteArray.size_append, one_size]; omega, ?_⟩
  exact k _ ((ok4.trans (o13.mono ok4.1)).trans (o16.mono (Nat.le_trans ok4.1 o13.1)))
theorem trimSuffix_call {K : Value → Heap → Prop} {h : Heap} {s x : ByteArray} (hs : s.size < 2 ^ 60) (hx : x.size < 2 ^ 60) (k : K (.string s) h) :
    CallH Try.prog 126 #[.string (s ++ x), .string x] h K := by
  refine call126 ?_
  unfold F126
  refine callV_fn (call147 ?_)
  unfold F147
  refine callV_fn (call157 ?_)
  unfold F157
  have e : IntKind.i64.wrap ((((s ++ x).size : Nat) : Int) - ((x.size : Nat) : Int)) = ((s.size : Nat) : Int) := by
    rw [ByteArray.size_append, wrap64_id' (by omega) (by omega)]; omega
  rw [e, Int.toNat_natCast]
  have hsz : (s ++ x).size = s.size + x.size := ByteArray.size_append
  refine ifB_dec (fun _ => ⟨by omega, by omega, ?_⟩) (fun hn => by omega)
  rw [ByteArray.extract_append_eq_right rfl hsz, ByteArray.extract_append_eq_left rfl]
  simp only [beq_self_eq_true, asBool_bool, ifB_true]
  exact ⟨by omega, by omega, k⟩
theorem digits40_call {K : Value → Heap → Prop} {h : Heap} {x : Int} (h0 : 0 ≤ x) (h1 : x < 4294967296) (k : ∀ h', Old h.size h h' → K (.string (dgI x)) h') : CallH Try.prog 101 #[iv x] h K := by
  refine call101 ?_
  unfold F101
  obtain ⟨n, rfl⟩ : ∃ n : Nat, x = n := ⟨x.toNat, by omega⟩
  rw [wrap32 (n := n) (by omega)]
  refine callV_fn (tellPair_call (a := n) (b := 0) (by omega) (by omega) fun h1 o1 => ?_)
  simp only [asStr]
  have e : dg n ++ (⟨#[32]⟩ : ByteArray) ++ dg 0 = dg n ++ (⟨#[32, 48]⟩ : ByteArray) := by
    rw [ByteArray.append_assoc]; rfl
  rw [e]
  have := dg_size n
  refine callV_fn (trimSuffix_call (by omega) (show (2 : Nat) < 2 ^ 60 by omega) ?_)
  exact k _ o1
theorem lineDigits_call {K : Value → Heap → Prop} {h : Heap} {x : Int} (h0 : 0 ≤ x) (h1 : x < 4294967296) (k : K (.string (dgI x)) h) : CallH Try.prog 96 #[iv x] h K := by
  refine call96 ?_
  unfold F96
  obtain ⟨n, rfl⟩ : ∃ n : Nat, x = n := ⟨x.toNat, by omega⟩
  rw [wrap64u (n := n) (by omega)]
  exact callV_fn (Digits_call (by omega) k)

/-- A row's line. -/
def lineT (name : ByteArray) (r : Ro) : ByteArray :=
  name ++ (⟨#[32, 99, 97, 108, 108, 115, 32]⟩ : ByteArray) ++ dgI r.c0 ++ (⟨#[32, 100, 111, 110, 101, 32]⟩ : ByteArray) ++ dgI r.c1 ++ (⟨#[32, 102, 117, 108, 108, 32]⟩ : ByteArray) ++ dgI r.c2 ++ (⟨#[32, 112, 97, 105, 114, 115, 32]⟩ : ByteArray) ++ dgI r.c3 ++ (⟨#[32, 101, 109, 112, 116, 121, 32]⟩ : ByteArray) ++ dgI r.c4 ++ (⟨#[32, 115, 116, 101, 112, 115, 32]⟩ : ByteArray) ++ dgI r.c5 ++ (⟨#[32, 109, 105, 115, 115, 101, 100, 32]⟩ : ByteArray) ++ dgI r.c6 ++ (⟨#[10]⟩ : ByteArray)
theorem lineT_size (name : ByteArray) (r : Ro) : (lineT name r).size ≤ name.size + 200 := by
  unfold lineT
  have s0 := dgI_size r.c0
  have s1 := dgI_size r.c1
  have s2 := dgI_size r.c2
  have s3 := dgI_size r.c3
  have s4 := dgI_size r.c4
  have s5 := dgI_size r.c5
  have s6 := dgI_size r.c6
  simp only [ByteArray.size_append]
  have t0 : (⟨#[32, 99, 97, 108, 108, 115, 32]⟩ : ByteArray).size = 7 := rfl
  have t1 : (⟨#[32, 100, 111, 110, 101, 32]⟩ : ByteArray).size = 6 := rfl
  have t2 : (⟨#[32, 102, 117, 108, 108, 32]⟩ : ByteArray).size = 6 := rfl
  have t3 : (⟨#[32, 112, 97, 105, 114, 115, 32]⟩ : ByteArray).size = 7 := rfl
  have t4 : (⟨#[32, 101, 109, 112, 116, 121, 32]⟩ : ByteArray).size = 7 := rfl
  have t5 : (⟨#[32, 115, 116, 101, 112, 115, 32]⟩ : ByteArray).size = 7 := rfl
  have t6 : (⟨#[32, 109, 105, 115, 115, 101, 100, 32]⟩ : ByteArray).size = 8 := rfl
  have t7 : (⟨#[10]⟩ : ByteArray).size = 1 := rfl
  omega
theorem line40_call {K : Value → Heap → Prop} {h : Heap} {name : ByteArray} {r : Ro} (hn : name.size ≤ 1000) (hb : Bd 1000000000 r) (k : ∀ h', Old h.size h h' → K (.string (lineT name r)) h') :
    CallH Try.prog 62 #[.string name, .agg r.cells.toArray] h K := by
  refine call62 ?_
  unfold F62
  have p := pushed h r.cells.toArray 72
  rw [show h.push (.cells #[.int .i64 r.c0, .int .i64 r.c1, .int .i64 r.c2, .int .i64 r.c3, .int .i64 r.c4, .int .i64 r.c5, .int .i64 r.c6] 72) = h.push (.cells r.cells.toArray 72) from rfl]
  generalize h.push (.cells r.cells.toArray 72) = h1 at *
  have c : ∀ (i : Nat) (v : Value), r.cells[i]? = some v → cellAt h1 ⟨h.size, i, none⟩ = some v := fun i v e => cellR p.new e
  obtain ⟨b0, b1, b2, b3, b4, b5, b6⟩ := hb
  have s0 := dgI_size r.c0
  have s1 := dgI_size r.c1
  have s2 := dgI_size r.c2
  have s3 := dgI_size r.c3
  have s4 := dgI_size r.c4
  have s5 := dgI_size r.c5
  have s6 := dgI_size r.c6
  have t0 : (⟨#[32, 99, 97, 108, 108, 115, 32]⟩ : ByteArray).size = 7 := rfl
  have t1 : (⟨#[32, 100, 111, 110, 101, 32]⟩ : ByteArray).size = 6 := rfl
  have t2 : (⟨#[32, 102, 117, 108, 108, 32]⟩ : ByteArray).size = 6 := rfl
  have t3 : (⟨#[32, 112, 97, 105, 114, 115, 32]⟩ : ByteArray).size = 7 := rfl
  have t4 : (⟨#[32, 101, 109, 112, 116, 121, 32]⟩ : ByteArray).size = 7 := rfl
  have t5 : (⟨#[32, 115, 116, 101, 112, 115, 32]⟩ : ByteArray).size = 7 := rfl
  have t6 : (⟨#[32, 109, 105, 115, 115, 101, 100, 32]⟩ : ByteArray).size = 8 := rfl
  have t7 : (⟨#[10]⟩ : ByteArray).size = 1 := rfl
  refine ⟨by omega, ?_⟩
  refine ldH_mk (c 0 _ rfl) ?_
  simp only [asInt_int]
  refine ldH_mk (c 1 _ rfl) ?_
  simp only [asInt_int]
  refine ldH_mk (c 2 _ rfl) ?_
  simp only [asInt_int]
  refine ldH_mk (c 3 _ rfl) ?_
  simp only [asInt_int]
  refine ldH_mk (c 4 _ rfl) ?_
  simp only [asInt_int]
  refine ldH_mk (c 5 _ rfl) ?_
  simp only [asInt_int]
  refine ldH_mk (c 6 _ rfl) ?_
  simp only [asInt_int]
  refine callV_fn (lineDigits_call (x := r.c0) (by omega) (by omega) ?_)
  simp only [asStr]
  refine ⟨c 6 _ rfl, c 5 _ rfl, c 4 _ rfl, c 3 _ rfl, c 2 _ rfl, c 1 _ rfl, by simp only [ByteArray.size_append]; omega, by simp only [ByteArray.size_append]; omega, ?_⟩
  refine callV_fn (lineDigits_call (x := r.c1) (by omega) (by omega) ?_)
  simp only [asStr]
  refine ⟨c 6 _ rfl, c 5 _ rfl, c 4 _ rfl, c 3 _ rfl, c 2 _ rfl, by simp only [ByteArray.size_append]; omega, by simp only [ByteArray.size_append]; omega, ?_⟩
  refine callV_fn (lineDigits_call (x := r.c2) (by omega) (by omega) ?_)
  simp only [asStr]
  refine ⟨c 6 _ rfl, c 5 _ rfl, c 4 _ rfl, c 3 _ rfl, by simp only [ByteArray.size_append]; omega, by simp only [ByteArray.size_append]; omega, ?_⟩
  refine callV_fn (lineDigits_call (x := r.c3) (by omega) (by omega) ?_)
  simp only [asStr]
  refine ⟨c 6 _ rfl, c 5 _ rfl, c 4 _ rfl, by simp only [ByteArray.size_append]; omega, by simp only [ByteArray.size_append]; omega, ?_⟩
  refine callV_fn (lineDigits_call (x := r.c4) (by omega) (by omega) ?_)
  simp only [asStr]
  refine ⟨c 6 _ rfl, c 5 _ rfl, by simp only [ByteArray.size_append]; omega, by simp only [ByteArray.size_append]; omega, ?_⟩
  refine callV_fn (lineDigits_call (x := r.c5) (by omega) (by omega) ?_)
  simp only [asStr]
  refine ⟨c 6 _ rfl, by simp only [ByteArray.size_append]; omega, by simp only [ByteArray.size_append]; omega, ?_⟩
  refine callV_fn (lineDigits_call (x := r.c6) (by omega) (by omega) ?_)
  simp only [asStr]
  refine ⟨by simp only [ByteArray.size_append]; omega, by simp only [ByteArray.size_append]; omega, ?_⟩
  exact k _ p.toOld

/-- Columns' names. -/
def nmT : List ByteArray := [(⟨#[99, 97, 108, 108, 115]⟩ : ByteArray), (⟨#[100, 111, 110, 101]⟩ : ByteArray), (⟨#[102, 117, 108, 108]⟩ : ByteArray), (⟨#[112, 97, 105, 114, 115]⟩ : ByteArray), (⟨#[101, 109, 112, 116, 121]⟩ : ByteArray), (⟨#[115, 116, 101, 112, 115]⟩ : ByteArray), (⟨#[109, 105, 115, 115, 101, 100]⟩ : ByteArray)]
def nmV : List Value := nmT.map Value.string
theorem names_call {K : Value → Heap → Prop} {h : Heap} (k : ∀ h', Old h.size h h' → K (.agg nmV.toArray) h') : CallH Try.prog 125 #[] h K := by
  refine call125 ?_
  unfold F125
  have p := pushed h (List.replicate 7 (.string (⟨#[]⟩ : ByteArray))).toArray 151
  rw [show h.push (.cells #[.string (⟨#[]⟩ : ByteArray), .string (⟨#[]⟩ : ByteArray), .string (⟨#[]⟩ : ByteArray), .string (⟨#[]⟩ : ByteArray), .string (⟨#[]⟩ : ByteArray), .string (⟨#[]⟩ : ByteArray), .string (⟨#[]⟩ : ByteArray)] 151) = h.push (.cells (List.replicate 7 (.string (⟨#[]⟩ : ByteArray))).toArray 151) from rfl]
  generalize h.push (.cells (List.replicate 7 (.string (⟨#[]⟩ : ByteArray))).toArray 151) = h1 at *
  refine st7 (stN_full (vs := nmV) p.new rfl (by intro y hy; unfold nmV at hy; obtain ⟨b, _, rfl⟩ := List.mem_map.1 hy; exact trivial) fun h2 w => ?_)
  refine ldR w.new rfl (ldR w.new rfl (ldR w.new rfl (ldR w.new rfl (ldR w.new rfl (ldR w.new rfl (ldR w.new rfl ?_))))))
  exact k _ (w.toOld p.toOld (Nat.le_refl _))
theorem cells_one (r : Ro) : ∀ y ∈ r.cells, oneC y True := by
  intro y hy
  simp only [List.mem_cons, List.not_mem_nil, or_false] at hy
  rcases hy with rfl | rfl | rfl | rfl | rfl | rfl | rfl <;> exact trivial
theorem numbers_call {K : Value → Heap → Prop} {h : Heap} {r : Ro} (k : ∀ h', Old h.size h h' → K (.agg r.cells.toArray) h') : CallH Try.prog 97 #[.agg r.cells.toArray] h K := by
  refine call97 ?_
  unfold F97
  have p := pushed h r.cells.toArray 72
  rw [show h.push (.cells #[.int .i64 r.c0, .int .i64 r.c1, .int .i64 r.c2, .int .i64 r.c3, .int .i64 r.c4, .int .i64 r.c5, .int .i64 r.c6] 72) = h.push (.cells r.cells.toArray 72) from rfl]
  generalize h.push (.cells r.cells.toArray 72) = h1 at *
  have s1 := p.size
  have p2 := pushed h1 (List.replicate 7 (iv 0)).toArray 105
  rw [show h1.push (.cells #[.int .i64 0, .int .i64 0, .int .i64 0, .int .i64 0, .int .i64 0, .int .i64 0, .int .i64 0] 105) = h1.push (.cells (List.replicate 7 (iv 0)).toArray 105) from rfl]
  generalize h1.push (.cells (List.replicate 7 (iv 0)).toArray 105) = h2 at *
  have e2 : h2[h.size]? = some (.cells r.cells.toArray 72) := (p2.old _ (by omega)).trans p.new
  have o2 := p.toOld.trans (p2.toOld.mono (by omega))
  refine ldR e2 rfl ?_
  simp only [asInt_int]
  refine ldR e2 rfl ?_
  simp only [asInt_int]
  refine ldR e2 rfl ?_
  simp only [asInt_int]
  refine ldR e2 rfl ?_
  simp only [asInt_int]
  refine ldR e2 rfl ?_
  simp only [asInt_int]
  refine ldR e2 rfl ?_
  simp only [asInt_int]
  refine ldR e2 rfl ?_
  simp only [asInt_int]
  refine st7 (stN_full (vs := r.cells) p2.new rfl (cells_one r) fun h3 w => ?_)
  refine ldR w.new rfl (ldR w.new rfl (ldR w.new rfl (ldR w.new rfl (ldR w.new rfl (ldR w.new rfl (ldR w.new rfl ?_))))))
  exact k _ (w.toOld o2 (by omega))
theorem row40_call {K : Value → Heap → Prop} {h : Heap} {r : Ro} (k : ∀ h', Old h.size h h' → K (.agg r.cells.toArray) h') : CallH Try.prog 98 #[.agg r.cells.toArray] h K := by
  refine call98 ?_
  unfold F98
  have p := pushed h r.cells.toArray 105
  rw [show h.push (.cells #[.int .i64 r.c0, .int .i64 r.c1, .int .i64 r.c2, .int .i64 r.c3, .int .i64 r.c4, .int .i64 r.c5, .int .i64 r.c6] 105) = h.push (.cells r.cells.toArray 105) from rfl]
  generalize h.push (.cells r.cells.toArray 105) = h1 at *
  have s1 := p.size
  have p2 := pushed h1 (List.replicate 7 (iv 0)).toArray 72
  rw [show h1.push (.cells #[.int .i64 0, .int .i64 0, .int .i64 0, .int .i64 0, .int .i64 0, .int .i64 0, .int .i64 0] 72) = h1.push (.cells (List.replicate 7 (iv 0)).toArray 72) from rfl]
  generalize h1.push (.cells (List.replicate 7 (iv 0)).toArray 72) = h2 at *
  have e2 : h2[h.size]? = some (.cells r.cells.toArray 105) := (p2.old _ (by omega)).trans p.new
  have o2 := p.toOld.trans (p2.toOld.mono (by omega))
  refine ⟨by omega, by omega, ldR e2 rfl ?_⟩
  simp only [asInt_int]
  refine ⟨by omega, by omega, ldR e2 rfl ?_⟩
  simp only [asInt_int]
  refine ⟨by omega, by omega, ldR e2 rfl ?_⟩
  simp only [asInt_int]
  refine ⟨by omega, by omega, ldR e2 rfl ?_⟩
  simp only [asInt_int]
  refine ⟨by omega, by omega, ldR e2 rfl ?_⟩
  simp only [asInt_int]
  refine ⟨by omega, by omega, ldR e2 rfl ?_⟩
  simp only [asInt_int]
  refine ⟨by omega, by omega, ldR e2 rfl ?_⟩
  simp only [asInt_int]
  refine st7 (stN_full (vs := r.cells) p2.new rfl (cells_one r) fun h3 w => ?_)
  refine ldR w.new rfl (ldR w.new rfl (ldR w.new rfl (ldR w.new rfl (ldR w.new rfl (ldR w.new rfl (ldR w.new rfl ?_))))))
  exact k _ (w.toOld o2 (by omega))

/-- A line's first columns, as layer 40 makes them. -/
def lineP (name : ByteArray) (r : Ro) : Nat → ByteArray
  | 0 => name
  | i + 1 => lineP name r i ++ ((⟨#[32]⟩ : ByteArray) ++ nmT.getD i ⟨#[]⟩ ++ (⟨#[32]⟩ : ByteArray) ++ dgI (r.ns.getD i 0))
theorem lineP_eq (name : ByteArray) (r : Ro) : lineP name r 7 ++ (⟨#[10]⟩ : ByteArray) = lineT name r := by
  have e0 : (⟨#[32]⟩ : ByteArray) ++ nmT.getD 0 ⟨#[]⟩ ++ (⟨#[32]⟩ : ByteArray) ++ dgI (r.ns.getD 0 0) = (⟨#[32, 99, 97, 108, 108, 115, 32]⟩ : ByteArray) ++ dgI r.c0 := rfl
  have e1 : (⟨#[32]⟩ : ByteArray) ++ nmT.getD 1 ⟨#[]⟩ ++ (⟨#[32]⟩ : ByteArray) ++ dgI (r.ns.getD 1 0) = (⟨#[32, 100, 111, 110, 101, 32]⟩ : ByteArray) ++ dgI r.c1 := rfl
  have e2 : (⟨#[32]⟩ : ByteArray) ++ nmT.getD 2 ⟨#[]⟩ ++ (⟨#[32]⟩ : ByteArray) ++ dgI (r.ns.getD 2 0) = (⟨#[32, 102, 117, 108, 108, 32]⟩ : ByteArray) ++ dgI r.c2 := rfl
  have e3 : (⟨#[32]⟩ : ByteArray) ++ nmT.getD 3 ⟨#[]⟩ ++ (⟨#[32]⟩ : ByteArray) ++ dgI (r.ns.getD 3 0) = (⟨#[32, 112, 97, 105, 114, 115, 32]⟩ : ByteArray) ++ dgI r.c3 := rfl
  have e4 : (⟨#[32]⟩ : ByteArray) ++ nmT.getD 4 ⟨#[]⟩ ++ (⟨#[32]⟩ : ByteArray) ++ dgI (r.ns.getD 4 0) = (⟨#[32, 101, 109, 112, 116, 121, 32]⟩ : ByteArray) ++ dgI r.c4 := rfl
  have e5 : (⟨#[32]⟩ : ByteArray) ++ nmT.getD 5 ⟨#[]⟩ ++ (⟨#[32]⟩ : ByteArray) ++ dgI (r.ns.getD 5 0) = (⟨#[32, 115, 116, 101, 112, 115, 32]⟩ : ByteArray) ++ dgI r.c5 := rfl
  have e6 : (⟨#[32]⟩ : ByteArray) ++ nmT.getD 6 ⟨#[]⟩ ++ (⟨#[32]⟩ : ByteArray) ++ dgI (r.ns.getD 6 0) = (⟨#[32, 109, 105, 115, 115, 101, 100, 32]⟩ : ByteArray) ++ dgI r.c6 := rfl
  simp only [lineP, e0, e1, e2, e3, e4, e5, e6]
  unfold lineT
  simp only [ByteArray.append_assoc]
theorem nmT_size (i : Nat) : (nmT.getD i ⟨#[]⟩).size ≤ 6 := by
  match i with
  | 0 | 1 | 2 | 3 | 4 | 5 | 6 => decide
  | i + 7 => exact Nat.zero_le _
theorem lineP_size (name : ByteArray) (r : Ro) : ∀ i, (lineP name r i).size ≤ name.size + 28 * i := by
  intro i
  induction i with
  | zero => exact Nat.le_refl _
  | succ i ih =>
    unfold lineP
    simp only [ByteArray.size_append, one_size]
    have := nmT_size i
    have := dgI_size (r.ns.getD i 0)
    omega
theorem Bd.get {B : Int} {r : Ro} (H : Bd B r) (hB : 0 ≤ B) (i : Nat) : 0 ≤ r.ns.getD i 0 ∧ r.ns.getD i 0 ≤ B := by
  obtain ⟨b0, b1, b2, b3, b4, b5, b6⟩ := H
  match i with
  | 0 => exact b0
  | 1 => exact b1
  | 2 => exact b2
  | 3 => exact b3
  | 4 => exact b4
  | 5 => exact b5
  | 6 => exact b6
  | i + 7 => exact ⟨Int.le_refl _, hB⟩
theorem partH_row {cs : List Value} {t : TypeId} {i : Nat} {v : Value} {K : Value → Prop} (hs : siz Try.prog t = 1) (ha : aggT Try.prog t = false) (e : cs[i]? = some v) (k : K v) : partH Try.prog t cs.toArray (i * 1) K := by
  have : partV Try.prog t cs.toArray (i * 1) = some v := by
    unfold partV
    rw [if_neg (by simp [ha]), Nat.mul_one, List.getElem?_toArray, e]
  unfold partH
  rw [this]
  exact k
theorem siz_int7 : siz Try.prog 3 = 1 := by kernel_rfl
theorem siz_str7 : siz Try.prog 9 = 1 := by kernel_rfl
theorem agg_int7 : aggT Try.prog 3 = false := by kernel_rfl
theorem agg_str7 : aggT Try.prog 9 = false := by kernel_rfl

theorem tallyLine_call {K : Value → Heap → Prop} {h : Heap} {name : ByteArray} {r : Ro} (hn : name.size ≤ 1000) (hb : Bd 1000000000 r) (k : ∀ h', Old h.size h h' → K (.string (lineT name r)) h') :
    CallH Try.prog 100 #[.string name, .agg r.cells.toArray] h K := by
  refine call100 ?_
  unfold F100
  have p := pushed h r.cells.toArray 72
  rw [show h.push (.cells #[.int .i64 r.c0, .int .i64 r.c1, .int .i64 r.c2, .int .i64 r.c3, .int .i64 r.c4, .int .i64 r.c5, .int .i64 r.c6] 72) = h.push (.cells r.cells.toArray 72) from rfl]
  generalize h.push (.cells r.cells.toArray 72) = h1 at *
  have c : ∀ (i : Nat) (v : Value), r.cells[i]? = some v → cellAt h1 ⟨h.size, i, none⟩ = some v := fun i v e => cellR p.new e
  refine ldH_mk (c 0 _ rfl) (ldH_mk (c 1 _ rfl) (ldH_mk (c 2 _ rfl) (ldH_mk (c 3 _ rfl) (ldH_mk (c 4 _ rfl) (ldH_mk (c 5 _ rfl) (ldH_mk (c 6 _ rfl) ?_))))))
  refine callV_fn (numbers_call (r := r) fun h8 o8 => ?_)
  simp only [asAgg_agg]
  refine sizeH_mk rfl (elemH_mk rfl (elemH_mk rfl (elemH_mk rfl (elemH_mk rfl (elemH_mk rfl (elemH_mk rfl (elemH_mk rfl ?_)))))))
  have ok8 := p.toOld.trans (o8.mono p.toOld.1)
  refine ⟨fun vs h' => ∃ w1 w2, ∃ i : Nat, vs = [.string (lineP name r i), w1, w2, iv i] ∧ i ≤ 7 ∧ Old h.size h h', fun vs _ => (match vs with | [_, _, _, .int _ n] => 7 - n.toNat | _ => 0), ⟨_, _, 0, rfl, Nat.zero_le _, ok8⟩, ?_⟩
  rintro v19 v20 v21 v22 g23 h24 ⟨w1, w2, i, e, hi, o24⟩
  cases e
  have hsz := lineP_size name r i
  simp only [asInt_int, asI_int, asStr]
  refine ifB_dec (fun hlt => ?_) (fun hge => ?_)
  · have hi7 : i < 7 := by omega
    obtain ⟨hx0, hx1⟩ := hb.get (by omega) i
    refine ⟨by omega, hlt, ?_⟩
    simp only [Int.toNat_natCast]
    have er : r.cells[i]? = some (iv (r.ns.getD i 0)) := by
      match i, hi7 with
      | 0, _ | 1, _ | 2, _ | 3, _ | 4, _ | 5, _ | 6, _ => rfl
    refine partH_row siz_int7 agg_int7 er ?_
    simp only [asInt_int]
    refine callV_fn (names_call fun h32 o32 => ?_)
    simp only [asAgg_agg]
    refine sizeH_mk rfl (elemH_mk rfl (elemH_mk rfl (elemH_mk rfl (elemH_mk rfl (elemH_mk rfl (elemH_mk rfl (elemH_mk rfl ?_)))))))
    refine ⟨by omega, hlt, ?_⟩
    have en : nmV[i]? = some (.string (nmT.getD i ⟨#[]⟩)) := by
      match i, hi7 with
      | 0, _ | 1, _ | 2, _ | 3, _ | 4, _ | 5, _ | 6, _ => rfl
    refine partH_row (cs := nmV) siz_str7 agg_str7 en ?_
    simp only [asStr]
    have hnm := nmT_size i
    have hdg := dgI_size (r.ns.getD i 0)
    refine ⟨by omega, by rw [ByteArray.size_append, one_size]; omega, ?_⟩
    refine callV_fn (digits40_call hx0 (by omega) fun h44 o44 => ?_)
    simp only [asStr]
    refine ⟨by simp only [ByteArray.size_append, one_size]; omega, by simp only [ByteArray.size_append, one_size]; omega, ?_⟩
    rw [nat_wrap1 (by omega)]
    refine ⟨⟨_, _, i + 1, rfl, by omega, (o24.trans (o32.mono o24.1)).trans (o44.mono (Nat.le_trans o24.1 o32.1))⟩, ?_⟩
    show 7 - ((i + 1 : Nat) : Int).toNat < 7 - (i : Int).toNat
    omega
  · obtain rfl : i = 7 := by omega
    refine ⟨by omega, ?_⟩
    rw [lineP_eq]
    exact k _ o24
end Go.Proofs.Ytgladmaagpcffaa
