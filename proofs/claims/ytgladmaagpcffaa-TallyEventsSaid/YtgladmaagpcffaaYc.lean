/- Texts appended; the builder's calls; digits of layer 40. -/
import Derived.Test.YtgladmaagpcffaaYb
set_option linter.unusedSimpArgs false
set_option linter.unusedVariables false
set_option maxRecDepth 20000
namespace Go.Proofs.Ytgladmaagpcffaa

/-- A text's bytes as cells. -/
def bcs (s : ByteArray) : List Value := s.data.toList.map fun b => .int .u8 b.toNat
theorem bcs_len (s : ByteArray) : (bcs s).length = s.size := by unfold bcs; rw [List.length_map, Array.length_toList]; rfl
theorem bcs_append (s x : ByteArray) : bcs (s ++ x) = bcs s ++ bcs x := by
  unfold bcs
  rw [ByteArray.data_append, Array.toList_append, List.map_append]
/-- append a text to a row of bytes of one's own. -/
theorem appS_own {P : Program} {t t2 elem : TypeId} {z : Value} {h : Heap} {a : Option Addr} {l c n : Nat} {s : ByteArray} {xs ys : List Value} {K : Value → Heap → Prop} (hu2 : und P t2 = .string) (hns : s.size = n) (hys : ys = bcs s)
    (hu : und P t = .slice elem) (hth : there P elem = true) (hz : zer P elem = some z) (hzs : z.cells.size = siz P elem)
    (ho : Own h elem (siz P elem) a l c xs) (hn : ys.length = n * siz P elem) (hone : ∀ y ∈ ys, oneC y True) (hb0 : 0 < byt P elem) (hb : (2 * (l + n) + 512) * byt P elem ≤ 2 ^ 48)
    (H : ∀ a' c' h', Own h' elem (siz P elem) a' (l + n) c' (xs ++ ys) → h.size ≤ h'.size → (∀ b, b < h.size → (∀ ad, a = some ad → ad.block ≠ b) → h'[b]? = h[b]?) → (a' = a ∨ a' = some ⟨h.size, 0, none⟩) → K (.slice a' (l + n) c') h') :
    appH P #[t, t2] t #[.slice a l c, .string s] h K := by
  have hu' := und_some hu (by simp)
  obtain ⟨info, hinfo⟩ := there_some hth
  have hbyt : info.bytes = byt P elem := by unfold byt; rw [hinfo]
  have hu2' := und_some hu2 (by simp)
  have first : ∀ (F : Array Value → Heap → Prop), F ys.toArray h → hp P (Builtin.firstCells (siz P elem) n (.string s)) F h := by
    intro F k
    subst hys hns
    show F ((s.extract 0 s.size).data.map fun b => Value.int .u8 b.toNat) h
    rw [ByteArray.extract_zero_size]
    have e : (bcs s).toArray = s.data.map fun b => Value.int .u8 b.toNat := by
      unfold bcs
      rw [← Array.toList_map]
    rw [← e]; exact k
  unfold appH Builtin.append_
  simp only [List.getElem?_toArray, List.getElem?_cons_zero, List.getElem?_cons_succ, hp_bind, hp_pure, hp_underlying hu', hp_underlying hu2', hp_sizeOf hth, Bool.false_eq_true, if_false]
  show hp P (Builtin.lenOf _) _ h
  simp only [Builtin.lenOf, hp_pure, hns]
  rw [hp_ite]
  obtain ⟨hl, hlc, hor⟩ := ho
  split
  · rename_i hcap
    simp only [hp_bind]
    show hp P (if (!false) = true then _ else _) _ h
    refine first _ ?_
    rcases hor with ⟨rfl, rfl⟩ | ⟨b, row, rfl, hb2, hrs, hrt⟩
    · have e1 : l + n = 0 := by omega
      have e2 : n = 0 := by omega
      subst e2
      have : ys = [] := by simpa using hn
      subst this
      simp only [hp_bind, hp_pure]
      refine H none 0 h ⟨by simp [hl], by omega, .inl ⟨rfl, rfl⟩⟩ (Nat.le_refl _) (fun _ _ _ => rfl) (.inl rfl)
    · simp only [hp_bind]
      have hlt := (Array.getElem?_eq_some_iff.1 hb2).1
      have hmul : (l + n) * siz P elem ≤ c * siz P elem := Nat.mul_le_mul_right _ hcap
      rw [Nat.add_mul] at hmul
      refine hp_storeCells _ _ h 0 _ ?_
      rw [add_lit]
      refine stN_row ys h b _ 0 row elem _ hb2 (by omega) hone ?_
      intro row' h1 h2
      simp only [hp_pure]
      refine H (some ⟨b, 0, none⟩) c _ ⟨by simp [hl, hn, Nat.add_mul], hcap, .inr ⟨b, row', rfl, set_new hlt, by rw [h1, hrs], ?_⟩⟩ (by simp) (fun b' hb' hne => set_old (Ne.symm (hne _ rfl))) (.inl rfl)
      apply List.ext_getElem?
      intro j
      rw [List.getElem?_take, Array.getElem?_toList, h2 j]
      rw [Nat.add_mul]
      by_cases c1 : j < l * siz P elem
      · rw [if_pos (by omega), if_neg (by omega), List.getElem?_append_left (by omega), ← hrt, List.getElem?_take, if_pos c1, Array.getElem?_toList]
      · rw [List.getElem?_append_right (by omega)]
        by_cases c2 : j < l * siz P elem + n * siz P elem
        · rw [if_pos c2, if_pos (by omega)]
          congr 1; omega
        · rw [if_neg c2]
          symm; apply List.getElem?_eq_none; omega
  · rename_i hcap
    simp only [hp_bind, hp_pure]
    have hbound : ¬ Builtin.nextslicecap (l + n) c * info.bytes > 2 ^ 48 := by
      rw [hbyt]
      have := Nat.le_trans (Nat.mul_le_mul_right (byt P elem) (nextcap_le (l + n) c (by omega))) hb
      omega
    simp only [hp_bind, hp_pure, hp_typeInfo hinfo, hp_ite]
    rw [if_neg (by rw [hbyt]; intro x; rcases x.2 with y | y <;> first | exact y | omega), if_neg hbound]
    show ∀ tp, _
    intro tp
    rw [if_neg (by simp [Question.forced])]
    obtain ⟨cap, hcp⟩ : ∃ cap, cap = (Question.appendCap (l + n) c elem).cut tp := ⟨_, rfl⟩
    have hcap2 : l + n ≤ cap := by rw [hcp]; simp [Question.cut]
    rw [← hcp]
    rw [show (Sem.pure cap : Sem Nat) = pure cap from rfl]
    simp only [hp_bind, hp_pure, hp_typeInfo hinfo, hp_askRoom]
    have old : ∀ (F : Array Value → Heap → Prop), F xs.toArray h → hp P (Builtin.firstCells (siz P elem) l (.slice a l c)) F h := by
      intro F k
      rcases hor with ⟨rfl, rfl⟩ | ⟨b, row, rfl, hb2, hrs, hrt⟩
      · have : l = 0 := by omega
        subst this
        have : xs = [] := by simpa using hl
        subst this; exact k
      · show hp P (loadCells ⟨b, 0, none⟩ (l * siz P elem)) F h
        refine hp_loadCellsFrom _ _ 0 [] F ?_
        rw [← hl]
        refine ldN_sees xs 0 [] _ (fun j v hj => ?_) (by simpa using k)
        rw [add_lit, cellAt_of hb2, Nat.zero_add, Nat.zero_add, ← Array.getElem?_toList]
        rw [← hrt, List.getElem?_take] at hj
        split at hj
        · exact hj
        · cases hj
    refine old _ ?_
    rw [hp_bind, if_pos (show (!false) = true from rfl)]
    refine first _ ?_
    simp only [hp_bind]
    simp only [hp_zeroValue hz]
    show K (.slice (some ⟨h.size, 0, none⟩) (l + n) cap) (h.push _)
    have hzc : (Builtin.zeroCells z.cells (cap - (l + n))).size = (cap - (l + n)) * siz P elem := by rw [zeroCells_size, hzs]
    refine H _ cap _ ⟨by simp [hl, hn, Nat.add_mul], hcap2, .inr ⟨h.size, _, rfl, push_new _ _, ?_, ?_⟩⟩ (by simp) (fun b hb' _ => push_old _ _ _ hb') (.inr rfl)
    · simp only [Array.size_append, hzc, List.size_toArray, hl, hn, ← Nat.add_mul]
      congr 1; omega
    · simp only [Array.toList_append, List.toList_toArray]
      rw [List.take_left' (by simp [hl, hn, Nat.add_mul])]

theorem there_byte : there Try.prog 5 = true := by kernel_rfl
theorem zer_byte : zer Try.prog 5 = some (.int .u8 0) := by kernel_rfl
theorem siz_byte : siz Try.prog 5 = 1 := by kernel_rfl
theorem byt_byte : byt Try.prog 5 = 1 := by kernel_rfl

/-- A builder at p that holds s. -/
def Bld (h : Heap) (p : Nat) (s : ByteArray) : Prop :=
  ∃ q a l c, h[p]? = some (.cells #[.pointer q, .slice a l c] 112) ∧ (q = none ∨ q = some ⟨p, 0, none⟩) ∧ Own h 5 1 a l c (bcs s) ∧ ∀ ad, a = some ad → p < ad.block
theorem Bld.keep {h h' : Heap} {p : Nat} {s : ByteArray} (H : Bld h p s) (o : ∀ b, p ≤ b → b < h.size → h'[b]? = h[b]?) : Bld h' p s := by
  obtain ⟨q, a, l, c, h1, h2, h3, h4⟩ := H
  exact ⟨q, a, l, c, (o p (Nat.le_refl _) (Array.getElem?_eq_some_iff.1 h1).1).trans h1, h2, h3.keep fun ad e => o _ (Nat.le_of_lt (h4 ad e)) (h3.lt ad e), h4⟩

theorem writeString_call {h : Heap} {p : Nat} {s x : ByteArray} {K : Value → Heap → Prop} (H : Bld h p s) (hx : s.size + x.size ≤ 2 ^ 30)
    (k : ∀ h', Bld h' p (s ++ x) → h.size ≤ h'.size → (∀ c, c < p → h'[c]? = h[c]?) → K (.tuple #[.int .i64 x.size, .nilIface]) h') :
    CallH Try.prog 99 #[.pointer (some ⟨p, 0, none⟩), .string x] h K := by
  refine call99 ?_
  unfold F99
  obtain ⟨q, a, l, c, h1, h2, h3, h4⟩ := H
  refine callV_fn (copyCheck_call h1 h2 fun h1' e1 s1 o1 => ?_)
  simp only [nilC, asPtr_some]
  refine ldR e1 rfl ?_
  simp only [asSlice_slice]
  have own1 : Own h1' 5 1 a l c (bcs s) := h3.keep fun ad e => o1 _ (by have := h4 ad e; omega)
  have hls : l = s.size := by have := h3.1; rw [bcs_len] at this; omega
  have hp1 : p < h1'.size := (Array.getElem?_eq_some_iff.1 e1).1
  refine appS_own (elem := 5) (z := .int .u8 0) (n := x.size) (xs := bcs s) (ys := bcs x) und_str rfl rfl und_bytes there_byte zer_byte (by rw [siz_byte]; rfl) (by rw [siz_byte]; exact own1) (by rw [siz_byte, bcs_len]; omega) ?_ (by rw [byt_byte]; omega) (by rw [byt_byte]; omega) ?_
  · intro y hy
    unfold bcs at hy
    obtain ⟨b, _, rfl⟩ := List.mem_map.1 hy
    exact trivial
  intro a' c' h8 own8 hs8 old8 hor
  rw [siz_byte] at own8
  simp only [asSlice_slice, nilC, asPtr_some]
  have e8 : h8[p]? = some (.cells #[.pointer (some ⟨p, 0, none⟩), .slice a l c] 112) := (old8 p hp1 (fun ad e => by have := h4 ad e; omega)).trans e1
  refine stR e8 rfl trivial fun h13 w => ?_
  have hge : ∀ ad, a' = some ad → p < ad.block := by
    intro ad e
    rcases hor with rfl | rfl
    · exact h4 ad e
    · cases e; exact hp1
  refine k h13 ⟨_, a', l + x.size, c', w.new, .inr rfl, ?_, hge⟩ (by rw [w.size]; omega) (fun b hb => ?_)
  · rw [bcs_append]
    exact own8.keep fun ad e => w.old _ (by have := hge ad e; show ad.block ≠ p; omega)
  · exact (w.old b (by show b ≠ p; omega)).trans ((old8 b (by omega) (fun ad e => by have := h4 ad e; omega)).trans (o1 b (by omega)))

theorem hp_loadBytes {P : Program} {h : Heap} : ∀ (l : List UInt8) (a : Addr) (acc : ByteArray) (F : ByteArray → Heap → Prop), (∀ (j : Nat) (x : UInt8), l[j]? = some x → cellAt h (a.add j) = some (.int .u8 x.toNat)) → F ⟨acc.data ++ l.toArray⟩ h → hp P (loadBytes a acc l.length) F h := by
  intro l
  induction l with
  | nil =>
    intro a acc F _ k
    have e : (⟨acc.data ++ ([] : List UInt8).toArray⟩ : ByteArray) = acc := by apply ByteArray.ext; simp
    rw [e] at k; exact k
  | cons x l ih =>
    intro a acc F hc k
    unfold List.length loadBytes
    rw [hp_bind]
    have h0 := hc 0 x rfl
    rw [add_zero] at h0
    simp only [load, hp, h0]
    show hp P (loadBytes (a.add 1) (acc.push (((x.toNat : Int).toNat).toUInt8)) l.length) F h
    have hx : ((x.toNat : Int).toNat).toUInt8 = x := by simp
    rw [hx]
    refine ih _ _ _ (fun j y hj => ?_) ?_
    · have := hc (j + 1) y (by simpa using hj)
      rw [add_add, Nat.add_comm 1 j]; exact this
    · have e : (⟨(acc.push x).data ++ l.toArray⟩ : ByteArray) = ⟨acc.data ++ (x :: l).toArray⟩ := by
        apply ByteArray.ext
        simp [ByteArray.push]
      rw [e]; exact k
theorem lies_bytes {P : Program} {e : TypeId} (hc : P.cellsOf e = 1) (count n : Nat) (hn : n ≤ count) : liesAt P P.depth e count 0 e n = true := by
  have hd : P.depth = (2 * (P.types.size + Made.depth) + 1) + 1 := rfl
  rw [hd]
  simp only [liesAt, Bool.or_eq_true]
  left
  rw [hd]
  simp [rowAt, hc, hn, sameLayout]
theorem cells_byte : Try.prog.cellsOf 5 = 1 := by kernel_rfl
theorem und_pbyte : und Try.prog 155 = .pointer 5 := by kernel_rfl

theorem string_call {h : Heap} {p : Nat} {s : ByteArray} {K : Value → Heap → Prop} (H : Bld h p s) (h0 : s.size ≠ 0) (hs : s.size < 2 ^ 60) (k : ∀ h', h'.size = h.size → (∀ c, c ≤ p → h'[c]? = h[c]?) → K (.string s) h') :
    CallH Try.prog 102 #[.pointer (some ⟨p, 0, none⟩)] h K := by
  refine call102 ?_
  unfold F102
  obtain ⟨q, a, l, c, h1, h2, h3, h4⟩ := H
  have hls : l = s.size := by have := h3.1; rw [bcs_len] at this; omega
  obtain ⟨g1, g2, g3⟩ := h3
  rcases g3 with ⟨rfl, hc0⟩ | ⟨b, row, rfl, hb, hrs, hrt⟩
  · omega
  have hbp : p < b := h4 _ rfl
  simp only [nilC, asPtr_some]
  refine ldR h1 rfl ?_
  simp only [asSlice_slice]
  refine ldR h1 rfl ?_
  simp only [asSlice_slice]
  have hu : ∀ {K : Value → Heap → Prop}, K (.pointer (some ⟨b, 0, none⟩)) h → usdH Try.prog #[110] 155 #[.slice (some ⟨b, 0, none⟩) l c] h K := by
    intro K kk
    obtain ⟨c', rfl⟩ : ∃ c', c = c' + 1 := ⟨c - 1, by omega⟩
    exact kk
  refine hu ?_
  simp only [asPtrO]
  refine ⟨?_, ?_⟩
  · rw [add_lit, cellAt_of h1]; rfl
  have hn0 : ¬ ((l : Nat) : Int) < 0 := by omega
  have hn1 : ¬ ((l : Nat) : Int) > IntKind.i64.max := by
    have e : IntKind.i64.max = 9223372036854775807 := by decide
    omega
  have hl0 : ¬ ((l : Nat) : Int) = 0 := by omega
  have hsh : shapeAt h b = some (5, row.size) := by unfold shapeAt; rw [hb]
  have hrow : row.size = c := by omega
  have eu : Builtin.unsafeString_ #[155, 3] 9 #[.pointer (some ⟨b, 0, none⟩), .int .i64 ((l : Nat) : Int)] = (do
      if ((l : Nat) : Int) < 0 then runtimePanic (.error "unsafe.String: len out of range")
      if ((l : Nat) : Int) > IntKind.i64.max then unsupported (.unsafePointer "String: a length above the largest int")
      if ((l : Nat) : Int) = 0 then pure (.string .empty)
      else if ← variablesAt ⟨b, 0, none⟩ (← elemOf 155) ((l : Nat) : Int).toNat then do
        let s ← loadBytes ⟨b, 0, none⟩ .empty ((l : Nat) : Int).toNat
        freeze ⟨b, 0, none⟩ ((l : Nat) : Int).toNat
        pure (.string s)
      else unsupported (.unsafePointer "String: not so many bytes at ptr")) := rfl
  unfold ustH
  rw [eu]
  simp only [hp_bind, hp_pure, if_neg hn0, if_neg hn1, if_neg hl0, Int.toNat_natCast, elemOf, hp_underlying (und_some und_pbyte (by simp)), variablesAt, hp_program, hp_shape, hsh, cells_byte, Nat.div_one, lies_bytes cells_byte row.size l (by omega), if_true]
  have hlen : l = s.data.toList.length := by rw [hls, Array.length_toList]; rfl
  have hload : ∀ {F : ByteArray → Heap → Prop}, F s h → hp Try.prog (loadBytes ⟨b, 0, none⟩ .empty l) F h := by
    intro F kk
    rw [hlen]
    refine hp_loadBytes _ _ _ _ (fun j x hj => ?_) ?_
    · rw [add_lit, cellAt_of hb, Nat.zero_add, ← Array.getElem?_toList]
      have hx : (bcs s)[j]? = some (.int .u8 x.toNat) := by unfold bcs; rw [List.getElem?_map, hj]; rfl
      rw [← hrt, List.getElem?_take] at hx
      split at hx
      · exact hx
      · cases hx
    · have e : (⟨ByteArray.empty.data ++ s.data.toList.toArray⟩ : ByteArray) = s := by
        apply ByteArray.ext; simp
      rw [e]; exact kk
  refine hload ?_
  show K (.string s) (freezeAt h ⟨b, 0, none⟩ l)
  refine k _ ?_ (fun x hx => ?_)
  · unfold freezeAt
    split
    · rfl
    · simp
  · unfold freezeAt
    split
    · rfl
    · rw [Array.getElem?_modify, if_neg (show ¬ (⟨b, 0, none⟩ : Addr).block = x from by show ¬ b = x; omega)]
end Go.Proofs.Ytgladmaagpcffaa
